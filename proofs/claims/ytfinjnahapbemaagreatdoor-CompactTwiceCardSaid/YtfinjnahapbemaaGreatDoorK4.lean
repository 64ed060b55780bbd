/- A program logic over the model, and what this program's functions do by it: part 4. No conditions: a library of lemmas. -/
import Derived.Test.YtfinjnahapbemaaGreatDoorK3
import Derived.Lib.AppendIntMem
import Derived.Shelf.LaysM
import Derived.Shelf.Small.Strs
import Derived.Shelf.Strconv.Itoa3
import Derived.Shelf.Strings.BuilderK
import Derived.Shelf.Strings.Count
import Derived.Shelf.Strings.OnBuilder
import Derived.Shelf.Strings.Repeat
import Derived.Shelf.Strings.Search3
import Derived.Sort.AssemblyPlain
import Derived.Sort.Defs
import Derived.Sort.LotA
import Derived.Test.YtfinjnahapbemaaGreatDoorChecked
open Nat (reduceEqDiff)
set_option linter.unusedSimpArgs false
set_option linter.unusedVariables false
set_option maxRecDepth 100000
open List renaming nil_append->Ya,set_cons_zero->Yb,nil_sublist->Yd,getElem?_eq_getElem->Ye,mem_cons_self->Yg,getD_eq_getElem?_getD->Yi,sublist_cons_self->Yj,cons_append->Yl,length_append->Yn,mem_cons->Yp,range->Yq,take_add_one->Ys,mem_cons_of_mem->Yt,mem_append->Yz,take_of_length_le->Y1,pairwise_cons->Y2,mem_map->Y3,mem_map_of_mem->Y6,take_append_drop->Y8,mem_of_getElem?->Y9,idxOf_lt_length_iff->Xc,take_length->Xe,length_map->Xh,length_singleton->Xi,drop_eq_getElem_cons->Xl,map_append->Xm,set_cons_succ->Xn,eraseIdx_cons_succ->Xq,eraseIdx_cons_zero->Xr,append_assoc->Xs,replicate->Xt,getElem_cons_zero->Xu,getElem_cons_succ->Xv,not_mem_nil->Xw,eq_nil_of_length_eq_zero->Xx,take_append_of_le_length->Xy,append->Xz,getElem_toArray->X0,append_nil->X2,perm_ext_iff_of_nodup->X5,getElem?_eq_some_iff->X7,foldl_append->X8,range'->X9,length_drop->Ub,any_eq_true->Uc,nodup_cons->Ug,mem_filter->Uh,mem_append_right->Ui,mem_append_left->Uj,mem_range->Ul,range_eq_range'->Um,flatten_append->Up,getElem?_range->Uq,pairwise_map->Us,nodup_append->Ut,filter_congr->Uw,flatMap_cons->Ux
open Go.Eng.CallK renaming mk->Yc
open Go.Proofs.Tryz renaming prog->Yf,underlying69->Yh,call171->Yk,call172->Yv,underlying290->Yx,underlying61->Yy,underlying55->Y0,call170->Xa,underlying9->Xk,underlying126->Xo,underlying223->X6,call133->Uv,call273->Uy,call261->Uz,call228->U0,call43->U2
open Go.Eng.Heap renaming start->Ym
open Go.Obj renaming cells->Yo
open Go.Eng.Res renaming row->Yr,blk->Xd,obj->Uu
open Go.Value renaming cells->Yu,oneCell'->Yw,int->X3,ownBlock->Uk
open Int renaming toNat_natCast->Y4,emod_eq_of_lt->Y5,toNat->Uo
open Nat renaming add_sub_cancel->Y7,zero_add->Xj,pow_pos->Ua,log2->Ud,shiftLeft_eq->Ue,pow_le_pow_right->Un,le_refl->U3
open UInt8 renaming ofNat->Xb,toNat_ofNat'->Ur
open Bool renaming and_eq_true->Xf,false_eq_true->Xp
open Go.IntKind renaming u64->Xg
open Go.Eng.I64 renaming mk->X1
open Option renaming toList_some->X4,map_eq_some_iff->Uf,getD_some->U1
namespace Go.Proofs.YtfinjnahapbemaaGreatDoor
open Go Go.Eng
set_option maxHeartbeats 1000000
theorem M8 {w:World}{g n:Nat}{l:List Mb} (h:RS w (some ⟨g,0,none⟩) n 5 (O4 l)) {i:Nat}{m:Mb} (hm:l[i]? = some m):Reads w ⟨g,i * 5,none⟩ (Ar m):=by
 have:=Mw (k:=5) QFc h rfl hm
 rwa [Sv,Xj] at this
theorem Lb {w w':World}{T sz n c:Nat}{a:OA}{xs:LV}{G:List Res} (h:(Yr T sz a n c xs).holds w) (hH:Heap w [] w' G):(Yr T sz a n c xs).holds w':=by
 refine Res.loc _ w w' (fun b hb=>hH.upd.block b ?_ (by simp)) h;obtain ⟨_,_,_,h4⟩:=h;rcases h4 with ⟨rfl,_⟩ | ⟨g,rest,fz,rfl,hg,_⟩
 ·
  cases hb
 simp [Yr] at hb;subst hb;exact (Array.getElem?_eq_some_iff.1 hg).1
theorem Qom (l:List Mb) (a:OA) (c:Nat) (w:World) (hl:RS w a l.length 5 (O4 l)) (hlen:l.length<=1000000000) :
  Does Yf 42 #[.slice a l.length c] w fun v w'=>∃ a' c',v=.slice a' l.length c'/\Heap w [] w' [Dw a' c' l]:=by
 refine En [.slice a l.length c] 8 Tryz.func42 ?_;refine VS [0] ?_;cases a with
 | none =>
  obtain rfl:l=[]:=Xx (hl.2.1 rfl);refine VQ [0,4] fun K hK=>?_;rw [Q1 Y0];apply hK;clear hK;refine Ai rfl rfl (fun h=>?_) (fun h=>by simp at h);refine VS [2] ?_;exact Ae (Al rfl rfl ⟨none,0,rfl,Sq⟩)
 | some p =>
  refine VQ [0,4] fun K hK=>?_;rw [Q1 Y0];apply hK;clear hK;refine Ai rfl rfl (fun h=>by simp at h) (fun h=>Ad ?_);refine VQ [2] fun K hK=>?_;refine Zw (Ym w) 5 Y0 QLj (z:=.agg #[.string ⟨#[]⟩,.int .i64 0,.int .i64 0,.int .i64 0,.int .u32 0]) (by kernel_rfl) rfl fun g w1 hH=>?_;refine Qs ?_;refine Ce ?_;refine Qs ?_;refine C3 (zs:=#[.string ⟨#[]⟩,.int .i64 0,.int .i64 0,.int .i64 0,.int .u32 0]) (bytes:=48) hH 0 rfl Y0 (by kernel_rfl) rfl (m:=l.length) (news:=O4 l) ⟨rfl,hH.rs' hl,54,Y0⟩ (Qzl l) (fun h=>by omega) fun a' cap' w2 hc' hH2=>?_;simp only [Yb,Ya,Xj] at hH2;rw [Xj];apply hK;clear hK;exact Ae (Al rfl rfl ⟨_,_,rfl,hH2⟩)
abbrev MbO:=Il Mb.ok
instance:Inhabited MbO:=⟨⟨⟨[],30,1,0,0⟩,by constructor <;> decide⟩⟩
theorem Qzn (x y:MbO) (w:World):Does Yf 56 #[Ik x.1,Ik y.1] w fun v w'=>v=.int .i64 (x.1.s - y.1.s)/\Heap w [] w' []/\w'.drawn=w.drawn:=by
 refine En [Ik x.1,Ik y.1] 10 Tryz.func56 ?_;refine VQ [2,3] fun K hK=>?_;refine Dl ?_;refine Qs ?_;have hH:=(Ym w).box 54 (Ar x.1);have hD:(w.alloc (Yo (Ar x.1).toArray 54)).drawn=w.drawn:=rfl;generalize w.alloc (Yo (Ar x.1).toArray 54)=w1 at *;generalize w.heap.size=ga at *;refine Dl ?_;refine Qs ?_;have hH2:=hH.box 54 (Ar y.1);have hD2:(w1.alloc (Yo (Ar y.1).toArray 54)).drawn=w1.drawn:=rfl;generalize w1.alloc (Yo (Ar y.1).toArray 54)=w2 at *;generalize w1.heap.size=gb at *;clear hH;apply hK;clear hK;refine VQ [4] fun K hK=>?_;refine ⟨_,Af (hH2.at 1 rfl) rfl,_,Af (hH2.at 0 rfl) rfl,?_⟩;refine Qs ?_;have q1:=x.2;have q2:=y.2;obtain ⟨_,x1,x2,x3,x4,_⟩:=q1;obtain ⟨_,y1,y2,y3,y4,_⟩:=q2;(repeat first | refine Qo ?_ | refine Qp ?_);apply hK;clear hK;exact Ae (Al rfl rfl ⟨rfl,hH2.sub (Yd _),hD2.trans hD⟩)
abbrev Wz:=Il Mb.fit
instance:Inhabited Wz:=⟨⟨⟨[],0,0,0,0⟩,by constructor <;> decide⟩⟩
theorem Qzo (x y:Wz) (w:World):Does Yf 64 #[Ik x.1,Ik y.1] w fun v w'=>v=.int .i64 (Rl x.1.p y.1.p)/\Heap w [] w' []/\w'.drawn=w.drawn:=by
 refine En [Ik x.1,Ik y.1] 10 Tryz.func64 ?_;refine VQ [2,3] fun K hK=>?_;refine Dl ?_;refine Qs ?_;have hH:=(Ym w).box 54 (Ar x.1);have hD:(w.alloc (Yo (Ar x.1).toArray 54)).drawn=w.drawn:=rfl;generalize w.alloc (Yo (Ar x.1).toArray 54)=w1 at *;generalize w.heap.size=ga at *;refine Dl ?_;refine Qs ?_;have hH2:=hH.box 54 (Ar y.1);have hD2:(w1.alloc (Yo (Ar y.1).toArray 54)).drawn=w1.drawn:=rfl;generalize w1.alloc (Yo (Ar y.1).toArray 54)=w2 at *;generalize w1.heap.size=gb at *;clear hH;apply hK;clear hK;refine VQ [4] fun K hK=>?_;refine ⟨_,Af (hH2.at 1 rfl) rfl,_,Af (hH2.at 0 rfl) rfl,?_⟩;refine Aa Tryz.call65 ?_;refine Qs ?_;refine Yc (Qd9 x.1.p y.1.p w2 (by have:=x.2.p;omega) (by have:=y.2.p;omega)) ?_;rintro v w3 ⟨hH3,rfl,hD3⟩;apply hK;clear hK;exact Ae (Al rfl rfl ⟨rfl,(hH2.call0 hH3).sub (Yd _),hD3.trans (hD2.trans hD)⟩)
theorem QS7:Sort.SWO (Go.Proofs.ltOf fun x y:MbO=>x.1.s - y.1.s) where
 irrefl x:=by simp [Go.Proofs.ltOf]
 trans x y z h1 h2:=by simp only [Go.Proofs.ltOf,decide_eq_true_eq] at *;omega
 ntrans x y z h1 h2:=by simp only [Go.Proofs.ltOf,decide_eq_false_iff_not] at *;omega
theorem ltF (x y:Wz):Go.Proofs.ltOf (fun x y:Wz=>Rl x.1.p y.1.p) x y=decide (Bq x.1.p < Bq y.1.p):=by
 simp only [Go.Proofs.ltOf,Rl];exact decide_eq_decide.2 QE9
theorem QS8:Sort.SWO (Go.Proofs.ltOf fun x y:Wz=>Rl x.1.p y.1.p) where
 irrefl x:=by rw [ltF];simp [List.lt_irrefl]
 trans x y z h1 h2:=by
  rw [ltF,decide_eq_true_eq] at *;exact List.lt_trans h1 h2
 ntrans x y z h1 h2:=by
  rw [ltF,decide_eq_false_iff_not] at *;exact fun h=>absurd (List.le_trans (List.not_lt.1 h2) (List.not_lt.1 h1)) (List.not_le.2 h)
theorem Qon (m:Mb) (gp:Nat) (p:Bs) (w:World) (hp:w.cell? ⟨gp,0,none⟩=some (Ab p)):Does Yf 69 #[Ik m,pV gp] w fun v w'=>v=.bool (decide (m.p=p))/\Heap w [] w' []:=by
 refine En [Ik m,pV gp] 8 Tryz.func69 ?_;refine VQ [1,2] fun K hK=>?_;refine Iq (Ym w) (Ar m) ?_;refine Qs ?_;refine ⟨trivial,fun g w1 hH1=>?_⟩;apply hK;clear hK;refine VQ [3] fun K hK=>?_;refine ⟨_,Af (hH1.at 0 rfl) rfl,_,hH1.ext.cell hp,?_⟩;refine Qs ?_;apply hK;clear hK;exact Ae (Al rfl rfl ⟨rfl,hH1.sub (Yj _ _)⟩)
abbrev QA5 (gp:Nat):Value:=.func (.func 69) #[] #[pV gp]
theorem Qr1 (l:List Mb) (a:OA) (c:Nat) (gp:Nat) (p:Bs) (w:World) (hl:(Dw a c l).holds w) (hlen:l.length<=1000000000) (hp:w.cell? ⟨gp,0,none⟩=some (Ab p)) :
  Does Yf 68 #[.slice a l.length c,QA5 gp] w fun v w'=>Heap w [] w' []/\(v=.int .i64 (-1)/\(∀ m∈l,m.p≠p)∨∃ (j:Nat) (m:Mb),l[j]? = some m/\m.p=p/\v=.int .i64 j):=by
 refine En [.slice a l.length c,QA5 gp] 19 Tryz.func68 ?_;refine VS [0,1] ?_;refine VS [0,1,7,8] ?_;refine Aq ?_;refine Ay [0,1,7,8] (fun m e w'=>∃ (i:Nat),Is e [(0,.slice a l.length c),(1,QA5 gp),(7,.int .i64 l.length),(8,.int .i64 i)]/\Heap w [] w' []/\(∀ m∈l.take i,m.p≠p)/\i<=l.length/\m=l.length - i) l.length ?_ ?_
 ·
  refine Qs ?_;exact ⟨0,rfl,Ym w,by simp,by omega,rfl⟩
 rintro m e w1 ⟨i,rfl,hH,hno,hi,rfl⟩;refine VS [0,1,7,8,9] ?_;(repeat refine Aw ?_);refine VD (fun h=>?_) (fun h=>?_)
 ·
  refine Ad ?_;refine VB ?_;obtain ⟨m,hm⟩:∃ m,l[i]? = some m:=⟨_,Ye (show i < l.length by omega)⟩;have hl1:=Lb hl hH;obtain ⟨g,rfl⟩:=Cw hl1 (by omega);have hrd:=M8 (As hl1) hm;refine VS [0,1,5,7,8] ?_;refine VQ [0,1,5,7,8,16] fun K hK=>?_;refine ⟨⟨by omega,by omega⟩,Ar m,⟨rfl,hrd⟩,?_⟩;refine Er ?_;refine Qs ?_;refine FnK.mk Tryz.call69 (Qon m gp p w1 (hH.ext.cell hp)) ?_;rintro v w2 ⟨rfl,hHf⟩;have hH2:=hH.call0 hHf;apply hK;clear hK;refine Ai rfl rfl (fun h2=>?_) (fun h2=>Ad ?_)
  ·
   simp only [decide_eq_true_eq] at h2;refine VS [4] ?_;exact Ae (Al rfl rfl ⟨hH2,.inr ⟨i,m,hm,h2,rfl⟩⟩)
  refine An ?_;refine VS [0,1,7,8] ?_;refine Ah ?_;refine Qs ?_;simp only [decide_eq_false_iff_not] at h2;exact ⟨l.length - (i+1),by omega,i+1,rfl,hH2,by rw [Ys,hm];exact fun z hz=>(Yz.1 hz).elim (hno z) fun hz=>by simp at hz;rw [hz];exact h2,by omega,rfl⟩
 refine Ax rfl ?_;refine VS [4] ?_;exact Ae (Al rfl rfl ⟨hH,.inl ⟨rfl,by rw [Y1 (by omega)] at hno;exact hno⟩⟩)
def CkV (cap:Int) (l:List Ex) (n:Int):Prop:=(1<=cap/\cap<=4096/\May cap l)/\n=0∨¬ (1<=cap/\cap<=4096/\May cap l)/\n=220
theorem Vd (l:List Ex) (a:OA) (c:Nat) (cap:Int) (w:World) (hl:RS w a l.length 2 (C5 l)) (hlen:l.length<=8796093022208) (hok:∀ x∈l,Kg x) (hcap:I64 cap) :
  Does Yf 43 #[.slice a l.length c,.int .i64 cap] w fun v w'=>Heap w [] w' []/\∃ n:Int,v=.int .i64 n/\CkV cap l n:=by
 refine En [.slice a l.length c,.int .i64 cap] 51 Tryz.func43 ?_;refine VS [0,1] ?_;refine VQ [0,1,13] fun K hK=>?_
 suffices out:∀ b:Bool,(b=true ↔ (cap < 1∨4096 < cap))->K [(0,.slice a l.length c),(1,.int .i64 cap),(13,.bool b)] w by (repeat' (first | exact out _ _ (by first | omega | (simp;done) | (simp;omega)) | exact out _ (by first | omega | (simp;done) | (simp;omega)) | refine ⟨fun _=>?_,fun _=>?_⟩ | refine Qo ?_))
 intro b hb;apply hK;clear hK;refine Vi (fun h=>?_) (fun h=>Ad ?_)
 ·
  refine VS [4] ?_;have:=hb.1 h;exact Ae (Al rfl rfl ⟨Ym w,_,rfl,.inr ⟨by omega,rfl⟩⟩)
 have hg:¬ (cap < 1∨4096 < cap):=fun h2=>by have:=hb.2 h2;simp_all
 clear hb h;refine VS [0,1,5] ?_;refine VQ [1,5,15,16,17] fun K hK=>?_;refine Aa Tryz.call71 ?_;refine Qs ?_;refine Yc (Qfb l a c w hl hlen hok) ?_;rintro v w2 ⟨T,a',c',hp,hs,rfl,hH⟩;refine Qs ?_;apply hK;clear hK;have hTl:=hp.length_eq;have hTok:∀ x∈T,Kg x:=fun x hx=>hok x (hp.mem_iff.1 hx);have hspec:=Qzm (cap:=cap) hp hs;refine VB ?_;refine Ay [1,5,15,16,17] (fun m e w'=>∃ (i:Nat) (at_:Int),Is e [(1,.int .i64 cap),(5,.int .i64 at_),(15,.slice a' T.length c'),(16,.int .i64 T.length),(17,.int .i64 i)]/\Heap w [] w' [Yr 64 2 a' T.length c' (C5 T)]/\O1 cap 30 T=O1 cap at_ (T.drop i)/\(30<=at_/\at_<=8192)/\i<=T.length/\m=T.length - i) T.length ?_ ?_
 ·
  refine Qs ?_;exact ⟨0,30,rfl,hH,rfl,by omega,by omega,rfl⟩
 clear hH;rintro m e w3 ⟨i,at_,rfl,hH,hgo,hat,hi,rfl⟩;refine VS [1,5,15,16,17,18] ?_;(repeat refine Aw ?_);refine VD (fun h=>?_) (fun h=>?_)
 ·
  refine Ad ?_;refine VB ?_;have hi':i < T.length:=by omega
  obtain ⟨x,hx⟩:∃ x,T[i]? = some x:=⟨_,Ye hi'⟩
  have hdr:T.drop i=x::T.drop (i+1):=by
   rw [Xl hi'];congr 1;rw [Ye hi'] at hx;exact Option.some.inj hx
  rw [hdr,O1] at hgo;obtain ⟨hx1,hx2⟩:=hTok x (Y9 hx);obtain ⟨g,rfl⟩:=Cw (hH.at 0 rfl) (by omega);have hrd:=Mw (k:=2) Qdk (As (hH.at 0 rfl)) rfl hx;rw [Sv,Xj] at hrd;refine VQ [1,5,7,15,16,17] fun K hK=>?_;refine ⟨⟨by omega,by omega⟩,Bx x,⟨rfl,hrd⟩,?_⟩;refine Bo (.agg #[.int .i64 0,.int .i64 0]) (by kernel_rfl) ?_;refine Qs ?_;have hH1:=hH.box 64 [.int .i64 0,.int .i64 0];generalize w3.alloc (Yo [X3 .i64 0,.int .i64 0].toArray 64)=w4 at *;generalize w3.heap.size=gb at *;refine Ag ?_;refine Qs ?_;refine Ap hH1 0 (vs:=Bx x) rfl rfl (by kernel_rfl) (by simp [Bx]) (La x) fun w5 hH2=>?_;have hH2:Heap w [] w5 [Xd gb 64 (Bx x),Yr 64 2 (some ⟨g,0,none⟩) T.length c' (C5 T)]:=hH2;clear hH1 hH;apply hK;clear hK;have c1:w5.cell? ⟨gb,0,none⟩=some (.int .i64 x.1):=Af (hH2.at 0 rfl) rfl;have c2:w5.cell? ⟨gb,1,none⟩=some (.int .i64 x.2):=Af (hH2.at 0 rfl) rfl;refine VQ [1,7,15,16,17,44] fun K hK=>?_
  suffices out:∀ b:Bool,(b=true ↔ (x.1 < at_∨x.2 < 1∨cap < x.1∨cap - x.1 < x.2))->K [(1,.int .i64 cap),(7,.pointer (some ⟨gb,0,none⟩)),(15,.slice (some ⟨g,0,none⟩) T.length c'),(16,.int .i64 T.length),(17,.int .i64 i),(44,.bool b)] w5 by
   refine ⟨_,c1,?_⟩;refine Qs ?_;refine ⟨fun h1=>?_,fun h1=>?_⟩
   ·
    refine ⟨_,c2,?_⟩;refine Qs ?_;refine ⟨fun h2=>?_,fun h2=>?_⟩
    ·
     refine ⟨_,c1,?_⟩;refine Qs ?_;refine ⟨fun h3=>?_,fun h3=>?_⟩
     ·
      refine ⟨_,c2,_,c1,?_⟩;refine Qs ?_;refine ⟨X1 (by omega) (by omega),?_⟩;(repeat' (first | exact out _ _ (by first | omega | (simp;done) | (simp;omega)) | exact out _ (by first | omega | (simp;done) | (simp;omega)) | refine ⟨fun _=>?_,fun _=>?_⟩ | refine Qo ?_))
     (repeat' (first | exact out _ _ (by first | omega | (simp;done) | (simp;omega)) | exact out _ (by first | omega | (simp;done) | (simp;omega)) | refine ⟨fun _=>?_,fun _=>?_⟩ | refine Qo ?_))
    (repeat' (first | exact out _ _ (by first | omega | (simp;done) | (simp;omega)) | exact out _ (by first | omega | (simp;done) | (simp;omega)) | refine ⟨fun _=>?_,fun _=>?_⟩ | refine Qo ?_))
   (repeat' (first | exact out _ _ (by first | omega | (simp;done) | (simp;omega)) | exact out _ (by first | omega | (simp;done) | (simp;omega)) | refine ⟨fun _=>?_,fun _=>?_⟩ | refine Qo ?_))
  intro b hb;apply hK;clear hK;refine Vi (fun h=>?_) (fun h=>Ad ?_)
  ·
   rw [if_pos (hb.1 h)] at hgo;refine VS [4] ?_;refine Ae (Al rfl rfl ⟨hH2.sub (Yd _),_,rfl,.inr ⟨fun hm=>?_,rfl⟩⟩);rw [hspec.2 hm.2.2] at hgo;cases hgo
  have hgx:¬ (x.1 < at_∨x.2 < 1∨cap < x.1∨cap - x.1 < x.2):=fun h2=>by have:=hb.2 h2;simp_all
  rw [if_neg hgx] at hgo;clear hb h;refine VQ [1,5,15,16,17] fun K hK=>?_;refine ⟨_,c1,_,c2,?_⟩;refine Qs ?_;refine ⟨X1 (by omega) (by omega),?_⟩;apply hK;clear hK;refine An ?_;refine VS [1,5,15,16,17] ?_;refine Ah ?_;refine Qs ?_;exact ⟨T.length - (i+1),by omega,i+1,_,rfl,hH2.sub (Yj _ _),hgo,by omega,by omega,rfl⟩
 obtain rfl:i=T.length:=by omega
 rw [List.drop_length,O1] at hgo;refine Ax rfl ?_;refine VS [4] ?_;refine Ae (Al rfl rfl ⟨hH.sub (Yd _),_,rfl,.inl ⟨⟨by omega,by omega,hspec.1 hgo⟩,rfl⟩⟩)
theorem add_add (p:Addr) (k j:Nat):(p.add k).add j=p.add (k+j):=by
 unfold Addr.add;by_cases h1:k=0 <;> by_cases h2:j=0 <;> simp_all <;> omega
theorem QK8 {w:World}{p:Addr}{n:Nat}{l:List Ex} (h:RS w (some p) n 2 (C5 l)) {i:Nat}{x:Ex} (hx:l[i]? = some x):Reads w (p.add (i * 2)) (Bx x):=by
 intro j u hu;rw [add_add];exact h.2.2 p rfl _ u (Vk (k:=2) Qdk l i x hx j u hu)
def P9 (l:List Ex):Int:=l.foldl (fun m x=>max m (x.1+x.2)) 30
theorem Qt2 {l:List Ex} (h:∀ x∈l,x.1+x.2<=4096):30<=P9 l/\P9 l<=4096:=by
 have:∀ (l:List Ex) (m:Int),30<=m->m<=4096->(∀ x∈l,x.1+x.2<=4096)->30<=l.foldl (fun m x=>max m (x.1+x.2)) m/\l.foldl (fun m x=>max m (x.1+x.2)) m<=4096:=by
  intro l
  induction l with
  | nil=>intro m h1 h2 _;exact ⟨h1,h2⟩
  | cons x l ih =>
   intro m h1 h2 h3;have:=h3 x Yg;exact ih (max m (x.1+x.2)) (by omega) (by omega) fun y hy=>h3 y (Yt _ hy)
 exact this l 30 (by omega) (by omega) h
theorem Qzp (l:List Ex) (a:OA) (c:Nat) (w:World) (hl:RS w a l.length 2 (C5 l)) (hlen:l.length<=8796093022208) (hok:∀ x∈l,Kg x) :
  Does Yf 58 #[.slice a l.length c] w fun v w'=>Heap w [] w' []/\∃ n:Int,v=.int .i64 n/\(May 4096 l/\n=P9 l∨¬ May 4096 l/\n=30):=by
 refine En [.slice a l.length c] 25 Tryz.func58 ?_;refine VS [0] ?_;refine VS [0,3] ?_;refine VQ [0,3,8] fun K hK=>?_;refine Aa U2 ?_;refine Qs ?_;refine Yc (Vd l a c 4096 w hl hlen hok (by unfold I64;omega)) ?_;rintro v w2 ⟨hH,n,rfl,hck⟩;refine Qs ?_;apply hK;clear hK;refine Vi (fun h=>?_) (fun h=>Ad ?_)
 ·
  simp only [decide_eq_true_eq] at h;refine VS [2] ?_;refine Ae (Al rfl rfl ⟨hH,_,rfl,.inr ⟨fun hm=>?_,rfl⟩⟩);rcases hck with ⟨_,h2⟩ | ⟨h2,_⟩
  ·
   exact h h2
  exact h2 ⟨by omega,by omega,hm⟩
 simp only [decide_eq_false_iff_not,Decidable.not_not] at h
 have hm:May 4096 l:=by
  rcases hck with ⟨h2,_⟩ | ⟨_,h2⟩
  ·
   exact h2.2.2
  omega
 clear hck h;refine VS [3,10,11,12] ?_;refine VB ?_;refine Ay [3,10,11,12] (fun m e w'=>∃ (i:Nat),Is e [(3,.int .i64 (P9 (l.take i))),(10,.slice a l.length c),(11,.int .i64 l.length),(12,.int .i64 i)]/\Heap w [] w' []/\i<=l.length/\m=l.length - i) l.length ?_ ?_
 ·
  refine Qs ?_;exact ⟨0,rfl,hH,by omega,rfl⟩
 clear hH;rintro m e w3 ⟨i,rfl,hH,hi,rfl⟩;refine VS [3,10,11,12,13] ?_;(repeat refine Aw ?_);refine VD (fun h=>?_) (fun h=>?_)
 ·
  refine Ad ?_;refine VB ?_;have hi':i < l.length:=by omega
  obtain ⟨x,hx⟩:∃ x,l[i]? = some x:=⟨_,Ye hi'⟩;obtain ⟨p,rfl⟩:=Ek hl (by omega);have hrd:=QK8 (hH.rs' hl) hx
  have htk:P9 (l.take (i+1))=max (P9 (l.take i)) (x.1+x.2):=by
   unfold P9;rw [Ys,hx,X4,X8];rfl
  obtain ⟨m1,m2,m3⟩:=hm.1 x (Y9 hx);obtain ⟨b1,b2⟩:=Qt2 (l:=l.take i) fun y hy=>(hm.1 y (List.mem_of_mem_take hy)).2.2;refine VQ [3,5,10,11,12] fun K hK=>?_;refine ⟨⟨by omega,by omega⟩,Bx x,⟨rfl,hrd⟩,?_⟩;refine Bo (.agg #[.int .i64 0,.int .i64 0]) (by kernel_rfl) ?_;refine Qs ?_;have hH1:=hH.box 64 [.int .i64 0,.int .i64 0];generalize w3.alloc (Yo [X3 .i64 0,.int .i64 0].toArray 64)=w4 at *;generalize w3.heap.size=gb at *;refine Ag ?_;refine Qs ?_;refine Ap hH1 0 (vs:=Bx x) rfl rfl (by kernel_rfl) (by simp [Bx]) (La x) fun w5 hH2=>?_;have hH2:Heap w [] w5 [Xd gb 64 (Bx x)]:=hH2;clear hH1 hH;apply hK;clear hK;have c1:w5.cell? ⟨gb,0,none⟩=some (.int .i64 x.1):=Af (hH2.at 0 rfl) rfl;have c2:w5.cell? ⟨gb,1,none⟩=some (.int .i64 x.2):=Af (hH2.at 0 rfl) rfl;refine VQ [3,10,11,12] fun K hK=>?_;refine ⟨_,c1,_,c2,?_⟩;refine Qs ?_;refine ⟨X1 (by omega) (by omega),?_⟩;apply hK;clear hK;refine An ?_;refine VS [3,10,11,12] ?_;refine Ah ?_;refine Qs ?_;exact ⟨l.length - (i+1),by omega,i+1,by rw [htk];rfl,hH2.sub (Yd _),by omega,rfl⟩
 obtain rfl:i=l.length:=by omega
 rw [Xe];refine Ax rfl ?_;refine VS [2] ?_;refine Ae (Al rfl rfl ⟨hH,_,rfl,.inl ⟨hm,rfl⟩⟩)
def Ds (at_:Int) (out:List Ex):List Ex->Int×List Ex
 | []=>(at_,out)
 | x::l=>Ds (x.1+x.2) (if at_ < x.1 then out++[(at_,x.1 - at_)] else out) l
def Fr (cap:Int) (T:List Ex):List Ex:=(Ds 30 [] (T++[(max cap 30,0)])).2
theorem Qjl (T U:List Ex):∀ (at_:Int) (out:List Ex),Ds at_ out (T++U)=Ds (Ds at_ out T).1 (Ds at_ out T).2 U:=by
 induction T with
 | nil=>intro at_ out;rfl
 | cons x T ih=>intro at_ out;simp only [Yl,Ds];exact ih _ _
theorem Sa (l m:List Ex):C5 (l++m)=C5 l++C5 m:=R9 l m
theorem Sh (x:Ex):C5 [x]=Bx x:=Vj x
theorem Qce {cap:Int}{T:List Ex} (h:May cap T) {x:Ex} (hx:x∈T++[(max cap 30,0)]):30<=x.1/\0<=x.2/\x.1+x.2<=max cap 30:=by
 rcases Yz.1 hx with hx | hx
 ·
  obtain ⟨h1,h2,h3⟩:=h.1 x hx;omega
 simp at hx;subst hx;simp only;omega
theorem Qwa (l:List Ex) (a:OA) (c:Nat) (cap:Int) (w:World) (hl:RS w a l.length 2 (C5 l)) (hlen:l.length<=1000000000) (hok:∀ x∈l,Kg x) (hcap:I64 cap) :
  Does Yf 57 #[.slice a l.length c,.int .i64 cap] w fun v w' =>
   (¬ (1<=cap/\cap<=4096/\May cap l)/\v=.tuple #[.slice none 0 0,.int .i64 220]/\Heap w [] w' []) ∨
   ((1<=cap/\cap<=4096/\May cap l)/\∃ (T:List Ex) (a':OA) (c':Nat),T.Perm l/\Oq T/\v=.tuple #[.slice a' (Fr cap T).length c',.int .i64 0]/\Heap w [] w' [Yr 64 2 a' (Fr cap T).length c' (C5 (Fr cap T))]):=by
 refine En [.slice a l.length c,.int .i64 cap] 49 Tryz.func57 ?_;refine VS [0,1] ?_;refine VQ [0,1,6] fun K hK=>?_;refine Aa U2 ?_;refine Qs ?_;refine Yc (Vd l a c cap w hl (by omega) hok hcap) ?_;rintro v w2 ⟨hH,n,rfl,hck⟩;apply hK;clear hK;refine VS [0,1,6,15] ?_;refine Vi (fun h=>?_) (fun h=>Ad ?_)
 ·
  simp only [decide_eq_true_eq] at h
  obtain ⟨h1,rfl⟩:¬ (1<=cap/\cap<=4096/\May cap l)/\n=220:=by
   rcases hck with ⟨_,h2⟩ | h2
   ·
    exact absurd h2 h
   exact h2
  refine VS [4,5] ?_;exact Ae (Bp rfl rfl rfl (.inl ⟨h1,rfl,hH⟩))
 simp only [decide_eq_false_iff_not,Decidable.not_not] at h
 have hmc:1<=cap/\cap<=4096/\May cap l:=by
  rcases hck with ⟨h2,_⟩ | ⟨_,h2⟩
  ·
   exact h2
  omega
 obtain ⟨hc1,hc2,hm⟩:=id hmc;clear hck h;refine VS [0,1,7] ?_;refine VS [0,1,7,8] ?_;refine VQ [7,8,23,24,25] fun K hK=>?_;refine Aa Tryz.call71 ?_;refine Qs ?_;refine Yc (Qfb l a c w2 (hH.rs' hl) (by omega) hok) ?_;rintro v w3 ⟨T,a',c',hp,hs,rfl,hH2⟩;have hH3:=hH.call0 hH2;clear hH hH2;have hTl:=hp.length_eq;refine C2 hH3 2 (Bx (max cap 30,0)) (xs:=[.tmp 21]) Yy N6 rfl rfl rfl (by omega) (by omega) ?_;refine Qs ?_;refine ⟨rfl,by simp [Yu],fun g w4 hH4=>?_⟩;refine Ce ?_;refine Qs ?_;refine C3 (zs:=#[.int .i64 0,.int .i64 0]) (bytes:=16) hH4 1 rfl Yy (by kernel_rfl) rfl ⟨rfl,As (hH4.at 0 rfl),64,Yy⟩ (La _) (fun h=>by omega) fun a2 c2 w5 hc' hH5=>?_;simp only [Xn,Yb] at hH5;refine Qs ?_;apply hK;clear hK;obtain ⟨U,hU⟩:∃ U,U=T++[(max cap 30,(0:Int))]:=⟨_,rfl⟩;have hUl:U.length=T.length+1:=by rw [hU];simp
 have hmT:May cap T:=(Vu hp).2 hm;have hbd:∀ x∈U,30<=x.1/\0<=x.2/\x.1+x.2<=max cap 30:=fun x hx=>Qce hmT (hU ▸ hx);have hcm:max cap 30<=4096:=by omega
 have hfr:Fr cap T=(Ds 30 [] U).2:=by rw [hU];rfl
 have hH6:Heap w [] w5 [Yr 64 2 a2 U.length c2 (C5 U)]:=by
  rw [hUl,hU,Sa,Sh];exact hH5.sub (Yj _ _)
 rw [<- hUl];clear hH5 hH4 hH3;refine VB ?_
 refine Ay [7,8,23,24,25] (fun m e w'=>∃ (i:Nat) (ao:OA) (co:Nat),Is e [(7,.slice ao (Ds 30 [] (U.take i)).2.length co),(8,.int .i64 (Ds 30 [] (U.take i)).1),(23,.slice a2 U.length c2),(24,.int .i64 U.length),(25,.int .i64 i)] /\
  Heap w [] w' [Yr 64 2 ao (Ds 30 [] (U.take i)).2.length co (C5 (Ds 30 [] (U.take i)).2),Yr 64 2 a2 U.length c2 (C5 U)]/\(0<=(Ds 30 [] (U.take i)).1/\(Ds 30 [] (U.take i)).1<=4096)/\(Ds 30 [] (U.take i)).2.length<=i/\i<=U.length/\m=U.length - i) U.length ?_ ?_
 ·
  refine Qs ?_;refine ⟨0,none,0,rfl,hH6.nilRow _ _,⟨by simp [Ds],by simp [Ds]⟩,by simp [Ds],by omega,rfl⟩
 clear hH6;rintro m e w6 ⟨i,ao,co,rfl,hH,hat,hol,hi,rfl⟩;refine VS [7,8,23,24,25,26] ?_;(repeat refine Aw ?_);refine VD (fun h=>?_) (fun h=>?_)
 ·
  refine Ad ?_;refine VB ?_;have hi':i < U.length:=by omega
  obtain ⟨x,hx⟩:∃ x,U[i]? = some x:=⟨_,Ye hi'⟩;obtain ⟨b1,b2,b3⟩:=hbd x (Y9 hx)
  have htk:Ds 30 [] (U.take (i+1))=(x.1+x.2,if (Ds 30 [] (U.take i)).1 < x.1 then (Ds 30 [] (U.take i)).2++[((Ds 30 [] (U.take i)).1,x.1 - (Ds 30 [] (U.take i)).1)] else (Ds 30 [] (U.take i)).2):=by
   rw [Ys,hx,X4,Qjl];rfl
  generalize (Ds 30 [] (U.take i)).1=at_ at *;generalize (Ds 30 [] (U.take i)).2=O at *;obtain ⟨g,rfl⟩:=Cw (hH.at 1 rfl) (by omega);have hrd:=Mw (k:=2) Qdk (As (hH.at 1 rfl)) rfl hx;rw [Sv,Xj] at hrd;refine VQ [7,8,10,23,24,25] fun K hK=>?_;refine ⟨⟨by omega,by omega⟩,Bx x,⟨rfl,hrd⟩,?_⟩;refine Bo (.agg #[.int .i64 0,.int .i64 0]) (by kernel_rfl) ?_;refine Qs ?_;have hH1:=hH.box 64 [.int .i64 0,.int .i64 0];generalize w6.alloc (Yo [X3 .i64 0,.int .i64 0].toArray 64)=w7 at *;generalize w6.heap.size=gb at *;refine Ag ?_;refine Qs ?_;refine Ap hH1 0 (vs:=Bx x) rfl rfl (by kernel_rfl) (by simp [Bx]) (La x) fun w8 hH2=>?_;have hH2:Heap w [] w8 [Xd gb 64 (Bx x),Yr 64 2 ao O.length co (C5 O),Yr 64 2 (some ⟨g,0,none⟩) U.length c2 (C5 U)]:=hH2;clear hH1 hH;apply hK;clear hK;have c1:w8.cell? ⟨gb,0,none⟩=some (.int .i64 x.1):=Af (hH2.at 0 rfl) rfl;refine VQ [7,8,10,23,24,25,32] fun K hK=>?_;refine ⟨_,c1,?_⟩;refine Qs ?_;apply hK;clear hK;obtain ⟨O',hO'⟩:∃ O',O'=if at_ < x.1 then O++[(at_,x.1 - at_)] else O:=⟨_,rfl⟩
  rw [<- hO'] at htk
  have hOl:O'.length<=i+1:=by
   rw [hO'];split
   ·
    rw [Yn];simp;omega
   omega
  refine Do [7,10,23,24,25] (fun e w'=>∃ (ao':OA) (co':Nat),Is e [(7,.slice ao' O'.length co'),(10,.pointer (some ⟨gb,0,none⟩)),(23,.slice (some ⟨g,0,none⟩) U.length c2),(24,.int .i64 U.length),(25,.int .i64 i)] /\
   Heap w [] w' [Xd gb 64 (Bx x),Yr 64 2 ao' O'.length co' (C5 O'),Yr 64 2 (some ⟨g,0,none⟩) U.length c2 (C5 U)]) ?_ ?_
  ·
   refine VD (fun h=>?_) (fun h=>?_)
   ·
    rw [if_pos h] at hO';subst hO';refine VQ [7,10,23,24,25] fun K hK=>?_;refine ⟨_,c1,?_⟩;refine Qs ?_;refine ⟨X1 (by omega) (by omega),?_⟩;refine C2 hH2 2 (Bx (at_,x.1 - at_)) (xs:=[.tmp 39]) Yy N6 rfl rfl rfl (by omega) (by omega) ?_;refine Qs ?_;refine ⟨rfl,by simp [Yu],fun g2 w9 hH3=>?_⟩;refine Ce ?_;refine Qs ?_;refine C3 (zs:=#[.int .i64 0,.int .i64 0]) (bytes:=16) hH3 2 rfl Yy (by kernel_rfl) rfl ⟨rfl,As (hH3.at 0 rfl),64,Yy⟩ (La _) (fun h=>by omega) fun a3 c3 w10 hc' hH4=>?_;simp only [Xn,Yb] at hH4;apply hK;clear hK;refine Ah ?_;refine Qs ?_;refine ⟨a3,c3,by rw [Yn];rfl,?_⟩;rw [Yn,Sa,Sh];exact hH4.sub (Yj _ _)
   rw [if_neg h] at hO';subst hO';refine Ad (Ah ?_);refine Qs ?_;exact ⟨ao,co,rfl,hH2⟩
  clear hH2 c1;rintro e w9 ⟨ao',co',rfl,hH2⟩;have c1:w9.cell? ⟨gb,0,none⟩=some (.int .i64 x.1):=Af (hH2.at 0 rfl) rfl;have c2':w9.cell? ⟨gb,1,none⟩=some (.int .i64 x.2):=Af (hH2.at 0 rfl) rfl;refine VQ [7,8,23,24,25] fun K hK=>?_;refine ⟨_,c1,_,c2',?_⟩;refine Qs ?_;refine ⟨X1 (by omega) (by omega),?_⟩;apply hK;clear hK;refine An ?_;refine VS [7,8,23,24,25] ?_;refine Ah ?_;refine Qs ?_;refine ⟨U.length - (i+1),by omega,i+1,ao',co',by rw [htk];rfl,by rw [htk];exact hH2.sub (Yj _ _),by rw [htk];exact ⟨by show (0:Int)<=x.1+x.2;omega,by show x.1+x.2<=4096;omega⟩,by rw [htk];exact hOl,by omega,rfl⟩
 obtain rfl:i=U.length:=by omega
 rw [Xe] at *;refine Ax rfl ?_;refine VS [4,5] ?_;refine Ae (Bp rfl rfl rfl (.inr ⟨hmc,T,ao,co,hp,hs,by rw [hfr],?_⟩));rw [hfr];exact hH.sub (by simp)
abbrev Fj (a:OA) (c:Nat) (l:List Ex):Res:=Yr 64 2 a l.length c (C5 l)
def A9 (m:Mb):Ex:=(m.s,m.n)
theorem Qfc (l:List Mb) (a:OA) (c:Nat) (cap:Int) (w:World) (hl:(Dw a c l).holds w) (hll:l.length<=1000000000) (hf:∀ m∈l,m.fit) (hcap:I64 cap) :
  Does Yf 34 #[.slice a l.length c,.int .i64 cap] w fun v w'=>Heap w [] w' []/\∃ e:Int,v=.int .i64 e/\(l=[]->1<=cap->cap<=4096->e=0):=by
 refine En [.slice a l.length c,.int .i64 cap] 50 Tryz.func34 ?_;refine Aj [0,1] fun K hK=>?_;apply hK;clear hK;refine Aj [0,1,10] fun K hK=>?_;apply hK;clear hK;refine Ai rfl rfl (fun h=>?_) (fun h=>Ad ?_)
 ·
  simp only [decide_eq_true_eq] at h;refine Aj [4] fun K hK=>?_;apply hK;clear hK;exact Ae (Al rfl rfl ⟨Ym w,230,rfl,fun hn=>by rw [hn] at h;simp at h⟩)
 clear h;refine Aj [0,1,5] fun K hK=>?_;apply hK;clear hK;refine Aj [0,1,5,11,12,13] fun K hK=>?_;apply hK;clear hK;refine Aq ?_;refine Ay [0,1,5,11,12,13] (fun m e w'=>∃ (i:Nat) (ax:OA) (cx:Nat),Is e [(0,.slice a l.length c),(1,.int .i64 cap),(5,.slice ax ((l.take i).map A9).length cx),(11,.slice a l.length c),(12,.int .i64 l.length),(13,.int .i64 i)]/\Heap w [] w' [Fj ax cx ((l.take i).map A9)]/\i<=l.length/\m=l.length - i) l.length ?_ ?_
 ·
  refine Qi ?_;exact ⟨0,none,0,rfl,(Ym w).nilRow 64 2,by omega,rfl⟩
 rintro m e w1 ⟨i,ax,cx,rfl,hH,hi,rfl⟩;refine Aj [0,1,5,11,12,13,14] fun K hK=>?_;apply hK;clear hK;(repeat refine Aw ?_);refine VD (fun h=>?_) (fun h=>?_)
 ·
  refine Ad ?_
  ((repeat refine Aw ?_);refine Aq ?_)
  obtain ⟨m,hm⟩:∃ m,l[i]? = some m:=⟨_,Ye (show i < l.length by omega)⟩;have hmf:=hf m (Y9 hm);have hl1:=Lb hl hH;obtain ⟨g,rfl⟩:=Cw hl1 (by omega);have hrd:=M8 (As hl1) hm;refine Aj [0,1,5,6,7,11,12,13] fun K hK=>?_;refine ⟨⟨by omega,by omega⟩,Ar m,⟨rfl,hrd⟩,?_⟩;refine Dg hH [.string ⟨#[]⟩,.int .i64 0,.int .i64 0,.int .i64 0,.int .u32 0] fun gx w2 hH1=>?_;refine Qi ?_;refine Ag ?_;refine Qi ?_;refine Ap hH1 0 (vs:=Ar m) rfl rfl (by kernel_rfl) (by simp [Ar]) (Ic m) fun w3 hH2=>?_;have hH2:Heap w [] w3 [Xd gx 54 (Ar m),Fj ax cx ((l.take i).map A9)]:=hH2;clear hH hH1 hl1 hrd;apply hK;clear hK;have hl2:=Lb hl hH2;(repeat refine Aw ?_);refine T5 w3 (Ext.refl _) [0,1,5,7,11,12,13,36] [(0,true),(1,false),(2,true),(3,true),(4,true),(5,true),(6,true),(7,true),(8,true),(9,true),(10,true),(11,true),(12,true),(13,true),(14,true),(15,false),(16,true),(17,true),(18,true)] (by kernel_rfl) (by kernel_rfl) rfl (by simp only [A6,List.filterMap_cons,List.filterMap_nil,List.getElem?_cons_succ,List.getElem?_cons_zero,Option.map_some];rfl) fun K hK=>?_;refine Qi ?_;refine ⟨Ar m,⟨rfl,Bu (hH2.at 0 rfl)⟩,?_⟩
  have out:∀ (b:Bool) (w5:World),Heap w3 [] w5 []->K [(0,.slice (some ⟨g,0,none⟩) l.length c),(1,.int .i64 cap),(5,.slice ax ((l.take i).map A9).length cx),(7,pV gx),(11,.slice (some ⟨g,0,none⟩) l.length c),(12,.int .i64 l.length),(13,.int .i64 i),(36,.bool b)] w5:=by
   intro b w5 hA;have hH3:=hH2.call0 hA;simp only [Ya] at hH3;apply hK;clear hK;refine Ai rfl rfl (fun h=>?_) (fun h=>Ad ?_)
   ·
    refine Aj [4] fun K hK=>?_;apply hK;clear hK;exact Ae (Al rfl rfl ⟨hH3.sub (by simp),230,rfl,fun hn=>by rw [hn] at hm;cases hm⟩)
   refine Aj [0,1,5,11,12,13] fun K hK=>?_;refine ⟨_,Af (hH3.at 0 rfl) rfl,_,Af (hH3.at 0 rfl) rfl,?_⟩;refine Qi ?_;refine C2 hH3 2 (Bx (A9 m)) (xs:=[.tmp 42]) Yy N6 rfl rfl rfl (by omega) (by omega) ?_;refine Qi ?_;refine ⟨by simp [Bx,A9,Yu],by simp [Bx,A9,Yu],fun gl w7 hH4=>?_⟩;refine Ce ?_;refine Qi ?_;refine C3 (zs:=#[.int .i64 0,.int .i64 0]) (bytes:=16) hH4 2 rfl Yy (by kernel_rfl) rfl (m:=1) ⟨rfl,As (hH4.at 0 rfl),64,Yy⟩ (La _) (fun h=>by simp;omega) fun a' cap' w8 hc' hH5=>?_;have e1:((l.take i).map A9).length+1=((l.take (i+1)).map A9).length:=by rw [Ys,hm];simp
   have e2:C5 ((l.take i).map A9)++Bx (A9 m)=C5 ((l.take (i+1)).map A9):=by rw [Ys,hm];simp [C5,Bw]
   rw [e1,e2] at hH5;rw [e1];have hH6:Heap w [] w8 [Fj a' cap' ((l.take (i+1)).map A9)]:=hH5.sub (.cons _ (.cons _ (.refl _)));apply hK;clear hK;refine An ?_;refine Aj [0,1,5,11,12,13] fun K hK=>?_;(repeat refine Qo ?_);apply hK;clear hK;refine Ah ?_;refine Qi ?_;exact ⟨l.length - (i+1),by omega,i+1,a',cap',rfl,hH6,by omega,rfl⟩
  clear hK;refine Aa Tryz.call66 ?_;refine Qi ?_;refine Yc (Qe9 m hmf w3) ?_;rintro v w4 ⟨hA,hv⟩;obtain ⟨e0,rfl⟩:∃ e0,v=.int .i64 e0:=by rcases hv with ⟨rfl,_⟩ | ⟨rfl,_⟩ <;> exact ⟨_,rfl⟩
  refine Qi ?_;refine ⟨hA.ext,?_⟩;have c0:=Af (hH2.at 0 rfl) (k:=0) (v:=Ab m.p) rfl;refine ⟨fun _=>⟨fun h3=>?_,fun _=>out _ _ hA⟩,fun _=>out _ _ hA⟩;obtain ⟨m2,hm2⟩:∃ m2,l[i - 1]? = some m2:=⟨_,Ye (show i - 1 < l.length by omega)⟩;have hm2f:=hf m2 (Y9 hm2);have hr2:=M8 (As hl2) hm2 0 (Ab m2.p) rfl;rw [Bv] at hr2;refine ⟨X1 (by omega) (by omega),⟨by omega,by omega⟩,_,hr2,_,c0,?_⟩;have p1:=hmf.p;have p2:=hm2f.p;refine Aa Tryz.call65 ?_;refine Qi ?_;refine Yc (Qd9 m2.p m.p w4 (by omega) (by omega)) ?_;rintro v w5 ⟨hB,rfl,_⟩;refine Qi ?_;have hC:=hA.call0 hB;refine ⟨hC.ext,?_⟩;exact out _ _ hC
 obtain rfl:i=l.length:=by omega
 rw [Xe] at hH ⊢;refine Ax rfl ?_;refine Aj [49] fun K hK=>?_;refine Aa U2 ?_;refine Qi ?_;refine Yc (Vd (l.map A9) ax cx cap w1 (As (hH.at 0 rfl)) (by simp;omega) (fun x hx=>?_) hcap) ?_
 ·
  obtain ⟨m,hm,rfl⟩:=Y3.1 hx;exact ⟨(hf m hm).s,(hf m hm).n⟩
 rintro v w2 ⟨hA,n,rfl,hc⟩;have hH2:=hH.call0 hA;refine Qi ?_;apply hK;clear hK;refine Ai rfl rfl (fun h2=>?_) (fun h2=>Ad ?_)
 ·
  simp only [decide_eq_true_eq] at h2;refine Aj [4] fun K hK=>?_;apply hK;clear hK;refine Ae (Al rfl rfl ⟨hH2.sub (by simp),230,rfl,fun hn h3 h4=>?_⟩);rcases hc with hc | hc
  ·
   exact absurd hc.2 h2
  exact absurd ⟨h3,h4,by rw [hn];simp [May]⟩ hc.1
 refine Aj [4] fun K hK=>?_;apply hK;clear hK;exact Ae (Al rfl rfl ⟨hH2.sub (by simp),0,rfl,fun _ _ _=>rfl⟩)
def Ea:Int->List Mb->List Mb
 | _,[]=>[]
 | a,m::l=>{ m with s:=a }::Ea (a+m.n) l
def Ii:Int->List Mb->Int
 | a,[]=>a
 | a,m::l=>Ii (a+m.n) l
theorem Qea:∀ (l r:List Mb) (a:Int),Ea a (l++r)=Ea a l++Ea (Ii a l) r
 | [],r,a=>rfl
 | m::l,r,a=>by simp [Ea,Ii,Qea l r]
theorem Qhq:∀ (l:List Mb) (a:Int),Ea a (Ea a l)=Ea a l
 | [],a=>rfl
 | m::l,a=>by simp [Ea,Qhq l]
theorem Zy:∀ (l:List Mb) (a:Int),(Ea a l).length=l.length
 | [],a=>rfl
 | m::l,a=>by simp [Ea,Zy l]
theorem Qpx:∀ (l:List Mb) (a:Int),(∀ m∈l,1<=m.n)->∀ x∈Ea a l,a<=x.s
 | [],a,_=>by simp [Ea]
 | m::l,a,h=>by
  intro x hx;rw [Ea] at hx;rcases Yp.1 hx with rfl | hx
  ·
   exact Int.le_refl _
  have:=Qpx l (a+m.n) (fun y hy=>h y (Yt _ hy)) x hx;have:=h m (Yg ..);omega
theorem Qdc:∀ (l:List Mb) (a:Int),(∀ m∈l,1<=m.n)->(Ea a l).Pairwise fun x y=>x.s < y.s
 | [],a,_=>by simp [Ea]
 | m::l,a,h=>by
  rw [Ea,Y2];have h1:=h m (Yg ..);have h2:=fun y hy=>h y (Yt _ hy);refine ⟨fun x hx=>?_,Qdc l _ h2⟩;have:=Qpx l (a+m.n) h2 x hx
  show a < x.s
  omega
theorem Qhr:∀ {S U:List Mb},S.Perm U->(S.Pairwise fun x y=>x.s<=y.s)->(U.Pairwise fun x y=>x.s < y.s)->S=U
 | [],U,hp,_,_=>(hp.symm.eq_nil).symm
 | x::S,U,hp,hs,hu=>by
  cases U with
  | nil=>exact hp.eq_nil
  | cons u U =>
   obtain ⟨s1,s2⟩:=Y2.1 hs;obtain ⟨u1,u2⟩:=Y2.1 hu
   have hxu:x=u:=by
    rcases Yp.1 (hp.mem_iff.1 (Yg ..)) with h | h
    ·
     exact h
    rcases Yp.1 (hp.mem_iff.2 (Yg ..)) with h2 | h2
    ·
     exact h2.symm
    have:=u1 x h;have:=s1 u h2;omega
   subst hxu;rw [Qhr (List.Perm.cons_inv hp) s2 u2]
def SameM (T U:List Mb):Prop:=(T.map (·.p)).Nodup/\(U.map (·.p)).Nodup/\∀ m,m∈T ↔ m∈U
def QA6 (T:List Mb) (p:Bs) (tz:Int) (T':List Mb):Prop:=(T'.map (·.p)).Nodup/\∃ m∈T,m.p=p/\∀ x,x∈T' ↔ (x.p≠p/\x∈T)∨x={ m with s:=tz }
theorem Qdl {l:List Mb} (h:(l.map (·.p)).Nodup):l.Nodup:=by
 rw [List.Nodup,Us] at h;exact h.imp fun hab e=>hab (by rw [e])
theorem SameM.perm {T U:List Mb} (h:SameM T U):T.Perm U:=(X5 (Qdl h.1) (Qdl h.2.1)).2 h.2.2
theorem Qkt {T T' A C:List Mb}{m:Mb}{tz:Int} (h:SameM T (A++m::C)) (hm:QA6 T m.p tz T'):SameM T' (A++{ m with s:=tz }::C):=by
 obtain ⟨h1,h2,h3⟩:=h;obtain ⟨k1,y,hy,hyp,k2⟩:=hm
 have hd:∀ x∈A++C,x.p≠m.p:=by
  rw [Xm,List.map_cons,Ut,Ug] at h2;obtain ⟨n1,⟨n2,n3⟩,n4⟩:=h2;intro x hx e;rcases Yz.1 hx with hx | hx
  ·
   exact n4 _ (Y6 hx) _ (Yg ..) e
  exact n2 (e ▸ Y6 hx)
 have hym:y=m:=by
  have:=(h3 y).1 hy;rcases Yz.1 this with h | h
  ·
   exact absurd hyp (hd y (Uj _ h))
  rcases Yp.1 h with h | h
  ·
   exact h
  exact absurd hyp (hd y (Ui _ h))
 subst hym;refine ⟨k1,by simpa using h2,fun x=>?_⟩;rw [k2,h3];simp only [Yz,Yp];constructor
 ·
  rintro (⟨h4,h5 | h5 | h5⟩ | h4)
  ·
   exact .inl h5
  ·
   exact absurd (by rw [h5]) h4
  ·
   exact .inr (.inr h5)
  exact .inr (.inl h4)
 rintro (h4 | h4 | h4)
 ·
  exact .inl ⟨hd x (Uj _ h4),.inl h4⟩
 ·
  exact .inr h4
 exact .inl ⟨hd x (Ui _ h4),.inr (.inr h4)⟩
def PkM (T:List Mb):Prop:=∃ S,SameM T (Ea 30 S)/\∀ m∈S,1<=m.n
theorem Qwb {T S:List Mb} (h:PkM T) (hp:S.Perm T) (hs:S.Pairwise fun x y=>x.s<=y.s):Ea 30 S=S:=by
 obtain ⟨U,h1,h2⟩:=h;rw [Qhr (hp.trans h1.perm) hs (Qdc U 30 h2),Qhq]
theorem Qwc (S:List Mb) {i:Nat}{m:Mb} (h:S[i]? = some m):Ea 30 (S.take (i+1))=Ea 30 (S.take i)++[{ m with s:=Ii 30 (S.take i) }]:=by
 rw [Ys,h,Qea];rfl
theorem Qzq (S:List Mb) {i:Nat}{m:Mb} (h:S[i]? = some m):Ii 30 (S.take (i+1))=Ii 30 (S.take i)+m.n:=by
 have:∀ (l:List Mb) (a:Int),Ii a (l++[m])=Ii a l+m.n:=by
  intro l
  induction l with
  | nil=>intro a;rfl
  | cons x l ih=>intro a;exact ih _
 rw [Ys,h];exact this _ _
theorem QP8 {S:List Mb} (h:Ea 30 S=S) {i:Nat}{m:Mb} (hm:S[i]? = some m):m.s=Ii 30 (S.take i):=by
 have e:S=S.take i++m::S.drop (i+1):=by
  obtain ⟨hi,hx⟩:=X7.1 hm;rw [<- hx,<- Xl hi,Y8]
 have h2:=h;rw [e,Qea,Ea] at h2;have hl:(Ea 30 (S.take i)).length=(S.take i).length:=Zy _ _;have h3:=(List.append_inj h2 hl).2;have h4:=(List.cons.inj h3).1;exact (congrArg Mb.s h4).symm
theorem QAs:∀ (l:List Mb) (a:Int),(∀ m∈l,1<=m.n/\m.n<=4096)->a<=Ii a l/\Ii a l<=a+4096 * l.length
 | [],a,_=>by simp [Ii]
 | m::l,a,h=>by
  have:=QAs l (a+m.n) fun y hy=>h y (Yt _ hy);have:=h m (Yg ..);rw [Ii,List.length_cons];omega
abbrev MF:=Bs->Option Mb
def Ku (f:MF) (m:Mb):MF:=fun q=>if q=m.p then some m else f q
def Ww (f:MF) (p:Bs):MF:=fun q=>if q=p then none else f q
structure MM (f:MF) (L:List Ci) (cl:Nat):Prop where
 ok:M7 L cl
 ent:∀ e∈L,∃ m,e.1=m.p/\e.2.1=.agg (Ar m).toArray/\f m.p=some m
 all:∀ q m,f q=some m->m.p=q/\q∈L.map (·.1)
theorem QK9:MM (fun _=>none) [] 0:=⟨Qki,by simp,fun q m h=>by cases h⟩
theorem QAt {f:MF}{L:List Ci}{cl:Nat} (h:MM f L cl) (m:Mb):MM (Ku f m) (I4 L cl m.p (.agg (Ar m).toArray)) (L9 L cl m.p):=by
 refine ⟨Qkj h.ok _ _,fun e he=>?_,fun q x hq=>?_⟩
 ·
  unfold I4 at he
  have old:∀ e∈L,e.1≠m.p->∃ x,e.1=x.p/\e.2.1=.agg (Ar x).toArray/\Ku f m x.p=some x:=fun e he hne=>by
   obtain ⟨x,h1,h2,h3⟩:=h.ent e he;exact ⟨x,h1,h2,by rw [Ku,if_neg (h1 ▸ hne)];exact h3⟩
  have new:Ku f m m.p=some m:=by rw [Ku,if_pos rfl]
  split at he
  ·
   obtain ⟨e0,he0,rfl⟩:=Y3.1 he;by_cases hk:e0.1=m.p
   ·
    rw [if_pos hk];exact ⟨m,rfl,rfl,new⟩
   rw [if_neg hk];exact old e0 he0 hk
  rename_i hk;rcases Yz.1 he with he | he
  ·
   exact old e he fun e2=>hk (e2 ▸ Y6 he)
  simp at he;subst he;exact ⟨m,rfl,rfl,new⟩
 have hkeys:∀ q,q∈(I4 L cl m.p (.agg (Ar m).toArray)).map (·.1) ↔ q=m.p∨q∈L.map (·.1):=fun q=>by
  unfold I4;split
  ·
   rename_i hk;rw [Qpt];exact ⟨.inr,fun h=>h.elim (fun h=>h ▸ hk) id⟩
  rw [Xm,Yz];simp [or_comm]
 rw [hkeys];unfold Ku at hq;split at hq
 ·
  rename_i e;cases hq;exact ⟨e.symm,.inl e⟩
 obtain ⟨h1,h2⟩:=h.all q x hq;exact ⟨h1,.inr h2⟩
theorem QLa {f:MF}{L:List Ci}{cl:Nat} (h:MM f L cl) (p:Bs):MM (Ww f p) (N7 L p) cl:=by
 refine ⟨Qvz h.ok _,fun e he=>?_,fun q x hq=>?_⟩
 ·
  obtain ⟨h1,h2⟩:=(Qpu h.ok.keys p e).1 he;obtain ⟨x,h3,h4,h5⟩:=h.ent e h1;exact ⟨x,h3,h4,by rw [Ww,if_neg (h3 ▸ h2)];exact h5⟩
 unfold Ww at hq;split at hq
 ·
  cases hq
 rename_i hne;obtain ⟨h1,h2⟩:=h.all q x hq;obtain ⟨e,he,he2⟩:=Y3.1 h2;exact ⟨h1,Y3.2 ⟨e,(Qpu h.ok.keys p e).2 ⟨he,by rw [he2];exact hne⟩,he2⟩⟩
def Fs (f:MF) (e:Ci):Mb:=(f e.1).getD ⟨[],0,0,0,0⟩
theorem Wg {f:MF}{L:List Ci}{cl:Nat} (h:MM f L cl) {e:Ci} (he:e∈L):f e.1=some (Fs f e)/\(Fs f e).p=e.1/\e.2.1=.agg (Ar (Fs f e)).toArray:=by
 obtain ⟨m,h1,h2,h3⟩:=h.ent e he;have h4:f e.1=some m:=by rw [h1];exact h3
 have h5:Fs f e=m:=by rw [Fs,h4];rfl
 rw [h5];exact ⟨h4,h1.symm,h2⟩
def N1 (l:List Mb):MF:=l.foldl Ku fun _=>none
abbrev Nt:=Int×Mb
def Rn (f:MF) (x:Nt):MF:=if x.1=1 then Ku f x.2 else if x.1=2 then Ww f x.2.p else f
def Ml (l:List Mb) (N:List Nt):MF:=N.foldl Rn (N1 l)
def L3 (l:List Mb) (N:List Nt) (T:List Mb):Prop:=(T.map (·.p)).Nodup/\(∀ m,m∈T ↔ Ml l N m.p=some m)/\T.length<=l.length+N.length
theorem Qzr {l:List Mb}{N:List Nt}{L D:List Ci}{cl:Nat}{T:List Mb} (h:MM (Ml l N) L cl) (hD:D.Perm L) (hT:T.Perm (D.map (Fs (Ml l N)))) (hL:L.length<=l.length+N.length):L3 l N T:=by
 have hm:∀ e∈D,e∈L:=fun e he=>hD.mem_iff.1 he;refine ⟨?_,fun m=>?_,by rw [hT.length_eq,Xh,hD.length_eq];exact hL⟩
 ·
  rw [(hT.map (·.p)).nodup_iff,List.map_map];have:D.map ((·.p) ∘ Fs (Ml l N))=D.map (·.1):=List.map_congr_left fun e he=>(Wg h (hm e he)).2.1;rw [this];exact (hD.map (·.1)).nodup_iff.2 h.ok.keys
 rw [hT.mem_iff,Y3];constructor
 ·
  rintro ⟨e,he,rfl⟩;obtain ⟨h1,h2,_⟩:=Wg h (hm e he);rw [h2];exact h1
 intro hm2;obtain ⟨_,h2⟩:=h.all _ _ hm2;obtain ⟨e,he,he2⟩:=Y3.1 h2;refine ⟨e,hD.mem_iff.2 he,?_⟩;have:=(Wg h he).1;rw [he2,hm2] at this;exact (Option.some.inj this).symm
theorem Qdm:∀ {l:List Mb},(l.map (·.p)).Nodup->∀ q m,N1 l q=some m ↔ m∈l/\m.p=q:=by
 have key:∀ (l:List Mb) (f:MF),(l.map (·.p)).Nodup->∀ q m,(l.foldl Ku f) q=some m ↔ (m∈l/\m.p=q)∨(q ∉ l.map (·.p)/\f q=some m):=by
  intro l
  induction l with
  | nil=>intro f _ q m;simp
  | cons x l ih =>
   intro f hn q m;rw [List.map_cons,Ug] at hn;rw [List.foldl_cons,ih _ hn.2];unfold Ku;simp only [Yp,List.map_cons,not_or];constructor
   ·
    rintro (⟨h1,h2⟩ | ⟨h1,h2⟩)
    ·
     exact .inl ⟨.inr h1,h2⟩
    split at h2
    ·
     rename_i e;cases h2;exact .inl ⟨.inl rfl,e.symm⟩
    rename_i e;exact .inr ⟨⟨e,h1⟩,h2⟩
   rintro (⟨h1 | h1,h2⟩ | ⟨⟨h1,h3⟩,h2⟩)
   ·
    subst h1;subst h2;exact .inr ⟨hn.1,by simp⟩
   ·
    exact .inl ⟨h1,h2⟩
   exact .inr ⟨h3,by rw [if_neg h1];exact h2⟩
 intro l hn q m;rw [N1,key l _ hn];simp
theorem Qku {l:List Mb}{N:List Nt}{q:Bs}{m:Mb} (h:Ml l N q=some m):m∈l∨∃ x∈N,x.1=1/\x.2=m:=by
 have k1:∀ (l:List Mb) (f:MF),l.foldl Ku f q=some m->m∈l∨f q=some m:=by
  intro l
  induction l with
  | nil=>intro f h;exact .inr h
  | cons x l ih =>
   intro f h;rcases ih _ h with h1 | h1
   ·
    exact .inl (Yt _ h1)
   unfold Ku at h1;split at h1
   ·
    cases h1;exact .inl (Yg ..)
   exact .inr h1
 have k2:∀ (N:List Nt) (f:MF),N.foldl Rn f q=some m->f q=some m∨∃ x∈N,x.1=1/\x.2=m:=by
  intro N
  induction N with
  | nil=>intro f h;exact .inl h
  | cons x N ih =>
   intro f h;rcases ih _ h with h1 | ⟨y,hy,h1⟩
   ·
    unfold Rn Ku Ww at h1;split at h1
    ·
     rename_i e;have h1:(if q=x.2.p then some x.2 else f q)=some m:=h1;split at h1
     ·
      cases h1;exact .inr ⟨x,Yg ..,e,rfl⟩
     exact .inl h1
    split at h1
    ·
     have h1:(if q=x.2.p then none else f q)=some m:=h1;split at h1
     ·
      cases h1
     exact .inl h1
    exact .inl h1
   exact .inr ⟨y,Yt _ hy,h1⟩
 rcases k2 N _ h with h1 | h1
 ·
  rcases k1 l _ h1 with h2 | h2
  ·
   exact .inl h2
  cases h2
 exact .inr h1
theorem Qwd {l:List Mb}{N:List Nt}{T:List Mb} (h:L3 l N T):∀ m∈T,m∈l∨∃ x∈N,x.1=1/\x.2=m:=fun m hm=>Qku ((h.2.1 m).1 hm)
theorem Qr2 {l T:List Mb} (hn:(l.map (·.p)).Nodup) {m:Mb} (hm:m∈l) {tz:Int} (h:L3 l [(1,{ m with s:=tz })] T):QA6 l m.p tz T:=by
 refine ⟨h.1,m,hm,rfl,fun x=>?_⟩;rw [h.2.1]
 show Ku (N1 l) { m with s:=tz } x.p=some x ↔ _
 unfold Ku;split
 ·
  rename_i e;have e:x.p=m.p:=e;constructor
  ·
   intro h;exact .inr (Option.some.inj h).symm
  rintro (h | h)
  ·
   exact absurd e h.1
  rw [h]
 rename_i e;have e:x.p≠m.p:=e;rw [Qdm hn];constructor
 ·
  exact fun h=>.inl ⟨e,h.1⟩
 rintro (h | h)
 ·
  exact ⟨h.2,rfl⟩
 exact absurd (by rw [h]) e
def Ed (x:Nt):LV:=.int .i64 x.1::Ar x.2
theorem QFf (x:Nt):(Ed x).length=6:=rfl
theorem Qms (x:Nt):∀ v∈Ed x,v.oneCell'=true:=by
 intro v hv;simp [Ed,Ar] at hv;rcases hv with rfl | rfl | rfl | rfl | rfl | rfl <;> rfl
def QLn (l:List Nt):LV:=Bw Ed l
abbrev Ft (a:OA) (c:Nat) (l:List Nt):Res:=Yr 92 6 a l.length c (QLn l)
theorem QGl {w:World}{g n:Nat}{l:List Nt} (h:RS w (some ⟨g,0,none⟩) n 6 (QLn l)) {i:Nat}{m:Nt} (hm:l[i]? = some m):Reads w ⟨g,i * 6,none⟩ (Ed m):=by
 have:=Mw (k:=6) QFf h rfl hm
 rwa [Sv,Xj] at this
theorem Qt3 (L:List Ci) (cl:Nat) (k:LB) (v:Value):(I4 L cl k v).length<=L.length+1:=by
 unfold I4;split <;> simp
theorem Qwe (l:List Mb) {i:Nat}{m:Mb} (h:l[i]? = some m):N1 (l.take (i+1))=Ku (N1 (l.take i)) m:=by
 rw [Ys,h,N1,X8];rfl
theorem Qwf (l:List Mb) (N:List Nt) {i:Nat}{x:Nt} (h:N[i]? = some x):Ml l (N.take (i+1))=Rn (Ml l (N.take i)) x:=by
 rw [Ys,h,Ml,X8];rfl
theorem Qbq {α β:Type}{f:α->β}{l:List α} (h:(l.map f).Nodup):l.Nodup:=by
 rw [List.Nodup,Us] at h;exact h.imp fun hab e=>hab (by rw [e])
theorem Qir {α β:Type}{f:α->β}:∀ {l:List α},(l.map f).Nodup->∀ {a b:α},a∈l->b∈l->f a=f b->a=b
 | [],_,a,b,h,_,_=>by cases h
 | x::l,hn,a,b,ha,hb,he=>by
  rw [List.map_cons,Ug] at hn;rcases Yp.1 ha with h1 | h1 <;> rcases Yp.1 hb with h2 | h2
  ·
   exact h1.trans h2.symm
  ·
   exact absurd (by rw [<- h1,he];exact Y6 h2) hn.1
  ·
   exact absurd (by rw [<- h2,<- he];exact Y6 h1) hn.1
  exact Qir hn.2 h1 h2 he
theorem Qfd (l:List Mb) (a:OA) (c:Nat) (N:List Nt) (an:OA) (cn:Nat) (w:World) (hl:(Dw a c l).holds w) (hn:(Ft an cn N).holds w) (hll:l.length<=1000000000) (hnl:N.length<=1000000000) (hlo:∀ m∈l,m.fit) (hno:∀ x∈N,x.2.fit) :
  Does Yf 33 #[.slice a l.length c,.slice an N.length cn] w fun v w'=>∃ (T:List Mb) (a':OA) (c':Nat),v=.slice a' T.length c'/\L3 l N T/\Heap w [] w' [Dw a' c' T]:=by
 refine En [.slice a l.length c,.slice an N.length cn] 61 Tryz.func33 ?_;refine VS [0,1] ?_;refine VQ [0,1,5] fun K hK=>?_;refine Qc8 ?_;have hH:=(Ym w).newObj (.map (B5 []) 0);rw [show B5 []=#[] from rfl] at hH;generalize w.alloc (Obj.map #[] 0)=w1 at *;generalize w.heap.size=gm at *;refine Qs ?_;apply hK;clear hK;refine VS [1,5,14,15,16] ?_;refine Aq ?_;refine Ay [1,5,14,15,16] (fun m e w'=>∃ (i:Nat) (L:List Ci) (cl:Nat),Is e [(1,.slice an N.length cn),(5,.map (some gm)),(14,.slice a l.length c),(15,.int .i64 l.length),(16,.int .i64 i)]/\Heap w [] w' [Uu gm (.map (B5 L) cl)]/\MM (N1 (l.take i)) L cl/\L.length<=i/\i<=l.length/\m=l.length - i) l.length ?_ ?_
 ·
  refine Qs ?_;exact ⟨0,[],0,rfl,hH,QK9,by simp,by omega,rfl⟩
 clear hH w1;rintro m e w1 ⟨i,L,cl,rfl,hH,hM,hL,hi,rfl⟩;refine VS [1,5,14,15,16,17] ?_;(repeat refine Aw ?_);refine VD (fun h=>?_) (fun h=>?_)
 ·
  refine Ad ?_;refine VB ?_;obtain ⟨m,hm⟩:∃ m,l[i]? = some m:=⟨_,Ye (show i < l.length by omega)⟩;have hl1:=Lb hl hH;obtain ⟨g,rfl⟩:=Cw hl1 (by omega);have hrd:=M8 (As hl1) hm;refine VQ [1,5,7,14,15,16] fun K hK=>?_;refine ⟨⟨by omega,by omega⟩,Ar m,⟨rfl,hrd⟩,?_⟩;refine Dg hH [.string ⟨#[]⟩,.int .i64 0,.int .i64 0,.int .i64 0,.int .u32 0] fun gx w2 hH1=>?_;refine Qs ?_;refine Ag ?_;refine Qs ?_;refine Ap hH1 0 (vs:=Ar m) rfl rfl (by kernel_rfl) (by simp [Ar]) (Ic m) fun w3 hH2=>?_;have hH2:Heap w [] w3 [Xd gx 54 (Ar m),Uu gm (.map (B5 L) cl)]:=hH2;apply hK;clear hK;refine VQ [1,5,14,15,16] fun K hK=>?_;refine ⟨_,Af (hH2.at 0 rfl) rfl,Ar m,⟨rfl,Bu (hH2.at 0 rfl)⟩,?_⟩;refine Qaf hH2 1 rfl hM.ok Xo Xk ?_;refine Qs ?_;refine ⟨trivial,m.p,rfl,fun w7 hHf=>?_⟩;have hHg:=hHf.sub (Yj _ _);have hM2:=QAt hM m;rw [<- Qwe l hm] at hM2;have hle:=Qt3 L cl m.p (.agg (Ar m).toArray);apply hK;clear hK;refine An ?_;refine VS [1,5,14,15,16] ?_;refine Ah ?_;refine Qs ?_;exact ⟨l.length - (i+1),by omega,i+1,_,_,rfl,hHg,hM2,by omega,by omega,rfl⟩
 obtain rfl:i=l.length:=by omega
 rw [Xe] at hM;clear h hi;refine Ax rfl ?_;refine VS [5,25,26,27] ?_;refine Aq ?_;refine Ay [5,25,26,27] (fun m e w'=>∃ (i:Nat) (L:List Ci) (cl:Nat),Is e [(5,.map (some gm)),(25,.slice an N.length cn),(26,.int .i64 N.length),(27,.int .i64 i)]/\Heap w [] w' [Uu gm (.map (B5 L) cl)]/\MM (Ml l (N.take i)) L cl/\L.length<=l.length+i/\i<=N.length/\m=N.length - i) N.length ?_ ?_
 ·
  refine Qs ?_;exact ⟨0,L,cl,rfl,hH,hM,by omega,by omega,rfl⟩
 clear hH hM hL w1 L cl;rintro m e w1 ⟨i,L,cl,rfl,hH,hM,hL,hi,rfl⟩;refine VS [5,25,26,27,28] ?_;(repeat refine Aw ?_);refine VD (fun h=>?_) (fun h=>?_)
 ·
  refine Ad ?_;refine VB ?_;obtain ⟨x,hx⟩:∃ x,N[i]? = some x:=⟨_,Ye (show i < N.length by omega)⟩;have hl1:=Lb hn hH;obtain ⟨g,rfl⟩:=Cw hl1 (by omega);have hrd:=QGl (As hl1) hx;have hs:=Qwf l N hx;refine VQ [5,9,25,26,27] fun K hK=>?_;refine ⟨⟨by omega,by omega⟩,Ed x,⟨rfl,hrd⟩,?_⟩;refine Dg hH [.int .i64 0,.string ⟨#[]⟩,.int .i64 0,.int .i64 0,.int .i64 0,.int .u32 0] fun gx w2 hH1=>?_;refine Qs ?_;refine Ag ?_;refine Qs ?_;refine Ap hH1 0 (vs:=Ed x) rfl rfl (by kernel_rfl) (by simp [Ed,Ar]) (Qms x) fun w3 hH2=>?_;have hH2:Heap w [] w3 [Xd gx 92 (Ed x),Uu gm (.map (B5 L) cl)]:=hH2
  have rm:Reads w3 ⟨gx,1,none⟩ (Ar x.2):=fun j u hu=>by
   rw [Bv];exact Af (hH2.at 0 rfl) (by rw [Nat.add_comm];exact hu)
  clear hH hH1 hl1;apply hK;clear hK;refine VQ [5,9,25,26,27,32] fun K hK=>?_;refine ⟨_,Af (hH2.at 0 rfl) rfl,?_⟩;apply hK;clear hK;refine Aq ?_;refine VS [5,9,25,26,27,32,33] ?_;refine VD (fun h=>?_) (fun h=>?_)
  ·
   refine VQ [5,25,26,27] fun K hK=>?_;refine ⟨_,Af (hH2.at 0 rfl) (k:=1) rfl,Ar x.2,⟨rfl,rm⟩,?_⟩;refine Qaf hH2 1 rfl hM.ok Xo Xk ?_;refine Qs ?_;refine ⟨trivial,x.2.p,rfl,fun w7 hHf=>?_⟩;have hHg:=hHf.sub (Yj _ _);have hM2:=QAt hM x.2;rw [Rn,if_pos h] at hs;rw [<- hs] at hM2;have hle:=Qt3 L cl x.2.p (.agg (Ar x.2).toArray);apply hK;clear hK;refine An ?_;refine An ?_;refine VS [5,25,26,27] ?_;refine Ah ?_;refine Qs ?_;exact ⟨N.length - (i+1),by omega,i+1,_,_,rfl,hHg,hM2,by omega,by omega,rfl⟩
  refine VS [5,9,25,26,27,41] ?_;refine Ai rfl rfl (fun h2=>?_) (fun h2=>?_)
  ·
   simp only [decide_eq_true_eq] at h2;refine VQ [5,25,26,27] fun K hK=>?_;refine ⟨_,Af (hH2.at 0 rfl) (k:=1) rfl,?_⟩;refine Qod hH2 1 rfl Xo Xk ?_;refine Qs ?_;refine ⟨x.2.p,rfl,fun w7 hHf=>?_⟩;have hHg:=hHf.sub (Yj _ _);have hM2:=QLa hM x.2.p;rw [Rn,if_neg h,if_pos h2] at hs;rw [<- hs] at hM2;have hle:=(Qdh L x.2.p).length_le;apply hK;clear hK;refine An ?_;refine An ?_;refine VS [5,25,26,27] ?_;refine Ah ?_;refine Qs ?_;exact ⟨N.length - (i+1),by omega,i+1,_,_,rfl,hHg,hM2,by omega,by omega,rfl⟩
  simp only [decide_eq_false_iff_not] at h2;rw [Rn,if_neg h,if_neg h2] at hs;rw [<- hs] at hM;refine Ad ?_;refine An ?_;refine An ?_;refine VS [5,25,26,27] ?_;refine Ah ?_;refine Qs ?_;exact ⟨N.length - (i+1),by omega,i+1,_,_,rfl,hH2.sub (Yj _ _),hM,by omega,by omega,rfl⟩
 obtain rfl:i=N.length:=by omega
 rw [Xe] at hM;clear h hi;refine Ax rfl ?_;refine VS [5,10] ?_;refine VQ [10,49] fun K hK=>?_;refine Qjc hH 0 rfl Xo ?_;refine Qs ?_;refine And.intro trivial ?_;have hH2:Heap w [] _ _:=hH.newObj (.mapIter (some gm) cl #[] cl);generalize w1.alloc (Obj.mapIter (some gm) cl #[] cl)=w3 at *;generalize w1.heap.size=gi at *;clear hH;apply hK;clear hK;(repeat refine Aw ?_);refine Aq ?_
 have hsl:∀ D:List Ci,(∀ e∈D,e∈L)->(D.map (·.2.2)).Nodup->D.length<=L.length:=fun D hs hn=>by
  have h1:(D.map (·.2.2)) ⊆ (L.map (·.2.2)):=fun b hb=>by
   obtain ⟨e,he,rfl⟩:=Y3.1 hb;exact Y6 (hs e he)
  have h2:=hn.length_le_of_subset h1
  rwa [Xh,Xh] at h2
 have hfe:∀ e∈L,(Fs (Ml l N) e).fit:=fun e he=>by
  obtain ⟨h1,h2,_⟩:=Wg hM he;rcases Qku h1 with h3 | ⟨x,h3,_,h4⟩
  ·
   exact hlo _ h3
  rw [<- h4];exact hno x h3
 generalize hF:Ml l N=F at *
 refine Ay [10,49] (fun m e w'=>∃ (D:List Ci) (a6:OA) (c6:Nat),Is e [(10,.slice a6 (D.map (Fs F)).length c6),(49,(.pointer (some ⟨gi,0,none⟩)))]/\Heap w [] w' [Dw a6 c6 (D.map (Fs F)),Uu gi (.mapIter (some gm) cl (D.map (·.2.2)).toArray cl),Uu gm (.map (B5 L) cl)] /\
   (∀ e∈D,e∈L)/\(D.map (·.2.2)).Nodup/\m=L.length+1 - D.length) (L.length+1) ?_ ?_
 ·
  refine Qs ?_;exact ⟨[],none,0,rfl,hH2.nilRow 54 5,by simp,by simp,rfl⟩
 clear hH2 w3;rintro m e w3 ⟨D,a6,c6,rfl,hH,hsub,hnD,rfl⟩;have hDl:=hsl D hsub hnD;refine VQ [10,49,51] fun K hK=>?_;refine Qlz hH 2 1 rfl rfl hM.ok ?_;refine Qs ?_;refine ⟨trivial,fun hall=>?_,fun x hx hno w4 hH2=>?_⟩
 ·
  skip
  apply hK;clear hK;(repeat refine Aw ?_);refine Ai rfl rfl (fun h=>by simp at h) (fun h=>?_);refine Ax rfl ?_
  have hDp:D.Perm L:=(X5 (Qbq hnD) (Qbq hM.ok.borns)).2 fun x=>⟨hsub x,fun hx=>by
   obtain ⟨y,hy,he⟩:=Y3.1 (hall x hx);rw [<- Qir hM.ok.borns (hsub y hy) hx he];exact hy⟩
  have hEl:(D.map (Fs F)).length<=1000000000000:=by rw [Xh];omega
  have hEo:∀ t∈D.map (Fs F),t.fit:=fun t ht=>by
   obtain ⟨e,he,rfl⟩:=Y3.1 ht;exact hfe e (hsub e he)
  subst hF;have hfin:=fun T hT=>Qzr (T:=T) hM hDp hT hL;generalize D.map (Fs (Ml l N))=E at *;refine VQ [10] fun K hK=>?_;refine Aa Tryz.call55 ?_;refine Qs ?_;refine Yc (Qhp 64 Tryz.call64 _ QS8 Qzo E hEl hEo a6 c6 w w3 [] _ hH) ?_;rintro v w4 ⟨T,hTp,hTs,hH4⟩;apply hK;clear hK;refine VS [4] ?_;refine Ae (Al rfl rfl ⟨T,a6,c6,?_,hfin T hTp,hH4.sub (.cons_cons _ (Yd _))⟩);rw [hTp.length_eq]
 obtain ⟨hf1,hf2,hf3⟩:=Wg hM hx;apply hK;clear hK;(repeat refine Aw ?_);refine Ai rfl rfl (fun h=>?_) (fun h=>by simp at h);refine Ad ?_;refine VB ?_;simp only [Xn,Yb] at hH2;refine VQ [10,12,49] fun K hK=>?_;refine Qro hH2 2 1 rfl rfl hM.ok hx ?_;refine Qs ?_;refine ⟨trivial,?_⟩;rw [hf3]
 have hsubx:∀ e∈D++[x],e∈L:=fun e he=>by
  rcases Yz.1 he with h | h
  ·
   exact hsub e h
  simp at h;rw [h];exact hx
 have hnDx:((D++[x]).map (·.2.2)).Nodup:=by
  rw [Xm,Ut];refine ⟨hnD,by simp,?_⟩;intro a ha b hb;simp at hb;subst hb;rintro rfl;exact hno ha
 have hDl2:=hsl _ hsubx hnDx;have hmap:(D++[x]).map (Fs F)=D.map (Fs F)++[Fs F x]:=by rw [Xm];rfl
 generalize Fs F x=y at *;refine Dg hH2 [.string ⟨#[]⟩,.int .i64 0,.int .i64 0,.int .i64 0,.int .u32 0] fun gx w5 hHb=>?_;refine Qs ?_;refine Ag ?_;refine Qs ?_;refine Ap hHb 0 (vs:=Ar y) rfl rfl (by kernel_rfl) (by simp [Ar]) (Ic y) fun w6 hHc=>?_;simp only [Yb] at hHc;clear hHb hH2;apply hK;clear hK;refine VQ [10,49] fun K hK=>?_;refine ⟨Ar y,⟨rfl,Bu (hHc.at 0 rfl)⟩,?_⟩;refine C2 hHc 5 (Ar y) (xs:=[.tmp 55]) Y0 QLj rfl rfl rfl (by omega) (by omega) ?_;refine Qs ?_;refine ⟨by simp [Ar,Yu],by simp [Ar,Yu],fun gl w7 hH3=>?_⟩;refine Ce ?_;refine Qs ?_;refine C3 (zs:=#[.string ⟨#[]⟩,.int .i64 0,.int .i64 0,.int .i64 0,.int .u32 0]) (bytes:=48) hH3 2 rfl Y0 (by kernel_rfl) rfl ⟨rfl,As (hH3.at 0 rfl),54,Y0⟩ (Ic y) (fun h=>by simp;omega) fun a' cap' w8 hc' hH4=>?_;simp only [Xn,Yb] at hH4;apply hK;clear hK;refine An ?_;refine Ah ?_;refine Qs ?_;refine ⟨L.length+1 - (D++[x]).length,by simp at hDl2 ⊢;omega,D++[x],a',cap',?_,?_,hsubx,hnDx,rfl⟩
 ·
  rw [hmap,show (D.map (Fs F)++[y]).length=(D.map (Fs F)).length+1 by simp];rfl
 rw [hmap,Dw,show (D.map (Fs F)++[y]).length=(D.map (Fs F)).length+1 by simp,O4,R9,Vj];exact hH4.sub (.cons _ (.cons _ (.refl _)))
abbrev tB:Nat:=162
def Qis (b:Nat) (og:Option Nat) (bs:Bs) (w:World):Prop :=
 ∃ p v,(p=Value.pointer none∨p=.pointer (some ⟨b,0,none⟩))/\w.heap[b]? = some (.cells #[p,v] tB (0,0)) /\
  ((v=.slice none 0 0/\og=none/\bs=[])∨∃ g cap cur fz,og=some g/\b < g/\v=.slice (some ⟨g,0,none⟩) bs.length cap/\w.heap[g]? = some (.cells cur 5 fz)/\fz.2<=bs.length/\bs.length<=cap/\cap<=maxLen/\cur.size=cap/\cur.toList.take bs.length=Lib.byteCells bs)
def Res.bld (b:Nat) (og:Option Nat) (bs:Bs):Res where
 foot:=b::og.toList
 holds:=Qis b og bs
 loc:=by
  rintro w w' hb ⟨p,v,hp,h1,h2⟩;refine ⟨p,v,hp,by rw [hb b (by simp)];exact h1,?_⟩;rcases h2 with h2 | ⟨g,cap,cur,fz,rfl,h3,h4,h5,h6⟩
  ·
   exact .inl h2
  exact .inr ⟨g,cap,cur,fz,rfl,h3,h4,by rw [hb g (by simp)];exact h5,h6⟩
theorem Heap.newBld {w0 w:World}{B:LN}{G:List Res} (h:Heap w0 B w G):Heap w0 B (w.alloc (Yo #[.pointer none,.slice none 0 0] tB)) (Res.bld w.heap.size none []::G) :=
 h.new _ ⟨_,_,.inl rfl,heap_alloc_new w _,.inl ⟨rfl,rfl,rfl⟩⟩ (by simp [Res.bld])
theorem QAu {b:Nat}{og:Option Nat}{bs:Bs}{w:World} (h:Qis b og bs w):Lib.IsBuilderF tB 5 b b (Lib.byteCells bs) w:=by
 obtain ⟨p,v,hp,h1,h2⟩:=h
 have hv:w.ownsRowF b 5 1 v (Lib.byteCells bs).length (Lib.byteCells bs)/\v.ownBlock≠some b:=by
  rw [Lib.byteCells_length];rcases h2 with ⟨rfl,rfl,rfl⟩ | ⟨g,cap,cur,fz,rfl,h3,rfl,h5,hz,h6,h7,h8,h9⟩
  ·
   exact ⟨⟨rfl,.inl ⟨rfl,rfl⟩⟩,by simp [Uk]⟩
  refine ⟨⟨by simp [Lib.byteCells_length],.inr ⟨g,cap,cur,fz,rfl,by omega,h5,by omega,h6,h7,by omega,by simpa using h9⟩⟩,?_⟩;simp only [Uk,ne_eq,Option.some.injEq];omega
 rcases hp with rfl | rfl
 ·
  exact .inl ⟨U3 _,v,h1,hv.1,hv.2⟩
 exact .inr ⟨U3 _,v,h1,hv.1,hv.2⟩
theorem QLb {b:Nat}{bs:Bs}{w:World} (h:Lib.BuilderAtF tB 5 b b (.pointer (some ⟨b,0,none⟩)) (Lib.byteCells bs) w):∃ og,Qis b og bs w/\∀ x∈(Res.bld b og bs).foot,b<=x/\x < w.heap.size:=by
 obtain ⟨_,v,hb,⟨hl,hv⟩,hne⟩:=h;have hbs:b < w.heap.size:=(Array.getElem?_eq_some_iff.1 hb).1;rw [Lib.byteCells_length] at hv;rcases hv with ⟨rfl,h0⟩ | ⟨g,cap,cur,fz,rfl,h1,h2,hz,h3,h4,h5,h6⟩
 ·
  refine ⟨none,⟨_,_,.inr rfl,hb,.inl ⟨rfl,rfl,Xx h0⟩⟩,?_⟩;intro x hx;simp only [Res.bld,Option.toList_none,List.mem_singleton] at hx;omega
 have hg:g < w.heap.size:=(Array.getElem?_eq_some_iff.1 h2).1;have hgb:g≠b:=fun e=>hne (by simp [Uk,e]);refine ⟨some g,⟨_,_,.inr rfl,hb,.inr ⟨g,cap,cur,fz,rfl,by omega,rfl,h2,by omega,h3,h4,by omega,by simpa using h6⟩⟩,?_⟩;intro x hx;simp only [Res.bld,X4,Yp,Xw,or_false] at hx;omega
theorem Qhs {w0 w w':World}{B:LN}{G:List Res}{r r':Res}{b:Nat} (h:Heap w0 B w (r::G)) (hb0:w0.heap.size<=b) (hw:RowKit.Below b w w') (hG:∀ s∈G,∀ x∈s.foot,x < b) (hr:r'.holds w') (hf:∀ x∈r'.foot,b<=x/\x < w'.heap.size):Heap w0 B w' (r'::G):=by
 have hle:w0.heap.size<=w.heap.size:=h.upd.size;refine ⟨⟨hw.os.trans h.upd.os,hw.tape.trans h.upd.tape,hw.output.trans h.upd.output,Nat.le_trans hle hw.size,fun k hk hn=>(hw.block k (by omega)).trans (h.upd.block k hk hn)⟩,?_,?_,?_⟩
 ·
  intro s hs;rcases Yp.1 hs with rfl | hs
  ·
   exact hr
  exact s.loc w w' (fun x hx=>hw.block x (hG s hs x hx)) (h.holds s (Yt _ hs))
 ·
  intro s hs x hx;rcases Yp.1 hs with rfl | hs
  ·
   have:=hf x hx;exact ⟨.inr (by omega),this.2⟩
  have h1:=h.foot s (Yt _ hs) x hx;exact ⟨h1.1,Nat.lt_of_lt_of_le h1.2 hw.size⟩
 refine Y2.2 ⟨fun s hs x hx hx2=>?_,(Y2.1 h.apart).2⟩;have h1:=hf x hx;have h2:=hG s hs x hx2;omega
theorem Qa8 {w0 w:World}{B:LN}{G:List Res}{b:Nat}{og:Option Nat}{bs:Bs} (s:Bs) (h:Heap w0 B w (Res.bld b og bs::G)) (hb0:w0.heap.size<=b) (hG:∀ r∈G,∀ x∈r.foot,x < b) (hl:bs.length+s.length<=140737488355328) :
  Does Yf 91 #[.pointer (some ⟨b,0,none⟩),Ab s] w fun v w'=>∃ og',Heap w0 B w' (Res.bld b og' (bs++s)::G)/\Lib.OthersKept 5 (some b) w w'/\v=.tuple #[.int .i64 s.length,.nilIface]:=by
 intro n;have hi:=QAu ((h.drewN 0 n).at 0 rfl);have hb:=((h.drewN 0 n).foot _ (Yg ..) b (by simp [Res.bld])).2;have hm:=Go.Proofs.Any.Builder_WriteString_k { Qip with } W4 b b (Lib.byteCells bs) ⟨s.toArray⟩ (w.drewN n) hi (by rw [Lib.byteCells_length];simpa [ByteArray.size] using hl) (by omega);refine hm.mono fun e w' ⟨he,hB,hw,hk⟩=>?_;have hbs:Lib.byteCells bs++Lib.strCells ⟨s.toArray⟩=Lib.byteCells (bs++s):=by simp [Lib.byteCells,Lib.strCells]
 rw [hbs] at hB;obtain ⟨og',h1,h2⟩:=QLb hB;have hz:(⟨s.toArray⟩:ByteArray).size=s.length:=by simp [ByteArray.size]
 rw [hz] at he;exact ⟨_,w',0,he,rfl,og',Qhs (Heap.drewN (n:=0) (m:=n) h) hb0 hw hG h1 h2,hk,rfl⟩
theorem Qap {w0 w:World}{B:LN}{G:List Res}{b:Nat}{og:Option Nat}{bs:Bs} (h:Heap w0 B w (Res.bld b og bs::G)) (hb0:w0.heap.size<=b) (hG:∀ r∈G,∀ x∈r.foot,x < b) :
  Does Yf 92 #[.pointer (some ⟨b,0,none⟩)] w fun v w'=>Heap w0 B w' G/\v=Ab bs:=by
 intro n;have hi:=QAu ((h.drewN 0 n).at 0 rfl);have hb:=((h.drewN 0 n).foot _ (Yg ..) b (by simp [Res.bld])).2;have hm:=Go.Proofs.Any.Builder_String_any_k Qoh { W4 with } b b bs (w.drewN n) hi (by omega);refine hm.mono fun e w' ⟨he,_,hw,_⟩=>?_;have h2:Heap w0 B w' (⟨[],fun _=>True,fun _ _ _ _=>trivial⟩::G):=Qhs (Heap.drewN (n:=0) (m:=n) h) hb0 hw hG trivial (by simp);exact ⟨_,w',0,he,rfl,h2.sub (Yj _ _),rfl⟩
def Tm (b:Nat) (w:World):LN:=b::(Yq w.heap.size).filter fun k=>match w.heap[k]? with | some (.cells _ e _)=>e == 5 | _=>false
theorem QFg {b:Nat}{w w1 w':World} (h:Upd [] w w1) (hk:Lib.OthersKept 5 (some b) w1 w'):Ext (holes (Tm b w) w) w':=by
 refine .holes fun k hk2 hB=>?_;have hne:k≠b:=fun e=>hB (by simp [Tm,e]);have h1:w1.heap[k]? = w.heap[k]? := h.block k hk2 (by simp);rw [<- h1];cases ho:w1.heap[k]? with
 | none =>
  rw [h1,Array.getElem?_eq_getElem hk2] at ho;cases ho
 | some o =>
  refine hk k o ho (by simpa using hne) ?_;rintro c fz rfl;refine hB ?_;rw [h1] at ho;refine Yt _ (Uh.2 ⟨Ul.2 hk2,?_⟩);rw [ho];simp
theorem QFh {b g T:Nat}{cs:LV}{w:World} (h:(Xd g T cs).holds w) (hT:T≠5) (hb:g≠b):g ∉ Tm b w:=by
 intro hm;simp only [Tm,Yp,Uh,Ul] at hm;rcases hm with hm | ⟨_,hm⟩
 ·
  exact hb hm
 obtain ⟨fz,hh,_⟩:=h;rw [hh] at hm;exact hT (by simpa using hm)
abbrev tH:Nat:=218
abbrev R4 (p:Bs) (n:Nat) (k:UInt8) (m t:Nat) (l n0 n1:Bs) (i0 i1:Nat):LV:=[Ab p,.int .i64 n,.int .u8 k.toNat,.int .i64 m,.int .i64 t,Ab l,Ab n0,Ab n1,.int .i64 i0,.int .i64 i1]
abbrev QGm (p:Bs) (n:Nat) (k:UInt8) (m t:Nat) (l n0 n1:Bs) (i0 i1:Nat):Value:=.agg (R4 p n k m t l n0 n1 i0 i1).toArray
abbrev hd0:Value:=QGm [] 0 0 0 0 [] [] [] 0 0
abbrev hdB (g:Nat) (p:Bs) (n:Nat) (k:UInt8) (m t:Nat) (l n0 n1:Bs) (i0 i1:Nat):Res:=Xd g tH (R4 p n k m t l n0 n1 i0 i1)
theorem bdF {KV:Value->Prop} (s0:ByteArray):Ca Yf 261 [(0,.string s0)] KV=KV (.agg #[.string s0,.int .i64 0]):=Cx (by kernel_rfl)
attribute [go_sem ↓] bdF
abbrev tF:Nat:=261
abbrev Li (s:Bs):Value:=.agg #[Ab s,.int .i64 0]
theorem Kh (n width:Nat) (w:World) (h1:2<=width) (h2:width<=20) (hn:n < 8 ^ (width - 1)) (hm:n<=9007199254740992) :
  Does Yf 172 #[.int .i64 n,.int .i64 width] w fun v w'=>Heap w [] w' []/\v=Li (Bm n width):=by
 refine En [.int .i64 n,.int .i64 width] 16 Tryz.func172 ?_;refine VQ [0,1,4] fun K hK=>?_;refine Bo (Li []) (by kernel_rfl) ?_;refine Qs ?_;have hH:=(Ym w).box tF [Ab [],.int .i64 0];generalize w.alloc (Yo #[Ab [],.int .i64 0] tF)=w1 at *;generalize w.heap.size=g at *;apply hK;clear hK;refine VQ [4,5,6] fun K hK=>?_;refine Aa Tryz.call174 ?_;refine Qs ?_;refine Yc (Qho n width w1 h1 h2 hn hm) ?_;rintro v w2 ⟨hHo,rfl⟩;have hH2:=hH.call0 hHo;simp only [Ya] at hH2;apply hK;clear hK;refine VQ [4] fun K hK=>?_;refine Ag ?_;refine Qs ?_;refine Ap hH2 0 (vs:=[Ab (Bm n width),.int .i64 0]) rfl rfl (by kernel_rfl) (by first | decide | (simp;done) | (simp;omega)) (by simp [Yw]) fun w6 hH3=>?_;(try refine Qs ?_);apply hK;clear hK;exact Ae (Np rfl rfl (Fm (hH3.at 0 rfl) (by kernel_rfl) (by kernel_rfl) rfl ⟨hH3.sub (by simp),rfl⟩))
theorem Eh (s:Bs) (width most:Nat) (w:World) (hs:s.length<=width) (hm:s.length<=most) (hw:width<=512) (h0:(0:UInt8) ∉ s) :
  Does Yf 171 #[Ab s,.int .i64 width,.int .i64 most] w fun v w'=>Heap w [] w' []/\v=Li (A1 s width):=by
 refine En [Ab s,.int .i64 width,.int .i64 most] 22 Tryz.func171 ?_;refine VQ [0,1,2,6] fun K hK=>?_;refine Bo (Li []) (by kernel_rfl) ?_;refine Qs ?_;have hH:=(Ym w).box tF [Ab [],.int .i64 0];generalize w.alloc (Yo #[Ab [],.int .i64 0] tF)=w1 at *;generalize w.heap.size=g at *;apply hK;clear hK;refine VQ [0,2,6,7,8] fun K hK=>?_;refine Aa Tryz.call203 ?_;refine Qs ?_;refine Yc (Qrv s width w1 hs hw h0) ?_;rintro v w2 ⟨hHo,rfl⟩;have hH2:=hH.call0 hHo;simp only [Ya] at hH2;apply hK;clear hK;refine VS [6,7,8,18] ?_;refine Do [6,7,8] (fun e w'=>Is e [(6,pV g),(7,Ab (A1 s width)),(8,.int .i64 0)]/\Is w' w2) ?_ ?_
 ·
  refine Ai rfl rfl (fun h=>absurd h (by simp;omega)) (fun h=>Ad ?_);refine Ah ?_;refine Qs ?_;exact ⟨rfl,rfl⟩
 rintro e w' ⟨rfl,rfl⟩;refine VQ [6] fun K hK=>?_;refine Ag ?_;refine Qs ?_;refine Ap hH2 0 (vs:=[Ab (A1 s width),.int .i64 0]) rfl rfl (by kernel_rfl) (by first | decide | (simp;done) | (simp;omega)) (by simp [Yw]) fun w6 hH3=>?_;(try refine Qs ?_);apply hK;clear hK;exact Ae (Np rfl rfl (Fm (hH3.at 0 rfl) (by kernel_rfl) (by kernel_rfl) rfl ⟨hH3.sub (by simp),rfl⟩))
def Wh (s:Bs):LV:=[Ab s,.int .i64 0]
def Nr (l:List Bs):LV:=Bw Wh l
theorem Oe (l:List Bs) (ga c:Nat) (w:World) (hl:RS w (some ⟨ga,0,none⟩) l.length 2 (Nr l)) (hga:ga < w.heap.size) (hn:l.length<=100) (hb:l.flatten.length<=100000) :
  Does Yf 170 #[.slice (some ⟨ga,0,none⟩) l.length c] w fun v w'=>Heap w [] w' []/\v=.tuple #[Ab l.flatten,.bool true]:=by
 refine En [.slice (some ⟨ga,0,none⟩) l.length c] 21 Tryz.func170 ?_;refine VS [0] ?_;refine VQ [0,4] fun K hK=>?_;refine Bo (.agg #[.pointer none,.slice none 0 0]) (by kernel_rfl) ?_;refine Qs ?_;have hH:=Heap.newBld (Ym w);generalize hw1:w.alloc (Yo #[.pointer none,.slice none 0 0] tB)=w1 at *;obtain ⟨g,hg⟩:∃ g,g=w.heap.size:=⟨_,rfl⟩;have hg0:w.heap.size<=g:=by omega
 rw [<- hg] at hH ⊢;apply hK;clear hK;refine VS [4,7,8,9] ?_;refine Aq ?_;refine Ay [4,7,8,9] (fun m e w'=>∃ (i:Nat) (og:Option Nat),Is e [(4,pV g),(7,.slice (some ⟨ga,0,none⟩) l.length c),(8,.int .i64 l.length),(9,.int .i64 i)]/\Heap w [] w' [Res.bld g og (l.take i).flatten]/\i<=l.length/\m=l.length - i) l.length ?_ ?_
 ·
  refine Qs ?_;exact ⟨0,none,rfl,hH,by omega,rfl⟩
 clear hH hw1 w1;rintro m e w' ⟨i,og,rfl,hH,hi,rfl⟩;refine VS [4,7,8,9,10] ?_;(repeat refine Aw ?_);refine VD (fun h=>?_) (fun h=>?_)
 ·
  have hi2:i < l.length:=by omega
  obtain ⟨x,hx⟩:∃ x,l[i]? = some x:=⟨l[i],Ye hi2⟩;refine Ad ?_;refine VB ?_;have hrd:Reads w (Addr.add ⟨ga,0,none⟩ (i * 2)) (Wh x):=Mw (k:=2) (f:=Wh) (fun _=>rfl) hl rfl hx;have hrd2:Reads w' (Addr.add ⟨ga,0,none⟩ (i * 2)) (Wh x):=hH.reads hrd (by simp);rw [Bv,Xj] at hrd2;refine VQ [4,6,7,8,9] fun K hK=>?_;(repeat first | refine Qo ?_ | refine Qp ?_);refine ⟨Wh x,⟨rfl,hrd2⟩,?_⟩;refine Bo (Li []) (by kernel_rfl) ?_;refine Qs ?_;have hH2:=hH.box tF [Ab [],.int .i64 0];generalize w'.alloc (Yo #[Ab [],.int .i64 0] tF)=w2 at *;generalize w'.heap.size=gf at *;refine Ag ?_;refine Qs ?_;refine Ap hH2 0 (vs:=[Ab x,.int .i64 0]) rfl rfl (by kernel_rfl) (by first | decide | (simp;done) | (simp;omega)) (by simp [Yw]) fun w6 hH3=>?_;(try refine Qs ?_);have hH3:Heap w [] w6 [Xd gf tF [Ab x,.int .i64 0],Res.bld g og (l.take i).flatten]:=hH3;clear hH hH2 hrd2;apply hK;clear hK;have c1:w6.cell? ⟨gf,1,none⟩=some (.int .i64 0):=Af (hH3.at 0 rfl) rfl;have c0:w6.cell? ⟨gf,0,none⟩=some (Ab x):=Af (hH3.at 0 rfl) rfl;refine VQ [4,6,7,8,9,15] fun K hK=>?_;refine ⟨_,c1,?_⟩;refine Qs ?_;apply hK;clear hK;refine Ai rfl rfl (fun h=>by simp at h) (fun h=>Ad ?_)
  have hfl:(l.take i).flatten.length+x.length<=140737488355328:=by
   have e:l=l.take i++(x::l.drop (i+1)):=by
    have h3:l.drop i=x::l.drop (i+1):=by rw [Xl hi2,(X7.1 hx).2]
    rw [<- h3,Y8]
   have h2:=congrArg (fun l=>l.flatten.length) e;simp only [Up,Yn,List.flatten_cons] at h2;omega
  refine VQ [4,7,8,9] fun K hK=>?_;refine ⟨_,c0,?_⟩;refine Aa Tryz.call91 ?_;refine Qs ?_;refine Yc (Qa8 x (hH3.sub (Yj _ _)) hg0 (by simp) hfl) ?_;rintro v w7 ⟨og2,hH4,_,rfl⟩;apply hK;clear hK;refine An ?_;refine VS [4,7,8,9] ?_;refine Ah ?_;refine Qs ?_;refine ⟨l.length - (i+1),by omega,i+1,og2,rfl,?_,by omega,rfl⟩;rw [Qb2 hx,Up];simpa using hH4
 obtain rfl:i=l.length:=by omega
 rw [Xe] at hH;refine Ax rfl ?_;refine VQ [2,3] fun K hK=>?_;refine Aa Tryz.call92 ?_;refine Qs ?_;refine Yc (Qap hH hg0 (by simp)) ?_;rintro v w7 ⟨hH4,rfl⟩;apply hK;clear hK;exact Ae (Bp rfl rfl rfl ⟨hH4,rfl⟩)
def Qm9 (p:Bs):Value :=
 match Iy p with
 | some q=>.tuple #[Ab q.1,Ab q.2,.bool true]
 | none=>.tuple #[Ab [],Ab [],.bool false]
theorem Qfe (p:Bs) (w:World) (hp:p.length<=1000000000):Does Yf 100 #[Ab p] w fun v w'=>w'=w/\v=Qm9 p:=by
 rw [Qm9,Iy];refine En [Ab p] 40 Tryz.func100 ?_;refine VS [0] ?_;refine VS [0,8] ?_;refine VD (fun h=>?_) (fun h=>Ad ?_)
 ·
  rw [if_pos (by omega)];refine VS [2,3,4] ?_;exact Ae (Q8 rfl rfl rfl rfl ⟨rfl,rfl⟩)
 rw [if_neg (by omega)];refine VS [0,5] ?_;refine Aq ?_;refine Ay [0,5] (fun m e w'=>∃ (i:Nat),Is e [(0,Ab p),(5,.int .i64 i)]/\Is w' w/\1<=i/\i<=p.length/\Pt p p.length 1=Pt p (p.length+1 - i) i/\m=p.length - i) (p.length - 1) ?_ ?_
 ·
  refine Qs ?_;exact ⟨1,rfl,rfl,by omega,by omega,by rw [Y7],rfl⟩
 rintro m e w' ⟨i,rfl,rfl,hi1,hi,hs,rfl⟩;rw [hs];clear hs;obtain ⟨f,hf⟩:∃ f,p.length+1 - i=f+1:=⟨p.length - i,by omega⟩;rw [hf,Pt];refine VQ [0,5,18] fun K hK=>?_
 suffices out:∀ c:Bool,(c=true ↔ i+1 < p.length/\i<=155)->K [(0,Ab p),(5,.int .i64 i),(18,.bool c)] w' by
  refine And.intro (X1 (by omega) (by omega)) (And.intro (fun h3=>out _ ?_) (fun h3=>out _ ?_))
  ·
   rw [decide_eq_true_eq];omega
  simp only [Xp,false_iff];omega
 intro c hc;apply hK;clear hK;refine Ai rfl rfl (fun h2=>?_) (fun h2=>?_)
 ·
  have h3:=hc.1 h2;rw [if_pos h3];refine Ad ?_;refine VB ?_;refine VQ [0,5,32] fun K hK=>?_
  suffices out:∀ c:Bool,(c=true ↔ p.getD i 0=47/\p.length - i - 1<=100)->K [(0,Ab p),(5,.int .i64 i),(32,.bool c)] w' by
   refine And.intro (by omega) (And.intro (fun h3=>And.intro (X1 (by omega) (by omega)) (And.intro (X1 (by omega) (by omega)) (out _ ?_))) (fun h3=>out _ ?_))
   ·
    rw [decide_eq_true_eq,<- i8 (p.getD i 0) 47 (n:=47) rfl];omega
   rw [i8 (p.getD i 0) 47 (n:=47) rfl] at h3;simp only [Xp,false_iff];exact fun h5=>h3 h5.1
  intro c hc;apply hK;clear hK;refine Ai rfl rfl (fun h4=>?_) (fun h4=>Ad ?_)
  ·
   rw [if_pos (hc.1 h4)];refine Vq [2,3,4] fun K hK=>?_;refine And.intro (by omega) (And.intro (X1 (by omega) (by omega)) (And.intro (by omega) ?_));apply hK;clear hK;exact Ae (Q8 rfl rfl rfl rfl ⟨rfl,rfl⟩)
  rw [if_neg (fun h5=>by rw [hc.2 h5] at h4;cases h4)];refine An ?_;refine VS [0,5] ?_;refine Ah ?_;refine Qs ?_;exact ⟨p.length - (i+1),by omega,i+1,rfl,rfl,by omega,by omega,by rw [show p.length+1 - (i+1)=f by omega],rfl⟩
 rw [if_neg (fun h5=>by rw [hc.2 h5] at h2;cases h2)];refine Ax rfl ?_;refine VS [2,3,4] ?_;exact Ae (Q8 rfl rfl rfl rfl ⟨rfl,rfl⟩)
theorem Qbr (s:Bs) (c:UInt8) (w:World):Does Yf 132 #[Ab s,Ab [c]] w fun v w'=>w'=w/\v=.bool (decide (0<=Lib.indexByte s c)) :=
 Vl fun w=>Go.Proofs.Any.strings_Contains_one Ql1 ⟨s.toArray⟩ c w
end Go.Proofs.YtfinjnahapbemaaGreatDoor
namespace Go.Eng
open Go
def Oc (P:Program) (N:Nat) (ops:List Oper):L7->World->Env->World->(Env->World->Prop)->Prop
 | .seq pre,w0,e,w,K=>Av P N ops w0 (A6 ops pre) e w K
 | .two pre i j k k',w0,e,w,K=>Av P N ops w0 (A6 ops pre) e w fun e w =>
   Av P N ops w0 (A6 ops [(i,false)]) e w (fun e w=>Oc P N ops k w e w K)/\Av P N ops w0 (A6 ops [(j,false)]) e w (fun e w=>Oc P N ops k' w e w K)
theorem Fz {P:Program}{N:Nat}{ops:List Oper}{w0 w:World}{pre:List (Nat×Bool)}{e:Env}{K:Env->World->Prop}:Oc P N ops (.seq pre) w0 e w K=Av P N ops w0 (A6 ops pre) e w K:=rfl
theorem Ff {P:Program}{N:Nat}{ops:List Oper}{w0 w:World}{pre:List (Nat×Bool)}{i j:Nat}{k k':L7}{e:Env}{K:Env->World->Prop}:Oc P N ops (.two pre i j k k') w0 e w K=(Av P N ops w0 (A6 ops pre) e w fun e w =>
  Av P N ops w0 (A6 ops [(i,false)]) e w (fun e w=>Oc P N ops k w e w K)/\Av P N ops w0 (A6 ops [(j,false)]) e w (fun e w=>Oc P N ops k' w e w K)):=rfl
theorem Fx {P:Program}{N:Nat}{ops:List Oper}{w0 w:World}{e:Env}{K:Env->World->Prop}:Av P N ops w0 [] e w K=K e w:=rfl
theorem Qa9 {P:Program}{ops:Array Oper}{Q:Exit->Act->World->Prop}{S S':World->Prop} (hS:∀ w,S' w->S w):∀ (fuel:Nat) (listed:Array Bool) (a:Act) (w:World),wpAnyH P .any ops Q S' fuel listed a w->wpAnyH P .any ops Q S fuel listed a w
 | 0,_,_,_,h=>h
 | fuel+1,_,_,_,h=>⟨h.1,fun i hi=>wpOp_mono (fun a' w' h'=>⟨hS _ h'.1,Qa9 hS fuel _ a' w' h'.2⟩) (h.2 i hi)⟩
section
variable {P:Program}{N:Nat}{ops:List Oper}{Q:Exit->Act->World->Prop}
theorem Qwg {K:Env->World->Prop} (hN:ops.all (Ct N)=true) (hsel:Region.noSelect ops.toArray=true)
  (hQ:∀ c a w (d:Option Tmp) v,Q (.panic c) (a.put d v) w->Q (.panic c) a w)
  (hK:∀ e a w n,Fits N e a->K e w->Q .normal a (w.drewN n)):∀ (t:L7) (w0:World) (fuel:Nat) (listed:Array Bool) (e:Env) (a:Act) (w:World) (n:Nat),
   M2 ops.toArray t fuel listed=true->Fits N e a->Ext w0 w->Oc P N ops t w0 e w K ->
   wpAnyH P .any ops.toArray Q (fun w'=>Ext w0 w') fuel listed a (w.drewN n):=by
 intro t
 induction t with
 | seq pre =>
  intro w0 fuel listed e a w n ht ha hx h;simp only [M2,Xf,decide_eq_true_eq] at ht;obtain ⟨hf,ht⟩:=ht;cases hp:Ko ops.toArray pre listed with
  | none=>rw [hp] at ht;cases ht
  | some l =>
   rw [hp] at ht;simp only [List.isEmpty_iff] at ht;exact Q0 hN hsel hQ pre fuel listed l e a w n hf hp ha hx h fun e a w n h1 _ h3=>wpAnyH_done ht (hK e a w n h1 h3) _
 | two pre i j k k' ihk ihk' =>
  intro w0 fuel listed e a w n ht ha hx h;simp only [M2,Xf,decide_eq_true_eq] at ht;obtain ⟨hf,ht⟩:=ht;cases hp:Ko ops.toArray pre listed with
  | none=>rw [hp] at ht;cases ht
  | some l =>
   rw [hp] at ht;simp only [Xf,beq_iff_eq,decide_eq_true_eq] at ht;obtain ⟨⟨⟨⟨hr,hi⟩,hj⟩,h1⟩,h2⟩:=ht;refine Q0 hN hsel hQ pre fuel listed l e a w n (by omega) hp ha hx h fun e a w n g1 g2 g3=>?_;obtain ⟨m,hm⟩:∃ m,fuel - pre.length=m+1:=⟨fuel - pre.length - 1,by omega⟩;rw [hm];have hm':fuel - pre.length - 1=m:=by omega
   rw [hm'] at h1 h2;refine wpAnyH_all hr (by simp) ?_;intro x hx2;simp only [Yp,Xw,or_false] at hx2;rcases hx2 with rfl | rfl
   ·
    exact Nn hN (by simpa using hi) g1 g2 g3.1 fun e a w n f1 f2 f3=>⟨f2.trans (Ext.drewN w n),Qa9 (fun w' h=>f2.trans h) _ _ _ _ (ihk w m _ e a w n h1 f1 (Ext.refl _) f3)⟩
   exact Nn hN (by simpa using hj) g1 g2 g3.2 fun e a w n f1 f2 f3=>⟨f2.trans (Ext.drewN w n),Qa9 (fun w' h=>f2.trans h) _ _ _ _ (ihk' w m _ e a w n h2 f1 (Ext.refl _) f3)⟩
end
theorem Qht {P:Program}{fn:Func}{F:Value->World->Prop}{N:Nat}{k:List It}{e:Env}{w:World} (ks:LN) (t:L7) {id:Nat}{ops:List Oper}
  (hm:P.follows .mixedOrders=true) (hB:(M2 ops.toArray t ops.toArray.size (Array.replicate ops.toArray.size false) && Region.noSelect ops.toArray)=true) (hN:ops.all (Ct N)=true)
  (h:∀ K:Env->World->Prop,(∀ e w,VC ⟨P,fn,F,N⟩ k e w->K e w)->Oc P N ops t w e w (Dh ks K)):VC ⟨P,fn,F,N⟩ (.code (.region id ops.toArray true)::k) e w:=by
 intro a n ha;simp only [Xf] at hB;obtain ⟨hB1,hB2⟩:=hB;refine wp_region_held (S:=fun w'=>Ext w w') hm ?_;refine Qwg (K:=Dh ks (VC ⟨P,fn,F,N⟩ k)) hN hB2 (fun c a w d v hq=>T4 d v hq) (fun e a w n ha hv=>?_) t w _ _ e a w (n+1) hB1 ha (Ext.refl _) (h _ fun _ _ hv=>hv);exact ((Kj ks e _).1 hv) a n (ha.sel ks)
theorem F5 {P:Program}{N:Nat}{ops:List Oper}{t:L7}{w:World}{e:Env}{K:Env->World->Prop} (h:Heap w [] w []->Oc P N ops t w e w K):Oc P N ops t w e w K:=h (Ym w)
end Go.Eng
namespace Go.Proofs.YtfinjnahapbemaaGreatDoor
open Go Go.Eng
set_option maxHeartbeats 20000000
abbrev QGn (p:Bs) (n:Nat) (k:UInt8):Value:=QGm p n k 420 0 [] [] [] 0 0
theorem Qwh (p pre nm:Bs) (k:UInt8) (n:Nat) (w:World) (hs:Iy p=some (pre,nm)) (hp:p≠[]) (hpl:p.length<=1000) (h0:(0:UInt8) ∉ p) (hk:k=48∨k=120) (hn:n < 8 ^ 11) :
  Does Yf 130 #[QGn p n k] w fun v w'=>Heap w [] w' []/\v=.tuple #[Ab (Ms pre nm k n),.int .i64 0]:=by
 obtain ⟨q1,q2,q3,q4⟩:=Qa6 hs hp
 obtain ⟨z1,z2⟩:(0:UInt8) ∉ pre/\(0:UInt8) ∉ nm:=by
  rw [<- q4] at h0;split at h0
  ·
   rename_i h00;subst h00;exact ⟨by simp,h0⟩
  exact ⟨fun hh=>h0 (by simp [hh]),fun hh=>h0 (by simp [hh])⟩
 refine En [QGn p n k] 117 Tryz.func130 ?_;refine Aj [1] fun K hK=>?_;refine Dl ?_;refine Qi ?_;have hH:Heap w [] (w.alloc (Yo (R4 p n k 420 0 [] [] [] 0 0).toArray tH)) [hdB w.heap.size p n k 420 0 [] [] [] 0 0]:=(Ym w).box tH (R4 p n k 420 0 [] [] [] 0 0);generalize w.alloc (Yo (R4 p n k 420 0 [] [] [] 0 0).toArray tH)=w1 at *;generalize w.heap.size=gh at *;apply hK;clear hK;have hc:∀ {w':World},Heap w [] w' [hdB gh p n k 420 0 [] [] [] 0 0]->w'.cell? ⟨gh,0,none⟩=some (Ab p):=fun h=>Af (h.at 0 rfl) rfl;refine Aj [1,4,5,6] fun K hK=>?_;refine ⟨_,hc hH,?_⟩;refine Aa Tryz.call100 ?_;refine Qi ?_;refine Yc (Qfe p w1 (by omega)) ?_;rintro v w2 ⟨rfl,rfl⟩;rw [Qm9,hs];refine Qi ?_;apply hK;clear hK;refine Aj [1,4,5,27] fun K hK=>?_;refine ⟨_,hc hH,?_⟩;refine Qi ?_;apply hK;clear hK;refine Ai rfl rfl (fun h=>absurd h (by simp [hp])) (fun h=>Ad ?_);clear h;have hck:∀ {w':World}{G:List Res},Heap w [] w' (hdB gh p n k 420 0 [] [] [] 0 0::G)->w'.cell? ⟨gh,2,none⟩=some (.int .u8 k.toNat):=fun h=>Af (h.at 0 rfl) rfl;refine Aj [1,4,5,39] fun K hK=>?_;refine ⟨_,hck hH,?_⟩;refine Ei hH (Ao [k]) (xs:=[.tmp 29]) Yh E5 rfl rfl rfl (by omega) ?_;refine Qi ?_;refine ⟨rfl,by simp [Yu],fun g w4 hH2=>?_⟩;(try refine Qi ?_);refine ⟨[k],Fw (As (hH2.at 0 rfl)),?_⟩;refine Aa Tryz.call132 ?_;refine Qi ?_;refine Yc (Qbr [48,53,120,103] k _) ?_;rintro v w5 ⟨rfl,rfl⟩;rw [show decide (0<=Lib.indexByte [48,53,120,103] k)=true by rcases hk with rfl | rfl <;> rfl];refine Qi ?_;have hH3:Heap w [] w5 [hdB gh p n k 420 0 [] [] [] 0 0]:=hH2.sub (Yj _ _);clear hH hH2;refine ⟨_,hc hH3,?_⟩;refine Aa Tryz.call169 ?_;refine Qi ?_;refine Yc (Qe8 p _) ?_;rintro v w6 ⟨rfl,rfl⟩;rw [Qkq h0];refine Qi ?_;apply hK;clear hK;refine Ai rfl rfl (fun h=>absurd h (by simp)) (fun h=>Ad ?_);clear h;have rl:∀ (i:Nat) (u:Value),(R4 p n k 420 0 [] [] [] 0 0)[i]? = some u->w6.cell? ⟨gh,i,none⟩=some u:=fun i u h=>Af (hH3.at 0 rfl) h;(repeat refine Aw ?_);refine T5 _ (Ext.refl _) [1,4,6,7] [(0,true),(2,true),(3,true),(5,true),(6,true),(7,true),(9,true),(10,true),(11,true),(13,true),(14,true),(16,true),(17,true),(1,false),(4,false),(8,false),(12,false),(15,false),(18,false),(19,false),(20,false),(21,false),(22,true),(23,true),(24,true),(25,true),(26,true)] (by kernel_rfl) (by kernel_rfl) rfl (by simp only [A6,List.filterMap_cons,List.filterMap_nil,List.getElem?_cons_succ,List.getElem?_cons_zero,Option.map_some];rfl) fun K hK=>?_;refine Qi ?_;refine ⟨_,rl 3 _ rfl,⟨by omega,by omega⟩,_,rl 8 _ rfl,⟨by omega,by omega⟩,_,rl 9 _ rfl,_,rl 1 _ rfl,_,rl 4 _ rfl,?_⟩;clear rl;have hE:=Ym w6;refine Aa Yk ?_;refine Qi ?_;refine Yc (Eh nm 100 100 _ q2 q2 (by omega) z2) ?_;rintro v w7 ⟨hHx,rfl⟩;replace hE:=hE.call0 hHx;rw [Ya] at hE;clear hHx;refine ⟨hE.ext,?_⟩;refine Aa Yv ?_;refine Qi ?_;refine Yc (Kh 420 8 _ (by omega) (by omega) (by decide) (by omega)) ?_;rintro v w7 ⟨hHx,rfl⟩;replace hE:=hE.call0 hHx;rw [Ya] at hE;clear hHx;refine ⟨hE.ext,?_⟩;refine Aa Yv ?_;refine Qi ?_;refine Yc (Kh 0 8 _ (by omega) (by omega) (by decide) (by omega)) ?_;rintro v w7 ⟨hHx,rfl⟩;replace hE:=hE.call0 hHx;rw [Ya] at hE;clear hHx;refine ⟨hE.ext,?_⟩;refine Aa Yv ?_;refine Qi ?_;refine Yc (Kh 0 8 _ (by omega) (by omega) (by decide) (by omega)) ?_;rintro v w7 ⟨hHx,rfl⟩;replace hE:=hE.call0 hHx;rw [Ya] at hE;clear hHx;refine ⟨hE.ext,?_⟩;refine Aa Yv ?_;refine Qi ?_;refine Yc (Kh n 12 _ (by omega) (by omega) hn (by omega)) ?_;rintro v w7 ⟨hHx,rfl⟩;replace hE:=hE.call0 hHx;rw [Ya] at hE;clear hHx;refine ⟨hE.ext,?_⟩;refine Aa Yv ?_;refine Qi ?_;refine Yc (Kh 0 12 _ (by omega) (by omega) (by decide) (by omega)) ?_
 rintro v w7 ⟨hHx,rfl⟩;replace hE:=hE.call0 hHx;rw [Ya] at hE;clear hHx;refine ⟨hE.ext,?_⟩;refine Aa Yk ?_;refine Qi ?_;refine Yc (Eh [] 8 8 _ (by simp) (by simp) (by omega) (by simp)) ?_;rintro v w7 ⟨hHx,rfl⟩;replace hE:=hE.call0 hHx;rw [Ya] at hE;clear hHx;refine ⟨hE.ext,?_⟩;refine C2 hE 2 (Nr [A1 nm 100,Bm 420 8,Bm 0 8,Bm 0 8,Bm n 12,Bm 0 12,A1 [] 8]) (xs:=[.tmp 42,.tmp 45,.tmp 49,.tmp 53,.tmp 56,.tmp 59,.tmp 60]) Yx N0 rfl rfl rfl (by omega) (by omega) ?_;refine Qi ?_;refine ⟨rfl,by intro v hv;simp only [Yp,Xw,or_false] at hv;rcases hv with rfl | rfl | rfl | rfl | rfl | rfl | rfl <;> rfl,fun ga w8 hE2=>⟨hE2.ext,?_⟩⟩;have ho8:=Ok 420 (width:=8) (by omega);have hz8:=Ok 0 (width:=8) (by omega);have ho12:=Ok n (width:=12) (by omega);have hz12:=Ok 0 (width:=12) (by omega);have htn:=Qf4 q2;have ht8:=Qf4 (show ([]:Bs).length<=8 by simp)
 have hAfl:List.flatten [A1 nm 100,Bm 420 8,Bm 0 8,Bm 0 8,Bm n 12,Bm 0 12,A1 [] 8]=Ln nm n++Cf 8:=by
  simp [Ln,A1,Cf]
 refine Aa Xa ?_;refine Qi ?_;refine Yc (Oe [A1 nm 100,Bm 420 8,Bm 0 8,Bm 0 8,Bm n 12,Bm 0 12,A1 [] 8] ga 7 w8 (As (hE2.at 0 rfl)) (hE2.foot _ (Yg ..) ga (by simp [Yr])).2 (by simp) (by rw [hAfl,Yn,Vs q2,K2];omega)) ?_;rintro v w7 ⟨hHx,rfl⟩;replace hE:=(hE2.sub (Yd _)).call0 hHx;rw [Ya] at hE;clear hHx hE2;rw [hAfl];refine ⟨hE.ext,?_⟩;apply hK;clear hK;replace hH3:=hH3.call0 hE;rw [Ya] at hH3;clear hE
 show VC _ _ [(1,pV gh),(4,Ab pre),(6,.bool true),(7,Ab (Ln nm n++Cf 8))] w7
 have rl:∀ (i:Nat) (u:Value),(R4 p n k 420 0 [] [] [] 0 0)[i]? = some u->w7.cell? ⟨gh,i,none⟩=some u:=fun i u h=>Af (hH3.at 0 rfl) h;(repeat refine Aw ?_);refine Qht [6,7,8,9] (.two [(0,true),(1,true),(5,true),(6,true),(8,true),(9,true),(10,true),(11,true),(13,true),(14,true),(15,true),(19,true)] 2 7 (.seq [(3,true),(4,true),(7,false),(12,false),(16,false),(17,false),(18,false),(20,false),(21,false),(22,false),(23,false),(24,true),(25,true),(26,true),(27,true),(28,true)]) (.two [] 2 12 (.seq [(3,true),(4,true),(12,false),(16,false),(17,false),(18,false),(20,false),(21,false),(22,false),(23,false),(24,true),(25,true),(26,true),(27,true),(28,true)]) (.two [] 2 16 (.seq [(3,true),(4,true),(16,false),(17,false),(18,false),(20,false),(21,false),(22,false),(23,false),(24,true),(25,true),(26,true),(27,true),(28,true)]) (.two [] 2 17 (.seq [(3,true),(4,true),(17,false),(18,false),(20,false),(21,false),(22,false),(23,false),(24,true),(25,true),(26,true),(27,true),(28,true)]) (.two [] 2 18 (.seq [(3,true),(4,true),(18,false),(20,false),(21,false),(22,false),(23,false),(24,true),(25,true),(26,true),(27,true),(28,true)]) (.two [] 2 20 (.seq [(3,true),(4,true),(20,false),(21,false),(22,false),(23,false),(24,true),(25,true),(26,true),(27,true),(28,true)]) (.two [] 2 21 (.seq [(3,true),(4,true),(21,false),(22,false),(23,false),(24,true),(25,true),(26,true),(27,true),(28,true)]) (.seq [(2,false),(3,false),(4,true),(22,false),(23,false),(24,true),(25,true),(26,true),(27,true),(28,true)])))))))) (by kernel_rfl) (by kernel_rfl) rfl fun K hK=>?_
 have last:∀ w9,Heap w7 [] w9 []->K [(6,.bool true),(7,Ab (Ln nm n++Cf 8)),(8,Ab (Nc k pre)),(9,.bool true)] w9:=by
  intro w9 hE;have hW:=hH3.call0 hE;rw [Ya] at hW;clear hE rl hH3
  have hlen:(Ln nm n++Cf 8++Nc k pre).length=512:=by
   rw [Yn,Yn,Vs q2,Mg q1,K2]
  have hsum:Tk (Ln nm n++Cf 8++Nc k pre)=Rx pre nm k n:=by rw [Rx,Xs]
  have hlt:=QFb q1 q2 k n;have hl1:=Vs q2 n;have hl2:=Mg q1 k;apply hK;clear hK;refine Aj [7,8,97] fun K hK=>?_;apply hK;clear hK;refine Ai rfl rfl (fun h=>by simp at h) (fun h=>Ad ?_);refine Aj [7,8,10] fun K hK=>?_;refine And.intro (by simp [K2];omega) ?_;refine Aa Tryz.call173 ?_;refine Qi ?_;refine Yc (Qv6 (Ln nm n++Cf 8++Nc k pre) w9 hlen) ?_;rintro v w10 ⟨rfl,rfl⟩;rw [hsum];apply hK;clear hK;refine Aj [7,8,12] fun K hK=>?_;refine Aa Tryz.call174 ?_;refine Qi ?_;refine Yc (Qho (Rx pre nm k n) 7 w10 (by omega) (by omega) hlt (by omega)) ?_;rintro v w11 ⟨hHo,rfl⟩;replace hW:=hW.call0 hHo;rw [Ya] at hW;apply hK;clear hK;refine Aj [2,3] fun K hK=>?_;have hl3:=Ok (Rx pre nm k n) (width:=7) (by omega);rw [show (Ln nm n++Cf 8).take (Uo 148)=Ln nm n from List.take_left' hl1];refine ⟨⟨by omega,by rw [Yn,hl1,K2];omega⟩,by rw [hl1,hl3];omega,by simp;omega,by simp;omega,?_⟩;apply hK;clear hK;refine Ae (Bp rfl rfl rfl ⟨hW.sub (Yd _),?_⟩);rw [Ms];simp [Xs]
 have hCfl:List.flatten [[k],A1 [] 100,F4,A1 [] 32,A1 [] 32,Bm 0 8,Bm 0 8,A1 pre 155,A1 [] 12]=Nc k pre:=by
  simp [Nc,A1,Cf]
 have hf9:∀ v∈[Li [k],Li (A1 [] 100),Li F4,Li (A1 [] 32),Li (A1 [] 32),Li (Bm 0 8),Li (Bm 0 8),Li (A1 pre 155),Li (A1 [] 12)],v.cells.size=2:=by
  intro v hv;simp only [Yp,Xw,or_false] at hv;rcases hv with rfl | rfl | rfl | rfl | rfl | rfl | rfl | rfl | rfl <;> rfl
 clear hK hH3;rw [Ff];simp only [A6,List.filterMap_cons,List.filterMap_nil,List.getElem?_cons_succ,List.getElem?_cons_zero,Option.map_some];refine Qi ?_;refine ⟨_,rl 2 _ rfl,_,rl 5 _ rfl,?_⟩;refine ⟨⟨by omega,by omega⟩,_,rl 6 _ rfl,⟨by omega,by omega⟩,_,rl 7 _ rfl,?_⟩;clear rl;have hW:=Ym w7;have hE:=Ym w7;refine ⟨?_,?_⟩
 ·
  (refine Ei hE (Ao [k]) (xs:=[.tmp 67]) Yh E5 rfl rfl rfl (by omega) ?_;refine Qi ?_;refine ⟨rfl,by simp [Yu],fun g w4 hE2=>?_⟩;(try refine Qi ?_);replace hE:=hE2;clear hE2;refine ⟨hE.ext,?_⟩;try (refine Qi ?_))
  ((try simp only [Fx]);replace hW:=hW.call0 hE;simp only [Ya,Yl] at hW;clear hE;refine F5 fun hE=>?_;(first | rw [Ff] | rw [Fz]);simp only [A6,List.filterMap_cons,List.filterMap_nil,List.getElem?_cons_succ,List.getElem?_cons_zero,Option.map_some];refine Qi ?_)
  (refine ⟨[k],Fw (by first | exact As (hW.at 0 rfl) | exact As (hE.at 0 rfl)),?_⟩;try (refine Qi ?_))
  (refine Aa Yk ?_;refine Qi ?_;refine Yc (Eh [] 100 100 _ (by simp) (by simp) (by omega) (by simp)) ?_;rintro v w9 ⟨hHx,rfl⟩;replace hE:=hE.call0 hHx;rw [Ya] at hE;clear hHx;refine ⟨hE.ext,?_⟩;try (refine Qi ?_))
  (refine Aa Yk ?_;refine Qi ?_;refine Yc (Eh [] 32 31 _ (by simp) (by simp) (by omega) (by simp)) ?_;rintro v w9 ⟨hHx,rfl⟩;replace hE:=hE.call0 hHx;rw [Ya] at hE;clear hHx;refine ⟨hE.ext,?_⟩;try (refine Qi ?_))
  (refine Aa Yk ?_;refine Qi ?_;refine Yc (Eh [] 32 31 _ (by simp) (by simp) (by omega) (by simp)) ?_;rintro v w9 ⟨hHx,rfl⟩;replace hE:=hE.call0 hHx;rw [Ya] at hE;clear hHx;refine ⟨hE.ext,?_⟩;try (refine Qi ?_))
  (refine Aa Yv ?_;refine Qi ?_;refine Yc (Kh 0 8 _ (by omega) (by omega) (by decide) (by omega)) ?_;rintro v w9 ⟨hHx,rfl⟩;replace hE:=hE.call0 hHx;rw [Ya] at hE;clear hHx;refine ⟨hE.ext,?_⟩;try (refine Qi ?_))
  (refine Aa Yv ?_;refine Qi ?_;refine Yc (Kh 0 8 _ (by omega) (by omega) (by decide) (by omega)) ?_;rintro v w9 ⟨hHx,rfl⟩;replace hE:=hE.call0 hHx;rw [Ya] at hE;clear hHx;refine ⟨hE.ext,?_⟩;try (refine Qi ?_))
  (refine Aa Yk ?_;refine Qi ?_;refine Yc (Eh pre 155 155 _ q1 q1 (by omega) z1) ?_;rintro v w9 ⟨hHx,rfl⟩;replace hE:=hE.call0 hHx;rw [Ya] at hE;clear hHx;refine ⟨hE.ext,?_⟩;try (refine Qi ?_))
  (refine Aa Yk ?_;refine Qi ?_;refine Yc (Eh [] 12 12 _ (by simp) (by simp) (by omega) (by simp)) ?_;rintro v w9 ⟨hHx,rfl⟩;replace hE:=hE.call0 hHx;rw [Ya] at hE;clear hHx;refine ⟨hE.ext,?_⟩;try (refine Qi ?_))
  (refine C2 hE 2 (Nr [[k],A1 [] 100,F4,A1 [] 32,A1 [] 32,Bm 0 8,Bm 0 8,A1 pre 155,A1 [] 12]) (xs:=[.tmp 70,.tmp 73,.tmp 74,.tmp 78,.tmp 82,.tmp 83,.tmp 84,.tmp 86,.tmp 87]) Yx N0 rfl rfl rfl (by omega) (by omega) ?_;refine Qi ?_;refine ⟨rfl,hf9,fun ga w8 hE2=>⟨hE2.ext,?_⟩⟩;(try (refine Qi ?_));refine Aa Xa ?_;refine Qi ?_;refine Yc (Oe [[k],A1 [] 100,F4,A1 [] 32,A1 [] 32,Bm 0 8,Bm 0 8,A1 pre 155,A1 [] 12] ga 9 w8 (As (hE2.at 0 rfl)) (hE2.foot _ (Yg ..) ga (by simp [Yr])).2 (by simp) (by rw [hCfl,Mg q1];omega)) ?_;rintro v w9 ⟨hHx,rfl⟩;replace hE:=(hE2.sub (Yd _)).call0 hHx;rw [Ya] at hE;clear hHx hE2;rw [hCfl];refine ⟨hE.ext,?_⟩;(try (refine Qi ?_));exact last _ ((hW.call0 hE).sub (Yd _)))
 (refine Aa Yk ?_;refine Qi ?_;refine Yc (Eh [] 100 100 _ (by simp) (by simp) (by omega) (by simp)) ?_;rintro v w9 ⟨hHx,rfl⟩;replace hE:=hE.call0 hHx;rw [Ya] at hE;clear hHx;refine ⟨hE.ext,?_⟩;try (refine Qi ?_))
 ((try simp only [Fx]);replace hW:=hW.call0 hE;simp only [Ya,Yl] at hW;clear hE;refine F5 fun hE=>?_;(first | rw [Ff] | rw [Fz]);simp only [A6,List.filterMap_cons,List.filterMap_nil,List.getElem?_cons_succ,List.getElem?_cons_zero,Option.map_some];refine Qi ?_)
 refine And.intro ?_ ?_
 ·
  (refine Ei hE (Ao [k]) (xs:=[.tmp 67]) Yh E5 rfl rfl rfl (by omega) ?_;refine Qi ?_;refine ⟨rfl,by simp [Yu],fun g w4 hE2=>?_⟩;(try refine Qi ?_);replace hE:=hE2;clear hE2;refine ⟨hE.ext,?_⟩;try (refine Qi ?_))
  ((try simp only [Fx]);replace hW:=hW.call0 hE;simp only [Ya,Yl] at hW;clear hE;refine F5 fun hE=>?_;(first | rw [Ff] | rw [Fz]);simp only [A6,List.filterMap_cons,List.filterMap_nil,List.getElem?_cons_succ,List.getElem?_cons_zero,Option.map_some];refine Qi ?_)
  (refine ⟨[k],Fw (by first | exact As (hW.at 0 rfl) | exact As (hE.at 0 rfl)),?_⟩;try (refine Qi ?_))
  (refine Aa Yk ?_;refine Qi ?_;refine Yc (Eh [] 32 31 _ (by simp) (by simp) (by omega) (by simp)) ?_;rintro v w9 ⟨hHx,rfl⟩;replace hE:=hE.call0 hHx;rw [Ya] at hE;clear hHx;refine ⟨hE.ext,?_⟩;try (refine Qi ?_))
  (refine Aa Yk ?_;refine Qi ?_;refine Yc (Eh [] 32 31 _ (by simp) (by simp) (by omega) (by simp)) ?_;rintro v w9 ⟨hHx,rfl⟩;replace hE:=hE.call0 hHx;rw [Ya] at hE;clear hHx;refine ⟨hE.ext,?_⟩;try (refine Qi ?_))
  (refine Aa Yv ?_;refine Qi ?_;refine Yc (Kh 0 8 _ (by omega) (by omega) (by decide) (by omega)) ?_;rintro v w9 ⟨hHx,rfl⟩;replace hE:=hE.call0 hHx;rw [Ya] at hE;clear hHx;refine ⟨hE.ext,?_⟩;try (refine Qi ?_))
  (refine Aa Yv ?_;refine Qi ?_;refine Yc (Kh 0 8 _ (by omega) (by omega) (by decide) (by omega)) ?_;rintro v w9 ⟨hHx,rfl⟩;replace hE:=hE.call0 hHx;rw [Ya] at hE;clear hHx;refine ⟨hE.ext,?_⟩;try (refine Qi ?_))
  (refine Aa Yk ?_;refine Qi ?_;refine Yc (Eh pre 155 155 _ q1 q1 (by omega) z1) ?_;rintro v w9 ⟨hHx,rfl⟩;replace hE:=hE.call0 hHx;rw [Ya] at hE;clear hHx;refine ⟨hE.ext,?_⟩;try (refine Qi ?_))
  (refine Aa Yk ?_;refine Qi ?_;refine Yc (Eh [] 12 12 _ (by simp) (by simp) (by omega) (by simp)) ?_;rintro v w9 ⟨hHx,rfl⟩;replace hE:=hE.call0 hHx;rw [Ya] at hE;clear hHx;refine ⟨hE.ext,?_⟩;try (refine Qi ?_))
  (refine C2 hE 2 (Nr [[k],A1 [] 100,F4,A1 [] 32,A1 [] 32,Bm 0 8,Bm 0 8,A1 pre 155,A1 [] 12]) (xs:=[.tmp 70,.tmp 73,.tmp 74,.tmp 78,.tmp 82,.tmp 83,.tmp 84,.tmp 86,.tmp 87]) Yx N0 rfl rfl rfl (by omega) (by omega) ?_;refine Qi ?_;refine ⟨rfl,hf9,fun ga w8 hE2=>⟨hE2.ext,?_⟩⟩;(try (refine Qi ?_));refine Aa Xa ?_;refine Qi ?_;refine Yc (Oe [[k],A1 [] 100,F4,A1 [] 32,A1 [] 32,Bm 0 8,Bm 0 8,A1 pre 155,A1 [] 12] ga 9 w8 (As (hE2.at 0 rfl)) (hE2.foot _ (Yg ..) ga (by simp [Yr])).2 (by simp) (by rw [hCfl,Mg q1];omega)) ?_;rintro v w9 ⟨hHx,rfl⟩;replace hE:=(hE2.sub (Yd _)).call0 hHx;rw [Ya] at hE;clear hHx hE2;rw [hCfl];refine ⟨hE.ext,?_⟩;(try (refine Qi ?_));exact last _ ((hW.call0 hE).sub (Yd _)))
 (refine Aa Yk ?_;refine Qi ?_;refine Yc (Eh [] 32 31 _ (by simp) (by simp) (by omega) (by simp)) ?_;rintro v w9 ⟨hHx,rfl⟩;replace hE:=hE.call0 hHx;rw [Ya] at hE;clear hHx;refine ⟨hE.ext,?_⟩;try (refine Qi ?_))
 ((try simp only [Fx]);replace hW:=hW.call0 hE;simp only [Ya,Yl] at hW;clear hE;refine F5 fun hE=>?_;(first | rw [Ff] | rw [Fz]);simp only [A6,List.filterMap_cons,List.filterMap_nil,List.getElem?_cons_succ,List.getElem?_cons_zero,Option.map_some];refine Qi ?_)
 refine And.intro ?_ ?_
 ·
  (refine Ei hE (Ao [k]) (xs:=[.tmp 67]) Yh E5 rfl rfl rfl (by omega) ?_;refine Qi ?_;refine ⟨rfl,by simp [Yu],fun g w4 hE2=>?_⟩;(try refine Qi ?_);replace hE:=hE2;clear hE2;refine ⟨hE.ext,?_⟩;try (refine Qi ?_))
  ((try simp only [Fx]);replace hW:=hW.call0 hE;simp only [Ya,Yl] at hW;clear hE;refine F5 fun hE=>?_;(first | rw [Ff] | rw [Fz]);simp only [A6,List.filterMap_cons,List.filterMap_nil,List.getElem?_cons_succ,List.getElem?_cons_zero,Option.map_some];refine Qi ?_)
  (refine ⟨[k],Fw (by first | exact As (hW.at 0 rfl) | exact As (hE.at 0 rfl)),?_⟩;try (refine Qi ?_))
  (refine Aa Yk ?_;refine Qi ?_;refine Yc (Eh [] 32 31 _ (by simp) (by simp) (by omega) (by simp)) ?_;rintro v w9 ⟨hHx,rfl⟩;replace hE:=hE.call0 hHx;rw [Ya] at hE;clear hHx;refine ⟨hE.ext,?_⟩;try (refine Qi ?_))
  (refine Aa Yv ?_;refine Qi ?_;refine Yc (Kh 0 8 _ (by omega) (by omega) (by decide) (by omega)) ?_;rintro v w9 ⟨hHx,rfl⟩;replace hE:=hE.call0 hHx;rw [Ya] at hE;clear hHx;refine ⟨hE.ext,?_⟩;try (refine Qi ?_))
  (refine Aa Yv ?_;refine Qi ?_;refine Yc (Kh 0 8 _ (by omega) (by omega) (by decide) (by omega)) ?_;rintro v w9 ⟨hHx,rfl⟩;replace hE:=hE.call0 hHx;rw [Ya] at hE;clear hHx;refine ⟨hE.ext,?_⟩;try (refine Qi ?_))
  (refine Aa Yk ?_;refine Qi ?_;refine Yc (Eh pre 155 155 _ q1 q1 (by omega) z1) ?_;rintro v w9 ⟨hHx,rfl⟩;replace hE:=hE.call0 hHx;rw [Ya] at hE;clear hHx;refine ⟨hE.ext,?_⟩;try (refine Qi ?_))
  (refine Aa Yk ?_;refine Qi ?_;refine Yc (Eh [] 12 12 _ (by simp) (by simp) (by omega) (by simp)) ?_;rintro v w9 ⟨hHx,rfl⟩;replace hE:=hE.call0 hHx;rw [Ya] at hE;clear hHx;refine ⟨hE.ext,?_⟩;try (refine Qi ?_))
  (refine C2 hE 2 (Nr [[k],A1 [] 100,F4,A1 [] 32,A1 [] 32,Bm 0 8,Bm 0 8,A1 pre 155,A1 [] 12]) (xs:=[.tmp 70,.tmp 73,.tmp 74,.tmp 78,.tmp 82,.tmp 83,.tmp 84,.tmp 86,.tmp 87]) Yx N0 rfl rfl rfl (by omega) (by omega) ?_;refine Qi ?_;refine ⟨rfl,hf9,fun ga w8 hE2=>⟨hE2.ext,?_⟩⟩;(try (refine Qi ?_));refine Aa Xa ?_;refine Qi ?_;refine Yc (Oe [[k],A1 [] 100,F4,A1 [] 32,A1 [] 32,Bm 0 8,Bm 0 8,A1 pre 155,A1 [] 12] ga 9 w8 (As (hE2.at 0 rfl)) (hE2.foot _ (Yg ..) ga (by simp [Yr])).2 (by simp) (by rw [hCfl,Mg q1];omega)) ?_;rintro v w9 ⟨hHx,rfl⟩;replace hE:=(hE2.sub (Yd _)).call0 hHx;rw [Ya] at hE;clear hHx hE2;rw [hCfl];refine ⟨hE.ext,?_⟩;(try (refine Qi ?_));exact last _ ((hW.call0 hE).sub (Yd _)))
 (refine Aa Yk ?_;refine Qi ?_;refine Yc (Eh [] 32 31 _ (by simp) (by simp) (by omega) (by simp)) ?_;rintro v w9 ⟨hHx,rfl⟩;replace hE:=hE.call0 hHx;rw [Ya] at hE;clear hHx;refine ⟨hE.ext,?_⟩;try (refine Qi ?_))
 ((try simp only [Fx]);replace hW:=hW.call0 hE;simp only [Ya,Yl] at hW;clear hE;refine F5 fun hE=>?_;(first | rw [Ff] | rw [Fz]);simp only [A6,List.filterMap_cons,List.filterMap_nil,List.getElem?_cons_succ,List.getElem?_cons_zero,Option.map_some];refine Qi ?_)
 refine And.intro ?_ ?_
 ·
  (refine Ei hE (Ao [k]) (xs:=[.tmp 67]) Yh E5 rfl rfl rfl (by omega) ?_;refine Qi ?_;refine ⟨rfl,by simp [Yu],fun g w4 hE2=>?_⟩;(try refine Qi ?_);replace hE:=hE2;clear hE2;refine ⟨hE.ext,?_⟩;try (refine Qi ?_))
  ((try simp only [Fx]);replace hW:=hW.call0 hE;simp only [Ya,Yl] at hW;clear hE;refine F5 fun hE=>?_;(first | rw [Ff] | rw [Fz]);simp only [A6,List.filterMap_cons,List.filterMap_nil,List.getElem?_cons_succ,List.getElem?_cons_zero,Option.map_some];refine Qi ?_)
  (refine ⟨[k],Fw (by first | exact As (hW.at 0 rfl) | exact As (hE.at 0 rfl)),?_⟩;try (refine Qi ?_))
  (refine Aa Yv ?_;refine Qi ?_;refine Yc (Kh 0 8 _ (by omega) (by omega) (by decide) (by omega)) ?_;rintro v w9 ⟨hHx,rfl⟩;replace hE:=hE.call0 hHx;rw [Ya] at hE;clear hHx;refine ⟨hE.ext,?_⟩;try (refine Qi ?_))
  (refine Aa Yv ?_;refine Qi ?_;refine Yc (Kh 0 8 _ (by omega) (by omega) (by decide) (by omega)) ?_;rintro v w9 ⟨hHx,rfl⟩;replace hE:=hE.call0 hHx;rw [Ya] at hE;clear hHx;refine ⟨hE.ext,?_⟩;try (refine Qi ?_))
  (refine Aa Yk ?_;refine Qi ?_;refine Yc (Eh pre 155 155 _ q1 q1 (by omega) z1) ?_;rintro v w9 ⟨hHx,rfl⟩;replace hE:=hE.call0 hHx;rw [Ya] at hE;clear hHx;refine ⟨hE.ext,?_⟩;try (refine Qi ?_))
  (refine Aa Yk ?_;refine Qi ?_;refine Yc (Eh [] 12 12 _ (by simp) (by simp) (by omega) (by simp)) ?_;rintro v w9 ⟨hHx,rfl⟩;replace hE:=hE.call0 hHx;rw [Ya] at hE;clear hHx;refine ⟨hE.ext,?_⟩;try (refine Qi ?_))
  (refine C2 hE 2 (Nr [[k],A1 [] 100,F4,A1 [] 32,A1 [] 32,Bm 0 8,Bm 0 8,A1 pre 155,A1 [] 12]) (xs:=[.tmp 70,.tmp 73,.tmp 74,.tmp 78,.tmp 82,.tmp 83,.tmp 84,.tmp 86,.tmp 87]) Yx N0 rfl rfl rfl (by omega) (by omega) ?_;refine Qi ?_;refine ⟨rfl,hf9,fun ga w8 hE2=>⟨hE2.ext,?_⟩⟩;(try (refine Qi ?_));refine Aa Xa ?_;refine Qi ?_;refine Yc (Oe [[k],A1 [] 100,F4,A1 [] 32,A1 [] 32,Bm 0 8,Bm 0 8,A1 pre 155,A1 [] 12] ga 9 w8 (As (hE2.at 0 rfl)) (hE2.foot _ (Yg ..) ga (by simp [Yr])).2 (by simp) (by rw [hCfl,Mg q1];omega)) ?_;rintro v w9 ⟨hHx,rfl⟩;replace hE:=(hE2.sub (Yd _)).call0 hHx;rw [Ya] at hE;clear hHx hE2;rw [hCfl];refine ⟨hE.ext,?_⟩;(try (refine Qi ?_));exact last _ ((hW.call0 hE).sub (Yd _)))
 (refine Aa Yv ?_;refine Qi ?_;refine Yc (Kh 0 8 _ (by omega) (by omega) (by decide) (by omega)) ?_;rintro v w9 ⟨hHx,rfl⟩;replace hE:=hE.call0 hHx;rw [Ya] at hE;clear hHx;refine ⟨hE.ext,?_⟩;try (refine Qi ?_))
 ((try simp only [Fx]);replace hW:=hW.call0 hE;simp only [Ya,Yl] at hW;clear hE;refine F5 fun hE=>?_;(first | rw [Ff] | rw [Fz]);simp only [A6,List.filterMap_cons,List.filterMap_nil,List.getElem?_cons_succ,List.getElem?_cons_zero,Option.map_some];refine Qi ?_)
 refine And.intro ?_ ?_
 ·
  (refine Ei hE (Ao [k]) (xs:=[.tmp 67]) Yh E5 rfl rfl rfl (by omega) ?_;refine Qi ?_;refine ⟨rfl,by simp [Yu],fun g w4 hE2=>?_⟩;(try refine Qi ?_);replace hE:=hE2;clear hE2;refine ⟨hE.ext,?_⟩;try (refine Qi ?_))
  ((try simp only [Fx]);replace hW:=hW.call0 hE;simp only [Ya,Yl] at hW;clear hE;refine F5 fun hE=>?_;(first | rw [Ff] | rw [Fz]);simp only [A6,List.filterMap_cons,List.filterMap_nil,List.getElem?_cons_succ,List.getElem?_cons_zero,Option.map_some];refine Qi ?_)
  (refine ⟨[k],Fw (by first | exact As (hW.at 0 rfl) | exact As (hE.at 0 rfl)),?_⟩;try (refine Qi ?_))
  (refine Aa Yv ?_;refine Qi ?_;refine Yc (Kh 0 8 _ (by omega) (by omega) (by decide) (by omega)) ?_;rintro v w9 ⟨hHx,rfl⟩;replace hE:=hE.call0 hHx;rw [Ya] at hE;clear hHx;refine ⟨hE.ext,?_⟩;try (refine Qi ?_))
  (refine Aa Yk ?_;refine Qi ?_;refine Yc (Eh pre 155 155 _ q1 q1 (by omega) z1) ?_;rintro v w9 ⟨hHx,rfl⟩;replace hE:=hE.call0 hHx;rw [Ya] at hE;clear hHx;refine ⟨hE.ext,?_⟩;try (refine Qi ?_))
  (refine Aa Yk ?_;refine Qi ?_;refine Yc (Eh [] 12 12 _ (by simp) (by simp) (by omega) (by simp)) ?_;rintro v w9 ⟨hHx,rfl⟩;replace hE:=hE.call0 hHx;rw [Ya] at hE;clear hHx;refine ⟨hE.ext,?_⟩;try (refine Qi ?_))
  (refine C2 hE 2 (Nr [[k],A1 [] 100,F4,A1 [] 32,A1 [] 32,Bm 0 8,Bm 0 8,A1 pre 155,A1 [] 12]) (xs:=[.tmp 70,.tmp 73,.tmp 74,.tmp 78,.tmp 82,.tmp 83,.tmp 84,.tmp 86,.tmp 87]) Yx N0 rfl rfl rfl (by omega) (by omega) ?_;refine Qi ?_;refine ⟨rfl,hf9,fun ga w8 hE2=>⟨hE2.ext,?_⟩⟩;(try (refine Qi ?_));refine Aa Xa ?_;refine Qi ?_;refine Yc (Oe [[k],A1 [] 100,F4,A1 [] 32,A1 [] 32,Bm 0 8,Bm 0 8,A1 pre 155,A1 [] 12] ga 9 w8 (As (hE2.at 0 rfl)) (hE2.foot _ (Yg ..) ga (by simp [Yr])).2 (by simp) (by rw [hCfl,Mg q1];omega)) ?_;rintro v w9 ⟨hHx,rfl⟩;replace hE:=(hE2.sub (Yd _)).call0 hHx;rw [Ya] at hE;clear hHx hE2;rw [hCfl];refine ⟨hE.ext,?_⟩;(try (refine Qi ?_));exact last _ ((hW.call0 hE).sub (Yd _)))
 (refine Aa Yv ?_;refine Qi ?_;refine Yc (Kh 0 8 _ (by omega) (by omega) (by decide) (by omega)) ?_;rintro v w9 ⟨hHx,rfl⟩;replace hE:=hE.call0 hHx;rw [Ya] at hE;clear hHx;refine ⟨hE.ext,?_⟩;try (refine Qi ?_))
 ((try simp only [Fx]);replace hW:=hW.call0 hE;simp only [Ya,Yl] at hW;clear hE;refine F5 fun hE=>?_;(first | rw [Ff] | rw [Fz]);simp only [A6,List.filterMap_cons,List.filterMap_nil,List.getElem?_cons_succ,List.getElem?_cons_zero,Option.map_some];refine Qi ?_)
 refine And.intro ?_ ?_
 ·
  (refine Ei hE (Ao [k]) (xs:=[.tmp 67]) Yh E5 rfl rfl rfl (by omega) ?_;refine Qi ?_;refine ⟨rfl,by simp [Yu],fun g w4 hE2=>?_⟩;(try refine Qi ?_);replace hE:=hE2;clear hE2;refine ⟨hE.ext,?_⟩;try (refine Qi ?_))
  ((try simp only [Fx]);replace hW:=hW.call0 hE;simp only [Ya,Yl] at hW;clear hE;refine F5 fun hE=>?_;(first | rw [Ff] | rw [Fz]);simp only [A6,List.filterMap_cons,List.filterMap_nil,List.getElem?_cons_succ,List.getElem?_cons_zero,Option.map_some];refine Qi ?_)
  (refine ⟨[k],Fw (by first | exact As (hW.at 0 rfl) | exact As (hE.at 0 rfl)),?_⟩;try (refine Qi ?_))
  (refine Aa Yk ?_;refine Qi ?_;refine Yc (Eh pre 155 155 _ q1 q1 (by omega) z1) ?_;rintro v w9 ⟨hHx,rfl⟩;replace hE:=hE.call0 hHx;rw [Ya] at hE;clear hHx;refine ⟨hE.ext,?_⟩;try (refine Qi ?_))
  (refine Aa Yk ?_;refine Qi ?_;refine Yc (Eh [] 12 12 _ (by simp) (by simp) (by omega) (by simp)) ?_;rintro v w9 ⟨hHx,rfl⟩;replace hE:=hE.call0 hHx;rw [Ya] at hE;clear hHx;refine ⟨hE.ext,?_⟩;try (refine Qi ?_))
  (refine C2 hE 2 (Nr [[k],A1 [] 100,F4,A1 [] 32,A1 [] 32,Bm 0 8,Bm 0 8,A1 pre 155,A1 [] 12]) (xs:=[.tmp 70,.tmp 73,.tmp 74,.tmp 78,.tmp 82,.tmp 83,.tmp 84,.tmp 86,.tmp 87]) Yx N0 rfl rfl rfl (by omega) (by omega) ?_;refine Qi ?_;refine ⟨rfl,hf9,fun ga w8 hE2=>⟨hE2.ext,?_⟩⟩;(try (refine Qi ?_));refine Aa Xa ?_;refine Qi ?_;refine Yc (Oe [[k],A1 [] 100,F4,A1 [] 32,A1 [] 32,Bm 0 8,Bm 0 8,A1 pre 155,A1 [] 12] ga 9 w8 (As (hE2.at 0 rfl)) (hE2.foot _ (Yg ..) ga (by simp [Yr])).2 (by simp) (by rw [hCfl,Mg q1];omega)) ?_;rintro v w9 ⟨hHx,rfl⟩;replace hE:=(hE2.sub (Yd _)).call0 hHx;rw [Ya] at hE;clear hHx hE2;rw [hCfl];refine ⟨hE.ext,?_⟩;(try (refine Qi ?_));exact last _ ((hW.call0 hE).sub (Yd _)))
 (refine Aa Yk ?_;refine Qi ?_;refine Yc (Eh pre 155 155 _ q1 q1 (by omega) z1) ?_;rintro v w9 ⟨hHx,rfl⟩;replace hE:=hE.call0 hHx;rw [Ya] at hE;clear hHx;refine ⟨hE.ext,?_⟩;try (refine Qi ?_))
 ((try simp only [Fx]);replace hW:=hW.call0 hE;simp only [Ya,Yl] at hW;clear hE;refine F5 fun hE=>?_;(first | rw [Ff] | rw [Fz]);simp only [A6,List.filterMap_cons,List.filterMap_nil,List.getElem?_cons_succ,List.getElem?_cons_zero,Option.map_some];refine Qi ?_)
 refine And.intro ?_ ?_
 ·
  (refine Ei hE (Ao [k]) (xs:=[.tmp 67]) Yh E5 rfl rfl rfl (by omega) ?_;refine Qi ?_;refine ⟨rfl,by simp [Yu],fun g w4 hE2=>?_⟩;(try refine Qi ?_);replace hE:=hE2;clear hE2;refine ⟨hE.ext,?_⟩;try (refine Qi ?_))
  ((try simp only [Fx]);replace hW:=hW.call0 hE;simp only [Ya,Yl] at hW;clear hE;refine F5 fun hE=>?_;(first | rw [Ff] | rw [Fz]);simp only [A6,List.filterMap_cons,List.filterMap_nil,List.getElem?_cons_succ,List.getElem?_cons_zero,Option.map_some];refine Qi ?_)
  (refine ⟨[k],Fw (by first | exact As (hW.at 0 rfl) | exact As (hE.at 0 rfl)),?_⟩;try (refine Qi ?_))
  (refine Aa Yk ?_;refine Qi ?_;refine Yc (Eh [] 12 12 _ (by simp) (by simp) (by omega) (by simp)) ?_;rintro v w9 ⟨hHx,rfl⟩;replace hE:=hE.call0 hHx;rw [Ya] at hE;clear hHx;refine ⟨hE.ext,?_⟩;try (refine Qi ?_))
  (refine C2 hE 2 (Nr [[k],A1 [] 100,F4,A1 [] 32,A1 [] 32,Bm 0 8,Bm 0 8,A1 pre 155,A1 [] 12]) (xs:=[.tmp 70,.tmp 73,.tmp 74,.tmp 78,.tmp 82,.tmp 83,.tmp 84,.tmp 86,.tmp 87]) Yx N0 rfl rfl rfl (by omega) (by omega) ?_;refine Qi ?_;refine ⟨rfl,hf9,fun ga w8 hE2=>⟨hE2.ext,?_⟩⟩;(try (refine Qi ?_));refine Aa Xa ?_;refine Qi ?_;refine Yc (Oe [[k],A1 [] 100,F4,A1 [] 32,A1 [] 32,Bm 0 8,Bm 0 8,A1 pre 155,A1 [] 12] ga 9 w8 (As (hE2.at 0 rfl)) (hE2.foot _ (Yg ..) ga (by simp [Yr])).2 (by simp) (by rw [hCfl,Mg q1];omega)) ?_;rintro v w9 ⟨hHx,rfl⟩;replace hE:=(hE2.sub (Yd _)).call0 hHx;rw [Ya] at hE;clear hHx hE2;rw [hCfl];refine ⟨hE.ext,?_⟩;(try (refine Qi ?_));exact last _ ((hW.call0 hE).sub (Yd _)))
 (refine Aa Yk ?_;refine Qi ?_;refine Yc (Eh [] 12 12 _ (by simp) (by simp) (by omega) (by simp)) ?_;rintro v w9 ⟨hHx,rfl⟩;replace hE:=hE.call0 hHx;rw [Ya] at hE;clear hHx;refine ⟨hE.ext,?_⟩;try (refine Qi ?_))
 ((try simp only [Fx]);replace hW:=hW.call0 hE;simp only [Ya,Yl] at hW;clear hE;refine F5 fun hE=>?_;(first | rw [Ff] | rw [Fz]);simp only [A6,List.filterMap_cons,List.filterMap_nil,List.getElem?_cons_succ,List.getElem?_cons_zero,Option.map_some];refine Qi ?_)
 (refine Ei hE (Ao [k]) (xs:=[.tmp 67]) Yh E5 rfl rfl rfl (by omega) ?_;refine Qi ?_;refine ⟨rfl,by simp [Yu],fun g w4 hE2=>?_⟩;(try refine Qi ?_);replace hE:=hE2;clear hE2;refine ⟨hE.ext,?_⟩;try (refine Qi ?_))
 (refine ⟨[k],Fw (by first | exact As (hW.at 0 rfl) | exact As (hE.at 0 rfl)),?_⟩;try (refine Qi ?_))
 (refine C2 hE 2 (Nr [[k],A1 [] 100,F4,A1 [] 32,A1 [] 32,Bm 0 8,Bm 0 8,A1 pre 155,A1 [] 12]) (xs:=[.tmp 70,.tmp 73,.tmp 74,.tmp 78,.tmp 82,.tmp 83,.tmp 84,.tmp 86,.tmp 87]) Yx N0 rfl rfl rfl (by omega) (by omega) ?_;refine Qi ?_;refine ⟨rfl,hf9,fun ga w8 hE2=>⟨hE2.ext,?_⟩⟩;(try (refine Qi ?_));refine Aa Xa ?_;refine Qi ?_;refine Yc (Oe [[k],A1 [] 100,F4,A1 [] 32,A1 [] 32,Bm 0 8,Bm 0 8,A1 pre 155,A1 [] 12] ga 9 w8 (As (hE2.at 0 rfl)) (hE2.foot _ (Yg ..) ga (by simp [Yr])).2 (by simp) (by rw [hCfl,Mg q1];omega)) ?_;rintro v w9 ⟨hHx,rfl⟩;replace hE:=(hE2.sub (Yd _)).call0 hHx;rw [Ya] at hE;clear hHx hE2;rw [hCfl];refine ⟨hE.ext,?_⟩;(try (refine Qi ?_));exact last _ ((hW.call0 hE).sub (Yd _)))
open Go.Shelf
def Ql3:Go.Shelf.Ren:=⟨fun | 171=>176 | 243=>205 | 246=>227 | 283=>239 | 284=>240 | 285=>241 | 286=>242 | 129=>123 | 317=>256 | 318=>257 | 319=>258 | 320=>259 | 337=>271 | 338=>272 | n=>n,fun | 3=>3 | 9=>9 | 2=>2 | 4=>4 | 171=>328 | 0=>0 | 53=>194 | 37=>69 | 5=>5 | 173=>330 | 212=>346 | 51=>52 | 20=>20 | 213=>347 | 46=>141 | 232=>358 | 233=>359 | n=>n,fun | 17=>3 | 18=>4 | 19=>5 | n=>n⟩
theorem Qzs:Go.Proofs.LaysM.n171 Yf Ql3:={
 mixed:=by kernel_rfl
 f129:=Tryz.func123.trans (congrArg some (by kernel_rfl))
 f171:=Tryz.func176.trans (congrArg some (by kernel_rfl))
 f243:=Tryz.func205.trans (congrArg some (by kernel_rfl))
 f246:=Tryz.func227.trans (congrArg some (by kernel_rfl))
 f283:=Tryz.func239.trans (congrArg some (by kernel_rfl))
 f284:=Tryz.func240.trans (congrArg some (by kernel_rfl))
 f285:=Tryz.func241.trans (congrArg some (by kernel_rfl))
 f286:=Tryz.func242.trans (congrArg some (by kernel_rfl))
 f317:=Tryz.func256.trans (congrArg some (by kernel_rfl))
 f318:=Tryz.func257.trans (congrArg some (by kernel_rfl))
 f319:=Tryz.func258.trans (congrArg some (by kernel_rfl))
 f320:=Tryz.func259.trans (congrArg some (by kernel_rfl))
 f337:=Tryz.func271.trans (congrArg some (by kernel_rfl))
 f338:=Tryz.func272.trans (congrArg some (by kernel_rfl))
 t0:=Tryz.underlying0
 a0:=Tryz.isAgg0
 z0:=Tryz.sizeOf0
 v0:=Tryz.zeroValue0
 t2:=Tryz.underlying2
 a2:=Tryz.isAgg2
 z2:=Tryz.sizeOf2
 v2:=Tryz.zeroValue2
 t3:=Tryz.underlying3
 a3:=Tryz.isAgg3
 z3:=Tryz.sizeOf3
 v3:=Tryz.zeroValue3
 t4:=Tryz.underlying4
 a4:=Tryz.isAgg4
 z4:=Tryz.sizeOf4
 v4:=Tryz.zeroValue4
 t5:=Tryz.underlying5
 a5:=Tryz.isAgg5
 z5:=Tryz.sizeOf5
 v5:=Tryz.zeroValue5
 t9:=Xk
 a9:=Tryz.isAgg9
 z9:=Tryz.sizeOf9
 v9:=Tryz.zeroValue9
 t20:=Tryz.underlying20
 a20:=Tryz.isAgg20
 z20:=Tryz.sizeOf20
 v20:=Tryz.zeroValue20
 t37:=Yh
 a37:=Tryz.isAgg69
 z37:=Tryz.sizeOf69
 v37:=Tryz.zeroValue69
 t46:=Tryz.underlying141
 a46:=Tryz.isAgg141
 z46:=Tryz.sizeOf141
 v46:=Tryz.zeroValue141
 t51:=Tryz.underlying52
 a51:=Tryz.isAgg52
 z51:=Tryz.sizeOf52
 v51:=Tryz.zeroValue52
 t53:=Tryz.underlying194
 a53:=Tryz.isAgg194
 z53:=Tryz.sizeOf194
 v53:=Tryz.zeroValue194
 t171:=Tryz.underlying328
 a171:=Tryz.isAgg328
 z171:=Tryz.sizeOf328
 v171:=Tryz.zeroValue328
 t173:=Tryz.underlying330
 a173:=Tryz.isAgg330
 z173:=Tryz.sizeOf330
 v173:=Tryz.zeroValue330
 t212:=Tryz.underlying346
 a212:=Tryz.isAgg346
 z212:=Tryz.sizeOf346
 v212:=Tryz.zeroValue346
 t213:=Tryz.underlying347
 a213:=Tryz.isAgg347
 z213:=Tryz.sizeOf347
 t232:=Tryz.underlying358
 a232:=Tryz.isAgg358
 z232:=Tryz.sizeOf358
 v232:=Tryz.zeroValue358
 t233:=Tryz.underlying359
 a233:=Tryz.isAgg359
 z233:=Tryz.sizeOf359
 v233:=Tryz.zeroValue359
 g17:=by kernel_rfl
 g18:=by kernel_rfl
 g19:=by kernel_rfl
 i0:=by kernel_rfl
 i2:=by kernel_rfl
 i3:=by kernel_rfl
 i4:=by kernel_rfl
 i5:=by kernel_rfl
 i9:=by kernel_rfl
 i20:=by kernel_rfl
 i37:=by kernel_rfl
 i46:=by kernel_rfl
 i51:=by kernel_rfl
 i53:=by kernel_rfl
 i171:=by kernel_rfl
 i173:=by kernel_rfl
 i212:=by kernel_rfl
 i232:=by kernel_rfl
 i233:=by kernel_rfl
 m17:=by kernel_rfl
 m18:=by kernel_rfl
 m19:=by kernel_rfl }
open Go Go.Eng
set_option maxHeartbeats 1000000
def Tb (w:World):Prop:=Lib.TabIs Yf w "internal/strconv.uint64pow10" .u64 Lib.pow10Tab
theorem Tb.heap {w w':World}{G:List Res} (h:Tb w) (hH:Heap w [] w' G):Tb w':=Lib.tabBelow_of_tabIs h w' hH.upd.below
theorem Qzt:∀ n,n < 140->100<=n->Lib.itoa (n:Nat)=Ry n:=by decide +kernel
theorem Qcf (n:Nat) (w:World) (hT:Tb w) (h0:100<=n) (h1:n < 140):Does Yf 133 #[.int .i64 n] w fun v w'=>Heap w [] w' []/\v=Ab (Ry n):=by
 have hi:Does Yf 176 #[.int .i64 n] w fun v w'=>Heap w [] w' []/\v=Ab (Ry n):=by
  intro m;have hT2:Tb (w.drewN m):=hT.heap ((Ym w).drewN 0 m);refine (Go.Proofs.Any.strconv_Itoa Qzs n (by omega) (by omega) (w.drewN m) hT2).mono fun e w' ⟨he,k,os,hw⟩=>?_;rw [Qzt n h1 h0] at he;have hb:=Lib.below_grow (w.drewN m).heap.size (w.drewN m) (U3 _) k os;rw [<- hw] at hb;exact ⟨_,w',0,he,rfl,⟨⟨hb.os,hb.tape,hb.output,hb.size,fun k hk _=>hb.block k hk⟩,by simp,by simp,.nil⟩,rfl⟩
 refine En [.int .i64 n] 7 Tryz.func133 ?_;refine VS [0] ?_;refine VS [0,4] ?_;refine Ai rfl rfl (fun h=>absurd h (by simp)) (fun h=>Ad ?_);refine VQ [2] fun K hK=>?_;refine Aa Tryz.call176 ?_;refine Qs ?_;refine Yc hi ?_;rintro v w2 ⟨hH,rfl⟩;apply hK;clear hK;exact Ae (Al rfl rfl ⟨hH,rfl⟩)
abbrev tP:Nat:=181
theorem Qwi (p:Bs) (ga:Nat) (w:World) (hT:Tb w) (hl:Reads w ⟨ga,0,none⟩ [Ab pathW,Ab p]) (h1:100 < p.length) (h2:p.length<=120) :
  Does Yf 102 #[.slice (some ⟨ga,0,none⟩) 1 1] w fun v w'=>Heap w [] w' []/\v=.tuple #[Ab (Mt p),.int .i64 0]:=by
 have hnc:Lib.indexByte pathW 61=-1:=by decide
 refine En [.slice (some ⟨ga,0,none⟩) 1 1] 74 Tryz.func102 ?_;refine VS [0] ?_;refine VS [0,4] ?_;refine VS [0,4,12,13,14] ?_;refine VB ?_;refine Ay [0,4,12,13,14] (fun m e w'=>∃ (i:Nat),Is e [(0,.slice (some ⟨ga,0,none⟩) 1 1),(4,.int .i64 0),(12,.slice (some ⟨ga,0,none⟩) 1 1),(13,.int .i64 1),(14,.int .i64 i)]/\Heap w [] w' []/\i<=1/\m=1 - i) 1 ?_ ?_
 ·
  refine Qs ?_;exact ⟨0,rfl,Ym w,by omega,rfl⟩
 rintro m e w' ⟨i,rfl,hH,hi,rfl⟩;refine VS [0,4,12,13,14,15] ?_;(repeat refine Aw ?_);refine VD (fun h=>?_) (fun h=>?_)
 ·
  obtain rfl:i=0:=by omega
  refine Ad ?_;refine VB ?_;have hrd:=hH.reads hl (by simp);refine VQ [0,4,6,12,13,14] fun K hK=>?_;(repeat first | refine Qo ?_ | refine Qp ?_);refine ⟨[Ab pathW,Ab p],⟨rfl,hrd⟩,?_⟩;refine Bo (.agg #[Ab [],Ab []]) (by kernel_rfl) ?_;refine Qs ?_;have hH2:=hH.box tP [Ab [],Ab []];generalize w'.alloc (Yo #[Ab [],Ab []] tP)=w2 at *;generalize w'.heap.size=gf at *;refine Ag ?_;refine Qs ?_;refine Ap hH2 0 (vs:=[Ab pathW,Ab p]) rfl rfl (by kernel_rfl) (by first | decide | (simp;done) | (simp;omega)) (by simp [Yw]) fun w6 hH3=>?_;(try refine Qs ?_);apply hK;clear hK;have c0:w6.cell? ⟨gf,0,none⟩=some (Ab pathW):=Af (hH3.at 0 rfl) rfl;refine VQ [0,4,12,13,14,25] fun K hK=>?_;refine ⟨_,c0,?_⟩;refine Qs ?_;refine And.intro (fun _=>⟨_,c0,?_⟩) (fun h=>by simp at h);refine Aa Tryz.call132 ?_;refine Qs ?_;refine Yc (Qbr pathW 61 _) ?_;rintro v w5 ⟨rfl,rfl⟩;rw [hnc];apply hK;clear hK;refine Ai rfl rfl (fun h=>by simp at h) (fun h=>Ad ?_);refine An ?_;refine VS [0,4,12,13,14] ?_;refine Ah ?_;refine Qs ?_;exact ⟨0,by omega,1,rfl,hH3.sub (Yd _),by omega,rfl⟩
 refine Ax rfl ?_;clear h;have hld:Reads w' ⟨ga,0,none⟩ [Ab pathW,Ab p]:=hH.reads hl (by simp);replace hT:=hT.heap hH;refine VQ [0,4,7] fun K hK=>?_;refine Bo (.agg #[.pointer none,.slice none 0 0]) (by kernel_rfl) ?_;refine Qs ?_;obtain ⟨g,hg⟩:∃ g,g=w'.heap.size:=⟨_,rfl⟩;have hg0:w'.heap.size<=g:=by omega
 have hB:=Heap.newBld (Ym w');rw [<- hg] at hB ⊢;generalize w'.alloc (Yo #[.pointer none,.slice none 0 0] tB)=w1 at *;apply hK;clear hK;refine VS [4,7,27,28,29] ?_;refine VB ?_;refine Ay [4,7,27,28,29] (fun m e w3=>∃ (i:Nat) (og:Option Nat),Is e [(4,.int .i64 (if i=0 then 0 else p.length+10:Nat)),(7,pV g),(27,.slice (some ⟨ga,0,none⟩) 1 1),(28,.int .i64 1),(29,.int .i64 i)]/\Heap w' [] w3 [Res.bld g og (if i=0 then [] else Mt p)]/\i<=1/\m=1 - i) 1 ?_ ?_
 ·
  refine Qs ?_;exact ⟨0,none,rfl,hB,by omega,rfl⟩
 clear hB w1;rintro m e w3 ⟨i,og,rfl,hB,hi,rfl⟩;refine VS [4,7,27,28,29,30] ?_;(repeat refine Aw ?_);refine VD (fun h=>?_) (fun h=>?_)
 ·
  obtain rfl:i=0:=by omega
  rw [if_pos rfl] at hB;refine Ad ?_;refine VB ?_;have hrd:=hB.reads hld (by simp);refine VQ [4,7,9,27,28,29] fun K hK=>?_;(repeat first | refine Qo ?_ | refine Qp ?_);refine ⟨[Ab pathW,Ab p],⟨rfl,hrd⟩,?_⟩;refine Bo (.agg #[Ab [],Ab []]) (by kernel_rfl) ?_;refine Qs ?_;have hH2:=hB.box tP [Ab [],Ab []];generalize w3.alloc (Yo #[Ab [],Ab []] tP)=w2 at *;generalize w3.heap.size=gf at *;refine Ag ?_;refine Qs ?_;refine Ap hH2 0 (vs:=[Ab pathW,Ab p]) rfl rfl (by kernel_rfl) (by first | decide | (simp;done) | (simp;omega)) (by simp [Yw]) fun w6 hH3=>?_;(try refine Qs ?_);have hH3:Heap w' [] w6 [Xd gf tP [Ab pathW,Ab p],Res.bld g og []]:=hH3;clear hH2 hB hrd;apply hK;clear hK;have c0:w6.cell? ⟨gf,0,none⟩=some (Ab pathW):=Af (hH3.at 0 rfl) rfl;have c1:w6.cell? ⟨gf,1,none⟩=some (Ab p):=Af (hH3.at 0 rfl) rfl;refine VQ [4,7,9,10,27,28,29] fun K hK=>?_;refine ⟨_,c0,?_⟩;refine Qs ?_;refine ⟨_,c1,?_⟩;refine Qs ?_;rw [show ((pathW.length:Nat):Int)=4 from rfl];(repeat first | refine Qo ?_ | refine Qp ?_);rw [show ((4:Int)+p.length+3)=((p.length+7:Nat):Int) by omega];apply hK;clear hK;refine VQ [4,7,9,10,11,27,28,29] fun K hK=>?_;(repeat first | refine Qo ?_ | refine Qp ?_);rw [show ((p.length+7:Nat):Int)+1=((p.length+8:Nat):Int) by omega];apply hK;clear hK;refine VB ?_;have hdl:∀ n,(Ry n).length=3:=fun _=>rfl;refine Ay [4,7,9,10,11,27,28,29] (fun m e w4=>∃ (z:Nat),Is e [(4,.int .i64 (0:Nat)),(7,pV g),(9,pV gf),(10,.int .i64 (p.length+7:Nat)),(11,.int .i64 (p.length+z:Nat)),(27,.slice (some ⟨ga,0,none⟩) 1 1),(28,.int .i64 1),(29,.int .i64 (0:Nat))]/\Heap w' [] w4 [Xd gf tP [Ab pathW,Ab p],Res.bld g og []]/\(z=8/\m=1∨z=10/\m=0)) 1 ?_ ?_
  ·
   refine Qs ?_;refine ⟨8,rfl,hH3,?_⟩;simp
  clear hH3 c0 c1;rintro m e w4 ⟨z,rfl,hH3,hz⟩;refine VQ [4,7,9,10,11,27,28,29,49] fun K hK=>?_;refine Aa Uv ?_;refine Qs ?_;refine Yc (Qcf (p.length+z) w4 (hT.heap (hH3.sub (Yd _))) (by omega) (by omega)) ?_;rintro v w5 ⟨hHd,rfl⟩;replace hH3:=hH3.call0 hHd;rw [Ya] at hH3;clear hHd;refine Qs ?_;rw [hdl];(repeat first | refine Qo ?_ | refine Qp ?_);apply hK;clear hK;rcases hz with ⟨rfl,rfl⟩ | ⟨rfl,rfl⟩
  ·
   refine Ai rfl rfl (fun h=>?_) (fun h=>absurd h (by simp;omega));refine Ad ?_;refine VB ?_;refine VQ [4,7,9,10,11,27,28,29] fun K hK=>?_;refine Aa Uv ?_;refine Qs ?_;refine Yc (Qcf (p.length+8) w5 (hT.heap (hH3.sub (Yd _))) (by omega) (by omega)) ?_;rintro v w6 ⟨hHd,rfl⟩;replace hH3:=hH3.call0 hHd;rw [Ya] at hH3;clear hHd;refine Qs ?_;rw [hdl];(repeat first | refine Qo ?_ | refine Qp ?_);rw [show ((3:Nat):Int)+((p.length+7:Nat):Int)=((p.length+10:Nat):Int) by omega];apply hK;clear hK;refine An ?_;refine Ah ?_;refine Qs ?_;refine ⟨0,by omega,10,rfl,hH3,?_⟩;simp
  refine Ai rfl rfl (fun h=>absurd h (by simp;omega)) (fun h=>?_);refine Ax rfl ?_;clear h;refine VQ [4,7,9,11,27,28,29] fun K hK=>?_;(repeat first | refine Qo ?_ | refine Qp ?_);rw [show ((0:Nat):Int)+((p.length+10:Nat):Int)=((p.length+10:Nat):Int) by omega];apply hK;clear hK;refine VS [4,7,9,11,27,28,29,59] ?_;refine Ai rfl rfl (fun h=>absurd h (by simp;omega)) (fun h=>Ad ?_);clear h;have c0:w5.cell? ⟨gf,0,none⟩=some (Ab pathW):=Af (hH3.at 0 rfl) rfl;have c1:w5.cell? ⟨gf,1,none⟩=some (Ab p):=Af (hH3.at 0 rfl) rfl;have hnb:gf ∉ Tm g w5:=QFh (hH3.at 0 rfl) (by decide) (fun e=>(Y2.1 hH3.apart).1 _ (Yg ..) gf (by simp [Xd]) (by simp [Res.bld,e]));refine VH (holes (Tm g w5) w5) (Ext.hole _ _) [4,7,27,28,29] [(0,true),(3,true),(4,true),(7,true),(8,true),(1,false),(2,true),(5,true),(6,true),(9,true),(10,true),(11,false)] fun K hK=>?_;refine ⟨_,Zf c0 hnb,_,Zf c1 hnb,?_⟩;refine Aa Uv ?_;refine Qs ?_;refine Yc (Qcf (p.length+10) w5 (hT.heap (hH3.sub (Yd _))) (by omega) (by omega)) ?_;rintro v w6 ⟨hHd,rfl⟩;refine ⟨(Ext.hole _ _).trans hHd.ext,?_⟩;replace hH3:=hH3.call0 hHd;rw [Ya] at hH3;clear c0 c1;refine Qs ?_;have hrl:=Qdi p;have hrec:Ry (p.length+10)++[32]++pathW++[61]++p++[10]=Mt p:=by simp [Mt]
  rw [hrec];refine ⟨by simp [hdl],by simp [hdl],by simp [hdl],by simp [hdl];omega,by simp [hdl];omega,?_⟩;refine Aa Tryz.call91 ?_;refine Qs ?_;refine Yc (Qa8 (Mt p) (hH3.sub (Yj _ _)) hg0 (by simp) (by simp;omega)) ?_;rintro v w7 ⟨og2,hH4,hkk,rfl⟩;refine ⟨QFg hHd.upd hkk,?_⟩;apply hK;clear hK;refine An ?_;refine VS [4,7,27,28,29] ?_;refine Ah ?_;refine Qs ?_;refine ⟨0,by omega,1,og2,rfl,?_,by omega,rfl⟩;simpa using hH4
 obtain rfl:i=1:=by omega
 rw [if_neg (by omega)] at hB;refine Ax rfl ?_;refine VQ [2,3] fun K hK=>?_;refine Aa Tryz.call92 ?_;refine Qs ?_;refine Yc (Qap hB hg0 (by simp)) ?_;rintro v w7 ⟨hH4,rfl⟩;apply hK;clear hK;refine Ae (Bp rfl rfl rfl ⟨?_,rfl⟩);have:=hH.call0 hH4;exact this
def O5:LB->Bool
 | []=>true
 | [_]=>true
 | a::b::r=>decide (a.toNat < b.toNat) && O5 (b::r)
def Pv (l:LB):Bool:=O5 l && ! l.isEmpty
theorem Qff (l:LB) (hl:l.length<=1000000000000) (w:World):Does Yf 179 #[Ab l] w fun v w'=>w'=w/\v=.bool (Pv l):=by
 refine En [Ab l] 20 Tryz.func179 ?_;refine VS [0] ?_;refine VS [0,3] ?_;refine Aq ?_;refine Ay [0,3] (fun m e w'=>∃ (i:Nat),Is e [(0,Ab l),(3,.int .i64 i)]/\Is w' w/\1<=i/\i<=max l.length 1/\O5 (l.drop (i - 1))=O5 l/\m=l.length - i) (l.length - 1) ?_ ?_
 ·
  refine Qs ?_;exact ⟨1,rfl,rfl,by omega,by omega,rfl,rfl⟩
 rintro m e w' ⟨i,rfl,rfl,hi1,hi2,ha,hm⟩;refine VS [0,3,7] ?_;refine VD (fun h=>?_) (fun h=>?_)
 ·
  have e1:l.drop (i - 1)=l.getD (i - 1) 0::l.getD i 0::l.drop (i+1):=by
   rw [drop_getD 0 (l:=l) (i:=i - 1) (by omega),show i - 1+1=i by omega,drop_getD 0 (l:=l) (i:=i) (by omega)]
  have e2:l.drop i=l.getD i 0::l.drop (i+1):=drop_getD 0 (by omega);rw [e1,O5,<- e2] at ha;refine Ad ?_;refine VB ?_;refine Vq [0,3,17] fun K hK=>?_;(repeat first | refine Qo ?_ | refine Qp ?_);apply hK;clear hK;refine VD (fun h=>?_) (fun h=>?_)
  ·
   refine VS [2] ?_;refine Ae (Al rfl rfl ⟨rfl,?_⟩);rw [decide_eq_false (by omega),Bool.false_and] at ha;rw [Pv,<- ha,Bool.false_and]
  rw [decide_eq_true (by omega),Bool.true_and] at ha;refine Ad ?_;refine An ?_;refine VS [0,3] ?_;refine Ah ?_;refine Qs ?_;exact ⟨l.length - (i+1),by omega,i+1,rfl,rfl,by omega,by omega,by rw [Y7];exact ha,rfl⟩
 refine Ax rfl ?_;refine VS [2] ?_;refine Ae (Al rfl rfl ⟨rfl,?_⟩)
 have e1:O5 (l.drop (i - 1))=true:=by
  have hlen:(l.drop (i - 1)).length<=1:=by rw [Ub];omega
  generalize l.drop (i - 1)=d at *
  match d,hlen with
  | [],_=>rfl
  | [_],_=>rfl
  | _::_::_,h=>simp at h
 rw [Pv,<- ha,e1];cases l <;> rfl
def M3 (li:LB) (at_:Nat):LB:=li.getD at_ 0::(li.take at_++li.drop (at_+1))
theorem Qr3 (li:LB) (g cap at_:Nat) (hat:at_ < li.length) (hl:li.length<=1000000000000) (w0 w:World) (B:LN) (G:List Res) (hL:Heap w0 B w (Yr 5 1 (some ⟨g,0,none⟩) li.length cap (Ao li)::G)) :
  Does Yf 180 #[.slice (some ⟨g,0,none⟩) li.length cap,.int .i64 at_] w
   fun v w'=>Heap w0 B w' (Yr 5 1 (some ⟨g,0,none⟩) li.length cap (Ao (M3 li at_))::G)/\v=.int .u8 (li.getD at_ 0).toNat:=by
 refine En [.slice (some ⟨g,0,none⟩) li.length cap,.int .i64 at_] 22 Tryz.func180 ?_;refine VS [0,1] ?_;refine VQ [0,1,5] fun K hK=>?_;(repeat first | refine Qo ?_ | refine Qp ?_ | (refine Gc hL ?_;(try refine Qs ?_)));apply hK;clear hK;refine VL [0,5] 7 fun K hK=>?_;obtain ⟨hx1,hx2,hx3,hx4⟩:=hL.at 0 rfl;clear hx1 hx4;refine ⟨X1 (by omega) (by omega),⟨by omega,by omega,by omega⟩,⟨by omega,by omega⟩,?_⟩
 have hsrc:RS w (some ⟨g,0,none⟩) at_ 1 (Ao (li.take at_)):=by
  rw [<- bytesV_take];have h:=(As (hL.at 0 rfl)).take at_ (by omega)
  rwa [Nat.mul_one] at h
 suffices hall:∀ w5,Heap w0 B w5 (Yr 5 1 (some ⟨g,0,none⟩) li.length cap (Ao (li.take 1++li.take at_++li.drop (at_+1)))::G)->K [(0,.slice (some ⟨g,0,none⟩) li.length cap),(5,.int .u8 (li.getD at_ 0).toNat)] w5 by
  refine Qdy ?_;refine Qs ?_;by_cases hc1:cap=1
  ·
   have h0:at_=0:=by omega
   subst h0;rw [if_pos (by rw [hc1];rfl)];refine Vg hL 0 rfl Yh E5 (off:=0) rfl ⟨rfl,hsrc,5,Yh⟩ (Vf _) (by simp) fun w5 hu hH4=>?_;refine hall w5 ?_;rw [show li.take 1++li.take 0++li.drop (0+1)=li by rw [List.take_zero,X2];exact Y8 1 li];simpa using hH4
  rw [if_neg (by rw [show Uo 1=1 from rfl];exact hc1)];simp only [Option.map_some];refine Vg hL 0 rfl Yh E5 (off:=1) rfl ⟨rfl,hsrc,5,Yh⟩ (Vf _) (by rw [Of,show Uo 1=1 from rfl];omega) fun w5 hu hH4=>?_;refine hall w5 ?_;have e:min at_ (at_+1 - Uo 1) * 1=at_:=by rw [show Uo 1=1 from rfl];omega
  simp only [e,Yb] at hH4;rw [Ql,Ql,<- bytesV_take,<- bytesV_drop];have e5:(Ao (li.take at_)).take at_=Ao (li.take at_):=Y1 (by rw [Of,List.length_take];omega);rw [e5,show 1+at_=at_+1 by omega] at hH4;exact hH4
 intro w5 hH;apply hK;clear hK;have hlen:(li.take 1++li.take at_++li.drop (at_+1)).length=li.length:=by simp;omega
 have hmv:(li.take 1++li.take at_++li.drop (at_+1)).set 0 (li.getD at_ 0)=M3 li at_:=by
  cases li with
  | nil=>simp at hat
  | cons x r=>simp [M3]
 generalize li.take 1++li.take at_++li.drop (at_+1)=li2 at *;refine VQ [5] fun K hK=>?_;refine Qp ?_;refine Ag ?_;refine Qs ?_;refine Dp hH 0 (o:=(0)) (vs:=[.int .u8 (li.getD at_ 0).toNat]) rfl (by first | exact (Bv _ _ _).symm | rfl | simp [Bv]) rfl (by kernel_rfl) (by first | omega | (simp;done) | (simp;omega) | (simp [Ao,Br];omega) | (rw [natsV_len];simp;omega)) (by simp [Yw]) fun w6 hH2=>?_;(try refine Qs ?_);simp only [Xi,Dm (Ao li2) _ _ (show 0 < (Ao li2).length by rw [Of];omega),T7,Yb,hmv] at hH2;apply hK;clear hK;refine VS [4] ?_;exact Ae (Al rfl rfl ⟨hH2,rfl⟩)
def Lj (l:List Bool):LV:=l.map Value.bool
theorem Qhu (l:List Bool):(Lj l).length=l.length:=by simp [Lj]
theorem Qr4 {l:List Bool}{i:Nat} (h:i < l.length):(Lj l)[i]? = some (.bool (l.getD i false)):=by
 simp [Lj,Ye h,Yi]
theorem Qr5 (l:List Bool) (i:Nat) (v:Bool):(Lj l).set i (.bool v)=Lj (l.set i v):=by simp [Lj,List.map_set]
def K4 (l:LB) (n:Nat):LB:=((Yq n).filter fun b=>l.any fun c=>c.toNat == b).map Xb
def A7 (l:LB):LB:=K4 l 256
theorem Qr6 (l:LB) (n:Nat):K4 l (n+1)=K4 l n++if (l.any fun c=>c.toNat == n) then [Xb n] else []:=by
 unfold K4;rw [List.range_succ,List.filter_append,Xm]
 congr 1
 by_cases h:(l.any fun c=>c.toNat == n)=true
 ·
  rw [if_pos h,List.filter_cons_of_pos (p:=fun b=>l.any fun c=>c.toNat == b) h];rfl
 rw [if_neg h,List.filter_cons_of_neg (p:=fun b=>l.any fun c=>c.toNat == b) h];rfl
theorem Qwj (l:LB) (n:Nat):(K4 l n).length<=n:=by
 unfold K4;rw [Xh];exact Nat.le_trans (List.length_filter_le _ _) (by simp)
theorem QFi (l:LB) (hl:l.length<=1000000000000) (w:World):Does Yf 138 #[Ab l] w fun v w'=>Heap w [] w' []/\v=Ab (A7 l):=by
 refine En [Ab l] 32 Tryz.func138 ?_;refine VS [0] ?_;refine VQ [0,3] fun K hK=>?_;refine Bo (.agg (Lj (Xt 256 false)).toArray) (by kernel_rfl) ?_;refine Qs ?_;have hH0:=(Ym w).box 267 (Lj (Xt 256 false));generalize w.alloc (Yo (Lj (Xt 256 false)).toArray 267)=w1 at *;generalize w.heap.size=gu at *;apply hK;clear hK;refine VS [0,3,8,9] ?_;generalize hn:l.length=n at *;refine Aq ?_;refine Ay [0,3,8,9] (fun m e w'=>∃ (k:Nat) (bl:List Bool),Is e [(0,Ab l),(3,.pointer (some ⟨gu,0,none⟩)),(8,.int .i64 n),(9,.int .i64 k)]/\Heap w [] w' [Xd gu 267 (Lj bl)]/\bl.length=256/\k<=n/\(∀ b,b < 256->bl.getD b false=(l.take k).any fun c=>c.toNat == b)/\m=n - k) n ?_ ?_
 ·
  refine Qs ?_;exact ⟨0,_,rfl,hH0,by simp,by omega,fun b hb=>by rw [Yi,List.getElem?_replicate,if_pos hb];rfl,rfl⟩
 clear hH0;rintro m e w2 ⟨k,bl,rfl,hH,hbl,hk,hb,hm⟩;refine VS [0,3,8,9,10] ?_;(repeat refine Aw ?_);refine VD (fun h=>?_) (fun h=>?_)
 ·
  have hbk:=(l.getD k 0).toNat_lt
  have htk:l.take (k+1)=l.take k++[l.getD k 0]:=by
   rw [Ys,Ye (by omega),Yi,Ye (by omega)];rfl
  refine Ad ?_;refine VB ?_;refine VS [0,3,4,8,9] ?_;refine VQ [0,3,8,9] fun K hK=>?_;rw [hn];refine ⟨⟨by omega,by omega⟩,⟨by omega,by omega⟩,?_⟩;refine Ag ?_;refine Qs ?_;refine Ap hH 0 (o:=(l.getD k 0).toNat) (vs:=[.bool true]) rfl rfl (by kernel_rfl) (by rw [Qhu,Xi];omega) (by simp [Yw]) fun w6 hH2=>?_;simp only [Xi,Dm (Lj bl) _ _ (show (l.getD k 0).toNat < (Lj bl).length by rw [Qhu];omega),Qr5,Yb] at hH2;apply hK;clear hK;refine An ?_;refine VS [0,3,8,9] ?_;refine Ah ?_;refine Qs ?_;refine ⟨n - (k+1),by omega,k+1,_,rfl,hH2,by simp [hbl],by omega,fun b hb2=>?_,rfl⟩;rw [htk,List.any_append,<- hb b hb2];generalize l.getD k 0=c at *;simp only [Yi,List.getElem?_set];by_cases e:c.toNat=b
  ·
   rw [if_pos e,if_pos (by omega)];simp [e]
  rw [if_neg e];simp [e]
 obtain rfl:k=n:=by omega
 rw [Y1 (by omega)] at hb;refine Ax rfl ?_;refine VQ [3,5] fun K hK=>?_;refine Ei hH (Ao []) (xs:=[]) Yh E5 rfl rfl rfl (by omega) ?_;refine Qs ?_;refine ⟨rfl,by simp [Yu],fun g w4 hH2=>?_⟩;(try refine Qs ?_);apply hK;clear hK;refine VS [3,5,18] ?_;refine Aq ?_;refine Ay [3,5,18] (fun m e w'=>∃ (b cap:Nat) (a:OA),Is e [(3,.pointer (some ⟨gu,0,none⟩)),(5,.slice a (K4 l b).length cap),(18,.int .i64 b)]/\Heap w [] w' [Yr 5 1 a (K4 l b).length cap (Ao (K4 l b)),Xd gu 267 (Lj bl)]/\b<=256/\m=256 - b) 256 ?_ ?_
 ·
  refine Qs ?_;exact ⟨0,_,_,rfl,hH2,by omega,rfl⟩
 clear hH hH2;rintro m e w5 ⟨b,cap,a,rfl,hH,hb2,hm⟩;refine VS [3,5,18,19] ?_;(repeat refine Aw ?_);refine VD (fun h=>?_) (fun h=>?_)
 ·
  have hus:=Qr6 l b;have hul:=Qwj l b;have hbb:=hb b (by omega);refine Ad ?_;refine VB ?_;refine VS [3,5,6,18] ?_;refine VQ [3,5,6,18,23] fun K hK=>?_;refine ⟨⟨by omega,by omega⟩,_,Af (hH.at 1 rfl) (Qr4 (by omega)),?_⟩;rw [hbb];apply hK;clear hK;generalize (l.any fun c=>c.toNat == b)=bb at *;refine Vi (fun h=>?_) (fun h=>?_)
  ·
   subst h;rw [if_pos rfl] at hus;refine VQ [3,5,18] fun K hK=>?_;rw [show ((b:Int) % 256)=((Xb b).toNat:Int) by rw [Ur];omega];have hlen:(K4 l (b+1)).length=(K4 l b).length+1:=by rw [hus];simp
   refine Oi (xs:=[.tmp 26]) Yh E5 rfl rfl rfl (by omega) ?_;refine Qs ?_;refine ⟨by simp [Yu],?_⟩;refine Ce ?_;refine Qs ?_;refine Qdx hH 0 (Xb b) rfl Yh Mv (by first | rfl | (simp;done) | omega) (fun h=>by (first | omega | (simp;done) | (simp;omega))) fun a' cap' w5 hc' hH2=>?_;(try refine Qs ?_);rw [<- hus] at hH2 ⊢;apply hK;clear hK;refine An ?_;refine VS [3,5,18] ?_;refine Ah ?_;refine Qs ?_;exact ⟨256 - (b+1),by omega,b+1,cap',a',rfl,hH2,by omega,rfl⟩
  subst h;rw [if_neg (by simp),X2] at hus;refine Ad ?_;refine An ?_;refine VS [3,5,18] ?_;refine Ah ?_;refine Qs ?_;exact ⟨256 - (b+1),by omega,b+1,cap,a,by rw [hus];rfl,by rw [hus];exact hH,by omega,rfl⟩
 obtain rfl:b=256:=by omega
 refine Ax rfl ?_;refine VQ [2] fun K hK=>?_;refine ⟨A7 l,hH.readsBytes 0 rfl,?_⟩;apply hK;clear hK;exact Ae (Al rfl rfl ⟨hH.sub (by simp),rfl⟩)
def I8:LB->LB->Option (List Int)
 | _,[]=>some []
 | li,c::r=>if c∈li then (I8 (M3 li (li.idxOf c)) r).map ((li.idxOf c:Int)::·) else none
theorem Qhv {li:LB}{at_:Nat} (h:at_ < li.length):(M3 li at_).length=li.length:=by simp [M3];omega
def S1 (sym l:LB) (w:World) (v:Value) (w':World):Prop :=
 if Pv sym=true then match I8 sym l with
  | none=>Heap w [] w' []/\v=.tuple #[.slice none 0 0,.int .i64 60]
  | some out=>∃ a cap,Heap w [] w' [Yr 3 1 a out.length cap (Br out)]/\v=.tuple #[.slice a out.length cap,.int .i64 0]
 else Heap w [] w' []/\v=.tuple #[.slice none 0 0,.int .i64 2]
theorem Qr7 (l sym:LB) (hl:l.length<=1000000000000) (hs:sym.length<=1000000000000) (w:World):Does Yf 139 #[Ab l,Ab sym] w fun v w'=>S1 sym l w v w':=by
 refine En [Ab l,Ab sym] 52 Tryz.func139 ?_;refine VS [0,1] ?_;refine VQ [0,1,12] fun K hK=>?_;refine Aa Tryz.call179 ?_;refine Qs ?_;refine Yc (Qff sym hs w) ?_;rintro v w2 ⟨rfl,rfl⟩;refine Qs ?_;apply hK;clear hK;refine Vi (fun h=>?_) (fun h=>?_)
 ·
  simp at h;refine VS [4,5] ?_;exact Ae (Bp rfl rfl rfl (by show S1 _ _ _ _ _;unfold S1;rw [if_neg (by simp [h])];exact ⟨Ym _,rfl⟩))
 simp at h
 have hfo:∀ v w',S1 sym l w2 v w'=match I8 sym l with
  | none=>Heap w2 [] w' []/\v=.tuple #[.slice none 0 0,.int .i64 60]
  | some out=>∃ a cap,Heap w2 [] w' [Yr 3 1 a out.length cap (Br out)]/\v=.tuple #[.slice a out.length cap,.int .i64 0]:=fun v w'=>by unfold S1;rw [if_pos h]
 simp only [hfo];clear hfo h;generalize hfr:I8 sym l=res at *;refine Ad ?_;refine VQ [0,6] fun K hK=>?_;refine Qb0 ?_;refine Qs ?_;refine Qb1 (Ym w2) Xk Yh Tryz.underlying5 (by omega) fun gl cl w3 hH=>?_;apply hK;clear hK;refine VQ [0,6,7] fun K hK=>?_;refine Ew X6 Ib ?_;refine Qs ?_;refine ⟨0,l.length,⟨rfl,rfl,by omega,by omega,by omega⟩,?_⟩;have hH1:=hH.row 3 (n:=0) (cap:=l.length) (sz:=1) [] (Xt l.length (.int .i64 0)) (by simp) (by simp) (by omega) (by omega);simp only [Ya] at hH1;generalize w3.alloc (Yo (Xt l.length (X3 IntKind.i64 0)).toArray 3)=w4 at *;generalize w3.heap.size=go at *;apply hK;clear hK;generalize hn:l.length=n at *;refine VS [0,6,7,19,20] ?_;rw [hn];have hsl:sym.length<=1000000000000:=hs;generalize hm0:sym.length=sl_ at *;refine Aq ?_;refine Ay [0,6,7,19,20] (fun m e w'=>∃ (k cap:Nat) (a:OA) (li:LB) (out:List Int),Is e [(0,Ab l),(6,.slice (some ⟨gl,0,none⟩) sl_ cl),(7,.slice a out.length cap),(19,.int .i64 n),(20,.int .i64 k)]/\Heap w2 [] w' [Yr 3 1 a out.length cap (Br out),Yr 5 1 (some ⟨gl,0,none⟩) sl_ cl (Ao li)]/\li.length=sl_/\k<=n/\out.length=k/\res=(I8 li (l.drop k)).map (out++·)/\m=n - k) n ?_ ?_
 ·
  refine Qs ?_;exact ⟨0,n,_,sym,[],rfl,hH1,hm0,by omega,rfl,by rw [List.drop_zero,hfr];simp,rfl⟩
 clear hH hH1 hfr;rintro m e w5 ⟨k,cap,a,li,out,rfl,hH,hli,hk,hol,hres,hm⟩;refine VS [0,6,7,19,20,21] ?_;(repeat refine Aw ?_);refine VD (fun h=>?_) (fun h=>?_)
 ·
  have hdk:l.drop k=l.getD k 0::l.drop (k+1):=drop_getD 0 (by omega);rw [hdk,I8] at hres;refine Ad ?_;refine VB ?_;refine VS [0,6,7,8,19,20] ?_;refine VS [0,6,7,8,9,19,20] ?_;refine VB ?_;refine Ay [0,6,7,8,9,19,20] (fun m e w'=>∃ (at_:Nat),Is e [(0,Ab l),(6,.slice (some ⟨gl,0,none⟩) sl_ cl),(7,.slice a out.length cap),(8,.int .i64 k),(9,.int .i64 at_),(19,.int .i64 n),(20,.int .i64 k)]/\Is w' w5/\at_<=sl_/\l.getD k 0 ∉ li.take at_/\m=sl_ - at_) sl_ ?_ ?_
  ·
   refine Qs ?_;exact ⟨0,rfl,rfl,by omega,by simp,rfl⟩
  rintro m2 e w6 ⟨at_,rfl,rfl,hat,hnot,hm2⟩;refine Vq [0,6,7,8,9,19,20,36] fun K hK=>?_
  suffices hall:∀ bb:Bool,(bb=true ↔ (at_ < sl_/\li.getD at_ 0≠l.getD k 0))->K [(0,Ab l),(6,.slice (some ⟨gl,0,none⟩) sl_ cl),(7,.slice a out.length cap),(8,.int .i64 k),(9,.int .i64 at_),(19,.int .i64 n),(20,.int .i64 k),(36,.bool bb)] by
   refine ⟨fun hg=>?_,fun hg=>hall _ (by simp;omega)⟩;refine ⟨⟨by omega,by omega⟩,_,B3 (hH.at 1 rfl) (bytesV_get (by omega)),⟨by omega,by omega⟩,?_⟩;refine Qs ?_;refine hall _ ?_;have:(li.getD at_ 0).toNat=(l.getD k 0).toNat ↔ li.getD at_ 0=l.getD k 0:=UInt8.toNat_inj;generalize li.getD at_ 0=c1 at *;generalize l.getD k 0=c2 at *;by_cases e:c1=c2
   ·
    subst e;simp
   have h3:c1.toNat≠c2.toNat:=fun h=>e (this.1 h);exact ⟨fun _=>⟨by omega,e⟩,fun _=>decide_eq_true (by omega)⟩
  intro bb hbb;apply hK;clear hK;refine Vi (fun h=>?_) (fun h=>?_)
  ·
   obtain ⟨h1,h2⟩:=hbb.1 h;refine Ad ?_;refine Aq ?_;refine VS [0,6,7,8,9,19,20] ?_;refine An ?_;refine Ah ?_;refine Qs ?_;refine ⟨sl_ - (at_+1),by omega,at_+1,rfl,rfl,by omega,?_,rfl⟩;rw [Ys,Ye (by omega),Yz];rintro (h3 | h3)
   ·
    exact hnot h3
   have h4:l.getD k 0=li[at_]:=by simpa using h3
   apply h2;rw [h4,Yi,Ye (by omega)];rfl
  refine Ax rfl ?_
  have hstop:at_=sl_∨li.getD at_ 0=l.getD k 0:=by
   by_cases h1:at_ < sl_
   ·
    right;by_cases h2:li.getD at_ 0=l.getD k 0
    ·
     exact h2
    have:=hbb.2 ⟨h1,h2⟩
    simp_all
   left;omega
  clear hbb h;refine VS [0,6,7,9,19,20,42] ?_;refine VD (fun h=>?_) (fun h=>?_)
  ·
   obtain rfl:at_=sl_:=by omega
   rw [Y1 (by omega)] at hnot;rw [if_neg hnot] at hres;subst hres;refine VS [4,5] ?_;exact Ae (Bp rfl rfl rfl ⟨hH.sub (by simp),rfl⟩)
  have hat2:at_ < sl_:=by omega
  have heq:li.getD at_ 0=l.getD k 0:=by rcases hstop with h1 | h1;omega;exact h1
  have hidx:li.idxOf (l.getD k 0)=at_:=by
   have e:=Y8 at_ li;rw [drop_getD 0 (l:=li) (i:=at_) (by omega),heq] at e
   have h3:(li.take at_++l.getD k 0::li.drop (at_+1)).idxOf (l.getD k 0)=at_:=by
    rw [List.idxOf_append,if_neg hnot,List.idxOf_cons_self,List.length_take];omega
   rwa [e] at h3
  have hmem:l.getD k 0∈li:=by rw [<- heq];exact Ez 0 (by omega)
  rw [if_pos hmem,hidx] at hres;refine Ad ?_;refine VQ [0,6,7,9,19,20] fun K hK=>?_;have hc:=Qr3 li gl cl at_ (by omega) (by omega) w2 w6 [] _ (by rw [hli];exact hH.front 1 rfl);rw [hli] at hc;refine Aa Tryz.call180 ?_;refine Qs ?_;refine Yc hc ?_;clear hc;rintro v w7 ⟨hH2,rfl⟩;have hH3:=hH2.front 1 rfl;simp only [Xq,Xr] at hH3;apply hK;clear hK;refine VQ [0,6,7,19,20] fun K hK=>?_;refine Oi (xs:=[.tmp 47]) X6 O8 rfl rfl rfl (by omega) ?_;refine Qs ?_;refine ⟨by simp [Yu],?_⟩;refine Ce ?_;refine Qs ?_;refine Z1 hH3 0 rfl X6 Ib (fun h=>by (first | omega | (simp;done) | (simp;omega))) fun a' cap' w5 hc' hH4=>?_;(try refine Qs ?_);apply hK;clear hK;refine An ?_;refine VS [0,6,7,19,20] ?_;refine Ah ?_;refine Qs ?_;refine ⟨n - (k+1),by omega,k+1,cap',a',M3 li at_,out++[(at_:Int)],rfl,hH4,by rw [Qhv (by omega)];exact hli,by omega,by simp [hol],?_,rfl⟩;rw [hres,Option.map_map]
  congr 1
  funext x;simp
 obtain rfl:k=n:=by omega
 rw [List.drop_eq_nil_of_le (by omega),I8] at hres;simp only [Option.map_some,X2] at hres;subst hres;refine Ax rfl ?_;refine VS [4,5] ?_;exact Ae (Bp rfl rfl rfl ⟨a,cap,hH.sub (by simp),rfl⟩)
def Zz:LB->List Int->Option (LB)
 | _,[]=>some []
 | li,v::r=>if 0<=v/\v < li.length then (Zz (M3 li v.toNat) r).map (li.getD v.toNat 0::·) else none
def Q4 (sym:LB) (l:List Int):LB×Int :=
 if Pv sym=true then match Zz sym l with
  | none=>([],60)
  | some out=>(out,0)
 else ([],2)
theorem Qr8 {li:LB}{c:UInt8} (h:c∈li):li.getD (li.idxOf c) 0=c:=by
 have h1:=Xc.2 h;rw [Yi,Ye h1,U1];exact List.getElem_idxOf h1
theorem Qhw:∀ (l li:LB) (out:List Int),I8 li l=some out->Zz li out=some l
 | [],li,out,h=>by
  simp only [I8,Option.some.injEq] at h;subst h;rfl
 | c::r,li,out,h=>by
  rw [I8] at h;split at h
  ·
   rename_i hc;have h1:=Xc.2 hc;rw [Uf] at h;obtain ⟨out',h2,rfl⟩:=h;rw [Zz,if_pos (by omega),Y4,Qhw r _ out' h2,Qr8 hc];rfl
  cases h
theorem Qfg:∀ (l li:LB) (out:List Int),I8 li l=some out->out.length=l.length/\∀ v∈out,0<=v/\v < li.length
 | [],li,out,h=>by
  simp only [I8,Option.some.injEq] at h;subst h;simp
 | c::r,li,out,h=>by
  rw [I8] at h;split at h
  ·
   rename_i hc;have h1:=Xc.2 hc;rw [Uf] at h;obtain ⟨out',h2,rfl⟩:=h;obtain ⟨h3,h4⟩:=Qfg r _ out' h2;rw [Qhv h1] at h4;refine ⟨by simp [h3],fun v hv=>?_⟩;rcases Yp.1 hv with rfl | hv
   ·
    omega
   exact h4 v hv
  cases h
theorem Qr9 {li:LB}{at_:Nat} (h:at_ < li.length) (c:UInt8):c∈M3 li at_ ↔ c∈li:=by
 have e:li=li.take at_++li.getD at_ 0::li.drop (at_+1):=by
  rw [<- Go.Eng.drop_getD 0 h,Y8]
 unfold M3
 conv=>rhs;rw [e]
 simp only [Yp,Yz];constructor
 ·
  rintro (h | h | h)
  ·
   exact .inr (.inl h)
  ·
   exact .inl h
  exact .inr (.inr h)
 rintro (h | h | h)
 ·
  exact .inr (.inl h)
 ·
  exact .inl h
 exact .inr (.inr h)
theorem Qhx:∀ (l li:LB),(∀ c∈l,c∈li)->∃ out,I8 li l=some out
 | [],li,_=>⟨[],rfl⟩
 | c::r,li,h=>by
  have hc:=h c (by simp);have h1:=Xc.2 hc;obtain ⟨out,ho⟩:=Qhx r (M3 li (li.idxOf c)) fun d hd=>(Qr9 h1 d).2 (h d (by simp [hd]));exact ⟨_,by rw [I8,if_pos hc,ho];rfl⟩
theorem So {l:LB}{c:UInt8}:c∈A7 l ↔ c∈l:=by
 simp only [A7,K4,Y3,Uh,Ul,Uc,beq_iff_eq];constructor
 ·
  rintro ⟨b,⟨hb,d,hd,rfl⟩,rfl⟩;simpa using hd
 intro h;exact ⟨c.toNat,⟨c.toNat_lt,c,h,rfl⟩,by simp⟩
theorem QAv:∀ (l:LN),l.Pairwise (· < ·)->(∀ b∈l,b < 256)->O5 (l.map Xb)=true
 | [],_,_=>rfl
 | [_],_,_=>rfl
 | a::b::r,h,hb=>by
  have h1:=Y2.1 h;have ha:=hb a (by simp);have hb1:=hb b (by simp);have h2:=h1.1 b (by simp);simp only [List.map_cons,O5,Xf,decide_eq_true_eq];refine ⟨by simp only [Ur];omega,?_⟩;have:=QAv (b::r) h1.2 fun x hx=>hb x (by simp [hx]);simpa using this
theorem Qba {l:LB} (h:l≠[]):Pv (A7 l)=true:=by
 have h1:O5 (A7 l)=true:=QAv _ (List.Pairwise.filter _ List.pairwise_lt_range) fun b hb=>by simp at hb;exact hb.1
 have h2:A7 l≠[]:=fun e=>by
  cases l with
  | nil=>exact h rfl
  | cons c r=>have:=(So (l:=c::r) (c:=c)).2 (by simp);rw [e] at this;cases this
 rw [Pv,h1];cases hu:A7 l with
 | nil=>exact absurd hu h2
 | cons=>rfl
def Lo (u:LB) (b:Nat):Bool:=u.any fun c=>c.toNat == b
def Cl (u:LB) (i:Nat):Bool:=(Yq 16).any fun k=>Lo u (16 * i+k)
def Fc (u:LB) (i:Nat):List Bool:=(Yq 16).map fun k=>Lo u (16 * i+k)
def Fb (u:LB):List Bool:=(Yq 16).map (Cl u)++(Yq 16).flatMap fun i=>if Cl u i then Fc u i else []
def Sw (i:Nat) (row:List Bool):LB:=((Yq 16).filter fun k=>row.getD k false).map fun k=>Xb (16 * i+k)
def Tn (bits:List Bool):List Bool->Nat->Nat->Except Int (LB×Nat)
 | [],_,at_=>.ok ([],at_)
 | false::r,i,at_=>Tn bits r (i+1) at_
 | true::r,i,at_=>if bits.length < at_+16 then .error 10 else match Tn bits r (i+1) (at_+16) with
  | .error e=>.error e
  | .ok q=>.ok (Sw i ((bits.drop at_).take 16)++q.1,q.2)
def Qit (bits:List Bool) (at_:Nat):Except Int (LB×Nat) :=
 if bits.length < at_+16 then .error 10 else match Tn bits ((bits.drop at_).take 16) 0 (at_+16) with
 | .error e=>.error e
 | .ok q=>if q.1=[] then .error 60 else .ok q
theorem Qiu (u:LB) (i:Nat):(Fc u i).length=16:=by simp [Fc]
theorem Qdd (u:LB) (i:Nat):Sw i (Fc u i)=(((Yq 16).map fun k=>16 * i+k).filter (Lo u)).map Xb:=by
 unfold Sw;rw [List.filter_map,List.map_map]
 have:(Yq 16).filter (fun k=>(Fc u i).getD k false)=(Yq 16).filter (Lo u ∘ fun k=>16 * i+k):=by
  refine Uw fun k hk=>?_;have hk:k < 16:=by simpa using hk
  simp [Fc,Yi,Uq hk]
 rw [this];rfl
theorem Qjm {u:LB}{i:Nat} (h:Cl u i=false):Sw i (Fc u i)=[]:=by
 rw [Qdd,List.map_eq_nil_iff,List.filter_eq_nil_iff];intro b hb;obtain ⟨k,hk,rfl⟩:=Y3.1 hb;unfold Cl at h;rw [List.any_eq_false] at h;exact h k hk
theorem QA7 (u:LB):∀ (n i:Nat) {bits:List Bool}{at_:Nat}{r:List Bool},bits.drop at_=((X9 i n).flatMap fun i=>if Cl u i then Fc u i else [])++r ->
  Tn bits ((X9 i n).map (Cl u)) i at_=.ok ((X9 i n).flatMap (fun i=>Sw i (Fc u i)),at_+((X9 i n).flatMap fun i=>if Cl u i then Fc u i else []).length)
 | 0,i,bits,at_,r,_=>rfl
 | n+1,i,bits,at_,r,hb=>by
  rw [List.range'_succ] at hb ⊢;simp only [List.map_cons,Ux,Xs] at hb ⊢;cases h:Cl u i with
  | false =>
   rw [h] at hb;simp only [Xp,if_false,Ya] at hb ⊢;rw [Tn,QA7 u n (i+1) hb,Qjm h];simp
  | true =>
   rw [h] at hb;simp only [if_true] at hb ⊢;have hl:=Qiu u i;have hlen:bits.length - at_=(Fc u i).length+(((X9 (i+1) n).flatMap fun i=>if Cl u i then Fc u i else [])++r).length:=by rw [<- Ub,hb,Yn]
   have ht:(bits.drop at_).take 16=Fc u i:=by
    rw [hb,Xy (by omega),Y1 (by omega)]
   have hd:=Me hb;rw [hl] at hd;rw [Tn,if_neg (by omega),QA7 u n (i+1) hd,ht];simp [hl];omega
theorem Qwk (u:LB):(Yq 16).flatMap (fun i=>Sw i (Fc u i))=((Yq 256).filter (Lo u)).map Xb:=by
 have e:Yq 256=(Yq 16).flatMap fun i=>(Yq 16).map fun k=>16 * i+k:=by decide
 rw [e,List.filter_flatMap,List.map_flatMap];simp only [Qdd]
theorem Qwl (l:LB) (b:Nat) (hb:b < 256):Lo (A7 l) b=l.any fun c=>c.toNat == b:=by
 unfold Lo;rw [Bool.eq_iff_iff,Uc,Uc];constructor
 ·
  rintro ⟨c,hc,h⟩;exact ⟨c,So.1 hc,h⟩
 rintro ⟨c,hc,h⟩;exact ⟨c,So.2 hc,h⟩
theorem Qsa (l:LB):((Yq 256).filter (Lo (A7 l))).map Xb=A7 l:=by
 conv=>rhs;unfold A7 K4
 congr 1
 refine Uw fun b hb=>?_;rw [Qwl l b (by simpa using hb)]
theorem Qeb (u:LB):(Fb u).length<=272:=by
 have h:∀ m,((Yq m).flatMap fun i=>if Cl u i then Fc u i else []).length<=16 * m:=fun m=>by
  induction m with
  | zero=>simp
  | succ m ih =>
   rw [List.range_succ,List.flatMap_append,Yn];have:((if Cl u m=true then Fc u m else []):List Bool).length<=16:=by split <;> simp [Qiu]
   simp only [Ux,List.flatMap_nil,X2];omega
 have:=h 16;unfold Fb;simp only [Yn,Xh,List.length_range];omega
theorem Qzu {l:LB} (hl:l≠[]) {bits:List Bool}{at_:Nat}{r:List Bool} (hb:bits.drop at_=Fb (A7 l)++r):Qit bits at_=.ok (A7 l,at_+(Fb (A7 l)).length):=by
 generalize hu:A7 l=u at *;rw [Fb,Xs] at hb;have h16:((Yq 16).map (Cl u)).length=16:=by simp
 have hlen:bits.length - at_=((Yq 16).map (Cl u)).length+(((Yq 16).flatMap fun i=>if Cl u i then Fc u i else [])++r).length:=by rw [<- Ub,hb,Yn]
 have ht:(bits.drop at_).take 16=(Yq 16).map (Cl u):=by
  rw [hb,Xy (by omega),Y1 (by omega)]
 have hd:=Me hb;rw [h16] at hd
 have hne:u≠[]:=fun e=>by
  cases l with
  | nil=>exact hl rfl
  | cons c r=>have:=(So (l:=c::r) (c:=c)).2 (by simp);rw [hu,e] at this;cases this
 rw [Qit,if_neg (by omega),ht];have:=QA7 u 16 0 (bits:=bits) (at_:=at_+16) (r:=r) (by rw [<- Um];exact hd);rw [<- Um] at this;rw [this,Qwk,<- hu,Qsa];simp only;rw [if_neg (by rw [hu];exact hne)];simp [Fb];omega
open Go.Sort (swp insInner insOuter insertionSort)
def A0 (g cap:Nat) (d:Array Int):Res:=Yr 3 1 (some ⟨g,0,none⟩) d.size cap (Br d.toList)
abbrev sl (g cap:Nat) (d:Array Int):Value:=.slice (some ⟨g,0,none⟩) d.size cap
theorem B7 {g cap:Nat}{d:Array Int}{w:World} (h:(A0 g cap d).holds w) {k:Nat} (hk:k < d.size):w.cell? ⟨g,k,none⟩=some (.int .i64 d[k]!):=by
 refine B3 h ?_;rw [Kz (by simpa using hk)]
 congr 2
 simp only [Yi,getElem!_def,Array.getElem?_toList];cases d[k]? <;> rfl
theorem C7 {w0 w:World}{B:LN}{G:List Res} (hH:Heap w0 B w G) (i:Nat) {g cap o:Nat}{d:Array Int}{ap:Addr}{x:Int}{C:World->Prop} (hi:G[i]? = some (A0 g cap d)) (hp:ap=⟨g,o,none⟩) (ho:o < d.size)
  (h:∀ w',Heap w0 B w' (G.set i (A0 g cap (d.setIfInBounds o x)))->C w'):Mj Yf 3 (.pointer (some ap)) (.int .i64 x) w C:=by
 refine Dp hH i (o:=o) (vs:=[.int .i64 x]) hi (by rw [hp];simp [Bv]) rfl (by kernel_rfl) (by rw [Qjy];simp;omega) (by simp [Yw]) fun w' hw=>h w' ?_
 have e:(Br d.toList).take o++[.int .i64 x]++(Br d.toList).drop (o+[X3 .i64 x].length)=Br (d.setIfInBounds o x).toList:=by
  rw [Xi,Dm (Br d.toList) _ _ (by rw [Qjy];simpa using ho),Qvd,Array.toList_setIfInBounds]
 rw [e] at hw;unfold A0
 rwa [Array.size_setIfInBounds]
structure Cmp (fv:Value) (cf:Int->Int->Int) (Q:Int->Prop) (R:Res):Prop where
 i64:∀ x y,Q x->Q y->-9223372036854775808<=cf x y/\cf x y<=9223372036854775807
 run:∀ w x y,R.holds w->Q x->Q y->FnK Yf fv [.int .i64 x,.int .i64 y] w (fun v w'=>Heap w [] w' []/\v=.int .i64 (cf x y))
abbrev ltOf (cf:Int->Int->Int):Int->Int->Bool:=fun x y=>decide (cf x y < 0)
def AllQ (Q:Int->Prop) (d:Array Int):Prop:=∀ k < d.size,Q d[k]!
theorem Kl (d:Array Int) (i j:Nat):(swp d i j).size=d.size:=by simp [swp]
theorem AllQ.swp {Q:Int->Prop}{d:Array Int} (h:AllQ Q d) {i j:Nat} (hi:i < d.size) (hj:j < d.size):AllQ Q (swp d i j):=by
 intro k hk;rw [Kl] at hk;rw [Sort.swp_get d hi hj];split
 ·
  exact h _ hi
 split
 ·
  exact h _ hj
 exact h _ hk
theorem FnK.to {fv:Value}{vs:LV}{w:World}{C C':Value->World->Prop} (h:FnK Yf fv vs w C) (h':∀ v w',C v w'->C' v w'):FnK Yf fv vs w C':=by
 obtain ⟨f,first,cs,h1,h2,F,h3,h4⟩:=h;exact ⟨f,first,cs,h1,h2,F,h3,fun v w' h=>h' v w' (h4 v w' h)⟩
theorem Cmp.look {cmp:Value}{cf:Int->Int->Int}{Q:Int->Prop}{R:Res} (hC:Cmp cmp cf Q R) {w0 w:World}{B:LN}{G:List Res}{r:Res} (hH:Heap w0 B w (r::R::G)) {x y:Int} (hx:Q x) (hy:Q y) :
  FnK Yf cmp [.int .i64 x,.int .i64 y] w (fun v w'=>Heap w0 B w' (r::R::G)/\v=.int .i64 (cf x y)):=by
 obtain ⟨f,first,cs,h1,h2,h3⟩:=hC.run w x y (hH.at 1 rfl) hx hy;obtain ⟨F,h3,h4⟩:=h3;exact ⟨f,first,cs,h1,h2,F,h3,fun v w' h=>⟨hH.call0 (h4 v w' h).1,(h4 v w' h).2⟩⟩
theorem Qoo {lt:Int->Int->Bool}{a j:Nat}{d:Array Int} (h1:a < j) (h2:lt d[j]! d[j - 1]! = true):insInner lt a (j - 1) (swp d j (j - 1))=insInner lt a j d:=by
 obtain ⟨k,rfl⟩:∃ k,j=k+1:=⟨j - 1,by omega⟩;rw [Y7] at *;rw [insInner,if_pos (by simp [h1,h2])]
theorem Qjn {lt:Int->Int->Bool}{a j:Nat}{d:Array Int} (h:false=(decide (a < j) && lt d[j]! d[j - 1]!)):insInner lt a j d=d:=by
 cases j with
 | zero=>rfl
 | succ k=>rw [Y7] at h;rw [insInner,if_neg (by simpa using h.symm)]
theorem Qop {lt:Int->Int->Bool}{a b i:Nat}{d:Array Int} (h:i < b):insOuter lt a b i d=insOuter lt a b (i+1) (insInner lt a i d):=by rw [insOuter,if_pos h]
theorem Qjo {lt:Int->Int->Bool}{a b i:Nat}{d:Array Int} (h:¬ i < b):insOuter lt a b i d=d:=by rw [insOuter,if_neg h]
theorem Qbx {cmp:Value}{cf:Int->Int->Int}{Q:Int->Prop}{R:Res} (hC:Cmp cmp cf Q R) (g cap a b:Nat) (d:Array Int) (hab:a<=b) (hb:b<=d.size) (hd:d.size<=1000000000000) (hQ:AllQ Q d) (w0 w:World) (B:LN) (G:List Res)
  (hL:Heap w0 B w (A0 g cap d::R::G)):Does Yf 243 #[sl g cap d,.int .i64 a,.int .i64 b,cmp] w
   fun v w'=>∃ d',d'=insertionSort (ltOf cf) d a b/\d'.size=d.size/\AllQ Q d'/\Heap w0 B w' (A0 g cap d'::R::G)/\v=.tuple #[]:=by
 refine En [sl g cap d,.int .i64 a,.int .i64 b,cmp] 53 Tryz.func243 ?_;refine VS [0,1,2,3,8] ?_;refine Aq ?_;refine Ay [0,1,2,3,8] (fun m e w'=>∃ (i:Nat) (d':Array Int),Is e [(0,sl g cap d),(1,.int .i64 a),(2,.int .i64 b),(3,cmp),(8,.int .i64 i)]/\Heap w0 B w' (A0 g cap d'::R::G)/\d'.size=d.size/\AllQ Q d'/\a+1<=i/\i<=max b (a+1)/\insOuter (ltOf cf) a b i d'=insertionSort (ltOf cf) d a b/\m=b - i) (b - (a+1)) ?_ ?_
 ·
  refine Qs ?_;exact ⟨a+1,d,rfl,hL,rfl,hQ,by omega,by omega,rfl,rfl⟩
 rintro m e w1 ⟨i,d1,rfl,hH,hs1,hQ1,hi1,hi2,hins,rfl⟩;refine VS [0,1,2,3,8,14] ?_;refine VD (fun h=>?_) (fun h=>?_)
 ·
  refine Ad ?_;refine VB ?_;refine VS [0,1,2,3,8,9] ?_;refine Aq ?_;refine Ay [0,1,2,3,8,9] (fun m e w'=>∃ (j:Nat) (d':Array Int),Is e [(0,sl g cap d),(1,.int .i64 a),(2,.int .i64 b),(3,cmp),(8,.int .i64 i),(9,.int .i64 j)]/\Heap w0 B w' (A0 g cap d'::R::G)/\d'.size=d.size/\AllQ Q d'/\a<=j/\j<=i/\insInner (ltOf cf) a j d'=insInner (ltOf cf) a i d1/\m=j) i ?_ ?_
  ·
   refine Qs ?_;exact ⟨i,d1,rfl,hH,hs1,hQ1,by omega,by omega,rfl,rfl⟩
  rintro m e w2 ⟨j,d2,rfl,hH,hs2,hQ2,hj1,hj2,hinn,hm⟩;refine VL [0,1,2,3,8,9,34] 14 fun K hK=>?_
  have hall:∀ bb:Bool,∀ w4,bb=(decide (a < j) && ltOf cf d2[j]! d2[j - 1]!)->Heap w0 B w4 (A0 g cap d2::R::G)->K [(0,sl g cap d),(1,.int .i64 a),(2,.int .i64 b),(3,cmp),(8,.int .i64 i),(9,.int .i64 j),(34,.bool bb)] w4:=by
   intro bb w4 hb hH;apply hK;clear hK;refine Vi (fun h=>?_) (fun h=>?_)
   ·
    subst h;simp only [Bool.true_eq,Xf,decide_eq_true_eq] at hb;refine Ad ?_;refine VB ?_;refine Vb [0,1,2,3,8,9] [(0,0),(1,0),(2,0),(3,0),(4,0),(5,0),(6,0),(7,0),(8,0),(10,0),(11,0),(12,0),(9,1),(13,1),(14,0),(15,2),(16,0),(17,2)] fun K hK=>?_;(repeat (first | (refine ⟨_,B7 (hH.at 0 rfl) (by omega),?_⟩;(try refine Qs ?_)) | refine Qo ?_ | refine Qp ?_));refine Ag ?_;refine Qs ?_;refine C7 hH 0 (o:=(j)) rfl (by first | rfl | (simp;done) | (congr 1;omega)) (by first | omega | (simp;omega)) fun w6 hH3=>?_;simp only [Yb] at hH3;(try refine Qs ?_);(repeat (first | (refine ⟨_,B7 (hH.at 0 rfl) (by omega),?_⟩;(try refine Qs ?_)) | refine Qo ?_ | refine Qp ?_));refine Ag ?_;refine Qs ?_;refine C7 hH3 0 (o:=(j - 1)) rfl (by first | rfl | (simp;done) | (congr 1;omega)) (by first | omega | (simp;omega)) fun w6 hH4=>?_;simp only [Yb] at hH4;(try refine Qs ?_);have hH5:Heap w0 B w6 (A0 g cap (swp d2 j (j - 1))::R::G):=hH4;apply hK;clear hK;refine An ?_;refine VS [0,1,2,3,8,9] ?_;refine Ah ?_;refine Qs ?_;refine ⟨j - 1,by omega,j - 1,_,by rw [show ((j:Int) - 1)=((j - 1:Nat):Int) by omega];rfl,hH5,by rw [Kl,hs2],hQ2.swp (by omega) (by omega),by omega,by omega,?_,rfl⟩;rw [<- hinn,Qoo hb.1 (by simpa [ltOf] using hb.2)]
   subst h;refine Ax rfl ?_;refine An ?_;refine VS [0,1,2,3,8] ?_;refine Ah ?_;refine Qs ?_;refine ⟨b - (i+1),by omega,i+1,d2,rfl,hH,hs2,hQ2,by omega,by omega,?_,rfl⟩;rw [<- hins,Qop (i:=i) (by omega),<- hinn,Qjn hb]
  refine ⟨fun hg=>?_,fun hg=>?_⟩
  ·
   (repeat (first | (refine ⟨_,B7 (hH.at 0 rfl) (by omega),?_⟩;(try refine Qs ?_)) | refine Qo ?_ | refine Qp ?_));refine Er ?_;refine Qs ?_;refine FnK.to (Cmp.look hC hH (hQ2 _ (by omega)) (hQ2 _ (by omega))) ?_;rintro v w4 ⟨hH2,rfl⟩;(try refine Qs ?_);refine hall _ _ ?_ hH2;simp [ltOf,show a < j by omega]
  refine hall _ _ ?_ hH;simp [show ¬ a < j by omega]
 refine Ax rfl ?_;refine S4 (Ly rfl ?_);rw [Qjo (by omega)] at hins;exact ⟨_,hins,hs1,hQ1,hH,rfl⟩
open Go Go.Eng
open Go.Sort (swp siftDown heapBuild heapPop heapSort)
theorem Qjp {lt:Int->Int->Bool}{hi first root:Nat}{d:Array Int} (h:2 * root+1 ≥ hi):siftDown lt hi first root d=d:=by rw [siftDown,dif_pos h]
theorem Qjq {lt:Int->Int->Bool}{hi first root c:Nat}{d:Array Int} (h:2 * root+1 < hi) (hc:c=if (decide (2 * root+2 < hi) && lt d[first+(2 * root+1)]! d[first+(2 * root+1)+1]!) then 2 * root+2 else 2 * root+1) :
  siftDown lt hi first root d=if lt d[first+root]! d[first+c]! then siftDown lt hi first c (swp d (first+root) (first+c)) else d:=by
 rw [siftDown,dif_neg (by omega)];by_cases h1:(decide (2 * root+2 < hi) && lt d[first+(2 * root+1)]! d[first+(2 * root+1)+1]!)=true
 ·
  rw [if_pos h1] at hc ⊢;subst hc;have h2:2 * root+2 < hi:=by simp at h1;exact h1.1
  rw [dif_pos h2];cases lt d[first+root]! d[first+(2 * root+2)]! <;> simp
 rw [if_neg h1] at hc ⊢;subst hc;cases lt d[first+root]! d[first+(2 * root+1)]! <;> simp
theorem Qbs {cmp:Value}{cf:Int->Int->Int}{Q:Int->Prop}{R:Res} (hC:Cmp cmp cf Q R) (g cap lo hi first:Nat) (d:Array Int) (hlo:lo<=1000000000000) (hb:first+hi<=d.size) (hd:d.size<=1000000000000) (hQ:AllQ Q d) (w0 w:World) (B:LN) (G:List Res)
  (hL:Heap w0 B w (A0 g cap d::R::G)):Does Yf 260 #[sl g cap d,.int .i64 lo,.int .i64 hi,.int .i64 first,cmp] w
   fun v w'=>∃ d',d'=siftDown (ltOf cf) hi first lo d/\d'.size=d.size/\AllQ Q d'/\Heap w0 B w' (A0 g cap d'::R::G)/\v=.tuple #[]:=by
 refine En [sl g cap d,.int .i64 lo,.int .i64 hi,.int .i64 first,cmp] 82 Tryz.func260 ?_;refine VS [0,2,3,4,10] ?_;refine Aq ?_;refine Ay [0,2,3,4,10] (fun m e w'=>∃ (root:Nat) (d':Array Int),Is e [(0,sl g cap d),(2,.int .i64 hi),(3,.int .i64 first),(4,cmp),(10,.int .i64 root)]/\Heap w0 B w' (A0 g cap d'::R::G)/\d'.size=d.size/\AllQ Q d'/\root<=1000000000000/\siftDown (ltOf cf) hi first root d'=siftDown (ltOf cf) hi first lo d/\m=hi - root) (hi - lo) ?_ ?_
 ·
  refine Qs ?_;exact ⟨lo,d,rfl,hL,rfl,hQ,hlo,rfl,rfl⟩
 rintro m e w1 ⟨root,d1,rfl,hH,hs1,hQ1,hr,hins,hm⟩;refine Aq ?_;refine VS [0,2,3,4,10,11] ?_;refine VS [0,2,3,4,10,11,18] ?_;refine VD (fun h=>?_) (fun h=>?_)
 ·
  refine Ax rfl ?_;refine S4 (Ly rfl ?_);rw [Qjp (by omega)] at hins;exact ⟨_,hins,hs1,hQ1,hH,rfl⟩
 refine Ad ?_;refine VL [0,2,3,4,10,11,40] 19 fun K hK=>?_
 have hall:∀ bb:Bool,∀ w4,bb=(decide (2 * root+2 < hi) && ltOf cf d1[first+(2 * root+1)]! d1[first+(2 * root+1)+1]!)->Heap w0 B w4 (A0 g cap d1::R::G)->K [(0,sl g cap d),(2,.int .i64 hi),(3,.int .i64 first),(4,cmp),(10,.int .i64 root),(11,.int .i64 (2 * root+1)),(40,.bool bb)] w4:=by
  intro bb w4 hbb hH;apply hK;clear hK;refine Do [0,2,3,4,10,11] (fun e w'=>∃ c:Nat,Is e [(0,sl g cap d),(2,.int .i64 hi),(3,.int .i64 first),(4,cmp),(10,.int .i64 root),(11,.int .i64 c)]/\Is w' w4/\c=if bb then 2 * root+2 else 2 * root+1) ?_ ?_
  ·
   refine Vi (fun h=>?_) (fun h=>?_)
   ·
    subst h;refine VS [0,2,3,4,10,11] ?_;refine Ah ?_;refine Qs ?_;exact ⟨2 * root+2,by rw [show (2 * (root:Int)+1+1)=((2 * root+2:Nat):Int) by omega];rfl,rfl,rfl⟩
   subst h;refine Ad ?_;refine Ah ?_;refine Qs ?_;exact ⟨2 * root+1,by rw [show (2 * (root:Int)+1)=((2 * root+1:Nat):Int) by omega];rfl,rfl,rfl⟩
  rintro e w' ⟨c,rfl,rfl,hc⟩;rw [hbb] at hc
  have hch:c < hi:=by
   by_cases h2:2 * root+2 < hi
   ·
    split at hc <;> omega
   rw [if_neg (by simp [h2])] at hc;omega
  have hc0:root < c:=by split at hc <;> omega
  have hst:=Qjq (lt:=ltOf cf) (first:=first) (d:=d1) (by omega) hc;refine VL [0,2,3,4,10,11,58] 13 fun K hK=>?_;(repeat (first | (refine ⟨_,B7 (hH.at 0 rfl) (by omega),?_⟩;(try refine Qs ?_)) | refine Qo ?_ | refine Qp ?_));refine Er ?_;refine Qs ?_;refine FnK.to (Cmp.look hC hH (hQ1 _ (by omega)) (hQ1 _ (by omega))) ?_;rintro v w4 ⟨hH2,rfl⟩;(try refine Qs ?_);clear hH;apply hK;clear hK;refine Vi (fun h=>?_) (fun h=>?_)
  ·
   simp at h;rw [if_neg (by simp [ltOf];omega)] at hst;refine Ae (Ly rfl ?_);exact ⟨_,by rw [<- hins,hst],hs1,hQ1,hH2,rfl⟩
  simp at h;rw [if_pos (by simp [ltOf];omega)] at hst;refine Ad ?_;refine Vb [0,2,3,4,11] [(0,0),(1,0),(2,0),(3,0),(4,0),(5,0),(6,0),(7,0),(8,0),(9,0),(10,0),(11,0),(12,0),(14,0),(15,0),(16,0),(17,0),(18,0),(13,1),(19,1),(20,0),(21,2),(22,0),(23,2)] fun K hK=>?_;(repeat (first | (refine ⟨_,B7 (hH2.at 0 rfl) (by omega),?_⟩;(try refine Qs ?_)) | refine Qo ?_ | refine Qp ?_));refine Ag ?_;refine Qs ?_;refine C7 hH2 0 (o:=(first+root)) rfl (by first | rfl | (simp;done) | (congr 1;omega)) (by first | omega | (simp;omega)) fun w6 hH3=>?_;simp only [Yb] at hH3;(try refine Qs ?_);(repeat (first | (refine ⟨_,B7 (hH2.at 0 rfl) (by omega),?_⟩;(try refine Qs ?_)) | refine Qo ?_ | refine Qp ?_));refine Ag ?_;refine Qs ?_;refine C7 hH3 0 (o:=(first+c)) rfl (by first | rfl | (simp;done) | (congr 1;omega)) (by first | omega | (simp;omega)) fun w6 hH4=>?_;simp only [Yb] at hH4;(try refine Qs ?_);have hH5:Heap w0 B w6 (A0 g cap (swp d1 (first+root) (first+c))::R::G):=hH4;apply hK;clear hK;refine VS [0,2,3,4,10] ?_;refine An ?_;refine Ah ?_;refine Qs ?_;refine ⟨hi - c,by omega,c,_,rfl,hH5,by rw [Kl,hs1],hQ1.swp (by omega) (by omega),by omega,by rw [<- hins,hst],rfl⟩
 refine ⟨X1 (by omega) (by omega),?_⟩;refine ⟨fun hg=>?_,fun hg=>?_⟩
 ·
  (repeat (first | (refine ⟨_,B7 (hH.at 0 rfl) (by omega),?_⟩;(try refine Qs ?_)) | refine Qo ?_ | refine Qp ?_));refine Er ?_;refine Qs ?_;refine FnK.to (Cmp.look hC hH (hQ1 _ (by omega)) (hQ1 _ (by omega))) ?_;rintro v w4 ⟨hH2,rfl⟩;(try refine Qs ?_);refine hall _ _ ?_ hH2;rw [show ((first:Int)+(2 * root+1)).toNat=first+(2 * root+1) by omega,show ((first:Int)+(2 * root+1)+1).toNat=first+(2 * root+1)+1 by omega];simp [ltOf,show 2 * root+2 < hi by omega]
 refine hall _ _ ?_ hH;simp [show ¬ 2 * root+2 < hi by omega]
theorem Qjr {cmp:Value}{cf:Int->Int->Int}{Q:Int->Prop}{R:Res} (hC:Cmp cmp cf Q R) (g cap a b:Nat) (d:Array Int) (hab:a < b) (hb:b<=d.size) (hd:d.size<=1000000000000) (hQ:AllQ Q d) (w0 w:World) (B:LN) (G:List Res)
  (hL:Heap w0 B w (A0 g cap d::R::G)):Does Yf 244 #[sl g cap d,.int .i64 a,.int .i64 b,cmp] w
   fun v w'=>∃ d',d'=heapSort (ltOf cf) d a b/\d'.size=d.size/\AllQ Q d'/\Heap w0 B w' (A0 g cap d'::R::G)/\v=.tuple #[]:=by
 refine En [sl g cap d,.int .i64 a,.int .i64 b,cmp] 60 Tryz.func244 ?_;refine VS [0,1,2,3,8] ?_;refine VS [0,1,2,3,8,9] ?_;refine VS [0,3,8,9,10] ?_;refine VS [0,3,8,9,10,11] ?_;rw [show ((b:Int) - a)=((b - a:Nat):Int) by omega];generalize hn:b - a=n at *;refine Aq ?_;refine Ay [0,3,8,9,10,11] (fun m e w'=>∃ (k:Nat) (i:Int) (d':Array Int),Is e [(0,sl g cap d),(3,cmp),(8,.int .i64 a),(9,.int .i64 0),(10,.int .i64 n),(11,.int .i64 i)]/\Heap w0 B w' (A0 g cap d'::R::G)/\d'.size=d.size/\AllQ Q d'/\i=(k:Int) - 1/\k<=n/\heapBuild (ltOf cf) n a k d'=heapBuild (ltOf cf) n a ((n - 1) / 2+1) d/\m=k) ((n - 1) / 2+1) ?_ ?_
 ·
  refine Qs ?_;exact ⟨(n - 1) / 2+1,_,d,rfl,hL,rfl,hQ,by omega,by omega,rfl,rfl⟩
 rintro m e w1 ⟨k,i,d1,rfl,hH,hs1,hQ1,hi,hk,hins,hm⟩;refine VS [0,3,8,9,10,11,21] ?_;refine VD (fun h=>?_) (fun h=>?_)
 ·
  obtain ⟨k,rfl⟩:∃ j,k=j+1:=⟨k - 1,by omega⟩;have hi':i=(k:Int):=by omega
  subst hi';refine Ad ?_;refine VB ?_;refine VQ [0,3,8,9,10,11] fun K hK=>?_;have hsd:=Qbs hC g cap k n a d1 (by omega) (by omega) (by omega) hQ1 w0 w1 B G hH;rw [sl,hs1] at hsd;refine Aa Tryz.call260 ?_;refine Qs ?_;refine Yc hsd ?_;rintro v w2 ⟨d2,hd2,hs2,hQ2,hH2,rfl⟩;apply hK;clear hK;refine An ?_;refine VS [0,3,8,9,10,11] ?_;refine Ah ?_;refine Qs ?_;refine ⟨k,by omega,k,_,d2,rfl,hH2,by omega,hQ2,rfl,by omega,?_,rfl⟩;rw [<- hins,heapBuild,hd2]
 obtain rfl:k=0:=by omega
 rw [heapBuild] at hins;refine Ax rfl ?_;refine VS [0,3,8,9,12] ?_;refine Aq ?_;refine Ay [0,3,8,9,12] (fun m e w'=>∃ (k:Nat) (i:Int) (d':Array Int),Is e [(0,sl g cap d),(3,cmp),(8,.int .i64 a),(9,.int .i64 0),(12,.int .i64 i)]/\Heap w0 B w' (A0 g cap d'::R::G)/\d'.size=d.size/\AllQ Q d'/\i=(k:Int) - 1/\k<=n/\heapPop (ltOf cf) a k d'=heapPop (ltOf cf) a n d1/\m=k) n ?_ ?_
 ·
  refine Qs ?_;exact ⟨n,_,d1,rfl,hH,hs1,hQ1,rfl,by omega,rfl,rfl⟩
 clear hH h;rintro m e w2 ⟨k,i,d2,rfl,hH,hs2,hQ2,hi,hk,hpop,hm⟩;refine VS [0,3,8,9,12,33] ?_;refine VD (fun h=>?_) (fun h=>?_)
 ·
  obtain ⟨k,rfl⟩:∃ j,k=j+1:=⟨k - 1,by omega⟩;have hi':i=(k:Int):=by omega
  subst hi';refine Ad ?_;refine VB ?_;refine Vb [0,3,8,9,12] [(0,0),(1,0),(2,0),(3,0),(4,0),(5,0),(6,0),(7,0),(8,0),(9,0),(10,0),(12,0),(13,0),(14,0),(11,1),(15,1),(16,0),(17,2),(18,0),(19,2)] fun K hK=>?_;(repeat (first | (refine ⟨_,B7 (hH.at 0 rfl) (by omega),?_⟩;(try refine Qs ?_)) | refine Qo ?_ | refine Qp ?_));refine Ag ?_;refine Qs ?_;refine C7 hH 0 (o:=(a)) rfl (by first | rfl | (simp;done) | (congr 1;omega)) (by first | omega | (simp;omega)) fun w6 hH3=>?_;simp only [Yb] at hH3;(try refine Qs ?_);(repeat (first | (refine ⟨_,B7 (hH.at 0 rfl) (by omega),?_⟩;(try refine Qs ?_)) | refine Qo ?_ | refine Qp ?_));refine Ag ?_;refine Qs ?_;refine C7 hH3 0 (o:=(a+k)) rfl (by first | rfl | (simp;done) | (congr 1;omega)) (by first | omega | (simp;omega)) fun w6 hH4=>?_;simp only [Yb] at hH4;(try refine Qs ?_);have hH5:Heap w0 B w6 (A0 g cap (swp d2 a (a+k))::R::G):=hH4;have hs5:(swp d2 a (a+k)).size=d.size:=by rw [Kl,hs2]
  have hQ5:=hQ2.swp (i:=a) (j:=a+k) (by omega) (by omega);apply hK;clear hK;refine VQ [0,3,8,9,12] fun K hK=>?_;have hsd:=Qbs hC g cap 0 k a (swp d2 a (a+k)) (by omega) (by omega) (by omega) hQ5 w0 w6 B G hH5;rw [sl,hs5] at hsd;refine Aa Tryz.call260 ?_;refine Qs ?_;refine Yc hsd ?_;rintro v w7 ⟨d3,hd3,hs3,hQ3,hH6,rfl⟩;apply hK;clear hK;refine An ?_;refine VS [0,3,8,9,12] ?_;refine Ah ?_;refine Qs ?_;refine ⟨k,by omega,k,_,d3,rfl,hH6,by omega,hQ3,rfl,by omega,?_,rfl⟩;rw [<- hpop,heapPop,hd3]
 obtain rfl:k=0:=by omega
 rw [heapPop] at hpop;refine Ax rfl ?_;refine S4 (Ly rfl ?_);exact ⟨_,by rw [hpop,heapSort,hn,<- hins],hs2,hQ2,hH,rfl⟩
open Go Go.Eng
open Go.Sort (swp order2 median medianAdjacent choosePivot Hint reverseLoop reverseRange)
abbrev O2 (s:Nat) (n:Nat):Res:=Xd s 3 [.int .i64 n]
abbrev Qa (s:Nat):Value:=.pointer (some ⟨s,0,none⟩)
theorem Qbb {cmp:Value}{cf:Int->Int->Int}{Q:Int->Prop}{R:Res} (hC:Cmp cmp cf Q R) (g cap a b s n:Nat) (d:Array Int) (ha:a < d.size) (hb:b < d.size) (hd:d.size<=1000000000000) (hn:n<=1000000000000) (hQ:AllQ Q d) (w0 w:World) (B:LN) (G:List Res)
  (hL:Heap w0 B w (A0 g cap d::R::O2 s n::G)):Does Yf 273 #[sl g cap d,.int .i64 a,.int .i64 b,Qa s,cmp] w
   fun v w'=>∃ a' b' n':Nat,(a',b',n')=order2 (ltOf cf) d a b n/\Heap w0 B w' (A0 g cap d::R::O2 s n'::G)/\v=.tuple #[.int .i64 a',.int .i64 b']:=by
 refine En [sl g cap d,.int .i64 a,.int .i64 b,Qa s,cmp] 32 Tryz.func273 ?_;refine VS [0,1,2,3,4] ?_;refine VL [1,2,3,22] 9 fun K hK=>?_;(repeat (first | (refine ⟨_,B7 (hL.at 0 rfl) (by omega),?_⟩;(try refine Qs ?_)) | refine Qo ?_ | refine Qp ?_));refine Er ?_;refine Qs ?_;refine FnK.to (Cmp.look hC hL (hQ _ (by omega)) (hQ _ (by omega))) ?_;rintro v w4 ⟨hH,rfl⟩;(try refine Qs ?_);apply hK;clear hK;refine VD (fun h=>?_) (fun h=>?_)
 ·
  refine VQ [1,2] fun K hK=>?_;(repeat first | refine Qo ?_ | refine Qp ?_ | (refine Gc hH ?_;(try refine Qs ?_)));refine Ag ?_;refine Qs ?_;refine Ap hH 2 (vs:=[.int .i64 (n+1:Nat)]) rfl rfl (by kernel_rfl) (by first | decide | (simp;done) | (simp;omega)) (by simp [Yw]) fun w6 hH2=>?_;(try refine Qs ?_);apply hK;clear hK;refine VS [10,11] ?_;refine Ae (Bp rfl rfl rfl ?_);exact ⟨b,a,n+1,by simp [order2,ltOf,h],hH2,rfl⟩
 refine Ad ?_;refine VS [10,11] ?_;refine Ae (Bp rfl rfl rfl ?_);exact ⟨a,b,n,by simp [order2,ltOf,h],hH,rfl⟩
theorem Qcg {lt:Int->Int->Bool}{d:Array Int}{a b n a' b' n':Nat} (h:(a',b',n')=order2 lt d a b n):((a'=a/\b'=b)∨(a'=b/\b'=a))/\n<=n'/\n'<=n+1:=by
 unfold order2 at h;split at h <;> simp only [Prod.mk.injEq] at h <;> omega
theorem Qfh {cmp:Value}{cf:Int->Int->Int}{Q:Int->Prop}{R:Res} (hC:Cmp cmp cf Q R) (g cap a b c s n:Nat) (d:Array Int) (ha:a < d.size) (hb:b < d.size) (hc:c < d.size) (hd:d.size<=1000000000000) (hn:n<=1000000000) (hQ:AllQ Q d) (w0 w:World) (B:LN) (G:List Res)
  (hL:Heap w0 B w (A0 g cap d::R::O2 s n::G)):Does Yf 262 #[sl g cap d,.int .i64 a,.int .i64 b,.int .i64 c,Qa s,cmp] w
   fun v w'=>∃ m n':Nat,(m,n')=median (ltOf cf) d a b c n/\(m=a∨m=b∨m=c)/\n'<=n+3/\Heap w0 B w' (A0 g cap d::R::O2 s n'::G)/\v=.int .i64 m:=by
 refine En [sl g cap d,.int .i64 a,.int .i64 b,.int .i64 c,Qa s,cmp] 41 Tryz.func262 ?_;refine VS [0,1,2,3,4,5] ?_;refine VQ [0,1,2,3,4,5] fun K hK=>?_;refine Aa Uy ?_;refine Qs ?_;refine Yc (Qbb hC g cap a b s n d ha hb hd (by omega) hQ w0 w B G hL) ?_;rintro v w1 ⟨a1,b1,n1,ho1,hH1,rfl⟩;apply hK;clear hK;have hm1:=Qcg ho1;refine VQ [0,1,2,4,5] fun K hK=>?_;refine Aa Uy ?_;refine Qs ?_;refine Yc (Qbb hC g cap b1 c s n1 d (by omega) (by omega) hd (by omega) hQ w0 w1 B G hH1) ?_;rintro v w2 ⟨b2,c2,n2,ho2,hH2,rfl⟩;apply hK;clear hK;have hm2:=Qcg ho2;refine VQ [2] fun K hK=>?_;refine Aa Uy ?_;refine Qs ?_;refine Yc (Qbb hC g cap a1 b2 s n2 d (by omega) (by omega) hd (by omega) hQ w0 w2 B G hH2) ?_;rintro v w3 ⟨a3,b3,n3,ho3,hH3,rfl⟩;apply hK;clear hK;have hm3:=Qcg ho3;refine VS [12] ?_;refine Ae (Al rfl rfl ?_);exact ⟨b3,n3,by simp only [median,<- ho1,<- ho2,<- ho3],by omega,by omega,hH3,rfl⟩
theorem Qab {cmp:Value}{cf:Int->Int->Int}{Q:Int->Prop}{R:Res} (hC:Cmp cmp cf Q R) (g cap a s n:Nat) (d:Array Int) (ha0:1<=a) (ha:a+1 < d.size) (hd:d.size<=1000000000000) (hn:n<=1000000000) (hQ:AllQ Q d) (w0 w:World) (B:LN) (G:List Res)
  (hL:Heap w0 B w (A0 g cap d::R::O2 s n::G)):Does Yf 261 #[sl g cap d,.int .i64 a,Qa s,cmp] w
   fun v w'=>∃ m n':Nat,(m,n')=medianAdjacent (ltOf cf) d a n/\(a - 1<=m/\m<=a+1)/\n'<=n+3/\Heap w0 B w' (A0 g cap d::R::O2 s n'::G)/\v=.int .i64 m:=by
 refine En [sl g cap d,.int .i64 a,Qa s,cmp] 18 Tryz.func261 ?_;refine VS [0,1,2,3] ?_;refine VQ [8] fun K hK=>?_;(repeat first | refine Qo ?_ | refine Qp ?_);have hm:=Qfh hC g cap (a - 1) a (a+1) s n d (by omega) (by omega) (by omega) hd hn hQ w0 w B G hL;rw [show ((a - 1:Nat):Int)=(a:Int) - 1 by omega,show ((a+1:Nat):Int)=(a:Int)+1 by omega] at hm;refine Aa Tryz.call262 ?_;refine Qs ?_;refine Yc hm ?_;rintro v w1 ⟨m,n1,h1,h2,h3,hH1,rfl⟩;apply hK;clear hK;refine Ae (Al rfl rfl ?_);exact ⟨m,n1,h1,by omega,h3,hH1,rfl⟩
open Go Go.Eng
open Go.Sort (swp order2 median medianAdjacent choosePivot Hint reverseLoop reverseRange)
def Wk:Hint->Int
 | .unknown=>0
 | .increasing=>1
 | .decreasing=>2
theorem Qdv {cmp:Value}{cf:Int->Int->Int}{Q:Int->Prop}{R:Res} (hC:Cmp cmp cf Q R) (g cap a b:Nat) (d:Array Int) (hab:a+8<=b) (hb:b<=d.size) (hd:d.size<=1000000000000) (hQ:AllQ Q d) (w0 w:World) (B:LN) (G:List Res)
  (hL:Heap w0 B w (A0 g cap d::R::G)):Does Yf 246 #[sl g cap d,.int .i64 a,.int .i64 b,cmp] w
   fun v w'=>∃ (p:Nat) (h:Hint),(p,h)=choosePivot (ltOf cf) d a b/\(a<=p/\p < b)/\Heap w0 B w' (A0 g cap d::R::G)/\v=.tuple #[.int .i64 p,.int .i64 (Wk h)]:=by
 refine En [sl g cap d,.int .i64 a,.int .i64 b,cmp] 63 Tryz.func246 ?_;refine VS [0,1,2,3] ?_;refine VS [0,1,3,10] ?_;rw [show ((b:Int) - a)=((b - a:Nat):Int) by omega];generalize hn:b - a=n at *;refine VQ [0,1,3,10,11] fun K hK=>?_;refine Bo (.int .i64 0) (by kernel_rfl) ?_;refine Qs ?_;have hH0:=hL.box 3 [.int .i64 0];generalize w.alloc (Yo [X3 .i64 0].toArray 3)=w1 at *;generalize w.heap.size=s at *;have hH:Heap w0 B w1 (A0 g cap d::R::O2 s 0::G):=hH0.perm (List.perm_middle (l₁:=[A0 g cap d,R])).symm;clear hH0;apply hK;clear hK;refine VS [0,1,3,10,11,12] ?_;refine VS [0,1,3,10,11,12,13] ?_;refine VS [0,3,10,11,12,13,14] ?_;obtain ⟨i0,hi0⟩:∃ i0,a+n / 4 * 1=i0:=⟨_,rfl⟩;obtain ⟨j0,hj0⟩:∃ j0,a+n / 4 * 2=j0:=⟨_,rfl⟩;obtain ⟨k0,hk0⟩:∃ k0,a+n / 4 * 3=k0:=⟨_,rfl⟩;rw [show ((a:Int)+n / 4 * 1)=(i0:Int) by omega,show ((a:Int)+n / 4 * 2)=(j0:Int) by omega,show ((a:Int)+n / 4 * 3)=(k0:Int) by omega]
 have hcp:choosePivot (ltOf cf) d a b=(fun r:Nat×Nat=>(r.1,if r.2=0 then Hint.increasing else if r.2=12 then Hint.decreasing else Hint.unknown)) (if n ≥ 8 then if n ≥ 50 then median (ltOf cf) d (medianAdjacent (ltOf cf) d i0 0).1 (medianAdjacent (ltOf cf) d j0 (medianAdjacent (ltOf cf) d i0 0).2).1 (medianAdjacent (ltOf cf) d k0 (medianAdjacent (ltOf cf) d j0 (medianAdjacent (ltOf cf) d i0 0).2).2).1 (medianAdjacent (ltOf cf) d k0 (medianAdjacent (ltOf cf) d j0 (medianAdjacent (ltOf cf) d i0 0).2).2).2 else median (ltOf cf) d i0 j0 k0 0 else (j0,0)):=by
  simp only [choosePivot,hn,hi0,hj0,hk0]
 have hb1:a+2<=i0/\i0 < j0/\j0 < k0/\k0+2<=b:=by omega
 clear hi0 hj0 hk0;refine VS [0,3,10,11,12,13,14,34] ?_;refine Do [11,13] (fun e w'=>∃ m n':Nat,Is e [(11,Qa s),(13,.int .i64 m)]/\Heap w0 B w' (A0 g cap d::R::O2 s n'::G)/\(a<=m/\m < b)/\choosePivot (ltOf cf) d a b=(m,if n'=0 then .increasing else if n'=12 then .decreasing else .unknown)) ?_ ?_
 ·
  refine Ai rfl rfl (fun h=>?_) (fun h=>by simp at h;omega);simp only [decide_eq_true_eq] at h;refine VS [0,3,11,12,13,14,36] ?_
  refine Do [0,3,11,12,13,14] (fun e w'=>∃ i j k n':Nat,Is e [(0,sl g cap d),(3,cmp),(11,Qa s),(12,.int .i64 i),(13,.int .i64 j),(14,.int .i64 k)]/\Heap w0 B w' (A0 g cap d::R::O2 s n'::G)/\(a<=i/\i < b)/\(a<=j/\j < b)/\(a<=k/\k < b)/\n'<=9 /\
   choosePivot (ltOf cf) d a b=((median (ltOf cf) d i j k n').1,if (median (ltOf cf) d i j k n').2=0 then .increasing else if (median (ltOf cf) d i j k n').2=12 then .decreasing else .unknown)) ?_ ?_
  ·
   refine VD (fun h=>?_) (fun h=>?_)
   ·
    refine VQ [0,3,11,12,13,14] fun K hK=>?_;refine Aa Uz ?_;refine Qs ?_;refine Yc (Qab hC g cap i0 s 0 d (by omega) (by omega) hd (by omega) hQ w0 w1 B G hH) ?_;rintro v w2 ⟨i,n1,hi,hi2,hn1,hH1,rfl⟩;apply hK;clear hK;refine VQ [0,3,11,12,13,14] fun K hK=>?_;refine Aa Uz ?_;refine Qs ?_;refine Yc (Qab hC g cap j0 s n1 d (by omega) (by omega) hd (by omega) hQ w0 w2 B G hH1) ?_;rintro v w3 ⟨j,n2,hj,hj2,hn2,hH2,rfl⟩;apply hK;clear hK;refine VQ [0,3,11,12,13,14] fun K hK=>?_;refine Aa Uz ?_;refine Qs ?_;refine Yc (Qab hC g cap k0 s n2 d (by omega) (by omega) hd (by omega) hQ w0 w3 B G hH2) ?_;rintro v w4 ⟨k,n3,hk,hk2,hn3,hH3,rfl⟩;apply hK;clear hK;refine Ah ?_;refine Qs ?_;refine ⟨i,j,k,n3,rfl,hH3,by omega,by omega,by omega,by omega,?_⟩;rw [hcp,if_pos (show n ≥ 8 by omega),if_pos (show n ≥ 50 by omega),<- hi,<- hj,<- hk]
   refine Ad ?_;refine Ah ?_;refine Qs ?_;refine ⟨_,_,_,0,rfl,hH,by omega,by omega,by omega,by omega,?_⟩;rw [hcp,if_pos (show n ≥ 8 by omega),if_neg (show ¬ n ≥ 50 by omega)]
  rintro e w2 ⟨i,j,k,n1,rfl,hH2,hi,hj,hk,hn1,hch⟩;refine VQ [11,13] fun K hK=>?_;refine Aa Tryz.call262 ?_;refine Qs ?_;refine Yc (Qfh hC g cap i j k s n1 d (by omega) (by omega) (by omega) hd (by omega) hQ w0 w2 B G hH2) ?_;rintro v w3 ⟨m,n2,hm,hm2,hn2,hH3,rfl⟩;apply hK;clear hK;refine Ah ?_;refine Qs ?_;refine ⟨m,n2,rfl,hH3,by omega,?_⟩;rw [hch,<- hm]
 clear hH;rintro e w2 ⟨m,n1,rfl,hH,hm,hch⟩;have hH4:Heap w0 B w2 (A0 g cap d::R::G):=hH.sub (by simp);refine VQ [13,55] fun K hK=>?_;(repeat first | refine Qo ?_ | refine Qp ?_ | (refine Gc hH ?_;(try refine Qs ?_)));apply hK;clear hK;refine Aq ?_;refine VS [13,55,57] ?_;refine VD (fun h=>?_) (fun h=>?_)
 ·
  refine VS [8,9] ?_;refine Ae (Bp rfl rfl rfl ?_);exact ⟨m,.increasing,by rw [hch,if_pos (by omega)],hm,hH4,rfl⟩
 refine VS [13,60] ?_;refine VD (fun h=>?_) (fun h=>?_)
 ·
  refine VS [8,9] ?_;refine Ae (Bp rfl rfl rfl ?_);exact ⟨m,.decreasing,by rw [hch,if_neg (by omega),if_pos (by omega)],hm,hH4,rfl⟩
 refine VS [8,9] ?_;refine Ae (Bp rfl rfl rfl ?_);exact ⟨m,.unknown,by rw [hch,if_neg (by omega),if_neg (by omega)],hm,hH4,rfl⟩
theorem Qgo {i j:Nat}{d:Array Int} (h:i < j):reverseLoop i j d=reverseLoop (i+1) (j - 1) (swp d i j):=by
 conv=>lhs;rw [reverseLoop]
 rw [if_pos h]
theorem Qdw {i j:Nat}{d:Array Int} (h:¬ i < j):reverseLoop i j d=d:=by rw [reverseLoop,if_neg h]
theorem Qcs {cmp:Value}{R:Res}{Q:Int->Prop} (g cap a b:Nat) (d:Array Int) (hab:a < b) (hb:b<=d.size) (hd:d.size<=1000000000000) (hQ:AllQ Q d) (w0 w:World) (B:LN) (G:List Res)
  (hL:Heap w0 B w (A0 g cap d::R::G)):Does Yf 247 #[sl g cap d,.int .i64 a,.int .i64 b,cmp] w
   fun v w'=>∃ d',d'=reverseRange d a b/\d'.size=d.size/\AllQ Q d'/\Heap w0 B w' (A0 g cap d'::R::G)/\v=.tuple #[]:=by
 refine En [sl g cap d,.int .i64 a,.int .i64 b,cmp] 34 Tryz.func247 ?_;refine VS [0,2,8] ?_;refine VS [0,8,9] ?_;refine Aq ?_;refine Ay [0,8,9] (fun m e w'=>∃ (i j:Nat) (d':Array Int),Is e [(0,sl g cap d),(8,.int .i64 i),(9,.int .i64 j)]/\Heap w0 B w' (A0 g cap d'::R::G)/\d'.size=d.size/\AllQ Q d'/\i<=b/\j < b/\reverseLoop i j d'=reverseRange d a b/\m=b - i) (b - a) ?_ ?_
 ·
  refine Qs ?_;exact ⟨a,b - 1,d,by rw [show ((b:Int) - 1)=((b - 1:Nat):Int) by omega];rfl,hL,rfl,hQ,by omega,by omega,rfl,rfl⟩
 rintro m e w1 ⟨i,j,d1,rfl,hH,hs1,hQ1,hi,hj,hrev,hm⟩;refine VS [0,8,9,15] ?_;refine VD (fun h=>?_) (fun h=>?_)
 ·
  refine Ad ?_;refine Aq ?_;refine Vb [0,8,9] [(0,0),(1,0),(2,0),(3,0),(4,0),(5,0),(6,0),(8,0),(9,0),(10,0),(7,1),(11,1),(12,0),(13,2),(14,0),(15,2)] fun K hK=>?_;(repeat (first | (refine ⟨_,B7 (hH.at 0 rfl) (by omega),?_⟩;(try refine Qs ?_)) | refine Qo ?_ | refine Qp ?_));refine Ag ?_;refine Qs ?_;refine C7 hH 0 (o:=(i)) rfl (by first | rfl | (simp;done) | (congr 1;omega)) (by first | omega | (simp;omega)) fun w6 hH3=>?_;simp only [Yb] at hH3;(try refine Qs ?_);(repeat (first | (refine ⟨_,B7 (hH.at 0 rfl) (by omega),?_⟩;(try refine Qs ?_)) | refine Qo ?_ | refine Qp ?_));refine Ag ?_;refine Qs ?_;refine C7 hH3 0 (o:=(j)) rfl (by first | rfl | (simp;done) | (congr 1;omega)) (by first | omega | (simp;omega)) fun w6 hH4=>?_;simp only [Yb] at hH4;(try refine Qs ?_);have hH5:Heap w0 B w6 (A0 g cap (swp d1 i j)::R::G):=hH4;apply hK;clear hK;refine VS [0,8,9] ?_;refine VS [0,8,9] ?_;refine An ?_;refine Ah ?_;refine Qs ?_;refine ⟨b - (i+1),by omega,i+1,j - 1,_,by rw [show ((j:Int) - 1)=((j - 1:Nat):Int) by omega];rfl,hH5,by rw [Kl,hs1],hQ1.swp (by omega) (by omega),by omega,by omega,?_,rfl⟩;rw [<- hrev,Qgo (i:=i) (by omega)]
 refine Ax rfl ?_;refine S4 (Ly rfl ?_);rw [Qdw (by omega)] at hrev;exact ⟨_,hrev,hs1,hQ1,hH,rfl⟩
open Go Go.Eng
open Go.Sort (bitsLen)
theorem Qzv {P:Program}{fn:Func}{F:Value->World->Prop}{N:Nat}{k:List It}{e:Env}{w:World}{x y:Code} (hf:VC ⟨P,fn,F,N⟩ (.code y::k) e w):VC ⟨P,fn,F,N⟩ (.code (.cond (.const (.bool false)) x y)::k) e w:=by
 intro a n ha;exact wp_cond_split (t:=false) rfl (fun h=>by cases h) (fun _=>hf a n ha)
theorem Qak {x k:Nat} (h:2 ^ k<=x):bitsLen (x / 2 ^ k)+k=bitsLen x:=by
 have h0:x≠0:=by have:=Ua (n:=k) (show 0 < 2 by omega);omega
 have h1:x / 2 ^ k≠0:=by have:=Nat.div_pos h (Ua (by omega));omega
 unfold bitsLen;rw [if_neg h0,if_neg h1]
 have e:Ud (x / 2 ^ k)=Ud x - k:=by
  rw [Nat.log2_eq_iff h1];have h2:=Nat.log2_self_le h0;have h3:=Nat.lt_log2_self (n:=x);have hk:k<=Ud x:=(Nat.le_log2 h0).2 h;constructor
  ·
   rw [Nat.le_div_iff_mul_le (Ua (by omega)),<- Nat.pow_add,Nat.sub_add_cancel hk];exact h2
  rw [Nat.div_lt_iff_lt_mul (Ua (by omega)),<- Nat.pow_add,show Ud x - k+1+k=Ud x+1 by omega];exact h3
 have hk:k<=Ud x:=(Nat.le_log2 h0).2 h;omega
theorem Qsb (x:Nat):x < 2 ^ bitsLen x:=by
 unfold bitsLen;split
 ·
  omega
 exact Nat.lt_log2_self
theorem Si {x n:Nat} (h:x < 2 ^ n):bitsLen x<=n:=by
 unfold bitsLen;split
 ·
  omega
 rename_i h0;have:=(Nat.log2_lt h0).2 h;omega
def len8:LB:=(Yq 256).map fun n=>Xb (bitsLen n)
theorem Qpy {y:Nat} (h:y < 256):(len8.getD y 0).toNat=bitsLen y:=by
 have hl:=Si (n:=8) h;simp only [len8,Yi,List.getElem?_map,Uq h,Option.map_some,U1];simp;omega
theorem Qsc (x:Nat) (hx:x < 18446744073709551616) (w:World):Does Yf 123 #[.int .u64 x] w fun v w'=>w'=w/\v=.int .i64 (bitsLen x):=by
 refine En [.int .u64 x] 25 Tryz.func123 ?_;refine VS [0,2] ?_;refine VS [0,2,4] ?_;refine Do [0,2] (fun e w'=>∃ y n:Nat,Is e [(0,.int .u64 y),(2,.int .i64 n)]/\Is w' w/\bitsLen y+n=bitsLen x/\y < 4294967296/\n<=32) ?_ ?_
 ·
  refine VD (fun h=>?_) (fun h=>?_)
  ·
   refine VQ [0] fun K hK=>?_;refine Qo ?_;rw [show By Xg 32=32 from rfl,Sr];apply hK;clear hK;refine VS [0,2] ?_;refine Ah ?_;refine Qs ?_;exact ⟨x / 2 ^ 32,32,rfl,rfl,Qak (k:=32) (by omega),by omega,by omega⟩
  refine Ad ?_;refine Ah ?_;refine Qs ?_;exact ⟨x,0,rfl,rfl,rfl,by omega,by omega⟩
 rintro e w' ⟨y,n,rfl,rfl,hyn,hy,hn⟩;refine VS [0,2,8] ?_;refine Do [0,2] (fun e w''=>∃ y n:Nat,Is e [(0,.int .u64 y),(2,.int .i64 n)]/\Is w'' w'/\bitsLen y+n=bitsLen x/\y < 65536/\n<=48) ?_ ?_
 ·
  refine VD (fun h=>?_) (fun h=>?_)
  ·
   refine VQ [0,2] fun K hK=>?_;refine Qo ?_;rw [show By Xg 16=16 from rfl,Sr];apply hK;clear hK;refine VS [0,2] ?_;refine Ah ?_;refine Qs ?_;have h1:=Qak (x:=y) (k:=16) (by omega);exact ⟨y / 2 ^ 16,n+16,rfl,rfl,by omega,by omega,by omega⟩
  refine Ad ?_;refine Ah ?_;refine Qs ?_;exact ⟨y,n,rfl,rfl,hyn,by omega,by omega⟩
 clear hyn hy hn;rintro e w'' ⟨y,n,rfl,rfl,hyn,hy,hn⟩;refine VS [0,2,14] ?_;refine VD (fun h=>?_) (fun h=>?_)
 ·
  refine VQ [0,2] fun K hK=>?_;refine Qo ?_;rw [show By Xg 8=8 from rfl,Sr];apply hK;clear hK;refine VS [0,2] ?_;have h1:=Qak (x:=y) (k:=8) (by omega);refine VQ [2] fun K hK=>?_;generalize htab:Xz (Xz _ _) (Xz _ _)=tab at *;have ht2:tab=len8:=by rw [<- htab];kernel_rfl
  clear htab;subst ht2;have h9:=Si (n:=8) (show y / 2 ^ 8 < 2 ^ 8 by omega);rw [Y5 (by omega) (by omega),Y4,Qpy (by omega),show len8.length=256 by simp [len8]];refine Qp ?_;(repeat refine Qo ?_);apply hK;clear hK;refine Ae (Al rfl rfl ⟨rfl,?_⟩);rw [show ((n:Int)+8+(bitsLen (y / 2 ^ 8):Nat))=bitsLen x by omega]
 refine Ad ?_;refine VQ [2] fun K hK=>?_;generalize htab:Xz (Xz _ _) (Xz _ _)=tab at *;have ht2:tab=len8:=by rw [<- htab];kernel_rfl
 clear htab;subst ht2;have h9:=Si (n:=8) (show y < 2 ^ 8 by omega);rw [Y5 (by omega) (by omega),Y4,Qpy (by omega),show len8.length=256 by simp [len8]];refine Qp ?_;(repeat refine Qo ?_);apply hK;clear hK;refine Ae (Al rfl rfl ⟨rfl,?_⟩);rw [show ((n:Int)+(bitsLen y:Nat))=bitsLen x by omega]
theorem Qhy (x:Nat) (hx:x < 18446744073709551616) (w:World):Does Yf 82 #[.int .u64 x] w fun v w'=>w'=w/\v=.int .i64 (bitsLen x):=by
 refine En [.int .u64 x] 8 Tryz.func82 ?_;refine VS [0] ?_;(repeat refine Aw ?_);refine Qzv (Ad ?_);refine VQ [2] fun K hK=>?_;refine Aa Tryz.call123 ?_;refine Qs ?_;refine Yc (Qsc x hx w) ?_;rintro v w2 ⟨rfl,rfl⟩;apply hK;clear hK;exact Ae (Al rfl rfl ⟨rfl,rfl⟩)
theorem Qbh (x:Nat) (hx:x < 1000000000000) (w:World):Does Yf 153 #[.int .i64 x] w fun v w'=>w'=w/\v=.int .u64 (2 ^ bitsLen x:Nat):=by
 refine En [.int .i64 x] 7 Tryz.func153 ?_;refine VS [0] ?_;refine VQ [2] fun K hK=>?_;rw [Y5 (by omega) (by omega)];refine Aa Tryz.call82 ?_;refine Qs ?_;refine Yc (Qhy x (by omega) w) ?_;rintro v w2 ⟨rfl,rfl⟩;refine Qs ?_;have h40:bitsLen x<=40:=Si (by omega);have hp:2 ^ bitsLen x<=2 ^ 40:=Un (by omega) h40;refine Qo ?_;rw [Wa rfl (by rw [show IntKind.bits .u64=64 from rfl];omega),show ((1:Int) * 2 ^ bitsLen x)=((2 ^ bitsLen x:Nat):Int) by rw [Int.one_mul];push_cast;rfl];generalize 2 ^ bitsLen x=q at *;rw [Y5 (by omega) (by omega)];apply hK;clear hK;exact Ae (Al rfl rfl ⟨rfl,rfl⟩)
open Go Go.Eng
open Go.Sort (swp bitsLen xorNext breakStep breakPatterns)
abbrev Qg (s:Nat) (r:UInt64):Res:=Xd s 244 [.int .u64 r.toNat]
theorem QP9 (r:UInt64):((r.toNat:Int) * (2:Int) ^ By Xg 13 % (18446744073709551616:Int))=((r <<< 13).toNat:Int):=by
 rw [show By Xg 13=13 from rfl,UInt64.toNat_shiftLeft,Qid,Ue,show (13:UInt64).toNat % 64=13 from rfl];rfl
theorem QQa (r:UInt64):((r.toNat:Int) * (2:Int) ^ By Xg 17 % (18446744073709551616:Int))=((r <<< 17).toNat:Int):=by
 rw [show By Xg 17=17 from rfl,UInt64.toNat_shiftLeft,Qid,Ue,show (17:UInt64).toNat % 64=17 from rfl];rfl
theorem QS9 (r:UInt64):((r.toNat:Int) / (2:Int) ^ By Xg 7)=((r >>> 7).toNat:Int):=by
 rw [show By Xg 7=7 from rfl,UInt64.toNat_shiftRight,Sr,Nat.shiftRight_eq_div_pow,show (7:UInt64).toNat % 64=7 from rfl]
theorem Qoq (s:Nat) (r:UInt64) (w:World) (hL:Heap w (Qg s r).foot w [Qg s r]):Does Yf 154 #[.pointer (some ⟨s,0,none⟩)] w
   fun v w'=>Heap w (Qg s r).foot w' [Qg s (xorNext r)]/\v=.int .u64 (xorNext r).toNat:=by
 refine En [.pointer (some ⟨s,0,none⟩)] 33 Tryz.func154 ?_;refine VS [0] ?_;refine VL [0] 9 fun K hK=>?_;(repeat first | refine Qo ?_ | refine Qp ?_ | (refine Gc hL ?_;(try refine Qs ?_)));rw [QP9,Y4,<- UInt64.toNat_xor];generalize hr1:r ^^^ (r <<< 13)=r1 at *;have hb:=r.toNat_lt;have hb2:=(r <<< 13).toNat_lt;have hb3:=r1.toNat_lt;refine ⟨⟨by omega,by omega⟩,⟨by omega,by omega⟩,?_⟩;refine Ag ?_;refine Qs ?_;refine Ap hL 0 (vs:=[.int .u64 r1.toNat]) rfl rfl (by kernel_rfl) (by first | decide | (simp;done) | (simp;omega)) (by simp [Yw]) fun w6 hH1=>?_;(try refine Qs ?_);apply hK;clear hK;refine VL [0] 9 fun K hK=>?_;(repeat first | refine Qo ?_ | refine Qp ?_ | (refine Gc hH1 ?_;(try refine Qs ?_)));rw [QS9,Y4,<- UInt64.toNat_xor];generalize hr2:r1 ^^^ (r1 >>> 7)=r2 at *;have hb4:=(r1 >>> 7).toNat_lt;have hb5:=r2.toNat_lt;refine Qp ?_;refine Ag ?_;refine Qs ?_;refine Ap hH1 0 (vs:=[.int .u64 r2.toNat]) rfl rfl (by kernel_rfl) (by first | decide | (simp;done) | (simp;omega)) (by simp [Yw]) fun w6 hH2=>?_;(try refine Qs ?_);apply hK;clear hK;refine VL [0] 9 fun K hK=>?_;(repeat first | refine Qo ?_ | refine Qp ?_ | (refine Gc hH2 ?_;(try refine Qs ?_)));rw [QQa,Y4,<- UInt64.toNat_xor];generalize hr3:r2 ^^^ (r2 <<< 17)=r3 at *;have hb6:=(r2 <<< 17).toNat_lt;have hb7:=r3.toNat_lt;refine Ag ?_;refine Qs ?_;refine Ap hH2 0 (vs:=[.int .u64 r3.toNat]) rfl rfl (by kernel_rfl) (by first | decide | (simp;done) | (simp;omega)) (by simp [Yw]) fun w6 hH3=>?_;(try refine Qs ?_);apply hK;clear hK;refine VQ [2] fun K hK=>?_;(repeat first | refine Qo ?_ | refine Qp ?_ | (refine Gc hH3 ?_;(try refine Qs ?_)));apply hK;clear hK;have e:xorNext r=r3:=by simp only [xorNext,hr1,hr2,hr3]
 rw [e];exact Ae (Al rfl rfl ⟨hH3,rfl⟩)
def O6 (a length modulus idx:Nat) (d:Array Int):Nat->UInt64×Array Int
 | 0=>(UInt64.ofNat length,d)
 | k+1=>breakStep a length modulus (O6 a length modulus idx d k) (idx+k)
theorem Qby {cmp:Value}{R:Res}{Q:Int->Prop} (g cap a b:Nat) (d:Array Int) (hab:a+8<=b) (hb:b<=d.size) (hd:d.size<=100000000000) (hQ:AllQ Q d) (w0 w:World) (B:LN) (G:List Res)
  (hL:Heap w0 B w (A0 g cap d::R::G)):Does Yf 245 #[sl g cap d,.int .i64 a,.int .i64 b,cmp] w
   fun v w'=>∃ d',d'=breakPatterns d a b/\d'.size=d.size/\AllQ Q d'/\Heap w0 B w' (A0 g cap d'::R::G)/\v=.tuple #[]:=by
 refine En [sl g cap d,.int .i64 a,.int .i64 b,cmp] 67 Tryz.func245 ?_;refine VS [0,1,8] ?_;rw [show ((b:Int) - a)=((b - a:Nat):Int) by omega];generalize hn:b - a=n at *;refine VS [0,1,8,17] ?_;refine Ai rfl rfl (fun h=>?_) (fun h=>by simp at h;omega);simp only [decide_eq_true_eq] at h;refine VQ [0,1,8,9] fun K hK=>?_;refine Bo (.int .u64 0) (by kernel_rfl) ?_;refine Qs ?_;have hH0:=hL.box 244 [.int .u64 0];generalize w.alloc (Yo [X3 .u64 0].toArray 244)=w1 at *;generalize w.heap.size=s at *;rw [Y5 (by omega) (by omega)];have e1:n=(UInt64.ofNat n).toNat:=by rw [UInt64.toNat_ofNat'];omega
 refine Ag ?_;refine Qs ?_;refine Ap hH0 0 (vs:=[.int .u64 n]) rfl rfl (by kernel_rfl) (by first | decide | (simp;done) | (simp;omega)) (by simp [Yw]) fun w6 hH1=>?_;(try refine Qs ?_);have hH:Heap w0 B w6 (Qg s (UInt64.ofNat n)::A0 g cap d::R::G):=by rw [Qg,<- e1];exact hH1
 apply hK;clear hK;refine VQ [0,1,8,9,10] fun K hK=>?_;refine Aa Tryz.call153 ?_;refine Qs ?_;refine Yc (Qbh n (by omega) w6) ?_;rintro v w2 ⟨rfl,rfl⟩;apply hK;clear hK;have h40:bitsLen n<=40:=Si (by omega);have hp:2 ^ bitsLen n<=2 ^ 40:=Un (by omega) h40;have hp0:0 < 2 ^ bitsLen n:=Ua (by omega);have hpn:=Qsb n;have hmod:1 <<< bitsLen n=2 ^ bitsLen n:=by rw [Ue,Nat.one_mul]
 have hpow2:∀ r:Nat,r &&& (2 ^ bitsLen n - 1) < 2 ^ bitsLen n:=fun r=>by rw [Nat.and_two_pow_sub_one_eq_mod];exact Nat.mod_lt _ hp0
 have hle:2 ^ bitsLen n<=2 * n:=by
  have h0:n≠0:=by omega
  have:=Nat.log2_self_le h0;rw [show bitsLen n=Ud n+1 by unfold bitsLen;rw [if_neg h0],Nat.pow_succ];omega
 refine VS [0,1,8,9,10,11] ?_
 have hbp:breakPatterns d a b=(O6 a n (2 ^ bitsLen n) (a+n / 4 * 2 - 1) d 3).2:=by
  simp only [breakPatterns,hn,hmod,if_pos (show n ≥ 8 by omega)];rfl
 have hix:a+3<=a+n / 4 * 2 - 1/\a+n / 4 * 2 - 1+3<=b:=by omega
 rw [show ((a:Int)+n / 4 * 2 - 1)=((a+n / 4 * 2 - 1:Nat):Int) by omega];have hlim:(a:Int)+n / 4 * 2+1=((a+n / 4 * 2 - 1:Nat):Int)+2:=by omega
 generalize a+n / 4 * 2 - 1=i0 at *;generalize 2 ^ bitsLen n=md at *;refine Aq ?_;refine Ay [0,1,8,9,10,11] (fun m e w'=>∃ (k:Nat),Is e [(0,sl g cap d),(1,.int .i64 a),(8,.int .i64 n),(9,.pointer (some ⟨s,0,none⟩)),(10,.int .u64 md),(11,.int .i64 (i0+k:Nat))]/\Heap w0 B w' (Qg s (O6 a n md i0 d k).1::A0 g cap (O6 a n md i0 d k).2::R::G)/\(O6 a n md i0 d k).2.size=d.size/\AllQ Q (O6 a n md i0 d k).2/\k<=3/\m=3 - k) 3 ?_ ?_
 ·
  refine Qs ?_;exact ⟨0,rfl,hH,rfl,hQ,by omega,rfl⟩
 clear hH hH1 hH0;rintro m e w3 ⟨k,rfl,hH,hs1,hQ1,hk,hm⟩;refine VQ [0,1,8,9,10,11,35] fun K hK=>?_;rw [hlim];(repeat refine Qo ?_);apply hK;clear hK;refine VD (fun h=>?_) (fun h=>?_)
 ·
  refine Ad ?_;refine VB ?_;refine VQ [0,1,8,9,10,11,12] fun K hK=>?_;refine Aa Tryz.call154 ?_;refine Qs ?_;refine Yc (Qoq s _ w3 (hH.focus 0 rfl)) ?_;rintro v w4 ⟨hH2,rfl⟩;have hH3:=hH.call1 (G':=[]) 0 rfl hH2;simp only [Ya,Yb] at hH3;refine Qs ?_;have hst:O6 a n md i0 d (k+1)=breakStep a n md (O6 a n md i0 d k) (i0+k):=rfl;clear hH hH2;generalize O6 a n md i0 d k=st at *;obtain ⟨r,d1⟩:=st;simp only [breakStep] at hst
  dsimp only at hH3 hs1 hQ1 ⊢
  generalize xorNext r=r1 at *;have hb1:=r1.toNat_lt;rw [Y5 (by omega) (by omega),show ((md:Int) - 1).toNat=md - 1 by omega];have ho:=hpow2 r1.toNat;generalize r1.toNat &&& (md - 1)=o at *;refine ⟨⟨by omega,by omega⟩,⟨by omega,by omega⟩,?_⟩;(repeat refine Qo ?_);apply hK;clear hK;refine VS [0,1,8,9,10,11,12,45] ?_;refine Do [0,1,8,9,10,11,12] (fun e w'=>∃ q:Nat,Is e [(0,sl g cap d),(1,.int .i64 a),(8,.int .i64 n),(9,.pointer (some ⟨s,0,none⟩)),(10,.int .u64 md),(11,.int .i64 (i0+k:Nat)),(12,.int .i64 q)]/\Is w' w4/\q=(if o ≥ n then o - n else o)/\q < n) ?_ ?_
  ·
   refine VD (fun h=>?_) (fun h=>?_)
   ·
    refine VS [0,1,8,9,10,11,12] ?_;refine Ah ?_;refine Qs ?_;exact ⟨o - n,by rw [show ((o:Int) - n)=((o - n:Nat):Int) by omega];rfl,rfl,by rw [if_pos (by omega)],by omega⟩
   refine Ad ?_;refine Ah ?_;refine Qs ?_;exact ⟨o,rfl,rfl,by rw [if_neg (by omega)],by omega⟩
  rintro e w5 ⟨q,rfl,rfl,hq,hq2⟩;rw [<- hq] at hst;have hH4:=hH3.front 1 rfl;simp only [Xq,Xr] at hH4;refine Vb [0,1,8,9,10,11] [(0,0),(1,0),(2,0),(3,0),(4,0),(5,0),(6,0),(7,0),(8,0),(9,0),(10,0),(12,0),(13,0),(14,0),(11,1),(15,1),(16,0),(17,2),(18,0),(19,2)] fun K hK=>?_;(repeat (first | (refine ⟨_,B7 (hH4.at 0 rfl) (by omega),?_⟩;(try refine Qs ?_)) | refine Qo ?_ | refine Qp ?_));refine Ag ?_;refine Qs ?_;refine C7 hH4 0 (o:=(i0+k)) rfl (by first | rfl | (simp;done) | (congr 1;omega)) (by first | omega | (simp;omega)) fun w6 hH5=>?_;simp only [Yb] at hH5;(try refine Qs ?_);(repeat (first | (refine ⟨_,B7 (hH4.at 0 rfl) (by omega),?_⟩;(try refine Qs ?_)) | refine Qo ?_ | refine Qp ?_));refine Ag ?_;refine Qs ?_;refine C7 hH5 0 (o:=(a+q)) rfl (by first | rfl | (simp;done) | (congr 1;omega)) (by first | omega | (simp;omega)) fun w6 hH6=>?_;simp only [Yb] at hH6;(try refine Qs ?_);have hH7:Heap w0 B w6 (A0 g cap (swp d1 (i0+k) (a+q))::Qg s r1::R::G):=hH6;have hH8:=hH7.front 1 rfl;simp only [Xq,Xr] at hH8;apply hK;clear hK;refine An ?_;refine VS [0,1,8,9,10,11] ?_;refine Ah ?_;refine Qs ?_;refine ⟨3 - (k+1),by omega,k+1,by rw [show (((i0+k:Nat):Int)+1)=((i0+(k+1):Nat):Int) by omega];rfl,?_,?_,?_,by omega,rfl⟩
  ·
   rw [hst];exact hH8
  ·
   rw [hst];rw [Kl];exact hs1
  rw [hst];exact hQ1.swp (by omega) (by omega)
 obtain rfl:k=3:=by omega
 refine Ax rfl ?_;refine S4 (Ly rfl ?_);exact ⟨_,hbp.symm,hs1,hQ1,(hH.sub (by simp)),rfl⟩
open Go Go.Eng
open Go.Sort (swp scanUp scanDown partLoop partition partEqLoop partitionEqual)
theorem Qec {p:Int->Bool}{d:Array Int}{j i:Nat} (h:i<=j) (hb:true=(decide (i<=j) && p d[i]!)):scanUp p d j i=scanUp p d j (i+1):=by
 conv=>lhs;rw [scanUp]
 rw [if_pos hb.symm]
theorem Qbc {p:Int->Bool}{d:Array Int}{j i:Nat} (hb:false=(decide (i<=j) && p d[i]!)):scanUp p d j i=i:=by
 rw [scanUp,if_neg (by rw [<- hb];simp)]
theorem Qbd {p:Int->Bool}{d:Array Int}{j i:Nat} (h:0 < j) (hb:true=(decide (i<=j) && p d[j]!)):scanDown p d i j=scanDown p d i (j - 1):=by
 obtain ⟨k,rfl⟩:∃ k,j=k+1:=⟨j - 1,by omega⟩
 conv=>lhs;rw [scanDown]
 rw [if_pos hb.symm];rfl
theorem Qal {p:Int->Bool}{d:Array Int}{j i:Nat} (hb:false=(decide (i<=j) && p d[j]!)):scanDown p d i j=j:=by
 cases j with
 | zero=>rfl
 | succ k=>rw [scanDown,if_neg (by rw [<- hb];simp)]
theorem Qor {lt:Int->Int->Bool}{a i j i2 j2:Nat}{d:Array Int} (h1:i2=scanUp (fun x=>! lt d[a]! x) d j i) (h2:j2=scanDown (fun x=>lt d[a]! x) d i2 j) (h:i2 > j2):partEqLoop lt a i j d=(i2,d):=by
 rw [partEqLoop];simp only [<- h1,<- h2];rw [if_pos h]
theorem Qwm {lt:Int->Int->Bool}{a i j i2 j2:Nat}{d:Array Int} (h1:i2=scanUp (fun x=>! lt d[a]! x) d j i) (h2:j2=scanDown (fun x=>lt d[a]! x) d i2 j) (h:¬ i2 > j2) (h3:i<=i2) (h4:j2<=j) (h5:1<=j2):partEqLoop lt a i j d=partEqLoop lt a (i2+1) (j2 - 1) (swp d i2 j2):=by
 conv=>lhs;rw [partEqLoop]
 simp only [<- h1,<- h2];rw [if_neg h,dif_pos (by omega)]
theorem Qwn {lt:Int->Int->Bool}{a i j i2 j2:Nat}{d:Array Int} (h1:i2=scanUp (fun x=>lt x d[a]!) d j i) (h2:j2=scanDown (fun x=>! lt x d[a]!) d i2 j) (h:i2 > j2):partLoop lt a i j d=(j2,d):=by
 rw [partLoop];simp only [<- h1,<- h2];rw [if_pos h]
theorem QFj {lt:Int->Int->Bool}{a i j i2 j2:Nat}{d:Array Int} (h1:i2=scanUp (fun x=>lt x d[a]!) d j i) (h2:j2=scanDown (fun x=>! lt x d[a]!) d i2 j) (h:¬ i2 > j2) (h3:i<=i2) (h4:j2<=j) (h5:1<=j2):partLoop lt a i j d=partLoop lt a (i2+1) (j2 - 1) (swp d i2 j2):=by
 conv=>lhs;rw [partLoop]
 simp only [<- h1,<- h2];rw [if_neg h,dif_pos (by omega)]
theorem Qbi {cmp:Value}{cf:Int->Int->Int}{Q:Int->Prop}{R:Res} (hC:Cmp cmp cf Q R) (g cap a b pivot:Nat) (d:Array Int) (hab:a < b) (hb:b<=d.size) (hp:a<=pivot/\pivot < b) (hd:d.size<=1000000000000) (hQ:AllQ Q d) (w0 w:World) (B:LN) (G:List Res)
  (hL:Heap w0 B w (A0 g cap d::R::G)):Does Yf 249 #[sl g cap d,.int .i64 a,.int .i64 b,.int .i64 pivot,cmp] w
   fun v w'=>∃ (p:Nat) (d':Array Int),(p,d')=partitionEqual (ltOf cf) d a b pivot/\(a < p/\p<=b)/\d'.size=d.size/\AllQ Q d'/\Heap w0 B w' (A0 g cap d'::R::G)/\v=.int .i64 p:=by
 refine En [sl g cap d,.int .i64 a,.int .i64 b,.int .i64 pivot,cmp] 90 Tryz.func249 ?_;refine VS [0,1,2,3,4] ?_;refine Vb [0,1,2,4] [(0,0),(1,0),(2,0),(3,0),(4,0),(5,0),(6,0),(8,0),(9,0),(10,0),(7,1),(11,1),(12,0),(13,2),(14,0),(15,2)] fun K hK=>?_;(repeat (first | (refine ⟨_,B7 (hL.at 0 rfl) (by omega),?_⟩;(try refine Qs ?_)) | refine Qo ?_ | refine Qp ?_));refine Ag ?_;refine Qs ?_;refine C7 hL 0 (o:=(a)) rfl (by first | rfl | (simp;done) | (congr 1;omega)) (by first | omega | (simp;omega)) fun w6 hS1=>?_;simp only [Yb] at hS1;(try refine Qs ?_);(repeat (first | (refine ⟨_,B7 (hL.at 0 rfl) (by omega),?_⟩;(try refine Qs ?_)) | refine Qo ?_ | refine Qp ?_));refine Ag ?_;refine Qs ?_;refine C7 hS1 0 (o:=(pivot)) rfl (by first | rfl | (simp;done) | (congr 1;omega)) (by first | omega | (simp;omega)) fun w6 hS2=>?_;simp only [Yb] at hS2;(try refine Qs ?_);have hS0:Heap w0 B w6 (A0 g cap (swp d a pivot)::R::G):=hS2;clear hS1 hS2;apply hK;clear hK;have hs0:(swp d a pivot).size=d.size:=Kl _ _ _;have hQ0:=hQ.swp (i:=a) (j:=pivot) (by omega) (by omega);refine VS [0,1,4,11,12] ?_;refine VB ?_;refine Ay [0,1,4,11,12] (fun m e w'=>∃ (i j:Nat) (d':Array Int),Is e [(0,sl g cap d),(1,.int .i64 a),(4,cmp),(11,.int .i64 i),(12,.int .i64 j)]/\Heap w0 B w' (A0 g cap d'::R::G)/\d'.size=d.size/\AllQ Q d'/\a+1<=i/\(i<=j+2/\i<=b/\a<=j)/\j < b/\partEqLoop (ltOf cf) a i j d'=partitionEqual (ltOf cf) d a b pivot/\m=j+1 - i) (b - (a+1)) ?_ ?_
 ·
  refine Qs ?_;exact ⟨a+1,b - 1,_,by rw [show ((b:Int) - 1)=((b - 1:Nat):Int) by omega];rfl,hS0,hs0,hQ0,by omega,by omega,by omega,rfl,by omega⟩
 clear hS0;rintro m0 e w1 ⟨i0,j,d1,rfl,hH,hs1,hQ1,hi0,hij0,hj,hlp,hm0⟩;refine Aq ?_;refine VB ?_;refine Ay [0,1,4,11,12] (fun m e w'=>∃ (i:Nat),Is e [(0,sl g cap d),(1,.int .i64 a),(4,cmp),(11,.int .i64 i),(12,.int .i64 j)]/\Heap w0 B w' (A0 g cap d1::R::G)/\i0<=i/\(i<=j+1∨i=i0)/\scanUp (fun x=>! ltOf cf d1[a]! x) d1 j i=scanUp (fun x=>! ltOf cf d1[a]! x) d1 j i0/\m=j+1 - i) (j+1 - i0) ?_ ?_
 ·
  refine Qs ?_;exact ⟨i0,rfl,hH,by omega,by omega,rfl,rfl⟩
 clear hH;rintro m e w2 ⟨i,rfl,hH,hi1,hi2,hsc,hm⟩;refine VL [0,1,4,11,12,47] 13 fun K hK=>?_
 have hall:∀ bb:Bool,∀ w4,bb=(decide (i<=j) && (! ltOf cf d1[a]! d1[i]!))->Heap w0 B w4 (A0 g cap d1::R::G)->K [(0,sl g cap d),(1,.int .i64 a),(4,cmp),(11,.int .i64 i),(12,.int .i64 j),(47,.bool bb)] w4:=by
  clear hH;intro bb w4 hbb hH;apply hK;clear hK;refine Vi (fun h=>?_) (fun h=>?_)
  ·
   subst h;have hij:i<=j:=by simp at hbb;omega
   refine Ad ?_;refine Aq ?_;refine VS [0,1,4,11,12] ?_;refine An ?_;refine Ah ?_;refine Qs ?_;refine ⟨j+1 - (i+1),by omega,i+1,rfl,hH,by omega,by omega,?_,rfl⟩;rw [<- hsc,Qec (p:=fun x=>! ltOf cf d1[a]! x) (i:=i) (j:=j) (by omega) hbb]
  subst h;rw [Qbc hbb] at hsc;clear hbb;refine Ax rfl ?_;obtain ⟨j0,hj0⟩:∃ j0,j0=j:=⟨_,rfl⟩;subst hj0;refine VB ?_;refine Ay [0,1,4,11,12] (fun m e w'=>∃ (j:Nat),Is e [(0,sl g cap d),(1,.int .i64 a),(4,cmp),(11,.int .i64 i),(12,.int .i64 j)]/\Heap w0 B w' (A0 g cap d1::R::G)/\(i<=j+2/\a<=j)/\j<=j0/\scanDown (fun x=>ltOf cf d1[a]! x) d1 i j=scanDown (fun x=>ltOf cf d1[a]! x) d1 i j0/\m=j) (j0) ?_ ?_
  ·
   refine Qs ?_;exact ⟨j0,rfl,hH,by omega,by omega,rfl,rfl⟩
  clear hH;rintro m e w2 ⟨j,rfl,hH,hj1,hj2,hsd,hm⟩;refine VL [0,1,4,11,12,65] 13 fun K hK=>?_
  have hall:∀ bb:Bool,∀ w4,bb=(decide (i<=j) && ltOf cf d1[a]! d1[j]!)->Heap w0 B w4 (A0 g cap d1::R::G)->K [(0,sl g cap d),(1,.int .i64 a),(4,cmp),(11,.int .i64 i),(12,.int .i64 j),(65,.bool bb)] w4:=by
   clear hH;intro bb w4 hbb hH;apply hK;clear hK;refine Vi (fun h=>?_) (fun h=>?_)
   ·
    subst h;have hij:i<=j:=by simp at hbb;omega
    refine Ad ?_;refine Aq ?_;refine VS [0,1,4,11,12] ?_;refine An ?_;refine Ah ?_;refine Qs ?_;refine ⟨j - 1,by omega,j - 1,by rw [show ((j:Int) - 1)=((j - 1:Nat):Int) by omega];rfl,hH,by omega,by omega,?_,rfl⟩;rw [<- hsd,Qbd (p:=fun x=>ltOf cf d1[a]! x) (i:=i) (j:=j) (by omega) hbb]
   subst h;rw [Qal hbb] at hsd;clear hbb;refine Ax rfl ?_;refine VS [0,1,4,11,12,70] ?_;refine VD (fun h=>?_) (fun h=>?_)
   ·
    rw [Qor hsc hsd (by omega)] at hlp;refine Ax rfl ?_;refine VS [10] ?_;exact Ae (Al rfl rfl ⟨i,d1,hlp,⟨by omega,by omega⟩,hs1,hQ1,hH,rfl⟩)
   rw [Qwm hsc hsd (by omega) (by omega) (by omega) (by omega)] at hlp;refine Ad ?_;refine Vb [0,1,4,11,12] [(0,0),(1,0),(2,0),(3,0),(4,0),(5,0),(6,0),(8,0),(9,0),(10,0),(7,1),(11,1),(12,0),(13,2),(14,0),(15,2)] fun K hK=>?_;(repeat (first | (refine ⟨_,B7 (hH.at 0 rfl) (by omega),?_⟩;(try refine Qs ?_)) | refine Qo ?_ | refine Qp ?_));refine Ag ?_;refine Qs ?_;refine C7 hH 0 (o:=(i)) rfl (by first | rfl | (simp;done) | (congr 1;omega)) (by first | omega | (simp;omega)) fun w6 hS1=>?_;simp only [Yb] at hS1;(try refine Qs ?_);(repeat (first | (refine ⟨_,B7 (hH.at 0 rfl) (by omega),?_⟩;(try refine Qs ?_)) | refine Qo ?_ | refine Qp ?_));refine Ag ?_;refine Qs ?_;refine C7 hS1 0 (o:=(j)) rfl (by first | rfl | (simp;done) | (congr 1;omega)) (by first | omega | (simp;omega)) fun w6 hS2=>?_;simp only [Yb] at hS2;(try refine Qs ?_);have hS:Heap w0 B w6 (A0 g cap (swp d1 i j)::R::G):=hS2;clear hS1 hS2;apply hK;clear hK;refine VS [0,1,4,11,12] ?_;refine VS [0,1,4,11,12] ?_;refine An ?_;refine Ah ?_;refine Qs ?_;exact ⟨j - 1+1 - (i+1),by omega,i+1,j - 1,_,by rw [show ((j:Int) - 1)=((j - 1:Nat):Int) by omega];rfl,hS,by rw [Kl,hs1],hQ1.swp (by omega) (by omega),by omega,by omega,by omega,hlp,rfl⟩
  refine ⟨fun hg=>?_,fun hg=>?_⟩
  ·
   (repeat (first | (refine ⟨_,B7 (hH.at 0 rfl) (by omega),?_⟩;(try refine Qs ?_)) | refine Qo ?_ | refine Qp ?_));refine Er ?_;refine Qs ?_;refine FnK.to (Cmp.look hC hH (hQ1 _ (by omega)) (hQ1 _ (by omega))) ?_;rintro v w4 ⟨hH2,rfl⟩;(try refine Qs ?_);refine hall _ _ ?_ hH2;simp [ltOf,show i<=j by omega]
  refine hall _ _ ?_ hH;simp [show ¬ i<=j by omega]
 refine ⟨fun hg=>?_,fun hg=>?_⟩
 ·
  (repeat (first | (refine ⟨_,B7 (hH.at 0 rfl) (by omega),?_⟩;(try refine Qs ?_)) | refine Qo ?_ | refine Qp ?_));refine Er ?_;refine Qs ?_;refine FnK.to (Cmp.look hC hH (hQ1 _ (by omega)) (hQ1 _ (by omega))) ?_;rintro v w4 ⟨hH2,rfl⟩;(try refine Qs ?_);refine hall _ _ ?_ hH2;simp [ltOf,show i<=j by omega]
 refine hall _ _ ?_ hH;simp [show ¬ i<=j by omega]
theorem Qgp {cmp:Value}{cf:Int->Int->Int}{Q:Int->Prop}{R:Res} (hC:Cmp cmp cf Q R) (g cap a b pivot:Nat) (d:Array Int) (hab:a < b) (hb:b<=d.size) (hp:a<=pivot/\pivot < b) (hd:d.size<=1000000000000) (hQ:AllQ Q d) (w0 w:World) (B:LN) (G:List Res)
  (hL:Heap w0 B w (A0 g cap d::R::G)):Does Yf 250 #[sl g cap d,.int .i64 a,.int .i64 b,.int .i64 pivot,cmp] w
   fun v w'=>∃ (p:Nat) (al:Bool) (d':Array Int),(p,al,d')=partition (ltOf cf) d a b pivot/\(a<=p/\p < b)/\d'.size=d.size/\AllQ Q d'/\Heap w0 B w' (A0 g cap d'::R::G)/\v=.tuple #[.int .i64 p,.bool al]:=by
 refine En [sl g cap d,.int .i64 a,.int .i64 b,.int .i64 pivot,cmp] 178 Tryz.func250 ?_;refine VS [0,1,2,3,4] ?_;refine Vb [0,1,2,4] [(0,0),(1,0),(2,0),(3,0),(4,0),(5,0),(6,0),(8,0),(9,0),(10,0),(7,1),(11,1),(12,0),(13,2),(14,0),(15,2)] fun K hK=>?_;(repeat (first | (refine ⟨_,B7 (hL.at 0 rfl) (by omega),?_⟩;(try refine Qs ?_)) | refine Qo ?_ | refine Qp ?_));refine Ag ?_;refine Qs ?_;refine C7 hL 0 (o:=(a)) rfl (by first | rfl | (simp;done) | (congr 1;omega)) (by first | omega | (simp;omega)) fun w6 hS1=>?_;simp only [Yb] at hS1;(try refine Qs ?_);(repeat (first | (refine ⟨_,B7 (hL.at 0 rfl) (by omega),?_⟩;(try refine Qs ?_)) | refine Qo ?_ | refine Qp ?_));refine Ag ?_;refine Qs ?_;refine C7 hS1 0 (o:=(pivot)) rfl (by first | rfl | (simp;done) | (congr 1;omega)) (by first | omega | (simp;omega)) fun w6 hS2=>?_;simp only [Yb] at hS2;(try refine Qs ?_);have hH:Heap w0 B w6 (A0 g cap (swp d a pivot)::R::G):=hS2;clear hS1 hS2;apply hK;clear hK;have hs0:(swp d a pivot).size=d.size:=Kl _ _ _;have hQ0:=hQ.swp (i:=a) (j:=pivot) (by omega) (by omega);generalize hd0:swp d a pivot=d0 at *;refine VS [0,1,4,12,13] ?_;obtain ⟨i0,hi00⟩:∃ i0,i0=a+1:=⟨_,rfl⟩;obtain ⟨j,hj00⟩:∃ j,j=b - 1:=⟨_,rfl⟩;rw [show ((b:Int) - 1)=(j:Int) by omega,show ((a:Int)+1)=(i0:Int) by omega];refine VB ?_;refine Ay [0,1,4,12,13] (fun m e w'=>∃ (i:Nat),Is e [(0,sl g cap d),(1,.int .i64 a),(4,cmp),(12,.int .i64 i),(13,.int .i64 j)]/\Heap w0 B w' (A0 g cap d0::R::G)/\i0<=i/\(i<=j+1∨i=i0)/\scanUp (fun x=>ltOf cf x d0[a]!) d0 j i=scanUp (fun x=>ltOf cf x d0[a]!) d0 j i0/\m=j+1 - i) (j+1 - i0) ?_ ?_
 ·
  refine Qs ?_;exact ⟨i0,rfl,hH,by omega,by omega,rfl,rfl⟩
 clear hH;rintro m e w2 ⟨i,rfl,hH,hi1,hi2,hsc,hm⟩;refine VL [0,1,4,12,13,47] 13 fun K hK=>?_
 have hall:∀ bb:Bool,∀ w4,bb=(decide (i<=j) && ltOf cf d0[i]! d0[a]!)->Heap w0 B w4 (A0 g cap d0::R::G)->K [(0,sl g cap d),(1,.int .i64 a),(4,cmp),(12,.int .i64 i),(13,.int .i64 j),(47,.bool bb)] w4:=by
  clear hH;intro bb w4 hbb hH;apply hK;clear hK;refine Vi (fun h=>?_) (fun h=>?_)
  ·
   subst h;have hij:i<=j:=by simp at hbb;omega
   refine Ad ?_;refine Aq ?_;refine VS [0,1,4,12,13] ?_;refine An ?_;refine Ah ?_;refine Qs ?_;refine ⟨j+1 - (i+1),by omega,i+1,rfl,hH,by omega,by omega,?_,rfl⟩;rw [<- hsc,Qec (p:=fun x=>ltOf cf x d0[a]!) (i:=i) (j:=j) (by omega) hbb]
  subst h;rw [Qbc hbb] at hsc;clear hbb;refine Ax rfl ?_;obtain ⟨j0,hj0⟩:∃ j0,j0=j:=⟨_,rfl⟩;subst hj0;refine VB ?_;refine Ay [0,1,4,12,13] (fun m e w'=>∃ (j:Nat),Is e [(0,sl g cap d),(1,.int .i64 a),(4,cmp),(12,.int .i64 i),(13,.int .i64 j)]/\Heap w0 B w' (A0 g cap d0::R::G)/\(i<=j+2/\a<=j)/\j<=j0/\scanDown (fun x=>! ltOf cf x d0[a]!) d0 i j=scanDown (fun x=>! ltOf cf x d0[a]!) d0 i j0/\m=j) (j0) ?_ ?_
  ·
   refine Qs ?_;exact ⟨j0,rfl,hH,by omega,by omega,rfl,rfl⟩
  clear hH;rintro m e w2 ⟨j,rfl,hH,hj1,hj2,hsd,hm⟩;refine VL [0,1,4,12,13,66] 13 fun K hK=>?_
  have hall:∀ bb:Bool,∀ w4,bb=(decide (i<=j) && (! ltOf cf d0[j]! d0[a]!))->Heap w0 B w4 (A0 g cap d0::R::G)->K [(0,sl g cap d),(1,.int .i64 a),(4,cmp),(12,.int .i64 i),(13,.int .i64 j),(66,.bool bb)] w4:=by
   clear hH;intro bb w4 hbb hH;apply hK;clear hK;refine Vi (fun h=>?_) (fun h=>?_)
   ·
    subst h;have hij:i<=j:=by simp at hbb;omega
    refine Ad ?_;refine Aq ?_;refine VS [0,1,4,12,13] ?_;refine An ?_;refine Ah ?_;refine Qs ?_;refine ⟨j - 1,by omega,j - 1,by rw [show ((j:Int) - 1)=((j - 1:Nat):Int) by omega];rfl,hH,by omega,by omega,?_,rfl⟩;rw [<- hsd,Qbd (p:=fun x=>! ltOf cf x d0[a]!) (i:=i) (j:=j) (by omega) hbb]
   subst h;rw [Qal hbb] at hsd;clear hbb;refine Ax rfl ?_;refine VS [0,1,4,12,13,71] ?_
   have hpart:partition (ltOf cf) d a b pivot=if i > j then (j,true,swp d0 j a) else ((partLoop (ltOf cf) a (i+1) (j - 1) (swp d0 i j)).1,false,swp (partLoop (ltOf cf) a (i+1) (j - 1) (swp d0 i j)).2 (partLoop (ltOf cf) a (i+1) (j - 1) (swp d0 i j)).1 a):=by
    simp only [partition,hd0,<- hi00,<- hj00,<- hsc,<- hsd]
   refine VD (fun h=>?_) (fun h=>?_)
   ·
    rw [if_pos (by omega)] at hpart;refine Vb [13] [(0,0),(1,0),(2,0),(3,0),(4,0),(5,0),(6,0),(8,0),(9,0),(10,0),(7,1),(11,1),(12,0),(13,2),(14,0),(15,2)] fun K hK=>?_;(repeat (first | (refine ⟨_,B7 (hH.at 0 rfl) (by omega),?_⟩;(try refine Qs ?_)) | refine Qo ?_ | refine Qp ?_));refine Ag ?_;refine Qs ?_;refine C7 hH 0 (o:=(j)) rfl (by first | rfl | (simp;done) | (congr 1;omega)) (by first | omega | (simp;omega)) fun w6 hS1=>?_;simp only [Yb] at hS1;(try refine Qs ?_);(repeat (first | (refine ⟨_,B7 (hH.at 0 rfl) (by omega),?_⟩;(try refine Qs ?_)) | refine Qo ?_ | refine Qp ?_));refine Ag ?_;refine Qs ?_;refine C7 hS1 0 (o:=(a)) rfl (by first | rfl | (simp;done) | (congr 1;omega)) (by first | omega | (simp;omega)) fun w6 hS2=>?_;simp only [Yb] at hS2;(try refine Qs ?_);have hS:Heap w0 B w6 (A0 g cap (swp d0 j a)::R::G):=hS2;clear hS1 hS2;apply hK;clear hK;refine VS [10,11] ?_;refine Ae (Bp rfl rfl rfl ?_);exact ⟨j,true,_,hpart.symm,⟨by omega,by omega⟩,by rw [Kl,hs0],hQ0.swp (by omega) (by omega),hS,rfl⟩
   rw [if_neg (by omega)] at hpart;refine Ad ?_;refine Vb [0,1,4,12,13] [(0,0),(1,0),(2,0),(3,0),(4,0),(5,0),(6,0),(8,0),(9,0),(10,0),(7,1),(11,1),(12,0),(13,2),(14,0),(15,2)] fun K hK=>?_;(repeat (first | (refine ⟨_,B7 (hH.at 0 rfl) (by omega),?_⟩;(try refine Qs ?_)) | refine Qo ?_ | refine Qp ?_));refine Ag ?_;refine Qs ?_;refine C7 hH 0 (o:=(i)) rfl (by first | rfl | (simp;done) | (congr 1;omega)) (by first | omega | (simp;omega)) fun w6 hS1=>?_;simp only [Yb] at hS1;(try refine Qs ?_);(repeat (first | (refine ⟨_,B7 (hH.at 0 rfl) (by omega),?_⟩;(try refine Qs ?_)) | refine Qo ?_ | refine Qp ?_));refine Ag ?_;refine Qs ?_;refine C7 hS1 0 (o:=(j)) rfl (by first | rfl | (simp;done) | (congr 1;omega)) (by first | omega | (simp;omega)) fun w6 hS2=>?_;simp only [Yb] at hS2;(try refine Qs ?_);have hS0:Heap w0 B w6 (A0 g cap (swp d0 i j)::R::G):=hS2;clear hS1 hS2;apply hK;clear hK;refine VS [0,1,4,12,13] ?_;refine VS [0,1,4,12,13] ?_;have hs0':(swp d0 i j).size=d.size:=by rw [Kl,hs0]
   have hQ0':=hQ0.swp (i:=i) (j:=j) (by omega) (by omega);obtain ⟨r,hr⟩:∃ r,partLoop (ltOf cf) a (i+1) (j - 1) (swp d0 i j)=r:=⟨_,rfl⟩;have hpt:∀ x y,r=(x,y)->(x,false,swp y x a)=partition (ltOf cf) d a b pivot:=fun x y h=>by rw [hpart,hr,h]
   clear hpart hsc hsd;obtain ⟨d0',hd0'⟩:∃ d0',swp d0 i j=d0':=⟨_,rfl⟩;rw [hd0'] at hS0 hs0' hQ0' hr;clear hd0';refine VB ?_;refine Ay [0,1,4,12,13] (fun m e w'=>∃ (i j:Nat) (d':Array Int),Is e [(0,sl g cap d),(1,.int .i64 a),(4,cmp),(12,.int .i64 i),(13,.int .i64 j)]/\Heap w0 B w' (A0 g cap d'::R::G)/\d'.size=d.size/\AllQ Q d'/\a+1<=i/\(i<=j+2/\i<=b/\a<=j)/\j < b/\partLoop (ltOf cf) a i j d'=r/\m=j+1 - i) (j - 1+1 - (i+1)) ?_ ?_
   ·
    refine Qs ?_;exact ⟨i+1,j - 1,d0',by rw [show ((j:Int) - 1)=((j - 1:Nat):Int) by omega];rfl,hS0,hs0',hQ0',by omega,by omega,by omega,hr,rfl⟩
   clear hS0;rintro m0 e w1 ⟨i0,j,d1,rfl,hH,hs1,hQ1,hi0,hij0,hj,hlp,hm0⟩;refine Aq ?_;refine VB ?_;refine Ay [0,1,4,12,13] (fun m e w'=>∃ (i:Nat),Is e [(0,sl g cap d),(1,.int .i64 a),(4,cmp),(12,.int .i64 i),(13,.int .i64 j)]/\Heap w0 B w' (A0 g cap d1::R::G)/\i0<=i/\(i<=j+1∨i=i0)/\scanUp (fun x=>ltOf cf x d1[a]!) d1 j i=scanUp (fun x=>ltOf cf x d1[a]!) d1 j i0/\m=j+1 - i) (j+1 - i0) ?_ ?_
   ·
    refine Qs ?_;exact ⟨i0,rfl,hH,by omega,by omega,rfl,rfl⟩
   clear hH;rintro m e w2 ⟨i,rfl,hH,hi1,hi2,hsc,hm⟩;refine VL [0,1,4,12,13,120] 13 fun K hK=>?_
   have hall:∀ bb:Bool,∀ w4,bb=(decide (i<=j) && ltOf cf d1[i]! d1[a]!)->Heap w0 B w4 (A0 g cap d1::R::G)->K [(0,sl g cap d),(1,.int .i64 a),(4,cmp),(12,.int .i64 i),(13,.int .i64 j),(120,.bool bb)] w4:=by
    clear hH;intro bb w4 hbb hH;apply hK;clear hK;refine Vi (fun h=>?_) (fun h=>?_)
    ·
     subst h;have hij:i<=j:=by simp at hbb;omega
     refine Ad ?_;refine Aq ?_;refine VS [0,1,4,12,13] ?_;refine An ?_;refine Ah ?_;refine Qs ?_;refine ⟨j+1 - (i+1),by omega,i+1,rfl,hH,by omega,by omega,?_,rfl⟩;rw [<- hsc,Qec (p:=fun x=>ltOf cf x d1[a]!) (i:=i) (j:=j) (by omega) hbb]
    subst h;rw [Qbc hbb] at hsc;clear hbb;refine Ax rfl ?_;obtain ⟨j0,hj0⟩:∃ j0,j0=j:=⟨_,rfl⟩;subst hj0;refine VB ?_;refine Ay [0,1,4,12,13] (fun m e w'=>∃ (j:Nat),Is e [(0,sl g cap d),(1,.int .i64 a),(4,cmp),(12,.int .i64 i),(13,.int .i64 j)]/\Heap w0 B w' (A0 g cap d1::R::G)/\(i<=j+2/\a<=j)/\j<=j0/\scanDown (fun x=>! ltOf cf x d1[a]!) d1 i j=scanDown (fun x=>! ltOf cf x d1[a]!) d1 i j0/\m=j) (j0) ?_ ?_
    ·
     refine Qs ?_;exact ⟨j0,rfl,hH,by omega,by omega,rfl,rfl⟩
    clear hH;rintro m e w2 ⟨j,rfl,hH,hj1,hj2,hsd,hm⟩;refine VL [0,1,4,12,13,139] 13 fun K hK=>?_
    have hall:∀ bb:Bool,∀ w4,bb=(decide (i<=j) && (! ltOf cf d1[j]! d1[a]!))->Heap w0 B w4 (A0 g cap d1::R::G)->K [(0,sl g cap d),(1,.int .i64 a),(4,cmp),(12,.int .i64 i),(13,.int .i64 j),(139,.bool bb)] w4:=by
     clear hH;intro bb w4 hbb hH;apply hK;clear hK;refine Vi (fun h=>?_) (fun h=>?_)
     ·
      subst h;have hij:i<=j:=by simp at hbb;omega
      refine Ad ?_;refine Aq ?_;refine VS [0,1,4,12,13] ?_;refine An ?_;refine Ah ?_;refine Qs ?_;refine ⟨j - 1,by omega,j - 1,by rw [show ((j:Int) - 1)=((j - 1:Nat):Int) by omega];rfl,hH,by omega,by omega,?_,rfl⟩;rw [<- hsd,Qbd (p:=fun x=>! ltOf cf x d1[a]!) (i:=i) (j:=j) (by omega) hbb]
     subst h;rw [Qal hbb] at hsd;clear hbb;refine Ax rfl ?_;refine VS [0,1,4,12,13,144] ?_;refine VD (fun h=>?_) (fun h=>?_)
     ·
      rw [Qwn hsc hsd (by omega)] at hlp;refine Ax rfl ?_;refine Vb [13] [(0,0),(1,0),(2,0),(3,0),(4,0),(5,0),(6,0),(8,0),(9,0),(10,0),(7,1),(11,1),(12,0),(13,2),(14,0),(15,2)] fun K hK=>?_;(repeat (first | (refine ⟨_,B7 (hH.at 0 rfl) (by omega),?_⟩;(try refine Qs ?_)) | refine Qo ?_ | refine Qp ?_));refine Ag ?_;refine Qs ?_;refine C7 hH 0 (o:=(j)) rfl (by first | rfl | (simp;done) | (congr 1;omega)) (by first | omega | (simp;omega)) fun w6 hS1=>?_;simp only [Yb] at hS1;(try refine Qs ?_);(repeat (first | (refine ⟨_,B7 (hH.at 0 rfl) (by omega),?_⟩;(try refine Qs ?_)) | refine Qo ?_ | refine Qp ?_));refine Ag ?_;refine Qs ?_;refine C7 hS1 0 (o:=(a)) rfl (by first | rfl | (simp;done) | (congr 1;omega)) (by first | omega | (simp;omega)) fun w6 hS2=>?_;simp only [Yb] at hS2;(try refine Qs ?_);have hS:Heap w0 B w6 (A0 g cap (swp d1 j a)::R::G):=hS2;clear hS1 hS2;apply hK;clear hK;refine VS [10,11] ?_;refine Ae (Bp rfl rfl rfl ?_);exact ⟨j,false,_,hpt _ _ hlp.symm,⟨by omega,by omega⟩,by rw [Kl,hs1],hQ1.swp (by omega) (by omega),hS,rfl⟩
     rw [QFj hsc hsd (by omega) (by omega) (by omega) (by omega)] at hlp;refine Ad ?_;refine Vb [0,1,4,12,13] [(0,0),(1,0),(2,0),(3,0),(4,0),(5,0),(6,0),(8,0),(9,0),(10,0),(7,1),(11,1),(12,0),(13,2),(14,0),(15,2)] fun K hK=>?_;(repeat (first | (refine ⟨_,B7 (hH.at 0 rfl) (by omega),?_⟩;(try refine Qs ?_)) | refine Qo ?_ | refine Qp ?_));refine Ag ?_;refine Qs ?_;refine C7 hH 0 (o:=(i)) rfl (by first | rfl | (simp;done) | (congr 1;omega)) (by first | omega | (simp;omega)) fun w6 hS1=>?_;simp only [Yb] at hS1;(try refine Qs ?_);(repeat (first | (refine ⟨_,B7 (hH.at 0 rfl) (by omega),?_⟩;(try refine Qs ?_)) | refine Qo ?_ | refine Qp ?_));refine Ag ?_;refine Qs ?_;refine C7 hS1 0 (o:=(j)) rfl (by first | rfl | (simp;done) | (congr 1;omega)) (by first | omega | (simp;omega)) fun w6 hS2=>?_;simp only [Yb] at hS2;(try refine Qs ?_);have hS:Heap w0 B w6 (A0 g cap (swp d1 i j)::R::G):=hS2;clear hS1 hS2;apply hK;clear hK;refine VS [0,1,4,12,13] ?_;refine VS [0,1,4,12,13] ?_;refine An ?_;refine Ah ?_;refine Qs ?_;exact ⟨j - 1+1 - (i+1),by omega,i+1,j - 1,_,by rw [show ((j:Int) - 1)=((j - 1:Nat):Int) by omega];rfl,hS,by rw [Kl,hs1],hQ1.swp (by omega) (by omega),by omega,by omega,by omega,hlp,rfl⟩
    refine ⟨fun hg=>?_,fun hg=>?_⟩
    ·
     (repeat (first | (refine ⟨_,B7 (hH.at 0 rfl) (by omega),?_⟩;(try refine Qs ?_)) | refine Qo ?_ | refine Qp ?_));refine Er ?_;refine Qs ?_;refine FnK.to (Cmp.look hC hH (hQ1 _ (by omega)) (hQ1 _ (by omega))) ?_;rintro v w4 ⟨hH2,rfl⟩;(try refine Qs ?_);refine hall _ _ ?_ hH2;simp [ltOf,show i<=j by omega]
    refine hall _ _ ?_ hH;simp [show ¬ i<=j by omega]
   refine ⟨fun hg=>?_,fun hg=>?_⟩
   ·
    (repeat (first | (refine ⟨_,B7 (hH.at 0 rfl) (by omega),?_⟩;(try refine Qs ?_)) | refine Qo ?_ | refine Qp ?_));refine Er ?_;refine Qs ?_;refine FnK.to (Cmp.look hC hH (hQ1 _ (by omega)) (hQ1 _ (by omega))) ?_;rintro v w4 ⟨hH2,rfl⟩;(try refine Qs ?_);refine hall _ _ ?_ hH2;simp [ltOf,show i<=j by omega]
   refine hall _ _ ?_ hH;simp [show ¬ i<=j by omega]
  refine ⟨fun hg=>?_,fun hg=>?_⟩
  ·
   (repeat (first | (refine ⟨_,B7 (hH.at 0 rfl) (by omega),?_⟩;(try refine Qs ?_)) | refine Qo ?_ | refine Qp ?_));refine Er ?_;refine Qs ?_;refine FnK.to (Cmp.look hC hH (hQ0 _ (by omega)) (hQ0 _ (by omega))) ?_;rintro v w4 ⟨hH2,rfl⟩;(try refine Qs ?_);refine hall _ _ ?_ hH2;simp [ltOf,show i<=j by omega]
  refine hall _ _ ?_ hH;simp [show ¬ i<=j by omega]
 refine ⟨fun hg=>?_,fun hg=>?_⟩
 ·
  (repeat (first | (refine ⟨_,B7 (hH.at 0 rfl) (by omega),?_⟩;(try refine Qs ?_)) | refine Qo ?_ | refine Qp ?_));refine Er ?_;refine Qs ?_;refine FnK.to (Cmp.look hC hH (hQ0 _ (by omega)) (hQ0 _ (by omega))) ?_;rintro v w4 ⟨hH2,rfl⟩;(try refine Qs ?_);refine hall _ _ ?_ hH2;simp [ltOf,show i<=j by omega]
 refine hall _ _ ?_ hH;simp [show ¬ i<=j by omega]
open Go Go.Eng
open Go.Sort (swp scanSorted shiftDown shiftUp partialIns partialInsertionSort)
theorem Qjs {lt:Int->Int->Bool}{d:Array Int}{b i:Nat} (hb:true=(decide (i < b) && ! lt d[i]! d[i - 1]!)):scanSorted lt d b i=scanSorted lt d b (i+1):=by
 conv=>lhs;rw [scanSorted]
 rw [if_pos hb.symm]
theorem Qf0 {lt:Int->Int->Bool}{d:Array Int}{b i:Nat} (hb:false=(decide (i < b) && ! lt d[i]! d[i - 1]!)):scanSorted lt d b i=i:=by
 rw [scanSorted,if_neg (by rw [<- hb];simp)]
theorem Ql4 {lt:Int->Int->Bool}{d:Array Int}{j:Nat} (h0:0 < j) (h:lt d[j]! d[j - 1]! = true):shiftDown lt j d=shiftDown lt (j - 1) (swp d j (j - 1)):=by
 obtain ⟨k,rfl⟩:∃ k,j=k+1:=⟨j - 1,by omega⟩;rw [Y7] at *
 conv=>lhs;rw [shiftDown]
 rw [if_neg (by simp [h])]
theorem Qgq {lt:Int->Int->Bool}{d:Array Int}{j:Nat} (h0:0 < j) (h:lt d[j]! d[j - 1]! = false):shiftDown lt j d=d:=by
 obtain ⟨k,rfl⟩:∃ k,j=k+1:=⟨j - 1,by omega⟩;rw [Y7] at *;rw [shiftDown,if_pos (by simp [h])]
theorem Qsd {lt:Int->Int->Bool}{d:Array Int}{b j:Nat} (h0:j < b) (h:lt d[j]! d[j - 1]! = true):shiftUp lt b j d=shiftUp lt b (j+1) (swp d j (j - 1)):=by
 conv=>lhs;rw [shiftUp]
 rw [if_pos h0,if_neg (by simp [h])]
theorem Ql5 {lt:Int->Int->Bool}{d:Array Int}{b j:Nat} (h0:j < b) (h:lt d[j]! d[j - 1]! = false):shiftUp lt b j d=d:=by
 rw [shiftUp,if_pos h0,if_pos (by simp [h])]
theorem Qos {lt:Int->Int->Bool}{d:Array Int}{b j:Nat} (h0:¬ j < b):shiftUp lt b j d=d:=by
 rw [shiftUp,if_neg h0]
theorem Qag {cmp:Value}{cf:Int->Int->Int}{Q:Int->Prop}{R:Res} (hC:Cmp cmp cf Q R) (g cap a b:Nat) (d:Array Int) (hab:a < b) (hb:b<=d.size) (hd:d.size<=1000000000000) (hQ:AllQ Q d) (w0 w:World) (B:LN) (G:List Res)
  (hL:Heap w0 B w (A0 g cap d::R::G)):Does Yf 248 #[sl g cap d,.int .i64 a,.int .i64 b,cmp] w
   fun v w'=>∃ (d':Array Int) (ok:Bool),(d',ok)=partialInsertionSort (ltOf cf) d a b/\d'.size=d.size/\AllQ Q d'/\Heap w0 B w' (A0 g cap d'::R::G)/\v=.bool ok:=by
 refine En [sl g cap d,.int .i64 a,.int .i64 b,cmp] 141 Tryz.func248 ?_;refine VS [0,1,2,3] ?_;refine VS [0,1,2,3,9] ?_;refine VS [0,1,2,3,9,10] ?_;refine Aq ?_;refine Ay [0,1,2,3,9,10] (fun m e w'=>∃ (i q:Nat) (d':Array Int),Is e [(0,sl g cap d),(1,.int .i64 a),(2,.int .i64 b),(3,cmp),(9,.int .i64 i),(10,.int .i64 q)]/\Heap w0 B w' (A0 g cap d'::R::G)/\d'.size=d.size/\AllQ Q d'/\a+1<=i/\i<=b/\q<=5/\partialIns (ltOf cf) a b (5 - q) i d'=partialInsertionSort (ltOf cf) d a b/\m=5 - q) 5 ?_ ?_
 ·
  refine Qs ?_;exact ⟨a+1,0,d,rfl,hL,rfl,hQ,by omega,by omega,by omega,rfl,rfl⟩
 rintro m0 e w1 ⟨i0,q,d1,rfl,hH,hs1,hQ1,hi0,hi0b,hq,hpi,hm0⟩;refine VS [0,1,2,3,9,10,16] ?_;refine VD (fun h=>?_) (fun h=>?_)
 ·
  refine Ad ?_;refine VB ?_;refine VB ?_;refine Ay [0,1,2,3,9,10] (fun m e w'=>∃ (i:Nat),Is e [(0,sl g cap d),(1,.int .i64 a),(2,.int .i64 b),(3,cmp),(9,.int .i64 i),(10,.int .i64 q)]/\Heap w0 B w' (A0 g cap d1::R::G)/\i0<=i/\i<=b/\scanSorted (ltOf cf) d1 b i=scanSorted (ltOf cf) d1 b i0/\m=b - i) (b - i0) ?_ ?_
  ·
   refine Qs ?_;exact ⟨i0,rfl,hH,by omega,by omega,rfl,rfl⟩
  clear hH;rintro m e w2 ⟨i,rfl,hH,hi1,hi2,hsc,hm⟩;refine VL [0,1,2,3,9,10,36] 14 fun K hK=>?_
  have hall:∀ bb:Bool,∀ w4,bb=(decide (i < b) && ! ltOf cf d1[i]! d1[i - 1]!)->Heap w0 B w4 (A0 g cap d1::R::G)->K [(0,sl g cap d),(1,.int .i64 a),(2,.int .i64 b),(3,cmp),(9,.int .i64 i),(10,.int .i64 q),(36,.bool bb)] w4:=by
   clear hH;intro bb w4 hbb hH;apply hK;clear hK;refine Vi (fun h=>?_) (fun h=>?_)
   ·
    subst h;have hij:i < b:=by simp at hbb;omega
    refine Ad ?_;refine Aq ?_;refine VS [0,1,2,3,9,10] ?_;refine An ?_;refine Ah ?_;refine Qs ?_;refine ⟨b - (i+1),by omega,i+1,rfl,hH,by omega,by omega,?_,rfl⟩;rw [<- hsc,Qjs (i:=i) hbb]
   subst h;rw [Qf0 hbb] at hsc;clear hbb;refine Ax rfl ?_;obtain ⟨s,hs⟩:∃ s,5 - q=s+1:=⟨4 - q,by omega⟩;rw [hs,partialIns] at hpi;simp only [<- hsc] at hpi;refine VS [0,1,2,3,9,10,41] ?_;refine VD (fun h=>?_) (fun h=>?_)
   ·
    rw [if_pos (by omega)] at hpi;refine VS [8] ?_;exact Ae (Al rfl rfl ⟨d1,true,hpi,hs1,hQ1,hH,rfl⟩)
   rw [if_neg (by omega)] at hpi;refine Ad ?_;refine VS [0,1,2,3,9,10,45] ?_;refine VD (fun h=>?_) (fun h=>?_)
   ·
    rw [if_pos (by omega)] at hpi;refine VS [8] ?_;exact Ae (Al rfl rfl ⟨d1,false,hpi,hs1,hQ1,hH,rfl⟩)
   rw [if_neg (by omega)] at hpi;refine Ad ?_;refine Vb [0,1,2,3,9,10] [(0,0),(1,0),(2,0),(3,0),(4,0),(5,0),(6,0),(7,0),(8,0),(10,0),(11,0),(12,0),(9,1),(13,1),(14,0),(15,2),(16,0),(17,2)] fun K hK=>?_;(repeat (first | (refine ⟨_,B7 (hH.at 0 rfl) (by omega),?_⟩;(try refine Qs ?_)) | refine Qo ?_ | refine Qp ?_));refine Ag ?_;refine Qs ?_;refine C7 hH 0 (o:=(i)) rfl (by first | rfl | (simp;done) | (congr 1;omega)) (by first | omega | (simp;omega)) fun w6 hS1=>?_;simp only [Yb] at hS1;(try refine Qs ?_);(repeat (first | (refine ⟨_,B7 (hH.at 0 rfl) (by omega),?_⟩;(try refine Qs ?_)) | refine Qo ?_ | refine Qp ?_));refine Ag ?_;refine Qs ?_;refine C7 hS1 0 (o:=(i - 1)) rfl (by first | rfl | (simp;done) | (congr 1;omega)) (by first | omega | (simp;omega)) fun w6 hS2=>?_;simp only [Yb] at hS2;(try refine Qs ?_);have hH1:Heap w0 B w6 (A0 g cap (swp d1 i (i - 1))::R::G):=hS2;have hs2:(swp d1 i (i - 1)).size=d.size:=by rw [Kl,hs1]
   have hQ2:=hQ1.swp (i:=i) (j:=i - 1) (by omega) (by omega);clear hS1 hS2 hH hsc;generalize swp d1 i (i - 1)=d2 at *;apply hK;clear hK;refine VS [0,1,2,3,9,10,65] ?_;refine Do [0,1,2,3,9,10] (fun e w'=>∃ d':Array Int,Is e [(0,sl g cap d),(1,.int .i64 a),(2,.int .i64 b),(3,cmp),(9,.int .i64 i),(10,.int .i64 q)]/\Heap w0 B w' (A0 g cap d'::R::G)/\d'.size=d.size/\AllQ Q d'/\d'=if i - a ≥ 2 then shiftDown (ltOf cf) (i - 1) d2 else d2) ?_ ?_
   ·
    refine VD (fun h=>?_) (fun h=>?_)
    ·
     refine VS [0,1,2,3,9,10,11] ?_;refine Aq ?_;refine Ay [0,1,2,3,9,10,11] (fun m e w'=>∃ (j:Nat) (d':Array Int),Is e [(0,sl g cap d),(1,.int .i64 a),(2,.int .i64 b),(3,cmp),(9,.int .i64 i),(10,.int .i64 q),(11,.int .i64 j)]/\Heap w0 B w' (A0 g cap d'::R::G)/\d'.size=d.size/\AllQ Q d'/\j < b/\shiftDown (ltOf cf) j d'=shiftDown (ltOf cf) (i - 1) d2/\m=j) (i - 1) ?_ ?_
     ·
      refine Qs ?_;exact ⟨i - 1,d2,by rw [show ((i:Int) - 1)=((i - 1:Nat):Int) by omega];rfl,hH1,hs2,hQ2,by omega,rfl,rfl⟩
     clear hH1 hQ2 hs2;rintro m e w7 ⟨j,d3,rfl,hH,hs3,hQ3,hj,hsd,hm⟩;refine VS [0,1,2,3,9,10,11,69] ?_;refine VD (fun h=>?_) (fun h=>?_)
     ·
      refine Ad ?_;refine VB ?_;refine VL [0,1,2,3,9,10,11,84] 10 fun K hK=>?_;(repeat (first | (refine ⟨_,B7 (hH.at 0 rfl) (by omega),?_⟩;(try refine Qs ?_)) | refine Qo ?_ | refine Qp ?_));refine Er ?_;refine Qs ?_;refine FnK.to (Cmp.look hC hH (hQ3 _ (by omega)) (hQ3 _ (by omega))) ?_;rintro v w4 ⟨hH2,rfl⟩;(try refine Qs ?_);clear hH;apply hK;clear hK;refine Vi (fun h=>?_) (fun h=>?_)
      ·
       simp at h;rw [Qgq (by omega) (by simp [ltOf];omega)] at hsd;refine Ax rfl ?_;refine Ah ?_;refine Qs ?_;exact ⟨d3,rfl,hH2,hs3,hQ3,by rw [if_pos (by omega),hsd]⟩
      simp at h;rw [Ql4 (by omega) (by simp [ltOf];omega)] at hsd;refine Ad ?_;refine Vb [0,1,2,3,9,10,11] [(0,0),(1,0),(2,0),(3,0),(4,0),(5,0),(6,0),(7,0),(8,0),(10,0),(11,0),(12,0),(9,1),(13,1),(14,0),(15,2),(16,0),(17,2)] fun K hK=>?_;(repeat (first | (refine ⟨_,B7 (hH2.at 0 rfl) (by omega),?_⟩;(try refine Qs ?_)) | refine Qo ?_ | refine Qp ?_));refine Ag ?_;refine Qs ?_;refine C7 hH2 0 (o:=(j)) rfl (by first | rfl | (simp;done) | (congr 1;omega)) (by first | omega | (simp;omega)) fun w6 hS1=>?_;simp only [Yb] at hS1;(try refine Qs ?_);(repeat (first | (refine ⟨_,B7 (hH2.at 0 rfl) (by omega),?_⟩;(try refine Qs ?_)) | refine Qo ?_ | refine Qp ?_));refine Ag ?_;refine Qs ?_;refine C7 hS1 0 (o:=(j - 1)) rfl (by first | rfl | (simp;done) | (congr 1;omega)) (by first | omega | (simp;omega)) fun w6 hS2=>?_;simp only [Yb] at hS2;(try refine Qs ?_);have hS3:Heap w0 B w6 (A0 g cap (swp d3 j (j - 1))::R::G):=hS2;apply hK;clear hK;refine An ?_;refine VS [0,1,2,3,9,10,11] ?_;refine Ah ?_;refine Qs ?_;exact ⟨j - 1,by omega,j - 1,_,by rw [show ((j:Int) - 1)=((j - 1:Nat):Int) by omega];rfl,hS3,by rw [Kl,hs3],hQ3.swp (by omega) (by omega),by omega,hsd,rfl⟩
     obtain rfl:j=0:=by omega
     rw [shiftDown] at hsd;refine Ax rfl ?_;refine Ah ?_;refine Qs ?_;exact ⟨d3,rfl,hH,hs3,hQ3,by rw [if_pos (by omega),hsd]⟩
    refine Ad ?_;refine Ah ?_;refine Qs ?_;exact ⟨d2,rfl,hH1,hs2,hQ2,by rw [if_neg (by omega)]⟩
   clear hH1 hs2 hQ2;rintro e w8 ⟨d3,rfl,hH,hs3,hQ3,hd3⟩;rw [<- hd3] at hpi;clear hd3;have hs5:5 - (q+1)=s:=by omega
   have hnext:∀ (d4:Array Int) (w9:World),Heap w0 B w9 (A0 g cap d4::R::G)->d4.size=d.size->AllQ Q d4->d4=(if b - i ≥ 2 then shiftUp (ltOf cf) b (i+1) d3 else d3) ->
     ∃ m_1,m_1 < m0/\∃ (i' q':Nat) (d':Array Int),Is [(0,sl g cap d),(1,.int .i64 a),(2,.int .i64 b),(3,cmp),(9,.int .i64 i),(10,.int .i64 (q+1))] [(0,sl g cap d),(1,.int .i64 a),(2,.int .i64 b),(3,cmp),(9,.int .i64 i'),(10,.int .i64 q')]/\Heap w0 B w9 (A0 g cap d'::R::G)/\d'.size=d.size/\AllQ Q d'/\a+1<=i'/\i'<=b/\q'<=5/\partialIns (ltOf cf) a b (5 - q') i' d'=partialInsertionSort (ltOf cf) d a b/\m_1=5 - q':=by
    intro d4 w9 h1 h2 h3 h4;refine ⟨5 - (q+1),by omega,i,q+1,d4,rfl,h1,h2,h3,by omega,by omega,by omega,?_,rfl⟩;rw [hs5,h4,hpi]
   refine VS [0,1,2,3,9,10,104] ?_;refine VD (fun h=>?_) (fun h=>?_)
   ·
    refine VS [0,1,2,3,9,10,12] ?_;refine Aq ?_;refine Ay [0,1,2,3,9,10,12] (fun m e w'=>∃ (j:Nat) (d':Array Int),Is e [(0,sl g cap d),(1,.int .i64 a),(2,.int .i64 b),(3,cmp),(9,.int .i64 i),(10,.int .i64 q),(12,.int .i64 j)]/\Heap w0 B w' (A0 g cap d'::R::G)/\d'.size=d.size/\AllQ Q d'/\i+1<=j/\j<=b/\shiftUp (ltOf cf) b j d'=shiftUp (ltOf cf) b (i+1) d3/\m=b - j) (b - (i+1)) ?_ ?_
    ·
     refine Qs ?_;exact ⟨i+1,d3,rfl,hH,hs3,hQ3,by omega,by omega,rfl,rfl⟩
    clear hH hs3 hQ3;rintro m e w9 ⟨j,d4,rfl,hH,hs4,hQ4,hj1,hj2,hsu,hm⟩;refine VS [0,1,2,3,9,10,12,109] ?_;refine VD (fun h=>?_) (fun h=>?_)
    ·
     refine Ad ?_;refine VB ?_;refine VL [0,1,2,3,9,10,12,124] 10 fun K hK=>?_;(repeat (first | (refine ⟨_,B7 (hH.at 0 rfl) (by omega),?_⟩;(try refine Qs ?_)) | refine Qo ?_ | refine Qp ?_));refine Er ?_;refine Qs ?_;refine FnK.to (Cmp.look hC hH (hQ4 _ (by omega)) (hQ4 _ (by omega))) ?_;rintro v w4 ⟨hH2,rfl⟩;(try refine Qs ?_);clear hH;apply hK;clear hK;refine Vi (fun h=>?_) (fun h=>?_)
     ·
      simp at h;rw [Ql5 (by omega) (by simp [ltOf];omega)] at hsu;refine Ax rfl ?_;refine An ?_;refine VS [0,1,2,3,9,10] ?_;refine Ah ?_;refine Qs ?_;exact hnext _ _ hH2 hs4 hQ4 (by rw [if_pos (by omega),hsu])
     simp at h;rw [Qsd (by omega) (by simp [ltOf];omega)] at hsu;refine Ad ?_;refine Vb [0,1,2,3,9,10,12] [(0,0),(1,0),(2,0),(3,0),(4,0),(5,0),(6,0),(7,0),(8,0),(10,0),(11,0),(12,0),(9,1),(13,1),(14,0),(15,2),(16,0),(17,2)] fun K hK=>?_;(repeat (first | (refine ⟨_,B7 (hH2.at 0 rfl) (by omega),?_⟩;(try refine Qs ?_)) | refine Qo ?_ | refine Qp ?_));refine Ag ?_;refine Qs ?_;refine C7 hH2 0 (o:=(j)) rfl (by first | rfl | (simp;done) | (congr 1;omega)) (by first | omega | (simp;omega)) fun w6 hS1=>?_;simp only [Yb] at hS1;(try refine Qs ?_);(repeat (first | (refine ⟨_,B7 (hH2.at 0 rfl) (by omega),?_⟩;(try refine Qs ?_)) | refine Qo ?_ | refine Qp ?_));refine Ag ?_;refine Qs ?_;refine C7 hS1 0 (o:=(j - 1)) rfl (by first | rfl | (simp;done) | (congr 1;omega)) (by first | omega | (simp;omega)) fun w6 hS2=>?_;simp only [Yb] at hS2;(try refine Qs ?_);have hS3:Heap w0 B w6 (A0 g cap (swp d4 j (j - 1))::R::G):=hS2;apply hK;clear hK;refine An ?_;refine VS [0,1,2,3,9,10,12] ?_;refine Ah ?_;refine Qs ?_;exact ⟨b - (j+1),by omega,j+1,_,rfl,hS3,by rw [Kl,hs4],hQ4.swp (by omega) (by omega),by omega,by omega,hsu,rfl⟩
    rw [Qos (by omega)] at hsu;refine Ax rfl ?_;refine An ?_;refine VS [0,1,2,3,9,10] ?_;refine Ah ?_;refine Qs ?_;exact hnext _ _ hH hs4 hQ4 (by rw [if_pos (by omega),hsu])
   refine Ad ?_;refine An ?_;refine VS [0,1,2,3,9,10] ?_;refine Ah ?_;refine Qs ?_;exact hnext _ _ hH hs3 hQ3 (by rw [if_neg (by omega)])
  refine ⟨fun hg=>?_,fun hg=>?_⟩
  ·
   (repeat (first | (refine ⟨_,B7 (hH.at 0 rfl) (by omega),?_⟩;(try refine Qs ?_)) | refine Qo ?_ | refine Qp ?_));refine Er ?_;refine Qs ?_;refine FnK.to (Cmp.look hC hH (hQ1 _ (by omega)) (hQ1 _ (by omega))) ?_;rintro v w4 ⟨hH2,rfl⟩;(try refine Qs ?_);refine hall _ _ ?_ hH2;simp [ltOf,show i < b by omega]
  refine hall _ _ ?_ hH;simp [show ¬ i < b by omega]
 obtain rfl:q=5:=by omega
 refine Ax rfl ?_;refine VS [8] ?_;exact Ae (Al rfl rfl ⟨d1,false,hpi,hs1,hQ1,hH,rfl⟩)
open Go Go.Eng
open Go.Sort (swp insertionSort heapSort breakPatterns choosePivot Hint reverseRange partialInsertionSort partitionEqual partition pdq bitsLen)
def QLo (lt:Int->Int->Bool) (d3:Array Int) (a b limit:Nat) (wb wp:Bool) (pivot:Nat):Array Int :=
 if a > 0 && ! lt d3[a - 1]! d3[pivot]! then
  match partitionEqual lt d3 a b pivot with
  | (mid,d4)=>if _h:a < mid/\mid<=b then pdq lt d4 mid b limit wb wp else d4
 else
  match partition lt d3 a b pivot with
  | (mid,al,d4) =>
   if _h:a<=mid/\mid < b then
    if mid - a < b - mid then pdq lt (pdq lt d4 a mid limit true true) (mid+1) b limit (decide (mid - a ≥ (b - a) / 8)) al
    else pdq lt (pdq lt d4 (mid+1) b limit true true) a mid limit (decide (b - mid ≥ (b - a) / 8)) al
   else d4
def QLp (lt:Int->Int->Bool) (d2:Array Int) (a b limit:Nat) (wb wp:Bool) (pivot:Nat) (hint:Hint):Array Int :=
 if (if wb && wp && hint=.increasing then partialInsertionSort lt d2 a b else (d2,false)).2 then (if wb && wp && hint=.increasing then partialInsertionSort lt d2 a b else (d2,false)).1
 else QLo lt (if wb && wp && hint=.increasing then partialInsertionSort lt d2 a b else (d2,false)).1 a b limit wb wp pivot
def QLq (lt:Int->Int->Bool) (d1:Array Int) (a b limit:Nat) (wb wp:Bool) (c:Nat×Hint):Array Int :=
 QLp lt (if c.2=.decreasing then reverseRange d1 a b else d1) a b limit wb wp (if c.2=.decreasing then (b - 1) - (c.1 - a) else c.1) (if c.2=.decreasing then Hint.increasing else c.2)
theorem QFk {lt:Int->Int->Bool}{d:Array Int}{a b limit:Nat}{wb wp:Bool} (h:b - a<=12):pdq lt d a b limit wb wp=insertionSort lt d a b:=by rw [pdq,if_pos h]
theorem Qzw {lt:Int->Int->Bool}{d:Array Int}{a b limit:Nat}{wb wp:Bool} (h:¬ b - a<=12) (hl:limit=0):pdq lt d a b limit wb wp=heapSort lt d a b:=by rw [pdq,if_neg h,if_pos hl]
theorem Qzx {lt:Int->Int->Bool}{d:Array Int}{a b limit:Nat}{wb wp:Bool} (h:¬ b - a<=12) (hl:¬ limit=0) :
  pdq lt d a b limit wb wp=QLq lt (if ! wb then breakPatterns d a b else d) a b (if ! wb then limit - 1 else limit) wb wp (choosePivot lt (if ! wb then breakPatterns d a b else d) a b):=by
 conv=>lhs;rw [pdq]
 rw [if_neg h,if_neg hl];rfl
set_option maxHeartbeats 4000000 in
theorem Ql6 {cmp:Value}{cf:Int->Int->Int}{Q:Int->Prop}{R:Res} (hC:Cmp cmp cf Q R) (g cap:Nat):∀ (n a b limit:Nat) (d:Array Int) (hn:b - a < n) (hab:a<=b) (hb:b<=d.size) (hl:limit<=100) (hd:d.size<=100000000000) (hQ:AllQ Q d) (w0 w:World) (B:LN) (G:List Res)
  (hL:Heap w0 B w (A0 g cap d::R::G)),Does Yf 228 #[sl g cap d,.int .i64 a,.int .i64 b,.int .i64 limit,cmp] w
   fun v w'=>∃ d',d'=pdq (ltOf cf) d a b limit true true/\d'.size=d.size/\AllQ Q d'/\Heap w0 B w' (A0 g cap d'::R::G)/\v=.tuple #[]:=by
 intro n
 induction n with
 | zero=>intro a b limit d hn;omega
 | succ n ih =>
 intro a b limit d hn hab hb hl hd hQ w0 w B G hL;refine En [sl g cap d,.int .i64 a,.int .i64 b,.int .i64 limit,cmp] 148 Tryz.func228 ?_;refine Aj [0,1,2,3,4,10] fun K hK=>?_;apply hK;clear hK;refine Aj [0,1,2,3,4,10,11] fun K hK=>?_;apply hK;clear hK;refine Aq ?_;refine Ay [0,1,2,3,4,10,11] (fun m e w'=>∃ (x y l:Nat) (wb wp:Bool) (d':Array Int),Is e [(0,sl g cap d),(1,.int .i64 x),(2,.int .i64 y),(3,.int .i64 l),(4,cmp),(10,.bool wb),(11,.bool wp)]/\Heap w0 B w' (A0 g cap d'::R::G)/\d'.size=d.size/\AllQ Q d'/\a<=x/\x<=y/\y<=b/\l<=100/\pdq (ltOf cf) d' x y l wb wp=pdq (ltOf cf) d a b limit true true/\m=y - x) (b - a) ?_ ?_
 ·
  refine Qi ?_;exact ⟨a,b,limit,true,true,d,rfl,hL,rfl,hQ,by omega,by omega,by omega,by omega,rfl,rfl⟩
 rintro m e w1 ⟨x,y,l,wb,wp,d1,rfl,hH,hs1,hQ1,hx,hxy,hy,hl1,hp,hm⟩;refine Aq ?_;refine Aj [0,1,2,3,4,10,11,12] fun K hK=>?_;(repeat refine Qo ?_);apply hK;clear hK;rw [show ((y:Int) - x)=((y - x:Nat):Int) by omega];refine Aj [0,1,2,3,4,10,11,12,25] fun K hK=>?_;apply hK;clear hK;refine VD (fun h=>?_) (fun h=>?_)
 ·
  rw [QFk (by omega)] at hp;refine Aj [] fun K hK=>?_;have hc:=Qbx hC g cap x y d1 (by omega) (by omega) (by omega) hQ1 w0 w1 B G hH;rw [sl,hs1] at hc;refine Aa Tryz.call243 ?_;refine Qi ?_;refine Yc hc ?_;rintro v w2 ⟨d2,hd2,hs2,hQ2,hH2,rfl⟩;apply hK;clear hK;refine Ae (Ly rfl ?_);exact ⟨d2,by rw [hd2,hp],by omega,hQ2,hH2,rfl⟩
 have h12:¬ y - x<=12:=by omega
 refine Ad ?_;refine Aj [0,1,2,3,4,10,11,12,32] fun K hK=>?_;apply hK;clear hK;refine VD (fun h=>?_) (fun h=>?_)
 ·
  rw [Qzw (by omega) (by omega)] at hp;refine Aj [] fun K hK=>?_;have hc:=Qjr hC g cap x y d1 (by omega) (by omega) (by omega) hQ1 w0 w1 B G hH;rw [sl,hs1] at hc;refine Aa Tryz.call244 ?_;refine Qi ?_;refine Yc hc ?_;rintro v w2 ⟨d2,hd2,hs2,hQ2,hH2,rfl⟩;apply hK;clear hK;refine Ae (Ly rfl ?_);exact ⟨d2,by rw [hd2,hp],by omega,hQ2,hH2,rfl⟩
 have hl0:¬ l=0:=by omega
 rw [Qzx h12 hl0] at hp;clear h;refine Ad ?_;refine Aj [0,1,2,3,4,10,11,12,39] fun K hK=>?_;apply hK;clear hK;refine Do [0,1,2,3,4,10,11,12] (fun e w'=>∃ (l':Nat) (d':Array Int),Is e [(0,sl g cap d),(1,.int .i64 x),(2,.int .i64 y),(3,.int .i64 l'),(4,cmp),(10,.bool wb),(11,.bool wp),(12,.int .i64 (y - x:Nat))]/\Heap w0 B w' (A0 g cap d'::R::G)/\d'.size=d.size/\AllQ Q d'/\l'<=100/\QLq (ltOf cf) d' x y l' wb wp (choosePivot (ltOf cf) d' x y)=pdq (ltOf cf) d a b limit true true) ?_ ?_
 ·
  refine Ai rfl rfl (fun h=>?_) (fun h=>?_)
  ·
   simp at h;subst h;refine Aj [0,1,2,3,4,10,11,12] fun K hK=>?_;have hc:=Qby (cmp:=cmp) (R:=R) (Q:=Q) g cap x y d1 (by omega) (by omega) (by omega) hQ1 w0 w1 B G hH;rw [sl,hs1] at hc;refine Aa Tryz.call245 ?_;refine Qi ?_;refine Yc hc ?_;rintro v w2 ⟨d2,hd2,hs2,hQ2,hH2,rfl⟩;apply hK;clear hK;refine Aj [0,1,2,3,4,10,11,12] fun K hK=>?_;(repeat refine Qo ?_);apply hK;clear hK;refine Ah ?_;refine Qi ?_;refine ⟨l - 1,d2,by rw [show ((l:Int) - 1)=((l - 1:Nat):Int) by omega];rfl,hH2,by omega,hQ2,by omega,?_⟩;rw [<- hp,hd2];rfl
  simp at h;subst h;refine Ad ?_;refine Ah ?_;refine Qi ?_;exact ⟨l,d1,rfl,hH,hs1,hQ1,hl1,hp⟩
 clear hp hH hQ1 hs1 hl0 hl1;rintro e w2 ⟨l1,d2,rfl,hH,hs1,hQ1,hl1,hp⟩;refine Aj [0,1,2,3,4,10,11,12,13,14] fun K hK=>?_;have hc:=Qdv hC g cap x y d2 (by omega) (by omega) (by omega) hQ1 w0 w2 B G hH;rw [sl,hs1] at hc;refine Aa Tryz.call246 ?_;refine Qi ?_;refine Yc hc ?_;rintro v w3 ⟨p,hint,hch,hpr,hH3,rfl⟩;clear hH hc;rw [<- hch,QLq] at hp;clear hch
 dsimp only at hp
 apply hK;clear hK;simp only [X0,Xu,Xv];refine Aj [0,1,2,3,4,10,11,12,13,14,56] fun K hK=>?_;apply hK;clear hK;refine Do [0,1,2,3,4,10,11,12,13,14] (fun e w'=>∃ (p':Nat) (h':Hint) (d':Array Int),Is e [(0,sl g cap d),(1,.int .i64 x),(2,.int .i64 y),(3,.int .i64 l1),(4,cmp),(10,.bool wb),(11,.bool wp),(12,.int .i64 (y - x:Nat)),(13,.int .i64 p'),(14,.int .i64 (Wk h'))]/\Heap w0 B w' (A0 g cap d'::R::G)/\d'.size=d.size/\AllQ Q d'/\(x<=p'/\p' < y)/\QLp (ltOf cf) d' x y l1 wb wp p' h'=pdq (ltOf cf) d a b limit true true) ?_ ?_
 ·
  refine Ai rfl rfl (fun h=>?_) (fun h=>?_)
  ·
   have hh:hint=.decreasing:=by cases hint <;> simp [Wk] at h ⊢
   subst hh;simp only [if_true] at hp;refine Aj [0,1,2,3,4,10,11,12,13] fun K hK=>?_;have hc:=Qcs (cmp:=cmp) (R:=R) (Q:=Q) g cap x y d2 (by omega) (by omega) (by omega) hQ1 w0 w3 B G hH3;rw [sl,hs1] at hc;refine Aa Tryz.call247 ?_;refine Qi ?_;refine Yc hc ?_;rintro v w4 ⟨d3,hd3,hs3,hQ3,hH4,rfl⟩;apply hK;clear hK;refine Aj [0,1,2,3,4,10,11,12,13] fun K hK=>?_;(repeat refine Qo ?_);apply hK;clear hK;refine Aj [0,1,2,3,4,10,11,12,13,14] fun K hK=>?_;apply hK;clear hK;refine Ah ?_;refine Qi ?_;exact ⟨y - 1 - (p - x),.increasing,d3,by rw [show ((y:Int) - 1 - (p - x))=((y - 1 - (p - x):Nat):Int) by omega];rfl,hH4,by omega,hQ3,by omega,by rw [hd3];exact hp⟩
  have hh:hint≠.decreasing:=by rintro rfl;simp [Wk] at h
  simp only [if_neg hh] at hp;refine Ad ?_;refine Ah ?_;refine Qi ?_;exact ⟨p,hint,d2,rfl,hH3,hs1,hQ1,hpr,hp⟩
 clear hp hH3 hQ1 hs1 hpr;rintro e w4 ⟨p,hint,d2,rfl,hH,hs1,hQ1,hpr,hp⟩;refine Aj [0,1,2,3,4,10,11,12,13,75] fun K hK=>?_
 suffices hall:∀ bb:Bool,bb=(wb && wp && decide (hint=.increasing))->K [(0,sl g cap d),(1,.int .i64 x),(2,.int .i64 y),(3,.int .i64 l1),(4,cmp),(10,.bool wb),(11,.bool wp),(12,.int .i64 (y - x:Nat)),(13,.int .i64 p),(75,.bool bb)] w4 by
  have hd:decide (Wk hint=1)=decide (hint=.increasing):=by cases hint <;> rfl
  rw [hd]
  revert hall
  clear hK hp;cases wb <;> cases wp <;> intro hall <;> simpa [gB] using hall _ rfl
 intro bb hbb;apply hK;clear hK;rw [QLp,show (wb && wp && decide (hint=.increasing))=bb from hbb.symm] at hp;clear hbb;refine Do [0,1,2,3,4,10,11,12,13] (fun e w'=>∃ (d':Array Int),Is e [(0,sl g cap d),(1,.int .i64 x),(2,.int .i64 y),(3,.int .i64 l1),(4,cmp),(10,.bool wb),(11,.bool wp),(12,.int .i64 (y - x:Nat)),(13,.int .i64 p)]/\Heap w0 B w' (A0 g cap d'::R::G)/\d'.size=d.size/\AllQ Q d'/\QLo (ltOf cf) d' x y l1 wb wp p=pdq (ltOf cf) d a b limit true true) ?_ ?_
 ·
  refine Ai rfl rfl (fun h=>?_) (fun h=>?_)
  ·
   subst h;simp only [if_true] at hp;refine Aj [0,1,2,3,4,10,11,12,13,80] fun K hK=>?_;have hc:=Qag hC g cap x y d2 (by omega) (by omega) (by omega) hQ1 w0 w4 B G hH;rw [sl,hs1] at hc;refine Aa Tryz.call248 ?_;refine Qi ?_;refine Yc hc ?_;rintro v w5 ⟨d3,ok,hd3,hs3,hQ3,hH5,rfl⟩;rw [<- hd3] at hp
   dsimp only at hp
   apply hK;clear hK;refine Ai rfl rfl (fun h=>?_) (fun h=>?_)
   ·
    subst h;rw [if_pos rfl] at hp;exact Ae (Ly rfl ⟨d3,hp,by omega,hQ3,hH5,rfl⟩)
   subst h;rw [if_neg (by simp)] at hp;refine Ad ?_;refine Ah ?_;refine Qi ?_;exact ⟨d3,rfl,hH5,by omega,hQ3,hp⟩
  subst h;simp only [Xp,if_false] at hp;refine Ad ?_;refine Ah ?_;refine Qi ?_;exact ⟨d2,rfl,hH,hs1,hQ1,hp⟩
 clear hp hH hQ1 hs1;rintro e w5 ⟨d3,rfl,hH,hs1,hQ1,hp⟩;rw [QLo] at hp;(repeat refine Aw ?_);refine T6 [0,1,2,3,4,10,11,12,13,97] 13 (by kernel_rfl) (by kernel_rfl) (by kernel_rfl) rfl fun K hK=>?_;refine Qi ?_
 have hall:∀ bb:Bool,∀ w4,bb=(decide (x > 0) && ! ltOf cf d3[x - 1]! d3[p]!)->Heap w0 B w4 (A0 g cap d3::R::G)->K [(0,sl g cap d),(1,.int .i64 x),(2,.int .i64 y),(3,.int .i64 l1),(4,cmp),(10,.bool wb),(11,.bool wp),(12,.int .i64 (y - x:Nat)),(13,.int .i64 p),(97,.bool bb)] w4:=by
  clear hH;intro bb w4 hbb hH;rw [<- hbb] at hp;apply hK;clear hK;refine Ai rfl rfl (fun h=>?_) (fun h=>?_)
  ·
   subst h;rw [if_pos rfl] at hp;refine Aj [0,2,3,4,10,11,15] fun K hK=>?_;have hc:=Qbi hC g cap x y p d3 (by omega) (by omega) hpr (by omega) hQ1 w0 w4 B G hH;rw [sl,hs1] at hc;refine Aa Tryz.call249 ?_;refine Qi ?_;refine Yc hc ?_;rintro v w5 ⟨mid,d4,hd4,hmid,hs4,hQ4,hH5,rfl⟩;rw [<- hd4] at hp
   dsimp only at hp
   rw [dif_pos hmid] at hp;apply hK;clear hK;refine Aj [0,1,2,3,4,10,11] fun K hK=>?_;apply hK;clear hK;refine Ax rfl ?_;refine Ah ?_;refine Qi ?_;exact ⟨y - mid,by omega,mid,y,l1,wb,wp,d4,rfl,hH5,by omega,hQ4,by omega,by omega,by omega,hl1,hp,rfl⟩
  subst h;rw [if_neg (by simp)] at hp;refine Ad ?_;refine Aj [0,1,2,3,4,12,16,17] fun K hK=>?_;have hc:=Qgp hC g cap x y p d3 (by omega) (by omega) hpr (by omega) hQ1 w0 w4 B G hH;rw [sl,hs1] at hc;refine Aa Tryz.call250 ?_;refine Qi ?_;refine Yc hc ?_;rintro v w5 ⟨mid,al,d4,hd4,hmid,hs4,hQ4,hH5,rfl⟩;rw [<- hd4] at hp
  dsimp only at hp
  rw [dif_pos hmid] at hp;apply hK;clear hK;simp only [X0,Xu,Xv];refine Aj [0,1,2,3,4,11,12,16] fun K hK=>?_;apply hK;clear hK;refine Aj [0,1,2,3,4,11,12,16,18,19] fun K hK=>?_;(repeat refine Qo ?_);apply hK;clear hK;rw [show ((mid:Int) - x)=((mid - x:Nat):Int) by omega,show ((y:Int) - mid)=((y - mid:Nat):Int) by omega];refine Aj [0,1,2,3,4,11,16,18,19,20] fun K hK=>?_;(repeat refine Qo ?_);apply hK;clear hK;refine Aj [0,1,2,3,4,11,16,18,19,20,125] fun K hK=>?_;apply hK;clear hK;refine VD (fun h=>?_) (fun h=>?_)
  ·
   rw [if_pos (by omega)] at hp;refine Aj [0,1,2,3,4,10,11,16] fun K hK=>?_;apply hK;clear hK;refine Aj [0,2,3,4,10,11,16] fun K hK=>?_;have hc:=ih x mid l1 d4 (by omega) (by omega) (by omega) hl1 (by omega) hQ4 w0 w5 B G hH5;rw [sl,show d4.size=d.size by omega] at hc;refine Aa U0 ?_;refine Qi ?_;refine Yc hc ?_;rintro v w6 ⟨d5,hd5,hs5,hQ5,hH6,rfl⟩;rw [<- hd5] at hp;apply hK;clear hK;refine Aj [0,1,2,3,4,10,11] fun K hK=>?_;(repeat refine Qo ?_);apply hK;clear hK;refine An ?_;refine Ah ?_;refine Qi ?_;refine ⟨y - (mid+1),by omega,mid+1,y,l1,decide (mid - x ≥ (y - x) / 8),al,d5,?_,hH6,by omega,hQ5,by omega,by omega,by omega,hl1,hp,rfl⟩;rw [show decide (mid - x ≥ (y - x) / 8)=decide (((y - x:Nat):Int) / 8<=((mid - x:Nat):Int)) from decide_eq_decide.2 (by omega)];rfl
  rw [if_neg (by omega)] at hp;refine Aj [0,1,2,3,4,10,11,16] fun K hK=>?_;apply hK;clear hK;refine Aj [0,1,3,4,10,11,16] fun K hK=>?_;refine And.intro (X1 (by omega) (by omega)) ?_;have hc:=ih (mid+1) y l1 d4 (by omega) (by omega) (by omega) hl1 (by omega) hQ4 w0 w5 B G hH5;rw [sl,show d4.size=d.size by omega,show ((mid+1:Nat):Int)=(mid:Int)+1 by omega] at hc;refine Aa U0 ?_;refine Qi ?_;refine Yc hc ?_;rintro v w6 ⟨d5,hd5,hs5,hQ5,hH6,rfl⟩;rw [<- hd5] at hp;apply hK;clear hK;refine Aj [0,1,2,3,4,10,11] fun K hK=>?_;apply hK;clear hK;refine An ?_;refine Ah ?_;refine Qi ?_;refine ⟨mid - x,by omega,x,mid,l1,decide (y - mid ≥ (y - x) / 8),al,d5,?_,hH6,by omega,hQ5,by omega,by omega,by omega,hl1,hp,rfl⟩;rw [show decide (y - mid ≥ (y - x) / 8)=decide (((y - x:Nat):Int) / 8<=((y - mid:Nat):Int)) from decide_eq_decide.2 (by omega)];rfl
 refine ⟨fun hg=>?_,fun hg=>?_⟩
 ·
  (repeat (first | (refine ⟨_,B7 (hH.at 0 rfl) (by omega),?_⟩;(try refine Qi ?_)) | refine Qo ?_ | refine ⟨⟨by omega,by omega⟩,?_⟩));refine Er ?_;refine Qi ?_;refine FnK.to (Cmp.look hC hH (hQ1 _ (by omega)) (hQ1 _ (by omega))) ?_;rintro v w4 ⟨hH2,rfl⟩;(try refine Qi ?_);refine hall _ _ ?_ hH2;simp [ltOf,show 0 < x by omega]
 refine hall _ _ ?_ hH;simp [show ¬ 0 < x by omega]
open Go Go.Eng
open Go.Sort (pdq bitsLen SWO)
def QAw (lt:Int->Int->Bool) (l l':List Int):Prop:=l'.Perm l/\l'.Pairwise fun x y=>lt y x=false
theorem Qad {d:Array Int}{i:Nat} (h:i < d.size):d[i]! = d.toList[i]'(by simpa using h):=by
 simp [getElem!_def,h]
theorem QFl {lt:Int->Int->Bool} (hS:SWO lt) (d:Array Int) (limit:Nat):QAw lt d.toList (pdq lt d 0 d.size limit true true).toList:=by
 obtain ⟨⟨h1,h2,h3⟩,h4⟩:=Sort.pdq_sorts lt hS d 0 d.size limit true true (by omega) (by omega) (.inl rfl);generalize pdq lt d 0 d.size limit true true=d' at *;refine ⟨?_,?_⟩
 ·
  have e1:d'.extract 0 d.size=d':=by rw [<- h1];simp
  have e2:d.extract 0 d.size=d:=by simp
  rw [e1,e2] at h3;exact h3
 rw [List.pairwise_iff_getElem];intro i j hi hj hij;have:=h4 i j (by omega) hij (by simpa [h1] using hj)
 rwa [Qad (by simpa using hj),Qad (by simpa using hi)] at this
theorem Qbt {cmp:Value}{cf:Int->Int->Int}{Q:Int->Prop}{R:Res} (hC:Cmp cmp cf Q R) (hS:SWO (ltOf cf)) (g cap:Nat) (d:Array Int) (hd:d.size<=100000000000) (hQ:AllQ Q d) (w0 w:World) (B:LN) (G:List Res)
  (hL:Heap w0 B w (A0 g cap d::R::G)):Does Yf 208 #[sl g cap d,cmp] w
   fun v w'=>∃ d',QAw (ltOf cf) d.toList d'.toList/\d'.size=d.size/\AllQ Q d'/\Heap w0 B w' (A0 g cap d'::R::G)/\v=.tuple #[]:=by
 refine En [sl g cap d,cmp] 14 Tryz.func208 ?_;refine VS [0,1,4] ?_;refine VQ [] fun K hK=>?_;rw [Y5 (by omega) (by omega)];refine Aa Tryz.call82 ?_;refine Qs ?_;refine Yc (Qhy d.size (by omega) w) ?_;rintro v w2 ⟨rfl,rfl⟩;have hb40:bitsLen d.size<=40:=Si (by omega);refine Aa U0 ?_;refine Qs ?_;refine Yc (Ql6 hC g cap (d.size+1) 0 d.size (bitsLen d.size) d (by omega) (by omega) (by omega) (by omega) hd hQ w0 w2 B G hL) ?_;rintro v w3 ⟨d',hd',hs,hQ',hH,rfl⟩;apply hK;clear hK;exact S4 (Ly rfl ⟨d',by rw [hd'];exact QFl hS d _,hs,hQ',hH,rfl⟩)
open Go Go.Eng
abbrev Ro (a:Addr) (n cap:Nat) (by_:Nat):Value:=.agg #[.slice (some a) n cap,.int .i64 by_]
theorem Qdn (rk:List Int) (a:Addr) (cap by_ i:Nat) (hn:rk.length<=1000000000) (hby:by_<=10000000000) (hi:i < rk.length) (w:World) (hr:RS w (some a) rk.length 1 (Br rk)) :
  Does Yf 207 #[Ro a rk.length cap by_,.int .i64 i] w fun v w'=>Heap w [] w' []/\v=.tuple #[.int .i64 (rk.getD i 0),.int .i64 (rk.getD ((i+by_) % rk.length) 0)]:=by
 refine En [Ro a rk.length cap by_,.int .i64 i] 23 Tryz.func207 ?_;refine VQ [1,2] fun K hK=>?_;refine Dl ?_;refine Qs ?_;have hH:=(Ym w).box 293 [.slice (some a) rk.length cap,.int .i64 by_];generalize w.alloc (Yo [Value.slice (some a) rk.length cap,.int .i64 by_].toArray 293)=w1 at *;generalize w.heap.size=g at *;have hr1:=hH.rs' hr;apply hK;clear hK;refine Vq [4,5] fun K hK=>?_;(repeat first | refine Qo ?_ | refine Qp ?_ | (refine Gc hH ?_;(try refine Qs ?_)));refine ⟨_,Qm6 hr1 hi,?_⟩;(repeat first | refine Qo ?_ | refine Qp ?_ | (refine Gc hH ?_;(try refine Qs ?_)));have hm:(i+by_) % rk.length < rk.length:=Nat.mod_lt _ (by omega);rw [show ((i:Int)+by_) % rk.length=(((i+by_) % rk.length:Nat):Int) by push_cast;rfl];generalize (i+by_) % rk.length=j at *;refine And.intro (by omega) ⟨_,Qm6 hr1 (i:=j) hm,?_⟩;apply hK;clear hK;refine Ae (Bp rfl rfl rfl ?_);exact ⟨hH.sub (by simp),rfl⟩
def Ij (rk:List Int) (x:Int):Int:=rk.getD x.toNat 0
def Kd (rk:List Int) (by_:Nat) (x:Int):Int:=rk.getD ((x.toNat+by_) % rk.length) 0
def K7 (rk:List Int) (by_:Nat) (x y:Int):Int :=
 if Ij rk x≠Ij rk y then Ij rk x - Ij rk y else if Kd rk by_ x≠Kd rk by_ y then Kd rk by_ x - Kd rk by_ y else x - y
def W0 (rk:List Int) (x:Int):Prop:=0<=x/\x < rk.length
def Oy (rk:List Int):Prop:=∀ r∈rk,0<=r/\r<=1000000000
theorem Pp {rk:List Int} (h:Oy rk) (i:Nat):0<=rk.getD i 0/\rk.getD i 0<=1000000000:=by
 by_cases hi:i < rk.length
 ·
  rw [Yi,Ye hi];exact h _ (List.getElem_mem hi)
 rw [Yi,List.getElem?_eq_none (by omega)];simp
theorem Qzy {rk:List Int} (h:Oy rk) (hn:rk.length<=1000000000) (by_:Nat) (x y:Int) (hx:W0 rk x) (hy:W0 rk y):-1000000000<=K7 rk by_ x y/\K7 rk by_ x y<=1000000000:=by
 obtain ⟨h1,h2⟩:=hx;obtain ⟨h3,h4⟩:=hy;unfold K7 Ij Kd;have a1:=Pp h x.toNat;have a2:=Pp h y.toNat;have a3:=Pp h ((x.toNat+by_) % rk.length);have a4:=Pp h ((y.toNat+by_) % rk.length);split
 ·
  omega
 split <;> omega
theorem Ql7 (rk:List Int) (hrk:Oy rk) (a:Addr) (cap by_ i j:Nat) (hn:rk.length<=1000000000) (hby:by_<=10000000000) (hi:i < rk.length) (hj:j < rk.length) (w:World) (hr:RS w (some a) rk.length 1 (Br rk)) :
  Does Yf 209 #[Ro a rk.length cap by_,.int .i64 i,.int .i64 j] w fun v w'=>Heap w [] w' []/\v=.int .i64 (K7 rk by_ i j):=by
 have a1:=Pp hrk i;have a2:=Pp hrk j;have a3:=Pp hrk ((i+by_) % rk.length);have a4:=Pp hrk ((j+by_) % rk.length)
 have hcm:K7 rk by_ i j=if rk.getD i 0≠rk.getD j 0 then rk.getD i 0 - rk.getD j 0 else if rk.getD ((i+by_) % rk.length) 0≠rk.getD ((j+by_) % rk.length) 0 then rk.getD ((i+by_) % rk.length) 0 - rk.getD ((j+by_) % rk.length) 0 else (i:Int) - j:=by
  simp only [K7,Ij,Kd,Y4];rfl
 have hk1:=fun w hr=>Qdn rk a cap by_ i hn hby hi w hr;have hk2:=fun w hr=>Qdn rk a cap by_ j hn hby hj w hr;generalize rk.getD i 0=ka at *;generalize rk.getD j 0=kb at *;generalize rk.getD ((i+by_) % rk.length) 0=kc at *;generalize rk.getD ((j+by_) % rk.length) 0=kd at *;rw [hcm];clear hcm;refine En [Ro a rk.length cap by_,.int .i64 i,.int .i64 j] 40 Tryz.func209 ?_;refine VQ [1,2,3] fun K hK=>?_;refine Dl ?_;refine Qs ?_;have hH:=(Ym w).box 293 [.slice (some a) rk.length cap,.int .i64 by_];generalize w.alloc (Yo [Value.slice (some a) rk.length cap,.int .i64 by_].toArray 293)=w1 at *;generalize w.heap.size=g at *;have hr1:=hH.rs' hr;apply hK;clear hK;refine VQ [1,2,3,7,8] fun K hK=>?_;refine ⟨[.slice (some a) rk.length cap,.int .i64 by_],⟨rfl,Bu (hH.at 0 rfl)⟩,?_⟩;refine Aa Tryz.call207 ?_;refine Qs ?_;refine Yc (hk1 w1 hr1) ?_;rintro v w2 ⟨hH2,rfl⟩;have hH3:=hH.call0 hH2;simp only [Ya] at hH3;have hr2:=hH3.rs' hr;apply hK;clear hK;refine VQ [1,2,7,8,9,10] fun K hK=>?_;refine ⟨[.slice (some a) rk.length cap,.int .i64 by_],⟨rfl,Bu (hH3.at 0 rfl)⟩,?_⟩;refine Aa Tryz.call207 ?_;refine Qs ?_;refine Yc (hk2 w2 hr2) ?_;rintro v w3 ⟨hH4,rfl⟩;have hH5:=hH3.call0 hH4;simp only [Ya] at hH5;have hH6:Heap w [] w3 []:=hH5.sub (by simp);apply hK;clear hK;refine VB ?_
 try simp only [X0,Xu,Xv]
 refine VS [1,2,7,8,9,10,23] ?_;refine VD (fun h=>?_) (fun h=>?_)
 ·
  refine VS [6] ?_;exact Ae (Al rfl rfl ⟨hH6,by rw [if_pos h]⟩)
 rw [if_neg h];refine VS [1,2,8,10,30] ?_;refine VD (fun h=>?_) (fun h=>?_)
 ·
  refine VS [6] ?_;exact Ae (Al rfl rfl ⟨hH6,by rw [if_pos h]⟩)
 rw [if_neg h];refine Ad ?_;refine An ?_;refine VS [6] ?_;exact Ae (Al rfl rfl ⟨hH6,rfl⟩)
theorem Qpz (rk:List Int) (hrk:Oy rk) (gr:Nat) (cap by_:Nat) (hn:rk.length<=1000000000) (hby:by_<=10000000000) :
  Cmp (.func (.func 209) #[Ro ⟨gr,0,none⟩ rk.length cap by_] #[]) (K7 rk by_) (W0 rk) (Yr 3 1 (some ⟨gr,0,none⟩) rk.length cap (Br rk)) where
 i64:=fun x y hx hy=>by have:=Qzy hrk hn by_ x y hx hy;omega
 run:=fun w x y hR hx hy=>by
  obtain ⟨i,rfl⟩:∃ i:Nat,x=i:=⟨x.toNat,by have:=hx.1;omega⟩;obtain ⟨j,rfl⟩:∃ j:Nat,y=j:=⟨y.toNat,by have:=hy.1;omega⟩;exact FnK.mk Tryz.call209 (Ql7 rk hrk ⟨gr,0,none⟩ cap by_ i j hn hby (by have:=hx.2;omega) (by have:=hy.2;omega) w (As hR)) fun v w' h=>h
theorem Rd (rk:List Int) (by_:Nat) (x y:Int):K7 rk by_ x y < 0 ↔ Ij rk x < Ij rk y∨(Ij rk x=Ij rk y/\(Kd rk by_ x < Kd rk by_ y∨(Kd rk by_ x=Kd rk by_ y/\x < y))):=by
 unfold K7;split
 ·
  omega
 split <;> omega
theorem Qp0 (rk:List Int) (by_:Nat):Sort.SWO (ltOf (K7 rk by_)):=by
 constructor
 ·
  intro x;simp [ltOf,K7]
 ·
  intro x y z h1 h2;have h3:=Rd rk by_ x y;have h4:=Rd rk by_ y z;have h5:=Rd rk by_ x z;simp only [ltOf] at *;have h1:=of_decide_eq_true h1;have h2:=of_decide_eq_true h2;exact decide_eq_true (by omega)
 intro x y z h1 h2;have h3:=Rd rk by_ x y;have h4:=Rd rk by_ y z;have h5:=Rd rk by_ x z;simp only [ltOf] at *;have h1:=of_decide_eq_false h1;have h2:=of_decide_eq_false h2;exact decide_eq_false (by omega)
end Go.Proofs.YtfinjnahapbemaaGreatDoor
