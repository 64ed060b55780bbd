/- A program logic over the model, and what this program's functions do by it: part 2. No conditions: a library of lemmas. -/
import Derived.Test.YthcdlcdnchaoiaaGreatW1
import Derived.RangeFuncLeaves
import Derived.RangeFuncNested
import Derived.RangeFuncRecord
import Derived.RecoverIn
import Derived.Sort.AssemblyPlain
import Derived.Sort.Defs
import Derived.Sort.LotA
import Derived.TacticsIn
import Derived.Test.YthcdlcdnchaoiaaGreatChecked
open Nat (reduceEqDiff)
set_option linter.unusedSimpArgs false
set_option linter.unusedVariables false
set_option maxRecDepth 100000
open Go.Proofs.Tryz renaming prog->Ya,underlying174->Ym,underlying51->Yo,underlying3->Yt,underlying31->Yv,underlying9->Yy,underlying165->Yz,underlying46->Y3,underlying5->Y7,underlying112->Y9,underlying41->Xd,underlying134->Xh,underlying167->Xi,underlying33->Xk,underlying70->Xl,underlying179->Xu,underlying77->Xx,underlying103->Uf,underlying108->Ug,underlying171->Uh,underlying177->Ui,underlying78->Ul,underlying34->Um,underlying35->Un,underlying68->Uo,underlying80->Up,underlying4->Uu,underlying197->Gt,underlying110->Gu,underlying153->Gv,underlying163->Gw,underlying172->Gx,underlying43->G3,underlying99->G4,call176->G5,call166->G6,call126->G7
open List renaming getD_eq_getElem?_getD->Yb,getElem?_eq_getElem->Yc,set_cons_zero->Yd,replicate->Ye,range->Yg,append_assoc->Yh,append_nil->Yj,getElem?_append_right->Yl,length_append->Yp,getElem?_append_left->Yq,cons_append->Ys,getElem?_eq_none->Yx,getElem_mem->Y0,length_range->Y5,mem_map->Y6,length_cons->Y8,drop_eq_getElem_cons->Xb,pairwise_cons->Xj,take_add_one->Xm,mem_range->Xo,pairwise_iff_getElem->Xr,nil_append->Xs,filter_cons_of_neg->Xw,getElem?_map->Xy,getElem_cons_zero->Xz,getElem_cons_succ->X0,flatMap_cons->X1,take_append_drop->X3,nodup_range->X6,length_take->X7,append->Ua,getElem_toArray->Ub,replicate_zero->Ud,getElem?_eq_some_iff->Uk,length->Ur,mem_cons->Ut,eraseIdx_cons_succ->Uz,eraseIdx_cons_zero->U0,filter_cons_of_pos->U2,ext_getElem->U3,pairwise_lt_range->U5,getElem?_set_self->U6,mem_filter->Gb,range_succ->Gd,length_singleton->Gf,singleton_append->Gh,length_replicate->Gi,getElem?_set_ne->Gm,take_zero->Gn,map_congr_left->Gq,getElem_of_mem->Gr,mergeSort_perm->Gs,getElem_range->Gz,ext_getElem?->G8,map_map->G9,pairwise_map->Ha
open Int renaming toNat_natCast->Yf,emod_eq_of_lt->Y4,toNat->Hd
open Bool renaming and_eq_true->Yi,or_eq_true->Ge,false_eq_true->Gy,eq_false_iff->Hc
open Go.Eng.CallK renaming mk->Yk
open Nat renaming lt_or_ge->Yn,pow_succ->Yr,le_refl->Yu,testBit_eq_decide_div_mod_eq->Yw,mod_eq_of_lt->Y1,mod_two_eq_zero_or_one->Xa,pow_le_pow_right->Xn,mul_comm->Xq,two_pow_pos->Xt,add_sub_cancel->Xv,mod_lt->X5,mul_assoc->X8,pow_add->X9,add_zero->Ue,log2->Uj,pow_pos->Uq,add_mul->Us,log2_self_le->Uw,lt_log2_self->Ux,shiftLeft_eq->Uy,div_div_eq_div_mul->U7,sub_self->U8,succ_mul->U9,le_trans->Ga,le_div_iff_mul_le->Gg,mod_mod->Gl,zero_add->Hb,le_log2->He
open Go.Result renaming andThen_ok->Y2
open Go.Sem renaming run_bind->Xc,run_pure->Xp
open Go.Value renaming oneCell'->Xe,func->X4,int->Uv,cells->Gj
open Option renaming getD_some->Xf,toList_some->G0
open Go.IntKind renaming u64->Xg
open UInt8 renaming toNat_inj->Uc,ofNat->Gk
open Go.Eng.Res renaming row->U4
open Go.Obj renaming cells->Gp
open Go.Eng.I64 renaming mk->Hf
open Go.Eng.Heap renaming start->Hg
namespace Go.Eng
open Go
def Qhb (L:Option Nat):Fence:={ Fence.wide with round:=L }
theorem Qtm {L:Option Nat}{P:Program}{m m':Machine}{e:Ending} (h:Comes P m m' e):ComesIn (Machine.fenced P (Qhb L)) P m m' e:=comesIn_wide.2 h
theorem Qil {L:Option Nat}{n:Nat}{P:Program}{f:FuncId}{args:Array Value}{w:World}{R:Ending->World->Prop} (h:Calls P f args w R):CallsIn (Qhb L) n P f args w R :=
 ⟨trivial,fun cs _=>let ⟨e,w',fr,r,s,x⟩:=h cs;⟨e,w',fr,r,Qtm s,x⟩⟩
theorem Qtn {L:Option Nat}{P:Program}{m m':Machine} (h:Steps P m m'):StepsIn (Machine.fenced P (Qhb L)) P m m':=stepsIn_wide.2 h
theorem Qv3 {L:Option Nat}{n:Nat}{P:Program}{row:String}{args:Array Value}{w:World}{R:Value->World->Prop} (h:Rows P row args w R):RowsIn (Qhb L) n P row args w R :=
 fun c cs _=>let ⟨v,w',r,s⟩:=h c cs;⟨v,w',r,Qtn s⟩
def Qe2 (o:Oper):Bool:=match o.op with | .defer _=>false | _=>true
theorem Qv4 {o:Oper} (h:Qe2 o=true):∀ c,o.op≠.defer c:=by
 intro c hc;simp [Qe2,hc] at h
def _root_.Go.Act.app (a:Act) (D:List Deferred):Act:={ a with defers:=a.defers++D }
theorem Qjm (a:Act) (D:List Deferred) (d:Option Tmp) (v:Value):(a.put d v).app D=(a.app D).put d v:=by cases d <;> rfl
theorem QJu (a:Act) (D:List Deferred):(a.app D).eval=a.eval:=by funext x;cases x <;> rfl
def Qapp (D:List Deferred) (Q:Exit->Act->World->Prop):Exit->Act->World->Prop
 | .normal,a,w=>a.defers=[]/\Q .normal (a.app D) w
 | .panic c,a,w=>Q (.panic c) (a.app D) w
 | _,_,_=>False
theorem QLj {P:Program}{L:Option Nat}{D:List Deferred}{Q:Exit->Act->World->Prop}{o:Oper}{a:Act}{w:World}{next next':Act->World->Prop} (hd:Qe2 o=true)
  (hn:∀ a w,next a w->next' (a.app D) w) (h:o.wp P a w next (Qapp D Q)):o.wpIn (Qhb L) 0 P (a.app D) w next' Q:=by
 refine ⟨fun _ _=>trivial,?_⟩;rw [Oper.semAt_eq _ _ _ (Qv4 hd),QJu];unfold Oper.wp at h;generalize (execOp a.eval o).run P w=r at *;have hdep:(Qhb L).depth.isSome=true->1<=0:=by simp [Qhb,Fence.wide]
 cases r with
 | ok x w' =>
  cases x <;> simp only [Oper.upon,Oper.uponIn] at h ⊢
  case value v=>rw [<- Qjm];exact hn _ _ h
  case skip=>rw [<- Qjm];exact hn _ _ h
  case defer d=>have h2:=hn _ _ h;rw [Qjm] at h2;exact h2
  case enter f args =>
   refine ⟨hdep,Qil (h.mono fun e w'' he=>?_)⟩;cases e with
   | returned v=>have h2:=hn _ _ he;rw [Qjm] at h2;exact h2
   | panicked c=>exact he
   | outgrown=>obtain ⟨_,_,he⟩:=he;exact he.elim
  case row row args=>exact ⟨hdep,Qv3 (h.mono fun v w'' he=>by have h2:=hn _ _ he;rw [Qjm] at h2;exact h2)⟩
 | halt x w'=>cases x <;> simp only [Oper.upon,Oper.uponIn] at h ⊢ <;> exact h
theorem Qv5 {P:Program}{L:Option Nat}{D:List Deferred}{Q:Exit->Act->World->Prop}{ops:Array Oper} (hd:ops.toList.all Qe2=true):∀ (l:List Nat) (a:Act) (w:World),
  wpOps P ops (Qapp D Q) l a w->wpOpsIn (Qhb L) 0 P ops Q l (a.app D) w:=by
 intro l
 induction l with
 | nil=>intro a w h;exact h.2
 | cons i rest ih =>
  intro a w h;simp only [wpOps,wpOpsIn] at h ⊢;cases ho:ops[i]? with
  | none=>simp only [ho] at h ⊢;exact ih _ _ h
  | some o =>
   simp only [ho] at h ⊢
   have hdo:Qe2 o=true:=by
    rw [List.all_eq_true] at hd;exact hd o (by rw [Array.mem_toList_iff];exact Array.mem_of_getElem? ho)
   have ht:(a.app D).tmps=a.tmps:=rfl;rw [ht];split
   ·
    rename_i hw;rw [if_pos hw] at h;rcases h with h | ⟨_,_,_,h⟩
    ·
     exact QLj hdo ih h
    exact h.elim
   rename_i hw;rw [if_neg hw] at h;have h2:=ih _ _ h;rw [Qjm] at h2;exact ⟨fun _ _=>trivial,h2⟩
theorem QDj {P:Program}{L:Option Nat}{D:List Deferred}{Q:Exit->Act->World->Prop}{id:Nat}{l:List Oper}{a:Act}{w:World} (hd:l.all Qe2=true)
  (h:wpList P l.toArray (Qapp D Q) l a w):(Code.region id l.toArray false).wpIn (Qhb L) 0 P Q (a.app D) w:=by
 refine wpIn_region (Qv5 (by simpa using hd) _ a w ?_);rw [List.range_eq_range',<- Array.length_toList,wpOps_eq_wpList l.toArray.toList 0 (by simp)];simpa using h
theorem Qko {P:Program}{L:Option Nat}{D:List Deferred}{Q:Exit->Act->World->Prop}{id:Nat}{ops:Array Oper}{a:Act}{w:World} (hm:P.follows .mixedOrders=true) (hd:ops.toList.all Qe2=true)
  (h:wpAny P .any ops (Qapp D Q) ops.size (Array.replicate ops.size false) a { w with drawn:=w.drawn+1 }):(Code.region id ops true).wpIn (Qhb L) 0 P Q (a.app D) w :=
 wpIn_region_draw fun t=>Qv5 hd _ a _ (by
  simp only [Region.schedule,hm,Bool.true_or,if_true];exact wpAny_sound ops.size t _ a _ h)
structure CtxG where
 P:Program
 N:Nat
 L:Option Nat
 D:List Deferred
 post:Exit->Act->World->Prop
structure FitsG (N:Nat) (D:List Deferred) (e:Env) (a:Act):Prop where
 size:a.tmps.size=N
 defers:a.defers=D
 at_:∀ t v,e.find? t=some v->a.tmps.getD t undef=v
theorem FitsG.bare {N:Nat}{D:List Deferred}{e:Env}{a:Act} (h:FitsG N D e a):Fits N e { a with defers:=[] }:=⟨h.size,rfl,h.at_⟩
theorem FitsG.of {N:Nat}{D:List Deferred}{e:Env}{a:Act} (h:Fits N e a):FitsG N D e (a.app D):=⟨h.size,by simp [Act.app,h.defers],h.at_⟩
theorem FitsG.app {N:Nat}{D:List Deferred}{e:Env}{a:Act} (h:FitsG N D e a):({ a with defers:=[] }:Act).app D=a:=by
 cases a;have:=h.defers;simp only at this;subst this;rfl
theorem FitsG.weaken {N:Nat}{D:List Deferred}{e e':Env}{a:Act} (h:FitsG N D e a) (hs:∀ t v,e'.find? t=some v->e.find? t=some v):FitsG N D e' a :=
 ⟨h.size,h.defers,fun t v ht=>h.at_ t v (hs t v ht)⟩
theorem FitsG.sel {N:Nat}{D:List Deferred}{e:Env}{a:Act} (h:FitsG N D e a) (ks:List Nat):FitsG N D (e.sel ks) a:=h.weaken fun t v ht=>Env.find?_sel ks e t v ht
theorem FitsG.eval {N:Nat}{D:List Deferred}{e:Env}{a:Act}{x:Operand}{K:Value->Prop} (ha:FitsG N D e a) (h:arg e x K):K (a.eval x):=by
 have h1:=Qba ha.bare h;cases x <;> exact h1
def Qhc (C:CtxG):List It->Exit->Act->World->Prop
 | [],ex,a,w=>C.post ex a w
 | .code c::k,ex,a,w=>match ex with
  | .normal=>c.wpIn (Qhb C.L) 0 C.P (fun ex a w=>Qhc C k ex a w) a w
  | ex=>Qhc C k ex a w
 | .blk id::k,ex,a,w=>match ex with
  | .exit id'=>if id'=id then Qhc C k .normal a w else Qhc C k (.exit id') a w
  | ex=>Qhc C k ex a w
 | .again I::k,ex,a,w=>match ex with
  | .normal=>∃ e w0 n,w=w0.drewN n/\FitsG C.N C.D e a/\I e w0
  | ex=>Qhc C k ex a w
def VG (C:CtxG) (k:List It) (e:Env) (w:World):Prop:=∀ a n,FitsG C.N C.D e a->Qhc C k .normal a (w.drewN n)
section
variable {C:CtxG}{k:List It}{e:Env}{w:World}
theorem Qdg {x y:Code} (h:VG C (.code x::.code y::k) e w):VG C (.code (.seq x y)::k) e w:=by
 intro a n ha;have h1:=h a n ha;simp only [Qhc] at h1 ⊢;refine wpIn_seq (wpIn_mono h1 fun ex a w hq=>?_);cases ex <;> exact hq
theorem Qog {id:Nat}{c:Code} (h:VG C (.code c::.blk id::k) e w):VG C (.code (.block id c)::k) e w:=by
 intro a n ha;have h1:=h a n ha;simp only [Qhc] at h1 ⊢;refine wpIn_block (wpIn_mono h1 fun ex a w hq=>?_);cases ex <;> exact hq
theorem QF4 {id:Nat} (h:VG C k e w):VG C (.blk id::k) e w:=fun a n ha=>h a n ha
theorem Qh2 (h:VG C k e w):VG C (.code .skip::k) e w:=fun a n ha=>wpIn_skip (h a n ha)
theorem QJv {I:Env->World->Prop} (h:I e w):VG C (.again I::k) e w:=fun _ n ha=>⟨e,w,n,rfl,ha,h⟩
theorem Qy5 {id:Nat}{k k':List It} (hp:Qjb id k=some k') {a:Act} (h:Qhc C k' .normal a w):Qhc C k (.exit id) a w:=by
 induction k with
 | nil=>simp [Qjb] at hp
 | cons x k ih =>
  cases x with
  | code c=>exact ih (by simpa [Qjb] using hp)
  | again I=>exact ih (by simpa [Qjb] using hp)
  | blk id' =>
   simp only [Qhc];by_cases hid:id=id'
   ·
    simp only [Qjb,hid,if_true] at hp;cases hp;simp only [hid,if_true];exact h
   simp only [Qjb,hid,if_false] at hp;simp only [hid,if_false];exact ih hp
theorem QNk {id:Nat}{k':List It} (hp:Qjb id k=some k') (h:VG C k' e w):VG C (.code (.exit id)::k) e w :=
 fun a n ha=>wpIn_exit (Qy5 hp (h a n ha))
theorem QF5 {k:List It}{a:Act} (h:C.post .ret a w):Qhc C k .ret a w:=by
 induction k with
 | nil=>exact h
 | cons x k ih=>cases x <;> exact ih
theorem Qy6 {k:List It}{c:List PanicEntry}{a:Act}:Qhc C k (.panic c) a w ↔ C.post (.panic c) a w:=by
 induction k with
 | nil=>exact Iff.rfl
 | cons x k ih=>cases x <;> exact ih
theorem Qv6 (h:∀ a n,FitsG C.N C.D e a->C.post .ret a (w.drewN n)):VG C (.code .ret::k) e w:=fun a n ha=>wpIn_ret (QF5 (h a n ha))
theorem Qr5 (h:∀ a n,FitsG C.N C.D e a->C.post .normal a (w.drewN n)):VG C [] e w:=fun a n ha=>h a n ha
theorem Qf6 {c:Operand}{t:Tmp}{b:Bool}{x y:Code} (hc:c=.tmp t) (hv:e.find? t=some (.bool b))
  (ht:b=true->VG C (.code x::k) e w) (hf:b=false->VG C (.code y::k) e w):VG C (.code (.cond c x y)::k) e w:=by
 intro a n ha;subst hc;exact wpIn_cond_split (t:=b) (ha.at_ t _ hv) (fun h=>ht h a n ha) (fun h=>hf h a n ha)
end
theorem Qto {F:Fence}{n0:Nat}{P:Program}{Q:Exit->Act->World->Prop}{a:Act}{w:World}{c:Code} (I:Nat->Act->World->Prop) (n:Nat) (h₀:I n a w)
  (round:∀ n a w,I n a w->c.wpIn F n0 P (Exit.then (fun a' w'=>∃ m,m < n/\I m a' w') Q) a w):(Code.loop c).wpIn F n0 P Q a w:=by
 intro b k cs hro hb hr
 have key:∀ j a w,I j a w ->
   ∃ e a' w',Q e a' w'/\ArrivesIn (Machine.fenced P F) P (lone (b.atR a (.code c::.inLoop c::k)) cs w) b k cs e a' w':=by
  intro j
  induction j using Nat.strongRecOn with
  | _ j ih =>
   intro a w hI;obtain ⟨e,a₁,w₁,hq,harr⟩:=round j a w hI b (.inLoop c::k) cs hro hb hr;cases e with
   | normal =>
    obtain ⟨m,hlt,hI₁⟩:=hq;obtain ⟨e₂,a₂,w₂,hq₂,harr₂⟩:=ih m hlt a₁ w₁ hI₁;exact ⟨e₂,a₂,w₂,hq₂,.of_steps (StepsIn.trans harr (.one (fenced_calm hb hr rfl) stepR_inLoop)) harr₂⟩
   | exit id=>exact ⟨_,a₁,w₁,hq,.pass (x:=.inLoop c) rfl (fun _ _=>.inl (by simp)) harr⟩
   | goto l=>exact ⟨_,a₁,w₁,hq,.pass (x:=.inLoop c) rfl (fun _ _=>.inl (by simp)) harr⟩
   | ret=>exact ⟨_,a₁,w₁,hq,.pass (x:=.inLoop c) rfl (fun _ _=>.inl (by simp)) harr⟩
   | panic ch=>exact ⟨_,a₁,w₁,hq,.pass (x:=.inLoop c) rfl (fun _ _=>.inl (by simp)) harr⟩
   | outgrown=>exact ⟨_,a₁,w₁,hq,.pass (x:=.inLoop c) rfl (fun _ _=>.inl (by simp)) harr⟩
 obtain ⟨e,a',w',hq,harr⟩:=key _ a w h₀;exact ⟨e,a',w',hq,.of_steps (.one (fenced_calm hb hr rfl) stepR_loop) harr⟩
section
variable {C:CtxG}{k:List It}{e:Env}{w:World}
theorem QJw (ks:List Nat) {body:Code} (I:Nat->Env->World->Prop) (n:Nat) (h0:selK ks e fun e=>I n e w)
  (round:∀ n e w,I n e w->VG C (.code body::.again (fun e' w'=>selK ks e' fun e'=>∃ m,m < n/\I m e' w')::k) e w):VG C (.code (.loop body)::k) e w:=by
 intro a d ha;refine Qto (fun n a w=>∃ e w0 d,w=w0.drewN d/\FitsG C.N C.D e a/\I n e w0) n ⟨_,w,d,rfl,ha.sel ks,(Qc6 ks e _).1 h0⟩ ?_;rintro n a w ⟨e,w0,d,rfl,ha,hI⟩;have h1:=round n e w0 hI a d ha;simp only [Qhc] at h1;refine wpIn_mono h1 fun ex a w hq=>?_;cases ex with
 | normal=>obtain ⟨e',w1,d',hw,hf,hI'⟩:=hq;obtain ⟨m,hm,hI'⟩:=(Qc6 ks e' _).1 hI';exact ⟨m,hm,_,w1,d',hw,hf.sel ks,hI'⟩
 | _=>exact hq
def endG (C:CtxG) (k:List It):Exit->Act->World->Prop:=fun ex a w=>match ex with | .normal=>Qhc C k .normal a w | _=>False
theorem Qpb (ex:Exit) (a:Act) (w:World) (h:endG C k ex a w):Qhc C k ex a w:=by
 cases ex <;> first | exact h | exact h.elim
theorem Qkt (ks:List Nat) {e:Env}{a:Act}{w:World}{n:Nat} (ha:Fits C.N e a) (hv:selC ks (VG C k) e w):Qapp C.D (endG C k) .normal a (w.drewN n) :=
 ⟨ha.defers,((Qc6 ks e _).1 hv) _ n ((FitsG.of ha).sel ks)⟩
theorem Qv7 (ks:List Nat) {id:Nat}{ops:List Oper} (hN:(ops.all (Qdy C.N) && ops.all Qe2)=true)
  (h:∀ K:Env->World->Prop,(∀ e w,VG C k e w->K e w)->Qa5 C.P C.N ops ops e w (selC ks K)):VG C (.code (.region id ops.toArray false)::k) e w:=by
 intro a n ha;simp only [Yi] at hN;rw [<- ha.app];refine wpIn_mono (QDj (Q:=endG C k) hN.2 ?_) Qpb;exact Qf4 (K:=selC ks (VG C k)) (fun e a w n ha hv=>Qkt ks ha hv) ops e _ w n hN.1 ha.bare (h _ fun _ _ hv=>hv)
theorem Qr6 (w0:World) (hx:Ext w0 w) (ks:List Nat) (plan:List (Nat×Bool)) {id:Nat}{ops:List Oper}{l:List (Bool×Oper)}
  (hm:C.P.follows .mixedOrders=true) (hB:(Qo5 ops.toArray plan (Array.replicate ops.toArray.size false) && Region.noSelect ops.toArray && decide (plan.length<=ops.length))=true) (hN:(ops.all (Qdy C.N) && ops.all Qe2)=true) (hl:Qbd ops plan=l)
  (h:∀ K:Env->World->Prop,(∀ e w,VG C k e w->K e w)->vcH C.P C.N ops w0 l e w (selC ks K)):VG C (.code (.region id ops.toArray true)::k) e w:=by
 intro a n ha;simp only [Yi,decide_eq_true_eq] at hB hN;obtain ⟨⟨hB1,hB2⟩,hB3⟩:=hB;rw [<- ha.app];refine wpIn_mono (Qko (Q:=endG C k) hm (by simpa using hN.2) (wpAny_of_held (S:=fun w'=>Ext w0 w') _ _ _ _ ?_)) Qpb;subst hl;exact Qvq (K:=selC ks (VG C k)) hN.1 hB2 (fun c a w d v hq=>hq.elim) (fun e a w n ha hv=>Qkt ks ha hv) plan _ _ e _ w (n+1) (by simpa using hB3) hB1 ha.bare hx (h _ fun _ _ hv=>hv)
theorem Qr7 (w0:World) (hx:Ext w0 w) (ks:List Nat) (t:Tree) {id:Nat}{ops:List Oper}
  (hm:C.P.follows .mixedOrders=true) (hB:(Qo8 ops.toArray t ops.toArray.size (Array.replicate ops.toArray.size false) && Region.noSelect ops.toArray)=true) (hN:(ops.all (Qdy C.N) && ops.all Qe2)=true)
  (h:∀ K:Env->World->Prop,(∀ e w,VG C k e w->K e w)->vcT C.P C.N ops w0 t e w (selC ks K)):VG C (.code (.region id ops.toArray true)::k) e w:=by
 intro a n ha;simp only [Yi] at hB hN;obtain ⟨hB1,hB2⟩:=hB;rw [<- ha.app];refine wpIn_mono (Qko (Q:=endG C k) hm (by simpa using hN.2) (wpAny_of_held (S:=fun w'=>Ext w0 w') _ _ _ _ ?_)) Qpb;exact Qvu (K:=selC ks (VG C k)) hN.1 hB2 (fun c a w d v hq=>hq.elim) (fun e a w n ha hv=>Qkt ks ha hv) t _ _ e _ w (n+1) hB1 ha.bare hx (h _ fun _ _ hv=>hv)
end
def QJx (F:Value->World->Prop) (Pn:List PanicEntry->World->Prop) (e:Ending) (w':World):Prop :=
 match e with
 | .returned v=>∃ w n,w'=w.drewN n/\F v w
 | .panicked c=>∃ w n,w'=w.drewN n/\Pn c w
 | .outgrown=>False
def DoesP (P:Program) (f:FuncId) (args:Array Value) (w:World) (F:Value->World->Prop) (Pn:List PanicEntry->World->Prop):Prop :=
 ∀ n,Calls P f args (w.drewN n) (QJx F Pn)
def noPn:List PanicEntry->World->Prop:=fun _ _=>False
theorem DoesP.does {P:Program}{f:FuncId}{args:Array Value}{w:World}{F:Value->World->Prop} (h:DoesP P f args w F noPn):Does P f args w F :=
 fun n=>(h n).mono fun e w' he=>by
  cases e with
  | returned v=>obtain ⟨w1,m,rfl,hF⟩:=he;exact ⟨v,w1,m,rfl,rfl,hF⟩
  | panicked c=>obtain ⟨_,_,_,hF⟩:=he;exact hF.elim
  | outgrown=>exact he.elim
theorem DoesP.mono {P:Program}{f:FuncId}{args:Array Value}{w:World}{F G:Value->World->Prop}{Pn Qn:List PanicEntry->World->Prop} (h:DoesP P f args w F Pn) (hg:∀ v w',F v w'->G v w') (hp:∀ c w',Pn c w'->Qn c w'):DoesP P f args w G Qn :=
 fun n=>(h n).mono fun e w' he=>by
  cases e with
  | returned v=>obtain ⟨w1,m,hw,hF⟩:=he;exact ⟨w1,m,hw,hg _ _ hF⟩
  | panicked c=>obtain ⟨w1,m,hw,hF⟩:=he;exact ⟨w1,m,hw,hp _ _ hF⟩
  | outgrown=>exact he.elim
abbrev Qv8 (P:Program) (fn:Func) (F:Value->World->Prop) (Pn:List PanicEntry->World->Prop):Exit->Act->World->Prop:=bodyPostM Fence.wide 0 P fn (QJx F Pn)
theorem Qim {P:Program}{f:FuncId}{fn:Func}{c:Code}{args:List Value}{w:World}{F:Value->World->Prop}{Pn:List PanicEntry->World->Prop} (N:Nat)
  (hf:P.funcs[f]? = some fn) (hb:fn.body=some c) (hN:fn.ntmps=N) (hle:args.length<=N)
  (h:VG ⟨P,N,none,[],Qv8 P fn F Pn⟩ [.code c] (Env.ofArgs 0 args) w):DoesP P f args.toArray w F Pn:=by
 intro n;refine callsIn_wide.1 (callsIn_of_wp_marks (F:=Fence.wide) (n:=0) hf hb trivial ?_ rfl);have h1:=h { tmps:=args.toArray++Array.replicate (fn.ntmps - args.toArray.size) undef,defers:=[] } n ⟨by simp [hN];omega,rfl,fun t v ht=>?_⟩
 ·
  exact wpIn_mono (F:=Fence.wide) h1 fun ex a w hq=>hq
 have:=(Env.find?_ofArgs args 0 t v ht).2;rw [Array.getD_eq_getD_getElem?,Array.getElem?_append]
 have hlt:t < args.toArray.size:=by
  have h2:=(Uk.1 this).1;simpa using h2
 simp only [hlt,if_true];simp at this ⊢;simp [this]
theorem Qpc {P:Program}{f:FuncId}{fn:Func}{c:Code}{args:List Value}{w:World}{F:Value->World->Prop} (N:Nat)
  (hf:P.funcs[f]? = some fn) (hb:fn.body=some c) (hN:fn.ntmps=N) (hle:args.length<=N)
  (h:VG ⟨P,N,none,[],Qv8 P fn F noPn⟩ [.code c] (Env.ofArgs 0 args) w):Does P f args.toArray w F:=(Qim N hf hb hN hle h).does
def Qv9 (r:Nat):Deferred:={ target:=.collected r,args:=#[] }
theorem Qtp {P:Program}{fn:Func}{F:Value->World->Prop}{Pn:List PanicEntry->World->Prop}{N:Nat}{e:Env}{w:World}{D:List Deferred} (hx:VX ⟨P,fn,F,N⟩ [] .ret e w) {a:Act}{n:Nat} (ha:FitsG N D e a) :
  LeavesInM Fence.wide 0 P fn a.tmps (QJx F Pn) [] .returning (w.drewN n):=by
 obtain ⟨_,v,hr,v',w1,m,he,hw,hF⟩:=hx _ n ha.bare;cases he;exact ⟨v,hr,w1,m,hw,hF⟩
theorem ret0 {P:Program}{fn:Func}{F:Value->World->Prop}{Pn:List PanicEntry->World->Prop}{N:Nat}{e:Env}{w:World} (hx:VX ⟨P,fn,F,N⟩ [] .ret e w) :
  ∀ a n,FitsG N [] e a->Qv8 P fn F Pn .ret a (w.drewN n):=fun a n ha=>by
 show LeavesInM _ _ _ _ _ _ a.defers _ _
 rw [ha.defers];exact Qtp hx ha
theorem nil0 {P:Program}{fn:Func}{F:Value->World->Prop}{Pn:List PanicEntry->World->Prop}{N:Nat}{e:Env}{w:World} (hx:VX ⟨P,fn,F,N⟩ [] .ret e w) :
  ∀ a n,FitsG N [] e a->Qv8 P fn F Pn .normal a (w.drewN n):=ret0 hx
theorem ret1 {P:Program}{fn:Func}{F:Value->World->Prop}{Pn:List PanicEntry->World->Prop}{N:Nat}{e:Env}{w:World}{r:Nat} (hm:w.heap[r]? = some (.deferred (some []))) (hx:VX ⟨P,fn,F,N⟩ [] .ret e (w.putObj r (.deferred none))) :
  ∀ a n,FitsG N [Qv9 r] e a->Qv8 P fn F Pn .ret a (w.drewN n):=fun a n ha=>by
 show LeavesInM _ _ _ _ _ _ a.defers _ _
 rw [ha.defers];exact ⟨by simp,.inl ⟨r,(w.putObj r (.deferred none)).drewN n,rfl,run_takeDeferred (w:=w.drewN n) hm,Qtp hx ha⟩⟩
theorem QLk {P:Program}{fn:Func}{F:Value->World->Prop}{Pn:List PanicEntry->World->Prop}{N:Nat}{e:Env}{w:World}{c:List PanicEntry} (hx:Pn c w) :
  ∀ a n,FitsG N [] e a->Qv8 P fn F Pn (.panic c) a (w.drewN n):=fun a n ha=>by
 show LeavesInM _ _ _ _ _ _ a.defers _ _
 rw [ha.defers];exact ⟨w,n,rfl,hx⟩
def Qy7 (C:CtxG) (o:Oper) (e:Env) (w:World) (R:Value->World->Prop):Prop :=
 ∀ (a:Act) (n:Nat) (next:Act->World->Prop) (Q:Exit->Act->World->Prop),FitsG C.N C.D e a->(∀ (v:Value) (w':World) (m:Nat),R v w'->next (a.put o.dst v) (w'.drewN m)) ->
  (∀ (c:List PanicEntry) (w':World) (m:Nat),C.post (.panic c) a (w'.drewN m)->Q (.panic c) a (w'.drewN m))->o.wpIn (Qhb C.L) 0 C.P a (w.drewN n) next Q
def spC (A:Env->World->Prop):Env->World->Prop:=A
theorem QNl {P:Program}{N:Nat}{ops:List Oper}{e:Env}{w:World} (A:Env->World->Prop):Qa5 P N ops [] e w (spC A)=A e w:=rfl
theorem Qjn {F:Fence}{n:Nat}{P:Program}{ops:Array Oper}{Q:Exit->Act->World->Prop} (l2:List Oper):∀ (l1:List Oper) (a:Act) (w:World),
  wpListIn F n P ops (Exit.then (wpListIn F n P ops Q l2) Q) l1 a w->wpListIn F n P ops Q (l1++l2) a w:=by
 intro l1
 induction l1 with
 | nil=>intro a w h;exact h
 | cons o l1 ih =>
  intro a w h;simp only [wpListIn,Ys] at h ⊢;split
  ·
   rename_i hw;rw [if_pos hw] at h;obtain ⟨h1,h2⟩:=h;refine ⟨h1,?_⟩
   revert h2
   generalize (o.semAt F.round a.eval).run P w=r;intro h2;cases r with
   | ok x w' =>
    cases x <;> simp only [Oper.uponIn] at h2 ⊢ <;>
     first
      | exact ih _ _ h2
      | exact ⟨h2.1,CallsIn.mono h2.2 (fun e w'' he=>by cases e <;> first | exact ih _ _ he | exact he | (obtain ⟨a0,w0,he⟩:=he;exact ⟨a0,w0,he⟩))⟩
      | exact ⟨h2.1,RowsIn.mono h2.2 (fun _ _ he=>ih _ _ he)⟩
      | exact ⟨h2.1,RoundIn.mono h2.2 (fun e w'' he=>by cases e <;> first | exact ih _ _ he | exact he | (obtain ⟨a0,w0,he⟩:=he;exact ⟨a0,w0,he⟩))⟩
      | exact h2
   | halt x w'=>cases x <;> simp only [Oper.uponIn] at h2 ⊢ <;> exact h2
  rename_i hw;rw [if_neg hw] at h;exact ⟨h.1,ih _ _ h.2⟩
theorem Qmt {P:Program}{L:Option Nat}{D:List Deferred}{Q:Exit->Act->World->Prop}{ops:Array Oper}:∀ (l:List Oper) (a:Act) (w:World),l.all Qe2=true ->
  wpList P ops (Qapp D Q) l a w->wpListIn (Qhb L) 0 P ops Q l (a.app D) w:=by
 intro l
 induction l with
 | nil=>intro a w _ h;exact h.2
 | cons o l ih =>
  intro a w hd h;simp only [List.all_cons,Yi] at hd;simp only [wpList,wpListIn] at h ⊢;have ht:(a.app D).tmps=a.tmps:=rfl;rw [ht];split
  ·
   rename_i hw;rw [if_pos hw] at h;rcases h with h | ⟨_,_,_,h⟩
   ·
    exact QLj hd.1 (fun a w=>ih a w hd.2) h
   exact h.elim
  rename_i hw;rw [if_neg hw] at h;have h2:=ih _ _ hd.2 h;rw [Qjm] at h2;exact ⟨fun _ _=>trivial,h2⟩
theorem Qin {F:Fence}{n:Nat}{P:Program}{ops:Array Oper}{Q Q':Exit->Act->World->Prop} (hq:∀ ex a w,Q ex a w->Q' ex a w):∀ (l:List Oper) (a:Act) (w:World),wpListIn F n P ops Q l a w->wpListIn F n P ops Q' l a w:=by
 intro l
 induction l with
 | nil=>intro a w h;exact hq _ _ _ h
 | cons x l ih =>
  intro a w h;simp only [wpListIn] at h ⊢;split
  ·
   rename_i hw;rw [if_pos hw] at h;obtain ⟨g1,g2⟩:=h;refine ⟨g1,?_⟩
   revert g2
   generalize (x.semAt F.round a.eval).run P w=r;intro g2;cases r with
   | ok y w' =>
    cases y <;> simp only [Oper.uponIn] at g2 ⊢ <;>
     first
      | exact ih _ _ g2
      | exact ⟨g2.1,CallsIn.mono g2.2 (fun e w'' he=>by cases e <;> first | exact ih _ _ he | exact hq _ _ _ he | (obtain ⟨a0,w0,he⟩:=he;exact ⟨a0,w0,hq _ _ _ he⟩))⟩
      | exact ⟨g2.1,RowsIn.mono g2.2 (fun _ _ he=>ih _ _ he)⟩
      | exact ⟨g2.1,RoundIn.mono g2.2 (fun e w'' he=>by cases e <;> first | exact ih _ _ he | exact hq _ _ _ he | (obtain ⟨a0,w0,he⟩:=he;exact ⟨a0,w0,hq _ _ _ he⟩))⟩
      | exact g2
   | halt y w'=>cases y <;> simp only [Oper.uponIn] at g2 ⊢ <;> first | exact hq _ _ _ g2 | exact g2
  rename_i hw;rw [if_neg hw] at h;exact ⟨h.1,ih _ _ h.2⟩
def Qwa (C:CtxG) (ops:List Oper) (R:List Oper->Env->World->Prop) (l:List Oper) (e:Env) (w:World):Prop :=
 match l with
 | o::l'=>Qjh ops o.guard e (fun e=>Qy7 C o e w fun v w=>R l' (e.put o.dst v) w) (fun e=>R l' (e.put o.dst undef) w)
 | []=>False
def Qlm (C:CtxG) (ops:List Oper) (K:Env->World->Prop):List Nat->List Oper->Env->World->Prop
 | [],l,e,w=>Qa5 C.P C.N ops l e w K
 | i::is,l,e,w=>Qa5 C.P C.N ops (l.take i) e w (spC fun e w=>Qwa C ops (Qlm C ops K is) (l.drop i) e w)
def Qwb (N:Nat):List Nat->List Oper->Bool
 | [],l=>l.all (Qdy N) && l.all Qe2
 | i::is,l=>(l.take i).all (Qdy N) && (l.take i).all Qe2 && match l.drop i with
  | o::l'=>Qdy N o && Qwb N is l'
  | []=>false
theorem QQ5 {C:CtxG}{ops l:List Oper}{K:Env->World->Prop}{e:Env}{w:World}:Qlm C ops K [] l e w=Qa5 C.P C.N ops l e w K:=rfl
theorem QF6 {C:CtxG}{ops l:List Oper}{K:Env->World->Prop}{e:Env}{w:World} (i:Nat) (is:List Nat):Qlm C ops K (i::is) l e w=Qa5 C.P C.N ops (l.take i) e w (spC fun e w=>Qwa C ops (Qlm C ops K is) (l.drop i) e w):=rfl
theorem QT1 {C:CtxG}{ops l:List Oper}{R:List Oper->Env->World->Prop}{e:Env}{w:World} (d:Option Tmp) (op:Op) (ty:Nat) (pos:String) (af:Array Edge):Qwa C ops R (⟨d,op,ty,pos,af,none⟩::l) e w=Qy7 C ⟨d,op,ty,pos,af,none⟩ e w fun v w=>R l (e.put d v) w:=rfl
theorem QQ6 {C:CtxG}{ops l:List Oper}{R:List Oper->Env->World->Prop}{e:Env}{w:World} (d:Option Tmp) (op:Op) (ty:Nat) (pos:String) (af:Array Edge) (j:Nat) (b:Bool):Qwa C ops R (⟨d,op,ty,pos,af,some (j,b)⟩::l) e w=Qbl ops j b e (fun e=>Qy7 C ⟨d,op,ty,pos,af,some (j,b)⟩ e w fun v w=>R l (e.put d v) w) (fun e=>R l (e.put d undef) w):=by
 rw [<- Qa2];rfl
theorem QDk {C:CtxG}{ops:List Oper}{Q:Exit->Act->World->Prop}{K:Env->World->Prop} (hQ:∀ c a w,C.post (.panic c) a w->Q (.panic c) a w)
  (hK:∀ e a w n,FitsG C.N C.D e a->K e w->Q .normal a (w.drewN n)):∀ (is:List Nat) (l:List Oper) (e:Env) (a:Act) (w:World) (n:Nat),Qwb C.N is l=true->FitsG C.N C.D e a ->
   Qlm C ops K is l e w->wpListIn (Qhb C.L) 0 C.P ops.toArray Q l a (w.drewN n):=by
 intro is
 induction is with
 | nil =>
  intro l e a w n hl ha h;simp only [Qwb,Yi] at hl
  have hA:=Qf4 (P:=C.P) (N:=C.N) (ops:=ops) (Q:=Qapp C.D fun ex a w=>match ex with | .normal=>Q .normal a w | _=>False) (K:=K)
   (fun e a w n ha hv=>⟨ha.defers,hK e _ w n (FitsG.of ha) hv⟩) l e _ w n hl.1 ha.bare h
  have hB:=Qmt (L:=C.L) _ _ _ hl.2 hA;rw [ha.app] at hB;refine Qin (fun ex a w hq=>?_) _ _ _ hB;cases ex <;> first | exact hq | exact hq.elim
 | cons i is ih =>
  intro l e a w n hl ha h;simp only [Qwb,Yi] at hl;obtain ⟨⟨h1,h2⟩,h3⟩:=hl;cases hd:l.drop i with
  | nil=>rw [hd] at h3;cases h3
  | cons o l' =>
   rw [hd] at h3;simp only [Yi] at h3;rw [<- X3 i l,hd];refine Qjn _ _ _ _ ?_;rw [QF6,hd] at h
   have hA:=Qf4 (P:=C.P) (N:=C.N) (ops:=ops) (Q:=Qapp C.D fun ex a w=>match ex with
     | .normal=>∃ e w0 n,w=w0.drewN n/\FitsG C.N C.D e a/\Qwa C ops (Qlm C ops K is) (o::l') e w0
     | _=>False)
    (fun e a w n ha hv=>⟨ha.defers,e,w,n,rfl,FitsG.of ha,hv⟩) (l.take i) e _ w n h1 ha.bare h
   have hB:=Qmt (L:=C.L) _ _ _ h2 hA;rw [ha.app] at hB;refine Qin (fun ex a w hq=>?_) _ _ _ hB;cases ex with
   | normal =>
    obtain ⟨e1,w1,m,rfl,hf,hs⟩:=hq
    show wpListIn _ _ _ _ _ (o::l') a _
    simp only [wpListIn]
    have hput:∀ (e2:Env) (v:Value),FitsG C.N C.D e2 a->FitsG C.N C.D (e2.put o.dst v) (a.put o.dst v):=fun e2 v hf2=>by
     have g1:=hf2.bare.put' h3.1 v;have g2:=FitsG.of (D:=C.D) g1;rw [Qjm,hf2.app] at g2;exact g2
    have hfa:∀ e2,Fits C.N e2 { a with defers:=[] }->FitsG C.N C.D e2 a:=fun e2 g=>⟨g.size,hf.defers,g.at_⟩;have hs':Qjh ops o.guard e1 (fun e=>Qy7 C o e w1 fun v w=>Qlm C ops K is l' (e.put o.dst v) w) (fun e=>Qlm C ops K is l' (e.put o.dst undef) w1):=hs;rcases Qd5 hf.bare hs' with ⟨e2,g1,g2,hw⟩ | ⟨e2,g1,g2,hw⟩
    ·
     rw [if_pos hw];exact g2 a m _ _ (hfa e2 g1) (fun v w' m' hv=>ih l' _ _ w' m' h3.2 (hput e2 v (hfa e2 g1)) hv) (fun c w' m' hp=>hQ _ _ _ hp)
    rw [if_neg (by rw [hw];simp)];exact ⟨fun _ _=>trivial,ih l' _ _ w1 m h3.2 (hput e2 undef (hfa e2 g1)) g2⟩
   | _=>exact hq.elim
section
variable {C:CtxG}{k:List It}{e:Env}{w:World}
theorem Qfi (ks:List Nat) (is:List Nat) {id:Nat}{ops:List Oper} (hN:Qwb C.N is ops=true)
  (h:∀ K:Env->World->Prop,(∀ e w,VG C k e w->K e w)->Qlm C ops (selC ks K) is ops e w):VG C (.code (.region id ops.toArray false)::k) e w:=by
 intro a n ha;refine wpIn_region_lit ?_;exact QDk (Q:=fun ex a w=>Qhc C k ex a w) (K:=selC ks (VG C k)) (fun c a w hp=>Qy6.2 hp) (fun e a w n ha hv=>((Qc6 ks e _).1 hv) a n (ha.sel ks)) is ops e a w n hN ha (h _ fun _ _ hv=>hv)
variable {d:Option Tmp}{ty:Nat}{pos:String}{af:Array Edge}{gd:Option (Nat×Bool)}{R:Value->World->Prop}
def CallP (C:CtxG) (e:Env) (fv:Value) (vs:List Value) (w:World) (R:Value->World->Prop):Prop :=
 ∃ f first cs,fv=.func (.func f) first cs/\(∀ args w,(callFunc f args).run C.P w=.ok (.enter f args) w)/\∃ F Pn,DoesP C.P f (first.toList++vs++cs.toList).toArray w F Pn/\(∀ v w',F v w'->R v w')/\(∀ c w',Pn c w'->∀ a n,FitsG C.N C.D e a->C.post (.panic c) a (w'.drewN n))
theorem CallP.mk {f:FuncId}{first cs:Array Value}{vs:List Value}{F:Value->World->Prop}{Pn:List PanicEntry->World->Prop} (hf:∀ args w,(callFunc f args).run C.P w=.ok (.enter f args) w)
  (h:DoesP C.P f (first.toList++vs++cs.toList).toArray w F Pn) (hc:∀ v w',F v w'->R v w') (hp:∀ c w',Pn c w'->∀ a n,FitsG C.N C.D e a->C.post (.panic c) a (w'.drewN n)):CallP C e (.func (.func f) first cs) vs w R :=
 ⟨f,first,cs,rfl,hf,F,Pn,h,hc,hp⟩
theorem Qf7 {x:Operand}{az:Array Operand}{ts:Array TypeId}
  (h:arg e x fun fv=>argL e az.toList fun vs=>CallP C e fv vs w R) :
  Qy7 C ⟨d,.call { callee:=.value x,args:=az,argTypes:=ts },ty,pos,af,gd⟩ e w R:=by
 intro a n next Q ha hK hP;have h0:=Qba ha.bare h;have h1:=Qcz ha.bare h0;obtain ⟨f,first,cs,hx,hf,F,Pn,hD,hC,hpn⟩:=h1;have ev:({ a with defers:=[] }:Act).eval=a.eval:=by funext x;cases x <;> rfl
 rw [ev] at hx hD;have hm:(az.map a.eval)=(az.toList.map a.eval).toArray:=Qe9 az a
 have e1:first++(az.toList.map a.eval).toArray++cs=(first.toList++az.toList.map a.eval++cs.toList).toArray:=by
  apply Array.ext';simp
 have hrun:(execOp a.eval ⟨d,.call { callee:=.value x,args:=az,argTypes:=ts },ty,pos,af,gd⟩).run C.P (w.drewN n)=.ok (.enter f (first.toList++az.toList.map a.eval++cs.toList).toArray) (w.drewN n):=by
  simp only [execOp,resolve,hx,Deferred.ofValue,Xc,Xp,Y2,invoke,hm,e1];simp [hf]
 refine ⟨fun _ _=>trivial,?_⟩;rw [Oper.semAt_eq _ _ _ (fun c hc=>by cases hc),hrun];refine ⟨by simp [Qhb,Fence.wide],Qil ((hD n).mono fun e' w' he=>?_)⟩;cases e' with
 | returned v=>obtain ⟨w1,m,rfl,hF⟩:=he;exact hK v w1 m (hC v w1 hF)
 | panicked c=>obtain ⟨w1,m,rfl,hF⟩:=he;exact hP c w1 m (hpn c w1 hF a m ha)
 | outgrown=>exact he.elim
def YieldK (P:Program) (l:Nat) (vs:List Value) (w:World) (R:Value->World->Prop):Prop :=
 ∀ n,∃ fn tmps assign body,(Instr.yield l vs.toArray).run P (w.drewN n)=.ok (.round l fn tmps assign body) (w.drewN n) /\
  RoundIn Fence.wide 0 P l fn tmps assign body (w.drewN n) fun e w'=>∃ v w1 m,e=.returned v/\w'=w1.drewN m/\R v w1
theorem YieldK.mono {P:Program}{l:Nat}{vs:List Value}{w:World}{R R':Value->World->Prop} (h:YieldK P l vs w R) (hr:∀ v w',R v w'->R' v w'):YieldK P l vs w R':=fun n=>by
 obtain ⟨fn,tmps,az,bd,h1,h2⟩:=h n;exact ⟨fn,tmps,az,bd,h1,h2.mono fun e w' ⟨v,w1,m,he,hw,hR⟩=>⟨v,w1,m,he,hw,hr _ _ hR⟩⟩
theorem Qy8 {x:Operand}{az:Array Operand}{ts:Array TypeId}
  (h:arg e x fun fv=>argL e az.toList fun vs=>∃ l,fv=.func (.yield l) #[] #[]/\YieldK C.P l vs w R) :
  Qy7 C ⟨d,.call { callee:=.value x,args:=az,argTypes:=ts },ty,pos,af,gd⟩ e w R:=by
 intro a n next Q ha hK hP;have h0:=Qba ha.bare h;have h1:=Qcz ha.bare h0;obtain ⟨l,hx,hY⟩:=h1;have ev:({ a with defers:=[] }:Act).eval=a.eval:=by funext x;cases x <;> rfl
 rw [ev] at hx hY;obtain ⟨fn,tmps,asg,bd,hy,hR⟩:=hY n;have hm:(az.map a.eval)=(az.toList.map a.eval).toArray:=Qe9 az a
 have hrun:(execOp a.eval ⟨d,.call { callee:=.value x,args:=az,argTypes:=ts },ty,pos,af,gd⟩).run C.P (w.drewN n)=.ok (.round l fn tmps asg bd) (w.drewN n):=by
  simp only [execOp,resolve,hx,Deferred.ofValue,Xc,Xp,Y2,invoke,hm];simpa using hy
 refine ⟨fun _ _=>trivial,?_⟩;rw [Oper.semAt_eq _ _ _ (fun c hc=>by cases hc),hrun];refine ⟨by simp [Qhb,Fence.wide],?_⟩;refine RoundIn.mono (F:=Qhb C.L) (show RoundIn (Qhb C.L) (0 - 1) C.P l fn tmps asg bd (w.drewN n) _ from hR) fun e' w' he=>?_;obtain ⟨v,w1,m,rfl,rfl,hv⟩:=he;exact hK v w1 m hv
theorem Qku {x:Operand} (h:arg e x fun v=>(∃ t u,v=.iface t u)/\∀ a n,FitsG C.N C.D e a->C.post (.panic [{ v:=v,recovered:=false }]) a (w.drewN n)) :
  Qy7 C ⟨d,.panic x,ty,pos,af,gd⟩ e w R:=by
 intro a n next Q ha hK hP;obtain ⟨⟨t,u,hx⟩,hp⟩:=Qba ha.bare h;have ev:({ a with defers:=[] }:Act).eval=a.eval:=by funext x;cases x <;> rfl
 rw [ev] at hx hp
 have hrun:(execOp a.eval ⟨d,.panic x,ty,pos,af,gd⟩).run C.P (w.drewN n)=.halt (.panic (a.eval x)) (w.drewN n):=by
  simp only [execOp,hx,Instr.panic];rfl
 refine ⟨fun _ _=>trivial,?_⟩;rw [Oper.semAt_eq _ _ _ (fun c hc=>by cases hc),hrun];exact hP _ w n (hp a n ha)
def Qtq:List It->Bool
 | []=>true
 | .again _::_=>false
 | _::k=>Qtq k
theorem Qy9 (D:List Deferred) {k:List It} (hk:Qtq k=true):∀ {ex:Exit}{a:Act}{w:World},Qhc { C with D:=D } k ex a w ↔ Qhc C k ex a w:=by
 induction k with
 | nil=>intro ex a w;exact Iff.rfl
 | cons x k ih =>
  intro ex a w;cases x with
  | again I=>cases hk
  | blk id =>
   have ih:=fun {ex a w}=>@ih hk ex a w;cases ex <;> first | exact ih | skip
   rename_i id';simp only [Qhc];split
   ·
    exact ih
   exact ih
  | code c =>
   have ih:=fun {ex a w}=>@ih hk ex a w;cases ex <;> first | exact ih | skip
   simp only [Qhc];constructor
   ·
    exact fun h=>wpIn_mono h fun ex a w hq=>ih.1 hq
   exact fun h=>wpIn_mono h fun ex a w hq=>ih.2 hq
theorem QDl {P:Program}{N:Nat}{D:List Deferred}{post:Exit->Act->World->Prop} (ks:List Nat) (i:Nat) {id:Nat}{ops:List Oper}{x:Operand}{az:Array Operand}{ts:Array TypeId} (hk:Qtq k=true)
  (hN:((ops.take i).all (Qdy N) && (ops.take i).all Qe2)=true) (hl:ops.drop i=[⟨none,.defer { callee:=.value x,args:=az,argTypes:=ts },ty,pos,af,none⟩])
  (h:∀ K:Deferred->Env->World->Prop,(∀ d e w,VG ⟨P,N,none,d::D,post⟩ k e w->K d e w) ->
   Qa5 P N ops (ops.take i) e w (spC fun e w=>arg e x fun fv=>argL e az.toList fun vs=>∃ f first cs,fv=.func (.func f) first cs/\selK ks e fun e=>K { target:=.fn (.func f) cs,args:=first++vs.toArray } e w)):VG ⟨P,N,none,D,post⟩ (.code (.region id ops.toArray false)::k) e w:=by
 intro a n ha;simp only [Yi] at hN;refine wpIn_region_lit ?_
 have key:wpListIn (Qhb none) 0 P ops.toArray (fun ex a w=>Qhc ⟨P,N,none,D,post⟩ k ex a w) (ops.take i++[⟨none,.defer { callee:=.value x,args:=az,argTypes:=ts },ty,pos,af,none⟩]) a (w.drewN n):=by
  refine Qjn _ _ _ _ ?_
  have hA:=Qf4 (P:=P) (N:=N) (ops:=ops) (Q:=Qapp D fun ex a w=>match ex with
    | .normal=>∃ e w0 n,w=w0.drewN n/\FitsG N D e a/\arg e x fun fv=>argL e az.toList fun vs=>∃ f first cs,fv=.func (.func f) first cs/\selK ks e fun e=>VG ⟨P,N,none,{ target:=.fn (.func f) cs,args:=first++vs.toArray }::D,post⟩ k e w0
    | _=>False)
   (fun e a w n ha hv=>⟨ha.defers,e,w,n,rfl,FitsG.of ha,hv⟩) (ops.take i) e _ w n hN.1 ha.bare (h _ fun _ _ _ hv=>hv)
  have hB:=Qmt (L:=none) _ _ _ hN.2 hA;rw [FitsG.app ha] at hB;refine Qin (fun ex a w hq=>?_) _ _ _ hB;cases ex with
  | normal =>
   obtain ⟨e1,w1,m,rfl,hf,hs⟩:=hq
   show wpListIn _ _ _ _ _ [_] a _
   simp only [wpListIn];rw [if_pos (by simp [Region.wanted])];have h0:=Qba hf.bare hs;have h1:=Qcz hf.bare h0;obtain ⟨f,first,cs,hx,hv⟩:=h1;have ev:({ a with defers:=[] }:Act).eval=a.eval:=by funext x;cases x <;> rfl
   rw [ev] at hx hv;have hm:(az.map a.eval)=(az.toList.map a.eval).toArray:=Qe9 az a;refine ⟨fun _ _=>trivial,?_⟩
   have hrun:(Oper.semAt (Qhb none).round a.eval ⟨none,.defer { callee:=.value x,args:=az,argTypes:=ts },ty,pos,af,none⟩).run P (w1.drewN m)=.ok (.defer { target:=.fn (.func f) cs,args:=first++(az.toList.map a.eval).toArray }) (w1.drewN m):=by
    rw [show (Qhb none).round=none from rfl,Oper.semAt_none];simp only [execOp,resolve,hx,Deferred.ofValue,Xc,Xp,Y2,hm]
   rw [hrun];refine (Qy9 (C:=⟨P,N,none,D,post⟩) _ hk).1 (((Qc6 ks e1 _).1 hv) _ m (FitsG.sel ?_ ks));exact ⟨hf.size,by simp [Act.put,hf.defers],hf.at_⟩
  | _=>exact hq.elim
 rw [<- hl,X3] at key;exact key
theorem Qwd {P:Program}{N:Nat}{D:List Deferred}{post:Exit->Act->World->Prop}{g:Operand}{ps:Array Tmp}{assign body:Code} (hk:Qtq k=true) {gf:FuncId}{first cs:Array Value}
  (hg:arg e g fun v=>v=X4 (.func gf) first cs) (hf:∀ args w,(callFunc gf args).run P w=.ok (.enter gf args) w)
  (h:∀ r:Loop,r.state=.ready->r.pending=none->r.params=ps->r.assign=assign->r.body=body->r.defers=w.heap.size->r.tmps.size=N->(∀ t v,e.find? t=some v->r.tmps.getD t undef=v) ->
   DoesP P gf (first.toList++[X4 (.yield (w.heap.size+1)) #[] #[]]++cs.toList).toArray ((w.alloc (.deferred (some []))).alloc (.loop r))
    (fun _ w2=>∃ st pd,w2.heap[w.heap.size+1]? = some (Obj.loop { r with state:=st,pending:=pd })/\st≠.busy /\
     match pd with
     | none=>VG ⟨P,N,none,Qv9 w.heap.size::D,post⟩ k e (w2.putObj (w.heap.size+1) (.loop { r with state:=.exhausted,pending:=none }))
     | some c=>VG ⟨P,N,none,Qv9 w.heap.size::D,post⟩ (.code c::k) e (w2.putObj (w.heap.size+1) (.loop { r with state:=.exhausted,pending:=some c }))) noPn) :
  VG ⟨P,N,none,D,post⟩ (.code (.rangeFunc g ps assign body)::k) e w:=by
 intro a n ha;have hge:=ha.eval hg;have hdep:(Qhb none).depth.isSome=true->1<=0:=by simp [Qhb,Fence.wide]
 refine wpIn_rangeFunc fun fn _=>?_;have hh:=h { state:=.ready,pending:=none,fn:=fn,tmps:=a.tmps,params:=ps,assign:=assign,body:=body,defers:=w.heap.size } rfl rfl rfl rfl rfl rfl ha.size ha.at_;generalize hr:({ state:=.ready,pending:=none,fn:=fn,tmps:=a.tmps,params:=ps,assign:=assign,body:=body,defers:=w.heap.size }:Loop)=r at hh;have he:=run_enterLoop_outer (P:=P) (w:=w.drewN n) fn a.tmps ps assign body;have hsz:(w.drewN n).heap.size=w.heap.size:=rfl;rw [hsz,hr] at he
 have e1:first++#[X4 (.yield (w.heap.size+1)) #[] #[]]++cs=(first.toList++[X4 (.yield (w.heap.size+1)) #[] #[]]++cs.toList).toArray:=by
  apply Array.ext';simp
 refine ⟨w.heap.size+1,[Qv9 w.heap.size],_,{ target:=.fn (.func gf) cs,args:=first++#[X4 (.yield (w.heap.size+1)) #[] #[]] },((w.alloc (Obj.deferred (some []))).alloc (Obj.loop r)).drewN n,gf,(first.toList++[X4 (.yield (w.heap.size+1)) #[] #[]]++cs.toList).toArray,_,he,?_,fun _ _=>trivial,?_,hdep,Qil (((hh n)).mono fun ex w3 hex=>?_)⟩
 ·
  have hc:(rangeCall g (w.heap.size+1)).args.map a.eval=#[X4 (.yield (w.heap.size+1)) #[] #[]]:=by simp [rangeCall,Act.eval]
  simp only [resolve,hge,Deferred.ofValue,Xc,Xp,Y2,hc];rfl
 ·
  simp only [invoke];rw [<- e1];exact hf _ _
 cases ex with
 | outgrown=>exact hex.elim
 | panicked c=>obtain ⟨_,_,_,hx⟩:=hex;exact hx.elim
 | returned v =>
  obtain ⟨w2,m,rfl,st,pd,hl,hst,hv⟩:=hex;have hen:=run_endLoop (P:=P) (w:=w2.drewN m) (l:=w.heap.size+1) (r:={ r with state:=st,pending:=pd }) hl hst;refine ⟨pd,_,hen,?_⟩;have hfit:FitsG N (Qv9 w.heap.size::D) e { a with defers:=[Qv9 w.heap.size]++a.defers }:=⟨ha.size,by simp [ha.defers],ha.at_⟩;cases pd with
  | none=>exact (Qy9 (C:=⟨P,N,none,D,post⟩) (Qv9 w.heap.size::D) hk).1 (hv _ m hfit)
  | some c=>exact wpIn_mono (hv _ m hfit) fun ex a _ hq=>(Qy9 (C:=⟨P,N,none,D,post⟩) (Qv9 w.heap.size::D) hk).1 hq
end
def QQ8 (P:Program) (l:Nat) (r:Loop) (R:Value->World->Prop):Exit->Act->World->Prop
 | .normal,_,w=>∃ (w0:World) (n:Nat),w=w0.drewN n/\w0.heap[l]? = some (.loop { r with state:=.busy })/\R (.bool true) (w0.putObj l (.loop { r with state:=.ready,pending:=none }))
 | .ret,_,w=>∃ (w0:World) (n:Nat),w=w0.drewN n/\w0.heap[l]? = some (.loop { r with state:=.busy })/\R (.bool false) (w0.putObj l (.loop { r with state:=.done,pending:=some .ret }))
 | .exit id,_,w=>∃ (w0:World) (n:Nat),w=w0.drewN n/\w0.heap[l]? = some (.loop { r with state:=.busy })/\R (.bool false) (w0.putObj l (.loop { r with state:=.done,pending:=some (.exit id) }))
 | _,_,_=>False
theorem Qwe {P:Program}{N l:Nat}{r:Loop}{vs:List Value}{w:World}{R:Value->World->Prop}{e:Env} (hl:w.heap[l]? = some (Obj.loop r)) (hst:r.state=.ready) (hsz:r.tmps.size=N) (hps:vs.length=r.params.size)
  (he:∀ t v,e.find? t=some v->((r.params.zip vs.toArray).foldl (fun tmps (t,a)=>tmps.setIfInBounds t a) r.tmps).getD t undef=v)
  (h:VG ⟨P,N,some l,[],fun ex a w=>ex=.normal/\∃ (e0:Env) (w0:World) (n:Nat),w=w0.drewN n/\FitsG N [] e0 a/\w0.heap[l]? = some (.loop r)/\VG ⟨P,N,some l,[],QQ8 P l r R⟩ [.code r.body] e0 (w0.putObj l (.loop { r with state:=.busy }))⟩ [.code r.assign] e w) :
  YieldK P l vs w R:=by
 intro n;have hy:=run_yield (P:=P) (w:=w.drewN n) (l:=l) (r:=r) (args:=vs.toArray) hl (by simpa using hps);refine ⟨_,_,_,_,hy,roundIn_of_wpIn trivial ?_⟩
 have hszT:((r.params.zip vs.toArray).foldl (fun tmps (t,a)=>tmps.setIfInBounds t a) r.tmps).size=N:=by
  have key:∀ (l:List (Tmp×Value)) (T:Array Value),(l.foldl (fun tmps (x:Tmp×Value)=>tmps.setIfInBounds x.1 x.2) T).size=T.size:=by
   intro l
   induction l with
   | nil=>intro T;rfl
   | cons x l ih=>intro T;rw [List.foldl_cons,ih];simp
  rw [<- Array.foldl_toList];rw [<- hsz];exact key _ _
 have h1:=h { tmps:=(r.params.zip vs.toArray).foldl (fun tmps (t,a)=>tmps.setIfInBounds t a) r.tmps,defers:=[] } n ⟨hszT,rfl,he⟩;refine wpIn_mono (F:=Fence.wide.inRound l) h1 fun ex a w' hq=>?_;obtain ⟨rfl,e0,w0,m,rfl,hf,hl0,hb⟩:=hq;refine ⟨_,run_beginRound (P:=P) (w:=w0.drewN m) hl0 hst,?_⟩;refine wpIn_mono (F:=Fence.wide.inRound l) (hb a m hf) fun ex a w' hq=>?_;cases ex with
 | normal =>
  obtain ⟨w1,m1,rfl,hl1,hR⟩:=hq;exact ⟨_,_,run_endRound (P:=P) (w:=w1.drewN m1) none hl1,_,_,m1,rfl,rfl,hR⟩
 | ret =>
  obtain ⟨w1,m1,rfl,hl1,hR⟩:=hq;exact ⟨_,_,run_endRound (P:=P) (w:=w1.drewN m1) (some .ret) hl1,_,_,m1,rfl,rfl,hR⟩
 | exit id =>
  obtain ⟨w1,m1,rfl,hl1,hR⟩:=hq;exact ⟨_,_,run_endRound (P:=P) (w:=w1.drewN m1) (some (.exit id)) hl1,_,_,m1,rfl,rfl,hR⟩
 | goto t=>exact hq.elim
 | panic c=>exact hq.elim
 | outgrown=>exact hq.elim
attribute [go_sem ↓] QNl QQ5 QF6 QT1 QQ6
theorem Qr8 {P:Program}{f:FuncId}{fn:Func}{id:Nat}{t s:Tmp}{ts:Array TypeId}{ty1 ty2:Nat}{p1 p2:String}{a1 a2:Array Edge}{rest:Code}{N:Nat}{args:List Value}{u u':FrameMode}{v:Value}{w:World}{R:World->Prop}
  (hf:P.funcs[f]? = some fn) (hb:fn.body=some (.seq (.region id #[⟨some t,.call { callee:=.builtin .recover,args:=#[],argTypes:=ts },ty1,p1,a1,none⟩,⟨some s,.assign (.tmp t),ty2,p2,a2,none⟩] false) rest)) (hres:fn.results=#[]) (hN:fn.ntmps=N) (hle:args.length<=N) (ht:t < N) (hs:s < N)
  (hu:u=.returning/\u'=.returning/\v=.nilIface∨u=.panicking [{ v:=v,recovered:=false }]/\u'=.panicking [{ v:=v,recovered:=true }])
  (h:VG ⟨P,N,none,[],fun ex a w'=>(ex=.normal∨ex=.ret)/\a.defers=[]/\∃ w1 m,w'=w1.drewN m/\R w1⟩ [.code rest] ((s,v)::(t,v)::Env.ofArgs 0 args) w) :
  ∀ n,CallsDIn Fence.wide 0 P f args.toArray u (w.drewN n) (fun e u2 w'=>(∃ x,e=.returned x)/\u2=u'/\∃ w1 m,w'=w1.drewN m/\R w1):=by
 intro n;refine callsDIn_of_wpSIn hf hb trivial fun c₀ cs hm=>?_;generalize ha0:({ tmps:=args.toArray++Array.replicate (fn.ntmps - args.toArray.size) undef,defers:=[] }:Act)=a0
 have hfit0:Fits N (Env.ofArgs 0 args) a0:=by
  subst ha0;refine ⟨by simp [hN];omega,rfl,fun t v ht=>?_⟩;have:=(Env.find?_ofArgs args 0 t v ht).2;rw [Array.getD_eq_getD_getElem?,Array.getElem?_append]
  have hlt:t < args.toArray.size:=by
   have h2:=(Uk.1 this).1;simpa using h2
  simp only [hlt,if_true];simp at this ⊢;simp [this]
 refine wpSIn_seq (wpSIn_region ?_);have hfit1:Fits N ((t,v)::Env.ofArgs 0 args) (a0.put (some t) v):=hfit0.put (some t) v fun x hx=>by cases hx;exact ht
 have hfit2:Fits N ((s,v)::(t,v)::Env.ofArgs 0 args) ((a0.put (some t) v).put (some s) v):=hfit1.put (some s) v fun x hx=>by cases hx;exact hs
 have hev:(a0.put (some t) v).eval (.tmp t)=v:=hfit1.at_ t v (by simp [Env.find?])
 have hcs:∃ cs',(recoverD (c₀::cs)=some (v,cs')∨recoverD (c₀::cs)=none/\v=.nilIface/\cs'=c₀::cs)/\cs'={ c₀ with mode:=u' }::cs:=by
  rcases hu with ⟨h1,h2,h3⟩ | ⟨h1,h2⟩
  ·
   refine ⟨c₀::cs,.inr ⟨?_,h3,rfl⟩,?_⟩
   ·
    simp only [recoverD,hm,h1]
   have:c₀.mode=u':=by rw [hm,h1,h2]
   cases c₀;simp only at this;subst this;rfl
  refine ⟨{ c₀ with mode:=u' }::cs,.inl ?_,rfl⟩;simp only [recoverD,hm,h1,h2]
 obtain ⟨cs',hrec,hcs'⟩:=hcs
 have hrun2:∀ w,(execOp (a0.put (some t) v).eval ⟨some s,.assign (.tmp t),ty2,p2,a2,none⟩).run P w=.ok (.value v) w:=fun w=>by
  simp only [execOp,hev];rfl
 have hlast:Exit.thenS (rest.wpSIn Fence.wide 0 P (bodyPostS P fn c₀ cs fun e u2 w'=>(∃ x,e=.returned x)/\u2=u'/\∃ w1 m,w'=w1.drewN m/\R w1)) (bodyPostS P fn c₀ cs fun e u2 w'=>(∃ x,e=.returned x)/\u2=u'/\∃ w1 m,w'=w1.drewN m/\R w1) .normal ((a0.put (some t) v).put (some s) v) cs' (w.drewN n):=by
  refine wpSIn_of_wpIn rfl (wpIn_mono (F:=Fence.wide) (h _ n ⟨hfit2.size,hfit2.defers,hfit2.at_⟩) fun ex a w' hq=>?_);obtain ⟨hex,hd,w1,m,rfl,hR⟩:=hq;have hr:=results_none hres a.tmps P (w1.drewN m);rcases hex with rfl | rfl
  ·
   exact ⟨hd,u',hcs',_,hr,⟨_,rfl⟩,rfl,w1,m,rfl,hR⟩
  exact ⟨hd,u',hcs',_,hr,⟨_,rfl⟩,rfl,w1,m,rfl,hR⟩
 have hsz:(#[⟨some t,.call { callee:=.builtin .recover,args:=#[],argTypes:=ts },ty1,p1,a1,none⟩,⟨some s,.assign (.tmp t),ty2,p2,a2,none⟩]:Array Oper).size=2:=rfl;rw [hsz];simp only [show Yg 2=[0,1] from rfl,wpOpsSIn,List.getElem?_toArray,List.getElem?_cons_zero,List.getElem?_cons_succ];refine ⟨fun _ _=>trivial,?_⟩;rw [if_pos (by simp [Region.wanted])]
 have hrun1:(execOp a0.eval ⟨some t,.call { callee:=.builtin .recover,args:=#[],argTypes:=ts },ty1,p1,a1,none⟩).run P (w.drewN n)=.ok .recover (w.drewN n):=by
  simp only [execOp,resolve,invoke,builtin,Xc,Xp,Y2]
 rw [hrun1];simp only [];rcases hrec with hrec | ⟨hrec,hv,rfl⟩
 ·
  rw [hrec];simp only [];refine ⟨fun _ _=>trivial,?_⟩;rw [if_pos (by simp [Region.wanted]),hrun2];exact hlast
 rw [hrec];simp only [];refine ⟨fun _ _=>trivial,?_⟩;rw [<- hv];rw [if_pos (by simp [Region.wanted]),hrun2];exact hlast
theorem Qwf {P:Program}{fn:Func}{F:Value->World->Prop}{Pn:List PanicEntry->World->Prop}{N:Nat}{e:Env}{w:World}{D:List Deferred}{f:FuncId}{cs:Array Value}{args:Array Value}{R:World->Prop}{u:FrameMode}
  (hi:∀ args w,(callFunc f args).run P w=.ok (.enter f args) w) (hu:u≠.run) (hD:D=[{ target:=.fn (.func f) cs,args:=args }])
  (hc:∀ n,CallsDIn Fence.wide 0 P f (args++cs) u (w.drewN n) (fun e u2 w'=>(∃ x,e=.returned x)/\settle u2=.returning/\∃ w1 m,w'=w1.drewN m/\R w1))
  (hx:∀ w1,R w1->VX ⟨P,fn,F,N⟩ [] .ret e w1):∀ a n,FitsG N D e a->LeavesInM Fence.wide 0 P fn a.tmps (QJx F Pn) a.defers u (w.drewN n):=by
 intro a n ha;rw [ha.defers,hD];refine ⟨hu,.inr ⟨by simp [Fence.wide],.func f,cs,f,args++cs,rfl,?_,fun _ _=>trivial,?_⟩⟩
 ·
  simp only [invoke];exact hi _ _
 obtain ⟨_,hc⟩:=hc n;refine ⟨trivial,fun c cs hm hroom=>?_⟩;obtain ⟨e2,u2,w2,fr,hR,h1,h2,h3,h4⟩:=hc c cs hm hroom;refine ⟨e2,u2,w2,fr,?_,h1,h2,h3,h4⟩;obtain ⟨⟨x,rfl⟩,hs,w1,m,rfl,hR⟩:=hR
 show LeavesInM _ _ _ _ _ _ [] (settle u2) _
 rw [hs];exact Qtp (hx w1 hR) ha
def QJy (d:Option TypeDesc):Bool :=
 match d with
 | some (.interface _)=>false
 | some _=>true
 | none=>false
theorem Qza {P:Program}{N:Nat}{d:Option Tmp}{ty:Nat}{pos:String}{af:Array Edge}{gd:Option (Nat×Bool)}{e:Env}{w:World}{R:Env->World->(Env->World->Prop)->Prop}{K:Env->World->Prop}{x:Operand}{T T':TypeId}
  (h:arg e x fun u=>∃ v,u=.iface T' v/\QJy (P.underlying T')=true/\R (e.put d (.tuple #[v,.bool true])) w K):MemK P N ⟨d,.typeAssert x T T' true,ty,pos,af,gd⟩ e w R K :=
 Qef fun a n ha=>by
  obtain ⟨v,hx,hu,hR⟩:=Qba ha h;refine ⟨_,w,n,?_,hR⟩;simp only [execOp,hx,Instr.typeAssert];cases hd:P.underlying T' with
  | none=>rw [hd] at hu;cases hu
  | some t=>cases t <;> first | (rw [hd] at hu;cases hu;done) | simp [run_underlying hd]
section
variable {P:Program}{w:World}{KV:Value->Prop}
theorem Qzb {T:TypeId}{ms:Array (String×TypeId)} (hu:P.underlying T=some (.interface ms)) (d:Nat) (t:TypeId) (v:Value) (w:World):(Op.equalIn (d+1) T (.iface t v) .nilIface).run P w=.ok false w:=by
 unfold Op.equalIn;simp [run_underlying hu]
theorem QF7 {T:TypeId}{ms:Array (String×TypeId)} (hu:P.underlying T=some (.interface ms)) (t:TypeId) (v:Value) (w:World):(Op.equal T (.iface t v) .nilIface).run P w=.ok false w:=Qzb hu 9999 t v w
theorem Qwg {T:TypeId}{ms:Array (String×TypeId)} (hu:P.underlying T=some (.interface ms)) (d:Nat) (w:World):(Op.equalIn (d+1) T .nilIface .nilIface).run P w=.ok true w:=by
 unfold Op.equalIn;simp [run_underlying hu]
theorem QDm {T:TypeId}{ms:Array (String×TypeId)} (hu:P.underlying T=some (.interface ms)) (w:World):(Op.equal T .nilIface .nilIface).run P w=.ok true w:=Qwg hu 9999 w
theorem QT2 {T:TypeId}{ms:Array (String×TypeId)} (hu:P.underlying T=some (.interface ms)) (t:TypeId) (v:Value) (xo yo:Operand):Qb9 P .neq T xo yo (.iface t v) .nilIface w KV=KV (.bool true):=by
 refine Qo9 fun w'=>?_;simp only [Xc];rw [Qgh ⟨by simp,by simp⟩];simp only [Y2,binOp,Xc,QF7 hu,Xp];rfl
theorem QQ9 {T:TypeId}{ms:Array (String×TypeId)} (hu:P.underlying T=some (.interface ms)) (xo:Operand) (c:Value):Qb9 P .neq T xo (.const c) .nilIface .nilIface w KV=KV (.bool false):=by
 refine Qo9 fun w'=>?_
 have hg:(eqGuard .neq T xo (.const c) .nilIface .nilIface).run P w'=.ok () w':=by
  unfold eqGuard;simp
 simp only [Xc];rw [hg];simp only [Y2,binOp,Xc,QDm hu,Xp];rfl
end
theorem Qs {P Q:Prop} (q:Q) (h:P=Q:=by simp only [go_sem,↓reduceIte,reduceEqDiff];exact rfl):P:=h.mpr q
theorem Qo {A B:Prop} (b:B) (a:A:=by omega):A/\B:=⟨a,b⟩
theorem Qp {A B C:Prop} (c:C) (a:A:=by omega) (b:B:=by omega):(A/\B)/\C:=⟨⟨a,b⟩,c⟩
theorem VQ {P:Program}{fn:Func}{F:Value->World->Prop}{N:Nat}{k k':List It}{e:Env}{w:World} (ks:List Nat) {c:Code}{id:Nat}{ops:List Oper}{Y:(Env->World->Prop)->Prop}
  (h:∀ K:Env->World->Prop,(∀ e w,VC ⟨P,fn,F,N⟩ k' e w->K e w)->Y K)
  (hp:peel c k=.code (.region id ops.toArray false)::k':=by rfl) (hN:ops.all (Qdy N)=true:=by rfl)
  (hY:∀ K,Qa5 P N ops ops e w (selC ks K)=Y K:=by intro K;simp only [go_sem,↓reduceIte,reduceEqDiff];exact rfl):VC ⟨P,fn,F,N⟩ (.code c::k) e w :=
 VR ks hp hN fun K hK=>(hY K).mpr (h K hK)
theorem VB {C:Ctx}{k k':List It}{e:Env}{w:World}{c d:Code}{id:Nat} (h:VC C (.code d::.blk id::k') e w) (hp:peel c k=.code (.block id d)::k':=by rfl):VC C (.code c::k) e w :=
 Qkr c k (hp ▸ Qac h)
theorem Vi {C:Ctx}{k:List It}{e:Env}{w:World}{t:Tmp}{b:Bool}{x y:Code} (ht:b=true->VC C (.code x::k) e w) (hf:b=false->VC C (.code y::k) e w) (hv:e.find? t=some (.bool b):=by rfl):VC C (.code (.cond (.tmp t) x y)::k) e w :=
 Qaf rfl hv ht hf
theorem Gc {w0 w:World}{B:List Nat}{G:List Res} (hH:Heap w0 B w G) {ad:Addr}{v:Value}{Q:Value->Prop} (q:Q v)
  (h:Heap w0 B w G->w.cell? ad=some v:=by intro hH;first | exact Qah (hH.at 0 rfl) rfl | exact Qa1 (hH.at 0 rfl) (bytesV_get (by omega)) | exact Qa1 (hH.at 0 rfl) (Qc7 (by omega)) | exact Qah (hH.at 1 rfl) rfl | exact Qa1 (hH.at 1 rfl) (bytesV_get (by omega)) | exact Qa1 (hH.at 1 rfl) (Qc7 (by omega)) | exact Qah (hH.at 2 rfl) rfl | exact Qa1 (hH.at 2 rfl) (bytesV_get (by omega)) | exact Qa1 (hH.at 2 rfl) (Qc7 (by omega)) | exact Qah (hH.at 3 rfl) rfl | exact Qa1 (hH.at 3 rfl) (bytesV_get (by omega)) | exact Qa1 (hH.at 3 rfl) (Qc7 (by omega))) :
  ∃ v,w.cell? ad=some v/\Q v:=⟨v,h hH,q⟩
theorem Qi {P Q:Prop} (q:Q) (h:P=Q:=by simp -implicitDefEqProofs only [go_sem,↓reduceIte,reduceEqDiff];exact rfl):P:=h.mpr q
theorem VQi {P:Program}{fn:Func}{F:Value->World->Prop}{N:Nat}{k k':List It}{e:Env}{w:World} (ks:List Nat) {c:Code}{id:Nat}{ops:List Oper}{Y:(Env->World->Prop)->Prop}
  (h:∀ K:Env->World->Prop,(∀ e w,VC ⟨P,fn,F,N⟩ k' e w->K e w)->Y K) (hp:peel c k=.code (.region id ops.toArray false)::k':=by rfl) (hN:ops.all (Qdy N)=true:=by rfl)
  (hY:∀ K,Qa5 P N ops ops e w (selC ks K)=Y K:=by intro K;simp -implicitDefEqProofs only [go_sem,↓reduceIte,reduceEqDiff];exact rfl):VC ⟨P,fn,F,N⟩ (.code c::k) e w:=VR ks hp hN fun K hK=>(hY K).mpr (h K hK)
theorem VL {P:Program}{fn:Func}{F:Value->World->Prop}{N:Nat}{k k':List It}{e:Env}{w:World} (ks:List Nat) (m:Nat) {c:Code}{id:Nat}{ops:List Oper}{Y:(Env->World->Prop)->Prop}
  (h:∀ K:Env->World->Prop,(∀ e w,VC ⟨P,fn,F,N⟩ k' e w->K e w)->Y K) (hp:peel c k=.code (.region id ops.toArray true)::k':=by rfl) (hm:P.follows .mixedOrders=true:=by kernel_rfl)
  (hB:Region.lexTailB .any ops.toArray m=true:=by kernel_rfl) (hq:(ops.take m).all (fun o=>Qf1 P o.op)=true:=by kernel_rfl) (hN:ops.all (Qdy N)=true:=by rfl)
  (hY:∀ K,Qa5 P N ops ops e w (selC ks K)=Y K:=by intro K;simp only [go_sem,↓reduceIte,reduceEqDiff];exact rfl):VC ⟨P,fn,F,N⟩ (.code c::k) e w:=Qkr c k (hp ▸ Qj6 ks m hm hB hq hN fun K hK=>(hY K).mpr (h K hK))
theorem Vq {P:Program}{fn:Func}{F:Value->World->Prop}{N:Nat}{k k':List It}{e:Env}{w:World} (ks:List Nat) {c:Code}{id:Nat}{ops:List Oper}{Y:(Env->Prop)->Prop}
  (h:∀ K:Env->Prop,(∀ e,VC ⟨P,fn,F,N⟩ k' e w->K e)->Y K) (hp:peel c k=.code (.region id ops.toArray true)::k':=by rfl) (hm:P.follows .mixedOrders=true:=by kernel_rfl)
  (hB:Region.lexB .any ops.toArray=true:=by kernel_rfl) (hN:ops.all (Qdy N)=true:=by rfl)
  (hY:∀ K,vcQ P N ops ops e w (selQ ks K)=Y K:=by intro K;simp only [go_sem,↓reduceIte,reduceEqDiff];exact rfl):VC ⟨P,fn,F,N⟩ (.code c::k) e w:=Qkr c k (hp ▸ QCu ks hm hB hN fun K hK=>(hY K).mpr (h K hK))
theorem VH {P:Program}{fn:Func}{F:Value->World->Prop}{N:Nat}{k k':List It}{e:Env}{w:World} (w0:World) (hx:Ext w0 w) (ks:List Nat) (plan:List (Nat×Bool)) {c:Code}{id:Nat}{ops:List Oper}{l:List (Bool×Oper)}{Y:(Env->World->Prop)->Prop}
  (h:∀ K:Env->World->Prop,(∀ e w,VC ⟨P,fn,F,N⟩ k' e w->K e w)->Y K) (hp:peel c k=.code (.region id ops.toArray true)::k':=by rfl) (hm:P.follows .mixedOrders=true:=by kernel_rfl)
  (hB:(Qo5 ops.toArray plan (Array.replicate ops.toArray.size false) && Region.noSelect ops.toArray && decide (plan.length<=ops.length))=true:=by kernel_rfl) (hN:ops.all (Qdy N)=true:=by rfl) (hl:Qbd ops plan=l:=by simp only [Qbd,List.filterMap_cons,List.filterMap_nil,List.getElem?_cons_succ,List.getElem?_cons_zero,Option.map_some];rfl)
  (hY:∀ K,vcH P N ops w0 l e w (selC ks K)=Y K:=by intro K;simp only [go_sem,↓reduceIte,reduceEqDiff];exact rfl):VC ⟨P,fn,F,N⟩ (.code c::k) e w:=Qkr c k (hp ▸ QC7 w0 hx ks plan hm hB hN hl fun K hK=>(hY K).mpr (h K hK))
theorem Vb {P:Program}{fn:Func}{F:Value->World->Prop}{N:Nat}{k k':List It}{e:Env}{w:World} (ks:List Nat) (plan:List (Nat×Nat)) {c:Code}{id:Nat}{ops:List Oper}{l:List (Bool×Oper)}{Y:(Env->World->Prop)->Prop}
  (h:∀ K:Env->World->Prop,(∀ e w,VC ⟨P,fn,F,N⟩ k' e w->K e w)->Y K) (hp:peel c k=.code (.region id ops.toArray true)::k':=by rfl) (hm:P.follows .mixedOrders=true:=by kernel_rfl)
  (hB:(QDe ops.toArray plan (Array.replicate ops.toArray.size false) && Region.noSelect ops.toArray && decide (plan.length<=ops.length))=true:=by kernel_rfl) (hN:ops.all (Qdy N)=true:=by kernel_rfl) (hl:Qbd ops (plan.map fun p=>(p.1,p.2 == 0))=l:=by simp only [Qbd,List.map_cons,List.map_nil,beq_self_eq_true,Nat.reduceBEq,List.filterMap_cons,List.filterMap_nil,List.getElem?_cons_succ,List.getElem?_cons_zero,Option.map_some];rfl)
  (hY:∀ K,vcH P N ops (bare w) l e w (selC ks K)=Y K:=by intro K;simp only [go_sem,↓reduceIte,reduceEqDiff];exact rfl):VC ⟨P,fn,F,N⟩ (.code c::k) e w:=Qkr c k (hp ▸ Qms ks plan hm hB hN hl fun K hK=>(hY K).mpr (h K hK))
theorem V3 {P:Program}{fn:Func}{F:Value->World->Prop}{N:Nat}{k k':List It}{e:Env}{w:World} (w0:World) (hx:Ext w0 w) (ks:List Nat) (t:Qq5) {c:Code}{id:Nat}{ops:List Oper}
  (h:∀ K:Env->World->Prop,(∀ e w,VC ⟨P,fn,F,N⟩ k' e w->K e w)->vcT3 P N ops w0 t e w (selC ks K)) (hp:peel c k=.code (.region id ops.toArray true)::k':=by rfl) (hm:P.follows .mixedOrders=true:=by kernel_rfl)
  (hB:(Qha ops.toArray t ops.toArray.size (Array.replicate ops.toArray.size false) && Region.noSelect ops.toArray)=true:=by kernel_rfl) (hN:ops.all (Qdy N)=true:=by rfl):VC ⟨P,fn,F,N⟩ (.code c::k) e w:=Qkr c k (hp ▸ Qy4 w0 hx ks t hm hB hN h)
theorem QF8 {C:CtxG}{e:Env}{w:World}:∀ (c:Code) (k:List It),VG C (peel c k) e w->VG C (.code c::k) e w:=by
 intro c
 induction c with
 | seq a b iha ihb=>intro k h;exact Qdg (iha _ h)
 | _=>intro k h;exact h
theorem GQ {C:CtxG}{k k':List It}{e:Env}{w:World} (ks:List Nat) {c:Code}{id:Nat}{ops:List Oper}{Y:(Env->World->Prop)->Prop}
  (h:∀ K:Env->World->Prop,(∀ e w,VG C k' e w->K e w)->Y K) (hp:peel c k=.code (.region id ops.toArray false)::k':=by rfl) (hN:(ops.all (Qdy C.N) && ops.all Qe2)=true:=by kernel_rfl)
  (hY:∀ K,Qa5 C.P C.N ops ops e w (selC ks K)=Y K:=by intro K;simp only [go_sem,↓reduceIte,reduceEqDiff];exact rfl):VG C (.code c::k) e w:=QF8 c k (hp ▸ Qv7 ks hN fun K hK=>(hY K).mpr (h K hK))
theorem En {P:Program}{f:FuncId}{fn:Func}{c:Code}{w:World}{F:Value->World->Prop}{E:Env} (args:List Value) (N:Nat) (hf:P.funcs[f]? = some fn) (h:VC ⟨P,fn,F,N⟩ [.code c] E w)
  (hb:fn.body=some c:=by rfl) (hN:fn.ntmps=N:=by rfl) (hle:args.length<=N:=by exact of_decide_eq_true rfl) (hE:Env.ofArgs 0 args=E:=by simp only [Env.ofArgs];exact rfl):Does P f args.toArray w F :=
 Qdx N hf hb hN hle (hE ▸ h)
theorem VD {C:Ctx}{k:List It}{e:Env}{w:World}{t:Tmp}{p:Prop}{d:Decidable p}{x y:Code} (ht:p->VC C (.code x::k) e w) (hf:¬p->VC C (.code y::k) e w) (hv:e.find? t=some (.bool (decide p)):=by rfl):VC C (.code (.cond (.tmp t) x y)::k) e w :=
 Qaf rfl hv (fun h=>ht (of_decide_eq_true h)) fun h=>hf (of_decide_eq_false h)
theorem VS {P:Program}{fn:Func}{F:Value->World->Prop}{N:Nat}{k k':List It}{e e':Env}{w w':World} (ks:List Nat) {c:Code}{id:Nat}{ops:List Oper} (h:VC ⟨P,fn,F,N⟩ k' e' w')
  (hp:peel c k=.code (.region id ops.toArray false)::k':=by rfl) (hN:ops.all (Qdy N)=true:=by rfl)
  (hY:∀ K:Env->World->Prop,K e' w'->Qa5 P N ops ops e w (selC ks K):=by intro K h;simp only [go_sem,↓reduceIte,reduceEqDiff];(repeat refine Qo ?_);exact h):VC ⟨P,fn,F,N⟩ (.code c::k) e w :=
 VR ks hp hN fun K hK=>hY K (hK _ _ h)
theorem GS {C:CtxG}{k k':List It}{e e':Env}{w w':World} (ks:List Nat) {c:Code}{id:Nat}{ops:List Oper} (h:VG C k' e' w')
  (hp:peel c k=.code (.region id ops.toArray false)::k':=by rfl) (hN:(ops.all (Qdy C.N) && ops.all Qe2)=true:=by kernel_rfl)
  (hY:∀ K:Env->World->Prop,K e' w'->Qa5 C.P C.N ops ops e w (selC ks K):=by intro K h;simp only [go_sem,↓reduceIte,reduceEqDiff];(repeat refine Qo ?_);exact h):VG C (.code c::k) e w :=
 QF8 c k (hp ▸ Qv7 ks hN fun K hK=>hY K (hK _ _ h))
end Go.Eng
namespace Go.Proofs.YthcdlcdnchaoiaaGreat
open Go Go.Eng
section
variable {w:World}{KV:Value->Prop}
theorem sz3:Ya.szo 3=some 1:=by kernel_rfl
theorem ld3 (a:Addr):Qcj Ya 3 (.pointer (some a)) w KV=∃ v,w.cell? a=some v/\KV v:=Qrv 3 a .i64 Yt
theorem QT3 (k:IntKind) (n:Int):Qfr Ya 3 5 (.int k n) w KV=Qep .u8 n KV:=Qhp 3 5 _ .u8 k n Yt Y7
theorem QT4:Qb1 Ya 3 5=true:=by kernel_rfl
theorem QRa (k:IntKind) (n:Int):Qfr Ya 3 41 (.int k n) w KV=Qep .u32 n KV:=Qhp 3 41 _ .u32 k n Yt Xd
theorem QRb:Qb1 Ya 3 41=true:=by kernel_rfl
theorem QRc (k:IntKind) (n:Int):Qfr Ya 3 46 (.int k n) w KV=Qep .u64 n KV:=Qhp 3 46 _ .u64 k n Yt Y3
theorem QRd:Qb1 Ya 3 46=true:=by kernel_rfl
theorem QRe (k:IntKind) (n:Int):Qfr Ya 3 78 (.int k n) w KV=Qep .u64 n KV:=Qhp 3 78 _ .u64 k n Yt Ul
theorem QRf:Qb1 Ya 3 78=true:=by kernel_rfl
theorem QNm (k:IntKind) (n:Int):Qfr Ya 3 197 (.int k n) w KV=Qep .u64 n KV:=Qhp 3 197 _ .u64 k n Yt Gt
theorem QNn:Qb1 Ya 3 197=true:=by kernel_rfl
theorem sz4:Ya.szo 4=some 1:=by kernel_rfl
theorem ld4 (a:Addr):Qcj Ya 4 (.pointer (some a)) w KV=∃ v,w.cell? a=some v/\KV v:=QM3 4 a Uu
theorem QT5 (x y:Operand) (a b:Bool):Qb9 Ya .eql 4 x y (.bool a) (.bool b) w KV=KV (.bool (decide (a=b))):=QQn 4 x y a b Uu
theorem QT6 (x y:Operand) (a b:Bool):Qb9 Ya .neq 4 x y (.bool a) (.bool b) w KV=KV (.bool (decide (¬ a=b))):=QQo 4 x y a b Uu
theorem sz5:Ya.szo 5=some 1:=by kernel_rfl
theorem ld5 (a:Addr):Qcj Ya 5 (.pointer (some a)) w KV=∃ v,w.cell? a=some v/\KV v:=Qrv 5 a .u8 Y7
theorem QT7 (k:IntKind) (n:Int):Qfr Ya 5 3 (.int k n) w KV=Qep .i64 n KV:=Qhp 5 3 _ .i64 k n Y7 Yt
theorem QT8:Qb1 Ya 5 3=true:=by kernel_rfl
theorem QRg (k:IntKind) (n:Int):Qfr Ya 5 46 (.int k n) w KV=Qep .u64 n KV:=Qhp 5 46 _ .u64 k n Y7 Y3
theorem QRh:Qb1 Ya 5 46=true:=by kernel_rfl
theorem sz9:Ya.szo 9=some 1:=by kernel_rfl
theorem ln9 (s:ByteArray):vLen Ya 9 (.string s) KV=KV (.int .i64 (toL s).length):=QQp 9 s Yy
theorem ix9 (s:ByteArray) (k:IntKind) (n:Int):Qez Ya 9 (.string s) (.int k n) KV=((0<=n/\n < (toL s).length)/\KV (.int .u8 ((toL s).getD n.toNat 0).toNat)):=QQq 9 s k n Yy
theorem snn9 (s:ByteArray):Qcl Ya 9 (.string s) none none KV=KV (.string s):=QTv 9 s Yy
theorem sln9 (s:ByteArray) (k:IntKind) (l:Int):Qcl Ya 9 (.string s) (some (.int k l)) none KV=((0<=l/\l<=(toL s).length)/\KV (Str ((toL s).drop l.toNat))):=QTw 9 s k l Yy
theorem snh9 (s:ByteArray) (k:IntKind) (l:Int):Qcl Ya 9 (.string s) none (some (.int k l)) KV=((0<=l/\l<=(toL s).length)/\KV (Str ((toL s).take l.toNat))):=QTx 9 s k l Yy
theorem slh9 (s:ByteArray) (k k':IntKind) (l m:Int):Qcl Ya 9 (.string s) (some (.int k l)) (some (.int k' m)) KV=((0<=l/\l<=m/\m<=(toL s).length)/\KV (Str (((toL s).drop l.toNat).take (m.toNat - l.toNat)))):=QTy 9 s k k' l m Yy
theorem ld9 (a:Addr):Qcj Ya 9 (.pointer (some a)) w KV=∃ v,w.cell? a=some v/\KV v:=QQs 9 a Yy
theorem sz20:Ya.szo 20=some 1:=by kernel_rfl
theorem sz23:Ya.szo 23=some 1:=by kernel_rfl
theorem ld23 (a:Addr):Qcj Ya 23 (.pointer (some a)) w KV=∃ v,w.cell? a=some v/\KV v:=Qrv 23 a .i64 Tryz.underlying23
theorem sz30:Ya.szo 30=some 1:=by kernel_rfl
theorem QT9 (a:Addr):Qcj Ya 30 (.pointer (some a)) w KV=∃ v,w.cell? a=some v/\KV v:=QQu 30 _ _ _ a Tryz.underlying30
theorem sz31:Ya.szo 31=some 1:=by kernel_rfl
theorem ln31 (a:Option Addr) (n c:Nat):vLen Ya 31 (.slice a n c) KV=KV (.int .i64 n):=QC2 31 5 a n c Yv
theorem QUa (a:Option Addr) (n c:Nat):Qcl Ya 31 (.slice a n c) none none KV=(n<=c/\KV (.slice a n c)):=QMz 31 5 a n c 1 Yv (by kernel_rfl)
theorem QUb (a:Option Addr) (n c:Nat) (k:IntKind) (l:Int):Qcl Ya 31 (.slice a n c) (some (.int k l)) none KV=((0<=l/\l<=n/\n<=c)/\KV (.slice (if c=l.toNat then a else a.map (·.add (l.toNat * 1))) (n - l.toNat) (c - l.toNat))):=QM0 31 5 a n c 1 k l Yv (by kernel_rfl)
theorem QUc (a:Option Addr) (n c:Nat) (k:IntKind) (l:Int):Qcl Ya 31 (.slice a n c) none (some (.int k l)) KV=((0<=l/\l<=c)/\KV (.slice a l.toNat c)):=QM1 31 5 a n c 1 k l Yv (by kernel_rfl)
theorem QUd (a:Option Addr) (n c:Nat) (k k':IntKind) (l m:Int):Qcl Ya 31 (.slice a n c) (some (.int k l)) (some (.int k' m)) KV=((0<=l/\l<=m/\m<=c)/\KV (.slice (if c=l.toNat then a else a.map (·.add (l.toNat * 1))) (m.toNat - l.toNat) (c - l.toNat))):=QM2 31 5 a n c 1 k k' l m Yv (by kernel_rfl)
theorem ia31 (a:Addr) (n c:Nat) (k:IntKind) (i:Int):Qbk Ya 31 (.slice (some a) n c) (.int k i) KV=((0<=i/\i < n)/\KV (.pointer (some (a.add (i.toNat * 1))))):=Qyt 31 5 a n c 1 k i Yv (by kernel_rfl)
theorem ld31 (a:Addr):Qcj Ya 31 (.pointer (some a)) w KV=∃ v,w.cell? a=some v/\KV v:=QC4 31 5 a Yv
theorem QRi (a:Option Addr) (n c:Nat):Qfr Ya 31 9 (.slice a n c) w KV=∃ l,Qh6 w a n l/\KV (Str l):=QQr 31 9 5 a n c Yv Yy Y7
theorem QRj:Qb1 Ya 31 9=true:=by kernel_rfl
theorem QRk:Qb1 Ya 9 31=false:=by kernel_rfl
theorem sz33:Ya.szo 33=some 2:=by kernel_rfl
theorem ld33 (a:Addr):Qcj Ya 33 (.pointer (some a)) w KV=∃ cs:List Value,(cs.length=2/\Reads w a cs)/\KV (.agg cs.toArray):=QFl 33 2 a _ Xk (by kernel_rfl)
theorem bd33 (s0:ByteArray) (n1:Int):Qd4 Ya 33 [(0,.string s0),(1,.int .i64 n1)] KV=KV (.agg #[.string s0,.int .i64 n1]):=Qi9 (by kernel_rfl)
theorem bz33:Qd4 Ya 33 [] KV=KV (.agg #[.string ⟨#[]⟩,.int .i64 0]):=Qi9 (by kernel_rfl)
theorem QRl (l:List Value):Qdf Ya 33 (.agg l.toArray) 0 KV=vNth l 0 KV:=Qeh 33 0 l Xk rfl (by kernel_rfl) (by kernel_rfl) (by kernel_rfl)
theorem QRm (a:Addr):Qa8 Ya 33 (.pointer (some a)) 0 KV=KV (.pointer (some (a.add 0))):=Qhn 33 0 a (m:=0) Xk rfl (by kernel_rfl)
theorem QRn (l:List Value):Qdf Ya 33 (.agg l.toArray) 1 KV=vNth l 1 KV:=Qeh 33 1 l Xk rfl (by kernel_rfl) (by kernel_rfl) (by kernel_rfl)
theorem QRo (a:Addr):Qa8 Ya 33 (.pointer (some a)) 1 KV=KV (.pointer (some (a.add 1))):=Qhn 33 1 a (m:=0) Xk rfl (by kernel_rfl)
theorem sz34:Ya.szo 34=some 1:=by kernel_rfl
theorem ln34 (a:Option Addr) (n c:Nat):vLen Ya 34 (.slice a n c) KV=KV (.int .i64 n):=QC2 34 33 a n c Um
theorem ia34 (a:Addr) (n c:Nat) (k:IntKind) (i:Int):Qbk Ya 34 (.slice (some a) n c) (.int k i) KV=((0<=i/\i < n)/\KV (.pointer (some (a.add (i.toNat * 2))))):=Qyt 34 33 a n c 2 k i Um (by kernel_rfl)
theorem ld34 (a:Addr):Qcj Ya 34 (.pointer (some a)) w KV=∃ v,w.cell? a=some v/\KV v:=QC4 34 33 a Um
theorem sz35:Ya.szo 35=some 1:=by kernel_rfl
theorem ln35 (a:Option Addr) (n c:Nat):vLen Ya 35 (.slice a n c) KV=KV (.int .i64 n):=QC2 35 41 a n c Un
theorem ia35 (a:Addr) (n c:Nat) (k:IntKind) (i:Int):Qbk Ya 35 (.slice (some a) n c) (.int k i) KV=((0<=i/\i < n)/\KV (.pointer (some (a.add (i.toNat * 1))))):=Qyt 35 41 a n c 1 k i Un (by kernel_rfl)
theorem ld35 (a:Addr):Qcj Ya 35 (.pointer (some a)) w KV=∃ v,w.cell? a=some v/\KV v:=QC4 35 41 a Un
theorem sz41:Ya.szo 41=some 1:=by kernel_rfl
theorem ld41 (a:Addr):Qcj Ya 41 (.pointer (some a)) w KV=∃ v,w.cell? a=some v/\KV v:=Qrv 41 a .u32 Xd
theorem QRp (k:IntKind) (n:Int):Qfr Ya 41 5 (.int k n) w KV=Qep .u8 n KV:=Qhp 41 5 _ .u8 k n Xd Y7
theorem QRq:Qb1 Ya 41 5=true:=by kernel_rfl
theorem QNo (k:IntKind) (n:Int):Qfr Ya 41 46 (.int k n) w KV=Qep .u64 n KV:=Qhp 41 46 _ .u64 k n Xd Y3
theorem QNp:Qb1 Ya 41 46=true:=by kernel_rfl
theorem sz43:Ya.szo 43=some 1:=by kernel_rfl
theorem pe43 (a:Option Addr) (xo yo:Operand):Qb9 Ya .eql 43 xo yo (.pointer a) (.pointer none) w KV=KV (.bool a.isNone):=QBb G3 a xo yo
theorem pn43 (a:Option Addr) (xo yo:Operand):Qb9 Ya .neq 43 xo yo (.pointer a) (.pointer none) w KV=KV (.bool !a.isNone):=QLi G3 a xo yo
theorem sz46:Ya.szo 46=some 1:=by kernel_rfl
theorem ld46 (a:Addr):Qcj Ya 46 (.pointer (some a)) w KV=∃ v,w.cell? a=some v/\KV v:=Qrv 46 a .u64 Y3
theorem QRr (k:IntKind) (n:Int):Qfr Ya 46 3 (.int k n) w KV=Qep .i64 n KV:=Qhp 46 3 _ .i64 k n Y3 Yt
theorem QRs:Qb1 Ya 46 3=true:=by kernel_rfl
theorem QRt (k:IntKind) (n:Int):Qfr Ya 46 5 (.int k n) w KV=Qep .u8 n KV:=Qhp 46 5 _ .u8 k n Y3 Y7
theorem QRu:Qb1 Ya 46 5=true:=by kernel_rfl
theorem QNq (k:IntKind) (n:Int):Qfr Ya 46 41 (.int k n) w KV=Qep .u32 n KV:=Qhp 46 41 _ .u32 k n Y3 Xd
theorem QNr:Qb1 Ya 46 41=true:=by kernel_rfl
theorem sz51:Ya.szo 51=some 1:=by kernel_rfl
theorem ln51 (a:Option Addr) (n c:Nat):vLen Ya 51 (.slice a n c) KV=KV (.int .i64 n):=QC2 51 3 a n c Yo
theorem QUe (a:Option Addr) (n c:Nat):Qcl Ya 51 (.slice a n c) none none KV=(n<=c/\KV (.slice a n c)):=QMz 51 3 a n c 1 Yo (by kernel_rfl)
theorem QUf (a:Option Addr) (n c:Nat) (k:IntKind) (l:Int):Qcl Ya 51 (.slice a n c) (some (.int k l)) none KV=((0<=l/\l<=n/\n<=c)/\KV (.slice (if c=l.toNat then a else a.map (·.add (l.toNat * 1))) (n - l.toNat) (c - l.toNat))):=QM0 51 3 a n c 1 k l Yo (by kernel_rfl)
theorem QUg (a:Option Addr) (n c:Nat) (k:IntKind) (l:Int):Qcl Ya 51 (.slice a n c) none (some (.int k l)) KV=((0<=l/\l<=c)/\KV (.slice a l.toNat c)):=QM1 51 3 a n c 1 k l Yo (by kernel_rfl)
theorem QUh (a:Option Addr) (n c:Nat) (k k':IntKind) (l m:Int):Qcl Ya 51 (.slice a n c) (some (.int k l)) (some (.int k' m)) KV=((0<=l/\l<=m/\m<=c)/\KV (.slice (if c=l.toNat then a else a.map (·.add (l.toNat * 1))) (m.toNat - l.toNat) (c - l.toNat))):=QM2 51 3 a n c 1 k k' l m Yo (by kernel_rfl)
theorem ia51 (a:Addr) (n c:Nat) (k:IntKind) (i:Int):Qbk Ya 51 (.slice (some a) n c) (.int k i) KV=((0<=i/\i < n)/\KV (.pointer (some (a.add (i.toNat * 1))))):=Qyt 51 3 a n c 1 k i Yo (by kernel_rfl)
theorem ld51 (a:Addr):Qcj Ya 51 (.pointer (some a)) w KV=∃ v,w.cell? a=some v/\KV v:=QC4 51 3 a Yo
theorem sz68:Ya.szo 68=some 1:=by kernel_rfl
theorem ln68 (a:Option Addr) (n c:Nat):vLen Ya 68 (.slice a n c) KV=KV (.int .i64 n):=QC2 68 51 a n c Uo
theorem ia68 (a:Addr) (n c:Nat) (k:IntKind) (i:Int):Qbk Ya 68 (.slice (some a) n c) (.int k i) KV=((0<=i/\i < n)/\KV (.pointer (some (a.add (i.toNat * 1))))):=Qyt 68 51 a n c 1 k i Uo (by kernel_rfl)
theorem ld68 (a:Addr):Qcj Ya 68 (.pointer (some a)) w KV=∃ v,w.cell? a=some v/\KV v:=QC4 68 51 a Uo
theorem sz70:Ya.szo 70=some 2:=by kernel_rfl
theorem ld70 (a:Addr):Qcj Ya 70 (.pointer (some a)) w KV=∃ cs:List Value,(cs.length=2/\Reads w a cs)/\KV (.agg cs.toArray):=QFl 70 2 a _ Xl (by kernel_rfl)
theorem bd70 (a0:Option Addr) (n0 c0:Nat) (a1:Option Addr) (n1 c1:Nat):Qd4 Ya 70 [(0,.slice a0 n0 c0),(1,.slice a1 n1 c1)] KV=KV (.agg #[.slice a0 n0 c0,.slice a1 n1 c1]):=Qi9 (by kernel_rfl)
theorem bz70:Qd4 Ya 70 [] KV=KV (.agg #[.slice none 0 0,.slice none 0 0]):=Qi9 (by kernel_rfl)
theorem QRv (l:List Value):Qdf Ya 70 (.agg l.toArray) 0 KV=vNth l 0 KV:=Qeh 70 0 l Xl rfl (by kernel_rfl) (by kernel_rfl) (by kernel_rfl)
theorem QRw (a:Addr):Qa8 Ya 70 (.pointer (some a)) 0 KV=KV (.pointer (some (a.add 0))):=Qhn 70 0 a (m:=0) Xl rfl (by kernel_rfl)
theorem QRx (l:List Value):Qdf Ya 70 (.agg l.toArray) 1 KV=vNth l 1 KV:=Qeh 70 1 l Xl rfl (by kernel_rfl) (by kernel_rfl) (by kernel_rfl)
theorem QRy (a:Addr):Qa8 Ya 70 (.pointer (some a)) 1 KV=KV (.pointer (some (a.add 1))):=Qhn 70 1 a (m:=0) Xl rfl (by kernel_rfl)
theorem sz77:Ya.szo 77=some 2:=by kernel_rfl
theorem bd77 (a0:Option Addr) (n0 c0:Nat) (n1:Int):Qd4 Ya 77 [(0,.slice a0 n0 c0),(1,.int .i64 n1)] KV=KV (.agg #[.slice a0 n0 c0,.int .i64 n1]):=Qi9 (by kernel_rfl)
theorem bz77:Qd4 Ya 77 [] KV=KV (.agg #[.slice none 0 0,.int .i64 0]):=Qi9 (by kernel_rfl)
theorem QRz (l:List Value):Qdf Ya 77 (.agg l.toArray) 0 KV=vNth l 0 KV:=Qeh 77 0 l Xx rfl (by kernel_rfl) (by kernel_rfl) (by kernel_rfl)
theorem QR0 (a:Addr):Qa8 Ya 77 (.pointer (some a)) 0 KV=KV (.pointer (some (a.add 0))):=Qhn 77 0 a (m:=0) Xx rfl (by kernel_rfl)
theorem QR1 (l:List Value):Qdf Ya 77 (.agg l.toArray) 1 KV=vNth l 1 KV:=Qeh 77 1 l Xx rfl (by kernel_rfl) (by kernel_rfl) (by kernel_rfl)
theorem QR2 (a:Addr):Qa8 Ya 77 (.pointer (some a)) 1 KV=KV (.pointer (some (a.add 1))):=Qhn 77 1 a (m:=0) Xx rfl (by kernel_rfl)
theorem sz78:Ya.szo 78=some 1:=by kernel_rfl
theorem QR3 (k:IntKind) (n:Int):Qfr Ya 78 3 (.int k n) w KV=Qep .i64 n KV:=Qhp 78 3 _ .i64 k n Ul Yt
theorem QR4:Qb1 Ya 78 3=true:=by kernel_rfl
theorem QNs (k:IntKind) (n:Int):Qfr Ya 78 41 (.int k n) w KV=Qep .u32 n KV:=Qhp 78 41 _ .u32 k n Ul Xd
theorem QNt:Qb1 Ya 78 41=true:=by kernel_rfl
theorem sz80:Ya.szo 80=some 1:=by kernel_rfl
theorem pe80 (a:Option Addr) (xo yo:Operand):Qb9 Ya .eql 80 xo yo (.pointer a) (.pointer none) w KV=KV (.bool a.isNone):=QBb Up a xo yo
theorem pn80 (a:Option Addr) (xo yo:Operand):Qb9 Ya .neq 80 xo yo (.pointer a) (.pointer none) w KV=KV (.bool !a.isNone):=QLi Up a xo yo
theorem ld80 (a:Addr):Qcj Ya 80 (.pointer (some a)) w KV=∃ v,w.cell? a=some v/\KV v:=QQt 80 112 a Up
theorem sz99:Ya.szo 99=some 256:=by kernel_rfl
theorem QUi (l:List Value) (k:IntKind) (i:Int):Qez Ya 99 (.agg l.toArray) (.int k i) KV=((0<=i/\i < ((256:Nat):Int))/\vNth l i.toNat KV):=Qr1 99 l k i G4 (by kernel_rfl) (by kernel_rfl) (by kernel_rfl)
theorem ia99 (a:Addr) (k:IntKind) (i:Int):Qbk Ya 99 (.pointer (some a)) (.int k i) KV=((0<=i/\i < ((256:Nat):Int))/\KV (.pointer (some (a.add (i.toNat * 1))))):=QC3 99 4 a 256 1 k i G4 (by kernel_rfl)
theorem QUj:Ya.szo 103=some 16:=by kernel_rfl
theorem QUk (a:Addr):Qcj Ya 103 (.pointer (some a)) w KV=∃ cs:List Value,(cs.length=16/\Reads w a cs)/\KV (.agg cs.toArray):=QM4 103 16 16 46 a Uf (by kernel_rfl)
theorem QR5 (l:List Value) (k:IntKind) (i:Int):Qez Ya 103 (.agg l.toArray) (.int k i) KV=((0<=i/\i < ((16:Nat):Int))/\vNth l i.toNat KV):=Qr1 103 l k i Uf (by kernel_rfl) (by kernel_rfl) (by kernel_rfl)
theorem QUl (a:Addr) (k:IntKind) (i:Int):Qbk Ya 103 (.pointer (some a)) (.int k i) KV=((0<=i/\i < ((16:Nat):Int))/\KV (.pointer (some (a.add (i.toNat * 1))))):=QC3 103 46 a 16 1 k i Uf (by kernel_rfl)
theorem QUm:Ya.szo 108=some 256:=by kernel_rfl
theorem QUn (a:Addr):Qcj Ya 108 (.pointer (some a)) w KV=∃ cs:List Value,(cs.length=256/\Reads w a cs)/\KV (.agg cs.toArray):=QM4 108 256 256 41 a Ug (by kernel_rfl)
theorem QR6 (l:List Value) (k:IntKind) (i:Int):Qez Ya 108 (.agg l.toArray) (.int k i) KV=((0<=i/\i < ((256:Nat):Int))/\vNth l i.toNat KV):=Qr1 108 l k i Ug (by kernel_rfl) (by kernel_rfl) (by kernel_rfl)
theorem QUo (a:Addr) (k:IntKind) (i:Int):Qbk Ya 108 (.pointer (some a)) (.int k i) KV=((0<=i/\i < ((256:Nat):Int))/\KV (.pointer (some (a.add (i.toNat * 1))))):=QC3 108 41 a 256 1 k i Ug (by kernel_rfl)
theorem QUp:Ya.szo 110=some 1:=by kernel_rfl
theorem QR7 (a:Addr):Qcj Ya 110 (.pointer (some a)) w KV=∃ v,w.cell? a=some v/\KV v:=QQu 110 _ _ _ a Gu
theorem QUq (f:Fn) (x y:Array Value) (xo yo:Operand):Qb9 Ya .eql 110 xo yo (.func f x y) .nilFunc w KV=KV (.bool false):=QQ4 Gu f x y xo yo
theorem QUr:Ya.szo 112=some 3:=by kernel_rfl
theorem QUs (f0:Fn) (x0 y0:Array Value) (n1:Int) (n2:Int):Qd4 Ya 112 [(0,.func f0 x0 y0),(1,.int .i64 n1),(2,.int .i64 n2)] KV=KV (.agg #[.func f0 x0 y0,.int .i64 n1,.int .i64 n2]):=Qi9 (by kernel_rfl)
theorem QUt:Qd4 Ya 112 [] KV=KV (.agg #[.nilFunc,.int .i64 0,.int .i64 0]):=Qi9 (by kernel_rfl)
theorem QNu (l:List Value):Qdf Ya 112 (.agg l.toArray) 0 KV=vNth l 0 KV:=Qeh 112 0 l Y9 rfl (by kernel_rfl) (by kernel_rfl) (by kernel_rfl)
theorem QNv (a:Addr):Qa8 Ya 112 (.pointer (some a)) 0 KV=KV (.pointer (some (a.add 0))):=Qhn 112 0 a (m:=0) Y9 rfl (by kernel_rfl)
theorem QNw (l:List Value):Qdf Ya 112 (.agg l.toArray) 1 KV=vNth l 1 KV:=Qeh 112 1 l Y9 rfl (by kernel_rfl) (by kernel_rfl) (by kernel_rfl)
theorem QNx (a:Addr):Qa8 Ya 112 (.pointer (some a)) 1 KV=KV (.pointer (some (a.add 1))):=Qhn 112 1 a (m:=0) Y9 rfl (by kernel_rfl)
theorem QNy (l:List Value):Qdf Ya 112 (.agg l.toArray) 2 KV=vNth l 2 KV:=Qeh 112 2 l Y9 rfl (by kernel_rfl) (by kernel_rfl) (by kernel_rfl)
theorem QNz (a:Addr):Qa8 Ya 112 (.pointer (some a)) 2 KV=KV (.pointer (some (a.add 2))):=Qhn 112 2 a (m:=0) Y9 rfl (by kernel_rfl)
theorem QUu:Ya.szo 122=some 1:=by kernel_rfl
theorem QUv (a:Addr) (n c:Nat) (k:IntKind) (i:Int):Qbk Ya 122 (.slice (some a) n c) (.int k i) KV=((0<=i/\i < n)/\KV (.pointer (some (a.add (i.toNat * 1))))):=Qyt 122 68 a n c 1 k i Tryz.underlying122 (by kernel_rfl)
theorem QUw:Ya.szo 134=some 2:=by kernel_rfl
theorem QUx (a:Addr):Qcj Ya 134 (.pointer (some a)) w KV=∃ cs:List Value,(cs.length=2/\Reads w a cs)/\KV (.agg cs.toArray):=QFl 134 2 a _ Xh (by kernel_rfl)
theorem QUy (a0:Option Addr) (n0 c0:Nat) (n1:Int):Qd4 Ya 134 [(0,.slice a0 n0 c0),(1,.int .i64 n1)] KV=KV (.agg #[.slice a0 n0 c0,.int .i64 n1]):=Qi9 (by kernel_rfl)
theorem QUz:Qd4 Ya 134 [] KV=KV (.agg #[.slice none 0 0,.int .i64 0]):=Qi9 (by kernel_rfl)
theorem QN0 (l:List Value):Qdf Ya 134 (.agg l.toArray) 0 KV=vNth l 0 KV:=Qeh 134 0 l Xh rfl (by kernel_rfl) (by kernel_rfl) (by kernel_rfl)
theorem QN1 (a:Addr):Qa8 Ya 134 (.pointer (some a)) 0 KV=KV (.pointer (some (a.add 0))):=Qhn 134 0 a (m:=0) Xh rfl (by kernel_rfl)
theorem QN2 (l:List Value):Qdf Ya 134 (.agg l.toArray) 1 KV=vNth l 1 KV:=Qeh 134 1 l Xh rfl (by kernel_rfl) (by kernel_rfl) (by kernel_rfl)
theorem QN3 (a:Addr):Qa8 Ya 134 (.pointer (some a)) 1 KV=KV (.pointer (some (a.add 1))):=Qhn 134 1 a (m:=0) Xh rfl (by kernel_rfl)
theorem QU0:Ya.szo 138=some 1:=by kernel_rfl
theorem QU1:Ya.szo 143=some 1:=by kernel_rfl
theorem QU2:Ya.szo 153=some 1:=by kernel_rfl
theorem QU3 (n0:Int):Qd4 Ya 153 [(0,.int .i64 n0)] KV=KV (.agg #[.int .i64 n0]):=Qi9 (by kernel_rfl)
theorem QU4:Qd4 Ya 153 [] KV=KV (.agg #[.int .i64 0]):=Qi9 (by kernel_rfl)
theorem QN4 (l:List Value):Qdf Ya 153 (.agg l.toArray) 0 KV=vNth l 0 KV:=Qeh 153 0 l Gv rfl (by kernel_rfl) (by kernel_rfl) (by kernel_rfl)
theorem QN5 (a:Addr):Qa8 Ya 153 (.pointer (some a)) 0 KV=KV (.pointer (some (a.add 0))):=Qhn 153 0 a (m:=0) Gv rfl (by kernel_rfl)
theorem QU5:Ya.szo 163=some 4:=by kernel_rfl
theorem QR8 (l:List Value) (k:IntKind) (i:Int):Qez Ya 163 (.agg l.toArray) (.int k i) KV=((0<=i/\i < ((4:Nat):Int))/\vNth l i.toNat KV):=Qr1 163 l k i Gw (by kernel_rfl) (by kernel_rfl) (by kernel_rfl)
theorem QU6 (a:Addr) (k:IntKind) (i:Int):Qbk Ya 163 (.pointer (some a)) (.int k i) KV=((0<=i/\i < ((4:Nat):Int))/\KV (.pointer (some (a.add (i.toNat * 1))))):=QC3 163 3 a 4 1 k i Gw (by kernel_rfl)
theorem QU7:Ya.szo 165=some 1:=by kernel_rfl
theorem QU8 (a:Option Addr) (n c:Nat):vLen Ya 165 (.slice a n c) KV=KV (.int .i64 n):=QC2 165 167 a n c Yz
theorem QR9 (a:Option Addr) (n c:Nat):Qcl Ya 165 (.slice a n c) none none KV=(n<=c/\KV (.slice a n c)):=QMz 165 167 a n c 2 Yz (by kernel_rfl)
theorem QSa (a:Option Addr) (n c:Nat) (k:IntKind) (l:Int):Qcl Ya 165 (.slice a n c) (some (.int k l)) none KV=((0<=l/\l<=n/\n<=c)/\KV (.slice (if c=l.toNat then a else a.map (·.add (l.toNat * 2))) (n - l.toNat) (c - l.toNat))):=QM0 165 167 a n c 2 k l Yz (by kernel_rfl)
theorem QSb (a:Option Addr) (n c:Nat) (k:IntKind) (l:Int):Qcl Ya 165 (.slice a n c) none (some (.int k l)) KV=((0<=l/\l<=c)/\KV (.slice a l.toNat c)):=QM1 165 167 a n c 2 k l Yz (by kernel_rfl)
theorem QSc (a:Option Addr) (n c:Nat) (k k':IntKind) (l m:Int):Qcl Ya 165 (.slice a n c) (some (.int k l)) (some (.int k' m)) KV=((0<=l/\l<=m/\m<=c)/\KV (.slice (if c=l.toNat then a else a.map (·.add (l.toNat * 2))) (m.toNat - l.toNat) (c - l.toNat))):=QM2 165 167 a n c 2 k k' l m Yz (by kernel_rfl)
theorem QU9 (a:Addr) (n c:Nat) (k:IntKind) (i:Int):Qbk Ya 165 (.slice (some a) n c) (.int k i) KV=((0<=i/\i < n)/\KV (.pointer (some (a.add (i.toNat * 2))))):=Qyt 165 167 a n c 2 k i Yz (by kernel_rfl)
theorem QVa (a:Addr):Qcj Ya 165 (.pointer (some a)) w KV=∃ v,w.cell? a=some v/\KV v:=QC4 165 167 a Yz
theorem QN6:Ya.szo 167=some 2:=by kernel_rfl
theorem QVb (a:Addr):Qcj Ya 167 (.pointer (some a)) w KV=∃ cs:List Value,(cs.length=2/\Reads w a cs)/\KV (.agg cs.toArray):=QFl 167 2 a _ Xi (by kernel_rfl)
theorem QVc (n0:Int) (n1:Int):Qd4 Ya 167 [(0,.int .i64 n0),(1,.int .i64 n1)] KV=KV (.agg #[.int .i64 n0,.int .i64 n1]):=Qi9 (by kernel_rfl)
theorem QVd:Qd4 Ya 167 [] KV=KV (.agg #[.int .i64 0,.int .i64 0]):=Qi9 (by kernel_rfl)
theorem QN7 (l:List Value):Qdf Ya 167 (.agg l.toArray) 0 KV=vNth l 0 KV:=Qeh 167 0 l Xi rfl (by kernel_rfl) (by kernel_rfl) (by kernel_rfl)
theorem QN8 (a:Addr):Qa8 Ya 167 (.pointer (some a)) 0 KV=KV (.pointer (some (a.add 0))):=Qhn 167 0 a (m:=0) Xi rfl (by kernel_rfl)
theorem QN9 (l:List Value):Qdf Ya 167 (.agg l.toArray) 1 KV=vNth l 1 KV:=Qeh 167 1 l Xi rfl (by kernel_rfl) (by kernel_rfl) (by kernel_rfl)
theorem QOa (a:Addr):Qa8 Ya 167 (.pointer (some a)) 1 KV=KV (.pointer (some (a.add 1))):=Qhn 167 1 a (m:=0) Xi rfl (by kernel_rfl)
theorem QVe:Ya.szo 169=some 1:=by kernel_rfl
theorem QVf:Ya.szo 171=some 1:=by kernel_rfl
theorem QVg (a:Addr):Qcj Ya 171 (.pointer (some a)) w KV=∃ cs:List Value,(cs.length=1/\Reads w a cs)/\KV (.agg cs.toArray):=QFl 171 1 a _ Uh (by kernel_rfl)
theorem QVh (a0:Option Addr) (n0 c0:Nat):Qd4 Ya 171 [(0,.slice a0 n0 c0)] KV=KV (.agg #[.slice a0 n0 c0]):=Qi9 (by kernel_rfl)
theorem QVi:Qd4 Ya 171 [] KV=KV (.agg #[.slice none 0 0]):=Qi9 (by kernel_rfl)
theorem QOb (l:List Value):Qdf Ya 171 (.agg l.toArray) 0 KV=vNth l 0 KV:=Qeh 171 0 l Uh rfl (by kernel_rfl) (by kernel_rfl) (by kernel_rfl)
theorem QOc (a:Addr):Qa8 Ya 171 (.pointer (some a)) 0 KV=KV (.pointer (some (a.add 0))):=Qhn 171 0 a (m:=0) Uh rfl (by kernel_rfl)
theorem QVj:Ya.szo 172=some 22:=by kernel_rfl
theorem QSd (l:List Value) (k:IntKind) (i:Int):Qez Ya 172 (.agg l.toArray) (.int k i) KV=((0<=i/\i < ((22:Nat):Int))/\vNth l i.toNat KV):=Qr1 172 l k i Gx (by kernel_rfl) (by kernel_rfl) (by kernel_rfl)
theorem QVk (a:Addr) (k:IntKind) (i:Int):Qbk Ya 172 (.pointer (some a)) (.int k i) KV=((0<=i/\i < ((22:Nat):Int))/\KV (.pointer (some (a.add (i.toNat * 1))))):=QC3 172 3 a 22 1 k i Gx (by kernel_rfl)
theorem QVl:Ya.szo 174=some 68:=by kernel_rfl
theorem QOd (l:List Value):Qdf Ya 174 (.agg l.toArray) 0 KV=KV (.agg ((l.take 1).drop 0).toArray):=QBc 174 0 l 1 Ym rfl (by kernel_rfl) (by kernel_rfl) (by kernel_rfl)
theorem QOe (a:Addr):Qa8 Ya 174 (.pointer (some a)) 0 KV=KV (.pointer (some (a.add 0))):=Qhn 174 0 a (m:=0) Ym rfl (by kernel_rfl)
theorem QOf (l:List Value):Qdf Ya 174 (.agg l.toArray) 1 KV=vNth l 1 KV:=Qeh 174 1 l Ym rfl (by kernel_rfl) (by kernel_rfl) (by kernel_rfl)
theorem QOg (a:Addr):Qa8 Ya 174 (.pointer (some a)) 1 KV=KV (.pointer (some (a.add 1))):=Qhn 174 1 a (m:=0) Ym rfl (by kernel_rfl)
theorem QOh (l:List Value):Qdf Ya 174 (.agg l.toArray) 2 KV=KV (.agg ((l.take 24).drop 2).toArray):=QBc 174 2 l 22 Ym rfl (by kernel_rfl) (by kernel_rfl) (by kernel_rfl)
theorem QOi (a:Addr):Qa8 Ya 174 (.pointer (some a)) 2 KV=KV (.pointer (some (a.add 2))):=Qhn 174 2 a (m:=21) Ym rfl (by kernel_rfl)
theorem QOj (l:List Value):Qdf Ya 174 (.agg l.toArray) 3 KV=KV (.agg ((l.take 46).drop 24).toArray):=QBc 174 3 l 22 Ym rfl (by kernel_rfl) (by kernel_rfl) (by kernel_rfl)
theorem QOk (a:Addr):Qa8 Ya 174 (.pointer (some a)) 3 KV=KV (.pointer (some (a.add 24))):=Qhn 174 3 a (m:=21) Ym rfl (by kernel_rfl)
theorem QOl (l:List Value):Qdf Ya 174 (.agg l.toArray) 4 KV=KV (.agg ((l.take 68).drop 46).toArray):=QBc 174 4 l 22 Ym rfl (by kernel_rfl) (by kernel_rfl) (by kernel_rfl)
theorem QOm (a:Addr):Qa8 Ya 174 (.pointer (some a)) 4 KV=KV (.pointer (some (a.add 46))):=Qhn 174 4 a (m:=21) Ym rfl (by kernel_rfl)
theorem QVm:Ya.szo 177=some 256:=by kernel_rfl
theorem QVn (a:Addr):Qcj Ya 177 (.pointer (some a)) w KV=∃ cs:List Value,(cs.length=256/\Reads w a cs)/\KV (.agg cs.toArray):=QM4 177 256 256 3 a Ui (by kernel_rfl)
theorem QSe (l:List Value) (k:IntKind) (i:Int):Qez Ya 177 (.agg l.toArray) (.int k i) KV=((0<=i/\i < ((256:Nat):Int))/\vNth l i.toNat KV):=Qr1 177 l k i Ui (by kernel_rfl) (by kernel_rfl) (by kernel_rfl)
theorem QVo (a:Addr) (k:IntKind) (i:Int):Qbk Ya 177 (.pointer (some a)) (.int k i) KV=((0<=i/\i < ((256:Nat):Int))/\KV (.pointer (some (a.add (i.toNat * 1))))):=QC3 177 3 a 256 1 k i Ui (by kernel_rfl)
theorem QVp:Ya.szo 179=some 2:=by kernel_rfl
theorem QVq (f0:Fn) (x0 y0:Array Value) (n1:Int):Qd4 Ya 179 [(0,.func f0 x0 y0),(1,.int .i64 n1)] KV=KV (.agg #[.func f0 x0 y0,.int .i64 n1]):=Qi9 (by kernel_rfl)
theorem QVr:Qd4 Ya 179 [] KV=KV (.agg #[.nilFunc,.int .i64 0]):=Qi9 (by kernel_rfl)
theorem QOn (l:List Value):Qdf Ya 179 (.agg l.toArray) 0 KV=vNth l 0 KV:=Qeh 179 0 l Xu rfl (by kernel_rfl) (by kernel_rfl) (by kernel_rfl)
theorem QOo (a:Addr):Qa8 Ya 179 (.pointer (some a)) 0 KV=KV (.pointer (some (a.add 0))):=Qhn 179 0 a (m:=0) Xu rfl (by kernel_rfl)
theorem QOp (l:List Value):Qdf Ya 179 (.agg l.toArray) 1 KV=vNth l 1 KV:=Qeh 179 1 l Xu rfl (by kernel_rfl) (by kernel_rfl) (by kernel_rfl)
theorem QOq (a:Addr):Qa8 Ya 179 (.pointer (some a)) 1 KV=KV (.pointer (some (a.add 1))):=Qhn 179 1 a (m:=0) Xu rfl (by kernel_rfl)
theorem QVs:Ya.szo 181=some 1:=by kernel_rfl
theorem QVt:Ya.szo 197=some 1:=by kernel_rfl
theorem QVu (a:Addr):Qcj Ya 197 (.pointer (some a)) w KV=∃ v,w.cell? a=some v/\KV v:=Qrv 197 a .u64 Gt
theorem QVv:Ya.szo 201=some 1:=by kernel_rfl
end
attribute [go_sem ↓] ld3 QT3 QRa QRc QRe QNm ld4 QT5 QT6 ld5 QT7 QRg ln9 ix9 snn9 sln9 snh9 slh9 ld9 ld23 QT9 ln31 QUa QUb QUc QUd ia31 ld31 QRi ld33 bd33 bz33 QRl QRm QRn QRo ln34 ia34 ld34 ln35 ia35 ld35 ld41 QRp QNo pe43 pn43 ld46 QRr QRt QNq ln51 QUe QUf QUg QUh ia51 ld51 ln68 ia68 ld68 ld70 bd70 bz70 QRv QRw QRx QRy bd77 bz77 QRz QR0 QR1 QR2 QR3 QNs pe80 pn80 ld80 QUi ia99 QUk QR5 QUl QUn QR6 QUo QR7 QUq QUs QUt QNu QNv QNw QNx QNy QNz QUv QUx QUy QUz QN0 QN1 QN2 QN3 QU3 QU4 QN4 QN5 QR8 QU6 QU8 QR9 QSa QSb QSc QU9 QVa QVb QVc QVd QN7 QN8 QN9 QOa QVg QVh QVi QOb QOc QSd QVk QOd QOe QOf QOg QOh QOi QOj QOk QOl QOm QVn QSe QVo QVq QVr QOn QOo QOp QOq QVu
attribute [go_sem] sz3 QT4 QRb QRd QRf QNn sz4 sz5 QT8 QRh sz9 sz20 sz23 sz30 sz31 QRj QRk sz33 sz34 sz35 sz41 QRq QNp sz43 sz46 QRs QRu QNr sz51 sz68 sz70 sz77 sz78 QR4 QNt sz80 sz99 QUj QUm QUp QUr QUu QUw QU0 QU1 QU2 QU5 QU7 QN6 QVe QVf QVj QVl QVm QVp QVs QVt QVv
theorem zi5:(Ya.info? 5).map (fun i=>(i.zero.map Gj,i.size,i.bytes))=some (some #[.int .u8 0],1,1):=by kernel_rfl
theorem zi3:(Ya.info? 3).map (fun i=>(i.zero.map Gj,i.size,i.bytes))=some (some #[.int .i64 0],1,8):=by kernel_rfl
theorem zi51:(Ya.info? 51).map (fun i=>(i.zero.map Gj,i.size,i.bytes))=some (some #[.slice none 0 0],1,24):=by kernel_rfl
open Go.Sort (swp insInner insOuter insertionSort)
def arr (g cap:Nat) (d:Array Int):Res:=U4 3 1 (some ⟨g,0,none⟩) d.size cap (Qat d.toList)
abbrev sl (g cap:Nat) (d:Array Int):Value:=.slice (some ⟨g,0,none⟩) d.size cap
theorem Qa4 {g cap:Nat}{d:Array Int}{w:World} (h:(arr g cap d).holds w) {k:Nat} (hk:k < d.size):w.cell? ⟨g,k,none⟩=some (.int .i64 d[k]!):=by
 refine Qa1 h ?_;rw [Qc7 (by simpa using hk)]
 congr 2
 simp only [Yb,getElem!_def,Array.getElem?_toList];cases d[k]? <;> rfl
theorem Qa6 {w0 w:World}{B:List Nat}{G:List Res} (hH:Heap w0 B w G) (i:Nat) {g cap o:Nat}{d:Array Int}{ap:Addr}{x:Int}{C:World->Prop} (hi:G[i]? = some (arr g cap d)) (hp:ap=⟨g,o,none⟩) (ho:o < d.size)
  (h:∀ w',Heap w0 B w' (G.set i (arr g cap (d.setIfInBounds o x)))->C w'):Qi7 Ya 3 (.pointer (some ap)) (.int .i64 x) w C:=by
 refine Qaz hH i (o:=o) (vs:=[.int .i64 x]) hi (by rw [hp];simp [Qbg]) rfl (by kernel_rfl) (by rw [Qdm];simp;omega) (by simp [Xe]) fun w' hw=>h w' ?_
 have e:(Qat d.toList).take o++[.int .i64 x]++(Qat d.toList).drop (o+[Uv .i64 x].length)=Qat (d.setIfInBounds o x).toList:=by
  rw [Gf,Qcb (Qat d.toList) _ _ (by rw [Qdm];simpa using ho),Qvy,Array.toList_setIfInBounds]
 rw [e] at hw;unfold arr
 rwa [Array.size_setIfInBounds]
structure Cmp (fv:Value) (cf:Int->Int->Int) (Q:Int->Prop) (R:Res):Prop where
 i64:∀ x y,Q x->Q y->-9223372036854775808<=cf x y/\cf x y<=9223372036854775807
 run:∀ w x y,R.holds w->Q x->Q y->FnK Ya fv [.int .i64 x,.int .i64 y] w (fun v w'=>Heap w [] w' []/\v=.int .i64 (cf x y))
abbrev ltOf (cf:Int->Int->Int):Int->Int->Bool:=fun x y=>decide (cf x y < 0)
def AllQ (Q:Int->Prop) (d:Array Int):Prop:=∀ k < d.size,Q d[k]!
theorem Qdw (d:Array Int) (i j:Nat):(swp d i j).size=d.size:=by simp [swp]
theorem AllQ.swp {Q:Int->Prop}{d:Array Int} (h:AllQ Q d) {i j:Nat} (hi:i < d.size) (hj:j < d.size):AllQ Q (swp d i j):=by
 intro k hk;rw [Qdw] at hk;rw [Sort.swp_get d hi hj];split
 ·
  exact h _ hi
 split
 ·
  exact h _ hj
 exact h _ hk
theorem FnK.to {fv:Value}{vs:List Value}{w:World}{C C':Value->World->Prop} (h:FnK Ya fv vs w C) (h':∀ v w',C v w'->C' v w'):FnK Ya fv vs w C':=by
 obtain ⟨f,first,cs,h1,h2,F,h3,h4⟩:=h;exact ⟨f,first,cs,h1,h2,F,h3,fun v w' h=>h' v w' (h4 v w' h)⟩
theorem Cmp.look {cmp:Value}{cf:Int->Int->Int}{Q:Int->Prop}{R:Res} (hC:Cmp cmp cf Q R) {w0 w:World}{B:List Nat}{G:List Res}{r:Res} (hH:Heap w0 B w (r::R::G)) {x y:Int} (hx:Q x) (hy:Q y) :
  FnK Ya cmp [.int .i64 x,.int .i64 y] w (fun v w'=>Heap w0 B w' (r::R::G)/\v=.int .i64 (cf x y)):=by
 obtain ⟨f,first,cs,h1,h2,h3⟩:=hC.run w x y (hH.at 1 rfl) hx hy;obtain ⟨F,h3,h4⟩:=h3;exact ⟨f,first,cs,h1,h2,F,h3,fun v w' h=>⟨hH.call0 (h4 v w' h).1,(h4 v w' h).2⟩⟩
theorem Qzc {lt:Int->Int->Bool}{a j:Nat}{d:Array Int} (h1:a < j) (h2:lt d[j]! d[j - 1]! = true):insInner lt a (j - 1) (swp d j (j - 1))=insInner lt a j d:=by
 obtain ⟨k,rfl⟩:∃ k,j=k+1:=⟨j - 1,by omega⟩;rw [Xv] at *;rw [insInner,if_pos (by simp [h1,h2])]
theorem Qtr {lt:Int->Int->Bool}{a j:Nat}{d:Array Int} (h:false=(decide (a < j) && lt d[j]! d[j - 1]!)):insInner lt a j d=d:=by
 cases j with
 | zero=>rfl
 | succ k=>rw [Xv] at h;rw [insInner,if_neg (by simpa using h.symm)]
theorem Qzd {lt:Int->Int->Bool}{a b i:Nat}{d:Array Int} (h:i < b):insOuter lt a b i d=insOuter lt a b (i+1) (insInner lt a i d):=by rw [insOuter,if_pos h]
theorem Qts {lt:Int->Int->Bool}{a b i:Nat}{d:Array Int} (h:¬ i < b):insOuter lt a b i d=d:=by rw [insOuter,if_neg h]
theorem Qln {cmp:Value}{cf:Int->Int->Int}{Q:Int->Prop}{R:Res} (hC:Cmp cmp cf Q R) (g cap a b:Nat) (d:Array Int) (hab:a<=b) (hb:b<=d.size) (hd:d.size<=1000000000000) (hQ:AllQ Q d) (w0 w:World) (B:List Nat) (G:List Res)
  (hL:Heap w0 B w (arr g cap d::R::G)):Does Ya 146 #[sl g cap d,.int .i64 a,.int .i64 b,cmp] w
   fun v w'=>∃ d',d'=insertionSort (ltOf cf) d a b/\d'.size=d.size/\AllQ Q d'/\Heap w0 B w' (arr g cap d'::R::G)/\v=.tuple #[]:=by
 refine En [sl g cap d,.int .i64 a,.int .i64 b,cmp] 53 Tryz.func146 ?_;refine VS [0,1,2,3,8] ?_;refine Qac ?_;refine Qad [0,1,2,3,8] (fun m e w'=>∃ (i:Nat) (d':Array Int),Is e [(0,sl g cap d),(1,.int .i64 a),(2,.int .i64 b),(3,cmp),(8,.int .i64 i)]/\Heap w0 B w' (arr g cap d'::R::G)/\d'.size=d.size/\AllQ Q d'/\a+1<=i/\i<=max b (a+1)/\insOuter (ltOf cf) a b i d'=insertionSort (ltOf cf) d a b/\m=b - i) (b - (a+1)) ?_ ?_
 ·
  refine Qs ?_;exact ⟨a+1,d,rfl,hL,rfl,hQ,by omega,by omega,rfl,rfl⟩
 rintro m e w1 ⟨i,d1,rfl,hH,hs1,hQ1,hi1,hi2,hins,rfl⟩;refine VS [0,1,2,3,8,14] ?_;refine VD (fun h=>?_) (fun h=>?_)
 ·
  refine VC_skip ?_;refine VB ?_;refine VS [0,1,2,3,8,9] ?_;refine Qac ?_;refine Qad [0,1,2,3,8,9] (fun m e w'=>∃ (j:Nat) (d':Array Int),Is e [(0,sl g cap d),(1,.int .i64 a),(2,.int .i64 b),(3,cmp),(8,.int .i64 i),(9,.int .i64 j)]/\Heap w0 B w' (arr g cap d'::R::G)/\d'.size=d.size/\AllQ Q d'/\a<=j/\j<=i/\insInner (ltOf cf) a j d'=insInner (ltOf cf) a i d1/\m=j) i ?_ ?_
  ·
   refine Qs ?_;exact ⟨i,d1,rfl,hH,hs1,hQ1,by omega,by omega,rfl,rfl⟩
  rintro m e w2 ⟨j,d2,rfl,hH,hs2,hQ2,hj1,hj2,hinn,hm⟩;refine VL [0,1,2,3,8,9,34] 14 fun K hK=>?_
  have hall:∀ bb:Bool,∀ w4,bb=(decide (a < j) && ltOf cf d2[j]! d2[j - 1]!)->Heap w0 B w4 (arr g cap d2::R::G)->K [(0,sl g cap d),(1,.int .i64 a),(2,.int .i64 b),(3,cmp),(8,.int .i64 i),(9,.int .i64 j),(34,.bool bb)] w4:=by
   intro bb w4 hb hH;apply hK;clear hK;refine Vi (fun h=>?_) (fun h=>?_)
   ·
    subst h;simp only [Bool.true_eq,Yi,decide_eq_true_eq] at hb;refine VC_skip ?_;refine VB ?_;refine Vb [0,1,2,3,8,9] [(0,0),(1,0),(2,0),(3,0),(4,0),(5,0),(6,0),(7,0),(8,0),(10,0),(11,0),(12,0),(9,1),(13,1),(14,0),(15,2),(16,0),(17,2)] fun K hK=>?_;(repeat (first | (refine ⟨_,Qa4 (hH.at 0 rfl) (by omega),?_⟩;(try refine Qs ?_)) | refine Qo ?_ | refine Qp ?_));refine Qaa ?_;refine Qs ?_;refine Qa6 hH 0 (o:=(j)) rfl (by first | rfl | (simp;done) | (congr 1;omega)) (by first | omega | (simp;omega)) fun w6 hH3=>?_;simp only [Yd] at hH3;(try refine Qs ?_);(repeat (first | (refine ⟨_,Qa4 (hH.at 0 rfl) (by omega),?_⟩;(try refine Qs ?_)) | refine Qo ?_ | refine Qp ?_));refine Qaa ?_;refine Qs ?_;refine Qa6 hH3 0 (o:=(j - 1)) rfl (by first | rfl | (simp;done) | (congr 1;omega)) (by first | omega | (simp;omega)) fun w6 hH4=>?_;simp only [Yd] at hH4;(try refine Qs ?_);have hH5:Heap w0 B w6 (arr g cap (swp d2 j (j - 1))::R::G):=hH4;apply hK;clear hK;refine Qaj ?_;refine VS [0,1,2,3,8,9] ?_;refine Qab ?_;refine Qs ?_;refine ⟨j - 1,by omega,j - 1,_,by rw [show ((j:Int) - 1)=((j - 1:Nat):Int) by omega];rfl,hH5,by rw [Qdw,hs2],hQ2.swp (by omega) (by omega),by omega,by omega,?_,rfl⟩;rw [<- hinn,Qzc hb.1 (by simpa [ltOf] using hb.2)]
   subst h;refine Qag rfl ?_;refine Qaj ?_;refine VS [0,1,2,3,8] ?_;refine Qab ?_;refine Qs ?_;refine ⟨b - (i+1),by omega,i+1,d2,rfl,hH,hs2,hQ2,by omega,by omega,?_,rfl⟩;rw [<- hins,Qzd (i:=i) (by omega),<- hinn,Qtr hb]
  refine ⟨fun hg=>?_,fun hg=>?_⟩
  ·
   (repeat (first | (refine ⟨_,Qa4 (hH.at 0 rfl) (by omega),?_⟩;(try refine Qs ?_)) | refine Qo ?_ | refine Qp ?_));refine Qbp ?_;refine Qs ?_;refine FnK.to (Cmp.look hC hH (hQ2 _ (by omega)) (hQ2 _ (by omega))) ?_;rintro v w4 ⟨hH2,rfl⟩;(try refine Qs ?_);refine hall _ _ ?_ hH2;simp [ltOf,show a < j by omega]
  refine hall _ _ ?_ hH;simp [show ¬ a < j by omega]
 refine Qag rfl ?_;refine Qrs (Qgl rfl ?_);rw [Qts (by omega)] at hins;exact ⟨_,hins,hs1,hQ1,hH,rfl⟩
open Go Go.Eng
open Go.Sort (swp siftDown heapBuild heapPop heapSort)
theorem Qtt {lt:Int->Int->Bool}{hi first root:Nat}{d:Array Int} (h:2 * root+1 ≥ hi):siftDown lt hi first root d=d:=by rw [siftDown,dif_pos h]
theorem Qtu {lt:Int->Int->Bool}{hi first root c:Nat}{d:Array Int} (h:2 * root+1 < hi) (hc:c=if (decide (2 * root+2 < hi) && lt d[first+(2 * root+1)]! d[first+(2 * root+1)+1]!) then 2 * root+2 else 2 * root+1) :
  siftDown lt hi first root d=if lt d[first+root]! d[first+c]! then siftDown lt hi first c (swp d (first+root) (first+c)) else d:=by
 rw [siftDown,dif_neg (by omega)];by_cases h1:(decide (2 * root+2 < hi) && lt d[first+(2 * root+1)]! d[first+(2 * root+1)+1]!)=true
 ·
  rw [if_pos h1] at hc ⊢;subst hc;have h2:2 * root+2 < hi:=by simp at h1;exact h1.1
  rw [dif_pos h2];cases lt d[first+root]! d[first+(2 * root+2)]! <;> simp
 rw [if_neg h1] at hc ⊢;subst hc;cases lt d[first+root]! d[first+(2 * root+1)]! <;> simp
theorem Qlo {cmp:Value}{cf:Int->Int->Int}{Q:Int->Prop}{R:Res} (hC:Cmp cmp cf Q R) (g cap lo hi first:Nat) (d:Array Int) (hlo:lo<=1000000000000) (hb:first+hi<=d.size) (hd:d.size<=1000000000000) (hQ:AllQ Q d) (w0 w:World) (B:List Nat) (G:List Res)
  (hL:Heap w0 B w (arr g cap d::R::G)):Does Ya 163 #[sl g cap d,.int .i64 lo,.int .i64 hi,.int .i64 first,cmp] w
   fun v w'=>∃ d',d'=siftDown (ltOf cf) hi first lo d/\d'.size=d.size/\AllQ Q d'/\Heap w0 B w' (arr g cap d'::R::G)/\v=.tuple #[]:=by
 refine En [sl g cap d,.int .i64 lo,.int .i64 hi,.int .i64 first,cmp] 82 Tryz.func163 ?_;refine VS [0,2,3,4,10] ?_;refine Qac ?_;refine Qad [0,2,3,4,10] (fun m e w'=>∃ (root:Nat) (d':Array Int),Is e [(0,sl g cap d),(2,.int .i64 hi),(3,.int .i64 first),(4,cmp),(10,.int .i64 root)]/\Heap w0 B w' (arr g cap d'::R::G)/\d'.size=d.size/\AllQ Q d'/\root<=1000000000000/\siftDown (ltOf cf) hi first root d'=siftDown (ltOf cf) hi first lo d/\m=hi - root) (hi - lo) ?_ ?_
 ·
  refine Qs ?_;exact ⟨lo,d,rfl,hL,rfl,hQ,hlo,rfl,rfl⟩
 rintro m e w1 ⟨root,d1,rfl,hH,hs1,hQ1,hr,hins,hm⟩;refine Qac ?_;refine VS [0,2,3,4,10,11] ?_;refine VS [0,2,3,4,10,11,18] ?_;refine VD (fun h=>?_) (fun h=>?_)
 ·
  refine Qag rfl ?_;refine Qrs (Qgl rfl ?_);rw [Qtt (by omega)] at hins;exact ⟨_,hins,hs1,hQ1,hH,rfl⟩
 refine VC_skip ?_;refine VL [0,2,3,4,10,11,40] 19 fun K hK=>?_
 have hall:∀ bb:Bool,∀ w4,bb=(decide (2 * root+2 < hi) && ltOf cf d1[first+(2 * root+1)]! d1[first+(2 * root+1)+1]!)->Heap w0 B w4 (arr g cap d1::R::G)->K [(0,sl g cap d),(2,.int .i64 hi),(3,.int .i64 first),(4,cmp),(10,.int .i64 root),(11,.int .i64 (2 * root+1)),(40,.bool bb)] w4:=by
  intro bb w4 hbb hH;apply hK;clear hK;refine Qdl [0,2,3,4,10,11] (fun e w'=>∃ c:Nat,Is e [(0,sl g cap d),(2,.int .i64 hi),(3,.int .i64 first),(4,cmp),(10,.int .i64 root),(11,.int .i64 c)]/\Is w' w4/\c=if bb then 2 * root+2 else 2 * root+1) ?_ ?_
  ·
   refine Vi (fun h=>?_) (fun h=>?_)
   ·
    subst h;refine VS [0,2,3,4,10,11] ?_;refine Qab ?_;refine Qs ?_;exact ⟨2 * root+2,by rw [show (2 * (root:Int)+1+1)=((2 * root+2:Nat):Int) by omega];rfl,rfl,rfl⟩
   subst h;refine VC_skip ?_;refine Qab ?_;refine Qs ?_;exact ⟨2 * root+1,by rw [show (2 * (root:Int)+1)=((2 * root+1:Nat):Int) by omega];rfl,rfl,rfl⟩
  rintro e w' ⟨c,rfl,rfl,hc⟩;rw [hbb] at hc
  have hch:c < hi:=by
   by_cases h2:2 * root+2 < hi
   ·
    split at hc <;> omega
   rw [if_neg (by simp [h2])] at hc;omega
  have hc0:root < c:=by split at hc <;> omega
  have hst:=Qtu (lt:=ltOf cf) (first:=first) (d:=d1) (by omega) hc;refine VL [0,2,3,4,10,11,58] 13 fun K hK=>?_;(repeat (first | (refine ⟨_,Qa4 (hH.at 0 rfl) (by omega),?_⟩;(try refine Qs ?_)) | refine Qo ?_ | refine Qp ?_));refine Qbp ?_;refine Qs ?_;refine FnK.to (Cmp.look hC hH (hQ1 _ (by omega)) (hQ1 _ (by omega))) ?_;rintro v w4 ⟨hH2,rfl⟩;(try refine Qs ?_);clear hH;apply hK;clear hK;refine Vi (fun h=>?_) (fun h=>?_)
  ·
   simp at h;rw [if_neg (by simp [ltOf];omega)] at hst;refine VC_ret (Qgl rfl ?_);exact ⟨_,by rw [<- hins,hst],hs1,hQ1,hH2,rfl⟩
  simp at h;rw [if_pos (by simp [ltOf];omega)] at hst;refine VC_skip ?_;refine Vb [0,2,3,4,11] [(0,0),(1,0),(2,0),(3,0),(4,0),(5,0),(6,0),(7,0),(8,0),(9,0),(10,0),(11,0),(12,0),(14,0),(15,0),(16,0),(17,0),(18,0),(13,1),(19,1),(20,0),(21,2),(22,0),(23,2)] fun K hK=>?_;(repeat (first | (refine ⟨_,Qa4 (hH2.at 0 rfl) (by omega),?_⟩;(try refine Qs ?_)) | refine Qo ?_ | refine Qp ?_));refine Qaa ?_;refine Qs ?_;refine Qa6 hH2 0 (o:=(first+root)) rfl (by first | rfl | (simp;done) | (congr 1;omega)) (by first | omega | (simp;omega)) fun w6 hH3=>?_;simp only [Yd] at hH3;(try refine Qs ?_);(repeat (first | (refine ⟨_,Qa4 (hH2.at 0 rfl) (by omega),?_⟩;(try refine Qs ?_)) | refine Qo ?_ | refine Qp ?_));refine Qaa ?_;refine Qs ?_;refine Qa6 hH3 0 (o:=(first+c)) rfl (by first | rfl | (simp;done) | (congr 1;omega)) (by first | omega | (simp;omega)) fun w6 hH4=>?_;simp only [Yd] at hH4;(try refine Qs ?_);have hH5:Heap w0 B w6 (arr g cap (swp d1 (first+root) (first+c))::R::G):=hH4;apply hK;clear hK;refine VS [0,2,3,4,10] ?_;refine Qaj ?_;refine Qab ?_;refine Qs ?_;refine ⟨hi - c,by omega,c,_,rfl,hH5,by rw [Qdw,hs1],hQ1.swp (by omega) (by omega),by omega,by rw [<- hins,hst],rfl⟩
 refine ⟨Hf (by omega) (by omega),?_⟩;refine ⟨fun hg=>?_,fun hg=>?_⟩
 ·
  (repeat (first | (refine ⟨_,Qa4 (hH.at 0 rfl) (by omega),?_⟩;(try refine Qs ?_)) | refine Qo ?_ | refine Qp ?_));refine Qbp ?_;refine Qs ?_;refine FnK.to (Cmp.look hC hH (hQ1 _ (by omega)) (hQ1 _ (by omega))) ?_;rintro v w4 ⟨hH2,rfl⟩;(try refine Qs ?_);refine hall _ _ ?_ hH2;rw [show ((first:Int)+(2 * root+1)).toNat=first+(2 * root+1) by omega,show ((first:Int)+(2 * root+1)+1).toNat=first+(2 * root+1)+1 by omega];simp [ltOf,show 2 * root+2 < hi by omega]
 refine hall _ _ ?_ hH;simp [show ¬ 2 * root+2 < hi by omega]
theorem Qtv {cmp:Value}{cf:Int->Int->Int}{Q:Int->Prop}{R:Res} (hC:Cmp cmp cf Q R) (g cap a b:Nat) (d:Array Int) (hab:a < b) (hb:b<=d.size) (hd:d.size<=1000000000000) (hQ:AllQ Q d) (w0 w:World) (B:List Nat) (G:List Res)
  (hL:Heap w0 B w (arr g cap d::R::G)):Does Ya 147 #[sl g cap d,.int .i64 a,.int .i64 b,cmp] w
   fun v w'=>∃ d',d'=heapSort (ltOf cf) d a b/\d'.size=d.size/\AllQ Q d'/\Heap w0 B w' (arr g cap d'::R::G)/\v=.tuple #[]:=by
 refine En [sl g cap d,.int .i64 a,.int .i64 b,cmp] 60 Tryz.func147 ?_;refine VS [0,1,2,3,8] ?_;refine VS [0,1,2,3,8,9] ?_;refine VS [0,3,8,9,10] ?_;refine VS [0,3,8,9,10,11] ?_;rw [show ((b:Int) - a)=((b - a:Nat):Int) by omega];generalize hn:b - a=n at *;refine Qac ?_;refine Qad [0,3,8,9,10,11] (fun m e w'=>∃ (k:Nat) (i:Int) (d':Array Int),Is e [(0,sl g cap d),(3,cmp),(8,.int .i64 a),(9,.int .i64 0),(10,.int .i64 n),(11,.int .i64 i)]/\Heap w0 B w' (arr g cap d'::R::G)/\d'.size=d.size/\AllQ Q d'/\i=(k:Int) - 1/\k<=n/\heapBuild (ltOf cf) n a k d'=heapBuild (ltOf cf) n a ((n - 1) / 2+1) d/\m=k) ((n - 1) / 2+1) ?_ ?_
 ·
  refine Qs ?_;exact ⟨(n - 1) / 2+1,_,d,rfl,hL,rfl,hQ,by omega,by omega,rfl,rfl⟩
 rintro m e w1 ⟨k,i,d1,rfl,hH,hs1,hQ1,hi,hk,hins,hm⟩;refine VS [0,3,8,9,10,11,21] ?_;refine VD (fun h=>?_) (fun h=>?_)
 ·
  obtain ⟨k,rfl⟩:∃ j,k=j+1:=⟨k - 1,by omega⟩;have hi':i=(k:Int):=by omega
  subst hi';refine VC_skip ?_;refine VB ?_;refine VQ [0,3,8,9,10,11] fun K hK=>?_;have hsd:=Qlo hC g cap k n a d1 (by omega) (by omega) (by omega) hQ1 w0 w1 B G hH;rw [sl,hs1] at hsd;refine MemK_call Tryz.call163 ?_;refine Qs ?_;refine Yk hsd ?_;rintro v w2 ⟨d2,hd2,hs2,hQ2,hH2,rfl⟩;apply hK;clear hK;refine Qaj ?_;refine VS [0,3,8,9,10,11] ?_;refine Qab ?_;refine Qs ?_;refine ⟨k,by omega,k,_,d2,rfl,hH2,by omega,hQ2,rfl,by omega,?_,rfl⟩;rw [<- hins,heapBuild,hd2]
 obtain rfl:k=0:=by omega
 rw [heapBuild] at hins;refine Qag rfl ?_;refine VS [0,3,8,9,12] ?_;refine Qac ?_;refine Qad [0,3,8,9,12] (fun m e w'=>∃ (k:Nat) (i:Int) (d':Array Int),Is e [(0,sl g cap d),(3,cmp),(8,.int .i64 a),(9,.int .i64 0),(12,.int .i64 i)]/\Heap w0 B w' (arr g cap d'::R::G)/\d'.size=d.size/\AllQ Q d'/\i=(k:Int) - 1/\k<=n/\heapPop (ltOf cf) a k d'=heapPop (ltOf cf) a n d1/\m=k) n ?_ ?_
 ·
  refine Qs ?_;exact ⟨n,_,d1,rfl,hH,hs1,hQ1,rfl,by omega,rfl,rfl⟩
 clear hH h;rintro m e w2 ⟨k,i,d2,rfl,hH,hs2,hQ2,hi,hk,hpop,hm⟩;refine VS [0,3,8,9,12,33] ?_;refine VD (fun h=>?_) (fun h=>?_)
 ·
  obtain ⟨k,rfl⟩:∃ j,k=j+1:=⟨k - 1,by omega⟩;have hi':i=(k:Int):=by omega
  subst hi';refine VC_skip ?_;refine VB ?_;refine Vb [0,3,8,9,12] [(0,0),(1,0),(2,0),(3,0),(4,0),(5,0),(6,0),(7,0),(8,0),(9,0),(10,0),(12,0),(13,0),(14,0),(11,1),(15,1),(16,0),(17,2),(18,0),(19,2)] fun K hK=>?_;(repeat (first | (refine ⟨_,Qa4 (hH.at 0 rfl) (by omega),?_⟩;(try refine Qs ?_)) | refine Qo ?_ | refine Qp ?_));refine Qaa ?_;refine Qs ?_;refine Qa6 hH 0 (o:=(a)) rfl (by first | rfl | (simp;done) | (congr 1;omega)) (by first | omega | (simp;omega)) fun w6 hH3=>?_;simp only [Yd] at hH3;(try refine Qs ?_);(repeat (first | (refine ⟨_,Qa4 (hH.at 0 rfl) (by omega),?_⟩;(try refine Qs ?_)) | refine Qo ?_ | refine Qp ?_));refine Qaa ?_;refine Qs ?_;refine Qa6 hH3 0 (o:=(a+k)) rfl (by first | rfl | (simp;done) | (congr 1;omega)) (by first | omega | (simp;omega)) fun w6 hH4=>?_;simp only [Yd] at hH4;(try refine Qs ?_);have hH5:Heap w0 B w6 (arr g cap (swp d2 a (a+k))::R::G):=hH4;have hs5:(swp d2 a (a+k)).size=d.size:=by rw [Qdw,hs2]
  have hQ5:=hQ2.swp (i:=a) (j:=a+k) (by omega) (by omega);apply hK;clear hK;refine VQ [0,3,8,9,12] fun K hK=>?_;have hsd:=Qlo hC g cap 0 k a (swp d2 a (a+k)) (by omega) (by omega) (by omega) hQ5 w0 w6 B G hH5;rw [sl,hs5] at hsd;refine MemK_call Tryz.call163 ?_;refine Qs ?_;refine Yk hsd ?_;rintro v w7 ⟨d3,hd3,hs3,hQ3,hH6,rfl⟩;apply hK;clear hK;refine Qaj ?_;refine VS [0,3,8,9,12] ?_;refine Qab ?_;refine Qs ?_;refine ⟨k,by omega,k,_,d3,rfl,hH6,by omega,hQ3,rfl,by omega,?_,rfl⟩;rw [<- hpop,heapPop,hd3]
 obtain rfl:k=0:=by omega
 rw [heapPop] at hpop;refine Qag rfl ?_;refine Qrs (Qgl rfl ?_);exact ⟨_,by rw [hpop,heapSort,hn,<- hins],hs2,hQ2,hH,rfl⟩
open Go Go.Eng
open Go.Sort (swp order2 median medianAdjacent choosePivot Hint reverseLoop reverseRange)
abbrev Qtw (s:Nat) (n:Nat):Res:=Res.blk s 3 [.int .i64 n]
abbrev pcnt (s:Nat):Value:=.pointer (some ⟨s,0,none⟩)
theorem Qkv {cmp:Value}{cf:Int->Int->Int}{Q:Int->Prop}{R:Res} (hC:Cmp cmp cf Q R) (g cap a b s n:Nat) (d:Array Int) (ha:a < d.size) (hb:b < d.size) (hd:d.size<=1000000000000) (hn:n<=1000000000000) (hQ:AllQ Q d) (w0 w:World) (B:List Nat) (G:List Res)
  (hL:Heap w0 B w (arr g cap d::R::Qtw s n::G)):Does Ya 176 #[sl g cap d,.int .i64 a,.int .i64 b,pcnt s,cmp] w
   fun v w'=>∃ a' b' n':Nat,(a',b',n')=order2 (ltOf cf) d a b n/\Heap w0 B w' (arr g cap d::R::Qtw s n'::G)/\v=.tuple #[.int .i64 a',.int .i64 b']:=by
 refine En [sl g cap d,.int .i64 a,.int .i64 b,pcnt s,cmp] 32 Tryz.func176 ?_;refine VS [0,1,2,3,4] ?_;refine VL [1,2,3,22] 9 fun K hK=>?_;(repeat (first | (refine ⟨_,Qa4 (hL.at 0 rfl) (by omega),?_⟩;(try refine Qs ?_)) | refine Qo ?_ | refine Qp ?_));refine Qbp ?_;refine Qs ?_;refine FnK.to (Cmp.look hC hL (hQ _ (by omega)) (hQ _ (by omega))) ?_;rintro v w4 ⟨hH,rfl⟩;(try refine Qs ?_);apply hK;clear hK;refine VD (fun h=>?_) (fun h=>?_)
 ·
  refine VQ [1,2] fun K hK=>?_;(repeat first | refine Qo ?_ | refine Qp ?_ | (refine Gc hH ?_;(try refine Qs ?_)));refine Qaa ?_;refine Qs ?_;refine Qae hH 2 (vs:=[.int .i64 (n+1:Nat)]) rfl rfl (by kernel_rfl) (by first | decide | (simp;done) | (simp;omega)) (by simp [Xe]) fun w6 hH2=>?_;(try refine Qs ?_);apply hK;clear hK;refine VS [10,11] ?_;refine VC_ret (Qav rfl rfl rfl ?_);exact ⟨b,a,n+1,by simp [order2,ltOf,h],hH2,rfl⟩
 refine VC_skip ?_;refine VS [10,11] ?_;refine VC_ret (Qav rfl rfl rfl ?_);exact ⟨a,b,n,by simp [order2,ltOf,h],hH,rfl⟩
theorem Qmu {lt:Int->Int->Bool}{d:Array Int}{a b n a' b' n':Nat} (h:(a',b',n')=order2 lt d a b n):((a'=a/\b'=b)∨(a'=b/\b'=a))/\n<=n'/\n'<=n+1:=by
 unfold order2 at h;split at h <;> simp only [Prod.mk.injEq] at h <;> omega
theorem Qpd {cmp:Value}{cf:Int->Int->Int}{Q:Int->Prop}{R:Res} (hC:Cmp cmp cf Q R) (g cap a b c s n:Nat) (d:Array Int) (ha:a < d.size) (hb:b < d.size) (hc:c < d.size) (hd:d.size<=1000000000000) (hn:n<=1000000000) (hQ:AllQ Q d) (w0 w:World) (B:List Nat) (G:List Res)
  (hL:Heap w0 B w (arr g cap d::R::Qtw s n::G)):Does Ya 167 #[sl g cap d,.int .i64 a,.int .i64 b,.int .i64 c,pcnt s,cmp] w
   fun v w'=>∃ m n':Nat,(m,n')=median (ltOf cf) d a b c n/\(m=a∨m=b∨m=c)/\n'<=n+3/\Heap w0 B w' (arr g cap d::R::Qtw s n'::G)/\v=.int .i64 m:=by
 refine En [sl g cap d,.int .i64 a,.int .i64 b,.int .i64 c,pcnt s,cmp] 41 Tryz.func167 ?_;refine VS [0,1,2,3,4,5] ?_;refine VQ [0,1,2,3,4,5] fun K hK=>?_;refine MemK_call G5 ?_;refine Qs ?_;refine Yk (Qkv hC g cap a b s n d ha hb hd (by omega) hQ w0 w B G hL) ?_;rintro v w1 ⟨a1,b1,n1,ho1,hH1,rfl⟩;apply hK;clear hK;have hm1:=Qmu ho1;refine VQ [0,1,2,4,5] fun K hK=>?_;refine MemK_call G5 ?_;refine Qs ?_;refine Yk (Qkv hC g cap b1 c s n1 d (by omega) (by omega) hd (by omega) hQ w0 w1 B G hH1) ?_;rintro v w2 ⟨b2,c2,n2,ho2,hH2,rfl⟩;apply hK;clear hK;have hm2:=Qmu ho2;refine VQ [2] fun K hK=>?_;refine MemK_call G5 ?_;refine Qs ?_;refine Yk (Qkv hC g cap a1 b2 s n2 d (by omega) (by omega) hd (by omega) hQ w0 w2 B G hH2) ?_;rintro v w3 ⟨a3,b3,n3,ho3,hH3,rfl⟩;apply hK;clear hK;have hm3:=Qmu ho3;refine VS [12] ?_;refine VC_ret (VX_ret1 rfl rfl ?_);exact ⟨b3,n3,by simp only [median,<- ho1,<- ho2,<- ho3],by omega,by omega,hH3,rfl⟩
theorem Qfe {cmp:Value}{cf:Int->Int->Int}{Q:Int->Prop}{R:Res} (hC:Cmp cmp cf Q R) (g cap a s n:Nat) (d:Array Int) (ha0:1<=a) (ha:a+1 < d.size) (hd:d.size<=1000000000000) (hn:n<=1000000000) (hQ:AllQ Q d) (w0 w:World) (B:List Nat) (G:List Res)
  (hL:Heap w0 B w (arr g cap d::R::Qtw s n::G)):Does Ya 166 #[sl g cap d,.int .i64 a,pcnt s,cmp] w
   fun v w'=>∃ m n':Nat,(m,n')=medianAdjacent (ltOf cf) d a n/\(a - 1<=m/\m<=a+1)/\n'<=n+3/\Heap w0 B w' (arr g cap d::R::Qtw s n'::G)/\v=.int .i64 m:=by
 refine En [sl g cap d,.int .i64 a,pcnt s,cmp] 18 Tryz.func166 ?_;refine VS [0,1,2,3] ?_;refine VQ [8] fun K hK=>?_;(repeat first | refine Qo ?_ | refine Qp ?_);have hm:=Qpd hC g cap (a - 1) a (a+1) s n d (by omega) (by omega) (by omega) hd hn hQ w0 w B G hL;rw [show ((a - 1:Nat):Int)=(a:Int) - 1 by omega,show ((a+1:Nat):Int)=(a:Int)+1 by omega] at hm;refine MemK_call Tryz.call167 ?_;refine Qs ?_;refine Yk hm ?_;rintro v w1 ⟨m,n1,h1,h2,h3,hH1,rfl⟩;apply hK;clear hK;refine VC_ret (VX_ret1 rfl rfl ?_);exact ⟨m,n1,h1,by omega,h3,hH1,rfl⟩
open Go Go.Eng
open Go.Sort (swp order2 median medianAdjacent choosePivot Hint reverseLoop reverseRange)
def QF9:Hint->Int
 | .unknown=>0
 | .increasing=>1
 | .decreasing=>2
theorem Qn7 {cmp:Value}{cf:Int->Int->Int}{Q:Int->Prop}{R:Res} (hC:Cmp cmp cf Q R) (g cap a b:Nat) (d:Array Int) (hab:a+8<=b) (hb:b<=d.size) (hd:d.size<=1000000000000) (hQ:AllQ Q d) (w0 w:World) (B:List Nat) (G:List Res)
  (hL:Heap w0 B w (arr g cap d::R::G)):Does Ya 149 #[sl g cap d,.int .i64 a,.int .i64 b,cmp] w
   fun v w'=>∃ (p:Nat) (h:Hint),(p,h)=choosePivot (ltOf cf) d a b/\(a<=p/\p < b)/\Heap w0 B w' (arr g cap d::R::G)/\v=.tuple #[.int .i64 p,.int .i64 (QF9 h)]:=by
 refine En [sl g cap d,.int .i64 a,.int .i64 b,cmp] 63 Tryz.func149 ?_;refine VS [0,1,2,3] ?_;refine VS [0,1,3,10] ?_;rw [show ((b:Int) - a)=((b - a:Nat):Int) by omega];generalize hn:b - a=n at *;refine VQ [0,1,3,10,11] fun K hK=>?_;refine Qao (.int .i64 0) (by kernel_rfl) ?_;refine Qs ?_;have hH0:=hL.box 3 [.int .i64 0];generalize w.alloc (Gp [Uv .i64 0].toArray 3)=w1 at *;generalize w.heap.size=s at *;have hH:Heap w0 B w1 (arr g cap d::R::Qtw s 0::G):=hH0.perm (List.perm_middle (l₁:=[arr g cap d,R])).symm;clear hH0;apply hK;clear hK;refine VS [0,1,3,10,11,12] ?_;refine VS [0,1,3,10,11,12,13] ?_;refine VS [0,3,10,11,12,13,14] ?_;obtain ⟨i0,hi0⟩:∃ i0,a+n / 4 * 1=i0:=⟨_,rfl⟩;obtain ⟨j0,hj0⟩:∃ j0,a+n / 4 * 2=j0:=⟨_,rfl⟩;obtain ⟨k0,hk0⟩:∃ k0,a+n / 4 * 3=k0:=⟨_,rfl⟩;rw [show ((a:Int)+n / 4 * 1)=(i0:Int) by omega,show ((a:Int)+n / 4 * 2)=(j0:Int) by omega,show ((a:Int)+n / 4 * 3)=(k0:Int) by omega]
 have hcp:choosePivot (ltOf cf) d a b=(fun r:Nat×Nat=>(r.1,if r.2=0 then Hint.increasing else if r.2=12 then Hint.decreasing else Hint.unknown)) (if n ≥ 8 then if n ≥ 50 then median (ltOf cf) d (medianAdjacent (ltOf cf) d i0 0).1 (medianAdjacent (ltOf cf) d j0 (medianAdjacent (ltOf cf) d i0 0).2).1 (medianAdjacent (ltOf cf) d k0 (medianAdjacent (ltOf cf) d j0 (medianAdjacent (ltOf cf) d i0 0).2).2).1 (medianAdjacent (ltOf cf) d k0 (medianAdjacent (ltOf cf) d j0 (medianAdjacent (ltOf cf) d i0 0).2).2).2 else median (ltOf cf) d i0 j0 k0 0 else (j0,0)):=by
  simp only [choosePivot,hn,hi0,hj0,hk0]
 have hb1:a+2<=i0/\i0 < j0/\j0 < k0/\k0+2<=b:=by omega
 clear hi0 hj0 hk0;refine VS [0,3,10,11,12,13,14,34] ?_;refine Qdl [11,13] (fun e w'=>∃ m n':Nat,Is e [(11,pcnt s),(13,.int .i64 m)]/\Heap w0 B w' (arr g cap d::R::Qtw s n'::G)/\(a<=m/\m < b)/\choosePivot (ltOf cf) d a b=(m,if n'=0 then .increasing else if n'=12 then .decreasing else .unknown)) ?_ ?_
 ·
  refine Qaf rfl rfl (fun h=>?_) (fun h=>by simp at h;omega);simp only [decide_eq_true_eq] at h;refine VS [0,3,11,12,13,14,36] ?_
  refine Qdl [0,3,11,12,13,14] (fun e w'=>∃ i j k n':Nat,Is e [(0,sl g cap d),(3,cmp),(11,pcnt s),(12,.int .i64 i),(13,.int .i64 j),(14,.int .i64 k)]/\Heap w0 B w' (arr g cap d::R::Qtw s n'::G)/\(a<=i/\i < b)/\(a<=j/\j < b)/\(a<=k/\k < b)/\n'<=9 /\
   choosePivot (ltOf cf) d a b=((median (ltOf cf) d i j k n').1,if (median (ltOf cf) d i j k n').2=0 then .increasing else if (median (ltOf cf) d i j k n').2=12 then .decreasing else .unknown)) ?_ ?_
  ·
   refine VD (fun h=>?_) (fun h=>?_)
   ·
    refine VQ [0,3,11,12,13,14] fun K hK=>?_;refine MemK_call G6 ?_;refine Qs ?_;refine Yk (Qfe hC g cap i0 s 0 d (by omega) (by omega) hd (by omega) hQ w0 w1 B G hH) ?_;rintro v w2 ⟨i,n1,hi,hi2,hn1,hH1,rfl⟩;apply hK;clear hK;refine VQ [0,3,11,12,13,14] fun K hK=>?_;refine MemK_call G6 ?_;refine Qs ?_;refine Yk (Qfe hC g cap j0 s n1 d (by omega) (by omega) hd (by omega) hQ w0 w2 B G hH1) ?_;rintro v w3 ⟨j,n2,hj,hj2,hn2,hH2,rfl⟩;apply hK;clear hK;refine VQ [0,3,11,12,13,14] fun K hK=>?_;refine MemK_call G6 ?_;refine Qs ?_;refine Yk (Qfe hC g cap k0 s n2 d (by omega) (by omega) hd (by omega) hQ w0 w3 B G hH2) ?_;rintro v w4 ⟨k,n3,hk,hk2,hn3,hH3,rfl⟩;apply hK;clear hK;refine Qab ?_;refine Qs ?_;refine ⟨i,j,k,n3,rfl,hH3,by omega,by omega,by omega,by omega,?_⟩;rw [hcp,if_pos (show n ≥ 8 by omega),if_pos (show n ≥ 50 by omega),<- hi,<- hj,<- hk]
   refine VC_skip ?_;refine Qab ?_;refine Qs ?_;refine ⟨_,_,_,0,rfl,hH,by omega,by omega,by omega,by omega,?_⟩;rw [hcp,if_pos (show n ≥ 8 by omega),if_neg (show ¬ n ≥ 50 by omega)]
  rintro e w2 ⟨i,j,k,n1,rfl,hH2,hi,hj,hk,hn1,hch⟩;refine VQ [11,13] fun K hK=>?_;refine MemK_call Tryz.call167 ?_;refine Qs ?_;refine Yk (Qpd hC g cap i j k s n1 d (by omega) (by omega) (by omega) hd (by omega) hQ w0 w2 B G hH2) ?_;rintro v w3 ⟨m,n2,hm,hm2,hn2,hH3,rfl⟩;apply hK;clear hK;refine Qab ?_;refine Qs ?_;refine ⟨m,n2,rfl,hH3,by omega,?_⟩;rw [hch,<- hm]
 clear hH;rintro e w2 ⟨m,n1,rfl,hH,hm,hch⟩;have hH4:Heap w0 B w2 (arr g cap d::R::G):=hH.sub (by simp);refine VQ [13,55] fun K hK=>?_;(repeat first | refine Qo ?_ | refine Qp ?_ | (refine Gc hH ?_;(try refine Qs ?_)));apply hK;clear hK;refine Qac ?_;refine VS [13,55,57] ?_;refine VD (fun h=>?_) (fun h=>?_)
 ·
  refine VS [8,9] ?_;refine VC_ret (Qav rfl rfl rfl ?_);exact ⟨m,.increasing,by rw [hch,if_pos (by omega)],hm,hH4,rfl⟩
 refine VS [13,60] ?_;refine VD (fun h=>?_) (fun h=>?_)
 ·
  refine VS [8,9] ?_;refine VC_ret (Qav rfl rfl rfl ?_);exact ⟨m,.decreasing,by rw [hch,if_neg (by omega),if_pos (by omega)],hm,hH4,rfl⟩
 refine VS [8,9] ?_;refine VC_ret (Qav rfl rfl rfl ?_);exact ⟨m,.unknown,by rw [hch,if_neg (by omega),if_neg (by omega)],hm,hH4,rfl⟩
theorem Qq9 {i j:Nat}{d:Array Int} (h:i < j):reverseLoop i j d=reverseLoop (i+1) (j - 1) (swp d i j):=by
 conv=>lhs;rw [reverseLoop]
 rw [if_pos h]
theorem Qn8 {i j:Nat}{d:Array Int} (h:¬ i < j):reverseLoop i j d=d:=by rw [reverseLoop,if_neg h]
theorem Qmv {cmp:Value}{R:Res}{Q:Int->Prop} (g cap a b:Nat) (d:Array Int) (hab:a < b) (hb:b<=d.size) (hd:d.size<=1000000000000) (hQ:AllQ Q d) (w0 w:World) (B:List Nat) (G:List Res)
  (hL:Heap w0 B w (arr g cap d::R::G)):Does Ya 150 #[sl g cap d,.int .i64 a,.int .i64 b,cmp] w
   fun v w'=>∃ d',d'=reverseRange d a b/\d'.size=d.size/\AllQ Q d'/\Heap w0 B w' (arr g cap d'::R::G)/\v=.tuple #[]:=by
 refine En [sl g cap d,.int .i64 a,.int .i64 b,cmp] 34 Tryz.func150 ?_;refine VS [0,2,8] ?_;refine VS [0,8,9] ?_;refine Qac ?_;refine Qad [0,8,9] (fun m e w'=>∃ (i j:Nat) (d':Array Int),Is e [(0,sl g cap d),(8,.int .i64 i),(9,.int .i64 j)]/\Heap w0 B w' (arr g cap d'::R::G)/\d'.size=d.size/\AllQ Q d'/\i<=b/\j < b/\reverseLoop i j d'=reverseRange d a b/\m=b - i) (b - a) ?_ ?_
 ·
  refine Qs ?_;exact ⟨a,b - 1,d,by rw [show ((b:Int) - 1)=((b - 1:Nat):Int) by omega];rfl,hL,rfl,hQ,by omega,by omega,rfl,rfl⟩
 rintro m e w1 ⟨i,j,d1,rfl,hH,hs1,hQ1,hi,hj,hrev,hm⟩;refine VS [0,8,9,15] ?_;refine VD (fun h=>?_) (fun h=>?_)
 ·
  refine VC_skip ?_;refine Qac ?_;refine Vb [0,8,9] [(0,0),(1,0),(2,0),(3,0),(4,0),(5,0),(6,0),(8,0),(9,0),(10,0),(7,1),(11,1),(12,0),(13,2),(14,0),(15,2)] fun K hK=>?_;(repeat (first | (refine ⟨_,Qa4 (hH.at 0 rfl) (by omega),?_⟩;(try refine Qs ?_)) | refine Qo ?_ | refine Qp ?_));refine Qaa ?_;refine Qs ?_;refine Qa6 hH 0 (o:=(i)) rfl (by first | rfl | (simp;done) | (congr 1;omega)) (by first | omega | (simp;omega)) fun w6 hH3=>?_;simp only [Yd] at hH3;(try refine Qs ?_);(repeat (first | (refine ⟨_,Qa4 (hH.at 0 rfl) (by omega),?_⟩;(try refine Qs ?_)) | refine Qo ?_ | refine Qp ?_));refine Qaa ?_;refine Qs ?_;refine Qa6 hH3 0 (o:=(j)) rfl (by first | rfl | (simp;done) | (congr 1;omega)) (by first | omega | (simp;omega)) fun w6 hH4=>?_;simp only [Yd] at hH4;(try refine Qs ?_);have hH5:Heap w0 B w6 (arr g cap (swp d1 i j)::R::G):=hH4;apply hK;clear hK;refine VS [0,8,9] ?_;refine VS [0,8,9] ?_;refine Qaj ?_;refine Qab ?_;refine Qs ?_;refine ⟨b - (i+1),by omega,i+1,j - 1,_,by rw [show ((j:Int) - 1)=((j - 1:Nat):Int) by omega];rfl,hH5,by rw [Qdw,hs1],hQ1.swp (by omega) (by omega),by omega,by omega,?_,rfl⟩;rw [<- hrev,Qq9 (i:=i) (by omega)]
 refine Qag rfl ?_;refine Qrs (Qgl rfl ?_);rw [Qn8 (by omega)] at hrev;exact ⟨_,hrev,hs1,hQ1,hH,rfl⟩
open Go Go.Eng
open Go.Sort (bitsLen)
theorem QJz {P:Program}{fn:Func}{F:Value->World->Prop}{N:Nat}{k:List It}{e:Env}{w:World}{x y:Code} (hf:VC ⟨P,fn,F,N⟩ (.code y::k) e w):VC ⟨P,fn,F,N⟩ (.code (.cond (.const (.bool false)) x y)::k) e w:=by
 intro a n ha;exact wp_cond_split (t:=false) rfl (fun h=>by cases h) (fun _=>hf a n ha)
theorem Qio {x k:Nat} (h:2 ^ k<=x):bitsLen (x / 2 ^ k)+k=bitsLen x:=by
 have h0:x≠0:=by have:=Uq (n:=k) (show 0 < 2 by omega);omega
 have h1:x / 2 ^ k≠0:=by have:=Nat.div_pos h (Uq (by omega));omega
 unfold bitsLen;rw [if_neg h0,if_neg h1]
 have e:Uj (x / 2 ^ k)=Uj x - k:=by
  rw [Nat.log2_eq_iff h1];have h2:=Uw h0;have h3:=Ux (n:=x);have hk:k<=Uj x:=(He h0).2 h;constructor
  ·
   rw [Gg (Uq (by omega)),<- X9,Nat.sub_add_cancel hk];exact h2
  rw [Nat.div_lt_iff_lt_mul (Uq (by omega)),<- X9,show Uj x - k+1+k=Uj x+1 by omega];exact h3
 have hk:k<=Uj x:=(He h0).2 h;omega
theorem QDn (x:Nat):x < 2 ^ bitsLen x:=by
 unfold bitsLen;split
 ·
  omega
 exact Ux
theorem Qg0 {x n:Nat} (h:x < 2 ^ n):bitsLen x<=n:=by
 unfold bitsLen;split
 ·
  omega
 rename_i h0;have:=(Nat.log2_lt h0).2 h;omega
def len8:List UInt8:=(Yg 256).map fun n=>Gk (bitsLen n)
theorem QBd {y:Nat} (h:y < 256):(len8.getD y 0).toNat=bitsLen y:=by
 have hl:=Qg0 (n:=8) h;simp only [len8,Yb,Xy,List.getElem?_range h,Option.map_some,Xf];simp;omega
theorem QDo (x:Nat) (hx:x < 18446744073709551616) (w:World):Does Ya 155 #[.int .u64 x] w fun v w'=>w'=w/\v=.int .i64 (bitsLen x):=by
 refine En [.int .u64 x] 25 Tryz.func155 ?_;refine VS [0,2] ?_;refine VS [0,2,4] ?_;refine Qdl [0,2] (fun e w'=>∃ y n:Nat,Is e [(0,.int .u64 y),(2,.int .i64 n)]/\Is w' w/\bitsLen y+n=bitsLen x/\y < 4294967296/\n<=32) ?_ ?_
 ·
  refine VD (fun h=>?_) (fun h=>?_)
  ·
   refine VQ [0] fun K hK=>?_;refine Qo ?_;rw [show shN Xg 32=32 from rfl,Qgs];apply hK;clear hK;refine VS [0,2] ?_;refine Qab ?_;refine Qs ?_;exact ⟨x / 2 ^ 32,32,rfl,rfl,Qio (k:=32) (by omega),by omega,by omega⟩
  refine VC_skip ?_;refine Qab ?_;refine Qs ?_;exact ⟨x,0,rfl,rfl,rfl,by omega,by omega⟩
 rintro e w' ⟨y,n,rfl,rfl,hyn,hy,hn⟩;refine VS [0,2,8] ?_;refine Qdl [0,2] (fun e w''=>∃ y n:Nat,Is e [(0,.int .u64 y),(2,.int .i64 n)]/\Is w'' w'/\bitsLen y+n=bitsLen x/\y < 65536/\n<=48) ?_ ?_
 ·
  refine VD (fun h=>?_) (fun h=>?_)
  ·
   refine VQ [0,2] fun K hK=>?_;refine Qo ?_;rw [show shN Xg 16=16 from rfl,Qgs];apply hK;clear hK;refine VS [0,2] ?_;refine Qab ?_;refine Qs ?_;have h1:=Qio (x:=y) (k:=16) (by omega);exact ⟨y / 2 ^ 16,n+16,rfl,rfl,by omega,by omega,by omega⟩
  refine VC_skip ?_;refine Qab ?_;refine Qs ?_;exact ⟨y,n,rfl,rfl,hyn,by omega,by omega⟩
 clear hyn hy hn;rintro e w'' ⟨y,n,rfl,rfl,hyn,hy,hn⟩;refine VS [0,2,14] ?_;refine VD (fun h=>?_) (fun h=>?_)
 ·
  refine VQ [0,2] fun K hK=>?_;refine Qo ?_;rw [show shN Xg 8=8 from rfl,Qgs];apply hK;clear hK;refine VS [0,2] ?_;have h1:=Qio (x:=y) (k:=8) (by omega);refine VQ [2] fun K hK=>?_;generalize htab:Ua (Ua _ _) (Ua _ _)=tab at *;have ht2:tab=len8:=by rw [<- htab];kernel_rfl
  clear htab;subst ht2;have h9:=Qg0 (n:=8) (show y / 2 ^ 8 < 2 ^ 8 by omega);rw [Y4 (by omega) (by omega),Yf,QBd (by omega),show len8.length=256 by simp [len8]];refine Qp ?_;(repeat refine Qo ?_);apply hK;clear hK;refine VC_ret (VX_ret1 rfl rfl ⟨rfl,?_⟩);rw [show ((n:Int)+8+(bitsLen (y / 2 ^ 8):Nat))=bitsLen x by omega]
 refine VC_skip ?_;refine VQ [2] fun K hK=>?_;generalize htab:Ua (Ua _ _) (Ua _ _)=tab at *;have ht2:tab=len8:=by rw [<- htab];kernel_rfl
 clear htab;subst ht2;have h9:=Qg0 (n:=8) (show y < 2 ^ 8 by omega);rw [Y4 (by omega) (by omega),Yf,QBd (by omega),show len8.length=256 by simp [len8]];refine Qp ?_;(repeat refine Qo ?_);apply hK;clear hK;refine VC_ret (VX_ret1 rfl rfl ⟨rfl,?_⟩);rw [show ((n:Int)+(bitsLen y:Nat))=bitsLen x by omega]
theorem Qr9 (x:Nat) (hx:x < 18446744073709551616) (w:World):Does Ya 127 #[.int .u64 x] w fun v w'=>w'=w/\v=.int .i64 (bitsLen x):=by
 refine En [.int .u64 x] 8 Tryz.func127 ?_;refine VS [0] ?_;(repeat refine Qax ?_);refine QJz (VC_skip ?_);refine VQ [2] fun K hK=>?_;refine MemK_call Tryz.call155 ?_;refine Qs ?_;refine Yk (QDo x hx w) ?_;rintro v w2 ⟨rfl,rfl⟩;apply hK;clear hK;exact VC_ret (VX_ret1 rfl rfl ⟨rfl,rfl⟩)
theorem Qkw (x:Nat) (hx:x < 1000000000000) (w:World):Does Ya 164 #[.int .i64 x] w fun v w'=>w'=w/\v=.int .u64 (2 ^ bitsLen x:Nat):=by
 refine En [.int .i64 x] 7 Tryz.func164 ?_;refine VS [0] ?_;refine VQ [2] fun K hK=>?_;rw [Y4 (by omega) (by omega)];refine MemK_call Tryz.call127 ?_;refine Qs ?_;refine Yk (Qr9 x (by omega) w) ?_;rintro v w2 ⟨rfl,rfl⟩;refine Qs ?_;have h40:bitsLen x<=40:=Qg0 (by omega);have hp:2 ^ bitsLen x<=2 ^ 40:=Xn (by omega) h40;refine Qo ?_;rw [Qr2 rfl (by rw [show IntKind.bits .u64=64 from rfl];omega),show ((1:Int) * 2 ^ bitsLen x)=((2 ^ bitsLen x:Nat):Int) by rw [Int.one_mul];push_cast;rfl];generalize 2 ^ bitsLen x=q at *;rw [Y4 (by omega) (by omega)];apply hK;clear hK;exact VC_ret (VX_ret1 rfl rfl ⟨rfl,rfl⟩)
open Go Go.Eng
open Go.Sort (swp bitsLen xorNext breakStep breakPatterns)
abbrev rnd (s:Nat) (r:UInt64):Res:=Res.blk s 197 [.int .u64 r.toNat]
theorem QVw (r:UInt64):((r.toNat:Int) * (2:Int) ^ shN Xg 13 % (18446744073709551616:Int))=((r <<< 13).toNat:Int):=by
 rw [show shN Xg 13=13 from rfl,UInt64.toNat_shiftLeft,Qof,Uy,show (13:UInt64).toNat % 64=13 from rfl];rfl
theorem QVx (r:UInt64):((r.toNat:Int) * (2:Int) ^ shN Xg 17 % (18446744073709551616:Int))=((r <<< 17).toNat:Int):=by
 rw [show shN Xg 17=17 from rfl,UInt64.toNat_shiftLeft,Qof,Uy,show (17:UInt64).toNat % 64=17 from rfl];rfl
theorem shr7 (r:UInt64):((r.toNat:Int) / (2:Int) ^ shN Xg 7)=((r >>> 7).toNat:Int):=by
 rw [show shN Xg 7=7 from rfl,UInt64.toNat_shiftRight,Qgs,Nat.shiftRight_eq_div_pow,show (7:UInt64).toNat % 64=7 from rfl]
theorem Qze (s:Nat) (r:UInt64) (w:World) (hL:Heap w (rnd s r).foot w [rnd s r]):Does Ya 165 #[.pointer (some ⟨s,0,none⟩)] w
   fun v w'=>Heap w (rnd s r).foot w' [rnd s (xorNext r)]/\v=.int .u64 (xorNext r).toNat:=by
 refine En [.pointer (some ⟨s,0,none⟩)] 33 Tryz.func165 ?_;refine VS [0] ?_;refine VL [0] 9 fun K hK=>?_;(repeat first | refine Qo ?_ | refine Qp ?_ | (refine Gc hL ?_;(try refine Qs ?_)));rw [QVw,Yf,<- UInt64.toNat_xor];generalize hr1:r ^^^ (r <<< 13)=r1 at *;have hb:=r.toNat_lt;have hb2:=(r <<< 13).toNat_lt;have hb3:=r1.toNat_lt;refine ⟨⟨by omega,by omega⟩,⟨by omega,by omega⟩,?_⟩;refine Qaa ?_;refine Qs ?_;refine Qae hL 0 (vs:=[.int .u64 r1.toNat]) rfl rfl (by kernel_rfl) (by first | decide | (simp;done) | (simp;omega)) (by simp [Xe]) fun w6 hH1=>?_;(try refine Qs ?_);apply hK;clear hK;refine VL [0] 9 fun K hK=>?_;(repeat first | refine Qo ?_ | refine Qp ?_ | (refine Gc hH1 ?_;(try refine Qs ?_)));rw [shr7,Yf,<- UInt64.toNat_xor];generalize hr2:r1 ^^^ (r1 >>> 7)=r2 at *;have hb4:=(r1 >>> 7).toNat_lt;have hb5:=r2.toNat_lt;refine Qp ?_;refine Qaa ?_;refine Qs ?_;refine Qae hH1 0 (vs:=[.int .u64 r2.toNat]) rfl rfl (by kernel_rfl) (by first | decide | (simp;done) | (simp;omega)) (by simp [Xe]) fun w6 hH2=>?_;(try refine Qs ?_);apply hK;clear hK;refine VL [0] 9 fun K hK=>?_;(repeat first | refine Qo ?_ | refine Qp ?_ | (refine Gc hH2 ?_;(try refine Qs ?_)));rw [QVx,Yf,<- UInt64.toNat_xor];generalize hr3:r2 ^^^ (r2 <<< 17)=r3 at *;have hb6:=(r2 <<< 17).toNat_lt;have hb7:=r3.toNat_lt;refine Qaa ?_;refine Qs ?_;refine Qae hH2 0 (vs:=[.int .u64 r3.toNat]) rfl rfl (by kernel_rfl) (by first | decide | (simp;done) | (simp;omega)) (by simp [Xe]) fun w6 hH3=>?_;(try refine Qs ?_);apply hK;clear hK;refine VQ [2] fun K hK=>?_;(repeat first | refine Qo ?_ | refine Qp ?_ | (refine Gc hH3 ?_;(try refine Qs ?_)));apply hK;clear hK;have e:xorNext r=r3:=by simp only [xorNext,hr1,hr2,hr3]
 rw [e];exact VC_ret (VX_ret1 rfl rfl ⟨hH3,rfl⟩)
def brkN (a length modulus idx:Nat) (d:Array Int):Nat->UInt64×Array Int
 | 0=>(UInt64.ofNat length,d)
 | k+1=>breakStep a length modulus (brkN a length modulus idx d k) (idx+k)
theorem Qlp {cmp:Value}{R:Res}{Q:Int->Prop} (g cap a b:Nat) (d:Array Int) (hab:a+8<=b) (hb:b<=d.size) (hd:d.size<=100000000000) (hQ:AllQ Q d) (w0 w:World) (B:List Nat) (G:List Res)
  (hL:Heap w0 B w (arr g cap d::R::G)):Does Ya 148 #[sl g cap d,.int .i64 a,.int .i64 b,cmp] w
   fun v w'=>∃ d',d'=breakPatterns d a b/\d'.size=d.size/\AllQ Q d'/\Heap w0 B w' (arr g cap d'::R::G)/\v=.tuple #[]:=by
 refine En [sl g cap d,.int .i64 a,.int .i64 b,cmp] 67 Tryz.func148 ?_;refine VS [0,1,8] ?_;rw [show ((b:Int) - a)=((b - a:Nat):Int) by omega];generalize hn:b - a=n at *;refine VS [0,1,8,17] ?_;refine Qaf rfl rfl (fun h=>?_) (fun h=>by simp at h;omega);simp only [decide_eq_true_eq] at h;refine VQ [0,1,8,9] fun K hK=>?_;refine Qao (.int .u64 0) (by kernel_rfl) ?_;refine Qs ?_;have hH0:=hL.box 197 [.int .u64 0];generalize w.alloc (Gp [Uv .u64 0].toArray 197)=w1 at *;generalize w.heap.size=s at *;rw [Y4 (by omega) (by omega)];have e1:n=(UInt64.ofNat n).toNat:=by rw [UInt64.toNat_ofNat'];omega
 refine Qaa ?_;refine Qs ?_;refine Qae hH0 0 (vs:=[.int .u64 n]) rfl rfl (by kernel_rfl) (by first | decide | (simp;done) | (simp;omega)) (by simp [Xe]) fun w6 hH1=>?_;(try refine Qs ?_);have hH:Heap w0 B w6 (rnd s (UInt64.ofNat n)::arr g cap d::R::G):=by rw [rnd,<- e1];exact hH1
 apply hK;clear hK;refine VQ [0,1,8,9,10] fun K hK=>?_;refine MemK_call Tryz.call164 ?_;refine Qs ?_;refine Yk (Qkw n (by omega) w6) ?_;rintro v w2 ⟨rfl,rfl⟩;apply hK;clear hK;have h40:bitsLen n<=40:=Qg0 (by omega);have hp:2 ^ bitsLen n<=2 ^ 40:=Xn (by omega) h40;have hp0:0 < 2 ^ bitsLen n:=Uq (by omega);have hpn:=QDn n;have hmod:1 <<< bitsLen n=2 ^ bitsLen n:=by rw [Uy,Nat.one_mul]
 have hpow2:∀ r:Nat,r &&& (2 ^ bitsLen n - 1) < 2 ^ bitsLen n:=fun r=>by rw [Nat.and_two_pow_sub_one_eq_mod];exact X5 _ hp0
 have hle:2 ^ bitsLen n<=2 * n:=by
  have h0:n≠0:=by omega
  have:=Uw h0;rw [show bitsLen n=Uj n+1 by unfold bitsLen;rw [if_neg h0],Yr];omega
 refine VS [0,1,8,9,10,11] ?_
 have hbp:breakPatterns d a b=(brkN a n (2 ^ bitsLen n) (a+n / 4 * 2 - 1) d 3).2:=by
  simp only [breakPatterns,hn,hmod,if_pos (show n ≥ 8 by omega)];rfl
 have hix:a+3<=a+n / 4 * 2 - 1/\a+n / 4 * 2 - 1+3<=b:=by omega
 rw [show ((a:Int)+n / 4 * 2 - 1)=((a+n / 4 * 2 - 1:Nat):Int) by omega];have hlim:(a:Int)+n / 4 * 2+1=((a+n / 4 * 2 - 1:Nat):Int)+2:=by omega
 generalize a+n / 4 * 2 - 1=i0 at *;generalize 2 ^ bitsLen n=md at *;refine Qac ?_;refine Qad [0,1,8,9,10,11] (fun m e w'=>∃ (k:Nat),Is e [(0,sl g cap d),(1,.int .i64 a),(8,.int .i64 n),(9,.pointer (some ⟨s,0,none⟩)),(10,.int .u64 md),(11,.int .i64 (i0+k:Nat))]/\Heap w0 B w' (rnd s (brkN a n md i0 d k).1::arr g cap (brkN a n md i0 d k).2::R::G)/\(brkN a n md i0 d k).2.size=d.size/\AllQ Q (brkN a n md i0 d k).2/\k<=3/\m=3 - k) 3 ?_ ?_
 ·
  refine Qs ?_;exact ⟨0,rfl,hH,rfl,hQ,by omega,rfl⟩
 clear hH hH1 hH0;rintro m e w3 ⟨k,rfl,hH,hs1,hQ1,hk,hm⟩;refine VQ [0,1,8,9,10,11,35] fun K hK=>?_;rw [hlim];(repeat refine Qo ?_);apply hK;clear hK;refine VD (fun h=>?_) (fun h=>?_)
 ·
  refine VC_skip ?_;refine VB ?_;refine VQ [0,1,8,9,10,11,12] fun K hK=>?_;refine MemK_call Tryz.call165 ?_;refine Qs ?_;refine Yk (Qze s _ w3 (hH.focus 0 rfl)) ?_;rintro v w4 ⟨hH2,rfl⟩;have hH3:=hH.call1 (G':=[]) 0 rfl hH2;simp only [Xs,Yd] at hH3;refine Qs ?_;have hst:brkN a n md i0 d (k+1)=breakStep a n md (brkN a n md i0 d k) (i0+k):=rfl;clear hH hH2;generalize brkN a n md i0 d k=st at *;obtain ⟨r,d1⟩:=st;simp only [breakStep] at hst
  dsimp only at hH3 hs1 hQ1 ⊢
  generalize xorNext r=r1 at *;have hb1:=r1.toNat_lt;rw [Y4 (by omega) (by omega),show ((md:Int) - 1).toNat=md - 1 by omega];have ho:=hpow2 r1.toNat;generalize r1.toNat &&& (md - 1)=o at *;refine ⟨⟨by omega,by omega⟩,⟨by omega,by omega⟩,?_⟩;(repeat refine Qo ?_);apply hK;clear hK;refine VS [0,1,8,9,10,11,12,45] ?_;refine Qdl [0,1,8,9,10,11,12] (fun e w'=>∃ q:Nat,Is e [(0,sl g cap d),(1,.int .i64 a),(8,.int .i64 n),(9,.pointer (some ⟨s,0,none⟩)),(10,.int .u64 md),(11,.int .i64 (i0+k:Nat)),(12,.int .i64 q)]/\Is w' w4/\q=(if o ≥ n then o - n else o)/\q < n) ?_ ?_
  ·
   refine VD (fun h=>?_) (fun h=>?_)
   ·
    refine VS [0,1,8,9,10,11,12] ?_;refine Qab ?_;refine Qs ?_;exact ⟨o - n,by rw [show ((o:Int) - n)=((o - n:Nat):Int) by omega];rfl,rfl,by rw [if_pos (by omega)],by omega⟩
   refine VC_skip ?_;refine Qab ?_;refine Qs ?_;exact ⟨o,rfl,rfl,by rw [if_neg (by omega)],by omega⟩
  rintro e w5 ⟨q,rfl,rfl,hq,hq2⟩;rw [<- hq] at hst;have hH4:=hH3.front 1 rfl;simp only [Uz,U0] at hH4;refine Vb [0,1,8,9,10,11] [(0,0),(1,0),(2,0),(3,0),(4,0),(5,0),(6,0),(7,0),(8,0),(9,0),(10,0),(12,0),(13,0),(14,0),(11,1),(15,1),(16,0),(17,2),(18,0),(19,2)] fun K hK=>?_;(repeat (first | (refine ⟨_,Qa4 (hH4.at 0 rfl) (by omega),?_⟩;(try refine Qs ?_)) | refine Qo ?_ | refine Qp ?_));refine Qaa ?_;refine Qs ?_;refine Qa6 hH4 0 (o:=(i0+k)) rfl (by first | rfl | (simp;done) | (congr 1;omega)) (by first | omega | (simp;omega)) fun w6 hH5=>?_;simp only [Yd] at hH5;(try refine Qs ?_);(repeat (first | (refine ⟨_,Qa4 (hH4.at 0 rfl) (by omega),?_⟩;(try refine Qs ?_)) | refine Qo ?_ | refine Qp ?_));refine Qaa ?_;refine Qs ?_;refine Qa6 hH5 0 (o:=(a+q)) rfl (by first | rfl | (simp;done) | (congr 1;omega)) (by first | omega | (simp;omega)) fun w6 hH6=>?_;simp only [Yd] at hH6;(try refine Qs ?_);have hH7:Heap w0 B w6 (arr g cap (swp d1 (i0+k) (a+q))::rnd s r1::R::G):=hH6;have hH8:=hH7.front 1 rfl;simp only [Uz,U0] at hH8;apply hK;clear hK;refine Qaj ?_;refine VS [0,1,8,9,10,11] ?_;refine Qab ?_;refine Qs ?_;refine ⟨3 - (k+1),by omega,k+1,by rw [show (((i0+k:Nat):Int)+1)=((i0+(k+1):Nat):Int) by omega];rfl,?_,?_,?_,by omega,rfl⟩
  ·
   rw [hst];exact hH8
  ·
   rw [hst];rw [Qdw];exact hs1
  rw [hst];exact hQ1.swp (by omega) (by omega)
 obtain rfl:k=3:=by omega
 refine Qag rfl ?_;refine Qrs (Qgl rfl ?_);exact ⟨_,hbp.symm,hs1,hQ1,(hH.sub (by simp)),rfl⟩
open Go Go.Eng
open Go.Sort (swp scanUp scanDown partLoop partition partEqLoop partitionEqual)
theorem Qpe {p:Int->Bool}{d:Array Int}{j i:Nat} (h:i<=j) (hb:true=(decide (i<=j) && p d[i]!)):scanUp p d j i=scanUp p d j (i+1):=by
 conv=>lhs;rw [scanUp]
 rw [if_pos hb.symm]
theorem Qkx {p:Int->Bool}{d:Array Int}{j i:Nat} (hb:false=(decide (i<=j) && p d[i]!)):scanUp p d j i=i:=by
 rw [scanUp,if_neg (by rw [<- hb];simp)]
theorem Qky {p:Int->Bool}{d:Array Int}{j i:Nat} (h:0 < j) (hb:true=(decide (i<=j) && p d[j]!)):scanDown p d i j=scanDown p d i (j - 1):=by
 obtain ⟨k,rfl⟩:∃ k,j=k+1:=⟨j - 1,by omega⟩
 conv=>lhs;rw [scanDown]
 rw [if_pos hb.symm];rfl
theorem Qip {p:Int->Bool}{d:Array Int}{j i:Nat} (hb:false=(decide (i<=j) && p d[j]!)):scanDown p d i j=j:=by
 cases j with
 | zero=>rfl
 | succ k=>rw [scanDown,if_neg (by rw [<- hb];simp)]
theorem Qzf {lt:Int->Int->Bool}{a i j i2 j2:Nat}{d:Array Int} (h1:i2=scanUp (fun x=>!lt d[a]! x) d j i) (h2:j2=scanDown (fun x=>lt d[a]! x) d i2 j) (h:i2 > j2):partEqLoop lt a i j d=(i2,d):=by
 rw [partEqLoop];simp only [<- h1,<- h2];rw [if_pos h]
theorem QGa {lt:Int->Int->Bool}{a i j i2 j2:Nat}{d:Array Int} (h1:i2=scanUp (fun x=>!lt d[a]! x) d j i) (h2:j2=scanDown (fun x=>lt d[a]! x) d i2 j) (h:¬ i2 > j2) (h3:i<=i2) (h4:j2<=j) (h5:1<=j2):partEqLoop lt a i j d=partEqLoop lt a (i2+1) (j2 - 1) (swp d i2 j2):=by
 conv=>lhs;rw [partEqLoop]
 simp only [<- h1,<- h2];rw [if_neg h,dif_pos (by omega)]
theorem QGb {lt:Int->Int->Bool}{a i j i2 j2:Nat}{d:Array Int} (h1:i2=scanUp (fun x=>lt x d[a]!) d j i) (h2:j2=scanDown (fun x=>!lt x d[a]!) d i2 j) (h:i2 > j2):partLoop lt a i j d=(j2,d):=by
 rw [partLoop];simp only [<- h1,<- h2];rw [if_pos h]
theorem QOr {lt:Int->Int->Bool}{a i j i2 j2:Nat}{d:Array Int} (h1:i2=scanUp (fun x=>lt x d[a]!) d j i) (h2:j2=scanDown (fun x=>!lt x d[a]!) d i2 j) (h:¬ i2 > j2) (h3:i<=i2) (h4:j2<=j) (h5:1<=j2):partLoop lt a i j d=partLoop lt a (i2+1) (j2 - 1) (swp d i2 j2):=by
 conv=>lhs;rw [partLoop]
 simp only [<- h1,<- h2];rw [if_neg h,dif_pos (by omega)]
theorem Qkz {cmp:Value}{cf:Int->Int->Int}{Q:Int->Prop}{R:Res} (hC:Cmp cmp cf Q R) (g cap a b pivot:Nat) (d:Array Int) (hab:a < b) (hb:b<=d.size) (hp:a<=pivot/\pivot < b) (hd:d.size<=1000000000000) (hQ:AllQ Q d) (w0 w:World) (B:List Nat) (G:List Res)
  (hL:Heap w0 B w (arr g cap d::R::G)):Does Ya 152 #[sl g cap d,.int .i64 a,.int .i64 b,.int .i64 pivot,cmp] w
   fun v w'=>∃ (p:Nat) (d':Array Int),(p,d')=partitionEqual (ltOf cf) d a b pivot/\(a < p/\p<=b)/\d'.size=d.size/\AllQ Q d'/\Heap w0 B w' (arr g cap d'::R::G)/\v=.int .i64 p:=by
 refine En [sl g cap d,.int .i64 a,.int .i64 b,.int .i64 pivot,cmp] 90 Tryz.func152 ?_;refine VS [0,1,2,3,4] ?_;refine Vb [0,1,2,4] [(0,0),(1,0),(2,0),(3,0),(4,0),(5,0),(6,0),(8,0),(9,0),(10,0),(7,1),(11,1),(12,0),(13,2),(14,0),(15,2)] fun K hK=>?_;(repeat (first | (refine ⟨_,Qa4 (hL.at 0 rfl) (by omega),?_⟩;(try refine Qs ?_)) | refine Qo ?_ | refine Qp ?_));refine Qaa ?_;refine Qs ?_;refine Qa6 hL 0 (o:=(a)) rfl (by first | rfl | (simp;done) | (congr 1;omega)) (by first | omega | (simp;omega)) fun w6 hS1=>?_;simp only [Yd] at hS1;(try refine Qs ?_);(repeat (first | (refine ⟨_,Qa4 (hL.at 0 rfl) (by omega),?_⟩;(try refine Qs ?_)) | refine Qo ?_ | refine Qp ?_));refine Qaa ?_;refine Qs ?_;refine Qa6 hS1 0 (o:=(pivot)) rfl (by first | rfl | (simp;done) | (congr 1;omega)) (by first | omega | (simp;omega)) fun w6 hS2=>?_;simp only [Yd] at hS2;(try refine Qs ?_);have hS0:Heap w0 B w6 (arr g cap (swp d a pivot)::R::G):=hS2;clear hS1 hS2;apply hK;clear hK;have hs0:(swp d a pivot).size=d.size:=Qdw _ _ _;have hQ0:=hQ.swp (i:=a) (j:=pivot) (by omega) (by omega);refine VS [0,1,4,11,12] ?_;refine VB ?_;refine Qad [0,1,4,11,12] (fun m e w'=>∃ (i j:Nat) (d':Array Int),Is e [(0,sl g cap d),(1,.int .i64 a),(4,cmp),(11,.int .i64 i),(12,.int .i64 j)]/\Heap w0 B w' (arr g cap d'::R::G)/\d'.size=d.size/\AllQ Q d'/\a+1<=i/\(i<=j+2/\i<=b/\a<=j)/\j < b/\partEqLoop (ltOf cf) a i j d'=partitionEqual (ltOf cf) d a b pivot/\m=j+1 - i) (b - (a+1)) ?_ ?_
 ·
  refine Qs ?_;exact ⟨a+1,b - 1,_,by rw [show ((b:Int) - 1)=((b - 1:Nat):Int) by omega];rfl,hS0,hs0,hQ0,by omega,by omega,by omega,rfl,by omega⟩
 clear hS0;rintro m0 e w1 ⟨i0,j,d1,rfl,hH,hs1,hQ1,hi0,hij0,hj,hlp,hm0⟩;refine Qac ?_;refine VB ?_;refine Qad [0,1,4,11,12] (fun m e w'=>∃ (i:Nat),Is e [(0,sl g cap d),(1,.int .i64 a),(4,cmp),(11,.int .i64 i),(12,.int .i64 j)]/\Heap w0 B w' (arr g cap d1::R::G)/\i0<=i/\(i<=j+1∨i=i0)/\scanUp (fun x=>!ltOf cf d1[a]! x) d1 j i=scanUp (fun x=>!ltOf cf d1[a]! x) d1 j i0/\m=j+1 - i) (j+1 - i0) ?_ ?_
 ·
  refine Qs ?_;exact ⟨i0,rfl,hH,by omega,by omega,rfl,rfl⟩
 clear hH;rintro m e w2 ⟨i,rfl,hH,hi1,hi2,hsc,hm⟩;refine VL [0,1,4,11,12,47] 13 fun K hK=>?_
 have hall:∀ bb:Bool,∀ w4,bb=(decide (i<=j) && (!ltOf cf d1[a]! d1[i]!))->Heap w0 B w4 (arr g cap d1::R::G)->K [(0,sl g cap d),(1,.int .i64 a),(4,cmp),(11,.int .i64 i),(12,.int .i64 j),(47,.bool bb)] w4:=by
  clear hH;intro bb w4 hbb hH;apply hK;clear hK;refine Vi (fun h=>?_) (fun h=>?_)
  ·
   subst h;have hij:i<=j:=by simp at hbb;omega
   refine VC_skip ?_;refine Qac ?_;refine VS [0,1,4,11,12] ?_;refine Qaj ?_;refine Qab ?_;refine Qs ?_;refine ⟨j+1 - (i+1),by omega,i+1,rfl,hH,by omega,by omega,?_,rfl⟩;rw [<- hsc,Qpe (p:=fun x=>!ltOf cf d1[a]! x) (i:=i) (j:=j) (by omega) hbb]
  subst h;rw [Qkx hbb] at hsc;clear hbb;refine Qag rfl ?_;obtain ⟨j0,hj0⟩:∃ j0,j0=j:=⟨_,rfl⟩;subst hj0;refine VB ?_;refine Qad [0,1,4,11,12] (fun m e w'=>∃ (j:Nat),Is e [(0,sl g cap d),(1,.int .i64 a),(4,cmp),(11,.int .i64 i),(12,.int .i64 j)]/\Heap w0 B w' (arr g cap d1::R::G)/\(i<=j+2/\a<=j)/\j<=j0/\scanDown (fun x=>ltOf cf d1[a]! x) d1 i j=scanDown (fun x=>ltOf cf d1[a]! x) d1 i j0/\m=j) (j0) ?_ ?_
  ·
   refine Qs ?_;exact ⟨j0,rfl,hH,by omega,by omega,rfl,rfl⟩
  clear hH;rintro m e w2 ⟨j,rfl,hH,hj1,hj2,hsd,hm⟩;refine VL [0,1,4,11,12,65] 13 fun K hK=>?_
  have hall:∀ bb:Bool,∀ w4,bb=(decide (i<=j) && ltOf cf d1[a]! d1[j]!)->Heap w0 B w4 (arr g cap d1::R::G)->K [(0,sl g cap d),(1,.int .i64 a),(4,cmp),(11,.int .i64 i),(12,.int .i64 j),(65,.bool bb)] w4:=by
   clear hH;intro bb w4 hbb hH;apply hK;clear hK;refine Vi (fun h=>?_) (fun h=>?_)
   ·
    subst h;have hij:i<=j:=by simp at hbb;omega
    refine VC_skip ?_;refine Qac ?_;refine VS [0,1,4,11,12] ?_;refine Qaj ?_;refine Qab ?_;refine Qs ?_;refine ⟨j - 1,by omega,j - 1,by rw [show ((j:Int) - 1)=((j - 1:Nat):Int) by omega];rfl,hH,by omega,by omega,?_,rfl⟩;rw [<- hsd,Qky (p:=fun x=>ltOf cf d1[a]! x) (i:=i) (j:=j) (by omega) hbb]
   subst h;rw [Qip hbb] at hsd;clear hbb;refine Qag rfl ?_;refine VS [0,1,4,11,12,70] ?_;refine VD (fun h=>?_) (fun h=>?_)
   ·
    rw [Qzf hsc hsd (by omega)] at hlp;refine Qag rfl ?_;refine VS [10] ?_;exact VC_ret (VX_ret1 rfl rfl ⟨i,d1,hlp,⟨by omega,by omega⟩,hs1,hQ1,hH,rfl⟩)
   rw [QGa hsc hsd (by omega) (by omega) (by omega) (by omega)] at hlp;refine VC_skip ?_;refine Vb [0,1,4,11,12] [(0,0),(1,0),(2,0),(3,0),(4,0),(5,0),(6,0),(8,0),(9,0),(10,0),(7,1),(11,1),(12,0),(13,2),(14,0),(15,2)] fun K hK=>?_;(repeat (first | (refine ⟨_,Qa4 (hH.at 0 rfl) (by omega),?_⟩;(try refine Qs ?_)) | refine Qo ?_ | refine Qp ?_));refine Qaa ?_;refine Qs ?_;refine Qa6 hH 0 (o:=(i)) rfl (by first | rfl | (simp;done) | (congr 1;omega)) (by first | omega | (simp;omega)) fun w6 hS1=>?_;simp only [Yd] at hS1;(try refine Qs ?_);(repeat (first | (refine ⟨_,Qa4 (hH.at 0 rfl) (by omega),?_⟩;(try refine Qs ?_)) | refine Qo ?_ | refine Qp ?_));refine Qaa ?_;refine Qs ?_;refine Qa6 hS1 0 (o:=(j)) rfl (by first | rfl | (simp;done) | (congr 1;omega)) (by first | omega | (simp;omega)) fun w6 hS2=>?_;simp only [Yd] at hS2;(try refine Qs ?_);have hS:Heap w0 B w6 (arr g cap (swp d1 i j)::R::G):=hS2;clear hS1 hS2;apply hK;clear hK;refine VS [0,1,4,11,12] ?_;refine VS [0,1,4,11,12] ?_;refine Qaj ?_;refine Qab ?_;refine Qs ?_;exact ⟨j - 1+1 - (i+1),by omega,i+1,j - 1,_,by rw [show ((j:Int) - 1)=((j - 1:Nat):Int) by omega];rfl,hS,by rw [Qdw,hs1],hQ1.swp (by omega) (by omega),by omega,by omega,by omega,hlp,rfl⟩
  refine ⟨fun hg=>?_,fun hg=>?_⟩
  ·
   (repeat (first | (refine ⟨_,Qa4 (hH.at 0 rfl) (by omega),?_⟩;(try refine Qs ?_)) | refine Qo ?_ | refine Qp ?_));refine Qbp ?_;refine Qs ?_;refine FnK.to (Cmp.look hC hH (hQ1 _ (by omega)) (hQ1 _ (by omega))) ?_;rintro v w4 ⟨hH2,rfl⟩;(try refine Qs ?_);refine hall _ _ ?_ hH2;simp [ltOf,show i<=j by omega]
  refine hall _ _ ?_ hH;simp [show ¬ i<=j by omega]
 refine ⟨fun hg=>?_,fun hg=>?_⟩
 ·
  (repeat (first | (refine ⟨_,Qa4 (hH.at 0 rfl) (by omega),?_⟩;(try refine Qs ?_)) | refine Qo ?_ | refine Qp ?_));refine Qbp ?_;refine Qs ?_;refine FnK.to (Cmp.look hC hH (hQ1 _ (by omega)) (hQ1 _ (by omega))) ?_;rintro v w4 ⟨hH2,rfl⟩;(try refine Qs ?_);refine hall _ _ ?_ hH2;simp [ltOf,show i<=j by omega]
 refine hall _ _ ?_ hH;simp [show ¬ i<=j by omega]
theorem Qra {cmp:Value}{cf:Int->Int->Int}{Q:Int->Prop}{R:Res} (hC:Cmp cmp cf Q R) (g cap a b pivot:Nat) (d:Array Int) (hab:a < b) (hb:b<=d.size) (hp:a<=pivot/\pivot < b) (hd:d.size<=1000000000000) (hQ:AllQ Q d) (w0 w:World) (B:List Nat) (G:List Res)
  (hL:Heap w0 B w (arr g cap d::R::G)):Does Ya 153 #[sl g cap d,.int .i64 a,.int .i64 b,.int .i64 pivot,cmp] w
   fun v w'=>∃ (p:Nat) (al:Bool) (d':Array Int),(p,al,d')=partition (ltOf cf) d a b pivot/\(a<=p/\p < b)/\d'.size=d.size/\AllQ Q d'/\Heap w0 B w' (arr g cap d'::R::G)/\v=.tuple #[.int .i64 p,.bool al]:=by
 refine En [sl g cap d,.int .i64 a,.int .i64 b,.int .i64 pivot,cmp] 178 Tryz.func153 ?_;refine VS [0,1,2,3,4] ?_;refine Vb [0,1,2,4] [(0,0),(1,0),(2,0),(3,0),(4,0),(5,0),(6,0),(8,0),(9,0),(10,0),(7,1),(11,1),(12,0),(13,2),(14,0),(15,2)] fun K hK=>?_;(repeat (first | (refine ⟨_,Qa4 (hL.at 0 rfl) (by omega),?_⟩;(try refine Qs ?_)) | refine Qo ?_ | refine Qp ?_));refine Qaa ?_;refine Qs ?_;refine Qa6 hL 0 (o:=(a)) rfl (by first | rfl | (simp;done) | (congr 1;omega)) (by first | omega | (simp;omega)) fun w6 hS1=>?_;simp only [Yd] at hS1;(try refine Qs ?_);(repeat (first | (refine ⟨_,Qa4 (hL.at 0 rfl) (by omega),?_⟩;(try refine Qs ?_)) | refine Qo ?_ | refine Qp ?_));refine Qaa ?_;refine Qs ?_;refine Qa6 hS1 0 (o:=(pivot)) rfl (by first | rfl | (simp;done) | (congr 1;omega)) (by first | omega | (simp;omega)) fun w6 hS2=>?_;simp only [Yd] at hS2;(try refine Qs ?_);have hH:Heap w0 B w6 (arr g cap (swp d a pivot)::R::G):=hS2;clear hS1 hS2;apply hK;clear hK;have hs0:(swp d a pivot).size=d.size:=Qdw _ _ _;have hQ0:=hQ.swp (i:=a) (j:=pivot) (by omega) (by omega);generalize hd0:swp d a pivot=d0 at *;refine VS [0,1,4,12,13] ?_;obtain ⟨i0,hi00⟩:∃ i0,i0=a+1:=⟨_,rfl⟩;obtain ⟨j,hj00⟩:∃ j,j=b - 1:=⟨_,rfl⟩;rw [show ((b:Int) - 1)=(j:Int) by omega,show ((a:Int)+1)=(i0:Int) by omega];refine VB ?_;refine Qad [0,1,4,12,13] (fun m e w'=>∃ (i:Nat),Is e [(0,sl g cap d),(1,.int .i64 a),(4,cmp),(12,.int .i64 i),(13,.int .i64 j)]/\Heap w0 B w' (arr g cap d0::R::G)/\i0<=i/\(i<=j+1∨i=i0)/\scanUp (fun x=>ltOf cf x d0[a]!) d0 j i=scanUp (fun x=>ltOf cf x d0[a]!) d0 j i0/\m=j+1 - i) (j+1 - i0) ?_ ?_
 ·
  refine Qs ?_;exact ⟨i0,rfl,hH,by omega,by omega,rfl,rfl⟩
 clear hH;rintro m e w2 ⟨i,rfl,hH,hi1,hi2,hsc,hm⟩;refine VL [0,1,4,12,13,47] 13 fun K hK=>?_
 have hall:∀ bb:Bool,∀ w4,bb=(decide (i<=j) && ltOf cf d0[i]! d0[a]!)->Heap w0 B w4 (arr g cap d0::R::G)->K [(0,sl g cap d),(1,.int .i64 a),(4,cmp),(12,.int .i64 i),(13,.int .i64 j),(47,.bool bb)] w4:=by
  clear hH;intro bb w4 hbb hH;apply hK;clear hK;refine Vi (fun h=>?_) (fun h=>?_)
  ·
   subst h;have hij:i<=j:=by simp at hbb;omega
   refine VC_skip ?_;refine Qac ?_;refine VS [0,1,4,12,13] ?_;refine Qaj ?_;refine Qab ?_;refine Qs ?_;refine ⟨j+1 - (i+1),by omega,i+1,rfl,hH,by omega,by omega,?_,rfl⟩;rw [<- hsc,Qpe (p:=fun x=>ltOf cf x d0[a]!) (i:=i) (j:=j) (by omega) hbb]
  subst h;rw [Qkx hbb] at hsc;clear hbb;refine Qag rfl ?_;obtain ⟨j0,hj0⟩:∃ j0,j0=j:=⟨_,rfl⟩;subst hj0;refine VB ?_;refine Qad [0,1,4,12,13] (fun m e w'=>∃ (j:Nat),Is e [(0,sl g cap d),(1,.int .i64 a),(4,cmp),(12,.int .i64 i),(13,.int .i64 j)]/\Heap w0 B w' (arr g cap d0::R::G)/\(i<=j+2/\a<=j)/\j<=j0/\scanDown (fun x=>!ltOf cf x d0[a]!) d0 i j=scanDown (fun x=>!ltOf cf x d0[a]!) d0 i j0/\m=j) (j0) ?_ ?_
  ·
   refine Qs ?_;exact ⟨j0,rfl,hH,by omega,by omega,rfl,rfl⟩
  clear hH;rintro m e w2 ⟨j,rfl,hH,hj1,hj2,hsd,hm⟩;refine VL [0,1,4,12,13,66] 13 fun K hK=>?_
  have hall:∀ bb:Bool,∀ w4,bb=(decide (i<=j) && (!ltOf cf d0[j]! d0[a]!))->Heap w0 B w4 (arr g cap d0::R::G)->K [(0,sl g cap d),(1,.int .i64 a),(4,cmp),(12,.int .i64 i),(13,.int .i64 j),(66,.bool bb)] w4:=by
   clear hH;intro bb w4 hbb hH;apply hK;clear hK;refine Vi (fun h=>?_) (fun h=>?_)
   ·
    subst h;have hij:i<=j:=by simp at hbb;omega
    refine VC_skip ?_;refine Qac ?_;refine VS [0,1,4,12,13] ?_;refine Qaj ?_;refine Qab ?_;refine Qs ?_;refine ⟨j - 1,by omega,j - 1,by rw [show ((j:Int) - 1)=((j - 1:Nat):Int) by omega];rfl,hH,by omega,by omega,?_,rfl⟩;rw [<- hsd,Qky (p:=fun x=>!ltOf cf x d0[a]!) (i:=i) (j:=j) (by omega) hbb]
   subst h;rw [Qip hbb] at hsd;clear hbb;refine Qag rfl ?_;refine VS [0,1,4,12,13,71] ?_
   have hpart:partition (ltOf cf) d a b pivot=if i > j then (j,true,swp d0 j a) else ((partLoop (ltOf cf) a (i+1) (j - 1) (swp d0 i j)).1,false,swp (partLoop (ltOf cf) a (i+1) (j - 1) (swp d0 i j)).2 (partLoop (ltOf cf) a (i+1) (j - 1) (swp d0 i j)).1 a):=by
    simp only [partition,hd0,<- hi00,<- hj00,<- hsc,<- hsd]
   refine VD (fun h=>?_) (fun h=>?_)
   ·
    rw [if_pos (by omega)] at hpart;refine Vb [13] [(0,0),(1,0),(2,0),(3,0),(4,0),(5,0),(6,0),(8,0),(9,0),(10,0),(7,1),(11,1),(12,0),(13,2),(14,0),(15,2)] fun K hK=>?_;(repeat (first | (refine ⟨_,Qa4 (hH.at 0 rfl) (by omega),?_⟩;(try refine Qs ?_)) | refine Qo ?_ | refine Qp ?_));refine Qaa ?_;refine Qs ?_;refine Qa6 hH 0 (o:=(j)) rfl (by first | rfl | (simp;done) | (congr 1;omega)) (by first | omega | (simp;omega)) fun w6 hS1=>?_;simp only [Yd] at hS1;(try refine Qs ?_);(repeat (first | (refine ⟨_,Qa4 (hH.at 0 rfl) (by omega),?_⟩;(try refine Qs ?_)) | refine Qo ?_ | refine Qp ?_));refine Qaa ?_;refine Qs ?_;refine Qa6 hS1 0 (o:=(a)) rfl (by first | rfl | (simp;done) | (congr 1;omega)) (by first | omega | (simp;omega)) fun w6 hS2=>?_;simp only [Yd] at hS2;(try refine Qs ?_);have hS:Heap w0 B w6 (arr g cap (swp d0 j a)::R::G):=hS2;clear hS1 hS2;apply hK;clear hK;refine VS [10,11] ?_;refine VC_ret (Qav rfl rfl rfl ?_);exact ⟨j,true,_,hpart.symm,⟨by omega,by omega⟩,by rw [Qdw,hs0],hQ0.swp (by omega) (by omega),hS,rfl⟩
   rw [if_neg (by omega)] at hpart;refine VC_skip ?_;refine Vb [0,1,4,12,13] [(0,0),(1,0),(2,0),(3,0),(4,0),(5,0),(6,0),(8,0),(9,0),(10,0),(7,1),(11,1),(12,0),(13,2),(14,0),(15,2)] fun K hK=>?_;(repeat (first | (refine ⟨_,Qa4 (hH.at 0 rfl) (by omega),?_⟩;(try refine Qs ?_)) | refine Qo ?_ | refine Qp ?_));refine Qaa ?_;refine Qs ?_;refine Qa6 hH 0 (o:=(i)) rfl (by first | rfl | (simp;done) | (congr 1;omega)) (by first | omega | (simp;omega)) fun w6 hS1=>?_;simp only [Yd] at hS1;(try refine Qs ?_);(repeat (first | (refine ⟨_,Qa4 (hH.at 0 rfl) (by omega),?_⟩;(try refine Qs ?_)) | refine Qo ?_ | refine Qp ?_));refine Qaa ?_;refine Qs ?_;refine Qa6 hS1 0 (o:=(j)) rfl (by first | rfl | (simp;done) | (congr 1;omega)) (by first | omega | (simp;omega)) fun w6 hS2=>?_;simp only [Yd] at hS2;(try refine Qs ?_);have hS0:Heap w0 B w6 (arr g cap (swp d0 i j)::R::G):=hS2;clear hS1 hS2;apply hK;clear hK;refine VS [0,1,4,12,13] ?_;refine VS [0,1,4,12,13] ?_;have hs0':(swp d0 i j).size=d.size:=by rw [Qdw,hs0]
   have hQ0':=hQ0.swp (i:=i) (j:=j) (by omega) (by omega);obtain ⟨r,hr⟩:∃ r,partLoop (ltOf cf) a (i+1) (j - 1) (swp d0 i j)=r:=⟨_,rfl⟩;have hpt:∀ x y,r=(x,y)->(x,false,swp y x a)=partition (ltOf cf) d a b pivot:=fun x y h=>by rw [hpart,hr,h]
   clear hpart hsc hsd;obtain ⟨d0',hd0'⟩:∃ d0',swp d0 i j=d0':=⟨_,rfl⟩;rw [hd0'] at hS0 hs0' hQ0' hr;clear hd0';refine VB ?_;refine Qad [0,1,4,12,13] (fun m e w'=>∃ (i j:Nat) (d':Array Int),Is e [(0,sl g cap d),(1,.int .i64 a),(4,cmp),(12,.int .i64 i),(13,.int .i64 j)]/\Heap w0 B w' (arr g cap d'::R::G)/\d'.size=d.size/\AllQ Q d'/\a+1<=i/\(i<=j+2/\i<=b/\a<=j)/\j < b/\partLoop (ltOf cf) a i j d'=r/\m=j+1 - i) (j - 1+1 - (i+1)) ?_ ?_
   ·
    refine Qs ?_;exact ⟨i+1,j - 1,d0',by rw [show ((j:Int) - 1)=((j - 1:Nat):Int) by omega];rfl,hS0,hs0',hQ0',by omega,by omega,by omega,hr,rfl⟩
   clear hS0;rintro m0 e w1 ⟨i0,j,d1,rfl,hH,hs1,hQ1,hi0,hij0,hj,hlp,hm0⟩;refine Qac ?_;refine VB ?_;refine Qad [0,1,4,12,13] (fun m e w'=>∃ (i:Nat),Is e [(0,sl g cap d),(1,.int .i64 a),(4,cmp),(12,.int .i64 i),(13,.int .i64 j)]/\Heap w0 B w' (arr g cap d1::R::G)/\i0<=i/\(i<=j+1∨i=i0)/\scanUp (fun x=>ltOf cf x d1[a]!) d1 j i=scanUp (fun x=>ltOf cf x d1[a]!) d1 j i0/\m=j+1 - i) (j+1 - i0) ?_ ?_
   ·
    refine Qs ?_;exact ⟨i0,rfl,hH,by omega,by omega,rfl,rfl⟩
   clear hH;rintro m e w2 ⟨i,rfl,hH,hi1,hi2,hsc,hm⟩;refine VL [0,1,4,12,13,120] 13 fun K hK=>?_
   have hall:∀ bb:Bool,∀ w4,bb=(decide (i<=j) && ltOf cf d1[i]! d1[a]!)->Heap w0 B w4 (arr g cap d1::R::G)->K [(0,sl g cap d),(1,.int .i64 a),(4,cmp),(12,.int .i64 i),(13,.int .i64 j),(120,.bool bb)] w4:=by
    clear hH;intro bb w4 hbb hH;apply hK;clear hK;refine Vi (fun h=>?_) (fun h=>?_)
    ·
     subst h;have hij:i<=j:=by simp at hbb;omega
     refine VC_skip ?_;refine Qac ?_;refine VS [0,1,4,12,13] ?_;refine Qaj ?_;refine Qab ?_;refine Qs ?_;refine ⟨j+1 - (i+1),by omega,i+1,rfl,hH,by omega,by omega,?_,rfl⟩;rw [<- hsc,Qpe (p:=fun x=>ltOf cf x d1[a]!) (i:=i) (j:=j) (by omega) hbb]
    subst h;rw [Qkx hbb] at hsc;clear hbb;refine Qag rfl ?_;obtain ⟨j0,hj0⟩:∃ j0,j0=j:=⟨_,rfl⟩;subst hj0;refine VB ?_;refine Qad [0,1,4,12,13] (fun m e w'=>∃ (j:Nat),Is e [(0,sl g cap d),(1,.int .i64 a),(4,cmp),(12,.int .i64 i),(13,.int .i64 j)]/\Heap w0 B w' (arr g cap d1::R::G)/\(i<=j+2/\a<=j)/\j<=j0/\scanDown (fun x=>!ltOf cf x d1[a]!) d1 i j=scanDown (fun x=>!ltOf cf x d1[a]!) d1 i j0/\m=j) (j0) ?_ ?_
    ·
     refine Qs ?_;exact ⟨j0,rfl,hH,by omega,by omega,rfl,rfl⟩
    clear hH;rintro m e w2 ⟨j,rfl,hH,hj1,hj2,hsd,hm⟩;refine VL [0,1,4,12,13,139] 13 fun K hK=>?_
    have hall:∀ bb:Bool,∀ w4,bb=(decide (i<=j) && (!ltOf cf d1[j]! d1[a]!))->Heap w0 B w4 (arr g cap d1::R::G)->K [(0,sl g cap d),(1,.int .i64 a),(4,cmp),(12,.int .i64 i),(13,.int .i64 j),(139,.bool bb)] w4:=by
     clear hH;intro bb w4 hbb hH;apply hK;clear hK;refine Vi (fun h=>?_) (fun h=>?_)
     ·
      subst h;have hij:i<=j:=by simp at hbb;omega
      refine VC_skip ?_;refine Qac ?_;refine VS [0,1,4,12,13] ?_;refine Qaj ?_;refine Qab ?_;refine Qs ?_;refine ⟨j - 1,by omega,j - 1,by rw [show ((j:Int) - 1)=((j - 1:Nat):Int) by omega];rfl,hH,by omega,by omega,?_,rfl⟩;rw [<- hsd,Qky (p:=fun x=>!ltOf cf x d1[a]!) (i:=i) (j:=j) (by omega) hbb]
     subst h;rw [Qip hbb] at hsd;clear hbb;refine Qag rfl ?_;refine VS [0,1,4,12,13,144] ?_;refine VD (fun h=>?_) (fun h=>?_)
     ·
      rw [QGb hsc hsd (by omega)] at hlp;refine Qag rfl ?_;refine Vb [13] [(0,0),(1,0),(2,0),(3,0),(4,0),(5,0),(6,0),(8,0),(9,0),(10,0),(7,1),(11,1),(12,0),(13,2),(14,0),(15,2)] fun K hK=>?_;(repeat (first | (refine ⟨_,Qa4 (hH.at 0 rfl) (by omega),?_⟩;(try refine Qs ?_)) | refine Qo ?_ | refine Qp ?_));refine Qaa ?_;refine Qs ?_;refine Qa6 hH 0 (o:=(j)) rfl (by first | rfl | (simp;done) | (congr 1;omega)) (by first | omega | (simp;omega)) fun w6 hS1=>?_;simp only [Yd] at hS1;(try refine Qs ?_);(repeat (first | (refine ⟨_,Qa4 (hH.at 0 rfl) (by omega),?_⟩;(try refine Qs ?_)) | refine Qo ?_ | refine Qp ?_));refine Qaa ?_;refine Qs ?_;refine Qa6 hS1 0 (o:=(a)) rfl (by first | rfl | (simp;done) | (congr 1;omega)) (by first | omega | (simp;omega)) fun w6 hS2=>?_;simp only [Yd] at hS2;(try refine Qs ?_);have hS:Heap w0 B w6 (arr g cap (swp d1 j a)::R::G):=hS2;clear hS1 hS2;apply hK;clear hK;refine VS [10,11] ?_;refine VC_ret (Qav rfl rfl rfl ?_);exact ⟨j,false,_,hpt _ _ hlp.symm,⟨by omega,by omega⟩,by rw [Qdw,hs1],hQ1.swp (by omega) (by omega),hS,rfl⟩
     rw [QOr hsc hsd (by omega) (by omega) (by omega) (by omega)] at hlp;refine VC_skip ?_;refine Vb [0,1,4,12,13] [(0,0),(1,0),(2,0),(3,0),(4,0),(5,0),(6,0),(8,0),(9,0),(10,0),(7,1),(11,1),(12,0),(13,2),(14,0),(15,2)] fun K hK=>?_;(repeat (first | (refine ⟨_,Qa4 (hH.at 0 rfl) (by omega),?_⟩;(try refine Qs ?_)) | refine Qo ?_ | refine Qp ?_));refine Qaa ?_;refine Qs ?_;refine Qa6 hH 0 (o:=(i)) rfl (by first | rfl | (simp;done) | (congr 1;omega)) (by first | omega | (simp;omega)) fun w6 hS1=>?_;simp only [Yd] at hS1;(try refine Qs ?_);(repeat (first | (refine ⟨_,Qa4 (hH.at 0 rfl) (by omega),?_⟩;(try refine Qs ?_)) | refine Qo ?_ | refine Qp ?_));refine Qaa ?_;refine Qs ?_;refine Qa6 hS1 0 (o:=(j)) rfl (by first | rfl | (simp;done) | (congr 1;omega)) (by first | omega | (simp;omega)) fun w6 hS2=>?_;simp only [Yd] at hS2;(try refine Qs ?_);have hS:Heap w0 B w6 (arr g cap (swp d1 i j)::R::G):=hS2;clear hS1 hS2;apply hK;clear hK;refine VS [0,1,4,12,13] ?_;refine VS [0,1,4,12,13] ?_;refine Qaj ?_;refine Qab ?_;refine Qs ?_;exact ⟨j - 1+1 - (i+1),by omega,i+1,j - 1,_,by rw [show ((j:Int) - 1)=((j - 1:Nat):Int) by omega];rfl,hS,by rw [Qdw,hs1],hQ1.swp (by omega) (by omega),by omega,by omega,by omega,hlp,rfl⟩
    refine ⟨fun hg=>?_,fun hg=>?_⟩
    ·
     (repeat (first | (refine ⟨_,Qa4 (hH.at 0 rfl) (by omega),?_⟩;(try refine Qs ?_)) | refine Qo ?_ | refine Qp ?_));refine Qbp ?_;refine Qs ?_;refine FnK.to (Cmp.look hC hH (hQ1 _ (by omega)) (hQ1 _ (by omega))) ?_;rintro v w4 ⟨hH2,rfl⟩;(try refine Qs ?_);refine hall _ _ ?_ hH2;simp [ltOf,show i<=j by omega]
    refine hall _ _ ?_ hH;simp [show ¬ i<=j by omega]
   refine ⟨fun hg=>?_,fun hg=>?_⟩
   ·
    (repeat (first | (refine ⟨_,Qa4 (hH.at 0 rfl) (by omega),?_⟩;(try refine Qs ?_)) | refine Qo ?_ | refine Qp ?_));refine Qbp ?_;refine Qs ?_;refine FnK.to (Cmp.look hC hH (hQ1 _ (by omega)) (hQ1 _ (by omega))) ?_;rintro v w4 ⟨hH2,rfl⟩;(try refine Qs ?_);refine hall _ _ ?_ hH2;simp [ltOf,show i<=j by omega]
   refine hall _ _ ?_ hH;simp [show ¬ i<=j by omega]
  refine ⟨fun hg=>?_,fun hg=>?_⟩
  ·
   (repeat (first | (refine ⟨_,Qa4 (hH.at 0 rfl) (by omega),?_⟩;(try refine Qs ?_)) | refine Qo ?_ | refine Qp ?_));refine Qbp ?_;refine Qs ?_;refine FnK.to (Cmp.look hC hH (hQ0 _ (by omega)) (hQ0 _ (by omega))) ?_;rintro v w4 ⟨hH2,rfl⟩;(try refine Qs ?_);refine hall _ _ ?_ hH2;simp [ltOf,show i<=j by omega]
  refine hall _ _ ?_ hH;simp [show ¬ i<=j by omega]
 refine ⟨fun hg=>?_,fun hg=>?_⟩
 ·
  (repeat (first | (refine ⟨_,Qa4 (hH.at 0 rfl) (by omega),?_⟩;(try refine Qs ?_)) | refine Qo ?_ | refine Qp ?_));refine Qbp ?_;refine Qs ?_;refine FnK.to (Cmp.look hC hH (hQ0 _ (by omega)) (hQ0 _ (by omega))) ?_;rintro v w4 ⟨hH2,rfl⟩;(try refine Qs ?_);refine hall _ _ ?_ hH2;simp [ltOf,show i<=j by omega]
 refine hall _ _ ?_ hH;simp [show ¬ i<=j by omega]
open Go Go.Eng
open Go.Sort (swp scanSorted shiftDown shiftUp partialIns partialInsertionSort)
theorem Qtx {lt:Int->Int->Bool}{d:Array Int}{b i:Nat} (hb:true=(decide (i < b) && !lt d[i]! d[i - 1]!)):scanSorted lt d b i=scanSorted lt d b (i+1):=by
 conv=>lhs;rw [scanSorted]
 rw [if_pos hb.symm]
theorem Qpf {lt:Int->Int->Bool}{d:Array Int}{b i:Nat} (hb:false=(decide (i < b) && !lt d[i]! d[i - 1]!)):scanSorted lt d b i=i:=by
 rw [scanSorted,if_neg (by rw [<- hb];simp)]
theorem Qwh {lt:Int->Int->Bool}{d:Array Int}{j:Nat} (h0:0 < j) (h:lt d[j]! d[j - 1]! = true):shiftDown lt j d=shiftDown lt (j - 1) (swp d j (j - 1)):=by
 obtain ⟨k,rfl⟩:∃ k,j=k+1:=⟨j - 1,by omega⟩;rw [Xv] at *
 conv=>lhs;rw [shiftDown]
 rw [if_neg (by simp [h])]
theorem Qrb {lt:Int->Int->Bool}{d:Array Int}{j:Nat} (h0:0 < j) (h:lt d[j]! d[j - 1]! = false):shiftDown lt j d=d:=by
 obtain ⟨k,rfl⟩:∃ k,j=k+1:=⟨j - 1,by omega⟩;rw [Xv] at *;rw [shiftDown,if_pos (by simp [h])]
theorem QDp {lt:Int->Int->Bool}{d:Array Int}{b j:Nat} (h0:j < b) (h:lt d[j]! d[j - 1]! = true):shiftUp lt b j d=shiftUp lt b (j+1) (swp d j (j - 1)):=by
 conv=>lhs;rw [shiftUp]
 rw [if_pos h0,if_neg (by simp [h])]
theorem Qwi {lt:Int->Int->Bool}{d:Array Int}{b j:Nat} (h0:j < b) (h:lt d[j]! d[j - 1]! = false):shiftUp lt b j d=d:=by
 rw [shiftUp,if_pos h0,if_pos (by simp [h])]
theorem Qzg {lt:Int->Int->Bool}{d:Array Int}{b j:Nat} (h0:¬ j < b):shiftUp lt b j d=d:=by
 rw [shiftUp,if_neg h0]
theorem Qh3 {cmp:Value}{cf:Int->Int->Int}{Q:Int->Prop}{R:Res} (hC:Cmp cmp cf Q R) (g cap a b:Nat) (d:Array Int) (hab:a < b) (hb:b<=d.size) (hd:d.size<=1000000000000) (hQ:AllQ Q d) (w0 w:World) (B:List Nat) (G:List Res)
  (hL:Heap w0 B w (arr g cap d::R::G)):Does Ya 151 #[sl g cap d,.int .i64 a,.int .i64 b,cmp] w
   fun v w'=>∃ (d':Array Int) (ok:Bool),(d',ok)=partialInsertionSort (ltOf cf) d a b/\d'.size=d.size/\AllQ Q d'/\Heap w0 B w' (arr g cap d'::R::G)/\v=.bool ok:=by
 refine En [sl g cap d,.int .i64 a,.int .i64 b,cmp] 141 Tryz.func151 ?_;refine VS [0,1,2,3] ?_;refine VS [0,1,2,3,9] ?_;refine VS [0,1,2,3,9,10] ?_;refine Qac ?_;refine Qad [0,1,2,3,9,10] (fun m e w'=>∃ (i q:Nat) (d':Array Int),Is e [(0,sl g cap d),(1,.int .i64 a),(2,.int .i64 b),(3,cmp),(9,.int .i64 i),(10,.int .i64 q)]/\Heap w0 B w' (arr g cap d'::R::G)/\d'.size=d.size/\AllQ Q d'/\a+1<=i/\i<=b/\q<=5/\partialIns (ltOf cf) a b (5 - q) i d'=partialInsertionSort (ltOf cf) d a b/\m=5 - q) 5 ?_ ?_
 ·
  refine Qs ?_;exact ⟨a+1,0,d,rfl,hL,rfl,hQ,by omega,by omega,by omega,rfl,rfl⟩
 rintro m0 e w1 ⟨i0,q,d1,rfl,hH,hs1,hQ1,hi0,hi0b,hq,hpi,hm0⟩;refine VS [0,1,2,3,9,10,16] ?_;refine VD (fun h=>?_) (fun h=>?_)
 ·
  refine VC_skip ?_;refine VB ?_;refine VB ?_;refine Qad [0,1,2,3,9,10] (fun m e w'=>∃ (i:Nat),Is e [(0,sl g cap d),(1,.int .i64 a),(2,.int .i64 b),(3,cmp),(9,.int .i64 i),(10,.int .i64 q)]/\Heap w0 B w' (arr g cap d1::R::G)/\i0<=i/\i<=b/\scanSorted (ltOf cf) d1 b i=scanSorted (ltOf cf) d1 b i0/\m=b - i) (b - i0) ?_ ?_
  ·
   refine Qs ?_;exact ⟨i0,rfl,hH,by omega,by omega,rfl,rfl⟩
  clear hH;rintro m e w2 ⟨i,rfl,hH,hi1,hi2,hsc,hm⟩;refine VL [0,1,2,3,9,10,36] 14 fun K hK=>?_
  have hall:∀ bb:Bool,∀ w4,bb=(decide (i < b) && !ltOf cf d1[i]! d1[i - 1]!)->Heap w0 B w4 (arr g cap d1::R::G)->K [(0,sl g cap d),(1,.int .i64 a),(2,.int .i64 b),(3,cmp),(9,.int .i64 i),(10,.int .i64 q),(36,.bool bb)] w4:=by
   clear hH;intro bb w4 hbb hH;apply hK;clear hK;refine Vi (fun h=>?_) (fun h=>?_)
   ·
    subst h;have hij:i < b:=by simp at hbb;omega
    refine VC_skip ?_;refine Qac ?_;refine VS [0,1,2,3,9,10] ?_;refine Qaj ?_;refine Qab ?_;refine Qs ?_;refine ⟨b - (i+1),by omega,i+1,rfl,hH,by omega,by omega,?_,rfl⟩;rw [<- hsc,Qtx (i:=i) hbb]
   subst h;rw [Qpf hbb] at hsc;clear hbb;refine Qag rfl ?_;obtain ⟨s,hs⟩:∃ s,5 - q=s+1:=⟨4 - q,by omega⟩;rw [hs,partialIns] at hpi;simp only [<- hsc] at hpi;refine VS [0,1,2,3,9,10,41] ?_;refine VD (fun h=>?_) (fun h=>?_)
   ·
    rw [if_pos (by omega)] at hpi;refine VS [8] ?_;exact VC_ret (VX_ret1 rfl rfl ⟨d1,true,hpi,hs1,hQ1,hH,rfl⟩)
   rw [if_neg (by omega)] at hpi;refine VC_skip ?_;refine VS [0,1,2,3,9,10,45] ?_;refine VD (fun h=>?_) (fun h=>?_)
   ·
    rw [if_pos (by omega)] at hpi;refine VS [8] ?_;exact VC_ret (VX_ret1 rfl rfl ⟨d1,false,hpi,hs1,hQ1,hH,rfl⟩)
   rw [if_neg (by omega)] at hpi;refine VC_skip ?_;refine Vb [0,1,2,3,9,10] [(0,0),(1,0),(2,0),(3,0),(4,0),(5,0),(6,0),(7,0),(8,0),(10,0),(11,0),(12,0),(9,1),(13,1),(14,0),(15,2),(16,0),(17,2)] fun K hK=>?_;(repeat (first | (refine ⟨_,Qa4 (hH.at 0 rfl) (by omega),?_⟩;(try refine Qs ?_)) | refine Qo ?_ | refine Qp ?_));refine Qaa ?_;refine Qs ?_;refine Qa6 hH 0 (o:=(i)) rfl (by first | rfl | (simp;done) | (congr 1;omega)) (by first | omega | (simp;omega)) fun w6 hS1=>?_;simp only [Yd] at hS1;(try refine Qs ?_);(repeat (first | (refine ⟨_,Qa4 (hH.at 0 rfl) (by omega),?_⟩;(try refine Qs ?_)) | refine Qo ?_ | refine Qp ?_));refine Qaa ?_;refine Qs ?_;refine Qa6 hS1 0 (o:=(i - 1)) rfl (by first | rfl | (simp;done) | (congr 1;omega)) (by first | omega | (simp;omega)) fun w6 hS2=>?_;simp only [Yd] at hS2;(try refine Qs ?_);have hH1:Heap w0 B w6 (arr g cap (swp d1 i (i - 1))::R::G):=hS2;have hs2:(swp d1 i (i - 1)).size=d.size:=by rw [Qdw,hs1]
   have hQ2:=hQ1.swp (i:=i) (j:=i - 1) (by omega) (by omega);clear hS1 hS2 hH hsc;generalize swp d1 i (i - 1)=d2 at *;apply hK;clear hK;refine VS [0,1,2,3,9,10,65] ?_;refine Qdl [0,1,2,3,9,10] (fun e w'=>∃ d':Array Int,Is e [(0,sl g cap d),(1,.int .i64 a),(2,.int .i64 b),(3,cmp),(9,.int .i64 i),(10,.int .i64 q)]/\Heap w0 B w' (arr g cap d'::R::G)/\d'.size=d.size/\AllQ Q d'/\d'=if i - a ≥ 2 then shiftDown (ltOf cf) (i - 1) d2 else d2) ?_ ?_
   ·
    refine VD (fun h=>?_) (fun h=>?_)
    ·
     refine VS [0,1,2,3,9,10,11] ?_;refine Qac ?_;refine Qad [0,1,2,3,9,10,11] (fun m e w'=>∃ (j:Nat) (d':Array Int),Is e [(0,sl g cap d),(1,.int .i64 a),(2,.int .i64 b),(3,cmp),(9,.int .i64 i),(10,.int .i64 q),(11,.int .i64 j)]/\Heap w0 B w' (arr g cap d'::R::G)/\d'.size=d.size/\AllQ Q d'/\j < b/\shiftDown (ltOf cf) j d'=shiftDown (ltOf cf) (i - 1) d2/\m=j) (i - 1) ?_ ?_
     ·
      refine Qs ?_;exact ⟨i - 1,d2,by rw [show ((i:Int) - 1)=((i - 1:Nat):Int) by omega];rfl,hH1,hs2,hQ2,by omega,rfl,rfl⟩
     clear hH1 hQ2 hs2;rintro m e w7 ⟨j,d3,rfl,hH,hs3,hQ3,hj,hsd,hm⟩;refine VS [0,1,2,3,9,10,11,69] ?_;refine VD (fun h=>?_) (fun h=>?_)
     ·
      refine VC_skip ?_;refine VB ?_;refine VL [0,1,2,3,9,10,11,84] 10 fun K hK=>?_;(repeat (first | (refine ⟨_,Qa4 (hH.at 0 rfl) (by omega),?_⟩;(try refine Qs ?_)) | refine Qo ?_ | refine Qp ?_));refine Qbp ?_;refine Qs ?_;refine FnK.to (Cmp.look hC hH (hQ3 _ (by omega)) (hQ3 _ (by omega))) ?_;rintro v w4 ⟨hH2,rfl⟩;(try refine Qs ?_);clear hH;apply hK;clear hK;refine Vi (fun h=>?_) (fun h=>?_)
      ·
       simp at h;rw [Qrb (by omega) (by simp [ltOf];omega)] at hsd;refine Qag rfl ?_;refine Qab ?_;refine Qs ?_;exact ⟨d3,rfl,hH2,hs3,hQ3,by rw [if_pos (by omega),hsd]⟩
      simp at h;rw [Qwh (by omega) (by simp [ltOf];omega)] at hsd;refine VC_skip ?_;refine Vb [0,1,2,3,9,10,11] [(0,0),(1,0),(2,0),(3,0),(4,0),(5,0),(6,0),(7,0),(8,0),(10,0),(11,0),(12,0),(9,1),(13,1),(14,0),(15,2),(16,0),(17,2)] fun K hK=>?_;(repeat (first | (refine ⟨_,Qa4 (hH2.at 0 rfl) (by omega),?_⟩;(try refine Qs ?_)) | refine Qo ?_ | refine Qp ?_));refine Qaa ?_;refine Qs ?_;refine Qa6 hH2 0 (o:=(j)) rfl (by first | rfl | (simp;done) | (congr 1;omega)) (by first | omega | (simp;omega)) fun w6 hS1=>?_;simp only [Yd] at hS1;(try refine Qs ?_);(repeat (first | (refine ⟨_,Qa4 (hH2.at 0 rfl) (by omega),?_⟩;(try refine Qs ?_)) | refine Qo ?_ | refine Qp ?_));refine Qaa ?_;refine Qs ?_;refine Qa6 hS1 0 (o:=(j - 1)) rfl (by first | rfl | (simp;done) | (congr 1;omega)) (by first | omega | (simp;omega)) fun w6 hS2=>?_;simp only [Yd] at hS2;(try refine Qs ?_);have hS3:Heap w0 B w6 (arr g cap (swp d3 j (j - 1))::R::G):=hS2;apply hK;clear hK;refine Qaj ?_;refine VS [0,1,2,3,9,10,11] ?_;refine Qab ?_;refine Qs ?_;exact ⟨j - 1,by omega,j - 1,_,by rw [show ((j:Int) - 1)=((j - 1:Nat):Int) by omega];rfl,hS3,by rw [Qdw,hs3],hQ3.swp (by omega) (by omega),by omega,hsd,rfl⟩
     obtain rfl:j=0:=by omega
     rw [shiftDown] at hsd;refine Qag rfl ?_;refine Qab ?_;refine Qs ?_;exact ⟨d3,rfl,hH,hs3,hQ3,by rw [if_pos (by omega),hsd]⟩
    refine VC_skip ?_;refine Qab ?_;refine Qs ?_;exact ⟨d2,rfl,hH1,hs2,hQ2,by rw [if_neg (by omega)]⟩
   clear hH1 hs2 hQ2;rintro e w8 ⟨d3,rfl,hH,hs3,hQ3,hd3⟩;rw [<- hd3] at hpi;clear hd3;have hs5:5 - (q+1)=s:=by omega
   have hnext:∀ (d4:Array Int) (w9:World),Heap w0 B w9 (arr g cap d4::R::G)->d4.size=d.size->AllQ Q d4->d4=(if b - i ≥ 2 then shiftUp (ltOf cf) b (i+1) d3 else d3) ->
     ∃ m_1,m_1 < m0/\∃ (i' q':Nat) (d':Array Int),Is [(0,sl g cap d),(1,.int .i64 a),(2,.int .i64 b),(3,cmp),(9,.int .i64 i),(10,.int .i64 (q+1))] [(0,sl g cap d),(1,.int .i64 a),(2,.int .i64 b),(3,cmp),(9,.int .i64 i'),(10,.int .i64 q')]/\Heap w0 B w9 (arr g cap d'::R::G)/\d'.size=d.size/\AllQ Q d'/\a+1<=i'/\i'<=b/\q'<=5/\partialIns (ltOf cf) a b (5 - q') i' d'=partialInsertionSort (ltOf cf) d a b/\m_1=5 - q':=by
    intro d4 w9 h1 h2 h3 h4;refine ⟨5 - (q+1),by omega,i,q+1,d4,rfl,h1,h2,h3,by omega,by omega,by omega,?_,rfl⟩;rw [hs5,h4,hpi]
   refine VS [0,1,2,3,9,10,104] ?_;refine VD (fun h=>?_) (fun h=>?_)
   ·
    refine VS [0,1,2,3,9,10,12] ?_;refine Qac ?_;refine Qad [0,1,2,3,9,10,12] (fun m e w'=>∃ (j:Nat) (d':Array Int),Is e [(0,sl g cap d),(1,.int .i64 a),(2,.int .i64 b),(3,cmp),(9,.int .i64 i),(10,.int .i64 q),(12,.int .i64 j)]/\Heap w0 B w' (arr g cap d'::R::G)/\d'.size=d.size/\AllQ Q d'/\i+1<=j/\j<=b/\shiftUp (ltOf cf) b j d'=shiftUp (ltOf cf) b (i+1) d3/\m=b - j) (b - (i+1)) ?_ ?_
    ·
     refine Qs ?_;exact ⟨i+1,d3,rfl,hH,hs3,hQ3,by omega,by omega,rfl,rfl⟩
    clear hH hs3 hQ3;rintro m e w9 ⟨j,d4,rfl,hH,hs4,hQ4,hj1,hj2,hsu,hm⟩;refine VS [0,1,2,3,9,10,12,109] ?_;refine VD (fun h=>?_) (fun h=>?_)
    ·
     refine VC_skip ?_;refine VB ?_;refine VL [0,1,2,3,9,10,12,124] 10 fun K hK=>?_;(repeat (first | (refine ⟨_,Qa4 (hH.at 0 rfl) (by omega),?_⟩;(try refine Qs ?_)) | refine Qo ?_ | refine Qp ?_));refine Qbp ?_;refine Qs ?_;refine FnK.to (Cmp.look hC hH (hQ4 _ (by omega)) (hQ4 _ (by omega))) ?_;rintro v w4 ⟨hH2,rfl⟩;(try refine Qs ?_);clear hH;apply hK;clear hK;refine Vi (fun h=>?_) (fun h=>?_)
     ·
      simp at h;rw [Qwi (by omega) (by simp [ltOf];omega)] at hsu;refine Qag rfl ?_;refine Qaj ?_;refine VS [0,1,2,3,9,10] ?_;refine Qab ?_;refine Qs ?_;exact hnext _ _ hH2 hs4 hQ4 (by rw [if_pos (by omega),hsu])
     simp at h;rw [QDp (by omega) (by simp [ltOf];omega)] at hsu;refine VC_skip ?_;refine Vb [0,1,2,3,9,10,12] [(0,0),(1,0),(2,0),(3,0),(4,0),(5,0),(6,0),(7,0),(8,0),(10,0),(11,0),(12,0),(9,1),(13,1),(14,0),(15,2),(16,0),(17,2)] fun K hK=>?_;(repeat (first | (refine ⟨_,Qa4 (hH2.at 0 rfl) (by omega),?_⟩;(try refine Qs ?_)) | refine Qo ?_ | refine Qp ?_));refine Qaa ?_;refine Qs ?_;refine Qa6 hH2 0 (o:=(j)) rfl (by first | rfl | (simp;done) | (congr 1;omega)) (by first | omega | (simp;omega)) fun w6 hS1=>?_;simp only [Yd] at hS1;(try refine Qs ?_);(repeat (first | (refine ⟨_,Qa4 (hH2.at 0 rfl) (by omega),?_⟩;(try refine Qs ?_)) | refine Qo ?_ | refine Qp ?_));refine Qaa ?_;refine Qs ?_;refine Qa6 hS1 0 (o:=(j - 1)) rfl (by first | rfl | (simp;done) | (congr 1;omega)) (by first | omega | (simp;omega)) fun w6 hS2=>?_;simp only [Yd] at hS2;(try refine Qs ?_);have hS3:Heap w0 B w6 (arr g cap (swp d4 j (j - 1))::R::G):=hS2;apply hK;clear hK;refine Qaj ?_;refine VS [0,1,2,3,9,10,12] ?_;refine Qab ?_;refine Qs ?_;exact ⟨b - (j+1),by omega,j+1,_,rfl,hS3,by rw [Qdw,hs4],hQ4.swp (by omega) (by omega),by omega,by omega,hsu,rfl⟩
    rw [Qzg (by omega)] at hsu;refine Qag rfl ?_;refine Qaj ?_;refine VS [0,1,2,3,9,10] ?_;refine Qab ?_;refine Qs ?_;exact hnext _ _ hH hs4 hQ4 (by rw [if_pos (by omega),hsu])
   refine VC_skip ?_;refine Qaj ?_;refine VS [0,1,2,3,9,10] ?_;refine Qab ?_;refine Qs ?_;exact hnext _ _ hH hs3 hQ3 (by rw [if_neg (by omega)])
  refine ⟨fun hg=>?_,fun hg=>?_⟩
  ·
   (repeat (first | (refine ⟨_,Qa4 (hH.at 0 rfl) (by omega),?_⟩;(try refine Qs ?_)) | refine Qo ?_ | refine Qp ?_));refine Qbp ?_;refine Qs ?_;refine FnK.to (Cmp.look hC hH (hQ1 _ (by omega)) (hQ1 _ (by omega))) ?_;rintro v w4 ⟨hH2,rfl⟩;(try refine Qs ?_);refine hall _ _ ?_ hH2;simp [ltOf,show i < b by omega]
  refine hall _ _ ?_ hH;simp [show ¬ i < b by omega]
 obtain rfl:q=5:=by omega
 refine Qag rfl ?_;refine VS [8] ?_;exact VC_ret (VX_ret1 rfl rfl ⟨d1,false,hpi,hs1,hQ1,hH,rfl⟩)
open Go Go.Eng
open Go.Sort (swp insertionSort heapSort breakPatterns choosePivot Hint reverseRange partialInsertionSort partitionEqual partition pdq bitsLen)
def pdqD (lt:Int->Int->Bool) (d3:Array Int) (a b limit:Nat) (wb wp:Bool) (pivot:Nat):Array Int :=
 if a > 0 && !lt d3[a - 1]! d3[pivot]! then
  match partitionEqual lt d3 a b pivot with
  | (mid,d4)=>if _h:a < mid/\mid<=b then pdq lt d4 mid b limit wb wp else d4
 else
  match partition lt d3 a b pivot with
  | (mid,al,d4) =>
   if _h:a<=mid/\mid < b then
    if mid - a < b - mid then pdq lt (pdq lt d4 a mid limit true true) (mid+1) b limit (decide (mid - a ≥ (b - a) / 8)) al
    else pdq lt (pdq lt d4 (mid+1) b limit true true) a mid limit (decide (b - mid ≥ (b - a) / 8)) al
   else d4
def pdqC (lt:Int->Int->Bool) (d2:Array Int) (a b limit:Nat) (wb wp:Bool) (pivot:Nat) (hint:Hint):Array Int :=
 if (if wb && wp && hint=.increasing then partialInsertionSort lt d2 a b else (d2,false)).2 then (if wb && wp && hint=.increasing then partialInsertionSort lt d2 a b else (d2,false)).1
 else pdqD lt (if wb && wp && hint=.increasing then partialInsertionSort lt d2 a b else (d2,false)).1 a b limit wb wp pivot
def pdqB (lt:Int->Int->Bool) (d1:Array Int) (a b limit:Nat) (wb wp:Bool) (c:Nat×Hint):Array Int :=
 pdqC lt (if c.2=.decreasing then reverseRange d1 a b else d1) a b limit wb wp (if c.2=.decreasing then (b - 1) - (c.1 - a) else c.1) (if c.2=.decreasing then Hint.increasing else c.2)
theorem QOs {lt:Int->Int->Bool}{d:Array Int}{a b limit:Nat}{wb wp:Bool} (h:b - a<=12):pdq lt d a b limit wb wp=insertionSort lt d a b:=by rw [pdq,if_pos h]
theorem QJ0 {lt:Int->Int->Bool}{d:Array Int}{a b limit:Nat}{wb wp:Bool} (h:¬ b - a<=12) (hl:limit=0):pdq lt d a b limit wb wp=heapSort lt d a b:=by rw [pdq,if_neg h,if_pos hl]
theorem QJ1 {lt:Int->Int->Bool}{d:Array Int}{a b limit:Nat}{wb wp:Bool} (h:¬ b - a<=12) (hl:¬ limit=0) :
  pdq lt d a b limit wb wp=pdqB lt (if !wb then breakPatterns d a b else d) a b (if !wb then limit - 1 else limit) wb wp (choosePivot lt (if !wb then breakPatterns d a b else d) a b):=by
 conv=>lhs;rw [pdq]
 rw [if_neg h,if_neg hl];rfl
set_option maxHeartbeats 4000000 in
theorem Qwj {cmp:Value}{cf:Int->Int->Int}{Q:Int->Prop}{R:Res} (hC:Cmp cmp cf Q R) (g cap:Nat):∀ (n a b limit:Nat) (d:Array Int) (hn:b - a < n) (hab:a<=b) (hb:b<=d.size) (hl:limit<=100) (hd:d.size<=100000000000) (hQ:AllQ Q d) (w0 w:World) (B:List Nat) (G:List Res)
  (hL:Heap w0 B w (arr g cap d::R::G)),Does Ya 126 #[sl g cap d,.int .i64 a,.int .i64 b,.int .i64 limit,cmp] w
   fun v w'=>∃ d',d'=pdq (ltOf cf) d a b limit true true/\d'.size=d.size/\AllQ Q d'/\Heap w0 B w' (arr g cap d'::R::G)/\v=.tuple #[]:=by
 intro n
 induction n with
 | zero=>intro a b limit d hn;omega
 | succ n ih =>
 intro a b limit d hn hab hb hl hd hQ w0 w B G hL;refine En [sl g cap d,.int .i64 a,.int .i64 b,.int .i64 limit,cmp] 148 Tryz.func126 ?_;refine VQi [0,1,2,3,4,10] fun K hK=>?_;apply hK;clear hK;refine VQi [0,1,2,3,4,10,11] fun K hK=>?_;apply hK;clear hK;refine Qac ?_;refine Qad [0,1,2,3,4,10,11] (fun m e w'=>∃ (x y l:Nat) (wb wp:Bool) (d':Array Int),Is e [(0,sl g cap d),(1,.int .i64 x),(2,.int .i64 y),(3,.int .i64 l),(4,cmp),(10,.bool wb),(11,.bool wp)]/\Heap w0 B w' (arr g cap d'::R::G)/\d'.size=d.size/\AllQ Q d'/\a<=x/\x<=y/\y<=b/\l<=100/\pdq (ltOf cf) d' x y l wb wp=pdq (ltOf cf) d a b limit true true/\m=y - x) (b - a) ?_ ?_
 ·
  refine Qi ?_;exact ⟨a,b,limit,true,true,d,rfl,hL,rfl,hQ,by omega,by omega,by omega,by omega,rfl,rfl⟩
 rintro m e w1 ⟨x,y,l,wb,wp,d1,rfl,hH,hs1,hQ1,hx,hxy,hy,hl1,hp,hm⟩;refine Qac ?_;refine VQi [0,1,2,3,4,10,11,12] fun K hK=>?_;(repeat refine Qo ?_);apply hK;clear hK;rw [show ((y:Int) - x)=((y - x:Nat):Int) by omega];refine VQi [0,1,2,3,4,10,11,12,25] fun K hK=>?_;apply hK;clear hK;refine VD (fun h=>?_) (fun h=>?_)
 ·
  rw [QOs (by omega)] at hp;refine VQi [] fun K hK=>?_;have hc:=Qln hC g cap x y d1 (by omega) (by omega) (by omega) hQ1 w0 w1 B G hH;rw [sl,hs1] at hc;refine MemK_call Tryz.call146 ?_;refine Qi ?_;refine Yk hc ?_;rintro v w2 ⟨d2,hd2,hs2,hQ2,hH2,rfl⟩;apply hK;clear hK;refine VC_ret (Qgl rfl ?_);exact ⟨d2,by rw [hd2,hp],by omega,hQ2,hH2,rfl⟩
 have h12:¬ y - x<=12:=by omega
 refine VC_skip ?_;refine VQi [0,1,2,3,4,10,11,12,32] fun K hK=>?_;apply hK;clear hK;refine VD (fun h=>?_) (fun h=>?_)
 ·
  rw [QJ0 (by omega) (by omega)] at hp;refine VQi [] fun K hK=>?_;have hc:=Qtv hC g cap x y d1 (by omega) (by omega) (by omega) hQ1 w0 w1 B G hH;rw [sl,hs1] at hc;refine MemK_call Tryz.call147 ?_;refine Qi ?_;refine Yk hc ?_;rintro v w2 ⟨d2,hd2,hs2,hQ2,hH2,rfl⟩;apply hK;clear hK;refine VC_ret (Qgl rfl ?_);exact ⟨d2,by rw [hd2,hp],by omega,hQ2,hH2,rfl⟩
 have hl0:¬ l=0:=by omega
 rw [QJ1 h12 hl0] at hp;clear h;refine VC_skip ?_;refine VQi [0,1,2,3,4,10,11,12,39] fun K hK=>?_;apply hK;clear hK;refine Qdl [0,1,2,3,4,10,11,12] (fun e w'=>∃ (l':Nat) (d':Array Int),Is e [(0,sl g cap d),(1,.int .i64 x),(2,.int .i64 y),(3,.int .i64 l'),(4,cmp),(10,.bool wb),(11,.bool wp),(12,.int .i64 (y - x:Nat))]/\Heap w0 B w' (arr g cap d'::R::G)/\d'.size=d.size/\AllQ Q d'/\l'<=100/\pdqB (ltOf cf) d' x y l' wb wp (choosePivot (ltOf cf) d' x y)=pdq (ltOf cf) d a b limit true true) ?_ ?_
 ·
  refine Qaf rfl rfl (fun h=>?_) (fun h=>?_)
  ·
   simp at h;subst h;refine VQi [0,1,2,3,4,10,11,12] fun K hK=>?_;have hc:=Qlp (cmp:=cmp) (R:=R) (Q:=Q) g cap x y d1 (by omega) (by omega) (by omega) hQ1 w0 w1 B G hH;rw [sl,hs1] at hc;refine MemK_call Tryz.call148 ?_;refine Qi ?_;refine Yk hc ?_;rintro v w2 ⟨d2,hd2,hs2,hQ2,hH2,rfl⟩;apply hK;clear hK;refine VQi [0,1,2,3,4,10,11,12] fun K hK=>?_;(repeat refine Qo ?_);apply hK;clear hK;refine Qab ?_;refine Qi ?_;refine ⟨l - 1,d2,by rw [show ((l:Int) - 1)=((l - 1:Nat):Int) by omega];rfl,hH2,by omega,hQ2,by omega,?_⟩;rw [<- hp,hd2];rfl
  simp at h;subst h;refine VC_skip ?_;refine Qab ?_;refine Qi ?_;exact ⟨l,d1,rfl,hH,hs1,hQ1,hl1,hp⟩
 clear hp hH hQ1 hs1 hl0 hl1;rintro e w2 ⟨l1,d2,rfl,hH,hs1,hQ1,hl1,hp⟩;refine VQi [0,1,2,3,4,10,11,12,13,14] fun K hK=>?_;have hc:=Qn7 hC g cap x y d2 (by omega) (by omega) (by omega) hQ1 w0 w2 B G hH;rw [sl,hs1] at hc;refine MemK_call Tryz.call149 ?_;refine Qi ?_;refine Yk hc ?_;rintro v w3 ⟨p,hint,hch,hpr,hH3,rfl⟩;clear hH hc;rw [<- hch,pdqB] at hp;clear hch
 dsimp only at hp
 apply hK;clear hK;simp only [Ub,Xz,X0];refine VQi [0,1,2,3,4,10,11,12,13,14,56] fun K hK=>?_;apply hK;clear hK;refine Qdl [0,1,2,3,4,10,11,12,13,14] (fun e w'=>∃ (p':Nat) (h':Hint) (d':Array Int),Is e [(0,sl g cap d),(1,.int .i64 x),(2,.int .i64 y),(3,.int .i64 l1),(4,cmp),(10,.bool wb),(11,.bool wp),(12,.int .i64 (y - x:Nat)),(13,.int .i64 p'),(14,.int .i64 (QF9 h'))]/\Heap w0 B w' (arr g cap d'::R::G)/\d'.size=d.size/\AllQ Q d'/\(x<=p'/\p' < y)/\pdqC (ltOf cf) d' x y l1 wb wp p' h'=pdq (ltOf cf) d a b limit true true) ?_ ?_
 ·
  refine Qaf rfl rfl (fun h=>?_) (fun h=>?_)
  ·
   have hh:hint=.decreasing:=by cases hint <;> simp [QF9] at h ⊢
   subst hh;simp only [if_true] at hp;refine VQi [0,1,2,3,4,10,11,12,13] fun K hK=>?_;have hc:=Qmv (cmp:=cmp) (R:=R) (Q:=Q) g cap x y d2 (by omega) (by omega) (by omega) hQ1 w0 w3 B G hH3;rw [sl,hs1] at hc;refine MemK_call Tryz.call150 ?_;refine Qi ?_;refine Yk hc ?_;rintro v w4 ⟨d3,hd3,hs3,hQ3,hH4,rfl⟩;apply hK;clear hK;refine VQi [0,1,2,3,4,10,11,12,13] fun K hK=>?_;(repeat refine Qo ?_);apply hK;clear hK;refine VQi [0,1,2,3,4,10,11,12,13,14] fun K hK=>?_;apply hK;clear hK;refine Qab ?_;refine Qi ?_;exact ⟨y - 1 - (p - x),.increasing,d3,by rw [show ((y:Int) - 1 - (p - x))=((y - 1 - (p - x):Nat):Int) by omega];rfl,hH4,by omega,hQ3,by omega,by rw [hd3];exact hp⟩
  have hh:hint≠.decreasing:=by rintro rfl;simp [QF9] at h
  simp only [if_neg hh] at hp;refine VC_skip ?_;refine Qab ?_;refine Qi ?_;exact ⟨p,hint,d2,rfl,hH3,hs1,hQ1,hpr,hp⟩
 clear hp hH3 hQ1 hs1 hpr;rintro e w4 ⟨p,hint,d2,rfl,hH,hs1,hQ1,hpr,hp⟩;refine VQi [0,1,2,3,4,10,11,12,13,75] fun K hK=>?_
 suffices hall:∀ bb:Bool,bb=(wb && wp && decide (hint=.increasing))->K [(0,sl g cap d),(1,.int .i64 x),(2,.int .i64 y),(3,.int .i64 l1),(4,cmp),(10,.bool wb),(11,.bool wp),(12,.int .i64 (y - x:Nat)),(13,.int .i64 p),(75,.bool bb)] w4 by
  have hd:decide (QF9 hint=1)=decide (hint=.increasing):=by cases hint <;> rfl
  rw [hd]
  revert hall
  clear hK hp;cases wb <;> cases wp <;> intro hall <;> simpa [gB] using hall _ rfl
 intro bb hbb;apply hK;clear hK;rw [pdqC,show (wb && wp && decide (hint=.increasing))=bb from hbb.symm] at hp;clear hbb;refine Qdl [0,1,2,3,4,10,11,12,13] (fun e w'=>∃ (d':Array Int),Is e [(0,sl g cap d),(1,.int .i64 x),(2,.int .i64 y),(3,.int .i64 l1),(4,cmp),(10,.bool wb),(11,.bool wp),(12,.int .i64 (y - x:Nat)),(13,.int .i64 p)]/\Heap w0 B w' (arr g cap d'::R::G)/\d'.size=d.size/\AllQ Q d'/\pdqD (ltOf cf) d' x y l1 wb wp p=pdq (ltOf cf) d a b limit true true) ?_ ?_
 ·
  refine Qaf rfl rfl (fun h=>?_) (fun h=>?_)
  ·
   subst h;simp only [if_true] at hp;refine VQi [0,1,2,3,4,10,11,12,13,80] fun K hK=>?_;have hc:=Qh3 hC g cap x y d2 (by omega) (by omega) (by omega) hQ1 w0 w4 B G hH;rw [sl,hs1] at hc;refine MemK_call Tryz.call151 ?_;refine Qi ?_;refine Yk hc ?_;rintro v w5 ⟨d3,ok,hd3,hs3,hQ3,hH5,rfl⟩;rw [<- hd3] at hp
   dsimp only at hp
   apply hK;clear hK;refine Qaf rfl rfl (fun h=>?_) (fun h=>?_)
   ·
    subst h;rw [if_pos rfl] at hp;exact VC_ret (Qgl rfl ⟨d3,hp,by omega,hQ3,hH5,rfl⟩)
   subst h;rw [if_neg (by simp)] at hp;refine VC_skip ?_;refine Qab ?_;refine Qi ?_;exact ⟨d3,rfl,hH5,by omega,hQ3,hp⟩
  subst h;simp only [Gy,if_false] at hp;refine VC_skip ?_;refine Qab ?_;refine Qi ?_;exact ⟨d2,rfl,hH,hs1,hQ1,hp⟩
 clear hp hH hQ1 hs1;rintro e w5 ⟨d3,rfl,hH,hs1,hQ1,hp⟩;rw [pdqD] at hp;(repeat refine Qax ?_);refine Qj6 [0,1,2,3,4,10,11,12,13,97] 13 (by kernel_rfl) (by kernel_rfl) (by kernel_rfl) rfl fun K hK=>?_;refine Qi ?_
 have hall:∀ bb:Bool,∀ w4,bb=(decide (x > 0) && !ltOf cf d3[x - 1]! d3[p]!)->Heap w0 B w4 (arr g cap d3::R::G)->K [(0,sl g cap d),(1,.int .i64 x),(2,.int .i64 y),(3,.int .i64 l1),(4,cmp),(10,.bool wb),(11,.bool wp),(12,.int .i64 (y - x:Nat)),(13,.int .i64 p),(97,.bool bb)] w4:=by
  clear hH;intro bb w4 hbb hH;rw [<- hbb] at hp;apply hK;clear hK;refine Qaf rfl rfl (fun h=>?_) (fun h=>?_)
  ·
   subst h;rw [if_pos rfl] at hp;refine VQi [0,2,3,4,10,11,15] fun K hK=>?_;have hc:=Qkz hC g cap x y p d3 (by omega) (by omega) hpr (by omega) hQ1 w0 w4 B G hH;rw [sl,hs1] at hc;refine MemK_call Tryz.call152 ?_;refine Qi ?_;refine Yk hc ?_;rintro v w5 ⟨mid,d4,hd4,hmid,hs4,hQ4,hH5,rfl⟩;rw [<- hd4] at hp
   dsimp only at hp
   rw [dif_pos hmid] at hp;apply hK;clear hK;refine VQi [0,1,2,3,4,10,11] fun K hK=>?_;apply hK;clear hK;refine Qag rfl ?_;refine Qab ?_;refine Qi ?_;exact ⟨y - mid,by omega,mid,y,l1,wb,wp,d4,rfl,hH5,by omega,hQ4,by omega,by omega,by omega,hl1,hp,rfl⟩
  subst h;rw [if_neg (by simp)] at hp;refine VC_skip ?_;refine VQi [0,1,2,3,4,12,16,17] fun K hK=>?_;have hc:=Qra hC g cap x y p d3 (by omega) (by omega) hpr (by omega) hQ1 w0 w4 B G hH;rw [sl,hs1] at hc;refine MemK_call Tryz.call153 ?_;refine Qi ?_;refine Yk hc ?_;rintro v w5 ⟨mid,al,d4,hd4,hmid,hs4,hQ4,hH5,rfl⟩;rw [<- hd4] at hp
  dsimp only at hp
  rw [dif_pos hmid] at hp;apply hK;clear hK;simp only [Ub,Xz,X0];refine VQi [0,1,2,3,4,11,12,16] fun K hK=>?_;apply hK;clear hK;refine VQi [0,1,2,3,4,11,12,16,18,19] fun K hK=>?_;(repeat refine Qo ?_);apply hK;clear hK;rw [show ((mid:Int) - x)=((mid - x:Nat):Int) by omega,show ((y:Int) - mid)=((y - mid:Nat):Int) by omega];refine VQi [0,1,2,3,4,11,16,18,19,20] fun K hK=>?_;(repeat refine Qo ?_);apply hK;clear hK;refine VQi [0,1,2,3,4,11,16,18,19,20,125] fun K hK=>?_;apply hK;clear hK;refine VD (fun h=>?_) (fun h=>?_)
  ·
   rw [if_pos (by omega)] at hp;refine VQi [0,1,2,3,4,10,11,16] fun K hK=>?_;apply hK;clear hK;refine VQi [0,2,3,4,10,11,16] fun K hK=>?_;have hc:=ih x mid l1 d4 (by omega) (by omega) (by omega) hl1 (by omega) hQ4 w0 w5 B G hH5;rw [sl,show d4.size=d.size by omega] at hc;refine MemK_call G7 ?_;refine Qi ?_;refine Yk hc ?_;rintro v w6 ⟨d5,hd5,hs5,hQ5,hH6,rfl⟩;rw [<- hd5] at hp;apply hK;clear hK;refine VQi [0,1,2,3,4,10,11] fun K hK=>?_;(repeat refine Qo ?_);apply hK;clear hK;refine Qaj ?_;refine Qab ?_;refine Qi ?_;refine ⟨y - (mid+1),by omega,mid+1,y,l1,decide (mid - x ≥ (y - x) / 8),al,d5,?_,hH6,by omega,hQ5,by omega,by omega,by omega,hl1,hp,rfl⟩;rw [show decide (mid - x ≥ (y - x) / 8)=decide (((y - x:Nat):Int) / 8<=((mid - x:Nat):Int)) from decide_eq_decide.2 (by omega)];rfl
  rw [if_neg (by omega)] at hp;refine VQi [0,1,2,3,4,10,11,16] fun K hK=>?_;apply hK;clear hK;refine VQi [0,1,3,4,10,11,16] fun K hK=>?_;refine And.intro (Hf (by omega) (by omega)) ?_;have hc:=ih (mid+1) y l1 d4 (by omega) (by omega) (by omega) hl1 (by omega) hQ4 w0 w5 B G hH5;rw [sl,show d4.size=d.size by omega,show ((mid+1:Nat):Int)=(mid:Int)+1 by omega] at hc;refine MemK_call G7 ?_;refine Qi ?_;refine Yk hc ?_;rintro v w6 ⟨d5,hd5,hs5,hQ5,hH6,rfl⟩;rw [<- hd5] at hp;apply hK;clear hK;refine VQi [0,1,2,3,4,10,11] fun K hK=>?_;apply hK;clear hK;refine Qaj ?_;refine Qab ?_;refine Qi ?_;refine ⟨mid - x,by omega,x,mid,l1,decide (y - mid ≥ (y - x) / 8),al,d5,?_,hH6,by omega,hQ5,by omega,by omega,by omega,hl1,hp,rfl⟩;rw [show decide (y - mid ≥ (y - x) / 8)=decide (((y - x:Nat):Int) / 8<=((y - mid:Nat):Int)) from decide_eq_decide.2 (by omega)];rfl
 refine ⟨fun hg=>?_,fun hg=>?_⟩
 ·
  (repeat (first | (refine ⟨_,Qa4 (hH.at 0 rfl) (by omega),?_⟩;(try refine Qi ?_)) | refine Qo ?_ | refine ⟨⟨by omega,by omega⟩,?_⟩));refine Qbp ?_;refine Qi ?_;refine FnK.to (Cmp.look hC hH (hQ1 _ (by omega)) (hQ1 _ (by omega))) ?_;rintro v w4 ⟨hH2,rfl⟩;(try refine Qi ?_);refine hall _ _ ?_ hH2;simp [ltOf,show 0 < x by omega]
 refine hall _ _ ?_ hH;simp [show ¬ 0 < x by omega]
open Go Go.Eng
open Go.Sort (pdq bitsLen SWO)
def QLl (lt:Int->Int->Bool) (l l':List Int):Prop:=l'.Perm l/\l'.Pairwise fun x y=>lt y x=false
theorem Qfs {d:Array Int}{i:Nat} (h:i < d.size):d[i]! = d.toList[i]'(by simpa using h):=by
 simp [getElem!_def,h]
theorem QOt {lt:Int->Int->Bool} (hS:SWO lt) (d:Array Int) (limit:Nat):QLl lt d.toList (pdq lt d 0 d.size limit true true).toList:=by
 obtain ⟨⟨h1,h2,h3⟩,h4⟩:=Sort.pdq_sorts lt hS d 0 d.size limit true true (by omega) (by omega) (.inl rfl);generalize pdq lt d 0 d.size limit true true=d' at *;refine ⟨?_,?_⟩
 ·
  have e1:d'.extract 0 d.size=d':=by rw [<- h1];simp
  have e2:d.extract 0 d.size=d:=by simp
  rw [e1,e2] at h3;exact h3
 rw [Xr];intro i j hi hj hij;have:=h4 i j (by omega) hij (by simpa [h1] using hj)
 rwa [Qfs (by simpa using hj),Qfs (by simpa using hi)] at this
theorem Qlq {cmp:Value}{cf:Int->Int->Int}{Q:Int->Prop}{R:Res} (hC:Cmp cmp cf Q R) (hS:SWO (ltOf cf)) (g cap:Nat) (d:Array Int) (hd:d.size<=100000000000) (hQ:AllQ Q d) (w0 w:World) (B:List Nat) (G:List Res)
  (hL:Heap w0 B w (arr g cap d::R::G)):Does Ya 94 #[sl g cap d,cmp] w
   fun v w'=>∃ d',QLl (ltOf cf) d.toList d'.toList/\d'.size=d.size/\AllQ Q d'/\Heap w0 B w' (arr g cap d'::R::G)/\v=.tuple #[]:=by
 refine En [sl g cap d,cmp] 14 Tryz.func94 ?_;refine VS [0,1,4] ?_;refine VQ [] fun K hK=>?_;rw [Y4 (by omega) (by omega)];refine MemK_call Tryz.call127 ?_;refine Qs ?_;refine Yk (Qr9 d.size (by omega) w) ?_;rintro v w2 ⟨rfl,rfl⟩;have hb40:bitsLen d.size<=40:=Qg0 (by omega);refine MemK_call G7 ?_;refine Qs ?_;refine Yk (Qwj hC g cap (d.size+1) 0 d.size (bitsLen d.size) d (by omega) (by omega) (by omega) (by omega) hd hQ w0 w2 B G hL) ?_;rintro v w3 ⟨d',hd',hs,hQ',hH,rfl⟩;apply hK;clear hK;exact Qrs (Qgl rfl ⟨d',by rw [hd'];exact QOt hS d _,hs,hQ',hH,rfl⟩)
open Go Go.Eng
abbrev Qzh (a:Addr) (n cap:Nat) (by_:Nat):Value:=.agg #[.slice (some a) n cap,.int .i64 by_]
theorem Qoh (rk:List Int) (a:Addr) (cap by_ i:Nat) (hn:rk.length<=1000000000) (hby:by_<=10000000000) (hi:i < rk.length) (w:World) (hr:RS w (some a) rk.length 1 (Qat rk)) :
  Does Ya 93 #[Qzh a rk.length cap by_,.int .i64 i] w fun v w'=>Heap w [] w' []/\v=.tuple #[.int .i64 (rk.getD i 0),.int .i64 (rk.getD ((i+by_) % rk.length) 0)]:=by
 refine En [Qzh a rk.length cap by_,.int .i64 i] 23 Tryz.func93 ?_;refine VQ [1,2] fun K hK=>?_;refine Qch ?_;refine Qs ?_;have hH:=(Hg w).box 134 [.slice (some a) rk.length cap,.int .i64 by_];generalize w.alloc (Gp [Value.slice (some a) rk.length cap,.int .i64 by_].toArray 134)=w1 at *;generalize w.heap.size=g at *;have hr1:=hH.rs' hr;apply hK;clear hK;refine Vq [4,5] fun K hK=>?_;(repeat first | refine Qo ?_ | refine Qp ?_ | (refine Gc hH ?_;(try refine Qs ?_)));refine ⟨_,Qht hr1 hi,?_⟩;(repeat first | refine Qo ?_ | refine Qp ?_ | (refine Gc hH ?_;(try refine Qs ?_)));have hm:(i+by_) % rk.length < rk.length:=X5 _ (by omega);rw [show ((i:Int)+by_) % rk.length=(((i+by_) % rk.length:Nat):Int) by push_cast;rfl];generalize (i+by_) % rk.length=j at *;refine And.intro (by omega) ⟨_,Qht hr1 (i:=j) hm,?_⟩;apply hK;clear hK;refine VC_ret (Qav rfl rfl rfl ?_);exact ⟨hH.sub (by simp),rfl⟩
def keyA (rk:List Int) (x:Int):Int:=rk.getD x.toNat 0
def keyB (rk:List Int) (by_:Nat) (x:Int):Int:=rk.getD ((x.toNat+by_) % rk.length) 0
def cmpR (rk:List Int) (by_:Nat) (x y:Int):Int :=
 if keyA rk x≠keyA rk y then keyA rk x - keyA rk y else if keyB rk by_ x≠keyB rk by_ y then keyB rk by_ x - keyB rk by_ y else x - y
def inR (rk:List Int) (x:Int):Prop:=0<=x/\x < rk.length
def Qlr (rk:List Int):Prop:=∀ r∈rk,0<=r/\r<=1000000000
theorem Qjo {rk:List Int} (h:Qlr rk) (i:Nat):0<=rk.getD i 0/\rk.getD i 0<=1000000000:=by
 by_cases hi:i < rk.length
 ·
  rw [Yb,Yc hi];exact h _ (Y0 hi)
 rw [Yb,Yx (by omega)];simp
theorem QJ2 {rk:List Int} (h:Qlr rk) (hn:rk.length<=1000000000) (by_:Nat) (x y:Int) (hx:inR rk x) (hy:inR rk y):-1000000000<=cmpR rk by_ x y/\cmpR rk by_ x y<=1000000000:=by
 obtain ⟨h1,h2⟩:=hx;obtain ⟨h3,h4⟩:=hy;unfold cmpR keyA keyB;have a1:=Qjo h x.toNat;have a2:=Qjo h y.toNat;have a3:=Qjo h ((x.toNat+by_) % rk.length);have a4:=Qjo h ((y.toNat+by_) % rk.length);split
 ·
  omega
 split <;> omega
theorem Qwk (rk:List Int) (hrk:Qlr rk) (a:Addr) (cap by_ i j:Nat) (hn:rk.length<=1000000000) (hby:by_<=10000000000) (hi:i < rk.length) (hj:j < rk.length) (w:World) (hr:RS w (some a) rk.length 1 (Qat rk)) :
  Does Ya 95 #[Qzh a rk.length cap by_,.int .i64 i,.int .i64 j] w fun v w'=>Heap w [] w' []/\v=.int .i64 (cmpR rk by_ i j):=by
 have a1:=Qjo hrk i;have a2:=Qjo hrk j;have a3:=Qjo hrk ((i+by_) % rk.length);have a4:=Qjo hrk ((j+by_) % rk.length)
 have hcm:cmpR rk by_ i j=if rk.getD i 0≠rk.getD j 0 then rk.getD i 0 - rk.getD j 0 else if rk.getD ((i+by_) % rk.length) 0≠rk.getD ((j+by_) % rk.length) 0 then rk.getD ((i+by_) % rk.length) 0 - rk.getD ((j+by_) % rk.length) 0 else (i:Int) - j:=by
  simp only [cmpR,keyA,keyB,Yf];rfl
 have hk1:=fun w hr=>Qoh rk a cap by_ i hn hby hi w hr;have hk2:=fun w hr=>Qoh rk a cap by_ j hn hby hj w hr;generalize rk.getD i 0=ka at *;generalize rk.getD j 0=kb at *;generalize rk.getD ((i+by_) % rk.length) 0=kc at *;generalize rk.getD ((j+by_) % rk.length) 0=kd at *;rw [hcm];clear hcm;refine En [Qzh a rk.length cap by_,.int .i64 i,.int .i64 j] 40 Tryz.func95 ?_;refine VQ [1,2,3] fun K hK=>?_;refine Qch ?_;refine Qs ?_;have hH:=(Hg w).box 134 [.slice (some a) rk.length cap,.int .i64 by_];generalize w.alloc (Gp [Value.slice (some a) rk.length cap,.int .i64 by_].toArray 134)=w1 at *;generalize w.heap.size=g at *;have hr1:=hH.rs' hr;apply hK;clear hK;refine VQ [1,2,3,7,8] fun K hK=>?_;refine ⟨[.slice (some a) rk.length cap,.int .i64 by_],⟨rfl,Qay (hH.at 0 rfl)⟩,?_⟩;refine MemK_call Tryz.call93 ?_;refine Qs ?_;refine Yk (hk1 w1 hr1) ?_;rintro v w2 ⟨hH2,rfl⟩;have hH3:=hH.call0 hH2;simp only [Xs] at hH3;have hr2:=hH3.rs' hr;apply hK;clear hK;refine VQ [1,2,7,8,9,10] fun K hK=>?_;refine ⟨[.slice (some a) rk.length cap,.int .i64 by_],⟨rfl,Qay (hH3.at 0 rfl)⟩,?_⟩;refine MemK_call Tryz.call93 ?_;refine Qs ?_;refine Yk (hk2 w2 hr2) ?_;rintro v w3 ⟨hH4,rfl⟩;have hH5:=hH3.call0 hH4;simp only [Xs] at hH5;have hH6:Heap w [] w3 []:=hH5.sub (by simp);apply hK;clear hK;refine VB ?_
 try simp only [Ub,Xz,X0]
 refine VS [1,2,7,8,9,10,23] ?_;refine VD (fun h=>?_) (fun h=>?_)
 ·
  refine VS [6] ?_;exact VC_ret (VX_ret1 rfl rfl ⟨hH6,by rw [if_pos h]⟩)
 rw [if_neg h];refine VS [1,2,8,10,30] ?_;refine VD (fun h=>?_) (fun h=>?_)
 ·
  refine VS [6] ?_;exact VC_ret (VX_ret1 rfl rfl ⟨hH6,by rw [if_pos h]⟩)
 rw [if_neg h];refine VC_skip ?_;refine Qaj ?_;refine VS [6] ?_;exact VC_ret (VX_ret1 rfl rfl ⟨hH6,rfl⟩)
theorem QBe (rk:List Int) (hrk:Qlr rk) (gr:Nat) (cap by_:Nat) (hn:rk.length<=1000000000) (hby:by_<=10000000000) :
  Cmp (.func (.func 95) #[Qzh ⟨gr,0,none⟩ rk.length cap by_] #[]) (cmpR rk by_) (inR rk) (U4 3 1 (some ⟨gr,0,none⟩) rk.length cap (Qat rk)) where
 i64:=fun x y hx hy=>by have:=QJ2 hrk hn by_ x y hx hy;omega
 run:=fun w x y hR hx hy=>by
  obtain ⟨i,rfl⟩:∃ i:Nat,x=i:=⟨x.toNat,by have:=hx.1;omega⟩;obtain ⟨j,rfl⟩:∃ j:Nat,y=j:=⟨y.toNat,by have:=hy.1;omega⟩;exact FnK.mk Tryz.call95 (Qwk rk hrk ⟨gr,0,none⟩ cap by_ i j hn hby (by have:=hx.2;omega) (by have:=hy.2;omega) w (Qaq hR)) fun v w' h=>h
theorem Qk0 (rk:List Int) (by_:Nat) (x y:Int):cmpR rk by_ x y < 0 ↔ keyA rk x < keyA rk y∨(keyA rk x=keyA rk y/\(keyB rk by_ x < keyB rk by_ y∨(keyB rk by_ x=keyB rk by_ y/\x < y))):=by
 unfold cmpR;split
 ·
  omega
 split <;> omega
theorem QBf (rk:List Int) (by_:Nat):Sort.SWO (ltOf (cmpR rk by_)):=by
 constructor
 ·
  intro x;simp [ltOf,cmpR]
 ·
  intro x y z h1 h2;have h3:=Qk0 rk by_ x y;have h4:=Qk0 rk by_ y z;have h5:=Qk0 rk by_ x z;simp only [ltOf] at *;have h1:=of_decide_eq_true h1;have h2:=of_decide_eq_true h2;exact decide_eq_true (by omega)
 intro x y z h1 h2;have h3:=Qk0 rk by_ x y;have h4:=Qk0 rk by_ y z;have h5:=Qk0 rk by_ x z;simp only [ltOf] at *;have h1:=of_decide_eq_false h1;have h2:=of_decide_eq_false h2;exact decide_eq_false (by omega)
def leB:List UInt8->List UInt8->Bool
 | [],_=>true
 | _::_,[]=>false
 | a::l,b::m=>if a=b then leB l m else decide (a.toNat < b.toNat)
theorem Qiq:∀ l,leB l l=true
 | []=>rfl
 | a::l=>by simp [leB,Qiq l]
theorem Qwl:∀ l m,leB l m=true∨leB m l=true
 | [],m=>.inl rfl
 | a::l,[]=>.inr rfl
 | a::l,b::m=>by
  simp only [leB];by_cases h:a=b
  ·
   subst h;simpa using Qwl l m
  have:a.toNat≠b.toNat:=fun h'=>h (Uc.1 h');simp [h,Ne.symm h];omega
theorem Qls:∀ l m,leB l m=true->leB m l=true->l=m
 | [],[],_,_=>rfl
 | [],_::_,_,h=>by simp [leB] at h
 | _::_,[],h,_=>by simp [leB] at h
 | a::l,b::m,h1,h2=>by
  simp only [leB] at h1 h2;by_cases h:a=b
  ·
   subst h;simp at h1 h2;rw [Qls l m h1 h2]
  simp [h,Ne.symm h] at h1 h2;omega
theorem Qwm:∀ l m k,leB l m=true->leB m k=true->leB l k=true
 | [],_,_,_,_=>rfl
 | _::_,[],_,h,_=>by simp [leB] at h
 | _::_,_::_,[],_,h=>by simp [leB] at h
 | a::l,b::m,c::k,h1,h2=>by
  simp only [leB] at h1 h2 ⊢;by_cases hab:a=b
  ·
   subst hab;by_cases hac:a=c
   ·
    subst hac;simp at h1 h2 ⊢;exact Qwm l m k h1 h2
   simp [hac] at h1 h2 ⊢;exact h2
  by_cases hbc:b=c
  ·
   subst hbc;simp [hab] at h1 h2 ⊢;exact h1
  simp [hab,hbc] at h1 h2;have:a≠c:=fun h=>by rw [h] at h1;omega
  simp [this];omega
theorem QBg:∀ (l m:List UInt8) (c:UInt8),l.length=m.length->leB (l++[c]) (m++[c])=true->leB l m=true
 | [],_,_,_,_=>rfl
 | _::_,[],_,h,_=>by simp at h
 | a::l,b::m,c,hl,h=>by
  simp only [Ys,leB] at h ⊢;by_cases hab:a=b
  ·
   subst hab;simp at h ⊢;exact QBg l m c (by simpa using hl) h
  simp [hab] at h ⊢;exact h
def rot (s:List UInt8) (i:Nat):List UInt8:=s.drop i++s.take i
theorem QDq (s:List UInt8) (i:Nat):(rot s i).length=s.length:=by simp [rot];omega
theorem QJ3 (s:List UInt8):rot s 0=s:=by simp [rot]
def rotl:List UInt8->List UInt8
 | []=>[]
 | a::l=>l++[a]
theorem Qty (s:List UInt8) (i:Nat) (h:i < s.length):rot s (i+1)=rotl (rot s i):=by
 have e:s.drop i=s[i]::s.drop (i+1):=Xb h;rw [rot,rot,e,Ys,rotl,Yh]
 congr 1
 rw [Xm,Yc h];rfl
theorem QJ4 (s:List UInt8):rot s s.length=s:=by simp [rot]
theorem QBh (s:List UInt8) (i:Nat) (h:i < s.length):(rot s i).head? = some (s.getD i 0):=by
 rw [rot,Xb h,Yb,Yc h];rfl
structure Ordered (s:List UInt8) (σ:List Nat):Prop where
 perm:σ.Perm (Yg s.length)
 sorted:σ.Pairwise fun i j=>leB (rot s i) (rot s j)=true/\(rot s i=rot s j->i < j)
theorem Ordered.unique {s:List UInt8}{σ τ:List Nat} (h:Ordered s σ) (k:Ordered s τ):σ=τ:=by
 refine List.Perm.eq_of_pairwise (le:=fun i j=>leB (rot s i) (rot s j)=true/\(rot s i=rot s j->i < j)) (fun a b _ _ h1 h2=>?_) h.sorted k.sorted (h.perm.trans k.perm.symm);have e:=Qls _ _ h1.1 h2.1;have:=h1.2 e;have:=h2.2 e.symm;omega
def ahead (n i:Nat):Nat:=if i=0 then n - 1 else i - 1
theorem QGc (s:List UInt8) (i:Nat) (h:i < s.length):rot s i=rotl (rot s (ahead s.length i)):=by
 unfold ahead;by_cases h0:i=0
 ·
  subst h0;rw [if_pos rfl,<- Qty s (s.length - 1) (by omega),show s.length - 1+1=s.length by omega,QJ4,QJ3]
 rw [if_neg h0,<- Qty s (i - 1) (by omega),show i - 1+1=i by omega]
def Qbu (s:List UInt8) (σ:List Nat):List UInt8:=σ.map fun i=>s.getD (ahead s.length i) 0
def Qbv (L:List UInt8):List Nat:=(Yg 256).flatMap fun b=>(Yg L.length).filter fun i=>(L.getD i 0).toNat == b
theorem Qcx (L:List UInt8):(Qbv L).Perm (Yg L.length):=by
 unfold Qbv;generalize hn:Yg L.length=xs;clear hn
 induction xs with
 | nil=>simp
 | cons x xs ih =>
  have h1:∀ (bs:List Nat),bs.Nodup->(L.getD x 0).toNat∈bs ->
    (bs.flatMap fun b=>(x::xs).filter fun i=>(L.getD i 0).toNat == b).Perm (x::bs.flatMap fun b=>xs.filter fun i=>(L.getD i 0).toNat == b):=by
   intro bs
   induction bs with
   | nil=>intro _ h;simp at h
   | cons b bs ihb =>
    intro hnd hm;rw [List.nodup_cons] at hnd;simp only [X1];by_cases hb:(L.getD x 0).toNat=b
    ·
     have hno:∀ b'∈bs,((x::xs).filter fun i=>(L.getD i 0).toNat == b')=xs.filter fun i=>(L.getD i 0).toNat == b':=by
      intro b' hb';rw [Xw];simp only [beq_iff_eq];intro h;exact hnd.1 (by rw [<- hb,h];exact hb')
     rw [U2 (by simpa using hb)]
     have e:(bs.flatMap fun b'=>(x::xs).filter fun i=>(L.getD i 0).toNat == b')=bs.flatMap fun b'=>xs.filter fun i=>(L.getD i 0).toNat == b':=by
      have:∀ (l:List Nat),(∀ b'∈l,((x::xs).filter fun i=>(L.getD i 0).toNat == b')=xs.filter fun i=>(L.getD i 0).toNat == b')->(l.flatMap fun b'=>(x::xs).filter fun i=>(L.getD i 0).toNat == b')=l.flatMap fun b'=>xs.filter fun i=>(L.getD i 0).toNat == b':=by
       intro l
       induction l with
       | nil=>intro _;rfl
       | cons c l ihl=>intro h;rw [X1,X1,h c (by simp),ihl fun b' hb'=>h b' (by simp [hb'])]
      exact this bs hno
     rw [e];exact List.Perm.refl _
    rw [Xw (by simpa using hb)]
    have hm':(L.getD x 0).toNat∈bs:=by
     rcases Ut.1 hm with h | h
     ·
      exact absurd h hb
     exact h
    refine (List.Perm.append_left _ (ihb hnd.2 hm')).trans ?_;exact List.perm_middle
  refine (h1 _ X6 (Xo.2 (UInt8.toNat_lt _))).trans (ih.cons x)
theorem Qpg (L:List UInt8):(Qbv L).Pairwise fun i j=>(L.getD i 0).toNat < (L.getD j 0).toNat∨((L.getD i 0).toNat=(L.getD j 0).toNat/\i < j):=by
 unfold Qbv;rw [List.pairwise_flatMap];refine ⟨fun b _=>?_,?_⟩
 ·
  have hr:(Yg L.length).Pairwise (· < ·):=U5;have:=hr.filter fun i=>(L.getD i 0).toNat == b;refine this.imp_of_mem fun {i j} hi hj h=>?_;rw [Gb] at hi hj;simp only [beq_iff_eq] at hi hj;exact .inr ⟨by rw [hi.2,hj.2],h⟩
 refine (U5 (n:=256)).imp fun {b c} h i hi j hj=>?_;rw [Gb] at hi hj;simp only [beq_iff_eq] at hi hj;exact .inl (by rw [hi.2,hj.2];exact h)
def Qhv (L:List UInt8) (pl:List Nat):Nat->Nat->List UInt8
 | 0,_=>[]
 | n+1,p=>L.getD (pl.getD p 0) 0::Qhv L pl n (pl.getD p 0)
theorem QOu (a:UInt8) (l:List UInt8):rotl (a::l)=l++[a]:=rfl
section
variable {s:List UInt8}{σ:List Nat}
theorem QOv (h:Ordered s σ) {j:Nat} (hj:j < s.length):(Qbu s σ).getD j 0=s.getD (ahead s.length (σ.getD j 0)) 0:=by
 have hl:σ.length=s.length:=by rw [h.perm.length_eq,Y5]
 simp only [Qbu,Yb,Xy];rw [Yc (by omega)];simp
theorem QSf (h:Ordered s σ) {j:Nat} (hj:j < s.length):σ.getD j 0 < s.length:=by
 have hl:σ.length=s.length:=by rw [h.perm.length_eq,Y5]
 have:σ.getD j 0∈σ:=by
  rw [Yb,Yc (by omega)];simp
 have:=(h.perm.mem_iff).1 this;simpa using this
theorem QBi {n i:Nat} (h:i < n):ahead n i < n:=by unfold ahead;split <;> omega
theorem Qtz (h:Ordered s σ) {j:Nat} (hj:j < s.length):∃ l,rot s (σ.getD j 0)=l++[(Qbu s σ).getD j 0]/\rot s (ahead s.length (σ.getD j 0))=(Qbu s σ).getD j 0::l:=by
 have h1:=QSf h hj;have h2:=QGc s _ h1;have h3:=QBh s _ (QBi h1);cases hr:rot s (ahead s.length (σ.getD j 0)) with
 | nil=>rw [hr] at h3;simp at h3
 | cons a l =>
  rw [hr] at h2 h3;simp only [List.head?_cons,Option.some.injEq] at h3;rw [QOv h hj,<- h3];exact ⟨l,h2,rfl⟩
theorem QDr (n:Nat):((Yg n).map (ahead n)).Perm (Yg n):=by
 refine (List.perm_ext_iff_of_nodup ?_ X6).2 fun a=>?_
 ·
  refine List.Pairwise.map _ ?_ (List.pairwise_lt_range.imp_of_mem (S:=fun a b=>a < b/\b < n) fun {a b} ha hb h=>⟨h,by simpa using hb⟩);intro a b h;unfold ahead;split <;> split <;> omega
 simp only [Y6,Xo];constructor
 ·
  rintro ⟨i,hi,rfl⟩;exact QBi hi
 intro ha;by_cases h:a=n - 1
 ·
  exact ⟨0,by omega,by unfold ahead;rw [if_pos rfl];omega⟩
 exact ⟨a+1,by omega,by unfold ahead;rw [if_neg (by omega)];omega⟩
theorem QJ5 (σ:List Nat):(Yg σ.length).map (fun j=>σ.getD j 0)=σ:=by
 apply G8;intro j;rw [Xy];by_cases h:j < σ.length
 ·
  rw [Yc (by simpa using h)];simp [Yb,h]
 rw [Yx (by simpa using h),Yx (by omega)];rfl
theorem QGd (h:Ordered s σ):σ.map (rot s)=(Qbv (Qbu s σ)).map fun j=>rot s (ahead s.length (σ.getD j 0)):=by
 have hl:σ.length=s.length:=by rw [h.perm.length_eq,Y5]
 have hcl:(Qbu s σ).length=s.length:=by simp [Qbu,hl]
 have hpp:=Qcx (Qbu s σ);rw [hcl] at hpp;have hmem:∀ j∈Qbv (Qbu s σ),j < s.length:=fun j hj=>by simpa using (hpp.mem_iff).1 hj
 refine List.Perm.eq_of_pairwise (le:=fun l m=>leB l m=true) (fun a b _ _ h1 h2=>Qls a b h1 h2) ?_ ?_ ?_
 ·
  exact List.Pairwise.map _ (fun a b h=>h) (h.sorted.imp fun h=>h.1)
 ·
  refine List.Pairwise.map _ ?_ ((Qpg (Qbu s σ)).imp_of_mem (S:=fun i j=>((((Qbu s σ).getD i 0).toNat < ((Qbu s σ).getD j 0).toNat∨(((Qbu s σ).getD i 0).toNat=((Qbu s σ).getD j 0).toNat/\i < j))/\i < s.length)/\j < s.length) fun hi hj h=>⟨⟨h,hmem _ hi⟩,hmem _ hj⟩);rintro i j ⟨⟨hij,hi⟩,hj⟩;obtain ⟨l,e1,e2⟩:=Qtz h hi;obtain ⟨m,f1,f2⟩:=Qtz h hj;rw [e2,f2];simp only [leB];rcases hij with hlt | ⟨he,hlt⟩
  ·
   have:(Qbu s σ).getD i 0≠(Qbu s σ).getD j 0:=fun h'=>by rw [h'] at hlt;omega
   simp only [this,if_false];simpa using hlt
  have he':(Qbu s σ).getD i 0=(Qbu s σ).getD j 0:=Uc.1 he;rw [if_pos he'];have hs:=Xr.1 h.sorted i j (by omega) (by omega) hlt;have g1:σ[i]'(by omega)=σ.getD i 0:=by rw [Yb,Yc (by omega)];rfl
  have g2:σ[j]'(by omega)=σ.getD j 0:=by rw [Yb,Yc (by omega)];rfl
  rw [g1,g2,e1,f1,he'] at hs;refine QBg l m _ ?_ hs.1;have a1:=congrArg Ur e1;have a2:=congrArg Ur f1;simp [QDq] at a1 a2;omega
 have p1:(σ.map (rot s)).Perm ((Yg s.length).map (rot s)):=h.perm.map _;have p2:((Qbv (Qbu s σ)).map fun j=>rot s (ahead s.length (σ.getD j 0))).Perm ((Yg s.length).map fun j=>rot s (ahead s.length (σ.getD j 0))):=hpp.map _;refine p1.trans (List.Perm.trans ?_ p2.symm)
 have e1:((Yg s.length).map fun j=>rot s (ahead s.length (σ.getD j 0)))=(σ.map (ahead s.length)).map (rot s):=by
  rw [<- hl]
  conv=>rhs;rw [<- QJ5 σ]
  simp [G9,Function.comp_def,hl]
 rw [e1];exact (((h.perm.map (ahead s.length)).trans (QDr s.length)).symm).map _
theorem QGe (h:Ordered s σ):∀ (n p i:Nat),p < s.length->i < s.length->rot s (σ.getD p 0)=rot s i->i+n<=s.length ->
  Qhv (Qbu s σ) (Qbv (Qbu s σ)) n p=(s.drop i).take n
 | 0,_,_,_,_,_,_=>by simp [Qhv]
 | n+1,p,i,hp,hi,hr,hn=>by
  have hl:σ.length=s.length:=by rw [h.perm.length_eq,Y5]
  have hcl:(Qbu s σ).length=s.length:=by simp [Qbu,hl]
  have hpp:=Qcx (Qbu s σ);rw [hcl] at hpp;have hpl:(Qbv (Qbu s σ)).length=s.length:=by rw [hpp.length_eq,Y5]
  generalize hq:(Qbv (Qbu s σ)).getD p 0=q
  have hqlt:q < s.length:=by
   have:q∈Qbv (Qbu s σ):=by
    rw [<- hq,Yb,Yc (by omega)];simp
   simpa using (hpp.mem_iff).1 this
  have hb:=congrArg (fun l=>l[p]?) (QGd h);simp only [Xy] at hb;rw [Yc (by omega),Yc (by omega)] at hb;simp only [Option.map_some,Option.some.injEq] at hb;have g1:σ[p]'(by omega)=σ.getD p 0:=by rw [Yb,Yc (by omega)];rfl
  have g2:(Qbv (Qbu s σ))[p]'(by omega)=q:=by rw [<- hq,Yb,Yc (by omega)];rfl
  rw [g1,g2,hr] at hb;obtain ⟨l,e1,e2⟩:=Qtz h hqlt;rw [e2] at hb;have hd:=QBh s i hi;rw [hb] at hd;simp only [List.head?_cons,Option.some.injEq] at hd;have hnext:rot s (σ.getD q 0)=rotl (rot s i):=by rw [hb,QOu,e1]
  rw [Qhv,hq,hd,Xb hi,List.take_succ_cons];have e3:s.getD i 0=s[i]:=by rw [Yb,Yc hi];rfl
  rw [e3]
  congr 1
  by_cases hlast:i+1=s.length
  ·
   have:n=0:=by omega
   subst this;simp [Qhv]
  exact QGe h n q (i+1) hqlt (by omega) (by rw [hnext,Qty s i hi]) (by omega)
theorem QJ6 (h:Ordered s σ) (hs:s≠[]):Qhv (Qbu s σ) (Qbv (Qbu s σ)) s.length (σ.idxOf 0)=s:=by
 have hl:σ.length=s.length:=by rw [h.perm.length_eq,Y5]
 have hn:0 < s.length:=List.length_pos_iff.2 hs;have hm:0∈σ:=(h.perm.mem_iff).2 (by simpa using hn);have hr:σ.idxOf 0 < σ.length:=List.idxOf_lt_length_iff.2 hm
 have hg:σ.getD (σ.idxOf 0) 0=0:=by
  rw [Yb,Yc hr];simp
 have:=QGe h s.length (σ.idxOf 0) 0 (by omega) hn (by rw [hg]) (by omega);simpa using this
end
def pre (s:List UInt8) (m i:Nat):List UInt8:=(Yg m).map fun t=>s.getD ((i+t) % s.length) 0
theorem Qg1 (s:List UInt8) (m i:Nat):(pre s m i).length=m:=by simp [pre]
theorem Qk1 (s:List UInt8) (a b i:Nat):pre s (a+b) i=pre s a i++pre s b ((i+a) % s.length):=by
 simp only [pre,List.range_add,List.map_append,G9]
 congr 1
 apply Gq;intro t _;simp only [Function.comp]
 congr 1
 rw [Nat.mod_add_mod,Nat.add_assoc]
theorem Qh8:∀ {a c:List UInt8} (b d:List UInt8),a.length=c.length->leB (a++b) (c++d)=if a=c then leB b d else leB a c
 | [],[],_,_,_=>by simp
 | [],_::_,_,_,h=>by simp at h
 | _::_,[],_,_,h=>by simp at h
 | x::a,y::c,b,d,h=>by
  have ih:=Qh8 (a:=a) (c:=c) b d (by simpa using h);by_cases hxy:x=y
  ·
   subst hxy;simp only [Ys,leB,if_true,ih,List.cons.injEq,true_and]
  simp [leB,hxy]
theorem Qmw (s:List UInt8) (i:Nat) (hi:i < s.length):pre s s.length i=rot s i:=by
 apply U3
 ·
  simp [pre,rot];omega
 intro t h1 h2;simp only [pre,List.length_map,Y5] at h1;simp only [pre,rot,List.getElem_map,Gz,List.getElem_append,List.length_drop,List.getElem_drop,List.getElem_take];split
 ·
  rename_i h;rw [Y1 (by omega),Yb,Yc (by omega),Xf]
 rename_i h
 have e:(i+t) % s.length=t - (s.length - i):=by
  rw [Nat.mod_eq_sub_mod (by omega),Y1 (by omega)];omega
 rw [e,Yb,Yc (by omega),Xf]
theorem Qsa (s:List UInt8) (m i j:Nat) (hi:i < s.length) (hj:j < s.length) (h:rot s i=rot s j):pre s m i=pre s m j:=by
 rw [<- Qmw s i hi,<- Qmw s j hj] at h;unfold pre at h ⊢;apply Gq;intro t _;have ht:t % s.length < s.length:=X5 _ (by omega);have h1:=(List.map_inj_left.1 h) (t % s.length) (by simpa using ht)
 rwa [Nat.add_mod_mod,Nat.add_mod_mod] at h1
def Ranks (s:List UInt8) (rk:List Int) (m:Nat):Prop:=rk.length=s.length/\∀ i j,i < s.length->j < s.length->(rk.getD i 0<=rk.getD j 0 ↔ leB (pre s m i) (pre s m j)=true)
def leK (rk:List Int) (by_:Nat) (x y:Int):Prop:=keyA rk x < keyA rk y∨(keyA rk x=keyA rk y/\keyB rk by_ x<=keyB rk by_ y)
def LeK (s:List UInt8) (rk:List Int) (by_ m:Nat):Prop:=rk.length=s.length/\∀ i j:Nat,i < s.length->j < s.length->(leK rk by_ i j ↔ leB (pre s m i) (pre s m j)=true)
theorem Ranks.eq {s:List UInt8}{rk:List Int}{m:Nat} (h:Ranks s rk m) {i j:Nat} (hi:i < s.length) (hj:j < s.length):rk.getD i 0=rk.getD j 0 ↔ pre s m i=pre s m j:=by
 constructor
 ·
  intro e;exact Qls _ _ ((h.2 i j hi hj).1 (by omega)) ((h.2 j i hj hi).1 (by omega))
 intro e;have h1:=(h.2 i j hi hj).2 (by rw [e];exact Qiq _);have h2:=(h.2 j i hj hi).2 (by rw [e];exact Qiq _);omega
theorem LeK.first {s:List UInt8}{rk:List Int} (h:Ranks s rk 1):LeK s rk 0 1:=by
 refine ⟨h.1,fun i j hi hj=>?_⟩;have hn:=h.1;rw [<- h.2 i j hi hj];simp only [leK,keyA,keyB,Yf,Ue,hn,Y1 hi,Y1 hj];omega
theorem LeK.double {s:List UInt8}{rk:List Int}{c:Nat} (h:Ranks s rk c):LeK s rk c (c+c):=by
 refine ⟨h.1,fun i j hi hj=>?_⟩;have hn:=h.1;have h0:0 < s.length:=by omega
 rw [Qk1,Qk1,Qh8 _ _ (by rw [Qg1,Qg1])];have hi2:(i+c) % s.length < s.length:=X5 _ h0;have hj2:(j+c) % s.length < s.length:=X5 _ h0;have e1:=h.eq hi hj;have e2:=h.2 i j hi hj;have e3:=h.2 _ _ hi2 hj2;simp only [leK,keyA,keyB,Yf,hn];split
 ·
  rename_i hp;rw [<- e3];have:=e1.2 hp;omega
 rename_i hp;rw [<- e2];have:¬ rk.getD i 0=rk.getD j 0:=fun h'=>hp (e1.1 h');omega
def kEq (rk:List Int) (by_:Nat) (x y:Int):Bool:=decide (keyA rk x=keyA rk y) && decide (keyB rk by_ x=keyB rk by_ y)
def rsum (rk:List Int) (by_:Nat) (L:List Int):Nat->Nat
 | 0=>0
 | k+1=>rsum rk by_ L k+if kEq rk by_ (L.getD k 0) (L.getD (k+1) 0) then 0 else 1
theorem Qzi (rk:List Int) (by_:Nat) (L:List Int):∀ k,rsum rk by_ L k<=k
 | 0=>by simp [rsum]
 | k+1=>by have:=Qzi rk by_ L k;simp only [rsum];split <;> omega
theorem Qph (rk:List Int) (by_:Nat) (L:List Int) {p q:Nat} (h:p<=q):rsum rk by_ L p<=rsum rk by_ L q:=by
 induction q with
 | zero =>
  obtain rfl:p=0:=by omega
  exact Yu _
 | succ q ih =>
  by_cases hp:p=q+1
  ·
   rw [hp];exact Yu _
  have:=ih (by omega);simp only [rsum];omega
def QJ7 (rk:List Int) (by_:Nat) (L:List Int):Prop:=∀ p q,p<=q->q < L.length->leK rk by_ (L.getD p 0) (L.getD q 0)
theorem QOw {rk:List Int}{by_:Nat}{L:List Int} (hL:QJ7 rk by_ L) {p q:Nat} (h:p<=q) (hq:q < L.length):rsum rk by_ L p=rsum rk by_ L q ↔ kEq rk by_ (L.getD p 0) (L.getD q 0)=true:=by
 induction q with
 | zero =>
  obtain rfl:p=0:=by omega
  simp [kEq]
 | succ q ih =>
  by_cases hp:p=q+1
  ·
   subst hp;simp [kEq]
  have ih:=ih (by omega) (by omega);have hm:=Qph rk by_ L (show p<=q by omega);have h1:=hL p q (by omega) (by omega);have h2:=hL q (q+1) (by omega) hq;simp only [rsum];simp only [kEq,Yi,decide_eq_true_eq,leK] at *;split
  ·
   rename_i h3;simp only [Ue];rw [ih];omega
  rename_i h3;constructor
  ·
   intro h4;omega
  intro h4;exfalso;apply h3;omega
theorem QDt {rk:List Int}{by_:Nat}{L:List Int} (hL:QJ7 rk by_ L) {p q:Nat} (hp:p < L.length) (hq:q < L.length):rsum rk by_ L p<=rsum rk by_ L q ↔ leK rk by_ (L.getD p 0) (L.getD q 0):=by
 by_cases h:p<=q
 ·
  exact ⟨fun _=>hL p q h hq,fun _=>Qph rk by_ L h⟩
 have h1:=hL q p (by omega) hp;have h2:=Qph rk by_ L (show q<=p by omega);have h3:=QOw hL (show q<=p by omega) hp;simp only [kEq,Yi,decide_eq_true_eq,leK] at *;constructor
 ·
  intro h4;have:=h3.1 (by omega);omega
 intro h4;have:=h3.2 (by omega);omega
def Qfj (n:Nat):List Int:=(Yg n).map fun i:Nat=>(i:Int)
theorem QLm {rk:List Int}{by_:Nat}{x y:Int} (h:ltOf (cmpR rk by_) y x=false):leK rk by_ x y/\(kEq rk by_ x y=true->x<=y):=by
 have h1:=Qk0 rk by_ y x;have h2:¬ cmpR rk by_ y x < 0:=of_decide_eq_false h;simp only [leK,kEq,Yi,decide_eq_true_eq];constructor
 ·
  omega
 omega
theorem QJ8 {rk:List Int}{by_:Nat}{L:List Int} (h:L.Pairwise fun x y=>ltOf (cmpR rk by_) y x=false):QJ7 rk by_ L:=by
 intro p q hpq hq;by_cases e:p=q
 ·
  subst e;right;exact ⟨rfl,Int.le_refl _⟩
 have:=(Xr.1 h) p q (by omega) hq (by omega);rw [Yb,Yc (by omega),Yb,Yc hq];exact (QLm this).1
theorem Qzj {L:List Int}{n:Nat} (h:L.Perm (Qfj n)) {i:Nat} (hi:i < n):∃ p,p < L.length/\L.getD p 0=i:=by
 have hm:(i:Int)∈L:=h.mem_iff.2 (by simp only [Qfj,Y6,Xo];exact ⟨i,hi,rfl⟩);obtain ⟨p,hp,he⟩:=Gr hm;exact ⟨p,hp,by rw [Yb,Yc hp];exact he⟩
theorem Qzk {L:List Int}{n:Nat} (h:L.Perm (Qfj n)) {p:Nat} (hp:p < L.length):0<=L.getD p 0/\L.getD p 0 < n:=by
 have hm:L.getD p 0∈L:=by rw [Yb,Yc hp];exact Y0 hp
 have:=h.mem_iff.1 hm;simp only [Qfj,Y6,Xo] at this;obtain ⟨i,hi,he⟩:=this;omega
theorem QBj {L:List Int}{n:Nat} (h:L.Perm (Qfj n)):L.length=n:=by rw [h.length_eq];simp [Qfj]
theorem Qsb {L:List Int}{n:Nat} (h:L.Perm (Qfj n)):L.Nodup:=by
 rw [h.nodup_iff,Qfj,List.Nodup,Ha];exact (X6 (n:=n)).imp fun {a b} hab h=>hab (by omega)
theorem QJ9 {L:List Int}{n:Nat} (h:L.Perm (Qfj n)) {p q:Nat} (hp:p < L.length) (hq:q < L.length) (e:L.getD p 0=L.getD q 0):p=q:=by
 have hnd:=Qsb h;rw [Yb,Yc hp,Yb,Yc hq] at e;exact (List.getElem_inj hnd).1 e
theorem QDu {s:List UInt8}{rk nx L:List Int}{by_ m:Nat} (hk:LeK s rk by_ m) (hp:L.Perm (Qfj s.length)) (hs:QJ7 rk by_ L) (hl:nx.length=s.length) (hn:∀ p,p < s.length->nx.getD (L.getD p 0).toNat 0=rsum rk by_ L p):Ranks s nx m:=by
 refine ⟨hl,fun i j hi hj=>?_⟩;have hL:=QBj hp;obtain ⟨p,hp1,hp2⟩:=Qzj hp hi;obtain ⟨q,hq1,hq2⟩:=Qzj hp hj;have e1:=hn p (by omega);have e2:=hn q (by omega);rw [hp2,Yf] at e1;rw [hq2,Yf] at e2;have h1:=QDt hs hp1 hq1;rw [hp2,hq2] at h1;rw [e1,e2,<- hk.2 i j hi hj,<- h1];omega
theorem Qzl {s:List UInt8}{rk nx L:List Int}{by_:Nat} (hp:L.Perm (Qfj s.length)) (hl:nx.length=s.length) (hb:s.length<=1000000000) (hn:∀ p,p < s.length->nx.getD (L.getD p 0).toNat 0=rsum rk by_ L p):Qlr nx:=by
 intro r hr;obtain ⟨i,hi,rfl⟩:=Gr hr;have hL:=QBj hp;obtain ⟨p,hp1,hp2⟩:=Qzj hp (show i < s.length by omega);have e1:=hn p (by omega);have e2:=Qzi rk by_ L p;rw [hp2,Yf,Yb,Yc hi,Xf] at e1;omega
theorem Qzm {s:List UInt8}{rk L:List Int}{by_ m:Nat} (hk:LeK s rk by_ m) (hm:s.length<=m) (hp:L.Perm (Qfj s.length)) (hs:L.Pairwise fun x y=>ltOf (cmpR rk by_) y x=false):Ordered s (L.map Hd):=by
 constructor
 ·
  have:=hp.map Hd
  rwa [Qfj,G9,show (Hd ∘ fun i:Nat=>(i:Int))=id from funext fun i=>Yf i,List.map_id] at this
 rw [Ha];refine (List.pairwise_and_iff.2 ⟨hs,Qsb hp⟩).imp_of_mem fun {x y} hx hy h=>?_;obtain ⟨h,hne⟩:=h;have hx:=hp.mem_iff.1 hx;have hy:=hp.mem_iff.1 hy;simp only [Qfj,Y6,Xo] at hx hy;obtain ⟨i,hi,rfl⟩:=hx;obtain ⟨j,hj,rfl⟩:=hy;simp only [Yf];obtain ⟨h1,h2⟩:=QLm h;have h3:=(hk.2 i j hi hj).1 h1;constructor
 ·
  obtain ⟨c,rfl⟩:∃ c,m=s.length+c:=⟨m - s.length,by omega⟩;rw [Qk1,Qk1,Qh8 _ _ (by rw [Qg1,Qg1]),Qmw s i hi,Qmw s j hj] at h3;split at h3
  ·
   rename_i e;rw [e];exact Qiq _
  exact h3
 intro e;have e2:=Qsa s m i j hi hj e;have h4:=(hk.2 j i hj hi).2 (by rw [e2];exact Qiq _)
 have h5:kEq rk by_ i j=true:=by
  simp only [leK,kEq,Yi,decide_eq_true_eq] at *;omega
 have h6:=h2 h5;have h7:i≠j:=fun h=>hne (by rw [h]);omega
def Qlt (s:List UInt8) (i j:Nat):Bool:=if rot s i=rot s j then decide (i < j) else leB (rot s i) (rot s j)
theorem Qt0 (s:List UInt8) (i:Nat):pre s 1 i=[s.getD (i % s.length) 0]:=by simp [pre,Gd]
theorem Qzn (l:List UInt8) (i j:Nat) (hl:l.length<=1000000000000) (hi:i < l.length) (hj:j < l.length) (w:World):Does Ya 136 #[Str l,.int .i64 i,.int .i64 j] w fun v w'=>w'=w/\v=.bool (Qlt l i j):=by
 have hri:=Qmw l i hi;have hrj:=Qmw l j hj;refine En [Str l,.int .i64 i,.int .i64 j] 41 Tryz.func136 ?_;generalize hn:l.length=n at *;refine VS [0,1,2] ?_;refine VS [0,1,2,7] ?_;refine Qac ?_;refine Qad [0,1,2,7] (fun m e w'=>∃ (k:Nat),Is e [(0,Str l),(1,.int .i64 i),(2,.int .i64 j),(7,.int .i64 k)]/\Is w' w/\k<=n/\pre l k i=pre l k j/\m=n - k) n ?_ ?_
 ·
  refine Qs ?_;exact ⟨0,rfl,rfl,by omega,rfl,rfl⟩
 rintro m e w' ⟨k,rfl,rfl,hk,hpe,hm⟩;refine VQ [0,1,2,7,13] fun K hK=>?_;rw [hn];(repeat refine Qo ?_);apply hK;clear hK;refine VD (fun h=>?_) (fun h=>?_)
 ·
  have h1:(i+k) % n < n:=X5 _ (by omega);have h2:(j+k) % n < n:=X5 _ (by omega);have e1:((i:Int)+k) % n=(((i+k) % n:Nat):Int):=by push_cast;rfl
  have e2:((j:Int)+k) % n=(((j+k) % n:Nat):Int):=by push_cast;rfl
  have hs1:pre l (k+1) i=pre l k i++[l.getD ((i+k) % n) 0]:=by rw [Qk1,Qt0,hn,Gl]
  have hs2:pre l (k+1) j=pre l k j++[l.getD ((j+k) % n) 0]:=by rw [Qk1,Qt0,hn,Gl]
  refine VC_skip ?_;refine VB ?_;refine VQ [0,1,2,7,8] fun K hK=>?_;rw [hn,e1];refine ⟨Hf (by omega) (by omega),by omega,by omega,?_⟩;(try rw [Yf]);refine Qp ?_;apply hK;clear hK;refine VQ [0,1,2,7,8,9] fun K hK=>?_;rw [hn,e2];refine ⟨Hf (by omega) (by omega),by omega,by omega,?_⟩;(try rw [Yf]);refine Qp ?_;apply hK;clear hK;refine VS [0,1,2,7,8,9,34] ?_;have hinj:(l.getD ((i+k) % n) 0).toNat=(l.getD ((j+k) % n) 0).toNat ↔ l.getD ((i+k) % n) 0=l.getD ((j+k) % n) 0:=Uc;have hc1:pre l 1 ((i+k) % n)=[l.getD ((i+k) % n) 0]:=by rw [Qt0,hn,Gl]
  have hc2:pre l 1 ((j+k) % n)=[l.getD ((j+k) % n) 0]:=by rw [Qt0,hn,Gl]
  generalize l.getD ((i+k) % n) 0=c1 at *;generalize l.getD ((j+k) % n) 0=c2 at *;refine VD (fun h=>?_) (fun h=>?_)
  ·
   have hne:c1≠c2:=fun e=>by rw [hinj.2 e] at h;simp at h
   obtain ⟨d,hd⟩:∃ d,n=(k+1)+d:=⟨n - k - 1,by omega⟩;refine VS [6] ?_;refine VC_ret (VX_ret1 rfl rfl ⟨rfl,?_⟩);have hlen:(pre l (k+1) i).length=(pre l (k+1) j).length:=by rw [Qg1,Qg1]
   have hpne:pre l (k+1) i≠pre l (k+1) j:=by rw [hs1,hs2,hpe];simp [hne]
   have hrne:rot l i≠rot l j:=fun e=>hpne (Qsa l (k+1) i j (by omega) (by omega) e);rw [Qlt,if_neg hrne,<- hri,<- hrj]
   have e3:∀ x,pre l n x=pre l (k+1) x++pre l d ((x+(k+1)) % l.length):=fun x=>by
    conv=>lhs;rw [hd]
    rw [Qk1]
   rw [e3,e3,Qh8 _ _ hlen,if_neg hpne,hs1,hs2,hpe,Qh8 _ _ rfl,if_pos rfl];simp only [leB,if_neg hne];rw [show decide ((c1.toNat:Int) < c2.toNat)=decide (c1.toNat < c2.toNat) from decide_eq_decide.2 (by omega)]
  have heq:c1=c2:=hinj.1 (by omega);refine VC_skip ?_;refine Qaj ?_;refine VS [0,1,2,7] ?_;refine Qab ?_;refine Qs ?_;exact ⟨n - (k+1),by omega,k+1,rfl,rfl,by omega,by rw [hs1,hs2,hpe,heq],rfl⟩
 obtain rfl:k=n:=by omega
 refine Qag rfl ?_;refine VS [6] ?_;refine VC_ret (VX_ret1 rfl rfl ⟨rfl,?_⟩);rw [Qlt,if_pos (by rw [<- hri,<- hrj,hpe])];rw [show decide ((i:Int) < j)=decide (i < j) from decide_eq_decide.2 (by omega)]
def ordQ (s:List UInt8) (i j:Nat):Prop:=leB (rot s i) (rot s j)=true/\(rot s i=rot s j->i < j)
theorem ordQ.trans {s:List UInt8}{i j k:Nat} (h1:ordQ s i j) (h2:ordQ s j k):ordQ s i k:=by
 refine ⟨Qwm _ _ _ h1.1 h2.1,fun e=>?_⟩;have e1:rot s i=rot s j:=Qls _ _ h1.1 (by rw [e];exact h2.1);have:=h1.2 e1;have:=h2.2 (by rw [<- e1,e]);omega
theorem QDv {s:List UInt8}{i j:Nat} (h:Qlt s i j=true):ordQ s i j:=by
 unfold Qlt at h;split at h
 ·
  rename_i e;exact ⟨by rw [e];exact Qiq _,fun _=>of_decide_eq_true h⟩
 rename_i e;exact ⟨h,fun h'=>absurd h' e⟩
theorem Qzo {s:List UInt8}{i j:Nat} (h:Qlt s i j=false) (hne:i≠j):ordQ s j i:=by
 unfold Qlt at h;split at h
 ·
  rename_i e;have:=of_decide_eq_false h;exact ⟨by rw [e];exact Qiq _,fun _=>by omega⟩
 rename_i e;rcases Qwl (rot s i) (rot s j) with h1 | h1
 ·
  rw [h1] at h;cases h
 exact ⟨h1,fun h'=>absurd h'.symm e⟩
def Qer (s:List UInt8):List Nat->List Nat->List Nat
 | [],b=>b
 | x::a,[]=>x::a
 | x::a,y::b=>if Qlt s x y then x::Qer s a (y::b) else y::Qer s (x::a) b
termination_by a b=>a.length+b.length
theorem Qff (s:List UInt8):∀ (a b:List Nat),(Qer s a b).Perm (a++b)
 | [],b=>by rw [Qer];exact List.Perm.refl _
 | x::a,[]=>by rw [Qer,Yj]
 | x::a,y::b=>by
  rw [Qer];split
  ·
   exact (Qff s a (y::b)).cons x
  exact ((Qff s (x::a) b).cons y).trans List.perm_middle.symm
termination_by a b=>a.length+b.length
theorem Qir (s:List UInt8):∀ (a b:List Nat),a.Pairwise (ordQ s)->b.Pairwise (ordQ s)->(∀ x∈a,x ∉ b)->(Qer s a b).Pairwise (ordQ s)
 | [],b,_,hb,_=>by rw [Qer];exact hb
 | x::a,[],ha,_,_=>by rw [Qer];exact ha
 | x::a,y::b,ha,hb,hd=>by
  obtain ⟨ha1,ha2⟩:=Xj.1 ha;obtain ⟨hb1,hb2⟩:=Xj.1 hb;have hxy:x≠y:=fun e=>hd x (by simp) (by simp [e]);rw [Qer];split
  ·
   rename_i h;have h1:=QDv h;refine Xj.2 ⟨fun z hz=>?_,Qir s a (y::b) ha2 hb fun z hz=>hd z (by simp [hz])⟩;rcases List.mem_append.1 ((Qff s a (y::b)).mem_iff.1 hz) with h2 | h2
   ·
    exact ha1 z h2
   rcases Ut.1 h2 with rfl | h2
   ·
    exact h1
   exact h1.trans (hb1 z h2)
  rename_i h;have h1:=Qzo (by simpa using h) hxy;refine Xj.2 ⟨fun z hz=>?_,Qir s (x::a) b ha hb2 fun z hz hzb=>hd z hz (by simp [hzb])⟩;rcases List.mem_append.1 ((Qff s (x::a) b).mem_iff.1 hz) with h2 | h2
  ·
   rcases Ut.1 h2 with rfl | h2
   ·
    exact h1
   exact h1.trans (ha1 z h2)
  exact hb1 z h2
termination_by a b=>a.length+b.length
def Qas:Nat->Nat->List Bool
 | 0,_=>[]
 | n+1,v=>v.testBit n::Qas n v
def Qzp:List Bool->Nat->Nat
 | [],a=>a
 | b::l,a=>Qzp l (2 * a+b.toNat)
def numB (l:List Bool):Nat:=Qzp l 0
theorem Qan (n v:Nat):(Qas n v).length=n:=by
 induction n with
 | zero=>rfl
 | succ n ih=>simp [Qas,ih]
theorem QKa (l:List Bool):∀ a,Qzp l a=a * 2 ^ l.length+Qzp l 0:=by
 induction l with
 | nil=>intro a;simp [Qzp]
 | cons b l ih =>
  intro a;simp only [Qzp];rw [ih (2 * a+b.toNat),ih (2 * 0+b.toNat),Y8,Yr,Us,Nat.mul_zero,Hb];rw [show 2 * a * 2 ^ l.length=a * (2 ^ l.length * 2) by rw [Xq 2 a,X8,Xq 2]];omega
theorem Qoi:numB []=0:=rfl
theorem Qh9 (b:Bool) (l:List Bool):numB (b::l)=b.toNat * 2 ^ l.length+numB l:=by
 unfold numB;simp only [Qzp];rw [QKa l];simp
theorem Qpi (l m:List Bool):numB (l++m)=numB l * 2 ^ m.length+numB m:=by
 induction l with
 | nil=>simp [Qoi]
 | cons b l ih =>
  rw [Ys,Qh9,ih,Qh9,Yp,X9,Us,X8];omega
theorem Qpj (l:List Bool) (b:Bool):numB (l++[b])=2 * numB l+b.toNat:=by
 rw [Qpi,Qh9];simp [Qoi,Xq]
theorem Qes (l:List Bool):numB l < 2 ^ l.length:=by
 induction l with
 | nil=>simp [Qoi]
 | cons b l ih =>
  rw [Qh9,Y8,Yr];cases b <;> simp <;> omega
theorem Qdz (n v:Nat):numB (Qas n v)=v % 2 ^ n:=by
 induction n with
 | zero=>simp [Qas,Qoi,Nat.mod_one]
 | succ n ih =>
  rw [Qas,Qh9,ih,Qan,Yr,Nat.mod_mul,Yw];rcases Xa (v / 2 ^ n) with h | h <;> rw [h] <;> simp
  omega
theorem Qjp (m n v:Nat):Qas (m+n) v=Qas m (v / 2 ^ n)++Qas n v:=by
 induction m with
 | zero=>simp [Qas]
 | succ m ih =>
  rw [show m+1+n=(m+n)+1 by omega,Qas,ih,Qas,Ys,Nat.testBit_div_two_pow,Nat.add_comm m n]
theorem Qlu (n v:Nat):∀ k,n<=k->Qas n (v % 2 ^ k)=Qas n v:=by
 intro k
 induction n with
 | zero=>intro _;rfl
 | succ n ih =>
  intro h;rw [Qas,Qas,ih (by omega),Nat.testBit_mod_two_pow];simp [show n < k by omega]
theorem Qmx (l:List Bool):Qas l.length (numB l)=l:=by
 induction l with
 | nil=>rfl
 | cons b l ih =>
  rw [Y8,Qas,Qh9];have h:=Qes l
  have e1:(b.toNat * 2 ^ l.length+numB l).testBit l.length=b:=by
   rw [Yw,Xq,Nat.mul_add_div (Xt _),Nat.div_eq_of_lt h];cases b <;> simp
  have e2:Qas l.length (b.toNat * 2 ^ l.length+numB l)=l:=by
   have:=Qlu l.length (b.toNat * 2 ^ l.length+numB l) l.length (Yu _);rw [Xq,Nat.mul_add_mod,Y1 h,ih] at this;rw [Xq];exact this.symm
  rw [e1,e2]
theorem Qhd (n v:Nat):∀ i,i < n->(Qas n v)[i]? = some (v.testBit (n - 1 - i)):=by
 induction n with
 | zero=>intro i h;omega
 | succ n ih =>
  intro i h;rw [Qas];cases i with
  | zero=>simp
  | succ i =>
   rw [List.getElem?_cons_succ,ih i (by omega)]
   congr 2;omega
def Qap (l:List UInt8):List Bool:=l.flatMap fun b=>Qas 8 b.toNat
theorem Qj9:Qap []=[]:=rfl
theorem Qd8 (b:UInt8) (l:List UInt8):Qap (b::l)=Qas 8 b.toNat++Qap l:=rfl
theorem Qft (l m:List UInt8):Qap (l++m)=Qap l++Qap m:=by simp [Qap]
theorem Qaw (l:List UInt8):(Qap l).length=8 * l.length:=by
 induction l with
 | nil=>rfl
 | cons b l ih=>rw [Qd8,Yp,Qan,ih,Y8];omega
theorem Qka (l:List UInt8):∀ i,i < 8 * l.length->(Qap l)[i]? = some ((l.getD (i / 8) 0).toNat.testBit (7 - i % 8)):=by
 induction l with
 | nil=>intro i h;simp at h
 | cons b l ih =>
  intro i h;rw [Qd8];by_cases h8:i < 8
  ·
   rw [Yq (by rw [Qan];exact h8),Qhd 8 _ i h8];simp [show i / 8=0 by omega,show i % 8=i by omega]
  rw [Yl (by rw [Qan];omega),Qan,ih (i - 8) (by simp at h;omega)];rw [show i / 8=(i - 8) / 8+1 by omega,show (i - 8) % 8=i % 8 by omega];rfl
theorem QDw {a b:UInt8} (h:Qas 8 a.toNat=Qas 8 b.toNat):a=b:=by
 have:=congrArg numB h;rw [Qdz,Qdz,Y1 a.toNat_lt,Y1 b.toNat_lt] at this;exact Uc.1 this
theorem Qsc:∀ (l m:List UInt8),Qap l=Qap m->l=m
 | [],[],_=>rfl
 | [],b::m,h=>by have:=congrArg Ur h;simp [Qaw] at this
 | a::l,[],h=>by have:=congrArg Ur h;simp [Qaw] at this
 | a::l,b::m,h=>by
  rw [Qd8,Qd8] at h;obtain ⟨h1,h2⟩:=List.append_inj h (by simp [Qan]);rw [QDw h1,Qsc l m h2]
def Qsd:List Bool->Nat->Nat->List UInt8
 | [],acc,k=>if k=0 then [] else [Gk (acc * 2 ^ (8 - k))]
 | b::l,acc,k=>if k=7 then Gk (2 * acc+b.toNat)::Qsd l 0 0 else Qsd l (2 * acc+b.toNat) (k+1)
def Qbo (l:List Bool):List UInt8:=Qsd l 0 0
theorem Qmy (n:Nat):Qas n 0=Ye n false:=by
 induction n with
 | zero=>rfl
 | succ n ih=>rw [Qas,ih,Nat.zero_testBit];rfl
theorem ofNat_toNat {n:Nat} (h:n < 256):(Gk n).toNat=n:=by
 rw [UInt8.toNat_ofNat'];exact Y1 h
theorem Qzq (l:List Bool):∀ (acc k:Nat),k<=7->acc < 2 ^ k ->
  Qap (Qsd l acc k)=Qas k acc++l++Ye (8 * ((k+l.length+7) / 8) - (k+l.length)) false:=by
 induction l with
 | nil =>
  intro acc k hk ha;rw [Qsd];by_cases h0:k=0
  ·
   subst h0;simp [Qj9,Qas]
  rw [if_neg h0,Qd8,Qj9,Yj,Yj]
  have hlt:acc * 2 ^ (8 - k) < 256:=by
   have e:2 ^ k * 2 ^ (8 - k)=256:=by rw [<- X9,show k+(8 - k)=8 by omega]
   rw [<- e];exact Nat.mul_lt_mul_of_pos_right ha (Xt _)
  rw [ofNat_toNat hlt];have:=Qjp k (8 - k) (acc * 2 ^ (8 - k));rw [show k+(8 - k)=8 by omega,Nat.mul_div_cancel _ (Xt _)] at this;rw [this]
  congr 1
  have h2:=Qlu (8 - k) (acc * 2 ^ (8 - k)) (8 - k) (Yu _);rw [Nat.mul_mod_left,Qmy] at h2;rw [<- h2]
  congr 1
  simp only [List.length_nil];omega
 | cons b l ih =>
  intro acc k hk ha;rw [Qsd];have hb:b.toNat<=1:=by cases b <;> simp
  have hbits:Qas (k+1) (2 * acc+b.toNat)=Qas k acc++[b]:=by
   have:=Qjp k 1 (2 * acc+b.toNat);rw [this]
   congr 1
   ·
    congr 1;simp;omega
   simp only [Qas];cases b <;> simp [Nat.testBit_zero]
  have hlt:2 * acc+b.toNat < 2 ^ (k+1):=by rw [Yr];omega
  by_cases h7:k=7
  ·
   subst h7;rw [if_pos rfl,Qd8,ofNat_toNat (by simpa using hlt),hbits,ih 0 0 (by omega) (by simp)];simp only [Qas,Xs,Yh,Y8,Gh]
   congr 4
   omega
  rw [if_neg h7,ih _ (k+1) (by omega) hlt,hbits];simp only [Yh,Y8,Gh];rw [show k+1+l.length=k+(l.length+1) by omega]
theorem Qdk (l:List Bool):Qap (Qbo l)=l++Ye (8 * ((l.length+7) / 8) - l.length) false:=by
 have:=Qzq l 0 0 (by omega) (by simp);simpa [Qas,Qbo] using this
theorem Qci (l:List Bool):(Qbo l).length=(l.length+7) / 8:=by
 have:=congrArg Ur (Qdk l);rw [Qaw,Yp,Gi] at this;omega
theorem Qoj {o:List UInt8}{l:List Bool} (h:Qap o=l++Ye (8 * ((l.length+7) / 8) - l.length) false):o=Qbo l :=
 Qsc _ _ (by rw [h,Qdk])
theorem QDx (l:List Bool):(Qap (Qbo l)).take l.length=l:=by rw [Qdk];simp
theorem Qni (o:List UInt8):Qbo (Qap o)=o:=by
 refine (Qoj ?_).symm;rw [Qaw,show 8 * ((8 * o.length+7) / 8) - 8 * o.length=0 by omega];simp
theorem Qlv (l m:List Bool) (h:l.length % 8=0):Qbo (l++m)=Qbo l++Qbo m:=by
 refine (Qoj ?_).symm;rw [Qft,Qdk,Qdk,show 8 * ((l.length+7) / 8) - l.length=0 by omega,Ud,Yj,Yh,Yp]
 congr 3;omega
theorem Qpk (l:List Bool):Qbo (l++[false])=if l.length % 8=0 then Qbo l++[0] else Qbo l:=by
 symm
 refine Qoj ?_;have e:(l++[false]).length=l.length+1:=by simp
 rw [e];split
 ·
  rename_i h;rw [Qft,Qdk,show 8 * ((l.length+7) / 8) - l.length=0 by omega,Ud,Yj,Yh]
  congr 1
  rw [show 8 * ((l.length+1+7) / 8) - (l.length+1)=7 by omega];rfl
 rename_i h;rw [Qdk,Yh]
 congr 1
 rw [show 8 * ((l.length+7) / 8) - l.length=(8 * ((l.length+1+7) / 8) - (l.length+1))+1 by omega,List.replicate_succ];rfl
theorem Qzr (k j:Nat) (hk:k<=7) (hj:j<=7):(128 / 2 ^ k).testBit (7 - j)=decide (j=k):=by
 have:128 / 2 ^ k=2 ^ (7 - k):=by
  rw [show (128:Nat)=2 ^ 7 from rfl,Nat.pow_div hk (by omega)]
 rw [this,Nat.testBit_two_pow];by_cases h:j=k
 ·
  subst h;simp
 simp [h];omega
theorem QDy (l:List Bool) (y:UInt8) (hy:y.toNat=((Qbo (l++[false])).getD (l.length / 8) 0).toNat ||| 128 / 2 ^ (l.length % 8)) :
  Qbo (l++[true])=(Qbo (l++[false])).set (l.length / 8) y:=by
 symm
 refine Qoj ?_;have hol:(Qbo (l++[false])).length=(l.length+8) / 8:=by rw [Qci,Yp];rfl
 have hob:=Qdk (l++[false]);generalize Qbo (l++[false])=o at *;have e:(l++[true]).length=l.length+1:=by simp
 have e2:(l++[false]).length=l.length+1:=by simp
 rw [e];rw [e2] at hob;generalize hr:8 * ((l.length+1+7) / 8) - (l.length+1)=r at *;apply G8;intro j;by_cases hj:j < 8 * o.length
 ·
  rw [Qka _ j (by simpa using hj)];have h1:=Qka o j hj;rw [hob] at h1;by_cases hji:j / 8=l.length / 8
  ·
   have h2:(o.set (l.length / 8) y).getD (j / 8) 0=y:=by
    rw [Yb,hji,U6 (by omega)];rfl
   rw [h2,hy,Nat.testBit_or,Qzr _ _ (by omega) (by omega),<- hji];by_cases hjl:j=l.length
   ·
    subst hjl;simp
   have hm:¬ j % 8=l.length % 8:=by omega
   rw [decide_eq_false hm,Bool.or_false,<- h1];by_cases hlt:j < l.length
   ·
    rw [Yh,Yh,Yq hlt,Yq hlt]
   rw [Yl (by simp;omega),Yl (by simp;omega)];simp
  have h2:(o.set (l.length / 8) y).getD (j / 8) 0=o.getD (j / 8) 0:=by
   rw [Yb,Gm (fun h=>hji h.symm),Yb]
  rw [h2,<- h1];have hjl:¬ j=l.length:=by omega
  by_cases hlt:j < l.length
  ·
   rw [Yh,Yh,Yq hlt,Yq hlt]
  rw [Yl (by simp;omega),Yl (by simp;omega)];simp
 rw [Yx (by rw [Qaw];simp;omega),Yx];simp;omega
theorem Qpl (n v k:Nat) (h:k < n):(Qas n v).take (k+1)=(Qas n v).take k++[v.testBit (n - 1 - k)]:=by
 rw [Xm,Qhd n v k h];rfl
theorem Qhe (v i:Nat):(v / 2 ^ i) % 2=(v.testBit i).toNat:=by
 rw [Yw];rcases Xa (v / 2 ^ i) with h | h <;> rw [h] <;> rfl
def Qgt (l:List Bool) (at_ n:Nat):Nat×Int:=if l.length < at_+n then (0,10) else (numB ((l.drop at_).take n),0)
def unS:List Bool->Nat->Nat->Nat×Int
 | [],_,_=>(0,10)
 | false::_,_,n=>(n,0)
 | true::r,most,n=>if n=most then (0,3) else unS r most (n+1)
def bI (l:List Bool):List Int:=l.map fun b=>if b then 1 else 0
theorem Qbh (l:List Bool):(bI l).length=l.length:=by simp [bI]
theorem Qcr (l m:List Bool):bI (l++m)=bI l++bI m:=by simp [bI]
theorem Qnj {l:List Bool}{i:Nat} (h:i < l.length):(bI l).getD i 0=if l.getD i false then 1 else 0:=by
 simp [bI,Yb,Yc h]
theorem QOx (l:List Bool) (k:Nat):(bI l).drop k=bI (l.drop k):=by simp [bI,List.map_drop]
theorem QGf (l:List Bool) (k:Nat):(bI l).take k=bI (l.take k):=by simp [bI,List.map_take]
theorem Qzs (v j:Nat) (h:j < 8):(Qas 8 v).take (j+1)=(Qas 8 v).take j++[v.testBit (7 - j)]:=by
 rw [Xm,Qhd 8 v j h];rfl
theorem Qt1 (s:List UInt8) (hs:s.length<=100000000000) (w:World):Does Ya 19 #[Str s] w
  fun v w'=>∃ a cap,Heap w [] w' [U4 3 1 a (bI (Qap s)).length cap (Qat (bI (Qap s)))]/\v=.slice a (bI (Qap s)).length cap:=by
 refine En [Str s] 28 Tryz.func19 ?_;refine VS [0] ?_;refine VS [0,3] ?_;refine VS [0,3,4] ?_;refine Qac ?_;refine Qad [0,3,4] (fun m e w'=>∃ (i cap:Nat) (a:Option Addr),Is e [(0,Str s),(3,.slice a (bI (Qap (s.take i))).length cap),(4,.int .i64 i)]/\Heap w [] w' [U4 3 1 a (bI (Qap (s.take i))).length cap (Qat (bI (Qap (s.take i))))]/\i<=s.length/\m=s.length - i) s.length ?_ ?_
 ·
  refine Qs ?_;exact ⟨0,0,none,rfl,Qj8,by omega,rfl⟩
 rintro m e w1 ⟨i,cap,a,rfl,hH,hi,rfl⟩;refine VS [0,3,4,9] ?_;refine VD (fun h=>?_) (fun h=>?_)
 ·
  have hi':i < s.length:=by omega
  have htk:Qap (s.take (i+1))=Qap (s.take i)++Qas 8 (s.getD i 0).toNat:=by
   rw [Xm,Yc hi',G0,Qft,Qd8,Qj9,Yj,Yb,Yc hi',Xf]
  have hbl:(Qap (s.take i)).length=8 * i:=by rw [Qaw,X7];omega
  have hc8:=(s.getD i 0).toNat_lt;refine VC_skip ?_;refine VB ?_;generalize Qap (s.take i)=O at *;refine VS [0,3,4,5] ?_;refine Qac ?_;refine Qad [0,3,4,5] (fun m e w'=>∃ (j cap:Nat) (a:Option Addr),Is e [(0,Str s),(3,.slice a (bI (O++(Qas 8 (s.getD i 0).toNat).take j)).length cap),(4,.int .i64 i),(5,.int .i64 (7 - j))]/\Heap w [] w' [U4 3 1 a (bI (O++(Qas 8 (s.getD i 0).toNat).take j)).length cap (Qat (bI (O++(Qas 8 (s.getD i 0).toNat).take j)))]/\j<=8/\m=8 - j) 8 ?_ ?_
  ·
   refine Qs ?_;refine ⟨0,cap,a,?_,?_,by omega,rfl⟩
   ·
    rw [Gn,Yj];rfl
   rw [Gn,Yj];exact hH
  clear hH;rintro m e w2 ⟨j,cap,a,rfl,hH,hj,rfl⟩;refine VS [0,3,4,5,13] ?_;refine VD (fun h=>?_) (fun h=>?_)
  ·
   have hj8:j < 8:=by omega
   have hsu:=Qzs (s.getD i 0).toNat j hj8;refine VC_skip ?_;refine VB ?_;have hsh:shN IntKind.i64 ((7 - (j:Int)) % 18446744073709551616)=7 - j:=Qtk (by omega) (by simp [IntKind.bits];omega) (by decide);have hbit:=Qhe (s.getD i 0).toNat (7 - j);refine VQ [0,3,4,5] fun K hK=>?_;rw [hsh,Qgs];have hle:=Nat.div_le_self (s.getD i 0).toNat (2 ^ (7 - j));generalize (s.getD i 0).toNat / 2 ^ (7 - j)=q at *;refine ⟨⟨by omega,by omega⟩,Hf (by omega) (by omega),by omega,⟨by omega,by omega⟩,⟨by decide,by decide⟩,?_⟩;rw [show Hd 1=1 from rfl,Yf,Nat.and_one_is_mod,hbit];have hv:(((s.getD i 0).toNat.testBit (7 - j)).toNat:Int)=if (s.getD i 0).toNat.testBit (7 - j) then 1 else 0:=by cases (s.getD i 0).toNat.testBit (7 - j) <;> rfl
   have hn:bI (O++(Qas 8 (s.getD i 0).toNat).take (j+1))=bI (O++(Qas 8 (s.getD i 0).toNat).take j)++[(((s.getD i 0).toNat.testBit (7 - j)).toNat:Int)]:=by
    rw [hsu,<- Yh,Qcr,hv];rfl
   have hln:(bI (O++(Qas 8 (s.getD i 0).toNat).take j)).length=8 * i+j:=by rw [Qbh,Yp,hbl,X7,Qan];omega
   generalize (((s.getD i 0).toNat.testBit (7 - j)).toNat:Int)=v at *;generalize bI (O++(Qas 8 (s.getD i 0).toNat).take j)=OO at *;refine Qcd (xs:=[.tmp 24]) Yo sz3 rfl rfl rfl (by omega) ?_;refine Qs ?_;refine ⟨by simp [Gj],?_⟩;refine Qai ?_;refine Qs ?_;refine Qge hH 0 rfl Yo zi3 (fun h=>by (first | omega | (simp;done) | (simp;omega))) fun a' cap' w5 hc' hH2=>?_;(try refine Qs ?_);rw [<- hn] at hH2 ⊢;apply hK;clear hK;refine Qaj ?_;refine VS [0,3,4,5] ?_;refine Qab ?_;refine Qs ?_;exact ⟨8 - (j+1),by omega,j+1,cap',a',by rw [show (7:Int) - ((j+1:Nat):Int)=7 - (j:Int) - 1 by omega];rfl,hH2,by omega,rfl⟩
  obtain rfl:j=8:=by omega
  refine Qag rfl ?_;refine Qaj ?_;refine VS [0,3,4] ?_;refine Qab ?_;refine Qs ?_;have e8:(Qas 8 (s.getD i 0).toNat).take 8=Qas 8 (s.getD i 0).toNat:=List.take_of_length_le (by rw [Qan];omega);rw [e8] at hH;exact ⟨s.length - (i+1),by omega,i+1,cap,a,by rw [htk,<- e8];rfl,by rw [htk];exact hH,by omega,rfl⟩
 obtain rfl:i=s.length:=by omega
 rw [List.take_length] at *;refine Qag rfl ?_;refine VS [2] ?_;exact VC_ret (VX_ret1 rfl rfl ⟨a,cap,hH,rfl⟩)
theorem Qwn (l:List Bool) (a:Option Addr) (c:Nat) (hl:l.length<=64) (w:World) (hr:RS w a l.length 1 (Qat (bI l))) :
  Does Ya 85 #[.slice a l.length c] w fun v w'=>w'=w/\v=.int .u64 (numB l:Nat):=by
 refine En [.slice a l.length c] 20 Tryz.func85 ?_;refine VS [0] ?_;refine VS [0,3] ?_;refine VS [0,3,4] ?_;refine Qac ?_;refine Qad [0,3,4] (fun m e w'=>∃ (i:Nat),Is e [(0,.slice a l.length c),(3,.int .u64 (numB (l.take i):Nat)),(4,.int .i64 i)]/\Is w' w/\i<=l.length/\m=l.length - i) l.length ?_ ?_
 ·
  refine Qs ?_;exact ⟨0,rfl,rfl,by omega,rfl⟩
 rintro m e w' ⟨i,rfl,rfl,hi,rfl⟩;refine VS [0,3,4,8] ?_;refine VD (fun h=>?_) (fun h=>?_)
 ·
  have hi':i < l.length:=by omega
  have htk:numB (l.take (i+1))=2 * numB (l.take i)+(l.getD i false).toNat:=by
   rw [Xm,Yc hi',G0,Qpj,Yb,Yc hi',Xf]
  have hlt:=Qes (l.take (i+1));have hp:2 ^ (l.take (i+1)).length<=2 ^ 64:=Xn (by omega) (by rw [X7];omega);refine VC_skip ?_;refine VB ?_;obtain ⟨p,rfl⟩:=Qbj hr (by omega);have hc:=Qht hr (show i < (bI l).length by rw [Qbh];omega);rw [Qnj hi'] at hc;refine VQ [0,3,4] fun K hK=>?_;refine ⟨⟨by omega,by omega⟩,_,hc,?_⟩;(try refine Qs ?_)
  have he:((numB (l.take i):Int) * 2 % 18446744073709551616+(if l.getD i false=true then 1 else 0) % 18446744073709551616) % 18446744073709551616=((numB (l.take (i+1)):Nat):Int):=by
   rw [htk] at hlt ⊢;cases l.getD i false <;> simp only [Bool.toNat_true,Bool.toNat_false,Gy,if_true,if_false] at hlt ⊢ <;> omega
  rw [he];apply hK;clear hK;refine Qaj ?_;refine VS [0,3,4] ?_;refine Qab ?_;refine Qs ?_;exact ⟨l.length - (i+1),by omega,i+1,rfl,rfl,by omega,rfl⟩
 obtain rfl:i=l.length:=by omega
 rw [List.take_length];refine Qag rfl ?_;refine VS [2] ?_;exact VC_ret (VX_ret1 rfl rfl ⟨rfl,rfl⟩)
theorem QGg {α:Type} (A R:List α) (x b:α) {k:Nat} (hk:A.length=k):(A++(x::R)).take k++[b]++(A++(x::R)).drop (k+[b].length)=A++(b::R):=by
 subst hk;simp
theorem Qd0 (v n:Nat) (hv:v < 18446744073709551616) (hn:n<=64) (w:World):Does Ya 23 #[.int .u64 v,.int .i64 n] w
  fun r w'=>∃ g,Heap w [] w' [U4 3 1 (some ⟨g,0,none⟩) n n (Qat (bI (Qas n v)))]/\r=.tuple #[.slice (some ⟨g,0,none⟩) n n,.bool (decide (v / 2 ^ n=0))]:=by
 refine En [.int .u64 v,.int .i64 n] 33 Tryz.func23 ?_;refine VS [0,1] ?_;refine VQ [0,1,13] fun K hK=>?_
 suffices out:K [(0,.int .u64 v),(1,.int .i64 n),(13,.bool false)] w by
  refine ⟨fun h=>?_,fun h=>?_⟩
  ·
   have e:decide (64 < (n:Int))=false:=by simp;omega
   rw [e];exact out
  exact absurd h (by omega)
 apply hK;clear hK;refine Qaf rfl rfl (fun h=>by simp at h) (fun h=>VC_skip ?_);clear h;refine VQ [0,1,6] fun K hK=>?_;refine Qbi Yo zi3 ?_;refine Qs ?_;refine ⟨n,n,⟨rfl,rfl,by omega,by omega,by omega⟩,?_⟩;have hH:=(Hg w).row 3 (n:=n) (cap:=n) (sz:=1) (Ye n (.int .i64 0)) [] (by simp) (by simp) (Yu _) (by have:maxLen=9223372036854775807:=rfl;omega);rw [Yj] at hH;generalize w.alloc (Gp (Ye n (Uv .i64 0)).toArray 3)=w1 at *;generalize w.heap.size=g at *
 have hH:Heap w [] w1 [U4 3 1 (some ⟨g,0,none⟩) n n (Qat (Ye (n - 0) 0++bI (Qas 0 v)))]:=by
  have e:Qat (Ye (n - 0) 0++bI (Qas 0 v))=Ye n (Uv .i64 0):=by simp [Qas,bI,Qat]
  rw [e];exact hH
 (try refine Qs ?_);apply hK;clear hK;refine VS [0,6,7] ?_;refine Qac ?_;refine Qad [0,6,7] (fun m e w'=>∃ (j:Nat),Is e [(0,.int .u64 (v / 2 ^ j:Nat)),(6,.slice (some ⟨g,0,none⟩) n n),(7,.int .i64 ((n:Int) - 1 - j))]/\Heap w [] w' [U4 3 1 (some ⟨g,0,none⟩) n n (Qat (Ye (n - j) 0++bI (Qas j v)))]/\j<=n/\m=n - j) n ?_ ?_
 ·
  refine Qs ?_;exact ⟨0,by rw [Nat.pow_zero,Nat.div_one,show (n:Int) - 1 - ((0:Nat):Int)=(n:Int) - 1 by omega];rfl,hH,by omega,rfl⟩
 clear hH;rintro m e w2 ⟨j,rfl,hH,hj,rfl⟩;refine VS [0,6,7,19] ?_;refine VD (fun h=>?_) (fun h=>?_)
 ·
  have hjn:j < n:=by omega
  refine VC_skip ?_;refine VB ?_;have hbit:=Qhe v j;have hdiv:v / 2 ^ (j+1)=v / 2 ^ j / 2:=by rw [Yr,U7]
  have hq:v / 2 ^ j < 18446744073709551616:=Nat.lt_of_le_of_lt (Nat.div_le_self _ _) hv;generalize v / 2 ^ j=q at *;refine VQ [0,6,7] fun K hK=>?_;refine ⟨by omega,by omega,Hf (by omega) (by omega),⟨by omega,by omega⟩,?_⟩;have hto:((n:Int) - 1 - j).toNat=n - 1 - j:=by omega
  rw [hto];refine Qaa ?_;refine Qs ?_;refine Qaz hH 0 (o:=n - 1 - j) (vs:=[.int .i64 ((q:Int) % 2)]) rfl (by simp [Qbg]) rfl (by kernel_rfl) (by simp only [Gf,Qdm,Yp,Gi,Qbh,Qan];omega) (by simp [Xe]) fun w3 hH2=>?_;simp only [Yd] at hH2
  have hset:∀ (b:Int),b=(if v.testBit j then 1 else 0)->(Qat (Ye (n - j) 0++bI (Qas j v))).take (n - 1 - j)++[.int .i64 b]++(Qat (Ye (n - j) 0++bI (Qas j v))).drop (n - 1 - j+[Uv .i64 b].length)=Qat (Ye (n - (j+1)) 0++bI (Qas (j+1) v)):=by
   intro b hb
   have e1:Qat (Ye (n - j) 0++bI (Qas j v))=Ye (n - 1 - j) (.int .i64 0)++(.int .i64 0::Qat (bI (Qas j v))):=by
    rw [show n - j=(n - 1 - j)+1 by omega,List.replicate_succ'];simp [Qat]
   have e2:Qat (Ye (n - (j+1)) 0++bI (Qas (j+1) v))=Ye (n - 1 - j) (.int .i64 0)++(.int .i64 b::Qat (bI (Qas j v))):=by
    rw [show n - (j+1)=n - 1 - j by omega,hb];simp [Qat,Qas,bI]
   rw [e1,e2];exact QGg _ _ _ _ (by simp)
  have hb:(q:Int) % 2=(if v.testBit j then 1 else 0):=by
   cases hq2:v.testBit j <;> rw [hq2] at hbit <;> simp at hbit ⊢ <;> omega
  rw [hset _ hb] at hH2;(try refine Qs ?_);apply hK;clear hK;refine VS [0,6,7] ?_;refine Qaj ?_;refine VS [0,6,7] ?_;refine Qab ?_;refine Qs ?_;refine ⟨n - (j+1),by omega,j+1,?_,hH2,by omega,rfl⟩;rw [hdiv,show (n:Int) - 1 - ((j+1:Nat):Int)=(n:Int) - 1 - j - 1 by omega,show (q:Int) / 2 % 18446744073709551616=((q / 2:Nat):Int) by omega];rfl
 obtain rfl:j=n:=by omega
 refine Qag rfl ?_;refine VS [4,5] ?_;refine VC_ret (Qav rfl rfl rfl ⟨g,?_,?_⟩)
 ·
  rw [U8,Ud,Xs] at hH;exact hH
 have e:decide (((v / 2 ^ j:Nat):Int)=0)=decide (v / 2 ^ j=0):=decide_eq_decide.2 (by omega);rw [e]
def SL (w:World) (a:Option Addr) (n c:Nat) (xs:List Value):Prop:=RS w a n 1 xs/\n<=c/\∀ ad,a=some ad->ad.spot=none
theorem SL.cut {w:World}{a:Option Addr}{n c:Nat}{xs:List Value} (h:SL w a n c xs) (k m:Nat) (hk:k+m<=n):RS w (if c=k then a else a.map fun x=>x.add k) m 1 ((xs.drop k).take m):=by
 obtain ⟨h1,h2,h3⟩:=h;by_cases hc:c=k
 ·
  obtain rfl:m=0:=by omega
  rw [if_pos hc,Gn];exact ⟨rfl,fun _=>rfl,fun ad _ j u hu=>by simp at hu⟩
 rw [if_neg hc];cases a with
 | none =>
  have h4:=h1.2.1 rfl;obtain rfl:m=0:=by omega
  exact ⟨by simp,fun _=>rfl,fun ad hd=>by cases hd⟩
 | some ad =>
  have h4:=(h1.drop (h3 ad rfl) k (by omega)).take m (by omega);simpa using h4
def Qgp (ws ov:List Nat):Nat->Option Nat
 | 0=>none
 | n+1=>match Qgp ws ov n with
  | none=>if ov.getD n 0=0 then some n else none
  | some a=>if ov.getD n 0=0/\ws.getD n 0 < ws.getD a 0 then some n else some a
def Qdp (ws ov:List Nat):Nat:=(Qgp ws ov ws.length).getD 0
def Qgu (s:List Nat×List Nat):List Nat×List Nat :=
 let next:=s.1.length
 let a:=Qdp s.1 s.2
 let ov1:=s.2.set a next
 let b:=Qdp s.1 ov1
 (s.1++[s.1.getD a 0+s.1.getD b 0],ov1.set b next++[0])
def Qjq:Nat->List Nat×List Nat->List Nat×List Nat
 | 0,s=>s
 | k+1,s=>Qgu (Qjq k s)
def Qb7 (ov:List Nat):Nat->Nat->Nat
 | 0,_=>0
 | f+1,i=>if ov.getD i 0=0 then 0 else Qb7 ov f (ov.getD i 0)+1
def Qrc (w:List Nat):List Nat:=(Qjq (w.length - 1) (w,Ye w.length 0)).2
def Qco (w:List Nat):List Nat:=(Yg w.length).map fun i=>Qb7 (Qrc w) (2 * w.length) i
def maxL (l:List Nat):Nat:=l.foldl max 0
def Qk2 (most:Nat):Nat->List Nat->List Nat
 | 0,own=>Qco own
 | f+1,own=>if maxL (Qco own)<=most then Qco own else Qk2 most f (own.map fun x=>x / 2+1)
structure IsLeast (ws ov:List Nat) (a:Nat):Prop where
 lt:a < ws.length
 free:ov.getD a 0=0
 le:∀ i,i < ws.length->ov.getD i 0=0->ws.getD a 0 < ws.getD i 0∨(ws.getD a 0=ws.getD i 0/\a<=i)
theorem IsLeast.unique {ws ov:List Nat}{a b:Nat} (h:IsLeast ws ov a) (k:IsLeast ws ov b):a=b:=by
 have h1:=h.le b k.lt k.free;have h2:=k.le a h.lt h.free;omega
theorem Qis (ws ov:List Nat):∀ n,Qgp ws ov n=none->∀ i,i < n->ov.getD i 0≠0
 | 0,_,i,h=>by omega
 | n+1,h,i,hi=>by
  rw [Qgp] at h;cases hl:Qgp ws ov n with
  | none =>
   rw [hl] at h;simp only at h;split at h
   ·
    cases h
   rename_i h0;rcases Yn i n with h2 | h2
   ·
    exact Qis ws ov n hl i h2
   rw [show i=n by omega];exact h0
  | some a=>rw [hl] at h;simp only at h;split at h <;> cases h
theorem Qk3 (ws ov:List Nat):∀ n a,Qgp ws ov n=some a->a < n/\ov.getD a 0=0/\∀ i,i < n->ov.getD i 0=0->ws.getD a 0 < ws.getD i 0∨(ws.getD a 0=ws.getD i 0/\a<=i)
 | 0,a,h=>by cases h
 | n+1,a,h=>by
  rw [Qgp] at h;cases hl:Qgp ws ov n with
  | none =>
   rw [hl] at h;simp only at h;have hn:=Qis ws ov n hl;split at h
   ·
    rename_i h0;cases h;refine ⟨by omega,h0,fun i hi hf=>?_⟩;rcases Yn i n with h2 | h2
    ·
     exact absurd hf (hn i h2)
    right;rw [show i=n by omega];exact ⟨rfl,Yu _⟩
   cases h
  | some b =>
   rw [hl] at h;simp only at h;obtain ⟨h1,h2,h3⟩:=Qk3 ws ov n b hl;split at h
   ·
    rename_i h0;cases h;refine ⟨by omega,h0.1,fun i hi hf=>?_⟩;rcases Yn i n with h4 | h4
    ·
     have:=h3 i h4 hf;omega
    right;rw [show i=n by omega];exact ⟨rfl,Yu _⟩
   rename_i h0;cases h;refine ⟨by omega,h2,fun i hi hf=>?_⟩;rcases Yn i n with h4 | h4
   ·
    exact h3 i h4 hf
   obtain rfl:i=n:=by omega
   rcases Yn (ws.getD i 0) (ws.getD a 0) with h5 | h5
   ·
    exact absurd ⟨hf,h5⟩ h0
   omega
theorem Qwo {ws ov:List Nat}{i:Nat} (hi:i < ws.length) (hf:ov.getD i 0=0):IsLeast ws ov (Qdp ws ov):=by
 unfold Qdp;cases hl:Qgp ws ov ws.length with
 | none=>exact absurd hf (Qis ws ov _ hl i hi)
 | some a =>
  obtain ⟨h1,h2,h3⟩:=Qk3 ws ov _ a hl;exact ⟨h1,h2,h3⟩
def Qb3 (f:Nat->Nat):Nat->Nat
 | 0=>0
 | n+1=>Qb3 f n+f n
theorem Qc2 {f g:Nat->Nat}:∀ n,(∀ i,i < n->f i=g i)->Qb3 f n=Qb3 g n
 | 0,_=>rfl
 | n+1,h=>by rw [Qb3,Qb3,Qc2 n fun i hi=>h i (by omega),h n (by omega)]
theorem Qjr (f g:Nat->Nat):∀ n,Qb3 (fun i=>f i+g i) n=Qb3 f n+Qb3 g n
 | 0=>rfl
 | n+1=>by rw [Qb3,Qb3,Qb3,Qjr f g n];omega
theorem Qia (a c:Nat):∀ n,Qb3 (fun i=>if i=a then c else 0) n=if a < n then c else 0
 | 0=>by simp [Qb3]
 | n+1=>by
  rw [Qb3,Qia a c n];by_cases h1:a < n
  ·
   rw [if_pos h1,if_neg (by omega),if_pos (by omega)];rfl
  by_cases h2:n=a
  ·
   subst h2;simp
  rw [if_neg h1,if_neg h2,if_neg (by omega)]
theorem Qok (f:Nat->Nat):∀ n i,i < n->f i<=Qb3 f n
 | 0,i,h=>by omega
 | n+1,i,h=>by
  rw [Qb3];rcases Yn i n with h1 | h1
  ·
   have:=Qok f n i h1;omega
  rw [show i=n by omega];omega
theorem Qol (f:Nat->Nat) (c:Nat):∀ n,(∀ i,i < n->f i<=c)->Qb3 f n<=n * c
 | 0,_=>by simp [Qb3]
 | n+1,h=>by
  rw [Qb3,U9];have h1:=Qol f c n fun i hi=>h i (by omega);have h2:=h n (by omega);omega
theorem Qwp {f:Nat->Nat}{n a b:Nat} (ha:a < n) (hb:b < n) (hab:a≠b):f a+f b<=Qb3 f n:=by
 have e:Qb3 f n=Qb3 (fun i=>if i=a then f a else 0) n+Qb3 (fun i=>if i=a then 0 else f i) n:=by
  rw [<- Qjr];exact Qc2 n fun i _=>by split <;> simp_all
 have h2:=Qok (fun i=>if i=a then 0 else f i) n b hb;simp only [if_neg (Ne.symm hab)] at h2;rw [e,Qia,if_pos ha];omega
theorem Qjs {f:Nat->Nat}{n a b:Nat} (ha:a < n) (hb:b < n) (hab:a≠b):Qb3 (fun i=>if i=a∨i=b then 0 else f i) n+(f a+f b)=Qb3 f n:=by
 have e:Qb3 f n=Qb3 (fun i=>if i=a∨i=b then 0 else f i) n+(Qb3 (fun i=>if i=a then f a else 0) n+Qb3 (fun i=>if i=b then f b else 0) n):=by
  rw [<- Qjr,<- Qjr];refine Qc2 n fun i _=>?_;by_cases h1:i=a
  ·
   subst h1;simp [hab]
  by_cases h2:i=b
  ·
   subst h2;simp [h1]
  simp [h1,h2]
 rw [e,Qia,Qia,if_pos ha,if_pos hb]
def fib:Nat->Nat
 | 0=>0
 | 1=>1
 | n+2=>fib (n+1)+fib n
theorem Qt2:∀ n,fib n<=fib (n+1)
 | 0=>by decide
 | n+1=>by rw [fib];omega
theorem QBk {m n:Nat} (h:m<=n):fib m<=fib n:=by
 induction n with
 | zero=>rw [show m=0 by omega];exact Yu _
 | succ n ih =>
  rcases Yn m (n+1) with h1 | h1
  ·
   exact Ga (ih (by omega)) (Qt2 n)
  rw [show m=n+1 by omega];exact Yu _
structure Grown (w:List Nat) (k:Nat) (ws ov:List Nat) (h:Nat->Nat):Prop where
 lws:ws.length=w.length+k
 lov:ov.length=w.length+k
 up:∀ i,i < w.length+k->ov.getD i 0=0∨(i < ov.getD i 0/\w.length<=ov.getD i 0/\ov.getD i 0 < w.length+k)
 roots:Qb3 (fun i=>if ov.getD i 0=0 then 1 else 0) (w.length+k)+k=w.length
 weight:Qb3 (fun i=>if ov.getD i 0=0 then ws.getD i 0 else 0) (w.length+k)=Qb3 (fun i=>w.getD i 0) w.length
 two:∀ j,w.length<=j->j < w.length+k->∃ a b,a < j/\b < j/\a≠b/\ov.getD a 0=j/\ov.getD b 0=j/\∀ i,ov.getD i 0=j->i=a∨i=b
 hup:∀ i,i < w.length+k->ov.getD i 0≠0->h i+1<=h (ov.getD i 0)
 hfib:∀ i,i < w.length+k->fib (h i+2)<=ws.getD i 0
 deep:∀ i,i < w.length+k->1<=h i->∃ y,y < w.length+k/\ov.getD y 0≠0/\fib (h i+1)<=ws.getD y 0
 order:∀ y r,y < w.length+k->r < w.length+k->ov.getD y 0≠0->ov.getD r 0=0->ws.getD y 0<=ws.getD r 0
theorem Qd1 (n i:Nat):(Ye n (0:Nat)).getD i 0=0:=by
 rw [Yb,List.getElem?_replicate];split <;> rfl
theorem Grown.start (w:List Nat) (h2:1<=w.length) (h1:∀ i,i < w.length->1<=w.getD i 0):Grown w 0 w (Ye w.length 0) (fun _=>0) where
 lws:=rfl
 lov:=by simp
 up i _:=.inl (Qd1 _ _)
 roots:=by
  have:Qb3 (fun i=>if (Ye w.length 0).getD i 0=0 then 1 else 0) w.length=Qb3 (fun _=>1) w.length:=Qc2 _ fun i _=>by rw [if_pos (Qd1 _ _)]
  have h:∀ n,Qb3 (fun _=>1) n=n:=fun n=>by induction n with
   | zero=>rfl
   | succ n ih=>rw [Qb3,ih]
  rw [Ue,Ue,this,h]
 weight:=Qc2 _ fun i _=>by rw [if_pos (Qd1 _ _)]
 two j h3 h4:=by omega
 hup i hi h:=absurd (Qd1 _ _) h
 hfib i hi:=by have:=h1 i (by simpa using hi);simpa [fib] using this
 deep i hi h:=by simp at h
 order y r _ _ h:=absurd (Qd1 _ _) h
theorem Qc8 {l:List Nat}{i v:Nat} (h:i < l.length):(l.set i v).getD i 0=v:=by
 rw [Yb,U6 h];rfl
theorem Qda {l:List Nat}{i j v:Nat} (h:i≠j):(l.set i v).getD j 0=l.getD j 0:=by
 rw [Yb,Gm h,Yb]
theorem Qc3 {l m:List Nat}{i:Nat} (h:i < l.length):(l++m).getD i 0=l.getD i 0:=by
 rw [Yb,Yq h,Yb]
theorem Qjt {l:List Nat}{x:Nat}:(l++[x]).getD l.length 0=x:=by
 rw [Yb,Yl (Yu _),U8];rfl
theorem Qk4 {l:List Nat}{i:Nat} (h:l.length<=i):l.getD i 0=0:=by
 rw [Yb,Yx h];rfl
theorem Qk5 {ov:List Nat}:∀ n,0 < Qb3 (fun i=>if ov.getD i 0=0 then 1 else 0) n->∃ i,i < n/\ov.getD i 0=0
 | 0,h=>by simp [Qb3] at h
 | n+1,h=>by
  rw [Qb3] at h;by_cases h0:ov.getD n 0=0
  ·
   exact ⟨n,by omega,h0⟩
  rw [if_neg h0] at h;obtain ⟨i,hi,hf⟩:=Qk5 n (by omega);exact ⟨i,by omega,hf⟩
theorem Grown.pick {w:List Nat}{k:Nat}{ws ov:List Nat}{h:Nat->Nat} (g:Grown w k ws ov h) (hk:k+1 < w.length) :
  IsLeast ws ov (Qdp ws ov)/\IsLeast ws (ov.set (Qdp ws ov) ws.length) (Qdp ws (ov.set (Qdp ws ov) ws.length))/\Qdp ws (ov.set (Qdp ws ov) ws.length)≠Qdp ws ov/\ov.getD (Qdp ws (ov.set (Qdp ws ov) ws.length)) 0=0:=by
 have hr:=g.roots;have hlw:=g.lws;have hlo:=g.lov;obtain ⟨i,hi,hf⟩:=Qk5 (ov:=ov) (w.length+k) (by omega);have ha:=Qwo (ws:=ws) (ov:=ov) (by omega) hf;generalize Qdp ws ov=a at *;have ha1:=ha.lt
 obtain ⟨j,hj,hf2⟩:=Qk5 (ov:=ov.set a ws.length) (w.length+k) (by
  have e:Qb3 (fun i=>if (ov.set a ws.length).getD i 0=0 then 1 else 0) (w.length+k)+Qb3 (fun i=>if i=a then 1 else 0) (w.length+k)=Qb3 (fun i=>if ov.getD i 0=0 then 1 else 0) (w.length+k):=by
   rw [<- Qjr];refine Qc2 _ fun i _=>?_;by_cases hia:i=a
   ·
    subst hia;rw [Qc8 (by omega),if_neg (by omega),if_pos rfl,if_pos ha.free]
   rw [Qda (fun x=>hia x.symm),if_neg hia];rfl
  rw [Qia,if_pos (by omega)] at e;omega)
 have hb:=Qwo (ws:=ws) (ov:=ov.set a ws.length) (by omega) hf2;generalize Qdp ws (ov.set a ws.length)=b at *
 have hne:b≠a:=fun e=>by
  have:=hb.free;rw [e,Qc8 (by omega)] at this;omega
 exact ⟨ha,hb,hne,by rw [<- Qda (v:=ws.length) (fun x=>hne x.symm)];exact hb.free⟩
theorem Grown.step {w:List Nat}{k:Nat}{ws ov:List Nat}{h:Nat->Nat} (g:Grown w k ws ov h) (hk:k+1 < w.length) :
  ∃ h',Grown w (k+1) (Qgu (ws,ov)).1 (Qgu (ws,ov)).2 h':=by
 obtain ⟨ha,hb,hne,hbf⟩:=g.pick hk;unfold Qgu;simp only;generalize Qdp ws ov=a at *;generalize Qdp ws (ov.set a ws.length)=b at *;have hlw:=g.lws;have hlo:=g.lov;have ha1:=ha.lt;have hb1:=hb.lt;have haf:=ha.free;have hwab:ws.getD a 0<=ws.getD b 0:=by have:=ha.le b hb1 hbf;omega
 have hbl:∀ i,i < ws.length->i≠a->ov.getD i 0=0->ws.getD b 0<=ws.getD i 0:=fun i hi hia hf=>by
  have:=hb.le i hi (by rw [Qda (fun x=>hia x.symm)];exact hf);omega
 rw [hlw] at hb ha1 hb1 hbl ⊢;generalize hn:w.length+k=n at *
 have o1:∀ i,i < n->((ov.set a n).set b n++[0]).getD i 0=if i=a∨i=b then n else ov.getD i 0:=fun i hi=>by
  rw [Qc3 (by simp;omega)];by_cases e1:i=b
  ·
   subst e1;rw [Qc8 (by simp;omega),if_pos (.inr rfl)]
  rw [Qda (fun x=>e1 x.symm)];by_cases e2:i=a
  ·
   subst e2;rw [Qc8 (by omega),if_pos (.inl rfl)]
  rw [Qda (fun x=>e2 x.symm),if_neg (by simp [e1,e2])]
 have o2:((ov.set a n).set b n++[0]).getD n 0=0:=by
  have:=Qjt (l:=(ov.set a n).set b n) (x:=0);simp [hlo]
 have w1:∀ i,i < n->(ws++[ws.getD a 0+ws.getD b 0]).getD i 0=ws.getD i 0:=fun i hi=>Qc3 (by omega)
 have w2:(ws++[ws.getD a 0+ws.getD b 0]).getD n 0=ws.getD a 0+ws.getD b 0:=by
  have:=Qjt (l:=ws) (x:=ws.getD a 0+ws.getD b 0)
  rwa [hlw] at this
 have lo:((ov.set a n).set b n++[0]).length=n+1:=by simp [hlo]
 have lw:(ws++[ws.getD a 0+ws.getD b 0]).length=n+1:=by simp [hlw]
 generalize (ov.set a n).set b n++[0]=ov' at *;generalize ws++[ws.getD a 0+ws.getD b 0]=ws' at *;have hup:=g.up;have hroots:=g.roots;have hweight:=g.weight;have htwo:=g.two;have hhup:=g.hup;have hfib:=g.hfib;have hdeep:=g.deep;have horder:=g.order;rw [hn] at hup hroots hweight htwo hhup hfib hdeep horder;clear g;have hnk:n=w.length+k:=hn.symm;refine ⟨fun i=>if i=n then max (h a) (h b)+1 else h i,?_⟩;have en:w.length+(k+1)=n+1:=by omega
 refine ⟨by rw [lw,en],by rw [lo,en],?_,?_,?_,?_,?_,?_,?_,?_⟩
 ·
  intro i hi;rw [en] at hi ⊢;by_cases e:i=n
  ·
   subst e;exact .inl o2
  rw [o1 i (by omega)];split
  ·
   right;omega
  have:=hup i (by omega);omega
 ·
  rw [en,Qb3,o2,if_pos rfl]
  have e:Qb3 (fun i=>if ov'.getD i 0=0 then 1 else 0) n=Qb3 (fun i=>if i=a∨i=b then 0 else if ov.getD i 0=0 then 1 else 0) n:=Qc2 n fun i hi=>by
   rw [o1 i hi];by_cases e:i=a∨i=b
   ·
    rw [if_pos e,if_pos e,if_neg (by omega)]
   rw [if_neg e,if_neg e]
  have e2:=Qjs (f:=fun i=>if ov.getD i 0=0 then 1 else 0) ha1 hb1 (Ne.symm hne);simp only [if_pos haf,if_pos hbf] at e2;omega
 ·
  rw [en,Qb3,o2,if_pos rfl,w2]
  have e:Qb3 (fun i=>if ov'.getD i 0=0 then ws'.getD i 0 else 0) n=Qb3 (fun i=>if i=a∨i=b then 0 else if ov.getD i 0=0 then ws.getD i 0 else 0) n:=Qc2 n fun i hi=>by
   rw [o1 i hi,w1 i hi];by_cases e:i=a∨i=b
   ·
    rw [if_pos e,if_pos e,if_neg (by omega)]
   rw [if_neg e,if_neg e]
  have e2:=Qjs (f:=fun i=>if ov.getD i 0=0 then ws.getD i 0 else 0) ha1 hb1 (Ne.symm hne);simp only [if_pos haf,if_pos hbf] at e2;omega
 ·
  intro j hj1 hj2;rw [en] at hj2;by_cases e:j=n
  ·
   subst e;refine ⟨a,b,ha1,hb1,Ne.symm hne,by rw [o1 a ha1,if_pos (.inl rfl)],by rw [o1 b hb1,if_pos (.inr rfl)],fun i hi=>?_⟩;rcases Yn i j with h1 | h1
   ·
    rw [o1 i h1] at hi;split at hi
    ·
     assumption
    have:=hup i h1;omega
   rcases Yn i (j+1) with h2 | h2
   ·
    rw [show i=j by omega,o2] at hi;omega
   rw [Qk4 (by omega)] at hi;omega
  obtain ⟨x,y,hx,hy,hxy,hox,hoy,hall⟩:=htwo j hj1 (by omega);have hxa:¬ (x=a∨x=b):=fun e=>by rcases e with rfl | rfl <;> omega
  have hya:¬ (y=a∨y=b):=fun e=>by rcases e with rfl | rfl <;> omega
  refine ⟨x,y,hx,hy,hxy,by rw [o1 x (by omega),if_neg hxa];exact hox,by rw [o1 y (by omega),if_neg hya];exact hoy,fun i hi=>?_⟩;rcases Yn i n with h1 | h1
  ·
   rw [o1 i h1] at hi;split at hi
   ·
    omega
   exact hall i hi
  rcases Yn i (n+1) with h2 | h2
  ·
   rw [show i=n by omega,o2] at hi;omega
  rw [Qk4 (by omega)] at hi;omega
 ·
  intro i hi hne0;rw [en] at hi;have hin:i≠n:=fun e=>by rw [e,o2] at hne0;exact hne0 rfl
  rw [o1 i (by omega)] at hne0 ⊢;rw [if_neg hin];by_cases e:i=a∨i=b
  ·
   rw [if_pos e,if_pos rfl];rcases e with rfl | rfl <;> omega
  rw [if_neg e] at hne0 ⊢;have h1:=hup i (by omega);rw [if_neg (by omega)];exact hhup i (by omega) hne0
 ·
  intro i hi;rw [en] at hi;by_cases e:i=n
  ·
   subst e;rw [if_pos rfl,w2]
   have key:∀ x y,x < i->y < i->ov.getD x 0=0->ov.getD y 0=0->fib (h x+3)<=ws.getD x 0+ws.getD y 0:=fun x y hx hy hox hoy=>by
    have h1:=hfib x hx
    have h2:fib (h x+1)<=ws.getD y 0:=by
     rcases Nat.eq_zero_or_pos (h x) with h0 | h0
     ·
      have:=hfib y hy;refine Ga (QBk ?_) this;omega
     obtain ⟨z,hz1,hz2,hz3⟩:=hdeep x hx h0;exact Ga hz3 (horder z y hz1 hy hz2 hoy)
    rw [show h x+3=(h x+1)+2 from rfl,fib];have:fib (h x+1+1)=fib (h x+2):=rfl;omega
   rcases Nat.le_total (h a) (h b) with h1 | h1
   ·
    rw [Nat.max_eq_right h1];have:=key b a hb1 ha1 hbf haf;rw [Nat.add_comm (ws.getD a 0)];exact this
   rw [Nat.max_eq_left h1];exact key a b ha1 hb1 haf hbf
  rw [if_neg e,w1 i (by omega)];exact hfib i (by omega)
 ·
  intro i hi hh;rw [en] at hi ⊢;by_cases e:i=n
  ·
   subst e;rw [if_pos rfl];rcases Nat.le_total (h a) (h b) with h1 | h1
   ·
    rw [Nat.max_eq_right h1];exact ⟨b,by omega,by rw [o1 b hb1,if_pos (.inr rfl)];omega,by rw [w1 b hb1];exact hfib b hb1⟩
   rw [Nat.max_eq_left h1];exact ⟨a,by omega,by rw [o1 a ha1,if_pos (.inl rfl)];omega,by rw [w1 a ha1];exact hfib a ha1⟩
  rw [if_neg e] at hh ⊢;obtain ⟨y,hy1,hy2,hy3⟩:=hdeep i (by omega) hh;refine ⟨y,by omega,?_,by rw [w1 y hy1];exact hy3⟩;rw [o1 y hy1];split
  ·
   omega
  exact hy2
 intro y r hy hr hoy hor;rw [en] at hy hr;have hyn:y≠n:=fun e=>by rw [e,o2] at hoy;exact hoy rfl
 rw [w1 y (by omega)]
 have hyb:ws.getD y 0<=ws.getD b 0:=by
  rw [o1 y (by omega)] at hoy;by_cases e:y=a∨y=b
  ·
   rcases e with rfl | rfl <;> omega
  rw [if_neg e] at hoy;exact horder y b (by omega) hb1 hoy hbf
 by_cases e:r=n
 ·
  subst e;rw [w2];omega
 rw [w1 r (by omega)];rw [o1 r (by omega)] at hor;by_cases e2:r=a∨r=b
 ·
  rw [if_pos e2] at hor;omega
 rw [if_neg e2] at hor;have:=hbl r (by omega) (fun x=>e2 (.inl x)) hor;omega
theorem Qlx (w:List Nat) (h1:∀ i,i < w.length->1<=w.getD i 0):∀ k,k+1<=w.length->∃ h,Grown w k (Qjq k (w,Ye w.length 0)).1 (Qjq k (w,Ye w.length 0)).2 h
 | 0,hk=>⟨_,Grown.start w (by omega) h1⟩
 | k+1,hk=>by
  obtain ⟨h,g⟩:=Qlx w h1 k (by omega);exact g.step (by omega)
section
variable {w:List Nat}{k:Nat}{ws ov:List Nat}{h:Nat->Nat}
theorem Grown.last (g:Grown w k ws ov h) (hk:k+1=w.length):ov.getD (w.length+k - 1) 0=0:=by
 have:=g.up (w.length+k - 1) (by omega);omega
theorem Grown.root (g:Grown w k ws ov h) (hk:k+1=w.length) {i:Nat} (hi:i < w.length+k) (hf:ov.getD i 0=0):i=w.length+k - 1:=by
 by_cases e:i=w.length+k - 1
 ·
  exact e
 have h1:=Qwp (f:=fun i=>if ov.getD i 0=0 then 1 else 0) (n:=w.length+k) hi (show w.length+k - 1 < w.length+k by omega) e;simp only [if_pos hf,if_pos (g.last hk)] at h1;have:=g.roots;omega
theorem Grown.depth_h (g:Grown w k ws ov h) (hk:k+1=w.length):∀ f i,i < w.length+k->w.length+k - i<=f->Qb7 ov f i+h i<=h (w.length+k - 1)
 | 0,i,hi,hf=>by omega
 | f+1,i,hi,hf=>by
  rw [Qb7];split
  ·
   rename_i h0;rw [<- g.root hk hi h0];omega
  rename_i h0;have h1:=g.up i hi;have h2:=g.hup i hi h0;have:=g.depth_h hk f (ov.getD i 0) (by omega) (by omega);omega
theorem Grown.fuel (g:Grown w k ws ov h):∀ f f' i,i < w.length+k->w.length+k - i<=f->w.length+k - i<=f'->Qb7 ov f i=Qb7 ov f' i
 | 0,_,i,hi,h1,_=>by omega
 | _+1,0,i,hi,_,h2=>by omega
 | f+1,f'+1,i,hi,h1,h2=>by
  rw [Qb7,Qb7];split
  ·
   rfl
  rename_i h0;have h3:=g.up i hi;rw [g.fuel f f' (ov.getD i 0) (by omega) (by omega) (by omega)]
theorem Grown.dep (g:Grown w k ws ov h) {i:Nat} (f:Nat) (hf:w.length+k<=f) (hi:i < w.length+k) (h0:ov.getD i 0≠0):Qb7 ov f i=Qb7 ov f (ov.getD i 0)+1:=by
 have h3:=g.up i hi;cases f with
 | zero=>omega
 | succ f =>
  conv=>lhs;rw [Qb7]
  rw [if_neg h0,g.fuel f (f+1) (ov.getD i 0) (by omega) (by omega) (by omega)]
theorem Grown.kraft (g:Grown w k ws ov h) (hk:k+1=w.length) (f:Nat) (hf:w.length+k<=f) (N:Nat) (hN:∀ i,i < w.length+k->Qb7 ov f i<=N) :
  Qb3 (fun i=>2 ^ (N - Qb7 ov f i)) w.length=2 ^ N:=by
 have hr:=g.last hk
 have step:∀ j,w.length<=j->j < w.length+k->Qb3 (fun i=>if ov.getD i 0=0∨j+1<=ov.getD i 0 then 2 ^ (N - Qb7 ov f i) else 0) (j+1)=Qb3 (fun i=>if ov.getD i 0=0∨j<=ov.getD i 0 then 2 ^ (N - Qb7 ov f i) else 0) j:=fun j h1 h2=>by
  obtain ⟨a,b,ha,hb,hab,hoa,hob,hall⟩:=g.two j h1 h2;have hda:=g.dep f hf (i:=a) (by omega) (by omega);have hdb:=g.dep f hf (i:=b) (by omega) (by omega);have hNa:=hN a (by omega);rw [hoa] at hda;rw [hob] at hdb;have hj:=g.up j h2;rw [Qb3,if_pos (by omega)];have e:=Qjs (f:=fun i=>if ov.getD i 0=0∨j<=ov.getD i 0 then 2 ^ (N - Qb7 ov f i) else 0) ha hb hab;rw [if_pos (by omega),if_pos (by omega),hda,hdb] at e;rw [<- e]
  have e2:2 ^ (N - Qb7 ov f j)=2 ^ (N - (Qb7 ov f j+1))+2 ^ (N - (Qb7 ov f j+1)):=by
   rw [show N - Qb7 ov f j=(N - (Qb7 ov f j+1))+1 by omega,Yr];omega
  rw [e2]
  congr 1
  refine Qc2 j fun i hi=>?_;by_cases e3:i=a∨i=b
  ·
   rw [if_pos e3,if_neg (by rcases e3 with rfl | rfl <;> omega)]
  rw [if_neg e3];by_cases e4:ov.getD i 0=0∨j<=ov.getD i 0
  ·
   rw [if_pos e4,if_pos];have:ov.getD i 0≠j:=fun e5=>e3 (hall i e5);omega
  rw [if_neg e4,if_neg (by omega)]
 have all:∀ d,d<=k->Qb3 (fun i=>if ov.getD i 0=0∨w.length+d<=ov.getD i 0 then 2 ^ (N - Qb7 ov f i) else 0) (w.length+d)=Qb3 (fun i=>if ov.getD i 0=0∨w.length<=ov.getD i 0 then 2 ^ (N - Qb7 ov f i) else 0) w.length:=fun d=>by
  induction d with
  | zero=>intro _;rfl
  | succ d ih=>intro hd;rw [<- ih (by omega)];exact step (w.length+d) (by omega) (by omega)
 have h1:=all k (Yu _)
 have e1:Qb3 (fun i=>if ov.getD i 0=0∨w.length+k<=ov.getD i 0 then 2 ^ (N - Qb7 ov f i) else 0) (w.length+k)=Qb3 (fun i=>if i=w.length+k - 1 then 2 ^ N else 0) (w.length+k):=by
  refine Qc2 _ fun i hi=>?_;have h2:=g.up i hi;by_cases e:i=w.length+k - 1
  ·
   subst e;rw [if_pos (.inl hr),if_pos rfl]
   have:Qb7 ov f (w.length+k - 1)=0:=by
    cases f with
    | zero=>rfl
    | succ f=>rw [Qb7,if_pos hr]
   rw [this];rfl
  rw [if_neg e,if_neg];rintro (h3 | h3)
  ·
   exact e (g.root hk hi h3)
  omega
 rw [e1,Qia,if_pos (by omega)] at h1;rw [h1];refine Qc2 _ fun i hi=>?_;have h2:=g.up i (by omega);rw [if_pos (by omega)]
theorem Grown.total (g:Grown w k ws ov h) (hk:k+1=w.length):fib (h (w.length+k - 1)+2)<=Qb3 (fun i=>w.getD i 0) w.length:=by
 have h1:=g.hfib (w.length+k - 1) (by omega);have h2:=Qok (fun i=>if ov.getD i 0=0 then ws.getD i 0 else 0) (w.length+k) (w.length+k - 1) (by omega);simp only [if_pos (g.last hk)] at h2;rw [<- g.weight];omega
end
def Qcn:List Nat->Nat
 | []=>0
 | x::l=>2 ^ (20 - x)+Qcn l
theorem Qly (l m:List Nat):Qcn (l++m)=Qcn l+Qcn m:=by
 induction l with
 | nil=>simp [Qcn]
 | cons x l ih=>rw [Ys,Qcn,Qcn,ih];omega
theorem Qkb (f:Nat->Nat):∀ n,Qcn ((Yg n).map f)=Qb3 (fun i=>2 ^ (20 - f i)) n
 | 0=>rfl
 | n+1=>by rw [Gd,List.map_append,Qly,Qkb f n,Qb3];rfl
theorem Qwq {l:List Nat}{m:Nat}:∀ a,l.foldl max a<=m ↔ a<=m/\∀ x∈l,x<=m:=by
 induction l with
 | nil=>intro a;simp
 | cons x l ih=>intro a;rw [List.foldl_cons,ih];simp only [Ut,forall_eq_or_imp,Nat.max_le,and_assoc]
theorem Qit {l:List Nat}{m:Nat}:maxL l<=m ↔ ∀ x∈l,x<=m:=by rw [maxL,Qwq];simp
theorem Qfu (w:List Nat):(Qco w).length=w.length:=by simp [Qco]
theorem Qwr {w:List Nat} (h2:2<=w.length) (h1:∀ x∈w,1<=x) {m:Nat} (hm:maxL (Qco w)<=m) (hm20:m<=20) :
  (∀ x∈Qco w,1<=x/\x<=m)/\Qcn (Qco w)=1048576:=by
 obtain ⟨h,g⟩:=Qlx w (fun i hi=>h1 _ (by rw [Yb,Yc hi];exact Y0 hi)) (w.length - 1) (by omega);have hmax:=Qit.1 hm;have hov:(Qjq (w.length - 1) (w,Ye w.length 0)).2=Qrc w:=rfl;rw [hov] at g;have hk:w.length - 1+1=w.length:=by omega
 have hdep:∀ i,i < w.length->Qb7 (Qrc w) (2 * w.length) i∈Qco w:=fun i hi=>Y6.2 ⟨i,by simpa using hi,rfl⟩;constructor
 ·
  intro x hx;refine ⟨?_,hmax x hx⟩;obtain ⟨i,hi,rfl⟩:=Y6.1 hx;have hi:i < w.length:=by simpa using hi
  by_cases h0:(Qrc w).getD i 0=0
  ·
   have:=g.root hk (by omega) h0;omega
  rw [g.dep (2 * w.length) (by omega) (by omega) h0];omega
 have hN:∀ i,i < w.length+(w.length - 1)->Qb7 (Qrc w) (2 * w.length) i<=20:=by
  intro i
  induction i using Nat.strongRecOn with
  | _ i ih =>
   intro hi;rcases Yn i w.length with h3 | h3
   ·
    have:=hmax _ (hdep i h3);omega
   obtain ⟨a,b,ha,hb,hab,hoa,hob,hall⟩:=g.two i h3 hi;have h4:=ih a ha (by omega);have:=g.dep (2 * w.length) (by omega) (i:=a) (by omega) (by omega);rw [hoa] at this;omega
 have hk20:=g.kraft hk (2 * w.length) (by omega) 20 hN;rw [Qco,Qkb];exact hk20
theorem QVy:fib 15=610:=by decide
theorem Qnk {w:List Nat} (h2:2<=w.length) (h258:w.length<=258) (h1:∀ x∈w,1<=x/\x<=2):maxL (Qco w)<=12:=by
 have hget:∀ i,i < w.length->w.getD i 0∈w:=fun i hi=>by rw [Yb,Yc hi];exact Y0 hi
 obtain ⟨h,g⟩:=Qlx w (fun i hi=>(h1 _ (hget i hi)).1) (w.length - 1) (by omega);have hov:(Qjq (w.length - 1) (w,Ye w.length 0)).2=Qrc w:=rfl;rw [hov] at g;have hk:w.length - 1+1=w.length:=by omega
 have ht:=g.total hk;have ht2:=Qol (fun i=>w.getD i 0) 2 w.length fun i hi=>(h1 _ (hget i hi)).2
 have hh:h (w.length+(w.length - 1) - 1)<=12:=by
  rcases Yn 12 (h (w.length+(w.length - 1) - 1)) with h3 | h3
  ·
   have:=QBk (show 15<=h (w.length+(w.length - 1) - 1)+2 by omega);rw [QVy] at this;omega
  exact h3
 refine Qit.2 fun x hx=>?_;obtain ⟨i,hi,rfl⟩:=Y6.1 hx;have hi:i < w.length:=by simpa using hi
 have:=g.depth_h hk (2 * w.length) i (by omega) (by omega);omega
def bnd:Nat->Nat
 | 0=>2
 | k+1=>2 ^ k+2
theorem QBl {t x:Nat} (h:x<=bnd (t+1)):x / 2+1<=bnd t:=by
 cases t with
 | zero=>simp only [bnd] at h ⊢;omega
 | succ t=>simp only [bnd,Yr] at h ⊢;omega
theorem QBm {most:Nat} (hm:12<=most) (hm20:most<=20):∀ (t:Nat) (own:List Nat),2<=own.length->own.length<=258->(∀ x∈own,1<=x/\x<=bnd t) ->
  (Qk2 most t own).length=own.length/\(∀ x∈Qk2 most t own,1<=x/\x<=most)/\Qcn (Qk2 most t own)=1048576
 | 0,own,h2,h258,h1=>by
  have h3:=Qnk h2 h258 h1;rw [Qk2];exact ⟨Qfu own,Qwr h2 (fun x hx=>(h1 x hx).1) (by omega) hm20⟩
 | t+1,own,h2,h258,h1=>by
  rw [Qk2];split
  ·
   rename_i h3;exact ⟨Qfu own,Qwr h2 (fun x hx=>(h1 x hx).1) h3 hm20⟩
  have:=QBm hm hm20 t (own.map fun x=>x / 2+1) (by simpa using h2) (by simpa using h258) (by
   intro x hx;obtain ⟨y,hy,rfl⟩:=Y6.1 hx;exact ⟨by omega,QBl (h1 y hy).2⟩)
  simpa using this
def lenS (w:List Nat) (most:Nat):List Nat:=Qk2 most 40 (w.map fun x=>max x 1)
theorem QGh {w:List Nat}{most:Nat} (hm:12<=most) (hm20:most<=20) (h2:2<=w.length) (h258:w.length<=258) (h1:∀ x∈w,x<=1073741824) :
  (lenS w most).length=w.length/\(∀ x∈lenS w most,1<=x/\x<=most)/\Qcn (lenS w most)=1048576:=by
 have:=QBm hm hm20 40 (w.map fun x=>max x 1) (by simpa using h2) (by simpa using h258) (by
  intro x hx;obtain ⟨y,hy,rfl⟩:=Y6.1 hx;have:=h1 y hy;have:bnd 40=549755813890:=by decide
  omega)
 simpa [lenS] using this
def Qdu (w:List Nat) (i j:Nat):Bool:=decide (max (w.getD j 0) 1 < max (w.getD i 0) 1) || (decide (max (w.getD i 0) 1=max (w.getD j 0) 1) && decide (i < j))
def Qkp (w:List Nat) (i:Nat):Nat:=(Yg w.length).countP fun j=>Qdu w j i
def Qfp (n:Nat):Nat:=Uj n
def Qk6 (n p:Nat):Nat:=if 2 ^ (Qfp n+1) - n<=p then Qfp n+1 else Qfp n
def Qdr (w:List Nat):List Nat:=(Yg w.length).map fun i=>Qk6 w.length (Qkp w i)
theorem Qf9 {w:List Nat}{i j:Nat}:Qdu w i j=true ↔ (max (w.getD j 0) 1 < max (w.getD i 0) 1∨(max (w.getD i 0) 1=max (w.getD j 0) 1/\i < j)):=by
 simp [Qdu,Ge]
theorem Qws {w:List Nat}{i j k:Nat} (h1:Qdu w i j=true) (h2:Qdu w j k=true):Qdu w i k=true:=by
 rw [Qf9] at *;omega
theorem Qt3 (w:List Nat) (i:Nat):Qdu w i i=false:=by
 rw [Hc];intro h;rw [Qf9] at h;omega
theorem Qwt {w:List Nat}{i j:Nat} (h1:Qdu w i j=true):Qdu w j i=false:=by
 rw [Hc];intro h;rw [Qf9] at *;omega
theorem Qwu {w:List Nat}{i j:Nat} (h:i≠j):Qdu w i j=true∨Qdu w j i=true:=by
 rw [Qf9,Qf9];omega
theorem Qpm {w:List Nat}{l:List Nat} (hp:l.Perm (Yg w.length)) (hs:l.Pairwise fun i j=>Qdu w i j=true) {p:Nat} (hpl:p < l.length):Qkp w l[p]=p:=by
 unfold Qkp;rw [<- hp.countP_eq];have e:l=l.take p++l[p]::l.drop (p+1):=by rw [<- Xb hpl,X3]
 have hs2:=hs;rw [e] at hs2;obtain ⟨s1,s2,s3⟩:=List.pairwise_append.1 hs2;obtain ⟨s4,s5⟩:=Xj.1 s2;have hlen:(l.take p).length=p:=by rw [X7];omega
 generalize hx:l[p]=x at *
 conv=>lhs;rw [e]
 rw [List.countP_append,List.countP_cons]
 have c1:(l.take p).countP (fun j=>Qdu w j x)=p:=by
  rw [List.countP_eq_length.2 (fun a ha=>s3 a ha _ (by simp)),hlen]
 have c2:(l.drop (p+1)).countP (fun j=>Qdu w j x)=0:=by
  rw [List.countP_eq_zero];intro a ha;have:=Qwt (s4 a ha);simp [this]
 rw [c1,c2,Qt3];simp
theorem Qwv (w:List Nat):∃ l:List Nat,l.Perm (Yg w.length)/\l.Pairwise fun i j=>Qdu w i j=true:=by
 refine ⟨(Yg w.length).mergeSort fun i j=>Qdu w i j || i == j,Gs _ _,?_⟩
 have hs:=List.pairwise_mergeSort (le:=fun i j=>Qdu w i j || i == j) (fun a b c h1 h2=>by
  simp only [Ge,beq_iff_eq] at *;rcases h1 with h1 | rfl
  ·
   rcases h2 with h2 | rfl
   ·
    exact .inl (Qws h1 h2)
   exact .inl h1
  ·
   exact h2) (fun a b=>by
  by_cases e:a=b
  ·
   subst e;simp
  rcases Qwu (w:=w) e with h | h <;> simp [h]) (Yg w.length)
 have hn:((Yg w.length).mergeSort fun i j=>Qdu w i j || i == j).Nodup:=(Gs _ _).nodup_iff.2 X6;refine (hs.and hn).imp ?_;rintro a b ⟨h1,h2⟩;simp only [Ge,beq_iff_eq] at h1;rcases h1 with h1 | h1
 ·
  exact h1
 exact absurd h1 h2
theorem Qzt {l m:List Nat} (h:l.Perm m):Qcn l=Qcn m:=by
 induction h with
 | nil=>rfl
 | cons x _ ih=>rw [Qcn,Qcn,ih]
 | swap x y l=>simp only [Qcn];omega
 | trans _ _ h1 h2=>rw [h1,h2]
theorem Qm0 {n:Nat} (h:2<=n):1<=Qfp n/\2 ^ Qfp n<=n/\n < 2 ^ (Qfp n+1):=by
 refine ⟨(He (by omega)).2 (by simpa using h),Uw (by omega),Ux⟩
theorem QBn {n:Nat} (h:2<=n) (h2:n<=258):Qfp n<=8:=by
 have:=(Qm0 h).2.1;rcases Yn 8 (Qfp n) with h3 | h3
 ·
  have:=Xn (n:=2) (by omega) h3;omega
 exact h3
theorem QBo {n K p:Nat} (hK:n<=2 * K) (hn:K<=n) (c:Nat) (f:Nat->Nat) (hf:∀ i,f i=if 2 * K - n<=i then c else 2 * c):∀ m,m<=n->Qb3 f m=if m<=2 * K - n then m * (2 * c) else (2 * K - n) * (2 * c)+(m - (2 * K - n)) * c
 | 0,_=>by simp [Qb3]
 | m+1,h=>by
  rw [Qb3,QBo (p:=p) hK hn c f hf m (by omega),hf];by_cases h1:m+1<=2 * K - n
  ·
   rw [if_pos (by omega),if_neg (by omega),if_pos h1];exact (U9 m (2 * c)).symm
  rw [if_neg h1];by_cases h2:m<=2 * K - n
  ·
   have e:m=2 * K - n:=by omega
   rw [if_pos h2,if_pos (by omega),show m+1 - (2 * K - n)=1 by omega,Nat.one_mul,e]
  rw [if_neg h2,if_pos (by omega),show m+1 - (2 * K - n)=(m - (2 * K - n))+1 by omega,Nat.add_assoc,show (m - (2 * K - n)+1) * c=(m - (2 * K - n)) * c+c from U9 _ _]
theorem QBp {w:List Nat} (h2:2<=w.length) (h258:w.length<=258):(Qdr w).length=w.length/\(∀ x∈Qdr w,1<=x/\x<=9)/\Qcn (Qdr w)=1048576:=by
 obtain ⟨hk1,hk2,hk3⟩:=Qm0 h2;have hk8:=QBn h2 h258;refine ⟨by simp [Qdr],fun x hx=>?_,?_⟩
 ·
  obtain ⟨i,_,rfl⟩:=Y6.1 hx;unfold Qk6;split <;> omega
 obtain ⟨l,hp,hs⟩:=Qwv w
 have e1:(Qdr w).Perm ((Yg w.length).map fun p=>Qk6 w.length p):=by
  have e2:(l.map fun i=>Qk6 w.length (Qkp w i))=(Yg w.length).map fun p=>Qk6 w.length p:=by
   have hl:l.length=w.length:=by have:=hp.length_eq;simpa using this
   apply U3
   ·
    simp [hl]
   intro p h3 h4;simp only [List.getElem_map,Gz];rw [Qpm hp hs]
  rw [<- e2];exact (hp.map _).symm
 rw [Qzt e1,Qkb];have hp2:2 ^ (Qfp w.length+1)=2 * 2 ^ Qfp w.length:=by rw [Yr];omega
 have h20:2 ^ (20 - Qfp w.length)=2 * 2 ^ (19 - Qfp w.length):=by rw [show 20 - Qfp w.length=(19 - Qfp w.length)+1 by omega,Yr];omega
 have hc:2 ^ Qfp w.length * 2 ^ (19 - Qfp w.length)=524288:=by rw [<- X9,show Qfp w.length+(19 - Qfp w.length)=19 by omega]
 rw [QBo (p:=0) (K:=2 ^ Qfp w.length) (n:=w.length) (by omega) (by omega) (2 ^ (19 - Qfp w.length)) _ (fun i=>?_) w.length (Yu _)]
 ·
  generalize 2 ^ (19 - Qfp w.length)=c at *;generalize 2 ^ Qfp w.length=K at *;split
  ·
   rename_i h5;have e5:w.length=K:=by omega
   rw [e5,Nat.mul_left_comm,hc]
  rename_i h5;obtain ⟨d,hd⟩:∃ d,w.length=K+d:=⟨w.length - K,by omega⟩;rw [hd,show 2 * K - (K+d)=K - d by omega,show K+d - (K - d)=2 * d by omega];obtain ⟨e,he⟩:∃ e,K=d+e:=⟨K - d,by omega⟩;rw [show K - d=e by omega]
  have:e * (2 * c)+2 * d * c=2 * (K * c):=by
   rw [he,Us,Nat.mul_add,Nat.mul_left_comm,X8];omega
  rw [this,hc]
 simp only [Qk6];rw [hp2];split
 ·
  rw [show 20 - (Qfp w.length+1)=19 - Qfp w.length by omega]
 rw [h20]
def idxN (l:List Nat) (n m:Nat):List Nat:=(Yg m).filter fun i=>l.getD i 0 == n
def idxs (l:List Nat) (n:Nat):List Nat:=idxN l n l.length
def cnt (l:List Nat) (n:Nat):Nat:=(idxs l n).length
def Qbf (l:List Nat):Nat->Nat
 | 0=>0
 | n+1=>2 * (Qbf l n+cnt l n)
def Qe5 (l:List Nat) (i:Nat):Nat:=Qbf l (l.getD i 0)+(idxN l (l.getD i 0) i).length
def Qib (l:List Nat) (i:Nat):List Bool:=Qas (l.getD i 0) (Qe5 l i)
def begP (l:List Nat) (c k:Nat):Bool:=(Yg 21).any fun m=>decide (k < m) && decide (0 < cnt l m) && decide (c * 2 ^ (m - k) < Qbf l m+cnt l m)
def Qho (l:List Nat):List Bool->Nat->Nat->Except Int (Nat×Nat)
 | [],_,_=>.error 10
 | b::r,n,code =>
  if Qbf l (n+1)<=2 * code+b.toNat/\2 * code+b.toNat < Qbf l (n+1)+cnt l (n+1) then .ok ((idxs l (n+1)).getD (2 * code+b.toNat - Qbf l (n+1)) 0,n+1)
  else if begP l (2 * code+b.toNat) (n+1)=true then Qho l r (n+1) (2 * code+b.toNat) else .error 90
def Qju (l:List Nat) (bits:List Bool) (at_:Nat):Except Int (Nat×Nat):=match Qho l (bits.drop at_) 0 0 with
 | .ok p=>.ok (p.1,at_+p.2)
 | .error e=>.error e
def Qe6 (l:List Nat) (bits:List Bool) (fin:Nat):Nat->Nat->Except Int (List Nat×Nat)
 | 0,at_=>.ok ([],at_)
 | n+1,at_=>match Qju l bits at_ with
  | .error e=>.error e
  | .ok p=>if p.1=fin then .ok ([p.1],p.2) else match Qe6 l bits fin n p.2 with
   | .error e=>.error e
   | .ok q=>.ok (p.1::q.1,q.2)
def okL (l:List Nat):Prop:=2<=l.length/\l.length<=258/\(∀ x∈l,1<=x/\x<=20)/\Qcn l<=1048576
theorem Qic (l:List Nat) (n m:Nat):idxN l n (m+1)=idxN l n m++if l.getD m 0=n then [m] else []:=by
 unfold idxN;rw [Gd,List.filter_append]
 congr 1
 by_cases h:l.getD m 0=n
 ·
  rw [if_pos h,U2 (by simp only [beq_iff_eq];exact h)];rfl
 rw [if_neg h,Xw (by simp only [beq_iff_eq];exact h)];rfl
theorem QBq (l:List Nat) (n m:Nat):(idxN l n m).length<=m:=by
 unfold idxN;exact Ga (List.length_filter_le _ _) (by simp)
theorem Qzu (l:List Nat) (n:Nat) {m m':Nat} (h:m<=m'):∃ r,idxN l n m'=idxN l n m++r:=by
 induction m' with
 | zero=>exact ⟨[],by rw [show m=0 by omega,Yj]⟩
 | succ m' ih =>
  rcases Yn m (m'+1) with h1 | h1
  ·
   obtain ⟨r,hr⟩:=ih (by omega);exact ⟨_,by rw [Qic,hr,Yh]⟩
  exact ⟨[],by rw [show m=m'+1 by omega,Yj]⟩
theorem Qom {l:List Nat}{n m i:Nat}:i∈idxN l n m ↔ i < m/\l.getD i 0=n:=by
 unfold idxN;simp [Gb]
theorem Qww {l:List Nat}{i:Nat} (hi:i < l.length):(idxs l (l.getD i 0)).getD (idxN l (l.getD i 0) i).length 0=i/\(idxN l (l.getD i 0) i).length < cnt l (l.getD i 0):=by
 obtain ⟨r,hr⟩:=Qzu l (l.getD i 0) (m:=i+1) (m':=l.length) (by omega)
 have h1:idxs l (l.getD i 0)=idxN l (l.getD i 0) i++[i]++r:=by
  unfold idxs;rw [hr,Qic,if_pos rfl]
 constructor
 ·
  rw [h1,Yh,Yb,Yl (Yu _),U8];rfl
 rw [cnt,h1];simp
theorem Qlz {l:List Nat} (h:∀ x∈l,1<=x):cnt l 0=0:=by
 rw [cnt,idxs,List.length_eq_zero_iff,List.eq_nil_iff_forall_not_mem];intro i hi;obtain ⟨h1,h2⟩:=Qom.1 hi;have:=h (l.getD i 0) (by rw [Yb,Yc h1];exact Y0 h1);omega
theorem QGi (l:List Nat) (n:Nat):∀ m k,k < (idxN l n m).length->(idxN l n m).getD k 0 < m/\l.getD ((idxN l n m).getD k 0) 0=n/\(idxN l n ((idxN l n m).getD k 0)).length=k
 | 0,k,h=>by simp [idxN] at h
 | m+1,k,h=>by
  rw [Qic] at h ⊢;rcases Yn k (idxN l n m).length with h1 | h1
  ·
   rw [Qc3 h1];obtain ⟨a,b,c⟩:=QGi l n m k h1;exact ⟨by omega,b,c⟩
  by_cases h2:l.getD m 0=n
  ·
   rw [if_pos h2] at h ⊢;have hk:k=(idxN l n m).length:=by simp at h;omega
   subst hk;rw [Qjt];exact ⟨by omega,h2,rfl⟩
  rw [if_neg h2,Yj] at h;omega
theorem QBr (l:List Nat) (n:Nat):∀ d,(Qbf l n+cnt l n) * 2 ^ (d+1)<=Qbf l (n+d+1)
 | 0=>by simp only [Hb,Nat.pow_one,Ue,Qbf];omega
 | d+1=>by
  have:=QBr l n d;rw [show n+(d+1)+1=(n+d+1)+1 by omega,Qbf,Yr,<- X8];omega
theorem Qse (l:List Nat) (n:Nat):∀ m,Qb3 (fun i=>if l.getD i 0<=n+1 then 2 ^ (20 - l.getD i 0) else 0) m=Qb3 (fun i=>if l.getD i 0<=n then 2 ^ (20 - l.getD i 0) else 0) m+(idxN l (n+1) m).length * 2 ^ (20 - (n+1))
 | 0=>by simp [Qb3,idxN]
 | m+1=>by
  rw [Qb3,Qb3,Qse l n m,Qic];by_cases h1:l.getD m 0=n+1
  ·
   rw [if_pos (by omega),if_neg (by omega),if_pos h1,h1,Yp,Us];simp;omega
  rw [if_neg h1,Yj];by_cases h2:l.getD m 0<=n
  ·
   rw [if_pos h2,if_pos (by omega)];omega
  rw [if_neg h2,if_neg (by omega)];omega
theorem QDz (l:List Nat):Qcn l=Qb3 (fun i=>2 ^ (20 - l.getD i 0)) l.length:=by
 rw [<- Qkb]
 congr 1
 apply U3
 ·
  simp
 intro i h1 h2;simp [Yb,Yc h1]
theorem Qsf {l:List Nat} (h:∀ x∈l,1<=x/\x<=20):∀ n,n<=20->(Qbf l n+cnt l n) * 2 ^ (20 - n)=Qb3 (fun i=>if l.getD i 0<=n then 2 ^ (20 - l.getD i 0) else 0) l.length
 | 0,_=>by
  rw [Qbf,Qlz fun x hx=>(h x hx).1,Hb,Nat.zero_mul]
  symm
  have:Qb3 (fun i=>if l.getD i 0<=0 then 2 ^ (20 - l.getD i 0) else 0) l.length=Qb3 (fun _=>0) l.length:=Qc2 _ fun i hi=>by
   have:=h (l.getD i 0) (by rw [Yb,Yc hi];exact Y0 hi);rw [if_neg (by omega)]
  rw [this];generalize l.length=n
  induction n with
  | zero=>rfl
  | succ n ih=>rw [Qb3,ih]
 | n+1,hn=>by
  rw [Qse,<- Qsf h n (by omega),Qbf];have e:2 ^ (20 - n)=2 * 2 ^ (20 - (n+1)):=by rw [show 20 - n=(20 - (n+1))+1 by omega,Yr];omega
  rw [e,Us]
  show _=_+cnt l (n+1) * _
  rw [Xq 2 (Qbf l n+cnt l n),X8]
theorem Qkc {l:List Nat} (h:okL l) {n:Nat} (hn:n<=20):Qbf l n+cnt l n<=2 ^ n:=by
 have h1:=Qsf h.2.2.1 n hn
 have h2:Qb3 (fun i=>if l.getD i 0<=n then 2 ^ (20 - l.getD i 0) else 0) l.length<=Qcn l:=by
  rw [QDz];generalize l.length=m
  induction m with
  | zero=>exact Yu _
  | succ m ih =>
   rw [Qb3,Qb3];generalize 2 ^ (20 - l.getD m 0)=p;split <;> omega
 have h3:=h.2.2.2;have e:(1048576:Nat)=2 ^ n * 2 ^ (20 - n):=by rw [<- X9,show n+(20 - n)=20 by omega]
 have h4:(Qbf l n+cnt l n) * 2 ^ (20 - n)<=2 ^ n * 2 ^ (20 - n):=by omega
 exact Nat.le_of_mul_le_mul_right h4 (Xt _)
theorem Qnl {l:List Nat} (h:okL l) {i:Nat} (hi:i < l.length):1<=l.getD i 0/\l.getD i 0<=20 :=
 h.2.2.1 _ (by rw [Yb,Yc hi];exact Y0 hi)
theorem Ql0 {l:List Nat} (h:okL l) {i:Nat} (hi:i < l.length):Qbf l (l.getD i 0)<=Qe5 l i/\Qe5 l i < Qbf l (l.getD i 0)+cnt l (l.getD i 0)/\Qe5 l i < 2 ^ l.getD i 0:=by
 have h1:=Qww hi;have h2:=Qkc h (Qnl h hi).2;unfold Qe5;omega
theorem QKb {l:List Nat} (h:okL l) {i:Nat} (hi:i < l.length) (r:List Bool):∀ k,k < l.getD i 0->Qho l (Qas (k+1) (Qe5 l i)++r) (l.getD i 0 - (k+1)) (Qe5 l i / 2 ^ (k+1))=.ok (i,l.getD i 0):=by
 have hL:=Qnl h hi;obtain ⟨hc1,hc2,hc3⟩:=Ql0 h hi;intro k
 induction k with
 | zero =>
  intro hk;rw [Qas,Ys,Qho]
  have e:2 * (Qe5 l i / 2 ^ (0+1))+((Qe5 l i).testBit 0).toNat=Qe5 l i:=by
   rw [Nat.testBit_zero];rcases Xa (Qe5 l i) with h | h <;> rw [h] <;> simp <;> omega
  rw [e,show l.getD i 0 - (0+1)+1=l.getD i 0 by omega,if_pos ⟨hc1,hc2⟩];have:Qe5 l i - Qbf l (l.getD i 0)=(idxN l (l.getD i 0) i).length:=by unfold Qe5;omega
  rw [this,(Qww hi).1]
 | succ k ih =>
  intro hk;rw [Qas,Ys,Qho]
  have e:2 * (Qe5 l i / 2 ^ (k+1+1))+((Qe5 l i).testBit (k+1)).toNat=Qe5 l i / 2 ^ (k+1):=by
   rw [Yr 2 (k+1),<- U7,Yw];rcases Xa (Qe5 l i / 2 ^ (k+1)) with h | h <;> rw [h] <;> simp <;> omega
  rw [e,show l.getD i 0 - (k+1+1)+1=l.getD i 0 - (k+1) by omega];have hfl:=QBr l (l.getD i 0 - (k+1)) k;rw [show l.getD i 0 - (k+1)+k+1=l.getD i 0 by omega] at hfl;have hge:Qbf l (l.getD i 0 - (k+1))+cnt l (l.getD i 0 - (k+1))<=Qe5 l i / 2 ^ (k+1):=(Gg (Xt _)).2 (by omega);rw [if_neg (by omega),if_pos,ih (by omega)];unfold begP;rw [List.any_eq_true];refine ⟨l.getD i 0,Xo.2 (by omega),?_⟩
  have h1:Qe5 l i / 2 ^ (k+1) * 2 ^ (l.getD i 0 - (l.getD i 0 - (k+1)))<=Qe5 l i:=by
   rw [show l.getD i 0 - (l.getD i 0 - (k+1))=k+1 by omega];exact Nat.div_mul_le_self _ _
  simp only [Yi,decide_eq_true_eq];omega
theorem Qpn {l:List Nat} (h:okL l) {i:Nat} (hi:i < l.length) {bits:List Bool}{at_:Nat}{r:List Bool} (hb:bits.drop at_=Qib l i++r):Qju l bits at_=.ok (i,at_+(Qib l i).length):=by
 have hL:=Qnl h hi;have hc:=(Ql0 h hi).2.2;have:=QKb h hi r (l.getD i 0 - 1) (by omega);rw [show l.getD i 0 - 1+1=l.getD i 0 by omega,U8,Nat.div_eq_of_lt hc] at this;rw [Qju,hb]
 show (match Qho l (Qas (l.getD i 0) (Qe5 l i)++r) 0 0 with | .ok p=>_ | .error e=>_)=_
 rw [this,Qib,Qan]
def Qe7 (l:List Nat) (list:List Nat):List Bool:=list.flatMap (Qib l)
theorem Qbz {bits:List Bool}{at_:Nat}{a b:List Bool} (h:bits.drop at_=a++b):bits.drop (at_+a.length)=b:=by
 rw [<- List.drop_drop,h,List.drop_left]
theorem Qwx {l:List Nat} (h:okL l) (fin:Nat):∀ (list:List Nat) (n:Nat) {bits:List Bool}{at_:Nat}{r:List Bool},(∀ s∈list,s < l.length/\s≠fin)->list.length=n->bits.drop at_=Qe7 l list++r->Qe6 l bits fin n at_=.ok (list,at_+(Qe7 l list).length)
 | [],n,bits,at_,r,_,hn,hb=>by simp at hn;subst hn;simp [Qe6,Qe7]
 | s::list,n,bits,at_,r,hs,hn,hb=>by
  simp at hn;subst hn;have hb':bits.drop at_=Qib l s++(Qe7 l list++r):=by rw [hb];simp [Qe7,Yh]
  have h1:=hs s (by simp);rw [Qe6,Qpn h h1.1 hb'];simp only;rw [if_neg h1.2,Qwx h fin list list.length (fun x hx=>hs x (by simp [hx])) rfl (Qbz hb')];simp [Qe7];omega
theorem Ql1 {l:List Nat} (h:okL l) (fin:Nat) (hf:fin < l.length):∀ (list:List Nat) (n:Nat) {bits:List Bool}{at_:Nat}{r:List Bool},(∀ s∈list,s < l.length/\s≠fin)->list.length+1<=n->bits.drop at_=Qe7 l (list++[fin])++r->Qe6 l bits fin n at_=.ok (list++[fin],at_+(Qe7 l (list++[fin])).length)
 | [],n,bits,at_,r,_,hn,hb=>by
  obtain ⟨n,rfl⟩:∃ m,n=m+1:=⟨n - 1,by simp at hn;omega⟩;have hb':bits.drop at_=Qib l fin++r:=by rw [hb];simp [Qe7]
  rw [Qe6,Qpn h hf hb'];simp [Qe7]
 | s::list,n,bits,at_,r,hs,hn,hb=>by
  simp at hn;obtain ⟨n,rfl⟩:∃ m,n=m+1:=⟨n - 1,by omega⟩;have hb':bits.drop at_=Qib l s++(Qe7 l (list++[fin])++r):=by rw [hb];simp [Qe7,Yh]
  have h1:=hs s (by simp);rw [Qe6,Qpn h h1.1 hb'];simp only;rw [if_neg h1.2,Ql1 h fin hf list n (fun x hx=>hs x (by simp [hx])) (by omega) (Qbz hb')];simp [Qe7];omega
theorem Qsg {l:List Nat}{c:Nat} (h:∀ x∈l,x<=c):∀ (list:List Nat),(Qe7 l list).length<=list.length * c
 | []=>by simp [Qe7]
 | s::list=>by
  have h1:=Qsg h list
  have h2:(Qib l s).length<=c:=by
   rw [Qib,Qan];by_cases hs:s < l.length
   ·
    exact h _ (by rw [Yb,Yc hs];exact Y0 hs)
   rw [Qk4 (by omega)];omega
  simp only [Qe7,X1,Yp,Y8,U9] at h1 ⊢;omega
end Go.Proofs.YthcdlcdnchaoiaaGreat
