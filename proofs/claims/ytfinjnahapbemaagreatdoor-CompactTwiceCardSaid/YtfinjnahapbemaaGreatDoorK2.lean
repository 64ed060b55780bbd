/- A program logic over the model, and what this program's functions do by it: part 2. No conditions: a library of lemmas. -/
import Derived.Test.YtfinjnahapbemaaGreatDoorK1
import Derived.RangeFuncLeaves
import Derived.RangeFuncNested
import Derived.RangeFuncRecord
import Derived.RecoverIn
import Derived.Sort.Grow
import Derived.TacticsIn
import Derived.Test.YtfinjnahapbemaaGreatDoorChecked
open Nat (reduceEqDiff)
set_option linter.unusedSimpArgs false
set_option linter.unusedVariables false
set_option maxRecDepth 100000
open Go.Proofs.Tryz renaming prog->Ya,underlying218->Yh,underlying41->Yj,underlying72->Ym,underlying223->Yn,underlying54->Yr,underlying326->Ys,underlying69->Yw,underlying84->Yx,underlying3->Y6,underlying5->Y7,underlying9->Y8,underlying107->Y9,underlying116->Xa,underlying317->Xb,underlying278->Xi,underlying52->Xm,underlying194->Xp,underlying181->Xq,underlying184->Xr,underlying229->Xs,underlying261->Xt,underlying293->Xu,underlying319->Xv,underlying43->Xy,underlying64->Xz,underlying92->X0,underlying236->X8,underlying39->Ua,call108->Uo,underlying141->Up,underlying139->Uq,underlying185->Ur,underlying186->Us,underlying227->Ut,underlying271->Uu,underlying323->Uv,underlying25->U0,underlying27->U1,underlying29->U2,underlying37->U3,underlying55->U4,underlying70->U5,underlying79->U6,underlying4->Gf,underlying244->Gz,underlying172->G3,underlying182->G4,underlying191->G5,underlying215->G6,underlying216->G7,underlying238->G8,underlying267->G9,underlying276->Ha,underlying290->Hb,underlying313->Hc,underlying324->Hd,underlying22->Hh,underlying26->Hi,underlying61->Hj,underlying76->Hk,underlying86->Hl
open List renaming getD_eq_getElem?_getD->Yb,replicate->Yc,append_assoc->Yd,length_append->Ye,getElem?_eq_getElem->Yf,getElem?_append_right->Yg,getElem?_append_left->Yi,length_cons->Yk,range->Yl,take_of_length_le->Yo,append_nil->Yq,set_cons_zero->Yt,set_cons_succ->Yu,cons_append->Yv,take_append_drop->Yy,mem_map->Y3,length_take->Xc,take_append_of_le_length->Xe,replicate_succ->Xf,getElem_mem->Xh,length_singleton->Xk,nil_append->Xl,getElem?_eq_none->Xx,flatMap_cons->X1,ext_getElem->X5,singleton_append->Uc,length_replicate->Ud,set_append_right->Ue,length_drop->Uh,drop_append_of_le_length->Ui,mem_of_mem_take->Uj,flatten_append->Uk,getElem_range->Uw,getElem?_eq_some_iff->Uy,drop_eq_getElem_cons->Uz,take_add_one->U7,flatten_cons->Gd,idxOf_lt_length_iff->Ge,getElem_map->Gh,getElem?_set_self->Gk,drop_eq_nil_of_le->Gm,length_nil->Gn,getElem?_set_ne->Gr,set_append_left->Gu,replicate_zero->Gv,mergeSort_perm->Gw,getElem?_range->Gx,getElem?_map->Ho,length_range->Hp,length->Hq
open Nat renaming lt_or_ge->Yp,le_refl->Y0,pow_le_pow_right->Y1,testBit_eq_decide_div_mod_eq->Y4,pow_succ->Xd,mod_eq_of_lt->Xg,mod_two_eq_zero_or_one->Xj,mul_comm->Xn,two_pow_pos->Xw,succ_mul->X3,le_trans->X4,mul_assoc->X6,zero_add->Ul,add_comm->Um,add_zero->Un,add_sub_cancel->Ux,add_mul->U8,pow_add->U9,div_eq_of_lt->Gg,add_sub_cancel_left->Gi,div_le_self->Gp,add_assoc->Gy,lt_of_lt_of_le->He,and_one_is_mod->Hf,sub_self->Hm
open Go.Value renaming oneCell'->Yz,cells->X2,func->Uf,string->Gj,slice->Gs
open Go.Eng.CallK renaming mk->Y2
open Bool renaming and_eq_true->Y5,or_eq_true->Gq,eq_false_iff->Hn
open Go.Eng.Res renaming blk->Xo,row->X7
open Go.Obj renaming cells->X9
open Int renaming toNat_natCast->Ub,emod_eq_of_lt->Gb
open Go.Eng.Heap renaming start->Ug
open UInt8 renaming ofNat->Ga
open Go.IntKind renaming bits->Gl,u64->Gt
open Go.Result renaming andThen_ok->Hg
namespace Go.Eng
open Go
def Ig (L:Option Nat):Fence:={ Fence.wide with round:=L }
theorem Qi4 {L:Option Nat}{P:Program}{m m':Machine}{e:Ending} (h:Comes P m m' e):ComesIn (Machine.fenced P (Ig L)) P m m' e:=comesIn_wide.2 h
theorem Qbj {L:Option Nat}{n:Nat}{P:Program}{f:FuncId}{args:Array Value}{w:World}{R:Ending->World->Prop} (h:Calls P f args w R):CallsIn (Ig L) n P f args w R :=
 ⟨trivial,fun cs _=>let ⟨e,w',fr,r,s,x⟩:=h cs;⟨e,w',fr,r,Qi4 s,x⟩⟩
theorem Qi5 {L:Option Nat}{P:Program}{m m':Machine} (h:Steps P m m'):StepsIn (Machine.fenced P (Ig L)) P m m':=stepsIn_wide.2 h
theorem Qll {L:Option Nat}{n:Nat}{P:Program}{row:String}{args:Array Value}{w:World}{R:Value->World->Prop} (h:Rows P row args w R):RowsIn (Ig L) n P row args w R :=
 fun c cs _=>let ⟨v,w',r,s⟩:=h c cs;⟨v,w',r,Qi5 s⟩
def Ld (o:Oper):Bool:=match o.op with | .defer _=>false | _=>true
theorem Qlm {o:Oper} (h:Ld o=true):∀ c,o.op≠.defer c:=by
 intro c hc;simp [Ld,hc] at h
def _root_.Go.Act.app (a:Act) (D:List Deferred):Act:={ a with defers:=a.defers++D }
theorem Po (a:Act) (D:List Deferred) (d:Option Tmp) (v:Value):(a.put d v).app D=(a.app D).put d v:=by cases d <;> rfl
theorem Qyx (a:Act) (D:List Deferred):(a.app D).eval=a.eval:=by funext x;cases x <;> rfl
def P6 (D:List Deferred) (Q:Exit->Act->World->Prop):Exit->Act->World->Prop
 | .normal,a,w=>a.defers=[]/\Q .normal (a.app D) w
 | .panic c,a,w=>Q (.panic c) (a.app D) w
 | _,_,_=>False
theorem QAn {P:Program}{L:Option Nat}{D:List Deferred}{Q:Exit->Act->World->Prop}{o:Oper}{a:Act}{w:World}{next next':Act->World->Prop} (hd:Ld o=true)
  (hn:∀ a w,next a w->next' (a.app D) w) (h:o.wp P a w next (P6 D Q)):o.wpIn (Ig L) 0 P (a.app D) w next' Q:=by
 refine ⟨fun _ _=>trivial,?_⟩;rw [Oper.semAt_eq _ _ _ (Qlm hd),Qyx];unfold Oper.wp at h;generalize (execOp a.eval o).run P w=r at *;have hdep:(Ig L).depth.isSome=true->1<=0:=by simp [Ig,Fence.wide]
 cases r with
 | ok x w' =>
  cases x <;> simp only [Oper.upon,Oper.uponIn] at h ⊢
  case value v=>rw [<- Po];exact hn _ _ h
  case skip=>rw [<- Po];exact hn _ _ h
  case defer d=>have h2:=hn _ _ h;rw [Po] at h2;exact h2
  case enter f args =>
   refine ⟨hdep,Qbj (h.mono fun e w'' he=>?_)⟩;cases e with
   | returned v=>have h2:=hn _ _ he;rw [Po] at h2;exact h2
   | panicked c=>exact he
   | outgrown=>obtain ⟨_,_,he⟩:=he;exact he.elim
  case row row args=>exact ⟨hdep,Qll (h.mono fun v w'' he=>by have h2:=hn _ _ he;rw [Po] at h2;exact h2)⟩
 | halt x w'=>cases x <;> simp only [Oper.upon,Oper.uponIn] at h ⊢ <;> exact h
theorem Qj3 {P:Program}{L:Option Nat}{D:List Deferred}{Q:Exit->Act->World->Prop}{ops:Array Oper} (hd:ops.toList.all Ld=true):∀ (l:LN) (a:Act) (w:World),
  wpOps P ops (P6 D Q) l a w->wpOpsIn (Ig L) 0 P ops Q l (a.app D) w:=by
 intro l
 induction l with
 | nil=>intro a w h;exact h.2
 | cons i rest ih =>
  intro a w h;simp only [wpOps,wpOpsIn] at h ⊢;cases ho:ops[i]? with
  | none=>simp only [ho] at h ⊢;exact ih _ _ h
  | some o =>
   simp only [ho] at h ⊢
   have hdo:Ld o=true:=by
    rw [List.all_eq_true] at hd;exact hd o (by rw [Array.mem_toList_iff];exact Array.mem_of_getElem? ho)
   have ht:(a.app D).tmps=a.tmps:=rfl;rw [ht];split
   ·
    rename_i hw;rw [if_pos hw] at h;rcases h with h | ⟨_,_,_,h⟩
    ·
     exact QAn hdo ih h
    exact h.elim
   rename_i hw;rw [if_neg hw] at h;have h2:=ih _ _ h;rw [Po] at h2;exact ⟨fun _ _=>trivial,h2⟩
theorem Qq7 {P:Program}{L:Option Nat}{D:List Deferred}{Q:Exit->Act->World->Prop}{id:Nat}{l:List Oper}{a:Act}{w:World} (hd:l.all Ld=true)
  (h:wpList P l.toArray (P6 D Q) l a w):(Code.region id l.toArray false).wpIn (Ig L) 0 P Q (a.app D) w:=by
 refine wpIn_region (Qj3 (by simpa using hd) _ a w ?_);rw [List.range_eq_range',<- Array.length_toList,wpOps_eq_wpList l.toArray.toList 0 (by simp)];simpa using h
theorem Qgh {P:Program}{L:Option Nat}{D:List Deferred}{Q:Exit->Act->World->Prop}{id:Nat}{ops:Array Oper}{a:Act}{w:World} (hm:P.follows .mixedOrders=true) (hd:ops.toList.all Ld=true)
  (h:wpAny P .any ops (P6 D Q) ops.size (Array.replicate ops.size false) a { w with drawn:=w.drawn+1 }):(Code.region id ops true).wpIn (Ig L) 0 P Q (a.app D) w :=
 wpIn_region_draw fun t=>Qj3 hd _ a _ (by
  simp only [Region.schedule,hm,Bool.true_or,if_true];exact wpAny_sound ops.size t _ a _ h)
structure F8 where
 P:Program
 N:Nat
 L:Option Nat
 D:List Deferred
 post:Exit->Act->World->Prop
structure FitsG (N:Nat) (D:List Deferred) (e:Env) (a:Act):Prop where
 size:a.tmps.size=N
 defers:a.defers=D
 at_:∀ t v,e.find? t=some v->a.tmps.getD t undef=v
theorem FitsG.bare {N:Nat}{D:List Deferred}{e:Env}{a:Act} (h:FitsG N D e a):Fits N e { a with defers:=[] }:=⟨h.size,rfl,h.at_⟩
theorem FitsG.of {N:Nat}{D:List Deferred}{e:Env}{a:Act} (h:Fits N e a):FitsG N D e (a.app D):=⟨h.size,by simp [Act.app,h.defers],h.at_⟩
theorem FitsG.app {N:Nat}{D:List Deferred}{e:Env}{a:Act} (h:FitsG N D e a):({ a with defers:=[] }:Act).app D=a:=by
 cases a;have:=h.defers;simp only at this;subst this;rfl
theorem FitsG.weaken {N:Nat}{D:List Deferred}{e e':Env}{a:Act} (h:FitsG N D e a) (hs:∀ t v,e'.find? t=some v->e.find? t=some v):FitsG N D e' a :=
 ⟨h.size,h.defers,fun t v ht=>h.at_ t v (hs t v ht)⟩
theorem FitsG.sel {N:Nat}{D:List Deferred}{e:Env}{a:Act} (h:FitsG N D e a) (ks:LN):FitsG N D (e.sel ks) a:=h.weaken fun t v ht=>Env.find?_sel ks e t v ht
theorem FitsG.eval {N:Nat}{D:List Deferred}{e:Env}{a:Act}{x:Operand}{K:Value->Prop} (ha:FitsG N D e a) (h:Am e x K):K (a.eval x):=by
 have h1:=Cp ha.bare h;cases x <;> exact h1
def Em (C:F8):List It->Exit->Act->World->Prop
 | [],ex,a,w=>C.post ex a w
 | .code c::k,ex,a,w=>match ex with
  | .normal=>c.wpIn (Ig C.L) 0 C.P (fun ex a w=>Em C k ex a w) a w
  | ex=>Em C k ex a w
 | .blk id::k,ex,a,w=>match ex with
  | .exit id'=>if id'=id then Em C k .normal a w else Em C k (.exit id') a w
  | ex=>Em C k ex a w
 | .again I::k,ex,a,w=>match ex with
  | .normal=>∃ e w0 n,w=w0.drewN n/\FitsG C.N C.D e a/\I e w0
  | ex=>Em C k ex a w
def VG (C:F8) (k:List It) (e:Env) (w:World):Prop:=∀ a n,FitsG C.N C.D e a->Em C k .normal a (w.drewN n)
section
variable {C:F8}{k:List It}{e:Env}{w:World}
theorem Bl {x y:Code} (h:VG C (.code x::.code y::k) e w):VG C (.code (.seq x y)::k) e w:=by
 intro a n ha;have h1:=h a n ha;simp only [Em] at h1 ⊢;refine wpIn_seq (wpIn_mono h1 fun ex a w hq=>?_);cases ex <;> exact hq
theorem My {id:Nat}{c:Code} (h:VG C (.code c::.blk id::k) e w):VG C (.code (.block id c)::k) e w:=by
 intro a n ha;have h1:=h a n ha;simp only [Em] at h1 ⊢;refine wpIn_block (wpIn_mono h1 fun ex a w hq=>?_);cases ex <;> exact hq
theorem Ov {id:Nat} (h:VG C k e w):VG C (.blk id::k) e w:=fun a n ha=>h a n ha
theorem Lz (h:VG C k e w):VG C (.code .skip::k) e w:=fun a n ha=>wpIn_skip (h a n ha)
theorem Qyy {l:Nat} (h:VG C k e w):VG C (.code (.label l)::k) e w:=fun a n ha=>wpIn_label (h a n ha)
theorem Z2 {I:Env->World->Prop} (h:I e w):VG C (.again I::k) e w:=fun _ n ha=>⟨e,w,n,rfl,ha,h⟩
theorem Qnv {id:Nat}{k k':List It} (hp:Fa id k=some k') {a:Act} (h:Em C k' .normal a w):Em C k (.exit id) a w:=by
 induction k with
 | nil=>simp [Fa] at hp
 | cons x k ih =>
  cases x with
  | code c=>exact ih (by simpa [Fa] using hp)
  | again I=>exact ih (by simpa [Fa] using hp)
  | blk id' =>
   simp only [Em];by_cases hid:id=id'
   ·
    simp only [Fa,hid,if_true] at hp;cases hp;simp only [hid,if_true];exact h
   simp only [Fa,hid,if_false] at hp;simp only [hid,if_false];exact ih hp
theorem Sy {id:Nat}{k':List It} (hp:Fa id k=some k') (h:VG C k' e w):VG C (.code (.exit id)::k) e w :=
 fun a n ha=>wpIn_exit (Qnv hp (h a n ha))
theorem Qvi {id:Nat}{k:List It} (hp:Fa id k=none) {a:Act} (h:C.post (.exit id) a w):Em C k (.exit id) a w:=by
 induction k with
 | nil=>exact h
 | cons x k ih =>
  cases x with
  | code c=>exact ih (by simpa [Fa] using hp)
  | again I=>exact ih (by simpa [Fa] using hp)
  | blk id' =>
   simp only [Em];by_cases hid:id=id'
   ·
    simp only [Fa,hid,if_true] at hp;cases hp
   simp only [Fa,hid,if_false] at hp;simp only [hid,if_false];exact ih hp
theorem Qq8 {id:Nat} (hp:Fa id k=none) (h:∀ a n,FitsG C.N C.D e a->C.post (.exit id) a (w.drewN n)):VG C (.code (.exit id)::k) e w :=
 fun a n ha=>wpIn_exit (Qvi hp (h a n ha))
theorem Qvj {k:List It}{a:Act} (h:C.post .ret a w):Em C k .ret a w:=by
 induction k with
 | nil=>exact h
 | cons x k ih=>cases x <;> exact ih
theorem Qnw {k:List It}{c:List PanicEntry}{a:Act}:Em C k (.panic c) a w ↔ C.post (.panic c) a w:=by
 induction k with
 | nil=>exact Iff.rfl
 | cons x k ih=>cases x <;> exact ih
theorem Pr (h:∀ a n,FitsG C.N C.D e a->C.post .ret a (w.drewN n)):VG C (.code .ret::k) e w:=fun a n ha=>wpIn_ret (Qvj (h a n ha))
theorem Ps (h:∀ a n,FitsG C.N C.D e a->C.post .normal a (w.drewN n)):VG C [] e w:=fun a n ha=>h a n ha
theorem Fy {c:Operand}{t:Tmp}{b:Bool}{x y:Code} (hc:c=.tmp t) (hv:e.find? t=some (.bool b))
  (ht:b=true->VG C (.code x::k) e w) (hf:b=false->VG C (.code y::k) e w):VG C (.code (.cond c x y)::k) e w:=by
 intro a n ha;subst hc;exact wpIn_cond_split (t:=b) (ha.at_ t _ hv) (fun h=>ht h a n ha) (fun h=>hf h a n ha)
end
theorem Qi6 {F:Fence}{n0:Nat}{P:Program}{Q:Exit->Act->World->Prop}{a:Act}{w:World}{c:Code} (I:Nat->Act->World->Prop) (n:Nat) (h₀:I n a w)
  (round:∀ n a w,I n a w->c.wpIn F n0 P (Exit.then (fun a' w'=>∃ m,m < n/\I m a' w') Q) a w):(Code.loop c).wpIn F n0 P Q a w:=by
 intro b k cs hro hb hr
 have key:∀ j a w,I j a w ->
   ∃ e a' w',Q e a' w'/\ArrivesIn (Machine.fenced P F) P (lone (b.atR a (.code c::.inLoop c::k)) cs w) b k cs e a' w':=by
  intro j
  induction j using Nat.strongRecOn with
  | _ j ih =>
   intro a w hI;obtain ⟨e,a₁,w₁,hq,harr⟩:=round j a w hI b (.inLoop c::k) cs hro hb hr;cases e with
   | normal =>
    obtain ⟨m,hlt,hI₁⟩:=hq;obtain ⟨e₂,a₂,w₂,hq₂,harr₂⟩:=ih m hlt a₁ w₁ hI₁;exact ⟨e₂,a₂,w₂,hq₂,.of_steps (StepsIn.trans harr (.one (fenced_calm hb hr rfl) stepR_inLoop)) harr₂⟩
   | exit id=>exact ⟨_,a₁,w₁,hq,.pass (x:=.inLoop c) rfl (fun _ _=>.inl (by simp)) harr⟩
   | goto l=>exact ⟨_,a₁,w₁,hq,.pass (x:=.inLoop c) rfl (fun _ _=>.inl (by simp)) harr⟩
   | ret=>exact ⟨_,a₁,w₁,hq,.pass (x:=.inLoop c) rfl (fun _ _=>.inl (by simp)) harr⟩
   | panic ch=>exact ⟨_,a₁,w₁,hq,.pass (x:=.inLoop c) rfl (fun _ _=>.inl (by simp)) harr⟩
   | outgrown=>exact ⟨_,a₁,w₁,hq,.pass (x:=.inLoop c) rfl (fun _ _=>.inl (by simp)) harr⟩
 obtain ⟨e,a',w',hq,harr⟩:=key _ a w h₀;exact ⟨e,a',w',hq,.of_steps (.one (fenced_calm hb hr rfl) stepR_loop) harr⟩
section
variable {C:F8}{k:List It}{e:Env}{w:World}
theorem Qie (ks:LN) {body:Code} (I:Nat->Env->World->Prop) (n:Nat) (h0:Ep ks e fun e=>I n e w)
  (round:∀ n e w,I n e w->VG C (.code body::.again (fun e' w'=>Ep ks e' fun e'=>∃ m,m < n/\I m e' w')::k) e w):VG C (.code (.loop body)::k) e w:=by
 intro a d ha;refine Qi6 (fun n a w=>∃ e w0 d,w=w0.drewN d/\FitsG C.N C.D e a/\I n e w0) n ⟨_,w,d,rfl,ha.sel ks,(Kj ks e _).1 h0⟩ ?_;rintro n a w ⟨e,w0,d,rfl,ha,hI⟩;have h1:=round n e w0 hI a d ha;simp only [Em] at h1;refine wpIn_mono h1 fun ex a w hq=>?_;cases ex with
 | normal=>obtain ⟨e',w1,d',hw,hf,hI'⟩:=hq;obtain ⟨m,hm,hI'⟩:=(Kj ks e' _).1 hI';exact ⟨m,hm,_,w1,d',hw,hf.sel ks,hI'⟩
 | _=>exact hq
def QF3 (C:F8) (k:List It):Exit->Act->World->Prop:=fun ex a w=>match ex with | .normal=>Em C k .normal a w | _=>False
theorem Qj4 (ex:Exit) (a:Act) (w:World) (h:QF3 C k ex a w):Em C k ex a w:=by
 cases ex <;> first | exact h | exact h.elim
theorem Qeq (ks:LN) {e:Env}{a:Act}{w:World}{n:Nat} (ha:Fits C.N e a) (hv:Dh ks (VG C k) e w):P6 C.D (QF3 C k) .normal a (w.drewN n) :=
 ⟨ha.defers,((Kj ks e _).1 hv) _ n ((FitsG.of ha).sel ks)⟩
theorem C8 (ks:LN) {id:Nat}{ops:List Oper} (hN:(ops.all (Ct C.N) && ops.all Ld)=true)
  (h:∀ K:Env->World->Prop,(∀ e w,VG C k e w->K e w)->At C.P C.N ops ops e w (Dh ks K)):VG C (.code (.region id ops.toArray false)::k) e w:=by
 intro a n ha;simp only [Y5] at hN;rw [<- ha.app];refine wpIn_mono (Qq7 (Q:=QF3 C k) hN.2 ?_) Qj4;exact Tz (K:=Dh ks (VG C k)) (fun e a w n ha hv=>Qeq ks ha hv) ops e _ w n hN.1 ha.bare (h _ fun _ _ hv=>hv)
theorem Qg1 (w0:World) (hx:Ext w0 w) (ks:LN) (t:L7) {id:Nat}{ops:List Oper}
  (hm:C.P.follows .mixedOrders=true) (hB:(M2 ops.toArray t ops.toArray.size (Array.replicate ops.toArray.size false) && Region.noSelect ops.toArray)=true) (hN:(ops.all (Ct C.N) && ops.all Ld)=true)
  (h:∀ K:Env->World->Prop,(∀ e w,VG C k e w->K e w)->Qd C.P C.N ops w0 t e w (Dh ks K)):VG C (.code (.region id ops.toArray true)::k) e w:=by
 intro a n ha;simp only [Y5] at hB hN;obtain ⟨hB1,hB2⟩:=hB;rw [<- ha.app];refine wpIn_mono (Qgh (Q:=QF3 C k) hm (by simpa using hN.2) (wpAny_of_held (S:=fun w'=>Ext w0 w') _ _ _ _ ?_)) Qj4;exact Qjz (K:=Dh ks (VG C k)) hN.1 hB2 (fun c a w d v hq=>hq.elim) (fun e a w n ha hv=>Qeq ks ha hv) t _ _ e _ w (n+1) hB1 ha.bare hx (h _ fun _ _ hv=>hv)
end
def Qup (F:Value->World->Prop) (Pn:List PanicEntry->World->Prop) (e:Ending) (w':World):Prop :=
 match e with
 | .returned v=>∃ w n,w'=w.drewN n/\F v w
 | .panicked c=>∃ w n,w'=w.drewN n/\Pn c w
 | .outgrown=>False
def DoesP (P:Program) (f:FuncId) (args:Array Value) (w:World) (F:Value->World->Prop) (Pn:List PanicEntry->World->Prop):Prop :=
 ∀ n,Calls P f args (w.drewN n) (Qup F Pn)
def Wr:List PanicEntry->World->Prop:=fun _ _=>False
theorem DoesP.does {P:Program}{f:FuncId}{args:Array Value}{w:World}{F:Value->World->Prop} (h:DoesP P f args w F Wr):Does P f args w F :=
 fun n=>(h n).mono fun e w' he=>by
  cases e with
  | returned v=>obtain ⟨w1,m,rfl,hF⟩:=he;exact ⟨v,w1,m,rfl,rfl,hF⟩
  | panicked c=>obtain ⟨_,_,_,hF⟩:=he;exact hF.elim
  | outgrown=>exact he.elim
theorem DoesP.mono {P:Program}{f:FuncId}{args:Array Value}{w:World}{F G:Value->World->Prop}{Pn Qn:List PanicEntry->World->Prop} (h:DoesP P f args w F Pn) (hg:∀ v w',F v w'->G v w') (hp:∀ c w',Pn c w'->Qn c w'):DoesP P f args w G Qn :=
 fun n=>(h n).mono fun e w' he=>by
  cases e with
  | returned v=>obtain ⟨w1,m,hw,hF⟩:=he;exact ⟨w1,m,hw,hg _ _ hF⟩
  | panicked c=>obtain ⟨w1,m,hw,hF⟩:=he;exact ⟨w1,m,hw,hp _ _ hF⟩
  | outgrown=>exact he.elim
abbrev Tf (P:Program) (fn:Func) (F:Value->World->Prop) (Pn:List PanicEntry->World->Prop):Exit->Act->World->Prop:=bodyPostM Fence.wide 0 P fn (Qup F Pn)
theorem Qay {P:Program}{f:FuncId}{fn:Func}{c:Code}{args:LV}{w:World}{F:Value->World->Prop}{Pn:List PanicEntry->World->Prop} (N:Nat)
  (hf:P.funcs[f]? = some fn) (hb:fn.body=some c) (hN:fn.ntmps=N) (hle:args.length<=N)
  (h:VG ⟨P,N,none,[],Tf P fn F Pn⟩ [.code c] (Env.ofArgs 0 args) w):DoesP P f args.toArray w F Pn:=by
 intro n;refine callsIn_wide.1 (callsIn_of_wp_marks (F:=Fence.wide) (n:=0) hf hb trivial ?_ rfl);have h1:=h { tmps:=args.toArray++Array.replicate (fn.ntmps - args.toArray.size) undef,defers:=[] } n ⟨by simp [hN];omega,rfl,fun t v ht=>?_⟩
 ·
  exact wpIn_mono (F:=Fence.wide) h1 fun ex a w hq=>hq
 have:=(Env.find?_ofArgs args 0 t v ht).2;rw [Array.getD_eq_getD_getElem?,Array.getElem?_append]
 have hlt:t < args.toArray.size:=by
  have h2:=(Uy.1 this).1;simpa using h2
 simp only [hlt,if_true];simp at this ⊢;simp [this]
theorem Qer {P:Program}{f:FuncId}{fn:Func}{c:Code}{args:LV}{w:World}{F:Value->World->Prop} (N:Nat)
  (hf:P.funcs[f]? = some fn) (hb:fn.body=some c) (hN:fn.ntmps=N) (hle:args.length<=N)
  (h:VG ⟨P,N,none,[],Tf P fn F Wr⟩ [.code c] (Env.ofArgs 0 args) w):Does P f args.toArray w F:=(Qay N hf hb hN hle h).does
def Ny (r:Nat):Deferred:={ target:=.collected r,args:=#[] }
theorem Qif {P:Program}{fn:Func}{F:Value->World->Prop}{Pn:List PanicEntry->World->Prop}{N:Nat}{e:Env}{w:World}{D:List Deferred} (hx:VX ⟨P,fn,F,N⟩ [] .ret e w) {a:Act}{n:Nat} (ha:FitsG N D e a) :
  LeavesInM Fence.wide 0 P fn a.tmps (Qup F Pn) [] .returning (w.drewN n):=by
 obtain ⟨_,v,hr,v',w1,m,he,hw,hF⟩:=hx _ n ha.bare;cases he;exact ⟨v,hr,w1,m,hw,hF⟩
theorem Ws {P:Program}{fn:Func}{F:Value->World->Prop}{Pn:List PanicEntry->World->Prop}{N:Nat}{e:Env}{w:World} (hx:VX ⟨P,fn,F,N⟩ [] .ret e w) :
  ∀ a n,FitsG N [] e a->Tf P fn F Pn .ret a (w.drewN n):=fun a n ha=>by
 show LeavesInM _ _ _ _ _ _ a.defers _ _
 rw [ha.defers];exact Qif hx ha
theorem QQj {P:Program}{fn:Func}{F:Value->World->Prop}{Pn:List PanicEntry->World->Prop}{N:Nat}{e:Env}{w:World} (hx:VX ⟨P,fn,F,N⟩ [] .ret e w) :
  ∀ a n,FitsG N [] e a->Tf P fn F Pn .normal a (w.drewN n):=Ws hx
theorem QQ2 {P:Program}{fn:Func}{F:Value->World->Prop}{Pn:List PanicEntry->World->Prop}{N:Nat}{e:Env}{w:World}{r:Nat} (hm:w.heap[r]? = some (.deferred (some []))) (hx:VX ⟨P,fn,F,N⟩ [] .ret e (w.putObj r (.deferred none))) :
  ∀ a n,FitsG N [Ny r] e a->Tf P fn F Pn .ret a (w.drewN n):=fun a n ha=>by
 show LeavesInM _ _ _ _ _ _ a.defers _ _
 rw [ha.defers];exact ⟨by simp,.inl ⟨r,(w.putObj r (.deferred none)).drewN n,rfl,run_takeDeferred (w:=w.drewN n) hm,Qif hx ha⟩⟩
def Wi (C:F8) (o:Oper) (e:Env) (w:World) (R:Value->World->Prop):Prop :=
 ∀ (a:Act) (n:Nat) (next:Act->World->Prop) (Q:Exit->Act->World->Prop),FitsG C.N C.D e a->(∀ (v:Value) (w':World) (m:Nat),R v w'->next (a.put o.dst v) (w'.drewN m)) ->
  (∀ (c:List PanicEntry) (w':World) (m:Nat),C.post (.panic c) a (w'.drewN m)->Q (.panic c) a (w'.drewN m))->o.wpIn (Ig C.L) 0 C.P a (w.drewN n) next Q
def spC (A:Env->World->Prop):Env->World->Prop:=A
theorem QCt {P:Program}{N:Nat}{ops:List Oper}{e:Env}{w:World} (A:Env->World->Prop):At P N ops [] e w (spC A)=A e w:=rfl
theorem Qfw {F:Fence}{n:Nat}{P:Program}{ops:Array Oper}{Q:Exit->Act->World->Prop} (l2:List Oper):∀ (l1:List Oper) (a:Act) (w:World),
  wpListIn F n P ops (Exit.then (wpListIn F n P ops Q l2) Q) l1 a w->wpListIn F n P ops Q (l1++l2) a w:=by
 intro l1
 induction l1 with
 | nil=>intro a w h;exact h
 | cons o l1 ih =>
  intro a w h;simp only [wpListIn,Yv] at h ⊢;split
  ·
   rename_i hw;rw [if_pos hw] at h;obtain ⟨h1,h2⟩:=h;refine ⟨h1,?_⟩
   revert h2
   generalize (o.semAt F.round a.eval).run P w=r;intro h2;cases r with
   | ok x w' =>
    cases x <;> simp only [Oper.uponIn] at h2 ⊢ <;>
     first
      | exact ih _ _ h2
      | exact ⟨h2.1,CallsIn.mono h2.2 (fun e w'' he=>by cases e <;> first | exact ih _ _ he | exact he | (obtain ⟨a0,w0,he⟩:=he;exact ⟨a0,w0,he⟩))⟩
      | exact ⟨h2.1,RowsIn.mono h2.2 (fun _ _ he=>ih _ _ he)⟩
      | exact ⟨h2.1,RoundIn.mono h2.2 (fun e w'' he=>by cases e <;> first | exact ih _ _ he | exact he | (obtain ⟨a0,w0,he⟩:=he;exact ⟨a0,w0,he⟩))⟩
      | exact h2
   | halt x w'=>cases x <;> simp only [Oper.uponIn] at h2 ⊢ <;> exact h2
  rename_i hw;rw [if_neg hw] at h;exact ⟨h.1,ih _ _ h.2⟩
theorem Qg2 {P:Program}{L:Option Nat}{D:List Deferred}{Q:Exit->Act->World->Prop}{ops:Array Oper}:∀ (l:List Oper) (a:Act) (w:World),l.all Ld=true ->
  wpList P ops (P6 D Q) l a w->wpListIn (Ig L) 0 P ops Q l (a.app D) w:=by
 intro l
 induction l with
 | nil=>intro a w _ h;exact h.2
 | cons o l ih =>
  intro a w hd h;simp only [List.all_cons,Y5] at hd;simp only [wpList,wpListIn] at h ⊢;have ht:(a.app D).tmps=a.tmps:=rfl;rw [ht];split
  ·
   rename_i hw;rw [if_pos hw] at h;rcases h with h | ⟨_,_,_,h⟩
   ·
    exact QAn hd.1 (fun a w=>ih a w hd.2) h
   exact h.elim
  rename_i hw;rw [if_neg hw] at h;have h2:=ih _ _ hd.2 h;rw [Po] at h2;exact ⟨fun _ _=>trivial,h2⟩
theorem Qbk {F:Fence}{n:Nat}{P:Program}{ops:Array Oper}{Q Q':Exit->Act->World->Prop} (hq:∀ ex a w,Q ex a w->Q' ex a w):∀ (l:List Oper) (a:Act) (w:World),wpListIn F n P ops Q l a w->wpListIn F n P ops Q' l a w:=by
 intro l
 induction l with
 | nil=>intro a w h;exact hq _ _ _ h
 | cons x l ih =>
  intro a w h;simp only [wpListIn] at h ⊢;split
  ·
   rename_i hw;rw [if_pos hw] at h;obtain ⟨g1,g2⟩:=h;refine ⟨g1,?_⟩
   revert g2
   generalize (x.semAt F.round a.eval).run P w=r;intro g2;cases r with
   | ok y w' =>
    cases y <;> simp only [Oper.uponIn] at g2 ⊢ <;>
     first
      | exact ih _ _ g2
      | exact ⟨g2.1,CallsIn.mono g2.2 (fun e w'' he=>by cases e <;> first | exact ih _ _ he | exact hq _ _ _ he | (obtain ⟨a0,w0,he⟩:=he;exact ⟨a0,w0,hq _ _ _ he⟩))⟩
      | exact ⟨g2.1,RowsIn.mono g2.2 (fun _ _ he=>ih _ _ he)⟩
      | exact ⟨g2.1,RoundIn.mono g2.2 (fun e w'' he=>by cases e <;> first | exact ih _ _ he | exact hq _ _ _ he | (obtain ⟨a0,w0,he⟩:=he;exact ⟨a0,w0,hq _ _ _ he⟩))⟩
      | exact g2
   | halt y w'=>cases y <;> simp only [Oper.uponIn] at g2 ⊢ <;> first | exact hq _ _ _ g2 | exact g2
  rename_i hw;rw [if_neg hw] at h;exact ⟨h.1,ih _ _ h.2⟩
def Wc (C:F8) (ops:List Oper) (R:List Oper->Env->World->Prop) (l:List Oper) (e:Env) (w:World):Prop :=
 match l with
 | o::l'=>M1 ops o.guard e (fun e=>Wi C o e w fun v w=>R l' (e.put o.dst v) w) (fun e=>R l' (e.put o.dst undef) w)
 | []=>False
def Ow (C:F8) (ops:List Oper) (K:Env->World->Prop):LN->List Oper->Env->World->Prop
 | [],l,e,w=>At C.P C.N ops l e w K
 | i::is,l,e,w=>At C.P C.N ops (l.take i) e w (spC fun e w=>Wc C ops (Ow C ops K is) (l.drop i) e w)
def Wd (N:Nat):LN->List Oper->Bool
 | [],l=>l.all (Ct N) && l.all Ld
 | i::is,l=>(l.take i).all (Ct N) && (l.take i).all Ld && match l.drop i with
  | o::l'=>Ct N o && Wd N is l'
  | []=>false
theorem QH7 {C:F8}{ops l:List Oper}{K:Env->World->Prop}{e:Env}{w:World}:Ow C ops K [] l e w=At C.P C.N ops l e w K:=rfl
theorem Qtp {C:F8}{ops l:List Oper}{K:Env->World->Prop}{e:Env}{w:World} (i:Nat) (is:LN):Ow C ops K (i::is) l e w=At C.P C.N ops (l.take i) e w (spC fun e w=>Wc C ops (Ow C ops K is) (l.drop i) e w):=rfl
theorem QMv {C:F8}{ops l:List Oper}{R:List Oper->Env->World->Prop}{e:Env}{w:World} (d:Option Tmp) (op:Op) (ty:Nat) (pos:String) (af:Array Edge):Wc C ops R (⟨d,op,ty,pos,af,none⟩::l) e w=Wi C ⟨d,op,ty,pos,af,none⟩ e w fun v w=>R l (e.put d v) w:=rfl
theorem QH8 {C:F8}{ops l:List Oper}{R:List Oper->Env->World->Prop}{e:Env}{w:World} (d:Option Tmp) (op:Op) (ty:Nat) (pos:String) (af:Array Edge) (j:Nat) (b:Bool):Wc C ops R (⟨d,op,ty,pos,af,some (j,b)⟩::l) e w=B8 ops j b e (fun e=>Wi C ⟨d,op,ty,pos,af,some (j,b)⟩ e w fun v w=>R l (e.put d v) w) (fun e=>R l (e.put d undef) w):=by
 rw [<- Cv];rfl
theorem Qq9 {C:F8}{ops:List Oper}{Q:Exit->Act->World->Prop}{K:Env->World->Prop} (hQ:∀ c a w,C.post (.panic c) a w->Q (.panic c) a w)
  (hK:∀ e a w n,FitsG C.N C.D e a->K e w->Q .normal a (w.drewN n)):∀ (is:LN) (l:List Oper) (e:Env) (a:Act) (w:World) (n:Nat),Wd C.N is l=true->FitsG C.N C.D e a ->
   Ow C ops K is l e w->wpListIn (Ig C.L) 0 C.P ops.toArray Q l a (w.drewN n):=by
 intro is
 induction is with
 | nil =>
  intro l e a w n hl ha h;simp only [Wd,Y5] at hl
  have hA:=Tz (P:=C.P) (N:=C.N) (ops:=ops) (Q:=P6 C.D fun ex a w=>match ex with | .normal=>Q .normal a w | _=>False) (K:=K)
   (fun e a w n ha hv=>⟨ha.defers,hK e _ w n (FitsG.of ha) hv⟩) l e _ w n hl.1 ha.bare h
  have hB:=Qg2 (L:=C.L) _ _ _ hl.2 hA;rw [ha.app] at hB;refine Qbk (fun ex a w hq=>?_) _ _ _ hB;cases ex <;> first | exact hq | exact hq.elim
 | cons i is ih =>
  intro l e a w n hl ha h;simp only [Wd,Y5] at hl;obtain ⟨⟨h1,h2⟩,h3⟩:=hl;cases hd:l.drop i with
  | nil=>rw [hd] at h3;cases h3
  | cons o l' =>
   rw [hd] at h3;simp only [Y5] at h3;rw [<- Yy i l,hd];refine Qfw _ _ _ _ ?_;rw [Qtp,hd] at h
   have hA:=Tz (P:=C.P) (N:=C.N) (ops:=ops) (Q:=P6 C.D fun ex a w=>match ex with
     | .normal=>∃ e w0 n,w=w0.drewN n/\FitsG C.N C.D e a/\Wc C ops (Ow C ops K is) (o::l') e w0
     | _=>False)
    (fun e a w n ha hv=>⟨ha.defers,e,w,n,rfl,FitsG.of ha,hv⟩) (l.take i) e _ w n h1 ha.bare h
   have hB:=Qg2 (L:=C.L) _ _ _ h2 hA;rw [ha.app] at hB;refine Qbk (fun ex a w hq=>?_) _ _ _ hB;cases ex with
   | normal =>
    obtain ⟨e1,w1,m,rfl,hf,hs⟩:=hq
    show wpListIn _ _ _ _ _ (o::l') a _
    simp only [wpListIn]
    have hput:∀ (e2:Env) (v:Value),FitsG C.N C.D e2 a->FitsG C.N C.D (e2.put o.dst v) (a.put o.dst v):=fun e2 v hf2=>by
     have g1:=hf2.bare.put' h3.1 v;have g2:=FitsG.of (D:=C.D) g1;rw [Po,hf2.app] at g2;exact g2
    have hfa:∀ e2,Fits C.N e2 { a with defers:=[] }->FitsG C.N C.D e2 a:=fun e2 g=>⟨g.size,hf.defers,g.at_⟩;have hs':M1 ops o.guard e1 (fun e=>Wi C o e w1 fun v w=>Ow C ops K is l' (e.put o.dst v) w) (fun e=>Ow C ops K is l' (e.put o.dst undef) w1):=hs;rcases Pf hf.bare hs' with ⟨e2,g1,g2,hw⟩ | ⟨e2,g1,g2,hw⟩
    ·
     rw [if_pos hw];exact g2 a m _ _ (hfa e2 g1) (fun v w' m' hv=>ih l' _ _ w' m' h3.2 (hput e2 v (hfa e2 g1)) hv) (fun c w' m' hp=>hQ _ _ _ hp)
    rw [if_neg (by rw [hw];simp)];exact ⟨fun _ _=>trivial,ih l' _ _ w1 m h3.2 (hput e2 undef (hfa e2 g1)) g2⟩
   | _=>exact hq.elim
section
variable {C:F8}{k:List It}{e:Env}{w:World}
theorem Qg3 (ks:LN) (is:LN) {id:Nat}{ops:List Oper} (hN:Wd C.N is ops=true)
  (h:∀ K:Env->World->Prop,(∀ e w,VG C k e w->K e w)->Ow C ops (Dh ks K) is ops e w):VG C (.code (.region id ops.toArray false)::k) e w:=by
 intro a n ha;refine wpIn_region_lit ?_;exact Qq9 (Q:=fun ex a w=>Em C k ex a w) (K:=Dh ks (VG C k)) (fun c a w hp=>Qnw.2 hp) (fun e a w n ha hv=>((Kj ks e _).1 hv) a n (ha.sel ks)) is ops e a w n hN ha (h _ fun _ _ hv=>hv)
variable {d:Option Tmp}{ty:Nat}{pos:String}{af:Array Edge}{gd:Option (Nat×Bool)}{R:Value->World->Prop}
def CallP (C:F8) (e:Env) (fv:Value) (vs:LV) (w:World) (R:Value->World->Prop):Prop :=
 ∃ f first cs,fv=.func (.func f) first cs/\(∀ args w,(callFunc f args).run C.P w=.ok (.enter f args) w)/\∃ F Pn,DoesP C.P f (first.toList++vs++cs.toList).toArray w F Pn/\(∀ v w',F v w'->R v w')/\(∀ c w',Pn c w'->∀ a n,FitsG C.N C.D e a->C.post (.panic c) a (w'.drewN n))
theorem CallP.mk {f:FuncId}{first cs:Array Value}{vs:LV}{F:Value->World->Prop}{Pn:List PanicEntry->World->Prop} (hf:∀ args w,(callFunc f args).run C.P w=.ok (.enter f args) w)
  (h:DoesP C.P f (first.toList++vs++cs.toList).toArray w F Pn) (hc:∀ v w',F v w'->R v w') (hp:∀ c w',Pn c w'->∀ a n,FitsG C.N C.D e a->C.post (.panic c) a (w'.drewN n)):CallP C e (.func (.func f) first cs) vs w R :=
 ⟨f,first,cs,rfl,hf,F,Pn,h,hc,hp⟩
def YieldK (P:Program) (l:Nat) (vs:LV) (w:World) (R:Value->World->Prop):Prop :=
 ∀ n,∃ fn tmps assign body,(Instr.yield l vs.toArray).run P (w.drewN n)=.ok (.round l fn tmps assign body) (w.drewN n) /\
  RoundIn Fence.wide 0 P l fn tmps assign body (w.drewN n) fun e w'=>∃ v w1 m,e=.returned v/\w'=w1.drewN m/\R v w1
theorem YieldK.mono {P:Program}{l:Nat}{vs:LV}{w:World}{R R':Value->World->Prop} (h:YieldK P l vs w R) (hr:∀ v w',R v w'->R' v w'):YieldK P l vs w R':=fun n=>by
 obtain ⟨fn,tmps,az,bd,h1,h2⟩:=h n;exact ⟨fn,tmps,az,bd,h1,h2.mono fun e w' ⟨v,w1,m,he,hw,hR⟩=>⟨v,w1,m,he,hw,hr _ _ hR⟩⟩
theorem Qes {x:Operand}{az:Array Operand}{ts:Array TypeId}
  (h:Am e x fun fv=>Cz e az.toList fun vs=>∃ l,fv=.func (.yield l) #[] #[]/\YieldK C.P l vs w R) :
  Wi C ⟨d,.call { callee:=.value x,args:=az,argTypes:=ts },ty,pos,af,gd⟩ e w R:=by
 intro a n next Q ha hK hP;have h0:=Cp ha.bare h;have h1:=Lt ha.bare h0;obtain ⟨l,hx,hY⟩:=h1;have ev:({ a with defers:=[] }:Act).eval=a.eval:=by funext x;cases x <;> rfl
 rw [ev] at hx hY;obtain ⟨fn,tmps,asg,bd,hy,hR⟩:=hY n;have hm:(az.map a.eval)=(az.toList.map a.eval).toArray:=Nl az a
 have hrun:(execOp a.eval ⟨d,.call { callee:=.value x,args:=az,argTypes:=ts },ty,pos,af,gd⟩).run C.P (w.drewN n)=.ok (.round l fn tmps asg bd) (w.drewN n):=by
  simp only [execOp,resolve,hx,Deferred.ofValue,Sem.run_bind,Sem.run_pure,Hg,invoke,hm];simpa using hy
 refine ⟨fun _ _=>trivial,?_⟩;rw [Oper.semAt_eq _ _ _ (fun c hc=>by cases hc),hrun];refine ⟨by simp [Ig,Fence.wide],?_⟩;refine RoundIn.mono (F:=Ig C.L) (show RoundIn (Ig C.L) (0 - 1) C.P l fn tmps asg bd (w.drewN n) _ from hR) fun e' w' he=>?_;obtain ⟨v,w1,m,rfl,rfl,hv⟩:=he;exact hK v w1 m hv
def Qmk:List It->Bool
 | []=>true
 | .again _::_=>false
 | _::k=>Qmk k
theorem Qtq (D:List Deferred) {k:List It} (hk:Qmk k=true):∀ {ex:Exit}{a:Act}{w:World},Em { C with D:=D } k ex a w ↔ Em C k ex a w:=by
 induction k with
 | nil=>intro ex a w;exact Iff.rfl
 | cons x k ih =>
  intro ex a w;cases x with
  | again I=>cases hk
  | blk id =>
   have ih:=fun {ex a w}=>@ih hk ex a w;cases ex <;> first | exact ih | skip
   rename_i id';simp only [Em];split
   ·
    exact ih
   exact ih
  | code c =>
   have ih:=fun {ex a w}=>@ih hk ex a w;cases ex <;> first | exact ih | skip
   simp only [Em];constructor
   ·
    exact fun h=>wpIn_mono h fun ex a w hq=>ih.1 hq
   exact fun h=>wpIn_mono h fun ex a w hq=>ih.2 hq
theorem Qcv {P:Program}{N:Nat}{D:List Deferred}{post:Exit->Act->World->Prop}{g:Operand}{ps:Array Tmp}{assign body:Code} (hk:Qmk k=true) {gf:FuncId}{first cs:Array Value}
  (hg:Am e g fun v=>v=Uf (.func gf) first cs) (hf:∀ args w,(callFunc gf args).run P w=.ok (.enter gf args) w)
  (h:∀ r:Loop,r.state=.ready->r.pending=none->r.params=ps->r.assign=assign->r.body=body->r.defers=w.heap.size->r.tmps.size=N->(∀ t v,e.find? t=some v->r.tmps.getD t undef=v) ->
   DoesP P gf (first.toList++[Uf (.yield (w.heap.size+1)) #[] #[]]++cs.toList).toArray ((w.alloc (.deferred (some []))).alloc (.loop r))
    (fun _ w2=>∃ st pd,w2.heap[w.heap.size+1]? = some (Obj.loop { r with state:=st,pending:=pd })/\st≠.busy /\
     match pd with
     | none=>VG ⟨P,N,none,Ny w.heap.size::D,post⟩ k e (w2.putObj (w.heap.size+1) (.loop { r with state:=.exhausted,pending:=none }))
     | some c=>VG ⟨P,N,none,Ny w.heap.size::D,post⟩ (.code c::k) e (w2.putObj (w.heap.size+1) (.loop { r with state:=.exhausted,pending:=some c }))) Wr) :
  VG ⟨P,N,none,D,post⟩ (.code (.rangeFunc g ps assign body)::k) e w:=by
 intro a n ha;have hge:=ha.eval hg;have hdep:(Ig none).depth.isSome=true->1<=0:=by simp [Ig,Fence.wide]
 refine wpIn_rangeFunc fun fn _=>?_;have hh:=h { state:=.ready,pending:=none,fn:=fn,tmps:=a.tmps,params:=ps,assign:=assign,body:=body,defers:=w.heap.size } rfl rfl rfl rfl rfl rfl ha.size ha.at_;generalize hr:({ state:=.ready,pending:=none,fn:=fn,tmps:=a.tmps,params:=ps,assign:=assign,body:=body,defers:=w.heap.size }:Loop)=r at hh;have he:=run_enterLoop_outer (P:=P) (w:=w.drewN n) fn a.tmps ps assign body;have hsz:(w.drewN n).heap.size=w.heap.size:=rfl;rw [hsz,hr] at he
 have e1:first++#[Uf (.yield (w.heap.size+1)) #[] #[]]++cs=(first.toList++[Uf (.yield (w.heap.size+1)) #[] #[]]++cs.toList).toArray:=by
  apply Array.ext';simp
 refine ⟨w.heap.size+1,[Ny w.heap.size],_,{ target:=.fn (.func gf) cs,args:=first++#[Uf (.yield (w.heap.size+1)) #[] #[]] },((w.alloc (Obj.deferred (some []))).alloc (Obj.loop r)).drewN n,gf,(first.toList++[Uf (.yield (w.heap.size+1)) #[] #[]]++cs.toList).toArray,_,he,?_,fun _ _=>trivial,?_,hdep,Qbj (((hh n)).mono fun ex w3 hex=>?_)⟩
 ·
  have hc:(rangeCall g (w.heap.size+1)).args.map a.eval=#[Uf (.yield (w.heap.size+1)) #[] #[]]:=by simp [rangeCall,Act.eval]
  simp only [resolve,hge,Deferred.ofValue,Sem.run_bind,Sem.run_pure,Hg,hc];rfl
 ·
  simp only [invoke];rw [<- e1];exact hf _ _
 cases ex with
 | outgrown=>exact hex.elim
 | panicked c=>obtain ⟨_,_,_,hx⟩:=hex;exact hx.elim
 | returned v =>
  obtain ⟨w2,m,rfl,st,pd,hl,hst,hv⟩:=hex;have hen:=run_endLoop (P:=P) (w:=w2.drewN m) (l:=w.heap.size+1) (r:={ r with state:=st,pending:=pd }) hl hst;refine ⟨pd,_,hen,?_⟩;have hfit:FitsG N (Ny w.heap.size::D) e { a with defers:=[Ny w.heap.size]++a.defers }:=⟨ha.size,by simp [ha.defers],ha.at_⟩;cases pd with
  | none=>exact (Qtq (C:=⟨P,N,none,D,post⟩) (Ny w.heap.size::D) hk).1 (hv _ m hfit)
  | some c=>exact wpIn_mono (hv _ m hfit) fun ex a _ hq=>(Qtq (C:=⟨P,N,none,D,post⟩) (Ny w.heap.size::D) hk).1 hq
end
def QH9 (P:Program) (l:Nat) (r:Loop) (R:Value->World->Prop):Exit->Act->World->Prop
 | .normal,_,w=>∃ (w0:World) (n:Nat),w=w0.drewN n/\w0.heap[l]? = some (.loop { r with state:=.busy })/\R (.bool true) (w0.putObj l (.loop { r with state:=.ready,pending:=none }))
 | .ret,_,w=>∃ (w0:World) (n:Nat),w=w0.drewN n/\w0.heap[l]? = some (.loop { r with state:=.busy })/\R (.bool false) (w0.putObj l (.loop { r with state:=.done,pending:=some .ret }))
 | .exit id,_,w=>∃ (w0:World) (n:Nat),w=w0.drewN n/\w0.heap[l]? = some (.loop { r with state:=.busy })/\R (.bool false) (w0.putObj l (.loop { r with state:=.done,pending:=some (.exit id) }))
 | _,_,_=>False
theorem Qcw {P:Program}{N l:Nat}{r:Loop}{vs:LV}{w:World}{R:Value->World->Prop}{e:Env} (hl:w.heap[l]? = some (Obj.loop r)) (hst:r.state=.ready) (hsz:r.tmps.size=N) (hps:vs.length=r.params.size)
  (he:∀ t v,e.find? t=some v->((r.params.zip vs.toArray).foldl (fun tmps (t,a)=>tmps.setIfInBounds t a) r.tmps).getD t undef=v)
  (h:VG ⟨P,N,some l,[],fun ex a w=>ex=.normal/\∃ (e0:Env) (w0:World) (n:Nat),w=w0.drewN n/\FitsG N [] e0 a/\w0.heap[l]? = some (.loop r)/\VG ⟨P,N,some l,[],QH9 P l r R⟩ [.code r.body] e0 (w0.putObj l (.loop { r with state:=.busy }))⟩ [.code r.assign] e w) :
  YieldK P l vs w R:=by
 intro n;have hy:=run_yield (P:=P) (w:=w.drewN n) (l:=l) (r:=r) (args:=vs.toArray) hl (by simpa using hps);refine ⟨_,_,_,_,hy,roundIn_of_wpIn trivial ?_⟩
 have hszT:((r.params.zip vs.toArray).foldl (fun tmps (t,a)=>tmps.setIfInBounds t a) r.tmps).size=N:=by
  have key:∀ (l:List (Tmp×Value)) (T:Array Value),(l.foldl (fun tmps (x:Tmp×Value)=>tmps.setIfInBounds x.1 x.2) T).size=T.size:=by
   intro l
   induction l with
   | nil=>intro T;rfl
   | cons x l ih=>intro T;rw [List.foldl_cons,ih];simp
  rw [<- Array.foldl_toList];rw [<- hsz];exact key _ _
 have h1:=h { tmps:=(r.params.zip vs.toArray).foldl (fun tmps (t,a)=>tmps.setIfInBounds t a) r.tmps,defers:=[] } n ⟨hszT,rfl,he⟩;refine wpIn_mono (F:=Fence.wide.inRound l) h1 fun ex a w' hq=>?_;obtain ⟨rfl,e0,w0,m,rfl,hf,hl0,hb⟩:=hq;refine ⟨_,run_beginRound (P:=P) (w:=w0.drewN m) hl0 hst,?_⟩;refine wpIn_mono (F:=Fence.wide.inRound l) (hb a m hf) fun ex a w' hq=>?_;cases ex with
 | normal =>
  obtain ⟨w1,m1,rfl,hl1,hR⟩:=hq;exact ⟨_,_,run_endRound (P:=P) (w:=w1.drewN m1) none hl1,_,_,m1,rfl,rfl,hR⟩
 | ret =>
  obtain ⟨w1,m1,rfl,hl1,hR⟩:=hq;exact ⟨_,_,run_endRound (P:=P) (w:=w1.drewN m1) (some .ret) hl1,_,_,m1,rfl,rfl,hR⟩
 | exit id =>
  obtain ⟨w1,m1,rfl,hl1,hR⟩:=hq;exact ⟨_,_,run_endRound (P:=P) (w:=w1.drewN m1) (some (.exit id)) hl1,_,_,m1,rfl,rfl,hR⟩
 | goto t=>exact hq.elim
 | panic c=>exact hq.elim
 | outgrown=>exact hq.elim
attribute [go_sem ↓] QCt QH7 Qtp QMv QH8
section
variable {P:Program}{w:World}{KV:Value->Prop}
end
theorem Qs {P Q:Prop} (q:Q) (h:P=Q:=by simp only [go_sem,↓reduceIte,reduceEqDiff];exact rfl):P:=h.mpr q
theorem Qo {A B:Prop} (b:B) (a:A:=by omega):A/\B:=⟨a,b⟩
theorem Qp {A B C:Prop} (c:C) (a:A:=by omega) (b:B:=by omega):(A/\B)/\C:=⟨⟨a,b⟩,c⟩
theorem VQ {P:Program}{fn:Func}{F:Value->World->Prop}{N:Nat}{k k':List It}{e:Env}{w:World} (ks:LN) {c:Code}{id:Nat}{ops:List Oper}{Y:(Env->World->Prop)->Prop}
  (h:∀ K:Env->World->Prop,(∀ e w,VC ⟨P,fn,F,N⟩ k' e w->K e w)->Y K)
  (hp:K6 c k=.code (.region id ops.toArray false)::k':=by rfl) (hN:ops.all (Ct N)=true:=by rfl)
  (hY:∀ K,At P N ops ops e w (Dh ks K)=Y K:=by intro K;simp only [go_sem,↓reduceIte,reduceEqDiff];exact rfl):VC ⟨P,fn,F,N⟩ (.code c::k) e w :=
 VR ks hp hN fun K hK=>(hY K).mpr (h K hK)
theorem VB {C:Kv}{k k':List It}{e:Env}{w:World}{c d:Code}{id:Nat} (h:VC C (.code d::.blk id::k') e w) (hp:K6 c k=.code (.block id d)::k':=by rfl):VC C (.code c::k) e w :=
 Q9 c k (hp ▸ Aq h)
theorem Vi {C:Kv}{k:List It}{e:Env}{w:World}{t:Tmp}{b:Bool}{x y:Code} (ht:b=true->VC C (.code x::k) e w) (hf:b=false->VC C (.code y::k) e w) (hv:e.find? t=some (.bool b):=by rfl):VC C (.code (.cond (.tmp t) x y)::k) e w :=
 Ai rfl hv ht hf
theorem Gc {w0 w:World}{B:LN}{G:List Res} (hH:Heap w0 B w G) {ad:Addr}{v:Value}{Q:Value->Prop} (q:Q v)
  (h:Heap w0 B w G->w.cell? ad=some v:=by intro hH;first | exact Af (hH.at 0 rfl) rfl | exact B3 (hH.at 0 rfl) (bytesV_get (by omega)) | exact B3 (hH.at 0 rfl) (Kz (by omega)) | exact Af (hH.at 1 rfl) rfl | exact B3 (hH.at 1 rfl) (bytesV_get (by omega)) | exact B3 (hH.at 1 rfl) (Kz (by omega)) | exact Af (hH.at 2 rfl) rfl | exact B3 (hH.at 2 rfl) (bytesV_get (by omega)) | exact B3 (hH.at 2 rfl) (Kz (by omega)) | exact Af (hH.at 3 rfl) rfl | exact B3 (hH.at 3 rfl) (bytesV_get (by omega)) | exact B3 (hH.at 3 rfl) (Kz (by omega))) :
  ∃ v,w.cell? ad=some v/\Q v:=⟨v,h hH,q⟩
theorem Qi {P Q:Prop} (q:Q) (h:P=Q:=by simp -implicitDefEqProofs only [go_sem,↓reduceIte,reduceEqDiff];exact rfl):P:=h.mpr q
theorem Aj {P:Program}{fn:Func}{F:Value->World->Prop}{N:Nat}{k k':List It}{e:Env}{w:World} (ks:LN) {c:Code}{id:Nat}{ops:List Oper}{Y:(Env->World->Prop)->Prop}
  (h:∀ K:Env->World->Prop,(∀ e w,VC ⟨P,fn,F,N⟩ k' e w->K e w)->Y K) (hp:K6 c k=.code (.region id ops.toArray false)::k':=by rfl) (hN:ops.all (Ct N)=true:=by rfl)
  (hY:∀ K,At P N ops ops e w (Dh ks K)=Y K:=by intro K;simp -implicitDefEqProofs only [go_sem,↓reduceIte,reduceEqDiff];exact rfl):VC ⟨P,fn,F,N⟩ (.code c::k) e w:=VR ks hp hN fun K hK=>(hY K).mpr (h K hK)
theorem VL {P:Program}{fn:Func}{F:Value->World->Prop}{N:Nat}{k k':List It}{e:Env}{w:World} (ks:LN) (m:Nat) {c:Code}{id:Nat}{ops:List Oper}{Y:(Env->World->Prop)->Prop}
  (h:∀ K:Env->World->Prop,(∀ e w,VC ⟨P,fn,F,N⟩ k' e w->K e w)->Y K) (hp:K6 c k=.code (.region id ops.toArray true)::k':=by rfl) (hm:P.follows .mixedOrders=true:=by kernel_rfl)
  (hB:Region.lexTailB .any ops.toArray m=true:=by kernel_rfl) (hq:(ops.take m).all (fun o=>Iw P o.op)=true:=by kernel_rfl) (hN:ops.all (Ct N)=true:=by rfl)
  (hY:∀ K,At P N ops ops e w (Dh ks K)=Y K:=by intro K;simp only [go_sem,↓reduceIte,reduceEqDiff];exact rfl):VC ⟨P,fn,F,N⟩ (.code c::k) e w:=Q9 c k (hp ▸ T6 ks m hm hB hq hN fun K hK=>(hY K).mpr (h K hK))
theorem Vq {P:Program}{fn:Func}{F:Value->World->Prop}{N:Nat}{k k':List It}{e:Env}{w:World} (ks:LN) {c:Code}{id:Nat}{ops:List Oper}{Y:(Env->Prop)->Prop}
  (h:∀ K:Env->Prop,(∀ e,VC ⟨P,fn,F,N⟩ k' e w->K e)->Y K) (hp:K6 c k=.code (.region id ops.toArray true)::k':=by rfl) (hm:P.follows .mixedOrders=true:=by kernel_rfl)
  (hB:Region.lexB .any ops.toArray=true:=by kernel_rfl) (hN:ops.all (Ct N)=true:=by rfl)
  (hY:∀ K,A5 P N ops ops e w (QLi ks K)=Y K:=by intro K;simp only [go_sem,↓reduceIte,reduceEqDiff];exact rfl):VC ⟨P,fn,F,N⟩ (.code c::k) e w:=Q9 c k (hp ▸ Qqn ks hm hB hN fun K hK=>(hY K).mpr (h K hK))
theorem VH {P:Program}{fn:Func}{F:Value->World->Prop}{N:Nat}{k k':List It}{e:Env}{w:World} (w0:World) (hx:Ext w0 w) (ks:LN) (plan:List (Nat×Bool)) {c:Code}{id:Nat}{ops:List Oper}{l:List (Bool×Oper)}{Y:(Env->World->Prop)->Prop}
  (h:∀ K:Env->World->Prop,(∀ e w,VC ⟨P,fn,F,N⟩ k' e w->K e w)->Y K) (hp:K6 c k=.code (.region id ops.toArray true)::k':=by rfl) (hm:P.follows .mixedOrders=true:=by kernel_rfl)
  (hB:(S6 ops.toArray plan (Array.replicate ops.toArray.size false) && Region.noSelect ops.toArray && decide (plan.length<=ops.length))=true:=by kernel_rfl) (hN:ops.all (Ct N)=true:=by rfl) (hl:A6 ops plan=l:=by simp only [A6,List.filterMap_cons,List.filterMap_nil,List.getElem?_cons_succ,List.getElem?_cons_zero,Option.map_some];rfl)
  (hY:∀ K,Av P N ops w0 l e w (Dh ks K)=Y K:=by intro K;simp only [go_sem,↓reduceIte,reduceEqDiff];exact rfl):VC ⟨P,fn,F,N⟩ (.code c::k) e w:=Q9 c k (hp ▸ T5 w0 hx ks plan hm hB hN hl fun K hK=>(hY K).mpr (h K hK))
theorem Vb {P:Program}{fn:Func}{F:Value->World->Prop}{N:Nat}{k k':List It}{e:Env}{w:World} (ks:LN) (plan:List (Nat×Nat)) {c:Code}{id:Nat}{ops:List Oper}{l:List (Bool×Oper)}{Y:(Env->World->Prop)->Prop}
  (h:∀ K:Env->World->Prop,(∀ e w,VC ⟨P,fn,F,N⟩ k' e w->K e w)->Y K) (hp:K6 c k=.code (.region id ops.toArray true)::k':=by rfl) (hm:P.follows .mixedOrders=true:=by kernel_rfl)
  (hB:(Te ops.toArray plan (Array.replicate ops.toArray.size false) && Region.noSelect ops.toArray && decide (plan.length<=ops.length))=true:=by kernel_rfl) (hN:ops.all (Ct N)=true:=by kernel_rfl) (hl:A6 ops (plan.map fun p=>(p.1,p.2 == 0))=l:=by simp only [A6,List.map_cons,List.map_nil,beq_self_eq_true,Nat.reduceBEq,List.filterMap_cons,List.filterMap_nil,List.getElem?_cons_succ,List.getElem?_cons_zero,Option.map_some];rfl)
  (hY:∀ K,Av P N ops (bare w) l e w (Dh ks K)=Y K:=by intro K;simp only [go_sem,↓reduceIte,reduceEqDiff];exact rfl):VC ⟨P,fn,F,N⟩ (.code c::k) e w:=Q9 c k (hp ▸ Qw ks plan hm hB hN hl fun K hK=>(hY K).mpr (h K hK))
theorem V3 {P:Program}{fn:Func}{F:Value->World->Prop}{N:Nat}{k k':List It}{e:Env}{w:World} (w0:World) (hx:Ext w0 w) (ks:LN) (t:Nx) {c:Code}{id:Nat}{ops:List Oper}
  (h:∀ K:Env->World->Prop,(∀ e w,VC ⟨P,fn,F,N⟩ k' e w->K e w)->Lm P N ops w0 t e w (Dh ks K)) (hp:K6 c k=.code (.region id ops.toArray true)::k':=by rfl) (hm:P.follows .mixedOrders=true:=by kernel_rfl)
  (hB:(Mz ops.toArray t ops.toArray.size (Array.replicate ops.toArray.size false) && Region.noSelect ops.toArray)=true:=by kernel_rfl) (hN:ops.all (Ct N)=true:=by rfl):VC ⟨P,fn,F,N⟩ (.code c::k) e w:=Q9 c k (hp ▸ Qnu w0 hx ks t hm hB hN h)
theorem Qtr {C:F8}{e:Env}{w:World}:∀ (c:Code) (k:List It),VG C (K6 c k) e w->VG C (.code c::k) e w:=by
 intro c
 induction c with
 | seq a b iha ihb=>intro k h;exact Bl (iha _ h)
 | _=>intro k h;exact h
theorem GQ {C:F8}{k k':List It}{e:Env}{w:World} (ks:LN) {c:Code}{id:Nat}{ops:List Oper}{Y:(Env->World->Prop)->Prop}
  (h:∀ K:Env->World->Prop,(∀ e w,VG C k' e w->K e w)->Y K) (hp:K6 c k=.code (.region id ops.toArray false)::k':=by rfl) (hN:(ops.all (Ct C.N) && ops.all Ld)=true:=by kernel_rfl)
  (hY:∀ K,At C.P C.N ops ops e w (Dh ks K)=Y K:=by intro K;simp only [go_sem,↓reduceIte,reduceEqDiff];exact rfl):VG C (.code c::k) e w:=Qtr c k (hp ▸ C8 ks hN fun K hK=>(hY K).mpr (h K hK))
theorem En {P:Program}{f:FuncId}{fn:Func}{c:Code}{w:World}{F:Value->World->Prop}{E:Env} (args:LV) (N:Nat) (hf:P.funcs[f]? = some fn) (h:VC ⟨P,fn,F,N⟩ [.code c] E w)
  (hb:fn.body=some c:=by rfl) (hN:fn.ntmps=N:=by rfl) (hle:args.length<=N:=by exact of_decide_eq_true rfl) (hE:Env.ofArgs 0 args=E:=by simp only [Env.ofArgs];exact rfl):Does P f args.toArray w F :=
 Qu N hf hb hN hle (hE ▸ h)
theorem VD {C:Kv}{k:List It}{e:Env}{w:World}{t:Tmp}{p:Prop}{d:Decidable p}{x y:Code} (ht:p->VC C (.code x::k) e w) (hf:¬p->VC C (.code y::k) e w) (hv:e.find? t=some (.bool (decide p)):=by rfl):VC C (.code (.cond (.tmp t) x y)::k) e w :=
 Ai rfl hv (fun h=>ht (of_decide_eq_true h)) fun h=>hf (of_decide_eq_false h)
theorem VS {P:Program}{fn:Func}{F:Value->World->Prop}{N:Nat}{k k':List It}{e e':Env}{w w':World} (ks:LN) {c:Code}{id:Nat}{ops:List Oper} (h:VC ⟨P,fn,F,N⟩ k' e' w')
  (hp:K6 c k=.code (.region id ops.toArray false)::k':=by rfl) (hN:ops.all (Ct N)=true:=by rfl)
  (hY:∀ K:Env->World->Prop,K e' w'->At P N ops ops e w (Dh ks K):=by intro K h;simp only [go_sem,↓reduceIte,reduceEqDiff];(repeat refine Qo ?_);exact h):VC ⟨P,fn,F,N⟩ (.code c::k) e w :=
 VR ks hp hN fun K hK=>hY K (hK _ _ h)
theorem GS {C:F8}{k k':List It}{e e':Env}{w w':World} (ks:LN) {c:Code}{id:Nat}{ops:List Oper} (h:VG C k' e' w')
  (hp:K6 c k=.code (.region id ops.toArray false)::k':=by rfl) (hN:(ops.all (Ct C.N) && ops.all Ld)=true:=by kernel_rfl)
  (hY:∀ K:Env->World->Prop,K e' w'->At C.P C.N ops ops e w (Dh ks K):=by intro K h;simp only [go_sem,↓reduceIte,reduceEqDiff];(repeat refine Qo ?_);exact h):VG C (.code c::k) e w :=
 Qtr c k (hp ▸ C8 ks hN fun K hK=>hY K (hK _ _ h))
end Go.Eng
namespace Go.Proofs.YtfinjnahapbemaaGreatDoor
open Go Go.Eng
section
variable {w:World}{KV:Value->Prop}
theorem O8:Ya.szo 3=some 1:=by kernel_rfl
theorem ld3 (a:Addr):Bf Ya 3 (.pointer (some a)) w KV=∃ v,w.cell? a=some v/\KV v:=S5 3 a .i64 Y6
theorem QMw (k:IntKind) (n:Int):D9 Ya 3 5 (.int k n) w KV=C9 .u8 n KV:=L0 3 5 _ .u8 k n Y6 Y7
theorem QMx:Dj Ya 3 5=true:=by kernel_rfl
theorem QIa (k:IntKind) (n:Int):D9 Ya 3 52 (.int k n) w KV=C9 .u32 n KV:=L0 3 52 _ .u32 k n Y6 Xm
theorem QIb:Dj Ya 3 52=true:=by kernel_rfl
theorem QCu (k:IntKind) (n:Int):D9 Ya 3 141 (.int k n) w KV=C9 .u64 n KV:=L0 3 141 _ .u64 k n Y6 Up
theorem QCv:Dj Ya 3 141=true:=by kernel_rfl
theorem QCw (k:IntKind) (n:Int):D9 Ya 3 194 (.int k n) w KV=C9 .u64 n KV:=L0 3 194 _ .u64 k n Y6 Xp
theorem QCx:Dj Ya 3 194=true:=by kernel_rfl
theorem QCy (k:IntKind) (n:Int):D9 Ya 3 244 (.int k n) w KV=C9 .u64 n KV:=L0 3 244 _ .u64 k n Y6 Gz
theorem QCz:Dj Ya 3 244=true:=by kernel_rfl
theorem sz4:Ya.szo 4=some 1:=by kernel_rfl
theorem ld4 (a:Addr):Bf Ya 4 (.pointer (some a)) w KV=∃ v,w.cell? a=some v/\KV v:=QCf 4 a Gf
theorem QMy (x y:Operand) (a b:Bool):A3 Ya .eql 4 x y (.bool a) (.bool b) w KV=KV (.bool (decide (a=b))):=QHr 4 x y a b Gf
theorem QMz (x y:Operand) (a b:Bool):A3 Ya .neq 4 x y (.bool a) (.bool b) w KV=KV (.bool (decide (¬ a=b))):=QHs 4 x y a b Gf
theorem E5:Ya.szo 5=some 1:=by kernel_rfl
theorem ld5 (a:Addr):Bf Ya 5 (.pointer (some a)) w KV=∃ v,w.cell? a=some v/\KV v:=S5 5 a .u8 Y7
theorem QM0 (k:IntKind) (n:Int):D9 Ya 5 3 (.int k n) w KV=C9 .i64 n KV:=L0 5 3 _ .i64 k n Y7 Y6
theorem QM1:Dj Ya 5 3=true:=by kernel_rfl
theorem QIc (k:IntKind) (n:Int):D9 Ya 5 52 (.int k n) w KV=C9 .u32 n KV:=L0 5 52 _ .u32 k n Y7 Xm
theorem QId:Dj Ya 5 52=true:=by kernel_rfl
theorem QC0 (k:IntKind) (n:Int):D9 Ya 5 194 (.int k n) w KV=C9 .u64 n KV:=L0 5 194 _ .u64 k n Y7 Xp
theorem QC1:Dj Ya 5 194=true:=by kernel_rfl
theorem Tt:Ya.szo 9=some 1:=by kernel_rfl
theorem ln9 (s:ByteArray):Ec Ya 9 (.string s) KV=KV (.int .i64 (A8 s).length):=QHt 9 s Y8
theorem ix9 (s:ByteArray) (k:IntKind) (n:Int):E7 Ya 9 (.string s) (.int k n) KV=((0<=n/\n < (A8 s).length)/\KV (.int .u8 ((A8 s).getD n.toNat 0).toNat)):=QHu 9 s k n Y8
theorem QQ3 (s:ByteArray):Cg Ya 9 (.string s) none none KV=KV (.string s):=QMq 9 s Y8
theorem QQ4 (s:ByteArray) (k:IntKind) (l:Int):Cg Ya 9 (.string s) (some (.int k l)) none KV=((0<=l/\l<=(A8 s).length)/\KV (Ab ((A8 s).drop l.toNat))):=QMr 9 s k l Y8
theorem QQ5 (s:ByteArray) (k:IntKind) (l:Int):Cg Ya 9 (.string s) none (some (.int k l)) KV=((0<=l/\l<=(A8 s).length)/\KV (Ab ((A8 s).take l.toNat))):=QMs 9 s k l Y8
theorem QQ6 (s:ByteArray) (k k':IntKind) (l m:Int):Cg Ya 9 (.string s) (some (.int k l)) (some (.int k' m)) KV=((0<=l/\l<=m/\m<=(A8 s).length)/\KV (Ab (((A8 s).drop l.toNat).take (m.toNat - l.toNat)))):=QMt 9 s k k' l m Y8
theorem ld9 (a:Addr):Bf Ya 9 (.pointer (some a)) w KV=∃ v,w.cell? a=some v/\KV v:=QHw 9 a Y8
theorem QQ7:Ya.szo 22=some 1:=by kernel_rfl
theorem QQ8 (a:OA) (n c:Nat):Ec Ya 22 (.slice a n c) KV=KV (.int .i64 n):=Kb 22 41 a n c Hh
theorem QQ9 (a:Addr) (n c:Nat) (k:IntKind) (i:Int):Cu Ya 22 (.slice (some a) n c) (.int k i) KV=((0<=i/\i < n)/\KV (.pointer (some (a.add (i.toNat * 8))))):=Kc 22 41 a n c 8 k i Hh (by kernel_rfl)
theorem QRa:Ya.szo 25=some 1:=by kernel_rfl
theorem QRb (a:OA) (xo yo:Operand):A3 Ya .eql 25 xo yo (.pointer a) (.pointer none) w KV=KV (.bool a.isNone):=Qm4 U0 a xo yo
theorem QRc (a:OA) (xo yo:Operand):A3 Ya .neq 25 xo yo (.pointer a) (.pointer none) w KV=KV (.bool ! a.isNone):=Qm5 U0 a xo yo
theorem QRd (a:Addr):Bf Ya 25 (.pointer (some a)) w KV=∃ v,w.cell? a=some v/\KV v:=QHx 25 72 a U0
theorem QRe:Ya.szo 26=some 1:=by kernel_rfl
theorem QRf (a:OA) (xo yo:Operand):A3 Ya .eql 26 xo yo (.pointer a) (.pointer none) w KV=KV (.bool a.isNone):=Qm4 Hi a xo yo
theorem QRg (a:OA) (xo yo:Operand):A3 Ya .neq 26 xo yo (.pointer a) (.pointer none) w KV=KV (.bool ! a.isNone):=Qm5 Hi a xo yo
theorem QRh:Ya.szo 27=some 1:=by kernel_rfl
theorem QRi (a:OA) (n c:Nat):Ec Ya 27 (.slice a n c) KV=KV (.int .i64 n):=Kb 27 43 a n c U1
theorem QRj (a:Addr) (n c:Nat) (k:IntKind) (i:Int):Cu Ya 27 (.slice (some a) n c) (.int k i) KV=((0<=i/\i < n)/\KV (.pointer (some (a.add (i.toNat * 2))))):=Kc 27 43 a n c 2 k i U1 (by kernel_rfl)
theorem QRk (a:Addr):Bf Ya 27 (.pointer (some a)) w KV=∃ v,w.cell? a=some v/\KV v:=Mn 27 43 a U1
theorem QRl:Ya.szo 29=some 1:=by kernel_rfl
theorem QRm (a:Addr):Bf Ya 29 (.pointer (some a)) w KV=∃ cs:LV,(cs.length=1/\Reads w a cs)/\KV (.agg cs.toArray):=Lk 29 1 a _ U2 (by kernel_rfl)
theorem QRn (a0:OA) (n0 c0:Nat):Ca Ya 29 [(0,.slice a0 n0 c0)] KV=KV (.agg #[.slice a0 n0 c0]):=Cx (by kernel_rfl)
theorem QRo:Ca Ya 29 [] KV=KV (.agg #[.slice none 0 0]):=Cx (by kernel_rfl)
theorem QIe (l:LV):Be Ya 29 (.agg l.toArray) 0 KV=Bb l 0 KV:=B2 29 0 l U2 rfl (by kernel_rfl) (by kernel_rfl) (by kernel_rfl)
theorem QIf (a:Addr):Ba Ya 29 (.pointer (some a)) 0 KV=KV (.pointer (some (a.add 0))):=Bk 29 0 a (m:=0) U2 rfl (by kernel_rfl)
theorem QRp:Ya.szo 32=some 1:=by kernel_rfl
theorem QRq (a:Addr):Bf Ya 32 (.pointer (some a)) w KV=∃ v,w.cell? a=some v/\KV v:=S5 32 a .i64 Tryz.underlying32
theorem QRr:Ya.szo 37=some 1:=by kernel_rfl
theorem QRs (a:OA) (n c:Nat):Ec Ya 37 (.slice a n c) KV=KV (.int .i64 n):=Kb 37 4 a n c U3
theorem QRt (a:Addr) (n c:Nat) (k:IntKind) (i:Int):Cu Ya 37 (.slice (some a) n c) (.int k i) KV=((0<=i/\i < n)/\KV (.pointer (some (a.add (i.toNat * 1))))):=Kc 37 4 a n c 1 k i U3 (by kernel_rfl)
theorem QRu (a:Addr):Bf Ya 37 (.pointer (some a)) w KV=∃ v,w.cell? a=some v/\KV v:=Mn 37 4 a U3
theorem QRv:Ya.szo 39=some 2:=by kernel_rfl
theorem QRw (n0:Int) (a1:OA) (n1 c1:Nat):Ca Ya 39 [(0,.int .i64 n0),(1,.slice a1 n1 c1)] KV=KV (.agg #[.int .i64 n0,.slice a1 n1 c1]):=Cx (by kernel_rfl)
theorem QRx:Ca Ya 39 [] KV=KV (.agg #[.int .i64 0,.slice none 0 0]):=Cx (by kernel_rfl)
theorem QIg (l:LV):Be Ya 39 (.agg l.toArray) 0 KV=Bb l 0 KV:=B2 39 0 l Ua rfl (by kernel_rfl) (by kernel_rfl) (by kernel_rfl)
theorem QIh (a:Addr):Ba Ya 39 (.pointer (some a)) 0 KV=KV (.pointer (some (a.add 0))):=Bk 39 0 a (m:=0) Ua rfl (by kernel_rfl)
theorem QIi (l:LV):Be Ya 39 (.agg l.toArray) 1 KV=Bb l 1 KV:=B2 39 1 l Ua rfl (by kernel_rfl) (by kernel_rfl) (by kernel_rfl)
theorem QIj (a:Addr):Ba Ya 39 (.pointer (some a)) 1 KV=KV (.pointer (some (a.add 1))):=Bk 39 1 a (m:=0) Ua rfl (by kernel_rfl)
theorem QRy:Ya.szo 41=some 8:=by kernel_rfl
theorem QRz (a:Addr):Bf Ya 41 (.pointer (some a)) w KV=∃ cs:LV,(cs.length=8/\Reads w a cs)/\KV (.agg cs.toArray):=Lk 41 8 a _ Yj (by kernel_rfl)
theorem QIk (l:LV):Be Ya 41 (.agg l.toArray) 0 KV=Bb l 0 KV:=B2 41 0 l Yj rfl (by kernel_rfl) (by kernel_rfl) (by kernel_rfl)
theorem QIl (a:Addr):Ba Ya 41 (.pointer (some a)) 0 KV=KV (.pointer (some (a.add 0))):=Bk 41 0 a (m:=0) Yj rfl (by kernel_rfl)
theorem QIm (l:LV):Be Ya 41 (.agg l.toArray) 1 KV=Bb l 1 KV:=B2 41 1 l Yj rfl (by kernel_rfl) (by kernel_rfl) (by kernel_rfl)
theorem QIn (a:Addr):Ba Ya 41 (.pointer (some a)) 1 KV=KV (.pointer (some (a.add 1))):=Bk 41 1 a (m:=0) Yj rfl (by kernel_rfl)
theorem QIo (l:LV):Be Ya 41 (.agg l.toArray) 2 KV=Bb l 2 KV:=B2 41 2 l Yj rfl (by kernel_rfl) (by kernel_rfl) (by kernel_rfl)
theorem QIp (a:Addr):Ba Ya 41 (.pointer (some a)) 2 KV=KV (.pointer (some (a.add 2))):=Bk 41 2 a (m:=0) Yj rfl (by kernel_rfl)
theorem QIq (l:LV):Be Ya 41 (.agg l.toArray) 3 KV=Bb l 3 KV:=B2 41 3 l Yj rfl (by kernel_rfl) (by kernel_rfl) (by kernel_rfl)
theorem QIr (a:Addr):Ba Ya 41 (.pointer (some a)) 3 KV=KV (.pointer (some (a.add 3))):=Bk 41 3 a (m:=0) Yj rfl (by kernel_rfl)
theorem QIs (l:LV):Be Ya 41 (.agg l.toArray) 4 KV=Bb l 4 KV:=B2 41 4 l Yj rfl (by kernel_rfl) (by kernel_rfl) (by kernel_rfl)
theorem QIt (a:Addr):Ba Ya 41 (.pointer (some a)) 4 KV=KV (.pointer (some (a.add 4))):=Bk 41 4 a (m:=0) Yj rfl (by kernel_rfl)
theorem QIu (l:LV):Be Ya 41 (.agg l.toArray) 5 KV=KV (.agg ((l.take 7).drop 5).toArray):=Nu 41 5 l 2 Yj rfl (by kernel_rfl) (by kernel_rfl) (by kernel_rfl)
theorem QIv (a:Addr):Ba Ya 41 (.pointer (some a)) 5 KV=KV (.pointer (some (a.add 5))):=Bk 41 5 a (m:=1) Yj rfl (by kernel_rfl)
theorem QIw (l:LV):Be Ya 41 (.agg l.toArray) 6 KV=Bb l 7 KV:=B2 41 6 l Yj rfl (by kernel_rfl) (by kernel_rfl) (by kernel_rfl)
theorem QIx (a:Addr):Ba Ya 41 (.pointer (some a)) 6 KV=KV (.pointer (some (a.add 7))):=Bk 41 6 a (m:=0) Yj rfl (by kernel_rfl)
theorem Ti:Ya.szo 43=some 2:=by kernel_rfl
theorem QR0 (a:Addr):Bf Ya 43 (.pointer (some a)) w KV=∃ cs:LV,(cs.length=2/\Reads w a cs)/\KV (.agg cs.toArray):=Lk 43 2 a _ Xy (by kernel_rfl)
theorem QR1 (s0:ByteArray) (s1:ByteArray):Ca Ya 43 [(0,.string s0),(1,.string s1)] KV=KV (.agg #[.string s0,.string s1]):=Cx (by kernel_rfl)
theorem QR2:Ca Ya 43 [] KV=KV (.agg #[.string ⟨#[]⟩,.string ⟨#[]⟩]):=Cx (by kernel_rfl)
theorem QIy (l:LV):Be Ya 43 (.agg l.toArray) 0 KV=Bb l 0 KV:=B2 43 0 l Xy rfl (by kernel_rfl) (by kernel_rfl) (by kernel_rfl)
theorem QIz (a:Addr):Ba Ya 43 (.pointer (some a)) 0 KV=KV (.pointer (some (a.add 0))):=Bk 43 0 a (m:=0) Xy rfl (by kernel_rfl)
theorem QI0 (l:LV):Be Ya 43 (.agg l.toArray) 1 KV=Bb l 1 KV:=B2 43 1 l Xy rfl (by kernel_rfl) (by kernel_rfl) (by kernel_rfl)
theorem QI1 (a:Addr):Ba Ya 43 (.pointer (some a)) 1 KV=KV (.pointer (some (a.add 1))):=Bk 43 1 a (m:=0) Xy rfl (by kernel_rfl)
theorem QF4:Ya.szo 52=some 1:=by kernel_rfl
theorem QR3 (a:Addr):Bf Ya 52 (.pointer (some a)) w KV=∃ v,w.cell? a=some v/\KV v:=S5 52 a .u32 Xm
theorem QI2 (k:IntKind) (n:Int):D9 Ya 52 5 (.int k n) w KV=C9 .u8 n KV:=L0 52 5 _ .u8 k n Xm Y7
theorem QI3:Dj Ya 52 5=true:=by kernel_rfl
theorem Qyz (k:IntKind) (n:Int):D9 Ya 52 194 (.int k n) w KV=C9 .u64 n KV:=L0 52 194 _ .u64 k n Xm Xp
theorem Qy0:Dj Ya 52 194=true:=by kernel_rfl
theorem QLj:Ya.szo 54=some 5:=by kernel_rfl
theorem QR4 (a:Addr):Bf Ya 54 (.pointer (some a)) w KV=∃ cs:LV,(cs.length=5/\Reads w a cs)/\KV (.agg cs.toArray):=Lk 54 5 a _ Yr (by kernel_rfl)
theorem QR5 (s0:ByteArray) (n1:Int) (n2:Int) (n3:Int) (n4:Int):Ca Ya 54 [(0,.string s0),(1,.int .i64 n1),(2,.int .i64 n2),(3,.int .i64 n3),(4,.int .u32 n4)] KV=KV (.agg #[.string s0,.int .i64 n1,.int .i64 n2,.int .i64 n3,.int .u32 n4]):=Cx (by kernel_rfl)
theorem QR6:Ca Ya 54 [] KV=KV (.agg #[.string ⟨#[]⟩,.int .i64 0,.int .i64 0,.int .i64 0,.int .u32 0]):=Cx (by kernel_rfl)
theorem QI4 (l:LV):Be Ya 54 (.agg l.toArray) 0 KV=Bb l 0 KV:=B2 54 0 l Yr rfl (by kernel_rfl) (by kernel_rfl) (by kernel_rfl)
theorem QI5 (a:Addr):Ba Ya 54 (.pointer (some a)) 0 KV=KV (.pointer (some (a.add 0))):=Bk 54 0 a (m:=0) Yr rfl (by kernel_rfl)
theorem QI6 (l:LV):Be Ya 54 (.agg l.toArray) 1 KV=Bb l 1 KV:=B2 54 1 l Yr rfl (by kernel_rfl) (by kernel_rfl) (by kernel_rfl)
theorem QI7 (a:Addr):Ba Ya 54 (.pointer (some a)) 1 KV=KV (.pointer (some (a.add 1))):=Bk 54 1 a (m:=0) Yr rfl (by kernel_rfl)
theorem QI8 (l:LV):Be Ya 54 (.agg l.toArray) 2 KV=Bb l 2 KV:=B2 54 2 l Yr rfl (by kernel_rfl) (by kernel_rfl) (by kernel_rfl)
theorem QI9 (a:Addr):Ba Ya 54 (.pointer (some a)) 2 KV=KV (.pointer (some (a.add 2))):=Bk 54 2 a (m:=0) Yr rfl (by kernel_rfl)
theorem QJa (l:LV):Be Ya 54 (.agg l.toArray) 3 KV=Bb l 3 KV:=B2 54 3 l Yr rfl (by kernel_rfl) (by kernel_rfl) (by kernel_rfl)
theorem QJb (a:Addr):Ba Ya 54 (.pointer (some a)) 3 KV=KV (.pointer (some (a.add 3))):=Bk 54 3 a (m:=0) Yr rfl (by kernel_rfl)
theorem QJc (l:LV):Be Ya 54 (.agg l.toArray) 4 KV=Bb l 4 KV:=B2 54 4 l Yr rfl (by kernel_rfl) (by kernel_rfl) (by kernel_rfl)
theorem QJd (a:Addr):Ba Ya 54 (.pointer (some a)) 4 KV=KV (.pointer (some (a.add 4))):=Bk 54 4 a (m:=0) Yr rfl (by kernel_rfl)
theorem QR7:Ya.szo 55=some 1:=by kernel_rfl
theorem QR8 (a:OA) (n c:Nat):Ec Ya 55 (.slice a n c) KV=KV (.int .i64 n):=Kb 55 54 a n c U4
theorem QR9 (a:Addr) (n c:Nat) (k:IntKind) (i:Int):Cu Ya 55 (.slice (some a) n c) (.int k i) KV=((0<=i/\i < n)/\KV (.pointer (some (a.add (i.toNat * 5))))):=Kc 55 54 a n c 5 k i U4 (by kernel_rfl)
theorem QSa (a:Addr):Bf Ya 55 (.pointer (some a)) w KV=∃ v,w.cell? a=some v/\KV v:=Mn 55 54 a U4
theorem QSb:Ya.szo 61=some 1:=by kernel_rfl
theorem QSc (a:OA) (n c:Nat):Ec Ya 61 (.slice a n c) KV=KV (.int .i64 n):=Kb 61 64 a n c Hj
theorem QSd (a:Addr) (n c:Nat) (k:IntKind) (i:Int):Cu Ya 61 (.slice (some a) n c) (.int k i) KV=((0<=i/\i < n)/\KV (.pointer (some (a.add (i.toNat * 2))))):=Kc 61 64 a n c 2 k i Hj (by kernel_rfl)
theorem N6:Ya.szo 64=some 2:=by kernel_rfl
theorem QSe (a:Addr):Bf Ya 64 (.pointer (some a)) w KV=∃ cs:LV,(cs.length=2/\Reads w a cs)/\KV (.agg cs.toArray):=Lk 64 2 a _ Xz (by kernel_rfl)
theorem QSf (n0:Int) (n1:Int):Ca Ya 64 [(0,.int .i64 n0),(1,.int .i64 n1)] KV=KV (.agg #[.int .i64 n0,.int .i64 n1]):=Cx (by kernel_rfl)
theorem QSg:Ca Ya 64 [] KV=KV (.agg #[.int .i64 0,.int .i64 0]):=Cx (by kernel_rfl)
theorem QJe (l:LV):Be Ya 64 (.agg l.toArray) 0 KV=Bb l 0 KV:=B2 64 0 l Xz rfl (by kernel_rfl) (by kernel_rfl) (by kernel_rfl)
theorem QJf (a:Addr):Ba Ya 64 (.pointer (some a)) 0 KV=KV (.pointer (some (a.add 0))):=Bk 64 0 a (m:=0) Xz rfl (by kernel_rfl)
theorem QJg (l:LV):Be Ya 64 (.agg l.toArray) 1 KV=Bb l 1 KV:=B2 64 1 l Xz rfl (by kernel_rfl) (by kernel_rfl) (by kernel_rfl)
theorem QJh (a:Addr):Ba Ya 64 (.pointer (some a)) 1 KV=KV (.pointer (some (a.add 1))):=Bk 64 1 a (m:=0) Xz rfl (by kernel_rfl)
theorem QSh:Ya.szo 65=some 1:=by kernel_rfl
theorem QSi:Ya.szo 69=some 1:=by kernel_rfl
theorem QSj (a:OA) (n c:Nat):Ec Ya 69 (.slice a n c) KV=KV (.int .i64 n):=Kb 69 5 a n c Yw
theorem QM2 (a:OA) (n c:Nat):Cg Ya 69 (.slice a n c) none none KV=(n<=c/\KV (.slice a n c)):=Quj 69 5 a n c 1 Yw (by kernel_rfl)
theorem QM3 (a:OA) (n c:Nat) (k:IntKind) (l:Int):Cg Ya 69 (.slice a n c) (some (.int k l)) none KV=((0<=l/\l<=n/\n<=c)/\KV (.slice (if c=l.toNat then a else a.map (·.add (l.toNat * 1))) (n - l.toNat) (c - l.toNat))):=Quk 69 5 a n c 1 k l Yw (by kernel_rfl)
theorem QM4 (a:OA) (n c:Nat) (k:IntKind) (l:Int):Cg Ya 69 (.slice a n c) none (some (.int k l)) KV=((0<=l/\l<=c)/\KV (.slice a l.toNat c)):=Qul 69 5 a n c 1 k l Yw (by kernel_rfl)
theorem QM5 (a:OA) (n c:Nat) (k k':IntKind) (l m:Int):Cg Ya 69 (.slice a n c) (some (.int k l)) (some (.int k' m)) KV=((0<=l/\l<=m/\m<=c)/\KV (.slice (if c=l.toNat then a else a.map (·.add (l.toNat * 1))) (m.toNat - l.toNat) (c - l.toNat))):=Qum 69 5 a n c 1 k k' l m Yw (by kernel_rfl)
theorem QSk (a:Addr) (n c:Nat) (k:IntKind) (i:Int):Cu Ya 69 (.slice (some a) n c) (.int k i) KV=((0<=i/\i < n)/\KV (.pointer (some (a.add (i.toNat * 1))))):=Kc 69 5 a n c 1 k i Yw (by kernel_rfl)
theorem QSl (a:Addr):Bf Ya 69 (.pointer (some a)) w KV=∃ v,w.cell? a=some v/\KV v:=Mn 69 5 a Yw
theorem QJi (a:OA) (n c:Nat):D9 Ya 69 9 (.slice a n c) w KV=∃ l,Sf w a n l/\KV (Ab l):=QHv 69 9 5 a n c Yw Y8 Y7
theorem QJj:Dj Ya 69 9=true:=by kernel_rfl
theorem QJk:Dj Ya 9 69=false:=by kernel_rfl
theorem QSm:Ya.szo 70=some 1:=by kernel_rfl
theorem QSn (a:OA) (n c:Nat):Ec Ya 70 (.slice a n c) KV=KV (.int .i64 n):=Kb 70 172 a n c U5
theorem QSo (a:Addr) (n c:Nat) (k:IntKind) (i:Int):Cu Ya 70 (.slice (some a) n c) (.int k i) KV=((0<=i/\i < n)/\KV (.pointer (some (a.add (i.toNat * 1))))):=Kc 70 172 a n c 1 k i U5 (by kernel_rfl)
theorem QSp (a:Addr):Bf Ya 70 (.pointer (some a)) w KV=∃ v,w.cell? a=some v/\KV v:=Mn 70 172 a U5
theorem QSq:Ya.szo 72=some 8:=by kernel_rfl
theorem QJl (l:LV):Be Ya 72 (.agg l.toArray) 0 KV=Bb l 0 KV:=B2 72 0 l Ym rfl (by kernel_rfl) (by kernel_rfl) (by kernel_rfl)
theorem QJm (a:Addr):Ba Ya 72 (.pointer (some a)) 0 KV=KV (.pointer (some (a.add 0))):=Bk 72 0 a (m:=0) Ym rfl (by kernel_rfl)
theorem QJn (l:LV):Be Ya 72 (.agg l.toArray) 1 KV=Bb l 1 KV:=B2 72 1 l Ym rfl (by kernel_rfl) (by kernel_rfl) (by kernel_rfl)
theorem QJo (a:Addr):Ba Ya 72 (.pointer (some a)) 1 KV=KV (.pointer (some (a.add 1))):=Bk 72 1 a (m:=0) Ym rfl (by kernel_rfl)
theorem QJp (l:LV):Be Ya 72 (.agg l.toArray) 2 KV=Bb l 2 KV:=B2 72 2 l Ym rfl (by kernel_rfl) (by kernel_rfl) (by kernel_rfl)
theorem QJq (a:Addr):Ba Ya 72 (.pointer (some a)) 2 KV=KV (.pointer (some (a.add 2))):=Bk 72 2 a (m:=0) Ym rfl (by kernel_rfl)
theorem QJr (l:LV):Be Ya 72 (.agg l.toArray) 3 KV=Bb l 3 KV:=B2 72 3 l Ym rfl (by kernel_rfl) (by kernel_rfl) (by kernel_rfl)
theorem QJs (a:Addr):Ba Ya 72 (.pointer (some a)) 3 KV=KV (.pointer (some (a.add 3))):=Bk 72 3 a (m:=0) Ym rfl (by kernel_rfl)
theorem QJt (l:LV):Be Ya 72 (.agg l.toArray) 4 KV=KV (.agg ((l.take 6).drop 4).toArray):=Nu 72 4 l 2 Ym rfl (by kernel_rfl) (by kernel_rfl) (by kernel_rfl)
theorem QJu (a:Addr):Ba Ya 72 (.pointer (some a)) 4 KV=KV (.pointer (some (a.add 4))):=Bk 72 4 a (m:=1) Ym rfl (by kernel_rfl)
theorem QJv (l:LV):Be Ya 72 (.agg l.toArray) 5 KV=Bb l 6 KV:=B2 72 5 l Ym rfl (by kernel_rfl) (by kernel_rfl) (by kernel_rfl)
theorem QJw (a:Addr):Ba Ya 72 (.pointer (some a)) 5 KV=KV (.pointer (some (a.add 6))):=Bk 72 5 a (m:=0) Ym rfl (by kernel_rfl)
theorem QJx (l:LV):Be Ya 72 (.agg l.toArray) 6 KV=Bb l 7 KV:=B2 72 6 l Ym rfl (by kernel_rfl) (by kernel_rfl) (by kernel_rfl)
theorem QJy (a:Addr):Ba Ya 72 (.pointer (some a)) 6 KV=KV (.pointer (some (a.add 7))):=Bk 72 6 a (m:=0) Ym rfl (by kernel_rfl)
theorem QSr:Ya.szo 76=some 1:=by kernel_rfl
theorem QSs (a:OA) (n c:Nat):Ec Ya 76 (.slice a n c) KV=KV (.int .i64 n):=Kb 76 79 a n c Hk
theorem QSt (a:Addr) (n c:Nat) (k:IntKind) (i:Int):Cu Ya 76 (.slice (some a) n c) (.int k i) KV=((0<=i/\i < n)/\KV (.pointer (some (a.add (i.toNat * 1))))):=Kc 76 79 a n c 1 k i Hk (by kernel_rfl)
theorem QSu:Ya.szo 79=some 1:=by kernel_rfl
theorem QSv (a:OA) (n c:Nat):Ec Ya 79 (.slice a n c) KV=KV (.int .i64 n):=Kb 79 92 a n c U6
theorem QSw (a:Addr) (n c:Nat) (k:IntKind) (i:Int):Cu Ya 79 (.slice (some a) n c) (.int k i) KV=((0<=i/\i < n)/\KV (.pointer (some (a.add (i.toNat * 6))))):=Kc 79 92 a n c 6 k i U6 (by kernel_rfl)
theorem QSx (a:Addr):Bf Ya 79 (.pointer (some a)) w KV=∃ v,w.cell? a=some v/\KV v:=Mn 79 92 a U6
theorem QSy:Ya.szo 84=some 5:=by kernel_rfl
theorem QSz (p0:OA) (n1:Int) (n2:Int) (a3:OA) (n3 c3:Nat) (b4:Bool):Ca Ya 84 [(0,.pointer p0),(1,.int .i64 n1),(2,.int .i64 n2),(3,.slice a3 n3 c3),(4,.bool b4)] KV=KV (.agg #[.pointer p0,.int .i64 n1,.int .i64 n2,.slice a3 n3 c3,.bool b4]):=Cx (by kernel_rfl)
theorem QS0:Ca Ya 84 [] KV=KV (.agg #[.pointer none,.int .i64 0,.int .i64 0,.slice none 0 0,.bool false]):=Cx (by kernel_rfl)
theorem QJz (l:LV):Be Ya 84 (.agg l.toArray) 0 KV=Bb l 0 KV:=B2 84 0 l Yx rfl (by kernel_rfl) (by kernel_rfl) (by kernel_rfl)
theorem QJ0 (a:Addr):Ba Ya 84 (.pointer (some a)) 0 KV=KV (.pointer (some (a.add 0))):=Bk 84 0 a (m:=0) Yx rfl (by kernel_rfl)
theorem QJ1 (l:LV):Be Ya 84 (.agg l.toArray) 1 KV=Bb l 1 KV:=B2 84 1 l Yx rfl (by kernel_rfl) (by kernel_rfl) (by kernel_rfl)
theorem QJ2 (a:Addr):Ba Ya 84 (.pointer (some a)) 1 KV=KV (.pointer (some (a.add 1))):=Bk 84 1 a (m:=0) Yx rfl (by kernel_rfl)
theorem QJ3 (l:LV):Be Ya 84 (.agg l.toArray) 2 KV=Bb l 2 KV:=B2 84 2 l Yx rfl (by kernel_rfl) (by kernel_rfl) (by kernel_rfl)
theorem QJ4 (a:Addr):Ba Ya 84 (.pointer (some a)) 2 KV=KV (.pointer (some (a.add 2))):=Bk 84 2 a (m:=0) Yx rfl (by kernel_rfl)
theorem QJ5 (l:LV):Be Ya 84 (.agg l.toArray) 3 KV=Bb l 3 KV:=B2 84 3 l Yx rfl (by kernel_rfl) (by kernel_rfl) (by kernel_rfl)
theorem QJ6 (a:Addr):Ba Ya 84 (.pointer (some a)) 3 KV=KV (.pointer (some (a.add 3))):=Bk 84 3 a (m:=0) Yx rfl (by kernel_rfl)
theorem QJ7 (l:LV):Be Ya 84 (.agg l.toArray) 4 KV=Bb l 4 KV:=B2 84 4 l Yx rfl (by kernel_rfl) (by kernel_rfl) (by kernel_rfl)
theorem QJ8 (a:Addr):Ba Ya 84 (.pointer (some a)) 4 KV=KV (.pointer (some (a.add 4))):=Bk 84 4 a (m:=0) Yx rfl (by kernel_rfl)
theorem QS1:Ya.szo 86=some 5:=by kernel_rfl
theorem QJ9 (l:LV):Be Ya 86 (.agg l.toArray) 0 KV=KV (.agg ((l.take 5).drop 0).toArray):=Nu 86 0 l 5 Hl rfl (by kernel_rfl) (by kernel_rfl) (by kernel_rfl)
theorem QKa (a:Addr):Ba Ya 86 (.pointer (some a)) 0 KV=KV (.pointer (some (a.add 0))):=Bk 86 0 a (m:=4) Hl rfl (by kernel_rfl)
theorem QF5:Ya.szo 92=some 6:=by kernel_rfl
theorem QS2 (a:Addr):Bf Ya 92 (.pointer (some a)) w KV=∃ cs:LV,(cs.length=6/\Reads w a cs)/\KV (.agg cs.toArray):=Lk 92 6 a _ X0 (by kernel_rfl)
theorem QKb (l:LV):Be Ya 92 (.agg l.toArray) 0 KV=Bb l 0 KV:=B2 92 0 l X0 rfl (by kernel_rfl) (by kernel_rfl) (by kernel_rfl)
theorem QKc (a:Addr):Ba Ya 92 (.pointer (some a)) 0 KV=KV (.pointer (some (a.add 0))):=Bk 92 0 a (m:=0) X0 rfl (by kernel_rfl)
theorem QKd (l:LV):Be Ya 92 (.agg l.toArray) 1 KV=KV (.agg ((l.take 6).drop 1).toArray):=Nu 92 1 l 5 X0 rfl (by kernel_rfl) (by kernel_rfl) (by kernel_rfl)
theorem QKe (a:Addr):Ba Ya 92 (.pointer (some a)) 1 KV=KV (.pointer (some (a.add 1))):=Bk 92 1 a (m:=4) X0 rfl (by kernel_rfl)
theorem QS3:Ya.szo 94=some 1:=by kernel_rfl
theorem QM6:Ya.szo 105=some 1:=by kernel_rfl
theorem QM7:Ya.szo 107=some 1:=by kernel_rfl
theorem QM8 (a:OA) (n c:Nat):Ec Ya 107 (.slice a n c) KV=KV (.int .i64 n):=Kb 107 9 a n c Y9
theorem QKf (a:OA) (n c:Nat):Cg Ya 107 (.slice a n c) none none KV=(n<=c/\KV (.slice a n c)):=Quj 107 9 a n c 1 Y9 (by kernel_rfl)
theorem QKg (a:OA) (n c:Nat) (k:IntKind) (l:Int):Cg Ya 107 (.slice a n c) (some (.int k l)) none KV=((0<=l/\l<=n/\n<=c)/\KV (.slice (if c=l.toNat then a else a.map (·.add (l.toNat * 1))) (n - l.toNat) (c - l.toNat))):=Quk 107 9 a n c 1 k l Y9 (by kernel_rfl)
theorem QKh (a:OA) (n c:Nat) (k:IntKind) (l:Int):Cg Ya 107 (.slice a n c) none (some (.int k l)) KV=((0<=l/\l<=c)/\KV (.slice a l.toNat c)):=Qul 107 9 a n c 1 k l Y9 (by kernel_rfl)
theorem QKi (a:OA) (n c:Nat) (k k':IntKind) (l m:Int):Cg Ya 107 (.slice a n c) (some (.int k l)) (some (.int k' m)) KV=((0<=l/\l<=m/\m<=c)/\KV (.slice (if c=l.toNat then a else a.map (·.add (l.toNat * 1))) (m.toNat - l.toNat) (c - l.toNat))):=Qum 107 9 a n c 1 k k' l m Y9 (by kernel_rfl)
theorem QM9 (a:Addr) (n c:Nat) (k:IntKind) (i:Int):Cu Ya 107 (.slice (some a) n c) (.int k i) KV=((0<=i/\i < n)/\KV (.pointer (some (a.add (i.toNat * 1))))):=Kc 107 9 a n c 1 k i Y9 (by kernel_rfl)
theorem QNa (a:Addr):Bf Ya 107 (.pointer (some a)) w KV=∃ v,w.cell? a=some v/\KV v:=Mn 107 9 a Y9
theorem QNb:Ya.szo 111=some 1:=by kernel_rfl
theorem QNc:Ya.szo 116=some 3:=by kernel_rfl
theorem QNd (a:Addr):Bf Ya 116 (.pointer (some a)) w KV=∃ cs:LV,(cs.length=3/\Reads w a cs)/\KV (.agg cs.toArray):=Lk 116 3 a _ Xa (by kernel_rfl)
theorem QNe (n0:Int) (a1:OA) (n1 c1:Nat) (b2:Bool):Ca Ya 116 [(0,.int .i64 n0),(1,.slice a1 n1 c1),(2,.bool b2)] KV=KV (.agg #[.int .i64 n0,.slice a1 n1 c1,.bool b2]):=Cx (by kernel_rfl)
theorem QNf:Ca Ya 116 [] KV=KV (.agg #[.int .i64 0,.slice none 0 0,.bool false]):=Cx (by kernel_rfl)
theorem QC2 (l:LV):Be Ya 116 (.agg l.toArray) 0 KV=Bb l 0 KV:=B2 116 0 l Xa rfl (by kernel_rfl) (by kernel_rfl) (by kernel_rfl)
theorem QC3 (a:Addr):Ba Ya 116 (.pointer (some a)) 0 KV=KV (.pointer (some (a.add 0))):=Bk 116 0 a (m:=0) Xa rfl (by kernel_rfl)
theorem QC4 (l:LV):Be Ya 116 (.agg l.toArray) 1 KV=Bb l 1 KV:=B2 116 1 l Xa rfl (by kernel_rfl) (by kernel_rfl) (by kernel_rfl)
theorem QC5 (a:Addr):Ba Ya 116 (.pointer (some a)) 1 KV=KV (.pointer (some (a.add 1))):=Bk 116 1 a (m:=0) Xa rfl (by kernel_rfl)
theorem QC6 (l:LV):Be Ya 116 (.agg l.toArray) 2 KV=Bb l 2 KV:=B2 116 2 l Xa rfl (by kernel_rfl) (by kernel_rfl) (by kernel_rfl)
theorem QC7 (a:Addr):Ba Ya 116 (.pointer (some a)) 2 KV=KV (.pointer (some (a.add 2))):=Bk 116 2 a (m:=0) Xa rfl (by kernel_rfl)
theorem QNg:Ya.szo 117=some 6:=by kernel_rfl
theorem QNh (a:Addr) (k:IntKind) (i:Int):Cu Ya 117 (.pointer (some a)) (.int k i) KV=((0<=i/\i < ((2:Nat):Int))/\KV (.pointer (some (a.add (i.toNat * 3))))):=Pz 117 116 a 2 3 k i Tryz.underlying117 (by kernel_rfl)
theorem QNi:Ya.szo 126=some 1:=by kernel_rfl
theorem QNj:Ya.szo 132=some 1:=by kernel_rfl
theorem QNk:Ya.szo 133=some 1:=by kernel_rfl
theorem QNl:Ya.szo 139=some 256:=by kernel_rfl
theorem QNm (a:Addr):Bf Ya 139 (.pointer (some a)) w KV=∃ cs:LV,(cs.length=256/\Reads w a cs)/\KV (.agg cs.toArray):=QF9 139 256 256 52 a Uq (by kernel_rfl)
theorem QKj (l:LV) (k:IntKind) (i:Int):E7 Ya 139 (.agg l.toArray) (.int k i) KV=((0<=i/\i < ((256:Nat):Int))/\Bb l i.toNat KV):=Rg 139 l k i Uq (by kernel_rfl) (by kernel_rfl) (by kernel_rfl)
theorem QNn (a:Addr) (k:IntKind) (i:Int):Cu Ya 139 (.pointer (some a)) (.int k i) KV=((0<=i/\i < ((256:Nat):Int))/\KV (.pointer (some (a.add (i.toNat * 1))))):=Pz 139 52 a 256 1 k i Uq (by kernel_rfl)
theorem QNo:Ya.szo 141=some 1:=by kernel_rfl
theorem QC8 (k:IntKind) (n:Int):D9 Ya 141 3 (.int k n) w KV=C9 .i64 n KV:=L0 141 3 _ .i64 k n Up Y6
theorem QC9:Dj Ya 141 3=true:=by kernel_rfl
theorem Qy1 (k:IntKind) (n:Int):D9 Ya 141 52 (.int k n) w KV=C9 .u32 n KV:=L0 141 52 _ .u32 k n Up Xm
theorem Qy2:Dj Ya 141 52=true:=by kernel_rfl
theorem QNp:Ya.szo 162=some 2:=by kernel_rfl
theorem QNq:Ya.szo 171=some 1:=by kernel_rfl
theorem QGb:Ya.szo 172=some 1:=by kernel_rfl
theorem QKk (a:Addr):Bf Ya 172 (.pointer (some a)) w KV=∃ v,w.cell? a=some v/\KV v:=QF8 172 _ _ _ a G3
theorem QNr (f:Fn) (x y:Array Value) (xo yo:Operand):A3 Ya .eql 172 xo yo (.func f x y) .nilFunc w KV=KV (.bool false):=QAm G3 f x y xo yo
theorem QGc:Ya.szo 181=some 2:=by kernel_rfl
theorem QNs (a:Addr):Bf Ya 181 (.pointer (some a)) w KV=∃ cs:LV,(cs.length=2/\Reads w a cs)/\KV (.agg cs.toArray):=Lk 181 2 a _ Xq (by kernel_rfl)
theorem QNt (s0:ByteArray) (s1:ByteArray):Ca Ya 181 [(0,.string s0),(1,.string s1)] KV=KV (.agg #[.string s0,.string s1]):=Cx (by kernel_rfl)
theorem QNu:Ca Ya 181 [] KV=KV (.agg #[.string ⟨#[]⟩,.string ⟨#[]⟩]):=Cx (by kernel_rfl)
theorem QDa (l:LV):Be Ya 181 (.agg l.toArray) 0 KV=Bb l 0 KV:=B2 181 0 l Xq rfl (by kernel_rfl) (by kernel_rfl) (by kernel_rfl)
theorem QDb (a:Addr):Ba Ya 181 (.pointer (some a)) 0 KV=KV (.pointer (some (a.add 0))):=Bk 181 0 a (m:=0) Xq rfl (by kernel_rfl)
theorem QDc (l:LV):Be Ya 181 (.agg l.toArray) 1 KV=Bb l 1 KV:=B2 181 1 l Xq rfl (by kernel_rfl) (by kernel_rfl) (by kernel_rfl)
theorem QDd (a:Addr):Ba Ya 181 (.pointer (some a)) 1 KV=KV (.pointer (some (a.add 1))):=Bk 181 1 a (m:=0) Xq rfl (by kernel_rfl)
theorem QNv:Ya.szo 182=some 1:=by kernel_rfl
theorem QNw (a:OA) (n c:Nat):Ec Ya 182 (.slice a n c) KV=KV (.int .i64 n):=Kb 182 181 a n c G4
theorem QNx (a:Addr) (n c:Nat) (k:IntKind) (i:Int):Cu Ya 182 (.slice (some a) n c) (.int k i) KV=((0<=i/\i < n)/\KV (.pointer (some (a.add (i.toNat * 2))))):=Kc 182 181 a n c 2 k i G4 (by kernel_rfl)
theorem Nz:Ya.szo 184=some 2:=by kernel_rfl
theorem QNy (a:Addr):Bf Ya 184 (.pointer (some a)) w KV=∃ cs:LV,(cs.length=2/\Reads w a cs)/\KV (.agg cs.toArray):=Lk 184 2 a _ Xr (by kernel_rfl)
theorem QNz (s0:ByteArray) (n1:Int):Ca Ya 184 [(0,.string s0),(1,.int .i64 n1)] KV=KV (.agg #[.string s0,.int .i64 n1]):=Cx (by kernel_rfl)
theorem QN0:Ca Ya 184 [] KV=KV (.agg #[.string ⟨#[]⟩,.int .i64 0]):=Cx (by kernel_rfl)
theorem QDe (l:LV):Be Ya 184 (.agg l.toArray) 0 KV=Bb l 0 KV:=B2 184 0 l Xr rfl (by kernel_rfl) (by kernel_rfl) (by kernel_rfl)
theorem QDf (a:Addr):Ba Ya 184 (.pointer (some a)) 0 KV=KV (.pointer (some (a.add 0))):=Bk 184 0 a (m:=0) Xr rfl (by kernel_rfl)
theorem QDg (l:LV):Be Ya 184 (.agg l.toArray) 1 KV=Bb l 1 KV:=B2 184 1 l Xr rfl (by kernel_rfl) (by kernel_rfl) (by kernel_rfl)
theorem QDh (a:Addr):Ba Ya 184 (.pointer (some a)) 1 KV=KV (.pointer (some (a.add 1))):=Bk 184 1 a (m:=0) Xr rfl (by kernel_rfl)
theorem QN1:Ya.szo 185=some 1:=by kernel_rfl
theorem QN2 (a:OA) (n c:Nat):Ec Ya 185 (.slice a n c) KV=KV (.int .i64 n):=Kb 185 184 a n c Ur
theorem QN3 (a:Addr) (n c:Nat) (k:IntKind) (i:Int):Cu Ya 185 (.slice (some a) n c) (.int k i) KV=((0<=i/\i < n)/\KV (.pointer (some (a.add (i.toNat * 2))))):=Kc 185 184 a n c 2 k i Ur (by kernel_rfl)
theorem QN4 (a:Addr):Bf Ya 185 (.pointer (some a)) w KV=∃ v,w.cell? a=some v/\KV v:=Mn 185 184 a Ur
theorem QN5:Ya.szo 186=some 1:=by kernel_rfl
theorem QN6 (a:OA) (n c:Nat):Ec Ya 186 (.slice a n c) KV=KV (.int .i64 n):=Kb 186 52 a n c Us
theorem QN7 (a:Addr) (n c:Nat) (k:IntKind) (i:Int):Cu Ya 186 (.slice (some a) n c) (.int k i) KV=((0<=i/\i < n)/\KV (.pointer (some (a.add (i.toNat * 1))))):=Kc 186 52 a n c 1 k i Us (by kernel_rfl)
theorem QN8 (a:Addr):Bf Ya 186 (.pointer (some a)) w KV=∃ v,w.cell? a=some v/\KV v:=Mn 186 52 a Us
theorem QN9:Ya.szo 191=some 1:=by kernel_rfl
theorem QOa (a:OA) (xo yo:Operand):A3 Ya .eql 191 xo yo (.pointer a) (.pointer none) w KV=KV (.bool a.isNone):=Qm4 G5 a xo yo
theorem QOb (a:OA) (xo yo:Operand):A3 Ya .neq 191 xo yo (.pointer a) (.pointer none) w KV=KV (.bool ! a.isNone):=Qm5 G5 a xo yo
theorem QOc:Ya.szo 194=some 1:=by kernel_rfl
theorem QOd (a:Addr):Bf Ya 194 (.pointer (some a)) w KV=∃ v,w.cell? a=some v/\KV v:=S5 194 a .u64 Xp
theorem QDi (k:IntKind) (n:Int):D9 Ya 194 5 (.int k n) w KV=C9 .u8 n KV:=L0 194 5 _ .u8 k n Xp Y7
theorem QDj:Dj Ya 194 5=true:=by kernel_rfl
theorem QOe:Ya.szo 199=some 1:=by kernel_rfl
theorem QOf:Ya.szo 215=some 2:=by kernel_rfl
theorem QKl (l:LV) (k:IntKind) (i:Int):E7 Ya 215 (.agg l.toArray) (.int k i) KV=((0<=i/\i < ((2:Nat):Int))/\Bb l i.toNat KV):=Rg 215 l k i G6 (by kernel_rfl) (by kernel_rfl) (by kernel_rfl)
theorem QOg (a:Addr) (k:IntKind) (i:Int):Cu Ya 215 (.pointer (some a)) (.int k i) KV=((0<=i/\i < ((2:Nat):Int))/\KV (.pointer (some (a.add (i.toNat * 1))))):=Pz 215 9 a 2 1 k i G6 (by kernel_rfl)
theorem QOh:Ya.szo 216=some 2:=by kernel_rfl
theorem QKm (l:LV) (k:IntKind) (i:Int):E7 Ya 216 (.agg l.toArray) (.int k i) KV=((0<=i/\i < ((2:Nat):Int))/\Bb l i.toNat KV):=Rg 216 l k i G7 (by kernel_rfl) (by kernel_rfl) (by kernel_rfl)
theorem QOi (a:Addr) (k:IntKind) (i:Int):Cu Ya 216 (.pointer (some a)) (.int k i) KV=((0<=i/\i < ((2:Nat):Int))/\KV (.pointer (some (a.add (i.toNat * 1))))):=Pz 216 3 a 2 1 k i G7 (by kernel_rfl)
theorem QOj:Ya.szo 218=some 10:=by kernel_rfl
theorem QDk (l:LV):Be Ya 218 (.agg l.toArray) 0 KV=Bb l 0 KV:=B2 218 0 l Yh rfl (by kernel_rfl) (by kernel_rfl) (by kernel_rfl)
theorem QDl (a:Addr):Ba Ya 218 (.pointer (some a)) 0 KV=KV (.pointer (some (a.add 0))):=Bk 218 0 a (m:=0) Yh rfl (by kernel_rfl)
theorem QDm (l:LV):Be Ya 218 (.agg l.toArray) 1 KV=Bb l 1 KV:=B2 218 1 l Yh rfl (by kernel_rfl) (by kernel_rfl) (by kernel_rfl)
theorem QDn (a:Addr):Ba Ya 218 (.pointer (some a)) 1 KV=KV (.pointer (some (a.add 1))):=Bk 218 1 a (m:=0) Yh rfl (by kernel_rfl)
theorem QDo (l:LV):Be Ya 218 (.agg l.toArray) 2 KV=Bb l 2 KV:=B2 218 2 l Yh rfl (by kernel_rfl) (by kernel_rfl) (by kernel_rfl)
theorem QDp (a:Addr):Ba Ya 218 (.pointer (some a)) 2 KV=KV (.pointer (some (a.add 2))):=Bk 218 2 a (m:=0) Yh rfl (by kernel_rfl)
theorem QDq (l:LV):Be Ya 218 (.agg l.toArray) 3 KV=Bb l 3 KV:=B2 218 3 l Yh rfl (by kernel_rfl) (by kernel_rfl) (by kernel_rfl)
theorem QDr (a:Addr):Ba Ya 218 (.pointer (some a)) 3 KV=KV (.pointer (some (a.add 3))):=Bk 218 3 a (m:=0) Yh rfl (by kernel_rfl)
theorem QDs (l:LV):Be Ya 218 (.agg l.toArray) 4 KV=Bb l 4 KV:=B2 218 4 l Yh rfl (by kernel_rfl) (by kernel_rfl) (by kernel_rfl)
theorem QDt (a:Addr):Ba Ya 218 (.pointer (some a)) 4 KV=KV (.pointer (some (a.add 4))):=Bk 218 4 a (m:=0) Yh rfl (by kernel_rfl)
theorem QDu (l:LV):Be Ya 218 (.agg l.toArray) 5 KV=Bb l 5 KV:=B2 218 5 l Yh rfl (by kernel_rfl) (by kernel_rfl) (by kernel_rfl)
theorem QDv (a:Addr):Ba Ya 218 (.pointer (some a)) 5 KV=KV (.pointer (some (a.add 5))):=Bk 218 5 a (m:=0) Yh rfl (by kernel_rfl)
theorem QDw (l:LV):Be Ya 218 (.agg l.toArray) 6 KV=KV (.agg ((l.take 8).drop 6).toArray):=Nu 218 6 l 2 Yh rfl (by kernel_rfl) (by kernel_rfl) (by kernel_rfl)
theorem QDx (a:Addr):Ba Ya 218 (.pointer (some a)) 6 KV=KV (.pointer (some (a.add 6))):=Bk 218 6 a (m:=1) Yh rfl (by kernel_rfl)
theorem QDy (l:LV):Be Ya 218 (.agg l.toArray) 7 KV=KV (.agg ((l.take 10).drop 8).toArray):=Nu 218 7 l 2 Yh rfl (by kernel_rfl) (by kernel_rfl) (by kernel_rfl)
theorem QDz (a:Addr):Ba Ya 218 (.pointer (some a)) 7 KV=KV (.pointer (some (a.add 8))):=Bk 218 7 a (m:=1) Yh rfl (by kernel_rfl)
theorem QGd:Ya.szo 223=some 1:=by kernel_rfl
theorem QOk (a:OA) (n c:Nat):Ec Ya 223 (.slice a n c) KV=KV (.int .i64 n):=Kb 223 3 a n c Yn
theorem QKn (a:OA) (n c:Nat):Cg Ya 223 (.slice a n c) none none KV=(n<=c/\KV (.slice a n c)):=Quj 223 3 a n c 1 Yn (by kernel_rfl)
theorem QKo (a:OA) (n c:Nat) (k:IntKind) (l:Int):Cg Ya 223 (.slice a n c) (some (.int k l)) none KV=((0<=l/\l<=n/\n<=c)/\KV (.slice (if c=l.toNat then a else a.map (·.add (l.toNat * 1))) (n - l.toNat) (c - l.toNat))):=Quk 223 3 a n c 1 k l Yn (by kernel_rfl)
theorem QKp (a:OA) (n c:Nat) (k:IntKind) (l:Int):Cg Ya 223 (.slice a n c) none (some (.int k l)) KV=((0<=l/\l<=c)/\KV (.slice a l.toNat c)):=Qul 223 3 a n c 1 k l Yn (by kernel_rfl)
theorem QKq (a:OA) (n c:Nat) (k k':IntKind) (l m:Int):Cg Ya 223 (.slice a n c) (some (.int k l)) (some (.int k' m)) KV=((0<=l/\l<=m/\m<=c)/\KV (.slice (if c=l.toNat then a else a.map (·.add (l.toNat * 1))) (m.toNat - l.toNat) (c - l.toNat))):=Qum 223 3 a n c 1 k k' l m Yn (by kernel_rfl)
theorem QOl (a:Addr) (n c:Nat) (k:IntKind) (i:Int):Cu Ya 223 (.slice (some a) n c) (.int k i) KV=((0<=i/\i < n)/\KV (.pointer (some (a.add (i.toNat * 1))))):=Kc 223 3 a n c 1 k i Yn (by kernel_rfl)
theorem QOm (a:Addr):Bf Ya 223 (.pointer (some a)) w KV=∃ v,w.cell? a=some v/\KV v:=Mn 223 3 a Yn
theorem QOn:Ya.szo 227=some 1:=by kernel_rfl
theorem QOo (a:OA) (n c:Nat):Ec Ya 227 (.slice a n c) KV=KV (.int .i64 n):=Kb 227 223 a n c Ut
theorem QOp (a:Addr) (n c:Nat) (k:IntKind) (i:Int):Cu Ya 227 (.slice (some a) n c) (.int k i) KV=((0<=i/\i < n)/\KV (.pointer (some (a.add (i.toNat * 1))))):=Kc 227 223 a n c 1 k i Ut (by kernel_rfl)
theorem QOq (a:Addr):Bf Ya 227 (.pointer (some a)) w KV=∃ v,w.cell? a=some v/\KV v:=Mn 227 223 a Ut
theorem QOr:Ya.szo 229=some 2:=by kernel_rfl
theorem QOs (a:Addr):Bf Ya 229 (.pointer (some a)) w KV=∃ cs:LV,(cs.length=2/\Reads w a cs)/\KV (.agg cs.toArray):=Lk 229 2 a _ Xs (by kernel_rfl)
theorem QOt (a0:OA) (n0 c0:Nat) (a1:OA) (n1 c1:Nat):Ca Ya 229 [(0,.slice a0 n0 c0),(1,.slice a1 n1 c1)] KV=KV (.agg #[.slice a0 n0 c0,.slice a1 n1 c1]):=Cx (by kernel_rfl)
theorem QOu:Ca Ya 229 [] KV=KV (.agg #[.slice none 0 0,.slice none 0 0]):=Cx (by kernel_rfl)
theorem QD0 (l:LV):Be Ya 229 (.agg l.toArray) 0 KV=Bb l 0 KV:=B2 229 0 l Xs rfl (by kernel_rfl) (by kernel_rfl) (by kernel_rfl)
theorem QD1 (a:Addr):Ba Ya 229 (.pointer (some a)) 0 KV=KV (.pointer (some (a.add 0))):=Bk 229 0 a (m:=0) Xs rfl (by kernel_rfl)
theorem QD2 (l:LV):Be Ya 229 (.agg l.toArray) 1 KV=Bb l 1 KV:=B2 229 1 l Xs rfl (by kernel_rfl) (by kernel_rfl) (by kernel_rfl)
theorem QD3 (a:Addr):Ba Ya 229 (.pointer (some a)) 1 KV=KV (.pointer (some (a.add 1))):=Bk 229 1 a (m:=0) Xs rfl (by kernel_rfl)
theorem QOv:Ya.szo 236=some 2:=by kernel_rfl
theorem QOw (a0:OA) (n0 c0:Nat) (n1:Int):Ca Ya 236 [(0,.slice a0 n0 c0),(1,.int .i64 n1)] KV=KV (.agg #[.slice a0 n0 c0,.int .i64 n1]):=Cx (by kernel_rfl)
theorem QOx:Ca Ya 236 [] KV=KV (.agg #[.slice none 0 0,.int .i64 0]):=Cx (by kernel_rfl)
theorem QD4 (l:LV):Be Ya 236 (.agg l.toArray) 0 KV=Bb l 0 KV:=B2 236 0 l X8 rfl (by kernel_rfl) (by kernel_rfl) (by kernel_rfl)
theorem QD5 (a:Addr):Ba Ya 236 (.pointer (some a)) 0 KV=KV (.pointer (some (a.add 0))):=Bk 236 0 a (m:=0) X8 rfl (by kernel_rfl)
theorem QD6 (l:LV):Be Ya 236 (.agg l.toArray) 1 KV=Bb l 1 KV:=B2 236 1 l X8 rfl (by kernel_rfl) (by kernel_rfl) (by kernel_rfl)
theorem QD7 (a:Addr):Ba Ya 236 (.pointer (some a)) 1 KV=KV (.pointer (some (a.add 1))):=Bk 236 1 a (m:=0) X8 rfl (by kernel_rfl)
theorem QOy:Ya.szo 238=some 1:=by kernel_rfl
theorem QOz (a:OA) (xo yo:Operand):A3 Ya .eql 238 xo yo (.pointer a) (.pointer none) w KV=KV (.bool a.isNone):=Qm4 G8 a xo yo
theorem QO0 (a:OA) (xo yo:Operand):A3 Ya .neq 238 xo yo (.pointer a) (.pointer none) w KV=KV (.bool ! a.isNone):=Qm5 G8 a xo yo
theorem QO1:Ya.szo 244=some 1:=by kernel_rfl
theorem QO2 (a:Addr):Bf Ya 244 (.pointer (some a)) w KV=∃ v,w.cell? a=some v/\KV v:=S5 244 a .u64 Gz
theorem QO3:Ya.szo 248=some 1:=by kernel_rfl
theorem N0:Ya.szo 261=some 2:=by kernel_rfl
theorem QO4 (a:Addr):Bf Ya 261 (.pointer (some a)) w KV=∃ cs:LV,(cs.length=2/\Reads w a cs)/\KV (.agg cs.toArray):=Lk 261 2 a _ Xt (by kernel_rfl)
theorem QO5 (s0:ByteArray) (n1:Int):Ca Ya 261 [(0,.string s0),(1,.int .i64 n1)] KV=KV (.agg #[.string s0,.int .i64 n1]):=Cx (by kernel_rfl)
theorem QO6:Ca Ya 261 [] KV=KV (.agg #[.string ⟨#[]⟩,.int .i64 0]):=Cx (by kernel_rfl)
theorem QD8 (l:LV):Be Ya 261 (.agg l.toArray) 0 KV=Bb l 0 KV:=B2 261 0 l Xt rfl (by kernel_rfl) (by kernel_rfl) (by kernel_rfl)
theorem QD9 (a:Addr):Ba Ya 261 (.pointer (some a)) 0 KV=KV (.pointer (some (a.add 0))):=Bk 261 0 a (m:=0) Xt rfl (by kernel_rfl)
theorem QEa (l:LV):Be Ya 261 (.agg l.toArray) 1 KV=Bb l 1 KV:=B2 261 1 l Xt rfl (by kernel_rfl) (by kernel_rfl) (by kernel_rfl)
theorem QEb (a:Addr):Ba Ya 261 (.pointer (some a)) 1 KV=KV (.pointer (some (a.add 1))):=Bk 261 1 a (m:=0) Xt rfl (by kernel_rfl)
theorem QO7:Ya.szo 267=some 256:=by kernel_rfl
theorem QKr (l:LV) (k:IntKind) (i:Int):E7 Ya 267 (.agg l.toArray) (.int k i) KV=((0<=i/\i < ((256:Nat):Int))/\Bb l i.toNat KV):=Rg 267 l k i G9 (by kernel_rfl) (by kernel_rfl) (by kernel_rfl)
theorem QO8 (a:Addr) (k:IntKind) (i:Int):Cu Ya 267 (.pointer (some a)) (.int k i) KV=((0<=i/\i < ((256:Nat):Int))/\KV (.pointer (some (a.add (i.toNat * 1))))):=Pz 267 4 a 256 1 k i G9 (by kernel_rfl)
theorem QO9:Ya.szo 271=some 16:=by kernel_rfl
theorem QPa (a:Addr):Bf Ya 271 (.pointer (some a)) w KV=∃ cs:LV,(cs.length=16/\Reads w a cs)/\KV (.agg cs.toArray):=QF9 271 16 16 194 a Uu (by kernel_rfl)
theorem QKs (l:LV) (k:IntKind) (i:Int):E7 Ya 271 (.agg l.toArray) (.int k i) KV=((0<=i/\i < ((16:Nat):Int))/\Bb l i.toNat KV):=Rg 271 l k i Uu (by kernel_rfl) (by kernel_rfl) (by kernel_rfl)
theorem QPb (a:Addr) (k:IntKind) (i:Int):Cu Ya 271 (.pointer (some a)) (.int k i) KV=((0<=i/\i < ((16:Nat):Int))/\KV (.pointer (some (a.add (i.toNat * 1))))):=Pz 271 194 a 16 1 k i Uu (by kernel_rfl)
theorem QPc:Ya.szo 276=some 1:=by kernel_rfl
theorem QKt (a:Addr):Bf Ya 276 (.pointer (some a)) w KV=∃ v,w.cell? a=some v/\KV v:=QF8 276 _ _ _ a Ha
theorem QPd (f:Fn) (x y:Array Value) (xo yo:Operand):A3 Ya .eql 276 xo yo (.func f x y) .nilFunc w KV=KV (.bool false):=QAm Ha f x y xo yo
theorem QPe:Ya.szo 278=some 3:=by kernel_rfl
theorem QPf (f0:Fn) (x0 y0:Array Value) (n1:Int) (n2:Int):Ca Ya 278 [(0,.func f0 x0 y0),(1,.int .i64 n1),(2,.int .i64 n2)] KV=KV (.agg #[.func f0 x0 y0,.int .i64 n1,.int .i64 n2]):=Cx (by kernel_rfl)
theorem QPg:Ca Ya 278 [] KV=KV (.agg #[.nilFunc,.int .i64 0,.int .i64 0]):=Cx (by kernel_rfl)
theorem QEc (l:LV):Be Ya 278 (.agg l.toArray) 0 KV=Bb l 0 KV:=B2 278 0 l Xi rfl (by kernel_rfl) (by kernel_rfl) (by kernel_rfl)
theorem QEd (a:Addr):Ba Ya 278 (.pointer (some a)) 0 KV=KV (.pointer (some (a.add 0))):=Bk 278 0 a (m:=0) Xi rfl (by kernel_rfl)
theorem QEe (l:LV):Be Ya 278 (.agg l.toArray) 1 KV=Bb l 1 KV:=B2 278 1 l Xi rfl (by kernel_rfl) (by kernel_rfl) (by kernel_rfl)
theorem QEf (a:Addr):Ba Ya 278 (.pointer (some a)) 1 KV=KV (.pointer (some (a.add 1))):=Bk 278 1 a (m:=0) Xi rfl (by kernel_rfl)
theorem QEg (l:LV):Be Ya 278 (.agg l.toArray) 2 KV=Bb l 2 KV:=B2 278 2 l Xi rfl (by kernel_rfl) (by kernel_rfl) (by kernel_rfl)
theorem QEh (a:Addr):Ba Ya 278 (.pointer (some a)) 2 KV=KV (.pointer (some (a.add 2))):=Bk 278 2 a (m:=0) Xi rfl (by kernel_rfl)
theorem QPh:Ya.szo 290=some 1:=by kernel_rfl
theorem QPi (a:OA) (n c:Nat):Ec Ya 290 (.slice a n c) KV=KV (.int .i64 n):=Kb 290 261 a n c Hb
theorem QPj (a:Addr) (n c:Nat) (k:IntKind) (i:Int):Cu Ya 290 (.slice (some a) n c) (.int k i) KV=((0<=i/\i < n)/\KV (.pointer (some (a.add (i.toNat * 2))))):=Kc 290 261 a n c 2 k i Hb (by kernel_rfl)
theorem QPk:Ya.szo 293=some 2:=by kernel_rfl
theorem QPl (a:Addr):Bf Ya 293 (.pointer (some a)) w KV=∃ cs:LV,(cs.length=2/\Reads w a cs)/\KV (.agg cs.toArray):=Lk 293 2 a _ Xu (by kernel_rfl)
theorem QPm (a0:OA) (n0 c0:Nat) (n1:Int):Ca Ya 293 [(0,.slice a0 n0 c0),(1,.int .i64 n1)] KV=KV (.agg #[.slice a0 n0 c0,.int .i64 n1]):=Cx (by kernel_rfl)
theorem QPn:Ca Ya 293 [] KV=KV (.agg #[.slice none 0 0,.int .i64 0]):=Cx (by kernel_rfl)
theorem QEi (l:LV):Be Ya 293 (.agg l.toArray) 0 KV=Bb l 0 KV:=B2 293 0 l Xu rfl (by kernel_rfl) (by kernel_rfl) (by kernel_rfl)
theorem QEj (a:Addr):Ba Ya 293 (.pointer (some a)) 0 KV=KV (.pointer (some (a.add 0))):=Bk 293 0 a (m:=0) Xu rfl (by kernel_rfl)
theorem QEk (l:LV):Be Ya 293 (.agg l.toArray) 1 KV=Bb l 1 KV:=B2 293 1 l Xu rfl (by kernel_rfl) (by kernel_rfl) (by kernel_rfl)
theorem QEl (a:Addr):Ba Ya 293 (.pointer (some a)) 1 KV=KV (.pointer (some (a.add 1))):=Bk 293 1 a (m:=0) Xu rfl (by kernel_rfl)
theorem QPo:Ya.szo 297=some 1:=by kernel_rfl
theorem QPp:Ya.szo 303=some 1:=by kernel_rfl
theorem QPq:Ya.szo 313=some 4:=by kernel_rfl
theorem QKu (l:LV) (k:IntKind) (i:Int):E7 Ya 313 (.agg l.toArray) (.int k i) KV=((0<=i/\i < ((4:Nat):Int))/\Bb l i.toNat KV):=Rg 313 l k i Hc (by kernel_rfl) (by kernel_rfl) (by kernel_rfl)
theorem QPr (a:Addr) (k:IntKind) (i:Int):Cu Ya 313 (.pointer (some a)) (.int k i) KV=((0<=i/\i < ((4:Nat):Int))/\KV (.pointer (some (a.add (i.toNat * 1))))):=Pz 313 3 a 4 1 k i Hc (by kernel_rfl)
theorem QPs:Ya.szo 317=some 1:=by kernel_rfl
theorem QPt (a:OA) (n c:Nat):Ec Ya 317 (.slice a n c) KV=KV (.int .i64 n):=Kb 317 319 a n c Xb
theorem QKv (a:OA) (n c:Nat):Cg Ya 317 (.slice a n c) none none KV=(n<=c/\KV (.slice a n c)):=Quj 317 319 a n c 2 Xb (by kernel_rfl)
theorem QKw (a:OA) (n c:Nat) (k:IntKind) (l:Int):Cg Ya 317 (.slice a n c) (some (.int k l)) none KV=((0<=l/\l<=n/\n<=c)/\KV (.slice (if c=l.toNat then a else a.map (·.add (l.toNat * 2))) (n - l.toNat) (c - l.toNat))):=Quk 317 319 a n c 2 k l Xb (by kernel_rfl)
theorem QKx (a:OA) (n c:Nat) (k:IntKind) (l:Int):Cg Ya 317 (.slice a n c) none (some (.int k l)) KV=((0<=l/\l<=c)/\KV (.slice a l.toNat c)):=Qul 317 319 a n c 2 k l Xb (by kernel_rfl)
theorem QKy (a:OA) (n c:Nat) (k k':IntKind) (l m:Int):Cg Ya 317 (.slice a n c) (some (.int k l)) (some (.int k' m)) KV=((0<=l/\l<=m/\m<=c)/\KV (.slice (if c=l.toNat then a else a.map (·.add (l.toNat * 2))) (m.toNat - l.toNat) (c - l.toNat))):=Qum 317 319 a n c 2 k k' l m Xb (by kernel_rfl)
theorem QPu (a:Addr) (n c:Nat) (k:IntKind) (i:Int):Cu Ya 317 (.slice (some a) n c) (.int k i) KV=((0<=i/\i < n)/\KV (.pointer (some (a.add (i.toNat * 2))))):=Kc 317 319 a n c 2 k i Xb (by kernel_rfl)
theorem QPv (a:Addr):Bf Ya 317 (.pointer (some a)) w KV=∃ v,w.cell? a=some v/\KV v:=Mn 317 319 a Xb
theorem QA2:Ya.szo 319=some 2:=by kernel_rfl
theorem QPw (a:Addr):Bf Ya 319 (.pointer (some a)) w KV=∃ cs:LV,(cs.length=2/\Reads w a cs)/\KV (.agg cs.toArray):=Lk 319 2 a _ Xv (by kernel_rfl)
theorem QPx (n0:Int) (n1:Int):Ca Ya 319 [(0,.int .i64 n0),(1,.int .i64 n1)] KV=KV (.agg #[.int .i64 n0,.int .i64 n1]):=Cx (by kernel_rfl)
theorem QPy:Ca Ya 319 [] KV=KV (.agg #[.int .i64 0,.int .i64 0]):=Cx (by kernel_rfl)
theorem QEm (l:LV):Be Ya 319 (.agg l.toArray) 0 KV=Bb l 0 KV:=B2 319 0 l Xv rfl (by kernel_rfl) (by kernel_rfl) (by kernel_rfl)
theorem QEn (a:Addr):Ba Ya 319 (.pointer (some a)) 0 KV=KV (.pointer (some (a.add 0))):=Bk 319 0 a (m:=0) Xv rfl (by kernel_rfl)
theorem QEo (l:LV):Be Ya 319 (.agg l.toArray) 1 KV=Bb l 1 KV:=B2 319 1 l Xv rfl (by kernel_rfl) (by kernel_rfl) (by kernel_rfl)
theorem QEp (a:Addr):Ba Ya 319 (.pointer (some a)) 1 KV=KV (.pointer (some (a.add 1))):=Bk 319 1 a (m:=0) Xv rfl (by kernel_rfl)
theorem QPz:Ya.szo 321=some 1:=by kernel_rfl
theorem QP0:Ya.szo 323=some 1:=by kernel_rfl
theorem QP1 (a:Addr):Bf Ya 323 (.pointer (some a)) w KV=∃ cs:LV,(cs.length=1/\Reads w a cs)/\KV (.agg cs.toArray):=Lk 323 1 a _ Uv (by kernel_rfl)
theorem QP2 (a0:OA) (n0 c0:Nat):Ca Ya 323 [(0,.slice a0 n0 c0)] KV=KV (.agg #[.slice a0 n0 c0]):=Cx (by kernel_rfl)
theorem QP3:Ca Ya 323 [] KV=KV (.agg #[.slice none 0 0]):=Cx (by kernel_rfl)
theorem QEq (l:LV):Be Ya 323 (.agg l.toArray) 0 KV=Bb l 0 KV:=B2 323 0 l Uv rfl (by kernel_rfl) (by kernel_rfl) (by kernel_rfl)
theorem QEr (a:Addr):Ba Ya 323 (.pointer (some a)) 0 KV=KV (.pointer (some (a.add 0))):=Bk 323 0 a (m:=0) Uv rfl (by kernel_rfl)
theorem QP4:Ya.szo 324=some 22:=by kernel_rfl
theorem QKz (l:LV) (k:IntKind) (i:Int):E7 Ya 324 (.agg l.toArray) (.int k i) KV=((0<=i/\i < ((22:Nat):Int))/\Bb l i.toNat KV):=Rg 324 l k i Hd (by kernel_rfl) (by kernel_rfl) (by kernel_rfl)
theorem QP5 (a:Addr) (k:IntKind) (i:Int):Cu Ya 324 (.pointer (some a)) (.int k i) KV=((0<=i/\i < ((22:Nat):Int))/\KV (.pointer (some (a.add (i.toNat * 1))))):=Pz 324 3 a 22 1 k i Hd (by kernel_rfl)
theorem QP6:Ya.szo 326=some 68:=by kernel_rfl
theorem QEs (l:LV):Be Ya 326 (.agg l.toArray) 0 KV=KV (.agg ((l.take 1).drop 0).toArray):=Nu 326 0 l 1 Ys rfl (by kernel_rfl) (by kernel_rfl) (by kernel_rfl)
theorem QEt (a:Addr):Ba Ya 326 (.pointer (some a)) 0 KV=KV (.pointer (some (a.add 0))):=Bk 326 0 a (m:=0) Ys rfl (by kernel_rfl)
theorem QEu (l:LV):Be Ya 326 (.agg l.toArray) 1 KV=Bb l 1 KV:=B2 326 1 l Ys rfl (by kernel_rfl) (by kernel_rfl) (by kernel_rfl)
theorem QEv (a:Addr):Ba Ya 326 (.pointer (some a)) 1 KV=KV (.pointer (some (a.add 1))):=Bk 326 1 a (m:=0) Ys rfl (by kernel_rfl)
theorem QEw (l:LV):Be Ya 326 (.agg l.toArray) 2 KV=KV (.agg ((l.take 24).drop 2).toArray):=Nu 326 2 l 22 Ys rfl (by kernel_rfl) (by kernel_rfl) (by kernel_rfl)
theorem QEx (a:Addr):Ba Ya 326 (.pointer (some a)) 2 KV=KV (.pointer (some (a.add 2))):=Bk 326 2 a (m:=21) Ys rfl (by kernel_rfl)
theorem QEy (l:LV):Be Ya 326 (.agg l.toArray) 3 KV=KV (.agg ((l.take 46).drop 24).toArray):=Nu 326 3 l 22 Ys rfl (by kernel_rfl) (by kernel_rfl) (by kernel_rfl)
theorem QEz (a:Addr):Ba Ya 326 (.pointer (some a)) 3 KV=KV (.pointer (some (a.add 24))):=Bk 326 3 a (m:=21) Ys rfl (by kernel_rfl)
theorem QE0 (l:LV):Be Ya 326 (.agg l.toArray) 4 KV=KV (.agg ((l.take 68).drop 46).toArray):=Nu 326 4 l 22 Ys rfl (by kernel_rfl) (by kernel_rfl) (by kernel_rfl)
theorem QE1 (a:Addr):Ba Ya 326 (.pointer (some a)) 4 KV=KV (.pointer (some (a.add 46))):=Bk 326 4 a (m:=21) Ys rfl (by kernel_rfl)
end
attribute [go_sem ↓] ld3 QMw QIa QCu QCw QCy ld4 QMy QMz ld5 QM0 QIc QC0 ln9 ix9 QQ3 QQ4 QQ5 QQ6 ld9 QQ8 QQ9 QRb QRc QRd QRf QRg QRi QRj QRk QRm QRn QRo QIe QIf QRq QRs QRt QRu QRw QRx QIg QIh QIi QIj QRz QIk QIl QIm QIn QIo QIp QIq QIr QIs QIt QIu QIv QIw QIx QR0 QR1 QR2 QIy QIz QI0 QI1 QR3 QI2 Qyz QR4 QR5 QR6 QI4 QI5 QI6 QI7 QI8 QI9 QJa QJb QJc QJd QR8 QR9 QSa QSc QSd QSe QSf QSg QJe QJf QJg QJh QSj QM2 QM3 QM4 QM5 QSk QSl QJi QSn QSo QSp QJl QJm QJn QJo QJp QJq QJr QJs QJt QJu QJv QJw QJx QJy QSs QSt QSv QSw QSx QSz QS0 QJz QJ0 QJ1 QJ2 QJ3 QJ4 QJ5 QJ6 QJ7 QJ8 QJ9 QKa QS2 QKb QKc QKd QKe QM8 QKf QKg QKh QKi QM9 QNa QNd QNe QNf QC2 QC3 QC4 QC5 QC6 QC7 QNh QNm QKj QNn QC8 Qy1 QKk QNr QNs QNt QNu QDa QDb QDc QDd QNw QNx QNy QNz QN0 QDe QDf QDg QDh QN2 QN3 QN4 QN6 QN7 QN8 QOa QOb QOd QDi QKl QOg QKm QOi QDk QDl QDm QDn QDo QDp QDq QDr QDs QDt QDu QDv QDw QDx QDy QDz QOk QKn QKo QKp QKq QOl QOm QOo QOp QOq QOs QOt QOu QD0 QD1 QD2 QD3 QOw QOx QD4 QD5 QD6 QD7 QOz QO0 QO2 QO4 QO5 QO6 QD8 QD9 QEa QEb QKr QO8 QPa QKs QPb QKt QPd QPf QPg QEc QEd QEe QEf QEg QEh QPi QPj QPl QPm QPn QEi QEj QEk QEl QKu QPr QPt QKv QKw QKx QKy QPu QPv QPw QPx QPy QEm QEn QEo QEp QP1 QP2 QP3 QEq QEr QKz QP5 QEs QEt QEu QEv QEw QEx QEy QEz QE0 QE1
attribute [go_sem] O8 QMx QIb QCv QCx QCz sz4 E5 QM1 QId QC1 Tt QQ7 QRa QRe QRh QRl QRp QRr QRv QRy Ti QF4 QI3 Qy0 QLj QR7 QSb N6 QSh QSi QJj QJk QSm QSq QSr QSu QSy QS1 QF5 QS3 QM6 QM7 QNb QNc QNg QNi QNj QNk QNl QNo QC9 Qy2 QNp QNq QGb QGc QNv Nz QN1 QN5 QN9 QOc QDj QOe QOf QOh QOj QGd QOn QOr QOv QOy QO1 QO3 N0 QO7 QO9 QPc QPe QPh QPk QPo QPp QPq QPs QA2 QPz QP0 QP4 QP6
theorem Mv:(Ya.info? 5).map (fun i=>(i.zero.map X2,i.size,i.bytes))=some (some #[.int .u8 0],1,1):=by kernel_rfl
theorem zi9:(Ya.info? 9).map (fun i=>(i.zero.map X2,i.size,i.bytes))=some (some #[.string ⟨#[]⟩],1,16):=by kernel_rfl
theorem Ib:(Ya.info? 3).map (fun i=>(i.zero.map X2,i.size,i.bytes))=some (some #[.int .i64 0],1,8):=by kernel_rfl
theorem QA3:(Ya.info? 223).map (fun i=>(i.zero.map X2,i.size,i.bytes))=some (some #[.slice none 0 0],1,24):=by kernel_rfl
theorem Qcx (p:Addr) (k j:Nat):(p.add k).add j=p.add (k+j):=by
 unfold Addr.add;by_cases h1:k=0 <;> by_cases h2:j=0 <;> simp_all <;> omega
theorem QAo {w:World}{a:Addr}{u:Value}{K:Value->Prop} (h:w.cell? a=some u):(∃ v,w.cell? a=some v/\K v)=K u:=by
 apply propext;constructor
 ·
  rintro ⟨v,hv,hk⟩;rw [h] at hv;cases hv;exact hk
 exact fun hk=>⟨u,h,hk⟩
theorem Qg4 {P:Program}{N:Nat}{d:Option Tmp}{ty:Nat}{pos:String}{af:Array Edge}{gd:Option (Nat×Bool)}{e:Env}{w:World}{R:Env->World->(Env->World->Prop)->Prop}{K:Env->World->Prop}
  {f:FuncId}{ao:Array Operand}{ts:Array TypeId}{vs:LV}{F:Value->World->Prop} (hf:∀ args w,(callFunc f args).run P w=.ok (.enter f args) w)
  (hD:Does P f vs.toArray w F) (ha:Cz e ao.toList fun us=>us=vs) (hC:∀ v w',F v w'->R (e.put d v) w' K) :
  B9 P N ⟨d,.call { callee:=.value (.func f),args:=ao,argTypes:=ts },ty,pos,af,gd⟩ e w R K :=
 Aa hf (Qgy _ _ _ ha fun us _ h=>h ▸ Y2 hD hC)
theorem QK0 {A B:Prop}:gB (! true) true A B=B:=by simp [gB]
theorem QK1 {A B:Prop}:gB (! true) false A B=A:=by simp [gB]
theorem QK2 {A B:Prop}:gB (! false) true A B=A:=by simp [gB]
theorem QK3 {A B:Prop}:gB (! false) false A B=B:=by simp [gB]
attribute [go_sem ↓] QK0 QK1 QK2 QK3
theorem Qra (p:Addr):p.add 0=p:=by unfold Addr.add;simp
theorem Qb2 {α:Type}{l:List α}{i:Nat}{x:α} (h:l[i]? = some x):l.take (i+1)=l.take i++[x]:=by
 rw [U7,h];rfl
def Cy (l:List (LB)):LV:=l.map Ab
theorem Zt (l:List (LB)):∀ v∈Cy l,v.oneCell'=true:=by
 intro v hv;obtain ⟨s,_,rfl⟩:=Y3.1 hv;rfl
theorem Sl {l:List (LB)}{i:Nat}{s:LB} (h:l[i]? = some s):(Cy l)[i]? = some (Ab s):=by simp [Cy,h]
theorem Qan (l m:List (LB)):Cy (l++m)=Cy l++Cy m:=by simp [Cy]
@[simp] theorem strsV_length (l:List (LB)):(Cy l).length=l.length:=by simp [Cy]
theorem Qdz (l:List (LB)) (i:Nat) (x:LB) (h:i < l.length):(Cy l).take i++[Ab x]++(Cy l).drop (i+1)=Cy (l.set i x):=by
 rw [List.set_eq_take_append_cons_drop,if_pos h];simp [Cy,List.map_take,List.map_drop]
theorem Qet {P:Program}{w:World}{w0:World}{B:LN}{G:List Res} (hH:Heap w0 B w G) (i:Nat) {o n cap sz:Nat}{ad ap:Addr}{T T':TypeId}{xs vs:LV}{v:Value}{C:World->Prop} (hi:G[i]? = some (X7 T' sz (some ad) n cap xs)) (hp:ap=ad.add o) (hv:v.cells=vs.toArray) (hsz:P.szo T=some vs.length) (hl:o+vs.length<=xs.length) (h1:∀ u∈vs,u.oneCell'=true)
  (h:∀ w',Heap w0 B w' (G.set i (X7 T' sz (some ad) n cap (xs.take o++vs++xs.drop (o+vs.length))))->w'.drawn=w.drawn->C w'):Mj P T (.pointer (some ap)) v w C:=by
 obtain ⟨h2,h3,h4,h5⟩:=hH.at i hi;rcases h5 with h5 | ⟨g,rest,fz,hg0,hg,hl2,hfz⟩
 ·
  cases h5.1
 cases hg0;subst hp;have hlt:g < w.heap.size:=(Array.getElem?_eq_some_iff.1 hg).1;have hadd:(⟨g,0,none⟩:Addr).add o=⟨g,o,none⟩:=by unfold Addr.add;split <;> simp_all
 rw [hadd];have hlen:o+vs.length<=(xs++rest).length:=by simp;omega
 refine ⟨_,Qac hv hsz hg (by rw [hl2];exact hfz) hlen h1,h _ (hH.set i hi (Qv _ _ _ _ _) ?_ ?_) rfl⟩
 ·
  refine ⟨by simp;omega,h3,h4,.inr ⟨g,rest,fz,rfl,?_,by simp at hl2 ⊢;omega,hfz⟩⟩;rw [Qx hlt]
  congr 3
  rw [Xe (by omega),Ui (by omega)];simp
 intro b hb;exact ⟨.inl hb,by rw [Sc];simp [X7] at hb;omega⟩
theorem Qy3 {w w':World} (h:Heap w [] w' []) (hd:w'.drawn=w.drawn):∃ o,w'=Go.Sort.grow w o:=by
 obtain ⟨⟨h1,h2,h3,h4,h5⟩,_⟩:=h;refine ⟨w'.heap.extract w.heap.size w'.heap.size,?_⟩
 have hh:w'.heap=w.heap++w'.heap.extract w.heap.size w'.heap.size:=by
  apply Array.ext_getElem?;intro k;by_cases hk:k < w.heap.size
  ·
   rw [Array.getElem?_append_left hk,h5 k hk (by simp)]
  rw [Array.getElem?_append_right (by omega),Array.getElem?_extract];split
  ·
   congr 1;omega
  rw [Array.getElem?_eq_none (by omega)]
 obtain ⟨a,b,c,d,e⟩:=w;obtain ⟨a',b',c',d',e'⟩:=w';simp only at h1 h2 h3 hd hh;subst h1 h2 h3 hd;unfold Go.Sort.grow
 congr 1
theorem Qd0 (n:Nat):Yc n (Gj ⟨#[]⟩)=Cy (Yc n []):=by
 simp [Cy]
theorem Vl {P:Program}{f:FuncId}{args:Array Value}{w:World}{v:Value} (h:∀ w,Calls P f args w fun e w'=>e=.returned v/\w'=w):Does P f args w fun u w'=>w'=w/\u=v :=
 fun n=>(h (w.drewN n)).mono fun e w' ⟨he,hw⟩=>⟨v,w,n,he,hw,rfl,rfl⟩
def A2:Nat->Nat->List Bool
 | 0,_=>[]
 | n+1,v=>v.testBit n::A2 n v
def Rk:List Bool->Nat->Nat
 | [],a=>a
 | b::l,a=>Rk l (2 * a+b.toNat)
def Cc (l:List Bool):Nat:=Rk l 0
theorem C0 (n v:Nat):(A2 n v).length=n:=by
 induction n with
 | zero=>rfl
 | succ n ih=>simp [A2,ih]
theorem Qy4 (l:List Bool):∀ a,Rk l a=a * 2 ^ l.length+Rk l 0:=by
 induction l with
 | nil=>intro a;simp [Rk]
 | cons b l ih =>
  intro a;simp only [Rk];rw [ih (2 * a+b.toNat),ih (2 * 0+b.toNat),Yk,Xd,U8,Nat.mul_zero,Ul];rw [show 2 * a * 2 ^ l.length=a * (2 ^ l.length * 2) by rw [Xn 2 a,X6,Xn 2]];omega
theorem Z3:Cc []=0:=rfl
theorem Sm (b:Bool) (l:List Bool):Cc (b::l)=b.toNat * 2 ^ l.length+Cc l:=by
 unfold Cc;simp only [Rk];rw [Qy4 l];simp
theorem Qeu (l m:List Bool):Cc (l++m)=Cc l * 2 ^ m.length+Cc m:=by
 induction l with
 | nil=>simp [Z3]
 | cons b l ih =>
  rw [Yv,Sm,ih,Sm,Ye,U9,U8,X6];omega
theorem Qvk (l:List Bool) (b:Bool):Cc (l++[b])=2 * Cc l+b.toNat:=by
 rw [Qeu,Sm];simp [Z3,Xn]
theorem Qml (l:List Bool):Cc l < 2 ^ l.length:=by
 induction l with
 | nil=>simp [Z3]
 | cons b l ih =>
  rw [Sm,Yk,Xd];cases b <;> simp <;> omega
theorem Og (n v:Nat):Cc (A2 n v)=v % 2 ^ n:=by
 induction n with
 | zero=>simp [A2,Z3,Nat.mod_one]
 | succ n ih =>
  rw [A2,Sm,ih,C0,Xd,Nat.mod_mul,Y4];rcases Xj (v / 2 ^ n) with h | h <;> rw [h] <;> simp
  omega
theorem Qcy (m n v:Nat):A2 (m+n) v=A2 m (v / 2 ^ n)++A2 n v:=by
 induction m with
 | zero=>simp [A2]
 | succ m ih =>
  rw [show m+1+n=(m+n)+1 by omega,A2,ih,A2,Yv,Nat.testBit_div_two_pow,Um m n]
theorem Qj5 (n v:Nat):∀ k,n<=k->A2 n (v % 2 ^ k)=A2 n v:=by
 intro k
 induction n with
 | zero=>intro _;rfl
 | succ n ih =>
  intro h;rw [A2,A2,ih (by omega),Nat.testBit_mod_two_pow];simp [show n < k by omega]
theorem Qg5 (l:List Bool):A2 l.length (Cc l)=l:=by
 induction l with
 | nil=>rfl
 | cons b l ih =>
  rw [Yk,A2,Sm];have h:=Qml l
  have e1:(b.toNat * 2 ^ l.length+Cc l).testBit l.length=b:=by
   rw [Y4,Xn,Nat.mul_add_div (Xw _),Gg h];cases b <;> simp
  have e2:A2 l.length (b.toNat * 2 ^ l.length+Cc l)=l:=by
   have:=Qj5 l.length (b.toNat * 2 ^ l.length+Cc l) l.length (Y0 _);rw [Xn,Nat.mul_add_mod,Xg h,ih] at this;rw [Xn];exact this.symm
  rw [e1,e2]
theorem Zu (n v:Nat):∀ i,i < n->(A2 n v)[i]? = some (v.testBit (n - 1 - i)):=by
 induction n with
 | zero=>intro i h;omega
 | succ n ih =>
  intro i h;rw [A2];cases i with
  | zero=>simp
  | succ i =>
   rw [List.getElem?_cons_succ,ih i (by omega)]
   congr 2;omega
def Cr (l:LB):List Bool:=l.flatMap fun b=>A2 8 b.toNat
theorem Qb3:Cr []=[]:=rfl
theorem Qr (b:UInt8) (l:LB):Cr (b::l)=A2 8 b.toNat++Cr l:=rfl
theorem W3 (l m:LB):Cr (l++m)=Cr l++Cr m:=by simp [Cr]
theorem In (l:LB):(Cr l).length=8 * l.length:=by
 induction l with
 | nil=>rfl
 | cons b l ih=>rw [Qr,Ye,C0,ih,Yk];omega
theorem Qb4 (l:LB):∀ i,i < 8 * l.length->(Cr l)[i]? = some ((l.getD (i / 8) 0).toNat.testBit (7 - i % 8)):=by
 induction l with
 | nil=>intro i h;simp at h
 | cons b l ih =>
  intro i h;rw [Qr];by_cases h8:i < 8
  ·
   rw [Yi (by rw [C0];exact h8),Zu 8 _ i h8];simp [show i / 8=0 by omega,show i % 8=i by omega]
  rw [Yg (by rw [C0];omega),C0,ih (i - 8) (by simp at h;omega)];rw [show i / 8=(i - 8) / 8+1 by omega,show (i - 8) % 8=i % 8 by omega];rfl
theorem Qrb {a b:UInt8} (h:A2 8 a.toNat=A2 8 b.toNat):a=b:=by
 have:=congrArg Cc h;rw [Og,Og,Xg a.toNat_lt,Xg b.toNat_lt] at this;exact UInt8.toNat_inj.1 this
theorem Qg6:∀ (l m:LB),Cr l=Cr m->l=m
 | [],[],_=>rfl
 | [],b::m,h=>by have:=congrArg Hq h;simp [In] at this
 | a::l,[],h=>by have:=congrArg Hq h;simp [In] at this
 | a::l,b::m,h=>by
  rw [Qr,Qr] at h;obtain ⟨h1,h2⟩:=List.append_inj h (by simp [C0]);rw [Qrb h1,Qg6 l m h2]
def S7:List Bool->Nat->Nat->LB
 | [],acc,k=>if k=0 then [] else [Ga (acc * 2 ^ (8 - k))]
 | b::l,acc,k=>if k=7 then Ga (2 * acc+b.toNat)::S7 l 0 0 else S7 l (2 * acc+b.toNat) (k+1)
def Bj (l:List Bool):LB:=S7 l 0 0
theorem Qb5 (n:Nat):A2 n 0=Yc n false:=by
 induction n with
 | zero=>rfl
 | succ n ih=>rw [A2,ih,Nat.zero_testBit];rfl
theorem T1 {n:Nat} (h:n < 256):(Ga n).toNat=n:=by
 rw [UInt8.toNat_ofNat'];exact Xg h
theorem Qnx (l:List Bool):∀ (acc k:Nat),k<=7->acc < 2 ^ k ->
  Cr (S7 l acc k)=A2 k acc++l++Yc (8 * ((k+l.length+7) / 8) - (k+l.length)) false:=by
 induction l with
 | nil =>
  intro acc k hk ha;rw [S7];by_cases h0:k=0
  ·
   subst h0;simp [Qb3,A2]
  rw [if_neg h0,Qr,Qb3,Yq,Yq]
  have hlt:acc * 2 ^ (8 - k) < 256:=by
   have e:2 ^ k * 2 ^ (8 - k)=256:=by rw [<- U9,show k+(8 - k)=8 by omega]
   rw [<- e];exact Nat.mul_lt_mul_of_pos_right ha (Xw _)
  rw [T1 hlt];have:=Qcy k (8 - k) (acc * 2 ^ (8 - k));rw [show k+(8 - k)=8 by omega,Nat.mul_div_cancel _ (Xw _)] at this;rw [this]
  congr 1
  have h2:=Qj5 (8 - k) (acc * 2 ^ (8 - k)) (8 - k) (Y0 _);rw [Nat.mul_mod_left,Qb5] at h2;rw [<- h2]
  congr 1
  simp only [Gn];omega
 | cons b l ih =>
  intro acc k hk ha;rw [S7];have hb:b.toNat<=1:=by cases b <;> simp
  have hbits:A2 (k+1) (2 * acc+b.toNat)=A2 k acc++[b]:=by
   have:=Qcy k 1 (2 * acc+b.toNat);rw [this]
   congr 1
   ·
    congr 1;simp;omega
   simp only [A2];cases b <;> simp [Nat.testBit_zero]
  have hlt:2 * acc+b.toNat < 2 ^ (k+1):=by rw [Xd];omega
  by_cases h7:k=7
  ·
   subst h7;rw [if_pos rfl,Qr,T1 (by simpa using hlt),hbits,ih 0 0 (by omega) (by simp)];simp only [A2,Xl,Yd,Yk,Uc]
   congr 4
   omega
  rw [if_neg h7,ih _ (k+1) (by omega) hlt,hbits];simp only [Yd,Yk,Uc];rw [show k+1+l.length=k+(l.length+1) by omega]
theorem Ni (l:List Bool):Cr (Bj l)=l++Yc (8 * ((l.length+7) / 8) - l.length) false:=by
 have:=Qnx l 0 0 (by omega) (by simp);simpa [A2,Bj] using this
theorem Ls (l:List Bool):(Bj l).length=(l.length+7) / 8:=by
 have:=congrArg Hq (Ni l);rw [In,Ye,Ud] at this;omega
theorem Z4 {o:LB}{l:List Bool} (h:Cr o=l++Yc (8 * ((l.length+7) / 8) - l.length) false):o=Bj l :=
 Qg6 _ _ (by rw [h,Ni])
theorem Qcz (o:LB):Bj (Cr o)=o:=by
 refine (Z4 ?_).symm;rw [In,show 8 * ((8 * o.length+7) / 8) - 8 * o.length=0 by omega];simp
theorem Qbl (l m:List Bool) (h:l.length % 8=0):Bj (l++m)=Bj l++Bj m:=by
 refine (Z4 ?_).symm;rw [W3,Ni,Ni,show 8 * ((l.length+7) / 8) - l.length=0 by omega,Gv,Yq,Yd,Ye]
 congr 3;omega
theorem Qev (l:List Bool):Bj (l++[false])=if l.length % 8=0 then Bj l++[0] else Bj l:=by
 symm
 refine Z4 ?_;have e:(l++[false]).length=l.length+1:=by simp
 rw [e];split
 ·
  rename_i h;rw [W3,Ni,show 8 * ((l.length+7) / 8) - l.length=0 by omega,Gv,Yq,Yd]
  congr 1
  rw [show 8 * ((l.length+1+7) / 8) - (l.length+1)=7 by omega];rfl
 rename_i h;rw [Ni,Yd]
 congr 1
 rw [show 8 * ((l.length+7) / 8) - l.length=(8 * ((l.length+1+7) / 8) - (l.length+1))+1 by omega,Xf];rfl
theorem Qny (k j:Nat) (hk:k<=7) (hj:j<=7):(128 / 2 ^ k).testBit (7 - j)=decide (j=k):=by
 have:128 / 2 ^ k=2 ^ (7 - k):=by
  rw [show (128:Nat)=2 ^ 7 from rfl,Nat.pow_div hk (by omega)]
 rw [this,Nat.testBit_two_pow];by_cases h:j=k
 ·
  subst h;simp
 simp [h];omega
theorem Qrc (l:List Bool) (y:UInt8) (hy:y.toNat=((Bj (l++[false])).getD (l.length / 8) 0).toNat ||| 128 / 2 ^ (l.length % 8)) :
  Bj (l++[true])=(Bj (l++[false])).set (l.length / 8) y:=by
 symm
 refine Z4 ?_;have hol:(Bj (l++[false])).length=(l.length+8) / 8:=by rw [Ls,Ye];rfl
 have hob:=Ni (l++[false]);generalize Bj (l++[false])=o at *;have e:(l++[true]).length=l.length+1:=by simp
 have e2:(l++[false]).length=l.length+1:=by simp
 rw [e];rw [e2] at hob;generalize hr:8 * ((l.length+1+7) / 8) - (l.length+1)=r at *;apply List.ext_getElem?;intro j;by_cases hj:j < 8 * o.length
 ·
  rw [Qb4 _ j (by simpa using hj)];have h1:=Qb4 o j hj;rw [hob] at h1;by_cases hji:j / 8=l.length / 8
  ·
   have h2:(o.set (l.length / 8) y).getD (j / 8) 0=y:=by
    rw [Yb,hji,Gk (by omega)];rfl
   rw [h2,hy,Nat.testBit_or,Qny _ _ (by omega) (by omega),<- hji];by_cases hjl:j=l.length
   ·
    subst hjl;simp
   have hm:¬ j % 8=l.length % 8:=by omega
   rw [decide_eq_false hm,Bool.or_false,<- h1];by_cases hlt:j < l.length
   ·
    rw [Yd,Yd,Yi hlt,Yi hlt]
   rw [Yg (by simp;omega),Yg (by simp;omega)];simp
  have h2:(o.set (l.length / 8) y).getD (j / 8) 0=o.getD (j / 8) 0:=by
   rw [Yb,Gr (fun h=>hji h.symm),Yb]
  rw [h2,<- h1];have hjl:¬ j=l.length:=by omega
  by_cases hlt:j < l.length
  ·
   rw [Yd,Yd,Yi hlt,Yi hlt]
  rw [Yg (by simp;omega),Yg (by simp;omega)];simp
 rw [Xx (by rw [In];simp;omega),Xx];simp;omega
theorem Qfx (n v k:Nat) (h:k < n):(A2 n v).take (k+1)=(A2 n v).take k++[v.testBit (n - 1 - k)]:=by
 rw [U7,Zu n v k h];rfl
theorem Qew (v i:Nat):(v / 2 ^ i) % 2=(v.testBit i).toNat:=by
 rw [Y4];rcases Xj (v / 2 ^ i) with h | h <;> rw [h] <;> rfl
def Iz (l:List Bool) (at_ n:Nat):Nat×Int:=if l.length < at_+n then (0,10) else (Cc ((l.drop at_).take n),0)
def Oa:List Bool->Nat->Nat->Nat×Int
 | [],_,_=>(0,10)
 | false::_,_,n=>(n,0)
 | true::r,most,n=>if n=most then (0,3) else Oa r most (n+1)
def wr (g:Nat) (a:OA) (cap:Nat) (l:List Bool):Res :=
 Res.pair (Xo g 236 [.slice a (Bj l).length cap,.int .i64 l.length]) (X7 5 1 a (Bj l).length cap (Ao (Bj l)))
theorem Qk (w:World):Does Ya 107 #[] w fun v w'=>∃ g,Heap w [] w' [wr g none 0 []]/\v=.pointer (some ⟨g,0,none⟩):=by
 refine En [] 3 Tryz.func107 ?_;refine VS [] ?_;refine VQ [0] fun K hK=>?_;refine Dl ?_;refine Qs ?_;have hH:=(Sq (w:=w) (E:=5) (sz:=1)).box 236 [.slice none 0 0,.int .i64 0];generalize w.alloc (X9 [Gs none 0 0,.int .i64 0].toArray 236)=w1 at *;apply hK;clear hK;refine Ae (Al rfl rfl ?_);exact ⟨_,hH.pair,rfl⟩
theorem Ir (g:Nat) (a:OA) (cap:Nat) (l:List Bool) (v:Nat) (n:Nat) (w:World) (hn:n<=64) (hv:v < 2 ^ n) (hl:l.length<=100000000000000)
  (hL:Heap w (wr g a cap l).foot w [wr g a cap l]):Does Ya 108 #[.pointer (some ⟨g,0,none⟩),.int .u64 v,.int .i64 n] w fun x w'=>∃ a' cap',Heap w (wr g a cap l).foot w' [wr g a' cap' (l++A2 n v)]/\x=.int .i64 0:=by
 have hv64:v < 18446744073709551616:=He hv (Y1 (n:=2) (by omega) hn);have hdiv:v / 2 ^ n=0:=Gg hv;refine En [.pointer (some ⟨g,0,none⟩),.int .u64 v,.int .i64 n] 81 Tryz.func108 ?_;refine VS [0,1,2] ?_;refine VS [0,1,2,9] ?_;refine Ai rfl rfl (fun h=>by cases h) (fun h=>Ad ?_);refine VQ [0,1,2,26] fun K hK=>?_
 have hsh:By Gt ((n:Int) % 18446744073709551616)=n:=by
  rw [Gb (by omega) (by omega),By,show IntKind.u64.bits=64 from rfl];omega
 have hdv:(v:Int) / 2 ^ n=0:=by
  have e:((2:Int) ^ n)=((2 ^ n:Nat):Int):=by push_cast;rfl
  rw [e,<- Int.natCast_ediv,hdiv];rfl
 rw [hsh,hdv]
 suffices out:∀ b:Bool,(b=true ↔ False)->K [(0,.pointer (some ⟨g,0,none⟩)),(1,.int .u64 v),(2,.int .i64 n),(26,.bool b)] w by (repeat' (first | exact out _ _ (by first | omega | (simp;done) | (simp;omega)) | exact out _ (by first | omega | (simp;done) | (simp;omega)) | refine ⟨fun _=>?_,fun _=>?_⟩ | refine Qo ?_))
 intro b hb;apply hK;clear hK;refine Ai rfl rfl (fun h=>(hb.1 h).elim) (fun h=>Ad ?_);refine VS [0,1,7] ?_;refine VB ?_;refine Ay [0,1,7] (fun m e w'=>∃ (k:Nat) (i:Int) (a':OA) (cap':Nat),Is e [(0,.pointer (some ⟨g,0,none⟩)),(1,.int .u64 v),(7,.int .i64 i)]/\Heap w (wr g a cap l).foot w' [wr g a' cap' (l++(A2 n v).take k)]/\k<=n/\i=(n:Int) - 1 - k/\m=n - k) n ?_ ?_
 ·
  refine Qs ?_;exact ⟨0,_,a,cap,rfl,by simpa using hL,by omega,by omega,rfl⟩
 rintro m e w1 ⟨k,i,a1,cap1,rfl,hH,hk,hi,rfl⟩;refine VS [0,1,7,30] ?_;refine VD (fun h=>?_) (fun h=>?_)
 ·
  refine Ad ?_;refine VB ?_;have htk:=Qfx n v k (by omega);have hlen:(l++(A2 n v).take k).length=l.length+k:=by rw [Ye,Xc,C0];omega
  generalize hl1:l++(A2 n v).take k=l1 at *;have htl:=Ls l1;have hH1:=hH.unpair;refine VQ [0,1,7,38] fun K hK=>?_;(repeat first | refine Qo ?_ | refine Qp ?_ | (refine Gc hH1 ?_;(try refine Qs ?_)));apply hK;clear hK;(repeat refine Aw ?_);refine Do [0,1,7] (fun e w'=>∃ a2 cap2,Is e [(0,.pointer (some ⟨g,0,none⟩)),(1,.int .u64 v),(7,.int .i64 i)]/\Heap w (wr g a cap l).foot w' [X7 5 1 a2 (Bj (l1++[false])).length cap2 (Ao (Bj (l1++[false]))),Xo g 236 [.slice a2 (Bj (l1++[false])).length cap2,.int .i64 l1.length]]) ?_ ?_
  ·
   refine VD (fun h=>?_) (fun h=>Ad ?_)
   ·
    have e1:Bj (l1++[false])=Bj l1++[0]:=by rw [Qev,if_pos (by omega)]
    refine VQ [0,1,7] fun K hK=>?_;(repeat first | refine Qo ?_ | refine Qp ?_ | (refine Gc hH1 ?_;(try refine Qs ?_)));refine Oi (xs:=[.const (.int .u8 0)]) Yw E5 rfl rfl rfl (by omega) ?_;refine Qs ?_;refine ⟨by simp [X2],?_⟩;refine Ce ?_;refine Qs ?_;refine Qdx hH1 1 (0) rfl Yw Mv (by first | rfl | (simp;done) | omega) (fun h=>by (first | omega | (simp;done) | (simp;omega))) fun a' cap' w5 hc' hH2=>?_;(try refine Qs ?_);rw [<- e1] at hH2 ⊢;refine Ag ?_;refine Qs ?_;refine Ap hH2 0 (vs:=[.slice a' (Bj (l1++[false])).length cap']) rfl rfl (by kernel_rfl) (by first | decide | (simp;done) | (simp;omega)) (by simp [Yz]) fun w6 hH3=>?_;(try refine Qs ?_);apply hK;clear hK;refine Ah ?_;refine Qs ?_;exact ⟨_,_,rfl,hH3.perm (List.Perm.swap _ _ _)⟩
   have e1:Bj (l1++[false])=Bj l1:=by rw [Qev,if_neg (by omega)]
   rw [e1];refine Ah ?_;refine Qs ?_;exact ⟨_,_,rfl,hH1.perm (List.Perm.swap _ _ _)⟩
  clear hH hH1;rintro e w2 ⟨a2,cap2,rfl,hH⟩;generalize hb:v.testBit (n - 1 - k)=b at htk;have hi2:i=((n - 1 - k:Nat):Int):=by omega
  have hsh2:By Gt (i % 18446744073709551616)=n - 1 - k:=by
   rw [hi2,Gb (by omega) (by omega),By,show IntKind.u64.bits=64 from rfl];omega
  have hsh3:(v:Int) / 2 ^ (n - 1 - k)=((v / 2 ^ (n - 1 - k):Nat):Int):=by
   rw [Int.natCast_ediv];push_cast;rfl
  have hle:v / 2 ^ (n - 1 - k)<=v:=Gp _ _;have hbit:=Qew v (n - 1 - k);rw [hb] at hbit;refine VQ [0,1,7,53] fun K hK=>?_;rw [hsh2,hsh3];clear hsh3;generalize v / 2 ^ (n - 1 - k)=q at *;(repeat first | refine Qo ?_ | refine Qp ?_ | (refine Gc hH ?_;(try refine Qs ?_)));rw [show Int.toNat 1=1 from rfl,Ub,Hf,hbit];apply hK;clear hK;(repeat refine Aw ?_);refine Do [0,1,7] (fun e w'=>Is e [(0,.pointer (some ⟨g,0,none⟩)),(1,.int .u64 v),(7,.int .i64 i)]/\Heap w (wr g a cap l).foot w' [X7 5 1 a2 (Bj (l1++[b])).length cap2 (Ao (Bj (l1++[b]))),Xo g 236 [.slice a2 (Bj (l1++[b])).length cap2,.int .i64 l1.length]]) ?_ ?_
  ·
   cases b with
   | false =>
    refine Ai rfl rfl (fun h=>by simp at h) (fun h=>Ad ?_);refine Ah ?_;refine Qs ?_;exact ⟨rfl,hH⟩
   | true =>
    refine Ai rfl rfl (fun h=>?_) (fun h=>by simp at h);have hol:(Bj (l1++[false])).length=(l1.length+8) / 8:=by rw [Ls,Ye];rfl
    have hlen2:(Bj (l1++[true])).length=(Bj (l1++[false])).length:=by rw [Ls,Ls];simp
    have htrue:=Qrc l1;generalize Bj (l1++[true])=o2 at *;generalize Bj (l1++[false])=o at *;obtain ⟨ga,rfl⟩:=Cw (hH.at 0 rfl) (by omega);have hsh4:By IntKind.u8 (((l1.length:Int) % 8) % 18446744073709551616)=l1.length % 8:=Qun (by omega) (by simp [Gl];omega) (by decide);refine VL [0,1,7] 20 fun K hK=>?_;(repeat first | refine Qo ?_ | refine Qp ?_ | (refine Gc hH ?_;(try refine Qs ?_)));have e1:((l1.length:Int) / 8).toNat=l1.length / 8:=by omega
    rw [hsh4,e1,show (128:Int) / 2 ^ (l1.length % 8)=((128 / 2 ^ (l1.length % 8):Nat):Int) from Sr 128 _];have hm128:128 / 2 ^ (l1.length % 8)<=128:=Gp _ _;have hx256:=(o.getD (l1.length / 8) 0).toNat_lt;generalize hmm:128 / 2 ^ (l1.length % 8)=mm at *
    have hy:(Ga ((o.getD (l1.length / 8) 0).toNat ||| mm)).toNat=(o.getD (l1.length / 8) 0).toNat ||| mm :=
     T1 (Nat.or_lt_two_pow (n:=8) hx256 (by omega))
    have ho2:=htrue _ hy;rw [Ub,<- hy];generalize (Ga ((o.getD (l1.length / 8) 0).toNat ||| mm))=y at *;refine ⟨⟨by omega,by omega⟩,⟨by omega,by omega⟩,⟨by omega,by omega⟩,?_⟩;refine Ag ?_;refine Qs ?_;refine Dp hH 0 (o:=(l1.length / 8)) (vs:=[.int .u8 y.toNat]) rfl (by first | exact (Bv _ _ _).symm | rfl | simp [Bv]) rfl (by kernel_rfl) (by first | omega | (simp;done) | (simp;omega) | (simp [Ao,Br];omega) | (rw [natsV_len];simp;omega)) (by simp [Yz]) fun w6 hH2=>?_;(try refine Qs ?_);simp only [Xk,Dm (Ao o) _ _ (show l1.length / 8 < (Ao o).length by rw [Of];omega),T7,<- ho2,Yt] at hH2;apply hK;clear hK;refine Ah ?_;refine Qs ?_;rw [hlen2];exact ⟨rfl,hH2⟩
  clear hH;rintro e w3 ⟨rfl,hH⟩;refine VQ [0,1,7] fun K hK=>?_;(repeat first | refine Qo ?_ | refine Qp ?_ | (refine Gc hH ?_;(try refine Qs ?_)));refine Ag ?_;refine Qs ?_;refine Ap hH 1 (vs:=[.int .i64 (l1.length+1)]) rfl rfl (by kernel_rfl) (by first | decide | (simp;done) | (simp;omega)) (by simp [Yz]) fun w6 hH2=>?_;(try refine Qs ?_);apply hK;clear hK;refine An ?_;refine VS [0,1,7] ?_;refine Ah ?_;refine Qs ?_;refine ⟨n - (k+1),by omega,k+1,i - 1,a2,cap2,rfl,?_,by omega,by omega,rfl⟩;rw [htk,<- Yd,hl1];have hH3:=(hH2.perm (List.Perm.swap _ _ _)).pair;have e:wr g a2 cap2 (l1++[b])=Res.pair (Xo g 236 [.slice a2 (Bj (l1++[b])).length cap2,.int .i64 (l1.length+1)]) (X7 5 1 a2 (Bj (l1++[b])).length cap2 (Ao (Bj (l1++[b])))):=by simp [wr]
  rw [e];exact hH3
 refine Ax rfl ?_;refine VS [6] ?_;refine Ae (Al rfl rfl ?_);have e:(A2 n v).take k=A2 n v:=Yo (by rw [C0];omega);rw [e] at hH;exact ⟨_,_,hH,rfl⟩
theorem Pg (g:Nat) (a:OA) (cap:Nat) (l:List Bool) (w:World) (hL:(wr g a cap l).holds w) :
  Does Ya 111 #[.pointer (some ⟨g,0,none⟩)] w fun x w'=>w'=w/\x=Ab (Bj l):=by
 obtain ⟨h1,h2,_⟩:=hL;refine En [.pointer (some ⟨g,0,none⟩)] 10 Tryz.func111 ?_;refine VS [0] ?_;refine VS [0,4] ?_;refine Ai rfl rfl (fun h=>by cases h) (fun h=>Ad ?_);refine VQ [2] fun K hK=>?_;refine ⟨_,Af h1 rfl,?_⟩;refine Qs ?_;refine ⟨_,Fw (As h2),?_⟩;apply hK;clear hK;exact Ae (Al rfl rfl ⟨rfl,rfl⟩)
theorem Oj (g:Nat) (a:OA) (cap:Nat) (l:List Bool) (w:World) (hL:(wr g a cap l).holds w) :
  Does Ya 112 #[.pointer (some ⟨g,0,none⟩)] w fun x w'=>w'=w/\x=.int .i64 l.length:=by
 obtain ⟨h1,h2,_⟩:=hL;refine En [.pointer (some ⟨g,0,none⟩)] 9 Tryz.func112 ?_;refine VS [0] ?_;refine VS [0,4] ?_;refine Ai rfl rfl (fun h=>by cases h) (fun h=>Ad ?_);refine VQ [2] fun K hK=>?_;refine ⟨_,Af h1 rfl,?_⟩;apply hK;clear hK;exact Ae (Al rfl rfl ⟨rfl,rfl⟩)
def rd (g gs:Nat) (s:LB) (at_:Nat):Res :=
 Res.pair (Xo g 278 [.func (.func 191) #[] #[.pointer (some ⟨gs,0,none⟩)],.int .i64 at_,.int .i64 (8 * s.length:Nat)]) (Xo gs 9 [Ab s])
theorem Qy5 (s:LB) (gs i:Nat) (w:World) (hi:i < 8 * s.length) (hs:s.length<=1000000000000000000) (hc:w.cell? ⟨gs,0,none⟩=some (Ab s)) :
  Does Ya 191 #[.int .i64 i,.pointer (some ⟨gs,0,none⟩)] w fun x w'=>w'=w/\x=.int .u64 ((Cr s).getD i false).toNat:=by
 have hb:=Qb4 s i hi;have hlt:=(s.getD (i / 8) 0).toNat_lt;have e1:((i:Int) / 8).toNat=i / 8:=by omega
 have hsh:By Gt ((7 - (i:Int) % 8) % 18446744073709551616)=7 - i % 8:=Qun (by omega) (by simp [Gl];omega) (by decide);have hbit:=Qew (s.getD (i / 8) 0).toNat (7 - i % 8);refine En [.int .i64 i,.pointer (some ⟨gs,0,none⟩)] 15 Tryz.func191 ?_;refine VS [0,1] ?_;refine VQ [3] fun K hK=>?_;refine ⟨_,hc,?_⟩;refine Qs ?_;(repeat first | refine Qo ?_ | refine Qp ?_);rw [hsh,e1,Gb (by omega) (by omega),Sr];have hle:=Gp (s.getD (i / 8) 0).toNat (2 ^ (7 - i % 8));generalize (s.getD (i / 8) 0).toNat / 2 ^ (7 - i % 8)=q at *;(repeat first | refine Qo ?_ | refine Qp ?_);rw [show Int.toNat 1=1 from rfl,Ub,Hf,hbit];apply hK;clear hK;have hb2:(Cr s).getD i false=(s.getD (i / 8) 0).toNat.testBit (7 - i % 8):=by rw [Yb,hb];rfl
 rw [hb2];exact Ae (Al rfl rfl ⟨rfl,rfl⟩)
theorem Qgi (s:LB) (at_:Int) (w:World) (ha:I64 at_) (hs:s.length<=1000000000000000000) :
  Does Ya 147 #[Ab s,.int .i64 at_] w fun v w' =>
   ((at_ < 0∨8 * (s.length:Int) < at_)/\Heap w [] w' []/\v=.pointer none)∨(¬ (at_ < 0∨8 * (s.length:Int) < at_)/\∃ g gs,Heap w [] w' [rd g gs s at_.toNat]/\v=.pointer (some ⟨g,0,none⟩)):=by
 obtain ⟨ha1,ha2⟩:=ha;refine En [Ab s,.int .i64 at_] 21 Tryz.func147 ?_;refine VQ [1,2] fun K hK=>?_;refine Dl ?_;refine Qs ?_;have hH:=(Ug w).box 9 [Ab s];generalize w.alloc (X9 [Ab s].toArray 9)=w1 at *;generalize w.heap.size=gs at *;apply hK;clear hK;refine VQ [1,2,13] fun K hK=>?_
 suffices out:∀ b:Bool,(b=true ↔ at_ < 0∨8 * (s.length:Int) < at_)->K [(1,.int .i64 at_),(2,.pointer (some ⟨gs,0,none⟩)),(13,.bool b)] w1 by
  refine ⟨fun h=>⟨_,Af (hH.at 0 rfl) rfl,?_⟩,fun h=>out _ (by simp [h])⟩;refine Qs ?_;(repeat' (first | exact out _ _ (by first | omega | (simp;done) | (simp;omega)) | exact out _ (by first | omega | (simp;done) | (simp;omega)) | refine ⟨fun _=>?_,fun _=>?_⟩ | refine Qo ?_))
 intro b hb;apply hK;clear hK;refine Vi (fun h=>?_) (fun h=>Ad ?_)
 ·
  refine VS [4] ?_;exact Ae (Al rfl rfl (.inl ⟨hb.1 h,hH.sub (by simp),rfl⟩))
 have hg:¬ (at_ < 0∨8 * (s.length:Int) < at_):=fun h'=>by rw [hb.2 h'] at h;cases h
 clear h hb;obtain ⟨at_,rfl⟩:∃ n:Nat,at_=n:=⟨at_.toNat,by omega⟩;refine VQ [4] fun K hK=>?_;(repeat first | refine Qo ?_ | refine Qp ?_ | (refine Gc hH ?_;(try refine Qs ?_)));refine Dl ?_;refine Qs ?_;have hH2:=hH.box 278 [.func (.func 191) #[] #[.pointer (some ⟨gs,0,none⟩)],.int .i64 at_,.int .i64 (8 * s.length:Nat)];apply hK;clear hK;refine Ae (Al rfl rfl (.inr ⟨hg,_,gs,?_,rfl⟩));exact hH2.pair
theorem Qrd (g gs:Nat) (s:LB) (at_ n:Nat) (w:World) (hn:n<=64) (ha:at_<=8 * s.length) (hs:s.length<=1000000000000000)
  (hL:Heap w (rd g gs s at_).foot w [rd g gs s at_]):Does Ya 148 #[.pointer (some ⟨g,0,none⟩),.int .i64 n] w fun x w' =>
   (8 * s.length < at_+n/\w'=w/\x=.tuple #[.int .u64 0,.int .i64 10])∨(at_+n<=8 * s.length/\Heap w (rd g gs s at_).foot w' [rd g gs s (at_+n)]/\x=.tuple #[.int .u64 (Cc (((Cr s).drop at_).take n)),.int .i64 0]):=by
 have hH:=hL.unpair;have hbl:=In s;refine En [.pointer (some ⟨g,0,none⟩),.int .i64 n] 62 Tryz.func148 ?_;refine VS [0,1] ?_;refine VQ [0,1,16] fun K hK=>?_;refine ⟨_,Af (hH.at 0 rfl) rfl,?_⟩;refine Qs ?_;apply hK;clear hK;refine Ai rfl rfl (fun h=>by cases h) (fun h=>Ad ?_);refine VQ [0,1,22] fun K hK=>?_
 suffices out:∀ b:Bool,(b=true ↔ False)->K [(0,.pointer (some ⟨g,0,none⟩)),(1,.int .i64 n),(22,.bool b)] w by (repeat' (first | exact out _ _ (by first | omega | (simp;done) | (simp;omega)) | exact out _ (by first | omega | (simp;done) | (simp;omega)) | refine ⟨fun _=>?_,fun _=>?_⟩ | refine Qo ?_))
 intro b hb;apply hK;clear hK;refine Ai rfl rfl (fun h=>(hb.1 h).elim) (fun h=>Ad ?_);clear hb h;refine Vq [0,1,33] fun K hK=>?_;(repeat first | refine Qo ?_ | refine Qp ?_ | (refine Gc hH ?_;(try refine Qs ?_)));apply hK;clear hK;refine VD (fun h=>?_) (fun h=>Ad ?_)
 ·
  refine VS [4,5] ?_;exact Ae (Bp rfl rfl rfl (.inl ⟨by omega,rfl,rfl⟩))
 refine VS [0,1,6] ?_;refine VS [0,1,6,34,35] ?_;refine VB ?_;refine Ay [0,1,6,34,35] (fun m e w'=>∃ (k:Nat),Is e [(0,.pointer (some ⟨g,0,none⟩)),(1,.int .i64 n),(6,.int .u64 (Cc (((Cr s).drop at_).take k))),(34,.int .i64 n),(35,.int .i64 k)]/\Is w' w/\k<=n/\m=n - k) n ?_ ?_
 ·
  refine Qs ?_;exact ⟨0,rfl,rfl,by omega,rfl⟩
 rintro m e w' ⟨k,rfl,rfl,hk,rfl⟩;refine VS [0,1,6,34,35,36] ?_;(repeat refine Aw ?_);refine VD (fun h=>?_) (fun h=>?_)
 ·
  refine Ad ?_;refine VB ?_;have hlt:=Qml (((Cr s).drop at_).take k);rw [Xc,Uh,Nat.min_eq_left (by omega)] at hlt;have h63:Cc (((Cr s).drop at_).take k) < 2 ^ 63:=He hlt (Y1 (by omega) (by omega));have htk:=Lv false (l:=(Cr s).drop at_) (i:=k) (by simp;omega);have hnext:=Qvk (((Cr s).drop at_).take k) (((Cr s).drop at_).getD k false);rw [<- htk] at hnext;have hgd:((Cr s).drop at_).getD k false=(Cr s).getD (at_+k) false:=by simp [Yb]
  rw [hgd] at hnext;refine VS [0,1,6,7,34,35] ?_;refine VH w' (Ext.refl _) [0,1,6,34,35] [(0,true),(1,true),(2,true),(3,true),(4,true),(5,true),(6,true),(7,true),(8,true),(9,true),(10,true),(11,true),(12,false),(13,true),(14,true)] fun K hK=>?_;(repeat first | refine Qo ?_ | refine Qp ?_ | (refine Gc hH ?_;(try refine Qs ?_)));have hbd:=Qy5 s gs (at_+k) w' (by omega) (by omega) (Af (hH.at 1 rfl) rfl);rw [Int.natCast_add] at hbd;refine Er ?_;refine Qs ?_;refine FnK.mk Tryz.call191 hbd ?_;rintro v w3 ⟨rfl,rfl⟩;refine Qs ?_;refine ⟨Ext.refl _,?_⟩;rw [show By Gt 1=1 from rfl];generalize (Cr s).getD (at_+k) false=b at *
  have hor:Cc (((Cr s).drop at_).take k) * 2 ||| b.toNat=2 * Cc (((Cr s).drop at_).take k)+b.toNat:=by
   rw [Xn];cases b
   ·
    simp
   exact (Nat.two_pow_add_eq_or_of_lt (i:=1) (b:=1) (by omega) _).symm
  rw [Um] at htk;generalize Cc (((Cr s).drop at_).take k)=q at *;have e1:(q:Int) * 2 ^ 1 % 18446744073709551616=((q * 2:Nat):Int):=by omega
  rw [e1];refine ⟨⟨by omega,by omega⟩,⟨by cases b <;> simp,by cases b <;> simp⟩,?_⟩;simp only [Ub];rw [hor,<- hnext];apply hK;clear hK;refine An ?_;refine VS [0,1,6,34,35] ?_;refine Ah ?_;refine Qs ?_;exact ⟨n - (k+1),by omega,k+1,rfl,rfl,by omega,rfl⟩
 refine Ax rfl ?_;refine VQ [6] fun K hK=>?_;(repeat first | refine Qo ?_ | refine Qp ?_ | (refine Gc hH ?_;(try refine Qs ?_)));have hkn:k=n:=by omega
 subst hkn;refine Ag ?_;refine Qs ?_;refine Ap hH 0 (vs:=[.int .i64 (at_+k:Nat)]) rfl rfl (by kernel_rfl) (by first | decide | (simp;done) | (simp;omega)) (by simp [Yz]) fun w6 hH2=>?_;(try refine Qs ?_);apply hK;clear hK;refine VS [4,5] ?_;exact Ae (Bp rfl rfl rfl (.inr ⟨by omega,hH2.pair,rfl⟩))
def Az (l:List Bool):LV:=[Ab (Bj l),.int .i64 l.length]
def Ll (l:List Bool):Value:=.agg (Az l).toArray
theorem Qvl (l:List Bool) (h:l.length % 8≠0):((Bj l).getD ((Bj l).length - 1) 0).toNat * 2 ^ (l.length % 8) % 256=0:=by
 have e:l=l.take (8 * (l.length / 8))++l.drop (8 * (l.length / 8)):=(Yy _ _).symm;have h1:(l.take (8 * (l.length / 8))).length % 8=0:=by rw [Xc];omega
 have h2:(l.drop (8 * (l.length / 8))).length=l.length % 8:=by rw [Uh];omega
 have h3:Bj l=Bj (l.take (8 * (l.length / 8)))++Bj (l.drop (8 * (l.length / 8))):=by
  conv=>lhs;rw [e]
  exact Qbl _ _ h1
 generalize l.drop (8 * (l.length / 8))=m at *;generalize l.take (8 * (l.length / 8))=q at *;have h4:(Bj m).length=1:=by rw [Ls,h2];omega
 have h5:=Ni m
 match hm:Bj m,h4 with
 | [x],_ =>
  rw [h3,hm];have:((Bj q++[x]).getD ((Bj q++[x]).length - 1) 0)=x:=by simp [Yb]
  rw [this];rw [hm,Qr,Qb3,Yq] at h5;have h6:=congrArg Cc h5;rw [Og,Qeu,Ud] at h6
  have hz:Cc (Yc (8 * ((m.length+7) / 8) - m.length) false)=0:=by
   rw [<- Qb5,Og,Nat.zero_mod]
  rw [hz,h2,Xg x.toNat_lt,Un,show 8 * ((l.length % 8+7) / 8) - l.length % 8=8 - l.length % 8 by omega] at h6;rw [h6,X6,<- U9,show 8 - l.length % 8+l.length % 8=8 by omega];exact Nat.mul_mod_left _ _
theorem Qy6 (l:List Bool) (w:World) (hl:l.length<=1000000000000000000):Does Ya 146 #[Ll l] w fun x w'=>Heap w [] w' []/\x=.bool true:=by
 have htl:=Ls l;refine En [Ll l] 40 Tryz.func146 ?_;refine VQ [1] fun K hK=>?_;refine Dl ?_;refine Qs ?_;have hH:=(Ug w).box 184 (Az l);rw [Ll];refine Qs ?_;generalize w.alloc (X9 (Az l).toArray 184)=w1 at *;apply hK;clear hK;generalize w.heap.size=g at *;refine VQ [1,20] fun K hK=>?_;(repeat first | refine Qo ?_ | refine Qp ?_ | (refine Gc hH ?_;(try refine Qs ?_)))
 suffices out:∀ b:Bool,(b=true ↔ False)->K [(1,.pointer (some ⟨g,0,none⟩)),(20,.bool b)] w1 by
  refine ⟨fun _=>?_,fun h=>absurd h (by omega)⟩;(repeat first | refine Qo ?_ | refine Qp ?_ | (refine Gc hH ?_;(try refine Qs ?_)));exact out _ (by simp;omega)
 intro b hb;apply hK;clear hK;refine Ai rfl rfl (fun h=>(hb.1 h).elim) (fun h=>Ad ?_);clear h hb;refine Vq [2] fun K hK=>?_;(repeat first | refine Qo ?_ | refine Qp ?_ | (refine Gc hH ?_;(try refine Qs ?_)))
 suffices out:K [(2,.bool true)] by
  refine ⟨fun h=>?_,fun h=>?_⟩
  ·
   have hlb:=Qvl l (by omega);(repeat first | refine Qo ?_ | refine Qp ?_ | (refine Gc hH ?_;(try refine Qs ?_)));have hsh:By IntKind.u8 (((l.length:Int) % 8) % 18446744073709551616)=l.length % 8:=Qun (by omega) (by simp [Gl];omega) (by decide);rw [hsh,Qid,show (((Bj l).getD ((Bj l).length - 1) 0).toNat * 2 ^ (l.length % 8):Nat)=_ from rfl];have e:((((Bj l).getD ((Bj l).length - 1) 0).toNat * 2 ^ (l.length % 8):Nat):Int) % 256=0:=by omega
   rw [e];exact out
  exact out
 apply hK;clear hK;exact Ae (Al rfl rfl ⟨hH.sub (by simp),rfl⟩)
def E6 (ls:List (List Bool)):LV:=ls.flatMap Az
theorem Qnz (ls:List (List Bool)):∀ (i:Nat) (l:List Bool),ls[i]? = some l->∀ j u,(Az l)[j]? = some u->(E6 ls)[i * 2+j]? = some u:=by
 induction ls with
 | nil=>intro i l h;simp at h
 | cons x ls ih =>
  intro i l h j u hu;have hj:j < 2:=by have:=(Uy.1 hu).1;simpa [Az] using this
  cases i with
  | zero =>
   simp at h;subst h;simp only [E6,X1];rw [Yi (by simp [Az];omega)];simpa using hu
  | succ i =>
   have:=ih i l (by simpa using h) j u hu;simp only [E6,X1] at this ⊢;rw [Yg (by simp [Az];omega)];rw [<- this]
   congr 1
   simp [Az];omega
theorem Qd1 (ls:List (List Bool)) (p:Addr) (hp:p.spot=none) (cap:Nat) (w:World) (hl:RS w (some p) ls.length 2 (E6 ls)) (hs:ls.flatten.length<=10000000000000) (hls:ls.length<=1000000000) :
  Does Ya 110 #[.slice (some p) ls.length cap] w fun x w'=>Heap w [] w' []/\x=.tuple #[Ll ls.flatten,.int .i64 0]:=by
 refine En [.slice (some p) ls.length cap] 43 Tryz.func110 ?_;refine VQ [0,2] fun K hK=>?_;refine Bo (.agg #[.string ⟨#[]⟩,.int .i64 0]) (by kernel_rfl) ?_;refine Qs ?_;have hH:=(Ug w).box 184 [.string ⟨#[]⟩,.int .i64 0];generalize w.alloc (X9 [Gj ⟨#[]⟩,.int .i64 0].toArray 184)=w1 at *;generalize w.heap.size=gr at *;apply hK;clear hK;refine VQ [0,2,4] fun K hK=>?_;refine Aa Tryz.call107 ?_;refine Qs ?_;refine Y2 (Qk w1) ?_;rintro v w2 ⟨gw,hH2,rfl⟩;apply hK;clear hK;have hH3:=hH.call0 hH2;clear hH hH2;refine VS [2,4,11,12,13] ?_;refine VB ?_;refine Ay [2,4,11,12,13] (fun m e w'=>∃ (i:Nat) (a:OA) (c:Nat),Is e [(2,.pointer (some ⟨gr,0,none⟩)),(4,.pointer (some ⟨gw,0,none⟩)),(11,.slice (some p) ls.length cap),(12,.int .i64 ls.length),(13,.int .i64 i)]/\Heap w [] w' [wr gw a c (ls.take i).flatten,Xo gr 184 [.string ⟨#[]⟩,.int .i64 0]]/\i<=ls.length/\m=ls.length - i) ls.length ?_ ?_
 ·
  refine Qs ?_;exact ⟨0,none,0,rfl,hH3,by omega,rfl⟩
 clear hH3;rintro m e w' ⟨i,a,c,rfl,hH,hi,rfl⟩;refine VS [2,4,11,12,13,14] ?_;(repeat refine Aw ?_);refine VD (fun h=>?_) (fun h=>?_)
 ·
  refine Ad ?_;refine VB ?_;have hi':i < ls.length:=by omega
  have hli:ls[i]? = some ls[i]:=Yf hi';have htk:(ls.take (i+1)).flatten=(ls.take i).flatten++ls[i]:=by rw [U7,hli,Option.toList_some,Uk,List.flatten_singleton]
  have hfl:(ls.take (i+1)).flatten.length<=ls.flatten.length:=by
   have:ls.flatten=(ls.take (i+1)).flatten++(ls.drop (i+1)).flatten:=by rw [<- Uk,Yy]
   rw [this];simp
  rw [htk,Ye] at hfl;generalize hlx:ls[i]=l at *;generalize (ls.take i).flatten=acc at *;have htl:=Ls l;have hrd:=Qmj (hH.rs' hl) hp (i * 2) (Az l) (fun j u hu=>Qnz ls i l hli j u hu);refine VQ [2,4,6,11,12,13] fun K hK=>?_;refine ⟨⟨by omega,by omega⟩,Az l,⟨rfl,hrd⟩,?_⟩;refine Bo (.agg #[.string ⟨#[]⟩,.int .i64 0]) (by kernel_rfl) ?_;refine Qs ?_;have hH1:=hH.box 184 [.string ⟨#[]⟩,.int .i64 0];generalize w'.alloc (X9 [Gj ⟨#[]⟩,.int .i64 0].toArray 184)=w1 at *;generalize w'.heap.size=gb at *;refine Ag ?_;refine Qs ?_;refine Ap hH1 0 (vs:=Az l) rfl rfl (by kernel_rfl) (by simp [Az]) (by simp [Az,Yz]) fun w2 hH2=>?_;have hH2:Heap w [] w2 [Xo gb 184 (Az l),wr gw a c acc,Xo gr 184 [.string ⟨#[]⟩,.int .i64 0]]:=hH2;clear hH1 hH;apply hK;clear hK;refine VQ [2,4,6,11,12,13,19] fun K hK=>?_;refine ⟨Az l,⟨rfl,Bu (hH2.at 0 rfl)⟩,?_⟩;refine Aa Tryz.call146 ?_;refine Qs ?_;refine Y2 (Qy6 l w2 (by omega)) ?_;rintro v w3 ⟨hHm,rfl⟩;refine Qs ?_;apply hK;clear hK;have hH3:=hH2.call0 hHm;clear hH2 hHm;refine Ai rfl rfl (fun h=>by simp at h) (fun h=>Ad ?_);refine VQ [2,4,6,7,11,12,13] fun K hK=>?_;(repeat first | refine Qo ?_ | refine Qp ?_ | (refine Gc hH3 ?_;(try refine Qs ?_)));refine Aa Tryz.call147 ?_;refine Qs ?_;refine Y2 (Qgi (Bj l) 0 w3 (I64.mk (by omega) (by omega)) (by omega)) ?_;rintro v w4 (⟨hbad,_⟩ | ⟨_,grd,gs,hHr,rfl⟩)
  ·
   exact absurd hbad (by omega)
  apply hK;clear hK;have hH4:=hH3.call0 hHr;clear hH3 hHr;refine VQ [2,4,7,11,12,13,25,26] fun K hK=>?_;(repeat first | refine Qo ?_ | refine Qp ?_ | (refine Gc hH4 ?_;(try refine Qs ?_)));apply hK;clear hK;have hH5:Heap w [] w4 [rd grd gs (Bj l) 0,wr gw a c acc,Xo gr 184 [.string ⟨#[]⟩,.int .i64 0]]:=hH4.sub (by simp);clear hH4;refine VB ?_;refine Ay [2,4,7,11,12,13,25,26] (fun m e w'=>∃ (k:Nat) (a:OA) (c:Nat),Is e [(2,.pointer (some ⟨gr,0,none⟩)),(4,.pointer (some ⟨gw,0,none⟩)),(7,.pointer (some ⟨grd,0,none⟩)),(11,.slice (some p) ls.length cap),(12,.int .i64 ls.length),(13,.int .i64 i),(25,.int .i64 l.length),(26,.int .i64 k)]/\Heap w [] w' [rd grd gs (Bj l) k,wr gw a c (acc++l.take k),Xo gr 184 [.string ⟨#[]⟩,.int .i64 0]]/\k<=l.length/\m=l.length - k) l.length ?_ ?_
  ·
   refine Qs ?_;exact ⟨0,a,c,rfl,by simpa using hH5,by omega,rfl⟩
  clear hH5;rintro m e w5 ⟨k,a1,c1,rfl,hH,hk,rfl⟩;refine VS [2,4,7,11,12,13,25,26,27] ?_;(repeat refine Aw ?_);refine VD (fun h=>?_) (fun h=>?_)
  ·
   refine Ad ?_;refine VB ?_
   have htb:(Cr (Bj l)).getD k false=l.getD k false:=by
    rw [Ni,Yb,Yi (by omega),Yb]
   have hbl:=In (Bj l)
   have hnum:Cc (((Cr (Bj l)).drop k).take 1)=(l.getD k false).toNat:=by
    rw [drop_getD false (by omega),htb];cases l.getD k false <;> rfl
   refine VQ [2,4,7,8,11,12,13,25,26] fun K hK=>?_;refine Aa Tryz.call148 ?_;refine Qs ?_;refine Y2 (Qrd grd gs (Bj l) k 1 w5 (by omega) (by omega) (by omega) (hH.focus 0 rfl)) ?_;rintro v w6 (⟨hbad,_⟩ | ⟨_,hHr,rfl⟩)
   ·
    exact absurd hbad (by omega)
   rw [hnum];apply hK;clear hK;have hH2:=hH.call1 0 rfl hHr;clear hHr hH;have htl2:=Ls (acc++l.take k);have hbt:(l.getD k false).toNat < 2 ^ 1:=by cases l.getD k false <;> simp
   refine VQ [2,4,7,11,12,13,25,26] fun K hK=>?_;refine Aa Uo ?_;refine Qs ?_;refine Y2 (Ir gw a1 c1 (acc++l.take k) (l.getD k false).toNat 1 w6 (by omega) hbt (by simp;omega) (hH2.focus 1 rfl)) ?_;rintro v w7 ⟨a2,c2,hHw,rfl⟩;apply hK;clear hK;have hH3:=hH2.call1 1 rfl hHw;clear hHw hH2;have hb1:A2 1 (l.getD k false).toNat=[l.getD k false]:=by cases l.getD k false <;> rfl
   rw [hb1,Yd,<- Lv false (show k < l.length by omega)] at hH3;refine An ?_;refine VS [2,4,7,11,12,13,25,26] ?_;refine Ah ?_;refine Qs ?_;exact ⟨l.length - (k+1),by omega,k+1,a2,c2,rfl,hH3,by omega,rfl⟩
  refine Ax rfl ?_;refine An ?_;refine VS [2,4,11,12,13] ?_;refine Ah ?_;refine Qs ?_;rw [Yo (by omega),<- htk] at hH;exact ⟨ls.length - (i+1),by omega,i+1,a1,c1,rfl,hH.sub (by simp),by omega,rfl⟩
 refine Ax rfl ?_;rw [Yo (by omega)] at hH;refine VQ [2,3] fun K hK=>?_;refine Aa Tryz.call111 ?_;refine Qs ?_;refine Y2 (Pg gw a c _ w' (hH.at 0 rfl)) ?_;rintro v w2 ⟨rfl,rfl⟩;refine Aa Tryz.call112 ?_;refine Qs ?_;refine Y2 (Oj gw a c _ w2 (hH.at 0 rfl)) ?_;rintro v w3 ⟨rfl,rfl⟩;refine Qs ?_;refine Ag ?_;refine Qs ?_;refine Ap hH 1 (vs:=Az ls.flatten) rfl rfl (by kernel_rfl) (by simp [Az]) (by simp [Az,Yz]) fun w4 hH2=>?_;have hH2:Heap w [] w4 [wr gw a c ls.flatten,Xo gr 184 (Az ls.flatten)]:=hH2;apply hK;clear hK;refine Ae (Kk rfl rfl rfl (Fm (hH2.at 1 rfl) (by kernel_rfl) (by kernel_rfl) rfl ?_));exact ⟨hH2.sub (by simp),rfl⟩
set_option maxHeartbeats 4000000
theorem Qvm (n:Int) (w:World) (hn:0<=n/\n<=9) :
  Does Ya 103 #[.int .i64 n] w fun v w'=>w'=w/\v=.int .i64 (min (n * 100000) 262144):=by
 refine En [.int .i64 n] 6 Tryz.func103 ?_;refine VS [0] ?_;refine VS [2] ?_;exact Ae (Al rfl rfl ⟨rfl,rfl⟩)
def Rt (i:Nat) (c:UInt8):Prop:=(i < 3/\c.toNat≠(([66,90,104]:LB).getD i 0).toNat)∨(i=3/\(c.toNat < 49∨57 < c.toNat))
instance (i:Nat) (c:UInt8):Decidable (Rt i c):=by unfold Rt;infer_instance
def Tu (s:LB) (a:Nat):Nat->Nat->Nat×Nat
 | _,0=>((s.getD (a+3) 0).toNat - 48,0)
 | i,k+1=>if s.length<=a+i then (0,10) else if Rt i (s.getD (a+i) 0) then (0,130) else Tu s a (i+1) k
end Go.Proofs.YtfinjnahapbemaaGreatDoor
namespace Go.Eng
open Go
def Res.obj (l:Nat) (o:Obj):Res:=⟨[l],fun w=>w.heap[l]? = some o,fun _ _ h hh=>(h l (by simp)).trans hh⟩
theorem Heap.newObj {w0 w:World}{B:LN}{G:List Res} (h:Heap w0 B w G) (o:Obj):Heap w0 B (w.alloc o) (Res.obj w.heap.size o::G) :=
 h.new _ (heap_alloc_new w o) (by simp [Res.obj])
theorem Qj6 {w:World}{l:Nat}{o:Obj} (h:l < w.heap.size):(w.putObj l o).heap[l]? = some o:=by
 simp [World.putObj,h]
theorem Qj7 {w:World}{l k:Nat}{o:Obj} (h:k≠l):(w.putObj l o).heap[k]? = w.heap[k]? := by
 simp only [World.putObj];rw [Array.getElem?_setIfInBounds_ne (by omega)]
theorem W9 {w:World}{l:Nat}{o:Obj}:(w.putObj l o).heap.size=w.heap.size:=by simp [World.putObj]
theorem Heap.put {w0 w:World}{B:LN}{G:List Res}{l:Nat}{o:Obj} (h:Heap w0 B w (Res.obj l o::G)) (o':Obj):Heap w0 B (w.putObj l o') (Res.obj l o'::G):=by
 have hf:=(h.foot _ (List.mem_cons_self ..) l (by simp [Res.obj])).2
 have hh:Heap w [l] (w.putObj l o') [Res.obj l o'] :=
  ⟨⟨rfl,rfl,rfl,by rw [W9];exact Y0 _,fun k _ hk=>Qj7 (by simpa using hk)⟩,
   fun r hr=>by simp at hr;subst hr;exact Qj6 hf,
   fun r hr b hb=>by simp at hr;subst hr;simp [Res.obj] at hb;subst hb;exact ⟨.inl (by simp),by rw [W9];exact hf⟩,
   List.pairwise_singleton _ _⟩
 have:=Heap.call1 0 h rfl hh;simpa using this
end Go.Eng
namespace Go.Proofs.YtfinjnahapbemaaGreatDoor
def Ox (ws ov:LN):Nat->Option Nat
 | 0=>none
 | n+1=>match Ox ws ov n with
  | none=>if ov.getD n 0=0 then some n else none
  | some a=>if ov.getD n 0=0/\ws.getD n 0 < ws.getD a 0 then some n else some a
def E8 (ws ov:LN):Nat:=(Ox ws ov ws.length).getD 0
def Q2 (s:LN×LN):LN×LN :=
 let next:=s.1.length
 let a:=E8 s.1 s.2
 let ov1:=s.2.set a next
 let b:=E8 s.1 ov1
 (s.1++[s.1.getD a 0+s.1.getD b 0],ov1.set b next++[0])
def Oz:Nat->LN×LN->LN×LN
 | 0,s=>s
 | k+1,s=>Q2 (Oz k s)
def Cj (ov:LN):Nat->Nat->Nat
 | 0,_=>0
 | f+1,i=>if ov.getD i 0=0 then 0 else Cj ov f (ov.getD i 0)+1
def P0 (w:LN):LN:=(Oz (w.length - 1) (w,Yc w.length 0)).2
def Ix (w:LN):LN:=(Yl w.length).map fun i=>Cj (P0 w) (2 * w.length) i
def B6 (l:LN):Nat:=l.foldl max 0
def M6 (most:Nat):Nat->LN->LN
 | 0,own=>Ix own
 | f+1,own=>if B6 (Ix own)<=most then Ix own else M6 most f (own.map fun x=>x / 2+1)
structure IsLeast (ws ov:LN) (a:Nat):Prop where
 lt:a < ws.length
 free:ov.getD a 0=0
 le:∀ i,i < ws.length->ov.getD i 0=0->ws.getD a 0 < ws.getD i 0∨(ws.getD a 0=ws.getD i 0/\a<=i)
theorem IsLeast.unique {ws ov:LN}{a b:Nat} (h:IsLeast ws ov a) (k:IsLeast ws ov b):a=b:=by
 have h1:=h.le b k.lt k.free;have h2:=k.le a h.lt h.free;omega
theorem Qaz (ws ov:LN):∀ n,Ox ws ov n=none->∀ i,i < n->ov.getD i 0≠0
 | 0,_,i,h=>by omega
 | n+1,h,i,hi=>by
  rw [Ox] at h;cases hl:Ox ws ov n with
  | none =>
   rw [hl] at h;simp only at h;split at h
   ·
    cases h
   rename_i h0;rcases Yp i n with h2 | h2
   ·
    exact Qaz ws ov n hl i h2
   rw [show i=n by omega];exact h0
  | some a=>rw [hl] at h;simp only at h;split at h <;> cases h
theorem Qex (ws ov:LN):∀ n a,Ox ws ov n=some a->a < n/\ov.getD a 0=0/\∀ i,i < n->ov.getD i 0=0->ws.getD a 0 < ws.getD i 0∨(ws.getD a 0=ws.getD i 0/\a<=i)
 | 0,a,h=>by cases h
 | n+1,a,h=>by
  rw [Ox] at h;cases hl:Ox ws ov n with
  | none =>
   rw [hl] at h;simp only at h;have hn:=Qaz ws ov n hl;split at h
   ·
    rename_i h0;cases h;refine ⟨by omega,h0,fun i hi hf=>?_⟩;rcases Yp i n with h2 | h2
    ·
     exact absurd hf (hn i h2)
    right;rw [show i=n by omega];exact ⟨rfl,Y0 _⟩
   cases h
  | some b =>
   rw [hl] at h;simp only at h;obtain ⟨h1,h2,h3⟩:=Qex ws ov n b hl;split at h
   ·
    rename_i h0;cases h;refine ⟨by omega,h0.1,fun i hi hf=>?_⟩;rcases Yp i n with h4 | h4
    ·
     have:=h3 i h4 hf;omega
    right;rw [show i=n by omega];exact ⟨rfl,Y0 _⟩
   rename_i h0;cases h;refine ⟨by omega,h2,fun i hi hf=>?_⟩;rcases Yp i n with h4 | h4
   ·
    exact h3 i h4 hf
   obtain rfl:i=n:=by omega
   rcases Yp (ws.getD i 0) (ws.getD a 0) with h5 | h5
   ·
    exact absurd ⟨hf,h5⟩ h0
   omega
theorem Qj8 {ws ov:LN}{i:Nat} (hi:i < ws.length) (hf:ov.getD i 0=0):IsLeast ws ov (E8 ws ov):=by
 unfold E8;cases hl:Ox ws ov ws.length with
 | none=>exact absurd hf (Qaz ws ov _ hl i hi)
 | some a =>
  obtain ⟨h1,h2,h3⟩:=Qex ws ov _ a hl;exact ⟨h1,h2,h3⟩
def Bc (f:Nat->Nat):Nat->Nat
 | 0=>0
 | n+1=>Bc f n+f n
theorem Mf {f g:Nat->Nat}:∀ n,(∀ i,i < n->f i=g i)->Bc f n=Bc g n
 | 0,_=>rfl
 | n+1,h=>by rw [Bc,Bc,Mf n fun i hi=>h i (by omega),h n (by omega)]
theorem Vm (f g:Nat->Nat):∀ n,Bc (fun i=>f i+g i) n=Bc f n+Bc g n
 | 0=>rfl
 | n+1=>by rw [Bc,Bc,Bc,Vm f g n];omega
theorem Sn (a c:Nat):∀ n,Bc (fun i=>if i=a then c else 0) n=if a < n then c else 0
 | 0=>by simp [Bc]
 | n+1=>by
  rw [Bc,Sn a c n];by_cases h1:a < n
  ·
   rw [if_pos h1,if_neg (by omega),if_pos (by omega)];rfl
  by_cases h2:n=a
  ·
   subst h2;simp
  rw [if_neg h1,if_neg h2,if_neg (by omega)]
theorem Z5 (f:Nat->Nat):∀ n i,i < n->f i<=Bc f n
 | 0,i,h=>by omega
 | n+1,i,h=>by
  rw [Bc];rcases Yp i n with h1 | h1
  ·
   have:=Z5 f n i h1;omega
  rw [show i=n by omega];omega
theorem Qig (f:Nat->Nat) (c:Nat):∀ n,(∀ i,i < n->f i<=c)->Bc f n<=n * c
 | 0,_=>by simp [Bc]
 | n+1,h=>by
  rw [Bc,X3];have h1:=Qig f c n fun i hi=>h i (by omega);have h2:=h n (by omega);omega
theorem Qvn {f:Nat->Nat}{n a b:Nat} (ha:a < n) (hb:b < n) (hab:a≠b):f a+f b<=Bc f n:=by
 have e:Bc f n=Bc (fun i=>if i=a then f a else 0) n+Bc (fun i=>if i=a then 0 else f i) n:=by
  rw [<- Vm];exact Mf n fun i _=>by split <;> simp_all
 have h2:=Z5 (fun i=>if i=a then 0 else f i) n b hb;simp only [if_neg (Ne.symm hab)] at h2;rw [e,Sn,if_pos ha];omega
theorem Qao {f:Nat->Nat}{n a b:Nat} (ha:a < n) (hb:b < n) (hab:a≠b):Bc (fun i=>if i=a∨i=b then 0 else f i) n+(f a+f b)=Bc f n:=by
 have e:Bc f n=Bc (fun i=>if i=a∨i=b then 0 else f i) n+(Bc (fun i=>if i=a then f a else 0) n+Bc (fun i=>if i=b then f b else 0) n):=by
  rw [<- Vm,<- Vm];refine Mf n fun i _=>?_;by_cases h1:i=a
  ·
   subst h1;simp [hab]
  by_cases h2:i=b
  ·
   subst h2;simp [h1]
  simp [h1,h2]
 rw [e,Sn,Sn,if_pos ha,if_pos hb]
def Kf:Nat->Nat
 | 0=>0
 | 1=>1
 | n+2=>Kf (n+1)+Kf n
theorem Qi7:∀ n,Kf n<=Kf (n+1)
 | 0=>by decide
 | n+1=>by rw [Kf];omega
theorem Qpb {m n:Nat} (h:m<=n):Kf m<=Kf n:=by
 induction n with
 | zero=>rw [show m=0 by omega];exact Y0 _
 | succ n ih =>
  rcases Yp m (n+1) with h1 | h1
  ·
   exact X4 (ih (by omega)) (Qi7 n)
  rw [show m=n+1 by omega];exact Y0 _
structure Grown (w:LN) (k:Nat) (ws ov:LN) (h:Nat->Nat):Prop where
 lws:ws.length=w.length+k
 lov:ov.length=w.length+k
 up:∀ i,i < w.length+k->ov.getD i 0=0∨(i < ov.getD i 0/\w.length<=ov.getD i 0/\ov.getD i 0 < w.length+k)
 roots:Bc (fun i=>if ov.getD i 0=0 then 1 else 0) (w.length+k)+k=w.length
 weight:Bc (fun i=>if ov.getD i 0=0 then ws.getD i 0 else 0) (w.length+k)=Bc (fun i=>w.getD i 0) w.length
 two:∀ j,w.length<=j->j < w.length+k->∃ a b,a < j/\b < j/\a≠b/\ov.getD a 0=j/\ov.getD b 0=j/\∀ i,ov.getD i 0=j->i=a∨i=b
 hup:∀ i,i < w.length+k->ov.getD i 0≠0->h i+1<=h (ov.getD i 0)
 hfib:∀ i,i < w.length+k->Kf (h i+2)<=ws.getD i 0
 deep:∀ i,i < w.length+k->1<=h i->∃ y,y < w.length+k/\ov.getD y 0≠0/\Kf (h i+1)<=ws.getD y 0
 order:∀ y r,y < w.length+k->r < w.length+k->ov.getD y 0≠0->ov.getD r 0=0->ws.getD y 0<=ws.getD r 0
theorem R6 (n i:Nat):(Yc n (0:Nat)).getD i 0=0:=by
 rw [Yb,List.getElem?_replicate];split <;> rfl
theorem Grown.start (w:LN) (h2:1<=w.length) (h1:∀ i,i < w.length->1<=w.getD i 0):Grown w 0 w (Yc w.length 0) (fun _=>0) where
 lws:=rfl
 lov:=by simp
 up i _:=.inl (R6 _ _)
 roots:=by
  have:Bc (fun i=>if (Yc w.length 0).getD i 0=0 then 1 else 0) w.length=Bc (fun _=>1) w.length:=Mf _ fun i _=>by rw [if_pos (R6 _ _)]
  have h:∀ n,Bc (fun _=>1) n=n:=fun n=>by induction n with
   | zero=>rfl
   | succ n ih=>rw [Bc,ih]
  rw [Un,Un,this,h]
 weight:=Mf _ fun i _=>by rw [if_pos (R6 _ _)]
 two j h3 h4:=by omega
 hup i hi h:=absurd (R6 _ _) h
 hfib i hi:=by have:=h1 i (by simpa using hi);simpa [Kf] using this
 deep i hi h:=by simp at h
 order y r _ _ h:=absurd (R6 _ _) h
theorem Pd {l:LN}{i v:Nat} (h:i < l.length):(l.set i v).getD i 0=v:=by
 rw [Yb,Gk h];rfl
theorem Pc {l:LN}{i j v:Nat} (h:i≠j):(l.set i v).getD j 0=l.getD j 0:=by
 rw [Yb,Gr h,Yb]
theorem Qj {l m:LN}{i:Nat} (h:i < l.length):(l++m).getD i 0=l.getD i 0:=by
 rw [Yb,Yi h,Yb]
theorem Vn {l:LN}{x:Nat}:(l++[x]).getD l.length 0=x:=by
 rw [Yb,Yg (Y0 _),Hm];rfl
theorem Qa0 {l:LN}{i:Nat} (h:l.length<=i):l.getD i 0=0:=by
 rw [Yb,Xx h];rfl
theorem Qa1 {ov:LN}:∀ n,0 < Bc (fun i=>if ov.getD i 0=0 then 1 else 0) n->∃ i,i < n/\ov.getD i 0=0
 | 0,h=>by simp [Bc] at h
 | n+1,h=>by
  rw [Bc] at h;by_cases h0:ov.getD n 0=0
  ·
   exact ⟨n,by omega,h0⟩
  rw [if_neg h0] at h;obtain ⟨i,hi,hf⟩:=Qa1 n (by omega);exact ⟨i,by omega,hf⟩
theorem Grown.pick {w:LN}{k:Nat}{ws ov:LN}{h:Nat->Nat} (g:Grown w k ws ov h) (hk:k+1 < w.length) :
  IsLeast ws ov (E8 ws ov)/\IsLeast ws (ov.set (E8 ws ov) ws.length) (E8 ws (ov.set (E8 ws ov) ws.length))/\E8 ws (ov.set (E8 ws ov) ws.length)≠E8 ws ov/\ov.getD (E8 ws (ov.set (E8 ws ov) ws.length)) 0=0:=by
 have hr:=g.roots;have hlw:=g.lws;have hlo:=g.lov;obtain ⟨i,hi,hf⟩:=Qa1 (ov:=ov) (w.length+k) (by omega);have ha:=Qj8 (ws:=ws) (ov:=ov) (by omega) hf;generalize E8 ws ov=a at *;have ha1:=ha.lt
 obtain ⟨j,hj,hf2⟩:=Qa1 (ov:=ov.set a ws.length) (w.length+k) (by
  have e:Bc (fun i=>if (ov.set a ws.length).getD i 0=0 then 1 else 0) (w.length+k)+Bc (fun i=>if i=a then 1 else 0) (w.length+k)=Bc (fun i=>if ov.getD i 0=0 then 1 else 0) (w.length+k):=by
   rw [<- Vm];refine Mf _ fun i _=>?_;by_cases hia:i=a
   ·
    subst hia;rw [Pd (by omega),if_neg (by omega),if_pos rfl,if_pos ha.free]
   rw [Pc (fun x=>hia x.symm),if_neg hia];rfl
  rw [Sn,if_pos (by omega)] at e;omega)
 have hb:=Qj8 (ws:=ws) (ov:=ov.set a ws.length) (by omega) hf2;generalize E8 ws (ov.set a ws.length)=b at *
 have hne:b≠a:=fun e=>by
  have:=hb.free;rw [e,Pd (by omega)] at this;omega
 exact ⟨ha,hb,hne,by rw [<- Pc (v:=ws.length) (fun x=>hne x.symm)];exact hb.free⟩
theorem Grown.step {w:LN}{k:Nat}{ws ov:LN}{h:Nat->Nat} (g:Grown w k ws ov h) (hk:k+1 < w.length) :
  ∃ h',Grown w (k+1) (Q2 (ws,ov)).1 (Q2 (ws,ov)).2 h':=by
 obtain ⟨ha,hb,hne,hbf⟩:=g.pick hk;unfold Q2;simp only;generalize E8 ws ov=a at *;generalize E8 ws (ov.set a ws.length)=b at *;have hlw:=g.lws;have hlo:=g.lov;have ha1:=ha.lt;have hb1:=hb.lt;have haf:=ha.free;have hwab:ws.getD a 0<=ws.getD b 0:=by have:=ha.le b hb1 hbf;omega
 have hbl:∀ i,i < ws.length->i≠a->ov.getD i 0=0->ws.getD b 0<=ws.getD i 0:=fun i hi hia hf=>by
  have:=hb.le i hi (by rw [Pc (fun x=>hia x.symm)];exact hf);omega
 rw [hlw] at hb ha1 hb1 hbl ⊢;generalize hn:w.length+k=n at *
 have o1:∀ i,i < n->((ov.set a n).set b n++[0]).getD i 0=if i=a∨i=b then n else ov.getD i 0:=fun i hi=>by
  rw [Qj (by simp;omega)];by_cases e1:i=b
  ·
   subst e1;rw [Pd (by simp;omega),if_pos (.inr rfl)]
  rw [Pc (fun x=>e1 x.symm)];by_cases e2:i=a
  ·
   subst e2;rw [Pd (by omega),if_pos (.inl rfl)]
  rw [Pc (fun x=>e2 x.symm),if_neg (by simp [e1,e2])]
 have o2:((ov.set a n).set b n++[0]).getD n 0=0:=by
  have:=Vn (l:=(ov.set a n).set b n) (x:=0);simp [hlo]
 have w1:∀ i,i < n->(ws++[ws.getD a 0+ws.getD b 0]).getD i 0=ws.getD i 0:=fun i hi=>Qj (by omega)
 have w2:(ws++[ws.getD a 0+ws.getD b 0]).getD n 0=ws.getD a 0+ws.getD b 0:=by
  have:=Vn (l:=ws) (x:=ws.getD a 0+ws.getD b 0)
  rwa [hlw] at this
 have lo:((ov.set a n).set b n++[0]).length=n+1:=by simp [hlo]
 have lw:(ws++[ws.getD a 0+ws.getD b 0]).length=n+1:=by simp [hlw]
 generalize (ov.set a n).set b n++[0]=ov' at *;generalize ws++[ws.getD a 0+ws.getD b 0]=ws' at *;have hup:=g.up;have hroots:=g.roots;have hweight:=g.weight;have htwo:=g.two;have hhup:=g.hup;have hfib:=g.hfib;have hdeep:=g.deep;have horder:=g.order;rw [hn] at hup hroots hweight htwo hhup hfib hdeep horder;clear g;have hnk:n=w.length+k:=hn.symm;refine ⟨fun i=>if i=n then max (h a) (h b)+1 else h i,?_⟩;have en:w.length+(k+1)=n+1:=by omega
 refine ⟨by rw [lw,en],by rw [lo,en],?_,?_,?_,?_,?_,?_,?_,?_⟩
 ·
  intro i hi;rw [en] at hi ⊢;by_cases e:i=n
  ·
   subst e;exact .inl o2
  rw [o1 i (by omega)];split
  ·
   right;omega
  have:=hup i (by omega);omega
 ·
  rw [en,Bc,o2,if_pos rfl]
  have e:Bc (fun i=>if ov'.getD i 0=0 then 1 else 0) n=Bc (fun i=>if i=a∨i=b then 0 else if ov.getD i 0=0 then 1 else 0) n:=Mf n fun i hi=>by
   rw [o1 i hi];by_cases e:i=a∨i=b
   ·
    rw [if_pos e,if_pos e,if_neg (by omega)]
   rw [if_neg e,if_neg e]
  have e2:=Qao (f:=fun i=>if ov.getD i 0=0 then 1 else 0) ha1 hb1 (Ne.symm hne);simp only [if_pos haf,if_pos hbf] at e2;omega
 ·
  rw [en,Bc,o2,if_pos rfl,w2]
  have e:Bc (fun i=>if ov'.getD i 0=0 then ws'.getD i 0 else 0) n=Bc (fun i=>if i=a∨i=b then 0 else if ov.getD i 0=0 then ws.getD i 0 else 0) n:=Mf n fun i hi=>by
   rw [o1 i hi,w1 i hi];by_cases e:i=a∨i=b
   ·
    rw [if_pos e,if_pos e,if_neg (by omega)]
   rw [if_neg e,if_neg e]
  have e2:=Qao (f:=fun i=>if ov.getD i 0=0 then ws.getD i 0 else 0) ha1 hb1 (Ne.symm hne);simp only [if_pos haf,if_pos hbf] at e2;omega
 ·
  intro j hj1 hj2;rw [en] at hj2;by_cases e:j=n
  ·
   subst e;refine ⟨a,b,ha1,hb1,Ne.symm hne,by rw [o1 a ha1,if_pos (.inl rfl)],by rw [o1 b hb1,if_pos (.inr rfl)],fun i hi=>?_⟩;rcases Yp i j with h1 | h1
   ·
    rw [o1 i h1] at hi;split at hi
    ·
     assumption
    have:=hup i h1;omega
   rcases Yp i (j+1) with h2 | h2
   ·
    rw [show i=j by omega,o2] at hi;omega
   rw [Qa0 (by omega)] at hi;omega
  obtain ⟨x,y,hx,hy,hxy,hox,hoy,hall⟩:=htwo j hj1 (by omega);have hxa:¬ (x=a∨x=b):=fun e=>by rcases e with rfl | rfl <;> omega
  have hya:¬ (y=a∨y=b):=fun e=>by rcases e with rfl | rfl <;> omega
  refine ⟨x,y,hx,hy,hxy,by rw [o1 x (by omega),if_neg hxa];exact hox,by rw [o1 y (by omega),if_neg hya];exact hoy,fun i hi=>?_⟩;rcases Yp i n with h1 | h1
  ·
   rw [o1 i h1] at hi;split at hi
   ·
    omega
   exact hall i hi
  rcases Yp i (n+1) with h2 | h2
  ·
   rw [show i=n by omega,o2] at hi;omega
  rw [Qa0 (by omega)] at hi;omega
 ·
  intro i hi hne0;rw [en] at hi;have hin:i≠n:=fun e=>by rw [e,o2] at hne0;exact hne0 rfl
  rw [o1 i (by omega)] at hne0 ⊢;rw [if_neg hin];by_cases e:i=a∨i=b
  ·
   rw [if_pos e,if_pos rfl];rcases e with rfl | rfl <;> omega
  rw [if_neg e] at hne0 ⊢;have h1:=hup i (by omega);rw [if_neg (by omega)];exact hhup i (by omega) hne0
 ·
  intro i hi;rw [en] at hi;by_cases e:i=n
  ·
   subst e;rw [if_pos rfl,w2]
   have key:∀ x y,x < i->y < i->ov.getD x 0=0->ov.getD y 0=0->Kf (h x+3)<=ws.getD x 0+ws.getD y 0:=fun x y hx hy hox hoy=>by
    have h1:=hfib x hx
    have h2:Kf (h x+1)<=ws.getD y 0:=by
     rcases Nat.eq_zero_or_pos (h x) with h0 | h0
     ·
      have:=hfib y hy;refine X4 (Qpb ?_) this;omega
     obtain ⟨z,hz1,hz2,hz3⟩:=hdeep x hx h0;exact X4 hz3 (horder z y hz1 hy hz2 hoy)
    rw [show h x+3=(h x+1)+2 from rfl,Kf];have:Kf (h x+1+1)=Kf (h x+2):=rfl;omega
   rcases Nat.le_total (h a) (h b) with h1 | h1
   ·
    rw [Nat.max_eq_right h1];have:=key b a hb1 ha1 hbf haf;rw [Um (ws.getD a 0)];exact this
   rw [Nat.max_eq_left h1];exact key a b ha1 hb1 haf hbf
  rw [if_neg e,w1 i (by omega)];exact hfib i (by omega)
 ·
  intro i hi hh;rw [en] at hi ⊢;by_cases e:i=n
  ·
   subst e;rw [if_pos rfl];rcases Nat.le_total (h a) (h b) with h1 | h1
   ·
    rw [Nat.max_eq_right h1];exact ⟨b,by omega,by rw [o1 b hb1,if_pos (.inr rfl)];omega,by rw [w1 b hb1];exact hfib b hb1⟩
   rw [Nat.max_eq_left h1];exact ⟨a,by omega,by rw [o1 a ha1,if_pos (.inl rfl)];omega,by rw [w1 a ha1];exact hfib a ha1⟩
  rw [if_neg e] at hh ⊢;obtain ⟨y,hy1,hy2,hy3⟩:=hdeep i (by omega) hh;refine ⟨y,by omega,?_,by rw [w1 y hy1];exact hy3⟩;rw [o1 y hy1];split
  ·
   omega
  exact hy2
 intro y r hy hr hoy hor;rw [en] at hy hr;have hyn:y≠n:=fun e=>by rw [e,o2] at hoy;exact hoy rfl
 rw [w1 y (by omega)]
 have hyb:ws.getD y 0<=ws.getD b 0:=by
  rw [o1 y (by omega)] at hoy;by_cases e:y=a∨y=b
  ·
   rcases e with rfl | rfl <;> omega
  rw [if_neg e] at hoy;exact horder y b (by omega) hb1 hoy hbf
 by_cases e:r=n
 ·
  subst e;rw [w2];omega
 rw [w1 r (by omega)];rw [o1 r (by omega)] at hor;by_cases e2:r=a∨r=b
 ·
  rw [if_pos e2] at hor;omega
 rw [if_neg e2] at hor;have:=hbl r (by omega) (fun x=>e2 (.inl x)) hor;omega
theorem Qd2 (w:LN) (h1:∀ i,i < w.length->1<=w.getD i 0):∀ k,k+1<=w.length->∃ h,Grown w k (Oz k (w,Yc w.length 0)).1 (Oz k (w,Yc w.length 0)).2 h
 | 0,hk=>⟨_,Grown.start w (by omega) h1⟩
 | k+1,hk=>by
  obtain ⟨h,g⟩:=Qd2 w h1 k (by omega);exact g.step (by omega)
section
variable {w:LN}{k:Nat}{ws ov:LN}{h:Nat->Nat}
theorem Grown.last (g:Grown w k ws ov h) (hk:k+1=w.length):ov.getD (w.length+k - 1) 0=0:=by
 have:=g.up (w.length+k - 1) (by omega);omega
theorem Grown.root (g:Grown w k ws ov h) (hk:k+1=w.length) {i:Nat} (hi:i < w.length+k) (hf:ov.getD i 0=0):i=w.length+k - 1:=by
 by_cases e:i=w.length+k - 1
 ·
  exact e
 have h1:=Qvn (f:=fun i=>if ov.getD i 0=0 then 1 else 0) (n:=w.length+k) hi (show w.length+k - 1 < w.length+k by omega) e;simp only [if_pos hf,if_pos (g.last hk)] at h1;have:=g.roots;omega
theorem Grown.depth_h (g:Grown w k ws ov h) (hk:k+1=w.length):∀ f i,i < w.length+k->w.length+k - i<=f->Cj ov f i+h i<=h (w.length+k - 1)
 | 0,i,hi,hf=>by omega
 | f+1,i,hi,hf=>by
  rw [Cj];split
  ·
   rename_i h0;rw [<- g.root hk hi h0];omega
  rename_i h0;have h1:=g.up i hi;have h2:=g.hup i hi h0;have:=g.depth_h hk f (ov.getD i 0) (by omega) (by omega);omega
theorem Grown.fuel (g:Grown w k ws ov h):∀ f f' i,i < w.length+k->w.length+k - i<=f->w.length+k - i<=f'->Cj ov f i=Cj ov f' i
 | 0,_,i,hi,h1,_=>by omega
 | _+1,0,i,hi,_,h2=>by omega
 | f+1,f'+1,i,hi,h1,h2=>by
  rw [Cj,Cj];split
  ·
   rfl
  rename_i h0;have h3:=g.up i hi;rw [g.fuel f f' (ov.getD i 0) (by omega) (by omega) (by omega)]
theorem Grown.dep (g:Grown w k ws ov h) {i:Nat} (f:Nat) (hf:w.length+k<=f) (hi:i < w.length+k) (h0:ov.getD i 0≠0):Cj ov f i=Cj ov f (ov.getD i 0)+1:=by
 have h3:=g.up i hi;cases f with
 | zero=>omega
 | succ f =>
  conv=>lhs;rw [Cj]
  rw [if_neg h0,g.fuel f (f+1) (ov.getD i 0) (by omega) (by omega) (by omega)]
theorem Grown.kraft (g:Grown w k ws ov h) (hk:k+1=w.length) (f:Nat) (hf:w.length+k<=f) (N:Nat) (hN:∀ i,i < w.length+k->Cj ov f i<=N) :
  Bc (fun i=>2 ^ (N - Cj ov f i)) w.length=2 ^ N:=by
 have hr:=g.last hk
 have step:∀ j,w.length<=j->j < w.length+k->Bc (fun i=>if ov.getD i 0=0∨j+1<=ov.getD i 0 then 2 ^ (N - Cj ov f i) else 0) (j+1)=Bc (fun i=>if ov.getD i 0=0∨j<=ov.getD i 0 then 2 ^ (N - Cj ov f i) else 0) j:=fun j h1 h2=>by
  obtain ⟨a,b,ha,hb,hab,hoa,hob,hall⟩:=g.two j h1 h2;have hda:=g.dep f hf (i:=a) (by omega) (by omega);have hdb:=g.dep f hf (i:=b) (by omega) (by omega);have hNa:=hN a (by omega);rw [hoa] at hda;rw [hob] at hdb;have hj:=g.up j h2;rw [Bc,if_pos (by omega)];have e:=Qao (f:=fun i=>if ov.getD i 0=0∨j<=ov.getD i 0 then 2 ^ (N - Cj ov f i) else 0) ha hb hab;rw [if_pos (by omega),if_pos (by omega),hda,hdb] at e;rw [<- e]
  have e2:2 ^ (N - Cj ov f j)=2 ^ (N - (Cj ov f j+1))+2 ^ (N - (Cj ov f j+1)):=by
   rw [show N - Cj ov f j=(N - (Cj ov f j+1))+1 by omega,Xd];omega
  rw [e2]
  congr 1
  refine Mf j fun i hi=>?_;by_cases e3:i=a∨i=b
  ·
   rw [if_pos e3,if_neg (by rcases e3 with rfl | rfl <;> omega)]
  rw [if_neg e3];by_cases e4:ov.getD i 0=0∨j<=ov.getD i 0
  ·
   rw [if_pos e4,if_pos];have:ov.getD i 0≠j:=fun e5=>e3 (hall i e5);omega
  rw [if_neg e4,if_neg (by omega)]
 have all:∀ d,d<=k->Bc (fun i=>if ov.getD i 0=0∨w.length+d<=ov.getD i 0 then 2 ^ (N - Cj ov f i) else 0) (w.length+d)=Bc (fun i=>if ov.getD i 0=0∨w.length<=ov.getD i 0 then 2 ^ (N - Cj ov f i) else 0) w.length:=fun d=>by
  induction d with
  | zero=>intro _;rfl
  | succ d ih=>intro hd;rw [<- ih (by omega)];exact step (w.length+d) (by omega) (by omega)
 have h1:=all k (Y0 _)
 have e1:Bc (fun i=>if ov.getD i 0=0∨w.length+k<=ov.getD i 0 then 2 ^ (N - Cj ov f i) else 0) (w.length+k)=Bc (fun i=>if i=w.length+k - 1 then 2 ^ N else 0) (w.length+k):=by
  refine Mf _ fun i hi=>?_;have h2:=g.up i hi;by_cases e:i=w.length+k - 1
  ·
   subst e;rw [if_pos (.inl hr),if_pos rfl]
   have:Cj ov f (w.length+k - 1)=0:=by
    cases f with
    | zero=>rfl
    | succ f=>rw [Cj,if_pos hr]
   rw [this];rfl
  rw [if_neg e,if_neg];rintro (h3 | h3)
  ·
   exact e (g.root hk hi h3)
  omega
 rw [e1,Sn,if_pos (by omega)] at h1;rw [h1];refine Mf _ fun i hi=>?_;have h2:=g.up i (by omega);rw [if_pos (by omega)]
theorem Grown.total (g:Grown w k ws ov h) (hk:k+1=w.length):Kf (h (w.length+k - 1)+2)<=Bc (fun i=>w.getD i 0) w.length:=by
 have h1:=g.hfib (w.length+k - 1) (by omega);have h2:=Z5 (fun i=>if ov.getD i 0=0 then ws.getD i 0 else 0) (w.length+k) (w.length+k - 1) (by omega);simp only [if_pos (g.last hk)] at h2;rw [<- g.weight];omega
end
def Dc:LN->Nat
 | []=>0
 | x::l=>2 ^ (20 - x)+Dc l
theorem Qbm (l m:LN):Dc (l++m)=Dc l+Dc m:=by
 induction l with
 | nil=>simp [Dc]
 | cons x l ih=>rw [Yv,Dc,Dc,ih];omega
theorem Zi (f:Nat->Nat):∀ n,Dc ((Yl n).map f)=Bc (fun i=>2 ^ (20 - f i)) n
 | 0=>rfl
 | n+1=>by rw [List.range_succ,List.map_append,Qbm,Zi f n,Bc];rfl
theorem Qln {l:LN}{m:Nat}:∀ a,l.foldl max a<=m ↔ a<=m/\∀ x∈l,x<=m:=by
 induction l with
 | nil=>intro a;simp
 | cons x l ih=>intro a;rw [List.foldl_cons,ih];simp only [List.mem_cons,forall_eq_or_imp,Nat.max_le,and_assoc]
theorem Ra {l:LN}{m:Nat}:B6 l<=m ↔ ∀ x∈l,x<=m:=by rw [B6,Qln];simp
theorem Qah (w:LN):(Ix w).length=w.length:=by simp [Ix]
theorem Qj9 {w:LN} (h2:2<=w.length) (h1:∀ x∈w,1<=x) {m:Nat} (hm:B6 (Ix w)<=m) (hm20:m<=20) :
  (∀ x∈Ix w,1<=x/\x<=m)/\Dc (Ix w)=1048576:=by
 obtain ⟨h,g⟩:=Qd2 w (fun i hi=>h1 _ (by rw [Yb,Yf hi];exact Xh hi)) (w.length - 1) (by omega);have hmax:=Ra.1 hm;have hov:(Oz (w.length - 1) (w,Yc w.length 0)).2=P0 w:=rfl;rw [hov] at g;have hk:w.length - 1+1=w.length:=by omega
 have hdep:∀ i,i < w.length->Cj (P0 w) (2 * w.length) i∈Ix w:=fun i hi=>Y3.2 ⟨i,by simpa using hi,rfl⟩;constructor
 ·
  intro x hx;refine ⟨?_,hmax x hx⟩;obtain ⟨i,hi,rfl⟩:=Y3.1 hx;have hi:i < w.length:=by simpa using hi
  by_cases h0:(P0 w).getD i 0=0
  ·
   have:=g.root hk (by omega) h0;omega
  rw [g.dep (2 * w.length) (by omega) (by omega) h0];omega
 have hN:∀ i,i < w.length+(w.length - 1)->Cj (P0 w) (2 * w.length) i<=20:=by
  intro i
  induction i using Nat.strongRecOn with
  | _ i ih =>
   intro hi;rcases Yp i w.length with h3 | h3
   ·
    have:=hmax _ (hdep i h3);omega
   obtain ⟨a,b,ha,hb,hab,hoa,hob,hall⟩:=g.two i h3 hi;have h4:=ih a ha (by omega);have:=g.dep (2 * w.length) (by omega) (i:=a) (by omega) (by omega);rw [hoa] at this;omega
 have hk20:=g.kraft hk (2 * w.length) (by omega) 20 hN;rw [Ix,Zi];exact hk20
theorem QP7:Kf 15=610:=by decide
theorem Qc0 {w:LN} (h2:2<=w.length) (h258:w.length<=258) (h1:∀ x∈w,1<=x/\x<=2):B6 (Ix w)<=12:=by
 have hget:∀ i,i < w.length->w.getD i 0∈w:=fun i hi=>by rw [Yb,Yf hi];exact Xh hi
 obtain ⟨h,g⟩:=Qd2 w (fun i hi=>(h1 _ (hget i hi)).1) (w.length - 1) (by omega);have hov:(Oz (w.length - 1) (w,Yc w.length 0)).2=P0 w:=rfl;rw [hov] at g;have hk:w.length - 1+1=w.length:=by omega
 have ht:=g.total hk;have ht2:=Qig (fun i=>w.getD i 0) 2 w.length fun i hi=>(h1 _ (hget i hi)).2
 have hh:h (w.length+(w.length - 1) - 1)<=12:=by
  rcases Yp 12 (h (w.length+(w.length - 1) - 1)) with h3 | h3
  ·
   have:=Qpb (show 15<=h (w.length+(w.length - 1) - 1)+2 by omega);rw [QP7] at this;omega
  exact h3
 refine Ra.2 fun x hx=>?_;obtain ⟨i,hi,rfl⟩:=Y3.1 hx;have hi:i < w.length:=by simpa using hi
 have:=g.depth_h hk (2 * w.length) i (by omega) (by omega);omega
def O9:Nat->Nat
 | 0=>2
 | k+1=>2 ^ k+2
theorem Qpc {t x:Nat} (h:x<=O9 (t+1)):x / 2+1<=O9 t:=by
 cases t with
 | zero=>simp only [O9] at h ⊢;omega
 | succ t=>simp only [O9,Xd] at h ⊢;omega
theorem Qpd {most:Nat} (hm:12<=most) (hm20:most<=20):∀ (t:Nat) (own:LN),2<=own.length->own.length<=258->(∀ x∈own,1<=x/\x<=O9 t) ->
  (M6 most t own).length=own.length/\(∀ x∈M6 most t own,1<=x/\x<=most)/\Dc (M6 most t own)=1048576
 | 0,own,h2,h258,h1=>by
  have h3:=Qc0 h2 h258 h1;rw [M6];exact ⟨Qah own,Qj9 h2 (fun x hx=>(h1 x hx).1) (by omega) hm20⟩
 | t+1,own,h2,h258,h1=>by
  rw [M6];split
  ·
   rename_i h3;exact ⟨Qah own,Qj9 h2 (fun x hx=>(h1 x hx).1) h3 hm20⟩
  have:=Qpd hm hm20 t (own.map fun x=>x / 2+1) (by simpa using h2) (by simpa using h258) (by
   intro x hx;obtain ⟨y,hy,rfl⟩:=Y3.1 hx;exact ⟨by omega,Qpc (h1 y hy).2⟩)
  simpa using this
def I2 (w:LN) (most:Nat):LN:=M6 most 40 (w.map fun x=>max x 1)
theorem Qts {w:LN}{most:Nat} (hm:12<=most) (hm20:most<=20) (h2:2<=w.length) (h258:w.length<=258) (h1:∀ x∈w,x<=1073741824) :
  (I2 w most).length=w.length/\(∀ x∈I2 w most,1<=x/\x<=most)/\Dc (I2 w most)=1048576:=by
 have:=Qpd hm hm20 40 (w.map fun x=>max x 1) (by simpa using h2) (by simpa using h258) (by
  intro x hx;obtain ⟨y,hy,rfl⟩:=Y3.1 hx;have:=h1 y hy;have:O9 40=549755813890:=by decide
  omega)
 simpa [I2] using this
def Ie (w:LN) (i j:Nat):Bool:=decide (max (w.getD j 0) 1 < max (w.getD i 0) 1) || (decide (max (w.getD i 0) 1=max (w.getD j 0) 1) && decide (i < j))
def S8 (w:LN) (i:Nat):Nat:=(Yl w.length).countP fun j=>Ie w j i
def Dz (n:Nat):Nat:=Nat.log2 n
def Mo (n p:Nat):Nat:=if 2 ^ (Dz n+1) - n<=p then Dz n+1 else Dz n
def Ee (w:LN):LN:=(Yl w.length).map fun i=>Mo w.length (S8 w i)
theorem Sg {w:LN}{i j:Nat}:Ie w i j=true ↔ (max (w.getD j 0) 1 < max (w.getD i 0) 1∨(max (w.getD i 0) 1=max (w.getD j 0) 1/\i < j)):=by
 simp [Ie,Gq]
theorem Qlo {w:LN}{i j k:Nat} (h1:Ie w i j=true) (h2:Ie w j k=true):Ie w i k=true:=by
 rw [Sg] at *;omega
theorem Qi8 (w:LN) (i:Nat):Ie w i i=false:=by
 rw [Hn];intro h;rw [Sg] at h;omega
theorem Qlp {w:LN}{i j:Nat} (h1:Ie w i j=true):Ie w j i=false:=by
 rw [Hn];intro h;rw [Sg] at *;omega
theorem Qlq {w:LN}{i j:Nat} (h:i≠j):Ie w i j=true∨Ie w j i=true:=by
 rw [Sg,Sg];omega
theorem Qey {w:LN}{l:LN} (hp:l.Perm (Yl w.length)) (hs:l.Pairwise fun i j=>Ie w i j=true) {p:Nat} (hpl:p < l.length):S8 w l[p]=p:=by
 unfold S8;rw [<- hp.countP_eq];have e:l=l.take p++l[p]::l.drop (p+1):=by rw [<- Uz hpl,Yy]
 have hs2:=hs;rw [e] at hs2;obtain ⟨s1,s2,s3⟩:=List.pairwise_append.1 hs2;obtain ⟨s4,s5⟩:=List.pairwise_cons.1 s2;have hlen:(l.take p).length=p:=by rw [Xc];omega
 generalize hx:l[p]=x at *
 conv=>lhs;rw [e]
 rw [List.countP_append,List.countP_cons]
 have c1:(l.take p).countP (fun j=>Ie w j x)=p:=by
  rw [List.countP_eq_length.2 (fun a ha=>s3 a ha _ (by simp)),hlen]
 have c2:(l.drop (p+1)).countP (fun j=>Ie w j x)=0:=by
  rw [List.countP_eq_zero];intro a ha;have:=Qlp (s4 a ha);simp [this]
 rw [c1,c2,Qi8];simp
theorem Qlr (w:LN):∃ l:LN,l.Perm (Yl w.length)/\l.Pairwise fun i j=>Ie w i j=true:=by
 refine ⟨(Yl w.length).mergeSort fun i j=>Ie w i j || i == j,Gw _ _,?_⟩
 have hs:=List.pairwise_mergeSort (le:=fun i j=>Ie w i j || i == j) (fun a b c h1 h2=>by
  simp only [Gq,beq_iff_eq] at *;rcases h1 with h1 | rfl
  ·
   rcases h2 with h2 | rfl
   ·
    exact .inl (Qlo h1 h2)
   exact .inl h1
  ·
   exact h2) (fun a b=>by
  by_cases e:a=b
  ·
   subst e;simp
  rcases Qlq (w:=w) e with h | h <;> simp [h]) (Yl w.length)
 have hn:((Yl w.length).mergeSort fun i j=>Ie w i j || i == j).Nodup:=(Gw _ _).nodup_iff.2 List.nodup_range;refine (hs.and hn).imp ?_;rintro a b ⟨h1,h2⟩;simp only [Gq,beq_iff_eq] at h1;rcases h1 with h1 | h1
 ·
  exact h1
 exact absurd h1 h2
theorem Qn0 {l m:LN} (h:l.Perm m):Dc l=Dc m:=by
 induction h with
 | nil=>rfl
 | cons x _ ih=>rw [Dc,Dc,ih]
 | swap x y l=>simp only [Dc];omega
 | trans _ _ h1 h2=>rw [h1,h2]
theorem Qg7 {n:Nat} (h:2<=n):1<=Dz n/\2 ^ Dz n<=n/\n < 2 ^ (Dz n+1):=by
 refine ⟨(Nat.le_log2 (by omega)).2 (by simpa using h),Nat.log2_self_le (by omega),Nat.lt_log2_self⟩
theorem Qy7 {n:Nat} (h:2<=n) (h2:n<=258):Dz n<=8:=by
 have:=(Qg7 h).2.1;rcases Yp 8 (Dz n) with h3 | h3
 ·
  have:=Y1 (n:=2) (by omega) h3;omega
 exact h3
theorem Qpe {n K p:Nat} (hK:n<=2 * K) (hn:K<=n) (c:Nat) (f:Nat->Nat) (hf:∀ i,f i=if 2 * K - n<=i then c else 2 * c):∀ m,m<=n->Bc f m=if m<=2 * K - n then m * (2 * c) else (2 * K - n) * (2 * c)+(m - (2 * K - n)) * c
 | 0,_=>by simp [Bc]
 | m+1,h=>by
  rw [Bc,Qpe (p:=p) hK hn c f hf m (by omega),hf];by_cases h1:m+1<=2 * K - n
  ·
   rw [if_pos (by omega),if_neg (by omega),if_pos h1];exact (X3 m (2 * c)).symm
  rw [if_neg h1];by_cases h2:m<=2 * K - n
  ·
   have e:m=2 * K - n:=by omega
   rw [if_pos h2,if_pos (by omega),show m+1 - (2 * K - n)=1 by omega,Nat.one_mul,e]
  rw [if_neg h2,if_pos (by omega),show m+1 - (2 * K - n)=(m - (2 * K - n))+1 by omega,Gy,show (m - (2 * K - n)+1) * c=(m - (2 * K - n)) * c+c from X3 _ _]
theorem Qpf {w:LN} (h2:2<=w.length) (h258:w.length<=258):(Ee w).length=w.length/\(∀ x∈Ee w,1<=x/\x<=9)/\Dc (Ee w)=1048576:=by
 obtain ⟨hk1,hk2,hk3⟩:=Qg7 h2;have hk8:=Qy7 h2 h258;refine ⟨by simp [Ee],fun x hx=>?_,?_⟩
 ·
  obtain ⟨i,_,rfl⟩:=Y3.1 hx;unfold Mo;split <;> omega
 obtain ⟨l,hp,hs⟩:=Qlr w
 have e1:(Ee w).Perm ((Yl w.length).map fun p=>Mo w.length p):=by
  have e2:(l.map fun i=>Mo w.length (S8 w i))=(Yl w.length).map fun p=>Mo w.length p:=by
   have hl:l.length=w.length:=by have:=hp.length_eq;simpa using this
   apply X5
   ·
    simp [hl]
   intro p h3 h4;simp only [Gh,Uw];rw [Qey hp hs]
  rw [<- e2];exact (hp.map _).symm
 rw [Qn0 e1,Zi];have hp2:2 ^ (Dz w.length+1)=2 * 2 ^ Dz w.length:=by rw [Xd];omega
 have h20:2 ^ (20 - Dz w.length)=2 * 2 ^ (19 - Dz w.length):=by rw [show 20 - Dz w.length=(19 - Dz w.length)+1 by omega,Xd];omega
 have hc:2 ^ Dz w.length * 2 ^ (19 - Dz w.length)=524288:=by rw [<- U9,show Dz w.length+(19 - Dz w.length)=19 by omega]
 rw [Qpe (p:=0) (K:=2 ^ Dz w.length) (n:=w.length) (by omega) (by omega) (2 ^ (19 - Dz w.length)) _ (fun i=>?_) w.length (Y0 _)]
 ·
  generalize 2 ^ (19 - Dz w.length)=c at *;generalize 2 ^ Dz w.length=K at *;split
  ·
   rename_i h5;have e5:w.length=K:=by omega
   rw [e5,Nat.mul_left_comm,hc]
  rename_i h5;obtain ⟨d,hd⟩:∃ d,w.length=K+d:=⟨w.length - K,by omega⟩;rw [hd,show 2 * K - (K+d)=K - d by omega,show K+d - (K - d)=2 * d by omega];obtain ⟨e,he⟩:∃ e,K=d+e:=⟨K - d,by omega⟩;rw [show K - d=e by omega]
  have:e * (2 * c)+2 * d * c=2 * (K * c):=by
   rw [he,U8,Nat.mul_add,Nat.mul_left_comm,X6];omega
  rw [this,hc]
 simp only [Mo];rw [hp2];split
 ·
  rw [show 20 - (Dz w.length+1)=19 - Dz w.length by omega]
 rw [h20]
def Co (l:LN) (n m:Nat):LN:=(Yl m).filter fun i=>l.getD i 0 == n
def Ks (l:LN) (n:Nat):LN:=Co l n l.length
def De (l:LN) (n:Nat):Nat:=(Ks l n).length
def Cs (l:LN):Nat->Nat
 | 0=>0
 | n+1=>2 * (Cs l n+De l n)
def Dt (l:LN) (i:Nat):Nat:=Cs l (l.getD i 0)+(Co l (l.getD i 0) i).length
def Mp (l:LN) (i:Nat):List Bool:=A2 (l.getD i 0) (Dt l i)
def QQk (l:LN) (c k:Nat):Bool:=(Yl 21).any fun m=>decide (k < m) && decide (0 < De l m) && decide (c * 2 ^ (m - k) < Cs l m+De l m)
def Tg (l:LN):List Bool->Nat->Nat->Except Int (Nat×Nat)
 | [],_,_=>.error 10
 | b::r,n,code =>
  if Cs l (n+1)<=2 * code+b.toNat/\2 * code+b.toNat < Cs l (n+1)+De l (n+1) then .ok ((Ks l (n+1)).getD (2 * code+b.toNat - Cs l (n+1)) 0,n+1)
  else if QQk l (2 * code+b.toNat) (n+1)=true then Tg l r (n+1) (2 * code+b.toNat) else .error 90
def QA4 (l:LN) (bits:List Bool) (at_:Nat):Except Int (Nat×Nat):=match Tg l (bits.drop at_) 0 0 with
 | .ok p=>.ok (p.1,at_+p.2)
 | .error e=>.error e
def P3 (l:LN) (bits:List Bool) (fin:Nat):Nat->Nat->Except Int (LN×Nat)
 | 0,at_=>.ok ([],at_)
 | n+1,at_=>match QA4 l bits at_ with
  | .error e=>.error e
  | .ok p=>if p.1=fin then .ok ([p.1],p.2) else match P3 l bits fin n p.2 with
   | .error e=>.error e
   | .ok q=>.ok (p.1::q.1,q.2)
def Fv (l:LN):Prop:=2<=l.length/\l.length<=258/\(∀ x∈l,1<=x/\x<=20)/\Dc l<=1048576
theorem Vo (l:LN) (n m:Nat):Co l n (m+1)=Co l n m++if l.getD m 0=n then [m] else []:=by
 unfold Co;rw [List.range_succ,List.filter_append]
 congr 1
 by_cases h:l.getD m 0=n
 ·
  rw [if_pos h,List.filter_cons_of_pos (by simp only [beq_iff_eq];exact h)];rfl
 rw [if_neg h,List.filter_cons_of_neg (by simp only [beq_iff_eq];exact h)];rfl
theorem Qpg (l:LN) (n m:Nat):(Co l n m).length<=m:=by
 unfold Co;exact X4 (List.length_filter_le _ _) (by simp)
theorem Qn1 (l:LN) (n:Nat) {m m':Nat} (h:m<=m'):∃ r,Co l n m'=Co l n m++r:=by
 induction m' with
 | zero=>exact ⟨[],by rw [show m=0 by omega,Yq]⟩
 | succ m' ih =>
  rcases Yp m (m'+1) with h1 | h1
  ·
   obtain ⟨r,hr⟩:=ih (by omega);exact ⟨_,by rw [Vo,hr,Yd]⟩
  exact ⟨[],by rw [show m=m'+1 by omega,Yq]⟩
theorem Qph {l:LN}{n m i:Nat}:i∈Co l n m ↔ i < m/\l.getD i 0=n:=by
 unfold Co;simp [List.mem_filter]
theorem Qka {l:LN}{i:Nat} (hi:i < l.length):(Ks l (l.getD i 0)).getD (Co l (l.getD i 0) i).length 0=i/\(Co l (l.getD i 0) i).length < De l (l.getD i 0):=by
 obtain ⟨r,hr⟩:=Qn1 l (l.getD i 0) (m:=i+1) (m':=l.length) (by omega)
 have h1:Ks l (l.getD i 0)=Co l (l.getD i 0) i++[i]++r:=by
  unfold Ks;rw [hr,Vo,if_pos rfl]
 constructor
 ·
  rw [h1,Yd,Yb,Yg (Y0 _),Hm];rfl
 rw [De,h1];simp
theorem Qkb {l:LN} (h:∀ x∈l,1<=x):De l 0=0:=by
 rw [De,Ks,List.length_eq_zero_iff,List.eq_nil_iff_forall_not_mem];intro i hi;obtain ⟨h1,h2⟩:=Qph.1 hi;have:=h (l.getD i 0) (by rw [Yb,Yf h1];exact Xh h1);omega
theorem Qtt (l:LN) (n:Nat):∀ m k,k < (Co l n m).length->(Co l n m).getD k 0 < m/\l.getD ((Co l n m).getD k 0) 0=n/\(Co l n ((Co l n m).getD k 0)).length=k
 | 0,k,h=>by simp [Co] at h
 | m+1,k,h=>by
  rw [Vo] at h ⊢;rcases Yp k (Co l n m).length with h1 | h1
  ·
   rw [Qj h1];obtain ⟨a,b,c⟩:=Qtt l n m k h1;exact ⟨by omega,b,c⟩
  by_cases h2:l.getD m 0=n
  ·
   rw [if_pos h2] at h ⊢;have hk:k=(Co l n m).length:=by simp at h;omega
   subst hk;rw [Vn];exact ⟨by omega,h2,rfl⟩
  rw [if_neg h2,Yq] at h;omega
theorem Qpi (l:LN) (n:Nat):∀ d,(Cs l n+De l n) * 2 ^ (d+1)<=Cs l (n+d+1)
 | 0=>by simp only [Ul,Nat.pow_one,Un,Cs];omega
 | d+1=>by
  have:=Qpi l n d;rw [show n+(d+1)+1=(n+d+1)+1 by omega,Cs,Xd,<- X6];omega
theorem Qg8 (l:LN) (n:Nat):∀ m,Bc (fun i=>if l.getD i 0<=n+1 then 2 ^ (20 - l.getD i 0) else 0) m=Bc (fun i=>if l.getD i 0<=n then 2 ^ (20 - l.getD i 0) else 0) m+(Co l (n+1) m).length * 2 ^ (20 - (n+1))
 | 0=>by simp [Bc,Co]
 | m+1=>by
  rw [Bc,Bc,Qg8 l n m,Vo];by_cases h1:l.getD m 0=n+1
  ·
   rw [if_pos (by omega),if_neg (by omega),if_pos h1,h1,Ye,U8];simp;omega
  rw [if_neg h1,Yq];by_cases h2:l.getD m 0<=n
  ·
   rw [if_pos h2,if_pos (by omega)];omega
  rw [if_neg h2,if_neg (by omega)];omega
theorem Qre (l:LN):Dc l=Bc (fun i=>2 ^ (20 - l.getD i 0)) l.length:=by
 rw [<- Zi]
 congr 1
 apply X5
 ·
  simp
 intro i h1 h2;simp [Yb,Yf h1]
theorem Qg9 {l:LN} (h:∀ x∈l,1<=x/\x<=20):∀ n,n<=20->(Cs l n+De l n) * 2 ^ (20 - n)=Bc (fun i=>if l.getD i 0<=n then 2 ^ (20 - l.getD i 0) else 0) l.length
 | 0,_=>by
  rw [Cs,Qkb fun x hx=>(h x hx).1,Ul,Nat.zero_mul]
  symm
  have:Bc (fun i=>if l.getD i 0<=0 then 2 ^ (20 - l.getD i 0) else 0) l.length=Bc (fun _=>0) l.length:=Mf _ fun i hi=>by
   have:=h (l.getD i 0) (by rw [Yb,Yf hi];exact Xh hi);rw [if_neg (by omega)]
  rw [this];generalize l.length=n
  induction n with
  | zero=>rfl
  | succ n ih=>rw [Bc,ih]
 | n+1,hn=>by
  rw [Qg8,<- Qg9 h n (by omega),Cs];have e:2 ^ (20 - n)=2 * 2 ^ (20 - (n+1)):=by rw [show 20 - n=(20 - (n+1))+1 by omega,Xd];omega
  rw [e,U8]
  show _=_+De l (n+1) * _
  rw [Xn 2 (Cs l n+De l n),X6]
theorem Qih {l:LN} (h:Fv l) {n:Nat} (hn:n<=20):Cs l n+De l n<=2 ^ n:=by
 have h1:=Qg9 h.2.2.1 n hn
 have h2:Bc (fun i=>if l.getD i 0<=n then 2 ^ (20 - l.getD i 0) else 0) l.length<=Dc l:=by
  rw [Qre];generalize l.length=m
  induction m with
  | zero=>exact Y0 _
  | succ m ih =>
   rw [Bc,Bc];generalize 2 ^ (20 - l.getD m 0)=p;split <;> omega
 have h3:=h.2.2.2;have e:(1048576:Nat)=2 ^ n * 2 ^ (20 - n):=by rw [<- U9,show n+(20 - n)=20 by omega]
 have h4:(Cs l n+De l n) * 2 ^ (20 - n)<=2 ^ n * 2 ^ (20 - n):=by omega
 exact Nat.le_of_mul_le_mul_right h4 (Xw _)
theorem We {l:LN} (h:Fv l) {i:Nat} (hi:i < l.length):1<=l.getD i 0/\l.getD i 0<=20 :=
 h.2.2.1 _ (by rw [Yb,Yf hi];exact Xh hi)
theorem Z6 {l:LN} (h:Fv l) {i:Nat} (hi:i < l.length):Cs l (l.getD i 0)<=Dt l i/\Dt l i < Cs l (l.getD i 0)+De l (l.getD i 0)/\Dt l i < 2 ^ l.getD i 0:=by
 have h1:=Qka hi;have h2:=Qih h (We h hi).2;unfold Dt;omega
theorem Qy8 {l:LN} (h:Fv l) {i:Nat} (hi:i < l.length) (r:List Bool):∀ k,k < l.getD i 0->Tg l (A2 (k+1) (Dt l i)++r) (l.getD i 0 - (k+1)) (Dt l i / 2 ^ (k+1))=.ok (i,l.getD i 0):=by
 have hL:=We h hi;obtain ⟨hc1,hc2,hc3⟩:=Z6 h hi;intro k
 induction k with
 | zero =>
  intro hk;rw [A2,Yv,Tg]
  have e:2 * (Dt l i / 2 ^ (0+1))+((Dt l i).testBit 0).toNat=Dt l i:=by
   rw [Nat.testBit_zero];rcases Xj (Dt l i) with h | h <;> rw [h] <;> simp <;> omega
  rw [e,show l.getD i 0 - (0+1)+1=l.getD i 0 by omega,if_pos ⟨hc1,hc2⟩];have:Dt l i - Cs l (l.getD i 0)=(Co l (l.getD i 0) i).length:=by unfold Dt;omega
  rw [this,(Qka hi).1]
 | succ k ih =>
  intro hk;rw [A2,Yv,Tg]
  have e:2 * (Dt l i / 2 ^ (k+1+1))+((Dt l i).testBit (k+1)).toNat=Dt l i / 2 ^ (k+1):=by
   rw [Xd 2 (k+1),<- Nat.div_div_eq_div_mul,Y4];rcases Xj (Dt l i / 2 ^ (k+1)) with h | h <;> rw [h] <;> simp <;> omega
  rw [e,show l.getD i 0 - (k+1+1)+1=l.getD i 0 - (k+1) by omega];have hfl:=Qpi l (l.getD i 0 - (k+1)) k;rw [show l.getD i 0 - (k+1)+k+1=l.getD i 0 by omega] at hfl;have hge:Cs l (l.getD i 0 - (k+1))+De l (l.getD i 0 - (k+1))<=Dt l i / 2 ^ (k+1):=(Nat.le_div_iff_mul_le (Xw _)).2 (by omega);rw [if_neg (by omega),if_pos,ih (by omega)];unfold QQk;rw [List.any_eq_true];refine ⟨l.getD i 0,List.mem_range.2 (by omega),?_⟩
  have h1:Dt l i / 2 ^ (k+1) * 2 ^ (l.getD i 0 - (l.getD i 0 - (k+1)))<=Dt l i:=by
   rw [show l.getD i 0 - (l.getD i 0 - (k+1))=k+1 by omega];exact Nat.div_mul_le_self _ _
  simp only [Y5,decide_eq_true_eq];omega
theorem Qd3 {l:LN} (h:Fv l) {i:Nat} (hi:i < l.length) {bits:List Bool}{at_:Nat}{r:List Bool} (hb:bits.drop at_=Mp l i++r):QA4 l bits at_=.ok (i,at_+(Mp l i).length):=by
 have hL:=We h hi;have hc:=(Z6 h hi).2.2;have:=Qy8 h hi r (l.getD i 0 - 1) (by omega);rw [show l.getD i 0 - 1+1=l.getD i 0 by omega,Hm,Gg hc] at this;rw [QA4,hb]
 show (match Tg l (A2 (l.getD i 0) (Dt l i)++r) 0 0 with | .ok p=>_ | .error e=>_)=_
 rw [this,Mp,C0]
def Fp (l:LN) (list:LN):List Bool:=list.flatMap (Mp l)
theorem Me {bits:List Bool}{at_:Nat}{a b:List Bool} (h:bits.drop at_=a++b):bits.drop (at_+a.length)=b:=by
 rw [<- List.drop_drop,h,List.drop_left]
theorem Qkc {l:LN} (h:Fv l) (fin:Nat):∀ (list:LN) (n:Nat) {bits:List Bool}{at_:Nat}{r:List Bool},(∀ s∈list,s < l.length/\s≠fin)->list.length=n->bits.drop at_=Fp l list++r->P3 l bits fin n at_=.ok (list,at_+(Fp l list).length)
 | [],n,bits,at_,r,_,hn,hb=>by simp at hn;subst hn;simp [P3,Fp]
 | s::list,n,bits,at_,r,hs,hn,hb=>by
  simp at hn;subst hn;have hb':bits.drop at_=Mp l s++(Fp l list++r):=by rw [hb];simp [Fp,Yd]
  have h1:=hs s (by simp);rw [P3,Qd3 h h1.1 hb'];simp only;rw [if_neg h1.2,Qkc h fin list list.length (fun x hx=>hs x (by simp [hx])) rfl (Me hb')];simp [Fp];omega
theorem Qbn {l:LN} (h:Fv l) (fin:Nat) (hf:fin < l.length):∀ (list:LN) (n:Nat) {bits:List Bool}{at_:Nat}{r:List Bool},(∀ s∈list,s < l.length/\s≠fin)->list.length+1<=n->bits.drop at_=Fp l (list++[fin])++r->P3 l bits fin n at_=.ok (list++[fin],at_+(Fp l (list++[fin])).length)
 | [],n,bits,at_,r,_,hn,hb=>by
  obtain ⟨n,rfl⟩:∃ m,n=m+1:=⟨n - 1,by simp at hn;omega⟩;have hb':bits.drop at_=Mp l fin++r:=by rw [hb];simp [Fp]
  rw [P3,Qd3 h hf hb'];simp [Fp]
 | s::list,n,bits,at_,r,hs,hn,hb=>by
  simp at hn;obtain ⟨n,rfl⟩:∃ m,n=m+1:=⟨n - 1,by omega⟩;have hb':bits.drop at_=Mp l s++(Fp l (list++[fin])++r):=by rw [hb];simp [Fp,Yd]
  have h1:=hs s (by simp);rw [P3,Qd3 h h1.1 hb'];simp only;rw [if_neg h1.2,Qbn h fin hf list n (fun x hx=>hs x (by simp [hx])) (by omega) (Me hb')];simp [Fp];omega
theorem Qha {l:LN}{c:Nat} (h:∀ x∈l,x<=c):∀ (list:LN),(Fp l list).length<=list.length * c
 | []=>by simp [Fp]
 | s::list=>by
  have h1:=Qha h list
  have h2:(Mp l s).length<=c:=by
   rw [Mp,C0];by_cases hs:s < l.length
   ·
    exact h _ (by rw [Yb,Yf hs];exact Xh hs)
   rw [Qa0 (by omega)];omega
  simp only [Fp,X1,Ye,Yk,X3] at h1 ⊢;omega
def Om (a b:Nat):List Bool:=if a < b then (Yc (b - a) [true,false]).flatten else (Yc (a - b) [true,true]).flatten
def D6:Nat->LN->List Bool
 | _,[]=>[]
 | p,x::r=>Om p x++(false::D6 x r)
def Dd (l:LN):List Bool:=A2 5 (l.getD 0 0)++D6 (l.getD 0 0) l
def F9:List Bool->Nat->Nat->Nat->Except Int (LN×Nat)
 | [],now,k,at_=>if k=0 then .ok ([],at_) else if now < 1∨20 < now then .error 80 else .error 10
 | false::r,now,k,at_=>if k=0 then .ok ([],at_) else if now < 1∨20 < now then .error 80 else match F9 r now (k - 1) (at_+1) with
  | .error e=>.error e
  | .ok q=>.ok (now::q.1,q.2)
 | [true],now,k,at_=>if k=0 then .ok ([],at_) else if now < 1∨20 < now then .error 80 else .error 10
 | true::d::r,now,k,at_=>if k=0 then .ok ([],at_) else if now < 1∨20 < now then .error 80 else F9 r (if d=true then now - 1 else now+1) k (at_+2)
def Qb6 (bits:List Bool) (at_ n:Nat):Except Int (LN×Nat) :=
 if (Iz bits at_ 5).2≠0 then .error (Iz bits at_ 5).2 else F9 (bits.drop (at_+5)) (Iz bits at_ 5).1 n (at_+5)
theorem QGe:∀ (d p k:Nat) (r:List Bool) (at_:Nat),0 < k->1<=p->p+d<=20->F9 ((Yc d [true,false]).flatten++r) p k at_=F9 r (p+d) k (at_+2 * d)
 | 0,p,k,r,at_,_,_,_=>rfl
 | d+1,p,k,r,at_,h1,h2,h3=>by
  rw [Xf,Gd,Yd]
  show F9 (true::false::((Yc d [true,false]).flatten++r)) p k at_=_
  rw [F9,if_neg (by omega),if_neg (by omega),if_neg (by simp),QGe d (p+1) k r (at_+2) h1 (by omega) (by omega)]
  congr 1 <;> omega
theorem Qtu:∀ (d p k:Nat) (r:List Bool) (at_:Nat),0 < k->d < p->p<=20->F9 ((Yc d [true,true]).flatten++r) p k at_=F9 r (p - d) k (at_+2 * d)
 | 0,p,k,r,at_,_,_,_=>rfl
 | d+1,p,k,r,at_,h1,h2,h3=>by
  rw [Xf,Gd,Yd]
  show F9 (true::true::((Yc d [true,true]).flatten++r)) p k at_=_
  rw [F9,if_neg (by omega),if_neg (by omega),if_pos rfl,Qtu d (p - 1) k r (at_+2) h1 (by omega) (by omega)]
  congr 1 <;> omega
theorem Vp (d:Nat) (b:Bool):(Yc d [true,b]).flatten.length=2 * d:=by
 induction d with
 | zero=>rfl
 | succ d ih=>rw [Xf,Gd,Ye,ih];simp;omega
theorem Qa2 (a b:Nat):(Om a b).length=2 * ((b - a)+(a - b)):=by
 unfold Om;split <;> rw [Vp] <;> omega
theorem QE2 {p x k:Nat} (r:List Bool) (at_:Nat) (hk:0 < k) (hp:1<=p/\p<=20) (hx:1<=x/\x<=20):F9 (Om p x++r) p k at_=F9 r x k (at_+(Om p x).length):=by
 rw [Qa2];unfold Om;split
 ·
  rw [QGe _ _ _ _ _ hk hp.1 (by omega)];congr 1 <;> omega
 rw [Qtu _ _ _ _ _ hk (by omega) hp.2];congr 1 <;> omega
theorem QGf:∀ (l:LN) (p:Nat) (r:List Bool) (at_:Nat),(1<=p/\p<=20)->(∀ x∈l,1<=x/\x<=20)->F9 (D6 p l++r) p l.length at_=.ok (l,at_+(D6 p l).length)
 | [],p,r,at_,_,_=>by
  show F9 r p 0 at_=_
  match r with
  | []=>simp [F9,D6]
  | false::r=>simp [F9,D6]
  | [true]=>simp [F9,D6]
  | true::d::r=>simp [F9,D6]
 | x::l,p,r,at_,hp,hx=>by
  have h1:=hx x (by simp);rw [D6,Yd,Yv,QE2 _ _ (by simp) hp h1,F9,if_neg (by simp),if_neg (by omega)];rw [Yk,Ux,QGf l x r _ h1 fun y hy=>hx y (by simp [hy])];simp;omega
theorem Qrf {l:LN} (hl:l≠[]) (h:∀ x∈l,1<=x/\x<=20) {bits:List Bool}{at_:Nat}{r:List Bool} (hb:bits.drop at_=Dd l++r):Qb6 bits at_ l.length=.ok (l,at_+(Dd l).length):=by
 have h0:1<=l.getD 0 0/\l.getD 0 0<=20:=h _ (by
  cases l with
  | nil=>exact absurd rfl hl
  | cons x l=>simp)
 have hlen:bits.length - at_=(Dd l).length+r.length:=by rw [<- Uh,hb,Ye]
 have h5:(Dd l).length=5+(D6 (l.getD 0 0) l).length:=by rw [Dd,Ye,C0]
 have ht:(bits.drop at_).take 5=A2 5 (l.getD 0 0):=by
  rw [hb,Dd,Yd];have:=C0 5 (l.getD 0 0);rw [Xe (by omega),Yo (by omega)]
 have hd:bits.drop (at_+5)=D6 (l.getD 0 0) l++r:=by
  have:=Me (bits:=bits) (at_:=at_) (a:=A2 5 (l.getD 0 0)) (b:=D6 (l.getD 0 0) l++r) (by rw [hb,Dd,Yd])
  rwa [C0] at this
 have hts:Iz bits at_ 5=(l.getD 0 0,0):=by
  rw [Iz,if_neg (by omega),ht,Og,Xg (by omega)]
 rw [Qb6,hts,hd,h5,QGf l _ r _ h0 h];simp;omega
theorem Qc1 {k:Nat}:∀ (l:LN) (p:Nat),(p=k∨p=k+1)->(∀ x∈l,x=k∨x=k+1)->(D6 p l).length<=3 * l.length
 | [],p,_,_=>by simp [D6]
 | x::l,p,hp,hx=>by
  have h1:=hx x (by simp);have h2:=Qc1 l x h1 fun y hy=>hx y (by simp [hy]);have h3:=Qa2 p x;simp only [D6,Ye,Yk];omega
def Lf (li:LN) (at_:Nat):LN:=li.getD at_ 0::(li.take at_++li.drop (at_+1))
theorem Qb7 {li:LN}{at_:Nat} (h:at_ < li.length):(Lf li at_).length=li.length:=by simp [Lf];omega
theorem Qb8 {li:LN}{at_:Nat} (h:at_ < li.length) (c:Nat):c∈Lf li at_ ↔ c∈li:=by
 have e:li=li.take at_++li.getD at_ 0::li.drop (at_+1):=by
  have:li.getD at_ 0=li[at_]:=by rw [Yb,Yf h];rfl
  rw [this,<- Uz h,Yy]
 unfold Lf
 conv=>rhs;rw [e]
 simp only [List.mem_cons,List.mem_append];constructor
 ·
  rintro (h | h | h)
  ·
   exact .inr (.inl h)
  ·
   exact .inl h
  exact .inr (.inr h)
 rintro (h | h | h)
 ·
  exact .inr (.inl h)
 ·
  exact .inl h
 exact .inr (.inr h)
theorem Qhb {li:LN}{c:Nat} (h:c∈li):li.getD (li.idxOf c) 0=c:=by
 have h1:=Ge.2 h;rw [Yb,Yf h1,Option.getD_some];exact List.getElem_idxOf h1
def Iu:LN->LN->List Bool
 | _,[]=>[]
 | li,p::r=>Yc (li.idxOf p) true++(false::Iu (Lf li (li.idxOf p)) r)
def Ej (T:List (LN)) (P:LN):List Bool:=A2 3 T.length++(A2 15 P.length++(Iu (Yl T.length) P++T.flatMap Dd))
def Wt (bits:List Bool) (many:Nat):LN->Nat->Nat->Except Int (LN×Nat)
 | li,0,at_=>.ok ([],at_)
 | li,k+1,at_=>if (Oa (bits.drop at_) (many - 1) 0).2≠0 then .error (if (Oa (bits.drop at_) (many - 1) 0).2=3 then 110 else (Oa (bits.drop at_) (many - 1) 0).2) else
  match Wt bits many (Lf li (Oa (bits.drop at_) (many - 1) 0).1) k (at_+(Oa (bits.drop at_) (many - 1) 0).1+1) with
  | .error e=>.error e
  | .ok q=>.ok (li.getD (Oa (bits.drop at_) (many - 1) 0).1 0::q.1,q.2)
def Tj (l:LN):Bool:=decide (2<=l.length) && decide (l.length<=258) && l.all (fun x=>decide (1<=x) && decide (x<=20)) && decide (Dc l<=1048576)
theorem Qii {l:LN}:Tj l=true ↔ Fv l:=by
 simp only [Tj,Fv,Y5,decide_eq_true_eq,List.all_eq_true,and_assoc]
def Wu (bits:List Bool) (n:Nat):Nat->Nat->Except Int (List (LN)×Nat)
 | 0,at_=>.ok ([],at_)
 | k+1,at_=>match Qb6 bits at_ n with
  | .error e=>.error e
  | .ok q=>if Tj q.1=false then .error 80 else match Wu bits n k q.2 with
   | .error e=>.error e
   | .ok q'=>.ok (q.1::q'.1,q'.2)
def Z7 (bits:List Bool) (at_ n:Nat):Except Int ((List (LN)×LN)×Nat) :=
 if (Iz bits at_ 3).2≠0 then .error (Iz bits at_ 3).2 else
 if (Iz bits at_ 3).1 < 2∨6 < (Iz bits at_ 3).1 then .error 110 else
 if (Iz bits (at_+3) 15).2≠0 then .error (Iz bits (at_+3) 15).2 else
 if (Iz bits (at_+3) 15).1=0 then .error 110 else
 match Wt bits (Iz bits at_ 3).1 (Yl (Iz bits at_ 3).1) (Iz bits (at_+3) 15).1 (at_+18) with
 | .error e=>.error e
 | .ok q=>match Wu bits n (Iz bits at_ 3).1 q.2 with
  | .error e=>.error e
  | .ok q'=>.ok ((q'.1,q.1),q'.2)
def O3 (T:List (LN)) (P:LN):Prop:=2<=T.length/\T.length<=6/\1<=P.length/\P.length<=32767/\(∀ t∈T,t.length=(T.getD 0 []).length/\3<=t.length/\Fv t)/\∀ k∈P,k < T.length
theorem Qtv:∀ (k most n:Nat) (r:List Bool),n+k<=most->Oa (Yc k true++false::r) most n=(n+k,0)
 | 0,most,n,r,_=>rfl
 | k+1,most,n,r,h=>by
  rw [Xf,Yv,Oa,if_neg (by omega),Qtv k most (n+1) r (by omega)]
  congr 1;omega
theorem QGg (many:Nat):∀ (P li:LN) {bits:List Bool}{at_:Nat}{r:List Bool},li.length=many->(∀ k∈P,k∈li)->bits.drop at_=Iu li P++r->Wt bits many li P.length at_=.ok (P,at_+(Iu li P).length)
 | [],li,bits,at_,r,_,_,_=>by simp [Wt,Iu]
 | p::P,li,bits,at_,r,hl,hm,hb=>by
  have hp:=hm p (by simp);have h1:=Ge.2 hp;have hb':bits.drop at_=(Yc (li.idxOf p) true++[false])++(Iu (Lf li (li.idxOf p)) P++r):=by rw [hb,Iu];simp
  have hu:Oa (bits.drop at_) (many - 1) 0=(li.idxOf p,0):=by
   rw [hb',Yd,Uc,Qtv _ _ _ _ (by omega),Ul]
  have hd:=Me hb';simp only [Ye,Ud,Xk] at hd;rw [Yk,Wt,hu];simp only;rw [Gy,QGg many P (Lf li (li.idxOf p)) (by rw [Qb7 h1,hl]) (fun k hk=>(Qb8 h1 k).2 (hm k (by simp [hk]))) hd,Qhb hp];simp [Iu];omega
theorem QGh (n:Nat):∀ (T:List (LN)) {bits:List Bool}{at_:Nat}{r:List Bool},(∀ t∈T,t.length=n/\Fv t)->bits.drop at_=T.flatMap Dd++r->Wu bits n T.length at_=.ok (T,at_+(T.flatMap Dd).length)
 | [],bits,at_,r,_,_=>by simp [Wu]
 | t::T,bits,at_,r,hT,hb=>by
  obtain ⟨h1,h2⟩:=hT t (by simp);have hb':bits.drop at_=Dd t++(T.flatMap Dd++r):=by rw [hb];simp
  have hne:t≠[]:=fun e=>by subst e;have:=h2.1;simp at this
  have ht:=Qrf hne h2.2.2.1 hb';rw [h1] at ht;rw [Yk,Wu,ht];simp only;rw [if_neg (by rw [Qii.2 h2];simp),QGh n T (fun t ht=>hT t (by simp [ht])) (Me hb')];simp;omega
theorem Qkd {n v:Nat}{bits:List Bool}{at_:Nat}{r:List Bool} (h0:0 < n) (hv:v < 2 ^ n) (hb:bits.drop at_=A2 n v++r):Iz bits at_ n=(v,0)/\bits.drop (at_+n)=r:=by
 have hlen:bits.length - at_=n+r.length:=by rw [<- Uh,hb,Ye,C0]
 have hd:=Me hb;rw [C0] at hd;refine ⟨?_,hd⟩;have hl:=C0 n v
 have ht:(bits.drop at_).take n=A2 n v:=by
  rw [hb,Xe (by omega),Yo (by omega)]
 rw [Iz,ht,Og,Xg hv];rw [if_neg (by omega)]
theorem Qvo {T:List (LN)}{P:LN} (h:O3 T P) {bits:List Bool}{at_:Nat}{r:List Bool} (hb:bits.drop at_=Ej T P++r):Z7 bits at_ (T.getD 0 []).length=.ok ((T,P),at_+(Ej T P).length):=by
 obtain ⟨h1,h2,h3,h4,h5,h6⟩:=h;unfold Ej at hb;simp only [Yd] at hb;obtain ⟨t1,d1⟩:=Qkd (by omega) (by omega) hb;obtain ⟨t2,d2⟩:=Qkd (by omega) (by omega) d1;rw [Gy] at d2;have p1:=QGg T.length P (Yl T.length) (by simp) (fun k hk=>by simpa using h6 k hk) d2;have d3:=Me d2;have p2:=QGh (T.getD 0 []).length T (fun t ht=>⟨(h5 t ht).1,(h5 t ht).2.2⟩) d3;rw [Z7,t1,t2];simp only;rw [if_neg (by simp),if_neg (by omega),if_neg (by simp),if_neg (by omega),p1];simp only;rw [p2];simp [Ej,C0];omega
def E1 (T:List (LN)) (P:LN):LN->Nat->List Bool
 | [],_=>[]
 | s::r,i=>Mp (T.getD (P.getD (i / 50) 0) []) s++E1 T P r (i+1)
def Kt (T:List (LN)):LN->LN->List Bool
 | [],_=>[]
 | p::P,list=>Fp (T.getD p []) (list.take 50)++Kt T P (list.drop 50)
def Wj (T:List (LN)) (bits:List Bool) (fin:Nat):LN->Nat->Except Int (LN×Nat)
 | [],_=>.error 110
 | p::P,at_=>match P3 (T.getD p []) bits fin 50 at_ with
  | .error e=>.error e
  | .ok q=>if q.1.getLast? = some fin then .ok q else match Wj T bits fin P q.2 with
   | .error e=>.error e
   | .ok q'=>.ok (q.1++q'.1,q'.2)
theorem Qez (T:List (LN)) (P:LN) (j:Nat) (b:LN):∀ (a:LN) (m:Nat),a.length+m<=50->E1 T P (a++b) (50 * j+m)=Fp (T.getD (P.getD j 0) []) a++E1 T P b (50 * j+m+a.length)
 | [],m,_=>rfl
 | s::a,m,h=>by
  simp at h;rw [Yv,E1,show (50 * j+m) / 50=j by omega,show 50 * j+m+1=50 * j+(m+1) by omega,Qez T P j b a (m+1) (by omega)];simp only [Fp,X1,Yd,Yk]
  congr 3;omega
theorem Qhc (T:List (LN)) (P:LN):∀ (Q:LN) (j:Nat) (list:LN),P.drop j=Q->list.length<=50 * Q.length->E1 T P list (50 * j)=Kt T Q list
 | [],j,list,hQ,hl=>by
  simp at hl;subst hl;rfl
 | p::Q,j,list,hQ,hl=>by
  have hj:P.getD j 0=p:=by
   have:=congrArg (fun l=>l.getD 0 0) hQ;simpa [Yb,List.getElem?_drop] using this
  have h1:=Qez T P j (list.drop 50) (list.take 50) 0 (by simp;omega);rw [Yy,Un,hj] at h1;rw [h1,Kt]
  congr 1
  rcases Yp list.length 50 with h2 | h2
  ·
   have hd:list.drop 50=[]:=Gm (by omega);rw [hd];clear hl h1;generalize 50 * j+(list.take 50).length=i
   have:∀ Q:LN,Kt T Q []=[]:=fun Q=>by induction Q with
    | nil=>rfl
    | cons q Q ih=>rw [Kt];simp [Fp,ih]
   rw [this];rfl
  rw [Xc,Nat.min_eq_left h2,show 50 * j+50=50 * (j+1) by omega];refine Qhc T P Q (j+1) _ ?_ (by simp at hl ⊢;omega);rw [<- List.drop_drop,hQ];rfl
theorem Qpj (T:List (LN)):∀ Q:LN,Kt T Q []=[]
 | []=>rfl
 | q::Q=>by rw [Kt,List.drop_nil,Qpj T Q];rfl
theorem Qtw {T:List (LN)}{n fin:Nat} (hf:fin < n) (hT:∀ t,t < T.length->(T.getD t []).length=n/\Fv (T.getD t [])):∀ (P body:LN) {bits:List Bool}{at_:Nat}{r:List Bool},(∀ k∈P,k < T.length)->(∀ s∈body,s < n/\s≠fin)->(body++[fin]).length<=50 * P.length->bits.drop at_=Kt T P (body++[fin])++r ->
  Wj T bits fin P at_=.ok (body++[fin],at_+(Kt T P (body++[fin])).length)
 | [],body,bits,at_,r,_,_,hl,_=>by simp at hl
 | p::P,body,bits,at_,r,hP,hs,hl,hb=>by
  obtain ⟨h1,h2⟩:=hT p (hP p (by simp));rw [Kt,Yd] at hb;rw [Wj,Kt];rcases Yp body.length 50 with h3 | h3
  ·
   have e1:(body++[fin]).take 50=body++[fin]:=Yo (by simp;omega);have e2:(body++[fin]).drop 50=[]:=Gm (by simp;omega);rw [e1,e2,Qpj] at hb ⊢;rw [Qbn h2 fin (by omega) body 50 (fun s hs'=>by rw [h1];exact hs s hs') (by omega) hb];simp only;rw [if_pos (by simp),Yq]
  have e1:(body++[fin]).take 50=body.take 50:=by rw [Xe h3]
  have e2:(body++[fin]).drop 50=body.drop 50++[fin]:=by rw [Ui h3]
  rw [e1,e2] at hb ⊢;have hmem:∀ s∈body.take 50,s < (T.getD p []).length/\s≠fin:=fun s hs'=>by rw [h1];exact hs s (Uj hs')
  rw [Qkc h2 fin (body.take 50) 50 hmem (by rw [Xc];omega) hb];simp only;have hlast:¬ (body.take 50).getLast? = some fin:=fun e=>(hmem fin (List.mem_of_getLast? e)).2 rfl;rw [if_neg hlast,Qtw hf hT P (body.drop 50) (fun k hk=>hP k (by simp [hk])) (fun s hs'=>hs s (List.mem_of_mem_drop hs')) (by simp at hl ⊢;omega) (Me hb)];simp only [Except.ok.injEq,Prod.mk.injEq,Ye];refine ⟨?_,by omega⟩;rw [<- Yd,Yy]
def Eo (list:LN) (n:Nat):LN:=(Yl n).map fun s=>list.count s
def Rb (list P:LN) (t n:Nat):LN:=(Yl n).map fun s=>(Yl list.length).countP fun i=>list.getD i 0 == s && P.getD (i / 50) 0 == t
def L5 (tab chunk:LN):Nat:=(chunk.map fun s=>tab.getD s 0).sum
def L6 (c:Nat->Nat):Nat->Nat
 | 0=>0
 | t+1=>if c (t+1) < c (L6 c t) then t+1 else L6 c t
def Dx (list:LN) (k:Nat):LN:=(list.drop (50 * k)).take 50
def Dq (m:Nat):Nat:=(m+49) / 50
def Km (m:Nat):Nat:=if m < 200 then 2 else if m < 600 then 3 else if m < 1200 then 4 else if m < 2400 then 5 else 6
def F1 (list:LN) (many:Nat) (T:List (LN)):LN:=(Yl (Dq list.length)).map fun k=>L6 (fun t=>L5 (T.getD t []) (Dx list k)) (many - 1)
def Lg (list:LN) (n many:Nat) (x:List (LN)×LN):List (LN)×LN :=
 ((Yl many).map fun t=>I2 (Rb list (F1 list many x.1) t n) 17,F1 list many x.1)
def L1 (n many:Nat):List (LN):=(Yl many).map fun t=>(Yl n).map fun s=>if s * many / n=t then 1 else 15
def D7 (list:LN) (n many:Nat):Nat->List (LN)×LN
 | 0=>(L1 n many,Yc (Dq list.length) 0)
 | k+1=>Lg list n many (D7 list n many k)
def Kn (list:LN) (n:Nat):List (LN)×LN:=D7 list n (Km list.length) 4
def E0 (list:LN) (n:Nat):List (LN)×LN:=([Ee (Eo list n),Ee (Eo list n)],Yc (Dq list.length) 0)
def I0 (x:List (LN)×LN) (list:LN):Nat:=(Ej x.1 x.2).length+(E1 x.1 x.2 list 0).length
def E2 (list:LN) (n:Nat):List (LN)×LN:=if I0 (E0 list n) list < I0 (Kn list n) list then E0 list n else Kn list n
def M0 (list:LN) (n:Nat):Prop:=3<=n/\n<=258/\1<=list.length/\list.length<=1638350/\∀ s∈list,s < n
theorem Z8 (c:Nat->Nat):∀ t,L6 c t<=t
 | 0=>Y0 _
 | t+1=>by
  have:=Z8 c t;rw [L6];split <;> omega
theorem Qhd (m:Nat):2<=Km m/\Km m<=6:=by
 unfold Km;(repeat' split) <;> omega
theorem T8 {m:Nat} (h:1<=m) (h2:m<=1638350):1<=Dq m/\Dq m<=32767/\m<=50 * Dq m:=by unfold Dq;omega
theorem Vr {α:Type} (f:Nat->α) (n:Nat) (d:α) (i:Nat) (h:i < n):((Yl n).map f).getD i d=f i:=by
 rw [Yb,Ho,Gx h];rfl
theorem Qhe {list:LN}{n:Nat} (h:M0 list n):O3 (Kn list n).1 (Kn list n).2/\((Kn list n).1.getD 0 []).length=n:=by
 obtain ⟨h1,h2,h3,h4,h5⟩:=h;obtain ⟨t1,t2⟩:=Qhd list.length;obtain ⟨g1,g2,_⟩:=T8 h3 h4;unfold Kn;generalize Km list.length=many at *;rw [D7];generalize D7 list n many 3=x
 have hlen:∀ P t,(I2 (Rb list P t n) 17).length=n/\Fv (I2 (Rb list P t n) 17):=fun P t=>by
  have hc:(Rb list P t n).length=n:=by simp [Rb]
  obtain ⟨a,b,c⟩:=Qts (w:=Rb list P t n) (most:=17) (by omega) (by omega) (by omega) (by omega) (fun x hx=>by
   obtain ⟨s,_,rfl⟩:=Y3.1 hx;have:=List.countP_le_length (p:=fun i=>list.getD i 0 == s && P.getD (i / 50) 0 == t) (l:=Yl list.length);simp only [Hp] at this;omega)
  rw [hc] at a;exact ⟨a,by omega,by omega,fun x hx=>by have:=b x hx;omega,by omega⟩
 have h0:((Lg list n many x).1.getD 0 []).length=n:=by
  unfold Lg;simp only;rw [Vr _ _ _ _ (by omega)];exact (hlen _ _).1
 refine ⟨⟨by simp [Lg];omega,by simp [Lg];omega,by simp [Lg,F1];omega,by simp [Lg,F1];omega,fun t ht=>?_,fun k hk=>?_⟩,h0⟩
 ·
  rw [h0];obtain ⟨i,_,rfl⟩:=Y3.1 ht;have:=hlen (F1 list many x.1) i;exact ⟨this.1,by omega,this.2⟩
 simp only [Lg,F1,Y3] at hk;obtain ⟨j,_,rfl⟩:=hk;have:=Z8 (fun t=>L5 (x.1.getD t []) (Dx list j)) (many - 1);simp only [Lg,List.length_map,Hp];omega
theorem Qls (w:LN):∀ x∈Ee w,x=Dz w.length∨x=Dz w.length+1:=by
 intro x hx;obtain ⟨i,_,rfl⟩:=Y3.1 hx;unfold Mo;split <;> simp
theorem Qmm {list:LN}{n:Nat} (h:M0 list n):(Ee (Eo list n)).length=n/\Fv (Ee (Eo list n)):=by
 obtain ⟨h1,h2,h3,h4,h5⟩:=h;have hc:(Eo list n).length=n:=by simp [Eo]
 obtain ⟨a,b,c⟩:=Qpf (w:=Eo list n) (by omega) (by omega);rw [hc] at a;exact ⟨a,by omega,by omega,fun x hx=>by have:=b x hx;omega,by omega⟩
theorem Qpk {list:LN}{n:Nat} (h:M0 list n):O3 (E0 list n).1 (E0 list n).2/\((E0 list n).1.getD 0 []).length=n:=by
 obtain ⟨a,b⟩:=Qmm h;obtain ⟨h1,h2,h3,h4,h5⟩:=h;obtain ⟨g1,g2,_⟩:=T8 h3 h4;unfold E0;simp only;generalize Ee (Eo list n)=l at *;refine ⟨⟨by simp,by simp,by simp;omega,by simp;omega,fun t ht=>?_,fun k hk=>?_⟩,by simpa using a⟩
 ·
  have:t=l:=by simpa using ht
  subst this;exact ⟨rfl,by omega,b⟩
 have:=List.eq_of_mem_replicate hk;subst this;simp
theorem Qpl {list:LN}{n:Nat} (h:M0 list n):O3 (E2 list n).1 (E2 list n).2/\((E2 list n).1.getD 0 []).length=n:=by
 unfold E2;split
 ·
  exact Qpk h
 exact Qhe h
theorem Qe0 (list:LN) (n:Nat):(E2 list n).2.length=Dq list.length:=by
 unfold E2;split
 ·
  simp [E0]
 simp [Kn,D7,Lg,F1]
theorem Qc2:∀ g,(Iu [0,1] (Yc g 0)).length=g
 | 0=>rfl
 | g+1=>by
  rw [Xf,Iu];have e:Lf [0,1] (List.idxOf 0 [0,1])=[0,1]:=rfl;have e2:List.idxOf 0 [0,1]=0:=rfl;rw [e,e2];simp [Qc2 g]
theorem Zv {T:List (LN)}{P:LN}{c:Nat} (h:∀ t∈T,∀ x∈t,x<=c):∀ (list:LN) (i:Nat),(E1 T P list i).length<=list.length * c
 | [],i=>by simp [E1]
 | s::r,i=>by
  have h1:=Zv (P:=P) h r (i+1)
  have h2:(Mp (T.getD (P.getD (i / 50) 0) []) s).length<=c:=by
   have:=Qha (l:=T.getD (P.getD (i / 50) 0) []) (c:=c) (fun x hx=>by
    by_cases ht:P.getD (i / 50) 0 < T.length
    ·
     refine h (T.getD (P.getD (i / 50) 0) []) ?_ x hx;rw [Yb,Yf ht];exact Xh ht
    rw [Yb,Xx (by omega)] at hx;simp at hx) [s]
   simpa [Fp] using this
  simp only [E1,Ye,Yk,X3];omega
theorem Qd4 {list:LN}{n:Nat} (h:M0 list n):I0 (E2 list n) list<=18+Dq list.length+2 * (5+3 * n)+list.length * 9:=by
 have h1:I0 (E2 list n) list<=I0 (E0 list n) list:=by
  unfold E2;split <;> omega
 refine X4 h1 ?_;obtain ⟨a,b⟩:=Qmm h;have hc:(Eo list n).length=n:=by simp [Eo]
 obtain ⟨h3,h4,h5,h6,h7⟩:=h;have hfl:=Qls (Eo list n);have hok:=(Qpf (w:=Eo list n) (by omega) (by omega)).2.1
 have hp:=Zv (T:=(E0 list n).1) (P:=(E0 list n).2) (c:=9) (fun t ht x hx=>by
  have:t=Ee (Eo list n):=by simpa [E0] using ht
  subst this;exact (hok x hx).2) list 0
 have hd:(Dd (Ee (Eo list n))).length<=5+3 * n:=by
  rw [Dd,Ye,C0]
  have:=Qc1 (k:=Dz (Eo list n).length) (Ee (Eo list n)) ((Ee (Eo list n)).getD 0 0) (hfl _ (by
   generalize Ee (Eo list n)=l at *;cases l with
   | nil=>simp at a;omega
   | cons x l=>simp)) hfl
  rw [a] at this;omega
 have hb:(Ej (E0 list n).1 (E0 list n).2).length=18+Dq list.length+2 * (Dd (Ee (Eo list n))).length:=by
  have e:Yl 2=[0,1]:=rfl;simp only [Ej,E0,Ye,C0,Yk,Gn,Ul,Nat.reduceAdd,e,Qc2,X1,List.flatMap_nil,Yq];omega
 unfold I0;omega
open Go Go.Eng
def Ak (l:LN):LV:=l.map fun n:Nat=>.int .i64 (n:Int)
def ni (l:LN):List Int:=l.map fun n:Nat=>(n:Int)
theorem Bh (l:LN):(Ak l).length=l.length:=by simp [Ak]
theorem Qc3 (l m:LN):Ak (l++m)=Ak l++Ak m:=by simp [Ak]
theorem Qrg (l:LN) (x:Nat):Ak l++[.int .i64 (x:Int)]=Ak (l++[x]):=by simp [Ak]
theorem Io {l:LN}{i:Nat} (h:i < l.length):(Ak l)[i]? = some (.int .i64 ((l.getD i 0:Nat):Int)):=by
 simp [Ak,Yf h,Yb]
theorem Ip (l:LN) (i v:Nat):(Ak l).set i (.int .i64 (v:Int))=Ak (l.set i v):=by simp [Ak,List.map_set]
theorem Qb9 (l:LN) (k:Nat):(Ak l).take k=Ak (l.take k):=by simp [Ak]
theorem Qhf (l:LN) (k:Nat):(Ak l).drop k=Ak (l.drop k):=by simp [Ak]
theorem Qd5 (l:LN):∀ u∈Ak l,u.oneCell'=true:=by
 intro u hu;obtain ⟨b,_,rfl⟩:=Y3.1 hu;rfl
theorem El {w:World}{p:Addr}{l:LN}{n:Nat} (h:RS w (some p) n 1 (Ak l)) {i:Nat} (hi:i < l.length):w.cell? (p.add i)=some (.int .i64 ((l.getD i 0:Nat):Int)) :=
 h.2.2 p rfl i _ (Io hi)
def Fh (l:LN):LV:=l.map fun n:Nat=>.int .u64 (n:Int)
theorem Z9 (l:LN):(Fh l).length=l.length:=by simp [Fh]
theorem Qij {l:LN}{i:Nat} (h:i < l.length):(Fh l)[i]? = some (.int .u64 ((l.getD i 0:Nat):Int)):=by
 simp [Fh,Yf h,Yb]
theorem Qy9 (l:LN) (i v:Nat):(Fh l).set i (.int .u64 (v:Int))=Fh (l.set i v):=by simp [Fh,List.map_set]
theorem Qmn:∀ {l:LV}{i:Nat}{v:Value}{K:Value->Prop},l[i]? = some v->Bb l i K=K v:=by
 intro l i v K h;rw [Qtn,h]
section
variable {P:Program}{w w0:World}{B:LN}{G:List Res}
theorem Qza (hH:Heap w0 B w G) (i:Nat) {T E ty:TypeId}{bytes:Nat}{z:Value}{a:OA}{cap:Nat}{o:LN} (k:Nat) {n:Int}{C:Value->World->Prop}
  (hi:G[i]? = some (X7 E 1 a o.length cap (Ak o))) (hu:P.underlying T=some (.slice E)) (hz:(P.info? E).map (fun i=>(i.zero.map X2,i.size,i.bytes))=some (some #[z],1,bytes)) (hn:n=k)
  (hb:cap < (o++[k]).length->(o++[k]).length * bytes<=140737488355328/\(o++[k]).length<=9223372036854775807)
  (h:∀ a' cap' w',((o++[k]).length<=cap->a'=a/\cap'=cap)->Heap w0 B w' (G.set i (X7 E 1 a' (o++[k]).length cap' (Ak (o++[k]))))->C (.slice a' (o++[k]).length cap') w') :
  N5 P #[T,T] ty [.slice a o.length cap,.slice (some ⟨w.heap.size,0,none⟩) 1 1] (w.alloc (.cells [Value.int .i64 n].toArray E)) C:=by
 subst hn;have e:o.length+1=(o++[k]).length:=by simp
 refine Qic hH i hi hu hz rfl (by rw [e];exact hb) fun a' cap' w' hc hH'=>?_;rw [Qrg,e] at hH';rw [e] at hc ⊢;exact h a' cap' w' hc hH'
end
theorem Qax {l:LN}{i:Nat} (h:i < l.length):B6 (l.take (i+1))=max (B6 (l.take i)) (l.getD i 0):=by
 rw [Lv 0 h,B6,List.foldl_append];rfl
theorem Qpm (l:LN) (hl:0 < l.length) (hs:l.length<=1000000000) (a:OA) (lc:Nat) (w:World) (hr:RS w a l.length 1 (Ak l)) :
  Does Ya 232 #[.slice a l.length lc] w fun v w'=>w'=w/\v=.int .i64 (B6 l:Nat):=by
 obtain ⟨p,rfl⟩:=Ek hr (by omega);refine En [.slice (some p) l.length lc] 25 Tryz.func232 ?_;generalize hn:l.length=n at *;refine VS [0] ?_;refine VS [0,7] ?_;refine Do [0] (fun e w'=>Is e [(0,.slice (some p) n lc)]/\Is w' w) ?_ ?_
 ·
  refine Ai rfl rfl (fun h=>by simp at h;omega) (fun h=>?_);refine Ad ?_;refine Ah ?_;refine Qs ?_;exact ⟨rfl,rfl⟩
 rintro e w' ⟨rfl,rfl⟩;have h0:=El hr (i:=0) (by omega);refine VQ [0,3] fun K hK=>?_;refine ⟨by omega,_,h0,?_⟩;apply hK;clear hK;refine VS [0,3,4] ?_
 have hm0:l.getD 0 0=B6 (l.take 1):=by
  cases l with
  | nil=>simp at hn;omega
  | cons x l=>simp [B6]
 rw [hm0];refine Aq ?_;refine Ay [0,3,4] (fun m e w1=>∃ (i:Nat),Is e [(0,.slice (some p) n lc),(3,.int .i64 (B6 (l.take i):Nat)),(4,.int .i64 i)]/\Is w1 w'/\1<=i/\i<=n/\m=n - i) (n - 1) ?_ ?_
 ·
  refine Qs ?_;exact ⟨1,rfl,rfl,by omega,by omega,rfl⟩
 rintro m e w2 ⟨i,rfl,rfl,h1,h2,rfl⟩;refine VS [0,3,4,15] ?_;refine VD (fun h=>?_) (fun h=>?_)
 ·
  have hi:=El hr (i:=i) (by omega);have hs2:=Qax (l:=l) (i:=i) (by omega);refine Ad ?_;refine VB ?_;refine VQ [0,3,4] fun K hK=>?_;refine ⟨⟨by omega,by omega⟩,_,hi,?_⟩;refine Qs ?_;rw [show max ((B6 (l.take i):Nat):Int) ((l.getD i 0:Nat):Int)=((B6 (l.take (i+1)):Nat):Int) by rw [hs2];omega];apply hK;clear hK;refine An ?_;refine VS [0,3,4] ?_;refine Ah ?_;refine Qs ?_;exact ⟨n - (i+1),by omega,i+1,rfl,rfl,by omega,by omega,rfl⟩
 refine Ax rfl ?_;refine VS [2] ?_;refine Ae (Al rfl rfl ⟨rfl,?_⟩);rw [Yo (by omega)]
theorem Qzb (l:LN) (hl:0 < l.length) (hs:l.length<=1000000000) (a:OA) (lc:Nat) (w:World) (hr:RS w a l.length 1 (Ak l)) :
  Does Ya 251 #[.slice a l.length lc] w fun v w'=>w'=w/\∃ n:Nat,v=.int .i64 n:=by
 obtain ⟨p,rfl⟩:=Ek hr (by omega);refine En [.slice (some p) l.length lc] 25 Tryz.func251 ?_;generalize hn:l.length=n at *;refine VS [0] ?_;refine VS [0,7] ?_;refine Do [0] (fun e w'=>Is e [(0,.slice (some p) n lc)]/\Is w' w) ?_ ?_
 ·
  refine Ai rfl rfl (fun h=>by simp at h;omega) (fun h=>?_);refine Ad ?_;refine Ah ?_;refine Qs ?_;exact ⟨rfl,rfl⟩
 rintro e w' ⟨rfl,rfl⟩;have h0:=El hr (i:=0) (by omega);refine VQ [0,3] fun K hK=>?_;refine ⟨by omega,_,h0,?_⟩;apply hK;clear hK;refine VS [0,3,4] ?_;refine Aq ?_;refine Ay [0,3,4] (fun m e w1=>∃ (i x:Nat),Is e [(0,.slice (some p) n lc),(3,.int .i64 x),(4,.int .i64 i)]/\Is w1 w'/\1<=i/\i<=n/\m=n - i) (n - 1) ?_ ?_
 ·
  refine Qs ?_;exact ⟨1,_,rfl,rfl,by omega,by omega,rfl⟩
 rintro m e w2 ⟨i,x,rfl,rfl,h1,h2,rfl⟩;refine VS [0,3,4,15] ?_;refine VD (fun h=>?_) (fun h=>?_)
 ·
  have hi:=El hr (i:=i) (by omega);refine Ad ?_;refine VB ?_;refine VQ [0,3,4] fun K hK=>?_;refine ⟨⟨by omega,by omega⟩,_,hi,?_⟩;refine Qs ?_;rw [show min ((x:Nat):Int) ((l.getD i 0:Nat):Int)=((min x (l.getD i 0):Nat):Int) by omega];apply hK;clear hK;refine An ?_;refine VS [0,3,4] ?_;refine Ah ?_;refine Qs ?_;exact ⟨n - (i+1),by omega,i+1,_,rfl,rfl,by omega,by omega,rfl⟩
 refine Ax rfl ?_;refine VS [2] ?_;exact Ae (Al rfl rfl ⟨rfl,_,rfl⟩)
theorem Qe1 (l:LN) (hl:2<=l.length) (hl2:l.length<=258) (hx:∀ x∈l,x<=1073741824) (a:OA) (lc:Nat) (w:World) (hr:RS w a l.length 1 (Ak l)) :
  Does Ya 229 #[.slice a l.length lc] w fun v w'=>w'=w/\v=.bool true:=by
 have hmax:=(Ra (l:=l)).2 hx;have hc1:=Qzb l (by omega) (by omega) a lc w hr;have hc2:=Qpm l (by omega) (by omega) a lc w hr;refine En [.slice a l.length lc] 21 Tryz.func229 ?_;generalize l.length=n at *;generalize B6 l=mx at *;refine VS [0] ?_;refine VQ [2] fun K hK=>?_;refine ⟨fun h1=>⟨fun h2=>?_,fun h2=>absurd h2 (by simp;omega)⟩,fun h1=>absurd h1 (by simp;omega)⟩;refine Aa Tryz.call251 ?_;refine Qs ?_;refine Y2 hc1 ?_;rintro v w2 ⟨rfl,q,rfl⟩;refine Qs ?_;refine ⟨fun h3=>?_,fun h3=>absurd h3 (by simp)⟩;refine Aa Tryz.call232 ?_;refine Qs ?_;refine Y2 hc2 ?_;rintro v w3 ⟨rfl,rfl⟩;refine Qs ?_;rw [decide_eq_true (show ((mx:Nat):Int)<=1073741824 by omega)];apply hK;clear hK;exact Ae (Al rfl rfl ⟨rfl,rfl⟩)
def Ru (l:LN):Nat:=if l.length < 2∨258 < l.length then 0 else if l.all (fun x=>decide (1<=x) && decide (x<=20)) then Dc l else 0
theorem Qn2 (l:LN) (x:Nat):Dc (l++[x])=Dc l+2 ^ (20 - x):=by rw [Qbm];rfl
theorem Qvp (l:LN):Dc l<=l.length * 1048576:=by
 induction l with
 | nil=>simp [Dc]
 | cons x l ih =>
  have:2 ^ (20 - x)<=2 ^ 20:=Y1 (by omega) (by omega);simp only [Dc,Yk,X3];have e:(2:Nat) ^ 20=1048576:=by decide
  omega
theorem Qn3 (l:LN) (a:OA) (lc:Nat) (w:World) (hr:RS w a l.length 1 (Ak l)) :
  Does Ya 235 #[.slice a l.length lc] w fun v w'=>w'=w/\v=.int .i64 (Ru l:Nat):=by
 generalize hres:Ru l=res;unfold Ru at hres;refine En [.slice a l.length lc] 33 Tryz.func235 ?_;generalize hn:l.length=n at *;refine VS [0] ?_;refine VQ [0,13] fun K hK=>?_
 suffices out:∀ b:Bool,(b=true ↔ (n < 2∨258 < n))->K [(0,.slice a n lc),(13,.bool b)] w by (repeat' (first | exact out _ _ (by first | omega | (simp;done) | (simp;omega)) | exact out _ (by first | omega | (simp;done) | (simp;omega)) | refine ⟨fun _=>?_,fun _=>?_⟩ | refine Qo ?_))
 intro b hb;apply hK;clear hK;refine Vi (fun h=>?_) (fun h=>Ad ?_)
 ·
  rw [if_pos (hb.1 h)] at hres;subst hres;refine VS [2] ?_;exact Ae (Al rfl rfl ⟨rfl,rfl⟩)
 have hg:¬ (n < 2∨258 < n):=fun h2=>by have:=hb.2 h2;simp_all
 rw [if_neg hg] at hres;clear hb h;obtain ⟨p,rfl⟩:=Ek hr (by omega);refine VS [0,3] ?_;refine VS [3,14,15,16] ?_;refine Aq ?_;refine Ay [3,14,15,16] (fun m e w'=>∃ (i:Nat),Is e [(3,.int .i64 (Dc (l.take i):Nat)),(14,.slice (some p) n lc),(15,.int .i64 n),(16,.int .i64 i)]/\Is w' w/\i<=n/\(l.take i).all (fun x=>decide (1<=x) && decide (x<=20))=true/\m=n - i) n ?_ ?_
 ·
  refine Qs ?_;exact ⟨0,rfl,rfl,by omega,by simp,rfl⟩
 rintro m e w' ⟨i,rfl,rfl,hi,hall,rfl⟩;refine VS [3,14,15,16,17] ?_;(repeat refine Aw ?_);refine VD (fun h=>?_) (fun h=>?_)
 ·
  have hcell:=El hr (i:=i) (by omega);have htk:=Lv 0 (l:=l) (i:=i) (by omega);have hks:=Qn2 (l.take i) (l.getD i 0);rw [<- htk] at hks;have hmem:=Ez 0 (l:=l) (i:=i) (by omega);have hkl:=Qvp (l.take i);have hlt:(l.take i).length<=258:=by rw [Xc];omega
  generalize hx:l.getD i 0=x at *;refine Ad ?_;refine VB ?_;refine VQ [3,5,14,15,16] fun K hK=>?_;refine ⟨⟨by omega,by omega⟩,_,hcell,?_⟩;apply hK;clear hK;refine VQ [3,5,14,15,16,25] fun K hK=>?_
  suffices out:∀ b:Bool,(b=true ↔ (x < 1∨20 < x))->K [(3,.int .i64 (Dc (l.take i):Nat)),(5,.int .i64 x),(14,.slice (some p) n lc),(15,.int .i64 n),(16,.int .i64 i),(25,.bool b)] w' by (repeat' (first | exact out _ _ (by first | omega | (simp;done) | (simp;omega)) | exact out _ (by first | omega | (simp;done) | (simp;omega)) | refine ⟨fun _=>?_,fun _=>?_⟩ | refine Qo ?_))
  intro b hb;apply hK;clear hK;refine Vi (fun h=>?_) (fun h=>Ad ?_)
  ·
   have hb1:=hb.1 h
   have:l.all (fun x=>decide (1<=x) && decide (x<=20))=false:=by
    rw [List.all_eq_false];exact ⟨x,hmem,by simp;omega⟩
   rw [this,if_neg (by simp)] at hres;subst hres;refine VS [2] ?_;exact Ae (Al rfl rfl ⟨rfl,rfl⟩)
  have hg2:¬ (x < 1∨20 < x):=fun h2=>by have:=hb.2 h2;simp_all
  clear hb h;have hsh:By IntKind.i64 (20 - (x:Int))=20 - x:=Wa (by omega) (by simp [Gl];omega);have hp2:2 ^ (20 - x)<=2 ^ 20:=Y1 (by omega) (by omega);have hp3:2 ^ (20 - x)<=1048576:=hp2;have hp:(1:Int) * 2 ^ (20 - x)=((2 ^ (20 - x):Nat):Int):=by push_cast;exact Int.one_mul _
  refine VQ [3,14,15,16] fun K hK=>?_;rw [hsh,hp];clear hp hp2 hsh;generalize 2 ^ (20 - x)=pw at *;(repeat first | refine Qo ?_ | refine Qp ?_);rw [show ((Dc (l.take i):Nat):Int)+pw=((Dc (l.take (i+1)):Nat):Int) by rw [hks];omega];apply hK;clear hK;refine An ?_;refine VS [3,14,15,16] ?_;refine Ah ?_;refine Qs ?_;refine ⟨n - (i+1),by omega,i+1,rfl,rfl,by omega,?_,rfl⟩;rw [htk,List.all_append,hall];simp;omega
 obtain rfl:i=n:=by omega
 rw [Yo (by omega)] at hall ⊢;rw [if_pos hall] at hres;refine Ax rfl ?_;refine VS [2] ?_;exact Ae (Al rfl rfl ⟨rfl,by rw [hres]⟩)
theorem QE3 (l:LN):Tj l=true ↔ ¬ (Ru l=0∨1048576 < Ru l):=by
 unfold Ru Tj;by_cases h1:l.length < 2∨258 < l.length
 ·
  rw [if_pos h1];simp;omega
 rw [if_neg h1];cases h2:l.all (fun x=>decide (1<=x) && decide (x<=20)) with
 | false=>simp
 | true =>
  have hpos:0 < Dc l:=by
   cases l with
   | nil=>simp at h1
   | cons x l=>have:=Xw (20 - x);simp only [Dc];omega
  simp;omega
theorem Qbo (l:LN) (a:OA) (lc:Nat) (w:World) (hr:RS w a l.length 1 (Ak l)) :
  Does Ya 216 #[.slice a l.length lc] w fun v w'=>w'=w/\v=.int .i64 (if Tj l=true then 0 else 80):=by
 have hc:=Qn3 l a lc w hr;have hs:=QE3 l;refine En [.slice a l.length lc] 12 Tryz.func216 ?_;generalize Ru l=n at *;refine VS [0] ?_;refine VQ [3] fun K hK=>?_;refine Aa Tryz.call235 ?_;refine Qs ?_;refine Y2 hc ?_;rintro v w2 ⟨rfl,rfl⟩;apply hK;clear hK;refine VQ [11] fun K hK=>?_
 suffices out:∀ b:Bool,(b=true ↔ (n=0∨1048576 < n))->K [(11,.bool b)] w2 by (repeat' (first | exact out _ _ (by first | omega | (simp;done) | (simp;omega)) | exact out _ (by first | omega | (simp;done) | (simp;omega)) | refine ⟨fun _=>?_,fun _=>?_⟩ | refine Qo ?_))
 intro b hb;apply hK;clear hK;refine Vi (fun h=>?_) (fun h=>Ad ?_)
 ·
  have h2:=hb.1 h;refine VS [2] ?_;exact Ae (Al rfl rfl ⟨rfl,by rw [if_neg (fun h3=>hs.1 h3 h2)]⟩)
 have hg:¬ (n=0∨1048576 < n):=fun h2=>by have:=hb.2 h2;simp_all
 refine VS [2] ?_;exact Ae (Al rfl rfl ⟨rfl,by rw [if_pos (hs.2 hg)]⟩)
theorem Qzc {P:Program}{w:World}{a:OA}{n c:Nat}{l:LN}{T E:TypeId} (h:RS w a n 1 (Ak l)) (hu:P.underlying T=some (.slice E)):Src P w (.slice a n c) T 1 n (Ak l):=⟨rfl,h,E,hu⟩
theorem QE4 {w:World}{KV:Value->Prop} (a:OA) (n c n' c':Nat) (xo yo:Operand):A3 Ya .eql 223 xo yo (.slice a n c) (.slice none n' c') w KV=KV (.bool a.isNone):=Q1 Yn a n c n' c' xo yo
attribute [go_sem] QE4
theorem Qrh (l:LN) (hl:0 < l.length) (hs:l.length<=1000000000) (a:OA) (lc:Nat) (w:World) (hr:RS w a l.length 1 (Ak l)) :
  Does Ya 230 #[.slice a l.length lc] w fun v w'=>∃ a' cap,Heap w [] w' [X7 3 1 a' l.length cap (Ak l)]/\v=.slice a' l.length cap:=by
 obtain ⟨p,rfl⟩:=Ek hr (by omega);refine En [.slice (some p) l.length lc] 8 Tryz.func230 ?_;refine VS [0] ?_;refine VS [0,4] ?_;refine Ai rfl rfl (fun h=>by simp at h) (fun h=>Ad ?_);refine VQ [2] fun K hK=>?_;have hS:=Ug w;refine Ei hS (Ak []) (xs:=[]) Yn O8 rfl rfl rfl (by omega) ?_;refine Qs ?_;refine ⟨rfl,by simp [X2],fun g w4 hH2=>?_⟩;(try refine Qs ?_);refine Ce ?_;refine Qs ?_;refine C3 hH2 0 rfl Yn Ib rfl (Qzc (hH2.rs' hr) Yn) (Qd5 _) (fun h=>by omega) fun a' cap' w5 hc' hH4=>?_;refine Qs ?_;apply hK;clear hK;exact Ae (Al rfl rfl ⟨a',cap',by simpa [Ak] using hH4,by simp⟩)
def Cd (l:LN):Nat->LN
 | 0=>[]
 | n+1=>Cd l n++Ks l (n+1)
def Fi (l:LN) (n:Nat):Nat:=(Cd l (n - 1)).length
theorem Qmo (l:LN):∀ (n k:Nat),k < (Cd l n).length->(Cd l n).getD k 0 < l.length/\1<=l.getD ((Cd l n).getD k 0) 0/\k=Fi l (l.getD ((Cd l n).getD k 0) 0)+(Co l (l.getD ((Cd l n).getD k 0) 0) ((Cd l n).getD k 0)).length
 | 0,k,h=>by simp [Cd] at h
 | n+1,k,h=>by
  rw [Cd] at h ⊢;rcases Yp k (Cd l n).length with h1 | h1
  ·
   rw [Qj h1];exact Qmo l n k h1
  have h2:(Cd l n++Ks l (n+1)).getD k 0=(Ks l (n+1)).getD (k - (Cd l n).length) 0:=by
   rw [Yb,Yg h1,Yb]
  rw [h2];have h3:k - (Cd l n).length < (Ks l (n+1)).length:=by rw [Ye] at h;omega
  obtain ⟨a,b,c⟩:=Qtt l (n+1) l.length _ h3;change (Ks l (n+1)).getD (k - (Cd l n).length) 0 < l.length at a;change l.getD ((Ks l (n+1)).getD (k - (Cd l n).length) 0) 0=n+1 at b;change (Co l (n+1) ((Ks l (n+1)).getD (k - (Cd l n).length) 0)).length=_ at c;rw [b,c,Fi,Ux];exact ⟨a,by omega,by omega⟩
theorem Qpn {l:LN}{i:Nat} (hi:i < l.length) (h1:1<=l.getD i 0):∀ n,l.getD i 0<=n->i∈Cd l n
 | 0,h=>by omega
 | n+1,h=>by
  rw [Cd,List.mem_append];rcases Yp n (l.getD i 0) with h2 | h2
  ·
   right;rw [show n+1=l.getD i 0 by omega];exact Qph.2 ⟨hi,rfl⟩
  exact .inl (Qpn hi h1 n h2)
theorem Qvq {l:LN}{n i k:Nat} (h:k < (Cd l n).length) (hk:(Cd l n).getD k 0=i):Dt l i+Fi l (l.getD i 0)=Cs l (l.getD i 0)+k:=by
 have:=(Qmo l n k h).2.2;rw [hk] at this;unfold Dt;omega
theorem Qik (l:LN) (n:Nat):(Cd l n).length<=n * l.length:=by
 induction n with
 | zero=>simp [Cd]
 | succ n ih =>
  have:=Qpg l (n+1) l.length;rw [Cd,Ye,X3];unfold Ks;omega
def Es (sv ov:Value) (F Bg C:LN):LV:=sv::ov::(Ak F++(Ak Bg++Ak C))
section
variable {sv ov:Value}{F Bg C:LN}
theorem Qzd (hF:F.length=22) {n:Nat} (hn:n < 22):(Es sv ov F Bg C)[2+n]? = some (.int .i64 (F.getD n 0:Nat)):=by
 rw [Es,Um,List.getElem?_cons_succ,List.getElem?_cons_succ,Yi (by rw [Bh];omega),Io (by omega)]
theorem Qze (hF:F.length=22) (hB:Bg.length=22) {n:Nat} (hn:n < 22):(Es sv ov F Bg C)[24+n]? = some (.int .i64 (Bg.getD n 0:Nat)):=by
 rw [Es,show 24+n=(22+n+1)+1 by omega,List.getElem?_cons_succ,List.getElem?_cons_succ,Yg (by rw [Bh];omega),Bh,hF,Gi,Yi (by rw [Bh];omega),Io (by omega)]
theorem Qpo (hF:F.length=22) (hB:Bg.length=22) (hC:C.length=22) {n:Nat} (hn:n < 22):(Es sv ov F Bg C)[46+n]? = some (.int .i64 (C.getD n 0:Nat)):=by
 rw [Es,show 46+n=(44+n+1)+1 by omega,List.getElem?_cons_succ,List.getElem?_cons_succ,Yg (by rw [Bh];omega),Bh,hF,Yg (by rw [Bh];omega),Bh,hB,show 44+n - 22 - 22=n by omega,Io (by omega)]
theorem Rh (hF:F.length=22) (hB:Bg.length=22) (hC:C.length=22):(Es sv ov F Bg C).length=68:=by simp [Es,Bh,hF,hB,hC]
theorem QE5 (hF:F.length=22) {n x:Nat} (hn:n < 22):(Es sv ov F Bg C).set (2+n) (.int .i64 (x:Nat))=Es sv ov (F.set n x) Bg C:=by
 rw [Es,Um,Yu,Yu,Gu _ _ (by rw [Bh];omega),Ip];rfl
theorem QE6 (hF:F.length=22) (hB:Bg.length=22) {n x:Nat} (hn:n < 22):(Es sv ov F Bg C).set (24+n) (.int .i64 (x:Nat))=Es sv ov F (Bg.set n x) C:=by
 rw [Es,show 24+n=(22+n+1)+1 by omega,Yu,Yu,Ue _ _ (by rw [Bh];omega),Bh,hF,Gi,Gu _ _ (by rw [Bh];omega),Ip];rfl
theorem QE7 (hF:F.length=22) (hB:Bg.length=22) (hC:C.length=22) {n x:Nat} (hn:n < 22):(Es sv ov F Bg C).set (46+n) (.int .i64 (x:Nat))=Es sv ov F Bg (C.set n x):=by
 rw [Es,show 46+n=(44+n+1)+1 by omega,Yu,Yu,Ue _ _ (by rw [Bh];omega),Bh,hF,Ue _ _ (by rw [Bh];omega),Bh,hB,show 44+n - 22 - 22=n by omega,Ip];rfl
end
theorem Qvr {α:Type} (f:Nat->α) (n:Nat) (d:α) (i:Nat) (h:i < n):((Yl n).map f).getD i d=f i:=by
 rw [Yb,Ho,Gx h];rfl
def Di (f:Nat->Nat) (n:Nat):LN:=(Yl 22).map fun j=>if j < n then f j else 0
theorem Ph (f:Nat->Nat) (n:Nat):(Di f n).length=22:=by simp [Di]
theorem Qpp (f:Nat->Nat) {n j:Nat} (hj:j < 22):(Di f n).getD j 0=if j < n then f j else 0:=Qvr _ _ _ _ hj
theorem Qil (f:Nat->Nat) (n:Nat) (hn:n < 22):(Di f n).set n (f n)=Di f (n+1):=by
 apply X5
 ·
  simp [Di]
 intro j h1 h2;have hj:j < 22:=by simpa [Di] using h2
 rw [List.getElem_set];simp only [Di,Gh,Uw];by_cases e:n=j
 ·
  subst e;rw [if_pos rfl,if_pos (by omega)]
 rw [if_neg e];by_cases h3:j < n
 ·
  rw [if_pos h3,if_pos (by omega)]
 rw [if_neg h3,if_neg (by omega)]
theorem Qlt (l:LN) (hs:l.length<=1000000000) (a:OA) (lc:Nat) (w:World) (hr:RS w a l.length 1 (Ak l)) :
  Does Ya 236 #[.agg #[.slice a l.length lc]] w fun v w'=>Heap w [] w' []/\v=.int .i64 (B6 l:Nat):=by
 have hen:#[Value.agg #[Gs a l.length lc]]=[Value.agg [Gs a l.length lc].toArray].toArray:=rfl;rw [hen];refine Qu 18 Tryz.func236 rfl rfl (of_decide_eq_true rfl) ?_;simp only [Env.ofArgs];generalize hn:l.length=n at *;refine VQ [1] fun K hK=>?_;refine Dl ?_;refine Qs ?_;have hH:=(Ug w).box 323 [.slice a n lc];generalize w.alloc (X9 [Gs a n lc].toArray 323)=w1 at *;generalize w.heap.size=gz at *;apply hK;clear hK;refine VS [1,3] ?_;refine VQ [3,7,8,9] fun K hK=>?_;refine ⟨_,Af (hH.at 0 rfl) rfl,?_⟩;refine Qs ?_;apply hK;clear hK;refine Aq ?_;refine Ay [3,7,8,9] (fun m e w'=>∃ (i:Nat),Is e [(3,.int .i64 (B6 (l.take i):Nat)),(7,.slice a n lc),(8,.int .i64 n),(9,.int .i64 i)]/\Is w' w1/\i<=n/\m=n - i) n ?_ ?_
 ·
  refine Qs ?_;exact ⟨0,rfl,rfl,by omega,rfl⟩
 rintro m e w' ⟨i,rfl,rfl,hi,rfl⟩;refine VS [3,7,8,9,10] ?_;(repeat refine Aw ?_);refine VD (fun h=>?_) (fun h=>?_)
 ·
  obtain ⟨p,rfl⟩:=Ek hr (by omega);have hcell:=El (hH.rs' hr) (i:=i) (by omega);have hs2:=Qax (l:=l) (i:=i) (by omega);refine Ad ?_;refine VB ?_;refine VQ [3,5,7,8,9] fun K hK=>?_;refine ⟨⟨by omega,by omega⟩,_,hcell,?_⟩;apply hK;clear hK;refine VQ [3,7,8,9] fun K hK=>?_;rw [show max ((B6 (l.take i):Nat):Int) ((l.getD i 0:Nat):Int)=((B6 (l.take (i+1)):Nat):Int) by rw [hs2];omega];apply hK;clear hK;refine An ?_;refine VS [3,7,8,9] ?_;refine Ah ?_;refine Qs ?_;exact ⟨n - (i+1),by omega,i+1,rfl,rfl,by omega,rfl⟩
 refine Ax rfl ?_;refine VS [2] ?_;refine Ae (Al rfl rfl ⟨hH.sub (by simp),?_⟩);rw [Yo (by omega)]
def Mr (g:Nat) (sv:Value) (ao:OA) (co no:Nat) (F Bg C:LN):Res:=Xo g 326 (Es sv (.slice ao no co) F Bg C)
def Rv (g:Nat) (sv:Value) (ao:OA) (co:Nat) (l:LN):Res:=Mr g sv ao co (Cd l (B6 l)).length (Di (Cs l) (B6 l+1)) (Di (Fi l) (B6 l+1)) (Di (De l) (B6 l+1))
def Wv (ao:OA) (co:Nat) (l:LN):Res:=X7 3 1 ao (Cd l (B6 l)).length co (Ak (Cd l (B6 l)))
theorem Qpq {l:LN} (h:Fv l):1<=B6 l/\B6 l<=20:=by
 refine ⟨?_,Ra.2 fun x hx=>(h.2.2.1 x hx).2⟩;obtain ⟨h1,_,h3,_⟩:=h;cases l with
 | nil=>simp at h1
 | cons x l=>exact X4 (h3 x (by simp)).1 (Ra.1 (Y0 _) x (by simp))
theorem Qim {f:Nat->Nat} (h:f 0=0):Di f 1=Yc 22 0:=by
 apply X5
 ·
  simp [Di]
 intro j h1 h2;simp only [Di,Gh,Uw,List.getElem_replicate];split
 ·
  rw [show j=0 by omega,h]
 rfl
section
variable {w0 w:World}{B:LN}{G:List Res}{g:Nat}{sv:Value}{ao:OA}{co no:Nat}{F Bg C:LN}{D:World->Prop}
theorem Qn4 (hH:Heap w0 B w G) (i:Nat) {n x:Nat} (hi:G[i]? = some (Mr g sv ao co no F Bg C)) (lF:F.length=22) (lB:Bg.length=22) (lC:C.length=22) (hn:n < 22)
  (h:∀ w',Heap w0 B w' (G.set i (Mr g sv ao co no (F.set n x) Bg C))->D w'):Mj Ya 3 (.pointer (some ⟨g,2+n,none⟩)) (.int .i64 (x:Nat)) w D:=by
 refine Ap hH i (o:=2+n) (vs:=[.int .i64 (x:Nat)]) hi rfl (by kernel_rfl) (by rw [Rh lF lB lC];simp;omega) (by simp [Yz]) fun w' hH2=>h w' ?_;rw [Xk,Dm _ _ _ (by rw [Rh lF lB lC];omega),QE5 lF hn] at hH2;exact hH2
theorem Qn5 (hH:Heap w0 B w G) (i:Nat) {n x:Nat} (hi:G[i]? = some (Mr g sv ao co no F Bg C)) (lF:F.length=22) (lB:Bg.length=22) (lC:C.length=22) (hn:n < 22)
  (h:∀ w',Heap w0 B w' (G.set i (Mr g sv ao co no F (Bg.set n x) C))->D w'):Mj Ya 3 (.pointer (some ⟨g,24+n,none⟩)) (.int .i64 (x:Nat)) w D:=by
 refine Ap hH i (o:=24+n) (vs:=[.int .i64 (x:Nat)]) hi rfl (by kernel_rfl) (by rw [Rh lF lB lC];simp;omega) (by simp [Yz]) fun w' hH2=>h w' ?_;rw [Xk,Dm _ _ _ (by rw [Rh lF lB lC];omega),QE6 lF lB hn] at hH2;exact hH2
theorem Qn6 (hH:Heap w0 B w G) (i:Nat) {n x:Nat} (hi:G[i]? = some (Mr g sv ao co no F Bg C)) (lF:F.length=22) (lB:Bg.length=22) (lC:C.length=22) (hn:n < 22)
  (h:∀ w',Heap w0 B w' (G.set i (Mr g sv ao co no F Bg (C.set n x)))->D w'):Mj Ya 3 (.pointer (some ⟨g,46+n,none⟩)) (.int .i64 (x:Nat)) w D:=by
 refine Ap hH i (o:=46+n) (vs:=[.int .i64 (x:Nat)]) hi rfl (by kernel_rfl) (by rw [Rh lF lB lC];simp;omega) (by simp [Yz]) fun w' hH2=>h w' ?_;rw [Xk,Dm _ _ _ (by rw [Rh lF lB lC];omega),QE7 lF lB lC hn] at hH2;exact hH2
theorem Qn7 (hH:Heap w0 B w G) (i:Nat) {ao':OA}{co' no':Nat} (hi:G[i]? = some (Mr g sv ao co no F Bg C)) (lF:F.length=22) (lB:Bg.length=22) (lC:C.length=22)
  (h:∀ w',Heap w0 B w' (G.set i (Mr g sv ao' co' no' F Bg C))->D w'):Mj Ya 223 (.pointer (some ⟨g,1,none⟩)) (.slice ao' no' co') w D:=by
 refine Ap hH i (o:=1) (vs:=[.slice ao' no' co']) hi rfl (by kernel_rfl) (by rw [Rh lF lB lC];simp) (by simp [Yz]) fun w' hH2=>h w' ?_;exact hH2
end
theorem Qvs (l:LN) (hok:Fv l) (a:OA) (lc:Nat) (w:World) (hr:RS w a l.length 1 (Ak l)) :
  Does Ya 217 #[.slice a l.length lc] w fun v w'=>∃ g ao co,Heap w [] w' [Rv g (.slice a l.length lc) ao co l,Wv ao co l]/\v=.tuple #[.pointer (some ⟨g,0,none⟩),.int .i64 0]:=by
 have hc1:=Qbo l a lc w hr;rw [if_pos (Qii.2 hok)] at hc1;obtain ⟨hL1,hL20⟩:=Qpq hok;have hfl:=fun n hn=>Qih hok (n:=n) hn;have hc0:De l 0=0:=Qkb fun x hx=>(hok.2.2.1 x hx).1;obtain ⟨hl2,hl258,_,_⟩:=hok;have hcl:=Qlt l (by omega) a lc;refine En [.slice a l.length lc] 84 Tryz.func217 ?_;unfold Rv Wv Mr;generalize hLL:B6 l=L at *;generalize hn:l.length=n at *;obtain ⟨p,rfl⟩:=Ek hr (by omega);refine Aj [0] fun K hK=>?_;apply hK;clear hK;refine Aj [0,4] fun K hK=>?_;refine Aa Tryz.call216 ?_;refine Qi ?_;refine Y2 hc1 ?_;rintro v w2 ⟨rfl,rfl⟩;apply hK;clear hK;refine Aj [0,4,13] fun K hK=>?_;apply hK;clear hK;refine Ai rfl rfl (fun h=>by simp at h) (fun h=>Ad ?_);clear h hc1;refine Aj [5] fun K hK=>?_;refine Dl ?_;refine Qi ?_
 suffices hsuf:K [(5,.pointer (some ⟨w2.heap.size,0,none⟩))] (w2.alloc (X9 (Es (.slice (some p) n lc) (.slice none 0 0) (Yc 22 0) (Yc 22 0) (Yc 22 0)).toArray 326)) from hsuf
 have hH:=((Ug w2).box 326 (Es (.slice (some p) n lc) (.slice none 0 0) (Yc 22 0) (Yc 22 0) (Yc 22 0))).nilRow 3 1;generalize w2.alloc (X9 (Es (.slice (some p) n lc) (.slice none 0 0) (Yc 22 0) (Yc 22 0) (Yc 22 0)).toArray 326)=w3 at *;generalize w2.heap.size=g at *;apply hK;clear hK;refine Aj [5,6] fun K hK=>?_;apply hK;clear hK;refine Aj [5,6,7] fun K hK=>?_;apply hK;clear hK;refine Aq ?_;refine Ay [5,6,7] (fun m e w'=>∃ (j:Nat) (ao:OA) (co:Nat),Is e [(5,.pointer (some ⟨g,0,none⟩)),(6,.int .i64 (Cs l j+De l j:Nat)),(7,.int .i64 (j+1:Nat))]/\Heap w2 [] w' [X7 3 1 ao (Cd l j).length co (Ak (Cd l j)),Mr g (.slice (some p) n lc) ao co (Cd l j).length (Di (Cs l) (j+1)) (Di (Fi l) (j+1)) (Di (De l) (j+1))]/\j<=L/\m=L - j) L ?_ ?_
 ·
  refine Qi ?_;refine ⟨0,none,0,?_,?_,by omega,rfl⟩
  ·
   rw [hc0];rfl
  rw [Qim rfl,Qim rfl,Qim hc0];exact hH
 clear hH;rintro m e w4 ⟨j,ao,co,rfl,hH,hj,rfl⟩;have hcz:(Es (.slice (some p) n lc) (.slice ao (Cd l j).length co) (Di (Cs l) (j+1)) (Di (Fi l) (j+1)) (Di (De l) (j+1)))[0]? = some (.slice (some p) n lc):=rfl
 have hsv:Reads w4 ⟨g,0,none⟩ [.slice (some p) n lc]:=by
  intro q u hu;cases q with
  | zero =>
   simp at hu;subst hu;exact Af (hH.at 1 rfl) hcz
  | succ q=>simp at hu
 have hol:=Qik l j;rw [hn] at hol;have hol2:(Cd l j).length<=20 * 258:=X4 hol (Nat.mul_le_mul (by omega) hl258);have hf1:=hfl j (by omega);have hp2:2 ^ j<=2 ^ 20:=Y1 (by omega) (by omega);have hp3:2 ^ j<=1048576:=hp2;refine Aj [5,6,7,25] fun K hK=>?_;refine ⟨_,⟨rfl,hsv⟩,?_⟩;refine Aa Tryz.call236 ?_;refine Qi ?_;refine Y2 (hcl w4 (hH.rs' hr)) ?_;rintro v w5 ⟨hHl,rfl⟩;have hH2:=hH.call0 hHl;simp only [Xl] at hH2;clear hH hHl hsv;refine Qi ?_;apply hK;clear hK;refine VD (fun h=>?_) (fun h=>?_)
 ·
  have hj2:j+1<=L:=by omega
  have hf2:=hfl (j+1) (by omega);have hp4:2 ^ (j+1)<=2 ^ 20:=Y1 (by omega) (by omega);have hp5:2 ^ (j+1)<=1048576:=hp4;have hfs:Cs l (j+1)=(Cs l j+De l j) * 2:=by rw [Cs,Xn]
  have hbs:Fi l (j+1)=(Cd l j).length:=by rw [Fi,Ux]
  have hsF:=Qil (Cs l) (j+1) (by omega);have hsB:=Qil (Fi l) (j+1) (by omega);have hsC:=Qil (De l) (j+1) (by omega);have lF:=Ph (Cs l) (j+1);have lB:=Ph (Fi l) (j+1);have lC:=Ph (De l) (j+1);have lF2:=Ph (Cs l) (j+1+1);have lB2:=Ph (Fi l) (j+1+1);have hcnt:(Co l (j+1) n).length=De l (j+1):=by rw [De,Ks,hn]
  have hoS:Cd l (j+1)=Cd l j++Co l (j+1) n:=by rw [Cd,Ks,hn]
  generalize hFF:Di (Cs l) (j+1)=F at *;generalize hBB:Di (Fi l) (j+1)=Bg at *;generalize hCC:Di (De l) (j+1)=C at *;generalize hO:Cd l j=O at *;refine Ad ?_
  ((repeat refine Aw ?_);refine Aq ?_)
  refine Aj [5,6,7] fun K hK=>?_;rw [show By IntKind.i64 1=1 from rfl,show (((Cs l j+De l j:Nat):Int) * 2 ^ 1)=((Cs l (j+1):Nat):Int) by rw [hfs];push_cast;rfl];(repeat first | refine Qo ?_ | refine ⟨⟨by omega,by omega⟩,?_⟩);apply hK;clear hK;(repeat refine Aw ?_);refine Qw [5,6,7] [(0,0),(1,0),(2,0),(3,0),(4,0),(5,0),(6,0),(7,0),(10,0),(11,0),(14,0),(15,0),(8,1),(9,0),(12,0),(13,2),(16,0),(17,2)] (by kernel_rfl) (by kernel_rfl) (by kernel_rfl) (by simp only [A6,List.map_cons,List.map_nil,beq_self_eq_true,Nat.reduceBEq,List.filterMap_cons,List.filterMap_nil,List.getElem?_cons_succ,List.getElem?_cons_zero,Option.map_some];rfl) fun K hK=>?_;refine Qi ?_;refine ⟨_,Af (hH2.at 1 rfl) (show (Es (.slice (some p) n lc) (.slice ao O.length co) F Bg C)[1]? = some _ from rfl),?_⟩;refine Qi ?_;refine ⟨⟨by omega,by omega⟩,?_⟩;refine Ag ?_;refine Qi ?_;refine Qn4 hH2 1 (n:=j+1) rfl lF lB lC (by omega) fun w6 hH3=>?_;simp only [Yu,Yt,hsF] at hH3;refine ⟨⟨by omega,by omega⟩,?_⟩;refine Ag ?_;refine Qi ?_;rw [<- hbs];refine Qn5 hH3 1 (n:=j+1) rfl lF2 lB lC (by omega) fun w7 hH4=>?_;simp only [Yu,Yt,hsB] at hH4;clear hH2 hH3;apply hK;clear hK;refine Aj [5,6,7,50,51,52] fun K hK=>?_;refine ⟨_,Af (hH4.at 1 rfl) (show (Es (.slice (some p) n lc) (.slice ao (Fi l (j+1)) co) (Di (Cs l) (j+1+1)) (Di (Fi l) (j+1+1)) C)[0]? = some _ from rfl),?_⟩;refine Qi ?_;apply hK;clear hK;refine Aq ?_;refine Ay [5,6,7,50,51,52] (fun m e w'=>∃ (i:Nat) (ao:OA) (co:Nat),Is e [(5,.pointer (some ⟨g,0,none⟩)),(6,.int .i64 (Cs l (j+1)+(Co l (j+1) i).length:Nat)),(7,.int .i64 (j+1:Nat)),(50,.slice (some p) n lc),(51,.int .i64 n),(52,.int .i64 i)]/\Heap w2 [] w' [X7 3 1 ao (O++Co l (j+1) i).length co (Ak (O++Co l (j+1) i)),Mr g (.slice (some p) n lc) ao co (O++Co l (j+1) i).length (Di (Cs l) (j+1+1)) (Di (Fi l) (j+1+1)) (C.set (j+1) (Co l (j+1) i).length)]/\i<=n/\m=n - i) n ?_ ?_
  ·
   refine Qi ?_;have e0:Co l (j+1) 0=[]:=rfl;refine ⟨0,ao,co,rfl,?_,by omega,rfl⟩
   have hcs:C.set (j+1) (Co l (j+1) 0).length=C:=by
    rw [e0,Gn];apply X5
    ·
     simp
    intro q h1 h2;rw [List.getElem_set];split
    ·
     rename_i e;subst e;have:=Qpp (De l) (n:=j+1) (j:=j+1) (by omega);rw [hCC,if_neg (by omega),Yb,Yf h2] at this;exact this.symm
    rfl
   rw [hcs,e0,Yq];exact hH4
  clear hH4;rintro m e w8 ⟨i,ao,co,rfl,hH,hi,rfl⟩;refine Aj [5,6,7,50,51,52,53] fun K hK=>?_;apply hK;clear hK;(repeat refine Aw ?_);refine VD (fun h=>?_) (fun h=>?_)
  ·
   have hcell:=El (hH.rs' hr) (i:=i) (by omega);have hix:=Vo l (j+1) i;have hil:=Qpg l (j+1) i;have hlC:(C.set (j+1) (Co l (j+1) i).length).length=22:=by rw [List.length_set];exact lC
   have hgC:(C.set (j+1) (Co l (j+1) i).length).getD (j+1) 0=(Co l (j+1) i).length:=Pd (by omega);have hset:∀ x,(C.set (j+1) (Co l (j+1) i).length).set (j+1) x=C.set (j+1) x:=fun x=>List.set_set _;generalize hx:l.getD i 0=x at *;generalize hI:Co l (j+1) i=I at *;refine Ad ?_
   ((repeat refine Aw ?_);refine Aq ?_)
   refine Aj [5,6,7,8,9,50,51,52] fun K hK=>?_;refine ⟨⟨by omega,by omega⟩,_,hcell,?_⟩;apply hK;clear hK;refine Aj [5,6,7,8,50,51,52,59] fun K hK=>?_;apply hK;clear hK;refine VD (fun h=>?_) (fun h=>?_)
   ·
    rw [if_pos (by omega)] at hix;refine Aj [5,6,7,50,51,52] fun K hK=>?_;refine ⟨_,Af (hH.at 1 rfl) (show (Es (.slice (some p) n lc) (.slice ao (O++I).length co) (Di (Cs l) (j+1+1)) (Di (Fi l) (j+1+1)) (C.set (j+1) I.length))[1]? = some _ from rfl),?_⟩;refine Oi (xs:=[.tmp 65]) Yn O8 rfl rfl rfl (by omega) ?_;refine Qi ?_;refine ⟨by simp [X2],?_⟩;refine Ce ?_;refine Qi ?_;refine Qza hH 0 (i) rfl Yn Ib (by first | rfl | (simp;done) | omega | (simp;omega)) (fun h=>by (first | omega | (simp;done) | (simp;omega))) fun a' cap' w5 hc' hH5=>?_;(try refine Qi ?_);simp only [Yt] at hH5;rw [Yd,<- hix] at hH5 ⊢;refine Ag ?_;refine Qi ?_;refine Qn7 hH5 1 rfl lF2 lB2 hlC fun w9 hH6=>?_;simp only [Yu,Yt] at hH6;clear hH5;apply hK;clear hK;have hcc:=Qpo (sv:=.slice (some p) n lc) (ov:=.slice a' (O++Co l (j+1) (i+1)).length cap') lF2 lB2 hlC (n:=j+1) (by omega);rw [hgC] at hcc;(repeat refine Aw ?_);refine T6 [5,6,7,50,51,52] 10 (by kernel_rfl) (by kernel_rfl) (by kernel_rfl) rfl fun K hK=>?_;refine Qi ?_;refine ⟨⟨by omega,by omega⟩,_,Af (hH6.at 1 rfl) hcc,?_⟩;refine Qi ?_;refine ⟨I64.mk (by omega) (by omega),⟨by omega,by omega⟩,?_⟩;refine Ag ?_;refine Qi ?_;refine Qn6 hH6 1 (n:=j+1) (x:=I.length+1) rfl lF2 lB2 hlC (by omega) fun w10 hH7=>?_;simp only [Yu,Yt,hset] at hH7;apply hK;clear hK;refine Aj [5,6,7,50,51,52] fun K hK=>?_;(repeat refine Qo ?_);apply hK;clear hK;refine An ?_;refine Aj [5,6,7,50,51,52] fun K hK=>?_;(repeat refine Qo ?_);apply hK;clear hK;refine Ah ?_;refine Qi ?_;have hil2:(Co l (j+1) (i+1)).length=I.length+1:=by rw [hix];simp
    refine ⟨n - (i+1),by omega,i+1,a',cap',?_,?_,by omega,rfl⟩
    ·
     rw [hil2];rfl
    rw [hil2];exact hH7
   rw [if_neg (by omega),Yq] at hix;refine Ad ?_;refine An ?_;refine Aj [5,6,7,50,51,52] fun K hK=>?_;(repeat refine Qo ?_);apply hK;clear hK;refine Ah ?_;refine Qi ?_;exact ⟨n - (i+1),by omega,i+1,ao,co,by rw [hix];rfl,by rw [hix];exact hH,by omega,rfl⟩
  obtain rfl:i=n:=by omega
  rw [hcnt,hsC,<- hoS] at hH;refine Ax rfl ?_;refine An ?_;rw [hcnt];refine Aj [5,6,7] fun K hK=>?_;(repeat refine Qo ?_);apply hK;clear hK;refine Ah ?_;refine Qi ?_;exact ⟨L - (j+1),by omega,j+1,ao,co,rfl,hH,by omega,rfl⟩
 obtain rfl:j=L:=by omega
 refine Ax rfl ?_;refine Aj [2,3] fun K hK=>?_;apply hK;clear hK;exact Ae (Bp rfl rfl rfl ⟨g,ao,co,hH2.perm (List.Perm.swap _ _ _),rfl⟩)
theorem Qtx (d:Nat) (b:Bool):(Yc (d+1) [true,b]).flatten=(Yc d [true,b]).flatten++[true,b]:=by
 rw [List.replicate_succ',Uk];simp
def Nv:Nat->LN->Nat
 | p,[]=>p
 | _,y::l=>Nv y l
theorem Qc4:∀ (l:LN) (p x:Nat),D6 p (l++[x])=D6 p l++(Om (Nv p l) x++[false])
 | [],p,x=>by simp [D6,Nv]
 | y::l,p,x=>by
  rw [Yv,D6,Qc4 l y x,D6,Nv];simp
theorem Qe2:∀ (l:LN) (p x:Nat),Nv p (l++[x])=x
 | [],p,x=>rfl
 | y::l,p,x=>by rw [Yv,Nv,Qe2 l y x]
theorem Qke {lo hi:Nat}:∀ (l:LN) (p:Nat),(lo<=p/\p<=hi)->(∀ x∈l,lo<=x/\x<=hi)->lo<=Nv p l/\Nv p l<=hi
 | [],p,hp,_=>hp
 | y::l,p,hp,h=>Qke l y (h y (by simp)) fun x hx=>h x (by simp [hx])
theorem Qri (p x:Nat):Om p x=(Yc (x - p) [true,false]).flatten++(Yc (p - x) [true,true]).flatten:=by
 unfold Om;split
 ·
  rw [show p - x=0 by omega];simp
 rw [show x - p=0 by omega];simp
theorem Za:∀ (l:LN) (p:Nat),(p<=20)->(∀ x∈l,x<=20)->(D6 p l).length<=41 * l.length
 | [],p,_,_=>by simp [D6]
 | x::l,p,hp,hx=>by
  have h1:=hx x (by simp);have h2:=Za l x h1 fun y hy=>hx y (by simp [hy]);have h3:=Qa2 p x;simp only [D6,Ye,Yk];omega
theorem Qgj (l:LN) (hl:2<=l.length) (hl2:l.length<=258) (hx:∀ x∈l,1<=x/\x<=20) (a:OA) (lc:Nat) (w:World) (hr:RS w a l.length 1 (Ak l)) :
  Does Ya 188 #[.slice a l.length lc] w fun v w'=>Heap w [] w' []/\v=.tuple #[Ll (Dd l),.int .i64 0]:=by
 obtain ⟨p,rfl⟩:=Ek hr (by omega);have hget:∀ i,i < l.length->1<=l.getD i 0/\l.getD i 0<=20:=fun i hi=>hx _ (Ez 0 hi);refine En [.slice (some p) l.length lc] 71 Tryz.func188 ?_;generalize hn:l.length=n at *;refine VQ [0,2] fun K hK=>?_;refine Bo (.agg #[.string ⟨#[]⟩,.int .i64 0]) (by kernel_rfl) ?_;refine Qs ?_;have hH:=(Ug w).box 184 [.string ⟨#[]⟩,.int .i64 0];generalize w.alloc (X9 [Gj ⟨#[]⟩,.int .i64 0].toArray 184)=w1 at *;generalize w.heap.size=gr at *;apply hK;clear hK;refine VQ [0,2,17] fun K hK=>?_
 suffices out:∀ b:Bool,(b=true ↔ False)->K [(0,.slice (some p) n lc),(2,.pointer (some ⟨gr,0,none⟩)),(17,.bool b)] w1 by (repeat' (first | exact out _ _ (by first | omega | (simp;done) | (simp;omega)) | exact out _ (by first | omega | (simp;done) | (simp;omega)) | refine ⟨fun _=>?_,fun _=>?_⟩ | refine Qo ?_))
 intro b hb;apply hK;clear hK;refine Ai rfl rfl (fun h=>(hb.1 h).elim) (fun h=>Ad ?_);clear hb h;refine VS [0,2,19,20,21] ?_;refine Aq ?_;refine Ay [0,2,19,20,21] (fun m e w'=>∃ (i:Nat),Is e [(0,.slice (some p) n lc),(2,.pointer (some ⟨gr,0,none⟩)),(19,.slice (some p) n lc),(20,.int .i64 n),(21,.int .i64 i)]/\Is w' w1/\i<=n/\m=n - i) n ?_ ?_
 ·
  refine Qs ?_;exact ⟨0,rfl,rfl,by omega,rfl⟩
 rintro m e w2 ⟨i,rfl,rfl,hi,rfl⟩;refine VS [0,2,19,20,21,22] ?_;(repeat refine Aw ?_);refine VD (fun h=>?_) (fun h=>?_)
 ·
  have hcell:=El (hH.rs' hr) (i:=i) (by omega);have hg:=hget i (by omega);generalize l.getD i 0=x at *;refine Ad ?_;refine VB ?_;refine VQ [0,2,5,19,20,21] fun K hK=>?_;refine ⟨⟨by omega,by omega⟩,_,hcell,?_⟩;apply hK;clear hK;refine VQ [0,2,19,20,21,30] fun K hK=>?_
  suffices out:∀ b:Bool,(b=true ↔ False)->K [(0,.slice (some p) n lc),(2,.pointer (some ⟨gr,0,none⟩)),(19,.slice (some p) n lc),(20,.int .i64 n),(21,.int .i64 i),(30,.bool b)] w2 by (repeat' (first | exact out _ _ (by first | omega | (simp;done) | (simp;omega)) | exact out _ (by first | omega | (simp;done) | (simp;omega)) | refine ⟨fun _=>?_,fun _=>?_⟩ | refine Qo ?_))
  intro b hb;apply hK;clear hK;refine Ai rfl rfl (fun h=>(hb.1 h).elim) (fun h=>Ad ?_);refine An ?_;refine VS [0,2,19,20,21] ?_;refine Ah ?_;refine Qs ?_;exact ⟨n - (i+1),by omega,i+1,rfl,rfl,by omega,rfl⟩
 obtain rfl:i=n:=by omega
 refine Ax rfl ?_;refine VQ [0,2,6] fun K hK=>?_;refine Aa Tryz.call107 ?_;refine Qs ?_;refine Y2 (Qk w2) ?_;rintro v w5 ⟨gw,hH2,rfl⟩;have hH3:=hH.call0 hH2;clear hH hH2 hi h;apply hK;clear hK;have h0:=hget 0 (by omega);have hc0:=El (hH3.rs' hr) (i:=0) (by omega);have hdS:Dd l=A2 5 (l.getD 0 0)++D6 (l.getD 0 0) l:=rfl;rw [hdS];generalize hx0:l.getD 0 0=x0 at *;refine VQ [0,2,6] fun K hK=>?_;refine ⟨by omega,_,hc0,?_⟩;refine Qs ?_;rw [show ((x0:Int) % 18446744073709551616)=x0 by omega];refine Aa Uo ?_;refine Qs ?_;refine Y2 (Ir gw none 0 [] x0 5 w5 (by omega) (by omega) (by simp) (hH3.focus 0 rfl)) ?_;rintro v w7 ⟨a2,c2,hHw,rfl⟩;rw [Xl] at hHw;have hH4:=hH3.call1 0 rfl hHw;simp only [Yt,Xl] at hH4;clear hH3 hHw hc0;have hc0:=El (hH4.rs' hr) (i:=0) (by omega);rw [hx0] at hc0;apply hK;clear hK;refine VQ [0,2,6,7] fun K hK=>?_;refine ⟨by omega,_,hc0,?_⟩;apply hK;clear hK;refine VS [2,6,7,43,44,45] ?_;refine Aq ?_;refine Ay [2,6,7,43,44,45] (fun m e w'=>∃ (k:Nat) (a:OA) (c:Nat),Is e [(2,.pointer (some ⟨gr,0,none⟩)),(6,.pointer (some ⟨gw,0,none⟩)),(7,.int .i64 (Nv x0 (l.take k):Nat)),(43,.slice (some p) i lc),(44,.int .i64 i),(45,.int .i64 k)]/\Heap w [] w' [wr gw a c (A2 5 x0++D6 x0 (l.take k)),Xo gr 184 [.string ⟨#[]⟩,.int .i64 0]]/\k<=i/\m=i - k) i ?_ ?_
 ·
  refine Qs ?_;exact ⟨0,a2,c2,rfl,by simpa [D6] using hH4,by omega,rfl⟩
 clear hH4 hc0 hdS;rintro m e w8 ⟨k,a3,c3,rfl,hH,hk,rfl⟩;refine VS [2,6,7,43,44,45,46] ?_;(repeat refine Aw ?_);refine VD (fun h=>?_) (fun h=>?_)
 ·
  have hcell:=El (hH.rs' hr) (i:=k) (by omega);have hg:=hget k (by omega);have htk:=Lv 0 (l:=l) (i:=k) (by omega);have hlo:=Qke (l.take k) x0 h0 fun x hx'=>hx x (Uj hx');have hdl:=Za (l.take k) x0 h0.2 fun x hx'=>(hx x (Uj hx')).2;have hdl2:(l.take k).length<=258:=by rw [Xc];omega
  have hsn:=Qc4 (l.take k) x0 (l.getD k 0);have hls:=Qe2 (l.take k) x0 (l.getD k 0);rw [<- htk] at hsn hls;rw [Qri] at hsn;have hbl:=C0 5 x0;generalize l.getD k 0=x at *;generalize Nv x0 (l.take k)=p0 at *;generalize hB:A2 5 x0++D6 x0 (l.take k)=Bt at *;have hBl:Bt.length<=11000:=by rw [<- hB,Ye];omega
  refine Ad ?_;refine VB ?_;refine VQ [2,6,7,9,43,44,45] fun K hK=>?_;refine ⟨⟨by omega,by omega⟩,_,hcell,?_⟩;apply hK;clear hK;refine VB ?_;refine Ay [2,6,7,9,43,44,45] (fun m e w'=>∃ (d:Nat) (a:OA) (c:Nat),Is e [(2,.pointer (some ⟨gr,0,none⟩)),(6,.pointer (some ⟨gw,0,none⟩)),(7,.int .i64 (p0+d:Nat)),(9,.int .i64 x),(43,.slice (some p) i lc),(44,.int .i64 i),(45,.int .i64 k)]/\Heap w [] w' [wr gw a c (Bt++(Yc d [true,false]).flatten),Xo gr 184 [.string ⟨#[]⟩,.int .i64 0]]/\d<=x - p0/\m=x - p0 - d) (x - p0) ?_ ?_
  ·
   refine Qs ?_;exact ⟨0,a3,c3,rfl,by simpa using hH,by omega,rfl⟩
  clear hH hcell;rintro m e w9 ⟨d,a4,c4,rfl,hH,hd,rfl⟩;refine VS [2,6,7,9,43,44,45,51] ?_;refine VD (fun h=>?_) (fun h=>?_)
  ·
   refine Ad ?_;refine VB ?_;refine VQ [2,6,7,9,43,44,45] fun K hK=>?_;refine Aa Uo ?_;refine Qs ?_;refine Y2 (Ir gw a4 c4 _ 2 2 w9 (by omega) (by omega) (by rw [Ye,Vp];omega) (hH.focus 0 rfl)) ?_;rintro v w10 ⟨a5,c5,hHw,rfl⟩;have e2:A2 2 2=[true,false]:=rfl;rw [e2,Yd,<- Qtx] at hHw;have hH2:=hH.call1 0 rfl hHw;simp only [Yt,Xl] at hH2;apply hK;clear hK;refine An ?_;refine VS [2,6,7,9,43,44,45] ?_;refine Ah ?_;refine Qs ?_;exact ⟨x - p0 - (d+1),by omega,d+1,a5,c5,rfl,hH2,by omega,rfl⟩
  obtain rfl:d=x - p0:=by omega
  refine Ax rfl ?_;generalize hB2:Bt++(Yc (x - p0) [true,false]).flatten=Bt2 at *;have hBl2:Bt2.length<=11100:=by rw [<- hB2,Ye,Vp];omega
  refine VB ?_;refine Ay [2,6,7,9,43,44,45] (fun m e w'=>∃ (d:Nat) (a:OA) (c:Nat),Is e [(2,.pointer (some ⟨gr,0,none⟩)),(6,.pointer (some ⟨gw,0,none⟩)),(7,.int .i64 ((p0+(x - p0) - d:Nat):Int)),(9,.int .i64 x),(43,.slice (some p) i lc),(44,.int .i64 i),(45,.int .i64 k)]/\Heap w [] w' [wr gw a c (Bt2++(Yc d [true,true]).flatten),Xo gr 184 [.string ⟨#[]⟩,.int .i64 0]]/\d<=p0 - x/\m=p0 - x - d) (p0 - x) ?_ ?_
  ·
   refine Qs ?_;exact ⟨0,a4,c4,rfl,by simpa using hH,by omega,rfl⟩
  clear hH;rintro m e w10 ⟨d,a5,c5,rfl,hH,hd,rfl⟩;refine VS [2,6,7,9,43,44,45,58] ?_;refine VD (fun h=>?_) (fun h=>?_)
  ·
   refine Ad ?_;refine VB ?_;refine VQ [2,6,7,9,43,44,45] fun K hK=>?_;refine Aa Uo ?_;refine Qs ?_;refine Y2 (Ir gw a5 c5 _ 3 2 w10 (by omega) (by omega) (by rw [Ye,Vp];omega) (hH.focus 0 rfl)) ?_;rintro v w11 ⟨a6,c6,hHw,rfl⟩;have e2:A2 2 3=[true,true]:=rfl;rw [e2,Yd,<- Qtx] at hHw;have hH2:=hH.call1 0 rfl hHw;simp only [Yt,Xl] at hH2;apply hK;clear hK;refine An ?_;refine VS [2,6,7,9,43,44,45] ?_;refine Ah ?_;refine Qs ?_;refine ⟨p0 - x - (d+1),by omega,d+1,a6,c6,?_,hH2,by omega,rfl⟩;rw [show ((p0+(x - p0) - d:Nat):Int) - 1=((p0+(x - p0) - (d+1):Nat):Int) by omega];rfl
  obtain rfl:d=p0 - x:=by omega
  refine Ax rfl ?_;refine VQ [2,6,7,43,44,45] fun K hK=>?_;refine Aa Uo ?_;refine Qs ?_;refine Y2 (Ir gw a5 c5 _ 0 1 w10 (by omega) (by omega) (by rw [Ye,Vp];omega) (hH.focus 0 rfl)) ?_;rintro v w11 ⟨a6,c6,hHw,rfl⟩;have e2:A2 1 0=[false]:=rfl;rw [e2] at hHw;have hH2:=hH.call1 0 rfl hHw;simp only [Yt,Xl] at hH2;apply hK;clear hK;refine An ?_;refine VS [2,6,7,43,44,45] ?_;refine Ah ?_;refine Qs ?_;refine ⟨i - (k+1),by omega,k+1,a6,c6,?_,?_,by omega,rfl⟩
  ·
   rw [hls,show p0+(x - p0) - (p0 - x)=x by omega];rfl
  rw [hsn,<- Yd,hB,<- Yd,<- Yd,hB2];exact hH2
 obtain rfl:k=i:=by omega
 rw [Yo (by omega)] at hH;refine Ax rfl ?_;refine VQ [2,3] fun K hK=>?_;refine Aa Tryz.call111 ?_;refine Qs ?_;refine Y2 (Pg gw a3 c3 _ w8 (hH.at 0 rfl)) ?_;rintro v w9 ⟨rfl,rfl⟩;refine Aa Tryz.call112 ?_;refine Qs ?_;refine Y2 (Oj gw a3 c3 _ w9 (hH.at 0 rfl)) ?_;rintro v w10 ⟨rfl,rfl⟩;refine Qs ?_;generalize A2 5 x0++D6 x0 l=R at *;refine Ag ?_;refine Qs ?_;refine Ap hH 1 (vs:=Az R) rfl rfl (by kernel_rfl) (by simp [Az]) (by simp [Az,Yz]) fun w11 hH2=>?_;have hH2:Heap w [] w11 [wr gw a3 c3 R,Xo gr 184 (Az R)]:=hH2;apply hK;clear hK;refine Ae (Kk rfl rfl rfl (Fm (hH2.at 1 rfl) (by kernel_rfl) (by kernel_rfl) rfl ?_));exact ⟨hH2.sub (by simp),rfl⟩
end Go.Proofs.YtfinjnahapbemaaGreatDoor
