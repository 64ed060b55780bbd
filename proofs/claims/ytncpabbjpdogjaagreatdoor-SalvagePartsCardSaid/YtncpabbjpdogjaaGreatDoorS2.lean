/- A program logic over the model, and what this program's functions do by it: part 2. No conditions: a library of lemmas. -/
import Derived.Test.YtncpabbjpdogjaaGreatDoorS1
import Derived.RangeFuncLeaves
import Derived.RangeFuncNested
import Derived.RangeFuncRecord
import Derived.RecoverIn
import Derived.Shelf.Small.Strs
import Derived.Shelf.Strings.BuilderK
import Derived.Shelf.Strings.Count
import Derived.Shelf.Strings.OnBuilder
import Derived.Shelf.Strings.Repeat
import Derived.Shelf.Strings.Search3
import Derived.Sort.Grow
import Derived.TacticsIn
import Derived.Test.YtncpabbjpdogjaaGreatDoorChecked
open Nat (reduceEqDiff)
set_option linter.unusedSimpArgs false
set_option linter.unusedVariables false
set_option maxRecDepth 100000
open Go.Proofs.Tryz renaming prog->Ya,underlying53->Yd,underlying3->Yf,underlying37->Yg,underlying9->Yi,underlying5->Yl,underlying242->Yp,underlying78->Yu,underlying148->Yw,underlying83->Yx,underlying114->Y0,underlying233->Y1,underlying4->Y5,underlying128->Y7,underlying105->Y8,underlying174->Y9,call77->Xj,underlying103->Xk,underlying120->Xl,underlying154->Xm,underlying196->Xn,underlying235->Xo,zeroValue3->Xq,zeroValue9->Xr,underlying29->Xs,underlying48->Xt,underlying60->Xu,underlying70->Xv,underlying127->X1,underlying140->X2,underlying227->X3,underlying31->X5,sizeOf3->X9,sizeOf9->Ua,isAgg3->Uf,isAgg9->Ug,call76->Ui,zeroValue4->Uk,zeroValue5->Ul,underlying118->Un,underlying130->Uo,underlying165->Up,underlying170->Uq,underlying225->Ur,underlying239->Us,underlying26->Uy,underlying71->Uz,underlying72->U0,call78->U3,sizeOf4->Ga,sizeOf5->Gb,isAgg4->Gr,isAgg5->Gs,underlying243->Gw,underlying161->Gx,underlying172->Gy,underlying182->Gz,underlying192->G3,underlying230->G4,underlying240->G5,underlying252->G6,underlying268->G7,underlying269->G8,underlying281->G9,underlying282->Ha,underlying159->Hf,underlying175->Hg,underlying44->Hj,underlying50->Hk,underlying51->Hl,underlying56->Hm,underlying80->Hn,zeroValue103->Ht,zeroValue105->Hu,zeroValue159->Hv,zeroValue128->Hw,zeroValue175->Hx,call158->Hy
open Go.Value renaming oneCell'->Yb,func->Ub,int->Ud,bool->Ge,cells->Gm,ownBlock->Gt,string->Hs
open List renaming getD_eq_getElem?_getD->Yc,append_assoc->Yh,length_append->Yj,replicate->Ym,getElem?_append_right->Yn,getElem?_append_left->Yo,length_cons->Yq,getElem?_eq_getElem->Yr,append_nil->Yy,take_append_drop->Yz,takeWhile_cons->Y3,takeWhile_prefix->Xa,getElem?_eq_some_iff->Xb,drop_eq_getElem_cons->Xc,mem_cons->Xg,dropWhile_cons->Xi,drop_eq_nil_of_le->Xp,cons_append->Xw,flatten_append->Xz,nil_append->X0,take_add_one->X6,take_of_length_le->X8,length_take->Uc,mem_cons_of_mem->Uh,getElem?_drop->Ut,drop_drop->Ux,length->U1,getElem?_take_of_lt->U5,prefix_iff_eq_take->U8,sublist_cons_self->Gd,foldl_cons->Gf,singleton_append->Gi,length_replicate->Gj,getElem?_eq_none->Gk,length_singleton->Gl,replicate_zero->Gv,set_cons_zero->Hd,pairwise_cons->Hh,mem_cons_self->Hi,flatMap_cons->Hr
open Go.Eng.Res renaming blk->Ye,row->Hp
open Bool renaming and_eq_true->Yk,false_eq_true->Uw,eq_iff_iff->Gh
open Go.Obj renaming cells->Ys
open UInt8 renaming ofNat->Yt,toNat_ofNat'->X4
open Go.Eng.CallK renaming mk->Yv
open Go.Result renaming andThen_ok->Y2
open Nat renaming mul_comm->Y4,mod_eq_of_lt->Y6,testBit_eq_decide_div_mod_eq->Xf,pow_succ->Xy,le_refl->Ue,div_le_self->Uj,le_trans->Um,mod_two_eq_zero_or_one->Uu,lt_of_lt_of_le->Uv,mul_assoc->U4,add_sub_cancel_left->U6,div_eq_of_lt->U7,zero_add->U9,two_pow_pos->Gg,pow_le_pow_right->Gn,pos_of_ne_zero->Hb,and_one_is_mod->Hc,add_comm->Ho,add_mul->Hz,pow_add->H0,mod_lt->H2
open Go.Eng.FnK renaming mk->Xd
open Go.Sem renaming run_bind->Xe,run_pure->Xx
open Go.Eng.Heap renaming start->Xh
open Int renaming toNat_natCast->X7,emod_eq_of_lt->U2,toNat->Gu
open Go.IntKind renaming u64->Gp,bits->Hq,i64->H1
open Go.Eng.I64 renaming mk->Gq
open Option renaming toList_some->He
namespace Go.Eng
open Go
def Fg (L:Option Nat):Fence:={ Fence.wide with round:=L }
theorem Qid {L:Option Nat}{P:Program}{m m':Machine}{e:Ending} (h:Comes P m m' e):ComesIn (Machine.fenced P (Fg L)) P m m' e:=comesIn_wide.2 h
theorem Qaf {L:Option Nat}{n:Nat}{P:Program}{f:FuncId}{args:Array Value}{w:World}{R:Ending->World->Prop} (h:Calls P f args w R):CallsIn (Fg L) n P f args w R :=
 ⟨trivial,fun cs _=>let ⟨e,w',fr,r,s,x⟩:=h cs;⟨e,w',fr,r,Qid s,x⟩⟩
theorem Qie {L:Option Nat}{P:Program}{m m':Machine} (h:Steps P m m'):StepsIn (Machine.fenced P (Fg L)) P m m':=stepsIn_wide.2 h
theorem Qks {L:Option Nat}{n:Nat}{P:Program}{row:String}{args:Array Value}{w:World}{R:Value->World->Prop} (h:Rows P row args w R):RowsIn (Fg L) n P row args w R :=
 fun c cs _=>let ⟨v,w',r,s⟩:=h c cs;⟨v,w',r,Qie s⟩
def Ks (o:Oper):Bool:=match o.op with | .defer _=>false | _=>true
theorem Qkt {o:Oper} (h:Ks o=true):∀ c,o.op≠.defer c:=by
 intro c hc;simp [Ks,hc] at h
def _root_.Go.Act.app (a:Act) (D:List Deferred):Act:={ a with defers:=a.defers++D }
theorem P9 (a:Act) (D:List Deferred) (d:Option Tmp) (v:Value):(a.put d v).app D=(a.app D).put d v:=by cases d <;> rfl
theorem Qyg (a:Act) (D:List Deferred):(a.app D).eval=a.eval:=by funext x;cases x <;> rfl
def Pd (D:List Deferred) (Q:Exit->Act->World->Prop):Exit->Act->World->Prop
 | .normal,a,w=>a.defers=[]/\Q .normal (a.app D) w
 | .panic c,a,w=>Q (.panic c) (a.app D) w
 | _,_,_=>False
theorem QAd {P:Program}{L:Option Nat}{D:List Deferred}{Q:Exit->Act->World->Prop}{o:Oper}{a:Act}{w:World}{next next':Act->World->Prop} (hd:Ks o=true)
  (hn:∀ a w,next a w->next' (a.app D) w) (h:o.wp P a w next (Pd D Q)):o.wpIn (Fg L) 0 P (a.app D) w next' Q:=by
 refine ⟨fun _ _=>trivial,?_⟩;rw [Oper.semAt_eq _ _ _ (Qkt hd),Qyg];unfold Oper.wp at h;generalize (execOp a.eval o).run P w=r at *;have hdep:(Fg L).depth.isSome=true->1<=0:=by simp [Fg,Fence.wide]
 cases r with
 | ok x w' =>
  cases x <;> simp only [Oper.upon,Oper.uponIn] at h ⊢
  case value v=>rw [<- P9];exact hn _ _ h
  case skip=>rw [<- P9];exact hn _ _ h
  case defer d=>have h2:=hn _ _ h;rw [P9] at h2;exact h2
  case enter f args =>
   refine ⟨hdep,Qaf (h.mono fun e w'' he=>?_)⟩;cases e with
   | returned v=>have h2:=hn _ _ he;rw [P9] at h2;exact h2
   | panicked c=>exact he
   | outgrown=>obtain ⟨_,_,he⟩:=he;exact he.elim
  case row row args=>exact ⟨hdep,Qks (h.mono fun v w'' he=>by have h2:=hn _ _ he;rw [P9] at h2;exact h2)⟩
 | halt x w'=>cases x <;> simp only [Oper.upon,Oper.uponIn] at h ⊢ <;> exact h
theorem Qja {P:Program}{L:Option Nat}{D:List Deferred}{Q:Exit->Act->World->Prop}{ops:Array Oper} (hd:ops.toList.all Ks=true):∀ (l:List Nat) (a:Act) (w:World),
  wpOps P ops (Pd D Q) l a w->wpOpsIn (Fg L) 0 P ops Q l (a.app D) w:=by
 intro l
 induction l with
 | nil=>intro a w h;exact h.2
 | cons i rest ih =>
  intro a w h;simp only [wpOps,wpOpsIn] at h ⊢;cases ho:ops[i]? with
  | none=>simp only [ho] at h ⊢;exact ih _ _ h
  | some o =>
   simp only [ho] at h ⊢
   have hdo:Ks o=true:=by
    rw [List.all_eq_true] at hd;exact hd o (by rw [Array.mem_toList_iff];exact Array.mem_of_getElem? ho)
   have ht:(a.app D).tmps=a.tmps:=rfl;rw [ht];split
   ·
    rename_i hw;rw [if_pos hw] at h;rcases h with h | ⟨_,_,_,h⟩
    ·
     exact QAd hdo ih h
    exact h.elim
   rename_i hw;rw [if_neg hw] at h;have h2:=ih _ _ h;rw [P9] at h2;exact ⟨fun _ _=>trivial,h2⟩
theorem Qqu {P:Program}{L:Option Nat}{D:List Deferred}{Q:Exit->Act->World->Prop}{id:Nat}{l:List Oper}{a:Act}{w:World} (hd:l.all Ks=true)
  (h:wpList P l.toArray (Pd D Q) l a w):(Code.region id l.toArray false).wpIn (Fg L) 0 P Q (a.app D) w:=by
 refine wpIn_region (Qja (by simpa using hd) _ a w ?_);rw [List.range_eq_range',<- Array.length_toList,wpOps_eq_wpList l.toArray.toList 0 (by simp)];simpa using h
theorem Qax {P:Program}{L:Option Nat}{D:List Deferred}{Q:Exit->Act->World->Prop}{id:Nat}{ops:Array Oper}{a:Act}{w:World} (hm:P.follows .mixedOrders=true) (hd:ops.toList.all Ks=true)
  (h:wpAny P .any ops (Pd D Q) ops.size (Array.replicate ops.size false) a { w with drawn:=w.drawn+1 }):(Code.region id ops true).wpIn (Fg L) 0 P Q (a.app D) w :=
 wpIn_region_draw fun t=>Qja hd _ a _ (by
  simp only [Region.schedule,hm,Bool.true_or,if_true];exact wpAny_sound ops.size t _ a _ h)
structure Ie where
 P:Program
 N:Nat
 L:Option Nat
 D:List Deferred
 post:Exit->Act->World->Prop
structure FitsG (N:Nat) (D:List Deferred) (e:Env) (a:Act):Prop where
 size:a.tmps.size=N
 defers:a.defers=D
 at_:∀ t v,e.find? t=some v->a.tmps.getD t undef=v
theorem FitsG.bare {N:Nat}{D:List Deferred}{e:Env}{a:Act} (h:FitsG N D e a):Fits N e { a with defers:=[] }:=⟨h.size,rfl,h.at_⟩
theorem FitsG.of {N:Nat}{D:List Deferred}{e:Env}{a:Act} (h:Fits N e a):FitsG N D e (a.app D):=⟨h.size,by simp [Act.app,h.defers],h.at_⟩
theorem FitsG.app {N:Nat}{D:List Deferred}{e:Env}{a:Act} (h:FitsG N D e a):({ a with defers:=[] }:Act).app D=a:=by
 cases a;have:=h.defers;simp only at this;subst this;rfl
theorem FitsG.weaken {N:Nat}{D:List Deferred}{e e':Env}{a:Act} (h:FitsG N D e a) (hs:∀ t v,e'.find? t=some v->e.find? t=some v):FitsG N D e' a :=
 ⟨h.size,h.defers,fun t v ht=>h.at_ t v (hs t v ht)⟩
theorem FitsG.sel {N:Nat}{D:List Deferred}{e:Env}{a:Act} (h:FitsG N D e a) (ks:List Nat):FitsG N D (e.sel ks) a:=h.weaken fun t v ht=>Env.find?_sel ks e t v ht
theorem FitsG.eval {N:Nat}{D:List Deferred}{e:Env}{a:Act}{x:Operand}{K:Value->Prop} (ha:FitsG N D e a) (h:Ak e x K):K (a.eval x):=by
 have h1:=Cx ha.bare h;cases x <;> exact h1
def El (C:Ie):List It->Exit->Act->World->Prop
 | [],ex,a,w=>C.post ex a w
 | .code c::k,ex,a,w=>match ex with
  | .normal=>c.wpIn (Fg C.L) 0 C.P (fun ex a w=>El C k ex a w) a w
  | ex=>El C k ex a w
 | .blk id::k,ex,a,w=>match ex with
  | .exit id'=>if id'=id then El C k .normal a w else El C k (.exit id') a w
  | ex=>El C k ex a w
 | .again I::k,ex,a,w=>match ex with
  | .normal=>∃ e w0 n,w=w0.drewN n/\FitsG C.N C.D e a/\I e w0
  | ex=>El C k ex a w
def VG (C:Ie) (k:List It) (e:Env) (w:World):Prop:=∀ a n,FitsG C.N C.D e a->El C k .normal a (w.drewN n)
section
variable {C:Ie}{k:List It}{e:Env}{w:World}
theorem A5 {x y:Code} (h:VG C (.code x::.code y::k) e w):VG C (.code (.seq x y)::k) e w:=by
 intro a n ha;have h1:=h a n ha;simp only [El] at h1 ⊢;refine wpIn_seq (wpIn_mono h1 fun ex a w hq=>?_);cases ex <;> exact hq
theorem K5 {id:Nat}{c:Code} (h:VG C (.code c::.blk id::k) e w):VG C (.code (.block id c)::k) e w:=by
 intro a n ha;have h1:=h a n ha;simp only [El] at h1 ⊢;refine wpIn_block (wpIn_mono h1 fun ex a w hq=>?_);cases ex <;> exact hq
theorem Mx {id:Nat} (h:VG C k e w):VG C (.blk id::k) e w:=fun a n ha=>h a n ha
theorem Fw (h:VG C k e w):VG C (.code .skip::k) e w:=fun a n ha=>wpIn_skip (h a n ha)
theorem Qol {l:Nat} (h:VG C k e w):VG C (.code (.label l)::k) e w:=fun a n ha=>wpIn_label (h a n ha)
theorem Vf {I:Env->World->Prop} (h:I e w):VG C (.again I::k) e w:=fun _ n ha=>⟨e,w,n,rfl,ha,h⟩
theorem Qm5 {id:Nat}{k k':List It} (hp:Ff id k=some k') {a:Act} (h:El C k' .normal a w):El C k (.exit id) a w:=by
 induction k with
 | nil=>simp [Ff] at hp
 | cons x k ih =>
  cases x with
  | code c=>exact ih (by simpa [Ff] using hp)
  | again I=>exact ih (by simpa [Ff] using hp)
  | blk id' =>
   simp only [El];by_cases hid:id=id'
   ·
    simp only [Ff,hid,if_true] at hp;cases hp;simp only [hid,if_true];exact h
   simp only [Ff,hid,if_false] at hp;simp only [hid,if_false];exact ih hp
theorem Qa {id:Nat}{k':List It} (hp:Ff id k=some k') (h:VG C k' e w):VG C (.code (.exit id)::k) e w :=
 fun a n ha=>wpIn_exit (Qm5 hp (h a n ha))
theorem Qu3 {id:Nat}{k:List It} (hp:Ff id k=none) {a:Act} (h:C.post (.exit id) a w):El C k (.exit id) a w:=by
 induction k with
 | nil=>exact h
 | cons x k ih =>
  cases x with
  | code c=>exact ih (by simpa [Ff] using hp)
  | again I=>exact ih (by simpa [Ff] using hp)
  | blk id' =>
   simp only [El];by_cases hid:id=id'
   ·
    simp only [Ff,hid,if_true] at hp;cases hp
   simp only [Ff,hid,if_false] at hp;simp only [hid,if_false];exact ih hp
theorem Qqv {id:Nat} (hp:Ff id k=none) (h:∀ a n,FitsG C.N C.D e a->C.post (.exit id) a (w.drewN n)):VG C (.code (.exit id)::k) e w :=
 fun a n ha=>wpIn_exit (Qu3 hp (h a n ha))
theorem Qu4 {k:List It}{a:Act} (h:C.post .ret a w):El C k .ret a w:=by
 induction k with
 | nil=>exact h
 | cons x k ih=>cases x <;> exact ih
theorem Qm6 {k:List It}{c:List PanicEntry}{a:Act}:El C k (.panic c) a w ↔ C.post (.panic c) a w:=by
 induction k with
 | nil=>exact Iff.rfl
 | cons x k ih=>cases x <;> exact ih
theorem Nh (h:∀ a n,FitsG C.N C.D e a->C.post .ret a (w.drewN n)):VG C (.code .ret::k) e w:=fun a n ha=>wpIn_ret (Qu4 (h a n ha))
theorem La (h:∀ a n,FitsG C.N C.D e a->C.post .normal a (w.drewN n)):VG C [] e w:=fun a n ha=>h a n ha
theorem Dj {c:Operand}{t:Tmp}{b:Bool}{x y:Code} (hc:c=.tmp t) (hv:e.find? t=some (.bool b))
  (ht:b=true->VG C (.code x::k) e w) (hf:b=false->VG C (.code y::k) e w):VG C (.code (.cond c x y)::k) e w:=by
 intro a n ha;subst hc;exact wpIn_cond_split (t:=b) (ha.at_ t _ hv) (fun h=>ht h a n ha) (fun h=>hf h a n ha)
end
theorem Qif {F:Fence}{n0:Nat}{P:Program}{Q:Exit->Act->World->Prop}{a:Act}{w:World}{c:Code} (I:Nat->Act->World->Prop) (n:Nat) (h₀:I n a w)
  (round:∀ n a w,I n a w->c.wpIn F n0 P (Exit.then (fun a' w'=>∃ m,m < n/\I m a' w') Q) a w):(Code.loop c).wpIn F n0 P Q a w:=by
 intro b k cs hro hb hr
 have key:∀ j a w,I j a w ->
   ∃ e a' w',Q e a' w'/\ArrivesIn (Machine.fenced P F) P (lone (b.atR a (.code c::.inLoop c::k)) cs w) b k cs e a' w':=by
  intro j
  induction j using Nat.strongRecOn with
  | _ j ih =>
   intro a w hI;obtain ⟨e,a₁,w₁,hq,harr⟩:=round j a w hI b (.inLoop c::k) cs hro hb hr;cases e with
   | normal =>
    obtain ⟨m,hlt,hI₁⟩:=hq;obtain ⟨e₂,a₂,w₂,hq₂,harr₂⟩:=ih m hlt a₁ w₁ hI₁;exact ⟨e₂,a₂,w₂,hq₂,.of_steps (StepsIn.trans harr (.one (fenced_calm hb hr rfl) stepR_inLoop)) harr₂⟩
   | exit id=>exact ⟨_,a₁,w₁,hq,.pass (x:=.inLoop c) rfl (fun _ _=>.inl (by simp)) harr⟩
   | goto l=>exact ⟨_,a₁,w₁,hq,.pass (x:=.inLoop c) rfl (fun _ _=>.inl (by simp)) harr⟩
   | ret=>exact ⟨_,a₁,w₁,hq,.pass (x:=.inLoop c) rfl (fun _ _=>.inl (by simp)) harr⟩
   | panic ch=>exact ⟨_,a₁,w₁,hq,.pass (x:=.inLoop c) rfl (fun _ _=>.inl (by simp)) harr⟩
   | outgrown=>exact ⟨_,a₁,w₁,hq,.pass (x:=.inLoop c) rfl (fun _ _=>.inl (by simp)) harr⟩
 obtain ⟨e,a',w',hq,harr⟩:=key _ a w h₀;exact ⟨e,a',w',hq,.of_steps (.one (fenced_calm hb hr rfl) stepR_loop) harr⟩
section
variable {C:Ie}{k:List It}{e:Env}{w:World}
theorem Zo (ks:List Nat) {body:Code} (I:Nat->Env->World->Prop) (n:Nat) (h0:D9 ks e fun e=>I n e w)
  (round:∀ n e w,I n e w->VG C (.code body::.again (fun e' w'=>D9 ks e' fun e'=>∃ m,m < n/\I m e' w')::k) e w):VG C (.code (.loop body)::k) e w:=by
 intro a d ha;refine Qif (fun n a w=>∃ e w0 d,w=w0.drewN d/\FitsG C.N C.D e a/\I n e w0) n ⟨_,w,d,rfl,ha.sel ks,(Ko ks e _).1 h0⟩ ?_;rintro n a w ⟨e,w0,d,rfl,ha,hI⟩;have h1:=round n e w0 hI a d ha;simp only [El] at h1;refine wpIn_mono h1 fun ex a w hq=>?_;cases ex with
 | normal=>obtain ⟨e',w1,d',hw,hf,hI'⟩:=hq;obtain ⟨m,hm,hI'⟩:=(Ko ks e' _).1 hI';exact ⟨m,hm,_,w1,d',hw,hf.sel ks,hI'⟩
 | _=>exact hq
def Wg (C:Ie) (k:List It):Exit->Act->World->Prop:=fun ex a w=>match ex with | .normal=>El C k .normal a w | _=>False
theorem Qdo (ex:Exit) (a:Act) (w:World) (h:Wg C k ex a w):El C k ex a w:=by
 cases ex <;> first | exact h | exact h.elim
theorem Qaz (ks:List Nat) {e:Env}{a:Act}{w:World}{n:Nat} (ha:Fits C.N e a) (hv:Dm ks (VG C k) e w):Pd C.D (Wg C k) .normal a (w.drewN n) :=
 ⟨ha.defers,((Ko ks e _).1 hv) _ n ((FitsG.of ha).sel ks)⟩
theorem C7 (ks:List Nat) {id:Nat}{ops:List Oper} (hN:(ops.all (Co C.N) && ops.all Ks)=true)
  (h:∀ K:Env->World->Prop,(∀ e w,VG C k e w->K e w)->Aq C.P C.N ops ops e w (Dm ks K)):VG C (.code (.region id ops.toArray false)::k) e w:=by
 intro a n ha;simp only [Yk] at hN;rw [<- ha.app];refine wpIn_mono (Qqu (Q:=Wg C k) hN.2 ?_) Qdo;exact R9 (K:=Dm ks (VG C k)) (fun e a w n ha hv=>Qaz ks ha hv) ops e _ w n hN.1 ha.bare (h _ fun _ _ hv=>hv)
theorem Qge (w0:World) (hx:Ext w0 w) (ks:List Nat) (plan:List (Nat×Bool)) {id:Nat}{ops:List Oper}{l:List (Bool×Oper)}
  (hm:C.P.follows .mixedOrders=true) (hB:(Rl ops.toArray plan (Array.replicate ops.toArray.size false) && Region.noSelect ops.toArray && decide (plan.length<=ops.length))=true) (hN:(ops.all (Co C.N) && ops.all Ks)=true) (hl:Bd ops plan=l)
  (h:∀ K:Env->World->Prop,(∀ e w,VG C k e w->K e w)->Ap C.P C.N ops w0 l e w (Dm ks K)):VG C (.code (.region id ops.toArray true)::k) e w:=by
 intro a n ha;simp only [Yk,decide_eq_true_eq] at hB hN;obtain ⟨⟨hB1,hB2⟩,hB3⟩:=hB;rw [<- ha.app];refine wpIn_mono (Qax (Q:=Wg C k) hm (by simpa using hN.2) (wpAny_of_held (S:=fun w'=>Ext w0 w') _ _ _ _ ?_)) Qdo;subst hl;exact Qi2 (K:=Dm ks (VG C k)) hN.1 hB2 (fun c a w d v hq=>hq.elim) (fun e a w n ha hv=>Qaz ks ha hv) plan _ _ e _ w (n+1) (by simpa using hB3) hB1 ha.bare hx (h _ fun _ _ hv=>hv)
theorem Qgf (w0:World) (hx:Ext w0 w) (ks:List Nat) (t:M4) {id:Nat}{ops:List Oper}
  (hm:C.P.follows .mixedOrders=true) (hB:(N1 ops.toArray t ops.toArray.size (Array.replicate ops.toArray.size false) && Region.noSelect ops.toArray)=true) (hN:(ops.all (Co C.N) && ops.all Ks)=true)
  (h:∀ K:Env->World->Prop,(∀ e w,VG C k e w->K e w)->Ti C.P C.N ops w0 t e w (Dm ks K)):VG C (.code (.region id ops.toArray true)::k) e w:=by
 intro a n ha;simp only [Yk] at hB hN;obtain ⟨hB1,hB2⟩:=hB;rw [<- ha.app];refine wpIn_mono (Qax (Q:=Wg C k) hm (by simpa using hN.2) (wpAny_of_held (S:=fun w'=>Ext w0 w') _ _ _ _ ?_)) Qdo;exact Quw (K:=Dm ks (VG C k)) hN.1 hB2 (fun c a w d v hq=>hq.elim) (fun e a w n ha hv=>Qaz ks ha hv) t _ _ e _ w (n+1) hB1 ha.bare hx (h _ fun _ _ hv=>hv)
end
def V8 (F:Value->World->Prop) (Pn:List PanicEntry->World->Prop) (e:Ending) (w':World):Prop :=
 match e with
 | .returned v=>∃ w n,w'=w.drewN n/\F v w
 | .panicked c=>∃ w n,w'=w.drewN n/\Pn c w
 | .outgrown=>False
def DoesP (P:Program) (f:FuncId) (args:Array Value) (w:World) (F:Value->World->Prop) (Pn:List PanicEntry->World->Prop):Prop :=
 ∀ n,Calls P f args (w.drewN n) (V8 F Pn)
def Qv:List PanicEntry->World->Prop:=fun _ _=>False
theorem DoesP.does {P:Program}{f:FuncId}{args:Array Value}{w:World}{F:Value->World->Prop} (h:DoesP P f args w F Qv):Does P f args w F :=
 fun n=>(h n).mono fun e w' he=>by
  cases e with
  | returned v=>obtain ⟨w1,m,rfl,hF⟩:=he;exact ⟨v,w1,m,rfl,rfl,hF⟩
  | panicked c=>obtain ⟨_,_,_,hF⟩:=he;exact hF.elim
  | outgrown=>exact he.elim
theorem DoesP.mono {P:Program}{f:FuncId}{args:Array Value}{w:World}{F G:Value->World->Prop}{Pn Qn:List PanicEntry->World->Prop} (h:DoesP P f args w F Pn) (hg:∀ v w',F v w'->G v w') (hp:∀ c w',Pn c w'->Qn c w'):DoesP P f args w G Qn :=
 fun n=>(h n).mono fun e w' he=>by
  cases e with
  | returned v=>obtain ⟨w1,m,hw,hF⟩:=he;exact ⟨w1,m,hw,hg _ _ hF⟩
  | panicked c=>obtain ⟨w1,m,hw,hF⟩:=he;exact ⟨w1,m,hw,hp _ _ hF⟩
  | outgrown=>exact he.elim
abbrev O5 (P:Program) (fn:Func) (F:Value->World->Prop) (Pn:List PanicEntry->World->Prop):Exit->Act->World->Prop:=bodyPostM Fence.wide 0 P fn (V8 F Pn)
theorem Sb {P:Program}{f:FuncId}{fn:Func}{c:Code}{args:List Value}{w:World}{F:Value->World->Prop}{Pn:List PanicEntry->World->Prop} (N:Nat)
  (hf:P.funcs[f]? = some fn) (hb:fn.body=some c) (hN:fn.ntmps=N) (hle:args.length<=N)
  (h:VG ⟨P,N,none,[],O5 P fn F Pn⟩ [.code c] (Env.ofArgs 0 args) w):DoesP P f args.toArray w F Pn:=by
 intro n;refine callsIn_wide.1 (callsIn_of_wp_marks (F:=Fence.wide) (n:=0) hf hb trivial ?_ rfl);have h1:=h { tmps:=args.toArray++Array.replicate (fn.ntmps - args.toArray.size) undef,defers:=[] } n ⟨by simp [hN];omega,rfl,fun t v ht=>?_⟩
 ·
  exact wpIn_mono (F:=Fence.wide) h1 fun ex a w hq=>hq
 have:=(Env.find?_ofArgs args 0 t v ht).2;rw [Array.getD_eq_getD_getElem?,Array.getElem?_append]
 have hlt:t < args.toArray.size:=by
  have h2:=(Xb.1 this).1;simpa using h2
 simp only [hlt,if_true];simp at this ⊢;simp [this]
theorem Ww {P:Program}{f:FuncId}{fn:Func}{c:Code}{args:List Value}{w:World}{F:Value->World->Prop} (N:Nat)
  (hf:P.funcs[f]? = some fn) (hb:fn.body=some c) (hN:fn.ntmps=N) (hle:args.length<=N)
  (h:VG ⟨P,N,none,[],O5 P fn F Qv⟩ [.code c] (Env.ofArgs 0 args) w):Does P f args.toArray w F:=(Sb N hf hb hN hle h).does
def N6 (r:Nat):Deferred:={ target:=.collected r,args:=#[] }
theorem Zp {P:Program}{fn:Func}{F:Value->World->Prop}{Pn:List PanicEntry->World->Prop}{N:Nat}{e:Env}{w:World}{D:List Deferred} (hx:VX ⟨P,fn,F,N⟩ [] .ret e w) {a:Act}{n:Nat} (ha:FitsG N D e a) :
  LeavesInM Fence.wide 0 P fn a.tmps (V8 F Pn) [] .returning (w.drewN n):=by
 obtain ⟨_,v,hr,v',w1,m,he,hw,hF⟩:=hx _ n ha.bare;cases he;exact ⟨v,hr,w1,m,hw,hF⟩
theorem S8 {P:Program}{fn:Func}{F:Value->World->Prop}{Pn:List PanicEntry->World->Prop}{N:Nat}{e:Env}{w:World} (hx:VX ⟨P,fn,F,N⟩ [] .ret e w) :
  ∀ a n,FitsG N [] e a->O5 P fn F Pn .ret a (w.drewN n):=fun a n ha=>by
 show LeavesInM _ _ _ _ _ _ a.defers _ _
 rw [ha.defers];exact Zp hx ha
theorem QFb {P:Program}{fn:Func}{F:Value->World->Prop}{Pn:List PanicEntry->World->Prop}{N:Nat}{e:Env}{w:World} (hx:VX ⟨P,fn,F,N⟩ [] .ret e w) :
  ∀ a n,FitsG N [] e a->O5 P fn F Pn .normal a (w.drewN n):=S8 hx
theorem QOv {P:Program}{fn:Func}{F:Value->World->Prop}{Pn:List PanicEntry->World->Prop}{N:Nat}{e:Env}{w:World}{r:Nat} (hm:w.heap[r]? = some (.deferred (some []))) (hx:VX ⟨P,fn,F,N⟩ [] .ret e (w.putObj r (.deferred none))) :
  ∀ a n,FitsG N [N6 r] e a->O5 P fn F Pn .ret a (w.drewN n):=fun a n ha=>by
 show LeavesInM _ _ _ _ _ _ a.defers _ _
 rw [ha.defers];exact ⟨by simp,.inl ⟨r,(w.putObj r (.deferred none)).drewN n,rfl,run_takeDeferred (w:=w.drewN n) hm,Zp hx ha⟩⟩
theorem QAe {P:Program}{fn:Func}{F:Value->World->Prop}{Pn:List PanicEntry->World->Prop}{N:Nat}{e:Env}{w:World}{c:List PanicEntry} (hx:Pn c w) :
  ∀ a n,FitsG N [] e a->O5 P fn F Pn (.panic c) a (w.drewN n):=fun a n ha=>by
 show LeavesInM _ _ _ _ _ _ a.defers _ _
 rw [ha.defers];exact ⟨w,n,rfl,hx⟩
def Rr (C:Ie) (o:Oper) (e:Env) (w:World) (R:Value->World->Prop):Prop :=
 ∀ (a:Act) (n:Nat) (next:Act->World->Prop) (Q:Exit->Act->World->Prop),FitsG C.N C.D e a->(∀ (v:Value) (w':World) (m:Nat),R v w'->next (a.put o.dst v) (w'.drewN m)) ->
  (∀ (c:List PanicEntry) (w':World) (m:Nat),C.post (.panic c) a (w'.drewN m)->Q (.panic c) a (w'.drewN m))->o.wpIn (Fg C.L) 0 C.P a (w.drewN n) next Q
def spC (A:Env->World->Prop):Env->World->Prop:=A
theorem QCf {P:Program}{N:Nat}{ops:List Oper}{e:Env}{w:World} (A:Env->World->Prop):Aq P N ops [] e w (spC A)=A e w:=rfl
theorem Qat {F:Fence}{n:Nat}{P:Program}{ops:Array Oper}{Q:Exit->Act->World->Prop} (l2:List Oper):∀ (l1:List Oper) (a:Act) (w:World),
  wpListIn F n P ops (Exit.then (wpListIn F n P ops Q l2) Q) l1 a w->wpListIn F n P ops Q (l1++l2) a w:=by
 intro l1
 induction l1 with
 | nil=>intro a w h;exact h
 | cons o l1 ih =>
  intro a w h;simp only [wpListIn,Xw] at h ⊢;split
  ·
   rename_i hw;rw [if_pos hw] at h;obtain ⟨h1,h2⟩:=h;refine ⟨h1,?_⟩
   revert h2
   generalize (o.semAt F.round a.eval).run P w=r;intro h2;cases r with
   | ok x w' =>
    cases x <;> simp only [Oper.uponIn] at h2 ⊢ <;>
     first
      | exact ih _ _ h2
      | exact ⟨h2.1,CallsIn.mono h2.2 (fun e w'' he=>by cases e <;> first | exact ih _ _ he | exact he | (obtain ⟨a0,w0,he⟩:=he;exact ⟨a0,w0,he⟩))⟩
      | exact ⟨h2.1,RowsIn.mono h2.2 (fun _ _ he=>ih _ _ he)⟩
      | exact ⟨h2.1,RoundIn.mono h2.2 (fun e w'' he=>by cases e <;> first | exact ih _ _ he | exact he | (obtain ⟨a0,w0,he⟩:=he;exact ⟨a0,w0,he⟩))⟩
      | exact h2
   | halt x w'=>cases x <;> simp only [Oper.uponIn] at h2 ⊢ <;> exact h2
  rename_i hw;rw [if_neg hw] at h;exact ⟨h.1,ih _ _ h.2⟩
theorem Qb7 {P:Program}{L:Option Nat}{D:List Deferred}{Q:Exit->Act->World->Prop}{ops:Array Oper}:∀ (l:List Oper) (a:Act) (w:World),l.all Ks=true ->
  wpList P ops (Pd D Q) l a w->wpListIn (Fg L) 0 P ops Q l (a.app D) w:=by
 intro l
 induction l with
 | nil=>intro a w _ h;exact h.2
 | cons o l ih =>
  intro a w hd h;simp only [List.all_cons,Yk] at hd;simp only [wpList,wpListIn] at h ⊢;have ht:(a.app D).tmps=a.tmps:=rfl;rw [ht];split
  ·
   rename_i hw;rw [if_pos hw] at h;rcases h with h | ⟨_,_,_,h⟩
   ·
    exact QAd hd.1 (fun a w=>ih a w hd.2) h
   exact h.elim
  rename_i hw;rw [if_neg hw] at h;have h2:=ih _ _ hd.2 h;rw [P9] at h2;exact ⟨fun _ _=>trivial,h2⟩
theorem Qag {F:Fence}{n:Nat}{P:Program}{ops:Array Oper}{Q Q':Exit->Act->World->Prop} (hq:∀ ex a w,Q ex a w->Q' ex a w):∀ (l:List Oper) (a:Act) (w:World),wpListIn F n P ops Q l a w->wpListIn F n P ops Q' l a w:=by
 intro l
 induction l with
 | nil=>intro a w h;exact hq _ _ _ h
 | cons x l ih =>
  intro a w h;simp only [wpListIn] at h ⊢;split
  ·
   rename_i hw;rw [if_pos hw] at h;obtain ⟨g1,g2⟩:=h;refine ⟨g1,?_⟩
   revert g2
   generalize (x.semAt F.round a.eval).run P w=r;intro g2;cases r with
   | ok y w' =>
    cases y <;> simp only [Oper.uponIn] at g2 ⊢ <;>
     first
      | exact ih _ _ g2
      | exact ⟨g2.1,CallsIn.mono g2.2 (fun e w'' he=>by cases e <;> first | exact ih _ _ he | exact hq _ _ _ he | (obtain ⟨a0,w0,he⟩:=he;exact ⟨a0,w0,hq _ _ _ he⟩))⟩
      | exact ⟨g2.1,RowsIn.mono g2.2 (fun _ _ he=>ih _ _ he)⟩
      | exact ⟨g2.1,RoundIn.mono g2.2 (fun e w'' he=>by cases e <;> first | exact ih _ _ he | exact hq _ _ _ he | (obtain ⟨a0,w0,he⟩:=he;exact ⟨a0,w0,hq _ _ _ he⟩))⟩
      | exact g2
   | halt y w'=>cases y <;> simp only [Oper.uponIn] at g2 ⊢ <;> first | exact hq _ _ _ g2 | exact g2
  rename_i hw;rw [if_neg hw] at h;exact ⟨h.1,ih _ _ h.2⟩
def V0 (C:Ie) (ops:List Oper) (R:List Oper->Env->World->Prop) (l:List Oper) (e:Env) (w:World):Prop :=
 match l with
 | o::l'=>Ng ops o.guard e (fun e=>Rr C o e w fun v w=>R l' (e.put o.dst v) w) (fun e=>R l' (e.put o.dst undef) w)
 | []=>False
def O2 (C:Ie) (ops:List Oper) (K:Env->World->Prop):List Nat->List Oper->Env->World->Prop
 | [],l,e,w=>Aq C.P C.N ops l e w K
 | i::is,l,e,w=>Aq C.P C.N ops (l.take i) e w (spC fun e w=>V0 C ops (O2 C ops K is) (l.drop i) e w)
def V1 (N:Nat):List Nat->List Oper->Bool
 | [],l=>l.all (Co N) && l.all Ks
 | i::is,l=>(l.take i).all (Co N) && (l.take i).all Ks && match l.drop i with
  | o::l'=>Co N o && V1 N is l'
  | []=>false
theorem QG2 {C:Ie}{ops l:List Oper}{K:Env->World->Prop}{e:Env}{w:World}:O2 C ops K [] l e w=Aq C.P C.N ops l e w K:=rfl
theorem Qtg {C:Ie}{ops l:List Oper}{K:Env->World->Prop}{e:Env}{w:World} (i:Nat) (is:List Nat):O2 C ops K (i::is) l e w=Aq C.P C.N ops (l.take i) e w (spC fun e w=>V0 C ops (O2 C ops K is) (l.drop i) e w):=rfl
theorem QK4 {C:Ie}{ops l:List Oper}{R:List Oper->Env->World->Prop}{e:Env}{w:World} (d:Option Tmp) (op:Op) (ty:Nat) (pos:String) (af:Array Edge):V0 C ops R (⟨d,op,ty,pos,af,none⟩::l) e w=Rr C ⟨d,op,ty,pos,af,none⟩ e w fun v w=>R l (e.put d v) w:=rfl
theorem QG3 {C:Ie}{ops l:List Oper}{R:List Oper->Env->World->Prop}{e:Env}{w:World} (d:Option Tmp) (op:Op) (ty:Nat) (pos:String) (af:Array Edge) (j:Nat) (b:Bool):V0 C ops R (⟨d,op,ty,pos,af,some (j,b)⟩::l) e w=B1 ops j b e (fun e=>Rr C ⟨d,op,ty,pos,af,some (j,b)⟩ e w fun v w=>R l (e.put d v) w) (fun e=>R l (e.put d undef) w):=by
 rw [<- Cm];rfl
theorem Qqw {C:Ie}{ops:List Oper}{Q:Exit->Act->World->Prop}{K:Env->World->Prop} (hQ:∀ c a w,C.post (.panic c) a w->Q (.panic c) a w)
  (hK:∀ e a w n,FitsG C.N C.D e a->K e w->Q .normal a (w.drewN n)):∀ (is:List Nat) (l:List Oper) (e:Env) (a:Act) (w:World) (n:Nat),V1 C.N is l=true->FitsG C.N C.D e a ->
   O2 C ops K is l e w->wpListIn (Fg C.L) 0 C.P ops.toArray Q l a (w.drewN n):=by
 intro is
 induction is with
 | nil =>
  intro l e a w n hl ha h;simp only [V1,Yk] at hl
  have hA:=R9 (P:=C.P) (N:=C.N) (ops:=ops) (Q:=Pd C.D fun ex a w=>match ex with | .normal=>Q .normal a w | _=>False) (K:=K)
   (fun e a w n ha hv=>⟨ha.defers,hK e _ w n (FitsG.of ha) hv⟩) l e _ w n hl.1 ha.bare h
  have hB:=Qb7 (L:=C.L) _ _ _ hl.2 hA;rw [ha.app] at hB;refine Qag (fun ex a w hq=>?_) _ _ _ hB;cases ex <;> first | exact hq | exact hq.elim
 | cons i is ih =>
  intro l e a w n hl ha h;simp only [V1,Yk] at hl;obtain ⟨⟨h1,h2⟩,h3⟩:=hl;cases hd:l.drop i with
  | nil=>rw [hd] at h3;cases h3
  | cons o l' =>
   rw [hd] at h3;simp only [Yk] at h3;rw [<- Yz i l,hd];refine Qat _ _ _ _ ?_;rw [Qtg,hd] at h
   have hA:=R9 (P:=C.P) (N:=C.N) (ops:=ops) (Q:=Pd C.D fun ex a w=>match ex with
     | .normal=>∃ e w0 n,w=w0.drewN n/\FitsG C.N C.D e a/\V0 C ops (O2 C ops K is) (o::l') e w0
     | _=>False)
    (fun e a w n ha hv=>⟨ha.defers,e,w,n,rfl,FitsG.of ha,hv⟩) (l.take i) e _ w n h1 ha.bare h
   have hB:=Qb7 (L:=C.L) _ _ _ h2 hA;rw [ha.app] at hB;refine Qag (fun ex a w hq=>?_) _ _ _ hB;cases ex with
   | normal =>
    obtain ⟨e1,w1,m,rfl,hf,hs⟩:=hq
    show wpListIn _ _ _ _ _ (o::l') a _
    simp only [wpListIn]
    have hput:∀ (e2:Env) (v:Value),FitsG C.N C.D e2 a->FitsG C.N C.D (e2.put o.dst v) (a.put o.dst v):=fun e2 v hf2=>by
     have g1:=hf2.bare.put' h3.1 v;have g2:=FitsG.of (D:=C.D) g1;rw [P9,hf2.app] at g2;exact g2
    have hfa:∀ e2,Fits C.N e2 { a with defers:=[] }->FitsG C.N C.D e2 a:=fun e2 g=>⟨g.size,hf.defers,g.at_⟩;have hs':Ng ops o.guard e1 (fun e=>Rr C o e w1 fun v w=>O2 C ops K is l' (e.put o.dst v) w) (fun e=>O2 C ops K is l' (e.put o.dst undef) w1):=hs;rcases Pt hf.bare hs' with ⟨e2,g1,g2,hw⟩ | ⟨e2,g1,g2,hw⟩
    ·
     rw [if_pos hw];exact g2 a m _ _ (hfa e2 g1) (fun v w' m' hv=>ih l' _ _ w' m' h3.2 (hput e2 v (hfa e2 g1)) hv) (fun c w' m' hp=>hQ _ _ _ hp)
    rw [if_neg (by rw [hw];simp)];exact ⟨fun _ _=>trivial,ih l' _ _ w1 m h3.2 (hput e2 undef (hfa e2 g1)) g2⟩
   | _=>exact hq.elim
section
variable {C:Ie}{k:List It}{e:Env}{w:World}
theorem Nw (ks:List Nat) (is:List Nat) {id:Nat}{ops:List Oper} (hN:V1 C.N is ops=true)
  (h:∀ K:Env->World->Prop,(∀ e w,VG C k e w->K e w)->O2 C ops (Dm ks K) is ops e w):VG C (.code (.region id ops.toArray false)::k) e w:=by
 intro a n ha;refine wpIn_region_lit ?_;exact Qqw (Q:=fun ex a w=>El C k ex a w) (K:=Dm ks (VG C k)) (fun c a w hp=>Qm6.2 hp) (fun e a w n ha hv=>((Ko ks e _).1 hv) a n (ha.sel ks)) is ops e a w n hN ha (h _ fun _ _ hv=>hv)
variable {d:Option Tmp}{ty:Nat}{pos:String}{af:Array Edge}{gd:Option (Nat×Bool)}{R:Value->World->Prop}
def CallP (C:Ie) (e:Env) (fv:Value) (vs:List Value) (w:World) (R:Value->World->Prop):Prop :=
 ∃ f first cs,fv=.func (.func f) first cs/\(∀ args w,(callFunc f args).run C.P w=.ok (.enter f args) w)/\∃ F Pn,DoesP C.P f (first.toList++vs++cs.toList).toArray w F Pn/\(∀ v w',F v w'->R v w')/\(∀ c w',Pn c w'->∀ a n,FitsG C.N C.D e a->C.post (.panic c) a (w'.drewN n))
theorem CallP.mk {f:FuncId}{first cs:Array Value}{vs:List Value}{F:Value->World->Prop}{Pn:List PanicEntry->World->Prop} (hf:∀ args w,(callFunc f args).run C.P w=.ok (.enter f args) w)
  (h:DoesP C.P f (first.toList++vs++cs.toList).toArray w F Pn) (hc:∀ v w',F v w'->R v w') (hp:∀ c w',Pn c w'->∀ a n,FitsG C.N C.D e a->C.post (.panic c) a (w'.drewN n)):CallP C e (.func (.func f) first cs) vs w R :=
 ⟨f,first,cs,rfl,hf,F,Pn,h,hc,hp⟩
theorem Sc {x:Operand}{az:Array Operand}{ts:Array TypeId}
  (h:Ak e x fun fv=>B9 e az.toList fun vs=>CallP C e fv vs w R) :
  Rr C ⟨d,.call { callee:=.value x,args:=az,argTypes:=ts },ty,pos,af,gd⟩ e w R:=by
 intro a n next Q ha hK hP;have h0:=Cx ha.bare h;have h1:=Lk ha.bare h0;obtain ⟨f,first,cs,hx,hf,F,Pn,hD,hC,hpn⟩:=h1;have ev:({ a with defers:=[] }:Act).eval=a.eval:=by funext x;cases x <;> rfl
 rw [ev] at hx hD;have hm:(az.map a.eval)=(az.toList.map a.eval).toArray:=Ms az a
 have e1:first++(az.toList.map a.eval).toArray++cs=(first.toList++az.toList.map a.eval++cs.toList).toArray:=by
  apply Array.ext';simp
 have hrun:(execOp a.eval ⟨d,.call { callee:=.value x,args:=az,argTypes:=ts },ty,pos,af,gd⟩).run C.P (w.drewN n)=.ok (.enter f (first.toList++az.toList.map a.eval++cs.toList).toArray) (w.drewN n):=by
  simp only [execOp,resolve,hx,Deferred.ofValue,Xe,Xx,Y2,invoke,hm,e1];simp [hf]
 refine ⟨fun _ _=>trivial,?_⟩;rw [Oper.semAt_eq _ _ _ (fun c hc=>by cases hc),hrun];refine ⟨by simp [Fg,Fence.wide],Qaf ((hD n).mono fun e' w' he=>?_)⟩;cases e' with
 | returned v=>obtain ⟨w1,m,rfl,hF⟩:=he;exact hK v w1 m (hC v w1 hF)
 | panicked c=>obtain ⟨w1,m,rfl,hF⟩:=he;exact hP c w1 m (hpn c w1 hF a m ha)
 | outgrown=>exact he.elim
def YieldK (P:Program) (l:Nat) (vs:List Value) (w:World) (R:Value->World->Prop):Prop :=
 ∀ n,∃ fn tmps assign body,(Instr.yield l vs.toArray).run P (w.drewN n)=.ok (.round l fn tmps assign body) (w.drewN n) /\
  RoundIn Fence.wide 0 P l fn tmps assign body (w.drewN n) fun e w'=>∃ v w1 m,e=.returned v/\w'=w1.drewN m/\R v w1
theorem YieldK.mono {P:Program}{l:Nat}{vs:List Value}{w:World}{R R':Value->World->Prop} (h:YieldK P l vs w R) (hr:∀ v w',R v w'->R' v w'):YieldK P l vs w R':=fun n=>by
 obtain ⟨fn,tmps,az,bd,h1,h2⟩:=h n;exact ⟨fn,tmps,az,bd,h1,h2.mono fun e w' ⟨v,w1,m,he,hw,hR⟩=>⟨v,w1,m,he,hw,hr _ _ hR⟩⟩
theorem Qa0 {x:Operand}{az:Array Operand}{ts:Array TypeId}
  (h:Ak e x fun fv=>B9 e az.toList fun vs=>∃ l,fv=.func (.yield l) #[] #[]/\YieldK C.P l vs w R) :
  Rr C ⟨d,.call { callee:=.value x,args:=az,argTypes:=ts },ty,pos,af,gd⟩ e w R:=by
 intro a n next Q ha hK hP;have h0:=Cx ha.bare h;have h1:=Lk ha.bare h0;obtain ⟨l,hx,hY⟩:=h1;have ev:({ a with defers:=[] }:Act).eval=a.eval:=by funext x;cases x <;> rfl
 rw [ev] at hx hY;obtain ⟨fn,tmps,asg,bd,hy,hR⟩:=hY n;have hm:(az.map a.eval)=(az.toList.map a.eval).toArray:=Ms az a
 have hrun:(execOp a.eval ⟨d,.call { callee:=.value x,args:=az,argTypes:=ts },ty,pos,af,gd⟩).run C.P (w.drewN n)=.ok (.round l fn tmps asg bd) (w.drewN n):=by
  simp only [execOp,resolve,hx,Deferred.ofValue,Xe,Xx,Y2,invoke,hm];simpa using hy
 refine ⟨fun _ _=>trivial,?_⟩;rw [Oper.semAt_eq _ _ _ (fun c hc=>by cases hc),hrun];refine ⟨by simp [Fg,Fence.wide],?_⟩;refine RoundIn.mono (F:=Fg C.L) (show RoundIn (Fg C.L) (0 - 1) C.P l fn tmps asg bd (w.drewN n) _ from hR) fun e' w' he=>?_;obtain ⟨v,w1,m,rfl,rfl,hv⟩:=he;exact hK v w1 m hv
theorem Qa1 {x:Operand} (h:Ak e x fun v=>(∃ t u,v=.iface t u)/\∀ a n,FitsG C.N C.D e a->C.post (.panic [{ v:=v,recovered:=false }]) a (w.drewN n)) :
  Rr C ⟨d,.panic x,ty,pos,af,gd⟩ e w R:=by
 intro a n next Q ha hK hP;obtain ⟨⟨t,u,hx⟩,hp⟩:=Cx ha.bare h;have ev:({ a with defers:=[] }:Act).eval=a.eval:=by funext x;cases x <;> rfl
 rw [ev] at hx hp
 have hrun:(execOp a.eval ⟨d,.panic x,ty,pos,af,gd⟩).run C.P (w.drewN n)=.halt (.panic (a.eval x)) (w.drewN n):=by
  simp only [execOp,hx,Instr.panic];rfl
 refine ⟨fun _ _=>trivial,?_⟩;rw [Oper.semAt_eq _ _ _ (fun c hc=>by cases hc),hrun];exact hP _ w n (hp a n ha)
def Qfb:List It->Bool
 | []=>true
 | .again _::_=>false
 | _::k=>Qfb k
theorem Qlx (D:List Deferred) {k:List It} (hk:Qfb k=true):∀ {ex:Exit}{a:Act}{w:World},El { C with D:=D } k ex a w ↔ El C k ex a w:=by
 induction k with
 | nil=>intro ex a w;exact Iff.rfl
 | cons x k ih =>
  intro ex a w;cases x with
  | again I=>cases hk
  | blk id =>
   have ih:=fun {ex a w}=>@ih hk ex a w;cases ex <;> first | exact ih | skip
   rename_i id';simp only [El];split
   ·
    exact ih
   exact ih
  | code c =>
   have ih:=fun {ex a w}=>@ih hk ex a w;cases ex <;> first | exact ih | skip
   simp only [El];constructor
   ·
    exact fun h=>wpIn_mono h fun ex a w hq=>ih.1 hq
   exact fun h=>wpIn_mono h fun ex a w hq=>ih.2 hq
theorem Qqx {P:Program}{N:Nat}{D:List Deferred}{post:Exit->Act->World->Prop} (ks:List Nat) (i:Nat) {id:Nat}{ops:List Oper}{x:Operand}{az:Array Operand}{ts:Array TypeId} (hk:Qfb k=true)
  (hN:((ops.take i).all (Co N) && (ops.take i).all Ks)=true) (hl:ops.drop i=[⟨none,.defer { callee:=.value x,args:=az,argTypes:=ts },ty,pos,af,none⟩])
  (h:∀ K:Deferred->Env->World->Prop,(∀ d e w,VG ⟨P,N,none,d::D,post⟩ k e w->K d e w) ->
   Aq P N ops (ops.take i) e w (spC fun e w=>Ak e x fun fv=>B9 e az.toList fun vs=>∃ f first cs,fv=.func (.func f) first cs/\D9 ks e fun e=>K { target:=.fn (.func f) cs,args:=first++vs.toArray } e w)):VG ⟨P,N,none,D,post⟩ (.code (.region id ops.toArray false)::k) e w:=by
 intro a n ha;simp only [Yk] at hN;refine wpIn_region_lit ?_
 have key:wpListIn (Fg none) 0 P ops.toArray (fun ex a w=>El ⟨P,N,none,D,post⟩ k ex a w) (ops.take i++[⟨none,.defer { callee:=.value x,args:=az,argTypes:=ts },ty,pos,af,none⟩]) a (w.drewN n):=by
  refine Qat _ _ _ _ ?_
  have hA:=R9 (P:=P) (N:=N) (ops:=ops) (Q:=Pd D fun ex a w=>match ex with
    | .normal=>∃ e w0 n,w=w0.drewN n/\FitsG N D e a/\Ak e x fun fv=>B9 e az.toList fun vs=>∃ f first cs,fv=.func (.func f) first cs/\D9 ks e fun e=>VG ⟨P,N,none,{ target:=.fn (.func f) cs,args:=first++vs.toArray }::D,post⟩ k e w0
    | _=>False)
   (fun e a w n ha hv=>⟨ha.defers,e,w,n,rfl,FitsG.of ha,hv⟩) (ops.take i) e _ w n hN.1 ha.bare (h _ fun _ _ _ hv=>hv)
  have hB:=Qb7 (L:=none) _ _ _ hN.2 hA;rw [FitsG.app ha] at hB;refine Qag (fun ex a w hq=>?_) _ _ _ hB;cases ex with
  | normal =>
   obtain ⟨e1,w1,m,rfl,hf,hs⟩:=hq
   show wpListIn _ _ _ _ _ [_] a _
   simp only [wpListIn];rw [if_pos (by simp [Region.wanted])];have h0:=Cx hf.bare hs;have h1:=Lk hf.bare h0;obtain ⟨f,first,cs,hx,hv⟩:=h1;have ev:({ a with defers:=[] }:Act).eval=a.eval:=by funext x;cases x <;> rfl
   rw [ev] at hx hv;have hm:(az.map a.eval)=(az.toList.map a.eval).toArray:=Ms az a;refine ⟨fun _ _=>trivial,?_⟩
   have hrun:(Oper.semAt (Fg none).round a.eval ⟨none,.defer { callee:=.value x,args:=az,argTypes:=ts },ty,pos,af,none⟩).run P (w1.drewN m)=.ok (.defer { target:=.fn (.func f) cs,args:=first++(az.toList.map a.eval).toArray }) (w1.drewN m):=by
    rw [show (Fg none).round=none from rfl,Oper.semAt_none];simp only [execOp,resolve,hx,Deferred.ofValue,Xe,Xx,Y2,hm]
   rw [hrun];refine (Qlx (C:=⟨P,N,none,D,post⟩) _ hk).1 (((Ko ks e1 _).1 hv) _ m (FitsG.sel ?_ ks));exact ⟨hf.size,by simp [Act.put,hf.defers],hf.at_⟩
  | _=>exact hq.elim
 rw [<- hl,Yz] at key;exact key
theorem Qao {P:Program}{N:Nat}{D:List Deferred}{post:Exit->Act->World->Prop}{g:Operand}{ps:Array Tmp}{assign body:Code} (hk:Qfb k=true) {gf:FuncId}{first cs:Array Value}
  (hg:Ak e g fun v=>v=Ub (.func gf) first cs) (hf:∀ args w,(callFunc gf args).run P w=.ok (.enter gf args) w)
  (h:∀ r:Loop,r.state=.ready->r.pending=none->r.params=ps->r.assign=assign->r.body=body->r.defers=w.heap.size->r.tmps.size=N->(∀ t v,e.find? t=some v->r.tmps.getD t undef=v) ->
   DoesP P gf (first.toList++[Ub (.yield (w.heap.size+1)) #[] #[]]++cs.toList).toArray ((w.alloc (.deferred (some []))).alloc (.loop r))
    (fun _ w2=>∃ st pd,w2.heap[w.heap.size+1]? = some (Obj.loop { r with state:=st,pending:=pd })/\st≠.busy /\
     match pd with
     | none=>VG ⟨P,N,none,N6 w.heap.size::D,post⟩ k e (w2.putObj (w.heap.size+1) (.loop { r with state:=.exhausted,pending:=none }))
     | some c=>VG ⟨P,N,none,N6 w.heap.size::D,post⟩ (.code c::k) e (w2.putObj (w.heap.size+1) (.loop { r with state:=.exhausted,pending:=some c }))) Qv) :
  VG ⟨P,N,none,D,post⟩ (.code (.rangeFunc g ps assign body)::k) e w:=by
 intro a n ha;have hge:=ha.eval hg;have hdep:(Fg none).depth.isSome=true->1<=0:=by simp [Fg,Fence.wide]
 refine wpIn_rangeFunc fun fn _=>?_;have hh:=h { state:=.ready,pending:=none,fn:=fn,tmps:=a.tmps,params:=ps,assign:=assign,body:=body,defers:=w.heap.size } rfl rfl rfl rfl rfl rfl ha.size ha.at_;generalize hr:({ state:=.ready,pending:=none,fn:=fn,tmps:=a.tmps,params:=ps,assign:=assign,body:=body,defers:=w.heap.size }:Loop)=r at hh;have he:=run_enterLoop_outer (P:=P) (w:=w.drewN n) fn a.tmps ps assign body;have hsz:(w.drewN n).heap.size=w.heap.size:=rfl;rw [hsz,hr] at he
 have e1:first++#[Ub (.yield (w.heap.size+1)) #[] #[]]++cs=(first.toList++[Ub (.yield (w.heap.size+1)) #[] #[]]++cs.toList).toArray:=by
  apply Array.ext';simp
 refine ⟨w.heap.size+1,[N6 w.heap.size],_,{ target:=.fn (.func gf) cs,args:=first++#[Ub (.yield (w.heap.size+1)) #[] #[]] },((w.alloc (Obj.deferred (some []))).alloc (Obj.loop r)).drewN n,gf,(first.toList++[Ub (.yield (w.heap.size+1)) #[] #[]]++cs.toList).toArray,_,he,?_,fun _ _=>trivial,?_,hdep,Qaf (((hh n)).mono fun ex w3 hex=>?_)⟩
 ·
  have hc:(rangeCall g (w.heap.size+1)).args.map a.eval=#[Ub (.yield (w.heap.size+1)) #[] #[]]:=by simp [rangeCall,Act.eval]
  simp only [resolve,hge,Deferred.ofValue,Xe,Xx,Y2,hc];rfl
 ·
  simp only [invoke];rw [<- e1];exact hf _ _
 cases ex with
 | outgrown=>exact hex.elim
 | panicked c=>obtain ⟨_,_,_,hx⟩:=hex;exact hx.elim
 | returned v =>
  obtain ⟨w2,m,rfl,st,pd,hl,hst,hv⟩:=hex;have hen:=run_endLoop (P:=P) (w:=w2.drewN m) (l:=w.heap.size+1) (r:={ r with state:=st,pending:=pd }) hl hst;refine ⟨pd,_,hen,?_⟩;have hfit:FitsG N (N6 w.heap.size::D) e { a with defers:=[N6 w.heap.size]++a.defers }:=⟨ha.size,by simp [ha.defers],ha.at_⟩;cases pd with
  | none=>exact (Qlx (C:=⟨P,N,none,D,post⟩) (N6 w.heap.size::D) hk).1 (hv _ m hfit)
  | some c=>exact wpIn_mono (hv _ m hfit) fun ex a _ hq=>(Qlx (C:=⟨P,N,none,D,post⟩) (N6 w.heap.size::D) hk).1 hq
end
def QG4 (P:Program) (l:Nat) (r:Loop) (R:Value->World->Prop):Exit->Act->World->Prop
 | .normal,_,w=>∃ (w0:World) (n:Nat),w=w0.drewN n/\w0.heap[l]? = some (.loop { r with state:=.busy })/\R (.bool true) (w0.putObj l (.loop { r with state:=.ready,pending:=none }))
 | .ret,_,w=>∃ (w0:World) (n:Nat),w=w0.drewN n/\w0.heap[l]? = some (.loop { r with state:=.busy })/\R (.bool false) (w0.putObj l (.loop { r with state:=.done,pending:=some .ret }))
 | .exit id,_,w=>∃ (w0:World) (n:Nat),w=w0.drewN n/\w0.heap[l]? = some (.loop { r with state:=.busy })/\R (.bool false) (w0.putObj l (.loop { r with state:=.done,pending:=some (.exit id) }))
 | _,_,_=>False
theorem Qap {P:Program}{N l:Nat}{r:Loop}{vs:List Value}{w:World}{R:Value->World->Prop}{e:Env} (hl:w.heap[l]? = some (Obj.loop r)) (hst:r.state=.ready) (hsz:r.tmps.size=N) (hps:vs.length=r.params.size)
  (he:∀ t v,e.find? t=some v->((r.params.zip vs.toArray).foldl (fun tmps (t,a)=>tmps.setIfInBounds t a) r.tmps).getD t undef=v)
  (h:VG ⟨P,N,some l,[],fun ex a w=>ex=.normal/\∃ (e0:Env) (w0:World) (n:Nat),w=w0.drewN n/\FitsG N [] e0 a/\w0.heap[l]? = some (.loop r)/\VG ⟨P,N,some l,[],QG4 P l r R⟩ [.code r.body] e0 (w0.putObj l (.loop { r with state:=.busy }))⟩ [.code r.assign] e w) :
  YieldK P l vs w R:=by
 intro n;have hy:=run_yield (P:=P) (w:=w.drewN n) (l:=l) (r:=r) (args:=vs.toArray) hl (by simpa using hps);refine ⟨_,_,_,_,hy,roundIn_of_wpIn trivial ?_⟩
 have hszT:((r.params.zip vs.toArray).foldl (fun tmps (t,a)=>tmps.setIfInBounds t a) r.tmps).size=N:=by
  have key:∀ (l:List (Tmp×Value)) (T:Array Value),(l.foldl (fun tmps (x:Tmp×Value)=>tmps.setIfInBounds x.1 x.2) T).size=T.size:=by
   intro l
   induction l with
   | nil=>intro T;rfl
   | cons x l ih=>intro T;rw [Gf,ih];simp
  rw [<- Array.foldl_toList];rw [<- hsz];exact key _ _
 have h1:=h { tmps:=(r.params.zip vs.toArray).foldl (fun tmps (t,a)=>tmps.setIfInBounds t a) r.tmps,defers:=[] } n ⟨hszT,rfl,he⟩;refine wpIn_mono (F:=Fence.wide.inRound l) h1 fun ex a w' hq=>?_;obtain ⟨rfl,e0,w0,m,rfl,hf,hl0,hb⟩:=hq;refine ⟨_,run_beginRound (P:=P) (w:=w0.drewN m) hl0 hst,?_⟩;refine wpIn_mono (F:=Fence.wide.inRound l) (hb a m hf) fun ex a w' hq=>?_;cases ex with
 | normal =>
  obtain ⟨w1,m1,rfl,hl1,hR⟩:=hq;exact ⟨_,_,run_endRound (P:=P) (w:=w1.drewN m1) none hl1,_,_,m1,rfl,rfl,hR⟩
 | ret =>
  obtain ⟨w1,m1,rfl,hl1,hR⟩:=hq;exact ⟨_,_,run_endRound (P:=P) (w:=w1.drewN m1) (some .ret) hl1,_,_,m1,rfl,rfl,hR⟩
 | exit id =>
  obtain ⟨w1,m1,rfl,hl1,hR⟩:=hq;exact ⟨_,_,run_endRound (P:=P) (w:=w1.drewN m1) (some (.exit id)) hl1,_,_,m1,rfl,rfl,hR⟩
 | goto t=>exact hq.elim
 | panic c=>exact hq.elim
 | outgrown=>exact hq.elim
attribute [go_sem ↓] QCf QG2 Qtg QK4 QG3
theorem Qgg {P:Program}{f:FuncId}{fn:Func}{id:Nat}{t s:Tmp}{ts:Array TypeId}{ty1 ty2:Nat}{p1 p2:String}{a1 a2:Array Edge}{rest:Code}{N:Nat}{args:List Value}{u u':FrameMode}{v:Value}{w:World}{R:World->Prop}
  (hf:P.funcs[f]? = some fn) (hb:fn.body=some (.seq (.region id #[⟨some t,.call { callee:=.builtin .recover,args:=#[],argTypes:=ts },ty1,p1,a1,none⟩,⟨some s,.assign (.tmp t),ty2,p2,a2,none⟩] false) rest)) (hres:fn.results=#[]) (hN:fn.ntmps=N) (hle:args.length<=N) (ht:t < N) (hs:s < N)
  (hu:u=.returning/\u'=.returning/\v=.nilIface∨u=.panicking [{ v:=v,recovered:=false }]/\u'=.panicking [{ v:=v,recovered:=true }])
  (h:VG ⟨P,N,none,[],fun ex a w'=>(ex=.normal∨ex=.ret)/\a.defers=[]/\∃ w1 m,w'=w1.drewN m/\R w1⟩ [.code rest] ((s,v)::(t,v)::Env.ofArgs 0 args) w) :
  ∀ n,CallsDIn Fence.wide 0 P f args.toArray u (w.drewN n) (fun e u2 w'=>(∃ x,e=.returned x)/\u2=u'/\∃ w1 m,w'=w1.drewN m/\R w1):=by
 intro n;refine callsDIn_of_wpSIn hf hb trivial fun c₀ cs hm=>?_;generalize ha0:({ tmps:=args.toArray++Array.replicate (fn.ntmps - args.toArray.size) undef,defers:=[] }:Act)=a0
 have hfit0:Fits N (Env.ofArgs 0 args) a0:=by
  subst ha0;refine ⟨by simp [hN];omega,rfl,fun t v ht=>?_⟩;have:=(Env.find?_ofArgs args 0 t v ht).2;rw [Array.getD_eq_getD_getElem?,Array.getElem?_append]
  have hlt:t < args.toArray.size:=by
   have h2:=(Xb.1 this).1;simpa using h2
  simp only [hlt,if_true];simp at this ⊢;simp [this]
 refine wpSIn_seq (wpSIn_region ?_);have hfit1:Fits N ((t,v)::Env.ofArgs 0 args) (a0.put (some t) v):=hfit0.put (some t) v fun x hx=>by cases hx;exact ht
 have hfit2:Fits N ((s,v)::(t,v)::Env.ofArgs 0 args) ((a0.put (some t) v).put (some s) v):=hfit1.put (some s) v fun x hx=>by cases hx;exact hs
 have hev:(a0.put (some t) v).eval (.tmp t)=v:=hfit1.at_ t v (by simp [Env.find?])
 have hcs:∃ cs',(recoverD (c₀::cs)=some (v,cs')∨recoverD (c₀::cs)=none/\v=.nilIface/\cs'=c₀::cs)/\cs'={ c₀ with mode:=u' }::cs:=by
  rcases hu with ⟨h1,h2,h3⟩ | ⟨h1,h2⟩
  ·
   refine ⟨c₀::cs,.inr ⟨?_,h3,rfl⟩,?_⟩
   ·
    simp only [recoverD,hm,h1]
   have:c₀.mode=u':=by rw [hm,h1,h2]
   cases c₀;simp only at this;subst this;rfl
  refine ⟨{ c₀ with mode:=u' }::cs,.inl ?_,rfl⟩;simp only [recoverD,hm,h1,h2]
 obtain ⟨cs',hrec,hcs'⟩:=hcs
 have hrun2:∀ w,(execOp (a0.put (some t) v).eval ⟨some s,.assign (.tmp t),ty2,p2,a2,none⟩).run P w=.ok (.value v) w:=fun w=>by
  simp only [execOp,hev];rfl
 have hlast:Exit.thenS (rest.wpSIn Fence.wide 0 P (bodyPostS P fn c₀ cs fun e u2 w'=>(∃ x,e=.returned x)/\u2=u'/\∃ w1 m,w'=w1.drewN m/\R w1)) (bodyPostS P fn c₀ cs fun e u2 w'=>(∃ x,e=.returned x)/\u2=u'/\∃ w1 m,w'=w1.drewN m/\R w1) .normal ((a0.put (some t) v).put (some s) v) cs' (w.drewN n):=by
  refine wpSIn_of_wpIn rfl (wpIn_mono (F:=Fence.wide) (h _ n ⟨hfit2.size,hfit2.defers,hfit2.at_⟩) fun ex a w' hq=>?_);obtain ⟨hex,hd,w1,m,rfl,hR⟩:=hq;have hr:=results_none hres a.tmps P (w1.drewN m);rcases hex with rfl | rfl
  ·
   exact ⟨hd,u',hcs',_,hr,⟨_,rfl⟩,rfl,w1,m,rfl,hR⟩
  exact ⟨hd,u',hcs',_,hr,⟨_,rfl⟩,rfl,w1,m,rfl,hR⟩
 have hsz:(#[⟨some t,.call { callee:=.builtin .recover,args:=#[],argTypes:=ts },ty1,p1,a1,none⟩,⟨some s,.assign (.tmp t),ty2,p2,a2,none⟩]:Array Oper).size=2:=rfl;rw [hsz];simp only [show List.range 2=[0,1] from rfl,wpOpsSIn,List.getElem?_toArray,List.getElem?_cons_zero,List.getElem?_cons_succ];refine ⟨fun _ _=>trivial,?_⟩;rw [if_pos (by simp [Region.wanted])]
 have hrun1:(execOp a0.eval ⟨some t,.call { callee:=.builtin .recover,args:=#[],argTypes:=ts },ty1,p1,a1,none⟩).run P (w.drewN n)=.ok .recover (w.drewN n):=by
  simp only [execOp,resolve,invoke,builtin,Xe,Xx,Y2]
 rw [hrun1];simp only [];rcases hrec with hrec | ⟨hrec,hv,rfl⟩
 ·
  rw [hrec];simp only [];refine ⟨fun _ _=>trivial,?_⟩;rw [if_pos (by simp [Region.wanted]),hrun2];exact hlast
 rw [hrec];simp only [];refine ⟨fun _ _=>trivial,?_⟩;rw [<- hv];rw [if_pos (by simp [Region.wanted]),hrun2];exact hlast
theorem Qjb {P:Program}{fn:Func}{F:Value->World->Prop}{Pn:List PanicEntry->World->Prop}{N:Nat}{e:Env}{w:World}{D:List Deferred}{f:FuncId}{cs:Array Value}{args:Array Value}{R:World->Prop}{u:FrameMode}
  (hi:∀ args w,(callFunc f args).run P w=.ok (.enter f args) w) (hu:u≠.run) (hD:D=[{ target:=.fn (.func f) cs,args:=args }])
  (hc:∀ n,CallsDIn Fence.wide 0 P f (args++cs) u (w.drewN n) (fun e u2 w'=>(∃ x,e=.returned x)/\settle u2=.returning/\∃ w1 m,w'=w1.drewN m/\R w1))
  (hx:∀ w1,R w1->VX ⟨P,fn,F,N⟩ [] .ret e w1):∀ a n,FitsG N D e a->LeavesInM Fence.wide 0 P fn a.tmps (V8 F Pn) a.defers u (w.drewN n):=by
 intro a n ha;rw [ha.defers,hD];refine ⟨hu,.inr ⟨by simp [Fence.wide],.func f,cs,f,args++cs,rfl,?_,fun _ _=>trivial,?_⟩⟩
 ·
  simp only [invoke];exact hi _ _
 obtain ⟨_,hc⟩:=hc n;refine ⟨trivial,fun c cs hm hroom=>?_⟩;obtain ⟨e2,u2,w2,fr,hR,h1,h2,h3,h4⟩:=hc c cs hm hroom;refine ⟨e2,u2,w2,fr,?_,h1,h2,h3,h4⟩;obtain ⟨⟨x,rfl⟩,hs,w1,m,rfl,hR⟩:=hR
 show LeavesInM _ _ _ _ _ _ [] (settle u2) _
 rw [hs];exact Zp (hx w1 hR) ha
def Qyh (d:Option TypeDesc):Bool :=
 match d with
 | some (.interface _)=>false
 | some _=>true
 | none=>false
theorem Qm7 {P:Program}{N:Nat}{d:Option Tmp}{ty:Nat}{pos:String}{af:Array Edge}{gd:Option (Nat×Bool)}{e:Env}{w:World}{R:Env->World->(Env->World->Prop)->Prop}{K:Env->World->Prop}{x:Operand}{T T':TypeId}
  (h:Ak e x fun u=>∃ v,u=.iface T' v/\Qyh (P.underlying T')=true/\R (e.put d (.tuple #[v,.bool true])) w K):Cq P N ⟨d,.typeAssert x T T' true,ty,pos,af,gd⟩ e w R K :=
 M8 fun a n ha=>by
  obtain ⟨v,hx,hu,hR⟩:=Cx ha h;refine ⟨_,w,n,?_,hR⟩;simp only [execOp,hx,Instr.typeAssert];cases hd:P.underlying T' with
  | none=>rw [hd] at hu;cases hu
  | some t=>cases t <;> first | (rw [hd] at hu;cases hu;done) | simp [run_underlying hd]
section
variable {P:Program}{w:World}{KV:Value->Prop}
theorem Qm8 {T:TypeId}{ms:Array (String×TypeId)} (hu:P.underlying T=some (.interface ms)) (d:Nat) (t:TypeId) (v:Value) (w:World):(Op.equalIn (d+1) T (.iface t v) .nilIface).run P w=.ok false w:=by
 unfold Op.equalIn;simp [run_underlying hu]
theorem Qu5 {T:TypeId}{ms:Array (String×TypeId)} (hu:P.underlying T=some (.interface ms)) (t:TypeId) (v:Value) (w:World):(Op.equal T (.iface t v) .nilIface).run P w=.ok false w:=Qm8 hu 9999 t v w
theorem Qku {T:TypeId}{ms:Array (String×TypeId)} (hu:P.underlying T=some (.interface ms)) (d:Nat) (w:World):(Op.equalIn (d+1) T .nilIface .nilIface).run P w=.ok true w:=by
 unfold Op.equalIn;simp [run_underlying hu]
theorem Qqy {T:TypeId}{ms:Array (String×TypeId)} (hu:P.underlying T=some (.interface ms)) (w:World):(Op.equal T .nilIface .nilIface).run P w=.ok true w:=Qku hu 9999 w
theorem QK5 {T:TypeId}{ms:Array (String×TypeId)} (hu:P.underlying T=some (.interface ms)) (t:TypeId) (v:Value) (xo yo:Operand):A8 P .neq T xo yo (.iface t v) .nilIface w KV=KV (.bool true):=by
 refine Qg fun w'=>?_;simp only [Xe];rw [Tk ⟨by simp,by simp⟩];simp only [Y2,binOp,Xe,Qu5 hu,Xx];rfl
theorem QG5 {T:TypeId}{ms:Array (String×TypeId)} (hu:P.underlying T=some (.interface ms)) (xo:Operand) (c:Value):A8 P .neq T xo (.const c) .nilIface .nilIface w KV=KV (.bool false):=by
 refine Qg fun w'=>?_
 have hg:(eqGuard .neq T xo (.const c) .nilIface .nilIface).run P w'=.ok () w':=by
  unfold eqGuard;simp
 simp only [Xe];rw [hg];simp only [Y2,binOp,Xe,Qqy hu,Xx];rfl
end
theorem Qs {P Q:Prop} (q:Q) (h:P=Q:=by simp only [go_sem,↓reduceIte,reduceEqDiff];exact rfl):P:=h.mpr q
theorem Qo {A B:Prop} (b:B) (a:A:=by omega):A/\B:=⟨a,b⟩
theorem Qp {A B C:Prop} (c:C) (a:A:=by omega) (b:B:=by omega):(A/\B)/\C:=⟨⟨a,b⟩,c⟩
theorem VQ {P:Program}{fn:Func}{F:Value->World->Prop}{N:Nat}{k k':List It}{e:Env}{w:World} (ks:List Nat) {c:Code}{id:Nat}{ops:List Oper}{Y:(Env->World->Prop)->Prop}
  (h:∀ K:Env->World->Prop,(∀ e w,VC ⟨P,fn,F,N⟩ k' e w->K e w)->Y K)
  (hp:Lh c k=.code (.region id ops.toArray false)::k':=by rfl) (hN:ops.all (Co N)=true:=by rfl)
  (hY:∀ K,Aq P N ops ops e w (Dm ks K)=Y K:=by intro K;simp only [go_sem,↓reduceIte,reduceEqDiff];exact rfl):VC ⟨P,fn,F,N⟩ (.code c::k) e w :=
 VR ks hp hN fun K hK=>(hY K).mpr (h K hK)
theorem VB {C:K3}{k k':List It}{e:Env}{w:World}{c d:Code}{id:Nat} (h:VC C (.code d::.blk id::k') e w) (hp:Lh c k=.code (.block id d)::k':=by rfl):VC C (.code c::k) e w :=
 Rg c k (hp ▸ Ar h)
theorem Vi {C:K3}{k:List It}{e:Env}{w:World}{t:Tmp}{b:Bool}{x y:Code} (ht:b=true->VC C (.code x::k) e w) (hf:b=false->VC C (.code y::k) e w) (hv:e.find? t=some (.bool b):=by rfl):VC C (.code (.cond (.tmp t) x y)::k) e w :=
 Ae rfl hv ht hf
theorem Gc {w0 w:World}{B:List Nat}{G:List Res} (hH:Heap w0 B w G) {ad:Addr}{v:Value}{Q:Value->Prop} (q:Q v)
  (h:Heap w0 B w G->w.cell? ad=some v:=by intro hH;first | exact Aj (hH.at 0 rfl) rfl | exact Cn (hH.at 0 rfl) (bytesV_get (by omega)) | exact Cn (hH.at 0 rfl) (L6 (by omega)) | exact Aj (hH.at 1 rfl) rfl | exact Cn (hH.at 1 rfl) (bytesV_get (by omega)) | exact Cn (hH.at 1 rfl) (L6 (by omega)) | exact Aj (hH.at 2 rfl) rfl | exact Cn (hH.at 2 rfl) (bytesV_get (by omega)) | exact Cn (hH.at 2 rfl) (L6 (by omega)) | exact Aj (hH.at 3 rfl) rfl | exact Cn (hH.at 3 rfl) (bytesV_get (by omega)) | exact Cn (hH.at 3 rfl) (L6 (by omega))) :
  ∃ v,w.cell? ad=some v/\Q v:=⟨v,h hH,q⟩
theorem Qi {P Q:Prop} (q:Q) (h:P=Q:=by simp -implicitDefEqProofs only [go_sem,↓reduceIte,reduceEqDiff];exact rfl):P:=h.mpr q
theorem Am {P:Program}{fn:Func}{F:Value->World->Prop}{N:Nat}{k k':List It}{e:Env}{w:World} (ks:List Nat) {c:Code}{id:Nat}{ops:List Oper}{Y:(Env->World->Prop)->Prop}
  (h:∀ K:Env->World->Prop,(∀ e w,VC ⟨P,fn,F,N⟩ k' e w->K e w)->Y K) (hp:Lh c k=.code (.region id ops.toArray false)::k':=by rfl) (hN:ops.all (Co N)=true:=by rfl)
  (hY:∀ K,Aq P N ops ops e w (Dm ks K)=Y K:=by intro K;simp -implicitDefEqProofs only [go_sem,↓reduceIte,reduceEqDiff];exact rfl):VC ⟨P,fn,F,N⟩ (.code c::k) e w:=VR ks hp hN fun K hK=>(hY K).mpr (h K hK)
theorem VL {P:Program}{fn:Func}{F:Value->World->Prop}{N:Nat}{k k':List It}{e:Env}{w:World} (ks:List Nat) (m:Nat) {c:Code}{id:Nat}{ops:List Oper}{Y:(Env->World->Prop)->Prop}
  (h:∀ K:Env->World->Prop,(∀ e w,VC ⟨P,fn,F,N⟩ k' e w->K e w)->Y K) (hp:Lh c k=.code (.region id ops.toArray true)::k':=by rfl) (hm:P.follows .mixedOrders=true:=by kernel_rfl)
  (hB:Region.lexTailB .any ops.toArray m=true:=by kernel_rfl) (hq:(ops.take m).all (fun o=>Iw P o.op)=true:=by kernel_rfl) (hN:ops.all (Co N)=true:=by rfl)
  (hY:∀ K,Aq P N ops ops e w (Dm ks K)=Y K:=by intro K;simp only [go_sem,↓reduceIte,reduceEqDiff];exact rfl):VC ⟨P,fn,F,N⟩ (.code c::k) e w:=Rg c k (hp ▸ W2 ks m hm hB hq hN fun K hK=>(hY K).mpr (h K hK))
theorem Vq {P:Program}{fn:Func}{F:Value->World->Prop}{N:Nat}{k k':List It}{e:Env}{w:World} (ks:List Nat) {c:Code}{id:Nat}{ops:List Oper}{Y:(Env->Prop)->Prop}
  (h:∀ K:Env->Prop,(∀ e,VC ⟨P,fn,F,N⟩ k' e w->K e)->Y K) (hp:Lh c k=.code (.region id ops.toArray true)::k':=by rfl) (hm:P.follows .mixedOrders=true:=by kernel_rfl)
  (hB:Region.lexB .any ops.toArray=true:=by kernel_rfl) (hN:ops.all (Co N)=true:=by rfl)
  (hY:∀ K,A1 P N ops ops e w (QJv ks K)=Y K:=by intro K;simp only [go_sem,↓reduceIte,reduceEqDiff];exact rfl):VC ⟨P,fn,F,N⟩ (.code c::k) e w:=Rg c k (hp ▸ Qb3 ks hm hB hN fun K hK=>(hY K).mpr (h K hK))
theorem VH {P:Program}{fn:Func}{F:Value->World->Prop}{N:Nat}{k k':List It}{e:Env}{w:World} (w0:World) (hx:Ext w0 w) (ks:List Nat) (plan:List (Nat×Bool)) {c:Code}{id:Nat}{ops:List Oper}{l:List (Bool×Oper)}{Y:(Env->World->Prop)->Prop}
  (h:∀ K:Env->World->Prop,(∀ e w,VC ⟨P,fn,F,N⟩ k' e w->K e w)->Y K) (hp:Lh c k=.code (.region id ops.toArray true)::k':=by rfl) (hm:P.follows .mixedOrders=true:=by kernel_rfl)
  (hB:(Rl ops.toArray plan (Array.replicate ops.toArray.size false) && Region.noSelect ops.toArray && decide (plan.length<=ops.length))=true:=by kernel_rfl) (hN:ops.all (Co N)=true:=by rfl) (hl:Bd ops plan=l:=by simp only [Bd,List.filterMap_cons,List.filterMap_nil,List.getElem?_cons_succ,List.getElem?_cons_zero,Option.map_some];rfl)
  (hY:∀ K,Ap P N ops w0 l e w (Dm ks K)=Y K:=by intro K;simp only [go_sem,↓reduceIte,reduceEqDiff];exact rfl):VC ⟨P,fn,F,N⟩ (.code c::k) e w:=Rg c k (hp ▸ Qb5 w0 hx ks plan hm hB hN hl fun K hK=>(hY K).mpr (h K hK))
theorem Vb {P:Program}{fn:Func}{F:Value->World->Prop}{N:Nat}{k k':List It}{e:Env}{w:World} (ks:List Nat) (plan:List (Nat×Nat)) {c:Code}{id:Nat}{ops:List Oper}{l:List (Bool×Oper)}{Y:(Env->World->Prop)->Prop}
  (h:∀ K:Env->World->Prop,(∀ e w,VC ⟨P,fn,F,N⟩ k' e w->K e w)->Y K) (hp:Lh c k=.code (.region id ops.toArray true)::k':=by rfl) (hm:P.follows .mixedOrders=true:=by kernel_rfl)
  (hB:(S6 ops.toArray plan (Array.replicate ops.toArray.size false) && Region.noSelect ops.toArray && decide (plan.length<=ops.length))=true:=by kernel_rfl) (hN:ops.all (Co N)=true:=by kernel_rfl) (hl:Bd ops (plan.map fun p=>(p.1,p.2 == 0))=l:=by simp only [Bd,List.map_cons,List.map_nil,beq_self_eq_true,Nat.reduceBEq,List.filterMap_cons,List.filterMap_nil,List.getElem?_cons_succ,List.getElem?_cons_zero,Option.map_some];rfl)
  (hY:∀ K,Ap P N ops (bare w) l e w (Dm ks K)=Y K:=by intro K;simp only [go_sem,↓reduceIte,reduceEqDiff];exact rfl):VC ⟨P,fn,F,N⟩ (.code c::k) e w:=Rg c k (hp ▸ Qb6 ks plan hm hB hN hl fun K hK=>(hY K).mpr (h K hK))
theorem V3 {P:Program}{fn:Func}{F:Value->World->Prop}{N:Nat}{k k':List It}{e:Env}{w:World} (w0:World) (hx:Ext w0 w) (ks:List Nat) (t:N5) {c:Code}{id:Nat}{ops:List Oper}
  (h:∀ K:Env->World->Prop,(∀ e w,VC ⟨P,fn,F,N⟩ k' e w->K e w)->Nq P N ops w0 t e w (Dm ks K)) (hp:Lh c k=.code (.region id ops.toArray true)::k':=by rfl) (hm:P.follows .mixedOrders=true:=by kernel_rfl)
  (hB:(Nd ops.toArray t ops.toArray.size (Array.replicate ops.toArray.size false) && Region.noSelect ops.toArray)=true:=by kernel_rfl) (hN:ops.all (Co N)=true:=by rfl):VC ⟨P,fn,F,N⟩ (.code c::k) e w:=Rg c k (hp ▸ Qm4 w0 hx ks t hm hB hN h)
theorem Qth {C:Ie}{e:Env}{w:World}:∀ (c:Code) (k:List It),VG C (Lh c k) e w->VG C (.code c::k) e w:=by
 intro c
 induction c with
 | seq a b iha ihb=>intro k h;exact A5 (iha _ h)
 | _=>intro k h;exact h
theorem GQ {C:Ie}{k k':List It}{e:Env}{w:World} (ks:List Nat) {c:Code}{id:Nat}{ops:List Oper}{Y:(Env->World->Prop)->Prop}
  (h:∀ K:Env->World->Prop,(∀ e w,VG C k' e w->K e w)->Y K) (hp:Lh c k=.code (.region id ops.toArray false)::k':=by rfl) (hN:(ops.all (Co C.N) && ops.all Ks)=true:=by kernel_rfl)
  (hY:∀ K,Aq C.P C.N ops ops e w (Dm ks K)=Y K:=by intro K;simp only [go_sem,↓reduceIte,reduceEqDiff];exact rfl):VG C (.code c::k) e w:=Qth c k (hp ▸ C7 ks hN fun K hK=>(hY K).mpr (h K hK))
theorem En {P:Program}{f:FuncId}{fn:Func}{c:Code}{w:World}{F:Value->World->Prop}{E:Env} (args:List Value) (N:Nat) (hf:P.funcs[f]? = some fn) (h:VC ⟨P,fn,F,N⟩ [.code c] E w)
  (hb:fn.body=some c:=by rfl) (hN:fn.ntmps=N:=by rfl) (hle:args.length<=N:=by exact of_decide_eq_true rfl) (hE:Env.ofArgs 0 args=E:=by simp only [Env.ofArgs];exact rfl):Does P f args.toArray w F :=
 Pv N hf hb hN hle (hE ▸ h)
theorem VD {C:K3}{k:List It}{e:Env}{w:World}{t:Tmp}{p:Prop}{d:Decidable p}{x y:Code} (ht:p->VC C (.code x::k) e w) (hf:¬p->VC C (.code y::k) e w) (hv:e.find? t=some (.bool (decide p)):=by rfl):VC C (.code (.cond (.tmp t) x y)::k) e w :=
 Ae rfl hv (fun h=>ht (of_decide_eq_true h)) fun h=>hf (of_decide_eq_false h)
theorem VS {P:Program}{fn:Func}{F:Value->World->Prop}{N:Nat}{k k':List It}{e e':Env}{w w':World} (ks:List Nat) {c:Code}{id:Nat}{ops:List Oper} (h:VC ⟨P,fn,F,N⟩ k' e' w')
  (hp:Lh c k=.code (.region id ops.toArray false)::k':=by rfl) (hN:ops.all (Co N)=true:=by rfl)
  (hY:∀ K:Env->World->Prop,K e' w'->Aq P N ops ops e w (Dm ks K):=by intro K h;simp only [go_sem,↓reduceIte,reduceEqDiff];(repeat refine Qo ?_);exact h):VC ⟨P,fn,F,N⟩ (.code c::k) e w :=
 VR ks hp hN fun K hK=>hY K (hK _ _ h)
theorem GS {C:Ie}{k k':List It}{e e':Env}{w w':World} (ks:List Nat) {c:Code}{id:Nat}{ops:List Oper} (h:VG C k' e' w')
  (hp:Lh c k=.code (.region id ops.toArray false)::k':=by rfl) (hN:(ops.all (Co C.N) && ops.all Ks)=true:=by kernel_rfl)
  (hY:∀ K:Env->World->Prop,K e' w'->Aq C.P C.N ops ops e w (Dm ks K):=by intro K h;simp only [go_sem,↓reduceIte,reduceEqDiff];(repeat refine Qo ?_);exact h):VG C (.code c::k) e w :=
 Qth c k (hp ▸ C7 ks hN fun K hK=>hY K (hK _ _ h))
end Go.Eng
namespace Go.Proofs.YtncpabbjpdogjaaGreatDoor
open Go Go.Eng
section
variable {w:World}{KV:Value->Prop}
theorem sz2:Ya.szo 2=some 1:=by kernel_rfl
theorem QG6 (k:IntKind) (n:Int):Dl Ya 2 83 (.int k n) w KV=Cy .u64 n KV:=Kb 2 83 _ .u64 k n Tryz.underlying2 Yx
theorem QG7:C4 Ya 2 83=true:=by kernel_rfl
theorem Lj:Ya.szo 3=some 1:=by kernel_rfl
theorem ld3 (a:Addr):Bf Ya 3 (.pointer (some a)) w KV=∃ v,w.cell? a=some v/\KV v:=Qf 3 a .i64 Yf
theorem QK6 (k:IntKind) (n:Int):Dl Ya 3 5 (.int k n) w KV=Cy .u8 n KV:=Kb 3 5 _ .u8 k n Yf Yl
theorem QK7:C4 Ya 3 5=true:=by kernel_rfl
theorem QG8 (k:IntKind) (n:Int):Dl Ya 3 78 (.int k n) w KV=Cy .u32 n KV:=Kb 3 78 _ .u32 k n Yf Yu
theorem QG9:C4 Ya 3 78=true:=by kernel_rfl
theorem QHa (k:IntKind) (n:Int):Dl Ya 3 83 (.int k n) w KV=Cy .u64 n KV:=Kb 3 83 _ .u64 k n Yf Yx
theorem QHb:C4 Ya 3 83=true:=by kernel_rfl
theorem QCg (k:IntKind) (n:Int):Dl Ya 3 128 (.int k n) w KV=Cy .u64 n KV:=Kb 3 128 _ .u64 k n Yf Y7
theorem QCh:C4 Ya 3 128=true:=by kernel_rfl
theorem QCi (k:IntKind) (n:Int):Dl Ya 3 243 (.int k n) w KV=Cy .u64 n KV:=Kb 3 243 _ .u64 k n Yf Gw
theorem QCj:C4 Ya 3 243=true:=by kernel_rfl
theorem sz4:Ya.szo 4=some 1:=by kernel_rfl
theorem ld4 (a:Addr):Bf Ya 4 (.pointer (some a)) w KV=∃ v,w.cell? a=some v/\KV v:=QB0 4 a Y5
theorem QK8 (x y:Operand) (a b:Bool):A8 Ya .eql 4 x y (.bool a) (.bool b) w KV=KV (.bool (decide (a=b))):=QGm 4 x y a b Y5
theorem QK9 (x y:Operand) (a b:Bool):A8 Ya .neq 4 x y (.bool a) (.bool b) w KV=KV (.bool (decide (¬ a=b))):=QGn 4 x y a b Y5
theorem Fj:Ya.szo 5=some 1:=by kernel_rfl
theorem ld5 (a:Addr):Bf Ya 5 (.pointer (some a)) w KV=∃ v,w.cell? a=some v/\KV v:=Qf 5 a .u8 Yl
theorem QLa (k:IntKind) (n:Int):Dl Ya 5 3 (.int k n) w KV=Cy .i64 n KV:=Kb 5 3 _ .i64 k n Yl Yf
theorem QLb:C4 Ya 5 3=true:=by kernel_rfl
theorem QHc (k:IntKind) (n:Int):Dl Ya 5 78 (.int k n) w KV=Cy .u32 n KV:=Kb 5 78 _ .u32 k n Yl Yu
theorem QHd:C4 Ya 5 78=true:=by kernel_rfl
theorem QHe (k:IntKind) (n:Int):Dl Ya 5 83 (.int k n) w KV=Cy .u64 n KV:=Kb 5 83 _ .u64 k n Yl Yx
theorem QHf:C4 Ya 5 83=true:=by kernel_rfl
theorem sz9:Ya.szo 9=some 1:=by kernel_rfl
theorem ln9 (s:ByteArray):Fq Ya 9 (.string s) KV=KV (.int .i64 (Ba s).length):=QGo 9 s Yi
theorem ix9 (s:ByteArray) (k:IntKind) (n:Int):D4 Ya 9 (.string s) (.int k n) KV=((0<=n/\n < (Ba s).length)/\KV (.int .u8 ((Ba s).getD n.toNat 0).toNat)):=QGp 9 s k n Yi
theorem QOw (s:ByteArray):B7 Ya 9 (.string s) none none KV=KV (.string s):=QKy 9 s Yi
theorem QOx (s:ByteArray) (k:IntKind) (l:Int):B7 Ya 9 (.string s) (some (.int k l)) none KV=((0<=l/\l<=(Ba s).length)/\KV (Aa ((Ba s).drop l.toNat))):=QKz 9 s k l Yi
theorem QOy (s:ByteArray) (k:IntKind) (l:Int):B7 Ya 9 (.string s) none (some (.int k l)) KV=((0<=l/\l<=(Ba s).length)/\KV (Aa ((Ba s).take l.toNat))):=QK0 9 s k l Yi
theorem QOz (s:ByteArray) (k k':IntKind) (l m:Int):B7 Ya 9 (.string s) (some (.int k l)) (some (.int k' m)) KV=((0<=l/\l<=m/\m<=(Ba s).length)/\KV (Aa (((Ba s).drop l.toNat).take (m.toNat - l.toNat)))):=QK1 9 s k k' l m Yi
theorem ld9 (a:Addr):Bf Ya 9 (.pointer (some a)) w KV=∃ v,w.cell? a=some v/\KV v:=QGr 9 a Yi
theorem QO0:Ya.szo 20=some 1:=by kernel_rfl
theorem QO1:Ya.szo 23=some 1:=by kernel_rfl
theorem QO2 (a:Addr):Bf Ya 23 (.pointer (some a)) w KV=∃ v,w.cell? a=some v/\KV v:=Qf 23 a .i64 Tryz.underlying23
theorem QO3:Ya.szo 26=some 1:=by kernel_rfl
theorem QO4 (a:Option Addr) (n c:Nat):Fq Ya 26 (.slice a n c) KV=KV (.int .i64 n):=Nj 26 31 a n c Uy
theorem QO5 (a:Addr) (n c:Nat) (k:IntKind) (i:Int):Cu Ya 26 (.slice (some a) n c) (.int k i) KV=((0<=i/\i < n)/\KV (.pointer (some (a.add (i.toNat * 3))))):=Nk 26 31 a n c 3 k i Uy (by kernel_rfl)
theorem QO6 (a:Addr):Bf Ya 26 (.pointer (some a)) w KV=∃ v,w.cell? a=some v/\KV v:=Qr 26 31 a Uy
theorem QO7:Ya.szo 29=some 2:=by kernel_rfl
theorem QO8 (a:Addr):Bf Ya 29 (.pointer (some a)) w KV=∃ cs:List Value,(cs.length=2/\Reads w a cs)/\KV (.agg cs.toArray):=N4 29 2 a _ Xs (by kernel_rfl)
theorem QO9 (s0:ByteArray) (s1:ByteArray):Cs Ya 29 [(0,.string s0),(1,.string s1)] KV=KV (.agg #[.string s0,.string s1]):=Dg (by kernel_rfl)
theorem QPa:Cs Ya 29 [] KV=KV (.agg #[.string ⟨#[]⟩,.string ⟨#[]⟩]):=Dg (by kernel_rfl)
theorem QHg (l:List Value):B3 Ya 29 (.agg l.toArray) 0 KV=Bk l 0 KV:=C1 29 0 l Xs rfl (by kernel_rfl) (by kernel_rfl) (by kernel_rfl)
theorem QHh (a:Addr):By Ya 29 (.pointer (some a)) 0 KV=KV (.pointer (some (a.add 0))):=Ce 29 0 a (m:=0) Xs rfl (by kernel_rfl)
theorem QHi (l:List Value):B3 Ya 29 (.agg l.toArray) 1 KV=Bk l 1 KV:=C1 29 1 l Xs rfl (by kernel_rfl) (by kernel_rfl) (by kernel_rfl)
theorem QHj (a:Addr):By Ya 29 (.pointer (some a)) 1 KV=KV (.pointer (some (a.add 1))):=Ce 29 1 a (m:=0) Xs rfl (by kernel_rfl)
theorem QJw:Ya.szo 31=some 3:=by kernel_rfl
theorem QHk (l:List Value):B3 Ya 31 (.agg l.toArray) 0 KV=Bk l 0 KV:=C1 31 0 l X5 rfl (by kernel_rfl) (by kernel_rfl) (by kernel_rfl)
theorem QHl (a:Addr):By Ya 31 (.pointer (some a)) 0 KV=KV (.pointer (some (a.add 0))):=Ce 31 0 a (m:=0) X5 rfl (by kernel_rfl)
theorem QHm (l:List Value):B3 Ya 31 (.agg l.toArray) 1 KV=KV (.agg ((l.take 3).drop 1).toArray):=Rm 31 1 l 2 X5 rfl (by kernel_rfl) (by kernel_rfl) (by kernel_rfl)
theorem QHn (a:Addr):By Ya 31 (.pointer (some a)) 1 KV=KV (.pointer (some (a.add 1))):=Ce 31 1 a (m:=1) X5 rfl (by kernel_rfl)
theorem QPb:Ya.szo 37=some 1:=by kernel_rfl
theorem QPc (a:Option Addr) (n c:Nat):Fq Ya 37 (.slice a n c) KV=KV (.int .i64 n):=Nj 37 5 a n c Yg
theorem QLc (a:Option Addr) (n c:Nat):B7 Ya 37 (.slice a n c) none none KV=(n<=c/\KV (.slice a n c)):=Qub 37 5 a n c 1 Yg (by kernel_rfl)
theorem QLd (a:Option Addr) (n c:Nat) (k:IntKind) (l:Int):B7 Ya 37 (.slice a n c) (some (.int k l)) none KV=((0<=l/\l<=n/\n<=c)/\KV (.slice (if c=l.toNat then a else a.map (·.add (l.toNat * 1))) (n - l.toNat) (c - l.toNat))):=Quc 37 5 a n c 1 k l Yg (by kernel_rfl)
theorem QLe (a:Option Addr) (n c:Nat) (k:IntKind) (l:Int):B7 Ya 37 (.slice a n c) none (some (.int k l)) KV=((0<=l/\l<=c)/\KV (.slice a l.toNat c)):=Qud 37 5 a n c 1 k l Yg (by kernel_rfl)
theorem QLf (a:Option Addr) (n c:Nat) (k k':IntKind) (l m:Int):B7 Ya 37 (.slice a n c) (some (.int k l)) (some (.int k' m)) KV=((0<=l/\l<=m/\m<=c)/\KV (.slice (if c=l.toNat then a else a.map (·.add (l.toNat * 1))) (m.toNat - l.toNat) (c - l.toNat))):=Que 37 5 a n c 1 k k' l m Yg (by kernel_rfl)
theorem QPd (a:Addr) (n c:Nat) (k:IntKind) (i:Int):Cu Ya 37 (.slice (some a) n c) (.int k i) KV=((0<=i/\i < n)/\KV (.pointer (some (a.add (i.toNat * 1))))):=Nk 37 5 a n c 1 k i Yg (by kernel_rfl)
theorem QPe (a:Addr):Bf Ya 37 (.pointer (some a)) w KV=∃ v,w.cell? a=some v/\KV v:=Qr 37 5 a Yg
theorem QHo (a:Option Addr) (n c:Nat):Dl Ya 37 9 (.slice a n c) w KV=∃ l,Sf w a n l/\KV (Aa l):=QGq 37 9 5 a n c Yg Yi Yl
theorem QHp:C4 Ya 37 9=true:=by kernel_rfl
theorem QHq:C4 Ya 9 37=false:=by kernel_rfl
theorem QPf:Ya.szo 44=some 1:=by kernel_rfl
theorem QPg (a:Option Addr) (n c:Nat):Fq Ya 44 (.slice a n c) KV=KV (.int .i64 n):=Nj 44 48 a n c Hj
theorem QPh (a:Addr) (n c:Nat) (k:IntKind) (i:Int):Cu Ya 44 (.slice (some a) n c) (.int k i) KV=((0<=i/\i < n)/\KV (.pointer (some (a.add (i.toNat * 2))))):=Nk 44 48 a n c 2 k i Hj (by kernel_rfl)
theorem QPi:Ya.szo 48=some 2:=by kernel_rfl
theorem QPj (a:Addr):Bf Ya 48 (.pointer (some a)) w KV=∃ cs:List Value,(cs.length=2/\Reads w a cs)/\KV (.agg cs.toArray):=N4 48 2 a _ Xt (by kernel_rfl)
theorem QPk (n0:Int) (n1:Int):Cs Ya 48 [(0,.int .i64 n0),(1,.int .i64 n1)] KV=KV (.agg #[.int .i64 n0,.int .i64 n1]):=Dg (by kernel_rfl)
theorem QPl:Cs Ya 48 [] KV=KV (.agg #[.int .i64 0,.int .i64 0]):=Dg (by kernel_rfl)
theorem QHr (l:List Value):B3 Ya 48 (.agg l.toArray) 0 KV=Bk l 0 KV:=C1 48 0 l Xt rfl (by kernel_rfl) (by kernel_rfl) (by kernel_rfl)
theorem QHs (a:Addr):By Ya 48 (.pointer (some a)) 0 KV=KV (.pointer (some (a.add 0))):=Ce 48 0 a (m:=0) Xt rfl (by kernel_rfl)
theorem QHt (l:List Value):B3 Ya 48 (.agg l.toArray) 1 KV=Bk l 1 KV:=C1 48 1 l Xt rfl (by kernel_rfl) (by kernel_rfl) (by kernel_rfl)
theorem QHu (a:Addr):By Ya 48 (.pointer (some a)) 1 KV=KV (.pointer (some (a.add 1))):=Ce 48 1 a (m:=0) Xt rfl (by kernel_rfl)
theorem QPm:Ya.szo 50=some 2:=by kernel_rfl
theorem QLg (l:List Value) (k:IntKind) (i:Int):D4 Ya 50 (.agg l.toArray) (.int k i) KV=((0<=i/\i < ((2:Nat):Int))/\Bk l i.toNat KV):=Ma 50 l k i Hk (by kernel_rfl) (by kernel_rfl) (by kernel_rfl)
theorem QPn (a:Addr) (k:IntKind) (i:Int):Cu Ya 50 (.pointer (some a)) (.int k i) KV=((0<=i/\i < ((2:Nat):Int))/\KV (.pointer (some (a.add (i.toNat * 1))))):=Md 50 9 a 2 1 k i Hk (by kernel_rfl)
theorem QPo:Ya.szo 51=some 2:=by kernel_rfl
theorem QLh (l:List Value) (k:IntKind) (i:Int):D4 Ya 51 (.agg l.toArray) (.int k i) KV=((0<=i/\i < ((2:Nat):Int))/\Bk l i.toNat KV):=Ma 51 l k i Hl (by kernel_rfl) (by kernel_rfl) (by kernel_rfl)
theorem QPp (a:Addr) (k:IntKind) (i:Int):Cu Ya 51 (.pointer (some a)) (.int k i) KV=((0<=i/\i < ((2:Nat):Int))/\KV (.pointer (some (a.add (i.toNat * 1))))):=Md 51 3 a 2 1 k i Hl (by kernel_rfl)
theorem QPq:Ya.szo 53=some 10:=by kernel_rfl
theorem QPr (a:Addr):Bf Ya 53 (.pointer (some a)) w KV=∃ cs:List Value,(cs.length=10/\Reads w a cs)/\KV (.agg cs.toArray):=N4 53 10 a _ Yd (by kernel_rfl)
theorem QHv (l:List Value):B3 Ya 53 (.agg l.toArray) 0 KV=Bk l 0 KV:=C1 53 0 l Yd rfl (by kernel_rfl) (by kernel_rfl) (by kernel_rfl)
theorem QHw (a:Addr):By Ya 53 (.pointer (some a)) 0 KV=KV (.pointer (some (a.add 0))):=Ce 53 0 a (m:=0) Yd rfl (by kernel_rfl)
theorem QHx (l:List Value):B3 Ya 53 (.agg l.toArray) 1 KV=Bk l 1 KV:=C1 53 1 l Yd rfl (by kernel_rfl) (by kernel_rfl) (by kernel_rfl)
theorem QHy (a:Addr):By Ya 53 (.pointer (some a)) 1 KV=KV (.pointer (some (a.add 1))):=Ce 53 1 a (m:=0) Yd rfl (by kernel_rfl)
theorem QHz (l:List Value):B3 Ya 53 (.agg l.toArray) 2 KV=Bk l 2 KV:=C1 53 2 l Yd rfl (by kernel_rfl) (by kernel_rfl) (by kernel_rfl)
theorem QH0 (a:Addr):By Ya 53 (.pointer (some a)) 2 KV=KV (.pointer (some (a.add 2))):=Ce 53 2 a (m:=0) Yd rfl (by kernel_rfl)
theorem QH1 (l:List Value):B3 Ya 53 (.agg l.toArray) 3 KV=Bk l 3 KV:=C1 53 3 l Yd rfl (by kernel_rfl) (by kernel_rfl) (by kernel_rfl)
theorem QH2 (a:Addr):By Ya 53 (.pointer (some a)) 3 KV=KV (.pointer (some (a.add 3))):=Ce 53 3 a (m:=0) Yd rfl (by kernel_rfl)
theorem QH3 (l:List Value):B3 Ya 53 (.agg l.toArray) 4 KV=Bk l 4 KV:=C1 53 4 l Yd rfl (by kernel_rfl) (by kernel_rfl) (by kernel_rfl)
theorem QH4 (a:Addr):By Ya 53 (.pointer (some a)) 4 KV=KV (.pointer (some (a.add 4))):=Ce 53 4 a (m:=0) Yd rfl (by kernel_rfl)
theorem QH5 (l:List Value):B3 Ya 53 (.agg l.toArray) 5 KV=Bk l 5 KV:=C1 53 5 l Yd rfl (by kernel_rfl) (by kernel_rfl) (by kernel_rfl)
theorem QH6 (a:Addr):By Ya 53 (.pointer (some a)) 5 KV=KV (.pointer (some (a.add 5))):=Ce 53 5 a (m:=0) Yd rfl (by kernel_rfl)
theorem QH7 (l:List Value):B3 Ya 53 (.agg l.toArray) 6 KV=KV (.agg ((l.take 8).drop 6).toArray):=Rm 53 6 l 2 Yd rfl (by kernel_rfl) (by kernel_rfl) (by kernel_rfl)
theorem QH8 (a:Addr):By Ya 53 (.pointer (some a)) 6 KV=KV (.pointer (some (a.add 6))):=Ce 53 6 a (m:=1) Yd rfl (by kernel_rfl)
theorem QH9 (l:List Value):B3 Ya 53 (.agg l.toArray) 7 KV=KV (.agg ((l.take 10).drop 8).toArray):=Rm 53 7 l 2 Yd rfl (by kernel_rfl) (by kernel_rfl) (by kernel_rfl)
theorem QIa (a:Addr):By Ya 53 (.pointer (some a)) 7 KV=KV (.pointer (some (a.add 8))):=Ce 53 7 a (m:=1) Yd rfl (by kernel_rfl)
theorem QPs:Ya.szo 56=some 1:=by kernel_rfl
theorem QPt (a:Option Addr) (n c:Nat):Fq Ya 56 (.slice a n c) KV=KV (.int .i64 n):=Nj 56 60 a n c Hm
theorem QPu (a:Addr) (n c:Nat) (k:IntKind) (i:Int):Cu Ya 56 (.slice (some a) n c) (.int k i) KV=((0<=i/\i < n)/\KV (.pointer (some (a.add (i.toNat * 2))))):=Nk 56 60 a n c 2 k i Hm (by kernel_rfl)
theorem QJx:Ya.szo 60=some 2:=by kernel_rfl
theorem QPv (a:Addr):Bf Ya 60 (.pointer (some a)) w KV=∃ cs:List Value,(cs.length=2/\Reads w a cs)/\KV (.agg cs.toArray):=N4 60 2 a _ Xu (by kernel_rfl)
theorem QPw (s0:ByteArray) (s1:ByteArray):Cs Ya 60 [(0,.string s0),(1,.string s1)] KV=KV (.agg #[.string s0,.string s1]):=Dg (by kernel_rfl)
theorem QPx:Cs Ya 60 [] KV=KV (.agg #[.string ⟨#[]⟩,.string ⟨#[]⟩]):=Dg (by kernel_rfl)
theorem QIb (l:List Value):B3 Ya 60 (.agg l.toArray) 0 KV=Bk l 0 KV:=C1 60 0 l Xu rfl (by kernel_rfl) (by kernel_rfl) (by kernel_rfl)
theorem QIc (a:Addr):By Ya 60 (.pointer (some a)) 0 KV=KV (.pointer (some (a.add 0))):=Ce 60 0 a (m:=0) Xu rfl (by kernel_rfl)
theorem QId (l:List Value):B3 Ya 60 (.agg l.toArray) 1 KV=Bk l 1 KV:=C1 60 1 l Xu rfl (by kernel_rfl) (by kernel_rfl) (by kernel_rfl)
theorem QIe (a:Addr):By Ya 60 (.pointer (some a)) 1 KV=KV (.pointer (some (a.add 1))):=Ce 60 1 a (m:=0) Xu rfl (by kernel_rfl)
theorem QPy:Ya.szo 68=some 1:=by kernel_rfl
theorem QLi (a:Addr):Bf Ya 68 (.pointer (some a)) w KV=∃ v,w.cell? a=some v/\KV v:=QFh 68 _ _ _ a Tryz.underlying68
theorem Oc:Ya.szo 70=some 2:=by kernel_rfl
theorem QPz (a:Addr):Bf Ya 70 (.pointer (some a)) w KV=∃ cs:List Value,(cs.length=2/\Reads w a cs)/\KV (.agg cs.toArray):=N4 70 2 a _ Xv (by kernel_rfl)
theorem QP0 (s0:ByteArray) (n1:Int):Cs Ya 70 [(0,.string s0),(1,.int .i64 n1)] KV=KV (.agg #[.string s0,.int .i64 n1]):=Dg (by kernel_rfl)
theorem QP1:Cs Ya 70 [] KV=KV (.agg #[.string ⟨#[]⟩,.int .i64 0]):=Dg (by kernel_rfl)
theorem QIf (l:List Value):B3 Ya 70 (.agg l.toArray) 0 KV=Bk l 0 KV:=C1 70 0 l Xv rfl (by kernel_rfl) (by kernel_rfl) (by kernel_rfl)
theorem QIg (a:Addr):By Ya 70 (.pointer (some a)) 0 KV=KV (.pointer (some (a.add 0))):=Ce 70 0 a (m:=0) Xv rfl (by kernel_rfl)
theorem QIh (l:List Value):B3 Ya 70 (.agg l.toArray) 1 KV=Bk l 1 KV:=C1 70 1 l Xv rfl (by kernel_rfl) (by kernel_rfl) (by kernel_rfl)
theorem QIi (a:Addr):By Ya 70 (.pointer (some a)) 1 KV=KV (.pointer (some (a.add 1))):=Ce 70 1 a (m:=0) Xv rfl (by kernel_rfl)
theorem QP2:Ya.szo 71=some 1:=by kernel_rfl
theorem QP3 (a:Option Addr) (n c:Nat):Fq Ya 71 (.slice a n c) KV=KV (.int .i64 n):=Nj 71 70 a n c Uz
theorem QP4 (a:Addr) (n c:Nat) (k:IntKind) (i:Int):Cu Ya 71 (.slice (some a) n c) (.int k i) KV=((0<=i/\i < n)/\KV (.pointer (some (a.add (i.toNat * 2))))):=Nk 71 70 a n c 2 k i Uz (by kernel_rfl)
theorem QP5 (a:Addr):Bf Ya 71 (.pointer (some a)) w KV=∃ v,w.cell? a=some v/\KV v:=Qr 71 70 a Uz
theorem QP6:Ya.szo 72=some 1:=by kernel_rfl
theorem QP7 (a:Option Addr) (n c:Nat):Fq Ya 72 (.slice a n c) KV=KV (.int .i64 n):=Nj 72 78 a n c U0
theorem QP8 (a:Addr) (n c:Nat) (k:IntKind) (i:Int):Cu Ya 72 (.slice (some a) n c) (.int k i) KV=((0<=i/\i < n)/\KV (.pointer (some (a.add (i.toNat * 1))))):=Nk 72 78 a n c 1 k i U0 (by kernel_rfl)
theorem QP9 (a:Addr):Bf Ya 72 (.pointer (some a)) w KV=∃ v,w.cell? a=some v/\KV v:=Qr 72 78 a U0
theorem Wh:Ya.szo 78=some 1:=by kernel_rfl
theorem QQa (a:Addr):Bf Ya 78 (.pointer (some a)) w KV=∃ v,w.cell? a=some v/\KV v:=Qf 78 a .u32 Yu
theorem QIj (k:IntKind) (n:Int):Dl Ya 78 5 (.int k n) w KV=Cy .u8 n KV:=Kb 78 5 _ .u8 k n Yu Yl
theorem QIk:C4 Ya 78 5=true:=by kernel_rfl
theorem QCk (k:IntKind) (n:Int):Dl Ya 78 83 (.int k n) w KV=Cy .u64 n KV:=Kb 78 83 _ .u64 k n Yu Yx
theorem QCl:C4 Ya 78 83=true:=by kernel_rfl
theorem Qyi (k:IntKind) (n:Int):Dl Ya 78 128 (.int k n) w KV=Cy .u64 n KV:=Kb 78 128 _ .u64 k n Yu Y7
theorem Qyj:C4 Ya 78 128=true:=by kernel_rfl
theorem QQb:Ya.szo 80=some 1:=by kernel_rfl
theorem QQc (a:Option Addr) (xo yo:Operand):A8 Ya .eql 80 xo yo (.pointer a) (.pointer none) w KV=KV (.bool a.isNone):=Vz Hn a xo yo
theorem QQd (a:Option Addr) (xo yo:Operand):A8 Ya .neq 80 xo yo (.pointer a) (.pointer none) w KV=KV (.bool ! a.isNone):=Qs0 Hn a xo yo
theorem QQe:Ya.szo 83=some 1:=by kernel_rfl
theorem QQf (a:Addr):Bf Ya 83 (.pointer (some a)) w KV=∃ v,w.cell? a=some v/\KV v:=Qf 83 a .u64 Yx
theorem QIl (k:IntKind) (n:Int):Dl Ya 83 3 (.int k n) w KV=Cy .i64 n KV:=Kb 83 3 _ .i64 k n Yx Yf
theorem QIm:C4 Ya 83 3=true:=by kernel_rfl
theorem QIn (k:IntKind) (n:Int):Dl Ya 83 5 (.int k n) w KV=Cy .u8 n KV:=Kb 83 5 _ .u8 k n Yx Yl
theorem QIo:C4 Ya 83 5=true:=by kernel_rfl
theorem QCm (k:IntKind) (n:Int):Dl Ya 83 78 (.int k n) w KV=Cy .u32 n KV:=Kb 83 78 _ .u32 k n Yx Yu
theorem QCn:C4 Ya 83 78=true:=by kernel_rfl
theorem QLj:Ya.szo 103=some 1:=by kernel_rfl
theorem QLk (a:Option Addr) (xo yo:Operand):A8 Ya .eql 103 xo yo (.pointer a) (.pointer none) w KV=KV (.bool a.isNone):=Vz Xk a xo yo
theorem QLl (a:Option Addr) (xo yo:Operand):A8 Ya .neq 103 xo yo (.pointer a) (.pointer none) w KV=KV (.bool ! a.isNone):=Qs0 Xk a xo yo
theorem QLm (a:Addr):Bf Ya 103 (.pointer (some a)) w KV=∃ v,w.cell? a=some v/\KV v:=QAc 103 105 a Xk
theorem QLn:Ya.szo 105=some 2:=by kernel_rfl
theorem QCo (l:List Value):B3 Ya 105 (.agg l.toArray) 0 KV=Bk l 0 KV:=C1 105 0 l Y8 rfl (by kernel_rfl) (by kernel_rfl) (by kernel_rfl)
theorem QCp (a:Addr):By Ya 105 (.pointer (some a)) 0 KV=KV (.pointer (some (a.add 0))):=Ce 105 0 a (m:=0) Y8 rfl (by kernel_rfl)
theorem QCq (l:List Value):B3 Ya 105 (.agg l.toArray) 1 KV=Bk l 1 KV:=C1 105 1 l Y8 rfl (by kernel_rfl) (by kernel_rfl) (by kernel_rfl)
theorem QCr (a:Addr):By Ya 105 (.pointer (some a)) 1 KV=KV (.pointer (some (a.add 1))):=Ce 105 1 a (m:=0) Y8 rfl (by kernel_rfl)
theorem QAs:Ya.szo 114=some 1:=by kernel_rfl
theorem QLo (a:Option Addr) (n c:Nat):Fq Ya 114 (.slice a n c) KV=KV (.int .i64 n):=Nj 114 3 a n c Y0
theorem QIp (a:Option Addr) (n c:Nat):B7 Ya 114 (.slice a n c) none none KV=(n<=c/\KV (.slice a n c)):=Qub 114 3 a n c 1 Y0 (by kernel_rfl)
theorem QIq (a:Option Addr) (n c:Nat) (k:IntKind) (l:Int):B7 Ya 114 (.slice a n c) (some (.int k l)) none KV=((0<=l/\l<=n/\n<=c)/\KV (.slice (if c=l.toNat then a else a.map (·.add (l.toNat * 1))) (n - l.toNat) (c - l.toNat))):=Quc 114 3 a n c 1 k l Y0 (by kernel_rfl)
theorem QIr (a:Option Addr) (n c:Nat) (k:IntKind) (l:Int):B7 Ya 114 (.slice a n c) none (some (.int k l)) KV=((0<=l/\l<=c)/\KV (.slice a l.toNat c)):=Qud 114 3 a n c 1 k l Y0 (by kernel_rfl)
theorem QIs (a:Option Addr) (n c:Nat) (k k':IntKind) (l m:Int):B7 Ya 114 (.slice a n c) (some (.int k l)) (some (.int k' m)) KV=((0<=l/\l<=m/\m<=c)/\KV (.slice (if c=l.toNat then a else a.map (·.add (l.toNat * 1))) (m.toNat - l.toNat) (c - l.toNat))):=Que 114 3 a n c 1 k k' l m Y0 (by kernel_rfl)
theorem QLp (a:Addr) (n c:Nat) (k:IntKind) (i:Int):Cu Ya 114 (.slice (some a) n c) (.int k i) KV=((0<=i/\i < n)/\KV (.pointer (some (a.add (i.toNat * 1))))):=Nk 114 3 a n c 1 k i Y0 (by kernel_rfl)
theorem QLq (a:Addr):Bf Ya 114 (.pointer (some a)) w KV=∃ v,w.cell? a=some v/\KV v:=Qr 114 3 a Y0
theorem QLr:Ya.szo 118=some 1:=by kernel_rfl
theorem QLs (a:Option Addr) (n c:Nat):Fq Ya 118 (.slice a n c) KV=KV (.int .i64 n):=Nj 118 114 a n c Un
theorem QLt (a:Addr) (n c:Nat) (k:IntKind) (i:Int):Cu Ya 118 (.slice (some a) n c) (.int k i) KV=((0<=i/\i < n)/\KV (.pointer (some (a.add (i.toNat * 1))))):=Nk 118 114 a n c 1 k i Un (by kernel_rfl)
theorem QLu (a:Addr):Bf Ya 118 (.pointer (some a)) w KV=∃ v,w.cell? a=some v/\KV v:=Qr 118 114 a Un
theorem QLv:Ya.szo 120=some 2:=by kernel_rfl
theorem QLw (a:Addr):Bf Ya 120 (.pointer (some a)) w KV=∃ cs:List Value,(cs.length=2/\Reads w a cs)/\KV (.agg cs.toArray):=N4 120 2 a _ Xl (by kernel_rfl)
theorem QLx (a0:Option Addr) (n0 c0:Nat) (a1:Option Addr) (n1 c1:Nat):Cs Ya 120 [(0,.slice a0 n0 c0),(1,.slice a1 n1 c1)] KV=KV (.agg #[.slice a0 n0 c0,.slice a1 n1 c1]):=Dg (by kernel_rfl)
theorem QLy:Cs Ya 120 [] KV=KV (.agg #[.slice none 0 0,.slice none 0 0]):=Dg (by kernel_rfl)
theorem QCs (l:List Value):B3 Ya 120 (.agg l.toArray) 0 KV=Bk l 0 KV:=C1 120 0 l Xl rfl (by kernel_rfl) (by kernel_rfl) (by kernel_rfl)
theorem QCt (a:Addr):By Ya 120 (.pointer (some a)) 0 KV=KV (.pointer (some (a.add 0))):=Ce 120 0 a (m:=0) Xl rfl (by kernel_rfl)
theorem QCu (l:List Value):B3 Ya 120 (.agg l.toArray) 1 KV=Bk l 1 KV:=C1 120 1 l Xl rfl (by kernel_rfl) (by kernel_rfl) (by kernel_rfl)
theorem QCv (a:Addr):By Ya 120 (.pointer (some a)) 1 KV=KV (.pointer (some (a.add 1))):=Ce 120 1 a (m:=0) Xl rfl (by kernel_rfl)
theorem QLz:Ya.szo 127=some 2:=by kernel_rfl
theorem QL0 (a0:Option Addr) (n0 c0:Nat) (n1:Int):Cs Ya 127 [(0,.slice a0 n0 c0),(1,.int .i64 n1)] KV=KV (.agg #[.slice a0 n0 c0,.int .i64 n1]):=Dg (by kernel_rfl)
theorem QL1:Cs Ya 127 [] KV=KV (.agg #[.slice none 0 0,.int .i64 0]):=Dg (by kernel_rfl)
theorem QCw (l:List Value):B3 Ya 127 (.agg l.toArray) 0 KV=Bk l 0 KV:=C1 127 0 l X1 rfl (by kernel_rfl) (by kernel_rfl) (by kernel_rfl)
theorem QCx (a:Addr):By Ya 127 (.pointer (some a)) 0 KV=KV (.pointer (some (a.add 0))):=Ce 127 0 a (m:=0) X1 rfl (by kernel_rfl)
theorem QCy (l:List Value):B3 Ya 127 (.agg l.toArray) 1 KV=Bk l 1 KV:=C1 127 1 l X1 rfl (by kernel_rfl) (by kernel_rfl) (by kernel_rfl)
theorem QCz (a:Addr):By Ya 127 (.pointer (some a)) 1 KV=KV (.pointer (some (a.add 1))):=Ce 127 1 a (m:=0) X1 rfl (by kernel_rfl)
theorem QL2:Ya.szo 128=some 1:=by kernel_rfl
theorem QC0 (k:IntKind) (n:Int):Dl Ya 128 3 (.int k n) w KV=Cy .i64 n KV:=Kb 128 3 _ .i64 k n Y7 Yf
theorem QC1:C4 Ya 128 3=true:=by kernel_rfl
theorem Qyk (k:IntKind) (n:Int):Dl Ya 128 78 (.int k n) w KV=Cy .u32 n KV:=Kb 128 78 _ .u32 k n Y7 Yu
theorem Qyl:C4 Ya 128 78=true:=by kernel_rfl
theorem QL3:Ya.szo 130=some 1:=by kernel_rfl
theorem QL4 (a:Option Addr) (xo yo:Operand):A8 Ya .eql 130 xo yo (.pointer a) (.pointer none) w KV=KV (.bool a.isNone):=Vz Uo a xo yo
theorem QL5 (a:Option Addr) (xo yo:Operand):A8 Ya .neq 130 xo yo (.pointer a) (.pointer none) w KV=KV (.bool ! a.isNone):=Qs0 Uo a xo yo
theorem QL6 (a:Addr):Bf Ya 130 (.pointer (some a)) w KV=∃ v,w.cell? a=some v/\KV v:=QAc 130 174 a Uo
theorem QL7:Ya.szo 137=some 1:=by kernel_rfl
theorem QL8:Ya.szo 138=some 1:=by kernel_rfl
theorem QL9:Ya.szo 140=some 2:=by kernel_rfl
theorem QMa (s0:ByteArray) (b1:Bool):Cs Ya 140 [(0,.string s0),(1,.bool b1)] KV=KV (.agg #[.string s0,.bool b1]):=Dg (by kernel_rfl)
theorem QMb:Cs Ya 140 [] KV=KV (.agg #[.string ⟨#[]⟩,.bool false]):=Dg (by kernel_rfl)
theorem QC2 (l:List Value):B3 Ya 140 (.agg l.toArray) 0 KV=Bk l 0 KV:=C1 140 0 l X2 rfl (by kernel_rfl) (by kernel_rfl) (by kernel_rfl)
theorem QC3 (a:Addr):By Ya 140 (.pointer (some a)) 0 KV=KV (.pointer (some (a.add 0))):=Ce 140 0 a (m:=0) X2 rfl (by kernel_rfl)
theorem QC4 (l:List Value):B3 Ya 140 (.agg l.toArray) 1 KV=Bk l 1 KV:=C1 140 1 l X2 rfl (by kernel_rfl) (by kernel_rfl) (by kernel_rfl)
theorem QC5 (a:Addr):By Ya 140 (.pointer (some a)) 1 KV=KV (.pointer (some (a.add 1))):=Ce 140 1 a (m:=0) X2 rfl (by kernel_rfl)
theorem QMc:Ya.szo 148=some 1:=by kernel_rfl
theorem QMd (a:Option Addr) (n c:Nat):Fq Ya 148 (.slice a n c) KV=KV (.int .i64 n):=Nj 148 9 a n c Yw
theorem QIt (a:Option Addr) (n c:Nat):B7 Ya 148 (.slice a n c) none none KV=(n<=c/\KV (.slice a n c)):=Qub 148 9 a n c 1 Yw (by kernel_rfl)
theorem QIu (a:Option Addr) (n c:Nat) (k:IntKind) (l:Int):B7 Ya 148 (.slice a n c) (some (.int k l)) none KV=((0<=l/\l<=n/\n<=c)/\KV (.slice (if c=l.toNat then a else a.map (·.add (l.toNat * 1))) (n - l.toNat) (c - l.toNat))):=Quc 148 9 a n c 1 k l Yw (by kernel_rfl)
theorem QIv (a:Option Addr) (n c:Nat) (k:IntKind) (l:Int):B7 Ya 148 (.slice a n c) none (some (.int k l)) KV=((0<=l/\l<=c)/\KV (.slice a l.toNat c)):=Qud 148 9 a n c 1 k l Yw (by kernel_rfl)
theorem QIw (a:Option Addr) (n c:Nat) (k k':IntKind) (l m:Int):B7 Ya 148 (.slice a n c) (some (.int k l)) (some (.int k' m)) KV=((0<=l/\l<=m/\m<=c)/\KV (.slice (if c=l.toNat then a else a.map (·.add (l.toNat * 1))) (m.toNat - l.toNat) (c - l.toNat))):=Que 148 9 a n c 1 k k' l m Yw (by kernel_rfl)
theorem QMe (a:Addr) (n c:Nat) (k:IntKind) (i:Int):Cu Ya 148 (.slice (some a) n c) (.int k i) KV=((0<=i/\i < n)/\KV (.pointer (some (a.add (i.toNat * 1))))):=Nk 148 9 a n c 1 k i Yw (by kernel_rfl)
theorem QMf (a:Addr):Bf Ya 148 (.pointer (some a)) w KV=∃ v,w.cell? a=some v/\KV v:=Qr 148 9 a Yw
theorem N7:Ya.szo 154=some 2:=by kernel_rfl
theorem QMg (a:Addr):Bf Ya 154 (.pointer (some a)) w KV=∃ cs:List Value,(cs.length=2/\Reads w a cs)/\KV (.agg cs.toArray):=N4 154 2 a _ Xm (by kernel_rfl)
theorem QMh (s0:ByteArray) (n1:Int):Cs Ya 154 [(0,.string s0),(1,.int .i64 n1)] KV=KV (.agg #[.string s0,.int .i64 n1]):=Dg (by kernel_rfl)
theorem QMi:Cs Ya 154 [] KV=KV (.agg #[.string ⟨#[]⟩,.int .i64 0]):=Dg (by kernel_rfl)
theorem QC6 (l:List Value):B3 Ya 154 (.agg l.toArray) 0 KV=Bk l 0 KV:=C1 154 0 l Xm rfl (by kernel_rfl) (by kernel_rfl) (by kernel_rfl)
theorem QC7 (a:Addr):By Ya 154 (.pointer (some a)) 0 KV=KV (.pointer (some (a.add 0))):=Ce 154 0 a (m:=0) Xm rfl (by kernel_rfl)
theorem QC8 (l:List Value):B3 Ya 154 (.agg l.toArray) 1 KV=Bk l 1 KV:=C1 154 1 l Xm rfl (by kernel_rfl) (by kernel_rfl) (by kernel_rfl)
theorem QC9 (a:Addr):By Ya 154 (.pointer (some a)) 1 KV=KV (.pointer (some (a.add 1))):=Ce 154 1 a (m:=0) Xm rfl (by kernel_rfl)
theorem QMj:Ya.szo 159=some 1:=by kernel_rfl
theorem QMk:Ya.szo 161=some 256:=by kernel_rfl
theorem QIx (l:List Value) (k:IntKind) (i:Int):D4 Ya 161 (.agg l.toArray) (.int k i) KV=((0<=i/\i < ((256:Nat):Int))/\Bk l i.toNat KV):=Ma 161 l k i Gx (by kernel_rfl) (by kernel_rfl) (by kernel_rfl)
theorem QMl (a:Addr) (k:IntKind) (i:Int):Cu Ya 161 (.pointer (some a)) (.int k i) KV=((0<=i/\i < ((256:Nat):Int))/\KV (.pointer (some (a.add (i.toNat * 1))))):=Md 161 4 a 256 1 k i Gx (by kernel_rfl)
theorem QMm:Ya.szo 165=some 16:=by kernel_rfl
theorem QMn (a:Addr):Bf Ya 165 (.pointer (some a)) w KV=∃ cs:List Value,(cs.length=16/\Reads w a cs)/\KV (.agg cs.toArray):=QAp 165 16 16 83 a Up (by kernel_rfl)
theorem QIy (l:List Value) (k:IntKind) (i:Int):D4 Ya 165 (.agg l.toArray) (.int k i) KV=((0<=i/\i < ((16:Nat):Int))/\Bk l i.toNat KV):=Ma 165 l k i Up (by kernel_rfl) (by kernel_rfl) (by kernel_rfl)
theorem QMo (a:Addr) (k:IntKind) (i:Int):Cu Ya 165 (.pointer (some a)) (.int k i) KV=((0<=i/\i < ((16:Nat):Int))/\KV (.pointer (some (a.add (i.toNat * 1))))):=Md 165 83 a 16 1 k i Up (by kernel_rfl)
theorem QMp:Ya.szo 170=some 256:=by kernel_rfl
theorem QMq (a:Addr):Bf Ya 170 (.pointer (some a)) w KV=∃ cs:List Value,(cs.length=256/\Reads w a cs)/\KV (.agg cs.toArray):=QAp 170 256 256 78 a Uq (by kernel_rfl)
theorem QIz (l:List Value) (k:IntKind) (i:Int):D4 Ya 170 (.agg l.toArray) (.int k i) KV=((0<=i/\i < ((256:Nat):Int))/\Bk l i.toNat KV):=Ma 170 l k i Uq (by kernel_rfl) (by kernel_rfl) (by kernel_rfl)
theorem QMr (a:Addr) (k:IntKind) (i:Int):Cu Ya 170 (.pointer (some a)) (.int k i) KV=((0<=i/\i < ((256:Nat):Int))/\KV (.pointer (some (a.add (i.toNat * 1))))):=Md 170 78 a 256 1 k i Uq (by kernel_rfl)
theorem QMs:Ya.szo 172=some 1:=by kernel_rfl
theorem QI0 (a:Addr):Bf Ya 172 (.pointer (some a)) w KV=∃ v,w.cell? a=some v/\KV v:=QFh 172 _ _ _ a Gy
theorem QMt (f:Fn) (x y:Array Value) (xo yo:Operand):A8 Ya .eql 172 xo yo (.func f x y) .nilFunc w KV=KV (.bool false):=QG1 Gy f x y xo yo
theorem QMu:Ya.szo 174=some 3:=by kernel_rfl
theorem QMv (f0:Fn) (x0 y0:Array Value) (n1:Int) (n2:Int):Cs Ya 174 [(0,.func f0 x0 y0),(1,.int .i64 n1),(2,.int .i64 n2)] KV=KV (.agg #[.func f0 x0 y0,.int .i64 n1,.int .i64 n2]):=Dg (by kernel_rfl)
theorem QMw:Cs Ya 174 [] KV=KV (.agg #[.nilFunc,.int .i64 0,.int .i64 0]):=Dg (by kernel_rfl)
theorem QDa (l:List Value):B3 Ya 174 (.agg l.toArray) 0 KV=Bk l 0 KV:=C1 174 0 l Y9 rfl (by kernel_rfl) (by kernel_rfl) (by kernel_rfl)
theorem QDb (a:Addr):By Ya 174 (.pointer (some a)) 0 KV=KV (.pointer (some (a.add 0))):=Ce 174 0 a (m:=0) Y9 rfl (by kernel_rfl)
theorem QDc (l:List Value):B3 Ya 174 (.agg l.toArray) 1 KV=Bk l 1 KV:=C1 174 1 l Y9 rfl (by kernel_rfl) (by kernel_rfl) (by kernel_rfl)
theorem QDd (a:Addr):By Ya 174 (.pointer (some a)) 1 KV=KV (.pointer (some (a.add 1))):=Ce 174 1 a (m:=0) Y9 rfl (by kernel_rfl)
theorem QDe (l:List Value):B3 Ya 174 (.agg l.toArray) 2 KV=Bk l 2 KV:=C1 174 2 l Y9 rfl (by kernel_rfl) (by kernel_rfl) (by kernel_rfl)
theorem QDf (a:Addr):By Ya 174 (.pointer (some a)) 2 KV=KV (.pointer (some (a.add 2))):=Ce 174 2 a (m:=0) Y9 rfl (by kernel_rfl)
theorem QMx:Ya.szo 182=some 1:=by kernel_rfl
theorem QMy (n0:Int):Cs Ya 182 [(0,.int .i64 n0)] KV=KV (.agg #[.int .i64 n0]):=Dg (by kernel_rfl)
theorem QMz:Cs Ya 182 [] KV=KV (.agg #[.int .i64 0]):=Dg (by kernel_rfl)
theorem QDg (l:List Value):B3 Ya 182 (.agg l.toArray) 0 KV=Bk l 0 KV:=C1 182 0 l Gz rfl (by kernel_rfl) (by kernel_rfl) (by kernel_rfl)
theorem QDh (a:Addr):By Ya 182 (.pointer (some a)) 0 KV=KV (.pointer (some (a.add 0))):=Ce 182 0 a (m:=0) Gz rfl (by kernel_rfl)
theorem QM0:Ya.szo 192=some 1:=by kernel_rfl
theorem QM1 (a:Option Addr) (n c:Nat):Fq Ya 192 (.slice a n c) KV=KV (.int .i64 n):=Nj 192 154 a n c G3
theorem QM2 (a:Addr) (n c:Nat) (k:IntKind) (i:Int):Cu Ya 192 (.slice (some a) n c) (.int k i) KV=((0<=i/\i < n)/\KV (.pointer (some (a.add (i.toNat * 2))))):=Nk 192 154 a n c 2 k i G3 (by kernel_rfl)
theorem QM3:Ya.szo 193=some 1:=by kernel_rfl
theorem QM4:Ya.szo 196=some 2:=by kernel_rfl
theorem QM5 (a:Addr):Bf Ya 196 (.pointer (some a)) w KV=∃ cs:List Value,(cs.length=2/\Reads w a cs)/\KV (.agg cs.toArray):=N4 196 2 a _ Xn (by kernel_rfl)
theorem QM6 (a0:Option Addr) (n0 c0:Nat) (n1:Int):Cs Ya 196 [(0,.slice a0 n0 c0),(1,.int .i64 n1)] KV=KV (.agg #[.slice a0 n0 c0,.int .i64 n1]):=Dg (by kernel_rfl)
theorem QM7:Cs Ya 196 [] KV=KV (.agg #[.slice none 0 0,.int .i64 0]):=Dg (by kernel_rfl)
theorem QDi (l:List Value):B3 Ya 196 (.agg l.toArray) 0 KV=Bk l 0 KV:=C1 196 0 l Xn rfl (by kernel_rfl) (by kernel_rfl) (by kernel_rfl)
theorem QDj (a:Addr):By Ya 196 (.pointer (some a)) 0 KV=KV (.pointer (some (a.add 0))):=Ce 196 0 a (m:=0) Xn rfl (by kernel_rfl)
theorem QDk (l:List Value):B3 Ya 196 (.agg l.toArray) 1 KV=Bk l 1 KV:=C1 196 1 l Xn rfl (by kernel_rfl) (by kernel_rfl) (by kernel_rfl)
theorem QDl (a:Addr):By Ya 196 (.pointer (some a)) 1 KV=KV (.pointer (some (a.add 1))):=Ce 196 1 a (m:=0) Xn rfl (by kernel_rfl)
theorem QM8:Ya.szo 201=some 1:=by kernel_rfl
theorem QM9:Ya.szo 205=some 1:=by kernel_rfl
theorem QNa:Ya.szo 211=some 1:=by kernel_rfl
theorem QNb:Ya.szo 220=some 1:=by kernel_rfl
theorem QNc:Ya.szo 225=some 256:=by kernel_rfl
theorem QNd (a:Addr):Bf Ya 225 (.pointer (some a)) w KV=∃ cs:List Value,(cs.length=256/\Reads w a cs)/\KV (.agg cs.toArray):=QAp 225 256 256 3 a Ur (by kernel_rfl)
theorem QI1 (l:List Value) (k:IntKind) (i:Int):D4 Ya 225 (.agg l.toArray) (.int k i) KV=((0<=i/\i < ((256:Nat):Int))/\Bk l i.toNat KV):=Ma 225 l k i Ur (by kernel_rfl) (by kernel_rfl) (by kernel_rfl)
theorem QNe (a:Addr) (k:IntKind) (i:Int):Cu Ya 225 (.pointer (some a)) (.int k i) KV=((0<=i/\i < ((256:Nat):Int))/\KV (.pointer (some (a.add (i.toNat * 1))))):=Md 225 3 a 256 1 k i Ur (by kernel_rfl)
theorem QNf:Ya.szo 227=some 2:=by kernel_rfl
theorem QNg (f0:Fn) (x0 y0:Array Value) (n1:Int):Cs Ya 227 [(0,.func f0 x0 y0),(1,.int .i64 n1)] KV=KV (.agg #[.func f0 x0 y0,.int .i64 n1]):=Dg (by kernel_rfl)
theorem QNh:Cs Ya 227 [] KV=KV (.agg #[.nilFunc,.int .i64 0]):=Dg (by kernel_rfl)
theorem QDm (l:List Value):B3 Ya 227 (.agg l.toArray) 0 KV=Bk l 0 KV:=C1 227 0 l X3 rfl (by kernel_rfl) (by kernel_rfl) (by kernel_rfl)
theorem QDn (a:Addr):By Ya 227 (.pointer (some a)) 0 KV=KV (.pointer (some (a.add 0))):=Ce 227 0 a (m:=0) X3 rfl (by kernel_rfl)
theorem QDo (l:List Value):B3 Ya 227 (.agg l.toArray) 1 KV=Bk l 1 KV:=C1 227 1 l X3 rfl (by kernel_rfl) (by kernel_rfl) (by kernel_rfl)
theorem QDp (a:Addr):By Ya 227 (.pointer (some a)) 1 KV=KV (.pointer (some (a.add 1))):=Ce 227 1 a (m:=0) X3 rfl (by kernel_rfl)
theorem QNi:Ya.szo 230=some 4:=by kernel_rfl
theorem QI2 (l:List Value) (k:IntKind) (i:Int):D4 Ya 230 (.agg l.toArray) (.int k i) KV=((0<=i/\i < ((4:Nat):Int))/\Bk l i.toNat KV):=Ma 230 l k i G4 (by kernel_rfl) (by kernel_rfl) (by kernel_rfl)
theorem QNj (a:Addr) (k:IntKind) (i:Int):Cu Ya 230 (.pointer (some a)) (.int k i) KV=((0<=i/\i < ((4:Nat):Int))/\KV (.pointer (some (a.add (i.toNat * 1))))):=Md 230 3 a 4 1 k i G4 (by kernel_rfl)
theorem QNk:Ya.szo 233=some 1:=by kernel_rfl
theorem QNl (a:Option Addr) (n c:Nat):Fq Ya 233 (.slice a n c) KV=KV (.int .i64 n):=Nj 233 235 a n c Y1
theorem QI3 (a:Option Addr) (n c:Nat):B7 Ya 233 (.slice a n c) none none KV=(n<=c/\KV (.slice a n c)):=Qub 233 235 a n c 2 Y1 (by kernel_rfl)
theorem QI4 (a:Option Addr) (n c:Nat) (k:IntKind) (l:Int):B7 Ya 233 (.slice a n c) (some (.int k l)) none KV=((0<=l/\l<=n/\n<=c)/\KV (.slice (if c=l.toNat then a else a.map (·.add (l.toNat * 2))) (n - l.toNat) (c - l.toNat))):=Quc 233 235 a n c 2 k l Y1 (by kernel_rfl)
theorem QI5 (a:Option Addr) (n c:Nat) (k:IntKind) (l:Int):B7 Ya 233 (.slice a n c) none (some (.int k l)) KV=((0<=l/\l<=c)/\KV (.slice a l.toNat c)):=Qud 233 235 a n c 2 k l Y1 (by kernel_rfl)
theorem QI6 (a:Option Addr) (n c:Nat) (k k':IntKind) (l m:Int):B7 Ya 233 (.slice a n c) (some (.int k l)) (some (.int k' m)) KV=((0<=l/\l<=m/\m<=c)/\KV (.slice (if c=l.toNat then a else a.map (·.add (l.toNat * 2))) (m.toNat - l.toNat) (c - l.toNat))):=Que 233 235 a n c 2 k k' l m Y1 (by kernel_rfl)
theorem QNm (a:Addr) (n c:Nat) (k:IntKind) (i:Int):Cu Ya 233 (.slice (some a) n c) (.int k i) KV=((0<=i/\i < n)/\KV (.pointer (some (a.add (i.toNat * 2))))):=Nk 233 235 a n c 2 k i Y1 (by kernel_rfl)
theorem QNn (a:Addr):Bf Ya 233 (.pointer (some a)) w KV=∃ v,w.cell? a=some v/\KV v:=Qr 233 235 a Y1
theorem QAt:Ya.szo 235=some 2:=by kernel_rfl
theorem QNo (a:Addr):Bf Ya 235 (.pointer (some a)) w KV=∃ cs:List Value,(cs.length=2/\Reads w a cs)/\KV (.agg cs.toArray):=N4 235 2 a _ Xo (by kernel_rfl)
theorem QNp (n0:Int) (n1:Int):Cs Ya 235 [(0,.int .i64 n0),(1,.int .i64 n1)] KV=KV (.agg #[.int .i64 n0,.int .i64 n1]):=Dg (by kernel_rfl)
theorem QNq:Cs Ya 235 [] KV=KV (.agg #[.int .i64 0,.int .i64 0]):=Dg (by kernel_rfl)
theorem QDq (l:List Value):B3 Ya 235 (.agg l.toArray) 0 KV=Bk l 0 KV:=C1 235 0 l Xo rfl (by kernel_rfl) (by kernel_rfl) (by kernel_rfl)
theorem QDr (a:Addr):By Ya 235 (.pointer (some a)) 0 KV=KV (.pointer (some (a.add 0))):=Ce 235 0 a (m:=0) Xo rfl (by kernel_rfl)
theorem QDs (l:List Value):B3 Ya 235 (.agg l.toArray) 1 KV=Bk l 1 KV:=C1 235 1 l Xo rfl (by kernel_rfl) (by kernel_rfl) (by kernel_rfl)
theorem QDt (a:Addr):By Ya 235 (.pointer (some a)) 1 KV=KV (.pointer (some (a.add 1))):=Ce 235 1 a (m:=0) Xo rfl (by kernel_rfl)
theorem QNr:Ya.szo 237=some 1:=by kernel_rfl
theorem QNs:Ya.szo 239=some 1:=by kernel_rfl
theorem QNt (a:Addr):Bf Ya 239 (.pointer (some a)) w KV=∃ cs:List Value,(cs.length=1/\Reads w a cs)/\KV (.agg cs.toArray):=N4 239 1 a _ Us (by kernel_rfl)
theorem QNu (a0:Option Addr) (n0 c0:Nat):Cs Ya 239 [(0,.slice a0 n0 c0)] KV=KV (.agg #[.slice a0 n0 c0]):=Dg (by kernel_rfl)
theorem QNv:Cs Ya 239 [] KV=KV (.agg #[.slice none 0 0]):=Dg (by kernel_rfl)
theorem QDu (l:List Value):B3 Ya 239 (.agg l.toArray) 0 KV=Bk l 0 KV:=C1 239 0 l Us rfl (by kernel_rfl) (by kernel_rfl) (by kernel_rfl)
theorem QDv (a:Addr):By Ya 239 (.pointer (some a)) 0 KV=KV (.pointer (some (a.add 0))):=Ce 239 0 a (m:=0) Us rfl (by kernel_rfl)
theorem QNw:Ya.szo 240=some 22:=by kernel_rfl
theorem QI7 (l:List Value) (k:IntKind) (i:Int):D4 Ya 240 (.agg l.toArray) (.int k i) KV=((0<=i/\i < ((22:Nat):Int))/\Bk l i.toNat KV):=Ma 240 l k i G5 (by kernel_rfl) (by kernel_rfl) (by kernel_rfl)
theorem QNx (a:Addr) (k:IntKind) (i:Int):Cu Ya 240 (.pointer (some a)) (.int k i) KV=((0<=i/\i < ((22:Nat):Int))/\KV (.pointer (some (a.add (i.toNat * 1))))):=Md 240 3 a 22 1 k i G5 (by kernel_rfl)
theorem QNy:Ya.szo 242=some 68:=by kernel_rfl
theorem QDw (l:List Value):B3 Ya 242 (.agg l.toArray) 0 KV=KV (.agg ((l.take 1).drop 0).toArray):=Rm 242 0 l 1 Yp rfl (by kernel_rfl) (by kernel_rfl) (by kernel_rfl)
theorem QDx (a:Addr):By Ya 242 (.pointer (some a)) 0 KV=KV (.pointer (some (a.add 0))):=Ce 242 0 a (m:=0) Yp rfl (by kernel_rfl)
theorem QDy (l:List Value):B3 Ya 242 (.agg l.toArray) 1 KV=Bk l 1 KV:=C1 242 1 l Yp rfl (by kernel_rfl) (by kernel_rfl) (by kernel_rfl)
theorem QDz (a:Addr):By Ya 242 (.pointer (some a)) 1 KV=KV (.pointer (some (a.add 1))):=Ce 242 1 a (m:=0) Yp rfl (by kernel_rfl)
theorem QD0 (l:List Value):B3 Ya 242 (.agg l.toArray) 2 KV=KV (.agg ((l.take 24).drop 2).toArray):=Rm 242 2 l 22 Yp rfl (by kernel_rfl) (by kernel_rfl) (by kernel_rfl)
theorem QD1 (a:Addr):By Ya 242 (.pointer (some a)) 2 KV=KV (.pointer (some (a.add 2))):=Ce 242 2 a (m:=21) Yp rfl (by kernel_rfl)
theorem QD2 (l:List Value):B3 Ya 242 (.agg l.toArray) 3 KV=KV (.agg ((l.take 46).drop 24).toArray):=Rm 242 3 l 22 Yp rfl (by kernel_rfl) (by kernel_rfl) (by kernel_rfl)
theorem QD3 (a:Addr):By Ya 242 (.pointer (some a)) 3 KV=KV (.pointer (some (a.add 24))):=Ce 242 3 a (m:=21) Yp rfl (by kernel_rfl)
theorem QD4 (l:List Value):B3 Ya 242 (.agg l.toArray) 4 KV=KV (.agg ((l.take 68).drop 46).toArray):=Rm 242 4 l 22 Yp rfl (by kernel_rfl) (by kernel_rfl) (by kernel_rfl)
theorem QD5 (a:Addr):By Ya 242 (.pointer (some a)) 4 KV=KV (.pointer (some (a.add 46))):=Ce 242 4 a (m:=21) Yp rfl (by kernel_rfl)
theorem QNz:Ya.szo 243=some 1:=by kernel_rfl
theorem QN0 (a:Addr):Bf Ya 243 (.pointer (some a)) w KV=∃ v,w.cell? a=some v/\KV v:=Qf 243 a .u64 Gw
theorem QN1:Ya.szo 247=some 1:=by kernel_rfl
theorem QN2:Ya.szo 252=some 24:=by kernel_rfl
theorem QI8 (l:List Value) (k:IntKind) (i:Int):D4 Ya 252 (.agg l.toArray) (.int k i) KV=((0<=i/\i < ((24:Nat):Int))/\Bk l i.toNat KV):=Ma 252 l k i G6 (by kernel_rfl) (by kernel_rfl) (by kernel_rfl)
theorem QN3 (a:Addr) (k:IntKind) (i:Int):Cu Ya 252 (.pointer (some a)) (.int k i) KV=((0<=i/\i < ((24:Nat):Int))/\KV (.pointer (some (a.add (i.toNat * 1))))):=Md 252 5 a 24 1 k i G6 (by kernel_rfl)
theorem QN4:Ya.szo 268=some 20:=by kernel_rfl
theorem QI9 (l:List Value) (k:IntKind) (i:Int):D4 Ya 268 (.agg l.toArray) (.int k i) KV=((0<=i/\i < ((20:Nat):Int))/\Bk l i.toNat KV):=Ma 268 l k i G7 (by kernel_rfl) (by kernel_rfl) (by kernel_rfl)
theorem QN5 (a:Addr) (k:IntKind) (i:Int):Cu Ya 268 (.pointer (some a)) (.int k i) KV=((0<=i/\i < ((20:Nat):Int))/\KV (.pointer (some (a.add (i.toNat * 1))))):=Md 268 83 a 20 1 k i G7 (by kernel_rfl)
theorem QN6:Ya.szo 269=some 65:=by kernel_rfl
theorem QJa (l:List Value) (k:IntKind) (i:Int):D4 Ya 269 (.agg l.toArray) (.int k i) KV=((0<=i/\i < ((65:Nat):Int))/\Bk l i.toNat KV):=Ma 269 l k i G8 (by kernel_rfl) (by kernel_rfl) (by kernel_rfl)
theorem QN7 (a:Addr) (k:IntKind) (i:Int):Cu Ya 269 (.pointer (some a)) (.int k i) KV=((0<=i/\i < ((65:Nat):Int))/\KV (.pointer (some (a.add (i.toNat * 1))))):=Md 269 5 a 65 1 k i G8 (by kernel_rfl)
theorem QN8:Ya.szo 281=some 32:=by kernel_rfl
theorem QJb (l:List Value) (k:IntKind) (i:Int):D4 Ya 281 (.agg l.toArray) (.int k i) KV=((0<=i/\i < ((32:Nat):Int))/\Bk l i.toNat KV):=Ma 281 l k i G9 (by kernel_rfl) (by kernel_rfl) (by kernel_rfl)
theorem QN9 (a:Addr) (k:IntKind) (i:Int):Cu Ya 281 (.pointer (some a)) (.int k i) KV=((0<=i/\i < ((32:Nat):Int))/\KV (.pointer (some (a.add (i.toNat * 1))))):=Md 281 5 a 32 1 k i G9 (by kernel_rfl)
theorem QOa:Ya.szo 282=some 64:=by kernel_rfl
theorem QJc (l:List Value) (k:IntKind) (i:Int):D4 Ya 282 (.agg l.toArray) (.int k i) KV=((0<=i/\i < ((64:Nat):Int))/\Bk l i.toNat KV):=Ma 282 l k i Ha (by kernel_rfl) (by kernel_rfl) (by kernel_rfl)
theorem QOb (a:Addr) (k:IntKind) (i:Int):Cu Ya 282 (.pointer (some a)) (.int k i) KV=((0<=i/\i < ((64:Nat):Int))/\KV (.pointer (some (a.add (i.toNat * 1))))):=Md 282 5 a 64 1 k i Ha (by kernel_rfl)
end
attribute [go_sem ↓] QG6 ld3 QK6 QG8 QHa QCg QCi ld4 QK8 QK9 ld5 QLa QHc QHe ln9 ix9 QOw QOx QOy QOz ld9 QO2 QO4 QO5 QO6 QO8 QO9 QPa QHg QHh QHi QHj QHk QHl QHm QHn QPc QLc QLd QLe QLf QPd QPe QHo QPg QPh QPj QPk QPl QHr QHs QHt QHu QLg QPn QLh QPp QPr QHv QHw QHx QHy QHz QH0 QH1 QH2 QH3 QH4 QH5 QH6 QH7 QH8 QH9 QIa QPt QPu QPv QPw QPx QIb QIc QId QIe QLi QPz QP0 QP1 QIf QIg QIh QIi QP3 QP4 QP5 QP7 QP8 QP9 QQa QIj QCk Qyi QQc QQd QQf QIl QIn QCm QLk QLl QLm QCo QCp QCq QCr QLo QIp QIq QIr QIs QLp QLq QLs QLt QLu QLw QLx QLy QCs QCt QCu QCv QL0 QL1 QCw QCx QCy QCz QC0 Qyk QL4 QL5 QL6 QMa QMb QC2 QC3 QC4 QC5 QMd QIt QIu QIv QIw QMe QMf QMg QMh QMi QC6 QC7 QC8 QC9 QIx QMl QMn QIy QMo QMq QIz QMr QI0 QMt QMv QMw QDa QDb QDc QDd QDe QDf QMy QMz QDg QDh QM1 QM2 QM5 QM6 QM7 QDi QDj QDk QDl QNd QI1 QNe QNg QNh QDm QDn QDo QDp QI2 QNj QNl QI3 QI4 QI5 QI6 QNm QNn QNo QNp QNq QDq QDr QDs QDt QNt QNu QNv QDu QDv QI7 QNx QDw QDx QDy QDz QD0 QD1 QD2 QD3 QD4 QD5 QN0 QI8 QN3 QI9 QN5 QJa QN7 QJb QN9 QJc QOb
attribute [go_sem] sz2 QG7 Lj QK7 QG9 QHb QCh QCj sz4 Fj QLb QHd QHf sz9 QO0 QO1 QO3 QO7 QJw QPb QHp QHq QPf QPi QPm QPo QPq QPs QJx QPy Oc QP2 QP6 Wh QIk QCl Qyj QQb QQe QIm QIo QCn QLj QLn QAs QLr QLv QLz QL2 QC1 Qyl QL3 QL7 QL8 QL9 QMc N7 QMj QMk QMm QMp QMs QMu QMx QM0 QM3 QM4 QM8 QM9 QNa QNb QNc QNf QNi QNk QAt QNr QNs QNw QNy QNz QN1 QN2 QN4 QN6 QN8 QOa
theorem Io:(Ya.info? 5).map (fun i=>(i.zero.map Gm,i.size,i.bytes))=some (some #[.int .u8 0],1,1):=by kernel_rfl
theorem E2:(Ya.info? 3).map (fun i=>(i.zero.map Gm,i.size,i.bytes))=some (some #[.int .i64 0],1,8):=by kernel_rfl
theorem QAu:(Ya.info? 114).map (fun i=>(i.zero.map Gm,i.size,i.bytes))=some (some #[.slice none 0 0],1,24):=by kernel_rfl
theorem Ro {w:World}{a:Addr}{u:Value}{K:Value->Prop} (h:w.cell? a=some u):(∃ v,w.cell? a=some v/\K v)=K u:=by
 apply propext;constructor
 ·
  rintro ⟨v,hv,hk⟩;rw [h] at hv;cases hv;exact hk
 exact fun hk=>⟨u,h,hk⟩
theorem Qgh {P:Program}{N:Nat}{d:Option Tmp}{ty:Nat}{pos:String}{af:Array Edge}{gd:Option (Nat×Bool)}{e:Env}{w:World}{R:Env->World->(Env->World->Prop)->Prop}{K:Env->World->Prop}
  {f:FuncId}{ao:Array Operand}{ts:Array TypeId}{vs:List Value}{F:Value->World->Prop} (hf:∀ args w,(callFunc f args).run P w=.ok (.enter f args) w)
  (hD:Does P f vs.toArray w F) (ha:B9 e ao.toList fun us=>us=vs) (hC:∀ v w',F v w'->R (e.put d v) w' K) :
  Cq P N ⟨d,.call { callee:=.value (.func f),args:=ao,argTypes:=ts },ty,pos,af,gd⟩ e w R K :=
 Ac hf (Qgb _ _ _ ha fun us _ h=>h ▸ Yv hD hC)
theorem QJd {A B:Prop}:gB (! true) true A B=B:=by simp [gB]
theorem Qme {A B:Prop}:gB (! true) false A B=A:=by simp [gB]
theorem QJe {A B:Prop}:gB (! false) true A B=A:=by simp [gB]
theorem Qmf {A B:Prop}:gB (! false) false A B=B:=by simp [gB]
attribute [go_sem ↓] QJd Qme QJe Qmf
theorem Qgi (p:Addr):p.add 0=p:=by unfold Addr.add;simp
theorem W3 {α:Type}{l:List α}{i:Nat}{x:α} (h:l[i]? = some x):l.take (i+1)=l.take i++[x]:=by
 rw [X6,h];rfl
def N8 (l:List (List UInt8)):List Value:=l.map Aa
theorem Qu6 (l:List (List UInt8)):∀ v∈N8 l,v.oneCell'=true:=by
 intro v hv;obtain ⟨s,_,rfl⟩:=List.mem_map.1 hv;rfl
theorem Qu7 {l:List (List UInt8)}{i:Nat}{s:List UInt8} (h:l[i]? = some s):(N8 l)[i]? = some (Aa s):=by simp [N8,h]
theorem Qkv (l m:List (List UInt8)):N8 (l++m)=N8 l++N8 m:=by simp [N8]
theorem Zd {P:Program}{f:FuncId}{args:Array Value}{w:World}{v:Value} (h:∀ w,Calls P f args w fun e w'=>e=.returned v/\w'=w):Does P f args w fun u w'=>w'=w/\u=v :=
 fun n=>(h (w.drewN n)).mono fun e w' ⟨he,hw⟩=>⟨v,w,n,he,hw,rfl,rfl⟩
abbrev Bs:=List UInt8
def Bh (n:Nat):Bs:=Ym n 0
def E1 (n:Nat):Nat->Bs
 | 0=>[]
 | j+1=>Yt (48+n / 8 ^ j % 8)::E1 n j
def A4 (n width:Nat):Bs:=E1 n (width - 1)++[0]
theorem Qhl (n:Nat):∀ j,(E1 n j).length=j
 | 0=>rfl
 | j+1=>by simp [E1,Qhl n j]
theorem I6 (n:Nat) {width:Nat} (h:1<=width):(A4 n width).length=width:=by
 simp [A4,Qhl];omega
def Av (s:Bs) (w:Nat):Bs:=s++Bh (w - s.length)
theorem Ey (n:Nat):(Bh n).length=n:=by simp [Bh]
theorem Sw {s:Bs}{w:Nat} (h:s.length<=w):(Av s w).length=w:=by simp [Av,Ey];omega
def Kh (b:UInt8):Bool:=decide (48<=b.toNat) && decide (b.toNat<=55)
def Ld (n:Nat) (b:UInt8):Nat:=if n<=9007199254740992 then 8 * n+(b.toNat - 48) else n
def Pe (b:UInt8):Bool:=b == 32
def Pf (b:UInt8):Bool:=b == 32 || b == 0
def Rx (s:Bs):Bs:=(s.dropWhile Pe).takeWhile Kh
def S9 (s:Bs):Bs:=((s.dropWhile Pe).dropWhile Kh).dropWhile Pf
def Cr (s:Bs):Nat×Nat :=
 if S9 s≠[] then (0,150) else if 9007199254740992 < (Rx s).foldl Ld 0 then (0,3) else ((Rx s).foldl Ld 0,0)
theorem Qom (n j:Nat):Kh (Yt (48+n / 8 ^ j % 8))=true:=by
 have h:n / 8 ^ j % 8 < 8:=H2 _ (by omega)
 have h2:(Yt (48+n / 8 ^ j % 8)).toNat=48+n / 8 ^ j % 8:=by
  rw [X4];omega
 unfold Kh;rw [h2];simp only [Yk,decide_eq_true_eq];omega
theorem Qon (n:Nat):∀ j,∀ b∈E1 n j,Kh b=true
 | 0=>by simp [E1]
 | j+1=>by
  intro b hb;simp only [E1,Xg] at hb;rcases hb with rfl | hb
  ·
   exact Qom n j
  exact Qon n j b hb
theorem Qoo (n:Nat):∀ j m,m * 8 ^ j+n % 8 ^ j<=9007199254740992->(E1 n j).foldl Ld m=m * 8 ^ j+n % 8 ^ j
 | 0,m,_=>by simp [E1,Nat.mod_one]
 | j+1,m,h=>by
  have hd:n / 8 ^ j % 8 < 8:=H2 _ (by omega)
  have h2:(Yt (48+n / 8 ^ j % 8)).toNat=48+n / 8 ^ j % 8:=by
   rw [X4];omega
  have hp:0 < 8 ^ j:=Hb (by simp)
  have he:n % 8 ^ (j+1)=(n / 8 ^ j % 8) * 8 ^ j+n % 8 ^ j:=by
   rw [Xy,Nat.mod_mul,Y4 (8 ^ j),Ho]
  have hm:m<=9007199254740992:=by
   refine Um ?_ h;exact Um (Nat.le_mul_of_pos_right m (Hb (by simp))) (Nat.le_add_right _ _)
  have hq:(8 * m+n / 8 ^ j % 8) * 8 ^ j+n % 8 ^ j=m * 8 ^ (j+1)+n % 8 ^ (j+1):=by
   rw [he,Xy,Hz,Y4 8 m,U4,Y4 8 (8 ^ j)];omega
  rw [E1,Gf,Ld,if_pos hm,h2,U6,Qoo n j _ (by rw [hq];exact h),hq]
theorem Qbn {p:UInt8->Bool}:∀ {l:Bs},(∀ b∈l,p b=true)->l.dropWhile p=[]
 | [],_=>rfl
 | b::l,h=>by rw [Xi,if_pos (h b (by simp))];exact Qbn fun c hc=>h c (by simp [hc])
theorem R4 {p:UInt8->Bool}:∀ {l r:Bs},(∀ b∈l,p b=true)->(∀ b,r.head? = some b->p b=false)->(l++r).takeWhile p=l/\(l++r).dropWhile p=r
 | [],[],_,_=>⟨rfl,rfl⟩
 | [],b::r,_,h=>by
  have:=h b rfl;simp [Y3,Xi,this]
 | b::l,r,h,h2=>by
  have hb:=h b (by simp);obtain ⟨h3,h4⟩:=R4 (l:=l) (r:=r) (fun c hc=>h c (by simp [hc])) h2;simp [Y3,Xi,hb,h3,h4]
theorem Qti {n j:Nat} (hj:1<=j) (hn:n < 8 ^ j) (hm:n<=9007199254740992) {t:Bs} (ht:∀ b∈t,Pf b=true):Cr (E1 n j++0::t)=(n,0):=by
 have h0:(E1 n j++0::t).dropWhile Pe=E1 n j++0::t:=by
  obtain ⟨i,rfl⟩:∃ i,j=i+1:=⟨j - 1,by omega⟩;rw [E1,Xw,Xi,if_neg];have h:=Qom n i;generalize Yt (48+n / 8 ^ i % 8)=b at h;intro hb;simp only [Pe,beq_iff_eq] at hb;subst hb
  revert h
  decide
 obtain ⟨h1,h2⟩:=R4 (p:=Kh) (l:=E1 n j) (r:=0::t) (Qon n j) (by simp;decide);have hA:Rx (E1 n j++0::t)=E1 n j:=by rw [Rx,h0,h1]
 have hZ:S9 (E1 n j++0::t)=[]:=by
  rw [S9,h0,h2]
  exact Qbn fun b hb=>by
   rcases Xg.1 hb with rfl | hb
   ·
    rfl
   exact ht b hb
 have hf:=Qoo n j 0 (by rw [Y6 hn];omega);rw [Y6 hn,Nat.zero_mul,U9] at hf;rw [Cr,hA,hZ,hf,if_neg (by simp),if_neg (by omega)]
theorem Zq {n w:Nat} (hj:2<=w) (hn:n < 8 ^ (w - 1)) (hm:n<=9007199254740992):Cr (A4 n w)=(n,0) :=
 Qti (by omega) hn hm (by simp)
def Fr (s:Bs):Bs:=s.takeWhile fun b=>b != 0
theorem Qtj {s:Bs} (h:(0:UInt8) ∉ s) (w:Nat):Fr (Av s w)=s:=by
 rw [Fr,Av];refine (R4 (fun b hb=>?_) (fun b hb=>?_)).1
 ·
  simp only [bne_iff_ne];rintro rfl;exact h hb
 simp only [Bh,List.head?_replicate] at hb;split at hb
 ·
  cases hb
 cases hb;rfl
def Iz:Nat->Bs->Nat
 | _,[]=>0
 | i,b::r=>(if 148<=i/\i < 156 then 32 else b.toNat)+Iz (i+1) r
def Od (s:Bs):Nat:=Iz 0 s
theorem Tp:∀ (a b:Bs) (i:Nat),Iz i (a++b)=Iz i a+Iz (i+a.length) b
 | [],b,i=>by simp [Iz]
 | x::a,b,i=>by
  rw [Xw,Iz,Iz,Tp a b (i+1),Yq,show i+(a.length+1)=i+1+a.length by omega];omega
theorem Qly:∀ (a:Bs) (i:Nat),Iz i a<=255 * a.length
 | [],i=>by simp [Iz]
 | x::a,i=>by
  have h:=Qly a (i+1);have hx:x.toNat < 256:=x.toNat_lt;rw [Iz,Yq];split <;> omega
theorem Qop:∀ (a b:Bs) (i:Nat),a.length=b.length->148<=i->i+a.length<=156->Iz i a=Iz i b
 | [],[],i,_,_,_=>rfl
 | x::a,y::b,i,h,h1,h2=>by
  simp only [Yq] at h h2;rw [Iz,Iz,if_pos (by omega),if_pos (by omega),Qop a b (i+1) (by omega) (by omega) (by omega)]
abbrev ustarM:Bs:=[117,115,116,97,114,0,48,48]
def Bl (s:Bs) (a n:Nat):Bs:=(s.drop a).take n
def O6 (s:Bs):Prop :=
 ((Cr (Bl s 100 8)).2=0/\(Cr (Bl s 108 8)).2=0/\(Cr (Bl s 116 8)).2=0/\(Cr (Bl s 124 12)).2=0/\(Cr (Bl s 136 12)).2=0/\(Cr (Bl s 148 8)).2=0) /\
  (Cr (Bl s 148 8)).1=Od s/\Bl s 257 8=ustarM
instance (s:Bs):Decidable (O6 s):=by unfold O6;infer_instance
def Lw (s:Bs):Bs:=if Fr (Bl s 345 155)=[] then Fr (Bl s 0 100) else Fr (Bl s 345 155)++47::Fr (Bl s 0 100)
def Tc (s:Bs):UInt8:=if s.getD 156 0=0 then 48 else s.getD 156 0
def Pg (s:Bs):Option (Bs×Nat×UInt8) :=
 if O6 s/\Lw s≠[] then some (Lw s,(Cr (Bl s 124 12)).1,Tc s) else none
def Kz (name:Bs) (size:Nat):Bs:=Av name 100++(A4 420 8++(A4 0 8++(A4 0 8++(A4 size 12++A4 0 12))))
def Lx (kind:UInt8) (pre:Bs):Bs:=kind::(Bh 100++(ustarM++(Bh 32++(Bh 32++(A4 0 8++(A4 0 8++(Av pre 155++Bh 12)))))))
def Ly (pre name:Bs) (kind:UInt8) (size:Nat):Nat:=Od (Kz name size++(Bh 8++Lx kind pre))
def Eh (pre name:Bs) (kind:UInt8) (size:Nat):Bs:=Kz name size++(A4 (Ly pre name kind size) 7++32::Lx kind pre)
theorem St {name:Bs} (h:name.length<=100) (size:Nat):(Kz name size).length=148:=by
 simp [Kz,Sw h,I6]
theorem Mt {pre:Bs} (h:pre.length<=155) (kind:UInt8):(Lx kind pre).length=356:=by
 simp [Lx,Sw h,I6,Ey]
theorem Nc {pre name:Bs} (h:pre.length<=155) (h2:name.length<=100) (kind:UInt8) (size:Nat):(Eh pre name kind size).length=512:=by
 simp [Eh,St h2,Mt h,I6]
theorem B4 {a b:Bs}{i n k:Nat} (ha:a.length=k) (hi:k<=i):Bl (a++b) i n=Bl b (i - k) n:=by
 subst ha;simp [Bl,List.drop_append,Xp hi]
theorem N2 {a b:Bs}{i n:Nat} (ha:a.length=n) (hi:i=0):Bl (a++b) i n=a:=by
 subst ha hi;simp [Bl]
theorem Qtk {pre name:Bs} (h:pre.length<=155) (h2:name.length<=100) (kind:UInt8) (size:Nat):Ly pre name kind size < 8 ^ 6:=by
 have h3:=Qly (Kz name size++(Bh 8++Lx kind pre)) 0;rw [Yj,Yj,St h2,Mt h,Ey] at h3;have:Ly pre name kind size<=255 * 512:=h3;omega
theorem Qym {pre name:Bs} (h:pre.length<=155) (h2:name.length<=100) (hp:(0:UInt8) ∉ pre) (hn:(0:UInt8) ∉ name) (hne:pre=[]->name≠[]) {kind:UInt8} (hk:kind≠0) {size:Nat} (hs:size < 8 ^ 11) :
  Pg (Eh pre name kind size)=some (if pre=[] then name else pre++47::name,size,kind):=by
 have e:Eh pre name kind size=Av name 100++(A4 420 8++(A4 0 8++(A4 0 8++(A4 size 12++(A4 0 12++((A4 (Ly pre name kind size) 7++[32])++([kind]++(Bh 100++(ustarM++(Bh 32++(Bh 32++(A4 0 8++(A4 0 8++(Av pre 155++Bh 12)))))))))))))):=by
  simp [Eh,Kz,Lx,Yh]
 have hN:=Qtk h h2 kind size
 have hSum:Od (Eh pre name kind size)=Ly pre name kind size:=by
  rw [Ly,Eh,Od,Od,show (A4 (Ly pre name kind size) 7++32::Lx kind pre)=(A4 (Ly pre name kind size) 7++[32])++Lx kind pre by simp,Tp,Tp,Tp (Kz name size) (Bh 8++_),Tp (Bh 8),St h2];rw [Qop (A4 (Ly pre name kind size) 7++[32]) (Bh 8) _ (by simp [I6,Ey]) (by omega) (by simp [I6])];simp [I6,Ey]
 generalize Ly pre name kind size=N at *;generalize Eh pre name kind size=s at *;have l0:(Av name 100).length=100:=Sw h2;have lA:(A4 420 8).length=8:=I6 _ (by omega);have lB:(A4 0 8).length=8:=I6 _ (by omega);have lC:(A4 size 12).length=12:=I6 _ (by omega);have lD:(A4 0 12).length=12:=I6 _ (by omega);have lE:(A4 N 7++[32]).length=8:=by simp [I6]
 have lK:([kind]:Bs).length=1:=rfl;have lL:(Bh 100).length=100:=Ey _;have lM:ustarM.length=8:=rfl;have lQ:(Bh 32).length=32:=Ey _;have lP:(Av pre 155).length=155:=Sw h;have f0:Bl s 0 100=Av name 100:=by rw [e,N2 l0 rfl]
 have f1:Bl s 100 8=A4 420 8:=by rw [e,B4 l0 (by omega),N2 lA rfl]
 have f2:Bl s 108 8=A4 0 8:=by rw [e,B4 l0 (by omega),B4 lA (by omega),N2 lB rfl]
 have f3:Bl s 116 8=A4 0 8:=by rw [e,B4 l0 (by omega),B4 lA (by omega),B4 lB (by omega),N2 lB rfl]
 have f4:Bl s 124 12=A4 size 12:=by rw [e,B4 l0 (by omega),B4 lA (by omega),B4 lB (by omega),B4 lB (by omega),N2 lC rfl]
 have f5:Bl s 136 12=A4 0 12:=by rw [e,B4 l0 (by omega),B4 lA (by omega),B4 lB (by omega),B4 lB (by omega),B4 lC (by omega),N2 lD rfl]
 have f6:Bl s 148 8=A4 N 7++[32]:=by rw [e,B4 l0 (by omega),B4 lA (by omega),B4 lB (by omega),B4 lB (by omega),B4 lC (by omega),B4 lD (by omega),N2 lE rfl]
 have f7:Bl s 156 1=[kind]:=by rw [e,B4 l0 (by omega),B4 lA (by omega),B4 lB (by omega),B4 lB (by omega),B4 lC (by omega),B4 lD (by omega),B4 lE (by omega),N2 lK rfl]
 have f8:Bl s 257 8=ustarM:=by rw [e,B4 l0 (by omega),B4 lA (by omega),B4 lB (by omega),B4 lB (by omega),B4 lC (by omega),B4 lD (by omega),B4 lE (by omega),B4 lK (by omega),B4 lL (by omega),N2 lM rfl]
 have f9:Bl s 345 155=Av pre 155:=by rw [e,B4 l0 (by omega),B4 lA (by omega),B4 lB (by omega),B4 lB (by omega),B4 lC (by omega),B4 lD (by omega),B4 lE (by omega),B4 lK (by omega),B4 lL (by omega),B4 lM (by omega),B4 lQ (by omega),B4 lQ (by omega),B4 lB (by omega),B4 lB (by omega),N2 lP rfl]
 have hK:s.getD 156 0=kind:=by
  have h3:(s.drop 156).take 1=[kind]:=f7;have h4:((s.drop 156).take 1)[0]? = some kind:=by rw [h3];rfl
  rw [U5 (by omega),Ut] at h4;rw [Yc,h4];rfl
 have n0:Cr (A4 0 8)=(0,0):=Zq (by omega) (by decide) (by omega);have n1:Cr (A4 420 8)=(420,0):=Zq (by omega) (by decide) (by omega);have n2:Cr (A4 size 12)=(size,0):=Zq (by omega) hs (by omega);have n3:Cr (A4 0 12)=(0,0):=Zq (by omega) (by decide) (by omega)
 have n4:Cr (A4 N 7++[32])=(N,0):=by
  rw [A4,Yh];exact Qti (by omega) hN (by omega) (by simp;decide)
 have hP:Lw s=if pre=[] then name else pre++47::name:=by
  rw [Lw,f9,f0,Qtj hp,Qtj hn]
 have hP2:Lw s≠[]:=by
  rw [hP];split
  ·
   exact hne ‹_›
  simp
 have hO:O6 s:=by
  unfold O6;rw [f1,f2,f3,f4,f5,f6,f8,n0,n1,n2,n3,n4,hSum];simp
 rw [Pg,if_pos ⟨hO,hP2⟩,hP,f4,n2,Tc,hK,if_neg hk]
def Qh (p:Bs):Nat->Nat->Option (Bs×Bs)
 | 0,_=>none
 | f+1,i=>if i+1 < p.length/\i<=155 then (if p.getD i 0=47/\p.length - i - 1<=100 then some (p.take i,p.drop (i+1)) else Qh p f (i+1)) else none
def Ij (p:Bs):Option (Bs×Bs):=if p.length<=100 then some ([],p) else Qh p p.length 1
theorem Qec {p:Bs}:∀ {f i:Nat}{r:Bs×Bs},Qh p f i=some r->∃ k,i<=k/\k+1 < p.length/\k<=155/\p.getD k 0=47/\p.length - k - 1<=100/\r=(p.take k,p.drop (k+1))
 | 0,i,r,h=>by simp [Qh] at h
 | f+1,i,r,h=>by
  rw [Qh] at h;split at h
  ·
   rename_i h1;split at h
   ·
    rename_i h2;cases h;exact ⟨i,Ue _,h1.1,h1.2,h2.1,h2.2,rfl⟩
   obtain ⟨k,hk,hr⟩:=Qec h;exact ⟨k,by omega,hr⟩
  cases h
theorem Wx {p pre nm:Bs} (h:Ij p=some (pre,nm)) (hp:p≠[]):pre.length<=155/\nm.length<=100/\(pre=[]->nm≠[])/\(if pre=[] then nm else pre++47::nm)=p:=by
 rw [Ij] at h;split at h
 ·
  cases h;exact ⟨by simp,by omega,fun _=>hp,by simp⟩
 obtain ⟨k,h1,h2,h3,h4,h5,h6⟩:=Qec h;cases h6
 have hne:p.take k≠[]:=by
  intro hh;have:=congrArg U1 hh;simp only [Uc,List.length_nil] at this;omega
 refine ⟨by simp;omega,by simp;omega,fun hh=>absurd hh hne,?_⟩;rw [if_neg hne]
 have h7:p[k]? = some 47:=by
  rw [Yc] at h4;rw [Yr (by omega)] at h4 ⊢;simpa using h4
 have h8:p.drop k=47::p.drop (k+1):=by
  rw [Xc (by omega)];rw [Yr (by omega)] at h7;simp at h7;rw [h7]
 rw [<- h8,Yz]
theorem Qa2 {p:Bs} (h:Ij p=none):100 < p.length:=by
 rw [Ij] at h;split at h
 ·
  cases h
 omega
def F2 (x:Bs):Bs:=x++Bh ((512 - x.length % 512) % 512)
theorem Rh (x:Bs):(F2 x).length=(x.length+511) / 512 * 512:=by
 rw [F2,Yj,Ey];omega
def Ph (b:UInt8):Bool:=decide (48<=b.toNat) && decide (b.toNat<=57)
def O7 (n:Nat) (b:UInt8):Nat:=if n<=9007199254740992 then 10 * n+(b.toNat - 48) else n
def Oe (s:Bs):Option Nat :=
 if s=[]∨(s.getD 0 0=48/\s≠[48]) then none else if s.all Ph then (if 9007199254740992 < s.foldl O7 0 then none else some (s.foldl O7 0)) else none
def Cw (b:UInt8) (s:Bs):Bs:=s.takeWhile fun c=>c != b
def Mh (b:UInt8) (s:Bs):Bs:=s.drop ((Cw b s).length+1)
theorem Zr {b:UInt8}{a:Bs} (h:b ∉ a) (r:Bs):Cw b (a++b::r)=a:=by
 refine (R4 (fun c hc=>?_) (fun c hc=>?_)).1
 ·
  simp only [bne_iff_ne];rintro rfl;exact h hc
 simp only [List.head?_cons,Option.some.injEq] at hc;subst hc;simp
theorem Qyn {b:UInt8}{a:Bs} (h:b ∉ a):Cw b a=a:=by
 have:=(R4 (p:=fun c=>c != b) (l:=a) (r:=[]) (fun c hc=>by simp only [bne_iff_ne];rintro rfl;exact h hc) (by simp)).1;rw [Yy] at this;exact this
theorem Qyo {b:UInt8}{a:Bs} (h:b ∉ a) (r:Bs):Mh b (a++b::r)=r:=by
 rw [Mh,Zr h];simp
def Of:Nat->Bs->List (Bs×Bs)->Option (List (Bs×Bs))
 | 0,_,_=>none
 | f+1,s,out=>if s=[] then some out else
  match Oe (Cw 32 s) with
  | none=>none
  | some n=>if 32∈s/\n<=s.length/\(Cw 32 s).length+2<=n/\s.getD (n - 1) 0=10 then
    (if 61∈(s.take (n - 1)).drop ((Cw 32 s).length+1)/\Cw 61 ((s.take (n - 1)).drop ((Cw 32 s).length+1))≠[] then
     Of f (s.drop n) (out++[(Cw 61 ((s.take (n - 1)).drop ((Cw 32 s).length+1)),Mh 61 ((s.take (n - 1)).drop ((Cw 32 s).length+1)))])
    else none) else none
def Mi (s:Bs):Option (List (Bs×Bs)):=if 262144 < s.length then none else Of (s.length+1) s []
def K0 (n:Nat):Bs:=[Yt (48+n / 100 % 10),Yt (48+n / 10 % 10),Yt (48+n % 10)]
abbrev pathW:Bs:=[112,97,116,104]
def Ei (p:Bs):Bs:=K0 (p.length+10)++32::(pathW++61::(p++[10]))
theorem Su (p:Bs):(Ei p).length=p.length+10:=by simp [Ei,K0]
theorem QJf:∀ n,n < 140->110<=n->Oe (K0 n)=some n/\(32:UInt8) ∉ K0 n:=by decide +kernel
theorem Qyp {p:Bs} (h1:100 < p.length) (h2:p.length<=120):Mi (Ei p)=some [(pathW,p)]:=by
 have hl:=Su p;have hd:=QJf (p.length+10) (by omega) (by omega);rw [Mi,if_neg (by omega),hl,Of];have hc:Cw 32 (Ei p)=K0 (p.length+10):=Zr hd.2 _;have hdl:(K0 (p.length+10)).length=3:=rfl
 have hx:((Ei p).take (p.length+10 - 1)).drop (3+1)=pathW++61::p:=by
  have:Ei p=(K0 (p.length+10)++[32])++((pathW++61::p)++[10]):=by simp [Ei]
  rw [this,List.drop_take,List.drop_left' (by simp [K0]),List.take_left' (by simp)]
 have hn:(Ei p).getD (p.length+10 - 1) 0=10:=by
  have:Ei p=(K0 (p.length+10)++32::(pathW++61::p))++[10]:=by simp [Ei]
  rw [this,Yc,Yn (by simp [K0])];simp [K0]
 rw [if_neg (by intro h;rw [h] at hl;simp at hl)];simp only [hc,hd.1,hdl,hx,hn];rw [if_pos ⟨by simp [Ei],by omega,by omega,trivial⟩,if_pos ⟨by simp,by rw [Zr (by decide)];simp⟩,Zr (by decide),Qyo (by decide)];rw [Xp (by omega)];obtain ⟨k,hk⟩:∃ k,p.length+10=k+1:=⟨p.length+9,by omega⟩;rw [hk,Of,if_pos rfl];rfl
def A0:Nat->Nat->List Bool
 | 0,_=>[]
 | n+1,v=>v.testBit n::A0 n v
def Rs:List Bool->Nat->Nat
 | [],a=>a
 | b::l,a=>Rs l (2 * a+b.toNat)
def Bc (l:List Bool):Nat:=Rs l 0
theorem Ct (n v:Nat):(A0 n v).length=n:=by
 induction n with
 | zero=>rfl
 | succ n ih=>simp [A0,ih]
theorem Qyq (l:List Bool):∀ a,Rs l a=a * 2 ^ l.length+Rs l 0:=by
 induction l with
 | nil=>intro a;simp [Rs]
 | cons b l ih =>
  intro a;simp only [Rs];rw [ih (2 * a+b.toNat),ih (2 * 0+b.toNat),Yq,Xy,Hz,Nat.mul_zero,U9];rw [show 2 * a * 2 ^ l.length=a * (2 ^ l.length * 2) by rw [Y4 2 a,U4,Y4 2]];omega
theorem Zs:Bc []=0:=rfl
theorem So (b:Bool) (l:List Bool):Bc (b::l)=b.toNat * 2 ^ l.length+Bc l:=by
 unfold Bc;simp only [Rs];rw [Qyq l];simp
theorem Qed (l m:List Bool):Bc (l++m)=Bc l * 2 ^ m.length+Bc m:=by
 induction l with
 | nil=>simp [Zs]
 | cons b l ih =>
  rw [Xw,So,ih,So,Yj,H0,Hz,U4];omega
theorem Qu8 (l:List Bool) (b:Bool):Bc (l++[b])=2 * Bc l+b.toNat:=by
 rw [Qed,So];simp [Zs,Y4]
theorem K8 (l:List Bool):Bc l < 2 ^ l.length:=by
 induction l with
 | nil=>simp [Zs]
 | cons b l ih =>
  rw [So,Yq,Xy];cases b <;> simp <;> omega
theorem Os (n v:Nat):Bc (A0 n v)=v % 2 ^ n:=by
 induction n with
 | zero=>simp [A0,Zs,Nat.mod_one]
 | succ n ih =>
  rw [A0,So,ih,Ct,Xy,Nat.mod_mul,Xf];rcases Uu (v / 2 ^ n) with h | h <;> rw [h] <;> simp
  omega
theorem Qcw (m n v:Nat):A0 (m+n) v=A0 m (v / 2 ^ n)++A0 n v:=by
 induction m with
 | zero=>simp [A0]
 | succ m ih =>
  rw [show m+1+n=(m+n)+1 by omega,A0,ih,A0,Xw,Nat.testBit_div_two_pow,Ho m n]
theorem Qjc (n v:Nat):∀ k,n<=k->A0 n (v % 2 ^ k)=A0 n v:=by
 intro k
 induction n with
 | zero=>intro _;rfl
 | succ n ih =>
  intro h;rw [A0,A0,ih (by omega),Nat.testBit_mod_two_pow];simp [show n < k by omega]
theorem Qb8 (l:List Bool):A0 l.length (Bc l)=l:=by
 induction l with
 | nil=>rfl
 | cons b l ih =>
  rw [Yq,A0,So];have h:=K8 l
  have e1:(b.toNat * 2 ^ l.length+Bc l).testBit l.length=b:=by
   rw [Xf,Y4,Nat.mul_add_div (Gg _),U7 h];cases b <;> simp
  have e2:A0 l.length (b.toNat * 2 ^ l.length+Bc l)=l:=by
   have:=Qjc l.length (b.toNat * 2 ^ l.length+Bc l) l.length (Ue _);rw [Y4,Nat.mul_add_mod,Y6 h,ih] at this;rw [Y4];exact this.symm
  rw [e1,e2]
theorem T2 (n v:Nat):∀ i,i < n->(A0 n v)[i]? = some (v.testBit (n - 1 - i)):=by
 induction n with
 | zero=>intro i h;omega
 | succ n ih =>
  intro i h;rw [A0];cases i with
  | zero=>simp
  | succ i =>
   rw [List.getElem?_cons_succ,ih i (by omega)]
   congr 2;omega
def At (l:List UInt8):List Bool:=l.flatMap fun b=>A0 8 b.toNat
theorem Qb9:At []=[]:=rfl
theorem Q7 (b:UInt8) (l:List UInt8):At (b::l)=A0 8 b.toNat++At l:=rfl
theorem R5 (l m:List UInt8):At (l++m)=At l++At m:=by simp [At]
theorem D0 (l:List UInt8):(At l).length=8 * l.length:=by
 induction l with
 | nil=>rfl
 | cons b l ih=>rw [Q7,Yj,Ct,ih,Yq];omega
theorem Qca (l:List UInt8):∀ i,i < 8 * l.length->(At l)[i]? = some ((l.getD (i / 8) 0).toNat.testBit (7 - i % 8)):=by
 induction l with
 | nil=>intro i h;simp at h
 | cons b l ih =>
  intro i h;rw [Q7];by_cases h8:i < 8
  ·
   rw [Yo (by rw [Ct];exact h8),T2 8 _ i h8];simp [show i / 8=0 by omega,show i % 8=i by omega]
  rw [Yn (by rw [Ct];omega),Ct,ih (i - 8) (by simp at h;omega)];rw [show i / 8=(i - 8) / 8+1 by omega,show (i - 8) % 8=i % 8 by omega];rfl
theorem Qqz {a b:UInt8} (h:A0 8 a.toNat=A0 8 b.toNat):a=b:=by
 have:=congrArg Bc h;rw [Os,Os,Y6 a.toNat_lt,Y6 b.toNat_lt] at this;exact UInt8.toNat_inj.1 this
theorem Qgj:∀ (l m:List UInt8),At l=At m->l=m
 | [],[],_=>rfl
 | [],b::m,h=>by have:=congrArg U1 h;simp [D0] at this
 | a::l,[],h=>by have:=congrArg U1 h;simp [D0] at this
 | a::l,b::m,h=>by
  rw [Q7,Q7] at h;obtain ⟨h1,h2⟩:=List.append_inj h (by simp [Ct]);rw [Qqz h1,Qgj l m h2]
def S2:List Bool->Nat->Nat->List UInt8
 | [],acc,k=>if k=0 then [] else [Yt (acc * 2 ^ (8 - k))]
 | b::l,acc,k=>if k=7 then Yt (2 * acc+b.toNat)::S2 l 0 0 else S2 l (2 * acc+b.toNat) (k+1)
def Bi (l:List Bool):List UInt8:=S2 l 0 0
theorem Qcb (n:Nat):A0 n 0=Ym n false:=by
 induction n with
 | zero=>rfl
 | succ n ih=>rw [A0,ih,Nat.zero_testBit];rfl
theorem Tq {n:Nat} (h:n < 256):(Yt n).toNat=n:=by
 rw [X4];exact Y6 h
theorem Qm9 (l:List Bool):∀ (acc k:Nat),k<=7->acc < 2 ^ k ->
  At (S2 l acc k)=A0 k acc++l++Ym (8 * ((k+l.length+7) / 8) - (k+l.length)) false:=by
 induction l with
 | nil =>
  intro acc k hk ha;rw [S2];by_cases h0:k=0
  ·
   subst h0;simp [Qb9,A0]
  rw [if_neg h0,Q7,Qb9,Yy,Yy]
  have hlt:acc * 2 ^ (8 - k) < 256:=by
   have e:2 ^ k * 2 ^ (8 - k)=256:=by rw [<- H0,show k+(8 - k)=8 by omega]
   rw [<- e];exact Nat.mul_lt_mul_of_pos_right ha (Gg _)
  rw [Tq hlt];have:=Qcw k (8 - k) (acc * 2 ^ (8 - k));rw [show k+(8 - k)=8 by omega,Nat.mul_div_cancel _ (Gg _)] at this;rw [this]
  congr 1
  have h2:=Qjc (8 - k) (acc * 2 ^ (8 - k)) (8 - k) (Ue _);rw [Nat.mul_mod_left,Qcb] at h2;rw [<- h2]
  congr 1
  simp only [List.length_nil];omega
 | cons b l ih =>
  intro acc k hk ha;rw [S2];have hb:b.toNat<=1:=by cases b <;> simp
  have hbits:A0 (k+1) (2 * acc+b.toNat)=A0 k acc++[b]:=by
   have:=Qcw k 1 (2 * acc+b.toNat);rw [this]
   congr 1
   ·
    congr 1;simp;omega
   simp only [A0];cases b <;> simp [Nat.testBit_zero]
  have hlt:2 * acc+b.toNat < 2 ^ (k+1):=by rw [Xy];omega
  by_cases h7:k=7
  ·
   subst h7;rw [if_pos rfl,Q7,Tq (by simpa using hlt),hbits,ih 0 0 (by omega) (by simp)];simp only [A0,X0,Yh,Yq,Gi]
   congr 4
   omega
  rw [if_neg h7,ih _ (k+1) (by omega) hlt,hbits];simp only [Yh,Yq,Gi];rw [show k+1+l.length=k+(l.length+1) by omega]
theorem Nx (l:List Bool):At (Bi l)=l++Ym (8 * ((l.length+7) / 8) - l.length) false:=by
 have:=Qm9 l 0 0 (by omega) (by simp);simpa [A0,Bi] using this
theorem L4 (l:List Bool):(Bi l).length=(l.length+7) / 8:=by
 have:=congrArg U1 (Nx l);rw [D0,Yj,Gj] at this;omega
theorem Zt {o:List UInt8}{l:List Bool} (h:At o=l++Ym (8 * ((l.length+7) / 8) - l.length) false):o=Bi l :=
 Qgj _ _ (by rw [h,Nx])
theorem Qcx (o:List UInt8):Bi (At o)=o:=by
 refine (Zt ?_).symm;rw [D0,show 8 * ((8 * o.length+7) / 8) - 8 * o.length=0 by omega];simp
theorem Qbo (l m:List Bool) (h:l.length % 8=0):Bi (l++m)=Bi l++Bi m:=by
 refine (Zt ?_).symm;rw [R5,Nx,Nx,show 8 * ((l.length+7) / 8) - l.length=0 by omega,Gv,Yy,Yh,Yj]
 congr 3;omega
theorem Qee (l:List Bool):Bi (l++[false])=if l.length % 8=0 then Bi l++[0] else Bi l:=by
 symm
 refine Zt ?_;have e:(l++[false]).length=l.length+1:=by simp
 rw [e];split
 ·
  rename_i h;rw [R5,Nx,show 8 * ((l.length+7) / 8) - l.length=0 by omega,Gv,Yy,Yh]
  congr 1
  rw [show 8 * ((l.length+1+7) / 8) - (l.length+1)=7 by omega];rfl
 rename_i h;rw [Nx,Yh]
 congr 1
 rw [show 8 * ((l.length+7) / 8) - l.length=(8 * ((l.length+1+7) / 8) - (l.length+1))+1 by omega,List.replicate_succ];rfl
theorem Qna (k j:Nat) (hk:k<=7) (hj:j<=7):(128 / 2 ^ k).testBit (7 - j)=decide (j=k):=by
 have:128 / 2 ^ k=2 ^ (7 - k):=by
  rw [show (128:Nat)=2 ^ 7 from rfl,Nat.pow_div hk (by omega)]
 rw [this,Nat.testBit_two_pow];by_cases h:j=k
 ·
  subst h;simp
 simp [h];omega
theorem Qq0 (l:List Bool) (y:UInt8) (hy:y.toNat=((Bi (l++[false])).getD (l.length / 8) 0).toNat ||| 128 / 2 ^ (l.length % 8)) :
  Bi (l++[true])=(Bi (l++[false])).set (l.length / 8) y:=by
 symm
 refine Zt ?_;have hol:(Bi (l++[false])).length=(l.length+8) / 8:=by rw [L4,Yj];rfl
 have hob:=Nx (l++[false]);generalize Bi (l++[false])=o at *;have e:(l++[true]).length=l.length+1:=by simp
 have e2:(l++[false]).length=l.length+1:=by simp
 rw [e];rw [e2] at hob;generalize hr:8 * ((l.length+1+7) / 8) - (l.length+1)=r at *;apply List.ext_getElem?;intro j;by_cases hj:j < 8 * o.length
 ·
  rw [Qca _ j (by simpa using hj)];have h1:=Qca o j hj;rw [hob] at h1;by_cases hji:j / 8=l.length / 8
  ·
   have h2:(o.set (l.length / 8) y).getD (j / 8) 0=y:=by
    rw [Yc,hji,List.getElem?_set_self (by omega)];rfl
   rw [h2,hy,Nat.testBit_or,Qna _ _ (by omega) (by omega),<- hji];by_cases hjl:j=l.length
   ·
    subst hjl;simp
   have hm:¬ j % 8=l.length % 8:=by omega
   rw [decide_eq_false hm,Bool.or_false,<- h1];by_cases hlt:j < l.length
   ·
    rw [Yh,Yh,Yo hlt,Yo hlt]
   rw [Yn (by simp;omega),Yn (by simp;omega)];simp
  have h2:(o.set (l.length / 8) y).getD (j / 8) 0=o.getD (j / 8) 0:=by
   rw [Yc,List.getElem?_set_ne (fun h=>hji h.symm),Yc]
  rw [h2,<- h1];have hjl:¬ j=l.length:=by omega
  by_cases hlt:j < l.length
  ·
   rw [Yh,Yh,Yo hlt,Yo hlt]
  rw [Yn (by simp;omega),Yn (by simp;omega)];simp
 rw [Gk (by rw [D0];simp;omega),Gk];simp;omega
theorem Qe3 (n v k:Nat) (h:k < n):(A0 n v).take (k+1)=(A0 n v).take k++[v.testBit (n - 1 - k)]:=by
 rw [X6,T2 n v k h];rfl
theorem Qa3 (v i:Nat):(v / 2 ^ i) % 2=(v.testBit i).toNat:=by
 rw [Xf];rcases Uu (v / 2 ^ i) with h | h <;> rw [h] <;> rfl
def Dq (l:List Bool) (at_ n:Nat):Nat×Int:=if l.length < at_+n then (0,10) else (Bc ((l.drop at_).take n),0)
def C0:List Bool->Nat->Nat->Nat×Int
 | [],_,_=>(0,10)
 | false::_,_,n=>(n,0)
 | true::r,most,n=>if n=most then (0,3) else C0 r most (n+1)
def wr (g:Nat) (a:Option Addr) (cap:Nat) (l:List Bool):Res :=
 Res.pair (Ye g 127 [.slice a (Bi l).length cap,.int .i64 l.length]) (Hp 5 1 a (Bi l).length cap (An (Bi l)))
theorem Q2 (w:World):Does Ya 32 #[] w fun v w'=>∃ g,Heap w [] w' [wr g none 0 []]/\v=.pointer (some ⟨g,0,none⟩):=by
 refine En [] 3 Tryz.func32 ?_;refine VS [] ?_;refine VQ [0] fun K hK=>?_;refine Eb ?_;refine Qs ?_;have hH:=(Zl (w:=w) (E:=5) (sz:=1)).box 127 [.slice none 0 0,.int .i64 0];generalize w.alloc (Ys [Value.slice none 0 0,.int .i64 0].toArray 127)=w1 at *;apply hK;clear hK;refine Ad (A2 rfl rfl ?_);exact ⟨_,hH.pair,rfl⟩
theorem Iq (g:Nat) (a:Option Addr) (cap:Nat) (l:List Bool) (v:Nat) (n:Nat) (w:World) (hn:n<=64) (hv:v < 2 ^ n) (hl:l.length<=100000000000000)
  (hL:Heap w (wr g a cap l).foot w [wr g a cap l]):Does Ya 33 #[.pointer (some ⟨g,0,none⟩),.int .u64 v,.int .i64 n] w fun x w'=>∃ a' cap',Heap w (wr g a cap l).foot w' [wr g a' cap' (l++A0 n v)]/\x=.int .i64 0:=by
 have hv64:v < 18446744073709551616:=Uv hv (Gn (n:=2) (by omega) hn);have hdiv:v / 2 ^ n=0:=U7 hv;refine En [.pointer (some ⟨g,0,none⟩),.int .u64 v,.int .i64 n] 81 Tryz.func33 ?_;refine VS [0,1,2] ?_;refine VS [0,1,2,9] ?_;refine Ae rfl rfl (fun h=>by cases h) (fun h=>Ab ?_);refine VQ [0,1,2,26] fun K hK=>?_
 have hsh:Bx Gp ((n:Int) % 18446744073709551616)=n:=by
  rw [U2 (by omega) (by omega),Bx,show IntKind.u64.bits=64 from rfl];omega
 have hdv:(v:Int) / 2 ^ n=0:=by
  have e:((2:Int) ^ n)=((2 ^ n:Nat):Int):=by push_cast;rfl
  rw [e,<- Int.natCast_ediv,hdiv];rfl
 rw [hsh,hdv]
 suffices out:∀ b:Bool,(b=true ↔ False)->K [(0,.pointer (some ⟨g,0,none⟩)),(1,.int .u64 v),(2,.int .i64 n),(26,.bool b)] w by (repeat' (first | exact out _ _ (by first | omega | (simp;done) | (simp;omega)) | exact out _ (by first | omega | (simp;done) | (simp;omega)) | refine ⟨fun _=>?_,fun _=>?_⟩ | refine Qo ?_))
 intro b hb;apply hK;clear hK;refine Ae rfl rfl (fun h=>(hb.1 h).elim) (fun h=>Ab ?_);refine VS [0,1,7] ?_;refine VB ?_;refine Au [0,1,7] (fun m e w'=>∃ (k:Nat) (i:Int) (a':Option Addr) (cap':Nat),Is e [(0,.pointer (some ⟨g,0,none⟩)),(1,.int .u64 v),(7,.int .i64 i)]/\Heap w (wr g a cap l).foot w' [wr g a' cap' (l++(A0 n v).take k)]/\k<=n/\i=(n:Int) - 1 - k/\m=n - k) n ?_ ?_
 ·
  refine Qs ?_;exact ⟨0,_,a,cap,rfl,by simpa using hL,by omega,by omega,rfl⟩
 rintro m e w1 ⟨k,i,a1,cap1,rfl,hH,hk,hi,rfl⟩;refine VS [0,1,7,30] ?_;refine VD (fun h=>?_) (fun h=>?_)
 ·
  refine Ab ?_;refine VB ?_;have htk:=Qe3 n v k (by omega);have hlen:(l++(A0 n v).take k).length=l.length+k:=by rw [Yj,Uc,Ct];omega
  generalize hl1:l++(A0 n v).take k=l1 at *;have htl:=L4 l1;have hH1:=hH.unpair;refine VQ [0,1,7,38] fun K hK=>?_;(repeat first | refine Qo ?_ | refine Qp ?_ | (refine Gc hH1 ?_;(try refine Qs ?_)));apply hK;clear hK;(repeat refine Ax ?_);refine Dk [0,1,7] (fun e w'=>∃ a2 cap2,Is e [(0,.pointer (some ⟨g,0,none⟩)),(1,.int .u64 v),(7,.int .i64 i)]/\Heap w (wr g a cap l).foot w' [Hp 5 1 a2 (Bi (l1++[false])).length cap2 (An (Bi (l1++[false]))),Ye g 127 [.slice a2 (Bi (l1++[false])).length cap2,.int .i64 l1.length]]) ?_ ?_
  ·
   refine VD (fun h=>?_) (fun h=>Ab ?_)
   ·
    have e1:Bi (l1++[false])=Bi l1++[0]:=by rw [Qee,if_pos (by omega)]
    refine VQ [0,1,7] fun K hK=>?_;(repeat first | refine Qo ?_ | refine Qp ?_ | (refine Gc hH1 ?_;(try refine Qs ?_)));refine Kp (xs:=[.const (.int .u8 0)]) Yg Fj rfl rfl rfl (by omega) ?_;refine Qs ?_;refine ⟨by simp [Gm],?_⟩;refine Cl ?_;refine Qs ?_;refine Sn hH1 1 (0) rfl Yg Io (by first | rfl | (simp;done) | omega) (fun h=>by (first | omega | (simp;done) | (simp;omega))) fun a' cap' w5 hc' hH2=>?_;(try refine Qs ?_);rw [<- e1] at hH2 ⊢;refine Af ?_;refine Qs ?_;refine Al hH2 0 (vs:=[.slice a' (Bi (l1++[false])).length cap']) rfl rfl (by kernel_rfl) (by first | decide | (simp;done) | (simp;omega)) (by simp [Yb]) fun w6 hH3=>?_;(try refine Qs ?_);apply hK;clear hK;refine Ah ?_;refine Qs ?_;exact ⟨_,_,rfl,hH3.perm (List.Perm.swap _ _ _)⟩
   have e1:Bi (l1++[false])=Bi l1:=by rw [Qee,if_neg (by omega)]
   rw [e1];refine Ah ?_;refine Qs ?_;exact ⟨_,_,rfl,hH1.perm (List.Perm.swap _ _ _)⟩
  clear hH hH1;rintro e w2 ⟨a2,cap2,rfl,hH⟩;generalize hb:v.testBit (n - 1 - k)=b at htk;have hi2:i=((n - 1 - k:Nat):Int):=by omega
  have hsh2:Bx Gp (i % 18446744073709551616)=n - 1 - k:=by
   rw [hi2,U2 (by omega) (by omega),Bx,show IntKind.u64.bits=64 from rfl];omega
  have hsh3:(v:Int) / 2 ^ (n - 1 - k)=((v / 2 ^ (n - 1 - k):Nat):Int):=by
   rw [Int.natCast_ediv];push_cast;rfl
  have hle:v / 2 ^ (n - 1 - k)<=v:=Uj _ _;have hbit:=Qa3 v (n - 1 - k);rw [hb] at hbit;refine VQ [0,1,7,53] fun K hK=>?_;rw [hsh2,hsh3];clear hsh3;generalize v / 2 ^ (n - 1 - k)=q at *;(repeat first | refine Qo ?_ | refine Qp ?_ | (refine Gc hH ?_;(try refine Qs ?_)));rw [show Gu 1=1 from rfl,X7,Hc,hbit];apply hK;clear hK;(repeat refine Ax ?_);refine Dk [0,1,7] (fun e w'=>Is e [(0,.pointer (some ⟨g,0,none⟩)),(1,.int .u64 v),(7,.int .i64 i)]/\Heap w (wr g a cap l).foot w' [Hp 5 1 a2 (Bi (l1++[b])).length cap2 (An (Bi (l1++[b]))),Ye g 127 [.slice a2 (Bi (l1++[b])).length cap2,.int .i64 l1.length]]) ?_ ?_
  ·
   cases b with
   | false =>
    refine Ae rfl rfl (fun h=>by simp at h) (fun h=>Ab ?_);refine Ah ?_;refine Qs ?_;exact ⟨rfl,hH⟩
   | true =>
    refine Ae rfl rfl (fun h=>?_) (fun h=>by simp at h);have hol:(Bi (l1++[false])).length=(l1.length+8) / 8:=by rw [L4,Yj];rfl
    have hlen2:(Bi (l1++[true])).length=(Bi (l1++[false])).length:=by rw [L4,L4];simp
    have htrue:=Qq0 l1;generalize Bi (l1++[true])=o2 at *;generalize Bi (l1++[false])=o at *;obtain ⟨ga,rfl⟩:=Ir (hH.at 0 rfl) (by omega);have hsh4:Bx IntKind.u8 (((l1.length:Int) % 8) % 18446744073709551616)=l1.length % 8:=S5 (by omega) (by simp [Hq];omega) (by decide);refine VL [0,1,7] 20 fun K hK=>?_;(repeat first | refine Qo ?_ | refine Qp ?_ | (refine Gc hH ?_;(try refine Qs ?_)));have e1:((l1.length:Int) / 8).toNat=l1.length / 8:=by omega
    rw [hsh4,e1,show (128:Int) / 2 ^ (l1.length % 8)=((128 / 2 ^ (l1.length % 8):Nat):Int) from Pz 128 _];have hm128:128 / 2 ^ (l1.length % 8)<=128:=Uj _ _;have hx256:=(o.getD (l1.length / 8) 0).toNat_lt;generalize hmm:128 / 2 ^ (l1.length % 8)=mm at *
    have hy:(Yt ((o.getD (l1.length / 8) 0).toNat ||| mm)).toNat=(o.getD (l1.length / 8) 0).toNat ||| mm :=
     Tq (Nat.or_lt_two_pow (n:=8) hx256 (by omega))
    have ho2:=htrue _ hy;rw [X7,<- hy];generalize (Yt ((o.getD (l1.length / 8) 0).toNat ||| mm))=y at *;refine ⟨⟨by omega,by omega⟩,⟨by omega,by omega⟩,⟨by omega,by omega⟩,?_⟩;refine Af ?_;refine Qs ?_;refine Ej hH 0 (o:=(l1.length / 8)) (vs:=[.int .u8 y.toNat]) rfl (by first | exact (B0 _ _ _).symm | rfl | simp [B0]) rfl (by kernel_rfl) (by first | omega | (simp;done) | (simp;omega) | (simp [An,Bb];omega) | (rw [natsV_len];simp;omega)) (by simp [Yb]) fun w6 hH2=>?_;(try refine Qs ?_);simp only [Gl,Di (An o) _ _ (show l1.length / 8 < (An o).length by rw [Pw];omega),Tt,<- ho2,Hd] at hH2;apply hK;clear hK;refine Ah ?_;refine Qs ?_;rw [hlen2];exact ⟨rfl,hH2⟩
  clear hH;rintro e w3 ⟨rfl,hH⟩;refine VQ [0,1,7] fun K hK=>?_;(repeat first | refine Qo ?_ | refine Qp ?_ | (refine Gc hH ?_;(try refine Qs ?_)));refine Af ?_;refine Qs ?_;refine Al hH 1 (vs:=[.int .i64 (l1.length+1)]) rfl rfl (by kernel_rfl) (by first | decide | (simp;done) | (simp;omega)) (by simp [Yb]) fun w6 hH2=>?_;(try refine Qs ?_);apply hK;clear hK;refine Ao ?_;refine VS [0,1,7] ?_;refine Ah ?_;refine Qs ?_;refine ⟨n - (k+1),by omega,k+1,i - 1,a2,cap2,rfl,?_,by omega,by omega,rfl⟩;rw [htk,<- Yh,hl1];have hH3:=(hH2.perm (List.Perm.swap _ _ _)).pair;have e:wr g a2 cap2 (l1++[b])=Res.pair (Ye g 127 [.slice a2 (Bi (l1++[b])).length cap2,.int .i64 (l1.length+1)]) (Hp 5 1 a2 (Bi (l1++[b])).length cap2 (An (Bi (l1++[b])))):=by simp [wr]
  rw [e];exact hH3
 refine As rfl ?_;refine VS [6] ?_;refine Ad (A2 rfl rfl ?_);have e:(A0 n v).take k=A0 n v:=X8 (by rw [Ct];omega);rw [e] at hH;exact ⟨_,_,hH,rfl⟩
theorem Py (g:Nat) (a:Option Addr) (cap:Nat) (l:List Bool) (w:World) (hL:(wr g a cap l).holds w) :
  Does Ya 36 #[.pointer (some ⟨g,0,none⟩)] w fun x w'=>w'=w/\x=Aa (Bi l):=by
 obtain ⟨h1,h2,_⟩:=hL;refine En [.pointer (some ⟨g,0,none⟩)] 10 Tryz.func36 ?_;refine VS [0] ?_;refine VS [0,4] ?_;refine Ae rfl rfl (fun h=>by cases h) (fun h=>Ab ?_);refine VQ [2] fun K hK=>?_;refine ⟨_,Aj h1 rfl,?_⟩;refine Qs ?_;refine ⟨_,K4 (Az h2),?_⟩;apply hK;clear hK;exact Ad (A2 rfl rfl ⟨rfl,rfl⟩)
theorem Oy (g:Nat) (a:Option Addr) (cap:Nat) (l:List Bool) (w:World) (hL:(wr g a cap l).holds w) :
  Does Ya 37 #[.pointer (some ⟨g,0,none⟩)] w fun x w'=>w'=w/\x=.int .i64 l.length:=by
 obtain ⟨h1,h2,_⟩:=hL;refine En [.pointer (some ⟨g,0,none⟩)] 9 Tryz.func37 ?_;refine VS [0] ?_;refine VS [0,4] ?_;refine Ae rfl rfl (fun h=>by cases h) (fun h=>Ab ?_);refine VQ [2] fun K hK=>?_;refine ⟨_,Aj h1 rfl,?_⟩;apply hK;clear hK;exact Ad (A2 rfl rfl ⟨rfl,rfl⟩)
def rd (g gs:Nat) (s:List UInt8) (at_:Nat):Res :=
 Res.pair (Ye g 174 [.func (.func 111) #[] #[.pointer (some ⟨gs,0,none⟩)],.int .i64 at_,.int .i64 (8 * s.length:Nat)]) (Ye gs 9 [Aa s])
theorem Qoq (s:List UInt8) (gs i:Nat) (w:World) (hi:i < 8 * s.length) (hs:s.length<=1000000000000000000) (hc:w.cell? ⟨gs,0,none⟩=some (Aa s)) :
  Does Ya 111 #[.int .i64 i,.pointer (some ⟨gs,0,none⟩)] w fun x w'=>w'=w/\x=.int .u64 ((At s).getD i false).toNat:=by
 have hb:=Qca s i hi;have hlt:=(s.getD (i / 8) 0).toNat_lt;have e1:((i:Int) / 8).toNat=i / 8:=by omega
 have hsh:Bx Gp ((7 - (i:Int) % 8) % 18446744073709551616)=7 - i % 8:=S5 (by omega) (by simp [Hq];omega) (by decide);have hbit:=Qa3 (s.getD (i / 8) 0).toNat (7 - i % 8);refine En [.int .i64 i,.pointer (some ⟨gs,0,none⟩)] 15 Tryz.func111 ?_;refine VS [0,1] ?_;refine VQ [3] fun K hK=>?_;refine ⟨_,hc,?_⟩;refine Qs ?_;(repeat first | refine Qo ?_ | refine Qp ?_);rw [hsh,e1,U2 (by omega) (by omega),Pz];have hle:=Uj (s.getD (i / 8) 0).toNat (2 ^ (7 - i % 8));generalize (s.getD (i / 8) 0).toNat / 2 ^ (7 - i % 8)=q at *;(repeat first | refine Qo ?_ | refine Qp ?_);rw [show Gu 1=1 from rfl,X7,Hc,hbit];apply hK;clear hK;have hb2:(At s).getD i false=(s.getD (i / 8) 0).toNat.testBit (7 - i % 8):=by rw [Yc,hb];rfl
 rw [hb2];exact Ad (A2 rfl rfl ⟨rfl,rfl⟩)
theorem Q3 (s:List UInt8) (at_:Int) (w:World) (ha:I64 at_) (hs:s.length<=1000000000000000000) :
  Does Ya 68 #[Aa s,.int .i64 at_] w fun v w' =>
   ((at_ < 0∨8 * (s.length:Int) < at_)/\Heap w [] w' []/\v=.pointer none)∨(¬ (at_ < 0∨8 * (s.length:Int) < at_)/\∃ g gs,Heap w [] w' [rd g gs s at_.toNat]/\v=.pointer (some ⟨g,0,none⟩)):=by
 obtain ⟨ha1,ha2⟩:=ha;refine En [Aa s,.int .i64 at_] 21 Tryz.func68 ?_;refine VQ [1,2] fun K hK=>?_;refine Eb ?_;refine Qs ?_;have hH:=(Xh w).box 9 [Aa s];generalize w.alloc (Ys [Aa s].toArray 9)=w1 at *;generalize w.heap.size=gs at *;apply hK;clear hK;refine VQ [1,2,13] fun K hK=>?_
 suffices out:∀ b:Bool,(b=true ↔ at_ < 0∨8 * (s.length:Int) < at_)->K [(1,.int .i64 at_),(2,.pointer (some ⟨gs,0,none⟩)),(13,.bool b)] w1 by
  refine ⟨fun h=>⟨_,Aj (hH.at 0 rfl) rfl,?_⟩,fun h=>out _ (by simp [h])⟩;refine Qs ?_;(repeat' (first | exact out _ _ (by first | omega | (simp;done) | (simp;omega)) | exact out _ (by first | omega | (simp;done) | (simp;omega)) | refine ⟨fun _=>?_,fun _=>?_⟩ | refine Qo ?_))
 intro b hb;apply hK;clear hK;refine Vi (fun h=>?_) (fun h=>Ab ?_)
 ·
  refine VS [4] ?_;exact Ad (A2 rfl rfl (.inl ⟨hb.1 h,hH.sub (by simp),rfl⟩))
 have hg:¬ (at_ < 0∨8 * (s.length:Int) < at_):=fun h'=>by rw [hb.2 h'] at h;cases h
 clear h hb;obtain ⟨at_,rfl⟩:∃ n:Nat,at_=n:=⟨at_.toNat,by omega⟩;refine VQ [4] fun K hK=>?_;(repeat first | refine Qo ?_ | refine Qp ?_ | (refine Gc hH ?_;(try refine Qs ?_)));refine Eb ?_;refine Qs ?_;have hH2:=hH.box 174 [.func (.func 111) #[] #[.pointer (some ⟨gs,0,none⟩)],.int .i64 at_,.int .i64 (8 * s.length:Nat)];apply hK;clear hK;refine Ad (A2 rfl rfl (.inr ⟨hg,_,gs,?_,rfl⟩));exact hH2.pair
theorem Vp (g gs at_:Nat) (s:List UInt8) (w:World) (hL:(rd g gs s at_).holds w) :
  Does Ya 122 #[.pointer (some ⟨g,0,none⟩)] w fun x w'=>w'=w/\x=.int .i64 at_:=by
 obtain ⟨h1,h2,_⟩:=hL;refine En [.pointer (some ⟨g,0,none⟩)] 9 Tryz.func122 ?_;refine VS [0] ?_;refine VS [0,4] ?_;refine Ae rfl rfl (fun h=>by cases h) (fun h=>Ab ?_);refine VQ [2] fun K hK=>?_;refine ⟨_,Aj h1 rfl,?_⟩;apply hK;clear hK;exact Ad (A2 rfl rfl ⟨rfl,rfl⟩)
theorem Ot (g gs:Nat) (s:List UInt8) (at_ n:Nat) (w:World) (hn:n<=64) (ha:at_<=8 * s.length) (hs:s.length<=1000000000000000)
  (hL:Heap w (rd g gs s at_).foot w [rd g gs s at_]):Does Ya 69 #[.pointer (some ⟨g,0,none⟩),.int .i64 n] w fun x w' =>
   (8 * s.length < at_+n/\w'=w/\x=.tuple #[.int .u64 0,.int .i64 10])∨(at_+n<=8 * s.length/\Heap w (rd g gs s at_).foot w' [rd g gs s (at_+n)]/\x=.tuple #[.int .u64 (Bc (((At s).drop at_).take n)),.int .i64 0]):=by
 have hH:=hL.unpair;have hbl:=D0 s;refine En [.pointer (some ⟨g,0,none⟩),.int .i64 n] 62 Tryz.func69 ?_;refine VS [0,1] ?_;refine VQ [0,1,16] fun K hK=>?_;refine ⟨_,Aj (hH.at 0 rfl) rfl,?_⟩;refine Qs ?_;apply hK;clear hK;refine Ae rfl rfl (fun h=>by cases h) (fun h=>Ab ?_);refine VQ [0,1,22] fun K hK=>?_
 suffices out:∀ b:Bool,(b=true ↔ False)->K [(0,.pointer (some ⟨g,0,none⟩)),(1,.int .i64 n),(22,.bool b)] w by (repeat' (first | exact out _ _ (by first | omega | (simp;done) | (simp;omega)) | exact out _ (by first | omega | (simp;done) | (simp;omega)) | refine ⟨fun _=>?_,fun _=>?_⟩ | refine Qo ?_))
 intro b hb;apply hK;clear hK;refine Ae rfl rfl (fun h=>(hb.1 h).elim) (fun h=>Ab ?_);clear hb h;refine Vq [0,1,33] fun K hK=>?_;(repeat first | refine Qo ?_ | refine Qp ?_ | (refine Gc hH ?_;(try refine Qs ?_)));apply hK;clear hK;refine VD (fun h=>?_) (fun h=>Ab ?_)
 ·
  refine VS [4,5] ?_;exact Ad (A7 rfl rfl rfl (.inl ⟨by omega,rfl,rfl⟩))
 refine VS [0,1,6] ?_;refine VS [0,1,6,34,35] ?_;refine VB ?_;refine Au [0,1,6,34,35] (fun m e w'=>∃ (k:Nat),Is e [(0,.pointer (some ⟨g,0,none⟩)),(1,.int .i64 n),(6,.int .u64 (Bc (((At s).drop at_).take k))),(34,.int .i64 n),(35,.int .i64 k)]/\Is w' w/\k<=n/\m=n - k) n ?_ ?_
 ·
  refine Qs ?_;exact ⟨0,rfl,rfl,by omega,rfl⟩
 rintro m e w' ⟨k,rfl,rfl,hk,rfl⟩;refine VS [0,1,6,34,35,36] ?_;(repeat refine Ax ?_);refine VD (fun h=>?_) (fun h=>?_)
 ·
  refine Ab ?_;refine VB ?_;have hlt:=K8 (((At s).drop at_).take k);rw [Uc,List.length_drop,Nat.min_eq_left (by omega)] at hlt;have h63:Bc (((At s).drop at_).take k) < 2 ^ 63:=Uv hlt (Gn (by omega) (by omega));have htk:=Mq false (l:=(At s).drop at_) (i:=k) (by simp;omega);have hnext:=Qu8 (((At s).drop at_).take k) (((At s).drop at_).getD k false);rw [<- htk] at hnext;have hgd:((At s).drop at_).getD k false=(At s).getD (at_+k) false:=by simp [Yc]
  rw [hgd] at hnext;refine VS [0,1,6,7,34,35] ?_;refine VH w' (Ext.refl _) [0,1,6,34,35] [(0,true),(1,true),(2,true),(3,true),(4,true),(5,true),(6,true),(7,true),(8,true),(9,true),(10,true),(11,true),(12,false),(13,true),(14,true)] fun K hK=>?_;(repeat first | refine Qo ?_ | refine Qp ?_ | (refine Gc hH ?_;(try refine Qs ?_)));have hbd:=Qoq s gs (at_+k) w' (by omega) (by omega) (Aj (hH.at 1 rfl) rfl);rw [Int.natCast_add] at hbd;refine Cc ?_;refine Qs ?_;refine Xd Tryz.call111 hbd ?_;rintro v w3 ⟨rfl,rfl⟩;refine Qs ?_;refine ⟨Ext.refl _,?_⟩;rw [show Bx Gp 1=1 from rfl];generalize (At s).getD (at_+k) false=b at *
  have hor:Bc (((At s).drop at_).take k) * 2 ||| b.toNat=2 * Bc (((At s).drop at_).take k)+b.toNat:=by
   rw [Y4];cases b
   ·
    simp
   exact (Nat.two_pow_add_eq_or_of_lt (i:=1) (b:=1) (by omega) _).symm
  rw [Ho] at htk;generalize Bc (((At s).drop at_).take k)=q at *;have e1:(q:Int) * 2 ^ 1 % 18446744073709551616=((q * 2:Nat):Int):=by omega
  rw [e1];refine ⟨⟨by omega,by omega⟩,⟨by cases b <;> simp,by cases b <;> simp⟩,?_⟩;simp only [X7];rw [hor,<- hnext];apply hK;clear hK;refine Ao ?_;refine VS [0,1,6,34,35] ?_;refine Ah ?_;refine Qs ?_;exact ⟨n - (k+1),by omega,k+1,rfl,rfl,by omega,rfl⟩
 refine As rfl ?_;refine VQ [6] fun K hK=>?_;(repeat first | refine Qo ?_ | refine Qp ?_ | (refine Gc hH ?_;(try refine Qs ?_)));have hkn:k=n:=by omega
 subst hkn;refine Af ?_;refine Qs ?_;refine Al hH 0 (vs:=[.int .i64 (at_+k:Nat)]) rfl rfl (by kernel_rfl) (by first | decide | (simp;done) | (simp;omega)) (by simp [Yb]) fun w6 hH2=>?_;(try refine Qs ?_);apply hK;clear hK;refine VS [4,5] ?_;exact Ad (A7 rfl rfl rfl (.inr ⟨by omega,hH2.pair,rfl⟩))
theorem Qq1 (g gs:Nat) (s:List UInt8) (at_ most:Nat) (w:World) (hm:most<=1000) (ha:at_<=8 * s.length) (hs:s.length<=1000000000000000)
  (hL:Heap w (rd g gs s at_).foot w [rd g gs s at_]):Does Ya 123 #[.pointer (some ⟨g,0,none⟩),.int .i64 most] w fun x w' =>
   x=.tuple #[.int .i64 (C0 ((At s).drop at_) most 0).1,.int .i64 (C0 ((At s).drop at_) most 0).2]/\(((C0 ((At s).drop at_) most 0).2≠0/\w'=w)∨((C0 ((At s).drop at_) most 0).2=0/\at_+(C0 ((At s).drop at_) most 0).1+1<=8 * s.length/\(C0 ((At s).drop at_) most 0).1<=most/\Heap w (rd g gs s at_).foot w' [rd g gs s (at_+(C0 ((At s).drop at_) most 0).1+1)])):=by
 have hH:=hL.unpair;have hbl:=D0 s;refine En [.pointer (some ⟨g,0,none⟩),.int .i64 most] 56 Tryz.func123 ?_;refine VS [0,1] ?_;refine VQ [0,1,15] fun K hK=>?_;refine ⟨_,Aj (hH.at 0 rfl) rfl,?_⟩;refine Qs ?_;apply hK;clear hK;refine Ae rfl rfl (fun h=>by cases h) (fun h=>Ab ?_);refine VS [0,1,17] ?_;refine Ae rfl rfl (fun h=>by simp at h;omega) (fun h=>Ab ?_);refine VS [0,1,6] ?_;refine VB ?_;generalize hu:C0 ((At s).drop at_) most 0=u at *;refine Au [0,1,6] (fun m e w'=>∃ (k:Nat),Is e [(0,.pointer (some ⟨g,0,none⟩)),(1,.int .i64 most),(6,.int .i64 k)]/\Is w' w/\k<=most/\at_+k<=8 * s.length/\C0 ((At s).drop (at_+k)) most k=u/\m=8 * s.length - (at_+k)) (8 * s.length - at_) ?_ ?_
 ·
  refine Qs ?_;exact ⟨0,rfl,rfl,by omega,by omega,hu,rfl⟩
 rintro m e w' ⟨k,rfl,rfl,hk,hk2,hk3,rfl⟩;refine Vq [0,1,6,28] fun K hK=>?_;(repeat first | refine Qo ?_ | refine Qp ?_ | (refine Gc hH ?_;(try refine Qs ?_)));apply hK;clear hK;refine VD (fun h=>?_) (fun h=>?_)
 ·
  refine Ab ?_;refine VB ?_;have hdr:=drop_getD false (l:=At s) (i:=at_+k) (by omega);rw [hdr] at hk3;have hbd:=Qoq s gs (at_+k) w' (by omega) (by omega) (Aj (hH.at 1 rfl) rfl);rw [Int.natCast_add] at hbd;refine VL [0,1,6,42] 10 fun K hK=>?_;(repeat first | refine Qo ?_ | refine Qp ?_ | (refine Gc hH ?_;(try refine Qs ?_)));refine Cc ?_;refine Qs ?_;refine Xd Tryz.call111 hbd ?_;rintro v w3 ⟨rfl,rfl⟩;refine Qs ?_;apply hK;clear hK;generalize (At s).getD (at_+k) false=b at *;cases b with
  | false =>
   refine Ae rfl rfl (fun h=>?_) (fun h=>by simp at h);rw [C0] at hk3;subst hk3;refine VQ [6] fun K hK=>?_;(repeat first | refine Qo ?_ | refine Qp ?_ | (refine Gc hH ?_;(try refine Qs ?_)));refine Af ?_;refine Qs ?_;refine Al hH 0 (vs:=[.int .i64 (at_+k+1:Nat)]) rfl rfl (by kernel_rfl) (by first | decide | (simp;done) | (simp;omega)) (by simp [Yb]) fun w6 hH2=>?_;(try refine Qs ?_);apply hK;clear hK;refine VS [4,5] ?_;exact Ad (A7 rfl rfl rfl ⟨rfl,.inr ⟨rfl,by simp only;omega,hk,hH2.pair⟩⟩)
  | true =>
   refine Ae rfl rfl (fun h=>by simp at h) (fun h=>Ab ?_);rw [C0] at hk3;refine VS [0,1,6,55] ?_;refine VD (fun h=>?_) (fun h=>Ab ?_)
   ·
    rw [if_pos (by omega)] at hk3;subst hk3;refine VS [4,5] ?_;exact Ad (A7 rfl rfl rfl ⟨rfl,.inl ⟨by simp,rfl⟩⟩)
   rw [if_neg (by omega)] at hk3;refine Ao ?_;refine VS [0,1,6] ?_;refine Ah ?_;refine Qs ?_;exact ⟨8 * s.length - (at_+(k+1)),by omega,k+1,rfl,rfl,by omega,by omega,hk3,rfl⟩
 refine As rfl ?_;rw [List.drop_of_length_le (by omega),C0] at hk3;subst hk3;refine VS [4,5] ?_;exact Ad (A7 rfl rfl rfl ⟨rfl,.inl ⟨by simp,rfl⟩⟩)
def Ay (l:List Bool):List Value:=[Aa (Bi l),.int .i64 l.length]
def Lu (l:List Bool):Value:=.agg (Ay l).toArray
theorem Qu9 (l:List Bool) (h:l.length % 8≠0):((Bi l).getD ((Bi l).length - 1) 0).toNat * 2 ^ (l.length % 8) % 256=0:=by
 have e:l=l.take (8 * (l.length / 8))++l.drop (8 * (l.length / 8)):=(Yz _ _).symm;have h1:(l.take (8 * (l.length / 8))).length % 8=0:=by rw [Uc];omega
 have h2:(l.drop (8 * (l.length / 8))).length=l.length % 8:=by rw [List.length_drop];omega
 have h3:Bi l=Bi (l.take (8 * (l.length / 8)))++Bi (l.drop (8 * (l.length / 8))):=by
  conv=>lhs;rw [e]
  exact Qbo _ _ h1
 generalize l.drop (8 * (l.length / 8))=m at *;generalize l.take (8 * (l.length / 8))=q at *;have h4:(Bi m).length=1:=by rw [L4,h2];omega
 have h5:=Nx m
 match hm:Bi m,h4 with
 | [x],_ =>
  rw [h3,hm];have:((Bi q++[x]).getD ((Bi q++[x]).length - 1) 0)=x:=by simp [Yc]
  rw [this];rw [hm,Q7,Qb9,Yy] at h5;have h6:=congrArg Bc h5;rw [Os,Qed,Gj] at h6
  have hz:Bc (Ym (8 * ((m.length+7) / 8) - m.length) false)=0:=by
   rw [<- Qcb,Os,Nat.zero_mod]
  rw [hz,h2,Y6 x.toNat_lt,Nat.add_zero,show 8 * ((l.length % 8+7) / 8) - l.length % 8=8 - l.length % 8 by omega] at h6;rw [h6,U4,<- H0,show 8 - l.length % 8+l.length % 8=8 by omega];exact Nat.mul_mod_left _ _
theorem Qyr (l:List Bool) (w:World) (hl:l.length<=1000000000000000000):Does Ya 67 #[Lu l] w fun x w'=>Heap w [] w' []/\x=.bool true:=by
 have htl:=L4 l;refine En [Lu l] 40 Tryz.func67 ?_;refine VQ [1] fun K hK=>?_;refine Eb ?_;refine Qs ?_;have hH:=(Xh w).box 70 (Ay l);rw [Lu];refine Qs ?_;generalize w.alloc (Ys (Ay l).toArray 70)=w1 at *;apply hK;clear hK;generalize w.heap.size=g at *;refine VQ [1,20] fun K hK=>?_;(repeat first | refine Qo ?_ | refine Qp ?_ | (refine Gc hH ?_;(try refine Qs ?_)))
 suffices out:∀ b:Bool,(b=true ↔ False)->K [(1,.pointer (some ⟨g,0,none⟩)),(20,.bool b)] w1 by
  refine ⟨fun _=>?_,fun h=>absurd h (by omega)⟩;(repeat first | refine Qo ?_ | refine Qp ?_ | (refine Gc hH ?_;(try refine Qs ?_)));exact out _ (by simp;omega)
 intro b hb;apply hK;clear hK;refine Ae rfl rfl (fun h=>(hb.1 h).elim) (fun h=>Ab ?_);clear h hb;refine Vq [2] fun K hK=>?_;(repeat first | refine Qo ?_ | refine Qp ?_ | (refine Gc hH ?_;(try refine Qs ?_)))
 suffices out:K [(2,.bool true)] by
  refine ⟨fun h=>?_,fun h=>?_⟩
  ·
   have hlb:=Qu9 l (by omega);(repeat first | refine Qo ?_ | refine Qp ?_ | (refine Gc hH ?_;(try refine Qs ?_)));have hsh:Bx IntKind.u8 (((l.length:Int) % 8) % 18446744073709551616)=l.length % 8:=S5 (by omega) (by simp [Hq];omega) (by decide);rw [hsh,Zm,show (((Bi l).getD ((Bi l).length - 1) 0).toNat * 2 ^ (l.length % 8):Nat)=_ from rfl];have e:((((Bi l).getD ((Bi l).length - 1) 0).toNat * 2 ^ (l.length % 8):Nat):Int) % 256=0:=by omega
   rw [e];exact out
  exact out
 apply hK;clear hK;exact Ad (A2 rfl rfl ⟨hH.sub (by simp),rfl⟩)
def Fc (ls:List (List Bool)):List Value:=ls.flatMap Ay
theorem Qnb (ls:List (List Bool)):∀ (i:Nat) (l:List Bool),ls[i]? = some l->∀ j u,(Ay l)[j]? = some u->(Fc ls)[i * 2+j]? = some u:=by
 induction ls with
 | nil=>intro i l h;simp at h
 | cons x ls ih =>
  intro i l h j u hu;have hj:j < 2:=by have:=(Xb.1 hu).1;simpa [Ay] using this
  cases i with
  | zero =>
   simp at h;subst h;simp only [Fc,Hr];rw [Yo (by simp [Ay];omega)];simpa using hu
  | succ i =>
   have:=ih i l (by simpa using h) j u hu;simp only [Fc,Hr] at this ⊢;rw [Yn (by simp [Ay];omega)];rw [<- this]
   congr 1
   simp [Ay];omega
theorem Qdp (ls:List (List Bool)) (p:Addr) (hp:p.spot=none) (cap:Nat) (w:World) (hl:RS w (some p) ls.length 2 (Fc ls)) (hs:ls.flatten.length<=10000000000000) (hls:ls.length<=1000000000) :
  Does Ya 35 #[.slice (some p) ls.length cap] w fun x w'=>Heap w [] w' []/\x=.tuple #[Lu ls.flatten,.int .i64 0]:=by
 refine En [.slice (some p) ls.length cap] 43 Tryz.func35 ?_;refine VQ [0,2] fun K hK=>?_;refine A6 (.agg #[.string ⟨#[]⟩,.int .i64 0]) (by kernel_rfl) ?_;refine Qs ?_;have hH:=(Xh w).box 70 [.string ⟨#[]⟩,.int .i64 0];generalize w.alloc (Ys [Hs ⟨#[]⟩,.int .i64 0].toArray 70)=w1 at *;generalize w.heap.size=gr at *;apply hK;clear hK;refine VQ [0,2,4] fun K hK=>?_;refine Ac Tryz.call32 ?_;refine Qs ?_;refine Yv (Q2 w1) ?_;rintro v w2 ⟨gw,hH2,rfl⟩;apply hK;clear hK;have hH3:=hH.call0 hH2;clear hH hH2;refine VS [2,4,11,12,13] ?_;refine VB ?_;refine Au [2,4,11,12,13] (fun m e w'=>∃ (i:Nat) (a:Option Addr) (c:Nat),Is e [(2,.pointer (some ⟨gr,0,none⟩)),(4,.pointer (some ⟨gw,0,none⟩)),(11,.slice (some p) ls.length cap),(12,.int .i64 ls.length),(13,.int .i64 i)]/\Heap w [] w' [wr gw a c (ls.take i).flatten,Ye gr 70 [.string ⟨#[]⟩,.int .i64 0]]/\i<=ls.length/\m=ls.length - i) ls.length ?_ ?_
 ·
  refine Qs ?_;exact ⟨0,none,0,rfl,hH3,by omega,rfl⟩
 clear hH3;rintro m e w' ⟨i,a,c,rfl,hH,hi,rfl⟩;refine VS [2,4,11,12,13,14] ?_;(repeat refine Ax ?_);refine VD (fun h=>?_) (fun h=>?_)
 ·
  refine Ab ?_;refine VB ?_;have hi':i < ls.length:=by omega
  have hli:ls[i]? = some ls[i]:=Yr hi';have htk:(ls.take (i+1)).flatten=(ls.take i).flatten++ls[i]:=by rw [X6,hli,He,Xz,List.flatten_singleton]
  have hfl:(ls.take (i+1)).flatten.length<=ls.flatten.length:=by
   have:ls.flatten=(ls.take (i+1)).flatten++(ls.drop (i+1)).flatten:=by rw [<- Xz,Yz]
   rw [this];simp
  rw [htk,Yj] at hfl;generalize hlx:ls[i]=l at *;generalize (ls.take i).flatten=acc at *;have htl:=L4 l;have hrd:=Qfa (hH.rs' hl) hp (i * 2) (Ay l) (fun j u hu=>Qnb ls i l hli j u hu);refine VQ [2,4,6,11,12,13] fun K hK=>?_;refine ⟨⟨by omega,by omega⟩,Ay l,⟨rfl,hrd⟩,?_⟩;refine A6 (.agg #[.string ⟨#[]⟩,.int .i64 0]) (by kernel_rfl) ?_;refine Qs ?_;have hH1:=hH.box 70 [.string ⟨#[]⟩,.int .i64 0];generalize w'.alloc (Ys [Hs ⟨#[]⟩,.int .i64 0].toArray 70)=w1 at *;generalize w'.heap.size=gb at *;refine Af ?_;refine Qs ?_;refine Al hH1 0 (vs:=Ay l) rfl rfl (by kernel_rfl) (by simp [Ay]) (by simp [Ay,Yb]) fun w2 hH2=>?_;have hH2:Heap w [] w2 [Ye gb 70 (Ay l),wr gw a c acc,Ye gr 70 [.string ⟨#[]⟩,.int .i64 0]]:=hH2;clear hH1 hH;apply hK;clear hK;refine VQ [2,4,6,11,12,13,19] fun K hK=>?_;refine ⟨Ay l,⟨rfl,Ca (hH2.at 0 rfl)⟩,?_⟩;refine Ac Tryz.call67 ?_;refine Qs ?_;refine Yv (Qyr l w2 (by omega)) ?_;rintro v w3 ⟨hHm,rfl⟩;refine Qs ?_;apply hK;clear hK;have hH3:=hH2.call0 hHm;clear hH2 hHm;refine Ae rfl rfl (fun h=>by simp at h) (fun h=>Ab ?_);refine VQ [2,4,6,7,11,12,13] fun K hK=>?_;(repeat first | refine Qo ?_ | refine Qp ?_ | (refine Gc hH3 ?_;(try refine Qs ?_)));refine Ac Tryz.call68 ?_;refine Qs ?_;refine Yv (Q3 (Bi l) 0 w3 (Gq (by omega) (by omega)) (by omega)) ?_;rintro v w4 (⟨hbad,_⟩ | ⟨_,grd,gs,hHr,rfl⟩)
  ·
   exact absurd hbad (by omega)
  apply hK;clear hK;have hH4:=hH3.call0 hHr;clear hH3 hHr;refine VQ [2,4,7,11,12,13,25,26] fun K hK=>?_;(repeat first | refine Qo ?_ | refine Qp ?_ | (refine Gc hH4 ?_;(try refine Qs ?_)));apply hK;clear hK;have hH5:Heap w [] w4 [rd grd gs (Bi l) 0,wr gw a c acc,Ye gr 70 [.string ⟨#[]⟩,.int .i64 0]]:=hH4.sub (by simp);clear hH4;refine VB ?_;refine Au [2,4,7,11,12,13,25,26] (fun m e w'=>∃ (k:Nat) (a:Option Addr) (c:Nat),Is e [(2,.pointer (some ⟨gr,0,none⟩)),(4,.pointer (some ⟨gw,0,none⟩)),(7,.pointer (some ⟨grd,0,none⟩)),(11,.slice (some p) ls.length cap),(12,.int .i64 ls.length),(13,.int .i64 i),(25,.int .i64 l.length),(26,.int .i64 k)]/\Heap w [] w' [rd grd gs (Bi l) k,wr gw a c (acc++l.take k),Ye gr 70 [.string ⟨#[]⟩,.int .i64 0]]/\k<=l.length/\m=l.length - k) l.length ?_ ?_
  ·
   refine Qs ?_;exact ⟨0,a,c,rfl,by simpa using hH5,by omega,rfl⟩
  clear hH5;rintro m e w5 ⟨k,a1,c1,rfl,hH,hk,rfl⟩;refine VS [2,4,7,11,12,13,25,26,27] ?_;(repeat refine Ax ?_);refine VD (fun h=>?_) (fun h=>?_)
  ·
   refine Ab ?_;refine VB ?_
   have htb:(At (Bi l)).getD k false=l.getD k false:=by
    rw [Nx,Yc,Yo (by omega),Yc]
   have hbl:=D0 (Bi l)
   have hnum:Bc (((At (Bi l)).drop k).take 1)=(l.getD k false).toNat:=by
    rw [drop_getD false (by omega),htb];cases l.getD k false <;> rfl
   refine VQ [2,4,7,8,11,12,13,25,26] fun K hK=>?_;refine Ac Tryz.call69 ?_;refine Qs ?_;refine Yv (Ot grd gs (Bi l) k 1 w5 (by omega) (by omega) (by omega) (hH.focus 0 rfl)) ?_;rintro v w6 (⟨hbad,_⟩ | ⟨_,hHr,rfl⟩)
   ·
    exact absurd hbad (by omega)
   rw [hnum];apply hK;clear hK;have hH2:=hH.call1 0 rfl hHr;clear hHr hH;have htl2:=L4 (acc++l.take k);have hbt:(l.getD k false).toNat < 2 ^ 1:=by cases l.getD k false <;> simp
   refine VQ [2,4,7,11,12,13,25,26] fun K hK=>?_;refine Ac Tryz.call33 ?_;refine Qs ?_;refine Yv (Iq gw a1 c1 (acc++l.take k) (l.getD k false).toNat 1 w6 (by omega) hbt (by simp;omega) (hH2.focus 1 rfl)) ?_;rintro v w7 ⟨a2,c2,hHw,rfl⟩;apply hK;clear hK;have hH3:=hH2.call1 1 rfl hHw;clear hHw hH2;have hb1:A0 1 (l.getD k false).toNat=[l.getD k false]:=by cases l.getD k false <;> rfl
   rw [hb1,Yh,<- Mq false (show k < l.length by omega)] at hH3;refine Ao ?_;refine VS [2,4,7,11,12,13,25,26] ?_;refine Ah ?_;refine Qs ?_;exact ⟨l.length - (k+1),by omega,k+1,a2,c2,rfl,hH3,by omega,rfl⟩
  refine As rfl ?_;refine Ao ?_;refine VS [2,4,11,12,13] ?_;refine Ah ?_;refine Qs ?_;rw [X8 (by omega),<- htk] at hH;exact ⟨ls.length - (i+1),by omega,i+1,a1,c1,rfl,hH.sub (by simp),by omega,rfl⟩
 refine As rfl ?_;rw [X8 (by omega)] at hH;refine VQ [2,3] fun K hK=>?_;refine Ac Tryz.call36 ?_;refine Qs ?_;refine Yv (Py gw a c _ w' (hH.at 0 rfl)) ?_;rintro v w2 ⟨rfl,rfl⟩;refine Ac Tryz.call37 ?_;refine Qs ?_;refine Yv (Oy gw a c _ w2 (hH.at 0 rfl)) ?_;rintro v w3 ⟨rfl,rfl⟩;refine Qs ?_;refine Af ?_;refine Qs ?_;refine Al hH 1 (vs:=Ay ls.flatten) rfl rfl (by kernel_rfl) (by simp [Ay]) (by simp [Ay,Yb]) fun w4 hH2=>?_;have hH2:Heap w [] w4 [wr gw a c ls.flatten,Ye gr 70 (Ay ls.flatten)]:=hH2;apply hK;clear hK;refine Ad (I4 rfl rfl rfl (Cv (hH2.at 1 rfl) (by kernel_rfl) (by kernel_rfl) rfl ?_));exact ⟨hH2.sub (by simp),rfl⟩
open Go.Shelf
def Qcy:Go.Shelf.Ren:=⟨fun | 156=>87 | 165=>71 | 166=>53 | 169=>54 | 240=>95 | 241=>114 | 276=>134 | 277=>147 | n=>n,fun | 31=>148 | 9=>9 | 3=>3 | 4=>4 | 0=>0 | 20=>20 | 72=>105 | 76=>109 | 70=>103 | 37=>37 | 75=>108 | 127=>159 | 164=>193 | 5=>5 | 80=>86 | n=>n,fun | n=>n⟩
theorem Qhm:Go.Proofs.Lays.n156 Ya Qcy:={
 mixed:=by kernel_rfl
 f156:=Tryz.func87.trans (congrArg some (by kernel_rfl))
 f165:=Tryz.func71.trans (congrArg some (by kernel_rfl))
 f166:=Tryz.func53.trans (congrArg some (by kernel_rfl))
 f169:=Tryz.func54.trans (congrArg some (by kernel_rfl))
 f240:=Tryz.func95.trans (congrArg some (by kernel_rfl))
 f241:=Tryz.func114.trans (congrArg some (by kernel_rfl))
 f276:=Tryz.func134.trans (congrArg some (by kernel_rfl))
 f277:=Tryz.func147.trans (congrArg some (by kernel_rfl))
 t0:=Tryz.underlying0
 a0:=Tryz.isAgg0
 z0:=Tryz.sizeOf0
 v0:=Tryz.zeroValue0
 t3:=Yf
 a3:=Uf
 z3:=X9
 v3:=Xq
 t4:=Y5
 a4:=Gr
 z4:=Ga
 v4:=Uk
 t9:=Yi
 a9:=Ug
 z9:=Ua
 v9:=Xr
 t20:=Tryz.underlying20
 a20:=Tryz.isAgg20
 z20:=Tryz.sizeOf20
 v20:=Tryz.zeroValue20
 t31:=Yw
 a31:=Tryz.isAgg148
 z31:=Tryz.sizeOf148
 v31:=Tryz.zeroValue148
 t37:=Yg
 a37:=Tryz.isAgg37
 z37:=Tryz.sizeOf37
 v37:=Tryz.zeroValue37
 t70:=Xk
 a70:=Tryz.isAgg103
 z70:=Tryz.sizeOf103
 v70:=Ht
 t72:=Y8
 a72:=Tryz.isAgg105
 z72:=Tryz.sizeOf105
 v72:=Hu
 t75:=Tryz.underlying108
 a75:=Tryz.isAgg108
 z75:=Tryz.sizeOf108
 v75:=Tryz.zeroValue108
 t76:=Tryz.underlying109
 a76:=Tryz.isAgg109
 z76:=Tryz.sizeOf109
 v76:=Tryz.zeroValue109
 t127:=Hf
 a127:=Tryz.isAgg159
 z127:=Tryz.sizeOf159
 v127:=Hv
 t164:=Tryz.underlying193
 a164:=Tryz.isAgg193
 z164:=Tryz.sizeOf193
 v164:=Tryz.zeroValue193 }
def Qfo:Go.Shelf.Ren:=⟨fun | 219=>118 | 217=>131 | 225=>162 | 224=>163 | 267=>164 | 266=>171 | 314=>186 | n=>n,fun | 9=>9 | 3=>3 | 4=>4 | 5=>5 | 46=>128 | 146=>175 | 51=>78 | n=>n,fun | 1=>0 | n=>n⟩
theorem Qq2:Go.Proofs.Lays.n219 Ya Qfo:={
 mixed:=by kernel_rfl
 f217:=Tryz.func131.trans (congrArg some (by kernel_rfl))
 f219:=Tryz.func118.trans (congrArg some (by kernel_rfl))
 f224:=Tryz.func163.trans (congrArg some (by kernel_rfl))
 f225:=Tryz.func162.trans (congrArg some (by kernel_rfl))
 f266:=Tryz.func171.trans (congrArg some (by kernel_rfl))
 f267:=Tryz.func164.trans (congrArg some (by kernel_rfl))
 f314:=Tryz.func186.trans (congrArg some (by kernel_rfl))
 t3:=Yf
 a3:=Uf
 z3:=X9
 v3:=Xq
 t4:=Y5
 a4:=Gr
 z4:=Ga
 v4:=Uk
 t5:=Yl
 a5:=Gs
 z5:=Gb
 v5:=Ul
 t9:=Yi
 a9:=Ug
 z9:=Ua
 v9:=Xr
 t46:=Y7
 a46:=Tryz.isAgg128
 z46:=Tryz.sizeOf128
 v46:=Hw
 t51:=Yu
 a51:=Tryz.isAgg78
 z51:=Tryz.sizeOf78
 v51:=Tryz.zeroValue78
 t146:=Hg
 a146:=Tryz.isAgg175
 z146:=Tryz.sizeOf175
 v146:=Hx
 g1:=by kernel_rfl }
def Qfp:Go.Shelf.Ren:=⟨fun | 137=>88 | 217=>131 | 266=>171 | n=>n,fun | 9=>9 | 5=>5 | 3=>3 | n=>n,fun | n=>n⟩
theorem Qq3:Go.Proofs.Lays.n137 Ya Qfp:={
 mixed:=by kernel_rfl
 f137:=Tryz.func88.trans (congrArg some (by kernel_rfl))
 f217:=Tryz.func131.trans (congrArg some (by kernel_rfl))
 f266:=Tryz.func171.trans (congrArg some (by kernel_rfl))
 t3:=Yf
 a3:=Uf
 z3:=X9
 v3:=Xq
 t5:=Yl
 a5:=Gs
 z5:=Gb
 v5:=Ul
 t9:=Yi
 a9:=Ug
 z9:=Ua
 v9:=Xr }
def Qdi:Go.Shelf.Ren:=⟨fun | 144=>51 | 143=>93 | 219=>118 | 217=>131 | 225=>162 | 224=>163 | 267=>164 | 266=>171 | 314=>186 | n=>n,fun | 9=>9 | 4=>4 | 3=>3 | 5=>5 | 46=>128 | 146=>175 | 51=>78 | n=>n,fun | 1=>0 | n=>n⟩
theorem Qkw:Go.Proofs.Lays.n144 Ya Qdi:={
 mixed:=by kernel_rfl
 f143:=Tryz.func93.trans (congrArg some (by kernel_rfl))
 f144:=Tryz.func51.trans (congrArg some (by kernel_rfl))
 f217:=Tryz.func131.trans (congrArg some (by kernel_rfl))
 f219:=Tryz.func118.trans (congrArg some (by kernel_rfl))
 f224:=Tryz.func163.trans (congrArg some (by kernel_rfl))
 f225:=Tryz.func162.trans (congrArg some (by kernel_rfl))
 f266:=Tryz.func171.trans (congrArg some (by kernel_rfl))
 f267:=Tryz.func164.trans (congrArg some (by kernel_rfl))
 f314:=Tryz.func186.trans (congrArg some (by kernel_rfl))
 t3:=Yf
 a3:=Uf
 z3:=X9
 v3:=Xq
 t4:=Y5
 a4:=Gr
 z4:=Ga
 v4:=Uk
 t5:=Yl
 a5:=Gs
 z5:=Gb
 v5:=Ul
 t9:=Yi
 a9:=Ug
 z9:=Ua
 v9:=Xr
 t46:=Y7
 a46:=Tryz.isAgg128
 z46:=Tryz.sizeOf128
 v46:=Hw
 t51:=Yu
 a51:=Tryz.isAgg78
 z51:=Tryz.sizeOf78
 v51:=Tryz.zeroValue78
 t146:=Hg
 a146:=Tryz.isAgg175
 z146:=Tryz.sizeOf175
 v146:=Hx
 g1:=by kernel_rfl }
def Qfq:Go.Shelf.Ren:=⟨fun | 99=>23 | 206=>47 | n=>n,fun | 9=>9 | 4=>4 | 3=>3 | n=>n,fun | n=>n⟩
theorem Qq4:Go.Proofs.Lays.n99 Ya Qfq:={
 mixed:=by kernel_rfl
 f99:=Tryz.func23.trans (congrArg some (by kernel_rfl))
 f206:=Tryz.func47.trans (congrArg some (by kernel_rfl))
 t3:=Yf
 a3:=Uf
 z3:=X9
 v3:=Xq
 t4:=Y5
 a4:=Gr
 z4:=Ga
 v4:=Uk
 t9:=Yi
 a9:=Ug
 z9:=Ua
 v9:=Xr }
def Qe4:Go.Shelf.Ren:=⟨fun | 169=>54 | n=>n,fun | 70=>103 | 9=>9 | 0=>0 | 72=>105 | 37=>37 | 127=>159 | 3=>3 | 5=>5 | n=>n,fun | n=>n⟩
theorem Qnc:Go.Proofs.Lays.n169 Ya Qe4:={
 mixed:=by kernel_rfl
 f169:=Tryz.func54.trans (congrArg some (by kernel_rfl))
 t0:=Tryz.underlying0
 a0:=Tryz.isAgg0
 z0:=Tryz.sizeOf0
 v0:=Tryz.zeroValue0
 t3:=Yf
 a3:=Uf
 z3:=X9
 v3:=Xq
 t9:=Yi
 a9:=Ug
 z9:=Ua
 v9:=Xr
 t37:=Yg
 a37:=Tryz.isAgg37
 z37:=Tryz.sizeOf37
 v37:=Tryz.zeroValue37
 t70:=Xk
 a70:=Tryz.isAgg103
 z70:=Tryz.sizeOf103
 v70:=Ht
 t72:=Y8
 a72:=Tryz.isAgg105
 z72:=Tryz.sizeOf105
 v72:=Hu
 t127:=Hf
 a127:=Tryz.isAgg159
 z127:=Tryz.sizeOf159
 v127:=Hv }
theorem Wq:Go.Proofs.Builder.Extra Ya Qcy where
 sizeBuilder:=by kernel_rfl
 liesBuilder:=by kernel_rfl
 t5:=Yl
 a5:=Gs
 z5:=Gb
 v5:=Ul
 infoByte:=by kernel_rfl
 cellsByte:=by kernel_rfl
 sizeByte:=by kernel_rfl
 neB5:=by decide
open Go Go.Eng
theorem Qa4 (s:Bs) (w:World):Does Ya 88 #[Aa s,.int .u8 0] w fun v w'=>w'=w/\v=.int .i64 (Lib.indexByte s 0) :=
 Zd fun w=>Go.Proofs.Any.strings_IndexByte Qq3 ⟨s.toArray⟩ 0 w
theorem Qgk (s:Bs):Lib.indexByte s 0=if (0:UInt8)∈s then ((Fr s).length:Int) else -1:=by
 induction s with
 | nil=>rfl
 | cons b s ih =>
  rw [Lib.indexByte,ih];by_cases hb:b=0
  ·
   subst hb;simp [Fr]
  have h2:¬ (0:UInt8)=b:=fun e=>hb e.symm;rw [if_neg (by simpa using hb)];simp only [Xg,h2,false_or,Fr,Y3,bne_iff_ne,ne_eq,hb,not_false_eq_true,if_true,Yq];split
  ·
   rw [if_neg (by simp;try omega)];simp
  simp
theorem Qjd {s:Bs} (h:(0:UInt8) ∉ s):Lib.indexByte s 0=-1:=by rw [Qgk,if_neg h]
theorem Qor (n:Nat):Bh n++[0]=Bh (n+1):=by rw [Bh,Bh,List.replicate_succ']
theorem Qgl (n width:Nat) (w:World) (h1:2<=width) (h2:width<=20) (hn:n < 8 ^ (width - 1)) (hm:n<=9007199254740992) :
  Does Ya 92 #[.int .i64 n,.int .i64 width] w fun v w'=>Heap w [] w' []/\v=.tuple #[Aa (A4 n width),.int .i64 0]:=by
 have hsh:n / 2 ^ (3 * (width - 1))=0:=by
  rw [Nat.pow_mul];exact U7 hn
 refine En [.int .i64 n,.int .i64 width] 43 Tryz.func92 ?_;refine VS [0,1] ?_;refine VQ [0,1,13] fun K hK=>?_;refine And.intro (fun _=>?_) (fun h=>absurd h (by omega));apply hK;clear hK;refine Ae rfl rfl (fun h=>absurd h (by simp;omega)) (fun h=>Ab ?_);clear h;refine VQ [0,1,23] fun K hK=>?_
 have hsN:Bx H1 (3 * ((width:Int) - 1))=3 * (width - 1):=by
  rw [Bx,show IntKind.i64.bits=64 from rfl];omega
 refine And.intro (fun _=>?_) (fun h=>absurd h (by omega));rw [hsN];refine And.intro (Gq (by omega) (by omega)) (And.intro (Gq (by omega) (by omega)) (And.intro (by omega) ?_))
 have hq:(n:Int) / 2 ^ (3 * (width - 1))=0:=by
  have:=congrArg (Nat.cast (R:=Int)) hsh;simpa using this
 rw [hq];apply hK;clear hK;refine Ae rfl rfl (fun h=>absurd h (by simp)) (fun h=>Ab ?_);clear h;refine VQ [0,1,6] fun K hK=>?_;refine Ev Yg Io ?_;refine Qs ?_;refine ⟨width,width,⟨rfl,rfl,by omega,by omega,by omega⟩,?_⟩;have hH:=(Xh w).row 5 (n:=width) (cap:=width) (sz:=1) (Ym width (.int .u8 0)) [] (by simp) (by simp) (by omega) (by omega);rw [Yy,show Ym width (Ud .u8 0)=An (Bh width) by simp [An,Bh]] at hH;rw [show Ym width (Ud .u8 0)=An (Bh width) by simp [An,Bh]];generalize w.alloc (Ys (An (Bh width)).toArray 5)=w1 at *;generalize w.heap.size=gb at *;(try refine Qs ?_);apply hK;clear hK;refine VS [0,6,7] ?_;refine Ar ?_;refine Au [0,6,7] (fun m e w'=>∃ (i:Int) (n2 j:Nat),Is e [(0,.int .i64 n2),(6,.slice (some ⟨gb,0,none⟩) width width),(7,.int .i64 i)]/\Heap w [] w' [Hp 5 1 (some ⟨gb,0,none⟩) width width (An (Bh (width - 1 - j)++(E1 n j++[0])))]/\j<=width - 1/\i=(width:Int) - 2 - j/\n2=n / 8 ^ j/\n2<=n/\m=width - 1 - j) (width - 1) ?_ ?_
 ·
  refine Qs ?_;refine ⟨_,n,0,rfl,?_,by omega,by omega,by simp,by omega,by omega⟩;rw [E1,X0,Nat.sub_zero,Qor,show width - 1+1=width by omega];exact hH
 clear hH;rintro m e w' ⟨i,n2,j,rfl,hH,hj,rfl,hn2,hle,rfl⟩;refine VS [0,6,7,29] ?_;refine VD (fun h=>?_) (fun h=>?_)
 ·
  refine Ab ?_;refine VB ?_
  have hlen:(Bh (width - 1 - j)++(E1 n j++[0])).length=width:=by
   simp [Ey,Qhl];omega
  have e7:(n2 &&& Gu 7)=n2 % 8:=Nat.and_two_pow_sub_one_eq_mod n2 3;have hd8:n2 % 8 < 8:=H2 _ (by omega)
  have eo:(Yt (48+n / 8 ^ j % 8)).toNat=48+n2 % 8:=by
   rw [X4,<- hn2];omega
  have es:(Bh (width - 1 - j)++(E1 n j++[0])).set (width - 2 - j) (Yt (48+n / 8 ^ j % 8))=Bh (width - 1 - (j+1))++(E1 n (j+1)++[0]):=by
   rw [show width - 1 - j=(width - 1 - (j+1))+1 by omega,<- Qor,Yh,List.set_append_right _ _ (by rw [Ey];omega),Ey,show width - 2 - j - (width - 1 - (j+1))=0 by omega];rfl
  generalize Bh (width - 1 - j)++(E1 n j++[0])=O at *;refine VQ [0,6,7] fun K hK=>?_;rw [e7,show (48+((n2 % 8:Nat):Int)) % 256=((Yt (48+n / 8 ^ j % 8)).toNat:Int) by rw [eo];omega];generalize Yt (48+n / 8 ^ j % 8)=y at *;refine And.intro ⟨by omega,by omega⟩ (And.intro ⟨by omega,by omega⟩ (And.intro (Gq (by omega) (by omega)) (And.intro (by omega) ?_)));refine Af ?_;refine Qs ?_;refine Ej hH 0 (o:=(((width:Int) - 2 - j).toNat)) (vs:=[.int .u8 y.toNat]) rfl (by first | exact (B0 _ _ _).symm | rfl | simp [B0]) rfl (by kernel_rfl) (by first | omega | (simp;done) | (simp;omega) | (simp [An,Bb];omega) | (rw [natsV_len];simp;omega)) (by simp [Yb]) fun w6 hH2=>?_;(try refine Qs ?_);rw [show ((width:Int) - 2 - j).toNat=width - 2 - j by omega] at hH2;simp only [Gl,Di (An O) _ _ (show width - 2 - j < (An O).length by rw [Pw];omega),Tt,Hd,es] at hH2;apply hK;clear hK;refine VQ [0,6,7] fun K hK=>?_;refine Qo ?_
  have h8:(n2:Int) / 2 ^ Bx H1 3=((n / 8 ^ (j+1):Nat):Int):=by
   rw [show Bx H1 3=3 from rfl,Xy,<- Nat.div_div_eq_div_mul,<- hn2];omega
  have hle2:n / 8 ^ (j+1)<=n:=Uj _ _;rw [h8];apply hK;clear hK;refine Ao ?_;refine VQ [0,6,7] fun K hK=>?_;(repeat first | refine Qo ?_ | refine Qp ?_);apply hK;clear hK;refine Ah ?_;refine Qs ?_;exact ⟨width - 1 - (j+1),by omega,_,n / 8 ^ (j+1),j+1,rfl,hH2,by omega,by omega,rfl,hle2,rfl⟩
 obtain rfl:j=width - 1:=by omega
 refine As rfl ?_;rw [Nat.sub_self,show Bh 0++(E1 n (width - 1)++[0])=A4 n width by simp [Bh,A4]] at hH;refine VQ [4,5] fun K hK=>?_;refine ⟨A4 n width,K4 (by have:=I6 n (width:=width) (by omega);rw [<- this] at hH ⊢;exact Az (hH.at 0 rfl)),?_⟩;(try refine Qs ?_);apply hK;clear hK;exact Ad (A7 rfl rfl rfl ⟨hH.sub (by simp),rfl⟩)
theorem Qs1 (w:World) (n:Nat) (hn:n<=1000000000):Heap w [] (w.alloc (Ys (Ym n (Ud .u8 0)).toArray 5)) [Hp 5 1 (some ⟨w.heap.size,0,none⟩) n n (An (Bh n))]/\Sf (w.alloc (Ys (Ym n (Ud .u8 0)).toArray 5)) (some ⟨w.heap.size,0,none⟩) n (Bh n):=by
 have hH:=(Xh w).row 5 (n:=n) (cap:=n) (sz:=1) (Ym n (.int .u8 0)) [] (by simp) (by simp) (by omega) (by omega);rw [Yy] at hH;have hz:Ym n (Ud .u8 0)=An (Bh n):=by simp [An,Bh]
 rw [hz] at hH ⊢;refine ⟨hH,K4 ?_⟩;have hr:=Az (hH.at 0 rfl);exact hr
theorem Qq5 (s:Bs) (width:Nat) (w:World) (hs:s.length<=width) (hw:width<=512) (h0:(0:UInt8) ∉ s) :
  Does Ya 132 #[Aa s,.int .i64 width] w fun v w'=>Heap w [] w' []/\v=.tuple #[Aa (Av s width),.int .i64 0]:=by
 refine En [Aa s,.int .i64 width] 29 Tryz.func132 ?_;refine VS [0,1] ?_;refine VQ [0,1,11] fun K hK=>?_;refine And.intro (fun _=>?_) (fun h=>absurd h (by omega));apply hK;clear hK;refine Ae rfl rfl (fun h=>absurd h (by simp;omega)) (fun h=>Ab ?_);clear h;refine VQ [0,1,20] fun K hK=>?_;refine And.intro (fun _=>?_) (fun h=>absurd h (by omega));refine Ac Tryz.call88 ?_;refine Qs ?_;refine Yv (Qa4 s w) ?_;rintro v w2 ⟨rfl,rfl⟩;rw [Qjd h0];(try refine Qs ?_);apply hK;clear hK;refine Ae rfl rfl (fun h=>absurd h (by simp)) (fun h=>Ab ?_);clear h;refine VQ [4,5] fun K hK=>?_;rw [show (width:Int) - s.length=((width - s.length:Nat):Int) by omega];refine And.intro (Gq (by omega) (by omega)) ?_;refine Ev Yg Io ?_;refine Qs ?_;refine ⟨width - s.length,width - s.length,⟨rfl,rfl,by omega,by omega,by omega⟩,?_⟩;obtain ⟨hH,hrb⟩:=Qs1 w2 (width - s.length) (by omega);generalize w2.alloc (Ys (Ym (width - s.length) (Ud .u8 0)).toArray 5)=w1 at *;generalize w2.heap.size=gb at *;(try refine Qs ?_);refine ⟨Bh (width - s.length),hrb,?_⟩;(try refine Qs ?_);refine And.intro (by rw [Ey];omega) ?_;apply hK;clear hK;exact Ad (A7 rfl rfl rfl ⟨hH.sub (by simp),rfl⟩)
theorem T3 (s:Bs) (w:World) (hs:s.length<=1000000000):Does Ya 78 #[Aa s] w fun v w'=>w'=w/\v=Aa (Fr s):=by
 refine En [Aa s] 12 Tryz.func78 ?_;refine VS [0] ?_;refine VQ [0,3] fun K hK=>?_;refine Ac Tryz.call88 ?_;refine Qs ?_;refine Yv (Qa4 s w) ?_;rintro v w2 ⟨rfl,rfl⟩;rw [Qgk];(try refine Qs ?_);apply hK;clear hK;by_cases h0:(0:UInt8)∈s
 ·
  rw [if_pos h0];have hlt:(Fr s).length<=s.length:=(Xa _).length_le;refine VS [0,3,7] ?_;refine Ae rfl rfl (fun h=>?_) (fun h=>by simp only [decide_eq_false_iff_not] at h;omega);refine VQ [2] fun K hK=>?_;(repeat first | refine Qo ?_ | refine Qp ?_);apply hK;clear hK;refine Ad (A2 rfl rfl ⟨rfl,?_⟩);rw [show s.take (Fr s).length=Fr s from (U8.1 (Xa _)).symm]
 rw [if_neg h0]
 have:Fr s=s:=by
  have:=(R4 (p:=fun c=>c != 0) (l:=s) (r:=[]) (fun c hc=>by simp only [bne_iff_ne];rintro rfl;exact h0 hc) (by simp)).1;rw [Yy] at this;exact this
 rw [this];refine VS [0,3,7] ?_;refine Ae rfl rfl (fun h=>by simp at h) (fun h=>Ab ?_);refine VS [2] ?_;exact Ad (A2 rfl rfl ⟨rfl,rfl⟩)
theorem Qje (s:Bs) (w:World) (hs:s.length=512):Does Ya 79 #[Aa s] w fun v w'=>w'=w/\v=.tuple #[.int .i64 (Od s),.int .i64 0]:=by
 refine En [Aa s] 30 Tryz.func79 ?_;refine VS [0] ?_;refine VS [0,8] ?_;rw [hs];refine Ae rfl rfl (fun h=>by simp at h) (fun h=>Ab ?_);clear h;refine VS [0,4] ?_;refine VS [0,4,10,11] ?_;rw [hs];refine Ar ?_;refine Au [0,4,10,11] (fun m e w'=>∃ (i n:Nat),Is e [(0,Aa s),(4,.int .i64 n),(10,.int .i64 512),(11,.int .i64 i)]/\Is w' w/\i<=512/\n+Iz i (s.drop i)=Od s/\n<=255 * i/\m=512 - i) 512 ?_ ?_
 ·
  refine Qs ?_;exact ⟨0,0,rfl,rfl,by omega,by simp [Od],by omega,rfl⟩
 rintro m e w' ⟨i,n,rfl,rfl,hi,hsum,hn,rfl⟩;refine VS [0,4,10,11,12] ?_;(repeat refine Ax ?_);refine VD (fun h=>?_) (fun h=>?_)
 ·
  have hd:s.drop i=s.getD i 0::s.drop (i+1):=by
   rw [Xc (by omega),Yc,Yr (by omega)];rfl
  have hlt:(s.getD i 0).toNat < 256:=(s.getD i 0).toNat_lt;rw [hd,Iz] at hsum;refine Ab ?_;refine VB ?_;refine VS [0,4,5,10,11] ?_;refine VQ [0,4,5,10,11,19] fun K hK=>?_
  suffices out:∀ b:Bool,(b=true ↔ 148<=i/\i < 156)->K [(0,Aa s),(4,.int .i64 n),(5,.int .i64 i),(10,.int .i64 512),(11,.int .i64 i),(19,.bool b)] w' by
   refine ⟨fun h3=>out _ ?_,fun h3=>out _ ?_⟩
   ·
    rw [decide_eq_true_eq];omega
   simp only [Uw,false_iff];omega
  intro b hb;apply hK;clear hK;refine Ae rfl rfl (fun h2=>?_) (fun h2=>?_)
  ·
   rw [if_pos (hb.1 h2)] at hsum;refine VS [0,4,10,11] ?_;refine Ao ?_;refine VS [0,4,10,11] ?_;refine Ah ?_;refine Qs ?_;exact ⟨512 - (i+1),by omega,i+1,n+32,rfl,rfl,by omega,by omega,by omega,rfl⟩
  rw [if_neg (fun h3=>by rw [hb.2 h3] at h2;cases h2)] at hsum;refine VS [0,4,10,11] ?_;refine Ao ?_;refine VS [0,4,10,11] ?_;refine Ah ?_;refine Qs ?_;exact ⟨512 - (i+1),by omega,i+1,n+(s.getD i 0).toNat,rfl,rfl,by omega,by omega,by omega,rfl⟩
 obtain rfl:i=512:=by omega
 refine As rfl ?_;rw [Xp (by omega),Iz,Nat.add_zero] at hsum;subst hsum;refine VS [2,3] ?_;exact Ad (A7 rfl rfl rfl ⟨rfl,rfl⟩)
abbrev tB:Nat:=105
def Qhn (b:Nat) (og:Option Nat) (bs:Bs) (w:World):Prop :=
 ∃ p v,(p=Value.pointer none∨p=.pointer (some ⟨b,0,none⟩))/\w.heap[b]? = some (.cells #[p,v] tB (0,0)) /\
  ((v=.slice none 0 0/\og=none/\bs=[])∨∃ g cap cur fz,og=some g/\b < g/\v=.slice (some ⟨g,0,none⟩) bs.length cap/\w.heap[g]? = some (.cells cur 5 fz)/\fz.2<=bs.length/\bs.length<=cap/\cap<=maxLen/\cur.size=cap/\cur.toList.take bs.length=Lib.byteCells bs)
def Res.bld (b:Nat) (og:Option Nat) (bs:Bs):Res where
 foot:=b::og.toList
 holds:=Qhn b og bs
 loc:=by
  rintro w w' hb ⟨p,v,hp,h1,h2⟩;refine ⟨p,v,hp,by rw [hb b (by simp)];exact h1,?_⟩;rcases h2 with h2 | ⟨g,cap,cur,fz,rfl,h3,h4,h5,h6⟩
  ·
   exact .inl h2
  exact .inr ⟨g,cap,cur,fz,rfl,h3,h4,by rw [hb g (by simp)];exact h5,h6⟩
theorem Heap.newBld {w0 w:World}{B:List Nat}{G:List Res} (h:Heap w0 B w G):Heap w0 B (w.alloc (Ys #[.pointer none,.slice none 0 0] tB)) (Res.bld w.heap.size none []::G) :=
 h.new _ ⟨_,_,.inl rfl,heap_alloc_new w _,.inl ⟨rfl,rfl,rfl⟩⟩ (by simp [Res.bld])
theorem QAf {b:Nat}{og:Option Nat}{bs:Bs}{w:World} (h:Qhn b og bs w):Lib.IsBuilderF tB 5 b b (Lib.byteCells bs) w:=by
 obtain ⟨p,v,hp,h1,h2⟩:=h
 have hv:w.ownsRowF b 5 1 v (Lib.byteCells bs).length (Lib.byteCells bs)/\v.ownBlock≠some b:=by
  rw [Lib.byteCells_length];rcases h2 with ⟨rfl,rfl,rfl⟩ | ⟨g,cap,cur,fz,rfl,h3,rfl,h5,hz,h6,h7,h8,h9⟩
  ·
   exact ⟨⟨rfl,.inl ⟨rfl,rfl⟩⟩,by simp [Gt]⟩
  refine ⟨⟨by simp [Lib.byteCells_length],.inr ⟨g,cap,cur,fz,rfl,by omega,h5,by omega,h6,h7,by omega,by simpa using h9⟩⟩,?_⟩;simp only [Gt,ne_eq,Option.some.injEq];omega
 rcases hp with rfl | rfl
 ·
  exact .inl ⟨Ue _,v,h1,hv.1,hv.2⟩
 exact .inr ⟨Ue _,v,h1,hv.1,hv.2⟩
theorem QJg {b:Nat}{bs:Bs}{w:World} (h:Lib.BuilderAtF tB 5 b b (.pointer (some ⟨b,0,none⟩)) (Lib.byteCells bs) w):∃ og,Qhn b og bs w/\∀ x∈(Res.bld b og bs).foot,b<=x/\x < w.heap.size:=by
 obtain ⟨_,v,hb,⟨hl,hv⟩,hne⟩:=h;have hbs:b < w.heap.size:=(Array.getElem?_eq_some_iff.1 hb).1;rw [Lib.byteCells_length] at hv;rcases hv with ⟨rfl,h0⟩ | ⟨g,cap,cur,fz,rfl,h1,h2,hz,h3,h4,h5,h6⟩
 ·
  refine ⟨none,⟨_,_,.inr rfl,hb,.inl ⟨rfl,rfl,List.eq_nil_of_length_eq_zero h0⟩⟩,?_⟩;intro x hx;simp only [Res.bld,Option.toList_none,List.mem_singleton] at hx;omega
 have hg:g < w.heap.size:=(Array.getElem?_eq_some_iff.1 h2).1;have hgb:g≠b:=fun e=>hne (by simp [Gt,e]);refine ⟨some g,⟨_,_,.inr rfl,hb,.inr ⟨g,cap,cur,fz,rfl,by omega,rfl,h2,by omega,h3,h4,by omega,by simpa using h6⟩⟩,?_⟩;intro x hx;simp only [Res.bld,He,Xg,List.not_mem_nil,or_false] at hx;omega
theorem Qgm {w0 w w':World}{B:List Nat}{G:List Res}{r r':Res}{b:Nat} (h:Heap w0 B w (r::G)) (hb0:w0.heap.size<=b) (hw:RowKit.Below b w w') (hG:∀ s∈G,∀ x∈s.foot,x < b) (hr:r'.holds w') (hf:∀ x∈r'.foot,b<=x/\x < w'.heap.size):Heap w0 B w' (r'::G):=by
 have hle:w0.heap.size<=w.heap.size:=h.upd.size;refine ⟨⟨hw.os.trans h.upd.os,hw.tape.trans h.upd.tape,hw.output.trans h.upd.output,Um hle hw.size,fun k hk hn=>(hw.block k (by omega)).trans (h.upd.block k hk hn)⟩,?_,?_,?_⟩
 ·
  intro s hs;rcases Xg.1 hs with rfl | hs
  ·
   exact hr
  exact s.loc w w' (fun x hx=>hw.block x (hG s hs x hx)) (h.holds s (Uh _ hs))
 ·
  intro s hs x hx;rcases Xg.1 hs with rfl | hs
  ·
   have:=hf x hx;exact ⟨.inr (by omega),this.2⟩
  have h1:=h.foot s (Uh _ hs) x hx;exact ⟨h1.1,Uv h1.2 hw.size⟩
 refine Hh.2 ⟨fun s hs x hx hx2=>?_,(Hh.1 h.apart).2⟩;have h1:=hf x hx;have h2:=hG s hs x hx2;omega
theorem Qef {w0 w:World}{B:List Nat}{G:List Res}{b:Nat}{og:Option Nat}{bs:Bs} (s:Bs) (h:Heap w0 B w (Res.bld b og bs::G)) (hb0:w0.heap.size<=b) (hG:∀ r∈G,∀ x∈r.foot,x < b) (hl:bs.length+s.length<=140737488355328) :
  Does Ya 53 #[.pointer (some ⟨b,0,none⟩),Aa s] w fun v w'=>∃ og',Heap w0 B w' (Res.bld b og' (bs++s)::G)/\Lib.OthersKept 5 (some b) w w'/\v=.tuple #[.int .i64 s.length,.nilIface]:=by
 intro n;have hi:=QAf ((h.drewN 0 n).at 0 rfl);have hb:=((h.drewN 0 n).foot _ (Hi ..) b (by simp [Res.bld])).2;have hm:=Go.Proofs.Any.Builder_WriteString_k { Qhm with } Wq b b (Lib.byteCells bs) ⟨s.toArray⟩ (w.drewN n) hi (by rw [Lib.byteCells_length];simpa [ByteArray.size] using hl) (by omega);refine hm.mono fun e w' ⟨he,hB,hw,hk⟩=>?_;have hbs:Lib.byteCells bs++Lib.strCells ⟨s.toArray⟩=Lib.byteCells (bs++s):=by simp [Lib.byteCells,Lib.strCells]
 rw [hbs] at hB;obtain ⟨og',h1,h2⟩:=QJg hB;have hz:(⟨s.toArray⟩:ByteArray).size=s.length:=by simp [ByteArray.size]
 rw [hz] at he;exact ⟨_,w',0,he,rfl,og',Qgm (Heap.drewN (n:=0) (m:=n) h) hb0 hw hG h1 h2,hk,rfl⟩
theorem Qcz {w0 w:World}{B:List Nat}{G:List Res}{b:Nat}{og:Option Nat}{bs:Bs} (h:Heap w0 B w (Res.bld b og bs::G)) (hb0:w0.heap.size<=b) (hG:∀ r∈G,∀ x∈r.foot,x < b) :
  Does Ya 54 #[.pointer (some ⟨b,0,none⟩)] w fun v w'=>Heap w0 B w' G/\v=Aa bs:=by
 intro n;have hi:=QAf ((h.drewN 0 n).at 0 rfl);have hb:=((h.drewN 0 n).foot _ (Hi ..) b (by simp [Res.bld])).2;have hm:=Go.Proofs.Any.Builder_String_any_k Qnc { Wq with } b b bs (w.drewN n) hi (by omega);refine hm.mono fun e w' ⟨he,_,hw,_⟩=>?_;have h2:Heap w0 B w' (⟨[],fun _=>True,fun _ _ _ _=>trivial⟩::G):=Qgm (Heap.drewN (n:=0) (m:=n) h) hb0 hw hG trivial (by simp);exact ⟨_,w',0,he,rfl,h2.sub (Gd _ _),rfl⟩
def Td (b:Nat) (w:World):List Nat:=b::(List.range w.heap.size).filter fun k=>match w.heap[k]? with | some (.cells _ e _)=>e == 5 | _=>false
theorem QD6 {b:Nat}{w w1 w':World} (h:Upd [] w w1) (hk:Lib.OthersKept 5 (some b) w1 w'):Ext (holes (Td b w) w) w':=by
 refine .holes fun k hk2 hB=>?_;have hne:k≠b:=fun e=>hB (by simp [Td,e]);have h1:w1.heap[k]? = w.heap[k]? := h.block k hk2 (by simp);rw [<- h1];cases ho:w1.heap[k]? with
 | none =>
  rw [h1,Array.getElem?_eq_getElem hk2] at ho;cases ho
 | some o =>
  refine hk k o ho (by simpa using hne) ?_;rintro c fz rfl;refine hB ?_;rw [h1] at ho;refine Uh _ (List.mem_filter.2 ⟨List.mem_range.2 hk2,?_⟩);rw [ho];simp
theorem QD7 {b g T:Nat}{cs:List Value}{w:World} (h:(Ye g T cs).holds w) (hT:T≠5) (hb:g≠b):g ∉ Td b w:=by
 intro hm;simp only [Td,Xg,List.mem_filter,List.mem_range] at hm;rcases hm with hm | ⟨_,hm⟩
 ·
  exact hb hm
 obtain ⟨fz,hh,_⟩:=h;rw [hh] at hm;exact hT (by simpa using hm)
abbrev pV (g:Nat):Value:=.pointer (some ⟨g,0,none⟩)
def IsK (isv:Value) (p:UInt8->Bool) (s:Bs) (gi gs:Nat) (w0:World) (B:List Nat) (G:Nat->List Res) (a:Nat):Prop :=
 ∀ i w,a<=i->i < s.length->Heap w0 B w (Ye gi 3 [.int .i64 i]::Ye gs 9 [Aa s]::G i) ->
  FnK Ya isv [.int .u8 (s.getD i 0).toNat] w fun v w'=>v=.bool (p (s.getD i 0))/\Heap w0 B w' (Ye gi 3 [.int .i64 i]::Ye gs 9 [Aa s]::G (if p (s.getD i 0)=true then i+1 else i))
theorem Qdq (isv:Value) (p:UInt8->Bool) (s:Bs) (gi gs:Nat) (w0 w:World) (B:List Nat) (G:Nat->List Res) (a:Nat) (hI:IsK isv p s gi gs w0 B G a) (ha:a<=s.length) (hs:s.length<=1000000000)
  (hH:Heap w0 B w (Ye gi 3 [.int .i64 a]::Ye gs 9 [Aa s]::G a)) :
  Does Ya 158 #[isv,pV gi,pV gs] w fun v w'=>∃ b,b=a+((s.drop a).takeWhile p).length/\b<=s.length/\Heap w0 B w' (Ye gi 3 [.int .i64 b]::Ye gs 9 [Aa s]::G b):=by
 refine En [isv,pV gi,pV gs] 17 Tryz.func158 ?_;refine Ar ?_;refine Au [0,1,2] (fun m e w'=>∃ (i:Nat),Is e [(0,isv),(1,pV gi),(2,pV gs)]/\Heap w0 B w' (Ye gi 3 [.int .i64 i]::Ye gs 9 [Aa s]::G i)/\a<=i/\i<=s.length/\i+((s.drop i).takeWhile p).length=a+((s.drop a).takeWhile p).length/\m=s.length - i) (s.length - a) ?_ ?_
 ·
  refine Qs ?_;exact ⟨a,rfl,hH,Ue _,ha,rfl,rfl⟩
 clear hH w;rintro m e w ⟨i,rfl,hH,hai,hi,hsum,rfl⟩;have c1:w.cell? ⟨gi,0,none⟩=some (.int .i64 i):=Aj (hH.at 0 rfl) rfl;have c2:w.cell? ⟨gs,0,none⟩=some (Aa s):=Aj (hH.at 1 rfl) rfl;refine VQ [0,1,2,14] fun K hK=>?_;refine ⟨_,c1,?_⟩;(try refine Qs ?_);refine ⟨_,c2,?_⟩;(try refine Qs ?_);by_cases hlt:i < s.length
 ·
  have hd:s.drop i=s.getD i 0::s.drop (i+1):=by
   rw [Xc (by omega),Yc,Yr (by omega)];rfl
  refine And.intro (fun _=>?_) (fun h=>absurd h (by simp;omega));refine ⟨_,c2,?_⟩;(try refine Qs ?_);refine ⟨_,c1,?_⟩;(try refine Qs ?_);refine Qp ?_;(try refine Qs ?_);refine Cc ?_;refine Qs ?_;obtain ⟨f0,first,cs,rfl,hen,F,hd0,hF⟩:=hI i w hai hlt hH;refine Xd hen hd0 fun v w4 hv=>?_;obtain ⟨rfl,hH2⟩:=hF v w4 hv;(try refine Qs ?_);apply hK;clear hK;clear hH c1 c2;cases hp:p (s.getD i 0)
  ·
   rw [hp,if_neg (by simp)] at hH2;refine Ae rfl rfl (fun h=>by simp at h) (fun h=>?_);refine As rfl ?_;rw [hd,Y3,if_neg (by rw [hp];simp)] at hsum;exact Qe (I8 rfl ⟨i,by simpa using hsum,hi,hH2⟩)
  rw [hp,if_pos rfl] at hH2;refine Ae rfl rfl (fun h=>?_) (fun h=>by simp at h);refine Ab ?_;refine VB ?_;have c3:w4.cell? ⟨gi,0,none⟩=some (.int .i64 i):=Aj (hH2.at 0 rfl) rfl;refine VQ [0,1,2] fun K hK=>?_;refine ⟨_,c3,?_⟩;(try refine Qs ?_);refine Qo ?_;(try refine Qs ?_);refine Af ?_;refine Qs ?_;refine Al hH2 0 (vs:=[.int .i64 (i+1:Nat)]) rfl rfl (by kernel_rfl) (by first | decide | (simp;done) | (simp;omega)) (by simp [Yb]) fun w6 hH3=>?_;(try refine Qs ?_);have hH3:Heap w0 B w6 (Ye gi 3 [.int .i64 (i+1:Nat)]::Ye gs 9 [Aa s]::G (i+1)):=hH3;apply hK;clear hK;refine Ao ?_;refine Ah ?_;refine Qs ?_;rw [hd,Y3,if_pos hp,Yq] at hsum;exact ⟨s.length - (i+1),by omega,i+1,rfl,hH3,by omega,by omega,by omega,rfl⟩
 obtain rfl:i=s.length:=by omega
 refine And.intro (fun h=>absurd h (by simp)) (fun _=>?_);(try refine Qs ?_);apply hK;clear hK;refine Ae rfl rfl (fun h=>by simp at h) (fun h=>?_);refine As rfl ?_;rw [List.drop_length,List.takeWhile_nil] at hsum;exact Qe (I8 rfl ⟨s.length,by simpa using hsum,hi,hH⟩)
theorem i8 (b c:UInt8) {n:Int} (h:(c.toNat:Int)=n):((b.toNat:Int)=n) ↔ b=c:=by
 subst h;rw [Int.ofNat_inj,UInt8.toNat_inj]
theorem Qva (b:UInt8) (w:World):Does Ya 159 #[.int .u8 b.toNat] w fun v w'=>w'=w/\v=.bool (Pe b):=by
 refine En [.int .u8 b.toNat] 5 Tryz.func159 ?_;refine VS [0] ?_;refine VS [2] ?_;refine Ad (A2 rfl rfl ⟨rfl,?_⟩);rw [Pe,Value.bool.injEq,Gh];simp only [decide_eq_true_eq,beq_iff_eq];exact i8 b 32 (n:=32) rfl
theorem Qvb (b:UInt8) (w:World):Does Ya 161 #[.int .u8 b.toNat] w fun v w'=>w'=w/\v=.bool (Pf b):=by
 refine En [.int .u8 b.toNat] 9 Tryz.func161 ?_;refine VS [0] ?_;refine VQ [2] fun K hK=>?_
 suffices out:∀ c,c=Pf b->K [(2,.bool c)] w by
  refine ⟨fun h=>out _ ?_,fun h=>out _ ?_⟩
  ·
   rw [i8 b 32 (n:=32) rfl] at h;rw [Pf,show (b == 32)=false from beq_false_of_ne h,Bool.false_or,Gh];simp only [decide_eq_true_eq,beq_iff_eq];exact i8 b 0 (n:=0) rfl
  rw [i8 b 32 (n:=32) rfl] at h;rw [Pf,h];rfl
 rintro c rfl;apply hK;clear hK;exact Ad (A2 rfl rfl ⟨rfl,rfl⟩)
abbrev Pi (gn gb:Nat) (n:Nat):List Res:=[Ye gb 4 [.bool (decide (9007199254740992 < n))],Ye gn 3 [.int .i64 n]]
theorem Qq6 (b:UInt8) (gn gb n:Nat) (w0 w:World) (B:List Nat) (r1 r2:Res) (hn:n<=8 * 9007199254740992+255) (hH:Heap w0 B w (r1::r2::Pi gn gb n)) :
  Does Ya 160 #[.int .u8 b.toNat,pV gb,pV gn] w fun v w'=>Heap w0 B w' (r1::r2::Pi gn gb (if Kh b=true then Ld n b else n))/\v=.bool (Kh b):=by
 have hb:=b.toNat_lt;have c1:w.cell? ⟨gb,0,none⟩=some (.bool (decide (9007199254740992 < n))):=Aj (hH.at 2 rfl) rfl;have c2:w.cell? ⟨gn,0,none⟩=some (.int .i64 n):=Aj (hH.at 3 rfl) rfl;refine En [.int .u8 b.toNat,pV gb,pV gn] 21 Tryz.func160 ?_;refine VS [0,1,2] ?_;refine VQ [0,1,2,10] fun K hK=>?_
 suffices out:∀ c,c=! Kh b->K [(0,.int .u8 b.toNat),(1,pV gb),(2,pV gn),(10,.bool c)] w by
  refine ⟨fun h=>out _ ?_,fun h=>out _ ?_⟩
  ·
   rw [Kh,show decide (48<=b.toNat)=true from decide_eq_true (by omega),Bool.true_and,Gh];simp only [decide_eq_true_eq,Bool.not_eq_true',decide_eq_false_iff_not];omega
  rw [Kh,show decide (48<=b.toNat)=false from decide_eq_false (by omega)];rfl
 rintro c rfl;apply hK;clear hK;cases ho:Kh b
 ·
  refine Ae rfl rfl (fun h=>?_) (fun h=>by simp at h);refine VS [4] ?_;rw [if_neg (by simp)];exact Ad (A2 rfl rfl ⟨hH,rfl⟩)
 refine Ae rfl rfl (fun h=>by simp at h) (fun h=>Ab ?_);rw [if_pos rfl]
 have hr:48<=b.toNat/\b.toNat<=55:=by
  simpa [Kh] using ho
 refine VQ [0,1,2,12] fun K hK=>?_;refine ⟨_,c1,?_⟩;(try refine Qs ?_);apply hK;clear hK;by_cases hbig:9007199254740992 < n
 ·
  rw [decide_eq_true hbig] at *;refine Ae rfl rfl (fun h=>by simp at h) (fun h=>Ab ?_);rw [Ld,if_neg (by omega)];refine VS [4] ?_;refine Ad (A2 rfl rfl ⟨?_,rfl⟩);exact hH
 rw [decide_eq_false hbig] at *;refine Ae rfl rfl (fun h=>?_) (fun h=>by simp at h);rw [Ld,if_pos (by omega)];refine VQ [1,2] fun K hK=>?_;refine ⟨_,c2,?_⟩;(try refine Qs ?_);rw [show ((b.toNat:Int) - 48) % 256=((b.toNat - 48:Nat):Int) by omega];(repeat first | refine Qo ?_ | refine Qp ?_);rw [show (8 * (n:Int)+((b.toNat - 48:Nat):Int))=((8 * n+(b.toNat - 48):Nat):Int) by omega];refine Af ?_;refine Qs ?_;refine Al hH 3 (vs:=[.int .i64 (8 * n+(b.toNat - 48):Nat)]) rfl rfl (by kernel_rfl) (by first | decide | (simp;done) | (simp;omega)) (by simp [Yb]) fun w6 hH2=>?_;(try refine Qs ?_);generalize 8 * n+(b.toNat - 48)=n2 at *;have hH2:Heap w0 B w6 [r1,r2,Ye gb 4 [.bool (decide (9007199254740992 < n))],Ye gn 3 [.int .i64 n2]]:=hH2;apply hK;clear hK;have c3:w6.cell? ⟨gn,0,none⟩=some (.int .i64 n2):=Aj (hH2.at 3 rfl) rfl;refine VQ [] fun K hK=>?_;refine ⟨_,c3,?_⟩;(try refine Qs ?_);refine Af ?_;refine Qs ?_;refine Al hH2 2 (vs:=[.bool (decide (9007199254740992 < (n2:Int)))]) rfl rfl (by kernel_rfl) (by first | decide | (simp;done) | (simp;omega)) (by simp [Yb]) fun w6 hH3=>?_;(try refine Qs ?_);have hH3:Heap w0 B w6 [r1,r2,Ye gb 4 [.bool (decide (9007199254740992 < (n2:Int)))],Ye gn 3 [.int .i64 n2]]:=hH3;rw [show decide (9007199254740992 < (n2:Int))=decide (9007199254740992 < n2) from decide_eq_decide.2 (by omega)] at hH3;apply hK;clear hK;refine VS [4] ?_;exact Ad (A2 rfl rfl ⟨hH3,rfl⟩)
theorem Qtl:∀ (l:Bs) (m:Nat),m<=8 * 9007199254740992+255->l.foldl Ld m<=8 * 9007199254740992+255
 | [],_,h=>h
 | b::l,m,h=>by
  rw [Gf];refine Qtl l _ ?_;have:=b.toNat_lt;rw [Ld];split <;> omega
theorem Qvc {l:Bs}{i f:Nat} (hf:f<=i) (hi:i < l.length):(l.drop f).take (i+1 - f)=(l.drop f).take (i - f)++[l.getD i 0]:=by
 rw [show i+1 - f=(i - f)+1 by omega,X6,Ut,show f+(i - f)=i by omega,Yc,Yr hi];rfl
theorem Zu (p:UInt8->Bool) (s:Bs):s.drop (s.takeWhile p).length=s.dropWhile p:=by
 induction s with
 | nil=>rfl
 | cons b s ih =>
  rw [Y3,Xi];split
  ·
   simpa using ih
  rfl
theorem Qos (p:UInt8->Bool) (s:Bs):s.take (s.takeWhile p).length=s.takeWhile p :=
 (U8.1 (Xa _)).symm
abbrev isV (f:Nat):Value:=.func (.func f) #[] #[]
theorem Qvd (s:Bs) (w:World) (hs:s.length<=1000000000):Does Ya 117 #[Aa s] w fun v w'=>Heap w [] w' []/\v=.tuple #[.int .i64 (Cr s).1,.int .i64 (Cr s).2]:=by
 refine En [Aa s] 22 Tryz.func117 ?_;refine VQ [1] fun K hK=>?_;refine Eb ?_;refine Qs ?_;have hH:=(Xh w).box 9 [Aa s];generalize w.alloc (Ys [Aa s].toArray 9)=w1 at *;generalize w.heap.size=gs at *;(try refine Qs ?_);apply hK;clear hK;refine VQ [1,4] fun K hK=>?_;refine A6 (.int .i64 0) (by kernel_rfl) ?_;refine Qs ?_;have hH2:=hH.box 3 [.int .i64 0];generalize w1.alloc (Ys [Ud .i64 0].toArray 3)=w2 at *;generalize w1.heap.size=gi at *;refine Af ?_;refine Qs ?_;refine Al hH2 0 (vs:=[.int .i64 0]) rfl rfl (by kernel_rfl) (by first | decide | (simp;done) | (simp;omega)) (by simp [Yb]) fun w6 hH3=>?_;(try refine Qs ?_);have hH3:Heap w [] w6 (Ye gi 3 [.int .i64 (0:Nat)]::Ye gs 9 [Aa s]::(fun _:Nat=>[]) 0):=hH3;clear hH hH2;(try refine Qs ?_);apply hK;clear hK;refine VS [1,4,5] ?_
 have hI1:IsK (isV 159) Pe s gi gs w [] (fun _=>[]) 0:=fun i w1 _ hi hH =>
  Xd Tryz.call159 (Qva (s.getD i 0) w1) fun v w' hv=>by
   obtain ⟨rfl,rfl⟩:=hv;exact ⟨rfl,hH⟩
 refine VQ [1,4,5] fun K hK=>?_;refine Cc ?_;refine Qs ?_;refine Xd Hy (Qdq _ Pe s gi gs w w6 [] _ 0 hI1 (Nat.zero_le _) hs hH3) ?_;rintro v w7 ⟨i1,hi1,hl1,hH⟩;rw [List.drop_zero,U9] at hi1;clear hH3;(try refine Qs ?_);apply hK;clear hK;refine VQ [1,4,5,6,7] fun K hK=>?_;refine A6 (.int .i64 0) (by kernel_rfl) ?_;refine Qs ?_;have hH2:=hH.box 3 [.int .i64 0];generalize w7.alloc (Ys [Ud .i64 0].toArray 3)=w8 at *;generalize w7.heap.size=gn at *;(try refine Qs ?_);refine A6 (.bool false) (by kernel_rfl) ?_;refine Qs ?_;have hH3:=hH2.box 4 [.bool false];generalize w8.alloc (Ys [Ge false].toArray 4)=w9 at *;generalize w8.heap.size=gb at *;(try refine Qs ?_);refine Af ?_;refine Qs ?_;refine Al hH3 1 (vs:=[.int .i64 0]) rfl rfl (by kernel_rfl) (by first | decide | (simp;done) | (simp;omega)) (by simp [Yb]) fun w6 hH4=>?_;(try refine Qs ?_);refine Af ?_;refine Qs ?_;refine Al hH4 0 (vs:=[.bool false]) rfl rfl (by kernel_rfl) (by first | decide | (simp;done) | (simp;omega)) (by simp [Yb]) fun w6 hH5=>?_;(try refine Qs ?_);clear hH hH2 hH3 hH4;have hH6:Heap w [] w6 [Ye gi 3 [.int .i64 i1],Ye gs 9 [Aa s],Ye gb 4 [.bool false],Ye gn 3 [.int .i64 (0:Nat)]]:=(hH5.front 3 rfl).front 3 rfl;clear hH5;apply hK;clear hK
 have hI2:IsK (.func (.func 160) #[] #[pV gb,pV gn]) Kh s gi gs w [] (fun j=>Pi gn gb (((s.drop i1).take (j - i1)).foldl Ld 0)) i1:=fun i w1 h1 hi hH =>
  Xd Tryz.call160 (Qq6 (s.getD i 0) gn gb _ w w1 [] _ _ (Qtl _ _ (by omega)) hH) fun v w' hv=>by
   obtain ⟨hH2,rfl⟩:=hv;refine ⟨rfl,?_⟩;cases ho:Kh (s.getD i 0)
   ·
    rw [ho] at hH2;rw [if_neg (by simp)] at hH2 ⊢;exact hH2
   rw [ho] at hH2;rw [if_pos rfl] at hH2 ⊢
   show Heap w [] w' (_::_::Pi gn gb (((s.drop i1).take (i+1 - i1)).foldl Ld 0))
   rw [Qvc h1 hi,List.foldl_append];exact hH2
 have hH7:Heap w [] w6 (Ye gi 3 [.int .i64 i1]::Ye gs 9 [Aa s]::(fun j=>Pi gn gb (((s.drop i1).take (j - i1)).foldl Ld 0)) i1):=by
  show Heap w [] w6 (_::_::Pi gn gb (((s.drop i1).take (i1 - i1)).foldl Ld 0))
  rw [Nat.sub_self];exact hH6
 refine VQ [1,4,5,6,7] fun K hK=>?_;refine Cc ?_;refine Qs ?_;refine Xd Hy (Qdq _ Kh s gi gs w w6 [] _ i1 hI2 hl1 hs hH7) ?_;clear hH6 hH7;rintro v w3 ⟨i2,hi2,hl2,hH⟩
 have hA:(s.drop i1).take (i2 - i1)=Rx s:=by
  rw [hi2,U6,Qos,Rx,hi1,Zu]
 have hH:Heap w [] w3 (Ye gi 3 [.int .i64 i2]::Ye gs 9 [Aa s]::Pi gn gb (((s.drop i1).take (i2 - i1)).foldl Ld 0)):=hH;rw [hA] at hH;generalize hN:(Rx s).foldl Ld 0=n at *;(try refine Qs ?_);apply hK;clear hK
 have hI3:IsK (isV 161) Pf s gi gs w [] (fun _=>Pi gn gb n) i2:=fun i w1 _ hi hH =>
  Xd Tryz.call161 (Qvb (s.getD i 0) w1) fun v w' hv=>by
   obtain ⟨rfl,rfl⟩:=hv;exact ⟨rfl,hH⟩
 refine VQ [1,4,6,7] fun K hK=>?_;refine Cc ?_;refine Qs ?_;refine Xd Hy (Qdq _ Pf s gi gs w w3 [] _ i2 hI3 hl2 hs hH) ?_;clear hH;rintro v w4 ⟨i3,hi3,hl3,hH⟩;have hH:Heap w [] w4 (Ye gi 3 [.int .i64 i3]::Ye gs 9 [Aa s]::Pi gn gb n):=hH
 have hZ:S9 s=s.drop i3:=by
  rw [S9,<- Zu Pe,<- hi1,<- Zu Kh,Ux,<- hi2,<- Zu Pf,Ux,<- hi3]
 (try refine Qs ?_);apply hK;clear hK;have c1:w4.cell? ⟨gi,0,none⟩=some (.int .i64 i3):=Aj (hH.at 0 rfl) rfl;have c2:w4.cell? ⟨gs,0,none⟩=some (Aa s):=Aj (hH.at 1 rfl) rfl;have c3:w4.cell? ⟨gb,0,none⟩=some (.bool (decide (9007199254740992 < n))):=Aj (hH.at 2 rfl) rfl;have c4:w4.cell? ⟨gn,0,none⟩=some (.int .i64 n):=Aj (hH.at 3 rfl) rfl;refine VQ [6,7,19] fun K hK=>?_;refine ⟨_,c1,?_⟩;(try refine Qs ?_);refine ⟨_,c2,?_⟩;(try refine Qs ?_);apply hK;clear hK;by_cases hlt:i3 < s.length
 ·
  refine Ae rfl rfl (fun h=>?_) (fun h=>absurd h (by simp;omega));refine VS [2,3] ?_;refine Ad (A7 rfl rfl rfl ⟨hH.sub (by simp),?_⟩);rw [Cr,if_pos]
  ·
   rfl
  rw [hZ];intro h0;have:=congrArg U1 h0;simp at this;omega
 refine Ae rfl rfl (fun h=>absurd h (by simp;omega)) (fun h=>Ab ?_);have hZ0:¬ S9 s≠[]:=by rw [hZ,Xp (by omega)];simp
 refine VQ [6,20] fun K hK=>?_;refine ⟨_,c3,?_⟩;(try refine Qs ?_);apply hK;clear hK;by_cases hbig:9007199254740992 < n
 ·
  refine Ae rfl rfl (fun h=>?_) (fun h=>absurd h (by simp;omega));refine VS [2,3] ?_;refine Ad (A7 rfl rfl rfl ⟨hH.sub (by simp),?_⟩);rw [Cr,if_neg hZ0,hN,if_pos hbig];rfl
 refine Ae rfl rfl (fun h=>absurd h (by simp;omega)) (fun h=>Ab ?_);refine VQ [2,3] fun K hK=>?_;refine ⟨_,c4,?_⟩;(try refine Qs ?_);apply hK;clear hK;refine Ad (A7 rfl rfl rfl ⟨hH.sub (by simp),?_⟩);rw [Cr,if_neg hZ0,hN,if_neg hbig];rfl
abbrev Il (gc:Nat) (rest:Bs) (bad:Bool):Res:=Ye gc 140 [Aa rest,.bool bad]
theorem Qot {w0 w:World}{B:List Nat}{G:List Res} (gc:Nat) (rest:Bs) (bad:Bool) (n:Nat) (hn:n<=rest.length) (hl:rest.length<=512) (hH:Heap w0 B w (Il gc rest bad::G)) :
  Does Ya 77 #[pV gc,.int .i64 n] w fun v w'=>Heap w0 B w' (Il gc (rest.drop n) bad::G)/\v=Aa (rest.take n):=by
 have c1:w.cell? ⟨gc,0,none⟩=some (Aa rest):=Aj (hH.at 0 rfl) rfl;refine En [pV gc,.int .i64 n] 22 Tryz.func77 ?_;refine VS [0,1] ?_;refine VQ [0,1,5] fun K hK=>?_;refine ⟨_,c1,?_⟩;(try refine Qs ?_);(repeat first | refine Qo ?_ | refine Qp ?_);apply hK;clear hK;refine VQ [5] fun K hK=>?_;refine ⟨_,c1,?_⟩;(try refine Qs ?_);(repeat first | refine Qo ?_ | refine Qp ?_);refine Af ?_;refine Qs ?_;refine Al hH 0 (vs:=[Aa (rest.drop n)]) rfl rfl (by kernel_rfl) (by first | decide | (simp;done) | (simp;omega)) (by simp [Yb]) fun w6 hH2=>?_;(try refine Qs ?_);apply hK;clear hK;refine VS [4] ?_;exact Ad (A2 rfl rfl ⟨hH2,rfl⟩)
theorem Qve {w0 w:World}{B:List Nat}{G:List Res} (gc:Nat) (rest:Bs) (bad:Bool) (n:Nat) (hn:n<=rest.length) (hl:rest.length<=512) (hH:Heap w0 B w (Il gc rest bad::G)) :
  Does Ya 76 #[pV gc,.int .i64 n] w fun v w'=>Heap w0 B w' (Il gc (rest.drop n) (bad || decide ((Cr (rest.take n)).2≠0))::G)/\v=.int .i64 (Cr (rest.take n)).1:=by
 refine En [pV gc,.int .i64 n] 26 Tryz.func76 ?_;refine VS [0,1] ?_;refine VQ [0,5,6] fun K hK=>?_;refine Ac Xj ?_;refine Qs ?_;refine Yv (Qot gc rest bad n hn hl hH) ?_;clear hH;rintro v w2 ⟨hH,rfl⟩;(try refine Qs ?_);refine Ac Tryz.call117 ?_;refine Qs ?_;refine Yv (Qvd (rest.take n) w2 (by simp;omega)) ?_;rintro v w3 ⟨hHn,rfl⟩;have hH2:=hH.call0 hHn;simp only [X0] at hH2;clear hH hHn;(try refine Qs ?_);apply hK;clear hK;have c1:w3.cell? ⟨gc,1,none⟩=some (.bool bad):=Aj (hH2.at 0 rfl) rfl;cases bad
 ·
  refine VQ [5] fun K hK=>?_;refine ⟨_,c1,?_⟩;(try refine Qs ?_);refine Af ?_;refine Qs ?_;refine Al hH2 0 (vs:=[.bool (decide (¬((Cr (rest.take n)).2:Int)=0))]) rfl rfl (by kernel_rfl) (by first | decide | (simp;done) | (simp;omega)) (by simp [Yb]) fun w6 hH3=>?_;(try refine Qs ?_);have hH3:Heap w0 B w6 (Il gc (rest.drop n) (decide (¬((Cr (rest.take n)).2:Int)=0))::G):=hH3
  rw [show decide (¬((Cr (rest.take n)).2:Int)=0)=(false || decide ((Cr (rest.take n)).2≠0)) by
   rw [Bool.false_or];exact decide_eq_decide.2 (by omega)] at hH3
  apply hK;clear hK;refine VS [4] ?_;exact Ad (A2 rfl rfl ⟨hH3,rfl⟩)
 refine VQ [5] fun K hK=>?_;refine ⟨_,c1,?_⟩;(try refine Qs ?_);refine Af ?_;refine Qs ?_;refine Al hH2 0 (vs:=[.bool true]) rfl rfl (by kernel_rfl) (by first | decide | (simp;done) | (simp;omega)) (by simp [Yb]) fun w6 hH3=>?_;(try refine Qs ?_);apply hK;clear hK;refine VS [4] ?_;exact Ad (A2 rfl rfl ⟨hH3,rfl⟩)
set_option maxHeartbeats 1000000
theorem Px {w0 w:World}{B:List Nat}{G:List Res} (gc:Nat) (s:Bs) (hs:s.length=512) (bad:Bool) (k n:Nat) (hn:k+n<=512) (hH:Heap w0 B w (Il gc (s.drop k) bad::G)) :
  Does Ya 77 #[pV gc,.int .i64 n] w fun v w'=>Heap w0 B w' (Il gc (s.drop (k+n)) bad::G)/\v=Aa (Bl s k n):=by
 have:=Qot gc (s.drop k) bad n (by simp;omega) (by simp;omega) hH;rw [Ux] at this;exact this
theorem Sh {w0 w:World}{B:List Nat}{G:List Res} (gc:Nat) (s:Bs) (hs:s.length=512) (bad:Bool) (k n:Nat) (hn:k+n<=512) (hH:Heap w0 B w (Il gc (s.drop k) bad::G)) :
  Does Ya 76 #[pV gc,.int .i64 n] w fun v w'=>Heap w0 B w' (Il gc (s.drop (k+n)) (bad || decide ((Cr (Bl s k n)).2≠0))::G)/\v=.int .i64 (Cr (Bl s k n)).1:=by
 have:=Qve gc (s.drop k) bad n (by simp;omega) (by simp;omega) hH;rw [Ux] at this;exact this
theorem Ri {s:Bs}{k n:Nat} (h:k+n<=s.length):(Bl s k n).length=n:=by simp [Bl];omega
abbrev tH:Nat:=53
abbrev Ih (p:Bs) (n:Nat) (k:UInt8) (m t:Nat) (l n0 n1:Bs) (i0 i1:Nat):List Value:=[Aa p,.int .i64 n,.int .u8 k.toNat,.int .i64 m,.int .i64 t,Aa l,Aa n0,Aa n1,.int .i64 i0,.int .i64 i1]
abbrev V9 (p:Bs) (n:Nat) (k:UInt8) (m t:Nat) (l n0 n1:Bs) (i0 i1:Nat):Value:=.agg (Ih p n k m t l n0 n1 i0 i1).toArray
abbrev Mm:Value:=V9 [] 0 0 0 0 [] [] [] 0 0
abbrev Es (g:Nat) (p:Bs) (n:Nat) (k:UInt8) (m t:Nat) (l n0 n1:Bs) (i0 i1:Nat):Res:=Ye g tH (Ih p n k m t l n0 n1 i0 i1)
theorem Qvf (s:Bs) (hs:s.length=512) (w:World):Does Ya 41 #[Aa s] w fun v w'=>Heap w [] w' [] /\
  match Pg s with
  | some (p,n,k)=>∃ m t l n0 n1 i0 i1,v=.tuple #[V9 p n k m t l n0 n1 i0 i1,.int .i64 0]
  | none=>v=.tuple #[Mm,.int .i64 160]:=by
 refine En [Aa s] 110 Tryz.func41 ?_;refine Am [0,2] fun K hK=>?_;refine A6 Mm (by kernel_rfl) ?_;refine Qi ?_;have hH:=(Xh w).box tH (Ih [] 0 0 0 0 [] [] [] 0 0);generalize w.alloc (Ys (Ih [] 0 0 0 0 [] [] [] 0 0).toArray tH)=w1 at *;generalize w.heap.size=g2 at *;(try refine Qi ?_);apply hK;clear hK;refine Am [0,2,16] fun K hK=>?_;(repeat refine Qo ?_);apply hK;clear hK;rw [hs];refine Ae rfl rfl (fun h=>by simp at h) (fun h=>Ab ?_);clear h;refine Am [0,2,4] fun K hK=>?_;refine Eb ?_;refine Qi ?_;rw [show Array.foldl (fun (cs:Array Value) (x:Value×Nat)=>cs.setIfInBounds x.2 x.1) #[Hs { data:=#[] },Ge false] #[Aa s].zipIdx=[Aa s,Ge false].toArray by simp];have hH3:Heap w [] (w1.alloc (Ys [Aa s,Ge false].toArray 140)) [Il w1.heap.size (s.drop 0) false,Es g2 [] 0 0 0 0 [] [] [] 0 0]:=hH.box 140 [Aa s,.bool false];generalize w1.alloc (Ys [Aa s,Ge false].toArray 140)=w2 at *;generalize w1.heap.size=gc at *;clear hH;(try refine Qi ?_);apply hK;clear hK;refine Am [0,2,4,5,6] fun K hK=>?_;(repeat refine Qo ?_);apply hK;clear hK;refine Am [0,2,4,5,6,7] fun K hK=>?_;refine A6 Mm (by kernel_rfl) ?_;refine Qi ?_;have hH4:=hH3.box tH (Ih [] 0 0 0 0 [] [] [] 0 0);generalize w2.alloc (Ys (Ih [] 0 0 0 0 [] [] [] 0 0).toArray tH)=w3 at *;generalize w2.heap.size=gh at *;have hH:Heap w [] w3 [Il gc (s.drop 0) false,Es gh [] 0 0 0 0 [] [] [] 0 0,Es g2 [] 0 0 0 0 [] [] [] 0 0]:=hH4.front 1 rfl;clear hH3 hH4;(try refine Qi ?_);apply hK;clear hK;refine Am [0,2,4,5,6,7,8] fun K hK=>?_;refine Cc ?_;refine Qi ?_;refine Xd Xj (Px gc s hs false 0 100 (by omega) hH) ?_;clear hH;rintro v w4 ⟨hH,rfl⟩;(try refine Qi ?_);refine Ac U3 ?_;refine Qi ?_;refine Yv (T3 (Bl s 0 100) w4 (by simp [Bl];omega)) ?_;rintro v w5 ⟨rfl,rfl⟩;(try refine Qi ?_);apply hK;clear hK;generalize hnm:Fr (Bl s 0 100)=nm at *;refine Am [0,2,4,5,6,7,8] fun K hK=>?_;refine Cc ?_;refine Qi ?_;refine Xd Ui (Sh gc s hs false 100 8 (by omega) hH) ?_;clear hH;rintro v w6 ⟨hH,rfl⟩;(try refine Qi ?_);refine Cc ?_;refine Qi ?_;refine Xd Ui (Sh gc s hs _ 108 8 (by omega) hH) ?_;clear hH;rintro v w6 ⟨hH,rfl⟩;(try refine Qi ?_);refine Cc ?_;refine Qi ?_;refine Xd Ui (Sh gc s hs _ 116 8 (by omega) hH) ?_;clear hH;rintro v w6 ⟨hH,rfl⟩;(try refine Qi ?_);generalize hm:(Cr (Bl s 100 8)).1=m at *;generalize hi0:(Cr (Bl s 108 8)).1=i0 at *;generalize hi1:(Cr (Bl s 116 8)).1=i1 at *;refine Af ?_;refine Qi ?_;refine Al hH 1 (vs:=[.int .i64 m]) rfl rfl (by kernel_rfl) (by first | decide | (simp;done) | (simp;omega)) (by simp [Yb]) fun w6 hH2=>?_;(try refine Qi ?_);(repeat first | refine Qo ?_ | refine ⟨⟨by omega,by omega⟩,?_⟩);refine Af ?_;refine Qi ?_;refine Al hH2 1 (vs:=[.int .i64 i0]) rfl rfl (by kernel_rfl) (by first | decide | (simp;done) | (simp;omega)) (by simp [Yb]) fun w6 hH3=>?_;(try refine Qi ?_);(repeat first | refine Qo ?_ | refine ⟨⟨by omega,by omega⟩,?_⟩);refine Af ?_;refine Qi ?_;refine Al hH3 1 (vs:=[.int .i64 i1]) rfl rfl (by kernel_rfl) (by first | decide | (simp;done) | (simp;omega)) (by simp [Yb]) fun w6 hH4=>?_;(try refine Qi ?_);clear hH hH2 hH3;generalize hb1:(((false || decide ((Cr (Bl s 100 8)).2≠0)) || decide ((Cr (Bl s 108 8)).2≠0)) || decide ((Cr (Bl s 116 8)).2≠0))=b1 at *;have hH:Heap w [] w6 [Il gc (s.drop 124) b1,Es gh [] 0 0 m 0 [] [] [] i0 i1,Es g2 [] 0 0 0 0 [] [] [] 0 0]:=hH4;clear hH4;apply hK;clear hK;refine Am [0,2,4,5,6,7,8] fun K hK=>?_;refine Cc ?_;refine Qi ?_;refine Xd Ui (Sh gc s hs _ 124 12 (by omega) hH) ?_;clear hH;rintro v w6 ⟨hH,rfl⟩;(try refine Qi ?_);refine Cc ?_;refine Qi ?_;refine Xd Ui (Sh gc s hs _ 136 12 (by omega) hH) ?_;clear hH;rintro v w6 ⟨hH,rfl⟩;(try refine Qi ?_);generalize hsz:(Cr (Bl s 124 12)).1=sz at *
 generalize hti:(Cr (Bl s 136 12)).1=ti at *;refine Af ?_;refine Qi ?_;refine Al hH 1 (vs:=[.int .i64 sz]) rfl rfl (by kernel_rfl) (by first | decide | (simp;done) | (simp;omega)) (by simp [Yb]) fun w6 hH2=>?_;(try refine Qi ?_);refine Af ?_;refine Qi ?_;refine Al hH2 1 (vs:=[.int .i64 ti]) rfl rfl (by kernel_rfl) (by first | decide | (simp;done) | (simp;omega)) (by simp [Yb]) fun w6 hH3=>?_;(try refine Qi ?_);clear hH hH2;generalize hb2:((b1 || decide ((Cr (Bl s 124 12)).2≠0)) || decide ((Cr (Bl s 136 12)).2≠0))=b2 at *;have hH:Heap w [] w6 [Il gc (s.drop 148) b2,Es gh [] sz 0 m ti [] [] [] i0 i1,Es g2 [] 0 0 0 0 [] [] [] 0 0]:=hH3;clear hH3;apply hK;clear hK;refine Am [0,2,4,6,7,8,9] fun K hK=>?_;refine Cc ?_;refine Qi ?_;refine Xd Ui (Sh gc s hs _ 148 8 (by omega) hH) ?_;clear hH;rintro v w6 ⟨hH,rfl⟩;(try refine Qi ?_);apply hK;clear hK;generalize hb3:(b2 || decide ((Cr (Bl s 148 8)).2≠0))=b3 at *;generalize hsu:(Cr (Bl s 148 8)).1=su at *;refine Am [0,2,4,6,7,8,9] fun K hK=>?_;refine Cc ?_;refine Qi ?_;refine Xd Xj (Px gc s hs _ 156 1 (by omega) hH) ?_;clear hH;rintro v w6 ⟨hH,rfl⟩;(try refine Qi ?_)
 have hk0:(Bl s 156 1).getD (Gu 0) 0=s.getD 156 0:=by
  rw [Bl,Yc,Yc,show Gu 0=0 from rfl,U5 (by omega),Ut]
 rw [Ri (by omega),hk0];generalize hkk:s.getD 156 0=kk at *;(repeat first | refine Qo ?_ | refine ⟨⟨by omega,by omega⟩,?_⟩);refine Af ?_;refine Qi ?_;refine Al hH 1 (vs:=[.int .u8 kk.toNat]) rfl rfl (by kernel_rfl) (by first | decide | (simp;done) | (simp;omega)) (by simp [Yb]) fun w6 hH2=>?_;(try refine Qi ?_);have hH:Heap w [] w6 [Il gc (s.drop 157) b3,Es gh [] sz kk m ti [] [] [] i0 i1,Es g2 [] 0 0 0 0 [] [] [] 0 0]:=hH2;clear hH2;apply hK;clear hK;refine Am [0,2,4,6,7,8,9] fun K hK=>?_;refine Cc ?_;refine Qi ?_;refine Xd Xj (Px gc s hs _ 157 100 (by omega) hH) ?_;clear hH;rintro v w6 ⟨hH,rfl⟩;(try refine Qi ?_);refine Ac U3 ?_;refine Qi ?_;refine Yv (T3 (Bl s 157 100) w6 (by rw [Ri (by omega)];omega)) ?_;rintro v w7 ⟨rfl,rfl⟩;(try refine Qi ?_);generalize hli:Fr (Bl s 157 100)=li at *;refine Af ?_;refine Qi ?_;refine Al hH 1 (vs:=[Aa li]) rfl rfl (by kernel_rfl) (by first | decide | (simp;done) | (simp;omega)) (by simp [Yb]) fun w6 hH2=>?_;(try refine Qi ?_);have hH:Heap w [] w6 [Il gc (s.drop 257) b3,Es gh [] sz kk m ti li [] [] i0 i1,Es g2 [] 0 0 0 0 [] [] [] 0 0]:=hH2;clear hH2;apply hK;clear hK;refine Am [0,2,4,6,7,8,9,10] fun K hK=>?_;refine Cc ?_;refine Qi ?_;refine Xd Xj (Px gc s hs _ 257 8 (by omega) hH) ?_;clear hH;rintro v w6 ⟨hH,rfl⟩;(try refine Qi ?_);generalize hmg:Bl s 257 8=mg at *;apply hK;clear hK;refine Am [0,2,4,6,7,8,9,10] fun K hK=>?_;refine Cc ?_;refine Qi ?_;refine Xd Xj (Px gc s hs _ 265 32 (by omega) hH) ?_;clear hH;rintro v w6 ⟨hH,rfl⟩;(try refine Qi ?_);refine Ac U3 ?_;refine Qi ?_;refine Yv (T3 (Bl s 265 32) w6 (by rw [Ri (by omega)];omega)) ?_;rintro v w7 ⟨rfl,rfl⟩;(try refine Qi ?_);generalize hn0:Fr (Bl s 265 32)=n0 at *;refine Cc ?_;refine Qi ?_;refine Xd Xj (Px gc s hs _ 297 32 (by omega) hH) ?_;clear hH;rintro v w6 ⟨hH,rfl⟩;(try refine Qi ?_);refine Ac U3 ?_;refine Qi ?_;refine Yv (T3 (Bl s 297 32) w6 (by rw [Ri (by omega)];omega)) ?_;rintro v w7 ⟨rfl,rfl⟩;(try refine Qi ?_);generalize hn1:Fr (Bl s 297 32)=n1 at *;(repeat first | refine Qo ?_ | refine ⟨⟨by omega,by omega⟩,?_⟩);refine Af ?_;refine Qi ?_;refine Al hH 1 (vs:=[Aa n0]) rfl rfl (by kernel_rfl) (by first | decide | (simp;done) | (simp;omega)) (by simp [Yb]) fun w6 hH2=>?_;(try refine Qi ?_);(repeat first | refine Qo ?_ | refine ⟨⟨by omega,by omega⟩,?_⟩);refine Af ?_;refine Qi ?_;refine Al hH2 1 (vs:=[Aa n1]) rfl rfl (by kernel_rfl) (by first | decide | (simp;done) | (simp;omega)) (by simp [Yb]) fun w6 hH3=>?_;(try refine Qi ?_);clear hH hH2;have hH:Heap w [] w6 [Il gc (s.drop 329) b3,Es gh [] sz kk m ti li n0 n1 i0 i1,Es g2 [] 0 0 0 0 [] [] [] 0 0]:=hH3;clear hH3;apply hK;clear hK;refine Am [0,2,4,6,7,8,9,10] fun K hK=>?_;refine Cc ?_;refine Qi ?_;refine Xd Xj (Px gc s hs _ 329 16 (by omega) hH) ?_;clear hH;rintro v w6 ⟨hH,rfl⟩;(try refine Qi ?_);apply hK;clear hK;refine Am [0,2,4,7,8,9,10,11] fun K hK=>?_;refine Cc ?_;refine Qi ?_;refine Xd Xj (Px gc s hs _ 345 155 (by omega) hH) ?_;clear hH;rintro v w6 ⟨hH,rfl⟩;(try refine Qi ?_);refine Ac U3 ?_;refine Qi ?_;refine Yv (T3 (Bl s 345 155) w6 (by rw [Ri (by omega)];omega)) ?_;rintro v w7 ⟨rfl,rfl⟩;(try refine Qi ?_);generalize hpx:Fr (Bl s 345 155)=px at *;apply hK;clear hK;refine Am [0,2,4,7,8,9,10,11] fun K hK=>?_;refine Af ?_;refine Qi ?_;refine Al hH 1 (vs:=[Aa nm]) rfl rfl (by kernel_rfl) (by first | decide | (simp;done) | (simp;omega)) (by simp [Yb]) fun w6 hH2=>?_;(try refine Qi ?_);have hH:Heap w [] w6 [Il gc (s.drop 500) b3,Es gh nm sz kk m ti li n0 n1 i0 i1,Es g2 [] 0 0 0 0 [] [] [] 0 0]:=hH2;clear hH2;apply hK;clear hK;refine Am [0,2,4,7,8,9,10,11,75] fun K hK=>?_;(repeat refine Qo ?_);apply hK;clear hK;refine Dk [0,2,4,7,9,10] (fun e w'=>Is e [(0,Aa s),(2,pV g2),(4,pV gc),(7,pV gh),(9,.int .i64 su),(10,Aa mg)]/\Heap w [] w' [Il gc (s.drop 500) b3,Es gh (Lw s) sz kk m ti li n0 n1 i0 i1,Es g2 [] 0 0 0 0 [] [] [] 0 0]) ?_ ?_
 ·
  have hP:Lw s=if px=[] then nm else px++47::nm:=by rw [Lw,hpx,hnm]
  have hlp:px.length<=155:=by rw [<- hpx,Fr];exact Um (Xa _).length_le (by rw [Ri (by omega)];omega)
  have hln:nm.length<=100:=by rw [<- hnm,Fr];exact Um (Xa _).length_le (by rw [Ri (by omega)];omega)
  refine Ae rfl rfl (fun h=>?_) (fun h=>Ab ?_)
  ·
   simp only [decide_eq_true_eq] at h;rw [hP,if_neg h];have c1:w6.cell? ⟨gh,0,none⟩=some (Aa nm):=Aj (hH.at 1 rfl) rfl;refine Am [0,2,4,7,9,10] fun K hK=>?_;refine And.intro (by simp;omega) (And.intro (by simp;omega) ?_);rw [show px++[47]++nm=px++47::nm by simp];refine Af ?_;refine Qi ?_;refine Al hH 1 (vs:=[Aa (px++47::nm)]) rfl rfl (by kernel_rfl) (by first | decide | (simp;done) | (simp;omega)) (by simp [Yb]) fun w6 hH2=>?_;(try refine Qi ?_);apply hK;clear hK;refine Ah ?_;refine Qi ?_;exact ⟨rfl,hH2⟩
  simp only [decide_eq_false_iff_not,Decidable.not_not] at h;rw [hP,if_pos h];refine Ah ?_;refine Qi ?_;exact ⟨rfl,hH⟩
 clear hH;rintro e w6 ⟨rfl,hH⟩;have c2:w6.cell? ⟨gh,2,none⟩=some (.int .u8 kk.toNat):=Aj (hH.at 1 rfl) rfl;refine Am [0,2,4,7,9,10,83] fun K hK=>?_;refine ⟨_,c2,?_⟩;(try refine Qi ?_);apply hK;clear hK;refine Dk [0,2,4,7,9,10] (fun e w'=>Is e [(0,Aa s),(2,pV g2),(4,pV gc),(7,pV gh),(9,.int .i64 su),(10,Aa mg)]/\Heap w [] w' [Il gc (s.drop 500) b3,Es gh (Lw s) sz (Tc s) m ti li n0 n1 i0 i1,Es g2 [] 0 0 0 0 [] [] [] 0 0]) ?_ ?_
 ·
  have hK:Tc s=if kk=0 then 48 else kk:=by rw [Tc,hkk]
  refine VD (fun h=>?_) (fun h=>Ab ?_)
  ·
   rw [hK,if_pos ((i8 kk 0 (n:=0) rfl).1 h)];refine Am [0,2,4,7,9,10] fun K hK=>?_;refine Af ?_;refine Qi ?_;refine Al hH 1 (vs:=[.int .u8 48]) rfl rfl (by kernel_rfl) (by first | decide | (simp;done) | (simp;omega)) (by simp [Yb]) fun w6 hH2=>?_;(try refine Qi ?_);apply hK;clear hK;refine Ah ?_;refine Qi ?_;exact ⟨rfl,hH2⟩
  rw [hK,if_neg (fun h2=>h ((i8 kk 0 (n:=0) rfl).2 h2))];refine Ah ?_;refine Qi ?_;exact ⟨rfl,hH⟩
 clear hH c2;rintro e w6 ⟨rfl,hH⟩;have hsum:=Qly s 0;refine Am [2,4,7,9,10,12] fun K hK=>?_;refine Ac Tryz.call79 ?_;refine Qi ?_;refine Yv (Qje s w6 hs) ?_;rintro v w7 ⟨rfl,rfl⟩;(try refine Qi ?_);apply hK;clear hK;have c3:w7.cell? ⟨gc,1,none⟩=some (.bool b3):=Aj (hH.at 0 rfl) rfl;have c4:w7.cell? ⟨gh,0,none⟩=some (Aa (Lw s)):=Aj (hH.at 1 rfl) rfl
 have hO:O6 s ↔ b3=false/\su=Od s/\mg=ustarM:=by
  unfold O6;rw [hsu,hmg,<- hb3,<- hb2,<- hb1];simp [and_assoc]
 suffices out:∀ c,(c=false ↔ O6 s/\Lw s≠[])->VC _ _ [(2,pV g2),(7,pV gh),(107,.bool c)] w7 by
  cases b3
  ·
   refine Am [2,7,107] fun K hK=>?_;refine ⟨_,c3,?_⟩;(try refine Qi ?_);refine And.intro (fun h=>And.intro (fun h2=>⟨_,c4,?_⟩) (fun h2=>?_)) (fun h=>?_)
   ·
    (try refine Qi ?_);apply hK;clear hK;refine out _ ?_;rw [hO,decide_eq_false_iff_not];simp only [Decidable.not_not] at h h2;exact ⟨fun h3=>⟨⟨rfl,by omega,h2⟩,h3⟩,fun h3=>h3.2⟩
   ·
    (apply hK;clear hK)
    exact out true (by rw [hO];simp [h2])
   (apply hK;clear hK)
   exact out true (by rw [hO];simp;intro h3;exact absurd (by rw [h3]) h)
  refine Am [2,7,107] fun K hK=>?_;refine ⟨_,c3,?_⟩;(try refine Qi ?_);apply hK;clear hK;exact out true (by simp [hO])
 clear c3 c4;intro c hc;by_cases hgood:O6 s/\Lw s≠[]
 ·
  obtain rfl:=hc.2 hgood;refine Ae rfl rfl (fun h=>by simp at h) (fun h=>Ab ?_);rw [Pg,if_pos hgood,hsz];refine Am [2,3] fun K hK=>?_;refine ⟨_,⟨rfl,Ca (hH.at 1 rfl)⟩,?_⟩;refine Af ?_;refine Qi ?_;refine Al hH 2 (vs:=[Aa (Lw s),.int .i64 sz,.int .u8 (Tc s).toNat,.int .i64 m,.int .i64 ti,Aa li,Aa n0,Aa n1,.int .i64 i0,.int .i64 i1]) rfl rfl (by kernel_rfl) (by first | decide | (simp;done) | (simp;omega)) (by simp [Yb]) fun w6 hH2=>?_;(try refine Qi ?_);apply hK;clear hK;exact Ad (I4 rfl rfl rfl (Cv (hH2.at 2 rfl) (by kernel_rfl) (by kernel_rfl) rfl ⟨hH2.sub (by simp),m,ti,li,n0,n1,i0,i1,rfl⟩))
 have hct:c=true:=by
  cases c
  ·
   exact absurd (hc.1 rfl) hgood
  rfl
 subst hct;refine Ae rfl rfl (fun h=>?_) (fun h=>by simp at h);rw [Pg,if_neg hgood];refine Am [2,3] fun K hK=>?_;refine Af ?_;refine Qi ?_;refine Al hH 2 (vs:=[Aa [],.int .i64 0,.int .u8 0,.int .i64 0,.int .i64 0,Aa [],Aa [],Aa [],.int .i64 0,.int .i64 0]) rfl rfl (by kernel_rfl) (by first | decide | (simp;done) | (simp;omega)) (by simp [Yb]) fun w6 hH2=>?_;(try refine Qi ?_);apply hK;clear hK;refine Ad (I4 rfl rfl rfl (Cv (hH2.at 2 rfl) (by kernel_rfl) (by kernel_rfl) rfl ⟨hH2.sub (by simp),?_⟩));rfl
set_option maxHeartbeats 1000000
theorem bdF {KV:Value->Prop} (s0:ByteArray):Cs Ya 154 [(0,.string s0)] KV=KV (.agg #[.string s0,.int .i64 0]):=Dg (by kernel_rfl)
attribute [go_sem ↓] bdF
abbrev tF:Nat:=154
abbrev Lo (s:Bs):Value:=.agg #[Aa s,.int .i64 0]
theorem Km (n width:Nat) (w:World) (h1:2<=width) (h2:width<=20) (hn:n < 8 ^ (width - 1)) (hm:n<=9007199254740992) :
  Does Ya 91 #[.int .i64 n,.int .i64 width] w fun v w'=>Heap w [] w' []/\v=Lo (A4 n width):=by
 refine En [.int .i64 n,.int .i64 width] 16 Tryz.func91 ?_;refine VQ [0,1,4] fun K hK=>?_;refine A6 (Lo []) (by kernel_rfl) ?_;refine Qs ?_;have hH:=(Xh w).box tF [Aa [],.int .i64 0];generalize w.alloc (Ys #[Aa [],.int .i64 0] tF)=w1 at *;generalize w.heap.size=g at *;(try refine Qs ?_);apply hK;clear hK;refine VQ [4,5,6] fun K hK=>?_;refine Ac Tryz.call92 ?_;refine Qs ?_;refine Yv (Qgl n width w1 h1 h2 hn hm) ?_;rintro v w2 ⟨hHo,rfl⟩;have hH2:=hH.call0 hHo;simp only [X0] at hH2;(try refine Qs ?_);apply hK;clear hK;refine VQ [4] fun K hK=>?_;refine Af ?_;refine Qs ?_;refine Al hH2 0 (vs:=[Aa (A4 n width),.int .i64 0]) rfl rfl (by kernel_rfl) (by first | decide | (simp;done) | (simp;omega)) (by simp [Yb]) fun w6 hH3=>?_;(try refine Qs ?_);apply hK;clear hK;exact Ad (Ve rfl rfl (Cv (hH3.at 0 rfl) (by kernel_rfl) (by kernel_rfl) rfl ⟨hH3.sub (by simp),rfl⟩))
theorem Eu (s:Bs) (width most:Nat) (w:World) (hs:s.length<=width) (hm:s.length<=most) (hw:width<=512) (h0:(0:UInt8) ∉ s) :
  Does Ya 90 #[Aa s,.int .i64 width,.int .i64 most] w fun v w'=>Heap w [] w' []/\v=Lo (Av s width):=by
 refine En [Aa s,.int .i64 width,.int .i64 most] 22 Tryz.func90 ?_;refine VQ [0,1,2,6] fun K hK=>?_;refine A6 (Lo []) (by kernel_rfl) ?_;refine Qs ?_;have hH:=(Xh w).box tF [Aa [],.int .i64 0];generalize w.alloc (Ys #[Aa [],.int .i64 0] tF)=w1 at *;generalize w.heap.size=g at *;(try refine Qs ?_);apply hK;clear hK;refine VQ [0,2,6,7,8] fun K hK=>?_;refine Ac Tryz.call132 ?_;refine Qs ?_;refine Yv (Qq5 s width w1 hs hw h0) ?_;rintro v w2 ⟨hHo,rfl⟩;have hH2:=hH.call0 hHo;simp only [X0] at hH2;(try refine Qs ?_);apply hK;clear hK;refine VS [6,7,8,18] ?_;refine Dk [6,7,8] (fun e w'=>Is e [(6,pV g),(7,Aa (Av s width)),(8,.int .i64 0)]/\Is w' w2) ?_ ?_
 ·
  refine Ae rfl rfl (fun h=>absurd h (by simp;omega)) (fun h=>Ab ?_);refine Ah ?_;refine Qs ?_;exact ⟨rfl,rfl⟩
 rintro e w' ⟨rfl,rfl⟩;refine VQ [6] fun K hK=>?_;refine Af ?_;refine Qs ?_;refine Al hH2 0 (vs:=[Aa (Av s width),.int .i64 0]) rfl rfl (by kernel_rfl) (by first | decide | (simp;done) | (simp;omega)) (by simp [Yb]) fun w6 hH3=>?_;(try refine Qs ?_);apply hK;clear hK;exact Ad (Ve rfl rfl (Cv (hH3.at 0 rfl) (by kernel_rfl) (by kernel_rfl) rfl ⟨hH3.sub (by simp),rfl⟩))
def V2 (s:Bs):List Value:=[Aa s,.int .i64 0]
def Nz (l:List Bs):List Value:=Cf V2 l
theorem Oq (l:List Bs) (ga c:Nat) (w:World) (hl:RS w (some ⟨ga,0,none⟩) l.length 2 (Nz l)) (hga:ga < w.heap.size) (hn:l.length<=100) (hb:l.flatten.length<=100000) :
  Does Ya 89 #[.slice (some ⟨ga,0,none⟩) l.length c] w fun v w'=>Heap w [] w' []/\v=.tuple #[Aa l.flatten,.bool true]:=by
 refine En [.slice (some ⟨ga,0,none⟩) l.length c] 21 Tryz.func89 ?_;refine VS [0] ?_;refine VQ [0,4] fun K hK=>?_;refine A6 (.agg #[.pointer none,.slice none 0 0]) (by kernel_rfl) ?_;refine Qs ?_;have hH:=Heap.newBld (Xh w);generalize hw1:w.alloc (Ys #[.pointer none,.slice none 0 0] tB)=w1 at *;obtain ⟨g,hg⟩:∃ g,g=w.heap.size:=⟨_,rfl⟩;have hg0:w.heap.size<=g:=by omega
 rw [<- hg] at hH ⊢;(try refine Qs ?_);apply hK;clear hK;refine VS [4,7,8,9] ?_;refine Ar ?_;refine Au [4,7,8,9] (fun m e w'=>∃ (i:Nat) (og:Option Nat),Is e [(4,pV g),(7,.slice (some ⟨ga,0,none⟩) l.length c),(8,.int .i64 l.length),(9,.int .i64 i)]/\Heap w [] w' [Res.bld g og (l.take i).flatten]/\i<=l.length/\m=l.length - i) l.length ?_ ?_
 ·
  refine Qs ?_;exact ⟨0,none,rfl,hH,by omega,rfl⟩
 clear hH hw1 w1;rintro m e w' ⟨i,og,rfl,hH,hi,rfl⟩;refine VS [4,7,8,9,10] ?_;(repeat refine Ax ?_);refine VD (fun h=>?_) (fun h=>?_)
 ·
  have hi2:i < l.length:=by omega
  obtain ⟨x,hx⟩:∃ x,l[i]? = some x:=⟨l[i],Yr hi2⟩;refine Ab ?_;refine VB ?_;have hrd:Reads w (Addr.add ⟨ga,0,none⟩ (i * 2)) (V2 x):=Sa (k:=2) (f:=V2) (fun _=>rfl) hl rfl hx;have hrd2:Reads w' (Addr.add ⟨ga,0,none⟩ (i * 2)) (V2 x):=hH.reads hrd (by simp);rw [B0,U9] at hrd2;refine VQ [4,6,7,8,9] fun K hK=>?_;(repeat first | refine Qo ?_ | refine Qp ?_);refine ⟨V2 x,⟨rfl,hrd2⟩,?_⟩;(try refine Qs ?_);refine A6 (Lo []) (by kernel_rfl) ?_;refine Qs ?_;have hH2:=hH.box tF [Aa [],.int .i64 0];generalize w'.alloc (Ys #[Aa [],.int .i64 0] tF)=w2 at *;generalize w'.heap.size=gf at *;(try refine Qs ?_);refine Af ?_;refine Qs ?_;refine Al hH2 0 (vs:=[Aa x,.int .i64 0]) rfl rfl (by kernel_rfl) (by first | decide | (simp;done) | (simp;omega)) (by simp [Yb]) fun w6 hH3=>?_;(try refine Qs ?_);have hH3:Heap w [] w6 [Ye gf tF [Aa x,.int .i64 0],Res.bld g og (l.take i).flatten]:=hH3;clear hH hH2 hrd2;apply hK;clear hK;have c1:w6.cell? ⟨gf,1,none⟩=some (.int .i64 0):=Aj (hH3.at 0 rfl) rfl;have c0:w6.cell? ⟨gf,0,none⟩=some (Aa x):=Aj (hH3.at 0 rfl) rfl;refine VQ [4,6,7,8,9,15] fun K hK=>?_;refine ⟨_,c1,?_⟩;(try refine Qs ?_);apply hK;clear hK;refine Ae rfl rfl (fun h=>by simp at h) (fun h=>Ab ?_)
  have hfl:(l.take i).flatten.length+x.length<=140737488355328:=by
   have e:l=l.take i++(x::l.drop (i+1)):=by
    have h3:l.drop i=x::l.drop (i+1):=by rw [Xc hi2,(Xb.1 hx).2]
    rw [<- h3,Yz]
   have h2:=congrArg (fun l=>l.flatten.length) e;simp only [Xz,Yj,List.flatten_cons] at h2;omega
  refine VQ [4,7,8,9] fun K hK=>?_;refine ⟨_,c0,?_⟩;(try refine Qs ?_);refine Ac Tryz.call53 ?_;refine Qs ?_;refine Yv (Qef x (hH3.sub (Gd _ _)) hg0 (by simp) hfl) ?_;rintro v w7 ⟨og2,hH4,_,rfl⟩;(try refine Qs ?_);apply hK;clear hK;refine Ao ?_;refine VS [4,7,8,9] ?_;refine Ah ?_;refine Qs ?_;refine ⟨l.length - (i+1),by omega,i+1,og2,rfl,?_,by omega,rfl⟩;rw [W3 hx,Xz];simpa using hH4
 obtain rfl:i=l.length:=by omega
 rw [List.take_length] at hH;refine As rfl ?_;refine VQ [2,3] fun K hK=>?_;refine Ac Tryz.call54 ?_;refine Qs ?_;refine Yv (Qcz hH hg0 (by simp)) ?_;rintro v w7 ⟨hH4,rfl⟩;(try refine Qs ?_);apply hK;clear hK;exact Ad (A7 rfl rfl rfl ⟨hH4,rfl⟩)
def Qmg (p:Bs):Value :=
 match Ij p with
 | some q=>.tuple #[Aa q.1,Aa q.2,.bool true]
 | none=>.tuple #[Aa [],Aa [],.bool false]
theorem Qeg (p:Bs) (w:World) (hp:p.length<=1000000000):Does Ya 25 #[Aa p] w fun v w'=>w'=w/\v=Qmg p:=by
 rw [Qmg,Ij];refine En [Aa p] 40 Tryz.func25 ?_;refine VS [0] ?_;refine VS [0,8] ?_;refine VD (fun h=>?_) (fun h=>Ab ?_)
 ·
  rw [if_pos (by omega)];refine VS [2,3,4] ?_;exact Ad (Dh rfl rfl rfl rfl ⟨rfl,rfl⟩)
 rw [if_neg (by omega)];refine VS [0,5] ?_;refine Ar ?_;refine Au [0,5] (fun m e w'=>∃ (i:Nat),Is e [(0,Aa p),(5,.int .i64 i)]/\Is w' w/\1<=i/\i<=p.length/\Qh p p.length 1=Qh p (p.length+1 - i) i/\m=p.length - i) (p.length - 1) ?_ ?_
 ·
  refine Qs ?_;exact ⟨1,rfl,rfl,by omega,by omega,by rw [Nat.add_sub_cancel],rfl⟩
 rintro m e w' ⟨i,rfl,rfl,hi1,hi,hs,rfl⟩;rw [hs];clear hs;obtain ⟨f,hf⟩:∃ f,p.length+1 - i=f+1:=⟨p.length - i,by omega⟩;rw [hf,Qh];refine VQ [0,5,18] fun K hK=>?_
 suffices out:∀ c:Bool,(c=true ↔ i+1 < p.length/\i<=155)->K [(0,Aa p),(5,.int .i64 i),(18,.bool c)] w' by
  refine And.intro (Gq (by omega) (by omega)) (And.intro (fun h3=>out _ ?_) (fun h3=>out _ ?_))
  ·
   rw [decide_eq_true_eq];omega
  simp only [Uw,false_iff];omega
 intro c hc;apply hK;clear hK;refine Ae rfl rfl (fun h2=>?_) (fun h2=>?_)
 ·
  have h3:=hc.1 h2;rw [if_pos h3];refine Ab ?_;refine VB ?_;refine VQ [0,5,32] fun K hK=>?_
  suffices out:∀ c:Bool,(c=true ↔ p.getD i 0=47/\p.length - i - 1<=100)->K [(0,Aa p),(5,.int .i64 i),(32,.bool c)] w' by
   refine And.intro (by omega) (And.intro (fun h3=>And.intro (Gq (by omega) (by omega)) (And.intro (Gq (by omega) (by omega)) (out _ ?_))) (fun h3=>out _ ?_))
   ·
    rw [decide_eq_true_eq,<- i8 (p.getD i 0) 47 (n:=47) rfl];omega
   rw [i8 (p.getD i 0) 47 (n:=47) rfl] at h3;simp only [Uw,false_iff];exact fun h5=>h3 h5.1
  intro c hc;apply hK;clear hK;refine Ae rfl rfl (fun h4=>?_) (fun h4=>Ab ?_)
  ·
   rw [if_pos (hc.1 h4)];refine Vq [2,3,4] fun K hK=>?_;refine And.intro (by omega) (And.intro (Gq (by omega) (by omega)) (And.intro (by omega) ?_));apply hK;clear hK;exact Ad (Dh rfl rfl rfl rfl ⟨rfl,rfl⟩)
  rw [if_neg (fun h5=>by rw [hc.2 h5] at h4;cases h4)];refine Ao ?_;refine VS [0,5] ?_;refine Ah ?_;refine Qs ?_;exact ⟨p.length - (i+1),by omega,i+1,rfl,rfl,by omega,by omega,by rw [show p.length+1 - (i+1)=f by omega],rfl⟩
 rw [if_neg (fun h5=>by rw [hc.2 h5] at h2;cases h2)];refine As rfl ?_;refine VS [2,3,4] ?_;exact Ad (Dh rfl rfl rfl rfl ⟨rfl,rfl⟩)
theorem Qbp (s:Bs) (c:UInt8) (w:World):Does Ya 51 #[Aa s,Aa [c]] w fun v w'=>w'=w/\v=.bool (decide (0<=Lib.indexByte s c)) :=
 Zd fun w=>Go.Proofs.Any.strings_Contains_one Qkw ⟨s.toArray⟩ c w
theorem Qnd (s p:Bs) (w:World):Does Ya 23 #[Aa s,Aa p] w fun v w'=>w'=w/\v=.bool (Lib.hasPrefix s p) :=
 Zd fun w=>Go.Proofs.Any.strings_HasPrefix Qq4 ⟨s.toArray⟩ ⟨p.toArray⟩ w
end Go.Proofs.YtncpabbjpdogjaaGreatDoor
namespace Go.Eng
open Go
def Oj (P:Program) (N:Nat) (ops:List Oper):M4->World->Env->World->(Env->World->Prop)->Prop
 | .seq pre,w0,e,w,K=>Ap P N ops w0 (Bd ops pre) e w K
 | .two pre i j k k',w0,e,w,K=>Ap P N ops w0 (Bd ops pre) e w fun e w =>
   Ap P N ops w0 (Bd ops [(i,false)]) e w (fun e w=>Oj P N ops k w e w K)/\Ap P N ops w0 (Bd ops [(j,false)]) e w (fun e w=>Oj P N ops k' w e w K)
theorem Ln {P:Program}{N:Nat}{ops:List Oper}{w0 w:World}{pre:List (Nat×Bool)}{e:Env}{K:Env->World->Prop}:Oj P N ops (.seq pre) w0 e w K=Ap P N ops w0 (Bd ops pre) e w K:=rfl
theorem K9 {P:Program}{N:Nat}{ops:List Oper}{w0 w:World}{pre:List (Nat×Bool)}{i j:Nat}{k k':M4}{e:Env}{K:Env->World->Prop}:Oj P N ops (.two pre i j k k') w0 e w K=(Ap P N ops w0 (Bd ops pre) e w fun e w =>
  Ap P N ops w0 (Bd ops [(i,false)]) e w (fun e w=>Oj P N ops k w e w K)/\Ap P N ops w0 (Bd ops [(j,false)]) e w (fun e w=>Oj P N ops k' w e w K)):=rfl
theorem Ll {P:Program}{N:Nat}{ops:List Oper}{w0 w:World}{e:Env}{K:Env->World->Prop}:Ap P N ops w0 [] e w K=K e w:=rfl
theorem Qa5 {P:Program}{ops:Array Oper}{Q:Exit->Act->World->Prop}{S S':World->Prop} (hS:∀ w,S' w->S w):∀ (fuel:Nat) (listed:Array Bool) (a:Act) (w:World),wpAnyH P .any ops Q S' fuel listed a w->wpAnyH P .any ops Q S fuel listed a w
 | 0,_,_,_,h=>h
 | fuel+1,_,_,_,h=>⟨h.1,fun i hi=>wpOp_mono (fun a' w' h'=>⟨hS _ h'.1,Qa5 hS fuel _ a' w' h'.2⟩) (h.2 i hi)⟩
section
variable {P:Program}{N:Nat}{ops:List Oper}{Q:Exit->Act->World->Prop}
theorem Qvg {K:Env->World->Prop} (hN:ops.all (Co N)=true) (hsel:Region.noSelect ops.toArray=true)
  (hQ:∀ c a w (d:Option Tmp) v,Q (.panic c) (a.put d v) w->Q (.panic c) a w)
  (hK:∀ e a w n,Fits N e a->K e w->Q .normal a (w.drewN n)):∀ (t:M4) (w0:World) (fuel:Nat) (listed:Array Bool) (e:Env) (a:Act) (w:World) (n:Nat),
   N1 ops.toArray t fuel listed=true->Fits N e a->Ext w0 w->Oj P N ops t w0 e w K ->
   wpAnyH P .any ops.toArray Q (fun w'=>Ext w0 w') fuel listed a (w.drewN n):=by
 intro t
 induction t with
 | seq pre =>
  intro w0 fuel listed e a w n ht ha hx h;simp only [N1,Yk,decide_eq_true_eq] at ht;obtain ⟨hf,ht⟩:=ht;cases hp:Kw ops.toArray pre listed with
  | none=>rw [hp] at ht;cases ht
  | some l =>
   rw [hp] at ht;simp only [List.isEmpty_iff] at ht;exact Rb hN hsel hQ pre fuel listed l e a w n hf hp ha hx h fun e a w n h1 _ h3=>wpAnyH_done ht (hK e a w n h1 h3) _
 | two pre i j k k' ihk ihk' =>
  intro w0 fuel listed e a w n ht ha hx h;simp only [N1,Yk,decide_eq_true_eq] at ht;obtain ⟨hf,ht⟩:=ht;cases hp:Kw ops.toArray pre listed with
  | none=>rw [hp] at ht;cases ht
  | some l =>
   rw [hp] at ht;simp only [Yk,beq_iff_eq,decide_eq_true_eq] at ht;obtain ⟨⟨⟨⟨hr,hi⟩,hj⟩,h1⟩,h2⟩:=ht;refine Rb hN hsel hQ pre fuel listed l e a w n (by omega) hp ha hx h fun e a w n g1 g2 g3=>?_;obtain ⟨m,hm⟩:∃ m,fuel - pre.length=m+1:=⟨fuel - pre.length - 1,by omega⟩;rw [hm];have hm':fuel - pre.length - 1=m:=by omega
   rw [hm'] at h1 h2;refine wpAnyH_all hr (by simp) ?_;intro x hx2;simp only [Xg,List.not_mem_nil,or_false] at hx2;rcases hx2 with rfl | rfl
   ·
    exact Ny hN (by simpa using hi) g1 g2 g3.1 fun e a w n f1 f2 f3=>⟨f2.trans (Ext.drewN w n),Qa5 (fun w' h=>f2.trans h) _ _ _ _ (ihk w m _ e a w n h1 f1 (Ext.refl _) f3)⟩
   exact Ny hN (by simpa using hj) g1 g2 g3.2 fun e a w n f1 f2 f3=>⟨f2.trans (Ext.drewN w n),Qa5 (fun w' h=>f2.trans h) _ _ _ _ (ihk' w m _ e a w n h2 f1 (Ext.refl _) f3)⟩
end
theorem Qq7 {P:Program}{fn:Func}{F:Value->World->Prop}{N:Nat}{k:List It}{e:Env}{w:World} (ks:List Nat) (t:M4) {id:Nat}{ops:List Oper}
  (hm:P.follows .mixedOrders=true) (hB:(N1 ops.toArray t ops.toArray.size (Array.replicate ops.toArray.size false) && Region.noSelect ops.toArray)=true) (hN:ops.all (Co N)=true)
  (h:∀ K:Env->World->Prop,(∀ e w,VC ⟨P,fn,F,N⟩ k e w->K e w)->Oj P N ops t w e w (Dm ks K)):VC ⟨P,fn,F,N⟩ (.code (.region id ops.toArray true)::k) e w:=by
 intro a n ha;simp only [Yk] at hB;obtain ⟨hB1,hB2⟩:=hB;refine wp_region_held (S:=fun w'=>Ext w w') hm ?_;refine Qvg (K:=Dm ks (VC ⟨P,fn,F,N⟩ k)) hN hB2 (fun c a w d v hq=>W1 d v hq) (fun e a w n ha hv=>?_) t w _ _ e a w (n+1) hB1 ha (Ext.refl _) (h _ fun _ _ hv=>hv);exact ((Ko ks e _).1 hv) a n (ha.sel ks)
theorem Lp {P:Program}{N:Nat}{ops:List Oper}{t:M4}{w:World}{e:Env}{K:Env->World->Prop} (h:Heap w [] w []->Oj P N ops t w e w K):Oj P N ops t w e w K:=h (Xh w)
end Go.Eng
