/- A program logic over the model, and what this program's functions do by it: part 1. No conditions: a library of lemmas. -/
import Derived.Deep.Quiet
import Derived.Lib.Hide
import Derived.OrdersHeld
import Derived.StillTail
import Derived.WalkKit
open Nat (reduceEqDiff)
set_option linter.unusedSimpArgs false
set_option linter.unusedVariables false
set_option maxRecDepth 100000
open Go.Result renaming andThen_ok->Ya
open Go.Sem renaming run_pure->Yb,run_bind->Yc,run->Ua
open Bool renaming and_eq_true->Yd,false_eq_true->Yq
open List renaming replicate->Ye,length_append->Yf,getElem?_eq_getElem->Yg,eq_nil_of_length_eq_zero->Yh,getD_eq_getElem?_getD->Yi,pairwise_cons->Yj,mem_of_getElem?->Yl,getElem?_eq_some_iff->Yp,mem_cons->Yr,flatMap_cons->Ys,length_take->Yt,mem_append_right->Yu,mem_append_left->Yv,append_assoc->Yw,mem_flatMap->Yx,mem_singleton->Yz,mem_append->Y1,append_nil->Y2,take_append_drop->Y5,length_cons->Y7,all_eq_true->Y8,getElem?_append_left->Y9,set_eq_take_append_cons_drop->Xc,take_of_length_le->Xe,set_append_right->Xf,isEmpty_iff->Xg,pairwise_append->Xi,take_append_of_le_length->Xj,drop_append_of_le_length->Xk,getElem?_append_right->Xm,extract_eq_take_drop->Xn,ext_getElem?->Xq,getElem?_set->Xr,perm_middle->Xt,zipIdx_cons->Xu,drop_append->Xv,length_drop->Xw,not_mem_nil->Xx,sublist_cons_self->X0,nil_append->X2,getElem_toArray->X4,replicate_succ->X5,all_cons->X6,getElem?_take->X7,toArray->X8,flatten_cons->Uc
open Go.IntKind renaming signed->Yk,bits->Yy,wrap->Xd
open Nat renaming mul_le_mul_right->Ym,add_mul->Yo,succ_mul->Y0,le_refl->Y6,min_eq_left->Xa,lt_of_lt_of_le->Xb,mul_one->Xh,lt_or_ge->Xy,zero_add->Xz,add_zero->X1,pow_le_pow_right->X3,zero_mul->X9,add_comm->Ub
open Go.Value renaming cells->Yn,int->Y3
open UInt8 renaming lt_iff_toNat_lt->Y4
open Int renaming natCast_mul->Xl,emod_eq_of_lt->Xo,toNat_natCast->Xp
open Option renaming isSome_iff_exists->Xs
namespace Go.Eng
open Go
abbrev Env:=List (Nat×Value)
def Env.find? : Env->Nat->Option Value
 | [],_=>none
 | p::e,n=>if n=p.1 then some p.2 else Env.find? e n
def Env.put (e:Env) (d:Option Tmp) (v:Value):Env :=
 match d with
 | some t=>(t,v)::e
 | none=>e
def Env.keep (ks:List Nat) (e:Env):Env:=e.filter fun p=>ks.contains p.1
structure Fits (N:Nat) (e:Env) (a:Act):Prop where
 size:a.tmps.size=N
 defers:a.defers=[]
 at_:∀ t v,e.find? t=some v->a.tmps.getD t undef=v
theorem Env.find?_cons (p:Nat×Value) (e:Env) (n:Nat):Env.find? (p::e) n=if n=p.1 then some p.2 else Env.find? e n:=rfl
theorem Fits.put {N:Nat}{e:Env}{a:Act} (h:Fits N e a) (d:Option Tmp) (v:Value) (hd:∀ t,d=some t->t < N):Fits N (e.put d v) (a.put d v):=by
 cases d with
 | none=>exact h
 | some t =>
  have ht:=hd t rfl;refine ⟨by simp [Act.put,h.size],by simp [Act.put,h.defers],fun s u hs=>?_⟩;simp only [Env.put,Env.find?_cons] at hs;simp only [Act.put];by_cases hst:s=t
  ·
   subst hst;simp at hs;subst hs;simp [h.size,ht]
  simp [hst] at hs;have:=h.at_ s u hs;rw [Array.getD_eq_getD_getElem?] at this ⊢;rw [Array.getElem?_setIfInBounds];rw [if_neg (fun x=>hst x.symm)];exact this
theorem Fits.weaken {N:Nat}{e e':Env}{a:Act} (h:Fits N e a) (hs:∀ t v,e'.find? t=some v->e.find? t=some v):Fits N e' a :=
 ⟨h.size,h.defers,fun t v ht=>h.at_ t v (hs t v ht)⟩
theorem Env.find?_keep (ks:List Nat) (e:Env) (t:Nat) (v:Value) (h:(e.keep ks).find? t=some v):e.find? t=some v:=by
 induction e with
 | nil=>simp [Env.keep,Env.find?] at h
 | cons p e ih =>
  simp only [Env.keep,List.filter_cons] at h;simp only [Env.find?_cons];by_cases hp:ks.contains p.1=true
  ·
   simp only [hp,if_true,Env.find?_cons] at h;by_cases ht:t=p.1
   ·
    simp only [ht,if_true] at h ⊢;exact h
   simp only [ht,if_false] at h ⊢;exact ih h
  simp only [hp] at h;have hm:=ih (by simpa [Env.keep] using h);by_cases ht:t=p.1
  ·
   exfalso
   have key:∀ (l:Env),(Env.keep ks l).find? t=some v->ks.contains t=true:=by
    intro l
    induction l with
    | nil=>intro h0;simp [Env.keep,Env.find?] at h0
    | cons q l ihl =>
     intro h0;simp only [Env.keep,List.filter_cons] at h0;by_cases hq:ks.contains q.1=true
     ·
      simp only [hq,if_true,Env.find?_cons] at h0;by_cases htq:t=q.1
      ·
       rw [htq];exact hq
      simp only [htq,if_false] at h0;exact ihl h0
     simp only [hq] at h0;exact ihl (by simpa [Env.keep] using h0)
   exact hp (ht ▸ key e (by simpa [Env.keep] using h))
  simp only [ht,if_false];exact hm
theorem Fits.keep {N:Nat}{e:Env}{a:Act} (h:Fits N e a) (ks:List Nat):Fits N (e.keep ks) a :=
 h.weaken fun t v ht=>Env.find?_keep ks e t v ht
inductive It where
 | code (c:Code)
 | blk (id:Nat)
 | again (I:Env->World->Prop)
structure K3 where
 P:Program
 fn:Func
 F:Value->World->Prop
 N:Nat
def Vv (F:Value->World->Prop) (e:Ending) (w':World):Prop:=∃ v w n,e=.returned v/\w'=w.drewN n/\F v w
def Does (P:Program) (f:FuncId) (args:Array Value) (w:World) (F:Value->World->Prop):Prop :=
 ∀ n,Calls P f args (w.drewN n) (Vv F)
theorem Does.mono {P:Program}{f:FuncId}{args:Array Value}{w:World}{F G:Value->World->Prop} (h:Does P f args w F) (hg:∀ v w',F v w'->G v w'):Does P f args w G :=
 fun n=>(h n).mono fun _ _ ⟨v,w',m,he,hw,hF⟩=>⟨v,w',m,he,hw,hg v w' hF⟩
theorem QFr (w:World):w.drewN 0=w:=rfl
def Fo (C:K3):List It->Exit->Act->World->Prop
 | [],ex,a,w=>bodyPost C.P C.fn (Vv C.F) ex a w
 | .code c::k,ex,a,w=>match ex with
  | .normal=>c.wp C.P (fun ex a w=>Fo C k ex a w) a w
  | ex=>Fo C k ex a w
 | .blk id::k,ex,a,w=>match ex with
  | .exit id'=>if id'=id then Fo C k .normal a w else Fo C k (.exit id') a w
  | ex=>Fo C k ex a w
 | .again I::k,ex,a,w=>match ex with
  | .normal=>∃ e w0 n,w=w0.drewN n/\Fits C.N e a/\I e w0
  | ex=>Fo C k ex a w
def VC (C:K3) (k:List It) (e:Env) (w:World):Prop:=∀ a n,Fits C.N e a->Fo C k .normal a (w.drewN n)
def VX (C:K3) (k:List It) (ex:Exit) (e:Env) (w:World):Prop:=∀ a n,Fits C.N e a->Fo C k ex a (w.drewN n)
section
variable {C:K3}{k:List It}{e:Env}{w:World}
theorem Ax {x y:Code} (h:VC C (.code x::.code y::k) e w):VC C (.code (.seq x y)::k) e w:=by
 intro a n ha;have h1:=h a n ha;simp only [Fo] at h1 ⊢;refine wp_seq (wp_mono h1 fun ex a w hq=>?_);cases ex <;> exact hq
theorem Ar {id:Nat}{c:Code} (h:VC C (.code c::.blk id::k) e w):VC C (.code (.block id c)::k) e w:=by
 intro a n ha;have h1:=h a n ha;simp only [Fo] at h1 ⊢;refine wp_block (wp_mono h1 fun ex a w hq=>?_);cases ex <;> exact hq
theorem Ao {id:Nat} (h:VC C k e w):VC C (.blk id::k) e w:=fun a n ha=>h a n ha
theorem Ab (h:VC C k e w):VC C (.code .skip::k) e w:=fun a n ha=>wp_skip (h a n ha)
theorem Va {l:Nat} (h:VC C k e w):VC C (.code (.label l)::k) e w:=fun a n ha=>wp_label (h a n ha)
theorem Ah {I:Env->World->Prop} (h:I e w):VC C (.again I::k) e w:=fun _ n ha=>⟨e,w,n,rfl,ha,h⟩
def Ff (id:Nat):List It->Option (List It)
 | []=>none
 | .blk id'::k=>if id=id' then some k else Ff id k
 | .code _::k=>Ff id k
 | .again _::k=>Ff id k
theorem Qp6 {id:Nat}{k k':List It} (hp:Ff id k=some k') {a:Act} (h:Fo C k' .normal a w):Fo C k (.exit id) a w:=by
 induction k with
 | nil=>simp [Ff] at hp
 | cons x k ih =>
  cases x with
  | code c=>exact ih (by simpa [Ff] using hp)
  | again I=>exact ih (by simpa [Ff] using hp)
  | blk id' =>
   simp only [Fo];by_cases hid:id=id'
   ·
    simp only [Ff,hid,if_true] at hp;cases hp;simp only [hid,if_true];exact h
   simp only [Ff,hid,if_false] at hp;simp only [hid,if_false];exact ih hp
theorem As {id:Nat}{k':List It} (hp:Ff id k=some k') (h:VC C k' e w):VC C (.code (.exit id)::k) e w :=
 fun a n ha=>wp_exit (Qp6 hp (h a n ha))
theorem Qxg {k:List It}{a:Act} (h:bodyPost C.P C.fn (Vv C.F) .ret a w):Fo C k .ret a w:=by
 induction k with
 | nil=>exact h
 | cons x k ih=>cases x <;> exact ih
theorem Ad (h:VX C [] .ret e w):VC C (.code .ret::k) e w:=fun a n ha=>wp_ret (Qxg (h a n ha))
theorem Qe (h:VX C [] .ret e w):VC C [] e w:=fun a n ha=>h a n ha
theorem I8 (hr:C.fn.results=#[]) (h:C.F (.tuple #[]) w):VX C [] .ret e w :=
 fun _ n ha=>⟨ha.defers,_,results_none hr _ _ _,_,w,n,rfl,rfl,h⟩
theorem A2 {t:Tmp}{v:Value} (hr:C.fn.results=#[.tmp t]) (hv:e.find? t=some v) (h:C.F v w):VX C [] .ret e w :=
 fun _ n ha=>⟨ha.defers,_,results_tmp hr _ _ _,_,w,n,rfl,rfl,by rw [ha.at_ t v hv];exact h⟩
theorem A7 {t u:Tmp}{v x:Value} (hr:C.fn.results=#[.tmp t,.tmp u]) (hv:e.find? t=some v) (hx:e.find? u=some x) (h:C.F (.tuple #[v,x]) w):VX C [] .ret e w :=
 fun _ n ha=>⟨ha.defers,_,results_tmp2 hr _ _ _,_,w,n,rfl,rfl,by rw [ha.at_ t v hv,ha.at_ u x hx];exact h⟩
theorem Qia {fn:Func}{t u s:Tmp} (h:fn.results=#[.tmp t,.tmp u,.tmp s]) (tmps:Array Value) (P:Program) (w:World) :
  (results fn tmps).run P w=.ok (.tuple #[tmps.getD t undef,tmps.getD u undef,tmps.getD s undef]) w:=by
 simp [results,h]
theorem Dh {t u s:Tmp}{v x y:Value} (hr:C.fn.results=#[.tmp t,.tmp u,.tmp s]) (hv:e.find? t=some v) (hx:e.find? u=some x) (hy:e.find? s=some y)
  (h:C.F (.tuple #[v,x,y]) w):VX C [] .ret e w :=
 fun _ n ha=>⟨ha.defers,_,Qia hr _ _ _,_,w,n,rfl,rfl,by rw [ha.at_ t v hv,ha.at_ u x hx,ha.at_ s y hy];exact h⟩
theorem Qib {fn:Func}{t u s r:Tmp} (h:fn.results=#[.tmp t,.tmp u,.tmp s,.tmp r]) (tmps:Array Value) (P:Program) (w:World) :
  (results fn tmps).run P w=.ok (.tuple #[tmps.getD t undef,tmps.getD u undef,tmps.getD s undef,tmps.getD r undef]) w:=by
 simp [results,h]
theorem P6 {t u s r:Tmp}{v x y z:Value} (hr:C.fn.results=#[.tmp t,.tmp u,.tmp s,.tmp r]) (hv:e.find? t=some v) (hx:e.find? u=some x) (hy:e.find? s=some y) (hz:e.find? r=some z)
  (h:C.F (.tuple #[v,x,y,z]) w):VX C [] .ret e w :=
 fun _ n ha=>⟨ha.defers,_,Qib hr _ _ _,_,w,n,rfl,rfl,by rw [ha.at_ t v hv,ha.at_ u x hx,ha.at_ s y hy,ha.at_ r z hz];exact h⟩
theorem Ae {c:Operand}{t:Tmp}{b:Bool}{x y:Code} (hc:c=.tmp t) (hv:e.find? t=some (.bool b))
  (ht:b=true->VC C (.code x::k) e w) (hf:b=false->VC C (.code y::k) e w):VC C (.code (.cond c x y)::k) e w:=by
 intro a n ha;subst hc;exact wp_cond_split (t:=b) (ha.at_ t _ hv) (fun h=>ht h a n ha) (fun h=>hf h a n ha)
end
theorem Qml {P:Program}{Q:Exit->Act->World->Prop}{a:Act}{w:World}{c:Code} (I:Nat->Act->World->Prop) (n:Nat) (h₀:I n a w)
  (round:∀ n a w,I n a w->c.wp P (Exit.then (fun a' w'=>∃ m,m < n/\I m a' w') Q) a w):(Code.loop c).wp P Q a w:=by
 intro b k cs
 have key:∀ n a w,I n a w ->
   ∃ e a' w',Q e a' w'/\Arrives P (lone (b.at a (.code c::.inLoop c::k)) cs w) b k cs e a' w':=by
  intro n
  induction n using Nat.strongRecOn with
  | _ n ih =>
   intro a w hI;obtain ⟨e,a₁,w₁,hq,harr⟩:=round n a w hI b (.inLoop c::k) cs;cases e with
   | normal =>
    obtain ⟨m,hlt,hI₁⟩:=hq;obtain ⟨e₂,a₂,w₂,hq₂,harr₂⟩:=ih m hlt a₁ w₁ hI₁;exact ⟨e₂,a₂,w₂,hq₂,.of_steps (Steps.trans harr (.one step_inLoop)) harr₂⟩
   | exit id=>exact ⟨_,a₁,w₁,hq,.pass (x:=.inLoop c) rfl (fun _ _=>.inl (by simp)) harr⟩
   | goto l=>exact ⟨_,a₁,w₁,hq,.pass (x:=.inLoop c) rfl (fun _ _=>.inl (by simp)) harr⟩
   | ret=>exact ⟨_,a₁,w₁,hq,.pass (x:=.inLoop c) rfl (fun _ _=>.inl (by simp)) harr⟩
   | panic ch=>exact ⟨_,a₁,w₁,hq,.pass (x:=.inLoop c) rfl (fun _ _=>.inl (by simp)) harr⟩
   | outgrown=>exact ⟨_,a₁,w₁,hq,.pass (x:=.inLoop c) rfl (fun _ _=>.inl (by simp)) harr⟩
 obtain ⟨e,a',w',hq,harr⟩:=key n a w h₀;exact ⟨e,a',w',hq,.of_steps (.one step_loop) harr⟩
theorem QAz {C:K3}{k:List It}{e:Env}{w:World}{body:Code} (I:Nat->Env->World->Prop) (n:Nat) (h0:I n e w)
  (round:∀ n e w,I n e w->VC C (.code body::.again (fun e' w'=>∃ m,m < n/\I m e' w')::k) e w):VC C (.code (.loop body)::k) e w:=by
 intro a d ha;refine Qml (fun n a w=>∃ e w0 d,w=w0.drewN d/\Fits C.N e a/\I n e w0) n ⟨e,w,d,rfl,ha,h0⟩ ?_;rintro n a w ⟨e,w0,d,rfl,ha,hI⟩;have h1:=round n e w0 hI a d ha;simp only [Fo] at h1;refine wp_mono h1 fun ex a w hq=>?_;cases ex with
 | normal=>obtain ⟨e',w1,d',hw,hf,m,hm,hI'⟩:=hq;exact ⟨m,hm,e',w1,d',hw,hf,hI'⟩
 | _=>exact hq
theorem Qp7 {P:Program}{f:FuncId}{fn:Func}{c:Code}{args:Array Value}{w:World}{F:Value->World->Prop} (N:Nat) (e:Env)
  (hf:P.funcs[f]? = some fn) (hb:fn.body=some c) (hN:args.size+(fn.ntmps - args.size)=N)
  (he:∀ t v,e.find? t=some v->args[t]? = some v)
  (h:VC ⟨P,fn,F,N⟩ [.code c] e w):Does P f args w F:=by
 intro n;refine calls_of_wp hf hb ?_;refine wp_mono (h { tmps:=args++Array.replicate (fn.ntmps - args.size) undef,defers:=[] } n ⟨by simpa using hN,rfl,fun t v ht=>?_⟩) fun ex a w hq=>hq;have:=he t v ht;rw [Array.getD_eq_getD_getElem?,Array.getElem?_append]
 have hlt:t < args.size:=by
  rcases Xy t args.size with h | h
  ·
   exact h
  simp [Array.getElem?_eq_none h] at this
 simp [hlt] at this ⊢;exact this
def Env.ofArgs:Nat->List Value->Env
 | _,[]=>[]
 | n,v::vs=>(n,v)::Env.ofArgs (n+1) vs
theorem Env.find?_ofArgs (vs:List Value):∀ (n t:Nat) (v:Value),(Env.ofArgs n vs).find? t=some v->n<=t/\vs[t - n]? = some v:=by
 induction vs with
 | nil=>intro n t v h;simp [Env.ofArgs,Env.find?] at h
 | cons x vs ih =>
  intro n t v h;simp only [Env.ofArgs,Env.find?_cons] at h;split at h
  ·
   rename_i ht;subst ht;simp at h;subst h;simp
  rename_i ht;obtain ⟨h1,h2⟩:=ih (n+1) t v h;refine ⟨by omega,?_⟩;rw [show t - n=(t - (n+1))+1 by omega];simpa using h2
theorem Pv {P:Program}{f:FuncId}{fn:Func}{c:Code}{args:List Value}{w:World}{F:Value->World->Prop} (N:Nat)
  (hf:P.funcs[f]? = some fn) (hb:fn.body=some c) (hN:fn.ntmps=N) (hle:args.length<=N)
  (h:VC ⟨P,fn,F,N⟩ [.code c] (Env.ofArgs 0 args) w):Does P f args.toArray w F :=
 Qp7 N _ hf hb (by simp [hN];omega) (fun t v ht=>by have:=Env.find?_ofArgs args 0 t v ht;simpa using this.2) h
structure Ext (w w':World):Prop where
 block:∀ (k:Nat) (o:Obj),w.heap[k]? = some o->(∃ T fz,o=Obj.cells #[] T fz)∨w'.heap[k]? = some o
theorem Ext.refl (w:World):Ext w w:=⟨fun _ _ h=>.inr h⟩
theorem Ext.trans {a b c:World} (h:Ext a b) (k:Ext b c):Ext a c:=⟨fun i o hi=>(h.block i o hi).elim .inl fun h1=>k.block i o h1⟩
theorem Ext.drewN (w:World) (n:Nat):Ext w (w.drewN n):=⟨fun _ _ h=>.inr h⟩
theorem Ext.of_keep {w w':World} (h:∀ k:Nat,k < w.heap.size->w'.heap[k]? = w.heap[k]?):Ext w w' :=
 ⟨fun k o hk=>.inr (by rw [h k (Array.getElem?_eq_some_iff.1 hk).1];exact hk)⟩
theorem Ext.cell {w w':World} (h:Ext w w') {a:Addr}{v:Value} (hc:w.cell? a=some v):w'.cell? a=some v:=by
 unfold World.cell? at hc ⊢;cases ho:w.heap[a.block]? with
 | none=>simp [ho] at hc
 | some o =>
  rcases h.block _ o ho with ⟨T,fz,rfl⟩ | h1
  ·
   simp [ho] at hc
  rw [h1];rw [ho] at hc;exact hc
def holes (B:List Nat) (w:World):World:={ w with heap:=w.heap.mapIdx fun k o=>if k∈B then Obj.cells #[] 0 else o }
theorem Ext.holes {B:List Nat}{w w':World} (h:∀ k:Nat,k < w.heap.size->k ∉ B->w'.heap[k]? = w.heap[k]?):Ext (holes B w) w':=by
 refine ⟨fun k o hk=>?_⟩;simp only [Eng.holes,Array.getElem?_mapIdx] at hk;cases ho:w.heap[k]? with
 | none=>simp [ho] at hk
 | some o' =>
  simp only [ho,Option.map_some,Option.some.injEq] at hk;by_cases hB:k∈B
  ·
   rw [if_pos hB] at hk;exact .inl ⟨0,(0,0),hk.symm⟩
  rw [if_neg hB] at hk;subst hk;exact .inr (by rw [h k (Array.getElem?_eq_some_iff.1 ho).1 hB];exact ho)
theorem Ts {B:List Nat}{w:World}{a:Addr}{v:Value} (hc:w.cell? a=some v) (hB:a.block ∉ B):(holes B w).cell? a=some v:=by
 unfold World.cell? at hc ⊢;simp only [Eng.holes,Array.getElem?_mapIdx];cases ho:w.heap[a.block]? with
 | none=>simp [ho] at hc
 | some o=>simp only [Option.map_some,if_neg hB];rw [ho] at hc;exact hc
theorem Ext.hole (B:List Nat) (w:World):Ext (Eng.holes B w) w:=Ext.holes fun _ _ _=>rfl
abbrev Aa (l:List UInt8):Value:=.string ⟨l.toArray⟩
abbrev Ba (s:ByteArray):List UInt8:=s.data.toList
abbrev I64 (n:Int):Prop:=-9223372036854775808<=n/\n<=9223372036854775807
theorem I64.mk {n:Int} (h:-9223372036854775808<=n) (h':n<=9223372036854775807):I64 n:=⟨h,h'⟩
def Cy:IntKind->Int->(Value->Prop)->Prop
 | .i64,n,K=>I64 n/\K (.int .i64 n)
 | .u8,n,K=>K (.int .u8 (n % 256))
 | .u16,n,K=>K (.int .u16 (n % 65536))
 | .u32,n,K=>K (.int .u32 (n % 4294967296))
 | .u64,n,K=>K (.int .u64 (n % 18446744073709551616))
 | k,n,K=>K (.int k (k.wrap n))
theorem R8 {n:Int} (h:I64 n):IntKind.i64.wrap n=n:=by
 obtain ⟨h1,h2⟩:=h;simp only [Xd,Yy,Yk];simp;split <;> omega
theorem Qtb (n:Int):IntKind.u8.wrap n=n % 256:=by simp [Xd,Yy,Yk]
theorem Qxh (n:Int):IntKind.u16.wrap n=n % 65536:=by simp [Xd,Yy,Yk]
theorem Qoj (n:Int):IntKind.u32.wrap n=n % 4294967296:=by simp [Xd,Yy,Yk]
theorem Qok (n:Int):IntKind.u64.wrap n=n % 18446744073709551616:=by simp [Xd,Yy,Yk]
theorem Q6 {k:IntKind}{n:Int}{K:Value->Prop} (h:Cy k n K):K (.int k (k.wrap n)):=by
 cases k <;> simp only [Cy] at h
 case i64=>rw [R8 h.1];exact h.2
 case u8=>rw [Qtb];exact h
 case u16=>rw [Qxh];exact h
 case u32=>rw [Qoj];exact h
 case u64=>rw [Qok];exact h
 all_goals exact h
def Fit0:IntKind->Int->Prop
 | .i64,n=>0<=n/\n<=9223372036854775807
 | .u8,n=>0<=n/\n<=255
 | .u16,n=>0<=n/\n<=65535
 | .u32,n=>0<=n/\n<=4294967295
 | .u64,n=>0<=n/\n<=18446744073709551615
 | _,_=>False
def P7:IntKind->Nat
 | .i64=>63
 | .u8=>8
 | .u16=>16
 | .u32=>32
 | .u64=>64
 | _=>0
theorem Fit0.spec {k:IntKind}{n:Int} (h:Fit0 k n):0<=n/\n.toNat < 2 ^ P7 k/\P7 k<=k.bits/\(k.signed=true->P7 k < k.bits):=by
 cases k <;> simp [Fit0,P7,Yy,Yk] at h ⊢ <;> omega
theorem Qb2 {k:IntKind}{r:Nat} (hw:P7 k<=k.bits) (hs:k.signed=true->P7 k < k.bits) (hr:r < 2 ^ P7 k):k.wrap (r:Int)=r:=by
 cases k <;> simp only [P7,Yy,Yk] at * <;> simp [Xd,Yy,Yk] at hs hr ⊢ <;> omega
theorem toNat_ofInt {n:Nat}{a:Int} (h:0<=a) (h2:a.toNat < 2 ^ n):(BitVec.ofInt n a).toNat=a.toNat:=by
 obtain ⟨m,rfl⟩:=Int.eq_ofNat_of_zero_le h;simp only [BitVec.toNat_ofInt];simp at h2;rw [Xo (by omega) (by exact_mod_cast h2)]
def Ru (op:BinOp) (k:IntKind) (a b:Int) (K:Value->Prop):Prop :=
 Fit0 k a/\Fit0 k b/\match op with
  | .and=>K (.int k ((a.toNat &&& b.toNat:Nat):Int))
  | .or=>K (.int k ((a.toNat ||| b.toNat:Nat):Int))
  | .xor=>K (.int k ((a.toNat ^^^ b.toNat:Nat):Int))
  | _=>False
theorem Qhg {P:Program}{op:BinOp}{k:IntKind}{a b:Int}{K:Value->Prop} (h:Ru op k a b K):∃ v,K v/\∀ w,(Op.intBits op k a b).run P w=.ok v w:=by
 obtain ⟨ha,hb,h⟩:=h;obtain ⟨ha0,ha1,hw,hs⟩:=ha.spec;obtain ⟨hb0,hb1,_,_⟩:=hb.spec;have ha2:a.toNat < 2 ^ k.bits:=Xb ha1 (X3 (by omega) hw);have hb2:b.toNat < 2 ^ k.bits:=Xb hb1 (X3 (by omega) hw);cases op <;> simp only at h <;> try exact h.elim
 ·
  refine ⟨_,h,fun w=>?_⟩;simp only [Op.intBits,Yb,BitVec.toNat_and,toNat_ofInt ha0 ha2,toNat_ofInt hb0 hb2];rw [Qb2 hw hs (Nat.and_lt_two_pow _ hb1)]
 ·
  refine ⟨_,h,fun w=>?_⟩;simp only [Op.intBits,Yb,BitVec.toNat_or,toNat_ofInt ha0 ha2,toNat_ofInt hb0 hb2];rw [Qb2 hw hs (Nat.or_lt_two_pow ha1 hb1)]
 refine ⟨_,h,fun w=>?_⟩;simp only [Op.intBits,Yb,BitVec.toNat_xor,toNat_ofInt ha0 ha2,toNat_ofInt hb0 hb2];rw [Qb2 hw hs (Nat.xor_lt_two_pow ha1 hb1)]
def Bx (k:IntKind) (y:Int):Nat:=min y.toNat k.bits
def Kg (op:BinOp) (k:IntKind) (a b:Int) (K:Value->Prop):Prop :=
 match op with
 | .add=>Cy k (a+b) K
 | .sub=>Cy k (a - b) K
 | .mul=>Cy k (a * b) K
 | .quo=>0<=a/\0 < b/\Cy k (a / b) K
 | .rem=>0<=a/\0 < b/\K (.int k (a % b))
 | .and=>Ru .and k a b K
 | .or=>Ru .or k a b K
 | .xor=>Ru .xor k a b K
 | .eql=>K (.bool (decide (a=b)))
 | .neq=>K (.bool (decide (¬ a=b)))
 | .lss=>K (.bool (decide (a < b)))
 | .leq=>K (.bool (decide (a<=b)))
 | .gtr=>K (.bool (decide (b < a)))
 | .geq=>K (.bool (decide (b<=a)))
 | _=>False
def EqV (P:Program) (op:BinOp) (T:TypeId) (x y:Value) (w:World) (K:Value->Prop):Prop :=
 ∃ b:Bool,K (.bool b)/\∀ w',Ext w w'->(binOp op T x y).run P w'=.ok (.bool b) w'
def Ob (op:BinOp) (s t:ByteArray) (K:Value->Prop):Prop :=
 match op with
 | .add=>((Ba s).length+(Ba t).length:Int)<=9223372036854775807/\K (Aa (Ba s++Ba t))
 | .eql=>K (.bool (decide (Ba s=Ba t)))
 | .neq=>K (.bool (decide (¬ Ba s=Ba t)))
 | .lss=>K (.bool (Op.bytesLess (Ba s) (Ba t)))
 | .leq=>K (.bool (! Op.bytesLess (Ba t) (Ba s)))
 | .gtr=>K (.bool (Op.bytesLess (Ba t) (Ba s)))
 | .geq=>K (.bool (! Op.bytesLess (Ba s) (Ba t)))
 | _=>False
def Dw (P:Program) (op:BinOp) (T:TypeId) (x y:Value) (w:World) (K:Value->Prop):Prop :=
 match x,y with
 | .int k a,.int k' b=>match op with
  | .shl=>0<=b/\Cy k (a * 2 ^ Bx k b) K
  | .shr=>0<=b/\K (.int k (a / 2 ^ Bx k b))
  | op=>k=k'/\Kg op k a b K
 | .string s,.string t=>Ob op s t K
 | .bool a,.bool b=>match P.underlying T with
  | some .bool=>match op with
   | .eql=>K (.bool (decide (a=b)))
   | .neq=>K (.bool (decide (¬ a=b)))
   | _=>False
  | _=>False
 | x,y=>match op with
  | .eql=>EqV P .eql T x y w K
  | .neq=>EqV P .neq T x y w K
  | _=>False
theorem QA0 {a b:Int} (ha:0<=a):a.tdiv b=a / b:=by rw [Int.tdiv_eq_ediv_of_nonneg ha]
theorem Wd {α:Type} [DecidableEq α] [BEq α] [LawfulBEq α] (a b:α):(a == b)=decide (a=b):=by by_cases h:a=b <;> simp [h]
theorem Qxi {P:Program}{op:BinOp}{k:IntKind}{a b:Int}{K:Value->Prop} (h:Kg op k a b K) {T:TypeId}:∃ v,K v/\∀ w,(binOp op T (.int k a) (.int k b)).run P w=.ok v w:=by
 cases op <;> simp only [Kg] at h <;> try exact h.elim
 case add=>exact ⟨_,Q6 h,fun w=>by simp [binOp,Op.intArith]⟩
 case sub=>exact ⟨_,Q6 h,fun w=>by simp [binOp,Op.intArith]⟩
 case mul=>exact ⟨_,Q6 h,fun w=>by simp [binOp,Op.intArith]⟩
 case quo=>exact ⟨_,Q6 h.2.2,fun w=>by simp [binOp,Op.intDiv,QA0 h.1,show b≠0 by omega]⟩
 case rem=>exact ⟨_,h.2.2,fun w=>by simp [binOp,Op.intDiv,Int.tmod_eq_emod_of_nonneg h.1,show b≠0 by omega]⟩
 case and=>obtain ⟨v,hv,hr⟩:=Qhg (P:=P) h;exact ⟨v,hv,fun w=>by simp [binOp,hr]⟩
 case or=>obtain ⟨v,hv,hr⟩:=Qhg (P:=P) h;exact ⟨v,hv,fun w=>by simp [binOp,hr]⟩
 case xor=>obtain ⟨v,hv,hr⟩:=Qhg (P:=P) h;exact ⟨v,hv,fun w=>by simp [binOp,hr]⟩
 all_goals
  refine ⟨_,h,fun w=>?_⟩;simp [binOp,Op.intCmp]
 ·
  exact Wd _ _
 rw [bne,Wd]
theorem Qad (x y:List UInt8):(Op.bytesLess x y || x == y)=! Op.bytesLess y x:=by
 induction x generalizing y with
 | nil=>cases y <;> simp [Op.bytesLess]
 | cons a x ih =>
  cases y with
  | nil=>simp [Op.bytesLess]
  | cons b y =>
   have:=ih y;simp only [Op.bytesLess];by_cases h1:a < b
   ·
    have h2:¬ b < a:=by
     intro h;exact absurd (Y4.1 h) (by have:=Y4.1 h1;omega)
    have h3:¬ b=a:=by rintro rfl;exact absurd (Y4.1 h1) (by omega)
    simp [h1,h2,h3]
   by_cases h3:a=b
   ·
    subst h3;simp [h1,this]
   have h2:b < a:=by
    rw [Y4] at h1 ⊢;have:a.toNat≠b.toNat:=fun h=>h3 (UInt8.toNat_inj.1 h);omega
   simp [h1,h2,h3]
theorem R6 (s:ByteArray):s.toList=s.data.toList:=ByteArray.toList_eq s
theorem Qxj {P:Program}{op:BinOp}{s t:ByteArray}{K:Value->Prop} (h:Ob op s t K) {T:TypeId}:∃ v,K v/\∀ w,(binOp op T (.string s) (.string t)).run P w=.ok v w:=by
 cases op <;> simp only [Ob] at h <;> try exact h.elim
 case add =>
  refine ⟨_,h.2,fun w=>?_⟩
  have hs:¬ ((s.size+t.size:Nat):Int) > IntKind.i64.max:=by
   have h1:=h.1;have e1:s.size=(Ba s).length:=rfl;have e2:t.size=(Ba t).length:=rfl;rw [e1,e2];have e3:IntKind.i64.max=9223372036854775807:=by decide
   rw [e3];omega
  have e:s++t=⟨(Ba s++Ba t).toArray⟩:=by
   apply ByteArray.ext
   show (s++t).data=(s.data.toList++t.data.toList).toArray
   rw [ByteArray.data_append];exact Array.ext' (by simp)
  simp only [binOp,Op.stringOp,if_neg hs,Yb,e]
 case lss=>exact ⟨_,h,fun w=>by simp [binOp,Op.stringOp,R6,Ba]⟩
 case leq =>
  refine ⟨_,h,fun w=>?_⟩;have:=Qad s.data.toList t.data.toList;simp only [binOp,Op.stringOp,R6,Ba,this,Yb]
 case gtr =>
  refine ⟨_,h,fun w=>?_⟩;have:=Qad s.data.toList t.data.toList;simp only [binOp,Op.stringOp,R6,Ba,this,Yb,Bool.not_not]
 case geq=>exact ⟨_,h,fun w=>by simp [binOp,Op.stringOp,R6,Ba]⟩
 case eql =>
  refine ⟨_,h,fun w=>?_⟩;simp only [binOp,Op.stringOp,R6,Yb,Ba];rw [Wd]
 case neq =>
  refine ⟨_,h,fun w=>?_⟩;simp only [binOp,Op.stringOp,R6,Yb,Ba];rw [Wd];simp
theorem Qcr {P:Program}{T:TypeId} (hu:P.underlying T=some .bool) (d:Nat) (a b:Bool) (w:World):(Op.equalIn (d+1) T (.bool a) (.bool b)).run P w=.ok (decide (a=b)) w:=by
 unfold Op.equalIn;simp only [Yc,run_underlying hu,Ya,Yb,Wd]
theorem Qas {P:Program}{T:TypeId} (hu:P.underlying T=some .bool) (a b:Bool) (w:World):(Op.equal T (.bool a) (.bool b)).run P w=.ok (decide (a=b)) w :=
 Qcr hu 9999 a b w
theorem Wu {P:Program}{op:BinOp}{T:TypeId}{x y:Operand}{a b:Value} (h:(∀ c,a≠.agg c)/\a≠.nilIface) (w:World):(eqGuard op T x y a b).run P w=.ok () w:=by
 unfold eqGuard;cases op <;> simp <;> (split <;> simp_all)
theorem Qhh {P:Program}{op:BinOp}{T:TypeId}{x y:Value}{w:World}{K:Value->Prop} (h:Dw P op T x y w K):∃ v,K v/\∀ w',Ext w w'->(binOp op T x y).run P w'=.ok v w':=by
 unfold Dw at h;split at h
 ·
  rename_i k a k' b;cases op
  case shl =>
   refine ⟨_,Q6 h.2,fun w' _=>?_⟩;simp [binOp,Op.shift,show ¬ b < 0 by omega,Bx]
  case shr =>
   refine ⟨_,h.2,fun w' _=>?_⟩;simp only [binOp,Op.shift,show ¬ b < 0 by omega,Bx,if_false,Yb];rw [Int.fdiv_eq_ediv_of_nonneg];exact Int.pow_nonneg (by omega)
  all_goals
   obtain ⟨rfl,h⟩:=h;obtain ⟨v,hv,hr⟩:=Qxi (P:=P) (T:=T) h;exact ⟨v,hv,fun w' _=>hr w'⟩
 ·
  obtain ⟨v,hv,hr⟩:=Qxj (P:=P) (T:=T) h;exact ⟨v,hv,fun w' _=>hr w'⟩
 ·
  rename_i a b;split at h
  ·
   rename_i hu;split at h
   ·
    refine ⟨_,h,fun w' _=>?_⟩;have he:=fun w=>Qas (P:=P) hu a b w;simp only [binOp,Yc,he,Ya,Yb]
   ·
    refine ⟨_,h,fun w' _=>?_⟩;have he:=fun w=>Qas (P:=P) hu a b w;simp only [binOp,Yc,he,Ya,Yb,decide_not]
   exact h.elim
  exact h.elim
 split at h
 ·
  obtain ⟨b,hb,hr⟩:=h;exact ⟨_,hb,hr⟩
 ·
  obtain ⟨b,hb,hr⟩:=h;exact ⟨_,hb,hr⟩
 exact h.elim
def Fp:Env->Nat->(Value->Prop)->Prop
 | [],_,_=>False
 | p::e,n,K=>if n=p.1 then K p.2 else Fp e n K
def Ak (e:Env) (x:Operand) (K:Value->Prop):Prop :=
 match x with
 | .tmp t=>Fp e t K
 | .const v=>K v
 | .global g=>K (.pointer (some ⟨g,0,none⟩))
 | .func f=>K (.func (.func f) #[] #[])
def B9 (e:Env):List Operand->(List Value->Prop)->Prop
 | [],K=>K []
 | x::xs,K=>Ak e x fun v=>B9 e xs fun vs=>K (v::vs)
theorem Qdm {e:Env}{n:Nat}{K:Value->Prop} (h:Fp e n K):∃ v,e.find? n=some v/\K v:=by
 induction e with
 | nil=>exact h.elim
 | cons p e ih =>
  simp only [Fp,Env.find?_cons] at h ⊢;split
  ·
   rename_i hn;rw [if_pos hn] at h;exact ⟨_,rfl,h⟩
  rename_i hn;rw [if_neg hn] at h;exact ih h
theorem Cx {N:Nat}{e:Env}{a:Act}{x:Operand}{K:Value->Prop} (ha:Fits N e a) (h:Ak e x K):K (a.eval x):=by
 cases x with
 | tmp t=>obtain ⟨v,hv,hK⟩:=Qdm h;show K (a.tmps.getD t undef);rw [ha.at_ t v hv];exact hK
 | const v=>exact h
 | global g=>exact h
 | func f=>exact h
theorem Lk {N:Nat}{e:Env}{a:Act} (ha:Fits N e a) {xs:List Operand}:∀ {K:List Value->Prop},B9 e xs K->K (xs.map a.eval):=by
 induction xs with
 | nil=>intro K h;exact h
 | cons x xs ih=>intro K h;exact ih (Cx ha h)
end Go.Eng
namespace Go
def Program.szo (P:Program) (T:TypeId):Option Nat:=(P.info? T).map (·.size)
end Go
namespace Go.Eng
open Go
theorem I9 {P:Program}{T:TypeId}{n:Nat} (h:P.szo T=some n) (w:World):(sizeOf T).run P w=.ok n w:=by
 unfold Program.szo at h;cases hi:P.info? T with
 | none=>simp [hi] at h
 | some i =>
  simp [hi] at h;simp [sizeOf,typeInfo,hi,h]
def Reads (w:World) (a:Addr) (xs:List Value):Prop:=∀ j u,xs[j]? = some u->w.cell? (a.add j)=some u
theorem Reads.ext {w w':World}{a:Addr}{xs:List Value} (h:Reads w a xs) (hh:Ext w w'):Reads w' a xs:=fun j u hu=>hh.cell (h j u hu)
theorem Reads.heap {w w':World}{a:Addr}{xs:List Value} (h:Reads w a xs) (hh:w'.heap=w.heap):Reads w' a xs:=by
 intro j u hu;have:=h j u hu;simpa [World.cell?,hh] using this
def Qm (P:Program) (T:TypeId) (cs:Array Value) (off:Nat) (K:Value->Prop):Prop :=
 match P.underlying T with
 | some (.struct _) | some (.array _ _)=>match P.szo T with
  | some n=>K (.agg (cs.extract off (off+n)))
  | none=>False
 | some _=>match cs[off]? with
  | some v=>K v
  | none=>False
 | none=>False
theorem Qi0 {P:Program}{T:TypeId}{cs:Array Value}{off:Nat}{K:Value->Prop} (h:Qm P T cs off K):∃ v,K v/\∀ w,(part T cs off).run P w=.ok v w:=by
 unfold Qm at h;split at h
 ·
  rename_i hu;split at h
  ·
   rename_i n hn;exact ⟨_,h,fun w=>by simp [part,isAgg,run_underlying hu,I9 hn]⟩
  exact h.elim
 ·
  rename_i hu;split at h
  ·
   rename_i n hn;exact ⟨_,h,fun w=>by simp [part,isAgg,run_underlying hu,I9 hn]⟩
  exact h.elim
 ·
  rename_i d hd1 hd2 hu;split at h
  ·
   rename_i v hv;refine ⟨_,h,fun w=>?_⟩
   have:(isAgg T).run P w=.ok false w:=by
    cases d <;> simp_all [isAgg,run_underlying hu]
   simp [part,this,hv]
  exact h.elim
 exact h.elim
def D4 (P:Program) (T:TypeId) (x i:Value) (K:Value->Prop):Prop :=
 match x,i with
 | .string s,.int _ n=>P.underlying T=some .string/\(0<=n/\n < (Ba s).length)/\K (.int .u8 ((Ba s).getD n.toNat 0).toNat)
 | .agg cs,.int _ n=>match P.underlying T with
  | some (.array len E)=>(0<=n/\n < len)/\match P.szo E with
   | some sz=>Qm P E cs (n.toNat * sz) K
   | none=>False
  | _=>False
 | _,_=>False
theorem Qp8 {P:Program}{T:TypeId}{x i:Value}{K:Value->Prop} (h:D4 P T x i K):∃ v,K v/\∀ w,(Instr.index T x i).run P w=.ok v w:=by
 unfold D4 at h;split at h
 ·
  rename_i s k n;obtain ⟨hu,hb,h⟩:=h;refine ⟨_,h,fun w=>?_⟩;have hlt:n.toNat < s.data.toList.length:=by simp only [Ba] at hb;omega
  have hlt':n.toNat < s.data.size:=by simpa using hlt
  have hg:s[n.toNat]? = some (s.data.toList.getD n.toNat 0):=by
   rw [Yi,Yg hlt];simp only [getElem?_def];rw [dif_pos (by exact hlt')];rfl
  simp only [Instr.index,asIntOf,Yc,Yb,Ya,run_underlying hu,hb.1,if_true,hg,Ba]
 ·
  rename_i cs k n;split at h
  ·
   rename_i len E hu;obtain ⟨hb,h⟩:=h;split at h
   ·
    rename_i sz hsz;obtain ⟨v,hv,hr⟩:=Qi0 h;refine ⟨v,hv,fun w=>?_⟩;simp [Instr.index,asIntOf,run_underlying hu,hb,I9 hsz,hr]
   exact h.elim
  exact h.elim
 exact h.elim
def B7 (P:Program) (T:TypeId) (x:Value) (lo hi:Option Value) (K:Value->Prop):Prop :=
 match x with
 | .string s=>P.underlying T=some .string/\match lo,hi with
  | none,none=>K (.string s)
  | some (.int _ l),none=>(0<=l/\l<=(Ba s).length)/\K (Aa ((Ba s).drop l.toNat))
  | none,some (.int _ h)=>(0<=h/\h<=(Ba s).length)/\K (Aa ((Ba s).take h.toNat))
  | some (.int _ l),some (.int _ h)=>(0<=l/\l<=h/\h<=(Ba s).length)/\K (Aa (((Ba s).drop l.toNat).take (h.toNat - l.toNat)))
  | _,_=>False
 | .slice a n cap=>match P.underlying T with
  | some (.slice E)=>match P.szo E with
   | some sz=>match lo,hi with
    | none,none=>n<=cap/\K (.slice a n cap)
    | some (.int _ l),none=>(0<=l/\l<=n/\n<=cap)/\K (.slice (if cap=l.toNat then a else a.map (·.add (l.toNat * sz))) (n - l.toNat) (cap - l.toNat))
    | none,some (.int _ h)=>(0<=h/\h<=cap)/\K (.slice a h.toNat cap)
    | some (.int _ l),some (.int _ h)=>(0<=l/\l<=h/\h<=cap)/\K (.slice (if cap=l.toNat then a else a.map (·.add (l.toNat * sz))) (h.toNat - l.toNat) (cap - l.toNat))
    | _,_=>False
   | none=>False
  | _=>False
 | _=>False
theorem Tn (s:ByteArray) (l h:Nat):s.extract l h=⟨((s.data.toList.drop l).take (h - l)).toArray⟩:=by
 apply ByteArray.ext
 show (s.extract l h).data=_
 rw [ByteArray.data_extract];apply Array.ext';simp [Xn]
theorem Zc {P:Program}{k:IntKind}{i:Int}{y:Nat}{code:BoundsCode} (h0:0<=i) (h1:i<=y) (w:World):(Instr.sliceBound (.int k i) y code).run P w=.ok i.toNat w:=by
 simp [Instr.sliceBound,asIntOf,h0,h1]
theorem Qp9 {P:Program}{T:TypeId}{x:Value}{lo hi:Option Value}{K:Value->Prop} (h:B7 P T x lo hi K) :
  ∃ v,K v/\∀ w,(Instr.sliceAt T x lo hi none).run P w=.ok v w:=by
 unfold B7 at h;split at h
 ·
  rename_i s;obtain ⟨hu,h⟩:=h;have hsz:s.size=s.data.toList.length:=rfl;split at h
  ·
   refine ⟨_,h,fun w=>?_⟩;simp [Instr.sliceAt,Instr.slice,Instr.sliceBounds,run_underlying hu]
  ·
   rename_i k l;refine ⟨_,h.2,fun w=>?_⟩;have hb:0<=l/\l<=(s.size:Int):=h.1
   have:s.extract l.toNat s.size=⟨(s.data.toList.drop l.toNat).toArray⟩:=by
    rw [Tn,hsz];congr 2;apply Xe;simp
   simp [Instr.sliceAt,Instr.slice,Instr.sliceBounds,Instr.sliceBound,asIntOf,run_underlying hu,hb,this,Ba]
  ·
   rename_i k l;refine ⟨_,h.2,fun w=>?_⟩;have hb:0<=l/\l<=(s.size:Int):=h.1
   have:s.extract 0 l.toNat=⟨(s.data.toList.take l.toNat).toArray⟩:=by
    rw [Tn];simp
   simp [Instr.sliceAt,Instr.slice,Instr.sliceBounds,Instr.sliceBound,asIntOf,run_underlying hu,hb,this,Ba]
  ·
   rename_i k l k' h';refine ⟨_,h.2,fun w=>?_⟩;obtain ⟨⟨h1,h2,h3⟩,_⟩:=h;have hb:0<=h'/\h'<=(s.size:Int):=⟨by omega,h3⟩;have hb2:0<=l/\l<=(h'.toNat:Int):=⟨h1,by omega⟩;have e1:=fun code w=>Zc (P:=P) (k:=k') (y:=s.size) (code:=code) hb.1 hb.2 w;have e2:=fun code w=>Zc (P:=P) (k:=k) (y:=h'.toNat) (code:=code) hb2.1 hb2.2 w;simp [Instr.sliceAt,Instr.slice,Instr.sliceBounds,run_underlying hu,e1,e2,Tn,Ba]
  exact h.elim
 ·
  rename_i a n cap;split at h
  ·
   rename_i E hu;split at h
   ·
    rename_i sz hsz;split at h
    ·
     refine ⟨_,h.2,fun w=>?_⟩;have:(a.map fun x=>x.add 0)=a:=by cases a <;> simp [Addr.add]
     simp [Instr.sliceAt,Instr.slice,Instr.sliceBounds,run_underlying hu,I9 hsz,this]
    ·
     rename_i k l;refine ⟨_,h.2,fun w=>?_⟩;obtain ⟨⟨h1,h2,h3⟩,_⟩:=h;simp [Instr.sliceAt,Instr.slice,Instr.sliceBounds,Instr.sliceBound,asIntOf,run_underlying hu,I9 hsz,h1,h2]
    ·
     rename_i k l;refine ⟨_,h.2,fun w=>?_⟩;obtain ⟨⟨h1,h2⟩,_⟩:=h;have:(a.map fun x=>x.add 0)=a:=by cases a <;> simp [Addr.add]
     simp [Instr.sliceAt,Instr.slice,Instr.sliceBounds,Instr.sliceBound,asIntOf,run_underlying hu,I9 hsz,h1,h2,this]
    ·
     rename_i k l k' h';refine ⟨_,h.2,fun w=>?_⟩;obtain ⟨⟨h1,h2,h3⟩,_⟩:=h;have hb:0<=h'/\h'<=(cap:Int):=⟨by omega,h3⟩;have hb2:0<=l/\l<=(h'.toNat:Int):=⟨h1,by omega⟩;have e1:=fun code w=>Zc (P:=P) (k:=k') (y:=cap) (code:=code) hb.1 hb.2 w;have e2:=fun code w=>Zc (P:=P) (k:=k) (y:=h'.toNat) (code:=code) hb2.1 hb2.2 w;simp [Instr.sliceAt,Instr.slice,Instr.sliceBounds,run_underlying hu,I9 hsz,e1,e2]
    exact h.elim
   exact h.elim
  exact h.elim
 exact h.elim
def An (l:List UInt8):List Value:=l.map fun b=>.int .u8 b.toNat
def Sf (w:World) (a:Option Addr) (n:Nat) (l:List UInt8):Prop :=
 l.length=n/\(a=none->n=0)/\∀ ad,a=some ad->Reads w ad (An l)
def Dl (P:Program) (src dst:TypeId) (x:Value) (w:World) (K:Value->Prop):Prop :=
 match P.underlying src,P.underlying dst,x with
 | some _,some (.int k),.int _ n=>Cy k n K
 | some _,some .string,.string s=>K (.string s)
 | some (.slice E),some .string,.slice a n _=>P.underlying E=some (.int .u8)/\∃ l,Sf w a n l/\K (Aa l)
 | _,_,_=>False
theorem Qqa (l:List UInt8) (s:ByteArray):(l.map fun b=>(b.toNat:Int)).foldl (fun r n=>r.push (UInt8.ofNat n.toNat)) s=⟨(s.data.toList++l).toArray⟩:=by
 induction l generalizing s with
 | nil=>apply ByteArray.ext;simp
 | cons b l ih =>
  simp only [List.map_cons,List.foldl_cons];rw [ih];apply ByteArray.ext;simp [ByteArray.push]
theorem Qaa {P:Program}{w:World}{a:Addr}{xs:List Value} (h:Reads w a xs):(loadCells a xs.length).run P w=.ok xs.toArray w :=
 run_loadCells_list w a xs h
theorem Qug {P:Program}{src dst:TypeId}{x:Value}{w:World}{K:Value->Prop} (h:Dl P src dst x w K) :
  ∃ v,K v/\∀ w',Ext w w'->(convert src dst x).run P w'=.ok v w':=by
 unfold Dl at h;split at h
 ·
  rename_i d k k' n hs hd;refine ⟨_,Q6 h,fun w' _=>?_⟩;simp [convert,run_underlying hs,run_underlying hd,Conv.intToInt]
 ·
  rename_i d s hs hd;refine ⟨_,h,fun w' _=>?_⟩;cases d <;> simp [convert,run_underlying hs,run_underlying hd]
 ·
  rename_i E a n c hs hd;obtain ⟨he,l,⟨hl,hnil,hr⟩,hK⟩:=h;refine ⟨_,hK,fun w' hw=>?_⟩;rw [run_convert_bytes_string w' src dst E a n c hs he hd];cases a with
  | none =>
   have hn:=hnil rfl;subst hn;have:l=[]:=Yh hl;subst this;simp only [Conv.bytesToString,Yb];rfl
  | some ad =>
   have hr':=(hr ad rfl).ext hw;have e1:An l=(l.map fun b=>(b.toNat:Int)).map (Y3 .u8):=by simp [An]
   have hc:=Qaa (P:=P) hr';have e2:(An l).length=n:=by simp [An,hl]
   rw [e2,e1] at hc;rw [run_bytesToString w' ad n c (l.map fun b=>(b.toNat:Int)) hc];rw [Qqa];simp
 exact h.elim
def Fq (P:Program) (T:TypeId) (x:Value) (K:Value->Prop):Prop :=
 match P.underlying T,x with
 | some .string,.string s=>K (.int .i64 (Ba s).length)
 | some (.slice _),.slice _ n _=>K (.int .i64 n)
 | some (.array n _),_=>K (.int .i64 n)
 | some (.pointer A),_=>match P.underlying A with
  | some (.array n _)=>K (.int .i64 n)
  | _=>False
 | _,_=>False
theorem Qxk {P:Program}{T:TypeId}{x:Value}{K:Value->Prop} (h:Fq P T x K) {ts:Array TypeId} (ht:ts[0]? = some T) {ty:TypeId} :
  ∃ v,K v/\∀ w,(Builtin.len_ ts ty #[x]).run P w=.ok v w:=by
 unfold Fq at h;split at h
 ·
  rename_i s hu;exact ⟨_,h,fun w=>by simp [Builtin.len_,ht,run_underlying hu,goInt,Ba]⟩
 ·
  rename_i hu;exact ⟨_,h,fun w=>by simp [Builtin.len_,ht,run_underlying hu,goInt]⟩
 ·
  rename_i hu;exact ⟨_,h,fun w=>by simp [Builtin.len_,ht,run_underlying hu,goInt]⟩
 ·
  rename_i hu;split at h
  ·
   rename_i hu2;exact ⟨_,h,fun w=>by simp [Builtin.len_,ht,run_underlying hu,run_underlying hu2,goInt]⟩
  exact h.elim
 exact h.elim
def Rv:List Value->(Value->Prop)->Prop
 | [.int k x,.int _ y],K=>K (.int k (min x y))
 | [.int k x,.int _ y,.int _ z],K=>K (.int k (min (min x y) z))
 | _,_=>False
def Rw:List Value->(Value->Prop)->Prop
 | [.int k x,.int _ y],K=>K (.int k (max x y))
 | [.int k x,.int _ y,.int _ z],K=>K (.int k (max (max x y) z))
 | _,_=>False
theorem Qtc (x y:Int):(if y < x then y else x)=min x y:=by split <;> omega
theorem Qxl {P:Program}{vs:List Value}{K:Value->Prop} (h:Rv vs K) {ts:Array TypeId}{ty:TypeId}:∃ v,K v/\∀ w,(Builtin.min_ ts ty vs.toArray).run P w=.ok v w:=by
 unfold Rv at h;split at h
 ·
  exact ⟨_,h,fun w=>by simp [Builtin.min_,Builtin.min2,Qtc]⟩
 ·
  exact ⟨_,h,fun w=>by simp [Builtin.min_,Builtin.min2,Qtc]⟩
 exact h.elim
theorem Qxm {P:Program}{vs:List Value}{K:Value->Prop} (h:Rw vs K) {ts:Array TypeId}{ty:TypeId}:∃ v,K v/\∀ w,(Builtin.max_ ts ty vs.toArray).run P w=.ok v w:=by
 unfold Rw at h;split at h
 ·
  exact ⟨_,h,fun w=>by simp [Builtin.max_,Builtin.max2];split <;> omega⟩
 ·
  exact ⟨_,h,fun w=>by simp [Builtin.max_,Builtin.max2];(repeat' split) <;> omega⟩
 exact h.elim
def Bf (P:Program) (T:TypeId) (x:Value) (w:World) (K:Value->Prop):Prop :=
 match x with
 | .pointer (some a)=>match P.underlying T with
  | some (.struct _) | some (.array _ _)=>match P.szo T with
   | some n=>∃ cs:List Value,(cs.length=n/\Reads w a cs)/\K (.agg cs.toArray)
   | none=>False
  | some _=>∃ v,w.cell? a=some v/\K v
  | none=>False
 | _=>False
theorem Quh {P:Program}{T:TypeId}{x:Value}{w:World}{K:Value->Prop} (h:Bf P T x w K) :
  ∃ v,K v/\∀ w',Ext w w'->(Instr.loadAt T x).run P w'=.ok v w':=by
 have key:∀ (a:Addr) (n:Nat),(P.szo T=some n)->(∀ w,(isAgg T).run P w=.ok true w)->∀ cs:List Value,cs.length=n->Reads w a cs ->
   ∀ w',Ext w w'->(Instr.loadAt T (.pointer (some a))).run P w'=.ok (.agg cs.toArray) w':=by
  intro a n hn hagg cs hl hr w' hw;have:=Qaa (P:=P) (hr.ext hw);rw [hl] at this;simp [Instr.loadAt,Instr.sureAddr,loadVar,hagg,I9 hn,this]
 unfold Bf at h;split at h
 ·
  rename_i a;split at h
  ·
   rename_i hu;split at h
   ·
    rename_i n hn;obtain ⟨cs,⟨hl,hr⟩,hK⟩:=h;exact ⟨_,hK,key a n hn (fun w=>by simp [isAgg,run_underlying hu]) cs hl hr⟩
   exact h.elim
  ·
   rename_i hu;split at h
   ·
    rename_i n hn;obtain ⟨cs,⟨hl,hr⟩,hK⟩:=h;exact ⟨_,hK,key a n hn (fun w=>by simp [isAgg,run_underlying hu]) cs hl hr⟩
   exact h.elim
  ·
   rename_i d hd1 hd2 hu;obtain ⟨v,hv,hK⟩:=h;refine ⟨v,hK,fun w' hw=>?_⟩;have hc:w'.cell? a=some v:=hw.cell hv
   have:(isAgg T).run P w'=.ok false w':=by
    cases d <;> simp_all [isAgg,run_underlying hu]
   simp [Instr.loadAt,Instr.sureAddr,loadVar,this,hc]
  exact h.elim
 exact h.elim
def M2 (x:Value) (K:Value->Prop):Prop :=
 match x with
 | .pointer (some a)=>K (.pointer (some a))
 | .func (.func f) p c=>K (.func (.func f) p c)
 | .iface t v=>K (.iface t v)
 | _=>False
def By (P:Program) (S:TypeId) (x:Value) (f:Nat) (K:Value->Prop):Prop :=
 match x with
 | .pointer (some a)=>match P.underlying S with
  | some (.struct fields)=>match fields[f]? with
   | some fd=>match P.szo fd.type with
    | some (_+1)=>K (.pointer (some (a.add fd.offset)))
    | _=>False
   | none=>False
  | _=>False
 | _=>False
theorem Qfh {P:Program}{S:TypeId}{x:Value}{f:Nat}{K:Value->Prop} (h:By P S x f K):∃ v,K v/\∀ w,(Instr.fieldAt S x f).run P w=.ok v w:=by
 unfold By at h;split at h
 ·
  split at h
  ·
   rename_i hu;split at h
   ·
    rename_i fd hf;split at h
    ·
     rename_i n hn;exact ⟨_,h,fun w=>by simp [Instr.fieldAt,Instr.sureAddr,run_underlying hu,hf,fieldPlace,I9 hn]⟩
    exact h.elim
   exact h.elim
  exact h.elim
 exact h.elim
def B3 (P:Program) (S:TypeId) (x:Value) (f:Nat) (K:Value->Prop):Prop :=
 match x with
 | .agg cs=>match P.underlying S with
  | some (.struct fields)=>match fields[f]? with
   | some fd=>Qm P fd.type cs fd.offset K
   | none=>False
  | _=>False
 | _=>False
theorem Qqb {P:Program}{S:TypeId}{x:Value}{f:Nat}{K:Value->Prop} (h:B3 P S x f K):∃ v,K v/\∀ w,(Instr.field S x f).run P w=.ok v w:=by
 unfold B3 at h;split at h
 ·
  split at h
  ·
   rename_i hu;split at h
   ·
    rename_i fd hf;obtain ⟨v,hv,hr⟩:=Qi0 h;exact ⟨v,hv,fun w=>by simp [Instr.field,run_underlying hu,hf,asAgg,hr]⟩
   exact h.elim
  exact h.elim
 exact h.elim
def Cu (P:Program) (T:TypeId) (x i:Value) (K:Value->Prop):Prop :=
 match i with
 | .int _ n=>match P.underlying T,x with
  | some (.slice E),.slice (some a) len _=>match P.szo E with
   | some sz=>(0<=n/\n < len)/\K (.pointer (some (a.add (n.toNat * sz))))
   | none=>False
  | some (.array len E),.pointer (some a)=>match P.szo E with
   | some sz=>(0<=n/\n < len)/\K (.pointer (some (a.add (n.toNat * sz))))
   | none=>False
  | _,_=>False
 | _=>False
theorem Qfi {P:Program}{T:TypeId}{x i:Value}{K:Value->Prop} (h:Cu P T x i K):∃ v,K v/\∀ w,(Instr.indexAt T x i).run P w=.ok v w:=by
 unfold Cu at h;split at h
 ·
  split at h
  ·
   rename_i hu;split at h
   ·
    rename_i sz hsz;exact ⟨_,h.2,fun w=>by simp [Instr.indexAt,asIntOf,run_underlying hu,h.1,I9 hsz]⟩
   exact h.elim
  ·
   rename_i hu;split at h
   ·
    rename_i sz hsz;exact ⟨_,h.2,fun w=>by simp [Instr.indexAt,asIntOf,Instr.sureAddr,run_underlying hu,h.1,I9 hsz]⟩
   exact h.elim
  exact h.elim
 exact h.elim
def Ss (x:Value) (i:Nat) (K:Value->Prop):Prop :=
 match x with
 | .tuple vs=>match vs[i]? with
  | some v=>K v
  | none=>False
 | _=>False
def Ml (op:UnOp) (x:Value) (K:Value->Prop):Prop :=
 match op,x with
 | .not,.bool b=>K (.bool (! b))
 | .neg,.int k n=>Cy k (-n) K
 | .xor,.int .u32 n=>(0<=n/\n<=4294967295)/\K (.int .u32 (4294967295 - n))
 | .xor,.int .u64 n=>(0<=n/\n<=18446744073709551615)/\K (.int .u64 (18446744073709551615 - n))
 | .xor,.int .u8 n=>(0<=n/\n<=255)/\K (.int .u8 (255 - n))
 | _,_=>False
theorem Qhi (n:Nat) (x:Int) (h0:0<=x) (h1:x.toNat < 2 ^ n):((BitVec.ofInt n ((2 ^ n:Nat) - 1:Int)) ^^^ BitVec.ofInt n x).toNat=2 ^ n - 1 - x.toNat:=by
 have e:BitVec.ofInt n ((2 ^ n:Nat) - 1:Int)=BitVec.allOnes n:=by
  apply BitVec.eq_of_toNat_eq;have hp:0 < 2 ^ n:=Nat.two_pow_pos n;simp only [BitVec.toNat_ofInt,BitVec.toNat_allOnes];have:(((2 ^ n:Nat):Int) - 1) % ((2 ^ n:Nat):Int)=((2 ^ n:Nat):Int) - 1:=Xo (by omega) (by omega);rw [this];omega
 rw [e,BitVec.allOnes_xor,BitVec.toNat_not,toNat_ofInt h0 h1]
theorem QA1 {P:Program}{op:UnOp}{x:Value}{K:Value->Prop} (h:Ml op x K):∃ v,K v/\∀ w,(Op.unary op x).run P w=.ok v w:=by
 unfold Ml at h;split at h
 ·
  exact ⟨_,h,fun w=>by simp [Op.unary]⟩
 ·
  refine ⟨_,Q6 h,fun w=>by simp [Op.unary,Op.intArith]⟩
 ·
  rename_i n;refine ⟨_,h.2,fun w=>?_⟩;have hx:=Qhi 32 n h.1.1 (by have:=h.1;omega);have e:IntKind.u32.max=((2 ^ 32:Nat) - 1:Int):=by decide
  simp only [Op.unary,Yk,Op.intBits,Yb,Yq,if_false,e];have hx':(BitVec.ofInt IntKind.u32.bits ((2 ^ 32:Nat) - 1:Int) ^^^ BitVec.ofInt IntKind.u32.bits n).toNat=2 ^ 32 - 1 - n.toNat:=hx;rw [hx',Qoj]
  congr 2
  have:=h.1;omega
 ·
  rename_i n;refine ⟨_,h.2,fun w=>?_⟩;have hx:=Qhi 64 n h.1.1 (by have:=h.1;omega);have e:IntKind.u64.max=((2 ^ 64:Nat) - 1:Int):=by decide
  simp only [Op.unary,Yk,Op.intBits,Yb,Yq,if_false,e];have hx':(BitVec.ofInt IntKind.u64.bits ((2 ^ 64:Nat) - 1:Int) ^^^ BitVec.ofInt IntKind.u64.bits n).toNat=2 ^ 64 - 1 - n.toNat:=hx;rw [hx',Qok]
  congr 2
  have:=h.1;omega
 ·
  rename_i n;refine ⟨_,h.2,fun w=>?_⟩;have hx:=Qhi 8 n h.1.1 (by have:=h.1;omega);have e:IntKind.u8.max=((2 ^ 8:Nat) - 1:Int):=by decide
  simp only [Op.unary,Yk,Op.intBits,Yb,Yq,if_false,e];have hx':(BitVec.ofInt IntKind.u8.bits ((2 ^ 8:Nat) - 1:Int) ^^^ BitVec.ofInt IntKind.u8.bits n).toNat=2 ^ 8 - 1 - n.toNat:=hx;rw [hx',Qtb]
  congr 2
  have:=h.1;omega
 exact h.elim
def EqR (P:Program) (op:BinOp) (T:TypeId) (xo yo:Operand) (x y:Value) (w:World) (K:Value->Prop):Prop :=
 ∃ b:Bool,(∀ w',Ext w w'->(do eqGuard op T xo yo x y;binOp op T x y:Sem Value).run P w'=.ok (.bool b) w')/\K (.bool b)
def A8 (P:Program) (op:BinOp) (T:TypeId) (xo yo:Operand) (x y:Value) (w:World) (K:Value->Prop):Prop :=
 match x,y with
 | .int k a,.int k' b=>Dw P op T (.int k a) (.int k' b) w K
 | .string s,.string t=>Dw P op T (.string s) (.string t) w K
 | .bool a,.bool b=>Dw P op T (.bool a) (.bool b) w K
 | x,y=>EqR P op T xo yo x y w K
theorem Qui {P:Program}{op:BinOp}{T:TypeId}{xo yo:Operand}{x y:Value}{w:World}{K:Value->Prop} (h:A8 P op T xo yo x y w K) :
  ∃ v,K v/\∀ w',Ext w w'->(do eqGuard op T xo yo x y;binOp op T x y:Sem Value).run P w'=.ok v w':=by
 unfold A8 at h;split at h
 ·
  obtain ⟨v,hv,hr⟩:=Qhh h;exact ⟨v,hv,fun w' hw=>by simp only [Yc];rw [Wu ⟨by simp,by simp⟩];simp only [Ya];exact hr w' hw⟩
 ·
  obtain ⟨v,hv,hr⟩:=Qhh h;exact ⟨v,hv,fun w' hw=>by simp only [Yc];rw [Wu ⟨by simp,by simp⟩];simp only [Ya];exact hr w' hw⟩
 ·
  obtain ⟨v,hv,hr⟩:=Qhh h;exact ⟨v,hv,fun w' hw=>by simp only [Yc];rw [Wu ⟨by simp,by simp⟩];simp only [Ya];exact hr w' hw⟩
 obtain ⟨b,hr,hb⟩:=h;exact ⟨_,hb,hr⟩
def C4 (P:Program) (s d:TypeId):Bool :=
 match P.underlying s,P.underlying d with
 | some .string,some (.slice _)=>false
 | _,_=>true
def Iw (P:Program):Op->Bool
 | .convert s d _=>C4 P s d
 | .move _ | .assign _ | .pick .. | .binOp .. | .unOp .. | .slice _ _ _ _ none | .fieldAddr .. | .field .. | .indexAddr .. | .index .. | .extract ..
 | .makeInterface .. | .makeFunc .. | .build .. | .load .. | .nilCheck .. => true
 | .call { callee:=.builtin .len,.. } | .call { callee:=.builtin .min,.. } | .call { callee:=.builtin .max,.. }=>true
 | _=>false
def Ic (e:Env) (x:Option Operand) (K:Option Value->Prop):Prop :=
 match x with
 | none=>K none
 | some x=>Ak e x fun v=>K (some v)
theorem Qf6 {N:Nat}{e:Env}{a:Act}{x:Option Operand}{K:Option Value->Prop} (ha:Fits N e a) (h:Ic e x K):K (x.map a.eval):=by
 cases x with
 | none=>exact h
 | some x=>exact Cx (K:=fun v=>K (some v)) ha h
def Ni (c:Value) (A B:Prop):Prop :=
 match c with
 | .bool true=>A
 | .bool false=>B
 | _=>False
def W0 (P:Program) (T:TypeId) (x:Value) (K:Value->Prop):Prop :=
 match P.underlying T with
 | some (.interface _)=>False
 | some _=>K (.iface T x)
 | none=>False
def Cs (P:Program) (T:TypeId) (parts:List (Nat×Value)) (K:Value->Prop):Prop :=
 match P.built T parts with
 | some cells=>K (.agg cells)
 | none=>False
def L9 (e:Env):List (Nat×Operand)->(List (Nat×Value)->Prop)->Prop
 | [],K=>K []
 | p::ps,K=>Ak e p.2 fun v=>L9 e ps fun vs=>K ((p.1,v)::vs)
theorem Qkf {N:Nat}{e:Env}{a:Act} (ha:Fits N e a) {ps:List (Nat×Operand)}:∀ {K:List (Nat×Value)->Prop},L9 e ps K->K (ps.map fun p=>(p.1,a.eval p.2)):=by
 induction ps with
 | nil=>intro K h;exact h
 | cons p ps ih=>intro K h;exact ih (Cx (K:=fun v=>L9 e ps fun vs=>K ((p.1,v)::vs)) ha h)
def We (P:Program) (op:Op) (e:Env) (w:World) (K:Value->Prop):Prop :=
 match op with
 | .move x=>Ak e x K
 | .assign x=>Ak e x K
 | .pick c a b=>Ak e c fun vc=>Ni vc (Ak e a K) (Ak e b K)
 | .binOp op T x y _=>Ak e x fun a=>Ak e y fun b=>A8 P op T x y a b w K
 | .unOp op _ x=>Ak e x fun a=>Ml op a K
 | .convert s d x=>Ak e x fun a=>Dl P s d a w K
 | .slice T x lo hi none=>Ak e x fun a=>Ic e lo fun l=>Ic e hi fun h=>B7 P T a l h K
 | .fieldAddr S x f=>Ak e x fun a=>By P S a f K
 | .field S x f=>Ak e x fun a=>B3 P S a f K
 | .indexAddr T x i=>Ak e x fun a=>Ak e i fun n=>Cu P T a n K
 | .index T x i=>Ak e x fun a=>Ak e i fun n=>D4 P T a n K
 | .extract t i=>Ak e t fun a=>Ss a i K
 | .makeInterface T x=>Ak e x fun a=>W0 P T a K
 | .makeFunc fn first captured=>B9 e first.toList fun fs=>B9 e captured.toList fun cs=>K (.func fn fs.toArray cs.toArray)
 | .build T parts=>L9 e parts.toList fun ps=>Cs P T ps K
 | .load T x=>Ak e x fun a=>Bf P T a w K
 | .nilCheck x=>Ak e x fun a=>M2 a K
 | .call { callee:=.builtin .len,args:=az,argTypes:=ts }=>B9 e az.toList fun vs=>match vs,ts[0]? with
  | [v],some T=>Fq P T v K
  | _,_=>False
 | .call { callee:=.builtin .min,args:=az,.. }=>B9 e az.toList fun vs=>Rv vs K
 | .call { callee:=.builtin .max,args:=az,.. }=>B9 e az.toList fun vs=>Rw vs K
 | _=>False
theorem Ms (xs:Array Operand) (a:Act):xs.map a.eval=(xs.toList.map a.eval).toArray:=by
 apply Array.ext';simp
theorem Nv {P:Program}{N:Nat}{o:Oper}{e:Env}{a:Act}{w:World}{K:Value->Prop} (ha:Fits N e a) (h:We P o.op e w K) :
  ∃ v,K v/\∀ w',Ext w w'->(execOp a.eval o).run P w'=.ok (.value v) w':=by
 unfold We at h;split at h
 case h_1 x ho=>exact ⟨_,Cx ha h,fun w' _=>by simp [execOp,ho]⟩
 case h_2 x ho=>exact ⟨_,Cx ha h,fun w' _=>by simp [execOp,ho]⟩
 case h_3 c x y ho =>
  have h1:=Cx (K:=fun vc=>Ni vc (Ak e x K) (Ak e y K)) ha h;unfold Ni at h1;split at h1
  ·
   rename_i hc;exact ⟨_,Cx ha h1,fun w' _=>by simp [execOp,ho,hc,asBool]⟩
  ·
   rename_i hc;exact ⟨_,Cx ha h1,fun w' _=>by simp [execOp,ho,hc,asBool]⟩
  exact h1.elim
 case h_4 op T x y T' ho =>
  have h1:=Cx (K:=fun b=>A8 P op T x y (a.eval x) b w K) ha (Cx (K:=fun b=>Ak e y fun c=>A8 P op T x y b c w K) ha h);obtain ⟨v,hv,hr⟩:=Qui h1;refine ⟨v,hv,fun w' hw=>?_⟩;simp only [execOp,ho];have:=hr w' hw;simp only [Yc] at this ⊢;simp only [this,Ya,Yb]
 case h_5 op T x ho =>
  obtain ⟨v,hv,hr⟩:=QA1 (P:=P) (Cx (K:=fun b=>Ml op b K) ha h);exact ⟨v,hv,fun w' _=>by simp [execOp,ho,hr]⟩
 case h_6 s d x ho =>
  obtain ⟨v,hv,hr⟩:=Qug (Cx (K:=fun b=>Dl P s d b w K) ha h);exact ⟨v,hv,fun w' hw=>by simp [execOp,ho,hr w' hw]⟩
 case h_7 T x lo hi ho =>
  have h1:=Qf6 (K:=fun h=>B7 P T (a.eval x) (lo.map a.eval) h K) ha (Qf6 (K:=fun l=>Ic e hi fun h=>B7 P T (a.eval x) l h K) ha (Cx (K:=fun b=>Ic e lo fun l=>Ic e hi fun h=>B7 P T b l h K) ha h));obtain ⟨v,hv,hr⟩:=Qp9 h1;exact ⟨v,hv,fun w' _=>by simp only [execOp,ho,Yc,Option.map_none,hr,Ya,Yb]⟩
 case h_8 S x f ho =>
  obtain ⟨v,hv,hr⟩:=Qfh (Cx (K:=fun b=>By P S b f K) ha h);exact ⟨v,hv,fun w' _=>by simp [execOp,ho,hr]⟩
 case h_9 S x f ho =>
  obtain ⟨v,hv,hr⟩:=Qqb (Cx (K:=fun b=>B3 P S b f K) ha h);exact ⟨v,hv,fun w' _=>by simp [execOp,ho,hr]⟩
 case h_10 T x i ho =>
  have h1:=Cx (K:=fun n=>Cu P T (a.eval x) n K) ha (Cx (K:=fun b=>Ak e i fun n=>Cu P T b n K) ha h);obtain ⟨v,hv,hr⟩:=Qfi h1;exact ⟨v,hv,fun w' _=>by simp [execOp,ho,hr]⟩
 case h_11 T x i ho =>
  have h1:=Cx (K:=fun n=>D4 P T (a.eval x) n K) ha (Cx (K:=fun b=>Ak e i fun n=>D4 P T b n K) ha h);obtain ⟨v,hv,hr⟩:=Qp8 h1;exact ⟨v,hv,fun w' _=>by simp [execOp,ho,hr]⟩
 case h_12 t i ho =>
  have h1:=Cx (K:=fun b=>Ss b i K) ha h;unfold Ss at h1;split at h1
  ·
   rename_i vs hx;split at h1
   ·
    rename_i v hv;exact ⟨v,h1,fun w' _=>by simp [execOp,ho,hx,Instr.extract,hv]⟩
   exact h1.elim
  exact h1.elim
 case h_13 T x ho =>
  have h1:=Cx (K:=fun b=>W0 P T b K) ha h;unfold W0 at h1;split at h1
  ·
   exact h1.elim
  ·
   rename_i d hd hu;exact ⟨_,h1,fun w' _=>by cases d <;> simp_all [execOp,Instr.makeInterface,run_underlying hu]⟩
  exact h1.elim
 case h_14 fn first captured ho =>
  have h1:=Lk (K:=fun fs=>B9 e captured.toList fun cs=>K (.func fn fs.toArray cs.toArray)) ha h;have h2:=Lk (K:=fun cs=>K (.func fn (first.toList.map a.eval).toArray cs.toArray)) ha h1;exact ⟨_,h2,fun w' _=>by simp [execOp,ho,Instr.makeFunc,Ms]⟩
 case h_15 T parts ho =>
  have h1:=Qkf (K:=fun ps=>Cs P T ps K) ha h;unfold Cs at h1;split at h1
  ·
   rename_i cells hb;refine ⟨_,h1,fun w' _=>?_⟩;have:=run_build (P:=P) w' T (parts.map fun (i,x)=>(i,a.eval x)) cells (by simpa using hb);simp [execOp,ho,this]
  exact h1.elim
 case h_16 T x ho =>
  obtain ⟨v,hv,hr⟩:=Quh (Cx (K:=fun b=>Bf P T b w K) ha h);exact ⟨v,hv,fun w' hw=>by simp [execOp,ho,hr w' hw]⟩
 case h_17 x ho =>
  have h1:=Cx (K:=fun b=>M2 b K) ha h;unfold M2 at h1;split at h1
  ·
   rename_i ad hx;exact ⟨_,h1,fun w' _=>by simp [execOp,ho,hx]⟩
  ·
   rename_i f p c hx;exact ⟨_,h1,fun w' _=>by simp [execOp,ho,hx]⟩
  ·
   rename_i t v hx;exact ⟨_,h1,fun w' _=>by simp [execOp,ho,hx]⟩
  exact h1.elim
 case h_18 az ts ho =>
  have h1:=Lk (K:=fun vs=>match vs,ts[0]? with | [v],some T=>Fq P T v K | _,_=>False) ha h;split at h1
  ·
   rename_i v T hv hT;obtain ⟨u,hu,hr⟩:=Qxk h1 hT (ty:=o.type);refine ⟨u,hu,fun w' _=>?_⟩;have hm:az.map a.eval=#[v]:=by rw [Ms,hv]
   simp [execOp,ho,resolve,invoke,builtin,hm,hr]
  exact h1.elim
 case h_19 az ts ho =>
  obtain ⟨u,hu,hr⟩:=Qxl (P:=P) (Lk (K:=fun vs=>Rv vs K) ha h) (ts:=ts) (ty:=o.type);refine ⟨u,hu,fun w' _=>?_⟩;simp only [execOp,ho,resolve,invoke,builtin,Ms,Yc,Yb,Ya,hr]
 case h_20 az ts ho =>
  obtain ⟨u,hu,hr⟩:=Qxm (P:=P) (Lk (K:=fun vs=>Rw vs K) ha h) (ts:=ts) (ty:=o.type);refine ⟨u,hu,fun w' _=>?_⟩;simp only [execOp,ho,resolve,invoke,builtin,Ms,Yc,Yb,Ya,hr]
 case h_21=>exact h.elim
def Mem (P:Program) (N:Nat) (o:Oper) (e:Env) (w:World) (K:Value->World->Prop):Prop :=
 ∀ (a:Act) (n:Nat) (next:Act->World->Prop) (Q:Exit->Act->World->Prop),Fits N e a->(∀ v w' m,K v w'->next (a.put o.dst v) (w'.drewN m))->o.wp P a (w.drewN n) next Q
def Cq (P:Program) (N:Nat) (o:Oper) (e:Env) (w:World) (rest:Env->World->(Env->World->Prop)->Prop) (K:Env->World->Prop):Prop :=
 Mem P N o e w fun v w'=>rest (e.put o.dst v) w' K
def Mv (P:Program) (N:Nat) (o:Oper) (e:Env) (w:World) (rest:Env->World->(Env->Prop)->Prop) (K:Env->Prop):Prop :=
 ∃ v,(∀ a n,Fits N e a->o.quietAt P a (fun w'=>∃ n,w'=w.drewN n) (w.drewN n) v)/\rest (e.put o.dst v) w K
def Sv (ops:List Oper) (j:Nat):Option Tmp:=(ops[j]?).bind (·.dst)
def gB (b want:Bool) (A B:Prop):Prop:=(b=want->A)/\(b=(! want)->B)
def P8 (t:Tmp) (want:Bool) (v:Value) (e:Env) (A B:Env->Prop):Prop :=
 match v with
 | .bool b=>gB b want (A ((t,.bool want)::e)) (B ((t,.bool ! want)::e))
 | .tuple _=>B e
 | _=>False
def Ng (ops:List Oper) (g:Option (Nat×Bool)) (e:Env) (A B:Env->Prop):Prop :=
 match g with
 | none=>A e
 | some p=>match Sv ops p.1 with
  | none=>B e
  | some t=>Fp e t fun v=>P8 t p.2 v e A B
def Co (N:Nat) (o:Oper):Bool :=
 match o.dst with
 | none=>true
 | some t=>decide (t < N)
def Vw (P:Program) (N:Nat) (p:Bool) (o:Oper) (e:Env) (w:World) (R:Env->World->(Env->World->Prop)->Prop) (K:Env->World->Prop):Prop :=
 match p with
 | true=>We P o.op e w fun v=>R (e.put o.dst v) w K
 | false=>Cq P N o e w R K
def Qe9 (P:Program) (N:Nat) (p:Bool) (o:Oper) (e:Env) (w:World) (R:Env->World->(Env->Prop)->Prop) (K:Env->Prop):Prop :=
 match p with
 | true=>We P o.op e w fun v=>R (e.put o.dst v) w K
 | false=>Mv P N o e w R K
def Aq (P:Program) (N:Nat) (ops:List Oper):List Oper->Env->World->(Env->World->Prop)->Prop
 | [],e,w,K=>K e w
 | o::rest,e,w,K=>Ng ops o.guard e
   (fun e=>Vw P N (Iw P o.op) o e w (Aq P N ops rest) K)
   (fun e=>Aq P N ops rest (e.put o.dst undef) w K)
def A1 (P:Program) (N:Nat) (ops:List Oper):List Oper->Env->World->(Env->Prop)->Prop
 | [],e,_,K=>K e
 | o::rest,e,w,K=>Ng ops o.guard e
   (fun e=>Qe9 P N (Iw P o.op) o e w (A1 P N ops rest) K)
   (fun e=>A1 P N ops rest (e.put o.dst undef) w K)
theorem Fits.put' {N:Nat}{e:Env}{a:Act} (h:Fits N e a) {o:Oper} (ho:Co N o=true) (v:Value):Fits N (e.put o.dst v) (a.put o.dst v) :=
 h.put o.dst v fun t ht=>by simpa [Co,ht] using ho
theorem Fits.cons {N:Nat}{e:Env}{a:Act} (h:Fits N e a) {t:Tmp}{v:Value} (ht:a.tmps.getD t undef=v):Fits N ((t,v)::e) a :=
 ⟨h.size,h.defers,fun s u hs=>by
  simp only [Env.find?_cons] at hs;split at hs
  ·
   rename_i hst;subst hst;simp at hs;rw [<- hs];exact ht
  exact h.at_ s u hs⟩
theorem Pt {N:Nat}{ops:List Oper}{o:Oper}{e:Env}{a:Act}{A B:Env->Prop} (ha:Fits N e a) (h:Ng ops o.guard e A B) :
  (∃ e',Fits N e' a/\A e'/\Region.wanted o (yielded ops.toArray a.tmps)=true)∨(∃ e',Fits N e' a/\B e'/\Region.wanted o (yielded ops.toArray a.tmps)=false):=by
 unfold Ng at h;split at h
 ·
  rename_i hg;exact .inl ⟨e,ha,h,by simp [Region.wanted,hg]⟩
 rename_i p hg;obtain ⟨j,want⟩:=p;simp only at h;split at h
 ·
  rename_i hn;refine .inr ⟨e,ha,h,?_⟩
  have:yielded ops.toArray a.tmps j=none:=by
   unfold yielded;have:((ops.toArray[j]?).bind (·.dst))=none:=by simpa [Sv] using hn
   rw [this];rfl
  simp [Region.wanted,hg,this]
 rename_i t ht;obtain ⟨v,hv,h⟩:=Qdm h;have hget:=ha.at_ t v hv;have hd:((ops.toArray[j]?).bind (·.dst))=some t:=by simpa [Sv] using ht
 unfold P8 at h;split at h
 ·
  rename_i b
  have hy:yielded ops.toArray a.tmps j=some b:=by
   unfold yielded;rw [hd]
   have:a.tmps[t]? = some (.bool b):=by
    rw [Array.getD_eq_getD_getElem?] at hget;cases hc:a.tmps[t]? with
    | none=>rw [hc] at hget;simp [undef] at hget
    | some x=>rw [hc] at hget;simpa using hget
   simp [this]
  by_cases hb:b=want
  ·
   refine .inl ⟨_,ha.cons (by rw [hget,hb]),h.1 hb,by simp [Region.wanted,hg,hy,hb]⟩
  have hb':b=! want:=by cases b <;> cases want <;> simp_all
  refine .inr ⟨_,ha.cons (by rw [hget,hb']),h.2 hb',by simp [Region.wanted,hg,hy,hb']⟩
 ·
  rename_i vs;refine .inr ⟨e,ha,h,?_⟩
  have hy:yielded ops.toArray a.tmps j=none:=by
   unfold yielded;rw [hd];rw [Array.getD_eq_getD_getElem?] at hget;cases hc:a.tmps[t]? with
   | none=>simp [hc]
   | some x=>rw [hc] at hget;simp at hget;subst hget;simp [hc]
  simp [Region.wanted,hg,hy]
 exact h.elim
theorem R9 {P:Program}{N:Nat}{ops:List Oper}{Q:Exit->Act->World->Prop}{K:Env->World->Prop}
  (hK:∀ e a w n,Fits N e a->K e w->Q .normal a (w.drewN n)) (l:List Oper):∀ (e:Env) (a:Act) (w:World) (n:Nat),l.all (Co N)=true->Fits N e a ->
   Aq P N ops l e w K->wpList P ops.toArray Q l a (w.drewN n):=by
 induction l with
 | nil=>intro e a w n _ ha h;exact hK e a w n ha h
 | cons o rest ih =>
  intro e a w n hl ha h;simp only [X6,Yd] at hl;unfold wpList;rcases Pt ha h with ⟨e',ha',h',hw⟩ | ⟨e',ha',h',hw⟩
  ·
   rw [if_pos hw];refine .inl ?_;unfold Vw at h';split at h'
   ·
    obtain ⟨v,hv,hr⟩:=Nv ha' h';unfold Oper.wp;rw [hr (w.drewN n) (Ext.drewN w n)];exact ih _ _ w n hl.2 (ha'.put' hl.1 v) hv
   exact h' a n _ Q ha' fun v w' m hv=>ih _ _ w' m hl.2 (ha'.put' hl.1 v) hv
  rw [if_neg (by rw [hw];simp)];exact ih _ _ w n hl.2 (ha'.put' hl.1 undef) h'
theorem Quj {P:Program}{N:Nat}{ops:List Oper}{Q:Act->Prop}{K:Env->Prop}{w:World}
  (hK:∀ e a,Fits N e a->K e->Q a) (l:List Oper):∀ (e:Env) (a:Act),l.all (Co N)=true->Fits N e a ->
   A1 P N ops l e w K->wpQuiet P ops.toArray (fun w'=>∃ n,w'=w.drewN n) Q l a:=by
 induction l with
 | nil=>intro e a _ ha h;exact hK e a ha h
 | cons o rest ih =>
  intro e a hl ha h;simp only [X6,Yd] at hl;unfold wpQuiet;rcases Pt ha h with ⟨e',ha',h',hw⟩ | ⟨e',ha',h',hw⟩
  ·
   rw [if_pos hw];unfold Qe9 at h';split at h'
   ·
    obtain ⟨v,hv,hr⟩:=Nv ha' h';refine ⟨v,?_,ih _ _ hl.2 (ha'.put' hl.1 v) hv⟩;rintro w' ⟨n,rfl⟩;unfold Oper.quietAt;rw [hr (w.drewN n) (Ext.drewN w n)];exact ⟨rfl,rfl⟩
   obtain ⟨v,hq,hv⟩:=h';refine ⟨v,?_,ih _ _ hl.2 (ha'.put' hl.1 v) hv⟩;rintro w' ⟨n,rfl⟩;exact hq a n ha'
  rw [if_neg (by rw [hw];simp)];exact ih _ _ hl.2 (ha'.put' hl.1 undef) h'
def Is {α:Sort _} (a b:α):Prop:=a=b
theorem Is.out {α:Sort _}{a b:α} (h:Is a b):a=b:=h
def Lg:Env->Nat->(Value->Prop)->Prop->Prop
 | [],_,_,B=>B
 | p::e,n,A,B=>if n=p.1 then A p.2 else Lg e n A B
def D9:List Nat->Env->(Env->Prop)->Prop
 | [],_,K=>K []
 | k::ks,e,K=>Lg e k (fun v=>D9 ks e fun e'=>K ((k,v)::e')) (D9 ks e K)
def Dm (ks:List Nat) (K:Env->World->Prop):Env->World->Prop:=fun e w=>D9 ks e fun e=>K e w
def QJv (ks:List Nat) (K:Env->Prop):Env->Prop:=fun e=>D9 ks e K
theorem Quk (e:Env) (n:Nat) (A:Value->Prop) (B:Prop):Lg e n A B ↔ match e.find? n with | some v=>A v | none=>B:=by
 induction e with
 | nil=>simp [Lg,Env.find?]
 | cons p e ih =>
  simp only [Lg,Env.find?_cons];by_cases h:n=p.1
  ·
   simp [h]
  simp only [h,if_false];exact ih
def Env.sel (ks:List Nat) (e:Env):Env:=ks.filterMap fun k=>(e.find? k).map fun v=>(k,v)
theorem Ko (ks:List Nat) (e:Env):∀ (K:Env->Prop),D9 ks e K ↔ K (e.sel ks):=by
 induction ks with
 | nil=>intro K;rfl
 | cons k ks ih =>
  intro K;simp only [D9,Quk];cases h:e.find? k with
  | none=>simp only [ih];simp [Env.sel,h]
  | some v=>simp only [ih];simp [Env.sel,h]
theorem Env.find?_sel (ks:List Nat) (e:Env) (t:Nat) (v:Value) (h:(e.sel ks).find? t=some v):e.find? t=some v:=by
 induction ks with
 | nil=>simp [Env.sel,Env.find?] at h
 | cons k ks ih =>
  cases hk:e.find? k with
  | none=>exact ih (by simpa [Env.sel,hk] using h)
  | some u =>
   have h':Env.find? ((k,u)::e.sel ks) t=some v:=by simpa [Env.sel,hk] using h
   simp only [Env.find?_cons] at h';by_cases htk:t=k
   ·
    simp only [htk,if_true] at h';rw [htk,hk];exact h'
   simp only [htk,if_false] at h';exact ih h'
theorem Fits.sel {N:Nat}{e:Env}{a:Act} (h:Fits N e a) (ks:List Nat):Fits N (e.sel ks) a:=h.weaken fun t v ht=>Env.find?_sel ks e t v ht
section
variable {P:Program}{fn:Func}{F:Value->World->Prop}{N:Nat}{k:List It}{e:Env}{w:World}
theorem Qi1 (ks:List Nat) {id:Nat}{ops:List Oper} (hN:ops.all (Co N)=true)
  (h:∀ K:Env->World->Prop,(∀ e w,VC ⟨P,fn,F,N⟩ k e w->K e w)->Aq P N ops ops e w (Dm ks K)):VC ⟨P,fn,F,N⟩ (.code (.region id ops.toArray false)::k) e w:=by
 intro a n ha;refine wp_region_lit (R9 (K:=fun e w=>D9 ks e fun e=>VC ⟨P,fn,F,N⟩ k e w) (fun e a w n ha hv=>?_) ops e a w n hN ha (h _ fun _ _ hv=>hv));exact ((Ko ks e _).1 hv) a n (ha.sel ks)
theorem Qb3 (ks:List Nat) {id:Nat}{ops:List Oper} (hm:P.follows .mixedOrders=true) (hB:Region.lexB .any ops.toArray=true) (hN:ops.all (Co N)=true)
  (h:∀ K:Env->Prop,(∀ e,VC ⟨P,fn,F,N⟩ k e w->K e)->A1 P N ops ops e w (QJv ks K)):VC ⟨P,fn,F,N⟩ (.code (.region id ops.toArray true)::k) e w:=by
 intro a n ha;refine wp_region_quiet (C:=fun w'=>∃ n,w'=w.drewN n) hm hB ⟨n+1,rfl⟩ ?_;refine Quj (K:=fun e=>D9 ks e fun e=>VC ⟨P,fn,F,N⟩ k e w) (fun e a ha hv=>?_) ops e a hN ha (h _ fun _ hv=>hv);rintro w' ⟨m,rfl⟩;exact ((Ko ks e _).1 hv) a m (ha.sel ks)
theorem Au (ks:List Nat) {body:Code} (I:Nat->Env->World->Prop) (n:Nat) (h0:D9 ks e fun e=>I n e w)
  (round:∀ n e w,I n e w->VC ⟨P,fn,F,N⟩ (.code body::.again (fun e' w'=>D9 ks e' fun e'=>∃ m,m < n/\I m e' w')::k) e w):VC ⟨P,fn,F,N⟩ (.code (.loop body)::k) e w:=by
 have h0':VC ⟨P,fn,F,N⟩ (.code (.loop body)::k) (e.sel ks) w:=by
  refine QAz I n ((Ko ks e _).1 h0) fun n e w hI=>?_;intro a d ha;have h1:=round n e w hI a d ha;simp only [Fo] at h1 ⊢;refine wp_mono h1 fun ex a w hq=>?_;cases ex with
  | normal=>obtain ⟨e',w0,d',hw,hf,hI'⟩:=hq;exact ⟨e'.sel ks,w0,d',hw,hf.sel ks,(Ko ks e' _).1 hI'⟩
  | _=>exact hq
 exact fun a d ha=>h0' a d (ha.sel ks)
theorem Dk (ks:List Nat) {c:Code} (J:Env->World->Prop) (h:VC ⟨P,fn,F,N⟩ (.code c::.again (fun e w=>D9 ks e fun e=>J e w)::k) e w)
  (hJ:∀ e w,J e w->VC ⟨P,fn,F,N⟩ k e w):VC ⟨P,fn,F,N⟩ (.code c::k) e w:=by
 intro a d ha;have h1:=h a d ha;simp only [Fo] at h1 ⊢;refine wp_mono h1 fun ex a w hq=>?_;cases ex with
 | normal=>obtain ⟨e',w0,d',rfl,hf,hI'⟩:=hq;exact hJ _ _ ((Ko ks e' _).1 hI') a d' (hf.sel ks)
 | _=>exact hq
end
def Lh:Code->List It->List It
 | .seq a b,k=>Lh a (.code b::k)
 | c,k=>.code c::k
theorem Rg {C:K3}{e:Env}{w:World}:∀ (c:Code) (k:List It),VC C (Lh c k) e w->VC C (.code c::k) e w:=by
 intro c
 induction c with
 | seq a b iha ihb=>intro k h;exact Ax (iha _ h)
 | _=>intro k h;exact h
theorem VR {P:Program}{fn:Func}{F:Value->World->Prop}{N:Nat}{k k':List It}{e:Env}{w:World} (ks:List Nat) {c:Code}{id:Nat}{ops:List Oper} (hp:Lh c k=.code (.region id ops.toArray false)::k') (hN:ops.all (Co N)=true)
  (h:∀ K:Env->World->Prop,(∀ e w,VC ⟨P,fn,F,N⟩ k' e w->K e w)->Aq P N ops ops e w (Dm ks K)):VC ⟨P,fn,F,N⟩ (.code c::k) e w :=
 Rg c k (hp ▸ Qi1 ks hN h)
def B1:List Oper->Nat->Bool->Env->(Env->Prop)->(Env->Prop)->Prop
 | [],_,_,e,_,B=>B e
 | o::_,0,b,e,A,B=>match o.dst with
  | none=>B e
  | some t=>Fp e t fun v=>P8 t b v e A B
 | _::l,j+1,b,e,A,B=>B1 l j b e A B
theorem Cm (ops:List Oper):∀ (j:Nat) (b:Bool) (e:Env) (A B:Env->Prop),Ng ops (some (j,b)) e A B=B1 ops j b e A B:=by
 induction ops with
 | nil=>intro j b e A B;simp [Ng,Sv,B1]
 | cons o l ih =>
  intro j b e A B;cases j with
  | zero=>cases h:o.dst <;> simp [Ng,Sv,B1,h]
  | succ j=>rw [B1,<- ih];simp [Ng,Sv]
def Qq (P:Program) (T:Option TypeId) (vs:List Value) (K:Value->Prop):Prop :=
 match vs,T with
 | [v],some T=>Fq P T v K
 | _,_=>False
section
variable {P:Program}{N:Nat}{ops rest:List Oper}{d:Option Tmp}{r t ty:Nat}{op:Op}{pos:String}{af:Array Edge}{e:Env}{w:World}{K:Env->World->Prop}{KQ:Env->Prop}{KV:Value->Prop}
theorem QFs (ks:List Nat):Aq P N ops [] e w (Dm ks K)=D9 ks e fun e=>K e w:=rfl
theorem QFt (ks:List Nat):A1 P N ops [] e w (QJv ks KQ)=D9 ks e KQ:=rfl
theorem QA2 {d':Option (Nat×Bool)}{A B:Env->Prop} (b:Bool):B1 (⟨some t,op,ty,pos,af,d'⟩::ops) 0 b e A B=Fp e t fun v=>P8 t b v e A B:=rfl
theorem QA3 {A B:Env->Prop} (o:Oper) (j:Nat) (b:Bool):B1 (o::ops) (j+1) b e A B=B1 ops j b e A B:=rfl
theorem QOk {A B:Env->Prop} (b:Bool):P8 t true (.bool b) e A B=gB b true (A ((t,.bool true)::e)) (B ((t,.bool false)::e)):=rfl
theorem QOl {A B:Env->Prop} (b:Bool):P8 t false (.bool b) e A B=gB b false (A ((t,.bool false)::e)) (B ((t,.bool true)::e)):=rfl
theorem Vx {KE:Env->Prop}:D9 [] e KE=KE []:=rfl
theorem Vn {KE:Env->Prop} (ks:List Nat):D9 (t::ks) e KE=Lg e t (fun v=>D9 ks e fun e'=>KE ((t,v)::e')) (D9 ks e KE):=rfl
theorem QFu {A:Value->Prop}{B:Prop}:Lg [] t A B=B:=rfl
theorem Vy {A:Value->Prop}{B:Prop} (v:Value):Lg ((t,v)::e) t A B=A v:=by simp [Lg]
theorem Vo {A:Value->Prop}{B:Prop} (s:Nat) (v:Value):Lg ((s,v)::e) t A B=if t=s then A v else Lg e t A B:=rfl
theorem QFv {KV':Value->Prop} (u:Value) (n:Nat):Fp (Env.put e (some t) u) n KV'=Fp ((t,u)::e) n KV':=rfl
theorem QA4 {KV':Value->Prop} (u:Value) (n:Nat):Fp (Env.put e none u) n KV'=Fp e n KV':=rfl
theorem QFw {KE:Env->Prop} (u:Value) (ks:List Nat):D9 ks (Env.put e (some t) u) KE=D9 ks ((t,u)::e) KE:=rfl
theorem QA5 {KE:Env->Prop} (u:Value) (ks:List Nat):D9 ks (Env.put e none u) KE=D9 ks e KE:=rfl
theorem QFx {A:Value->Prop}{B:Prop} (u:Value) (n:Nat):Lg (Env.put e (some t) u) n A B=Lg ((t,u)::e) n A B:=rfl
theorem QA6 {A:Value->Prop}{B:Prop} (u:Value) (n:Nat):Lg (Env.put e none u) n A B=Lg e n A B:=rfl
theorem Qxn {A B:Env->Prop} (want:Bool) (vs:Array Value):P8 t want (.tuple vs) e A B=B e:=rfl
theorem Qul {A B:Env->Prop} (want:Bool):P8 t want undef e A B=B e:=rfl
theorem QJ1 {A B:Prop}:gB true true A B=A:=by simp [gB]
theorem QJ2 {A B:Prop}:gB false false A B=A:=by simp [gB]
theorem QJ3 {A B:Prop}:gB true false A B=B:=by simp [gB]
theorem QJ4 {A B:Prop}:gB false true A B=B:=by simp [gB]
theorem QJ5 {p:Prop} [Decidable p] {A B:Prop}:gB (decide p) true A B=((p->A)/\(¬ p->B)):=by simp [gB]
theorem QJ6 {p:Prop} [Decidable p] {A B:Prop}:gB (decide p) false A B=((¬ p->A)/\(p->B)):=by simp [gB]
theorem QFy (x:Operand):Aq P N ops (⟨some r,.move x,ty,pos,af,none⟩::rest) e w K=Ak e x (fun v=>Aq P N ops rest ((r,v)::e) w K):=rfl
theorem QA7 (x:Operand) (jj:Nat) (bb:Bool):Aq P N ops (⟨some r,.move x,ty,pos,af,some (jj,bb)⟩::rest) e w K=B1 ops jj bb e (fun e=>Ak e x (fun v=>Aq P N ops rest ((r,v)::e) w K)) (fun e=>Aq P N ops rest ((r,undef)::e) w K):=by rw [<- Cm];rfl
theorem QFz (x:Operand):A1 P N ops (⟨some r,.move x,ty,pos,af,none⟩::rest) e w KQ=Ak e x (fun v=>A1 P N ops rest ((r,v)::e) w KQ):=rfl
theorem QA8 (x:Operand) (jj:Nat) (bb:Bool):A1 P N ops (⟨some r,.move x,ty,pos,af,some (jj,bb)⟩::rest) e w KQ=B1 ops jj bb e (fun e=>Ak e x (fun v=>A1 P N ops rest ((r,v)::e) w KQ)) (fun e=>A1 P N ops rest ((r,undef)::e) w KQ):=by rw [<- Cm];rfl
theorem Qxo (x:Operand):Aq P N ops (⟨some r,.assign x,ty,pos,af,none⟩::rest) e w K=Ak e x (fun v=>Aq P N ops rest ((r,v)::e) w K):=rfl
theorem Qxp (x:Operand):A1 P N ops (⟨some r,.assign x,ty,pos,af,none⟩::rest) e w KQ=Ak e x (fun v=>A1 P N ops rest ((r,v)::e) w KQ):=rfl
theorem QF0 (c x y:Operand):Aq P N ops (⟨some r,.pick c x y,ty,pos,af,none⟩::rest) e w K=Ak e c fun vc=>Ni vc (Ak e x (fun v=>Aq P N ops rest ((r,v)::e) w K)) (Ak e y (fun v=>Aq P N ops rest ((r,v)::e) w K)):=rfl
theorem QA9 (c x y:Operand) (jj:Nat) (bb:Bool):Aq P N ops (⟨some r,.pick c x y,ty,pos,af,some (jj,bb)⟩::rest) e w K=B1 ops jj bb e (fun e=>Ak e c fun vc=>Ni vc (Ak e x (fun v=>Aq P N ops rest ((r,v)::e) w K)) (Ak e y (fun v=>Aq P N ops rest ((r,v)::e) w K))) (fun e=>Aq P N ops rest ((r,undef)::e) w K):=by rw [<- Cm];rfl
theorem QF1 (c x y:Operand):A1 P N ops (⟨some r,.pick c x y,ty,pos,af,none⟩::rest) e w KQ=Ak e c fun vc=>Ni vc (Ak e x (fun v=>A1 P N ops rest ((r,v)::e) w KQ)) (Ak e y (fun v=>A1 P N ops rest ((r,v)::e) w KQ)):=rfl
theorem QBa (c x y:Operand) (jj:Nat) (bb:Bool):A1 P N ops (⟨some r,.pick c x y,ty,pos,af,some (jj,bb)⟩::rest) e w KQ=B1 ops jj bb e (fun e=>Ak e c fun vc=>Ni vc (Ak e x (fun v=>A1 P N ops rest ((r,v)::e) w KQ)) (Ak e y (fun v=>A1 P N ops rest ((r,v)::e) w KQ))) (fun e=>A1 P N ops rest ((r,undef)::e) w KQ):=by rw [<- Cm];rfl
theorem QBb (op:BinOp) (T T':TypeId) (x y:Operand):Aq P N ops (⟨some r,.binOp op T x y T',ty,pos,af,none⟩::rest) e w K=Ak e x fun a=>Ak e y fun b=>A8 P op T x y a b w (fun v=>Aq P N ops rest ((r,v)::e) w K):=rfl
theorem Qxq (op:BinOp) (T T':TypeId) (x y:Operand) (jj:Nat) (bb:Bool):Aq P N ops (⟨some r,.binOp op T x y T',ty,pos,af,some (jj,bb)⟩::rest) e w K=B1 ops jj bb e (fun e=>Ak e x fun a=>Ak e y fun b=>A8 P op T x y a b w (fun v=>Aq P N ops rest ((r,v)::e) w K)) (fun e=>Aq P N ops rest ((r,undef)::e) w K):=by rw [<- Cm];rfl
theorem QBc (op:BinOp) (T T':TypeId) (x y:Operand):A1 P N ops (⟨some r,.binOp op T x y T',ty,pos,af,none⟩::rest) e w KQ=Ak e x fun a=>Ak e y fun b=>A8 P op T x y a b w (fun v=>A1 P N ops rest ((r,v)::e) w KQ):=rfl
theorem Qxr (op:BinOp) (T T':TypeId) (x y:Operand) (jj:Nat) (bb:Bool):A1 P N ops (⟨some r,.binOp op T x y T',ty,pos,af,some (jj,bb)⟩::rest) e w KQ=B1 ops jj bb e (fun e=>Ak e x fun a=>Ak e y fun b=>A8 P op T x y a b w (fun v=>A1 P N ops rest ((r,v)::e) w KQ)) (fun e=>A1 P N ops rest ((r,undef)::e) w KQ):=by rw [<- Cm];rfl
theorem QF2 (op:UnOp) (T:TypeId) (x:Operand):Aq P N ops (⟨some r,.unOp op T x,ty,pos,af,none⟩::rest) e w K=Ak e x fun a=>Ml op a (fun v=>Aq P N ops rest ((r,v)::e) w K):=rfl
theorem QBd (op:UnOp) (T:TypeId) (x:Operand) (jj:Nat) (bb:Bool):Aq P N ops (⟨some r,.unOp op T x,ty,pos,af,some (jj,bb)⟩::rest) e w K=B1 ops jj bb e (fun e=>Ak e x fun a=>Ml op a (fun v=>Aq P N ops rest ((r,v)::e) w K)) (fun e=>Aq P N ops rest ((r,undef)::e) w K):=by rw [<- Cm];rfl
theorem QF3 (op:UnOp) (T:TypeId) (x:Operand):A1 P N ops (⟨some r,.unOp op T x,ty,pos,af,none⟩::rest) e w KQ=Ak e x fun a=>Ml op a (fun v=>A1 P N ops rest ((r,v)::e) w KQ):=rfl
theorem QBe (op:UnOp) (T:TypeId) (x:Operand) (jj:Nat) (bb:Bool):A1 P N ops (⟨some r,.unOp op T x,ty,pos,af,some (jj,bb)⟩::rest) e w KQ=B1 ops jj bb e (fun e=>Ak e x fun a=>Ml op a (fun v=>A1 P N ops rest ((r,v)::e) w KQ)) (fun e=>A1 P N ops rest ((r,undef)::e) w KQ):=by rw [<- Cm];rfl
theorem Qau (s d:TypeId) (x:Operand):Aq P N ops (⟨some r,.convert s d x,ty,pos,af,none⟩::rest) e w K=Vw P N (C4 P s d) ⟨some r,.convert s d x,ty,pos,af,none⟩ e w (Aq P N ops rest) K:=rfl
theorem Qum (s d:TypeId) (x:Operand) (hc:C4 P s d=true):Aq P N ops (⟨some r,.convert s d x,ty,pos,af,none⟩::rest) e w K=Ak e x fun a=>Dl P s d a w (fun v=>Aq P N ops rest ((r,v)::e) w K):=by rw [Qau,hc];rfl
theorem Qqc (s d:TypeId) (x:Operand) (hc:C4 P s d=false):Aq P N ops (⟨some r,.convert s d x,ty,pos,af,none⟩::rest) e w K=Cq P N ⟨some r,.convert s d x,ty,pos,af,none⟩ e w (Aq P N ops rest) K:=by rw [Qau,hc];rfl
theorem Qez (s d:TypeId) (x:Operand) (jj:Nat) (bb:Bool):Aq P N ops (⟨some r,.convert s d x,ty,pos,af,some (jj,bb)⟩::rest) e w K=B1 ops jj bb e (fun e=>Vw P N (C4 P s d) ⟨some r,.convert s d x,ty,pos,af,some (jj,bb)⟩ e w (Aq P N ops rest) K) (fun e=>Aq P N ops rest ((r,undef)::e) w K):=by rw [<- Cm];rfl
theorem Qqd (s d:TypeId) (x:Operand) (jj:Nat) (bb:Bool) (hc:C4 P s d=true):Aq P N ops (⟨some r,.convert s d x,ty,pos,af,some (jj,bb)⟩::rest) e w K=B1 ops jj bb e (fun e=>Ak e x fun a=>Dl P s d a w (fun v=>Aq P N ops rest ((r,v)::e) w K)) (fun e=>Aq P N ops rest ((r,undef)::e) w K):=by rw [Qez,hc];rfl
theorem Qav (s d:TypeId) (x:Operand):A1 P N ops (⟨some r,.convert s d x,ty,pos,af,none⟩::rest) e w KQ=Qe9 P N (C4 P s d) ⟨some r,.convert s d x,ty,pos,af,none⟩ e w (A1 P N ops rest) KQ:=rfl
theorem Qun (s d:TypeId) (x:Operand) (hc:C4 P s d=true):A1 P N ops (⟨some r,.convert s d x,ty,pos,af,none⟩::rest) e w KQ=Ak e x fun a=>Dl P s d a w (fun v=>A1 P N ops rest ((r,v)::e) w KQ):=by rw [Qav,hc];rfl
theorem Qqe (s d:TypeId) (x:Operand) (hc:C4 P s d=false):A1 P N ops (⟨some r,.convert s d x,ty,pos,af,none⟩::rest) e w KQ=Mv P N ⟨some r,.convert s d x,ty,pos,af,none⟩ e w (A1 P N ops rest) KQ:=by rw [Qav,hc];rfl
theorem Qe0 (s d:TypeId) (x:Operand) (jj:Nat) (bb:Bool):A1 P N ops (⟨some r,.convert s d x,ty,pos,af,some (jj,bb)⟩::rest) e w KQ=B1 ops jj bb e (fun e=>Qe9 P N (C4 P s d) ⟨some r,.convert s d x,ty,pos,af,some (jj,bb)⟩ e w (A1 P N ops rest) KQ) (fun e=>A1 P N ops rest ((r,undef)::e) w KQ):=by rw [<- Cm];rfl
theorem Qqf (s d:TypeId) (x:Operand) (jj:Nat) (bb:Bool) (hc:C4 P s d=true):A1 P N ops (⟨some r,.convert s d x,ty,pos,af,some (jj,bb)⟩::rest) e w KQ=B1 ops jj bb e (fun e=>Ak e x fun a=>Dl P s d a w (fun v=>A1 P N ops rest ((r,v)::e) w KQ)) (fun e=>A1 P N ops rest ((r,undef)::e) w KQ):=by rw [Qe0,hc];rfl
theorem QBf (T:TypeId) (x:Operand) (lo hi:Option Operand):Aq P N ops (⟨some r,.slice T x lo hi none,ty,pos,af,none⟩::rest) e w K=Ak e x fun a=>Ic e lo fun l=>Ic e hi fun h=>B7 P T a l h (fun v=>Aq P N ops rest ((r,v)::e) w K):=rfl
theorem Qxs (T:TypeId) (x:Operand) (lo hi:Option Operand) (jj:Nat) (bb:Bool):Aq P N ops (⟨some r,.slice T x lo hi none,ty,pos,af,some (jj,bb)⟩::rest) e w K=B1 ops jj bb e (fun e=>Ak e x fun a=>Ic e lo fun l=>Ic e hi fun h=>B7 P T a l h (fun v=>Aq P N ops rest ((r,v)::e) w K)) (fun e=>Aq P N ops rest ((r,undef)::e) w K):=by rw [<- Cm];rfl
theorem QBg (T:TypeId) (x:Operand) (lo hi:Option Operand):A1 P N ops (⟨some r,.slice T x lo hi none,ty,pos,af,none⟩::rest) e w KQ=Ak e x fun a=>Ic e lo fun l=>Ic e hi fun h=>B7 P T a l h (fun v=>A1 P N ops rest ((r,v)::e) w KQ):=rfl
theorem Qxt (T:TypeId) (x:Operand) (lo hi:Option Operand) (jj:Nat) (bb:Bool):A1 P N ops (⟨some r,.slice T x lo hi none,ty,pos,af,some (jj,bb)⟩::rest) e w KQ=B1 ops jj bb e (fun e=>Ak e x fun a=>Ic e lo fun l=>Ic e hi fun h=>B7 P T a l h (fun v=>A1 P N ops rest ((r,v)::e) w KQ)) (fun e=>A1 P N ops rest ((r,undef)::e) w KQ):=by rw [<- Cm];rfl
theorem Qmm (S:TypeId) (x:Operand) (f:Nat):Aq P N ops (⟨some r,.fieldAddr S x f,ty,pos,af,none⟩::rest) e w K=Ak e x fun a=>By P S a f (fun v=>Aq P N ops rest ((r,v)::e) w K):=rfl
theorem Qkg (S:TypeId) (x:Operand) (f:Nat) (jj:Nat) (bb:Bool):Aq P N ops (⟨some r,.fieldAddr S x f,ty,pos,af,some (jj,bb)⟩::rest) e w K=B1 ops jj bb e (fun e=>Ak e x fun a=>By P S a f (fun v=>Aq P N ops rest ((r,v)::e) w K)) (fun e=>Aq P N ops rest ((r,undef)::e) w K):=by rw [<- Cm];rfl
theorem Qmn (S:TypeId) (x:Operand) (f:Nat):A1 P N ops (⟨some r,.fieldAddr S x f,ty,pos,af,none⟩::rest) e w KQ=Ak e x fun a=>By P S a f (fun v=>A1 P N ops rest ((r,v)::e) w KQ):=rfl
theorem Qkh (S:TypeId) (x:Operand) (f:Nat) (jj:Nat) (bb:Bool):A1 P N ops (⟨some r,.fieldAddr S x f,ty,pos,af,some (jj,bb)⟩::rest) e w KQ=B1 ops jj bb e (fun e=>Ak e x fun a=>By P S a f (fun v=>A1 P N ops rest ((r,v)::e) w KQ)) (fun e=>A1 P N ops rest ((r,undef)::e) w KQ):=by rw [<- Cm];rfl
theorem Qmo (T:TypeId) (x i:Operand):Aq P N ops (⟨some r,.indexAddr T x i,ty,pos,af,none⟩::rest) e w K=Ak e x fun a=>Ak e i fun n=>Cu P T a n (fun v=>Aq P N ops rest ((r,v)::e) w K):=rfl
theorem Qki (T:TypeId) (x i:Operand) (jj:Nat) (bb:Bool):Aq P N ops (⟨some r,.indexAddr T x i,ty,pos,af,some (jj,bb)⟩::rest) e w K=B1 ops jj bb e (fun e=>Ak e x fun a=>Ak e i fun n=>Cu P T a n (fun v=>Aq P N ops rest ((r,v)::e) w K)) (fun e=>Aq P N ops rest ((r,undef)::e) w K):=by rw [<- Cm];rfl
theorem Qmp (T:TypeId) (x i:Operand):A1 P N ops (⟨some r,.indexAddr T x i,ty,pos,af,none⟩::rest) e w KQ=Ak e x fun a=>Ak e i fun n=>Cu P T a n (fun v=>A1 P N ops rest ((r,v)::e) w KQ):=rfl
theorem Qkj (T:TypeId) (x i:Operand) (jj:Nat) (bb:Bool):A1 P N ops (⟨some r,.indexAddr T x i,ty,pos,af,some (jj,bb)⟩::rest) e w KQ=B1 ops jj bb e (fun e=>Ak e x fun a=>Ak e i fun n=>Cu P T a n (fun v=>A1 P N ops rest ((r,v)::e) w KQ)) (fun e=>A1 P N ops rest ((r,undef)::e) w KQ):=by rw [<- Cm];rfl
theorem QBh (T:TypeId) (x i:Operand):Aq P N ops (⟨some r,.index T x i,ty,pos,af,none⟩::rest) e w K=Ak e x fun a=>Ak e i fun n=>D4 P T a n (fun v=>Aq P N ops rest ((r,v)::e) w K):=rfl
theorem Qxu (T:TypeId) (x i:Operand) (jj:Nat) (bb:Bool):Aq P N ops (⟨some r,.index T x i,ty,pos,af,some (jj,bb)⟩::rest) e w K=B1 ops jj bb e (fun e=>Ak e x fun a=>Ak e i fun n=>D4 P T a n (fun v=>Aq P N ops rest ((r,v)::e) w K)) (fun e=>Aq P N ops rest ((r,undef)::e) w K):=by rw [<- Cm];rfl
theorem QBi (T:TypeId) (x i:Operand):A1 P N ops (⟨some r,.index T x i,ty,pos,af,none⟩::rest) e w KQ=Ak e x fun a=>Ak e i fun n=>D4 P T a n (fun v=>A1 P N ops rest ((r,v)::e) w KQ):=rfl
theorem Qxv (T:TypeId) (x i:Operand) (jj:Nat) (bb:Bool):A1 P N ops (⟨some r,.index T x i,ty,pos,af,some (jj,bb)⟩::rest) e w KQ=B1 ops jj bb e (fun e=>Ak e x fun a=>Ak e i fun n=>D4 P T a n (fun v=>A1 P N ops rest ((r,v)::e) w KQ)) (fun e=>A1 P N ops rest ((r,undef)::e) w KQ):=by rw [<- Cm];rfl
theorem Quo (x:Operand) (i:Nat):Aq P N ops (⟨some r,.extract x i,ty,pos,af,none⟩::rest) e w K=Ak e x fun a=>Ss a i (fun v=>Aq P N ops rest ((r,v)::e) w K):=rfl
theorem Qup (x:Operand) (i:Nat):A1 P N ops (⟨some r,.extract x i,ty,pos,af,none⟩::rest) e w KQ=Ak e x fun a=>Ss a i (fun v=>A1 P N ops rest ((r,v)::e) w KQ):=rfl
theorem Qe1 (T:TypeId) (x:Operand):Aq P N ops (⟨some r,.makeInterface T x,ty,pos,af,none⟩::rest) e w K=Ak e x fun a=>W0 P T a (fun v=>Aq P N ops rest ((r,v)::e) w K):=rfl
theorem Qqg (fn:Go.Fn) (a b:Array Operand):Aq P N ops (⟨some r,.makeFunc fn a b,ty,pos,af,none⟩::rest) e w K=B9 e a.toList fun fs=>B9 e b.toList fun cs=>((fun v=>Aq P N ops rest ((r,v)::e) w K)) (.func fn fs.toArray cs.toArray):=rfl
theorem QBj (T:TypeId) (ps:Array (Nat×Operand)):Aq P N ops (⟨some r,.build T ps,ty,pos,af,none⟩::rest) e w K=L9 e ps.toList fun vs=>Cs P T vs (fun v=>Aq P N ops rest ((r,v)::e) w K):=rfl
theorem Qxw (T:TypeId) (ps:Array (Nat×Operand)) (jj:Nat) (bb:Bool):Aq P N ops (⟨some r,.build T ps,ty,pos,af,some (jj,bb)⟩::rest) e w K=B1 ops jj bb e (fun e=>L9 e ps.toList fun vs=>Cs P T vs (fun v=>Aq P N ops rest ((r,v)::e) w K)) (fun e=>Aq P N ops rest ((r,undef)::e) w K):=by rw [<- Cm];rfl
theorem QBk (T:TypeId) (ps:Array (Nat×Operand)):A1 P N ops (⟨some r,.build T ps,ty,pos,af,none⟩::rest) e w KQ=L9 e ps.toList fun vs=>Cs P T vs (fun v=>A1 P N ops rest ((r,v)::e) w KQ):=rfl
theorem QF4 (T:TypeId) (x:Operand):Aq P N ops (⟨some r,.load T x,ty,pos,af,none⟩::rest) e w K=Ak e x fun a=>Bf P T a w (fun v=>Aq P N ops rest ((r,v)::e) w K):=rfl
theorem QBl (T:TypeId) (x:Operand) (jj:Nat) (bb:Bool):Aq P N ops (⟨some r,.load T x,ty,pos,af,some (jj,bb)⟩::rest) e w K=B1 ops jj bb e (fun e=>Ak e x fun a=>Bf P T a w (fun v=>Aq P N ops rest ((r,v)::e) w K)) (fun e=>Aq P N ops rest ((r,undef)::e) w K):=by rw [<- Cm];rfl
theorem QF5 (T:TypeId) (x:Operand):A1 P N ops (⟨some r,.load T x,ty,pos,af,none⟩::rest) e w KQ=Ak e x fun a=>Bf P T a w (fun v=>A1 P N ops rest ((r,v)::e) w KQ):=rfl
theorem QBm (T:TypeId) (x:Operand) (jj:Nat) (bb:Bool):A1 P N ops (⟨some r,.load T x,ty,pos,af,some (jj,bb)⟩::rest) e w KQ=B1 ops jj bb e (fun e=>Ak e x fun a=>Bf P T a w (fun v=>A1 P N ops rest ((r,v)::e) w KQ)) (fun e=>A1 P N ops rest ((r,undef)::e) w KQ):=by rw [<- Cm];rfl
theorem Qqh (x:Operand):Aq P N ops (⟨some r,.nilCheck x,ty,pos,af,none⟩::rest) e w K=Ak e x fun a=>M2 a (fun v=>Aq P N ops rest ((r,v)::e) w K):=rfl
theorem Qmq (x:Operand) (jj:Nat) (bb:Bool):Aq P N ops (⟨some r,.nilCheck x,ty,pos,af,some (jj,bb)⟩::rest) e w K=B1 ops jj bb e (fun e=>Ak e x fun a=>M2 a (fun v=>Aq P N ops rest ((r,v)::e) w K)) (fun e=>Aq P N ops rest ((r,undef)::e) w K):=by rw [<- Cm];rfl
theorem Qqi (x:Operand):A1 P N ops (⟨some r,.nilCheck x,ty,pos,af,none⟩::rest) e w KQ=Ak e x fun a=>M2 a (fun v=>A1 P N ops rest ((r,v)::e) w KQ):=rfl
theorem Qmr (x:Operand) (jj:Nat) (bb:Bool):A1 P N ops (⟨some r,.nilCheck x,ty,pos,af,some (jj,bb)⟩::rest) e w KQ=B1 ops jj bb e (fun e=>Ak e x fun a=>M2 a (fun v=>A1 P N ops rest ((r,v)::e) w KQ)) (fun e=>A1 P N ops rest ((r,undef)::e) w KQ):=by rw [<- Cm];rfl
theorem QJ7 (az:Array Operand) (ts:Array TypeId):Aq P N ops (⟨some r,.call { callee:=.builtin .len,args:=az,argTypes:=ts },ty,pos,af,none⟩::rest) e w K=B9 e az.toList fun vs=>Qq P ts[0]? vs (fun v=>Aq P N ops rest ((r,v)::e) w K):=rfl
theorem QF6 (az:Array Operand) (ts:Array TypeId) (jj:Nat) (bb:Bool):Aq P N ops (⟨some r,.call { callee:=.builtin .len,args:=az,argTypes:=ts },ty,pos,af,some (jj,bb)⟩::rest) e w K=B1 ops jj bb e (fun e=>B9 e az.toList fun vs=>Qq P ts[0]? vs (fun v=>Aq P N ops rest ((r,v)::e) w K)) (fun e=>Aq P N ops rest ((r,undef)::e) w K):=by rw [<- Cm];rfl
theorem QJ8 (az:Array Operand) (ts:Array TypeId):A1 P N ops (⟨some r,.call { callee:=.builtin .len,args:=az,argTypes:=ts },ty,pos,af,none⟩::rest) e w KQ=B9 e az.toList fun vs=>Qq P ts[0]? vs (fun v=>A1 P N ops rest ((r,v)::e) w KQ):=rfl
theorem QF7 (az:Array Operand) (ts:Array TypeId) (jj:Nat) (bb:Bool):A1 P N ops (⟨some r,.call { callee:=.builtin .len,args:=az,argTypes:=ts },ty,pos,af,some (jj,bb)⟩::rest) e w KQ=B1 ops jj bb e (fun e=>B9 e az.toList fun vs=>Qq P ts[0]? vs (fun v=>A1 P N ops rest ((r,v)::e) w KQ)) (fun e=>A1 P N ops rest ((r,undef)::e) w KQ):=by rw [<- Cm];rfl
theorem QJ9 (az:Array Operand) (ts:Array TypeId):Aq P N ops (⟨some r,.call { callee:=.builtin .min,args:=az,argTypes:=ts },ty,pos,af,none⟩::rest) e w K=B9 e az.toList fun vs=>Rv vs (fun v=>Aq P N ops rest ((r,v)::e) w K):=rfl
theorem QKa (az:Array Operand) (ts:Array TypeId):Aq P N ops (⟨some r,.call { callee:=.builtin .max,args:=az,argTypes:=ts },ty,pos,af,none⟩::rest) e w K=B9 e az.toList fun vs=>Rw vs (fun v=>Aq P N ops rest ((r,v)::e) w K):=rfl
theorem Qxx (az:Array Operand) (ts:Array TypeId):Aq P N ops (⟨d,.call { callee:=.builtin .append,args:=az,argTypes:=ts },ty,pos,af,none⟩::rest) e w K=Cq P N ⟨d,.call { callee:=.builtin .append,args:=az,argTypes:=ts },ty,pos,af,none⟩ e w (Aq P N ops rest) K:=rfl
theorem Qxy (az:Array Operand) (ts:Array TypeId):A1 P N ops (⟨d,.call { callee:=.builtin .append,args:=az,argTypes:=ts },ty,pos,af,none⟩::rest) e w KQ=Mv P N ⟨d,.call { callee:=.builtin .append,args:=az,argTypes:=ts },ty,pos,af,none⟩ e w (A1 P N ops rest) KQ:=rfl
theorem QF8 (az:Array Operand) (ts:Array TypeId):Aq P N ops (⟨d,.call { callee:=.builtin .copy,args:=az,argTypes:=ts },ty,pos,af,none⟩::rest) e w K=Cq P N ⟨d,.call { callee:=.builtin .copy,args:=az,argTypes:=ts },ty,pos,af,none⟩ e w (Aq P N ops rest) K:=rfl
theorem QF9 (az:Array Operand) (ts:Array TypeId):A1 P N ops (⟨d,.call { callee:=.builtin .copy,args:=az,argTypes:=ts },ty,pos,af,none⟩::rest) e w KQ=Mv P N ⟨d,.call { callee:=.builtin .copy,args:=az,argTypes:=ts },ty,pos,af,none⟩ e w (A1 P N ops rest) KQ:=rfl
theorem QKb (az:Array Operand) (ts:Array TypeId):A1 P N ops (⟨d,.call { callee:=.builtin .cap,args:=az,argTypes:=ts },ty,pos,af,none⟩::rest) e w KQ=Mv P N ⟨d,.call { callee:=.builtin .cap,args:=az,argTypes:=ts },ty,pos,af,none⟩ e w (A1 P N ops rest) KQ:=rfl
theorem QBn (x:Operand) (az:Array Operand) (ts:Array TypeId):Aq P N ops (⟨d,.call { callee:=.value x,args:=az,argTypes:=ts },ty,pos,af,none⟩::rest) e w K=Cq P N ⟨d,.call { callee:=.value x,args:=az,argTypes:=ts },ty,pos,af,none⟩ e w (Aq P N ops rest) K:=rfl
theorem Qxz (x:Operand) (az:Array Operand) (ts:Array TypeId) (jj:Nat) (bb:Bool):Aq P N ops (⟨d,.call { callee:=.value x,args:=az,argTypes:=ts },ty,pos,af,some (jj,bb)⟩::rest) e w K=B1 ops jj bb e (fun e=>Cq P N ⟨d,.call { callee:=.value x,args:=az,argTypes:=ts },ty,pos,af,some (jj,bb)⟩ e w (Aq P N ops rest) K) (fun e=>Aq P N ops rest (e.put d undef) w K):=by rw [<- Cm];rfl
theorem QBo (x:Operand) (az:Array Operand) (ts:Array TypeId):A1 P N ops (⟨d,.call { callee:=.value x,args:=az,argTypes:=ts },ty,pos,af,none⟩::rest) e w KQ=Mv P N ⟨d,.call { callee:=.value x,args:=az,argTypes:=ts },ty,pos,af,none⟩ e w (A1 P N ops rest) KQ:=rfl
theorem Qx0 (x:Operand) (az:Array Operand) (ts:Array TypeId) (jj:Nat) (bb:Bool):A1 P N ops (⟨d,.call { callee:=.value x,args:=az,argTypes:=ts },ty,pos,af,some (jj,bb)⟩::rest) e w KQ=B1 ops jj bb e (fun e=>Mv P N ⟨d,.call { callee:=.value x,args:=az,argTypes:=ts },ty,pos,af,some (jj,bb)⟩ e w (A1 P N ops rest) KQ) (fun e=>A1 P N ops rest (e.put d undef) w KQ):=by rw [<- Cm];rfl
theorem QBp (T:TypeId):Aq P N ops (⟨d,.alloc T,ty,pos,af,none⟩::rest) e w K=Cq P N ⟨d,.alloc T,ty,pos,af,none⟩ e w (Aq P N ops rest) K:=rfl
theorem QBq (T:TypeId):A1 P N ops (⟨d,.alloc T,ty,pos,af,none⟩::rest) e w KQ=Mv P N ⟨d,.alloc T,ty,pos,af,none⟩ e w (A1 P N ops rest) KQ:=rfl
theorem QKc (T:TypeId) (x:Operand):Aq P N ops (⟨d,.box T x,ty,pos,af,none⟩::rest) e w K=Cq P N ⟨d,.box T x,ty,pos,af,none⟩ e w (Aq P N ops rest) K:=rfl
theorem Qkk (T:TypeId) (n:Nat) (ps:Array (Nat×Operand)):Aq P N ops (⟨d,.buildSlice T n ps,ty,pos,af,none⟩::rest) e w K=Cq P N ⟨d,.buildSlice T n ps,ty,pos,af,none⟩ e w (Aq P N ops rest) K:=rfl
theorem Qic (T:TypeId) (n:Nat) (ps:Array (Nat×Operand)) (jj:Nat) (bb:Bool):Aq P N ops (⟨d,.buildSlice T n ps,ty,pos,af,some (jj,bb)⟩::rest) e w K=B1 ops jj bb e (fun e=>Cq P N ⟨d,.buildSlice T n ps,ty,pos,af,some (jj,bb)⟩ e w (Aq P N ops rest) K) (fun e=>Aq P N ops rest (e.put d undef) w K):=by rw [<- Cm];rfl
theorem Qkl (T:TypeId) (n:Nat) (ps:Array (Nat×Operand)):A1 P N ops (⟨d,.buildSlice T n ps,ty,pos,af,none⟩::rest) e w KQ=Mv P N ⟨d,.buildSlice T n ps,ty,pos,af,none⟩ e w (A1 P N ops rest) KQ:=rfl
theorem QBr (T:TypeId) (x y:Operand):Aq P N ops (⟨d,.store T x y,ty,pos,af,none⟩::rest) e w K=Cq P N ⟨d,.store T x y,ty,pos,af,none⟩ e w (Aq P N ops rest) K:=rfl
theorem QBs (T:TypeId) (x y:Operand):A1 P N ops (⟨d,.store T x y,ty,pos,af,none⟩::rest) e w KQ=Mv P N ⟨d,.store T x y,ty,pos,af,none⟩ e w (A1 P N ops rest) KQ:=rfl
theorem Qms (T:TypeId) (x y:Operand):Aq P N ops (⟨d,.makeSlice T x y,ty,pos,af,none⟩::rest) e w K=Cq P N ⟨d,.makeSlice T x y,ty,pos,af,none⟩ e w (Aq P N ops rest) K:=rfl
theorem Qmt (T:TypeId) (x y:Operand):A1 P N ops (⟨d,.makeSlice T x y,ty,pos,af,none⟩::rest) e w KQ=Mv P N ⟨d,.makeSlice T x y,ty,pos,af,none⟩ e w (A1 P N ops rest) KQ:=rfl
theorem Qkm (x:Operand) (T T':TypeId) (c:Bool):Aq P N ops (⟨d,.typeAssert x T T' c,ty,pos,af,none⟩::rest) e w K=Cq P N ⟨d,.typeAssert x T T' c,ty,pos,af,none⟩ e w (Aq P N ops rest) K:=rfl
theorem QBt (c:Call):Aq P N ops (⟨d,.defer c,ty,pos,af,none⟩::rest) e w K=Cq P N ⟨d,.defer c,ty,pos,af,none⟩ e w (Aq P N ops rest) K:=rfl
theorem QBu (x:Operand):Aq P N ops (⟨d,.panic x,ty,pos,af,none⟩::rest) e w K=Cq P N ⟨d,.panic x,ty,pos,af,none⟩ e w (Aq P N ops rest) K:=rfl
theorem Qx1 (v:Value):Env.put e (some t) v=(t,v)::e:=rfl
theorem Qx2 (v:Value):Env.put e none v=e:=rfl
theorem QKd:Ak e (.tmp t) KV=Fp e t KV:=rfl
theorem QBv (v:Value):Ak e (.const v) KV=KV v:=rfl
theorem Qx3 (g:Nat):Ak e (.global g) KV=KV (.pointer (some ⟨g,0,none⟩)):=rfl
theorem QGa (f:Nat):Ak e (.func f) KV=KV (.func (.func f) #[] #[]):=rfl
theorem QKe (v:Value):Fp ((t,v)::e) t KV=KV v:=by simp [Fp]
theorem QGb (s:Nat) (v:Value):Fp ((s,v)::e) t KV=if t=s then KV v else Fp e t KV:=rfl
theorem QGc {KL:List Value->Prop}:B9 e [] KL=KL []:=rfl
theorem QBw {KL:List Value->Prop} (x:Operand) (xs:List Operand):B9 e (x::xs) KL=Ak e x fun v=>B9 e xs fun vs=>KL (v::vs):=rfl
theorem QGd {KL:List Value->Prop} (xs:List Operand):B9 e (X8 xs).toList KL=B9 e xs KL:=rfl
theorem QGe {KL:List (Nat×Value)->Prop} (xs:List (Nat×Operand)):L9 e (X8 xs).toList KL=L9 e xs KL:=rfl
theorem QBx {KO:Option Value->Prop}:Ic e none KO=KO none:=rfl
theorem QBy {KO:Option Value->Prop} (x:Operand):Ic e (some x) KO=Ak e x fun v=>KO (some v):=rfl
theorem QGf {KL:List (Nat×Value)->Prop}:L9 e [] KL=KL []:=rfl
theorem QBz {KL:List (Nat×Value)->Prop} (i:Nat) (x:Operand) (xs:List (Nat×Operand)):L9 e ((i,x)::xs) KL=Ak e x fun v=>L9 e xs fun vs=>KL ((i,v)::vs):=rfl
theorem QOm {A B:Prop}:Ni (.bool true) A B=A:=rfl
theorem QOn {A B:Prop}:Ni (.bool false) A B=B:=rfl
theorem QOo (T:TypeId) (ts:List TypeId) (v:Value):Qq P (X8 (T::ts))[0]? [v] KV=Fq P T v KV:=by simp [Qq]
theorem QKf (T:TypeId) (x y:Operand) (k:IntKind) (a b:Int):A8 P .add T x y (.int k a) (.int k b) w KV=Cy k (a+b) KV:=by simp [A8,Dw,Kg]
theorem QKg (T:TypeId) (x y:Operand) (k:IntKind) (a b:Int):A8 P .sub T x y (.int k a) (.int k b) w KV=Cy k (a - b) KV:=by simp [A8,Dw,Kg]
theorem QKh (T:TypeId) (x y:Operand) (k:IntKind) (a b:Int):A8 P .mul T x y (.int k a) (.int k b) w KV=Cy k (a * b) KV:=by simp [A8,Dw,Kg]
theorem QKi (T:TypeId) (x y:Operand) (k:IntKind) (a b:Int):A8 P .quo T x y (.int k a) (.int k b) w KV=(0<=a/\0 < b/\Cy k (a / b) KV):=by simp [A8,Dw,Kg]
theorem QKj (T:TypeId) (x y:Operand) (k:IntKind) (a b:Int):A8 P .rem T x y (.int k a) (.int k b) w KV=(0<=a/\0 < b/\KV (.int k (a % b))):=by simp [A8,Dw,Kg]
theorem QKk (T:TypeId) (x y:Operand) (k:IntKind) (a b:Int):A8 P .and T x y (.int k a) (.int k b) w KV=(Fit0 k a/\Fit0 k b/\KV (.int k ((a.toNat &&& b.toNat:Nat):Int))):=by simp [A8,Dw,Kg,Ru]
theorem QOp (T:TypeId) (x y:Operand) (k:IntKind) (a b:Int):A8 P .or T x y (.int k a) (.int k b) w KV=(Fit0 k a/\Fit0 k b/\KV (.int k ((a.toNat ||| b.toNat:Nat):Int))):=by simp [A8,Dw,Kg,Ru]
theorem QKl (T:TypeId) (x y:Operand) (k:IntKind) (a b:Int):A8 P .xor T x y (.int k a) (.int k b) w KV=(Fit0 k a/\Fit0 k b/\KV (.int k ((a.toNat ^^^ b.toNat:Nat):Int))):=by simp [A8,Dw,Kg,Ru]
theorem QKm (T:TypeId) (x y:Operand) (k:IntKind) (a b:Int):A8 P .eql T x y (.int k a) (.int k b) w KV=KV (.bool (decide (a=b))):=by simp [A8,Dw,Kg]
theorem QFe (T:TypeId) (x y:Operand) (k:IntKind) (a b:Int):A8 P .neq T x y (.int k a) (.int k b) w KV=KV (.bool (decide (¬ a=b))):=by simp [A8,Dw,Kg]
theorem QFf (T:TypeId) (x y:Operand) (k:IntKind) (a b:Int):A8 P .lss T x y (.int k a) (.int k b) w KV=KV (.bool (decide (a < b))):=by simp [A8,Dw,Kg]
theorem QKn (T:TypeId) (x y:Operand) (k:IntKind) (a b:Int):A8 P .leq T x y (.int k a) (.int k b) w KV=KV (.bool (decide (a<=b))):=by simp [A8,Dw,Kg]
theorem Qua (T:TypeId) (x y:Operand) (k:IntKind) (a b:Int):A8 P .gtr T x y (.int k a) (.int k b) w KV=KV (.bool (decide (b < a))):=by simp [A8,Dw,Kg]
theorem QFg (T:TypeId) (x y:Operand) (k:IntKind) (a b:Int):A8 P .geq T x y (.int k a) (.int k b) w KV=KV (.bool (decide (b<=a))):=by simp [A8,Dw,Kg]
theorem QKo (T:TypeId) (x y:Operand) (k k':IntKind) (a b:Int):A8 P .shl T x y (.int k a) (.int k' b) w KV=(0<=b/\Cy k (a * 2 ^ Bx k b) KV):=by simp [A8,Dw]
theorem QKp (T:TypeId) (x y:Operand) (k k':IntKind) (a b:Int):A8 P .shr T x y (.int k a) (.int k' b) w KV=(0<=b/\KV (.int k (a / 2 ^ Bx k b))):=by simp [A8,Dw]
theorem QGg (T:TypeId) (x y:Operand) (s u:ByteArray):A8 P .add T x y (.string s) (.string u) w KV=(((Ba s).length+(Ba u).length:Int)<=9223372036854775807/\KV (Aa (Ba s++Ba u))):=by simp [A8,Dw,Ob]
theorem QGh (T:TypeId) (x y:Operand) (s u:ByteArray):A8 P .eql T x y (.string s) (.string u) w KV=KV (.bool (decide (Ba s=Ba u))):=by simp [A8,Dw,Ob]
theorem QAb (T:TypeId) (x y:Operand) (s u:ByteArray):A8 P .neq T x y (.string s) (.string u) w KV=KV (.bool (decide (¬ Ba s=Ba u))):=by simp [A8,Dw,Ob]
theorem QGi (T:TypeId) (x y:Operand) (s u:ByteArray):A8 P .lss T x y (.string s) (.string u) w KV=KV (.bool (Op.bytesLess (Ba s) (Ba u))):=by simp [A8,Dw,Ob]
theorem QGj (T:TypeId) (x y:Operand) (s u:ByteArray):A8 P .leq T x y (.string s) (.string u) w KV=KV (.bool (! Op.bytesLess (Ba u) (Ba s))):=by simp [A8,Dw,Ob]
theorem QGk (T:TypeId) (x y:Operand) (s u:ByteArray):A8 P .gtr T x y (.string s) (.string u) w KV=KV (.bool (Op.bytesLess (Ba u) (Ba s))):=by simp [A8,Dw,Ob]
theorem QGl (T:TypeId) (x y:Operand) (s u:ByteArray):A8 P .geq T x y (.string s) (.string u) w KV=KV (.bool (! Op.bytesLess (Ba s) (Ba u))):=by simp [A8,Dw,Ob]
theorem QGm (T:TypeId) (x y:Operand) (a b:Bool) (h:P.underlying T=some .bool):A8 P .eql T x y (.bool a) (.bool b) w KV=KV (.bool (decide (a=b))):=by simp [A8,Dw,h]
theorem QGn (T:TypeId) (x y:Operand) (a b:Bool) (h:P.underlying T=some .bool):A8 P .neq T x y (.bool a) (.bool b) w KV=KV (.bool (decide (¬ a=b))):=by simp [A8,Dw,h]
theorem QKq (n:Int):Cy .i64 n KV=(I64 n/\KV (.int .i64 n)):=rfl
theorem QOq (n:Int):Cy .u8 n KV=KV (.int .u8 (n % 256)):=rfl
theorem QKr (n:Int):Cy .u16 n KV=KV (.int .u16 (n % 65536)):=rfl
theorem QKs (n:Int):Cy .u32 n KV=KV (.int .u32 (n % 4294967296)):=rfl
theorem QKt (n:Int):Cy .u64 n KV=KV (.int .u64 (n % 18446744073709551616)):=rfl
theorem QKu (b:Bool):Ml .not (.bool b) KV=KV (.bool (! b)):=rfl
theorem QKv (k:IntKind) (n:Int):Ml .neg (.int k n) KV=Cy k (-n) KV:=rfl
theorem QKw (n:Int):Ml .xor (.int .u32 n) KV=((0<=n/\n<=4294967295)/\KV (.int .u32 (4294967295 - n))):=rfl
theorem QKx (a:Addr):M2 (.pointer (some a)) KV=KV (.pointer (some a)):=rfl
theorem QOr (f:Nat) (p c:Array Value):M2 (.func (.func f) p c) KV=KV (.func (.func f) p c):=rfl
theorem QOs (T:Nat) (v:Value):M2 (.iface T v) KV=KV (.iface T v):=rfl
theorem mn2 (k k':IntKind) (x y:Int):Rv [.int k x,.int k' y] KV=KV (.int k (min x y)):=rfl
theorem mn3 (k k' k'':IntKind) (x y z:Int):Rv [.int k x,.int k' y,.int k'' z] KV=KV (.int k (min (min x y) z)):=rfl
theorem mx2 (k k':IntKind) (x y:Int):Rw [.int k x,.int k' y] KV=KV (.int k (max x y)):=rfl
theorem mx3 (k k' k'':IntKind) (x y z:Int):Rw [.int k x,.int k' y,.int k'' z] KV=KV (.int k (max (max x y) z)):=rfl
theorem QGo (T:TypeId) (s:ByteArray) (h:P.underlying T=some .string):Fq P T (.string s) KV=KV (.int .i64 (Ba s).length):=by simp [Fq,h]
theorem Nj (T E:TypeId) (a:Option Addr) (n c:Nat) (h:P.underlying T=some (.slice E)):Fq P T (.slice a n c) KV=KV (.int .i64 n):=by simp [Fq,h]
theorem QGp (T:TypeId) (s:ByteArray) (k:IntKind) (n:Int) (h:P.underlying T=some .string):D4 P T (.string s) (.int k n) KV=((0<=n/\n < (Ba s).length)/\KV (.int .u8 ((Ba s).getD n.toNat 0).toNat)):=by simp [D4,h]
theorem QKy (T:TypeId) (s:ByteArray) (h:P.underlying T=some .string):B7 P T (.string s) none none KV=KV (.string s):=by simp [B7,h]
theorem QKz (T:TypeId) (s:ByteArray) (k:IntKind) (l:Int) (h:P.underlying T=some .string):B7 P T (.string s) (some (.int k l)) none KV=((0<=l/\l<=(Ba s).length)/\KV (Aa ((Ba s).drop l.toNat))):=by simp [B7,h]
theorem QK0 (T:TypeId) (s:ByteArray) (k:IntKind) (l:Int) (h:P.underlying T=some .string):B7 P T (.string s) none (some (.int k l)) KV=((0<=l/\l<=(Ba s).length)/\KV (Aa ((Ba s).take l.toNat))):=by simp [B7,h]
theorem QK1 (T:TypeId) (s:ByteArray) (k k':IntKind) (l m:Int) (h:P.underlying T=some .string):B7 P T (.string s) (some (.int k l)) (some (.int k' m)) KV=((0<=l/\l<=m/\m<=(Ba s).length)/\KV (Aa (((Ba s).drop l.toNat).take (m.toNat - l.toNat)))):=by simp [B7,h]
theorem Qub (T E:TypeId) (a:Option Addr) (n c z:Nat) (h:P.underlying T=some (.slice E)) (hz:P.szo E=some z):B7 P T (.slice a n c) none none KV=(n<=c/\KV (.slice a n c)):=by simp [B7,h,hz]
theorem Quc (T E:TypeId) (a:Option Addr) (n c z:Nat) (k:IntKind) (l:Int) (h:P.underlying T=some (.slice E)) (hz:P.szo E=some z):B7 P T (.slice a n c) (some (.int k l)) none KV=((0<=l/\l<=n/\n<=c)/\KV (.slice (if c=l.toNat then a else a.map (·.add (l.toNat * z))) (n - l.toNat) (c - l.toNat))):=by simp [B7,h,hz]
theorem Qud (T E:TypeId) (a:Option Addr) (n c z:Nat) (k:IntKind) (l:Int) (h:P.underlying T=some (.slice E)) (hz:P.szo E=some z):B7 P T (.slice a n c) none (some (.int k l)) KV=((0<=l/\l<=c)/\KV (.slice a l.toNat c)):=by simp [B7,h,hz]
theorem Que (T E:TypeId) (a:Option Addr) (n c z:Nat) (k k':IntKind) (l m:Int) (h:P.underlying T=some (.slice E)) (hz:P.szo E=some z):B7 P T (.slice a n c) (some (.int k l)) (some (.int k' m)) KV=((0<=l/\l<=m/\m<=c)/\KV (.slice (if c=l.toNat then a else a.map (·.add (l.toNat * z))) (m.toNat - l.toNat) (c - l.toNat))):=by simp [B7,h,hz]
theorem Kb (s d:TypeId) (ds:TypeDesc) (k k':IntKind) (n:Int) (h:P.underlying s=some ds) (h':P.underlying d=some (.int k)):Dl P s d (.int k' n) w KV=Cy k n KV:=by simp [Dl,h,h']
theorem QGq (s d E:TypeId) (a:Option Addr) (n c:Nat) (h:P.underlying s=some (.slice E)) (h':P.underlying d=some .string) (h'':P.underlying E=some (.int .u8)):Dl P s d (.slice a n c) w KV=∃ l,Sf w a n l/\KV (Aa l):=by simp [Dl,h,h',h'']
theorem Nk (T E:TypeId) (a:Addr) (n c z:Nat) (k:IntKind) (i:Int) (h:P.underlying T=some (.slice E)) (hz:P.szo E=some z):Cu P T (.slice (some a) n c) (.int k i) KV=((0<=i/\i < n)/\KV (.pointer (some (a.add (i.toNat * z))))):=by simp [Cu,h,hz]
theorem Md (T E:TypeId) (a:Addr) (n z:Nat) (k:IntKind) (i:Int) (h:P.underlying T=some (.array n E)) (hz:P.szo E=some z):Cu P T (.pointer (some a)) (.int k i) KV=((0<=i/\i < n)/\KV (.pointer (some (a.add (i.toNat * z))))):=by simp [Cu,h,hz]
theorem Ce (S f:Nat) (a:Addr) {fields:Array Field}{fd:Field}{m:Nat} (h:P.underlying S=some (.struct fields)) (hf:fields[f]? = some fd) (hz:P.szo fd.type=some (m+1)):By P S (.pointer (some a)) f KV=KV (.pointer (some (a.add fd.offset))):=by simp [By,h,hf,hz]
theorem Qf (T:TypeId) (a:Addr) (k:IntKind) (h:P.underlying T=some (.int k)):Bf P T (.pointer (some a)) w KV=∃ v,w.cell? a=some v/\KV v:=by simp [Bf,h]
theorem QB0 (T:TypeId) (a:Addr) (h:P.underlying T=some .bool):Bf P T (.pointer (some a)) w KV=∃ v,w.cell? a=some v/\KV v:=by simp [Bf,h]
theorem QGr (T:TypeId) (a:Addr) (h:P.underlying T=some .string):Bf P T (.pointer (some a)) w KV=∃ v,w.cell? a=some v/\KV v:=by simp [Bf,h]
theorem Qr (T E:TypeId) (a:Addr) (h:P.underlying T=some (.slice E)):Bf P T (.pointer (some a)) w KV=∃ v,w.cell? a=some v/\KV v:=by simp [Bf,h]
theorem QAc (T E:TypeId) (a:Addr) (h:P.underlying T=some (.pointer E)):Bf P T (.pointer (some a)) w KV=∃ v,w.cell? a=some v/\KV v:=by simp [Bf,h]
theorem QFh (T:TypeId) (ps rs:Array TypeId) (vr:Bool) (a:Addr) (h:P.underlying T=some (.func ps rs vr)):Bf P T (.pointer (some a)) w KV=∃ v,w.cell? a=some v/\KV v:=by simp [Bf,h]
theorem N4 (T n:TypeId) (a:Addr) (fs:Array Field) (h:P.underlying T=some (.struct fs)) (hz:P.szo T=some n):Bf P T (.pointer (some a)) w KV=∃ cs:List Value,(cs.length=n/\Reads w a cs)/\KV (.agg cs.toArray):=by simp [Bf,h,hz]
theorem QAp (T n m E:TypeId) (a:Addr) (h:P.underlying T=some (.array m E)) (hz:P.szo T=some n):Bf P T (.pointer (some a)) w KV=∃ cs:List Value,(cs.length=n/\Reads w a cs)/\KV (.agg cs.toArray):=by simp [Bf,h,hz]
end
theorem QGs (l:List UInt8):Ba (ByteArray.mk l.toArray)=l:=by simp [Ba]
attribute [go_sem ↓] QFw QA5 QFv QA4 QFx QA6 QFs QFt QA2 QA3 QOk QOl Vx Vn QFu Vy Vo Qxn Qul QJ1 QJ2 QJ3 QJ4 QJ5 QJ6 QFy QA7 QFz QA8 Qxo Qxp QF0 QA9 QF1 QBa QBb Qxq QBc Qxr QF2 QBd QF3 QBe Qum Qqc Qqd Qun Qqe Qqf QBf Qxs QBg Qxt Qmm Qkg Qmn Qkh Qmo Qki Qmp Qkj QBh Qxu QBi Qxv Quo Qup Qe1 Qqg QBj Qxw QBk QF4 QBl QF5 QBm Qqh Qmq Qqi Qmr QJ7 QF6 QJ8 QF7 QJ9 QKa Qxx Qxy QF8 QF9 QKb QBn Qxz QBo Qx0 QBp QBq QKc Qkk Qic Qkl QBr QBs Qms Qmt Qkm QBt QBu Qx1 Qx2 QKd QBv Qx3 QGa QKe QGb QGc QBw QGd QGe QBx QBy QGf QBz QOm QOn QOo QKf QKg QKh QKi QKj QKk QOp QKl QKm QFe QFf QKn Qua QFg QKo QKp QGg QGh QAb QGi QGj QGk QGl QKq QOq QKr QKs QKt QKu QKv QKw QKx QOr QOs mn2 mn3 mx2 mx3
attribute [go_sem] QGs Xh Xz X4 List.getElem_cons_zero List.getElem_cons_succ
structure Upd (B:List Nat) (w w':World):Prop where
 os:w'.os=w.os
 tape:w'.tape=w.tape
 output:w'.output=w.output
 size:w.heap.size<=w'.heap.size
 block:∀ k,k < w.heap.size->k ∉ B->w'.heap[k]? = w.heap[k]?
theorem Upd.refl (B:List Nat) (w:World):Upd B w w:=⟨rfl,rfl,rfl,Y6 _,fun _ _ _=>rfl⟩
theorem Upd.trans {B B':List Nat}{a b c:World} (h:Upd B a b) (k:Upd B' b c) (hB:∀ x∈B',x∈B∨a.heap.size<=x):Upd B a c :=
 ⟨k.os.trans h.os,k.tape.trans h.tape,k.output.trans h.output,Nat.le_trans h.size k.size,fun i hi hn =>
  (k.block i (Xb hi h.size) (fun hx=>by rcases hB i hx with h1 | h1;exact hn h1;omega)).trans (h.block i hi hn)⟩
theorem Upd.below {w w':World} (h:Upd [] w w'):RowKit.Below w.heap.size w w':=⟨h.os,h.tape,h.output,h.size,fun k hk=>h.block k hk (by simp)⟩
theorem Upd.drewN {B:List Nat}{w w':World} (h:Upd B w w') (n m:Nat):Upd B (w.drewN n) (w'.drewN m):=⟨h.os,h.tape,h.output,h.size,h.block⟩
theorem Upd.mono {B B':List Nat}{w w':World} (h:Upd B w w') (hs:∀ x∈B,x∈B'):Upd B' w w':=⟨h.os,h.tape,h.output,h.size,fun k hk hn=>h.block k hk fun hx=>hn (hs k hx)⟩
structure Res where
 foot:List Nat
 holds:World->Prop
 loc:∀ w w',(∀ b∈foot,w'.heap[b]? = w.heap[b]?)->holds w->holds w'
def Apart (r s:Res):Prop:=∀ b∈r.foot,b ∉ s.foot
structure Heap (w0:World) (B:List Nat) (w:World) (G:List Res):Prop where
 upd:Upd B w0 w
 holds:∀ r∈G,r.holds w
 foot:∀ r∈G,∀ b∈r.foot,(b∈B∨w0.heap.size<=b)/\b < w.heap.size
 apart:G.Pairwise Apart
theorem Apart.symm {r s:Res} (h:Apart r s):Apart s r:=fun b hb hr=>h b hr hb
theorem Heap.start (w:World):Heap w [] w []:=⟨.refl _ _,by simp,by simp,.nil⟩
theorem Heap.one {w:World}{r:Res} (h:r.holds w) (hf:∀ b∈r.foot,b < w.heap.size):Heap w r.foot w [r] :=
 ⟨.refl _ _,by simpa using h,by simpa using fun b hb=>⟨.inl hb,hf b hb⟩,by simp⟩
theorem Heap.drewN {w0 w:World}{B:List Nat}{G:List Res} (h:Heap w0 B w G) (n m:Nat):Heap (w0.drewN n) B (w.drewN m) G :=
 ⟨h.upd.drewN n m,fun r hr=>r.loc w _ (fun _ _=>rfl) (h.holds r hr),h.foot,h.apart⟩
theorem Heap.step {w0 w w':World}{B S:List Nat}{G G':List Res} (h:Heap w0 B w G) (hs:Heap w S w' G') (hS:∀ b∈S,(b∈B∨w0.heap.size<=b)/\∀ r∈G,b ∉ r.foot):Heap w0 B w' (G'++G):=by
 refine ⟨h.upd.trans hs.upd fun x hx=>(hS x hx).1,?_,?_,?_⟩
 ·
  intro r hr;rcases Y1.1 hr with hr | hr
  ·
   exact hs.holds r hr
  refine r.loc w w' (fun b hb=>hs.upd.block b (h.foot r hr b hb).2 fun hx=>(hS b hx).2 r hr hb) (h.holds r hr)
 ·
  intro r hr b hb;rcases Y1.1 hr with hr | hr
  ·
   obtain ⟨h1,h2⟩:=hs.foot r hr b hb;refine ⟨?_,h2⟩;rcases h1 with h1 | h1
   ·
    exact (hS b h1).1
   exact .inr (Nat.le_trans h.upd.size h1)
  exact ⟨(h.foot r hr b hb).1,Xb (h.foot r hr b hb).2 hs.upd.size⟩
 rw [Xi];refine ⟨hs.apart,h.apart,fun r hr s hs' b hb hbs=>?_⟩;rcases (hs.foot r hr b hb).1 with h1 | h1
 ·
  exact (hS b h1).2 s hs' hbs
 have:=(h.foot s hs' b hbs).2;omega
theorem Heap.call0 {w0 w w':World}{B:List Nat}{G G':List Res} (h:Heap w0 B w G) (hs:Heap w [] w' G'):Heap w0 B w' (G'++G):=h.step hs (by simp)
theorem Heap.sub {w0 w:World}{B:List Nat}{G G':List Res} (h:Heap w0 B w G) (hs:G'.Sublist G):Heap w0 B w G' :=
 ⟨h.upd,fun r hr=>h.holds r (hs.subset hr),fun r hr=>h.foot r (hs.subset hr),h.apart.sublist hs⟩
theorem Heap.perm {w0 w:World}{B:List Nat}{G G':List Res} (h:Heap w0 B w G) (hs:G.Perm G'):Heap w0 B w G' :=
 ⟨h.upd,fun r hr=>h.holds r (hs.mem_iff.2 hr),fun r hr=>h.foot r (hs.mem_iff.2 hr),(hs.pairwise_iff fun h=>h.symm).1 h.apart⟩
theorem Heap.step1 {w0 w w':World}{B:List Nat}{G1 G2 G':List Res}{r r':Res} (h:Heap w0 B w (G1++r::G2)) (hs:Heap w r.foot w' (r'::G')):Heap w0 B w' (G'++(G1++r'::G2)):=by
 have hp:(G1++r::G2).Perm (r::(G1++G2)):=Xt;have h1:=h.perm hp;have ha:=h1.apart;rw [Yj] at ha;have h2:Heap w0 B w (G1++G2):=h1.sub (X0 _ _);have h3:=h2.step hs fun b hb=>⟨(h1.foot r (by simp) b hb).1,fun s hs hbs=>ha.1 s hs b hb hbs⟩;refine h3.perm ?_;simp only [List.cons_append];refine List.Perm.trans ?_ (List.perm_append_left_iff G' |>.2 (Xt (l₁:=G1) (l₂:=G2) (a:=r')).symm);exact (Xt (l₁:=G') (l₂:=G1++G2) (a:=r')).symm
theorem Quq {α:Type} (G:List α) (i:Nat) (r r':α) (h:G[i]? = some r):∃ G1 G2,G=G1++r::G2/\G.set i r'=G1++r'::G2:=by
 induction G generalizing i with
 | nil=>simp at h
 | cons a l ih =>
  cases i with
  | zero=>simp at h;subst h;exact ⟨[],l,rfl,rfl⟩
  | succ i =>
   obtain ⟨G1,G2,e1,e2⟩:=ih i (by simpa using h);exact ⟨a::G1,G2,by simp [e1],by simp [e2]⟩
theorem Heap.call1 {w0 w w':World}{B:List Nat}{G G':List Res}{r r':Res} (i:Nat) (h:Heap w0 B w G) (hi:G[i]? = some r) (hs:Heap w r.foot w' (r'::G')):Heap w0 B w' (G'++G.set i r'):=by
 obtain ⟨G1,G2,e1,e2⟩:=Quq G i r r' hi;rw [e2];rw [e1] at h;exact h.step1 hs
theorem Heap.at {w0 w:World}{B:List Nat}{G:List Res}{r:Res} (h:Heap w0 B w G) (i:Nat) (hi:G[i]? = some r):r.holds w:=h.holds r (Yl hi)
theorem Heap.set {w0 w w':World}{B:List Nat}{G:List Res}{r r':Res} (i:Nat) (h:Heap w0 B w G) (hi:G[i]? = some r) (hu:Upd r.foot w w') (hr:r'.holds w') (hf:∀ b∈r'.foot,(b∈r.foot∨w.heap.size<=b)/\b < w'.heap.size) :
  Heap w0 B w' (G.set i r') :=
 h.call1 (G':=[]) i hi ⟨hu,by simpa using hr,by simpa using hf,by simp⟩
theorem Heap.view {w0 w:World}{B:List Nat}{G:List Res}{r r':Res} (i:Nat) (h:Heap w0 B w G) (hi:G[i]? = some r) (hr:r.holds w->r'.holds w) (hf:∀ b∈r'.foot,b∈r.foot):Heap w0 B w (G.set i r') :=
 h.set i hi (.refl _ _) (hr (h.at i hi)) fun b hb=>⟨.inl (hf b hb),(h.foot r (Yl hi) b (hf b hb)).2⟩
theorem Heap.new {w0 w:World}{B:List Nat}{G:List Res}{r:Res} (o:Obj) (h:Heap w0 B w G) (hr:r.holds (w.alloc o)) (hf:∀ b∈r.foot,b=w.heap.size):Heap w0 B (w.alloc o) (r::G):=by
 refine h.call0 (G':=[r]) ⟨⟨rfl,rfl,rfl,by simp,fun k hk _=>RowKit.Below.heap_alloc w o k hk⟩,by simpa using hr,?_,by simp⟩;intro s hs b hb;simp at hs;subst hs;rw [hf b hb];simp
theorem Heap.reads {w0 w:World}{B:List Nat}{G:List Res} (h:Heap w0 B w G) {a:Addr}{xs:List Value} (hr:Reads w0 a xs) (hb:a.block ∉ B):Reads w a xs:=by
 intro j u hu;have h1:=hr j u hu;have e:(a.add j).block=a.block:=by unfold Addr.add;split <;> rfl
 have hlt:a.block < w0.heap.size:=by
  have:=World.block_lt_of_cell? w0 _ h1
  rwa [e] at this
 rw [World.cell?_of_block (w:=w0)]
 ·
  exact h1
 rw [e];exact h.upd.block _ hlt hb
def RS (w:World) (a:Option Addr) (n sz:Nat) (xs:List Value):Prop:=xs.length=n * sz/\(a=none->n=0)/\∀ ad,a=some ad->Reads w ad xs
theorem Heap.rs {w0 w:World}{B:List Nat}{G:List Res} (h:Heap w0 B w G) {a:Option Addr}{n sz:Nat}{xs:List Value} (hr:RS w0 a n sz xs) (hb:∀ ad,a=some ad->ad.block ∉ B):RS w a n sz xs :=
 ⟨hr.1,hr.2.1,fun ad ha=>h.reads (hr.2.2 ad ha) (hb ad ha)⟩
theorem Heap.rs' {w0 w:World}{G:List Res} (h:Heap w0 [] w G) {a:Option Addr}{n sz:Nat}{xs:List Value} (hr:RS w0 a n sz xs):RS w a n sz xs:=h.rs hr (by simp)
def Bb (l:List Int):List Value:=l.map fun n=>.int .i64 n
theorem Pw (l:List UInt8):(An l).length=l.length:=by simp [An]
theorem Tx (l:List Int):(Bb l).length=l.length:=by simp [Bb]
theorem K4 {w:World}{a:Option Addr}{n:Nat}{l:List UInt8} (h:RS w a n 1 (An l)):Sf w a n l :=
 ⟨by have:=h.1;simp [An] at this;exact this,h.2.1,h.2.2⟩
def Wf (fz:Nat×Nat) (n:Nat):Prop:=∀ j,j < n->¬ (fz.1<=j/\j < fz.2)
def Qx4 (T sz:Nat) (a:Option Addr) (n cap:Nat) (xs:List Value) (w:World):Prop :=
 xs.length=n * sz/\n<=cap/\cap<=maxLen /\
 ((a=none/\n=0/\cap=0)∨∃ g rest fz,a=some ⟨g,0,none⟩/\w.heap[g]? = some (.cells (xs++rest).toArray T fz)/\(xs++rest).length=cap * sz/\Wf fz (cap * sz))
def Res.row (T sz:Nat) (a:Option Addr) (n cap:Nat) (xs:List Value):Res where
 foot:=(a.map (·.block)).toList
 holds:=Qx4 T sz a n cap xs
 loc:=by
  rintro w w' hb ⟨h1,h2,h3,h4⟩;refine ⟨h1,h2,h3,?_⟩;rcases h4 with h4 | ⟨g,rest,fz,rfl,hg,h5⟩
  ·
   exact .inl h4
  exact .inr ⟨g,rest,fz,rfl,by rw [hb g (by simp)];exact hg,h5⟩
theorem Qlw (T sz:Nat) (w:World):(Res.row T sz none 0 0 []).holds w:=⟨by simp,Y6 _,by simp [maxLen],.inl ⟨rfl,rfl,rfl⟩⟩
theorem Az {T sz n cap:Nat}{a:Option Addr}{xs:List Value}{w:World} (h:(Res.row T sz a n cap xs).holds w):RS w a n sz xs:=by
 obtain ⟨h1,h2,h3,h4⟩:=h;refine ⟨h1,?_,?_⟩
 ·
  rintro rfl;rcases h4 with h4 | ⟨g,rest,fz,h,_⟩
  ·
   exact h4.2.1
  cases h
 rintro ad rfl;rcases h4 with h4 | ⟨g,rest,fz,h,hg,_⟩
 ·
  cases h4.1
 cases h;intro j u hu;have hadd:(⟨g,0,none⟩:Addr).add j=⟨g,j,none⟩:=by unfold Addr.add;split <;> simp_all
 rw [hadd,cell_of_row w g j _ T fz hg];have hlt:j < xs.length:=(Yp.1 hu).1;simp [Y9 hlt,hu]
theorem QB1 {T sz n cap:Nat}{a:Option Addr}{xs:List Value}{w:World} (h:(Res.row T sz a n cap xs).holds w):n<=cap/\cap<=maxLen/\(a=none->n=0/\cap=0):=by
 obtain ⟨h1,h2,h3,h4⟩:=h;refine ⟨h2,h3,?_⟩;rintro rfl;rcases h4 with h4 | ⟨g,rest,fz,h,_⟩
 ·
  exact h4.2
 cases h
end Go.Eng
namespace Go
def Program.zeroOf (P:Program) (T:TypeId):Option Value:=((P.info? T).bind (·.zero))
end Go
namespace Go.Eng
open Go
section
variable {P:Program}{N:Nat}{d:Option Tmp}{ty:Nat}{pos:String}{af:Array Edge}{gd:Option (Nat×Bool)}{e:Env}{w:World}{R:Env->World->(Env->World->Prop)->Prop}{RQ:Env->World->(Env->Prop)->Prop}{K:Env->World->Prop}{KQ:Env->Prop}
theorem M8 {o:Oper}{C:Value->World->Prop} (h:∀ a n,Fits N e a->∃ v w' m,(execOp a.eval o).run P (w.drewN n)=.ok (.value v) (w'.drewN m)/\C v w'):Mem P N o e w C:=by
 intro a n next Q ha hK;obtain ⟨v,w',m,hr,hC⟩:=h a n ha;unfold Oper.wp;rw [hr];exact hK v w' m hC
theorem Qmu {o:Oper}{C:Value->World->Prop} (h:∀ a n,Fits N e a->∃ w' m,(execOp a.eval o).run P (w.drewN n)=.ok .skip (w'.drewN m)/\C undef w'):Mem P N o e w C:=by
 intro a n next Q ha hK;obtain ⟨w',m,hr,hC⟩:=h a n ha;unfold Oper.wp;rw [hr];exact hK _ w' m hC
def CallK (P:Program) (f:FuncId) (args:List Value) (w:World) (C:Value->World->Prop):Prop:=∃ F,Does P f args.toArray w F/\∀ v w',F v w'->C v w'
theorem CallK.mk {f:FuncId}{args:List Value}{C F:Value->World->Prop} (h:Does P f args.toArray w F) (hc:∀ v w',F v w'->C v w'):CallK P f args w C:=⟨F,h,hc⟩
theorem Ac {f:FuncId}{az:Array Operand}{ts:Array TypeId} (hf:∀ args w,(callFunc f args).run P w=.ok (.enter f args) w)
  (h:B9 e az.toList fun vs=>CallK P f vs w fun v w'=>R (e.put d v) w' K) :
  Cq P N ⟨d,.call { callee:=.value (.func f),args:=az,argTypes:=ts },ty,pos,af,gd⟩ e w R K:=by
 intro a n next Q ha hK;have h1:=Lk (K:=fun vs=>CallK P f vs w fun v w'=>R (e.put d v) w' K) ha h;obtain ⟨F,hD,hC⟩:=h1;have hm:(az.map a.eval)=(az.toList.map a.eval).toArray:=Ms az a
 have hrun:(execOp a.eval ⟨d,.call { callee:=.value (.func f),args:=az,argTypes:=ts },ty,pos,af,gd⟩).run P (w.drewN n)=.ok (.enter f (az.toList.map a.eval).toArray) (w.drewN n):=by
  simp only [execOp,resolve,Act.eval,Deferred.ofValue,Yc,Yb,Ya,invoke];simp [hm,hf]
 unfold Oper.wp;rw [hrun];exact (hD n).mono fun e' w' ⟨v,w'',m,he,hw,hF⟩=>by subst he;subst hw;exact hK v w'' m (hC v w'' hF)
def QCallK (P:Program) (f:FuncId) (args:List Value) (w:World) (C:Value->Prop):Prop:=∃ v,Does P f args.toArray w (fun v' w'=>w'=w/\v'=v)/\C v
theorem QCallK.mk {f:FuncId}{args:List Value}{C:Value->Prop}{v:Value} (h:Does P f args.toArray w (fun v' w'=>w'=w/\v'=v)) (hc:C v):QCallK P f args w C:=⟨v,h,hc⟩
theorem Qmv {f:FuncId}{az:Array Operand}{ts:Array TypeId} (hf:∀ args w,(callFunc f args).run P w=.ok (.enter f args) w)
  (h:B9 e az.toList fun vs=>QCallK P f vs w fun v=>RQ (e.put d v) w KQ) :
  Mv P N ⟨d,.call { callee:=.value (.func f),args:=az,argTypes:=ts },ty,pos,af,gd⟩ e w RQ KQ:=by
 obtain ⟨vs,hvs,v,hD,hC⟩:∃ vs,(∀ a,Fits N e a->az.toList.map a.eval=vs)/\QCallK P f vs w fun v=>RQ (e.put d v) w KQ:=by
  have key:∀ (xs:List Operand) (K:List Value->Prop),B9 e xs K->∃ vs,(∀ a,Fits N e a->xs.map a.eval=vs)/\K vs:=by
   intro xs
   induction xs with
   | nil=>intro K h;exact ⟨[],fun _ _=>rfl,h⟩
   | cons x xs ih =>
    intro K h
    have:∃ v,(∀ a,Fits N e a->a.eval x=v)/\B9 e xs fun vs=>K (v::vs):=by
     simp only [B9] at h;cases x with
     | tmp t=>obtain ⟨v,hv,hK⟩:=Qdm h;exact ⟨v,fun a ha=>ha.at_ t v hv,hK⟩
     | const v=>exact ⟨v,fun _ _=>rfl,h⟩
     | global g=>exact ⟨_,fun _ _=>rfl,h⟩
     | func f=>exact ⟨_,fun _ _=>rfl,h⟩
    obtain ⟨v,hv,h⟩:=this;obtain ⟨vs,hvs,hK⟩:=ih _ h;exact ⟨v::vs,fun a ha=>by simp [hv a ha,hvs a ha],hK⟩
  exact key _ _ h
 refine ⟨v,fun a n ha=>?_,hC⟩;have hm:(az.map a.eval)=vs.toArray:=by rw [Ms az a,hvs a ha]
 have hrun:(execOp a.eval ⟨d,.call { callee:=.value (.func f),args:=az,argTypes:=ts },ty,pos,af,gd⟩).run P (w.drewN n)=.ok (.enter f vs.toArray) (w.drewN n):=by
  simp only [execOp,resolve,Act.eval,Deferred.ofValue,Yc,Yb,Ya,invoke];simp [hm,hf]
 unfold Oper.quietAt;rw [hrun];exact ⟨rfl,(hD n).mono fun e' w' ⟨v',w'',m,he,hw,hF⟩=>by obtain ⟨rfl,rfl⟩:=hF;exact ⟨he,m,hw⟩⟩
theorem M9 (T:TypeId) (cs:Array Value) (w:World):(newRow T cs).run P w=.ok ⟨w.heap.size,0,none⟩ (w.alloc (.cells cs T)):=rfl
theorem Qf7 (T:TypeId) (v:Value) (w:World):(newVar T v).run P w=.ok ⟨w.heap.size,0,none⟩ (w.alloc (.cells v.cells T)):=rfl
theorem Wv (n:Nat) (w:World):(askRoom n).run P w=.ok () w:=by unfold askRoom;split <;> rfl
theorem Qea (w:World) (n:Nat) (o:Obj):(w.drewN n).alloc o=(w.alloc o).drewN n:=rfl
theorem Eb {T:TypeId}{x:Operand} (h:Ak e x fun v=>R (e.put d (.pointer (some ⟨w.heap.size,0,none⟩))) (w.alloc (.cells v.cells T)) K) :
  Cq P N ⟨d,.box T x,ty,pos,af,gd⟩ e w R K :=
 M8 fun a n ha=>by
  have h1:=Cx (K:=fun v=>R (e.put d (.pointer (some ⟨w.heap.size,0,none⟩))) (w.alloc (.cells v.cells T)) K) ha h;exact ⟨_,w.alloc (.cells (a.eval x).cells T),n,by simp only [execOp,Instr.box,Yc,Qf7,Ya,Yb];rfl,h1⟩
theorem Qb4 {T:TypeId}{z:Value} (h:P.zeroOf T=some z) (w:World):(zeroValue T).run P w=.ok z w:=by
 unfold Program.zeroOf at h;cases hi:P.info? T with
 | none=>simp [hi] at h
 | some i =>
  simp [hi] at h;simp [zeroValue,typeInfo,hi,h]
theorem A6 {T:TypeId} (z:Value) (hz:P.zeroOf T=some z) (h:R (e.put d (.pointer (some ⟨w.heap.size,0,none⟩))) (w.alloc (.cells z.cells T)) K) :
  Cq P N ⟨d,.alloc T,ty,pos,af,gd⟩ e w R K :=
 M8 fun a n _=>⟨_,w.alloc (.cells z.cells T),n,by simp only [execOp,Instr.alloc,Qb4 hz,Yc,Qf7,Ya,Yb];rfl,h⟩
theorem Qfj {T E:TypeId}{i:TypeInfo}{z zv:Value} (hu:P.underlying T=some (.slice E)) (hi:P.info? E=some i) (hz:i.zero=some z) (hzv:z.cells=#[zv]) (h1:i.size=1)
  {l c:Nat} (hlc:l<=c) (hb:i.bytes * c<=2 ^ 48) (hc:c<=maxLen) (w:World) :
  (Instr.makeSlice T (.int .i64 l) (.int .i64 c)).run P w=.ok (.slice (some ⟨w.heap.size,0,none⟩) l c) (w.alloc (.cells (Ye c zv).toArray E)):=by
 have hcm:(c:Int)<=9223372036854775807:=by simp only [maxLen] at hc;omega
 have e1:IntKind.i64.wrap (l:Int)=l:=R8 ⟨by omega,by omega⟩;have e2:IntKind.i64.wrap (c:Int)=c:=R8 ⟨by omega,by omega⟩
 have hb1:((i.bytes * c:Nat):Int)<=281474976710656:=by
  have h:i.bytes * c<=281474976710656:=hb;omega
 have hb':¬ ((i.bytes:Int) * (c:Int) > 281474976710656):=by
  have e3:((i.bytes * c:Nat):Int)=(i.bytes:Int) * (c:Int):=Xl _ _;omega
 have hrow:(Array.range (c * 1)).map (fun x=>(#[zv]:Array Value)[x % 1]!)=(Ye c zv).toArray:=by
  apply Array.ext
  ·
   simp
  intro j h1 h2;simp [Nat.mod_one]
 have hti:∀ w,(typeInfo E).run P w=.ok i w:=fun w=>by simp [typeInfo,hi]
 have hzi:∀ w,(zeroValue E).run P w=.ok z w:=fun w=>by simp [zeroValue,typeInfo,hi,hz]
 have hso:∀ w,(sizeOf E).run P w=.ok 1 w:=fun w=>by simp [sizeOf,typeInfo,hi,h1]
 simp only [Instr.makeSlice,Yc,run_underlying hu,Ya,asInt,asIntOf,Yb,hti,e1,e2];rw [if_neg (by simp [hb'];omega)];simp only [Yc,Wv,Ya,hso,Xp];by_cases hc0:c=0
 ·
  subst hc0;simp only [X9,if_true,Yc,Yb,Ya,M9];simp [show Array.range 0=#[] from rfl]
 rw [if_neg (by omega)];simp only [Yc,hzi,Ya,Yb,M9,hzv];rw [<- hrow];simp
theorem Ev {T E:TypeId}{x y:Operand}{zv:Value}{bytes:Nat} (hu:P.underlying T=some (.slice E)) (hz:(P.info? E).map (fun i=>(i.zero.map Yn,i.size,i.bytes))=some (some #[zv],1,bytes))
  (h:Ak e x fun vl=>Ak e y fun vc=>∃ l c:Nat,(vl=.int .i64 l/\vc=.int .i64 c/\l<=c/\bytes * c<=281474976710656/\c<=9223372036854775807)/\R (e.put d (.slice (some ⟨w.heap.size,0,none⟩) l c)) (w.alloc (.cells (Ye c zv).toArray E)) K) :
  Cq P N ⟨d,.makeSlice T x y,ty,pos,af,gd⟩ e w R K :=
 M8 fun a n ha=>by
  obtain ⟨l,c,⟨h1,h2,h3,h4,h5⟩,hR⟩:=Cx (K:=fun vc=>∃ l c:Nat,(a.eval x=.int .i64 l/\vc=.int .i64 c/\l<=c/\bytes * c<=281474976710656/\c<=9223372036854775807)/\R (e.put d (.slice (some ⟨w.heap.size,0,none⟩) l c)) (w.alloc (.cells (Ye c zv).toArray E)) K) ha
   (Cx (K:=fun vl=>Ak e y fun vc=>∃ l c:Nat,(vl=.int .i64 l/\vc=.int .i64 c/\l<=c/\bytes * c<=281474976710656/\c<=9223372036854775807)/\R (e.put d (.slice (some ⟨w.heap.size,0,none⟩) l c)) (w.alloc (.cells (Ye c zv).toArray E)) K) ha h)
  cases hi:P.info? E with
  | none=>simp [hi] at hz
  | some i =>
   simp only [hi,Option.map_some,Option.some.injEq,Prod.mk.injEq] at hz;obtain ⟨hz1,hz2,hz3⟩:=hz;cases hzz:i.zero with
   | none=>simp [hzz] at hz1
   | some z =>
    simp only [hzz,Option.map_some,Option.some.injEq] at hz1;refine ⟨_,w.alloc (.cells (Ye c zv).toArray E),n,?_,hR⟩;have:=Qfj hu hi hzz hz1 hz2 h3 (by rw [hz3];exact h4) (by simp only [maxLen];omega) (w.drewN n);simp only [execOp,h1,h2,this,Yc,Ya,Yb];rfl
theorem Qqj:∀ (l:List Value) (i:Nat) (pre suf:List Value),suf.length=l.length->(∀ v∈l,v.cells=#[v])->pre.length=i ->
  Instr.fill (fun i=>some (i * 1,1)) (pre++suf).toArray ((l.zipIdx i).map fun p=>(p.2,p.1))=some (pre++l).toArray:=by
 intro l
 induction l with
 | nil=>intro i pre suf hs _ _;simp at hs;subst hs;simp [Instr.fill]
 | cons v l ih =>
  intro i pre suf hs hc hp;cases suf with
  | nil=>simp at hs
  | cons u suf =>
   simp only [Xu,List.map_cons,Instr.fill];have hv:=hc v (by simp);simp only [hv];rw [if_neg (by simp;omega)];have:=ih (i+1) (pre++[v]) suf (by simpa using hs) (fun u hu=>hc u (by simp [hu])) (by simp [hp])
   have e1:(#[v].zipIdx.foldl (fun cs x=>cs.setIfInBounds (i * 1+x.2) x.1) (pre++u::suf).toArray)=((pre++[v])++suf).toArray:=by
    simp only [Array.zipIdx];simp;rw [<- hp,Xf _ _ (Y6 _)];simp
   rw [e1,this];simp
theorem Kp {T E:TypeId}{n:Nat}{ps:Array (Nat×Operand)}{xs:List Operand} (hu:P.underlying T=some (.slice E)) (hsz:P.szo E=some 1) (hz:(P.zeroOf E).isSome=true)
  (hps:ps.toList=(xs.zipIdx).map fun p=>(p.2,p.1)) (hn:n=xs.length) (hb:n<=1000000)
  (h:B9 e xs fun vs=>(∀ v∈vs,v.cells=#[v])/\R (e.put d (.slice (some ⟨w.heap.size,0,none⟩) n n)) (w.alloc (.cells vs.toArray E)) K) :
  Cq P N ⟨d,.buildSlice T n ps,ty,pos,af,gd⟩ e w R K :=
 M8 fun a m ha=>by
  obtain ⟨h1,hR⟩:=Lk (K:=fun vs=>(∀ v∈vs,v.cells=#[v])/\R (e.put d (.slice (some ⟨w.heap.size,0,none⟩) n n)) (w.alloc (.cells vs.toArray E)) K) ha h;refine ⟨_,_,m,?_,hR⟩;obtain ⟨z,hz⟩:=Xs.1 hz
  have e1:(ps.map fun (i,x)=>(i,a.eval x)).toList=((xs.map a.eval).zipIdx).map fun p=>(p.2,p.1):=by
   rw [Array.toList_map,hps];simp [List.zipIdx_map]
  have hf:=Qqj (xs.map a.eval) 0 [] (((Array.range (n * 1)).map fun x=>(if n=0 then #[] else z.cells)[x % (if n=0 then #[] else z.cells).size]!).toList) (by simp [hn]) h1 rfl;simp only [X2,Array.toArray_toList] at hf;have hs:=I9 (P:=P) hsz;simp only [execOp,Instr.buildSlice,Yc,run_underlying hu,hs,Ya];rw [if_neg (by omega)];simp only [Xh] at hf ⊢;by_cases h0:n=0
  ·
   rw [if_pos h0];rw [if_pos h0] at hf;simp only [Yc,Yb,Ya,e1,hf,M9];rfl
  rw [if_neg h0];rw [if_neg h0] at hf;simp only [Yc,Qb4 hz,Yb,Ya,e1,hf,M9];rfl
def Fm (w:World) (g:Nat) (cs:List Value) (T:TypeId) (fz:Nat×Nat):World:={ w with heap:=w.heap.setIfInBounds g (.cells cs.toArray T fz) }
theorem Sm {w:World}{g:Nat}{cs:List Value}{T:TypeId}{fz:Nat×Nat} (h:g < w.heap.size):(Fm w g cs T fz).heap[g]? = some (.cells cs.toArray T fz):=by
 simp [Fm,h]
theorem Qur {w:World}{g k:Nat}{cs:List Value}{T:TypeId}{fz:Nat×Nat} (h:k≠g):(Fm w g cs T fz).heap[k]? = w.heap[k]? := by
 simp [Fm,Ne.symm h]
theorem Sg (w:World) (g:Nat) (cs:List Value) (T:TypeId) (fz:Nat×Nat):Upd [g] w (Fm w g cs T fz) :=
 ⟨rfl,rfl,rfl,by simp [Fm],fun k _ hk=>Qur (by simpa using hk)⟩
theorem To (w:World) (g:Nat) (cs:List Value) (T:TypeId) (fz:Nat×Nat):(Fm w g cs T fz).heap.size=w.heap.size:=by simp [Fm]
theorem Ws (w:World) (n g:Nat) (cs:List Value) (T:TypeId) (fz:Nat×Nat):Fm (w.drewN n) g cs T fz=(Fm w g cs T fz).drewN n:=rfl
theorem Qfk {w:World}{g o:Nat}{cs:List Value}{T:TypeId}{fz:Nat×Nat} (h:w.heap[g]? = some (.cells cs.toArray T fz)) (v:Value):w.setCell ⟨g,o,none⟩ v=Fm w g (cs.set o v) T fz:=by
 have hlt:g < w.heap.size:=(Array.getElem?_eq_some_iff.1 h).1;unfold World.setCell Fm
 congr 1
 apply Array.ext_getElem?;intro j;rw [Array.getElem?_modify,Array.getElem?_setIfInBounds];by_cases hj:g=j
 ·
  subst hj;have hg:w.heap[g]=.cells cs.toArray T fz:=(Array.getElem?_eq_some_iff.1 h).2;simp [hlt,hg]
 simp [hj]
theorem Qmw {w:World}{g:Nat}{cs:List Value}{T:TypeId}{fz:Nat×Nat} (h:w.heap[g]? = some (.cells cs.toArray T fz)):Fm w g cs T fz=w:=by
 have hlt:g < w.heap.size:=(Array.getElem?_eq_some_iff.1 h).1
 have e:w.heap.setIfInBounds g (.cells cs.toArray T fz)=w.heap:=by
  apply Array.ext_getElem?;intro j;rw [Array.getElem?_setIfInBounds];by_cases hj:g=j
  ·
   subst hj;rw [if_pos rfl,if_pos hlt];exact h.symm
  rw [if_neg hj]
 rw [Fm,e]
theorem Wo (g o:Nat) (T:TypeId) (fz:Nat×Nat):∀ (vs:List Value) (i:Nat) (cs:List Value) (w:World),w.heap[g]? = some (.cells cs.toArray T fz)->Wf fz cs.length->o+i+vs.length<=cs.length->(∀ v∈vs,v.oneCell'=true) ->
  (storeCells ⟨g,o,none⟩ vs i).run P w=.ok () (Fm w g (cs.take (o+i)++vs++cs.drop (o+i+vs.length)) T fz):=by
 intro vs
 induction vs with
 | nil =>
  intro i cs w hg _ hl _;simp only [storeCells,Yb]
  congr 1
  have:cs.take (o+i)++[]++cs.drop (o+i+0)=cs:=by simp
  simp only [List.length_nil];rw [this,Qmw hg]
 | cons v vs ih =>
  intro i cs w hg hfz hl h1;simp only [Y7] at hl;have hadd:(⟨g,o,none⟩:Addr).add i=⟨g,o+i,none⟩:=by unfold Addr.add;split <;> simp_all
  have hcell:∃ u,w.cell? ⟨g,o+i,none⟩=some u:=by
   refine ⟨cs[o+i],?_⟩;simp [World.cell?,hg]
  obtain ⟨u,hu⟩:=hcell
  have hfr:w.frozen? ⟨g,o+i,none⟩=false:=by
   simp only [World.frozen?,hg];have:=hfz (o+i) (by omega);simpa using this
  have hone:=h1 v (by simp)
  have hstore:(store ⟨g,o+i,none⟩ v).run P w=.ok () (w.setCell ⟨g,o+i,none⟩ v):=by
   cases v <;> simp [Value.oneCell'] at hone <;> simp [store,Ua,hu,hfr]
  have hlt:g < w.heap.size:=(Array.getElem?_eq_some_iff.1 hg).1;simp only [storeCells,Yc,hadd,hstore,Ya];rw [Qfk hg,ih (i+1) (cs.set (o+i) v) _ (Sm hlt) (by simpa using hfz) (by simp;omega) (fun u hu=>h1 u (by simp [hu]))]
  congr 1
  unfold Fm;simp only [Array.setIfInBounds_setIfInBounds]
  congr 2
  congr 1
  congr 1
  rw [show o+(i+1)=o+i+1 by omega,List.take_set,List.drop_set];simp only [Y7];rw [if_pos (by omega),List.take_succ_eq_append_getElem (by omega),Xf _ _ (by simp;omega)];simp only [Yt];rw [show o+i - min (o+i) cs.length=0 by omega];simp [show o+i+1+vs.length=o+i+(vs.length+1) by omega]
end
section
variable {P:Program}{N:Nat}{d:Option Tmp}{ty:Nat}{pos:String}{af:Array Edge}{gd:Option (Nat×Bool)}{e:Env}{w:World}{R:Env->World->(Env->World->Prop)->Prop}{K:Env->World->Prop}
def Mw (P:Program) (T:TypeId) (x v:Value) (w:World) (C:World->Prop):Prop :=
 ∃ w',(∀ n,(Instr.storeAt T x v).run P (w.drewN n)=.ok () (w'.drewN n))/\C w'
theorem Af {T:TypeId}{x y:Operand} (h:Ak e x fun a=>Ak e y fun v=>Mw P T a v w fun w'=>R (e.put d undef) w' K) :
  Cq P N ⟨d,.store T x y,ty,pos,af,gd⟩ e w R K :=
 Qmu fun a n ha=>by
  obtain ⟨w',hr,hC⟩:=Cx (K:=fun v=>Mw P T (a.eval x) v w fun w'=>R (e.put d undef) w' K) ha (Cx (K:=fun b=>Ak e y fun v=>Mw P T b v w fun w'=>R (e.put d undef) w' K) ha h);exact ⟨w',n,by simp only [execOp,Yc,hr n,Ya,Yb],hC⟩
theorem Qac {T:TypeId}{g o:Nat}{T':TypeId}{fz:Nat×Nat}{cs vs:List Value}{v:Value} (hv:v.cells=vs.toArray) (hsz:P.szo T=some vs.length) (hg:w.heap[g]? = some (.cells cs.toArray T' fz)) (hfz:Wf fz cs.length) (hl:o+vs.length<=cs.length) (h1:∀ u∈vs,u.oneCell'=true) (n:Nat) :
  (Instr.storeAt T (.pointer (some ⟨g,o,none⟩)) v).run P (w.drewN n)=.ok () ((Fm w g (cs.take o++vs++cs.drop (o+vs.length)) T' fz).drewN n):=by
 have hs:=I9 (P:=P) hsz;have hst:=Wo (P:=P) g o T' fz vs 0 cs (w.drewN n) hg hfz (by simpa using hl) h1;simp only [Instr.storeAt,Instr.sureAddr,storeVar,Yc,Yb,Ya,hs,hv];rw [if_neg (by simp)];rw [hst];simp [Ws]
def Res.blk (g:Nat) (T:TypeId) (cs:List Value):Res where
 foot:=[g]
 holds:=fun w=>∃ fz,w.heap[g]? = some (.cells cs.toArray T fz)/\Wf fz cs.length
 loc:=by
  rintro w w' hb ⟨fz,h1,h2⟩;exact ⟨fz,by rw [hb g (by simp)];exact h1,h2⟩
theorem Qmd (n:Nat):Wf (0,0) n:=fun j _=>by simp
theorem Heap.box {w0 w:World}{B:List Nat}{G:List Res} (h:Heap w0 B w G) (T:TypeId) (cs:List Value):Heap w0 B (w.alloc (.cells cs.toArray T)) (Res.blk w.heap.size T cs::G) :=
 h.new _ ⟨(0,0),heap_alloc_new w _,Qmd _⟩ (by simp [Res.blk])
theorem Heap.row {w0 w:World}{B:List Nat}{G:List Res} (h:Heap w0 B w G) (T:TypeId) {n cap sz:Nat} (xs rest:List Value) (h1:xs.length=n * sz) (h2:(xs++rest).length=cap * sz) (h3:n<=cap) (h4:cap<=9223372036854775807) :
  Heap w0 B (w.alloc (.cells (xs++rest).toArray T)) (Res.row T sz (some ⟨w.heap.size,0,none⟩) n cap xs::G) :=
 h.new _ ⟨h1,h3,by simp only [maxLen];omega,.inr ⟨w.heap.size,rest,(0,0),rfl,heap_alloc_new w _,h2,Qmd _⟩⟩ (by simp [Res.row])
theorem Al {w0:World}{B:List Nat}{G:List Res} (hH:Heap w0 B w G) (i:Nat) {g o:Nat}{T T':TypeId}{cs vs:List Value}{v:Value}{C:World->Prop} (hi:G[i]? = some (Res.blk g T' cs)) (hv:v.cells=vs.toArray) (hsz:P.szo T=some vs.length) (hl:o+vs.length<=cs.length) (h1:∀ u∈vs,u.oneCell'=true)
  (h:∀ w',Heap w0 B w' (G.set i (Res.blk g T' (cs.take o++vs++cs.drop (o+vs.length))))->C w'):Mw P T (.pointer (some ⟨g,o,none⟩)) v w C:=by
 obtain ⟨fz,hg,hfz⟩:=hH.at i hi;have hlt:g < w.heap.size:=(Array.getElem?_eq_some_iff.1 hg).1;refine ⟨_,Qac hv hsz hg hfz hl h1,h _ (hH.set i hi (Sg _ _ _ _ _) ⟨fz,Sm hlt,?_⟩ ?_)⟩
 ·
  have:(cs.take o++vs++cs.drop (o+vs.length)).length=cs.length:=by simp;omega
  rw [this];exact hfz
 intro b hb;exact ⟨.inl hb,by rw [To];simp [Res.blk] at hb;omega⟩
theorem Ej {w0:World}{B:List Nat}{G:List Res} (hH:Heap w0 B w G) (i:Nat) {o n cap sz:Nat}{ad ap:Addr}{T T':TypeId}{xs vs:List Value}{v:Value}{C:World->Prop} (hi:G[i]? = some (Res.row T' sz (some ad) n cap xs)) (hp:ap=ad.add o) (hv:v.cells=vs.toArray) (hsz:P.szo T=some vs.length) (hl:o+vs.length<=xs.length) (h1:∀ u∈vs,u.oneCell'=true)
  (h:∀ w',Heap w0 B w' (G.set i (Res.row T' sz (some ad) n cap (xs.take o++vs++xs.drop (o+vs.length))))->C w'):Mw P T (.pointer (some ap)) v w C:=by
 obtain ⟨h2,h3,h4,h5⟩:=hH.at i hi;rcases h5 with h5 | ⟨g,rest,fz,hg0,hg,hl2,hfz⟩
 ·
  cases h5.1
 cases hg0;subst hp;have hlt:g < w.heap.size:=(Array.getElem?_eq_some_iff.1 hg).1;have hadd:(⟨g,0,none⟩:Addr).add o=⟨g,o,none⟩:=by unfold Addr.add;split <;> simp_all
 rw [hadd];have hlen:o+vs.length<=(xs++rest).length:=by simp;omega
 refine ⟨_,Qac hv hsz hg (by rw [hl2];exact hfz) hlen h1,h _ (hH.set i hi (Sg _ _ _ _ _) ?_ ?_)⟩
 ·
  refine ⟨by simp;omega,h3,h4,.inr ⟨g,rest,fz,rfl,?_,by simp at hl2 ⊢;omega,hfz⟩⟩;rw [Sm hlt]
  congr 3
  rw [Xj (by omega),Xk (by omega)];simp
 intro b hb;exact ⟨.inl hb,by rw [To];simp [Res.row] at hb;omega⟩
def Src (P:Program) (w:World) (x:Value) (T':TypeId) (sz m:Nat) (news:List Value):Prop :=
 match x with
 | .slice a k _=>k=m/\RS w a m sz news/\(∃ E,P.underlying T'=some (.slice E))
 | .string s=>m=(Ba s).length/\sz=1/\news=An (Ba s)/\P.underlying T'=some .string
 | _=>False
theorem Src.spec {x:Value}{T':TypeId}{sz m:Nat}{news:List Value} (h:Src P w x T' sz m news) :
  news.length=m * sz/\(∀ w,(Builtin.lenOf x).run P w=.ok m w)/\(∀ w',w'.heap=w.heap->(Builtin.firstCells sz m x).run P w'=.ok news.toArray w')/\(∃ dd,P.underlying T'=some dd/\∀ k,dd≠.int k):=by
 unfold Src at h;split at h
 ·
  rename_i a k c;obtain ⟨rfl,⟨h1,h2,h3⟩,E,hE⟩:=h;refine ⟨h1,fun w=>by simp [Builtin.lenOf],fun w' hw=>?_,_,hE,by simp⟩;cases a with
  | none =>
   have:=h2 rfl;subst this;have:news=[]:=Yh (by simpa using h1);subst this;simp [Builtin.firstCells]
  | some ad=>exact run_firstCells_some (P:=P) w' sz k ad k c news h1 (fun j v hv=>(h3 ad rfl).heap hw j v hv)
 ·
  rename_i s;obtain ⟨rfl,rfl,rfl,hu⟩:=h;refine ⟨by simp [An],fun w=>by simp only [Builtin.lenOf,Yb];rfl,fun w' _=>?_,_,hu,by simp⟩
  have:s.extract 0 (Ba s).length=s:=by
   rw [Tn,List.drop_zero,Xe (by simp [Ba]),Array.toArray_toList]
  simp only [Builtin.firstCells,Yb,this,An,Ba]
  congr 1
  apply Array.ext';simp
 exact h.elim
theorem QGt {dd:TypeDesc} (h:∀ k,dd≠.int k):(match (generalizing:=false) dd with | .int _=>true | _=>false)=false:=by cases dd <;> first | rfl | exact absurd rfl (h _)
theorem Qfl {w0:World}{B:List Nat}{G:List Res} (hH:Heap w0 B w G) (i:Nat) {T T' E ty:TypeId}{sz bytes:Nat}{zs:Array Value}{a:Option Addr}{n cap m:Nat}{xs news:List Value}{x:Value}
  (hi:G[i]? = some (Res.row E sz a n cap xs)) (hu:P.underlying T=some (.slice E)) (hz:(P.info? E).map (fun i=>(i.zero.map Yn,i.size,i.bytes))=some (some zs,sz,bytes)) (hzs:zs.size=sz)
  (hs:Src P w x T' sz m news) (h1:∀ u∈news,u.oneCell'=true) (hb:cap < n+m->(n+m) * bytes<=140737488355328/\n+m<=9223372036854775807) (k:Nat) :
  ∃ a' cap' w' k',(Builtin.append_ #[T,T'] ty #[.slice a n cap,x]).run P (w.drewN k)=.ok (.slice a' (n+m) cap') (w'.drewN k')/\Heap w0 B w' (G.set i (Res.row E sz a' (n+m) cap' (xs++news)))/\(n+m<=cap->a'=a/\cap'=cap):=by
 have hrow:=hH.at i hi;obtain ⟨hxl,hnc,hcm,hcase⟩:=hrow;obtain ⟨hnl,hlen,hfirst,dd,hdd,hni⟩:=hs.spec;cases hinfo:P.info? E with
 | none=>simp [hinfo] at hz
 | some ti =>
 simp only [hinfo,Option.map_some,Option.some.injEq,Prod.mk.injEq] at hz;obtain ⟨hz1,hz2,hz3⟩:=hz;cases hzz:ti.zero with
 | none=>simp [hzz] at hz1
 | some z =>
 simp only [hzz,Option.map_some,Option.some.injEq] at hz1;have hso:∀ w,(sizeOf E).run P w=.ok sz w:=fun w=>by simp [sizeOf,typeInfo,hinfo,hz2]
 have hti:∀ w,(typeInfo E).run P w=.ok ti w:=fun w=>by simp [typeInfo,hinfo]
 have hzv:∀ w,(zeroValue E).run P w=.ok z w:=fun w=>by simp [zeroValue,typeInfo,hinfo,hzz]
 have hund:∀ w,(underlying T').run P w=.ok dd w:=fun w=>run_underlying hdd w;have hmatch:=QGt hni;by_cases hroom:n+m<=cap
 ·
  rcases hcase with ⟨rfl,rfl,rfl⟩ | ⟨g,rest,fz,rfl,hg,hl2,hfz⟩
  ·
   have hm:m=0:=by omega
   subst hm;have hn:news=[]:=Yh (by simpa using hnl);subst hn;refine ⟨none,0,w,k,?_,?_,fun _=>⟨rfl,rfl⟩⟩
   ·
    simp [Builtin.append_,run_underlying hu,hso,hund,hlen,hfirst (w.drewN k) rfl]
   have:xs++[]=xs:=by simp
   rw [this]
   have:G.set i (Res.row E sz none 0 0 xs)=G:=by
    apply Xq;intro j;rw [Xr];split
    ·
     rename_i hj;subst hj;split <;> simp_all
    rfl
   simp only [Xz];rw [this];exact hH
  have hlt:g < w.heap.size:=(Array.getElem?_eq_some_iff.1 hg).1;have hfit:n * sz+news.length<=(xs++rest).length:=by rw [hl2,hnl,<- Yo];exact Ym _ hroom
  have hst:=Wo (P:=P) g (n * sz) E fz news 0 (xs++rest) (w.drewN k) hg (by rw [hl2];exact hfz) (by simpa using hfit) h1;have hadd:(⟨g,0,none⟩:Addr).add (n * sz)=⟨g,n * sz,none⟩:=by unfold Addr.add;split <;> simp_all
  have hcs:(xs++rest).take (n * sz+0)++news++(xs++rest).drop (n * sz+0+news.length)=(xs++news)++rest.drop news.length:=by
   rw [X1,<- hxl,List.take_left];rw [Xv];simp
  rw [hcs] at hst;refine ⟨some ⟨g,0,none⟩,cap,Fm w g ((xs++news)++rest.drop news.length) E fz,k,?_,?_,fun _=>⟨rfl,rfl⟩⟩
  ·
   simp [Builtin.append_,run_underlying hu,hso,hund,hlen,hfirst (w.drewN k) rfl,hroom,hadd,hst,Ws]
  refine hH.set i hi (Sg _ _ _ _ _) ⟨?_,hroom,hcm,.inr ⟨g,rest.drop news.length,fz,rfl,Sm hlt,?_,hfz⟩⟩ ?_
  ·
   rw [Yf,hxl,hnl,Yo]
  ·
   simp at hl2 hfit ⊢;omega
  intro b hb;exact ⟨.inl hb,by rw [To];simp [Res.row] at hb;omega⟩
 obtain ⟨hb1,hb2⟩:=hb (by omega)
 have hg63:¬ ((n+m:Nat):Int) > IntKind.i64.max:=by
  have:IntKind.i64.max=9223372036854775807:=by decide
  rw [this];omega
 have hfits:¬ (Builtin.nextslicecap (n+m) cap * ti.bytes > 2 ^ 48):=by
  have:=growslice_fits (need:=n+m) (old:=cap) (bytes:=ti.bytes) (by omega) (by rw [hz3];exact hb1);have e:(2:Nat) ^ 48=281474976710656:=by decide
  rw [e];omega
 have hold:(Builtin.firstCells sz n (.slice a n cap)).run P (w.drewN (k+1))=.ok xs.toArray (w.drewN (k+1)):=by
  have hrs:=Az (hH.at i hi);cases a with
  | none =>
   have hn0:=hrs.2.1 rfl;subst hn0;have:xs=[]:=Yh (by simpa using hxl);subst this;simp [Builtin.firstCells]
  | some ad=>exact run_firstCells_some (P:=P) _ sz n ad n cap xs hxl (fun j v hv=>(hrs.2.2 ad rfl).heap (w':=w.drewN (k+1)) rfl j v hv)
 have hge:=grownCap_ge (w.drewN k) (n+m) cap E;have hcm':=grownCap_le_maxLen (w.drewN k) (n+m) cap E (by simp only [maxLen];omega);refine ⟨some ⟨w.heap.size,0,none⟩,grownCap (w.drewN k) (n+m) cap E,w.alloc (.cells (xs.toArray++news.toArray++Builtin.zeroCells z.cells (grownCap (w.drewN k) (n+m) cap E - (n+m))) E),k+1,?_,?_,fun h=>absurd h hroom⟩
 ·
  have hz2':¬ (9223372036854775807 < ((n:Int)+(m:Int))):=by omega
  have hz3':¬ (281474976710656 < Builtin.nextslicecap (n+m) cap * ti.bytes):=by
   have e:(2:Nat) ^ 48=281474976710656:=by decide
   rw [e] at hfits;omega
  have hf2:=hfirst (w.drewN (k+1)) rfl;have hra:=fun n w=>Wv (P:=P) n w;simp [Builtin.append_,run_underlying hu,hso,hund,hlen,hroom,hti,hz2',hz3',hra,hold,hf2,hzv,M9,Question.forced,grownCap];rw [Qea]
  congr 3
  apply Array.ext';simp
 have hcells:(xs.toArray++news.toArray++Builtin.zeroCells z.cells (grownCap (w.drewN k) (n+m) cap E - (n+m)))=((xs++news)++(Builtin.zeroCells z.cells (grownCap (w.drewN k) (n+m) cap E - (n+m))).toList).toArray:=by
  apply Array.ext';simp
 rw [hcells];have hzc:z.cells.size=sz:=by rw [hz1];exact hzs
 refine hH.set i hi ⟨rfl,rfl,rfl,by simp,fun k hk _=>RowKit.Below.heap_alloc _ _ _ hk⟩ ⟨?_,hge,hcm',.inr ⟨w.heap.size,_,(0,0),rfl,heap_alloc_new w _,?_,Qmd _⟩⟩ ?_
 ·
  rw [Yf,hxl,hnl,Yo]
 ·
  rw [Yf,Yf,hxl,hnl,Array.length_toList,size_zeroCells,hzc,<- Yo,<- Yo]
  congr 1;omega
 intro b hb;simp [Res.row] at hb;subst hb;exact ⟨.inr (Y6 _),by simp⟩
def Np (P:Program) (ts:Array TypeId) (ty:TypeId) (vs:List Value) (w:World) (C:Value->World->Prop):Prop :=
 ∀ n,∃ v w' m,(Builtin.append_ ts ty vs.toArray).run P (w.drewN n)=.ok v (w'.drewN m)/\C v w'
theorem Cl {az:Array Operand}{ts:Array TypeId} (h:B9 e az.toList fun vs=>Np P ts ty vs w fun v w'=>R (e.put d v) w' K) :
  Cq P N ⟨d,.call { callee:=.builtin .append,args:=az,argTypes:=ts },ty,pos,af,gd⟩ e w R K :=
 M8 fun a n ha=>by
  obtain ⟨v,w',m,hr,hC⟩:=Lk (K:=fun vs=>Np P ts ty vs w fun v w'=>R (e.put d v) w' K) ha h n;refine ⟨v,w',m,?_,hC⟩;simp only [execOp,resolve,invoke,builtin,Ms,Yc,Yb,Ya,hr]
theorem Ew {w0:World}{B:List Nat}{G:List Res} (hH:Heap w0 B w G) (i:Nat) {T T' E ty:TypeId}{sz bytes:Nat}{zs:Array Value}{a:Option Addr}{n cap m:Nat}{xs news:List Value}{x:Value}{C:Value->World->Prop}
  (hi:G[i]? = some (Res.row E sz a n cap xs)) (hu:P.underlying T=some (.slice E)) (hz:(P.info? E).map (fun i=>(i.zero.map Yn,i.size,i.bytes))=some (some zs,sz,bytes)) (hzs:zs.size=sz)
  (hs:Src P w x T' sz m news) (h1:∀ u∈news,u.oneCell'=true) (hb:cap < n+m->(n+m) * bytes<=140737488355328/\n+m<=9223372036854775807)
  (h:∀ a' cap' w',(n+m<=cap->a'=a/\cap'=cap)->Heap w0 B w' (G.set i (Res.row E sz a' (n+m) cap' (xs++news)))->C (.slice a' (n+m) cap') w'):Np P #[T,T'] ty [.slice a n cap,x] w C:=by
 intro k;obtain ⟨a',cap',w',k',hr,hH',hc⟩:=Qfl (P:=P) (ty:=ty) hH i hi hu hz hzs hs h1 hb k;exact ⟨_,w',k',hr,h a' cap' w' hc hH'⟩
theorem QB2 (l:List UInt8) (m:Nat):((⟨l.toArray⟩:ByteArray).data.map fun b=>Y3 .u8 b.toNat)++Array.replicate m (Y3 .u8 0)=((An l)++Ye m (Y3 .u8 0)).toArray:=by
 apply Array.ext';simp [An]
theorem Qx5 {E:TypeId}{cap:Nat} (w:World) (cs:Array Value) (hcs:cs.size=cap):(markStringish ⟨w.heap.size,0,none⟩).run P (w.alloc (.cells cs E))=.ok () ({ w with heap:=w.heap.push (.cells cs E (cap,cap+1)) }:World):=by
 have h1:(w.alloc (.cells cs E)).shape? w.heap.size=some (E,cap):=by
  have:=heap_alloc_new w (.cells cs E);simp only [World.shape?,this,hcs]
 have h2:(w.alloc (.cells cs E)).freeze { block:=w.heap.size,off:=cap } 1=({ w with heap:=w.heap.push (.cells cs E (cap,cap+1)) }:World):=by
  have e:(w.heap.push (.cells cs E)).modify w.heap.size (fun
   | .cells c elem (lo,hi)=>.cells c elem (if lo == hi then (cap,cap+1) else (min lo cap,max hi (cap+1)))
   | o=>o)=w.heap.push (.cells cs E (cap,cap+1)):=by
   apply Array.ext_getElem?;intro j;rw [Array.getElem?_modify];simp only [Array.getElem?_push];by_cases hj:w.heap.size=j
   ·
    subst hj;simp
   rw [if_neg hj,if_neg (Ne.symm hj),if_neg (Ne.symm hj)]
  unfold World.freeze;rw [if_neg (by omega)];exact congrArg (fun h=>({ w with heap:=h }:World)) e
 have h3:(shape w.heap.size).run P (w.alloc (.cells cs E))=.ok (some (E,cap)) (w.alloc (.cells cs E)):=by
  simp only [shape,Ua,h1]
 simp only [markStringish,Yc,h3,Ya];simp only [freeze,Ua,h2]
theorem Qmx {T E:TypeId}{l:List UInt8}{S:TypeId} (hS:P.underlying S=some .string) (hT:P.underlying T=some (.slice E)) (hE:P.underlying E=some (.int .u8)) (hl:l.length<=9223372036854775807) (k:Nat) :
  ∃ cap,l.length<=cap/\cap<=maxLen/\(convert S T (Aa l)).run P (w.drewN k)=.ok (.slice (some ⟨w.heap.size,0,none⟩) l.length cap) (({ w with heap:=w.heap.push (.cells ((An l)++Ye (cap - l.length) (Y3 .u8 0)).toArray E (cap,cap+1)) }:World).drewN (k+1)):=by
 have hge:=grownCap_ge (w.drewN k) l.length 0 E;have hle:=grownCap_le_maxLen (w.drewN k) l.length 0 E (by simp only [maxLen];exact hl);refine ⟨grownCap (w.drewN k) l.length 0 E,hge,hle,?_⟩
 have hchoose:(choose (.appendCap (⟨l.toArray⟩:ByteArray).size 0 E)).run P (w.drewN k)=.ok (grownCap (w.drewN k) l.length 0 E) (w.drewN (k+1)):=by
  have:(⟨l.toArray⟩:ByteArray).size=l.length:=rfl;rw [this];simp [grownCap,Question.forced]
 generalize grownCap (w.drewN k) l.length 0 E=cap at *
 have hsize:((An l)++Ye (cap - l.length) (Y3 .u8 0)).toArray.size=cap:=by
  simp [An];omega
 simp only [convert,Yc,run_underlying hS,run_underlying hT,run_underlying hE,Ya,Conv.stringToBytes,hchoose];have e:(⟨l.toArray⟩:ByteArray).size=l.length:=rfl;rw [e,QB2];have:=Qx5 (P:=P) (E:=E) (w.drewN (k+1)) _ hsize;simp only [M9,Ya,this,Yb];rfl
def Qsz (P:Program) (S T:TypeId) (x:Value) (w:World) (C:Value->World->Prop):Prop :=
 ∀ n,∃ v w' m,(convert S T x).run P (w.drewN n)=.ok v (w'.drewN m)/\C v w'
theorem Qf8 {S T:TypeId}{x:Operand} (h:Ak e x fun v=>Qsz P S T v w fun v w'=>R (e.put d v) w' K) :
  Cq P N ⟨d,.convert S T x,ty,pos,af,gd⟩ e w R K :=
 M8 fun a n ha=>by
  obtain ⟨v,w',m,hr,hC⟩:=Cx (K:=fun v=>Qsz P S T v w fun v w'=>R (e.put d v) w' K) ha h n;exact ⟨v,w',m,by simp only [execOp,Yc,hr,Ya,Yb],hC⟩
theorem Qf9 {w0:World}{B:List Nat}{G:List Res} (hH:Heap w0 B w G) {S T E:TypeId}{l:List UInt8}{C:Value->World->Prop} (hS:P.underlying S=some .string) (hT:P.underlying T=some (.slice E)) (hE:P.underlying E=some (.int .u8)) (hl:l.length<=9223372036854775807)
  (h:∀ g cap w',Heap w0 B w' (Res.row E 1 (some ⟨g,0,none⟩) l.length cap (An l)::G)->C (.slice (some ⟨g,0,none⟩) l.length cap) w'):Qsz P S T (Aa l) w C:=by
 intro k;obtain ⟨cap,h1,h2,hr⟩:=Qmx (P:=P) (w:=w) hS hT hE hl k;refine ⟨_,_,_,hr,h _ _ _ ?_⟩;refine hH.call0 (G':=[_]) ⟨⟨rfl,rfl,rfl,by simp,fun j hj _=>?_⟩,?_,?_,by simp⟩
 ·
  show (w.heap.push _)[j]? = _
  rw [Array.getElem?_push,if_neg (by omega)]
 ·
  intro r hr;simp at hr;subst hr;refine ⟨by simp [An],h1,h2,.inr ⟨w.heap.size,Ye (cap - l.length) (Y3 .u8 0),(cap,cap+1),rfl,?_,by simp [An];omega,fun j hj=>by simp at hj ⊢;omega⟩⟩
  show (w.heap.push _)[w.heap.size]? = _
  simp
 intro r hr b hb;simp at hr;subst hr;simp [Res.row] at hb;subst hb;exact ⟨.inr (Y6 _),by simp⟩
theorem Ty (l:List UInt8):∀ u∈An l,u.oneCell'=true:=by
 intro u hu;obtain ⟨b,_,rfl⟩:=List.mem_map.1 hu;rfl
theorem Qx6 (l:List Int):∀ u∈Bb l,u.oneCell'=true:=by
 intro u hu;obtain ⟨b,_,rfl⟩:=List.mem_map.1 hu;rfl
theorem Q4 (l m:List UInt8):An (l++m)=An l++An m:=by simp [An]
theorem Qan (l m:List Int):Bb (l++m)=Bb l++Bb m:=by simp [Bb]
theorem Qhj {w0:World}{B:List Nat}{G:List Res} (hH:Heap w0 B w G) (i:Nat) {T E ty:TypeId}{bytes:Nat}{z:Value}{a:Option Addr}{n cap:Nat}{xs:List Value}{x:Value}{C:Value->World->Prop}
  (hi:G[i]? = some (Res.row E 1 a n cap xs)) (hu:P.underlying T=some (.slice E)) (hz:(P.info? E).map (fun i=>(i.zero.map Yn,i.size,i.bytes))=some (some #[z],1,bytes))
  (hx:x.oneCell'=true) (hb:cap < n+1->(n+1) * bytes<=140737488355328/\n+1<=9223372036854775807)
  (h:∀ a' cap' w',(n+1<=cap->a'=a/\cap'=cap)->Heap w0 B w' (G.set i (Res.row E 1 a' (n+1) cap' (xs++[x])))->C (.slice a' (n+1) cap') w') :
  Np P #[T,T] ty [.slice a n cap,.slice (some ⟨w.heap.size,0,none⟩) 1 1] (w.alloc (.cells [x].toArray E)) C:=by
 have h1:=hH.row E (n:=1) (cap:=1) (sz:=1) [x] [] (by simp) (by simp) (by omega) (by omega);simp only [Y2] at h1;refine Ew h1 (i+1) (sz:=1) (m:=1) (news:=[x]) (by simpa using hi) hu hz rfl ⟨rfl,Az (h1.at 0 rfl),E,hu⟩ (by simpa using hx) hb fun a' cap' w' hc hH'=>h a' cap' w' hc ?_;simp only [List.set_cons_succ] at hH';exact hH'.sub (X0 _ _)
theorem Qhk {w0:World}{B:List Nat}{G:List Res} (hH:Heap w0 B w G) (i:Nat) {T T' E ty:TypeId}{bytes:Nat}{z:Value}{a:Option Addr}{cap:Nat}{o t:List UInt8}{C:Value->World->Prop}
  (hi:G[i]? = some (Res.row E 1 a o.length cap (An o))) (hu:P.underlying T=some (.slice E)) (hz:(P.info? E).map (fun i=>(i.zero.map Yn,i.size,i.bytes))=some (some #[z],1,bytes)) (hS:P.underlying T'=some .string)
  (hb:cap < (o++t).length->(o++t).length * bytes<=140737488355328/\(o++t).length<=9223372036854775807)
  (h:∀ a' cap' w',((o++t).length<=cap->a'=a/\cap'=cap)->Heap w0 B w' (G.set i (Res.row E 1 a' (o++t).length cap' (An (o++t))))->C (.slice a' (o++t).length cap') w') :
  Np P #[T,T'] ty [.slice a o.length cap,Aa t] w C:=by
 have e:o.length+t.length=(o++t).length:=by simp
 refine Ew hH i (sz:=1) (m:=t.length) (news:=An t) hi hu hz rfl ⟨by simp [Ba],rfl,by simp [Ba],hS⟩ (Ty t) (by rw [e];exact hb) fun a' cap' w' hc hH'=>?_;rw [e] at hc hH' ⊢;exact h a' cap' w' hc (by rw [Q4];exact hH')
theorem Sn {w0:World}{B:List Nat}{G:List Res} (hH:Heap w0 B w G) (i:Nat) {T E ty:TypeId}{bytes:Nat}{z:Value}{a:Option Addr}{cap:Nat}{o:List UInt8} (b:UInt8) {n:Int}{C:Value->World->Prop}
  (hi:G[i]? = some (Res.row E 1 a o.length cap (An o))) (hu:P.underlying T=some (.slice E)) (hz:(P.info? E).map (fun i=>(i.zero.map Yn,i.size,i.bytes))=some (some #[z],1,bytes)) (hn:n=b.toNat)
  (hb:cap < (o++[b]).length->(o++[b]).length * bytes<=140737488355328/\(o++[b]).length<=9223372036854775807)
  (h:∀ a' cap' w',((o++[b]).length<=cap->a'=a/\cap'=cap)->Heap w0 B w' (G.set i (Res.row E 1 a' (o++[b]).length cap' (An (o++[b]))))->C (.slice a' (o++[b]).length cap') w') :
  Np P #[T,T] ty [.slice a o.length cap,.slice (some ⟨w.heap.size,0,none⟩) 1 1] (w.alloc (.cells [Y3 .u8 n].toArray E)) C:=by
 subst hn;have e:o.length+1=(o++[b]).length:=by simp
 refine Qhj hH i hi hu hz rfl (by rw [e];exact hb) fun a' cap' w' hc hH'=>?_;rw [e] at hc hH' ⊢;exact h a' cap' w' hc (by rw [Q4];exact hH')
theorem Vc {w0:World}{B:List Nat}{G:List Res} (hH:Heap w0 B w G) (i:Nat) {T E ty:TypeId}{bytes:Nat}{z:Value}{a:Option Addr}{cap:Nat}{o:List Int}{n:Int}{C:Value->World->Prop}
  (hi:G[i]? = some (Res.row E 1 a o.length cap (Bb o))) (hu:P.underlying T=some (.slice E)) (hz:(P.info? E).map (fun i=>(i.zero.map Yn,i.size,i.bytes))=some (some #[z],1,bytes))
  (hb:cap < (o++[n]).length->(o++[n]).length * bytes<=140737488355328/\(o++[n]).length<=9223372036854775807)
  (h:∀ a' cap' w',((o++[n]).length<=cap->a'=a/\cap'=cap)->Heap w0 B w' (G.set i (Res.row E 1 a' (o++[n]).length cap' (Bb (o++[n]))))->C (.slice a' (o++[n]).length cap') w') :
  Np P #[T,T] ty [.slice a o.length cap,.slice (some ⟨w.heap.size,0,none⟩) 1 1] (w.alloc (.cells [Y3 .i64 n].toArray E)) C:=by
 have e:o.length+1=(o++[n]).length:=by simp
 refine Qhj hH i hi hu hz rfl (by rw [e];exact hb) fun a' cap' w' hc hH'=>?_;rw [e] at hc hH' ⊢;exact h a' cap' w' hc (by rw [Qan];exact hH')
theorem Qus {w0:World}{B:List Nat}{G:List Res} (hH:Heap w0 B w G) (i:Nat) {T E ty:TypeId}{bytes:Nat}{z:Value}{a b:Option Addr}{cap m c:Nat}{o t:List Int}{C:Value->World->Prop}
  (hi:G[i]? = some (Res.row E 1 a o.length cap (Bb o))) (hu:P.underlying T=some (.slice E)) (hz:(P.info? E).map (fun i=>(i.zero.map Yn,i.size,i.bytes))=some (some #[z],1,bytes)) (hm:m=t.length) (ht:RS w b t.length 1 (Bb t))
  (hb:cap < (o++t).length->(o++t).length * bytes<=140737488355328/\(o++t).length<=9223372036854775807)
  (h:∀ a' cap' w',((o++t).length<=cap->a'=a/\cap'=cap)->Heap w0 B w' (G.set i (Res.row E 1 a' (o++t).length cap' (Bb (o++t))))->C (.slice a' (o++t).length cap') w') :
  Np P #[T,T] ty [.slice a o.length cap,.slice b m c] w C:=by
 subst hm;have e:o.length+t.length=(o++t).length:=by simp
 refine Ew hH i (sz:=1) (m:=t.length) (news:=Bb t) hi hu hz rfl ⟨rfl,ht,E,hu⟩ (Qx6 t) (by rw [e];exact hb) fun a' cap' w' hc hH'=>?_;rw [e] at hc hH' ⊢;exact h a' cap' w' hc (by rw [Qan];exact hH')
theorem Qqk {w0:World}{B:List Nat}{G:List Res} (hH:Heap w0 B w G) (i:Nat) {T E ty:TypeId}{bytes:Nat}{z:Value}{a b:Option Addr}{cap m c:Nat}{o t:List UInt8}{C:Value->World->Prop}
  (hi:G[i]? = some (Res.row E 1 a o.length cap (An o))) (hu:P.underlying T=some (.slice E)) (hz:(P.info? E).map (fun i=>(i.zero.map Yn,i.size,i.bytes))=some (some #[z],1,bytes)) (hm:m=t.length) (ht:RS w b t.length 1 (An t))
  (hb:cap < (o++t).length->(o++t).length * bytes<=140737488355328/\(o++t).length<=9223372036854775807)
  (h:∀ a' cap' w',((o++t).length<=cap->a'=a/\cap'=cap)->Heap w0 B w' (G.set i (Res.row E 1 a' (o++t).length cap' (An (o++t))))->C (.slice a' (o++t).length cap') w') :
  Np P #[T,T] ty [.slice a o.length cap,.slice b m c] w C:=by
 subst hm;have e:o.length+t.length=(o++t).length:=by simp
 refine Ew hH i (sz:=1) (m:=t.length) (news:=An t) hi hu hz rfl ⟨rfl,ht,E,hu⟩ (Ty t) (by rw [e];exact hb) fun a' cap' w' hc hH'=>?_;rw [e] at hc hH' ⊢;exact h a' cap' w' hc (by rw [Q4];exact hH')
theorem Qtd (a:Addr) (hs:a.spot=none) (k j:Nat):(a.add k).add j=a.add (k+j):=by
 obtain ⟨b,o,s⟩:=a;simp only at hs;subst hs;unfold Addr.add;by_cases hk:k=0
 ·
  subst hk;simp
 by_cases hj:j=0
 ·
  subst hj;simp [hk]
 simp [hk,hj,Nat.add_assoc]
theorem RS.drop {ad:Addr}{n sz:Nat}{xs:List Value} (h:RS w (some ad) n sz xs) (hs:ad.spot=none) (k:Nat) (hk:k<=n):RS w (some (ad.add (k * sz))) (n - k) sz (xs.drop (k * sz)):=by
 refine ⟨by rw [Xw,h.1,Nat.sub_mul],by simp,fun a' ha=>?_⟩;cases ha;intro j u hu;rw [List.getElem?_drop] at hu;rw [Qtd ad hs];exact h.2.2 ad rfl _ u hu
theorem RS.take {a:Option Addr}{n sz:Nat}{xs:List Value} (h:RS w a n sz xs) (m:Nat) (hm:m<=n):RS w a m sz (xs.take (m * sz)):=by
 refine ⟨by rw [Yt,h.1];exact Xa (Ym _ hm),fun ha=>by have:=h.2.1 ha;omega,fun ad ha j u hu=>?_⟩;rw [X7] at hu;split at hu
 ·
  exact h.2.2 ad ha j u hu
 cases hu
theorem Cn {T sz g n cap k:Nat}{xs:List Value}{v:Value} (h:(Res.row T sz (some ⟨g,0,none⟩) n cap xs).holds w) (hv:xs[k]? = some v):w.cell? ⟨g,k,none⟩=some v:=by
 have:=(Az h).2.2 _ rfl k v hv;have hadd:(⟨g,0,none⟩:Addr).add k=⟨g,k,none⟩:=by unfold Addr.add;split <;> simp_all
 rwa [hadd] at this
theorem Ir {T sz n cap:Nat}{a:Option Addr}{xs:List Value} (h:(Res.row T sz a n cap xs).holds w) (hn:0 < n):∃ g,a=some ⟨g,0,none⟩:=by
 obtain ⟨h1,h2,h3,h4⟩:=h;rcases h4 with h4 | ⟨g,rest,fz,h,_⟩
 ·
  omega
 exact ⟨g,h⟩
theorem Heap.readsBytes {w0:World}{B:List Nat}{G:List Res} (hH:Heap w0 B w G) (i:Nat) {E cap:Nat}{a:Option Addr}{o:List UInt8} (hi:G[i]? = some (Res.row E 1 a o.length cap (An o))):Sf w a o.length o :=
 K4 (Az (hH.at i hi))
end
def Bd (ops:List Oper) (plan:List (Nat×Bool)):List (Bool×Oper):=plan.filterMap fun p=>(ops[p.1]?).map fun o=>(p.2,o)
def Rl (ops:Array Oper):List (Nat×Bool)->Array Bool->Bool
 | [],listed=>(Region.ready .any ops listed).isEmpty
 | (i,t)::plan,listed =>
  (decide (i < ops.size)) && (match t with
   | true=>Region.free .any ops listed i && (Region.ready .any ops listed).contains i
   | false=>Region.ready .any ops listed == [i]) && Rl ops plan (listed.setIfInBounds i true)
def pw (b:Bool) (w0 w:World):World:=match b with | true=>w0 | false=>w
def QFa (P:Program) (N:Nat) (o:Oper) (e:Env) (w0 w:World) (R:Env->World->(Env->World->Prop)->Prop) (K:Env->World->Prop):Prop :=
 Mem P N o e w fun v w'=>Ext w0 w'/\R (e.put o.dst v) w' K
def K7 (P:Program) (N:Nat) (p b:Bool) (o:Oper) (e:Env) (w0 w:World) (R:Env->World->(Env->World->Prop)->Prop) (K:Env->World->Prop):Prop :=
 match p,b with
 | true,b=>We P o.op e (pw b w0 w) fun v=>R (e.put o.dst v) w K
 | false,false=>QFa P N o e w0 w R K
 | false,true=>False
def Ap (P:Program) (N:Nat) (ops:List Oper) (w0:World):List (Bool×Oper)->Env->World->(Env->World->Prop)->Prop
 | [],e,w,K=>K e w
 | (b,o)::rest,e,w,K=>Ng ops o.guard e
   (fun e=>K7 P N (Iw P o.op) b o e w0 w (Ap P N ops w0 rest) K)
   (fun e=>Ap P N ops w0 rest (e.put o.dst undef) w K)
theorem Qi2 {P:Program}{N:Nat}{ops:List Oper}{w0:World}{Q:Exit->Act->World->Prop}{K:Env->World->Prop} (hN:ops.all (Co N)=true) (hsel:Region.noSelect ops.toArray=true)
  (hQ:∀ c a w (d:Option Tmp) v,Q (.panic c) (a.put d v) w->Q (.panic c) a w)
  (hK:∀ e a w n,Fits N e a->K e w->Q .normal a (w.drewN n)):∀ (plan:List (Nat×Bool)) (fuel:Nat) (listed:Array Bool) (e:Env) (a:Act) (w:World) (n:Nat),
   plan.length<=fuel->Rl ops.toArray plan listed=true->Fits N e a->Ext w0 w->Ap P N ops w0 (Bd ops plan) e w K ->
   wpAnyH P .any ops.toArray Q (fun w'=>Ext w0 w') fuel listed a (w.drewN n):=by
 intro plan
 induction plan with
 | nil =>
  intro fuel listed e a w n _ hp ha _ h;simp only [Rl,Xg] at hp;exact wpAnyH_done hp (hK e a w n ha h) fuel
 | cons p plan ih =>
  obtain ⟨i,t⟩:=p;intro fuel listed e a w n hf hp ha hx h;simp only [Rl,Yd,decide_eq_true_eq] at hp;obtain ⟨⟨hi,hstep⟩,hp⟩:=hp;have hi':i < ops.length:=by simpa using hi
  obtain ⟨o,ho⟩:∃ o,ops[i]? = some o:=⟨ops[i],Yg hi'⟩;have hoa:ops.toArray[i]? = some o:=by simpa using ho
  have hod:Co N o=true:=by
   rw [Y8] at hN;exact hN o (Yl ho)
  have hpl:Bd ops ((i,t)::plan)=(t,o)::Bd ops plan:=by simp [Bd,ho]
  rw [hpl] at h;cases fuel with
  | zero=>simp at hf
  | succ fuel =>
  have hf':plan.length<=fuel:=by simpa using hf
  rcases Pt ha h with ⟨e',ha',h',hw⟩ | ⟨e',ha',h',hw⟩
  ·
   cases t with
   | true =>
    simp only [Yd] at hstep;have h':K7 P N (Iw P o.op) true o e' w0 w (Ap P N ops w0 (Bd ops plan)) K:=h';cases hpo:Iw P o.op with
    | true =>
     rw [hpo] at h';simp only [K7,pw] at h';obtain ⟨v,hv,hr⟩:=Nv ha' h';refine wpAnyH_take hoa hsel hstep.1 hstep.2 (fun c a w=>hQ c a w o.dst v) (.inl ⟨hw,fun w' hw'=>hr w' hw'⟩) (hx.trans (Ext.drewN w n)) ?_;exact ih fuel _ _ _ w n hf' hp (ha'.put' hod v) hx hv
    | false=>rw [hpo] at h';exact h'.elim
   | false =>
    simp only [beq_iff_eq] at hstep;refine wpAnyH_all hstep (by simp) ?_;intro j hj;simp only [Yz] at hj;subst hj;unfold wpOp;simp only [hoa,hw,if_true];refine .inl ?_;have h':K7 P N (Iw P o.op) false o e' w0 w (Ap P N ops w0 (Bd ops plan)) K:=h';cases hpo:Iw P o.op with
    | true =>
     rw [hpo] at h';simp only [K7,pw] at h';obtain ⟨v,hv,hr⟩:=Nv ha' h';unfold Oper.wp;rw [hr (w.drewN n) (Ext.drewN w n)];exact ⟨hx.trans (Ext.drewN w n),ih fuel _ _ _ w n hf' hp (ha'.put' hod v) hx hv⟩
    | false =>
     rw [hpo] at h';have h':QFa P N o e' w0 w (Ap P N ops w0 (Bd ops plan)) K:=h';exact h' a n _ Q ha' fun v w' m hv=>⟨hv.1.trans (Ext.drewN w' m),ih fuel _ _ _ w' m hf' hp (ha'.put' hod v) hv.1 hv.2⟩
  have hnext:wpAnyH P .any ops.toArray Q (fun w'=>Ext w0 w') fuel (listed.setIfInBounds i true) (a.put o.dst undef) (w.drewN n) :=
   ih fuel _ _ _ w n hf' hp (ha'.put' hod undef) hx h'
  cases t with
  | true =>
   simp only [Yd] at hstep;exact wpAnyH_take hoa hsel hstep.1 hstep.2 (fun c a w=>hQ c a w o.dst undef) (.inr ⟨hw,rfl⟩) (hx.trans (Ext.drewN w n)) hnext
  | false =>
   simp only [beq_iff_eq] at hstep;refine wpAnyH_all hstep (by simp) ?_;intro j hj;simp only [Yz] at hj;subst hj;unfold wpOp;simp only [hoa,hw,Yq,if_false];exact ⟨hx.trans (Ext.drewN w n),hnext⟩
theorem W1 {C:K3}{k:List It}{c:List PanicEntry}{a:Act}{w:World} (d:Option Tmp) (v:Value) (h:Fo C k (.panic c) (a.put d v) w):Fo C k (.panic c) a w:=by
 induction k with
 | nil =>
  have h':bodyPost C.P C.fn (Vv C.F) (.panic c) (a.put d v) w:=h;obtain ⟨h1,h2⟩:=h';have h3:a.defers=[]:=by cases d <;> simpa [Act.put] using h1
  exact (⟨h3,h2⟩:bodyPost C.P C.fn (Vv C.F) (.panic c) a w)
 | cons x k ih=>cases x <;> exact ih h
theorem Qb5 {P:Program}{fn:Func}{F:Value->World->Prop}{N:Nat}{k:List It}{e:Env}{w:World} (w0:World) (hx:Ext w0 w) (ks:List Nat) (plan:List (Nat×Bool)) {id:Nat}{ops:List Oper}{l:List (Bool×Oper)}
  (hm:P.follows .mixedOrders=true) (hB:(Rl ops.toArray plan (Array.replicate ops.toArray.size false) && Region.noSelect ops.toArray && decide (plan.length<=ops.length))=true) (hN:ops.all (Co N)=true) (hl:Bd ops plan=l)
  (h:∀ K:Env->World->Prop,(∀ e w,VC ⟨P,fn,F,N⟩ k e w->K e w)->Ap P N ops w0 l e w (Dm ks K)):VC ⟨P,fn,F,N⟩ (.code (.region id ops.toArray true)::k) e w:=by
 intro a n ha;simp only [Yd,decide_eq_true_eq] at hB;obtain ⟨⟨hB1,hB2⟩,hB3⟩:=hB;refine wp_region_held (S:=fun w'=>Ext w0 w') hm ?_;subst hl;refine Qi2 (K:=Dm ks (VC ⟨P,fn,F,N⟩ k)) hN hB2 (fun c a w d v hq=>W1 d v hq) (fun e a w n ha hv=>?_) plan _ _ e a w (n+1) (by simpa using hB3) hB1 ha hx (h _ fun _ _ hv=>hv);exact ((Ko ks e _).1 hv) a n (ha.sel ks)
theorem Upd.ext {w w':World} (h:Upd [] w w'):Ext w w':=.of_keep fun k hk=>h.block k hk (by simp)
theorem Upd.extH {B:List Nat}{w w':World} (h:Upd B w w'):Ext (holes B w) w':=.holes fun k hk hB=>h.block k hk hB
theorem Heap.ext {w w':World}{G:List Res} (h:Heap w [] w' G):Ext w w':=h.upd.ext
theorem Ext.alloc (w:World) (o:Obj):Ext w (w.alloc o):=.of_keep fun k hk=>RowKit.Below.heap_alloc w o k hk
theorem Qut {C:K3}{k:List It}{l:Nat}{a:Act}{w:World} (h:Fo C k (.goto l) a w):False:=by
 induction k with
 | nil=>exact h
 | cons x k ih=>cases x <;> exact ih h
theorem Vd {C:K3}{k:List It}{e:Env}{w:World}{c:Code} (h:VC C (.code c::k) e w):VC C (.code (.scope c)::k) e w:=by
 intro a n ha;have h1:=h a n ha;simp only [Fo] at h1 ⊢;refine wp_scope_straight (wp_mono h1 fun ex a w hq=>?_);cases ex with
 | goto l=>exact (Qut hq).elim
 | _=>exact hq
section
variable {P:Program}{N:Nat}{d:Option Tmp}{ty:Nat}{pos:String}{af:Array Edge}{gd:Option (Nat×Bool)}{e:Env}{w:World}{R:Env->World->(Env->World->Prop)->Prop}{K:Env->World->Prop}
def QAq (P:Program) (ts:Array TypeId) (ty:TypeId) (vs:List Value) (w:World) (C:Value->World->Prop):Prop :=
 ∀ n,∃ v w' m,(Builtin.copy_ ts ty vs.toArray).run P (w.drewN n)=.ok v (w'.drewN m)/\C v w'
theorem Qdn {az:Array Operand}{ts:Array TypeId} (h:B9 e az.toList fun vs=>QAq P ts ty vs w fun v w'=>R (e.put d v) w' K) :
  Cq P N ⟨d,.call { callee:=.builtin .copy,args:=az,argTypes:=ts },ty,pos,af,gd⟩ e w R K :=
 M8 fun a n ha=>by
  obtain ⟨v,w',m,hr,hC⟩:=Lk (K:=fun vs=>QAq P ts ty vs w fun v w'=>R (e.put d v) w' K) ha h n;refine ⟨v,w',m,?_,hC⟩;simp only [execOp,resolve,invoke,builtin,Ms,Yc,Yb,Ya,hr]
theorem Tz {w0:World}{B:List Nat}{G:List Res} (hH:Heap w0 B w G) (i:Nat) {T T' E ty:TypeId}{sz:Nat}{ad ap:Addr}{n cap m dl c off:Nat}{xs news:List Value}{x:Value}{C:Value->World->Prop}
  (hi:G[i]? = some (Res.row E sz (some ad) n cap xs)) (hu:P.underlying T=some (.slice E)) (hz:P.szo E=some sz) (hp:ap=ad.add off)
  (hs:Src P w x T' sz m news) (h1:∀ u∈news,u.oneCell'=true) (hoff:off+min m dl * sz<=xs.length)
  (h:∀ w',Upd [ad.block] w w'->Heap w0 B w' (G.set i (Res.row E sz (some ad) n cap (xs.take off++news.take (min m dl * sz)++xs.drop (off+min m dl * sz))))->C (.int .i64 (min m dl:Nat)) w') :
  QAq P #[T,T'] ty [.slice (some ap) dl c,x] w C:=by
 intro k;obtain ⟨hxl,hnc,hcm,hcase⟩:=hH.at i hi;rcases hcase with hcase | ⟨g,rest,fz,hg0,hg,hl2,hfz⟩
 ·
  cases hcase.1
 cases hg0;subst hp;have hlt:g < w.heap.size:=(Array.getElem?_eq_some_iff.1 hg).1;obtain ⟨hnl,hlen,_,_⟩:=hs.spec
 have hfirst:(Builtin.firstCells sz (min m dl) x).run P (w.drewN k)=.ok (news.take (min m dl * sz)).toArray (w.drewN k):=by
  cases x with
  | slice a k' c' =>
   obtain ⟨rfl,⟨hr1,hr2,hr3⟩,_⟩:=hs;cases a with
   | none =>
    have hk0:=hr2 rfl;subst hk0;simp [Builtin.firstCells]
   | some ad' =>
    refine run_firstCells_some (P:=P) _ sz (min k' dl) ad' k' c' _ ?_ fun j v hv=>?_
    ·
     rw [Yt,hr1];exact Xa (Ym _ (Nat.min_le_left _ _))
    rw [X7] at hv;split at hv
    ·
     exact (hr3 ad' rfl).heap (w':=w.drewN k) rfl j v hv
    cases hv
  | string s =>
   obtain ⟨rfl,rfl,rfl,_⟩:=hs;simp only [Builtin.firstCells,Yb,Tn,Xh,An,Ba]
   congr 1
   apply Array.ext';simp [List.map_take]
  | _=>exact hs.elim
 have hadd:(⟨g,0,none⟩:Addr).add off=⟨g,off,none⟩:=by unfold Addr.add;split <;> simp_all
 have hnt:(news.take (min m dl * sz)).length=min m dl * sz:=by
  rw [Yt,hnl];exact Xa (Ym _ (Nat.min_le_left _ _))
 have hst:=Wo (P:=P) g off E fz (news.take (min m dl * sz)) 0 (xs++rest) (w.drewN k) hg (by rw [hl2];exact hfz) (by rw [hnt];simp;omega) (fun u hu=>h1 u (List.mem_of_mem_take hu))
 have hcells:(xs++rest).take (off+0)++news.take (min m dl * sz)++(xs++rest).drop (off+0+(news.take (min m dl * sz)).length)=(xs.take off++news.take (min m dl * sz)++xs.drop (off+min m dl * sz))++rest:=by
  rw [hnt,X1,Xj (by omega),Xk (by omega)];simp
 rw [hcells] at hst;have hso:=I9 (P:=P) hz;refine ⟨.int .i64 (min m dl:Nat),Fm w g ((xs.take off++news.take (min m dl * sz)++xs.drop (off+min m dl * sz))++rest) E fz,k,?_,h _ (Sg _ _ _ _ _) (hH.set i hi (Sg _ _ _ _ _) ⟨?_,hnc,hcm,.inr ⟨g,rest,fz,rfl,Sm hlt,?_,hfz⟩⟩ ?_)⟩
 ·
  have hmin:Nat.min m dl=min m dl:=rfl;simp [Builtin.copy_,run_underlying hu,hlen,hso,hmin,hfirst,hadd,hst,Ws,goInt]
 ·
  rw [Yf,Yf,hnt,Yt,Xw,<- hxl];omega
 ·
  rw [Yf,Yf,Yf,hnt,Yt,Xw];rw [Yf] at hl2;omega
 intro b hb;exact ⟨.inl hb,by rw [To];simp [Res.row] at hb;omega⟩
end
def M3 (w0:World) (R:Env->World->(Env->World->Prop)->Prop):Env->World->(Env->World->Prop)->Prop:=fun e w K=>Ext w0 w/\R e w K
section
variable {P:Program}{N:Nat}{ops:List Oper}{rest:List (Bool×Oper)}{d:Option Tmp}{r t ty:Nat}{op:Op}{pos:String}{af:Array Edge}{e:Env}{w w0:World}{K:Env->World->Prop}
theorem QGu (ks:List Nat):Ap P N ops w0 [] e w (Dm ks K)=D9 ks e fun e=>K e w:=rfl
theorem Mu {R:Env->World->(Env->World->Prop)->Prop}:M3 w0 R e w K=(Ext w0 w/\R e w K):=rfl
theorem QOt:pw true w0 w=w0:=rfl
theorem QOu:pw false w0 w=w:=rfl
theorem QGv (x:Operand) (bf:Bool):Ap P N ops w0 ((bf,⟨some r,.move x,ty,pos,af,none⟩)::rest) e w K=Ak e x (fun v=>Ap P N ops w0 rest ((r,v)::e) w K):=rfl
theorem QB3 (x:Operand) (bf:Bool) (jj:Nat) (bb:Bool):Ap P N ops w0 ((bf,⟨some r,.move x,ty,pos,af,some (jj,bb)⟩)::rest) e w K=B1 ops jj bb e (fun e=>Ak e x (fun v=>Ap P N ops w0 rest ((r,v)::e) w K)) (fun e=>Ap P N ops w0 rest ((r,undef)::e) w K):=by rw [<- Cm];rfl
theorem Qx7 (x:Operand) (bf:Bool):Ap P N ops w0 ((bf,⟨some r,.assign x,ty,pos,af,none⟩)::rest) e w K=Ak e x (fun v=>Ap P N ops w0 rest ((r,v)::e) w K):=rfl
theorem QGw (c x y:Operand) (bf:Bool):Ap P N ops w0 ((bf,⟨some r,.pick c x y,ty,pos,af,none⟩)::rest) e w K=Ak e c fun vc=>Ni vc (Ak e x (fun v=>Ap P N ops w0 rest ((r,v)::e) w K)) (Ak e y (fun v=>Ap P N ops w0 rest ((r,v)::e) w K)):=rfl
theorem QB4 (c x y:Operand) (bf:Bool) (jj:Nat) (bb:Bool):Ap P N ops w0 ((bf,⟨some r,.pick c x y,ty,pos,af,some (jj,bb)⟩)::rest) e w K=B1 ops jj bb e (fun e=>Ak e c fun vc=>Ni vc (Ak e x (fun v=>Ap P N ops w0 rest ((r,v)::e) w K)) (Ak e y (fun v=>Ap P N ops w0 rest ((r,v)::e) w K))) (fun e=>Ap P N ops w0 rest ((r,undef)::e) w K):=by rw [<- Cm];rfl
theorem QB5 (op:BinOp) (T T':TypeId) (x y:Operand) (bf:Bool):Ap P N ops w0 ((bf,⟨some r,.binOp op T x y T',ty,pos,af,none⟩)::rest) e w K=Ak e x fun a=>Ak e y fun b=>A8 P op T x y a b (pw bf w0 w) (fun v=>Ap P N ops w0 rest ((r,v)::e) w K):=rfl
theorem Qx8 (op:BinOp) (T T':TypeId) (x y:Operand) (bf:Bool) (jj:Nat) (bb:Bool):Ap P N ops w0 ((bf,⟨some r,.binOp op T x y T',ty,pos,af,some (jj,bb)⟩)::rest) e w K=B1 ops jj bb e (fun e=>Ak e x fun a=>Ak e y fun b=>A8 P op T x y a b (pw bf w0 w) (fun v=>Ap P N ops w0 rest ((r,v)::e) w K)) (fun e=>Ap P N ops w0 rest ((r,undef)::e) w K):=by rw [<- Cm];rfl
theorem QGx (op:UnOp) (T:TypeId) (x:Operand) (bf:Bool):Ap P N ops w0 ((bf,⟨some r,.unOp op T x,ty,pos,af,none⟩)::rest) e w K=Ak e x fun a=>Ml op a (fun v=>Ap P N ops w0 rest ((r,v)::e) w K):=rfl
theorem QB6 (op:UnOp) (T:TypeId) (x:Operand) (bf:Bool) (jj:Nat) (bb:Bool):Ap P N ops w0 ((bf,⟨some r,.unOp op T x,ty,pos,af,some (jj,bb)⟩)::rest) e w K=B1 ops jj bb e (fun e=>Ak e x fun a=>Ml op a (fun v=>Ap P N ops w0 rest ((r,v)::e) w K)) (fun e=>Ap P N ops w0 rest ((r,undef)::e) w K):=by rw [<- Cm];rfl
theorem Qaw (s d:TypeId) (x:Operand) (bf:Bool):Ap P N ops w0 ((bf,⟨some r,.convert s d x,ty,pos,af,none⟩)::rest) e w K=K7 P N (C4 P s d) bf ⟨some r,.convert s d x,ty,pos,af,none⟩ e w0 w (Ap P N ops w0 rest) K:=rfl
theorem Quu (s d:TypeId) (x:Operand) (bf:Bool) (hc:C4 P s d=true):Ap P N ops w0 ((bf,⟨some r,.convert s d x,ty,pos,af,none⟩)::rest) e w K=Ak e x fun a=>Dl P s d a (pw bf w0 w) (fun v=>Ap P N ops w0 rest ((r,v)::e) w K):=by rw [Qaw,hc];rfl
theorem Qql (s d:TypeId) (x:Operand) (hc:C4 P s d=false):Ap P N ops w0 ((false,⟨some r,.convert s d x,ty,pos,af,none⟩)::rest) e w K=Cq P N ⟨some r,.convert s d x,ty,pos,af,none⟩ e w (M3 w0 (Ap P N ops w0 rest)) K:=by rw [Qaw,hc];rfl
theorem Qe2 (s d:TypeId) (x:Operand) (bf:Bool) (jj:Nat) (bb:Bool):Ap P N ops w0 ((bf,⟨some r,.convert s d x,ty,pos,af,some (jj,bb)⟩)::rest) e w K=B1 ops jj bb e (fun e=>K7 P N (C4 P s d) bf ⟨some r,.convert s d x,ty,pos,af,some (jj,bb)⟩ e w0 w (Ap P N ops w0 rest) K) (fun e=>Ap P N ops w0 rest ((r,undef)::e) w K):=by rw [<- Cm];rfl
theorem Qqm (s d:TypeId) (x:Operand) (bf:Bool) (jj:Nat) (bb:Bool) (hc:C4 P s d=true):Ap P N ops w0 ((bf,⟨some r,.convert s d x,ty,pos,af,some (jj,bb)⟩)::rest) e w K=B1 ops jj bb e (fun e=>Ak e x fun a=>Dl P s d a (pw bf w0 w) (fun v=>Ap P N ops w0 rest ((r,v)::e) w K)) (fun e=>Ap P N ops w0 rest ((r,undef)::e) w K):=by rw [Qe2,hc];rfl
theorem QB7 (T:TypeId) (x:Operand) (lo hi:Option Operand) (bf:Bool):Ap P N ops w0 ((bf,⟨some r,.slice T x lo hi none,ty,pos,af,none⟩)::rest) e w K=Ak e x fun a=>Ic e lo fun l=>Ic e hi fun h=>B7 P T a l h (fun v=>Ap P N ops w0 rest ((r,v)::e) w K):=rfl
theorem Qx9 (T:TypeId) (x:Operand) (lo hi:Option Operand) (bf:Bool) (jj:Nat) (bb:Bool):Ap P N ops w0 ((bf,⟨some r,.slice T x lo hi none,ty,pos,af,some (jj,bb)⟩)::rest) e w K=B1 ops jj bb e (fun e=>Ak e x fun a=>Ic e lo fun l=>Ic e hi fun h=>B7 P T a l h (fun v=>Ap P N ops w0 rest ((r,v)::e) w K)) (fun e=>Ap P N ops w0 rest ((r,undef)::e) w K):=by rw [<- Cm];rfl
theorem Qmy (S:TypeId) (x:Operand) (f:Nat) (bf:Bool):Ap P N ops w0 ((bf,⟨some r,.fieldAddr S x f,ty,pos,af,none⟩)::rest) e w K=Ak e x fun a=>By P S a f (fun v=>Ap P N ops w0 rest ((r,v)::e) w K):=rfl
theorem Qkn (S:TypeId) (x:Operand) (f:Nat) (bf:Bool) (jj:Nat) (bb:Bool):Ap P N ops w0 ((bf,⟨some r,.fieldAddr S x f,ty,pos,af,some (jj,bb)⟩)::rest) e w K=B1 ops jj bb e (fun e=>Ak e x fun a=>By P S a f (fun v=>Ap P N ops w0 rest ((r,v)::e) w K)) (fun e=>Ap P N ops w0 rest ((r,undef)::e) w K):=by rw [<- Cm];rfl
theorem Qmz (T:TypeId) (x i:Operand) (bf:Bool):Ap P N ops w0 ((bf,⟨some r,.indexAddr T x i,ty,pos,af,none⟩)::rest) e w K=Ak e x fun a=>Ak e i fun n=>Cu P T a n (fun v=>Ap P N ops w0 rest ((r,v)::e) w K):=rfl
theorem Qko (T:TypeId) (x i:Operand) (bf:Bool) (jj:Nat) (bb:Bool):Ap P N ops w0 ((bf,⟨some r,.indexAddr T x i,ty,pos,af,some (jj,bb)⟩)::rest) e w K=B1 ops jj bb e (fun e=>Ak e x fun a=>Ak e i fun n=>Cu P T a n (fun v=>Ap P N ops w0 rest ((r,v)::e) w K)) (fun e=>Ap P N ops w0 rest ((r,undef)::e) w K):=by rw [<- Cm];rfl
theorem QB8 (T:TypeId) (x i:Operand) (bf:Bool):Ap P N ops w0 ((bf,⟨some r,.index T x i,ty,pos,af,none⟩)::rest) e w K=Ak e x fun a=>Ak e i fun n=>D4 P T a n (fun v=>Ap P N ops w0 rest ((r,v)::e) w K):=rfl
theorem Qya (T:TypeId) (x i:Operand) (bf:Bool) (jj:Nat) (bb:Bool):Ap P N ops w0 ((bf,⟨some r,.index T x i,ty,pos,af,some (jj,bb)⟩)::rest) e w K=B1 ops jj bb e (fun e=>Ak e x fun a=>Ak e i fun n=>D4 P T a n (fun v=>Ap P N ops w0 rest ((r,v)::e) w K)) (fun e=>Ap P N ops w0 rest ((r,undef)::e) w K):=by rw [<- Cm];rfl
theorem Quv (x:Operand) (i:Nat) (bf:Bool):Ap P N ops w0 ((bf,⟨some r,.extract x i,ty,pos,af,none⟩)::rest) e w K=Ak e x fun a=>Ss a i (fun v=>Ap P N ops w0 rest ((r,v)::e) w K):=rfl
theorem QB9 (T:TypeId) (ps:Array (Nat×Operand)) (bf:Bool):Ap P N ops w0 ((bf,⟨some r,.build T ps,ty,pos,af,none⟩)::rest) e w K=L9 e ps.toList fun vs=>Cs P T vs (fun v=>Ap P N ops w0 rest ((r,v)::e) w K):=rfl
theorem QGy (T:TypeId) (x:Operand) (bf:Bool):Ap P N ops w0 ((bf,⟨some r,.load T x,ty,pos,af,none⟩)::rest) e w K=Ak e x fun a=>Bf P T a (pw bf w0 w) (fun v=>Ap P N ops w0 rest ((r,v)::e) w K):=rfl
theorem QCa (T:TypeId) (x:Operand) (bf:Bool) (jj:Nat) (bb:Bool):Ap P N ops w0 ((bf,⟨some r,.load T x,ty,pos,af,some (jj,bb)⟩)::rest) e w K=B1 ops jj bb e (fun e=>Ak e x fun a=>Bf P T a (pw bf w0 w) (fun v=>Ap P N ops w0 rest ((r,v)::e) w K)) (fun e=>Ap P N ops w0 rest ((r,undef)::e) w K):=by rw [<- Cm];rfl
theorem Qqn (x:Operand) (bf:Bool):Ap P N ops w0 ((bf,⟨some r,.nilCheck x,ty,pos,af,none⟩)::rest) e w K=Ak e x fun a=>M2 a (fun v=>Ap P N ops w0 rest ((r,v)::e) w K):=rfl
theorem Qm0 (x:Operand) (bf:Bool) (jj:Nat) (bb:Bool):Ap P N ops w0 ((bf,⟨some r,.nilCheck x,ty,pos,af,some (jj,bb)⟩)::rest) e w K=B1 ops jj bb e (fun e=>Ak e x fun a=>M2 a (fun v=>Ap P N ops w0 rest ((r,v)::e) w K)) (fun e=>Ap P N ops w0 rest ((r,undef)::e) w K):=by rw [<- Cm];rfl
theorem QK2 (az:Array Operand) (ts:Array TypeId) (bf:Bool):Ap P N ops w0 ((bf,⟨some r,.call { callee:=.builtin .len,args:=az,argTypes:=ts },ty,pos,af,none⟩)::rest) e w K=B9 e az.toList fun vs=>Qq P ts[0]? vs (fun v=>Ap P N ops w0 rest ((r,v)::e) w K):=rfl
theorem QGz (az:Array Operand) (ts:Array TypeId) (bf:Bool) (jj:Nat) (bb:Bool):Ap P N ops w0 ((bf,⟨some r,.call { callee:=.builtin .len,args:=az,argTypes:=ts },ty,pos,af,some (jj,bb)⟩)::rest) e w K=B1 ops jj bb e (fun e=>B9 e az.toList fun vs=>Qq P ts[0]? vs (fun v=>Ap P N ops w0 rest ((r,v)::e) w K)) (fun e=>Ap P N ops w0 rest ((r,undef)::e) w K):=by rw [<- Cm];rfl
theorem Qyb (az:Array Operand) (ts:Array TypeId):Ap P N ops w0 ((false,⟨d,.call { callee:=.builtin .append,args:=az,argTypes:=ts },ty,pos,af,none⟩)::rest) e w K=Cq P N ⟨d,.call { callee:=.builtin .append,args:=az,argTypes:=ts },ty,pos,af,none⟩ e w (M3 w0 (Ap P N ops w0 rest)) K:=rfl
theorem QG0 (az:Array Operand) (ts:Array TypeId):Ap P N ops w0 ((false,⟨d,.call { callee:=.builtin .copy,args:=az,argTypes:=ts },ty,pos,af,none⟩)::rest) e w K=Cq P N ⟨d,.call { callee:=.builtin .copy,args:=az,argTypes:=ts },ty,pos,af,none⟩ e w (M3 w0 (Ap P N ops w0 rest)) K:=rfl
theorem QK3 (az:Array Operand) (ts:Array TypeId):Ap P N ops w0 ((false,⟨d,.call { callee:=.builtin .cap,args:=az,argTypes:=ts },ty,pos,af,none⟩)::rest) e w K=Cq P N ⟨d,.call { callee:=.builtin .cap,args:=az,argTypes:=ts },ty,pos,af,none⟩ e w (M3 w0 (Ap P N ops w0 rest)) K:=rfl
theorem QCb (x:Operand) (az:Array Operand) (ts:Array TypeId):Ap P N ops w0 ((false,⟨d,.call { callee:=.value x,args:=az,argTypes:=ts },ty,pos,af,none⟩)::rest) e w K=Cq P N ⟨d,.call { callee:=.value x,args:=az,argTypes:=ts },ty,pos,af,none⟩ e w (M3 w0 (Ap P N ops w0 rest)) K:=rfl
theorem Qyc (x:Operand) (az:Array Operand) (ts:Array TypeId) (jj:Nat) (bb:Bool):Ap P N ops w0 ((false,⟨d,.call { callee:=.value x,args:=az,argTypes:=ts },ty,pos,af,some (jj,bb)⟩)::rest) e w K=B1 ops jj bb e (fun e=>Cq P N ⟨d,.call { callee:=.value x,args:=az,argTypes:=ts },ty,pos,af,some (jj,bb)⟩ e w (M3 w0 (Ap P N ops w0 rest)) K) (fun e=>Ap P N ops w0 rest (e.put d undef) w K):=by rw [<- Cm];rfl
theorem QCc (T:TypeId):Ap P N ops w0 ((false,⟨d,.alloc T,ty,pos,af,none⟩)::rest) e w K=Cq P N ⟨d,.alloc T,ty,pos,af,none⟩ e w (M3 w0 (Ap P N ops w0 rest)) K:=rfl
theorem Qkp (T:TypeId) (n:Nat) (ps:Array (Nat×Operand)):Ap P N ops w0 ((false,⟨d,.buildSlice T n ps,ty,pos,af,none⟩)::rest) e w K=Cq P N ⟨d,.buildSlice T n ps,ty,pos,af,none⟩ e w (M3 w0 (Ap P N ops w0 rest)) K:=rfl
theorem QCd (T:TypeId) (x y:Operand):Ap P N ops w0 ((false,⟨d,.store T x y,ty,pos,af,none⟩)::rest) e w K=Cq P N ⟨d,.store T x y,ty,pos,af,none⟩ e w (M3 w0 (Ap P N ops w0 rest)) K:=rfl
theorem Qm1 (T:TypeId) (x y:Operand):Ap P N ops w0 ((false,⟨d,.makeSlice T x y,ty,pos,af,none⟩)::rest) e w K=Cq P N ⟨d,.makeSlice T x y,ty,pos,af,none⟩ e w (M3 w0 (Ap P N ops w0 rest)) K:=rfl
end
theorem tn1 (a b:Nat):((a:Int)+(b:Int)).toNat=a+b:=by omega
theorem tn2 (a:Nat):(a:Int).toNat=a:=by omega
theorem tn3 (a k:Nat):((a:Int)+(no_index (OfNat.ofNat k:Int))).toNat=a+(OfNat.ofNat k:Nat):=Xp (a+k)
theorem tn5 (a b:Nat):((a:Int) - (b:Int)).toNat=a - b:=by omega
theorem tn4 (a k:Nat):((a:Int) - (no_index (OfNat.ofNat k:Int))).toNat=a - (OfNat.ofNat k:Nat):=tn5 a k
attribute [go_sem] tn1 tn2 tn3 tn4 tn5
attribute [go_sem ↓] QGu Mu QOt QOu QGv QB3 Qx7 QGw QB4 QB5 Qx8 QGx QB6 Quu Qql Qqm QB7 Qx9 Qmy Qkn Qmz Qko QB8 Qya Quv QB9 QGy QCa Qqn Qm0 QK2 QGz Qyb QG0 QK3 QCb Qyc QCc Qkp QCd Qm1
def Kw (ops:Array Oper):List (Nat×Bool)->Array Bool->Option (Array Bool)
 | [],listed=>some listed
 | (i,t)::plan,listed =>
  if (decide (i < ops.size) && (match t with
   | true=>Region.free .any ops listed i && (Region.ready .any ops listed).contains i
   | false=>Region.ready .any ops listed == [i]))=true then Kw ops plan (listed.setIfInBounds i true) else none
theorem Qyd {α:Type}{c:Prop} [Decidable c] {a:Option α}{x:α} (h:(if c then a else none)=some x):c/\a=some x:=by
 by_cases hc:c
 ·
  rw [if_pos hc] at h;exact ⟨hc,h⟩
 rw [if_neg hc] at h;cases h
inductive M4 where
 | seq (pre:List (Nat×Bool)):M4
 | two (pre:List (Nat×Bool)) (i j:Nat) (k k':M4):M4
def N1 (ops:Array Oper):M4->Nat->Array Bool->Bool
 | .seq pre,fuel,listed=>decide (pre.length<=fuel) && match Kw ops pre listed with
  | some l=>(Region.ready .any ops l).isEmpty
  | none=>false
 | .two pre i j k k',fuel,listed=>decide (pre.length+1<=fuel) && match Kw ops pre listed with
  | some l=>Region.ready .any ops l == [i,j] && decide (i < ops.size) && decide (j < ops.size) && N1 ops k (fuel - pre.length - 1) (l.setIfInBounds i true) && N1 ops k' (fuel - pre.length - 1) (l.setIfInBounds j true)
  | none=>false
def Ti (P:Program) (N:Nat) (ops:List Oper) (w0:World):M4->Env->World->(Env->World->Prop)->Prop
 | .seq pre,e,w,K=>Ap P N ops w0 (Bd ops pre) e w K
 | .two pre i j k k',e,w,K=>Ap P N ops w0 (Bd ops pre) e w fun e w =>
   Ap P N ops w0 (Bd ops [(i,false)]) e w (fun e w=>Ti P N ops w0 k e w K)/\Ap P N ops w0 (Bd ops [(j,false)]) e w (fun e w=>Ti P N ops w0 k' e w K)
section
variable {P:Program}{N:Nat}{ops:List Oper}{w0:World}{Q:Exit->Act->World->Prop}
theorem Ny {K:Env->World->Prop} (hN:ops.all (Co N)=true) {i:Nat} (hi:i < ops.length) {R:Act->World->Prop}{e:Env}{a:Act}{w:World}{n:Nat} (ha:Fits N e a) (hx:Ext w0 w)
  (h:Ap P N ops w0 (Bd ops [(i,false)]) e w K) (hR:∀ e a w n,Fits N e a->Ext w0 w->K e w->R a (w.drewN n)):wpOp P ops.toArray Q i R a (w.drewN n):=by
 obtain ⟨o,ho⟩:∃ o,ops[i]? = some o:=⟨ops[i],Yg hi⟩;have hoa:ops.toArray[i]? = some o:=by simpa using ho
 have hod:Co N o=true:=by
  rw [Y8] at hN;exact hN o (Yl ho)
 have hpl:Bd ops [(i,false)]=[(false,o)]:=by simp [Bd,ho]
 rw [hpl] at h;rcases Pt ha h with ⟨e',ha',h',hw⟩ | ⟨e',ha',h',hw⟩
 ·
  unfold wpOp;simp only [hoa,hw,if_true];refine .inl ?_;have h':K7 P N (Iw P o.op) false o e' w0 w (Ap P N ops w0 []) K:=h';cases hpo:Iw P o.op with
  | true =>
   rw [hpo] at h';simp only [K7,pw] at h';obtain ⟨v,hv,hr⟩:=Nv ha' h';unfold Oper.wp;rw [hr (w.drewN n) (Ext.drewN w n)];exact hR _ _ w n (ha'.put' hod v) hx hv
  | false =>
   rw [hpo] at h';have h':QFa P N o e' w0 w (Ap P N ops w0 []) K:=h';exact h' a n _ Q ha' fun v w' m hv=>hR _ _ w' m (ha'.put' hod v) hv.1 hv.2
 unfold wpOp;simp only [hoa,hw,Yq,if_false];exact hR _ _ w n (ha'.put' hod undef) hx h'
theorem Rb {K:Env->World->Prop} (hN:ops.all (Co N)=true) (hsel:Region.noSelect ops.toArray=true)
  (hQ:∀ c a w (d:Option Tmp) v,Q (.panic c) (a.put d v) w->Q (.panic c) a w):∀ (plan:List (Nat×Bool)) (fuel:Nat) (listed l':Array Bool) (e:Env) (a:Act) (w:World) (n:Nat),
   plan.length<=fuel->Kw ops.toArray plan listed=some l'->Fits N e a->Ext w0 w->Ap P N ops w0 (Bd ops plan) e w K ->
   (∀ e a w n,Fits N e a->Ext w0 w->K e w->wpAnyH P .any ops.toArray Q (fun w'=>Ext w0 w') (fuel - plan.length) l' a (w.drewN n)) ->
   wpAnyH P .any ops.toArray Q (fun w'=>Ext w0 w') fuel listed a (w.drewN n):=by
 intro plan
 induction plan with
 | nil =>
  intro fuel listed l' e a w n _ hp ha hx h hK;simp only [Kw,Option.some.injEq] at hp;subst hp;exact hK e a w n ha hx h
 | cons p plan ih =>
  obtain ⟨i,t⟩:=p;intro fuel listed l' e a w n hf hp ha hx h hK;simp only [Kw] at hp;obtain ⟨hstep,hp2⟩:=Qyd hp;clear hp;simp only [Yd,decide_eq_true_eq] at hstep;obtain ⟨hi,hstep⟩:=hstep;have hi':i < ops.length:=by simpa using hi
  obtain ⟨o,ho⟩:∃ o,ops[i]? = some o:=⟨ops[i],Yg hi'⟩;have hoa:ops.toArray[i]? = some o:=by simpa using ho
  have hod:Co N o=true:=by
   rw [Y8] at hN;exact hN o (Yl ho)
  have hpl:Bd ops ((i,t)::plan)=(t,o)::Bd ops plan:=by simp [Bd,ho]
  cases fuel with
  | zero=>simp at hf
  | succ fuel =>
  have hf':plan.length<=fuel:=by simpa using hf
  have hK':∀ e a w n,Fits N e a->Ext w0 w->K e w->wpAnyH P .any ops.toArray Q (fun w'=>Ext w0 w') (fuel - plan.length) l' a (w.drewN n):=by
   intro e a w n h1 h2 h3;have:=hK e a w n h1 h2 h3;simpa using this
  cases t with
  | true =>
   rw [hpl] at h;simp only [Yd] at hstep;rcases Pt ha h with ⟨e',ha',h',hw⟩ | ⟨e',ha',h',hw⟩
   ·
    have h':K7 P N (Iw P o.op) true o e' w0 w (Ap P N ops w0 (Bd ops plan)) K:=h';cases hpo:Iw P o.op with
    | true =>
     rw [hpo] at h';simp only [K7,pw] at h';obtain ⟨v,hv,hr⟩:=Nv ha' h';refine wpAnyH_take hoa hsel hstep.1 hstep.2 (fun c a w=>hQ c a w o.dst v) (.inl ⟨hw,fun w' hw'=>hr w' hw'⟩) (hx.trans (Ext.drewN w n)) ?_;exact ih fuel _ _ _ _ w n hf' hp2 (ha'.put' hod v) hx hv hK'
    | false=>rw [hpo] at h';exact h'.elim
   exact wpAnyH_take hoa hsel hstep.1 hstep.2 (fun c a w=>hQ c a w o.dst undef) (.inr ⟨hw,rfl⟩) (hx.trans (Ext.drewN w n)) (ih fuel _ _ _ _ w n hf' hp2 (ha'.put' hod undef) hx h' hK')
  | false =>
   simp only [beq_iff_eq] at hstep;refine wpAnyH_all hstep (by simp) ?_;intro j hj;simp only [Yz] at hj;subst hj
   have h2:Ap P N ops w0 (Bd ops [(j,false)]) e w (fun e w=>Ap P N ops w0 (Bd ops plan) e w K):=by
    rw [hpl] at h;have hp1:Bd ops [(j,false)]=[(false,o)]:=by simp [Bd,ho]
    rw [hp1];exact h
   exact Ny hN hi' ha hx h2 fun e a w n h1 h2 h3=>⟨h2.trans (Ext.drewN w n),ih fuel _ _ _ _ w n hf' hp2 h1 h2 h3 hK'⟩
theorem Quw {K:Env->World->Prop} (hN:ops.all (Co N)=true) (hsel:Region.noSelect ops.toArray=true)
  (hQ:∀ c a w (d:Option Tmp) v,Q (.panic c) (a.put d v) w->Q (.panic c) a w)
  (hK:∀ e a w n,Fits N e a->K e w->Q .normal a (w.drewN n)):∀ (t:M4) (fuel:Nat) (listed:Array Bool) (e:Env) (a:Act) (w:World) (n:Nat),
   N1 ops.toArray t fuel listed=true->Fits N e a->Ext w0 w->Ti P N ops w0 t e w K ->
   wpAnyH P .any ops.toArray Q (fun w'=>Ext w0 w') fuel listed a (w.drewN n):=by
 intro t
 induction t with
 | seq pre =>
  intro fuel listed e a w n ht ha hx h;simp only [N1,Yd,decide_eq_true_eq] at ht;obtain ⟨hf,ht⟩:=ht;cases hp:Kw ops.toArray pre listed with
  | none=>rw [hp] at ht;cases ht
  | some l =>
   rw [hp] at ht;simp only [Xg] at ht;exact Rb hN hsel hQ pre fuel listed l e a w n hf hp ha hx h fun e a w n h1 _ h3=>wpAnyH_done ht (hK e a w n h1 h3) _
 | two pre i j k k' ihk ihk' =>
  intro fuel listed e a w n ht ha hx h;simp only [N1,Yd,decide_eq_true_eq] at ht;obtain ⟨hf,ht⟩:=ht;cases hp:Kw ops.toArray pre listed with
  | none=>rw [hp] at ht;cases ht
  | some l =>
   rw [hp] at ht;simp only [Yd,beq_iff_eq,decide_eq_true_eq] at ht;obtain ⟨⟨⟨⟨hr,hi⟩,hj⟩,h1⟩,h2⟩:=ht;refine Rb hN hsel hQ pre fuel listed l e a w n (by omega) hp ha hx h fun e a w n g1 g2 g3=>?_;obtain ⟨m,hm⟩:∃ m,fuel - pre.length=m+1:=⟨fuel - pre.length - 1,by omega⟩;rw [hm];have hm':fuel - pre.length - 1=m:=by omega
   rw [hm'] at h1 h2;refine wpAnyH_all hr (by simp) ?_;intro x hx2;simp only [Yr,Xx,or_false] at hx2;rcases hx2 with rfl | rfl
   ·
    exact Ny hN (by simpa using hi) g1 g2 g3.1 fun e a w n f1 f2 f3=>⟨f2.trans (Ext.drewN w n),ihk m _ e a w n h1 f1 f2 f3⟩
   exact Ny hN (by simpa using hj) g1 g2 g3.2 fun e a w n f1 f2 f3=>⟨f2.trans (Ext.drewN w n),ihk' m _ e a w n h2 f1 f2 f3⟩
end
section
variable {P:Program}{N:Nat}{d:Option Tmp}{ty:Nat}{pos:String}{af:Array Edge}{gd:Option (Nat×Bool)}{e:Env}{w:World}{R:Env->World->(Env->World->Prop)->Prop}{K:Env->World->Prop}
theorem Qcs {w0:World}{B:List Nat}{G:List Res} (hH:Heap w0 B w G) (i:Nat) {T T' E ty:TypeId}{bytes:Nat}{zv:Value}{a:Option Addr}{n cap m:Nat}{xs:List Value}
  (hi:G[i]? = some (Res.row E 1 a n cap xs)) (hu:P.underlying T=some (.slice E)) (hz:(P.info? E).map (fun i=>(i.zero.map Yn,i.size,i.bytes))=some (some #[zv],1,bytes))
  (hT':P.underlying T'=some (.int .i64)) (h1:zv.oneCell'=true) (hm0:¬ m=0) (hmb:m * bytes<=281474976710656) (hm63:m<=9223372036854775807) (hb:cap < n+m->(n+m) * bytes<=140737488355328/\n+m<=9223372036854775807) (k:Nat) :
  ∃ a' cap' w' k',(Builtin.append_ #[T,T'] ty #[.slice a n cap,.int .i64 m]).run P (w.drewN k)=.ok (.slice a' (n+m) cap') (w'.drewN k')/\Heap w0 B w' (G.set i (Res.row E 1 a' (n+m) cap' (xs++Ye m zv)))/\(n+m<=cap->a'=a/\cap'=cap):=by
 have hrow:=hH.at i hi;obtain ⟨hxl,hnc,hcm,hcase⟩:=hrow;generalize hnews:Ye m zv=news;have hnl:news.length=m * 1:=by rw [<- hnews];simp
 have h1:∀ u∈news,u.oneCell'=true:=by
  intro u hu;rw [<- hnews] at hu;rw [(List.mem_replicate.1 hu).2];exact h1
 cases hinfo:P.info? E with
 | none=>simp [hinfo] at hz
 | some ti =>
 simp only [hinfo,Option.map_some,Option.some.injEq,Prod.mk.injEq] at hz;obtain ⟨hz1,hz2,hz3⟩:=hz;cases hzz:ti.zero with
 | none=>simp [hzz] at hz1
 | some z =>
 simp only [hzz,Option.map_some,Option.some.injEq] at hz1;have hso:∀ w,(sizeOf E).run P w=.ok 1 w:=fun w=>by simp [sizeOf,typeInfo,hinfo,hz2]
 have hti:∀ w,(typeInfo E).run P w=.ok ti w:=fun w=>by simp [typeInfo,hinfo]
 have hzv:∀ w,(zeroValue E).run P w=.ok z w:=fun w=>by simp [zeroValue,typeInfo,hinfo,hzz]
 have hund:∀ w,(underlying T').run P w=.ok (.int .i64) w:=fun w=>run_underlying hT' w;have hwr:IntKind.i64.wrap (m:Int)=m:=R8 ⟨by omega,by omega⟩;have hneg:¬ (m:Int) < 0:=by omega
 have hw0:IntKind.i64.wrap 0=0:=by decide
 have hbig:¬ 281474976710656 < (m:Int) * (bytes:Int):=by
  have:((m * bytes:Nat):Int)=(m:Int) * (bytes:Int):=Xl _ _;omega
 have hzc:Builtin.zeroCells z.cells m=news.toArray:=by
  rw [hz1,<- hnews];apply Array.ext
  ·
   simp [Builtin.zeroCells]
  intro j h1 h2;simp [Builtin.zeroCells,Nat.mod_one]
 by_cases hroom:n+m<=cap
 ·
  rcases hcase with ⟨rfl,rfl,rfl⟩ | ⟨g,rest,fz,rfl,hg,hl2,hfz⟩
  ·
   have hm:m=0:=by omega
   subst hm;have hn:news=[]:=Yh (by simpa using hnl);subst hn;refine ⟨none,0,w,k,?_,?_,fun _=>⟨rfl,rfl⟩⟩
   ·
    simp [Builtin.append_,run_underlying hu,hso,hund,asInt,asIntOf,hw0,hwr,hneg,hbig,hz3,hti,hm0,hzv,hzc]
   have:xs++[]=xs:=by simp
   rw [this]
   have:G.set i (Res.row E 1 none 0 0 xs)=G:=by
    apply Xq;intro j;rw [Xr];split
    ·
     rename_i hj;subst hj;split <;> simp_all
    rfl
   simp only [Xz];rw [this];exact hH
  have hlt:g < w.heap.size:=(Array.getElem?_eq_some_iff.1 hg).1;have hfit:n * 1+news.length<=(xs++rest).length:=by rw [hl2,hnl,<- Yo];exact Ym _ hroom
  have hst:=Wo (P:=P) g (n * 1) E fz news 0 (xs++rest) (w.drewN k) hg (by rw [hl2];exact hfz) (by simpa using hfit) h1;have hadd:(⟨g,0,none⟩:Addr).add (n * 1)=⟨g,n * 1,none⟩:=by unfold Addr.add;split <;> simp_all
  have hcs:(xs++rest).take (n * 1+0)++news++(xs++rest).drop (n * 1+0+news.length)=(xs++news)++rest.drop news.length:=by
   rw [X1,<- hxl,List.take_left];rw [Xv];simp
  rw [hcs] at hst;have hadd':(⟨g,0,none⟩:Addr).add n=⟨g,n,none⟩:=by rw [Xh] at hadd;exact hadd
  have hst':=hst;rw [Xh] at hst';refine ⟨some ⟨g,0,none⟩,cap,Fm w g ((xs++news)++rest.drop news.length) E fz,k,?_,?_,fun _=>⟨rfl,rfl⟩⟩
  ·
   simp [Builtin.append_,run_underlying hu,hso,hund,asInt,asIntOf,hw0,hwr,hneg,hbig,hz3,hti,hm0,hzv,hzc,hroom,hadd',hst',Ws]
  refine hH.set i hi (Sg _ _ _ _ _) ⟨?_,hroom,hcm,.inr ⟨g,rest.drop news.length,fz,rfl,Sm hlt,?_,hfz⟩⟩ ?_
  ·
   rw [Yf,hxl,hnl,Yo]
  ·
   simp at hl2 hfit ⊢;omega
  intro b hb;exact ⟨.inl hb,by rw [To];simp [Res.row] at hb;omega⟩
 obtain ⟨hb1,hb2⟩:=hb (by omega)
 have hg63:¬ ((n+m:Nat):Int) > IntKind.i64.max:=by
  have:IntKind.i64.max=9223372036854775807:=by decide
  rw [this];omega
 have hfits:¬ (Builtin.nextslicecap (n+m) cap * ti.bytes > 2 ^ 48):=by
  have:=growslice_fits (need:=n+m) (old:=cap) (bytes:=ti.bytes) (by omega) (by rw [hz3];exact hb1);have e:(2:Nat) ^ 48=281474976710656:=by decide
  rw [e];omega
 have hold:(Builtin.firstCells 1 n (.slice a n cap)).run P (w.drewN (k+1))=.ok xs.toArray (w.drewN (k+1)):=by
  have hrs:=Az (hH.at i hi);cases a with
  | none =>
   have hn0:=hrs.2.1 rfl;subst hn0;have:xs=[]:=Yh (by simpa using hxl);subst this;simp [Builtin.firstCells]
  | some ad=>exact run_firstCells_some (P:=P) _ 1 n ad n cap xs hxl (fun j v hv=>(hrs.2.2 ad rfl).heap (w':=w.drewN (k+1)) rfl j v hv)
 have hge:=grownCap_ge (w.drewN k) (n+m) cap E;have hcm':=grownCap_le_maxLen (w.drewN k) (n+m) cap E (by simp only [maxLen];omega);refine ⟨some ⟨w.heap.size,0,none⟩,grownCap (w.drewN k) (n+m) cap E,w.alloc (.cells (xs.toArray++news.toArray++Builtin.zeroCells z.cells (grownCap (w.drewN k) (n+m) cap E - (n+m))) E),k+1,?_,?_,fun h=>absurd h hroom⟩
 ·
  have hz2':¬ (9223372036854775807 < ((n:Int)+(m:Int))):=by omega
  have hz3':¬ (281474976710656 < Builtin.nextslicecap (n+m) cap * ti.bytes):=by
   have e:(2:Nat) ^ 48=281474976710656:=by decide
   rw [e] at hfits;omega
  have hf2:=hzv (w.drewN (k+1));have hra:=fun n w=>Wv (P:=P) n w;simp [Builtin.append_,run_underlying hu,hso,hund,asInt,asIntOf,hwr,hneg,hbig,hz3,hm0,hzc,hroom,hti,hz2',(hz3 ▸ hz3'),hra,hold,hf2,hzv,M9,Question.forced,grownCap];rw [Qea]
  congr 3
  apply Array.ext';simp
 have hcells:(xs.toArray++news.toArray++Builtin.zeroCells z.cells (grownCap (w.drewN k) (n+m) cap E - (n+m)))=((xs++news)++(Builtin.zeroCells z.cells (grownCap (w.drewN k) (n+m) cap E - (n+m))).toList).toArray:=by
  apply Array.ext';simp
 rw [hcells];have hzc:z.cells.size=1:=by rw [hz1];rfl
 refine hH.set i hi ⟨rfl,rfl,rfl,by simp,fun k hk _=>RowKit.Below.heap_alloc _ _ _ hk⟩ ⟨?_,hge,hcm',.inr ⟨w.heap.size,_,(0,0),rfl,heap_alloc_new w _,?_,Qmd _⟩⟩ ?_
 ·
  rw [Yf,hxl,hnl,Yo]
 ·
  rw [Yf,Yf,hxl,hnl,Array.length_toList,size_zeroCells,hzc,<- Yo,<- Yo]
  congr 1;omega
 intro b hb;simp [Res.row] at hb;subst hb;exact ⟨.inr (Y6 _),by simp⟩
theorem Qct {w0:World}{B:List Nat}{G:List Res} (hH:Heap w0 B w G) (i:Nat) {T T' E ty:TypeId}{bytes:Nat}{zv:Value}{a:Option Addr}{n cap:Nat}{xs:List Value}
  (hi:G[i]? = some (Res.row E 1 a n cap xs)) (hu:P.underlying T=some (.slice E)) (hz:(P.info? E).map (fun i=>(i.zero.map Yn,i.size,i.bytes))=some (some #[zv],1,bytes)) (hT':P.underlying T'=some (.int .i64)) (k:Nat) :
  (Builtin.append_ #[T,T'] ty #[.slice a n cap,.int .i64 0]).run P (w.drewN k)=.ok (.slice a n cap) (w.drewN k):=by
 obtain ⟨hxl,hnc,hcm,hcase⟩:=hH.at i hi;cases hinfo:P.info? E with
 | none=>simp [hinfo] at hz
 | some ti =>
 simp only [hinfo,Option.map_some,Option.some.injEq,Prod.mk.injEq] at hz;obtain ⟨hz1,hz2,hz3⟩:=hz;have hso:∀ w,(sizeOf E).run P w=.ok 1 w:=fun w=>by simp [sizeOf,typeInfo,hinfo,hz2]
 have hti:∀ w,(typeInfo E).run P w=.ok ti w:=fun w=>by simp [typeInfo,hinfo]
 have hund:∀ w,(underlying T').run P w=.ok (.int .i64) w:=fun w=>run_underlying hT' w;have hw0:IntKind.i64.wrap 0=0:=by decide
 cases a with
 | none=>simp [Builtin.append_,run_underlying hu,hso,hund,asInt,asIntOf,hw0,hti,hnc]
 | some ad=>simp [Builtin.append_,run_underlying hu,hso,hund,asInt,asIntOf,hw0,hti,hnc,storeCells]
theorem Qqo {w0:World}{B:List Nat}{G:List Res} (hH:Heap w0 B w G) (i:Nat) {T T' E ty:TypeId}{bytes:Nat}{zv:Value}{a:Option Addr}{n cap m:Nat}{xs:List Value}{x:Int}{C:Value->World->Prop}
  (hi:G[i]? = some (Res.row E 1 a n cap xs)) (hx:x=m) (hu:P.underlying T=some (.slice E)) (hz:(P.info? E).map (fun i=>(i.zero.map Yn,i.size,i.bytes))=some (some #[zv],1,bytes))
  (hT':P.underlying T'=some (.int .i64)) (h1:zv.oneCell'=true) (hb:(n+m) * bytes<=140737488355328/\n+m<=9223372036854775807)
  (h:∀ a' cap' w',(n+m<=cap->a'=a/\cap'=cap)->Heap w0 B w' (G.set i (Res.row E 1 a' (n+m) cap' (xs++Ye m zv)))->C (.slice a' (n+m) cap') w') :
  Np P #[T,T'] ty [.slice a n cap,.int .i64 x] w C:=by
 subst hx;intro k;have hle:m * bytes<=(n+m) * bytes:=Ym _ (by omega);by_cases hm0:m=0
 ·
  subst hm0
  have e:G.set i (Res.row E 1 a (n+0) cap (xs++Ye 0 zv))=G:=by
   simp only [X1,List.replicate_zero,Y2]
   exact Xq fun j=>by
    rw [Xr];split
    ·
     rename_i hj;subst hj;rw [hi];simp [(Yp.1 hi).1]
    rfl
  exact ⟨_,w,k,Qct (P:=P) (ty:=ty) hH i hi hu hz hT' k,h a cap w (fun _=>⟨rfl,rfl⟩) (by rw [e];exact hH)⟩
 obtain ⟨a',cap',w',k',hr,hH',hc⟩:=Qcs (P:=P) (ty:=ty) hH i hi hu hz hT' h1 hm0 (by omega) (by omega) (fun _=>hb) k;exact ⟨_,w',k',hr,h a' cap' w' hc hH'⟩
theorem Heap.focus {w0:World}{B:List Nat}{G:List Res}{r:Res} (h:Heap w0 B w G) (i:Nat) (hi:G[i]? = some r):Heap w r.foot w [r] :=
 Heap.one (h.at i hi) fun b hb=>(h.foot r (Yl hi) b hb).2
theorem Fb {w0:World}{B:List Nat}{G:List Res} (hH:Heap w0 B w G) (vs0:List Value) {T E:TypeId}{n:Nat}{ps:Array (Nat×Operand)}{xs:List Operand} (hu:P.underlying T=some (.slice E)) (hsz:P.szo E=some 1) (hz:(P.zeroOf E).isSome=true)
  (hps:ps.toList=(xs.zipIdx).map fun p=>(p.2,p.1)) (hn:n=xs.length) (hb:n<=1000000)
  (h:B9 e xs fun vs=>vs=vs0/\(∀ v∈vs,v.cells=#[v])/\∀ g w',Heap w0 B w' (Res.row E 1 (some ⟨g,0,none⟩) n n vs0::G)->R (e.put d (.slice (some ⟨g,0,none⟩) n n)) w' K) :
  Cq P N ⟨d,.buildSlice T n ps,ty,pos,af,gd⟩ e w R K:=by
 refine Kp hu hsz hz hps hn hb ?_
 have key:∀ (xs:List Operand) (K K':List Value->Prop),B9 e xs K->(∀ vs,vs.length=xs.length->K vs->K' vs)->B9 e xs K':=by
  intro xs
  induction xs with
  | nil=>intro K K' h hk;exact hk [] rfl h
  | cons x xs ih =>
   intro K K' h hk;simp only [B9] at h ⊢
   have ka:∀ (K K':Value->Prop),Ak e x K->(∀ v,K v->K' v)->Ak e x K':=by
    intro K K' h2 hk2
    have kt:∀ (e:Env) (n:Nat),Fp e n K->Fp e n K':=by
     intro e
     induction e with
     | nil=>intro n h;exact h
     | cons p e ihe =>
      intro n h;simp only [Fp] at h ⊢;split
      ·
       rename_i hn;rw [if_pos hn] at h;exact hk2 _ h
      rename_i hn;rw [if_neg hn] at h;exact ihe _ h
    cases x with
    | tmp t=>exact kt e t h2
    | const v=>exact hk2 _ h2
    | global g=>exact hk2 _ h2
    | func f=>exact hk2 _ h2
   exact ka _ _ h fun v hv=>ih _ _ hv fun vs hl hvs=>hk (v::vs) (by simp [hl]) hvs
 refine key xs _ _ h fun vs hl hv=>?_;obtain ⟨rfl,h1,h2⟩:=hv;refine ⟨h1,?_⟩;have:=hH.row E (n:=n) (cap:=n) (sz:=1) vs [] (by rw [hl,hn];omega) (by rw [Y2,hl,hn];omega) (Y6 _) (by omega);rw [Y2] at this;exact h2 _ _ this
end
section
variable {P:Program}{N:Nat}{d:Option Tmp}{ty:Nat}{pos:String}{af:Array Edge}{gd:Option (Nat×Bool)}{e:Env}{w:World}{R:Env->World->(Env->World->Prop)->Prop}{RQ:Env->World->(Env->Prop)->Prop}{K:Env->World->Prop}{KQ:Env->Prop}{KV:Value->Prop}
def FnK (P:Program) (fv:Value) (vs:List Value) (w:World) (C:Value->World->Prop):Prop :=
 ∃ f first cs,fv=.func (.func f) first cs/\(∀ args w,(callFunc f args).run P w=.ok (.enter f args) w)/\CallK P f (first.toList++vs++cs.toList) w C
theorem Cc {x:Operand}{az:Array Operand}{ts:Array TypeId}
  (h:Ak e x fun fv=>B9 e az.toList fun vs=>FnK P fv vs w fun v w'=>R (e.put d v) w' K) :
  Cq P N ⟨d,.call { callee:=.value x,args:=az,argTypes:=ts },ty,pos,af,gd⟩ e w R K:=by
 intro a n next Q ha hK;have h0:=Cx (K:=fun fv=>B9 e az.toList fun vs=>FnK P fv vs w fun v w'=>R (e.put d v) w' K) ha h;have h1:=Lk (K:=fun vs=>FnK P (a.eval x) vs w fun v w'=>R (e.put d v) w' K) ha h0;obtain ⟨f,first,cs,hx,hf,F,hD,hC⟩:=h1;have hm:(az.map a.eval)=(az.toList.map a.eval).toArray:=Ms az a
 have e1:first++(az.toList.map a.eval).toArray++cs=(first.toList++az.toList.map a.eval++cs.toList).toArray:=by
  apply Array.ext';simp
 have hrun:(execOp a.eval ⟨d,.call { callee:=.value x,args:=az,argTypes:=ts },ty,pos,af,gd⟩).run P (w.drewN n)=.ok (.enter f (first.toList++az.toList.map a.eval++cs.toList).toArray) (w.drewN n):=by
  simp only [execOp,Go.resolve,hx,Deferred.ofValue,Yc,Yb,Ya,invoke];rw [hm,e1,hf]
 unfold Oper.wp;rw [hrun];exact (hD n).mono fun e' w' ⟨v,w'',m,he,hw,hF⟩=>by subst he;subst hw;exact hK v w'' m (hC v w'' hF)
theorem FnK.mk {f:FuncId}{first cs:Array Value}{vs:List Value}{C F:Value->World->Prop} (hf:∀ args w,(callFunc f args).run P w=.ok (.enter f args) w)
  (h:Does P f (first.toList++vs++cs.toList).toArray w F) (hc:∀ v w',F v w'->C v w'):FnK P (.func (.func f) first cs) vs w C:=⟨f,first,cs,rfl,hf,F,h,hc⟩
theorem Qg {op:BinOp}{T:TypeId}{xo yo:Operand}{x y:Value}{b:Bool} (h:∀ w',(do eqGuard op T xo yo x y;binOp op T x y:Sem Value).run P w'=.ok (.bool b) w'):EqR P op T xo yo x y w KV=KV (.bool b):=by
 apply propext;constructor
 ·
  rintro ⟨b',hr,hk⟩;have h1:=hr w (Ext.refl w);rw [h w] at h1;simp only [Result.ok.injEq,Value.bool.injEq] at h1;rw [h1.1];exact hk
 intro hk;exact ⟨b,fun w' _=>h w',hk⟩
theorem Tk {op:BinOp}{T:TypeId}{xo yo:Operand}{x y:Value} (h:(∀ c,x≠.agg c)/\x≠.nilIface) (w:World):(eqGuard op T xo yo x y).run P w=.ok () w:=Wu h w
theorem Qkq {T E:TypeId} (hu:P.underlying T=some (.pointer E)) (d:Nat) (a:Option Addr) (w:World):(Op.equalIn (d+1) T (.pointer a) (.pointer none)).run P w=.ok a.isNone w:=by
 unfold Op.equalIn;cases a <;> simp [run_underlying hu]
theorem Qga {T E:TypeId} (hu:P.underlying T=some (.pointer E)) (a:Option Addr) (w:World):(Op.equal T (.pointer a) (.pointer none)).run P w=.ok a.isNone w:=Qkq hu 9999 a w
theorem Qkr {T:TypeId}{ps rs:Array TypeId}{v:Bool} (hu:P.underlying T=some (.func ps rs v)) (d:Nat) (f:Fn) (x y:Array Value) (w:World):(Op.equalIn (d+1) T (.func f x y) .nilFunc).run P w=.ok false w:=by
 unfold Op.equalIn;simp [run_underlying hu]
theorem Qqp {T:TypeId}{ps rs:Array TypeId}{v:Bool} (hu:P.underlying T=some (.func ps rs v)) (f:Fn) (x y:Array Value) (w:World):(Op.equal T (.func f x y) .nilFunc).run P w=.ok false w:=Qkr hu 9999 f x y w
theorem Vz {T E:TypeId} (hu:P.underlying T=some (.pointer E)) (a:Option Addr) (xo yo:Operand):A8 P .eql T xo yo (.pointer a) (.pointer none) w KV=KV (.bool a.isNone):=by
 refine Qg fun w'=>?_;simp only [Yc];rw [Tk ⟨by simp,by simp⟩];simp only [Ya,binOp,Yc,Qga hu,Yb]
theorem Qs0 {T E:TypeId} (hu:P.underlying T=some (.pointer E)) (a:Option Addr) (xo yo:Operand):A8 P .neq T xo yo (.pointer a) (.pointer none) w KV=KV (.bool ! a.isNone):=by
 refine Qg fun w'=>?_;simp only [Yc];rw [Tk ⟨by simp,by simp⟩];simp only [Ya,binOp,Yc,Qga hu,Yb]
theorem QG1 {T:TypeId}{ps rs:Array TypeId}{v:Bool} (hu:P.underlying T=some (.func ps rs v)) (f:Fn) (x y:Array Value) (xo yo:Operand):A8 P .eql T xo yo (.func f x y) .nilFunc w KV=KV (.bool false):=by
 refine Qg fun w'=>?_;simp only [Yc];rw [Tk ⟨by simp,by simp⟩];simp only [Ya,binOp,Yc,Qqp hu,Yb]
def Res.pair (r s:Res):Res where
 foot:=r.foot++s.foot
 holds:=fun w=>r.holds w/\s.holds w/\Apart r s
 loc:=by
  rintro w w' hb ⟨h1,h2,h3⟩;exact ⟨r.loc w w' (fun b h=>hb b (Yv _ h)) h1,s.loc w w' (fun b h=>hb b (Yu _ h)) h2,h3⟩
theorem Heap.unpair {w0:World}{B:List Nat}{G:List Res}{r s:Res} (h:Heap w0 B w (Res.pair r s::G)):Heap w0 B w (r::s::G):=by
 obtain ⟨h1,h2,h3⟩:=h.holds (Res.pair r s) (by simp);have hf:=h.foot (Res.pair r s) (by simp);have ha:=Yj.1 h.apart;refine ⟨h.upd,?_,?_,?_⟩
 ·
  intro x hx;simp only [Yr] at hx;rcases hx with rfl | rfl | hx
  ·
   exact h1
  ·
   exact h2
  exact h.holds x (by simp [hx])
 ·
  intro x hx b hb;simp only [Yr] at hx;rcases hx with rfl | rfl | hx
  ·
   exact hf b (Yv _ hb)
  ·
   exact hf b (Yu _ hb)
  exact h.foot x (by simp [hx]) b hb
 rw [Yj,Yj];refine ⟨fun x hx=>?_,fun x hx b hb=>ha.1 x hx b (Yu _ hb),ha.2⟩;rcases Yr.1 hx with rfl | hx
 ·
  exact h3
 exact fun b hb=>ha.1 x hx b (Yv _ hb)
theorem Heap.pair {w0:World}{B:List Nat}{G:List Res}{r s:Res} (h:Heap w0 B w (r::s::G)):Heap w0 B w (Res.pair r s::G):=by
 have ha:=Yj.1 h.apart;have ha2:=Yj.1 ha.2;refine ⟨h.upd,?_,?_,?_⟩
 ·
  intro x hx;rcases Yr.1 hx with rfl | hx
  ·
   exact ⟨h.holds r (by simp),h.holds s (by simp),ha.1 s (by simp)⟩
  exact h.holds x (by simp [hx])
 ·
  intro x hx b hb;rcases Yr.1 hx with rfl | hx
  ·
   rcases Y1.1 hb with hb | hb
   ·
    exact h.foot r (by simp) b hb
   exact h.foot s (by simp) b hb
  exact h.foot x (by simp [hx]) b hb
 rw [Yj];refine ⟨fun x hx b hb=>?_,ha2.2⟩;rcases Y1.1 hb with hb | hb
 ·
  exact ha.1 x (by simp [hx]) b hb
 exact ha2.1 x hx b hb
theorem Aj {g T k:Nat}{cs:List Value}{v:Value} (h:(Res.blk g T cs).holds w) (hv:cs[k]? = some v):w.cell? ⟨g,k,none⟩=some v:=by
 obtain ⟨fz,hg,_⟩:=h;simp [World.cell?,hg,hv]
theorem Ca {g T:Nat}{cs:List Value} (h:(Res.blk g T cs).holds w):Reads w ⟨g,0,none⟩ cs:=by
 intro j u hu;have hadd:(⟨g,0,none⟩:Addr).add j=⟨g,j,none⟩:=by unfold Addr.add;split <;> simp_all
 rw [hadd];exact Aj h hu
theorem B0 (g o k:Nat):(⟨g,o,none⟩:Addr).add k=⟨g,o+k,none⟩:=by unfold Addr.add;split <;> simp_all
def Res.bag (l:List Res):Res where
 foot:=l.flatMap Res.foot
 holds:=fun w=>(∀ r∈l,r.holds w)/\l.Pairwise Apart
 loc:=by
  rintro w w' hb ⟨h1,h2⟩;exact ⟨fun r hr=>r.loc w w' (fun b h=>hb b (Yx.2 ⟨r,hr,h⟩)) (h1 r hr),h2⟩
theorem Heap.unbag {w0:World}{B:List Nat}{G l:List Res} (h:Heap w0 B w (Res.bag l::G)):Heap w0 B w (l++G):=by
 obtain ⟨h1,h2⟩:=h.holds (Res.bag l) (by simp);have hf:=h.foot (Res.bag l) (by simp);have ha:=Yj.1 h.apart;refine ⟨h.upd,?_,?_,?_⟩
 ·
  intro x hx;rcases Y1.1 hx with hx | hx
  ·
   exact h1 x hx
  exact h.holds x (by simp [hx])
 ·
  intro x hx b hb;rcases Y1.1 hx with hx | hx
  ·
   exact hf b (Yx.2 ⟨x,hx,hb⟩)
  exact h.foot x (by simp [hx]) b hb
 rw [Xi];exact ⟨h2,ha.2,fun r hr s hs b hb=>ha.1 s hs b (Yx.2 ⟨r,hr,hb⟩)⟩
theorem Heap.bag {w0:World}{B:List Nat}{G:List Res} (l:List Res) (h:Heap w0 B w (l++G)):Heap w0 B w (Res.bag l::G):=by
 have ha:=Xi.1 h.apart;refine ⟨h.upd,?_,?_,?_⟩
 ·
  intro x hx;rcases Yr.1 hx with rfl | hx
  ·
   exact ⟨fun r hr=>h.holds r (Yv _ hr),ha.1⟩
  exact h.holds x (Yu _ hx)
 ·
  intro x hx b hb;rcases Yr.1 hx with rfl | hx
  ·
   obtain ⟨r,hr,hb⟩:=Yx.1 hb;exact h.foot r (Yv _ hr) b hb
  exact h.foot x (Yu _ hx) b hb
 rw [Yj];refine ⟨fun x hx b hb=>?_,ha.2.1⟩;obtain ⟨r,hr,hb⟩:=Yx.1 hb;exact ha.2.2 r hr x hx b hb
theorem Heap.front {w0:World}{B:List Nat}{G:List Res}{r:Res} (i:Nat) (h:Heap w0 B w G) (hi:G[i]? = some r):Heap w0 B w (r::G.eraseIdx i):=by
 refine h.perm ?_
 have:∀ (G:List Res) (i:Nat),G[i]? = some r->G.Perm (r::G.eraseIdx i):=by
  intro G
  induction G with
  | nil=>intro i h;simp at h
  | cons x G ih =>
   intro i h;cases i with
   | zero=>simp at h;subst h;exact List.Perm.refl _
   | succ i =>
    rw [List.eraseIdx_cons_succ];exact ((ih i (by simpa using h)).cons x).trans (List.Perm.swap _ _ _)
 exact this G i hi
def Bk:List Value->Nat->(Value->Prop)->Prop
 | [],_,_=>False
 | v::_,0,K=>K v
 | _::l,i+1,K=>Bk l i K
theorem Qux (v:Value) (l:List Value):Bk (v::l) 0 KV=KV v:=rfl
theorem Quy (v:Value) (l:List Value) (i:Nat):Bk (v::l) (i+1) KV=Bk l i KV:=rfl
theorem Qte (l:List Value):∀ (i:Nat) (K:Value->Prop),Bk l i K=match l[i]? with | some v=>K v | none=>False:=by
 induction l with
 | nil=>intro i K;simp [Bk]
 | cons v l ih =>
  intro i K;cases i with
  | zero=>simp [Bk]
  | succ i=>simp [Bk,ih]
def T1 (d:Option TypeDesc):Bool:=match d with
 | some (.struct _) | some (.array _ _) | none=>false
 | some _=>true
def Oz (d:Option TypeDesc):Bool:=match d with
 | some (.struct _) | some (.array _ _)=>true
 | _=>false
theorem Qi3 {T:TypeId} (l:List Value) (off:Nat) (h:T1 (P.underlying T)=true):Qm P T l.toArray off KV=Bk l off KV:=by
 rw [Qte,Qm];cases hu:P.underlying T with
 | none=>simp [hu,T1] at h
 | some d =>
  cases d <;> first
   | (exfalso;simp [T1,hu] at h;done)
   | (simp only [List.getElem?_toArray] <;> cases l[off]? <;> rfl)
theorem Qye {T:TypeId} (l:List Value) (off n:Nat) (h:Oz (P.underlying T)=true) (hz:P.szo T=some n):Qm P T l.toArray off KV=KV (.agg ((l.take (off+n)).drop off).toArray):=by
 have e:l.toArray.extract off (off+n)=((l.take (off+n)).drop off).toArray:=by
  apply Array.ext';simp [Xn];rw [List.drop_take];congr 1;omega
 rw [Qm];cases hu:P.underlying T with
 | none=>simp [hu,Oz] at h
 | some d=>cases d <;> simp_all [Oz]
theorem C1 (S f:Nat) (l:List Value) {fields:Array Field}{fd:Field}{o:Nat} (h:P.underlying S=some (.struct fields)) (hf:fields[f]? = some fd) (hp:T1 (P.underlying fd.type)=true) (ho:fd.offset=o) (_hz:P.szo fd.type=some 1):B3 P S (.agg l.toArray) f KV=Bk l o KV:=by
 subst ho;simp only [B3,h,hf,Qi3 l _ hp]
theorem Rm (S f:Nat) (l:List Value) (n:Nat) {fields:Array Field}{fd:Field}{o m:Nat} (h:P.underlying S=some (.struct fields)) (hf:fields[f]? = some fd) (hp:Oz (P.underlying fd.type)=true) (ho:(fd.offset,fd.offset+n)=(o,m)) (hz:P.szo fd.type=some n):B3 P S (.agg l.toArray) f KV=KV (.agg ((l.take m).drop o).toArray):=by
 simp only [Prod.mk.injEq] at ho;obtain ⟨rfl,rfl⟩:=ho;simp only [B3,h,hf,Qye l _ n hp hz]
theorem Dg {T:TypeId}{ps:List (Nat×Value)}{cells:Array Value} (h:P.built T ps=some cells):Cs P T ps KV=KV (.agg cells):=by simp [Cs,h]
theorem Ma (T:TypeId) (l:List Value) (k:IntKind) (i:Int) {n E:Nat} (h:P.underlying T=some (.array n E)) (hz:P.szo E=some 1) (hp:T1 (P.underlying E)=true) (_hn:P.szo T=some n):D4 P T (.agg l.toArray) (.int k i) KV=((0<=i/\i < (n:Int))/\Bk l i.toNat KV):=by
 simp only [D4,h,hz,Xh,Qi3 l _ hp]
end
attribute [go_sem ↓] Qux Quy
attribute [go_sem] B0 Option.isNone_some Option.isNone_none
theorem Qm2 {P:Program}{N:Nat}{ops rest:List Oper}{Q:Exit->Act->World->Prop}{K:Env->World->Prop}{w:World}{n:Nat} (hR:rest.all (Co N)=true)
  (hK:∀ e a w n,Fits N e a->K e w->Q .normal a (w.drewN n)):∀ (pre:List Oper) (e:Env) (a:Act),pre.all (Co N)=true->pre.all (fun o=>Iw P o.op)=true->Fits N e a ->
   Aq P N ops (pre++rest) e w K->wpStill P ops.toArray (w.drewN n) (fun a'=>wpList P ops.toArray Q rest a' (w.drewN n)) pre a:=by
 intro pre
 induction pre with
 | nil=>intro e a _ _ ha h;exact R9 hK rest e a w n hR ha h
 | cons o pre ih =>
  intro e a hl hp ha h;simp only [X6,Yd] at hl hp;unfold wpStill;rcases Pt ha h with ⟨e',ha',h',hw⟩ | ⟨e',ha',h',hw⟩
  ·
   rw [if_pos hw];unfold Vw at h';rw [hp.1] at h';obtain ⟨v,hv,hr⟩:=Nv ha' h';unfold Oper.still;rw [hr (w.drewN n) (Ext.drewN w n)];exact ⟨rfl,ih _ _ hl.2 hp.2 (ha'.put' hl.1 v) hv⟩
  rw [if_neg (by rw [hw];simp)];exact ih _ _ hl.2 hp.2 (ha'.put' hl.1 undef) h'
theorem W2 {P:Program}{fn:Func}{F:Value->World->Prop}{N:Nat}{k:List It}{e:Env}{w:World} (ks:List Nat) (m:Nat) {id:Nat}{ops:List Oper} (hm:P.follows .mixedOrders=true)
  (hB:Region.lexTailB .any ops.toArray m=true) (hp:(ops.take m).all (fun o=>Iw P o.op)=true) (hN:ops.all (Co N)=true)
  (h:∀ K:Env->World->Prop,(∀ e w,VC ⟨P,fn,F,N⟩ k e w->K e w)->Aq P N ops ops e w (Dm ks K)):VC ⟨P,fn,F,N⟩ (.code (.region id ops.toArray true)::k) e w:=by
 intro a n ha;have hN':=hN;rw [<- Y5 m ops,List.all_append,Yd] at hN';refine wp_region_still_tail m hm hB ?_
 show wpStill P ops.toArray (w.drewN (n+1)) (fun a'=>wpList P ops.toArray (fun ex a w=>Fo ⟨P,fn,F,N⟩ k ex a w) (ops.drop m) a' (w.drewN (n+1))) (ops.take m) a
 refine Qm2 (n:=n+1) (K:=Dm ks (VC ⟨P,fn,F,N⟩ k)) hN'.2 (fun e a w n ha hv=>?_) (ops.take m) e a hN'.1 hp ha ?_
 ·
  exact ((Ko ks e _).1 hv) a n (ha.sel ks)
 rw [Y5];exact h _ fun _ _ hv=>hv
theorem bytesV_take (l:List UInt8) (k:Nat):(An l).take k=An (l.take k):=by simp [An]
theorem bytesV_drop (l:List UInt8) (k:Nat):(An l).drop k=An (l.drop k):=by simp [An]
theorem bytesV_zero (n:Nat):Ye n (Y3 .u8 0)=An (Ye n 0):=by simp [An]
theorem bytesV_get {l:List UInt8}{i:Nat} (h:i < l.length):(An l)[i]? = some (.int .u8 (l.getD i 0).toNat):=by
 simp [An,Yg h,Yi]
theorem intsV_zero (n:Nat):Ye n (Y3 .i64 0)=Bb (Ye n 0):=by simp [Bb]
theorem L6 {l:List Int}{i:Nat} (h:i < l.length):(Bb l)[i]? = some (.int .i64 (l.getD i 0)):=by
 simp [Bb,Yg h,Yi]
theorem Qi4 (l:List Int) (i:Nat) (v:Int):(Bb l).set i (.int .i64 v)=Bb (l.set i v):=by simp [Bb,List.map_set]
theorem Tt (l:List UInt8) (i:Nat) (v:UInt8):(An l).set i (.int .u8 v.toNat)=An (l.set i v):=by simp [An,List.map_set]
theorem Di {α:Type} (l:List α) (i:Nat) (v:α) (h:i < l.length):l.take i++[v]++l.drop (i+1)=l.set i v:=by
 rw [Xc,if_pos h,Yw];rfl
theorem Dt {w:World}{a:Option Addr}{n sz:Nat}{xs:List Value} (h:RS w a n sz xs) (hn:0 < n):∃ p,a=some p:=by
 cases a with
 | none=>have:=h.2.1 rfl;omega
 | some p=>exact ⟨p,rfl⟩
theorem Rn {w:World}{p:Addr}{l:List Int}{n:Nat} (h:RS w (some p) n 1 (Bb l)) {i:Nat} (hi:i < l.length):w.cell? (p.add i)=some (.int .i64 (l.getD i 0)) :=
 h.2.2 p rfl i _ (L6 hi)
theorem drop_getD {α:Type}{l:List α}{i:Nat} (d:α) (h:i < l.length):l.drop i=l.getD i d::l.drop (i+1):=by
 rw [List.drop_eq_getElem_cons h,Yi,Yg h];rfl
theorem Mq {α:Type}{l:List α}{i:Nat} (d:α) (h:i < l.length):l.take (i+1)=l.take i++[l.getD i d]:=by
 rw [List.take_add_one,Yi,Yg h];rfl
theorem Dr {α:Type}{l:List α}{i:Nat} (d:α) (h:i < l.length):l.getD i d∈l:=by
 rw [Yi,Yg h];exact List.getElem_mem h
theorem Zl {w:World}{E sz:Nat}:Heap w [] w [Res.row E sz none 0 0 []]:=Heap.one (r:=Res.row E sz none 0 0 []) (Qlw E sz w) (by intro b hb;cases hb)
theorem Heap.nilRow {w0 w:World}{B:List Nat}{G:List Res} (h:Heap w0 B w G) (E sz:Nat):Heap w0 B w (Res.row E sz none 0 0 []::G):=h.call0 (G':=[Res.row E sz none 0 0 []]) Zl
theorem S1 {k:IntKind}{i:Int}{n:Nat} (h:i=n) (hn:n<=k.bits):Bx k i=n:=by subst h;simp [Bx];exact Xa hn
theorem S5 {k:IntKind}{i:Int}{n:Nat} (h:i=n) (hn:n<=k.bits) (hk:k.bits<=64):Bx k (i % 18446744073709551616)=n:=by
 subst h;rw [Xo (by omega) (by omega),Bx];simp;exact Xa hn
theorem Qi5 (n:Nat):((2:Int) ^ n)=((2 ^ n:Nat):Int):=by push_cast;rfl
theorem Pz (v n:Nat):(v:Int) / 2 ^ n=((v / 2 ^ n:Nat):Int):=by rw [Qi5,<- Int.natCast_ediv]
theorem Zm (v n:Nat):(v:Int) * 2 ^ n=((v * 2 ^ n:Nat):Int):=by rw [Qi5,<- Xl]
theorem Oo {P:Program}{T:TypeId}{a:Addr}{w:World}{K:Value->Prop} (h:Bf P T (.pointer (some a)) w K) :
  ∃ v,K v/\∀ w',Ext w w'->(loadVar T a).run P w'=.ok v w':=by
 have key:∀ (n:Nat),(P.szo T=some n)->(∀ w,(isAgg T).run P w=.ok true w)->∀ cs:List Value,cs.length=n->Reads w a cs ->
   ∀ w',Ext w w'->(loadVar T a).run P w'=.ok (.agg cs.toArray) w':=by
  intro n hn hagg cs hl hr w' hw;have:=Qaa (P:=P) (hr.ext hw);rw [hl] at this;simp [loadVar,hagg,I9 hn,this]
 unfold Bf at h;simp only at h;split at h
 ·
  rename_i hu;split at h
  ·
   rename_i n hn;obtain ⟨cs,⟨hl,hr⟩,hK⟩:=h;exact ⟨_,hK,key n hn (fun w=>by simp [isAgg,run_underlying hu]) cs hl hr⟩
  exact h.elim
 ·
  rename_i hu;split at h
  ·
   rename_i n hn;obtain ⟨cs,⟨hl,hr⟩,hK⟩:=h;exact ⟨_,hK,key n hn (fun w=>by simp [isAgg,run_underlying hu]) cs hl hr⟩
  exact h.elim
 ·
  rename_i d hd1 hd2 hu;obtain ⟨v,hv,hK⟩:=h;refine ⟨v,hK,fun w' hw=>?_⟩;have hc:w'.cell? a=some v:=hw.cell hv
  have:(isAgg T).run P w'=.ok false w':=by
   cases d <;> simp_all [isAgg,run_underlying hu]
  simp [loadVar,this,hc]
 exact h.elim
section
variable {C:K3}{e:Env}{w:World}
theorem Ve {t:Tmp}{T:TypeId}{a:Addr} (hr:C.fn.results=#[.cell t T]) (ht:e.find? t=some (.pointer (some a))) (h:Bf C.P T (.pointer (some a)) w fun v=>C.F v w):VX C [] .ret e w:=by
 intro ac n ha;obtain ⟨v,hv,hrun⟩:=Oo h;refine ⟨ha.defers,v,?_,v,w,n,rfl,rfl,hv⟩;have h1:=ha.at_ t _ ht;rw [Array.getD_eq_getD_getElem?] at h1;have h2:=hrun (w.drewN n) (Ext.drewN w n);simp [results,hr,h1,asAddr,h2]
theorem I4 {t u:Tmp}{T:TypeId}{a:Addr}{x:Value} (hr:C.fn.results=#[.cell t T,.tmp u]) (ht:e.find? t=some (.pointer (some a))) (hu:e.find? u=some x) (h:Bf C.P T (.pointer (some a)) w fun v=>C.F (.tuple #[v,x]) w):VX C [] .ret e w:=by
 intro ac n ha;obtain ⟨v,hv,hrun⟩:=Oo h;refine ⟨ha.defers,.tuple #[v,x],?_,_,w,n,rfl,rfl,hv⟩;have h1:=ha.at_ t _ ht;rw [Array.getD_eq_getD_getElem?] at h1;have h3:=ha.at_ u _ hu;rw [Array.getD_eq_getD_getElem?] at h3;have h2:=hrun (w.drewN n) (Ext.drewN w n);simp [results,hr,h1,h3,asAddr,h2]
theorem I5 {t u s:Tmp}{T:TypeId}{a:Addr}{x y:Value} (hr:C.fn.results=#[.cell t T,.tmp u,.tmp s]) (ht:e.find? t=some (.pointer (some a))) (hu:e.find? u=some x) (hs:e.find? s=some y) (h:Bf C.P T (.pointer (some a)) w fun v=>C.F (.tuple #[v,x,y]) w):VX C [] .ret e w:=by
 intro ac n ha;obtain ⟨v,hv,hrun⟩:=Oo h;refine ⟨ha.defers,.tuple #[v,x,y],?_,_,w,n,rfl,rfl,hv⟩;have h1:=ha.at_ t _ ht;rw [Array.getD_eq_getD_getElem?] at h1;have h3:=ha.at_ u _ hu;rw [Array.getD_eq_getD_getElem?] at h3;have h4:=ha.at_ s _ hs;rw [Array.getD_eq_getD_getElem?] at h4;have h2:=hrun (w.drewN n) (Ext.drewN w n);simp [results,hr,h1,h3,h4,asAddr,h2]
end
theorem Cv {P:Program}{T:TypeId}{g T' n:Nat}{cs:List Value}{w:World}{K:Value->Prop} (h:(Res.blk g T' cs).holds w) (hd:Oz (P.underlying T)=true) (hz:P.szo T=some n) (hn:cs.length=n) (hk:K (.agg cs.toArray)):Bf P T (.pointer (some ⟨g,0,none⟩)) w K:=by
 unfold Bf;cases hu:P.underlying T with
 | none=>simp [hu,Oz] at hd
 | some d =>
  cases d <;> first
   | (exfalso;simp [Oz,hu] at hd;done)
   | (simp only [hz];exact ⟨cs,⟨hn,Ca h⟩,hk⟩)
theorem Quz (cs:List Value):∀ (i:Nat) (pre mid suf:List Value),mid.length=cs.length->pre.length=i ->
  (cs.zipIdx i).foldl (fun (a:Array Value) (x:Value×Nat)=>a.setIfInBounds x.2 x.1) (pre++mid++suf).toArray=(pre++cs++suf).toArray:=by
 induction cs with
 | nil=>intro i pre mid suf hm hp;simp at hm;subst hm;simp
 | cons c cs ih =>
  intro i pre mid suf hm hp;cases mid with
  | nil=>simp at hm
  | cons m mid =>
   simp only [Xu,List.foldl_cons]
   have e:(pre++m::mid++suf).toArray.setIfInBounds i c=((pre++[c])++mid++suf).toArray:=by
    subst hp;apply Array.ext';simp [Xf]
   rw [e,ih (i+1) (pre++[c]) mid suf (by simpa using hm) (by simp [hp])];simp
theorem Qm3 (k:Nat):∀ (l:List Value) (i:Nat) (pre suf:List Value),suf.length=l.length * k->(∀ v∈l,v.cells.size=k)->pre.length=i * k ->
  Instr.fill (fun i=>some (i * k,k)) (pre++suf).toArray ((l.zipIdx i).map fun p=>(p.2,p.1))=some (pre++l.flatMap fun v=>v.cells.toList).toArray:=by
 intro l
 induction l with
 | nil=>intro i pre suf hs _ _;simp at hs;subst hs;simp [Instr.fill]
 | cons v l ih =>
  intro i pre suf hs hc hp;have hv:=hc v (by simp);simp only [Y7,Yo,Nat.one_mul] at hs;obtain ⟨mid,suf',rfl,hmid⟩:∃ mid suf',suf=mid++suf'/\mid.length=k:=⟨suf.take k,suf.drop k,by simp,by simp;omega⟩;simp only [Yf] at hs;simp only [Xu,List.map_cons,Instr.fill];rw [if_neg (by simp;omega)];have hcl:v.cells.toList.length=k:=by rw [Array.length_toList];exact hv
  have e1:(v.cells.zipIdx.foldl (fun cs (x:Value×Nat)=>cs.setIfInBounds (i * k+x.2) x.1) (pre++(mid++suf')).toArray)=((pre++v.cells.toList)++suf').toArray:=by
   have h2:=Quz v.cells.toList (i * k) pre mid suf' (by rw [hmid,hcl]) hp;rw [<- Yw,<- h2,<- Array.foldl_toList];rw [List.zipIdx_eq_map_add];simp [Array.toList_zipIdx,List.foldl_map,Ub]
  have hih:=ih (i+1) (pre++v.cells.toList) suf' (by omega) (fun u hu=>hc u (by simp [hu])) (by rw [Yf,hcl,hp,Yo,Nat.one_mul]);rw [e1,hih,Ys,Yw]
section
variable {P:Program}{N:Nat}{d:Option Tmp}{ty:Nat}{pos:String}{af:Array Edge}{gd:Option (Nat×Bool)}{e:Env}{w:World}{R:Env->World->(Env->World->Prop)->Prop}{K:Env->World->Prop}
theorem Qgb {e:Env}:∀ (xs:List Operand) (K K':List Value->Prop),B9 e xs K->(∀ vs,vs.length=xs.length->K vs->K' vs)->B9 e xs K':=by
 intro xs
 induction xs with
 | nil=>intro K K' h hk;exact hk [] rfl h
 | cons x xs ih =>
  intro K K' h hk;simp only [B9] at h ⊢
  have ka:∀ (x:Operand) (K K':Value->Prop),Ak e x K->(∀ v,K v->K' v)->Ak e x K':=by
   intro x K K' h2 hk2
   have kt:∀ (e:Env) (n:Nat),Fp e n K->Fp e n K':=by
    intro e
    induction e with
    | nil=>intro n h;exact h
    | cons p e ihe =>
     intro n h;simp only [Fp] at h ⊢;split
     ·
      rename_i hn;rw [if_pos hn] at h;exact hk2 _ h
     rename_i hn;rw [if_neg hn] at h;exact ihe _ h
   cases x with
   | tmp t=>exact kt e t h2
   | const v=>exact hk2 _ h2
   | global g=>exact hk2 _ h2
   | func f=>exact hk2 _ h2
  exact ka x _ _ h fun v hv=>ih _ _ hv fun vs hl hvs=>hk (v::vs) (by simp [hl]) hvs
theorem E4 {w0:World}{B:List Nat}{G:List Res} (hH:Heap w0 B w G) (k:Nat) (cs:List Value) {T E:TypeId}{n:Nat}{ps:Array (Nat×Operand)}{xs:List Operand} (hu:P.underlying T=some (.slice E)) (hsz:P.szo E=some k) (hz:(P.zeroOf E).isSome=true)
  (hps:ps.toList=(xs.zipIdx).map fun p=>(p.2,p.1)) (hn:n=xs.length) (hb:n * k<=1000000) (hn0:n * k≠0)
  (h:B9 e xs fun vs=>(vs.flatMap fun v=>v.cells.toList)=cs/\(∀ v∈vs,v.cells.size=k)/\∀ g w',Heap w0 B w' (Res.row E k (some ⟨g,0,none⟩) n n cs::G)->R (e.put d (.slice (some ⟨g,0,none⟩) n n)) w' K) :
  Cq P N ⟨d,.buildSlice T n ps,ty,pos,af,gd⟩ e w R K:=by
 refine M8 fun a m ha=>?_;have h':=Qgb xs _ (fun vs=>vs.length=xs.length/\(vs.flatMap fun v=>v.cells.toList)=cs/\(∀ v∈vs,v.cells.size=k)/\∀ g w',Heap w0 B w' (Res.row E k (some ⟨g,0,none⟩) n n cs::G)->R (e.put d (.slice (some ⟨g,0,none⟩) n n)) w' K) h fun vs hl hv=>⟨hl,hv⟩;obtain ⟨hl,h1,h2,hR⟩:=Lk (K:=fun vs=>vs.length=xs.length/\(vs.flatMap fun v=>v.cells.toList)=cs/\(∀ v∈vs,v.cells.size=k)/\∀ g w',Heap w0 B w' (Res.row E k (some ⟨g,0,none⟩) n n cs::G)->R (e.put d (.slice (some ⟨g,0,none⟩) n n)) w' K) ha h';obtain ⟨z,hz⟩:=Xs.1 hz
 have hcl:cs.length=n * k:=by
  rw [<- h1,hn,<- hl]
  have:∀ (vs:List Value),(∀ v∈vs,v.cells.size=k)->(vs.flatMap fun v=>v.cells.toList).length=vs.length * k:=by
   intro vs
   induction vs with
   | nil=>intro _;simp
   | cons v vs ih=>intro hv;rw [Ys,Yf,ih fun u hu=>hv u (by simp [hu]),Array.length_toList,hv v (by simp),Y7,Yo];omega
  exact this _ h2
 refine ⟨.slice (some ⟨w.heap.size,0,none⟩) n n,w.alloc (.cells cs.toArray E),m,?_,?_⟩
 ·
  have e1:(ps.map fun (i,x)=>(i,a.eval x)).toList=((xs.map a.eval).zipIdx).map fun p=>(p.2,p.1):=by
   rw [Array.toList_map,hps];simp [List.zipIdx_map]
  have hf:=Qm3 k (xs.map a.eval) 0 [] (((Array.range (n * k)).map fun x=>z.cells[x % z.cells.size]!).toList) (by rw [Array.length_toList,Array.size_map,Array.size_range,hl,hn]) h2 (by simp);simp only [X2,Array.toArray_toList,h1] at hf;have hs:=I9 (P:=P) hsz;simp only [execOp,Instr.buildSlice,Yc,run_underlying hu,hs,Ya];rw [if_neg (by omega),if_neg hn0];simp only [Yc,Qb4 hz,Yb,Ya,e1,hf,M9];rfl
 have:=hH.row E (n:=n) (cap:=n) (sz:=k) cs [] hcl (by rw [Y2];exact hcl) (Y6 _) (by
  have:n<=n * k:=Nat.le_mul_of_pos_right _ (Nat.pos_of_ne_zero fun h=>hn0 (by rw [h];simp));omega)
 rw [Y2] at this;exact hR _ _ this
theorem Qfa {w:World}{p:Addr}{n sz:Nat}{xs:List Value} (h:RS w (some p) n sz xs) (hs:p.spot=none) (k:Nat) (ys:List Value) (hy:∀ j u,ys[j]? = some u->xs[k+j]? = some u):Reads w (p.add k) ys:=by
 intro j u hu;rw [Qtd p hs];exact h.2.2 p rfl _ u (hy j u hu)
end
def Keeps {α:Type} (P:Program) (s:Sem α):Prop:=∀ w a w',s.run P w=.ok a w'->w'=w
section
variable {P:Program}
theorem Keeps.pure {α:Type} (a:α):Keeps P (Pure.pure a:Sem α):=by
 intro w b w' h;simp only [Yb,Result.ok.injEq] at h;exact h.2.symm
theorem Keeps.bind {α β:Type}{s:Sem α}{f:α->Sem β} (h:Keeps P s) (k:∀ a,Keeps P (f a)):Keeps P (s >>= f):=by
 intro w b w' hr;rw [Yc] at hr;cases hs:s.run P w with
 | ok a w1 =>
  rw [hs,Ya] at hr;rw [k a w1 b w' hr,h w a w1 hs]
 | halt x w1=>rw [hs] at hr;simp [Result.andThen] at hr
theorem Keeps.load (a:Addr):Keeps P (Go.load a):=by
 intro w v w' h;unfold Go.load at h;cases hc:w.cell? a with
 | none =>
  simp only [Ua,hc] at h;cases hf:World.farLoad P w a (Mode.plain == Mode.atomic) with
  | ok x=>obtain ⟨x1,x2⟩:=x;rw [hf] at h;simp only [Result.ok.injEq] at h;exact h.2.symm
  | error x=>rw [hf] at h;simp at h
 | some x=>simp [Ua,hc] at h;exact h.2.symm
theorem Keeps.stuck {α:Type} (why:String):Keeps P (Go.stuck why:Sem α):=by
 intro w v w' h;simp at h
theorem Keeps.program {α:Type}{f:Program->Sem α} (h:∀ p,Keeps P (f p)):Keeps P (Go.program >>= f):=by
 refine Keeps.bind ?_ h;intro w v w' h;simp [Go.program,Ua] at h;exact h.2.symm
theorem Keeps.underlying (T:TypeId):Keeps P (Go.underlying T):=by
 refine Keeps.program fun p=>?_;cases p.underlying T with
 | some d=>exact Keeps.pure d
 | none=>exact Keeps.stuck _
theorem Keeps.typeInfo (T:TypeId):Keeps P (Go.typeInfo T):=by
 refine Keeps.program fun p=>?_;cases p.info? T with
 | some d=>exact Keeps.pure d
 | none=>exact Keeps.stuck _
theorem Keeps.sizeOf (T:TypeId):Keeps P (Go.sizeOf T):=Keeps.bind (Keeps.typeInfo T) fun _=>Keeps.pure _
theorem Keeps.isAgg (T:TypeId):Keeps P (Go.isAgg T):=by
 refine Keeps.bind (Keeps.underlying T) fun d=>?_;cases d <;> exact Keeps.pure _
theorem Keeps.loadCellsFrom (a:Addr):∀ (n i:Nat) (acc:Array Value),Keeps P (Go.loadCellsFrom a i n acc)
 | 0,_,acc=>Keeps.pure acc
 | n+1,i,acc=>Keeps.bind (Keeps.load _) fun v=>Keeps.loadCellsFrom a n (i+1) (acc.push v)
theorem Keeps.loadVar (T:TypeId) (a:Addr):Keeps P (Go.loadVar T a):=by
 refine Keeps.bind (Keeps.isAgg T) fun b=>?_;cases b with
 | true=>exact Keeps.bind (Keeps.sizeOf T) fun n=>Keeps.bind (Keeps.loadCellsFrom a n 0 #[]) fun _=>Keeps.pure _
 | false=>exact Keeps.load a
theorem Keeps.loadAt (T:TypeId) (x:Value):Keeps P (Instr.loadAt T x):=by
 unfold Instr.loadAt;refine Keeps.bind ?_ fun a=>Keeps.loadVar T a;unfold Instr.sureAddr;split
 ·
  exact Keeps.pure _
 exact Keeps.stuck _
theorem Qu0 {ops:Array Oper}{Q:Exit->Act->World->Prop}{j:Nat}{o:Oper}{T:TypeId}{x:Operand}{K:Act->World->Prop}{a:Act}{w:World} (hj:ops[j]? = some o) (ho:o.op=.load T x)
  (h:wpOp P ops Q j K a w):wpOp P ops Q j (fun a' w'=>w'=w/\K a' w') a w:=by
 unfold wpOp at *;simp only [hj] at *;split
 ·
  rename_i hw;simp only [hw,if_true] at h;rcases h with h | h
  ·
   refine .inl ?_;unfold Oper.wp at *;have e:execOp a.eval o=(do pure (.value (<- Instr.loadAt T (a.eval x))):Sem Next):=by simp only [execOp,ho]
   rw [e] at h ⊢;cases hr:(Instr.loadAt T (a.eval x)).run P w with
   | ok v w' =>
    have hk:=Keeps.loadAt (P:=P) T (a.eval x) w v w' hr;subst hk;simp only [Yc,hr,Ya,Yb,Oper.upon] at h ⊢;exact ⟨trivial,h⟩
   | halt e w' =>
    simp only [Yc,hr,Result.andThen] at h ⊢;cases e <;> first | (simp at h;done) | exact h
  exact .inr h
 rename_i hw;simp only [hw] at h;exact ⟨trivial,h⟩
theorem Qcv {ops:Array Oper}{md:Region.Mode}{Q:Exit->Act->World->Prop}{i:Nat}{oi:Oper}{v:Value}{w:World} (hi:ops[i]? = some oi) (hsel:∀ (j:Nat) (o:Oper) cs b,ops[j]? = some o->o.op≠.select cs b)
  (hQ:∀ c a w,Q (.panic c) (a.put oi.dst v) w->Q (.panic c) a w) :
  ∀ (fuel:Nat) (listed:Array Bool) (a:Act),
   (∀ j oj,ops[j]? = some oj->j≠i->listed.getD j true=false->(∀ e∈oj.after,Region.binds md e=true->e.on≠i)->oi.apart ops oj=true/\∃ T x,oj.op=.load T x) ->
   i∈Region.ready md ops listed->YieldsIf P ops (fun w'=>w'=w) oi v a ->
   wpAny P md ops Q fuel (listed.setIfInBounds i true) (a.put oi.dst v) w->wpAny P md ops Q (fuel+1) listed a w:=by
 intro fuel
 induction fuel with
 | zero =>
  intro listed a _ hr hy H;refine ⟨fun h=>(by rw [h] at hr;cases hr),fun j hj=>?_⟩;by_cases hji:j=i
  ·
   subst hji;exact hy.wpOp hi rfl H
  have:=ready_mono hj hji;rw [H.1] at this;cases this
 | succ fuel ih =>
  intro listed a hfree hr hy H;refine ⟨fun h=>(by rw [h] at hr;cases hr),fun j hj=>?_⟩;by_cases hji:j=i
  ·
   subst hji;exact hy.wpOp hi rfl H
  have h1:=H.2 j (ready_mono hj hji);obtain ⟨hjun,oj,hoj,hall⟩:=mem_ready.1 hj
  have hnot:∀ e∈oj.after,Region.binds md e=true->e.on≠i:=fun e he hb heq=>by
   have h1:=hall e he hb;have h0:=(mem_ready.1 hr).1;rw [heq] at h1;rcases Xy i listed.size with h' | h'
   ·
    simp [h'] at h0 h1;rw [h0] at h1;cases h1
   simp [Array.getElem?_eq_none h'] at h1
  obtain ⟨hap,T,x,hop⟩:=hfree j oj hoj hji hjun hnot;have h2:=Qu0 hoj hop (wpOp_putIf hoj hap (fun cs b=>hsel i oi cs b hi) (fun cs b=>hsel j oj cs b hoj) hQ hy h1);refine wpOp_mono (fun a' w' h3=>?_) h2;obtain ⟨rfl,h4,h5⟩:=h3;refine ih (listed.setIfInBounds j true) a' (fun k ok hk hki hun hno=>?_) (ready_mono hr (Ne.symm hji)) h4 ?_
  ·
   refine hfree k ok hk hki ?_ hno;by_cases hjk:j=k
   ·
    subst hjk;exact hjun
   rw [getD_set_ne true hjk] at hun;exact hun
  rw [Array.setIfInBounds_comm _ _ hji];exact h5
end
def QAr (ops:Array Oper) (listed:Array Bool) (i:Nat):Bool :=
 match ops[i]? with
 | none=>false
 | some oi=>(List.range ops.size).all fun j=>j == i || listed.getD j true || match ops[j]? with
   | some oj=>oj.after.any (fun e=>Region.binds .any e && e.on == i) || (oi.apart ops oj && match oj.op with | .load .. => true | _=>false)
   | none=>true
theorem Qgc {ops:Array Oper}{i:Nat}{oi:Oper}{listed:Array Bool} (hi:ops[i]? = some oi) (h:QAr ops listed i=true) (j:Nat) (oj:Oper)
  (hj:ops[j]? = some oj) (hne:j≠i) (hun:listed.getD j true=false) (hno:∀ e∈oj.after,Region.binds .any e=true->e.on≠i) :
  oi.apart ops oj=true/\∃ T x,oj.op=.load T x:=by
 simp only [QAr,hi,Y8,List.mem_range] at h;have h1:=h j (Array.getElem?_eq_some_iff.1 hj).1;simp only [hj,Bool.or_eq_true,beq_iff_eq,hne,false_or,hun,Yq] at h1;rcases h1 with h1 | h1
 ·
  obtain ⟨e,he,hb⟩:=Array.any_eq_true'.1 h1;simp only [Yd,beq_iff_eq] at hb;exact absurd hb.2 (hno e he hb.1)
 simp only [Yd] at h1;refine ⟨h1.1,?_⟩;cases hop:oj.op <;> simp [hop] at h1 ⊢
def S6 (ops:Array Oper):List (Nat×Nat)->Array Bool->Bool
 | [],listed=>(Region.ready .any ops listed).isEmpty
 | (i,t)::plan,listed =>
  (decide (i < ops.size)) && (match t with
   | 0=>Region.free .any ops listed i && (Region.ready .any ops listed).contains i
   | 1=>(((ops[i]?).map fun o=>match o.op with | .load .. => true | _=>false).getD false && QAr ops listed i) && (Region.ready .any ops listed).contains i
   | _=>Region.ready .any ops listed == [i]) && S6 ops plan (listed.setIfInBounds i true)
def bare (w:World):World:={ w with heap:=#[] }
theorem Zn (w w':World):Ext (bare w) w':=⟨fun i o h=>by simp [bare] at h⟩
theorem Qu1 (w:World) (R:Env->World->(Env->World->Prop)->Prop):M3 (bare w) R=R:=by
 funext e w' K;exact propext ⟨fun h=>h.2,fun h=>⟨Zn _ _,h⟩⟩
theorem Qu2 {P:Program}{N:Nat}{ops:List Oper}{w0:World}{Q:Exit->Act->World->Prop}{K:Env->World->Prop} (hN:ops.all (Co N)=true) (hsel:Region.noSelect ops.toArray=true)
  (hQ:∀ c a w (d:Option Tmp) v,Q (.panic c) (a.put d v) w->Q (.panic c) a w)
  (hK:∀ e a w n,Fits N e a->K e w->Q .normal a (w.drewN n)):∀ (plan:List (Nat×Nat)) (fuel:Nat) (listed:Array Bool) (e:Env) (a:Act) (w:World) (n:Nat),
   plan.length<=fuel->S6 ops.toArray plan listed=true->Fits N e a->Ap P N ops (bare w0) (Bd ops (plan.map fun p=>(p.1,p.2 == 0))) e w K ->
   wpAny P .any ops.toArray Q fuel listed a (w.drewN n):=by
 intro plan
 induction plan with
 | nil =>
  intro fuel listed e a w n _ hp ha h;simp only [S6,Xg] at hp;exact wpAny_done hp (hK e a w n ha h) fuel
 | cons p plan ih =>
  obtain ⟨i,t⟩:=p;intro fuel listed e a w n hf hp ha h;simp only [S6,Yd,decide_eq_true_eq] at hp;obtain ⟨⟨hi,hstep⟩,hp⟩:=hp;have hi':i < ops.length:=by simpa using hi
  obtain ⟨o,ho⟩:∃ o,ops[i]? = some o:=⟨ops[i],Yg hi'⟩;have hoa:ops.toArray[i]? = some o:=by simpa using ho
  have hod:Co N o=true:=by
   rw [Y8] at hN;exact hN o (Yl ho)
  have hpl:Bd ops (((i,t)::plan).map fun p=>(p.1,p.2 == 0))=(t == 0,o)::Bd ops (plan.map fun p=>(p.1,p.2 == 0)):=by simp [Bd,ho]
  rw [hpl] at h;cases fuel with
  | zero=>simp at hf
  | succ fuel =>
  have hf':plan.length<=fuel:=by simpa using hf
  rcases Pt ha h with ⟨e',ha',h',hw⟩ | ⟨e',ha',h',hw⟩
  ·
   have h':K7 P N (Iw P o.op) (t == 0) o e' (bare w0) w (Ap P N ops (bare w0) (Bd ops (plan.map fun p=>(p.1,p.2 == 0)))) K:=h'
   match t,hstep,h' with
   | 0,hstep,h' =>
    simp only [Yd] at hstep;cases hpo:Iw P o.op with
    | true =>
     rw [hpo] at h';simp only [K7,pw,beq_self_eq_true] at h';obtain ⟨v,hv,hr⟩:=Nv ha' h';refine wpAny_take hoa hsel hstep.1 hstep.2 (fun c a w=>hQ c a w o.dst v) (.inl ⟨hw,fun w'=>hr w' (Zn _ _)⟩) ?_;exact ih fuel _ _ _ w n hf' hp (ha'.put' hod v) hv
    | false=>rw [hpo] at h';exact h'.elim
   | 1,hstep,h' =>
    simp only [Yd] at hstep
    have hpo:Iw P o.op=true:=by
     have h1:=hstep.1.1;rw [hoa] at h1;simp only [Option.map_some,Option.getD_some] at h1;cases hop:o.op <;> simp [hop] at h1 <;> rfl
    rw [hpo] at h';simp only [K7,pw,show ((1:Nat) == 0)=false from rfl] at h';obtain ⟨v,hv,hr⟩:=Nv ha' h';refine Qcv hoa (Region.noSelect_spec hsel) (fun c a w=>hQ c a w o.dst v) fuel listed a (Qgc hoa hstep.1.2) (by simpa using hstep.2) (.inl ⟨hw,fun w' hw'=>by subst hw';exact hr _ (Ext.drewN w n)⟩) ?_;exact ih fuel _ _ _ w n hf' hp (ha'.put' hod v) hv
   | t+2,hstep,h' =>
    simp only [beq_iff_eq] at hstep;refine wpAny_all hstep (by simp) ?_;intro j hj;simp only [Yz] at hj;subst hj;unfold wpOp;simp only [hoa,hw,if_true];refine .inl ?_;rw [show ((t+2:Nat) == 0)=false from rfl] at h';cases hpo:Iw P o.op with
    | true =>
     rw [hpo] at h';simp only [K7,pw] at h';obtain ⟨v,hv,hr⟩:=Nv ha' h';unfold Oper.wp;rw [hr (w.drewN n) (Ext.drewN w n)];exact ih fuel _ _ _ w n hf' hp (ha'.put' hod v) hv
    | false =>
     rw [hpo] at h';have h':QFa P N o e' (bare w0) w (Ap P N ops (bare w0) (Bd ops (plan.map fun p=>(p.1,p.2 == 0)))) K:=h';exact h' a n _ Q ha' fun v w' m hv=>ih fuel _ _ _ w' m hf' hp (ha'.put' hod v) hv.2
  have hnext:wpAny P .any ops.toArray Q fuel (listed.setIfInBounds i true) (a.put o.dst undef) (w.drewN n) :=
   ih fuel _ _ _ w n hf' hp (ha'.put' hod undef) h'
  match t,hstep with
  | 0,hstep =>
   simp only [Yd] at hstep;exact wpAny_take hoa hsel hstep.1 hstep.2 (fun c a w=>hQ c a w o.dst undef) (.inr ⟨hw,rfl⟩) hnext
  | 1,hstep =>
   simp only [Yd] at hstep;exact Qcv hoa (Region.noSelect_spec hsel) (fun c a w=>hQ c a w o.dst undef) fuel listed a (Qgc hoa hstep.1.2) (by simpa using hstep.2) (.inr ⟨hw,rfl⟩) hnext
  | t+2,hstep =>
   simp only [beq_iff_eq] at hstep;refine wpAny_all hstep (by simp) ?_;intro j hj;simp only [Yz] at hj;subst hj;unfold wpOp;simp only [hoa,hw,Yq,if_false];exact hnext
theorem Qb6 {P:Program}{fn:Func}{F:Value->World->Prop}{N:Nat}{k:List It}{e:Env}{w:World} (ks:List Nat) (plan:List (Nat×Nat)) {id:Nat}{ops:List Oper}{l:List (Bool×Oper)}
  (hm:P.follows .mixedOrders=true) (hB:(S6 ops.toArray plan (Array.replicate ops.toArray.size false) && Region.noSelect ops.toArray && decide (plan.length<=ops.length))=true) (hN:ops.all (Co N)=true) (hl:Bd ops (plan.map fun p=>(p.1,p.2 == 0))=l)
  (h:∀ K:Env->World->Prop,(∀ e w,VC ⟨P,fn,F,N⟩ k e w->K e w)->Ap P N ops (bare w) l e w (Dm ks K)):VC ⟨P,fn,F,N⟩ (.code (.region id ops.toArray true)::k) e w:=by
 intro a n ha;simp only [Yd,decide_eq_true_eq] at hB;obtain ⟨⟨hB1,hB2⟩,hB3⟩:=hB;refine wp_region_any (P:=P) hm ?_;subst hl;refine Qu2 (w0:=w) (K:=Dm ks (VC ⟨P,fn,F,N⟩ k)) hN hB2 (fun c a w d v hq=>W1 d v hq) (fun e a w n ha hv=>?_) plan _ _ e a w (n+1) (by simpa using hB3) hB1 ha (h _ fun _ _ hv=>hv);exact ((Ko ks e _).1 hv) a n (ha.sel ks)
attribute [go_sem] Qu1
inductive N5 where
 | seq (pre:List (Nat×Bool)):N5
 | two (pre:List (Nat×Bool)) (i j:Nat) (k k':N5):N5
 | three (pre:List (Nat×Bool)) (i j x:Nat) (k k' k'':N5):N5
def Nd (ops:Array Oper):N5->Nat->Array Bool->Bool
 | .seq pre,fuel,listed=>decide (pre.length<=fuel) && match Kw ops pre listed with
  | some l=>(Region.ready .any ops l).isEmpty
  | none=>false
 | .two pre i j k k',fuel,listed=>decide (pre.length+1<=fuel) && match Kw ops pre listed with
  | some l=>Region.ready .any ops l == [i,j] && decide (i < ops.size) && decide (j < ops.size) && Nd ops k (fuel - pre.length - 1) (l.setIfInBounds i true) && Nd ops k' (fuel - pre.length - 1) (l.setIfInBounds j true)
  | none=>false
 | .three pre i j x k k' k'',fuel,listed=>decide (pre.length+1<=fuel) && match Kw ops pre listed with
  | some l=>Region.ready .any ops l == [i,j,x] && decide (i < ops.size) && decide (j < ops.size) && decide (x < ops.size) && Nd ops k (fuel - pre.length - 1) (l.setIfInBounds i true) && Nd ops k' (fuel - pre.length - 1) (l.setIfInBounds j true) && Nd ops k'' (fuel - pre.length - 1) (l.setIfInBounds x true)
  | none=>false
def Nq (P:Program) (N:Nat) (ops:List Oper) (w0:World):N5->Env->World->(Env->World->Prop)->Prop
 | .seq pre,e,w,K=>Ap P N ops w0 (Bd ops pre) e w K
 | .two pre i j k k',e,w,K=>Ap P N ops w0 (Bd ops pre) e w fun e w =>
   Ap P N ops w0 (Bd ops [(i,false)]) e w (fun e w=>Nq P N ops w0 k e w K)/\Ap P N ops w0 (Bd ops [(j,false)]) e w (fun e w=>Nq P N ops w0 k' e w K)
 | .three pre i j x k k' k'',e,w,K=>Ap P N ops w0 (Bd ops pre) e w fun e w =>
   Ap P N ops w0 (Bd ops [(i,false)]) e w (fun e w=>Nq P N ops w0 k e w K)/\Ap P N ops w0 (Bd ops [(j,false)]) e w (fun e w=>Nq P N ops w0 k' e w K)/\Ap P N ops w0 (Bd ops [(x,false)]) e w (fun e w=>Nq P N ops w0 k'' e w K)
section
variable {P:Program}{N:Nat}{ops:List Oper}{w0:World}{Q:Exit->Act->World->Prop}
theorem Qqq {K:Env->World->Prop} (hN:ops.all (Co N)=true) (hsel:Region.noSelect ops.toArray=true)
  (hQ:∀ c a w (d:Option Tmp) v,Q (.panic c) (a.put d v) w->Q (.panic c) a w)
  (hK:∀ e a w n,Fits N e a->K e w->Q .normal a (w.drewN n)):∀ (t:N5) (fuel:Nat) (listed:Array Bool) (e:Env) (a:Act) (w:World) (n:Nat),
   Nd ops.toArray t fuel listed=true->Fits N e a->Ext w0 w->Nq P N ops w0 t e w K ->
   wpAnyH P .any ops.toArray Q (fun w'=>Ext w0 w') fuel listed a (w.drewN n):=by
 intro t
 induction t with
 | seq pre =>
  intro fuel listed e a w n ht ha hx h;simp only [Nd,Yd,decide_eq_true_eq] at ht;obtain ⟨hf,ht⟩:=ht;cases hp:Kw ops.toArray pre listed with
  | none=>rw [hp] at ht;cases ht
  | some l =>
   rw [hp] at ht;simp only [Xg] at ht;exact Rb hN hsel hQ pre fuel listed l e a w n hf hp ha hx h fun e a w n h1 _ h3=>wpAnyH_done ht (hK e a w n h1 h3) _
 | two pre i j k k' ihk ihk' =>
  intro fuel listed e a w n ht ha hx h;simp only [Nd,Yd,decide_eq_true_eq] at ht;obtain ⟨hf,ht⟩:=ht;cases hp:Kw ops.toArray pre listed with
  | none=>rw [hp] at ht;cases ht
  | some l =>
   rw [hp] at ht;simp only [Yd,beq_iff_eq,decide_eq_true_eq] at ht;obtain ⟨⟨⟨⟨hr,hi⟩,hj⟩,h1⟩,h2⟩:=ht;refine Rb hN hsel hQ pre fuel listed l e a w n (by omega) hp ha hx h fun e a w n g1 g2 g3=>?_;obtain ⟨m,hm⟩:∃ m,fuel - pre.length=m+1:=⟨fuel - pre.length - 1,by omega⟩;rw [hm];have hm':fuel - pre.length - 1=m:=by omega
   rw [hm'] at h1 h2;refine wpAnyH_all hr (by simp) ?_;intro x hx2;simp only [Yr,Xx,or_false] at hx2;rcases hx2 with rfl | rfl
   ·
    exact Ny hN (by simpa using hi) g1 g2 g3.1 fun e a w n f1 f2 f3=>⟨f2.trans (Ext.drewN w n),ihk m _ e a w n h1 f1 f2 f3⟩
   exact Ny hN (by simpa using hj) g1 g2 g3.2 fun e a w n f1 f2 f3=>⟨f2.trans (Ext.drewN w n),ihk' m _ e a w n h2 f1 f2 f3⟩
 | three pre i j y k k' k'' ihk ihk' ihk'' =>
  intro fuel listed e a w n ht ha hx h;simp only [Nd,Yd,decide_eq_true_eq] at ht;obtain ⟨hf,ht⟩:=ht;cases hp:Kw ops.toArray pre listed with
  | none=>rw [hp] at ht;cases ht
  | some l =>
   rw [hp] at ht;simp only [Yd,beq_iff_eq,decide_eq_true_eq] at ht;obtain ⟨⟨⟨⟨⟨⟨hr,hi⟩,hj⟩,hy⟩,h1⟩,h2⟩,h3⟩:=ht;refine Rb hN hsel hQ pre fuel listed l e a w n (by omega) hp ha hx h fun e a w n g1 g2 g3=>?_;obtain ⟨m,hm⟩:∃ m,fuel - pre.length=m+1:=⟨fuel - pre.length - 1,by omega⟩;rw [hm];have hm':fuel - pre.length - 1=m:=by omega
   rw [hm'] at h1 h2 h3;refine wpAnyH_all hr (by simp) ?_;intro x hx2;simp only [Yr,Xx,or_false] at hx2;rcases hx2 with rfl | rfl | rfl
   ·
    exact Ny hN (by simpa using hi) g1 g2 g3.1 fun e a w n f1 f2 f3=>⟨f2.trans (Ext.drewN w n),ihk m _ e a w n h1 f1 f2 f3⟩
   ·
    exact Ny hN (by simpa using hj) g1 g2 g3.2.1 fun e a w n f1 f2 f3=>⟨f2.trans (Ext.drewN w n),ihk' m _ e a w n h2 f1 f2 f3⟩
   exact Ny hN (by simpa using hy) g1 g2 g3.2.2 fun e a w n f1 f2 f3=>⟨f2.trans (Ext.drewN w n),ihk'' m _ e a w n h3 f1 f2 f3⟩
end
theorem Qm4 {P:Program}{fn:Func}{F:Value->World->Prop}{N:Nat}{k:List It}{e:Env}{w:World} (w0:World) (hx:Ext w0 w) (ks:List Nat) (t:N5) {id:Nat}{ops:List Oper}
  (hm:P.follows .mixedOrders=true) (hB:(Nd ops.toArray t ops.toArray.size (Array.replicate ops.toArray.size false) && Region.noSelect ops.toArray)=true) (hN:ops.all (Co N)=true)
  (h:∀ K:Env->World->Prop,(∀ e w,VC ⟨P,fn,F,N⟩ k e w->K e w)->Nq P N ops w0 t e w (Dm ks K)):VC ⟨P,fn,F,N⟩ (.code (.region id ops.toArray true)::k) e w:=by
 intro a n ha;simp only [Yd] at hB;obtain ⟨hB1,hB2⟩:=hB;refine wp_region_held (S:=fun w'=>Ext w0 w') hm ?_;refine Qqq (K:=Dm ks (VC ⟨P,fn,F,N⟩ k)) hN hB2 (fun c a w d v hq=>W1 d v hq) (fun e a w n ha hv=>?_) t _ _ e a w (n+1) hB1 ha hx (h _ fun _ _ hv=>hv);exact ((Ko ks e _).1 hv) a n (ha.sel ks)
def Cf {α:Type} (f:α->List Value) (l:List α):List Value:=l.flatMap f
section
variable {α:Type}{f:α->List Value}{k:Nat}
theorem Qi6 (hk:∀ x,(f x).length=k) (l:List α):(Cf f l).length=l.length * k:=by
 induction l with
 | nil=>simp [Cf]
 | cons x l ih=>simp only [Cf,Ys,Yf,Y7,Y0] at ih ⊢;rw [ih,hk];omega
theorem Tl (l m:List α):Cf f (l++m)=Cf f l++Cf f m:=by simp [Cf]
theorem Qi7 (x:α):Cf f [x]=f x:=by simp [Cf]
theorem Qi8 (hk:∀ x,(f x).length=k):∀ (l:List α) (i:Nat) (x:α),l[i]? = some x->∀ j u,(f x)[j]? = some u->(Cf f l)[i * k+j]? = some u:=by
 intro l
 induction l with
 | nil=>intro i x h;simp at h
 | cons y l ih =>
  intro i x h j u hu;have hj:j < k:=by have:=(Yp.1 hu).1;rwa [hk] at this
  cases i with
  | zero =>
   simp at h;subst h;simp only [Cf,Ys];rw [X9,Xz,Y9 (by rw [hk];exact hj)];exact hu
  | succ i =>
   have:=ih i x (by simpa using h) j u hu;simp only [Cf,Ys] at this ⊢;rw [Xm (by rw [hk,Y0];omega),<- this,hk]
   congr 1
   rw [Y0];omega
theorem Qgd (hk:∀ x,(f x).length=k):∀ (l:List α) (i:Nat),(Cf f l).take (i * k)=Cf f (l.take i):=by
 intro l
 induction l with
 | nil=>intro i;simp [Cf]
 | cons y l ih =>
  intro i;cases i with
  | zero=>simp [Cf]
  | succ i =>
   have:=ih i;simp only [Cf,Ys,List.take_succ_cons] at this ⊢;rw [Y0,Ub,List.take_append,hk,Xe (by rw [hk];omega),show k+i * k - k=i * k by omega,this]
theorem Qqr (hk:∀ x,(f x).length=k):∀ (l:List α) (i:Nat),(Cf f l).drop (i * k)=Cf f (l.drop i):=by
 intro l
 induction l with
 | nil=>intro i;simp [Cf]
 | cons y l ih =>
  intro i;cases i with
  | zero=>simp [Cf]
  | succ i =>
   have:=ih i;simp only [Cf,Ys,List.drop_succ_cons] at this ⊢;rw [Y0,Ub,Xv,hk,List.drop_of_length_le (by rw [hk];omega),show k+i * k - k=i * k by omega,this,X2]
theorem Qi9 (hk:∀ x,(f x).length=k) (l:List α) (i:Nat) (y:α) (hi:i < l.length):(Cf f l).take (i * k)++f y++(Cf f l).drop (i * k+k)=Cf f (l.set i y):=by
 rw [Qgd hk,show i * k+k=(i+1) * k by rw [Y0],Qqr hk,Xc,if_pos hi,Tl,Yw]
 congr 1
theorem Qeb (h1:∀ x,∀ v∈f x,v.oneCell'=true) (l:List α):∀ v∈Cf f l,v.oneCell'=true:=by
 intro v hv;obtain ⟨x,_,hx⟩:=Yx.1 hv;exact h1 x v hx
theorem Sa {w:World}{p:Addr}{n:Nat} (hk:∀ x,(f x).length=k) {l:List α} (h:RS w (some p) n k (Cf f l)) (hp:p.spot=none) {i:Nat}{x:α} (hi:l[i]? = some x):Reads w (p.add (i * k)) (f x) :=
 Qfa h hp _ _ fun j u hu=>Qi8 hk l i x hi j u hu
end
theorem QCe {α:Type} (zs:List α) (k:Nat) (hk:zs.length=k) (hk0:0 < k):∀ (c j:Nat),j < c * k->(Ye c zs).flatten[j]? = zs[j % k]? := by
 intro c
 induction c with
 | zero=>intro j h;simp at h
 | succ c ih =>
  intro j h;rw [X5,Uc];rcases Xy j k with h1 | h1
  ·
   rw [Y9 (by omega),Nat.mod_eq_of_lt h1]
  rw [Xm (by omega),hk,ih (j - k) (by rw [Y0] at h;omega)]
  congr 1
  conv=>rhs;rw [show j=(j - k)+k by omega,Nat.add_mod_right]
theorem Qtf {α:Type} (zs:List α) (k:Nat) (hk:zs.length=k) (c:Nat):(Ye c zs).flatten.length=c * k:=by
 induction c with
 | zero=>simp
 | succ c ih=>rw [X5,Uc,Yf,ih,Y0];omega
section
variable {P:Program}{N:Nat}{d:Option Tmp}{ty:TypeId}{pos:String}{af:Array Edge}{gd:Option (Nat×Bool)}{e:Env}{w:World}{R:Env->World->(Env->World->Prop)->Prop}{K:Env->World->Prop}
theorem Qfm {T E:TypeId}{i:TypeInfo}{z:Value}{zs:List Value}{k:Nat} (hu:P.underlying T=some (.slice E)) (hi:P.info? E=some i) (hz:i.zero=some z) (hzv:z.cells=zs.toArray) (h1:i.size=k) (hk:zs.length=k) (hk0:0 < k)
  {l c:Nat} (hlc:l<=c) (hb:i.bytes * c<=2 ^ 48) (hc:c<=maxLen) (w:World) :
  (Instr.makeSlice T (.int .i64 l) (.int .i64 c)).run P w=.ok (.slice (some ⟨w.heap.size,0,none⟩) l c) (w.alloc (.cells (Ye c zs).flatten.toArray E)):=by
 have hcm:(c:Int)<=9223372036854775807:=by simp only [maxLen] at hc;omega
 have e1:IntKind.i64.wrap (l:Int)=l:=R8 ⟨by omega,by omega⟩;have e2:IntKind.i64.wrap (c:Int)=c:=R8 ⟨by omega,by omega⟩
 have hb1:((i.bytes * c:Nat):Int)<=281474976710656:=by
  have h:i.bytes * c<=281474976710656:=hb;omega
 have hb':¬ ((i.bytes:Int) * (c:Int) > 281474976710656):=by
  have e3:((i.bytes * c:Nat):Int)=(i.bytes:Int) * (c:Int):=Xl _ _;omega
 have hrow:(Array.range (c * k)).map (fun x=>(zs.toArray:Array Value)[x % zs.toArray.size]!)=(Ye c zs).flatten.toArray:=by
  apply Array.ext
  ·
   simp [Qtf zs k hk c]
  intro j h3 h4;have h5:j < c * k:=by simpa using h3
  have h6:=QCe zs k hk hk0 c j h5;have h7:j % k < zs.length:=by rw [hk];exact Nat.mod_lt _ hk0
  rw [Yg (by rw [Qtf zs k hk c];exact h5),Yg h7] at h6;simp only [Array.getElem_map,Array.getElem_range,X4,List.size_toArray,hk];rw [getElem!_pos zs.toArray (j % k) (by simpa using h7)];simpa using (Option.some.inj h6).symm
 have hti:∀ w,(typeInfo E).run P w=.ok i w:=fun w=>by simp [typeInfo,hi]
 have hzi:∀ w,(zeroValue E).run P w=.ok z w:=fun w=>by simp [zeroValue,typeInfo,hi,hz]
 have hso:∀ w,(sizeOf E).run P w=.ok k w:=fun w=>by simp [sizeOf,typeInfo,hi,h1]
 simp only [Instr.makeSlice,Yc,run_underlying hu,Ya,asInt,asIntOf,Yb,hti,e1,e2];rw [if_neg (by simp [hb'];omega)];simp only [Yc,Wv,Ya,hso,Xp];by_cases hc0:c=0
 ·
  subst hc0;simp only [X9,if_true,Yc,Yb,Ya,M9];simp [show Array.range 0=#[] from rfl]
 have hck:c * k≠0:=Nat.mul_ne_zero hc0 (by omega);rw [if_neg hck];simp only [Yc,hzi,Ya,Yb,M9,hzv];rw [<- hrow]
theorem Qqs {T E:TypeId}{x y:Operand}{zs:List Value}{k bytes:Nat} (hu:P.underlying T=some (.slice E)) (hz:(P.info? E).map (fun i=>(i.zero.map Yn,i.size,i.bytes))=some (some zs.toArray,k,bytes)) (hk:zs.length=k) (hk0:0 < k)
  (h:Ak e x fun vl=>Ak e y fun vc=>∃ l c:Nat,(vl=.int .i64 l/\vc=.int .i64 c/\l<=c/\bytes * c<=281474976710656/\c<=9223372036854775807)/\R (e.put d (.slice (some ⟨w.heap.size,0,none⟩) l c)) (w.alloc (.cells (Ye c zs).flatten.toArray E)) K) :
  Cq P N ⟨d,.makeSlice T x y,ty,pos,af,gd⟩ e w R K :=
 M8 fun a n ha=>by
  obtain ⟨l,c,⟨h1,h2,h3,h4,h5⟩,hR⟩:=Cx (K:=fun vc=>∃ l c:Nat,(a.eval x=.int .i64 l/\vc=.int .i64 c/\l<=c/\bytes * c<=281474976710656/\c<=9223372036854775807)/\R (e.put d (.slice (some ⟨w.heap.size,0,none⟩) l c)) (w.alloc (.cells (Ye c zs).flatten.toArray E)) K) ha
   (Cx (K:=fun vl=>Ak e y fun vc=>∃ l c:Nat,(vl=.int .i64 l/\vc=.int .i64 c/\l<=c/\bytes * c<=281474976710656/\c<=9223372036854775807)/\R (e.put d (.slice (some ⟨w.heap.size,0,none⟩) l c)) (w.alloc (.cells (Ye c zs).flatten.toArray E)) K) ha h)
  cases hi:P.info? E with
  | none=>simp [hi] at hz
  | some i =>
   simp only [hi,Option.map_some,Option.some.injEq,Prod.mk.injEq] at hz;obtain ⟨hz1,hz2,hz3⟩:=hz;cases hzz:i.zero with
   | none=>simp [hzz] at hz1
   | some z =>
    simp only [hzz,Option.map_some,Option.some.injEq] at hz1;refine ⟨_,w.alloc (.cells (Ye c zs).flatten.toArray E),n,?_,hR⟩;have:=Qfm hu hi hzz hz1 hz2 hk hk0 h3 (by rw [hz3];exact h4) (by simp only [maxLen];omega) (w.drewN n);simp only [execOp,h1,h2,this,Yc,Ya,Yb];rfl
theorem Qfn {T E:TypeId} (hu:P.underlying T=some (.slice E)) (d:Nat) (a:Option Addr) (n c n' c':Nat) (w:World):(Op.equalIn (d+1) T (.slice a n c) (.slice none n' c')).run P w=.ok a.isNone w:=by
 unfold Op.equalIn;cases a <;> simp [run_underlying hu]
theorem Qyf {T E:TypeId}{KV:Value->Prop} (hu:P.underlying T=some (.slice E)) (a:Option Addr) (n c n' c':Nat) (xo yo:Operand):A8 P .eql T xo yo (.slice a n c) (.slice none n' c') w KV=KV (.bool a.isNone):=by
 refine Qg fun w'=>?_;simp only [Yc];rw [Tk ⟨by simp,by simp⟩];have:(Op.equal T (.slice a n c) (.slice none n' c')).run P w'=.ok a.isNone w':=Qfn hu 9999 a n c n' c' w';simp only [Ya,binOp,Yc,this,Yb]
theorem Heap.hole_at {w0:World}{B:List Nat}{G:List Res}{r:Res} (h:Heap w0 B w G) (i j:Nat) (hi:G[i]? = some r) {g T k:Nat}{cs:List Value}{v:Value} (hj:G[j]? = some (Res.blk g T cs)) (hij:i≠j) (hv:cs[k]? = some v):(holes r.foot w).cell? ⟨g,k,none⟩=some v:=by
 refine Ts (Aj (h.at j hj) hv) ?_;obtain ⟨h1,e1⟩:=Yp.1 hi;obtain ⟨h2,e2⟩:=Yp.1 hj;have ha:=List.pairwise_iff_getElem.1 h.apart;rcases Xy i j with h3 | h3
 ·
  have h4:=ha i j h1 h2 h3;rw [e1,e2] at h4;exact fun hb=>h4 g hb (by simp [Res.blk])
 have h4:=ha j i h2 h1 (by omega);rw [e1,e2] at h4;exact h4 g (by simp [Res.blk])
theorem Qqt {T sz n cap m:Nat}{a:Option Addr}{xs:List Value} (h:(Res.row T sz a n cap xs).holds w) (hm:m<=n):(Res.row T sz a m cap (xs.take (m * sz))).holds w:=by
 obtain ⟨h1,h2,h3,h4⟩:=h;have hms:m * sz<=n * sz:=Ym _ hm;refine ⟨by rw [Yt];omega,by omega,h3,?_⟩;rcases h4 with ⟨rfl,hn,hc⟩ | ⟨g,rest,fz,rfl,hg,hl,hf⟩
 ·
  exact .inl ⟨rfl,by omega,hc⟩
 refine .inr ⟨g,xs.drop (m * sz)++rest,fz,rfl,?_,?_,hf⟩
 ·
  rw [<- Yw,Y5];exact hg
 rw [<- Yw,Y5];exact hl
end
end Go.Eng
