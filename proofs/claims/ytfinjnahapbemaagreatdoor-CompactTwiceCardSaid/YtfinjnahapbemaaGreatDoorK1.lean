/- A program logic over the model, and what this program's functions do by it: part 1. No conditions: a library of lemmas. -/
import Derived.Deep.Quiet
import Derived.Lib.Hide
import Derived.OrdersHeld
import Derived.StillTail
import Derived.WalkKit
open Nat (reduceEqDiff)
set_option linter.unusedSimpArgs false
set_option linter.unusedVariables false
set_option maxRecDepth 100000
open Go.Result renaming andThen_ok->Ya
open Go.Sem renaming run_pure->Yb,run_bind->Yc,run->Ua
open Bool renaming and_eq_true->Yd,false_eq_true->Yo
open List renaming replicate->Ye,length_append->Yf,getElem?_eq_getElem->Yg,eq_nil_of_length_eq_zero->Yh,getD_eq_getElem?_getD->Yj,mem_of_getElem?->Yk,getElem?_eq_some_iff->Yn,pairwise_cons->Yp,flatMap_cons->Yr,mem_cons->Ys,length_take->Yt,append_assoc->Yv,mem_singleton->Yx,append_nil->Yz,take_append_drop->Y1,length_cons->Y4,all_eq_true->Y5,getElem?_append_left->Y6,set_eq_take_append_cons_drop->Y9,take_of_length_le->Xa,set_append_right->Xb,mem_append_right->Xc,isEmpty_iff->Xd,take_append_of_le_length->Xf,drop_append_of_le_length->Xg,mem_append_left->Xh,mem_append->Xi,getElem?_append_right->Xk,extract_eq_take_drop->Xl,ext_getElem?->Xo,getElem?_set->Xp,perm_middle->Xr,zipIdx_cons->Xs,drop_append->Xt,length_drop->Xu,not_mem_nil->Xv,sublist_cons_self->Xy,nil_append->X0,contains_iff_mem->X1,getElem_toArray->X3,mem_cons_of_mem->X4,replicate_succ->X5,all_cons->X6,getElem?_take->X7,toArray->X8,flatten_cons->Uc
open Go.IntKind renaming signed->Yi,bits->Yu,wrap->Y3
open Nat renaming mul_le_mul_right->Yl,add_mul->Ym,succ_mul->Yy,le_refl->Y2,min_eq_left->Y7,lt_of_lt_of_le->Y8,mul_one->Xe,lt_or_ge->Xw,zero_add->Xx,add_zero->Xz,pow_le_pow_right->X2,zero_mul->X9,add_comm->Ub
open Go.Value renaming cells->Yq,int->Yw
open UInt8 renaming lt_iff_toNat_lt->Y0
open Int renaming natCast_mul->Xj,emod_eq_of_lt->Xm,toNat_natCast->Xn
open Option renaming isSome_iff_exists->Xq
namespace Go
abbrev LN:=List Nat
abbrev LB:=List UInt8
abbrev LV:=List Value
abbrev OA:=Option Addr
end Go
namespace Go.Eng
open Go
abbrev Env:=List (Nat×Value)
def Env.find? : Env->Nat->Option Value
 | [],_=>none
 | p::e,n=>if n=p.1 then some p.2 else Env.find? e n
def Env.put (e:Env) (d:Option Tmp) (v:Value):Env :=
 match d with
 | some t=>(t,v)::e
 | none=>e
def Env.keep (ks:LN) (e:Env):Env:=e.filter fun p=>ks.contains p.1
structure Fits (N:Nat) (e:Env) (a:Act):Prop where
 size:a.tmps.size=N
 defers:a.defers=[]
 at_:∀ t v,e.find? t=some v->a.tmps.getD t undef=v
theorem Env.find?_cons (p:Nat×Value) (e:Env) (n:Nat):Env.find? (p::e) n=if n=p.1 then some p.2 else Env.find? e n:=rfl
theorem Fits.put {N:Nat}{e:Env}{a:Act} (h:Fits N e a) (d:Option Tmp) (v:Value) (hd:∀ t,d=some t->t < N):Fits N (e.put d v) (a.put d v):=by
 cases d with
 | none=>exact h
 | some t =>
  have ht:=hd t rfl;refine ⟨by simp [Act.put,h.size],by simp [Act.put,h.defers],fun s u hs=>?_⟩;simp only [Env.put,Env.find?_cons] at hs;simp only [Act.put];by_cases hst:s=t
  ·
   subst hst;simp at hs;subst hs;simp [h.size,ht]
  simp [hst] at hs;have:=h.at_ s u hs;rw [Array.getD_eq_getD_getElem?] at this ⊢;rw [Array.getElem?_setIfInBounds];rw [if_neg (fun x=>hst x.symm)];exact this
theorem Fits.weaken {N:Nat}{e e':Env}{a:Act} (h:Fits N e a) (hs:∀ t v,e'.find? t=some v->e.find? t=some v):Fits N e' a :=
 ⟨h.size,h.defers,fun t v ht=>h.at_ t v (hs t v ht)⟩
theorem Env.find?_keep (ks:LN) (e:Env) (t:Nat) (v:Value) (h:(e.keep ks).find? t=some v):e.find? t=some v:=by
 induction e with
 | nil=>simp [Env.keep,Env.find?] at h
 | cons p e ih =>
  simp only [Env.keep,List.filter_cons] at h;simp only [Env.find?_cons];by_cases hp:ks.contains p.1=true
  ·
   simp only [hp,if_true,Env.find?_cons] at h;by_cases ht:t=p.1
   ·
    simp only [ht,if_true] at h ⊢;exact h
   simp only [ht,if_false] at h ⊢;exact ih h
  simp only [hp] at h;have hm:=ih (by simpa [Env.keep] using h);by_cases ht:t=p.1
  ·
   exfalso
   have key:∀ (l:Env),(Env.keep ks l).find? t=some v->ks.contains t=true:=by
    intro l
    induction l with
    | nil=>intro h0;simp [Env.keep,Env.find?] at h0
    | cons q l ihl =>
     intro h0;simp only [Env.keep,List.filter_cons] at h0;by_cases hq:ks.contains q.1=true
     ·
      simp only [hq,if_true,Env.find?_cons] at h0;by_cases htq:t=q.1
      ·
       rw [htq];exact hq
      simp only [htq,if_false] at h0;exact ihl h0
     simp only [hq] at h0;exact ihl (by simpa [Env.keep] using h0)
   exact hp (ht ▸ key e (by simpa [Env.keep] using h))
  simp only [ht,if_false];exact hm
theorem Fits.keep {N:Nat}{e:Env}{a:Act} (h:Fits N e a) (ks:LN):Fits N (e.keep ks) a :=
 h.weaken fun t v ht=>Env.find?_keep ks e t v ht
inductive It where
 | code (c:Code)
 | blk (id:Nat)
 | again (I:Env->World->Prop)
structure Kv where
 P:Program
 fn:Func
 F:Value->World->Prop
 N:Nat
def V8 (F:Value->World->Prop) (e:Ending) (w':World):Prop:=∃ v w n,e=.returned v/\w'=w.drewN n/\F v w
def Does (P:Program) (f:FuncId) (args:Array Value) (w:World) (F:Value->World->Prop):Prop :=
 ∀ n,Calls P f args (w.drewN n) (V8 F)
theorem Does.mono {P:Program}{f:FuncId}{args:Array Value}{w:World}{F G:Value->World->Prop} (h:Does P f args w F) (hg:∀ v w',F v w'->G v w'):Does P f args w G :=
 fun n=>(h n).mono fun _ _ ⟨v,w',m,he,hw,hF⟩=>⟨v,w',m,he,hw,hg v w' hF⟩
theorem Qtb (w:World):w.drewN 0=w:=rfl
def Fg (C:Kv):List It->Exit->Act->World->Prop
 | [],ex,a,w=>bodyPost C.P C.fn (V8 C.F) ex a w
 | .code c::k,ex,a,w=>match ex with
  | .normal=>c.wp C.P (fun ex a w=>Fg C k ex a w) a w
  | ex=>Fg C k ex a w
 | .blk id::k,ex,a,w=>match ex with
  | .exit id'=>if id'=id then Fg C k .normal a w else Fg C k (.exit id') a w
  | ex=>Fg C k ex a w
 | .again I::k,ex,a,w=>match ex with
  | .normal=>∃ e w0 n,w=w0.drewN n/\Fits C.N e a/\I e w0
  | ex=>Fg C k ex a w
def VC (C:Kv) (k:List It) (e:Env) (w:World):Prop:=∀ a n,Fits C.N e a->Fg C k .normal a (w.drewN n)
def VX (C:Kv) (k:List It) (ex:Exit) (e:Env) (w:World):Prop:=∀ a n,Fits C.N e a->Fg C k ex a (w.drewN n)
section
variable {C:Kv}{k:List It}{e:Env}{w:World}
theorem Aw {x y:Code} (h:VC C (.code x::.code y::k) e w):VC C (.code (.seq x y)::k) e w:=by
 intro a n ha;have h1:=h a n ha;simp only [Fg] at h1 ⊢;refine wp_seq (wp_mono h1 fun ex a w hq=>?_);cases ex <;> exact hq
theorem Aq {id:Nat}{c:Code} (h:VC C (.code c::.blk id::k) e w):VC C (.code (.block id c)::k) e w:=by
 intro a n ha;have h1:=h a n ha;simp only [Fg] at h1 ⊢;refine wp_block (wp_mono h1 fun ex a w hq=>?_);cases ex <;> exact hq
theorem An {id:Nat} (h:VC C k e w):VC C (.blk id::k) e w:=fun a n ha=>h a n ha
theorem Ad (h:VC C k e w):VC C (.code .skip::k) e w:=fun a n ha=>wp_skip (h a n ha)
theorem Qxr {l:Nat} (h:VC C k e w):VC C (.code (.label l)::k) e w:=fun a n ha=>wp_label (h a n ha)
theorem Ah {I:Env->World->Prop} (h:I e w):VC C (.again I::k) e w:=fun _ n ha=>⟨e,w,n,rfl,ha,h⟩
def Fa (id:Nat):List It->Option (List It)
 | []=>none
 | .blk id'::k=>if id=id' then some k else Fa id k
 | .code _::k=>Fa id k
 | .again _::k=>Fa id k
theorem Qqh {id:Nat}{k k':List It} (hp:Fa id k=some k') {a:Act} (h:Fg C k' .normal a w):Fg C k (.exit id) a w:=by
 induction k with
 | nil=>simp [Fa] at hp
 | cons x k ih =>
  cases x with
  | code c=>exact ih (by simpa [Fa] using hp)
  | again I=>exact ih (by simpa [Fa] using hp)
  | blk id' =>
   simp only [Fg];by_cases hid:id=id'
   ·
    simp only [Fa,hid,if_true] at hp;cases hp;simp only [hid,if_true];exact h
   simp only [Fa,hid,if_false] at hp;simp only [hid,if_false];exact ih hp
theorem Ax {id:Nat}{k':List It} (hp:Fa id k=some k') (h:VC C k' e w):VC C (.code (.exit id)::k) e w :=
 fun a n ha=>wp_exit (Qqh hp (h a n ha))
theorem Qxs {k:List It}{a:Act} (h:bodyPost C.P C.fn (V8 C.F) .ret a w):Fg C k .ret a w:=by
 induction k with
 | nil=>exact h
 | cons x k ih=>cases x <;> exact ih
theorem Ae (h:VX C [] .ret e w):VC C (.code .ret::k) e w:=fun a n ha=>wp_ret (Qxs (h a n ha))
theorem S4 (h:VX C [] .ret e w):VC C [] e w:=fun a n ha=>h a n ha
theorem Ly (hr:C.fn.results=#[]) (h:C.F (.tuple #[]) w):VX C [] .ret e w :=
 fun _ n ha=>⟨ha.defers,_,results_none hr _ _ _,_,w,n,rfl,rfl,h⟩
theorem Al {t:Tmp}{v:Value} (hr:C.fn.results=#[.tmp t]) (hv:e.find? t=some v) (h:C.F v w):VX C [] .ret e w :=
 fun _ n ha=>⟨ha.defers,_,results_tmp hr _ _ _,_,w,n,rfl,rfl,by rw [ha.at_ t v hv];exact h⟩
theorem Bp {t u:Tmp}{v x:Value} (hr:C.fn.results=#[.tmp t,.tmp u]) (hv:e.find? t=some v) (hx:e.find? u=some x) (h:C.F (.tuple #[v,x]) w):VX C [] .ret e w :=
 fun _ n ha=>⟨ha.defers,_,results_tmp2 hr _ _ _,_,w,n,rfl,rfl,by rw [ha.at_ t v hv,ha.at_ u x hx];exact h⟩
theorem Qi3 {fn:Func}{t u s:Tmp} (h:fn.results=#[.tmp t,.tmp u,.tmp s]) (tmps:Array Value) (P:Program) (w:World) :
  (results fn tmps).run P w=.ok (.tuple #[tmps.getD t undef,tmps.getD u undef,tmps.getD s undef]) w:=by
 simp [results,h]
theorem Q8 {t u s:Tmp}{v x y:Value} (hr:C.fn.results=#[.tmp t,.tmp u,.tmp s]) (hv:e.find? t=some v) (hx:e.find? u=some x) (hy:e.find? s=some y)
  (h:C.F (.tuple #[v,x,y]) w):VX C [] .ret e w :=
 fun _ n ha=>⟨ha.defers,_,Qi3 hr _ _ _,_,w,n,rfl,rfl,by rw [ha.at_ t v hv,ha.at_ u x hx,ha.at_ s y hy];exact h⟩
theorem Ai {c:Operand}{t:Tmp}{b:Bool}{x y:Code} (hc:c=.tmp t) (hv:e.find? t=some (.bool b))
  (ht:b=true->VC C (.code x::k) e w) (hf:b=false->VC C (.code y::k) e w):VC C (.code (.cond c x y)::k) e w:=by
 intro a n ha;subst hc;exact wp_cond_split (t:=b) (ha.at_ t _ hv) (fun h=>ht h a n ha) (fun h=>hf h a n ha)
end
theorem Qnc {P:Program}{Q:Exit->Act->World->Prop}{a:Act}{w:World}{c:Code} (I:Nat->Act->World->Prop) (n:Nat) (h₀:I n a w)
  (round:∀ n a w,I n a w->c.wp P (Exit.then (fun a' w'=>∃ m,m < n/\I m a' w') Q) a w):(Code.loop c).wp P Q a w:=by
 intro b k cs
 have key:∀ n a w,I n a w ->
   ∃ e a' w',Q e a' w'/\Arrives P (lone (b.at a (.code c::.inLoop c::k)) cs w) b k cs e a' w':=by
  intro n
  induction n using Nat.strongRecOn with
  | _ n ih =>
   intro a w hI;obtain ⟨e,a₁,w₁,hq,harr⟩:=round n a w hI b (.inLoop c::k) cs;cases e with
   | normal =>
    obtain ⟨m,hlt,hI₁⟩:=hq;obtain ⟨e₂,a₂,w₂,hq₂,harr₂⟩:=ih m hlt a₁ w₁ hI₁;exact ⟨e₂,a₂,w₂,hq₂,.of_steps (Steps.trans harr (.one step_inLoop)) harr₂⟩
   | exit id=>exact ⟨_,a₁,w₁,hq,.pass (x:=.inLoop c) rfl (fun _ _=>.inl (by simp)) harr⟩
   | goto l=>exact ⟨_,a₁,w₁,hq,.pass (x:=.inLoop c) rfl (fun _ _=>.inl (by simp)) harr⟩
   | ret=>exact ⟨_,a₁,w₁,hq,.pass (x:=.inLoop c) rfl (fun _ _=>.inl (by simp)) harr⟩
   | panic ch=>exact ⟨_,a₁,w₁,hq,.pass (x:=.inLoop c) rfl (fun _ _=>.inl (by simp)) harr⟩
   | outgrown=>exact ⟨_,a₁,w₁,hq,.pass (x:=.inLoop c) rfl (fun _ _=>.inl (by simp)) harr⟩
 obtain ⟨e,a',w',hq,harr⟩:=key n a w h₀;exact ⟨e,a',w',hq,.of_steps (.one step_loop) harr⟩
theorem QBa {C:Kv}{k:List It}{e:Env}{w:World}{body:Code} (I:Nat->Env->World->Prop) (n:Nat) (h0:I n e w)
  (round:∀ n e w,I n e w->VC C (.code body::.again (fun e' w'=>∃ m,m < n/\I m e' w')::k) e w):VC C (.code (.loop body)::k) e w:=by
 intro a d ha;refine Qnc (fun n a w=>∃ e w0 d,w=w0.drewN d/\Fits C.N e a/\I n e w0) n ⟨e,w,d,rfl,ha,h0⟩ ?_;rintro n a w ⟨e,w0,d,rfl,ha,hI⟩;have h1:=round n e w0 hI a d ha;simp only [Fg] at h1;refine wp_mono h1 fun ex a w hq=>?_;cases ex with
 | normal=>obtain ⟨e',w1,d',hw,hf,m,hm,hI'⟩:=hq;exact ⟨m,hm,e',w1,d',hw,hf,hI'⟩
 | _=>exact hq
theorem Qqi {P:Program}{f:FuncId}{fn:Func}{c:Code}{args:Array Value}{w:World}{F:Value->World->Prop} (N:Nat) (e:Env)
  (hf:P.funcs[f]? = some fn) (hb:fn.body=some c) (hN:args.size+(fn.ntmps - args.size)=N)
  (he:∀ t v,e.find? t=some v->args[t]? = some v)
  (h:VC ⟨P,fn,F,N⟩ [.code c] e w):Does P f args w F:=by
 intro n;refine calls_of_wp hf hb ?_;refine wp_mono (h { tmps:=args++Array.replicate (fn.ntmps - args.size) undef,defers:=[] } n ⟨by simpa using hN,rfl,fun t v ht=>?_⟩) fun ex a w hq=>hq;have:=he t v ht;rw [Array.getD_eq_getD_getElem?,Array.getElem?_append]
 have hlt:t < args.size:=by
  rcases Xw t args.size with h | h
  ·
   exact h
  simp [Array.getElem?_eq_none h] at this
 simp [hlt] at this ⊢;exact this
def Env.ofArgs:Nat->LV->Env
 | _,[]=>[]
 | n,v::vs=>(n,v)::Env.ofArgs (n+1) vs
theorem Env.find?_ofArgs (vs:LV):∀ (n t:Nat) (v:Value),(Env.ofArgs n vs).find? t=some v->n<=t/\vs[t - n]? = some v:=by
 induction vs with
 | nil=>intro n t v h;simp [Env.ofArgs,Env.find?] at h
 | cons x vs ih =>
  intro n t v h;simp only [Env.ofArgs,Env.find?_cons] at h;split at h
  ·
   rename_i ht;subst ht;simp at h;subst h;simp
  rename_i ht;obtain ⟨h1,h2⟩:=ih (n+1) t v h;refine ⟨by omega,?_⟩;rw [show t - n=(t - (n+1))+1 by omega];simpa using h2
theorem Qu {P:Program}{f:FuncId}{fn:Func}{c:Code}{args:LV}{w:World}{F:Value->World->Prop} (N:Nat)
  (hf:P.funcs[f]? = some fn) (hb:fn.body=some c) (hN:fn.ntmps=N) (hle:args.length<=N)
  (h:VC ⟨P,fn,F,N⟩ [.code c] (Env.ofArgs 0 args) w):Does P f args.toArray w F :=
 Qqi N _ hf hb (by simp [hN];omega) (fun t v ht=>by have:=Env.find?_ofArgs args 0 t v ht;simpa using this.2) h
structure Ext (w w':World):Prop where
 block:∀ (k:Nat) (o:Obj),w.heap[k]? = some o->(∃ T fz,o=Obj.cells #[] T fz)∨w'.heap[k]? = some o
theorem Ext.refl (w:World):Ext w w:=⟨fun _ _ h=>.inr h⟩
theorem Ext.trans {a b c:World} (h:Ext a b) (k:Ext b c):Ext a c:=⟨fun i o hi=>(h.block i o hi).elim .inl fun h1=>k.block i o h1⟩
theorem Ext.drewN (w:World) (n:Nat):Ext w (w.drewN n):=⟨fun _ _ h=>.inr h⟩
theorem Ext.of_keep {w w':World} (h:∀ k:Nat,k < w.heap.size->w'.heap[k]? = w.heap[k]?):Ext w w' :=
 ⟨fun k o hk=>.inr (by rw [h k (Array.getElem?_eq_some_iff.1 hk).1];exact hk)⟩
theorem Ext.cell {w w':World} (h:Ext w w') {a:Addr}{v:Value} (hc:w.cell? a=some v):w'.cell? a=some v:=by
 unfold World.cell? at hc ⊢;cases ho:w.heap[a.block]? with
 | none=>simp [ho] at hc
 | some o =>
  rcases h.block _ o ho with ⟨T,fz,rfl⟩ | h1
  ·
   simp [ho] at hc
  rw [h1];rw [ho] at hc;exact hc
def holes (B:LN) (w:World):World:={ w with heap:=w.heap.mapIdx fun k o=>if k∈B then Obj.cells #[] 0 else o }
theorem Ext.holes {B:LN}{w w':World} (h:∀ k:Nat,k < w.heap.size->k ∉ B->w'.heap[k]? = w.heap[k]?):Ext (holes B w) w':=by
 refine ⟨fun k o hk=>?_⟩;simp only [Eng.holes,Array.getElem?_mapIdx] at hk;cases ho:w.heap[k]? with
 | none=>simp [ho] at hk
 | some o' =>
  simp only [ho,Option.map_some,Option.some.injEq] at hk;by_cases hB:k∈B
  ·
   rw [if_pos hB] at hk;exact .inl ⟨0,(0,0),hk.symm⟩
  rw [if_neg hB] at hk;subst hk;exact .inr (by rw [h k (Array.getElem?_eq_some_iff.1 ho).1 hB];exact ho)
theorem Zf {B:LN}{w:World}{a:Addr}{v:Value} (hc:w.cell? a=some v) (hB:a.block ∉ B):(holes B w).cell? a=some v:=by
 unfold World.cell? at hc ⊢;simp only [Eng.holes,Array.getElem?_mapIdx];cases ho:w.heap[a.block]? with
 | none=>simp [ho] at hc
 | some o=>simp only [Option.map_some,if_neg hB];rw [ho] at hc;exact hc
theorem Ext.hole (B:LN) (w:World):Ext (Eng.holes B w) w:=Ext.holes fun _ _ _=>rfl
abbrev Ab (l:LB):Value:=.string ⟨l.toArray⟩
abbrev A8 (s:ByteArray):LB:=s.data.toList
abbrev I64 (n:Int):Prop:=-9223372036854775808<=n/\n<=9223372036854775807
theorem I64.mk {n:Int} (h:-9223372036854775808<=n) (h':n<=9223372036854775807):I64 n:=⟨h,h'⟩
def C9:IntKind->Int->(Value->Prop)->Prop
 | .i64,n,K=>I64 n/\K (.int .i64 n)
 | .u8,n,K=>K (.int .u8 (n % 256))
 | .u16,n,K=>K (.int .u16 (n % 65536))
 | .u32,n,K=>K (.int .u32 (n % 4294967296))
 | .u64,n,K=>K (.int .u64 (n % 18446744073709551616))
 | k,n,K=>K (.int k (k.wrap n))
theorem Sb {n:Int} (h:I64 n):IntKind.i64.wrap n=n:=by
 obtain ⟨h1,h2⟩:=h;simp only [Y3,Yu,Yi];simp;split <;> omega
theorem Qtl (n:Int):IntKind.u8.wrap n=n % 256:=by simp [Y3,Yu,Yi]
theorem Qxt (n:Int):IntKind.u16.wrap n=n % 65536:=by simp [Y3,Yu,Yi]
theorem Qo7 (n:Int):IntKind.u32.wrap n=n % 4294967296:=by simp [Y3,Yu,Yi]
theorem Qo8 (n:Int):IntKind.u64.wrap n=n % 18446744073709551616:=by simp [Y3,Yu,Yi]
theorem Qq {k:IntKind}{n:Int}{K:Value->Prop} (h:C9 k n K):K (.int k (k.wrap n)):=by
 cases k <;> simp only [C9] at h
 case i64=>rw [Sb h.1];exact h.2
 case u8=>rw [Qtl];exact h
 case u16=>rw [Qxt];exact h
 case u32=>rw [Qo7];exact h
 case u64=>rw [Qo8];exact h
 all_goals exact h
def Fit0:IntKind->Int->Prop
 | .i64,n=>0<=n/\n<=9223372036854775807
 | .u8,n=>0<=n/\n<=255
 | .u16,n=>0<=n/\n<=65535
 | .u32,n=>0<=n/\n<=4294967295
 | .u64,n=>0<=n/\n<=18446744073709551615
 | _,_=>False
def Pl:IntKind->Nat
 | .i64=>63
 | .u8=>8
 | .u16=>16
 | .u32=>32
 | .u64=>64
 | _=>0
theorem Fit0.spec {k:IntKind}{n:Int} (h:Fit0 k n):0<=n/\n.toNat < 2 ^ Pl k/\Pl k<=k.bits/\(k.signed=true->Pl k < k.bits):=by
 cases k <;> simp [Fit0,Pl,Yu,Yi] at h ⊢ <;> omega
theorem Qbz {k:IntKind}{r:Nat} (hw:Pl k<=k.bits) (hs:k.signed=true->Pl k < k.bits) (hr:r < 2 ^ Pl k):k.wrap (r:Int)=r:=by
 cases k <;> simp only [Pl,Yu,Yi] at * <;> simp [Y3,Yu,Yi] at hs hr ⊢ <;> omega
theorem toNat_ofInt {n:Nat}{a:Int} (h:0<=a) (h2:a.toNat < 2 ^ n):(BitVec.ofInt n a).toNat=a.toNat:=by
 obtain ⟨m,rfl⟩:=Int.eq_ofNat_of_zero_le h;simp only [BitVec.toNat_ofInt];simp at h2;rw [Xm (by omega) (by exact_mod_cast h2)]
def Rq (op:BinOp) (k:IntKind) (a b:Int) (K:Value->Prop):Prop :=
 Fit0 k a/\Fit0 k b/\match op with
  | .and=>K (.int k ((a.toNat &&& b.toNat:Nat):Int))
  | .or=>K (.int k ((a.toNat ||| b.toNat:Nat):Int))
  | .xor=>K (.int k ((a.toNat ^^^ b.toNat:Nat):Int))
  | _=>False
theorem Qh9 {P:Program}{op:BinOp}{k:IntKind}{a b:Int}{K:Value->Prop} (h:Rq op k a b K):∃ v,K v/\∀ w,(Op.intBits op k a b).run P w=.ok v w:=by
 obtain ⟨ha,hb,h⟩:=h;obtain ⟨ha0,ha1,hw,hs⟩:=ha.spec;obtain ⟨hb0,hb1,_,_⟩:=hb.spec;have ha2:a.toNat < 2 ^ k.bits:=Y8 ha1 (X2 (by omega) hw);have hb2:b.toNat < 2 ^ k.bits:=Y8 hb1 (X2 (by omega) hw);cases op <;> simp only at h <;> try exact h.elim
 ·
  refine ⟨_,h,fun w=>?_⟩;simp only [Op.intBits,Yb,BitVec.toNat_and,toNat_ofInt ha0 ha2,toNat_ofInt hb0 hb2];rw [Qbz hw hs (Nat.and_lt_two_pow _ hb1)]
 ·
  refine ⟨_,h,fun w=>?_⟩;simp only [Op.intBits,Yb,BitVec.toNat_or,toNat_ofInt ha0 ha2,toNat_ofInt hb0 hb2];rw [Qbz hw hs (Nat.or_lt_two_pow ha1 hb1)]
 refine ⟨_,h,fun w=>?_⟩;simp only [Op.intBits,Yb,BitVec.toNat_xor,toNat_ofInt ha0 ha2,toNat_ofInt hb0 hb2];rw [Qbz hw hs (Nat.xor_lt_two_pow ha1 hb1)]
def By (k:IntKind) (y:Int):Nat:=min y.toNat k.bits
def E3 (op:BinOp) (k:IntKind) (a b:Int) (K:Value->Prop):Prop :=
 match op with
 | .add=>C9 k (a+b) K
 | .sub=>C9 k (a - b) K
 | .mul=>C9 k (a * b) K
 | .quo=>0<=a/\0 < b/\C9 k (a / b) K
 | .rem=>0<=a/\0 < b/\K (.int k (a % b))
 | .and=>Rq .and k a b K
 | .or=>Rq .or k a b K
 | .xor=>Rq .xor k a b K
 | .eql=>K (.bool (decide (a=b)))
 | .neq=>K (.bool (decide (¬ a=b)))
 | .lss=>K (.bool (decide (a < b)))
 | .leq=>K (.bool (decide (a<=b)))
 | .gtr=>K (.bool (decide (b < a)))
 | .geq=>K (.bool (decide (b<=a)))
 | _=>False
def EqV (P:Program) (op:BinOp) (T:TypeId) (x y:Value) (w:World) (K:Value->Prop):Prop :=
 ∃ b:Bool,K (.bool b)/\∀ w',Ext w w'->(binOp op T x y).run P w'=.ok (.bool b) w'
def N3 (op:BinOp) (s t:ByteArray) (K:Value->Prop):Prop :=
 match op with
 | .add=>((A8 s).length+(A8 t).length:Int)<=9223372036854775807/\K (Ab (A8 s++A8 t))
 | .eql=>K (.bool (decide (A8 s=A8 t)))
 | .neq=>K (.bool (decide (¬ A8 s=A8 t)))
 | .lss=>K (.bool (Op.bytesLess (A8 s) (A8 t)))
 | .leq=>K (.bool (! Op.bytesLess (A8 t) (A8 s)))
 | .gtr=>K (.bool (Op.bytesLess (A8 t) (A8 s)))
 | .geq=>K (.bool (! Op.bytesLess (A8 s) (A8 t)))
 | _=>False
def C6 (P:Program) (op:BinOp) (T:TypeId) (x y:Value) (w:World) (K:Value->Prop):Prop :=
 match x,y with
 | .int k a,.int k' b=>match op with
  | .shl=>0<=b/\C9 k (a * 2 ^ By k b) K
  | .shr=>0<=b/\K (.int k (a / 2 ^ By k b))
  | op=>k=k'/\E3 op k a b K
 | .string s,.string t=>N3 op s t K
 | .bool a,.bool b=>match P.underlying T with
  | some .bool=>match op with
   | .eql=>K (.bool (decide (a=b)))
   | .neq=>K (.bool (decide (¬ a=b)))
   | _=>False
  | _=>False
 | x,y=>match op with
  | .eql=>EqV P .eql T x y w K
  | .neq=>EqV P .neq T x y w K
  | _=>False
theorem QBb {a b:Int} (ha:0<=a):a.tdiv b=a / b:=by rw [Int.tdiv_eq_ediv_of_nonneg ha]
theorem Wo {α:Type} [DecidableEq α] [BEq α] [LawfulBEq α] (a b:α):(a == b)=decide (a=b):=by by_cases h:a=b <;> simp [h]
theorem Qxu {P:Program}{op:BinOp}{k:IntKind}{a b:Int}{K:Value->Prop} (h:E3 op k a b K) {T:TypeId}:∃ v,K v/\∀ w,(binOp op T (.int k a) (.int k b)).run P w=.ok v w:=by
 cases op <;> simp only [E3] at h <;> try exact h.elim
 case add=>exact ⟨_,Qq h,fun w=>by simp [binOp,Op.intArith]⟩
 case sub=>exact ⟨_,Qq h,fun w=>by simp [binOp,Op.intArith]⟩
 case mul=>exact ⟨_,Qq h,fun w=>by simp [binOp,Op.intArith]⟩
 case quo=>exact ⟨_,Qq h.2.2,fun w=>by simp [binOp,Op.intDiv,QBb h.1,show b≠0 by omega]⟩
 case rem=>exact ⟨_,h.2.2,fun w=>by simp [binOp,Op.intDiv,Int.tmod_eq_emod_of_nonneg h.1,show b≠0 by omega]⟩
 case and=>obtain ⟨v,hv,hr⟩:=Qh9 (P:=P) h;exact ⟨v,hv,fun w=>by simp [binOp,hr]⟩
 case or=>obtain ⟨v,hv,hr⟩:=Qh9 (P:=P) h;exact ⟨v,hv,fun w=>by simp [binOp,hr]⟩
 case xor=>obtain ⟨v,hv,hr⟩:=Qh9 (P:=P) h;exact ⟨v,hv,fun w=>by simp [binOp,hr]⟩
 all_goals
  refine ⟨_,h,fun w=>?_⟩;simp [binOp,Op.intCmp]
 ·
  exact Wo _ _
 rw [bne,Wo]
theorem Qae (x y:LB):(Op.bytesLess x y || x == y)=! Op.bytesLess y x:=by
 induction x generalizing y with
 | nil=>cases y <;> simp [Op.bytesLess]
 | cons a x ih =>
  cases y with
  | nil=>simp [Op.bytesLess]
  | cons b y =>
   have:=ih y;simp only [Op.bytesLess];by_cases h1:a < b
   ·
    have h2:¬ b < a:=by
     intro h;exact absurd (Y0.1 h) (by have:=Y0.1 h1;omega)
    have h3:¬ b=a:=by rintro rfl;exact absurd (Y0.1 h1) (by omega)
    simp [h1,h2,h3]
   by_cases h3:a=b
   ·
    subst h3;simp [h1,this]
   have h2:b < a:=by
    rw [Y0] at h1 ⊢;have:a.toNat≠b.toNat:=fun h=>h3 (UInt8.toNat_inj.1 h);omega
   simp [h1,h2,h3]
theorem R7 (s:ByteArray):s.toList=s.data.toList:=ByteArray.toList_eq s
theorem Qxv {P:Program}{op:BinOp}{s t:ByteArray}{K:Value->Prop} (h:N3 op s t K) {T:TypeId}:∃ v,K v/\∀ w,(binOp op T (.string s) (.string t)).run P w=.ok v w:=by
 cases op <;> simp only [N3] at h <;> try exact h.elim
 case add =>
  refine ⟨_,h.2,fun w=>?_⟩
  have hs:¬ ((s.size+t.size:Nat):Int) > IntKind.i64.max:=by
   have h1:=h.1;have e1:s.size=(A8 s).length:=rfl;have e2:t.size=(A8 t).length:=rfl;rw [e1,e2];have e3:IntKind.i64.max=9223372036854775807:=by decide
   rw [e3];omega
  have e:s++t=⟨(A8 s++A8 t).toArray⟩:=by
   apply ByteArray.ext
   show (s++t).data=(s.data.toList++t.data.toList).toArray
   rw [ByteArray.data_append];exact Array.ext' (by simp)
  simp only [binOp,Op.stringOp,if_neg hs,Yb,e]
 case lss=>exact ⟨_,h,fun w=>by simp [binOp,Op.stringOp,R7,A8]⟩
 case leq =>
  refine ⟨_,h,fun w=>?_⟩;have:=Qae s.data.toList t.data.toList;simp only [binOp,Op.stringOp,R7,A8,this,Yb]
 case gtr =>
  refine ⟨_,h,fun w=>?_⟩;have:=Qae s.data.toList t.data.toList;simp only [binOp,Op.stringOp,R7,A8,this,Yb,Bool.not_not]
 case geq=>exact ⟨_,h,fun w=>by simp [binOp,Op.stringOp,R7,A8]⟩
 case eql =>
  refine ⟨_,h,fun w=>?_⟩;simp only [binOp,Op.stringOp,R7,Yb,A8];rw [Wo]
 case neq =>
  refine ⟨_,h,fun w=>?_⟩;simp only [binOp,Op.stringOp,R7,Yb,A8];rw [Wo];simp
theorem Qcp {P:Program}{T:TypeId} (hu:P.underlying T=some .bool) (d:Nat) (a b:Bool) (w:World):(Op.equalIn (d+1) T (.bool a) (.bool b)).run P w=.ok (decide (a=b)) w:=by
 unfold Op.equalIn;simp only [Yc,run_underlying hu,Ya,Yb,Wo]
theorem Qas {P:Program}{T:TypeId} (hu:P.underlying T=some .bool) (a b:Bool) (w:World):(Op.equal T (.bool a) (.bool b)).run P w=.ok (decide (a=b)) w :=
 Qcp hu 9999 a b w
theorem Tx {P:Program}{op:BinOp}{T:TypeId}{x y:Operand}{a b:Value} (h:(∀ c,a≠.agg c)/\a≠.nilIface) (w:World):(eqGuard op T x y a b).run P w=.ok () w:=by
 unfold eqGuard;cases op <;> simp <;> (split <;> simp_all)
theorem Qia {P:Program}{op:BinOp}{T:TypeId}{x y:Value}{w:World}{K:Value->Prop} (h:C6 P op T x y w K):∃ v,K v/\∀ w',Ext w w'->(binOp op T x y).run P w'=.ok v w':=by
 unfold C6 at h;split at h
 ·
  rename_i k a k' b;cases op
  case shl =>
   refine ⟨_,Qq h.2,fun w' _=>?_⟩;simp [binOp,Op.shift,show ¬ b < 0 by omega,By]
  case shr =>
   refine ⟨_,h.2,fun w' _=>?_⟩;simp only [binOp,Op.shift,show ¬ b < 0 by omega,By,if_false,Yb];rw [Int.fdiv_eq_ediv_of_nonneg];exact Int.pow_nonneg (by omega)
  all_goals
   obtain ⟨rfl,h⟩:=h;obtain ⟨v,hv,hr⟩:=Qxu (P:=P) (T:=T) h;exact ⟨v,hv,fun w' _=>hr w'⟩
 ·
  obtain ⟨v,hv,hr⟩:=Qxv (P:=P) (T:=T) h;exact ⟨v,hv,fun w' _=>hr w'⟩
 ·
  rename_i a b;split at h
  ·
   rename_i hu;split at h
   ·
    refine ⟨_,h,fun w' _=>?_⟩;have he:=fun w=>Qas (P:=P) hu a b w;simp only [binOp,Yc,he,Ya,Yb]
   ·
    refine ⟨_,h,fun w' _=>?_⟩;have he:=fun w=>Qas (P:=P) hu a b w;simp only [binOp,Yc,he,Ya,Yb,decide_not]
   exact h.elim
  exact h.elim
 split at h
 ·
  obtain ⟨b,hb,hr⟩:=h;exact ⟨_,hb,hr⟩
 ·
  obtain ⟨b,hb,hr⟩:=h;exact ⟨_,hb,hr⟩
 exact h.elim
def Eu:Env->Nat->(Value->Prop)->Prop
 | [],_,_=>False
 | p::e,n,K=>if n=p.1 then K p.2 else Eu e n K
def Am (e:Env) (x:Operand) (K:Value->Prop):Prop :=
 match x with
 | .tmp t=>Eu e t K
 | .const v=>K v
 | .global g=>K (.pointer (some ⟨g,0,none⟩))
 | .func f=>K (.func (.func f) #[] #[])
def Cz (e:Env):List Operand->(LV->Prop)->Prop
 | [],K=>K []
 | x::xs,K=>Am e x fun v=>Cz e xs fun vs=>K (v::vs)
theorem Qjv {e:Env}{n:Nat}{K:Value->Prop} (h:Eu e n K):∃ v,e.find? n=some v/\K v:=by
 induction e with
 | nil=>exact h.elim
 | cons p e ih =>
  simp only [Eu,Env.find?_cons] at h ⊢;split
  ·
   rename_i hn;rw [if_pos hn] at h;exact ⟨_,rfl,h⟩
  rename_i hn;rw [if_neg hn] at h;exact ih h
theorem Cp {N:Nat}{e:Env}{a:Act}{x:Operand}{K:Value->Prop} (ha:Fits N e a) (h:Am e x K):K (a.eval x):=by
 cases x with
 | tmp t=>obtain ⟨v,hv,hK⟩:=Qjv h;show K (a.tmps.getD t undef);rw [ha.at_ t v hv];exact hK
 | const v=>exact h
 | global g=>exact h
 | func f=>exact h
theorem Lt {N:Nat}{e:Env}{a:Act} (ha:Fits N e a) {xs:List Operand}:∀ {K:LV->Prop},Cz e xs K->K (xs.map a.eval):=by
 induction xs with
 | nil=>intro K h;exact h
 | cons x xs ih=>intro K h;exact ih (Cp ha h)
end Go.Eng
namespace Go
def Program.szo (P:Program) (T:TypeId):Option Nat:=(P.info? T).map (·.size)
end Go
namespace Go.Eng
open Go
theorem I7 {P:Program}{T:TypeId}{n:Nat} (h:P.szo T=some n) (w:World):(sizeOf T).run P w=.ok n w:=by
 unfold Program.szo at h;cases hi:P.info? T with
 | none=>simp [hi] at h
 | some i =>
  simp [hi] at h;simp [sizeOf,typeInfo,hi,h]
def Reads (w:World) (a:Addr) (xs:LV):Prop:=∀ j u,xs[j]? = some u->w.cell? (a.add j)=some u
theorem Reads.ext {w w':World}{a:Addr}{xs:LV} (h:Reads w a xs) (hh:Ext w w'):Reads w' a xs:=fun j u hu=>hh.cell (h j u hu)
theorem Reads.heap {w w':World}{a:Addr}{xs:LV} (h:Reads w a xs) (hh:w'.heap=w.heap):Reads w' a xs:=by
 intro j u hu;have:=h j u hu;simpa [World.cell?,hh] using this
def Px (P:Program) (T:TypeId) (cs:Array Value) (off:Nat) (K:Value->Prop):Prop :=
 match P.underlying T with
 | some (.struct _) | some (.array _ _)=>match P.szo T with
  | some n=>K (.agg (cs.extract off (off+n)))
  | none=>False
 | some _=>match cs[off]? with
  | some v=>K v
  | none=>False
 | none=>False
theorem Qjw {P:Program}{T:TypeId}{cs:Array Value}{off:Nat}{K:Value->Prop} (h:Px P T cs off K):∃ v,K v/\∀ w,(part T cs off).run P w=.ok v w:=by
 unfold Px at h;split at h
 ·
  rename_i hu;split at h
  ·
   rename_i n hn;exact ⟨_,h,fun w=>by simp [part,isAgg,run_underlying hu,I7 hn]⟩
  exact h.elim
 ·
  rename_i hu;split at h
  ·
   rename_i n hn;exact ⟨_,h,fun w=>by simp [part,isAgg,run_underlying hu,I7 hn]⟩
  exact h.elim
 ·
  rename_i d hd1 hd2 hu;split at h
  ·
   rename_i v hv;refine ⟨_,h,fun w=>?_⟩
   have:(isAgg T).run P w=.ok false w:=by
    cases d <;> simp_all [isAgg,run_underlying hu]
   simp [part,this,hv]
  exact h.elim
 exact h.elim
def E7 (P:Program) (T:TypeId) (x i:Value) (K:Value->Prop):Prop :=
 match x,i with
 | .string s,.int _ n=>P.underlying T=some .string/\(0<=n/\n < (A8 s).length)/\K (.int .u8 ((A8 s).getD n.toNat 0).toNat)
 | .agg cs,.int _ n=>match P.underlying T with
  | some (.array len E)=>(0<=n/\n < len)/\match P.szo E with
   | some sz=>Px P E cs (n.toNat * sz) K
   | none=>False
  | _=>False
 | _,_=>False
theorem Qqj {P:Program}{T:TypeId}{x i:Value}{K:Value->Prop} (h:E7 P T x i K):∃ v,K v/\∀ w,(Instr.index T x i).run P w=.ok v w:=by
 unfold E7 at h;split at h
 ·
  rename_i s k n;obtain ⟨hu,hb,h⟩:=h;refine ⟨_,h,fun w=>?_⟩;have hlt:n.toNat < s.data.toList.length:=by simp only [A8] at hb;omega
  have hlt':n.toNat < s.data.size:=by simpa using hlt
  have hg:s[n.toNat]? = some (s.data.toList.getD n.toNat 0):=by
   rw [Yj,Yg hlt];simp only [getElem?_def];rw [dif_pos (by exact hlt')];rfl
  simp only [Instr.index,asIntOf,Yc,Yb,Ya,run_underlying hu,hb.1,if_true,hg,A8]
 ·
  rename_i cs k n;split at h
  ·
   rename_i len E hu;obtain ⟨hb,h⟩:=h;split at h
   ·
    rename_i sz hsz;obtain ⟨v,hv,hr⟩:=Qjw h;refine ⟨v,hv,fun w=>?_⟩;simp [Instr.index,asIntOf,run_underlying hu,hb,I7 hsz,hr]
   exact h.elim
  exact h.elim
 exact h.elim
def Cg (P:Program) (T:TypeId) (x:Value) (lo hi:Option Value) (K:Value->Prop):Prop :=
 match x with
 | .string s=>P.underlying T=some .string/\match lo,hi with
  | none,none=>K (.string s)
  | some (.int _ l),none=>(0<=l/\l<=(A8 s).length)/\K (Ab ((A8 s).drop l.toNat))
  | none,some (.int _ h)=>(0<=h/\h<=(A8 s).length)/\K (Ab ((A8 s).take h.toNat))
  | some (.int _ l),some (.int _ h)=>(0<=l/\l<=h/\h<=(A8 s).length)/\K (Ab (((A8 s).drop l.toNat).take (h.toNat - l.toNat)))
  | _,_=>False
 | .slice a n cap=>match P.underlying T with
  | some (.slice E)=>match P.szo E with
   | some sz=>match lo,hi with
    | none,none=>n<=cap/\K (.slice a n cap)
    | some (.int _ l),none=>(0<=l/\l<=n/\n<=cap)/\K (.slice (if cap=l.toNat then a else a.map (·.add (l.toNat * sz))) (n - l.toNat) (cap - l.toNat))
    | none,some (.int _ h)=>(0<=h/\h<=cap)/\K (.slice a h.toNat cap)
    | some (.int _ l),some (.int _ h)=>(0<=l/\l<=h/\h<=cap)/\K (.slice (if cap=l.toNat then a else a.map (·.add (l.toNat * sz))) (h.toNat - l.toNat) (cap - l.toNat))
    | _,_=>False
   | none=>False
  | _=>False
 | _=>False
theorem Ty (s:ByteArray) (l h:Nat):s.extract l h=⟨((s.data.toList.drop l).take (h - l)).toArray⟩:=by
 apply ByteArray.ext
 show (s.extract l h).data=_
 rw [ByteArray.data_extract];apply Array.ext';simp [Xl]
theorem Zr {P:Program}{k:IntKind}{i:Int}{y:Nat}{code:BoundsCode} (h0:0<=i) (h1:i<=y) (w:World):(Instr.sliceBound (.int k i) y code).run P w=.ok i.toNat w:=by
 simp [Instr.sliceBound,asIntOf,h0,h1]
theorem Qqk {P:Program}{T:TypeId}{x:Value}{lo hi:Option Value}{K:Value->Prop} (h:Cg P T x lo hi K) :
  ∃ v,K v/\∀ w,(Instr.sliceAt T x lo hi none).run P w=.ok v w:=by
 unfold Cg at h;split at h
 ·
  rename_i s;obtain ⟨hu,h⟩:=h;have hsz:s.size=s.data.toList.length:=rfl;split at h
  ·
   refine ⟨_,h,fun w=>?_⟩;simp [Instr.sliceAt,Instr.slice,Instr.sliceBounds,run_underlying hu]
  ·
   rename_i k l;refine ⟨_,h.2,fun w=>?_⟩;have hb:0<=l/\l<=(s.size:Int):=h.1
   have:s.extract l.toNat s.size=⟨(s.data.toList.drop l.toNat).toArray⟩:=by
    rw [Ty,hsz];congr 2;apply Xa;simp
   simp [Instr.sliceAt,Instr.slice,Instr.sliceBounds,Instr.sliceBound,asIntOf,run_underlying hu,hb,this,A8]
  ·
   rename_i k l;refine ⟨_,h.2,fun w=>?_⟩;have hb:0<=l/\l<=(s.size:Int):=h.1
   have:s.extract 0 l.toNat=⟨(s.data.toList.take l.toNat).toArray⟩:=by
    rw [Ty];simp
   simp [Instr.sliceAt,Instr.slice,Instr.sliceBounds,Instr.sliceBound,asIntOf,run_underlying hu,hb,this,A8]
  ·
   rename_i k l k' h';refine ⟨_,h.2,fun w=>?_⟩;obtain ⟨⟨h1,h2,h3⟩,_⟩:=h;have hb:0<=h'/\h'<=(s.size:Int):=⟨by omega,h3⟩;have hb2:0<=l/\l<=(h'.toNat:Int):=⟨h1,by omega⟩;have e1:=fun code w=>Zr (P:=P) (k:=k') (y:=s.size) (code:=code) hb.1 hb.2 w;have e2:=fun code w=>Zr (P:=P) (k:=k) (y:=h'.toNat) (code:=code) hb2.1 hb2.2 w;simp [Instr.sliceAt,Instr.slice,Instr.sliceBounds,run_underlying hu,e1,e2,Ty,A8]
  exact h.elim
 ·
  rename_i a n cap;split at h
  ·
   rename_i E hu;split at h
   ·
    rename_i sz hsz;split at h
    ·
     refine ⟨_,h.2,fun w=>?_⟩;have:(a.map fun x=>x.add 0)=a:=by cases a <;> simp [Addr.add]
     simp [Instr.sliceAt,Instr.slice,Instr.sliceBounds,run_underlying hu,I7 hsz,this]
    ·
     rename_i k l;refine ⟨_,h.2,fun w=>?_⟩;obtain ⟨⟨h1,h2,h3⟩,_⟩:=h;simp [Instr.sliceAt,Instr.slice,Instr.sliceBounds,Instr.sliceBound,asIntOf,run_underlying hu,I7 hsz,h1,h2]
    ·
     rename_i k l;refine ⟨_,h.2,fun w=>?_⟩;obtain ⟨⟨h1,h2⟩,_⟩:=h;have:(a.map fun x=>x.add 0)=a:=by cases a <;> simp [Addr.add]
     simp [Instr.sliceAt,Instr.slice,Instr.sliceBounds,Instr.sliceBound,asIntOf,run_underlying hu,I7 hsz,h1,h2,this]
    ·
     rename_i k l k' h';refine ⟨_,h.2,fun w=>?_⟩;obtain ⟨⟨h1,h2,h3⟩,_⟩:=h;have hb:0<=h'/\h'<=(cap:Int):=⟨by omega,h3⟩;have hb2:0<=l/\l<=(h'.toNat:Int):=⟨h1,by omega⟩;have e1:=fun code w=>Zr (P:=P) (k:=k') (y:=cap) (code:=code) hb.1 hb.2 w;have e2:=fun code w=>Zr (P:=P) (k:=k) (y:=h'.toNat) (code:=code) hb2.1 hb2.2 w;simp [Instr.sliceAt,Instr.slice,Instr.sliceBounds,run_underlying hu,I7 hsz,e1,e2]
    exact h.elim
   exact h.elim
  exact h.elim
 exact h.elim
def Ao (l:LB):LV:=l.map fun b=>.int .u8 b.toNat
def Sf (w:World) (a:OA) (n:Nat) (l:LB):Prop :=
 l.length=n/\(a=none->n=0)/\∀ ad,a=some ad->Reads w ad (Ao l)
def D9 (P:Program) (src dst:TypeId) (x:Value) (w:World) (K:Value->Prop):Prop :=
 match P.underlying src,P.underlying dst,x with
 | some _,some (.int k),.int _ n=>C9 k n K
 | some _,some .string,.string s=>K (.string s)
 | some (.slice E),some .string,.slice a n _=>P.underlying E=some (.int .u8)/\∃ l,Sf w a n l/\K (Ab l)
 | _,_,_=>False
theorem Qql (l:LB) (s:ByteArray):(l.map fun b=>(b.toNat:Int)).foldl (fun r n=>r.push (UInt8.ofNat n.toNat)) s=⟨(s.data.toList++l).toArray⟩:=by
 induction l generalizing s with
 | nil=>apply ByteArray.ext;simp
 | cons b l ih =>
  simp only [List.map_cons,List.foldl_cons];rw [ih];apply ByteArray.ext;simp [ByteArray.push]
theorem Qaa {P:Program}{w:World}{a:Addr}{xs:LV} (h:Reads w a xs):(loadCells a xs.length).run P w=.ok xs.toArray w :=
 run_loadCells_list w a xs h
theorem Qut {P:Program}{src dst:TypeId}{x:Value}{w:World}{K:Value->Prop} (h:D9 P src dst x w K) :
  ∃ v,K v/\∀ w',Ext w w'->(convert src dst x).run P w'=.ok v w':=by
 unfold D9 at h;split at h
 ·
  rename_i d k k' n hs hd;refine ⟨_,Qq h,fun w' _=>?_⟩;simp [convert,run_underlying hs,run_underlying hd,Conv.intToInt]
 ·
  rename_i d s hs hd;refine ⟨_,h,fun w' _=>?_⟩;cases d <;> simp [convert,run_underlying hs,run_underlying hd]
 ·
  rename_i E a n c hs hd;obtain ⟨he,l,⟨hl,hnil,hr⟩,hK⟩:=h;refine ⟨_,hK,fun w' hw=>?_⟩;rw [run_convert_bytes_string w' src dst E a n c hs he hd];cases a with
  | none =>
   have hn:=hnil rfl;subst hn;have:l=[]:=Yh hl;subst this;simp only [Conv.bytesToString,Yb];rfl
  | some ad =>
   have hr':=(hr ad rfl).ext hw;have e1:Ao l=(l.map fun b=>(b.toNat:Int)).map (Yw .u8):=by simp [Ao]
   have hc:=Qaa (P:=P) hr';have e2:(Ao l).length=n:=by simp [Ao,hl]
   rw [e2,e1] at hc;rw [run_bytesToString w' ad n c (l.map fun b=>(b.toNat:Int)) hc];rw [Qql];simp
 exact h.elim
def Ec (P:Program) (T:TypeId) (x:Value) (K:Value->Prop):Prop :=
 match P.underlying T,x with
 | some .string,.string s=>K (.int .i64 (A8 s).length)
 | some (.slice _),.slice _ n _=>K (.int .i64 n)
 | some (.array n _),_=>K (.int .i64 n)
 | some (.pointer A),_=>match P.underlying A with
  | some (.array n _)=>K (.int .i64 n)
  | _=>False
 | _,_=>False
theorem Qxw {P:Program}{T:TypeId}{x:Value}{K:Value->Prop} (h:Ec P T x K) {ts:Array TypeId} (ht:ts[0]? = some T) {ty:TypeId} :
  ∃ v,K v/\∀ w,(Builtin.len_ ts ty #[x]).run P w=.ok v w:=by
 unfold Ec at h;split at h
 ·
  rename_i s hu;exact ⟨_,h,fun w=>by simp [Builtin.len_,ht,run_underlying hu,goInt,A8]⟩
 ·
  rename_i hu;exact ⟨_,h,fun w=>by simp [Builtin.len_,ht,run_underlying hu,goInt]⟩
 ·
  rename_i hu;exact ⟨_,h,fun w=>by simp [Builtin.len_,ht,run_underlying hu,goInt]⟩
 ·
  rename_i hu;split at h
  ·
   rename_i hu2;exact ⟨_,h,fun w=>by simp [Builtin.len_,ht,run_underlying hu,run_underlying hu2,goInt]⟩
  exact h.elim
 exact h.elim
def Rr:LV->(Value->Prop)->Prop
 | [.int k x,.int _ y],K=>K (.int k (min x y))
 | [.int k x,.int _ y,.int _ z],K=>K (.int k (min (min x y) z))
 | _,_=>False
def Rs:LV->(Value->Prop)->Prop
 | [.int k x,.int _ y],K=>K (.int k (max x y))
 | [.int k x,.int _ y,.int _ z],K=>K (.int k (max (max x y) z))
 | _,_=>False
theorem Qtm (x y:Int):(if y < x then y else x)=min x y:=by split <;> omega
theorem Qxx {P:Program}{vs:LV}{K:Value->Prop} (h:Rr vs K) {ts:Array TypeId}{ty:TypeId}:∃ v,K v/\∀ w,(Builtin.min_ ts ty vs.toArray).run P w=.ok v w:=by
 unfold Rr at h;split at h
 ·
  exact ⟨_,h,fun w=>by simp [Builtin.min_,Builtin.min2,Qtm]⟩
 ·
  exact ⟨_,h,fun w=>by simp [Builtin.min_,Builtin.min2,Qtm]⟩
 exact h.elim
theorem Qxy {P:Program}{vs:LV}{K:Value->Prop} (h:Rs vs K) {ts:Array TypeId}{ty:TypeId}:∃ v,K v/\∀ w,(Builtin.max_ ts ty vs.toArray).run P w=.ok v w:=by
 unfold Rs at h;split at h
 ·
  exact ⟨_,h,fun w=>by simp [Builtin.max_,Builtin.max2];split <;> omega⟩
 ·
  exact ⟨_,h,fun w=>by simp [Builtin.max_,Builtin.max2];(repeat' split) <;> omega⟩
 exact h.elim
def Bf (P:Program) (T:TypeId) (x:Value) (w:World) (K:Value->Prop):Prop :=
 match x with
 | .pointer (some a)=>match P.underlying T with
  | some (.struct _) | some (.array _ _)=>match P.szo T with
   | some n=>∃ cs:LV,(cs.length=n/\Reads w a cs)/\K (.agg cs.toArray)
   | none=>False
  | some _=>∃ v,w.cell? a=some v/\K v
  | none=>False
 | _=>False
theorem Quu {P:Program}{T:TypeId}{x:Value}{w:World}{K:Value->Prop} (h:Bf P T x w K) :
  ∃ v,K v/\∀ w',Ext w w'->(Instr.loadAt T x).run P w'=.ok v w':=by
 have key:∀ (a:Addr) (n:Nat),(P.szo T=some n)->(∀ w,(isAgg T).run P w=.ok true w)->∀ cs:LV,cs.length=n->Reads w a cs ->
   ∀ w',Ext w w'->(Instr.loadAt T (.pointer (some a))).run P w'=.ok (.agg cs.toArray) w':=by
  intro a n hn hagg cs hl hr w' hw;have:=Qaa (P:=P) (hr.ext hw);rw [hl] at this;simp [Instr.loadAt,Instr.sureAddr,loadVar,hagg,I7 hn,this]
 unfold Bf at h;split at h
 ·
  rename_i a;split at h
  ·
   rename_i hu;split at h
   ·
    rename_i n hn;obtain ⟨cs,⟨hl,hr⟩,hK⟩:=h;exact ⟨_,hK,key a n hn (fun w=>by simp [isAgg,run_underlying hu]) cs hl hr⟩
   exact h.elim
  ·
   rename_i hu;split at h
   ·
    rename_i n hn;obtain ⟨cs,⟨hl,hr⟩,hK⟩:=h;exact ⟨_,hK,key a n hn (fun w=>by simp [isAgg,run_underlying hu]) cs hl hr⟩
   exact h.elim
  ·
   rename_i d hd1 hd2 hu;obtain ⟨v,hv,hK⟩:=h;refine ⟨v,hK,fun w' hw=>?_⟩;have hc:w'.cell? a=some v:=hw.cell hv
   have:(isAgg T).run P w'=.ok false w':=by
    cases d <;> simp_all [isAgg,run_underlying hu]
   simp [Instr.loadAt,Instr.sureAddr,loadVar,this,hc]
  exact h.elim
 exact h.elim
def Mq (x:Value) (K:Value->Prop):Prop :=
 match x with
 | .pointer (some a)=>K (.pointer (some a))
 | .func (.func f) p c=>K (.func (.func f) p c)
 | .iface t v=>K (.iface t v)
 | _=>False
def Ba (P:Program) (S:TypeId) (x:Value) (f:Nat) (K:Value->Prop):Prop :=
 match x with
 | .pointer (some a)=>match P.underlying S with
  | some (.struct fields)=>match fields[f]? with
   | some fd=>match P.szo fd.type with
    | some (_+1)=>K (.pointer (some (a.add fd.offset)))
    | _=>False
   | none=>False
  | _=>False
 | _=>False
theorem Qf9 {P:Program}{S:TypeId}{x:Value}{f:Nat}{K:Value->Prop} (h:Ba P S x f K):∃ v,K v/\∀ w,(Instr.fieldAt S x f).run P w=.ok v w:=by
 unfold Ba at h;split at h
 ·
  split at h
  ·
   rename_i hu;split at h
   ·
    rename_i fd hf;split at h
    ·
     rename_i n hn;exact ⟨_,h,fun w=>by simp [Instr.fieldAt,Instr.sureAddr,run_underlying hu,hf,fieldPlace,I7 hn]⟩
    exact h.elim
   exact h.elim
  exact h.elim
 exact h.elim
def Be (P:Program) (S:TypeId) (x:Value) (f:Nat) (K:Value->Prop):Prop :=
 match x with
 | .agg cs=>match P.underlying S with
  | some (.struct fields)=>match fields[f]? with
   | some fd=>Px P fd.type cs fd.offset K
   | none=>False
  | _=>False
 | _=>False
theorem Qqm {P:Program}{S:TypeId}{x:Value}{f:Nat}{K:Value->Prop} (h:Be P S x f K):∃ v,K v/\∀ w,(Instr.field S x f).run P w=.ok v w:=by
 unfold Be at h;split at h
 ·
  split at h
  ·
   rename_i hu;split at h
   ·
    rename_i fd hf;obtain ⟨v,hv,hr⟩:=Qjw h;exact ⟨v,hv,fun w=>by simp [Instr.field,run_underlying hu,hf,asAgg,hr]⟩
   exact h.elim
  exact h.elim
 exact h.elim
def Cu (P:Program) (T:TypeId) (x i:Value) (K:Value->Prop):Prop :=
 match i with
 | .int _ n=>match P.underlying T,x with
  | some (.slice E),.slice (some a) len _=>match P.szo E with
   | some sz=>(0<=n/\n < len)/\K (.pointer (some (a.add (n.toNat * sz))))
   | none=>False
  | some (.array len E),.pointer (some a)=>match P.szo E with
   | some sz=>(0<=n/\n < len)/\K (.pointer (some (a.add (n.toNat * sz))))
   | none=>False
  | _,_=>False
 | _=>False
theorem Qga {P:Program}{T:TypeId}{x i:Value}{K:Value->Prop} (h:Cu P T x i K):∃ v,K v/\∀ w,(Instr.indexAt T x i).run P w=.ok v w:=by
 unfold Cu at h;split at h
 ·
  split at h
  ·
   rename_i hu;split at h
   ·
    rename_i sz hsz;exact ⟨_,h.2,fun w=>by simp [Instr.indexAt,asIntOf,run_underlying hu,h.1,I7 hsz]⟩
   exact h.elim
  ·
   rename_i hu;split at h
   ·
    rename_i sz hsz;exact ⟨_,h.2,fun w=>by simp [Instr.indexAt,asIntOf,Instr.sureAddr,run_underlying hu,h.1,I7 hsz]⟩
   exact h.elim
  exact h.elim
 exact h.elim
def Sp (x:Value) (i:Nat) (K:Value->Prop):Prop :=
 match x with
 | .tuple vs=>match vs[i]? with
  | some v=>K v
  | none=>False
 | _=>False
def Md (op:UnOp) (x:Value) (K:Value->Prop):Prop :=
 match op,x with
 | .not,.bool b=>K (.bool (! b))
 | .neg,.int k n=>C9 k (-n) K
 | .xor,.int .u32 n=>(0<=n/\n<=4294967295)/\K (.int .u32 (4294967295 - n))
 | .xor,.int .u64 n=>(0<=n/\n<=18446744073709551615)/\K (.int .u64 (18446744073709551615 - n))
 | .xor,.int .u8 n=>(0<=n/\n<=255)/\K (.int .u8 (255 - n))
 | .xor,.int .i64 n=>(-9223372036854775808<=n/\n<=9223372036854775807)/\K (.int .i64 (-n - 1))
 | _,_=>False
theorem Qib (n:Nat) (x:Int) (h0:0<=x) (h1:x.toNat < 2 ^ n):((BitVec.ofInt n ((2 ^ n:Nat) - 1:Int)) ^^^ BitVec.ofInt n x).toNat=2 ^ n - 1 - x.toNat:=by
 have e:BitVec.ofInt n ((2 ^ n:Nat) - 1:Int)=BitVec.allOnes n:=by
  apply BitVec.eq_of_toNat_eq;have hp:0 < 2 ^ n:=Nat.two_pow_pos n;simp only [BitVec.toNat_ofInt,BitVec.toNat_allOnes];have:(((2 ^ n:Nat):Int) - 1) % ((2 ^ n:Nat):Int)=((2 ^ n:Nat):Int) - 1:=Xm (by omega) (by omega);rw [this];omega
 rw [e,BitVec.allOnes_xor,BitVec.toNat_not,toNat_ofInt h0 h1]
theorem QBc (n:Int) (h0:-9223372036854775808<=n) (h1:n<=9223372036854775807):IntKind.i64.wrap ((BitVec.ofInt 64 (-1) ^^^ BitVec.ofInt 64 n).toNat:Int)=-n - 1:=by
 have e:BitVec.ofInt 64 (-1)=BitVec.allOnes 64:=by decide
 rw [e,BitVec.allOnes_xor,BitVec.toNat_not,BitVec.toNat_ofInt]
 have hm:((n % ((2 ^ 64:Nat):Int)).toNat:Int)=n % 18446744073709551616:=by
  rw [Int.toNat_of_nonneg (Int.emod_nonneg _ (by decide))];rfl
 generalize (n % ((2 ^ 64:Nat):Int)).toNat=q at *
 have hw:∀ v:Int,IntKind.i64.wrap v=if 9223372036854775808<=v % 18446744073709551616 then v % 18446744073709551616 - 18446744073709551616 else v % 18446744073709551616:=by
  intro v;simp [Y3,Yu,Yi]
 rw [hw];have p1:(2:Nat) ^ 64=18446744073709551616:=rfl;rw [p1];split <;> omega
theorem QBd {P:Program}{op:UnOp}{x:Value}{K:Value->Prop} (h:Md op x K):∃ v,K v/\∀ w,(Op.unary op x).run P w=.ok v w:=by
 unfold Md at h;split at h
 ·
  exact ⟨_,h,fun w=>by simp [Op.unary]⟩
 ·
  refine ⟨_,Qq h,fun w=>by simp [Op.unary,Op.intArith]⟩
 ·
  rename_i n;refine ⟨_,h.2,fun w=>?_⟩;have hx:=Qib 32 n h.1.1 (by have:=h.1;omega);have e:IntKind.u32.max=((2 ^ 32:Nat) - 1:Int):=by decide
  simp only [Op.unary,Yi,Op.intBits,Yb,Yo,if_false,e];have hx':(BitVec.ofInt IntKind.u32.bits ((2 ^ 32:Nat) - 1:Int) ^^^ BitVec.ofInt IntKind.u32.bits n).toNat=2 ^ 32 - 1 - n.toNat:=hx;rw [hx',Qo7]
  congr 2
  have:=h.1;omega
 ·
  rename_i n;refine ⟨_,h.2,fun w=>?_⟩;have hx:=Qib 64 n h.1.1 (by have:=h.1;omega);have e:IntKind.u64.max=((2 ^ 64:Nat) - 1:Int):=by decide
  simp only [Op.unary,Yi,Op.intBits,Yb,Yo,if_false,e];have hx':(BitVec.ofInt IntKind.u64.bits ((2 ^ 64:Nat) - 1:Int) ^^^ BitVec.ofInt IntKind.u64.bits n).toNat=2 ^ 64 - 1 - n.toNat:=hx;rw [hx',Qo8]
  congr 2
  have:=h.1;omega
 ·
  rename_i n;refine ⟨_,h.2,fun w=>?_⟩;have hx:=Qib 8 n h.1.1 (by have:=h.1;omega);have e:IntKind.u8.max=((2 ^ 8:Nat) - 1:Int):=by decide
  simp only [Op.unary,Yi,Op.intBits,Yb,Yo,if_false,e];have hx':(BitVec.ofInt IntKind.u8.bits ((2 ^ 8:Nat) - 1:Int) ^^^ BitVec.ofInt IntKind.u8.bits n).toNat=2 ^ 8 - 1 - n.toNat:=hx;rw [hx',Qtl]
  congr 2
  have:=h.1;omega
 ·
  rename_i n;refine ⟨_,h.2,fun w=>?_⟩;have hx:=QBc n h.1.1 h.1.2;simp only [Op.unary,Yi,Op.intBits,Yb,if_true];exact congrArg (fun z=>Result.ok (Yw .i64 z) w) hx
 exact h.elim
def EqR (P:Program) (op:BinOp) (T:TypeId) (xo yo:Operand) (x y:Value) (w:World) (K:Value->Prop):Prop :=
 ∃ b:Bool,(∀ w',Ext w w'->(do eqGuard op T xo yo x y;binOp op T x y:Sem Value).run P w'=.ok (.bool b) w')/\K (.bool b)
def N4:Operand->Bool
 | .const (.int .i64 b)=>decide (b=200)
 | _=>false
def A3 (P:Program) (op:BinOp) (T:TypeId) (xo yo:Operand) (x y:Value) (w:World) (K:Value->Prop):Prop :=
 match x,y with
 | .int k a,.int k' b=>if N4 yo=true/\op=.rem then k=k'/\0 < b/\K (.int k (a.tmod b)) else C6 P op T (.int k a) (.int k' b) w K
 | .string s,.string t=>C6 P op T (.string s) (.string t) w K
 | .bool a,.bool b=>C6 P op T (.bool a) (.bool b) w K
 | x,y=>EqR P op T xo yo x y w K
theorem Quv {P:Program}{op:BinOp}{T:TypeId}{xo yo:Operand}{x y:Value}{w:World}{K:Value->Prop} (h:A3 P op T xo yo x y w K) :
  ∃ v,K v/\∀ w',Ext w w'->(do eqGuard op T xo yo x y;binOp op T x y:Sem Value).run P w'=.ok v w':=by
 unfold A3 at h;split at h
 ·
  split at h
  ·
   rename_i hc;obtain ⟨rfl,h1,h2⟩:=h;refine ⟨_,h2,fun w' hw=>?_⟩;simp only [Yc];rw [Tx ⟨by simp,by simp⟩,hc.2];simp [binOp,Op.intDiv];intro h3;omega
  obtain ⟨v,hv,hr⟩:=Qia h;exact ⟨v,hv,fun w' hw=>by simp only [Yc];rw [Tx ⟨by simp,by simp⟩];simp only [Ya];exact hr w' hw⟩
 ·
  obtain ⟨v,hv,hr⟩:=Qia h;exact ⟨v,hv,fun w' hw=>by simp only [Yc];rw [Tx ⟨by simp,by simp⟩];simp only [Ya];exact hr w' hw⟩
 ·
  obtain ⟨v,hv,hr⟩:=Qia h;exact ⟨v,hv,fun w' hw=>by simp only [Yc];rw [Tx ⟨by simp,by simp⟩];simp only [Ya];exact hr w' hw⟩
 obtain ⟨b,hr,hb⟩:=h;exact ⟨_,hb,hr⟩
def Dj (P:Program) (s d:TypeId):Bool :=
 match P.underlying s,P.underlying d with
 | some .string,some (.slice _)=>false
 | _,_=>true
def Iw (P:Program):Op->Bool
 | .convert s d _=>Dj P s d
 | .move _ | .assign _ | .pick .. | .binOp .. | .unOp .. | .slice _ _ _ _ none | .fieldAddr .. | .field .. | .indexAddr .. | .index .. | .extract ..
 | .makeInterface .. | .makeFunc .. | .build .. | .load .. | .nilCheck .. => true
 | .call { callee:=.builtin .len,.. } | .call { callee:=.builtin .min,.. } | .call { callee:=.builtin .max,.. }=>true
 | _=>false
def Kr (e:Env) (x:Option Operand) (K:Option Value->Prop):Prop :=
 match x with
 | none=>K none
 | some x=>Am e x fun v=>K (some v)
theorem Qgu {N:Nat}{e:Env}{a:Act}{x:Option Operand}{K:Option Value->Prop} (ha:Fits N e a) (h:Kr e x K):K (x.map a.eval):=by
 cases x with
 | none=>exact h
 | some x=>exact Cp (K:=fun v=>K (some v)) ha h
def M5 (c:Value) (A B:Prop):Prop :=
 match c with
 | .bool true=>A
 | .bool false=>B
 | _=>False
def Zg (P:Program) (T:TypeId) (x:Value) (K:Value->Prop):Prop :=
 match P.underlying T with
 | some (.interface _)=>False
 | some _=>K (.iface T x)
 | none=>False
def Ca (P:Program) (T:TypeId) (parts:List (Nat×Value)) (K:Value->Prop):Prop :=
 match P.built T parts with
 | some cells=>K (.agg cells)
 | none=>False
def Le (e:Env):List (Nat×Operand)->(List (Nat×Value)->Prop)->Prop
 | [],K=>K []
 | p::ps,K=>Am e p.2 fun v=>Le e ps fun vs=>K ((p.1,v)::vs)
theorem Qk9 {N:Nat}{e:Env}{a:Act} (ha:Fits N e a) {ps:List (Nat×Operand)}:∀ {K:List (Nat×Value)->Prop},Le e ps K->K (ps.map fun p=>(p.1,a.eval p.2)):=by
 induction ps with
 | nil=>intro K h;exact h
 | cons p ps ih=>intro K h;exact ih (Cp (K:=fun v=>Le e ps fun vs=>K ((p.1,v)::vs)) ha h)
def Wp (P:Program) (op:Op) (e:Env) (w:World) (K:Value->Prop):Prop :=
 match op with
 | .move x=>Am e x K
 | .assign x=>Am e x K
 | .pick c a b=>Am e c fun vc=>M5 vc (Am e a K) (Am e b K)
 | .binOp op T x y _=>Am e x fun a=>Am e y fun b=>A3 P op T x y a b w K
 | .unOp op _ x=>Am e x fun a=>Md op a K
 | .convert s d x=>Am e x fun a=>D9 P s d a w K
 | .slice T x lo hi none=>Am e x fun a=>Kr e lo fun l=>Kr e hi fun h=>Cg P T a l h K
 | .fieldAddr S x f=>Am e x fun a=>Ba P S a f K
 | .field S x f=>Am e x fun a=>Be P S a f K
 | .indexAddr T x i=>Am e x fun a=>Am e i fun n=>Cu P T a n K
 | .index T x i=>Am e x fun a=>Am e i fun n=>E7 P T a n K
 | .extract t i=>Am e t fun a=>Sp a i K
 | .makeInterface T x=>Am e x fun a=>Zg P T a K
 | .makeFunc fn first captured=>Cz e first.toList fun fs=>Cz e captured.toList fun cs=>K (.func fn fs.toArray cs.toArray)
 | .build T parts=>Le e parts.toList fun ps=>Ca P T ps K
 | .load T x=>Am e x fun a=>Bf P T a w K
 | .nilCheck x=>Am e x fun a=>Mq a K
 | .call { callee:=.builtin .len,args:=az,argTypes:=ts }=>Cz e az.toList fun vs=>match vs,ts[0]? with
  | [v],some T=>Ec P T v K
  | _,_=>False
 | .call { callee:=.builtin .min,args:=az,.. }=>Cz e az.toList fun vs=>Rr vs K
 | .call { callee:=.builtin .max,args:=az,.. }=>Cz e az.toList fun vs=>Rs vs K
 | _=>False
theorem Nl (xs:Array Operand) (a:Act):xs.map a.eval=(xs.toList.map a.eval).toArray:=by
 apply Array.ext';simp
theorem Nh {P:Program}{N:Nat}{o:Oper}{e:Env}{a:Act}{w:World}{K:Value->Prop} (ha:Fits N e a) (h:Wp P o.op e w K) :
  ∃ v,K v/\∀ w',Ext w w'->(execOp a.eval o).run P w'=.ok (.value v) w':=by
 unfold Wp at h;split at h
 case h_1 x ho=>exact ⟨_,Cp ha h,fun w' _=>by simp [execOp,ho]⟩
 case h_2 x ho=>exact ⟨_,Cp ha h,fun w' _=>by simp [execOp,ho]⟩
 case h_3 c x y ho =>
  have h1:=Cp (K:=fun vc=>M5 vc (Am e x K) (Am e y K)) ha h;unfold M5 at h1;split at h1
  ·
   rename_i hc;exact ⟨_,Cp ha h1,fun w' _=>by simp [execOp,ho,hc,asBool]⟩
  ·
   rename_i hc;exact ⟨_,Cp ha h1,fun w' _=>by simp [execOp,ho,hc,asBool]⟩
  exact h1.elim
 case h_4 op T x y T' ho =>
  have h1:=Cp (K:=fun b=>A3 P op T x y (a.eval x) b w K) ha (Cp (K:=fun b=>Am e y fun c=>A3 P op T x y b c w K) ha h);obtain ⟨v,hv,hr⟩:=Quv h1;refine ⟨v,hv,fun w' hw=>?_⟩;simp only [execOp,ho];have:=hr w' hw;simp only [Yc] at this ⊢;simp only [this,Ya,Yb]
 case h_5 op T x ho =>
  obtain ⟨v,hv,hr⟩:=QBd (P:=P) (Cp (K:=fun b=>Md op b K) ha h);exact ⟨v,hv,fun w' _=>by simp [execOp,ho,hr]⟩
 case h_6 s d x ho =>
  obtain ⟨v,hv,hr⟩:=Qut (Cp (K:=fun b=>D9 P s d b w K) ha h);exact ⟨v,hv,fun w' hw=>by simp [execOp,ho,hr w' hw]⟩
 case h_7 T x lo hi ho =>
  have h1:=Qgu (K:=fun h=>Cg P T (a.eval x) (lo.map a.eval) h K) ha (Qgu (K:=fun l=>Kr e hi fun h=>Cg P T (a.eval x) l h K) ha (Cp (K:=fun b=>Kr e lo fun l=>Kr e hi fun h=>Cg P T b l h K) ha h));obtain ⟨v,hv,hr⟩:=Qqk h1;exact ⟨v,hv,fun w' _=>by simp only [execOp,ho,Yc,Option.map_none,hr,Ya,Yb]⟩
 case h_8 S x f ho =>
  obtain ⟨v,hv,hr⟩:=Qf9 (Cp (K:=fun b=>Ba P S b f K) ha h);exact ⟨v,hv,fun w' _=>by simp [execOp,ho,hr]⟩
 case h_9 S x f ho =>
  obtain ⟨v,hv,hr⟩:=Qqm (Cp (K:=fun b=>Be P S b f K) ha h);exact ⟨v,hv,fun w' _=>by simp [execOp,ho,hr]⟩
 case h_10 T x i ho =>
  have h1:=Cp (K:=fun n=>Cu P T (a.eval x) n K) ha (Cp (K:=fun b=>Am e i fun n=>Cu P T b n K) ha h);obtain ⟨v,hv,hr⟩:=Qga h1;exact ⟨v,hv,fun w' _=>by simp [execOp,ho,hr]⟩
 case h_11 T x i ho =>
  have h1:=Cp (K:=fun n=>E7 P T (a.eval x) n K) ha (Cp (K:=fun b=>Am e i fun n=>E7 P T b n K) ha h);obtain ⟨v,hv,hr⟩:=Qqj h1;exact ⟨v,hv,fun w' _=>by simp [execOp,ho,hr]⟩
 case h_12 t i ho =>
  have h1:=Cp (K:=fun b=>Sp b i K) ha h;unfold Sp at h1;split at h1
  ·
   rename_i vs hx;split at h1
   ·
    rename_i v hv;exact ⟨v,h1,fun w' _=>by simp [execOp,ho,hx,Instr.extract,hv]⟩
   exact h1.elim
  exact h1.elim
 case h_13 T x ho =>
  have h1:=Cp (K:=fun b=>Zg P T b K) ha h;unfold Zg at h1;split at h1
  ·
   exact h1.elim
  ·
   rename_i d hd hu;exact ⟨_,h1,fun w' _=>by cases d <;> simp_all [execOp,Instr.makeInterface,run_underlying hu]⟩
  exact h1.elim
 case h_14 fn first captured ho =>
  have h1:=Lt (K:=fun fs=>Cz e captured.toList fun cs=>K (.func fn fs.toArray cs.toArray)) ha h;have h2:=Lt (K:=fun cs=>K (.func fn (first.toList.map a.eval).toArray cs.toArray)) ha h1;exact ⟨_,h2,fun w' _=>by simp [execOp,ho,Instr.makeFunc,Nl]⟩
 case h_15 T parts ho =>
  have h1:=Qk9 (K:=fun ps=>Ca P T ps K) ha h;unfold Ca at h1;split at h1
  ·
   rename_i cells hb;refine ⟨_,h1,fun w' _=>?_⟩;have:=run_build (P:=P) w' T (parts.map fun (i,x)=>(i,a.eval x)) cells (by simpa using hb);simp [execOp,ho,this]
  exact h1.elim
 case h_16 T x ho =>
  obtain ⟨v,hv,hr⟩:=Quu (Cp (K:=fun b=>Bf P T b w K) ha h);exact ⟨v,hv,fun w' hw=>by simp [execOp,ho,hr w' hw]⟩
 case h_17 x ho =>
  have h1:=Cp (K:=fun b=>Mq b K) ha h;unfold Mq at h1;split at h1
  ·
   rename_i ad hx;exact ⟨_,h1,fun w' _=>by simp [execOp,ho,hx]⟩
  ·
   rename_i f p c hx;exact ⟨_,h1,fun w' _=>by simp [execOp,ho,hx]⟩
  ·
   rename_i t v hx;exact ⟨_,h1,fun w' _=>by simp [execOp,ho,hx]⟩
  exact h1.elim
 case h_18 az ts ho =>
  have h1:=Lt (K:=fun vs=>match vs,ts[0]? with | [v],some T=>Ec P T v K | _,_=>False) ha h;split at h1
  ·
   rename_i v T hv hT;obtain ⟨u,hu,hr⟩:=Qxw h1 hT (ty:=o.type);refine ⟨u,hu,fun w' _=>?_⟩;have hm:az.map a.eval=#[v]:=by rw [Nl,hv]
   simp [execOp,ho,resolve,invoke,builtin,hm,hr]
  exact h1.elim
 case h_19 az ts ho =>
  obtain ⟨u,hu,hr⟩:=Qxx (P:=P) (Lt (K:=fun vs=>Rr vs K) ha h) (ts:=ts) (ty:=o.type);refine ⟨u,hu,fun w' _=>?_⟩;simp only [execOp,ho,resolve,invoke,builtin,Nl,Yc,Yb,Ya,hr]
 case h_20 az ts ho =>
  obtain ⟨u,hu,hr⟩:=Qxy (P:=P) (Lt (K:=fun vs=>Rs vs K) ha h) (ts:=ts) (ty:=o.type);refine ⟨u,hu,fun w' _=>?_⟩;simp only [execOp,ho,resolve,invoke,builtin,Nl,Yc,Yb,Ya,hr]
 case h_21=>exact h.elim
def Mem (P:Program) (N:Nat) (o:Oper) (e:Env) (w:World) (K:Value->World->Prop):Prop :=
 ∀ (a:Act) (n:Nat) (next:Act->World->Prop) (Q:Exit->Act->World->Prop),Fits N e a->(∀ v w' m,K v w'->next (a.put o.dst v) (w'.drewN m))->o.wp P a (w.drewN n) next Q
def B9 (P:Program) (N:Nat) (o:Oper) (e:Env) (w:World) (rest:Env->World->(Env->World->Prop)->Prop) (K:Env->World->Prop):Prop :=
 Mem P N o e w fun v w'=>rest (e.put o.dst v) w' K
def Ns (P:Program) (N:Nat) (o:Oper) (e:Env) (w:World) (rest:Env->World->(Env->Prop)->Prop) (K:Env->Prop):Prop :=
 ∃ v,(∀ a n,Fits N e a->o.quietAt P a (fun w'=>∃ n,w'=w.drewN n) (w.drewN n) v)/\rest (e.put o.dst v) w K
def Sx (ops:List Oper) (j:Nat):Option Tmp:=(ops[j]?).bind (·.dst)
def gB (b want:Bool) (A B:Prop):Prop:=(b=want->A)/\(b=(! want)->B)
def Pm (t:Tmp) (want:Bool) (v:Value) (e:Env) (A B:Env->Prop):Prop :=
 match v with
 | .bool b=>gB b want (A ((t,.bool want)::e)) (B ((t,.bool ! want)::e))
 | .tuple _=>B e
 | _=>False
def M1 (ops:List Oper) (g:Option (Nat×Bool)) (e:Env) (A B:Env->Prop):Prop :=
 match g with
 | none=>A e
 | some p=>match Sx ops p.1 with
  | none=>B e
  | some t=>Eu e t fun v=>Pm t p.2 v e A B
def Ct (N:Nat) (o:Oper):Bool :=
 match o.dst with
 | none=>true
 | some t=>decide (t < N)
def V9 (P:Program) (N:Nat) (p:Bool) (o:Oper) (e:Env) (w:World) (R:Env->World->(Env->World->Prop)->Prop) (K:Env->World->Prop):Prop :=
 match p with
 | true=>Wp P o.op e w fun v=>R (e.put o.dst v) w K
 | false=>B9 P N o e w R K
def Qf3 (P:Program) (N:Nat) (p:Bool) (o:Oper) (e:Env) (w:World) (R:Env->World->(Env->Prop)->Prop) (K:Env->Prop):Prop :=
 match p with
 | true=>Wp P o.op e w fun v=>R (e.put o.dst v) w K
 | false=>Ns P N o e w R K
def At (P:Program) (N:Nat) (ops:List Oper):List Oper->Env->World->(Env->World->Prop)->Prop
 | [],e,w,K=>K e w
 | o::rest,e,w,K=>M1 ops o.guard e
   (fun e=>V9 P N (Iw P o.op) o e w (At P N ops rest) K)
   (fun e=>At P N ops rest (e.put o.dst undef) w K)
def A5 (P:Program) (N:Nat) (ops:List Oper):List Oper->Env->World->(Env->Prop)->Prop
 | [],e,_,K=>K e
 | o::rest,e,w,K=>M1 ops o.guard e
   (fun e=>Qf3 P N (Iw P o.op) o e w (A5 P N ops rest) K)
   (fun e=>A5 P N ops rest (e.put o.dst undef) w K)
theorem Fits.put' {N:Nat}{e:Env}{a:Act} (h:Fits N e a) {o:Oper} (ho:Ct N o=true) (v:Value):Fits N (e.put o.dst v) (a.put o.dst v) :=
 h.put o.dst v fun t ht=>by simpa [Ct,ht] using ho
theorem Fits.cons {N:Nat}{e:Env}{a:Act} (h:Fits N e a) {t:Tmp}{v:Value} (ht:a.tmps.getD t undef=v):Fits N ((t,v)::e) a :=
 ⟨h.size,h.defers,fun s u hs=>by
  simp only [Env.find?_cons] at hs;split at hs
  ·
   rename_i hst;subst hst;simp at hs;rw [<- hs];exact ht
  exact h.at_ s u hs⟩
theorem Pf {N:Nat}{ops:List Oper}{o:Oper}{e:Env}{a:Act}{A B:Env->Prop} (ha:Fits N e a) (h:M1 ops o.guard e A B) :
  (∃ e',Fits N e' a/\A e'/\Region.wanted o (yielded ops.toArray a.tmps)=true)∨(∃ e',Fits N e' a/\B e'/\Region.wanted o (yielded ops.toArray a.tmps)=false):=by
 unfold M1 at h;split at h
 ·
  rename_i hg;exact .inl ⟨e,ha,h,by simp [Region.wanted,hg]⟩
 rename_i p hg;obtain ⟨j,want⟩:=p;simp only at h;split at h
 ·
  rename_i hn;refine .inr ⟨e,ha,h,?_⟩
  have:yielded ops.toArray a.tmps j=none:=by
   unfold yielded;have:((ops.toArray[j]?).bind (·.dst))=none:=by simpa [Sx] using hn
   rw [this];rfl
  simp [Region.wanted,hg,this]
 rename_i t ht;obtain ⟨v,hv,h⟩:=Qjv h;have hget:=ha.at_ t v hv;have hd:((ops.toArray[j]?).bind (·.dst))=some t:=by simpa [Sx] using ht
 unfold Pm at h;split at h
 ·
  rename_i b
  have hy:yielded ops.toArray a.tmps j=some b:=by
   unfold yielded;rw [hd]
   have:a.tmps[t]? = some (.bool b):=by
    rw [Array.getD_eq_getD_getElem?] at hget;cases hc:a.tmps[t]? with
    | none=>rw [hc] at hget;simp [undef] at hget
    | some x=>rw [hc] at hget;simpa using hget
   simp [this]
  by_cases hb:b=want
  ·
   refine .inl ⟨_,ha.cons (by rw [hget,hb]),h.1 hb,by simp [Region.wanted,hg,hy,hb]⟩
  have hb':b=! want:=by cases b <;> cases want <;> simp_all
  refine .inr ⟨_,ha.cons (by rw [hget,hb']),h.2 hb',by simp [Region.wanted,hg,hy,hb']⟩
 ·
  rename_i vs;refine .inr ⟨e,ha,h,?_⟩
  have hy:yielded ops.toArray a.tmps j=none:=by
   unfold yielded;rw [hd];rw [Array.getD_eq_getD_getElem?] at hget;cases hc:a.tmps[t]? with
   | none=>simp [hc]
   | some x=>rw [hc] at hget;simp at hget;subst hget;simp [hc]
  simp [Region.wanted,hg,hy]
 exact h.elim
theorem Tz {P:Program}{N:Nat}{ops:List Oper}{Q:Exit->Act->World->Prop}{K:Env->World->Prop}
  (hK:∀ e a w n,Fits N e a->K e w->Q .normal a (w.drewN n)) (l:List Oper):∀ (e:Env) (a:Act) (w:World) (n:Nat),l.all (Ct N)=true->Fits N e a ->
   At P N ops l e w K->wpList P ops.toArray Q l a (w.drewN n):=by
 induction l with
 | nil=>intro e a w n _ ha h;exact hK e a w n ha h
 | cons o rest ih =>
  intro e a w n hl ha h;simp only [X6,Yd] at hl;unfold wpList;rcases Pf ha h with ⟨e',ha',h',hw⟩ | ⟨e',ha',h',hw⟩
  ·
   rw [if_pos hw];refine .inl ?_;unfold V9 at h';split at h'
   ·
    obtain ⟨v,hv,hr⟩:=Nh ha' h';unfold Oper.wp;rw [hr (w.drewN n) (Ext.drewN w n)];exact ih _ _ w n hl.2 (ha'.put' hl.1 v) hv
   exact h' a n _ Q ha' fun v w' m hv=>ih _ _ w' m hl.2 (ha'.put' hl.1 v) hv
  rw [if_neg (by rw [hw];simp)];exact ih _ _ w n hl.2 (ha'.put' hl.1 undef) h'
theorem Quw {P:Program}{N:Nat}{ops:List Oper}{Q:Act->Prop}{K:Env->Prop}{w:World}
  (hK:∀ e a,Fits N e a->K e->Q a) (l:List Oper):∀ (e:Env) (a:Act),l.all (Ct N)=true->Fits N e a ->
   A5 P N ops l e w K->wpQuiet P ops.toArray (fun w'=>∃ n,w'=w.drewN n) Q l a:=by
 induction l with
 | nil=>intro e a _ ha h;exact hK e a ha h
 | cons o rest ih =>
  intro e a hl ha h;simp only [X6,Yd] at hl;unfold wpQuiet;rcases Pf ha h with ⟨e',ha',h',hw⟩ | ⟨e',ha',h',hw⟩
  ·
   rw [if_pos hw];unfold Qf3 at h';split at h'
   ·
    obtain ⟨v,hv,hr⟩:=Nh ha' h';refine ⟨v,?_,ih _ _ hl.2 (ha'.put' hl.1 v) hv⟩;rintro w' ⟨n,rfl⟩;unfold Oper.quietAt;rw [hr (w.drewN n) (Ext.drewN w n)];exact ⟨rfl,rfl⟩
   obtain ⟨v,hq,hv⟩:=h';refine ⟨v,?_,ih _ _ hl.2 (ha'.put' hl.1 v) hv⟩;rintro w' ⟨n,rfl⟩;exact hq a n ha'
  rw [if_neg (by rw [hw];simp)];exact ih _ _ hl.2 (ha'.put' hl.1 undef) h'
def Is {α:Sort _} (a b:α):Prop:=a=b
theorem Is.out {α:Sort _}{a b:α} (h:Is a b):a=b:=h
def K5:Env->Nat->(Value->Prop)->Prop->Prop
 | [],_,_,B=>B
 | p::e,n,A,B=>if n=p.1 then A p.2 else K5 e n A B
def Ep:LN->Env->(Env->Prop)->Prop
 | [],_,K=>K []
 | k::ks,e,K=>K5 e k (fun v=>Ep ks e fun e'=>K ((k,v)::e')) (Ep ks e K)
def Dh (ks:LN) (K:Env->World->Prop):Env->World->Prop:=fun e w=>Ep ks e fun e=>K e w
def QLi (ks:LN) (K:Env->Prop):Env->Prop:=fun e=>Ep ks e K
theorem Qux (e:Env) (n:Nat) (A:Value->Prop) (B:Prop):K5 e n A B ↔ match e.find? n with | some v=>A v | none=>B:=by
 induction e with
 | nil=>simp [K5,Env.find?]
 | cons p e ih =>
  simp only [K5,Env.find?_cons];by_cases h:n=p.1
  ·
   simp [h]
  simp only [h,if_false];exact ih
def Env.sel (ks:LN) (e:Env):Env:=ks.filterMap fun k=>(e.find? k).map fun v=>(k,v)
theorem Kj (ks:LN) (e:Env):∀ (K:Env->Prop),Ep ks e K ↔ K (e.sel ks):=by
 induction ks with
 | nil=>intro K;rfl
 | cons k ks ih =>
  intro K;simp only [Ep,Qux];cases h:e.find? k with
  | none=>simp only [ih];simp [Env.sel,h]
  | some v=>simp only [ih];simp [Env.sel,h]
theorem Env.find?_sel (ks:LN) (e:Env) (t:Nat) (v:Value) (h:(e.sel ks).find? t=some v):e.find? t=some v:=by
 induction ks with
 | nil=>simp [Env.sel,Env.find?] at h
 | cons k ks ih =>
  cases hk:e.find? k with
  | none=>exact ih (by simpa [Env.sel,hk] using h)
  | some u =>
   have h':Env.find? ((k,u)::e.sel ks) t=some v:=by simpa [Env.sel,hk] using h
   simp only [Env.find?_cons] at h';by_cases htk:t=k
   ·
    simp only [htk,if_true] at h';rw [htk,hk];exact h'
   simp only [htk,if_false] at h';exact ih h'
theorem Fits.sel {N:Nat}{e:Env}{a:Act} (h:Fits N e a) (ks:LN):Fits N (e.sel ks) a:=h.weaken fun t v ht=>Env.find?_sel ks e t v ht
section
variable {P:Program}{fn:Func}{F:Value->World->Prop}{N:Nat}{k:List It}{e:Env}{w:World}
theorem Qjx (ks:LN) {id:Nat}{ops:List Oper} (hN:ops.all (Ct N)=true)
  (h:∀ K:Env->World->Prop,(∀ e w,VC ⟨P,fn,F,N⟩ k e w->K e w)->At P N ops ops e w (Dh ks K)):VC ⟨P,fn,F,N⟩ (.code (.region id ops.toArray false)::k) e w:=by
 intro a n ha;refine wp_region_lit (Tz (K:=fun e w=>Ep ks e fun e=>VC ⟨P,fn,F,N⟩ k e w) (fun e a w n ha hv=>?_) ops e a w n hN ha (h _ fun _ _ hv=>hv));exact ((Kj ks e _).1 hv) a n (ha.sel ks)
theorem Qqn (ks:LN) {id:Nat}{ops:List Oper} (hm:P.follows .mixedOrders=true) (hB:Region.lexB .any ops.toArray=true) (hN:ops.all (Ct N)=true)
  (h:∀ K:Env->Prop,(∀ e,VC ⟨P,fn,F,N⟩ k e w->K e)->A5 P N ops ops e w (QLi ks K)):VC ⟨P,fn,F,N⟩ (.code (.region id ops.toArray true)::k) e w:=by
 intro a n ha;refine wp_region_quiet (C:=fun w'=>∃ n,w'=w.drewN n) hm hB ⟨n+1,rfl⟩ ?_;refine Quw (K:=fun e=>Ep ks e fun e=>VC ⟨P,fn,F,N⟩ k e w) (fun e a ha hv=>?_) ops e a hN ha (h _ fun _ hv=>hv);rintro w' ⟨m,rfl⟩;exact ((Kj ks e _).1 hv) a m (ha.sel ks)
theorem Ay (ks:LN) {body:Code} (I:Nat->Env->World->Prop) (n:Nat) (h0:Ep ks e fun e=>I n e w)
  (round:∀ n e w,I n e w->VC ⟨P,fn,F,N⟩ (.code body::.again (fun e' w'=>Ep ks e' fun e'=>∃ m,m < n/\I m e' w')::k) e w):VC ⟨P,fn,F,N⟩ (.code (.loop body)::k) e w:=by
 have h0':VC ⟨P,fn,F,N⟩ (.code (.loop body)::k) (e.sel ks) w:=by
  refine QBa I n ((Kj ks e _).1 h0) fun n e w hI=>?_;intro a d ha;have h1:=round n e w hI a d ha;simp only [Fg] at h1 ⊢;refine wp_mono h1 fun ex a w hq=>?_;cases ex with
  | normal=>obtain ⟨e',w0,d',hw,hf,hI'⟩:=hq;exact ⟨e'.sel ks,w0,d',hw,hf.sel ks,(Kj ks e' _).1 hI'⟩
  | _=>exact hq
 exact fun a d ha=>h0' a d (ha.sel ks)
theorem Do (ks:LN) {c:Code} (J:Env->World->Prop) (h:VC ⟨P,fn,F,N⟩ (.code c::.again (fun e w=>Ep ks e fun e=>J e w)::k) e w)
  (hJ:∀ e w,J e w->VC ⟨P,fn,F,N⟩ k e w):VC ⟨P,fn,F,N⟩ (.code c::k) e w:=by
 intro a d ha;have h1:=h a d ha;simp only [Fg] at h1 ⊢;refine wp_mono h1 fun ex a w hq=>?_;cases ex with
 | normal=>obtain ⟨e',w0,d',rfl,hf,hI'⟩:=hq;exact hJ _ _ ((Kj ks e' _).1 hI') a d' (hf.sel ks)
 | _=>exact hq
end
def K6:Code->List It->List It
 | .seq a b,k=>K6 a (.code b::k)
 | c,k=>.code c::k
theorem Q9 {C:Kv}{e:Env}{w:World}:∀ (c:Code) (k:List It),VC C (K6 c k) e w->VC C (.code c::k) e w:=by
 intro c
 induction c with
 | seq a b iha ihb=>intro k h;exact Aw (iha _ h)
 | _=>intro k h;exact h
theorem VR {P:Program}{fn:Func}{F:Value->World->Prop}{N:Nat}{k k':List It}{e:Env}{w:World} (ks:LN) {c:Code}{id:Nat}{ops:List Oper} (hp:K6 c k=.code (.region id ops.toArray false)::k') (hN:ops.all (Ct N)=true)
  (h:∀ K:Env->World->Prop,(∀ e w,VC ⟨P,fn,F,N⟩ k' e w->K e w)->At P N ops ops e w (Dh ks K)):VC ⟨P,fn,F,N⟩ (.code c::k) e w :=
 Q9 c k (hp ▸ Qjx ks hN h)
def B8:List Oper->Nat->Bool->Env->(Env->Prop)->(Env->Prop)->Prop
 | [],_,_,e,_,B=>B e
 | o::_,0,b,e,A,B=>match o.dst with
  | none=>B e
  | some t=>Eu e t fun v=>Pm t b v e A B
 | _::l,j+1,b,e,A,B=>B8 l j b e A B
theorem Cv (ops:List Oper):∀ (j:Nat) (b:Bool) (e:Env) (A B:Env->Prop),M1 ops (some (j,b)) e A B=B8 ops j b e A B:=by
 induction ops with
 | nil=>intro j b e A B;simp [M1,Sx,B8]
 | cons o l ih =>
  intro j b e A B;cases j with
  | zero=>cases h:o.dst <;> simp [M1,Sx,B8,h]
  | succ j=>rw [B8,<- ih];simp [M1,Sx]
def Py (P:Program) (T:Option TypeId) (vs:LV) (K:Value->Prop):Prop :=
 match vs,T with
 | [v],some T=>Ec P T v K
 | _,_=>False
section
variable {P:Program}{N:Nat}{ops rest:List Oper}{d:Option Tmp}{r t ty:Nat}{op:Op}{pos:String}{af:Array Edge}{e:Env}{w:World}{K:Env->World->Prop}{KQ:Env->Prop}{KV:Value->Prop}
theorem QGs (ks:LN):At P N ops [] e w (Dh ks K)=Ep ks e fun e=>K e w:=rfl
theorem QGt (ks:LN):A5 P N ops [] e w (QLi ks KQ)=Ep ks e KQ:=rfl
theorem QBe {d':Option (Nat×Bool)}{A B:Env->Prop} (b:Bool):B8 (⟨some t,op,ty,pos,af,d'⟩::ops) 0 b e A B=Eu e t fun v=>Pm t b v e A B:=rfl
theorem QBf {A B:Env->Prop} (o:Oper) (j:Nat) (b:Bool):B8 (o::ops) (j+1) b e A B=B8 ops j b e A B:=rfl
theorem QQr {A B:Env->Prop} (b:Bool):Pm t true (.bool b) e A B=gB b true (A ((t,.bool true)::e)) (B ((t,.bool false)::e)):=rfl
theorem QQs {A B:Env->Prop} (b:Bool):Pm t false (.bool b) e A B=gB b false (A ((t,.bool false)::e)) (B ((t,.bool true)::e)):=rfl
theorem QGu {KE:Env->Prop}:Ep [] e KE=KE []:=rfl
theorem QBg {KE:Env->Prop} (ks:LN):Ep (t::ks) e KE=K5 e t (fun v=>Ep ks e fun e'=>KE ((t,v)::e')) (Ep ks e KE):=rfl
theorem QGv {A:Value->Prop}{B:Prop}:K5 [] t A B=B:=rfl
theorem QGw {A:Value->Prop}{B:Prop} (v:Value):K5 ((t,v)::e) t A B=A v:=by simp [K5]
theorem QBh {A:Value->Prop}{B:Prop} (s:Nat) (v:Value):K5 ((s,v)::e) t A B=if t=s then A v else K5 e t A B:=rfl
theorem QGx {KV':Value->Prop} (u:Value) (n:Nat):Eu (Env.put e (some t) u) n KV'=Eu ((t,u)::e) n KV':=rfl
theorem QBi {KV':Value->Prop} (u:Value) (n:Nat):Eu (Env.put e none u) n KV'=Eu e n KV':=rfl
theorem QGy {KE:Env->Prop} (u:Value) (ks:LN):Ep ks (Env.put e (some t) u) KE=Ep ks ((t,u)::e) KE:=rfl
theorem QBj {KE:Env->Prop} (u:Value) (ks:LN):Ep ks (Env.put e none u) KE=Ep ks e KE:=rfl
theorem QGz {A:Value->Prop}{B:Prop} (u:Value) (n:Nat):K5 (Env.put e (some t) u) n A B=K5 ((t,u)::e) n A B:=rfl
theorem QBk {A:Value->Prop}{B:Prop} (u:Value) (n:Nat):K5 (Env.put e none u) n A B=K5 e n A B:=rfl
theorem Qxz {A B:Env->Prop} (want:Bool) (vs:Array Value):Pm t want (.tuple vs) e A B=B e:=rfl
theorem Quy {A B:Env->Prop} (want:Bool):Pm t want undef e A B=B e:=rfl
theorem QLs {A B:Prop}:gB true true A B=A:=by simp [gB]
theorem Quh {A B:Prop}:gB false false A B=A:=by simp [gB]
theorem Qui {A B:Prop}:gB true false A B=B:=by simp [gB]
theorem QLt {A B:Prop}:gB false true A B=B:=by simp [gB]
theorem QLu {p:Prop} [Decidable p] {A B:Prop}:gB (decide p) true A B=((p->A)/\(¬ p->B)):=by simp [gB]
theorem QLv {p:Prop} [Decidable p] {A B:Prop}:gB (decide p) false A B=((¬ p->A)/\(p->B)):=by simp [gB]
theorem QG0 (x:Operand):At P N ops (⟨some r,.move x,ty,pos,af,none⟩::rest) e w K=Am e x (fun v=>At P N ops rest ((r,v)::e) w K):=rfl
theorem QBl (x:Operand) (jj:Nat) (bb:Bool):At P N ops (⟨some r,.move x,ty,pos,af,some (jj,bb)⟩::rest) e w K=B8 ops jj bb e (fun e=>Am e x (fun v=>At P N ops rest ((r,v)::e) w K)) (fun e=>At P N ops rest ((r,undef)::e) w K):=by rw [<- Cv];rfl
theorem QG1 (x:Operand):A5 P N ops (⟨some r,.move x,ty,pos,af,none⟩::rest) e w KQ=Am e x (fun v=>A5 P N ops rest ((r,v)::e) w KQ):=rfl
theorem QBm (x:Operand) (jj:Nat) (bb:Bool):A5 P N ops (⟨some r,.move x,ty,pos,af,some (jj,bb)⟩::rest) e w KQ=B8 ops jj bb e (fun e=>Am e x (fun v=>A5 P N ops rest ((r,v)::e) w KQ)) (fun e=>A5 P N ops rest ((r,undef)::e) w KQ):=by rw [<- Cv];rfl
theorem Qx0 (x:Operand):At P N ops (⟨some r,.assign x,ty,pos,af,none⟩::rest) e w K=Am e x (fun v=>At P N ops rest ((r,v)::e) w K):=rfl
theorem Qx1 (x:Operand):A5 P N ops (⟨some r,.assign x,ty,pos,af,none⟩::rest) e w KQ=Am e x (fun v=>A5 P N ops rest ((r,v)::e) w KQ):=rfl
theorem QG2 (c x y:Operand):At P N ops (⟨some r,.pick c x y,ty,pos,af,none⟩::rest) e w K=Am e c fun vc=>M5 vc (Am e x (fun v=>At P N ops rest ((r,v)::e) w K)) (Am e y (fun v=>At P N ops rest ((r,v)::e) w K)):=rfl
theorem QBn (c x y:Operand) (jj:Nat) (bb:Bool):At P N ops (⟨some r,.pick c x y,ty,pos,af,some (jj,bb)⟩::rest) e w K=B8 ops jj bb e (fun e=>Am e c fun vc=>M5 vc (Am e x (fun v=>At P N ops rest ((r,v)::e) w K)) (Am e y (fun v=>At P N ops rest ((r,v)::e) w K))) (fun e=>At P N ops rest ((r,undef)::e) w K):=by rw [<- Cv];rfl
theorem QG3 (c x y:Operand):A5 P N ops (⟨some r,.pick c x y,ty,pos,af,none⟩::rest) e w KQ=Am e c fun vc=>M5 vc (Am e x (fun v=>A5 P N ops rest ((r,v)::e) w KQ)) (Am e y (fun v=>A5 P N ops rest ((r,v)::e) w KQ)):=rfl
theorem QBo (c x y:Operand) (jj:Nat) (bb:Bool):A5 P N ops (⟨some r,.pick c x y,ty,pos,af,some (jj,bb)⟩::rest) e w KQ=B8 ops jj bb e (fun e=>Am e c fun vc=>M5 vc (Am e x (fun v=>A5 P N ops rest ((r,v)::e) w KQ)) (Am e y (fun v=>A5 P N ops rest ((r,v)::e) w KQ))) (fun e=>A5 P N ops rest ((r,undef)::e) w KQ):=by rw [<- Cv];rfl
theorem QBp (op:BinOp) (T T':TypeId) (x y:Operand):At P N ops (⟨some r,.binOp op T x y T',ty,pos,af,none⟩::rest) e w K=Am e x fun a=>Am e y fun b=>A3 P op T x y a b w (fun v=>At P N ops rest ((r,v)::e) w K):=rfl
theorem Qx2 (op:BinOp) (T T':TypeId) (x y:Operand) (jj:Nat) (bb:Bool):At P N ops (⟨some r,.binOp op T x y T',ty,pos,af,some (jj,bb)⟩::rest) e w K=B8 ops jj bb e (fun e=>Am e x fun a=>Am e y fun b=>A3 P op T x y a b w (fun v=>At P N ops rest ((r,v)::e) w K)) (fun e=>At P N ops rest ((r,undef)::e) w K):=by rw [<- Cv];rfl
theorem QBq (op:BinOp) (T T':TypeId) (x y:Operand):A5 P N ops (⟨some r,.binOp op T x y T',ty,pos,af,none⟩::rest) e w KQ=Am e x fun a=>Am e y fun b=>A3 P op T x y a b w (fun v=>A5 P N ops rest ((r,v)::e) w KQ):=rfl
theorem Qx3 (op:BinOp) (T T':TypeId) (x y:Operand) (jj:Nat) (bb:Bool):A5 P N ops (⟨some r,.binOp op T x y T',ty,pos,af,some (jj,bb)⟩::rest) e w KQ=B8 ops jj bb e (fun e=>Am e x fun a=>Am e y fun b=>A3 P op T x y a b w (fun v=>A5 P N ops rest ((r,v)::e) w KQ)) (fun e=>A5 P N ops rest ((r,undef)::e) w KQ):=by rw [<- Cv];rfl
theorem QG4 (op:UnOp) (T:TypeId) (x:Operand):At P N ops (⟨some r,.unOp op T x,ty,pos,af,none⟩::rest) e w K=Am e x fun a=>Md op a (fun v=>At P N ops rest ((r,v)::e) w K):=rfl
theorem QBr (op:UnOp) (T:TypeId) (x:Operand) (jj:Nat) (bb:Bool):At P N ops (⟨some r,.unOp op T x,ty,pos,af,some (jj,bb)⟩::rest) e w K=B8 ops jj bb e (fun e=>Am e x fun a=>Md op a (fun v=>At P N ops rest ((r,v)::e) w K)) (fun e=>At P N ops rest ((r,undef)::e) w K):=by rw [<- Cv];rfl
theorem QG5 (op:UnOp) (T:TypeId) (x:Operand):A5 P N ops (⟨some r,.unOp op T x,ty,pos,af,none⟩::rest) e w KQ=Am e x fun a=>Md op a (fun v=>A5 P N ops rest ((r,v)::e) w KQ):=rfl
theorem QBs (op:UnOp) (T:TypeId) (x:Operand) (jj:Nat) (bb:Bool):A5 P N ops (⟨some r,.unOp op T x,ty,pos,af,some (jj,bb)⟩::rest) e w KQ=B8 ops jj bb e (fun e=>Am e x fun a=>Md op a (fun v=>A5 P N ops rest ((r,v)::e) w KQ)) (fun e=>A5 P N ops rest ((r,undef)::e) w KQ):=by rw [<- Cv];rfl
theorem Qau (s d:TypeId) (x:Operand):At P N ops (⟨some r,.convert s d x,ty,pos,af,none⟩::rest) e w K=V9 P N (Dj P s d) ⟨some r,.convert s d x,ty,pos,af,none⟩ e w (At P N ops rest) K:=rfl
theorem Quz (s d:TypeId) (x:Operand) (hc:Dj P s d=true):At P N ops (⟨some r,.convert s d x,ty,pos,af,none⟩::rest) e w K=Am e x fun a=>D9 P s d a w (fun v=>At P N ops rest ((r,v)::e) w K):=by rw [Qau,hc];rfl
theorem Qqo (s d:TypeId) (x:Operand) (hc:Dj P s d=false):At P N ops (⟨some r,.convert s d x,ty,pos,af,none⟩::rest) e w K=B9 P N ⟨some r,.convert s d x,ty,pos,af,none⟩ e w (At P N ops rest) K:=by rw [Qau,hc];rfl
theorem Qfs (s d:TypeId) (x:Operand) (jj:Nat) (bb:Bool):At P N ops (⟨some r,.convert s d x,ty,pos,af,some (jj,bb)⟩::rest) e w K=B8 ops jj bb e (fun e=>V9 P N (Dj P s d) ⟨some r,.convert s d x,ty,pos,af,some (jj,bb)⟩ e w (At P N ops rest) K) (fun e=>At P N ops rest ((r,undef)::e) w K):=by rw [<- Cv];rfl
theorem Qqp (s d:TypeId) (x:Operand) (jj:Nat) (bb:Bool) (hc:Dj P s d=true):At P N ops (⟨some r,.convert s d x,ty,pos,af,some (jj,bb)⟩::rest) e w K=B8 ops jj bb e (fun e=>Am e x fun a=>D9 P s d a w (fun v=>At P N ops rest ((r,v)::e) w K)) (fun e=>At P N ops rest ((r,undef)::e) w K):=by rw [Qfs,hc];rfl
theorem Qav (s d:TypeId) (x:Operand):A5 P N ops (⟨some r,.convert s d x,ty,pos,af,none⟩::rest) e w KQ=Qf3 P N (Dj P s d) ⟨some r,.convert s d x,ty,pos,af,none⟩ e w (A5 P N ops rest) KQ:=rfl
theorem Qu0 (s d:TypeId) (x:Operand) (hc:Dj P s d=true):A5 P N ops (⟨some r,.convert s d x,ty,pos,af,none⟩::rest) e w KQ=Am e x fun a=>D9 P s d a w (fun v=>A5 P N ops rest ((r,v)::e) w KQ):=by rw [Qav,hc];rfl
theorem Qqq (s d:TypeId) (x:Operand) (hc:Dj P s d=false):A5 P N ops (⟨some r,.convert s d x,ty,pos,af,none⟩::rest) e w KQ=Ns P N ⟨some r,.convert s d x,ty,pos,af,none⟩ e w (A5 P N ops rest) KQ:=by rw [Qav,hc];rfl
theorem Qft (s d:TypeId) (x:Operand) (jj:Nat) (bb:Bool):A5 P N ops (⟨some r,.convert s d x,ty,pos,af,some (jj,bb)⟩::rest) e w KQ=B8 ops jj bb e (fun e=>Qf3 P N (Dj P s d) ⟨some r,.convert s d x,ty,pos,af,some (jj,bb)⟩ e w (A5 P N ops rest) KQ) (fun e=>A5 P N ops rest ((r,undef)::e) w KQ):=by rw [<- Cv];rfl
theorem Qqr (s d:TypeId) (x:Operand) (jj:Nat) (bb:Bool) (hc:Dj P s d=true):A5 P N ops (⟨some r,.convert s d x,ty,pos,af,some (jj,bb)⟩::rest) e w KQ=B8 ops jj bb e (fun e=>Am e x fun a=>D9 P s d a w (fun v=>A5 P N ops rest ((r,v)::e) w KQ)) (fun e=>A5 P N ops rest ((r,undef)::e) w KQ):=by rw [Qft,hc];rfl
theorem QBt (T:TypeId) (x:Operand) (lo hi:Option Operand):At P N ops (⟨some r,.slice T x lo hi none,ty,pos,af,none⟩::rest) e w K=Am e x fun a=>Kr e lo fun l=>Kr e hi fun h=>Cg P T a l h (fun v=>At P N ops rest ((r,v)::e) w K):=rfl
theorem Qx4 (T:TypeId) (x:Operand) (lo hi:Option Operand) (jj:Nat) (bb:Bool):At P N ops (⟨some r,.slice T x lo hi none,ty,pos,af,some (jj,bb)⟩::rest) e w K=B8 ops jj bb e (fun e=>Am e x fun a=>Kr e lo fun l=>Kr e hi fun h=>Cg P T a l h (fun v=>At P N ops rest ((r,v)::e) w K)) (fun e=>At P N ops rest ((r,undef)::e) w K):=by rw [<- Cv];rfl
theorem QBu (T:TypeId) (x:Operand) (lo hi:Option Operand):A5 P N ops (⟨some r,.slice T x lo hi none,ty,pos,af,none⟩::rest) e w KQ=Am e x fun a=>Kr e lo fun l=>Kr e hi fun h=>Cg P T a l h (fun v=>A5 P N ops rest ((r,v)::e) w KQ):=rfl
theorem Qnd (S:TypeId) (x:Operand) (f:Nat):At P N ops (⟨some r,.fieldAddr S x f,ty,pos,af,none⟩::rest) e w K=Am e x fun a=>Ba P S a f (fun v=>At P N ops rest ((r,v)::e) w K):=rfl
theorem Qla (S:TypeId) (x:Operand) (f:Nat) (jj:Nat) (bb:Bool):At P N ops (⟨some r,.fieldAddr S x f,ty,pos,af,some (jj,bb)⟩::rest) e w K=B8 ops jj bb e (fun e=>Am e x fun a=>Ba P S a f (fun v=>At P N ops rest ((r,v)::e) w K)) (fun e=>At P N ops rest ((r,undef)::e) w K):=by rw [<- Cv];rfl
theorem Qne (S:TypeId) (x:Operand) (f:Nat):A5 P N ops (⟨some r,.fieldAddr S x f,ty,pos,af,none⟩::rest) e w KQ=Am e x fun a=>Ba P S a f (fun v=>A5 P N ops rest ((r,v)::e) w KQ):=rfl
theorem Qlb (S:TypeId) (x:Operand) (f:Nat) (jj:Nat) (bb:Bool):A5 P N ops (⟨some r,.fieldAddr S x f,ty,pos,af,some (jj,bb)⟩::rest) e w KQ=B8 ops jj bb e (fun e=>Am e x fun a=>Ba P S a f (fun v=>A5 P N ops rest ((r,v)::e) w KQ)) (fun e=>A5 P N ops rest ((r,undef)::e) w KQ):=by rw [<- Cv];rfl
theorem Qnf (T:TypeId) (x i:Operand):At P N ops (⟨some r,.indexAddr T x i,ty,pos,af,none⟩::rest) e w K=Am e x fun a=>Am e i fun n=>Cu P T a n (fun v=>At P N ops rest ((r,v)::e) w K):=rfl
theorem Qlc (T:TypeId) (x i:Operand) (jj:Nat) (bb:Bool):At P N ops (⟨some r,.indexAddr T x i,ty,pos,af,some (jj,bb)⟩::rest) e w K=B8 ops jj bb e (fun e=>Am e x fun a=>Am e i fun n=>Cu P T a n (fun v=>At P N ops rest ((r,v)::e) w K)) (fun e=>At P N ops rest ((r,undef)::e) w K):=by rw [<- Cv];rfl
theorem Qng (T:TypeId) (x i:Operand):A5 P N ops (⟨some r,.indexAddr T x i,ty,pos,af,none⟩::rest) e w KQ=Am e x fun a=>Am e i fun n=>Cu P T a n (fun v=>A5 P N ops rest ((r,v)::e) w KQ):=rfl
theorem Qld (T:TypeId) (x i:Operand) (jj:Nat) (bb:Bool):A5 P N ops (⟨some r,.indexAddr T x i,ty,pos,af,some (jj,bb)⟩::rest) e w KQ=B8 ops jj bb e (fun e=>Am e x fun a=>Am e i fun n=>Cu P T a n (fun v=>A5 P N ops rest ((r,v)::e) w KQ)) (fun e=>A5 P N ops rest ((r,undef)::e) w KQ):=by rw [<- Cv];rfl
theorem QBv (T:TypeId) (x i:Operand):At P N ops (⟨some r,.index T x i,ty,pos,af,none⟩::rest) e w K=Am e x fun a=>Am e i fun n=>E7 P T a n (fun v=>At P N ops rest ((r,v)::e) w K):=rfl
theorem Qx5 (T:TypeId) (x i:Operand) (jj:Nat) (bb:Bool):At P N ops (⟨some r,.index T x i,ty,pos,af,some (jj,bb)⟩::rest) e w K=B8 ops jj bb e (fun e=>Am e x fun a=>Am e i fun n=>E7 P T a n (fun v=>At P N ops rest ((r,v)::e) w K)) (fun e=>At P N ops rest ((r,undef)::e) w K):=by rw [<- Cv];rfl
theorem QBw (T:TypeId) (x i:Operand):A5 P N ops (⟨some r,.index T x i,ty,pos,af,none⟩::rest) e w KQ=Am e x fun a=>Am e i fun n=>E7 P T a n (fun v=>A5 P N ops rest ((r,v)::e) w KQ):=rfl
theorem Qx6 (T:TypeId) (x i:Operand) (jj:Nat) (bb:Bool):A5 P N ops (⟨some r,.index T x i,ty,pos,af,some (jj,bb)⟩::rest) e w KQ=B8 ops jj bb e (fun e=>Am e x fun a=>Am e i fun n=>E7 P T a n (fun v=>A5 P N ops rest ((r,v)::e) w KQ)) (fun e=>A5 P N ops rest ((r,undef)::e) w KQ):=by rw [<- Cv];rfl
theorem Qu1 (x:Operand) (i:Nat):At P N ops (⟨some r,.extract x i,ty,pos,af,none⟩::rest) e w K=Am e x fun a=>Sp a i (fun v=>At P N ops rest ((r,v)::e) w K):=rfl
theorem Qu2 (x:Operand) (i:Nat):A5 P N ops (⟨some r,.extract x i,ty,pos,af,none⟩::rest) e w KQ=Am e x fun a=>Sp a i (fun v=>A5 P N ops rest ((r,v)::e) w KQ):=rfl
theorem Qfu (T:TypeId) (x:Operand):At P N ops (⟨some r,.makeInterface T x,ty,pos,af,none⟩::rest) e w K=Am e x fun a=>Zg P T a (fun v=>At P N ops rest ((r,v)::e) w K):=rfl
theorem Qqs (fn:Go.Fn) (a b:Array Operand):At P N ops (⟨some r,.makeFunc fn a b,ty,pos,af,none⟩::rest) e w K=Cz e a.toList fun fs=>Cz e b.toList fun cs=>((fun v=>At P N ops rest ((r,v)::e) w K)) (.func fn fs.toArray cs.toArray):=rfl
theorem QBx (T:TypeId) (ps:Array (Nat×Operand)):At P N ops (⟨some r,.build T ps,ty,pos,af,none⟩::rest) e w K=Le e ps.toList fun vs=>Ca P T vs (fun v=>At P N ops rest ((r,v)::e) w K):=rfl
theorem QBy (T:TypeId) (ps:Array (Nat×Operand)):A5 P N ops (⟨some r,.build T ps,ty,pos,af,none⟩::rest) e w KQ=Le e ps.toList fun vs=>Ca P T vs (fun v=>A5 P N ops rest ((r,v)::e) w KQ):=rfl
theorem Qx7 (T:TypeId) (ps:Array (Nat×Operand)) (jj:Nat) (bb:Bool):A5 P N ops (⟨some r,.build T ps,ty,pos,af,some (jj,bb)⟩::rest) e w KQ=B8 ops jj bb e (fun e=>Le e ps.toList fun vs=>Ca P T vs (fun v=>A5 P N ops rest ((r,v)::e) w KQ)) (fun e=>A5 P N ops rest ((r,undef)::e) w KQ):=by rw [<- Cv];rfl
theorem QG6 (T:TypeId) (x:Operand):At P N ops (⟨some r,.load T x,ty,pos,af,none⟩::rest) e w K=Am e x fun a=>Bf P T a w (fun v=>At P N ops rest ((r,v)::e) w K):=rfl
theorem QBz (T:TypeId) (x:Operand) (jj:Nat) (bb:Bool):At P N ops (⟨some r,.load T x,ty,pos,af,some (jj,bb)⟩::rest) e w K=B8 ops jj bb e (fun e=>Am e x fun a=>Bf P T a w (fun v=>At P N ops rest ((r,v)::e) w K)) (fun e=>At P N ops rest ((r,undef)::e) w K):=by rw [<- Cv];rfl
theorem QG7 (T:TypeId) (x:Operand):A5 P N ops (⟨some r,.load T x,ty,pos,af,none⟩::rest) e w KQ=Am e x fun a=>Bf P T a w (fun v=>A5 P N ops rest ((r,v)::e) w KQ):=rfl
theorem QB0 (T:TypeId) (x:Operand) (jj:Nat) (bb:Bool):A5 P N ops (⟨some r,.load T x,ty,pos,af,some (jj,bb)⟩::rest) e w KQ=B8 ops jj bb e (fun e=>Am e x fun a=>Bf P T a w (fun v=>A5 P N ops rest ((r,v)::e) w KQ)) (fun e=>A5 P N ops rest ((r,undef)::e) w KQ):=by rw [<- Cv];rfl
theorem Qqt (x:Operand):At P N ops (⟨some r,.nilCheck x,ty,pos,af,none⟩::rest) e w K=Am e x fun a=>Mq a (fun v=>At P N ops rest ((r,v)::e) w K):=rfl
theorem Qnh (x:Operand) (jj:Nat) (bb:Bool):At P N ops (⟨some r,.nilCheck x,ty,pos,af,some (jj,bb)⟩::rest) e w K=B8 ops jj bb e (fun e=>Am e x fun a=>Mq a (fun v=>At P N ops rest ((r,v)::e) w K)) (fun e=>At P N ops rest ((r,undef)::e) w K):=by rw [<- Cv];rfl
theorem Qqu (x:Operand):A5 P N ops (⟨some r,.nilCheck x,ty,pos,af,none⟩::rest) e w KQ=Am e x fun a=>Mq a (fun v=>A5 P N ops rest ((r,v)::e) w KQ):=rfl
theorem Qni (x:Operand) (jj:Nat) (bb:Bool):A5 P N ops (⟨some r,.nilCheck x,ty,pos,af,some (jj,bb)⟩::rest) e w KQ=B8 ops jj bb e (fun e=>Am e x fun a=>Mq a (fun v=>A5 P N ops rest ((r,v)::e) w KQ)) (fun e=>A5 P N ops rest ((r,undef)::e) w KQ):=by rw [<- Cv];rfl
theorem QLw (az:Array Operand) (ts:Array TypeId):At P N ops (⟨some r,.call { callee:=.builtin .len,args:=az,argTypes:=ts },ty,pos,af,none⟩::rest) e w K=Cz e az.toList fun vs=>Py P ts[0]? vs (fun v=>At P N ops rest ((r,v)::e) w K):=rfl
theorem QG8 (az:Array Operand) (ts:Array TypeId) (jj:Nat) (bb:Bool):At P N ops (⟨some r,.call { callee:=.builtin .len,args:=az,argTypes:=ts },ty,pos,af,some (jj,bb)⟩::rest) e w K=B8 ops jj bb e (fun e=>Cz e az.toList fun vs=>Py P ts[0]? vs (fun v=>At P N ops rest ((r,v)::e) w K)) (fun e=>At P N ops rest ((r,undef)::e) w K):=by rw [<- Cv];rfl
theorem QLx (az:Array Operand) (ts:Array TypeId):A5 P N ops (⟨some r,.call { callee:=.builtin .len,args:=az,argTypes:=ts },ty,pos,af,none⟩::rest) e w KQ=Cz e az.toList fun vs=>Py P ts[0]? vs (fun v=>A5 P N ops rest ((r,v)::e) w KQ):=rfl
theorem QG9 (az:Array Operand) (ts:Array TypeId) (jj:Nat) (bb:Bool):A5 P N ops (⟨some r,.call { callee:=.builtin .len,args:=az,argTypes:=ts },ty,pos,af,some (jj,bb)⟩::rest) e w KQ=B8 ops jj bb e (fun e=>Cz e az.toList fun vs=>Py P ts[0]? vs (fun v=>A5 P N ops rest ((r,v)::e) w KQ)) (fun e=>A5 P N ops rest ((r,undef)::e) w KQ):=by rw [<- Cv];rfl
theorem QLy (az:Array Operand) (ts:Array TypeId):At P N ops (⟨some r,.call { callee:=.builtin .min,args:=az,argTypes:=ts },ty,pos,af,none⟩::rest) e w K=Cz e az.toList fun vs=>Rr vs (fun v=>At P N ops rest ((r,v)::e) w K):=rfl
theorem QLz (az:Array Operand) (ts:Array TypeId):At P N ops (⟨some r,.call { callee:=.builtin .max,args:=az,argTypes:=ts },ty,pos,af,none⟩::rest) e w K=Cz e az.toList fun vs=>Rs vs (fun v=>At P N ops rest ((r,v)::e) w K):=rfl
theorem Qx8 (az:Array Operand) (ts:Array TypeId):At P N ops (⟨d,.call { callee:=.builtin .append,args:=az,argTypes:=ts },ty,pos,af,none⟩::rest) e w K=B9 P N ⟨d,.call { callee:=.builtin .append,args:=az,argTypes:=ts },ty,pos,af,none⟩ e w (At P N ops rest) K:=rfl
theorem Qx9 (az:Array Operand) (ts:Array TypeId):A5 P N ops (⟨d,.call { callee:=.builtin .append,args:=az,argTypes:=ts },ty,pos,af,none⟩::rest) e w KQ=Ns P N ⟨d,.call { callee:=.builtin .append,args:=az,argTypes:=ts },ty,pos,af,none⟩ e w (A5 P N ops rest) KQ:=rfl
theorem QHa (az:Array Operand) (ts:Array TypeId):A5 P N ops (⟨d,.call { callee:=.builtin .copy,args:=az,argTypes:=ts },ty,pos,af,none⟩::rest) e w KQ=Ns P N ⟨d,.call { callee:=.builtin .copy,args:=az,argTypes:=ts },ty,pos,af,none⟩ e w (A5 P N ops rest) KQ:=rfl
theorem Qya (az:Array Operand) (ts:Array TypeId):At P N ops (⟨d,.call { callee:=.builtin .delete,args:=az,argTypes:=ts },ty,pos,af,none⟩::rest) e w K=B9 P N ⟨d,.call { callee:=.builtin .delete,args:=az,argTypes:=ts },ty,pos,af,none⟩ e w (At P N ops rest) K:=rfl
theorem QB1 (x:Operand) (az:Array Operand) (ts:Array TypeId):At P N ops (⟨d,.call { callee:=.value x,args:=az,argTypes:=ts },ty,pos,af,none⟩::rest) e w K=B9 P N ⟨d,.call { callee:=.value x,args:=az,argTypes:=ts },ty,pos,af,none⟩ e w (At P N ops rest) K:=rfl
theorem Qyb (x:Operand) (az:Array Operand) (ts:Array TypeId) (jj:Nat) (bb:Bool):At P N ops (⟨d,.call { callee:=.value x,args:=az,argTypes:=ts },ty,pos,af,some (jj,bb)⟩::rest) e w K=B8 ops jj bb e (fun e=>B9 P N ⟨d,.call { callee:=.value x,args:=az,argTypes:=ts },ty,pos,af,some (jj,bb)⟩ e w (At P N ops rest) K) (fun e=>At P N ops rest (e.put d undef) w K):=by rw [<- Cv];rfl
theorem QB2 (x:Operand) (az:Array Operand) (ts:Array TypeId):A5 P N ops (⟨d,.call { callee:=.value x,args:=az,argTypes:=ts },ty,pos,af,none⟩::rest) e w KQ=Ns P N ⟨d,.call { callee:=.value x,args:=az,argTypes:=ts },ty,pos,af,none⟩ e w (A5 P N ops rest) KQ:=rfl
theorem Qyc (x:Operand) (az:Array Operand) (ts:Array TypeId) (jj:Nat) (bb:Bool):A5 P N ops (⟨d,.call { callee:=.value x,args:=az,argTypes:=ts },ty,pos,af,some (jj,bb)⟩::rest) e w KQ=B8 ops jj bb e (fun e=>Ns P N ⟨d,.call { callee:=.value x,args:=az,argTypes:=ts },ty,pos,af,some (jj,bb)⟩ e w (A5 P N ops rest) KQ) (fun e=>A5 P N ops rest (e.put d undef) w KQ):=by rw [<- Cv];rfl
theorem QB3 (T:TypeId):At P N ops (⟨d,.alloc T,ty,pos,af,none⟩::rest) e w K=B9 P N ⟨d,.alloc T,ty,pos,af,none⟩ e w (At P N ops rest) K:=rfl
theorem QB4 (T:TypeId):A5 P N ops (⟨d,.alloc T,ty,pos,af,none⟩::rest) e w KQ=Ns P N ⟨d,.alloc T,ty,pos,af,none⟩ e w (A5 P N ops rest) KQ:=rfl
theorem QL0 (T:TypeId) (x:Operand):At P N ops (⟨d,.box T x,ty,pos,af,none⟩::rest) e w K=B9 P N ⟨d,.box T x,ty,pos,af,none⟩ e w (At P N ops rest) K:=rfl
theorem Qle (T:TypeId) (n:Nat) (ps:Array (Nat×Operand)):At P N ops (⟨d,.buildSlice T n ps,ty,pos,af,none⟩::rest) e w K=B9 P N ⟨d,.buildSlice T n ps,ty,pos,af,none⟩ e w (At P N ops rest) K:=rfl
theorem Qlf (T:TypeId) (n:Nat) (ps:Array (Nat×Operand)):A5 P N ops (⟨d,.buildSlice T n ps,ty,pos,af,none⟩::rest) e w KQ=Ns P N ⟨d,.buildSlice T n ps,ty,pos,af,none⟩ e w (A5 P N ops rest) KQ:=rfl
theorem QB5 (T:TypeId) (x y:Operand):At P N ops (⟨d,.store T x y,ty,pos,af,none⟩::rest) e w K=B9 P N ⟨d,.store T x y,ty,pos,af,none⟩ e w (At P N ops rest) K:=rfl
theorem QB6 (T:TypeId) (x y:Operand):A5 P N ops (⟨d,.store T x y,ty,pos,af,none⟩::rest) e w KQ=Ns P N ⟨d,.store T x y,ty,pos,af,none⟩ e w (A5 P N ops rest) KQ:=rfl
theorem Qnj (T:TypeId) (x y:Operand):At P N ops (⟨d,.makeSlice T x y,ty,pos,af,none⟩::rest) e w K=B9 P N ⟨d,.makeSlice T x y,ty,pos,af,none⟩ e w (At P N ops rest) K:=rfl
theorem Qnk (T:TypeId) (x y:Operand):A5 P N ops (⟨d,.makeSlice T x y,ty,pos,af,none⟩::rest) e w KQ=Ns P N ⟨d,.makeSlice T x y,ty,pos,af,none⟩ e w (A5 P N ops rest) KQ:=rfl
theorem Qu3 (T:TypeId) (r:Option Operand):At P N ops (⟨d,.makeMap T r,ty,pos,af,none⟩::rest) e w K=B9 P N ⟨d,.makeMap T r,ty,pos,af,none⟩ e w (At P N ops rest) K:=rfl
theorem Qyd (T:TypeId) (x y:Operand) (c:Bool):At P N ops (⟨d,.lookup T x y c,ty,pos,af,none⟩::rest) e w K=B9 P N ⟨d,.lookup T x y c,ty,pos,af,none⟩ e w (At P N ops rest) K:=rfl
theorem Qnl (T:TypeId) (x y z:Operand):At P N ops (⟨d,.mapUpdate T x y z,ty,pos,af,none⟩::rest) e w K=B9 P N ⟨d,.mapUpdate T x y z,ty,pos,af,none⟩ e w (At P N ops rest) K:=rfl
theorem QB7 (T:TypeId) (x:Operand):At P N ops (⟨d,.range T x,ty,pos,af,none⟩::rest) e w K=B9 P N ⟨d,.range T x,ty,pos,af,none⟩ e w (At P N ops rest) K:=rfl
theorem QHb (x:Operand) (s:Bool):At P N ops (⟨d,.next x s,ty,pos,af,none⟩::rest) e w K=B9 P N ⟨d,.next x s,ty,pos,af,none⟩ e w (At P N ops rest) K:=rfl
theorem QB8 (x:Operand):At P N ops (⟨d,.entry x,ty,pos,af,none⟩::rest) e w K=B9 P N ⟨d,.entry x,ty,pos,af,none⟩ e w (At P N ops rest) K:=rfl
theorem QB9 (x:Operand):At P N ops (⟨d,.panic x,ty,pos,af,none⟩::rest) e w K=B9 P N ⟨d,.panic x,ty,pos,af,none⟩ e w (At P N ops rest) K:=rfl
theorem Qye (v:Value):Env.put e (some t) v=(t,v)::e:=rfl
theorem Qyf (v:Value):Env.put e none v=e:=rfl
theorem QL1:Am e (.tmp t) KV=Eu e t KV:=rfl
theorem QCa (v:Value):Am e (.const v) KV=KV v:=rfl
theorem Qyg (g:Nat):Am e (.global g) KV=KV (.pointer (some ⟨g,0,none⟩)):=rfl
theorem QHc (f:Nat):Am e (.func f) KV=KV (.func (.func f) #[] #[]):=rfl
theorem QL2 (v:Value):Eu ((t,v)::e) t KV=KV v:=by simp [Eu]
theorem QHd (s:Nat) (v:Value):Eu ((s,v)::e) t KV=if t=s then KV v else Eu e t KV:=rfl
theorem QHe {KL:LV->Prop}:Cz e [] KL=KL []:=rfl
theorem QCb {KL:LV->Prop} (x:Operand) (xs:List Operand):Cz e (x::xs) KL=Am e x fun v=>Cz e xs fun vs=>KL (v::vs):=rfl
theorem QHf {KL:LV->Prop} (xs:List Operand):Cz e (X8 xs).toList KL=Cz e xs KL:=rfl
theorem QHg {KL:List (Nat×Value)->Prop} (xs:List (Nat×Operand)):Le e (X8 xs).toList KL=Le e xs KL:=rfl
theorem QCc {KO:Option Value->Prop}:Kr e none KO=KO none:=rfl
theorem QCd {KO:Option Value->Prop} (x:Operand):Kr e (some x) KO=Am e x fun v=>KO (some v):=rfl
theorem QHh {KL:List (Nat×Value)->Prop}:Le e [] KL=KL []:=rfl
theorem QCe {KL:List (Nat×Value)->Prop} (i:Nat) (x:Operand) (xs:List (Nat×Operand)):Le e ((i,x)::xs) KL=Am e x fun v=>Le e xs fun vs=>KL ((i,v)::vs):=rfl
theorem QQt {A B:Prop}:M5 (.bool true) A B=A:=rfl
theorem QQu {A B:Prop}:M5 (.bool false) A B=B:=rfl
theorem QQv (T:TypeId) (ts:List TypeId) (v:Value):Py P (X8 (T::ts))[0]? [v] KV=Ec P T v KV:=by simp [Py]
theorem QL3 (T:TypeId) (x y:Operand) (k:IntKind) (a b:Int):A3 P .add T x y (.int k a) (.int k b) w KV=C9 k (a+b) KV:=by simp [A3,C6,E3]
theorem QL4 (T:TypeId) (x y:Operand) (k:IntKind) (a b:Int):A3 P .sub T x y (.int k a) (.int k b) w KV=C9 k (a - b) KV:=by simp [A3,C6,E3]
theorem QL5 (T:TypeId) (x y:Operand) (k:IntKind) (a b:Int):A3 P .mul T x y (.int k a) (.int k b) w KV=C9 k (a * b) KV:=by simp [A3,C6,E3]
theorem QL6 (T:TypeId) (x y:Operand) (k:IntKind) (a b:Int):A3 P .quo T x y (.int k a) (.int k b) w KV=(0<=a/\0 < b/\C9 k (a / b) KV):=by simp [A3,C6,E3]
theorem QL7 (T:TypeId) (x:Operand) (t:Nat) (k:IntKind) (a b:Int):A3 P .rem T x (.tmp t) (.int k a) (.int k b) w KV=(0<=a/\0 < b/\KV (.int k (a % b))):=by simp [A3,C6,E3,N4]
theorem Qqv (T:TypeId) (x:Operand) (k:IntKind) (a b:Int):A3 P .rem T x (.const (.int .i64 20000)) (.int k a) (.int k b) w KV=(0<=a/\0 < b/\KV (.int k (a % b))):=by simp [A3,C6,E3,N4]
theorem Qyh (T:TypeId) (x:Operand) (k:IntKind) (a b:Int):A3 P .rem T x (.const (.int .i64 512)) (.int k a) (.int k b) w KV=(0<=a/\0 < b/\KV (.int k (a % b))):=by simp [A3,C6,E3,N4]
theorem QHi (T:TypeId) (x:Operand) (k:IntKind) (a b:Int):A3 P .rem T x (.const (.int .i64 2)) (.int k a) (.int k b) w KV=(0<=a/\0 < b/\KV (.int k (a % b))):=by simp [A3,C6,E3,N4]
theorem QHj (T:TypeId) (x:Operand) (k:IntKind) (a b:Int):A3 P .rem T x (.const (.int .i64 8)) (.int k a) (.int k b) w KV=(0<=a/\0 < b/\KV (.int k (a % b))):=by simp [A3,C6,E3,N4]
theorem Qgb (T:TypeId) (x:Operand) (k:IntKind) (a b:Int):A3 P .rem T x (.const (.int .u64 100000000)) (.int k a) (.int k b) w KV=(0<=a/\0 < b/\KV (.int k (a % b))):=by simp [A3,C6,E3,N4]
theorem Qqw (T:TypeId) (x:Operand) (k:IntKind) (a b:Int):A3 P .rem T x (.const (.int .u32 10000)) (.int k a) (.int k b) w KV=(0<=a/\0 < b/\KV (.int k (a % b))):=by simp [A3,C6,E3,N4]
theorem Qyi (T:TypeId) (x:Operand) (k:IntKind) (a b:Int):A3 P .rem T x (.const (.int .u32 100)) (.int k a) (.int k b) w KV=(0<=a/\0 < b/\KV (.int k (a % b))):=by simp [A3,C6,E3,N4]
theorem Qyj (T:TypeId) (x:Operand) (k:IntKind) (a b:Int):A3 P .rem T x (.const (.int .i64 200)) (.int k a) (.int k b) w KV=(0 < b/\KV (.int k (a.tmod b))):=by simp [A3,N4]
theorem QL8 (T:TypeId) (x y:Operand) (k:IntKind) (a b:Int):A3 P .and T x y (.int k a) (.int k b) w KV=(Fit0 k a/\Fit0 k b/\KV (.int k ((a.toNat &&& b.toNat:Nat):Int))):=by simp [A3,C6,E3,Rq]
theorem QQw (T:TypeId) (x y:Operand) (k:IntKind) (a b:Int):A3 P .or T x y (.int k a) (.int k b) w KV=(Fit0 k a/\Fit0 k b/\KV (.int k ((a.toNat ||| b.toNat:Nat):Int))):=by simp [A3,C6,E3,Rq]
theorem QL9 (T:TypeId) (x y:Operand) (k:IntKind) (a b:Int):A3 P .xor T x y (.int k a) (.int k b) w KV=(Fit0 k a/\Fit0 k b/\KV (.int k ((a.toNat ^^^ b.toNat:Nat):Int))):=by simp [A3,C6,E3,Rq]
theorem QMa (T:TypeId) (x y:Operand) (k:IntKind) (a b:Int):A3 P .eql T x y (.int k a) (.int k b) w KV=KV (.bool (decide (a=b))):=by simp [A3,C6,E3]
theorem QMb (T:TypeId) (x y:Operand) (k:IntKind) (a b:Int):A3 P .neq T x y (.int k a) (.int k b) w KV=KV (.bool (decide (¬ a=b))):=by simp [A3,C6,E3]
theorem QMc (T:TypeId) (x y:Operand) (k:IntKind) (a b:Int):A3 P .lss T x y (.int k a) (.int k b) w KV=KV (.bool (decide (a < b))):=by simp [A3,C6,E3]
theorem QMd (T:TypeId) (x y:Operand) (k:IntKind) (a b:Int):A3 P .leq T x y (.int k a) (.int k b) w KV=KV (.bool (decide (a<=b))):=by simp [A3,C6,E3]
theorem QMe (T:TypeId) (x y:Operand) (k:IntKind) (a b:Int):A3 P .gtr T x y (.int k a) (.int k b) w KV=KV (.bool (decide (b < a))):=by simp [A3,C6,E3]
theorem QMf (T:TypeId) (x y:Operand) (k:IntKind) (a b:Int):A3 P .geq T x y (.int k a) (.int k b) w KV=KV (.bool (decide (b<=a))):=by simp [A3,C6,E3]
theorem QMg (T:TypeId) (x y:Operand) (k k':IntKind) (a b:Int):A3 P .shl T x y (.int k a) (.int k' b) w KV=(0<=b/\C9 k (a * 2 ^ By k b) KV):=by simp [A3,C6]
theorem QMh (T:TypeId) (x y:Operand) (k k':IntKind) (a b:Int):A3 P .shr T x y (.int k a) (.int k' b) w KV=(0<=b/\KV (.int k (a / 2 ^ By k b))):=by simp [A3,C6]
theorem QHk (T:TypeId) (x y:Operand) (s u:ByteArray):A3 P .add T x y (.string s) (.string u) w KV=(((A8 s).length+(A8 u).length:Int)<=9223372036854775807/\KV (Ab (A8 s++A8 u))):=by simp [A3,C6,N3]
theorem QHl (T:TypeId) (x y:Operand) (s u:ByteArray):A3 P .eql T x y (.string s) (.string u) w KV=KV (.bool (decide (A8 s=A8 u))):=by simp [A3,C6,N3]
theorem QHm (T:TypeId) (x y:Operand) (s u:ByteArray):A3 P .neq T x y (.string s) (.string u) w KV=KV (.bool (decide (¬ A8 s=A8 u))):=by simp [A3,C6,N3]
theorem QHn (T:TypeId) (x y:Operand) (s u:ByteArray):A3 P .lss T x y (.string s) (.string u) w KV=KV (.bool (Op.bytesLess (A8 s) (A8 u))):=by simp [A3,C6,N3]
theorem QHo (T:TypeId) (x y:Operand) (s u:ByteArray):A3 P .leq T x y (.string s) (.string u) w KV=KV (.bool (! Op.bytesLess (A8 u) (A8 s))):=by simp [A3,C6,N3]
theorem QHp (T:TypeId) (x y:Operand) (s u:ByteArray):A3 P .gtr T x y (.string s) (.string u) w KV=KV (.bool (Op.bytesLess (A8 u) (A8 s))):=by simp [A3,C6,N3]
theorem QHq (T:TypeId) (x y:Operand) (s u:ByteArray):A3 P .geq T x y (.string s) (.string u) w KV=KV (.bool (! Op.bytesLess (A8 s) (A8 u))):=by simp [A3,C6,N3]
theorem QHr (T:TypeId) (x y:Operand) (a b:Bool) (h:P.underlying T=some .bool):A3 P .eql T x y (.bool a) (.bool b) w KV=KV (.bool (decide (a=b))):=by simp [A3,C6,h]
theorem QHs (T:TypeId) (x y:Operand) (a b:Bool) (h:P.underlying T=some .bool):A3 P .neq T x y (.bool a) (.bool b) w KV=KV (.bool (decide (¬ a=b))):=by simp [A3,C6,h]
theorem QMi (n:Int):C9 .i64 n KV=(I64 n/\KV (.int .i64 n)):=rfl
theorem QQx (n:Int):C9 .u8 n KV=KV (.int .u8 (n % 256)):=rfl
theorem QMj (n:Int):C9 .u16 n KV=KV (.int .u16 (n % 65536)):=rfl
theorem QMk (n:Int):C9 .u32 n KV=KV (.int .u32 (n % 4294967296)):=rfl
theorem QMl (n:Int):C9 .u64 n KV=KV (.int .u64 (n % 18446744073709551616)):=rfl
theorem QMm (b:Bool):Md .not (.bool b) KV=KV (.bool (! b)):=rfl
theorem QMn (k:IntKind) (n:Int):Md .neg (.int k n) KV=C9 k (-n) KV:=rfl
theorem QMo (n:Int):Md .xor (.int .u32 n) KV=((0<=n/\n<=4294967295)/\KV (.int .u32 (4294967295 - n))):=rfl
theorem QMp (a:Addr):Mq (.pointer (some a)) KV=KV (.pointer (some a)):=rfl
theorem QQy (f:Nat) (p c:Array Value):Mq (.func (.func f) p c) KV=KV (.func (.func f) p c):=rfl
theorem QQz (T:Nat) (v:Value):Mq (.iface T v) KV=KV (.iface T v):=rfl
theorem mn2 (k k':IntKind) (x y:Int):Rr [.int k x,.int k' y] KV=KV (.int k (min x y)):=rfl
theorem mn3 (k k' k'':IntKind) (x y z:Int):Rr [.int k x,.int k' y,.int k'' z] KV=KV (.int k (min (min x y) z)):=rfl
theorem mx2 (k k':IntKind) (x y:Int):Rs [.int k x,.int k' y] KV=KV (.int k (max x y)):=rfl
theorem mx3 (k k' k'':IntKind) (x y z:Int):Rs [.int k x,.int k' y,.int k'' z] KV=KV (.int k (max (max x y) z)):=rfl
theorem QHt (T:TypeId) (s:ByteArray) (h:P.underlying T=some .string):Ec P T (.string s) KV=KV (.int .i64 (A8 s).length):=by simp [Ec,h]
theorem Kb (T E:TypeId) (a:OA) (n c:Nat) (h:P.underlying T=some (.slice E)):Ec P T (.slice a n c) KV=KV (.int .i64 n):=by simp [Ec,h]
theorem QHu (T:TypeId) (s:ByteArray) (k:IntKind) (n:Int) (h:P.underlying T=some .string):E7 P T (.string s) (.int k n) KV=((0<=n/\n < (A8 s).length)/\KV (.int .u8 ((A8 s).getD n.toNat 0).toNat)):=by simp [E7,h]
theorem QMq (T:TypeId) (s:ByteArray) (h:P.underlying T=some .string):Cg P T (.string s) none none KV=KV (.string s):=by simp [Cg,h]
theorem QMr (T:TypeId) (s:ByteArray) (k:IntKind) (l:Int) (h:P.underlying T=some .string):Cg P T (.string s) (some (.int k l)) none KV=((0<=l/\l<=(A8 s).length)/\KV (Ab ((A8 s).drop l.toNat))):=by simp [Cg,h]
theorem QMs (T:TypeId) (s:ByteArray) (k:IntKind) (l:Int) (h:P.underlying T=some .string):Cg P T (.string s) none (some (.int k l)) KV=((0<=l/\l<=(A8 s).length)/\KV (Ab ((A8 s).take l.toNat))):=by simp [Cg,h]
theorem QMt (T:TypeId) (s:ByteArray) (k k':IntKind) (l m:Int) (h:P.underlying T=some .string):Cg P T (.string s) (some (.int k l)) (some (.int k' m)) KV=((0<=l/\l<=m/\m<=(A8 s).length)/\KV (Ab (((A8 s).drop l.toNat).take (m.toNat - l.toNat)))):=by simp [Cg,h]
theorem Quj (T E:TypeId) (a:OA) (n c z:Nat) (h:P.underlying T=some (.slice E)) (hz:P.szo E=some z):Cg P T (.slice a n c) none none KV=(n<=c/\KV (.slice a n c)):=by simp [Cg,h,hz]
theorem Quk (T E:TypeId) (a:OA) (n c z:Nat) (k:IntKind) (l:Int) (h:P.underlying T=some (.slice E)) (hz:P.szo E=some z):Cg P T (.slice a n c) (some (.int k l)) none KV=((0<=l/\l<=n/\n<=c)/\KV (.slice (if c=l.toNat then a else a.map (·.add (l.toNat * z))) (n - l.toNat) (c - l.toNat))):=by simp [Cg,h,hz]
theorem Qul (T E:TypeId) (a:OA) (n c z:Nat) (k:IntKind) (l:Int) (h:P.underlying T=some (.slice E)) (hz:P.szo E=some z):Cg P T (.slice a n c) none (some (.int k l)) KV=((0<=l/\l<=c)/\KV (.slice a l.toNat c)):=by simp [Cg,h,hz]
theorem Qum (T E:TypeId) (a:OA) (n c z:Nat) (k k':IntKind) (l m:Int) (h:P.underlying T=some (.slice E)) (hz:P.szo E=some z):Cg P T (.slice a n c) (some (.int k l)) (some (.int k' m)) KV=((0<=l/\l<=m/\m<=c)/\KV (.slice (if c=l.toNat then a else a.map (·.add (l.toNat * z))) (m.toNat - l.toNat) (c - l.toNat))):=by simp [Cg,h,hz]
theorem L0 (s d:TypeId) (ds:TypeDesc) (k k':IntKind) (n:Int) (h:P.underlying s=some ds) (h':P.underlying d=some (.int k)):D9 P s d (.int k' n) w KV=C9 k n KV:=by simp [D9,h,h']
theorem QHv (s d E:TypeId) (a:OA) (n c:Nat) (h:P.underlying s=some (.slice E)) (h':P.underlying d=some .string) (h'':P.underlying E=some (.int .u8)):D9 P s d (.slice a n c) w KV=∃ l,Sf w a n l/\KV (Ab l):=by simp [D9,h,h',h'']
theorem Kc (T E:TypeId) (a:Addr) (n c z:Nat) (k:IntKind) (i:Int) (h:P.underlying T=some (.slice E)) (hz:P.szo E=some z):Cu P T (.slice (some a) n c) (.int k i) KV=((0<=i/\i < n)/\KV (.pointer (some (a.add (i.toNat * z))))):=by simp [Cu,h,hz]
theorem Pz (T E:TypeId) (a:Addr) (n z:Nat) (k:IntKind) (i:Int) (h:P.underlying T=some (.array n E)) (hz:P.szo E=some z):Cu P T (.pointer (some a)) (.int k i) KV=((0<=i/\i < n)/\KV (.pointer (some (a.add (i.toNat * z))))):=by simp [Cu,h,hz]
theorem Bk (S f:Nat) (a:Addr) {fields:Array Field}{fd:Field}{m:Nat} (h:P.underlying S=some (.struct fields)) (hf:fields[f]? = some fd) (hz:P.szo fd.type=some (m+1)):Ba P S (.pointer (some a)) f KV=KV (.pointer (some (a.add fd.offset))):=by simp [Ba,h,hf,hz]
theorem S5 (T:TypeId) (a:Addr) (k:IntKind) (h:P.underlying T=some (.int k)):Bf P T (.pointer (some a)) w KV=∃ v,w.cell? a=some v/\KV v:=by simp [Bf,h]
theorem QCf (T:TypeId) (a:Addr) (h:P.underlying T=some .bool):Bf P T (.pointer (some a)) w KV=∃ v,w.cell? a=some v/\KV v:=by simp [Bf,h]
theorem QHw (T:TypeId) (a:Addr) (h:P.underlying T=some .string):Bf P T (.pointer (some a)) w KV=∃ v,w.cell? a=some v/\KV v:=by simp [Bf,h]
theorem Mn (T E:TypeId) (a:Addr) (h:P.underlying T=some (.slice E)):Bf P T (.pointer (some a)) w KV=∃ v,w.cell? a=some v/\KV v:=by simp [Bf,h]
theorem QHx (T E:TypeId) (a:Addr) (h:P.underlying T=some (.pointer E)):Bf P T (.pointer (some a)) w KV=∃ v,w.cell? a=some v/\KV v:=by simp [Bf,h]
theorem QF8 (T:TypeId) (ps rs:Array TypeId) (vr:Bool) (a:Addr) (h:P.underlying T=some (.func ps rs vr)):Bf P T (.pointer (some a)) w KV=∃ v,w.cell? a=some v/\KV v:=by simp [Bf,h]
theorem Lk (T n:TypeId) (a:Addr) (fs:Array Field) (h:P.underlying T=some (.struct fs)) (hz:P.szo T=some n):Bf P T (.pointer (some a)) w KV=∃ cs:LV,(cs.length=n/\Reads w a cs)/\KV (.agg cs.toArray):=by simp [Bf,h,hz]
theorem QF9 (T n m E:TypeId) (a:Addr) (h:P.underlying T=some (.array m E)) (hz:P.szo T=some n):Bf P T (.pointer (some a)) w KV=∃ cs:LV,(cs.length=n/\Reads w a cs)/\KV (.agg cs.toArray):=by simp [Bf,h,hz]
end
theorem QHy (l:LB):A8 (ByteArray.mk l.toArray)=l:=by simp [A8]
attribute [go_sem ↓] QGy QBj QGx QBi QGz QBk QGs QGt QBe QBf QQr QQs QGu QBg QGv QGw QBh Qxz Quy QLs Quh Qui QLt QLu QLv QG0 QBl QG1 QBm Qx0 Qx1 QG2 QBn QG3 QBo QBp Qx2 QBq Qx3 QG4 QBr QG5 QBs Quz Qqo Qqp Qu0 Qqq Qqr QBt Qx4 QBu Qnd Qla Qne Qlb Qnf Qlc Qng Qld QBv Qx5 QBw Qx6 Qu1 Qu2 Qfu Qqs QBx QBy Qx7 QG6 QBz QG7 QB0 Qqt Qnh Qqu Qni QLw QG8 QLx QG9 QLy QLz Qx8 Qx9 QHa Qya QB1 Qyb QB2 Qyc QB3 QB4 QL0 Qle Qlf QB5 QB6 Qnj Qnk Qu3 Qyd Qnl QB7 QHb QB8 QB9 Qye Qyf QL1 QCa Qyg QHc QL2 QHd QHe QCb QHf QHg QCc QCd QHh QCe QQt QQu QQv QL3 QL4 QL5 QL6 QL7 Qqv Qyh QHi QHj Qgb Qqw Qyi Qyj QL8 QQw QL9 QMa QMb QMc QMd QMe QMf QMg QMh QHk QHl QHm QHn QHo QHp QHq QMi QQx QMj QMk QMl QMm QMn QMo QMp QQy QQz mn2 mn3 mx2 mx3
attribute [go_sem] QHy Xe Xx X3 List.getElem_cons_zero List.getElem_cons_succ
structure Upd (B:LN) (w w':World):Prop where
 os:w'.os=w.os
 tape:w'.tape=w.tape
 output:w'.output=w.output
 size:w.heap.size<=w'.heap.size
 block:∀ k,k < w.heap.size->k ∉ B->w'.heap[k]? = w.heap[k]?
theorem Upd.refl (B:LN) (w:World):Upd B w w:=⟨rfl,rfl,rfl,Y2 _,fun _ _ _=>rfl⟩
theorem Upd.trans {B B':LN}{a b c:World} (h:Upd B a b) (k:Upd B' b c) (hB:∀ x∈B',x∈B∨a.heap.size<=x):Upd B a c :=
 ⟨k.os.trans h.os,k.tape.trans h.tape,k.output.trans h.output,Nat.le_trans h.size k.size,fun i hi hn =>
  (k.block i (Y8 hi h.size) (fun hx=>by rcases hB i hx with h1 | h1;exact hn h1;omega)).trans (h.block i hi hn)⟩
theorem Upd.below {w w':World} (h:Upd [] w w'):RowKit.Below w.heap.size w w':=⟨h.os,h.tape,h.output,h.size,fun k hk=>h.block k hk (by simp)⟩
theorem Upd.drewN {B:LN}{w w':World} (h:Upd B w w') (n m:Nat):Upd B (w.drewN n) (w'.drewN m):=⟨h.os,h.tape,h.output,h.size,h.block⟩
theorem Upd.mono {B B':LN}{w w':World} (h:Upd B w w') (hs:∀ x∈B,x∈B'):Upd B' w w':=⟨h.os,h.tape,h.output,h.size,fun k hk hn=>h.block k hk fun hx=>hn (hs k hx)⟩
structure Res where
 foot:LN
 holds:World->Prop
 loc:∀ w w',(∀ b∈foot,w'.heap[b]? = w.heap[b]?)->holds w->holds w'
def Apart (r s:Res):Prop:=∀ b∈r.foot,b ∉ s.foot
structure Heap (w0:World) (B:LN) (w:World) (G:List Res):Prop where
 upd:Upd B w0 w
 holds:∀ r∈G,r.holds w
 foot:∀ r∈G,∀ b∈r.foot,(b∈B∨w0.heap.size<=b)/\b < w.heap.size
 apart:G.Pairwise Apart
theorem Apart.symm {r s:Res} (h:Apart r s):Apart s r:=fun b hb hr=>h b hr hb
theorem Heap.start (w:World):Heap w [] w []:=⟨.refl _ _,by simp,by simp,.nil⟩
theorem Heap.one {w:World}{r:Res} (h:r.holds w) (hf:∀ b∈r.foot,b < w.heap.size):Heap w r.foot w [r] :=
 ⟨.refl _ _,by simpa using h,by simpa using fun b hb=>⟨.inl hb,hf b hb⟩,by simp⟩
theorem Heap.drewN {w0 w:World}{B:LN}{G:List Res} (h:Heap w0 B w G) (n m:Nat):Heap (w0.drewN n) B (w.drewN m) G :=
 ⟨h.upd.drewN n m,fun r hr=>r.loc w _ (fun _ _=>rfl) (h.holds r hr),h.foot,h.apart⟩
theorem Heap.step {w0 w w':World}{B S:LN}{G G':List Res} (h:Heap w0 B w G) (hs:Heap w S w' G') (hS:∀ b∈S,(b∈B∨w0.heap.size<=b)/\∀ r∈G,b ∉ r.foot):Heap w0 B w' (G'++G):=by
 refine ⟨h.upd.trans hs.upd fun x hx=>(hS x hx).1,?_,?_,?_⟩
 ·
  intro r hr;rcases Xi.1 hr with hr | hr
  ·
   exact hs.holds r hr
  refine r.loc w w' (fun b hb=>hs.upd.block b (h.foot r hr b hb).2 fun hx=>(hS b hx).2 r hr hb) (h.holds r hr)
 ·
  intro r hr b hb;rcases Xi.1 hr with hr | hr
  ·
   obtain ⟨h1,h2⟩:=hs.foot r hr b hb;refine ⟨?_,h2⟩;rcases h1 with h1 | h1
   ·
    exact (hS b h1).1
   exact .inr (Nat.le_trans h.upd.size h1)
  exact ⟨(h.foot r hr b hb).1,Y8 (h.foot r hr b hb).2 hs.upd.size⟩
 rw [List.pairwise_append];refine ⟨hs.apart,h.apart,fun r hr s hs' b hb hbs=>?_⟩;rcases (hs.foot r hr b hb).1 with h1 | h1
 ·
  exact (hS b h1).2 s hs' hbs
 have:=(h.foot s hs' b hbs).2;omega
theorem Heap.call0 {w0 w w':World}{B:LN}{G G':List Res} (h:Heap w0 B w G) (hs:Heap w [] w' G'):Heap w0 B w' (G'++G):=h.step hs (by simp)
theorem Heap.sub {w0 w:World}{B:LN}{G G':List Res} (h:Heap w0 B w G) (hs:G'.Sublist G):Heap w0 B w G' :=
 ⟨h.upd,fun r hr=>h.holds r (hs.subset hr),fun r hr=>h.foot r (hs.subset hr),h.apart.sublist hs⟩
theorem Heap.perm {w0 w:World}{B:LN}{G G':List Res} (h:Heap w0 B w G) (hs:G.Perm G'):Heap w0 B w G' :=
 ⟨h.upd,fun r hr=>h.holds r (hs.mem_iff.2 hr),fun r hr=>h.foot r (hs.mem_iff.2 hr),(hs.pairwise_iff fun h=>h.symm).1 h.apart⟩
theorem Heap.step1 {w0 w w':World}{B:LN}{G1 G2 G':List Res}{r r':Res} (h:Heap w0 B w (G1++r::G2)) (hs:Heap w r.foot w' (r'::G')):Heap w0 B w' (G'++(G1++r'::G2)):=by
 have hp:(G1++r::G2).Perm (r::(G1++G2)):=Xr;have h1:=h.perm hp;have ha:=h1.apart;rw [Yp] at ha;have h2:Heap w0 B w (G1++G2):=h1.sub (Xy _ _);have h3:=h2.step hs fun b hb=>⟨(h1.foot r (by simp) b hb).1,fun s hs hbs=>ha.1 s hs b hb hbs⟩;refine h3.perm ?_;simp only [List.cons_append];refine List.Perm.trans ?_ (List.perm_append_left_iff G' |>.2 (Xr (l₁:=G1) (l₂:=G2) (a:=r')).symm);exact (Xr (l₁:=G') (l₂:=G1++G2) (a:=r')).symm
theorem Qu4 {α:Type} (G:List α) (i:Nat) (r r':α) (h:G[i]? = some r):∃ G1 G2,G=G1++r::G2/\G.set i r'=G1++r'::G2:=by
 induction G generalizing i with
 | nil=>simp at h
 | cons a l ih =>
  cases i with
  | zero=>simp at h;subst h;exact ⟨[],l,rfl,rfl⟩
  | succ i =>
   obtain ⟨G1,G2,e1,e2⟩:=ih i (by simpa using h);exact ⟨a::G1,G2,by simp [e1],by simp [e2]⟩
theorem Heap.call1 {w0 w w':World}{B:LN}{G G':List Res}{r r':Res} (i:Nat) (h:Heap w0 B w G) (hi:G[i]? = some r) (hs:Heap w r.foot w' (r'::G')):Heap w0 B w' (G'++G.set i r'):=by
 obtain ⟨G1,G2,e1,e2⟩:=Qu4 G i r r' hi;rw [e2];rw [e1] at h;exact h.step1 hs
theorem Heap.at {w0 w:World}{B:LN}{G:List Res}{r:Res} (h:Heap w0 B w G) (i:Nat) (hi:G[i]? = some r):r.holds w:=h.holds r (Yk hi)
theorem Heap.set {w0 w w':World}{B:LN}{G:List Res}{r r':Res} (i:Nat) (h:Heap w0 B w G) (hi:G[i]? = some r) (hu:Upd r.foot w w') (hr:r'.holds w') (hf:∀ b∈r'.foot,(b∈r.foot∨w.heap.size<=b)/\b < w'.heap.size) :
  Heap w0 B w' (G.set i r') :=
 h.call1 (G':=[]) i hi ⟨hu,by simpa using hr,by simpa using hf,by simp⟩
theorem Heap.view {w0 w:World}{B:LN}{G:List Res}{r r':Res} (i:Nat) (h:Heap w0 B w G) (hi:G[i]? = some r) (hr:r.holds w->r'.holds w) (hf:∀ b∈r'.foot,b∈r.foot):Heap w0 B w (G.set i r') :=
 h.set i hi (.refl _ _) (hr (h.at i hi)) fun b hb=>⟨.inl (hf b hb),(h.foot r (Yk hi) b (hf b hb)).2⟩
theorem Heap.new {w0 w:World}{B:LN}{G:List Res}{r:Res} (o:Obj) (h:Heap w0 B w G) (hr:r.holds (w.alloc o)) (hf:∀ b∈r.foot,b=w.heap.size):Heap w0 B (w.alloc o) (r::G):=by
 refine h.call0 (G':=[r]) ⟨⟨rfl,rfl,rfl,by simp,fun k hk _=>RowKit.Below.heap_alloc w o k hk⟩,by simpa using hr,?_,by simp⟩;intro s hs b hb;simp at hs;subst hs;rw [hf b hb];simp
theorem Heap.reads {w0 w:World}{B:LN}{G:List Res} (h:Heap w0 B w G) {a:Addr}{xs:LV} (hr:Reads w0 a xs) (hb:a.block ∉ B):Reads w a xs:=by
 intro j u hu;have h1:=hr j u hu;have e:(a.add j).block=a.block:=by unfold Addr.add;split <;> rfl
 have hlt:a.block < w0.heap.size:=by
  have:=World.block_lt_of_cell? w0 _ h1
  rwa [e] at this
 rw [World.cell?_of_block (w:=w0)]
 ·
  exact h1
 rw [e];exact h.upd.block _ hlt hb
def RS (w:World) (a:OA) (n sz:Nat) (xs:LV):Prop:=xs.length=n * sz/\(a=none->n=0)/\∀ ad,a=some ad->Reads w ad xs
theorem Heap.rs {w0 w:World}{B:LN}{G:List Res} (h:Heap w0 B w G) {a:OA}{n sz:Nat}{xs:LV} (hr:RS w0 a n sz xs) (hb:∀ ad,a=some ad->ad.block ∉ B):RS w a n sz xs :=
 ⟨hr.1,hr.2.1,fun ad ha=>h.reads (hr.2.2 ad ha) (hb ad ha)⟩
theorem Heap.rs' {w0 w:World}{G:List Res} (h:Heap w0 [] w G) {a:OA}{n sz:Nat}{xs:LV} (hr:RS w0 a n sz xs):RS w a n sz xs:=h.rs hr (by simp)
def Br (l:List Int):LV:=l.map fun n=>.int .i64 n
theorem Of (l:LB):(Ao l).length=l.length:=by simp [Ao]
theorem Qjy (l:List Int):(Br l).length=l.length:=by simp [Br]
theorem Fw {w:World}{a:OA}{n:Nat}{l:LB} (h:RS w a n 1 (Ao l)):Sf w a n l :=
 ⟨by have:=h.1;simp [Ao] at this;exact this,h.2.1,h.2.2⟩
def Wq (fz:Nat×Nat) (n:Nat):Prop:=∀ j,j < n->¬ (fz.1<=j/\j < fz.2)
def Qyk (T sz:Nat) (a:OA) (n cap:Nat) (xs:LV) (w:World):Prop :=
 xs.length=n * sz/\n<=cap/\cap<=maxLen /\
 ((a=none/\n=0/\cap=0)∨∃ g rest fz,a=some ⟨g,0,none⟩/\w.heap[g]? = some (.cells (xs++rest).toArray T fz)/\(xs++rest).length=cap * sz/\Wq fz (cap * sz))
def Res.row (T sz:Nat) (a:OA) (n cap:Nat) (xs:LV):Res where
 foot:=(a.map (·.block)).toList
 holds:=Qyk T sz a n cap xs
 loc:=by
  rintro w w' hb ⟨h1,h2,h3,h4⟩;refine ⟨h1,h2,h3,?_⟩;rcases h4 with h4 | ⟨g,rest,fz,rfl,hg,h5⟩
  ·
   exact .inl h4
  exact .inr ⟨g,rest,fz,rfl,by rw [hb g (by simp)];exact hg,h5⟩
theorem Qmi (T sz:Nat) (w:World):(Res.row T sz none 0 0 []).holds w:=⟨by simp,Y2 _,by simp [maxLen],.inl ⟨rfl,rfl,rfl⟩⟩
theorem As {T sz n cap:Nat}{a:OA}{xs:LV}{w:World} (h:(Res.row T sz a n cap xs).holds w):RS w a n sz xs:=by
 obtain ⟨h1,h2,h3,h4⟩:=h;refine ⟨h1,?_,?_⟩
 ·
  rintro rfl;rcases h4 with h4 | ⟨g,rest,fz,h,_⟩
  ·
   exact h4.2.1
  cases h
 rintro ad rfl;rcases h4 with h4 | ⟨g,rest,fz,h,hg,_⟩
 ·
  cases h4.1
 cases h;intro j u hu;have hadd:(⟨g,0,none⟩:Addr).add j=⟨g,j,none⟩:=by unfold Addr.add;split <;> simp_all
 rw [hadd,cell_of_row w g j _ T fz hg];have hlt:j < xs.length:=(Yn.1 hu).1;simp [Y6 hlt,hu]
end Go.Eng
namespace Go
def Program.zeroOf (P:Program) (T:TypeId):Option Value:=((P.info? T).bind (·.zero))
end Go
namespace Go.Eng
open Go
section
variable {P:Program}{N:Nat}{d:Option Tmp}{ty:Nat}{pos:String}{af:Array Edge}{gd:Option (Nat×Bool)}{e:Env}{w:World}{R:Env->World->(Env->World->Prop)->Prop}{RQ:Env->World->(Env->Prop)->Prop}{K:Env->World->Prop}{KQ:Env->Prop}
theorem Ki {o:Oper}{C:Value->World->Prop} (h:∀ a n,Fits N e a->∃ v w' m,(execOp a.eval o).run P (w.drewN n)=.ok (.value v) (w'.drewN m)/\C v w'):Mem P N o e w C:=by
 intro a n next Q ha hK;obtain ⟨v,w',m,hr,hC⟩:=h a n ha;unfold Oper.wp;rw [hr];exact hK v w' m hC
theorem Qem {o:Oper}{C:Value->World->Prop} (h:∀ a n,Fits N e a->∃ w' m,(execOp a.eval o).run P (w.drewN n)=.ok .skip (w'.drewN m)/\C undef w'):Mem P N o e w C:=by
 intro a n next Q ha hK;obtain ⟨w',m,hr,hC⟩:=h a n ha;unfold Oper.wp;rw [hr];exact hK _ w' m hC
def CallK (P:Program) (f:FuncId) (args:LV) (w:World) (C:Value->World->Prop):Prop:=∃ F,Does P f args.toArray w F/\∀ v w',F v w'->C v w'
theorem CallK.mk {f:FuncId}{args:LV}{C F:Value->World->Prop} (h:Does P f args.toArray w F) (hc:∀ v w',F v w'->C v w'):CallK P f args w C:=⟨F,h,hc⟩
theorem Aa {f:FuncId}{az:Array Operand}{ts:Array TypeId} (hf:∀ args w,(callFunc f args).run P w=.ok (.enter f args) w)
  (h:Cz e az.toList fun vs=>CallK P f vs w fun v w'=>R (e.put d v) w' K) :
  B9 P N ⟨d,.call { callee:=.value (.func f),args:=az,argTypes:=ts },ty,pos,af,gd⟩ e w R K:=by
 intro a n next Q ha hK;have h1:=Lt (K:=fun vs=>CallK P f vs w fun v w'=>R (e.put d v) w' K) ha h;obtain ⟨F,hD,hC⟩:=h1;have hm:(az.map a.eval)=(az.toList.map a.eval).toArray:=Nl az a
 have hrun:(execOp a.eval ⟨d,.call { callee:=.value (.func f),args:=az,argTypes:=ts },ty,pos,af,gd⟩).run P (w.drewN n)=.ok (.enter f (az.toList.map a.eval).toArray) (w.drewN n):=by
  simp only [execOp,resolve,Act.eval,Deferred.ofValue,Yc,Yb,Ya,invoke];simp [hm,hf]
 unfold Oper.wp;rw [hrun];exact (hD n).mono fun e' w' ⟨v,w'',m,he,hw,hF⟩=>by subst he;subst hw;exact hK v w'' m (hC v w'' hF)
def QCallK (P:Program) (f:FuncId) (args:LV) (w:World) (C:Value->Prop):Prop:=∃ v,Does P f args.toArray w (fun v' w'=>w'=w/\v'=v)/\C v
theorem QCallK.mk {f:FuncId}{args:LV}{C:Value->Prop}{v:Value} (h:Does P f args.toArray w (fun v' w'=>w'=w/\v'=v)) (hc:C v):QCallK P f args w C:=⟨v,h,hc⟩
theorem Mx (T:TypeId) (cs:Array Value) (w:World):(newRow T cs).run P w=.ok ⟨w.heap.size,0,none⟩ (w.alloc (.cells cs T)):=rfl
theorem Qgv (T:TypeId) (v:Value) (w:World):(newVar T v).run P w=.ok ⟨w.heap.size,0,none⟩ (w.alloc (.cells v.cells T)):=rfl
theorem W8 (n:Nat) (w:World):(askRoom n).run P w=.ok () w:=by unfold askRoom;split <;> rfl
theorem Qen (w:World) (n:Nat) (o:Obj):(w.drewN n).alloc o=(w.alloc o).drewN n:=rfl
theorem Dl {T:TypeId}{x:Operand} (h:Am e x fun v=>R (e.put d (.pointer (some ⟨w.heap.size,0,none⟩))) (w.alloc (.cells v.cells T)) K) :
  B9 P N ⟨d,.box T x,ty,pos,af,gd⟩ e w R K :=
 Ki fun a n ha=>by
  have h1:=Cp (K:=fun v=>R (e.put d (.pointer (some ⟨w.heap.size,0,none⟩))) (w.alloc (.cells v.cells T)) K) ha h;exact ⟨_,w.alloc (.cells (a.eval x).cells T),n,by simp only [execOp,Instr.box,Yc,Qgv,Ya,Yb];rfl,h1⟩
theorem Zh {T:TypeId}{z:Value} (h:P.zeroOf T=some z) (w:World):(zeroValue T).run P w=.ok z w:=by
 unfold Program.zeroOf at h;cases hi:P.info? T with
 | none=>simp [hi] at h
 | some i =>
  simp [hi] at h;simp [zeroValue,typeInfo,hi,h]
theorem Bo {T:TypeId} (z:Value) (hz:P.zeroOf T=some z) (h:R (e.put d (.pointer (some ⟨w.heap.size,0,none⟩))) (w.alloc (.cells z.cells T)) K) :
  B9 P N ⟨d,.alloc T,ty,pos,af,gd⟩ e w R K :=
 Ki fun a n _=>⟨_,w.alloc (.cells z.cells T),n,by simp only [execOp,Instr.alloc,Zh hz,Yc,Qgv,Ya,Yb];rfl,h⟩
theorem Qgc {T E:TypeId}{i:TypeInfo}{z zv:Value} (hu:P.underlying T=some (.slice E)) (hi:P.info? E=some i) (hz:i.zero=some z) (hzv:z.cells=#[zv]) (h1:i.size=1)
  {l c:Nat} (hlc:l<=c) (hb:i.bytes * c<=2 ^ 48) (hc:c<=maxLen) (w:World) :
  (Instr.makeSlice T (.int .i64 l) (.int .i64 c)).run P w=.ok (.slice (some ⟨w.heap.size,0,none⟩) l c) (w.alloc (.cells (Ye c zv).toArray E)):=by
 have hcm:(c:Int)<=9223372036854775807:=by simp only [maxLen] at hc;omega
 have e1:IntKind.i64.wrap (l:Int)=l:=Sb ⟨by omega,by omega⟩;have e2:IntKind.i64.wrap (c:Int)=c:=Sb ⟨by omega,by omega⟩
 have hb1:((i.bytes * c:Nat):Int)<=281474976710656:=by
  have h:i.bytes * c<=281474976710656:=hb;omega
 have hb':¬ ((i.bytes:Int) * (c:Int) > 281474976710656):=by
  have e3:((i.bytes * c:Nat):Int)=(i.bytes:Int) * (c:Int):=Xj _ _;omega
 have hrow:(Array.range (c * 1)).map (fun x=>(#[zv]:Array Value)[x % 1]!)=(Ye c zv).toArray:=by
  apply Array.ext
  ·
   simp
  intro j h1 h2;simp [Nat.mod_one]
 have hti:∀ w,(typeInfo E).run P w=.ok i w:=fun w=>by simp [typeInfo,hi]
 have hzi:∀ w,(zeroValue E).run P w=.ok z w:=fun w=>by simp [zeroValue,typeInfo,hi,hz]
 have hso:∀ w,(sizeOf E).run P w=.ok 1 w:=fun w=>by simp [sizeOf,typeInfo,hi,h1]
 simp only [Instr.makeSlice,Yc,run_underlying hu,Ya,asInt,asIntOf,Yb,hti,e1,e2];rw [if_neg (by simp [hb'];omega)];simp only [Yc,W8,Ya,hso,Xn];by_cases hc0:c=0
 ·
  subst hc0;simp only [X9,if_true,Yc,Yb,Ya,Mx];simp [show Array.range 0=#[] from rfl]
 rw [if_neg (by omega)];simp only [Yc,hzi,Ya,Yb,Mx,hzv];rw [<- hrow];simp
theorem Ew {T E:TypeId}{x y:Operand}{zv:Value}{bytes:Nat} (hu:P.underlying T=some (.slice E)) (hz:(P.info? E).map (fun i=>(i.zero.map Yq,i.size,i.bytes))=some (some #[zv],1,bytes))
  (h:Am e x fun vl=>Am e y fun vc=>∃ l c:Nat,(vl=.int .i64 l/\vc=.int .i64 c/\l<=c/\bytes * c<=281474976710656/\c<=9223372036854775807)/\R (e.put d (.slice (some ⟨w.heap.size,0,none⟩) l c)) (w.alloc (.cells (Ye c zv).toArray E)) K) :
  B9 P N ⟨d,.makeSlice T x y,ty,pos,af,gd⟩ e w R K :=
 Ki fun a n ha=>by
  obtain ⟨l,c,⟨h1,h2,h3,h4,h5⟩,hR⟩:=Cp (K:=fun vc=>∃ l c:Nat,(a.eval x=.int .i64 l/\vc=.int .i64 c/\l<=c/\bytes * c<=281474976710656/\c<=9223372036854775807)/\R (e.put d (.slice (some ⟨w.heap.size,0,none⟩) l c)) (w.alloc (.cells (Ye c zv).toArray E)) K) ha
   (Cp (K:=fun vl=>Am e y fun vc=>∃ l c:Nat,(vl=.int .i64 l/\vc=.int .i64 c/\l<=c/\bytes * c<=281474976710656/\c<=9223372036854775807)/\R (e.put d (.slice (some ⟨w.heap.size,0,none⟩) l c)) (w.alloc (.cells (Ye c zv).toArray E)) K) ha h)
  cases hi:P.info? E with
  | none=>simp [hi] at hz
  | some i =>
   simp only [hi,Option.map_some,Option.some.injEq,Prod.mk.injEq] at hz;obtain ⟨hz1,hz2,hz3⟩:=hz;cases hzz:i.zero with
   | none=>simp [hzz] at hz1
   | some z =>
    simp only [hzz,Option.map_some,Option.some.injEq] at hz1;refine ⟨_,w.alloc (.cells (Ye c zv).toArray E),n,?_,hR⟩;have:=Qgc hu hi hzz hz1 hz2 h3 (by rw [hz3];exact h4) (by simp only [maxLen];omega) (w.drewN n);simp only [execOp,h1,h2,this,Yc,Ya,Yb];rfl
theorem Qqx:∀ (l:LV) (i:Nat) (pre suf:LV),suf.length=l.length->(∀ v∈l,v.cells=#[v])->pre.length=i ->
  Instr.fill (fun i=>some (i * 1,1)) (pre++suf).toArray ((l.zipIdx i).map fun p=>(p.2,p.1))=some (pre++l).toArray:=by
 intro l
 induction l with
 | nil=>intro i pre suf hs _ _;simp at hs;subst hs;simp [Instr.fill]
 | cons v l ih =>
  intro i pre suf hs hc hp;cases suf with
  | nil=>simp at hs
  | cons u suf =>
   simp only [Xs,List.map_cons,Instr.fill];have hv:=hc v (by simp);simp only [hv];rw [if_neg (by simp;omega)];have:=ih (i+1) (pre++[v]) suf (by simpa using hs) (fun u hu=>hc u (by simp [hu])) (by simp [hp])
   have e1:(#[v].zipIdx.foldl (fun cs x=>cs.setIfInBounds (i * 1+x.2) x.1) (pre++u::suf).toArray)=((pre++[v])++suf).toArray:=by
    simp only [Array.zipIdx];simp;rw [<- hp,Xb _ _ (Y2 _)];simp
   rw [e1,this];simp
theorem Oi {T E:TypeId}{n:Nat}{ps:Array (Nat×Operand)}{xs:List Operand} (hu:P.underlying T=some (.slice E)) (hsz:P.szo E=some 1) (hz:(P.zeroOf E).isSome=true)
  (hps:ps.toList=(xs.zipIdx).map fun p=>(p.2,p.1)) (hn:n=xs.length) (hb:n<=1000000)
  (h:Cz e xs fun vs=>(∀ v∈vs,v.cells=#[v])/\R (e.put d (.slice (some ⟨w.heap.size,0,none⟩) n n)) (w.alloc (.cells vs.toArray E)) K) :
  B9 P N ⟨d,.buildSlice T n ps,ty,pos,af,gd⟩ e w R K :=
 Ki fun a m ha=>by
  obtain ⟨h1,hR⟩:=Lt (K:=fun vs=>(∀ v∈vs,v.cells=#[v])/\R (e.put d (.slice (some ⟨w.heap.size,0,none⟩) n n)) (w.alloc (.cells vs.toArray E)) K) ha h;refine ⟨_,_,m,?_,hR⟩;obtain ⟨z,hz⟩:=Xq.1 hz
  have e1:(ps.map fun (i,x)=>(i,a.eval x)).toList=((xs.map a.eval).zipIdx).map fun p=>(p.2,p.1):=by
   rw [Array.toList_map,hps];simp [List.zipIdx_map]
  have hf:=Qqx (xs.map a.eval) 0 [] (((Array.range (n * 1)).map fun x=>(if n=0 then #[] else z.cells)[x % (if n=0 then #[] else z.cells).size]!).toList) (by simp [hn]) h1 rfl;simp only [X0,Array.toArray_toList] at hf;have hs:=I7 (P:=P) hsz;simp only [execOp,Instr.buildSlice,Yc,run_underlying hu,hs,Ya];rw [if_neg (by omega)];simp only [Xe] at hf ⊢;by_cases h0:n=0
  ·
   rw [if_pos h0];rw [if_pos h0] at hf;simp only [Yc,Yb,Ya,e1,hf,Mx];rfl
  rw [if_neg h0];rw [if_neg h0] at hf;simp only [Yc,Zh hz,Yb,Ya,e1,hf,Mx];rfl
def F0 (w:World) (g:Nat) (cs:LV) (T:TypeId) (fz:Nat×Nat):World:={ w with heap:=w.heap.setIfInBounds g (.cells cs.toArray T fz) }
theorem Qx {w:World}{g:Nat}{cs:LV}{T:TypeId}{fz:Nat×Nat} (h:g < w.heap.size):(F0 w g cs T fz).heap[g]? = some (.cells cs.toArray T fz):=by
 simp [F0,h]
theorem Qu5 {w:World}{g k:Nat}{cs:LV}{T:TypeId}{fz:Nat×Nat} (h:k≠g):(F0 w g cs T fz).heap[k]? = w.heap[k]? := by
 simp [F0,Ne.symm h]
theorem Qv (w:World) (g:Nat) (cs:LV) (T:TypeId) (fz:Nat×Nat):Upd [g] w (F0 w g cs T fz) :=
 ⟨rfl,rfl,rfl,by simp [F0],fun k _ hk=>Qu5 (by simpa using hk)⟩
theorem Sc (w:World) (g:Nat) (cs:LV) (T:TypeId) (fz:Nat×Nat):(F0 w g cs T fz).heap.size=w.heap.size:=by simp [F0]
theorem W6 (w:World) (n g:Nat) (cs:LV) (T:TypeId) (fz:Nat×Nat):F0 (w.drewN n) g cs T fz=(F0 w g cs T fz).drewN n:=rfl
theorem Qgd {w:World}{g o:Nat}{cs:LV}{T:TypeId}{fz:Nat×Nat} (h:w.heap[g]? = some (.cells cs.toArray T fz)) (v:Value):w.setCell ⟨g,o,none⟩ v=F0 w g (cs.set o v) T fz:=by
 have hlt:g < w.heap.size:=(Array.getElem?_eq_some_iff.1 h).1;unfold World.setCell F0
 congr 1
 apply Array.ext_getElem?;intro j;rw [Array.getElem?_modify,Array.getElem?_setIfInBounds];by_cases hj:g=j
 ·
  subst hj;have hg:w.heap[g]=.cells cs.toArray T fz:=(Array.getElem?_eq_some_iff.1 h).2;simp [hlt,hg]
 simp [hj]
theorem Qnm {w:World}{g:Nat}{cs:LV}{T:TypeId}{fz:Nat×Nat} (h:w.heap[g]? = some (.cells cs.toArray T fz)):F0 w g cs T fz=w:=by
 have hlt:g < w.heap.size:=(Array.getElem?_eq_some_iff.1 h).1
 have e:w.heap.setIfInBounds g (.cells cs.toArray T fz)=w.heap:=by
  apply Array.ext_getElem?;intro j;rw [Array.getElem?_setIfInBounds];by_cases hj:g=j
  ·
   subst hj;rw [if_pos rfl,if_pos hlt];exact h.symm
  rw [if_neg hj]
 rw [F0,e]
theorem W2 (g o:Nat) (T:TypeId) (fz:Nat×Nat):∀ (vs:LV) (i:Nat) (cs:LV) (w:World),w.heap[g]? = some (.cells cs.toArray T fz)->Wq fz cs.length->o+i+vs.length<=cs.length->(∀ v∈vs,v.oneCell'=true) ->
  (storeCells ⟨g,o,none⟩ vs i).run P w=.ok () (F0 w g (cs.take (o+i)++vs++cs.drop (o+i+vs.length)) T fz):=by
 intro vs
 induction vs with
 | nil =>
  intro i cs w hg _ hl _;simp only [storeCells,Yb]
  congr 1
  have:cs.take (o+i)++[]++cs.drop (o+i+0)=cs:=by simp
  simp only [List.length_nil];rw [this,Qnm hg]
 | cons v vs ih =>
  intro i cs w hg hfz hl h1;simp only [Y4] at hl;have hadd:(⟨g,o,none⟩:Addr).add i=⟨g,o+i,none⟩:=by unfold Addr.add;split <;> simp_all
  have hcell:∃ u,w.cell? ⟨g,o+i,none⟩=some u:=by
   refine ⟨cs[o+i],?_⟩;simp [World.cell?,hg]
  obtain ⟨u,hu⟩:=hcell
  have hfr:w.frozen? ⟨g,o+i,none⟩=false:=by
   simp only [World.frozen?,hg];have:=hfz (o+i) (by omega);simpa using this
  have hone:=h1 v (by simp)
  have hstore:(store ⟨g,o+i,none⟩ v).run P w=.ok () (w.setCell ⟨g,o+i,none⟩ v):=by
   cases v <;> simp [Value.oneCell'] at hone <;> simp [store,Ua,hu,hfr]
  have hlt:g < w.heap.size:=(Array.getElem?_eq_some_iff.1 hg).1;simp only [storeCells,Yc,hadd,hstore,Ya];rw [Qgd hg,ih (i+1) (cs.set (o+i) v) _ (Qx hlt) (by simpa using hfz) (by simp;omega) (fun u hu=>h1 u (by simp [hu]))]
  congr 1
  unfold F0;simp only [Array.setIfInBounds_setIfInBounds]
  congr 2
  congr 1
  congr 1
  rw [show o+(i+1)=o+i+1 by omega,List.take_set,List.drop_set];simp only [Y4];rw [if_pos (by omega),List.take_succ_eq_append_getElem (by omega),Xb _ _ (by simp;omega)];simp only [Yt];rw [show o+i - min (o+i) cs.length=0 by omega];simp [show o+i+1+vs.length=o+i+(vs.length+1) by omega]
end
section
variable {P:Program}{N:Nat}{d:Option Tmp}{ty:Nat}{pos:String}{af:Array Edge}{gd:Option (Nat×Bool)}{e:Env}{w:World}{R:Env->World->(Env->World->Prop)->Prop}{K:Env->World->Prop}
def Mj (P:Program) (T:TypeId) (x v:Value) (w:World) (C:World->Prop):Prop :=
 ∃ w',(∀ n,(Instr.storeAt T x v).run P (w.drewN n)=.ok () (w'.drewN n))/\C w'
theorem Ag {T:TypeId}{x y:Operand} (h:Am e x fun a=>Am e y fun v=>Mj P T a v w fun w'=>R (e.put d undef) w' K) :
  B9 P N ⟨d,.store T x y,ty,pos,af,gd⟩ e w R K :=
 Qem fun a n ha=>by
  obtain ⟨w',hr,hC⟩:=Cp (K:=fun v=>Mj P T (a.eval x) v w fun w'=>R (e.put d undef) w' K) ha (Cp (K:=fun b=>Am e y fun v=>Mj P T b v w fun w'=>R (e.put d undef) w' K) ha h);exact ⟨w',n,by simp only [execOp,Yc,hr n,Ya,Yb],hC⟩
theorem Qac {T:TypeId}{g o:Nat}{T':TypeId}{fz:Nat×Nat}{cs vs:LV}{v:Value} (hv:v.cells=vs.toArray) (hsz:P.szo T=some vs.length) (hg:w.heap[g]? = some (.cells cs.toArray T' fz)) (hfz:Wq fz cs.length) (hl:o+vs.length<=cs.length) (h1:∀ u∈vs,u.oneCell'=true) (n:Nat) :
  (Instr.storeAt T (.pointer (some ⟨g,o,none⟩)) v).run P (w.drewN n)=.ok () ((F0 w g (cs.take o++vs++cs.drop (o+vs.length)) T' fz).drewN n):=by
 have hs:=I7 (P:=P) hsz;have hst:=W2 (P:=P) g o T' fz vs 0 cs (w.drewN n) hg hfz (by simpa using hl) h1;simp only [Instr.storeAt,Instr.sureAddr,storeVar,Yc,Yb,Ya,hs,hv];rw [if_neg (by simp)];rw [hst];simp [W6]
def Res.blk (g:Nat) (T:TypeId) (cs:LV):Res where
 foot:=[g]
 holds:=fun w=>∃ fz,w.heap[g]? = some (.cells cs.toArray T fz)/\Wq fz cs.length
 loc:=by
  rintro w w' hb ⟨fz,h1,h2⟩;exact ⟨fz,by rw [hb g (by simp)];exact h1,h2⟩
theorem Qm3 (n:Nat):Wq (0,0) n:=fun j _=>by simp
theorem Heap.box {w0 w:World}{B:LN}{G:List Res} (h:Heap w0 B w G) (T:TypeId) (cs:LV):Heap w0 B (w.alloc (.cells cs.toArray T)) (Res.blk w.heap.size T cs::G) :=
 h.new _ ⟨(0,0),heap_alloc_new w _,Qm3 _⟩ (by simp [Res.blk])
theorem Heap.row {w0 w:World}{B:LN}{G:List Res} (h:Heap w0 B w G) (T:TypeId) {n cap sz:Nat} (xs rest:LV) (h1:xs.length=n * sz) (h2:(xs++rest).length=cap * sz) (h3:n<=cap) (h4:cap<=9223372036854775807) :
  Heap w0 B (w.alloc (.cells (xs++rest).toArray T)) (Res.row T sz (some ⟨w.heap.size,0,none⟩) n cap xs::G) :=
 h.new _ ⟨h1,h3,by simp only [maxLen];omega,.inr ⟨w.heap.size,rest,(0,0),rfl,heap_alloc_new w _,h2,Qm3 _⟩⟩ (by simp [Res.row])
theorem Ap {w0:World}{B:LN}{G:List Res} (hH:Heap w0 B w G) (i:Nat) {g o:Nat}{T T':TypeId}{cs vs:LV}{v:Value}{C:World->Prop} (hi:G[i]? = some (Res.blk g T' cs)) (hv:v.cells=vs.toArray) (hsz:P.szo T=some vs.length) (hl:o+vs.length<=cs.length) (h1:∀ u∈vs,u.oneCell'=true)
  (h:∀ w',Heap w0 B w' (G.set i (Res.blk g T' (cs.take o++vs++cs.drop (o+vs.length))))->C w'):Mj P T (.pointer (some ⟨g,o,none⟩)) v w C:=by
 obtain ⟨fz,hg,hfz⟩:=hH.at i hi;have hlt:g < w.heap.size:=(Array.getElem?_eq_some_iff.1 hg).1;refine ⟨_,Qac hv hsz hg hfz hl h1,h _ (hH.set i hi (Qv _ _ _ _ _) ⟨fz,Qx hlt,?_⟩ ?_)⟩
 ·
  have:(cs.take o++vs++cs.drop (o+vs.length)).length=cs.length:=by simp;omega
  rw [this];exact hfz
 intro b hb;exact ⟨.inl hb,by rw [Sc];simp [Res.blk] at hb;omega⟩
theorem Dp {w0:World}{B:LN}{G:List Res} (hH:Heap w0 B w G) (i:Nat) {o n cap sz:Nat}{ad ap:Addr}{T T':TypeId}{xs vs:LV}{v:Value}{C:World->Prop} (hi:G[i]? = some (Res.row T' sz (some ad) n cap xs)) (hp:ap=ad.add o) (hv:v.cells=vs.toArray) (hsz:P.szo T=some vs.length) (hl:o+vs.length<=xs.length) (h1:∀ u∈vs,u.oneCell'=true)
  (h:∀ w',Heap w0 B w' (G.set i (Res.row T' sz (some ad) n cap (xs.take o++vs++xs.drop (o+vs.length))))->C w'):Mj P T (.pointer (some ap)) v w C:=by
 obtain ⟨h2,h3,h4,h5⟩:=hH.at i hi;rcases h5 with h5 | ⟨g,rest,fz,hg0,hg,hl2,hfz⟩
 ·
  cases h5.1
 cases hg0;subst hp;have hlt:g < w.heap.size:=(Array.getElem?_eq_some_iff.1 hg).1;have hadd:(⟨g,0,none⟩:Addr).add o=⟨g,o,none⟩:=by unfold Addr.add;split <;> simp_all
 rw [hadd];have hlen:o+vs.length<=(xs++rest).length:=by simp;omega
 refine ⟨_,Qac hv hsz hg (by rw [hl2];exact hfz) hlen h1,h _ (hH.set i hi (Qv _ _ _ _ _) ?_ ?_)⟩
 ·
  refine ⟨by simp;omega,h3,h4,.inr ⟨g,rest,fz,rfl,?_,by simp at hl2 ⊢;omega,hfz⟩⟩;rw [Qx hlt]
  congr 3
  rw [Xf (by omega),Xg (by omega)];simp
 intro b hb;exact ⟨.inl hb,by rw [Sc];simp [Res.row] at hb;omega⟩
def Src (P:Program) (w:World) (x:Value) (T':TypeId) (sz m:Nat) (news:LV):Prop :=
 match x with
 | .slice a k _=>k=m/\RS w a m sz news/\(∃ E,P.underlying T'=some (.slice E))
 | .string s=>m=(A8 s).length/\sz=1/\news=Ao (A8 s)/\P.underlying T'=some .string
 | _=>False
theorem Src.spec {x:Value}{T':TypeId}{sz m:Nat}{news:LV} (h:Src P w x T' sz m news) :
  news.length=m * sz/\(∀ w,(Builtin.lenOf x).run P w=.ok m w)/\(∀ w',w'.heap=w.heap->(Builtin.firstCells sz m x).run P w'=.ok news.toArray w')/\(∃ dd,P.underlying T'=some dd/\∀ k,dd≠.int k):=by
 unfold Src at h;split at h
 ·
  rename_i a k c;obtain ⟨rfl,⟨h1,h2,h3⟩,E,hE⟩:=h;refine ⟨h1,fun w=>by simp [Builtin.lenOf],fun w' hw=>?_,_,hE,by simp⟩;cases a with
  | none =>
   have:=h2 rfl;subst this;have:news=[]:=Yh (by simpa using h1);subst this;simp [Builtin.firstCells]
  | some ad=>exact run_firstCells_some (P:=P) w' sz k ad k c news h1 (fun j v hv=>(h3 ad rfl).heap hw j v hv)
 ·
  rename_i s;obtain ⟨rfl,rfl,rfl,hu⟩:=h;refine ⟨by simp [Ao],fun w=>by simp only [Builtin.lenOf,Yb];rfl,fun w' _=>?_,_,hu,by simp⟩
  have:s.extract 0 (A8 s).length=s:=by
   rw [Ty,List.drop_zero,Xa (by simp [A8]),Array.toArray_toList]
  simp only [Builtin.firstCells,Yb,this,Ao,A8]
  congr 1
  apply Array.ext';simp
 exact h.elim
theorem QHz {dd:TypeDesc} (h:∀ k,dd≠.int k):(match (generalizing:=false) dd with | .int _=>true | _=>false)=false:=by cases dd <;> first | rfl | exact absurd rfl (h _)
theorem Qge {w0:World}{B:LN}{G:List Res} (hH:Heap w0 B w G) (i:Nat) {T T' E ty:TypeId}{sz bytes:Nat}{zs:Array Value}{a:OA}{n cap m:Nat}{xs news:LV}{x:Value}
  (hi:G[i]? = some (Res.row E sz a n cap xs)) (hu:P.underlying T=some (.slice E)) (hz:(P.info? E).map (fun i=>(i.zero.map Yq,i.size,i.bytes))=some (some zs,sz,bytes)) (hzs:zs.size=sz)
  (hs:Src P w x T' sz m news) (h1:∀ u∈news,u.oneCell'=true) (hb:cap < n+m->(n+m) * bytes<=140737488355328/\n+m<=9223372036854775807) (k:Nat) :
  ∃ a' cap' w' k',(Builtin.append_ #[T,T'] ty #[.slice a n cap,x]).run P (w.drewN k)=.ok (.slice a' (n+m) cap') (w'.drewN k')/\Heap w0 B w' (G.set i (Res.row E sz a' (n+m) cap' (xs++news)))/\(n+m<=cap->a'=a/\cap'=cap):=by
 have hrow:=hH.at i hi;obtain ⟨hxl,hnc,hcm,hcase⟩:=hrow;obtain ⟨hnl,hlen,hfirst,dd,hdd,hni⟩:=hs.spec;cases hinfo:P.info? E with
 | none=>simp [hinfo] at hz
 | some ti =>
 simp only [hinfo,Option.map_some,Option.some.injEq,Prod.mk.injEq] at hz;obtain ⟨hz1,hz2,hz3⟩:=hz;cases hzz:ti.zero with
 | none=>simp [hzz] at hz1
 | some z =>
 simp only [hzz,Option.map_some,Option.some.injEq] at hz1;have hso:∀ w,(sizeOf E).run P w=.ok sz w:=fun w=>by simp [sizeOf,typeInfo,hinfo,hz2]
 have hti:∀ w,(typeInfo E).run P w=.ok ti w:=fun w=>by simp [typeInfo,hinfo]
 have hzv:∀ w,(zeroValue E).run P w=.ok z w:=fun w=>by simp [zeroValue,typeInfo,hinfo,hzz]
 have hund:∀ w,(underlying T').run P w=.ok dd w:=fun w=>run_underlying hdd w;have hmatch:=QHz hni;by_cases hroom:n+m<=cap
 ·
  rcases hcase with ⟨rfl,rfl,rfl⟩ | ⟨g,rest,fz,rfl,hg,hl2,hfz⟩
  ·
   have hm:m=0:=by omega
   subst hm;have hn:news=[]:=Yh (by simpa using hnl);subst hn;refine ⟨none,0,w,k,?_,?_,fun _=>⟨rfl,rfl⟩⟩
   ·
    simp [Builtin.append_,run_underlying hu,hso,hund,hlen,hfirst (w.drewN k) rfl]
   have:xs++[]=xs:=by simp
   rw [this]
   have:G.set i (Res.row E sz none 0 0 xs)=G:=by
    apply Xo;intro j;rw [Xp];split
    ·
     rename_i hj;subst hj;split <;> simp_all
    rfl
   simp only [Xx];rw [this];exact hH
  have hlt:g < w.heap.size:=(Array.getElem?_eq_some_iff.1 hg).1;have hfit:n * sz+news.length<=(xs++rest).length:=by rw [hl2,hnl,<- Ym];exact Yl _ hroom
  have hst:=W2 (P:=P) g (n * sz) E fz news 0 (xs++rest) (w.drewN k) hg (by rw [hl2];exact hfz) (by simpa using hfit) h1;have hadd:(⟨g,0,none⟩:Addr).add (n * sz)=⟨g,n * sz,none⟩:=by unfold Addr.add;split <;> simp_all
  have hcs:(xs++rest).take (n * sz+0)++news++(xs++rest).drop (n * sz+0+news.length)=(xs++news)++rest.drop news.length:=by
   rw [Xz,<- hxl,List.take_left];rw [Xt];simp
  rw [hcs] at hst;refine ⟨some ⟨g,0,none⟩,cap,F0 w g ((xs++news)++rest.drop news.length) E fz,k,?_,?_,fun _=>⟨rfl,rfl⟩⟩
  ·
   simp [Builtin.append_,run_underlying hu,hso,hund,hlen,hfirst (w.drewN k) rfl,hroom,hadd,hst,W6]
  refine hH.set i hi (Qv _ _ _ _ _) ⟨?_,hroom,hcm,.inr ⟨g,rest.drop news.length,fz,rfl,Qx hlt,?_,hfz⟩⟩ ?_
  ·
   rw [Yf,hxl,hnl,Ym]
  ·
   simp at hl2 hfit ⊢;omega
  intro b hb;exact ⟨.inl hb,by rw [Sc];simp [Res.row] at hb;omega⟩
 obtain ⟨hb1,hb2⟩:=hb (by omega)
 have hg63:¬ ((n+m:Nat):Int) > IntKind.i64.max:=by
  have:IntKind.i64.max=9223372036854775807:=by decide
  rw [this];omega
 have hfits:¬ (Builtin.nextslicecap (n+m) cap * ti.bytes > 2 ^ 48):=by
  have:=growslice_fits (need:=n+m) (old:=cap) (bytes:=ti.bytes) (by omega) (by rw [hz3];exact hb1);have e:(2:Nat) ^ 48=281474976710656:=by decide
  rw [e];omega
 have hold:(Builtin.firstCells sz n (.slice a n cap)).run P (w.drewN (k+1))=.ok xs.toArray (w.drewN (k+1)):=by
  have hrs:=As (hH.at i hi);cases a with
  | none =>
   have hn0:=hrs.2.1 rfl;subst hn0;have:xs=[]:=Yh (by simpa using hxl);subst this;simp [Builtin.firstCells]
  | some ad=>exact run_firstCells_some (P:=P) _ sz n ad n cap xs hxl (fun j v hv=>(hrs.2.2 ad rfl).heap (w':=w.drewN (k+1)) rfl j v hv)
 have hge:=grownCap_ge (w.drewN k) (n+m) cap E;have hcm':=grownCap_le_maxLen (w.drewN k) (n+m) cap E (by simp only [maxLen];omega);refine ⟨some ⟨w.heap.size,0,none⟩,grownCap (w.drewN k) (n+m) cap E,w.alloc (.cells (xs.toArray++news.toArray++Builtin.zeroCells z.cells (grownCap (w.drewN k) (n+m) cap E - (n+m))) E),k+1,?_,?_,fun h=>absurd h hroom⟩
 ·
  have hz2':¬ (9223372036854775807 < ((n:Int)+(m:Int))):=by omega
  have hz3':¬ (281474976710656 < Builtin.nextslicecap (n+m) cap * ti.bytes):=by
   have e:(2:Nat) ^ 48=281474976710656:=by decide
   rw [e] at hfits;omega
  have hf2:=hfirst (w.drewN (k+1)) rfl;have hra:=fun n w=>W8 (P:=P) n w;simp [Builtin.append_,run_underlying hu,hso,hund,hlen,hroom,hti,hz2',hz3',hra,hold,hf2,hzv,Mx,Question.forced,grownCap];rw [Qen]
  congr 3
  apply Array.ext';simp
 have hcells:(xs.toArray++news.toArray++Builtin.zeroCells z.cells (grownCap (w.drewN k) (n+m) cap E - (n+m)))=((xs++news)++(Builtin.zeroCells z.cells (grownCap (w.drewN k) (n+m) cap E - (n+m))).toList).toArray:=by
  apply Array.ext';simp
 rw [hcells];have hzc:z.cells.size=sz:=by rw [hz1];exact hzs
 refine hH.set i hi ⟨rfl,rfl,rfl,by simp,fun k hk _=>RowKit.Below.heap_alloc _ _ _ hk⟩ ⟨?_,hge,hcm',.inr ⟨w.heap.size,_,(0,0),rfl,heap_alloc_new w _,?_,Qm3 _⟩⟩ ?_
 ·
  rw [Yf,hxl,hnl,Ym]
 ·
  rw [Yf,Yf,hxl,hnl,Array.length_toList,size_zeroCells,hzc,<- Ym,<- Ym]
  congr 1;omega
 intro b hb;simp [Res.row] at hb;subst hb;exact ⟨.inr (Y2 _),by simp⟩
def N5 (P:Program) (ts:Array TypeId) (ty:TypeId) (vs:LV) (w:World) (C:Value->World->Prop):Prop :=
 ∀ n,∃ v w' m,(Builtin.append_ ts ty vs.toArray).run P (w.drewN n)=.ok v (w'.drewN m)/\C v w'
theorem Ce {az:Array Operand}{ts:Array TypeId} (h:Cz e az.toList fun vs=>N5 P ts ty vs w fun v w'=>R (e.put d v) w' K) :
  B9 P N ⟨d,.call { callee:=.builtin .append,args:=az,argTypes:=ts },ty,pos,af,gd⟩ e w R K :=
 Ki fun a n ha=>by
  obtain ⟨v,w',m,hr,hC⟩:=Lt (K:=fun vs=>N5 P ts ty vs w fun v w'=>R (e.put d v) w' K) ha h n;refine ⟨v,w',m,?_,hC⟩;simp only [execOp,resolve,invoke,builtin,Nl,Yc,Yb,Ya,hr]
theorem C3 {w0:World}{B:LN}{G:List Res} (hH:Heap w0 B w G) (i:Nat) {T T' E ty:TypeId}{sz bytes:Nat}{zs:Array Value}{a:OA}{n cap m:Nat}{xs news:LV}{x:Value}{C:Value->World->Prop}
  (hi:G[i]? = some (Res.row E sz a n cap xs)) (hu:P.underlying T=some (.slice E)) (hz:(P.info? E).map (fun i=>(i.zero.map Yq,i.size,i.bytes))=some (some zs,sz,bytes)) (hzs:zs.size=sz)
  (hs:Src P w x T' sz m news) (h1:∀ u∈news,u.oneCell'=true) (hb:cap < n+m->(n+m) * bytes<=140737488355328/\n+m<=9223372036854775807)
  (h:∀ a' cap' w',(n+m<=cap->a'=a/\cap'=cap)->Heap w0 B w' (G.set i (Res.row E sz a' (n+m) cap' (xs++news)))->C (.slice a' (n+m) cap') w'):N5 P #[T,T'] ty [.slice a n cap,x] w C:=by
 intro k;obtain ⟨a',cap',w',k',hr,hH',hc⟩:=Qge (P:=P) (ty:=ty) hH i hi hu hz hzs hs h1 hb k;exact ⟨_,w',k',hr,h a' cap' w' hc hH'⟩
theorem QCg (l:LB) (m:Nat):((⟨l.toArray⟩:ByteArray).data.map fun b=>Yw .u8 b.toNat)++Array.replicate m (Yw .u8 0)=((Ao l)++Ye m (Yw .u8 0)).toArray:=by
 apply Array.ext';simp [Ao]
theorem Qyl {E:TypeId}{cap:Nat} (w:World) (cs:Array Value) (hcs:cs.size=cap):(markStringish ⟨w.heap.size,0,none⟩).run P (w.alloc (.cells cs E))=.ok () ({ w with heap:=w.heap.push (.cells cs E (cap,cap+1)) }:World):=by
 have h1:(w.alloc (.cells cs E)).shape? w.heap.size=some (E,cap):=by
  have:=heap_alloc_new w (.cells cs E);simp only [World.shape?,this,hcs]
 have h2:(w.alloc (.cells cs E)).freeze { block:=w.heap.size,off:=cap } 1=({ w with heap:=w.heap.push (.cells cs E (cap,cap+1)) }:World):=by
  have e:(w.heap.push (.cells cs E)).modify w.heap.size (fun
   | .cells c elem (lo,hi)=>.cells c elem (if lo == hi then (cap,cap+1) else (min lo cap,max hi (cap+1)))
   | o=>o)=w.heap.push (.cells cs E (cap,cap+1)):=by
   apply Array.ext_getElem?;intro j;rw [Array.getElem?_modify];simp only [Array.getElem?_push];by_cases hj:w.heap.size=j
   ·
    subst hj;simp
   rw [if_neg hj,if_neg (Ne.symm hj),if_neg (Ne.symm hj)]
  unfold World.freeze;rw [if_neg (by omega)];exact congrArg (fun h=>({ w with heap:=h }:World)) e
 have h3:(shape w.heap.size).run P (w.alloc (.cells cs E))=.ok (some (E,cap)) (w.alloc (.cells cs E)):=by
  simp only [shape,Ua,h1]
 simp only [markStringish,Yc,h3,Ya];simp only [freeze,Ua,h2]
theorem Qnn {T E:TypeId}{l:LB}{S:TypeId} (hS:P.underlying S=some .string) (hT:P.underlying T=some (.slice E)) (hE:P.underlying E=some (.int .u8)) (hl:l.length<=9223372036854775807) (k:Nat) :
  ∃ cap,l.length<=cap/\cap<=maxLen/\(convert S T (Ab l)).run P (w.drewN k)=.ok (.slice (some ⟨w.heap.size,0,none⟩) l.length cap) (({ w with heap:=w.heap.push (.cells ((Ao l)++Ye (cap - l.length) (Yw .u8 0)).toArray E (cap,cap+1)) }:World).drewN (k+1)):=by
 have hge:=grownCap_ge (w.drewN k) l.length 0 E;have hle:=grownCap_le_maxLen (w.drewN k) l.length 0 E (by simp only [maxLen];exact hl);refine ⟨grownCap (w.drewN k) l.length 0 E,hge,hle,?_⟩
 have hchoose:(choose (.appendCap (⟨l.toArray⟩:ByteArray).size 0 E)).run P (w.drewN k)=.ok (grownCap (w.drewN k) l.length 0 E) (w.drewN (k+1)):=by
  have:(⟨l.toArray⟩:ByteArray).size=l.length:=rfl;rw [this];simp [grownCap,Question.forced]
 generalize grownCap (w.drewN k) l.length 0 E=cap at *
 have hsize:((Ao l)++Ye (cap - l.length) (Yw .u8 0)).toArray.size=cap:=by
  simp [Ao];omega
 simp only [convert,Yc,run_underlying hS,run_underlying hT,run_underlying hE,Ya,Conv.stringToBytes,hchoose];have e:(⟨l.toArray⟩:ByteArray).size=l.length:=rfl;rw [e,QCg];have:=Qyl (P:=P) (E:=E) (w.drewN (k+1)) _ hsize;simp only [Mx,Ya,this,Yb];rfl
def Qtc (P:Program) (S T:TypeId) (x:Value) (w:World) (C:Value->World->Prop):Prop :=
 ∀ n,∃ v w' m,(convert S T x).run P (w.drewN n)=.ok v (w'.drewN m)/\C v w'
theorem Qb0 {S T:TypeId}{x:Operand} (h:Am e x fun v=>Qtc P S T v w fun v w'=>R (e.put d v) w' K) :
  B9 P N ⟨d,.convert S T x,ty,pos,af,gd⟩ e w R K :=
 Ki fun a n ha=>by
  obtain ⟨v,w',m,hr,hC⟩:=Cp (K:=fun v=>Qtc P S T v w fun v w'=>R (e.put d v) w' K) ha h n;exact ⟨v,w',m,by simp only [execOp,Yc,hr,Ya,Yb],hC⟩
theorem Qb1 {w0:World}{B:LN}{G:List Res} (hH:Heap w0 B w G) {S T E:TypeId}{l:LB}{C:Value->World->Prop} (hS:P.underlying S=some .string) (hT:P.underlying T=some (.slice E)) (hE:P.underlying E=some (.int .u8)) (hl:l.length<=9223372036854775807)
  (h:∀ g cap w',Heap w0 B w' (Res.row E 1 (some ⟨g,0,none⟩) l.length cap (Ao l)::G)->C (.slice (some ⟨g,0,none⟩) l.length cap) w'):Qtc P S T (Ab l) w C:=by
 intro k;obtain ⟨cap,h1,h2,hr⟩:=Qnn (P:=P) (w:=w) hS hT hE hl k;refine ⟨_,_,_,hr,h _ _ _ ?_⟩;refine hH.call0 (G':=[_]) ⟨⟨rfl,rfl,rfl,by simp,fun j hj _=>?_⟩,?_,?_,by simp⟩
 ·
  show (w.heap.push _)[j]? = _
  rw [Array.getElem?_push,if_neg (by omega)]
 ·
  intro r hr;simp at hr;subst hr;refine ⟨by simp [Ao],h1,h2,.inr ⟨w.heap.size,Ye (cap - l.length) (Yw .u8 0),(cap,cap+1),rfl,?_,by simp [Ao];omega,fun j hj=>by simp at hj ⊢;omega⟩⟩
  show (w.heap.push _)[w.heap.size]? = _
  simp
 intro r hr b hb;simp at hr;subst hr;simp [Res.row] at hb;subst hb;exact ⟨.inr (Y2 _),by simp⟩
theorem Vf (l:LB):∀ u∈Ao l,u.oneCell'=true:=by
 intro u hu;obtain ⟨b,_,rfl⟩:=List.mem_map.1 hu;rfl
theorem Qym (l:List Int):∀ u∈Br l,u.oneCell'=true:=by
 intro u hu;obtain ⟨b,_,rfl⟩:=List.mem_map.1 hu;rfl
theorem Ql (l m:LB):Ao (l++m)=Ao l++Ao m:=by simp [Ao]
theorem Qct (l m:List Int):Br (l++m)=Br l++Br m:=by simp [Br]
theorem Qic {w0:World}{B:LN}{G:List Res} (hH:Heap w0 B w G) (i:Nat) {T E ty:TypeId}{bytes:Nat}{z:Value}{a:OA}{n cap:Nat}{xs:LV}{x:Value}{C:Value->World->Prop}
  (hi:G[i]? = some (Res.row E 1 a n cap xs)) (hu:P.underlying T=some (.slice E)) (hz:(P.info? E).map (fun i=>(i.zero.map Yq,i.size,i.bytes))=some (some #[z],1,bytes))
  (hx:x.oneCell'=true) (hb:cap < n+1->(n+1) * bytes<=140737488355328/\n+1<=9223372036854775807)
  (h:∀ a' cap' w',(n+1<=cap->a'=a/\cap'=cap)->Heap w0 B w' (G.set i (Res.row E 1 a' (n+1) cap' (xs++[x])))->C (.slice a' (n+1) cap') w') :
  N5 P #[T,T] ty [.slice a n cap,.slice (some ⟨w.heap.size,0,none⟩) 1 1] (w.alloc (.cells [x].toArray E)) C:=by
 have h1:=hH.row E (n:=1) (cap:=1) (sz:=1) [x] [] (by simp) (by simp) (by omega) (by omega);simp only [Yz] at h1;refine C3 h1 (i+1) (sz:=1) (m:=1) (news:=[x]) (by simpa using hi) hu hz rfl ⟨rfl,As (h1.at 0 rfl),E,hu⟩ (by simpa using hx) hb fun a' cap' w' hc hH'=>h a' cap' w' hc ?_;simp only [List.set_cons_succ] at hH';exact hH'.sub (Xy _ _)
theorem Qo9 {w0:World}{B:LN}{G:List Res} (hH:Heap w0 B w G) (i:Nat) {T T' E ty:TypeId}{bytes:Nat}{z:Value}{a:OA}{cap:Nat}{o t:LB}{C:Value->World->Prop}
  (hi:G[i]? = some (Res.row E 1 a o.length cap (Ao o))) (hu:P.underlying T=some (.slice E)) (hz:(P.info? E).map (fun i=>(i.zero.map Yq,i.size,i.bytes))=some (some #[z],1,bytes)) (hS:P.underlying T'=some .string)
  (hb:cap < (o++t).length->(o++t).length * bytes<=140737488355328/\(o++t).length<=9223372036854775807)
  (h:∀ a' cap' w',((o++t).length<=cap->a'=a/\cap'=cap)->Heap w0 B w' (G.set i (Res.row E 1 a' (o++t).length cap' (Ao (o++t))))->C (.slice a' (o++t).length cap') w') :
  N5 P #[T,T'] ty [.slice a o.length cap,Ab t] w C:=by
 have e:o.length+t.length=(o++t).length:=by simp
 refine C3 hH i (sz:=1) (m:=t.length) (news:=Ao t) hi hu hz rfl ⟨by simp [A8],rfl,by simp [A8],hS⟩ (Vf t) (by rw [e];exact hb) fun a' cap' w' hc hH'=>?_;rw [e] at hc hH' ⊢;exact h a' cap' w' hc (by rw [Ql];exact hH')
theorem Qdx {w0:World}{B:LN}{G:List Res} (hH:Heap w0 B w G) (i:Nat) {T E ty:TypeId}{bytes:Nat}{z:Value}{a:OA}{cap:Nat}{o:LB} (b:UInt8) {n:Int}{C:Value->World->Prop}
  (hi:G[i]? = some (Res.row E 1 a o.length cap (Ao o))) (hu:P.underlying T=some (.slice E)) (hz:(P.info? E).map (fun i=>(i.zero.map Yq,i.size,i.bytes))=some (some #[z],1,bytes)) (hn:n=b.toNat)
  (hb:cap < (o++[b]).length->(o++[b]).length * bytes<=140737488355328/\(o++[b]).length<=9223372036854775807)
  (h:∀ a' cap' w',((o++[b]).length<=cap->a'=a/\cap'=cap)->Heap w0 B w' (G.set i (Res.row E 1 a' (o++[b]).length cap' (Ao (o++[b]))))->C (.slice a' (o++[b]).length cap') w') :
  N5 P #[T,T] ty [.slice a o.length cap,.slice (some ⟨w.heap.size,0,none⟩) 1 1] (w.alloc (.cells [Yw .u8 n].toArray E)) C:=by
 subst hn;have e:o.length+1=(o++[b]).length:=by simp
 refine Qic hH i hi hu hz rfl (by rw [e];exact hb) fun a' cap' w' hc hH'=>?_;rw [e] at hc hH' ⊢;exact h a' cap' w' hc (by rw [Ql];exact hH')
theorem Z1 {w0:World}{B:LN}{G:List Res} (hH:Heap w0 B w G) (i:Nat) {T E ty:TypeId}{bytes:Nat}{z:Value}{a:OA}{cap:Nat}{o:List Int}{n:Int}{C:Value->World->Prop}
  (hi:G[i]? = some (Res.row E 1 a o.length cap (Br o))) (hu:P.underlying T=some (.slice E)) (hz:(P.info? E).map (fun i=>(i.zero.map Yq,i.size,i.bytes))=some (some #[z],1,bytes))
  (hb:cap < (o++[n]).length->(o++[n]).length * bytes<=140737488355328/\(o++[n]).length<=9223372036854775807)
  (h:∀ a' cap' w',((o++[n]).length<=cap->a'=a/\cap'=cap)->Heap w0 B w' (G.set i (Res.row E 1 a' (o++[n]).length cap' (Br (o++[n]))))->C (.slice a' (o++[n]).length cap') w') :
  N5 P #[T,T] ty [.slice a o.length cap,.slice (some ⟨w.heap.size,0,none⟩) 1 1] (w.alloc (.cells [Yw .i64 n].toArray E)) C:=by
 have e:o.length+1=(o++[n]).length:=by simp
 refine Qic hH i hi hu hz rfl (by rw [e];exact hb) fun a' cap' w' hc hH'=>?_;rw [e] at hc hH' ⊢;exact h a' cap' w' hc (by rw [Qct];exact hH')
theorem Qu6 {w0:World}{B:LN}{G:List Res} (hH:Heap w0 B w G) (i:Nat) {T E ty:TypeId}{bytes:Nat}{z:Value}{a b:OA}{cap m c:Nat}{o t:List Int}{C:Value->World->Prop}
  (hi:G[i]? = some (Res.row E 1 a o.length cap (Br o))) (hu:P.underlying T=some (.slice E)) (hz:(P.info? E).map (fun i=>(i.zero.map Yq,i.size,i.bytes))=some (some #[z],1,bytes)) (hm:m=t.length) (ht:RS w b t.length 1 (Br t))
  (hb:cap < (o++t).length->(o++t).length * bytes<=140737488355328/\(o++t).length<=9223372036854775807)
  (h:∀ a' cap' w',((o++t).length<=cap->a'=a/\cap'=cap)->Heap w0 B w' (G.set i (Res.row E 1 a' (o++t).length cap' (Br (o++t))))->C (.slice a' (o++t).length cap') w') :
  N5 P #[T,T] ty [.slice a o.length cap,.slice b m c] w C:=by
 subst hm;have e:o.length+t.length=(o++t).length:=by simp
 refine C3 hH i (sz:=1) (m:=t.length) (news:=Br t) hi hu hz rfl ⟨rfl,ht,E,hu⟩ (Qym t) (by rw [e];exact hb) fun a' cap' w' hc hH'=>?_;rw [e] at hc hH' ⊢;exact h a' cap' w' hc (by rw [Qct];exact hH')
theorem add_add (a:Addr) (hs:a.spot=none) (k j:Nat):(a.add k).add j=a.add (k+j):=by
 obtain ⟨b,o,s⟩:=a;simp only at hs;subst hs;unfold Addr.add;by_cases hk:k=0
 ·
  subst hk;simp
 by_cases hj:j=0
 ·
  subst hj;simp [hk]
 simp [hk,hj,Nat.add_assoc]
theorem RS.drop {ad:Addr}{n sz:Nat}{xs:LV} (h:RS w (some ad) n sz xs) (hs:ad.spot=none) (k:Nat) (hk:k<=n):RS w (some (ad.add (k * sz))) (n - k) sz (xs.drop (k * sz)):=by
 refine ⟨by rw [Xu,h.1,Nat.sub_mul],by simp,fun a' ha=>?_⟩;cases ha;intro j u hu;rw [List.getElem?_drop] at hu;rw [add_add ad hs];exact h.2.2 ad rfl _ u hu
theorem RS.take {a:OA}{n sz:Nat}{xs:LV} (h:RS w a n sz xs) (m:Nat) (hm:m<=n):RS w a m sz (xs.take (m * sz)):=by
 refine ⟨by rw [Yt,h.1];exact Y7 (Yl _ hm),fun ha=>by have:=h.2.1 ha;omega,fun ad ha j u hu=>?_⟩;rw [X7] at hu;split at hu
 ·
  exact h.2.2 ad ha j u hu
 cases hu
theorem B3 {T sz g n cap k:Nat}{xs:LV}{v:Value} (h:(Res.row T sz (some ⟨g,0,none⟩) n cap xs).holds w) (hv:xs[k]? = some v):w.cell? ⟨g,k,none⟩=some v:=by
 have:=(As h).2.2 _ rfl k v hv;have hadd:(⟨g,0,none⟩:Addr).add k=⟨g,k,none⟩:=by unfold Addr.add;split <;> simp_all
 rwa [hadd] at this
theorem Cw {T sz n cap:Nat}{a:OA}{xs:LV} (h:(Res.row T sz a n cap xs).holds w) (hn:0 < n):∃ g,a=some ⟨g,0,none⟩:=by
 obtain ⟨h1,h2,h3,h4⟩:=h;rcases h4 with h4 | ⟨g,rest,fz,h,_⟩
 ·
  omega
 exact ⟨g,h⟩
theorem Heap.readsBytes {w0:World}{B:LN}{G:List Res} (hH:Heap w0 B w G) (i:Nat) {E cap:Nat}{a:OA}{o:LB} (hi:G[i]? = some (Res.row E 1 a o.length cap (Ao o))):Sf w a o.length o :=
 Fw (As (hH.at i hi))
end
def A6 (ops:List Oper) (plan:List (Nat×Bool)):List (Bool×Oper):=plan.filterMap fun p=>(ops[p.1]?).map fun o=>(p.2,o)
def S6 (ops:Array Oper):List (Nat×Bool)->Array Bool->Bool
 | [],listed=>(Region.ready .any ops listed).isEmpty
 | (i,t)::plan,listed =>
  (decide (i < ops.size)) && (match t with
   | true=>Region.free .any ops listed i && (Region.ready .any ops listed).contains i
   | false=>Region.ready .any ops listed == [i]) && S6 ops plan (listed.setIfInBounds i true)
def pw (b:Bool) (w0 w:World):World:=match b with | true=>w0 | false=>w
def QF2 (P:Program) (N:Nat) (o:Oper) (e:Env) (w0 w:World) (R:Env->World->(Env->World->Prop)->Prop) (K:Env->World->Prop):Prop :=
 Mem P N o e w fun v w'=>Ext w0 w'/\R (e.put o.dst v) w' K
def K1 (P:Program) (N:Nat) (p b:Bool) (o:Oper) (e:Env) (w0 w:World) (R:Env->World->(Env->World->Prop)->Prop) (K:Env->World->Prop):Prop :=
 match p,b with
 | true,b=>Wp P o.op e (pw b w0 w) fun v=>R (e.put o.dst v) w K
 | false,false=>QF2 P N o e w0 w R K
 | false,true=>False
def Av (P:Program) (N:Nat) (ops:List Oper) (w0:World):List (Bool×Oper)->Env->World->(Env->World->Prop)->Prop
 | [],e,w,K=>K e w
 | (b,o)::rest,e,w,K=>M1 ops o.guard e
   (fun e=>K1 P N (Iw P o.op) b o e w0 w (Av P N ops w0 rest) K)
   (fun e=>Av P N ops w0 rest (e.put o.dst undef) w K)
theorem Qu7 {P:Program}{N:Nat}{ops:List Oper}{w0:World}{Q:Exit->Act->World->Prop}{K:Env->World->Prop} (hN:ops.all (Ct N)=true) (hsel:Region.noSelect ops.toArray=true)
  (hQ:∀ c a w (d:Option Tmp) v,Q (.panic c) (a.put d v) w->Q (.panic c) a w)
  (hK:∀ e a w n,Fits N e a->K e w->Q .normal a (w.drewN n)):∀ (plan:List (Nat×Bool)) (fuel:Nat) (listed:Array Bool) (e:Env) (a:Act) (w:World) (n:Nat),
   plan.length<=fuel->S6 ops.toArray plan listed=true->Fits N e a->Ext w0 w->Av P N ops w0 (A6 ops plan) e w K ->
   wpAnyH P .any ops.toArray Q (fun w'=>Ext w0 w') fuel listed a (w.drewN n):=by
 intro plan
 induction plan with
 | nil =>
  intro fuel listed e a w n _ hp ha _ h;simp only [S6,Xd] at hp;exact wpAnyH_done hp (hK e a w n ha h) fuel
 | cons p plan ih =>
  obtain ⟨i,t⟩:=p;intro fuel listed e a w n hf hp ha hx h;simp only [S6,Yd,decide_eq_true_eq] at hp;obtain ⟨⟨hi,hstep⟩,hp⟩:=hp;have hi':i < ops.length:=by simpa using hi
  obtain ⟨o,ho⟩:∃ o,ops[i]? = some o:=⟨ops[i],Yg hi'⟩;have hoa:ops.toArray[i]? = some o:=by simpa using ho
  have hod:Ct N o=true:=by
   rw [Y5] at hN;exact hN o (Yk ho)
  have hpl:A6 ops ((i,t)::plan)=(t,o)::A6 ops plan:=by simp [A6,ho]
  rw [hpl] at h;cases fuel with
  | zero=>simp at hf
  | succ fuel =>
  have hf':plan.length<=fuel:=by simpa using hf
  rcases Pf ha h with ⟨e',ha',h',hw⟩ | ⟨e',ha',h',hw⟩
  ·
   cases t with
   | true =>
    simp only [Yd] at hstep;have h':K1 P N (Iw P o.op) true o e' w0 w (Av P N ops w0 (A6 ops plan)) K:=h';cases hpo:Iw P o.op with
    | true =>
     rw [hpo] at h';simp only [K1,pw] at h';obtain ⟨v,hv,hr⟩:=Nh ha' h';refine wpAnyH_take hoa hsel hstep.1 hstep.2 (fun c a w=>hQ c a w o.dst v) (.inl ⟨hw,fun w' hw'=>hr w' hw'⟩) (hx.trans (Ext.drewN w n)) ?_;exact ih fuel _ _ _ w n hf' hp (ha'.put' hod v) hx hv
    | false=>rw [hpo] at h';exact h'.elim
   | false =>
    simp only [beq_iff_eq] at hstep;refine wpAnyH_all hstep (by simp) ?_;intro j hj;simp only [Yx] at hj;subst hj;unfold wpOp;simp only [hoa,hw,if_true];refine .inl ?_;have h':K1 P N (Iw P o.op) false o e' w0 w (Av P N ops w0 (A6 ops plan)) K:=h';cases hpo:Iw P o.op with
    | true =>
     rw [hpo] at h';simp only [K1,pw] at h';obtain ⟨v,hv,hr⟩:=Nh ha' h';unfold Oper.wp;rw [hr (w.drewN n) (Ext.drewN w n)];exact ⟨hx.trans (Ext.drewN w n),ih fuel _ _ _ w n hf' hp (ha'.put' hod v) hx hv⟩
    | false =>
     rw [hpo] at h';have h':QF2 P N o e' w0 w (Av P N ops w0 (A6 ops plan)) K:=h';exact h' a n _ Q ha' fun v w' m hv=>⟨hv.1.trans (Ext.drewN w' m),ih fuel _ _ _ w' m hf' hp (ha'.put' hod v) hv.1 hv.2⟩
  have hnext:wpAnyH P .any ops.toArray Q (fun w'=>Ext w0 w') fuel (listed.setIfInBounds i true) (a.put o.dst undef) (w.drewN n) :=
   ih fuel _ _ _ w n hf' hp (ha'.put' hod undef) hx h'
  cases t with
  | true =>
   simp only [Yd] at hstep;exact wpAnyH_take hoa hsel hstep.1 hstep.2 (fun c a w=>hQ c a w o.dst undef) (.inr ⟨hw,rfl⟩) (hx.trans (Ext.drewN w n)) hnext
  | false =>
   simp only [beq_iff_eq] at hstep;refine wpAnyH_all hstep (by simp) ?_;intro j hj;simp only [Yx] at hj;subst hj;unfold wpOp;simp only [hoa,hw,Yo,if_false];exact ⟨hx.trans (Ext.drewN w n),hnext⟩
theorem T4 {C:Kv}{k:List It}{c:List PanicEntry}{a:Act}{w:World} (d:Option Tmp) (v:Value) (h:Fg C k (.panic c) (a.put d v) w):Fg C k (.panic c) a w:=by
 induction k with
 | nil =>
  have h':bodyPost C.P C.fn (V8 C.F) (.panic c) (a.put d v) w:=h;obtain ⟨h1,h2⟩:=h';have h3:a.defers=[]:=by cases d <;> simpa [Act.put] using h1
  exact (⟨h3,h2⟩:bodyPost C.P C.fn (V8 C.F) (.panic c) a w)
 | cons x k ih=>cases x <;> exact ih h
theorem T5 {P:Program}{fn:Func}{F:Value->World->Prop}{N:Nat}{k:List It}{e:Env}{w:World} (w0:World) (hx:Ext w0 w) (ks:LN) (plan:List (Nat×Bool)) {id:Nat}{ops:List Oper}{l:List (Bool×Oper)}
  (hm:P.follows .mixedOrders=true) (hB:(S6 ops.toArray plan (Array.replicate ops.toArray.size false) && Region.noSelect ops.toArray && decide (plan.length<=ops.length))=true) (hN:ops.all (Ct N)=true) (hl:A6 ops plan=l)
  (h:∀ K:Env->World->Prop,(∀ e w,VC ⟨P,fn,F,N⟩ k e w->K e w)->Av P N ops w0 l e w (Dh ks K)):VC ⟨P,fn,F,N⟩ (.code (.region id ops.toArray true)::k) e w:=by
 intro a n ha;simp only [Yd,decide_eq_true_eq] at hB;obtain ⟨⟨hB1,hB2⟩,hB3⟩:=hB;refine wp_region_held (S:=fun w'=>Ext w0 w') hm ?_;subst hl;refine Qu7 (K:=Dh ks (VC ⟨P,fn,F,N⟩ k)) hN hB2 (fun c a w d v hq=>T4 d v hq) (fun e a w n ha hv=>?_) plan _ _ e a w (n+1) (by simpa using hB3) hB1 ha hx (h _ fun _ _ hv=>hv);exact ((Kj ks e _).1 hv) a n (ha.sel ks)
theorem Upd.ext {w w':World} (h:Upd [] w w'):Ext w w':=.of_keep fun k hk=>h.block k hk (by simp)
theorem Upd.extH {B:LN}{w w':World} (h:Upd B w w'):Ext (holes B w) w':=.holes fun k hk hB=>h.block k hk hB
theorem Heap.ext {w w':World}{G:List Res} (h:Heap w [] w' G):Ext w w':=h.upd.ext
theorem Ext.alloc (w:World) (o:Obj):Ext w (w.alloc o):=.of_keep fun k hk=>RowKit.Below.heap_alloc w o k hk
theorem Qu8 {C:Kv}{k:List It}{l:Nat}{a:Act}{w:World} (h:Fg C k (.goto l) a w):False:=by
 induction k with
 | nil=>exact h
 | cons x k ih=>cases x <;> exact ih h
theorem Qyn {C:Kv}{k:List It}{e:Env}{w:World}{c:Code} (h:VC C (.code c::k) e w):VC C (.code (.scope c)::k) e w:=by
 intro a n ha;have h1:=h a n ha;simp only [Fg] at h1 ⊢;refine wp_scope_straight (wp_mono h1 fun ex a w hq=>?_);cases ex with
 | goto l=>exact (Qu8 hq).elim
 | _=>exact hq
section
variable {P:Program}{N:Nat}{d:Option Tmp}{ty:Nat}{pos:String}{af:Array Edge}{gd:Option (Nat×Bool)}{e:Env}{w:World}{R:Env->World->(Env->World->Prop)->Prop}{K:Env->World->Prop}
def QA1 (P:Program) (ts:Array TypeId) (ty:TypeId) (vs:LV) (w:World) (C:Value->World->Prop):Prop :=
 ∀ n,∃ v w' m,(Builtin.copy_ ts ty vs.toArray).run P (w.drewN n)=.ok v (w'.drewN m)/\C v w'
theorem Qdy {az:Array Operand}{ts:Array TypeId} (h:Cz e az.toList fun vs=>QA1 P ts ty vs w fun v w'=>R (e.put d v) w' K) :
  B9 P N ⟨d,.call { callee:=.builtin .copy,args:=az,argTypes:=ts },ty,pos,af,gd⟩ e w R K :=
 Ki fun a n ha=>by
  obtain ⟨v,w',m,hr,hC⟩:=Lt (K:=fun vs=>QA1 P ts ty vs w fun v w'=>R (e.put d v) w' K) ha h n;refine ⟨v,w',m,?_,hC⟩;simp only [execOp,resolve,invoke,builtin,Nl,Yc,Yb,Ya,hr]
theorem Vg {w0:World}{B:LN}{G:List Res} (hH:Heap w0 B w G) (i:Nat) {T T' E ty:TypeId}{sz:Nat}{ad ap:Addr}{n cap m dl c off:Nat}{xs news:LV}{x:Value}{C:Value->World->Prop}
  (hi:G[i]? = some (Res.row E sz (some ad) n cap xs)) (hu:P.underlying T=some (.slice E)) (hz:P.szo E=some sz) (hp:ap=ad.add off)
  (hs:Src P w x T' sz m news) (h1:∀ u∈news,u.oneCell'=true) (hoff:off+min m dl * sz<=xs.length)
  (h:∀ w',Upd [ad.block] w w'->Heap w0 B w' (G.set i (Res.row E sz (some ad) n cap (xs.take off++news.take (min m dl * sz)++xs.drop (off+min m dl * sz))))->C (.int .i64 (min m dl:Nat)) w') :
  QA1 P #[T,T'] ty [.slice (some ap) dl c,x] w C:=by
 intro k;obtain ⟨hxl,hnc,hcm,hcase⟩:=hH.at i hi;rcases hcase with hcase | ⟨g,rest,fz,hg0,hg,hl2,hfz⟩
 ·
  cases hcase.1
 cases hg0;subst hp;have hlt:g < w.heap.size:=(Array.getElem?_eq_some_iff.1 hg).1;obtain ⟨hnl,hlen,_,_⟩:=hs.spec
 have hfirst:(Builtin.firstCells sz (min m dl) x).run P (w.drewN k)=.ok (news.take (min m dl * sz)).toArray (w.drewN k):=by
  cases x with
  | slice a k' c' =>
   obtain ⟨rfl,⟨hr1,hr2,hr3⟩,_⟩:=hs;cases a with
   | none =>
    have hk0:=hr2 rfl;subst hk0;simp [Builtin.firstCells]
   | some ad' =>
    refine run_firstCells_some (P:=P) _ sz (min k' dl) ad' k' c' _ ?_ fun j v hv=>?_
    ·
     rw [Yt,hr1];exact Y7 (Yl _ (Nat.min_le_left _ _))
    rw [X7] at hv;split at hv
    ·
     exact (hr3 ad' rfl).heap (w':=w.drewN k) rfl j v hv
    cases hv
  | string s =>
   obtain ⟨rfl,rfl,rfl,_⟩:=hs;simp only [Builtin.firstCells,Yb,Ty,Xe,Ao,A8]
   congr 1
   apply Array.ext';simp [List.map_take]
  | _=>exact hs.elim
 have hadd:(⟨g,0,none⟩:Addr).add off=⟨g,off,none⟩:=by unfold Addr.add;split <;> simp_all
 have hnt:(news.take (min m dl * sz)).length=min m dl * sz:=by
  rw [Yt,hnl];exact Y7 (Yl _ (Nat.min_le_left _ _))
 have hst:=W2 (P:=P) g off E fz (news.take (min m dl * sz)) 0 (xs++rest) (w.drewN k) hg (by rw [hl2];exact hfz) (by rw [hnt];simp;omega) (fun u hu=>h1 u (List.mem_of_mem_take hu))
 have hcells:(xs++rest).take (off+0)++news.take (min m dl * sz)++(xs++rest).drop (off+0+(news.take (min m dl * sz)).length)=(xs.take off++news.take (min m dl * sz)++xs.drop (off+min m dl * sz))++rest:=by
  rw [hnt,Xz,Xf (by omega),Xg (by omega)];simp
 rw [hcells] at hst;have hso:=I7 (P:=P) hz;refine ⟨.int .i64 (min m dl:Nat),F0 w g ((xs.take off++news.take (min m dl * sz)++xs.drop (off+min m dl * sz))++rest) E fz,k,?_,h _ (Qv _ _ _ _ _) (hH.set i hi (Qv _ _ _ _ _) ⟨?_,hnc,hcm,.inr ⟨g,rest,fz,rfl,Qx hlt,?_,hfz⟩⟩ ?_)⟩
 ·
  have hmin:Nat.min m dl=min m dl:=rfl;simp [Builtin.copy_,run_underlying hu,hlen,hso,hmin,hfirst,hadd,hst,W6,goInt]
 ·
  rw [Yf,Yf,hnt,Yt,Xu,<- hxl];omega
 ·
  rw [Yf,Yf,Yf,hnt,Yt,Xu];rw [Yf] at hl2;omega
 intro b hb;exact ⟨.inl hb,by rw [Sc];simp [Res.row] at hb;omega⟩
end
def Na (w0:World) (R:Env->World->(Env->World->Prop)->Prop):Env->World->(Env->World->Prop)->Prop:=fun e w K=>Ext w0 w/\R e w K
section
variable {P:Program}{N:Nat}{ops:List Oper}{rest:List (Bool×Oper)}{d:Option Tmp}{r t ty:Nat}{op:Op}{pos:String}{af:Array Edge}{e:Env}{w w0:World}{K:Env->World->Prop}
theorem QH0 (ks:LN):Av P N ops w0 [] e w (Dh ks K)=Ep ks e fun e=>K e w:=rfl
theorem Mi {R:Env->World->(Env->World->Prop)->Prop}:Na w0 R e w K=(Ext w0 w/\R e w K):=rfl
theorem QQ0:pw true w0 w=w0:=rfl
theorem QQ1:pw false w0 w=w:=rfl
theorem QH1 (x:Operand) (bf:Bool):Av P N ops w0 ((bf,⟨some r,.move x,ty,pos,af,none⟩)::rest) e w K=Am e x (fun v=>Av P N ops w0 rest ((r,v)::e) w K):=rfl
theorem QCh (x:Operand) (bf:Bool) (jj:Nat) (bb:Bool):Av P N ops w0 ((bf,⟨some r,.move x,ty,pos,af,some (jj,bb)⟩)::rest) e w K=B8 ops jj bb e (fun e=>Am e x (fun v=>Av P N ops w0 rest ((r,v)::e) w K)) (fun e=>Av P N ops w0 rest ((r,undef)::e) w K):=by rw [<- Cv];rfl
theorem Qyo (x:Operand) (bf:Bool):Av P N ops w0 ((bf,⟨some r,.assign x,ty,pos,af,none⟩)::rest) e w K=Am e x (fun v=>Av P N ops w0 rest ((r,v)::e) w K):=rfl
theorem QH2 (c x y:Operand) (bf:Bool):Av P N ops w0 ((bf,⟨some r,.pick c x y,ty,pos,af,none⟩)::rest) e w K=Am e c fun vc=>M5 vc (Am e x (fun v=>Av P N ops w0 rest ((r,v)::e) w K)) (Am e y (fun v=>Av P N ops w0 rest ((r,v)::e) w K)):=rfl
theorem QCi (c x y:Operand) (bf:Bool) (jj:Nat) (bb:Bool):Av P N ops w0 ((bf,⟨some r,.pick c x y,ty,pos,af,some (jj,bb)⟩)::rest) e w K=B8 ops jj bb e (fun e=>Am e c fun vc=>M5 vc (Am e x (fun v=>Av P N ops w0 rest ((r,v)::e) w K)) (Am e y (fun v=>Av P N ops w0 rest ((r,v)::e) w K))) (fun e=>Av P N ops w0 rest ((r,undef)::e) w K):=by rw [<- Cv];rfl
theorem QCj (op:BinOp) (T T':TypeId) (x y:Operand) (bf:Bool):Av P N ops w0 ((bf,⟨some r,.binOp op T x y T',ty,pos,af,none⟩)::rest) e w K=Am e x fun a=>Am e y fun b=>A3 P op T x y a b (pw bf w0 w) (fun v=>Av P N ops w0 rest ((r,v)::e) w K):=rfl
theorem Qyp (op:BinOp) (T T':TypeId) (x y:Operand) (bf:Bool) (jj:Nat) (bb:Bool):Av P N ops w0 ((bf,⟨some r,.binOp op T x y T',ty,pos,af,some (jj,bb)⟩)::rest) e w K=B8 ops jj bb e (fun e=>Am e x fun a=>Am e y fun b=>A3 P op T x y a b (pw bf w0 w) (fun v=>Av P N ops w0 rest ((r,v)::e) w K)) (fun e=>Av P N ops w0 rest ((r,undef)::e) w K):=by rw [<- Cv];rfl
theorem QH3 (op:UnOp) (T:TypeId) (x:Operand) (bf:Bool):Av P N ops w0 ((bf,⟨some r,.unOp op T x,ty,pos,af,none⟩)::rest) e w K=Am e x fun a=>Md op a (fun v=>Av P N ops w0 rest ((r,v)::e) w K):=rfl
theorem QCk (op:UnOp) (T:TypeId) (x:Operand) (bf:Bool) (jj:Nat) (bb:Bool):Av P N ops w0 ((bf,⟨some r,.unOp op T x,ty,pos,af,some (jj,bb)⟩)::rest) e w K=B8 ops jj bb e (fun e=>Am e x fun a=>Md op a (fun v=>Av P N ops w0 rest ((r,v)::e) w K)) (fun e=>Av P N ops w0 rest ((r,undef)::e) w K):=by rw [<- Cv];rfl
theorem Qaw (s d:TypeId) (x:Operand) (bf:Bool):Av P N ops w0 ((bf,⟨some r,.convert s d x,ty,pos,af,none⟩)::rest) e w K=K1 P N (Dj P s d) bf ⟨some r,.convert s d x,ty,pos,af,none⟩ e w0 w (Av P N ops w0 rest) K:=rfl
theorem Qu9 (s d:TypeId) (x:Operand) (bf:Bool) (hc:Dj P s d=true):Av P N ops w0 ((bf,⟨some r,.convert s d x,ty,pos,af,none⟩)::rest) e w K=Am e x fun a=>D9 P s d a (pw bf w0 w) (fun v=>Av P N ops w0 rest ((r,v)::e) w K):=by rw [Qaw,hc];rfl
theorem Qqy (s d:TypeId) (x:Operand) (hc:Dj P s d=false):Av P N ops w0 ((false,⟨some r,.convert s d x,ty,pos,af,none⟩)::rest) e w K=B9 P N ⟨some r,.convert s d x,ty,pos,af,none⟩ e w (Na w0 (Av P N ops w0 rest)) K:=by rw [Qaw,hc];rfl
theorem Qfv (s d:TypeId) (x:Operand) (bf:Bool) (jj:Nat) (bb:Bool):Av P N ops w0 ((bf,⟨some r,.convert s d x,ty,pos,af,some (jj,bb)⟩)::rest) e w K=B8 ops jj bb e (fun e=>K1 P N (Dj P s d) bf ⟨some r,.convert s d x,ty,pos,af,some (jj,bb)⟩ e w0 w (Av P N ops w0 rest) K) (fun e=>Av P N ops w0 rest ((r,undef)::e) w K):=by rw [<- Cv];rfl
theorem Qqz (s d:TypeId) (x:Operand) (bf:Bool) (jj:Nat) (bb:Bool) (hc:Dj P s d=true):Av P N ops w0 ((bf,⟨some r,.convert s d x,ty,pos,af,some (jj,bb)⟩)::rest) e w K=B8 ops jj bb e (fun e=>Am e x fun a=>D9 P s d a (pw bf w0 w) (fun v=>Av P N ops w0 rest ((r,v)::e) w K)) (fun e=>Av P N ops w0 rest ((r,undef)::e) w K):=by rw [Qfv,hc];rfl
theorem QCl (T:TypeId) (x:Operand) (lo hi:Option Operand) (bf:Bool):Av P N ops w0 ((bf,⟨some r,.slice T x lo hi none,ty,pos,af,none⟩)::rest) e w K=Am e x fun a=>Kr e lo fun l=>Kr e hi fun h=>Cg P T a l h (fun v=>Av P N ops w0 rest ((r,v)::e) w K):=rfl
theorem Qno (S:TypeId) (x:Operand) (f:Nat) (bf:Bool):Av P N ops w0 ((bf,⟨some r,.fieldAddr S x f,ty,pos,af,none⟩)::rest) e w K=Am e x fun a=>Ba P S a f (fun v=>Av P N ops w0 rest ((r,v)::e) w K):=rfl
theorem Qlg (S:TypeId) (x:Operand) (f:Nat) (bf:Bool) (jj:Nat) (bb:Bool):Av P N ops w0 ((bf,⟨some r,.fieldAddr S x f,ty,pos,af,some (jj,bb)⟩)::rest) e w K=B8 ops jj bb e (fun e=>Am e x fun a=>Ba P S a f (fun v=>Av P N ops w0 rest ((r,v)::e) w K)) (fun e=>Av P N ops w0 rest ((r,undef)::e) w K):=by rw [<- Cv];rfl
theorem Qnp (T:TypeId) (x i:Operand) (bf:Bool):Av P N ops w0 ((bf,⟨some r,.indexAddr T x i,ty,pos,af,none⟩)::rest) e w K=Am e x fun a=>Am e i fun n=>Cu P T a n (fun v=>Av P N ops w0 rest ((r,v)::e) w K):=rfl
theorem Qlh (T:TypeId) (x i:Operand) (bf:Bool) (jj:Nat) (bb:Bool):Av P N ops w0 ((bf,⟨some r,.indexAddr T x i,ty,pos,af,some (jj,bb)⟩)::rest) e w K=B8 ops jj bb e (fun e=>Am e x fun a=>Am e i fun n=>Cu P T a n (fun v=>Av P N ops w0 rest ((r,v)::e) w K)) (fun e=>Av P N ops w0 rest ((r,undef)::e) w K):=by rw [<- Cv];rfl
theorem QCm (T:TypeId) (x i:Operand) (bf:Bool):Av P N ops w0 ((bf,⟨some r,.index T x i,ty,pos,af,none⟩)::rest) e w K=Am e x fun a=>Am e i fun n=>E7 P T a n (fun v=>Av P N ops w0 rest ((r,v)::e) w K):=rfl
theorem Qyq (T:TypeId) (x i:Operand) (bf:Bool) (jj:Nat) (bb:Bool):Av P N ops w0 ((bf,⟨some r,.index T x i,ty,pos,af,some (jj,bb)⟩)::rest) e w K=B8 ops jj bb e (fun e=>Am e x fun a=>Am e i fun n=>E7 P T a n (fun v=>Av P N ops w0 rest ((r,v)::e) w K)) (fun e=>Av P N ops w0 rest ((r,undef)::e) w K):=by rw [<- Cv];rfl
theorem Qva (x:Operand) (i:Nat) (bf:Bool):Av P N ops w0 ((bf,⟨some r,.extract x i,ty,pos,af,none⟩)::rest) e w K=Am e x fun a=>Sp a i (fun v=>Av P N ops w0 rest ((r,v)::e) w K):=rfl
theorem QCn (T:TypeId) (ps:Array (Nat×Operand)) (bf:Bool):Av P N ops w0 ((bf,⟨some r,.build T ps,ty,pos,af,none⟩)::rest) e w K=Le e ps.toList fun vs=>Ca P T vs (fun v=>Av P N ops w0 rest ((r,v)::e) w K):=rfl
theorem Qyr (T:TypeId) (ps:Array (Nat×Operand)) (bf:Bool) (jj:Nat) (bb:Bool):Av P N ops w0 ((bf,⟨some r,.build T ps,ty,pos,af,some (jj,bb)⟩)::rest) e w K=B8 ops jj bb e (fun e=>Le e ps.toList fun vs=>Ca P T vs (fun v=>Av P N ops w0 rest ((r,v)::e) w K)) (fun e=>Av P N ops w0 rest ((r,undef)::e) w K):=by rw [<- Cv];rfl
theorem QH4 (T:TypeId) (x:Operand) (bf:Bool):Av P N ops w0 ((bf,⟨some r,.load T x,ty,pos,af,none⟩)::rest) e w K=Am e x fun a=>Bf P T a (pw bf w0 w) (fun v=>Av P N ops w0 rest ((r,v)::e) w K):=rfl
theorem QCo (T:TypeId) (x:Operand) (bf:Bool) (jj:Nat) (bb:Bool):Av P N ops w0 ((bf,⟨some r,.load T x,ty,pos,af,some (jj,bb)⟩)::rest) e w K=B8 ops jj bb e (fun e=>Am e x fun a=>Bf P T a (pw bf w0 w) (fun v=>Av P N ops w0 rest ((r,v)::e) w K)) (fun e=>Av P N ops w0 rest ((r,undef)::e) w K):=by rw [<- Cv];rfl
theorem Qq0 (x:Operand) (bf:Bool):Av P N ops w0 ((bf,⟨some r,.nilCheck x,ty,pos,af,none⟩)::rest) e w K=Am e x fun a=>Mq a (fun v=>Av P N ops w0 rest ((r,v)::e) w K):=rfl
theorem Qnq (x:Operand) (bf:Bool) (jj:Nat) (bb:Bool):Av P N ops w0 ((bf,⟨some r,.nilCheck x,ty,pos,af,some (jj,bb)⟩)::rest) e w K=B8 ops jj bb e (fun e=>Am e x fun a=>Mq a (fun v=>Av P N ops w0 rest ((r,v)::e) w K)) (fun e=>Av P N ops w0 rest ((r,undef)::e) w K):=by rw [<- Cv];rfl
theorem QMu (az:Array Operand) (ts:Array TypeId) (bf:Bool):Av P N ops w0 ((bf,⟨some r,.call { callee:=.builtin .len,args:=az,argTypes:=ts },ty,pos,af,none⟩)::rest) e w K=Cz e az.toList fun vs=>Py P ts[0]? vs (fun v=>Av P N ops w0 rest ((r,v)::e) w K):=rfl
theorem QH5 (az:Array Operand) (ts:Array TypeId) (bf:Bool) (jj:Nat) (bb:Bool):Av P N ops w0 ((bf,⟨some r,.call { callee:=.builtin .len,args:=az,argTypes:=ts },ty,pos,af,some (jj,bb)⟩)::rest) e w K=B8 ops jj bb e (fun e=>Cz e az.toList fun vs=>Py P ts[0]? vs (fun v=>Av P N ops w0 rest ((r,v)::e) w K)) (fun e=>Av P N ops w0 rest ((r,undef)::e) w K):=by rw [<- Cv];rfl
theorem Qys (az:Array Operand) (ts:Array TypeId):Av P N ops w0 ((false,⟨d,.call { callee:=.builtin .append,args:=az,argTypes:=ts },ty,pos,af,none⟩)::rest) e w K=B9 P N ⟨d,.call { callee:=.builtin .append,args:=az,argTypes:=ts },ty,pos,af,none⟩ e w (Na w0 (Av P N ops w0 rest)) K:=rfl
theorem QH6 (az:Array Operand) (ts:Array TypeId):Av P N ops w0 ((false,⟨d,.call { callee:=.builtin .copy,args:=az,argTypes:=ts },ty,pos,af,none⟩)::rest) e w K=B9 P N ⟨d,.call { callee:=.builtin .copy,args:=az,argTypes:=ts },ty,pos,af,none⟩ e w (Na w0 (Av P N ops w0 rest)) K:=rfl
theorem QCp (x:Operand) (az:Array Operand) (ts:Array TypeId):Av P N ops w0 ((false,⟨d,.call { callee:=.value x,args:=az,argTypes:=ts },ty,pos,af,none⟩)::rest) e w K=B9 P N ⟨d,.call { callee:=.value x,args:=az,argTypes:=ts },ty,pos,af,none⟩ e w (Na w0 (Av P N ops w0 rest)) K:=rfl
theorem Qyt (x:Operand) (az:Array Operand) (ts:Array TypeId) (jj:Nat) (bb:Bool):Av P N ops w0 ((false,⟨d,.call { callee:=.value x,args:=az,argTypes:=ts },ty,pos,af,some (jj,bb)⟩)::rest) e w K=B8 ops jj bb e (fun e=>B9 P N ⟨d,.call { callee:=.value x,args:=az,argTypes:=ts },ty,pos,af,some (jj,bb)⟩ e w (Na w0 (Av P N ops w0 rest)) K) (fun e=>Av P N ops w0 rest (e.put d undef) w K):=by rw [<- Cv];rfl
theorem QCq (T:TypeId):Av P N ops w0 ((false,⟨d,.alloc T,ty,pos,af,none⟩)::rest) e w K=B9 P N ⟨d,.alloc T,ty,pos,af,none⟩ e w (Na w0 (Av P N ops w0 rest)) K:=rfl
theorem Qli (T:TypeId) (n:Nat) (ps:Array (Nat×Operand)):Av P N ops w0 ((false,⟨d,.buildSlice T n ps,ty,pos,af,none⟩)::rest) e w K=B9 P N ⟨d,.buildSlice T n ps,ty,pos,af,none⟩ e w (Na w0 (Av P N ops w0 rest)) K:=rfl
theorem QCr (T:TypeId) (x y:Operand):Av P N ops w0 ((false,⟨d,.store T x y,ty,pos,af,none⟩)::rest) e w K=B9 P N ⟨d,.store T x y,ty,pos,af,none⟩ e w (Na w0 (Av P N ops w0 rest)) K:=rfl
theorem Qnr (T:TypeId) (x y:Operand):Av P N ops w0 ((false,⟨d,.makeSlice T x y,ty,pos,af,none⟩)::rest) e w K=B9 P N ⟨d,.makeSlice T x y,ty,pos,af,none⟩ e w (Na w0 (Av P N ops w0 rest)) K:=rfl
end
theorem tn1 (a b:Nat):((a:Int)+(b:Int)).toNat=a+b:=by omega
theorem tn2 (a:Nat):(a:Int).toNat=a:=by omega
theorem tn3 (a k:Nat):((a:Int)+(no_index (OfNat.ofNat k:Int))).toNat=a+(OfNat.ofNat k:Nat):=Xn (a+k)
theorem tn5 (a b:Nat):((a:Int) - (b:Int)).toNat=a - b:=by omega
theorem tn4 (a k:Nat):((a:Int) - (no_index (OfNat.ofNat k:Int))).toNat=a - (OfNat.ofNat k:Nat):=tn5 a k
attribute [go_sem] tn1 tn2 tn3 tn4 tn5
attribute [go_sem ↓] QH0 Mi QQ0 QQ1 QH1 QCh Qyo QH2 QCi QCj Qyp QH3 QCk Qu9 Qqy Qqz QCl Qno Qlg Qnp Qlh QCm Qyq Qva QCn Qyr QH4 QCo Qq0 Qnq QMu QH5 Qys QH6 QCp Qyt QCq Qli QCr Qnr
def Ko (ops:Array Oper):List (Nat×Bool)->Array Bool->Option (Array Bool)
 | [],listed=>some listed
 | (i,t)::plan,listed =>
  if (decide (i < ops.size) && (match t with
   | true=>Region.free .any ops listed i && (Region.ready .any ops listed).contains i
   | false=>Region.ready .any ops listed == [i]))=true then Ko ops plan (listed.setIfInBounds i true) else none
theorem Qyu {α:Type}{c:Prop} [Decidable c] {a:Option α}{x:α} (h:(if c then a else none)=some x):c/\a=some x:=by
 by_cases hc:c
 ·
  rw [if_pos hc] at h;exact ⟨hc,h⟩
 rw [if_neg hc] at h;cases h
inductive L7 where
 | seq (pre:List (Nat×Bool)):L7
 | two (pre:List (Nat×Bool)) (i j:Nat) (k k':L7):L7
def M2 (ops:Array Oper):L7->Nat->Array Bool->Bool
 | .seq pre,fuel,listed=>decide (pre.length<=fuel) && match Ko ops pre listed with
  | some l=>(Region.ready .any ops l).isEmpty
  | none=>false
 | .two pre i j k k',fuel,listed=>decide (pre.length+1<=fuel) && match Ko ops pre listed with
  | some l=>Region.ready .any ops l == [i,j] && decide (i < ops.size) && decide (j < ops.size) && M2 ops k (fuel - pre.length - 1) (l.setIfInBounds i true) && M2 ops k' (fuel - pre.length - 1) (l.setIfInBounds j true)
  | none=>false
def Qd (P:Program) (N:Nat) (ops:List Oper) (w0:World):L7->Env->World->(Env->World->Prop)->Prop
 | .seq pre,e,w,K=>Av P N ops w0 (A6 ops pre) e w K
 | .two pre i j k k',e,w,K=>Av P N ops w0 (A6 ops pre) e w fun e w =>
   Av P N ops w0 (A6 ops [(i,false)]) e w (fun e w=>Qd P N ops w0 k e w K)/\Av P N ops w0 (A6 ops [(j,false)]) e w (fun e w=>Qd P N ops w0 k' e w K)
section
variable {P:Program}{N:Nat}{ops:List Oper}{w0:World}{Q:Exit->Act->World->Prop}
theorem Nn {K:Env->World->Prop} (hN:ops.all (Ct N)=true) {i:Nat} (hi:i < ops.length) {R:Act->World->Prop}{e:Env}{a:Act}{w:World}{n:Nat} (ha:Fits N e a) (hx:Ext w0 w)
  (h:Av P N ops w0 (A6 ops [(i,false)]) e w K) (hR:∀ e a w n,Fits N e a->Ext w0 w->K e w->R a (w.drewN n)):wpOp P ops.toArray Q i R a (w.drewN n):=by
 obtain ⟨o,ho⟩:∃ o,ops[i]? = some o:=⟨ops[i],Yg hi⟩;have hoa:ops.toArray[i]? = some o:=by simpa using ho
 have hod:Ct N o=true:=by
  rw [Y5] at hN;exact hN o (Yk ho)
 have hpl:A6 ops [(i,false)]=[(false,o)]:=by simp [A6,ho]
 rw [hpl] at h;rcases Pf ha h with ⟨e',ha',h',hw⟩ | ⟨e',ha',h',hw⟩
 ·
  unfold wpOp;simp only [hoa,hw,if_true];refine .inl ?_;have h':K1 P N (Iw P o.op) false o e' w0 w (Av P N ops w0 []) K:=h';cases hpo:Iw P o.op with
  | true =>
   rw [hpo] at h';simp only [K1,pw] at h';obtain ⟨v,hv,hr⟩:=Nh ha' h';unfold Oper.wp;rw [hr (w.drewN n) (Ext.drewN w n)];exact hR _ _ w n (ha'.put' hod v) hx hv
  | false =>
   rw [hpo] at h';have h':QF2 P N o e' w0 w (Av P N ops w0 []) K:=h';exact h' a n _ Q ha' fun v w' m hv=>hR _ _ w' m (ha'.put' hod v) hv.1 hv.2
 unfold wpOp;simp only [hoa,hw,Yo,if_false];exact hR _ _ w n (ha'.put' hod undef) hx h'
theorem Q0 {K:Env->World->Prop} (hN:ops.all (Ct N)=true) (hsel:Region.noSelect ops.toArray=true)
  (hQ:∀ c a w (d:Option Tmp) v,Q (.panic c) (a.put d v) w->Q (.panic c) a w):∀ (plan:List (Nat×Bool)) (fuel:Nat) (listed l':Array Bool) (e:Env) (a:Act) (w:World) (n:Nat),
   plan.length<=fuel->Ko ops.toArray plan listed=some l'->Fits N e a->Ext w0 w->Av P N ops w0 (A6 ops plan) e w K ->
   (∀ e a w n,Fits N e a->Ext w0 w->K e w->wpAnyH P .any ops.toArray Q (fun w'=>Ext w0 w') (fuel - plan.length) l' a (w.drewN n)) ->
   wpAnyH P .any ops.toArray Q (fun w'=>Ext w0 w') fuel listed a (w.drewN n):=by
 intro plan
 induction plan with
 | nil =>
  intro fuel listed l' e a w n _ hp ha hx h hK;simp only [Ko,Option.some.injEq] at hp;subst hp;exact hK e a w n ha hx h
 | cons p plan ih =>
  obtain ⟨i,t⟩:=p;intro fuel listed l' e a w n hf hp ha hx h hK;simp only [Ko] at hp;obtain ⟨hstep,hp2⟩:=Qyu hp;clear hp;simp only [Yd,decide_eq_true_eq] at hstep;obtain ⟨hi,hstep⟩:=hstep;have hi':i < ops.length:=by simpa using hi
  obtain ⟨o,ho⟩:∃ o,ops[i]? = some o:=⟨ops[i],Yg hi'⟩;have hoa:ops.toArray[i]? = some o:=by simpa using ho
  have hod:Ct N o=true:=by
   rw [Y5] at hN;exact hN o (Yk ho)
  have hpl:A6 ops ((i,t)::plan)=(t,o)::A6 ops plan:=by simp [A6,ho]
  cases fuel with
  | zero=>simp at hf
  | succ fuel =>
  have hf':plan.length<=fuel:=by simpa using hf
  have hK':∀ e a w n,Fits N e a->Ext w0 w->K e w->wpAnyH P .any ops.toArray Q (fun w'=>Ext w0 w') (fuel - plan.length) l' a (w.drewN n):=by
   intro e a w n h1 h2 h3;have:=hK e a w n h1 h2 h3;simpa using this
  cases t with
  | true =>
   rw [hpl] at h;simp only [Yd] at hstep;rcases Pf ha h with ⟨e',ha',h',hw⟩ | ⟨e',ha',h',hw⟩
   ·
    have h':K1 P N (Iw P o.op) true o e' w0 w (Av P N ops w0 (A6 ops plan)) K:=h';cases hpo:Iw P o.op with
    | true =>
     rw [hpo] at h';simp only [K1,pw] at h';obtain ⟨v,hv,hr⟩:=Nh ha' h';refine wpAnyH_take hoa hsel hstep.1 hstep.2 (fun c a w=>hQ c a w o.dst v) (.inl ⟨hw,fun w' hw'=>hr w' hw'⟩) (hx.trans (Ext.drewN w n)) ?_;exact ih fuel _ _ _ _ w n hf' hp2 (ha'.put' hod v) hx hv hK'
    | false=>rw [hpo] at h';exact h'.elim
   exact wpAnyH_take hoa hsel hstep.1 hstep.2 (fun c a w=>hQ c a w o.dst undef) (.inr ⟨hw,rfl⟩) (hx.trans (Ext.drewN w n)) (ih fuel _ _ _ _ w n hf' hp2 (ha'.put' hod undef) hx h' hK')
  | false =>
   simp only [beq_iff_eq] at hstep;refine wpAnyH_all hstep (by simp) ?_;intro j hj;simp only [Yx] at hj;subst hj
   have h2:Av P N ops w0 (A6 ops [(j,false)]) e w (fun e w=>Av P N ops w0 (A6 ops plan) e w K):=by
    rw [hpl] at h;have hp1:A6 ops [(j,false)]=[(false,o)]:=by simp [A6,ho]
    rw [hp1];exact h
   exact Nn hN hi' ha hx h2 fun e a w n h1 h2 h3=>⟨h2.trans (Ext.drewN w n),ih fuel _ _ _ _ w n hf' hp2 h1 h2 h3 hK'⟩
theorem Qjz {K:Env->World->Prop} (hN:ops.all (Ct N)=true) (hsel:Region.noSelect ops.toArray=true)
  (hQ:∀ c a w (d:Option Tmp) v,Q (.panic c) (a.put d v) w->Q (.panic c) a w)
  (hK:∀ e a w n,Fits N e a->K e w->Q .normal a (w.drewN n)):∀ (t:L7) (fuel:Nat) (listed:Array Bool) (e:Env) (a:Act) (w:World) (n:Nat),
   M2 ops.toArray t fuel listed=true->Fits N e a->Ext w0 w->Qd P N ops w0 t e w K ->
   wpAnyH P .any ops.toArray Q (fun w'=>Ext w0 w') fuel listed a (w.drewN n):=by
 intro t
 induction t with
 | seq pre =>
  intro fuel listed e a w n ht ha hx h;simp only [M2,Yd,decide_eq_true_eq] at ht;obtain ⟨hf,ht⟩:=ht;cases hp:Ko ops.toArray pre listed with
  | none=>rw [hp] at ht;cases ht
  | some l =>
   rw [hp] at ht;simp only [Xd] at ht;exact Q0 hN hsel hQ pre fuel listed l e a w n hf hp ha hx h fun e a w n h1 _ h3=>wpAnyH_done ht (hK e a w n h1 h3) _
 | two pre i j k k' ihk ihk' =>
  intro fuel listed e a w n ht ha hx h;simp only [M2,Yd,decide_eq_true_eq] at ht;obtain ⟨hf,ht⟩:=ht;cases hp:Ko ops.toArray pre listed with
  | none=>rw [hp] at ht;cases ht
  | some l =>
   rw [hp] at ht;simp only [Yd,beq_iff_eq,decide_eq_true_eq] at ht;obtain ⟨⟨⟨⟨hr,hi⟩,hj⟩,h1⟩,h2⟩:=ht;refine Q0 hN hsel hQ pre fuel listed l e a w n (by omega) hp ha hx h fun e a w n g1 g2 g3=>?_;obtain ⟨m,hm⟩:∃ m,fuel - pre.length=m+1:=⟨fuel - pre.length - 1,by omega⟩;rw [hm];have hm':fuel - pre.length - 1=m:=by omega
   rw [hm'] at h1 h2;refine wpAnyH_all hr (by simp) ?_;intro x hx2;simp only [Ys,Xv,or_false] at hx2;rcases hx2 with rfl | rfl
   ·
    exact Nn hN (by simpa using hi) g1 g2 g3.1 fun e a w n f1 f2 f3=>⟨f2.trans (Ext.drewN w n),ihk m _ e a w n h1 f1 f2 f3⟩
   exact Nn hN (by simpa using hj) g1 g2 g3.2 fun e a w n f1 f2 f3=>⟨f2.trans (Ext.drewN w n),ihk' m _ e a w n h2 f1 f2 f3⟩
end
theorem Qq1 {P:Program}{fn:Func}{F:Value->World->Prop}{N:Nat}{k:List It}{e:Env}{w:World} (w0:World) (hx:Ext w0 w) (ks:LN) (t:L7) {id:Nat}{ops:List Oper}
  (hm:P.follows .mixedOrders=true) (hB:(M2 ops.toArray t ops.toArray.size (Array.replicate ops.toArray.size false) && Region.noSelect ops.toArray)=true) (hN:ops.all (Ct N)=true)
  (h:∀ K:Env->World->Prop,(∀ e w,VC ⟨P,fn,F,N⟩ k e w->K e w)->Qd P N ops w0 t e w (Dh ks K)):VC ⟨P,fn,F,N⟩ (.code (.region id ops.toArray true)::k) e w:=by
 intro a n ha;simp only [Yd] at hB;obtain ⟨hB1,hB2⟩:=hB;refine wp_region_held (S:=fun w'=>Ext w0 w') hm ?_;refine Qjz (K:=Dh ks (VC ⟨P,fn,F,N⟩ k)) hN hB2 (fun c a w d v hq=>T4 d v hq) (fun e a w n ha hv=>?_) t _ _ e a w (n+1) hB1 ha hx (h _ fun _ _ hv=>hv);exact ((Kj ks e _).1 hv) a n (ha.sel ks)
section
variable {P:Program}{N:Nat}{d:Option Tmp}{ty:Nat}{pos:String}{af:Array Edge}{gd:Option (Nat×Bool)}{e:Env}{w:World}{R:Env->World->(Env->World->Prop)->Prop}{K:Env->World->Prop}
theorem Qcq {w0:World}{B:LN}{G:List Res} (hH:Heap w0 B w G) (i:Nat) {T T' E ty:TypeId}{bytes:Nat}{zv:Value}{a:OA}{n cap m:Nat}{xs:LV}
  (hi:G[i]? = some (Res.row E 1 a n cap xs)) (hu:P.underlying T=some (.slice E)) (hz:(P.info? E).map (fun i=>(i.zero.map Yq,i.size,i.bytes))=some (some #[zv],1,bytes))
  (hT':P.underlying T'=some (.int .i64)) (h1:zv.oneCell'=true) (hm0:¬ m=0) (hmb:m * bytes<=281474976710656) (hm63:m<=9223372036854775807) (hb:cap < n+m->(n+m) * bytes<=140737488355328/\n+m<=9223372036854775807) (k:Nat) :
  ∃ a' cap' w' k',(Builtin.append_ #[T,T'] ty #[.slice a n cap,.int .i64 m]).run P (w.drewN k)=.ok (.slice a' (n+m) cap') (w'.drewN k')/\Heap w0 B w' (G.set i (Res.row E 1 a' (n+m) cap' (xs++Ye m zv)))/\(n+m<=cap->a'=a/\cap'=cap):=by
 have hrow:=hH.at i hi;obtain ⟨hxl,hnc,hcm,hcase⟩:=hrow;generalize hnews:Ye m zv=news;have hnl:news.length=m * 1:=by rw [<- hnews];simp
 have h1:∀ u∈news,u.oneCell'=true:=by
  intro u hu;rw [<- hnews] at hu;rw [(List.mem_replicate.1 hu).2];exact h1
 cases hinfo:P.info? E with
 | none=>simp [hinfo] at hz
 | some ti =>
 simp only [hinfo,Option.map_some,Option.some.injEq,Prod.mk.injEq] at hz;obtain ⟨hz1,hz2,hz3⟩:=hz;cases hzz:ti.zero with
 | none=>simp [hzz] at hz1
 | some z =>
 simp only [hzz,Option.map_some,Option.some.injEq] at hz1;have hso:∀ w,(sizeOf E).run P w=.ok 1 w:=fun w=>by simp [sizeOf,typeInfo,hinfo,hz2]
 have hti:∀ w,(typeInfo E).run P w=.ok ti w:=fun w=>by simp [typeInfo,hinfo]
 have hzv:∀ w,(zeroValue E).run P w=.ok z w:=fun w=>by simp [zeroValue,typeInfo,hinfo,hzz]
 have hund:∀ w,(underlying T').run P w=.ok (.int .i64) w:=fun w=>run_underlying hT' w;have hwr:IntKind.i64.wrap (m:Int)=m:=Sb ⟨by omega,by omega⟩;have hneg:¬ (m:Int) < 0:=by omega
 have hw0:IntKind.i64.wrap 0=0:=by decide
 have hbig:¬ 281474976710656 < (m:Int) * (bytes:Int):=by
  have:((m * bytes:Nat):Int)=(m:Int) * (bytes:Int):=Xj _ _;omega
 have hzc:Builtin.zeroCells z.cells m=news.toArray:=by
  rw [hz1,<- hnews];apply Array.ext
  ·
   simp [Builtin.zeroCells]
  intro j h1 h2;simp [Builtin.zeroCells,Nat.mod_one]
 by_cases hroom:n+m<=cap
 ·
  rcases hcase with ⟨rfl,rfl,rfl⟩ | ⟨g,rest,fz,rfl,hg,hl2,hfz⟩
  ·
   have hm:m=0:=by omega
   subst hm;have hn:news=[]:=Yh (by simpa using hnl);subst hn;refine ⟨none,0,w,k,?_,?_,fun _=>⟨rfl,rfl⟩⟩
   ·
    simp [Builtin.append_,run_underlying hu,hso,hund,asInt,asIntOf,hw0,hwr,hneg,hbig,hz3,hti,hm0,hzv,hzc]
   have:xs++[]=xs:=by simp
   rw [this]
   have:G.set i (Res.row E 1 none 0 0 xs)=G:=by
    apply Xo;intro j;rw [Xp];split
    ·
     rename_i hj;subst hj;split <;> simp_all
    rfl
   simp only [Xx];rw [this];exact hH
  have hlt:g < w.heap.size:=(Array.getElem?_eq_some_iff.1 hg).1;have hfit:n * 1+news.length<=(xs++rest).length:=by rw [hl2,hnl,<- Ym];exact Yl _ hroom
  have hst:=W2 (P:=P) g (n * 1) E fz news 0 (xs++rest) (w.drewN k) hg (by rw [hl2];exact hfz) (by simpa using hfit) h1;have hadd:(⟨g,0,none⟩:Addr).add (n * 1)=⟨g,n * 1,none⟩:=by unfold Addr.add;split <;> simp_all
  have hcs:(xs++rest).take (n * 1+0)++news++(xs++rest).drop (n * 1+0+news.length)=(xs++news)++rest.drop news.length:=by
   rw [Xz,<- hxl,List.take_left];rw [Xt];simp
  rw [hcs] at hst;have hadd':(⟨g,0,none⟩:Addr).add n=⟨g,n,none⟩:=by rw [Xe] at hadd;exact hadd
  have hst':=hst;rw [Xe] at hst';refine ⟨some ⟨g,0,none⟩,cap,F0 w g ((xs++news)++rest.drop news.length) E fz,k,?_,?_,fun _=>⟨rfl,rfl⟩⟩
  ·
   simp [Builtin.append_,run_underlying hu,hso,hund,asInt,asIntOf,hw0,hwr,hneg,hbig,hz3,hti,hm0,hzv,hzc,hroom,hadd',hst',W6]
  refine hH.set i hi (Qv _ _ _ _ _) ⟨?_,hroom,hcm,.inr ⟨g,rest.drop news.length,fz,rfl,Qx hlt,?_,hfz⟩⟩ ?_
  ·
   rw [Yf,hxl,hnl,Ym]
  ·
   simp at hl2 hfit ⊢;omega
  intro b hb;exact ⟨.inl hb,by rw [Sc];simp [Res.row] at hb;omega⟩
 obtain ⟨hb1,hb2⟩:=hb (by omega)
 have hg63:¬ ((n+m:Nat):Int) > IntKind.i64.max:=by
  have:IntKind.i64.max=9223372036854775807:=by decide
  rw [this];omega
 have hfits:¬ (Builtin.nextslicecap (n+m) cap * ti.bytes > 2 ^ 48):=by
  have:=growslice_fits (need:=n+m) (old:=cap) (bytes:=ti.bytes) (by omega) (by rw [hz3];exact hb1);have e:(2:Nat) ^ 48=281474976710656:=by decide
  rw [e];omega
 have hold:(Builtin.firstCells 1 n (.slice a n cap)).run P (w.drewN (k+1))=.ok xs.toArray (w.drewN (k+1)):=by
  have hrs:=As (hH.at i hi);cases a with
  | none =>
   have hn0:=hrs.2.1 rfl;subst hn0;have:xs=[]:=Yh (by simpa using hxl);subst this;simp [Builtin.firstCells]
  | some ad=>exact run_firstCells_some (P:=P) _ 1 n ad n cap xs hxl (fun j v hv=>(hrs.2.2 ad rfl).heap (w':=w.drewN (k+1)) rfl j v hv)
 have hge:=grownCap_ge (w.drewN k) (n+m) cap E;have hcm':=grownCap_le_maxLen (w.drewN k) (n+m) cap E (by simp only [maxLen];omega);refine ⟨some ⟨w.heap.size,0,none⟩,grownCap (w.drewN k) (n+m) cap E,w.alloc (.cells (xs.toArray++news.toArray++Builtin.zeroCells z.cells (grownCap (w.drewN k) (n+m) cap E - (n+m))) E),k+1,?_,?_,fun h=>absurd h hroom⟩
 ·
  have hz2':¬ (9223372036854775807 < ((n:Int)+(m:Int))):=by omega
  have hz3':¬ (281474976710656 < Builtin.nextslicecap (n+m) cap * ti.bytes):=by
   have e:(2:Nat) ^ 48=281474976710656:=by decide
   rw [e] at hfits;omega
  have hf2:=hzv (w.drewN (k+1));have hra:=fun n w=>W8 (P:=P) n w;simp [Builtin.append_,run_underlying hu,hso,hund,asInt,asIntOf,hwr,hneg,hbig,hz3,hm0,hzc,hroom,hti,hz2',(hz3 ▸ hz3'),hra,hold,hf2,hzv,Mx,Question.forced,grownCap];rw [Qen]
  congr 3
  apply Array.ext';simp
 have hcells:(xs.toArray++news.toArray++Builtin.zeroCells z.cells (grownCap (w.drewN k) (n+m) cap E - (n+m)))=((xs++news)++(Builtin.zeroCells z.cells (grownCap (w.drewN k) (n+m) cap E - (n+m))).toList).toArray:=by
  apply Array.ext';simp
 rw [hcells];have hzc:z.cells.size=1:=by rw [hz1];rfl
 refine hH.set i hi ⟨rfl,rfl,rfl,by simp,fun k hk _=>RowKit.Below.heap_alloc _ _ _ hk⟩ ⟨?_,hge,hcm',.inr ⟨w.heap.size,_,(0,0),rfl,heap_alloc_new w _,?_,Qm3 _⟩⟩ ?_
 ·
  rw [Yf,hxl,hnl,Ym]
 ·
  rw [Yf,Yf,hxl,hnl,Array.length_toList,size_zeroCells,hzc,<- Ym,<- Ym]
  congr 1;omega
 intro b hb;simp [Res.row] at hb;subst hb;exact ⟨.inr (Y2 _),by simp⟩
theorem Qcr {w0:World}{B:LN}{G:List Res} (hH:Heap w0 B w G) (i:Nat) {T T' E ty:TypeId}{bytes:Nat}{zv:Value}{a:OA}{n cap:Nat}{xs:LV}
  (hi:G[i]? = some (Res.row E 1 a n cap xs)) (hu:P.underlying T=some (.slice E)) (hz:(P.info? E).map (fun i=>(i.zero.map Yq,i.size,i.bytes))=some (some #[zv],1,bytes)) (hT':P.underlying T'=some (.int .i64)) (k:Nat) :
  (Builtin.append_ #[T,T'] ty #[.slice a n cap,.int .i64 0]).run P (w.drewN k)=.ok (.slice a n cap) (w.drewN k):=by
 obtain ⟨hxl,hnc,hcm,hcase⟩:=hH.at i hi;cases hinfo:P.info? E with
 | none=>simp [hinfo] at hz
 | some ti =>
 simp only [hinfo,Option.map_some,Option.some.injEq,Prod.mk.injEq] at hz;obtain ⟨hz1,hz2,hz3⟩:=hz;have hso:∀ w,(sizeOf E).run P w=.ok 1 w:=fun w=>by simp [sizeOf,typeInfo,hinfo,hz2]
 have hti:∀ w,(typeInfo E).run P w=.ok ti w:=fun w=>by simp [typeInfo,hinfo]
 have hund:∀ w,(underlying T').run P w=.ok (.int .i64) w:=fun w=>run_underlying hT' w;have hw0:IntKind.i64.wrap 0=0:=by decide
 cases a with
 | none=>simp [Builtin.append_,run_underlying hu,hso,hund,asInt,asIntOf,hw0,hti,hnc]
 | some ad=>simp [Builtin.append_,run_underlying hu,hso,hund,asInt,asIntOf,hw0,hti,hnc,storeCells]
theorem Qq2 {w0:World}{B:LN}{G:List Res} (hH:Heap w0 B w G) (i:Nat) {T T' E ty:TypeId}{bytes:Nat}{zv:Value}{a:OA}{n cap m:Nat}{xs:LV}{x:Int}{C:Value->World->Prop}
  (hi:G[i]? = some (Res.row E 1 a n cap xs)) (hx:x=m) (hu:P.underlying T=some (.slice E)) (hz:(P.info? E).map (fun i=>(i.zero.map Yq,i.size,i.bytes))=some (some #[zv],1,bytes))
  (hT':P.underlying T'=some (.int .i64)) (h1:zv.oneCell'=true) (hb:(n+m) * bytes<=140737488355328/\n+m<=9223372036854775807)
  (h:∀ a' cap' w',(n+m<=cap->a'=a/\cap'=cap)->Heap w0 B w' (G.set i (Res.row E 1 a' (n+m) cap' (xs++Ye m zv)))->C (.slice a' (n+m) cap') w') :
  N5 P #[T,T'] ty [.slice a n cap,.int .i64 x] w C:=by
 subst hx;intro k;have hle:m * bytes<=(n+m) * bytes:=Yl _ (by omega);by_cases hm0:m=0
 ·
  subst hm0
  have e:G.set i (Res.row E 1 a (n+0) cap (xs++Ye 0 zv))=G:=by
   simp only [Xz,List.replicate_zero,Yz]
   exact Xo fun j=>by
    rw [Xp];split
    ·
     rename_i hj;subst hj;rw [hi];simp [(Yn.1 hi).1]
    rfl
  exact ⟨_,w,k,Qcr (P:=P) (ty:=ty) hH i hi hu hz hT' k,h a cap w (fun _=>⟨rfl,rfl⟩) (by rw [e];exact hH)⟩
 obtain ⟨a',cap',w',k',hr,hH',hc⟩:=Qcq (P:=P) (ty:=ty) hH i hi hu hz hT' h1 hm0 (by omega) (by omega) (fun _=>hb) k;exact ⟨_,w',k',hr,h a' cap' w' hc hH'⟩
theorem Heap.focus {w0:World}{B:LN}{G:List Res}{r:Res} (h:Heap w0 B w G) (i:Nat) (hi:G[i]? = some r):Heap w r.foot w [r] :=
 Heap.one (h.at i hi) fun b hb=>(h.foot r (Yk hi) b hb).2
theorem Ei {w0:World}{B:LN}{G:List Res} (hH:Heap w0 B w G) (vs0:LV) {T E:TypeId}{n:Nat}{ps:Array (Nat×Operand)}{xs:List Operand} (hu:P.underlying T=some (.slice E)) (hsz:P.szo E=some 1) (hz:(P.zeroOf E).isSome=true)
  (hps:ps.toList=(xs.zipIdx).map fun p=>(p.2,p.1)) (hn:n=xs.length) (hb:n<=1000000)
  (h:Cz e xs fun vs=>vs=vs0/\(∀ v∈vs,v.cells=#[v])/\∀ g w',Heap w0 B w' (Res.row E 1 (some ⟨g,0,none⟩) n n vs0::G)->R (e.put d (.slice (some ⟨g,0,none⟩) n n)) w' K) :
  B9 P N ⟨d,.buildSlice T n ps,ty,pos,af,gd⟩ e w R K:=by
 refine Oi hu hsz hz hps hn hb ?_
 have key:∀ (xs:List Operand) (K K':LV->Prop),Cz e xs K->(∀ vs,vs.length=xs.length->K vs->K' vs)->Cz e xs K':=by
  intro xs
  induction xs with
  | nil=>intro K K' h hk;exact hk [] rfl h
  | cons x xs ih =>
   intro K K' h hk;simp only [Cz] at h ⊢
   have ka:∀ (K K':Value->Prop),Am e x K->(∀ v,K v->K' v)->Am e x K':=by
    intro K K' h2 hk2
    have kt:∀ (e:Env) (n:Nat),Eu e n K->Eu e n K':=by
     intro e
     induction e with
     | nil=>intro n h;exact h
     | cons p e ihe =>
      intro n h;simp only [Eu] at h ⊢;split
      ·
       rename_i hn;rw [if_pos hn] at h;exact hk2 _ h
      rename_i hn;rw [if_neg hn] at h;exact ihe _ h
    cases x with
    | tmp t=>exact kt e t h2
    | const v=>exact hk2 _ h2
    | global g=>exact hk2 _ h2
    | func f=>exact hk2 _ h2
   exact ka _ _ h fun v hv=>ih _ _ hv fun vs hl hvs=>hk (v::vs) (by simp [hl]) hvs
 refine key xs _ _ h fun vs hl hv=>?_;obtain ⟨rfl,h1,h2⟩:=hv;refine ⟨h1,?_⟩;have:=hH.row E (n:=n) (cap:=n) (sz:=1) vs [] (by rw [hl,hn];omega) (by rw [Yz,hl,hn];omega) (Y2 _) (by omega);rw [Yz] at this;exact h2 _ _ this
end
section
variable {P:Program}{N:Nat}{d:Option Tmp}{ty:Nat}{pos:String}{af:Array Edge}{gd:Option (Nat×Bool)}{e:Env}{w:World}{R:Env->World->(Env->World->Prop)->Prop}{RQ:Env->World->(Env->Prop)->Prop}{K:Env->World->Prop}{KQ:Env->Prop}{KV:Value->Prop}
def FnK (P:Program) (fv:Value) (vs:LV) (w:World) (C:Value->World->Prop):Prop :=
 ∃ f first cs,fv=.func (.func f) first cs/\(∀ args w,(callFunc f args).run P w=.ok (.enter f args) w)/\CallK P f (first.toList++vs++cs.toList) w C
theorem Er {x:Operand}{az:Array Operand}{ts:Array TypeId}
  (h:Am e x fun fv=>Cz e az.toList fun vs=>FnK P fv vs w fun v w'=>R (e.put d v) w' K) :
  B9 P N ⟨d,.call { callee:=.value x,args:=az,argTypes:=ts },ty,pos,af,gd⟩ e w R K:=by
 intro a n next Q ha hK;have h0:=Cp (K:=fun fv=>Cz e az.toList fun vs=>FnK P fv vs w fun v w'=>R (e.put d v) w' K) ha h;have h1:=Lt (K:=fun vs=>FnK P (a.eval x) vs w fun v w'=>R (e.put d v) w' K) ha h0;obtain ⟨f,first,cs,hx,hf,F,hD,hC⟩:=h1;have hm:(az.map a.eval)=(az.toList.map a.eval).toArray:=Nl az a
 have e1:first++(az.toList.map a.eval).toArray++cs=(first.toList++az.toList.map a.eval++cs.toList).toArray:=by
  apply Array.ext';simp
 have hrun:(execOp a.eval ⟨d,.call { callee:=.value x,args:=az,argTypes:=ts },ty,pos,af,gd⟩).run P (w.drewN n)=.ok (.enter f (first.toList++az.toList.map a.eval++cs.toList).toArray) (w.drewN n):=by
  simp only [execOp,Go.resolve,hx,Deferred.ofValue,Yc,Yb,Ya,invoke];rw [hm,e1,hf]
 unfold Oper.wp;rw [hrun];exact (hD n).mono fun e' w' ⟨v,w'',m,he,hw,hF⟩=>by subst he;subst hw;exact hK v w'' m (hC v w'' hF)
theorem FnK.mk {f:FuncId}{first cs:Array Value}{vs:LV}{C F:Value->World->Prop} (hf:∀ args w,(callFunc f args).run P w=.ok (.enter f args) w)
  (h:Does P f (first.toList++vs++cs.toList).toArray w F) (hc:∀ v w',F v w'->C v w'):FnK P (.func (.func f) first cs) vs w C:=⟨f,first,cs,rfl,hf,F,h,hc⟩
theorem Ou {op:BinOp}{T:TypeId}{xo yo:Operand}{x y:Value}{b:Bool} (h:∀ w',(do eqGuard op T xo yo x y;binOp op T x y:Sem Value).run P w'=.ok (.bool b) w'):EqR P op T xo yo x y w KV=KV (.bool b):=by
 apply propext;constructor
 ·
  rintro ⟨b',hr,hk⟩;have h1:=hr w (Ext.refl w);rw [h w] at h1;simp only [Result.ok.injEq,Value.bool.injEq] at h1;rw [h1.1];exact hk
 intro hk;exact ⟨b,fun w' _=>h w',hk⟩
theorem R8 {op:BinOp}{T:TypeId}{xo yo:Operand}{x y:Value} (h:(∀ c,x≠.agg c)/\x≠.nilIface) (w:World):(eqGuard op T xo yo x y).run P w=.ok () w:=Tx h w
theorem Qlj {T E:TypeId} (hu:P.underlying T=some (.pointer E)) (d:Nat) (a:OA) (w:World):(Op.equalIn (d+1) T (.pointer a) (.pointer none)).run P w=.ok a.isNone w:=by
 unfold Op.equalIn;cases a <;> simp [run_underlying hu]
theorem Qgw {T E:TypeId} (hu:P.underlying T=some (.pointer E)) (a:OA) (w:World):(Op.equal T (.pointer a) (.pointer none)).run P w=.ok a.isNone w:=Qlj hu 9999 a w
theorem Qlk {T:TypeId}{ps rs:Array TypeId}{v:Bool} (hu:P.underlying T=some (.func ps rs v)) (d:Nat) (f:Fn) (x y:Array Value) (w:World):(Op.equalIn (d+1) T (.func f x y) .nilFunc).run P w=.ok false w:=by
 unfold Op.equalIn;simp [run_underlying hu]
theorem Qgx {T:TypeId}{ps rs:Array TypeId}{v:Bool} (hu:P.underlying T=some (.func ps rs v)) (f:Fn) (x y:Array Value) (w:World):(Op.equal T (.func f x y) .nilFunc).run P w=.ok false w:=Qlk hu 9999 f x y w
theorem Qm4 {T E:TypeId} (hu:P.underlying T=some (.pointer E)) (a:OA) (xo yo:Operand):A3 P .eql T xo yo (.pointer a) (.pointer none) w KV=KV (.bool a.isNone):=by
 refine Ou fun w'=>?_;simp only [Yc];rw [R8 ⟨by simp,by simp⟩];simp only [Ya,binOp,Yc,Qgw hu,Yb]
theorem Qm5 {T E:TypeId} (hu:P.underlying T=some (.pointer E)) (a:OA) (xo yo:Operand):A3 P .neq T xo yo (.pointer a) (.pointer none) w KV=KV (.bool ! a.isNone):=by
 refine Ou fun w'=>?_;simp only [Yc];rw [R8 ⟨by simp,by simp⟩];simp only [Ya,binOp,Yc,Qgw hu,Yb]
theorem QAm {T:TypeId}{ps rs:Array TypeId}{v:Bool} (hu:P.underlying T=some (.func ps rs v)) (f:Fn) (x y:Array Value) (xo yo:Operand):A3 P .eql T xo yo (.func f x y) .nilFunc w KV=KV (.bool false):=by
 refine Ou fun w'=>?_;simp only [Yc];rw [R8 ⟨by simp,by simp⟩];simp only [Ya,binOp,Yc,Qgx hu,Yb]
def Res.pair (r s:Res):Res where
 foot:=r.foot++s.foot
 holds:=fun w=>r.holds w/\s.holds w/\Apart r s
 loc:=by
  rintro w w' hb ⟨h1,h2,h3⟩;exact ⟨r.loc w w' (fun b h=>hb b (Xh _ h)) h1,s.loc w w' (fun b h=>hb b (Xc _ h)) h2,h3⟩
theorem Heap.unpair {w0:World}{B:LN}{G:List Res}{r s:Res} (h:Heap w0 B w (Res.pair r s::G)):Heap w0 B w (r::s::G):=by
 obtain ⟨h1,h2,h3⟩:=h.holds (Res.pair r s) (by simp);have hf:=h.foot (Res.pair r s) (by simp);have ha:=Yp.1 h.apart;refine ⟨h.upd,?_,?_,?_⟩
 ·
  intro x hx;simp only [Ys] at hx;rcases hx with rfl | rfl | hx
  ·
   exact h1
  ·
   exact h2
  exact h.holds x (by simp [hx])
 ·
  intro x hx b hb;simp only [Ys] at hx;rcases hx with rfl | rfl | hx
  ·
   exact hf b (Xh _ hb)
  ·
   exact hf b (Xc _ hb)
  exact h.foot x (by simp [hx]) b hb
 rw [Yp,Yp];refine ⟨fun x hx=>?_,fun x hx b hb=>ha.1 x hx b (Xc _ hb),ha.2⟩;rcases Ys.1 hx with rfl | hx
 ·
  exact h3
 exact fun b hb=>ha.1 x hx b (Xh _ hb)
theorem Heap.pair {w0:World}{B:LN}{G:List Res}{r s:Res} (h:Heap w0 B w (r::s::G)):Heap w0 B w (Res.pair r s::G):=by
 have ha:=Yp.1 h.apart;have ha2:=Yp.1 ha.2;refine ⟨h.upd,?_,?_,?_⟩
 ·
  intro x hx;rcases Ys.1 hx with rfl | hx
  ·
   exact ⟨h.holds r (by simp),h.holds s (by simp),ha.1 s (by simp)⟩
  exact h.holds x (by simp [hx])
 ·
  intro x hx b hb;rcases Ys.1 hx with rfl | hx
  ·
   rcases Xi.1 hb with hb | hb
   ·
    exact h.foot r (by simp) b hb
   exact h.foot s (by simp) b hb
  exact h.foot x (by simp [hx]) b hb
 rw [Yp];refine ⟨fun x hx b hb=>?_,ha2.2⟩;rcases Xi.1 hb with hb | hb
 ·
  exact ha.1 x (by simp [hx]) b hb
 exact ha2.1 x hx b hb
theorem Af {g T k:Nat}{cs:LV}{v:Value} (h:(Res.blk g T cs).holds w) (hv:cs[k]? = some v):w.cell? ⟨g,k,none⟩=some v:=by
 obtain ⟨fz,hg,_⟩:=h;simp [World.cell?,hg,hv]
theorem Bu {g T:Nat}{cs:LV} (h:(Res.blk g T cs).holds w):Reads w ⟨g,0,none⟩ cs:=by
 intro j u hu;have hadd:(⟨g,0,none⟩:Addr).add j=⟨g,j,none⟩:=by unfold Addr.add;split <;> simp_all
 rw [hadd];exact Af h hu
theorem Bv (g o k:Nat):(⟨g,o,none⟩:Addr).add k=⟨g,o+k,none⟩:=by unfold Addr.add;split <;> simp_all
theorem Heap.front {w0:World}{B:LN}{G:List Res}{r:Res} (i:Nat) (h:Heap w0 B w G) (hi:G[i]? = some r):Heap w0 B w (r::G.eraseIdx i):=by
 refine h.perm ?_
 have:∀ (G:List Res) (i:Nat),G[i]? = some r->G.Perm (r::G.eraseIdx i):=by
  intro G
  induction G with
  | nil=>intro i h;simp at h
  | cons x G ih =>
   intro i h;cases i with
   | zero=>simp at h;subst h;exact List.Perm.refl _
   | succ i =>
    rw [List.eraseIdx_cons_succ];exact ((ih i (by simpa using h)).cons x).trans (List.Perm.swap _ _ _)
 exact this G i hi
def Bb:LV->Nat->(Value->Prop)->Prop
 | [],_,_=>False
 | v::_,0,K=>K v
 | _::l,i+1,K=>Bb l i K
theorem Qvb (v:Value) (l:LV):Bb (v::l) 0 KV=KV v:=rfl
theorem Qvc (v:Value) (l:LV) (i:Nat):Bb (v::l) (i+1) KV=Bb l i KV:=rfl
theorem Qtn (l:LV):∀ (i:Nat) (K:Value->Prop),Bb l i K=match l[i]? with | some v=>K v | none=>False:=by
 induction l with
 | nil=>intro i K;simp [Bb]
 | cons v l ih =>
  intro i K;cases i with
  | zero=>simp [Bb]
  | succ i=>simp [Bb,ih]
def Vh (d:Option TypeDesc):Bool:=match d with
 | some (.struct _) | some (.array _ _) | none=>false
 | some _=>true
def Ol (d:Option TypeDesc):Bool:=match d with
 | some (.struct _) | some (.array _ _)=>true
 | _=>false
theorem Qj0 {T:TypeId} (l:LV) (off:Nat) (h:Vh (P.underlying T)=true):Px P T l.toArray off KV=Bb l off KV:=by
 rw [Qtn,Px];cases hu:P.underlying T with
 | none=>simp [hu,Vh] at h
 | some d =>
  cases d <;> first
   | (exfalso;simp [Vh,hu] at h;done)
   | (simp only [List.getElem?_toArray] <;> cases l[off]? <;> rfl)
theorem Qyv {T:TypeId} (l:LV) (off n:Nat) (h:Ol (P.underlying T)=true) (hz:P.szo T=some n):Px P T l.toArray off KV=KV (.agg ((l.take (off+n)).drop off).toArray):=by
 have e:l.toArray.extract off (off+n)=((l.take (off+n)).drop off).toArray:=by
  apply Array.ext';simp [Xl];rw [List.drop_take];congr 1;omega
 rw [Px];cases hu:P.underlying T with
 | none=>simp [hu,Ol] at h
 | some d=>cases d <;> simp_all [Ol]
theorem B2 (S f:Nat) (l:LV) {fields:Array Field}{fd:Field}{o:Nat} (h:P.underlying S=some (.struct fields)) (hf:fields[f]? = some fd) (hp:Vh (P.underlying fd.type)=true) (ho:fd.offset=o) (_hz:P.szo fd.type=some 1):Be P S (.agg l.toArray) f KV=Bb l o KV:=by
 subst ho;simp only [Be,h,hf,Qj0 l _ hp]
theorem Nu (S f:Nat) (l:LV) (n:Nat) {fields:Array Field}{fd:Field}{o m:Nat} (h:P.underlying S=some (.struct fields)) (hf:fields[f]? = some fd) (hp:Ol (P.underlying fd.type)=true) (ho:(fd.offset,fd.offset+n)=(o,m)) (hz:P.szo fd.type=some n):Be P S (.agg l.toArray) f KV=KV (.agg ((l.take m).drop o).toArray):=by
 simp only [Prod.mk.injEq] at ho;obtain ⟨rfl,rfl⟩:=ho;simp only [Be,h,hf,Qyv l _ n hp hz]
theorem Cx {T:TypeId}{ps:List (Nat×Value)}{cells:Array Value} (h:P.built T ps=some cells):Ca P T ps KV=KV (.agg cells):=by simp [Ca,h]
theorem Rg (T:TypeId) (l:LV) (k:IntKind) (i:Int) {n E:Nat} (h:P.underlying T=some (.array n E)) (hz:P.szo E=some 1) (hp:Vh (P.underlying E)=true) (_hn:P.szo T=some n):E7 P T (.agg l.toArray) (.int k i) KV=((0<=i/\i < (n:Int))/\Bb l i.toNat KV):=by
 simp only [E7,h,hz,Xe,Qj0 l _ hp]
end
attribute [go_sem ↓] Qvb Qvc
attribute [go_sem] Bv Option.isNone_some Option.isNone_none
theorem Qns {P:Program}{N:Nat}{ops rest:List Oper}{Q:Exit->Act->World->Prop}{K:Env->World->Prop}{w:World}{n:Nat} (hR:rest.all (Ct N)=true)
  (hK:∀ e a w n,Fits N e a->K e w->Q .normal a (w.drewN n)):∀ (pre:List Oper) (e:Env) (a:Act),pre.all (Ct N)=true->pre.all (fun o=>Iw P o.op)=true->Fits N e a ->
   At P N ops (pre++rest) e w K->wpStill P ops.toArray (w.drewN n) (fun a'=>wpList P ops.toArray Q rest a' (w.drewN n)) pre a:=by
 intro pre
 induction pre with
 | nil=>intro e a _ _ ha h;exact Tz hK rest e a w n hR ha h
 | cons o pre ih =>
  intro e a hl hp ha h;simp only [X6,Yd] at hl hp;unfold wpStill;rcases Pf ha h with ⟨e',ha',h',hw⟩ | ⟨e',ha',h',hw⟩
  ·
   rw [if_pos hw];unfold V9 at h';rw [hp.1] at h';obtain ⟨v,hv,hr⟩:=Nh ha' h';unfold Oper.still;rw [hr (w.drewN n) (Ext.drewN w n)];exact ⟨rfl,ih _ _ hl.2 hp.2 (ha'.put' hl.1 v) hv⟩
  rw [if_neg (by rw [hw];simp)];exact ih _ _ hl.2 hp.2 (ha'.put' hl.1 undef) h'
theorem T6 {P:Program}{fn:Func}{F:Value->World->Prop}{N:Nat}{k:List It}{e:Env}{w:World} (ks:LN) (m:Nat) {id:Nat}{ops:List Oper} (hm:P.follows .mixedOrders=true)
  (hB:Region.lexTailB .any ops.toArray m=true) (hp:(ops.take m).all (fun o=>Iw P o.op)=true) (hN:ops.all (Ct N)=true)
  (h:∀ K:Env->World->Prop,(∀ e w,VC ⟨P,fn,F,N⟩ k e w->K e w)->At P N ops ops e w (Dh ks K)):VC ⟨P,fn,F,N⟩ (.code (.region id ops.toArray true)::k) e w:=by
 intro a n ha;have hN':=hN;rw [<- Y1 m ops,List.all_append,Yd] at hN';refine wp_region_still_tail m hm hB ?_
 show wpStill P ops.toArray (w.drewN (n+1)) (fun a'=>wpList P ops.toArray (fun ex a w=>Fg ⟨P,fn,F,N⟩ k ex a w) (ops.drop m) a' (w.drewN (n+1))) (ops.take m) a
 refine Qns (n:=n+1) (K:=Dh ks (VC ⟨P,fn,F,N⟩ k)) hN'.2 (fun e a w n ha hv=>?_) (ops.take m) e a hN'.1 hp ha ?_
 ·
  exact ((Kj ks e _).1 hv) a n (ha.sel ks)
 rw [Y1];exact h _ fun _ _ hv=>hv
theorem bytesV_take (l:LB) (k:Nat):(Ao l).take k=Ao (l.take k):=by simp [Ao]
theorem bytesV_drop (l:LB) (k:Nat):(Ao l).drop k=Ao (l.drop k):=by simp [Ao]
theorem bytesV_zero (n:Nat):Ye n (Yw .u8 0)=Ao (Ye n 0):=by simp [Ao]
theorem bytesV_get {l:LB}{i:Nat} (h:i < l.length):(Ao l)[i]? = some (.int .u8 (l.getD i 0).toNat):=by
 simp [Ao,Yg h,Yj]
theorem intsV_zero (n:Nat):Ye n (Yw .i64 0)=Br (Ye n 0):=by simp [Br]
theorem Kz {l:List Int}{i:Nat} (h:i < l.length):(Br l)[i]? = some (.int .i64 (l.getD i 0)):=by
 simp [Br,Yg h,Yj]
theorem Qvd (l:List Int) (i:Nat) (v:Int):(Br l).set i (.int .i64 v)=Br (l.set i v):=by simp [Br,List.map_set]
theorem T7 (l:LB) (i:Nat) (v:UInt8):(Ao l).set i (.int .u8 v.toNat)=Ao (l.set i v):=by simp [Ao,List.map_set]
theorem Dm {α:Type} (l:List α) (i:Nat) (v:α) (h:i < l.length):l.take i++[v]++l.drop (i+1)=l.set i v:=by
 rw [Y9,if_pos h,Yv];rfl
theorem Ek {w:World}{a:OA}{n sz:Nat}{xs:LV} (h:RS w a n sz xs) (hn:0 < n):∃ p,a=some p:=by
 cases a with
 | none=>have:=h.2.1 rfl;omega
 | some p=>exact ⟨p,rfl⟩
theorem Qm6 {w:World}{p:Addr}{l:List Int}{n:Nat} (h:RS w (some p) n 1 (Br l)) {i:Nat} (hi:i < l.length):w.cell? (p.add i)=some (.int .i64 (l.getD i 0)) :=
 h.2.2 p rfl i _ (Kz hi)
theorem drop_getD {α:Type}{l:List α}{i:Nat} (d:α) (h:i < l.length):l.drop i=l.getD i d::l.drop (i+1):=by
 rw [List.drop_eq_getElem_cons h,Yj,Yg h];rfl
theorem Lv {α:Type}{l:List α}{i:Nat} (d:α) (h:i < l.length):l.take (i+1)=l.take i++[l.getD i d]:=by
 rw [List.take_add_one,Yj,Yg h];rfl
theorem Ez {α:Type}{l:List α}{i:Nat} (d:α) (h:i < l.length):l.getD i d∈l:=by
 rw [Yj,Yg h];exact List.getElem_mem h
theorem Sq {w:World}{E sz:Nat}:Heap w [] w [Res.row E sz none 0 0 []]:=Heap.one (r:=Res.row E sz none 0 0 []) (Qmi E sz w) (by intro b hb;cases hb)
theorem Heap.nilRow {w0 w:World}{B:LN}{G:List Res} (h:Heap w0 B w G) (E sz:Nat):Heap w0 B w (Res.row E sz none 0 0 []::G):=h.call0 (G':=[Res.row E sz none 0 0 []]) Sq
theorem Wa {k:IntKind}{i:Int}{n:Nat} (h:i=n) (hn:n<=k.bits):By k i=n:=by subst h;simp [By];exact Y7 hn
theorem Qun {k:IntKind}{i:Int}{n:Nat} (h:i=n) (hn:n<=k.bits) (hk:k.bits<=64):By k (i % 18446744073709551616)=n:=by
 subst h;rw [Xm (by omega) (by omega),By];simp;exact Y7 hn
theorem Qj1 (n:Nat):((2:Int) ^ n)=((2 ^ n:Nat):Int):=by push_cast;rfl
theorem Sr (v n:Nat):(v:Int) / 2 ^ n=((v / 2 ^ n:Nat):Int):=by rw [Qj1,<- Int.natCast_ediv]
theorem Qid (v n:Nat):(v:Int) * 2 ^ n=((v * 2 ^ n:Nat):Int):=by rw [Qj1,<- Xj]
theorem Tw {P:Program}{T:TypeId}{a:Addr}{w:World}{K:Value->Prop} (h:Bf P T (.pointer (some a)) w K) :
  ∃ v,K v/\∀ w',Ext w w'->(loadVar T a).run P w'=.ok v w':=by
 have key:∀ (n:Nat),(P.szo T=some n)->(∀ w,(isAgg T).run P w=.ok true w)->∀ cs:LV,cs.length=n->Reads w a cs ->
   ∀ w',Ext w w'->(loadVar T a).run P w'=.ok (.agg cs.toArray) w':=by
  intro n hn hagg cs hl hr w' hw;have:=Qaa (P:=P) (hr.ext hw);rw [hl] at this;simp [loadVar,hagg,I7 hn,this]
 unfold Bf at h;simp only at h;split at h
 ·
  rename_i hu;split at h
  ·
   rename_i n hn;obtain ⟨cs,⟨hl,hr⟩,hK⟩:=h;exact ⟨_,hK,key n hn (fun w=>by simp [isAgg,run_underlying hu]) cs hl hr⟩
  exact h.elim
 ·
  rename_i hu;split at h
  ·
   rename_i n hn;obtain ⟨cs,⟨hl,hr⟩,hK⟩:=h;exact ⟨_,hK,key n hn (fun w=>by simp [isAgg,run_underlying hu]) cs hl hr⟩
  exact h.elim
 ·
  rename_i d hd1 hd2 hu;obtain ⟨v,hv,hK⟩:=h;refine ⟨v,hK,fun w' hw=>?_⟩;have hc:w'.cell? a=some v:=hw.cell hv
  have:(isAgg T).run P w'=.ok false w':=by
   cases d <;> simp_all [isAgg,run_underlying hu]
  simp [loadVar,this,hc]
 exact h.elim
section
variable {C:Kv}{e:Env}{w:World}
theorem Np {t:Tmp}{T:TypeId}{a:Addr} (hr:C.fn.results=#[.cell t T]) (ht:e.find? t=some (.pointer (some a))) (h:Bf C.P T (.pointer (some a)) w fun v=>C.F v w):VX C [] .ret e w:=by
 intro ac n ha;obtain ⟨v,hv,hrun⟩:=Tw h;refine ⟨ha.defers,v,?_,v,w,n,rfl,rfl,hv⟩;have h1:=ha.at_ t _ ht;rw [Array.getD_eq_getD_getElem?] at h1;have h2:=hrun (w.drewN n) (Ext.drewN w n);simp [results,hr,h1,asAddr,h2]
theorem Kk {t u:Tmp}{T:TypeId}{a:Addr}{x:Value} (hr:C.fn.results=#[.cell t T,.tmp u]) (ht:e.find? t=some (.pointer (some a))) (hu:e.find? u=some x) (h:Bf C.P T (.pointer (some a)) w fun v=>C.F (.tuple #[v,x]) w):VX C [] .ret e w:=by
 intro ac n ha;obtain ⟨v,hv,hrun⟩:=Tw h;refine ⟨ha.defers,.tuple #[v,x],?_,_,w,n,rfl,rfl,hv⟩;have h1:=ha.at_ t _ ht;rw [Array.getD_eq_getD_getElem?] at h1;have h3:=ha.at_ u _ hu;rw [Array.getD_eq_getD_getElem?] at h3;have h2:=hrun (w.drewN n) (Ext.drewN w n);simp [results,hr,h1,h3,asAddr,h2]
end
theorem Fm {P:Program}{T:TypeId}{g T' n:Nat}{cs:LV}{w:World}{K:Value->Prop} (h:(Res.blk g T' cs).holds w) (hd:Ol (P.underlying T)=true) (hz:P.szo T=some n) (hn:cs.length=n) (hk:K (.agg cs.toArray)):Bf P T (.pointer (some ⟨g,0,none⟩)) w K:=by
 unfold Bf;cases hu:P.underlying T with
 | none=>simp [hu,Ol] at hd
 | some d =>
  cases d <;> first
   | (exfalso;simp [Ol,hu] at hd;done)
   | (simp only [hz];exact ⟨cs,⟨hn,Bu h⟩,hk⟩)
theorem Qve (cs:LV):∀ (i:Nat) (pre mid suf:LV),mid.length=cs.length->pre.length=i ->
  (cs.zipIdx i).foldl (fun (a:Array Value) (x:Value×Nat)=>a.setIfInBounds x.2 x.1) (pre++mid++suf).toArray=(pre++cs++suf).toArray:=by
 induction cs with
 | nil=>intro i pre mid suf hm hp;simp at hm;subst hm;simp
 | cons c cs ih =>
  intro i pre mid suf hm hp;cases mid with
  | nil=>simp at hm
  | cons m mid =>
   simp only [Xs,List.foldl_cons]
   have e:(pre++m::mid++suf).toArray.setIfInBounds i c=((pre++[c])++mid++suf).toArray:=by
    subst hp;apply Array.ext';simp [Xb]
   rw [e,ih (i+1) (pre++[c]) mid suf (by simpa using hm) (by simp [hp])];simp
theorem Qnt (k:Nat):∀ (l:LV) (i:Nat) (pre suf:LV),suf.length=l.length * k->(∀ v∈l,v.cells.size=k)->pre.length=i * k ->
  Instr.fill (fun i=>some (i * k,k)) (pre++suf).toArray ((l.zipIdx i).map fun p=>(p.2,p.1))=some (pre++l.flatMap fun v=>v.cells.toList).toArray:=by
 intro l
 induction l with
 | nil=>intro i pre suf hs _ _;simp at hs;subst hs;simp [Instr.fill]
 | cons v l ih =>
  intro i pre suf hs hc hp;have hv:=hc v (by simp);simp only [Y4,Ym,Nat.one_mul] at hs;obtain ⟨mid,suf',rfl,hmid⟩:∃ mid suf',suf=mid++suf'/\mid.length=k:=⟨suf.take k,suf.drop k,by simp,by simp;omega⟩;simp only [Yf] at hs;simp only [Xs,List.map_cons,Instr.fill];rw [if_neg (by simp;omega)];have hcl:v.cells.toList.length=k:=by rw [Array.length_toList];exact hv
  have e1:(v.cells.zipIdx.foldl (fun cs (x:Value×Nat)=>cs.setIfInBounds (i * k+x.2) x.1) (pre++(mid++suf')).toArray)=((pre++v.cells.toList)++suf').toArray:=by
   have h2:=Qve v.cells.toList (i * k) pre mid suf' (by rw [hmid,hcl]) hp;rw [<- Yv,<- h2,<- Array.foldl_toList];rw [List.zipIdx_eq_map_add];simp [Array.toList_zipIdx,List.foldl_map,Ub]
  have hih:=ih (i+1) (pre++v.cells.toList) suf' (by omega) (fun u hu=>hc u (by simp [hu])) (by rw [Yf,hcl,hp,Ym,Nat.one_mul]);rw [e1,hih,Yr,Yv]
section
variable {P:Program}{N:Nat}{d:Option Tmp}{ty:Nat}{pos:String}{af:Array Edge}{gd:Option (Nat×Bool)}{e:Env}{w:World}{R:Env->World->(Env->World->Prop)->Prop}{K:Env->World->Prop}
theorem Qgy {e:Env}:∀ (xs:List Operand) (K K':LV->Prop),Cz e xs K->(∀ vs,vs.length=xs.length->K vs->K' vs)->Cz e xs K':=by
 intro xs
 induction xs with
 | nil=>intro K K' h hk;exact hk [] rfl h
 | cons x xs ih =>
  intro K K' h hk;simp only [Cz] at h ⊢
  have ka:∀ (x:Operand) (K K':Value->Prop),Am e x K->(∀ v,K v->K' v)->Am e x K':=by
   intro x K K' h2 hk2
   have kt:∀ (e:Env) (n:Nat),Eu e n K->Eu e n K':=by
    intro e
    induction e with
    | nil=>intro n h;exact h
    | cons p e ihe =>
     intro n h;simp only [Eu] at h ⊢;split
     ·
      rename_i hn;rw [if_pos hn] at h;exact hk2 _ h
     rename_i hn;rw [if_neg hn] at h;exact ihe _ h
   cases x with
   | tmp t=>exact kt e t h2
   | const v=>exact hk2 _ h2
   | global g=>exact hk2 _ h2
   | func f=>exact hk2 _ h2
  exact ka x _ _ h fun v hv=>ih _ _ hv fun vs hl hvs=>hk (v::vs) (by simp [hl]) hvs
theorem C2 {w0:World}{B:LN}{G:List Res} (hH:Heap w0 B w G) (k:Nat) (cs:LV) {T E:TypeId}{n:Nat}{ps:Array (Nat×Operand)}{xs:List Operand} (hu:P.underlying T=some (.slice E)) (hsz:P.szo E=some k) (hz:(P.zeroOf E).isSome=true)
  (hps:ps.toList=(xs.zipIdx).map fun p=>(p.2,p.1)) (hn:n=xs.length) (hb:n * k<=1000000) (hn0:n * k≠0)
  (h:Cz e xs fun vs=>(vs.flatMap fun v=>v.cells.toList)=cs/\(∀ v∈vs,v.cells.size=k)/\∀ g w',Heap w0 B w' (Res.row E k (some ⟨g,0,none⟩) n n cs::G)->R (e.put d (.slice (some ⟨g,0,none⟩) n n)) w' K) :
  B9 P N ⟨d,.buildSlice T n ps,ty,pos,af,gd⟩ e w R K:=by
 refine Ki fun a m ha=>?_;have h':=Qgy xs _ (fun vs=>vs.length=xs.length/\(vs.flatMap fun v=>v.cells.toList)=cs/\(∀ v∈vs,v.cells.size=k)/\∀ g w',Heap w0 B w' (Res.row E k (some ⟨g,0,none⟩) n n cs::G)->R (e.put d (.slice (some ⟨g,0,none⟩) n n)) w' K) h fun vs hl hv=>⟨hl,hv⟩;obtain ⟨hl,h1,h2,hR⟩:=Lt (K:=fun vs=>vs.length=xs.length/\(vs.flatMap fun v=>v.cells.toList)=cs/\(∀ v∈vs,v.cells.size=k)/\∀ g w',Heap w0 B w' (Res.row E k (some ⟨g,0,none⟩) n n cs::G)->R (e.put d (.slice (some ⟨g,0,none⟩) n n)) w' K) ha h';obtain ⟨z,hz⟩:=Xq.1 hz
 have hcl:cs.length=n * k:=by
  rw [<- h1,hn,<- hl]
  have:∀ (vs:LV),(∀ v∈vs,v.cells.size=k)->(vs.flatMap fun v=>v.cells.toList).length=vs.length * k:=by
   intro vs
   induction vs with
   | nil=>intro _;simp
   | cons v vs ih=>intro hv;rw [Yr,Yf,ih fun u hu=>hv u (by simp [hu]),Array.length_toList,hv v (by simp),Y4,Ym];omega
  exact this _ h2
 refine ⟨.slice (some ⟨w.heap.size,0,none⟩) n n,w.alloc (.cells cs.toArray E),m,?_,?_⟩
 ·
  have e1:(ps.map fun (i,x)=>(i,a.eval x)).toList=((xs.map a.eval).zipIdx).map fun p=>(p.2,p.1):=by
   rw [Array.toList_map,hps];simp [List.zipIdx_map]
  have hf:=Qnt k (xs.map a.eval) 0 [] (((Array.range (n * k)).map fun x=>z.cells[x % z.cells.size]!).toList) (by rw [Array.length_toList,Array.size_map,Array.size_range,hl,hn]) h2 (by simp);simp only [X0,Array.toArray_toList,h1] at hf;have hs:=I7 (P:=P) hsz;simp only [execOp,Instr.buildSlice,Yc,run_underlying hu,hs,Ya];rw [if_neg (by omega),if_neg hn0];simp only [Yc,Zh hz,Yb,Ya,e1,hf,Mx];rfl
 have:=hH.row E (n:=n) (cap:=n) (sz:=k) cs [] hcl (by rw [Yz];exact hcl) (Y2 _) (by
  have:n<=n * k:=Nat.le_mul_of_pos_right _ (Nat.pos_of_ne_zero fun h=>hn0 (by rw [h];simp));omega)
 rw [Yz] at this;exact hR _ _ this
theorem Qmj {w:World}{p:Addr}{n sz:Nat}{xs:LV} (h:RS w (some p) n sz xs) (hs:p.spot=none) (k:Nat) (ys:LV) (hy:∀ j u,ys[j]? = some u->xs[k+j]? = some u):Reads w (p.add k) ys:=by
 intro j u hu;rw [add_add p hs];exact h.2.2 p rfl _ u (hy j u hu)
end
def Keeps {α:Type} (P:Program) (s:Sem α):Prop:=∀ w a w',s.run P w=.ok a w'->w'=w
section
variable {P:Program}
theorem Keeps.pure {α:Type} (a:α):Keeps P (Pure.pure a:Sem α):=by
 intro w b w' h;simp only [Yb,Result.ok.injEq] at h;exact h.2.symm
theorem Keeps.bind {α β:Type}{s:Sem α}{f:α->Sem β} (h:Keeps P s) (k:∀ a,Keeps P (f a)):Keeps P (s >>= f):=by
 intro w b w' hr;rw [Yc] at hr;cases hs:s.run P w with
 | ok a w1 =>
  rw [hs,Ya] at hr;rw [k a w1 b w' hr,h w a w1 hs]
 | halt x w1=>rw [hs] at hr;simp [Result.andThen] at hr
theorem Keeps.load (a:Addr):Keeps P (Go.load a):=by
 intro w v w' h;unfold Go.load at h;cases hc:w.cell? a with
 | none =>
  simp only [Ua,hc] at h;cases hf:World.farLoad P w a (Mode.plain == Mode.atomic) with
  | ok x=>obtain ⟨x1,x2⟩:=x;rw [hf] at h;simp only [Result.ok.injEq] at h;exact h.2.symm
  | error x=>rw [hf] at h;simp at h
 | some x=>simp [Ua,hc] at h;exact h.2.symm
theorem Keeps.stuck {α:Type} (why:String):Keeps P (Go.stuck why:Sem α):=by
 intro w v w' h;simp at h
theorem Keeps.program {α:Type}{f:Program->Sem α} (h:∀ p,Keeps P (f p)):Keeps P (Go.program >>= f):=by
 refine Keeps.bind ?_ h;intro w v w' h;simp [Go.program,Ua] at h;exact h.2.symm
theorem Keeps.underlying (T:TypeId):Keeps P (Go.underlying T):=by
 refine Keeps.program fun p=>?_;cases p.underlying T with
 | some d=>exact Keeps.pure d
 | none=>exact Keeps.stuck _
theorem Keeps.typeInfo (T:TypeId):Keeps P (Go.typeInfo T):=by
 refine Keeps.program fun p=>?_;cases p.info? T with
 | some d=>exact Keeps.pure d
 | none=>exact Keeps.stuck _
theorem Keeps.sizeOf (T:TypeId):Keeps P (Go.sizeOf T):=Keeps.bind (Keeps.typeInfo T) fun _=>Keeps.pure _
theorem Keeps.isAgg (T:TypeId):Keeps P (Go.isAgg T):=by
 refine Keeps.bind (Keeps.underlying T) fun d=>?_;cases d <;> exact Keeps.pure _
theorem Keeps.loadCellsFrom (a:Addr):∀ (n i:Nat) (acc:Array Value),Keeps P (Go.loadCellsFrom a i n acc)
 | 0,_,acc=>Keeps.pure acc
 | n+1,i,acc=>Keeps.bind (Keeps.load _) fun v=>Keeps.loadCellsFrom a n (i+1) (acc.push v)
theorem Keeps.loadVar (T:TypeId) (a:Addr):Keeps P (Go.loadVar T a):=by
 refine Keeps.bind (Keeps.isAgg T) fun b=>?_;cases b with
 | true=>exact Keeps.bind (Keeps.sizeOf T) fun n=>Keeps.bind (Keeps.loadCellsFrom a n 0 #[]) fun _=>Keeps.pure _
 | false=>exact Keeps.load a
theorem Keeps.loadAt (T:TypeId) (x:Value):Keeps P (Instr.loadAt T x):=by
 unfold Instr.loadAt;refine Keeps.bind ?_ fun a=>Keeps.loadVar T a;unfold Instr.sureAddr;split
 ·
  exact Keeps.pure _
 exact Keeps.stuck _
theorem Qvf {ops:Array Oper}{Q:Exit->Act->World->Prop}{j:Nat}{o:Oper}{T:TypeId}{x:Operand}{K:Act->World->Prop}{a:Act}{w:World} (hj:ops[j]? = some o) (ho:o.op=.load T x)
  (h:wpOp P ops Q j K a w):wpOp P ops Q j (fun a' w'=>w'=w/\K a' w') a w:=by
 unfold wpOp at *;simp only [hj] at *;split
 ·
  rename_i hw;simp only [hw,if_true] at h;rcases h with h | h
  ·
   refine .inl ?_;unfold Oper.wp at *;have e:execOp a.eval o=(do pure (.value (<- Instr.loadAt T (a.eval x))):Sem Next):=by simp only [execOp,ho]
   rw [e] at h ⊢;cases hr:(Instr.loadAt T (a.eval x)).run P w with
   | ok v w' =>
    have hk:=Keeps.loadAt (P:=P) T (a.eval x) w v w' hr;subst hk;simp only [Yc,hr,Ya,Yb,Oper.upon] at h ⊢;exact ⟨trivial,h⟩
   | halt e w' =>
    simp only [Yc,hr,Result.andThen] at h ⊢;cases e <;> first | (simp at h;done) | exact h
  exact .inr h
 rename_i hw;simp only [hw] at h;exact ⟨trivial,h⟩
theorem Qcu {ops:Array Oper}{md:Region.Mode}{Q:Exit->Act->World->Prop}{i:Nat}{oi:Oper}{v:Value}{w:World} (hi:ops[i]? = some oi) (hsel:∀ (j:Nat) (o:Oper) cs b,ops[j]? = some o->o.op≠.select cs b)
  (hQ:∀ c a w,Q (.panic c) (a.put oi.dst v) w->Q (.panic c) a w) (S:Nat->Prop) (hS:∀ (j:Nat) oj,S j->ops[j]? = some oj->∃ e∈oj.after,Region.binds md e=true/\(e.on=i∨S e.on)) :
  ∀ (fuel:Nat) (listed:Array Bool) (a:Act),
   (∀ j,S j->listed.getD j true=false)->(∀ j oj,ops[j]? = some oj->j≠i->listed.getD j true=false->¬ S j->oi.apart ops oj=true/\∃ T x,oj.op=.load T x) ->
   i∈Region.ready md ops listed->YieldsIf P ops (fun w'=>w'=w) oi v a ->
   wpAny P md ops Q fuel (listed.setIfInBounds i true) (a.put oi.dst v) w->wpAny P md ops Q (fuel+1) listed a w:=by
 intro fuel
 induction fuel with
 | zero =>
  intro listed a _ _ hr hy H;refine ⟨fun h=>(by rw [h] at hr;cases hr),fun j hj=>?_⟩;by_cases hji:j=i
  ·
   subst hji;exact hy.wpOp hi rfl H
  have:=ready_mono hj hji;rw [H.1] at this;cases this
 | succ fuel ih =>
  intro listed a hun hfree hr hy H;refine ⟨fun h=>(by rw [h] at hr;cases hr),fun j hj=>?_⟩;by_cases hji:j=i
  ·
   subst hji;exact hy.wpOp hi rfl H
  have h1:=H.2 j (ready_mono hj hji);obtain ⟨hjun,oj,hoj,hall⟩:=mem_ready.1 hj
  have hun':∀ k,listed.getD k true=false->listed[k]?.getD false=false:=fun k h0=>by
   rcases Xw k listed.size with h' | h'
   ·
    simpa [h'] using h0
   simp [Array.getElem?_eq_none h']
  have hjS:¬ S j:=fun h=>by
   obtain ⟨e,he,hb,h2⟩:=hS j oj h hoj;have h3:=hall e he hb;have h4:=hun' e.on (h2.elim (fun h=>h ▸ (mem_ready.1 hr).1) (hun e.on));simp [h4] at h3
  obtain ⟨hap,T,x,hop⟩:=hfree j oj hoj hji hjun hjS;have h2:=Qvf hoj hop (wpOp_putIf hoj hap (fun cs b=>hsel i oi cs b hi) (fun cs b=>hsel j oj cs b hoj) hQ hy h1);refine wpOp_mono (fun a' w' h3=>?_) h2;obtain ⟨rfl,h4,h5⟩:=h3;refine ih (listed.setIfInBounds j true) a' (fun k hk=>?_) (fun k ok hk hki hkun hno=>?_) (ready_mono hr (Ne.symm hji)) h4 ?_
  ·
   rw [getD_set_ne true (fun h:j=k=>hjS (by rw [h];exact hk))];exact hun k hk
  ·
   refine hfree k ok hk hki ?_ hno;by_cases hjk:j=k
   ·
    subst hjk;exact hjun
   rw [getD_set_ne true hjk] at hkun;exact hkun
  rw [Array.setIfInBounds_comm _ _ hji];exact h5
end
def QGa (ops:Array Oper) (oi:Oper) (j:Nat):Bool :=
 match ops[j]? with
 | some oj=>(match oj.op with | .load .. => true | _=>false) && oi.apart ops oj
 | none=>false
def Td (ops:Array Oper) (listed:Array Bool) (i:Nat) (S:LN) (j:Nat):LN :=
 match ops[j]? with
 | some oj=>if ! listed.getD j true && oj.after.any (fun e=>Region.binds .any e && (e.on == i || S.contains e.on)) then j::S else S
 | none=>S
def Qm7 (ops:Array Oper) (listed:Array Bool) (i:Nat):LN:=(List.range ops.size).foldl (Td ops listed i) []
def Quo (ops:Array Oper) (listed:Array Bool) (i:Nat):Bool :=
 match ops[i]? with
 | none=>false
 | some oi=>(List.range ops.size).all fun j=>j == i || listed.getD j true || (Qm7 ops listed i).contains j || QGa ops oi j
def WaitP (ops:Array Oper) (listed:Array Bool) (i:Nat) (S:LN) (j:Nat):Prop:=listed.getD j true=false/\∃ oj,ops[j]? = some oj/\∃ e∈oj.after,Region.binds .any e=true/\(e.on=i∨e.on∈S)
theorem WaitP.mono {ops:Array Oper}{listed:Array Bool}{i j k:Nat}{S:LN} (h:WaitP ops listed i S j):WaitP ops listed i (k::S) j:=by
 obtain ⟨h1,oj,h2,e,h3,h4,h5⟩:=h;exact ⟨h1,oj,h2,e,h3,h4,h5.imp_right (X4 _)⟩
theorem Qyw {ops:Array Oper}{listed:Array Bool}{i:Nat}{S:LN} (h:∀ j∈S,WaitP ops listed i S j) (k:Nat):∀ j∈Td ops listed i S k,WaitP ops listed i (Td ops listed i S k) j:=by
 unfold Td;cases hk:ops[k]? with
 | none=>exact h
 | some oj =>
  simp only;split
  ·
   rename_i hc;rw [Yd] at hc;obtain ⟨h1,h2⟩:=hc;obtain ⟨e,he,hb⟩:=Array.any_eq_true'.1 h2;simp only [Yd,Bool.or_eq_true,beq_iff_eq,X1] at hb;intro j hj;rcases Ys.1 hj with rfl | hj
   ·
    exact ⟨by simpa using h1,oj,hk,e,he,hb.1,hb.2.imp_right (X4 _)⟩
   exact (h j hj).mono
  exact h
theorem Qpa {ops:Array Oper}{listed:Array Bool}{i:Nat}:∀ (l S:LN),(∀ j∈S,WaitP ops listed i S j)->∀ j∈l.foldl (Td ops listed i) S,WaitP ops listed i (l.foldl (Td ops listed i) S) j
 | [],_,h=>h
 | k::l,S,h=>Qpa l _ (Qyw h k)
def Wb (ops:Array Oper) (listed:Array Bool) (i:Nat) (oi:Oper) (j:Nat):Prop:=listed.getD j true=false/\j∈Qm7 ops listed i
theorem Qeo {ops:Array Oper}{i:Nat}{oi:Oper}{listed:Array Bool} (hi:ops[i]? = some oi) (h:Quo ops listed i=true) (j:Nat) (oj:Oper)
  (hS:Wb ops listed i oi j) (hj:ops[j]? = some oj):∃ e∈oj.after,Region.binds .any e=true/\(e.on=i∨Wb ops listed i oi e.on):=by
 have key:∀ j∈Qm7 ops listed i,WaitP ops listed i (Qm7 ops listed i) j:=Qpa _ [] (by simp);obtain ⟨_,oj',h2,e,h3,h4,h5⟩:=key j hS.2;obtain rfl:oj=oj':=Option.some.inj (hj.symm.trans h2);exact ⟨e,h3,h4,h5.imp_right fun h=>⟨(key _ h).1,h⟩⟩
theorem Qgz {ops:Array Oper}{i:Nat}{oi:Oper}{listed:Array Bool} (hi:ops[i]? = some oi) (h:Quo ops listed i=true) (j:Nat) (oj:Oper)
  (hj:ops[j]? = some oj) (hne:j≠i) (hun:listed.getD j true=false) (hno:¬ Wb ops listed i oi j) :
  oi.apart ops oj=true/\∃ T x,oj.op=.load T x:=by
 simp only [Quo,hi,Y5,List.mem_range] at h;have h4:=h j (Array.getElem?_eq_some_iff.1 hj).1;simp only [Bool.or_eq_true,beq_iff_eq,hne,hun,X1,false_or,Yo] at h4;have h1:=h4.resolve_left fun h=>hno ⟨hun,h⟩;simp only [QGa,hj,Yd] at h1;refine ⟨h1.2,?_⟩;cases hop:oj.op <;> simp [hop] at h1 ⊢
def Te (ops:Array Oper):List (Nat×Nat)->Array Bool->Bool
 | [],listed=>(Region.ready .any ops listed).isEmpty
 | (i,t)::plan,listed =>
  (decide (i < ops.size)) && (match t with
   | 0=>Region.free .any ops listed i && (Region.ready .any ops listed).contains i
   | 1=>(((ops[i]?).map fun o=>match o.op with | .load .. => true | _=>false).getD false && Quo ops listed i) && (Region.ready .any ops listed).contains i
   | _=>Region.ready .any ops listed == [i]) && Te ops plan (listed.setIfInBounds i true)
def bare (w:World):World:={ w with heap:=#[] }
theorem Ss (w w':World):Ext (bare w) w':=⟨fun i o h=>by simp [bare] at h⟩
theorem Qvg (w:World) (R:Env->World->(Env->World->Prop)->Prop):Na (bare w) R=R:=by
 funext e w' K;exact propext ⟨fun h=>h.2,fun h=>⟨Ss _ _,h⟩⟩
theorem Qvh {P:Program}{N:Nat}{ops:List Oper}{w0:World}{Q:Exit->Act->World->Prop}{K:Env->World->Prop} (hN:ops.all (Ct N)=true) (hsel:Region.noSelect ops.toArray=true)
  (hQ:∀ c a w (d:Option Tmp) v,Q (.panic c) (a.put d v) w->Q (.panic c) a w)
  (hK:∀ e a w n,Fits N e a->K e w->Q .normal a (w.drewN n)):∀ (plan:List (Nat×Nat)) (fuel:Nat) (listed:Array Bool) (e:Env) (a:Act) (w:World) (n:Nat),
   plan.length<=fuel->Te ops.toArray plan listed=true->Fits N e a->Av P N ops (bare w0) (A6 ops (plan.map fun p=>(p.1,p.2 == 0))) e w K ->
   wpAny P .any ops.toArray Q fuel listed a (w.drewN n):=by
 intro plan
 induction plan with
 | nil =>
  intro fuel listed e a w n _ hp ha h;simp only [Te,Xd] at hp;exact wpAny_done hp (hK e a w n ha h) fuel
 | cons p plan ih =>
  obtain ⟨i,t⟩:=p;intro fuel listed e a w n hf hp ha h;simp only [Te,Yd,decide_eq_true_eq] at hp;obtain ⟨⟨hi,hstep⟩,hp⟩:=hp;have hi':i < ops.length:=by simpa using hi
  obtain ⟨o,ho⟩:∃ o,ops[i]? = some o:=⟨ops[i],Yg hi'⟩;have hoa:ops.toArray[i]? = some o:=by simpa using ho
  have hod:Ct N o=true:=by
   rw [Y5] at hN;exact hN o (Yk ho)
  have hpl:A6 ops (((i,t)::plan).map fun p=>(p.1,p.2 == 0))=(t == 0,o)::A6 ops (plan.map fun p=>(p.1,p.2 == 0)):=by simp [A6,ho]
  rw [hpl] at h;cases fuel with
  | zero=>simp at hf
  | succ fuel =>
  have hf':plan.length<=fuel:=by simpa using hf
  rcases Pf ha h with ⟨e',ha',h',hw⟩ | ⟨e',ha',h',hw⟩
  ·
   have h':K1 P N (Iw P o.op) (t == 0) o e' (bare w0) w (Av P N ops (bare w0) (A6 ops (plan.map fun p=>(p.1,p.2 == 0)))) K:=h'
   match t,hstep,h' with
   | 0,hstep,h' =>
    simp only [Yd] at hstep;cases hpo:Iw P o.op with
    | true =>
     rw [hpo] at h';simp only [K1,pw,beq_self_eq_true] at h';obtain ⟨v,hv,hr⟩:=Nh ha' h';refine wpAny_take hoa hsel hstep.1 hstep.2 (fun c a w=>hQ c a w o.dst v) (.inl ⟨hw,fun w'=>hr w' (Ss _ _)⟩) ?_;exact ih fuel _ _ _ w n hf' hp (ha'.put' hod v) hv
    | false=>rw [hpo] at h';exact h'.elim
   | 1,hstep,h' =>
    simp only [Yd] at hstep
    have hpo:Iw P o.op=true:=by
     have h1:=hstep.1.1;rw [hoa] at h1;simp only [Option.map_some,Option.getD_some] at h1;cases hop:o.op <;> simp [hop] at h1 <;> rfl
    rw [hpo] at h';simp only [K1,pw,show ((1:Nat) == 0)=false from rfl] at h';obtain ⟨v,hv,hr⟩:=Nh ha' h';refine Qcu hoa (Region.noSelect_spec hsel) (fun c a w=>hQ c a w o.dst v) (Wb ops.toArray listed i o) (Qeo hoa hstep.1.2) fuel listed a (fun j hj=>hj.1) (Qgz hoa hstep.1.2) (by simpa using hstep.2) (.inl ⟨hw,fun w' hw'=>by subst hw';exact hr _ (Ext.drewN w n)⟩) ?_;exact ih fuel _ _ _ w n hf' hp (ha'.put' hod v) hv
   | t+2,hstep,h' =>
    simp only [beq_iff_eq] at hstep;refine wpAny_all hstep (by simp) ?_;intro j hj;simp only [Yx] at hj;subst hj;unfold wpOp;simp only [hoa,hw,if_true];refine .inl ?_;rw [show ((t+2:Nat) == 0)=false from rfl] at h';cases hpo:Iw P o.op with
    | true =>
     rw [hpo] at h';simp only [K1,pw] at h';obtain ⟨v,hv,hr⟩:=Nh ha' h';unfold Oper.wp;rw [hr (w.drewN n) (Ext.drewN w n)];exact ih fuel _ _ _ w n hf' hp (ha'.put' hod v) hv
    | false =>
     rw [hpo] at h';have h':QF2 P N o e' (bare w0) w (Av P N ops (bare w0) (A6 ops (plan.map fun p=>(p.1,p.2 == 0)))) K:=h';exact h' a n _ Q ha' fun v w' m hv=>ih fuel _ _ _ w' m hf' hp (ha'.put' hod v) hv.2
  have hnext:wpAny P .any ops.toArray Q fuel (listed.setIfInBounds i true) (a.put o.dst undef) (w.drewN n) :=
   ih fuel _ _ _ w n hf' hp (ha'.put' hod undef) h'
  match t,hstep with
  | 0,hstep =>
   simp only [Yd] at hstep;exact wpAny_take hoa hsel hstep.1 hstep.2 (fun c a w=>hQ c a w o.dst undef) (.inr ⟨hw,rfl⟩) hnext
  | 1,hstep =>
   simp only [Yd] at hstep;exact Qcu hoa (Region.noSelect_spec hsel) (fun c a w=>hQ c a w o.dst undef) (Wb ops.toArray listed i o) (Qeo hoa hstep.1.2) fuel listed a (fun j hj=>hj.1) (Qgz hoa hstep.1.2) (by simpa using hstep.2) (.inr ⟨hw,rfl⟩) hnext
  | t+2,hstep =>
   simp only [beq_iff_eq] at hstep;refine wpAny_all hstep (by simp) ?_;intro j hj;simp only [Yx] at hj;subst hj;unfold wpOp;simp only [hoa,hw,Yo,if_false];exact hnext
theorem Qw {P:Program}{fn:Func}{F:Value->World->Prop}{N:Nat}{k:List It}{e:Env}{w:World} (ks:LN) (plan:List (Nat×Nat)) {id:Nat}{ops:List Oper}{l:List (Bool×Oper)}
  (hm:P.follows .mixedOrders=true) (hB:(Te ops.toArray plan (Array.replicate ops.toArray.size false) && Region.noSelect ops.toArray && decide (plan.length<=ops.length))=true) (hN:ops.all (Ct N)=true) (hl:A6 ops (plan.map fun p=>(p.1,p.2 == 0))=l)
  (h:∀ K:Env->World->Prop,(∀ e w,VC ⟨P,fn,F,N⟩ k e w->K e w)->Av P N ops (bare w) l e w (Dh ks K)):VC ⟨P,fn,F,N⟩ (.code (.region id ops.toArray true)::k) e w:=by
 intro a n ha;simp only [Yd,decide_eq_true_eq] at hB;obtain ⟨⟨hB1,hB2⟩,hB3⟩:=hB;refine wp_region_any (P:=P) hm ?_;subst hl;refine Qvh (w0:=w) (K:=Dh ks (VC ⟨P,fn,F,N⟩ k)) hN hB2 (fun c a w d v hq=>T4 d v hq) (fun e a w n ha hv=>?_) plan _ _ e a w (n+1) (by simpa using hB3) hB1 ha (h _ fun _ _ hv=>hv);exact ((Kj ks e _).1 hv) a n (ha.sel ks)
attribute [go_sem] Qvg
inductive Nx where
 | seq (pre:List (Nat×Bool)):Nx
 | two (pre:List (Nat×Bool)) (i j:Nat) (k k':Nx):Nx
 | three (pre:List (Nat×Bool)) (i j x:Nat) (k k' k'':Nx):Nx
def Mz (ops:Array Oper):Nx->Nat->Array Bool->Bool
 | .seq pre,fuel,listed=>decide (pre.length<=fuel) && match Ko ops pre listed with
  | some l=>(Region.ready .any ops l).isEmpty
  | none=>false
 | .two pre i j k k',fuel,listed=>decide (pre.length+1<=fuel) && match Ko ops pre listed with
  | some l=>Region.ready .any ops l == [i,j] && decide (i < ops.size) && decide (j < ops.size) && Mz ops k (fuel - pre.length - 1) (l.setIfInBounds i true) && Mz ops k' (fuel - pre.length - 1) (l.setIfInBounds j true)
  | none=>false
 | .three pre i j x k k' k'',fuel,listed=>decide (pre.length+1<=fuel) && match Ko ops pre listed with
  | some l=>Region.ready .any ops l == [i,j,x] && decide (i < ops.size) && decide (j < ops.size) && decide (x < ops.size) && Mz ops k (fuel - pre.length - 1) (l.setIfInBounds i true) && Mz ops k' (fuel - pre.length - 1) (l.setIfInBounds j true) && Mz ops k'' (fuel - pre.length - 1) (l.setIfInBounds x true)
  | none=>false
def Lm (P:Program) (N:Nat) (ops:List Oper) (w0:World):Nx->Env->World->(Env->World->Prop)->Prop
 | .seq pre,e,w,K=>Av P N ops w0 (A6 ops pre) e w K
 | .two pre i j k k',e,w,K=>Av P N ops w0 (A6 ops pre) e w fun e w =>
   Av P N ops w0 (A6 ops [(i,false)]) e w (fun e w=>Lm P N ops w0 k e w K)/\Av P N ops w0 (A6 ops [(j,false)]) e w (fun e w=>Lm P N ops w0 k' e w K)
 | .three pre i j x k k' k'',e,w,K=>Av P N ops w0 (A6 ops pre) e w fun e w =>
   Av P N ops w0 (A6 ops [(i,false)]) e w (fun e w=>Lm P N ops w0 k e w K)/\Av P N ops w0 (A6 ops [(j,false)]) e w (fun e w=>Lm P N ops w0 k' e w K)/\Av P N ops w0 (A6 ops [(x,false)]) e w (fun e w=>Lm P N ops w0 k'' e w K)
section
variable {P:Program}{N:Nat}{ops:List Oper}{w0:World}{Q:Exit->Act->World->Prop}
theorem Qq3 {K:Env->World->Prop} (hN:ops.all (Ct N)=true) (hsel:Region.noSelect ops.toArray=true)
  (hQ:∀ c a w (d:Option Tmp) v,Q (.panic c) (a.put d v) w->Q (.panic c) a w)
  (hK:∀ e a w n,Fits N e a->K e w->Q .normal a (w.drewN n)):∀ (t:Nx) (fuel:Nat) (listed:Array Bool) (e:Env) (a:Act) (w:World) (n:Nat),
   Mz ops.toArray t fuel listed=true->Fits N e a->Ext w0 w->Lm P N ops w0 t e w K ->
   wpAnyH P .any ops.toArray Q (fun w'=>Ext w0 w') fuel listed a (w.drewN n):=by
 intro t
 induction t with
 | seq pre =>
  intro fuel listed e a w n ht ha hx h;simp only [Mz,Yd,decide_eq_true_eq] at ht;obtain ⟨hf,ht⟩:=ht;cases hp:Ko ops.toArray pre listed with
  | none=>rw [hp] at ht;cases ht
  | some l =>
   rw [hp] at ht;simp only [Xd] at ht;exact Q0 hN hsel hQ pre fuel listed l e a w n hf hp ha hx h fun e a w n h1 _ h3=>wpAnyH_done ht (hK e a w n h1 h3) _
 | two pre i j k k' ihk ihk' =>
  intro fuel listed e a w n ht ha hx h;simp only [Mz,Yd,decide_eq_true_eq] at ht;obtain ⟨hf,ht⟩:=ht;cases hp:Ko ops.toArray pre listed with
  | none=>rw [hp] at ht;cases ht
  | some l =>
   rw [hp] at ht;simp only [Yd,beq_iff_eq,decide_eq_true_eq] at ht;obtain ⟨⟨⟨⟨hr,hi⟩,hj⟩,h1⟩,h2⟩:=ht;refine Q0 hN hsel hQ pre fuel listed l e a w n (by omega) hp ha hx h fun e a w n g1 g2 g3=>?_;obtain ⟨m,hm⟩:∃ m,fuel - pre.length=m+1:=⟨fuel - pre.length - 1,by omega⟩;rw [hm];have hm':fuel - pre.length - 1=m:=by omega
   rw [hm'] at h1 h2;refine wpAnyH_all hr (by simp) ?_;intro x hx2;simp only [Ys,Xv,or_false] at hx2;rcases hx2 with rfl | rfl
   ·
    exact Nn hN (by simpa using hi) g1 g2 g3.1 fun e a w n f1 f2 f3=>⟨f2.trans (Ext.drewN w n),ihk m _ e a w n h1 f1 f2 f3⟩
   exact Nn hN (by simpa using hj) g1 g2 g3.2 fun e a w n f1 f2 f3=>⟨f2.trans (Ext.drewN w n),ihk' m _ e a w n h2 f1 f2 f3⟩
 | three pre i j y k k' k'' ihk ihk' ihk'' =>
  intro fuel listed e a w n ht ha hx h;simp only [Mz,Yd,decide_eq_true_eq] at ht;obtain ⟨hf,ht⟩:=ht;cases hp:Ko ops.toArray pre listed with
  | none=>rw [hp] at ht;cases ht
  | some l =>
   rw [hp] at ht;simp only [Yd,beq_iff_eq,decide_eq_true_eq] at ht;obtain ⟨⟨⟨⟨⟨⟨hr,hi⟩,hj⟩,hy⟩,h1⟩,h2⟩,h3⟩:=ht;refine Q0 hN hsel hQ pre fuel listed l e a w n (by omega) hp ha hx h fun e a w n g1 g2 g3=>?_;obtain ⟨m,hm⟩:∃ m,fuel - pre.length=m+1:=⟨fuel - pre.length - 1,by omega⟩;rw [hm];have hm':fuel - pre.length - 1=m:=by omega
   rw [hm'] at h1 h2 h3;refine wpAnyH_all hr (by simp) ?_;intro x hx2;simp only [Ys,Xv,or_false] at hx2;rcases hx2 with rfl | rfl | rfl
   ·
    exact Nn hN (by simpa using hi) g1 g2 g3.1 fun e a w n f1 f2 f3=>⟨f2.trans (Ext.drewN w n),ihk m _ e a w n h1 f1 f2 f3⟩
   ·
    exact Nn hN (by simpa using hj) g1 g2 g3.2.1 fun e a w n f1 f2 f3=>⟨f2.trans (Ext.drewN w n),ihk' m _ e a w n h2 f1 f2 f3⟩
   exact Nn hN (by simpa using hy) g1 g2 g3.2.2 fun e a w n f1 f2 f3=>⟨f2.trans (Ext.drewN w n),ihk'' m _ e a w n h3 f1 f2 f3⟩
end
theorem Qnu {P:Program}{fn:Func}{F:Value->World->Prop}{N:Nat}{k:List It}{e:Env}{w:World} (w0:World) (hx:Ext w0 w) (ks:LN) (t:Nx) {id:Nat}{ops:List Oper}
  (hm:P.follows .mixedOrders=true) (hB:(Mz ops.toArray t ops.toArray.size (Array.replicate ops.toArray.size false) && Region.noSelect ops.toArray)=true) (hN:ops.all (Ct N)=true)
  (h:∀ K:Env->World->Prop,(∀ e w,VC ⟨P,fn,F,N⟩ k e w->K e w)->Lm P N ops w0 t e w (Dh ks K)):VC ⟨P,fn,F,N⟩ (.code (.region id ops.toArray true)::k) e w:=by
 intro a n ha;simp only [Yd] at hB;obtain ⟨hB1,hB2⟩:=hB;refine wp_region_held (S:=fun w'=>Ext w0 w') hm ?_;refine Qq3 (K:=Dh ks (VC ⟨P,fn,F,N⟩ k)) hN hB2 (fun c a w d v hq=>T4 d v hq) (fun e a w n ha hv=>?_) t _ _ e a w (n+1) hB1 ha hx (h _ fun _ _ hv=>hv);exact ((Kj ks e _).1 hv) a n (ha.sel ks)
def Bw {α:Type} (f:α->LV) (l:List α):LV:=l.flatMap f
section
variable {α:Type}{f:α->LV}{k:Nat}
theorem Zs (hk:∀ x,(f x).length=k) (l:List α):(Bw f l).length=l.length * k:=by
 induction l with
 | nil=>simp [Bw]
 | cons x l ih=>simp only [Bw,Yr,Yf,Y4,Yy] at ih ⊢;rw [ih,hk];omega
theorem R9 (l m:List α):Bw f (l++m)=Bw f l++Bw f m:=by simp [Bw]
theorem Vj (x:α):Bw f [x]=f x:=by simp [Bw]
theorem Vk (hk:∀ x,(f x).length=k):∀ (l:List α) (i:Nat) (x:α),l[i]? = some x->∀ j u,(f x)[j]? = some u->(Bw f l)[i * k+j]? = some u:=by
 intro l
 induction l with
 | nil=>intro i x h;simp at h
 | cons y l ih =>
  intro i x h j u hu;have hj:j < k:=by have:=(Yn.1 hu).1;rwa [hk] at this
  cases i with
  | zero =>
   simp at h;subst h;simp only [Bw,Yr];rw [X9,Xx,Y6 (by rw [hk];exact hj)];exact hu
  | succ i =>
   have:=ih i x (by simpa using h) j u hu;simp only [Bw,Yr] at this ⊢;rw [Xk (by rw [hk,Yy];omega),<- this,hk]
   congr 1
   rw [Yy];omega
theorem Qg0 (hk:∀ x,(f x).length=k):∀ (l:List α) (i:Nat),(Bw f l).take (i * k)=Bw f (l.take i):=by
 intro l
 induction l with
 | nil=>intro i;simp [Bw]
 | cons y l ih =>
  intro i;cases i with
  | zero=>simp [Bw]
  | succ i =>
   have:=ih i;simp only [Bw,Yr,List.take_succ_cons] at this ⊢;rw [Yy,Ub,List.take_append,hk,Xa (by rw [hk];omega),show k+i * k - k=i * k by omega,this]
theorem Qq4 (hk:∀ x,(f x).length=k):∀ (l:List α) (i:Nat),(Bw f l).drop (i * k)=Bw f (l.drop i):=by
 intro l
 induction l with
 | nil=>intro i;simp [Bw]
 | cons y l ih =>
  intro i;cases i with
  | zero=>simp [Bw]
  | succ i =>
   have:=ih i;simp only [Bw,Yr,List.drop_succ_cons] at this ⊢;rw [Yy,Ub,Xt,hk,List.drop_of_length_le (by rw [hk];omega),show k+i * k - k=i * k by omega,this,X0]
theorem Qj2 (hk:∀ x,(f x).length=k) (l:List α) (i:Nat) (y:α) (hi:i < l.length):(Bw f l).take (i * k)++f y++(Bw f l).drop (i * k+k)=Bw f (l.set i y):=by
 rw [Qg0 hk,show i * k+k=(i+1) * k by rw [Yy],Qq4 hk,Y9,if_pos hi,R9,Yv]
 congr 1
theorem Qep (h1:∀ x,∀ v∈f x,v.oneCell'=true) (l:List α):∀ v∈Bw f l,v.oneCell'=true:=by
 intro v hv;obtain ⟨x,_,hx⟩:=List.mem_flatMap.1 hv;exact h1 x v hx
theorem Mw {w:World}{p:Addr}{n:Nat} (hk:∀ x,(f x).length=k) {l:List α} (h:RS w (some p) n k (Bw f l)) (hp:p.spot=none) {i:Nat}{x:α} (hi:l[i]? = some x):Reads w (p.add (i * k)) (f x) :=
 Qmj h hp _ _ fun j u hu=>Vk hk l i x hi j u hu
end
theorem QCs {α:Type} (zs:List α) (k:Nat) (hk:zs.length=k) (hk0:0 < k):∀ (c j:Nat),j < c * k->(Ye c zs).flatten[j]? = zs[j % k]? := by
 intro c
 induction c with
 | zero=>intro j h;simp at h
 | succ c ih =>
  intro j h;rw [X5,Uc];rcases Xw j k with h1 | h1
  ·
   rw [Y6 (by omega),Nat.mod_eq_of_lt h1]
  rw [Xk (by omega),hk,ih (j - k) (by rw [Yy] at h;omega)]
  congr 1
  conv=>rhs;rw [show j=(j - k)+k by omega,Nat.add_mod_right]
theorem Qto {α:Type} (zs:List α) (k:Nat) (hk:zs.length=k) (c:Nat):(Ye c zs).flatten.length=c * k:=by
 induction c with
 | zero=>simp
 | succ c ih=>rw [X5,Uc,Yf,ih,Yy];omega
section
variable {P:Program}{N:Nat}{d:Option Tmp}{ty:TypeId}{pos:String}{af:Array Edge}{gd:Option (Nat×Bool)}{e:Env}{w:World}{R:Env->World->(Env->World->Prop)->Prop}{K:Env->World->Prop}
theorem Qgf {T E:TypeId}{i:TypeInfo}{z:Value}{zs:LV}{k:Nat} (hu:P.underlying T=some (.slice E)) (hi:P.info? E=some i) (hz:i.zero=some z) (hzv:z.cells=zs.toArray) (h1:i.size=k) (hk:zs.length=k) (hk0:0 < k)
  {l c:Nat} (hlc:l<=c) (hb:i.bytes * c<=2 ^ 48) (hc:c<=maxLen) (w:World) :
  (Instr.makeSlice T (.int .i64 l) (.int .i64 c)).run P w=.ok (.slice (some ⟨w.heap.size,0,none⟩) l c) (w.alloc (.cells (Ye c zs).flatten.toArray E)):=by
 have hcm:(c:Int)<=9223372036854775807:=by simp only [maxLen] at hc;omega
 have e1:IntKind.i64.wrap (l:Int)=l:=Sb ⟨by omega,by omega⟩;have e2:IntKind.i64.wrap (c:Int)=c:=Sb ⟨by omega,by omega⟩
 have hb1:((i.bytes * c:Nat):Int)<=281474976710656:=by
  have h:i.bytes * c<=281474976710656:=hb;omega
 have hb':¬ ((i.bytes:Int) * (c:Int) > 281474976710656):=by
  have e3:((i.bytes * c:Nat):Int)=(i.bytes:Int) * (c:Int):=Xj _ _;omega
 have hrow:(Array.range (c * k)).map (fun x=>(zs.toArray:Array Value)[x % zs.toArray.size]!)=(Ye c zs).flatten.toArray:=by
  apply Array.ext
  ·
   simp [Qto zs k hk c]
  intro j h3 h4;have h5:j < c * k:=by simpa using h3
  have h6:=QCs zs k hk hk0 c j h5;have h7:j % k < zs.length:=by rw [hk];exact Nat.mod_lt _ hk0
  rw [Yg (by rw [Qto zs k hk c];exact h5),Yg h7] at h6;simp only [Array.getElem_map,Array.getElem_range,X3,List.size_toArray,hk];rw [getElem!_pos zs.toArray (j % k) (by simpa using h7)];simpa using (Option.some.inj h6).symm
 have hti:∀ w,(typeInfo E).run P w=.ok i w:=fun w=>by simp [typeInfo,hi]
 have hzi:∀ w,(zeroValue E).run P w=.ok z w:=fun w=>by simp [zeroValue,typeInfo,hi,hz]
 have hso:∀ w,(sizeOf E).run P w=.ok k w:=fun w=>by simp [sizeOf,typeInfo,hi,h1]
 simp only [Instr.makeSlice,Yc,run_underlying hu,Ya,asInt,asIntOf,Yb,hti,e1,e2];rw [if_neg (by simp [hb'];omega)];simp only [Yc,W8,Ya,hso,Xn];by_cases hc0:c=0
 ·
  subst hc0;simp only [X9,if_true,Yc,Yb,Ya,Mx];simp [show Array.range 0=#[] from rfl]
 have hck:c * k≠0:=Nat.mul_ne_zero hc0 (by omega);rw [if_neg hck];simp only [Yc,hzi,Ya,Yb,Mx,hzv];rw [<- hrow]
theorem Qq5 {T E:TypeId}{x y:Operand}{zs:LV}{k bytes:Nat} (hu:P.underlying T=some (.slice E)) (hz:(P.info? E).map (fun i=>(i.zero.map Yq,i.size,i.bytes))=some (some zs.toArray,k,bytes)) (hk:zs.length=k) (hk0:0 < k)
  (h:Am e x fun vl=>Am e y fun vc=>∃ l c:Nat,(vl=.int .i64 l/\vc=.int .i64 c/\l<=c/\bytes * c<=281474976710656/\c<=9223372036854775807)/\R (e.put d (.slice (some ⟨w.heap.size,0,none⟩) l c)) (w.alloc (.cells (Ye c zs).flatten.toArray E)) K) :
  B9 P N ⟨d,.makeSlice T x y,ty,pos,af,gd⟩ e w R K :=
 Ki fun a n ha=>by
  obtain ⟨l,c,⟨h1,h2,h3,h4,h5⟩,hR⟩:=Cp (K:=fun vc=>∃ l c:Nat,(a.eval x=.int .i64 l/\vc=.int .i64 c/\l<=c/\bytes * c<=281474976710656/\c<=9223372036854775807)/\R (e.put d (.slice (some ⟨w.heap.size,0,none⟩) l c)) (w.alloc (.cells (Ye c zs).flatten.toArray E)) K) ha
   (Cp (K:=fun vl=>Am e y fun vc=>∃ l c:Nat,(vl=.int .i64 l/\vc=.int .i64 c/\l<=c/\bytes * c<=281474976710656/\c<=9223372036854775807)/\R (e.put d (.slice (some ⟨w.heap.size,0,none⟩) l c)) (w.alloc (.cells (Ye c zs).flatten.toArray E)) K) ha h)
  cases hi:P.info? E with
  | none=>simp [hi] at hz
  | some i =>
   simp only [hi,Option.map_some,Option.some.injEq,Prod.mk.injEq] at hz;obtain ⟨hz1,hz2,hz3⟩:=hz;cases hzz:i.zero with
   | none=>simp [hzz] at hz1
   | some z =>
    simp only [hzz,Option.map_some,Option.some.injEq] at hz1;refine ⟨_,w.alloc (.cells (Ye c zs).flatten.toArray E),n,?_,hR⟩;have:=Qgf hu hi hzz hz1 hz2 hk hk0 h3 (by rw [hz3];exact h4) (by simp only [maxLen];omega) (w.drewN n);simp only [execOp,h1,h2,this,Yc,Ya,Yb];rfl
theorem Qgg {T E:TypeId} (hu:P.underlying T=some (.slice E)) (d:Nat) (a:OA) (n c n' c':Nat) (w:World):(Op.equalIn (d+1) T (.slice a n c) (.slice none n' c')).run P w=.ok a.isNone w:=by
 unfold Op.equalIn;cases a <;> simp [run_underlying hu]
theorem Q1 {T E:TypeId}{KV:Value->Prop} (hu:P.underlying T=some (.slice E)) (a:OA) (n c n' c':Nat) (xo yo:Operand):A3 P .eql T xo yo (.slice a n c) (.slice none n' c') w KV=KV (.bool a.isNone):=by
 refine Ou fun w'=>?_;simp only [Yc];rw [R8 ⟨by simp,by simp⟩];have:(Op.equal T (.slice a n c) (.slice none n' c')).run P w'=.ok a.isNone w':=Qgg hu 9999 a n c n' c' w';simp only [Ya,binOp,Yc,this,Yb]
theorem Heap.hole_at {w0:World}{B:LN}{G:List Res}{r:Res} (h:Heap w0 B w G) (i j:Nat) (hi:G[i]? = some r) {g T k:Nat}{cs:LV}{v:Value} (hj:G[j]? = some (Res.blk g T cs)) (hij:i≠j) (hv:cs[k]? = some v):(holes r.foot w).cell? ⟨g,k,none⟩=some v:=by
 refine Zf (Af (h.at j hj) hv) ?_;obtain ⟨h1,e1⟩:=Yn.1 hi;obtain ⟨h2,e2⟩:=Yn.1 hj;have ha:=List.pairwise_iff_getElem.1 h.apart;rcases Xw i j with h3 | h3
 ·
  have h4:=ha i j h1 h2 h3;rw [e1,e2] at h4;exact fun hb=>h4 g hb (by simp [Res.blk])
 have h4:=ha j i h2 h1 (by omega);rw [e1,e2] at h4;exact h4 g (by simp [Res.blk])
theorem Qq6 {T sz n cap m:Nat}{a:OA}{xs:LV} (h:(Res.row T sz a n cap xs).holds w) (hm:m<=n):(Res.row T sz a m cap (xs.take (m * sz))).holds w:=by
 obtain ⟨h1,h2,h3,h4⟩:=h;have hms:m * sz<=n * sz:=Yl _ hm;refine ⟨by rw [Yt];omega,by omega,h3,?_⟩;rcases h4 with ⟨rfl,hn,hc⟩ | ⟨g,rest,fz,rfl,hg,hl,hf⟩
 ·
  exact .inl ⟨rfl,by omega,hc⟩
 refine .inr ⟨g,xs.drop (m * sz)++rest,fz,rfl,?_,?_,hf⟩
 ·
  rw [<- Yv,Y1];exact hg
 rw [<- Yv,Y1];exact hl
end
end Go.Eng
