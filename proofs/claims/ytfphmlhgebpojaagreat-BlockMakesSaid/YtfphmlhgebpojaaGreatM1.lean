/- A program logic over the model, and what this program's functions do by it: part 1. No conditions: a library of lemmas. -/
import Derived.Deep.Quiet
import Derived.Lib.Hide
import Derived.OrdersHeld
import Derived.RangeFuncLeaves
import Derived.RangeFuncNested
import Derived.RangeFuncRecord
import Derived.RecoverIn
import Derived.StillTail
import Derived.TacticsIn
import Derived.WalkKit
open Nat (reduceEqDiff)
set_option linter.unusedSimpArgs false
set_option linter.unusedVariables false
set_option maxRecDepth 100000
namespace Go.Eng
open Go
abbrev Env:=List (Nat×Value)
def Env.find? : Env->Nat->Option Value
 | [],_=>none
 | p::e,n=>if n=p.1 then some p.2 else Env.find? e n
def Env.put (e:Env) (d:Option Tmp) (v:Value):Env :=
 match d with
 | some t=>(t,v)::e
 | none=>e
def Env.keep (ks:List Nat) (e:Env):Env:=e.filter fun p=>ks.contains p.1
structure Fits (N:Nat) (e:Env) (a:Act):Prop where
 size:a.tmps.size=N
 defers:a.defers=[]
 at_:∀ t v,e.find? t=some v->a.tmps.getD t undef=v
theorem Env.find?_cons (p:Nat×Value) (e:Env) (n:Nat):Env.find? (p::e) n=if n=p.1 then some p.2 else Env.find? e n:=rfl
theorem Fits.put {N:Nat}{e:Env}{a:Act} (h:Fits N e a) (d:Option Tmp) (v:Value) (hd:∀ t,d=some t->t < N):Fits N (e.put d v) (a.put d v):=by
 cases d with
 | none=>exact h
 | some t =>
  have ht:=hd t rfl;refine ⟨by simp [Act.put,h.size],by simp [Act.put,h.defers],fun s u hs=>?_⟩;simp only [Env.put,Env.find?_cons] at hs;simp only [Act.put];by_cases hst:s=t
  ·
   subst hst;simp at hs;subst hs;simp [h.size,ht]
  simp [hst] at hs;have:=h.at_ s u hs;rw [Array.getD_eq_getD_getElem?] at this ⊢;rw [Array.getElem?_setIfInBounds];rw [if_neg (fun x=>hst x.symm)];exact this
theorem Fits.weaken {N:Nat}{e e':Env}{a:Act} (h:Fits N e a) (hs:∀ t v,e'.find? t=some v->e.find? t=some v):Fits N e' a :=
 ⟨h.size,h.defers,fun t v ht=>h.at_ t v (hs t v ht)⟩
theorem Env.find?_keep (ks:List Nat) (e:Env) (t:Nat) (v:Value) (h:(e.keep ks).find? t=some v):e.find? t=some v:=by
 induction e with
 | nil=>simp [Env.keep,Env.find?] at h
 | cons p e ih =>
  simp only [Env.keep,List.filter_cons] at h;simp only [Env.find?_cons];by_cases hp:ks.contains p.1=true
  ·
   simp only [hp,if_true,Env.find?_cons] at h;by_cases ht:t=p.1
   ·
    simp only [ht,if_true] at h ⊢;exact h
   simp only [ht,if_false] at h ⊢;exact ih h
  simp only [hp] at h;have hm:=ih (by simpa [Env.keep] using h);by_cases ht:t=p.1
  ·
   exfalso
   have key:∀ (l:Env),(Env.keep ks l).find? t=some v->ks.contains t=true:=by
    intro l
    induction l with
    | nil=>intro h0;simp [Env.keep,Env.find?] at h0
    | cons q l ihl =>
     intro h0;simp only [Env.keep,List.filter_cons] at h0;by_cases hq:ks.contains q.1=true
     ·
      simp only [hq,if_true,Env.find?_cons] at h0;by_cases htq:t=q.1
      ·
       rw [htq];exact hq
      simp only [htq,if_false] at h0;exact ihl h0
     simp only [hq] at h0;exact ihl (by simpa [Env.keep] using h0)
   exact hp (ht ▸ key e (by simpa [Env.keep] using h))
  simp only [ht,if_false];exact hm
theorem Fits.keep {N:Nat}{e:Env}{a:Act} (h:Fits N e a) (ks:List Nat):Fits N (e.keep ks) a :=
 h.weaken fun t v ht=>Env.find?_keep ks e t v ht
inductive It where
 | code (c:Code)
 | blk (id:Nat)
 | again (I:Env->World->Prop)
structure Ctx where
 P:Program
 fn:Func
 F:Value->World->Prop
 N:Nat
def Qtn (F:Value->World->Prop) (e:Ending) (w':World):Prop:=∃ v w n,e=.returned v/\w'=w.drewN n/\F v w
def Does (P:Program) (f:FuncId) (args:Array Value) (w:World) (F:Value->World->Prop):Prop :=
 ∀ n,Calls P f args (w.drewN n) (Qtn F)
theorem Does.mono {P:Program}{f:FuncId}{args:Array Value}{w:World}{F G:Value->World->Prop} (h:Does P f args w F) (hg:∀ v w',F v w'->G v w'):Does P f args w G :=
 fun n=>(h n).mono fun _ _ ⟨v,w',m,he,hw,hF⟩=>⟨v,w',m,he,hw,hg v w' hF⟩
theorem QNi (w:World):w.drewN 0=w:=rfl
def cont (C:Ctx):List It->Exit->Act->World->Prop
 | [],ex,a,w=>bodyPost C.P C.fn (Qtn C.F) ex a w
 | .code c::k,ex,a,w=>match ex with
  | .normal=>c.wp C.P (fun ex a w=>cont C k ex a w) a w
  | ex=>cont C k ex a w
 | .blk id::k,ex,a,w=>match ex with
  | .exit id'=>if id'=id then cont C k .normal a w else cont C k (.exit id') a w
  | ex=>cont C k ex a w
 | .again I::k,ex,a,w=>match ex with
  | .normal=>∃ e w0 n,w=w0.drewN n/\Fits C.N e a/\I e w0
  | ex=>cont C k ex a w
def VC (C:Ctx) (k:List It) (e:Env) (w:World):Prop:=∀ a n,Fits C.N e a->cont C k .normal a (w.drewN n)
def VX (C:Ctx) (k:List It) (ex:Exit) (e:Env) (w:World):Prop:=∀ a n,Fits C.N e a->cont C k ex a (w.drewN n)
section
variable {C:Ctx}{k:List It}{e:Env}{w:World}
theorem Qar {x y:Code} (h:VC C (.code x::.code y::k) e w):VC C (.code (.seq x y)::k) e w:=by
 intro a n ha;have h1:=h a n ha;simp only [cont] at h1 ⊢;refine wp_seq (wp_mono h1 fun ex a w hq=>?_);cases ex <;> exact hq
theorem Qab {id:Nat}{c:Code} (h:VC C (.code c::.blk id::k) e w):VC C (.code (.block id c)::k) e w:=by
 intro a n ha;have h1:=h a n ha;simp only [cont] at h1 ⊢;refine wp_block (wp_mono h1 fun ex a w hq=>?_);cases ex <;> exact hq
theorem Qah {id:Nat} (h:VC C k e w):VC C (.blk id::k) e w:=fun a n ha=>h a n ha
theorem VC_skip (h:VC C k e w):VC C (.code .skip::k) e w:=fun a n ha=>wp_skip (h a n ha)
theorem Qrx {l:Nat} (h:VC C k e w):VC C (.code (.label l)::k) e w:=fun a n ha=>wp_label (h a n ha)
theorem Qaa {I:Env->World->Prop} (h:I e w):VC C (.again I::k) e w:=fun _ n ha=>⟨e,w,n,rfl,ha,h⟩
def Qpo (id:Nat):List It->Option (List It)
 | []=>none
 | .blk id'::k=>if id=id' then some k else Qpo id k
 | .code _::k=>Qpo id k
 | .again _::k=>Qpo id k
theorem QAw {id:Nat}{k k':List It} (hp:Qpo id k=some k') {a:Act} (h:cont C k' .normal a w):cont C k (.exit id) a w:=by
 induction k with
 | nil=>simp [Qpo] at hp
 | cons x k ih =>
  cases x with
  | code c=>exact ih (by simpa [Qpo] using hp)
  | again I=>exact ih (by simpa [Qpo] using hp)
  | blk id' =>
   simp only [cont];by_cases hid:id=id'
   ·
    simp only [Qpo,hid,if_true] at hp;cases hp;simp only [hid,if_true];exact h
   simp only [Qpo,hid,if_false] at hp;simp only [hid,if_false];exact ih hp
theorem Qad {id:Nat}{k':List It} (hp:Qpo id k=some k') (h:VC C k' e w):VC C (.code (.exit id)::k) e w :=
 fun a n ha=>wp_exit (QAw hp (h a n ha))
theorem QGv {k:List It}{a:Act} (h:bodyPost C.P C.fn (Qtn C.F) .ret a w):cont C k .ret a w:=by
 induction k with
 | nil=>exact h
 | cons x k ih=>cases x <;> exact ih
theorem VC_ret (h:VX C [] .ret e w):VC C (.code .ret::k) e w:=fun a n ha=>wp_ret (QGv (h a n ha))
theorem Qqh (h:VX C [] .ret e w):VC C [] e w:=fun a n ha=>h a n ha
theorem Qgq (hr:C.fn.results=#[]) (h:C.F (.tuple #[]) w):VX C [] .ret e w :=
 fun _ n ha=>⟨ha.defers,_,results_none hr _ _ _,_,w,n,rfl,rfl,h⟩
theorem VX_ret1 {t:Tmp}{v:Value} (hr:C.fn.results=#[.tmp t]) (hv:e.find? t=some v) (h:C.F v w):VX C [] .ret e w :=
 fun _ n ha=>⟨ha.defers,_,results_tmp hr _ _ _,_,w,n,rfl,rfl,by rw [ha.at_ t v hv];exact h⟩
theorem Qat {t u:Tmp}{v x:Value} (hr:C.fn.results=#[.tmp t,.tmp u]) (hv:e.find? t=some v) (hx:e.find? u=some x) (h:C.F (.tuple #[v,x]) w):VX C [] .ret e w :=
 fun _ n ha=>⟨ha.defers,_,results_tmp2 hr _ _ _,_,w,n,rfl,rfl,by rw [ha.at_ t v hv,ha.at_ u x hx];exact h⟩
theorem Qry {fn:Func}{t u s:Tmp} (h:fn.results=#[.tmp t,.tmp u,.tmp s]) (tmps:Array Value) (P:Program) (w:World) :
  (results fn tmps).run P w=.ok (.tuple #[tmps.getD t undef,tmps.getD u undef,tmps.getD s undef]) w:=by
 simp [results,h]
theorem Qd5 {t u s:Tmp}{v x y:Value} (hr:C.fn.results=#[.tmp t,.tmp u,.tmp s]) (hv:e.find? t=some v) (hx:e.find? u=some x) (hy:e.find? s=some y)
  (h:C.F (.tuple #[v,x,y]) w):VX C [] .ret e w :=
 fun _ n ha=>⟨ha.defers,_,Qry hr _ _ _,_,w,n,rfl,rfl,by rw [ha.at_ t v hv,ha.at_ u x hx,ha.at_ s y hy];exact h⟩
theorem Qrz {fn:Func}{t u s r:Tmp} (h:fn.results=#[.tmp t,.tmp u,.tmp s,.tmp r]) (tmps:Array Value) (P:Program) (w:World) :
  (results fn tmps).run P w=.ok (.tuple #[tmps.getD t undef,tmps.getD u undef,tmps.getD s undef,tmps.getD r undef]) w:=by
 simp [results,h]
theorem Qit {t u s r:Tmp}{v x y z:Value} (hr:C.fn.results=#[.tmp t,.tmp u,.tmp s,.tmp r]) (hv:e.find? t=some v) (hx:e.find? u=some x) (hy:e.find? s=some y) (hz:e.find? r=some z)
  (h:C.F (.tuple #[v,x,y,z]) w):VX C [] .ret e w :=
 fun _ n ha=>⟨ha.defers,_,Qrz hr _ _ _,_,w,n,rfl,rfl,by rw [ha.at_ t v hv,ha.at_ u x hx,ha.at_ s y hy,ha.at_ r z hz];exact h⟩
theorem Qaf {c:Operand}{t:Tmp}{b:Bool}{x y:Code} (hc:c=.tmp t) (hv:e.find? t=some (.bool b))
  (ht:b=true->VC C (.code x::k) e w) (hf:b=false->VC C (.code y::k) e w):VC C (.code (.cond c x y)::k) e w:=by
 intro a n ha;subst hc;exact wp_cond_split (t:=b) (ha.at_ t _ hv) (fun h=>ht h a n ha) (fun h=>hf h a n ha)
end
theorem Qwv {P:Program}{Q:Exit->Act->World->Prop}{a:Act}{w:World}{c:Code} (I:Nat->Act->World->Prop) (n:Nat) (h₀:I n a w)
  (round:∀ n a w,I n a w->c.wp P (Exit.then (fun a' w'=>∃ m,m < n/\I m a' w') Q) a w):(Code.loop c).wp P Q a w:=by
 intro b k cs
 have key:∀ n a w,I n a w ->
   ∃ e a' w',Q e a' w'/\Arrives P (lone (b.at a (.code c::.inLoop c::k)) cs w) b k cs e a' w':=by
  intro n
  induction n using Nat.strongRecOn with
  | _ n ih =>
   intro a w hI;obtain ⟨e,a₁,w₁,hq,harr⟩:=round n a w hI b (.inLoop c::k) cs;cases e with
   | normal =>
    obtain ⟨m,hlt,hI₁⟩:=hq;obtain ⟨e₂,a₂,w₂,hq₂,harr₂⟩:=ih m hlt a₁ w₁ hI₁;exact ⟨e₂,a₂,w₂,hq₂,.of_steps (Steps.trans harr (.one step_inLoop)) harr₂⟩
   | exit id=>exact ⟨_,a₁,w₁,hq,.pass (x:=.inLoop c) rfl (fun _ _=>.inl (by simp)) harr⟩
   | goto l=>exact ⟨_,a₁,w₁,hq,.pass (x:=.inLoop c) rfl (fun _ _=>.inl (by simp)) harr⟩
   | ret=>exact ⟨_,a₁,w₁,hq,.pass (x:=.inLoop c) rfl (fun _ _=>.inl (by simp)) harr⟩
   | panic ch=>exact ⟨_,a₁,w₁,hq,.pass (x:=.inLoop c) rfl (fun _ _=>.inl (by simp)) harr⟩
   | outgrown=>exact ⟨_,a₁,w₁,hq,.pass (x:=.inLoop c) rfl (fun _ _=>.inl (by simp)) harr⟩
 obtain ⟨e,a',w',hq,harr⟩:=key n a w h₀;exact ⟨e,a',w',hq,.of_steps (.one step_loop) harr⟩
theorem QJq {C:Ctx}{k:List It}{e:Env}{w:World}{body:Code} (I:Nat->Env->World->Prop) (n:Nat) (h0:I n e w)
  (round:∀ n e w,I n e w->VC C (.code body::.again (fun e' w'=>∃ m,m < n/\I m e' w')::k) e w):VC C (.code (.loop body)::k) e w:=by
 intro a d ha;refine Qwv (fun n a w=>∃ e w0 d,w=w0.drewN d/\Fits C.N e a/\I n e w0) n ⟨e,w,d,rfl,ha,h0⟩ ?_;rintro n a w ⟨e,w0,d,rfl,ha,hI⟩;have h1:=round n e w0 hI a d ha;simp only [cont] at h1;refine wp_mono h1 fun ex a w hq=>?_;cases ex with
 | normal=>obtain ⟨e',w1,d',hw,hf,m,hm,hI'⟩:=hq;exact ⟨m,hm,e',w1,d',hw,hf,hI'⟩
 | _=>exact hq
theorem QAx {P:Program}{f:FuncId}{fn:Func}{c:Code}{args:Array Value}{w:World}{F:Value->World->Prop} (N:Nat) (e:Env)
  (hf:P.funcs[f]? = some fn) (hb:fn.body=some c) (hN:args.size+(fn.ntmps - args.size)=N)
  (he:∀ t v,e.find? t=some v->args[t]? = some v)
  (h:VC ⟨P,fn,F,N⟩ [.code c] e w):Does P f args w F:=by
 intro n;refine calls_of_wp hf hb ?_;refine wp_mono (h { tmps:=args++Array.replicate (fn.ntmps - args.size) undef,defers:=[] } n ⟨by simpa using hN,rfl,fun t v ht=>?_⟩) fun ex a w hq=>hq;have:=he t v ht;rw [Array.getD_eq_getD_getElem?,Array.getElem?_append]
 have hlt:t < args.size:=by
  rcases Nat.lt_or_ge t args.size with h | h
  ·
   exact h
  simp [Array.getElem?_eq_none h] at this
 simp [hlt] at this ⊢;exact this
def Env.ofArgs:Nat->List Value->Env
 | _,[]=>[]
 | n,v::vs=>(n,v)::Env.ofArgs (n+1) vs
theorem Env.find?_ofArgs (vs:List Value):∀ (n t:Nat) (v:Value),(Env.ofArgs n vs).find? t=some v->n<=t/\vs[t - n]? = some v:=by
 induction vs with
 | nil=>intro n t v h;simp [Env.ofArgs,Env.find?] at h
 | cons x vs ih =>
  intro n t v h;simp only [Env.ofArgs,Env.find?_cons] at h;split at h
  ·
   rename_i ht;subst ht;simp at h;subst h;simp
  rename_i ht;obtain ⟨h1,h2⟩:=ih (n+1) t v h;refine ⟨by omega,?_⟩;rw [show t - n=(t - (n+1))+1 by omega];simpa using h2
theorem Qdj {P:Program}{f:FuncId}{fn:Func}{c:Code}{args:List Value}{w:World}{F:Value->World->Prop} (N:Nat)
  (hf:P.funcs[f]? = some fn) (hb:fn.body=some c) (hN:fn.ntmps=N) (hle:args.length<=N)
  (h:VC ⟨P,fn,F,N⟩ [.code c] (Env.ofArgs 0 args) w):Does P f args.toArray w F :=
 QAx N _ hf hb (by simp [hN];omega) (fun t v ht=>by have:=Env.find?_ofArgs args 0 t v ht;simpa using this.2) h
structure Ext (w w':World):Prop where
 block:∀ (k:Nat) (o:Obj),w.heap[k]? = some o->(∃ T fz,o=Obj.cells #[] T fz)∨w'.heap[k]? = some o
theorem Ext.refl (w:World):Ext w w:=⟨fun _ _ h=>.inr h⟩
theorem Ext.trans {a b c:World} (h:Ext a b) (k:Ext b c):Ext a c:=⟨fun i o hi=>(h.block i o hi).elim .inl fun h1=>k.block i o h1⟩
theorem Ext.drewN (w:World) (n:Nat):Ext w (w.drewN n):=⟨fun _ _ h=>.inr h⟩
theorem Ext.of_keep {w w':World} (h:∀ k:Nat,k < w.heap.size->w'.heap[k]? = w.heap[k]?):Ext w w' :=
 ⟨fun k o hk=>.inr (by rw [h k (Array.getElem?_eq_some_iff.1 hk).1];exact hk)⟩
theorem Ext.cell {w w':World} (h:Ext w w') {a:Addr}{v:Value} (hc:w.cell? a=some v):w'.cell? a=some v:=by
 unfold World.cell? at hc ⊢;cases ho:w.heap[a.block]? with
 | none=>simp [ho] at hc
 | some o =>
  rcases h.block _ o ho with ⟨T,fz,rfl⟩ | h1
  ·
   simp [ho] at hc
  rw [h1];rw [ho] at hc;exact hc
def holes (B:List Nat) (w:World):World:={ w with heap:=w.heap.mapIdx fun k o=>if k∈B then Obj.cells #[] 0 else o }
theorem Ext.holes {B:List Nat}{w w':World} (h:∀ k:Nat,k < w.heap.size->k ∉ B->w'.heap[k]? = w.heap[k]?):Ext (holes B w) w':=by
 refine ⟨fun k o hk=>?_⟩;simp only [Eng.holes,Array.getElem?_mapIdx] at hk;cases ho:w.heap[k]? with
 | none=>simp [ho] at hk
 | some o' =>
  simp only [ho,Option.map_some,Option.some.injEq] at hk;by_cases hB:k∈B
  ·
   rw [if_pos hB] at hk;exact .inl ⟨0,(0,0),hk.symm⟩
  rw [if_neg hB] at hk;subst hk;exact .inr (by rw [h k (Array.getElem?_eq_some_iff.1 ho).1 hB];exact ho)
theorem Qqi {B:List Nat}{w:World}{a:Addr}{v:Value} (hc:w.cell? a=some v) (hB:a.block ∉ B):(holes B w).cell? a=some v:=by
 unfold World.cell? at hc ⊢;simp only [Eng.holes,Array.getElem?_mapIdx];cases ho:w.heap[a.block]? with
 | none=>simp [ho] at hc
 | some o=>simp only [Option.map_some,if_neg hB];rw [ho] at hc;exact hc
theorem Ext.hole (B:List Nat) (w:World):Ext (Eng.holes B w) w:=Ext.holes fun _ _ _=>rfl
abbrev Str (l:List UInt8):Value:=.string ⟨l.toArray⟩
abbrev toL (s:ByteArray):List UInt8:=s.data.toList
abbrev I64 (n:Int):Prop:=-9223372036854775808<=n/\n<=9223372036854775807
theorem I64.mk {n:Int} (h:-9223372036854775808<=n) (h':n<=9223372036854775807):I64 n:=⟨h,h'⟩
def Qed:IntKind->Int->(Value->Prop)->Prop
 | .i64,n,K=>I64 n/\K (.int .i64 n)
 | .u8,n,K=>K (.int .u8 (n % 256))
 | .u16,n,K=>K (.int .u16 (n % 65536))
 | .u32,n,K=>K (.int .u32 (n % 4294967296))
 | .u64,n,K=>K (.int .u64 (n % 18446744073709551616))
 | k,n,K=>K (.int k (k.wrap n))
theorem Qfq {n:Int} (h:I64 n):IntKind.i64.wrap n=n:=by
 obtain ⟨h1,h2⟩:=h;simp only [IntKind.wrap,IntKind.bits,IntKind.signed];simp;split <;> omega
theorem QDg (n:Int):IntKind.u8.wrap n=n % 256:=by simp [IntKind.wrap,IntKind.bits,IntKind.signed]
theorem QGw (n:Int):IntKind.u16.wrap n=n % 65536:=by simp [IntKind.wrap,IntKind.bits,IntKind.signed]
theorem Qzk (n:Int):IntKind.u32.wrap n=n % 4294967296:=by simp [IntKind.wrap,IntKind.bits,IntKind.signed]
theorem Qzl (n:Int):IntKind.u64.wrap n=n % 18446744073709551616:=by simp [IntKind.wrap,IntKind.bits,IntKind.signed]
theorem Qet {k:IntKind}{n:Int}{K:Value->Prop} (h:Qed k n K):K (.int k (k.wrap n)):=by
 cases k <;> simp only [Qed] at h
 case i64=>rw [Qfq h.1];exact h.2
 case u8=>rw [QDg];exact h
 case u16=>rw [QGw];exact h
 case u32=>rw [Qzk];exact h
 case u64=>rw [Qzl];exact h
 all_goals exact h
def Fit0:IntKind->Int->Prop
 | .i64,n=>0<=n/\n<=9223372036854775807
 | .u8,n=>0<=n/\n<=255
 | .u16,n=>0<=n/\n<=65535
 | .u32,n=>0<=n/\n<=4294967295
 | .u64,n=>0<=n/\n<=18446744073709551615
 | _,_=>False
def Qiu:IntKind->Nat
 | .i64=>63
 | .u8=>8
 | .u16=>16
 | .u32=>32
 | .u64=>64
 | _=>0
theorem Fit0.spec {k:IntKind}{n:Int} (h:Fit0 k n):0<=n/\n.toNat < 2 ^ Qiu k/\Qiu k<=k.bits/\(k.signed=true->Qiu k < k.bits):=by
 cases k <;> simp [Fit0,Qiu,IntKind.bits,IntKind.signed] at h ⊢ <;> omega
theorem Qlz {k:IntKind}{r:Nat} (hw:Qiu k<=k.bits) (hs:k.signed=true->Qiu k < k.bits) (hr:r < 2 ^ Qiu k):k.wrap (r:Int)=r:=by
 cases k <;> simp only [Qiu,IntKind.bits,IntKind.signed] at * <;> simp [IntKind.wrap,IntKind.bits,IntKind.signed] at hs hr ⊢ <;> omega
theorem toNat_ofInt {n:Nat}{a:Int} (h:0<=a) (h2:a.toNat < 2 ^ n):(BitVec.ofInt n a).toNat=a.toNat:=by
 obtain ⟨m,rfl⟩:=Int.eq_ofNat_of_zero_le h;simp only [BitVec.toNat_ofInt];simp at h2;rw [Int.emod_eq_of_lt (by omega) (by exact_mod_cast h2)]
def vBit (op:BinOp) (k:IntKind) (a b:Int) (K:Value->Prop):Prop :=
 Fit0 k a/\Fit0 k b/\match op with
  | .and=>K (.int k ((a.toNat &&& b.toNat:Nat):Int))
  | .or=>K (.int k ((a.toNat ||| b.toNat:Nat):Int))
  | .xor=>K (.int k ((a.toNat ^^^ b.toNat:Nat):Int))
  | _=>False
theorem Qr0 {P:Program}{op:BinOp}{k:IntKind}{a b:Int}{K:Value->Prop} (h:vBit op k a b K):∃ v,K v/\∀ w,(Op.intBits op k a b).run P w=.ok v w:=by
 obtain ⟨ha,hb,h⟩:=h;obtain ⟨ha0,ha1,hw,hs⟩:=ha.spec;obtain ⟨hb0,hb1,_,_⟩:=hb.spec;have ha2:a.toNat < 2 ^ k.bits:=Nat.lt_of_lt_of_le ha1 (Nat.pow_le_pow_right (by omega) hw);have hb2:b.toNat < 2 ^ k.bits:=Nat.lt_of_lt_of_le hb1 (Nat.pow_le_pow_right (by omega) hw);cases op <;> simp only at h <;> try exact h.elim
 ·
  refine ⟨_,h,fun w=>?_⟩;simp only [Op.intBits,Sem.run_pure,BitVec.toNat_and,toNat_ofInt ha0 ha2,toNat_ofInt hb0 hb2];rw [Qlz hw hs (Nat.and_lt_two_pow _ hb1)]
 ·
  refine ⟨_,h,fun w=>?_⟩;simp only [Op.intBits,Sem.run_pure,BitVec.toNat_or,toNat_ofInt ha0 ha2,toNat_ofInt hb0 hb2];rw [Qlz hw hs (Nat.or_lt_two_pow ha1 hb1)]
 refine ⟨_,h,fun w=>?_⟩;simp only [Op.intBits,Sem.run_pure,BitVec.toNat_xor,toNat_ofInt ha0 ha2,toNat_ofInt hb0 hb2];rw [Qlz hw hs (Nat.xor_lt_two_pow ha1 hb1)]
def shN (k:IntKind) (y:Int):Nat:=min y.toNat k.bits
def vInt (op:BinOp) (k:IntKind) (a b:Int) (K:Value->Prop):Prop :=
 match op with
 | .add=>Qed k (a+b) K
 | .sub=>Qed k (a - b) K
 | .mul=>Qed k (a * b) K
 | .quo=>0<=a/\0 < b/\Qed k (a / b) K
 | .rem=>0<=a/\0 < b/\K (.int k (a % b))
 | .and=>vBit .and k a b K
 | .or=>vBit .or k a b K
 | .xor=>vBit .xor k a b K
 | .eql=>K (.bool (decide (a=b)))
 | .neq=>K (.bool (decide (¬ a=b)))
 | .lss=>K (.bool (decide (a < b)))
 | .leq=>K (.bool (decide (a<=b)))
 | .gtr=>K (.bool (decide (b < a)))
 | .geq=>K (.bool (decide (b<=a)))
 | _=>False
def EqV (P:Program) (op:BinOp) (T:TypeId) (x y:Value) (w:World) (K:Value->Prop):Prop :=
 ∃ b:Bool,K (.bool b)/\∀ w',Ext w w'->(binOp op T x y).run P w'=.ok (.bool b) w'
def vStr (op:BinOp) (s t:ByteArray) (K:Value->Prop):Prop :=
 match op with
 | .add=>((toL s).length+(toL t).length:Int)<=9223372036854775807/\K (Str (toL s++toL t))
 | .eql=>K (.bool (decide (toL s=toL t)))
 | .neq=>K (.bool (decide (¬ toL s=toL t)))
 | .lss=>K (.bool (Op.bytesLess (toL s) (toL t)))
 | .leq=>K (.bool (!Op.bytesLess (toL t) (toL s)))
 | .gtr=>K (.bool (Op.bytesLess (toL t) (toL s)))
 | .geq=>K (.bool (!Op.bytesLess (toL s) (toL t)))
 | _=>False
def vBin (P:Program) (op:BinOp) (T:TypeId) (x y:Value) (w:World) (K:Value->Prop):Prop :=
 match x,y with
 | .int k a,.int k' b=>match op with
  | .shl=>0<=b/\Qed k (a * 2 ^ shN k b) K
  | .shr=>0<=b/\K (.int k (a / 2 ^ shN k b))
  | op=>k=k'/\vInt op k a b K
 | .string s,.string t=>vStr op s t K
 | .bool a,.bool b=>match P.underlying T with
  | some .bool=>match op with
   | .eql=>K (.bool (decide (a=b)))
   | .neq=>K (.bool (decide (¬ a=b)))
   | _=>False
  | _=>False
 | x,y=>match op with
  | .eql=>EqV P .eql T x y w K
  | .neq=>EqV P .neq T x y w K
  | _=>False
theorem QJr {a b:Int} (ha:0<=a):a.tdiv b=a / b:=by rw [Int.tdiv_eq_ediv_of_nonneg ha]
theorem beqD {α:Type} [DecidableEq α] [BEq α] [LawfulBEq α] (a b:α):(a == b)=decide (a=b):=by by_cases h:a=b <;> simp [h]
theorem QGx {P:Program}{op:BinOp}{k:IntKind}{a b:Int}{K:Value->Prop} (h:vInt op k a b K) {T:TypeId}:∃ v,K v/\∀ w,(binOp op T (.int k a) (.int k b)).run P w=.ok v w:=by
 cases op <;> simp only [vInt] at h <;> try exact h.elim
 case add=>exact ⟨_,Qet h,fun w=>by simp [binOp,Op.intArith]⟩
 case sub=>exact ⟨_,Qet h,fun w=>by simp [binOp,Op.intArith]⟩
 case mul=>exact ⟨_,Qet h,fun w=>by simp [binOp,Op.intArith]⟩
 case quo=>exact ⟨_,Qet h.2.2,fun w=>by simp [binOp,Op.intDiv,QJr h.1,show b≠0 by omega]⟩
 case rem=>exact ⟨_,h.2.2,fun w=>by simp [binOp,Op.intDiv,Int.tmod_eq_emod_of_nonneg h.1,show b≠0 by omega]⟩
 case and=>obtain ⟨v,hv,hr⟩:=Qr0 (P:=P) h;exact ⟨v,hv,fun w=>by simp [binOp,hr]⟩
 case or=>obtain ⟨v,hv,hr⟩:=Qr0 (P:=P) h;exact ⟨v,hv,fun w=>by simp [binOp,hr]⟩
 case xor=>obtain ⟨v,hv,hr⟩:=Qr0 (P:=P) h;exact ⟨v,hv,fun w=>by simp [binOp,hr]⟩
 all_goals
  refine ⟨_,h,fun w=>?_⟩;simp [binOp,Op.intCmp]
 ·
  exact beqD _ _
 rw [bne,beqD]
theorem Qgr (x y:List UInt8):(Op.bytesLess x y || x == y)=!Op.bytesLess y x:=by
 induction x generalizing y with
 | nil=>cases y <;> simp [Op.bytesLess]
 | cons a x ih =>
  cases y with
  | nil=>simp [Op.bytesLess]
  | cons b y =>
   have:=ih y;simp only [Op.bytesLess];by_cases h1:a < b
   ·
    have h2:¬ b < a:=by
     intro h;exact absurd (UInt8.lt_iff_toNat_lt.1 h) (by have:=UInt8.lt_iff_toNat_lt.1 h1;omega)
    have h3:¬ b=a:=by rintro rfl;exact absurd (UInt8.lt_iff_toNat_lt.1 h1) (by omega)
    simp [h1,h2,h3]
   by_cases h3:a=b
   ·
    subst h3;simp [h1,this]
   have h2:b < a:=by
    rw [UInt8.lt_iff_toNat_lt] at h1 ⊢;have:a.toNat≠b.toNat:=fun h=>h3 (UInt8.toNat_inj.1 h);omega
   simp [h1,h2,h3]
theorem Qe3 (s:ByteArray):s.toList=s.data.toList:=ByteArray.toList_eq s
theorem QGy {P:Program}{op:BinOp}{s t:ByteArray}{K:Value->Prop} (h:vStr op s t K) {T:TypeId}:∃ v,K v/\∀ w,(binOp op T (.string s) (.string t)).run P w=.ok v w:=by
 cases op <;> simp only [vStr] at h <;> try exact h.elim
 case add =>
  refine ⟨_,h.2,fun w=>?_⟩
  have hs:¬ ((s.size+t.size:Nat):Int) > IntKind.i64.max:=by
   have h1:=h.1;have e1:s.size=(toL s).length:=rfl;have e2:t.size=(toL t).length:=rfl;rw [e1,e2];have e3:IntKind.i64.max=9223372036854775807:=by decide
   rw [e3];omega
  have e:s++t=⟨(toL s++toL t).toArray⟩:=by
   apply ByteArray.ext
   show (s++t).data=(s.data.toList++t.data.toList).toArray
   rw [ByteArray.data_append];exact Array.ext' (by simp)
  simp only [binOp,Op.stringOp,if_neg hs,Sem.run_pure,e]
 case lss=>exact ⟨_,h,fun w=>by simp [binOp,Op.stringOp,Qe3,toL]⟩
 case leq =>
  refine ⟨_,h,fun w=>?_⟩;have:=Qgr s.data.toList t.data.toList;simp only [binOp,Op.stringOp,Qe3,toL,this,Sem.run_pure]
 case gtr =>
  refine ⟨_,h,fun w=>?_⟩;have:=Qgr s.data.toList t.data.toList;simp only [binOp,Op.stringOp,Qe3,toL,this,Sem.run_pure,Bool.not_not]
 case geq=>exact ⟨_,h,fun w=>by simp [binOp,Op.stringOp,Qe3,toL]⟩
 case eql =>
  refine ⟨_,h,fun w=>?_⟩;simp only [binOp,Op.stringOp,Qe3,Sem.run_pure,toL];rw [beqD]
 case neq =>
  refine ⟨_,h,fun w=>?_⟩;simp only [binOp,Op.stringOp,Qe3,Sem.run_pure,toL];rw [beqD];simp
theorem Ql0 {P:Program}{T:TypeId} (hu:P.underlying T=some .bool) (d:Nat) (a b:Bool) (w:World):(Op.equalIn (d+1) T (.bool a) (.bool b)).run P w=.ok (decide (a=b)) w:=by
 unfold Op.equalIn;simp only [Sem.run_bind,run_underlying hu,Result.andThen_ok,Sem.run_pure,beqD]
theorem Qiv {P:Program}{T:TypeId} (hu:P.underlying T=some .bool) (a b:Bool) (w:World):(Op.equal T (.bool a) (.bool b)).run P w=.ok (decide (a=b)) w :=
 Ql0 hu 9999 a b w
theorem Qh2 {P:Program}{op:BinOp}{T:TypeId}{x y:Operand}{a b:Value} (h:(∀ c,a≠.agg c)/\a≠.nilIface) (w:World):(eqGuard op T x y a b).run P w=.ok () w:=by
 unfold eqGuard;cases op <;> simp <;> (split <;> simp_all)
theorem Qr1 {P:Program}{op:BinOp}{T:TypeId}{x y:Value}{w:World}{K:Value->Prop} (h:vBin P op T x y w K):∃ v,K v/\∀ w',Ext w w'->(binOp op T x y).run P w'=.ok v w':=by
 unfold vBin at h;split at h
 ·
  rename_i k a k' b;cases op
  case shl =>
   refine ⟨_,Qet h.2,fun w' _=>?_⟩;simp [binOp,Op.shift,show ¬ b < 0 by omega,shN]
  case shr =>
   refine ⟨_,h.2,fun w' _=>?_⟩;simp only [binOp,Op.shift,show ¬ b < 0 by omega,shN,if_false,Sem.run_pure];rw [Int.fdiv_eq_ediv_of_nonneg];exact Int.pow_nonneg (by omega)
  all_goals
   obtain ⟨rfl,h⟩:=h;obtain ⟨v,hv,hr⟩:=QGx (P:=P) (T:=T) h;exact ⟨v,hv,fun w' _=>hr w'⟩
 ·
  obtain ⟨v,hv,hr⟩:=QGy (P:=P) (T:=T) h;exact ⟨v,hv,fun w' _=>hr w'⟩
 ·
  rename_i a b;split at h
  ·
   rename_i hu;split at h
   ·
    refine ⟨_,h,fun w' _=>?_⟩;have he:=fun w=>Qiv (P:=P) hu a b w;simp only [binOp,Sem.run_bind,he,Result.andThen_ok,Sem.run_pure]
   ·
    refine ⟨_,h,fun w' _=>?_⟩;have he:=fun w=>Qiv (P:=P) hu a b w;simp only [binOp,Sem.run_bind,he,Result.andThen_ok,Sem.run_pure,decide_not]
   exact h.elim
  exact h.elim
 split at h
 ·
  obtain ⟨b,hb,hr⟩:=h;exact ⟨_,hb,hr⟩
 ·
  obtain ⟨b,hb,hr⟩:=h;exact ⟨_,hb,hr⟩
 exact h.elim
def argT:Env->Nat->(Value->Prop)->Prop
 | [],_,_=>False
 | p::e,n,K=>if n=p.1 then K p.2 else argT e n K
def arg (e:Env) (x:Operand) (K:Value->Prop):Prop :=
 match x with
 | .tmp t=>argT e t K
 | .const v=>K v
 | .global g=>K (.pointer (some ⟨g,0,none⟩))
 | .func f=>K (.func (.func f) #[] #[])
def argL (e:Env):List Operand->(List Value->Prop)->Prop
 | [],K=>K []
 | x::xs,K=>arg e x fun v=>argL e xs fun vs=>K (v::vs)
theorem Qnx {e:Env}{n:Nat}{K:Value->Prop} (h:argT e n K):∃ v,e.find? n=some v/\K v:=by
 induction e with
 | nil=>exact h.elim
 | cons p e ih =>
  simp only [argT,Env.find?_cons] at h ⊢;split
  ·
   rename_i hn;rw [if_pos hn] at h;exact ⟨_,rfl,h⟩
  rename_i hn;rw [if_neg hn] at h;exact ih h
theorem Qa2 {N:Nat}{e:Env}{a:Act}{x:Operand}{K:Value->Prop} (ha:Fits N e a) (h:arg e x K):K (a.eval x):=by
 cases x with
 | tmp t=>obtain ⟨v,hv,hK⟩:=Qnx h;show K (a.tmps.getD t undef);rw [ha.at_ t v hv];exact hK
 | const v=>exact h
 | global g=>exact h
 | func f=>exact h
theorem Qc0 {N:Nat}{e:Env}{a:Act} (ha:Fits N e a) {xs:List Operand}:∀ {K:List Value->Prop},argL e xs K->K (xs.map a.eval):=by
 induction xs with
 | nil=>intro K h;exact h
 | cons x xs ih=>intro K h;exact ih (Qa2 ha h)
end Go.Eng
namespace Go
def Program.szo (P:Program) (T:TypeId):Option Nat:=(P.info? T).map (·.size)
end Go
namespace Go.Eng
open Go
theorem Qel {P:Program}{T:TypeId}{n:Nat} (h:P.szo T=some n) (w:World):(sizeOf T).run P w=.ok n w:=by
 unfold Program.szo at h;cases hi:P.info? T with
 | none=>simp [hi] at h
 | some i =>
  simp [hi] at h;simp [sizeOf,typeInfo,hi,h]
def Reads (w:World) (a:Addr) (xs:List Value):Prop:=∀ j u,xs[j]? = some u->w.cell? (a.add j)=some u
theorem Reads.ext {w w':World}{a:Addr}{xs:List Value} (h:Reads w a xs) (hh:Ext w w'):Reads w' a xs:=fun j u hu=>hh.cell (h j u hu)
theorem Reads.heap {w w':World}{a:Addr}{xs:List Value} (h:Reads w a xs) (hh:w'.heap=w.heap):Reads w' a xs:=by
 intro j u hu;have:=h j u hu;simpa [World.cell?,hh] using this
def Qto (P:Program) (T:TypeId) (cs:Array Value) (off:Nat) (K:Value->Prop):Prop :=
 match P.underlying T with
 | some (.struct _) | some (.array _ _)=>match P.szo T with
  | some n=>K (.agg (cs.extract off (off+n)))
  | none=>False
 | some _=>match cs[off]? with
  | some v=>K v
  | none=>False
 | none=>False
theorem Qtp {P:Program}{T:TypeId}{cs:Array Value}{off:Nat}{K:Value->Prop} (h:Qto P T cs off K):∃ v,K v/\∀ w,(part T cs off).run P w=.ok v w:=by
 unfold Qto at h;split at h
 ·
  rename_i hu;split at h
  ·
   rename_i n hn;exact ⟨_,h,fun w=>by simp [part,isAgg,run_underlying hu,Qel hn]⟩
  exact h.elim
 ·
  rename_i hu;split at h
  ·
   rename_i n hn;exact ⟨_,h,fun w=>by simp [part,isAgg,run_underlying hu,Qel hn]⟩
  exact h.elim
 ·
  rename_i d hd1 hd2 hu;split at h
  ·
   rename_i v hv;refine ⟨_,h,fun w=>?_⟩
   have:(isAgg T).run P w=.ok false w:=by
    cases d <;> simp_all [isAgg,run_underlying hu]
   simp [part,this,hv]
  exact h.elim
 exact h.elim
def Qee (P:Program) (T:TypeId) (x i:Value) (K:Value->Prop):Prop :=
 match x,i with
 | .string s,.int _ n=>P.underlying T=some .string/\(0<=n/\n < (toL s).length)/\K (.int .u8 ((toL s).getD n.toNat 0).toNat)
 | .agg cs,.int _ n=>match P.underlying T with
  | some (.array len E)=>(0<=n/\n < len)/\match P.szo E with
   | some sz=>Qto P E cs (n.toNat * sz) K
   | none=>False
  | _=>False
 | _,_=>False
theorem QAy {P:Program}{T:TypeId}{x i:Value}{K:Value->Prop} (h:Qee P T x i K):∃ v,K v/\∀ w,(Instr.index T x i).run P w=.ok v w:=by
 unfold Qee at h;split at h
 ·
  rename_i s k n;obtain ⟨hu,hb,h⟩:=h;refine ⟨_,h,fun w=>?_⟩;have hlt:n.toNat < s.data.toList.length:=by simp only [toL] at hb;omega
  have hlt':n.toNat < s.data.size:=by simpa using hlt
  have hg:s[n.toNat]? = some (s.data.toList.getD n.toNat 0):=by
   rw [List.getD_eq_getElem?_getD,List.getElem?_eq_getElem hlt];simp only [getElem?_def];rw [dif_pos (by exact hlt')];rfl
  simp only [Instr.index,asIntOf,Sem.run_bind,Sem.run_pure,Result.andThen_ok,run_underlying hu,hb.1,if_true,hg,toL]
 ·
  rename_i cs k n;split at h
  ·
   rename_i len E hu;obtain ⟨hb,h⟩:=h;split at h
   ·
    rename_i sz hsz;obtain ⟨v,hv,hr⟩:=Qtp h;refine ⟨v,hv,fun w=>?_⟩;simp [Instr.index,asIntOf,run_underlying hu,hb,Qel hsz,hr]
   exact h.elim
  exact h.elim
 exact h.elim
def Qcb (P:Program) (T:TypeId) (x:Value) (lo hi:Option Value) (K:Value->Prop):Prop :=
 match x with
 | .string s=>P.underlying T=some .string/\match lo,hi with
  | none,none=>K (.string s)
  | some (.int _ l),none=>(0<=l/\l<=(toL s).length)/\K (Str ((toL s).drop l.toNat))
  | none,some (.int _ h)=>(0<=h/\h<=(toL s).length)/\K (Str ((toL s).take h.toNat))
  | some (.int _ l),some (.int _ h)=>(0<=l/\l<=h/\h<=(toL s).length)/\K (Str (((toL s).drop l.toNat).take (h.toNat - l.toNat)))
  | _,_=>False
 | .slice a n cap=>match P.underlying T with
  | some (.slice E)=>match P.szo E with
   | some sz=>match lo,hi with
    | none,none=>n<=cap/\K (.slice a n cap)
    | some (.int _ l),none=>(0<=l/\l<=n/\n<=cap)/\K (.slice (if cap=l.toNat then a else a.map (·.add (l.toNat * sz))) (n - l.toNat) (cap - l.toNat))
    | none,some (.int _ h)=>(0<=h/\h<=cap)/\K (.slice a h.toNat cap)
    | some (.int _ l),some (.int _ h)=>(0<=l/\l<=h/\h<=cap)/\K (.slice (if cap=l.toNat then a else a.map (·.add (l.toNat * sz))) (h.toNat - l.toNat) (cap - l.toNat))
    | _,_=>False
   | none=>False
  | _=>False
 | _=>False
theorem Qgs (s:ByteArray) (l h:Nat):s.extract l h=⟨((s.data.toList.drop l).take (h - l)).toArray⟩:=by
 apply ByteArray.ext
 show (s.extract l h).data=_
 rw [ByteArray.data_extract];apply Array.ext';simp [List.extract_eq_take_drop]
theorem Qkx {P:Program}{k:IntKind}{i:Int}{y:Nat}{code:BoundsCode} (h0:0<=i) (h1:i<=y) (w:World):(Instr.sliceBound (.int k i) y code).run P w=.ok i.toNat w:=by
 simp [Instr.sliceBound,asIntOf,h0,h1]
theorem QAz {P:Program}{T:TypeId}{x:Value}{lo hi:Option Value}{K:Value->Prop} (h:Qcb P T x lo hi K) :
  ∃ v,K v/\∀ w,(Instr.sliceAt T x lo hi none).run P w=.ok v w:=by
 unfold Qcb at h;split at h
 ·
  rename_i s;obtain ⟨hu,h⟩:=h;have hsz:s.size=s.data.toList.length:=rfl;split at h
  ·
   refine ⟨_,h,fun w=>?_⟩;simp [Instr.sliceAt,Instr.slice,Instr.sliceBounds,run_underlying hu]
  ·
   rename_i k l;refine ⟨_,h.2,fun w=>?_⟩;have hb:0<=l/\l<=(s.size:Int):=h.1
   have:s.extract l.toNat s.size=⟨(s.data.toList.drop l.toNat).toArray⟩:=by
    rw [Qgs,hsz];congr 2;apply List.take_of_length_le;simp
   simp [Instr.sliceAt,Instr.slice,Instr.sliceBounds,Instr.sliceBound,asIntOf,run_underlying hu,hb,this,toL]
  ·
   rename_i k l;refine ⟨_,h.2,fun w=>?_⟩;have hb:0<=l/\l<=(s.size:Int):=h.1
   have:s.extract 0 l.toNat=⟨(s.data.toList.take l.toNat).toArray⟩:=by
    rw [Qgs];simp
   simp [Instr.sliceAt,Instr.slice,Instr.sliceBounds,Instr.sliceBound,asIntOf,run_underlying hu,hb,this,toL]
  ·
   rename_i k l k' h';refine ⟨_,h.2,fun w=>?_⟩;obtain ⟨⟨h1,h2,h3⟩,_⟩:=h;have hb:0<=h'/\h'<=(s.size:Int):=⟨by omega,h3⟩;have hb2:0<=l/\l<=(h'.toNat:Int):=⟨h1,by omega⟩;have e1:=fun code w=>Qkx (P:=P) (k:=k') (y:=s.size) (code:=code) hb.1 hb.2 w;have e2:=fun code w=>Qkx (P:=P) (k:=k) (y:=h'.toNat) (code:=code) hb2.1 hb2.2 w;simp [Instr.sliceAt,Instr.slice,Instr.sliceBounds,run_underlying hu,e1,e2,Qgs,toL]
  exact h.elim
 ·
  rename_i a n cap;split at h
  ·
   rename_i E hu;split at h
   ·
    rename_i sz hsz;split at h
    ·
     refine ⟨_,h.2,fun w=>?_⟩;have:(a.map fun x=>x.add 0)=a:=by cases a <;> simp [Addr.add]
     simp [Instr.sliceAt,Instr.slice,Instr.sliceBounds,run_underlying hu,Qel hsz,this]
    ·
     rename_i k l;refine ⟨_,h.2,fun w=>?_⟩;obtain ⟨⟨h1,h2,h3⟩,_⟩:=h;simp [Instr.sliceAt,Instr.slice,Instr.sliceBounds,Instr.sliceBound,asIntOf,run_underlying hu,Qel hsz,h1,h2]
    ·
     rename_i k l;refine ⟨_,h.2,fun w=>?_⟩;obtain ⟨⟨h1,h2⟩,_⟩:=h;have:(a.map fun x=>x.add 0)=a:=by cases a <;> simp [Addr.add]
     simp [Instr.sliceAt,Instr.slice,Instr.sliceBounds,Instr.sliceBound,asIntOf,run_underlying hu,Qel hsz,h1,h2,this]
    ·
     rename_i k l k' h';refine ⟨_,h.2,fun w=>?_⟩;obtain ⟨⟨h1,h2,h3⟩,_⟩:=h;have hb:0<=h'/\h'<=(cap:Int):=⟨by omega,h3⟩;have hb2:0<=l/\l<=(h'.toNat:Int):=⟨h1,by omega⟩;have e1:=fun code w=>Qkx (P:=P) (k:=k') (y:=cap) (code:=code) hb.1 hb.2 w;have e2:=fun code w=>Qkx (P:=P) (k:=k) (y:=h'.toNat) (code:=code) hb2.1 hb2.2 w;simp [Instr.sliceAt,Instr.slice,Instr.sliceBounds,run_underlying hu,Qel hsz,e1,e2]
    exact h.elim
   exact h.elim
  exact h.elim
 exact h.elim
def Qan (l:List UInt8):List Value:=l.map fun b=>.int .u8 b.toNat
def Qhp (w:World) (a:Option Addr) (n:Nat) (l:List UInt8):Prop :=
 l.length=n/\(a=none->n=0)/\∀ ad,a=some ad->Reads w ad (Qan l)
def Qfd (P:Program) (src dst:TypeId) (x:Value) (w:World) (K:Value->Prop):Prop :=
 match P.underlying src,P.underlying dst,x with
 | some _,some (.int k),.int _ n=>Qed k n K
 | some _,some .string,.string s=>K (.string s)
 | some (.slice E),some .string,.slice a n _=>P.underlying E=some (.int .u8)/\∃ l,Qhp w a n l/\K (Str l)
 | _,_,_=>False
theorem QA0 (l:List UInt8) (s:ByteArray):(l.map fun b=>(b.toNat:Int)).foldl (fun r n=>r.push (UInt8.ofNat n.toNat)) s=⟨(s.data.toList++l).toArray⟩:=by
 induction l generalizing s with
 | nil=>apply ByteArray.ext;simp
 | cons b l ih =>
  simp only [List.map_cons,List.foldl_cons];rw [ih];apply ByteArray.ext;simp [ByteArray.push]
theorem Qev {P:Program}{w:World}{a:Addr}{xs:List Value} (h:Reads w a xs):(loadCells a xs.length).run P w=.ok xs.toArray w :=
 run_loadCells_list w a xs h
theorem QDh {P:Program}{src dst:TypeId}{x:Value}{w:World}{K:Value->Prop} (h:Qfd P src dst x w K) :
  ∃ v,K v/\∀ w',Ext w w'->(convert src dst x).run P w'=.ok v w':=by
 unfold Qfd at h;split at h
 ·
  rename_i d k k' n hs hd;refine ⟨_,Qet h,fun w' _=>?_⟩;simp [convert,run_underlying hs,run_underlying hd,Conv.intToInt]
 ·
  rename_i d s hs hd;refine ⟨_,h,fun w' _=>?_⟩;cases d <;> simp [convert,run_underlying hs,run_underlying hd]
 ·
  rename_i E a n c hs hd;obtain ⟨he,l,⟨hl,hnil,hr⟩,hK⟩:=h;refine ⟨_,hK,fun w' hw=>?_⟩;rw [run_convert_bytes_string w' src dst E a n c hs he hd];cases a with
  | none =>
   have hn:=hnil rfl;subst hn;have:l=[]:=List.eq_nil_of_length_eq_zero hl;subst this;simp only [Conv.bytesToString,Sem.run_pure];rfl
  | some ad =>
   have hr':=(hr ad rfl).ext hw;have e1:Qan l=(l.map fun b=>(b.toNat:Int)).map (Value.int .u8):=by simp [Qan]
   have hc:=Qev (P:=P) hr';have e2:(Qan l).length=n:=by simp [Qan,hl]
   rw [e2,e1] at hc;rw [run_bytesToString w' ad n c (l.map fun b=>(b.toNat:Int)) hc];rw [QA0];simp
 exact h.elim
def vLen (P:Program) (T:TypeId) (x:Value) (K:Value->Prop):Prop :=
 match P.underlying T,x with
 | some .string,.string s=>K (.int .i64 (toL s).length)
 | some (.slice _),.slice _ n _=>K (.int .i64 n)
 | some (.array n _),_=>K (.int .i64 n)
 | some (.pointer A),_=>match P.underlying A with
  | some (.array n _)=>K (.int .i64 n)
  | _=>False
 | _,_=>False
theorem QGz {P:Program}{T:TypeId}{x:Value}{K:Value->Prop} (h:vLen P T x K) {ts:Array TypeId} (ht:ts[0]? = some T) {ty:TypeId} :
  ∃ v,K v/\∀ w,(Builtin.len_ ts ty #[x]).run P w=.ok v w:=by
 unfold vLen at h;split at h
 ·
  rename_i s hu;exact ⟨_,h,fun w=>by simp [Builtin.len_,ht,run_underlying hu,goInt,toL]⟩
 ·
  rename_i hu;exact ⟨_,h,fun w=>by simp [Builtin.len_,ht,run_underlying hu,goInt]⟩
 ·
  rename_i hu;exact ⟨_,h,fun w=>by simp [Builtin.len_,ht,run_underlying hu,goInt]⟩
 ·
  rename_i hu;split at h
  ·
   rename_i hu2;exact ⟨_,h,fun w=>by simp [Builtin.len_,ht,run_underlying hu,run_underlying hu2,goInt]⟩
  exact h.elim
 exact h.elim
def vMin:List Value->(Value->Prop)->Prop
 | [.int k x,.int _ y],K=>K (.int k (min x y))
 | [.int k x,.int _ y,.int _ z],K=>K (.int k (min (min x y) z))
 | _,_=>False
def vMax:List Value->(Value->Prop)->Prop
 | [.int k x,.int _ y],K=>K (.int k (max x y))
 | [.int k x,.int _ y,.int _ z],K=>K (.int k (max (max x y) z))
 | _,_=>False
theorem QDi (x y:Int):(if y < x then y else x)=min x y:=by split <;> omega
theorem QG0 {P:Program}{vs:List Value}{K:Value->Prop} (h:vMin vs K) {ts:Array TypeId}{ty:TypeId}:∃ v,K v/\∀ w,(Builtin.min_ ts ty vs.toArray).run P w=.ok v w:=by
 unfold vMin at h;split at h
 ·
  exact ⟨_,h,fun w=>by simp [Builtin.min_,Builtin.min2,QDi]⟩
 ·
  exact ⟨_,h,fun w=>by simp [Builtin.min_,Builtin.min2,QDi]⟩
 exact h.elim
theorem QG1 {P:Program}{vs:List Value}{K:Value->Prop} (h:vMax vs K) {ts:Array TypeId}{ty:TypeId}:∃ v,K v/\∀ w,(Builtin.max_ ts ty vs.toArray).run P w=.ok v w:=by
 unfold vMax at h;split at h
 ·
  exact ⟨_,h,fun w=>by simp [Builtin.max_,Builtin.max2];split <;> omega⟩
 ·
  exact ⟨_,h,fun w=>by simp [Builtin.max_,Builtin.max2];(repeat' split) <;> omega⟩
 exact h.elim
def Qb9 (P:Program) (T:TypeId) (x:Value) (w:World) (K:Value->Prop):Prop :=
 match x with
 | .pointer (some a)=>match P.underlying T with
  | some (.struct _) | some (.array _ _)=>match P.szo T with
   | some n=>∃ cs:List Value,(cs.length=n/\Reads w a cs)/\K (.agg cs.toArray)
   | none=>False
  | some _=>∃ v,w.cell? a=some v/\K v
  | none=>False
 | _=>False
theorem QDj {P:Program}{T:TypeId}{x:Value}{w:World}{K:Value->Prop} (h:Qb9 P T x w K) :
  ∃ v,K v/\∀ w',Ext w w'->(Instr.loadAt T x).run P w'=.ok v w':=by
 have key:∀ (a:Addr) (n:Nat),(P.szo T=some n)->(∀ w,(isAgg T).run P w=.ok true w)->∀ cs:List Value,cs.length=n->Reads w a cs ->
   ∀ w',Ext w w'->(Instr.loadAt T (.pointer (some a))).run P w'=.ok (.agg cs.toArray) w':=by
  intro a n hn hagg cs hl hr w' hw;have:=Qev (P:=P) (hr.ext hw);rw [hl] at this;simp [Instr.loadAt,Instr.sureAddr,loadVar,hagg,Qel hn,this]
 unfold Qb9 at h;split at h
 ·
  rename_i a;split at h
  ·
   rename_i hu;split at h
   ·
    rename_i n hn;obtain ⟨cs,⟨hl,hr⟩,hK⟩:=h;exact ⟨_,hK,key a n hn (fun w=>by simp [isAgg,run_underlying hu]) cs hl hr⟩
   exact h.elim
  ·
   rename_i hu;split at h
   ·
    rename_i n hn;obtain ⟨cs,⟨hl,hr⟩,hK⟩:=h;exact ⟨_,hK,key a n hn (fun w=>by simp [isAgg,run_underlying hu]) cs hl hr⟩
   exact h.elim
  ·
   rename_i d hd1 hd2 hu;obtain ⟨v,hv,hK⟩:=h;refine ⟨v,hK,fun w' hw=>?_⟩;have hc:w'.cell? a=some v:=hw.cell hv
   have:(isAgg T).run P w'=.ok false w':=by
    cases d <;> simp_all [isAgg,run_underlying hu]
   simp [Instr.loadAt,Instr.sureAddr,loadVar,this,hc]
  exact h.elim
 exact h.elim
def vNil (x:Value) (K:Value->Prop):Prop :=
 match x with
 | .pointer (some a)=>K (.pointer (some a))
 | .func (.func f) p c=>K (.func (.func f) p c)
 | .iface t v=>K (.iface t v)
 | _=>False
def Qa1 (P:Program) (S:TypeId) (x:Value) (f:Nat) (K:Value->Prop):Prop :=
 match x with
 | .pointer (some a)=>match P.underlying S with
  | some (.struct fields)=>match fields[f]? with
   | some fd=>match P.szo fd.type with
    | some (_+1)=>K (.pointer (some (a.add fd.offset)))
    | _=>False
   | none=>False
  | _=>False
 | _=>False
theorem Qpp {P:Program}{S:TypeId}{x:Value}{f:Nat}{K:Value->Prop} (h:Qa1 P S x f K):∃ v,K v/\∀ w,(Instr.fieldAt S x f).run P w=.ok v w:=by
 unfold Qa1 at h;split at h
 ·
  split at h
  ·
   rename_i hu;split at h
   ·
    rename_i fd hf;split at h
    ·
     rename_i n hn;exact ⟨_,h,fun w=>by simp [Instr.fieldAt,Instr.sureAddr,run_underlying hu,hf,fieldPlace,Qel hn]⟩
    exact h.elim
   exact h.elim
  exact h.elim
 exact h.elim
def Qc3 (P:Program) (S:TypeId) (x:Value) (f:Nat) (K:Value->Prop):Prop :=
 match x with
 | .agg cs=>match P.underlying S with
  | some (.struct fields)=>match fields[f]? with
   | some fd=>Qto P fd.type cs fd.offset K
   | none=>False
  | _=>False
 | _=>False
theorem QA1 {P:Program}{S:TypeId}{x:Value}{f:Nat}{K:Value->Prop} (h:Qc3 P S x f K):∃ v,K v/\∀ w,(Instr.field S x f).run P w=.ok v w:=by
 unfold Qc3 at h;split at h
 ·
  split at h
  ·
   rename_i hu;split at h
   ·
    rename_i fd hf;obtain ⟨v,hv,hr⟩:=Qtp h;exact ⟨v,hv,fun w=>by simp [Instr.field,run_underlying hu,hf,asAgg,hr]⟩
   exact h.elim
  exact h.elim
 exact h.elim
def Qa5 (P:Program) (T:TypeId) (x i:Value) (K:Value->Prop):Prop :=
 match i with
 | .int _ n=>match P.underlying T,x with
  | some (.slice E),.slice (some a) len _=>match P.szo E with
   | some sz=>(0<=n/\n < len)/\K (.pointer (some (a.add (n.toNat * sz))))
   | none=>False
  | some (.array len E),.pointer (some a)=>match P.szo E with
   | some sz=>(0<=n/\n < len)/\K (.pointer (some (a.add (n.toNat * sz))))
   | none=>False
  | _,_=>False
 | _=>False
theorem Qpq {P:Program}{T:TypeId}{x i:Value}{K:Value->Prop} (h:Qa5 P T x i K):∃ v,K v/\∀ w,(Instr.indexAt T x i).run P w=.ok v w:=by
 unfold Qa5 at h;split at h
 ·
  split at h
  ·
   rename_i hu;split at h
   ·
    rename_i sz hsz;exact ⟨_,h.2,fun w=>by simp [Instr.indexAt,asIntOf,run_underlying hu,h.1,Qel hsz]⟩
   exact h.elim
  ·
   rename_i hu;split at h
   ·
    rename_i sz hsz;exact ⟨_,h.2,fun w=>by simp [Instr.indexAt,asIntOf,Instr.sureAddr,run_underlying hu,h.1,Qel hsz]⟩
   exact h.elim
  exact h.elim
 exact h.elim
def Qjk (x:Value) (i:Nat) (K:Value->Prop):Prop :=
 match x with
 | .tuple vs=>match vs[i]? with
  | some v=>K v
  | none=>False
 | _=>False
def vUn (op:UnOp) (x:Value) (K:Value->Prop):Prop :=
 match op,x with
 | .not,.bool b=>K (.bool (!b))
 | .neg,.int k n=>Qed k (-n) K
 | .xor,.int .u32 n=>(0<=n/\n<=4294967295)/\K (.int .u32 (4294967295 - n))
 | .xor,.int .u64 n=>(0<=n/\n<=18446744073709551615)/\K (.int .u64 (18446744073709551615 - n))
 | .xor,.int .u8 n=>(0<=n/\n<=255)/\K (.int .u8 (255 - n))
 | _,_=>False
theorem Qr2 (n:Nat) (x:Int) (h0:0<=x) (h1:x.toNat < 2 ^ n):((BitVec.ofInt n ((2 ^ n:Nat) - 1:Int)) ^^^ BitVec.ofInt n x).toNat=2 ^ n - 1 - x.toNat:=by
 have e:BitVec.ofInt n ((2 ^ n:Nat) - 1:Int)=BitVec.allOnes n:=by
  apply BitVec.eq_of_toNat_eq;have hp:0 < 2 ^ n:=Nat.two_pow_pos n;simp only [BitVec.toNat_ofInt,BitVec.toNat_allOnes];have:(((2 ^ n:Nat):Int) - 1) % ((2 ^ n:Nat):Int)=((2 ^ n:Nat):Int) - 1:=Int.emod_eq_of_lt (by omega) (by omega);rw [this];omega
 rw [e,BitVec.allOnes_xor,BitVec.toNat_not,toNat_ofInt h0 h1]
theorem QJs {P:Program}{op:UnOp}{x:Value}{K:Value->Prop} (h:vUn op x K):∃ v,K v/\∀ w,(Op.unary op x).run P w=.ok v w:=by
 unfold vUn at h;split at h
 ·
  exact ⟨_,h,fun w=>by simp [Op.unary]⟩
 ·
  refine ⟨_,Qet h,fun w=>by simp [Op.unary,Op.intArith]⟩
 ·
  rename_i n;refine ⟨_,h.2,fun w=>?_⟩;have hx:=Qr2 32 n h.1.1 (by have:=h.1;omega);have e:IntKind.u32.max=((2 ^ 32:Nat) - 1:Int):=by decide
  simp only [Op.unary,IntKind.signed,Op.intBits,Sem.run_pure,Bool.false_eq_true,if_false,e];have hx':(BitVec.ofInt IntKind.u32.bits ((2 ^ 32:Nat) - 1:Int) ^^^ BitVec.ofInt IntKind.u32.bits n).toNat=2 ^ 32 - 1 - n.toNat:=hx;rw [hx',Qzk]
  congr 2
  have:=h.1;omega
 ·
  rename_i n;refine ⟨_,h.2,fun w=>?_⟩;have hx:=Qr2 64 n h.1.1 (by have:=h.1;omega);have e:IntKind.u64.max=((2 ^ 64:Nat) - 1:Int):=by decide
  simp only [Op.unary,IntKind.signed,Op.intBits,Sem.run_pure,Bool.false_eq_true,if_false,e];have hx':(BitVec.ofInt IntKind.u64.bits ((2 ^ 64:Nat) - 1:Int) ^^^ BitVec.ofInt IntKind.u64.bits n).toNat=2 ^ 64 - 1 - n.toNat:=hx;rw [hx',Qzl]
  congr 2
  have:=h.1;omega
 ·
  rename_i n;refine ⟨_,h.2,fun w=>?_⟩;have hx:=Qr2 8 n h.1.1 (by have:=h.1;omega);have e:IntKind.u8.max=((2 ^ 8:Nat) - 1:Int):=by decide
  simp only [Op.unary,IntKind.signed,Op.intBits,Sem.run_pure,Bool.false_eq_true,if_false,e];have hx':(BitVec.ofInt IntKind.u8.bits ((2 ^ 8:Nat) - 1:Int) ^^^ BitVec.ofInt IntKind.u8.bits n).toNat=2 ^ 8 - 1 - n.toNat:=hx;rw [hx',QDg]
  congr 2
  have:=h.1;omega
 exact h.elim
def EqR (P:Program) (op:BinOp) (T:TypeId) (xo yo:Operand) (x y:Value) (w:World) (K:Value->Prop):Prop :=
 ∃ b:Bool,(∀ w',Ext w w'->(do eqGuard op T xo yo x y;binOp op T x y:Sem Value).run P w'=.ok (.bool b) w')/\K (.bool b)
def Qby (P:Program) (op:BinOp) (T:TypeId) (xo yo:Operand) (x y:Value) (w:World) (K:Value->Prop):Prop :=
 match x,y with
 | .int k a,.int k' b=>vBin P op T (.int k a) (.int k' b) w K
 | .string s,.string t=>vBin P op T (.string s) (.string t) w K
 | .bool a,.bool b=>vBin P op T (.bool a) (.bool b) w K
 | x,y=>EqR P op T xo yo x y w K
theorem QDk {P:Program}{op:BinOp}{T:TypeId}{xo yo:Operand}{x y:Value}{w:World}{K:Value->Prop} (h:Qby P op T xo yo x y w K) :
  ∃ v,K v/\∀ w',Ext w w'->(do eqGuard op T xo yo x y;binOp op T x y:Sem Value).run P w'=.ok v w':=by
 unfold Qby at h;split at h
 ·
  obtain ⟨v,hv,hr⟩:=Qr1 h;exact ⟨v,hv,fun w' hw=>by simp only [Sem.run_bind];rw [Qh2 ⟨by simp,by simp⟩];simp only [Result.andThen_ok];exact hr w' hw⟩
 ·
  obtain ⟨v,hv,hr⟩:=Qr1 h;exact ⟨v,hv,fun w' hw=>by simp only [Sem.run_bind];rw [Qh2 ⟨by simp,by simp⟩];simp only [Result.andThen_ok];exact hr w' hw⟩
 ·
  obtain ⟨v,hv,hr⟩:=Qr1 h;exact ⟨v,hv,fun w' hw=>by simp only [Sem.run_bind];rw [Qh2 ⟨by simp,by simp⟩];simp only [Result.andThen_ok];exact hr w' hw⟩
 obtain ⟨b,hr,hb⟩:=h;exact ⟨_,hb,hr⟩
def Qbu (P:Program) (s d:TypeId):Bool :=
 match P.underlying s,P.underlying d with
 | some .string,some (.slice _)=>false
 | _,_=>true
def Qfo (P:Program):Op->Bool
 | .convert s d _=>Qbu P s d
 | .move _ | .assign _ | .pick .. | .binOp .. | .unOp .. | .slice _ _ _ _ none | .fieldAddr .. | .field .. | .indexAddr .. | .index .. | .extract ..
 | .makeInterface .. | .makeFunc .. | .build .. | .load .. | .nilCheck .. => true
 | .call { callee:=.builtin .len,.. } | .call { callee:=.builtin .min,.. } | .call { callee:=.builtin .max,.. }=>true
 | _=>false
def argO (e:Env) (x:Option Operand) (K:Option Value->Prop):Prop :=
 match x with
 | none=>K none
 | some x=>arg e x fun v=>K (some v)
theorem Qqj {N:Nat}{e:Env}{a:Act}{x:Option Operand}{K:Option Value->Prop} (ha:Fits N e a) (h:argO e x K):K (x.map a.eval):=by
 cases x with
 | none=>exact h
 | some x=>exact Qa2 (K:=fun v=>K (some v)) ha h
def Qny (c:Value) (A B:Prop):Prop :=
 match c with
 | .bool true=>A
 | .bool false=>B
 | _=>False
def Qjl (P:Program) (T:TypeId) (x:Value) (K:Value->Prop):Prop :=
 match P.underlying T with
 | some (.interface _)=>False
 | some _=>K (.iface T x)
 | none=>False
def Qdk (P:Program) (T:TypeId) (parts:List (Nat×Value)) (K:Value->Prop):Prop :=
 match P.built T parts with
 | some cells=>K (.agg cells)
 | none=>False
def Qhq (e:Env):List (Nat×Operand)->(List (Nat×Value)->Prop)->Prop
 | [],K=>K []
 | p::ps,K=>arg e p.2 fun v=>Qhq e ps fun vs=>K ((p.1,v)::vs)
theorem Qtq {N:Nat}{e:Env}{a:Act} (ha:Fits N e a) {ps:List (Nat×Operand)}:∀ {K:List (Nat×Value)->Prop},Qhq e ps K->K (ps.map fun p=>(p.1,a.eval p.2)):=by
 induction ps with
 | nil=>intro K h;exact h
 | cons p ps ih=>intro K h;exact ih (Qa2 (K:=fun v=>Qhq e ps fun vs=>K ((p.1,v)::vs)) ha h)
def vcOp (P:Program) (op:Op) (e:Env) (w:World) (K:Value->Prop):Prop :=
 match op with
 | .move x=>arg e x K
 | .assign x=>arg e x K
 | .pick c a b=>arg e c fun vc=>Qny vc (arg e a K) (arg e b K)
 | .binOp op T x y _=>arg e x fun a=>arg e y fun b=>Qby P op T x y a b w K
 | .unOp op _ x=>arg e x fun a=>vUn op a K
 | .convert s d x=>arg e x fun a=>Qfd P s d a w K
 | .slice T x lo hi none=>arg e x fun a=>argO e lo fun l=>argO e hi fun h=>Qcb P T a l h K
 | .fieldAddr S x f=>arg e x fun a=>Qa1 P S a f K
 | .field S x f=>arg e x fun a=>Qc3 P S a f K
 | .indexAddr T x i=>arg e x fun a=>arg e i fun n=>Qa5 P T a n K
 | .index T x i=>arg e x fun a=>arg e i fun n=>Qee P T a n K
 | .extract t i=>arg e t fun a=>Qjk a i K
 | .makeInterface T x=>arg e x fun a=>Qjl P T a K
 | .makeFunc fn first captured=>argL e first.toList fun fs=>argL e captured.toList fun cs=>K (.func fn fs.toArray cs.toArray)
 | .build T parts=>Qhq e parts.toList fun ps=>Qdk P T ps K
 | .load T x=>arg e x fun a=>Qb9 P T a w K
 | .nilCheck x=>arg e x fun a=>vNil a K
 | .call { callee:=.builtin .len,args:=az,argTypes:=ts }=>argL e az.toList fun vs=>match vs,ts[0]? with
  | [v],some T=>vLen P T v K
  | _,_=>False
 | .call { callee:=.builtin .min,args:=az,.. }=>argL e az.toList fun vs=>vMin vs K
 | .call { callee:=.builtin .max,args:=az,.. }=>argL e az.toList fun vs=>vMax vs K
 | _=>False
theorem Qfe (xs:Array Operand) (a:Act):xs.map a.eval=(xs.toList.map a.eval).toArray:=by
 apply Array.ext';simp
theorem Qd0 {P:Program}{N:Nat}{o:Oper}{e:Env}{a:Act}{w:World}{K:Value->Prop} (ha:Fits N e a) (h:vcOp P o.op e w K) :
  ∃ v,K v/\∀ w',Ext w w'->(execOp a.eval o).run P w'=.ok (.value v) w':=by
 unfold vcOp at h;split at h
 case h_1 x ho=>exact ⟨_,Qa2 ha h,fun w' _=>by simp [execOp,ho]⟩
 case h_2 x ho=>exact ⟨_,Qa2 ha h,fun w' _=>by simp [execOp,ho]⟩
 case h_3 c x y ho =>
  have h1:=Qa2 (K:=fun vc=>Qny vc (arg e x K) (arg e y K)) ha h;unfold Qny at h1;split at h1
  ·
   rename_i hc;exact ⟨_,Qa2 ha h1,fun w' _=>by simp [execOp,ho,hc,asBool]⟩
  ·
   rename_i hc;exact ⟨_,Qa2 ha h1,fun w' _=>by simp [execOp,ho,hc,asBool]⟩
  exact h1.elim
 case h_4 op T x y T' ho =>
  have h1:=Qa2 (K:=fun b=>Qby P op T x y (a.eval x) b w K) ha (Qa2 (K:=fun b=>arg e y fun c=>Qby P op T x y b c w K) ha h);obtain ⟨v,hv,hr⟩:=QDk h1;refine ⟨v,hv,fun w' hw=>?_⟩;simp only [execOp,ho];have:=hr w' hw;simp only [Sem.run_bind] at this ⊢;simp only [this,Result.andThen_ok,Sem.run_pure]
 case h_5 op T x ho =>
  obtain ⟨v,hv,hr⟩:=QJs (P:=P) (Qa2 (K:=fun b=>vUn op b K) ha h);exact ⟨v,hv,fun w' _=>by simp [execOp,ho,hr]⟩
 case h_6 s d x ho =>
  obtain ⟨v,hv,hr⟩:=QDh (Qa2 (K:=fun b=>Qfd P s d b w K) ha h);exact ⟨v,hv,fun w' hw=>by simp [execOp,ho,hr w' hw]⟩
 case h_7 T x lo hi ho =>
  have h1:=Qqj (K:=fun h=>Qcb P T (a.eval x) (lo.map a.eval) h K) ha (Qqj (K:=fun l=>argO e hi fun h=>Qcb P T (a.eval x) l h K) ha (Qa2 (K:=fun b=>argO e lo fun l=>argO e hi fun h=>Qcb P T b l h K) ha h));obtain ⟨v,hv,hr⟩:=QAz h1;exact ⟨v,hv,fun w' _=>by simp only [execOp,ho,Sem.run_bind,Option.map_none,hr,Result.andThen_ok,Sem.run_pure]⟩
 case h_8 S x f ho =>
  obtain ⟨v,hv,hr⟩:=Qpp (Qa2 (K:=fun b=>Qa1 P S b f K) ha h);exact ⟨v,hv,fun w' _=>by simp [execOp,ho,hr]⟩
 case h_9 S x f ho =>
  obtain ⟨v,hv,hr⟩:=QA1 (Qa2 (K:=fun b=>Qc3 P S b f K) ha h);exact ⟨v,hv,fun w' _=>by simp [execOp,ho,hr]⟩
 case h_10 T x i ho =>
  have h1:=Qa2 (K:=fun n=>Qa5 P T (a.eval x) n K) ha (Qa2 (K:=fun b=>arg e i fun n=>Qa5 P T b n K) ha h);obtain ⟨v,hv,hr⟩:=Qpq h1;exact ⟨v,hv,fun w' _=>by simp [execOp,ho,hr]⟩
 case h_11 T x i ho =>
  have h1:=Qa2 (K:=fun n=>Qee P T (a.eval x) n K) ha (Qa2 (K:=fun b=>arg e i fun n=>Qee P T b n K) ha h);obtain ⟨v,hv,hr⟩:=QAy h1;exact ⟨v,hv,fun w' _=>by simp [execOp,ho,hr]⟩
 case h_12 t i ho =>
  have h1:=Qa2 (K:=fun b=>Qjk b i K) ha h;unfold Qjk at h1;split at h1
  ·
   rename_i vs hx;split at h1
   ·
    rename_i v hv;exact ⟨v,h1,fun w' _=>by simp [execOp,ho,hx,Instr.extract,hv]⟩
   exact h1.elim
  exact h1.elim
 case h_13 T x ho =>
  have h1:=Qa2 (K:=fun b=>Qjl P T b K) ha h;unfold Qjl at h1;split at h1
  ·
   exact h1.elim
  ·
   rename_i d hd hu;exact ⟨_,h1,fun w' _=>by cases d <;> simp_all [execOp,Instr.makeInterface,run_underlying hu]⟩
  exact h1.elim
 case h_14 fn first captured ho =>
  have h1:=Qc0 (K:=fun fs=>argL e captured.toList fun cs=>K (.func fn fs.toArray cs.toArray)) ha h;have h2:=Qc0 (K:=fun cs=>K (.func fn (first.toList.map a.eval).toArray cs.toArray)) ha h1;exact ⟨_,h2,fun w' _=>by simp [execOp,ho,Instr.makeFunc,Qfe]⟩
 case h_15 T parts ho =>
  have h1:=Qtq (K:=fun ps=>Qdk P T ps K) ha h;unfold Qdk at h1;split at h1
  ·
   rename_i cells hb;refine ⟨_,h1,fun w' _=>?_⟩;have:=run_build (P:=P) w' T (parts.map fun (i,x)=>(i,a.eval x)) cells (by simpa using hb);simp [execOp,ho,this]
  exact h1.elim
 case h_16 T x ho =>
  obtain ⟨v,hv,hr⟩:=QDj (Qa2 (K:=fun b=>Qb9 P T b w K) ha h);exact ⟨v,hv,fun w' hw=>by simp [execOp,ho,hr w' hw]⟩
 case h_17 x ho =>
  have h1:=Qa2 (K:=fun b=>vNil b K) ha h;unfold vNil at h1;split at h1
  ·
   rename_i ad hx;exact ⟨_,h1,fun w' _=>by simp [execOp,ho,hx]⟩
  ·
   rename_i f p c hx;exact ⟨_,h1,fun w' _=>by simp [execOp,ho,hx]⟩
  ·
   rename_i t v hx;exact ⟨_,h1,fun w' _=>by simp [execOp,ho,hx]⟩
  exact h1.elim
 case h_18 az ts ho =>
  have h1:=Qc0 (K:=fun vs=>match vs,ts[0]? with | [v],some T=>vLen P T v K | _,_=>False) ha h;split at h1
  ·
   rename_i v T hv hT;obtain ⟨u,hu,hr⟩:=QGz h1 hT (ty:=o.type);refine ⟨u,hu,fun w' _=>?_⟩;have hm:az.map a.eval=#[v]:=by rw [Qfe,hv]
   simp [execOp,ho,resolve,invoke,builtin,hm,hr]
  exact h1.elim
 case h_19 az ts ho =>
  obtain ⟨u,hu,hr⟩:=QG0 (P:=P) (Qc0 (K:=fun vs=>vMin vs K) ha h) (ts:=ts) (ty:=o.type);refine ⟨u,hu,fun w' _=>?_⟩;simp only [execOp,ho,resolve,invoke,builtin,Qfe,Sem.run_bind,Sem.run_pure,Result.andThen_ok,hr]
 case h_20 az ts ho =>
  obtain ⟨u,hu,hr⟩:=QG1 (P:=P) (Qc0 (K:=fun vs=>vMax vs K) ha h) (ts:=ts) (ty:=o.type);refine ⟨u,hu,fun w' _=>?_⟩;simp only [execOp,ho,resolve,invoke,builtin,Qfe,Sem.run_bind,Sem.run_pure,Result.andThen_ok,hr]
 case h_21=>exact h.elim
def Mem (P:Program) (N:Nat) (o:Oper) (e:Env) (w:World) (K:Value->World->Prop):Prop :=
 ∀ (a:Act) (n:Nat) (next:Act->World->Prop) (Q:Exit->Act->World->Prop),Fits N e a->(∀ v w' m,K v w'->next (a.put o.dst v) (w'.drewN m))->o.wp P a (w.drewN n) next Q
def MemK (P:Program) (N:Nat) (o:Oper) (e:Env) (w:World) (rest:Env->World->(Env->World->Prop)->Prop) (K:Env->World->Prop):Prop :=
 Mem P N o e w fun v w'=>rest (e.put o.dst v) w' K
def Qiw (P:Program) (N:Nat) (o:Oper) (e:Env) (w:World) (rest:Env->World->(Env->Prop)->Prop) (K:Env->Prop):Prop :=
 ∃ v,(∀ a n,Fits N e a->o.quietAt P a (fun w'=>∃ n,w'=w.drewN n) (w.drewN n) v)/\rest (e.put o.dst v) w K
def Ql1 (ops:List Oper) (j:Nat):Option Tmp:=(ops[j]?).bind (·.dst)
def gB (b want:Bool) (A B:Prop):Prop:=(b=want->A)/\(b=(!want)->B)
def Qix (t:Tmp) (want:Bool) (v:Value) (e:Env) (A B:Env->Prop):Prop :=
 match v with
 | .bool b=>gB b want (A ((t,.bool want)::e)) (B ((t,.bool !want)::e))
 | .tuple _=>B e
 | _=>False
def Qiy (ops:List Oper) (g:Option (Nat×Bool)) (e:Env) (A B:Env->Prop):Prop :=
 match g with
 | none=>A e
 | some p=>match Ql1 ops p.1 with
  | none=>B e
  | some t=>argT e t fun v=>Qix t p.2 v e A B
def Qdp (N:Nat) (o:Oper):Bool :=
 match o.dst with
 | none=>true
 | some t=>decide (t < N)
def Qtr (P:Program) (N:Nat) (p:Bool) (o:Oper) (e:Env) (w:World) (R:Env->World->(Env->World->Prop)->Prop) (K:Env->World->Prop):Prop :=
 match p with
 | true=>vcOp P o.op e w fun v=>R (e.put o.dst v) w K
 | false=>MemK P N o e w R K
def Qr3 (P:Program) (N:Nat) (p:Bool) (o:Oper) (e:Env) (w:World) (R:Env->World->(Env->Prop)->Prop) (K:Env->Prop):Prop :=
 match p with
 | true=>vcOp P o.op e w fun v=>R (e.put o.dst v) w K
 | false=>Qiw P N o e w R K
def Qay (P:Program) (N:Nat) (ops:List Oper):List Oper->Env->World->(Env->World->Prop)->Prop
 | [],e,w,K=>K e w
 | o::rest,e,w,K=>Qiy ops o.guard e
   (fun e=>Qtr P N (Qfo P o.op) o e w (Qay P N ops rest) K)
   (fun e=>Qay P N ops rest (e.put o.dst undef) w K)
def vcQ (P:Program) (N:Nat) (ops:List Oper):List Oper->Env->World->(Env->Prop)->Prop
 | [],e,_,K=>K e
 | o::rest,e,w,K=>Qiy ops o.guard e
   (fun e=>Qr3 P N (Qfo P o.op) o e w (vcQ P N ops rest) K)
   (fun e=>vcQ P N ops rest (e.put o.dst undef) w K)
theorem Fits.put' {N:Nat}{e:Env}{a:Act} (h:Fits N e a) {o:Oper} (ho:Qdp N o=true) (v:Value):Fits N (e.put o.dst v) (a.put o.dst v) :=
 h.put o.dst v fun t ht=>by simpa [Qdp,ht] using ho
theorem Fits.cons {N:Nat}{e:Env}{a:Act} (h:Fits N e a) {t:Tmp}{v:Value} (ht:a.tmps.getD t undef=v):Fits N ((t,v)::e) a :=
 ⟨h.size,h.defers,fun s u hs=>by
  simp only [Env.find?_cons] at hs;split at hs
  ·
   rename_i hst;subst hst;simp at hs;rw [<- hs];exact ht
  exact h.at_ s u hs⟩
theorem Qdr {N:Nat}{ops:List Oper}{o:Oper}{e:Env}{a:Act}{A B:Env->Prop} (ha:Fits N e a) (h:Qiy ops o.guard e A B) :
  (∃ e',Fits N e' a/\A e'/\Region.wanted o (yielded ops.toArray a.tmps)=true)∨(∃ e',Fits N e' a/\B e'/\Region.wanted o (yielded ops.toArray a.tmps)=false):=by
 unfold Qiy at h;split at h
 ·
  rename_i hg;exact .inl ⟨e,ha,h,by simp [Region.wanted,hg]⟩
 rename_i p hg;obtain ⟨j,want⟩:=p;simp only at h;split at h
 ·
  rename_i hn;refine .inr ⟨e,ha,h,?_⟩
  have:yielded ops.toArray a.tmps j=none:=by
   unfold yielded;have:((ops.toArray[j]?).bind (·.dst))=none:=by simpa [Ql1] using hn
   rw [this];rfl
  simp [Region.wanted,hg,this]
 rename_i t ht;obtain ⟨v,hv,h⟩:=Qnx h;have hget:=ha.at_ t v hv;have hd:((ops.toArray[j]?).bind (·.dst))=some t:=by simpa [Ql1] using ht
 unfold Qix at h;split at h
 ·
  rename_i b
  have hy:yielded ops.toArray a.tmps j=some b:=by
   unfold yielded;rw [hd]
   have:a.tmps[t]? = some (.bool b):=by
    rw [Array.getD_eq_getD_getElem?] at hget;cases hc:a.tmps[t]? with
    | none=>rw [hc] at hget;simp [undef] at hget
    | some x=>rw [hc] at hget;simpa using hget
   simp [this]
  by_cases hb:b=want
  ·
   refine .inl ⟨_,ha.cons (by rw [hget,hb]),h.1 hb,by simp [Region.wanted,hg,hy,hb]⟩
  have hb':b=!want:=by cases b <;> cases want <;> simp_all
  refine .inr ⟨_,ha.cons (by rw [hget,hb']),h.2 hb',by simp [Region.wanted,hg,hy,hb']⟩
 ·
  rename_i vs;refine .inr ⟨e,ha,h,?_⟩
  have hy:yielded ops.toArray a.tmps j=none:=by
   unfold yielded;rw [hd];rw [Array.getD_eq_getD_getElem?] at hget;cases hc:a.tmps[t]? with
   | none=>simp [hc]
   | some x=>rw [hc] at hget;simp at hget;subst hget;simp [hc]
  simp [Region.wanted,hg,hy]
 exact h.elim
theorem Qfr {P:Program}{N:Nat}{ops:List Oper}{Q:Exit->Act->World->Prop}{K:Env->World->Prop}
  (hK:∀ e a w n,Fits N e a->K e w->Q .normal a (w.drewN n)) (l:List Oper):∀ (e:Env) (a:Act) (w:World) (n:Nat),l.all (Qdp N)=true->Fits N e a ->
   Qay P N ops l e w K->wpList P ops.toArray Q l a (w.drewN n):=by
 induction l with
 | nil=>intro e a w n _ ha h;exact hK e a w n ha h
 | cons o rest ih =>
  intro e a w n hl ha h;simp only [List.all_cons,Bool.and_eq_true] at hl;unfold wpList;rcases Qdr ha h with ⟨e',ha',h',hw⟩ | ⟨e',ha',h',hw⟩
  ·
   rw [if_pos hw];refine .inl ?_;unfold Qtr at h';split at h'
   ·
    obtain ⟨v,hv,hr⟩:=Qd0 ha' h';unfold Oper.wp;rw [hr (w.drewN n) (Ext.drewN w n)];exact ih _ _ w n hl.2 (ha'.put' hl.1 v) hv
   exact h' a n _ Q ha' fun v w' m hv=>ih _ _ w' m hl.2 (ha'.put' hl.1 v) hv
  rw [if_neg (by rw [hw];simp)];exact ih _ _ w n hl.2 (ha'.put' hl.1 undef) h'
theorem QDl {P:Program}{N:Nat}{ops:List Oper}{Q:Act->Prop}{K:Env->Prop}{w:World}
  (hK:∀ e a,Fits N e a->K e->Q a) (l:List Oper):∀ (e:Env) (a:Act),l.all (Qdp N)=true->Fits N e a ->
   vcQ P N ops l e w K->wpQuiet P ops.toArray (fun w'=>∃ n,w'=w.drewN n) Q l a:=by
 induction l with
 | nil=>intro e a _ ha h;exact hK e a ha h
 | cons o rest ih =>
  intro e a hl ha h;simp only [List.all_cons,Bool.and_eq_true] at hl;unfold wpQuiet;rcases Qdr ha h with ⟨e',ha',h',hw⟩ | ⟨e',ha',h',hw⟩
  ·
   rw [if_pos hw];unfold Qr3 at h';split at h'
   ·
    obtain ⟨v,hv,hr⟩:=Qd0 ha' h';refine ⟨v,?_,ih _ _ hl.2 (ha'.put' hl.1 v) hv⟩;rintro w' ⟨n,rfl⟩;unfold Oper.quietAt;rw [hr (w.drewN n) (Ext.drewN w n)];exact ⟨rfl,rfl⟩
   obtain ⟨v,hq,hv⟩:=h';refine ⟨v,?_,ih _ _ hl.2 (ha'.put' hl.1 v) hv⟩;rintro w' ⟨n,rfl⟩;exact hq a n ha'
  rw [if_neg (by rw [hw];simp)];exact ih _ _ hl.2 (ha'.put' hl.1 undef) h'
def Is {α:Sort _} (a b:α):Prop:=a=b
theorem Is.out {α:Sort _}{a b:α} (h:Is a b):a=b:=h
def selT:Env->Nat->(Value->Prop)->Prop->Prop
 | [],_,_,B=>B
 | p::e,n,A,B=>if n=p.1 then A p.2 else selT e n A B
def selK:List Nat->Env->(Env->Prop)->Prop
 | [],_,K=>K []
 | k::ks,e,K=>selT e k (fun v=>selK ks e fun e'=>K ((k,v)::e')) (selK ks e K)
def selC (ks:List Nat) (K:Env->World->Prop):Env->World->Prop:=fun e w=>selK ks e fun e=>K e w
def selQ (ks:List Nat) (K:Env->Prop):Env->Prop:=fun e=>selK ks e K
theorem QDm (e:Env) (n:Nat) (A:Value->Prop) (B:Prop):selT e n A B ↔ match e.find? n with | some v=>A v | none=>B:=by
 induction e with
 | nil=>simp [selT,Env.find?]
 | cons p e ih =>
  simp only [selT,Env.find?_cons];by_cases h:n=p.1
  ·
   simp [h]
  simp only [h,if_false];exact ih
def Env.sel (ks:List Nat) (e:Env):Env:=ks.filterMap fun k=>(e.find? k).map fun v=>(k,v)
theorem Qc7 (ks:List Nat) (e:Env):∀ (K:Env->Prop),selK ks e K ↔ K (e.sel ks):=by
 induction ks with
 | nil=>intro K;rfl
 | cons k ks ih =>
  intro K;simp only [selK,QDm];cases h:e.find? k with
  | none=>simp only [ih];simp [Env.sel,h]
  | some v=>simp only [ih];simp [Env.sel,h]
theorem Env.find?_sel (ks:List Nat) (e:Env) (t:Nat) (v:Value) (h:(e.sel ks).find? t=some v):e.find? t=some v:=by
 induction ks with
 | nil=>simp [Env.sel,Env.find?] at h
 | cons k ks ih =>
  cases hk:e.find? k with
  | none=>exact ih (by simpa [Env.sel,hk] using h)
  | some u =>
   have h':Env.find? ((k,u)::e.sel ks) t=some v:=by simpa [Env.sel,hk] using h
   simp only [Env.find?_cons] at h';by_cases htk:t=k
   ·
    simp only [htk,if_true] at h';rw [htk,hk];exact h'
   simp only [htk,if_false] at h';exact ih h'
theorem Fits.sel {N:Nat}{e:Env}{a:Act} (h:Fits N e a) (ks:List Nat):Fits N (e.sel ks) a:=h.weaken fun t v ht=>Env.find?_sel ks e t v ht
section
variable {P:Program}{fn:Func}{F:Value->World->Prop}{N:Nat}{k:List It}{e:Env}{w:World}
theorem Qts (ks:List Nat) {id:Nat}{ops:List Oper} (hN:ops.all (Qdp N)=true)
  (h:∀ K:Env->World->Prop,(∀ e w,VC ⟨P,fn,F,N⟩ k e w->K e w)->Qay P N ops ops e w (selC ks K)):VC ⟨P,fn,F,N⟩ (.code (.region id ops.toArray false)::k) e w:=by
 intro a n ha;refine wp_region_lit (Qfr (K:=fun e w=>selK ks e fun e=>VC ⟨P,fn,F,N⟩ k e w) (fun e a w n ha hv=>?_) ops e a w n hN ha (h _ fun _ _ hv=>hv));exact ((Qc7 ks e _).1 hv) a n (ha.sel ks)
theorem QA2 (ks:List Nat) {id:Nat}{ops:List Oper} (hm:P.follows .mixedOrders=true) (hB:Region.lexB .any ops.toArray=true) (hN:ops.all (Qdp N)=true)
  (h:∀ K:Env->Prop,(∀ e,VC ⟨P,fn,F,N⟩ k e w->K e)->vcQ P N ops ops e w (selQ ks K)):VC ⟨P,fn,F,N⟩ (.code (.region id ops.toArray true)::k) e w:=by
 intro a n ha;refine wp_region_quiet (C:=fun w'=>∃ n,w'=w.drewN n) hm hB ⟨n+1,rfl⟩ ?_;refine QDl (K:=fun e=>selK ks e fun e=>VC ⟨P,fn,F,N⟩ k e w) (fun e a ha hv=>?_) ops e a hN ha (h _ fun _ hv=>hv);rintro w' ⟨m,rfl⟩;exact ((Qc7 ks e _).1 hv) a m (ha.sel ks)
theorem Qac (ks:List Nat) {body:Code} (I:Nat->Env->World->Prop) (n:Nat) (h0:selK ks e fun e=>I n e w)
  (round:∀ n e w,I n e w->VC ⟨P,fn,F,N⟩ (.code body::.again (fun e' w'=>selK ks e' fun e'=>∃ m,m < n/\I m e' w')::k) e w):VC ⟨P,fn,F,N⟩ (.code (.loop body)::k) e w:=by
 have h0':VC ⟨P,fn,F,N⟩ (.code (.loop body)::k) (e.sel ks) w:=by
  refine QJq I n ((Qc7 ks e _).1 h0) fun n e w hI=>?_;intro a d ha;have h1:=round n e w hI a d ha;simp only [cont] at h1 ⊢;refine wp_mono h1 fun ex a w hq=>?_;cases ex with
  | normal=>obtain ⟨e',w0,d',hw,hf,hI'⟩:=hq;exact ⟨e'.sel ks,w0,d',hw,hf.sel ks,(Qc7 ks e' _).1 hI'⟩
  | _=>exact hq
 exact fun a d ha=>h0' a d (ha.sel ks)
theorem Qde (ks:List Nat) {c:Code} (J:Env->World->Prop) (h:VC ⟨P,fn,F,N⟩ (.code c::.again (fun e w=>selK ks e fun e=>J e w)::k) e w)
  (hJ:∀ e w,J e w->VC ⟨P,fn,F,N⟩ k e w):VC ⟨P,fn,F,N⟩ (.code c::k) e w:=by
 intro a d ha;have h1:=h a d ha;simp only [cont] at h1 ⊢;refine wp_mono h1 fun ex a w hq=>?_;cases ex with
 | normal=>obtain ⟨e',w0,d',rfl,hf,hI'⟩:=hq;exact hJ _ _ ((Qc7 ks e' _).1 hI') a d' (hf.sel ks)
 | _=>exact hq
end
def peel:Code->List It->List It
 | .seq a b,k=>peel a (.code b::k)
 | c,k=>.code c::k
theorem Qj8 {C:Ctx}{e:Env}{w:World}:∀ (c:Code) (k:List It),VC C (peel c k) e w->VC C (.code c::k) e w:=by
 intro c
 induction c with
 | seq a b iha ihb=>intro k h;exact Qar (iha _ h)
 | _=>intro k h;exact h
theorem VR {P:Program}{fn:Func}{F:Value->World->Prop}{N:Nat}{k k':List It}{e:Env}{w:World} (ks:List Nat) {c:Code}{id:Nat}{ops:List Oper} (hp:peel c k=.code (.region id ops.toArray false)::k') (hN:ops.all (Qdp N)=true)
  (h:∀ K:Env->World->Prop,(∀ e w,VC ⟨P,fn,F,N⟩ k' e w->K e w)->Qay P N ops ops e w (selC ks K)):VC ⟨P,fn,F,N⟩ (.code c::k) e w :=
 Qj8 c k (hp ▸ Qts ks hN h)
def Qa9:List Oper->Nat->Bool->Env->(Env->Prop)->(Env->Prop)->Prop
 | [],_,_,e,_,B=>B e
 | o::_,0,b,e,A,B=>match o.dst with
  | none=>B e
  | some t=>argT e t fun v=>Qix t b v e A B
 | _::l,j+1,b,e,A,B=>Qa9 l j b e A B
theorem Qav (ops:List Oper):∀ (j:Nat) (b:Bool) (e:Env) (A B:Env->Prop),Qiy ops (some (j,b)) e A B=Qa9 ops j b e A B:=by
 induction ops with
 | nil=>intro j b e A B;simp [Qiy,Ql1,Qa9]
 | cons o l ih =>
  intro j b e A B;cases j with
  | zero=>cases h:o.dst <;> simp [Qiy,Ql1,Qa9,h]
  | succ j=>rw [Qa9,<- ih];simp [Qiy,Ql1]
def Qtt (P:Program) (T:Option TypeId) (vs:List Value) (K:Value->Prop):Prop :=
 match vs,T with
 | [v],some T=>vLen P T v K
 | _,_=>False
section
variable {P:Program}{N:Nat}{ops rest:List Oper}{d:Option Tmp}{r t ty:Nat}{op:Op}{pos:String}{af:Array Edge}{e:Env}{w:World}{K:Env->World->Prop}{KQ:Env->Prop}{KV:Value->Prop}
theorem QNj (ks:List Nat):Qay P N ops [] e w (selC ks K)=selK ks e fun e=>K e w:=rfl
theorem QNk (ks:List Nat):vcQ P N ops [] e w (selQ ks KQ)=selK ks e KQ:=rfl
theorem QJt {d':Option (Nat×Bool)}{A B:Env->Prop} (b:Bool):Qa9 (⟨some t,op,ty,pos,af,d'⟩::ops) 0 b e A B=argT e t fun v=>Qix t b v e A B:=rfl
theorem QJu {A B:Env->Prop} (o:Oper) (j:Nat) (b:Bool):Qa9 (o::ops) (j+1) b e A B=Qa9 ops j b e A B:=rfl
theorem gv_t {A B:Env->Prop} (b:Bool):Qix t true (.bool b) e A B=gB b true (A ((t,.bool true)::e)) (B ((t,.bool false)::e)):=rfl
theorem gv_f {A B:Env->Prop} (b:Bool):Qix t false (.bool b) e A B=gB b false (A ((t,.bool false)::e)) (B ((t,.bool true)::e)):=rfl
theorem Qtu {KE:Env->Prop}:selK [] e KE=KE []:=rfl
theorem Qnz {KE:Env->Prop} (ks:List Nat):selK (t::ks) e KE=selT e t (fun v=>selK ks e fun e'=>KE ((t,v)::e')) (selK ks e KE):=rfl
theorem QNl {A:Value->Prop}{B:Prop}:selT [] t A B=B:=rfl
theorem Qtv {A:Value->Prop}{B:Prop} (v:Value):selT ((t,v)::e) t A B=A v:=by simp [selT]
theorem Qn0 {A:Value->Prop}{B:Prop} (s:Nat) (v:Value):selT ((s,v)::e) t A B=if t=s then A v else selT e t A B:=rfl
theorem QNm {KV':Value->Prop} (u:Value) (n:Nat):argT (Env.put e (some t) u) n KV'=argT ((t,u)::e) n KV':=rfl
theorem QJv {KV':Value->Prop} (u:Value) (n:Nat):argT (Env.put e none u) n KV'=argT e n KV':=rfl
theorem QNn {KE:Env->Prop} (u:Value) (ks:List Nat):selK ks (Env.put e (some t) u) KE=selK ks ((t,u)::e) KE:=rfl
theorem QJw {KE:Env->Prop} (u:Value) (ks:List Nat):selK ks (Env.put e none u) KE=selK ks e KE:=rfl
theorem QNo {A:Value->Prop}{B:Prop} (u:Value) (n:Nat):selT (Env.put e (some t) u) n A B=selT ((t,u)::e) n A B:=rfl
theorem QJx {A:Value->Prop}{B:Prop} (u:Value) (n:Nat):selT (Env.put e none u) n A B=selT e n A B:=rfl
theorem QG2 {A B:Env->Prop} (want:Bool) (vs:Array Value):Qix t want (.tuple vs) e A B=B e:=rfl
theorem QDn {A B:Env->Prop} (want:Bool):Qix t want undef e A B=B e:=rfl
theorem QQj {A B:Prop}:gB true true A B=A:=by simp [gB]
theorem QNp {A B:Prop}:gB false false A B=A:=by simp [gB]
theorem QQk {A B:Prop}:gB true false A B=B:=by simp [gB]
theorem QQl {A B:Prop}:gB false true A B=B:=by simp [gB]
theorem QQm {p:Prop} [Decidable p] {A B:Prop}:gB (decide p) true A B=((p->A)/\(¬ p->B)):=by simp [gB]
theorem QQn {p:Prop} [Decidable p] {A B:Prop}:gB (decide p) false A B=((¬ p->A)/\(p->B)):=by simp [gB]
theorem QNq (x:Operand):Qay P N ops (⟨some r,.move x,ty,pos,af,none⟩::rest) e w K=arg e x (fun v=>Qay P N ops rest ((r,v)::e) w K):=rfl
theorem QJy (x:Operand) (jj:Nat) (bb:Bool):Qay P N ops (⟨some r,.move x,ty,pos,af,some (jj,bb)⟩::rest) e w K=Qa9 ops jj bb e (fun e=>arg e x (fun v=>Qay P N ops rest ((r,v)::e) w K)) (fun e=>Qay P N ops rest ((r,undef)::e) w K):=by rw [<- Qav];rfl
theorem QNr (x:Operand):vcQ P N ops (⟨some r,.move x,ty,pos,af,none⟩::rest) e w KQ=arg e x (fun v=>vcQ P N ops rest ((r,v)::e) w KQ):=rfl
theorem QJz (x:Operand) (jj:Nat) (bb:Bool):vcQ P N ops (⟨some r,.move x,ty,pos,af,some (jj,bb)⟩::rest) e w KQ=Qa9 ops jj bb e (fun e=>arg e x (fun v=>vcQ P N ops rest ((r,v)::e) w KQ)) (fun e=>vcQ P N ops rest ((r,undef)::e) w KQ):=by rw [<- Qav];rfl
theorem QG3 (x:Operand):Qay P N ops (⟨some r,.assign x,ty,pos,af,none⟩::rest) e w K=arg e x (fun v=>Qay P N ops rest ((r,v)::e) w K):=rfl
theorem QG4 (x:Operand):vcQ P N ops (⟨some r,.assign x,ty,pos,af,none⟩::rest) e w KQ=arg e x (fun v=>vcQ P N ops rest ((r,v)::e) w KQ):=rfl
theorem QNs (c x y:Operand):Qay P N ops (⟨some r,.pick c x y,ty,pos,af,none⟩::rest) e w K=arg e c fun vc=>Qny vc (arg e x (fun v=>Qay P N ops rest ((r,v)::e) w K)) (arg e y (fun v=>Qay P N ops rest ((r,v)::e) w K)):=rfl
theorem QJ0 (c x y:Operand) (jj:Nat) (bb:Bool):Qay P N ops (⟨some r,.pick c x y,ty,pos,af,some (jj,bb)⟩::rest) e w K=Qa9 ops jj bb e (fun e=>arg e c fun vc=>Qny vc (arg e x (fun v=>Qay P N ops rest ((r,v)::e) w K)) (arg e y (fun v=>Qay P N ops rest ((r,v)::e) w K))) (fun e=>Qay P N ops rest ((r,undef)::e) w K):=by rw [<- Qav];rfl
theorem QNt (c x y:Operand):vcQ P N ops (⟨some r,.pick c x y,ty,pos,af,none⟩::rest) e w KQ=arg e c fun vc=>Qny vc (arg e x (fun v=>vcQ P N ops rest ((r,v)::e) w KQ)) (arg e y (fun v=>vcQ P N ops rest ((r,v)::e) w KQ)):=rfl
theorem QJ1 (c x y:Operand) (jj:Nat) (bb:Bool):vcQ P N ops (⟨some r,.pick c x y,ty,pos,af,some (jj,bb)⟩::rest) e w KQ=Qa9 ops jj bb e (fun e=>arg e c fun vc=>Qny vc (arg e x (fun v=>vcQ P N ops rest ((r,v)::e) w KQ)) (arg e y (fun v=>vcQ P N ops rest ((r,v)::e) w KQ))) (fun e=>vcQ P N ops rest ((r,undef)::e) w KQ):=by rw [<- Qav];rfl
theorem QJ2 (op:BinOp) (T T':TypeId) (x y:Operand):Qay P N ops (⟨some r,.binOp op T x y T',ty,pos,af,none⟩::rest) e w K=arg e x fun a=>arg e y fun b=>Qby P op T x y a b w (fun v=>Qay P N ops rest ((r,v)::e) w K):=rfl
theorem QG5 (op:BinOp) (T T':TypeId) (x y:Operand) (jj:Nat) (bb:Bool):Qay P N ops (⟨some r,.binOp op T x y T',ty,pos,af,some (jj,bb)⟩::rest) e w K=Qa9 ops jj bb e (fun e=>arg e x fun a=>arg e y fun b=>Qby P op T x y a b w (fun v=>Qay P N ops rest ((r,v)::e) w K)) (fun e=>Qay P N ops rest ((r,undef)::e) w K):=by rw [<- Qav];rfl
theorem QJ3 (op:BinOp) (T T':TypeId) (x y:Operand):vcQ P N ops (⟨some r,.binOp op T x y T',ty,pos,af,none⟩::rest) e w KQ=arg e x fun a=>arg e y fun b=>Qby P op T x y a b w (fun v=>vcQ P N ops rest ((r,v)::e) w KQ):=rfl
theorem QG6 (op:BinOp) (T T':TypeId) (x y:Operand) (jj:Nat) (bb:Bool):vcQ P N ops (⟨some r,.binOp op T x y T',ty,pos,af,some (jj,bb)⟩::rest) e w KQ=Qa9 ops jj bb e (fun e=>arg e x fun a=>arg e y fun b=>Qby P op T x y a b w (fun v=>vcQ P N ops rest ((r,v)::e) w KQ)) (fun e=>vcQ P N ops rest ((r,undef)::e) w KQ):=by rw [<- Qav];rfl
theorem QNu (op:UnOp) (T:TypeId) (x:Operand):Qay P N ops (⟨some r,.unOp op T x,ty,pos,af,none⟩::rest) e w K=arg e x fun a=>vUn op a (fun v=>Qay P N ops rest ((r,v)::e) w K):=rfl
theorem QJ4 (op:UnOp) (T:TypeId) (x:Operand) (jj:Nat) (bb:Bool):Qay P N ops (⟨some r,.unOp op T x,ty,pos,af,some (jj,bb)⟩::rest) e w K=Qa9 ops jj bb e (fun e=>arg e x fun a=>vUn op a (fun v=>Qay P N ops rest ((r,v)::e) w K)) (fun e=>Qay P N ops rest ((r,undef)::e) w K):=by rw [<- Qav];rfl
theorem QNv (op:UnOp) (T:TypeId) (x:Operand):vcQ P N ops (⟨some r,.unOp op T x,ty,pos,af,none⟩::rest) e w KQ=arg e x fun a=>vUn op a (fun v=>vcQ P N ops rest ((r,v)::e) w KQ):=rfl
theorem QJ5 (op:UnOp) (T:TypeId) (x:Operand) (jj:Nat) (bb:Bool):vcQ P N ops (⟨some r,.unOp op T x,ty,pos,af,some (jj,bb)⟩::rest) e w KQ=Qa9 ops jj bb e (fun e=>arg e x fun a=>vUn op a (fun v=>vcQ P N ops rest ((r,v)::e) w KQ)) (fun e=>vcQ P N ops rest ((r,undef)::e) w KQ):=by rw [<- Qav];rfl
theorem Qj3 (s d:TypeId) (x:Operand):Qay P N ops (⟨some r,.convert s d x,ty,pos,af,none⟩::rest) e w K=Qtr P N (Qbu P s d) ⟨some r,.convert s d x,ty,pos,af,none⟩ e w (Qay P N ops rest) K:=rfl
theorem QDo (s d:TypeId) (x:Operand) (hc:Qbu P s d=true):Qay P N ops (⟨some r,.convert s d x,ty,pos,af,none⟩::rest) e w K=arg e x fun a=>Qfd P s d a w (fun v=>Qay P N ops rest ((r,v)::e) w K):=by rw [Qj3,hc];rfl
theorem QA3 (s d:TypeId) (x:Operand) (hc:Qbu P s d=false):Qay P N ops (⟨some r,.convert s d x,ty,pos,af,none⟩::rest) e w K=MemK P N ⟨some r,.convert s d x,ty,pos,af,none⟩ e w (Qay P N ops rest) K:=by rw [Qj3,hc];rfl
theorem Qn1 (s d:TypeId) (x:Operand) (jj:Nat) (bb:Bool):Qay P N ops (⟨some r,.convert s d x,ty,pos,af,some (jj,bb)⟩::rest) e w K=Qa9 ops jj bb e (fun e=>Qtr P N (Qbu P s d) ⟨some r,.convert s d x,ty,pos,af,some (jj,bb)⟩ e w (Qay P N ops rest) K) (fun e=>Qay P N ops rest ((r,undef)::e) w K):=by rw [<- Qav];rfl
theorem QA4 (s d:TypeId) (x:Operand) (jj:Nat) (bb:Bool) (hc:Qbu P s d=true):Qay P N ops (⟨some r,.convert s d x,ty,pos,af,some (jj,bb)⟩::rest) e w K=Qa9 ops jj bb e (fun e=>arg e x fun a=>Qfd P s d a w (fun v=>Qay P N ops rest ((r,v)::e) w K)) (fun e=>Qay P N ops rest ((r,undef)::e) w K):=by rw [Qn1,hc];rfl
theorem Qj4 (s d:TypeId) (x:Operand):vcQ P N ops (⟨some r,.convert s d x,ty,pos,af,none⟩::rest) e w KQ=Qr3 P N (Qbu P s d) ⟨some r,.convert s d x,ty,pos,af,none⟩ e w (vcQ P N ops rest) KQ:=rfl
theorem QDp (s d:TypeId) (x:Operand) (hc:Qbu P s d=true):vcQ P N ops (⟨some r,.convert s d x,ty,pos,af,none⟩::rest) e w KQ=arg e x fun a=>Qfd P s d a w (fun v=>vcQ P N ops rest ((r,v)::e) w KQ):=by rw [Qj4,hc];rfl
theorem QA5 (s d:TypeId) (x:Operand) (hc:Qbu P s d=false):vcQ P N ops (⟨some r,.convert s d x,ty,pos,af,none⟩::rest) e w KQ=Qiw P N ⟨some r,.convert s d x,ty,pos,af,none⟩ e w (vcQ P N ops rest) KQ:=by rw [Qj4,hc];rfl
theorem Qn2 (s d:TypeId) (x:Operand) (jj:Nat) (bb:Bool):vcQ P N ops (⟨some r,.convert s d x,ty,pos,af,some (jj,bb)⟩::rest) e w KQ=Qa9 ops jj bb e (fun e=>Qr3 P N (Qbu P s d) ⟨some r,.convert s d x,ty,pos,af,some (jj,bb)⟩ e w (vcQ P N ops rest) KQ) (fun e=>vcQ P N ops rest ((r,undef)::e) w KQ):=by rw [<- Qav];rfl
theorem QA6 (s d:TypeId) (x:Operand) (jj:Nat) (bb:Bool) (hc:Qbu P s d=true):vcQ P N ops (⟨some r,.convert s d x,ty,pos,af,some (jj,bb)⟩::rest) e w KQ=Qa9 ops jj bb e (fun e=>arg e x fun a=>Qfd P s d a w (fun v=>vcQ P N ops rest ((r,v)::e) w KQ)) (fun e=>vcQ P N ops rest ((r,undef)::e) w KQ):=by rw [Qn2,hc];rfl
theorem QJ6 (T:TypeId) (x:Operand) (lo hi:Option Operand):Qay P N ops (⟨some r,.slice T x lo hi none,ty,pos,af,none⟩::rest) e w K=arg e x fun a=>argO e lo fun l=>argO e hi fun h=>Qcb P T a l h (fun v=>Qay P N ops rest ((r,v)::e) w K):=rfl
theorem QG7 (T:TypeId) (x:Operand) (lo hi:Option Operand) (jj:Nat) (bb:Bool):Qay P N ops (⟨some r,.slice T x lo hi none,ty,pos,af,some (jj,bb)⟩::rest) e w K=Qa9 ops jj bb e (fun e=>arg e x fun a=>argO e lo fun l=>argO e hi fun h=>Qcb P T a l h (fun v=>Qay P N ops rest ((r,v)::e) w K)) (fun e=>Qay P N ops rest ((r,undef)::e) w K):=by rw [<- Qav];rfl
theorem QJ7 (T:TypeId) (x:Operand) (lo hi:Option Operand):vcQ P N ops (⟨some r,.slice T x lo hi none,ty,pos,af,none⟩::rest) e w KQ=arg e x fun a=>argO e lo fun l=>argO e hi fun h=>Qcb P T a l h (fun v=>vcQ P N ops rest ((r,v)::e) w KQ):=rfl
theorem Qww (S:TypeId) (x:Operand) (f:Nat):Qay P N ops (⟨some r,.fieldAddr S x f,ty,pos,af,none⟩::rest) e w K=arg e x fun a=>Qa1 P S a f (fun v=>Qay P N ops rest ((r,v)::e) w K):=rfl
theorem Qtw (S:TypeId) (x:Operand) (f:Nat) (jj:Nat) (bb:Bool):Qay P N ops (⟨some r,.fieldAddr S x f,ty,pos,af,some (jj,bb)⟩::rest) e w K=Qa9 ops jj bb e (fun e=>arg e x fun a=>Qa1 P S a f (fun v=>Qay P N ops rest ((r,v)::e) w K)) (fun e=>Qay P N ops rest ((r,undef)::e) w K):=by rw [<- Qav];rfl
theorem Qwx (S:TypeId) (x:Operand) (f:Nat):vcQ P N ops (⟨some r,.fieldAddr S x f,ty,pos,af,none⟩::rest) e w KQ=arg e x fun a=>Qa1 P S a f (fun v=>vcQ P N ops rest ((r,v)::e) w KQ):=rfl
theorem Qtx (S:TypeId) (x:Operand) (f:Nat) (jj:Nat) (bb:Bool):vcQ P N ops (⟨some r,.fieldAddr S x f,ty,pos,af,some (jj,bb)⟩::rest) e w KQ=Qa9 ops jj bb e (fun e=>arg e x fun a=>Qa1 P S a f (fun v=>vcQ P N ops rest ((r,v)::e) w KQ)) (fun e=>vcQ P N ops rest ((r,undef)::e) w KQ):=by rw [<- Qav];rfl
theorem Qwy (T:TypeId) (x i:Operand):Qay P N ops (⟨some r,.indexAddr T x i,ty,pos,af,none⟩::rest) e w K=arg e x fun a=>arg e i fun n=>Qa5 P T a n (fun v=>Qay P N ops rest ((r,v)::e) w K):=rfl
theorem Qty (T:TypeId) (x i:Operand) (jj:Nat) (bb:Bool):Qay P N ops (⟨some r,.indexAddr T x i,ty,pos,af,some (jj,bb)⟩::rest) e w K=Qa9 ops jj bb e (fun e=>arg e x fun a=>arg e i fun n=>Qa5 P T a n (fun v=>Qay P N ops rest ((r,v)::e) w K)) (fun e=>Qay P N ops rest ((r,undef)::e) w K):=by rw [<- Qav];rfl
theorem Qwz (T:TypeId) (x i:Operand):vcQ P N ops (⟨some r,.indexAddr T x i,ty,pos,af,none⟩::rest) e w KQ=arg e x fun a=>arg e i fun n=>Qa5 P T a n (fun v=>vcQ P N ops rest ((r,v)::e) w KQ):=rfl
theorem Qtz (T:TypeId) (x i:Operand) (jj:Nat) (bb:Bool):vcQ P N ops (⟨some r,.indexAddr T x i,ty,pos,af,some (jj,bb)⟩::rest) e w KQ=Qa9 ops jj bb e (fun e=>arg e x fun a=>arg e i fun n=>Qa5 P T a n (fun v=>vcQ P N ops rest ((r,v)::e) w KQ)) (fun e=>vcQ P N ops rest ((r,undef)::e) w KQ):=by rw [<- Qav];rfl
theorem QJ8 (T:TypeId) (x i:Operand):Qay P N ops (⟨some r,.index T x i,ty,pos,af,none⟩::rest) e w K=arg e x fun a=>arg e i fun n=>Qee P T a n (fun v=>Qay P N ops rest ((r,v)::e) w K):=rfl
theorem QG8 (T:TypeId) (x i:Operand) (jj:Nat) (bb:Bool):Qay P N ops (⟨some r,.index T x i,ty,pos,af,some (jj,bb)⟩::rest) e w K=Qa9 ops jj bb e (fun e=>arg e x fun a=>arg e i fun n=>Qee P T a n (fun v=>Qay P N ops rest ((r,v)::e) w K)) (fun e=>Qay P N ops rest ((r,undef)::e) w K):=by rw [<- Qav];rfl
theorem QJ9 (T:TypeId) (x i:Operand):vcQ P N ops (⟨some r,.index T x i,ty,pos,af,none⟩::rest) e w KQ=arg e x fun a=>arg e i fun n=>Qee P T a n (fun v=>vcQ P N ops rest ((r,v)::e) w KQ):=rfl
theorem QG9 (T:TypeId) (x i:Operand) (jj:Nat) (bb:Bool):vcQ P N ops (⟨some r,.index T x i,ty,pos,af,some (jj,bb)⟩::rest) e w KQ=Qa9 ops jj bb e (fun e=>arg e x fun a=>arg e i fun n=>Qee P T a n (fun v=>vcQ P N ops rest ((r,v)::e) w KQ)) (fun e=>vcQ P N ops rest ((r,undef)::e) w KQ):=by rw [<- Qav];rfl
theorem QDq (x:Operand) (i:Nat):Qay P N ops (⟨some r,.extract x i,ty,pos,af,none⟩::rest) e w K=arg e x fun a=>Qjk a i (fun v=>Qay P N ops rest ((r,v)::e) w K):=rfl
theorem QDr (x:Operand) (i:Nat):vcQ P N ops (⟨some r,.extract x i,ty,pos,af,none⟩::rest) e w KQ=arg e x fun a=>Qjk a i (fun v=>vcQ P N ops rest ((r,v)::e) w KQ):=rfl
theorem Qn3 (T:TypeId) (x:Operand):Qay P N ops (⟨some r,.makeInterface T x,ty,pos,af,none⟩::rest) e w K=arg e x fun a=>Qjl P T a (fun v=>Qay P N ops rest ((r,v)::e) w K):=rfl
theorem QA7 (fn:Go.Fn) (a b:Array Operand):Qay P N ops (⟨some r,.makeFunc fn a b,ty,pos,af,none⟩::rest) e w K=argL e a.toList fun fs=>argL e b.toList fun cs=>((fun v=>Qay P N ops rest ((r,v)::e) w K)) (.func fn fs.toArray cs.toArray):=rfl
theorem QKa (T:TypeId) (ps:Array (Nat×Operand)):Qay P N ops (⟨some r,.build T ps,ty,pos,af,none⟩::rest) e w K=Qhq e ps.toList fun vs=>Qdk P T vs (fun v=>Qay P N ops rest ((r,v)::e) w K):=rfl
theorem QHa (T:TypeId) (ps:Array (Nat×Operand)) (jj:Nat) (bb:Bool):Qay P N ops (⟨some r,.build T ps,ty,pos,af,some (jj,bb)⟩::rest) e w K=Qa9 ops jj bb e (fun e=>Qhq e ps.toList fun vs=>Qdk P T vs (fun v=>Qay P N ops rest ((r,v)::e) w K)) (fun e=>Qay P N ops rest ((r,undef)::e) w K):=by rw [<- Qav];rfl
theorem QKb (T:TypeId) (ps:Array (Nat×Operand)):vcQ P N ops (⟨some r,.build T ps,ty,pos,af,none⟩::rest) e w KQ=Qhq e ps.toList fun vs=>Qdk P T vs (fun v=>vcQ P N ops rest ((r,v)::e) w KQ):=rfl
theorem QNw (T:TypeId) (x:Operand):Qay P N ops (⟨some r,.load T x,ty,pos,af,none⟩::rest) e w K=arg e x fun a=>Qb9 P T a w (fun v=>Qay P N ops rest ((r,v)::e) w K):=rfl
theorem QKc (T:TypeId) (x:Operand) (jj:Nat) (bb:Bool):Qay P N ops (⟨some r,.load T x,ty,pos,af,some (jj,bb)⟩::rest) e w K=Qa9 ops jj bb e (fun e=>arg e x fun a=>Qb9 P T a w (fun v=>Qay P N ops rest ((r,v)::e) w K)) (fun e=>Qay P N ops rest ((r,undef)::e) w K):=by rw [<- Qav];rfl
theorem QNx (T:TypeId) (x:Operand):vcQ P N ops (⟨some r,.load T x,ty,pos,af,none⟩::rest) e w KQ=arg e x fun a=>Qb9 P T a w (fun v=>vcQ P N ops rest ((r,v)::e) w KQ):=rfl
theorem QKd (T:TypeId) (x:Operand) (jj:Nat) (bb:Bool):vcQ P N ops (⟨some r,.load T x,ty,pos,af,some (jj,bb)⟩::rest) e w KQ=Qa9 ops jj bb e (fun e=>arg e x fun a=>Qb9 P T a w (fun v=>vcQ P N ops rest ((r,v)::e) w KQ)) (fun e=>vcQ P N ops rest ((r,undef)::e) w KQ):=by rw [<- Qav];rfl
theorem QA8 (x:Operand):Qay P N ops (⟨some r,.nilCheck x,ty,pos,af,none⟩::rest) e w K=arg e x fun a=>vNil a (fun v=>Qay P N ops rest ((r,v)::e) w K):=rfl
theorem Qw0 (x:Operand) (jj:Nat) (bb:Bool):Qay P N ops (⟨some r,.nilCheck x,ty,pos,af,some (jj,bb)⟩::rest) e w K=Qa9 ops jj bb e (fun e=>arg e x fun a=>vNil a (fun v=>Qay P N ops rest ((r,v)::e) w K)) (fun e=>Qay P N ops rest ((r,undef)::e) w K):=by rw [<- Qav];rfl
theorem QA9 (x:Operand):vcQ P N ops (⟨some r,.nilCheck x,ty,pos,af,none⟩::rest) e w KQ=arg e x fun a=>vNil a (fun v=>vcQ P N ops rest ((r,v)::e) w KQ):=rfl
theorem Qw1 (x:Operand) (jj:Nat) (bb:Bool):vcQ P N ops (⟨some r,.nilCheck x,ty,pos,af,some (jj,bb)⟩::rest) e w KQ=Qa9 ops jj bb e (fun e=>arg e x fun a=>vNil a (fun v=>vcQ P N ops rest ((r,v)::e) w KQ)) (fun e=>vcQ P N ops rest ((r,undef)::e) w KQ):=by rw [<- Qav];rfl
theorem QQo (az:Array Operand) (ts:Array TypeId):Qay P N ops (⟨some r,.call { callee:=.builtin .len,args:=az,argTypes:=ts },ty,pos,af,none⟩::rest) e w K=argL e az.toList fun vs=>Qtt P ts[0]? vs (fun v=>Qay P N ops rest ((r,v)::e) w K):=rfl
theorem QNy (az:Array Operand) (ts:Array TypeId) (jj:Nat) (bb:Bool):Qay P N ops (⟨some r,.call { callee:=.builtin .len,args:=az,argTypes:=ts },ty,pos,af,some (jj,bb)⟩::rest) e w K=Qa9 ops jj bb e (fun e=>argL e az.toList fun vs=>Qtt P ts[0]? vs (fun v=>Qay P N ops rest ((r,v)::e) w K)) (fun e=>Qay P N ops rest ((r,undef)::e) w K):=by rw [<- Qav];rfl
theorem QQp (az:Array Operand) (ts:Array TypeId):vcQ P N ops (⟨some r,.call { callee:=.builtin .len,args:=az,argTypes:=ts },ty,pos,af,none⟩::rest) e w KQ=argL e az.toList fun vs=>Qtt P ts[0]? vs (fun v=>vcQ P N ops rest ((r,v)::e) w KQ):=rfl
theorem QNz (az:Array Operand) (ts:Array TypeId) (jj:Nat) (bb:Bool):vcQ P N ops (⟨some r,.call { callee:=.builtin .len,args:=az,argTypes:=ts },ty,pos,af,some (jj,bb)⟩::rest) e w KQ=Qa9 ops jj bb e (fun e=>argL e az.toList fun vs=>Qtt P ts[0]? vs (fun v=>vcQ P N ops rest ((r,v)::e) w KQ)) (fun e=>vcQ P N ops rest ((r,undef)::e) w KQ):=by rw [<- Qav];rfl
theorem QQq (az:Array Operand) (ts:Array TypeId):Qay P N ops (⟨some r,.call { callee:=.builtin .min,args:=az,argTypes:=ts },ty,pos,af,none⟩::rest) e w K=argL e az.toList fun vs=>vMin vs (fun v=>Qay P N ops rest ((r,v)::e) w K):=rfl
theorem QQr (az:Array Operand) (ts:Array TypeId):Qay P N ops (⟨some r,.call { callee:=.builtin .max,args:=az,argTypes:=ts },ty,pos,af,none⟩::rest) e w K=argL e az.toList fun vs=>vMax vs (fun v=>Qay P N ops rest ((r,v)::e) w K):=rfl
theorem QQs (az:Array Operand) (ts:Array TypeId):vcQ P N ops (⟨some r,.call { callee:=.builtin .max,args:=az,argTypes:=ts },ty,pos,af,none⟩::rest) e w KQ=argL e az.toList fun vs=>vMax vs (fun v=>vcQ P N ops rest ((r,v)::e) w KQ):=rfl
theorem QHb (az:Array Operand) (ts:Array TypeId):Qay P N ops (⟨d,.call { callee:=.builtin .append,args:=az,argTypes:=ts },ty,pos,af,none⟩::rest) e w K=MemK P N ⟨d,.call { callee:=.builtin .append,args:=az,argTypes:=ts },ty,pos,af,none⟩ e w (Qay P N ops rest) K:=rfl
theorem QHc (az:Array Operand) (ts:Array TypeId):vcQ P N ops (⟨d,.call { callee:=.builtin .append,args:=az,argTypes:=ts },ty,pos,af,none⟩::rest) e w KQ=Qiw P N ⟨d,.call { callee:=.builtin .append,args:=az,argTypes:=ts },ty,pos,af,none⟩ e w (vcQ P N ops rest) KQ:=rfl
theorem QN0 (az:Array Operand) (ts:Array TypeId):vcQ P N ops (⟨d,.call { callee:=.builtin .copy,args:=az,argTypes:=ts },ty,pos,af,none⟩::rest) e w KQ=Qiw P N ⟨d,.call { callee:=.builtin .copy,args:=az,argTypes:=ts },ty,pos,af,none⟩ e w (vcQ P N ops rest) KQ:=rfl
theorem QKe (x:Operand) (az:Array Operand) (ts:Array TypeId):Qay P N ops (⟨d,.call { callee:=.value x,args:=az,argTypes:=ts },ty,pos,af,none⟩::rest) e w K=MemK P N ⟨d,.call { callee:=.value x,args:=az,argTypes:=ts },ty,pos,af,none⟩ e w (Qay P N ops rest) K:=rfl
theorem QHd (x:Operand) (az:Array Operand) (ts:Array TypeId) (jj:Nat) (bb:Bool):Qay P N ops (⟨d,.call { callee:=.value x,args:=az,argTypes:=ts },ty,pos,af,some (jj,bb)⟩::rest) e w K=Qa9 ops jj bb e (fun e=>MemK P N ⟨d,.call { callee:=.value x,args:=az,argTypes:=ts },ty,pos,af,some (jj,bb)⟩ e w (Qay P N ops rest) K) (fun e=>Qay P N ops rest (e.put d undef) w K):=by rw [<- Qav];rfl
theorem QKf (x:Operand) (az:Array Operand) (ts:Array TypeId):vcQ P N ops (⟨d,.call { callee:=.value x,args:=az,argTypes:=ts },ty,pos,af,none⟩::rest) e w KQ=Qiw P N ⟨d,.call { callee:=.value x,args:=az,argTypes:=ts },ty,pos,af,none⟩ e w (vcQ P N ops rest) KQ:=rfl
theorem QHe (x:Operand) (az:Array Operand) (ts:Array TypeId) (jj:Nat) (bb:Bool):vcQ P N ops (⟨d,.call { callee:=.value x,args:=az,argTypes:=ts },ty,pos,af,some (jj,bb)⟩::rest) e w KQ=Qa9 ops jj bb e (fun e=>Qiw P N ⟨d,.call { callee:=.value x,args:=az,argTypes:=ts },ty,pos,af,some (jj,bb)⟩ e w (vcQ P N ops rest) KQ) (fun e=>vcQ P N ops rest (e.put d undef) w KQ):=by rw [<- Qav];rfl
theorem QKg (T:TypeId):Qay P N ops (⟨d,.alloc T,ty,pos,af,none⟩::rest) e w K=MemK P N ⟨d,.alloc T,ty,pos,af,none⟩ e w (Qay P N ops rest) K:=rfl
theorem QKh (T:TypeId):vcQ P N ops (⟨d,.alloc T,ty,pos,af,none⟩::rest) e w KQ=Qiw P N ⟨d,.alloc T,ty,pos,af,none⟩ e w (vcQ P N ops rest) KQ:=rfl
theorem QQt (T:TypeId) (x:Operand):Qay P N ops (⟨d,.box T x,ty,pos,af,none⟩::rest) e w K=MemK P N ⟨d,.box T x,ty,pos,af,none⟩ e w (Qay P N ops rest) K:=rfl
theorem Qt0 (T:TypeId) (n:Nat) (ps:Array (Nat×Operand)):Qay P N ops (⟨d,.buildSlice T n ps,ty,pos,af,none⟩::rest) e w K=MemK P N ⟨d,.buildSlice T n ps,ty,pos,af,none⟩ e w (Qay P N ops rest) K:=rfl
theorem Qt1 (T:TypeId) (n:Nat) (ps:Array (Nat×Operand)):vcQ P N ops (⟨d,.buildSlice T n ps,ty,pos,af,none⟩::rest) e w KQ=Qiw P N ⟨d,.buildSlice T n ps,ty,pos,af,none⟩ e w (vcQ P N ops rest) KQ:=rfl
theorem QKi (T:TypeId) (x y:Operand):Qay P N ops (⟨d,.store T x y,ty,pos,af,none⟩::rest) e w K=MemK P N ⟨d,.store T x y,ty,pos,af,none⟩ e w (Qay P N ops rest) K:=rfl
theorem QKj (T:TypeId) (x y:Operand):vcQ P N ops (⟨d,.store T x y,ty,pos,af,none⟩::rest) e w KQ=Qiw P N ⟨d,.store T x y,ty,pos,af,none⟩ e w (vcQ P N ops rest) KQ:=rfl
theorem Qw2 (T:TypeId) (x y:Operand):Qay P N ops (⟨d,.makeSlice T x y,ty,pos,af,none⟩::rest) e w K=MemK P N ⟨d,.makeSlice T x y,ty,pos,af,none⟩ e w (Qay P N ops rest) K:=rfl
theorem Qw3 (T:TypeId) (x y:Operand):vcQ P N ops (⟨d,.makeSlice T x y,ty,pos,af,none⟩::rest) e w KQ=Qiw P N ⟨d,.makeSlice T x y,ty,pos,af,none⟩ e w (vcQ P N ops rest) KQ:=rfl
theorem Qt2 (x:Operand) (T T':TypeId) (c:Bool):Qay P N ops (⟨d,.typeAssert x T T' c,ty,pos,af,none⟩::rest) e w K=MemK P N ⟨d,.typeAssert x T T' c,ty,pos,af,none⟩ e w (Qay P N ops rest) K:=rfl
theorem QKk (c:Call):Qay P N ops (⟨d,.defer c,ty,pos,af,none⟩::rest) e w K=MemK P N ⟨d,.defer c,ty,pos,af,none⟩ e w (Qay P N ops rest) K:=rfl
theorem QKl (x:Operand):Qay P N ops (⟨d,.panic x,ty,pos,af,none⟩::rest) e w K=MemK P N ⟨d,.panic x,ty,pos,af,none⟩ e w (Qay P N ops rest) K:=rfl
theorem QHf (v:Value):Env.put e (some t) v=(t,v)::e:=rfl
theorem QHg (v:Value):Env.put e none v=e:=rfl
theorem QQu:arg e (.tmp t) KV=argT e t KV:=rfl
theorem QKm (v:Value):arg e (.const v) KV=KV v:=rfl
theorem QHh (g:Nat):arg e (.global g) KV=KV (.pointer (some ⟨g,0,none⟩)):=rfl
theorem QN1 (f:Nat):arg e (.func f) KV=KV (.func (.func f) #[] #[]):=rfl
theorem QQv (v:Value):argT ((t,v)::e) t KV=KV v:=by simp [argT]
theorem QN2 (s:Nat) (v:Value):argT ((s,v)::e) t KV=if t=s then KV v else argT e t KV:=rfl
theorem QN3 {KL:List Value->Prop}:argL e [] KL=KL []:=rfl
theorem QKn {KL:List Value->Prop} (x:Operand) (xs:List Operand):argL e (x::xs) KL=arg e x fun v=>argL e xs fun vs=>KL (v::vs):=rfl
theorem QN4 {KL:List Value->Prop} (xs:List Operand):argL e (List.toArray xs).toList KL=argL e xs KL:=rfl
theorem QN5 {KL:List (Nat×Value)->Prop} (xs:List (Nat×Operand)):Qhq e (List.toArray xs).toList KL=Qhq e xs KL:=rfl
theorem QKo {KO:Option Value->Prop}:argO e none KO=KO none:=rfl
theorem QKp {KO:Option Value->Prop} (x:Operand):argO e (some x) KO=arg e x fun v=>KO (some v):=rfl
theorem QN6 {KL:List (Nat×Value)->Prop}:Qhq e [] KL=KL []:=rfl
theorem QKq {KL:List (Nat×Value)->Prop} (i:Nat) (x:Operand) (xs:List (Nat×Operand)):Qhq e ((i,x)::xs) KL=arg e x fun v=>Qhq e xs fun vs=>KL ((i,v)::vs):=rfl
theorem pk_t {A B:Prop}:Qny (.bool true) A B=A:=rfl
theorem pk_f {A B:Prop}:Qny (.bool false) A B=B:=rfl
theorem lenl (T:TypeId) (ts:List TypeId) (v:Value):Qtt P (List.toArray (T::ts))[0]? [v] KV=vLen P T v KV:=by simp [Qtt]
theorem QQw (T:TypeId) (x y:Operand) (k:IntKind) (a b:Int):Qby P .add T x y (.int k a) (.int k b) w KV=Qed k (a+b) KV:=by simp [Qby,vBin,vInt]
theorem QQx (T:TypeId) (x y:Operand) (k:IntKind) (a b:Int):Qby P .sub T x y (.int k a) (.int k b) w KV=Qed k (a - b) KV:=by simp [Qby,vBin,vInt]
theorem QQy (T:TypeId) (x y:Operand) (k:IntKind) (a b:Int):Qby P .mul T x y (.int k a) (.int k b) w KV=Qed k (a * b) KV:=by simp [Qby,vBin,vInt]
theorem QQz (T:TypeId) (x y:Operand) (k:IntKind) (a b:Int):Qby P .quo T x y (.int k a) (.int k b) w KV=(0<=a/\0 < b/\Qed k (a / b) KV):=by simp [Qby,vBin,vInt]
theorem QQ0 (T:TypeId) (x y:Operand) (k:IntKind) (a b:Int):Qby P .rem T x y (.int k a) (.int k b) w KV=(0<=a/\0 < b/\KV (.int k (a % b))):=by simp [Qby,vBin,vInt]
theorem QQ1 (T:TypeId) (x y:Operand) (k:IntKind) (a b:Int):Qby P .and T x y (.int k a) (.int k b) w KV=(Fit0 k a/\Fit0 k b/\KV (.int k ((a.toNat &&& b.toNat:Nat):Int))):=by simp [Qby,vBin,vInt,vBit]
theorem b_or (T:TypeId) (x y:Operand) (k:IntKind) (a b:Int):Qby P .or T x y (.int k a) (.int k b) w KV=(Fit0 k a/\Fit0 k b/\KV (.int k ((a.toNat ||| b.toNat:Nat):Int))):=by simp [Qby,vBin,vInt,vBit]
theorem QQ2 (T:TypeId) (x y:Operand) (k:IntKind) (a b:Int):Qby P .xor T x y (.int k a) (.int k b) w KV=(Fit0 k a/\Fit0 k b/\KV (.int k ((a.toNat ^^^ b.toNat:Nat):Int))):=by simp [Qby,vBin,vInt,vBit]
theorem QQ3 (T:TypeId) (x y:Operand) (k:IntKind) (a b:Int):Qby P .eql T x y (.int k a) (.int k b) w KV=KV (.bool (decide (a=b))):=by simp [Qby,vBin,vInt]
theorem QQ4 (T:TypeId) (x y:Operand) (k:IntKind) (a b:Int):Qby P .neq T x y (.int k a) (.int k b) w KV=KV (.bool (decide (¬ a=b))):=by simp [Qby,vBin,vInt]
theorem QQ5 (T:TypeId) (x y:Operand) (k:IntKind) (a b:Int):Qby P .lss T x y (.int k a) (.int k b) w KV=KV (.bool (decide (a < b))):=by simp [Qby,vBin,vInt]
theorem QQ6 (T:TypeId) (x y:Operand) (k:IntKind) (a b:Int):Qby P .leq T x y (.int k a) (.int k b) w KV=KV (.bool (decide (a<=b))):=by simp [Qby,vBin,vInt]
theorem QQ7 (T:TypeId) (x y:Operand) (k:IntKind) (a b:Int):Qby P .gtr T x y (.int k a) (.int k b) w KV=KV (.bool (decide (b < a))):=by simp [Qby,vBin,vInt]
theorem QQ8 (T:TypeId) (x y:Operand) (k:IntKind) (a b:Int):Qby P .geq T x y (.int k a) (.int k b) w KV=KV (.bool (decide (b<=a))):=by simp [Qby,vBin,vInt]
theorem QQ9 (T:TypeId) (x y:Operand) (k k':IntKind) (a b:Int):Qby P .shl T x y (.int k a) (.int k' b) w KV=(0<=b/\Qed k (a * 2 ^ shN k b) KV):=by simp [Qby,vBin]
theorem QRa (T:TypeId) (x y:Operand) (k k':IntKind) (a b:Int):Qby P .shr T x y (.int k a) (.int k' b) w KV=(0<=b/\KV (.int k (a / 2 ^ shN k b))):=by simp [Qby,vBin]
theorem QN7 (T:TypeId) (x y:Operand) (s u:ByteArray):Qby P .add T x y (.string s) (.string u) w KV=(((toL s).length+(toL u).length:Int)<=9223372036854775807/\KV (Str (toL s++toL u))):=by simp [Qby,vBin,vStr]
theorem QN8 (T:TypeId) (x y:Operand) (s u:ByteArray):Qby P .eql T x y (.string s) (.string u) w KV=KV (.bool (decide (toL s=toL u))):=by simp [Qby,vBin,vStr]
theorem QN9 (T:TypeId) (x y:Operand) (s u:ByteArray):Qby P .neq T x y (.string s) (.string u) w KV=KV (.bool (decide (¬ toL s=toL u))):=by simp [Qby,vBin,vStr]
theorem QOa (T:TypeId) (x y:Operand) (s u:ByteArray):Qby P .lss T x y (.string s) (.string u) w KV=KV (.bool (Op.bytesLess (toL s) (toL u))):=by simp [Qby,vBin,vStr]
theorem QOb (T:TypeId) (x y:Operand) (s u:ByteArray):Qby P .leq T x y (.string s) (.string u) w KV=KV (.bool (!Op.bytesLess (toL u) (toL s))):=by simp [Qby,vBin,vStr]
theorem QOc (T:TypeId) (x y:Operand) (s u:ByteArray):Qby P .gtr T x y (.string s) (.string u) w KV=KV (.bool (Op.bytesLess (toL u) (toL s))):=by simp [Qby,vBin,vStr]
theorem QOd (T:TypeId) (x y:Operand) (s u:ByteArray):Qby P .geq T x y (.string s) (.string u) w KV=KV (.bool (!Op.bytesLess (toL s) (toL u))):=by simp [Qby,vBin,vStr]
theorem QOe (T:TypeId) (x y:Operand) (a b:Bool) (h:P.underlying T=some .bool):Qby P .eql T x y (.bool a) (.bool b) w KV=KV (.bool (decide (a=b))):=by simp [Qby,vBin,h]
theorem QOf (T:TypeId) (x y:Operand) (a b:Bool) (h:P.underlying T=some .bool):Qby P .neq T x y (.bool a) (.bool b) w KV=KV (.bool (decide (¬ a=b))):=by simp [Qby,vBin,h]
theorem QRb (n:Int):Qed .i64 n KV=(I64 n/\KV (.int .i64 n)):=rfl
theorem w_u8 (n:Int):Qed .u8 n KV=KV (.int .u8 (n % 256)):=rfl
theorem QRc (n:Int):Qed .u16 n KV=KV (.int .u16 (n % 65536)):=rfl
theorem QRd (n:Int):Qed .u32 n KV=KV (.int .u32 (n % 4294967296)):=rfl
theorem QRe (n:Int):Qed .u64 n KV=KV (.int .u64 (n % 18446744073709551616)):=rfl
theorem QRf (b:Bool):vUn .not (.bool b) KV=KV (.bool (!b)):=rfl
theorem QRg (k:IntKind) (n:Int):vUn .neg (.int k n) KV=Qed k (-n) KV:=rfl
theorem QRh (n:Int):vUn .xor (.int .u32 n) KV=((0<=n/\n<=4294967295)/\KV (.int .u32 (4294967295 - n))):=rfl
theorem QRi (a:Addr):vNil (.pointer (some a)) KV=KV (.pointer (some a)):=rfl
theorem n_fn (f:Nat) (p c:Array Value):vNil (.func (.func f) p c) KV=KV (.func (.func f) p c):=rfl
theorem n_if (T:Nat) (v:Value):vNil (.iface T v) KV=KV (.iface T v):=rfl
theorem mn2 (k k':IntKind) (x y:Int):vMin [.int k x,.int k' y] KV=KV (.int k (min x y)):=rfl
theorem mn3 (k k' k'':IntKind) (x y z:Int):vMin [.int k x,.int k' y,.int k'' z] KV=KV (.int k (min (min x y) z)):=rfl
theorem mx2 (k k':IntKind) (x y:Int):vMax [.int k x,.int k' y] KV=KV (.int k (max x y)):=rfl
theorem mx3 (k k' k'':IntKind) (x y z:Int):vMax [.int k x,.int k' y,.int k'' z] KV=KV (.int k (max (max x y) z)):=rfl
theorem QOg (T:TypeId) (s:ByteArray) (h:P.underlying T=some .string):vLen P T (.string s) KV=KV (.int .i64 (toL s).length):=by simp [vLen,h]
theorem Qw4 (T E:TypeId) (a:Option Addr) (n c:Nat) (h:P.underlying T=some (.slice E)):vLen P T (.slice a n c) KV=KV (.int .i64 n):=by simp [vLen,h]
theorem QOh (T:TypeId) (s:ByteArray) (k:IntKind) (n:Int) (h:P.underlying T=some .string):Qee P T (.string s) (.int k n) KV=((0<=n/\n < (toL s).length)/\KV (.int .u8 ((toL s).getD n.toNat 0).toNat)):=by simp [Qee,h]
theorem QRj (T:TypeId) (s:ByteArray) (h:P.underlying T=some .string):Qcb P T (.string s) none none KV=KV (.string s):=by simp [Qcb,h]
theorem QRk (T:TypeId) (s:ByteArray) (k:IntKind) (l:Int) (h:P.underlying T=some .string):Qcb P T (.string s) (some (.int k l)) none KV=((0<=l/\l<=(toL s).length)/\KV (Str ((toL s).drop l.toNat))):=by simp [Qcb,h]
theorem QRl (T:TypeId) (s:ByteArray) (k:IntKind) (l:Int) (h:P.underlying T=some .string):Qcb P T (.string s) none (some (.int k l)) KV=((0<=l/\l<=(toL s).length)/\KV (Str ((toL s).take l.toNat))):=by simp [Qcb,h]
theorem QRm (T:TypeId) (s:ByteArray) (k k':IntKind) (l m:Int) (h:P.underlying T=some .string):Qcb P T (.string s) (some (.int k l)) (some (.int k' m)) KV=((0<=l/\l<=m/\m<=(toL s).length)/\KV (Str (((toL s).drop l.toNat).take (m.toNat - l.toNat)))):=by simp [Qcb,h]
theorem QKr (T E:TypeId) (a:Option Addr) (n c z:Nat) (h:P.underlying T=some (.slice E)) (hz:P.szo E=some z):Qcb P T (.slice a n c) none none KV=(n<=c/\KV (.slice a n c)):=by simp [Qcb,h,hz]
theorem QKs (T E:TypeId) (a:Option Addr) (n c z:Nat) (k:IntKind) (l:Int) (h:P.underlying T=some (.slice E)) (hz:P.szo E=some z):Qcb P T (.slice a n c) (some (.int k l)) none KV=((0<=l/\l<=n/\n<=c)/\KV (.slice (if c=l.toNat then a else a.map (·.add (l.toNat * z))) (n - l.toNat) (c - l.toNat))):=by simp [Qcb,h,hz]
theorem QKt (T E:TypeId) (a:Option Addr) (n c z:Nat) (k:IntKind) (l:Int) (h:P.underlying T=some (.slice E)) (hz:P.szo E=some z):Qcb P T (.slice a n c) none (some (.int k l)) KV=((0<=l/\l<=c)/\KV (.slice a l.toNat c)):=by simp [Qcb,h,hz]
theorem QKu (T E:TypeId) (a:Option Addr) (n c z:Nat) (k k':IntKind) (l m:Int) (h:P.underlying T=some (.slice E)) (hz:P.szo E=some z):Qcb P T (.slice a n c) (some (.int k l)) (some (.int k' m)) KV=((0<=l/\l<=m/\m<=c)/\KV (.slice (if c=l.toNat then a else a.map (·.add (l.toNat * z))) (m.toNat - l.toNat) (c - l.toNat))):=by simp [Qcb,h,hz]
theorem Qg8 (s d:TypeId) (ds:TypeDesc) (k k':IntKind) (n:Int) (h:P.underlying s=some ds) (h':P.underlying d=some (.int k)):Qfd P s d (.int k' n) w KV=Qed k n KV:=by simp [Qfd,h,h']
theorem QOi (s d E:TypeId) (a:Option Addr) (n c:Nat) (h:P.underlying s=some (.slice E)) (h':P.underlying d=some .string) (h'':P.underlying E=some (.int .u8)):Qfd P s d (.slice a n c) w KV=∃ l,Qhp w a n l/\KV (Str l):=by simp [Qfd,h,h',h'']
theorem Qt3 (T E:TypeId) (a:Addr) (n c z:Nat) (k:IntKind) (i:Int) (h:P.underlying T=some (.slice E)) (hz:P.szo E=some z):Qa5 P T (.slice (some a) n c) (.int k i) KV=((0<=i/\i < n)/\KV (.pointer (some (a.add (i.toNat * z))))):=by simp [Qa5,h,hz]
theorem Qw5 (T E:TypeId) (a:Addr) (n z:Nat) (k:IntKind) (i:Int) (h:P.underlying T=some (.array n E)) (hz:P.szo E=some z):Qa5 P T (.pointer (some a)) (.int k i) KV=((0<=i/\i < n)/\KV (.pointer (some (a.add (i.toNat * z))))):=by simp [Qa5,h,hz]
theorem Qg6 (S f:Nat) (a:Addr) {fields:Array Field}{fd:Field}{m:Nat} (h:P.underlying S=some (.struct fields)) (hf:fields[f]? = some fd) (hz:P.szo fd.type=some (m+1)):Qa1 P S (.pointer (some a)) f KV=KV (.pointer (some (a.add fd.offset))):=by simp [Qa1,h,hf,hz]
theorem Qqk (T:TypeId) (a:Addr) (k:IntKind) (h:P.underlying T=some (.int k)):Qb9 P T (.pointer (some a)) w KV=∃ v,w.cell? a=some v/\KV v:=by simp [Qb9,h]
theorem QKv (T:TypeId) (a:Addr) (h:P.underlying T=some .bool):Qb9 P T (.pointer (some a)) w KV=∃ v,w.cell? a=some v/\KV v:=by simp [Qb9,h]
theorem QOj (T:TypeId) (a:Addr) (h:P.underlying T=some .string):Qb9 P T (.pointer (some a)) w KV=∃ v,w.cell? a=some v/\KV v:=by simp [Qb9,h]
theorem QBa (T E:TypeId) (a:Addr) (h:P.underlying T=some (.slice E)):Qb9 P T (.pointer (some a)) w KV=∃ v,w.cell? a=some v/\KV v:=by simp [Qb9,h]
theorem QOk (T E:TypeId) (a:Addr) (h:P.underlying T=some (.pointer E)):Qb9 P T (.pointer (some a)) w KV=∃ v,w.cell? a=some v/\KV v:=by simp [Qb9,h]
theorem QOl (T:TypeId) (ps rs:Array TypeId) (vr:Bool) (a:Addr) (h:P.underlying T=some (.func ps rs vr)):Qb9 P T (.pointer (some a)) w KV=∃ v,w.cell? a=some v/\KV v:=by simp [Qb9,h]
theorem QDs (T n:TypeId) (a:Addr) (fs:Array Field) (h:P.underlying T=some (.struct fs)) (hz:P.szo T=some n):Qb9 P T (.pointer (some a)) w KV=∃ cs:List Value,(cs.length=n/\Reads w a cs)/\KV (.agg cs.toArray):=by simp [Qb9,h,hz]
theorem QHi (T n m E:TypeId) (a:Addr) (h:P.underlying T=some (.array m E)) (hz:P.szo T=some n):Qb9 P T (.pointer (some a)) w KV=∃ cs:List Value,(cs.length=n/\Reads w a cs)/\KV (.agg cs.toArray):=by simp [Qb9,h,hz]
end
theorem QOm (l:List UInt8):toL (ByteArray.mk l.toArray)=l:=by simp [toL]
attribute [go_sem ↓] QNn QJw QNm QJv QNo QJx QNj QNk QJt QJu gv_t gv_f Qtu Qnz QNl Qtv Qn0 QG2 QDn QQj QNp QQk QQl QQm QQn QNq QJy QNr QJz QG3 QG4 QNs QJ0 QNt QJ1 QJ2 QG5 QJ3 QG6 QNu QJ4 QNv QJ5 QDo QA3 QA4 QDp QA5 QA6 QJ6 QG7 QJ7 Qww Qtw Qwx Qtx Qwy Qty Qwz Qtz QJ8 QG8 QJ9 QG9 QDq QDr Qn3 QA7 QKa QHa QKb QNw QKc QNx QKd QA8 Qw0 QA9 Qw1 QQo QNy QQp QNz QQq QQr QQs QHb QHc QN0 QKe QHd QKf QHe QKg QKh QQt Qt0 Qt1 QKi QKj Qw2 Qw3 Qt2 QKk QKl QHf QHg QQu QKm QHh QN1 QQv QN2 QN3 QKn QN4 QN5 QKo QKp QN6 QKq pk_t pk_f lenl QQw QQx QQy QQz QQ0 QQ1 b_or QQ2 QQ3 QQ4 QQ5 QQ6 QQ7 QQ8 QQ9 QRa QN7 QN8 QN9 QOa QOb QOc QOd QRb w_u8 QRc QRd QRe QRf QRg QRh QRi n_fn n_if mn2 mn3 mx2 mx3
attribute [go_sem] QOm Nat.mul_one Nat.zero_add List.getElem_toArray List.getElem_cons_zero List.getElem_cons_succ
structure Upd (B:List Nat) (w w':World):Prop where
 os:w'.os=w.os
 tape:w'.tape=w.tape
 output:w'.output=w.output
 size:w.heap.size<=w'.heap.size
 block:∀ k,k < w.heap.size->k ∉ B->w'.heap[k]? = w.heap[k]?
theorem Upd.refl (B:List Nat) (w:World):Upd B w w:=⟨rfl,rfl,rfl,Nat.le_refl _,fun _ _ _=>rfl⟩
theorem Upd.trans {B B':List Nat}{a b c:World} (h:Upd B a b) (k:Upd B' b c) (hB:∀ x∈B',x∈B∨a.heap.size<=x):Upd B a c :=
 ⟨k.os.trans h.os,k.tape.trans h.tape,k.output.trans h.output,Nat.le_trans h.size k.size,fun i hi hn =>
  (k.block i (Nat.lt_of_lt_of_le hi h.size) (fun hx=>by rcases hB i hx with h1 | h1;exact hn h1;omega)).trans (h.block i hi hn)⟩
theorem Upd.below {w w':World} (h:Upd [] w w'):RowKit.Below w.heap.size w w':=⟨h.os,h.tape,h.output,h.size,fun k hk=>h.block k hk (by simp)⟩
theorem Upd.drewN {B:List Nat}{w w':World} (h:Upd B w w') (n m:Nat):Upd B (w.drewN n) (w'.drewN m):=⟨h.os,h.tape,h.output,h.size,h.block⟩
theorem Upd.mono {B B':List Nat}{w w':World} (h:Upd B w w') (hs:∀ x∈B,x∈B'):Upd B' w w':=⟨h.os,h.tape,h.output,h.size,fun k hk hn=>h.block k hk fun hx=>hn (hs k hx)⟩
structure Res where
 foot:List Nat
 holds:World->Prop
 loc:∀ w w',(∀ b∈foot,w'.heap[b]? = w.heap[b]?)->holds w->holds w'
def Apart (r s:Res):Prop:=∀ b∈r.foot,b ∉ s.foot
structure Heap (w0:World) (B:List Nat) (w:World) (G:List Res):Prop where
 upd:Upd B w0 w
 holds:∀ r∈G,r.holds w
 foot:∀ r∈G,∀ b∈r.foot,(b∈B∨w0.heap.size<=b)/\b < w.heap.size
 apart:G.Pairwise Apart
theorem Apart.symm {r s:Res} (h:Apart r s):Apart s r:=fun b hb hr=>h b hr hb
theorem Heap.start (w:World):Heap w [] w []:=⟨.refl _ _,by simp,by simp,.nil⟩
theorem Heap.one {w:World}{r:Res} (h:r.holds w) (hf:∀ b∈r.foot,b < w.heap.size):Heap w r.foot w [r] :=
 ⟨.refl _ _,by simpa using h,by simpa using fun b hb=>⟨.inl hb,hf b hb⟩,by simp⟩
theorem Heap.drewN {w0 w:World}{B:List Nat}{G:List Res} (h:Heap w0 B w G) (n m:Nat):Heap (w0.drewN n) B (w.drewN m) G :=
 ⟨h.upd.drewN n m,fun r hr=>r.loc w _ (fun _ _=>rfl) (h.holds r hr),h.foot,h.apart⟩
theorem Heap.step {w0 w w':World}{B S:List Nat}{G G':List Res} (h:Heap w0 B w G) (hs:Heap w S w' G') (hS:∀ b∈S,(b∈B∨w0.heap.size<=b)/\∀ r∈G,b ∉ r.foot):Heap w0 B w' (G'++G):=by
 refine ⟨h.upd.trans hs.upd fun x hx=>(hS x hx).1,?_,?_,?_⟩
 ·
  intro r hr;rcases List.mem_append.1 hr with hr | hr
  ·
   exact hs.holds r hr
  refine r.loc w w' (fun b hb=>hs.upd.block b (h.foot r hr b hb).2 fun hx=>(hS b hx).2 r hr hb) (h.holds r hr)
 ·
  intro r hr b hb;rcases List.mem_append.1 hr with hr | hr
  ·
   obtain ⟨h1,h2⟩:=hs.foot r hr b hb;refine ⟨?_,h2⟩;rcases h1 with h1 | h1
   ·
    exact (hS b h1).1
   exact .inr (Nat.le_trans h.upd.size h1)
  exact ⟨(h.foot r hr b hb).1,Nat.lt_of_lt_of_le (h.foot r hr b hb).2 hs.upd.size⟩
 rw [List.pairwise_append];refine ⟨hs.apart,h.apart,fun r hr s hs' b hb hbs=>?_⟩;rcases (hs.foot r hr b hb).1 with h1 | h1
 ·
  exact (hS b h1).2 s hs' hbs
 have:=(h.foot s hs' b hbs).2;omega
theorem Heap.call0 {w0 w w':World}{B:List Nat}{G G':List Res} (h:Heap w0 B w G) (hs:Heap w [] w' G'):Heap w0 B w' (G'++G):=h.step hs (by simp)
theorem Heap.sub {w0 w:World}{B:List Nat}{G G':List Res} (h:Heap w0 B w G) (hs:G'.Sublist G):Heap w0 B w G' :=
 ⟨h.upd,fun r hr=>h.holds r (hs.subset hr),fun r hr=>h.foot r (hs.subset hr),h.apart.sublist hs⟩
theorem Heap.perm {w0 w:World}{B:List Nat}{G G':List Res} (h:Heap w0 B w G) (hs:G.Perm G'):Heap w0 B w G' :=
 ⟨h.upd,fun r hr=>h.holds r (hs.mem_iff.2 hr),fun r hr=>h.foot r (hs.mem_iff.2 hr),(hs.pairwise_iff fun h=>h.symm).1 h.apart⟩
theorem Heap.step1 {w0 w w':World}{B:List Nat}{G1 G2 G':List Res}{r r':Res} (h:Heap w0 B w (G1++r::G2)) (hs:Heap w r.foot w' (r'::G')):Heap w0 B w' (G'++(G1++r'::G2)):=by
 have hp:(G1++r::G2).Perm (r::(G1++G2)):=List.perm_middle;have h1:=h.perm hp;have ha:=h1.apart;rw [List.pairwise_cons] at ha;have h2:Heap w0 B w (G1++G2):=h1.sub (List.sublist_cons_self _ _);have h3:=h2.step hs fun b hb=>⟨(h1.foot r (by simp) b hb).1,fun s hs hbs=>ha.1 s hs b hb hbs⟩;refine h3.perm ?_;simp only [List.cons_append];refine List.Perm.trans ?_ (List.perm_append_left_iff G' |>.2 (List.perm_middle (l₁:=G1) (l₂:=G2) (a:=r')).symm);exact (List.perm_middle (l₁:=G') (l₂:=G1++G2) (a:=r')).symm
theorem QDu {α:Type} (G:List α) (i:Nat) (r r':α) (h:G[i]? = some r):∃ G1 G2,G=G1++r::G2/\G.set i r'=G1++r'::G2:=by
 induction G generalizing i with
 | nil=>simp at h
 | cons a l ih =>
  cases i with
  | zero=>simp at h;subst h;exact ⟨[],l,rfl,rfl⟩
  | succ i =>
   obtain ⟨G1,G2,e1,e2⟩:=ih i (by simpa using h);exact ⟨a::G1,G2,by simp [e1],by simp [e2]⟩
theorem Heap.call1 {w0 w w':World}{B:List Nat}{G G':List Res}{r r':Res} (i:Nat) (h:Heap w0 B w G) (hi:G[i]? = some r) (hs:Heap w r.foot w' (r'::G')):Heap w0 B w' (G'++G.set i r'):=by
 obtain ⟨G1,G2,e1,e2⟩:=QDu G i r r' hi;rw [e2];rw [e1] at h;exact h.step1 hs
theorem Heap.at {w0 w:World}{B:List Nat}{G:List Res}{r:Res} (h:Heap w0 B w G) (i:Nat) (hi:G[i]? = some r):r.holds w:=h.holds r (List.mem_of_getElem? hi)
theorem Heap.set {w0 w w':World}{B:List Nat}{G:List Res}{r r':Res} (i:Nat) (h:Heap w0 B w G) (hi:G[i]? = some r) (hu:Upd r.foot w w') (hr:r'.holds w') (hf:∀ b∈r'.foot,(b∈r.foot∨w.heap.size<=b)/\b < w'.heap.size) :
  Heap w0 B w' (G.set i r') :=
 h.call1 (G':=[]) i hi ⟨hu,by simpa using hr,by simpa using hf,by simp⟩
theorem Heap.view {w0 w:World}{B:List Nat}{G:List Res}{r r':Res} (i:Nat) (h:Heap w0 B w G) (hi:G[i]? = some r) (hr:r.holds w->r'.holds w) (hf:∀ b∈r'.foot,b∈r.foot):Heap w0 B w (G.set i r') :=
 h.set i hi (.refl _ _) (hr (h.at i hi)) fun b hb=>⟨.inl (hf b hb),(h.foot r (List.mem_of_getElem? hi) b (hf b hb)).2⟩
theorem Heap.new {w0 w:World}{B:List Nat}{G:List Res}{r:Res} (o:Obj) (h:Heap w0 B w G) (hr:r.holds (w.alloc o)) (hf:∀ b∈r.foot,b=w.heap.size):Heap w0 B (w.alloc o) (r::G):=by
 refine h.call0 (G':=[r]) ⟨⟨rfl,rfl,rfl,by simp,fun k hk _=>RowKit.Below.heap_alloc w o k hk⟩,by simpa using hr,?_,by simp⟩;intro s hs b hb;simp at hs;subst hs;rw [hf b hb];simp
theorem Heap.reads {w0 w:World}{B:List Nat}{G:List Res} (h:Heap w0 B w G) {a:Addr}{xs:List Value} (hr:Reads w0 a xs) (hb:a.block ∉ B):Reads w a xs:=by
 intro j u hu;have h1:=hr j u hu;have e:(a.add j).block=a.block:=by unfold Addr.add;split <;> rfl
 have hlt:a.block < w0.heap.size:=by
  have:=World.block_lt_of_cell? w0 _ h1
  rwa [e] at this
 rw [World.cell?_of_block (w:=w0)]
 ·
  exact h1
 rw [e];exact h.upd.block _ hlt hb
def RS (w:World) (a:Option Addr) (n sz:Nat) (xs:List Value):Prop:=xs.length=n * sz/\(a=none->n=0)/\∀ ad,a=some ad->Reads w ad xs
theorem Heap.rs {w0 w:World}{B:List Nat}{G:List Res} (h:Heap w0 B w G) {a:Option Addr}{n sz:Nat}{xs:List Value} (hr:RS w0 a n sz xs) (hb:∀ ad,a=some ad->ad.block ∉ B):RS w a n sz xs :=
 ⟨hr.1,hr.2.1,fun ad ha=>h.reads (hr.2.2 ad ha) (hb ad ha)⟩
theorem Heap.rs' {w0 w:World}{G:List Res} (h:Heap w0 [] w G) {a:Option Addr}{n sz:Nat}{xs:List Value} (hr:RS w0 a n sz xs):RS w a n sz xs:=h.rs hr (by simp)
def Qap (l:List Int):List Value:=l.map fun n=>.int .i64 n
theorem Qfs (l:List UInt8):(Qan l).length=l.length:=by simp [Qan]
theorem Qc8 (l:List Int):(Qap l).length=l.length:=by simp [Qap]
theorem Qgc {w:World}{a:Option Addr}{n:Nat}{l:List UInt8} (h:RS w a n 1 (Qan l)):Qhp w a n l :=
 ⟨by have:=h.1;simp [Qan] at this;exact this,h.2.1,h.2.2⟩
def Unfz (fz:Nat×Nat) (n:Nat):Prop:=∀ j,j < n->¬ (fz.1<=j/\j < fz.2)
def QHj (T sz:Nat) (a:Option Addr) (n cap:Nat) (xs:List Value) (w:World):Prop :=
 xs.length=n * sz/\n<=cap/\cap<=maxLen /\
 ((a=none/\n=0/\cap=0)∨∃ g rest fz,a=some ⟨g,0,none⟩/\w.heap[g]? = some (.cells (xs++rest).toArray T fz)/\(xs++rest).length=cap * sz/\Unfz fz (cap * sz))
def Res.row (T sz:Nat) (a:Option Addr) (n cap:Nat) (xs:List Value):Res where
 foot:=(a.map (·.block)).toList
 holds:=QHj T sz a n cap xs
 loc:=by
  rintro w w' hb ⟨h1,h2,h3,h4⟩;refine ⟨h1,h2,h3,?_⟩;rcases h4 with h4 | ⟨g,rest,fz,rfl,hg,h5⟩
  ·
   exact .inl h4
  exact .inr ⟨g,rest,fz,rfl,by rw [hb g (by simp)];exact hg,h5⟩
theorem Qr4 (T sz:Nat) (w:World):(Res.row T sz none 0 0 []).holds w:=⟨by simp,Nat.le_refl _,by simp [maxLen],.inl ⟨rfl,rfl,rfl⟩⟩
theorem Qao {T sz n cap:Nat}{a:Option Addr}{xs:List Value}{w:World} (h:(Res.row T sz a n cap xs).holds w):RS w a n sz xs:=by
 obtain ⟨h1,h2,h3,h4⟩:=h;refine ⟨h1,?_,?_⟩
 ·
  rintro rfl;rcases h4 with h4 | ⟨g,rest,fz,h,_⟩
  ·
   exact h4.2.1
  cases h
 rintro ad rfl;rcases h4 with h4 | ⟨g,rest,fz,h,hg,_⟩
 ·
  cases h4.1
 cases h;intro j u hu;have hadd:(⟨g,0,none⟩:Addr).add j=⟨g,j,none⟩:=by unfold Addr.add;split <;> simp_all
 rw [hadd,cell_of_row w g j _ T fz hg];have hlt:j < xs.length:=(List.getElem?_eq_some_iff.1 hu).1;simp [List.getElem?_append_left hlt,hu]
theorem Qr5 {T sz n cap:Nat}{a:Option Addr}{xs:List Value}{w:World} (h:(Res.row T sz a n cap xs).holds w):n<=cap/\cap<=maxLen/\(a=none->n=0/\cap=0):=by
 obtain ⟨h1,h2,h3,h4⟩:=h;refine ⟨h2,h3,?_⟩;rintro rfl;rcases h4 with h4 | ⟨g,rest,fz,h,_⟩
 ·
  exact h4.2
 cases h
end Go.Eng
namespace Go
def Program.zeroOf (P:Program) (T:TypeId):Option Value:=((P.info? T).bind (·.zero))
end Go
namespace Go.Eng
open Go
section
variable {P:Program}{N:Nat}{d:Option Tmp}{ty:Nat}{pos:String}{af:Array Edge}{gd:Option (Nat×Bool)}{e:Env}{w:World}{R:Env->World->(Env->World->Prop)->Prop}{RQ:Env->World->(Env->Prop)->Prop}{K:Env->World->Prop}{KQ:Env->Prop}
theorem Qd1 {o:Oper}{C:Value->World->Prop} (h:∀ a n,Fits N e a->∃ v w' m,(execOp a.eval o).run P (w.drewN n)=.ok (.value v) (w'.drewN m)/\C v w'):Mem P N o e w C:=by
 intro a n next Q ha hK;obtain ⟨v,w',m,hr,hC⟩:=h a n ha;unfold Oper.wp;rw [hr];exact hK v w' m hC
theorem Qw6 {o:Oper}{C:Value->World->Prop} (h:∀ a n,Fits N e a->∃ w' m,(execOp a.eval o).run P (w.drewN n)=.ok .skip (w'.drewN m)/\C undef w'):Mem P N o e w C:=by
 intro a n next Q ha hK;obtain ⟨w',m,hr,hC⟩:=h a n ha;unfold Oper.wp;rw [hr];exact hK _ w' m hC
def CallK (P:Program) (f:FuncId) (args:List Value) (w:World) (C:Value->World->Prop):Prop:=∃ F,Does P f args.toArray w F/\∀ v w',F v w'->C v w'
theorem CallK.mk {f:FuncId}{args:List Value}{C F:Value->World->Prop} (h:Does P f args.toArray w F) (hc:∀ v w',F v w'->C v w'):CallK P f args w C:=⟨F,h,hc⟩
theorem MemK_call {f:FuncId}{az:Array Operand}{ts:Array TypeId} (hf:∀ args w,(callFunc f args).run P w=.ok (.enter f args) w)
  (h:argL e az.toList fun vs=>CallK P f vs w fun v w'=>R (e.put d v) w' K) :
  MemK P N ⟨d,.call { callee:=.value (.func f),args:=az,argTypes:=ts },ty,pos,af,gd⟩ e w R K:=by
 intro a n next Q ha hK;have h1:=Qc0 (K:=fun vs=>CallK P f vs w fun v w'=>R (e.put d v) w' K) ha h;obtain ⟨F,hD,hC⟩:=h1;have hm:(az.map a.eval)=(az.toList.map a.eval).toArray:=Qfe az a
 have hrun:(execOp a.eval ⟨d,.call { callee:=.value (.func f),args:=az,argTypes:=ts },ty,pos,af,gd⟩).run P (w.drewN n)=.ok (.enter f (az.toList.map a.eval).toArray) (w.drewN n):=by
  simp only [execOp,resolve,Act.eval,Deferred.ofValue,Sem.run_bind,Sem.run_pure,Result.andThen_ok,invoke];simp [hm,hf]
 unfold Oper.wp;rw [hrun];exact (hD n).mono fun e' w' ⟨v,w'',m,he,hw,hF⟩=>by subst he;subst hw;exact hK v w'' m (hC v w'' hF)
def QCallK (P:Program) (f:FuncId) (args:List Value) (w:World) (C:Value->Prop):Prop:=∃ v,Does P f args.toArray w (fun v' w'=>w'=w/\v'=v)/\C v
theorem QCallK.mk {f:FuncId}{args:List Value}{C:Value->Prop}{v:Value} (h:Does P f args.toArray w (fun v' w'=>w'=w/\v'=v)) (hc:C v):QCallK P f args w C:=⟨v,h,hc⟩
theorem Qw7 {f:FuncId}{az:Array Operand}{ts:Array TypeId} (hf:∀ args w,(callFunc f args).run P w=.ok (.enter f args) w)
  (h:argL e az.toList fun vs=>QCallK P f vs w fun v=>RQ (e.put d v) w KQ) :
  Qiw P N ⟨d,.call { callee:=.value (.func f),args:=az,argTypes:=ts },ty,pos,af,gd⟩ e w RQ KQ:=by
 obtain ⟨vs,hvs,v,hD,hC⟩:∃ vs,(∀ a,Fits N e a->az.toList.map a.eval=vs)/\QCallK P f vs w fun v=>RQ (e.put d v) w KQ:=by
  have key:∀ (xs:List Operand) (K:List Value->Prop),argL e xs K->∃ vs,(∀ a,Fits N e a->xs.map a.eval=vs)/\K vs:=by
   intro xs
   induction xs with
   | nil=>intro K h;exact ⟨[],fun _ _=>rfl,h⟩
   | cons x xs ih =>
    intro K h
    have:∃ v,(∀ a,Fits N e a->a.eval x=v)/\argL e xs fun vs=>K (v::vs):=by
     simp only [argL] at h;cases x with
     | tmp t=>obtain ⟨v,hv,hK⟩:=Qnx h;exact ⟨v,fun a ha=>ha.at_ t v hv,hK⟩
     | const v=>exact ⟨v,fun _ _=>rfl,h⟩
     | global g=>exact ⟨_,fun _ _=>rfl,h⟩
     | func f=>exact ⟨_,fun _ _=>rfl,h⟩
    obtain ⟨v,hv,h⟩:=this;obtain ⟨vs,hvs,hK⟩:=ih _ h;exact ⟨v::vs,fun a ha=>by simp [hv a ha,hvs a ha],hK⟩
  exact key _ _ h
 refine ⟨v,fun a n ha=>?_,hC⟩;have hm:(az.map a.eval)=vs.toArray:=by rw [Qfe az a,hvs a ha]
 have hrun:(execOp a.eval ⟨d,.call { callee:=.value (.func f),args:=az,argTypes:=ts },ty,pos,af,gd⟩).run P (w.drewN n)=.ok (.enter f vs.toArray) (w.drewN n):=by
  simp only [execOp,resolve,Act.eval,Deferred.ofValue,Sem.run_bind,Sem.run_pure,Result.andThen_ok,invoke];simp [hm,hf]
 unfold Oper.quietAt;rw [hrun];exact ⟨rfl,(hD n).mono fun e' w' ⟨v',w'',m,he,hw,hF⟩=>by obtain ⟨rfl,rfl⟩:=hF;exact ⟨he,m,hw⟩⟩
theorem Qd2 (T:TypeId) (cs:Array Value) (w:World):(newRow T cs).run P w=.ok ⟨w.heap.size,0,none⟩ (w.alloc (.cells cs T)):=rfl
theorem Qql (T:TypeId) (v:Value) (w:World):(newVar T v).run P w=.ok ⟨w.heap.size,0,none⟩ (w.alloc (.cells v.cells T)):=rfl
theorem Qh3 (n:Nat) (w:World):(askRoom n).run P w=.ok () w:=by unfold askRoom;split <;> rfl
theorem Qn4 (w:World) (n:Nat) (o:Obj):(w.drewN n).alloc o=(w.alloc o).drewN n:=rfl
theorem Qce {T:TypeId}{x:Operand} (h:arg e x fun v=>R (e.put d (.pointer (some ⟨w.heap.size,0,none⟩))) (w.alloc (.cells v.cells T)) K) :
  MemK P N ⟨d,.box T x,ty,pos,af,gd⟩ e w R K :=
 Qd1 fun a n ha=>by
  have h1:=Qa2 (K:=fun v=>R (e.put d (.pointer (some ⟨w.heap.size,0,none⟩))) (w.alloc (.cells v.cells T)) K) ha h;exact ⟨_,w.alloc (.cells (a.eval x).cells T),n,by simp only [execOp,Instr.box,Sem.run_bind,Qql,Result.andThen_ok,Sem.run_pure];rfl,h1⟩
theorem Ql2 {T:TypeId}{z:Value} (h:P.zeroOf T=some z) (w:World):(zeroValue T).run P w=.ok z w:=by
 unfold Program.zeroOf at h;cases hi:P.info? T with
 | none=>simp [hi] at h
 | some i =>
  simp [hi] at h;simp [zeroValue,typeInfo,hi,h]
theorem MemK_alloc {T:TypeId} (z:Value) (hz:P.zeroOf T=some z) (h:R (e.put d (.pointer (some ⟨w.heap.size,0,none⟩))) (w.alloc (.cells z.cells T)) K) :
  MemK P N ⟨d,.alloc T,ty,pos,af,gd⟩ e w R K :=
 Qd1 fun a n _=>⟨_,w.alloc (.cells z.cells T),n,by simp only [execOp,Instr.alloc,Ql2 hz,Sem.run_bind,Qql,Result.andThen_ok,Sem.run_pure];rfl,h⟩
theorem Qpr {T E:TypeId}{i:TypeInfo}{z zv:Value} (hu:P.underlying T=some (.slice E)) (hi:P.info? E=some i) (hz:i.zero=some z) (hzv:z.cells=#[zv]) (h1:i.size=1)
  {l c:Nat} (hlc:l<=c) (hb:i.bytes * c<=2 ^ 48) (hc:c<=maxLen) (w:World) :
  (Instr.makeSlice T (.int .i64 l) (.int .i64 c)).run P w=.ok (.slice (some ⟨w.heap.size,0,none⟩) l c) (w.alloc (.cells (List.replicate c zv).toArray E)):=by
 have hcm:(c:Int)<=9223372036854775807:=by simp only [maxLen] at hc;omega
 have e1:IntKind.i64.wrap (l:Int)=l:=Qfq ⟨by omega,by omega⟩;have e2:IntKind.i64.wrap (c:Int)=c:=Qfq ⟨by omega,by omega⟩
 have hb1:((i.bytes * c:Nat):Int)<=281474976710656:=by
  have h:i.bytes * c<=281474976710656:=hb;omega
 have hb':¬ ((i.bytes:Int) * (c:Int) > 281474976710656):=by
  have e3:((i.bytes * c:Nat):Int)=(i.bytes:Int) * (c:Int):=Int.natCast_mul _ _;omega
 have hrow:(Array.range (c * 1)).map (fun x=>(#[zv]:Array Value)[x % 1]!)=(List.replicate c zv).toArray:=by
  apply Array.ext
  ·
   simp
  intro j h1 h2;simp [Nat.mod_one]
 have hti:∀ w,(typeInfo E).run P w=.ok i w:=fun w=>by simp [typeInfo,hi]
 have hzi:∀ w,(zeroValue E).run P w=.ok z w:=fun w=>by simp [zeroValue,typeInfo,hi,hz]
 have hso:∀ w,(sizeOf E).run P w=.ok 1 w:=fun w=>by simp [sizeOf,typeInfo,hi,h1]
 simp only [Instr.makeSlice,Sem.run_bind,run_underlying hu,Result.andThen_ok,asInt,asIntOf,Sem.run_pure,hti,e1,e2];rw [if_neg (by simp [hb'];omega)];simp only [Sem.run_bind,Qh3,Result.andThen_ok,hso,Int.toNat_natCast];by_cases hc0:c=0
 ·
  subst hc0;simp only [Nat.zero_mul,if_true,Sem.run_bind,Sem.run_pure,Result.andThen_ok,Qd2];simp [show Array.range 0=#[] from rfl]
 rw [if_neg (by omega)];simp only [Sem.run_bind,hzi,Result.andThen_ok,Sem.run_pure,Qd2,hzv];rw [<- hrow];simp
theorem Qba {T E:TypeId}{x y:Operand}{zv:Value}{bytes:Nat} (hu:P.underlying T=some (.slice E)) (hz:(P.info? E).map (fun i=>(i.zero.map Value.cells,i.size,i.bytes))=some (some #[zv],1,bytes))
  (h:arg e x fun vl=>arg e y fun vc=>∃ l c:Nat,(vl=.int .i64 l/\vc=.int .i64 c/\l<=c/\bytes * c<=281474976710656/\c<=9223372036854775807)/\R (e.put d (.slice (some ⟨w.heap.size,0,none⟩) l c)) (w.alloc (.cells (List.replicate c zv).toArray E)) K) :
  MemK P N ⟨d,.makeSlice T x y,ty,pos,af,gd⟩ e w R K :=
 Qd1 fun a n ha=>by
  obtain ⟨l,c,⟨h1,h2,h3,h4,h5⟩,hR⟩:=Qa2 (K:=fun vc=>∃ l c:Nat,(a.eval x=.int .i64 l/\vc=.int .i64 c/\l<=c/\bytes * c<=281474976710656/\c<=9223372036854775807)/\R (e.put d (.slice (some ⟨w.heap.size,0,none⟩) l c)) (w.alloc (.cells (List.replicate c zv).toArray E)) K) ha
   (Qa2 (K:=fun vl=>arg e y fun vc=>∃ l c:Nat,(vl=.int .i64 l/\vc=.int .i64 c/\l<=c/\bytes * c<=281474976710656/\c<=9223372036854775807)/\R (e.put d (.slice (some ⟨w.heap.size,0,none⟩) l c)) (w.alloc (.cells (List.replicate c zv).toArray E)) K) ha h)
  cases hi:P.info? E with
  | none=>simp [hi] at hz
  | some i =>
   simp only [hi,Option.map_some,Option.some.injEq,Prod.mk.injEq] at hz;obtain ⟨hz1,hz2,hz3⟩:=hz;cases hzz:i.zero with
   | none=>simp [hzz] at hz1
   | some z =>
    simp only [hzz,Option.map_some,Option.some.injEq] at hz1;refine ⟨_,w.alloc (.cells (List.replicate c zv).toArray E),n,?_,hR⟩;have:=Qpr hu hi hzz hz1 hz2 h3 (by rw [hz3];exact h4) (by simp only [maxLen];omega) (w.drewN n);simp only [execOp,h1,h2,this,Sem.run_bind,Result.andThen_ok,Sem.run_pure];rfl
theorem QBb:∀ (l:List Value) (i:Nat) (pre suf:List Value),suf.length=l.length->(∀ v∈l,v.cells=#[v])->pre.length=i ->
  Instr.fill (fun i=>some (i * 1,1)) (pre++suf).toArray ((l.zipIdx i).map fun p=>(p.2,p.1))=some (pre++l).toArray:=by
 intro l
 induction l with
 | nil=>intro i pre suf hs _ _;simp at hs;subst hs;simp [Instr.fill]
 | cons v l ih =>
  intro i pre suf hs hc hp;cases suf with
  | nil=>simp at hs
  | cons u suf =>
   simp only [List.zipIdx_cons,List.map_cons,Instr.fill];have hv:=hc v (by simp);simp only [hv];rw [if_neg (by simp;omega)];have:=ih (i+1) (pre++[v]) suf (by simpa using hs) (fun u hu=>hc u (by simp [hu])) (by simp [hp])
   have e1:(#[v].zipIdx.foldl (fun cs x=>cs.setIfInBounds (i * 1+x.2) x.1) (pre++u::suf).toArray)=((pre++[v])++suf).toArray:=by
    simp only [Array.zipIdx];simp;rw [<- hp,List.set_append_right _ _ (Nat.le_refl _)];simp
   rw [e1,this];simp
theorem Qb4 {T E:TypeId}{n:Nat}{ps:Array (Nat×Operand)}{xs:List Operand} (hu:P.underlying T=some (.slice E)) (hsz:P.szo E=some 1) (hz:(P.zeroOf E).isSome=true)
  (hps:ps.toList=(xs.zipIdx).map fun p=>(p.2,p.1)) (hn:n=xs.length) (hb:n<=1000000)
  (h:argL e xs fun vs=>(∀ v∈vs,v.cells=#[v])/\R (e.put d (.slice (some ⟨w.heap.size,0,none⟩) n n)) (w.alloc (.cells vs.toArray E)) K) :
  MemK P N ⟨d,.buildSlice T n ps,ty,pos,af,gd⟩ e w R K :=
 Qd1 fun a m ha=>by
  obtain ⟨h1,hR⟩:=Qc0 (K:=fun vs=>(∀ v∈vs,v.cells=#[v])/\R (e.put d (.slice (some ⟨w.heap.size,0,none⟩) n n)) (w.alloc (.cells vs.toArray E)) K) ha h;refine ⟨_,_,m,?_,hR⟩;obtain ⟨z,hz⟩:=Option.isSome_iff_exists.1 hz
  have e1:(ps.map fun (i,x)=>(i,a.eval x)).toList=((xs.map a.eval).zipIdx).map fun p=>(p.2,p.1):=by
   rw [Array.toList_map,hps];simp [List.zipIdx_map]
  have hf:=QBb (xs.map a.eval) 0 [] (((Array.range (n * 1)).map fun x=>(if n=0 then #[] else z.cells)[x % (if n=0 then #[] else z.cells).size]!).toList) (by simp [hn]) h1 rfl;simp only [List.nil_append,Array.toArray_toList] at hf;have hs:=Qel (P:=P) hsz;simp only [execOp,Instr.buildSlice,Sem.run_bind,run_underlying hu,hs,Result.andThen_ok];rw [if_neg (by omega)];simp only [Nat.mul_one] at hf ⊢;by_cases h0:n=0
  ·
   rw [if_pos h0];rw [if_pos h0] at hf;simp only [Sem.run_bind,Sem.run_pure,Result.andThen_ok,e1,hf,Qd2];rfl
  rw [if_neg h0];rw [if_neg h0] at hf;simp only [Sem.run_bind,Ql2 hz,Sem.run_pure,Result.andThen_ok,e1,hf,Qd2];rfl
def Qek (w:World) (g:Nat) (cs:List Value) (T:TypeId) (fz:Nat×Nat):World:={ w with heap:=w.heap.setIfInBounds g (.cells cs.toArray T fz) }
theorem Qhr {w:World}{g:Nat}{cs:List Value}{T:TypeId}{fz:Nat×Nat} (h:g < w.heap.size):(Qek w g cs T fz).heap[g]? = some (.cells cs.toArray T fz):=by
 simp [Qek,h]
theorem QDw {w:World}{g k:Nat}{cs:List Value}{T:TypeId}{fz:Nat×Nat} (h:k≠g):(Qek w g cs T fz).heap[k]? = w.heap[k]? := by
 simp [Qek,Ne.symm h]
theorem Qgj (w:World) (g:Nat) (cs:List Value) (T:TypeId) (fz:Nat×Nat):Upd [g] w (Qek w g cs T fz) :=
 ⟨rfl,rfl,rfl,by simp [Qek],fun k _ hk=>QDw (by simpa using hk)⟩
theorem Qgt (w:World) (g:Nat) (cs:List Value) (T:TypeId) (fz:Nat×Nat):(Qek w g cs T fz).heap.size=w.heap.size:=by simp [Qek]
theorem Qg9 (w:World) (n g:Nat) (cs:List Value) (T:TypeId) (fz:Nat×Nat):Qek (w.drewN n) g cs T fz=(Qek w g cs T fz).drewN n:=rfl
theorem Qps {w:World}{g o:Nat}{cs:List Value}{T:TypeId}{fz:Nat×Nat} (h:w.heap[g]? = some (.cells cs.toArray T fz)) (v:Value):w.setCell ⟨g,o,none⟩ v=Qek w g (cs.set o v) T fz:=by
 have hlt:g < w.heap.size:=(Array.getElem?_eq_some_iff.1 h).1;unfold World.setCell Qek
 congr 1
 apply Array.ext_getElem?;intro j;rw [Array.getElem?_modify,Array.getElem?_setIfInBounds];by_cases hj:g=j
 ·
  subst hj;have hg:w.heap[g]=.cells cs.toArray T fz:=(Array.getElem?_eq_some_iff.1 h).2;simp [hlt,hg]
 simp [hj]
theorem Qw8 {w:World}{g:Nat}{cs:List Value}{T:TypeId}{fz:Nat×Nat} (h:w.heap[g]? = some (.cells cs.toArray T fz)):Qek w g cs T fz=w:=by
 have hlt:g < w.heap.size:=(Array.getElem?_eq_some_iff.1 h).1
 have e:w.heap.setIfInBounds g (.cells cs.toArray T fz)=w.heap:=by
  apply Array.ext_getElem?;intro j;rw [Array.getElem?_setIfInBounds];by_cases hj:g=j
  ·
   subst hj;rw [if_pos rfl,if_pos hlt];exact h.symm
  rw [if_neg hj]
 rw [Qek,e]
theorem Qd8 (g o:Nat) (T:TypeId) (fz:Nat×Nat):∀ (vs:List Value) (i:Nat) (cs:List Value) (w:World),w.heap[g]? = some (.cells cs.toArray T fz)->Unfz fz cs.length->o+i+vs.length<=cs.length->(∀ v∈vs,v.oneCell'=true) ->
  (storeCells ⟨g,o,none⟩ vs i).run P w=.ok () (Qek w g (cs.take (o+i)++vs++cs.drop (o+i+vs.length)) T fz):=by
 intro vs
 induction vs with
 | nil =>
  intro i cs w hg _ hl _;simp only [storeCells,Sem.run_pure]
  congr 1
  have:cs.take (o+i)++[]++cs.drop (o+i+0)=cs:=by simp
  simp only [List.length_nil];rw [this,Qw8 hg]
 | cons v vs ih =>
  intro i cs w hg hfz hl h1;simp only [List.length_cons] at hl;have hadd:(⟨g,o,none⟩:Addr).add i=⟨g,o+i,none⟩:=by unfold Addr.add;split <;> simp_all
  have hcell:∃ u,w.cell? ⟨g,o+i,none⟩=some u:=by
   refine ⟨cs[o+i],?_⟩;simp [World.cell?,hg]
  obtain ⟨u,hu⟩:=hcell
  have hfr:w.frozen? ⟨g,o+i,none⟩=false:=by
   simp only [World.frozen?,hg];have:=hfz (o+i) (by omega);simpa using this
  have hone:=h1 v (by simp)
  have hstore:(store ⟨g,o+i,none⟩ v).run P w=.ok () (w.setCell ⟨g,o+i,none⟩ v):=by
   cases v <;> simp [Value.oneCell'] at hone <;> simp [store,Sem.run,hu,hfr]
  have hlt:g < w.heap.size:=(Array.getElem?_eq_some_iff.1 hg).1;simp only [storeCells,Sem.run_bind,hadd,hstore,Result.andThen_ok];rw [Qps hg,ih (i+1) (cs.set (o+i) v) _ (Qhr hlt) (by simpa using hfz) (by simp;omega) (fun u hu=>h1 u (by simp [hu]))]
  congr 1
  unfold Qek;simp only [Array.setIfInBounds_setIfInBounds]
  congr 2
  congr 1
  congr 1
  rw [show o+(i+1)=o+i+1 by omega,List.take_set,List.drop_set];simp only [List.length_cons];rw [if_pos (by omega),List.take_succ_eq_append_getElem (by omega),List.set_append_right _ _ (by simp;omega)];simp only [List.length_take];rw [show o+i - min (o+i) cs.length=0 by omega];simp [show o+i+1+vs.length=o+i+(vs.length+1) by omega]
end
section
variable {P:Program}{N:Nat}{d:Option Tmp}{ty:Nat}{pos:String}{af:Array Edge}{gd:Option (Nat×Bool)}{e:Env}{w:World}{R:Env->World->(Env->World->Prop)->Prop}{K:Env->World->Prop}
def Qim (P:Program) (T:TypeId) (x v:Value) (w:World) (C:World->Prop):Prop :=
 ∃ w',(∀ n,(Instr.storeAt T x v).run P (w.drewN n)=.ok () (w'.drewN n))/\C w'
theorem MemK_store {T:TypeId}{x y:Operand} (h:arg e x fun a=>arg e y fun v=>Qim P T a v w fun w'=>R (e.put d undef) w' K) :
  MemK P N ⟨d,.store T x y,ty,pos,af,gd⟩ e w R K :=
 Qw6 fun a n ha=>by
  obtain ⟨w',hr,hC⟩:=Qa2 (K:=fun v=>Qim P T (a.eval x) v w fun w'=>R (e.put d undef) w' K) ha (Qa2 (K:=fun b=>arg e y fun v=>Qim P T b v w fun w'=>R (e.put d undef) w' K) ha h);exact ⟨w',n,by simp only [execOp,Sem.run_bind,hr n,Result.andThen_ok,Sem.run_pure],hC⟩
theorem Qf8 {T:TypeId}{g o:Nat}{T':TypeId}{fz:Nat×Nat}{cs vs:List Value}{v:Value} (hv:v.cells=vs.toArray) (hsz:P.szo T=some vs.length) (hg:w.heap[g]? = some (.cells cs.toArray T' fz)) (hfz:Unfz fz cs.length) (hl:o+vs.length<=cs.length) (h1:∀ u∈vs,u.oneCell'=true) (n:Nat) :
  (Instr.storeAt T (.pointer (some ⟨g,o,none⟩)) v).run P (w.drewN n)=.ok () ((Qek w g (cs.take o++vs++cs.drop (o+vs.length)) T' fz).drewN n):=by
 have hs:=Qel (P:=P) hsz;have hst:=Qd8 (P:=P) g o T' fz vs 0 cs (w.drewN n) hg hfz (by simpa using hl) h1;simp only [Instr.storeAt,Instr.sureAddr,storeVar,Sem.run_bind,Sem.run_pure,Result.andThen_ok,hs,hv];rw [if_neg (by simp)];rw [hst];simp [Qg9]
def Res.blk (g:Nat) (T:TypeId) (cs:List Value):Res where
 foot:=[g]
 holds:=fun w=>∃ fz,w.heap[g]? = some (.cells cs.toArray T fz)/\Unfz fz cs.length
 loc:=by
  rintro w w' hb ⟨fz,h1,h2⟩;exact ⟨fz,by rw [hb g (by simp)];exact h1,h2⟩
theorem Qzm (n:Nat):Unfz (0,0) n:=fun j _=>by simp
theorem Heap.box {w0 w:World}{B:List Nat}{G:List Res} (h:Heap w0 B w G) (T:TypeId) (cs:List Value):Heap w0 B (w.alloc (.cells cs.toArray T)) (Res.blk w.heap.size T cs::G) :=
 h.new _ ⟨(0,0),heap_alloc_new w _,Qzm _⟩ (by simp [Res.blk])
theorem Heap.row {w0 w:World}{B:List Nat}{G:List Res} (h:Heap w0 B w G) (T:TypeId) {n cap sz:Nat} (xs rest:List Value) (h1:xs.length=n * sz) (h2:(xs++rest).length=cap * sz) (h3:n<=cap) (h4:cap<=9223372036854775807) :
  Heap w0 B (w.alloc (.cells (xs++rest).toArray T)) (Res.row T sz (some ⟨w.heap.size,0,none⟩) n cap xs::G) :=
 h.new _ ⟨h1,h3,by simp only [maxLen];omega,.inr ⟨w.heap.size,rest,(0,0),rfl,heap_alloc_new w _,h2,Qzm _⟩⟩ (by simp [Res.row])
theorem StoreK_blk {w0:World}{B:List Nat}{G:List Res} (hH:Heap w0 B w G) (i:Nat) {g o:Nat}{T T':TypeId}{cs vs:List Value}{v:Value}{C:World->Prop} (hi:G[i]? = some (Res.blk g T' cs)) (hv:v.cells=vs.toArray) (hsz:P.szo T=some vs.length) (hl:o+vs.length<=cs.length) (h1:∀ u∈vs,u.oneCell'=true)
  (h:∀ w',Heap w0 B w' (G.set i (Res.blk g T' (cs.take o++vs++cs.drop (o+vs.length))))->C w'):Qim P T (.pointer (some ⟨g,o,none⟩)) v w C:=by
 obtain ⟨fz,hg,hfz⟩:=hH.at i hi;have hlt:g < w.heap.size:=(Array.getElem?_eq_some_iff.1 hg).1;refine ⟨_,Qf8 hv hsz hg hfz hl h1,h _ (hH.set i hi (Qgj _ _ _ _ _) ⟨fz,Qhr hlt,?_⟩ ?_)⟩
 ·
  have:(cs.take o++vs++cs.drop (o+vs.length)).length=cs.length:=by simp;omega
  rw [this];exact hfz
 intro b hb;exact ⟨.inl hb,by rw [Qgt];simp [Res.blk] at hb;omega⟩
theorem Qas {w0:World}{B:List Nat}{G:List Res} (hH:Heap w0 B w G) (i:Nat) {o n cap sz:Nat}{ad ap:Addr}{T T':TypeId}{xs vs:List Value}{v:Value}{C:World->Prop} (hi:G[i]? = some (Res.row T' sz (some ad) n cap xs)) (hp:ap=ad.add o) (hv:v.cells=vs.toArray) (hsz:P.szo T=some vs.length) (hl:o+vs.length<=xs.length) (h1:∀ u∈vs,u.oneCell'=true)
  (h:∀ w',Heap w0 B w' (G.set i (Res.row T' sz (some ad) n cap (xs.take o++vs++xs.drop (o+vs.length))))->C w'):Qim P T (.pointer (some ap)) v w C:=by
 obtain ⟨h2,h3,h4,h5⟩:=hH.at i hi;rcases h5 with h5 | ⟨g,rest,fz,hg0,hg,hl2,hfz⟩
 ·
  cases h5.1
 cases hg0;subst hp;have hlt:g < w.heap.size:=(Array.getElem?_eq_some_iff.1 hg).1;have hadd:(⟨g,0,none⟩:Addr).add o=⟨g,o,none⟩:=by unfold Addr.add;split <;> simp_all
 rw [hadd];have hlen:o+vs.length<=(xs++rest).length:=by simp;omega
 refine ⟨_,Qf8 hv hsz hg (by rw [hl2];exact hfz) hlen h1,h _ (hH.set i hi (Qgj _ _ _ _ _) ?_ ?_)⟩
 ·
  refine ⟨by simp;omega,h3,h4,.inr ⟨g,rest,fz,rfl,?_,by simp at hl2 ⊢;omega,hfz⟩⟩;rw [Qhr hlt]
  congr 3
  rw [List.take_append_of_le_length (by omega),List.drop_append_of_le_length (by omega)];simp
 intro b hb;exact ⟨.inl hb,by rw [Qgt];simp [Res.row] at hb;omega⟩
def Src (P:Program) (w:World) (x:Value) (T':TypeId) (sz m:Nat) (news:List Value):Prop :=
 match x with
 | .slice a k _=>k=m/\RS w a m sz news/\(∃ E,P.underlying T'=some (.slice E))
 | .string s=>m=(toL s).length/\sz=1/\news=Qan (toL s)/\P.underlying T'=some .string
 | _=>False
theorem Src.spec {x:Value}{T':TypeId}{sz m:Nat}{news:List Value} (h:Src P w x T' sz m news) :
  news.length=m * sz/\(∀ w,(Builtin.lenOf x).run P w=.ok m w)/\(∀ w',w'.heap=w.heap->(Builtin.firstCells sz m x).run P w'=.ok news.toArray w')/\(∃ dd,P.underlying T'=some dd/\∀ k,dd≠.int k):=by
 unfold Src at h;split at h
 ·
  rename_i a k c;obtain ⟨rfl,⟨h1,h2,h3⟩,E,hE⟩:=h;refine ⟨h1,fun w=>by simp [Builtin.lenOf],fun w' hw=>?_,_,hE,by simp⟩;cases a with
  | none =>
   have:=h2 rfl;subst this;have:news=[]:=List.eq_nil_of_length_eq_zero (by simpa using h1);subst this;simp [Builtin.firstCells]
  | some ad=>exact run_firstCells_some (P:=P) w' sz k ad k c news h1 (fun j v hv=>(h3 ad rfl).heap hw j v hv)
 ·
  rename_i s;obtain ⟨rfl,rfl,rfl,hu⟩:=h;refine ⟨by simp [Qan],fun w=>by simp only [Builtin.lenOf,Sem.run_pure];rfl,fun w' _=>?_,_,hu,by simp⟩
  have:s.extract 0 (toL s).length=s:=by
   rw [Qgs,List.drop_zero,List.take_of_length_le (by simp [toL]),Array.toArray_toList]
  simp only [Builtin.firstCells,Sem.run_pure,this,Qan,toL]
  congr 1
  apply Array.ext';simp
 exact h.elim
theorem QOn {dd:TypeDesc} (h:∀ k,dd≠.int k):(match (generalizing:=false) dd with | .int _=>true | _=>false)=false:=by cases dd <;> first | rfl | exact absurd rfl (h _)
theorem Qpt {w0:World}{B:List Nat}{G:List Res} (hH:Heap w0 B w G) (i:Nat) {T T' E ty:TypeId}{sz bytes:Nat}{zs:Array Value}{a:Option Addr}{n cap m:Nat}{xs news:List Value}{x:Value}
  (hi:G[i]? = some (Res.row E sz a n cap xs)) (hu:P.underlying T=some (.slice E)) (hz:(P.info? E).map (fun i=>(i.zero.map Value.cells,i.size,i.bytes))=some (some zs,sz,bytes)) (hzs:zs.size=sz)
  (hs:Src P w x T' sz m news) (h1:∀ u∈news,u.oneCell'=true) (hb:cap < n+m->(n+m) * bytes<=140737488355328/\n+m<=9223372036854775807) (k:Nat) :
  ∃ a' cap' w' k',(Builtin.append_ #[T,T'] ty #[.slice a n cap,x]).run P (w.drewN k)=.ok (.slice a' (n+m) cap') (w'.drewN k')/\Heap w0 B w' (G.set i (Res.row E sz a' (n+m) cap' (xs++news)))/\(n+m<=cap->a'=a/\cap'=cap):=by
 have hrow:=hH.at i hi;obtain ⟨hxl,hnc,hcm,hcase⟩:=hrow;obtain ⟨hnl,hlen,hfirst,dd,hdd,hni⟩:=hs.spec;cases hinfo:P.info? E with
 | none=>simp [hinfo] at hz
 | some ti =>
 simp only [hinfo,Option.map_some,Option.some.injEq,Prod.mk.injEq] at hz;obtain ⟨hz1,hz2,hz3⟩:=hz;cases hzz:ti.zero with
 | none=>simp [hzz] at hz1
 | some z =>
 simp only [hzz,Option.map_some,Option.some.injEq] at hz1;have hso:∀ w,(sizeOf E).run P w=.ok sz w:=fun w=>by simp [sizeOf,typeInfo,hinfo,hz2]
 have hti:∀ w,(typeInfo E).run P w=.ok ti w:=fun w=>by simp [typeInfo,hinfo]
 have hzv:∀ w,(zeroValue E).run P w=.ok z w:=fun w=>by simp [zeroValue,typeInfo,hinfo,hzz]
 have hund:∀ w,(underlying T').run P w=.ok dd w:=fun w=>run_underlying hdd w;have hmatch:=QOn hni;by_cases hroom:n+m<=cap
 ·
  rcases hcase with ⟨rfl,rfl,rfl⟩ | ⟨g,rest,fz,rfl,hg,hl2,hfz⟩
  ·
   have hm:m=0:=by omega
   subst hm;have hn:news=[]:=List.eq_nil_of_length_eq_zero (by simpa using hnl);subst hn;refine ⟨none,0,w,k,?_,?_,fun _=>⟨rfl,rfl⟩⟩
   ·
    simp [Builtin.append_,run_underlying hu,hso,hund,hlen,hfirst (w.drewN k) rfl]
   have:xs++[]=xs:=by simp
   rw [this]
   have:G.set i (Res.row E sz none 0 0 xs)=G:=by
    apply List.ext_getElem?;intro j;rw [List.getElem?_set];split
    ·
     rename_i hj;subst hj;split <;> simp_all
    rfl
   simp only [Nat.zero_add];rw [this];exact hH
  have hlt:g < w.heap.size:=(Array.getElem?_eq_some_iff.1 hg).1;have hfit:n * sz+news.length<=(xs++rest).length:=by rw [hl2,hnl,<- Nat.add_mul];exact Nat.mul_le_mul_right _ hroom
  have hst:=Qd8 (P:=P) g (n * sz) E fz news 0 (xs++rest) (w.drewN k) hg (by rw [hl2];exact hfz) (by simpa using hfit) h1;have hadd:(⟨g,0,none⟩:Addr).add (n * sz)=⟨g,n * sz,none⟩:=by unfold Addr.add;split <;> simp_all
  have hcs:(xs++rest).take (n * sz+0)++news++(xs++rest).drop (n * sz+0+news.length)=(xs++news)++rest.drop news.length:=by
   rw [Nat.add_zero,<- hxl,List.take_left];rw [List.drop_append];simp
  rw [hcs] at hst;refine ⟨some ⟨g,0,none⟩,cap,Qek w g ((xs++news)++rest.drop news.length) E fz,k,?_,?_,fun _=>⟨rfl,rfl⟩⟩
  ·
   simp [Builtin.append_,run_underlying hu,hso,hund,hlen,hfirst (w.drewN k) rfl,hroom,hadd,hst,Qg9]
  refine hH.set i hi (Qgj _ _ _ _ _) ⟨?_,hroom,hcm,.inr ⟨g,rest.drop news.length,fz,rfl,Qhr hlt,?_,hfz⟩⟩ ?_
  ·
   rw [List.length_append,hxl,hnl,Nat.add_mul]
  ·
   simp at hl2 hfit ⊢;omega
  intro b hb;exact ⟨.inl hb,by rw [Qgt];simp [Res.row] at hb;omega⟩
 obtain ⟨hb1,hb2⟩:=hb (by omega)
 have hg63:¬ ((n+m:Nat):Int) > IntKind.i64.max:=by
  have:IntKind.i64.max=9223372036854775807:=by decide
  rw [this];omega
 have hfits:¬ (Builtin.nextslicecap (n+m) cap * ti.bytes > 2 ^ 48):=by
  have:=growslice_fits (need:=n+m) (old:=cap) (bytes:=ti.bytes) (by omega) (by rw [hz3];exact hb1);have e:(2:Nat) ^ 48=281474976710656:=by decide
  rw [e];omega
 have hold:(Builtin.firstCells sz n (.slice a n cap)).run P (w.drewN (k+1))=.ok xs.toArray (w.drewN (k+1)):=by
  have hrs:=Qao (hH.at i hi);cases a with
  | none =>
   have hn0:=hrs.2.1 rfl;subst hn0;have:xs=[]:=List.eq_nil_of_length_eq_zero (by simpa using hxl);subst this;simp [Builtin.firstCells]
  | some ad=>exact run_firstCells_some (P:=P) _ sz n ad n cap xs hxl (fun j v hv=>(hrs.2.2 ad rfl).heap (w':=w.drewN (k+1)) rfl j v hv)
 have hge:=grownCap_ge (w.drewN k) (n+m) cap E;have hcm':=grownCap_le_maxLen (w.drewN k) (n+m) cap E (by simp only [maxLen];omega);refine ⟨some ⟨w.heap.size,0,none⟩,grownCap (w.drewN k) (n+m) cap E,w.alloc (.cells (xs.toArray++news.toArray++Builtin.zeroCells z.cells (grownCap (w.drewN k) (n+m) cap E - (n+m))) E),k+1,?_,?_,fun h=>absurd h hroom⟩
 ·
  have hz2':¬ (9223372036854775807 < ((n:Int)+(m:Int))):=by omega
  have hz3':¬ (281474976710656 < Builtin.nextslicecap (n+m) cap * ti.bytes):=by
   have e:(2:Nat) ^ 48=281474976710656:=by decide
   rw [e] at hfits;omega
  have hf2:=hfirst (w.drewN (k+1)) rfl;have hra:=fun n w=>Qh3 (P:=P) n w;simp [Builtin.append_,run_underlying hu,hso,hund,hlen,hroom,hti,hz2',hz3',hra,hold,hf2,hzv,Qd2,Question.forced,grownCap];rw [Qn4]
  congr 3
  apply Array.ext';simp
 have hcells:(xs.toArray++news.toArray++Builtin.zeroCells z.cells (grownCap (w.drewN k) (n+m) cap E - (n+m)))=((xs++news)++(Builtin.zeroCells z.cells (grownCap (w.drewN k) (n+m) cap E - (n+m))).toList).toArray:=by
  apply Array.ext';simp
 rw [hcells];have hzc:z.cells.size=sz:=by rw [hz1];exact hzs
 refine hH.set i hi ⟨rfl,rfl,rfl,by simp,fun k hk _=>RowKit.Below.heap_alloc _ _ _ hk⟩ ⟨?_,hge,hcm',.inr ⟨w.heap.size,_,(0,0),rfl,heap_alloc_new w _,?_,Qzm _⟩⟩ ?_
 ·
  rw [List.length_append,hxl,hnl,Nat.add_mul]
 ·
  rw [List.length_append,List.length_append,hxl,hnl,Array.length_toList,size_zeroCells,hzc,<- Nat.add_mul,<- Nat.add_mul]
  congr 1;omega
 intro b hb;simp [Res.row] at hb;subst hb;exact ⟨.inr (Nat.le_refl _),by simp⟩
def AppK (P:Program) (ts:Array TypeId) (ty:TypeId) (vs:List Value) (w:World) (C:Value->World->Prop):Prop :=
 ∀ n,∃ v w' m,(Builtin.append_ ts ty vs.toArray).run P (w.drewN n)=.ok v (w'.drewN m)/\C v w'
theorem Qai {az:Array Operand}{ts:Array TypeId} (h:argL e az.toList fun vs=>AppK P ts ty vs w fun v w'=>R (e.put d v) w' K) :
  MemK P N ⟨d,.call { callee:=.builtin .append,args:=az,argTypes:=ts },ty,pos,af,gd⟩ e w R K :=
 Qd1 fun a n ha=>by
  obtain ⟨v,w',m,hr,hC⟩:=Qc0 (K:=fun vs=>AppK P ts ty vs w fun v w'=>R (e.put d v) w' K) ha h n;refine ⟨v,w',m,?_,hC⟩;simp only [execOp,resolve,invoke,builtin,Qfe,Sem.run_bind,Sem.run_pure,Result.andThen_ok,hr]
theorem Qb7 {w0:World}{B:List Nat}{G:List Res} (hH:Heap w0 B w G) (i:Nat) {T T' E ty:TypeId}{sz bytes:Nat}{zs:Array Value}{a:Option Addr}{n cap m:Nat}{xs news:List Value}{x:Value}{C:Value->World->Prop}
  (hi:G[i]? = some (Res.row E sz a n cap xs)) (hu:P.underlying T=some (.slice E)) (hz:(P.info? E).map (fun i=>(i.zero.map Value.cells,i.size,i.bytes))=some (some zs,sz,bytes)) (hzs:zs.size=sz)
  (hs:Src P w x T' sz m news) (h1:∀ u∈news,u.oneCell'=true) (hb:cap < n+m->(n+m) * bytes<=140737488355328/\n+m<=9223372036854775807)
  (h:∀ a' cap' w',(n+m<=cap->a'=a/\cap'=cap)->Heap w0 B w' (G.set i (Res.row E sz a' (n+m) cap' (xs++news)))->C (.slice a' (n+m) cap') w'):AppK P #[T,T'] ty [.slice a n cap,x] w C:=by
 intro k;obtain ⟨a',cap',w',k',hr,hH',hc⟩:=Qpt (P:=P) (ty:=ty) hH i hi hu hz hzs hs h1 hb k;exact ⟨_,w',k',hr,h a' cap' w' hc hH'⟩
theorem QKw (l:List UInt8) (m:Nat):((⟨l.toArray⟩:ByteArray).data.map fun b=>Value.int .u8 b.toNat)++Array.replicate m (Value.int .u8 0)=((Qan l)++List.replicate m (Value.int .u8 0)).toArray:=by
 apply Array.ext';simp [Qan]
theorem QHk {E:TypeId}{cap:Nat} (w:World) (cs:Array Value) (hcs:cs.size=cap):(markStringish ⟨w.heap.size,0,none⟩).run P (w.alloc (.cells cs E))=.ok () ({ w with heap:=w.heap.push (.cells cs E (cap,cap+1)) }:World):=by
 have h1:(w.alloc (.cells cs E)).shape? w.heap.size=some (E,cap):=by
  have:=heap_alloc_new w (.cells cs E);simp only [World.shape?,this,hcs]
 have h2:(w.alloc (.cells cs E)).freeze { block:=w.heap.size,off:=cap } 1=({ w with heap:=w.heap.push (.cells cs E (cap,cap+1)) }:World):=by
  have e:(w.heap.push (.cells cs E)).modify w.heap.size (fun
   | .cells c elem (lo,hi)=>.cells c elem (if lo == hi then (cap,cap+1) else (min lo cap,max hi (cap+1)))
   | o=>o)=w.heap.push (.cells cs E (cap,cap+1)):=by
   apply Array.ext_getElem?;intro j;rw [Array.getElem?_modify];simp only [Array.getElem?_push];by_cases hj:w.heap.size=j
   ·
    subst hj;simp
   rw [if_neg hj,if_neg (Ne.symm hj),if_neg (Ne.symm hj)]
  unfold World.freeze;rw [if_neg (by omega)];exact congrArg (fun h=>({ w with heap:=h }:World)) e
 have h3:(shape w.heap.size).run P (w.alloc (.cells cs E))=.ok (some (E,cap)) (w.alloc (.cells cs E)):=by
  simp only [shape,Sem.run,h1]
 simp only [markStringish,Sem.run_bind,h3,Result.andThen_ok];simp only [freeze,Sem.run,h2]
theorem Qw9 {T E:TypeId}{l:List UInt8}{S:TypeId} (hS:P.underlying S=some .string) (hT:P.underlying T=some (.slice E)) (hE:P.underlying E=some (.int .u8)) (hl:l.length<=9223372036854775807) (k:Nat) :
  ∃ cap,l.length<=cap/\cap<=maxLen/\(convert S T (Str l)).run P (w.drewN k)=.ok (.slice (some ⟨w.heap.size,0,none⟩) l.length cap) (({ w with heap:=w.heap.push (.cells ((Qan l)++List.replicate (cap - l.length) (Value.int .u8 0)).toArray E (cap,cap+1)) }:World).drewN (k+1)):=by
 have hge:=grownCap_ge (w.drewN k) l.length 0 E;have hle:=grownCap_le_maxLen (w.drewN k) l.length 0 E (by simp only [maxLen];exact hl);refine ⟨grownCap (w.drewN k) l.length 0 E,hge,hle,?_⟩
 have hchoose:(choose (.appendCap (⟨l.toArray⟩:ByteArray).size 0 E)).run P (w.drewN k)=.ok (grownCap (w.drewN k) l.length 0 E) (w.drewN (k+1)):=by
  have:(⟨l.toArray⟩:ByteArray).size=l.length:=rfl;rw [this];simp [grownCap,Question.forced]
 generalize grownCap (w.drewN k) l.length 0 E=cap at *
 have hsize:((Qan l)++List.replicate (cap - l.length) (Value.int .u8 0)).toArray.size=cap:=by
  simp [Qan];omega
 simp only [convert,Sem.run_bind,run_underlying hS,run_underlying hT,run_underlying hE,Result.andThen_ok,Conv.stringToBytes,hchoose];have e:(⟨l.toArray⟩:ByteArray).size=l.length:=rfl;rw [e,QKw];have:=QHk (P:=P) (E:=E) (w.drewN (k+1)) _ hsize;simp only [Qd2,Result.andThen_ok,this,Sem.run_pure];rfl
def QDx (P:Program) (S T:TypeId) (x:Value) (w:World) (C:Value->World->Prop):Prop :=
 ∀ n,∃ v w' m,(convert S T x).run P (w.drewN n)=.ok v (w'.drewN m)/\C v w'
theorem Qqm {S T:TypeId}{x:Operand} (h:arg e x fun v=>QDx P S T v w fun v w'=>R (e.put d v) w' K) :
  MemK P N ⟨d,.convert S T x,ty,pos,af,gd⟩ e w R K :=
 Qd1 fun a n ha=>by
  obtain ⟨v,w',m,hr,hC⟩:=Qa2 (K:=fun v=>QDx P S T v w fun v w'=>R (e.put d v) w' K) ha h n;exact ⟨v,w',m,by simp only [execOp,Sem.run_bind,hr,Result.andThen_ok,Sem.run_pure],hC⟩
theorem Qqn {w0:World}{B:List Nat}{G:List Res} (hH:Heap w0 B w G) {S T E:TypeId}{l:List UInt8}{C:Value->World->Prop} (hS:P.underlying S=some .string) (hT:P.underlying T=some (.slice E)) (hE:P.underlying E=some (.int .u8)) (hl:l.length<=9223372036854775807)
  (h:∀ g cap w',Heap w0 B w' (Res.row E 1 (some ⟨g,0,none⟩) l.length cap (Qan l)::G)->C (.slice (some ⟨g,0,none⟩) l.length cap) w'):QDx P S T (Str l) w C:=by
 intro k;obtain ⟨cap,h1,h2,hr⟩:=Qw9 (P:=P) (w:=w) hS hT hE hl k;refine ⟨_,_,_,hr,h _ _ _ ?_⟩;refine hH.call0 (G':=[_]) ⟨⟨rfl,rfl,rfl,by simp,fun j hj _=>?_⟩,?_,?_,by simp⟩
 ·
  show (w.heap.push _)[j]? = _
  rw [Array.getElem?_push,if_neg (by omega)]
 ·
  intro r hr;simp at hr;subst hr;refine ⟨by simp [Qan],h1,h2,.inr ⟨w.heap.size,List.replicate (cap - l.length) (Value.int .u8 0),(cap,cap+1),rfl,?_,by simp [Qan];omega,fun j hj=>by simp at hj ⊢;omega⟩⟩
  show (w.heap.push _)[w.heap.size]? = _
  simp
 intro r hr b hb;simp at hr;subst hr;simp [Res.row] at hb;subst hb;exact ⟨.inr (Nat.le_refl _),by simp⟩
theorem Qiz (l:List UInt8):∀ u∈Qan l,u.oneCell'=true:=by
 intro u hu;obtain ⟨b,_,rfl⟩:=List.mem_map.1 hu;rfl
theorem Qr6 (l:List Int):∀ u∈Qap l,u.oneCell'=true:=by
 intro u hu;obtain ⟨b,_,rfl⟩:=List.mem_map.1 hu;rfl
theorem Qdt (l m:List UInt8):Qan (l++m)=Qan l++Qan m:=by simp [Qan]
theorem Qf2 (l m:List Int):Qap (l++m)=Qap l++Qap m:=by simp [Qap]
theorem Qr7 {w0:World}{B:List Nat}{G:List Res} (hH:Heap w0 B w G) (i:Nat) {T E ty:TypeId}{bytes:Nat}{z:Value}{a:Option Addr}{n cap:Nat}{xs:List Value}{x:Value}{C:Value->World->Prop}
  (hi:G[i]? = some (Res.row E 1 a n cap xs)) (hu:P.underlying T=some (.slice E)) (hz:(P.info? E).map (fun i=>(i.zero.map Value.cells,i.size,i.bytes))=some (some #[z],1,bytes))
  (hx:x.oneCell'=true) (hb:cap < n+1->(n+1) * bytes<=140737488355328/\n+1<=9223372036854775807)
  (h:∀ a' cap' w',(n+1<=cap->a'=a/\cap'=cap)->Heap w0 B w' (G.set i (Res.row E 1 a' (n+1) cap' (xs++[x])))->C (.slice a' (n+1) cap') w') :
  AppK P #[T,T] ty [.slice a n cap,.slice (some ⟨w.heap.size,0,none⟩) 1 1] (w.alloc (.cells [x].toArray E)) C:=by
 have h1:=hH.row E (n:=1) (cap:=1) (sz:=1) [x] [] (by simp) (by simp) (by omega) (by omega);simp only [List.append_nil] at h1;refine Qb7 h1 (i+1) (sz:=1) (m:=1) (news:=[x]) (by simpa using hi) hu hz rfl ⟨rfl,Qao (h1.at 0 rfl),E,hu⟩ (by simpa using hx) hb fun a' cap' w' hc hH'=>h a' cap' w' hc ?_;simp only [List.set_cons_succ] at hH';exact hH'.sub (List.sublist_cons_self _ _)
theorem Qzn {w0:World}{B:List Nat}{G:List Res} (hH:Heap w0 B w G) (i:Nat) {T T' E ty:TypeId}{bytes:Nat}{z:Value}{a:Option Addr}{cap:Nat}{o t:List UInt8}{C:Value->World->Prop}
  (hi:G[i]? = some (Res.row E 1 a o.length cap (Qan o))) (hu:P.underlying T=some (.slice E)) (hz:(P.info? E).map (fun i=>(i.zero.map Value.cells,i.size,i.bytes))=some (some #[z],1,bytes)) (hS:P.underlying T'=some .string)
  (hb:cap < (o++t).length->(o++t).length * bytes<=140737488355328/\(o++t).length<=9223372036854775807)
  (h:∀ a' cap' w',((o++t).length<=cap->a'=a/\cap'=cap)->Heap w0 B w' (G.set i (Res.row E 1 a' (o++t).length cap' (Qan (o++t))))->C (.slice a' (o++t).length cap') w') :
  AppK P #[T,T'] ty [.slice a o.length cap,Str t] w C:=by
 have e:o.length+t.length=(o++t).length:=by simp
 refine Qb7 hH i (sz:=1) (m:=t.length) (news:=Qan t) hi hu hz rfl ⟨by simp [toL],rfl,by simp [toL],hS⟩ (Qiz t) (by rw [e];exact hb) fun a' cap' w' hc hH'=>?_;rw [e] at hc hH' ⊢;exact h a' cap' w' hc (by rw [Qdt];exact hH')
theorem Qgu {w0:World}{B:List Nat}{G:List Res} (hH:Heap w0 B w G) (i:Nat) {T E ty:TypeId}{bytes:Nat}{z:Value}{a:Option Addr}{cap:Nat}{o:List UInt8} (b:UInt8) {n:Int}{C:Value->World->Prop}
  (hi:G[i]? = some (Res.row E 1 a o.length cap (Qan o))) (hu:P.underlying T=some (.slice E)) (hz:(P.info? E).map (fun i=>(i.zero.map Value.cells,i.size,i.bytes))=some (some #[z],1,bytes)) (hn:n=b.toNat)
  (hb:cap < (o++[b]).length->(o++[b]).length * bytes<=140737488355328/\(o++[b]).length<=9223372036854775807)
  (h:∀ a' cap' w',((o++[b]).length<=cap->a'=a/\cap'=cap)->Heap w0 B w' (G.set i (Res.row E 1 a' (o++[b]).length cap' (Qan (o++[b]))))->C (.slice a' (o++[b]).length cap') w') :
  AppK P #[T,T] ty [.slice a o.length cap,.slice (some ⟨w.heap.size,0,none⟩) 1 1] (w.alloc (.cells [Value.int .u8 n].toArray E)) C:=by
 subst hn;have e:o.length+1=(o++[b]).length:=by simp
 refine Qr7 hH i hi hu hz rfl (by rw [e];exact hb) fun a' cap' w' hc hH'=>?_;rw [e] at hc hH' ⊢;exact h a' cap' w' hc (by rw [Qdt];exact hH')
theorem Qf0 {w0:World}{B:List Nat}{G:List Res} (hH:Heap w0 B w G) (i:Nat) {T E ty:TypeId}{bytes:Nat}{z:Value}{a:Option Addr}{cap:Nat}{o:List Int}{n:Int}{C:Value->World->Prop}
  (hi:G[i]? = some (Res.row E 1 a o.length cap (Qap o))) (hu:P.underlying T=some (.slice E)) (hz:(P.info? E).map (fun i=>(i.zero.map Value.cells,i.size,i.bytes))=some (some #[z],1,bytes))
  (hb:cap < (o++[n]).length->(o++[n]).length * bytes<=140737488355328/\(o++[n]).length<=9223372036854775807)
  (h:∀ a' cap' w',((o++[n]).length<=cap->a'=a/\cap'=cap)->Heap w0 B w' (G.set i (Res.row E 1 a' (o++[n]).length cap' (Qap (o++[n]))))->C (.slice a' (o++[n]).length cap') w') :
  AppK P #[T,T] ty [.slice a o.length cap,.slice (some ⟨w.heap.size,0,none⟩) 1 1] (w.alloc (.cells [Value.int .i64 n].toArray E)) C:=by
 have e:o.length+1=(o++[n]).length:=by simp
 refine Qr7 hH i hi hu hz rfl (by rw [e];exact hb) fun a' cap' w' hc hH'=>?_;rw [e] at hc hH' ⊢;exact h a' cap' w' hc (by rw [Qf2];exact hH')
theorem Qch {w0:World}{B:List Nat}{G:List Res} (hH:Heap w0 B w G) (i:Nat) {T E ty:TypeId}{bytes:Nat}{z:Value}{a b:Option Addr}{cap m c:Nat}{o t:List Int}{C:Value->World->Prop}
  (hi:G[i]? = some (Res.row E 1 a o.length cap (Qap o))) (hu:P.underlying T=some (.slice E)) (hz:(P.info? E).map (fun i=>(i.zero.map Value.cells,i.size,i.bytes))=some (some #[z],1,bytes)) (hm:m=t.length) (ht:RS w b t.length 1 (Qap t))
  (hb:cap < (o++t).length->(o++t).length * bytes<=140737488355328/\(o++t).length<=9223372036854775807)
  (h:∀ a' cap' w',((o++t).length<=cap->a'=a/\cap'=cap)->Heap w0 B w' (G.set i (Res.row E 1 a' (o++t).length cap' (Qap (o++t))))->C (.slice a' (o++t).length cap') w') :
  AppK P #[T,T] ty [.slice a o.length cap,.slice b m c] w C:=by
 subst hm;have e:o.length+t.length=(o++t).length:=by simp
 refine Qb7 hH i (sz:=1) (m:=t.length) (news:=Qap t) hi hu hz rfl ⟨rfl,ht,E,hu⟩ (Qr6 t) (by rw [e];exact hb) fun a' cap' w' hc hH'=>?_;rw [e] at hc hH' ⊢;exact h a' cap' w' hc (by rw [Qf2];exact hH')
theorem QBc {w0:World}{B:List Nat}{G:List Res} (hH:Heap w0 B w G) (i:Nat) {T E ty:TypeId}{bytes:Nat}{z:Value}{a b:Option Addr}{cap m c:Nat}{o t:List UInt8}{C:Value->World->Prop}
  (hi:G[i]? = some (Res.row E 1 a o.length cap (Qan o))) (hu:P.underlying T=some (.slice E)) (hz:(P.info? E).map (fun i=>(i.zero.map Value.cells,i.size,i.bytes))=some (some #[z],1,bytes)) (hm:m=t.length) (ht:RS w b t.length 1 (Qan t))
  (hb:cap < (o++t).length->(o++t).length * bytes<=140737488355328/\(o++t).length<=9223372036854775807)
  (h:∀ a' cap' w',((o++t).length<=cap->a'=a/\cap'=cap)->Heap w0 B w' (G.set i (Res.row E 1 a' (o++t).length cap' (Qan (o++t))))->C (.slice a' (o++t).length cap') w') :
  AppK P #[T,T] ty [.slice a o.length cap,.slice b m c] w C:=by
 subst hm;have e:o.length+t.length=(o++t).length:=by simp
 refine Qb7 hH i (sz:=1) (m:=t.length) (news:=Qan t) hi hu hz rfl ⟨rfl,ht,E,hu⟩ (Qiz t) (by rw [e];exact hb) fun a' cap' w' hc hH'=>?_;rw [e] at hc hH' ⊢;exact h a' cap' w' hc (by rw [Qdt];exact hH')
theorem QDy (a:Addr) (hs:a.spot=none) (k j:Nat):(a.add k).add j=a.add (k+j):=by
 obtain ⟨b,o,s⟩:=a;simp only at hs;subst hs;unfold Addr.add;by_cases hk:k=0
 ·
  subst hk;simp
 by_cases hj:j=0
 ·
  subst hj;simp [hk]
 simp [hk,hj,Nat.add_assoc]
theorem RS.drop {ad:Addr}{n sz:Nat}{xs:List Value} (h:RS w (some ad) n sz xs) (hs:ad.spot=none) (k:Nat) (hk:k<=n):RS w (some (ad.add (k * sz))) (n - k) sz (xs.drop (k * sz)):=by
 refine ⟨by rw [List.length_drop,h.1,Nat.sub_mul],by simp,fun a' ha=>?_⟩;cases ha;intro j u hu;rw [List.getElem?_drop] at hu;rw [QDy ad hs];exact h.2.2 ad rfl _ u hu
theorem RS.take {a:Option Addr}{n sz:Nat}{xs:List Value} (h:RS w a n sz xs) (m:Nat) (hm:m<=n):RS w a m sz (xs.take (m * sz)):=by
 refine ⟨by rw [List.length_take,h.1];exact Nat.min_eq_left (Nat.mul_le_mul_right _ hm),fun ha=>by have:=h.2.1 ha;omega,fun ad ha j u hu=>?_⟩;rw [List.getElem?_take] at hu;split at hu
 ·
  exact h.2.2 ad ha j u hu
 cases hu
theorem Qaw {T sz g n cap k:Nat}{xs:List Value}{v:Value} (h:(Res.row T sz (some ⟨g,0,none⟩) n cap xs).holds w) (hv:xs[k]? = some v):w.cell? ⟨g,k,none⟩=some v:=by
 have:=(Qao h).2.2 _ rfl k v hv;have hadd:(⟨g,0,none⟩:Addr).add k=⟨g,k,none⟩:=by unfold Addr.add;split <;> simp_all
 rwa [hadd] at this
theorem Qdu {T sz n cap:Nat}{a:Option Addr}{xs:List Value} (h:(Res.row T sz a n cap xs).holds w) (hn:0 < n):∃ g,a=some ⟨g,0,none⟩:=by
 obtain ⟨h1,h2,h3,h4⟩:=h;rcases h4 with h4 | ⟨g,rest,fz,h,_⟩
 ·
  omega
 exact ⟨g,h⟩
theorem Heap.readsBytes {w0:World}{B:List Nat}{G:List Res} (hH:Heap w0 B w G) (i:Nat) {E cap:Nat}{a:Option Addr}{o:List UInt8} (hi:G[i]? = some (Res.row E 1 a o.length cap (Qan o))):Qhp w a o.length o :=
 Qgc (Qao (hH.at i hi))
end
def Qa6 (ops:List Oper) (plan:List (Nat×Bool)):List (Bool×Oper):=plan.filterMap fun p=>(ops[p.1]?).map fun o=>(p.2,o)
def Qn5 (ops:Array Oper):List (Nat×Bool)->Array Bool->Bool
 | [],listed=>(Region.ready .any ops listed).isEmpty
 | (i,t)::plan,listed =>
  (decide (i < ops.size)) && (match t with
   | true=>Region.free .any ops listed i && (Region.ready .any ops listed).contains i
   | false=>Region.ready .any ops listed == [i]) && Qn5 ops plan (listed.setIfInBounds i true)
def pw (b:Bool) (w0 w:World):World:=match b with | true=>w0 | false=>w
def MemH (P:Program) (N:Nat) (o:Oper) (e:Env) (w0 w:World) (R:Env->World->(Env->World->Prop)->Prop) (K:Env->World->Prop):Prop :=
 Mem P N o e w fun v w'=>Ext w0 w'/\R (e.put o.dst v) w' K
def Qew (P:Program) (N:Nat) (p b:Bool) (o:Oper) (e:Env) (w0 w:World) (R:Env->World->(Env->World->Prop)->Prop) (K:Env->World->Prop):Prop :=
 match p,b with
 | true,b=>vcOp P o.op e (pw b w0 w) fun v=>R (e.put o.dst v) w K
 | false,false=>MemH P N o e w0 w R K
 | false,true=>False
def vcH (P:Program) (N:Nat) (ops:List Oper) (w0:World):List (Bool×Oper)->Env->World->(Env->World->Prop)->Prop
 | [],e,w,K=>K e w
 | (b,o)::rest,e,w,K=>Qiy ops o.guard e
   (fun e=>Qew P N (Qfo P o.op) b o e w0 w (vcH P N ops w0 rest) K)
   (fun e=>vcH P N ops w0 rest (e.put o.dst undef) w K)
theorem Qt4 {P:Program}{N:Nat}{ops:List Oper}{w0:World}{Q:Exit->Act->World->Prop}{K:Env->World->Prop} (hN:ops.all (Qdp N)=true) (hsel:Region.noSelect ops.toArray=true)
  (hQ:∀ c a w (d:Option Tmp) v,Q (.panic c) (a.put d v) w->Q (.panic c) a w)
  (hK:∀ e a w n,Fits N e a->K e w->Q .normal a (w.drewN n)):∀ (plan:List (Nat×Bool)) (fuel:Nat) (listed:Array Bool) (e:Env) (a:Act) (w:World) (n:Nat),
   plan.length<=fuel->Qn5 ops.toArray plan listed=true->Fits N e a->Ext w0 w->vcH P N ops w0 (Qa6 ops plan) e w K ->
   wpAnyH P .any ops.toArray Q (fun w'=>Ext w0 w') fuel listed a (w.drewN n):=by
 intro plan
 induction plan with
 | nil =>
  intro fuel listed e a w n _ hp ha _ h;simp only [Qn5,List.isEmpty_iff] at hp;exact wpAnyH_done hp (hK e a w n ha h) fuel
 | cons p plan ih =>
  obtain ⟨i,t⟩:=p;intro fuel listed e a w n hf hp ha hx h;simp only [Qn5,Bool.and_eq_true,decide_eq_true_eq] at hp;obtain ⟨⟨hi,hstep⟩,hp⟩:=hp;have hi':i < ops.length:=by simpa using hi
  obtain ⟨o,ho⟩:∃ o,ops[i]? = some o:=⟨ops[i],List.getElem?_eq_getElem hi'⟩;have hoa:ops.toArray[i]? = some o:=by simpa using ho
  have hod:Qdp N o=true:=by
   rw [List.all_eq_true] at hN;exact hN o (List.mem_of_getElem? ho)
  have hpl:Qa6 ops ((i,t)::plan)=(t,o)::Qa6 ops plan:=by simp [Qa6,ho]
  rw [hpl] at h;cases fuel with
  | zero=>simp at hf
  | succ fuel =>
  have hf':plan.length<=fuel:=by simpa using hf
  rcases Qdr ha h with ⟨e',ha',h',hw⟩ | ⟨e',ha',h',hw⟩
  ·
   cases t with
   | true =>
    simp only [Bool.and_eq_true] at hstep;have h':Qew P N (Qfo P o.op) true o e' w0 w (vcH P N ops w0 (Qa6 ops plan)) K:=h';cases hpo:Qfo P o.op with
    | true =>
     rw [hpo] at h';simp only [Qew,pw] at h';obtain ⟨v,hv,hr⟩:=Qd0 ha' h';refine wpAnyH_take hoa hsel hstep.1 hstep.2 (fun c a w=>hQ c a w o.dst v) (.inl ⟨hw,fun w' hw'=>hr w' hw'⟩) (hx.trans (Ext.drewN w n)) ?_;exact ih fuel _ _ _ w n hf' hp (ha'.put' hod v) hx hv
    | false=>rw [hpo] at h';exact h'.elim
   | false =>
    simp only [beq_iff_eq] at hstep;refine wpAnyH_all hstep (by simp) ?_;intro j hj;simp only [List.mem_singleton] at hj;subst hj;unfold wpOp;simp only [hoa,hw,if_true];refine .inl ?_;have h':Qew P N (Qfo P o.op) false o e' w0 w (vcH P N ops w0 (Qa6 ops plan)) K:=h';cases hpo:Qfo P o.op with
    | true =>
     rw [hpo] at h';simp only [Qew,pw] at h';obtain ⟨v,hv,hr⟩:=Qd0 ha' h';unfold Oper.wp;rw [hr (w.drewN n) (Ext.drewN w n)];exact ⟨hx.trans (Ext.drewN w n),ih fuel _ _ _ w n hf' hp (ha'.put' hod v) hx hv⟩
    | false =>
     rw [hpo] at h';have h':MemH P N o e' w0 w (vcH P N ops w0 (Qa6 ops plan)) K:=h';exact h' a n _ Q ha' fun v w' m hv=>⟨hv.1.trans (Ext.drewN w' m),ih fuel _ _ _ w' m hf' hp (ha'.put' hod v) hv.1 hv.2⟩
  have hnext:wpAnyH P .any ops.toArray Q (fun w'=>Ext w0 w') fuel (listed.setIfInBounds i true) (a.put o.dst undef) (w.drewN n) :=
   ih fuel _ _ _ w n hf' hp (ha'.put' hod undef) hx h'
  cases t with
  | true =>
   simp only [Bool.and_eq_true] at hstep;exact wpAnyH_take hoa hsel hstep.1 hstep.2 (fun c a w=>hQ c a w o.dst undef) (.inr ⟨hw,rfl⟩) (hx.trans (Ext.drewN w n)) hnext
  | false =>
   simp only [beq_iff_eq] at hstep;refine wpAnyH_all hstep (by simp) ?_;intro j hj;simp only [List.mem_singleton] at hj;subst hj;unfold wpOp;simp only [hoa,hw,Bool.false_eq_true,if_false];exact ⟨hx.trans (Ext.drewN w n),hnext⟩
theorem Qjm {C:Ctx}{k:List It}{c:List PanicEntry}{a:Act}{w:World} (d:Option Tmp) (v:Value) (h:cont C k (.panic c) (a.put d v) w):cont C k (.panic c) a w:=by
 induction k with
 | nil =>
  have h':bodyPost C.P C.fn (Qtn C.F) (.panic c) (a.put d v) w:=h;obtain ⟨h1,h2⟩:=h';have h3:a.defers=[]:=by cases d <;> simpa [Act.put] using h1
  exact (⟨h3,h2⟩:bodyPost C.P C.fn (Qtn C.F) (.panic c) a w)
 | cons x k ih=>cases x <;> exact ih h
theorem QBd {P:Program}{fn:Func}{F:Value->World->Prop}{N:Nat}{k:List It}{e:Env}{w:World} (w0:World) (hx:Ext w0 w) (ks:List Nat) (plan:List (Nat×Bool)) {id:Nat}{ops:List Oper}{l:List (Bool×Oper)}
  (hm:P.follows .mixedOrders=true) (hB:(Qn5 ops.toArray plan (Array.replicate ops.toArray.size false) && Region.noSelect ops.toArray && decide (plan.length<=ops.length))=true) (hN:ops.all (Qdp N)=true) (hl:Qa6 ops plan=l)
  (h:∀ K:Env->World->Prop,(∀ e w,VC ⟨P,fn,F,N⟩ k e w->K e w)->vcH P N ops w0 l e w (selC ks K)):VC ⟨P,fn,F,N⟩ (.code (.region id ops.toArray true)::k) e w:=by
 intro a n ha;simp only [Bool.and_eq_true,decide_eq_true_eq] at hB;obtain ⟨⟨hB1,hB2⟩,hB3⟩:=hB;refine wp_region_held (S:=fun w'=>Ext w0 w') hm ?_;subst hl;refine Qt4 (K:=selC ks (VC ⟨P,fn,F,N⟩ k)) hN hB2 (fun c a w d v hq=>Qjm d v hq) (fun e a w n ha hv=>?_) plan _ _ e a w (n+1) (by simpa using hB3) hB1 ha hx (h _ fun _ _ hv=>hv);exact ((Qc7 ks e _).1 hv) a n (ha.sel ks)
theorem Upd.ext {w w':World} (h:Upd [] w w'):Ext w w':=.of_keep fun k hk=>h.block k hk (by simp)
theorem Upd.extH {B:List Nat}{w w':World} (h:Upd B w w'):Ext (holes B w) w':=.holes fun k hk hB=>h.block k hk hB
theorem Heap.ext {w w':World}{G:List Res} (h:Heap w [] w' G):Ext w w':=h.upd.ext
theorem Ext.alloc (w:World) (o:Obj):Ext w (w.alloc o):=.of_keep fun k hk=>RowKit.Below.heap_alloc w o k hk
theorem QDz {C:Ctx}{k:List It}{l:Nat}{a:Act}{w:World} (h:cont C k (.goto l) a w):False:=by
 induction k with
 | nil=>exact h
 | cons x k ih=>cases x <;> exact ih h
theorem Qr8 {C:Ctx}{k:List It}{e:Env}{w:World}{c:Code} (h:VC C (.code c::k) e w):VC C (.code (.scope c)::k) e w:=by
 intro a n ha;have h1:=h a n ha;simp only [cont] at h1 ⊢;refine wp_scope_straight (wp_mono h1 fun ex a w hq=>?_);cases ex with
 | goto l=>exact (QDz hq).elim
 | _=>exact hq
section
variable {P:Program}{N:Nat}{d:Option Tmp}{ty:Nat}{pos:String}{af:Array Edge}{gd:Option (Nat×Bool)}{e:Env}{w:World}{R:Env->World->(Env->World->Prop)->Prop}{K:Env->World->Prop}
def QKx (P:Program) (ts:Array TypeId) (ty:TypeId) (vs:List Value) (w:World) (C:Value->World->Prop):Prop :=
 ∀ n,∃ v w' m,(Builtin.copy_ ts ty vs.toArray).run P (w.drewN n)=.ok v (w'.drewN m)/\C v w'
theorem Qn6 {az:Array Operand}{ts:Array TypeId} (h:argL e az.toList fun vs=>QKx P ts ty vs w fun v w'=>R (e.put d v) w' K) :
  MemK P N ⟨d,.call { callee:=.builtin .copy,args:=az,argTypes:=ts },ty,pos,af,gd⟩ e w R K :=
 Qd1 fun a n ha=>by
  obtain ⟨v,w',m,hr,hC⟩:=Qc0 (K:=fun vs=>QKx P ts ty vs w fun v w'=>R (e.put d v) w' K) ha h n;refine ⟨v,w',m,?_,hC⟩;simp only [execOp,resolve,invoke,builtin,Qfe,Sem.run_bind,Sem.run_pure,Result.andThen_ok,hr]
theorem Qi0 {w0:World}{B:List Nat}{G:List Res} (hH:Heap w0 B w G) (i:Nat) {T T' E ty:TypeId}{sz:Nat}{ad ap:Addr}{n cap m dl c off:Nat}{xs news:List Value}{x:Value}{C:Value->World->Prop}
  (hi:G[i]? = some (Res.row E sz (some ad) n cap xs)) (hu:P.underlying T=some (.slice E)) (hz:P.szo E=some sz) (hp:ap=ad.add off)
  (hs:Src P w x T' sz m news) (h1:∀ u∈news,u.oneCell'=true) (hoff:off+min m dl * sz<=xs.length)
  (h:∀ w',Upd [ad.block] w w'->Heap w0 B w' (G.set i (Res.row E sz (some ad) n cap (xs.take off++news.take (min m dl * sz)++xs.drop (off+min m dl * sz))))->C (.int .i64 (min m dl:Nat)) w') :
  QKx P #[T,T'] ty [.slice (some ap) dl c,x] w C:=by
 intro k;obtain ⟨hxl,hnc,hcm,hcase⟩:=hH.at i hi;rcases hcase with hcase | ⟨g,rest,fz,hg0,hg,hl2,hfz⟩
 ·
  cases hcase.1
 cases hg0;subst hp;have hlt:g < w.heap.size:=(Array.getElem?_eq_some_iff.1 hg).1;obtain ⟨hnl,hlen,_,_⟩:=hs.spec
 have hfirst:(Builtin.firstCells sz (min m dl) x).run P (w.drewN k)=.ok (news.take (min m dl * sz)).toArray (w.drewN k):=by
  cases x with
  | slice a k' c' =>
   obtain ⟨rfl,⟨hr1,hr2,hr3⟩,_⟩:=hs;cases a with
   | none =>
    have hk0:=hr2 rfl;subst hk0;simp [Builtin.firstCells]
   | some ad' =>
    refine run_firstCells_some (P:=P) _ sz (min k' dl) ad' k' c' _ ?_ fun j v hv=>?_
    ·
     rw [List.length_take,hr1];exact Nat.min_eq_left (Nat.mul_le_mul_right _ (Nat.min_le_left _ _))
    rw [List.getElem?_take] at hv;split at hv
    ·
     exact (hr3 ad' rfl).heap (w':=w.drewN k) rfl j v hv
    cases hv
  | string s =>
   obtain ⟨rfl,rfl,rfl,_⟩:=hs;simp only [Builtin.firstCells,Sem.run_pure,Qgs,Nat.mul_one,Qan,toL]
   congr 1
   apply Array.ext';simp [List.map_take]
  | _=>exact hs.elim
 have hadd:(⟨g,0,none⟩:Addr).add off=⟨g,off,none⟩:=by unfold Addr.add;split <;> simp_all
 have hnt:(news.take (min m dl * sz)).length=min m dl * sz:=by
  rw [List.length_take,hnl];exact Nat.min_eq_left (Nat.mul_le_mul_right _ (Nat.min_le_left _ _))
 have hst:=Qd8 (P:=P) g off E fz (news.take (min m dl * sz)) 0 (xs++rest) (w.drewN k) hg (by rw [hl2];exact hfz) (by rw [hnt];simp;omega) (fun u hu=>h1 u (List.mem_of_mem_take hu))
 have hcells:(xs++rest).take (off+0)++news.take (min m dl * sz)++(xs++rest).drop (off+0+(news.take (min m dl * sz)).length)=(xs.take off++news.take (min m dl * sz)++xs.drop (off+min m dl * sz))++rest:=by
  rw [hnt,Nat.add_zero,List.take_append_of_le_length (by omega),List.drop_append_of_le_length (by omega)];simp
 rw [hcells] at hst;have hso:=Qel (P:=P) hz;refine ⟨.int .i64 (min m dl:Nat),Qek w g ((xs.take off++news.take (min m dl * sz)++xs.drop (off+min m dl * sz))++rest) E fz,k,?_,h _ (Qgj _ _ _ _ _) (hH.set i hi (Qgj _ _ _ _ _) ⟨?_,hnc,hcm,.inr ⟨g,rest,fz,rfl,Qhr hlt,?_,hfz⟩⟩ ?_)⟩
 ·
  have hmin:Nat.min m dl=min m dl:=rfl;simp [Builtin.copy_,run_underlying hu,hlen,hso,hmin,hfirst,hadd,hst,Qg9,goInt]
 ·
  rw [List.length_append,List.length_append,hnt,List.length_take,List.length_drop,<- hxl];omega
 ·
  rw [List.length_append,List.length_append,List.length_append,hnt,List.length_take,List.length_drop];rw [List.length_append] at hl2;omega
 intro b hb;exact ⟨.inl hb,by rw [Qgt];simp [Res.row] at hb;omega⟩
end
def extR (w0:World) (R:Env->World->(Env->World->Prop)->Prop):Env->World->(Env->World->Prop)->Prop:=fun e w K=>Ext w0 w/\R e w K
section
variable {P:Program}{N:Nat}{ops:List Oper}{rest:List (Bool×Oper)}{d:Option Tmp}{r t ty:Nat}{op:Op}{pos:String}{af:Array Edge}{e:Env}{w w0:World}{K:Env->World->Prop}
theorem QOo (ks:List Nat):vcH P N ops w0 [] e w (selC ks K)=selK ks e fun e=>K e w:=rfl
theorem QKy {R:Env->World->(Env->World->Prop)->Prop}:extR w0 R e w K=(Ext w0 w/\R e w K):=rfl
theorem pw_t:pw true w0 w=w0:=rfl
theorem pw_f:pw false w0 w=w:=rfl
theorem QOp (x:Operand) (bf:Bool):vcH P N ops w0 ((bf,⟨some r,.move x,ty,pos,af,none⟩)::rest) e w K=arg e x (fun v=>vcH P N ops w0 rest ((r,v)::e) w K):=rfl
theorem QKz (x:Operand) (bf:Bool) (jj:Nat) (bb:Bool):vcH P N ops w0 ((bf,⟨some r,.move x,ty,pos,af,some (jj,bb)⟩)::rest) e w K=Qa9 ops jj bb e (fun e=>arg e x (fun v=>vcH P N ops w0 rest ((r,v)::e) w K)) (fun e=>vcH P N ops w0 rest ((r,undef)::e) w K):=by rw [<- Qav];rfl
theorem QHl (x:Operand) (bf:Bool):vcH P N ops w0 ((bf,⟨some r,.assign x,ty,pos,af,none⟩)::rest) e w K=arg e x (fun v=>vcH P N ops w0 rest ((r,v)::e) w K):=rfl
theorem QOq (c x y:Operand) (bf:Bool):vcH P N ops w0 ((bf,⟨some r,.pick c x y,ty,pos,af,none⟩)::rest) e w K=arg e c fun vc=>Qny vc (arg e x (fun v=>vcH P N ops w0 rest ((r,v)::e) w K)) (arg e y (fun v=>vcH P N ops w0 rest ((r,v)::e) w K)):=rfl
theorem QK0 (c x y:Operand) (bf:Bool) (jj:Nat) (bb:Bool):vcH P N ops w0 ((bf,⟨some r,.pick c x y,ty,pos,af,some (jj,bb)⟩)::rest) e w K=Qa9 ops jj bb e (fun e=>arg e c fun vc=>Qny vc (arg e x (fun v=>vcH P N ops w0 rest ((r,v)::e) w K)) (arg e y (fun v=>vcH P N ops w0 rest ((r,v)::e) w K))) (fun e=>vcH P N ops w0 rest ((r,undef)::e) w K):=by rw [<- Qav];rfl
theorem QK1 (op:BinOp) (T T':TypeId) (x y:Operand) (bf:Bool):vcH P N ops w0 ((bf,⟨some r,.binOp op T x y T',ty,pos,af,none⟩)::rest) e w K=arg e x fun a=>arg e y fun b=>Qby P op T x y a b (pw bf w0 w) (fun v=>vcH P N ops w0 rest ((r,v)::e) w K):=rfl
theorem QHm (op:BinOp) (T T':TypeId) (x y:Operand) (bf:Bool) (jj:Nat) (bb:Bool):vcH P N ops w0 ((bf,⟨some r,.binOp op T x y T',ty,pos,af,some (jj,bb)⟩)::rest) e w K=Qa9 ops jj bb e (fun e=>arg e x fun a=>arg e y fun b=>Qby P op T x y a b (pw bf w0 w) (fun v=>vcH P N ops w0 rest ((r,v)::e) w K)) (fun e=>vcH P N ops w0 rest ((r,undef)::e) w K):=by rw [<- Qav];rfl
theorem QOr (op:UnOp) (T:TypeId) (x:Operand) (bf:Bool):vcH P N ops w0 ((bf,⟨some r,.unOp op T x,ty,pos,af,none⟩)::rest) e w K=arg e x fun a=>vUn op a (fun v=>vcH P N ops w0 rest ((r,v)::e) w K):=rfl
theorem QK2 (op:UnOp) (T:TypeId) (x:Operand) (bf:Bool) (jj:Nat) (bb:Bool):vcH P N ops w0 ((bf,⟨some r,.unOp op T x,ty,pos,af,some (jj,bb)⟩)::rest) e w K=Qa9 ops jj bb e (fun e=>arg e x fun a=>vUn op a (fun v=>vcH P N ops w0 rest ((r,v)::e) w K)) (fun e=>vcH P N ops w0 rest ((r,undef)::e) w K):=by rw [<- Qav];rfl
theorem Qj5 (s d:TypeId) (x:Operand) (bf:Bool):vcH P N ops w0 ((bf,⟨some r,.convert s d x,ty,pos,af,none⟩)::rest) e w K=Qew P N (Qbu P s d) bf ⟨some r,.convert s d x,ty,pos,af,none⟩ e w0 w (vcH P N ops w0 rest) K:=rfl
theorem QD0 (s d:TypeId) (x:Operand) (bf:Bool) (hc:Qbu P s d=true):vcH P N ops w0 ((bf,⟨some r,.convert s d x,ty,pos,af,none⟩)::rest) e w K=arg e x fun a=>Qfd P s d a (pw bf w0 w) (fun v=>vcH P N ops w0 rest ((r,v)::e) w K):=by rw [Qj5,hc];rfl
theorem QBe (s d:TypeId) (x:Operand) (hc:Qbu P s d=false):vcH P N ops w0 ((false,⟨some r,.convert s d x,ty,pos,af,none⟩)::rest) e w K=MemK P N ⟨some r,.convert s d x,ty,pos,af,none⟩ e w (extR w0 (vcH P N ops w0 rest)) K:=by rw [Qj5,hc];rfl
theorem Qn7 (s d:TypeId) (x:Operand) (bf:Bool) (jj:Nat) (bb:Bool):vcH P N ops w0 ((bf,⟨some r,.convert s d x,ty,pos,af,some (jj,bb)⟩)::rest) e w K=Qa9 ops jj bb e (fun e=>Qew P N (Qbu P s d) bf ⟨some r,.convert s d x,ty,pos,af,some (jj,bb)⟩ e w0 w (vcH P N ops w0 rest) K) (fun e=>vcH P N ops w0 rest ((r,undef)::e) w K):=by rw [<- Qav];rfl
theorem QBf (s d:TypeId) (x:Operand) (bf:Bool) (jj:Nat) (bb:Bool) (hc:Qbu P s d=true):vcH P N ops w0 ((bf,⟨some r,.convert s d x,ty,pos,af,some (jj,bb)⟩)::rest) e w K=Qa9 ops jj bb e (fun e=>arg e x fun a=>Qfd P s d a (pw bf w0 w) (fun v=>vcH P N ops w0 rest ((r,v)::e) w K)) (fun e=>vcH P N ops w0 rest ((r,undef)::e) w K):=by rw [Qn7,hc];rfl
theorem QK3 (T:TypeId) (x:Operand) (lo hi:Option Operand) (bf:Bool):vcH P N ops w0 ((bf,⟨some r,.slice T x lo hi none,ty,pos,af,none⟩)::rest) e w K=arg e x fun a=>argO e lo fun l=>argO e hi fun h=>Qcb P T a l h (fun v=>vcH P N ops w0 rest ((r,v)::e) w K):=rfl
theorem Qxa (S:TypeId) (x:Operand) (f:Nat) (bf:Bool):vcH P N ops w0 ((bf,⟨some r,.fieldAddr S x f,ty,pos,af,none⟩)::rest) e w K=arg e x fun a=>Qa1 P S a f (fun v=>vcH P N ops w0 rest ((r,v)::e) w K):=rfl
theorem Qt5 (S:TypeId) (x:Operand) (f:Nat) (bf:Bool) (jj:Nat) (bb:Bool):vcH P N ops w0 ((bf,⟨some r,.fieldAddr S x f,ty,pos,af,some (jj,bb)⟩)::rest) e w K=Qa9 ops jj bb e (fun e=>arg e x fun a=>Qa1 P S a f (fun v=>vcH P N ops w0 rest ((r,v)::e) w K)) (fun e=>vcH P N ops w0 rest ((r,undef)::e) w K):=by rw [<- Qav];rfl
theorem Qxb (T:TypeId) (x i:Operand) (bf:Bool):vcH P N ops w0 ((bf,⟨some r,.indexAddr T x i,ty,pos,af,none⟩)::rest) e w K=arg e x fun a=>arg e i fun n=>Qa5 P T a n (fun v=>vcH P N ops w0 rest ((r,v)::e) w K):=rfl
theorem Qt6 (T:TypeId) (x i:Operand) (bf:Bool) (jj:Nat) (bb:Bool):vcH P N ops w0 ((bf,⟨some r,.indexAddr T x i,ty,pos,af,some (jj,bb)⟩)::rest) e w K=Qa9 ops jj bb e (fun e=>arg e x fun a=>arg e i fun n=>Qa5 P T a n (fun v=>vcH P N ops w0 rest ((r,v)::e) w K)) (fun e=>vcH P N ops w0 rest ((r,undef)::e) w K):=by rw [<- Qav];rfl
theorem QK4 (T:TypeId) (x i:Operand) (bf:Bool):vcH P N ops w0 ((bf,⟨some r,.index T x i,ty,pos,af,none⟩)::rest) e w K=arg e x fun a=>arg e i fun n=>Qee P T a n (fun v=>vcH P N ops w0 rest ((r,v)::e) w K):=rfl
theorem QHn (T:TypeId) (x i:Operand) (bf:Bool) (jj:Nat) (bb:Bool):vcH P N ops w0 ((bf,⟨some r,.index T x i,ty,pos,af,some (jj,bb)⟩)::rest) e w K=Qa9 ops jj bb e (fun e=>arg e x fun a=>arg e i fun n=>Qee P T a n (fun v=>vcH P N ops w0 rest ((r,v)::e) w K)) (fun e=>vcH P N ops w0 rest ((r,undef)::e) w K):=by rw [<- Qav];rfl
theorem QD1 (x:Operand) (i:Nat) (bf:Bool):vcH P N ops w0 ((bf,⟨some r,.extract x i,ty,pos,af,none⟩)::rest) e w K=arg e x fun a=>Qjk a i (fun v=>vcH P N ops w0 rest ((r,v)::e) w K):=rfl
theorem QK5 (T:TypeId) (ps:Array (Nat×Operand)) (bf:Bool):vcH P N ops w0 ((bf,⟨some r,.build T ps,ty,pos,af,none⟩)::rest) e w K=Qhq e ps.toList fun vs=>Qdk P T vs (fun v=>vcH P N ops w0 rest ((r,v)::e) w K):=rfl
theorem QOs (T:TypeId) (x:Operand) (bf:Bool):vcH P N ops w0 ((bf,⟨some r,.load T x,ty,pos,af,none⟩)::rest) e w K=arg e x fun a=>Qb9 P T a (pw bf w0 w) (fun v=>vcH P N ops w0 rest ((r,v)::e) w K):=rfl
theorem QK6 (T:TypeId) (x:Operand) (bf:Bool) (jj:Nat) (bb:Bool):vcH P N ops w0 ((bf,⟨some r,.load T x,ty,pos,af,some (jj,bb)⟩)::rest) e w K=Qa9 ops jj bb e (fun e=>arg e x fun a=>Qb9 P T a (pw bf w0 w) (fun v=>vcH P N ops w0 rest ((r,v)::e) w K)) (fun e=>vcH P N ops w0 rest ((r,undef)::e) w K):=by rw [<- Qav];rfl
theorem QBg (x:Operand) (bf:Bool):vcH P N ops w0 ((bf,⟨some r,.nilCheck x,ty,pos,af,none⟩)::rest) e w K=arg e x fun a=>vNil a (fun v=>vcH P N ops w0 rest ((r,v)::e) w K):=rfl
theorem Qxc (x:Operand) (bf:Bool) (jj:Nat) (bb:Bool):vcH P N ops w0 ((bf,⟨some r,.nilCheck x,ty,pos,af,some (jj,bb)⟩)::rest) e w K=Qa9 ops jj bb e (fun e=>arg e x fun a=>vNil a (fun v=>vcH P N ops w0 rest ((r,v)::e) w K)) (fun e=>vcH P N ops w0 rest ((r,undef)::e) w K):=by rw [<- Qav];rfl
theorem QRn (az:Array Operand) (ts:Array TypeId) (bf:Bool):vcH P N ops w0 ((bf,⟨some r,.call { callee:=.builtin .len,args:=az,argTypes:=ts },ty,pos,af,none⟩)::rest) e w K=argL e az.toList fun vs=>Qtt P ts[0]? vs (fun v=>vcH P N ops w0 rest ((r,v)::e) w K):=rfl
theorem QOt (az:Array Operand) (ts:Array TypeId) (bf:Bool) (jj:Nat) (bb:Bool):vcH P N ops w0 ((bf,⟨some r,.call { callee:=.builtin .len,args:=az,argTypes:=ts },ty,pos,af,some (jj,bb)⟩)::rest) e w K=Qa9 ops jj bb e (fun e=>argL e az.toList fun vs=>Qtt P ts[0]? vs (fun v=>vcH P N ops w0 rest ((r,v)::e) w K)) (fun e=>vcH P N ops w0 rest ((r,undef)::e) w K):=by rw [<- Qav];rfl
theorem QRo (az:Array Operand) (ts:Array TypeId) (bf:Bool):vcH P N ops w0 ((bf,⟨some r,.call { callee:=.builtin .max,args:=az,argTypes:=ts },ty,pos,af,none⟩)::rest) e w K=argL e az.toList fun vs=>vMax vs (fun v=>vcH P N ops w0 rest ((r,v)::e) w K):=rfl
theorem QHo (az:Array Operand) (ts:Array TypeId):vcH P N ops w0 ((false,⟨d,.call { callee:=.builtin .append,args:=az,argTypes:=ts },ty,pos,af,none⟩)::rest) e w K=MemK P N ⟨d,.call { callee:=.builtin .append,args:=az,argTypes:=ts },ty,pos,af,none⟩ e w (extR w0 (vcH P N ops w0 rest)) K:=rfl
theorem QOu (az:Array Operand) (ts:Array TypeId):vcH P N ops w0 ((false,⟨d,.call { callee:=.builtin .copy,args:=az,argTypes:=ts },ty,pos,af,none⟩)::rest) e w K=MemK P N ⟨d,.call { callee:=.builtin .copy,args:=az,argTypes:=ts },ty,pos,af,none⟩ e w (extR w0 (vcH P N ops w0 rest)) K:=rfl
theorem QK7 (x:Operand) (az:Array Operand) (ts:Array TypeId):vcH P N ops w0 ((false,⟨d,.call { callee:=.value x,args:=az,argTypes:=ts },ty,pos,af,none⟩)::rest) e w K=MemK P N ⟨d,.call { callee:=.value x,args:=az,argTypes:=ts },ty,pos,af,none⟩ e w (extR w0 (vcH P N ops w0 rest)) K:=rfl
theorem QHp (x:Operand) (az:Array Operand) (ts:Array TypeId) (jj:Nat) (bb:Bool):vcH P N ops w0 ((false,⟨d,.call { callee:=.value x,args:=az,argTypes:=ts },ty,pos,af,some (jj,bb)⟩)::rest) e w K=Qa9 ops jj bb e (fun e=>MemK P N ⟨d,.call { callee:=.value x,args:=az,argTypes:=ts },ty,pos,af,some (jj,bb)⟩ e w (extR w0 (vcH P N ops w0 rest)) K) (fun e=>vcH P N ops w0 rest (e.put d undef) w K):=by rw [<- Qav];rfl
theorem QK8 (T:TypeId):vcH P N ops w0 ((false,⟨d,.alloc T,ty,pos,af,none⟩)::rest) e w K=MemK P N ⟨d,.alloc T,ty,pos,af,none⟩ e w (extR w0 (vcH P N ops w0 rest)) K:=rfl
theorem Qt7 (T:TypeId) (n:Nat) (ps:Array (Nat×Operand)):vcH P N ops w0 ((false,⟨d,.buildSlice T n ps,ty,pos,af,none⟩)::rest) e w K=MemK P N ⟨d,.buildSlice T n ps,ty,pos,af,none⟩ e w (extR w0 (vcH P N ops w0 rest)) K:=rfl
theorem QK9 (T:TypeId) (x y:Operand):vcH P N ops w0 ((false,⟨d,.store T x y,ty,pos,af,none⟩)::rest) e w K=MemK P N ⟨d,.store T x y,ty,pos,af,none⟩ e w (extR w0 (vcH P N ops w0 rest)) K:=rfl
theorem Qxd (T:TypeId) (x y:Operand):vcH P N ops w0 ((false,⟨d,.makeSlice T x y,ty,pos,af,none⟩)::rest) e w K=MemK P N ⟨d,.makeSlice T x y,ty,pos,af,none⟩ e w (extR w0 (vcH P N ops w0 rest)) K:=rfl
end
theorem tn1 (a b:Nat):((a:Int)+(b:Int)).toNat=a+b:=by omega
theorem tn2 (a:Nat):(a:Int).toNat=a:=by omega
theorem tn3 (a k:Nat):((a:Int)+(no_index (OfNat.ofNat k:Int))).toNat=a+(OfNat.ofNat k:Nat):=Int.toNat_natCast (a+k)
theorem tn5 (a b:Nat):((a:Int) - (b:Int)).toNat=a - b:=by omega
theorem tn4 (a k:Nat):((a:Int) - (no_index (OfNat.ofNat k:Int))).toNat=a - (OfNat.ofNat k:Nat):=tn5 a k
attribute [go_sem] tn1 tn2 tn3 tn4 tn5
attribute [go_sem ↓] QOo QKy pw_t pw_f QOp QKz QHl QOq QK0 QK1 QHm QOr QK2 QD0 QBe QBf QK3 Qxa Qt5 Qxb Qt6 QK4 QHn QD1 QK5 QOs QK6 QBg Qxc QRn QOt QRo QHo QOu QK7 QHp QK8 Qt7 QK9 Qxd
def Qha (ops:Array Oper):List (Nat×Bool)->Array Bool->Option (Array Bool)
 | [],listed=>some listed
 | (i,t)::plan,listed =>
  if (decide (i < ops.size) && (match t with
   | true=>Region.free .any ops listed i && (Region.ready .any ops listed).contains i
   | false=>Region.ready .any ops listed == [i]))=true then Qha ops plan (listed.setIfInBounds i true) else none
theorem QHq {α:Type}{c:Prop} [Decidable c] {a:Option α}{x:α} (h:(if c then a else none)=some x):c/\a=some x:=by
 by_cases hc:c
 ·
  rw [if_pos hc] at h;exact ⟨hc,h⟩
 rw [if_neg hc] at h;cases h
inductive Tree where
 | seq (pre:List (Nat×Bool)):Tree
 | two (pre:List (Nat×Bool)) (i j:Nat) (k k':Tree):Tree
def Qqo (ops:Array Oper):Tree->Nat->Array Bool->Bool
 | .seq pre,fuel,listed=>decide (pre.length<=fuel) && match Qha ops pre listed with
  | some l=>(Region.ready .any ops l).isEmpty
  | none=>false
 | .two pre i j k k',fuel,listed=>decide (pre.length+1<=fuel) && match Qha ops pre listed with
  | some l=>Region.ready .any ops l == [i,j] && decide (i < ops.size) && decide (j < ops.size) && Qqo ops k (fuel - pre.length - 1) (l.setIfInBounds i true) && Qqo ops k' (fuel - pre.length - 1) (l.setIfInBounds j true)
  | none=>false
def vcT (P:Program) (N:Nat) (ops:List Oper) (w0:World):Tree->Env->World->(Env->World->Prop)->Prop
 | .seq pre,e,w,K=>vcH P N ops w0 (Qa6 ops pre) e w K
 | .two pre i j k k',e,w,K=>vcH P N ops w0 (Qa6 ops pre) e w fun e w =>
   vcH P N ops w0 (Qa6 ops [(i,false)]) e w (fun e w=>vcT P N ops w0 k e w K)/\vcH P N ops w0 (Qa6 ops [(j,false)]) e w (fun e w=>vcT P N ops w0 k' e w K)
section
variable {P:Program}{N:Nat}{ops:List Oper}{w0:World}{Q:Exit->Act->World->Prop}
theorem Qhb {K:Env->World->Prop} (hN:ops.all (Qdp N)=true) {i:Nat} (hi:i < ops.length) {R:Act->World->Prop}{e:Env}{a:Act}{w:World}{n:Nat} (ha:Fits N e a) (hx:Ext w0 w)
  (h:vcH P N ops w0 (Qa6 ops [(i,false)]) e w K) (hR:∀ e a w n,Fits N e a->Ext w0 w->K e w->R a (w.drewN n)):wpOp P ops.toArray Q i R a (w.drewN n):=by
 obtain ⟨o,ho⟩:∃ o,ops[i]? = some o:=⟨ops[i],List.getElem?_eq_getElem hi⟩;have hoa:ops.toArray[i]? = some o:=by simpa using ho
 have hod:Qdp N o=true:=by
  rw [List.all_eq_true] at hN;exact hN o (List.mem_of_getElem? ho)
 have hpl:Qa6 ops [(i,false)]=[(false,o)]:=by simp [Qa6,ho]
 rw [hpl] at h;rcases Qdr ha h with ⟨e',ha',h',hw⟩ | ⟨e',ha',h',hw⟩
 ·
  unfold wpOp;simp only [hoa,hw,if_true];refine .inl ?_;have h':Qew P N (Qfo P o.op) false o e' w0 w (vcH P N ops w0 []) K:=h';cases hpo:Qfo P o.op with
  | true =>
   rw [hpo] at h';simp only [Qew,pw] at h';obtain ⟨v,hv,hr⟩:=Qd0 ha' h';unfold Oper.wp;rw [hr (w.drewN n) (Ext.drewN w n)];exact hR _ _ w n (ha'.put' hod v) hx hv
  | false =>
   rw [hpo] at h';have h':MemH P N o e' w0 w (vcH P N ops w0 []) K:=h';exact h' a n _ Q ha' fun v w' m hv=>hR _ _ w' m (ha'.put' hod v) hv.1 hv.2
 unfold wpOp;simp only [hoa,hw,Bool.false_eq_true,if_false];exact hR _ _ w n (ha'.put' hod undef) hx h'
theorem Qky {K:Env->World->Prop} (hN:ops.all (Qdp N)=true) (hsel:Region.noSelect ops.toArray=true)
  (hQ:∀ c a w (d:Option Tmp) v,Q (.panic c) (a.put d v) w->Q (.panic c) a w):∀ (plan:List (Nat×Bool)) (fuel:Nat) (listed l':Array Bool) (e:Env) (a:Act) (w:World) (n:Nat),
   plan.length<=fuel->Qha ops.toArray plan listed=some l'->Fits N e a->Ext w0 w->vcH P N ops w0 (Qa6 ops plan) e w K ->
   (∀ e a w n,Fits N e a->Ext w0 w->K e w->wpAnyH P .any ops.toArray Q (fun w'=>Ext w0 w') (fuel - plan.length) l' a (w.drewN n)) ->
   wpAnyH P .any ops.toArray Q (fun w'=>Ext w0 w') fuel listed a (w.drewN n):=by
 intro plan
 induction plan with
 | nil =>
  intro fuel listed l' e a w n _ hp ha hx h hK;simp only [Qha,Option.some.injEq] at hp;subst hp;exact hK e a w n ha hx h
 | cons p plan ih =>
  obtain ⟨i,t⟩:=p;intro fuel listed l' e a w n hf hp ha hx h hK;simp only [Qha] at hp;obtain ⟨hstep,hp2⟩:=QHq hp;clear hp;simp only [Bool.and_eq_true,decide_eq_true_eq] at hstep;obtain ⟨hi,hstep⟩:=hstep;have hi':i < ops.length:=by simpa using hi
  obtain ⟨o,ho⟩:∃ o,ops[i]? = some o:=⟨ops[i],List.getElem?_eq_getElem hi'⟩;have hoa:ops.toArray[i]? = some o:=by simpa using ho
  have hod:Qdp N o=true:=by
   rw [List.all_eq_true] at hN;exact hN o (List.mem_of_getElem? ho)
  have hpl:Qa6 ops ((i,t)::plan)=(t,o)::Qa6 ops plan:=by simp [Qa6,ho]
  cases fuel with
  | zero=>simp at hf
  | succ fuel =>
  have hf':plan.length<=fuel:=by simpa using hf
  have hK':∀ e a w n,Fits N e a->Ext w0 w->K e w->wpAnyH P .any ops.toArray Q (fun w'=>Ext w0 w') (fuel - plan.length) l' a (w.drewN n):=by
   intro e a w n h1 h2 h3;have:=hK e a w n h1 h2 h3;simpa using this
  cases t with
  | true =>
   rw [hpl] at h;simp only [Bool.and_eq_true] at hstep;rcases Qdr ha h with ⟨e',ha',h',hw⟩ | ⟨e',ha',h',hw⟩
   ·
    have h':Qew P N (Qfo P o.op) true o e' w0 w (vcH P N ops w0 (Qa6 ops plan)) K:=h';cases hpo:Qfo P o.op with
    | true =>
     rw [hpo] at h';simp only [Qew,pw] at h';obtain ⟨v,hv,hr⟩:=Qd0 ha' h';refine wpAnyH_take hoa hsel hstep.1 hstep.2 (fun c a w=>hQ c a w o.dst v) (.inl ⟨hw,fun w' hw'=>hr w' hw'⟩) (hx.trans (Ext.drewN w n)) ?_;exact ih fuel _ _ _ _ w n hf' hp2 (ha'.put' hod v) hx hv hK'
    | false=>rw [hpo] at h';exact h'.elim
   exact wpAnyH_take hoa hsel hstep.1 hstep.2 (fun c a w=>hQ c a w o.dst undef) (.inr ⟨hw,rfl⟩) (hx.trans (Ext.drewN w n)) (ih fuel _ _ _ _ w n hf' hp2 (ha'.put' hod undef) hx h' hK')
  | false =>
   simp only [beq_iff_eq] at hstep;refine wpAnyH_all hstep (by simp) ?_;intro j hj;simp only [List.mem_singleton] at hj;subst hj
   have h2:vcH P N ops w0 (Qa6 ops [(j,false)]) e w (fun e w=>vcH P N ops w0 (Qa6 ops plan) e w K):=by
    rw [hpl] at h;have hp1:Qa6 ops [(j,false)]=[(false,o)]:=by simp [Qa6,ho]
    rw [hp1];exact h
   exact Qhb hN hi' ha hx h2 fun e a w n h1 h2 h3=>⟨h2.trans (Ext.drewN w n),ih fuel _ _ _ _ w n hf' hp2 h1 h2 h3 hK'⟩
theorem QD2 {K:Env->World->Prop} (hN:ops.all (Qdp N)=true) (hsel:Region.noSelect ops.toArray=true)
  (hQ:∀ c a w (d:Option Tmp) v,Q (.panic c) (a.put d v) w->Q (.panic c) a w)
  (hK:∀ e a w n,Fits N e a->K e w->Q .normal a (w.drewN n)):∀ (t:Tree) (fuel:Nat) (listed:Array Bool) (e:Env) (a:Act) (w:World) (n:Nat),
   Qqo ops.toArray t fuel listed=true->Fits N e a->Ext w0 w->vcT P N ops w0 t e w K ->
   wpAnyH P .any ops.toArray Q (fun w'=>Ext w0 w') fuel listed a (w.drewN n):=by
 intro t
 induction t with
 | seq pre =>
  intro fuel listed e a w n ht ha hx h;simp only [Qqo,Bool.and_eq_true,decide_eq_true_eq] at ht;obtain ⟨hf,ht⟩:=ht;cases hp:Qha ops.toArray pre listed with
  | none=>rw [hp] at ht;cases ht
  | some l =>
   rw [hp] at ht;simp only [List.isEmpty_iff] at ht;exact Qky hN hsel hQ pre fuel listed l e a w n hf hp ha hx h fun e a w n h1 _ h3=>wpAnyH_done ht (hK e a w n h1 h3) _
 | two pre i j k k' ihk ihk' =>
  intro fuel listed e a w n ht ha hx h;simp only [Qqo,Bool.and_eq_true,decide_eq_true_eq] at ht;obtain ⟨hf,ht⟩:=ht;cases hp:Qha ops.toArray pre listed with
  | none=>rw [hp] at ht;cases ht
  | some l =>
   rw [hp] at ht;simp only [Bool.and_eq_true,beq_iff_eq,decide_eq_true_eq] at ht;obtain ⟨⟨⟨⟨hr,hi⟩,hj⟩,h1⟩,h2⟩:=ht;refine Qky hN hsel hQ pre fuel listed l e a w n (by omega) hp ha hx h fun e a w n g1 g2 g3=>?_;obtain ⟨m,hm⟩:∃ m,fuel - pre.length=m+1:=⟨fuel - pre.length - 1,by omega⟩;rw [hm];have hm':fuel - pre.length - 1=m:=by omega
   rw [hm'] at h1 h2;refine wpAnyH_all hr (by simp) ?_;intro x hx2;simp only [List.mem_cons,List.not_mem_nil,or_false] at hx2;rcases hx2 with rfl | rfl
   ·
    exact Qhb hN (by simpa using hi) g1 g2 g3.1 fun e a w n f1 f2 f3=>⟨f2.trans (Ext.drewN w n),ihk m _ e a w n h1 f1 f2 f3⟩
   exact Qhb hN (by simpa using hj) g1 g2 g3.2 fun e a w n f1 f2 f3=>⟨f2.trans (Ext.drewN w n),ihk' m _ e a w n h2 f1 f2 f3⟩
end
theorem QBh {P:Program}{fn:Func}{F:Value->World->Prop}{N:Nat}{k:List It}{e:Env}{w:World} (w0:World) (hx:Ext w0 w) (ks:List Nat) (t:Tree) {id:Nat}{ops:List Oper}
  (hm:P.follows .mixedOrders=true) (hB:(Qqo ops.toArray t ops.toArray.size (Array.replicate ops.toArray.size false) && Region.noSelect ops.toArray)=true) (hN:ops.all (Qdp N)=true)
  (h:∀ K:Env->World->Prop,(∀ e w,VC ⟨P,fn,F,N⟩ k e w->K e w)->vcT P N ops w0 t e w (selC ks K)):VC ⟨P,fn,F,N⟩ (.code (.region id ops.toArray true)::k) e w:=by
 intro a n ha;simp only [Bool.and_eq_true] at hB;obtain ⟨hB1,hB2⟩:=hB;refine wp_region_held (S:=fun w'=>Ext w0 w') hm ?_;refine QD2 (K:=selC ks (VC ⟨P,fn,F,N⟩ k)) hN hB2 (fun c a w d v hq=>Qjm d v hq) (fun e a w n ha hv=>?_) t _ _ e a w (n+1) hB1 ha hx (h _ fun _ _ hv=>hv);exact ((Qc7 ks e _).1 hv) a n (ha.sel ks)
section
variable {P:Program}{N:Nat}{d:Option Tmp}{ty:Nat}{pos:String}{af:Array Edge}{gd:Option (Nat×Bool)}{e:Env}{w:World}{R:Env->World->(Env->World->Prop)->Prop}{K:Env->World->Prop}
theorem Ql3 {w0:World}{B:List Nat}{G:List Res} (hH:Heap w0 B w G) (i:Nat) {T T' E ty:TypeId}{bytes:Nat}{zv:Value}{a:Option Addr}{n cap m:Nat}{xs:List Value}
  (hi:G[i]? = some (Res.row E 1 a n cap xs)) (hu:P.underlying T=some (.slice E)) (hz:(P.info? E).map (fun i=>(i.zero.map Value.cells,i.size,i.bytes))=some (some #[zv],1,bytes))
  (hT':P.underlying T'=some (.int .i64)) (h1:zv.oneCell'=true) (hm0:¬ m=0) (hmb:m * bytes<=281474976710656) (hm63:m<=9223372036854775807) (hb:cap < n+m->(n+m) * bytes<=140737488355328/\n+m<=9223372036854775807) (k:Nat) :
  ∃ a' cap' w' k',(Builtin.append_ #[T,T'] ty #[.slice a n cap,.int .i64 m]).run P (w.drewN k)=.ok (.slice a' (n+m) cap') (w'.drewN k')/\Heap w0 B w' (G.set i (Res.row E 1 a' (n+m) cap' (xs++List.replicate m zv)))/\(n+m<=cap->a'=a/\cap'=cap):=by
 have hrow:=hH.at i hi;obtain ⟨hxl,hnc,hcm,hcase⟩:=hrow;generalize hnews:List.replicate m zv=news;have hnl:news.length=m * 1:=by rw [<- hnews];simp
 have h1:∀ u∈news,u.oneCell'=true:=by
  intro u hu;rw [<- hnews] at hu;rw [(List.mem_replicate.1 hu).2];exact h1
 cases hinfo:P.info? E with
 | none=>simp [hinfo] at hz
 | some ti =>
 simp only [hinfo,Option.map_some,Option.some.injEq,Prod.mk.injEq] at hz;obtain ⟨hz1,hz2,hz3⟩:=hz;cases hzz:ti.zero with
 | none=>simp [hzz] at hz1
 | some z =>
 simp only [hzz,Option.map_some,Option.some.injEq] at hz1;have hso:∀ w,(sizeOf E).run P w=.ok 1 w:=fun w=>by simp [sizeOf,typeInfo,hinfo,hz2]
 have hti:∀ w,(typeInfo E).run P w=.ok ti w:=fun w=>by simp [typeInfo,hinfo]
 have hzv:∀ w,(zeroValue E).run P w=.ok z w:=fun w=>by simp [zeroValue,typeInfo,hinfo,hzz]
 have hund:∀ w,(underlying T').run P w=.ok (.int .i64) w:=fun w=>run_underlying hT' w;have hwr:IntKind.i64.wrap (m:Int)=m:=Qfq ⟨by omega,by omega⟩;have hneg:¬ (m:Int) < 0:=by omega
 have hw0:IntKind.i64.wrap 0=0:=by decide
 have hbig:¬ 281474976710656 < (m:Int) * (bytes:Int):=by
  have:((m * bytes:Nat):Int)=(m:Int) * (bytes:Int):=Int.natCast_mul _ _;omega
 have hzc:Builtin.zeroCells z.cells m=news.toArray:=by
  rw [hz1,<- hnews];apply Array.ext
  ·
   simp [Builtin.zeroCells]
  intro j h1 h2;simp [Builtin.zeroCells,Nat.mod_one]
 by_cases hroom:n+m<=cap
 ·
  rcases hcase with ⟨rfl,rfl,rfl⟩ | ⟨g,rest,fz,rfl,hg,hl2,hfz⟩
  ·
   have hm:m=0:=by omega
   subst hm;have hn:news=[]:=List.eq_nil_of_length_eq_zero (by simpa using hnl);subst hn;refine ⟨none,0,w,k,?_,?_,fun _=>⟨rfl,rfl⟩⟩
   ·
    simp [Builtin.append_,run_underlying hu,hso,hund,asInt,asIntOf,hw0,hwr,hneg,hbig,hz3,hti,hm0,hzv,hzc]
   have:xs++[]=xs:=by simp
   rw [this]
   have:G.set i (Res.row E 1 none 0 0 xs)=G:=by
    apply List.ext_getElem?;intro j;rw [List.getElem?_set];split
    ·
     rename_i hj;subst hj;split <;> simp_all
    rfl
   simp only [Nat.zero_add];rw [this];exact hH
  have hlt:g < w.heap.size:=(Array.getElem?_eq_some_iff.1 hg).1;have hfit:n * 1+news.length<=(xs++rest).length:=by rw [hl2,hnl,<- Nat.add_mul];exact Nat.mul_le_mul_right _ hroom
  have hst:=Qd8 (P:=P) g (n * 1) E fz news 0 (xs++rest) (w.drewN k) hg (by rw [hl2];exact hfz) (by simpa using hfit) h1;have hadd:(⟨g,0,none⟩:Addr).add (n * 1)=⟨g,n * 1,none⟩:=by unfold Addr.add;split <;> simp_all
  have hcs:(xs++rest).take (n * 1+0)++news++(xs++rest).drop (n * 1+0+news.length)=(xs++news)++rest.drop news.length:=by
   rw [Nat.add_zero,<- hxl,List.take_left];rw [List.drop_append];simp
  rw [hcs] at hst;have hadd':(⟨g,0,none⟩:Addr).add n=⟨g,n,none⟩:=by rw [Nat.mul_one] at hadd;exact hadd
  have hst':=hst;rw [Nat.mul_one] at hst';refine ⟨some ⟨g,0,none⟩,cap,Qek w g ((xs++news)++rest.drop news.length) E fz,k,?_,?_,fun _=>⟨rfl,rfl⟩⟩
  ·
   simp [Builtin.append_,run_underlying hu,hso,hund,asInt,asIntOf,hw0,hwr,hneg,hbig,hz3,hti,hm0,hzv,hzc,hroom,hadd',hst',Qg9]
  refine hH.set i hi (Qgj _ _ _ _ _) ⟨?_,hroom,hcm,.inr ⟨g,rest.drop news.length,fz,rfl,Qhr hlt,?_,hfz⟩⟩ ?_
  ·
   rw [List.length_append,hxl,hnl,Nat.add_mul]
  ·
   simp at hl2 hfit ⊢;omega
  intro b hb;exact ⟨.inl hb,by rw [Qgt];simp [Res.row] at hb;omega⟩
 obtain ⟨hb1,hb2⟩:=hb (by omega)
 have hg63:¬ ((n+m:Nat):Int) > IntKind.i64.max:=by
  have:IntKind.i64.max=9223372036854775807:=by decide
  rw [this];omega
 have hfits:¬ (Builtin.nextslicecap (n+m) cap * ti.bytes > 2 ^ 48):=by
  have:=growslice_fits (need:=n+m) (old:=cap) (bytes:=ti.bytes) (by omega) (by rw [hz3];exact hb1);have e:(2:Nat) ^ 48=281474976710656:=by decide
  rw [e];omega
 have hold:(Builtin.firstCells 1 n (.slice a n cap)).run P (w.drewN (k+1))=.ok xs.toArray (w.drewN (k+1)):=by
  have hrs:=Qao (hH.at i hi);cases a with
  | none =>
   have hn0:=hrs.2.1 rfl;subst hn0;have:xs=[]:=List.eq_nil_of_length_eq_zero (by simpa using hxl);subst this;simp [Builtin.firstCells]
  | some ad=>exact run_firstCells_some (P:=P) _ 1 n ad n cap xs hxl (fun j v hv=>(hrs.2.2 ad rfl).heap (w':=w.drewN (k+1)) rfl j v hv)
 have hge:=grownCap_ge (w.drewN k) (n+m) cap E;have hcm':=grownCap_le_maxLen (w.drewN k) (n+m) cap E (by simp only [maxLen];omega);refine ⟨some ⟨w.heap.size,0,none⟩,grownCap (w.drewN k) (n+m) cap E,w.alloc (.cells (xs.toArray++news.toArray++Builtin.zeroCells z.cells (grownCap (w.drewN k) (n+m) cap E - (n+m))) E),k+1,?_,?_,fun h=>absurd h hroom⟩
 ·
  have hz2':¬ (9223372036854775807 < ((n:Int)+(m:Int))):=by omega
  have hz3':¬ (281474976710656 < Builtin.nextslicecap (n+m) cap * ti.bytes):=by
   have e:(2:Nat) ^ 48=281474976710656:=by decide
   rw [e] at hfits;omega
  have hf2:=hzv (w.drewN (k+1));have hra:=fun n w=>Qh3 (P:=P) n w;simp [Builtin.append_,run_underlying hu,hso,hund,asInt,asIntOf,hwr,hneg,hbig,hz3,hm0,hzc,hroom,hti,hz2',(hz3 ▸ hz3'),hra,hold,hf2,hzv,Qd2,Question.forced,grownCap];rw [Qn4]
  congr 3
  apply Array.ext';simp
 have hcells:(xs.toArray++news.toArray++Builtin.zeroCells z.cells (grownCap (w.drewN k) (n+m) cap E - (n+m)))=((xs++news)++(Builtin.zeroCells z.cells (grownCap (w.drewN k) (n+m) cap E - (n+m))).toList).toArray:=by
  apply Array.ext';simp
 rw [hcells];have hzc:z.cells.size=1:=by rw [hz1];rfl
 refine hH.set i hi ⟨rfl,rfl,rfl,by simp,fun k hk _=>RowKit.Below.heap_alloc _ _ _ hk⟩ ⟨?_,hge,hcm',.inr ⟨w.heap.size,_,(0,0),rfl,heap_alloc_new w _,?_,Qzm _⟩⟩ ?_
 ·
  rw [List.length_append,hxl,hnl,Nat.add_mul]
 ·
  rw [List.length_append,List.length_append,hxl,hnl,Array.length_toList,size_zeroCells,hzc,<- Nat.add_mul,<- Nat.add_mul]
  congr 1;omega
 intro b hb;simp [Res.row] at hb;subst hb;exact ⟨.inr (Nat.le_refl _),by simp⟩
theorem Ql4 {w0:World}{B:List Nat}{G:List Res} (hH:Heap w0 B w G) (i:Nat) {T T' E ty:TypeId}{bytes:Nat}{zv:Value}{a:Option Addr}{n cap:Nat}{xs:List Value}
  (hi:G[i]? = some (Res.row E 1 a n cap xs)) (hu:P.underlying T=some (.slice E)) (hz:(P.info? E).map (fun i=>(i.zero.map Value.cells,i.size,i.bytes))=some (some #[zv],1,bytes)) (hT':P.underlying T'=some (.int .i64)) (k:Nat) :
  (Builtin.append_ #[T,T'] ty #[.slice a n cap,.int .i64 0]).run P (w.drewN k)=.ok (.slice a n cap) (w.drewN k):=by
 obtain ⟨hxl,hnc,hcm,hcase⟩:=hH.at i hi;cases hinfo:P.info? E with
 | none=>simp [hinfo] at hz
 | some ti =>
 simp only [hinfo,Option.map_some,Option.some.injEq,Prod.mk.injEq] at hz;obtain ⟨hz1,hz2,hz3⟩:=hz;have hso:∀ w,(sizeOf E).run P w=.ok 1 w:=fun w=>by simp [sizeOf,typeInfo,hinfo,hz2]
 have hti:∀ w,(typeInfo E).run P w=.ok ti w:=fun w=>by simp [typeInfo,hinfo]
 have hund:∀ w,(underlying T').run P w=.ok (.int .i64) w:=fun w=>run_underlying hT' w;have hw0:IntKind.i64.wrap 0=0:=by decide
 cases a with
 | none=>simp [Builtin.append_,run_underlying hu,hso,hund,asInt,asIntOf,hw0,hti,hnc]
 | some ad=>simp [Builtin.append_,run_underlying hu,hso,hund,asInt,asIntOf,hw0,hti,hnc,storeCells]
theorem Qqp {w0:World}{B:List Nat}{G:List Res} (hH:Heap w0 B w G) (i:Nat) {T T' E ty:TypeId}{bytes:Nat}{zv:Value}{a:Option Addr}{n cap m:Nat}{xs:List Value}{x:Int}{C:Value->World->Prop}
  (hi:G[i]? = some (Res.row E 1 a n cap xs)) (hx:x=m) (hu:P.underlying T=some (.slice E)) (hz:(P.info? E).map (fun i=>(i.zero.map Value.cells,i.size,i.bytes))=some (some #[zv],1,bytes))
  (hT':P.underlying T'=some (.int .i64)) (h1:zv.oneCell'=true) (hb:(n+m) * bytes<=140737488355328/\n+m<=9223372036854775807)
  (h:∀ a' cap' w',(n+m<=cap->a'=a/\cap'=cap)->Heap w0 B w' (G.set i (Res.row E 1 a' (n+m) cap' (xs++List.replicate m zv)))->C (.slice a' (n+m) cap') w') :
  AppK P #[T,T'] ty [.slice a n cap,.int .i64 x] w C:=by
 subst hx;intro k;have hle:m * bytes<=(n+m) * bytes:=Nat.mul_le_mul_right _ (by omega);by_cases hm0:m=0
 ·
  subst hm0
  have e:G.set i (Res.row E 1 a (n+0) cap (xs++List.replicate 0 zv))=G:=by
   simp only [Nat.add_zero,List.replicate_zero,List.append_nil]
   exact List.ext_getElem? fun j=>by
    rw [List.getElem?_set];split
    ·
     rename_i hj;subst hj;rw [hi];simp [(List.getElem?_eq_some_iff.1 hi).1]
    rfl
  exact ⟨_,w,k,Ql4 (P:=P) (ty:=ty) hH i hi hu hz hT' k,h a cap w (fun _=>⟨rfl,rfl⟩) (by rw [e];exact hH)⟩
 obtain ⟨a',cap',w',k',hr,hH',hc⟩:=Ql3 (P:=P) (ty:=ty) hH i hi hu hz hT' h1 hm0 (by omega) (by omega) (fun _=>hb) k;exact ⟨_,w',k',hr,h a' cap' w' hc hH'⟩
theorem Heap.focus {w0:World}{B:List Nat}{G:List Res}{r:Res} (h:Heap w0 B w G) (i:Nat) (hi:G[i]? = some r):Heap w r.foot w [r] :=
 Heap.one (h.at i hi) fun b hb=>(h.foot r (List.mem_of_getElem? hi) b hb).2
theorem Qbg {w0:World}{B:List Nat}{G:List Res} (hH:Heap w0 B w G) (vs0:List Value) {T E:TypeId}{n:Nat}{ps:Array (Nat×Operand)}{xs:List Operand} (hu:P.underlying T=some (.slice E)) (hsz:P.szo E=some 1) (hz:(P.zeroOf E).isSome=true)
  (hps:ps.toList=(xs.zipIdx).map fun p=>(p.2,p.1)) (hn:n=xs.length) (hb:n<=1000000)
  (h:argL e xs fun vs=>vs=vs0/\(∀ v∈vs,v.cells=#[v])/\∀ g w',Heap w0 B w' (Res.row E 1 (some ⟨g,0,none⟩) n n vs0::G)->R (e.put d (.slice (some ⟨g,0,none⟩) n n)) w' K) :
  MemK P N ⟨d,.buildSlice T n ps,ty,pos,af,gd⟩ e w R K:=by
 refine Qb4 hu hsz hz hps hn hb ?_
 have key:∀ (xs:List Operand) (K K':List Value->Prop),argL e xs K->(∀ vs,vs.length=xs.length->K vs->K' vs)->argL e xs K':=by
  intro xs
  induction xs with
  | nil=>intro K K' h hk;exact hk [] rfl h
  | cons x xs ih =>
   intro K K' h hk;simp only [argL] at h ⊢
   have ka:∀ (K K':Value->Prop),arg e x K->(∀ v,K v->K' v)->arg e x K':=by
    intro K K' h2 hk2
    have kt:∀ (e:Env) (n:Nat),argT e n K->argT e n K':=by
     intro e
     induction e with
     | nil=>intro n h;exact h
     | cons p e ihe =>
      intro n h;simp only [argT] at h ⊢;split
      ·
       rename_i hn;rw [if_pos hn] at h;exact hk2 _ h
      rename_i hn;rw [if_neg hn] at h;exact ihe _ h
    cases x with
    | tmp t=>exact kt e t h2
    | const v=>exact hk2 _ h2
    | global g=>exact hk2 _ h2
    | func f=>exact hk2 _ h2
   exact ka _ _ h fun v hv=>ih _ _ hv fun vs hl hvs=>hk (v::vs) (by simp [hl]) hvs
 refine key xs _ _ h fun vs hl hv=>?_;obtain ⟨rfl,h1,h2⟩:=hv;refine ⟨h1,?_⟩;have:=hH.row E (n:=n) (cap:=n) (sz:=1) vs [] (by rw [hl,hn];omega) (by rw [List.append_nil,hl,hn];omega) (Nat.le_refl _) (by omega);rw [List.append_nil] at this;exact h2 _ _ this
end
section
variable {P:Program}{N:Nat}{d:Option Tmp}{ty:Nat}{pos:String}{af:Array Edge}{gd:Option (Nat×Bool)}{e:Env}{w:World}{R:Env->World->(Env->World->Prop)->Prop}{RQ:Env->World->(Env->Prop)->Prop}{K:Env->World->Prop}{KQ:Env->Prop}{KV:Value->Prop}
def FnK (P:Program) (fv:Value) (vs:List Value) (w:World) (C:Value->World->Prop):Prop :=
 ∃ f first cs,fv=.func (.func f) first cs/\(∀ args w,(callFunc f args).run P w=.ok (.enter f args) w)/\CallK P f (first.toList++vs++cs.toList) w C
theorem Qbf {x:Operand}{az:Array Operand}{ts:Array TypeId}
  (h:arg e x fun fv=>argL e az.toList fun vs=>FnK P fv vs w fun v w'=>R (e.put d v) w' K) :
  MemK P N ⟨d,.call { callee:=.value x,args:=az,argTypes:=ts },ty,pos,af,gd⟩ e w R K:=by
 intro a n next Q ha hK;have h0:=Qa2 (K:=fun fv=>argL e az.toList fun vs=>FnK P fv vs w fun v w'=>R (e.put d v) w' K) ha h;have h1:=Qc0 (K:=fun vs=>FnK P (a.eval x) vs w fun v w'=>R (e.put d v) w' K) ha h0;obtain ⟨f,first,cs,hx,hf,F,hD,hC⟩:=h1;have hm:(az.map a.eval)=(az.toList.map a.eval).toArray:=Qfe az a
 have e1:first++(az.toList.map a.eval).toArray++cs=(first.toList++az.toList.map a.eval++cs.toList).toArray:=by
  apply Array.ext';simp
 have hrun:(execOp a.eval ⟨d,.call { callee:=.value x,args:=az,argTypes:=ts },ty,pos,af,gd⟩).run P (w.drewN n)=.ok (.enter f (first.toList++az.toList.map a.eval++cs.toList).toArray) (w.drewN n):=by
  simp only [execOp,Go.resolve,hx,Deferred.ofValue,Sem.run_bind,Sem.run_pure,Result.andThen_ok,invoke];rw [hm,e1,hf]
 unfold Oper.wp;rw [hrun];exact (hD n).mono fun e' w' ⟨v,w'',m,he,hw,hF⟩=>by subst he;subst hw;exact hK v w'' m (hC v w'' hF)
theorem FnK.mk {f:FuncId}{first cs:Array Value}{vs:List Value}{C F:Value->World->Prop} (hf:∀ args w,(callFunc f args).run P w=.ok (.enter f args) w)
  (h:Does P f (first.toList++vs++cs.toList).toArray w F) (hc:∀ v w',F v w'->C v w'):FnK P (.func (.func f) first cs) vs w C:=⟨f,first,cs,rfl,hf,F,h,hc⟩
theorem Qms {op:BinOp}{T:TypeId}{xo yo:Operand}{x y:Value}{b:Bool} (h:∀ w',(do eqGuard op T xo yo x y;binOp op T x y:Sem Value).run P w'=.ok (.bool b) w'):EqR P op T xo yo x y w KV=KV (.bool b):=by
 apply propext;constructor
 ·
  rintro ⟨b',hr,hk⟩;have h1:=hr w (Ext.refl w);rw [h w] at h1;simp only [Result.ok.injEq,Value.bool.injEq] at h1;rw [h1.1];exact hk
 intro hk;exact ⟨b,fun w' _=>h w',hk⟩
theorem Qf3 {op:BinOp}{T:TypeId}{xo yo:Operand}{x y:Value} (h:(∀ c,x≠.agg c)/\x≠.nilIface) (w:World):(eqGuard op T xo yo x y).run P w=.ok () w:=Qh2 h w
theorem Qt8 {T E:TypeId} (hu:P.underlying T=some (.pointer E)) (d:Nat) (a:Option Addr) (w:World):(Op.equalIn (d+1) T (.pointer a) (.pointer none)).run P w=.ok a.isNone w:=by
 unfold Op.equalIn;cases a <;> simp [run_underlying hu]
theorem Qqq {T E:TypeId} (hu:P.underlying T=some (.pointer E)) (a:Option Addr) (w:World):(Op.equal T (.pointer a) (.pointer none)).run P w=.ok a.isNone w:=Qt8 hu 9999 a w
theorem Qt9 {T:TypeId}{ps rs:Array TypeId}{v:Bool} (hu:P.underlying T=some (.func ps rs v)) (d:Nat) (f:Fn) (x y:Array Value) (w:World):(Op.equalIn (d+1) T (.func f x y) .nilFunc).run P w=.ok false w:=by
 unfold Op.equalIn;simp [run_underlying hu]
theorem QBi {T:TypeId}{ps rs:Array TypeId}{v:Bool} (hu:P.underlying T=some (.func ps rs v)) (f:Fn) (x y:Array Value) (w:World):(Op.equal T (.func f x y) .nilFunc).run P w=.ok false w:=Qt9 hu 9999 f x y w
theorem Qzo {T E:TypeId} (hu:P.underlying T=some (.pointer E)) (a:Option Addr) (xo yo:Operand):Qby P .eql T xo yo (.pointer a) (.pointer none) w KV=KV (.bool a.isNone):=by
 refine Qms fun w'=>?_;simp only [Sem.run_bind];rw [Qf3 ⟨by simp,by simp⟩];simp only [Result.andThen_ok,binOp,Sem.run_bind,Qqq hu,Sem.run_pure]
theorem QJb {T E:TypeId} (hu:P.underlying T=some (.pointer E)) (a:Option Addr) (xo yo:Operand):Qby P .neq T xo yo (.pointer a) (.pointer none) w KV=KV (.bool !a.isNone):=by
 refine Qms fun w'=>?_;simp only [Sem.run_bind];rw [Qf3 ⟨by simp,by simp⟩];simp only [Result.andThen_ok,binOp,Sem.run_bind,Qqq hu,Sem.run_pure]
theorem QOv {T:TypeId}{ps rs:Array TypeId}{v:Bool} (hu:P.underlying T=some (.func ps rs v)) (f:Fn) (x y:Array Value) (xo yo:Operand):Qby P .eql T xo yo (.func f x y) .nilFunc w KV=KV (.bool false):=by
 refine Qms fun w'=>?_;simp only [Sem.run_bind];rw [Qf3 ⟨by simp,by simp⟩];simp only [Result.andThen_ok,binOp,Sem.run_bind,QBi hu,Sem.run_pure]
def Res.pair (r s:Res):Res where
 foot:=r.foot++s.foot
 holds:=fun w=>r.holds w/\s.holds w/\Apart r s
 loc:=by
  rintro w w' hb ⟨h1,h2,h3⟩;exact ⟨r.loc w w' (fun b h=>hb b (List.mem_append_left _ h)) h1,s.loc w w' (fun b h=>hb b (List.mem_append_right _ h)) h2,h3⟩
theorem Heap.unpair {w0:World}{B:List Nat}{G:List Res}{r s:Res} (h:Heap w0 B w (Res.pair r s::G)):Heap w0 B w (r::s::G):=by
 obtain ⟨h1,h2,h3⟩:=h.holds (Res.pair r s) (by simp);have hf:=h.foot (Res.pair r s) (by simp);have ha:=List.pairwise_cons.1 h.apart;refine ⟨h.upd,?_,?_,?_⟩
 ·
  intro x hx;simp only [List.mem_cons] at hx;rcases hx with rfl | rfl | hx
  ·
   exact h1
  ·
   exact h2
  exact h.holds x (by simp [hx])
 ·
  intro x hx b hb;simp only [List.mem_cons] at hx;rcases hx with rfl | rfl | hx
  ·
   exact hf b (List.mem_append_left _ hb)
  ·
   exact hf b (List.mem_append_right _ hb)
  exact h.foot x (by simp [hx]) b hb
 rw [List.pairwise_cons,List.pairwise_cons];refine ⟨fun x hx=>?_,fun x hx b hb=>ha.1 x hx b (List.mem_append_right _ hb),ha.2⟩;rcases List.mem_cons.1 hx with rfl | hx
 ·
  exact h3
 exact fun b hb=>ha.1 x hx b (List.mem_append_left _ hb)
theorem Heap.pair {w0:World}{B:List Nat}{G:List Res}{r s:Res} (h:Heap w0 B w (r::s::G)):Heap w0 B w (Res.pair r s::G):=by
 have ha:=List.pairwise_cons.1 h.apart;have ha2:=List.pairwise_cons.1 ha.2;refine ⟨h.upd,?_,?_,?_⟩
 ·
  intro x hx;rcases List.mem_cons.1 hx with rfl | hx
  ·
   exact ⟨h.holds r (by simp),h.holds s (by simp),ha.1 s (by simp)⟩
  exact h.holds x (by simp [hx])
 ·
  intro x hx b hb;rcases List.mem_cons.1 hx with rfl | hx
  ·
   rcases List.mem_append.1 hb with hb | hb
   ·
    exact h.foot r (by simp) b hb
   exact h.foot s (by simp) b hb
  exact h.foot x (by simp [hx]) b hb
 rw [List.pairwise_cons];refine ⟨fun x hx b hb=>?_,ha2.2⟩;rcases List.mem_append.1 hb with hb | hb
 ·
  exact ha.1 x (by simp [hx]) b hb
 exact ha2.1 x hx b hb
theorem Qae {g T k:Nat}{cs:List Value}{v:Value} (h:(Res.blk g T cs).holds w) (hv:cs[k]? = some v):w.cell? ⟨g,k,none⟩=some v:=by
 obtain ⟨fz,hg,_⟩:=h;simp [World.cell?,hg,hv]
theorem blk_reads {g T:Nat}{cs:List Value} (h:(Res.blk g T cs).holds w):Reads w ⟨g,0,none⟩ cs:=by
 intro j u hu;have hadd:(⟨g,0,none⟩:Addr).add j=⟨g,j,none⟩:=by unfold Addr.add;split <;> simp_all
 rw [hadd];exact Qae h hu
theorem Qa8 (g o k:Nat):(⟨g,o,none⟩:Addr).add k=⟨g,o+k,none⟩:=by unfold Addr.add;split <;> simp_all
def Res.bag (l:List Res):Res where
 foot:=l.flatMap Res.foot
 holds:=fun w=>(∀ r∈l,r.holds w)/\l.Pairwise Apart
 loc:=by
  rintro w w' hb ⟨h1,h2⟩;exact ⟨fun r hr=>r.loc w w' (fun b h=>hb b (List.mem_flatMap.2 ⟨r,hr,h⟩)) (h1 r hr),h2⟩
theorem Heap.unbag {w0:World}{B:List Nat}{G l:List Res} (h:Heap w0 B w (Res.bag l::G)):Heap w0 B w (l++G):=by
 obtain ⟨h1,h2⟩:=h.holds (Res.bag l) (by simp);have hf:=h.foot (Res.bag l) (by simp);have ha:=List.pairwise_cons.1 h.apart;refine ⟨h.upd,?_,?_,?_⟩
 ·
  intro x hx;rcases List.mem_append.1 hx with hx | hx
  ·
   exact h1 x hx
  exact h.holds x (by simp [hx])
 ·
  intro x hx b hb;rcases List.mem_append.1 hx with hx | hx
  ·
   exact hf b (List.mem_flatMap.2 ⟨x,hx,hb⟩)
  exact h.foot x (by simp [hx]) b hb
 rw [List.pairwise_append];exact ⟨h2,ha.2,fun r hr s hs b hb=>ha.1 s hs b (List.mem_flatMap.2 ⟨r,hr,hb⟩)⟩
theorem Heap.bag {w0:World}{B:List Nat}{G:List Res} (l:List Res) (h:Heap w0 B w (l++G)):Heap w0 B w (Res.bag l::G):=by
 have ha:=List.pairwise_append.1 h.apart;refine ⟨h.upd,?_,?_,?_⟩
 ·
  intro x hx;rcases List.mem_cons.1 hx with rfl | hx
  ·
   exact ⟨fun r hr=>h.holds r (List.mem_append_left _ hr),ha.1⟩
  exact h.holds x (List.mem_append_right _ hx)
 ·
  intro x hx b hb;rcases List.mem_cons.1 hx with rfl | hx
  ·
   obtain ⟨r,hr,hb⟩:=List.mem_flatMap.1 hb;exact h.foot r (List.mem_append_left _ hr) b hb
  exact h.foot x (List.mem_append_right _ hx) b hb
 rw [List.pairwise_cons];refine ⟨fun x hx b hb=>?_,ha.2.1⟩;obtain ⟨r,hr,hb⟩:=List.mem_flatMap.1 hb;exact ha.2.2 r hr x hx b hb
theorem Heap.front {w0:World}{B:List Nat}{G:List Res}{r:Res} (i:Nat) (h:Heap w0 B w G) (hi:G[i]? = some r):Heap w0 B w (r::G.eraseIdx i):=by
 refine h.perm ?_
 have:∀ (G:List Res) (i:Nat),G[i]? = some r->G.Perm (r::G.eraseIdx i):=by
  intro G
  induction G with
  | nil=>intro i h;simp at h
  | cons x G ih =>
   intro i h;cases i with
   | zero=>simp at h;subst h;exact List.Perm.refl _
   | succ i =>
    rw [List.eraseIdx_cons_succ];exact ((ih i (by simpa using h)).cons x).trans (List.Perm.swap _ _ _)
 exact this G i hi
def vNth:List Value->Nat->(Value->Prop)->Prop
 | [],_,_=>False
 | v::_,0,K=>K v
 | _::l,i+1,K=>vNth l i K
theorem QD3 (v:Value) (l:List Value):vNth (v::l) 0 KV=KV v:=rfl
theorem QD4 (v:Value) (l:List Value) (i:Nat):vNth (v::l) (i+1) KV=vNth l i KV:=rfl
theorem QD5 (l:List Value):∀ (i:Nat) (K:Value->Prop),vNth l i K=match l[i]? with | some v=>K v | none=>False:=by
 induction l with
 | nil=>intro i K;simp [vNth]
 | cons v l ih =>
  intro i K;cases i with
  | zero=>simp [vNth]
  | succ i=>simp [vNth,ih]
def Qi1 (d:Option TypeDesc):Bool:=match d with
 | some (.struct _) | some (.array _ _) | none=>false
 | some _=>true
def Qgv (d:Option TypeDesc):Bool:=match d with
 | some (.struct _) | some (.array _ _)=>true
 | _=>false
theorem Qua {T:TypeId} (l:List Value) (off:Nat) (h:Qi1 (P.underlying T)=true):Qto P T l.toArray off KV=vNth l off KV:=by
 rw [QD5,Qto];cases hu:P.underlying T with
 | none=>simp [hu,Qi1] at h
 | some d =>
  cases d <;> first
   | (exfalso;simp [Qi1,hu] at h;done)
   | (simp only [List.getElem?_toArray] <;> cases l[off]? <;> rfl)
theorem QHr {T:TypeId} (l:List Value) (off n:Nat) (h:Qgv (P.underlying T)=true) (hz:P.szo T=some n):Qto P T l.toArray off KV=KV (.agg ((l.take (off+n)).drop off).toArray):=by
 have e:l.toArray.extract off (off+n)=((l.take (off+n)).drop off).toArray:=by
  apply Array.ext';simp [List.extract_eq_take_drop];rw [List.drop_take];congr 1;omega
 rw [Qto];cases hu:P.underlying T with
 | none=>simp [hu,Qgv] at h
 | some d=>cases d <;> simp_all [Qgv]
theorem Qd6 (S f:Nat) (l:List Value) {fields:Array Field}{fd:Field}{o:Nat} (h:P.underlying S=some (.struct fields)) (hf:fields[f]? = some fd) (hp:Qi1 (P.underlying fd.type)=true) (ho:fd.offset=o) (_hz:P.szo fd.type=some 1):Qc3 P S (.agg l.toArray) f KV=vNth l o KV:=by
 subst ho;simp only [Qc3,h,hf,Qua l _ hp]
theorem Qzp (S f:Nat) (l:List Value) (n:Nat) {fields:Array Field}{fd:Field}{o m:Nat} (h:P.underlying S=some (.struct fields)) (hf:fields[f]? = some fd) (hp:Qgv (P.underlying fd.type)=true) (ho:(fd.offset,fd.offset+n)=(o,m)) (hz:P.szo fd.type=some n):Qc3 P S (.agg l.toArray) f KV=KV (.agg ((l.take m).drop o).toArray):=by
 simp only [Prod.mk.injEq] at ho;obtain ⟨rfl,rfl⟩:=ho;simp only [Qc3,h,hf,QHr l _ n hp hz]
theorem Qio {T:TypeId}{ps:List (Nat×Value)}{cells:Array Value} (h:P.built T ps=some cells):Qdk P T ps KV=KV (.agg cells):=by simp [Qdk,h]
theorem Qn8 (T:TypeId) (l:List Value) (k:IntKind) (i:Int) {n E:Nat} (h:P.underlying T=some (.array n E)) (hz:P.szo E=some 1) (hp:Qi1 (P.underlying E)=true) (_hn:P.szo T=some n):Qee P T (.agg l.toArray) (.int k i) KV=((0<=i/\i < (n:Int))/\vNth l i.toNat KV):=by
 simp only [Qee,h,hz,Nat.mul_one,Qua l _ hp]
end
attribute [go_sem ↓] QD3 QD4
attribute [go_sem] Qa8 Option.isNone_some Option.isNone_none
theorem Qxe {P:Program}{N:Nat}{ops rest:List Oper}{Q:Exit->Act->World->Prop}{K:Env->World->Prop}{w:World}{n:Nat} (hR:rest.all (Qdp N)=true)
  (hK:∀ e a w n,Fits N e a->K e w->Q .normal a (w.drewN n)):∀ (pre:List Oper) (e:Env) (a:Act),pre.all (Qdp N)=true->pre.all (fun o=>Qfo P o.op)=true->Fits N e a ->
   Qay P N ops (pre++rest) e w K->wpStill P ops.toArray (w.drewN n) (fun a'=>wpList P ops.toArray Q rest a' (w.drewN n)) pre a:=by
 intro pre
 induction pre with
 | nil=>intro e a _ _ ha h;exact Qfr hK rest e a w n hR ha h
 | cons o pre ih =>
  intro e a hl hp ha h;simp only [List.all_cons,Bool.and_eq_true] at hl hp;unfold wpStill;rcases Qdr ha h with ⟨e',ha',h',hw⟩ | ⟨e',ha',h',hw⟩
  ·
   rw [if_pos hw];unfold Qtr at h';rw [hp.1] at h';obtain ⟨v,hv,hr⟩:=Qd0 ha' h';unfold Oper.still;rw [hr (w.drewN n) (Ext.drewN w n)];exact ⟨rfl,ih _ _ hl.2 hp.2 (ha'.put' hl.1 v) hv⟩
  rw [if_neg (by rw [hw];simp)];exact ih _ _ hl.2 hp.2 (ha'.put' hl.1 undef) h'
theorem Qjn {P:Program}{fn:Func}{F:Value->World->Prop}{N:Nat}{k:List It}{e:Env}{w:World} (ks:List Nat) (m:Nat) {id:Nat}{ops:List Oper} (hm:P.follows .mixedOrders=true)
  (hB:Region.lexTailB .any ops.toArray m=true) (hp:(ops.take m).all (fun o=>Qfo P o.op)=true) (hN:ops.all (Qdp N)=true)
  (h:∀ K:Env->World->Prop,(∀ e w,VC ⟨P,fn,F,N⟩ k e w->K e w)->Qay P N ops ops e w (selC ks K)):VC ⟨P,fn,F,N⟩ (.code (.region id ops.toArray true)::k) e w:=by
 intro a n ha;have hN':=hN;rw [<- List.take_append_drop m ops,List.all_append,Bool.and_eq_true] at hN';refine wp_region_still_tail m hm hB ?_
 show wpStill P ops.toArray (w.drewN (n+1)) (fun a'=>wpList P ops.toArray (fun ex a w=>cont ⟨P,fn,F,N⟩ k ex a w) (ops.drop m) a' (w.drewN (n+1))) (ops.take m) a
 refine Qxe (n:=n+1) (K:=selC ks (VC ⟨P,fn,F,N⟩ k)) hN'.2 (fun e a w n ha hv=>?_) (ops.take m) e a hN'.1 hp ha ?_
 ·
  exact ((Qc7 ks e _).1 hv) a n (ha.sel ks)
 rw [List.take_append_drop];exact h _ fun _ _ hv=>hv
theorem bytesV_take (l:List UInt8) (k:Nat):(Qan l).take k=Qan (l.take k):=by simp [Qan]
theorem bytesV_drop (l:List UInt8) (k:Nat):(Qan l).drop k=Qan (l.drop k):=by simp [Qan]
theorem bytesV_zero (n:Nat):List.replicate n (Value.int .u8 0)=Qan (List.replicate n 0):=by simp [Qan]
theorem bytesV_get {l:List UInt8}{i:Nat} (h:i < l.length):(Qan l)[i]? = some (.int .u8 (l.getD i 0).toNat):=by
 simp [Qan,List.getElem?_eq_getElem h,List.getD_eq_getElem?_getD]
theorem intsV_zero (n:Nat):List.replicate n (Value.int .i64 0)=Qap (List.replicate n 0):=by simp [Qap]
theorem Qcv {l:List Int}{i:Nat} (h:i < l.length):(Qap l)[i]? = some (.int .i64 (l.getD i 0)):=by
 simp [Qap,List.getElem?_eq_getElem h,List.getD_eq_getElem?_getD]
theorem Qub (l:List Int) (i:Nat) (v:Int):(Qap l).set i (.int .i64 v)=Qap (l.set i v):=by simp [Qap,List.map_set]
theorem Qjo (l:List UInt8) (i:Nat) (v:UInt8):(Qan l).set i (.int .u8 v.toNat)=Qan (l.set i v):=by simp [Qan,List.map_set]
theorem Qb2 {α:Type} (l:List α) (i:Nat) (v:α) (h:i < l.length):l.take i++[v]++l.drop (i+1)=l.set i v:=by
 rw [List.set_eq_take_append_cons_drop,if_pos h,List.append_assoc];rfl
theorem Qbb {w:World}{a:Option Addr}{n sz:Nat}{xs:List Value} (h:RS w a n sz xs) (hn:0 < n):∃ p,a=some p:=by
 cases a with
 | none=>have:=h.2.1 rfl;omega
 | some p=>exact ⟨p,rfl⟩
theorem Qhc {w:World}{p:Addr}{l:List Int}{n:Nat} (h:RS w (some p) n 1 (Qap l)) {i:Nat} (hi:i < l.length):w.cell? (p.add i)=some (.int .i64 (l.getD i 0)) :=
 h.2.2 p rfl i _ (Qcv hi)
theorem drop_getD {α:Type}{l:List α}{i:Nat} (d:α) (h:i < l.length):l.drop i=l.getD i d::l.drop (i+1):=by
 rw [List.drop_eq_getElem_cons h,List.getD_eq_getElem?_getD,List.getElem?_eq_getElem h];rfl
theorem Qb1 {α:Type}{l:List α}{i:Nat} (d:α) (h:i < l.length):l.take (i+1)=l.take i++[l.getD i d]:=by
 rw [List.take_add_one,List.getD_eq_getElem?_getD,List.getElem?_eq_getElem h];rfl
theorem Qaz {α:Type}{l:List α}{i:Nat} (d:α) (h:i < l.length):l.getD i d∈l:=by
 rw [List.getD_eq_getElem?_getD,List.getElem?_eq_getElem h];exact List.getElem_mem h
theorem Qjp {w:World}{E sz:Nat}:Heap w [] w [Res.row E sz none 0 0 []]:=Heap.one (r:=Res.row E sz none 0 0 []) (Qr4 E sz w) (by intro b hb;cases hb)
theorem Heap.nilRow {w0 w:World}{B:List Nat}{G:List Res} (h:Heap w0 B w G) (E sz:Nat):Heap w0 B w (Res.row E sz none 0 0 []::G):=h.call0 (G':=[Res.row E sz none 0 0 []]) Qjp
theorem Qqr {k:IntKind}{i:Int}{n:Nat} (h:i=n) (hn:n<=k.bits):shN k i=n:=by subst h;simp [shN];exact Nat.min_eq_left hn
theorem Qr9 {k:IntKind}{i:Int}{n:Nat} (h:i=n) (hn:n<=k.bits) (hk:k.bits<=64):shN k (i % 18446744073709551616)=n:=by
 subst h;rw [Int.emod_eq_of_lt (by omega) (by omega),shN];simp;exact Nat.min_eq_left hn
theorem Qn9 (n:Nat):((2:Int) ^ n)=((2 ^ n:Nat):Int):=by push_cast;rfl
theorem Qgd (v n:Nat):(v:Int) / 2 ^ n=((v / 2 ^ n:Nat):Int):=by rw [Qn9,<- Int.natCast_ediv]
theorem Qni (v n:Nat):(v:Int) * 2 ^ n=((v * 2 ^ n:Nat):Int):=by rw [Qn9,<- Int.natCast_mul]
theorem Qef {P:Program}{T:TypeId}{a:Addr}{w:World}{K:Value->Prop} (h:Qb9 P T (.pointer (some a)) w K) :
  ∃ v,K v/\∀ w',Ext w w'->(loadVar T a).run P w'=.ok v w':=by
 have key:∀ (n:Nat),(P.szo T=some n)->(∀ w,(isAgg T).run P w=.ok true w)->∀ cs:List Value,cs.length=n->Reads w a cs ->
   ∀ w',Ext w w'->(loadVar T a).run P w'=.ok (.agg cs.toArray) w':=by
  intro n hn hagg cs hl hr w' hw;have:=Qev (P:=P) (hr.ext hw);rw [hl] at this;simp [loadVar,hagg,Qel hn,this]
 unfold Qb9 at h;simp only at h;split at h
 ·
  rename_i hu;split at h
  ·
   rename_i n hn;obtain ⟨cs,⟨hl,hr⟩,hK⟩:=h;exact ⟨_,hK,key n hn (fun w=>by simp [isAgg,run_underlying hu]) cs hl hr⟩
  exact h.elim
 ·
  rename_i hu;split at h
  ·
   rename_i n hn;obtain ⟨cs,⟨hl,hr⟩,hK⟩:=h;exact ⟨_,hK,key n hn (fun w=>by simp [isAgg,run_underlying hu]) cs hl hr⟩
  exact h.elim
 ·
  rename_i d hd1 hd2 hu;obtain ⟨v,hv,hK⟩:=h;refine ⟨v,hK,fun w' hw=>?_⟩;have hc:w'.cell? a=some v:=hw.cell hv
  have:(isAgg T).run P w'=.ok false w':=by
   cases d <;> simp_all [isAgg,run_underlying hu]
  simp [loadVar,this,hc]
 exact h.elim
section
variable {C:Ctx}{e:Env}{w:World}
theorem Qsa {t:Tmp}{T:TypeId}{a:Addr} (hr:C.fn.results=#[.cell t T]) (ht:e.find? t=some (.pointer (some a))) (h:Qb9 C.P T (.pointer (some a)) w fun v=>C.F v w):VX C [] .ret e w:=by
 intro ac n ha;obtain ⟨v,hv,hrun⟩:=Qef h;refine ⟨ha.defers,v,?_,v,w,n,rfl,rfl,hv⟩;have h1:=ha.at_ t _ ht;rw [Array.getD_eq_getD_getElem?] at h1;have h2:=hrun (w.drewN n) (Ext.drewN w n);simp [results,hr,h1,asAddr,h2]
theorem Qcw {t u:Tmp}{T:TypeId}{a:Addr}{x:Value} (hr:C.fn.results=#[.cell t T,.tmp u]) (ht:e.find? t=some (.pointer (some a))) (hu:e.find? u=some x) (h:Qb9 C.P T (.pointer (some a)) w fun v=>C.F (.tuple #[v,x]) w):VX C [] .ret e w:=by
 intro ac n ha;obtain ⟨v,hv,hrun⟩:=Qef h;refine ⟨ha.defers,.tuple #[v,x],?_,_,w,n,rfl,rfl,hv⟩;have h1:=ha.at_ t _ ht;rw [Array.getD_eq_getD_getElem?] at h1;have h3:=ha.at_ u _ hu;rw [Array.getD_eq_getD_getElem?] at h3;have h2:=hrun (w.drewN n) (Ext.drewN w n);simp [results,hr,h1,h3,asAddr,h2]
theorem Qhd {t u s:Tmp}{T:TypeId}{a:Addr}{x y:Value} (hr:C.fn.results=#[.cell t T,.tmp u,.tmp s]) (ht:e.find? t=some (.pointer (some a))) (hu:e.find? u=some x) (hs:e.find? s=some y) (h:Qb9 C.P T (.pointer (some a)) w fun v=>C.F (.tuple #[v,x,y]) w):VX C [] .ret e w:=by
 intro ac n ha;obtain ⟨v,hv,hrun⟩:=Qef h;refine ⟨ha.defers,.tuple #[v,x,y],?_,_,w,n,rfl,rfl,hv⟩;have h1:=ha.at_ t _ ht;rw [Array.getD_eq_getD_getElem?] at h1;have h3:=ha.at_ u _ hu;rw [Array.getD_eq_getD_getElem?] at h3;have h4:=ha.at_ s _ hs;rw [Array.getD_eq_getD_getElem?] at h4;have h2:=hrun (w.drewN n) (Ext.drewN w n);simp [results,hr,h1,h3,h4,asAddr,h2]
end
theorem Qbh {P:Program}{T:TypeId}{g T' n:Nat}{cs:List Value}{w:World}{K:Value->Prop} (h:(Res.blk g T' cs).holds w) (hd:Qgv (P.underlying T)=true) (hz:P.szo T=some n) (hn:cs.length=n) (hk:K (.agg cs.toArray)):Qb9 P T (.pointer (some ⟨g,0,none⟩)) w K:=by
 unfold Qb9;cases hu:P.underlying T with
 | none=>simp [hu,Qgv] at hd
 | some d =>
  cases d <;> first
   | (exfalso;simp [Qgv,hu] at hd;done)
   | (simp only [hz];exact ⟨cs,⟨hn,blk_reads h⟩,hk⟩)
theorem QD6 (cs:List Value):∀ (i:Nat) (pre mid suf:List Value),mid.length=cs.length->pre.length=i ->
  (cs.zipIdx i).foldl (fun (a:Array Value) (x:Value×Nat)=>a.setIfInBounds x.2 x.1) (pre++mid++suf).toArray=(pre++cs++suf).toArray:=by
 induction cs with
 | nil=>intro i pre mid suf hm hp;simp at hm;subst hm;simp
 | cons c cs ih =>
  intro i pre mid suf hm hp;cases mid with
  | nil=>simp at hm
  | cons m mid =>
   simp only [List.zipIdx_cons,List.foldl_cons]
   have e:(pre++m::mid++suf).toArray.setIfInBounds i c=((pre++[c])++mid++suf).toArray:=by
    subst hp;apply Array.ext';simp [List.set_append_right]
   rw [e,ih (i+1) (pre++[c]) mid suf (by simpa using hm) (by simp [hp])];simp
theorem Qxf (k:Nat):∀ (l:List Value) (i:Nat) (pre suf:List Value),suf.length=l.length * k->(∀ v∈l,v.cells.size=k)->pre.length=i * k ->
  Instr.fill (fun i=>some (i * k,k)) (pre++suf).toArray ((l.zipIdx i).map fun p=>(p.2,p.1))=some (pre++l.flatMap fun v=>v.cells.toList).toArray:=by
 intro l
 induction l with
 | nil=>intro i pre suf hs _ _;simp at hs;subst hs;simp [Instr.fill]
 | cons v l ih =>
  intro i pre suf hs hc hp;have hv:=hc v (by simp);simp only [List.length_cons,Nat.add_mul,Nat.one_mul] at hs;obtain ⟨mid,suf',rfl,hmid⟩:∃ mid suf',suf=mid++suf'/\mid.length=k:=⟨suf.take k,suf.drop k,by simp,by simp;omega⟩;simp only [List.length_append] at hs;simp only [List.zipIdx_cons,List.map_cons,Instr.fill];rw [if_neg (by simp;omega)];have hcl:v.cells.toList.length=k:=by rw [Array.length_toList];exact hv
  have e1:(v.cells.zipIdx.foldl (fun cs (x:Value×Nat)=>cs.setIfInBounds (i * k+x.2) x.1) (pre++(mid++suf')).toArray)=((pre++v.cells.toList)++suf').toArray:=by
   have h2:=QD6 v.cells.toList (i * k) pre mid suf' (by rw [hmid,hcl]) hp;rw [<- List.append_assoc,<- h2,<- Array.foldl_toList];rw [List.zipIdx_eq_map_add];simp [Array.toList_zipIdx,List.foldl_map,Nat.add_comm]
  have hih:=ih (i+1) (pre++v.cells.toList) suf' (by omega) (fun u hu=>hc u (by simp [hu])) (by rw [List.length_append,hcl,hp,Nat.add_mul,Nat.one_mul]);rw [e1,hih,List.flatMap_cons,List.append_assoc]
section
variable {P:Program}{N:Nat}{d:Option Tmp}{ty:Nat}{pos:String}{af:Array Edge}{gd:Option (Nat×Bool)}{e:Env}{w:World}{R:Env->World->(Env->World->Prop)->Prop}{K:Env->World->Prop}
theorem QBj {e:Env}:∀ (xs:List Operand) (K K':List Value->Prop),argL e xs K->(∀ vs,vs.length=xs.length->K vs->K' vs)->argL e xs K':=by
 intro xs
 induction xs with
 | nil=>intro K K' h hk;exact hk [] rfl h
 | cons x xs ih =>
  intro K K' h hk;simp only [argL] at h ⊢
  have ka:∀ (x:Operand) (K K':Value->Prop),arg e x K->(∀ v,K v->K' v)->arg e x K':=by
   intro x K K' h2 hk2
   have kt:∀ (e:Env) (n:Nat),argT e n K->argT e n K':=by
    intro e
    induction e with
    | nil=>intro n h;exact h
    | cons p e ihe =>
     intro n h;simp only [argT] at h ⊢;split
     ·
      rename_i hn;rw [if_pos hn] at h;exact hk2 _ h
     rename_i hn;rw [if_neg hn] at h;exact ihe _ h
   cases x with
   | tmp t=>exact kt e t h2
   | const v=>exact hk2 _ h2
   | global g=>exact hk2 _ h2
   | func f=>exact hk2 _ h2
  exact ka x _ _ h fun v hv=>ih _ _ hv fun vs hl hvs=>hk (v::vs) (by simp [hl]) hvs
theorem Qi2 {w0:World}{B:List Nat}{G:List Res} (hH:Heap w0 B w G) (k:Nat) (cs:List Value) {T E:TypeId}{n:Nat}{ps:Array (Nat×Operand)}{xs:List Operand} (hu:P.underlying T=some (.slice E)) (hsz:P.szo E=some k) (hz:(P.zeroOf E).isSome=true)
  (hps:ps.toList=(xs.zipIdx).map fun p=>(p.2,p.1)) (hn:n=xs.length) (hb:n * k<=1000000) (hn0:n * k≠0)
  (h:argL e xs fun vs=>(vs.flatMap fun v=>v.cells.toList)=cs/\(∀ v∈vs,v.cells.size=k)/\∀ g w',Heap w0 B w' (Res.row E k (some ⟨g,0,none⟩) n n cs::G)->R (e.put d (.slice (some ⟨g,0,none⟩) n n)) w' K) :
  MemK P N ⟨d,.buildSlice T n ps,ty,pos,af,gd⟩ e w R K:=by
 refine Qd1 fun a m ha=>?_;have h':=QBj xs _ (fun vs=>vs.length=xs.length/\(vs.flatMap fun v=>v.cells.toList)=cs/\(∀ v∈vs,v.cells.size=k)/\∀ g w',Heap w0 B w' (Res.row E k (some ⟨g,0,none⟩) n n cs::G)->R (e.put d (.slice (some ⟨g,0,none⟩) n n)) w' K) h fun vs hl hv=>⟨hl,hv⟩;obtain ⟨hl,h1,h2,hR⟩:=Qc0 (K:=fun vs=>vs.length=xs.length/\(vs.flatMap fun v=>v.cells.toList)=cs/\(∀ v∈vs,v.cells.size=k)/\∀ g w',Heap w0 B w' (Res.row E k (some ⟨g,0,none⟩) n n cs::G)->R (e.put d (.slice (some ⟨g,0,none⟩) n n)) w' K) ha h';obtain ⟨z,hz⟩:=Option.isSome_iff_exists.1 hz
 have hcl:cs.length=n * k:=by
  rw [<- h1,hn,<- hl]
  have:∀ (vs:List Value),(∀ v∈vs,v.cells.size=k)->(vs.flatMap fun v=>v.cells.toList).length=vs.length * k:=by
   intro vs
   induction vs with
   | nil=>intro _;simp
   | cons v vs ih=>intro hv;rw [List.flatMap_cons,List.length_append,ih fun u hu=>hv u (by simp [hu]),Array.length_toList,hv v (by simp),List.length_cons,Nat.add_mul];omega
  exact this _ h2
 refine ⟨.slice (some ⟨w.heap.size,0,none⟩) n n,w.alloc (.cells cs.toArray E),m,?_,?_⟩
 ·
  have e1:(ps.map fun (i,x)=>(i,a.eval x)).toList=((xs.map a.eval).zipIdx).map fun p=>(p.2,p.1):=by
   rw [Array.toList_map,hps];simp [List.zipIdx_map]
  have hf:=Qxf k (xs.map a.eval) 0 [] (((Array.range (n * k)).map fun x=>z.cells[x % z.cells.size]!).toList) (by rw [Array.length_toList,Array.size_map,Array.size_range,hl,hn]) h2 (by simp);simp only [List.nil_append,Array.toArray_toList,h1] at hf;have hs:=Qel (P:=P) hsz;simp only [execOp,Instr.buildSlice,Sem.run_bind,run_underlying hu,hs,Result.andThen_ok];rw [if_neg (by omega),if_neg hn0];simp only [Sem.run_bind,Ql2 hz,Sem.run_pure,Result.andThen_ok,e1,hf,Qd2];rfl
 have:=hH.row E (n:=n) (cap:=n) (sz:=k) cs [] hcl (by rw [List.append_nil];exact hcl) (Nat.le_refl _) (by
  have:n<=n * k:=Nat.le_mul_of_pos_right _ (Nat.pos_of_ne_zero fun h=>hn0 (by rw [h];simp));omega)
 rw [List.append_nil] at this;exact hR _ _ this
theorem QD7 {w:World}{p:Addr}{n sz:Nat}{xs:List Value} (h:RS w (some p) n sz xs) (hs:p.spot=none) (k:Nat) (ys:List Value) (hy:∀ j u,ys[j]? = some u->xs[k+j]? = some u):Reads w (p.add k) ys:=by
 intro j u hu;rw [QDy p hs];exact h.2.2 p rfl _ u (hy j u hu)
end
def Keeps {α:Type} (P:Program) (s:Sem α):Prop:=∀ w a w',s.run P w=.ok a w'->w'=w
section
variable {P:Program}
theorem Keeps.pure {α:Type} (a:α):Keeps P (Pure.pure a:Sem α):=by
 intro w b w' h;simp only [Sem.run_pure,Result.ok.injEq] at h;exact h.2.symm
theorem Keeps.bind {α β:Type}{s:Sem α}{f:α->Sem β} (h:Keeps P s) (k:∀ a,Keeps P (f a)):Keeps P (s >>= f):=by
 intro w b w' hr;rw [Sem.run_bind] at hr;cases hs:s.run P w with
 | ok a w1 =>
  rw [hs,Result.andThen_ok] at hr;rw [k a w1 b w' hr,h w a w1 hs]
 | halt x w1=>rw [hs] at hr;simp [Result.andThen] at hr
theorem Keeps.load (a:Addr):Keeps P (Go.load a):=by
 intro w v w' h;unfold Go.load at h;cases hc:w.cell? a with
 | none =>
  simp only [Sem.run,hc] at h;cases hf:World.farLoad P w a (Mode.plain == Mode.atomic) with
  | ok x=>obtain ⟨x1,x2⟩:=x;rw [hf] at h;simp only [Result.ok.injEq] at h;exact h.2.symm
  | error x=>rw [hf] at h;simp at h
 | some x=>simp [Sem.run,hc] at h;exact h.2.symm
theorem Keeps.stuck {α:Type} (why:String):Keeps P (Go.stuck why:Sem α):=by
 intro w v w' h;simp at h
theorem Keeps.program {α:Type}{f:Program->Sem α} (h:∀ p,Keeps P (f p)):Keeps P (Go.program >>= f):=by
 refine Keeps.bind ?_ h;intro w v w' h;simp [Go.program,Sem.run] at h;exact h.2.symm
theorem Keeps.underlying (T:TypeId):Keeps P (Go.underlying T):=by
 refine Keeps.program fun p=>?_;cases p.underlying T with
 | some d=>exact Keeps.pure d
 | none=>exact Keeps.stuck _
theorem Keeps.typeInfo (T:TypeId):Keeps P (Go.typeInfo T):=by
 refine Keeps.program fun p=>?_;cases p.info? T with
 | some d=>exact Keeps.pure d
 | none=>exact Keeps.stuck _
theorem Keeps.sizeOf (T:TypeId):Keeps P (Go.sizeOf T):=Keeps.bind (Keeps.typeInfo T) fun _=>Keeps.pure _
theorem Keeps.isAgg (T:TypeId):Keeps P (Go.isAgg T):=by
 refine Keeps.bind (Keeps.underlying T) fun d=>?_;cases d <;> exact Keeps.pure _
theorem Keeps.loadCellsFrom (a:Addr):∀ (n i:Nat) (acc:Array Value),Keeps P (Go.loadCellsFrom a i n acc)
 | 0,_,acc=>Keeps.pure acc
 | n+1,i,acc=>Keeps.bind (Keeps.load _) fun v=>Keeps.loadCellsFrom a n (i+1) (acc.push v)
theorem Keeps.loadVar (T:TypeId) (a:Addr):Keeps P (Go.loadVar T a):=by
 refine Keeps.bind (Keeps.isAgg T) fun b=>?_;cases b with
 | true=>exact Keeps.bind (Keeps.sizeOf T) fun n=>Keeps.bind (Keeps.loadCellsFrom a n 0 #[]) fun _=>Keeps.pure _
 | false=>exact Keeps.load a
theorem Keeps.loadAt (T:TypeId) (x:Value):Keeps P (Instr.loadAt T x):=by
 unfold Instr.loadAt;refine Keeps.bind ?_ fun a=>Keeps.loadVar T a;unfold Instr.sureAddr;split
 ·
  exact Keeps.pure _
 exact Keeps.stuck _
theorem QD8 {ops:Array Oper}{Q:Exit->Act->World->Prop}{j:Nat}{o:Oper}{T:TypeId}{x:Operand}{K:Act->World->Prop}{a:Act}{w:World} (hj:ops[j]? = some o) (ho:o.op=.load T x)
  (h:wpOp P ops Q j K a w):wpOp P ops Q j (fun a' w'=>w'=w/\K a' w') a w:=by
 unfold wpOp at *;simp only [hj] at *;split
 ·
  rename_i hw;simp only [hw,if_true] at h;rcases h with h | h
  ·
   refine .inl ?_;unfold Oper.wp at *;have e:execOp a.eval o=(do pure (.value (<- Instr.loadAt T (a.eval x))):Sem Next):=by simp only [execOp,ho]
   rw [e] at h ⊢;cases hr:(Instr.loadAt T (a.eval x)).run P w with
   | ok v w' =>
    have hk:=Keeps.loadAt (P:=P) T (a.eval x) w v w' hr;subst hk;simp only [Sem.run_bind,hr,Result.andThen_ok,Sem.run_pure,Oper.upon] at h ⊢;exact ⟨trivial,h⟩
   | halt e w' =>
    simp only [Sem.run_bind,hr,Result.andThen] at h ⊢;cases e <;> first | (simp at h;done) | exact h
  exact .inr h
 rename_i hw;simp only [hw] at h;exact ⟨trivial,h⟩
theorem Qmt {ops:Array Oper}{md:Region.Mode}{Q:Exit->Act->World->Prop}{i:Nat}{oi:Oper}{v:Value}{w:World} (hi:ops[i]? = some oi) (hsel:∀ (j:Nat) (o:Oper) cs b,ops[j]? = some o->o.op≠.select cs b)
  (hQ:∀ c a w,Q (.panic c) (a.put oi.dst v) w->Q (.panic c) a w) :
  ∀ (fuel:Nat) (listed:Array Bool) (a:Act),
   (∀ j oj,ops[j]? = some oj->j≠i->listed.getD j true=false->(∀ e∈oj.after,Region.binds md e=true->e.on≠i)->oi.apart ops oj=true/\∃ T x,oj.op=.load T x) ->
   i∈Region.ready md ops listed->YieldsIf P ops (fun w'=>w'=w) oi v a ->
   wpAny P md ops Q fuel (listed.setIfInBounds i true) (a.put oi.dst v) w->wpAny P md ops Q (fuel+1) listed a w:=by
 intro fuel
 induction fuel with
 | zero =>
  intro listed a _ hr hy H;refine ⟨fun h=>(by rw [h] at hr;cases hr),fun j hj=>?_⟩;by_cases hji:j=i
  ·
   subst hji;exact hy.wpOp hi rfl H
  have:=ready_mono hj hji;rw [H.1] at this;cases this
 | succ fuel ih =>
  intro listed a hfree hr hy H;refine ⟨fun h=>(by rw [h] at hr;cases hr),fun j hj=>?_⟩;by_cases hji:j=i
  ·
   subst hji;exact hy.wpOp hi rfl H
  have h1:=H.2 j (ready_mono hj hji);obtain ⟨hjun,oj,hoj,hall⟩:=mem_ready.1 hj
  have hnot:∀ e∈oj.after,Region.binds md e=true->e.on≠i:=fun e he hb heq=>by
   have h1:=hall e he hb;have h0:=(mem_ready.1 hr).1;rw [heq] at h1;rcases Nat.lt_or_ge i listed.size with h' | h'
   ·
    simp [h'] at h0 h1;rw [h0] at h1;cases h1
   simp [Array.getElem?_eq_none h'] at h1
  obtain ⟨hap,T,x,hop⟩:=hfree j oj hoj hji hjun hnot;have h2:=QD8 hoj hop (wpOp_putIf hoj hap (fun cs b=>hsel i oi cs b hi) (fun cs b=>hsel j oj cs b hoj) hQ hy h1);refine wpOp_mono (fun a' w' h3=>?_) h2;obtain ⟨rfl,h4,h5⟩:=h3;refine ih (listed.setIfInBounds j true) a' (fun k ok hk hki hun hno=>?_) (ready_mono hr (Ne.symm hji)) h4 ?_
  ·
   refine hfree k ok hk hki ?_ hno;by_cases hjk:j=k
   ·
    subst hjk;exact hjun
   rw [getD_set_ne true hjk] at hun;exact hun
  rw [Array.setIfInBounds_comm _ _ hji];exact h5
end
def QLa (ops:Array Oper) (listed:Array Bool) (i:Nat):Bool :=
 match ops[i]? with
 | none=>false
 | some oi=>(List.range ops.size).all fun j=>j == i || listed.getD j true || match ops[j]? with
   | some oj=>oj.after.any (fun e=>Region.binds .any e && e.on == i) || (oi.apart ops oj && match oj.op with | .load .. => true | _=>false)
   | none=>true
theorem Qqs {ops:Array Oper}{i:Nat}{oi:Oper}{listed:Array Bool} (hi:ops[i]? = some oi) (h:QLa ops listed i=true) (j:Nat) (oj:Oper)
  (hj:ops[j]? = some oj) (hne:j≠i) (hun:listed.getD j true=false) (hno:∀ e∈oj.after,Region.binds .any e=true->e.on≠i) :
  oi.apart ops oj=true/\∃ T x,oj.op=.load T x:=by
 simp only [QLa,hi,List.all_eq_true,List.mem_range] at h;have h1:=h j (Array.getElem?_eq_some_iff.1 hj).1;simp only [hj,Bool.or_eq_true,beq_iff_eq,hne,false_or,hun,Bool.false_eq_true] at h1;rcases h1 with h1 | h1
 ·
  obtain ⟨e,he,hb⟩:=Array.any_eq_true'.1 h1;simp only [Bool.and_eq_true,beq_iff_eq] at hb;exact absurd hb.2 (hno e he hb.1)
 simp only [Bool.and_eq_true] at h1;refine ⟨h1.1,?_⟩;cases hop:oj.op <;> simp [hop] at h1 ⊢
def QBk (ops:Array Oper):List (Nat×Nat)->Array Bool->Bool
 | [],listed=>(Region.ready .any ops listed).isEmpty
 | (i,t)::plan,listed =>
  (decide (i < ops.size)) && (match t with
   | 0=>Region.free .any ops listed i && (Region.ready .any ops listed).contains i
   | 1=>(((ops[i]?).map fun o=>match o.op with | .load .. => true | _=>false).getD false && QLa ops listed i) && (Region.ready .any ops listed).contains i
   | _=>Region.ready .any ops listed == [i]) && QBk ops plan (listed.setIfInBounds i true)
def bare (w:World):World:={ w with heap:=#[] }
theorem Qnj (w w':World):Ext (bare w) w':=⟨fun i o h=>by simp [bare] at h⟩
theorem QD9 (w:World) (R:Env->World->(Env->World->Prop)->Prop):extR (bare w) R=R:=by
 funext e w' K;exact propext ⟨fun h=>h.2,fun h=>⟨Qnj _ _,h⟩⟩
theorem QEa {P:Program}{N:Nat}{ops:List Oper}{w0:World}{Q:Exit->Act->World->Prop}{K:Env->World->Prop} (hN:ops.all (Qdp N)=true) (hsel:Region.noSelect ops.toArray=true)
  (hQ:∀ c a w (d:Option Tmp) v,Q (.panic c) (a.put d v) w->Q (.panic c) a w)
  (hK:∀ e a w n,Fits N e a->K e w->Q .normal a (w.drewN n)):∀ (plan:List (Nat×Nat)) (fuel:Nat) (listed:Array Bool) (e:Env) (a:Act) (w:World) (n:Nat),
   plan.length<=fuel->QBk ops.toArray plan listed=true->Fits N e a->vcH P N ops (bare w0) (Qa6 ops (plan.map fun p=>(p.1,p.2 == 0))) e w K ->
   wpAny P .any ops.toArray Q fuel listed a (w.drewN n):=by
 intro plan
 induction plan with
 | nil =>
  intro fuel listed e a w n _ hp ha h;simp only [QBk,List.isEmpty_iff] at hp;exact wpAny_done hp (hK e a w n ha h) fuel
 | cons p plan ih =>
  obtain ⟨i,t⟩:=p;intro fuel listed e a w n hf hp ha h;simp only [QBk,Bool.and_eq_true,decide_eq_true_eq] at hp;obtain ⟨⟨hi,hstep⟩,hp⟩:=hp;have hi':i < ops.length:=by simpa using hi
  obtain ⟨o,ho⟩:∃ o,ops[i]? = some o:=⟨ops[i],List.getElem?_eq_getElem hi'⟩;have hoa:ops.toArray[i]? = some o:=by simpa using ho
  have hod:Qdp N o=true:=by
   rw [List.all_eq_true] at hN;exact hN o (List.mem_of_getElem? ho)
  have hpl:Qa6 ops (((i,t)::plan).map fun p=>(p.1,p.2 == 0))=(t == 0,o)::Qa6 ops (plan.map fun p=>(p.1,p.2 == 0)):=by simp [Qa6,ho]
  rw [hpl] at h;cases fuel with
  | zero=>simp at hf
  | succ fuel =>
  have hf':plan.length<=fuel:=by simpa using hf
  rcases Qdr ha h with ⟨e',ha',h',hw⟩ | ⟨e',ha',h',hw⟩
  ·
   have h':Qew P N (Qfo P o.op) (t == 0) o e' (bare w0) w (vcH P N ops (bare w0) (Qa6 ops (plan.map fun p=>(p.1,p.2 == 0)))) K:=h'
   match t,hstep,h' with
   | 0,hstep,h' =>
    simp only [Bool.and_eq_true] at hstep;cases hpo:Qfo P o.op with
    | true =>
     rw [hpo] at h';simp only [Qew,pw,beq_self_eq_true] at h';obtain ⟨v,hv,hr⟩:=Qd0 ha' h';refine wpAny_take hoa hsel hstep.1 hstep.2 (fun c a w=>hQ c a w o.dst v) (.inl ⟨hw,fun w'=>hr w' (Qnj _ _)⟩) ?_;exact ih fuel _ _ _ w n hf' hp (ha'.put' hod v) hv
    | false=>rw [hpo] at h';exact h'.elim
   | 1,hstep,h' =>
    simp only [Bool.and_eq_true] at hstep
    have hpo:Qfo P o.op=true:=by
     have h1:=hstep.1.1;rw [hoa] at h1;simp only [Option.map_some,Option.getD_some] at h1;cases hop:o.op <;> simp [hop] at h1 <;> rfl
    rw [hpo] at h';simp only [Qew,pw,show ((1:Nat) == 0)=false from rfl] at h';obtain ⟨v,hv,hr⟩:=Qd0 ha' h';refine Qmt hoa (Region.noSelect_spec hsel) (fun c a w=>hQ c a w o.dst v) fuel listed a (Qqs hoa hstep.1.2) (by simpa using hstep.2) (.inl ⟨hw,fun w' hw'=>by subst hw';exact hr _ (Ext.drewN w n)⟩) ?_;exact ih fuel _ _ _ w n hf' hp (ha'.put' hod v) hv
   | t+2,hstep,h' =>
    simp only [beq_iff_eq] at hstep;refine wpAny_all hstep (by simp) ?_;intro j hj;simp only [List.mem_singleton] at hj;subst hj;unfold wpOp;simp only [hoa,hw,if_true];refine .inl ?_;rw [show ((t+2:Nat) == 0)=false from rfl] at h';cases hpo:Qfo P o.op with
    | true =>
     rw [hpo] at h';simp only [Qew,pw] at h';obtain ⟨v,hv,hr⟩:=Qd0 ha' h';unfold Oper.wp;rw [hr (w.drewN n) (Ext.drewN w n)];exact ih fuel _ _ _ w n hf' hp (ha'.put' hod v) hv
    | false =>
     rw [hpo] at h';have h':MemH P N o e' (bare w0) w (vcH P N ops (bare w0) (Qa6 ops (plan.map fun p=>(p.1,p.2 == 0)))) K:=h';exact h' a n _ Q ha' fun v w' m hv=>ih fuel _ _ _ w' m hf' hp (ha'.put' hod v) hv.2
  have hnext:wpAny P .any ops.toArray Q fuel (listed.setIfInBounds i true) (a.put o.dst undef) (w.drewN n) :=
   ih fuel _ _ _ w n hf' hp (ha'.put' hod undef) h'
  match t,hstep with
  | 0,hstep =>
   simp only [Bool.and_eq_true] at hstep;exact wpAny_take hoa hsel hstep.1 hstep.2 (fun c a w=>hQ c a w o.dst undef) (.inr ⟨hw,rfl⟩) hnext
  | 1,hstep =>
   simp only [Bool.and_eq_true] at hstep;exact Qmt hoa (Region.noSelect_spec hsel) (fun c a w=>hQ c a w o.dst undef) fuel listed a (Qqs hoa hstep.1.2) (by simpa using hstep.2) (.inr ⟨hw,rfl⟩) hnext
  | t+2,hstep =>
   simp only [beq_iff_eq] at hstep;refine wpAny_all hstep (by simp) ?_;intro j hj;simp only [List.mem_singleton] at hj;subst hj;unfold wpOp;simp only [hoa,hw,Bool.false_eq_true,if_false];exact hnext
theorem Ql5 {P:Program}{fn:Func}{F:Value->World->Prop}{N:Nat}{k:List It}{e:Env}{w:World} (ks:List Nat) (plan:List (Nat×Nat)) {id:Nat}{ops:List Oper}{l:List (Bool×Oper)}
  (hm:P.follows .mixedOrders=true) (hB:(QBk ops.toArray plan (Array.replicate ops.toArray.size false) && Region.noSelect ops.toArray && decide (plan.length<=ops.length))=true) (hN:ops.all (Qdp N)=true) (hl:Qa6 ops (plan.map fun p=>(p.1,p.2 == 0))=l)
  (h:∀ K:Env->World->Prop,(∀ e w,VC ⟨P,fn,F,N⟩ k e w->K e w)->vcH P N ops (bare w) l e w (selC ks K)):VC ⟨P,fn,F,N⟩ (.code (.region id ops.toArray true)::k) e w:=by
 intro a n ha;simp only [Bool.and_eq_true,decide_eq_true_eq] at hB;obtain ⟨⟨hB1,hB2⟩,hB3⟩:=hB;refine wp_region_any (P:=P) hm ?_;subst hl;refine QEa (w0:=w) (K:=selC ks (VC ⟨P,fn,F,N⟩ k)) hN hB2 (fun c a w d v hq=>Qjm d v hq) (fun e a w n ha hv=>?_) plan _ _ e a w (n+1) (by simpa using hB3) hB1 ha (h _ fun _ _ hv=>hv);exact ((Qc7 ks e _).1 hv) a n (ha.sel ks)
attribute [go_sem] QD9
inductive Qpu where
 | seq (pre:List (Nat×Bool)):Qpu
 | two (pre:List (Nat×Bool)) (i j:Nat) (k k':Qpu):Qpu
 | three (pre:List (Nat×Bool)) (i j x:Nat) (k k' k'':Qpu):Qpu
def Qgw (ops:Array Oper):Qpu->Nat->Array Bool->Bool
 | .seq pre,fuel,listed=>decide (pre.length<=fuel) && match Qha ops pre listed with
  | some l=>(Region.ready .any ops l).isEmpty
  | none=>false
 | .two pre i j k k',fuel,listed=>decide (pre.length+1<=fuel) && match Qha ops pre listed with
  | some l=>Region.ready .any ops l == [i,j] && decide (i < ops.size) && decide (j < ops.size) && Qgw ops k (fuel - pre.length - 1) (l.setIfInBounds i true) && Qgw ops k' (fuel - pre.length - 1) (l.setIfInBounds j true)
  | none=>false
 | .three pre i j x k k' k'',fuel,listed=>decide (pre.length+1<=fuel) && match Qha ops pre listed with
  | some l=>Region.ready .any ops l == [i,j,x] && decide (i < ops.size) && decide (j < ops.size) && decide (x < ops.size) && Qgw ops k (fuel - pre.length - 1) (l.setIfInBounds i true) && Qgw ops k' (fuel - pre.length - 1) (l.setIfInBounds j true) && Qgw ops k'' (fuel - pre.length - 1) (l.setIfInBounds x true)
  | none=>false
def vcT3 (P:Program) (N:Nat) (ops:List Oper) (w0:World):Qpu->Env->World->(Env->World->Prop)->Prop
 | .seq pre,e,w,K=>vcH P N ops w0 (Qa6 ops pre) e w K
 | .two pre i j k k',e,w,K=>vcH P N ops w0 (Qa6 ops pre) e w fun e w =>
   vcH P N ops w0 (Qa6 ops [(i,false)]) e w (fun e w=>vcT3 P N ops w0 k e w K)/\vcH P N ops w0 (Qa6 ops [(j,false)]) e w (fun e w=>vcT3 P N ops w0 k' e w K)
 | .three pre i j x k k' k'',e,w,K=>vcH P N ops w0 (Qa6 ops pre) e w fun e w =>
   vcH P N ops w0 (Qa6 ops [(i,false)]) e w (fun e w=>vcT3 P N ops w0 k e w K)/\vcH P N ops w0 (Qa6 ops [(j,false)]) e w (fun e w=>vcT3 P N ops w0 k' e w K)/\vcH P N ops w0 (Qa6 ops [(x,false)]) e w (fun e w=>vcT3 P N ops w0 k'' e w K)
section
variable {P:Program}{N:Nat}{ops:List Oper}{w0:World}{Q:Exit->Act->World->Prop}
theorem QBl {K:Env->World->Prop} (hN:ops.all (Qdp N)=true) (hsel:Region.noSelect ops.toArray=true)
  (hQ:∀ c a w (d:Option Tmp) v,Q (.panic c) (a.put d v) w->Q (.panic c) a w)
  (hK:∀ e a w n,Fits N e a->K e w->Q .normal a (w.drewN n)):∀ (t:Qpu) (fuel:Nat) (listed:Array Bool) (e:Env) (a:Act) (w:World) (n:Nat),
   Qgw ops.toArray t fuel listed=true->Fits N e a->Ext w0 w->vcT3 P N ops w0 t e w K ->
   wpAnyH P .any ops.toArray Q (fun w'=>Ext w0 w') fuel listed a (w.drewN n):=by
 intro t
 induction t with
 | seq pre =>
  intro fuel listed e a w n ht ha hx h;simp only [Qgw,Bool.and_eq_true,decide_eq_true_eq] at ht;obtain ⟨hf,ht⟩:=ht;cases hp:Qha ops.toArray pre listed with
  | none=>rw [hp] at ht;cases ht
  | some l =>
   rw [hp] at ht;simp only [List.isEmpty_iff] at ht;exact Qky hN hsel hQ pre fuel listed l e a w n hf hp ha hx h fun e a w n h1 _ h3=>wpAnyH_done ht (hK e a w n h1 h3) _
 | two pre i j k k' ihk ihk' =>
  intro fuel listed e a w n ht ha hx h;simp only [Qgw,Bool.and_eq_true,decide_eq_true_eq] at ht;obtain ⟨hf,ht⟩:=ht;cases hp:Qha ops.toArray pre listed with
  | none=>rw [hp] at ht;cases ht
  | some l =>
   rw [hp] at ht;simp only [Bool.and_eq_true,beq_iff_eq,decide_eq_true_eq] at ht;obtain ⟨⟨⟨⟨hr,hi⟩,hj⟩,h1⟩,h2⟩:=ht;refine Qky hN hsel hQ pre fuel listed l e a w n (by omega) hp ha hx h fun e a w n g1 g2 g3=>?_;obtain ⟨m,hm⟩:∃ m,fuel - pre.length=m+1:=⟨fuel - pre.length - 1,by omega⟩;rw [hm];have hm':fuel - pre.length - 1=m:=by omega
   rw [hm'] at h1 h2;refine wpAnyH_all hr (by simp) ?_;intro x hx2;simp only [List.mem_cons,List.not_mem_nil,or_false] at hx2;rcases hx2 with rfl | rfl
   ·
    exact Qhb hN (by simpa using hi) g1 g2 g3.1 fun e a w n f1 f2 f3=>⟨f2.trans (Ext.drewN w n),ihk m _ e a w n h1 f1 f2 f3⟩
   exact Qhb hN (by simpa using hj) g1 g2 g3.2 fun e a w n f1 f2 f3=>⟨f2.trans (Ext.drewN w n),ihk' m _ e a w n h2 f1 f2 f3⟩
 | three pre i j y k k' k'' ihk ihk' ihk'' =>
  intro fuel listed e a w n ht ha hx h;simp only [Qgw,Bool.and_eq_true,decide_eq_true_eq] at ht;obtain ⟨hf,ht⟩:=ht;cases hp:Qha ops.toArray pre listed with
  | none=>rw [hp] at ht;cases ht
  | some l =>
   rw [hp] at ht;simp only [Bool.and_eq_true,beq_iff_eq,decide_eq_true_eq] at ht;obtain ⟨⟨⟨⟨⟨⟨hr,hi⟩,hj⟩,hy⟩,h1⟩,h2⟩,h3⟩:=ht;refine Qky hN hsel hQ pre fuel listed l e a w n (by omega) hp ha hx h fun e a w n g1 g2 g3=>?_;obtain ⟨m,hm⟩:∃ m,fuel - pre.length=m+1:=⟨fuel - pre.length - 1,by omega⟩;rw [hm];have hm':fuel - pre.length - 1=m:=by omega
   rw [hm'] at h1 h2 h3;refine wpAnyH_all hr (by simp) ?_;intro x hx2;simp only [List.mem_cons,List.not_mem_nil,or_false] at hx2;rcases hx2 with rfl | rfl | rfl
   ·
    exact Qhb hN (by simpa using hi) g1 g2 g3.1 fun e a w n f1 f2 f3=>⟨f2.trans (Ext.drewN w n),ihk m _ e a w n h1 f1 f2 f3⟩
   ·
    exact Qhb hN (by simpa using hj) g1 g2 g3.2.1 fun e a w n f1 f2 f3=>⟨f2.trans (Ext.drewN w n),ihk' m _ e a w n h2 f1 f2 f3⟩
   exact Qhb hN (by simpa using hy) g1 g2 g3.2.2 fun e a w n f1 f2 f3=>⟨f2.trans (Ext.drewN w n),ihk'' m _ e a w n h3 f1 f2 f3⟩
end
theorem Qxg {P:Program}{fn:Func}{F:Value->World->Prop}{N:Nat}{k:List It}{e:Env}{w:World} (w0:World) (hx:Ext w0 w) (ks:List Nat) (t:Qpu) {id:Nat}{ops:List Oper}
  (hm:P.follows .mixedOrders=true) (hB:(Qgw ops.toArray t ops.toArray.size (Array.replicate ops.toArray.size false) && Region.noSelect ops.toArray)=true) (hN:ops.all (Qdp N)=true)
  (h:∀ K:Env->World->Prop,(∀ e w,VC ⟨P,fn,F,N⟩ k e w->K e w)->vcT3 P N ops w0 t e w (selC ks K)):VC ⟨P,fn,F,N⟩ (.code (.region id ops.toArray true)::k) e w:=by
 intro a n ha;simp only [Bool.and_eq_true] at hB;obtain ⟨hB1,hB2⟩:=hB;refine wp_region_held (S:=fun w'=>Ext w0 w') hm ?_;refine QBl (K:=selC ks (VC ⟨P,fn,F,N⟩ k)) hN hB2 (fun c a w d v hq=>Qjm d v hq) (fun e a w n ha hv=>?_) t _ _ e a w (n+1) hB1 ha hx (h _ fun _ _ hv=>hv);exact ((Qc7 ks e _).1 hv) a n (ha.sel ks)
def Qdq {α:Type} (f:α->List Value) (l:List α):List Value:=l.flatMap f
section
variable {α:Type}{f:α->List Value}{k:Nat}
theorem Quc (hk:∀ x,(f x).length=k) (l:List α):(Qdq f l).length=l.length * k:=by
 induction l with
 | nil=>simp [Qdq]
 | cons x l ih=>simp only [Qdq,List.flatMap_cons,List.length_append,List.length_cons,Nat.succ_mul] at ih ⊢;rw [ih,hk];omega
theorem Qi3 (l m:List α):Qdq f (l++m)=Qdq f l++Qdq f m:=by simp [Qdq]
theorem Qud (x:α):Qdq f [x]=f x:=by simp [Qdq]
theorem Que (hk:∀ x,(f x).length=k):∀ (l:List α) (i:Nat) (x:α),l[i]? = some x->∀ j u,(f x)[j]? = some u->(Qdq f l)[i * k+j]? = some u:=by
 intro l
 induction l with
 | nil=>intro i x h;simp at h
 | cons y l ih =>
  intro i x h j u hu;have hj:j < k:=by have:=(List.getElem?_eq_some_iff.1 hu).1;rwa [hk] at this
  cases i with
  | zero =>
   simp at h;subst h;simp only [Qdq,List.flatMap_cons];rw [Nat.zero_mul,Nat.zero_add,List.getElem?_append_left (by rw [hk];exact hj)];exact hu
  | succ i =>
   have:=ih i x (by simpa using h) j u hu;simp only [Qdq,List.flatMap_cons] at this ⊢;rw [List.getElem?_append_right (by rw [hk,Nat.succ_mul];omega),<- this,hk]
   congr 1
   rw [Nat.succ_mul];omega
theorem Qqt (hk:∀ x,(f x).length=k):∀ (l:List α) (i:Nat),(Qdq f l).take (i * k)=Qdq f (l.take i):=by
 intro l
 induction l with
 | nil=>intro i;simp [Qdq]
 | cons y l ih =>
  intro i;cases i with
  | zero=>simp [Qdq]
  | succ i =>
   have:=ih i;simp only [Qdq,List.flatMap_cons,List.take_succ_cons] at this ⊢;rw [Nat.succ_mul,Nat.add_comm,List.take_append,hk,List.take_of_length_le (by rw [hk];omega),show k+i * k - k=i * k by omega,this]
theorem QBm (hk:∀ x,(f x).length=k):∀ (l:List α) (i:Nat),(Qdq f l).drop (i * k)=Qdq f (l.drop i):=by
 intro l
 induction l with
 | nil=>intro i;simp [Qdq]
 | cons y l ih =>
  intro i;cases i with
  | zero=>simp [Qdq]
  | succ i =>
   have:=ih i;simp only [Qdq,List.flatMap_cons,List.drop_succ_cons] at this ⊢;rw [Nat.succ_mul,Nat.add_comm,List.drop_append,hk,List.drop_of_length_le (by rw [hk];omega),show k+i * k - k=i * k by omega,this,List.nil_append]
theorem Quf (hk:∀ x,(f x).length=k) (l:List α) (i:Nat) (y:α) (hi:i < l.length):(Qdq f l).take (i * k)++f y++(Qdq f l).drop (i * k+k)=Qdq f (l.set i y):=by
 rw [Qqt hk,show i * k+k=(i+1) * k by rw [Nat.succ_mul],QBm hk,List.set_eq_take_append_cons_drop,if_pos hi,Qi3,List.append_assoc]
 congr 1
theorem Qh4 {w:World}{p:Addr}{n:Nat} (hk:∀ x,(f x).length=k) {l:List α} (h:RS w (some p) n k (Qdq f l)) (hp:p.spot=none) {i:Nat}{x:α} (hi:l[i]? = some x):Reads w (p.add (i * k)) (f x) :=
 QD7 h hp _ _ fun j u hu=>Que hk l i x hi j u hu
end
theorem QLb {α:Type} (zs:List α) (k:Nat) (hk:zs.length=k) (hk0:0 < k):∀ (c j:Nat),j < c * k->(List.replicate c zs).flatten[j]? = zs[j % k]? := by
 intro c
 induction c with
 | zero=>intro j h;simp at h
 | succ c ih =>
  intro j h;rw [List.replicate_succ,List.flatten_cons];rcases Nat.lt_or_ge j k with h1 | h1
  ·
   rw [List.getElem?_append_left (by omega),Nat.mod_eq_of_lt h1]
  rw [List.getElem?_append_right (by omega),hk,ih (j - k) (by rw [Nat.succ_mul] at h;omega)]
  congr 1
  conv=>rhs;rw [show j=(j - k)+k by omega,Nat.add_mod_right]
theorem QEb {α:Type} (zs:List α) (k:Nat) (hk:zs.length=k) (c:Nat):(List.replicate c zs).flatten.length=c * k:=by
 induction c with
 | zero=>simp
 | succ c ih=>rw [List.replicate_succ,List.flatten_cons,List.length_append,ih,Nat.succ_mul];omega
section
variable {P:Program}{N:Nat}{d:Option Tmp}{ty:TypeId}{pos:String}{af:Array Edge}{gd:Option (Nat×Bool)}{e:Env}{w:World}{R:Env->World->(Env->World->Prop)->Prop}{K:Env->World->Prop}
theorem Qpv {T E:TypeId}{i:TypeInfo}{z:Value}{zs:List Value}{k:Nat} (hu:P.underlying T=some (.slice E)) (hi:P.info? E=some i) (hz:i.zero=some z) (hzv:z.cells=zs.toArray) (h1:i.size=k) (hk:zs.length=k) (hk0:0 < k)
  {l c:Nat} (hlc:l<=c) (hb:i.bytes * c<=2 ^ 48) (hc:c<=maxLen) (w:World) :
  (Instr.makeSlice T (.int .i64 l) (.int .i64 c)).run P w=.ok (.slice (some ⟨w.heap.size,0,none⟩) l c) (w.alloc (.cells (List.replicate c zs).flatten.toArray E)):=by
 have hcm:(c:Int)<=9223372036854775807:=by simp only [maxLen] at hc;omega
 have e1:IntKind.i64.wrap (l:Int)=l:=Qfq ⟨by omega,by omega⟩;have e2:IntKind.i64.wrap (c:Int)=c:=Qfq ⟨by omega,by omega⟩
 have hb1:((i.bytes * c:Nat):Int)<=281474976710656:=by
  have h:i.bytes * c<=281474976710656:=hb;omega
 have hb':¬ ((i.bytes:Int) * (c:Int) > 281474976710656):=by
  have e3:((i.bytes * c:Nat):Int)=(i.bytes:Int) * (c:Int):=Int.natCast_mul _ _;omega
 have hrow:(Array.range (c * k)).map (fun x=>(zs.toArray:Array Value)[x % zs.toArray.size]!)=(List.replicate c zs).flatten.toArray:=by
  apply Array.ext
  ·
   simp [QEb zs k hk c]
  intro j h3 h4;have h5:j < c * k:=by simpa using h3
  have h6:=QLb zs k hk hk0 c j h5;have h7:j % k < zs.length:=by rw [hk];exact Nat.mod_lt _ hk0
  rw [List.getElem?_eq_getElem (by rw [QEb zs k hk c];exact h5),List.getElem?_eq_getElem h7] at h6;simp only [Array.getElem_map,Array.getElem_range,List.getElem_toArray,List.size_toArray,hk];rw [getElem!_pos zs.toArray (j % k) (by simpa using h7)];simpa using (Option.some.inj h6).symm
 have hti:∀ w,(typeInfo E).run P w=.ok i w:=fun w=>by simp [typeInfo,hi]
 have hzi:∀ w,(zeroValue E).run P w=.ok z w:=fun w=>by simp [zeroValue,typeInfo,hi,hz]
 have hso:∀ w,(sizeOf E).run P w=.ok k w:=fun w=>by simp [sizeOf,typeInfo,hi,h1]
 simp only [Instr.makeSlice,Sem.run_bind,run_underlying hu,Result.andThen_ok,asInt,asIntOf,Sem.run_pure,hti,e1,e2];rw [if_neg (by simp [hb'];omega)];simp only [Sem.run_bind,Qh3,Result.andThen_ok,hso,Int.toNat_natCast];by_cases hc0:c=0
 ·
  subst hc0;simp only [Nat.zero_mul,if_true,Sem.run_bind,Sem.run_pure,Result.andThen_ok,Qd2];simp [show Array.range 0=#[] from rfl]
 have hck:c * k≠0:=Nat.mul_ne_zero hc0 (by omega);rw [if_neg hck];simp only [Sem.run_bind,hzi,Result.andThen_ok,Sem.run_pure,Qd2,hzv];rw [<- hrow]
theorem QBn {T E:TypeId}{x y:Operand}{zs:List Value}{k bytes:Nat} (hu:P.underlying T=some (.slice E)) (hz:(P.info? E).map (fun i=>(i.zero.map Value.cells,i.size,i.bytes))=some (some zs.toArray,k,bytes)) (hk:zs.length=k) (hk0:0 < k)
  (h:arg e x fun vl=>arg e y fun vc=>∃ l c:Nat,(vl=.int .i64 l/\vc=.int .i64 c/\l<=c/\bytes * c<=281474976710656/\c<=9223372036854775807)/\R (e.put d (.slice (some ⟨w.heap.size,0,none⟩) l c)) (w.alloc (.cells (List.replicate c zs).flatten.toArray E)) K) :
  MemK P N ⟨d,.makeSlice T x y,ty,pos,af,gd⟩ e w R K :=
 Qd1 fun a n ha=>by
  obtain ⟨l,c,⟨h1,h2,h3,h4,h5⟩,hR⟩:=Qa2 (K:=fun vc=>∃ l c:Nat,(a.eval x=.int .i64 l/\vc=.int .i64 c/\l<=c/\bytes * c<=281474976710656/\c<=9223372036854775807)/\R (e.put d (.slice (some ⟨w.heap.size,0,none⟩) l c)) (w.alloc (.cells (List.replicate c zs).flatten.toArray E)) K) ha
   (Qa2 (K:=fun vl=>arg e y fun vc=>∃ l c:Nat,(vl=.int .i64 l/\vc=.int .i64 c/\l<=c/\bytes * c<=281474976710656/\c<=9223372036854775807)/\R (e.put d (.slice (some ⟨w.heap.size,0,none⟩) l c)) (w.alloc (.cells (List.replicate c zs).flatten.toArray E)) K) ha h)
  cases hi:P.info? E with
  | none=>simp [hi] at hz
  | some i =>
   simp only [hi,Option.map_some,Option.some.injEq,Prod.mk.injEq] at hz;obtain ⟨hz1,hz2,hz3⟩:=hz;cases hzz:i.zero with
   | none=>simp [hzz] at hz1
   | some z =>
    simp only [hzz,Option.map_some,Option.some.injEq] at hz1;refine ⟨_,w.alloc (.cells (List.replicate c zs).flatten.toArray E),n,?_,hR⟩;have:=Qpv hu hi hzz hz1 hz2 hk hk0 h3 (by rw [hz3];exact h4) (by simp only [maxLen];omega) (w.drewN n);simp only [execOp,h1,h2,this,Sem.run_bind,Result.andThen_ok,Sem.run_pure];rfl
theorem Qpw {T E:TypeId} (hu:P.underlying T=some (.slice E)) (d:Nat) (a:Option Addr) (n c n' c':Nat) (w:World):(Op.equalIn (d+1) T (.slice a n c) (.slice none n' c')).run P w=.ok a.isNone w:=by
 unfold Op.equalIn;cases a <;> simp [run_underlying hu]
theorem QHs {T E:TypeId}{KV:Value->Prop} (hu:P.underlying T=some (.slice E)) (a:Option Addr) (n c n' c':Nat) (xo yo:Operand):Qby P .eql T xo yo (.slice a n c) (.slice none n' c') w KV=KV (.bool a.isNone):=by
 refine Qms fun w'=>?_;simp only [Sem.run_bind];rw [Qf3 ⟨by simp,by simp⟩];have:(Op.equal T (.slice a n c) (.slice none n' c')).run P w'=.ok a.isNone w':=Qpw hu 9999 a n c n' c' w';simp only [Result.andThen_ok,binOp,Sem.run_bind,this,Sem.run_pure]
theorem Heap.hole_at {w0:World}{B:List Nat}{G:List Res}{r:Res} (h:Heap w0 B w G) (i j:Nat) (hi:G[i]? = some r) {g T k:Nat}{cs:List Value}{v:Value} (hj:G[j]? = some (Res.blk g T cs)) (hij:i≠j) (hv:cs[k]? = some v):(holes r.foot w).cell? ⟨g,k,none⟩=some v:=by
 refine Qqi (Qae (h.at j hj) hv) ?_;obtain ⟨h1,e1⟩:=List.getElem?_eq_some_iff.1 hi;obtain ⟨h2,e2⟩:=List.getElem?_eq_some_iff.1 hj;have ha:=List.pairwise_iff_getElem.1 h.apart;rcases Nat.lt_or_ge i j with h3 | h3
 ·
  have h4:=ha i j h1 h2 h3;rw [e1,e2] at h4;exact fun hb=>h4 g hb (by simp [Res.blk])
 have h4:=ha j i h2 h1 (by omega);rw [e1,e2] at h4;exact h4 g (by simp [Res.blk])
theorem QBo {T sz n cap m:Nat}{a:Option Addr}{xs:List Value} (h:(Res.row T sz a n cap xs).holds w) (hm:m<=n):(Res.row T sz a m cap (xs.take (m * sz))).holds w:=by
 obtain ⟨h1,h2,h3,h4⟩:=h;have hms:m * sz<=n * sz:=Nat.mul_le_mul_right _ hm;refine ⟨by rw [List.length_take];omega,by omega,h3,?_⟩;rcases h4 with ⟨rfl,hn,hc⟩ | ⟨g,rest,fz,rfl,hg,hl,hf⟩
 ·
  exact .inl ⟨rfl,by omega,hc⟩
 refine .inr ⟨g,xs.drop (m * sz)++rest,fz,rfl,?_,?_,hf⟩
 ·
  rw [<- List.append_assoc,List.take_append_drop];exact hg
 rw [<- List.append_assoc,List.take_append_drop];exact hl
end
def Qip (L:Option Nat):Fence:={ Fence.wide with round:=L }
theorem Qsb {L:Option Nat}{P:Program}{m m':Machine}{e:Ending} (h:Comes P m m' e):ComesIn (Machine.fenced P (Qip L)) P m m' e:=comesIn_wide.2 h
theorem Qkz {L:Option Nat}{n:Nat}{P:Program}{f:FuncId}{args:Array Value}{w:World}{R:Ending->World->Prop} (h:Calls P f args w R):CallsIn (Qip L) n P f args w R :=
 ⟨trivial,fun cs _=>let ⟨e,w',fr,r,s,x⟩:=h cs;⟨e,w',fr,r,Qsb s,x⟩⟩
theorem Qsc {L:Option Nat}{P:Program}{m m':Machine} (h:Steps P m m'):StepsIn (Machine.fenced P (Qip L)) P m m':=stepsIn_wide.2 h
theorem Qug {L:Option Nat}{n:Nat}{P:Program}{row:String}{args:Array Value}{w:World}{R:Value->World->Prop} (h:Rows P row args w R):RowsIn (Qip L) n P row args w R :=
 fun c cs _=>let ⟨v,w',r,s⟩:=h c cs;⟨v,w',r,Qsc s⟩
def Qex (o:Oper):Bool:=match o.op with | .defer _=>false | _=>true
theorem Quh {o:Oper} (h:Qex o=true):∀ c,o.op≠.defer c:=by
 intro c hc;simp [Qex,hc] at h
def _root_.Go.Act.app (a:Act) (D:List Deferred):Act:={ a with defers:=a.defers++D }
theorem Qi4 (a:Act) (D:List Deferred) (d:Option Tmp) (v:Value):(a.put d v).app D=(a.app D).put d v:=by cases d <;> rfl
theorem QHt (a:Act) (D:List Deferred):(a.app D).eval=a.eval:=by funext x;cases x <;> rfl
def Qapp (D:List Deferred) (Q:Exit->Act->World->Prop):Exit->Act->World->Prop
 | .normal,a,w=>a.defers=[]/\Q .normal (a.app D) w
 | .panic c,a,w=>Q (.panic c) (a.app D) w
 | _,_,_=>False
theorem QJc {P:Program}{L:Option Nat}{D:List Deferred}{Q:Exit->Act->World->Prop}{o:Oper}{a:Act}{w:World}{next next':Act->World->Prop} (hd:Qex o=true)
  (hn:∀ a w,next a w->next' (a.app D) w) (h:o.wp P a w next (Qapp D Q)):o.wpIn (Qip L) 0 P (a.app D) w next' Q:=by
 refine ⟨fun _ _=>trivial,?_⟩;rw [Oper.semAt_eq _ _ _ (Quh hd),QHt];unfold Oper.wp at h;generalize (execOp a.eval o).run P w=r at *;have hdep:(Qip L).depth.isSome=true->1<=0:=by simp [Qip,Fence.wide]
 cases r with
 | ok x w' =>
  cases x <;> simp only [Oper.upon,Oper.uponIn] at h ⊢
  case value v=>rw [<- Qi4];exact hn _ _ h
  case skip=>rw [<- Qi4];exact hn _ _ h
  case defer d=>have h2:=hn _ _ h;rw [Qi4] at h2;exact h2
  case enter f args =>
   refine ⟨hdep,Qkz (h.mono fun e w'' he=>?_)⟩;cases e with
   | returned v=>have h2:=hn _ _ he;rw [Qi4] at h2;exact h2
   | panicked c=>exact he
   | outgrown=>obtain ⟨_,_,he⟩:=he;exact he.elim
  case row row args=>exact ⟨hdep,Qug (h.mono fun v w'' he=>by have h2:=hn _ _ he;rw [Qi4] at h2;exact h2)⟩
 | halt x w'=>cases x <;> simp only [Oper.upon,Oper.uponIn] at h ⊢ <;> exact h
theorem Qui {P:Program}{L:Option Nat}{D:List Deferred}{Q:Exit->Act->World->Prop}{ops:Array Oper} (hd:ops.toList.all Qex=true):∀ (l:List Nat) (a:Act) (w:World),
  wpOps P ops (Qapp D Q) l a w->wpOpsIn (Qip L) 0 P ops Q l (a.app D) w:=by
 intro l
 induction l with
 | nil=>intro a w h;exact h.2
 | cons i rest ih =>
  intro a w h;simp only [wpOps,wpOpsIn] at h ⊢;cases ho:ops[i]? with
  | none=>simp only [ho] at h ⊢;exact ih _ _ h
  | some o =>
   simp only [ho] at h ⊢
   have hdo:Qex o=true:=by
    rw [List.all_eq_true] at hd;exact hd o (by rw [Array.mem_toList_iff];exact Array.mem_of_getElem? ho)
   have ht:(a.app D).tmps=a.tmps:=rfl;rw [ht];split
   ·
    rename_i hw;rw [if_pos hw] at h;rcases h with h | ⟨_,_,_,h⟩
    ·
     exact QJc hdo ih h
    exact h.elim
   rename_i hw;rw [if_neg hw] at h;have h2:=ih _ _ h;rw [Qi4] at h2;exact ⟨fun _ _=>trivial,h2⟩
theorem QBp {P:Program}{L:Option Nat}{D:List Deferred}{Q:Exit->Act->World->Prop}{id:Nat}{l:List Oper}{a:Act}{w:World} (hd:l.all Qex=true)
  (h:wpList P l.toArray (Qapp D Q) l a w):(Code.region id l.toArray false).wpIn (Qip L) 0 P Q (a.app D) w:=by
 refine wpIn_region (Qui (by simpa using hd) _ a w ?_);rw [List.range_eq_range',<- Array.length_toList,wpOps_eq_wpList l.toArray.toList 0 (by simp)];simpa using h
theorem Qpx {P:Program}{L:Option Nat}{D:List Deferred}{Q:Exit->Act->World->Prop}{id:Nat}{ops:Array Oper}{a:Act}{w:World} (hm:P.follows .mixedOrders=true) (hd:ops.toList.all Qex=true)
  (h:wpAny P .any ops (Qapp D Q) ops.size (Array.replicate ops.size false) a { w with drawn:=w.drawn+1 }):(Code.region id ops true).wpIn (Qip L) 0 P Q (a.app D) w :=
 wpIn_region_draw fun t=>Qui hd _ a _ (by
  simp only [Region.schedule,hm,Bool.true_or,if_true];exact wpAny_sound ops.size t _ a _ h)
structure CtxG where
 P:Program
 N:Nat
 L:Option Nat
 D:List Deferred
 post:Exit->Act->World->Prop
structure FitsG (N:Nat) (D:List Deferred) (e:Env) (a:Act):Prop where
 size:a.tmps.size=N
 defers:a.defers=D
 at_:∀ t v,e.find? t=some v->a.tmps.getD t undef=v
theorem FitsG.bare {N:Nat}{D:List Deferred}{e:Env}{a:Act} (h:FitsG N D e a):Fits N e { a with defers:=[] }:=⟨h.size,rfl,h.at_⟩
theorem FitsG.of {N:Nat}{D:List Deferred}{e:Env}{a:Act} (h:Fits N e a):FitsG N D e (a.app D):=⟨h.size,by simp [Act.app,h.defers],h.at_⟩
theorem FitsG.app {N:Nat}{D:List Deferred}{e:Env}{a:Act} (h:FitsG N D e a):({ a with defers:=[] }:Act).app D=a:=by
 cases a;have:=h.defers;simp only at this;subst this;rfl
theorem FitsG.weaken {N:Nat}{D:List Deferred}{e e':Env}{a:Act} (h:FitsG N D e a) (hs:∀ t v,e'.find? t=some v->e.find? t=some v):FitsG N D e' a :=
 ⟨h.size,h.defers,fun t v ht=>h.at_ t v (hs t v ht)⟩
theorem FitsG.sel {N:Nat}{D:List Deferred}{e:Env}{a:Act} (h:FitsG N D e a) (ks:List Nat):FitsG N D (e.sel ks) a:=h.weaken fun t v ht=>Env.find?_sel ks e t v ht
theorem FitsG.eval {N:Nat}{D:List Deferred}{e:Env}{a:Act}{x:Operand}{K:Value->Prop} (ha:FitsG N D e a) (h:arg e x K):K (a.eval x):=by
 have h1:=Qa2 ha.bare h;cases x <;> exact h1
def Qiq (C:CtxG):List It->Exit->Act->World->Prop
 | [],ex,a,w=>C.post ex a w
 | .code c::k,ex,a,w=>match ex with
  | .normal=>c.wpIn (Qip C.L) 0 C.P (fun ex a w=>Qiq C k ex a w) a w
  | ex=>Qiq C k ex a w
 | .blk id::k,ex,a,w=>match ex with
  | .exit id'=>if id'=id then Qiq C k .normal a w else Qiq C k (.exit id') a w
  | ex=>Qiq C k ex a w
 | .again I::k,ex,a,w=>match ex with
  | .normal=>∃ e w0 n,w=w0.drewN n/\FitsG C.N C.D e a/\I e w0
  | ex=>Qiq C k ex a w
def VG (C:CtxG) (k:List It) (e:Env) (w:World):Prop:=∀ a n,FitsG C.N C.D e a->Qiq C k .normal a (w.drewN n)
section
variable {C:CtxG}{k:List It}{e:Env}{w:World}
theorem Qf4 {x y:Code} (h:VG C (.code x::.code y::k) e w):VG C (.code (.seq x y)::k) e w:=by
 intro a n ha;have h1:=h a n ha;simp only [Qiq] at h1 ⊢;refine wpIn_seq (wpIn_mono h1 fun ex a w hq=>?_);cases ex <;> exact hq
theorem Qoa (h:VG C k e w):VG C (.code .skip::k) e w:=fun a n ha=>wpIn_skip (h a n ha)
theorem QEc {k:List It}{a:Act} (h:C.post .ret a w):Qiq C k .ret a w:=by
 induction k with
 | nil=>exact h
 | cons x k ih=>cases x <;> exact ih
theorem Qxh {k:List It}{c:List PanicEntry}{a:Act}:Qiq C k (.panic c) a w ↔ C.post (.panic c) a w:=by
 induction k with
 | nil=>exact Iff.rfl
 | cons x k ih=>cases x <;> exact ih
theorem QJd (h:∀ a n,FitsG C.N C.D e a->C.post .ret a (w.drewN n)):VG C (.code .ret::k) e w:=fun a n ha=>wpIn_ret (QEc (h a n ha))
theorem QEd (h:∀ a n,FitsG C.N C.D e a->C.post .normal a (w.drewN n)):VG C [] e w:=fun a n ha=>h a n ha
theorem Qi5 {c:Operand}{t:Tmp}{b:Bool}{x y:Code} (hc:c=.tmp t) (hv:e.find? t=some (.bool b))
  (ht:b=true->VG C (.code x::k) e w) (hf:b=false->VG C (.code y::k) e w):VG C (.code (.cond c x y)::k) e w:=by
 intro a n ha;subst hc;exact wpIn_cond_split (t:=b) (ha.at_ t _ hv) (fun h=>ht h a n ha) (fun h=>hf h a n ha)
end
section
variable {C:CtxG}{k:List It}{e:Env}{w:World}
def endG (C:CtxG) (k:List It):Exit->Act->World->Prop:=fun ex a w=>match ex with | .normal=>Qiq C k .normal a w | _=>False
theorem Quj (ex:Exit) (a:Act) (w:World) (h:endG C k ex a w):Qiq C k ex a w:=by
 cases ex <;> first | exact h | exact h.elim
theorem Qob (ks:List Nat) {e:Env}{a:Act}{w:World}{n:Nat} (ha:Fits C.N e a) (hv:selC ks (VG C k) e w):Qapp C.D (endG C k) .normal a (w.drewN n) :=
 ⟨ha.defers,((Qc7 ks e _).1 hv) _ n ((FitsG.of ha).sel ks)⟩
theorem Quk (ks:List Nat) {id:Nat}{ops:List Oper} (hN:(ops.all (Qdp C.N) && ops.all Qex)=true)
  (h:∀ K:Env->World->Prop,(∀ e w,VG C k e w->K e w)->Qay C.P C.N ops ops e w (selC ks K)):VG C (.code (.region id ops.toArray false)::k) e w:=by
 intro a n ha;simp only [Bool.and_eq_true] at hN;rw [<- ha.app];refine wpIn_mono (QBp (Q:=endG C k) hN.2 ?_) Quj;exact Qfr (K:=selC ks (VG C k)) (fun e a w n ha hv=>Qob ks ha hv) ops e _ w n hN.1 ha.bare (h _ fun _ _ hv=>hv)
theorem Qqu (w0:World) (hx:Ext w0 w) (ks:List Nat) (plan:List (Nat×Bool)) {id:Nat}{ops:List Oper}{l:List (Bool×Oper)}
  (hm:C.P.follows .mixedOrders=true) (hB:(Qn5 ops.toArray plan (Array.replicate ops.toArray.size false) && Region.noSelect ops.toArray && decide (plan.length<=ops.length))=true) (hN:(ops.all (Qdp C.N) && ops.all Qex)=true) (hl:Qa6 ops plan=l)
  (h:∀ K:Env->World->Prop,(∀ e w,VG C k e w->K e w)->vcH C.P C.N ops w0 l e w (selC ks K)):VG C (.code (.region id ops.toArray true)::k) e w:=by
 intro a n ha;simp only [Bool.and_eq_true,decide_eq_true_eq] at hB hN;obtain ⟨⟨hB1,hB2⟩,hB3⟩:=hB;rw [<- ha.app];refine wpIn_mono (Qpx (Q:=endG C k) hm (by simpa using hN.2) (wpAny_of_held (S:=fun w'=>Ext w0 w') _ _ _ _ ?_)) Quj;subst hl;exact Qt4 (K:=selC ks (VG C k)) hN.1 hB2 (fun c a w d v hq=>hq.elim) (fun e a w n ha hv=>Qob ks ha hv) plan _ _ e _ w (n+1) (by simpa using hB3) hB1 ha.bare hx (h _ fun _ _ hv=>hv)
end
def QHu (F:Value->World->Prop) (Pn:List PanicEntry->World->Prop) (e:Ending) (w':World):Prop :=
 match e with
 | .returned v=>∃ w n,w'=w.drewN n/\F v w
 | .panicked c=>∃ w n,w'=w.drewN n/\Pn c w
 | .outgrown=>False
def DoesP (P:Program) (f:FuncId) (args:Array Value) (w:World) (F:Value->World->Prop) (Pn:List PanicEntry->World->Prop):Prop :=
 ∀ n,Calls P f args (w.drewN n) (QHu F Pn)
def noPn:List PanicEntry->World->Prop:=fun _ _=>False
theorem DoesP.does {P:Program}{f:FuncId}{args:Array Value}{w:World}{F:Value->World->Prop} (h:DoesP P f args w F noPn):Does P f args w F :=
 fun n=>(h n).mono fun e w' he=>by
  cases e with
  | returned v=>obtain ⟨w1,m,rfl,hF⟩:=he;exact ⟨v,w1,m,rfl,rfl,hF⟩
  | panicked c=>obtain ⟨_,_,_,hF⟩:=he;exact hF.elim
  | outgrown=>exact he.elim
theorem DoesP.mono {P:Program}{f:FuncId}{args:Array Value}{w:World}{F G:Value->World->Prop}{Pn Qn:List PanicEntry->World->Prop} (h:DoesP P f args w F Pn) (hg:∀ v w',F v w'->G v w') (hp:∀ c w',Pn c w'->Qn c w'):DoesP P f args w G Qn :=
 fun n=>(h n).mono fun e w' he=>by
  cases e with
  | returned v=>obtain ⟨w1,m,hw,hF⟩:=he;exact ⟨w1,m,hw,hg _ _ hF⟩
  | panicked c=>obtain ⟨w1,m,hw,hF⟩:=he;exact ⟨w1,m,hw,hp _ _ hF⟩
  | outgrown=>exact he.elim
abbrev Qxi (P:Program) (fn:Func) (F:Value->World->Prop) (Pn:List PanicEntry->World->Prop):Exit->Act->World->Prop:=bodyPostM Fence.wide 0 P fn (QHu F Pn)
theorem Qka {P:Program}{f:FuncId}{fn:Func}{c:Code}{args:List Value}{w:World}{F:Value->World->Prop}{Pn:List PanicEntry->World->Prop} (N:Nat)
  (hf:P.funcs[f]? = some fn) (hb:fn.body=some c) (hN:fn.ntmps=N) (hle:args.length<=N)
  (h:VG ⟨P,N,none,[],Qxi P fn F Pn⟩ [.code c] (Env.ofArgs 0 args) w):DoesP P f args.toArray w F Pn:=by
 intro n;refine callsIn_wide.1 (callsIn_of_wp_marks (F:=Fence.wide) (n:=0) hf hb trivial ?_ rfl);have h1:=h { tmps:=args.toArray++Array.replicate (fn.ntmps - args.toArray.size) undef,defers:=[] } n ⟨by simp [hN];omega,rfl,fun t v ht=>?_⟩
 ·
  exact wpIn_mono (F:=Fence.wide) h1 fun ex a w hq=>hq
 have:=(Env.find?_ofArgs args 0 t v ht).2;rw [Array.getD_eq_getD_getElem?,Array.getElem?_append]
 have hlt:t < args.toArray.size:=by
  have h2:=(List.getElem?_eq_some_iff.1 this).1;simpa using h2
 simp only [hlt,if_true];simp at this ⊢;simp [this]
theorem Qxj {P:Program}{f:FuncId}{fn:Func}{c:Code}{args:List Value}{w:World}{F:Value->World->Prop} (N:Nat)
  (hf:P.funcs[f]? = some fn) (hb:fn.body=some c) (hN:fn.ntmps=N) (hle:args.length<=N)
  (h:VG ⟨P,N,none,[],Qxi P fn F noPn⟩ [.code c] (Env.ofArgs 0 args) w):Does P f args.toArray w F:=(Qka N hf hb hN hle h).does
theorem Qzq {P:Program}{fn:Func}{F:Value->World->Prop}{Pn:List PanicEntry->World->Prop}{N:Nat}{e:Env}{w:World}{D:List Deferred} (hx:VX ⟨P,fn,F,N⟩ [] .ret e w) {a:Act}{n:Nat} (ha:FitsG N D e a) :
  LeavesInM Fence.wide 0 P fn a.tmps (QHu F Pn) [] .returning (w.drewN n):=by
 obtain ⟨_,v,hr,v',w1,m,he,hw,hF⟩:=hx _ n ha.bare;cases he;exact ⟨v,hr,w1,m,hw,hF⟩
theorem ret0 {P:Program}{fn:Func}{F:Value->World->Prop}{Pn:List PanicEntry->World->Prop}{N:Nat}{e:Env}{w:World} (hx:VX ⟨P,fn,F,N⟩ [] .ret e w) :
  ∀ a n,FitsG N [] e a->Qxi P fn F Pn .ret a (w.drewN n):=fun a n ha=>by
 show LeavesInM _ _ _ _ _ _ a.defers _ _
 rw [ha.defers];exact Qzq hx ha
theorem nil0 {P:Program}{fn:Func}{F:Value->World->Prop}{Pn:List PanicEntry->World->Prop}{N:Nat}{e:Env}{w:World} (hx:VX ⟨P,fn,F,N⟩ [] .ret e w) :
  ∀ a n,FitsG N [] e a->Qxi P fn F Pn .normal a (w.drewN n):=ret0 hx
theorem QJe {P:Program}{fn:Func}{F:Value->World->Prop}{Pn:List PanicEntry->World->Prop}{N:Nat}{e:Env}{w:World}{c:List PanicEntry} (hx:Pn c w) :
  ∀ a n,FitsG N [] e a->Qxi P fn F Pn (.panic c) a (w.drewN n):=fun a n ha=>by
 show LeavesInM _ _ _ _ _ _ a.defers _ _
 rw [ha.defers];exact ⟨w,n,rfl,hx⟩
def QBq (C:CtxG) (o:Oper) (e:Env) (w:World) (R:Value->World->Prop):Prop :=
 ∀ (a:Act) (n:Nat) (next:Act->World->Prop) (Q:Exit->Act->World->Prop),FitsG C.N C.D e a->(∀ (v:Value) (w':World) (m:Nat),R v w'->next (a.put o.dst v) (w'.drewN m)) ->
  (∀ (c:List PanicEntry) (w':World) (m:Nat),C.post (.panic c) a (w'.drewN m)->Q (.panic c) a (w'.drewN m))->o.wpIn (Qip C.L) 0 C.P a (w.drewN n) next Q
def spC (A:Env->World->Prop):Env->World->Prop:=A
theorem QLc {P:Program}{N:Nat}{ops:List Oper}{e:Env}{w:World} (A:Env->World->Prop):Qay P N ops [] e w (spC A)=A e w:=rfl
theorem Qi6 {F:Fence}{n:Nat}{P:Program}{ops:Array Oper}{Q:Exit->Act->World->Prop} (l2:List Oper):∀ (l1:List Oper) (a:Act) (w:World),
  wpListIn F n P ops (Exit.then (wpListIn F n P ops Q l2) Q) l1 a w->wpListIn F n P ops Q (l1++l2) a w:=by
 intro l1
 induction l1 with
 | nil=>intro a w h;exact h
 | cons o l1 ih =>
  intro a w h;simp only [wpListIn,List.cons_append] at h ⊢;split
  ·
   rename_i hw;rw [if_pos hw] at h;obtain ⟨h1,h2⟩:=h;refine ⟨h1,?_⟩
   revert h2
   generalize (o.semAt F.round a.eval).run P w=r;intro h2;cases r with
   | ok x w' =>
    cases x <;> simp only [Oper.uponIn] at h2 ⊢ <;>
     first
      | exact ih _ _ h2
      | exact ⟨h2.1,CallsIn.mono h2.2 (fun e w'' he=>by cases e <;> first | exact ih _ _ he | exact he | (obtain ⟨a0,w0,he⟩:=he;exact ⟨a0,w0,he⟩))⟩
      | exact ⟨h2.1,RowsIn.mono h2.2 (fun _ _ he=>ih _ _ he)⟩
      | exact ⟨h2.1,RoundIn.mono h2.2 (fun e w'' he=>by cases e <;> first | exact ih _ _ he | exact he | (obtain ⟨a0,w0,he⟩:=he;exact ⟨a0,w0,he⟩))⟩
      | exact h2
   | halt x w'=>cases x <;> simp only [Oper.uponIn] at h2 ⊢ <;> exact h2
  rename_i hw;rw [if_neg hw] at h;exact ⟨h.1,ih _ _ h.2⟩
theorem Ql6 {P:Program}{L:Option Nat}{D:List Deferred}{Q:Exit->Act->World->Prop}{ops:Array Oper}:∀ (l:List Oper) (a:Act) (w:World),l.all Qex=true ->
  wpList P ops (Qapp D Q) l a w->wpListIn (Qip L) 0 P ops Q l (a.app D) w:=by
 intro l
 induction l with
 | nil=>intro a w _ h;exact h.2
 | cons o l ih =>
  intro a w hd h;simp only [List.all_cons,Bool.and_eq_true] at hd;simp only [wpList,wpListIn] at h ⊢;have ht:(a.app D).tmps=a.tmps:=rfl;rw [ht];split
  ·
   rename_i hw;rw [if_pos hw] at h;rcases h with h | ⟨_,_,_,h⟩
   ·
    exact QJc hd.1 (fun a w=>ih a w hd.2) h
   exact h.elim
  rename_i hw;rw [if_neg hw] at h;have h2:=ih _ _ hd.2 h;rw [Qi4] at h2;exact ⟨fun _ _=>trivial,h2⟩
theorem Qh5 {F:Fence}{n:Nat}{P:Program}{ops:Array Oper}{Q Q':Exit->Act->World->Prop} (hq:∀ ex a w,Q ex a w->Q' ex a w):∀ (l:List Oper) (a:Act) (w:World),wpListIn F n P ops Q l a w->wpListIn F n P ops Q' l a w:=by
 intro l
 induction l with
 | nil=>intro a w h;exact hq _ _ _ h
 | cons x l ih =>
  intro a w h;simp only [wpListIn] at h ⊢;split
  ·
   rename_i hw;rw [if_pos hw] at h;obtain ⟨g1,g2⟩:=h;refine ⟨g1,?_⟩
   revert g2
   generalize (x.semAt F.round a.eval).run P w=r;intro g2;cases r with
   | ok y w' =>
    cases y <;> simp only [Oper.uponIn] at g2 ⊢ <;>
     first
      | exact ih _ _ g2
      | exact ⟨g2.1,CallsIn.mono g2.2 (fun e w'' he=>by cases e <;> first | exact ih _ _ he | exact hq _ _ _ he | (obtain ⟨a0,w0,he⟩:=he;exact ⟨a0,w0,hq _ _ _ he⟩))⟩
      | exact ⟨g2.1,RowsIn.mono g2.2 (fun _ _ he=>ih _ _ he)⟩
      | exact ⟨g2.1,RoundIn.mono g2.2 (fun e w'' he=>by cases e <;> first | exact ih _ _ he | exact hq _ _ _ he | (obtain ⟨a0,w0,he⟩:=he;exact ⟨a0,w0,hq _ _ _ he⟩))⟩
      | exact g2
   | halt y w'=>cases y <;> simp only [Oper.uponIn] at g2 ⊢ <;> first | exact hq _ _ _ g2 | exact g2
  rename_i hw;rw [if_neg hw] at h;exact ⟨h.1,ih _ _ h.2⟩
def Qum (C:CtxG) (ops:List Oper) (R:List Oper->Env->World->Prop) (l:List Oper) (e:Env) (w:World):Prop :=
 match l with
 | o::l'=>Qiy ops o.guard e (fun e=>QBq C o e w fun v w=>R l' (e.put o.dst v) w) (fun e=>R l' (e.put o.dst undef) w)
 | []=>False
def Qk0 (C:CtxG) (ops:List Oper) (K:Env->World->Prop):List Nat->List Oper->Env->World->Prop
 | [],l,e,w=>Qay C.P C.N ops l e w K
 | i::is,l,e,w=>Qay C.P C.N ops (l.take i) e w (spC fun e w=>Qum C ops (Qk0 C ops K is) (l.drop i) e w)
def Qun (N:Nat):List Nat->List Oper->Bool
 | [],l=>l.all (Qdp N) && l.all Qex
 | i::is,l=>(l.take i).all (Qdp N) && (l.take i).all Qex && match l.drop i with
  | o::l'=>Qdp N o && Qun N is l'
  | []=>false
theorem QOw {C:CtxG}{ops l:List Oper}{K:Env->World->Prop}{e:Env}{w:World}:Qk0 C ops K [] l e w=Qay C.P C.N ops l e w K:=rfl
theorem QEe {C:CtxG}{ops l:List Oper}{K:Env->World->Prop}{e:Env}{w:World} (i:Nat) (is:List Nat):Qk0 C ops K (i::is) l e w=Qay C.P C.N ops (l.take i) e w (spC fun e w=>Qum C ops (Qk0 C ops K is) (l.drop i) e w):=rfl
theorem QRp {C:CtxG}{ops l:List Oper}{R:List Oper->Env->World->Prop}{e:Env}{w:World} (d:Option Tmp) (op:Op) (ty:Nat) (pos:String) (af:Array Edge):Qum C ops R (⟨d,op,ty,pos,af,none⟩::l) e w=QBq C ⟨d,op,ty,pos,af,none⟩ e w fun v w=>R l (e.put d v) w:=rfl
theorem QOx {C:CtxG}{ops l:List Oper}{R:List Oper->Env->World->Prop}{e:Env}{w:World} (d:Option Tmp) (op:Op) (ty:Nat) (pos:String) (af:Array Edge) (j:Nat) (b:Bool):Qum C ops R (⟨d,op,ty,pos,af,some (j,b)⟩::l) e w=Qa9 ops j b e (fun e=>QBq C ⟨d,op,ty,pos,af,some (j,b)⟩ e w fun v w=>R l (e.put d v) w) (fun e=>R l (e.put d undef) w):=by
 rw [<- Qav];rfl
theorem QBr {C:CtxG}{ops:List Oper}{Q:Exit->Act->World->Prop}{K:Env->World->Prop} (hQ:∀ c a w,C.post (.panic c) a w->Q (.panic c) a w)
  (hK:∀ e a w n,FitsG C.N C.D e a->K e w->Q .normal a (w.drewN n)):∀ (is:List Nat) (l:List Oper) (e:Env) (a:Act) (w:World) (n:Nat),Qun C.N is l=true->FitsG C.N C.D e a ->
   Qk0 C ops K is l e w->wpListIn (Qip C.L) 0 C.P ops.toArray Q l a (w.drewN n):=by
 intro is
 induction is with
 | nil =>
  intro l e a w n hl ha h;simp only [Qun,Bool.and_eq_true] at hl
  have hA:=Qfr (P:=C.P) (N:=C.N) (ops:=ops) (Q:=Qapp C.D fun ex a w=>match ex with | .normal=>Q .normal a w | _=>False) (K:=K)
   (fun e a w n ha hv=>⟨ha.defers,hK e _ w n (FitsG.of ha) hv⟩) l e _ w n hl.1 ha.bare h
  have hB:=Ql6 (L:=C.L) _ _ _ hl.2 hA;rw [ha.app] at hB;refine Qh5 (fun ex a w hq=>?_) _ _ _ hB;cases ex <;> first | exact hq | exact hq.elim
 | cons i is ih =>
  intro l e a w n hl ha h;simp only [Qun,Bool.and_eq_true] at hl;obtain ⟨⟨h1,h2⟩,h3⟩:=hl;cases hd:l.drop i with
  | nil=>rw [hd] at h3;cases h3
  | cons o l' =>
   rw [hd] at h3;simp only [Bool.and_eq_true] at h3;rw [<- List.take_append_drop i l,hd];refine Qi6 _ _ _ _ ?_;rw [QEe,hd] at h
   have hA:=Qfr (P:=C.P) (N:=C.N) (ops:=ops) (Q:=Qapp C.D fun ex a w=>match ex with
     | .normal=>∃ e w0 n,w=w0.drewN n/\FitsG C.N C.D e a/\Qum C ops (Qk0 C ops K is) (o::l') e w0
     | _=>False)
    (fun e a w n ha hv=>⟨ha.defers,e,w,n,rfl,FitsG.of ha,hv⟩) (l.take i) e _ w n h1 ha.bare h
   have hB:=Ql6 (L:=C.L) _ _ _ h2 hA;rw [ha.app] at hB;refine Qh5 (fun ex a w hq=>?_) _ _ _ hB;cases ex with
   | normal =>
    obtain ⟨e1,w1,m,rfl,hf,hs⟩:=hq
    show wpListIn _ _ _ _ _ (o::l') a _
    simp only [wpListIn]
    have hput:∀ (e2:Env) (v:Value),FitsG C.N C.D e2 a->FitsG C.N C.D (e2.put o.dst v) (a.put o.dst v):=fun e2 v hf2=>by
     have g1:=hf2.bare.put' h3.1 v;have g2:=FitsG.of (D:=C.D) g1;rw [Qi4,hf2.app] at g2;exact g2
    have hfa:∀ e2,Fits C.N e2 { a with defers:=[] }->FitsG C.N C.D e2 a:=fun e2 g=>⟨g.size,hf.defers,g.at_⟩;have hs':Qiy ops o.guard e1 (fun e=>QBq C o e w1 fun v w=>Qk0 C ops K is l' (e.put o.dst v) w) (fun e=>Qk0 C ops K is l' (e.put o.dst undef) w1):=hs;rcases Qdr hf.bare hs' with ⟨e2,g1,g2,hw⟩ | ⟨e2,g1,g2,hw⟩
    ·
     rw [if_pos hw];exact g2 a m _ _ (hfa e2 g1) (fun v w' m' hv=>ih l' _ _ w' m' h3.2 (hput e2 v (hfa e2 g1)) hv) (fun c w' m' hp=>hQ _ _ _ hp)
    rw [if_neg (by rw [hw];simp)];exact ⟨fun _ _=>trivial,ih l' _ _ w1 m h3.2 (hput e2 undef (hfa e2 g1)) g2⟩
   | _=>exact hq.elim
section
variable {C:CtxG}{k:List It}{e:Env}{w:World}
theorem Qft (ks:List Nat) (is:List Nat) {id:Nat}{ops:List Oper} (hN:Qun C.N is ops=true)
  (h:∀ K:Env->World->Prop,(∀ e w,VG C k e w->K e w)->Qk0 C ops (selC ks K) is ops e w):VG C (.code (.region id ops.toArray false)::k) e w:=by
 intro a n ha;refine wpIn_region_lit ?_;exact QBr (Q:=fun ex a w=>Qiq C k ex a w) (K:=selC ks (VG C k)) (fun c a w hp=>Qxh.2 hp) (fun e a w n ha hv=>((Qc7 ks e _).1 hv) a n (ha.sel ks)) is ops e a w n hN ha (h _ fun _ _ hv=>hv)
variable {d:Option Tmp}{ty:Nat}{pos:String}{af:Array Edge}{gd:Option (Nat×Bool)}{R:Value->World->Prop}
def CallP (C:CtxG) (e:Env) (fv:Value) (vs:List Value) (w:World) (R:Value->World->Prop):Prop :=
 ∃ f first cs,fv=.func (.func f) first cs/\(∀ args w,(callFunc f args).run C.P w=.ok (.enter f args) w)/\∃ F Pn,DoesP C.P f (first.toList++vs++cs.toList).toArray w F Pn/\(∀ v w',F v w'->R v w')/\(∀ c w',Pn c w'->∀ a n,FitsG C.N C.D e a->C.post (.panic c) a (w'.drewN n))
theorem CallP.mk {f:FuncId}{first cs:Array Value}{vs:List Value}{F:Value->World->Prop}{Pn:List PanicEntry->World->Prop} (hf:∀ args w,(callFunc f args).run C.P w=.ok (.enter f args) w)
  (h:DoesP C.P f (first.toList++vs++cs.toList).toArray w F Pn) (hc:∀ v w',F v w'->R v w') (hp:∀ c w',Pn c w'->∀ a n,FitsG C.N C.D e a->C.post (.panic c) a (w'.drewN n)):CallP C e (.func (.func f) first cs) vs w R :=
 ⟨f,first,cs,rfl,hf,F,Pn,h,hc,hp⟩
theorem Qfu {x:Operand}{az:Array Operand}{ts:Array TypeId}
  (h:arg e x fun fv=>argL e az.toList fun vs=>CallP C e fv vs w R) :
  QBq C ⟨d,.call { callee:=.value x,args:=az,argTypes:=ts },ty,pos,af,gd⟩ e w R:=by
 intro a n next Q ha hK hP;have h0:=Qa2 ha.bare h;have h1:=Qc0 ha.bare h0;obtain ⟨f,first,cs,hx,hf,F,Pn,hD,hC,hpn⟩:=h1;have ev:({ a with defers:=[] }:Act).eval=a.eval:=by funext x;cases x <;> rfl
 rw [ev] at hx hD;have hm:(az.map a.eval)=(az.toList.map a.eval).toArray:=Qfe az a
 have e1:first++(az.toList.map a.eval).toArray++cs=(first.toList++az.toList.map a.eval++cs.toList).toArray:=by
  apply Array.ext';simp
 have hrun:(execOp a.eval ⟨d,.call { callee:=.value x,args:=az,argTypes:=ts },ty,pos,af,gd⟩).run C.P (w.drewN n)=.ok (.enter f (first.toList++az.toList.map a.eval++cs.toList).toArray) (w.drewN n):=by
  simp only [execOp,resolve,hx,Deferred.ofValue,Sem.run_bind,Sem.run_pure,Result.andThen_ok,invoke,hm,e1];simp [hf]
 refine ⟨fun _ _=>trivial,?_⟩;rw [Oper.semAt_eq _ _ _ (fun c hc=>by cases hc),hrun];refine ⟨by simp [Qip,Fence.wide],Qkz ((hD n).mono fun e' w' he=>?_)⟩;cases e' with
 | returned v=>obtain ⟨w1,m,rfl,hF⟩:=he;exact hK v w1 m (hC v w1 hF)
 | panicked c=>obtain ⟨w1,m,rfl,hF⟩:=he;exact hP c w1 m (hpn c w1 hF a m ha)
 | outgrown=>exact he.elim
def YieldK (P:Program) (l:Nat) (vs:List Value) (w:World) (R:Value->World->Prop):Prop :=
 ∀ n,∃ fn tmps assign body,(Instr.yield l vs.toArray).run P (w.drewN n)=.ok (.round l fn tmps assign body) (w.drewN n) /\
  RoundIn Fence.wide 0 P l fn tmps assign body (w.drewN n) fun e w'=>∃ v w1 m,e=.returned v/\w'=w1.drewN m/\R v w1
theorem YieldK.mono {P:Program}{l:Nat}{vs:List Value}{w:World}{R R':Value->World->Prop} (h:YieldK P l vs w R) (hr:∀ v w',R v w'->R' v w'):YieldK P l vs w R':=fun n=>by
 obtain ⟨fn,tmps,az,bd,h1,h2⟩:=h n;exact ⟨fn,tmps,az,bd,h1,h2.mono fun e w' ⟨v,w1,m,he,hw,hR⟩=>⟨v,w1,m,he,hw,hr _ _ hR⟩⟩
theorem Qkb {x:Operand} (h:arg e x fun v=>(∃ t u,v=.iface t u)/\∀ a n,FitsG C.N C.D e a->C.post (.panic [{ v:=v,recovered:=false }]) a (w.drewN n)) :
  QBq C ⟨d,.panic x,ty,pos,af,gd⟩ e w R:=by
 intro a n next Q ha hK hP;obtain ⟨⟨t,u,hx⟩,hp⟩:=Qa2 ha.bare h;have ev:({ a with defers:=[] }:Act).eval=a.eval:=by funext x;cases x <;> rfl
 rw [ev] at hx hp
 have hrun:(execOp a.eval ⟨d,.panic x,ty,pos,af,gd⟩).run C.P (w.drewN n)=.halt (.panic (a.eval x)) (w.drewN n):=by
  simp only [execOp,hx,Instr.panic];rfl
 refine ⟨fun _ _=>trivial,?_⟩;rw [Oper.semAt_eq _ _ _ (fun c hc=>by cases hc),hrun];exact hP _ w n (hp a n ha)
def Qxk:List It->Bool
 | []=>true
 | .again _::_=>false
 | _::k=>Qxk k
theorem QLd (D:List Deferred) {k:List It} (hk:Qxk k=true):∀ {ex:Exit}{a:Act}{w:World},Qiq { C with D:=D } k ex a w ↔ Qiq C k ex a w:=by
 induction k with
 | nil=>intro ex a w;exact Iff.rfl
 | cons x k ih =>
  intro ex a w;cases x with
  | again I=>cases hk
  | blk id =>
   have ih:=fun {ex a w}=>@ih hk ex a w;cases ex <;> first | exact ih | skip
   rename_i id';simp only [Qiq];split
   ·
    exact ih
   exact ih
  | code c =>
   have ih:=fun {ex a w}=>@ih hk ex a w;cases ex <;> first | exact ih | skip
   simp only [Qiq];constructor
   ·
    exact fun h=>wpIn_mono h fun ex a w hq=>ih.1 hq
   exact fun h=>wpIn_mono h fun ex a w hq=>ih.2 hq
theorem QBs {P:Program}{N:Nat}{D:List Deferred}{post:Exit->Act->World->Prop} (ks:List Nat) (i:Nat) {id:Nat}{ops:List Oper}{x:Operand}{az:Array Operand}{ts:Array TypeId} (hk:Qxk k=true)
  (hN:((ops.take i).all (Qdp N) && (ops.take i).all Qex)=true) (hl:ops.drop i=[⟨none,.defer { callee:=.value x,args:=az,argTypes:=ts },ty,pos,af,none⟩])
  (h:∀ K:Deferred->Env->World->Prop,(∀ d e w,VG ⟨P,N,none,d::D,post⟩ k e w->K d e w) ->
   Qay P N ops (ops.take i) e w (spC fun e w=>arg e x fun fv=>argL e az.toList fun vs=>∃ f first cs,fv=.func (.func f) first cs/\selK ks e fun e=>K { target:=.fn (.func f) cs,args:=first++vs.toArray } e w)):VG ⟨P,N,none,D,post⟩ (.code (.region id ops.toArray false)::k) e w:=by
 intro a n ha;simp only [Bool.and_eq_true] at hN;refine wpIn_region_lit ?_
 have key:wpListIn (Qip none) 0 P ops.toArray (fun ex a w=>Qiq ⟨P,N,none,D,post⟩ k ex a w) (ops.take i++[⟨none,.defer { callee:=.value x,args:=az,argTypes:=ts },ty,pos,af,none⟩]) a (w.drewN n):=by
  refine Qi6 _ _ _ _ ?_
  have hA:=Qfr (P:=P) (N:=N) (ops:=ops) (Q:=Qapp D fun ex a w=>match ex with
    | .normal=>∃ e w0 n,w=w0.drewN n/\FitsG N D e a/\arg e x fun fv=>argL e az.toList fun vs=>∃ f first cs,fv=.func (.func f) first cs/\selK ks e fun e=>VG ⟨P,N,none,{ target:=.fn (.func f) cs,args:=first++vs.toArray }::D,post⟩ k e w0
    | _=>False)
   (fun e a w n ha hv=>⟨ha.defers,e,w,n,rfl,FitsG.of ha,hv⟩) (ops.take i) e _ w n hN.1 ha.bare (h _ fun _ _ _ hv=>hv)
  have hB:=Ql6 (L:=none) _ _ _ hN.2 hA;rw [FitsG.app ha] at hB;refine Qh5 (fun ex a w hq=>?_) _ _ _ hB;cases ex with
  | normal =>
   obtain ⟨e1,w1,m,rfl,hf,hs⟩:=hq
   show wpListIn _ _ _ _ _ [_] a _
   simp only [wpListIn];rw [if_pos (by simp [Region.wanted])];have h0:=Qa2 hf.bare hs;have h1:=Qc0 hf.bare h0;obtain ⟨f,first,cs,hx,hv⟩:=h1;have ev:({ a with defers:=[] }:Act).eval=a.eval:=by funext x;cases x <;> rfl
   rw [ev] at hx hv;have hm:(az.map a.eval)=(az.toList.map a.eval).toArray:=Qfe az a;refine ⟨fun _ _=>trivial,?_⟩
   have hrun:(Oper.semAt (Qip none).round a.eval ⟨none,.defer { callee:=.value x,args:=az,argTypes:=ts },ty,pos,af,none⟩).run P (w1.drewN m)=.ok (.defer { target:=.fn (.func f) cs,args:=first++(az.toList.map a.eval).toArray }) (w1.drewN m):=by
    rw [show (Qip none).round=none from rfl,Oper.semAt_none];simp only [execOp,resolve,hx,Deferred.ofValue,Sem.run_bind,Sem.run_pure,Result.andThen_ok,hm]
   rw [hrun];refine (QLd (C:=⟨P,N,none,D,post⟩) _ hk).1 (((Qc7 ks e1 _).1 hv) _ m (FitsG.sel ?_ ks));exact ⟨hf.size,by simp [Act.put,hf.defers],hf.at_⟩
  | _=>exact hq.elim
 rw [<- hl,List.take_append_drop] at key;exact key
end
attribute [go_sem ↓] QLc QOw QEe QRp QOx
theorem Qqv {P:Program}{f:FuncId}{fn:Func}{id:Nat}{t s:Tmp}{ts:Array TypeId}{ty1 ty2:Nat}{p1 p2:String}{a1 a2:Array Edge}{rest:Code}{N:Nat}{args:List Value}{u u':FrameMode}{v:Value}{w:World}{R:World->Prop}
  (hf:P.funcs[f]? = some fn) (hb:fn.body=some (.seq (.region id #[⟨some t,.call { callee:=.builtin .recover,args:=#[],argTypes:=ts },ty1,p1,a1,none⟩,⟨some s,.assign (.tmp t),ty2,p2,a2,none⟩] false) rest)) (hres:fn.results=#[]) (hN:fn.ntmps=N) (hle:args.length<=N) (ht:t < N) (hs:s < N)
  (hu:u=.returning/\u'=.returning/\v=.nilIface∨u=.panicking [{ v:=v,recovered:=false }]/\u'=.panicking [{ v:=v,recovered:=true }])
  (h:VG ⟨P,N,none,[],fun ex a w'=>(ex=.normal∨ex=.ret)/\a.defers=[]/\∃ w1 m,w'=w1.drewN m/\R w1⟩ [.code rest] ((s,v)::(t,v)::Env.ofArgs 0 args) w) :
  ∀ n,CallsDIn Fence.wide 0 P f args.toArray u (w.drewN n) (fun e u2 w'=>(∃ x,e=.returned x)/\u2=u'/\∃ w1 m,w'=w1.drewN m/\R w1):=by
 intro n;refine callsDIn_of_wpSIn hf hb trivial fun c₀ cs hm=>?_;generalize ha0:({ tmps:=args.toArray++Array.replicate (fn.ntmps - args.toArray.size) undef,defers:=[] }:Act)=a0
 have hfit0:Fits N (Env.ofArgs 0 args) a0:=by
  subst ha0;refine ⟨by simp [hN];omega,rfl,fun t v ht=>?_⟩;have:=(Env.find?_ofArgs args 0 t v ht).2;rw [Array.getD_eq_getD_getElem?,Array.getElem?_append]
  have hlt:t < args.toArray.size:=by
   have h2:=(List.getElem?_eq_some_iff.1 this).1;simpa using h2
  simp only [hlt,if_true];simp at this ⊢;simp [this]
 refine wpSIn_seq (wpSIn_region ?_);have hfit1:Fits N ((t,v)::Env.ofArgs 0 args) (a0.put (some t) v):=hfit0.put (some t) v fun x hx=>by cases hx;exact ht
 have hfit2:Fits N ((s,v)::(t,v)::Env.ofArgs 0 args) ((a0.put (some t) v).put (some s) v):=hfit1.put (some s) v fun x hx=>by cases hx;exact hs
 have hev:(a0.put (some t) v).eval (.tmp t)=v:=hfit1.at_ t v (by simp [Env.find?])
 have hcs:∃ cs',(recoverD (c₀::cs)=some (v,cs')∨recoverD (c₀::cs)=none/\v=.nilIface/\cs'=c₀::cs)/\cs'={ c₀ with mode:=u' }::cs:=by
  rcases hu with ⟨h1,h2,h3⟩ | ⟨h1,h2⟩
  ·
   refine ⟨c₀::cs,.inr ⟨?_,h3,rfl⟩,?_⟩
   ·
    simp only [recoverD,hm,h1]
   have:c₀.mode=u':=by rw [hm,h1,h2]
   cases c₀;simp only at this;subst this;rfl
  refine ⟨{ c₀ with mode:=u' }::cs,.inl ?_,rfl⟩;simp only [recoverD,hm,h1,h2]
 obtain ⟨cs',hrec,hcs'⟩:=hcs
 have hrun2:∀ w,(execOp (a0.put (some t) v).eval ⟨some s,.assign (.tmp t),ty2,p2,a2,none⟩).run P w=.ok (.value v) w:=fun w=>by
  simp only [execOp,hev];rfl
 have hlast:Exit.thenS (rest.wpSIn Fence.wide 0 P (bodyPostS P fn c₀ cs fun e u2 w'=>(∃ x,e=.returned x)/\u2=u'/\∃ w1 m,w'=w1.drewN m/\R w1)) (bodyPostS P fn c₀ cs fun e u2 w'=>(∃ x,e=.returned x)/\u2=u'/\∃ w1 m,w'=w1.drewN m/\R w1) .normal ((a0.put (some t) v).put (some s) v) cs' (w.drewN n):=by
  refine wpSIn_of_wpIn rfl (wpIn_mono (F:=Fence.wide) (h _ n ⟨hfit2.size,hfit2.defers,hfit2.at_⟩) fun ex a w' hq=>?_);obtain ⟨hex,hd,w1,m,rfl,hR⟩:=hq;have hr:=results_none hres a.tmps P (w1.drewN m);rcases hex with rfl | rfl
  ·
   exact ⟨hd,u',hcs',_,hr,⟨_,rfl⟩,rfl,w1,m,rfl,hR⟩
  exact ⟨hd,u',hcs',_,hr,⟨_,rfl⟩,rfl,w1,m,rfl,hR⟩
 have hsz:(#[⟨some t,.call { callee:=.builtin .recover,args:=#[],argTypes:=ts },ty1,p1,a1,none⟩,⟨some s,.assign (.tmp t),ty2,p2,a2,none⟩]:Array Oper).size=2:=rfl;rw [hsz];simp only [show List.range 2=[0,1] from rfl,wpOpsSIn,List.getElem?_toArray,List.getElem?_cons_zero,List.getElem?_cons_succ];refine ⟨fun _ _=>trivial,?_⟩;rw [if_pos (by simp [Region.wanted])]
 have hrun1:(execOp a0.eval ⟨some t,.call { callee:=.builtin .recover,args:=#[],argTypes:=ts },ty1,p1,a1,none⟩).run P (w.drewN n)=.ok .recover (w.drewN n):=by
  simp only [execOp,resolve,invoke,builtin,Sem.run_bind,Sem.run_pure,Result.andThen_ok]
 rw [hrun1];simp only [];rcases hrec with hrec | ⟨hrec,hv,rfl⟩
 ·
  rw [hrec];simp only [];refine ⟨fun _ _=>trivial,?_⟩;rw [if_pos (by simp [Region.wanted]),hrun2];exact hlast
 rw [hrec];simp only [];refine ⟨fun _ _=>trivial,?_⟩;rw [<- hv];rw [if_pos (by simp [Region.wanted]),hrun2];exact hlast
theorem Quo {P:Program}{fn:Func}{F:Value->World->Prop}{Pn:List PanicEntry->World->Prop}{N:Nat}{e:Env}{w:World}{D:List Deferred}{f:FuncId}{cs:Array Value}{args:Array Value}{R:World->Prop}{u:FrameMode}
  (hi:∀ args w,(callFunc f args).run P w=.ok (.enter f args) w) (hu:u≠.run) (hD:D=[{ target:=.fn (.func f) cs,args:=args }])
  (hc:∀ n,CallsDIn Fence.wide 0 P f (args++cs) u (w.drewN n) (fun e u2 w'=>(∃ x,e=.returned x)/\settle u2=.returning/\∃ w1 m,w'=w1.drewN m/\R w1))
  (hx:∀ w1,R w1->VX ⟨P,fn,F,N⟩ [] .ret e w1):∀ a n,FitsG N D e a->LeavesInM Fence.wide 0 P fn a.tmps (QHu F Pn) a.defers u (w.drewN n):=by
 intro a n ha;rw [ha.defers,hD];refine ⟨hu,.inr ⟨by simp [Fence.wide],.func f,cs,f,args++cs,rfl,?_,fun _ _=>trivial,?_⟩⟩
 ·
  simp only [invoke];exact hi _ _
 obtain ⟨_,hc⟩:=hc n;refine ⟨trivial,fun c cs hm hroom=>?_⟩;obtain ⟨e2,u2,w2,fr,hR,h1,h2,h3,h4⟩:=hc c cs hm hroom;refine ⟨e2,u2,w2,fr,?_,h1,h2,h3,h4⟩;obtain ⟨⟨x,rfl⟩,hs,w1,m,rfl,hR⟩:=hR
 show LeavesInM _ _ _ _ _ _ [] (settle u2) _
 rw [hs];exact Qzq (hx w1 hR) ha
def QHv (d:Option TypeDesc):Bool :=
 match d with
 | some (.interface _)=>false
 | some _=>true
 | none=>false
theorem Qxl {P:Program}{N:Nat}{d:Option Tmp}{ty:Nat}{pos:String}{af:Array Edge}{gd:Option (Nat×Bool)}{e:Env}{w:World}{R:Env->World->(Env->World->Prop)->Prop}{K:Env->World->Prop}{x:Operand}{T T':TypeId}
  (h:arg e x fun u=>∃ v,u=.iface T' v/\QHv (P.underlying T')=true/\R (e.put d (.tuple #[v,.bool true])) w K):MemK P N ⟨d,.typeAssert x T T' true,ty,pos,af,gd⟩ e w R K :=
 Qd1 fun a n ha=>by
  obtain ⟨v,hx,hu,hR⟩:=Qa2 ha h;refine ⟨_,w,n,?_,hR⟩;simp only [execOp,hx,Instr.typeAssert];cases hd:P.underlying T' with
  | none=>rw [hd] at hu;cases hu
  | some t=>cases t <;> first | (rw [hd] at hu;cases hu;done) | simp [run_underlying hd]
section
variable {P:Program}{w:World}{KV:Value->Prop}
theorem Qxm {T:TypeId}{ms:Array (String×TypeId)} (hu:P.underlying T=some (.interface ms)) (d:Nat) (t:TypeId) (v:Value) (w:World):(Op.equalIn (d+1) T (.iface t v) .nilIface).run P w=.ok false w:=by
 unfold Op.equalIn;simp [run_underlying hu]
theorem QEf {T:TypeId}{ms:Array (String×TypeId)} (hu:P.underlying T=some (.interface ms)) (t:TypeId) (v:Value) (w:World):(Op.equal T (.iface t v) .nilIface).run P w=.ok false w:=Qxm hu 9999 t v w
theorem Qup {T:TypeId}{ms:Array (String×TypeId)} (hu:P.underlying T=some (.interface ms)) (d:Nat) (w:World):(Op.equalIn (d+1) T .nilIface .nilIface).run P w=.ok true w:=by
 unfold Op.equalIn;simp [run_underlying hu]
theorem QBt {T:TypeId}{ms:Array (String×TypeId)} (hu:P.underlying T=some (.interface ms)) (w:World):(Op.equal T .nilIface .nilIface).run P w=.ok true w:=Qup hu 9999 w
theorem QRq {T:TypeId}{ms:Array (String×TypeId)} (hu:P.underlying T=some (.interface ms)) (t:TypeId) (v:Value) (xo yo:Operand):Qby P .neq T xo yo (.iface t v) .nilIface w KV=KV (.bool true):=by
 refine Qms fun w'=>?_;simp only [Sem.run_bind];rw [Qf3 ⟨by simp,by simp⟩];simp only [Result.andThen_ok,binOp,Sem.run_bind,QEf hu,Sem.run_pure];rfl
theorem QOz {T:TypeId}{ms:Array (String×TypeId)} (hu:P.underlying T=some (.interface ms)) (xo:Operand) (c:Value):Qby P .neq T xo (.const c) .nilIface .nilIface w KV=KV (.bool false):=by
 refine Qms fun w'=>?_
 have hg:(eqGuard .neq T xo (.const c) .nilIface .nilIface).run P w'=.ok () w':=by
  unfold eqGuard;simp
 simp only [Sem.run_bind];rw [hg];simp only [Result.andThen_ok,binOp,Sem.run_bind,QBt hu,Sem.run_pure];rfl
end
end Go.Eng
