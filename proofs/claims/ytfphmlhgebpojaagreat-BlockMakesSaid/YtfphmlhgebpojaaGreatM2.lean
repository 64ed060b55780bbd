/- A program logic over the model, and what this program's functions do by it: part 2. No conditions: a library of lemmas. -/
import Derived.Test.YtfphmlhgebpojaaGreatM1
import Derived.Sort.AssemblyPlain
import Derived.Sort.Defs
import Derived.Sort.LotA
import Derived.Test.YtfphmlhgebpojaaGreatChecked
open Nat (reduceEqDiff)
set_option linter.unusedSimpArgs false
set_option linter.unusedVariables false
set_option maxRecDepth 100000
namespace Go.Eng
open Go
theorem Qs {P Q:Prop} (q:Q) (h:P=Q:=by simp only [go_sem,↓reduceIte,reduceEqDiff];exact rfl):P:=h.mpr q
theorem Qo {A B:Prop} (b:B) (a:A:=by omega):A/\B:=⟨a,b⟩
theorem Qp {A B C:Prop} (c:C) (a:A:=by omega) (b:B:=by omega):(A/\B)/\C:=⟨⟨a,b⟩,c⟩
theorem VQ {P:Program}{fn:Func}{F:Value->World->Prop}{N:Nat}{k k':List It}{e:Env}{w:World} (ks:List Nat) {c:Code}{id:Nat}{ops:List Oper}{Y:(Env->World->Prop)->Prop}
  (h:∀ K:Env->World->Prop,(∀ e w,VC ⟨P,fn,F,N⟩ k' e w->K e w)->Y K)
  (hp:peel c k=.code (.region id ops.toArray false)::k':=by rfl) (hN:ops.all (Qdp N)=true:=by rfl)
  (hY:∀ K,Qay P N ops ops e w (selC ks K)=Y K:=by intro K;simp only [go_sem,↓reduceIte,reduceEqDiff];exact rfl):VC ⟨P,fn,F,N⟩ (.code c::k) e w :=
 VR ks hp hN fun K hK=>(hY K).mpr (h K hK)
theorem VB {C:Ctx}{k k':List It}{e:Env}{w:World}{c d:Code}{id:Nat} (h:VC C (.code d::.blk id::k') e w) (hp:peel c k=.code (.block id d)::k':=by rfl):VC C (.code c::k) e w :=
 Qj8 c k (hp ▸ Qab h)
theorem Vi {C:Ctx}{k:List It}{e:Env}{w:World}{t:Tmp}{b:Bool}{x y:Code} (ht:b=true->VC C (.code x::k) e w) (hf:b=false->VC C (.code y::k) e w) (hv:e.find? t=some (.bool b):=by rfl):VC C (.code (.cond (.tmp t) x y)::k) e w :=
 Qaf rfl hv ht hf
theorem Gc {w0 w:World}{B:List Nat}{G:List Res} (hH:Heap w0 B w G) {ad:Addr}{v:Value}{Q:Value->Prop} (q:Q v)
  (h:Heap w0 B w G->w.cell? ad=some v:=by intro hH;first | exact Qae (hH.at 0 rfl) rfl | exact Qaw (hH.at 0 rfl) (bytesV_get (by omega)) | exact Qaw (hH.at 0 rfl) (Qcv (by omega)) | exact Qae (hH.at 1 rfl) rfl | exact Qaw (hH.at 1 rfl) (bytesV_get (by omega)) | exact Qaw (hH.at 1 rfl) (Qcv (by omega)) | exact Qae (hH.at 2 rfl) rfl | exact Qaw (hH.at 2 rfl) (bytesV_get (by omega)) | exact Qaw (hH.at 2 rfl) (Qcv (by omega)) | exact Qae (hH.at 3 rfl) rfl | exact Qaw (hH.at 3 rfl) (bytesV_get (by omega)) | exact Qaw (hH.at 3 rfl) (Qcv (by omega))) :
  ∃ v,w.cell? ad=some v/\Q v:=⟨v,h hH,q⟩
theorem Qi {P Q:Prop} (q:Q) (h:P=Q:=by simp -implicitDefEqProofs only [go_sem,↓reduceIte,reduceEqDiff];exact rfl):P:=h.mpr q
theorem VQi {P:Program}{fn:Func}{F:Value->World->Prop}{N:Nat}{k k':List It}{e:Env}{w:World} (ks:List Nat) {c:Code}{id:Nat}{ops:List Oper}{Y:(Env->World->Prop)->Prop}
  (h:∀ K:Env->World->Prop,(∀ e w,VC ⟨P,fn,F,N⟩ k' e w->K e w)->Y K) (hp:peel c k=.code (.region id ops.toArray false)::k':=by rfl) (hN:ops.all (Qdp N)=true:=by rfl)
  (hY:∀ K,Qay P N ops ops e w (selC ks K)=Y K:=by intro K;simp -implicitDefEqProofs only [go_sem,↓reduceIte,reduceEqDiff];exact rfl):VC ⟨P,fn,F,N⟩ (.code c::k) e w:=VR ks hp hN fun K hK=>(hY K).mpr (h K hK)
theorem VL {P:Program}{fn:Func}{F:Value->World->Prop}{N:Nat}{k k':List It}{e:Env}{w:World} (ks:List Nat) (m:Nat) {c:Code}{id:Nat}{ops:List Oper}{Y:(Env->World->Prop)->Prop}
  (h:∀ K:Env->World->Prop,(∀ e w,VC ⟨P,fn,F,N⟩ k' e w->K e w)->Y K) (hp:peel c k=.code (.region id ops.toArray true)::k':=by rfl) (hm:P.follows .mixedOrders=true:=by kernel_rfl)
  (hB:Region.lexTailB .any ops.toArray m=true:=by kernel_rfl) (hq:(ops.take m).all (fun o=>Qfo P o.op)=true:=by kernel_rfl) (hN:ops.all (Qdp N)=true:=by rfl)
  (hY:∀ K,Qay P N ops ops e w (selC ks K)=Y K:=by intro K;simp only [go_sem,↓reduceIte,reduceEqDiff];exact rfl):VC ⟨P,fn,F,N⟩ (.code c::k) e w:=Qj8 c k (hp ▸ Qjn ks m hm hB hq hN fun K hK=>(hY K).mpr (h K hK))
theorem Vq {P:Program}{fn:Func}{F:Value->World->Prop}{N:Nat}{k k':List It}{e:Env}{w:World} (ks:List Nat) {c:Code}{id:Nat}{ops:List Oper}{Y:(Env->Prop)->Prop}
  (h:∀ K:Env->Prop,(∀ e,VC ⟨P,fn,F,N⟩ k' e w->K e)->Y K) (hp:peel c k=.code (.region id ops.toArray true)::k':=by rfl) (hm:P.follows .mixedOrders=true:=by kernel_rfl)
  (hB:Region.lexB .any ops.toArray=true:=by kernel_rfl) (hN:ops.all (Qdp N)=true:=by rfl)
  (hY:∀ K,vcQ P N ops ops e w (selQ ks K)=Y K:=by intro K;simp only [go_sem,↓reduceIte,reduceEqDiff];exact rfl):VC ⟨P,fn,F,N⟩ (.code c::k) e w:=Qj8 c k (hp ▸ QA2 ks hm hB hN fun K hK=>(hY K).mpr (h K hK))
theorem VH {P:Program}{fn:Func}{F:Value->World->Prop}{N:Nat}{k k':List It}{e:Env}{w:World} (w0:World) (hx:Ext w0 w) (ks:List Nat) (plan:List (Nat×Bool)) {c:Code}{id:Nat}{ops:List Oper}{l:List (Bool×Oper)}{Y:(Env->World->Prop)->Prop}
  (h:∀ K:Env->World->Prop,(∀ e w,VC ⟨P,fn,F,N⟩ k' e w->K e w)->Y K) (hp:peel c k=.code (.region id ops.toArray true)::k':=by rfl) (hm:P.follows .mixedOrders=true:=by kernel_rfl)
  (hB:(Qn5 ops.toArray plan (Array.replicate ops.toArray.size false) && Region.noSelect ops.toArray && decide (plan.length<=ops.length))=true:=by kernel_rfl) (hN:ops.all (Qdp N)=true:=by rfl) (hl:Qa6 ops plan=l:=by simp only [Qa6,List.filterMap_cons,List.filterMap_nil,List.getElem?_cons_succ,List.getElem?_cons_zero,Option.map_some];rfl)
  (hY:∀ K,vcH P N ops w0 l e w (selC ks K)=Y K:=by intro K;simp only [go_sem,↓reduceIte,reduceEqDiff];exact rfl):VC ⟨P,fn,F,N⟩ (.code c::k) e w:=Qj8 c k (hp ▸ QBd w0 hx ks plan hm hB hN hl fun K hK=>(hY K).mpr (h K hK))
theorem Vb {P:Program}{fn:Func}{F:Value->World->Prop}{N:Nat}{k k':List It}{e:Env}{w:World} (ks:List Nat) (plan:List (Nat×Nat)) {c:Code}{id:Nat}{ops:List Oper}{l:List (Bool×Oper)}{Y:(Env->World->Prop)->Prop}
  (h:∀ K:Env->World->Prop,(∀ e w,VC ⟨P,fn,F,N⟩ k' e w->K e w)->Y K) (hp:peel c k=.code (.region id ops.toArray true)::k':=by rfl) (hm:P.follows .mixedOrders=true:=by kernel_rfl)
  (hB:(QBk ops.toArray plan (Array.replicate ops.toArray.size false) && Region.noSelect ops.toArray && decide (plan.length<=ops.length))=true:=by kernel_rfl) (hN:ops.all (Qdp N)=true:=by kernel_rfl) (hl:Qa6 ops (plan.map fun p=>(p.1,p.2 == 0))=l:=by simp only [Qa6,List.map_cons,List.map_nil,beq_self_eq_true,Nat.reduceBEq,List.filterMap_cons,List.filterMap_nil,List.getElem?_cons_succ,List.getElem?_cons_zero,Option.map_some];rfl)
  (hY:∀ K,vcH P N ops (bare w) l e w (selC ks K)=Y K:=by intro K;simp only [go_sem,↓reduceIte,reduceEqDiff];exact rfl):VC ⟨P,fn,F,N⟩ (.code c::k) e w:=Qj8 c k (hp ▸ Ql5 ks plan hm hB hN hl fun K hK=>(hY K).mpr (h K hK))
theorem V3 {P:Program}{fn:Func}{F:Value->World->Prop}{N:Nat}{k k':List It}{e:Env}{w:World} (w0:World) (hx:Ext w0 w) (ks:List Nat) (t:Qpu) {c:Code}{id:Nat}{ops:List Oper}
  (h:∀ K:Env->World->Prop,(∀ e w,VC ⟨P,fn,F,N⟩ k' e w->K e w)->vcT3 P N ops w0 t e w (selC ks K)) (hp:peel c k=.code (.region id ops.toArray true)::k':=by rfl) (hm:P.follows .mixedOrders=true:=by kernel_rfl)
  (hB:(Qgw ops.toArray t ops.toArray.size (Array.replicate ops.toArray.size false) && Region.noSelect ops.toArray)=true:=by kernel_rfl) (hN:ops.all (Qdp N)=true:=by rfl):VC ⟨P,fn,F,N⟩ (.code c::k) e w:=Qj8 c k (hp ▸ Qxg w0 hx ks t hm hB hN h)
theorem QEg {C:CtxG}{e:Env}{w:World}:∀ (c:Code) (k:List It),VG C (peel c k) e w->VG C (.code c::k) e w:=by
 intro c
 induction c with
 | seq a b iha ihb=>intro k h;exact Qf4 (iha _ h)
 | _=>intro k h;exact h
theorem GQ {C:CtxG}{k k':List It}{e:Env}{w:World} (ks:List Nat) {c:Code}{id:Nat}{ops:List Oper}{Y:(Env->World->Prop)->Prop}
  (h:∀ K:Env->World->Prop,(∀ e w,VG C k' e w->K e w)->Y K) (hp:peel c k=.code (.region id ops.toArray false)::k':=by rfl) (hN:(ops.all (Qdp C.N) && ops.all Qex)=true:=by kernel_rfl)
  (hY:∀ K,Qay C.P C.N ops ops e w (selC ks K)=Y K:=by intro K;simp only [go_sem,↓reduceIte,reduceEqDiff];exact rfl):VG C (.code c::k) e w:=QEg c k (hp ▸ Quk ks hN fun K hK=>(hY K).mpr (h K hK))
theorem En {P:Program}{f:FuncId}{fn:Func}{c:Code}{w:World}{F:Value->World->Prop}{E:Env} (args:List Value) (N:Nat) (hf:P.funcs[f]? = some fn) (h:VC ⟨P,fn,F,N⟩ [.code c] E w)
  (hb:fn.body=some c:=by rfl) (hN:fn.ntmps=N:=by rfl) (hle:args.length<=N:=by exact of_decide_eq_true rfl) (hE:Env.ofArgs 0 args=E:=by simp only [Env.ofArgs];exact rfl):Does P f args.toArray w F :=
 Qdj N hf hb hN hle (hE ▸ h)
theorem VD {C:Ctx}{k:List It}{e:Env}{w:World}{t:Tmp}{p:Prop}{d:Decidable p}{x y:Code} (ht:p->VC C (.code x::k) e w) (hf:¬p->VC C (.code y::k) e w) (hv:e.find? t=some (.bool (decide p)):=by rfl):VC C (.code (.cond (.tmp t) x y)::k) e w :=
 Qaf rfl hv (fun h=>ht (of_decide_eq_true h)) fun h=>hf (of_decide_eq_false h)
theorem VS {P:Program}{fn:Func}{F:Value->World->Prop}{N:Nat}{k k':List It}{e e':Env}{w w':World} (ks:List Nat) {c:Code}{id:Nat}{ops:List Oper} (h:VC ⟨P,fn,F,N⟩ k' e' w')
  (hp:peel c k=.code (.region id ops.toArray false)::k':=by rfl) (hN:ops.all (Qdp N)=true:=by rfl)
  (hY:∀ K:Env->World->Prop,K e' w'->Qay P N ops ops e w (selC ks K):=by intro K h;simp only [go_sem,↓reduceIte,reduceEqDiff];(repeat refine Qo ?_);exact h):VC ⟨P,fn,F,N⟩ (.code c::k) e w :=
 VR ks hp hN fun K hK=>hY K (hK _ _ h)
theorem GS {C:CtxG}{k k':List It}{e e':Env}{w w':World} (ks:List Nat) {c:Code}{id:Nat}{ops:List Oper} (h:VG C k' e' w')
  (hp:peel c k=.code (.region id ops.toArray false)::k':=by rfl) (hN:(ops.all (Qdp C.N) && ops.all Qex)=true:=by kernel_rfl)
  (hY:∀ K:Env->World->Prop,K e' w'->Qay C.P C.N ops ops e w (selC ks K):=by intro K h;simp only [go_sem,↓reduceIte,reduceEqDiff];(repeat refine Qo ?_);exact h):VG C (.code c::k) e w :=
 QEg c k (hp ▸ Quk ks hN fun K hK=>hY K (hK _ _ h))
end Go.Eng
namespace Go.Proofs.YtfphmlhgebpojaaGreat
open Go Go.Eng
section
variable {w:World}{KV:Value->Prop}
theorem sz3:Tryz.prog.szo 3=some 1:=by kernel_rfl
theorem ld3 (a:Addr):Qb9 Tryz.prog 3 (.pointer (some a)) w KV=∃ v,w.cell? a=some v/\KV v:=Qqk 3 a .i64 Tryz.underlying3
theorem QRr (k:IntKind) (n:Int):Qfd Tryz.prog 3 5 (.int k n) w KV=Qed .u8 n KV:=Qg8 3 5 _ .u8 k n Tryz.underlying3 Tryz.underlying5
theorem QRs:Qbu Tryz.prog 3 5=true:=by kernel_rfl
theorem QO0 (k:IntKind) (n:Int):Qfd Tryz.prog 3 31 (.int k n) w KV=Qed .u32 n KV:=Qg8 3 31 _ .u32 k n Tryz.underlying3 Tryz.underlying31
theorem QO1:Qbu Tryz.prog 3 31=true:=by kernel_rfl
theorem QO2 (k:IntKind) (n:Int):Qfd Tryz.prog 3 71 (.int k n) w KV=Qed .u64 n KV:=Qg8 3 71 _ .u64 k n Tryz.underlying3 Tryz.underlying71
theorem QO3:Qbu Tryz.prog 3 71=true:=by kernel_rfl
theorem QO4 (k:IntKind) (n:Int):Qfd Tryz.prog 3 97 (.int k n) w KV=Qed .u64 n KV:=Qg8 3 97 _ .u64 k n Tryz.underlying3 Tryz.underlying97
theorem QO5:Qbu Tryz.prog 3 97=true:=by kernel_rfl
theorem QLe (k:IntKind) (n:Int):Qfd Tryz.prog 3 228 (.int k n) w KV=Qed .u64 n KV:=Qg8 3 228 _ .u64 k n Tryz.underlying3 Tryz.underlying228
theorem QLf:Qbu Tryz.prog 3 228=true:=by kernel_rfl
theorem sz4:Tryz.prog.szo 4=some 1:=by kernel_rfl
theorem ld4 (a:Addr):Qb9 Tryz.prog 4 (.pointer (some a)) w KV=∃ v,w.cell? a=some v/\KV v:=QKv 4 a Tryz.underlying4
theorem QRt (x y:Operand) (a b:Bool):Qby Tryz.prog .eql 4 x y (.bool a) (.bool b) w KV=KV (.bool (decide (a=b))):=QOe 4 x y a b Tryz.underlying4
theorem QRu (x y:Operand) (a b:Bool):Qby Tryz.prog .neq 4 x y (.bool a) (.bool b) w KV=KV (.bool (decide (¬ a=b))):=QOf 4 x y a b Tryz.underlying4
theorem sz5:Tryz.prog.szo 5=some 1:=by kernel_rfl
theorem ld5 (a:Addr):Qb9 Tryz.prog 5 (.pointer (some a)) w KV=∃ v,w.cell? a=some v/\KV v:=Qqk 5 a .u8 Tryz.underlying5
theorem QRv (k:IntKind) (n:Int):Qfd Tryz.prog 5 3 (.int k n) w KV=Qed .i64 n KV:=Qg8 5 3 _ .i64 k n Tryz.underlying5 Tryz.underlying3
theorem QRw:Qbu Tryz.prog 5 3=true:=by kernel_rfl
theorem QO6 (k:IntKind) (n:Int):Qfd Tryz.prog 5 71 (.int k n) w KV=Qed .u64 n KV:=Qg8 5 71 _ .u64 k n Tryz.underlying5 Tryz.underlying71
theorem QO7:Qbu Tryz.prog 5 71=true:=by kernel_rfl
theorem sz9:Tryz.prog.szo 9=some 1:=by kernel_rfl
theorem ln9 (s:ByteArray):vLen Tryz.prog 9 (.string s) KV=KV (.int .i64 (toL s).length):=QOg 9 s Tryz.underlying9
theorem ix9 (s:ByteArray) (k:IntKind) (n:Int):Qee Tryz.prog 9 (.string s) (.int k n) KV=((0<=n/\n < (toL s).length)/\KV (.int .u8 ((toL s).getD n.toNat 0).toNat)):=QOh 9 s k n Tryz.underlying9
theorem snn9 (s:ByteArray):Qcb Tryz.prog 9 (.string s) none none KV=KV (.string s):=QRj 9 s Tryz.underlying9
theorem sln9 (s:ByteArray) (k:IntKind) (l:Int):Qcb Tryz.prog 9 (.string s) (some (.int k l)) none KV=((0<=l/\l<=(toL s).length)/\KV (Str ((toL s).drop l.toNat))):=QRk 9 s k l Tryz.underlying9
theorem snh9 (s:ByteArray) (k:IntKind) (l:Int):Qcb Tryz.prog 9 (.string s) none (some (.int k l)) KV=((0<=l/\l<=(toL s).length)/\KV (Str ((toL s).take l.toNat))):=QRl 9 s k l Tryz.underlying9
theorem slh9 (s:ByteArray) (k k':IntKind) (l m:Int):Qcb Tryz.prog 9 (.string s) (some (.int k l)) (some (.int k' m)) KV=((0<=l/\l<=m/\m<=(toL s).length)/\KV (Str (((toL s).drop l.toNat).take (m.toNat - l.toNat)))):=QRm 9 s k k' l m Tryz.underlying9
theorem ld9 (a:Addr):Qb9 Tryz.prog 9 (.pointer (some a)) w KV=∃ v,w.cell? a=some v/\KV v:=QOj 9 a Tryz.underlying9
theorem sz20:Tryz.prog.szo 20=some 1:=by kernel_rfl
theorem sz24:Tryz.prog.szo 24=some 2:=by kernel_rfl
theorem ld24 (a:Addr):Qb9 Tryz.prog 24 (.pointer (some a)) w KV=∃ cs:List Value,(cs.length=2/\Reads w a cs)/\KV (.agg cs.toArray):=QDs 24 2 a _ Tryz.underlying24 (by kernel_rfl)
theorem bd24 (s0:ByteArray) (n1:Int):Qdk Tryz.prog 24 [(0,.string s0),(1,.int .i64 n1)] KV=KV (.agg #[.string s0,.int .i64 n1]):=Qio (by kernel_rfl)
theorem bz24:Qdk Tryz.prog 24 [] KV=KV (.agg #[.string ⟨#[]⟩,.int .i64 0]):=Qio (by kernel_rfl)
theorem QO8 (l:List Value):Qc3 Tryz.prog 24 (.agg l.toArray) 0 KV=vNth l 0 KV:=Qd6 24 0 l Tryz.underlying24 rfl (by kernel_rfl) (by kernel_rfl) (by kernel_rfl)
theorem QO9 (a:Addr):Qa1 Tryz.prog 24 (.pointer (some a)) 0 KV=KV (.pointer (some (a.add 0))):=Qg6 24 0 a (m:=0) Tryz.underlying24 rfl (by kernel_rfl)
theorem QPa (l:List Value):Qc3 Tryz.prog 24 (.agg l.toArray) 1 KV=vNth l 1 KV:=Qd6 24 1 l Tryz.underlying24 rfl (by kernel_rfl) (by kernel_rfl) (by kernel_rfl)
theorem QPb (a:Addr):Qa1 Tryz.prog 24 (.pointer (some a)) 1 KV=KV (.pointer (some (a.add 1))):=Qg6 24 1 a (m:=0) Tryz.underlying24 rfl (by kernel_rfl)
theorem sz25:Tryz.prog.szo 25=some 1:=by kernel_rfl
theorem ld25 (a:Addr):Qb9 Tryz.prog 25 (.pointer (some a)) w KV=∃ v,w.cell? a=some v/\KV v:=Qqk 25 a .i64 Tryz.underlying25
theorem sz31:Tryz.prog.szo 31=some 1:=by kernel_rfl
theorem ld31 (a:Addr):Qb9 Tryz.prog 31 (.pointer (some a)) w KV=∃ v,w.cell? a=some v/\KV v:=Qqk 31 a .u32 Tryz.underlying31
theorem QPc (k:IntKind) (n:Int):Qfd Tryz.prog 31 5 (.int k n) w KV=Qed .u8 n KV:=Qg8 31 5 _ .u8 k n Tryz.underlying31 Tryz.underlying5
theorem QPd:Qbu Tryz.prog 31 5=true:=by kernel_rfl
theorem QLg (k:IntKind) (n:Int):Qfd Tryz.prog 31 71 (.int k n) w KV=Qed .u64 n KV:=Qg8 31 71 _ .u64 k n Tryz.underlying31 Tryz.underlying71
theorem QLh:Qbu Tryz.prog 31 71=true:=by kernel_rfl
theorem sz36:Tryz.prog.szo 36=some 1:=by kernel_rfl
theorem ln36 (a:Option Addr) (n c:Nat):vLen Tryz.prog 36 (.slice a n c) KV=KV (.int .i64 n):=Qw4 36 3 a n c Tryz.underlying36
theorem QRx (a:Option Addr) (n c:Nat):Qcb Tryz.prog 36 (.slice a n c) none none KV=(n<=c/\KV (.slice a n c)):=QKr 36 3 a n c 1 Tryz.underlying36 (by kernel_rfl)
theorem QRy (a:Option Addr) (n c:Nat) (k:IntKind) (l:Int):Qcb Tryz.prog 36 (.slice a n c) (some (.int k l)) none KV=((0<=l/\l<=n/\n<=c)/\KV (.slice (if c=l.toNat then a else a.map (·.add (l.toNat * 1))) (n - l.toNat) (c - l.toNat))):=QKs 36 3 a n c 1 k l Tryz.underlying36 (by kernel_rfl)
theorem QRz (a:Option Addr) (n c:Nat) (k:IntKind) (l:Int):Qcb Tryz.prog 36 (.slice a n c) none (some (.int k l)) KV=((0<=l/\l<=c)/\KV (.slice a l.toNat c)):=QKt 36 3 a n c 1 k l Tryz.underlying36 (by kernel_rfl)
theorem QR0 (a:Option Addr) (n c:Nat) (k k':IntKind) (l m:Int):Qcb Tryz.prog 36 (.slice a n c) (some (.int k l)) (some (.int k' m)) KV=((0<=l/\l<=m/\m<=c)/\KV (.slice (if c=l.toNat then a else a.map (·.add (l.toNat * 1))) (m.toNat - l.toNat) (c - l.toNat))):=QKu 36 3 a n c 1 k k' l m Tryz.underlying36 (by kernel_rfl)
theorem ia36 (a:Addr) (n c:Nat) (k:IntKind) (i:Int):Qa5 Tryz.prog 36 (.slice (some a) n c) (.int k i) KV=((0<=i/\i < n)/\KV (.pointer (some (a.add (i.toNat * 1))))):=Qt3 36 3 a n c 1 k i Tryz.underlying36 (by kernel_rfl)
theorem ld36 (a:Addr):Qb9 Tryz.prog 36 (.pointer (some a)) w KV=∃ v,w.cell? a=some v/\KV v:=QBa 36 3 a Tryz.underlying36
theorem sz42:Tryz.prog.szo 42=some 4:=by kernel_rfl
theorem ld42 (a:Addr):Qb9 Tryz.prog 42 (.pointer (some a)) w KV=∃ cs:List Value,(cs.length=4/\Reads w a cs)/\KV (.agg cs.toArray):=QHi 42 4 4 5 a Tryz.underlying42 (by kernel_rfl)
theorem QR1 (l:List Value) (k:IntKind) (i:Int):Qee Tryz.prog 42 (.agg l.toArray) (.int k i) KV=((0<=i/\i < ((4:Nat):Int))/\vNth l i.toNat KV):=Qn8 42 l k i Tryz.underlying42 (by kernel_rfl) (by kernel_rfl) (by kernel_rfl)
theorem ia42 (a:Addr) (k:IntKind) (i:Int):Qa5 Tryz.prog 42 (.pointer (some a)) (.int k i) KV=((0<=i/\i < ((4:Nat):Int))/\KV (.pointer (some (a.add (i.toNat * 1))))):=Qw5 42 5 a 4 1 k i Tryz.underlying42 (by kernel_rfl)
theorem sz43:Tryz.prog.szo 43=some 1:=by kernel_rfl
theorem ln43 (a:Option Addr) (n c:Nat):vLen Tryz.prog 43 (.slice a n c) KV=KV (.int .i64 n):=Qw4 43 5 a n c Tryz.underlying43
theorem QR2 (a:Option Addr) (n c:Nat):Qcb Tryz.prog 43 (.slice a n c) none none KV=(n<=c/\KV (.slice a n c)):=QKr 43 5 a n c 1 Tryz.underlying43 (by kernel_rfl)
theorem QR3 (a:Option Addr) (n c:Nat) (k:IntKind) (l:Int):Qcb Tryz.prog 43 (.slice a n c) (some (.int k l)) none KV=((0<=l/\l<=n/\n<=c)/\KV (.slice (if c=l.toNat then a else a.map (·.add (l.toNat * 1))) (n - l.toNat) (c - l.toNat))):=QKs 43 5 a n c 1 k l Tryz.underlying43 (by kernel_rfl)
theorem QR4 (a:Option Addr) (n c:Nat) (k:IntKind) (l:Int):Qcb Tryz.prog 43 (.slice a n c) none (some (.int k l)) KV=((0<=l/\l<=c)/\KV (.slice a l.toNat c)):=QKt 43 5 a n c 1 k l Tryz.underlying43 (by kernel_rfl)
theorem QR5 (a:Option Addr) (n c:Nat) (k k':IntKind) (l m:Int):Qcb Tryz.prog 43 (.slice a n c) (some (.int k l)) (some (.int k' m)) KV=((0<=l/\l<=m/\m<=c)/\KV (.slice (if c=l.toNat then a else a.map (·.add (l.toNat * 1))) (m.toNat - l.toNat) (c - l.toNat))):=QKu 43 5 a n c 1 k k' l m Tryz.underlying43 (by kernel_rfl)
theorem ia43 (a:Addr) (n c:Nat) (k:IntKind) (i:Int):Qa5 Tryz.prog 43 (.slice (some a) n c) (.int k i) KV=((0<=i/\i < n)/\KV (.pointer (some (a.add (i.toNat * 1))))):=Qt3 43 5 a n c 1 k i Tryz.underlying43 (by kernel_rfl)
theorem ld43 (a:Addr):Qb9 Tryz.prog 43 (.pointer (some a)) w KV=∃ v,w.cell? a=some v/\KV v:=QBa 43 5 a Tryz.underlying43
theorem QPe (a:Option Addr) (n c:Nat):Qfd Tryz.prog 43 9 (.slice a n c) w KV=∃ l,Qhp w a n l/\KV (Str l):=QOi 43 9 5 a n c Tryz.underlying43 Tryz.underlying9 Tryz.underlying5
theorem QPf:Qbu Tryz.prog 43 9=true:=by kernel_rfl
theorem QPg:Qbu Tryz.prog 9 43=false:=by kernel_rfl
theorem sz56:Tryz.prog.szo 56=some 1:=by kernel_rfl
theorem ln56 (a:Option Addr) (n c:Nat):vLen Tryz.prog 56 (.slice a n c) KV=KV (.int .i64 n):=Qw4 56 9 a n c Tryz.underlying56
theorem ia56 (a:Addr) (n c:Nat) (k:IntKind) (i:Int):Qa5 Tryz.prog 56 (.slice (some a) n c) (.int k i) KV=((0<=i/\i < n)/\KV (.pointer (some (a.add (i.toNat * 1))))):=Qt3 56 9 a n c 1 k i Tryz.underlying56 (by kernel_rfl)
theorem sz63:Tryz.prog.szo 63=some 1:=by kernel_rfl
theorem ln63 (a:Option Addr) (n c:Nat):vLen Tryz.prog 63 (.slice a n c) KV=KV (.int .i64 n):=Qw4 63 36 a n c Tryz.underlying63
theorem ia63 (a:Addr) (n c:Nat) (k:IntKind) (i:Int):Qa5 Tryz.prog 63 (.slice (some a) n c) (.int k i) KV=((0<=i/\i < n)/\KV (.pointer (some (a.add (i.toNat * 1))))):=Qt3 63 36 a n c 1 k i Tryz.underlying63 (by kernel_rfl)
theorem ld63 (a:Addr):Qb9 Tryz.prog 63 (.pointer (some a)) w KV=∃ v,w.cell? a=some v/\KV v:=QBa 63 36 a Tryz.underlying63
theorem sz65:Tryz.prog.szo 65=some 2:=by kernel_rfl
theorem ld65 (a:Addr):Qb9 Tryz.prog 65 (.pointer (some a)) w KV=∃ cs:List Value,(cs.length=2/\Reads w a cs)/\KV (.agg cs.toArray):=QDs 65 2 a _ Tryz.underlying65 (by kernel_rfl)
theorem bd65 (a0:Option Addr) (n0 c0:Nat) (a1:Option Addr) (n1 c1:Nat):Qdk Tryz.prog 65 [(0,.slice a0 n0 c0),(1,.slice a1 n1 c1)] KV=KV (.agg #[.slice a0 n0 c0,.slice a1 n1 c1]):=Qio (by kernel_rfl)
theorem bz65:Qdk Tryz.prog 65 [] KV=KV (.agg #[.slice none 0 0,.slice none 0 0]):=Qio (by kernel_rfl)
theorem QPh (l:List Value):Qc3 Tryz.prog 65 (.agg l.toArray) 0 KV=vNth l 0 KV:=Qd6 65 0 l Tryz.underlying65 rfl (by kernel_rfl) (by kernel_rfl) (by kernel_rfl)
theorem QPi (a:Addr):Qa1 Tryz.prog 65 (.pointer (some a)) 0 KV=KV (.pointer (some (a.add 0))):=Qg6 65 0 a (m:=0) Tryz.underlying65 rfl (by kernel_rfl)
theorem QPj (l:List Value):Qc3 Tryz.prog 65 (.agg l.toArray) 1 KV=vNth l 1 KV:=Qd6 65 1 l Tryz.underlying65 rfl (by kernel_rfl) (by kernel_rfl) (by kernel_rfl)
theorem QPk (a:Addr):Qa1 Tryz.prog 65 (.pointer (some a)) 1 KV=KV (.pointer (some (a.add 1))):=Qg6 65 1 a (m:=0) Tryz.underlying65 rfl (by kernel_rfl)
theorem sz68:Tryz.prog.szo 68=some 1:=by kernel_rfl
theorem pe68 (a:Option Addr) (xo yo:Operand):Qby Tryz.prog .eql 68 xo yo (.pointer a) (.pointer none) w KV=KV (.bool a.isNone):=Qzo Tryz.underlying68 a xo yo
theorem pn68 (a:Option Addr) (xo yo:Operand):Qby Tryz.prog .neq 68 xo yo (.pointer a) (.pointer none) w KV=KV (.bool !a.isNone):=QJb Tryz.underlying68 a xo yo
theorem sz71:Tryz.prog.szo 71=some 1:=by kernel_rfl
theorem ld71 (a:Addr):Qb9 Tryz.prog 71 (.pointer (some a)) w KV=∃ v,w.cell? a=some v/\KV v:=Qqk 71 a .u64 Tryz.underlying71
theorem QPl (k:IntKind) (n:Int):Qfd Tryz.prog 71 3 (.int k n) w KV=Qed .i64 n KV:=Qg8 71 3 _ .i64 k n Tryz.underlying71 Tryz.underlying3
theorem QPm:Qbu Tryz.prog 71 3=true:=by kernel_rfl
theorem QPn (k:IntKind) (n:Int):Qfd Tryz.prog 71 5 (.int k n) w KV=Qed .u8 n KV:=Qg8 71 5 _ .u8 k n Tryz.underlying71 Tryz.underlying5
theorem QPo:Qbu Tryz.prog 71 5=true:=by kernel_rfl
theorem QLi (k:IntKind) (n:Int):Qfd Tryz.prog 71 31 (.int k n) w KV=Qed .u32 n KV:=Qg8 71 31 _ .u32 k n Tryz.underlying71 Tryz.underlying31
theorem QLj:Qbu Tryz.prog 71 31=true:=by kernel_rfl
theorem sz97:Tryz.prog.szo 97=some 1:=by kernel_rfl
theorem QPp (k:IntKind) (n:Int):Qfd Tryz.prog 97 3 (.int k n) w KV=Qed .i64 n KV:=Qg8 97 3 _ .i64 k n Tryz.underlying97 Tryz.underlying3
theorem QPq:Qbu Tryz.prog 97 3=true:=by kernel_rfl
theorem QLk (k:IntKind) (n:Int):Qfd Tryz.prog 97 31 (.int k n) w KV=Qed .u32 n KV:=Qg8 97 31 _ .u32 k n Tryz.underlying97 Tryz.underlying31
theorem QLl:Qbu Tryz.prog 97 31=true:=by kernel_rfl
theorem QR6:Tryz.prog.szo 100=some 1:=by kernel_rfl
theorem QPr (a:Addr):Qb9 Tryz.prog 100 (.pointer (some a)) w KV=∃ v,w.cell? a=some v/\KV v:=QOl 100 _ _ _ a Tryz.underlying100
theorem QR7:Tryz.prog.szo 101=some 1:=by kernel_rfl
theorem QR8 (a:Option Addr) (n c:Nat):vLen Tryz.prog 101 (.slice a n c) KV=KV (.int .i64 n):=Qw4 101 24 a n c Tryz.underlying101
theorem QR9 (a:Addr) (n c:Nat) (k:IntKind) (i:Int):Qa5 Tryz.prog 101 (.slice (some a) n c) (.int k i) KV=((0<=i/\i < n)/\KV (.pointer (some (a.add (i.toNat * 2))))):=Qt3 101 24 a n c 2 k i Tryz.underlying101 (by kernel_rfl)
theorem QSa (a:Addr):Qb9 Tryz.prog 101 (.pointer (some a)) w KV=∃ v,w.cell? a=some v/\KV v:=QBa 101 24 a Tryz.underlying101
theorem QSb:Tryz.prog.szo 102=some 1:=by kernel_rfl
theorem QSc (a:Option Addr) (n c:Nat):vLen Tryz.prog 102 (.slice a n c) KV=KV (.int .i64 n):=Qw4 102 31 a n c Tryz.underlying102
theorem QSd (a:Addr) (n c:Nat) (k:IntKind) (i:Int):Qa5 Tryz.prog 102 (.slice (some a) n c) (.int k i) KV=((0<=i/\i < n)/\KV (.pointer (some (a.add (i.toNat * 1))))):=Qt3 102 31 a n c 1 k i Tryz.underlying102 (by kernel_rfl)
theorem QSe (a:Addr):Qb9 Tryz.prog 102 (.pointer (some a)) w KV=∃ v,w.cell? a=some v/\KV v:=QBa 102 31 a Tryz.underlying102
theorem QSf:Tryz.prog.szo 118=some 256:=by kernel_rfl
theorem QPs (l:List Value) (k:IntKind) (i:Int):Qee Tryz.prog 118 (.agg l.toArray) (.int k i) KV=((0<=i/\i < ((256:Nat):Int))/\vNth l i.toNat KV):=Qn8 118 l k i Tryz.underlying118 (by kernel_rfl) (by kernel_rfl) (by kernel_rfl)
theorem QSg (a:Addr) (k:IntKind) (i:Int):Qa5 Tryz.prog 118 (.pointer (some a)) (.int k i) KV=((0<=i/\i < ((256:Nat):Int))/\KV (.pointer (some (a.add (i.toNat * 1))))):=Qw5 118 4 a 256 1 k i Tryz.underlying118 (by kernel_rfl)
theorem QSh:Tryz.prog.szo 123=some 2:=by kernel_rfl
theorem QSi (a0:Option Addr) (n0 c0:Nat) (n1:Int):Qdk Tryz.prog 123 [(0,.slice a0 n0 c0),(1,.int .i64 n1)] KV=KV (.agg #[.slice a0 n0 c0,.int .i64 n1]):=Qio (by kernel_rfl)
theorem QSj:Qdk Tryz.prog 123 [] KV=KV (.agg #[.slice none 0 0,.int .i64 0]):=Qio (by kernel_rfl)
theorem QLm (l:List Value):Qc3 Tryz.prog 123 (.agg l.toArray) 0 KV=vNth l 0 KV:=Qd6 123 0 l Tryz.underlying123 rfl (by kernel_rfl) (by kernel_rfl) (by kernel_rfl)
theorem QLn (a:Addr):Qa1 Tryz.prog 123 (.pointer (some a)) 0 KV=KV (.pointer (some (a.add 0))):=Qg6 123 0 a (m:=0) Tryz.underlying123 rfl (by kernel_rfl)
theorem QLo (l:List Value):Qc3 Tryz.prog 123 (.agg l.toArray) 1 KV=vNth l 1 KV:=Qd6 123 1 l Tryz.underlying123 rfl (by kernel_rfl) (by kernel_rfl) (by kernel_rfl)
theorem QLp (a:Addr):Qa1 Tryz.prog 123 (.pointer (some a)) 1 KV=KV (.pointer (some (a.add 1))):=Qg6 123 1 a (m:=0) Tryz.underlying123 rfl (by kernel_rfl)
theorem QSk:Tryz.prog.szo 124=some 16:=by kernel_rfl
theorem QSl (a:Addr):Qb9 Tryz.prog 124 (.pointer (some a)) w KV=∃ cs:List Value,(cs.length=16/\Reads w a cs)/\KV (.agg cs.toArray):=QHi 124 16 16 71 a Tryz.underlying124 (by kernel_rfl)
theorem QPt (l:List Value) (k:IntKind) (i:Int):Qee Tryz.prog 124 (.agg l.toArray) (.int k i) KV=((0<=i/\i < ((16:Nat):Int))/\vNth l i.toNat KV):=Qn8 124 l k i Tryz.underlying124 (by kernel_rfl) (by kernel_rfl) (by kernel_rfl)
theorem QSm (a:Addr) (k:IntKind) (i:Int):Qa5 Tryz.prog 124 (.pointer (some a)) (.int k i) KV=((0<=i/\i < ((16:Nat):Int))/\KV (.pointer (some (a.add (i.toNat * 1))))):=Qw5 124 71 a 16 1 k i Tryz.underlying124 (by kernel_rfl)
theorem QSn:Tryz.prog.szo 130=some 1:=by kernel_rfl
theorem QSo (a:Option Addr) (xo yo:Operand):Qby Tryz.prog .eql 130 xo yo (.pointer a) (.pointer none) w KV=KV (.bool a.isNone):=Qzo Tryz.underlying130 a xo yo
theorem QSp (a:Option Addr) (xo yo:Operand):Qby Tryz.prog .neq 130 xo yo (.pointer a) (.pointer none) w KV=KV (.bool !a.isNone):=QJb Tryz.underlying130 a xo yo
theorem QSq (a:Addr):Qb9 Tryz.prog 130 (.pointer (some a)) w KV=∃ v,w.cell? a=some v/\KV v:=QOk 130 179 a Tryz.underlying130
theorem QSr:Tryz.prog.szo 141=some 1:=by kernel_rfl
theorem QSs (n0:Int):Qdk Tryz.prog 141 [(0,.int .i64 n0)] KV=KV (.agg #[.int .i64 n0]):=Qio (by kernel_rfl)
theorem QSt:Qdk Tryz.prog 141 [] KV=KV (.agg #[.int .i64 0]):=Qio (by kernel_rfl)
theorem QLq (l:List Value):Qc3 Tryz.prog 141 (.agg l.toArray) 0 KV=vNth l 0 KV:=Qd6 141 0 l Tryz.underlying141 rfl (by kernel_rfl) (by kernel_rfl) (by kernel_rfl)
theorem QLr (a:Addr):Qa1 Tryz.prog 141 (.pointer (some a)) 0 KV=KV (.pointer (some (a.add 0))):=Qg6 141 0 a (m:=0) Tryz.underlying141 rfl (by kernel_rfl)
theorem QSu:Tryz.prog.szo 143=some 1:=by kernel_rfl
theorem QPu (a:Addr):Qb9 Tryz.prog 143 (.pointer (some a)) w KV=∃ v,w.cell? a=some v/\KV v:=QOl 143 _ _ _ a Tryz.underlying143
theorem QSv (f:Fn) (x y:Array Value) (xo yo:Operand):Qby Tryz.prog .eql 143 xo yo (.func f x y) .nilFunc w KV=KV (.bool false):=QOv Tryz.underlying143 f x y xo yo
theorem QSw:Tryz.prog.szo 155=some 1:=by kernel_rfl
theorem QSx (a:Addr) (n c:Nat) (k:IntKind) (i:Int):Qa5 Tryz.prog 155 (.slice (some a) n c) (.int k i) KV=((0<=i/\i < n)/\KV (.pointer (some (a.add (i.toNat * 1))))):=Qt3 155 63 a n c 1 k i Tryz.underlying155 (by kernel_rfl)
theorem QSy:Tryz.prog.szo 162=some 256:=by kernel_rfl
theorem QSz (a:Addr):Qb9 Tryz.prog 162 (.pointer (some a)) w KV=∃ cs:List Value,(cs.length=256/\Reads w a cs)/\KV (.agg cs.toArray):=QHi 162 256 256 31 a Tryz.underlying162 (by kernel_rfl)
theorem QPv (l:List Value) (k:IntKind) (i:Int):Qee Tryz.prog 162 (.agg l.toArray) (.int k i) KV=((0<=i/\i < ((256:Nat):Int))/\vNth l i.toNat KV):=Qn8 162 l k i Tryz.underlying162 (by kernel_rfl) (by kernel_rfl) (by kernel_rfl)
theorem QS0 (a:Addr) (k:IntKind) (i:Int):Qa5 Tryz.prog 162 (.pointer (some a)) (.int k i) KV=((0<=i/\i < ((256:Nat):Int))/\KV (.pointer (some (a.add (i.toNat * 1))))):=Qw5 162 31 a 256 1 k i Tryz.underlying162 (by kernel_rfl)
theorem QS1:Tryz.prog.szo 166=some 2:=by kernel_rfl
theorem QS2 (a:Addr):Qb9 Tryz.prog 166 (.pointer (some a)) w KV=∃ cs:List Value,(cs.length=2/\Reads w a cs)/\KV (.agg cs.toArray):=QDs 166 2 a _ Tryz.underlying166 (by kernel_rfl)
theorem QS3 (a0:Option Addr) (n0 c0:Nat) (n1:Int):Qdk Tryz.prog 166 [(0,.slice a0 n0 c0),(1,.int .i64 n1)] KV=KV (.agg #[.slice a0 n0 c0,.int .i64 n1]):=Qio (by kernel_rfl)
theorem QS4:Qdk Tryz.prog 166 [] KV=KV (.agg #[.slice none 0 0,.int .i64 0]):=Qio (by kernel_rfl)
theorem QLs (l:List Value):Qc3 Tryz.prog 166 (.agg l.toArray) 0 KV=vNth l 0 KV:=Qd6 166 0 l Tryz.underlying166 rfl (by kernel_rfl) (by kernel_rfl) (by kernel_rfl)
theorem QLt (a:Addr):Qa1 Tryz.prog 166 (.pointer (some a)) 0 KV=KV (.pointer (some (a.add 0))):=Qg6 166 0 a (m:=0) Tryz.underlying166 rfl (by kernel_rfl)
theorem QLu (l:List Value):Qc3 Tryz.prog 166 (.agg l.toArray) 1 KV=vNth l 1 KV:=Qd6 166 1 l Tryz.underlying166 rfl (by kernel_rfl) (by kernel_rfl) (by kernel_rfl)
theorem QLv (a:Addr):Qa1 Tryz.prog 166 (.pointer (some a)) 1 KV=KV (.pointer (some (a.add 1))):=Qg6 166 1 a (m:=0) Tryz.underlying166 rfl (by kernel_rfl)
theorem QS5:Tryz.prog.szo 170=some 1:=by kernel_rfl
theorem QS6:Tryz.prog.szo 174=some 1:=by kernel_rfl
theorem QS7:Tryz.prog.szo 179=some 3:=by kernel_rfl
theorem QS8 (f0:Fn) (x0 y0:Array Value) (n1:Int) (n2:Int):Qdk Tryz.prog 179 [(0,.func f0 x0 y0),(1,.int .i64 n1),(2,.int .i64 n2)] KV=KV (.agg #[.func f0 x0 y0,.int .i64 n1,.int .i64 n2]):=Qio (by kernel_rfl)
theorem QS9:Qdk Tryz.prog 179 [] KV=KV (.agg #[.nilFunc,.int .i64 0,.int .i64 0]):=Qio (by kernel_rfl)
theorem QLw (l:List Value):Qc3 Tryz.prog 179 (.agg l.toArray) 0 KV=vNth l 0 KV:=Qd6 179 0 l Tryz.underlying179 rfl (by kernel_rfl) (by kernel_rfl) (by kernel_rfl)
theorem QLx (a:Addr):Qa1 Tryz.prog 179 (.pointer (some a)) 0 KV=KV (.pointer (some (a.add 0))):=Qg6 179 0 a (m:=0) Tryz.underlying179 rfl (by kernel_rfl)
theorem QLy (l:List Value):Qc3 Tryz.prog 179 (.agg l.toArray) 1 KV=vNth l 1 KV:=Qd6 179 1 l Tryz.underlying179 rfl (by kernel_rfl) (by kernel_rfl) (by kernel_rfl)
theorem QLz (a:Addr):Qa1 Tryz.prog 179 (.pointer (some a)) 1 KV=KV (.pointer (some (a.add 1))):=Qg6 179 1 a (m:=0) Tryz.underlying179 rfl (by kernel_rfl)
theorem QL0 (l:List Value):Qc3 Tryz.prog 179 (.agg l.toArray) 2 KV=vNth l 2 KV:=Qd6 179 2 l Tryz.underlying179 rfl (by kernel_rfl) (by kernel_rfl) (by kernel_rfl)
theorem QL1 (a:Addr):Qa1 Tryz.prog 179 (.pointer (some a)) 2 KV=KV (.pointer (some (a.add 2))):=Qg6 179 2 a (m:=0) Tryz.underlying179 rfl (by kernel_rfl)
theorem QTa:Tryz.prog.szo 188=some 256:=by kernel_rfl
theorem QTb (a:Addr):Qb9 Tryz.prog 188 (.pointer (some a)) w KV=∃ cs:List Value,(cs.length=256/\Reads w a cs)/\KV (.agg cs.toArray):=QHi 188 256 256 3 a Tryz.underlying188 (by kernel_rfl)
theorem QPw (l:List Value) (k:IntKind) (i:Int):Qee Tryz.prog 188 (.agg l.toArray) (.int k i) KV=((0<=i/\i < ((256:Nat):Int))/\vNth l i.toNat KV):=Qn8 188 l k i Tryz.underlying188 (by kernel_rfl) (by kernel_rfl) (by kernel_rfl)
theorem QTc (a:Addr) (k:IntKind) (i:Int):Qa5 Tryz.prog 188 (.pointer (some a)) (.int k i) KV=((0<=i/\i < ((256:Nat):Int))/\KV (.pointer (some (a.add (i.toNat * 1))))):=Qw5 188 3 a 256 1 k i Tryz.underlying188 (by kernel_rfl)
theorem QTd:Tryz.prog.szo 190=some 2:=by kernel_rfl
theorem QTe (f0:Fn) (x0 y0:Array Value) (n1:Int):Qdk Tryz.prog 190 [(0,.func f0 x0 y0),(1,.int .i64 n1)] KV=KV (.agg #[.func f0 x0 y0,.int .i64 n1]):=Qio (by kernel_rfl)
theorem QTf:Qdk Tryz.prog 190 [] KV=KV (.agg #[.nilFunc,.int .i64 0]):=Qio (by kernel_rfl)
theorem QL2 (l:List Value):Qc3 Tryz.prog 190 (.agg l.toArray) 0 KV=vNth l 0 KV:=Qd6 190 0 l Tryz.underlying190 rfl (by kernel_rfl) (by kernel_rfl) (by kernel_rfl)
theorem QL3 (a:Addr):Qa1 Tryz.prog 190 (.pointer (some a)) 0 KV=KV (.pointer (some (a.add 0))):=Qg6 190 0 a (m:=0) Tryz.underlying190 rfl (by kernel_rfl)
theorem QL4 (l:List Value):Qc3 Tryz.prog 190 (.agg l.toArray) 1 KV=vNth l 1 KV:=Qd6 190 1 l Tryz.underlying190 rfl (by kernel_rfl) (by kernel_rfl) (by kernel_rfl)
theorem QL5 (a:Addr):Qa1 Tryz.prog 190 (.pointer (some a)) 1 KV=KV (.pointer (some (a.add 1))):=Qg6 190 1 a (m:=0) Tryz.underlying190 rfl (by kernel_rfl)
theorem QTg:Tryz.prog.szo 196=some 4:=by kernel_rfl
theorem QPx (l:List Value) (k:IntKind) (i:Int):Qee Tryz.prog 196 (.agg l.toArray) (.int k i) KV=((0<=i/\i < ((4:Nat):Int))/\vNth l i.toNat KV):=Qn8 196 l k i Tryz.underlying196 (by kernel_rfl) (by kernel_rfl) (by kernel_rfl)
theorem QTh (a:Addr) (k:IntKind) (i:Int):Qa5 Tryz.prog 196 (.pointer (some a)) (.int k i) KV=((0<=i/\i < ((4:Nat):Int))/\KV (.pointer (some (a.add (i.toNat * 1))))):=Qw5 196 3 a 4 1 k i Tryz.underlying196 (by kernel_rfl)
theorem QTi:Tryz.prog.szo 198=some 1:=by kernel_rfl
theorem QTj (a:Option Addr) (n c:Nat):vLen Tryz.prog 198 (.slice a n c) KV=KV (.int .i64 n):=Qw4 198 200 a n c Tryz.underlying198
theorem QPy (a:Option Addr) (n c:Nat):Qcb Tryz.prog 198 (.slice a n c) none none KV=(n<=c/\KV (.slice a n c)):=QKr 198 200 a n c 2 Tryz.underlying198 (by kernel_rfl)
theorem QPz (a:Option Addr) (n c:Nat) (k:IntKind) (l:Int):Qcb Tryz.prog 198 (.slice a n c) (some (.int k l)) none KV=((0<=l/\l<=n/\n<=c)/\KV (.slice (if c=l.toNat then a else a.map (·.add (l.toNat * 2))) (n - l.toNat) (c - l.toNat))):=QKs 198 200 a n c 2 k l Tryz.underlying198 (by kernel_rfl)
theorem QP0 (a:Option Addr) (n c:Nat) (k:IntKind) (l:Int):Qcb Tryz.prog 198 (.slice a n c) none (some (.int k l)) KV=((0<=l/\l<=c)/\KV (.slice a l.toNat c)):=QKt 198 200 a n c 2 k l Tryz.underlying198 (by kernel_rfl)
theorem QP1 (a:Option Addr) (n c:Nat) (k k':IntKind) (l m:Int):Qcb Tryz.prog 198 (.slice a n c) (some (.int k l)) (some (.int k' m)) KV=((0<=l/\l<=m/\m<=c)/\KV (.slice (if c=l.toNat then a else a.map (·.add (l.toNat * 2))) (m.toNat - l.toNat) (c - l.toNat))):=QKu 198 200 a n c 2 k k' l m Tryz.underlying198 (by kernel_rfl)
theorem QTk (a:Addr) (n c:Nat) (k:IntKind) (i:Int):Qa5 Tryz.prog 198 (.slice (some a) n c) (.int k i) KV=((0<=i/\i < n)/\KV (.pointer (some (a.add (i.toNat * 2))))):=Qt3 198 200 a n c 2 k i Tryz.underlying198 (by kernel_rfl)
theorem QTl (a:Addr):Qb9 Tryz.prog 198 (.pointer (some a)) w KV=∃ v,w.cell? a=some v/\KV v:=QBa 198 200 a Tryz.underlying198
theorem QL6:Tryz.prog.szo 200=some 2:=by kernel_rfl
theorem QTm (a:Addr):Qb9 Tryz.prog 200 (.pointer (some a)) w KV=∃ cs:List Value,(cs.length=2/\Reads w a cs)/\KV (.agg cs.toArray):=QDs 200 2 a _ Tryz.underlying200 (by kernel_rfl)
theorem QTn (n0:Int) (n1:Int):Qdk Tryz.prog 200 [(0,.int .i64 n0),(1,.int .i64 n1)] KV=KV (.agg #[.int .i64 n0,.int .i64 n1]):=Qio (by kernel_rfl)
theorem QTo:Qdk Tryz.prog 200 [] KV=KV (.agg #[.int .i64 0,.int .i64 0]):=Qio (by kernel_rfl)
theorem QL7 (l:List Value):Qc3 Tryz.prog 200 (.agg l.toArray) 0 KV=vNth l 0 KV:=Qd6 200 0 l Tryz.underlying200 rfl (by kernel_rfl) (by kernel_rfl) (by kernel_rfl)
theorem QL8 (a:Addr):Qa1 Tryz.prog 200 (.pointer (some a)) 0 KV=KV (.pointer (some (a.add 0))):=Qg6 200 0 a (m:=0) Tryz.underlying200 rfl (by kernel_rfl)
theorem QL9 (l:List Value):Qc3 Tryz.prog 200 (.agg l.toArray) 1 KV=vNth l 1 KV:=Qd6 200 1 l Tryz.underlying200 rfl (by kernel_rfl) (by kernel_rfl) (by kernel_rfl)
theorem QMa (a:Addr):Qa1 Tryz.prog 200 (.pointer (some a)) 1 KV=KV (.pointer (some (a.add 1))):=Qg6 200 1 a (m:=0) Tryz.underlying200 rfl (by kernel_rfl)
theorem QTp:Tryz.prog.szo 202=some 1:=by kernel_rfl
theorem QTq:Tryz.prog.szo 204=some 1:=by kernel_rfl
theorem QTr (a:Addr):Qb9 Tryz.prog 204 (.pointer (some a)) w KV=∃ cs:List Value,(cs.length=1/\Reads w a cs)/\KV (.agg cs.toArray):=QDs 204 1 a _ Tryz.underlying204 (by kernel_rfl)
theorem QTs (a0:Option Addr) (n0 c0:Nat):Qdk Tryz.prog 204 [(0,.slice a0 n0 c0)] KV=KV (.agg #[.slice a0 n0 c0]):=Qio (by kernel_rfl)
theorem QTt:Qdk Tryz.prog 204 [] KV=KV (.agg #[.slice none 0 0]):=Qio (by kernel_rfl)
theorem QMb (l:List Value):Qc3 Tryz.prog 204 (.agg l.toArray) 0 KV=vNth l 0 KV:=Qd6 204 0 l Tryz.underlying204 rfl (by kernel_rfl) (by kernel_rfl) (by kernel_rfl)
theorem QMc (a:Addr):Qa1 Tryz.prog 204 (.pointer (some a)) 0 KV=KV (.pointer (some (a.add 0))):=Qg6 204 0 a (m:=0) Tryz.underlying204 rfl (by kernel_rfl)
theorem QTu:Tryz.prog.szo 205=some 22:=by kernel_rfl
theorem QP2 (l:List Value) (k:IntKind) (i:Int):Qee Tryz.prog 205 (.agg l.toArray) (.int k i) KV=((0<=i/\i < ((22:Nat):Int))/\vNth l i.toNat KV):=Qn8 205 l k i Tryz.underlying205 (by kernel_rfl) (by kernel_rfl) (by kernel_rfl)
theorem QTv (a:Addr) (k:IntKind) (i:Int):Qa5 Tryz.prog 205 (.pointer (some a)) (.int k i) KV=((0<=i/\i < ((22:Nat):Int))/\KV (.pointer (some (a.add (i.toNat * 1))))):=Qw5 205 3 a 22 1 k i Tryz.underlying205 (by kernel_rfl)
theorem QTw:Tryz.prog.szo 207=some 68:=by kernel_rfl
theorem QMd (l:List Value):Qc3 Tryz.prog 207 (.agg l.toArray) 0 KV=KV (.agg ((l.take 1).drop 0).toArray):=Qzp 207 0 l 1 Tryz.underlying207 rfl (by kernel_rfl) (by kernel_rfl) (by kernel_rfl)
theorem QMe (a:Addr):Qa1 Tryz.prog 207 (.pointer (some a)) 0 KV=KV (.pointer (some (a.add 0))):=Qg6 207 0 a (m:=0) Tryz.underlying207 rfl (by kernel_rfl)
theorem QMf (l:List Value):Qc3 Tryz.prog 207 (.agg l.toArray) 1 KV=vNth l 1 KV:=Qd6 207 1 l Tryz.underlying207 rfl (by kernel_rfl) (by kernel_rfl) (by kernel_rfl)
theorem QMg (a:Addr):Qa1 Tryz.prog 207 (.pointer (some a)) 1 KV=KV (.pointer (some (a.add 1))):=Qg6 207 1 a (m:=0) Tryz.underlying207 rfl (by kernel_rfl)
theorem QMh (l:List Value):Qc3 Tryz.prog 207 (.agg l.toArray) 2 KV=KV (.agg ((l.take 24).drop 2).toArray):=Qzp 207 2 l 22 Tryz.underlying207 rfl (by kernel_rfl) (by kernel_rfl) (by kernel_rfl)
theorem QMi (a:Addr):Qa1 Tryz.prog 207 (.pointer (some a)) 2 KV=KV (.pointer (some (a.add 2))):=Qg6 207 2 a (m:=21) Tryz.underlying207 rfl (by kernel_rfl)
theorem QMj (l:List Value):Qc3 Tryz.prog 207 (.agg l.toArray) 3 KV=KV (.agg ((l.take 46).drop 24).toArray):=Qzp 207 3 l 22 Tryz.underlying207 rfl (by kernel_rfl) (by kernel_rfl) (by kernel_rfl)
theorem QMk (a:Addr):Qa1 Tryz.prog 207 (.pointer (some a)) 3 KV=KV (.pointer (some (a.add 24))):=Qg6 207 3 a (m:=21) Tryz.underlying207 rfl (by kernel_rfl)
theorem QMl (l:List Value):Qc3 Tryz.prog 207 (.agg l.toArray) 4 KV=KV (.agg ((l.take 68).drop 46).toArray):=Qzp 207 4 l 22 Tryz.underlying207 rfl (by kernel_rfl) (by kernel_rfl) (by kernel_rfl)
theorem QMm (a:Addr):Qa1 Tryz.prog 207 (.pointer (some a)) 4 KV=KV (.pointer (some (a.add 46))):=Qg6 207 4 a (m:=21) Tryz.underlying207 rfl (by kernel_rfl)
theorem QTx:Tryz.prog.szo 215=some 1:=by kernel_rfl
theorem QTy:Tryz.prog.szo 228=some 1:=by kernel_rfl
theorem QTz (a:Addr):Qb9 Tryz.prog 228 (.pointer (some a)) w KV=∃ v,w.cell? a=some v/\KV v:=Qqk 228 a .u64 Tryz.underlying228
theorem QT0:Tryz.prog.szo 232=some 1:=by kernel_rfl
end
attribute [go_sem ↓] ld3 QRr QO0 QO2 QO4 QLe ld4 QRt QRu ld5 QRv QO6 ln9 ix9 snn9 sln9 snh9 slh9 ld9 ld24 bd24 bz24 QO8 QO9 QPa QPb ld25 ld31 QPc QLg ln36 QRx QRy QRz QR0 ia36 ld36 ld42 QR1 ia42 ln43 QR2 QR3 QR4 QR5 ia43 ld43 QPe ln56 ia56 ln63 ia63 ld63 ld65 bd65 bz65 QPh QPi QPj QPk pe68 pn68 ld71 QPl QPn QLi QPp QLk QPr QR8 QR9 QSa QSc QSd QSe QPs QSg QSi QSj QLm QLn QLo QLp QSl QPt QSm QSo QSp QSq QSs QSt QLq QLr QPu QSv QSx QSz QPv QS0 QS2 QS3 QS4 QLs QLt QLu QLv QS8 QS9 QLw QLx QLy QLz QL0 QL1 QTb QPw QTc QTe QTf QL2 QL3 QL4 QL5 QPx QTh QTj QPy QPz QP0 QP1 QTk QTl QTm QTn QTo QL7 QL8 QL9 QMa QTr QTs QTt QMb QMc QP2 QTv QMd QMe QMf QMg QMh QMi QMj QMk QMl QMm QTz
attribute [go_sem] sz3 QRs QO1 QO3 QO5 QLf sz4 sz5 QRw QO7 sz9 sz20 sz24 sz25 sz31 QPd QLh sz36 sz42 sz43 QPf QPg sz56 sz63 sz65 sz68 sz71 QPm QPo QLj sz97 QPq QLl QR6 QR7 QSb QSf QSh QSk QSn QSr QSu QSw QSy QS1 QS5 QS6 QS7 QTa QTd QTg QTi QL6 QTp QTq QTu QTw QTx QTy QT0
theorem zi3:(Tryz.prog.info? 3).map (fun i=>(i.zero.map Value.cells,i.size,i.bytes))=some (some #[.int .i64 0],1,8):=by kernel_rfl
theorem zi5:(Tryz.prog.info? 5).map (fun i=>(i.zero.map Value.cells,i.size,i.bytes))=some (some #[.int .u8 0],1,1):=by kernel_rfl
theorem zi36:(Tryz.prog.info? 36).map (fun i=>(i.zero.map Value.cells,i.size,i.bytes))=some (some #[.slice none 0 0],1,24):=by kernel_rfl
open Go.Sort (swp insInner insOuter insertionSort)
def arr (g cap:Nat) (d:Array Int):Res:=Res.row 3 1 (some ⟨g,0,none⟩) d.size cap (Qap d.toList)
abbrev sl (g cap:Nat) (d:Array Int):Value:=.slice (some ⟨g,0,none⟩) d.size cap
theorem Qax {g cap:Nat}{d:Array Int}{w:World} (h:(arr g cap d).holds w) {k:Nat} (hk:k < d.size):w.cell? ⟨g,k,none⟩=some (.int .i64 d[k]!):=by
 refine Qaw h ?_;rw [Qcv (by simpa using hk)]
 congr 2
 simp only [List.getD_eq_getElem?_getD,getElem!_def,Array.getElem?_toList];cases d[k]? <;> rfl
theorem Qa0 {w0 w:World}{B:List Nat}{G:List Res} (hH:Heap w0 B w G) (i:Nat) {g cap o:Nat}{d:Array Int}{ap:Addr}{x:Int}{C:World->Prop} (hi:G[i]? = some (arr g cap d)) (hp:ap=⟨g,o,none⟩) (ho:o < d.size)
  (h:∀ w',Heap w0 B w' (G.set i (arr g cap (d.setIfInBounds o x)))->C w'):Qim Tryz.prog 3 (.pointer (some ap)) (.int .i64 x) w C:=by
 refine Qas hH i (o:=o) (vs:=[.int .i64 x]) hi (by rw [hp];simp [Qa8]) rfl (by kernel_rfl) (by rw [Qc8];simp;omega) (by simp [Value.oneCell']) fun w' hw=>h w' ?_
 have e:(Qap d.toList).take o++[.int .i64 x]++(Qap d.toList).drop (o+[Value.int .i64 x].length)=Qap (d.setIfInBounds o x).toList:=by
  rw [List.length_singleton,Qb2 (Qap d.toList) _ _ (by rw [Qc8];simpa using ho),Qub,Array.toList_setIfInBounds]
 rw [e] at hw;unfold arr
 rwa [Array.size_setIfInBounds]
structure Cmp (fv:Value) (cf:Int->Int->Int) (Q:Int->Prop) (R:Res):Prop where
 i64:∀ x y,Q x->Q y->-9223372036854775808<=cf x y/\cf x y<=9223372036854775807
 run:∀ w x y,R.holds w->Q x->Q y->FnK Tryz.prog fv [.int .i64 x,.int .i64 y] w (fun v w'=>Heap w [] w' []/\v=.int .i64 (cf x y))
abbrev ltOf (cf:Int->Int->Int):Int->Int->Bool:=fun x y=>decide (cf x y < 0)
def AllQ (Q:Int->Prop) (d:Array Int):Prop:=∀ k < d.size,Q d[k]!
theorem Qdh (d:Array Int) (i j:Nat):(swp d i j).size=d.size:=by simp [swp]
theorem AllQ.swp {Q:Int->Prop}{d:Array Int} (h:AllQ Q d) {i j:Nat} (hi:i < d.size) (hj:j < d.size):AllQ Q (swp d i j):=by
 intro k hk;rw [Qdh] at hk;rw [Sort.swp_get d hi hj];split
 ·
  exact h _ hi
 split
 ·
  exact h _ hj
 exact h _ hk
theorem FnK.to {fv:Value}{vs:List Value}{w:World}{C C':Value->World->Prop} (h:FnK Tryz.prog fv vs w C) (h':∀ v w',C v w'->C' v w'):FnK Tryz.prog fv vs w C':=by
 obtain ⟨f,first,cs,h1,h2,F,h3,h4⟩:=h;exact ⟨f,first,cs,h1,h2,F,h3,fun v w' h=>h' v w' (h4 v w' h)⟩
theorem Cmp.look {cmp:Value}{cf:Int->Int->Int}{Q:Int->Prop}{R:Res} (hC:Cmp cmp cf Q R) {w0 w:World}{B:List Nat}{G:List Res}{r:Res} (hH:Heap w0 B w (r::R::G)) {x y:Int} (hx:Q x) (hy:Q y) :
  FnK Tryz.prog cmp [.int .i64 x,.int .i64 y] w (fun v w'=>Heap w0 B w' (r::R::G)/\v=.int .i64 (cf x y)):=by
 obtain ⟨f,first,cs,h1,h2,h3⟩:=hC.run w x y (hH.at 1 rfl) hx hy;obtain ⟨F,h3,h4⟩:=h3;exact ⟨f,first,cs,h1,h2,F,h3,fun v w' h=>⟨hH.call0 (h4 v w' h).1,(h4 v w' h).2⟩⟩
theorem Qxn {lt:Int->Int->Bool}{a j:Nat}{d:Array Int} (h1:a < j) (h2:lt d[j]! d[j - 1]! = true):insInner lt a (j - 1) (swp d j (j - 1))=insInner lt a j d:=by
 obtain ⟨k,rfl⟩:∃ k,j=k+1:=⟨j - 1,by omega⟩;rw [Nat.add_sub_cancel] at *;rw [insInner,if_pos (by simp [h1,h2])]
theorem Qsd {lt:Int->Int->Bool}{a j:Nat}{d:Array Int} (h:false=(decide (a < j) && lt d[j]! d[j - 1]!)):insInner lt a j d=d:=by
 cases j with
 | zero=>rfl
 | succ k=>rw [Nat.add_sub_cancel] at h;rw [insInner,if_neg (by simpa using h.symm)]
theorem Qxo {lt:Int->Int->Bool}{a b i:Nat}{d:Array Int} (h:i < b):insOuter lt a b i d=insOuter lt a b (i+1) (insInner lt a i d):=by rw [insOuter,if_pos h]
theorem Qse {lt:Int->Int->Bool}{a b i:Nat}{d:Array Int} (h:¬ i < b):insOuter lt a b i d=d:=by rw [insOuter,if_neg h]
theorem Qk1 {cmp:Value}{cf:Int->Int->Int}{Q:Int->Prop}{R:Res} (hC:Cmp cmp cf Q R) (g cap a b:Nat) (d:Array Int) (hab:a<=b) (hb:b<=d.size) (hd:d.size<=1000000000000) (hQ:AllQ Q d) (w0 w:World) (B:List Nat) (G:List Res)
  (hL:Heap w0 B w (arr g cap d::R::G)):Does Tryz.prog 177 #[sl g cap d,.int .i64 a,.int .i64 b,cmp] w
   fun v w'=>∃ d',d'=insertionSort (ltOf cf) d a b/\d'.size=d.size/\AllQ Q d'/\Heap w0 B w' (arr g cap d'::R::G)/\v=.tuple #[]:=by
 refine En [sl g cap d,.int .i64 a,.int .i64 b,cmp] 53 Tryz.func177 ?_;refine VS [0,1,2,3,8] ?_;refine Qab ?_;refine Qac [0,1,2,3,8] (fun m e w'=>∃ (i:Nat) (d':Array Int),Is e [(0,sl g cap d),(1,.int .i64 a),(2,.int .i64 b),(3,cmp),(8,.int .i64 i)]/\Heap w0 B w' (arr g cap d'::R::G)/\d'.size=d.size/\AllQ Q d'/\a+1<=i/\i<=max b (a+1)/\insOuter (ltOf cf) a b i d'=insertionSort (ltOf cf) d a b/\m=b - i) (b - (a+1)) ?_ ?_
 ·
  refine Qs ?_;exact ⟨a+1,d,rfl,hL,rfl,hQ,by omega,by omega,rfl,rfl⟩
 rintro m e w1 ⟨i,d1,rfl,hH,hs1,hQ1,hi1,hi2,hins,rfl⟩;refine VS [0,1,2,3,8,14] ?_;refine VD (fun h=>?_) (fun h=>?_)
 ·
  refine VC_skip ?_;refine VB ?_;refine VS [0,1,2,3,8,9] ?_;refine Qab ?_;refine Qac [0,1,2,3,8,9] (fun m e w'=>∃ (j:Nat) (d':Array Int),Is e [(0,sl g cap d),(1,.int .i64 a),(2,.int .i64 b),(3,cmp),(8,.int .i64 i),(9,.int .i64 j)]/\Heap w0 B w' (arr g cap d'::R::G)/\d'.size=d.size/\AllQ Q d'/\a<=j/\j<=i/\insInner (ltOf cf) a j d'=insInner (ltOf cf) a i d1/\m=j) i ?_ ?_
  ·
   refine Qs ?_;exact ⟨i,d1,rfl,hH,hs1,hQ1,by omega,by omega,rfl,rfl⟩
  rintro m e w2 ⟨j,d2,rfl,hH,hs2,hQ2,hj1,hj2,hinn,hm⟩;refine VL [0,1,2,3,8,9,34] 14 fun K hK=>?_
  have hall:∀ bb:Bool,∀ w4,bb=(decide (a < j) && ltOf cf d2[j]! d2[j - 1]!)->Heap w0 B w4 (arr g cap d2::R::G)->K [(0,sl g cap d),(1,.int .i64 a),(2,.int .i64 b),(3,cmp),(8,.int .i64 i),(9,.int .i64 j),(34,.bool bb)] w4:=by
   intro bb w4 hb hH;apply hK;clear hK;refine Vi (fun h=>?_) (fun h=>?_)
   ·
    subst h;simp only [Bool.true_eq,Bool.and_eq_true,decide_eq_true_eq] at hb;refine VC_skip ?_;refine VB ?_;refine Vb [0,1,2,3,8,9] [(0,0),(1,0),(2,0),(3,0),(4,0),(5,0),(6,0),(7,0),(8,0),(10,0),(11,0),(12,0),(9,1),(13,1),(14,0),(15,2),(16,0),(17,2)] fun K hK=>?_;(repeat (first | (refine ⟨_,Qax (hH.at 0 rfl) (by omega),?_⟩;(try refine Qs ?_)) | refine Qo ?_ | refine Qp ?_));refine MemK_store ?_;refine Qs ?_;refine Qa0 hH 0 (o:=(j)) rfl (by first | rfl | (simp;done) | (congr 1;omega)) (by first | omega | (simp;omega)) fun w6 hH3=>?_;simp only [List.set_cons_zero] at hH3;(try refine Qs ?_);(repeat (first | (refine ⟨_,Qax (hH.at 0 rfl) (by omega),?_⟩;(try refine Qs ?_)) | refine Qo ?_ | refine Qp ?_));refine MemK_store ?_;refine Qs ?_;refine Qa0 hH3 0 (o:=(j - 1)) rfl (by first | rfl | (simp;done) | (congr 1;omega)) (by first | omega | (simp;omega)) fun w6 hH4=>?_;simp only [List.set_cons_zero] at hH4;(try refine Qs ?_);have hH5:Heap w0 B w6 (arr g cap (swp d2 j (j - 1))::R::G):=hH4;apply hK;clear hK;refine Qah ?_;refine VS [0,1,2,3,8,9] ?_;refine Qaa ?_;refine Qs ?_;refine ⟨j - 1,by omega,j - 1,_,by rw [show ((j:Int) - 1)=((j - 1:Nat):Int) by omega];rfl,hH5,by rw [Qdh,hs2],hQ2.swp (by omega) (by omega),by omega,by omega,?_,rfl⟩;rw [<- hinn,Qxn hb.1 (by simpa [ltOf] using hb.2)]
   subst h;refine Qad rfl ?_;refine Qah ?_;refine VS [0,1,2,3,8] ?_;refine Qaa ?_;refine Qs ?_;refine ⟨b - (i+1),by omega,i+1,d2,rfl,hH,hs2,hQ2,by omega,by omega,?_,rfl⟩;rw [<- hins,Qxo (i:=i) (by omega),<- hinn,Qsd hb]
  refine ⟨fun hg=>?_,fun hg=>?_⟩
  ·
   (repeat (first | (refine ⟨_,Qax (hH.at 0 rfl) (by omega),?_⟩;(try refine Qs ?_)) | refine Qo ?_ | refine Qp ?_));refine Qbf ?_;refine Qs ?_;refine FnK.to (Cmp.look hC hH (hQ2 _ (by omega)) (hQ2 _ (by omega))) ?_;rintro v w4 ⟨hH2,rfl⟩;(try refine Qs ?_);refine hall _ _ ?_ hH2;simp [ltOf,show a < j by omega]
  refine hall _ _ ?_ hH;simp [show ¬ a < j by omega]
 refine Qad rfl ?_;refine Qqh (Qgq rfl ?_);rw [Qse (by omega)] at hins;exact ⟨_,hins,hs1,hQ1,hH,rfl⟩
open Go Go.Eng
open Go.Sort (swp siftDown heapBuild heapPop heapSort)
theorem Qsf {lt:Int->Int->Bool}{hi first root:Nat}{d:Array Int} (h:2 * root+1 ≥ hi):siftDown lt hi first root d=d:=by rw [siftDown,dif_pos h]
theorem Qsg {lt:Int->Int->Bool}{hi first root c:Nat}{d:Array Int} (h:2 * root+1 < hi) (hc:c=if (decide (2 * root+2 < hi) && lt d[first+(2 * root+1)]! d[first+(2 * root+1)+1]!) then 2 * root+2 else 2 * root+1) :
  siftDown lt hi first root d=if lt d[first+root]! d[first+c]! then siftDown lt hi first c (swp d (first+root) (first+c)) else d:=by
 rw [siftDown,dif_neg (by omega)];by_cases h1:(decide (2 * root+2 < hi) && lt d[first+(2 * root+1)]! d[first+(2 * root+1)+1]!)=true
 ·
  rw [if_pos h1] at hc ⊢;subst hc;have h2:2 * root+2 < hi:=by simp at h1;exact h1.1
  rw [dif_pos h2];cases lt d[first+root]! d[first+(2 * root+2)]! <;> simp
 rw [if_neg h1] at hc ⊢;subst hc;cases lt d[first+root]! d[first+(2 * root+1)]! <;> simp
theorem Qk2 {cmp:Value}{cf:Int->Int->Int}{Q:Int->Prop}{R:Res} (hC:Cmp cmp cf Q R) (g cap lo hi first:Nat) (d:Array Int) (hlo:lo<=1000000000000) (hb:first+hi<=d.size) (hd:d.size<=1000000000000) (hQ:AllQ Q d) (w0 w:World) (B:List Nat) (G:List Res)
  (hL:Heap w0 B w (arr g cap d::R::G)):Does Tryz.prog 196 #[sl g cap d,.int .i64 lo,.int .i64 hi,.int .i64 first,cmp] w
   fun v w'=>∃ d',d'=siftDown (ltOf cf) hi first lo d/\d'.size=d.size/\AllQ Q d'/\Heap w0 B w' (arr g cap d'::R::G)/\v=.tuple #[]:=by
 refine En [sl g cap d,.int .i64 lo,.int .i64 hi,.int .i64 first,cmp] 82 Tryz.func196 ?_;refine VS [0,2,3,4,10] ?_;refine Qab ?_;refine Qac [0,2,3,4,10] (fun m e w'=>∃ (root:Nat) (d':Array Int),Is e [(0,sl g cap d),(2,.int .i64 hi),(3,.int .i64 first),(4,cmp),(10,.int .i64 root)]/\Heap w0 B w' (arr g cap d'::R::G)/\d'.size=d.size/\AllQ Q d'/\root<=1000000000000/\siftDown (ltOf cf) hi first root d'=siftDown (ltOf cf) hi first lo d/\m=hi - root) (hi - lo) ?_ ?_
 ·
  refine Qs ?_;exact ⟨lo,d,rfl,hL,rfl,hQ,hlo,rfl,rfl⟩
 rintro m e w1 ⟨root,d1,rfl,hH,hs1,hQ1,hr,hins,hm⟩;refine Qab ?_;refine VS [0,2,3,4,10,11] ?_;refine VS [0,2,3,4,10,11,18] ?_;refine VD (fun h=>?_) (fun h=>?_)
 ·
  refine Qad rfl ?_;refine Qqh (Qgq rfl ?_);rw [Qsf (by omega)] at hins;exact ⟨_,hins,hs1,hQ1,hH,rfl⟩
 refine VC_skip ?_;refine VL [0,2,3,4,10,11,40] 19 fun K hK=>?_
 have hall:∀ bb:Bool,∀ w4,bb=(decide (2 * root+2 < hi) && ltOf cf d1[first+(2 * root+1)]! d1[first+(2 * root+1)+1]!)->Heap w0 B w4 (arr g cap d1::R::G)->K [(0,sl g cap d),(2,.int .i64 hi),(3,.int .i64 first),(4,cmp),(10,.int .i64 root),(11,.int .i64 (2 * root+1)),(40,.bool bb)] w4:=by
  intro bb w4 hbb hH;apply hK;clear hK;refine Qde [0,2,3,4,10,11] (fun e w'=>∃ c:Nat,Is e [(0,sl g cap d),(2,.int .i64 hi),(3,.int .i64 first),(4,cmp),(10,.int .i64 root),(11,.int .i64 c)]/\Is w' w4/\c=if bb then 2 * root+2 else 2 * root+1) ?_ ?_
  ·
   refine Vi (fun h=>?_) (fun h=>?_)
   ·
    subst h;refine VS [0,2,3,4,10,11] ?_;refine Qaa ?_;refine Qs ?_;exact ⟨2 * root+2,by rw [show (2 * (root:Int)+1+1)=((2 * root+2:Nat):Int) by omega];rfl,rfl,rfl⟩
   subst h;refine VC_skip ?_;refine Qaa ?_;refine Qs ?_;exact ⟨2 * root+1,by rw [show (2 * (root:Int)+1)=((2 * root+1:Nat):Int) by omega];rfl,rfl,rfl⟩
  rintro e w' ⟨c,rfl,rfl,hc⟩;rw [hbb] at hc
  have hch:c < hi:=by
   by_cases h2:2 * root+2 < hi
   ·
    split at hc <;> omega
   rw [if_neg (by simp [h2])] at hc;omega
  have hc0:root < c:=by split at hc <;> omega
  have hst:=Qsg (lt:=ltOf cf) (first:=first) (d:=d1) (by omega) hc;refine VL [0,2,3,4,10,11,58] 13 fun K hK=>?_;(repeat (first | (refine ⟨_,Qax (hH.at 0 rfl) (by omega),?_⟩;(try refine Qs ?_)) | refine Qo ?_ | refine Qp ?_));refine Qbf ?_;refine Qs ?_;refine FnK.to (Cmp.look hC hH (hQ1 _ (by omega)) (hQ1 _ (by omega))) ?_;rintro v w4 ⟨hH2,rfl⟩;(try refine Qs ?_);clear hH;apply hK;clear hK;refine Vi (fun h=>?_) (fun h=>?_)
  ·
   simp at h;rw [if_neg (by simp [ltOf];omega)] at hst;refine VC_ret (Qgq rfl ?_);exact ⟨_,by rw [<- hins,hst],hs1,hQ1,hH2,rfl⟩
  simp at h;rw [if_pos (by simp [ltOf];omega)] at hst;refine VC_skip ?_;refine Vb [0,2,3,4,11] [(0,0),(1,0),(2,0),(3,0),(4,0),(5,0),(6,0),(7,0),(8,0),(9,0),(10,0),(11,0),(12,0),(14,0),(15,0),(16,0),(17,0),(18,0),(13,1),(19,1),(20,0),(21,2),(22,0),(23,2)] fun K hK=>?_;(repeat (first | (refine ⟨_,Qax (hH2.at 0 rfl) (by omega),?_⟩;(try refine Qs ?_)) | refine Qo ?_ | refine Qp ?_));refine MemK_store ?_;refine Qs ?_;refine Qa0 hH2 0 (o:=(first+root)) rfl (by first | rfl | (simp;done) | (congr 1;omega)) (by first | omega | (simp;omega)) fun w6 hH3=>?_;simp only [List.set_cons_zero] at hH3;(try refine Qs ?_);(repeat (first | (refine ⟨_,Qax (hH2.at 0 rfl) (by omega),?_⟩;(try refine Qs ?_)) | refine Qo ?_ | refine Qp ?_));refine MemK_store ?_;refine Qs ?_;refine Qa0 hH3 0 (o:=(first+c)) rfl (by first | rfl | (simp;done) | (congr 1;omega)) (by first | omega | (simp;omega)) fun w6 hH4=>?_;simp only [List.set_cons_zero] at hH4;(try refine Qs ?_);have hH5:Heap w0 B w6 (arr g cap (swp d1 (first+root) (first+c))::R::G):=hH4;apply hK;clear hK;refine VS [0,2,3,4,10] ?_;refine Qah ?_;refine Qaa ?_;refine Qs ?_;refine ⟨hi - c,by omega,c,_,rfl,hH5,by rw [Qdh,hs1],hQ1.swp (by omega) (by omega),by omega,by rw [<- hins,hst],rfl⟩
 refine ⟨I64.mk (by omega) (by omega),?_⟩;refine ⟨fun hg=>?_,fun hg=>?_⟩
 ·
  (repeat (first | (refine ⟨_,Qax (hH.at 0 rfl) (by omega),?_⟩;(try refine Qs ?_)) | refine Qo ?_ | refine Qp ?_));refine Qbf ?_;refine Qs ?_;refine FnK.to (Cmp.look hC hH (hQ1 _ (by omega)) (hQ1 _ (by omega))) ?_;rintro v w4 ⟨hH2,rfl⟩;(try refine Qs ?_);refine hall _ _ ?_ hH2;rw [show ((first:Int)+(2 * root+1)).toNat=first+(2 * root+1) by omega,show ((first:Int)+(2 * root+1)+1).toNat=first+(2 * root+1)+1 by omega];simp [ltOf,show 2 * root+2 < hi by omega]
 refine hall _ _ ?_ hH;simp [show ¬ 2 * root+2 < hi by omega]
theorem Qsh {cmp:Value}{cf:Int->Int->Int}{Q:Int->Prop}{R:Res} (hC:Cmp cmp cf Q R) (g cap a b:Nat) (d:Array Int) (hab:a < b) (hb:b<=d.size) (hd:d.size<=1000000000000) (hQ:AllQ Q d) (w0 w:World) (B:List Nat) (G:List Res)
  (hL:Heap w0 B w (arr g cap d::R::G)):Does Tryz.prog 178 #[sl g cap d,.int .i64 a,.int .i64 b,cmp] w
   fun v w'=>∃ d',d'=heapSort (ltOf cf) d a b/\d'.size=d.size/\AllQ Q d'/\Heap w0 B w' (arr g cap d'::R::G)/\v=.tuple #[]:=by
 refine En [sl g cap d,.int .i64 a,.int .i64 b,cmp] 60 Tryz.func178 ?_;refine VS [0,1,2,3,8] ?_;refine VS [0,1,2,3,8,9] ?_;refine VS [0,3,8,9,10] ?_;refine VS [0,3,8,9,10,11] ?_;rw [show ((b:Int) - a)=((b - a:Nat):Int) by omega];generalize hn:b - a=n at *;refine Qab ?_;refine Qac [0,3,8,9,10,11] (fun m e w'=>∃ (k:Nat) (i:Int) (d':Array Int),Is e [(0,sl g cap d),(3,cmp),(8,.int .i64 a),(9,.int .i64 0),(10,.int .i64 n),(11,.int .i64 i)]/\Heap w0 B w' (arr g cap d'::R::G)/\d'.size=d.size/\AllQ Q d'/\i=(k:Int) - 1/\k<=n/\heapBuild (ltOf cf) n a k d'=heapBuild (ltOf cf) n a ((n - 1) / 2+1) d/\m=k) ((n - 1) / 2+1) ?_ ?_
 ·
  refine Qs ?_;exact ⟨(n - 1) / 2+1,_,d,rfl,hL,rfl,hQ,by omega,by omega,rfl,rfl⟩
 rintro m e w1 ⟨k,i,d1,rfl,hH,hs1,hQ1,hi,hk,hins,hm⟩;refine VS [0,3,8,9,10,11,21] ?_;refine VD (fun h=>?_) (fun h=>?_)
 ·
  obtain ⟨k,rfl⟩:∃ j,k=j+1:=⟨k - 1,by omega⟩;have hi':i=(k:Int):=by omega
  subst hi';refine VC_skip ?_;refine VB ?_;refine VQ [0,3,8,9,10,11] fun K hK=>?_;have hsd:=Qk2 hC g cap k n a d1 (by omega) (by omega) (by omega) hQ1 w0 w1 B G hH;rw [sl,hs1] at hsd;refine MemK_call Tryz.call196 ?_;refine Qs ?_;refine CallK.mk hsd ?_;rintro v w2 ⟨d2,hd2,hs2,hQ2,hH2,rfl⟩;apply hK;clear hK;refine Qah ?_;refine VS [0,3,8,9,10,11] ?_;refine Qaa ?_;refine Qs ?_;refine ⟨k,by omega,k,_,d2,rfl,hH2,by omega,hQ2,rfl,by omega,?_,rfl⟩;rw [<- hins,heapBuild,hd2]
 obtain rfl:k=0:=by omega
 rw [heapBuild] at hins;refine Qad rfl ?_;refine VS [0,3,8,9,12] ?_;refine Qab ?_;refine Qac [0,3,8,9,12] (fun m e w'=>∃ (k:Nat) (i:Int) (d':Array Int),Is e [(0,sl g cap d),(3,cmp),(8,.int .i64 a),(9,.int .i64 0),(12,.int .i64 i)]/\Heap w0 B w' (arr g cap d'::R::G)/\d'.size=d.size/\AllQ Q d'/\i=(k:Int) - 1/\k<=n/\heapPop (ltOf cf) a k d'=heapPop (ltOf cf) a n d1/\m=k) n ?_ ?_
 ·
  refine Qs ?_;exact ⟨n,_,d1,rfl,hH,hs1,hQ1,rfl,by omega,rfl,rfl⟩
 clear hH h;rintro m e w2 ⟨k,i,d2,rfl,hH,hs2,hQ2,hi,hk,hpop,hm⟩;refine VS [0,3,8,9,12,33] ?_;refine VD (fun h=>?_) (fun h=>?_)
 ·
  obtain ⟨k,rfl⟩:∃ j,k=j+1:=⟨k - 1,by omega⟩;have hi':i=(k:Int):=by omega
  subst hi';refine VC_skip ?_;refine VB ?_;refine Vb [0,3,8,9,12] [(0,0),(1,0),(2,0),(3,0),(4,0),(5,0),(6,0),(7,0),(8,0),(9,0),(10,0),(12,0),(13,0),(14,0),(11,1),(15,1),(16,0),(17,2),(18,0),(19,2)] fun K hK=>?_;(repeat (first | (refine ⟨_,Qax (hH.at 0 rfl) (by omega),?_⟩;(try refine Qs ?_)) | refine Qo ?_ | refine Qp ?_));refine MemK_store ?_;refine Qs ?_;refine Qa0 hH 0 (o:=(a)) rfl (by first | rfl | (simp;done) | (congr 1;omega)) (by first | omega | (simp;omega)) fun w6 hH3=>?_;simp only [List.set_cons_zero] at hH3;(try refine Qs ?_);(repeat (first | (refine ⟨_,Qax (hH.at 0 rfl) (by omega),?_⟩;(try refine Qs ?_)) | refine Qo ?_ | refine Qp ?_));refine MemK_store ?_;refine Qs ?_;refine Qa0 hH3 0 (o:=(a+k)) rfl (by first | rfl | (simp;done) | (congr 1;omega)) (by first | omega | (simp;omega)) fun w6 hH4=>?_;simp only [List.set_cons_zero] at hH4;(try refine Qs ?_);have hH5:Heap w0 B w6 (arr g cap (swp d2 a (a+k))::R::G):=hH4;have hs5:(swp d2 a (a+k)).size=d.size:=by rw [Qdh,hs2]
  have hQ5:=hQ2.swp (i:=a) (j:=a+k) (by omega) (by omega);apply hK;clear hK;refine VQ [0,3,8,9,12] fun K hK=>?_;have hsd:=Qk2 hC g cap 0 k a (swp d2 a (a+k)) (by omega) (by omega) (by omega) hQ5 w0 w6 B G hH5;rw [sl,hs5] at hsd;refine MemK_call Tryz.call196 ?_;refine Qs ?_;refine CallK.mk hsd ?_;rintro v w7 ⟨d3,hd3,hs3,hQ3,hH6,rfl⟩;apply hK;clear hK;refine Qah ?_;refine VS [0,3,8,9,12] ?_;refine Qaa ?_;refine Qs ?_;refine ⟨k,by omega,k,_,d3,rfl,hH6,by omega,hQ3,rfl,by omega,?_,rfl⟩;rw [<- hpop,heapPop,hd3]
 obtain rfl:k=0:=by omega
 rw [heapPop] at hpop;refine Qad rfl ?_;refine Qqh (Qgq rfl ?_);exact ⟨_,by rw [hpop,heapSort,hn,<- hins],hs2,hQ2,hH,rfl⟩
open Go Go.Eng
open Go.Sort (swp order2 median medianAdjacent choosePivot Hint reverseLoop reverseRange)
abbrev Qsi (s:Nat) (n:Nat):Res:=Res.blk s 3 [.int .i64 n]
abbrev pcnt (s:Nat):Value:=.pointer (some ⟨s,0,none⟩)
theorem Qkc {cmp:Value}{cf:Int->Int->Int}{Q:Int->Prop}{R:Res} (hC:Cmp cmp cf Q R) (g cap a b s n:Nat) (d:Array Int) (ha:a < d.size) (hb:b < d.size) (hd:d.size<=1000000000000) (hn:n<=1000000000000) (hQ:AllQ Q d) (w0 w:World) (B:List Nat) (G:List Res)
  (hL:Heap w0 B w (arr g cap d::R::Qsi s n::G)):Does Tryz.prog 210 #[sl g cap d,.int .i64 a,.int .i64 b,pcnt s,cmp] w
   fun v w'=>∃ a' b' n':Nat,(a',b',n')=order2 (ltOf cf) d a b n/\Heap w0 B w' (arr g cap d::R::Qsi s n'::G)/\v=.tuple #[.int .i64 a',.int .i64 b']:=by
 refine En [sl g cap d,.int .i64 a,.int .i64 b,pcnt s,cmp] 32 Tryz.func210 ?_;refine VS [0,1,2,3,4] ?_;refine VL [1,2,3,22] 9 fun K hK=>?_;(repeat (first | (refine ⟨_,Qax (hL.at 0 rfl) (by omega),?_⟩;(try refine Qs ?_)) | refine Qo ?_ | refine Qp ?_));refine Qbf ?_;refine Qs ?_;refine FnK.to (Cmp.look hC hL (hQ _ (by omega)) (hQ _ (by omega))) ?_;rintro v w4 ⟨hH,rfl⟩;(try refine Qs ?_);apply hK;clear hK;refine VD (fun h=>?_) (fun h=>?_)
 ·
  refine VQ [1,2] fun K hK=>?_;(repeat first | refine Qo ?_ | refine Qp ?_ | (refine Gc hH ?_;(try refine Qs ?_)));refine MemK_store ?_;refine Qs ?_;refine StoreK_blk hH 2 (vs:=[.int .i64 (n+1:Nat)]) rfl rfl (by kernel_rfl) (by first | decide | (simp;done) | (simp;omega)) (by simp [Value.oneCell']) fun w6 hH2=>?_;(try refine Qs ?_);apply hK;clear hK;refine VS [10,11] ?_;refine VC_ret (Qat rfl rfl rfl ?_);exact ⟨b,a,n+1,by simp [order2,ltOf,h],hH2,rfl⟩
 refine VC_skip ?_;refine VS [10,11] ?_;refine VC_ret (Qat rfl rfl rfl ?_);exact ⟨a,b,n,by simp [order2,ltOf,h],hH,rfl⟩
theorem Ql7 {lt:Int->Int->Bool}{d:Array Int}{a b n a' b' n':Nat} (h:(a',b',n')=order2 lt d a b n):((a'=a/\b'=b)∨(a'=b/\b'=a))/\n<=n'/\n'<=n+1:=by
 unfold order2 at h;split at h <;> simp only [Prod.mk.injEq] at h <;> omega
theorem Qoc {cmp:Value}{cf:Int->Int->Int}{Q:Int->Prop}{R:Res} (hC:Cmp cmp cf Q R) (g cap a b c s n:Nat) (d:Array Int) (ha:a < d.size) (hb:b < d.size) (hc:c < d.size) (hd:d.size<=1000000000000) (hn:n<=1000000000) (hQ:AllQ Q d) (w0 w:World) (B:List Nat) (G:List Res)
  (hL:Heap w0 B w (arr g cap d::R::Qsi s n::G)):Does Tryz.prog 200 #[sl g cap d,.int .i64 a,.int .i64 b,.int .i64 c,pcnt s,cmp] w
   fun v w'=>∃ m n':Nat,(m,n')=median (ltOf cf) d a b c n/\(m=a∨m=b∨m=c)/\n'<=n+3/\Heap w0 B w' (arr g cap d::R::Qsi s n'::G)/\v=.int .i64 m:=by
 refine En [sl g cap d,.int .i64 a,.int .i64 b,.int .i64 c,pcnt s,cmp] 41 Tryz.func200 ?_;refine VS [0,1,2,3,4,5] ?_;refine VQ [0,1,2,3,4,5] fun K hK=>?_;refine MemK_call Tryz.call210 ?_;refine Qs ?_;refine CallK.mk (Qkc hC g cap a b s n d ha hb hd (by omega) hQ w0 w B G hL) ?_;rintro v w1 ⟨a1,b1,n1,ho1,hH1,rfl⟩;apply hK;clear hK;have hm1:=Ql7 ho1;refine VQ [0,1,2,4,5] fun K hK=>?_;refine MemK_call Tryz.call210 ?_;refine Qs ?_;refine CallK.mk (Qkc hC g cap b1 c s n1 d (by omega) (by omega) hd (by omega) hQ w0 w1 B G hH1) ?_;rintro v w2 ⟨b2,c2,n2,ho2,hH2,rfl⟩;apply hK;clear hK;have hm2:=Ql7 ho2;refine VQ [2] fun K hK=>?_;refine MemK_call Tryz.call210 ?_;refine Qs ?_;refine CallK.mk (Qkc hC g cap a1 b2 s n2 d (by omega) (by omega) hd (by omega) hQ w0 w2 B G hH2) ?_;rintro v w3 ⟨a3,b3,n3,ho3,hH3,rfl⟩;apply hK;clear hK;have hm3:=Ql7 ho3;refine VS [12] ?_;refine VC_ret (VX_ret1 rfl rfl ?_);exact ⟨b3,n3,by simp only [median,<- ho1,<- ho2,<- ho3],by omega,by omega,hH3,rfl⟩
theorem Qey {cmp:Value}{cf:Int->Int->Int}{Q:Int->Prop}{R:Res} (hC:Cmp cmp cf Q R) (g cap a s n:Nat) (d:Array Int) (ha0:1<=a) (ha:a+1 < d.size) (hd:d.size<=1000000000000) (hn:n<=1000000000) (hQ:AllQ Q d) (w0 w:World) (B:List Nat) (G:List Res)
  (hL:Heap w0 B w (arr g cap d::R::Qsi s n::G)):Does Tryz.prog 199 #[sl g cap d,.int .i64 a,pcnt s,cmp] w
   fun v w'=>∃ m n':Nat,(m,n')=medianAdjacent (ltOf cf) d a n/\(a - 1<=m/\m<=a+1)/\n'<=n+3/\Heap w0 B w' (arr g cap d::R::Qsi s n'::G)/\v=.int .i64 m:=by
 refine En [sl g cap d,.int .i64 a,pcnt s,cmp] 18 Tryz.func199 ?_;refine VS [0,1,2,3] ?_;refine VQ [8] fun K hK=>?_;(repeat first | refine Qo ?_ | refine Qp ?_);have hm:=Qoc hC g cap (a - 1) a (a+1) s n d (by omega) (by omega) (by omega) hd hn hQ w0 w B G hL;rw [show ((a - 1:Nat):Int)=(a:Int) - 1 by omega,show ((a+1:Nat):Int)=(a:Int)+1 by omega] at hm;refine MemK_call Tryz.call200 ?_;refine Qs ?_;refine CallK.mk hm ?_;rintro v w1 ⟨m,n1,h1,h2,h3,hH1,rfl⟩;apply hK;clear hK;refine VC_ret (VX_ret1 rfl rfl ?_);exact ⟨m,n1,h1,by omega,h3,hH1,rfl⟩
open Go Go.Eng
open Go.Sort (swp order2 median medianAdjacent choosePivot Hint reverseLoop reverseRange)
def QEh:Hint->Int
 | .unknown=>0
 | .increasing=>1
 | .decreasing=>2
theorem Qnf {cmp:Value}{cf:Int->Int->Int}{Q:Int->Prop}{R:Res} (hC:Cmp cmp cf Q R) (g cap a b:Nat) (d:Array Int) (hab:a+8<=b) (hb:b<=d.size) (hd:d.size<=1000000000000) (hQ:AllQ Q d) (w0 w:World) (B:List Nat) (G:List Res)
  (hL:Heap w0 B w (arr g cap d::R::G)):Does Tryz.prog 180 #[sl g cap d,.int .i64 a,.int .i64 b,cmp] w
   fun v w'=>∃ (p:Nat) (h:Hint),(p,h)=choosePivot (ltOf cf) d a b/\(a<=p/\p < b)/\Heap w0 B w' (arr g cap d::R::G)/\v=.tuple #[.int .i64 p,.int .i64 (QEh h)]:=by
 refine En [sl g cap d,.int .i64 a,.int .i64 b,cmp] 63 Tryz.func180 ?_;refine VS [0,1,2,3] ?_;refine VS [0,1,3,10] ?_;rw [show ((b:Int) - a)=((b - a:Nat):Int) by omega];generalize hn:b - a=n at *;refine VQ [0,1,3,10,11] fun K hK=>?_;refine MemK_alloc (.int .i64 0) (by kernel_rfl) ?_;refine Qs ?_;have hH0:=hL.box 3 [.int .i64 0];generalize w.alloc (Obj.cells [Value.int .i64 0].toArray 3)=w1 at *;generalize w.heap.size=s at *;have hH:Heap w0 B w1 (arr g cap d::R::Qsi s 0::G):=hH0.perm (List.perm_middle (l₁:=[arr g cap d,R])).symm;clear hH0;apply hK;clear hK;refine VS [0,1,3,10,11,12] ?_;refine VS [0,1,3,10,11,12,13] ?_;refine VS [0,3,10,11,12,13,14] ?_;obtain ⟨i0,hi0⟩:∃ i0,a+n / 4 * 1=i0:=⟨_,rfl⟩;obtain ⟨j0,hj0⟩:∃ j0,a+n / 4 * 2=j0:=⟨_,rfl⟩;obtain ⟨k0,hk0⟩:∃ k0,a+n / 4 * 3=k0:=⟨_,rfl⟩;rw [show ((a:Int)+n / 4 * 1)=(i0:Int) by omega,show ((a:Int)+n / 4 * 2)=(j0:Int) by omega,show ((a:Int)+n / 4 * 3)=(k0:Int) by omega]
 have hcp:choosePivot (ltOf cf) d a b=(fun r:Nat×Nat=>(r.1,if r.2=0 then Hint.increasing else if r.2=12 then Hint.decreasing else Hint.unknown)) (if n ≥ 8 then if n ≥ 50 then median (ltOf cf) d (medianAdjacent (ltOf cf) d i0 0).1 (medianAdjacent (ltOf cf) d j0 (medianAdjacent (ltOf cf) d i0 0).2).1 (medianAdjacent (ltOf cf) d k0 (medianAdjacent (ltOf cf) d j0 (medianAdjacent (ltOf cf) d i0 0).2).2).1 (medianAdjacent (ltOf cf) d k0 (medianAdjacent (ltOf cf) d j0 (medianAdjacent (ltOf cf) d i0 0).2).2).2 else median (ltOf cf) d i0 j0 k0 0 else (j0,0)):=by
  simp only [choosePivot,hn,hi0,hj0,hk0]
 have hb1:a+2<=i0/\i0 < j0/\j0 < k0/\k0+2<=b:=by omega
 clear hi0 hj0 hk0;refine VS [0,3,10,11,12,13,14,34] ?_;refine Qde [11,13] (fun e w'=>∃ m n':Nat,Is e [(11,pcnt s),(13,.int .i64 m)]/\Heap w0 B w' (arr g cap d::R::Qsi s n'::G)/\(a<=m/\m < b)/\choosePivot (ltOf cf) d a b=(m,if n'=0 then .increasing else if n'=12 then .decreasing else .unknown)) ?_ ?_
 ·
  refine Qaf rfl rfl (fun h=>?_) (fun h=>by simp at h;omega);simp only [decide_eq_true_eq] at h;refine VS [0,3,11,12,13,14,36] ?_
  refine Qde [0,3,11,12,13,14] (fun e w'=>∃ i j k n':Nat,Is e [(0,sl g cap d),(3,cmp),(11,pcnt s),(12,.int .i64 i),(13,.int .i64 j),(14,.int .i64 k)]/\Heap w0 B w' (arr g cap d::R::Qsi s n'::G)/\(a<=i/\i < b)/\(a<=j/\j < b)/\(a<=k/\k < b)/\n'<=9 /\
   choosePivot (ltOf cf) d a b=((median (ltOf cf) d i j k n').1,if (median (ltOf cf) d i j k n').2=0 then .increasing else if (median (ltOf cf) d i j k n').2=12 then .decreasing else .unknown)) ?_ ?_
  ·
   refine VD (fun h=>?_) (fun h=>?_)
   ·
    refine VQ [0,3,11,12,13,14] fun K hK=>?_;refine MemK_call Tryz.call199 ?_;refine Qs ?_;refine CallK.mk (Qey hC g cap i0 s 0 d (by omega) (by omega) hd (by omega) hQ w0 w1 B G hH) ?_;rintro v w2 ⟨i,n1,hi,hi2,hn1,hH1,rfl⟩;apply hK;clear hK;refine VQ [0,3,11,12,13,14] fun K hK=>?_;refine MemK_call Tryz.call199 ?_;refine Qs ?_;refine CallK.mk (Qey hC g cap j0 s n1 d (by omega) (by omega) hd (by omega) hQ w0 w2 B G hH1) ?_;rintro v w3 ⟨j,n2,hj,hj2,hn2,hH2,rfl⟩;apply hK;clear hK;refine VQ [0,3,11,12,13,14] fun K hK=>?_;refine MemK_call Tryz.call199 ?_;refine Qs ?_;refine CallK.mk (Qey hC g cap k0 s n2 d (by omega) (by omega) hd (by omega) hQ w0 w3 B G hH2) ?_;rintro v w4 ⟨k,n3,hk,hk2,hn3,hH3,rfl⟩;apply hK;clear hK;refine Qaa ?_;refine Qs ?_;refine ⟨i,j,k,n3,rfl,hH3,by omega,by omega,by omega,by omega,?_⟩;rw [hcp,if_pos (show n ≥ 8 by omega),if_pos (show n ≥ 50 by omega),<- hi,<- hj,<- hk]
   refine VC_skip ?_;refine Qaa ?_;refine Qs ?_;refine ⟨_,_,_,0,rfl,hH,by omega,by omega,by omega,by omega,?_⟩;rw [hcp,if_pos (show n ≥ 8 by omega),if_neg (show ¬ n ≥ 50 by omega)]
  rintro e w2 ⟨i,j,k,n1,rfl,hH2,hi,hj,hk,hn1,hch⟩;refine VQ [11,13] fun K hK=>?_;refine MemK_call Tryz.call200 ?_;refine Qs ?_;refine CallK.mk (Qoc hC g cap i j k s n1 d (by omega) (by omega) (by omega) hd (by omega) hQ w0 w2 B G hH2) ?_;rintro v w3 ⟨m,n2,hm,hm2,hn2,hH3,rfl⟩;apply hK;clear hK;refine Qaa ?_;refine Qs ?_;refine ⟨m,n2,rfl,hH3,by omega,?_⟩;rw [hch,<- hm]
 clear hH;rintro e w2 ⟨m,n1,rfl,hH,hm,hch⟩;have hH4:Heap w0 B w2 (arr g cap d::R::G):=hH.sub (by simp);refine VQ [13,55] fun K hK=>?_;(repeat first | refine Qo ?_ | refine Qp ?_ | (refine Gc hH ?_;(try refine Qs ?_)));apply hK;clear hK;refine Qab ?_;refine VS [13,55,57] ?_;refine VD (fun h=>?_) (fun h=>?_)
 ·
  refine VS [8,9] ?_;refine VC_ret (Qat rfl rfl rfl ?_);exact ⟨m,.increasing,by rw [hch,if_pos (by omega)],hm,hH4,rfl⟩
 refine VS [13,60] ?_;refine VD (fun h=>?_) (fun h=>?_)
 ·
  refine VS [8,9] ?_;refine VC_ret (Qat rfl rfl rfl ?_);exact ⟨m,.decreasing,by rw [hch,if_neg (by omega),if_pos (by omega)],hm,hH4,rfl⟩
 refine VS [8,9] ?_;refine VC_ret (Qat rfl rfl rfl ?_);exact ⟨m,.unknown,by rw [hch,if_neg (by omega),if_neg (by omega)],hm,hH4,rfl⟩
theorem Qpy {i j:Nat}{d:Array Int} (h:i < j):reverseLoop i j d=reverseLoop (i+1) (j - 1) (swp d i j):=by
 conv=>lhs;rw [reverseLoop]
 rw [if_pos h]
theorem Qng {i j:Nat}{d:Array Int} (h:¬ i < j):reverseLoop i j d=d:=by rw [reverseLoop,if_neg h]
theorem Ql8 {cmp:Value}{R:Res}{Q:Int->Prop} (g cap a b:Nat) (d:Array Int) (hab:a < b) (hb:b<=d.size) (hd:d.size<=1000000000000) (hQ:AllQ Q d) (w0 w:World) (B:List Nat) (G:List Res)
  (hL:Heap w0 B w (arr g cap d::R::G)):Does Tryz.prog 181 #[sl g cap d,.int .i64 a,.int .i64 b,cmp] w
   fun v w'=>∃ d',d'=reverseRange d a b/\d'.size=d.size/\AllQ Q d'/\Heap w0 B w' (arr g cap d'::R::G)/\v=.tuple #[]:=by
 refine En [sl g cap d,.int .i64 a,.int .i64 b,cmp] 34 Tryz.func181 ?_;refine VS [0,2,8] ?_;refine VS [0,8,9] ?_;refine Qab ?_;refine Qac [0,8,9] (fun m e w'=>∃ (i j:Nat) (d':Array Int),Is e [(0,sl g cap d),(8,.int .i64 i),(9,.int .i64 j)]/\Heap w0 B w' (arr g cap d'::R::G)/\d'.size=d.size/\AllQ Q d'/\i<=b/\j < b/\reverseLoop i j d'=reverseRange d a b/\m=b - i) (b - a) ?_ ?_
 ·
  refine Qs ?_;exact ⟨a,b - 1,d,by rw [show ((b:Int) - 1)=((b - 1:Nat):Int) by omega];rfl,hL,rfl,hQ,by omega,by omega,rfl,rfl⟩
 rintro m e w1 ⟨i,j,d1,rfl,hH,hs1,hQ1,hi,hj,hrev,hm⟩;refine VS [0,8,9,15] ?_;refine VD (fun h=>?_) (fun h=>?_)
 ·
  refine VC_skip ?_;refine Qab ?_;refine Vb [0,8,9] [(0,0),(1,0),(2,0),(3,0),(4,0),(5,0),(6,0),(8,0),(9,0),(10,0),(7,1),(11,1),(12,0),(13,2),(14,0),(15,2)] fun K hK=>?_;(repeat (first | (refine ⟨_,Qax (hH.at 0 rfl) (by omega),?_⟩;(try refine Qs ?_)) | refine Qo ?_ | refine Qp ?_));refine MemK_store ?_;refine Qs ?_;refine Qa0 hH 0 (o:=(i)) rfl (by first | rfl | (simp;done) | (congr 1;omega)) (by first | omega | (simp;omega)) fun w6 hH3=>?_;simp only [List.set_cons_zero] at hH3;(try refine Qs ?_);(repeat (first | (refine ⟨_,Qax (hH.at 0 rfl) (by omega),?_⟩;(try refine Qs ?_)) | refine Qo ?_ | refine Qp ?_));refine MemK_store ?_;refine Qs ?_;refine Qa0 hH3 0 (o:=(j)) rfl (by first | rfl | (simp;done) | (congr 1;omega)) (by first | omega | (simp;omega)) fun w6 hH4=>?_;simp only [List.set_cons_zero] at hH4;(try refine Qs ?_);have hH5:Heap w0 B w6 (arr g cap (swp d1 i j)::R::G):=hH4;apply hK;clear hK;refine VS [0,8,9] ?_;refine VS [0,8,9] ?_;refine Qah ?_;refine Qaa ?_;refine Qs ?_;refine ⟨b - (i+1),by omega,i+1,j - 1,_,by rw [show ((j:Int) - 1)=((j - 1:Nat):Int) by omega];rfl,hH5,by rw [Qdh,hs1],hQ1.swp (by omega) (by omega),by omega,by omega,?_,rfl⟩;rw [<- hrev,Qpy (i:=i) (by omega)]
 refine Qad rfl ?_;refine Qqh (Qgq rfl ?_);rw [Qng (by omega)] at hrev;exact ⟨_,hrev,hs1,hQ1,hH,rfl⟩
open Go Go.Eng
open Go.Sort (bitsLen)
theorem QHw {P:Program}{fn:Func}{F:Value->World->Prop}{N:Nat}{k:List It}{e:Env}{w:World}{x y:Code} (hf:VC ⟨P,fn,F,N⟩ (.code y::k) e w):VC ⟨P,fn,F,N⟩ (.code (.cond (.const (.bool false)) x y)::k) e w:=by
 intro a n ha;exact wp_cond_split (t:=false) rfl (fun h=>by cases h) (fun _=>hf a n ha)
theorem Qh6 {x k:Nat} (h:2 ^ k<=x):bitsLen (x / 2 ^ k)+k=bitsLen x:=by
 have h0:x≠0:=by have:=Nat.pow_pos (n:=k) (show 0 < 2 by omega);omega
 have h1:x / 2 ^ k≠0:=by have:=Nat.div_pos h (Nat.pow_pos (by omega));omega
 unfold bitsLen;rw [if_neg h0,if_neg h1]
 have e:Nat.log2 (x / 2 ^ k)=Nat.log2 x - k:=by
  rw [Nat.log2_eq_iff h1];have h2:=Nat.log2_self_le h0;have h3:=Nat.lt_log2_self (n:=x);have hk:k<=Nat.log2 x:=(Nat.le_log2 h0).2 h;constructor
  ·
   rw [Nat.le_div_iff_mul_le (Nat.pow_pos (by omega)),<- Nat.pow_add,Nat.sub_add_cancel hk];exact h2
  rw [Nat.div_lt_iff_lt_mul (Nat.pow_pos (by omega)),<- Nat.pow_add,show Nat.log2 x - k+1+k=Nat.log2 x+1 by omega];exact h3
 have hk:k<=Nat.log2 x:=(Nat.le_log2 h0).2 h;omega
theorem QBu (x:Nat):x < 2 ^ bitsLen x:=by
 unfold bitsLen;split
 ·
  omega
 exact Nat.lt_log2_self
theorem Qgk {x n:Nat} (h:x < 2 ^ n):bitsLen x<=n:=by
 unfold bitsLen;split
 ·
  omega
 rename_i h0;have:=(Nat.log2_lt h0).2 h;omega
def len8:List UInt8:=(List.range 256).map fun n=>UInt8.ofNat (bitsLen n)
theorem Qzr {y:Nat} (h:y < 256):(len8.getD y 0).toNat=bitsLen y:=by
 have hl:=Qgk (n:=8) h;simp only [len8,List.getD_eq_getElem?_getD,List.getElem?_map,List.getElem?_range h,Option.map_some,Option.getD_some];simp;omega
theorem QBv (x:Nat) (hx:x < 18446744073709551616) (w:World):Does Tryz.prog 186 #[.int .u64 x] w fun v w'=>w'=w/\v=.int .i64 (bitsLen x):=by
 refine En [.int .u64 x] 25 Tryz.func186 ?_;refine VS [0,2] ?_;refine VS [0,2,4] ?_;refine Qde [0,2] (fun e w'=>∃ y n:Nat,Is e [(0,.int .u64 y),(2,.int .i64 n)]/\Is w' w/\bitsLen y+n=bitsLen x/\y < 4294967296/\n<=32) ?_ ?_
 ·
  refine VD (fun h=>?_) (fun h=>?_)
  ·
   refine VQ [0] fun K hK=>?_;refine Qo ?_;rw [show shN IntKind.u64 32=32 from rfl,Qgd];apply hK;clear hK;refine VS [0,2] ?_;refine Qaa ?_;refine Qs ?_;exact ⟨x / 2 ^ 32,32,rfl,rfl,Qh6 (k:=32) (by omega),by omega,by omega⟩
  refine VC_skip ?_;refine Qaa ?_;refine Qs ?_;exact ⟨x,0,rfl,rfl,rfl,by omega,by omega⟩
 rintro e w' ⟨y,n,rfl,rfl,hyn,hy,hn⟩;refine VS [0,2,8] ?_;refine Qde [0,2] (fun e w''=>∃ y n:Nat,Is e [(0,.int .u64 y),(2,.int .i64 n)]/\Is w'' w'/\bitsLen y+n=bitsLen x/\y < 65536/\n<=48) ?_ ?_
 ·
  refine VD (fun h=>?_) (fun h=>?_)
  ·
   refine VQ [0,2] fun K hK=>?_;refine Qo ?_;rw [show shN IntKind.u64 16=16 from rfl,Qgd];apply hK;clear hK;refine VS [0,2] ?_;refine Qaa ?_;refine Qs ?_;have h1:=Qh6 (x:=y) (k:=16) (by omega);exact ⟨y / 2 ^ 16,n+16,rfl,rfl,by omega,by omega,by omega⟩
  refine VC_skip ?_;refine Qaa ?_;refine Qs ?_;exact ⟨y,n,rfl,rfl,hyn,by omega,by omega⟩
 clear hyn hy hn;rintro e w'' ⟨y,n,rfl,rfl,hyn,hy,hn⟩;refine VS [0,2,14] ?_;refine VD (fun h=>?_) (fun h=>?_)
 ·
  refine VQ [0,2] fun K hK=>?_;refine Qo ?_;rw [show shN IntKind.u64 8=8 from rfl,Qgd];apply hK;clear hK;refine VS [0,2] ?_;have h1:=Qh6 (x:=y) (k:=8) (by omega);refine VQ [2] fun K hK=>?_;generalize htab:List.append (List.append _ _) (List.append _ _)=tab at *;have ht2:tab=len8:=by rw [<- htab];kernel_rfl
  clear htab;subst ht2;have h9:=Qgk (n:=8) (show y / 2 ^ 8 < 2 ^ 8 by omega);rw [Int.emod_eq_of_lt (by omega) (by omega),Int.toNat_natCast,Qzr (by omega),show len8.length=256 by simp [len8]];refine Qp ?_;(repeat refine Qo ?_);apply hK;clear hK;refine VC_ret (VX_ret1 rfl rfl ⟨rfl,?_⟩);rw [show ((n:Int)+8+(bitsLen (y / 2 ^ 8):Nat))=bitsLen x by omega]
 refine VC_skip ?_;refine VQ [2] fun K hK=>?_;generalize htab:List.append (List.append _ _) (List.append _ _)=tab at *;have ht2:tab=len8:=by rw [<- htab];kernel_rfl
 clear htab;subst ht2;have h9:=Qgk (n:=8) (show y < 2 ^ 8 by omega);rw [Int.emod_eq_of_lt (by omega) (by omega),Int.toNat_natCast,Qzr (by omega),show len8.length=256 by simp [len8]];refine Qp ?_;(repeat refine Qo ?_);apply hK;clear hK;refine VC_ret (VX_ret1 rfl rfl ⟨rfl,?_⟩);rw [show ((n:Int)+(bitsLen y:Nat))=bitsLen x by omega]
theorem Qqw (x:Nat) (hx:x < 18446744073709551616) (w:World):Does Tryz.prog 159 #[.int .u64 x] w fun v w'=>w'=w/\v=.int .i64 (bitsLen x):=by
 refine En [.int .u64 x] 8 Tryz.func159 ?_;refine VS [0] ?_;(repeat refine Qar ?_);refine QHw (VC_skip ?_);refine VQ [2] fun K hK=>?_;refine MemK_call Tryz.call186 ?_;refine Qs ?_;refine CallK.mk (QBv x hx w) ?_;rintro v w2 ⟨rfl,rfl⟩;apply hK;clear hK;exact VC_ret (VX_ret1 rfl rfl ⟨rfl,rfl⟩)
theorem Qkd (x:Nat) (hx:x < 1000000000000) (w:World):Does Tryz.prog 197 #[.int .i64 x] w fun v w'=>w'=w/\v=.int .u64 (2 ^ bitsLen x:Nat):=by
 refine En [.int .i64 x] 7 Tryz.func197 ?_;refine VS [0] ?_;refine VQ [2] fun K hK=>?_;rw [Int.emod_eq_of_lt (by omega) (by omega)];refine MemK_call Tryz.call159 ?_;refine Qs ?_;refine CallK.mk (Qqw x (by omega) w) ?_;rintro v w2 ⟨rfl,rfl⟩;refine Qs ?_;have h40:bitsLen x<=40:=Qgk (by omega);have hp:2 ^ bitsLen x<=2 ^ 40:=Nat.pow_le_pow_right (by omega) h40;refine Qo ?_;rw [Qqr rfl (by rw [show IntKind.bits .u64=64 from rfl];omega),show ((1:Int) * 2 ^ bitsLen x)=((2 ^ bitsLen x:Nat):Int) by rw [Int.one_mul];push_cast;rfl];generalize 2 ^ bitsLen x=q at *;rw [Int.emod_eq_of_lt (by omega) (by omega)];apply hK;clear hK;exact VC_ret (VX_ret1 rfl rfl ⟨rfl,rfl⟩)
open Go Go.Eng
open Go.Sort (swp bitsLen xorNext breakStep breakPatterns)
abbrev rnd (s:Nat) (r:UInt64):Res:=Res.blk s 228 [.int .u64 r.toNat]
theorem QT1 (r:UInt64):((r.toNat:Int) * (2:Int) ^ shN IntKind.u64 13 % (18446744073709551616:Int))=((r <<< 13).toNat:Int):=by
 rw [show shN IntKind.u64 13=13 from rfl,UInt64.toNat_shiftLeft,Qni,Nat.shiftLeft_eq,show (13:UInt64).toNat % 64=13 from rfl];rfl
theorem QT2 (r:UInt64):((r.toNat:Int) * (2:Int) ^ shN IntKind.u64 17 % (18446744073709551616:Int))=((r <<< 17).toNat:Int):=by
 rw [show shN IntKind.u64 17=17 from rfl,UInt64.toNat_shiftLeft,Qni,Nat.shiftLeft_eq,show (17:UInt64).toNat % 64=17 from rfl];rfl
theorem shr7 (r:UInt64):((r.toNat:Int) / (2:Int) ^ shN IntKind.u64 7)=((r >>> 7).toNat:Int):=by
 rw [show shN IntKind.u64 7=7 from rfl,UInt64.toNat_shiftRight,Qgd,Nat.shiftRight_eq_div_pow,show (7:UInt64).toNat % 64=7 from rfl]
theorem Qxp (s:Nat) (r:UInt64) (w:World) (hL:Heap w (rnd s r).foot w [rnd s r]):Does Tryz.prog 198 #[.pointer (some ⟨s,0,none⟩)] w
   fun v w'=>Heap w (rnd s r).foot w' [rnd s (xorNext r)]/\v=.int .u64 (xorNext r).toNat:=by
 refine En [.pointer (some ⟨s,0,none⟩)] 33 Tryz.func198 ?_;refine VS [0] ?_;refine VL [0] 9 fun K hK=>?_;(repeat first | refine Qo ?_ | refine Qp ?_ | (refine Gc hL ?_;(try refine Qs ?_)));rw [QT1,Int.toNat_natCast,<- UInt64.toNat_xor];generalize hr1:r ^^^ (r <<< 13)=r1 at *;have hb:=r.toNat_lt;have hb2:=(r <<< 13).toNat_lt;have hb3:=r1.toNat_lt;refine ⟨⟨by omega,by omega⟩,⟨by omega,by omega⟩,?_⟩;refine MemK_store ?_;refine Qs ?_;refine StoreK_blk hL 0 (vs:=[.int .u64 r1.toNat]) rfl rfl (by kernel_rfl) (by first | decide | (simp;done) | (simp;omega)) (by simp [Value.oneCell']) fun w6 hH1=>?_;(try refine Qs ?_);apply hK;clear hK;refine VL [0] 9 fun K hK=>?_;(repeat first | refine Qo ?_ | refine Qp ?_ | (refine Gc hH1 ?_;(try refine Qs ?_)));rw [shr7,Int.toNat_natCast,<- UInt64.toNat_xor];generalize hr2:r1 ^^^ (r1 >>> 7)=r2 at *;have hb4:=(r1 >>> 7).toNat_lt;have hb5:=r2.toNat_lt;refine Qp ?_;refine MemK_store ?_;refine Qs ?_;refine StoreK_blk hH1 0 (vs:=[.int .u64 r2.toNat]) rfl rfl (by kernel_rfl) (by first | decide | (simp;done) | (simp;omega)) (by simp [Value.oneCell']) fun w6 hH2=>?_;(try refine Qs ?_);apply hK;clear hK;refine VL [0] 9 fun K hK=>?_;(repeat first | refine Qo ?_ | refine Qp ?_ | (refine Gc hH2 ?_;(try refine Qs ?_)));rw [QT2,Int.toNat_natCast,<- UInt64.toNat_xor];generalize hr3:r2 ^^^ (r2 <<< 17)=r3 at *;have hb6:=(r2 <<< 17).toNat_lt;have hb7:=r3.toNat_lt;refine MemK_store ?_;refine Qs ?_;refine StoreK_blk hH2 0 (vs:=[.int .u64 r3.toNat]) rfl rfl (by kernel_rfl) (by first | decide | (simp;done) | (simp;omega)) (by simp [Value.oneCell']) fun w6 hH3=>?_;(try refine Qs ?_);apply hK;clear hK;refine VQ [2] fun K hK=>?_;(repeat first | refine Qo ?_ | refine Qp ?_ | (refine Gc hH3 ?_;(try refine Qs ?_)));apply hK;clear hK;have e:xorNext r=r3:=by simp only [xorNext,hr1,hr2,hr3]
 rw [e];exact VC_ret (VX_ret1 rfl rfl ⟨hH3,rfl⟩)
def brkN (a length modulus idx:Nat) (d:Array Int):Nat->UInt64×Array Int
 | 0=>(UInt64.ofNat length,d)
 | k+1=>breakStep a length modulus (brkN a length modulus idx d k) (idx+k)
theorem Qk3 {cmp:Value}{R:Res}{Q:Int->Prop} (g cap a b:Nat) (d:Array Int) (hab:a+8<=b) (hb:b<=d.size) (hd:d.size<=100000000000) (hQ:AllQ Q d) (w0 w:World) (B:List Nat) (G:List Res)
  (hL:Heap w0 B w (arr g cap d::R::G)):Does Tryz.prog 179 #[sl g cap d,.int .i64 a,.int .i64 b,cmp] w
   fun v w'=>∃ d',d'=breakPatterns d a b/\d'.size=d.size/\AllQ Q d'/\Heap w0 B w' (arr g cap d'::R::G)/\v=.tuple #[]:=by
 refine En [sl g cap d,.int .i64 a,.int .i64 b,cmp] 67 Tryz.func179 ?_;refine VS [0,1,8] ?_;rw [show ((b:Int) - a)=((b - a:Nat):Int) by omega];generalize hn:b - a=n at *;refine VS [0,1,8,17] ?_;refine Qaf rfl rfl (fun h=>?_) (fun h=>by simp at h;omega);simp only [decide_eq_true_eq] at h;refine VQ [0,1,8,9] fun K hK=>?_;refine MemK_alloc (.int .u64 0) (by kernel_rfl) ?_;refine Qs ?_;have hH0:=hL.box 228 [.int .u64 0];generalize w.alloc (Obj.cells [Value.int .u64 0].toArray 228)=w1 at *;generalize w.heap.size=s at *;rw [Int.emod_eq_of_lt (by omega) (by omega)];have e1:n=(UInt64.ofNat n).toNat:=by rw [UInt64.toNat_ofNat'];omega
 refine MemK_store ?_;refine Qs ?_;refine StoreK_blk hH0 0 (vs:=[.int .u64 n]) rfl rfl (by kernel_rfl) (by first | decide | (simp;done) | (simp;omega)) (by simp [Value.oneCell']) fun w6 hH1=>?_;(try refine Qs ?_);have hH:Heap w0 B w6 (rnd s (UInt64.ofNat n)::arr g cap d::R::G):=by rw [rnd,<- e1];exact hH1
 apply hK;clear hK;refine VQ [0,1,8,9,10] fun K hK=>?_;refine MemK_call Tryz.call197 ?_;refine Qs ?_;refine CallK.mk (Qkd n (by omega) w6) ?_;rintro v w2 ⟨rfl,rfl⟩;apply hK;clear hK;have h40:bitsLen n<=40:=Qgk (by omega);have hp:2 ^ bitsLen n<=2 ^ 40:=Nat.pow_le_pow_right (by omega) h40;have hp0:0 < 2 ^ bitsLen n:=Nat.pow_pos (by omega);have hpn:=QBu n;have hmod:1 <<< bitsLen n=2 ^ bitsLen n:=by rw [Nat.shiftLeft_eq,Nat.one_mul]
 have hpow2:∀ r:Nat,r &&& (2 ^ bitsLen n - 1) < 2 ^ bitsLen n:=fun r=>by rw [Nat.and_two_pow_sub_one_eq_mod];exact Nat.mod_lt _ hp0
 have hle:2 ^ bitsLen n<=2 * n:=by
  have h0:n≠0:=by omega
  have:=Nat.log2_self_le h0;rw [show bitsLen n=Nat.log2 n+1 by unfold bitsLen;rw [if_neg h0],Nat.pow_succ];omega
 refine VS [0,1,8,9,10,11] ?_
 have hbp:breakPatterns d a b=(brkN a n (2 ^ bitsLen n) (a+n / 4 * 2 - 1) d 3).2:=by
  simp only [breakPatterns,hn,hmod,if_pos (show n ≥ 8 by omega)];rfl
 have hix:a+3<=a+n / 4 * 2 - 1/\a+n / 4 * 2 - 1+3<=b:=by omega
 rw [show ((a:Int)+n / 4 * 2 - 1)=((a+n / 4 * 2 - 1:Nat):Int) by omega];have hlim:(a:Int)+n / 4 * 2+1=((a+n / 4 * 2 - 1:Nat):Int)+2:=by omega
 generalize a+n / 4 * 2 - 1=i0 at *;generalize 2 ^ bitsLen n=md at *;refine Qab ?_;refine Qac [0,1,8,9,10,11] (fun m e w'=>∃ (k:Nat),Is e [(0,sl g cap d),(1,.int .i64 a),(8,.int .i64 n),(9,.pointer (some ⟨s,0,none⟩)),(10,.int .u64 md),(11,.int .i64 (i0+k:Nat))]/\Heap w0 B w' (rnd s (brkN a n md i0 d k).1::arr g cap (brkN a n md i0 d k).2::R::G)/\(brkN a n md i0 d k).2.size=d.size/\AllQ Q (brkN a n md i0 d k).2/\k<=3/\m=3 - k) 3 ?_ ?_
 ·
  refine Qs ?_;exact ⟨0,rfl,hH,rfl,hQ,by omega,rfl⟩
 clear hH hH1 hH0;rintro m e w3 ⟨k,rfl,hH,hs1,hQ1,hk,hm⟩;refine VQ [0,1,8,9,10,11,35] fun K hK=>?_;rw [hlim];(repeat refine Qo ?_);apply hK;clear hK;refine VD (fun h=>?_) (fun h=>?_)
 ·
  refine VC_skip ?_;refine VB ?_;refine VQ [0,1,8,9,10,11,12] fun K hK=>?_;refine MemK_call Tryz.call198 ?_;refine Qs ?_;refine CallK.mk (Qxp s _ w3 (hH.focus 0 rfl)) ?_;rintro v w4 ⟨hH2,rfl⟩;have hH3:=hH.call1 (G':=[]) 0 rfl hH2;simp only [List.nil_append,List.set_cons_zero] at hH3;refine Qs ?_;have hst:brkN a n md i0 d (k+1)=breakStep a n md (brkN a n md i0 d k) (i0+k):=rfl;clear hH hH2;generalize brkN a n md i0 d k=st at *;obtain ⟨r,d1⟩:=st;simp only [breakStep] at hst
  dsimp only at hH3 hs1 hQ1 ⊢
  generalize xorNext r=r1 at *;have hb1:=r1.toNat_lt;rw [Int.emod_eq_of_lt (by omega) (by omega),show ((md:Int) - 1).toNat=md - 1 by omega];have ho:=hpow2 r1.toNat;generalize r1.toNat &&& (md - 1)=o at *;refine ⟨⟨by omega,by omega⟩,⟨by omega,by omega⟩,?_⟩;(repeat refine Qo ?_);apply hK;clear hK;refine VS [0,1,8,9,10,11,12,45] ?_;refine Qde [0,1,8,9,10,11,12] (fun e w'=>∃ q:Nat,Is e [(0,sl g cap d),(1,.int .i64 a),(8,.int .i64 n),(9,.pointer (some ⟨s,0,none⟩)),(10,.int .u64 md),(11,.int .i64 (i0+k:Nat)),(12,.int .i64 q)]/\Is w' w4/\q=(if o ≥ n then o - n else o)/\q < n) ?_ ?_
  ·
   refine VD (fun h=>?_) (fun h=>?_)
   ·
    refine VS [0,1,8,9,10,11,12] ?_;refine Qaa ?_;refine Qs ?_;exact ⟨o - n,by rw [show ((o:Int) - n)=((o - n:Nat):Int) by omega];rfl,rfl,by rw [if_pos (by omega)],by omega⟩
   refine VC_skip ?_;refine Qaa ?_;refine Qs ?_;exact ⟨o,rfl,rfl,by rw [if_neg (by omega)],by omega⟩
  rintro e w5 ⟨q,rfl,rfl,hq,hq2⟩;rw [<- hq] at hst;have hH4:=hH3.front 1 rfl;simp only [List.eraseIdx_cons_succ,List.eraseIdx_cons_zero] at hH4;refine Vb [0,1,8,9,10,11] [(0,0),(1,0),(2,0),(3,0),(4,0),(5,0),(6,0),(7,0),(8,0),(9,0),(10,0),(12,0),(13,0),(14,0),(11,1),(15,1),(16,0),(17,2),(18,0),(19,2)] fun K hK=>?_;(repeat (first | (refine ⟨_,Qax (hH4.at 0 rfl) (by omega),?_⟩;(try refine Qs ?_)) | refine Qo ?_ | refine Qp ?_));refine MemK_store ?_;refine Qs ?_;refine Qa0 hH4 0 (o:=(i0+k)) rfl (by first | rfl | (simp;done) | (congr 1;omega)) (by first | omega | (simp;omega)) fun w6 hH5=>?_;simp only [List.set_cons_zero] at hH5;(try refine Qs ?_);(repeat (first | (refine ⟨_,Qax (hH4.at 0 rfl) (by omega),?_⟩;(try refine Qs ?_)) | refine Qo ?_ | refine Qp ?_));refine MemK_store ?_;refine Qs ?_;refine Qa0 hH5 0 (o:=(a+q)) rfl (by first | rfl | (simp;done) | (congr 1;omega)) (by first | omega | (simp;omega)) fun w6 hH6=>?_;simp only [List.set_cons_zero] at hH6;(try refine Qs ?_);have hH7:Heap w0 B w6 (arr g cap (swp d1 (i0+k) (a+q))::rnd s r1::R::G):=hH6;have hH8:=hH7.front 1 rfl;simp only [List.eraseIdx_cons_succ,List.eraseIdx_cons_zero] at hH8;apply hK;clear hK;refine Qah ?_;refine VS [0,1,8,9,10,11] ?_;refine Qaa ?_;refine Qs ?_;refine ⟨3 - (k+1),by omega,k+1,by rw [show (((i0+k:Nat):Int)+1)=((i0+(k+1):Nat):Int) by omega];rfl,?_,?_,?_,by omega,rfl⟩
  ·
   rw [hst];exact hH8
  ·
   rw [hst];rw [Qdh];exact hs1
  rw [hst];exact hQ1.swp (by omega) (by omega)
 obtain rfl:k=3:=by omega
 refine Qad rfl ?_;refine Qqh (Qgq rfl ?_);exact ⟨_,hbp.symm,hs1,hQ1,(hH.sub (by simp)),rfl⟩
open Go Go.Eng
open Go.Sort (swp scanUp scanDown partLoop partition partEqLoop partitionEqual)
theorem Qod {p:Int->Bool}{d:Array Int}{j i:Nat} (h:i<=j) (hb:true=(decide (i<=j) && p d[i]!)):scanUp p d j i=scanUp p d j (i+1):=by
 conv=>lhs;rw [scanUp]
 rw [if_pos hb.symm]
theorem Qke {p:Int->Bool}{d:Array Int}{j i:Nat} (hb:false=(decide (i<=j) && p d[i]!)):scanUp p d j i=i:=by
 rw [scanUp,if_neg (by rw [<- hb];simp)]
theorem Qkf {p:Int->Bool}{d:Array Int}{j i:Nat} (h:0 < j) (hb:true=(decide (i<=j) && p d[j]!)):scanDown p d i j=scanDown p d i (j - 1):=by
 obtain ⟨k,rfl⟩:∃ k,j=k+1:=⟨j - 1,by omega⟩
 conv=>lhs;rw [scanDown]
 rw [if_pos hb.symm];rfl
theorem Qh7 {p:Int->Bool}{d:Array Int}{j i:Nat} (hb:false=(decide (i<=j) && p d[j]!)):scanDown p d i j=j:=by
 cases j with
 | zero=>rfl
 | succ k=>rw [scanDown,if_neg (by rw [<- hb];simp)]
theorem Qxq {lt:Int->Int->Bool}{a i j i2 j2:Nat}{d:Array Int} (h1:i2=scanUp (fun x=>!lt d[a]! x) d j i) (h2:j2=scanDown (fun x=>lt d[a]! x) d i2 j) (h:i2 > j2):partEqLoop lt a i j d=(i2,d):=by
 rw [partEqLoop];simp only [<- h1,<- h2];rw [if_pos h]
theorem QEi {lt:Int->Int->Bool}{a i j i2 j2:Nat}{d:Array Int} (h1:i2=scanUp (fun x=>!lt d[a]! x) d j i) (h2:j2=scanDown (fun x=>lt d[a]! x) d i2 j) (h:¬ i2 > j2) (h3:i<=i2) (h4:j2<=j) (h5:1<=j2):partEqLoop lt a i j d=partEqLoop lt a (i2+1) (j2 - 1) (swp d i2 j2):=by
 conv=>lhs;rw [partEqLoop]
 simp only [<- h1,<- h2];rw [if_neg h,dif_pos (by omega)]
theorem QEj {lt:Int->Int->Bool}{a i j i2 j2:Nat}{d:Array Int} (h1:i2=scanUp (fun x=>lt x d[a]!) d j i) (h2:j2=scanDown (fun x=>!lt x d[a]!) d i2 j) (h:i2 > j2):partLoop lt a i j d=(j2,d):=by
 rw [partLoop];simp only [<- h1,<- h2];rw [if_pos h]
theorem QMn {lt:Int->Int->Bool}{a i j i2 j2:Nat}{d:Array Int} (h1:i2=scanUp (fun x=>lt x d[a]!) d j i) (h2:j2=scanDown (fun x=>!lt x d[a]!) d i2 j) (h:¬ i2 > j2) (h3:i<=i2) (h4:j2<=j) (h5:1<=j2):partLoop lt a i j d=partLoop lt a (i2+1) (j2 - 1) (swp d i2 j2):=by
 conv=>lhs;rw [partLoop]
 simp only [<- h1,<- h2];rw [if_neg h,dif_pos (by omega)]
theorem Qkg {cmp:Value}{cf:Int->Int->Int}{Q:Int->Prop}{R:Res} (hC:Cmp cmp cf Q R) (g cap a b pivot:Nat) (d:Array Int) (hab:a < b) (hb:b<=d.size) (hp:a<=pivot/\pivot < b) (hd:d.size<=1000000000000) (hQ:AllQ Q d) (w0 w:World) (B:List Nat) (G:List Res)
  (hL:Heap w0 B w (arr g cap d::R::G)):Does Tryz.prog 183 #[sl g cap d,.int .i64 a,.int .i64 b,.int .i64 pivot,cmp] w
   fun v w'=>∃ (p:Nat) (d':Array Int),(p,d')=partitionEqual (ltOf cf) d a b pivot/\(a < p/\p<=b)/\d'.size=d.size/\AllQ Q d'/\Heap w0 B w' (arr g cap d'::R::G)/\v=.int .i64 p:=by
 refine En [sl g cap d,.int .i64 a,.int .i64 b,.int .i64 pivot,cmp] 90 Tryz.func183 ?_;refine VS [0,1,2,3,4] ?_;refine Vb [0,1,2,4] [(0,0),(1,0),(2,0),(3,0),(4,0),(5,0),(6,0),(8,0),(9,0),(10,0),(7,1),(11,1),(12,0),(13,2),(14,0),(15,2)] fun K hK=>?_;(repeat (first | (refine ⟨_,Qax (hL.at 0 rfl) (by omega),?_⟩;(try refine Qs ?_)) | refine Qo ?_ | refine Qp ?_));refine MemK_store ?_;refine Qs ?_;refine Qa0 hL 0 (o:=(a)) rfl (by first | rfl | (simp;done) | (congr 1;omega)) (by first | omega | (simp;omega)) fun w6 hS1=>?_;simp only [List.set_cons_zero] at hS1;(try refine Qs ?_);(repeat (first | (refine ⟨_,Qax (hL.at 0 rfl) (by omega),?_⟩;(try refine Qs ?_)) | refine Qo ?_ | refine Qp ?_));refine MemK_store ?_;refine Qs ?_;refine Qa0 hS1 0 (o:=(pivot)) rfl (by first | rfl | (simp;done) | (congr 1;omega)) (by first | omega | (simp;omega)) fun w6 hS2=>?_;simp only [List.set_cons_zero] at hS2;(try refine Qs ?_);have hS0:Heap w0 B w6 (arr g cap (swp d a pivot)::R::G):=hS2;clear hS1 hS2;apply hK;clear hK;have hs0:(swp d a pivot).size=d.size:=Qdh _ _ _;have hQ0:=hQ.swp (i:=a) (j:=pivot) (by omega) (by omega);refine VS [0,1,4,11,12] ?_;refine VB ?_;refine Qac [0,1,4,11,12] (fun m e w'=>∃ (i j:Nat) (d':Array Int),Is e [(0,sl g cap d),(1,.int .i64 a),(4,cmp),(11,.int .i64 i),(12,.int .i64 j)]/\Heap w0 B w' (arr g cap d'::R::G)/\d'.size=d.size/\AllQ Q d'/\a+1<=i/\(i<=j+2/\i<=b/\a<=j)/\j < b/\partEqLoop (ltOf cf) a i j d'=partitionEqual (ltOf cf) d a b pivot/\m=j+1 - i) (b - (a+1)) ?_ ?_
 ·
  refine Qs ?_;exact ⟨a+1,b - 1,_,by rw [show ((b:Int) - 1)=((b - 1:Nat):Int) by omega];rfl,hS0,hs0,hQ0,by omega,by omega,by omega,rfl,by omega⟩
 clear hS0;rintro m0 e w1 ⟨i0,j,d1,rfl,hH,hs1,hQ1,hi0,hij0,hj,hlp,hm0⟩;refine Qab ?_;refine VB ?_;refine Qac [0,1,4,11,12] (fun m e w'=>∃ (i:Nat),Is e [(0,sl g cap d),(1,.int .i64 a),(4,cmp),(11,.int .i64 i),(12,.int .i64 j)]/\Heap w0 B w' (arr g cap d1::R::G)/\i0<=i/\(i<=j+1∨i=i0)/\scanUp (fun x=>!ltOf cf d1[a]! x) d1 j i=scanUp (fun x=>!ltOf cf d1[a]! x) d1 j i0/\m=j+1 - i) (j+1 - i0) ?_ ?_
 ·
  refine Qs ?_;exact ⟨i0,rfl,hH,by omega,by omega,rfl,rfl⟩
 clear hH;rintro m e w2 ⟨i,rfl,hH,hi1,hi2,hsc,hm⟩;refine VL [0,1,4,11,12,47] 13 fun K hK=>?_
 have hall:∀ bb:Bool,∀ w4,bb=(decide (i<=j) && (!ltOf cf d1[a]! d1[i]!))->Heap w0 B w4 (arr g cap d1::R::G)->K [(0,sl g cap d),(1,.int .i64 a),(4,cmp),(11,.int .i64 i),(12,.int .i64 j),(47,.bool bb)] w4:=by
  clear hH;intro bb w4 hbb hH;apply hK;clear hK;refine Vi (fun h=>?_) (fun h=>?_)
  ·
   subst h;have hij:i<=j:=by simp at hbb;omega
   refine VC_skip ?_;refine Qab ?_;refine VS [0,1,4,11,12] ?_;refine Qah ?_;refine Qaa ?_;refine Qs ?_;refine ⟨j+1 - (i+1),by omega,i+1,rfl,hH,by omega,by omega,?_,rfl⟩;rw [<- hsc,Qod (p:=fun x=>!ltOf cf d1[a]! x) (i:=i) (j:=j) (by omega) hbb]
  subst h;rw [Qke hbb] at hsc;clear hbb;refine Qad rfl ?_;obtain ⟨j0,hj0⟩:∃ j0,j0=j:=⟨_,rfl⟩;subst hj0;refine VB ?_;refine Qac [0,1,4,11,12] (fun m e w'=>∃ (j:Nat),Is e [(0,sl g cap d),(1,.int .i64 a),(4,cmp),(11,.int .i64 i),(12,.int .i64 j)]/\Heap w0 B w' (arr g cap d1::R::G)/\(i<=j+2/\a<=j)/\j<=j0/\scanDown (fun x=>ltOf cf d1[a]! x) d1 i j=scanDown (fun x=>ltOf cf d1[a]! x) d1 i j0/\m=j) (j0) ?_ ?_
  ·
   refine Qs ?_;exact ⟨j0,rfl,hH,by omega,by omega,rfl,rfl⟩
  clear hH;rintro m e w2 ⟨j,rfl,hH,hj1,hj2,hsd,hm⟩;refine VL [0,1,4,11,12,65] 13 fun K hK=>?_
  have hall:∀ bb:Bool,∀ w4,bb=(decide (i<=j) && ltOf cf d1[a]! d1[j]!)->Heap w0 B w4 (arr g cap d1::R::G)->K [(0,sl g cap d),(1,.int .i64 a),(4,cmp),(11,.int .i64 i),(12,.int .i64 j),(65,.bool bb)] w4:=by
   clear hH;intro bb w4 hbb hH;apply hK;clear hK;refine Vi (fun h=>?_) (fun h=>?_)
   ·
    subst h;have hij:i<=j:=by simp at hbb;omega
    refine VC_skip ?_;refine Qab ?_;refine VS [0,1,4,11,12] ?_;refine Qah ?_;refine Qaa ?_;refine Qs ?_;refine ⟨j - 1,by omega,j - 1,by rw [show ((j:Int) - 1)=((j - 1:Nat):Int) by omega];rfl,hH,by omega,by omega,?_,rfl⟩;rw [<- hsd,Qkf (p:=fun x=>ltOf cf d1[a]! x) (i:=i) (j:=j) (by omega) hbb]
   subst h;rw [Qh7 hbb] at hsd;clear hbb;refine Qad rfl ?_;refine VS [0,1,4,11,12,70] ?_;refine VD (fun h=>?_) (fun h=>?_)
   ·
    rw [Qxq hsc hsd (by omega)] at hlp;refine Qad rfl ?_;refine VS [10] ?_;exact VC_ret (VX_ret1 rfl rfl ⟨i,d1,hlp,⟨by omega,by omega⟩,hs1,hQ1,hH,rfl⟩)
   rw [QEi hsc hsd (by omega) (by omega) (by omega) (by omega)] at hlp;refine VC_skip ?_;refine Vb [0,1,4,11,12] [(0,0),(1,0),(2,0),(3,0),(4,0),(5,0),(6,0),(8,0),(9,0),(10,0),(7,1),(11,1),(12,0),(13,2),(14,0),(15,2)] fun K hK=>?_;(repeat (first | (refine ⟨_,Qax (hH.at 0 rfl) (by omega),?_⟩;(try refine Qs ?_)) | refine Qo ?_ | refine Qp ?_));refine MemK_store ?_;refine Qs ?_;refine Qa0 hH 0 (o:=(i)) rfl (by first | rfl | (simp;done) | (congr 1;omega)) (by first | omega | (simp;omega)) fun w6 hS1=>?_;simp only [List.set_cons_zero] at hS1;(try refine Qs ?_);(repeat (first | (refine ⟨_,Qax (hH.at 0 rfl) (by omega),?_⟩;(try refine Qs ?_)) | refine Qo ?_ | refine Qp ?_));refine MemK_store ?_;refine Qs ?_;refine Qa0 hS1 0 (o:=(j)) rfl (by first | rfl | (simp;done) | (congr 1;omega)) (by first | omega | (simp;omega)) fun w6 hS2=>?_;simp only [List.set_cons_zero] at hS2;(try refine Qs ?_);have hS:Heap w0 B w6 (arr g cap (swp d1 i j)::R::G):=hS2;clear hS1 hS2;apply hK;clear hK;refine VS [0,1,4,11,12] ?_;refine VS [0,1,4,11,12] ?_;refine Qah ?_;refine Qaa ?_;refine Qs ?_;exact ⟨j - 1+1 - (i+1),by omega,i+1,j - 1,_,by rw [show ((j:Int) - 1)=((j - 1:Nat):Int) by omega];rfl,hS,by rw [Qdh,hs1],hQ1.swp (by omega) (by omega),by omega,by omega,by omega,hlp,rfl⟩
  refine ⟨fun hg=>?_,fun hg=>?_⟩
  ·
   (repeat (first | (refine ⟨_,Qax (hH.at 0 rfl) (by omega),?_⟩;(try refine Qs ?_)) | refine Qo ?_ | refine Qp ?_));refine Qbf ?_;refine Qs ?_;refine FnK.to (Cmp.look hC hH (hQ1 _ (by omega)) (hQ1 _ (by omega))) ?_;rintro v w4 ⟨hH2,rfl⟩;(try refine Qs ?_);refine hall _ _ ?_ hH2;simp [ltOf,show i<=j by omega]
  refine hall _ _ ?_ hH;simp [show ¬ i<=j by omega]
 refine ⟨fun hg=>?_,fun hg=>?_⟩
 ·
  (repeat (first | (refine ⟨_,Qax (hH.at 0 rfl) (by omega),?_⟩;(try refine Qs ?_)) | refine Qo ?_ | refine Qp ?_));refine Qbf ?_;refine Qs ?_;refine FnK.to (Cmp.look hC hH (hQ1 _ (by omega)) (hQ1 _ (by omega))) ?_;rintro v w4 ⟨hH2,rfl⟩;(try refine Qs ?_);refine hall _ _ ?_ hH2;simp [ltOf,show i<=j by omega]
 refine hall _ _ ?_ hH;simp [show ¬ i<=j by omega]
theorem Qpz {cmp:Value}{cf:Int->Int->Int}{Q:Int->Prop}{R:Res} (hC:Cmp cmp cf Q R) (g cap a b pivot:Nat) (d:Array Int) (hab:a < b) (hb:b<=d.size) (hp:a<=pivot/\pivot < b) (hd:d.size<=1000000000000) (hQ:AllQ Q d) (w0 w:World) (B:List Nat) (G:List Res)
  (hL:Heap w0 B w (arr g cap d::R::G)):Does Tryz.prog 184 #[sl g cap d,.int .i64 a,.int .i64 b,.int .i64 pivot,cmp] w
   fun v w'=>∃ (p:Nat) (al:Bool) (d':Array Int),(p,al,d')=partition (ltOf cf) d a b pivot/\(a<=p/\p < b)/\d'.size=d.size/\AllQ Q d'/\Heap w0 B w' (arr g cap d'::R::G)/\v=.tuple #[.int .i64 p,.bool al]:=by
 refine En [sl g cap d,.int .i64 a,.int .i64 b,.int .i64 pivot,cmp] 178 Tryz.func184 ?_;refine VS [0,1,2,3,4] ?_;refine Vb [0,1,2,4] [(0,0),(1,0),(2,0),(3,0),(4,0),(5,0),(6,0),(8,0),(9,0),(10,0),(7,1),(11,1),(12,0),(13,2),(14,0),(15,2)] fun K hK=>?_;(repeat (first | (refine ⟨_,Qax (hL.at 0 rfl) (by omega),?_⟩;(try refine Qs ?_)) | refine Qo ?_ | refine Qp ?_));refine MemK_store ?_;refine Qs ?_;refine Qa0 hL 0 (o:=(a)) rfl (by first | rfl | (simp;done) | (congr 1;omega)) (by first | omega | (simp;omega)) fun w6 hS1=>?_;simp only [List.set_cons_zero] at hS1;(try refine Qs ?_);(repeat (first | (refine ⟨_,Qax (hL.at 0 rfl) (by omega),?_⟩;(try refine Qs ?_)) | refine Qo ?_ | refine Qp ?_));refine MemK_store ?_;refine Qs ?_;refine Qa0 hS1 0 (o:=(pivot)) rfl (by first | rfl | (simp;done) | (congr 1;omega)) (by first | omega | (simp;omega)) fun w6 hS2=>?_;simp only [List.set_cons_zero] at hS2;(try refine Qs ?_);have hH:Heap w0 B w6 (arr g cap (swp d a pivot)::R::G):=hS2;clear hS1 hS2;apply hK;clear hK;have hs0:(swp d a pivot).size=d.size:=Qdh _ _ _;have hQ0:=hQ.swp (i:=a) (j:=pivot) (by omega) (by omega);generalize hd0:swp d a pivot=d0 at *;refine VS [0,1,4,12,13] ?_;obtain ⟨i0,hi00⟩:∃ i0,i0=a+1:=⟨_,rfl⟩;obtain ⟨j,hj00⟩:∃ j,j=b - 1:=⟨_,rfl⟩;rw [show ((b:Int) - 1)=(j:Int) by omega,show ((a:Int)+1)=(i0:Int) by omega];refine VB ?_;refine Qac [0,1,4,12,13] (fun m e w'=>∃ (i:Nat),Is e [(0,sl g cap d),(1,.int .i64 a),(4,cmp),(12,.int .i64 i),(13,.int .i64 j)]/\Heap w0 B w' (arr g cap d0::R::G)/\i0<=i/\(i<=j+1∨i=i0)/\scanUp (fun x=>ltOf cf x d0[a]!) d0 j i=scanUp (fun x=>ltOf cf x d0[a]!) d0 j i0/\m=j+1 - i) (j+1 - i0) ?_ ?_
 ·
  refine Qs ?_;exact ⟨i0,rfl,hH,by omega,by omega,rfl,rfl⟩
 clear hH;rintro m e w2 ⟨i,rfl,hH,hi1,hi2,hsc,hm⟩;refine VL [0,1,4,12,13,47] 13 fun K hK=>?_
 have hall:∀ bb:Bool,∀ w4,bb=(decide (i<=j) && ltOf cf d0[i]! d0[a]!)->Heap w0 B w4 (arr g cap d0::R::G)->K [(0,sl g cap d),(1,.int .i64 a),(4,cmp),(12,.int .i64 i),(13,.int .i64 j),(47,.bool bb)] w4:=by
  clear hH;intro bb w4 hbb hH;apply hK;clear hK;refine Vi (fun h=>?_) (fun h=>?_)
  ·
   subst h;have hij:i<=j:=by simp at hbb;omega
   refine VC_skip ?_;refine Qab ?_;refine VS [0,1,4,12,13] ?_;refine Qah ?_;refine Qaa ?_;refine Qs ?_;refine ⟨j+1 - (i+1),by omega,i+1,rfl,hH,by omega,by omega,?_,rfl⟩;rw [<- hsc,Qod (p:=fun x=>ltOf cf x d0[a]!) (i:=i) (j:=j) (by omega) hbb]
  subst h;rw [Qke hbb] at hsc;clear hbb;refine Qad rfl ?_;obtain ⟨j0,hj0⟩:∃ j0,j0=j:=⟨_,rfl⟩;subst hj0;refine VB ?_;refine Qac [0,1,4,12,13] (fun m e w'=>∃ (j:Nat),Is e [(0,sl g cap d),(1,.int .i64 a),(4,cmp),(12,.int .i64 i),(13,.int .i64 j)]/\Heap w0 B w' (arr g cap d0::R::G)/\(i<=j+2/\a<=j)/\j<=j0/\scanDown (fun x=>!ltOf cf x d0[a]!) d0 i j=scanDown (fun x=>!ltOf cf x d0[a]!) d0 i j0/\m=j) (j0) ?_ ?_
  ·
   refine Qs ?_;exact ⟨j0,rfl,hH,by omega,by omega,rfl,rfl⟩
  clear hH;rintro m e w2 ⟨j,rfl,hH,hj1,hj2,hsd,hm⟩;refine VL [0,1,4,12,13,66] 13 fun K hK=>?_
  have hall:∀ bb:Bool,∀ w4,bb=(decide (i<=j) && (!ltOf cf d0[j]! d0[a]!))->Heap w0 B w4 (arr g cap d0::R::G)->K [(0,sl g cap d),(1,.int .i64 a),(4,cmp),(12,.int .i64 i),(13,.int .i64 j),(66,.bool bb)] w4:=by
   clear hH;intro bb w4 hbb hH;apply hK;clear hK;refine Vi (fun h=>?_) (fun h=>?_)
   ·
    subst h;have hij:i<=j:=by simp at hbb;omega
    refine VC_skip ?_;refine Qab ?_;refine VS [0,1,4,12,13] ?_;refine Qah ?_;refine Qaa ?_;refine Qs ?_;refine ⟨j - 1,by omega,j - 1,by rw [show ((j:Int) - 1)=((j - 1:Nat):Int) by omega];rfl,hH,by omega,by omega,?_,rfl⟩;rw [<- hsd,Qkf (p:=fun x=>!ltOf cf x d0[a]!) (i:=i) (j:=j) (by omega) hbb]
   subst h;rw [Qh7 hbb] at hsd;clear hbb;refine Qad rfl ?_;refine VS [0,1,4,12,13,71] ?_
   have hpart:partition (ltOf cf) d a b pivot=if i > j then (j,true,swp d0 j a) else ((partLoop (ltOf cf) a (i+1) (j - 1) (swp d0 i j)).1,false,swp (partLoop (ltOf cf) a (i+1) (j - 1) (swp d0 i j)).2 (partLoop (ltOf cf) a (i+1) (j - 1) (swp d0 i j)).1 a):=by
    simp only [partition,hd0,<- hi00,<- hj00,<- hsc,<- hsd]
   refine VD (fun h=>?_) (fun h=>?_)
   ·
    rw [if_pos (by omega)] at hpart;refine Vb [13] [(0,0),(1,0),(2,0),(3,0),(4,0),(5,0),(6,0),(8,0),(9,0),(10,0),(7,1),(11,1),(12,0),(13,2),(14,0),(15,2)] fun K hK=>?_;(repeat (first | (refine ⟨_,Qax (hH.at 0 rfl) (by omega),?_⟩;(try refine Qs ?_)) | refine Qo ?_ | refine Qp ?_));refine MemK_store ?_;refine Qs ?_;refine Qa0 hH 0 (o:=(j)) rfl (by first | rfl | (simp;done) | (congr 1;omega)) (by first | omega | (simp;omega)) fun w6 hS1=>?_;simp only [List.set_cons_zero] at hS1;(try refine Qs ?_);(repeat (first | (refine ⟨_,Qax (hH.at 0 rfl) (by omega),?_⟩;(try refine Qs ?_)) | refine Qo ?_ | refine Qp ?_));refine MemK_store ?_;refine Qs ?_;refine Qa0 hS1 0 (o:=(a)) rfl (by first | rfl | (simp;done) | (congr 1;omega)) (by first | omega | (simp;omega)) fun w6 hS2=>?_;simp only [List.set_cons_zero] at hS2;(try refine Qs ?_);have hS:Heap w0 B w6 (arr g cap (swp d0 j a)::R::G):=hS2;clear hS1 hS2;apply hK;clear hK;refine VS [10,11] ?_;refine VC_ret (Qat rfl rfl rfl ?_);exact ⟨j,true,_,hpart.symm,⟨by omega,by omega⟩,by rw [Qdh,hs0],hQ0.swp (by omega) (by omega),hS,rfl⟩
   rw [if_neg (by omega)] at hpart;refine VC_skip ?_;refine Vb [0,1,4,12,13] [(0,0),(1,0),(2,0),(3,0),(4,0),(5,0),(6,0),(8,0),(9,0),(10,0),(7,1),(11,1),(12,0),(13,2),(14,0),(15,2)] fun K hK=>?_;(repeat (first | (refine ⟨_,Qax (hH.at 0 rfl) (by omega),?_⟩;(try refine Qs ?_)) | refine Qo ?_ | refine Qp ?_));refine MemK_store ?_;refine Qs ?_;refine Qa0 hH 0 (o:=(i)) rfl (by first | rfl | (simp;done) | (congr 1;omega)) (by first | omega | (simp;omega)) fun w6 hS1=>?_;simp only [List.set_cons_zero] at hS1;(try refine Qs ?_);(repeat (first | (refine ⟨_,Qax (hH.at 0 rfl) (by omega),?_⟩;(try refine Qs ?_)) | refine Qo ?_ | refine Qp ?_));refine MemK_store ?_;refine Qs ?_;refine Qa0 hS1 0 (o:=(j)) rfl (by first | rfl | (simp;done) | (congr 1;omega)) (by first | omega | (simp;omega)) fun w6 hS2=>?_;simp only [List.set_cons_zero] at hS2;(try refine Qs ?_);have hS0:Heap w0 B w6 (arr g cap (swp d0 i j)::R::G):=hS2;clear hS1 hS2;apply hK;clear hK;refine VS [0,1,4,12,13] ?_;refine VS [0,1,4,12,13] ?_;have hs0':(swp d0 i j).size=d.size:=by rw [Qdh,hs0]
   have hQ0':=hQ0.swp (i:=i) (j:=j) (by omega) (by omega);obtain ⟨r,hr⟩:∃ r,partLoop (ltOf cf) a (i+1) (j - 1) (swp d0 i j)=r:=⟨_,rfl⟩;have hpt:∀ x y,r=(x,y)->(x,false,swp y x a)=partition (ltOf cf) d a b pivot:=fun x y h=>by rw [hpart,hr,h]
   clear hpart hsc hsd;obtain ⟨d0',hd0'⟩:∃ d0',swp d0 i j=d0':=⟨_,rfl⟩;rw [hd0'] at hS0 hs0' hQ0' hr;clear hd0';refine VB ?_;refine Qac [0,1,4,12,13] (fun m e w'=>∃ (i j:Nat) (d':Array Int),Is e [(0,sl g cap d),(1,.int .i64 a),(4,cmp),(12,.int .i64 i),(13,.int .i64 j)]/\Heap w0 B w' (arr g cap d'::R::G)/\d'.size=d.size/\AllQ Q d'/\a+1<=i/\(i<=j+2/\i<=b/\a<=j)/\j < b/\partLoop (ltOf cf) a i j d'=r/\m=j+1 - i) (j - 1+1 - (i+1)) ?_ ?_
   ·
    refine Qs ?_;exact ⟨i+1,j - 1,d0',by rw [show ((j:Int) - 1)=((j - 1:Nat):Int) by omega];rfl,hS0,hs0',hQ0',by omega,by omega,by omega,hr,rfl⟩
   clear hS0;rintro m0 e w1 ⟨i0,j,d1,rfl,hH,hs1,hQ1,hi0,hij0,hj,hlp,hm0⟩;refine Qab ?_;refine VB ?_;refine Qac [0,1,4,12,13] (fun m e w'=>∃ (i:Nat),Is e [(0,sl g cap d),(1,.int .i64 a),(4,cmp),(12,.int .i64 i),(13,.int .i64 j)]/\Heap w0 B w' (arr g cap d1::R::G)/\i0<=i/\(i<=j+1∨i=i0)/\scanUp (fun x=>ltOf cf x d1[a]!) d1 j i=scanUp (fun x=>ltOf cf x d1[a]!) d1 j i0/\m=j+1 - i) (j+1 - i0) ?_ ?_
   ·
    refine Qs ?_;exact ⟨i0,rfl,hH,by omega,by omega,rfl,rfl⟩
   clear hH;rintro m e w2 ⟨i,rfl,hH,hi1,hi2,hsc,hm⟩;refine VL [0,1,4,12,13,120] 13 fun K hK=>?_
   have hall:∀ bb:Bool,∀ w4,bb=(decide (i<=j) && ltOf cf d1[i]! d1[a]!)->Heap w0 B w4 (arr g cap d1::R::G)->K [(0,sl g cap d),(1,.int .i64 a),(4,cmp),(12,.int .i64 i),(13,.int .i64 j),(120,.bool bb)] w4:=by
    clear hH;intro bb w4 hbb hH;apply hK;clear hK;refine Vi (fun h=>?_) (fun h=>?_)
    ·
     subst h;have hij:i<=j:=by simp at hbb;omega
     refine VC_skip ?_;refine Qab ?_;refine VS [0,1,4,12,13] ?_;refine Qah ?_;refine Qaa ?_;refine Qs ?_;refine ⟨j+1 - (i+1),by omega,i+1,rfl,hH,by omega,by omega,?_,rfl⟩;rw [<- hsc,Qod (p:=fun x=>ltOf cf x d1[a]!) (i:=i) (j:=j) (by omega) hbb]
    subst h;rw [Qke hbb] at hsc;clear hbb;refine Qad rfl ?_;obtain ⟨j0,hj0⟩:∃ j0,j0=j:=⟨_,rfl⟩;subst hj0;refine VB ?_;refine Qac [0,1,4,12,13] (fun m e w'=>∃ (j:Nat),Is e [(0,sl g cap d),(1,.int .i64 a),(4,cmp),(12,.int .i64 i),(13,.int .i64 j)]/\Heap w0 B w' (arr g cap d1::R::G)/\(i<=j+2/\a<=j)/\j<=j0/\scanDown (fun x=>!ltOf cf x d1[a]!) d1 i j=scanDown (fun x=>!ltOf cf x d1[a]!) d1 i j0/\m=j) (j0) ?_ ?_
    ·
     refine Qs ?_;exact ⟨j0,rfl,hH,by omega,by omega,rfl,rfl⟩
    clear hH;rintro m e w2 ⟨j,rfl,hH,hj1,hj2,hsd,hm⟩;refine VL [0,1,4,12,13,139] 13 fun K hK=>?_
    have hall:∀ bb:Bool,∀ w4,bb=(decide (i<=j) && (!ltOf cf d1[j]! d1[a]!))->Heap w0 B w4 (arr g cap d1::R::G)->K [(0,sl g cap d),(1,.int .i64 a),(4,cmp),(12,.int .i64 i),(13,.int .i64 j),(139,.bool bb)] w4:=by
     clear hH;intro bb w4 hbb hH;apply hK;clear hK;refine Vi (fun h=>?_) (fun h=>?_)
     ·
      subst h;have hij:i<=j:=by simp at hbb;omega
      refine VC_skip ?_;refine Qab ?_;refine VS [0,1,4,12,13] ?_;refine Qah ?_;refine Qaa ?_;refine Qs ?_;refine ⟨j - 1,by omega,j - 1,by rw [show ((j:Int) - 1)=((j - 1:Nat):Int) by omega];rfl,hH,by omega,by omega,?_,rfl⟩;rw [<- hsd,Qkf (p:=fun x=>!ltOf cf x d1[a]!) (i:=i) (j:=j) (by omega) hbb]
     subst h;rw [Qh7 hbb] at hsd;clear hbb;refine Qad rfl ?_;refine VS [0,1,4,12,13,144] ?_;refine VD (fun h=>?_) (fun h=>?_)
     ·
      rw [QEj hsc hsd (by omega)] at hlp;refine Qad rfl ?_;refine Vb [13] [(0,0),(1,0),(2,0),(3,0),(4,0),(5,0),(6,0),(8,0),(9,0),(10,0),(7,1),(11,1),(12,0),(13,2),(14,0),(15,2)] fun K hK=>?_;(repeat (first | (refine ⟨_,Qax (hH.at 0 rfl) (by omega),?_⟩;(try refine Qs ?_)) | refine Qo ?_ | refine Qp ?_));refine MemK_store ?_;refine Qs ?_;refine Qa0 hH 0 (o:=(j)) rfl (by first | rfl | (simp;done) | (congr 1;omega)) (by first | omega | (simp;omega)) fun w6 hS1=>?_;simp only [List.set_cons_zero] at hS1;(try refine Qs ?_);(repeat (first | (refine ⟨_,Qax (hH.at 0 rfl) (by omega),?_⟩;(try refine Qs ?_)) | refine Qo ?_ | refine Qp ?_));refine MemK_store ?_;refine Qs ?_;refine Qa0 hS1 0 (o:=(a)) rfl (by first | rfl | (simp;done) | (congr 1;omega)) (by first | omega | (simp;omega)) fun w6 hS2=>?_;simp only [List.set_cons_zero] at hS2;(try refine Qs ?_);have hS:Heap w0 B w6 (arr g cap (swp d1 j a)::R::G):=hS2;clear hS1 hS2;apply hK;clear hK;refine VS [10,11] ?_;refine VC_ret (Qat rfl rfl rfl ?_);exact ⟨j,false,_,hpt _ _ hlp.symm,⟨by omega,by omega⟩,by rw [Qdh,hs1],hQ1.swp (by omega) (by omega),hS,rfl⟩
     rw [QMn hsc hsd (by omega) (by omega) (by omega) (by omega)] at hlp;refine VC_skip ?_;refine Vb [0,1,4,12,13] [(0,0),(1,0),(2,0),(3,0),(4,0),(5,0),(6,0),(8,0),(9,0),(10,0),(7,1),(11,1),(12,0),(13,2),(14,0),(15,2)] fun K hK=>?_;(repeat (first | (refine ⟨_,Qax (hH.at 0 rfl) (by omega),?_⟩;(try refine Qs ?_)) | refine Qo ?_ | refine Qp ?_));refine MemK_store ?_;refine Qs ?_;refine Qa0 hH 0 (o:=(i)) rfl (by first | rfl | (simp;done) | (congr 1;omega)) (by first | omega | (simp;omega)) fun w6 hS1=>?_;simp only [List.set_cons_zero] at hS1;(try refine Qs ?_);(repeat (first | (refine ⟨_,Qax (hH.at 0 rfl) (by omega),?_⟩;(try refine Qs ?_)) | refine Qo ?_ | refine Qp ?_));refine MemK_store ?_;refine Qs ?_;refine Qa0 hS1 0 (o:=(j)) rfl (by first | rfl | (simp;done) | (congr 1;omega)) (by first | omega | (simp;omega)) fun w6 hS2=>?_;simp only [List.set_cons_zero] at hS2;(try refine Qs ?_);have hS:Heap w0 B w6 (arr g cap (swp d1 i j)::R::G):=hS2;clear hS1 hS2;apply hK;clear hK;refine VS [0,1,4,12,13] ?_;refine VS [0,1,4,12,13] ?_;refine Qah ?_;refine Qaa ?_;refine Qs ?_;exact ⟨j - 1+1 - (i+1),by omega,i+1,j - 1,_,by rw [show ((j:Int) - 1)=((j - 1:Nat):Int) by omega];rfl,hS,by rw [Qdh,hs1],hQ1.swp (by omega) (by omega),by omega,by omega,by omega,hlp,rfl⟩
    refine ⟨fun hg=>?_,fun hg=>?_⟩
    ·
     (repeat (first | (refine ⟨_,Qax (hH.at 0 rfl) (by omega),?_⟩;(try refine Qs ?_)) | refine Qo ?_ | refine Qp ?_));refine Qbf ?_;refine Qs ?_;refine FnK.to (Cmp.look hC hH (hQ1 _ (by omega)) (hQ1 _ (by omega))) ?_;rintro v w4 ⟨hH2,rfl⟩;(try refine Qs ?_);refine hall _ _ ?_ hH2;simp [ltOf,show i<=j by omega]
    refine hall _ _ ?_ hH;simp [show ¬ i<=j by omega]
   refine ⟨fun hg=>?_,fun hg=>?_⟩
   ·
    (repeat (first | (refine ⟨_,Qax (hH.at 0 rfl) (by omega),?_⟩;(try refine Qs ?_)) | refine Qo ?_ | refine Qp ?_));refine Qbf ?_;refine Qs ?_;refine FnK.to (Cmp.look hC hH (hQ1 _ (by omega)) (hQ1 _ (by omega))) ?_;rintro v w4 ⟨hH2,rfl⟩;(try refine Qs ?_);refine hall _ _ ?_ hH2;simp [ltOf,show i<=j by omega]
   refine hall _ _ ?_ hH;simp [show ¬ i<=j by omega]
  refine ⟨fun hg=>?_,fun hg=>?_⟩
  ·
   (repeat (first | (refine ⟨_,Qax (hH.at 0 rfl) (by omega),?_⟩;(try refine Qs ?_)) | refine Qo ?_ | refine Qp ?_));refine Qbf ?_;refine Qs ?_;refine FnK.to (Cmp.look hC hH (hQ0 _ (by omega)) (hQ0 _ (by omega))) ?_;rintro v w4 ⟨hH2,rfl⟩;(try refine Qs ?_);refine hall _ _ ?_ hH2;simp [ltOf,show i<=j by omega]
  refine hall _ _ ?_ hH;simp [show ¬ i<=j by omega]
 refine ⟨fun hg=>?_,fun hg=>?_⟩
 ·
  (repeat (first | (refine ⟨_,Qax (hH.at 0 rfl) (by omega),?_⟩;(try refine Qs ?_)) | refine Qo ?_ | refine Qp ?_));refine Qbf ?_;refine Qs ?_;refine FnK.to (Cmp.look hC hH (hQ0 _ (by omega)) (hQ0 _ (by omega))) ?_;rintro v w4 ⟨hH2,rfl⟩;(try refine Qs ?_);refine hall _ _ ?_ hH2;simp [ltOf,show i<=j by omega]
 refine hall _ _ ?_ hH;simp [show ¬ i<=j by omega]
open Go Go.Eng
open Go.Sort (swp scanSorted shiftDown shiftUp partialIns partialInsertionSort)
theorem Qsj {lt:Int->Int->Bool}{d:Array Int}{b i:Nat} (hb:true=(decide (i < b) && !lt d[i]! d[i - 1]!)):scanSorted lt d b i=scanSorted lt d b (i+1):=by
 conv=>lhs;rw [scanSorted]
 rw [if_pos hb.symm]
theorem Qoe {lt:Int->Int->Bool}{d:Array Int}{b i:Nat} (hb:false=(decide (i < b) && !lt d[i]! d[i - 1]!)):scanSorted lt d b i=i:=by
 rw [scanSorted,if_neg (by rw [<- hb];simp)]
theorem Quq {lt:Int->Int->Bool}{d:Array Int}{j:Nat} (h0:0 < j) (h:lt d[j]! d[j - 1]! = true):shiftDown lt j d=shiftDown lt (j - 1) (swp d j (j - 1)):=by
 obtain ⟨k,rfl⟩:∃ k,j=k+1:=⟨j - 1,by omega⟩;rw [Nat.add_sub_cancel] at *
 conv=>lhs;rw [shiftDown]
 rw [if_neg (by simp [h])]
theorem Qp0 {lt:Int->Int->Bool}{d:Array Int}{j:Nat} (h0:0 < j) (h:lt d[j]! d[j - 1]! = false):shiftDown lt j d=d:=by
 obtain ⟨k,rfl⟩:∃ k,j=k+1:=⟨j - 1,by omega⟩;rw [Nat.add_sub_cancel] at *;rw [shiftDown,if_pos (by simp [h])]
theorem QBw {lt:Int->Int->Bool}{d:Array Int}{b j:Nat} (h0:j < b) (h:lt d[j]! d[j - 1]! = true):shiftUp lt b j d=shiftUp lt b (j+1) (swp d j (j - 1)):=by
 conv=>lhs;rw [shiftUp]
 rw [if_pos h0,if_neg (by simp [h])]
theorem Qur {lt:Int->Int->Bool}{d:Array Int}{b j:Nat} (h0:j < b) (h:lt d[j]! d[j - 1]! = false):shiftUp lt b j d=d:=by
 rw [shiftUp,if_pos h0,if_pos (by simp [h])]
theorem Qxr {lt:Int->Int->Bool}{d:Array Int}{b j:Nat} (h0:¬ j < b):shiftUp lt b j d=d:=by
 rw [shiftUp,if_neg h0]
theorem Qhl {cmp:Value}{cf:Int->Int->Int}{Q:Int->Prop}{R:Res} (hC:Cmp cmp cf Q R) (g cap a b:Nat) (d:Array Int) (hab:a < b) (hb:b<=d.size) (hd:d.size<=1000000000000) (hQ:AllQ Q d) (w0 w:World) (B:List Nat) (G:List Res)
  (hL:Heap w0 B w (arr g cap d::R::G)):Does Tryz.prog 182 #[sl g cap d,.int .i64 a,.int .i64 b,cmp] w
   fun v w'=>∃ (d':Array Int) (ok:Bool),(d',ok)=partialInsertionSort (ltOf cf) d a b/\d'.size=d.size/\AllQ Q d'/\Heap w0 B w' (arr g cap d'::R::G)/\v=.bool ok:=by
 refine En [sl g cap d,.int .i64 a,.int .i64 b,cmp] 141 Tryz.func182 ?_;refine VS [0,1,2,3] ?_;refine VS [0,1,2,3,9] ?_;refine VS [0,1,2,3,9,10] ?_;refine Qab ?_;refine Qac [0,1,2,3,9,10] (fun m e w'=>∃ (i q:Nat) (d':Array Int),Is e [(0,sl g cap d),(1,.int .i64 a),(2,.int .i64 b),(3,cmp),(9,.int .i64 i),(10,.int .i64 q)]/\Heap w0 B w' (arr g cap d'::R::G)/\d'.size=d.size/\AllQ Q d'/\a+1<=i/\i<=b/\q<=5/\partialIns (ltOf cf) a b (5 - q) i d'=partialInsertionSort (ltOf cf) d a b/\m=5 - q) 5 ?_ ?_
 ·
  refine Qs ?_;exact ⟨a+1,0,d,rfl,hL,rfl,hQ,by omega,by omega,by omega,rfl,rfl⟩
 rintro m0 e w1 ⟨i0,q,d1,rfl,hH,hs1,hQ1,hi0,hi0b,hq,hpi,hm0⟩;refine VS [0,1,2,3,9,10,16] ?_;refine VD (fun h=>?_) (fun h=>?_)
 ·
  refine VC_skip ?_;refine VB ?_;refine VB ?_;refine Qac [0,1,2,3,9,10] (fun m e w'=>∃ (i:Nat),Is e [(0,sl g cap d),(1,.int .i64 a),(2,.int .i64 b),(3,cmp),(9,.int .i64 i),(10,.int .i64 q)]/\Heap w0 B w' (arr g cap d1::R::G)/\i0<=i/\i<=b/\scanSorted (ltOf cf) d1 b i=scanSorted (ltOf cf) d1 b i0/\m=b - i) (b - i0) ?_ ?_
  ·
   refine Qs ?_;exact ⟨i0,rfl,hH,by omega,by omega,rfl,rfl⟩
  clear hH;rintro m e w2 ⟨i,rfl,hH,hi1,hi2,hsc,hm⟩;refine VL [0,1,2,3,9,10,36] 14 fun K hK=>?_
  have hall:∀ bb:Bool,∀ w4,bb=(decide (i < b) && !ltOf cf d1[i]! d1[i - 1]!)->Heap w0 B w4 (arr g cap d1::R::G)->K [(0,sl g cap d),(1,.int .i64 a),(2,.int .i64 b),(3,cmp),(9,.int .i64 i),(10,.int .i64 q),(36,.bool bb)] w4:=by
   clear hH;intro bb w4 hbb hH;apply hK;clear hK;refine Vi (fun h=>?_) (fun h=>?_)
   ·
    subst h;have hij:i < b:=by simp at hbb;omega
    refine VC_skip ?_;refine Qab ?_;refine VS [0,1,2,3,9,10] ?_;refine Qah ?_;refine Qaa ?_;refine Qs ?_;refine ⟨b - (i+1),by omega,i+1,rfl,hH,by omega,by omega,?_,rfl⟩;rw [<- hsc,Qsj (i:=i) hbb]
   subst h;rw [Qoe hbb] at hsc;clear hbb;refine Qad rfl ?_;obtain ⟨s,hs⟩:∃ s,5 - q=s+1:=⟨4 - q,by omega⟩;rw [hs,partialIns] at hpi;simp only [<- hsc] at hpi;refine VS [0,1,2,3,9,10,41] ?_;refine VD (fun h=>?_) (fun h=>?_)
   ·
    rw [if_pos (by omega)] at hpi;refine VS [8] ?_;exact VC_ret (VX_ret1 rfl rfl ⟨d1,true,hpi,hs1,hQ1,hH,rfl⟩)
   rw [if_neg (by omega)] at hpi;refine VC_skip ?_;refine VS [0,1,2,3,9,10,45] ?_;refine VD (fun h=>?_) (fun h=>?_)
   ·
    rw [if_pos (by omega)] at hpi;refine VS [8] ?_;exact VC_ret (VX_ret1 rfl rfl ⟨d1,false,hpi,hs1,hQ1,hH,rfl⟩)
   rw [if_neg (by omega)] at hpi;refine VC_skip ?_;refine Vb [0,1,2,3,9,10] [(0,0),(1,0),(2,0),(3,0),(4,0),(5,0),(6,0),(7,0),(8,0),(10,0),(11,0),(12,0),(9,1),(13,1),(14,0),(15,2),(16,0),(17,2)] fun K hK=>?_;(repeat (first | (refine ⟨_,Qax (hH.at 0 rfl) (by omega),?_⟩;(try refine Qs ?_)) | refine Qo ?_ | refine Qp ?_));refine MemK_store ?_;refine Qs ?_;refine Qa0 hH 0 (o:=(i)) rfl (by first | rfl | (simp;done) | (congr 1;omega)) (by first | omega | (simp;omega)) fun w6 hS1=>?_;simp only [List.set_cons_zero] at hS1;(try refine Qs ?_);(repeat (first | (refine ⟨_,Qax (hH.at 0 rfl) (by omega),?_⟩;(try refine Qs ?_)) | refine Qo ?_ | refine Qp ?_));refine MemK_store ?_;refine Qs ?_;refine Qa0 hS1 0 (o:=(i - 1)) rfl (by first | rfl | (simp;done) | (congr 1;omega)) (by first | omega | (simp;omega)) fun w6 hS2=>?_;simp only [List.set_cons_zero] at hS2;(try refine Qs ?_);have hH1:Heap w0 B w6 (arr g cap (swp d1 i (i - 1))::R::G):=hS2;have hs2:(swp d1 i (i - 1)).size=d.size:=by rw [Qdh,hs1]
   have hQ2:=hQ1.swp (i:=i) (j:=i - 1) (by omega) (by omega);clear hS1 hS2 hH hsc;generalize swp d1 i (i - 1)=d2 at *;apply hK;clear hK;refine VS [0,1,2,3,9,10,65] ?_;refine Qde [0,1,2,3,9,10] (fun e w'=>∃ d':Array Int,Is e [(0,sl g cap d),(1,.int .i64 a),(2,.int .i64 b),(3,cmp),(9,.int .i64 i),(10,.int .i64 q)]/\Heap w0 B w' (arr g cap d'::R::G)/\d'.size=d.size/\AllQ Q d'/\d'=if i - a ≥ 2 then shiftDown (ltOf cf) (i - 1) d2 else d2) ?_ ?_
   ·
    refine VD (fun h=>?_) (fun h=>?_)
    ·
     refine VS [0,1,2,3,9,10,11] ?_;refine Qab ?_;refine Qac [0,1,2,3,9,10,11] (fun m e w'=>∃ (j:Nat) (d':Array Int),Is e [(0,sl g cap d),(1,.int .i64 a),(2,.int .i64 b),(3,cmp),(9,.int .i64 i),(10,.int .i64 q),(11,.int .i64 j)]/\Heap w0 B w' (arr g cap d'::R::G)/\d'.size=d.size/\AllQ Q d'/\j < b/\shiftDown (ltOf cf) j d'=shiftDown (ltOf cf) (i - 1) d2/\m=j) (i - 1) ?_ ?_
     ·
      refine Qs ?_;exact ⟨i - 1,d2,by rw [show ((i:Int) - 1)=((i - 1:Nat):Int) by omega];rfl,hH1,hs2,hQ2,by omega,rfl,rfl⟩
     clear hH1 hQ2 hs2;rintro m e w7 ⟨j,d3,rfl,hH,hs3,hQ3,hj,hsd,hm⟩;refine VS [0,1,2,3,9,10,11,69] ?_;refine VD (fun h=>?_) (fun h=>?_)
     ·
      refine VC_skip ?_;refine VB ?_;refine VL [0,1,2,3,9,10,11,84] 10 fun K hK=>?_;(repeat (first | (refine ⟨_,Qax (hH.at 0 rfl) (by omega),?_⟩;(try refine Qs ?_)) | refine Qo ?_ | refine Qp ?_));refine Qbf ?_;refine Qs ?_;refine FnK.to (Cmp.look hC hH (hQ3 _ (by omega)) (hQ3 _ (by omega))) ?_;rintro v w4 ⟨hH2,rfl⟩;(try refine Qs ?_);clear hH;apply hK;clear hK;refine Vi (fun h=>?_) (fun h=>?_)
      ·
       simp at h;rw [Qp0 (by omega) (by simp [ltOf];omega)] at hsd;refine Qad rfl ?_;refine Qaa ?_;refine Qs ?_;exact ⟨d3,rfl,hH2,hs3,hQ3,by rw [if_pos (by omega),hsd]⟩
      simp at h;rw [Quq (by omega) (by simp [ltOf];omega)] at hsd;refine VC_skip ?_;refine Vb [0,1,2,3,9,10,11] [(0,0),(1,0),(2,0),(3,0),(4,0),(5,0),(6,0),(7,0),(8,0),(10,0),(11,0),(12,0),(9,1),(13,1),(14,0),(15,2),(16,0),(17,2)] fun K hK=>?_;(repeat (first | (refine ⟨_,Qax (hH2.at 0 rfl) (by omega),?_⟩;(try refine Qs ?_)) | refine Qo ?_ | refine Qp ?_));refine MemK_store ?_;refine Qs ?_;refine Qa0 hH2 0 (o:=(j)) rfl (by first | rfl | (simp;done) | (congr 1;omega)) (by first | omega | (simp;omega)) fun w6 hS1=>?_;simp only [List.set_cons_zero] at hS1;(try refine Qs ?_);(repeat (first | (refine ⟨_,Qax (hH2.at 0 rfl) (by omega),?_⟩;(try refine Qs ?_)) | refine Qo ?_ | refine Qp ?_));refine MemK_store ?_;refine Qs ?_;refine Qa0 hS1 0 (o:=(j - 1)) rfl (by first | rfl | (simp;done) | (congr 1;omega)) (by first | omega | (simp;omega)) fun w6 hS2=>?_;simp only [List.set_cons_zero] at hS2;(try refine Qs ?_);have hS3:Heap w0 B w6 (arr g cap (swp d3 j (j - 1))::R::G):=hS2;apply hK;clear hK;refine Qah ?_;refine VS [0,1,2,3,9,10,11] ?_;refine Qaa ?_;refine Qs ?_;exact ⟨j - 1,by omega,j - 1,_,by rw [show ((j:Int) - 1)=((j - 1:Nat):Int) by omega];rfl,hS3,by rw [Qdh,hs3],hQ3.swp (by omega) (by omega),by omega,hsd,rfl⟩
     obtain rfl:j=0:=by omega
     rw [shiftDown] at hsd;refine Qad rfl ?_;refine Qaa ?_;refine Qs ?_;exact ⟨d3,rfl,hH,hs3,hQ3,by rw [if_pos (by omega),hsd]⟩
    refine VC_skip ?_;refine Qaa ?_;refine Qs ?_;exact ⟨d2,rfl,hH1,hs2,hQ2,by rw [if_neg (by omega)]⟩
   clear hH1 hs2 hQ2;rintro e w8 ⟨d3,rfl,hH,hs3,hQ3,hd3⟩;rw [<- hd3] at hpi;clear hd3;have hs5:5 - (q+1)=s:=by omega
   have hnext:∀ (d4:Array Int) (w9:World),Heap w0 B w9 (arr g cap d4::R::G)->d4.size=d.size->AllQ Q d4->d4=(if b - i ≥ 2 then shiftUp (ltOf cf) b (i+1) d3 else d3) ->
     ∃ m_1,m_1 < m0/\∃ (i' q':Nat) (d':Array Int),Is [(0,sl g cap d),(1,.int .i64 a),(2,.int .i64 b),(3,cmp),(9,.int .i64 i),(10,.int .i64 (q+1))] [(0,sl g cap d),(1,.int .i64 a),(2,.int .i64 b),(3,cmp),(9,.int .i64 i'),(10,.int .i64 q')]/\Heap w0 B w9 (arr g cap d'::R::G)/\d'.size=d.size/\AllQ Q d'/\a+1<=i'/\i'<=b/\q'<=5/\partialIns (ltOf cf) a b (5 - q') i' d'=partialInsertionSort (ltOf cf) d a b/\m_1=5 - q':=by
    intro d4 w9 h1 h2 h3 h4;refine ⟨5 - (q+1),by omega,i,q+1,d4,rfl,h1,h2,h3,by omega,by omega,by omega,?_,rfl⟩;rw [hs5,h4,hpi]
   refine VS [0,1,2,3,9,10,104] ?_;refine VD (fun h=>?_) (fun h=>?_)
   ·
    refine VS [0,1,2,3,9,10,12] ?_;refine Qab ?_;refine Qac [0,1,2,3,9,10,12] (fun m e w'=>∃ (j:Nat) (d':Array Int),Is e [(0,sl g cap d),(1,.int .i64 a),(2,.int .i64 b),(3,cmp),(9,.int .i64 i),(10,.int .i64 q),(12,.int .i64 j)]/\Heap w0 B w' (arr g cap d'::R::G)/\d'.size=d.size/\AllQ Q d'/\i+1<=j/\j<=b/\shiftUp (ltOf cf) b j d'=shiftUp (ltOf cf) b (i+1) d3/\m=b - j) (b - (i+1)) ?_ ?_
    ·
     refine Qs ?_;exact ⟨i+1,d3,rfl,hH,hs3,hQ3,by omega,by omega,rfl,rfl⟩
    clear hH hs3 hQ3;rintro m e w9 ⟨j,d4,rfl,hH,hs4,hQ4,hj1,hj2,hsu,hm⟩;refine VS [0,1,2,3,9,10,12,109] ?_;refine VD (fun h=>?_) (fun h=>?_)
    ·
     refine VC_skip ?_;refine VB ?_;refine VL [0,1,2,3,9,10,12,124] 10 fun K hK=>?_;(repeat (first | (refine ⟨_,Qax (hH.at 0 rfl) (by omega),?_⟩;(try refine Qs ?_)) | refine Qo ?_ | refine Qp ?_));refine Qbf ?_;refine Qs ?_;refine FnK.to (Cmp.look hC hH (hQ4 _ (by omega)) (hQ4 _ (by omega))) ?_;rintro v w4 ⟨hH2,rfl⟩;(try refine Qs ?_);clear hH;apply hK;clear hK;refine Vi (fun h=>?_) (fun h=>?_)
     ·
      simp at h;rw [Qur (by omega) (by simp [ltOf];omega)] at hsu;refine Qad rfl ?_;refine Qah ?_;refine VS [0,1,2,3,9,10] ?_;refine Qaa ?_;refine Qs ?_;exact hnext _ _ hH2 hs4 hQ4 (by rw [if_pos (by omega),hsu])
     simp at h;rw [QBw (by omega) (by simp [ltOf];omega)] at hsu;refine VC_skip ?_;refine Vb [0,1,2,3,9,10,12] [(0,0),(1,0),(2,0),(3,0),(4,0),(5,0),(6,0),(7,0),(8,0),(10,0),(11,0),(12,0),(9,1),(13,1),(14,0),(15,2),(16,0),(17,2)] fun K hK=>?_;(repeat (first | (refine ⟨_,Qax (hH2.at 0 rfl) (by omega),?_⟩;(try refine Qs ?_)) | refine Qo ?_ | refine Qp ?_));refine MemK_store ?_;refine Qs ?_;refine Qa0 hH2 0 (o:=(j)) rfl (by first | rfl | (simp;done) | (congr 1;omega)) (by first | omega | (simp;omega)) fun w6 hS1=>?_;simp only [List.set_cons_zero] at hS1;(try refine Qs ?_);(repeat (first | (refine ⟨_,Qax (hH2.at 0 rfl) (by omega),?_⟩;(try refine Qs ?_)) | refine Qo ?_ | refine Qp ?_));refine MemK_store ?_;refine Qs ?_;refine Qa0 hS1 0 (o:=(j - 1)) rfl (by first | rfl | (simp;done) | (congr 1;omega)) (by first | omega | (simp;omega)) fun w6 hS2=>?_;simp only [List.set_cons_zero] at hS2;(try refine Qs ?_);have hS3:Heap w0 B w6 (arr g cap (swp d4 j (j - 1))::R::G):=hS2;apply hK;clear hK;refine Qah ?_;refine VS [0,1,2,3,9,10,12] ?_;refine Qaa ?_;refine Qs ?_;exact ⟨b - (j+1),by omega,j+1,_,rfl,hS3,by rw [Qdh,hs4],hQ4.swp (by omega) (by omega),by omega,by omega,hsu,rfl⟩
    rw [Qxr (by omega)] at hsu;refine Qad rfl ?_;refine Qah ?_;refine VS [0,1,2,3,9,10] ?_;refine Qaa ?_;refine Qs ?_;exact hnext _ _ hH hs4 hQ4 (by rw [if_pos (by omega),hsu])
   refine VC_skip ?_;refine Qah ?_;refine VS [0,1,2,3,9,10] ?_;refine Qaa ?_;refine Qs ?_;exact hnext _ _ hH hs3 hQ3 (by rw [if_neg (by omega)])
  refine ⟨fun hg=>?_,fun hg=>?_⟩
  ·
   (repeat (first | (refine ⟨_,Qax (hH.at 0 rfl) (by omega),?_⟩;(try refine Qs ?_)) | refine Qo ?_ | refine Qp ?_));refine Qbf ?_;refine Qs ?_;refine FnK.to (Cmp.look hC hH (hQ1 _ (by omega)) (hQ1 _ (by omega))) ?_;rintro v w4 ⟨hH2,rfl⟩;(try refine Qs ?_);refine hall _ _ ?_ hH2;simp [ltOf,show i < b by omega]
  refine hall _ _ ?_ hH;simp [show ¬ i < b by omega]
 obtain rfl:q=5:=by omega
 refine Qad rfl ?_;refine VS [8] ?_;exact VC_ret (VX_ret1 rfl rfl ⟨d1,false,hpi,hs1,hQ1,hH,rfl⟩)
open Go Go.Eng
open Go.Sort (swp insertionSort heapSort breakPatterns choosePivot Hint reverseRange partialInsertionSort partitionEqual partition pdq bitsLen)
def pdqD (lt:Int->Int->Bool) (d3:Array Int) (a b limit:Nat) (wb wp:Bool) (pivot:Nat):Array Int :=
 if a > 0 && !lt d3[a - 1]! d3[pivot]! then
  match partitionEqual lt d3 a b pivot with
  | (mid,d4)=>if _h:a < mid/\mid<=b then pdq lt d4 mid b limit wb wp else d4
 else
  match partition lt d3 a b pivot with
  | (mid,al,d4) =>
   if _h:a<=mid/\mid < b then
    if mid - a < b - mid then pdq lt (pdq lt d4 a mid limit true true) (mid+1) b limit (decide (mid - a ≥ (b - a) / 8)) al
    else pdq lt (pdq lt d4 (mid+1) b limit true true) a mid limit (decide (b - mid ≥ (b - a) / 8)) al
   else d4
def pdqC (lt:Int->Int->Bool) (d2:Array Int) (a b limit:Nat) (wb wp:Bool) (pivot:Nat) (hint:Hint):Array Int :=
 if (if wb && wp && hint=.increasing then partialInsertionSort lt d2 a b else (d2,false)).2 then (if wb && wp && hint=.increasing then partialInsertionSort lt d2 a b else (d2,false)).1
 else pdqD lt (if wb && wp && hint=.increasing then partialInsertionSort lt d2 a b else (d2,false)).1 a b limit wb wp pivot
def pdqB (lt:Int->Int->Bool) (d1:Array Int) (a b limit:Nat) (wb wp:Bool) (c:Nat×Hint):Array Int :=
 pdqC lt (if c.2=.decreasing then reverseRange d1 a b else d1) a b limit wb wp (if c.2=.decreasing then (b - 1) - (c.1 - a) else c.1) (if c.2=.decreasing then Hint.increasing else c.2)
theorem QMo {lt:Int->Int->Bool}{d:Array Int}{a b limit:Nat}{wb wp:Bool} (h:b - a<=12):pdq lt d a b limit wb wp=insertionSort lt d a b:=by rw [pdq,if_pos h]
theorem QHx {lt:Int->Int->Bool}{d:Array Int}{a b limit:Nat}{wb wp:Bool} (h:¬ b - a<=12) (hl:limit=0):pdq lt d a b limit wb wp=heapSort lt d a b:=by rw [pdq,if_neg h,if_pos hl]
theorem QHy {lt:Int->Int->Bool}{d:Array Int}{a b limit:Nat}{wb wp:Bool} (h:¬ b - a<=12) (hl:¬ limit=0) :
  pdq lt d a b limit wb wp=pdqB lt (if !wb then breakPatterns d a b else d) a b (if !wb then limit - 1 else limit) wb wp (choosePivot lt (if !wb then breakPatterns d a b else d) a b):=by
 conv=>lhs;rw [pdq]
 rw [if_neg h,if_neg hl];rfl
set_option maxHeartbeats 4000000 in
theorem Qus {cmp:Value}{cf:Int->Int->Int}{Q:Int->Prop}{R:Res} (hC:Cmp cmp cf Q R) (g cap:Nat):∀ (n a b limit:Nat) (d:Array Int) (hn:b - a < n) (hab:a<=b) (hb:b<=d.size) (hl:limit<=100) (hd:d.size<=100000000000) (hQ:AllQ Q d) (w0 w:World) (B:List Nat) (G:List Res)
  (hL:Heap w0 B w (arr g cap d::R::G)),Does Tryz.prog 158 #[sl g cap d,.int .i64 a,.int .i64 b,.int .i64 limit,cmp] w
   fun v w'=>∃ d',d'=pdq (ltOf cf) d a b limit true true/\d'.size=d.size/\AllQ Q d'/\Heap w0 B w' (arr g cap d'::R::G)/\v=.tuple #[]:=by
 intro n
 induction n with
 | zero=>intro a b limit d hn;omega
 | succ n ih =>
 intro a b limit d hn hab hb hl hd hQ w0 w B G hL;refine En [sl g cap d,.int .i64 a,.int .i64 b,.int .i64 limit,cmp] 148 Tryz.func158 ?_;refine VQi [0,1,2,3,4,10] fun K hK=>?_;apply hK;clear hK;refine VQi [0,1,2,3,4,10,11] fun K hK=>?_;apply hK;clear hK;refine Qab ?_;refine Qac [0,1,2,3,4,10,11] (fun m e w'=>∃ (x y l:Nat) (wb wp:Bool) (d':Array Int),Is e [(0,sl g cap d),(1,.int .i64 x),(2,.int .i64 y),(3,.int .i64 l),(4,cmp),(10,.bool wb),(11,.bool wp)]/\Heap w0 B w' (arr g cap d'::R::G)/\d'.size=d.size/\AllQ Q d'/\a<=x/\x<=y/\y<=b/\l<=100/\pdq (ltOf cf) d' x y l wb wp=pdq (ltOf cf) d a b limit true true/\m=y - x) (b - a) ?_ ?_
 ·
  refine Qi ?_;exact ⟨a,b,limit,true,true,d,rfl,hL,rfl,hQ,by omega,by omega,by omega,by omega,rfl,rfl⟩
 rintro m e w1 ⟨x,y,l,wb,wp,d1,rfl,hH,hs1,hQ1,hx,hxy,hy,hl1,hp,hm⟩;refine Qab ?_;refine VQi [0,1,2,3,4,10,11,12] fun K hK=>?_;(repeat refine Qo ?_);apply hK;clear hK;rw [show ((y:Int) - x)=((y - x:Nat):Int) by omega];refine VQi [0,1,2,3,4,10,11,12,25] fun K hK=>?_;apply hK;clear hK;refine VD (fun h=>?_) (fun h=>?_)
 ·
  rw [QMo (by omega)] at hp;refine VQi [] fun K hK=>?_;have hc:=Qk1 hC g cap x y d1 (by omega) (by omega) (by omega) hQ1 w0 w1 B G hH;rw [sl,hs1] at hc;refine MemK_call Tryz.call177 ?_;refine Qi ?_;refine CallK.mk hc ?_;rintro v w2 ⟨d2,hd2,hs2,hQ2,hH2,rfl⟩;apply hK;clear hK;refine VC_ret (Qgq rfl ?_);exact ⟨d2,by rw [hd2,hp],by omega,hQ2,hH2,rfl⟩
 have h12:¬ y - x<=12:=by omega
 refine VC_skip ?_;refine VQi [0,1,2,3,4,10,11,12,32] fun K hK=>?_;apply hK;clear hK;refine VD (fun h=>?_) (fun h=>?_)
 ·
  rw [QHx (by omega) (by omega)] at hp;refine VQi [] fun K hK=>?_;have hc:=Qsh hC g cap x y d1 (by omega) (by omega) (by omega) hQ1 w0 w1 B G hH;rw [sl,hs1] at hc;refine MemK_call Tryz.call178 ?_;refine Qi ?_;refine CallK.mk hc ?_;rintro v w2 ⟨d2,hd2,hs2,hQ2,hH2,rfl⟩;apply hK;clear hK;refine VC_ret (Qgq rfl ?_);exact ⟨d2,by rw [hd2,hp],by omega,hQ2,hH2,rfl⟩
 have hl0:¬ l=0:=by omega
 rw [QHy h12 hl0] at hp;clear h;refine VC_skip ?_;refine VQi [0,1,2,3,4,10,11,12,39] fun K hK=>?_;apply hK;clear hK;refine Qde [0,1,2,3,4,10,11,12] (fun e w'=>∃ (l':Nat) (d':Array Int),Is e [(0,sl g cap d),(1,.int .i64 x),(2,.int .i64 y),(3,.int .i64 l'),(4,cmp),(10,.bool wb),(11,.bool wp),(12,.int .i64 (y - x:Nat))]/\Heap w0 B w' (arr g cap d'::R::G)/\d'.size=d.size/\AllQ Q d'/\l'<=100/\pdqB (ltOf cf) d' x y l' wb wp (choosePivot (ltOf cf) d' x y)=pdq (ltOf cf) d a b limit true true) ?_ ?_
 ·
  refine Qaf rfl rfl (fun h=>?_) (fun h=>?_)
  ·
   simp at h;subst h;refine VQi [0,1,2,3,4,10,11,12] fun K hK=>?_;have hc:=Qk3 (cmp:=cmp) (R:=R) (Q:=Q) g cap x y d1 (by omega) (by omega) (by omega) hQ1 w0 w1 B G hH;rw [sl,hs1] at hc;refine MemK_call Tryz.call179 ?_;refine Qi ?_;refine CallK.mk hc ?_;rintro v w2 ⟨d2,hd2,hs2,hQ2,hH2,rfl⟩;apply hK;clear hK;refine VQi [0,1,2,3,4,10,11,12] fun K hK=>?_;(repeat refine Qo ?_);apply hK;clear hK;refine Qaa ?_;refine Qi ?_;refine ⟨l - 1,d2,by rw [show ((l:Int) - 1)=((l - 1:Nat):Int) by omega];rfl,hH2,by omega,hQ2,by omega,?_⟩;rw [<- hp,hd2];rfl
  simp at h;subst h;refine VC_skip ?_;refine Qaa ?_;refine Qi ?_;exact ⟨l,d1,rfl,hH,hs1,hQ1,hl1,hp⟩
 clear hp hH hQ1 hs1 hl0 hl1;rintro e w2 ⟨l1,d2,rfl,hH,hs1,hQ1,hl1,hp⟩;refine VQi [0,1,2,3,4,10,11,12,13,14] fun K hK=>?_;have hc:=Qnf hC g cap x y d2 (by omega) (by omega) (by omega) hQ1 w0 w2 B G hH;rw [sl,hs1] at hc;refine MemK_call Tryz.call180 ?_;refine Qi ?_;refine CallK.mk hc ?_;rintro v w3 ⟨p,hint,hch,hpr,hH3,rfl⟩;clear hH hc;rw [<- hch,pdqB] at hp;clear hch
 dsimp only at hp
 apply hK;clear hK;simp only [List.getElem_toArray,List.getElem_cons_zero,List.getElem_cons_succ];refine VQi [0,1,2,3,4,10,11,12,13,14,56] fun K hK=>?_;apply hK;clear hK;refine Qde [0,1,2,3,4,10,11,12,13,14] (fun e w'=>∃ (p':Nat) (h':Hint) (d':Array Int),Is e [(0,sl g cap d),(1,.int .i64 x),(2,.int .i64 y),(3,.int .i64 l1),(4,cmp),(10,.bool wb),(11,.bool wp),(12,.int .i64 (y - x:Nat)),(13,.int .i64 p'),(14,.int .i64 (QEh h'))]/\Heap w0 B w' (arr g cap d'::R::G)/\d'.size=d.size/\AllQ Q d'/\(x<=p'/\p' < y)/\pdqC (ltOf cf) d' x y l1 wb wp p' h'=pdq (ltOf cf) d a b limit true true) ?_ ?_
 ·
  refine Qaf rfl rfl (fun h=>?_) (fun h=>?_)
  ·
   have hh:hint=.decreasing:=by cases hint <;> simp [QEh] at h ⊢
   subst hh;simp only [if_true] at hp;refine VQi [0,1,2,3,4,10,11,12,13] fun K hK=>?_;have hc:=Ql8 (cmp:=cmp) (R:=R) (Q:=Q) g cap x y d2 (by omega) (by omega) (by omega) hQ1 w0 w3 B G hH3;rw [sl,hs1] at hc;refine MemK_call Tryz.call181 ?_;refine Qi ?_;refine CallK.mk hc ?_;rintro v w4 ⟨d3,hd3,hs3,hQ3,hH4,rfl⟩;apply hK;clear hK;refine VQi [0,1,2,3,4,10,11,12,13] fun K hK=>?_;(repeat refine Qo ?_);apply hK;clear hK;refine VQi [0,1,2,3,4,10,11,12,13,14] fun K hK=>?_;apply hK;clear hK;refine Qaa ?_;refine Qi ?_;exact ⟨y - 1 - (p - x),.increasing,d3,by rw [show ((y:Int) - 1 - (p - x))=((y - 1 - (p - x):Nat):Int) by omega];rfl,hH4,by omega,hQ3,by omega,by rw [hd3];exact hp⟩
  have hh:hint≠.decreasing:=by rintro rfl;simp [QEh] at h
  simp only [if_neg hh] at hp;refine VC_skip ?_;refine Qaa ?_;refine Qi ?_;exact ⟨p,hint,d2,rfl,hH3,hs1,hQ1,hpr,hp⟩
 clear hp hH3 hQ1 hs1 hpr;rintro e w4 ⟨p,hint,d2,rfl,hH,hs1,hQ1,hpr,hp⟩;refine VQi [0,1,2,3,4,10,11,12,13,75] fun K hK=>?_
 suffices hall:∀ bb:Bool,bb=(wb && wp && decide (hint=.increasing))->K [(0,sl g cap d),(1,.int .i64 x),(2,.int .i64 y),(3,.int .i64 l1),(4,cmp),(10,.bool wb),(11,.bool wp),(12,.int .i64 (y - x:Nat)),(13,.int .i64 p),(75,.bool bb)] w4 by
  have hd:decide (QEh hint=1)=decide (hint=.increasing):=by cases hint <;> rfl
  rw [hd]
  revert hall
  clear hK hp;cases wb <;> cases wp <;> intro hall <;> simpa [gB] using hall _ rfl
 intro bb hbb;apply hK;clear hK;rw [pdqC,show (wb && wp && decide (hint=.increasing))=bb from hbb.symm] at hp;clear hbb;refine Qde [0,1,2,3,4,10,11,12,13] (fun e w'=>∃ (d':Array Int),Is e [(0,sl g cap d),(1,.int .i64 x),(2,.int .i64 y),(3,.int .i64 l1),(4,cmp),(10,.bool wb),(11,.bool wp),(12,.int .i64 (y - x:Nat)),(13,.int .i64 p)]/\Heap w0 B w' (arr g cap d'::R::G)/\d'.size=d.size/\AllQ Q d'/\pdqD (ltOf cf) d' x y l1 wb wp p=pdq (ltOf cf) d a b limit true true) ?_ ?_
 ·
  refine Qaf rfl rfl (fun h=>?_) (fun h=>?_)
  ·
   subst h;simp only [if_true] at hp;refine VQi [0,1,2,3,4,10,11,12,13,80] fun K hK=>?_;have hc:=Qhl hC g cap x y d2 (by omega) (by omega) (by omega) hQ1 w0 w4 B G hH;rw [sl,hs1] at hc;refine MemK_call Tryz.call182 ?_;refine Qi ?_;refine CallK.mk hc ?_;rintro v w5 ⟨d3,ok,hd3,hs3,hQ3,hH5,rfl⟩;rw [<- hd3] at hp
   dsimp only at hp
   apply hK;clear hK;refine Qaf rfl rfl (fun h=>?_) (fun h=>?_)
   ·
    subst h;rw [if_pos rfl] at hp;exact VC_ret (Qgq rfl ⟨d3,hp,by omega,hQ3,hH5,rfl⟩)
   subst h;rw [if_neg (by simp)] at hp;refine VC_skip ?_;refine Qaa ?_;refine Qi ?_;exact ⟨d3,rfl,hH5,by omega,hQ3,hp⟩
  subst h;simp only [Bool.false_eq_true,if_false] at hp;refine VC_skip ?_;refine Qaa ?_;refine Qi ?_;exact ⟨d2,rfl,hH,hs1,hQ1,hp⟩
 clear hp hH hQ1 hs1;rintro e w5 ⟨d3,rfl,hH,hs1,hQ1,hp⟩;rw [pdqD] at hp;(repeat refine Qar ?_);refine Qjn [0,1,2,3,4,10,11,12,13,97] 13 (by kernel_rfl) (by kernel_rfl) (by kernel_rfl) rfl fun K hK=>?_;refine Qi ?_
 have hall:∀ bb:Bool,∀ w4,bb=(decide (x > 0) && !ltOf cf d3[x - 1]! d3[p]!)->Heap w0 B w4 (arr g cap d3::R::G)->K [(0,sl g cap d),(1,.int .i64 x),(2,.int .i64 y),(3,.int .i64 l1),(4,cmp),(10,.bool wb),(11,.bool wp),(12,.int .i64 (y - x:Nat)),(13,.int .i64 p),(97,.bool bb)] w4:=by
  clear hH;intro bb w4 hbb hH;rw [<- hbb] at hp;apply hK;clear hK;refine Qaf rfl rfl (fun h=>?_) (fun h=>?_)
  ·
   subst h;rw [if_pos rfl] at hp;refine VQi [0,2,3,4,10,11,15] fun K hK=>?_;have hc:=Qkg hC g cap x y p d3 (by omega) (by omega) hpr (by omega) hQ1 w0 w4 B G hH;rw [sl,hs1] at hc;refine MemK_call Tryz.call183 ?_;refine Qi ?_;refine CallK.mk hc ?_;rintro v w5 ⟨mid,d4,hd4,hmid,hs4,hQ4,hH5,rfl⟩;rw [<- hd4] at hp
   dsimp only at hp
   rw [dif_pos hmid] at hp;apply hK;clear hK;refine VQi [0,1,2,3,4,10,11] fun K hK=>?_;apply hK;clear hK;refine Qad rfl ?_;refine Qaa ?_;refine Qi ?_;exact ⟨y - mid,by omega,mid,y,l1,wb,wp,d4,rfl,hH5,by omega,hQ4,by omega,by omega,by omega,hl1,hp,rfl⟩
  subst h;rw [if_neg (by simp)] at hp;refine VC_skip ?_;refine VQi [0,1,2,3,4,12,16,17] fun K hK=>?_;have hc:=Qpz hC g cap x y p d3 (by omega) (by omega) hpr (by omega) hQ1 w0 w4 B G hH;rw [sl,hs1] at hc;refine MemK_call Tryz.call184 ?_;refine Qi ?_;refine CallK.mk hc ?_;rintro v w5 ⟨mid,al,d4,hd4,hmid,hs4,hQ4,hH5,rfl⟩;rw [<- hd4] at hp
  dsimp only at hp
  rw [dif_pos hmid] at hp;apply hK;clear hK;simp only [List.getElem_toArray,List.getElem_cons_zero,List.getElem_cons_succ];refine VQi [0,1,2,3,4,11,12,16] fun K hK=>?_;apply hK;clear hK;refine VQi [0,1,2,3,4,11,12,16,18,19] fun K hK=>?_;(repeat refine Qo ?_);apply hK;clear hK;rw [show ((mid:Int) - x)=((mid - x:Nat):Int) by omega,show ((y:Int) - mid)=((y - mid:Nat):Int) by omega];refine VQi [0,1,2,3,4,11,16,18,19,20] fun K hK=>?_;(repeat refine Qo ?_);apply hK;clear hK;refine VQi [0,1,2,3,4,11,16,18,19,20,125] fun K hK=>?_;apply hK;clear hK;refine VD (fun h=>?_) (fun h=>?_)
  ·
   rw [if_pos (by omega)] at hp;refine VQi [0,1,2,3,4,10,11,16] fun K hK=>?_;apply hK;clear hK;refine VQi [0,2,3,4,10,11,16] fun K hK=>?_;have hc:=ih x mid l1 d4 (by omega) (by omega) (by omega) hl1 (by omega) hQ4 w0 w5 B G hH5;rw [sl,show d4.size=d.size by omega] at hc;refine MemK_call Tryz.call158 ?_;refine Qi ?_;refine CallK.mk hc ?_;rintro v w6 ⟨d5,hd5,hs5,hQ5,hH6,rfl⟩;rw [<- hd5] at hp;apply hK;clear hK;refine VQi [0,1,2,3,4,10,11] fun K hK=>?_;(repeat refine Qo ?_);apply hK;clear hK;refine Qah ?_;refine Qaa ?_;refine Qi ?_;refine ⟨y - (mid+1),by omega,mid+1,y,l1,decide (mid - x ≥ (y - x) / 8),al,d5,?_,hH6,by omega,hQ5,by omega,by omega,by omega,hl1,hp,rfl⟩;rw [show decide (mid - x ≥ (y - x) / 8)=decide (((y - x:Nat):Int) / 8<=((mid - x:Nat):Int)) from decide_eq_decide.2 (by omega)];rfl
  rw [if_neg (by omega)] at hp;refine VQi [0,1,2,3,4,10,11,16] fun K hK=>?_;apply hK;clear hK;refine VQi [0,1,3,4,10,11,16] fun K hK=>?_;refine And.intro (I64.mk (by omega) (by omega)) ?_;have hc:=ih (mid+1) y l1 d4 (by omega) (by omega) (by omega) hl1 (by omega) hQ4 w0 w5 B G hH5;rw [sl,show d4.size=d.size by omega,show ((mid+1:Nat):Int)=(mid:Int)+1 by omega] at hc;refine MemK_call Tryz.call158 ?_;refine Qi ?_;refine CallK.mk hc ?_;rintro v w6 ⟨d5,hd5,hs5,hQ5,hH6,rfl⟩;rw [<- hd5] at hp;apply hK;clear hK;refine VQi [0,1,2,3,4,10,11] fun K hK=>?_;apply hK;clear hK;refine Qah ?_;refine Qaa ?_;refine Qi ?_;refine ⟨mid - x,by omega,x,mid,l1,decide (y - mid ≥ (y - x) / 8),al,d5,?_,hH6,by omega,hQ5,by omega,by omega,by omega,hl1,hp,rfl⟩;rw [show decide (y - mid ≥ (y - x) / 8)=decide (((y - x:Nat):Int) / 8<=((y - mid:Nat):Int)) from decide_eq_decide.2 (by omega)];rfl
 refine ⟨fun hg=>?_,fun hg=>?_⟩
 ·
  (repeat (first | (refine ⟨_,Qax (hH.at 0 rfl) (by omega),?_⟩;(try refine Qi ?_)) | refine Qo ?_ | refine ⟨⟨by omega,by omega⟩,?_⟩));refine Qbf ?_;refine Qi ?_;refine FnK.to (Cmp.look hC hH (hQ1 _ (by omega)) (hQ1 _ (by omega))) ?_;rintro v w4 ⟨hH2,rfl⟩;(try refine Qi ?_);refine hall _ _ ?_ hH2;simp [ltOf,show 0 < x by omega]
 refine hall _ _ ?_ hH;simp [show ¬ 0 < x by omega]
open Go Go.Eng
open Go.Sort (pdq bitsLen SWO)
def QJg (lt:Int->Int->Bool) (l l':List Int):Prop:=l'.Perm l/\l'.Pairwise fun x y=>lt y x=false
theorem Qff {d:Array Int}{i:Nat} (h:i < d.size):d[i]! = d.toList[i]'(by simpa using h):=by
 simp [getElem!_def,h]
theorem QMp {lt:Int->Int->Bool} (hS:SWO lt) (d:Array Int) (limit:Nat):QJg lt d.toList (pdq lt d 0 d.size limit true true).toList:=by
 obtain ⟨⟨h1,h2,h3⟩,h4⟩:=Sort.pdq_sorts lt hS d 0 d.size limit true true (by omega) (by omega) (.inl rfl);generalize pdq lt d 0 d.size limit true true=d' at *;refine ⟨?_,?_⟩
 ·
  have e1:d'.extract 0 d.size=d':=by rw [<- h1];simp
  have e2:d.extract 0 d.size=d:=by simp
  rw [e1,e2] at h3;exact h3
 rw [List.pairwise_iff_getElem];intro i j hi hj hij;have:=h4 i j (by omega) hij (by simpa [h1] using hj)
 rwa [Qff (by simpa using hj),Qff (by simpa using hi)] at this
theorem Qk4 {cmp:Value}{cf:Int->Int->Int}{Q:Int->Prop}{R:Res} (hC:Cmp cmp cf Q R) (hS:SWO (ltOf cf)) (g cap:Nat) (d:Array Int) (hd:d.size<=100000000000) (hQ:AllQ Q d) (w0 w:World) (B:List Nat) (G:List Res)
  (hL:Heap w0 B w (arr g cap d::R::G)):Does Tryz.prog 127 #[sl g cap d,cmp] w
   fun v w'=>∃ d',QJg (ltOf cf) d.toList d'.toList/\d'.size=d.size/\AllQ Q d'/\Heap w0 B w' (arr g cap d'::R::G)/\v=.tuple #[]:=by
 refine En [sl g cap d,cmp] 14 Tryz.func127 ?_;refine VS [0,1,4] ?_;refine VQ [] fun K hK=>?_;rw [Int.emod_eq_of_lt (by omega) (by omega)];refine MemK_call Tryz.call159 ?_;refine Qs ?_;refine CallK.mk (Qqw d.size (by omega) w) ?_;rintro v w2 ⟨rfl,rfl⟩;have hb40:bitsLen d.size<=40:=Qgk (by omega);refine MemK_call Tryz.call158 ?_;refine Qs ?_;refine CallK.mk (Qus hC g cap (d.size+1) 0 d.size (bitsLen d.size) d (by omega) (by omega) (by omega) (by omega) hd hQ w0 w2 B G hL) ?_;rintro v w3 ⟨d',hd',hs,hQ',hH,rfl⟩;apply hK;clear hK;exact Qqh (Qgq rfl ⟨d',by rw [hd'];exact QMp hS d _,hs,hQ',hH,rfl⟩)
open Go Go.Eng
abbrev Qxs (a:Addr) (n cap:Nat) (by_:Nat):Value:=.agg #[.slice (some a) n cap,.int .i64 by_]
theorem Qnk (rk:List Int) (a:Addr) (cap by_ i:Nat) (hn:rk.length<=1000000000) (hby:by_<=10000000000) (hi:i < rk.length) (w:World) (hr:RS w (some a) rk.length 1 (Qap rk)) :
  Does Tryz.prog 126 #[Qxs a rk.length cap by_,.int .i64 i] w fun v w'=>Heap w [] w' []/\v=.tuple #[.int .i64 (rk.getD i 0),.int .i64 (rk.getD ((i+by_) % rk.length) 0)]:=by
 refine En [Qxs a rk.length cap by_,.int .i64 i] 23 Tryz.func126 ?_;refine VQ [1,2] fun K hK=>?_;refine Qce ?_;refine Qs ?_;have hH:=(Heap.start w).box 166 [.slice (some a) rk.length cap,.int .i64 by_];generalize w.alloc (Obj.cells [Value.slice (some a) rk.length cap,.int .i64 by_].toArray 166)=w1 at *;generalize w.heap.size=g at *;have hr1:=hH.rs' hr;apply hK;clear hK;refine Vq [4,5] fun K hK=>?_;(repeat first | refine Qo ?_ | refine Qp ?_ | (refine Gc hH ?_;(try refine Qs ?_)));refine ⟨_,Qhc hr1 hi,?_⟩;(repeat first | refine Qo ?_ | refine Qp ?_ | (refine Gc hH ?_;(try refine Qs ?_)));have hm:(i+by_) % rk.length < rk.length:=Nat.mod_lt _ (by omega);rw [show ((i:Int)+by_) % rk.length=(((i+by_) % rk.length:Nat):Int) by push_cast;rfl];generalize (i+by_) % rk.length=j at *;refine And.intro (by omega) ⟨_,Qhc hr1 (i:=j) hm,?_⟩;apply hK;clear hK;refine VC_ret (Qat rfl rfl rfl ?_);exact ⟨hH.sub (by simp),rfl⟩
def keyA (rk:List Int) (x:Int):Int:=rk.getD x.toNat 0
def keyB (rk:List Int) (by_:Nat) (x:Int):Int:=rk.getD ((x.toNat+by_) % rk.length) 0
def cmpR (rk:List Int) (by_:Nat) (x y:Int):Int :=
 if keyA rk x≠keyA rk y then keyA rk x - keyA rk y else if keyB rk by_ x≠keyB rk by_ y then keyB rk by_ x - keyB rk by_ y else x - y
def inR (rk:List Int) (x:Int):Prop:=0<=x/\x < rk.length
def Qk5 (rk:List Int):Prop:=∀ r∈rk,0<=r/\r<=1000000000
theorem Qi7 {rk:List Int} (h:Qk5 rk) (i:Nat):0<=rk.getD i 0/\rk.getD i 0<=1000000000:=by
 by_cases hi:i < rk.length
 ·
  rw [List.getD_eq_getElem?_getD,List.getElem?_eq_getElem hi];exact h _ (List.getElem_mem hi)
 rw [List.getD_eq_getElem?_getD,List.getElem?_eq_none (by omega)];simp
theorem QHz {rk:List Int} (h:Qk5 rk) (hn:rk.length<=1000000000) (by_:Nat) (x y:Int) (hx:inR rk x) (hy:inR rk y):-1000000000<=cmpR rk by_ x y/\cmpR rk by_ x y<=1000000000:=by
 obtain ⟨h1,h2⟩:=hx;obtain ⟨h3,h4⟩:=hy;unfold cmpR keyA keyB;have a1:=Qi7 h x.toNat;have a2:=Qi7 h y.toNat;have a3:=Qi7 h ((x.toNat+by_) % rk.length);have a4:=Qi7 h ((y.toNat+by_) % rk.length);split
 ·
  omega
 split <;> omega
theorem Qut (rk:List Int) (hrk:Qk5 rk) (a:Addr) (cap by_ i j:Nat) (hn:rk.length<=1000000000) (hby:by_<=10000000000) (hi:i < rk.length) (hj:j < rk.length) (w:World) (hr:RS w (some a) rk.length 1 (Qap rk)) :
  Does Tryz.prog 128 #[Qxs a rk.length cap by_,.int .i64 i,.int .i64 j] w fun v w'=>Heap w [] w' []/\v=.int .i64 (cmpR rk by_ i j):=by
 have a1:=Qi7 hrk i;have a2:=Qi7 hrk j;have a3:=Qi7 hrk ((i+by_) % rk.length);have a4:=Qi7 hrk ((j+by_) % rk.length)
 have hcm:cmpR rk by_ i j=if rk.getD i 0≠rk.getD j 0 then rk.getD i 0 - rk.getD j 0 else if rk.getD ((i+by_) % rk.length) 0≠rk.getD ((j+by_) % rk.length) 0 then rk.getD ((i+by_) % rk.length) 0 - rk.getD ((j+by_) % rk.length) 0 else (i:Int) - j:=by
  simp only [cmpR,keyA,keyB,Int.toNat_natCast];rfl
 have hk1:=fun w hr=>Qnk rk a cap by_ i hn hby hi w hr;have hk2:=fun w hr=>Qnk rk a cap by_ j hn hby hj w hr;generalize rk.getD i 0=ka at *;generalize rk.getD j 0=kb at *;generalize rk.getD ((i+by_) % rk.length) 0=kc at *;generalize rk.getD ((j+by_) % rk.length) 0=kd at *;rw [hcm];clear hcm;refine En [Qxs a rk.length cap by_,.int .i64 i,.int .i64 j] 40 Tryz.func128 ?_;refine VQ [1,2,3] fun K hK=>?_;refine Qce ?_;refine Qs ?_;have hH:=(Heap.start w).box 166 [.slice (some a) rk.length cap,.int .i64 by_];generalize w.alloc (Obj.cells [Value.slice (some a) rk.length cap,.int .i64 by_].toArray 166)=w1 at *;generalize w.heap.size=g at *;have hr1:=hH.rs' hr;apply hK;clear hK;refine VQ [1,2,3,7,8] fun K hK=>?_;refine ⟨[.slice (some a) rk.length cap,.int .i64 by_],⟨rfl,blk_reads (hH.at 0 rfl)⟩,?_⟩;refine MemK_call Tryz.call126 ?_;refine Qs ?_;refine CallK.mk (hk1 w1 hr1) ?_;rintro v w2 ⟨hH2,rfl⟩;have hH3:=hH.call0 hH2;simp only [List.nil_append] at hH3;have hr2:=hH3.rs' hr;apply hK;clear hK;refine VQ [1,2,7,8,9,10] fun K hK=>?_;refine ⟨[.slice (some a) rk.length cap,.int .i64 by_],⟨rfl,blk_reads (hH3.at 0 rfl)⟩,?_⟩;refine MemK_call Tryz.call126 ?_;refine Qs ?_;refine CallK.mk (hk2 w2 hr2) ?_;rintro v w3 ⟨hH4,rfl⟩;have hH5:=hH3.call0 hH4;simp only [List.nil_append] at hH5;have hH6:Heap w [] w3 []:=hH5.sub (by simp);apply hK;clear hK;refine VB ?_
 try simp only [List.getElem_toArray,List.getElem_cons_zero,List.getElem_cons_succ]
 refine VS [1,2,7,8,9,10,23] ?_;refine VD (fun h=>?_) (fun h=>?_)
 ·
  refine VS [6] ?_;exact VC_ret (VX_ret1 rfl rfl ⟨hH6,by rw [if_pos h]⟩)
 rw [if_neg h];refine VS [1,2,8,10,30] ?_;refine VD (fun h=>?_) (fun h=>?_)
 ·
  refine VS [6] ?_;exact VC_ret (VX_ret1 rfl rfl ⟨hH6,by rw [if_pos h]⟩)
 rw [if_neg h];refine VC_skip ?_;refine Qah ?_;refine VS [6] ?_;exact VC_ret (VX_ret1 rfl rfl ⟨hH6,rfl⟩)
theorem Qzs (rk:List Int) (hrk:Qk5 rk) (gr:Nat) (cap by_:Nat) (hn:rk.length<=1000000000) (hby:by_<=10000000000) :
  Cmp (.func (.func 128) #[Qxs ⟨gr,0,none⟩ rk.length cap by_] #[]) (cmpR rk by_) (inR rk) (Res.row 3 1 (some ⟨gr,0,none⟩) rk.length cap (Qap rk)) where
 i64:=fun x y hx hy=>by have:=QHz hrk hn by_ x y hx hy;omega
 run:=fun w x y hR hx hy=>by
  obtain ⟨i,rfl⟩:∃ i:Nat,x=i:=⟨x.toNat,by have:=hx.1;omega⟩;obtain ⟨j,rfl⟩:∃ j:Nat,y=j:=⟨y.toNat,by have:=hy.1;omega⟩;exact FnK.mk Tryz.call128 (Qut rk hrk ⟨gr,0,none⟩ cap by_ i j hn hby (by have:=hx.2;omega) (by have:=hy.2;omega) w (Qao hR)) fun v w' h=>h
theorem Qkh (rk:List Int) (by_:Nat) (x y:Int):cmpR rk by_ x y < 0 ↔ keyA rk x < keyA rk y∨(keyA rk x=keyA rk y/\(keyB rk by_ x < keyB rk by_ y∨(keyB rk by_ x=keyB rk by_ y/\x < y))):=by
 unfold cmpR;split
 ·
  omega
 split <;> omega
theorem Qzt (rk:List Int) (by_:Nat):Sort.SWO (ltOf (cmpR rk by_)):=by
 constructor
 ·
  intro x;simp [ltOf,cmpR]
 ·
  intro x y z h1 h2;have h3:=Qkh rk by_ x y;have h4:=Qkh rk by_ y z;have h5:=Qkh rk by_ x z;simp only [ltOf] at *;have h1:=of_decide_eq_true h1;have h2:=of_decide_eq_true h2;exact decide_eq_true (by omega)
 intro x y z h1 h2;have h3:=Qkh rk by_ x y;have h4:=Qkh rk by_ y z;have h5:=Qkh rk by_ x z;simp only [ltOf] at *;have h1:=of_decide_eq_false h1;have h2:=of_decide_eq_false h2;exact decide_eq_false (by omega)
def leB:List UInt8->List UInt8->Bool
 | [],_=>true
 | _::_,[]=>false
 | a::l,b::m=>if a=b then leB l m else decide (a.toNat < b.toNat)
theorem Qh8:∀ l,leB l l=true
 | []=>rfl
 | a::l=>by simp [leB,Qh8 l]
theorem Quu:∀ l m,leB l m=true∨leB m l=true
 | [],m=>.inl rfl
 | a::l,[]=>.inr rfl
 | a::l,b::m=>by
  simp only [leB];by_cases h:a=b
  ·
   subst h;simpa using Quu l m
  have:a.toNat≠b.toNat:=fun h'=>h (UInt8.toNat_inj.1 h');simp [h,Ne.symm h];omega
theorem Qk6:∀ l m,leB l m=true->leB m l=true->l=m
 | [],[],_,_=>rfl
 | [],_::_,_,h=>by simp [leB] at h
 | _::_,[],h,_=>by simp [leB] at h
 | a::l,b::m,h1,h2=>by
  simp only [leB] at h1 h2;by_cases h:a=b
  ·
   subst h;simp at h1 h2;rw [Qk6 l m h1 h2]
  simp [h,Ne.symm h] at h1 h2;omega
theorem Quv:∀ l m k,leB l m=true->leB m k=true->leB l k=true
 | [],_,_,_,_=>rfl
 | _::_,[],_,h,_=>by simp [leB] at h
 | _::_,_::_,[],_,h=>by simp [leB] at h
 | a::l,b::m,c::k,h1,h2=>by
  simp only [leB] at h1 h2 ⊢;by_cases hab:a=b
  ·
   subst hab;by_cases hac:a=c
   ·
    subst hac;simp at h1 h2 ⊢;exact Quv l m k h1 h2
   simp [hac] at h1 h2 ⊢;exact h2
  by_cases hbc:b=c
  ·
   subst hbc;simp [hab] at h1 h2 ⊢;exact h1
  simp [hab,hbc] at h1 h2;have:a≠c:=fun h=>by rw [h] at h1;omega
  simp [this];omega
theorem Qzu:∀ (l m:List UInt8) (c:UInt8),l.length=m.length->leB (l++[c]) (m++[c])=true->leB l m=true
 | [],_,_,_,_=>rfl
 | _::_,[],_,h,_=>by simp at h
 | a::l,b::m,c,hl,h=>by
  simp only [List.cons_append,leB] at h ⊢;by_cases hab:a=b
  ·
   subst hab;simp at h ⊢;exact Qzu l m c (by simpa using hl) h
  simp [hab] at h ⊢;exact h
def rot (s:List UInt8) (i:Nat):List UInt8:=s.drop i++s.take i
theorem QBx (s:List UInt8) (i:Nat):(rot s i).length=s.length:=by simp [rot];omega
theorem QH0 (s:List UInt8):rot s 0=s:=by simp [rot]
def rotl:List UInt8->List UInt8
 | []=>[]
 | a::l=>l++[a]
theorem Qsk (s:List UInt8) (i:Nat) (h:i < s.length):rot s (i+1)=rotl (rot s i):=by
 have e:s.drop i=s[i]::s.drop (i+1):=List.drop_eq_getElem_cons h;rw [rot,rot,e,List.cons_append,rotl,List.append_assoc]
 congr 1
 rw [List.take_add_one,List.getElem?_eq_getElem h];rfl
theorem QH1 (s:List UInt8):rot s s.length=s:=by simp [rot]
theorem Qzv (s:List UInt8) (i:Nat) (h:i < s.length):(rot s i).head? = some (s.getD i 0):=by
 rw [rot,List.drop_eq_getElem_cons h,List.getD_eq_getElem?_getD,List.getElem?_eq_getElem h];rfl
structure Ordered (s:List UInt8) (σ:List Nat):Prop where
 perm:σ.Perm (List.range s.length)
 sorted:σ.Pairwise fun i j=>leB (rot s i) (rot s j)=true/\(rot s i=rot s j->i < j)
theorem Ordered.unique {s:List UInt8}{σ τ:List Nat} (h:Ordered s σ) (k:Ordered s τ):σ=τ:=by
 refine List.Perm.eq_of_pairwise (le:=fun i j=>leB (rot s i) (rot s j)=true/\(rot s i=rot s j->i < j)) (fun a b _ _ h1 h2=>?_) h.sorted k.sorted (h.perm.trans k.perm.symm);have e:=Qk6 _ _ h1.1 h2.1;have:=h1.2 e;have:=h2.2 e.symm;omega
def ahead (n i:Nat):Nat:=if i=0 then n - 1 else i - 1
theorem QEk (s:List UInt8) (i:Nat) (h:i < s.length):rot s i=rotl (rot s (ahead s.length i)):=by
 unfold ahead;by_cases h0:i=0
 ·
  subst h0;rw [if_pos rfl,<- Qsk s (s.length - 1) (by omega),show s.length - 1+1=s.length by omega,QH1,QH0]
 rw [if_neg h0,<- Qsk s (i - 1) (by omega),show i - 1+1=i by omega]
def Qbn (s:List UInt8) (σ:List Nat):List UInt8:=σ.map fun i=>s.getD (ahead s.length i) 0
def Qbp (L:List UInt8):List Nat:=(List.range 256).flatMap fun b=>(List.range L.length).filter fun i=>(L.getD i 0).toNat == b
theorem Qcp (L:List UInt8):(Qbp L).Perm (List.range L.length):=by
 unfold Qbp;generalize hn:List.range L.length=xs;clear hn
 induction xs with
 | nil=>simp
 | cons x xs ih =>
  have h1:∀ (bs:List Nat),bs.Nodup->(L.getD x 0).toNat∈bs ->
    (bs.flatMap fun b=>(x::xs).filter fun i=>(L.getD i 0).toNat == b).Perm (x::bs.flatMap fun b=>xs.filter fun i=>(L.getD i 0).toNat == b):=by
   intro bs
   induction bs with
   | nil=>intro _ h;simp at h
   | cons b bs ihb =>
    intro hnd hm;rw [List.nodup_cons] at hnd;simp only [List.flatMap_cons];by_cases hb:(L.getD x 0).toNat=b
    ·
     have hno:∀ b'∈bs,((x::xs).filter fun i=>(L.getD i 0).toNat == b')=xs.filter fun i=>(L.getD i 0).toNat == b':=by
      intro b' hb';rw [List.filter_cons_of_neg];simp only [beq_iff_eq];intro h;exact hnd.1 (by rw [<- hb,h];exact hb')
     rw [List.filter_cons_of_pos (by simpa using hb)]
     have e:(bs.flatMap fun b'=>(x::xs).filter fun i=>(L.getD i 0).toNat == b')=bs.flatMap fun b'=>xs.filter fun i=>(L.getD i 0).toNat == b':=by
      have:∀ (l:List Nat),(∀ b'∈l,((x::xs).filter fun i=>(L.getD i 0).toNat == b')=xs.filter fun i=>(L.getD i 0).toNat == b')->(l.flatMap fun b'=>(x::xs).filter fun i=>(L.getD i 0).toNat == b')=l.flatMap fun b'=>xs.filter fun i=>(L.getD i 0).toNat == b':=by
       intro l
       induction l with
       | nil=>intro _;rfl
       | cons c l ihl=>intro h;rw [List.flatMap_cons,List.flatMap_cons,h c (by simp),ihl fun b' hb'=>h b' (by simp [hb'])]
      exact this bs hno
     rw [e];exact List.Perm.refl _
    rw [List.filter_cons_of_neg (by simpa using hb)]
    have hm':(L.getD x 0).toNat∈bs:=by
     rcases List.mem_cons.1 hm with h | h
     ·
      exact absurd h hb
     exact h
    refine (List.Perm.append_left _ (ihb hnd.2 hm')).trans ?_;exact List.perm_middle
  refine (h1 _ List.nodup_range (List.mem_range.2 (UInt8.toNat_lt _))).trans (ih.cons x)
theorem Qof (L:List UInt8):(Qbp L).Pairwise fun i j=>(L.getD i 0).toNat < (L.getD j 0).toNat∨((L.getD i 0).toNat=(L.getD j 0).toNat/\i < j):=by
 unfold Qbp;rw [List.pairwise_flatMap];refine ⟨fun b _=>?_,?_⟩
 ·
  have hr:(List.range L.length).Pairwise (· < ·):=List.pairwise_lt_range;have:=hr.filter fun i=>(L.getD i 0).toNat == b;refine this.imp_of_mem fun {i j} hi hj h=>?_;rw [List.mem_filter] at hi hj;simp only [beq_iff_eq] at hi hj;exact .inr ⟨by rw [hi.2,hj.2],h⟩
 refine (List.pairwise_lt_range (n:=256)).imp fun {b c} h i hi j hj=>?_;rw [List.mem_filter] at hi hj;simp only [beq_iff_eq] at hi hj;exact .inl (by rw [hi.2,hj.2];exact h)
def Qhe (L:List UInt8) (pl:List Nat):Nat->Nat->List UInt8
 | 0,_=>[]
 | n+1,p=>L.getD (pl.getD p 0) 0::Qhe L pl n (pl.getD p 0)
theorem QMq (a:UInt8) (l:List UInt8):rotl (a::l)=l++[a]:=rfl
section
variable {s:List UInt8}{σ:List Nat}
theorem QMr (h:Ordered s σ) {j:Nat} (hj:j < s.length):(Qbn s σ).getD j 0=s.getD (ahead s.length (σ.getD j 0)) 0:=by
 have hl:σ.length=s.length:=by rw [h.perm.length_eq,List.length_range]
 simp only [Qbn,List.getD_eq_getElem?_getD,List.getElem?_map];rw [List.getElem?_eq_getElem (by omega)];simp
theorem QP3 (h:Ordered s σ) {j:Nat} (hj:j < s.length):σ.getD j 0 < s.length:=by
 have hl:σ.length=s.length:=by rw [h.perm.length_eq,List.length_range]
 have:σ.getD j 0∈σ:=by
  rw [List.getD_eq_getElem?_getD,List.getElem?_eq_getElem (by omega)];simp
 have:=(h.perm.mem_iff).1 this;simpa using this
theorem Qzw {n i:Nat} (h:i < n):ahead n i < n:=by unfold ahead;split <;> omega
theorem Qsl (h:Ordered s σ) {j:Nat} (hj:j < s.length):∃ l,rot s (σ.getD j 0)=l++[(Qbn s σ).getD j 0]/\rot s (ahead s.length (σ.getD j 0))=(Qbn s σ).getD j 0::l:=by
 have h1:=QP3 h hj;have h2:=QEk s _ h1;have h3:=Qzv s _ (Qzw h1);cases hr:rot s (ahead s.length (σ.getD j 0)) with
 | nil=>rw [hr] at h3;simp at h3
 | cons a l =>
  rw [hr] at h2 h3;simp only [List.head?_cons,Option.some.injEq] at h3;rw [QMr h hj,<- h3];exact ⟨l,h2,rfl⟩
theorem QBy (n:Nat):((List.range n).map (ahead n)).Perm (List.range n):=by
 refine (List.perm_ext_iff_of_nodup ?_ List.nodup_range).2 fun a=>?_
 ·
  refine List.Pairwise.map _ ?_ (List.pairwise_lt_range.imp_of_mem (S:=fun a b=>a < b/\b < n) fun {a b} ha hb h=>⟨h,by simpa using hb⟩);intro a b h;unfold ahead;split <;> split <;> omega
 simp only [List.mem_map,List.mem_range];constructor
 ·
  rintro ⟨i,hi,rfl⟩;exact Qzw hi
 intro ha;by_cases h:a=n - 1
 ·
  exact ⟨0,by omega,by unfold ahead;rw [if_pos rfl];omega⟩
 exact ⟨a+1,by omega,by unfold ahead;rw [if_neg (by omega)];omega⟩
theorem QH2 (σ:List Nat):(List.range σ.length).map (fun j=>σ.getD j 0)=σ:=by
 apply List.ext_getElem?;intro j;rw [List.getElem?_map];by_cases h:j < σ.length
 ·
  rw [List.getElem?_eq_getElem (by simpa using h)];simp [List.getD_eq_getElem?_getD,h]
 rw [List.getElem?_eq_none (by simpa using h),List.getElem?_eq_none (by omega)];rfl
theorem QEl (h:Ordered s σ):σ.map (rot s)=(Qbp (Qbn s σ)).map fun j=>rot s (ahead s.length (σ.getD j 0)):=by
 have hl:σ.length=s.length:=by rw [h.perm.length_eq,List.length_range]
 have hcl:(Qbn s σ).length=s.length:=by simp [Qbn,hl]
 have hpp:=Qcp (Qbn s σ);rw [hcl] at hpp;have hmem:∀ j∈Qbp (Qbn s σ),j < s.length:=fun j hj=>by simpa using (hpp.mem_iff).1 hj
 refine List.Perm.eq_of_pairwise (le:=fun l m=>leB l m=true) (fun a b _ _ h1 h2=>Qk6 a b h1 h2) ?_ ?_ ?_
 ·
  exact List.Pairwise.map _ (fun a b h=>h) (h.sorted.imp fun h=>h.1)
 ·
  refine List.Pairwise.map _ ?_ ((Qof (Qbn s σ)).imp_of_mem (S:=fun i j=>((((Qbn s σ).getD i 0).toNat < ((Qbn s σ).getD j 0).toNat∨(((Qbn s σ).getD i 0).toNat=((Qbn s σ).getD j 0).toNat/\i < j))/\i < s.length)/\j < s.length) fun hi hj h=>⟨⟨h,hmem _ hi⟩,hmem _ hj⟩);rintro i j ⟨⟨hij,hi⟩,hj⟩;obtain ⟨l,e1,e2⟩:=Qsl h hi;obtain ⟨m,f1,f2⟩:=Qsl h hj;rw [e2,f2];simp only [leB];rcases hij with hlt | ⟨he,hlt⟩
  ·
   have:(Qbn s σ).getD i 0≠(Qbn s σ).getD j 0:=fun h'=>by rw [h'] at hlt;omega
   simp only [this,if_false];simpa using hlt
  have he':(Qbn s σ).getD i 0=(Qbn s σ).getD j 0:=UInt8.toNat_inj.1 he;rw [if_pos he'];have hs:=List.pairwise_iff_getElem.1 h.sorted i j (by omega) (by omega) hlt;have g1:σ[i]'(by omega)=σ.getD i 0:=by rw [List.getD_eq_getElem?_getD,List.getElem?_eq_getElem (by omega)];rfl
  have g2:σ[j]'(by omega)=σ.getD j 0:=by rw [List.getD_eq_getElem?_getD,List.getElem?_eq_getElem (by omega)];rfl
  rw [g1,g2,e1,f1,he'] at hs;refine Qzu l m _ ?_ hs.1;have a1:=congrArg List.length e1;have a2:=congrArg List.length f1;simp [QBx] at a1 a2;omega
 have p1:(σ.map (rot s)).Perm ((List.range s.length).map (rot s)):=h.perm.map _;have p2:((Qbp (Qbn s σ)).map fun j=>rot s (ahead s.length (σ.getD j 0))).Perm ((List.range s.length).map fun j=>rot s (ahead s.length (σ.getD j 0))):=hpp.map _;refine p1.trans (List.Perm.trans ?_ p2.symm)
 have e1:((List.range s.length).map fun j=>rot s (ahead s.length (σ.getD j 0)))=(σ.map (ahead s.length)).map (rot s):=by
  rw [<- hl]
  conv=>rhs;rw [<- QH2 σ]
  simp [List.map_map,Function.comp_def,hl]
 rw [e1];exact (((h.perm.map (ahead s.length)).trans (QBy s.length)).symm).map _
theorem QEm (h:Ordered s σ):∀ (n p i:Nat),p < s.length->i < s.length->rot s (σ.getD p 0)=rot s i->i+n<=s.length ->
  Qhe (Qbn s σ) (Qbp (Qbn s σ)) n p=(s.drop i).take n
 | 0,_,_,_,_,_,_=>by simp [Qhe]
 | n+1,p,i,hp,hi,hr,hn=>by
  have hl:σ.length=s.length:=by rw [h.perm.length_eq,List.length_range]
  have hcl:(Qbn s σ).length=s.length:=by simp [Qbn,hl]
  have hpp:=Qcp (Qbn s σ);rw [hcl] at hpp;have hpl:(Qbp (Qbn s σ)).length=s.length:=by rw [hpp.length_eq,List.length_range]
  generalize hq:(Qbp (Qbn s σ)).getD p 0=q
  have hqlt:q < s.length:=by
   have:q∈Qbp (Qbn s σ):=by
    rw [<- hq,List.getD_eq_getElem?_getD,List.getElem?_eq_getElem (by omega)];simp
   simpa using (hpp.mem_iff).1 this
  have hb:=congrArg (fun l=>l[p]?) (QEl h);simp only [List.getElem?_map] at hb;rw [List.getElem?_eq_getElem (by omega),List.getElem?_eq_getElem (by omega)] at hb;simp only [Option.map_some,Option.some.injEq] at hb;have g1:σ[p]'(by omega)=σ.getD p 0:=by rw [List.getD_eq_getElem?_getD,List.getElem?_eq_getElem (by omega)];rfl
  have g2:(Qbp (Qbn s σ))[p]'(by omega)=q:=by rw [<- hq,List.getD_eq_getElem?_getD,List.getElem?_eq_getElem (by omega)];rfl
  rw [g1,g2,hr] at hb;obtain ⟨l,e1,e2⟩:=Qsl h hqlt;rw [e2] at hb;have hd:=Qzv s i hi;rw [hb] at hd;simp only [List.head?_cons,Option.some.injEq] at hd;have hnext:rot s (σ.getD q 0)=rotl (rot s i):=by rw [hb,QMq,e1]
  rw [Qhe,hq,hd,List.drop_eq_getElem_cons hi,List.take_succ_cons];have e3:s.getD i 0=s[i]:=by rw [List.getD_eq_getElem?_getD,List.getElem?_eq_getElem hi];rfl
  rw [e3]
  congr 1
  by_cases hlast:i+1=s.length
  ·
   have:n=0:=by omega
   subst this;simp [Qhe]
  exact QEm h n q (i+1) hqlt (by omega) (by rw [hnext,Qsk s i hi]) (by omega)
theorem QH3 (h:Ordered s σ) (hs:s≠[]):Qhe (Qbn s σ) (Qbp (Qbn s σ)) s.length (σ.idxOf 0)=s:=by
 have hl:σ.length=s.length:=by rw [h.perm.length_eq,List.length_range]
 have hn:0 < s.length:=List.length_pos_iff.2 hs;have hm:0∈σ:=(h.perm.mem_iff).2 (by simpa using hn);have hr:σ.idxOf 0 < σ.length:=List.idxOf_lt_length_iff.2 hm
 have hg:σ.getD (σ.idxOf 0) 0=0:=by
  rw [List.getD_eq_getElem?_getD,List.getElem?_eq_getElem hr];simp
 have:=QEm h s.length (σ.idxOf 0) 0 (by omega) hn (by rw [hg]) (by omega);simpa using this
end
def pre (s:List UInt8) (m i:Nat):List UInt8:=(List.range m).map fun t=>s.getD ((i+t) % s.length) 0
theorem Qgl (s:List UInt8) (m i:Nat):(pre s m i).length=m:=by simp [pre]
theorem Qki (s:List UInt8) (a b i:Nat):pre s (a+b) i=pre s a i++pre s b ((i+a) % s.length):=by
 simp only [pre,List.range_add,List.map_append,List.map_map]
 congr 1
 apply List.map_congr_left;intro t _;simp only [Function.comp]
 congr 1
 rw [Nat.mod_add_mod,Nat.add_assoc]
theorem Qhs:∀ {a c:List UInt8} (b d:List UInt8),a.length=c.length->leB (a++b) (c++d)=if a=c then leB b d else leB a c
 | [],[],_,_,_=>by simp
 | [],_::_,_,_,h=>by simp at h
 | _::_,[],_,_,h=>by simp at h
 | x::a,y::c,b,d,h=>by
  have ih:=Qhs (a:=a) (c:=c) b d (by simpa using h);by_cases hxy:x=y
  ·
   subst hxy;simp only [List.cons_append,leB,if_true,ih,List.cons.injEq,true_and]
  simp [leB,hxy]
theorem Ql9 (s:List UInt8) (i:Nat) (hi:i < s.length):pre s s.length i=rot s i:=by
 apply List.ext_getElem
 ·
  simp [pre,rot];omega
 intro t h1 h2;simp only [pre,List.length_map,List.length_range] at h1;simp only [pre,rot,List.getElem_map,List.getElem_range,List.getElem_append,List.length_drop,List.getElem_drop,List.getElem_take];split
 ·
  rename_i h;rw [Nat.mod_eq_of_lt (by omega),List.getD_eq_getElem?_getD,List.getElem?_eq_getElem (by omega),Option.getD_some]
 rename_i h
 have e:(i+t) % s.length=t - (s.length - i):=by
  rw [Nat.mod_eq_sub_mod (by omega),Nat.mod_eq_of_lt (by omega)];omega
 rw [e,List.getD_eq_getElem?_getD,List.getElem?_eq_getElem (by omega),Option.getD_some]
theorem Qqx (s:List UInt8) (m i j:Nat) (hi:i < s.length) (hj:j < s.length) (h:rot s i=rot s j):pre s m i=pre s m j:=by
 rw [<- Ql9 s i hi,<- Ql9 s j hj] at h;unfold pre at h ⊢;apply List.map_congr_left;intro t _;have ht:t % s.length < s.length:=Nat.mod_lt _ (by omega);have h1:=(List.map_inj_left.1 h) (t % s.length) (by simpa using ht)
 rwa [Nat.add_mod_mod,Nat.add_mod_mod] at h1
def Ranks (s:List UInt8) (rk:List Int) (m:Nat):Prop:=rk.length=s.length/\∀ i j,i < s.length->j < s.length->(rk.getD i 0<=rk.getD j 0 ↔ leB (pre s m i) (pre s m j)=true)
def leK (rk:List Int) (by_:Nat) (x y:Int):Prop:=keyA rk x < keyA rk y∨(keyA rk x=keyA rk y/\keyB rk by_ x<=keyB rk by_ y)
def LeK (s:List UInt8) (rk:List Int) (by_ m:Nat):Prop:=rk.length=s.length/\∀ i j:Nat,i < s.length->j < s.length->(leK rk by_ i j ↔ leB (pre s m i) (pre s m j)=true)
theorem Ranks.eq {s:List UInt8}{rk:List Int}{m:Nat} (h:Ranks s rk m) {i j:Nat} (hi:i < s.length) (hj:j < s.length):rk.getD i 0=rk.getD j 0 ↔ pre s m i=pre s m j:=by
 constructor
 ·
  intro e;exact Qk6 _ _ ((h.2 i j hi hj).1 (by omega)) ((h.2 j i hj hi).1 (by omega))
 intro e;have h1:=(h.2 i j hi hj).2 (by rw [e];exact Qh8 _);have h2:=(h.2 j i hj hi).2 (by rw [e];exact Qh8 _);omega
theorem LeK.first {s:List UInt8}{rk:List Int} (h:Ranks s rk 1):LeK s rk 0 1:=by
 refine ⟨h.1,fun i j hi hj=>?_⟩;have hn:=h.1;rw [<- h.2 i j hi hj];simp only [leK,keyA,keyB,Int.toNat_natCast,Nat.add_zero,hn,Nat.mod_eq_of_lt hi,Nat.mod_eq_of_lt hj];omega
theorem LeK.double {s:List UInt8}{rk:List Int}{c:Nat} (h:Ranks s rk c):LeK s rk c (c+c):=by
 refine ⟨h.1,fun i j hi hj=>?_⟩;have hn:=h.1;have h0:0 < s.length:=by omega
 rw [Qki,Qki,Qhs _ _ (by rw [Qgl,Qgl])];have hi2:(i+c) % s.length < s.length:=Nat.mod_lt _ h0;have hj2:(j+c) % s.length < s.length:=Nat.mod_lt _ h0;have e1:=h.eq hi hj;have e2:=h.2 i j hi hj;have e3:=h.2 _ _ hi2 hj2;simp only [leK,keyA,keyB,Int.toNat_natCast,hn];split
 ·
  rename_i hp;rw [<- e3];have:=e1.2 hp;omega
 rename_i hp;rw [<- e2];have:¬ rk.getD i 0=rk.getD j 0:=fun h'=>hp (e1.1 h');omega
def kEq (rk:List Int) (by_:Nat) (x y:Int):Bool:=decide (keyA rk x=keyA rk y) && decide (keyB rk by_ x=keyB rk by_ y)
def rsum (rk:List Int) (by_:Nat) (L:List Int):Nat->Nat
 | 0=>0
 | k+1=>rsum rk by_ L k+if kEq rk by_ (L.getD k 0) (L.getD (k+1) 0) then 0 else 1
theorem Qxt (rk:List Int) (by_:Nat) (L:List Int):∀ k,rsum rk by_ L k<=k
 | 0=>by simp [rsum]
 | k+1=>by have:=Qxt rk by_ L k;simp only [rsum];split <;> omega
theorem Qog (rk:List Int) (by_:Nat) (L:List Int) {p q:Nat} (h:p<=q):rsum rk by_ L p<=rsum rk by_ L q:=by
 induction q with
 | zero =>
  obtain rfl:p=0:=by omega
  exact Nat.le_refl _
 | succ q ih =>
  by_cases hp:p=q+1
  ·
   rw [hp];exact Nat.le_refl _
  have:=ih (by omega);simp only [rsum];omega
def QH4 (rk:List Int) (by_:Nat) (L:List Int):Prop:=∀ p q,p<=q->q < L.length->leK rk by_ (L.getD p 0) (L.getD q 0)
theorem QMs {rk:List Int}{by_:Nat}{L:List Int} (hL:QH4 rk by_ L) {p q:Nat} (h:p<=q) (hq:q < L.length):rsum rk by_ L p=rsum rk by_ L q ↔ kEq rk by_ (L.getD p 0) (L.getD q 0)=true:=by
 induction q with
 | zero =>
  obtain rfl:p=0:=by omega
  simp [kEq]
 | succ q ih =>
  by_cases hp:p=q+1
  ·
   subst hp;simp [kEq]
  have ih:=ih (by omega) (by omega);have hm:=Qog rk by_ L (show p<=q by omega);have h1:=hL p q (by omega) (by omega);have h2:=hL q (q+1) (by omega) hq;simp only [rsum];simp only [kEq,Bool.and_eq_true,decide_eq_true_eq,leK] at *;split
  ·
   rename_i h3;simp only [Nat.add_zero];rw [ih];omega
  rename_i h3;constructor
  ·
   intro h4;omega
  intro h4;exfalso;apply h3;omega
theorem QB0 {rk:List Int}{by_:Nat}{L:List Int} (hL:QH4 rk by_ L) {p q:Nat} (hp:p < L.length) (hq:q < L.length):rsum rk by_ L p<=rsum rk by_ L q ↔ leK rk by_ (L.getD p 0) (L.getD q 0):=by
 by_cases h:p<=q
 ·
  exact ⟨fun _=>hL p q h hq,fun _=>Qog rk by_ L h⟩
 have h1:=hL q p (by omega) hp;have h2:=Qog rk by_ L (show q<=p by omega);have h3:=QMs hL (show q<=p by omega) hp;simp only [kEq,Bool.and_eq_true,decide_eq_true_eq,leK] at *;constructor
 ·
  intro h4;have:=h3.1 (by omega);omega
 intro h4;have:=h3.2 (by omega);omega
def Qe4 (n:Nat):List Int:=(List.range n).map fun i:Nat=>(i:Int)
theorem QJh {rk:List Int}{by_:Nat}{x y:Int} (h:ltOf (cmpR rk by_) y x=false):leK rk by_ x y/\(kEq rk by_ x y=true->x<=y):=by
 have h1:=Qkh rk by_ y x;have h2:¬ cmpR rk by_ y x < 0:=of_decide_eq_false h;simp only [leK,kEq,Bool.and_eq_true,decide_eq_true_eq];constructor
 ·
  omega
 omega
theorem QH5 {rk:List Int}{by_:Nat}{L:List Int} (h:L.Pairwise fun x y=>ltOf (cmpR rk by_) y x=false):QH4 rk by_ L:=by
 intro p q hpq hq;by_cases e:p=q
 ·
  subst e;right;exact ⟨rfl,Int.le_refl _⟩
 have:=(List.pairwise_iff_getElem.1 h) p q (by omega) hq (by omega);rw [List.getD_eq_getElem?_getD,List.getElem?_eq_getElem (by omega),List.getD_eq_getElem?_getD,List.getElem?_eq_getElem hq];exact (QJh this).1
theorem Qxu {L:List Int}{n:Nat} (h:L.Perm (Qe4 n)) {i:Nat} (hi:i < n):∃ p,p < L.length/\L.getD p 0=i:=by
 have hm:(i:Int)∈L:=h.mem_iff.2 (by simp only [Qe4,List.mem_map,List.mem_range];exact ⟨i,hi,rfl⟩);obtain ⟨p,hp,he⟩:=List.getElem_of_mem hm;exact ⟨p,hp,by rw [List.getD_eq_getElem?_getD,List.getElem?_eq_getElem hp];exact he⟩
theorem Qxv {L:List Int}{n:Nat} (h:L.Perm (Qe4 n)) {p:Nat} (hp:p < L.length):0<=L.getD p 0/\L.getD p 0 < n:=by
 have hm:L.getD p 0∈L:=by rw [List.getD_eq_getElem?_getD,List.getElem?_eq_getElem hp];exact List.getElem_mem hp
 have:=h.mem_iff.1 hm;simp only [Qe4,List.mem_map,List.mem_range] at this;obtain ⟨i,hi,he⟩:=this;omega
theorem Qzx {L:List Int}{n:Nat} (h:L.Perm (Qe4 n)):L.length=n:=by rw [h.length_eq];simp [Qe4]
theorem Qqy {L:List Int}{n:Nat} (h:L.Perm (Qe4 n)):L.Nodup:=by
 rw [h.nodup_iff,Qe4,List.Nodup,List.pairwise_map];exact (List.nodup_range (n:=n)).imp fun {a b} hab h=>hab (by omega)
theorem QH6 {L:List Int}{n:Nat} (h:L.Perm (Qe4 n)) {p q:Nat} (hp:p < L.length) (hq:q < L.length) (e:L.getD p 0=L.getD q 0):p=q:=by
 have hnd:=Qqy h;rw [List.getD_eq_getElem?_getD,List.getElem?_eq_getElem hp,List.getD_eq_getElem?_getD,List.getElem?_eq_getElem hq] at e;exact (List.getElem_inj hnd).1 e
theorem QB1 {s:List UInt8}{rk nx L:List Int}{by_ m:Nat} (hk:LeK s rk by_ m) (hp:L.Perm (Qe4 s.length)) (hs:QH4 rk by_ L) (hl:nx.length=s.length) (hn:∀ p,p < s.length->nx.getD (L.getD p 0).toNat 0=rsum rk by_ L p):Ranks s nx m:=by
 refine ⟨hl,fun i j hi hj=>?_⟩;have hL:=Qzx hp;obtain ⟨p,hp1,hp2⟩:=Qxu hp hi;obtain ⟨q,hq1,hq2⟩:=Qxu hp hj;have e1:=hn p (by omega);have e2:=hn q (by omega);rw [hp2,Int.toNat_natCast] at e1;rw [hq2,Int.toNat_natCast] at e2;have h1:=QB0 hs hp1 hq1;rw [hp2,hq2] at h1;rw [e1,e2,<- hk.2 i j hi hj,<- h1];omega
theorem Qxw {s:List UInt8}{rk nx L:List Int}{by_:Nat} (hp:L.Perm (Qe4 s.length)) (hl:nx.length=s.length) (hb:s.length<=1000000000) (hn:∀ p,p < s.length->nx.getD (L.getD p 0).toNat 0=rsum rk by_ L p):Qk5 nx:=by
 intro r hr;obtain ⟨i,hi,rfl⟩:=List.getElem_of_mem hr;have hL:=Qzx hp;obtain ⟨p,hp1,hp2⟩:=Qxu hp (show i < s.length by omega);have e1:=hn p (by omega);have e2:=Qxt rk by_ L p;rw [hp2,Int.toNat_natCast,List.getD_eq_getElem?_getD,List.getElem?_eq_getElem hi,Option.getD_some] at e1;omega
theorem Qxx {s:List UInt8}{rk L:List Int}{by_ m:Nat} (hk:LeK s rk by_ m) (hm:s.length<=m) (hp:L.Perm (Qe4 s.length)) (hs:L.Pairwise fun x y=>ltOf (cmpR rk by_) y x=false):Ordered s (L.map Int.toNat):=by
 constructor
 ·
  have:=hp.map Int.toNat
  rwa [Qe4,List.map_map,show (Int.toNat ∘ fun i:Nat=>(i:Int))=id from funext fun i=>Int.toNat_natCast i,List.map_id] at this
 rw [List.pairwise_map];refine (List.pairwise_and_iff.2 ⟨hs,Qqy hp⟩).imp_of_mem fun {x y} hx hy h=>?_;obtain ⟨h,hne⟩:=h;have hx:=hp.mem_iff.1 hx;have hy:=hp.mem_iff.1 hy;simp only [Qe4,List.mem_map,List.mem_range] at hx hy;obtain ⟨i,hi,rfl⟩:=hx;obtain ⟨j,hj,rfl⟩:=hy;simp only [Int.toNat_natCast];obtain ⟨h1,h2⟩:=QJh h;have h3:=(hk.2 i j hi hj).1 h1;constructor
 ·
  obtain ⟨c,rfl⟩:∃ c,m=s.length+c:=⟨m - s.length,by omega⟩;rw [Qki,Qki,Qhs _ _ (by rw [Qgl,Qgl]),Ql9 s i hi,Ql9 s j hj] at h3;split at h3
  ·
   rename_i e;rw [e];exact Qh8 _
  exact h3
 intro e;have e2:=Qqx s m i j hi hj e;have h4:=(hk.2 j i hj hi).2 (by rw [e2];exact Qh8 _)
 have h5:kEq rk by_ i j=true:=by
  simp only [leK,kEq,Bool.and_eq_true,decide_eq_true_eq] at *;omega
 have h6:=h2 h5;have h7:i≠j:=fun h=>hne (by rw [h]);omega
def Qk7 (s:List UInt8) (i j:Nat):Bool:=if rot s i=rot s j then decide (i < j) else leB (rot s i) (rot s j)
theorem Qsm (s:List UInt8) (i:Nat):pre s 1 i=[s.getD (i % s.length) 0]:=by simp [pre,List.range_succ]
theorem Qxy (l:List UInt8) (i j:Nat) (hl:l.length<=1000000000000) (hi:i < l.length) (hj:j < l.length) (w:World):Does Tryz.prog 192 #[Str l,.int .i64 i,.int .i64 j] w fun v w'=>w'=w/\v=.bool (Qk7 l i j):=by
 have hri:=Ql9 l i hi;have hrj:=Ql9 l j hj;refine En [Str l,.int .i64 i,.int .i64 j] 41 Tryz.func192 ?_;generalize hn:l.length=n at *;refine VS [0,1,2] ?_;refine VS [0,1,2,7] ?_;refine Qab ?_;refine Qac [0,1,2,7] (fun m e w'=>∃ (k:Nat),Is e [(0,Str l),(1,.int .i64 i),(2,.int .i64 j),(7,.int .i64 k)]/\Is w' w/\k<=n/\pre l k i=pre l k j/\m=n - k) n ?_ ?_
 ·
  refine Qs ?_;exact ⟨0,rfl,rfl,by omega,rfl,rfl⟩
 rintro m e w' ⟨k,rfl,rfl,hk,hpe,hm⟩;refine VQ [0,1,2,7,13] fun K hK=>?_;rw [hn];(repeat refine Qo ?_);apply hK;clear hK;refine VD (fun h=>?_) (fun h=>?_)
 ·
  have h1:(i+k) % n < n:=Nat.mod_lt _ (by omega);have h2:(j+k) % n < n:=Nat.mod_lt _ (by omega);have e1:((i:Int)+k) % n=(((i+k) % n:Nat):Int):=by push_cast;rfl
  have e2:((j:Int)+k) % n=(((j+k) % n:Nat):Int):=by push_cast;rfl
  have hs1:pre l (k+1) i=pre l k i++[l.getD ((i+k) % n) 0]:=by rw [Qki,Qsm,hn,Nat.mod_mod]
  have hs2:pre l (k+1) j=pre l k j++[l.getD ((j+k) % n) 0]:=by rw [Qki,Qsm,hn,Nat.mod_mod]
  refine VC_skip ?_;refine VB ?_;refine VQ [0,1,2,7,8] fun K hK=>?_;rw [hn,e1];refine ⟨I64.mk (by omega) (by omega),by omega,by omega,?_⟩;(try rw [Int.toNat_natCast]);refine Qp ?_;apply hK;clear hK;refine VQ [0,1,2,7,8,9] fun K hK=>?_;rw [hn,e2];refine ⟨I64.mk (by omega) (by omega),by omega,by omega,?_⟩;(try rw [Int.toNat_natCast]);refine Qp ?_;apply hK;clear hK;refine VS [0,1,2,7,8,9,34] ?_;have hinj:(l.getD ((i+k) % n) 0).toNat=(l.getD ((j+k) % n) 0).toNat ↔ l.getD ((i+k) % n) 0=l.getD ((j+k) % n) 0:=UInt8.toNat_inj;have hc1:pre l 1 ((i+k) % n)=[l.getD ((i+k) % n) 0]:=by rw [Qsm,hn,Nat.mod_mod]
  have hc2:pre l 1 ((j+k) % n)=[l.getD ((j+k) % n) 0]:=by rw [Qsm,hn,Nat.mod_mod]
  generalize l.getD ((i+k) % n) 0=c1 at *;generalize l.getD ((j+k) % n) 0=c2 at *;refine VD (fun h=>?_) (fun h=>?_)
  ·
   have hne:c1≠c2:=fun e=>by rw [hinj.2 e] at h;simp at h
   obtain ⟨d,hd⟩:∃ d,n=(k+1)+d:=⟨n - k - 1,by omega⟩;refine VS [6] ?_;refine VC_ret (VX_ret1 rfl rfl ⟨rfl,?_⟩);have hlen:(pre l (k+1) i).length=(pre l (k+1) j).length:=by rw [Qgl,Qgl]
   have hpne:pre l (k+1) i≠pre l (k+1) j:=by rw [hs1,hs2,hpe];simp [hne]
   have hrne:rot l i≠rot l j:=fun e=>hpne (Qqx l (k+1) i j (by omega) (by omega) e);rw [Qk7,if_neg hrne,<- hri,<- hrj]
   have e3:∀ x,pre l n x=pre l (k+1) x++pre l d ((x+(k+1)) % l.length):=fun x=>by
    conv=>lhs;rw [hd]
    rw [Qki]
   rw [e3,e3,Qhs _ _ hlen,if_neg hpne,hs1,hs2,hpe,Qhs _ _ rfl,if_pos rfl];simp only [leB,if_neg hne];rw [show decide ((c1.toNat:Int) < c2.toNat)=decide (c1.toNat < c2.toNat) from decide_eq_decide.2 (by omega)]
  have heq:c1=c2:=hinj.1 (by omega);refine VC_skip ?_;refine Qah ?_;refine VS [0,1,2,7] ?_;refine Qaa ?_;refine Qs ?_;exact ⟨n - (k+1),by omega,k+1,rfl,rfl,by omega,by rw [hs1,hs2,hpe,heq],rfl⟩
 obtain rfl:k=n:=by omega
 refine Qad rfl ?_;refine VS [6] ?_;refine VC_ret (VX_ret1 rfl rfl ⟨rfl,?_⟩);rw [Qk7,if_pos (by rw [<- hri,<- hrj,hpe])];rw [show decide ((i:Int) < j)=decide (i < j) from decide_eq_decide.2 (by omega)]
def ordQ (s:List UInt8) (i j:Nat):Prop:=leB (rot s i) (rot s j)=true/\(rot s i=rot s j->i < j)
theorem ordQ.trans {s:List UInt8}{i j k:Nat} (h1:ordQ s i j) (h2:ordQ s j k):ordQ s i k:=by
 refine ⟨Quv _ _ _ h1.1 h2.1,fun e=>?_⟩;have e1:rot s i=rot s j:=Qk6 _ _ h1.1 (by rw [e];exact h2.1);have:=h1.2 e1;have:=h2.2 (by rw [<- e1,e]);omega
theorem QB2 {s:List UInt8}{i j:Nat} (h:Qk7 s i j=true):ordQ s i j:=by
 unfold Qk7 at h;split at h
 ·
  rename_i e;exact ⟨by rw [e];exact Qh8 _,fun _=>of_decide_eq_true h⟩
 rename_i e;exact ⟨h,fun h'=>absurd h' e⟩
theorem Qxz {s:List UInt8}{i j:Nat} (h:Qk7 s i j=false) (hne:i≠j):ordQ s j i:=by
 unfold Qk7 at h;split at h
 ·
  rename_i e;have:=of_decide_eq_false h;exact ⟨by rw [e];exact Qh8 _,fun _=>by omega⟩
 rename_i e;rcases Quu (rot s i) (rot s j) with h1 | h1
 ·
  rw [h1] at h;cases h
 exact ⟨h1,fun h'=>absurd h'.symm e⟩
def Qeg (s:List UInt8):List Nat->List Nat->List Nat
 | [],b=>b
 | x::a,[]=>x::a
 | x::a,y::b=>if Qk7 s x y then x::Qeg s a (y::b) else y::Qeg s (x::a) b
termination_by a b=>a.length+b.length
theorem Qez (s:List UInt8):∀ (a b:List Nat),(Qeg s a b).Perm (a++b)
 | [],b=>by rw [Qeg];exact List.Perm.refl _
 | x::a,[]=>by rw [Qeg,List.append_nil]
 | x::a,y::b=>by
  rw [Qeg];split
  ·
   exact (Qez s a (y::b)).cons x
  exact ((Qez s (x::a) b).cons y).trans List.perm_middle.symm
termination_by a b=>a.length+b.length
theorem Qh9 (s:List UInt8):∀ (a b:List Nat),a.Pairwise (ordQ s)->b.Pairwise (ordQ s)->(∀ x∈a,x ∉ b)->(Qeg s a b).Pairwise (ordQ s)
 | [],b,_,hb,_=>by rw [Qeg];exact hb
 | x::a,[],ha,_,_=>by rw [Qeg];exact ha
 | x::a,y::b,ha,hb,hd=>by
  obtain ⟨ha1,ha2⟩:=List.pairwise_cons.1 ha;obtain ⟨hb1,hb2⟩:=List.pairwise_cons.1 hb;have hxy:x≠y:=fun e=>hd x (by simp) (by simp [e]);rw [Qeg];split
  ·
   rename_i h;have h1:=QB2 h;refine List.pairwise_cons.2 ⟨fun z hz=>?_,Qh9 s a (y::b) ha2 hb fun z hz=>hd z (by simp [hz])⟩;rcases List.mem_append.1 ((Qez s a (y::b)).mem_iff.1 hz) with h2 | h2
   ·
    exact ha1 z h2
   rcases List.mem_cons.1 h2 with rfl | h2
   ·
    exact h1
   exact h1.trans (hb1 z h2)
  rename_i h;have h1:=Qxz (by simpa using h) hxy;refine List.pairwise_cons.2 ⟨fun z hz=>?_,Qh9 s (x::a) b ha hb2 fun z hz hzb=>hd z hz (by simp [hzb])⟩;rcases List.mem_append.1 ((Qez s (x::a) b).mem_iff.1 hz) with h2 | h2
  ·
   rcases List.mem_cons.1 h2 with rfl | h2
   ·
    exact h1
   exact h1.trans (ha1 z h2)
  exact hb1 z h2
termination_by a b=>a.length+b.length
def Qaq:Nat->Nat->List Bool
 | 0,_=>[]
 | n+1,v=>v.testBit n::Qaq n v
def Qx0:List Bool->Nat->Nat
 | [],a=>a
 | b::l,a=>Qx0 l (2 * a+b.toNat)
def numB (l:List Bool):Nat:=Qx0 l 0
theorem Qal (n v:Nat):(Qaq n v).length=n:=by
 induction n with
 | zero=>rfl
 | succ n ih=>simp [Qaq,ih]
theorem QH7 (l:List Bool):∀ a,Qx0 l a=a * 2 ^ l.length+Qx0 l 0:=by
 induction l with
 | nil=>intro a;simp [Qx0]
 | cons b l ih =>
  intro a;simp only [Qx0];rw [ih (2 * a+b.toNat),ih (2 * 0+b.toNat),List.length_cons,Nat.pow_succ,Nat.add_mul,Nat.mul_zero,Nat.zero_add];rw [show 2 * a * 2 ^ l.length=a * (2 ^ l.length * 2) by rw [Nat.mul_comm 2 a,Nat.mul_assoc,Nat.mul_comm 2]];omega
theorem Qnl:numB []=0:=rfl
theorem Qht (b:Bool) (l:List Bool):numB (b::l)=b.toNat * 2 ^ l.length+numB l:=by
 unfold numB;simp only [Qx0];rw [QH7 l];simp
theorem Qoh (l m:List Bool):numB (l++m)=numB l * 2 ^ m.length+numB m:=by
 induction l with
 | nil=>simp [Qnl]
 | cons b l ih =>
  rw [List.cons_append,Qht,ih,Qht,List.length_append,Nat.pow_add,Nat.add_mul,Nat.mul_assoc];omega
theorem Qoi (l:List Bool) (b:Bool):numB (l++[b])=2 * numB l+b.toNat:=by
 rw [Qoh,Qht];simp [Qnl,Nat.mul_comm]
theorem Qe0 (l:List Bool):numB l < 2 ^ l.length:=by
 induction l with
 | nil=>simp [Qnl]
 | cons b l ih =>
  rw [Qht,List.length_cons,Nat.pow_succ];cases b <;> simp <;> omega
theorem Qdl (n v:Nat):numB (Qaq n v)=v % 2 ^ n:=by
 induction n with
 | zero=>simp [Qaq,Qnl,Nat.mod_one]
 | succ n ih =>
  rw [Qaq,Qht,ih,Qal,Nat.pow_succ,Nat.mod_mul,Nat.testBit_eq_decide_div_mod_eq];rcases Nat.mod_two_eq_zero_or_one (v / 2 ^ n) with h | h <;> rw [h] <;> simp
  omega
theorem Qi8 (m n v:Nat):Qaq (m+n) v=Qaq m (v / 2 ^ n)++Qaq n v:=by
 induction m with
 | zero=>simp [Qaq]
 | succ m ih =>
  rw [show m+1+n=(m+n)+1 by omega,Qaq,ih,Qaq,List.cons_append,Nat.testBit_div_two_pow,Nat.add_comm m n]
theorem Qk8 (n v:Nat):∀ k,n<=k->Qaq n (v % 2 ^ k)=Qaq n v:=by
 intro k
 induction n with
 | zero=>intro _;rfl
 | succ n ih =>
  intro h;rw [Qaq,Qaq,ih (by omega),Nat.testBit_mod_two_pow];simp [show n < k by omega]
theorem Qma (l:List Bool):Qaq l.length (numB l)=l:=by
 induction l with
 | nil=>rfl
 | cons b l ih =>
  rw [List.length_cons,Qaq,Qht];have h:=Qe0 l
  have e1:(b.toNat * 2 ^ l.length+numB l).testBit l.length=b:=by
   rw [Nat.testBit_eq_decide_div_mod_eq,Nat.mul_comm,Nat.mul_add_div (Nat.two_pow_pos _),Nat.div_eq_of_lt h];cases b <;> simp
  have e2:Qaq l.length (b.toNat * 2 ^ l.length+numB l)=l:=by
   have:=Qk8 l.length (b.toNat * 2 ^ l.length+numB l) l.length (Nat.le_refl _);rw [Nat.mul_comm,Nat.mul_add_mod,Nat.mod_eq_of_lt h,ih] at this;rw [Nat.mul_comm];exact this.symm
  rw [e1,e2]
theorem Qgx (n v:Nat):∀ i,i < n->(Qaq n v)[i]? = some (v.testBit (n - 1 - i)):=by
 induction n with
 | zero=>intro i h;omega
 | succ n ih =>
  intro i h;rw [Qaq];cases i with
  | zero=>simp
  | succ i =>
   rw [List.getElem?_cons_succ,ih i (by omega)]
   congr 2;omega
def Qam (l:List UInt8):List Bool:=l.flatMap fun b=>Qaq 8 b.toNat
theorem Qjq:Qam []=[]:=rfl
theorem Qdv (b:UInt8) (l:List UInt8):Qam (b::l)=Qaq 8 b.toNat++Qam l:=rfl
theorem Qge (l m:List UInt8):Qam (l++m)=Qam l++Qam m:=by simp [Qam]
theorem Qbd (l:List UInt8):(Qam l).length=8 * l.length:=by
 induction l with
 | nil=>rfl
 | cons b l ih=>rw [Qdv,List.length_append,Qal,ih,List.length_cons];omega
theorem Qjr (l:List UInt8):∀ i,i < 8 * l.length->(Qam l)[i]? = some ((l.getD (i / 8) 0).toNat.testBit (7 - i % 8)):=by
 induction l with
 | nil=>intro i h;simp at h
 | cons b l ih =>
  intro i h;rw [Qdv];by_cases h8:i < 8
  ·
   rw [List.getElem?_append_left (by rw [Qal];exact h8),Qgx 8 _ i h8];simp [show i / 8=0 by omega,show i % 8=i by omega]
  rw [List.getElem?_append_right (by rw [Qal];omega),Qal,ih (i - 8) (by simp at h;omega)];rw [show i / 8=(i - 8) / 8+1 by omega,show (i - 8) % 8=i % 8 by omega];rfl
theorem QB3 {a b:UInt8} (h:Qaq 8 a.toNat=Qaq 8 b.toNat):a=b:=by
 have:=congrArg numB h;rw [Qdl,Qdl,Nat.mod_eq_of_lt a.toNat_lt,Nat.mod_eq_of_lt b.toNat_lt] at this;exact UInt8.toNat_inj.1 this
theorem Qqz:∀ (l m:List UInt8),Qam l=Qam m->l=m
 | [],[],_=>rfl
 | [],b::m,h=>by have:=congrArg List.length h;simp [Qbd] at this
 | a::l,[],h=>by have:=congrArg List.length h;simp [Qbd] at this
 | a::l,b::m,h=>by
  rw [Qdv,Qdv] at h;obtain ⟨h1,h2⟩:=List.append_inj h (by simp [Qal]);rw [QB3 h1,Qqz l m h2]
def Qq0:List Bool->Nat->Nat->List UInt8
 | [],acc,k=>if k=0 then [] else [UInt8.ofNat (acc * 2 ^ (8 - k))]
 | b::l,acc,k=>if k=7 then UInt8.ofNat (2 * acc+b.toNat)::Qq0 l 0 0 else Qq0 l (2 * acc+b.toNat) (k+1)
def Qbo (l:List Bool):List UInt8:=Qq0 l 0 0
theorem Qmb (n:Nat):Qaq n 0=List.replicate n false:=by
 induction n with
 | zero=>rfl
 | succ n ih=>rw [Qaq,ih,Nat.zero_testBit];rfl
theorem ofNat_toNat {n:Nat} (h:n < 256):(UInt8.ofNat n).toNat=n:=by
 rw [UInt8.toNat_ofNat'];exact Nat.mod_eq_of_lt h
theorem Qx1 (l:List Bool):∀ (acc k:Nat),k<=7->acc < 2 ^ k ->
  Qam (Qq0 l acc k)=Qaq k acc++l++List.replicate (8 * ((k+l.length+7) / 8) - (k+l.length)) false:=by
 induction l with
 | nil =>
  intro acc k hk ha;rw [Qq0];by_cases h0:k=0
  ·
   subst h0;simp [Qjq,Qaq]
  rw [if_neg h0,Qdv,Qjq,List.append_nil,List.append_nil]
  have hlt:acc * 2 ^ (8 - k) < 256:=by
   have e:2 ^ k * 2 ^ (8 - k)=256:=by rw [<- Nat.pow_add,show k+(8 - k)=8 by omega]
   rw [<- e];exact Nat.mul_lt_mul_of_pos_right ha (Nat.two_pow_pos _)
  rw [ofNat_toNat hlt];have:=Qi8 k (8 - k) (acc * 2 ^ (8 - k));rw [show k+(8 - k)=8 by omega,Nat.mul_div_cancel _ (Nat.two_pow_pos _)] at this;rw [this]
  congr 1
  have h2:=Qk8 (8 - k) (acc * 2 ^ (8 - k)) (8 - k) (Nat.le_refl _);rw [Nat.mul_mod_left,Qmb] at h2;rw [<- h2]
  congr 1
  simp only [List.length_nil];omega
 | cons b l ih =>
  intro acc k hk ha;rw [Qq0];have hb:b.toNat<=1:=by cases b <;> simp
  have hbits:Qaq (k+1) (2 * acc+b.toNat)=Qaq k acc++[b]:=by
   have:=Qi8 k 1 (2 * acc+b.toNat);rw [this]
   congr 1
   ·
    congr 1;simp;omega
   simp only [Qaq];cases b <;> simp [Nat.testBit_zero]
  have hlt:2 * acc+b.toNat < 2 ^ (k+1):=by rw [Nat.pow_succ];omega
  by_cases h7:k=7
  ·
   subst h7;rw [if_pos rfl,Qdv,ofNat_toNat (by simpa using hlt),hbits,ih 0 0 (by omega) (by simp)];simp only [Qaq,List.nil_append,List.append_assoc,List.length_cons,List.singleton_append]
   congr 4
   omega
  rw [if_neg h7,ih _ (k+1) (by omega) hlt,hbits];simp only [List.append_assoc,List.length_cons,List.singleton_append];rw [show k+1+l.length=k+(l.length+1) by omega]
theorem Qc6 (l:List Bool):Qam (Qbo l)=l++List.replicate (8 * ((l.length+7) / 8) - l.length) false:=by
 have:=Qx1 l 0 0 (by omega) (by simp);simpa [Qaq,Qbo] using this
theorem Qcc (l:List Bool):(Qbo l).length=(l.length+7) / 8:=by
 have:=congrArg List.length (Qc6 l);rw [Qbd,List.length_append,List.length_replicate] at this;omega
theorem Qsn {o:List UInt8}{l:List Bool} (h:Qam o=l++List.replicate (8 * ((l.length+7) / 8) - l.length) false):o=Qbo l :=
 Qqz _ _ (by rw [h,Qc6])
theorem QB4 (l:List Bool):(Qam (Qbo l)).take l.length=l:=by rw [Qc6];simp
theorem Qso (l m:List Bool) (h:l.length % 8=0):Qbo (l++m)=Qbo l++Qbo m:=by
 refine (Qsn ?_).symm;rw [Qge,Qc6,Qc6,show 8 * ((l.length+7) / 8) - l.length=0 by omega,List.replicate_zero,List.append_nil,List.append_assoc,List.length_append]
 congr 3;omega
theorem Qoj (l:List Bool):Qbo (l++[false])=if l.length % 8=0 then Qbo l++[0] else Qbo l:=by
 symm
 refine Qsn ?_;have e:(l++[false]).length=l.length+1:=by simp
 rw [e];split
 ·
  rename_i h;rw [Qge,Qc6,show 8 * ((l.length+7) / 8) - l.length=0 by omega,List.replicate_zero,List.append_nil,List.append_assoc]
  congr 1
  rw [show 8 * ((l.length+1+7) / 8) - (l.length+1)=7 by omega];rfl
 rename_i h;rw [Qc6,List.append_assoc]
 congr 1
 rw [show 8 * ((l.length+7) / 8) - l.length=(8 * ((l.length+1+7) / 8) - (l.length+1))+1 by omega,List.replicate_succ];rfl
theorem Qx2 (k j:Nat) (hk:k<=7) (hj:j<=7):(128 / 2 ^ k).testBit (7 - j)=decide (j=k):=by
 have:128 / 2 ^ k=2 ^ (7 - k):=by
  rw [show (128:Nat)=2 ^ 7 from rfl,Nat.pow_div hk (by omega)]
 rw [this,Nat.testBit_two_pow];by_cases h:j=k
 ·
  subst h;simp
 simp [h];omega
theorem QB5 (l:List Bool) (y:UInt8) (hy:y.toNat=((Qbo (l++[false])).getD (l.length / 8) 0).toNat ||| 128 / 2 ^ (l.length % 8)) :
  Qbo (l++[true])=(Qbo (l++[false])).set (l.length / 8) y:=by
 symm
 refine Qsn ?_;have hol:(Qbo (l++[false])).length=(l.length+8) / 8:=by rw [Qcc,List.length_append];rfl
 have hob:=Qc6 (l++[false]);generalize Qbo (l++[false])=o at *;have e:(l++[true]).length=l.length+1:=by simp
 have e2:(l++[false]).length=l.length+1:=by simp
 rw [e];rw [e2] at hob;generalize hr:8 * ((l.length+1+7) / 8) - (l.length+1)=r at *;apply List.ext_getElem?;intro j;by_cases hj:j < 8 * o.length
 ·
  rw [Qjr _ j (by simpa using hj)];have h1:=Qjr o j hj;rw [hob] at h1;by_cases hji:j / 8=l.length / 8
  ·
   have h2:(o.set (l.length / 8) y).getD (j / 8) 0=y:=by
    rw [List.getD_eq_getElem?_getD,hji,List.getElem?_set_self (by omega)];rfl
   rw [h2,hy,Nat.testBit_or,Qx2 _ _ (by omega) (by omega),<- hji];by_cases hjl:j=l.length
   ·
    subst hjl;simp
   have hm:¬ j % 8=l.length % 8:=by omega
   rw [decide_eq_false hm,Bool.or_false,<- h1];by_cases hlt:j < l.length
   ·
    rw [List.append_assoc,List.append_assoc,List.getElem?_append_left hlt,List.getElem?_append_left hlt]
   rw [List.getElem?_append_right (by simp;omega),List.getElem?_append_right (by simp;omega)];simp
  have h2:(o.set (l.length / 8) y).getD (j / 8) 0=o.getD (j / 8) 0:=by
   rw [List.getD_eq_getElem?_getD,List.getElem?_set_ne (fun h=>hji h.symm),List.getD_eq_getElem?_getD]
  rw [h2,<- h1];have hjl:¬ j=l.length:=by omega
  by_cases hlt:j < l.length
  ·
   rw [List.append_assoc,List.append_assoc,List.getElem?_append_left hlt,List.getElem?_append_left hlt]
  rw [List.getElem?_append_right (by simp;omega),List.getElem?_append_right (by simp;omega)];simp
 rw [List.getElem?_eq_none (by rw [Qbd];simp;omega),List.getElem?_eq_none];simp;omega
theorem Qok (n v k:Nat) (h:k < n):(Qaq n v).take (k+1)=(Qaq n v).take k++[v.testBit (n - 1 - k)]:=by
 rw [List.take_add_one,Qgx n v k h];rfl
theorem Qgy (v i:Nat):(v / 2 ^ i) % 2=(v.testBit i).toNat:=by
 rw [Nat.testBit_eq_decide_div_mod_eq];rcases Nat.mod_two_eq_zero_or_one (v / 2 ^ i) with h | h <;> rw [h] <;> rfl
def Qgf (l:List Bool) (at_ n:Nat):Nat×Int:=if l.length < at_+n then (0,10) else (numB ((l.drop at_).take n),0)
def unS:List Bool->Nat->Nat->Nat×Int
 | [],_,_=>(0,10)
 | false::_,_,n=>(n,0)
 | true::r,most,n=>if n=most then (0,3) else unS r most (n+1)
def bI (l:List Bool):List Int:=l.map fun b=>if b then 1 else 0
theorem Qbi (l:List Bool):(bI l).length=l.length:=by simp [bI]
theorem Qc1 (l m:List Bool):bI (l++m)=bI l++bI m:=by simp [bI]
theorem Qmu {l:List Bool}{i:Nat} (h:i < l.length):(bI l).getD i 0=if l.getD i false then 1 else 0:=by
 simp [bI,List.getD_eq_getElem?_getD,List.getElem?_eq_getElem h]
theorem QMt (l:List Bool) (k:Nat):(bI l).drop k=bI (l.drop k):=by simp [bI,List.map_drop]
theorem QEn (l:List Bool) (k:Nat):(bI l).take k=bI (l.take k):=by simp [bI,List.map_take]
theorem Qx3 (v j:Nat) (h:j < 8):(Qaq 8 v).take (j+1)=(Qaq 8 v).take j++[v.testBit (7 - j)]:=by
 rw [List.take_add_one,Qgx 8 v j h];rfl
theorem Qzy (s:List UInt8) (hs:s.length<=100000000000) (w:World):Does Tryz.prog 20 #[Str s] w
  fun v w'=>∃ a cap,Heap w [] w' [Res.row 3 1 a (bI (Qam s)).length cap (Qap (bI (Qam s)))]/\v=.slice a (bI (Qam s)).length cap:=by
 refine En [Str s] 28 Tryz.func20 ?_;refine VS [0] ?_;refine VS [0,3] ?_;refine VS [0,3,4] ?_;refine Qab ?_;refine Qac [0,3,4] (fun m e w'=>∃ (i cap:Nat) (a:Option Addr),Is e [(0,Str s),(3,.slice a (bI (Qam (s.take i))).length cap),(4,.int .i64 i)]/\Heap w [] w' [Res.row 3 1 a (bI (Qam (s.take i))).length cap (Qap (bI (Qam (s.take i))))]/\i<=s.length/\m=s.length - i) s.length ?_ ?_
 ·
  refine Qs ?_;exact ⟨0,0,none,rfl,Qjp,by omega,rfl⟩
 rintro m e w1 ⟨i,cap,a,rfl,hH,hi,rfl⟩;refine VS [0,3,4,9] ?_;refine VD (fun h=>?_) (fun h=>?_)
 ·
  have hi':i < s.length:=by omega
  have htk:Qam (s.take (i+1))=Qam (s.take i)++Qaq 8 (s.getD i 0).toNat:=by
   rw [List.take_add_one,List.getElem?_eq_getElem hi',Option.toList_some,Qge,Qdv,Qjq,List.append_nil,List.getD_eq_getElem?_getD,List.getElem?_eq_getElem hi',Option.getD_some]
  have hbl:(Qam (s.take i)).length=8 * i:=by rw [Qbd,List.length_take];omega
  have hc8:=(s.getD i 0).toNat_lt;refine VC_skip ?_;refine VB ?_;generalize Qam (s.take i)=O at *;refine VS [0,3,4,5] ?_;refine Qab ?_;refine Qac [0,3,4,5] (fun m e w'=>∃ (j cap:Nat) (a:Option Addr),Is e [(0,Str s),(3,.slice a (bI (O++(Qaq 8 (s.getD i 0).toNat).take j)).length cap),(4,.int .i64 i),(5,.int .i64 (7 - j))]/\Heap w [] w' [Res.row 3 1 a (bI (O++(Qaq 8 (s.getD i 0).toNat).take j)).length cap (Qap (bI (O++(Qaq 8 (s.getD i 0).toNat).take j)))]/\j<=8/\m=8 - j) 8 ?_ ?_
  ·
   refine Qs ?_;refine ⟨0,cap,a,?_,?_,by omega,rfl⟩
   ·
    rw [List.take_zero,List.append_nil];rfl
   rw [List.take_zero,List.append_nil];exact hH
  clear hH;rintro m e w2 ⟨j,cap,a,rfl,hH,hj,rfl⟩;refine VS [0,3,4,5,13] ?_;refine VD (fun h=>?_) (fun h=>?_)
  ·
   have hj8:j < 8:=by omega
   have hsu:=Qx3 (s.getD i 0).toNat j hj8;refine VC_skip ?_;refine VB ?_;have hsh:shN IntKind.i64 ((7 - (j:Int)) % 18446744073709551616)=7 - j:=Qr9 (by omega) (by simp [IntKind.bits];omega) (by decide);have hbit:=Qgy (s.getD i 0).toNat (7 - j);refine VQ [0,3,4,5] fun K hK=>?_;rw [hsh,Qgd];have hle:=Nat.div_le_self (s.getD i 0).toNat (2 ^ (7 - j));generalize (s.getD i 0).toNat / 2 ^ (7 - j)=q at *;refine ⟨⟨by omega,by omega⟩,I64.mk (by omega) (by omega),by omega,⟨by omega,by omega⟩,⟨by decide,by decide⟩,?_⟩;rw [show Int.toNat 1=1 from rfl,Int.toNat_natCast,Nat.and_one_is_mod,hbit];have hv:(((s.getD i 0).toNat.testBit (7 - j)).toNat:Int)=if (s.getD i 0).toNat.testBit (7 - j) then 1 else 0:=by cases (s.getD i 0).toNat.testBit (7 - j) <;> rfl
   have hn:bI (O++(Qaq 8 (s.getD i 0).toNat).take (j+1))=bI (O++(Qaq 8 (s.getD i 0).toNat).take j)++[(((s.getD i 0).toNat.testBit (7 - j)).toNat:Int)]:=by
    rw [hsu,<- List.append_assoc,Qc1,hv];rfl
   have hln:(bI (O++(Qaq 8 (s.getD i 0).toNat).take j)).length=8 * i+j:=by rw [Qbi,List.length_append,hbl,List.length_take,Qal];omega
   generalize (((s.getD i 0).toNat.testBit (7 - j)).toNat:Int)=v at *;generalize bI (O++(Qaq 8 (s.getD i 0).toNat).take j)=OO at *;refine Qb4 (xs:=[.tmp 24]) Tryz.underlying36 sz3 rfl rfl rfl (by omega) ?_;refine Qs ?_;refine ⟨by simp [Value.cells],?_⟩;refine Qai ?_;refine Qs ?_;refine Qf0 hH 0 rfl Tryz.underlying36 zi3 (fun h=>by (first | omega | (simp;done) | (simp;omega))) fun a' cap' w5 hc' hH2=>?_;(try refine Qs ?_);rw [<- hn] at hH2 ⊢;apply hK;clear hK;refine Qah ?_;refine VS [0,3,4,5] ?_;refine Qaa ?_;refine Qs ?_;exact ⟨8 - (j+1),by omega,j+1,cap',a',by rw [show (7:Int) - ((j+1:Nat):Int)=7 - (j:Int) - 1 by omega];rfl,hH2,by omega,rfl⟩
  obtain rfl:j=8:=by omega
  refine Qad rfl ?_;refine Qah ?_;refine VS [0,3,4] ?_;refine Qaa ?_;refine Qs ?_;have e8:(Qaq 8 (s.getD i 0).toNat).take 8=Qaq 8 (s.getD i 0).toNat:=List.take_of_length_le (by rw [Qal];omega);rw [e8] at hH;exact ⟨s.length - (i+1),by omega,i+1,cap,a,by rw [htk,<- e8];rfl,by rw [htk];exact hH,by omega,rfl⟩
 obtain rfl:i=s.length:=by omega
 rw [List.take_length] at *;refine Qad rfl ?_;refine VS [2] ?_;exact VC_ret (VX_ret1 rfl rfl ⟨a,cap,hH,rfl⟩)
theorem Quw (l:List Bool) (a:Option Addr) (c:Nat) (hl:l.length<=64) (w:World) (hr:RS w a l.length 1 (Qap (bI l))) :
  Does Tryz.prog 124 #[.slice a l.length c] w fun v w'=>w'=w/\v=.int .u64 (numB l:Nat):=by
 refine En [.slice a l.length c] 20 Tryz.func124 ?_;refine VS [0] ?_;refine VS [0,3] ?_;refine VS [0,3,4] ?_;refine Qab ?_;refine Qac [0,3,4] (fun m e w'=>∃ (i:Nat),Is e [(0,.slice a l.length c),(3,.int .u64 (numB (l.take i):Nat)),(4,.int .i64 i)]/\Is w' w/\i<=l.length/\m=l.length - i) l.length ?_ ?_
 ·
  refine Qs ?_;exact ⟨0,rfl,rfl,by omega,rfl⟩
 rintro m e w' ⟨i,rfl,rfl,hi,rfl⟩;refine VS [0,3,4,8] ?_;refine VD (fun h=>?_) (fun h=>?_)
 ·
  have hi':i < l.length:=by omega
  have htk:numB (l.take (i+1))=2 * numB (l.take i)+(l.getD i false).toNat:=by
   rw [List.take_add_one,List.getElem?_eq_getElem hi',Option.toList_some,Qoi,List.getD_eq_getElem?_getD,List.getElem?_eq_getElem hi',Option.getD_some]
  have hlt:=Qe0 (l.take (i+1));have hp:2 ^ (l.take (i+1)).length<=2 ^ 64:=Nat.pow_le_pow_right (by omega) (by rw [List.length_take];omega);refine VC_skip ?_;refine VB ?_;obtain ⟨p,rfl⟩:=Qbb hr (by omega);have hc:=Qhc hr (show i < (bI l).length by rw [Qbi];omega);rw [Qmu hi'] at hc;refine VQ [0,3,4] fun K hK=>?_;refine ⟨⟨by omega,by omega⟩,_,hc,?_⟩;(try refine Qs ?_)
  have he:((numB (l.take i):Int) * 2 % 18446744073709551616+(if l.getD i false=true then 1 else 0) % 18446744073709551616) % 18446744073709551616=((numB (l.take (i+1)):Nat):Int):=by
   rw [htk] at hlt ⊢;cases l.getD i false <;> simp only [Bool.toNat_true,Bool.toNat_false,Bool.false_eq_true,if_true,if_false] at hlt ⊢ <;> omega
  rw [he];apply hK;clear hK;refine Qah ?_;refine VS [0,3,4] ?_;refine Qaa ?_;refine Qs ?_;exact ⟨l.length - (i+1),by omega,i+1,rfl,rfl,by omega,rfl⟩
 obtain rfl:i=l.length:=by omega
 rw [List.take_length];refine Qad rfl ?_;refine VS [2] ?_;exact VC_ret (VX_ret1 rfl rfl ⟨rfl,rfl⟩)
theorem QEo {α:Type} (A R:List α) (x b:α) {k:Nat} (hk:A.length=k):(A++(x::R)).take k++[b]++(A++(x::R)).drop (k+[b].length)=A++(b::R):=by
 subst hk;simp
theorem Qej (v n:Nat) (hv:v < 18446744073709551616) (hn:n<=64) (w:World):Does Tryz.prog 66 #[.int .u64 v,.int .i64 n] w
  fun r w'=>∃ g,Heap w [] w' [Res.row 3 1 (some ⟨g,0,none⟩) n n (Qap (bI (Qaq n v)))]/\r=.tuple #[.slice (some ⟨g,0,none⟩) n n,.bool (decide (v / 2 ^ n=0))]:=by
 refine En [.int .u64 v,.int .i64 n] 33 Tryz.func66 ?_;refine VS [0,1] ?_;refine VQ [0,1,13] fun K hK=>?_
 suffices out:K [(0,.int .u64 v),(1,.int .i64 n),(13,.bool false)] w by
  refine ⟨fun h=>?_,fun h=>?_⟩
  ·
   have e:decide (64 < (n:Int))=false:=by simp;omega
   rw [e];exact out
  exact absurd h (by omega)
 apply hK;clear hK;refine Qaf rfl rfl (fun h=>by simp at h) (fun h=>VC_skip ?_);clear h;refine VQ [0,1,6] fun K hK=>?_;refine Qba Tryz.underlying36 zi3 ?_;refine Qs ?_;refine ⟨n,n,⟨rfl,rfl,by omega,by omega,by omega⟩,?_⟩;have hH:=(Heap.start w).row 3 (n:=n) (cap:=n) (sz:=1) (List.replicate n (.int .i64 0)) [] (by simp) (by simp) (Nat.le_refl _) (by have:maxLen=9223372036854775807:=rfl;omega);rw [List.append_nil] at hH;generalize w.alloc (Obj.cells (List.replicate n (Value.int .i64 0)).toArray 3)=w1 at *;generalize w.heap.size=g at *
 have hH:Heap w [] w1 [Res.row 3 1 (some ⟨g,0,none⟩) n n (Qap (List.replicate (n - 0) 0++bI (Qaq 0 v)))]:=by
  have e:Qap (List.replicate (n - 0) 0++bI (Qaq 0 v))=List.replicate n (Value.int .i64 0):=by simp [Qaq,bI,Qap]
  rw [e];exact hH
 (try refine Qs ?_);apply hK;clear hK;refine VS [0,6,7] ?_;refine Qab ?_;refine Qac [0,6,7] (fun m e w'=>∃ (j:Nat),Is e [(0,.int .u64 (v / 2 ^ j:Nat)),(6,.slice (some ⟨g,0,none⟩) n n),(7,.int .i64 ((n:Int) - 1 - j))]/\Heap w [] w' [Res.row 3 1 (some ⟨g,0,none⟩) n n (Qap (List.replicate (n - j) 0++bI (Qaq j v)))]/\j<=n/\m=n - j) n ?_ ?_
 ·
  refine Qs ?_;exact ⟨0,by rw [Nat.pow_zero,Nat.div_one,show (n:Int) - 1 - ((0:Nat):Int)=(n:Int) - 1 by omega];rfl,hH,by omega,rfl⟩
 clear hH;rintro m e w2 ⟨j,rfl,hH,hj,rfl⟩;refine VS [0,6,7,19] ?_;refine VD (fun h=>?_) (fun h=>?_)
 ·
  have hjn:j < n:=by omega
  refine VC_skip ?_;refine VB ?_;have hbit:=Qgy v j;have hdiv:v / 2 ^ (j+1)=v / 2 ^ j / 2:=by rw [Nat.pow_succ,Nat.div_div_eq_div_mul]
  have hq:v / 2 ^ j < 18446744073709551616:=Nat.lt_of_le_of_lt (Nat.div_le_self _ _) hv;generalize v / 2 ^ j=q at *;refine VQ [0,6,7] fun K hK=>?_;refine ⟨by omega,by omega,I64.mk (by omega) (by omega),⟨by omega,by omega⟩,?_⟩;have hto:((n:Int) - 1 - j).toNat=n - 1 - j:=by omega
  rw [hto];refine MemK_store ?_;refine Qs ?_;refine Qas hH 0 (o:=n - 1 - j) (vs:=[.int .i64 ((q:Int) % 2)]) rfl (by simp [Qa8]) rfl (by kernel_rfl) (by simp only [List.length_singleton,Qc8,List.length_append,List.length_replicate,Qbi,Qal];omega) (by simp [Value.oneCell']) fun w3 hH2=>?_;simp only [List.set_cons_zero] at hH2
  have hset:∀ (b:Int),b=(if v.testBit j then 1 else 0)->(Qap (List.replicate (n - j) 0++bI (Qaq j v))).take (n - 1 - j)++[.int .i64 b]++(Qap (List.replicate (n - j) 0++bI (Qaq j v))).drop (n - 1 - j+[Value.int .i64 b].length)=Qap (List.replicate (n - (j+1)) 0++bI (Qaq (j+1) v)):=by
   intro b hb
   have e1:Qap (List.replicate (n - j) 0++bI (Qaq j v))=List.replicate (n - 1 - j) (.int .i64 0)++(.int .i64 0::Qap (bI (Qaq j v))):=by
    rw [show n - j=(n - 1 - j)+1 by omega,List.replicate_succ'];simp [Qap]
   have e2:Qap (List.replicate (n - (j+1)) 0++bI (Qaq (j+1) v))=List.replicate (n - 1 - j) (.int .i64 0)++(.int .i64 b::Qap (bI (Qaq j v))):=by
    rw [show n - (j+1)=n - 1 - j by omega,hb];simp [Qap,Qaq,bI]
   rw [e1,e2];exact QEo _ _ _ _ (by simp)
  have hb:(q:Int) % 2=(if v.testBit j then 1 else 0):=by
   cases hq2:v.testBit j <;> rw [hq2] at hbit <;> simp at hbit ⊢ <;> omega
  rw [hset _ hb] at hH2;(try refine Qs ?_);apply hK;clear hK;refine VS [0,6,7] ?_;refine Qah ?_;refine VS [0,6,7] ?_;refine Qaa ?_;refine Qs ?_;refine ⟨n - (j+1),by omega,j+1,?_,hH2,by omega,rfl⟩;rw [hdiv,show (n:Int) - 1 - ((j+1:Nat):Int)=(n:Int) - 1 - j - 1 by omega,show (q:Int) / 2 % 18446744073709551616=((q / 2:Nat):Int) by omega];rfl
 obtain rfl:j=n:=by omega
 refine Qad rfl ?_;refine VS [4,5] ?_;refine VC_ret (Qat rfl rfl rfl ⟨g,?_,?_⟩)
 ·
  rw [Nat.sub_self,List.replicate_zero,List.nil_append] at hH;exact hH
 have e:decide (((v / 2 ^ j:Nat):Int)=0)=decide (v / 2 ^ j=0):=decide_eq_decide.2 (by omega);rw [e]
def SL (w:World) (a:Option Addr) (n c:Nat) (xs:List Value):Prop:=RS w a n 1 xs/\n<=c/\∀ ad,a=some ad->ad.spot=none
theorem SL.cut {w:World}{a:Option Addr}{n c:Nat}{xs:List Value} (h:SL w a n c xs) (k m:Nat) (hk:k+m<=n):RS w (if c=k then a else a.map fun x=>x.add k) m 1 ((xs.drop k).take m):=by
 obtain ⟨h1,h2,h3⟩:=h;by_cases hc:c=k
 ·
  obtain rfl:m=0:=by omega
  rw [if_pos hc,List.take_zero];exact ⟨rfl,fun _=>rfl,fun ad _ j u hu=>by simp at hu⟩
 rw [if_neg hc];cases a with
 | none =>
  have h4:=h1.2.1 rfl;obtain rfl:m=0:=by omega
  exact ⟨by simp,fun _=>rfl,fun ad hd=>by cases hd⟩
 | some ad =>
  have h4:=(h1.drop (h3 ad rfl) k (by omega)).take m (by omega);simpa using h4
def Qga (ws ov:List Nat):Nat->Option Nat
 | 0=>none
 | n+1=>match Qga ws ov n with
  | none=>if ov.getD n 0=0 then some n else none
  | some a=>if ov.getD n 0=0/\ws.getD n 0 < ws.getD a 0 then some n else some a
def Qc9 (ws ov:List Nat):Nat:=(Qga ws ov ws.length).getD 0
def Qgg (s:List Nat×List Nat):List Nat×List Nat :=
 let next:=s.1.length
 let a:=Qc9 s.1 s.2
 let ov1:=s.2.set a next
 let b:=Qc9 s.1 ov1
 (s.1++[s.1.getD a 0+s.1.getD b 0],ov1.set b next++[0])
def Qi9:Nat->List Nat×List Nat->List Nat×List Nat
 | 0,s=>s
 | k+1,s=>Qgg (Qi9 k s)
def Qbz (ov:List Nat):Nat->Nat->Nat
 | 0,_=>0
 | f+1,i=>if ov.getD i 0=0 then 0 else Qbz ov f (ov.getD i 0)+1
def Qp1 (w:List Nat):List Nat:=(Qi9 (w.length - 1) (w,List.replicate w.length 0)).2
def Qcf (w:List Nat):List Nat:=(List.range w.length).map fun i=>Qbz (Qp1 w) (2 * w.length) i
def maxL (l:List Nat):Nat:=l.foldl max 0
def Qkk (most:Nat):Nat->List Nat->List Nat
 | 0,own=>Qcf own
 | f+1,own=>if maxL (Qcf own)<=most then Qcf own else Qkk most f (own.map fun x=>x / 2+1)
structure IsLeast (ws ov:List Nat) (a:Nat):Prop where
 lt:a < ws.length
 free:ov.getD a 0=0
 le:∀ i,i < ws.length->ov.getD i 0=0->ws.getD a 0 < ws.getD i 0∨(ws.getD a 0=ws.getD i 0/\a<=i)
theorem IsLeast.unique {ws ov:List Nat}{a b:Nat} (h:IsLeast ws ov a) (k:IsLeast ws ov b):a=b:=by
 have h1:=h.le b k.lt k.free;have h2:=k.le a h.lt h.free;omega
theorem Qia (ws ov:List Nat):∀ n,Qga ws ov n=none->∀ i,i < n->ov.getD i 0≠0
 | 0,_,i,h=>by omega
 | n+1,h,i,hi=>by
  rw [Qga] at h;cases hl:Qga ws ov n with
  | none =>
   rw [hl] at h;simp only at h;split at h
   ·
    cases h
   rename_i h0;rcases Nat.lt_or_ge i n with h2 | h2
   ·
    exact Qia ws ov n hl i h2
   rw [show i=n by omega];exact h0
  | some a=>rw [hl] at h;simp only at h;split at h <;> cases h
theorem Qkl (ws ov:List Nat):∀ n a,Qga ws ov n=some a->a < n/\ov.getD a 0=0/\∀ i,i < n->ov.getD i 0=0->ws.getD a 0 < ws.getD i 0∨(ws.getD a 0=ws.getD i 0/\a<=i)
 | 0,a,h=>by cases h
 | n+1,a,h=>by
  rw [Qga] at h;cases hl:Qga ws ov n with
  | none =>
   rw [hl] at h;simp only at h;have hn:=Qia ws ov n hl;split at h
   ·
    rename_i h0;cases h;refine ⟨by omega,h0,fun i hi hf=>?_⟩;rcases Nat.lt_or_ge i n with h2 | h2
    ·
     exact absurd hf (hn i h2)
    right;rw [show i=n by omega];exact ⟨rfl,Nat.le_refl _⟩
   cases h
  | some b =>
   rw [hl] at h;simp only at h;obtain ⟨h1,h2,h3⟩:=Qkl ws ov n b hl;split at h
   ·
    rename_i h0;cases h;refine ⟨by omega,h0.1,fun i hi hf=>?_⟩;rcases Nat.lt_or_ge i n with h4 | h4
    ·
     have:=h3 i h4 hf;omega
    right;rw [show i=n by omega];exact ⟨rfl,Nat.le_refl _⟩
   rename_i h0;cases h;refine ⟨by omega,h2,fun i hi hf=>?_⟩;rcases Nat.lt_or_ge i n with h4 | h4
   ·
    exact h3 i h4 hf
   obtain rfl:i=n:=by omega
   rcases Nat.lt_or_ge (ws.getD i 0) (ws.getD a 0) with h5 | h5
   ·
    exact absurd ⟨hf,h5⟩ h0
   omega
theorem Qux {ws ov:List Nat}{i:Nat} (hi:i < ws.length) (hf:ov.getD i 0=0):IsLeast ws ov (Qc9 ws ov):=by
 unfold Qc9;cases hl:Qga ws ov ws.length with
 | none=>exact absurd hf (Qia ws ov _ hl i hi)
 | some a =>
  obtain ⟨h1,h2,h3⟩:=Qkl ws ov _ a hl;exact ⟨h1,h2,h3⟩
def Qbv (f:Nat->Nat):Nat->Nat
 | 0=>0
 | n+1=>Qbv f n+f n
theorem Qcr {f g:Nat->Nat}:∀ n,(∀ i,i < n->f i=g i)->Qbv f n=Qbv g n
 | 0,_=>rfl
 | n+1,h=>by rw [Qbv,Qbv,Qcr n fun i hi=>h i (by omega),h n (by omega)]
theorem Qja (f g:Nat->Nat):∀ n,Qbv (fun i=>f i+g i) n=Qbv f n+Qbv g n
 | 0=>rfl
 | n+1=>by rw [Qbv,Qbv,Qbv,Qja f g n];omega
theorem Qhu (a c:Nat):∀ n,Qbv (fun i=>if i=a then c else 0) n=if a < n then c else 0
 | 0=>by simp [Qbv]
 | n+1=>by
  rw [Qbv,Qhu a c n];by_cases h1:a < n
  ·
   rw [if_pos h1,if_neg (by omega),if_pos (by omega)];rfl
  by_cases h2:n=a
  ·
   subst h2;simp
  rw [if_neg h1,if_neg h2,if_neg (by omega)]
theorem Qnm (f:Nat->Nat):∀ n i,i < n->f i<=Qbv f n
 | 0,i,h=>by omega
 | n+1,i,h=>by
  rw [Qbv];rcases Nat.lt_or_ge i n with h1 | h1
  ·
   have:=Qnm f n i h1;omega
  rw [show i=n by omega];omega
theorem Qnn (f:Nat->Nat) (c:Nat):∀ n,(∀ i,i < n->f i<=c)->Qbv f n<=n * c
 | 0,_=>by simp [Qbv]
 | n+1,h=>by
  rw [Qbv,Nat.succ_mul];have h1:=Qnn f c n fun i hi=>h i (by omega);have h2:=h n (by omega);omega
theorem Quy {f:Nat->Nat}{n a b:Nat} (ha:a < n) (hb:b < n) (hab:a≠b):f a+f b<=Qbv f n:=by
 have e:Qbv f n=Qbv (fun i=>if i=a then f a else 0) n+Qbv (fun i=>if i=a then 0 else f i) n:=by
  rw [<- Qja];exact Qcr n fun i _=>by split <;> simp_all
 have h2:=Qnm (fun i=>if i=a then 0 else f i) n b hb;simp only [if_neg (Ne.symm hab)] at h2;rw [e,Qhu,if_pos ha];omega
theorem Qjb {f:Nat->Nat}{n a b:Nat} (ha:a < n) (hb:b < n) (hab:a≠b):Qbv (fun i=>if i=a∨i=b then 0 else f i) n+(f a+f b)=Qbv f n:=by
 have e:Qbv f n=Qbv (fun i=>if i=a∨i=b then 0 else f i) n+(Qbv (fun i=>if i=a then f a else 0) n+Qbv (fun i=>if i=b then f b else 0) n):=by
  rw [<- Qja,<- Qja];refine Qcr n fun i _=>?_;by_cases h1:i=a
  ·
   subst h1;simp [hab]
  by_cases h2:i=b
  ·
   subst h2;simp [h1]
  simp [h1,h2]
 rw [e,Qhu,Qhu,if_pos ha,if_pos hb]
def fib:Nat->Nat
 | 0=>0
 | 1=>1
 | n+2=>fib (n+1)+fib n
theorem Qsp:∀ n,fib n<=fib (n+1)
 | 0=>by decide
 | n+1=>by rw [fib];omega
theorem Qzz {m n:Nat} (h:m<=n):fib m<=fib n:=by
 induction n with
 | zero=>rw [show m=0 by omega];exact Nat.le_refl _
 | succ n ih =>
  rcases Nat.lt_or_ge m (n+1) with h1 | h1
  ·
   exact Nat.le_trans (ih (by omega)) (Qsp n)
  rw [show m=n+1 by omega];exact Nat.le_refl _
structure Grown (w:List Nat) (k:Nat) (ws ov:List Nat) (h:Nat->Nat):Prop where
 lws:ws.length=w.length+k
 lov:ov.length=w.length+k
 up:∀ i,i < w.length+k->ov.getD i 0=0∨(i < ov.getD i 0/\w.length<=ov.getD i 0/\ov.getD i 0 < w.length+k)
 roots:Qbv (fun i=>if ov.getD i 0=0 then 1 else 0) (w.length+k)+k=w.length
 weight:Qbv (fun i=>if ov.getD i 0=0 then ws.getD i 0 else 0) (w.length+k)=Qbv (fun i=>w.getD i 0) w.length
 two:∀ j,w.length<=j->j < w.length+k->∃ a b,a < j/\b < j/\a≠b/\ov.getD a 0=j/\ov.getD b 0=j/\∀ i,ov.getD i 0=j->i=a∨i=b
 hup:∀ i,i < w.length+k->ov.getD i 0≠0->h i+1<=h (ov.getD i 0)
 hfib:∀ i,i < w.length+k->fib (h i+2)<=ws.getD i 0
 deep:∀ i,i < w.length+k->1<=h i->∃ y,y < w.length+k/\ov.getD y 0≠0/\fib (h i+1)<=ws.getD y 0
 order:∀ y r,y < w.length+k->r < w.length+k->ov.getD y 0≠0->ov.getD r 0=0->ws.getD y 0<=ws.getD r 0
theorem Qdm (n i:Nat):(List.replicate n (0:Nat)).getD i 0=0:=by
 rw [List.getD_eq_getElem?_getD,List.getElem?_replicate];split <;> rfl
theorem Grown.start (w:List Nat) (h2:1<=w.length) (h1:∀ i,i < w.length->1<=w.getD i 0):Grown w 0 w (List.replicate w.length 0) (fun _=>0) where
 lws:=rfl
 lov:=by simp
 up i _:=.inl (Qdm _ _)
 roots:=by
  have:Qbv (fun i=>if (List.replicate w.length 0).getD i 0=0 then 1 else 0) w.length=Qbv (fun _=>1) w.length:=Qcr _ fun i _=>by rw [if_pos (Qdm _ _)]
  have h:∀ n,Qbv (fun _=>1) n=n:=fun n=>by induction n with
   | zero=>rfl
   | succ n ih=>rw [Qbv,ih]
  rw [Nat.add_zero,Nat.add_zero,this,h]
 weight:=Qcr _ fun i _=>by rw [if_pos (Qdm _ _)]
 two j h3 h4:=by omega
 hup i hi h:=absurd (Qdm _ _) h
 hfib i hi:=by have:=h1 i (by simpa using hi);simpa [fib] using this
 deep i hi h:=by simp at h
 order y r _ _ h:=absurd (Qdm _ _) h
theorem Qcx {l:List Nat}{i v:Nat} (h:i < l.length):(l.set i v).getD i 0=v:=by
 rw [List.getD_eq_getElem?_getD,List.getElem?_set_self h];rfl
theorem Qcz {l:List Nat}{i j v:Nat} (h:i≠j):(l.set i v).getD j 0=l.getD j 0:=by
 rw [List.getD_eq_getElem?_getD,List.getElem?_set_ne h,List.getD_eq_getElem?_getD]
theorem Qcs {l m:List Nat}{i:Nat} (h:i < l.length):(l++m).getD i 0=l.getD i 0:=by
 rw [List.getD_eq_getElem?_getD,List.getElem?_append_left h,List.getD_eq_getElem?_getD]
theorem Qjc {l:List Nat}{x:Nat}:(l++[x]).getD l.length 0=x:=by
 rw [List.getD_eq_getElem?_getD,List.getElem?_append_right (Nat.le_refl _),Nat.sub_self];rfl
theorem Qkm {l:List Nat}{i:Nat} (h:l.length<=i):l.getD i 0=0:=by
 rw [List.getD_eq_getElem?_getD,List.getElem?_eq_none h];rfl
theorem Qkn {ov:List Nat}:∀ n,0 < Qbv (fun i=>if ov.getD i 0=0 then 1 else 0) n->∃ i,i < n/\ov.getD i 0=0
 | 0,h=>by simp [Qbv] at h
 | n+1,h=>by
  rw [Qbv] at h;by_cases h0:ov.getD n 0=0
  ·
   exact ⟨n,by omega,h0⟩
  rw [if_neg h0] at h;obtain ⟨i,hi,hf⟩:=Qkn n (by omega);exact ⟨i,by omega,hf⟩
theorem Grown.pick {w:List Nat}{k:Nat}{ws ov:List Nat}{h:Nat->Nat} (g:Grown w k ws ov h) (hk:k+1 < w.length) :
  IsLeast ws ov (Qc9 ws ov)/\IsLeast ws (ov.set (Qc9 ws ov) ws.length) (Qc9 ws (ov.set (Qc9 ws ov) ws.length))/\Qc9 ws (ov.set (Qc9 ws ov) ws.length)≠Qc9 ws ov/\ov.getD (Qc9 ws (ov.set (Qc9 ws ov) ws.length)) 0=0:=by
 have hr:=g.roots;have hlw:=g.lws;have hlo:=g.lov;obtain ⟨i,hi,hf⟩:=Qkn (ov:=ov) (w.length+k) (by omega);have ha:=Qux (ws:=ws) (ov:=ov) (by omega) hf;generalize Qc9 ws ov=a at *;have ha1:=ha.lt
 obtain ⟨j,hj,hf2⟩:=Qkn (ov:=ov.set a ws.length) (w.length+k) (by
  have e:Qbv (fun i=>if (ov.set a ws.length).getD i 0=0 then 1 else 0) (w.length+k)+Qbv (fun i=>if i=a then 1 else 0) (w.length+k)=Qbv (fun i=>if ov.getD i 0=0 then 1 else 0) (w.length+k):=by
   rw [<- Qja];refine Qcr _ fun i _=>?_;by_cases hia:i=a
   ·
    subst hia;rw [Qcx (by omega),if_neg (by omega),if_pos rfl,if_pos ha.free]
   rw [Qcz (fun x=>hia x.symm),if_neg hia];rfl
  rw [Qhu,if_pos (by omega)] at e;omega)
 have hb:=Qux (ws:=ws) (ov:=ov.set a ws.length) (by omega) hf2;generalize Qc9 ws (ov.set a ws.length)=b at *
 have hne:b≠a:=fun e=>by
  have:=hb.free;rw [e,Qcx (by omega)] at this;omega
 exact ⟨ha,hb,hne,by rw [<- Qcz (v:=ws.length) (fun x=>hne x.symm)];exact hb.free⟩
theorem Grown.step {w:List Nat}{k:Nat}{ws ov:List Nat}{h:Nat->Nat} (g:Grown w k ws ov h) (hk:k+1 < w.length) :
  ∃ h',Grown w (k+1) (Qgg (ws,ov)).1 (Qgg (ws,ov)).2 h':=by
 obtain ⟨ha,hb,hne,hbf⟩:=g.pick hk;unfold Qgg;simp only;generalize Qc9 ws ov=a at *;generalize Qc9 ws (ov.set a ws.length)=b at *;have hlw:=g.lws;have hlo:=g.lov;have ha1:=ha.lt;have hb1:=hb.lt;have haf:=ha.free;have hwab:ws.getD a 0<=ws.getD b 0:=by have:=ha.le b hb1 hbf;omega
 have hbl:∀ i,i < ws.length->i≠a->ov.getD i 0=0->ws.getD b 0<=ws.getD i 0:=fun i hi hia hf=>by
  have:=hb.le i hi (by rw [Qcz (fun x=>hia x.symm)];exact hf);omega
 rw [hlw] at hb ha1 hb1 hbl ⊢;generalize hn:w.length+k=n at *
 have o1:∀ i,i < n->((ov.set a n).set b n++[0]).getD i 0=if i=a∨i=b then n else ov.getD i 0:=fun i hi=>by
  rw [Qcs (by simp;omega)];by_cases e1:i=b
  ·
   subst e1;rw [Qcx (by simp;omega),if_pos (.inr rfl)]
  rw [Qcz (fun x=>e1 x.symm)];by_cases e2:i=a
  ·
   subst e2;rw [Qcx (by omega),if_pos (.inl rfl)]
  rw [Qcz (fun x=>e2 x.symm),if_neg (by simp [e1,e2])]
 have o2:((ov.set a n).set b n++[0]).getD n 0=0:=by
  have:=Qjc (l:=(ov.set a n).set b n) (x:=0);simp [hlo]
 have w1:∀ i,i < n->(ws++[ws.getD a 0+ws.getD b 0]).getD i 0=ws.getD i 0:=fun i hi=>Qcs (by omega)
 have w2:(ws++[ws.getD a 0+ws.getD b 0]).getD n 0=ws.getD a 0+ws.getD b 0:=by
  have:=Qjc (l:=ws) (x:=ws.getD a 0+ws.getD b 0)
  rwa [hlw] at this
 have lo:((ov.set a n).set b n++[0]).length=n+1:=by simp [hlo]
 have lw:(ws++[ws.getD a 0+ws.getD b 0]).length=n+1:=by simp [hlw]
 generalize (ov.set a n).set b n++[0]=ov' at *;generalize ws++[ws.getD a 0+ws.getD b 0]=ws' at *;have hup:=g.up;have hroots:=g.roots;have hweight:=g.weight;have htwo:=g.two;have hhup:=g.hup;have hfib:=g.hfib;have hdeep:=g.deep;have horder:=g.order;rw [hn] at hup hroots hweight htwo hhup hfib hdeep horder;clear g;have hnk:n=w.length+k:=hn.symm;refine ⟨fun i=>if i=n then max (h a) (h b)+1 else h i,?_⟩;have en:w.length+(k+1)=n+1:=by omega
 refine ⟨by rw [lw,en],by rw [lo,en],?_,?_,?_,?_,?_,?_,?_,?_⟩
 ·
  intro i hi;rw [en] at hi ⊢;by_cases e:i=n
  ·
   subst e;exact .inl o2
  rw [o1 i (by omega)];split
  ·
   right;omega
  have:=hup i (by omega);omega
 ·
  rw [en,Qbv,o2,if_pos rfl]
  have e:Qbv (fun i=>if ov'.getD i 0=0 then 1 else 0) n=Qbv (fun i=>if i=a∨i=b then 0 else if ov.getD i 0=0 then 1 else 0) n:=Qcr n fun i hi=>by
   rw [o1 i hi];by_cases e:i=a∨i=b
   ·
    rw [if_pos e,if_pos e,if_neg (by omega)]
   rw [if_neg e,if_neg e]
  have e2:=Qjb (f:=fun i=>if ov.getD i 0=0 then 1 else 0) ha1 hb1 (Ne.symm hne);simp only [if_pos haf,if_pos hbf] at e2;omega
 ·
  rw [en,Qbv,o2,if_pos rfl,w2]
  have e:Qbv (fun i=>if ov'.getD i 0=0 then ws'.getD i 0 else 0) n=Qbv (fun i=>if i=a∨i=b then 0 else if ov.getD i 0=0 then ws.getD i 0 else 0) n:=Qcr n fun i hi=>by
   rw [o1 i hi,w1 i hi];by_cases e:i=a∨i=b
   ·
    rw [if_pos e,if_pos e,if_neg (by omega)]
   rw [if_neg e,if_neg e]
  have e2:=Qjb (f:=fun i=>if ov.getD i 0=0 then ws.getD i 0 else 0) ha1 hb1 (Ne.symm hne);simp only [if_pos haf,if_pos hbf] at e2;omega
 ·
  intro j hj1 hj2;rw [en] at hj2;by_cases e:j=n
  ·
   subst e;refine ⟨a,b,ha1,hb1,Ne.symm hne,by rw [o1 a ha1,if_pos (.inl rfl)],by rw [o1 b hb1,if_pos (.inr rfl)],fun i hi=>?_⟩;rcases Nat.lt_or_ge i j with h1 | h1
   ·
    rw [o1 i h1] at hi;split at hi
    ·
     assumption
    have:=hup i h1;omega
   rcases Nat.lt_or_ge i (j+1) with h2 | h2
   ·
    rw [show i=j by omega,o2] at hi;omega
   rw [Qkm (by omega)] at hi;omega
  obtain ⟨x,y,hx,hy,hxy,hox,hoy,hall⟩:=htwo j hj1 (by omega);have hxa:¬ (x=a∨x=b):=fun e=>by rcases e with rfl | rfl <;> omega
  have hya:¬ (y=a∨y=b):=fun e=>by rcases e with rfl | rfl <;> omega
  refine ⟨x,y,hx,hy,hxy,by rw [o1 x (by omega),if_neg hxa];exact hox,by rw [o1 y (by omega),if_neg hya];exact hoy,fun i hi=>?_⟩;rcases Nat.lt_or_ge i n with h1 | h1
  ·
   rw [o1 i h1] at hi;split at hi
   ·
    omega
   exact hall i hi
  rcases Nat.lt_or_ge i (n+1) with h2 | h2
  ·
   rw [show i=n by omega,o2] at hi;omega
  rw [Qkm (by omega)] at hi;omega
 ·
  intro i hi hne0;rw [en] at hi;have hin:i≠n:=fun e=>by rw [e,o2] at hne0;exact hne0 rfl
  rw [o1 i (by omega)] at hne0 ⊢;rw [if_neg hin];by_cases e:i=a∨i=b
  ·
   rw [if_pos e,if_pos rfl];rcases e with rfl | rfl <;> omega
  rw [if_neg e] at hne0 ⊢;have h1:=hup i (by omega);rw [if_neg (by omega)];exact hhup i (by omega) hne0
 ·
  intro i hi;rw [en] at hi;by_cases e:i=n
  ·
   subst e;rw [if_pos rfl,w2]
   have key:∀ x y,x < i->y < i->ov.getD x 0=0->ov.getD y 0=0->fib (h x+3)<=ws.getD x 0+ws.getD y 0:=fun x y hx hy hox hoy=>by
    have h1:=hfib x hx
    have h2:fib (h x+1)<=ws.getD y 0:=by
     rcases Nat.eq_zero_or_pos (h x) with h0 | h0
     ·
      have:=hfib y hy;refine Nat.le_trans (Qzz ?_) this;omega
     obtain ⟨z,hz1,hz2,hz3⟩:=hdeep x hx h0;exact Nat.le_trans hz3 (horder z y hz1 hy hz2 hoy)
    rw [show h x+3=(h x+1)+2 from rfl,fib];have:fib (h x+1+1)=fib (h x+2):=rfl;omega
   rcases Nat.le_total (h a) (h b) with h1 | h1
   ·
    rw [Nat.max_eq_right h1];have:=key b a hb1 ha1 hbf haf;rw [Nat.add_comm (ws.getD a 0)];exact this
   rw [Nat.max_eq_left h1];exact key a b ha1 hb1 haf hbf
  rw [if_neg e,w1 i (by omega)];exact hfib i (by omega)
 ·
  intro i hi hh;rw [en] at hi ⊢;by_cases e:i=n
  ·
   subst e;rw [if_pos rfl];rcases Nat.le_total (h a) (h b) with h1 | h1
   ·
    rw [Nat.max_eq_right h1];exact ⟨b,by omega,by rw [o1 b hb1,if_pos (.inr rfl)];omega,by rw [w1 b hb1];exact hfib b hb1⟩
   rw [Nat.max_eq_left h1];exact ⟨a,by omega,by rw [o1 a ha1,if_pos (.inl rfl)];omega,by rw [w1 a ha1];exact hfib a ha1⟩
  rw [if_neg e] at hh ⊢;obtain ⟨y,hy1,hy2,hy3⟩:=hdeep i (by omega) hh;refine ⟨y,by omega,?_,by rw [w1 y hy1];exact hy3⟩;rw [o1 y hy1];split
  ·
   omega
  exact hy2
 intro y r hy hr hoy hor;rw [en] at hy hr;have hyn:y≠n:=fun e=>by rw [e,o2] at hoy;exact hoy rfl
 rw [w1 y (by omega)]
 have hyb:ws.getD y 0<=ws.getD b 0:=by
  rw [o1 y (by omega)] at hoy;by_cases e:y=a∨y=b
  ·
   rcases e with rfl | rfl <;> omega
  rw [if_neg e] at hoy;exact horder y b (by omega) hb1 hoy hbf
 by_cases e:r=n
 ·
  subst e;rw [w2];omega
 rw [w1 r (by omega)];rw [o1 r (by omega)] at hor;by_cases e2:r=a∨r=b
 ·
  rw [if_pos e2] at hor;omega
 rw [if_neg e2] at hor;have:=hbl r (by omega) (fun x=>e2 (.inl x)) hor;omega
theorem Qla (w:List Nat) (h1:∀ i,i < w.length->1<=w.getD i 0):∀ k,k+1<=w.length->∃ h,Grown w k (Qi9 k (w,List.replicate w.length 0)).1 (Qi9 k (w,List.replicate w.length 0)).2 h
 | 0,hk=>⟨_,Grown.start w (by omega) h1⟩
 | k+1,hk=>by
  obtain ⟨h,g⟩:=Qla w h1 k (by omega);exact g.step (by omega)
section
variable {w:List Nat}{k:Nat}{ws ov:List Nat}{h:Nat->Nat}
theorem Grown.last (g:Grown w k ws ov h) (hk:k+1=w.length):ov.getD (w.length+k - 1) 0=0:=by
 have:=g.up (w.length+k - 1) (by omega);omega
theorem Grown.root (g:Grown w k ws ov h) (hk:k+1=w.length) {i:Nat} (hi:i < w.length+k) (hf:ov.getD i 0=0):i=w.length+k - 1:=by
 by_cases e:i=w.length+k - 1
 ·
  exact e
 have h1:=Quy (f:=fun i=>if ov.getD i 0=0 then 1 else 0) (n:=w.length+k) hi (show w.length+k - 1 < w.length+k by omega) e;simp only [if_pos hf,if_pos (g.last hk)] at h1;have:=g.roots;omega
theorem Grown.depth_h (g:Grown w k ws ov h) (hk:k+1=w.length):∀ f i,i < w.length+k->w.length+k - i<=f->Qbz ov f i+h i<=h (w.length+k - 1)
 | 0,i,hi,hf=>by omega
 | f+1,i,hi,hf=>by
  rw [Qbz];split
  ·
   rename_i h0;rw [<- g.root hk hi h0];omega
  rename_i h0;have h1:=g.up i hi;have h2:=g.hup i hi h0;have:=g.depth_h hk f (ov.getD i 0) (by omega) (by omega);omega
theorem Grown.fuel (g:Grown w k ws ov h):∀ f f' i,i < w.length+k->w.length+k - i<=f->w.length+k - i<=f'->Qbz ov f i=Qbz ov f' i
 | 0,_,i,hi,h1,_=>by omega
 | _+1,0,i,hi,_,h2=>by omega
 | f+1,f'+1,i,hi,h1,h2=>by
  rw [Qbz,Qbz];split
  ·
   rfl
  rename_i h0;have h3:=g.up i hi;rw [g.fuel f f' (ov.getD i 0) (by omega) (by omega) (by omega)]
theorem Grown.dep (g:Grown w k ws ov h) {i:Nat} (f:Nat) (hf:w.length+k<=f) (hi:i < w.length+k) (h0:ov.getD i 0≠0):Qbz ov f i=Qbz ov f (ov.getD i 0)+1:=by
 have h3:=g.up i hi;cases f with
 | zero=>omega
 | succ f =>
  conv=>lhs;rw [Qbz]
  rw [if_neg h0,g.fuel f (f+1) (ov.getD i 0) (by omega) (by omega) (by omega)]
theorem Grown.kraft (g:Grown w k ws ov h) (hk:k+1=w.length) (f:Nat) (hf:w.length+k<=f) (N:Nat) (hN:∀ i,i < w.length+k->Qbz ov f i<=N) :
  Qbv (fun i=>2 ^ (N - Qbz ov f i)) w.length=2 ^ N:=by
 have hr:=g.last hk
 have step:∀ j,w.length<=j->j < w.length+k->Qbv (fun i=>if ov.getD i 0=0∨j+1<=ov.getD i 0 then 2 ^ (N - Qbz ov f i) else 0) (j+1)=Qbv (fun i=>if ov.getD i 0=0∨j<=ov.getD i 0 then 2 ^ (N - Qbz ov f i) else 0) j:=fun j h1 h2=>by
  obtain ⟨a,b,ha,hb,hab,hoa,hob,hall⟩:=g.two j h1 h2;have hda:=g.dep f hf (i:=a) (by omega) (by omega);have hdb:=g.dep f hf (i:=b) (by omega) (by omega);have hNa:=hN a (by omega);rw [hoa] at hda;rw [hob] at hdb;have hj:=g.up j h2;rw [Qbv,if_pos (by omega)];have e:=Qjb (f:=fun i=>if ov.getD i 0=0∨j<=ov.getD i 0 then 2 ^ (N - Qbz ov f i) else 0) ha hb hab;rw [if_pos (by omega),if_pos (by omega),hda,hdb] at e;rw [<- e]
  have e2:2 ^ (N - Qbz ov f j)=2 ^ (N - (Qbz ov f j+1))+2 ^ (N - (Qbz ov f j+1)):=by
   rw [show N - Qbz ov f j=(N - (Qbz ov f j+1))+1 by omega,Nat.pow_succ];omega
  rw [e2]
  congr 1
  refine Qcr j fun i hi=>?_;by_cases e3:i=a∨i=b
  ·
   rw [if_pos e3,if_neg (by rcases e3 with rfl | rfl <;> omega)]
  rw [if_neg e3];by_cases e4:ov.getD i 0=0∨j<=ov.getD i 0
  ·
   rw [if_pos e4,if_pos];have:ov.getD i 0≠j:=fun e5=>e3 (hall i e5);omega
  rw [if_neg e4,if_neg (by omega)]
 have all:∀ d,d<=k->Qbv (fun i=>if ov.getD i 0=0∨w.length+d<=ov.getD i 0 then 2 ^ (N - Qbz ov f i) else 0) (w.length+d)=Qbv (fun i=>if ov.getD i 0=0∨w.length<=ov.getD i 0 then 2 ^ (N - Qbz ov f i) else 0) w.length:=fun d=>by
  induction d with
  | zero=>intro _;rfl
  | succ d ih=>intro hd;rw [<- ih (by omega)];exact step (w.length+d) (by omega) (by omega)
 have h1:=all k (Nat.le_refl _)
 have e1:Qbv (fun i=>if ov.getD i 0=0∨w.length+k<=ov.getD i 0 then 2 ^ (N - Qbz ov f i) else 0) (w.length+k)=Qbv (fun i=>if i=w.length+k - 1 then 2 ^ N else 0) (w.length+k):=by
  refine Qcr _ fun i hi=>?_;have h2:=g.up i hi;by_cases e:i=w.length+k - 1
  ·
   subst e;rw [if_pos (.inl hr),if_pos rfl]
   have:Qbz ov f (w.length+k - 1)=0:=by
    cases f with
    | zero=>rfl
    | succ f=>rw [Qbz,if_pos hr]
   rw [this];rfl
  rw [if_neg e,if_neg];rintro (h3 | h3)
  ·
   exact e (g.root hk hi h3)
  omega
 rw [e1,Qhu,if_pos (by omega)] at h1;rw [h1];refine Qcr _ fun i hi=>?_;have h2:=g.up i (by omega);rw [if_pos (by omega)]
theorem Grown.total (g:Grown w k ws ov h) (hk:k+1=w.length):fib (h (w.length+k - 1)+2)<=Qbv (fun i=>w.getD i 0) w.length:=by
 have h1:=g.hfib (w.length+k - 1) (by omega);have h2:=Qnm (fun i=>if ov.getD i 0=0 then ws.getD i 0 else 0) (w.length+k) (w.length+k - 1) (by omega);simp only [if_pos (g.last hk)] at h2;rw [<- g.weight];omega
end
def Qcd:List Nat->Nat
 | []=>0
 | x::l=>2 ^ (20 - x)+Qcd l
theorem Qlb (l m:List Nat):Qcd (l++m)=Qcd l+Qcd m:=by
 induction l with
 | nil=>simp [Qcd]
 | cons x l ih=>rw [List.cons_append,Qcd,Qcd,ih];omega
theorem Qjs (f:Nat->Nat):∀ n,Qcd ((List.range n).map f)=Qbv (fun i=>2 ^ (20 - f i)) n
 | 0=>rfl
 | n+1=>by rw [List.range_succ,List.map_append,Qlb,Qjs f n,Qbv];rfl
theorem Quz {l:List Nat}{m:Nat}:∀ a,l.foldl max a<=m ↔ a<=m/\∀ x∈l,x<=m:=by
 induction l with
 | nil=>intro a;simp
 | cons x l ih=>intro a;rw [List.foldl_cons,ih];simp only [List.mem_cons,forall_eq_or_imp,Nat.max_le,and_assoc]
theorem Qib {l:List Nat}{m:Nat}:maxL l<=m ↔ ∀ x∈l,x<=m:=by rw [maxL,Quz];simp
theorem Qfg (w:List Nat):(Qcf w).length=w.length:=by simp [Qcf]
theorem Qu0 {w:List Nat} (h2:2<=w.length) (h1:∀ x∈w,1<=x) {m:Nat} (hm:maxL (Qcf w)<=m) (hm20:m<=20) :
  (∀ x∈Qcf w,1<=x/\x<=m)/\Qcd (Qcf w)=1048576:=by
 obtain ⟨h,g⟩:=Qla w (fun i hi=>h1 _ (by rw [List.getD_eq_getElem?_getD,List.getElem?_eq_getElem hi];exact List.getElem_mem hi)) (w.length - 1) (by omega);have hmax:=Qib.1 hm;have hov:(Qi9 (w.length - 1) (w,List.replicate w.length 0)).2=Qp1 w:=rfl;rw [hov] at g;have hk:w.length - 1+1=w.length:=by omega
 have hdep:∀ i,i < w.length->Qbz (Qp1 w) (2 * w.length) i∈Qcf w:=fun i hi=>List.mem_map.2 ⟨i,by simpa using hi,rfl⟩;constructor
 ·
  intro x hx;refine ⟨?_,hmax x hx⟩;obtain ⟨i,hi,rfl⟩:=List.mem_map.1 hx;have hi:i < w.length:=by simpa using hi
  by_cases h0:(Qp1 w).getD i 0=0
  ·
   have:=g.root hk (by omega) h0;omega
  rw [g.dep (2 * w.length) (by omega) (by omega) h0];omega
 have hN:∀ i,i < w.length+(w.length - 1)->Qbz (Qp1 w) (2 * w.length) i<=20:=by
  intro i
  induction i using Nat.strongRecOn with
  | _ i ih =>
   intro hi;rcases Nat.lt_or_ge i w.length with h3 | h3
   ·
    have:=hmax _ (hdep i h3);omega
   obtain ⟨a,b,ha,hb,hab,hoa,hob,hall⟩:=g.two i h3 hi;have h4:=ih a ha (by omega);have:=g.dep (2 * w.length) (by omega) (i:=a) (by omega) (by omega);rw [hoa] at this;omega
 have hk20:=g.kraft hk (2 * w.length) (by omega) 20 hN;rw [Qcf,Qjs];exact hk20
theorem QT3:fib 15=610:=by decide
theorem Qmv {w:List Nat} (h2:2<=w.length) (h258:w.length<=258) (h1:∀ x∈w,1<=x/\x<=2):maxL (Qcf w)<=12:=by
 have hget:∀ i,i < w.length->w.getD i 0∈w:=fun i hi=>by rw [List.getD_eq_getElem?_getD,List.getElem?_eq_getElem hi];exact List.getElem_mem hi
 obtain ⟨h,g⟩:=Qla w (fun i hi=>(h1 _ (hget i hi)).1) (w.length - 1) (by omega);have hov:(Qi9 (w.length - 1) (w,List.replicate w.length 0)).2=Qp1 w:=rfl;rw [hov] at g;have hk:w.length - 1+1=w.length:=by omega
 have ht:=g.total hk;have ht2:=Qnn (fun i=>w.getD i 0) 2 w.length fun i hi=>(h1 _ (hget i hi)).2
 have hh:h (w.length+(w.length - 1) - 1)<=12:=by
  rcases Nat.lt_or_ge 12 (h (w.length+(w.length - 1) - 1)) with h3 | h3
  ·
   have:=Qzz (show 15<=h (w.length+(w.length - 1) - 1)+2 by omega);rw [QT3] at this;omega
  exact h3
 refine Qib.2 fun x hx=>?_;obtain ⟨i,hi,rfl⟩:=List.mem_map.1 hx;have hi:i < w.length:=by simpa using hi
 have:=g.depth_h hk (2 * w.length) i (by omega) (by omega);omega
def bnd:Nat->Nat
 | 0=>2
 | k+1=>2 ^ k+2
theorem Qz0 {t x:Nat} (h:x<=bnd (t+1)):x / 2+1<=bnd t:=by
 cases t with
 | zero=>simp only [bnd] at h ⊢;omega
 | succ t=>simp only [bnd,Nat.pow_succ] at h ⊢;omega
theorem Qz1 {most:Nat} (hm:12<=most) (hm20:most<=20):∀ (t:Nat) (own:List Nat),2<=own.length->own.length<=258->(∀ x∈own,1<=x/\x<=bnd t) ->
  (Qkk most t own).length=own.length/\(∀ x∈Qkk most t own,1<=x/\x<=most)/\Qcd (Qkk most t own)=1048576
 | 0,own,h2,h258,h1=>by
  have h3:=Qmv h2 h258 h1;rw [Qkk];exact ⟨Qfg own,Qu0 h2 (fun x hx=>(h1 x hx).1) (by omega) hm20⟩
 | t+1,own,h2,h258,h1=>by
  rw [Qkk];split
  ·
   rename_i h3;exact ⟨Qfg own,Qu0 h2 (fun x hx=>(h1 x hx).1) h3 hm20⟩
  have:=Qz1 hm hm20 t (own.map fun x=>x / 2+1) (by simpa using h2) (by simpa using h258) (by
   intro x hx;obtain ⟨y,hy,rfl⟩:=List.mem_map.1 hx;exact ⟨by omega,Qz0 (h1 y hy).2⟩)
  simpa using this
def lenS (w:List Nat) (most:Nat):List Nat:=Qkk most 40 (w.map fun x=>max x 1)
theorem QEp {w:List Nat}{most:Nat} (hm:12<=most) (hm20:most<=20) (h2:2<=w.length) (h258:w.length<=258) (h1:∀ x∈w,x<=1073741824) :
  (lenS w most).length=w.length/\(∀ x∈lenS w most,1<=x/\x<=most)/\Qcd (lenS w most)=1048576:=by
 have:=Qz1 hm hm20 40 (w.map fun x=>max x 1) (by simpa using h2) (by simpa using h258) (by
  intro x hx;obtain ⟨y,hy,rfl⟩:=List.mem_map.1 hx;have:=h1 y hy;have:bnd 40=549755813890:=by decide
  omega)
 simpa [lenS] using this
def Qdf (w:List Nat) (i j:Nat):Bool:=decide (max (w.getD j 0) 1 < max (w.getD i 0) 1) || (decide (max (w.getD i 0) 1=max (w.getD j 0) 1) && decide (i < j))
def Qj6 (w:List Nat) (i:Nat):Nat:=(List.range w.length).countP fun j=>Qdf w j i
def Qfc (n:Nat):Nat:=Nat.log2 n
def Qko (n p:Nat):Nat:=if 2 ^ (Qfc n+1) - n<=p then Qfc n+1 else Qfc n
def Qdc (w:List Nat):List Nat:=(List.range w.length).map fun i=>Qko w.length (Qj6 w i)
theorem Qfv {w:List Nat}{i j:Nat}:Qdf w i j=true ↔ (max (w.getD j 0) 1 < max (w.getD i 0) 1∨(max (w.getD i 0) 1=max (w.getD j 0) 1/\i < j)):=by
 simp [Qdf,Bool.or_eq_true]
theorem Qu1 {w:List Nat}{i j k:Nat} (h1:Qdf w i j=true) (h2:Qdf w j k=true):Qdf w i k=true:=by
 rw [Qfv] at *;omega
theorem Qsq (w:List Nat) (i:Nat):Qdf w i i=false:=by
 rw [Bool.eq_false_iff];intro h;rw [Qfv] at h;omega
theorem Qu2 {w:List Nat}{i j:Nat} (h1:Qdf w i j=true):Qdf w j i=false:=by
 rw [Bool.eq_false_iff];intro h;rw [Qfv] at *;omega
theorem Qu3 {w:List Nat}{i j:Nat} (h:i≠j):Qdf w i j=true∨Qdf w j i=true:=by
 rw [Qfv,Qfv];omega
theorem Qol {w:List Nat}{l:List Nat} (hp:l.Perm (List.range w.length)) (hs:l.Pairwise fun i j=>Qdf w i j=true) {p:Nat} (hpl:p < l.length):Qj6 w l[p]=p:=by
 unfold Qj6;rw [<- hp.countP_eq];have e:l=l.take p++l[p]::l.drop (p+1):=by rw [<- List.drop_eq_getElem_cons hpl,List.take_append_drop]
 have hs2:=hs;rw [e] at hs2;obtain ⟨s1,s2,s3⟩:=List.pairwise_append.1 hs2;obtain ⟨s4,s5⟩:=List.pairwise_cons.1 s2;have hlen:(l.take p).length=p:=by rw [List.length_take];omega
 generalize hx:l[p]=x at *
 conv=>lhs;rw [e]
 rw [List.countP_append,List.countP_cons]
 have c1:(l.take p).countP (fun j=>Qdf w j x)=p:=by
  rw [List.countP_eq_length.2 (fun a ha=>s3 a ha _ (by simp)),hlen]
 have c2:(l.drop (p+1)).countP (fun j=>Qdf w j x)=0:=by
  rw [List.countP_eq_zero];intro a ha;have:=Qu2 (s4 a ha);simp [this]
 rw [c1,c2,Qsq];simp
theorem Qu4 (w:List Nat):∃ l:List Nat,l.Perm (List.range w.length)/\l.Pairwise fun i j=>Qdf w i j=true:=by
 refine ⟨(List.range w.length).mergeSort fun i j=>Qdf w i j || i == j,List.mergeSort_perm _ _,?_⟩
 have hs:=List.pairwise_mergeSort (le:=fun i j=>Qdf w i j || i == j) (fun a b c h1 h2=>by
  simp only [Bool.or_eq_true,beq_iff_eq] at *;rcases h1 with h1 | rfl
  ·
   rcases h2 with h2 | rfl
   ·
    exact .inl (Qu1 h1 h2)
   exact .inl h1
  ·
   exact h2) (fun a b=>by
  by_cases e:a=b
  ·
   subst e;simp
  rcases Qu3 (w:=w) e with h | h <;> simp [h]) (List.range w.length)
 have hn:((List.range w.length).mergeSort fun i j=>Qdf w i j || i == j).Nodup:=(List.mergeSort_perm _ _).nodup_iff.2 List.nodup_range;refine (hs.and hn).imp ?_;rintro a b ⟨h1,h2⟩;simp only [Bool.or_eq_true,beq_iff_eq] at h1;rcases h1 with h1 | h1
 ·
  exact h1
 exact absurd h1 h2
theorem Qx4 {l m:List Nat} (h:l.Perm m):Qcd l=Qcd m:=by
 induction h with
 | nil=>rfl
 | cons x _ ih=>rw [Qcd,Qcd,ih]
 | swap x y l=>simp only [Qcd];omega
 | trans _ _ h1 h2=>rw [h1,h2]
theorem Qmd {n:Nat} (h:2<=n):1<=Qfc n/\2 ^ Qfc n<=n/\n < 2 ^ (Qfc n+1):=by
 refine ⟨(Nat.le_log2 (by omega)).2 (by simpa using h),Nat.log2_self_le (by omega),Nat.lt_log2_self⟩
theorem Qz2 {n:Nat} (h:2<=n) (h2:n<=258):Qfc n<=8:=by
 have:=(Qmd h).2.1;rcases Nat.lt_or_ge 8 (Qfc n) with h3 | h3
 ·
  have:=Nat.pow_le_pow_right (n:=2) (by omega) h3;omega
 exact h3
theorem Qz3 {n K p:Nat} (hK:n<=2 * K) (hn:K<=n) (c:Nat) (f:Nat->Nat) (hf:∀ i,f i=if 2 * K - n<=i then c else 2 * c):∀ m,m<=n->Qbv f m=if m<=2 * K - n then m * (2 * c) else (2 * K - n) * (2 * c)+(m - (2 * K - n)) * c
 | 0,_=>by simp [Qbv]
 | m+1,h=>by
  rw [Qbv,Qz3 (p:=p) hK hn c f hf m (by omega),hf];by_cases h1:m+1<=2 * K - n
  ·
   rw [if_pos (by omega),if_neg (by omega),if_pos h1];exact (Nat.succ_mul m (2 * c)).symm
  rw [if_neg h1];by_cases h2:m<=2 * K - n
  ·
   have e:m=2 * K - n:=by omega
   rw [if_pos h2,if_pos (by omega),show m+1 - (2 * K - n)=1 by omega,Nat.one_mul,e]
  rw [if_neg h2,if_pos (by omega),show m+1 - (2 * K - n)=(m - (2 * K - n))+1 by omega,Nat.add_assoc,show (m - (2 * K - n)+1) * c=(m - (2 * K - n)) * c+c from Nat.succ_mul _ _]
theorem Qz4 {w:List Nat} (h2:2<=w.length) (h258:w.length<=258):(Qdc w).length=w.length/\(∀ x∈Qdc w,1<=x/\x<=9)/\Qcd (Qdc w)=1048576:=by
 obtain ⟨hk1,hk2,hk3⟩:=Qmd h2;have hk8:=Qz2 h2 h258;refine ⟨by simp [Qdc],fun x hx=>?_,?_⟩
 ·
  obtain ⟨i,_,rfl⟩:=List.mem_map.1 hx;unfold Qko;split <;> omega
 obtain ⟨l,hp,hs⟩:=Qu4 w
 have e1:(Qdc w).Perm ((List.range w.length).map fun p=>Qko w.length p):=by
  have e2:(l.map fun i=>Qko w.length (Qj6 w i))=(List.range w.length).map fun p=>Qko w.length p:=by
   have hl:l.length=w.length:=by have:=hp.length_eq;simpa using this
   apply List.ext_getElem
   ·
    simp [hl]
   intro p h3 h4;simp only [List.getElem_map,List.getElem_range];rw [Qol hp hs]
  rw [<- e2];exact (hp.map _).symm
 rw [Qx4 e1,Qjs];have hp2:2 ^ (Qfc w.length+1)=2 * 2 ^ Qfc w.length:=by rw [Nat.pow_succ];omega
 have h20:2 ^ (20 - Qfc w.length)=2 * 2 ^ (19 - Qfc w.length):=by rw [show 20 - Qfc w.length=(19 - Qfc w.length)+1 by omega,Nat.pow_succ];omega
 have hc:2 ^ Qfc w.length * 2 ^ (19 - Qfc w.length)=524288:=by rw [<- Nat.pow_add,show Qfc w.length+(19 - Qfc w.length)=19 by omega]
 rw [Qz3 (p:=0) (K:=2 ^ Qfc w.length) (n:=w.length) (by omega) (by omega) (2 ^ (19 - Qfc w.length)) _ (fun i=>?_) w.length (Nat.le_refl _)]
 ·
  generalize 2 ^ (19 - Qfc w.length)=c at *;generalize 2 ^ Qfc w.length=K at *;split
  ·
   rename_i h5;have e5:w.length=K:=by omega
   rw [e5,Nat.mul_left_comm,hc]
  rename_i h5;obtain ⟨d,hd⟩:∃ d,w.length=K+d:=⟨w.length - K,by omega⟩;rw [hd,show 2 * K - (K+d)=K - d by omega,show K+d - (K - d)=2 * d by omega];obtain ⟨e,he⟩:∃ e,K=d+e:=⟨K - d,by omega⟩;rw [show K - d=e by omega]
  have:e * (2 * c)+2 * d * c=2 * (K * c):=by
   rw [he,Nat.add_mul,Nat.mul_add,Nat.mul_left_comm,Nat.mul_assoc];omega
  rw [this,hc]
 simp only [Qko];rw [hp2];split
 ·
  rw [show 20 - (Qfc w.length+1)=19 - Qfc w.length by omega]
 rw [h20]
def idxN (l:List Nat) (n m:Nat):List Nat:=(List.range m).filter fun i=>l.getD i 0 == n
def idxs (l:List Nat) (n:Nat):List Nat:=idxN l n l.length
def cnt (l:List Nat) (n:Nat):Nat:=(idxs l n).length
def Qa7 (l:List Nat):Nat->Nat
 | 0=>0
 | n+1=>2 * (Qa7 l n+cnt l n)
def Qep (l:List Nat) (i:Nat):Nat:=Qa7 l (l.getD i 0)+(idxN l (l.getD i 0) i).length
def Qhv (l:List Nat) (i:Nat):List Bool:=Qaq (l.getD i 0) (Qep l i)
def begP (l:List Nat) (c k:Nat):Bool:=(List.range 21).any fun m=>decide (k < m) && decide (0 < cnt l m) && decide (c * 2 ^ (m - k) < Qa7 l m+cnt l m)
def Qg7 (l:List Nat):List Bool->Nat->Nat->Except Int (Nat×Nat)
 | [],_,_=>.error 10
 | b::r,n,code =>
  if Qa7 l (n+1)<=2 * code+b.toNat/\2 * code+b.toNat < Qa7 l (n+1)+cnt l (n+1) then .ok ((idxs l (n+1)).getD (2 * code+b.toNat - Qa7 l (n+1)) 0,n+1)
  else if begP l (2 * code+b.toNat) (n+1)=true then Qg7 l r (n+1) (2 * code+b.toNat) else .error 90
def Qjd (l:List Nat) (bits:List Bool) (at_:Nat):Except Int (Nat×Nat):=match Qg7 l (bits.drop at_) 0 0 with
 | .ok p=>.ok (p.1,at_+p.2)
 | .error e=>.error e
def Qeq (l:List Nat) (bits:List Bool) (fin:Nat):Nat->Nat->Except Int (List Nat×Nat)
 | 0,at_=>.ok ([],at_)
 | n+1,at_=>match Qjd l bits at_ with
  | .error e=>.error e
  | .ok p=>if p.1=fin then .ok ([p.1],p.2) else match Qeq l bits fin n p.2 with
   | .error e=>.error e
   | .ok q=>.ok (p.1::q.1,q.2)
def okL (l:List Nat):Prop:=2<=l.length/\l.length<=258/\(∀ x∈l,1<=x/\x<=20)/\Qcd l<=1048576
theorem Qhw (l:List Nat) (n m:Nat):idxN l n (m+1)=idxN l n m++if l.getD m 0=n then [m] else []:=by
 unfold idxN;rw [List.range_succ,List.filter_append]
 congr 1
 by_cases h:l.getD m 0=n
 ·
  rw [if_pos h,List.filter_cons_of_pos (by simp only [beq_iff_eq];exact h)];rfl
 rw [if_neg h,List.filter_cons_of_neg (by simp only [beq_iff_eq];exact h)];rfl
theorem Qz5 (l:List Nat) (n m:Nat):(idxN l n m).length<=m:=by
 unfold idxN;exact Nat.le_trans (List.length_filter_le _ _) (by simp)
theorem Qx5 (l:List Nat) (n:Nat) {m m':Nat} (h:m<=m'):∃ r,idxN l n m'=idxN l n m++r:=by
 induction m' with
 | zero=>exact ⟨[],by rw [show m=0 by omega,List.append_nil]⟩
 | succ m' ih =>
  rcases Nat.lt_or_ge m (m'+1) with h1 | h1
  ·
   obtain ⟨r,hr⟩:=ih (by omega);exact ⟨_,by rw [Qhw,hr,List.append_assoc]⟩
  exact ⟨[],by rw [show m=m'+1 by omega,List.append_nil]⟩
theorem Qno {l:List Nat}{n m i:Nat}:i∈idxN l n m ↔ i < m/\l.getD i 0=n:=by
 unfold idxN;simp [List.mem_filter]
theorem Qu5 {l:List Nat}{i:Nat} (hi:i < l.length):(idxs l (l.getD i 0)).getD (idxN l (l.getD i 0) i).length 0=i/\(idxN l (l.getD i 0) i).length < cnt l (l.getD i 0):=by
 obtain ⟨r,hr⟩:=Qx5 l (l.getD i 0) (m:=i+1) (m':=l.length) (by omega)
 have h1:idxs l (l.getD i 0)=idxN l (l.getD i 0) i++[i]++r:=by
  unfold idxs;rw [hr,Qhw,if_pos rfl]
 constructor
 ·
  rw [h1,List.append_assoc,List.getD_eq_getElem?_getD,List.getElem?_append_right (Nat.le_refl _),Nat.sub_self];rfl
 rw [cnt,h1];simp
theorem Qlc {l:List Nat} (h:∀ x∈l,1<=x):cnt l 0=0:=by
 rw [cnt,idxs,List.length_eq_zero_iff,List.eq_nil_iff_forall_not_mem];intro i hi;obtain ⟨h1,h2⟩:=Qno.1 hi;have:=h (l.getD i 0) (by rw [List.getD_eq_getElem?_getD,List.getElem?_eq_getElem h1];exact List.getElem_mem h1);omega
theorem QEq (l:List Nat) (n:Nat):∀ m k,k < (idxN l n m).length->(idxN l n m).getD k 0 < m/\l.getD ((idxN l n m).getD k 0) 0=n/\(idxN l n ((idxN l n m).getD k 0)).length=k
 | 0,k,h=>by simp [idxN] at h
 | m+1,k,h=>by
  rw [Qhw] at h ⊢;rcases Nat.lt_or_ge k (idxN l n m).length with h1 | h1
  ·
   rw [Qcs h1];obtain ⟨a,b,c⟩:=QEq l n m k h1;exact ⟨by omega,b,c⟩
  by_cases h2:l.getD m 0=n
  ·
   rw [if_pos h2] at h ⊢;have hk:k=(idxN l n m).length:=by simp at h;omega
   subst hk;rw [Qjc];exact ⟨by omega,h2,rfl⟩
  rw [if_neg h2,List.append_nil] at h;omega
theorem Qz6 (l:List Nat) (n:Nat):∀ d,(Qa7 l n+cnt l n) * 2 ^ (d+1)<=Qa7 l (n+d+1)
 | 0=>by simp only [Nat.zero_add,Nat.pow_one,Nat.add_zero,Qa7];omega
 | d+1=>by
  have:=Qz6 l n d;rw [show n+(d+1)+1=(n+d+1)+1 by omega,Qa7,Nat.pow_succ,<- Nat.mul_assoc];omega
theorem Qq1 (l:List Nat) (n:Nat):∀ m,Qbv (fun i=>if l.getD i 0<=n+1 then 2 ^ (20 - l.getD i 0) else 0) m=Qbv (fun i=>if l.getD i 0<=n then 2 ^ (20 - l.getD i 0) else 0) m+(idxN l (n+1) m).length * 2 ^ (20 - (n+1))
 | 0=>by simp [Qbv,idxN]
 | m+1=>by
  rw [Qbv,Qbv,Qq1 l n m,Qhw];by_cases h1:l.getD m 0=n+1
  ·
   rw [if_pos (by omega),if_neg (by omega),if_pos h1,h1,List.length_append,Nat.add_mul];simp;omega
  rw [if_neg h1,List.append_nil];by_cases h2:l.getD m 0<=n
  ·
   rw [if_pos h2,if_pos (by omega)];omega
  rw [if_neg h2,if_neg (by omega)];omega
theorem QB6 (l:List Nat):Qcd l=Qbv (fun i=>2 ^ (20 - l.getD i 0)) l.length:=by
 rw [<- Qjs]
 congr 1
 apply List.ext_getElem
 ·
  simp
 intro i h1 h2;simp [List.getD_eq_getElem?_getD,List.getElem?_eq_getElem h1]
theorem Qq2 {l:List Nat} (h:∀ x∈l,1<=x/\x<=20):∀ n,n<=20->(Qa7 l n+cnt l n) * 2 ^ (20 - n)=Qbv (fun i=>if l.getD i 0<=n then 2 ^ (20 - l.getD i 0) else 0) l.length
 | 0,_=>by
  rw [Qa7,Qlc fun x hx=>(h x hx).1,Nat.zero_add,Nat.zero_mul]
  symm
  have:Qbv (fun i=>if l.getD i 0<=0 then 2 ^ (20 - l.getD i 0) else 0) l.length=Qbv (fun _=>0) l.length:=Qcr _ fun i hi=>by
   have:=h (l.getD i 0) (by rw [List.getD_eq_getElem?_getD,List.getElem?_eq_getElem hi];exact List.getElem_mem hi);rw [if_neg (by omega)]
  rw [this];generalize l.length=n
  induction n with
  | zero=>rfl
  | succ n ih=>rw [Qbv,ih]
 | n+1,hn=>by
  rw [Qq1,<- Qq2 h n (by omega),Qa7];have e:2 ^ (20 - n)=2 * 2 ^ (20 - (n+1)):=by rw [show 20 - n=(20 - (n+1))+1 by omega,Nat.pow_succ];omega
  rw [e,Nat.add_mul]
  show _=_+cnt l (n+1) * _
  rw [Nat.mul_comm 2 (Qa7 l n+cnt l n),Nat.mul_assoc]
theorem Qjt {l:List Nat} (h:okL l) {n:Nat} (hn:n<=20):Qa7 l n+cnt l n<=2 ^ n:=by
 have h1:=Qq2 h.2.2.1 n hn
 have h2:Qbv (fun i=>if l.getD i 0<=n then 2 ^ (20 - l.getD i 0) else 0) l.length<=Qcd l:=by
  rw [QB6];generalize l.length=m
  induction m with
  | zero=>exact Nat.le_refl _
  | succ m ih =>
   rw [Qbv,Qbv];generalize 2 ^ (20 - l.getD m 0)=p;split <;> omega
 have h3:=h.2.2.2;have e:(1048576:Nat)=2 ^ n * 2 ^ (20 - n):=by rw [<- Nat.pow_add,show n+(20 - n)=20 by omega]
 have h4:(Qa7 l n+cnt l n) * 2 ^ (20 - n)<=2 ^ n * 2 ^ (20 - n):=by omega
 exact Nat.le_of_mul_le_mul_right h4 (Nat.two_pow_pos _)
theorem Qmw {l:List Nat} (h:okL l) {i:Nat} (hi:i < l.length):1<=l.getD i 0/\l.getD i 0<=20 :=
 h.2.2.1 _ (by rw [List.getD_eq_getElem?_getD,List.getElem?_eq_getElem hi];exact List.getElem_mem hi)
theorem Qld {l:List Nat} (h:okL l) {i:Nat} (hi:i < l.length):Qa7 l (l.getD i 0)<=Qep l i/\Qep l i < Qa7 l (l.getD i 0)+cnt l (l.getD i 0)/\Qep l i < 2 ^ l.getD i 0:=by
 have h1:=Qu5 hi;have h2:=Qjt h (Qmw h hi).2;unfold Qep;omega
theorem QH8 {l:List Nat} (h:okL l) {i:Nat} (hi:i < l.length) (r:List Bool):∀ k,k < l.getD i 0->Qg7 l (Qaq (k+1) (Qep l i)++r) (l.getD i 0 - (k+1)) (Qep l i / 2 ^ (k+1))=.ok (i,l.getD i 0):=by
 have hL:=Qmw h hi;obtain ⟨hc1,hc2,hc3⟩:=Qld h hi;intro k
 induction k with
 | zero =>
  intro hk;rw [Qaq,List.cons_append,Qg7]
  have e:2 * (Qep l i / 2 ^ (0+1))+((Qep l i).testBit 0).toNat=Qep l i:=by
   rw [Nat.testBit_zero];rcases Nat.mod_two_eq_zero_or_one (Qep l i) with h | h <;> rw [h] <;> simp <;> omega
  rw [e,show l.getD i 0 - (0+1)+1=l.getD i 0 by omega,if_pos ⟨hc1,hc2⟩];have:Qep l i - Qa7 l (l.getD i 0)=(idxN l (l.getD i 0) i).length:=by unfold Qep;omega
  rw [this,(Qu5 hi).1]
 | succ k ih =>
  intro hk;rw [Qaq,List.cons_append,Qg7]
  have e:2 * (Qep l i / 2 ^ (k+1+1))+((Qep l i).testBit (k+1)).toNat=Qep l i / 2 ^ (k+1):=by
   rw [Nat.pow_succ 2 (k+1),<- Nat.div_div_eq_div_mul,Nat.testBit_eq_decide_div_mod_eq];rcases Nat.mod_two_eq_zero_or_one (Qep l i / 2 ^ (k+1)) with h | h <;> rw [h] <;> simp <;> omega
  rw [e,show l.getD i 0 - (k+1+1)+1=l.getD i 0 - (k+1) by omega];have hfl:=Qz6 l (l.getD i 0 - (k+1)) k;rw [show l.getD i 0 - (k+1)+k+1=l.getD i 0 by omega] at hfl;have hge:Qa7 l (l.getD i 0 - (k+1))+cnt l (l.getD i 0 - (k+1))<=Qep l i / 2 ^ (k+1):=(Nat.le_div_iff_mul_le (Nat.two_pow_pos _)).2 (by omega);rw [if_neg (by omega),if_pos,ih (by omega)];unfold begP;rw [List.any_eq_true];refine ⟨l.getD i 0,List.mem_range.2 (by omega),?_⟩
  have h1:Qep l i / 2 ^ (k+1) * 2 ^ (l.getD i 0 - (l.getD i 0 - (k+1)))<=Qep l i:=by
   rw [show l.getD i 0 - (l.getD i 0 - (k+1))=k+1 by omega];exact Nat.div_mul_le_self _ _
  simp only [Bool.and_eq_true,decide_eq_true_eq];omega
theorem Qom {l:List Nat} (h:okL l) {i:Nat} (hi:i < l.length) {bits:List Bool}{at_:Nat}{r:List Bool} (hb:bits.drop at_=Qhv l i++r):Qjd l bits at_=.ok (i,at_+(Qhv l i).length):=by
 have hL:=Qmw h hi;have hc:=(Qld h hi).2.2;have:=QH8 h hi r (l.getD i 0 - 1) (by omega);rw [show l.getD i 0 - 1+1=l.getD i 0 by omega,Nat.sub_self,Nat.div_eq_of_lt hc] at this;rw [Qjd,hb]
 show (match Qg7 l (Qaq (l.getD i 0) (Qep l i)++r) 0 0 with | .ok p=>_ | .error e=>_)=_
 rw [this,Qhv,Qal]
def Qer (l:List Nat) (list:List Nat):List Bool:=list.flatMap (Qhv l)
theorem Qbs {bits:List Bool}{at_:Nat}{a b:List Bool} (h:bits.drop at_=a++b):bits.drop (at_+a.length)=b:=by
 rw [<- List.drop_drop,h,List.drop_left]
theorem Qu6 {l:List Nat} (h:okL l) (fin:Nat):∀ (list:List Nat) (n:Nat) {bits:List Bool}{at_:Nat}{r:List Bool},(∀ s∈list,s < l.length/\s≠fin)->list.length=n->bits.drop at_=Qer l list++r->Qeq l bits fin n at_=.ok (list,at_+(Qer l list).length)
 | [],n,bits,at_,r,_,hn,hb=>by simp at hn;subst hn;simp [Qeq,Qer]
 | s::list,n,bits,at_,r,hs,hn,hb=>by
  simp at hn;subst hn;have hb':bits.drop at_=Qhv l s++(Qer l list++r):=by rw [hb];simp [Qer,List.append_assoc]
  have h1:=hs s (by simp);rw [Qeq,Qom h h1.1 hb'];simp only;rw [if_neg h1.2,Qu6 h fin list list.length (fun x hx=>hs x (by simp [hx])) rfl (Qbs hb')];simp [Qer];omega
theorem Qle {l:List Nat} (h:okL l) (fin:Nat) (hf:fin < l.length):∀ (list:List Nat) (n:Nat) {bits:List Bool}{at_:Nat}{r:List Bool},(∀ s∈list,s < l.length/\s≠fin)->list.length+1<=n->bits.drop at_=Qer l (list++[fin])++r->Qeq l bits fin n at_=.ok (list++[fin],at_+(Qer l (list++[fin])).length)
 | [],n,bits,at_,r,_,hn,hb=>by
  obtain ⟨n,rfl⟩:∃ m,n=m+1:=⟨n - 1,by simp at hn;omega⟩;have hb':bits.drop at_=Qhv l fin++r:=by rw [hb];simp [Qer]
  rw [Qeq,Qom h hf hb'];simp [Qer]
 | s::list,n,bits,at_,r,hs,hn,hb=>by
  simp at hn;obtain ⟨n,rfl⟩:∃ m,n=m+1:=⟨n - 1,by omega⟩;have hb':bits.drop at_=Qhv l s++(Qer l (list++[fin])++r):=by rw [hb];simp [Qer,List.append_assoc]
  have h1:=hs s (by simp);rw [Qeq,Qom h h1.1 hb'];simp only;rw [if_neg h1.2,Qle h fin hf list n (fun x hx=>hs x (by simp [hx])) (by omega) (Qbs hb')];simp [Qer];omega
theorem Qq3 {l:List Nat}{c:Nat} (h:∀ x∈l,x<=c):∀ (list:List Nat),(Qer l list).length<=list.length * c
 | []=>by simp [Qer]
 | s::list=>by
  have h1:=Qq3 h list
  have h2:(Qhv l s).length<=c:=by
   rw [Qhv,Qal];by_cases hs:s < l.length
   ·
    exact h _ (by rw [List.getD_eq_getElem?_getD,List.getElem?_eq_getElem hs];exact List.getElem_mem hs)
   rw [Qkm (by omega)];omega
  simp only [Qer,List.flatMap_cons,List.length_append,List.length_cons,Nat.succ_mul] at h1 ⊢;omega
def Qic (a b:Nat):List Bool:=if a < b then (List.replicate (b - a) [true,false]).flatten else (List.replicate (a - b) [true,true]).flatten
def Qb3:Nat->List Nat->List Bool
 | _,[]=>[]
 | p,x::r=>Qic p x++(false::Qb3 x r)
def Qb5 (l:List Nat):List Bool:=Qaq 5 (l.getD 0 0)++Qb3 (l.getD 0 0) l
def tdGo:List Bool->Nat->Nat->Nat->Except Int (List Nat×Nat)
 | [],now,k,at_=>if k=0 then .ok ([],at_) else if now < 1∨20 < now then .error 80 else .error 10
 | false::r,now,k,at_=>if k=0 then .ok ([],at_) else if now < 1∨20 < now then .error 80 else match tdGo r now (k - 1) (at_+1) with
  | .error e=>.error e
  | .ok q=>.ok (now::q.1,q.2)
 | [true],now,k,at_=>if k=0 then .ok ([],at_) else if now < 1∨20 < now then .error 80 else .error 10
 | true::d::r,now,k,at_=>if k=0 then .ok ([],at_) else if now < 1∨20 < now then .error 80 else tdGo r (if d=true then now - 1 else now+1) k (at_+2)
def Qdn (bits:List Bool) (at_ n:Nat):Except Int (List Nat×Nat) :=
 if (Qgf bits at_ 5).2≠0 then .error (Qgf bits at_ 5).2 else tdGo (bits.drop (at_+5)) (Qgf bits at_ 5).1 n (at_+5)
theorem QP4:∀ (d p k:Nat) (r:List Bool) (at_:Nat),0 < k->1<=p->p+d<=20->tdGo ((List.replicate d [true,false]).flatten++r) p k at_=tdGo r (p+d) k (at_+2 * d)
 | 0,p,k,r,at_,_,_,_=>rfl
 | d+1,p,k,r,at_,h1,h2,h3=>by
  rw [List.replicate_succ,List.flatten_cons,List.append_assoc]
  show tdGo (true::false::((List.replicate d [true,false]).flatten++r)) p k at_=_
  rw [tdGo,if_neg (by omega),if_neg (by omega),if_neg (by simp),QP4 d (p+1) k r (at_+2) h1 (by omega) (by omega)]
  congr 1 <;> omega
theorem QEr:∀ (d p k:Nat) (r:List Bool) (at_:Nat),0 < k->d < p->p<=20->tdGo ((List.replicate d [true,true]).flatten++r) p k at_=tdGo r (p - d) k (at_+2 * d)
 | 0,p,k,r,at_,_,_,_=>rfl
 | d+1,p,k,r,at_,h1,h2,h3=>by
  rw [List.replicate_succ,List.flatten_cons,List.append_assoc]
  show tdGo (true::true::((List.replicate d [true,true]).flatten++r)) p k at_=_
  rw [tdGo,if_neg (by omega),if_neg (by omega),if_pos rfl,QEr d (p - 1) k r (at_+2) h1 (by omega) (by omega)]
  congr 1 <;> omega
theorem Qfh (d:Nat) (b:Bool):(List.replicate d [true,b]).flatten.length=2 * d:=by
 induction d with
 | zero=>rfl
 | succ d ih=>rw [List.replicate_succ,List.flatten_cons,List.length_append,ih];simp;omega
theorem Qkp (a b:Nat):(Qic a b).length=2 * ((b - a)+(a - b)):=by
 unfold Qic;split <;> rw [Qfh] <;> omega
theorem QMu {p x k:Nat} (r:List Bool) (at_:Nat) (hk:0 < k) (hp:1<=p/\p<=20) (hx:1<=x/\x<=20):tdGo (Qic p x++r) p k at_=tdGo r x k (at_+(Qic p x).length):=by
 rw [Qkp];unfold Qic;split
 ·
  rw [QP4 _ _ _ _ _ hk hp.1 (by omega)];congr 1 <;> omega
 rw [QEr _ _ _ _ _ hk (by omega) hp.2];congr 1 <;> omega
theorem QP5:∀ (l:List Nat) (p:Nat) (r:List Bool) (at_:Nat),(1<=p/\p<=20)->(∀ x∈l,1<=x/\x<=20)->tdGo (Qb3 p l++r) p l.length at_=.ok (l,at_+(Qb3 p l).length)
 | [],p,r,at_,_,_=>by
  show tdGo r p 0 at_=_
  match r with
  | []=>simp [tdGo,Qb3]
  | false::r=>simp [tdGo,Qb3]
  | [true]=>simp [tdGo,Qb3]
  | true::d::r=>simp [tdGo,Qb3]
 | x::l,p,r,at_,hp,hx=>by
  have h1:=hx x (by simp);rw [Qb3,List.append_assoc,List.cons_append,QMu _ _ (by simp) hp h1,tdGo,if_neg (by simp),if_neg (by omega)];rw [List.length_cons,Nat.add_sub_cancel,QP5 l x r _ h1 fun y hy=>hx y (by simp [hy])];simp;omega
theorem QB7 {l:List Nat} (hl:l≠[]) (h:∀ x∈l,1<=x/\x<=20) {bits:List Bool}{at_:Nat}{r:List Bool} (hb:bits.drop at_=Qb5 l++r):Qdn bits at_ l.length=.ok (l,at_+(Qb5 l).length):=by
 have h0:1<=l.getD 0 0/\l.getD 0 0<=20:=h _ (by
  cases l with
  | nil=>exact absurd rfl hl
  | cons x l=>simp)
 have hlen:bits.length - at_=(Qb5 l).length+r.length:=by rw [<- List.length_drop,hb,List.length_append]
 have h5:(Qb5 l).length=5+(Qb3 (l.getD 0 0) l).length:=by rw [Qb5,List.length_append,Qal]
 have ht:(bits.drop at_).take 5=Qaq 5 (l.getD 0 0):=by
  rw [hb,Qb5,List.append_assoc];have:=Qal 5 (l.getD 0 0);rw [List.take_append_of_le_length (by omega),List.take_of_length_le (by omega)]
 have hd:bits.drop (at_+5)=Qb3 (l.getD 0 0) l++r:=by
  have:=Qbs (bits:=bits) (at_:=at_) (a:=Qaq 5 (l.getD 0 0)) (b:=Qb3 (l.getD 0 0) l++r) (by rw [hb,Qb5,List.append_assoc])
  rwa [Qal] at this
 have hts:Qgf bits at_ 5=(l.getD 0 0,0):=by
  rw [Qgf,if_neg (by omega),ht,Qdl,Nat.mod_eq_of_lt (by omega)]
 rw [Qdn,hts,hd,h5,QP5 l _ r _ h0 h];simp;omega
theorem Qmx {k:Nat}:∀ (l:List Nat) (p:Nat),(p=k∨p=k+1)->(∀ x∈l,x=k∨x=k+1)->(Qb3 p l).length<=3 * l.length
 | [],p,_,_=>by simp [Qb3]
 | x::l,p,hp,hx=>by
  have h1:=hx x (by simp);have h2:=Qmx l x h1 fun y hy=>hx y (by simp [hy]);have h3:=Qkp p x;simp only [Qb3,List.length_append,List.length_cons];omega
def Qd9 (li:List Nat) (at_:Nat):List Nat:=li.getD at_ 0::(li.take at_++li.drop (at_+1))
theorem Qfw {li:List Nat}{at_:Nat} (h:at_ < li.length):(Qd9 li at_).length=li.length:=by simp [Qd9];omega
theorem Qgm {li:List Nat}{at_:Nat} (h:at_ < li.length) (c:Nat):c∈Qd9 li at_ ↔ c∈li:=by
 have e:li=li.take at_++li.getD at_ 0::li.drop (at_+1):=by
  have:li.getD at_ 0=li[at_]:=by rw [List.getD_eq_getElem?_getD,List.getElem?_eq_getElem h];rfl
  rw [this,<- List.drop_eq_getElem_cons h,List.take_append_drop]
 unfold Qd9
 conv=>rhs;rw [e]
 simp only [List.mem_cons,List.mem_append];constructor
 ·
  rintro (h | h | h)
  ·
   exact .inr (.inl h)
  ·
   exact .inl h
  exact .inr (.inr h)
 rintro (h | h | h)
 ·
  exact .inr (.inl h)
 ·
  exact .inl h
 exact .inr (.inr h)
theorem Qme {li:List Nat}{c:Nat} (h:c∈li):li.getD (li.idxOf c) 0=c:=by
 have h1:=List.idxOf_lt_length_iff.2 h;rw [List.getD_eq_getElem?_getD,List.getElem?_eq_getElem h1,Option.getD_some];exact List.getElem_idxOf h1
def Qco:List Nat->List Nat->List Bool
 | _,[]=>[]
 | li,p::r=>List.replicate (li.idxOf p) true++(false::Qco (Qd9 li (li.idxOf p)) r)
def Qbq (T:List (List Nat)) (P:List Nat):List Bool:=Qaq 3 T.length++(Qaq 15 P.length++(Qco (List.range T.length) P++T.flatMap Qb5))
def ptGo (bits:List Bool) (many:Nat):List Nat->Nat->Nat->Except Int (List Nat×Nat)
 | li,0,at_=>.ok ([],at_)
 | li,k+1,at_=>if (unS (bits.drop at_) (many - 1) 0).2≠0 then .error (if (unS (bits.drop at_) (many - 1) 0).2=3 then 110 else (unS (bits.drop at_) (many - 1) 0).2) else
  match ptGo bits many (Qd9 li (unS (bits.drop at_) (many - 1) 0).1) k (at_+(unS (bits.drop at_) (many - 1) 0).1+1) with
  | .error e=>.error e
  | .ok q=>.ok (li.getD (unS (bits.drop at_) (many - 1) 0).1 0::q.1,q.2)
def okLB (l:List Nat):Bool:=decide (2<=l.length) && decide (l.length<=258) && l.all (fun x=>decide (1<=x) && decide (x<=20)) && decide (Qcd l<=1048576)
theorem Qlf {l:List Nat}:okLB l=true ↔ okL l:=by
 simp only [okLB,okL,Bool.and_eq_true,decide_eq_true_eq,List.all_eq_true,and_assoc]
def ttGo (bits:List Bool) (n:Nat):Nat->Nat->Except Int (List (List Nat)×Nat)
 | 0,at_=>.ok ([],at_)
 | k+1,at_=>match Qdn bits at_ n with
  | .error e=>.error e
  | .ok q=>if okLB q.1=false then .error 80 else match ttGo bits n k q.2 with
   | .error e=>.error e
   | .ok q'=>.ok (q.1::q'.1,q'.2)
def Qes (bits:List Bool) (at_ n:Nat):Except Int ((List (List Nat)×List Nat)×Nat) :=
 if (Qgf bits at_ 3).2≠0 then .error (Qgf bits at_ 3).2 else
 if (Qgf bits at_ 3).1 < 2∨6 < (Qgf bits at_ 3).1 then .error 110 else
 if (Qgf bits (at_+3) 15).2≠0 then .error (Qgf bits (at_+3) 15).2 else
 if (Qgf bits (at_+3) 15).1=0 then .error 110 else
 match ptGo bits (Qgf bits at_ 3).1 (List.range (Qgf bits at_ 3).1) (Qgf bits (at_+3) 15).1 (at_+18) with
 | .error e=>.error e
 | .ok q=>match ttGo bits n (Qgf bits at_ 3).1 q.2 with
  | .error e=>.error e
  | .ok q'=>.ok ((q'.1,q.1),q'.2)
def mayP (T:List (List Nat)) (P:List Nat):Prop:=2<=T.length/\T.length<=6/\1<=P.length/\P.length<=32767/\(∀ t∈T,t.length=(T.getD 0 []).length/\3<=t.length/\okL t)/\∀ k∈P,k < T.length
theorem QEs:∀ (k most n:Nat) (r:List Bool),n+k<=most->unS (List.replicate k true++false::r) most n=(n+k,0)
 | 0,most,n,r,_=>rfl
 | k+1,most,n,r,h=>by
  rw [List.replicate_succ,List.cons_append,unS,if_neg (by omega),QEs k most (n+1) r (by omega)]
  congr 1;omega
theorem QP6 (many:Nat):∀ (P li:List Nat) {bits:List Bool}{at_:Nat}{r:List Bool},li.length=many->(∀ k∈P,k∈li)->bits.drop at_=Qco li P++r->ptGo bits many li P.length at_=.ok (P,at_+(Qco li P).length)
 | [],li,bits,at_,r,_,_,_=>by simp [ptGo,Qco]
 | p::P,li,bits,at_,r,hl,hm,hb=>by
  have hp:=hm p (by simp);have h1:=List.idxOf_lt_length_iff.2 hp;have hb':bits.drop at_=(List.replicate (li.idxOf p) true++[false])++(Qco (Qd9 li (li.idxOf p)) P++r):=by rw [hb,Qco];simp
  have hu:unS (bits.drop at_) (many - 1) 0=(li.idxOf p,0):=by
   rw [hb',List.append_assoc,List.singleton_append,QEs _ _ _ _ (by omega),Nat.zero_add]
  have hd:=Qbs hb';simp only [List.length_append,List.length_replicate,List.length_singleton] at hd;rw [List.length_cons,ptGo,hu];simp only;rw [Nat.add_assoc,QP6 many P (Qd9 li (li.idxOf p)) (by rw [Qfw h1,hl]) (fun k hk=>(Qgm h1 k).2 (hm k (by simp [hk]))) hd,Qme hp];simp [Qco];omega
theorem QP7 (n:Nat):∀ (T:List (List Nat)) {bits:List Bool}{at_:Nat}{r:List Bool},(∀ t∈T,t.length=n/\okL t)->bits.drop at_=T.flatMap Qb5++r->ttGo bits n T.length at_=.ok (T,at_+(T.flatMap Qb5).length)
 | [],bits,at_,r,_,_=>by simp [ttGo]
 | t::T,bits,at_,r,hT,hb=>by
  obtain ⟨h1,h2⟩:=hT t (by simp);have hb':bits.drop at_=Qb5 t++(T.flatMap Qb5++r):=by rw [hb];simp
  have hne:t≠[]:=fun e=>by subst e;have:=h2.1;simp at this
  have ht:=QB7 hne h2.2.2.1 hb';rw [h1] at ht;rw [List.length_cons,ttGo,ht];simp only;rw [if_neg (by rw [Qlf.2 h2];simp),QP7 n T (fun t ht=>hT t (by simp [ht])) (Qbs hb')];simp;omega
theorem Qu7 {n v:Nat}{bits:List Bool}{at_:Nat}{r:List Bool} (h0:0 < n) (hv:v < 2 ^ n) (hb:bits.drop at_=Qaq n v++r):Qgf bits at_ n=(v,0)/\bits.drop (at_+n)=r:=by
 have hlen:bits.length - at_=n+r.length:=by rw [<- List.length_drop,hb,List.length_append,Qal]
 have hd:=Qbs hb;rw [Qal] at hd;refine ⟨?_,hd⟩;have hl:=Qal n v
 have ht:(bits.drop at_).take n=Qaq n v:=by
  rw [hb,List.take_append_of_le_length (by omega),List.take_of_length_le (by omega)]
 rw [Qgf,ht,Qdl,Nat.mod_eq_of_lt hv];rw [if_neg (by omega)]
theorem QEt {T:List (List Nat)}{P:List Nat} (h:mayP T P) {bits:List Bool}{at_:Nat}{r:List Bool} (hb:bits.drop at_=Qbq T P++r):Qes bits at_ (T.getD 0 []).length=.ok ((T,P),at_+(Qbq T P).length):=by
 obtain ⟨h1,h2,h3,h4,h5,h6⟩:=h;unfold Qbq at hb;simp only [List.append_assoc] at hb;obtain ⟨t1,d1⟩:=Qu7 (by omega) (by omega) hb;obtain ⟨t2,d2⟩:=Qu7 (by omega) (by omega) d1;rw [Nat.add_assoc] at d2;have p1:=QP6 T.length P (List.range T.length) (by simp) (fun k hk=>by simpa using h6 k hk) d2;have d3:=Qbs d2;have p2:=QP7 (T.getD 0 []).length T (fun t ht=>⟨(h5 t ht).1,(h5 t ht).2.2⟩) d3;rw [Qes,t1,t2];simp only;rw [if_neg (by simp),if_neg (by omega),if_neg (by simp),if_neg (by omega),p1];simp only;rw [p2];simp [Qbq,Qal];omega
def Qag (l:List Nat):List Value:=l.map fun n:Nat=>.int .i64 (n:Int)
def ni (l:List Nat):List Int:=l.map fun n:Nat=>(n:Int)
theorem QH9 (l:List Nat):Qag l=Qap (ni l):=by simp [Qag,Qap,ni]
theorem Qaj (l:List Nat):(Qag l).length=l.length:=by simp [Qag]
theorem Qcq (l m:List Nat):Qag (l++m)=Qag l++Qag m:=by simp [Qag]
theorem QB8 (l:List Nat) (x:Nat):Qag l++[.int .i64 (x:Int)]=Qag (l++[x]):=by simp [Qag]
theorem Qbw {l:List Nat}{i:Nat} (h:i < l.length):(Qag l)[i]? = some (.int .i64 ((l.getD i 0:Nat):Int)):=by
 simp [Qag,List.getElem?_eq_getElem h,List.getD_eq_getElem?_getD]
theorem Qca (l:List Nat) (i v:Nat):(Qag l).set i (.int .i64 (v:Int))=Qag (l.set i v):=by simp [Qag,List.map_set]
theorem Qmf (l:List Nat) (k:Nat):(Qag l).take k=Qag (l.take k):=by simp [Qag]
theorem Qq4 (l:List Nat) (k:Nat):(Qag l).drop k=Qag (l.drop k):=by simp [Qag]
theorem Qc2 (l:List Nat):∀ u∈Qag l,u.oneCell'=true:=by
 intro u hu;obtain ⟨b,_,rfl⟩:=List.mem_map.1 hu;rfl
theorem Qbk {w:World}{p:Addr}{l:List Nat}{n:Nat} (h:RS w (some p) n 1 (Qag l)) {i:Nat} (hi:i < l.length):w.cell? (p.add i)=some (.int .i64 ((l.getD i 0:Nat):Int)) :=
 h.2.2 p rfl i _ (Qbw hi)
def u64V (l:List Nat):List Value:=l.map fun n:Nat=>.int .u64 (n:Int)
theorem Qnp (l:List Nat):(u64V l).length=l.length:=by simp [u64V]
theorem Qsr {l:List Nat}{i:Nat} (h:i < l.length):(u64V l)[i]? = some (.int .u64 ((l.getD i 0:Nat):Int)):=by
 simp [u64V,List.getElem?_eq_getElem h,List.getD_eq_getElem?_getD]
theorem QIa (l:List Nat) (i v:Nat):(u64V l).set i (.int .u64 (v:Int))=u64V (l.set i v):=by simp [u64V,List.map_set]
theorem Qx6:∀ {l:List Value}{i:Nat}{v:Value}{K:Value->Prop},l[i]? = some v->vNth l i K=K v:=by
 intro l i v K h;rw [QD5,h]
section
variable {P:Program}{w w0:World}{B:List Nat}{G:List Res}
theorem Qid (hH:Heap w0 B w G) (i:Nat) {T E ty:TypeId}{bytes:Nat}{z:Value}{a:Option Addr}{cap:Nat}{o:List Nat} (k:Nat) {n:Int}{C:Value->World->Prop}
  (hi:G[i]? = some (Res.row E 1 a o.length cap (Qag o))) (hu:P.underlying T=some (.slice E)) (hz:(P.info? E).map (fun i=>(i.zero.map Value.cells,i.size,i.bytes))=some (some #[z],1,bytes)) (hn:n=k)
  (hb:cap < (o++[k]).length->(o++[k]).length * bytes<=140737488355328/\(o++[k]).length<=9223372036854775807)
  (h:∀ a' cap' w',((o++[k]).length<=cap->a'=a/\cap'=cap)->Heap w0 B w' (G.set i (Res.row E 1 a' (o++[k]).length cap' (Qag (o++[k]))))->C (.slice a' (o++[k]).length cap') w') :
  AppK P #[T,T] ty [.slice a o.length cap,.slice (some ⟨w.heap.size,0,none⟩) 1 1] (w.alloc (.cells [Value.int .i64 n].toArray E)) C:=by
 subst hn;have e:o.length+1=(o++[k]).length:=by simp
 refine Qr7 hH i hi hu hz rfl (by rw [e];exact hb) fun a' cap' w' hc hH'=>?_;rw [QB8,e] at hH';rw [e] at hc ⊢;exact h a' cap' w' hc hH'
end
theorem Qhm {l:List Nat}{i:Nat} (h:i < l.length):maxL (l.take (i+1))=max (maxL (l.take i)) (l.getD i 0):=by
 rw [Qb1 0 h,maxL,List.foldl_append];rfl
theorem Qz7 (l:List Nat) (hl:0 < l.length) (hs:l.length<=1000000000) (a:Option Addr) (lc:Nat) (w:World) (hr:RS w a l.length 1 (Qag l)) :
  Does Tryz.prog 163 #[.slice a l.length lc] w fun v w'=>w'=w/\v=.int .i64 (maxL l:Nat):=by
 obtain ⟨p,rfl⟩:=Qbb hr (by omega);refine En [.slice (some p) l.length lc] 25 Tryz.func163 ?_;generalize hn:l.length=n at *;refine VS [0] ?_;refine VS [0,7] ?_;refine Qde [0] (fun e w'=>Is e [(0,.slice (some p) n lc)]/\Is w' w) ?_ ?_
 ·
  refine Qaf rfl rfl (fun h=>by simp at h;omega) (fun h=>?_);refine VC_skip ?_;refine Qaa ?_;refine Qs ?_;exact ⟨rfl,rfl⟩
 rintro e w' ⟨rfl,rfl⟩;have h0:=Qbk hr (i:=0) (by omega);refine VQ [0,3] fun K hK=>?_;refine ⟨by omega,_,h0,?_⟩;apply hK;clear hK;refine VS [0,3,4] ?_
 have hm0:l.getD 0 0=maxL (l.take 1):=by
  cases l with
  | nil=>simp at hn;omega
  | cons x l=>simp [maxL]
 rw [hm0];refine Qab ?_;refine Qac [0,3,4] (fun m e w1=>∃ (i:Nat),Is e [(0,.slice (some p) n lc),(3,.int .i64 (maxL (l.take i):Nat)),(4,.int .i64 i)]/\Is w1 w'/\1<=i/\i<=n/\m=n - i) (n - 1) ?_ ?_
 ·
  refine Qs ?_;exact ⟨1,rfl,rfl,by omega,by omega,rfl⟩
 rintro m e w2 ⟨i,rfl,rfl,h1,h2,rfl⟩;refine VS [0,3,4,15] ?_;refine VD (fun h=>?_) (fun h=>?_)
 ·
  have hi:=Qbk hr (i:=i) (by omega);have hs2:=Qhm (l:=l) (i:=i) (by omega);refine VC_skip ?_;refine VB ?_;refine VQ [0,3,4] fun K hK=>?_;refine ⟨⟨by omega,by omega⟩,_,hi,?_⟩;refine Qs ?_;rw [show max ((maxL (l.take i):Nat):Int) ((l.getD i 0:Nat):Int)=((maxL (l.take (i+1)):Nat):Int) by rw [hs2];omega];apply hK;clear hK;refine Qah ?_;refine VS [0,3,4] ?_;refine Qaa ?_;refine Qs ?_;exact ⟨n - (i+1),by omega,i+1,rfl,rfl,by omega,by omega,rfl⟩
 refine Qad rfl ?_;refine VS [2] ?_;refine VC_ret (VX_ret1 rfl rfl ⟨rfl,?_⟩);rw [List.take_of_length_le (by omega)]
theorem QIb (l:List Nat) (hl:0 < l.length) (hs:l.length<=1000000000) (a:Option Addr) (lc:Nat) (w:World) (hr:RS w a l.length 1 (Qag l)) :
  Does Tryz.prog 187 #[.slice a l.length lc] w fun v w'=>w'=w/\∃ n:Nat,v=.int .i64 n:=by
 obtain ⟨p,rfl⟩:=Qbb hr (by omega);refine En [.slice (some p) l.length lc] 25 Tryz.func187 ?_;generalize hn:l.length=n at *;refine VS [0] ?_;refine VS [0,7] ?_;refine Qde [0] (fun e w'=>Is e [(0,.slice (some p) n lc)]/\Is w' w) ?_ ?_
 ·
  refine Qaf rfl rfl (fun h=>by simp at h;omega) (fun h=>?_);refine VC_skip ?_;refine Qaa ?_;refine Qs ?_;exact ⟨rfl,rfl⟩
 rintro e w' ⟨rfl,rfl⟩;have h0:=Qbk hr (i:=0) (by omega);refine VQ [0,3] fun K hK=>?_;refine ⟨by omega,_,h0,?_⟩;apply hK;clear hK;refine VS [0,3,4] ?_;refine Qab ?_;refine Qac [0,3,4] (fun m e w1=>∃ (i x:Nat),Is e [(0,.slice (some p) n lc),(3,.int .i64 x),(4,.int .i64 i)]/\Is w1 w'/\1<=i/\i<=n/\m=n - i) (n - 1) ?_ ?_
 ·
  refine Qs ?_;exact ⟨1,_,rfl,rfl,by omega,by omega,rfl⟩
 rintro m e w2 ⟨i,x,rfl,rfl,h1,h2,rfl⟩;refine VS [0,3,4,15] ?_;refine VD (fun h=>?_) (fun h=>?_)
 ·
  have hi:=Qbk hr (i:=i) (by omega);refine VC_skip ?_;refine VB ?_;refine VQ [0,3,4] fun K hK=>?_;refine ⟨⟨by omega,by omega⟩,_,hi,?_⟩;refine Qs ?_;rw [show min ((x:Nat):Int) ((l.getD i 0:Nat):Int)=((min x (l.getD i 0):Nat):Int) by omega];apply hK;clear hK;refine Qah ?_;refine VS [0,3,4] ?_;refine Qaa ?_;refine Qs ?_;exact ⟨n - (i+1),by omega,i+1,_,rfl,rfl,by omega,by omega,rfl⟩
 refine Qad rfl ?_;refine VS [2] ?_;exact VC_ret (VX_ret1 rfl rfl ⟨rfl,_,rfl⟩)
theorem Qon (l:List Nat) (hl:2<=l.length) (hl2:l.length<=258) (hx:∀ x∈l,x<=1073741824) (a:Option Addr) (lc:Nat) (w:World) (hr:RS w a l.length 1 (Qag l)) :
  Does Tryz.prog 160 #[.slice a l.length lc] w fun v w'=>w'=w/\v=.bool true:=by
 have hmax:=(Qib (l:=l)).2 hx;have hc1:=QIb l (by omega) (by omega) a lc w hr;have hc2:=Qz7 l (by omega) (by omega) a lc w hr;refine En [.slice a l.length lc] 21 Tryz.func160 ?_;generalize l.length=n at *;generalize maxL l=mx at *;refine VS [0] ?_;refine VQ [2] fun K hK=>?_;refine ⟨fun h1=>⟨fun h2=>?_,fun h2=>absurd h2 (by simp;omega)⟩,fun h1=>absurd h1 (by simp;omega)⟩;refine MemK_call Tryz.call187 ?_;refine Qs ?_;refine CallK.mk hc1 ?_;rintro v w2 ⟨rfl,q,rfl⟩;refine Qs ?_;refine ⟨fun h3=>?_,fun h3=>absurd h3 (by simp)⟩;refine MemK_call Tryz.call163 ?_;refine Qs ?_;refine CallK.mk hc2 ?_;rintro v w3 ⟨rfl,rfl⟩;refine Qs ?_;rw [decide_eq_true (show ((mx:Nat):Int)<=1073741824 by omega)];apply hK;clear hK;exact VC_ret (VX_ret1 rfl rfl ⟨rfl,rfl⟩)
def sumS (l:List Nat):Nat:=if l.length < 2∨258 < l.length then 0 else if l.all (fun x=>decide (1<=x) && decide (x<=20)) then Qcd l else 0
theorem Qoo (l:List Nat) (x:Nat):Qcd (l++[x])=Qcd l+2 ^ (20 - x):=by rw [Qlb];rfl
theorem Qop (l:List Nat):Qcd l<=l.length * 1048576:=by
 induction l with
 | nil=>simp [Qcd]
 | cons x l ih =>
  have:2 ^ (20 - x)<=2 ^ 20:=Nat.pow_le_pow_right (by omega) (by omega);simp only [Qcd,List.length_cons,Nat.succ_mul];have e:(2:Nat) ^ 20=1048576:=by decide
  omega
theorem Qx7 (l:List Nat) (a:Option Addr) (lc:Nat) (w:World) (hr:RS w a l.length 1 (Qag l)) :
  Does Tryz.prog 149 #[.slice a l.length lc] w fun v w'=>w'=w/\v=.int .i64 (sumS l:Nat):=by
 generalize hres:sumS l=res;unfold sumS at hres;refine En [.slice a l.length lc] 33 Tryz.func149 ?_;generalize hn:l.length=n at *;refine VS [0] ?_;refine VQ [0,13] fun K hK=>?_
 suffices out:∀ b:Bool,(b=true ↔ (n < 2∨258 < n))->K [(0,.slice a n lc),(13,.bool b)] w by (repeat' (first | exact out _ _ (by first | omega | (simp;done) | (simp;omega)) | exact out _ (by first | omega | (simp;done) | (simp;omega)) | refine ⟨fun _=>?_,fun _=>?_⟩ | refine Qo ?_))
 intro b hb;apply hK;clear hK;refine Vi (fun h=>?_) (fun h=>VC_skip ?_)
 ·
  rw [if_pos (hb.1 h)] at hres;subst hres;refine VS [2] ?_;exact VC_ret (VX_ret1 rfl rfl ⟨rfl,rfl⟩)
 have hg:¬ (n < 2∨258 < n):=fun h2=>by have:=hb.2 h2;simp_all
 rw [if_neg hg] at hres;clear hb h;obtain ⟨p,rfl⟩:=Qbb hr (by omega);refine VS [0,3] ?_;refine VS [3,14,15,16] ?_;refine Qab ?_;refine Qac [3,14,15,16] (fun m e w'=>∃ (i:Nat),Is e [(3,.int .i64 (Qcd (l.take i):Nat)),(14,.slice (some p) n lc),(15,.int .i64 n),(16,.int .i64 i)]/\Is w' w/\i<=n/\(l.take i).all (fun x=>decide (1<=x) && decide (x<=20))=true/\m=n - i) n ?_ ?_
 ·
  refine Qs ?_;exact ⟨0,rfl,rfl,by omega,by simp,rfl⟩
 rintro m e w' ⟨i,rfl,rfl,hi,hall,rfl⟩;refine VS [3,14,15,16,17] ?_;(repeat refine Qar ?_);refine VD (fun h=>?_) (fun h=>?_)
 ·
  have hcell:=Qbk hr (i:=i) (by omega);have htk:=Qb1 0 (l:=l) (i:=i) (by omega);have hks:=Qoo (l.take i) (l.getD i 0);rw [<- htk] at hks;have hmem:=Qaz 0 (l:=l) (i:=i) (by omega);have hkl:=Qop (l.take i);have hlt:(l.take i).length<=258:=by rw [List.length_take];omega
  generalize hx:l.getD i 0=x at *;refine VC_skip ?_;refine VB ?_;refine VQ [3,5,14,15,16] fun K hK=>?_;refine ⟨⟨by omega,by omega⟩,_,hcell,?_⟩;apply hK;clear hK;refine VQ [3,5,14,15,16,25] fun K hK=>?_
  suffices out:∀ b:Bool,(b=true ↔ (x < 1∨20 < x))->K [(3,.int .i64 (Qcd (l.take i):Nat)),(5,.int .i64 x),(14,.slice (some p) n lc),(15,.int .i64 n),(16,.int .i64 i),(25,.bool b)] w' by (repeat' (first | exact out _ _ (by first | omega | (simp;done) | (simp;omega)) | exact out _ (by first | omega | (simp;done) | (simp;omega)) | refine ⟨fun _=>?_,fun _=>?_⟩ | refine Qo ?_))
  intro b hb;apply hK;clear hK;refine Vi (fun h=>?_) (fun h=>VC_skip ?_)
  ·
   have hb1:=hb.1 h
   have:l.all (fun x=>decide (1<=x) && decide (x<=20))=false:=by
    rw [List.all_eq_false];exact ⟨x,hmem,by simp;omega⟩
   rw [this,if_neg (by simp)] at hres;subst hres;refine VS [2] ?_;exact VC_ret (VX_ret1 rfl rfl ⟨rfl,rfl⟩)
  have hg2:¬ (x < 1∨20 < x):=fun h2=>by have:=hb.2 h2;simp_all
  clear hb h;have hsh:shN IntKind.i64 (20 - (x:Int))=20 - x:=Qqr (by omega) (by simp [IntKind.bits];omega);have hp2:2 ^ (20 - x)<=2 ^ 20:=Nat.pow_le_pow_right (by omega) (by omega);have hp3:2 ^ (20 - x)<=1048576:=hp2;have hp:(1:Int) * 2 ^ (20 - x)=((2 ^ (20 - x):Nat):Int):=by push_cast;exact Int.one_mul _
  refine VQ [3,14,15,16] fun K hK=>?_;rw [hsh,hp];clear hp hp2 hsh;generalize 2 ^ (20 - x)=pw at *;(repeat first | refine Qo ?_ | refine Qp ?_);rw [show ((Qcd (l.take i):Nat):Int)+pw=((Qcd (l.take (i+1)):Nat):Int) by rw [hks];omega];apply hK;clear hK;refine Qah ?_;refine VS [3,14,15,16] ?_;refine Qaa ?_;refine Qs ?_;refine ⟨n - (i+1),by omega,i+1,rfl,rfl,by omega,?_,rfl⟩;rw [htk,List.all_append,hall];simp;omega
 obtain rfl:i=n:=by omega
 rw [List.take_of_length_le (by omega)] at hall ⊢;rw [if_pos hall] at hres;refine Qad rfl ?_;refine VS [2] ?_;exact VC_ret (VX_ret1 rfl rfl ⟨rfl,by rw [hres]⟩)
theorem QMv (l:List Nat):okLB l=true ↔ ¬ (sumS l=0∨1048576 < sumS l):=by
 unfold sumS okLB;by_cases h1:l.length < 2∨258 < l.length
 ·
  rw [if_pos h1];simp;omega
 rw [if_neg h1];cases h2:l.all (fun x=>decide (1<=x) && decide (x<=20)) with
 | false=>simp
 | true =>
  have hpos:0 < Qcd l:=by
   cases l with
   | nil=>simp at h1
   | cons x l=>have:=Nat.two_pow_pos (20 - x);simp only [Qcd];omega
  simp;omega
theorem Qie (l:List Nat) (a:Option Addr) (lc:Nat) (w:World) (hr:RS w a l.length 1 (Qag l)) :
  Does Tryz.prog 103 #[.slice a l.length lc] w fun v w'=>w'=w/\v=.int .i64 (if okLB l=true then 0 else 80):=by
 have hc:=Qx7 l a lc w hr;have hs:=QMv l;refine En [.slice a l.length lc] 12 Tryz.func103 ?_;generalize sumS l=n at *;refine VS [0] ?_;refine VQ [3] fun K hK=>?_;refine MemK_call Tryz.call149 ?_;refine Qs ?_;refine CallK.mk hc ?_;rintro v w2 ⟨rfl,rfl⟩;apply hK;clear hK;refine VQ [11] fun K hK=>?_
 suffices out:∀ b:Bool,(b=true ↔ (n=0∨1048576 < n))->K [(11,.bool b)] w2 by (repeat' (first | exact out _ _ (by first | omega | (simp;done) | (simp;omega)) | exact out _ (by first | omega | (simp;done) | (simp;omega)) | refine ⟨fun _=>?_,fun _=>?_⟩ | refine Qo ?_))
 intro b hb;apply hK;clear hK;refine Vi (fun h=>?_) (fun h=>VC_skip ?_)
 ·
  have h2:=hb.1 h;refine VS [2] ?_;exact VC_ret (VX_ret1 rfl rfl ⟨rfl,by rw [if_neg (fun h3=>hs.1 h3 h2)]⟩)
 have hg:¬ (n=0∨1048576 < n):=fun h2=>by have:=hb.2 h2;simp_all
 refine VS [2] ?_;exact VC_ret (VX_ret1 rfl rfl ⟨rfl,by rw [if_pos (hs.2 hg)]⟩)
theorem Qju {P:Program}{w:World}{a:Option Addr}{n c:Nat}{l:List Nat}{T E:TypeId} (h:RS w a n 1 (Qag l)) (hu:P.underlying T=some (.slice E)):Src P w (.slice a n c) T 1 n (Qag l):=⟨rfl,h,E,hu⟩
theorem QMw {w:World}{KV:Value->Prop} (a:Option Addr) (n c n' c':Nat) (xo yo:Operand):Qby Tryz.prog .eql 36 xo yo (.slice a n c) (.slice none n' c') w KV=KV (.bool a.isNone):=QHs Tryz.underlying36 a n c n' c' xo yo
attribute [go_sem] QMw
theorem QB9 (l:List Nat) (hl:0 < l.length) (hs:l.length<=1000000000) (a:Option Addr) (lc:Nat) (w:World) (hr:RS w a l.length 1 (Qag l)) :
  Does Tryz.prog 161 #[.slice a l.length lc] w fun v w'=>∃ a' cap,Heap w [] w' [Res.row 3 1 a' l.length cap (Qag l)]/\v=.slice a' l.length cap:=by
 obtain ⟨p,rfl⟩:=Qbb hr (by omega);refine En [.slice (some p) l.length lc] 8 Tryz.func161 ?_;refine VS [0] ?_;refine VS [0,4] ?_;refine Qaf rfl rfl (fun h=>by simp at h) (fun h=>VC_skip ?_);refine VQ [2] fun K hK=>?_;have hS:=Heap.start w;refine Qbg hS (Qag []) (xs:=[]) Tryz.underlying36 sz3 rfl rfl rfl (by omega) ?_;refine Qs ?_;refine ⟨rfl,by simp [Value.cells],fun g w4 hH2=>?_⟩;(try refine Qs ?_);refine Qai ?_;refine Qs ?_;refine Qb7 hH2 0 rfl Tryz.underlying36 zi3 rfl (Qju (hH2.rs' hr) Tryz.underlying36) (Qc2 _) (fun h=>by omega) fun a' cap' w5 hc' hH4=>?_;refine Qs ?_;apply hK;clear hK;exact VC_ret (VX_ret1 rfl rfl ⟨a',cap',by simpa [Qag] using hH4,by simp⟩)
set_option maxHeartbeats 2000000
theorem QCa (l:List Nat) (hl:l.length<=1000000) (hx:∀ x∈l,x<=1000000) (a:Option Addr) (lc:Nat) (w:World) (hr:RS w a l.length 1 (Qag l)) :
  Does Tryz.prog 155 #[.slice a l.length lc] w fun v w'=>w'=w/\v=.int .i64 (if okLB l=true then (Qcd l:Int) else -1):=by
 generalize hn:l.length=n at *;refine En [.slice a n lc] 45 Tryz.func155 ?_;refine VS [0] ?_;refine VS [0,3] ?_;refine VS [0,3,4] ?_;refine Qab ?_;refine Qac [0,3,4] (fun m e w'=>∃ (i:Nat),Is e [(0,.slice a n lc),(3,.int .i64 (Qcd (l.take i):Nat)),(4,.int .i64 i)]/\Is w' w/\i<=n/\(l.take i).all (fun x=>decide (1<=x) && decide (x<=20))=true/\m=n - i) n ?_ ?_
 ·
  refine Qs ?_;exact ⟨0,rfl,rfl,by omega,by simp,rfl⟩
 rintro m e w' ⟨i,rfl,rfl,hi,hall,rfl⟩;refine VS [0,3,4,8] ?_;refine VD (fun h=>?_) (fun h=>?_)
 ·
  obtain ⟨p,rfl⟩:=Qbb hr (by omega);have hcell:=Qbk hr (i:=i) (by omega);have htk:=Qb1 0 (l:=l) (i:=i) (by omega);have hks:=Qoo (l.take i) (l.getD i 0);rw [<- htk] at hks;have hmem:=Qaz 0 (l:=l) (i:=i) (by omega);have hkl:=Qop (l.take i);have hlt:(l.take i).length<=1000000:=by rw [List.length_take];omega
  have hx1:=hx _ hmem;generalize hx:l.getD i 0=x at *;refine VC_skip ?_;refine VB ?_;refine VQ [0,3,4,22] fun K hK=>?_;refine ⟨⟨by omega,by omega⟩,_,hcell,?_⟩;(try refine Qs ?_)
  suffices out:∀ b:Bool,(b=true ↔ (x < 1∨20 < x))->K [(0,.slice (some p) n lc),(3,.int .i64 (Qcd (l.take i):Nat)),(4,.int .i64 i),(22,.bool b)] w' by
   refine ⟨fun h3=>?_,fun h3=>out _ (by simp at h3 ⊢;omega)⟩;refine ⟨⟨by omega,by omega⟩,_,hcell,?_⟩;(try refine Qs ?_);exact out _ (by simp at h3 ⊢;omega)
  intro b hb;apply hK;clear hK;refine Vi (fun h=>?_) (fun h=>VC_skip ?_)
  ·
   have hb1:=hb.1 h
   have:okLB l=false:=by
    have h3:l.all (fun x=>decide (1<=x) && decide (x<=20))=false:=by
     rw [List.all_eq_false];exact ⟨x,hmem,by simp;omega⟩
    unfold okLB;rw [h3];simp
   refine VS [2] ?_;refine VC_ret (VX_ret1 rfl rfl ⟨rfl,?_⟩);rw [this];rfl
  have hg2:¬ (x < 1∨20 < x):=fun h2=>by have:=hb.2 h2;simp_all
  clear hb h;have hsh:shN IntKind.i64 ((20 - (x:Int)) % 18446744073709551616)=20 - x:=Qr9 (by omega) (by simp [IntKind.bits];omega) (by decide);have hp2:2 ^ (20 - x)<=2 ^ 20:=Nat.pow_le_pow_right (by omega) (by omega);have hp3:2 ^ (20 - x)<=1048576:=hp2;have hp:(1:Int) * 2 ^ (20 - x)=((2 ^ (20 - x):Nat):Int):=by push_cast;exact Int.one_mul _
  refine VQ [0,3,4] fun K hK=>?_;refine ⟨⟨by omega,by omega⟩,_,hcell,?_⟩;(try refine Qs ?_);rw [hsh,hp];clear hp hp2 hsh;generalize 2 ^ (20 - x)=pw at *;(repeat first | refine Qo ?_ | refine Qp ?_);rw [show ((Qcd (l.take i):Nat):Int)+pw=((Qcd (l.take (i+1)):Nat):Int) by rw [hks];omega];apply hK;clear hK;refine Qah ?_;refine VS [0,3,4] ?_;refine Qaa ?_;refine Qs ?_;refine ⟨n - (i+1),by omega,i+1,rfl,rfl,by omega,?_,rfl⟩;rw [htk,List.all_append,hall];simp;omega
 obtain rfl:i=n:=by omega
 have htl:l.take i=l:=List.take_of_length_le (by omega);rw [htl] at hall ⊢;refine Qad rfl ?_
 have hok:okLB l=true ↔ 2<=i/\i<=258/\Qcd l<=1048576:=by
  unfold okLB;rw [hall,hn];simp [and_assoc]
 have hkl:=Qop l;rw [hn] at hkl;refine VQ [3,43] fun K hK=>?_
 suffices out:∀ b:Bool,(b=true ↔ ¬ (2<=i/\i<=258/\Qcd l<=1048576))->K [(3,.int .i64 (Qcd l:Nat)),(43,.bool b)] w' by (repeat' (first | exact out _ _ (by first | omega | (simp;done) | (simp;omega)) | exact out _ (by first | omega | (simp;done) | (simp;omega)) | refine ⟨fun _=>?_,fun _=>?_⟩ | refine Qo ?_))
 intro b hb;apply hK;clear hK;refine Vi (fun h=>?_) (fun h=>VC_skip ?_)
 ·
  have hb1:=hb.1 h;refine VS [2] ?_;refine VC_ret (VX_ret1 rfl rfl ⟨rfl,?_⟩);rw [if_neg fun h3=>hb1 (hok.1 h3)]
 have hb1:okLB l=true:=hok.2 (Decidable.not_not.1 fun h3=>by rw [hb.2 h3] at h;cases h);refine VS [2] ?_;refine VC_ret (VX_ret1 rfl rfl ⟨rfl,?_⟩);rw [if_pos hb1]
theorem Qx8 (l:List Nat) (hl:l.length<=1000000) (hx:∀ x∈l,x<=1000000) (a:Option Addr) (lc:Nat) (w:World) (hr:RS w a l.length 1 (Qag l)) :
  Does Tryz.prog 111 #[.slice a l.length lc] w fun v w'=>w'=w/\v=.int .i64 (if okLB l=true then 0 else 80):=by
 have hc:=QCa l hl hx a lc w hr;refine En [.slice a l.length lc] 6 Tryz.func111 ?_;refine VS [0] ?_;refine VQ [5] fun K hK=>?_;refine MemK_call Tryz.call155 ?_;refine Qs ?_;refine CallK.mk hc ?_;rintro v w2 ⟨rfl,rfl⟩;(try refine Qs ?_);apply hK;clear hK;refine VD (fun h=>?_) (fun h=>VC_skip ?_)
 ·
  refine VS [2] ?_;refine VC_ret (VX_ret1 rfl rfl ⟨rfl,?_⟩);by_cases hb:okLB l=true
  ·
   rw [if_pos hb] at h;omega
  rw [if_neg hb]
 refine VS [2] ?_;refine VC_ret (VX_ret1 rfl rfl ⟨rfl,?_⟩);by_cases hb:okLB l=true
 ·
  rw [if_pos hb]
 rw [if_neg hb] at h;omega
def wr (g:Nat) (a:Option Addr) (cap:Nat) (l:List Bool):Res :=
 Res.pair (Res.blk g 123 [.slice a (Qbo l).length cap,.int .i64 l.length]) (Res.row 5 1 a (Qbo l).length cap (Qan (Qbo l)))
theorem Qd3 (w:World):Does Tryz.prog 35 #[] w fun v w'=>∃ g,Heap w [] w' [wr g none 0 []]/\v=.pointer (some ⟨g,0,none⟩):=by
 refine En [] 3 Tryz.func35 ?_;refine VS [] ?_;refine VQ [0] fun K hK=>?_;refine Qce ?_;refine Qs ?_;have hH:=(Qjp (w:=w) (E:=5) (sz:=1)).box 123 [.slice none 0 0,.int .i64 0];generalize w.alloc (Obj.cells [Value.slice none 0 0,.int .i64 0].toArray 123)=w1 at *;apply hK;clear hK;refine VC_ret (VX_ret1 rfl rfl ?_);exact ⟨_,hH.pair,rfl⟩
theorem Qdi (g:Nat) (a:Option Addr) (cap:Nat) (l:List Bool) (v:Nat) (n:Nat) (w:World) (hn:n<=64) (hv:v < 2 ^ n) (hl:l.length<=100000000000000)
  (hL:Heap w (wr g a cap l).foot w [wr g a cap l]):Does Tryz.prog 36 #[.pointer (some ⟨g,0,none⟩),.int .u64 v,.int .i64 n] w fun x w'=>∃ a' cap',Heap w (wr g a cap l).foot w' [wr g a' cap' (l++Qaq n v)]/\x=.int .i64 0:=by
 have hv64:v < 18446744073709551616:=Nat.lt_of_lt_of_le hv (Nat.pow_le_pow_right (n:=2) (by omega) hn);have hdiv:v / 2 ^ n=0:=Nat.div_eq_of_lt hv;refine En [.pointer (some ⟨g,0,none⟩),.int .u64 v,.int .i64 n] 81 Tryz.func36 ?_;refine VS [0,1,2] ?_;refine VS [0,1,2,9] ?_;refine Qaf rfl rfl (fun h=>by cases h) (fun h=>VC_skip ?_);refine VQ [0,1,2,26] fun K hK=>?_
 have hsh:shN IntKind.u64 ((n:Int) % 18446744073709551616)=n:=by
  rw [Int.emod_eq_of_lt (by omega) (by omega),shN,show IntKind.u64.bits=64 from rfl];omega
 have hdv:(v:Int) / 2 ^ n=0:=by
  have e:((2:Int) ^ n)=((2 ^ n:Nat):Int):=by push_cast;rfl
  rw [e,<- Int.natCast_ediv,hdiv];rfl
 rw [hsh,hdv]
 suffices out:∀ b:Bool,(b=true ↔ False)->K [(0,.pointer (some ⟨g,0,none⟩)),(1,.int .u64 v),(2,.int .i64 n),(26,.bool b)] w by (repeat' (first | exact out _ _ (by first | omega | (simp;done) | (simp;omega)) | exact out _ (by first | omega | (simp;done) | (simp;omega)) | refine ⟨fun _=>?_,fun _=>?_⟩ | refine Qo ?_))
 intro b hb;apply hK;clear hK;refine Qaf rfl rfl (fun h=>(hb.1 h).elim) (fun h=>VC_skip ?_);refine VS [0,1,7] ?_;refine VB ?_;refine Qac [0,1,7] (fun m e w'=>∃ (k:Nat) (i:Int) (a':Option Addr) (cap':Nat),Is e [(0,.pointer (some ⟨g,0,none⟩)),(1,.int .u64 v),(7,.int .i64 i)]/\Heap w (wr g a cap l).foot w' [wr g a' cap' (l++(Qaq n v).take k)]/\k<=n/\i=(n:Int) - 1 - k/\m=n - k) n ?_ ?_
 ·
  refine Qs ?_;exact ⟨0,_,a,cap,rfl,by simpa using hL,by omega,by omega,rfl⟩
 rintro m e w1 ⟨k,i,a1,cap1,rfl,hH,hk,hi,rfl⟩;refine VS [0,1,7,30] ?_;refine VD (fun h=>?_) (fun h=>?_)
 ·
  refine VC_skip ?_;refine VB ?_;have htk:=Qok n v k (by omega);have hlen:(l++(Qaq n v).take k).length=l.length+k:=by rw [List.length_append,List.length_take,Qal];omega
  generalize hl1:l++(Qaq n v).take k=l1 at *;have htl:=Qcc l1;have hH1:=hH.unpair;refine VQ [0,1,7,38] fun K hK=>?_;(repeat first | refine Qo ?_ | refine Qp ?_ | (refine Gc hH1 ?_;(try refine Qs ?_)));apply hK;clear hK;(repeat refine Qar ?_);refine Qde [0,1,7] (fun e w'=>∃ a2 cap2,Is e [(0,.pointer (some ⟨g,0,none⟩)),(1,.int .u64 v),(7,.int .i64 i)]/\Heap w (wr g a cap l).foot w' [Res.row 5 1 a2 (Qbo (l1++[false])).length cap2 (Qan (Qbo (l1++[false]))),Res.blk g 123 [.slice a2 (Qbo (l1++[false])).length cap2,.int .i64 l1.length]]) ?_ ?_
  ·
   refine VD (fun h=>?_) (fun h=>VC_skip ?_)
   ·
    have e1:Qbo (l1++[false])=Qbo l1++[0]:=by rw [Qoj,if_pos (by omega)]
    refine VQ [0,1,7] fun K hK=>?_;(repeat first | refine Qo ?_ | refine Qp ?_ | (refine Gc hH1 ?_;(try refine Qs ?_)));refine Qb4 (xs:=[.const (.int .u8 0)]) Tryz.underlying43 sz5 rfl rfl rfl (by omega) ?_;refine Qs ?_;refine ⟨by simp [Value.cells],?_⟩;refine Qai ?_;refine Qs ?_;refine Qgu hH1 1 (0) rfl Tryz.underlying43 zi5 (by first | rfl | (simp;done) | omega) (fun h=>by (first | omega | (simp;done) | (simp;omega))) fun a' cap' w5 hc' hH2=>?_;(try refine Qs ?_);rw [<- e1] at hH2 ⊢;refine MemK_store ?_;refine Qs ?_;refine StoreK_blk hH2 0 (vs:=[.slice a' (Qbo (l1++[false])).length cap']) rfl rfl (by kernel_rfl) (by first | decide | (simp;done) | (simp;omega)) (by simp [Value.oneCell']) fun w6 hH3=>?_;(try refine Qs ?_);apply hK;clear hK;refine Qaa ?_;refine Qs ?_;exact ⟨_,_,rfl,hH3.perm (List.Perm.swap _ _ _)⟩
   have e1:Qbo (l1++[false])=Qbo l1:=by rw [Qoj,if_neg (by omega)]
   rw [e1];refine Qaa ?_;refine Qs ?_;exact ⟨_,_,rfl,hH1.perm (List.Perm.swap _ _ _)⟩
  clear hH hH1;rintro e w2 ⟨a2,cap2,rfl,hH⟩;generalize hb:v.testBit (n - 1 - k)=b at htk;have hi2:i=((n - 1 - k:Nat):Int):=by omega
  have hsh2:shN IntKind.u64 (i % 18446744073709551616)=n - 1 - k:=by
   rw [hi2,Int.emod_eq_of_lt (by omega) (by omega),shN,show IntKind.u64.bits=64 from rfl];omega
  have hsh3:(v:Int) / 2 ^ (n - 1 - k)=((v / 2 ^ (n - 1 - k):Nat):Int):=by
   rw [Int.natCast_ediv];push_cast;rfl
  have hle:v / 2 ^ (n - 1 - k)<=v:=Nat.div_le_self _ _;have hbit:=Qgy v (n - 1 - k);rw [hb] at hbit;refine VQ [0,1,7,53] fun K hK=>?_;rw [hsh2,hsh3];clear hsh3;generalize v / 2 ^ (n - 1 - k)=q at *;(repeat first | refine Qo ?_ | refine Qp ?_ | (refine Gc hH ?_;(try refine Qs ?_)));rw [show Int.toNat 1=1 from rfl,Int.toNat_natCast,Nat.and_one_is_mod,hbit];apply hK;clear hK;(repeat refine Qar ?_);refine Qde [0,1,7] (fun e w'=>Is e [(0,.pointer (some ⟨g,0,none⟩)),(1,.int .u64 v),(7,.int .i64 i)]/\Heap w (wr g a cap l).foot w' [Res.row 5 1 a2 (Qbo (l1++[b])).length cap2 (Qan (Qbo (l1++[b]))),Res.blk g 123 [.slice a2 (Qbo (l1++[b])).length cap2,.int .i64 l1.length]]) ?_ ?_
  ·
   cases b with
   | false =>
    refine Qaf rfl rfl (fun h=>by simp at h) (fun h=>VC_skip ?_);refine Qaa ?_;refine Qs ?_;exact ⟨rfl,hH⟩
   | true =>
    refine Qaf rfl rfl (fun h=>?_) (fun h=>by simp at h);have hol:(Qbo (l1++[false])).length=(l1.length+8) / 8:=by rw [Qcc,List.length_append];rfl
    have hlen2:(Qbo (l1++[true])).length=(Qbo (l1++[false])).length:=by rw [Qcc,Qcc];simp
    have htrue:=QB5 l1;generalize Qbo (l1++[true])=o2 at *;generalize Qbo (l1++[false])=o at *;obtain ⟨ga,rfl⟩:=Qdu (hH.at 0 rfl) (by omega);have hsh4:shN IntKind.u8 (((l1.length:Int) % 8) % 18446744073709551616)=l1.length % 8:=Qr9 (by omega) (by simp [IntKind.bits];omega) (by decide);refine VL [0,1,7] 20 fun K hK=>?_;(repeat first | refine Qo ?_ | refine Qp ?_ | (refine Gc hH ?_;(try refine Qs ?_)));have e1:((l1.length:Int) / 8).toNat=l1.length / 8:=by omega
    rw [hsh4,e1,show (128:Int) / 2 ^ (l1.length % 8)=((128 / 2 ^ (l1.length % 8):Nat):Int) from Qgd 128 _];have hm128:128 / 2 ^ (l1.length % 8)<=128:=Nat.div_le_self _ _;have hx256:=(o.getD (l1.length / 8) 0).toNat_lt;generalize hmm:128 / 2 ^ (l1.length % 8)=mm at *
    have hy:(UInt8.ofNat ((o.getD (l1.length / 8) 0).toNat ||| mm)).toNat=(o.getD (l1.length / 8) 0).toNat ||| mm :=
     ofNat_toNat (Nat.or_lt_two_pow (n:=8) hx256 (by omega))
    have ho2:=htrue _ hy;rw [Int.toNat_natCast,<- hy];generalize (UInt8.ofNat ((o.getD (l1.length / 8) 0).toNat ||| mm))=y at *;refine ⟨⟨by omega,by omega⟩,⟨by omega,by omega⟩,⟨by omega,by omega⟩,?_⟩;refine MemK_store ?_;refine Qs ?_;refine Qas hH 0 (o:=(l1.length / 8)) (vs:=[.int .u8 y.toNat]) rfl (by first | exact (Qa8 _ _ _).symm | rfl | simp [Qa8]) rfl (by kernel_rfl) (by first | omega | (simp;done) | (simp;omega) | (simp [Qan,Qap];omega) | (rw [natsV_len];simp;omega)) (by simp [Value.oneCell']) fun w6 hH2=>?_;(try refine Qs ?_);simp only [List.length_singleton,Qb2 (Qan o) _ _ (show l1.length / 8 < (Qan o).length by rw [Qfs];omega),Qjo,<- ho2,List.set_cons_zero] at hH2;apply hK;clear hK;refine Qaa ?_;refine Qs ?_;rw [hlen2];exact ⟨rfl,hH2⟩
  clear hH;rintro e w3 ⟨rfl,hH⟩;refine VQ [0,1,7] fun K hK=>?_;(repeat first | refine Qo ?_ | refine Qp ?_ | (refine Gc hH ?_;(try refine Qs ?_)));refine MemK_store ?_;refine Qs ?_;refine StoreK_blk hH 1 (vs:=[.int .i64 (l1.length+1)]) rfl rfl (by kernel_rfl) (by first | decide | (simp;done) | (simp;omega)) (by simp [Value.oneCell']) fun w6 hH2=>?_;(try refine Qs ?_);apply hK;clear hK;refine Qah ?_;refine VS [0,1,7] ?_;refine Qaa ?_;refine Qs ?_;refine ⟨n - (k+1),by omega,k+1,i - 1,a2,cap2,rfl,?_,by omega,by omega,rfl⟩;rw [htk,<- List.append_assoc,hl1];have hH3:=(hH2.perm (List.Perm.swap _ _ _)).pair;have e:wr g a2 cap2 (l1++[b])=Res.pair (Res.blk g 123 [.slice a2 (Qbo (l1++[b])).length cap2,.int .i64 (l1.length+1)]) (Res.row 5 1 a2 (Qbo (l1++[b])).length cap2 (Qan (Qbo (l1++[b])))):=by simp [wr]
  rw [e];exact hH3
 refine Qad rfl ?_;refine VS [6] ?_;refine VC_ret (VX_ret1 rfl rfl ?_);have e:(Qaq n v).take k=Qaq n v:=List.take_of_length_le (by rw [Qal];omega);rw [e] at hH;exact ⟨_,_,hH,rfl⟩
theorem Qhx (g:Nat) (a:Option Addr) (cap:Nat) (l:List Bool) (w:World) (hL:(wr g a cap l).holds w) :
  Does Tryz.prog 37 #[.pointer (some ⟨g,0,none⟩)] w fun x w'=>w'=w/\x=Str (Qbo l):=by
 obtain ⟨h1,h2,_⟩:=hL;refine En [.pointer (some ⟨g,0,none⟩)] 10 Tryz.func37 ?_;refine VS [0] ?_;refine VS [0,4] ?_;refine Qaf rfl rfl (fun h=>by cases h) (fun h=>VC_skip ?_);refine VQ [2] fun K hK=>?_;refine ⟨_,Qae h1 rfl,?_⟩;refine Qs ?_;refine ⟨_,Qgc (Qao h2),?_⟩;apply hK;clear hK;exact VC_ret (VX_ret1 rfl rfl ⟨rfl,rfl⟩)
theorem Qjv (g:Nat) (a:Option Addr) (cap:Nat) (l:List Bool) (w:World) (hL:(wr g a cap l).holds w) :
  Does Tryz.prog 38 #[.pointer (some ⟨g,0,none⟩)] w fun x w'=>w'=w/\x=.int .i64 l.length:=by
 obtain ⟨h1,h2,_⟩:=hL;refine En [.pointer (some ⟨g,0,none⟩)] 9 Tryz.func38 ?_;refine VS [0] ?_;refine VS [0,4] ?_;refine Qaf rfl rfl (fun h=>by cases h) (fun h=>VC_skip ?_);refine VQ [2] fun K hK=>?_;refine ⟨_,Qae h1 rfl,?_⟩;apply hK;clear hK;exact VC_ret (VX_ret1 rfl rfl ⟨rfl,rfl⟩)
end Go.Proofs.YtfphmlhgebpojaaGreat
