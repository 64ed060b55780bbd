/- A program logic over the model, and what this program's functions do by it: part 4. No conditions: a library of lemmas. -/
import Derived.Test.YtfphmlhgebpojaaGreatM3
import Derived.Shelf.SlSortCmp.WholeK
import Derived.Test.YtfphmlhgebpojaaGreatChecked
open Nat (reduceEqDiff)
set_option linter.unusedSimpArgs false
set_option linter.unusedVariables false
set_option maxRecDepth 100000
namespace Go.Proofs.YtfphmlhgebpojaaGreat
open Go Go.Eng
set_option maxHeartbeats 4000000
theorem Qo1 (v:Value) (T:List (List Nat)) (P:List Nat) (hm:mayP T P) (w:World) (hp:PlanAt w v T P):Does Tryz.prog 112 #[v] w fun x w'=>Heap w [] w' []/\x=.bool true:=by
 obtain ⟨ta,tc,pa,pc,hs,rfl,hsl,hrT,hrP,hrt⟩:=hp;obtain ⟨m1,m2,m3,m4,m5,m6⟩:=hm;obtain ⟨qt,rfl⟩:=Qbb hrT (by omega);obtain ⟨qp,rfl⟩:=Qbb hrP (by omega);have hen:#[Value.agg #[.slice (some qt) T.length tc,.slice (some qp) P.length pc]]=[Value.agg (Qak (some qt) T.length tc (some qp) P.length pc).toArray].toArray:=rfl;rw [hen];refine Qdj 83 Tryz.func112 rfl rfl (of_decide_eq_true rfl) ?_;simp only [Env.ofArgs];generalize hnt:T.length=nt at *;generalize hnp:P.length=np at *;refine VQ [1] fun K hK=>?_;refine Qce ?_;refine Qs ?_;have hH:=(Heap.start w).box 65 (Qak (some qt) nt tc (some qp) np pc);generalize w.alloc (Obj.cells (Qak (some qt) nt tc (some qp) np pc).toArray 65)=w1 at *;generalize w.heap.size=gp at *;have c0:w1.cell? ⟨gp,0,none⟩=some (.slice (some qt) nt tc):=Qae (hH.at 0 rfl) rfl;have c1:w1.cell? ⟨gp,1,none⟩=some (.slice (some qp) np pc):=Qae (hH.at 0 rfl) rfl;apply hK;clear hK;refine VQ [1,27] fun K hK=>?_
 suffices out:∀ b:Bool,(b=true ↔ False)->K [(1,.pointer (some ⟨gp,0,none⟩)),(27,.bool b)] w1 by
  refine ⟨_,c0,?_⟩;(try refine Qs ?_);refine ⟨fun _=>⟨_,c0,?_⟩,fun h2=>absurd h2 (by omega)⟩;(try refine Qs ?_);refine ⟨fun _=>⟨_,c1,?_⟩,fun h2=>absurd h2 (by omega)⟩;(try refine Qs ?_);refine ⟨fun _=>⟨_,c1,?_⟩,fun h2=>absurd h2 (by omega)⟩;(try refine Qs ?_);exact out _ (by simp;omega)
 intro b hb;apply hK;clear hK;refine Qaf rfl rfl (fun h=>(hb.1 h).elim) (fun h=>VC_skip ?_);clear hb h;have hT0:T[0]? = some (T.getD 0 []):=by rw [List.getD_eq_getElem?_getD,List.getElem?_eq_getElem (by omega)];rfl
 obtain ⟨h0,hh0⟩:∃ h0,hs[0]? = some h0:=⟨_,List.getElem?_eq_getElem (by omega)⟩;have hc0:=(hH.rs' hrT).2.2 qt rfl 0 _ (Qb0 hh0 hT0);have hn3:3<=(T.getD 0 []).length:=(m5 _ (List.mem_of_getElem? hT0)).2.1;generalize T.getD 0 []=t0 at *;refine VQ [1,3] fun K hK=>?_;refine ⟨_,c0,?_⟩;(try refine Qs ?_);refine ⟨by omega,_,hc0,?_⟩;(try refine Qs ?_);apply hK;clear hK;refine VS [1,3,4] ?_;refine Qab ?_;refine Qac [1,3,4] (fun m e w'=>∃ (i:Nat),Is e [(1,.pointer (some ⟨gp,0,none⟩)),(3,.int .i64 t0.length),(4,.int .i64 i)]/\Is w' w1/\i<=nt/\m=nt - i) nt ?_ ?_
 ·
  refine Qs ?_;exact ⟨0,rfl,rfl,by omega,rfl⟩
 rintro m e w2 ⟨i,rfl,rfl,hi,rfl⟩;refine VQ [1,3,4,37] fun K hK=>?_;refine ⟨_,c0,?_⟩;(try refine Qs ?_);(repeat refine Qo ?_);apply hK;clear hK;refine VD (fun h=>?_) (fun h=>?_)
 ·
  have hTi:T[i]? = some (T.getD i []):=by rw [List.getD_eq_getElem?_getD,List.getElem?_eq_getElem (by omega)];rfl
  obtain ⟨hh,hhi⟩:∃ hh,hs[i]? = some hh:=⟨_,List.getElem?_eq_getElem (by omega)⟩;have hci:=(hH.rs' hrT).2.2 qt rfl i _ (Qb0 hhi hTi);have hrt2:=hH.rs' (hrt i hh _ hhi hTi);obtain ⟨e1,e2,e3⟩:=m5 _ (List.mem_of_getElem? hTi);have hck:=Qx8 (T.getD i []) (by have:=e3.2.1;omega) (fun x hx=>by have:=e3.2.2.1 x hx;omega) hh.1 hh.2 w2 hrt2;rw [if_pos (Qlf.2 e3)] at hck;generalize T.getD i []=t at *;refine VC_skip ?_;refine VB ?_;refine VQ [1,3,4,56] fun K hK=>?_;refine ⟨_,c0,?_⟩;(try refine Qs ?_);refine ⟨⟨by omega,by omega⟩,_,hci,?_⟩;(try refine Qs ?_);refine ⟨fun _=>⟨_,c0,?_⟩,fun h2=>by omega⟩;(try refine Qs ?_);refine ⟨⟨by omega,by omega⟩,_,hci,?_⟩;(try refine Qs ?_);refine MemK_call Tryz.call111 ?_;refine Qs ?_;refine CallK.mk hck ?_;rintro v w3 ⟨rfl,rfl⟩;(try refine Qs ?_);apply hK;clear hK;refine Qaf rfl rfl (fun h=>by simp at h) (fun h=>VC_skip ?_);refine Qah ?_;refine VS [1,3,4] ?_;refine Qaa ?_;refine Qs ?_;exact ⟨nt - (i+1),by omega,i+1,rfl,rfl,by omega,rfl⟩
 refine Qad rfl ?_;refine VS [1,3,5] ?_;refine Qab ?_;refine Qac [1,3,5] (fun m e w'=>∃ (i:Nat),Is e [(1,.pointer (some ⟨gp,0,none⟩)),(3,.int .i64 t0.length),(5,.int .i64 i)]/\Is w' w2/\i<=np/\m=np - i) np ?_ ?_
 ·
  refine Qs ?_;exact ⟨0,rfl,rfl,by omega,rfl⟩
 clear h;rintro m e w3 ⟨j,rfl,rfl,hj,rfl⟩;refine VQ [1,3,5,61] fun K hK=>?_;refine ⟨_,c1,?_⟩;(try refine Qs ?_);(repeat refine Qo ?_);apply hK;clear hK;refine VD (fun h=>?_) (fun h=>?_)
 ·
  have hcell:=Qbk (hH.rs' hrP) (i:=j) (by omega);have hlt:=m6 _ (Qaz 0 (l:=P) (i:=j) (by omega));generalize P.getD j 0=x at *;refine VC_skip ?_;refine VB ?_;refine Vq [1,3,5,80] fun K hK=>?_;refine ⟨_,c1,?_⟩;(try refine Qs ?_);refine ⟨⟨by omega,by omega⟩,_,hcell,?_⟩;(try refine Qs ?_);refine ⟨fun _=>⟨_,c1,?_⟩,fun h2=>absurd h2 (by omega)⟩;(try refine Qs ?_);refine ⟨⟨by omega,by omega⟩,_,hcell,_,c0,?_⟩;(try refine Qs ?_);rw [decide_eq_false (show ¬ ((nt:Int)<=x) by omega)];apply hK;clear hK;refine Qaf rfl rfl (fun h=>by simp at h) (fun h=>VC_skip ?_);refine Qah ?_;refine VS [1,3,5] ?_;refine Qaa ?_;refine Qs ?_;exact ⟨np - (j+1),by omega,j+1,rfl,rfl,by omega,rfl⟩
 refine Qad rfl ?_;refine VS [2] ?_;exact VC_ret (VX_ret1 rfl rfl ⟨hH.sub (by simp),by rw [decide_eq_true (by omega)]⟩)
set_option maxHeartbeats 4000000
def sh1 (r:Nat):Nat:=if 2147483648<=r then (r * 2 % 4294967296) ^^^ 79764919 else r * 2 % 4294967296
def shK:Nat->Nat->Nat
 | 0,r=>r
 | k+1,r=>sh1 (shK k r)
def tab (i:Nat):Nat:=shK 8 (i * 16777216)
def Qkv (r:Nat) (b:UInt8):Nat:=(r * 256 % 4294967296) ^^^ tab (r / 16777216 ^^^ b.toNat)
def Qeh (r:Nat) (s:List UInt8):Nat:=s.foldl Qkv r
def Qdd (s:List UInt8):Nat:=4294967295 - Qeh 4294967295 s
def u32V (l:List Nat):List Value:=l.map fun (n:Nat)=>Value.int .u32 (n:Int)
theorem Qll (l:List Nat):(u32V l).length=l.length:=by simp [u32V]
theorem QIl {l:List Nat}{i:Nat} (h:i < l.length):(u32V l)[i]? = some (.int .u32 ((l.getD i 0:Nat):Int)):=by
 simp [u32V,List.getElem?_eq_getElem h,List.getD_eq_getElem?_getD]
theorem QJk {r:Nat} (h:r < 4294967296):sh1 r < 4294967296:=by
 unfold sh1;split
 ·
  exact Nat.xor_lt_two_pow (n:=32) (Nat.mod_lt _ (by decide)) (by decide)
 exact Nat.mod_lt _ (by decide)
theorem Qvr {r:Nat} (h:r < 4294967296):∀ k,shK k r < 4294967296
 | 0=>h
 | k+1=>QJk (Qvr h k)
theorem QJl (i:Nat) (h:i < 256):tab i < 4294967296:=by
 unfold tab;exact Qvr (by omega) 8
theorem Qri {r:Nat} (h:r < 4294967296) (b:UInt8):Qkv r b < 4294967296:=by
 unfold Qkv;refine Nat.xor_lt_two_pow (n:=32) (Nat.mod_lt _ (by decide)) (QJl _ ?_);have:=b.toNat_lt;exact Nat.xor_lt_two_pow (n:=8) (by omega) (by omega)
theorem Qgn (s:List UInt8):∀ {r:Nat},r < 4294967296->Qeh r s < 4294967296:=by
 induction s with
 | nil=>intro r h;exact h
 | cons b s ih=>intro r h;exact ih (Qri h b)
theorem Qvs (r:Nat) (s:List UInt8) (b:UInt8):Qeh r (s++[b])=Qkv (Qeh r s) b:=by simp [Qeh]
def tabs:List Nat:=(List.range 256).map tab
theorem Qnu:tabs.length=256:=by
 unfold tabs;rw [List.length_map,List.length_range]
theorem QIm {i:Nat} (h:i < 256):tabs.getD i 0=tab i:=by
 unfold tabs;rw [List.getD_eq_getElem?_getD,List.getElem?_map,List.getElem?_range h,Option.map_some,Option.getD_some]
theorem QM3 {r:Nat} (h:r < 4294967296):r &&& 2147483648=if 2147483648<=r then 2147483648 else 0:=by
 rw [show (2147483648:Nat)=2 ^ 31 from rfl];apply Nat.eq_of_testBit_eq;intro j;rw [Nat.testBit_and,Nat.testBit_two_pow];by_cases hj:31=j
 ·
  subst hj;rw [Nat.testBit_eq_decide_div_mod_eq];by_cases h1:2 ^ 31<=r
  ·
   have:r / 2 ^ 31 % 2=1:=by omega
   rw [if_pos h1,this,Nat.testBit_two_pow];rfl
  have:r / 2 ^ 31 % 2=0:=by omega
  rw [if_neg h1,this];simp
 simp only [hj,decide_false,Bool.and_false];split
 ·
  rw [Nat.testBit_two_pow];simp [hj]
 simp
theorem QCj (w:World):Does Tryz.prog 121 #[] w fun v w'=>Heap w [] w' []/\v=.agg (u32V tabs).toArray:=by
 refine En [] 26 Tryz.func121 ?_;refine VQ [0] fun K hK=>?_;refine MemK_alloc (.agg (u32V (List.replicate 256 0)).toArray) (by kernel_rfl) ?_;have hH:=(Heap.start w).box 162 (u32V (List.replicate 256 0));have ecells:(Value.agg (u32V (List.replicate 256 0)).toArray).cells=(u32V (List.replicate 256 0)).toArray:=rfl;rw [ecells];generalize w.alloc (Obj.cells (u32V (List.replicate 256 0)).toArray 162)=w1 at *;generalize w.heap.size=g0 at *;refine Qs ?_;apply hK;clear hK;refine VQ [0,1] fun K hK=>?_;refine MemK_alloc (.agg (u32V (List.replicate 256 0)).toArray) (by kernel_rfl) ?_;have hH2:=hH.box 162 (u32V (List.replicate 256 0));rw [ecells];generalize w1.alloc (Obj.cells (u32V (List.replicate 256 0)).toArray 162)=w2 at *;generalize w1.heap.size=g1 at *;refine Qs ?_;apply hK;clear hK;clear ecells hH;refine VS [0,1,4] ?_;refine VB ?_;refine Qac [0,1,4] (fun m e w'=>∃ (i:Nat),Is e [(0,.pointer (some ⟨g0,0,none⟩)),(1,.pointer (some ⟨g1,0,none⟩)),(4,.int .i64 i)]/\Heap w [] w' [Res.blk g1 162 (u32V ((List.range i).map tab++List.replicate (256 - i) 0)),Res.blk g0 162 (u32V (List.replicate 256 0))]/\i<=256/\m=256 - i) 256 ?_ ?_
 ·
  refine Qs ?_;exact ⟨0,rfl,hH2,by omega,rfl⟩
 clear hH2;rintro m e w' ⟨i,rfl,hH,hi,rfl⟩;refine VS [0,1,4,5] ?_;(repeat refine Qar ?_);refine VD (fun h=>?_) (fun h=>?_)
 ·
  refine VC_skip ?_;refine VB ?_;refine VS [0,1,2,4] ?_
  have e24:(i:Int) % 4294967296 * 2 ^ shN IntKind.u32 24 % 4294967296=((shK 0 (i * 16777216):Nat):Int):=by
   rw [show shN IntKind.u32 24=24 from rfl,shK];omega
  refine VQ [0,1,2,3,4] fun K hK=>?_;rw [e24];(repeat refine Qo ?_);apply hK;clear hK;refine VS [0,1,2,3,4,10] ?_;refine VB ?_;refine Qac [0,1,2,3,4,10] (fun m e w2=>∃ (k:Nat),Is e [(0,.pointer (some ⟨g0,0,none⟩)),(1,.pointer (some ⟨g1,0,none⟩)),(2,.int .i64 i),(3,.int .u32 (shK k (i * 16777216):Nat)),(4,.int .i64 i),(10,.int .i64 k)]/\Is w2 w'/\k<=8/\m=8 - k) 8 ?_ ?_
  ·
   refine Qs ?_;exact ⟨0,rfl,rfl,by omega,rfl⟩
  rintro m e w2 ⟨k,rfl,rfl,hk,rfl⟩;refine VS [0,1,2,3,4,10,11] ?_;(repeat refine Qar ?_);refine VD (fun h=>?_) (fun h=>?_)
  ·
   refine VC_skip ?_;refine VB ?_;have hr:=Qvr (r:=i * 16777216) (by omega) k;have hsh:shK (k+1) (i * 16777216)=sh1 (shK k (i * 16777216)):=rfl;generalize shK k (i * 16777216)=r at *;have hand:=QM3 hr;refine VQ [0,1,2,3,4,10,14] fun K hK=>?_;refine ⟨⟨by omega,by omega⟩,⟨by omega,by omega⟩,?_⟩;rw [show Int.toNat 2147483648=2147483648 from rfl,hand];apply hK;clear hK
   have fin:∀ q:Nat,q=sh1 r->selK [0,1,2,3,4,10] [(0,.pointer (some ⟨g0,0,none⟩)),(1,.pointer (some ⟨g1,0,none⟩)),(2,.int .i64 i),(3,.int .u32 q),(4,.int .i64 i),(10,.int .i64 (k+1))] fun e=>∃ m,m < 8 - k/\∃ (k:Nat),Is e [(0,.pointer (some ⟨g0,0,none⟩)),(1,.pointer (some ⟨g1,0,none⟩)),(2,.int .i64 i),(3,.int .u32 (shK k (i * 16777216):Nat)),(4,.int .i64 i),(10,.int .i64 k)]/\Is w2 w2/\k<=8/\m=8 - k:=by
    intro q hq;refine Qs ?_;exact ⟨8 - (k+1),by omega,k+1,by rw [hsh,hq];rfl,rfl,by omega,rfl⟩
   by_cases hbig:2147483648<=r
   ·
    refine Qaf rfl rfl (fun h=>?_) (fun h=>by simp [hbig] at h);refine VQ [0,1,2,3,4,10] fun K hK=>?_
    have e1:(r:Int) * 2 ^ shN IntKind.u32 1 % 4294967296=((r * 2 % 4294967296:Nat):Int):=by
     rw [show shN IntKind.u32 1=1 from rfl];omega
    rw [e1];refine ⟨by omega,⟨by omega,by omega⟩,⟨by omega,by omega⟩,?_⟩;apply hK;clear hK;refine Qah ?_;refine VS [0,1,2,3,4,10] ?_;refine Qaa ?_;refine fin _ ?_;rw [sh1,if_pos hbig];rfl
   refine Qaf rfl rfl (fun h=>by simp [hbig] at h) (fun h=>?_);refine VQ [0,1,2,3,4,10] fun K hK=>?_
   have e1:(r:Int) * 2 ^ shN IntKind.u32 1 % 4294967296=((r * 2 % 4294967296:Nat):Int):=by
    rw [show shN IntKind.u32 1=1 from rfl];omega
   rw [e1];(repeat refine Qo ?_);apply hK;clear hK;refine Qah ?_;refine VS [0,1,2,3,4,10] ?_;refine Qaa ?_;refine fin _ ?_;rw [sh1,if_neg hbig]
  refine Qad rfl ?_;have hk8:k=8:=by omega
  subst hk8;refine VQ [0,1,4] fun K hK=>?_;(repeat first | refine Qo ?_ | refine Qp ?_);refine MemK_store ?_;refine Qs ?_;refine StoreK_blk hH 0 (vs:=[.int .u32 (tab i:Nat)]) rfl rfl (by kernel_rfl) (by rw [Qll];simp;omega) (by simp [Value.oneCell']) fun w6 hH2=>?_
  have hset:(u32V ((List.range i).map tab++List.replicate (256 - i) 0)).take i++[Value.int .u32 (tab i:Nat)]++(u32V ((List.range i).map tab++List.replicate (256 - i) 0)).drop (i+1)=u32V ((List.range (i+1)).map tab++List.replicate (256 - (i+1)) 0):=by
   rw [Qb2 _ _ _ (by rw [Qll];simp;omega)];rw [List.range_succ,List.map_append,show 256 - i=(256 - (i+1))+1 by omega,List.replicate_succ];simp [u32V,List.set_append_right]
  simp only [List.length_singleton] at hH2;rw [hset] at hH2;apply hK;clear hK;refine Qah ?_;refine VS [0,1,4] ?_;refine Qaa ?_;refine Qs ?_;exact ⟨256 - (i+1),by omega,i+1,rfl,hH2,by omega,rfl⟩
 refine Qad rfl ?_;have hi:i=256:=by omega
 subst hi;have e:(List.range 256).map tab++List.replicate (256 - 256) 0=tabs:=by simp [tabs]
 rw [e] at hH;refine VQ [0] fun K hK=>?_;refine ⟨u32V tabs,⟨by rw [Qll,Qnu],blk_reads (hH.at 0 rfl)⟩,?_⟩;refine MemK_store ?_;refine Qs ?_;have hlen:(u32V tabs).length=256:=by rw [Qll,Qnu]
 have hlen0:(u32V (List.replicate 256 0)).length=256:=by simp [u32V]
 refine StoreK_blk hH 1 (vs:=u32V tabs) rfl rfl (by rw [hlen];kernel_rfl) (by rw [hlen,hlen0];omega) (by intro u hu;obtain ⟨n,_,rfl⟩:=List.mem_map.1 hu;rfl) fun w6 hH2=>?_
 have e2:(u32V (List.replicate 256 0)).take 0++u32V tabs++(u32V (List.replicate 256 0)).drop (0+(u32V tabs).length)=u32V tabs:=by
  rw [List.take_zero,List.nil_append,List.drop_of_length_le (by rw [hlen,hlen0];omega),List.append_nil]
 rw [e2] at hH2;apply hK;clear hK;refine VC_ret (Qsa rfl rfl (Qbh (hH2.at 1 rfl) (by kernel_rfl) (by kernel_rfl) hlen ?_));exact ⟨hH2.sub (by simp),rfl⟩
def Qcy:List Bool->List Bool->List Bool
 | [],d=>d
 | _::_,[]=>[]
 | x::xs,y::d=>(x ^^ y)::Qcy xs d
def polyB:List Bool:=Qaq 32 79764919
def divS:Nat->List Bool->List Bool
 | 0,d=>d
 | _+1,[]=>[]
 | n+1,b::d=>divS n (if b then Qcy polyB d else d)
theorem QIn (n:Nat):divS n []=[]:=by cases n <;> rfl
theorem Qs6 (m n:Nat):∀ d,divS (m+n) d=divS n (divS m d):=by
 induction m with
 | zero=>intro d;rw [Nat.zero_add];rfl
 | succ m ih =>
  intro d;rw [show m+1+n=(m+n)+1 by omega];cases d with
  | nil=>rw [divS,divS,QIn]
  | cons b d=>rw [divS,divS,ih]
theorem Qlm:∀ (x d:List Bool),(Qcy x d).length=d.length
 | [],d=>by simp [Qcy]
 | _::_,[]=>by simp [Qcy]
 | x::xs,y::d=>by simp [Qcy,Qlm xs d]
theorem Qo2:∀ (n:Nat) (x d:List Bool),Qcy (x++List.replicate n false) d=Qcy x d
 | n,[],d=>by
  induction n generalizing d with
  | zero=>rfl
  | succ n ih=>cases d with
   | nil=>rfl
   | cons y d =>
    show ((false ^^ y)::Qcy (List.replicate n false) d)=y::d
    have:=ih d;rw [List.nil_append] at this;rw [this,Bool.false_xor];rfl
 | n,x::xs,[]=>rfl
 | n,x::xs,y::d=>by rw [List.cons_append,Qcy,Qcy,Qo2 n xs d]
theorem Qo3:∀ (x y d:List Bool),x.length=y.length->Qcy x (Qcy y d)=Qcy (List.zipWith (fun a b=>a ^^ b) x y) d
 | [],[],d,_=>rfl
 | [],_::_,_,h=>by simp at h
 | _::_,[],_,h=>by simp at h
 | a::x,b::y,[],_=>rfl
 | a::x,b::y,c::d,h=>by
  simp only [Qcy,List.zipWith_cons_cons];rw [Qo3 x y d (by simpa using h),Bool.xor_assoc]
theorem QE8 (n a b:Nat):Qaq n (a ^^^ b)=List.zipWith (fun a b=>a ^^ b) (Qaq n a) (Qaq n b):=by
 induction n with
 | zero=>rfl
 | succ n ih=>simp only [Qaq,List.zipWith_cons_cons];rw [ih,Nat.testBit_xor]
theorem Qyr (n v:Nat):Qaq (n+1) (2 * v)=Qaq n v++[false]:=by
 rw [Qi8 n 1,show 2 * v / 2 ^ 1=v by omega]
 congr 1
 simp [Qaq]
def Qys (r:Nat) (c:Bool):Nat:=sh1 (r ^^^ (if c then 2147483648 else 0))
theorem QE9 {r:Nat} (h:r < 4294967296):(2147483648<=r) ↔ r.testBit 31=true:=by
 rw [Nat.testBit_eq_decide_div_mod_eq,decide_eq_true_eq];have:(2:Nat) ^ 31=2147483648:=by decide
 rw [this];omega
theorem div_one {r:Nat} (h:r < 4294967296) (c:Bool) (T:List Bool):divS 1 (Qcy (Qaq 32 r) (c::T))=Qcy (Qaq 32 (Qys r c)) T:=by
 have hx:r ^^^ (if c then 2147483648 else 0) < 4294967296:=Nat.xor_lt_two_pow (n:=32) h (by split <;> decide)
 have ht:(r ^^^ (if c then 2147483648 else 0)).testBit 31=(r.testBit 31 ^^ c):=by
  rw [Nat.testBit_xor];cases c <;> rfl
 have hl:(r ^^^ (if c then 2147483648 else 0)) * 2 % 4294967296=2 * (r % 2147483648):=by
  have e:(r ^^^ (if c then 2147483648 else 0)) % 2147483648=r % 2147483648:=by
   have:=Nat.xor_mod_two_pow (a:=r) (b:=if c then 2147483648 else 0) (n:=31);rw [show (2:Nat) ^ 31=2147483648 by decide] at this;rw [this];cases c <;> simp
  omega
 have hb:Qaq 32 (2 * (r % 2147483648))=Qaq 31 r++[false]:=by
  rw [Qyr 31,show (2147483648:Nat)=2 ^ 31 by decide,Qk8 31 r 31 (Nat.le_refl _)]
 have h0:Qcy (Qaq 31 r++[false]) T=Qcy (Qaq 31 r) T:=Qo2 1 _ _;rw [show Qaq 32 r=r.testBit 31::Qaq 31 r from rfl,Qcy,divS,divS,Qys,sh1];have htt:=QE9 hx;rw [ht] at htt;rw [hl];cases hq:(r.testBit 31 ^^ c) with
 | true =>
  rw [hq] at htt;rw [if_pos (htt.2 rfl),if_pos rfl,QE8,hb]
  show Qcy (Qaq 32 79764919) _=_
  rw [<- h0,Qo3 _ _ _ (by simp [Qal])]
  congr 1
  rw [List.zipWith_comm]
  congr 1
  funext a b;exact Bool.xor_comm _ _
 | false =>
  rw [hq] at htt;have hn:¬ (2147483648<=r ^^^ (if c then 2147483648 else 0)):=fun h=>by have:=htt.1 h;cases this
  rw [if_neg hn,if_neg (by simp),hb,h0]
theorem QAf {r:Nat} (h:r < 4294967296) (c:Bool):Qys r c < 4294967296:=QJk (Nat.xor_lt_two_pow (n:=32) h (by split <;> decide))
theorem QAg:∀ (l:List Bool) {r:Nat} (h:r < 4294967296) (T:List Bool),divS l.length (Qcy (Qaq 32 r) (l++T))=Qcy (Qaq 32 (l.foldl Qys r)) T
 | [],r,h,T=>rfl
 | c::l,r,h,T=>by
  rw [List.length_cons,Nat.add_comm,Qs6,List.cons_append,div_one h,List.foldl_cons,QAg l (QAf h c) T]
theorem QFa {r:Nat} (h:r < 4294967296):sh1 r=(r * 2 % 4294967296) ^^^ (if r.testBit 31 then 79764919 else 0):=by
 unfold sh1;have:=QE9 h;by_cases h2:2147483648<=r
 ·
  rw [if_pos h2,if_pos (this.1 h2)]
 rw [if_neg h2,if_neg (fun h3=>h2 (this.2 h3)),Nat.xor_zero]
theorem QFb (a b:Nat):(a ^^^ b) * 2 % 4294967296=(a * 2 % 4294967296) ^^^ (b * 2 % 4294967296):=by
 have:=Nat.xor_mod_two_pow (a:=a * 2) (b:=b * 2) (n:=32);rw [show (2:Nat) ^ 32=4294967296 by decide] at this;rw [<- this]
 congr 1
 have e:=Nat.shiftLeft_xor_distrib (a:=a) (b:=b) (i:=1);simp only [Nat.shiftLeft_eq] at e;simpa using e
theorem QFc {a b:Nat} (ha:a < 4294967296) (hb:b < 4294967296):sh1 (a ^^^ b)=sh1 a ^^^ sh1 b:=by
 rw [QFa (Nat.xor_lt_two_pow (n:=32) ha hb),QFa ha,QFa hb,QFb,Nat.testBit_xor];generalize a * 2 % 4294967296=x;generalize b * 2 % 4294967296=y
 have e:∀ p:Nat,x ^^^ p ^^^ (y ^^^ p)=x ^^^ y:=fun p=>by
  rw [Nat.xor_comm y p,<- Nat.xor_assoc,Nat.xor_assoc x p p,Nat.xor_self,Nat.xor_zero]
 cases a.testBit 31 <;> cases b.testBit 31 <;> simp [Nat.xor_assoc]
 ·
  rw [Nat.xor_comm 79764919 y]
 have:=e 79764919;rw [Nat.xor_assoc] at this;exact this.symm
theorem QFd {a b:Nat} (ha:a < 4294967296) (hb:b < 4294967296):∀ k,shK k (a ^^^ b)=shK k a ^^^ shK k b
 | 0=>rfl
 | k+1=>by rw [shK,QFd ha hb k,QFc (Qvr ha k) (Qvr hb k)];rfl
theorem QAh (r:Nat):∀ k,shK k (sh1 r)=sh1 (shK k r)
 | 0=>rfl
 | k+1=>by rw [shK,QAh r k];rfl
theorem QFe:∀ (k r:Nat),r * 2 ^ k < 4294967296->shK k r=r * 2 ^ k
 | 0,r,_=>by simp [shK]
 | k+1,r,h=>by
  have h2:r * 2 ^ k * 2 < 4294967296:=by rw [Nat.mul_assoc,<- Nat.pow_succ];exact h
  rw [shK,QFe k r (by omega),sh1,if_neg (by omega),Nat.mod_eq_of_lt h2,Nat.mul_assoc,<- Nat.pow_succ]
theorem Qvt:∀ (k:Nat) (v r:Nat),k<=32->r < 4294967296->(Qaq k v).foldl Qys r=shK k (r ^^^ (v % 2 ^ k * 2 ^ (32 - k)))
 | 0,v,r,_,_=>by simp [Qaq,shK,Nat.mod_one]
 | k+1,v,r,hk,h=>by
  rw [Qaq,List.foldl_cons,Qvt k v _ (by omega) (QAf h _),Qys];have hp:(2:Nat) ^ (32 - k)=2 * 2 ^ (31 - k):=by rw [show 32 - k=(31 - k)+1 by omega,Nat.pow_succ,Nat.mul_comm]
  have hp2:(2:Nat) ^ k * 2 ^ (31 - k)=2147483648:=by rw [<- Nat.pow_add,show k+(31 - k)=31 by omega]
  have hm:v % 2 ^ k < 2 ^ k:=Nat.mod_lt _ (Nat.two_pow_pos _);have hlow:v % 2 ^ k * 2 ^ (31 - k) < 2147483648:=by rw [<- hp2];exact Nat.mul_lt_mul_of_pos_right hm (Nat.two_pow_pos _)
  have hs:sh1 (v % 2 ^ k * 2 ^ (31 - k))=v % 2 ^ k * 2 ^ (32 - k):=by
   rw [sh1,if_neg (by omega),Nat.mod_eq_of_lt (by omega),hp,Nat.mul_assoc,Nat.mul_comm (2 ^ (31 - k)) 2]
  have hx:(if v.testBit k then 2147483648 else 0) < 4294967296:=by split <;> decide
  rw [<- hs,<- QFc (Nat.xor_lt_two_pow (n:=32) h hx) (by omega),QAh]
  show shK (k+1) _=shK (k+1) _
  congr 1
  rw [Nat.xor_assoc]
  congr 1
  have e1:v % 2 ^ (k+1)=(if v.testBit k then 2 ^ k else 0)+v % 2 ^ k:=by
   rw [Nat.pow_succ,Nat.mod_mul,Nat.testBit_eq_decide_div_mod_eq];rcases Nat.mod_two_eq_zero_or_one (v / 2 ^ k) with h3 | h3 <;> rw [h3] <;> simp <;> omega
  rw [show 32 - (k+1)=31 - k by omega,e1,Nat.add_mul]
  have e2:(if v.testBit k then 2 ^ k else 0) * 2 ^ (31 - k)=if v.testBit k then 2147483648 else 0:=by
   split
   ·
    exact hp2
   simp
  rw [e2];generalize v % 2 ^ k * 2 ^ (31 - k)=y at *;split
  ·
   have:=Nat.two_pow_add_eq_or_of_lt (i:=31) (b:=y) (by omega) 1;rw [show (2:Nat) ^ 31 * 1=2147483648 by decide] at this;rw [this];apply Nat.eq_of_testBit_eq;intro j;rw [Nat.testBit_xor,Nat.testBit_or,show (2147483648:Nat)=2 ^ 31 by decide,Nat.testBit_two_pow];by_cases hj:31=j
   ·
    subst hj;have hy:y.testBit 31=false:=Nat.testBit_lt_two_pow (by omega);simp [hy]
   simp [hj]
  simp
theorem QIo {r hi lo bb:Nat} (er:r=hi ^^^ lo) (h1:hi < 4294967296) (h2:bb < 4294967296) (h5:lo < 4294967296):shK 8 lo ^^^ shK 8 (hi ^^^ bb)=shK 8 (r ^^^ bb):=by
 subst er;rw [Nat.xor_comm hi lo,Nat.xor_assoc,QFd h5 (Nat.xor_lt_two_pow (n:=32) h1 h2)]
theorem Qvu {r:Nat} (h:r < 4294967296) (b:UInt8):Qkv r b=(Qaq 8 b.toNat).foldl Qys r:=by
 have hb:=b.toNat_lt;rw [Qvt 8 _ _ (by omega) h,Qkv,tab];have e0:b.toNat % 2 ^ 8 * 2 ^ (32 - 8)=b.toNat * 16777216:=by rw [Nat.mod_eq_of_lt (by omega)]
 rw [e0];have hhi:r / 16777216 < 256:=by omega
 have hlo:r % 16777216 < 16777216:=Nat.mod_lt _ (by decide)
 have er:r=(r / 16777216 * 16777216) ^^^ (r % 16777216):=by
  apply Nat.eq_of_testBit_eq;intro j;rw [Nat.testBit_xor,show (16777216:Nat)=2 ^ 24 by decide,Nat.testBit_mul_two_pow,Nat.testBit_mod_two_pow,Nat.testBit_div_two_pow];by_cases hj:24<=j
  ·
   simp [hj,show ¬ j < 24 by omega,show j - 24+24=j by omega]
  simp [hj,show j < 24 by omega]
 have ex:(r / 16777216 ^^^ b.toNat) * 16777216=(r / 16777216 * 16777216) ^^^ (b.toNat * 16777216):=by
  have e:=Nat.shiftLeft_xor_distrib (a:=r / 16777216) (b:=b.toNat) (i:=24);simp only [Nat.shiftLeft_eq] at e;simpa using e
 have hl8:shK 8 (r % 16777216)=r * 256 % 4294967296:=by
  have e8:(2:Nat) ^ 8=256:=by decide
  have h3:r % 16777216 * 256=r * 256 % 4294967296:=by
   have h4:=Nat.mul_mod_mul_right 256 r 16777216;rw [show 16777216 * 256=4294967296 by decide] at h4;exact h4.symm
  rw [QFe 8 _ (by rw [e8];omega),e8,h3]
 have h1:r / 16777216 * 16777216 < 4294967296:=by clear ex er e0 hl8;omega
 have h2:b.toNat * 16777216 < 256 * 16777216:=Nat.mul_lt_mul_of_pos_right hb (by decide);have h5:r % 16777216 < 4294967296:=Nat.lt_trans hlo (by decide);rw [ex,<- hl8];exact QIo er h1 h2 h5
theorem QFf:∀ (s:List UInt8) {r:Nat} (h:r < 4294967296),divS (8 * s.length) (Qcy (Qaq 32 r) (Qam s++List.replicate 32 false))=Qaq 32 (Qeh r s)
 | [],r,h=>by
  show Qcy (Qaq 32 r) ([]++List.replicate 32 false)=Qaq 32 r
  have:∀ (x:List Bool),Qcy x (List.replicate x.length false)=x:=by
   intro x
   induction x with
   | nil=>rfl
   | cons a x ih=>rw [List.length_cons,List.replicate_succ,Qcy,ih,Bool.xor_false]
  have h2:=this (Qaq 32 r);rw [Qal] at h2;exact h2
 | b::s,r,h=>by
  have h8:=QAg (Qaq 8 b.toNat) h (Qam s++List.replicate 32 false);rw [Qal,<- Qvu h] at h8;rw [List.length_cons,show 8 * (s.length+1)=8+8 * s.length by omega,Qs6,Qdv,List.append_assoc,h8,QFf s (Qri h b)];rfl
set_option maxHeartbeats 2000000
theorem QFg:Qaq 33 4374732215=true::polyB:=by
 have h:=Qk8 32 4374732215 32 (Nat.le_refl _);have e:4374732215 % 2 ^ 32=79764919:=by decide
 rw [e] at h;rw [polyB,h]
 show (4374732215:Nat).testBit 32::_=_
 congr 1
theorem QCk (w:World):Does Tryz.prog 176 #[] w fun v w'=>∃ g,v=.slice (some ⟨g,0,none⟩) 33 33/\Heap w [] w' [Res.row 3 1 (some ⟨g,0,none⟩) 33 33 (Qap (bI (true::polyB)))]:=by
 have hb:=Qej 4374732215 33 (by decide) (by decide);rw [QFg] at hb;refine En [] 8 Tryz.func176 ?_;refine VS [] ?_;refine VQ [1] fun K hK=>?_;refine MemK_call Tryz.call66 ?_;refine Qs ?_;refine CallK.mk (hb w) ?_;rintro v w2 ⟨g,hH,rfl⟩;(try refine Qs ?_);apply hK;clear hK;refine VS [0] ?_;exact VC_ret (VX_ret1 rfl rfl ⟨g,rfl,hH⟩)
theorem QFh:polyB.length=32:=by rw [polyB,Qal]
theorem Qmm:∀ (k:Nat) (P D:List Bool),k < P.length->k < D.length->Qcy (P.take (k+1)) D=(Qcy (P.take k) D).set k (D.getD k false ^^ P.getD k false)
 | 0,p::P,d::D,_,_=>by simp [Qcy,Bool.xor_comm]
 | k+1,p::P,d::D,h1,h2=>by
  simp only [List.take_succ_cons,Qcy,List.set_cons_succ,List.getD_cons_succ];rw [Qmm k P D (by simpa using h1) (by simpa using h2)]
 | _,[],_,h,_=>by simp at h
 | _,_::_,[],_,h=>by simp at h
theorem Qs7:∀ (k:Nat) (P D:List Bool),k < D.length->(Qcy (P.take k) D).getD k false=D.getD k false
 | 0,P,D,_=>by simp [Qcy]
 | k+1,[],D,_=>by simp [Qcy]
 | k+1,p::P,d::D,h=>by
  simp only [List.take_succ_cons,Qcy,List.getD_cons_succ];exact Qs7 k P D (by simpa using h)
 | k+1,_::_,[],h=>by simp at h
theorem QFi (i:Nat) (l:List Bool):divS (i+1) l=divS 1 (divS i l):=Qs6 i 1 l
theorem QAi:∀ (i:Nat) (l:List Bool),(divS i l).length=l.length - i
 | 0,l=>rfl
 | i+1,[]=>by simp [divS]
 | i+1,b::l=>by
  rw [divS,QAi i];split <;> simp [Qlm]
theorem QAj (l:List Bool) (k:Nat) (b:Bool):bI (l.set k b)=(bI l).set k (if b then 1 else 0):=by simp [bI,List.map_set]
theorem Qp6 {α:Type} (A D:List α) (i k:Nat) (x:α) (h:A.length=i):(A++D).set (i+k) x=A++D.set k x:=by
 rw [List.set_append_right _ _ (by omega),h,Nat.add_sub_cancel_left]
theorem Qln {l:List Int}{i:Nat}{x:Int} (h:i < l.length):(Qap l).take i++[.int .i64 x]++(Qap l).drop (i+[Value.int .i64 x].length)=Qap (l.set i x):=by
 have e:=List.set_eq_take_append_cons_drop (l:=Qap l) (i:=i) (a:=Value.int .i64 x);rw [if_pos (by rw [Qc8];exact h)] at e;have e2:Qap (l.set i x)=(Qap l).set i (.int .i64 x):=by simp [Qap,List.map_set]
 rw [e2,e,List.append_assoc];rfl
theorem QFj (a b:Bool):((if a then 1 else 0:Int)+(if b then 1 else 0)) % 2=if (a ^^ b) then 1 else 0:=by cases a <;> cases b <;> rfl
theorem QCl (l:List Bool) (a:Option Addr) (c:Nat) (hl:l.length<=1000000000000) (h32:32<=l.length) (w:World) (hr:RS w a l.length 1 (Qap (bI l))) :
  Does Tryz.prog 157 #[.slice a l.length c] w fun v w'=>∃ a' c',v=.slice a' 32 c'/\Heap w [] w' []/\RS w' a' 32 1 (Qap (bI (divS (l.length - 32) l))):=by
 have hbl:=Qbi l;refine En [.slice a l.length c] 49 Tryz.func157 ?_;refine VS [0] ?_;refine VQ [0,3] fun K hK=>?_;refine MemK_call Tryz.call176 ?_;refine Qs ?_;refine CallK.mk (QCk w) ?_;rintro v w2 ⟨gp,rfl,hH⟩;(try refine Qs ?_);apply hK;clear hK;refine VQ [3,4] fun K hK=>?_;refine Qbg hH (Qap []) (xs:=[]) Tryz.underlying36 sz3 rfl rfl rfl (by omega) ?_;refine Qs ?_;refine ⟨rfl,by simp [Value.cells],fun g w4 hH2=>?_⟩;(try refine Qs ?_);have hr2:=hH2.rs' hr;rw [<- hbl] at hr2 ⊢;refine Qai ?_;refine Qs ?_;refine Qch (o:=[]) (t:=bI l) hH2 0 rfl Tryz.underlying36 zi3 rfl hr2 (fun h=>by simp;omega) fun a' cap' w5 hc' hH3=>?_;simp only [List.set_cons_zero,List.nil_append] at hH3 ⊢;(try refine Qs ?_);apply hK;clear hK;rw [hbl] at hH3 ⊢;refine VS [3,4,5] ?_;refine Qab ?_;refine Qac [3,4,5] (fun m e w'=>∃ (i:Nat) (A:List Bool),Is e [(3,.slice (some ⟨gp,0,none⟩) 33 33),(4,.slice a' l.length cap'),(5,.int .i64 i)]/\Heap w [] w' [Res.row 3 1 a' l.length cap' (Qap (bI (A++divS i l))),Res.row 3 1 (some ⟨gp,0,none⟩) 33 33 (Qap (bI (true::polyB)))]/\A.length=i/\i+32<=l.length/\m=l.length - i) l.length ?_ ?_
 ·
  refine Qs ?_;exact ⟨0,[],rfl,hH3,rfl,by omega,rfl⟩
 clear hH3 hH hH2;rintro m e w' ⟨i,A,rfl,hH,hA,hi,rfl⟩;have hdl:=QAi i l;generalize hD:divS i l=D at *;refine VS [3,4,5,15] ?_;refine VD (fun h=>?_) (fun h=>?_)
 ·
  obtain ⟨d,D,rfl⟩:∃ d D',D=d::D':=by
   cases D with
   | nil=>simp at hdl;omega
   | cons d D'=>exact ⟨d,D',rfl⟩
  have hn:divS (i+1) l=if d then Qcy polyB D else D:=by
   rw [QFi,hD];cases d <;> rfl
  simp only [List.length_cons] at hdl;refine VC_skip ?_;refine VB ?_;obtain ⟨p,rfl⟩:=Qbb (Qao (hH.at 0 rfl)) (by omega);have hAl:(A++d::D).length=l.length:=by simp;omega
  have hcell:=Qhc (Qao (hH.at 0 rfl)) (show i < (bI (A++d::D)).length by rw [Qbi,hAl];omega);rw [Qmu (by omega)] at hcell
  have hat:(A++d::D).getD i false=d:=by
   rw [List.getD_eq_getElem?_getD,List.getElem?_append_right (by omega),hA,Nat.sub_self];rfl
  rw [hat] at hcell;refine VQ [3,4,5,22] fun K hK=>?_;refine ⟨⟨by omega,by omega⟩,_,hcell,?_⟩;(try refine Qs ?_);(repeat refine Qo ?_);apply hK;clear hK;refine Qaf rfl rfl (fun h2=>?_) (fun h2=>?_)
  ·
   simp only [decide_eq_true_eq] at h2;have hdt:d=true:=by cases d <;> simp at h2 ⊢
   subst hdt;rw [if_pos rfl] at hn;refine VS [3,4,5,6] ?_;refine Qab ?_;refine Qac [3,4,5,6] (fun m e w'=>∃ (k:Nat),Is e [(3,.slice (some ⟨gp,0,none⟩) 33 33),(4,.slice (some p) l.length cap'),(5,.int .i64 i),(6,.int .i64 k)]/\Heap w [] w' [Res.row 3 1 (some p) l.length cap' (Qap (bI (A++Qcy ((true::polyB).take k) (true::D)))),Res.row 3 1 (some ⟨gp,0,none⟩) 33 33 (Qap (bI (true::polyB)))]/\k<=33/\m=33 - k) 33 ?_ ?_
   ·
    refine Qs ?_;exact ⟨0,rfl,hH,by omega,rfl⟩
   clear hH hcell;rintro m e w3 ⟨k,rfl,hH,hk,rfl⟩;have hpl:(true::polyB).length=33:=by rw [List.length_cons,QFh]
   refine VS [3,4,5,6,24] ?_;refine VD (fun h=>?_) (fun h=>?_)
   ·
    have hk33:k < 33:=by omega
    refine VC_skip ?_;refine VB ?_;have hx:=Qmm k (true::polyB) (true::D) (by omega) (by simp;omega);have hxl:(Qcy ((true::polyB).take k) (true::D)).length=D.length+1:=by rw [Qlm];rfl
    have hAx:(A++Qcy ((true::polyB).take k) (true::D)).length=l.length:=by rw [List.length_append];omega
    have hcell:=Qhc (Qao (hH.at 0 rfl)) (show i+k < (bI (A++Qcy ((true::polyB).take k) (true::D))).length by rw [Qbi,hAx];omega);rw [Qmu (by omega)] at hcell
    have hat:(A++Qcy ((true::polyB).take k) (true::D)).getD (i+k) false=(true::D).getD k false:=by
     rw [List.getD_eq_getElem?_getD,List.getElem?_append_right (by omega),hA,Nat.add_sub_cancel_left,<- List.getD_eq_getElem?_getD,Qs7 k _ _ (by simp;omega)]
    rw [hat] at hcell;have hcp:=Qaw (hH.at 1 rfl) (Qcv (l:=bI (true::polyB)) (i:=k) (by rw [Qbi];omega));rw [Qmu (by omega)] at hcp
    have hset:bI (A++Qcy ((true::polyB).take (k+1)) (true::D))=(bI (A++Qcy ((true::polyB).take k) (true::D))).set (i+k) (if ((true::D).getD k false ^^ (true::polyB).getD k false) then 1 else 0):=by
     rw [hx,<- QAj,Qp6 _ _ _ _ _ hA]
    have hm:=QFj ((true::D).getD k false) ((true::polyB).getD k false);generalize (true::D).getD k false=b1 at *;generalize (true::polyB).getD k false=b2 at *;refine VL [3,4,5,6] 17 fun K hK=>?_;refine ⟨I64.mk (by omega) (by omega),I64.mk (by omega) (by omega),⟨by omega,by omega⟩,_,hcell,⟨by omega,by omega⟩,_,hcp,?_⟩;(try refine Qs ?_);have h2b:I64 ((if b1=true then 1 else 0:Int)+(if b2=true then 1 else 0))/\0<=(if b1=true then 1 else 0:Int)+(if b2=true then 1 else 0):=by cases b1 <;> cases b2 <;> exact ⟨I64.mk (by decide) (by decide),by decide⟩
    generalize (if b1=true then 1 else 0:Int)+(if b2=true then 1 else 0)=sm at *;refine ⟨h2b.1,h2b.2,by decide,⟨by omega,by omega⟩,?_⟩;refine MemK_store ?_;refine Qs ?_;refine Qas hH 0 (o:=i+k) (vs:=[.int .i64 (sm % 2)]) rfl (by rfl) rfl (by kernel_rfl) (by simp only [List.length_singleton,Qc8,Qbi];omega) (by simp [Value.oneCell']) fun w4 hH2=>?_;simp only [List.set_cons_zero] at hH2;rw [Qln (by rw [Qbi];omega),hm,<- hset] at hH2;(try refine Qs ?_);apply hK;clear hK;refine Qah ?_;refine VS [3,4,5,6] ?_;refine Qaa ?_;refine Qs ?_;exact ⟨33 - (k+1),by omega,k+1,rfl,hH2,by omega,rfl⟩
   obtain rfl:k=33:=by omega
   have e33:(true::polyB).take 33=true::polyB:=List.take_of_length_le (by omega);rw [e33] at hH;refine Qad rfl ?_;refine Qah ?_;refine VS [3,4,5] ?_;refine Qaa ?_;refine Qs ?_;refine ⟨l.length - (i+1),by omega,i+1,A++[false],rfl,?_,by simp [hA],by omega,rfl⟩;rw [hn,List.append_assoc];exact hH
  simp only [decide_eq_false_iff_not] at h2;have hdt:d=false:=by cases d <;> simp at h2 ⊢
  subst hdt;rw [if_neg (by simp)] at hn;refine VC_skip ?_;refine Qah ?_;refine VS [3,4,5] ?_;refine Qaa ?_;refine Qs ?_;refine ⟨l.length - (i+1),by omega,i+1,A++[false],rfl,?_,by simp [hA],by omega,rfl⟩;rw [hn,List.append_assoc];exact hH
 obtain rfl:i=l.length - 32:=by omega
 refine Qad rfl ?_;have hrs:=Qao (hH.at 0 rfl);obtain ⟨g,rfl⟩:=Qdu (hH.at 0 rfl) (by omega);have hrc:=Qr5 (hH.at 0 rfl);have hSL:SL w' (some ⟨g,0,none⟩) l.length cap' (Qap (bI (A++D))):=⟨hrs,hrc.1,fun ad e=>by cases e;rfl⟩;have hcut:=hSL.cut (l.length - 32) 32 (by omega)
 have e1:((Qap (bI (A++D))).drop (l.length - 32)).take 32=Qap (bI D):=by
  have:Qap (bI (A++D))=Qap (bI A)++Qap (bI D):=by simp [Qap,bI]
  rw [this,List.drop_append_of_le_length (by rw [Qc8,Qbi];omega),List.drop_of_length_le (by rw [Qc8,Qbi];omega),List.nil_append,List.take_of_length_le (by rw [Qc8,Qbi];omega)]
 rw [e1] at hcut;refine VQ [2] fun K hK=>?_;refine ⟨I64.mk (by omega) (by omega),⟨by omega,by omega,hrc.1⟩,?_⟩;rw [show l.length - (l.length - 32)=32 by omega];generalize (if cap'=l.length - 32 then some (⟨g,0,none⟩:Addr) else Option.map (fun x=>x.add (l.length - 32)) (some (⟨g,0,none⟩:Addr)))=a2 at *;generalize cap' - (l.length - 32)=c2 at *;apply hK;clear hK;refine VC_ret (VX_ret1 rfl rfl ⟨a2,c2,rfl,hH.sub (by simp),by rw [hD];exact hcut⟩)
theorem QCm (r:Nat) (s:List UInt8) (w:World) (hr:r < 4294967296) (hs:s.length<=100000000000) :
  Does Tryz.prog 120 #[.int .u32 r,Str s] w fun v w'=>Heap w [] w' []/\v=.int .u32 (Qeh r s:Nat):=by
 have hbl:=Qbd s;have hml:=Qgn s hr;refine En [.int .u32 r,Str s] 39 Tryz.func120 ?_;refine VS [0,1] ?_;refine VQ [0,5] fun K hK=>?_;refine MemK_call Tryz.call20 ?_;refine Qs ?_;refine CallK.mk (Qzy s hs w) ?_;rintro v w2 ⟨a,cap,hH,rfl⟩;(try refine Qs ?_);refine Qai ?_;refine Qs ?_;refine Qqp (m:=32) hH 0 rfl rfl Tryz.underlying36 zi3 Tryz.underlying3 rfl (by rw [Qbi];omega) fun a' cap' w5 hc' hH2=>?_;simp only [List.set_cons_zero] at hH2;have hz:Qap (bI (Qam s))++List.replicate 32 (.int .i64 0)=Qap (bI (Qam s++List.replicate 32 false)):=by simp [Qap,bI]
 have hzl:(bI (Qam s)).length+32=(Qam s++List.replicate 32 false).length:=by simp [Qbi]
 rw [hz,hzl] at hH2;rw [hzl];clear hH hc';generalize hD:Qam s++List.replicate 32 false=D at *;have hDl:D.length=8 * s.length+32:=by rw [<- hD];simp [hbl]
 (try refine Qs ?_);apply hK;clear hK;refine VQ [5,6] fun K hK=>?_;(repeat first | refine Qo ?_ | refine Qp ?_);rw [show (r:Int) % 18446744073709551616=((r:Nat):Int) by omega];refine MemK_call Tryz.call66 ?_;refine Qs ?_;refine CallK.mk (Qej r 32 (by omega) (by omega) w5) ?_;rintro v w6 ⟨g,hH3,rfl⟩;have hH4:=hH2.call0 hH3;simp only [List.singleton_append] at hH4;clear hH2 hH3;(try refine Qs ?_);apply hK;clear hK;have hrl:=Qal 32 r;generalize hR:Qaq 32 r=R at *;refine VS [5,6,8] ?_;refine Qab ?_;refine Qac [5,6,8] (fun m e w'=>∃ (i:Nat),Is e [(5,.slice a' D.length cap'),(6,.slice (some ⟨g,0,none⟩) 32 32),(8,.int .i64 i)]/\Heap w [] w' [Res.row 3 1 (some ⟨g,0,none⟩) 32 32 (Qap (bI R)),Res.row 3 1 a' D.length cap' (Qap (bI (Qcy (R.take i) D)))]/\i<=32/\m=32 - i) 32 ?_ ?_
 ·
  refine Qs ?_;exact ⟨0,rfl,hH4,by omega,rfl⟩
 clear hH4;rintro m e w' ⟨i,rfl,hH,hi,rfl⟩;have hxl:(Qcy (R.take i) D).length=D.length:=Qlm _ _;refine VS [5,6,8,19] ?_;refine VD (fun h=>?_) (fun h=>?_)
 ·
  refine VC_skip ?_;refine VB ?_;obtain ⟨p,rfl⟩:=Qbb (Qao (hH.at 1 rfl)) (by omega);have hx:=Qmm i R D (by omega) (by omega);have hcell:=Qhc (Qao (hH.at 1 rfl)) (show i < (bI (Qcy (R.take i) D)).length by rw [Qbi];omega);rw [Qmu (by omega),Qs7 i R D (by omega)] at hcell;have hcp:=Qaw (hH.at 0 rfl) (Qcv (l:=bI R) (i:=i) (by rw [Qbi];omega));rw [Qmu (by omega)] at hcp;have hset:bI (Qcy (R.take (i+1)) D)=(bI (Qcy (R.take i) D)).set i (if (D.getD i false ^^ R.getD i false) then 1 else 0):=by rw [hx,<- QAj]
  have hm:=QFj (D.getD i false) (R.getD i false);generalize D.getD i false=b1 at *;generalize R.getD i false=b2 at *;refine VL [5,6,8] 13 fun K hK=>?_;refine ⟨⟨by omega,by omega⟩,_,hcell,⟨by omega,by omega⟩,_,hcp,?_⟩;(try refine Qs ?_);have h2b:I64 ((if b1=true then 1 else 0:Int)+(if b2=true then 1 else 0))/\0<=(if b1=true then 1 else 0:Int)+(if b2=true then 1 else 0):=by cases b1 <;> cases b2 <;> exact ⟨I64.mk (by decide) (by decide),by decide⟩
  generalize (if b1=true then 1 else 0:Int)+(if b2=true then 1 else 0)=sm at *;refine ⟨h2b.1,h2b.2,by decide,⟨by omega,by omega⟩,?_⟩;refine MemK_store ?_;refine Qs ?_;refine Qas hH 1 (o:=i) (vs:=[.int .i64 (sm % 2)]) rfl (by rfl) rfl (by kernel_rfl) (by simp only [List.length_singleton,Qc8,Qbi];omega) (by simp [Value.oneCell']) fun w4 hH2=>?_;simp only [List.set_cons_zero,List.set_cons_succ] at hH2;rw [Qln (by rw [Qbi];omega),hm,<- hset] at hH2;(try refine Qs ?_);apply hK;clear hK;refine Qah ?_;refine VS [5,6,8] ?_;refine Qaa ?_;refine Qs ?_;exact ⟨32 - (i+1),by omega,i+1,rfl,hH2,by omega,rfl⟩
 obtain rfl:i=32:=by omega
 have e32:R.take 32=R:=List.take_of_length_le (by omega);rw [e32] at hH hxl;refine Qad rfl ?_;have hdv:=QFf s hr;rw [hR,hD] at hdv;have hres:=fun w' h=>QCl (Qcy R D) a' cap' (by omega) (by omega) w' h;rw [hxl] at hres;rw [show 8 * s.length=D.length - 32 by omega] at hdv;rw [hdv] at hres;refine VQ [4] fun K hK=>?_;refine MemK_call Tryz.call157 ?_;refine Qs ?_;refine CallK.mk (hres w' (Qao (hH.at 1 rfl))) ?_;rintro v w7 ⟨a7,c7,rfl,hH7,hr7⟩;(try refine Qs ?_);have hbl32:=Qal 32 (Qeh r s);have hnum:=Quw (Qaq 32 (Qeh r s)) a7 c7 (by omega) w7 (by rw [hbl32];exact hr7);rw [hbl32,Qdl,Nat.mod_eq_of_lt (by omega)] at hnum;refine MemK_call Tryz.call124 ?_;refine Qs ?_;refine CallK.mk hnum ?_;rintro v w8 ⟨rfl,rfl⟩;(try refine Qs ?_);have hH8:=hH.call0 hH7;rw [show ((Qeh r s:Nat):Int) % 4294967296=((Qeh r s:Nat):Int) by omega];apply hK;clear hK;exact VC_ret (VX_ret1 rfl rfl ⟨hH8.sub (by simp),rfl⟩)
theorem QCn (s:List UInt8) (w:World) (hs:s.length<=100000000000):Does Tryz.prog 58 #[Str s] w fun v w'=>Heap w [] w' []/\v=.int .u32 (Qdd s:Nat):=by
 have hml:=Qgn s (r:=4294967295) (by decide);have hm:=QCm 4294967295 s w (by decide) hs;refine En [Str s] 6 Tryz.func58 ?_;refine VS [0] ?_;refine VQ [2] fun K hK=>?_;refine MemK_call Tryz.call120 ?_;refine Qs ?_;refine CallK.mk hm ?_;rintro v w2 ⟨hH,rfl⟩;(try refine Qs ?_);rw [show (4294967295 - ((Qeh 4294967295 s:Nat):Int)) % 4294967296=((Qdd s:Nat):Int) by unfold Qdd;omega];apply hK;clear hK;exact VC_ret (VX_ret1 rfl rfl ⟨hH,rfl⟩)
theorem QQc {α:Sort _} (a:α):Is a a:=rfl
theorem QFk (r:Nat) (s:List UInt8) (w:World) (hr:r < 4294967296) (hs:s.length<=1000000000000000000) :
  Does Tryz.prog 59 #[.int .u32 r,Str s] w fun v w'=>Heap w [] w' []/\v=.int .u32 (Qeh r s:Nat):=by
 refine En [.int .u32 r,Str s] 27 Tryz.func59 ?_;refine VS [0,1] ?_;refine VQ [0,1,5] fun K hK=>?_;refine MemK_call Tryz.call121 ?_;refine Qs ?_;refine CallK.mk (QCj w) ?_;rintro v w1 ⟨hH,rfl⟩;refine MemK_alloc (.agg (u32V (List.replicate 256 0)).toArray) (by kernel_rfl) ?_;have hH2:=hH.box 162 (u32V (List.replicate 256 0));have ecells:(Value.agg (u32V (List.replicate 256 0)).toArray).cells=(u32V (List.replicate 256 0)).toArray:=rfl;rw [ecells];generalize w1.alloc (Obj.cells (u32V (List.replicate 256 0)).toArray 162)=w2 at *;generalize w1.heap.size=g at *;refine Qs ?_;refine MemK_store ?_;refine Qs ?_;have hlen:(u32V tabs).length=256:=by rw [Qll,Qnu]
 have hlen0:(u32V (List.replicate 256 0)).length=256:=by simp [u32V]
 refine StoreK_blk hH2 0 (vs:=u32V tabs) rfl rfl (by rw [hlen];kernel_rfl) (by rw [hlen,hlen0];omega) (by intro u hu;obtain ⟨n,_,rfl⟩:=List.mem_map.1 hu;rfl) fun w6 hH3=>?_
 have e2:(u32V (List.replicate 256 0)).take 0++u32V tabs++(u32V (List.replicate 256 0)).drop (0+(u32V tabs).length)=u32V tabs:=by
  rw [List.take_zero,List.nil_append,List.drop_of_length_le (by rw [hlen,hlen0];omega),List.append_nil]
 rw [e2] at hH3;have hH4:Heap w [] w6 [Res.blk g 162 (u32V tabs)]:=hH3;clear hH3 hH2 hH ecells;apply hK;clear hK;refine VS [0,1,5,9,10] ?_;refine VB ?_;refine Qac [0,1,5,9,10] (fun m e w'=>∃ (i:Nat),Is e [(0,.int .u32 (Qeh r (s.take i):Nat)),(1,Str s),(5,.pointer (some ⟨g,0,none⟩)),(9,.int .i64 s.length),(10,.int .i64 i)]/\Is w' w6/\i<=s.length/\m=s.length - i) s.length ?_ ?_
 ·
  refine Qs ?_;exact ⟨0,rfl,rfl,by omega,rfl⟩
 rintro m e w' ⟨i,rfl,rfl,hi,rfl⟩;refine VS [0,1,5,9,10,11] ?_;(repeat refine Qar ?_);refine VD (fun h=>?_) (fun h=>?_)
 ·
  refine VC_skip ?_;refine VB ?_;refine VS [0,1,5,6,9,10] ?_;have hq:=Qgn (s.take i) hr;have htk:=Qb1 (0:UInt8) (l:=s) (i:=i) (by omega);have hnext:=Qvs r (s.take i) (s.getD i 0);rw [<- htk,Qkv] at hnext;have hb:=(s.getD i 0).toNat_lt;have hx:(Qeh r (s.take i) / 16777216) ^^^ (s.getD i 0).toNat < 256:=Nat.xor_lt_two_pow (n:=8) (by omega) (by omega);have htl:=QJl _ hx;have htg:=QIm hx;generalize Qeh r (s.take i)=q at *
  have e1:(q:Int) / 2 ^ shN IntKind.u32 24 % 256=((q / 16777216:Nat):Int):=by
   rw [show shN IntKind.u32 24=24 from rfl];omega
  have e3:(q:Int) * 2 ^ shN IntKind.u32 8 % 4294967296=((q * 256 % 4294967296:Nat):Int):=by
   rw [show shN IntKind.u32 8=8 from rfl];omega
  refine VQ [0,1,5,9,10] fun K hK=>?_;rw [e1,e3];(repeat first | refine Qo ?_ | refine Qp ?_);(try simp only [Int.toNat_natCast]);(repeat first | refine Qo ?_ | refine Qp ?_);refine ⟨_,Qae (hH4.at 0 rfl) (QIl (by rw [Qnu];exact hx)),?_⟩;refine Qs ?_;rw [htg];clear htg hx;generalize tab (q / 16777216 ^^^ (s.getD i 0).toNat)=tb at *;(repeat first | refine Qo ?_ | refine Qp ?_);(try simp only [Int.toNat_natCast]);apply hK;clear hK;refine Qah ?_;refine VS [0,1,5,9,10] ?_;refine Qaa ?_;refine Qs ?_;exact ⟨s.length - (i+1),by omega,i+1,by rw [hnext];exact QQc _,rfl,by omega,rfl⟩
 refine Qad rfl ?_;refine VS [4] ?_;rw [List.take_of_length_le (by omega)];exact VC_ret (VX_ret1 rfl rfl ⟨hH4.sub (by simp),rfl⟩)
theorem Qvv (s:List UInt8) (w:World) (hs:s.length<=1000000000000000000):Does Tryz.prog 21 #[Str s] w fun v w'=>Heap w [] w' []/\v=.int .u32 (Qdd s:Nat):=by
 have hlt:=Qgn s (r:=4294967295) (by omega);refine En [Str s] 6 Tryz.func21 ?_;refine VS [0] ?_;refine VQ [2] fun K hK=>?_;refine MemK_call Tryz.call59 ?_;refine Qs ?_;refine CallK.mk (QFk 4294967295 s w (by omega) hs) ?_;rintro v w1 ⟨hH,rfl⟩;refine Qs ?_;refine Qp ?_;have e:4294967295 - ((Qeh 4294967295 s:Nat):Int)=((Qdd s:Nat):Int):=by unfold Qdd;omega
 rw [e];apply hK;clear hK;exact VC_ret (VX_ret1 rfl rfl ⟨hH,rfl⟩)
set_option maxHeartbeats 2000000
def tabV (l:List Nat) (hs:Nat->Option Nat):List Value:=(List.range l.length).map fun j=>match hs j with
 | none=>.slice none 0 0
 | some g=>.slice (some ⟨g,0,none⟩) (l.getD j 0) (l.getD j 0)
theorem Qlo (l:List Nat) (hs:Nat->Option Nat):(tabV l hs).length=l.length:=by simp [tabV]
theorem Qvw (l:List Nat):tabV l (fun _=>none)=List.replicate l.length (.slice none 0 0):=by
 unfold tabV;rw [List.map_const',List.length_range]
theorem QIp (l:List Nat) (hs:Nat->Option Nat) (i g:Nat):(tabV l hs).set i (.slice (some ⟨g,0,none⟩) (l.getD i 0) (l.getD i 0))=tabV l fun j=>if j=i then some g else hs j:=by
 apply List.ext_getElem?;intro j;rw [List.getElem?_set,Qlo];unfold tabV;rw [List.getElem?_map,List.getElem?_map];by_cases e:i=j
 ·
  subst e;by_cases hj:i < l.length
  ·
   rw [List.getElem?_range hj];simp [hj]
  rw [List.getElem?_eq_none (by simp;omega)];simp [hj]
 rw [if_neg e];by_cases hj:j < l.length
 ·
  rw [List.getElem?_range hj];simp [Ne.symm e]
 rw [List.getElem?_eq_none (by simp;omega)];rfl
def QM5 (l:List Nat) (j g:Nat):Res:=Res.row 3 1 (some ⟨g,0,none⟩) (l.getD j 0) (l.getD j 0) (Qap (bI (Qhv l j)))
def TabAt (w:World) (v:Value) (l:List Nat):Prop :=
 ∃ p c,∃ hs:Nat->Addr,v=.slice (some p) l.length c/\RS w (some p) l.length 1 ((List.range l.length).map fun j=>.slice (some (hs j)) (l.getD j 0) (l.getD j 0)) /\
  ∀ j,j < l.length->RS w (some (hs j)) (l.getD j 0) 1 (Qap (bI (Qhv l j)))
def TabG (G:List Res) (v:Value) (l:List Nat):Prop:=∀ w:World,(∀ r∈G,r.holds w)->TabAt w v l
theorem TabAt.keep {w w':World}{v:Value}{l:List Nat}{G:List Res} (h:TabAt w v l) (hH:Heap w [] w' G):TabAt w' v l:=by
 obtain ⟨p,c,hs,h1,h2,h3⟩:=h;exact ⟨p,c,hs,h1,hH.rs' h2,fun j hj=>hH.rs' (h3 j hj)⟩
theorem QJm {l:List Nat} (h:okL l) {n:Nat} (hn:n<=20):Qa7 l n+cnt l n<=1048576:=by
 have h1:=Qjt h hn;have h2:2 ^ n<=2 ^ 20:=Nat.pow_le_pow_right (by omega) hn;omega
theorem Qyt (l:List Nat) (hok:okL l) (a:Option Addr) (lc:Nat) (w:World) (hr:RS w a l.length 1 (Qag l)) :
  Does Tryz.prog 113 #[.slice a l.length lc] w fun v w'=>∃ G,Heap w [] w' G/\TabG G v l:=by
 obtain ⟨o1,o2,o3,o4⟩:=id hok;obtain ⟨p,rfl⟩:=Qbb hr (by omega);have h0:Qa7 l 0+cnt l 0=0:=by rw [Qlc fun x hx=>(o3 x hx).1];rfl
 refine En [.slice (some p) l.length lc] 44 Tryz.func113 ?_;refine VS [0] ?_;refine VQ [0,3] fun K hK=>?_;refine Qba Tryz.underlying63 zi36 ?_;refine Qs ?_;refine ⟨l.length,l.length,⟨rfl,rfl,by omega,by omega,by omega⟩,?_⟩;have hH:=(Heap.start w).row 36 (n:=l.length) (cap:=l.length) (sz:=1) (tabV l fun _=>none) [] (by rw [Qlo];omega) (by rw [List.append_nil,Qlo];omega) (by omega) (by omega);rw [List.append_nil,Qvw] at hH;generalize w.alloc (Obj.cells (List.replicate l.length (Value.slice none 0 0)).toArray 36)=w1 at *;generalize w.heap.size=g at *;rw [<- Qvw] at hH;(try refine Qs ?_);apply hK;clear hK;refine VS [0,3,4] ?_;refine VS [0,3,4,5] ?_;refine Qab ?_;refine Qac [0,3,4,5] (fun m e w'=>∃ (n:Nat) (hs:Nat->Option Nat) (G:List Res),Is e [(0,.slice (some p) l.length lc),(3,.slice (some ⟨g,0,none⟩) l.length l.length),(4,.int .i64 (Qa7 l n+cnt l n:Nat)),(5,.int .i64 (n+1:Nat))]/\(Heap w [] w' (Res.row 36 1 (some ⟨g,0,none⟩) l.length l.length (tabV l hs)::G)/\(∀ j gj,hs j=some gj->QM5 l j gj∈G))/\n<=20/\(∀ j,j < l.length->l.getD j 0<=n->(hs j).isSome=true)/\m=20 - n) 20 ?_ ?_
 ·
  refine Qs ?_;refine ⟨0,_,[],?_,⟨hH,fun j gj h=>by cases h⟩,by omega,fun j hj h=>?_,rfl⟩
  ·
   rw [h0];rfl
  have:=Qmw hok hj;omega
 clear hH;rintro m e w' ⟨n,hs,G,rfl,⟨hH,hG⟩,hn,hall,rfl⟩;have hb20:=QJm hok hn;refine VS [0,3,4,5,13] ?_;refine VD (fun h=>?_) (fun h=>?_)
 ·
  have hn':n < 20:=by omega
  have hb21:=QJm hok (show n+1<=20 by omega);refine VC_skip ?_;refine VB ?_;have hf:Qa7 l (n+1)=2 * (Qa7 l n+cnt l n):=rfl;refine VQ [0,3,4,5] fun K hK=>?_;(repeat first | refine Qo ?_ | refine Qp ?_);rw [show ((Qa7 l n+cnt l n:Nat):Int) * 2=((Qa7 l (n+1):Nat):Int) by omega];apply hK;clear hK;refine VS [0,3,4,5,6] ?_;refine Qab ?_;refine Qac [0,3,4,5,6] (fun m e w'=>∃ (i:Nat) (hs:Nat->Option Nat) (G:List Res),Is e [(0,.slice (some p) l.length lc),(3,.slice (some ⟨g,0,none⟩) l.length l.length),(4,.int .i64 (Qa7 l (n+1)+(idxN l (n+1) i).length:Nat)),(5,.int .i64 (n+1:Nat)),(6,.int .i64 i)]/\(Heap w [] w' (Res.row 36 1 (some ⟨g,0,none⟩) l.length l.length (tabV l hs)::G)/\(∀ j gj,hs j=some gj->QM5 l j gj∈G))/\i<=l.length/\(∀ j,j < l.length->l.getD j 0<=n∨(l.getD j 0=n+1/\j < i)->(hs j).isSome=true)/\m=l.length - i) l.length ?_ ?_
  ·
   refine Qs ?_;exact ⟨0,hs,G,rfl,⟨hH,hG⟩,by omega,fun j hj h=>hall j hj (by omega),rfl⟩
  clear hH hG hall;clear G hs;rintro m e w2 ⟨i,hs,G,rfl,⟨hH,hG⟩,hi,hall,rfl⟩;refine VS [0,3,4,5,6,21] ?_;refine VD (fun h=>?_) (fun h=>?_)
  ·
   have hi':i < l.length:=by omega
   have hcell:=Qbk (hH.rs' hr) hi';have hsu:=Qhw l (n+1) i;refine VC_skip ?_;refine VB ?_;refine VQ [0,3,4,5,6,29] fun K hK=>?_;refine ⟨⟨by omega,by omega⟩,_,hcell,?_⟩;(try refine Qs ?_);(repeat refine Qo ?_);apply hK;clear hK;refine VD (fun h=>?_) (fun h=>?_)
   ·
    have he:l.getD i 0=n+1:=by omega
    rw [if_pos he] at hsu;have hcs:Qep l i=Qa7 l (n+1)+(idxN l (n+1) i).length:=by rw [Qep,he]
    have hclt:=(Qld hok hi').2.1;rw [he,hcs] at hclt;have hwd:Qaq (n+1) (Qa7 l (n+1)+(idxN l (n+1) i).length)=Qhv l i:=by rw [Qhv,he,hcs]
    have hnx:Qa7 l (n+1)+(idxN l (n+1) (i+1)).length=Qa7 l (n+1)+(idxN l (n+1) i).length+1:=by rw [hsu,List.length_append];rfl
    generalize Qa7 l (n+1)+(idxN l (n+1) i).length=code at *;refine VQ [0,3,4,5,6,7] fun K hK=>?_;rw [show (code:Int) % 18446744073709551616=(code:Nat) by omega];refine MemK_call Tryz.call66 ?_;refine Qs ?_;refine CallK.mk (Qej code (n+1) (by omega) (by omega) w2) ?_;rintro v w3 ⟨g2,hHb,rfl⟩;rw [hwd] at hHb;have hH2:=hH.call0 hHb;simp only [List.singleton_append] at hH2;clear hHb hH;(try refine Qs ?_);apply hK;clear hK;refine VQ [0,3,4,5,6] fun K hK=>?_;refine Qp ?_;refine MemK_store ?_;refine Qs ?_;refine Qas hH2 1 (o:=i) (vs:=[.slice (some ⟨g2,0,none⟩) (n+1) (n+1)]) rfl (by simp [Qa8]) rfl (by kernel_rfl) (by simp only [List.length_singleton,Qlo];omega) (by simp [Value.oneCell']) fun w4 hH3=>?_;have hset:=QIp l hs i g2;rw [he] at hset;simp only [List.length_singleton,Qb2 _ _ _ (show i < (tabV l hs).length by rw [Qlo];omega),List.set_cons_zero,List.set_cons_succ] at hH3;rw [hset] at hH3;have hH4:=hH3.perm (.swap _ _ _);clear hH2 hH3;(try refine Qs ?_);apply hK;clear hK;refine VQ [0,3,4,5,6] fun K hK=>?_;(repeat first | refine Qo ?_ | refine Qp ?_);rw [show (code:Int)+1=((code+1:Nat):Int) by push_cast;rfl,<- hnx];apply hK;clear hK;refine Qah ?_;refine VS [0,3,4,5,6] ?_;refine Qaa ?_;refine Qs ?_;refine ⟨l.length - (i+1),by omega,i+1,_,_,rfl,⟨hH4,fun j gj hj=>?_⟩,by omega,fun j hj hh=>?_,rfl⟩
    ·
     by_cases e:j=i
     ·
      subst e;rw [if_pos rfl] at hj;cases hj;refine List.mem_cons.2 (.inl ?_);unfold QM5;rw [he]
     rw [if_neg e] at hj;exact List.mem_cons_of_mem _ (hG j gj hj)
    by_cases e:j=i
    ·
     rw [if_pos e];rfl
    rw [if_neg e];exact hall j hj (by omega)
   have he:l.getD i 0≠n+1:=by omega
   rw [if_neg he,List.append_nil] at hsu;refine VC_skip ?_;refine Qah ?_;refine VS [0,3,4,5,6] ?_;refine Qaa ?_;refine Qs ?_;refine ⟨l.length - (i+1),by omega,i+1,hs,G,by rw [hsu];rfl,⟨hH,hG⟩,by omega,fun j hj hh=>hall j hj ?_,rfl⟩;by_cases e:j=i
   ·
    subst e;omega
   omega
  obtain rfl:i=l.length:=by omega
  refine Qad rfl ?_;refine Qah ?_;refine VS [0,3,4,5] ?_;refine Qaa ?_;refine Qs ?_;exact ⟨20 - (n+1),by omega,n+1,hs,G,by push_cast;rfl,⟨hH,hG⟩,by omega,fun j hj hh=>hall j hj (by omega),rfl⟩
 obtain rfl:n=20:=by omega
 refine Qad rfl ?_;refine VS [2] ?_;refine VC_ret (VX_ret1 rfl rfl ⟨_,hH,fun u hu=>?_⟩);refine ⟨⟨g,0,none⟩,l.length,fun j=>⟨(hs j).getD 0,0,none⟩,rfl,?_,fun j hj=>?_⟩
 ·
  have hr0:=Qao (hu _ (List.mem_cons_self ..))
  have e:tabV l hs=(List.range l.length).map fun j=>Value.slice (some ⟨(hs j).getD 0,0,none⟩) (l.getD j 0) (l.getD j 0):=by
   unfold tabV;refine List.map_congr_left fun j hj=>?_;have hj:=List.mem_range.1 hj;have:=hall j hj (Qmw hok hj).2;obtain ⟨gj,hgj⟩:=Option.isSome_iff_exists.1 this;rw [hgj];rfl
  rw [e] at hr0;exact hr0
 have:=hall j hj (Qmw hok hj).2;obtain ⟨gj,hgj⟩:=Option.isSome_iff_exists.1 this
 show RS u (some ⟨(hs j).getD 0,0,none⟩) _ _ _
 rw [hgj];exact Qao (hu _ (List.mem_cons_of_mem _ (hG j gj hgj)))
set_option maxHeartbeats 2000000
theorem QAk {l:List Bool}{n i:Nat} (hl:l.length=n) (hi:i < n):(numB l / 2 ^ (n - 1 - i)) % 2=(l.getD i false).toNat:=by
 rw [Qgy];have h:=Qgx n (numB l) i hi;rw [<- hl,Qma,hl] at h;rw [List.getD_eq_getElem?_getD,h];rfl
theorem Qvx {l:List Bool} (hl:l.length=16):numB l < 65536:=by have:=Qe0 l;rw [hl] at this;exact this
def exV (r:Except Int (List UInt8×Nat)):Value:=match r with
 | .ok q=>.tuple #[Str q.1,.int .i64 q.2,.int .i64 0]
 | .error e=>.tuple #[Str [],.int .i64 0,.int .i64 e]
def Qei (i:Nat) (row:List Bool) (n:Nat):List UInt8:=((List.range n).filter fun k=>row.getD k false).map fun k=>UInt8.ofNat (16 * i+k)
theorem Qp7 (i:Nat) (row:List Bool) (n:Nat):Qei i row (n+1)=Qei i row n++if row.getD n false=true then [UInt8.ofNat (16 * i+n)] else []:=by
 unfold Qei;rw [List.range_succ,List.filter_append,List.map_append]
 congr 1
 by_cases h:row.getD n false=true
 ·
  rw [if_pos h,List.filter_cons_of_pos (p:=fun k=>row.getD k false) h];rfl
 rw [if_neg h,List.filter_cons_of_neg (p:=fun k=>row.getD k false) h];rfl
theorem Qlp (i:Nat) (row:List Bool) (n:Nat):(Qei i row n).length<=n:=by
 unfold Qei;rw [List.length_map];exact Nat.le_trans (List.length_filter_le _ _) (by simp)
theorem Qvy (s:List UInt8) (at_:Nat) (ha:at_<=8 * s.length) (hs:s.length<=100000000000000) (w:World) :
  Does Tryz.prog 46 #[Str s,.int .i64 at_] w fun v w'=>Heap w [] w' []/\v=exV (Qfj (Qam s) at_):=by
 have hbl:=Qbd s;generalize hbits:Qam s=bits at *;generalize hres:Qfj bits at_=res;unfold Qfj at hres;refine En [Str s,.int .i64 at_] 74 Tryz.func46 ?_;refine VS [0,1] ?_;refine VQ [7] fun K hK=>?_;refine MemK_call Tryz.call86 ?_;refine Qs ?_;refine CallK.mk (Qd4 s at_ w (I64.mk (by omega) (by omega)) (by omega)) ?_;rintro v w2 (⟨hbad,_⟩ | ⟨_,gr,gs,hH,rfl⟩)
 ·
  omega
 rw [Int.toNat_natCast] at hH;apply hK;clear hK;refine VS [7,19] ?_;refine Qaf rfl rfl (fun h=>by cases h) (fun h=>VC_skip ?_);refine VQ [7,8,9] fun K hK=>?_;refine MemK_call Tryz.call87 ?_;refine Qs ?_;refine CallK.mk (Qe5 gr gs s at_ 16 w2 (by omega) (by omega) (by omega) (hH.focus 0 rfl)) ?_;rintro v w3 (⟨h1,rfl,rfl⟩ | ⟨h1,hH2,rfl⟩)
 ·
  rw [if_pos (by omega)] at hres;subst hres;apply hK;clear hK;refine VS [7,8,9,26] ?_;refine Qaf rfl rfl (fun h=>?_) (fun h=>by cases h);refine VS [4,5,6] ?_;exact VC_ret (Qd5 rfl rfl rfl rfl ⟨hH.sub (by simp),rfl⟩)
 rw [if_neg (by omega)] at hres;have hH3:=hH.call1 0 rfl hH2;clear hH2 hH;rw [hbits];have hfl:((bits.drop at_).take 16).length=16:=by rw [List.length_take,List.length_drop];omega
 generalize (bits.drop at_).take 16=fl at *;have hfl2:=Qvx hfl;apply hK;clear hK;refine VS [7,8,9,26] ?_;refine Qaf rfl rfl (fun h=>by cases h) (fun h=>VC_skip ?_);refine VQ [7,8,10] fun K hK=>?_;refine Qbg hH3 (Qan []) (xs:=[]) Tryz.underlying43 sz5 rfl rfl rfl (by omega) ?_;refine Qs ?_;refine ⟨rfl,by simp [Value.cells],fun g w4 hH4=>?_⟩;(try refine Qs ?_);apply hK;clear hK;refine VS [7,8,10,29] ?_;refine Qab ?_;refine Qac [7,8,10,29] (fun m e w'=>∃ (i cap p:Nat) (a:Option Addr) (out:List UInt8),Is e [(7,.pointer (some ⟨gr,0,none⟩)),(8,.int .u64 (numB fl)),(10,.slice a out.length cap),(29,.int .i64 i)]/\Heap w [] w' [Res.row 5 1 a out.length cap (Qan out),rd gr gs s p]/\i<=16/\p<=8 * s.length/\out.length<=16 * i/\(match stGo bits (fl.drop i) i p with | .error e=>.error e | .ok q=>if out++q.1=[] then .error 60 else .ok (out++q.1,q.2))=res/\m=16 - i) 16 ?_ ?_
 ·
  refine Qs ?_;refine ⟨0,_,at_+16,_,[],rfl,hH4,by omega,by omega,by simp,?_,rfl⟩;rw [List.drop_zero,<- hres];cases stGo bits fl 0 (at_+16) <;> rfl
 clear hH3 hH4 hres;rintro m e w' ⟨i,cap,p,a,out,rfl,hH,hi,hp,hol,hres,rfl⟩;refine VS [7,8,10,29,30] ?_;(repeat refine Qar ?_);refine VD (fun h=>?_) (fun h=>?_)
 ·
  have hdi:fl.drop i=fl.getD i false::fl.drop (i+1):=drop_getD false (by omega);rw [hdi] at hres;have hbit:=QAk hfl (i:=i) (by omega);refine VC_skip ?_;refine VB ?_;refine VS [7,8,10,11,29] ?_;have hsh:shN IntKind.u64 ((15 - (i:Int)) % 18446744073709551616)=16 - 1 - i:=Qr9 (by omega) (by simp [IntKind.bits];omega) (by decide);refine VQ [7,8,10,11,29,38] fun K hK=>?_;rw [hsh,Qgd];have hle:=Nat.div_le_self (numB fl) (2 ^ (16 - 1 - i));generalize numB fl / 2 ^ (16 - 1 - i)=q at *;(repeat first | refine Qo ?_ | refine Qp ?_);rw [show Int.toNat 1=1 from rfl,Int.toNat_natCast,Nat.and_one_is_mod,hbit];apply hK;clear hK;cases hfi:fl.getD i false with
  | false =>
   rw [hfi,stGo] at hres;refine Qaf rfl rfl (fun h=>?_) (fun h=>by simp [hfi] at h);refine Qad rfl ?_;refine VS [7,8,10,29] ?_;refine Qaa ?_;refine Qs ?_;exact ⟨16 - (i+1),by omega,i+1,cap,p,a,out,rfl,hH,by omega,hp,by omega,hres,rfl⟩
  | true =>
   rw [hfi,stGo] at hres;refine Qaf rfl rfl (fun h=>by simp [hfi] at h) (fun h=>VC_skip ?_);refine VQ [7,8,10,11,12,13,29] fun K hK=>?_;refine MemK_call Tryz.call87 ?_;refine Qs ?_;refine CallK.mk (Qe5 gr gs s p 16 w' (by omega) (by omega) (by omega) (hH.focus 1 rfl)) ?_;rintro v w3 (⟨h1,rfl,rfl⟩ | ⟨h1,hH2,rfl⟩)
   ·
    rw [if_pos (by omega)] at hres;subst hres;apply hK;clear hK;refine VS [7,8,10,11,12,13,29,45] ?_;refine Qaf rfl rfl (fun h=>?_) (fun h=>by cases h);refine VS [4,5,6] ?_;exact VC_ret (Qd5 rfl rfl rfl rfl ⟨hH.sub (by simp),rfl⟩)
   rw [if_neg (by omega)] at hres;have hH3:=hH.call1 1 rfl hH2;simp only [List.set_cons_succ,List.set_cons_zero,List.nil_append] at hH3;clear hH2 hH;rw [hbits];have hrow:((bits.drop p).take 16).length=16:=by rw [List.length_take,List.length_drop];omega
   generalize (bits.drop p).take 16=row at *;have hrow2:=Qvx hrow;apply hK;clear hK;refine VS [7,8,10,11,12,13,29,45] ?_;refine Qaf rfl rfl (fun h=>by cases h) (fun h=>VC_skip ?_);refine VS [7,8,10,11,12,29,47] ?_;refine Qab ?_;refine Qac [7,8,10,11,12,29,47] (fun m e w'=>∃ (k cap:Nat) (a:Option Addr),Is e [(7,.pointer (some ⟨gr,0,none⟩)),(8,.int .u64 (numB fl)),(10,.slice a (out++Qei i row k).length cap),(11,.int .i64 i),(12,.int .u64 (numB row)),(29,.int .i64 i),(47,.int .i64 k)]/\Heap w [] w' [Res.row 5 1 a (out++Qei i row k).length cap (Qan (out++Qei i row k)),rd gr gs s (p+16)]/\k<=16/\m=16 - k) 16 ?_ ?_
   ·
    refine Qs ?_;have e0:out++Qei i row 0=out:=by simp [Qei]
    refine ⟨0,cap,a,by rw [e0];rfl,by rw [e0];exact hH3,by omega,rfl⟩
   clear hH3;rintro m e w4 ⟨k,cap,a,rfl,hH,hk,rfl⟩;refine VS [7,8,10,11,12,29,47,48] ?_;(repeat refine Qar ?_);refine VD (fun h=>?_) (fun h=>?_)
   ·
    have hbk:=QAk hrow (i:=k) (by omega);have hsucc:=Qp7 i row k;have hlen:=Qlp i row k;refine VC_skip ?_;refine VB ?_;refine VS [7,8,10,11,12,14,29,47] ?_;have hsh2:shN IntKind.u64 ((15 - (k:Int)) % 18446744073709551616)=16 - 1 - k:=Qr9 (by omega) (by simp [IntKind.bits];omega) (by decide);refine VQ [7,8,10,11,12,14,29,47,56] fun K hK=>?_;rw [hsh2,Qgd];have hle2:=Nat.div_le_self (numB row) (2 ^ (16 - 1 - k));generalize numB row / 2 ^ (16 - 1 - k)=q2 at *;(repeat first | refine Qo ?_ | refine Qp ?_);rw [show Int.toNat 1=1 from rfl,Int.toNat_natCast,Nat.and_one_is_mod,hbk];apply hK;clear hK;cases hrk:row.getD k false with
    | true =>
     rw [hrk,if_pos rfl] at hsucc;refine Qaf rfl rfl (fun h=>?_) (fun h=>by simp [hrk] at h);refine VQ [7,8,10,11,12,29,47] fun K hK=>?_;(repeat first | refine Qo ?_ | refine Qp ?_);rw [show ((16 * (i:Int)+k) % 256)=((UInt8.ofNat (16 * i+k)).toNat:Int) by rw [UInt8.toNat_ofNat'];omega];refine Qb4 (xs:=[.tmp 62]) Tryz.underlying43 sz5 rfl rfl rfl (by omega) ?_;refine Qs ?_;refine ⟨by simp [Value.cells],?_⟩;refine Qai ?_;refine Qs ?_;refine Qgu hH 0 (UInt8.ofNat (16 * i+k)) rfl Tryz.underlying43 zi5 (by first | rfl | (simp;done) | omega) (fun h=>by (first | omega | (simp;done) | (simp;omega))) fun a' cap' w5 hc' hH4=>?_;(try refine Qs ?_);rw [List.append_assoc,<- hsucc] at hH4 ⊢;apply hK;clear hK;refine Qah ?_;refine VS [7,8,10,11,12,29,47] ?_;refine Qaa ?_;refine Qs ?_;exact ⟨16 - (k+1),by omega,k+1,cap',a',rfl,hH4,by omega,rfl⟩
    | false =>
     rw [hrk,if_neg (by simp),List.append_nil] at hsucc;refine Qaf rfl rfl (fun h=>by simp [hrk] at h) (fun h=>VC_skip ?_);refine Qah ?_;refine VS [7,8,10,11,12,29,47] ?_;refine Qaa ?_;refine Qs ?_;exact ⟨16 - (k+1),by omega,k+1,cap,a,by rw [hsucc];rfl,by rw [hsucc];exact hH,by omega,rfl⟩
   obtain rfl:k=16:=by omega
   have hlen:=Qlp i row 16;refine Qad rfl ?_;refine Qah ?_;refine VS [7,8,10,29] ?_;refine Qaa ?_;refine Qs ?_;refine ⟨16 - (i+1),by omega,i+1,cap,p+16,a,out++Qei i row 16,rfl,hH,by omega,by omega,by simp;omega,?_,rfl⟩;rw [<- hres];cases stGo bits (fl.drop (i+1)) (i+1) (p+16) with
   | error e=>rfl
   | ok q=>simp only [List.append_assoc];rfl
 obtain rfl:i=16:=by omega
 rw [List.drop_eq_nil_of_le (by omega),stGo] at hres;simp only [List.append_nil] at hres;refine Qad rfl ?_;refine VS [7,10,69] ?_;refine VD (fun h=>?_) (fun h=>VC_skip ?_)
 ·
  rw [if_pos (List.eq_nil_of_length_eq_zero (by omega))] at hres;subst hres;refine VS [4,5,6] ?_;exact VC_ret (Qd5 rfl rfl rfl rfl ⟨hH.sub (by simp),rfl⟩)
 rw [if_neg (fun e=>h (by rw [e];rfl))] at hres;subst hres;refine Vq [4,5,6] fun K hK=>?_;refine ⟨out,hH.readsBytes 0 rfl,?_⟩;refine Qw7 Tryz.call100 ?_;refine Qs ?_;refine QCallK.mk (Qoq gr gs p s w' (hH.at 1 rfl)) ?_;apply hK;clear hK;exact VC_ret (Qd5 rfl rfl rfl rfl ⟨hH.sub (by simp),rfl⟩)
theorem Qea (d:Array Int) (p:Nat):d.toList.getD p 0=d[p]! := by
 simp only [List.getD_eq_getElem?_getD,getElem!_def,Array.getElem?_toList];cases d[p]? <;> rfl
theorem Qii (d:Array Int) {i:Nat} (v:Int) (j:Nat) (hi:i < d.size):(d.setIfInBounds i v)[j]! = if j=i then v else d[j]! := by
 simp only [getElem!_def,Array.getElem?_setIfInBounds];by_cases h:i=j
 ·
  subst h;simp [hi]
 simp [h,Ne.symm h]
theorem Qvz (n k:Nat):(Array.replicate n (0:Int))[k]! = 0:=by
 simp only [getElem!_def,Array.getElem?_replicate];split <;> rename_i h
 ·
  split at h <;> simp_all
 rfl
theorem QFl {w0 w:World}{B:List Nat}{G:List Res} (hH:Heap w0 B w G) (n:Nat) (hn:n<=1000000000000):Heap w0 B (w.alloc (.cells (List.replicate n (Value.int .i64 0)).toArray 3)) (arr w.heap.size n (Array.replicate n 0)::G):=by
 have h:=hH.row 3 (n:=n) (cap:=n) (sz:=1) (List.replicate n (.int .i64 0)) [] (by simp) (by simp) (by omega) (by omega);rw [List.append_nil] at h;rw [arr,Array.size_replicate,Array.toList_replicate,<- intsV_zero];exact h
abbrev Qp8 (g cap:Nat) (rk:List Int):Res:=Res.row 3 1 (some ⟨g,0,none⟩) rk.length cap (Qap rk)
abbrev ptr (g:Nat):Value:=.pointer (some ⟨g,0,none⟩)
theorem QCo (rk:List Int) (gr cr by_ go co gn gs:Nat) (d:Array Int) (hrk:Qk5 rk) (hby:by_<=10000000000) (hn:d.size<=1000000000) (hn0:0 < d.size) (hl:rk.length=d.size) (hp:d.toList.Perm (Qe4 d.size)) (w0 w:World) (B:List Nat) (G:List Res)
  (hL:Heap w0 B w (arr go co d::Qp8 gr cr rk::Res.blk gn 3 [.int .i64 d.size]::Res.blk gs 36 [sl go co d]::G)) :
  Does Tryz.prog 125 #[Qxs ⟨gr,0,none⟩ rk.length cr by_,ptr gn,ptr gs] w
   fun v w'=>∃ (gx:Nat) (nx:Array Int),nx.size=d.size/\(∀ p,p < d.size->nx[(d[p]!).toNat]! = rsum rk by_ d.toList p)/\Heap w0 B w' (Qp8 gx d.size nx.toList::arr go co d::Qp8 gr cr rk::Res.blk gn 3 [.int .i64 d.size]::Res.blk gs 36 [sl go co d]::G)/\v=sl gx d.size nx:=by
 have hin:∀ p,p < d.size->0<=d[p]! /\ d[p]! < d.size:=fun p h=>by
  have:=Qxv hp (p:=p) (by simpa using h)
  rwa [Qea] at this
 have hinj:∀ p q,p < d.size->q < d.size->d[p]! = d[q]! -> p=q:=fun p q h1 h2 e=>by
  refine QH6 hp (p:=p) (q:=q) (by simpa using h1) (by simpa using h2) ?_;rw [Qea,Qea,e]
 refine En [Qxs ⟨gr,0,none⟩ rk.length cr by_,ptr gn,ptr gs] 69 Tryz.func125 ?_;refine VQ [1,2,3] fun K hK=>?_;refine Qce ?_;refine Qs ?_;have hH:=hL.box 166 [.slice (some ⟨gr,0,none⟩) rk.length cr,.int .i64 by_];generalize w.alloc (Obj.cells [Value.slice (some ⟨gr,0,none⟩) rk.length cr,.int .i64 by_].toArray 166)=w1 at *;generalize w.heap.size=gb at *;apply hK;clear hK;refine VQ [1,2,3,5] fun K hK=>?_;refine ⟨_,Qae (hH.at 3 rfl) rfl,?_⟩;refine Qba Tryz.underlying36 zi3 ?_;refine Qs ?_;refine ⟨d.size,d.size,⟨rfl,rfl,by omega,by omega,by omega⟩,?_⟩;have hH1:=QFl hH d.size (by omega);generalize w1.alloc (Obj.cells (List.replicate d.size (Value.int .i64 0)).toArray 3)=w2 at *;generalize w1.heap.size=gx at *;apply hK;clear hK;refine VS [1,2,3,5,6] ?_;refine Qab ?_;refine Qac [1,2,3,5,6] (fun m e w'=>∃ (k:Nat) (nx:Array Int),Is e [(1,ptr gn),(2,ptr gs),(3,ptr gb),(5,.slice (some ⟨gx,0,none⟩) d.size d.size),(6,.int .i64 k)]/\Heap w0 B w' (arr gx d.size nx::Res.blk gb 166 [.slice (some ⟨gr,0,none⟩) rk.length cr,.int .i64 by_]::arr go co d::Qp8 gr cr rk::Res.blk gn 3 [.int .i64 d.size]::Res.blk gs 36 [sl go co d]::G)/\nx.size=d.size/\1<=k/\k<=d.size/\(∀ p,p < k->nx[(d[p]!).toNat]! = rsum rk by_ d.toList p)/\m=d.size - k) (d.size - 1) ?_ ?_
 ·
  refine Qs ?_;refine ⟨1,Array.replicate d.size 0,rfl,hH1,by simp,by omega,by omega,fun p hp=>?_,rfl⟩;obtain rfl:p=0:=by omega
  rw [Qvz];rfl
 clear hH hH1;rintro m e w3 ⟨k,nx,rfl,hH,hs,hk1,hk2,hnx,hm⟩;refine VQ [1,2,3,5,6,15] fun K hK=>?_;refine ⟨_,Qae (hH.at 4 rfl) rfl,?_⟩;refine Qs ?_;apply hK;clear hK;refine VD (fun h=>?_) (fun h=>?_)
 ·
  refine VC_skip ?_;refine VB ?_;obtain ⟨i1,hi1⟩:∃ i1:Nat,d[k - 1]! = i1:=⟨(d[k - 1]!).toNat,by have:=hin (k - 1) (by omega);omega⟩;obtain ⟨i2,hi2⟩:∃ i2:Nat,d[k]! = i2:=⟨(d[k]!).toNat,by have:=hin k (by omega);omega⟩;have hb1:=hin (k - 1) (by omega);have hb2:=hin k (by omega);have hne:i1≠i2:=fun e=>by have:=hinj (k - 1) k (by omega) (by omega) (by rw [hi1,hi2,e]);omega
  have hrs:rsum rk by_ d.toList k=rsum rk by_ d.toList (k - 1)+if kEq rk by_ i1 i2 then 0 else 1:=by
   obtain ⟨j,rfl⟩:∃ j,k=j+1:=⟨k - 1,by omega⟩;rw [Nat.add_sub_cancel] at *;rw [rsum,Qea,Qea,hi1,hi2]
  have hkeq:kEq rk by_ i1 i2=(decide (rk.getD i1 0=rk.getD i2 0) && decide (rk.getD ((i1+by_) % rk.length) 0=rk.getD ((i2+by_) % rk.length) 0)):=by
   simp only [kEq,keyA,keyB,Int.toNat_natCast];rfl
  refine VH _ (Ext.refl _) [1,2,3,5,6,7,8] [(0,true),(1,true),(2,true),(3,true),(4,true),(5,true),(6,false),(7,true),(8,true),(9,true),(10,true),(11,true)] fun K hK=>?_;refine ⟨[.slice (some ⟨gr,0,none⟩) rk.length cr,.int .i64 by_],⟨rfl,blk_reads (hH.at 1 rfl)⟩,_,Qae (hH.at 5 rfl) rfl,I64.mk (by omega) (by omega),?_⟩;refine Qs ?_;refine ⟨⟨by omega,by omega⟩,_,Qax (hH.at 2 rfl) (by omega),?_⟩;rw [hi1];refine MemK_call Tryz.call126 ?_;refine Qs ?_;refine CallK.mk (Qnk rk ⟨gr,0,none⟩ cr by_ i1 (by omega) hby (by omega) w3 (Qao (hH.at 3 rfl))) ?_;rintro v w4 ⟨hH2,rfl⟩;have hH3:=hH.call0 hH2;simp only [List.nil_append] at hH3;clear hH;refine ⟨hH2.ext,?_⟩;apply hK;clear hK;simp only [List.getElem_toArray,List.getElem_cons_zero,List.getElem_cons_succ];clear hH2;refine VH _ (Ext.refl _) [1,2,3,5,6,7,8,9,10] [(0,true),(1,true),(2,true),(3,true),(4,true),(5,false),(6,true),(7,true),(8,true),(9,true),(10,true)] fun K hK=>?_;refine ⟨[.slice (some ⟨gr,0,none⟩) rk.length cr,.int .i64 by_],⟨rfl,blk_reads (hH3.at 1 rfl)⟩,_,Qae (hH3.at 5 rfl) rfl,?_⟩;refine Qs ?_;refine ⟨⟨by omega,by omega⟩,_,Qax (hH3.at 2 rfl) (by omega),?_⟩;rw [hi2];refine MemK_call Tryz.call126 ?_;refine Qs ?_;refine CallK.mk (Qnk rk ⟨gr,0,none⟩ cr by_ i2 (by omega) hby (by omega) w4 (Qao (hH3.at 3 rfl))) ?_;rintro v w5 ⟨hH4,rfl⟩;have hH:=hH3.call0 hH4;simp only [List.nil_append] at hH;clear hH3;refine ⟨hH4.ext,?_⟩;apply hK;clear hK;simp only [List.getElem_toArray,List.getElem_cons_zero,List.getElem_cons_succ];clear hH4;generalize rk.getD i1 0=ka at *;generalize rk.getD i2 0=kb at *;generalize rk.getD ((i1+by_) % rk.length) 0=kc at *;generalize rk.getD ((i2+by_) % rk.length) 0=kd at *;refine VL [1,2,3,5,6,7,8,9,10] 14 fun K hK=>?_;refine ⟨_,Qae (hH.at 5 rfl) rfl,?_⟩;refine Qs ?_;refine ⟨⟨by omega,by omega⟩,_,Qax (hH.at 2 rfl) (by omega),_,Qae (hH.at 5 rfl) rfl,I64.mk (by omega) (by omega),?_⟩;refine Qs ?_;refine ⟨⟨by omega,by omega⟩,_,Qax (hH.at 2 rfl) (by omega),?_⟩;rw [hi1,hi2];refine Qs ?_;refine ⟨⟨by omega,by omega⟩,_,Qax (hH.at 0 rfl) (by omega),⟨by omega,by omega⟩,?_⟩;refine MemK_store ?_;refine Qs ?_;refine Qa0 hH 0 (o:=(i2)) rfl (by first | rfl | (simp;done) | (congr 1;omega)) (by first | omega | (simp;omega)) fun w6 hS1=>?_;simp only [List.set_cons_zero] at hS1;(try refine Qs ?_);have hr1:=hnx (k - 1) (by omega);rw [hi1,Int.toNat_natCast] at hr1;have hr2:=Qxt rk by_ d.toList (k - 1);have hs1:(nx.setIfInBounds i2 nx[i1]!).size=d.size:=by simp [hs]
  have hnx1:∀ p,p < k->(nx.setIfInBounds i2 nx[i1]!)[(d[p]!).toNat]! = rsum rk by_ d.toList p:=fun p hp2=>by
   rw [Qii _ _ _ (by omega),if_neg,hnx p hp2];intro e;have h1:=hin p (by omega);have:=hinj p k (by omega) (by omega) (by omega);omega
  have hk0:(nx.setIfInBounds i2 nx[i1]!)[i2]! = rsum rk by_ d.toList (k - 1):=by rw [Qii _ _ _ (by omega),if_pos rfl,hr1]
  clear hnx hr1 hH hs;generalize nx.setIfInBounds i2 nx[i1]! = nx1 at *;apply hK;clear hK;refine VQ [1,2,3,5,6,58] fun K hK=>?_
  suffices hall:∀ bb:Bool,kEq rk by_ i1 i2=!bb->K [(1,ptr gn),(2,ptr gs),(3,ptr gb),(5,.slice (some ⟨gx,0,none⟩) d.size d.size),(6,.int .i64 k),(58,.bool bb)] w6 by
   refine ⟨fun h=>hall _ ?_,fun h=>hall _ ?_⟩
   ·
    rw [hkeq];simp only [Decidable.not_not] at h;simp [h]
   rw [hkeq];simp [h]
  intro bb hbb;rw [hbb] at hrs;clear hbb hkeq;apply hK;clear hK;refine Vi (fun h=>?_) (fun h=>?_)
  ·
   subst h;simp only [Bool.not_true,Bool.false_eq_true,if_false] at hrs;refine VQ [1,2,3,5,6] fun K hK=>?_;refine ⟨_,Qae (hS1.at 5 rfl) rfl,?_⟩;refine Qs ?_;refine ⟨⟨by omega,by omega⟩,_,Qax (hS1.at 2 rfl) (by omega),?_⟩;rw [hi2];refine Qs ?_;refine ⟨⟨by omega,by omega⟩,_,Qax (hS1.at 0 rfl) (by omega),?_⟩;rw [hk0];refine Qs ?_;refine ⟨I64.mk (by omega) (by omega),⟨by omega,by omega⟩,?_⟩;refine MemK_store ?_;refine Qs ?_;refine Qa0 hS1 0 (o:=(i2)) rfl (by first | rfl | (simp;done) | (congr 1;omega)) (by first | omega | (simp;omega)) fun w6 hS2=>?_;simp only [List.set_cons_zero] at hS2;(try refine Qs ?_);apply hK;clear hK;refine Qah ?_;refine VS [1,2,3,5,6] ?_;refine Qaa ?_;refine Qs ?_;refine ⟨d.size - (k+1),by omega,k+1,_,rfl,hS2,by simp [hs1],by omega,by omega,fun p hp2=>?_,rfl⟩;rw [Qii _ _ _ (by omega)];by_cases hpk:p=k
   ·
    subst hpk;rw [hi2,Int.toNat_natCast,if_pos rfl,hrs];omega
   rw [if_neg,hnx1 p (by omega)];intro e;have h1:=hin p (by omega);have:=hinj p k (by omega) (by omega) (by omega);omega
  subst h;simp only [Bool.not_false,if_true,Nat.add_zero] at hrs;refine VC_skip ?_;refine Qah ?_;refine VS [1,2,3,5,6] ?_;refine Qaa ?_;refine Qs ?_;refine ⟨d.size - (k+1),by omega,k+1,nx1,rfl,hS1,hs1,by omega,by omega,fun p hp2=>?_,rfl⟩;by_cases hpk:p=k
  ·
   subst hpk;rw [hi2,Int.toNat_natCast,hk0,hrs]
  exact hnx1 p (by omega)
 obtain rfl:k=d.size:=by omega
 refine Qad rfl ?_;refine VS [4] ?_;refine VC_ret (VX_ret1 rfl rfl ?_);refine ⟨gx,nx,hs,hnx,?_,by rw [sl,hs]⟩;have h5:Heap w0 B w3 (arr gx d.size nx::arr go co d::Qp8 gr cr rk::Res.blk gn 3 [.int .i64 d.size]::Res.blk gs 36 [sl go co d]::G):=hH.sub (by simp);rw [arr,hs] at h5;rw [Qp8,show nx.toList.length=d.size by simpa using hs];exact h5
abbrev zarr (g n:Nat):Res:=arr g n (Array.replicate n 0)
abbrev zsl (g n:Nat):Value:=.slice (some ⟨g,0,none⟩) n n
theorem QFm {P:Program}{N:Nat}{ops:List Oper}{w0:World}{e:Env}{w:World}{K:Env->World->Prop}:vcH P N ops w0 [] e w K=K e w:=rfl
set_option maxHeartbeats 4000000 in
theorem QCp (l:List UInt8) (hl:l.length<=100000000) (w:World):Does Tryz.prog 72 #[Str l] w
  fun v w'=>∃ (go:Nat) (σ:List Nat),Ordered l σ/\Heap w [] w' [Res.row 3 1 (some ⟨go,0,none⟩) l.length l.length (Qap (σ.map fun i:Nat=>(i:Int)))]/\v=.slice (some ⟨go,0,none⟩) l.length l.length:=by
 refine En [Str l] 57 Tryz.func72 ?_;generalize hn:l.length=n at *;refine VS [0] ?_;refine VQ [0,3] fun K hK=>?_;refine MemK_alloc (.int .i64 0) (by kernel_rfl) ?_;refine Qs ?_;have hH0:=(Heap.start w).box 3 [.int .i64 0];generalize w.alloc (Obj.cells [Value.int .i64 0].toArray 3)=w1 at *;generalize w.heap.size=gn at *;rw [hn];refine MemK_store ?_;refine Qs ?_;refine StoreK_blk hH0 0 (vs:=[.int .i64 n]) rfl rfl (by kernel_rfl) (by first | decide | (simp;done) | (simp;omega)) (by simp [Value.oneCell']) fun w6 hH=>?_;(try refine Qs ?_);apply hK;clear hK;clear hH0;generalize w6=w1 at *;refine V3 w1 (Ext.refl _) [0,3,4,5] (.three [(0,true),(2,true)] 1 3 4 (.two [] 3 4 (.seq [(4,false),(5,false),(6,true)]) (.two [] 3 5 (.seq [(5,false),(6,true)]) (.seq [(3,false),(6,true)]))) (.two [] 1 4 (.seq [(4,false),(5,false),(6,true)]) (.seq [(1,false),(5,false),(6,true)])) (.two [] 1 3 (.two [] 3 5 (.seq [(5,false),(6,true)]) (.seq [(3,false),(6,true)])) (.seq [(1,false),(5,false),(6,true)]))) fun K hK=>?_
 suffices out:∀ go gf gs w2,Heap w1 [] w2 [zarr go n,zarr gf n,Res.blk gs 36 [zsl go n]]->K [(0,Str l),(3,ptr gn),(4,ptr gs),(5,zsl gf n)] w2 by
  simp only [vcT3,Qa6,List.filterMap_cons,List.filterMap_nil,List.getElem?_cons_succ,List.getElem?_cons_zero,Option.map_some];refine Qs ?_;refine ⟨_,Qae (hH.at 0 rfl) rfl,_,Qae (hH.at 0 rfl) rfl,?_⟩;have hX:=Heap.start w1
  repeat' (first
   | (refine Qba Tryz.underlying36 zi3 ?_;refine Qs ?_;refine ⟨n,n,⟨rfl,rfl,by omega,by omega,by omega⟩,?_⟩;have hX:=QFl hX n (by omega);skip;refine ⟨hX.ext,?_⟩;skip)
   | (refine MemK_alloc (.slice none 0 0) (by kernel_rfl) ?_;refine Qs ?_;have hX:=hX.box 36 [.slice none 0 0];skip;refine ⟨hX.ext,?_⟩;skip)
   | (refine MemK_store ?_;refine Qs ?_;first
     | (refine StoreK_blk hX 0 (vs:=[_]) rfl rfl (by kernel_rfl) (by first | decide | (simp;done)) (by simp [Value.oneCell']) fun w6 hX=>?_;simp only [List.set_cons_zero,List.set_cons_succ] at hX;skip;refine ⟨hX.ext,?_⟩;skip)
     | (refine StoreK_blk hX 1 (vs:=[_]) rfl rfl (by kernel_rfl) (by first | decide | (simp;done)) (by simp [Value.oneCell']) fun w6 hX=>?_;simp only [List.set_cons_zero,List.set_cons_succ] at hX;skip;refine ⟨hX.ext,?_⟩;skip)
     | (refine StoreK_blk hX 2 (vs:=[_]) rfl rfl (by kernel_rfl) (by first | decide | (simp;done)) (by simp [Value.oneCell']) fun w6 hX=>?_;simp only [List.set_cons_zero,List.set_cons_succ] at hX;skip;refine ⟨hX.ext,?_⟩;skip))
   | (simp only [QFm];skip)
   | refine And.intro ?_ ?_)
  all_goals first
   | exact out _ _ _ _ hX
   | exact out _ _ _ _ (hX.front 1 rfl)
   | exact out _ _ _ _ (hX.front 2 rfl)
   | exact out _ _ _ _ ((hX.front 1 rfl).front 2 rfl)
   | exact out _ _ _ _ ((hX.front 2 rfl).front 2 rfl)
   | exact out _ _ _ _ ((hX.front 2 rfl).front 1 rfl)
 intro go gf gs w2 hX;have hH2:=hH.call0 hX;simp only [List.set_cons_zero,List.cons_append,List.nil_append] at hH2;have hG:Heap w [] w2 [zarr go n,zarr gf n,Res.blk gs 36 [zsl go n],Res.blk gn 3 [.int .i64 n]]:=hH2;clear hX hH hH2;apply hK;clear hK;refine VQ [0,3,4,5,16,17] fun K hK=>?_;refine ⟨_,Qae (hG.at 3 rfl) rfl,?_⟩;apply hK;clear hK;refine Qab ?_;refine Qac [0,3,4,5,16,17] (fun m e w'=>∃ (i:Nat) (D F:Array Int),Is e [(0,Str l),(3,ptr gn),(4,ptr gs),(5,zsl gf n),(16,.int .i64 n),(17,.int .i64 i)]/\Heap w [] w' [arr go n D,arr gf n F,Res.blk gs 36 [zsl go n],Res.blk gn 3 [.int .i64 n]]/\D.size=n/\F.size=n/\i<=n/\(∀ p,p < i->D[p]! = p/\F[p]! = (l.getD p 0).toNat)/\m=n - i) n ?_ ?_
 ·
  refine Qs ?_;exact ⟨0,_,_,rfl,hG,by simp,by simp,by omega,fun p hp=>by omega,rfl⟩
 clear hG;rintro m e w3 ⟨i,D,F,rfl,hH,hD,hF,hi,hDF,hm⟩;refine VS [0,3,4,5,16,17,18] ?_;(repeat refine Qar ?_);refine VD (fun h=>?_) (fun h=>?_)
 ·
  refine VC_skip ?_;refine VB ?_;refine VS [0,3,4,5,6,16,17] ?_;refine Vb [0,3,4,5,16,17] [(1,0),(2,0),(3,0),(4,0),(5,0),(6,0),(7,0),(8,0),(0,1),(9,0),(10,2),(11,0),(12,2)] fun K hK=>?_;rw [hn];have hb:=(l.getD i 0).toNat_lt;refine ⟨⟨by omega,by omega⟩,I64.mk (by omega) (by omega),_,Qae (hH.at 2 rfl) rfl,?_⟩;refine Qs ?_;refine Qo ?_;refine MemK_store ?_;refine Qs ?_;refine Qa0 hH 0 (o:=(i)) rfl (by first | rfl | (simp;done) | (congr 1;omega)) (by first | omega | (simp;omega)) fun w6 hS1=>?_;simp only [List.set_cons_zero] at hS1;(try refine Qs ?_);refine Qo ?_;refine MemK_store ?_;refine Qs ?_;refine Qa0 hS1 1 (o:=i) rfl rfl (by omega) fun w7 hS2=>?_;simp only [List.set_cons_succ,List.set_cons_zero] at hS2;apply hK;clear hK;refine Qah ?_;refine VS [0,3,4,5,16,17] ?_;refine Qaa ?_;refine Qs ?_;refine ⟨n - (i+1),by omega,i+1,_,_,rfl,hS2,by simp [hD],by simp [hF],by omega,fun p hp=>?_,rfl⟩;rw [Qii _ _ _ (by omega),Qii _ _ _ (by omega)];by_cases hpi:p=i
  ·
   subst hpi;simp
  rw [if_neg hpi,if_neg hpi];exact hDF p (by omega)
 obtain rfl:i=n:=by omega
 refine Qad rfl ?_
 have hDl:D.toList=Qe4 i:=by
  apply List.ext_getElem
  ·
   simp [Qe4,hD]
  intro p h1 h2;have h3:=(hDF p (by simpa [hD] using h1)).1;rw [Qff (by simpa using h1)] at h3;rw [h3];simp [Qe4]
 have hFl:∀ p,p < i->F.toList.getD p 0=(l.getD p 0).toNat:=fun p hp=>by rw [Qea];exact (hDF p hp).2
 have hFn:F.toList.length=l.length:=by rw [hn];simpa using hF
 clear hDF;refine VQ [3,4,5,33] fun K hK=>?_;refine ⟨_,Qae (hH.at 3 rfl) rfl,?_⟩;refine Qs ?_;apply hK;clear hK;refine VD (fun h=>?_) (fun h=>?_)
 ·
  obtain rfl:i=0:=by omega
  obtain rfl:l=[]:=List.eq_nil_of_length_eq_zero hn;refine VQ [2] fun K hK=>?_;refine ⟨_,Qae (hH.at 2 rfl) rfl,?_⟩;apply hK;clear hK;refine VC_ret (VX_ret1 rfl rfl ?_);refine ⟨go,[],⟨by simp,.nil⟩,?_,rfl⟩;have h5:Heap w [] w3 [arr go 0 D]:=hH.sub (by simp);rw [arr,hD,hDl] at h5;exact h5
 have hn0:0 < i:=by omega
 generalize i=n at *;refine VC_skip ?_;refine VS [3,4,5,7] ?_
 have hrk0:Ranks l F.toList 1:=by
  refine ⟨hFn,fun p q hp hq=>?_⟩;rw [hFl p (by omega),hFl q (by omega)];have h1:∀ r,r < l.length->pre l 1 r=[l.getD r 0]:=fun r hr=>by simp [pre,List.range_succ,Nat.mod_eq_of_lt hr]
  rw [h1 p hp,h1 q hq];simp only [leB];by_cases e:l.getD p 0=l.getD q 0
  ·
   rw [if_pos e,e];simp
  rw [if_neg e,decide_eq_true_eq];have:(l.getD p 0).toNat≠(l.getD q 0).toNat:=fun h'=>e (UInt8.toNat_inj.1 h');omega
 have hok0:Qk5 F.toList:=by
  intro r hr;obtain ⟨p,hp,rfl⟩:=List.getElem_of_mem hr;have h1:=hFl p (by rw [hFn,hn] at hp;exact hp);rw [List.getD_eq_getElem?_getD,List.getElem?_eq_getElem hp,Option.getD_some] at h1;have:=(l.getD p 0).toNat_lt;omega
 refine VQ [3,4,7,8] fun K hK=>?_;refine MemK_alloc (.agg #[.slice none 0 0,.int .i64 0]) (by kernel_rfl) ?_;refine Qs ?_;have hH1:=hH.box 166 [.slice none 0 0,.int .i64 0];generalize w3.alloc (Obj.cells [Value.slice none 0 0,.int .i64 0].toArray 166)=w4 at *;generalize w3.heap.size=gr at *;refine MemK_store ?_;refine Qs ?_;refine StoreK_blk hH1 0 (vs:=[.slice (some ⟨gf,0,none⟩) n n,.int .i64 0]) rfl rfl (by kernel_rfl) (by first | decide | (simp;done) | (simp;omega)) (by simp [Value.oneCell']) fun w6 hH2=>?_;(try refine Qs ?_)
 have hH3:Heap w [] w6 (arr go n D::Qp8 gf n F.toList::Res.blk gn 3 [.int .i64 n]::Res.blk gs 36 [zsl go n]::[Res.blk gr 166 [.slice (some ⟨gf,0,none⟩) F.toList.length n,.int .i64 (0:Nat)]]):=by
  rw [show F.toList.length=n by rw [hFn,hn]];have h7:=(((hH2.front 3 rfl).front 4 rfl).front 4 rfl).front 4 rfl;rw [Qp8,show F.toList.length=n by rw [hFn,hn]];simp only [arr,hF,List.eraseIdx_cons_succ,List.eraseIdx_cons_zero] at h7;simp only [arr];exact h7
 clear hH hH1 hH2;apply hK;clear hK;refine VS [3,4,7,8,9] ?_;refine Qab ?_;refine Qac [3,4,7,8,9] (fun m e w'=>∃ (b by_ gk ck:Nat) (rk:List Int) (D:Array Int),Is e [(3,ptr gn),(4,ptr gs),(7,.func (.func 125) #[] #[ptr gn,ptr gs]),(8,ptr gr),(9,.int .i64 b)]/\Heap w [] w' (arr go n D::Qp8 gk ck rk::Res.blk gn 3 [.int .i64 n]::Res.blk gs 36 [zsl go n]::[Res.blk gr 166 [.slice (some ⟨gk,0,none⟩) rk.length ck,.int .i64 by_]])/\D.size=n/\D.toList.Perm (Qe4 n)/\LeK l rk by_ b/\Qk5 rk/\rk.length=n/\1<=b/\b<=2 * n/\by_<=b/\m=2 * n - b) (2 * n - 1) ?_ ?_
 ·
  refine Qs ?_;exact ⟨1,0,gf,n,F.toList,D,rfl,hH3,hD,by rw [hDl],LeK.first hrk0,hok0,by rw [hFn,hn],by omega,by omega,by omega,rfl⟩
 clear hH3 hrk0 hok0 hFl hFn hDl hD hF;rintro m e w4 ⟨b,by_,gk,ck,rk,D1,rfl,hH,hD1,hp1,hk1,hok1,hrl1,hb1,hb2,hby,hm⟩;refine VB ?_
 have hQ1:AllQ (inR rk) D1:=fun k hk=>by
  have h1:=Qxv hp1 (p:=k) (by simpa using hk);rw [Qea] at h1;exact ⟨h1.1,by rw [hrl1];exact h1.2⟩
 refine VQ [3,4,7,8,9] fun K hK=>?_;refine ⟨_,Qae (hH.at 3 rfl) rfl,[.slice (some ⟨gk,0,none⟩) rk.length ck,.int .i64 by_],⟨rfl,blk_reads (hH.at 4 rfl)⟩,?_⟩;have hc:=Qk4 (Qzs rk hok1 gk ck by_ (by omega) (by omega)) (Qzt rk by_) go n D1 (by omega) hQ1 w w4 [] _ hH;rw [sl,hD1] at hc;refine MemK_call Tryz.call127 ?_;refine Qs ?_;refine CallK.mk hc ?_;clear hc hH;rintro v w5 ⟨D2,hsrt,hD2,hQ2,hH,rfl⟩;have hp2:=hsrt.1.trans hp1;have hrow:=QH5 hsrt.2;apply hK;clear hK;refine VQ [3,4,7,8,9] fun K hK=>?_;refine ⟨[.slice (some ⟨gk,0,none⟩) rk.length ck,.int .i64 by_],⟨rfl,blk_reads (hH.at 4 rfl)⟩,?_⟩;have hc:=QCo rk gk ck by_ go n gn gs D2 hok1 (by omega) (by omega) (by omega) (by omega) (by rw [hD2];exact hp2) w w5 [] _ (by rw [sl,hD2];exact hH);rw [hD2] at hc;refine Qbf ?_;refine Qs ?_;refine FnK.mk Tryz.call125 hc ?_;clear hc hH;rintro v w6 ⟨gx,nx,hnx,hrs,hH,rfl⟩
 have hrk2:Ranks l nx.toList b:=QB1 hk1 (by rw [hn];exact hp2) hrow (by rw [hn];simpa using hnx) fun p hp=>by
  rw [Qea,Qea];exact hrs p (by omega)
 have hok2:Qk5 nx.toList:=Qxw (s:=l) (rk:=rk) (by_:=by_) (L:=D2.toList) (by rw [hn];exact hp2) (by rw [hn];simpa using hnx) (by omega) fun p hp=>by
  rw [Qea,Qea];exact hrs p (by omega)
 have hnl:nx.toList.length=n:=by simpa using hnx
 simp only [sl,hnx,hD2] at hH ⊢;refine Qs ?_;refine MemK_store ?_;refine Qs ?_;refine StoreK_blk hH 5 (vs:=[.slice (some ⟨gx,0,none⟩) n n,.int .i64 b]) rfl rfl (by kernel_rfl) (by first | decide | (simp;done) | (simp;omega)) (by simp [Value.oneCell']) fun w6 hH2=>?_;(try refine Qs ?_);simp only [List.set_cons_succ,List.set_cons_zero] at hH2
 have hH3:Heap w [] w6 (arr go n D2::Qp8 gx n nx.toList::Res.blk gn 3 [.int .i64 n]::Res.blk gs 36 [zsl go n]::[Res.blk gr 166 [.slice (some ⟨gx,0,none⟩) nx.toList.length n,.int .i64 b]]):=by
  rw [show nx.toList.length=n from hnl];exact (hH2.front 1 rfl).sub (by simp)
 clear hH hH2;apply hK;clear hK;have hk2:LeK l nx.toList b (b+b):=LeK.double hrk2;refine VQ [3,4,7,8,9,51] fun K hK=>?_;refine ⟨_,Qae (hH3.at 2 rfl) rfl,?_⟩;refine Qs ?_;apply hK;clear hK;refine VD (fun h=>?_) (fun h=>?_)
 ·
  have hQ3:AllQ (inR nx.toList) D2:=fun k hk=>by
   have h1:=Qxv hp2 (p:=k) (by simpa using hk);rw [Qea] at h1;exact ⟨h1.1,by rw [hnl];exact h1.2⟩
  refine VQ [4] fun K hK=>?_;refine ⟨_,Qae (hH3.at 3 rfl) rfl,[.slice (some ⟨gx,0,none⟩) nx.toList.length n,.int .i64 b],⟨rfl,blk_reads (hH3.at 4 rfl)⟩,?_⟩;have hc:=Qk4 (Qzs nx.toList hok2 gx n b (by omega) (by omega)) (Qzt nx.toList b) go n D2 (by omega) hQ3 w w6 [] _ hH3;rw [sl,hD2] at hc;refine MemK_call Tryz.call127 ?_;refine Qs ?_;refine CallK.mk hc ?_;clear hc hH3;rintro v w7 ⟨D3,hsrt3,hD3,hQ3',hH,rfl⟩;have hp3:=hsrt3.1.trans hp2;apply hK;clear hK;refine VQ [2] fun K hK=>?_;refine ⟨_,Qae (hH.at 3 rfl) rfl,?_⟩;apply hK;clear hK;refine VC_ret (VX_ret1 rfl rfl ?_);have ho:=Qxx hk2 (by omega) (by rw [hn];exact hp3) hsrt3.2;refine ⟨go,D3.toList.map Int.toNat,ho,?_,rfl⟩
  have e:(D3.toList.map Int.toNat).map (fun i:Nat=>(i:Int))=D3.toList:=by
   rw [List.map_map]
   conv=>rhs;rw [<- List.map_id D3.toList]
   apply List.map_congr_left;intro x hx;have:=hp3.mem_iff.1 hx;simp only [Qe4,List.mem_map,List.mem_range] at this;obtain ⟨i,_,rfl⟩:=this;simp
  rw [e];have h5:Heap w [] w7 [arr go n D3]:=hH.sub (by simp);rw [arr,show D3.size=n by omega] at h5;exact h5
 refine VC_skip ?_;refine Qah ?_;refine VS [3,4,7,8,9] ?_;refine Qaa ?_;refine Qs ?_;refine ⟨2 * n - (b+b),by omega,b+b,b,gx,n,nx.toList,D2,by rw [show ((b:Int) * 2)=((b+b:Nat):Int) by omega];rfl,hH3,by omega,hp2,hk2,hok2,hnl,by omega,by omega,by omega,rfl⟩
def QFn (l:List UInt8) (v:Value):Prop :=
 if l=[] then v=.tuple #[Str [],.int .i64 0,.int .i64 2]
 else if 262144 < l.length then v=.tuple #[Str [],.int .i64 0,.int .i64 3]
 else ∃ σ,Ordered l σ/\v=.tuple #[Str (Qbn l σ),.int .i64 (σ.idxOf 0:Nat),.int .i64 0]
theorem Qv0 (l:List UInt8) (hl:l.length<=1000000000000) (w:World):Does Tryz.prog 30 #[Str l] w fun v w'=>Heap w [] w' []/\QFn l v:=by
 refine En [Str l] 41 Tryz.func30 ?_;refine VS [0] ?_;refine VS [0,10] ?_;refine VD (fun h=>?_) (fun h=>?_)
 ·
  refine VS [2,3,4] ?_;exact VC_ret (Qd5 rfl rfl rfl rfl ⟨Heap.start w,by rw [QFn,if_pos h]⟩)
 have hne:=h;refine VC_skip ?_;refine VS [0,13] ?_;refine VD (fun h=>?_) (fun h=>?_)
 ·
  refine VS [2,3,4] ?_;exact VC_ret (Qd5 rfl rfl rfl rfl ⟨Heap.start w,by rw [QFn,if_neg hne,if_pos (by omega)]⟩)
 have hle:l.length<=262144:=by omega
 have hn0:0 < l.length:=List.length_pos_iff.2 hne;clear h;generalize hn:l.length=n at *;refine VC_skip ?_;refine VQ [0,5,6] fun K hK=>?_;rw [hn];refine Qba Tryz.underlying43 zi5 ?_;refine Qs ?_;refine ⟨n,n,⟨rfl,rfl,by omega,by omega,by omega⟩,?_⟩;have hH0:=(Heap.start w).row 5 (n:=n) (cap:=n) (sz:=1) (List.replicate n (.int .u8 0)) [] (by simp) (by simp) (by omega) (by omega);rw [List.append_nil,show List.replicate n (Value.int .u8 0)=Qan (List.replicate n 0) by simp [Qan]] at hH0;rw [show List.replicate n (Value.int .u8 0)=Qan (List.replicate n 0) by simp [Qan]];generalize w.alloc (Obj.cells (Qan (List.replicate n 0)).toArray 5)=w1 at *;generalize w.heap.size=gb at *;apply hK;clear hK;refine VQ [0,5,6,18,19,20] fun K hK=>?_;have hc:=QCp l (by omega) w1;rw [hn] at hc;refine MemK_call Tryz.call72 ?_;refine Qs ?_;refine CallK.mk hc ?_;clear hc;rintro v w2 ⟨go,σ,hσ,hX,rfl⟩;have hH1:=hH0.call0 hX;simp only [List.cons_append,List.nil_append] at hH1;have hσl:σ.length=n:=by rw [hσ.perm.length_eq,List.length_range,hn]
 have hσb:∀ p,p < n->σ.getD p 0 < n:=fun p hp=>by
  have h1:σ.getD p 0∈σ:=Qaz 0 (by omega);have:=hσ.perm.mem_iff.1 h1;rw [List.mem_range,hn] at this;exact this
 have hnd:σ.Nodup:=by rw [hσ.perm.nodup_iff];exact List.nodup_range
 have h0σ:0∈σ:=hσ.perm.mem_iff.2 (by rw [List.mem_range];omega);have hcl:(Qbn l σ).length=n:=by simp [Qbn,hσl]
 have hcg:∀ p,p < n->(Qbn l σ).getD p 0=l.getD (ahead n (σ.getD p 0)) 0:=fun p hp=>by
  simp only [Qbn,List.getD_eq_getElem?_getD,List.getElem?_map,hn];rw [List.getElem?_eq_getElem (by omega)];simp
 refine Qs ?_;apply hK;clear hK;refine Qab ?_;refine Qac [0,5,6,18,19,20] (fun m e w'=>∃ (k r:Nat) (o:List UInt8),Is e [(0,Str l),(5,.slice (some ⟨gb,0,none⟩) n n),(6,.int .i64 r),(18,.slice (some ⟨go,0,none⟩) n n),(19,.int .i64 n),(20,.int .i64 k)]/\Heap w [] w' [Res.row 3 1 (some ⟨go,0,none⟩) n n (Qap (σ.map fun i:Nat=>(i:Int))),Res.row 5 1 (some ⟨gb,0,none⟩) n n (Qan o)]/\o.length=n/\k<=n/\o.take k=(Qbn l σ).take k/\(0∈σ.take k->r=σ.idxOf 0)/\m=n - k) n ?_ ?_
 ·
  refine Qs ?_;exact ⟨0,0,_,rfl,hH1,by simp,by omega,by simp,by simp,rfl⟩
 clear hH0 hX hH1;rintro m e w3 ⟨k,r,o,rfl,hH,hol,hk,ho,hr,hm⟩;refine VS [0,5,6,18,19,20,21] ?_;(repeat refine Qar ?_);refine VD (fun h=>?_) (fun h=>?_)
 ·
  have hkn:k < n:=by omega
  have hsk:=hσb k hkn
  have hgk:(σ.map fun i:Nat=>(i:Int)).getD k 0=((σ.getD k 0:Nat):Int):=by
   simp only [List.getD_eq_getElem?_getD,List.getElem?_map];rw [List.getElem?_eq_getElem (by omega)];simp
  refine VC_skip ?_;refine VB ?_;refine VQ [0,5,6,7,8,18,19,20] fun K hK=>?_;refine And.intro ⟨by omega,by omega⟩ ⟨_,Qaw (hH.at 0 rfl) (Qcv (by simp;omega)),?_⟩;rw [hgk];apply hK;clear hK;refine VS [0,5,6,7,8,18,19,20,26] ?_
  have htk:σ.take (k+1)=σ.take k++[σ.getD k 0]:=by
   rw [List.take_add_one,List.getElem?_eq_getElem (by omega),List.getD_eq_getElem?_getD,List.getElem?_eq_getElem (by omega)];rfl
  refine Qde [0,5,6,7,8,18,19,20] (fun e w'=>∃ (r':Nat),Is e [(0,Str l),(5,.slice (some ⟨gb,0,none⟩) n n),(6,.int .i64 r'),(7,.int .i64 k),(8,.int .i64 (ahead n (σ.getD k 0)+1:Nat)),(18,.slice (some ⟨go,0,none⟩) n n),(19,.int .i64 n),(20,.int .i64 k)]/\Is w' w3/\(0∈σ.take (k+1)->r'=σ.idxOf 0)) ?_ ?_
  ·
   refine VD (fun h=>?_) (fun h=>?_)
   ·
    have hz:σ.getD k 0=0:=by omega
    refine VS [0,5,6,7,18,19,20] ?_;refine VQ [0,5,6,7,8,18,19,20] fun K hK=>?_;rw [hn];apply hK;clear hK;refine Qaa ?_;refine Qs ?_;refine ⟨k,by rw [hz,show ahead n 0+1=n by unfold ahead;rw [if_pos rfl];omega];rfl,rfl,fun _=>?_⟩;have h1:=hnd.idxOf_getElem k (by omega);rw [List.getD_eq_getElem?_getD,List.getElem?_eq_getElem (by omega),Option.getD_some] at hz;rw [hz] at h1;exact h1.symm
   have hz:σ.getD k 0≠0:=by omega
   refine VC_skip ?_;refine Qaa ?_;refine Qs ?_;refine ⟨r,by rw [show ahead n (σ.getD k 0)+1=σ.getD k 0 by unfold ahead;rw [if_neg hz];omega];rfl,rfl,fun h2=>hr ?_⟩;rw [htk,List.mem_append] at h2;rcases h2 with h2 | h2
   ·
    exact h2
   exact absurd (List.mem_singleton.1 h2).symm hz
  rintro e w4 ⟨r',rfl,rfl,hr'⟩;have hah:ahead n (σ.getD k 0) < n:=by unfold ahead;split <;> omega
  have hcgk:=hcg k hkn;generalize ahead n (σ.getD k 0)=at_ at *;refine VQ [0,5,6,18,19,20] fun K hK=>?_;rw [hn,show ((at_+1:Nat):Int) - 1=(at_:Int) by omega];rw [Nat.add_sub_cancel];refine ⟨I64.mk (by omega) (by omega),⟨by omega,by omega⟩,⟨by omega,by omega⟩,?_⟩;refine MemK_store ?_;refine Qs ?_;refine Qas hH 1 (o:=(k)) (vs:=[.int .u8 (l.getD at_ 0).toNat]) rfl (by first | exact (Qa8 _ _ _).symm | rfl | simp [Qa8]) rfl (by kernel_rfl) (by first | omega | (simp;done) | (simp;omega) | (simp [Qan,Qap];omega) | (rw [natsV_len];simp;omega)) (by simp [Value.oneCell']) fun w6 hH2=>?_;(try refine Qs ?_);simp only [List.length_singleton,Qb2 (Qan o) _ _ (show k < (Qan o).length by rw [Qfs];omega),Qjo,List.set_cons_zero,List.set_cons_succ] at hH2;apply hK;clear hK;refine Qah ?_;refine VS [0,5,6,18,19,20] ?_;refine Qaa ?_;refine Qs ?_;refine ⟨n - (k+1),by omega,k+1,r',o.set k (l.getD at_ 0),rfl,hH2,by simp [hol],by omega,?_,hr',rfl⟩
  have e1:(o.set k (l.getD at_ 0)).take (k+1)=o.take k++[l.getD at_ 0]:=by
   rw [List.take_add_one,List.getElem?_set_self (by omega),List.take_set_of_le (by omega)];rfl
  have e2:(Qbn l σ).take (k+1)=(Qbn l σ).take k++[(Qbn l σ).getD k 0]:=by
   rw [List.take_add_one,List.getElem?_eq_getElem (by omega),List.getD_eq_getElem?_getD,List.getElem?_eq_getElem (by omega)];rfl
  rw [e1,e2,ho,hcgk]
 obtain rfl:k=n:=by omega
 refine Qad rfl ?_;rw [List.take_of_length_le (by omega),List.take_of_length_le (by omega)] at ho;subst ho;have hr2:=hr (by rw [List.take_of_length_le (by omega)];exact h0σ);subst hr2;refine VQ [2,3,4] fun K hK=>?_;refine ⟨Qbn l σ,Qgc (by rw [<- hcl] at hH ⊢;exact Qao (hH.at 1 rfl)),?_⟩;apply hK;clear hK;refine VC_ret (Qd5 rfl rfl rfl rfl ?_);refine ⟨hH.sub (by simp),?_⟩;rw [QFn,if_neg hne,if_neg (by omega)];exact ⟨σ,hσ,rfl⟩
def cntB (L:List UInt8) (b k:Nat):Nat:=((List.range k).filter fun i=>(L.getD i 0).toNat == b).length
def Qg2 (L:List UInt8):Nat->Nat
 | 0=>0
 | b+1=>Qg2 L b+cntB L b L.length
def posB (L:List UInt8) (i:Nat):Nat:=Qg2 L (L.getD i 0).toNat+cntB L (L.getD i 0).toNat i
theorem Qv1 (L:List UInt8) (b k:Nat):cntB L b (k+1)=cntB L b k+if (L.getD k 0).toNat=b then 1 else 0:=by
 unfold cntB;rw [List.range_succ,List.filter_append,List.length_append];by_cases h:(L.getD k 0).toNat=b
 ·
  rw [List.filter_cons_of_pos (by rw [beq_iff_eq];exact h),if_pos h];rfl
 rw [List.filter_cons_of_neg (by rw [beq_iff_eq];exact h),if_neg h];rfl
theorem Qyu (L:List UInt8) (b k:Nat):cntB L b k<=k:=by
 unfold cntB;exact Nat.le_trans (List.length_filter_le _ _) (by simp)
theorem QAl (L:List UInt8) (b:Nat):((List.range b).flatMap fun b=>(List.range L.length).filter fun i=>(L.getD i 0).toNat == b).length=Qg2 L b:=by
 induction b with
 | zero=>rfl
 | succ b ih=>rw [List.range_succ,List.flatMap_append,List.length_append,ih];simp [Qg2,cntB]
theorem Qfl (L:List UInt8) (i:Nat) (hi:i < L.length):(Qbp L)[posB L i]? = some i:=by
 have hb:=(L.getD i 0).toNat_lt;obtain ⟨k,hk⟩:∃ k,256=(L.getD i 0).toNat+(k+1):=⟨256 - (L.getD i 0).toNat - 1,by omega⟩;obtain ⟨j,hj⟩:∃ j,L.length=i+(j+1):=⟨L.length - i - 1,by omega⟩;generalize hbb:(L.getD i 0).toNat=b at *
 have e:Qbp L=((List.range b).flatMap fun b=>(List.range L.length).filter fun i=>(L.getD i 0).toNat == b)++(((List.range i).filter fun i=>(L.getD i 0).toNat == b)++(i::((((List.range j).map Nat.succ).map (i+·)).filter fun i=>(L.getD i 0).toNat == b)))++((((List.range k).map Nat.succ).map (b+·)).flatMap fun b=>(List.range L.length).filter fun i=>(L.getD i 0).toNat == b):=by
  have e1:List.range 256=List.range b++(b::((List.range k).map Nat.succ).map (b+·)):=by
   rw [hk,List.range_add,List.range_succ_eq_map];simp
  have e2:List.range L.length=List.range i++(i::((List.range j).map Nat.succ).map (i+·)):=by
   rw [hj,List.range_add,List.range_succ_eq_map];simp
  have e3:((List.range L.length).filter fun i=>(L.getD i 0).toNat == b)=((List.range i).filter fun i=>(L.getD i 0).toNat == b)++(i::((((List.range j).map Nat.succ).map (i+·)).filter fun i=>(L.getD i 0).toNat == b)):=by
   rw [e2,List.filter_append,List.filter_cons_of_pos (by rw [beq_iff_eq];exact hbb)]
  unfold Qbp;rw [e1,List.flatMap_append,List.flatMap_cons,e3,<- List.append_assoc]
 have hp:posB L i=Qg2 L b+cntB L b i:=by rw [posB,hbb]
 rw [e,hp,List.append_assoc,List.getElem?_append_right (by rw [QAl];omega),QAl,Nat.add_sub_cancel_left,List.append_assoc,List.getElem?_append_right (by rw [cntB];exact Nat.le_refl _)];rw [show cntB L b i - ((List.range i).filter fun i=>(L.getD i 0).toNat == b).length=0 by rw [cntB];omega];rfl
theorem QFo (L:List UInt8) (i:Nat) (hi:i < L.length):posB L i < L.length:=by
 have h:=Qfl L i hi;have hl:(Qbp L).length=L.length:=by rw [(Qcp L).length_eq,List.length_range]
 have:=(List.getElem?_eq_some_iff.1 h).1;omega
theorem QIq (L:List UInt8) {i j:Nat} (hi:i < L.length) (hj:j < L.length) (h:posB L i=posB L j):i=j:=by
 have h1:=Qfl L i hi;rw [h,Qfl L j hj] at h1;exact (Option.some.inj h1).symm
theorem QFp (L:List UInt8) (P:List Nat) (hl:P.length=L.length) (h:∀ i,i < L.length->P.getD (posB L i) 0=i):P=Qbp L:=by
 have hpl:(Qbp L).length=L.length:=by rw [(Qcp L).length_eq,List.length_range]
 have hnd:(Qbp L).Nodup:=by rw [(Qcp L).nodup_iff];exact List.nodup_range
 apply List.ext_getElem (by omega);intro p h1 h2
 have hm:(Qbp L)[p] < L.length:=by
  have:=(Qcp L).mem_iff.1 (List.getElem_mem h2);simpa using this
 generalize hj:(Qbp L)[p]=j at *;have h3:=Qfl L j hm;obtain ⟨h4,h5⟩:=List.getElem?_eq_some_iff.1 h3;have h6:posB L j=p:=(List.getElem_inj hnd).1 (by rw [h5,hj]);have h7:=h j hm;rw [h6,List.getD_eq_getElem?_getD,List.getElem?_eq_getElem h1,Option.getD_some] at h7;exact h7
def tbl (g:Nat) (F:Array Int):Res:=Res.blk g 188 (Qap F.toList)
theorem Qs8 {g:Nat}{F:Array Int}{w:World} (h:(tbl g F).holds w) {k:Nat} (hk:k < F.size):w.cell? ⟨g,k,none⟩=some (.int .i64 F[k]!):=by
 refine Qae h ?_;rw [Qcv (by simpa using hk),Qea]
theorem Qmn {w0 w:World}{B:List Nat}{G:List Res} (hH:Heap w0 B w G) (i:Nat) {g o:Nat}{F:Array Int}{x:Int}{C:World->Prop} (hi:G[i]? = some (tbl g F)) (ho:o < F.size)
  (h:∀ w',Heap w0 B w' (G.set i (tbl g (F.setIfInBounds o x)))->C w'):Qim Tryz.prog 3 (.pointer (some ⟨g,o,none⟩)) (.int .i64 x) w C:=by
 refine StoreK_blk hH i (o:=o) (vs:=[.int .i64 x]) hi rfl (by kernel_rfl) (by rw [Qc8];simp;omega) (by simp [Value.oneCell']) fun w' hw=>h w' ?_
 have e:(Qap F.toList).take o++[.int .i64 x]++(Qap F.toList).drop (o+[Value.int .i64 x].length)=Qap (F.setIfInBounds o x).toList:=by
  rw [List.length_singleton,Qb2 (Qap F.toList) _ _ (by rw [Qc8];simpa using ho),Qub,Array.toList_setIfInBounds]
 rw [e] at hw;exact hw
theorem QFq:∀ {l:List Value}{i:Nat}{v:Value}{K:Value->Prop},l[i]? = some v->vNth l i K=K v
 | [],_,_,_,h=>by simp at h
 | x::l,0,v,K,h=>by simp at h;subst h;rfl
 | x::l,i+1,v,K,h=>by rw [vNth];exact QFq (by simpa using h)
theorem QCq (D:Array Int) (gp cp gc p:Nat) (hp:p < D.size) (hD:D.size<=1000000000000) (w0 w:World) (B:List Nat) (G:List Res) (hL:Heap w0 B w (arr gp cp D::Res.blk gc 36 [sl gp cp D]::G)) :
  Does Tryz.prog 152 #[.int .i64 p,ptr gc] w fun v w'=>w'=w/\v=.int .i64 D[p]! := by
 refine En [.int .i64 p,ptr gc] 8 Tryz.func152 ?_;refine VQi [0,1] fun K hK=>?_;apply hK;clear hK;refine VQi [3] fun K hK=>?_;refine ⟨_,Qae (hL.at 1 rfl) rfl,?_⟩;refine Qi ?_;refine ⟨⟨by omega,by omega⟩,_,Qax (hL.at 0 rfl) hp,?_⟩;apply hK;clear hK;exact VC_ret (VX_ret1 rfl rfl ⟨rfl,rfl⟩)
abbrev QQd (gc:Nat):Value:=.func (.func 152) #[] #[ptr gc]
abbrev wblk (gw gc p:Nat):Res:=Res.blk gw 190 [QQd gc,.int .i64 p]
theorem QFr (D:Array Int) (gp cp gc gw p q:Nat) (hp:p < D.size) (hq:D[p]! = q) (hD:D.size<=1000000000000) (w0 w:World) (B:List Nat) (G:List Res) (hL:Heap w0 B w (arr gp cp D::Res.blk gc 36 [sl gp cp D]::wblk gw gc p::G)) :
  Does Tryz.prog 153 #[ptr gw] w fun v w'=>Heap w0 B w' (arr gp cp D::Res.blk gc 36 [sl gp cp D]::wblk gw gc q::G)/\v=.int .i64 q:=by
 refine En [ptr gw] 19 Tryz.func153 ?_;refine VQi [0] fun K hK=>?_;apply hK;clear hK;(repeat refine Qar ?_);refine Ql5 [0] [(0,0),(1,0),(2,0),(3,0),(5,0),(6,0),(7,0),(4,1),(8,1),(9,2),(10,0),(11,0),(12,2)] (by kernel_rfl) (by kernel_rfl) (by kernel_rfl) (by simp only [Qa6,List.map_cons,List.map_nil,beq_self_eq_true,Nat.reduceBEq,List.filterMap_cons,List.filterMap_nil,List.getElem?_cons_succ,List.getElem?_cons_zero,Option.map_some];rfl) fun K hK=>?_;refine Qi ?_;refine ⟨_,Qae (hL.at 2 rfl) rfl,_,Qae (hL.at 2 rfl) rfl,?_⟩;refine Qbf ?_;refine Qi ?_;refine FnK.mk Tryz.call152 (QCq D gp cp gc p hp hD w0 w B _ hL) ?_;rintro v w2 ⟨rfl,rfl⟩;rw [hq];refine MemK_store ?_;refine Qi ?_;refine StoreK_blk hL 2 (vs:=[.int .i64 q]) rfl rfl (by kernel_rfl) (by first | decide | (simp;done) | (simp;omega)) (by simp [Value.oneCell']) fun w6 hH2=>?_;(try refine Qi ?_);apply hK;clear hK;refine VQi [2] fun K hK=>?_;refine ⟨_,Qae (hH2.at 2 rfl) rfl,?_⟩;apply hK;clear hK;exact VC_ret (VX_ret1 rfl rfl ⟨hH2,rfl⟩)
def bckS (L:List UInt8) (row:Int):List UInt8×Int :=
 if 262144 < L.length then ([],3) else if row < 0∨(L.length:Int)<=row then ([],50) else (Qhe L (Qbp L) L.length row.toNat,0)
theorem QFs (L:List UInt8) (row:Int) (hr:I64 row) (hL:L.length<=1000000000000) (w:World):Does Tryz.prog 107 #[Str L,.int .i64 row] w
  fun v w'=>Heap w [] w' []/\v=.tuple #[Str (bckS L row).1,.int .i64 (bckS L row).2]:=by
 refine En [Str L,.int .i64 row] 96 Tryz.func107 ?_;refine VQi [0,1] fun K hK=>?_;apply hK;clear hK;refine VQi [0,1,18] fun K hK=>?_;apply hK;clear hK;refine VD (fun h=>?_) (fun h=>?_)
 ·
  refine VQi [4,5] fun K hK=>?_;apply hK;clear hK;exact VC_ret (Qat rfl rfl rfl ⟨Heap.start w,by rw [bckS,if_pos (by omega)]⟩)
 have hle:L.length<=262144:=by omega
 clear h;refine VC_skip ?_;refine VQi [0,1,26] fun K hK=>?_
 suffices out:∀ b:Bool,(b=true ↔ (row < 0∨(L.length:Int)<=row))->K [(0,Str L),(1,.int .i64 row),(26,.bool b)] w by (repeat' (first | exact out _ _ (by first | omega | (simp;done) | (simp;omega)) | exact out _ (by first | omega | (simp;done) | (simp;omega)) | refine ⟨fun _=>?_,fun _=>?_⟩ | refine Qo ?_))
 intro b hb;apply hK;clear hK;refine Qaf rfl rfl (fun h=>?_) (fun h=>?_)
 ·
  refine VQi [4,5] fun K hK=>?_;apply hK;clear hK;exact VC_ret (Qat rfl rfl rfl ⟨Heap.start w,by rw [bckS,if_neg (by omega),if_pos (hb.1 h)]⟩)
 have hb2:¬ (row < 0∨(L.length:Int)<=row):=fun h2=>by have:=hb.2 h2;simp_all
 have hbs:bckS L row=(Qhe L (Qbp L) L.length row.toNat,0):=by rw [bckS,if_neg (by omega),if_neg hb2]
 rw [hbs];obtain ⟨p0,rfl⟩:∃ p:Nat,row=p:=⟨row.toNat,by omega⟩;rw [Int.toNat_natCast];have hp0:p0 < L.length:=by omega
 clear hb hb2 hbs h hr;refine VC_skip ?_;generalize hn:L.length=n at *;refine VQi [0,1,6] fun K hK=>?_;refine MemK_alloc (.agg (Qap (List.replicate 256 0)).toArray) (by kernel_rfl) ?_;refine Qi ?_
 have hH0:Heap w [] (w.alloc (Obj.cells (Qap (List.replicate 256 0)).toArray 188)) [tbl w.heap.size (Array.replicate 256 0)]:=by
  have h:=(Heap.start w).box 188 (Qap (List.replicate 256 0));rw [tbl,Array.toList_replicate];exact h
 generalize w.alloc (Obj.cells (Qap (List.replicate 256 0)).toArray 188)=w1 at *;generalize w.heap.size=gf at *;have hb8:∀ k,(L.getD k 0).toNat < 256:=fun k=>(L.getD k 0).toNat_lt
 have hst:∀ b,Qg2 L b<=b * 262144:=fun b=>by
  induction b with
  | zero=>simp [Qg2]
  | succ b ih=>have:=Qyu L b L.length;simp only [Qg2];omega
 apply hK;clear hK;refine VQi [0,1,6,28,29] fun K hK=>?_;apply hK;clear hK;rw [hn];refine Qab ?_;refine Qac [0,1,6,28,29] (fun m e w'=>∃ (k:Nat) (F:Array Int),Is e [(0,Str L),(1,.int .i64 p0),(6,ptr gf),(28,.int .i64 n),(29,.int .i64 k)]/\Heap w [] w' [tbl gf F]/\F.size=256/\k<=n/\(∀ b,b < 256->F[b]! = cntB L b k)/\m=n - k) n ?_ ?_
 ·
  refine Qi ?_;exact ⟨0,_,rfl,hH0,by simp,by omega,fun b _=>by rw [Qvz];rfl,rfl⟩
 clear hH0;rintro m e w2 ⟨k,F,rfl,hH,hF,hk,hFk,hm⟩;refine VQi [0,1,6,28,29,30] fun K hK=>?_;apply hK;clear hK;(repeat refine Qar ?_);refine VD (fun h=>?_) (fun h=>?_)
 ·
  refine VC_skip ?_
  ((repeat refine Qar ?_);refine Qab ?_)
  refine VQi [0,1,6,7,28,29] fun K hK=>?_;apply hK;clear hK;have hb:=hb8 k;have hc:=hFk _ hb;have hcl:=Qyu L (L.getD k 0).toNat k;have hcs:=fun b=>Qv1 L b k;generalize hbk:(L.getD k 0).toNat=bk at *;refine VQi [0,1,6,28,29] fun K hK=>?_;rw [hn,hbk];refine ⟨⟨by omega,by omega⟩,⟨by omega,by omega⟩,_,Qs8 (hH.at 0 rfl) (by omega),?_⟩;rw [hc];refine Qi ?_;refine ⟨I64.mk (by omega) (by omega),⟨by omega,by omega⟩,?_⟩;refine MemK_store ?_;refine Qi ?_;refine Qmn hH 0 (o:=bk) rfl (by omega) fun w6 hH2=>?_;simp only [List.set_cons_zero] at hH2;apply hK;clear hK;refine Qah ?_;refine VQi [0,1,6,28,29] fun K hK=>?_;(repeat refine Qo ?_);apply hK;clear hK;refine Qaa ?_;refine Qi ?_;refine ⟨n - (k+1),by omega,k+1,_,rfl,hH2,by simp [hF],by omega,fun b hb2=>?_,rfl⟩;rw [Qii _ _ _ (by omega),hcs b];by_cases e:b=bk
  ·
   subst e;simp
  rw [if_neg e,if_neg (Ne.symm e),hFk b hb2];simp
 obtain rfl:k=n:=by omega
 refine Qad rfl ?_;generalize k=n at *;refine VQi [0,1,6,8] fun K hK=>?_;apply hK;clear hK;refine VQi [0,1,6,8,40,41] fun K hK=>?_;refine ⟨Qap F.toList,⟨by rw [Qc8];simpa using hF,blk_reads (hH.at 0 rfl)⟩,?_⟩;apply hK;clear hK;refine Qab ?_;refine Qac [0,1,6,8,40,41] (fun m e w'=>∃ (b:Nat) (F':Array Int),Is e [(0,Str L),(1,.int .i64 p0),(6,ptr gf),(8,.int .i64 (Qg2 L b)),(40,.agg (Qap F.toList).toArray),(41,.int .i64 b)]/\Heap w [] w' [tbl gf F']/\F'.size=256/\b<=256/\(∀ c,c < b->F'[c]! = Qg2 L c)/\m=256 - b) 256 ?_ ?_
 ·
  refine Qi ?_;exact ⟨0,F,rfl,hH,hF,by omega,fun c hc=>by omega,rfl⟩
 clear hH;rintro m e w3 ⟨b,F1,rfl,hH,hF1,hb,hFb,hm⟩;refine VQi [0,1,6,8,40,41,42] fun K hK=>?_;apply hK;clear hK;(repeat refine Qar ?_);refine VD (fun h=>?_) (fun h=>?_)
 ·
  have hc:=hFk b (by omega);have hcl:=Qyu L b n;have hsb:=hst b;have hsb1:=hst (b+1);refine VC_skip ?_
  ((repeat refine Qar ?_);refine Qab ?_)
  refine VQi [0,1,6,8,9,10,40,41] fun K hK=>?_
  have hvn:vNth (Qap F.toList) b=fun K=>K (.int .i64 F[b]!):=by
   funext K;exact QFq (by rw [Qcv (by simp;omega),Qea])
  rw [hvn]
  dsimp only
  rw [hc];refine ⟨⟨by omega,by omega⟩,?_⟩;apply hK;clear hK;refine VQi [0,1,6,8,10,40,41] fun K hK=>?_;refine ⟨⟨by omega,by omega⟩,?_⟩;refine MemK_store ?_;refine Qi ?_;refine Qmn hH 0 (o:=b) rfl (by omega) fun w6 hH2=>?_;simp only [List.set_cons_zero] at hH2;apply hK;clear hK;refine VQi [0,1,6,8,40,41] fun K hK=>?_;(repeat refine Qo ?_);apply hK;clear hK;refine Qah ?_;refine VQi [0,1,6,8,40,41] fun K hK=>?_;(repeat refine Qo ?_);apply hK;clear hK;refine Qaa ?_;refine Qi ?_;refine ⟨256 - (b+1),by omega,b+1,_,by rw [show ((Qg2 L b:Int)+(cntB L b n:Nat))=((Qg2 L (b+1):Nat):Int) by rw [Qg2,hn];omega];rfl,hH2,by simp [hF1],by omega,fun c hc=>?_,rfl⟩;rw [Qii _ _ _ (by omega)];by_cases e:c=b
  ·
   subst e;simp
  rw [if_neg e];exact hFb c (by omega)
 obtain rfl:b=256:=by omega
 refine Qad rfl ?_;clear hFk hF;refine VQi [0,1,6,11] fun K hK=>?_;rw [hn];refine Qba Tryz.underlying36 zi3 ?_;refine Qi ?_;refine ⟨n,n,⟨rfl,rfl,by omega,by omega,by omega⟩,?_⟩;have hH1:=QFl hH n (by omega);generalize w3.alloc (Obj.cells (List.replicate n (Value.int .i64 0)).toArray 3)=w4 at *;generalize w3.heap.size=gp at *;refine MemK_alloc (.slice none 0 0) (by kernel_rfl) ?_;refine Qi ?_;have hH2:=hH1.box 36 [.slice none 0 0];generalize w4.alloc (Obj.cells [Value.slice none 0 0].toArray 36)=w5 at *;generalize w4.heap.size=gc at *;refine MemK_store ?_;refine Qi ?_;refine StoreK_blk hH2 0 (vs:=[.slice (some ⟨gp,0,none⟩) n n]) rfl rfl (by kernel_rfl) (by first | decide | (simp;done) | (simp;omega)) (by simp [Value.oneCell']) fun w6 hH3=>?_;(try refine Qi ?_);have hH4:Heap w [] w6 [arr gp n (Array.replicate n 0),Res.blk gc 36 [zsl gp n],tbl gf F1]:=hH3.front 1 rfl;clear hH hH1 hH2 hH3;apply hK;clear hK;refine VQi [0,1,6,11,56,57] fun K hK=>?_;apply hK;clear hK;rw [hn];refine Qab ?_;refine Qac [0,1,6,11,56,57] (fun m e w'=>∃ (k:Nat) (F D:Array Int),Is e [(0,Str L),(1,.int .i64 p0),(6,ptr gf),(11,ptr gc),(56,.int .i64 n),(57,.int .i64 k)]/\Heap w [] w' [arr gp n D,Res.blk gc 36 [zsl gp n],tbl gf F]/\F.size=256/\D.size=n/\k<=n/\(∀ b,b < 256->F[b]! = (Qg2 L b+cntB L b k:Nat))/\(∀ j,j < k->D[posB L j]! = j)/\m=n - k) n ?_ ?_
 ·
  refine Qi ?_;exact ⟨0,F1,_,rfl,hH4,hF1,by simp,by omega,fun b hb=>by rw [hFb b hb];rfl,fun j hj=>by omega,rfl⟩
 clear hH4 hF1 hFb;rintro m e w7 ⟨k,F,D,rfl,hH,hF,hD,hk,hFk,hDk,hm⟩;refine VQi [0,1,6,11,56,57,58] fun K hK=>?_;apply hK;clear hK;(repeat refine Qar ?_);refine VD (fun h=>?_) (fun h=>?_)
 ·
  refine VC_skip ?_
  ((repeat refine Qar ?_);refine Qab ?_)
  refine VQi [0,1,6,11,12,56,57] fun K hK=>?_;apply hK;clear hK;have hb:=hb8 k;have hc:=hFk _ hb;have hpl:=QFo L k (by omega);have hcs:=fun b=>Qv1 L b k;have hps:Qg2 L (L.getD k 0).toNat+cntB L (L.getD k 0).toNat k=posB L k:=rfl;rw [hps] at hc;generalize hbk:(L.getD k 0).toNat=bk at *;(repeat refine Qar ?_);refine Qjn [0,1,6,11,12,56,57] 8 (by kernel_rfl) (by kernel_rfl) (by kernel_rfl) rfl fun K hK=>?_;refine Qi ?_;refine ⟨_,Qae (hH.at 1 rfl) rfl,⟨by omega,by omega⟩,?_⟩;rw [hbk];refine ⟨⟨by omega,by omega⟩,_,Qs8 (hH.at 2 rfl) (by omega),?_⟩;rw [hc];refine Qi ?_;refine ⟨⟨by omega,by omega⟩,?_⟩;refine MemK_store ?_;refine Qi ?_;refine Qa0 hH 0 (o:=(posB L k)) rfl (by first | rfl | (simp;done) | (congr 1;omega)) (by first | omega | (simp;omega)) fun w6 hH1=>?_;simp only [List.set_cons_zero] at hH1;(try refine Qi ?_);apply hK;clear hK;refine VQi [0,1,6,11,56,57] fun K hK=>?_;rw [hbk];refine ⟨⟨by omega,by omega⟩,⟨by omega,by omega⟩,_,Qs8 (hH1.at 2 rfl) (by omega),?_⟩;rw [hc];refine Qi ?_;refine ⟨I64.mk (by omega) (by omega),⟨by omega,by omega⟩,?_⟩;refine MemK_store ?_;refine Qi ?_;refine Qmn hH1 2 (o:=bk) rfl (by omega) fun w8 hH2=>?_;simp only [List.set_cons_zero,List.set_cons_succ] at hH2;apply hK;clear hK;refine Qah ?_;refine VQi [0,1,6,11,56,57] fun K hK=>?_;(repeat refine Qo ?_);apply hK;clear hK;refine Qaa ?_;refine Qi ?_;refine ⟨n - (k+1),by omega,k+1,_,_,rfl,hH2,by simp [hF],by simp [hD],by omega,fun c hc2=>?_,fun j hj=>?_,rfl⟩
  ·
   rw [Qii _ _ _ (by omega),hcs c];by_cases e:c=bk
   ·
    subst e;rw [if_pos rfl,if_pos rfl];omega
   rw [if_neg e,if_neg (Ne.symm e),hFk c hc2];simp
  rw [Qii _ _ _ (by omega)];by_cases e:j=k
  ·
   subst e;simp
  rw [if_neg (fun h2=>e (QIq L (by omega) (by omega) h2))];exact hDk j (by omega)
 obtain rfl:k=n:=by omega
 refine Qad rfl ?_;generalize k=n at *
 have hPl:D.toList.map Int.toNat=Qbp L:=QFp L _ (by rw [hn];simpa using hD) fun i hi=>by
  have h1:=hDk i (by omega);have h2:=QFo L i hi;rw [Qff (by omega)] at h1;rw [List.getD_eq_getElem?_getD,List.getElem?_map,List.getElem?_eq_getElem (by simp;omega)];simp only [Option.map_some,Option.getD_some,h1,Int.toNat_natCast]
 have hDp:∀ p,p < n->D[p]! = (((Qbp L).getD p 0:Nat):Int)/\(Qbp L).getD p 0 < n:=fun p hp=>by
  have hm2:(Qbp L).getD p 0∈Qbp L:=Qaz 0 (by rw [(Qcp L).length_eq,List.length_range];omega);have h3:=(Qcp L).mem_iff.1 hm2;rw [List.mem_range] at h3;refine ⟨?_,by omega⟩
  have h4:posB L ((Qbp L).getD p 0)=p:=by
   have hpl2:(Qbp L).length=L.length:=by rw [(Qcp L).length_eq,List.length_range]
   have hnd:(Qbp L).Nodup:=by rw [(Qcp L).nodup_iff];exact List.nodup_range
   obtain ⟨h5,h6⟩:=List.getElem?_eq_some_iff.1 (Qfl L _ h3);refine (List.getElem_inj hnd (h₀:=h5) (h₁:=by omega)).1 ?_;rw [h6,List.getD_eq_getElem?_getD,List.getElem?_eq_getElem (by omega)];rfl
  have h5:=hDk ((Qbp L).getD p 0) (by omega)
  rwa [h4] at h5
 clear hDk hFk hPl;generalize hP:Qbp L=P at *;refine VQi [0,13] fun K hK=>?_;refine MemK_alloc (.agg #[.nilFunc,.int .i64 0]) (by kernel_rfl) ?_;refine Qi ?_;have hH1:=hH.box 190 [.nilFunc,.int .i64 0];generalize w7.alloc (Obj.cells [Value.nilFunc,.int .i64 0].toArray 190)=w8 at *;generalize w7.heap.size=gw at *;refine MemK_store ?_;refine Qi ?_;refine StoreK_blk hH1 0 (vs:=[QQd gc,.int .i64 p0]) rfl rfl (by kernel_rfl) (by first | decide | (simp;done) | (simp;omega)) (by simp [Value.oneCell']) fun w6 hH2=>?_;(try refine Qi ?_);have hH3:Heap w [] w6 [arr gp n D,Res.blk gc 36 [zsl gp n],wblk gw gc p0]:=((hH2.front 1 rfl).front 2 rfl |>.front 1 rfl).sub (by simp);apply hK;clear hK;clear hH hH1 hH2;generalize w6=w9 at *;refine VQi [0,13,14] fun K hK=>?_;rw [hn];refine Qba Tryz.underlying43 zi5 ?_;refine Qi ?_;refine ⟨n,n,⟨rfl,rfl,by omega,by omega,by omega⟩,?_⟩;have hH1:=hH3.row 5 (n:=n) (cap:=n) (sz:=1) (List.replicate n (.int .u8 0)) [] (by simp) (by simp) (by omega) (by omega);rw [List.append_nil,show List.replicate n (Value.int .u8 0)=Qan (List.replicate n 0) by simp [Qan]] at hH1;rw [show List.replicate n (Value.int .u8 0)=Qan (List.replicate n 0) by simp [Qan]];generalize w9.alloc (Obj.cells (Qan (List.replicate n 0)).toArray 5)=w10 at *;generalize w9.heap.size=gb at *;have hH2:Heap w [] w10 [arr gp n D,Res.blk gc 36 [zsl gp n],wblk gw gc p0,Res.row 5 1 (some ⟨gb,0,none⟩) n n (Qan (List.replicate n 0))]:=((hH1.front 3 rfl).front 3 rfl).front 3 rfl;clear hH1 hH3;apply hK;clear hK;refine VQi [0,13,14,83,84] fun K hK=>?_;apply hK;clear hK;refine Qab ?_;refine Qac [0,13,14,83,84] (fun m e w'=>∃ (k q:Nat) (o:List UInt8),Is e [(0,Str L),(13,ptr gw),(14,.slice (some ⟨gb,0,none⟩) n n),(83,.int .i64 n),(84,.int .i64 k)]/\Heap w [] w' [arr gp n D,Res.blk gc 36 [zsl gp n],wblk gw gc q,Res.row 5 1 (some ⟨gb,0,none⟩) n n (Qan o)]/\o.length=n/\q < n/\k<=n/\o.take k++Qhe L P (n - k) q=Qhe L P n p0/\m=n - k) n ?_ ?_
 ·
  refine Qi ?_;exact ⟨0,p0,_,rfl,hH2,by simp,by omega,by omega,by simp,rfl⟩
 clear hH2;rintro m e w11 ⟨k,q,o,rfl,hH,hol,hq,hk,hgo,hm⟩;refine VQi [0,13,14,83,84,85] fun K hK=>?_;apply hK;clear hK;(repeat refine Qar ?_);refine VD (fun h=>?_) (fun h=>?_)
 ·
  obtain ⟨h1,h2⟩:=hDp q hq;generalize hq2:P.getD q 0=q2 at *;refine VC_skip ?_
  ((repeat refine Qar ?_);refine Qab ?_)
  refine VQi [0,13,14,15,83,84] fun K hK=>?_;apply hK;clear hK;refine VQi [0,13,14,83,84] fun K hK=>?_;have hc:=QFr D gp n gc gw q q2 (by omega) h1 (by omega) w w11 [] _ (by rw [sl,hD];exact hH);rw [sl,hD] at hc;refine MemK_call Tryz.call153 ?_;refine Qi ?_;refine CallK.mk hc ?_;clear hc hH;rintro v w12 ⟨hH,rfl⟩;refine Qi ?_;rw [hn];refine ⟨⟨by omega,by omega⟩,⟨by omega,by omega⟩,?_⟩;refine MemK_store ?_;refine Qi ?_;refine Qas hH 3 (o:=(k)) (vs:=[.int .u8 (L.getD q2 0).toNat]) rfl (by first | exact (Qa8 _ _ _).symm | rfl | simp [Qa8]) rfl (by kernel_rfl) (by first | omega | (simp;done) | (simp;omega) | (simp [Qan,Qap];omega) | (rw [natsV_len];simp;omega)) (by simp [Value.oneCell']) fun w6 hH2=>?_;(try refine Qi ?_);simp only [List.length_singleton,Qb2 (Qan o) _ _ (show k < (Qan o).length by rw [Qfs];omega),Qjo,List.set_cons_zero,List.set_cons_succ] at hH2;apply hK;clear hK;refine Qah ?_;refine VQi [0,13,14,83,84] fun K hK=>?_;(repeat refine Qo ?_);apply hK;clear hK;refine Qaa ?_;refine Qi ?_;refine ⟨n - (k+1),by omega,k+1,q2,o.set k (L.getD q2 0),rfl,hH2,by simp [hol],by omega,by omega,?_,rfl⟩
  have e1:(o.set k (L.getD q2 0)).take (k+1)=o.take k++[L.getD q2 0]:=by
   rw [List.take_add_one,List.getElem?_set_self (by omega),List.take_set_of_le (by omega)];rfl
  obtain ⟨j,hj⟩:∃ j,n - k=j+1:=⟨n - k - 1,by omega⟩;rw [<- hgo,e1,hj,Qhe,hq2,show n - (k+1)=j by omega];simp
 obtain rfl:k=n:=by omega
 refine Qad rfl ?_;rw [List.take_of_length_le (by omega),Nat.sub_self,Qhe,List.append_nil] at hgo;rw [<- hgo];refine VQi [4,5] fun K hK=>?_;refine ⟨o,Qgc (by rw [<- hol] at hH ⊢;exact Qao (hH.at 3 rfl)),?_⟩;apply hK;clear hK;exact VC_ret (Qat rfl rfl rfl ⟨hH.sub (by simp),rfl⟩)
def digs:Nat->Nat->List Int
 | 0,_=>[]
 | _+1,0=>[]
 | f+1,k+1=>((k % 2:Nat):Int)::digs f (k / 2)
theorem Qv2:∀ (f g k:Nat),k<=f->k<=g->digs f k=digs g k
 | 0,g,k,h,_=>by
  have:k=0:=by omega
  subst this;cases g <;> rfl
 | f+1,0,k,_,h=>by
  have:k=0:=by omega
  subst this;rfl
 | f+1,g+1,0,_,_=>rfl
 | f+1,g+1,k+1,h,h'=>by
  simp only [digs];rw [Qv2 f g (k / 2) (by omega) (by omega)]
def dig (k:Nat):List Int:=digs k k
theorem Qij:dig 0=[]:=rfl
theorem Qlq (k:Nat):dig (k+1)=((k % 2:Nat):Int)::dig (k / 2):=by
 rw [dig,digs,dig,Qv2 k (k / 2) (k / 2) (by omega) (Nat.le_refl _)]
theorem Qh1:∀ (f k:Nat),k<=f->(dig k).length<=k
 | 0,k,h=>by
  have:k=0:=by omega
  subst this;simp [Qij]
 | f+1,0,_=>by simp [Qij]
 | f+1,k+1,h=>by
  have:=Qh1 f (k / 2) (by omega);rw [Qlq,List.length_cons];omega
theorem Qyv (k:Nat) (w:World) (hk:k<=17592186044416) :
  Does Tryz.prog 75 #[.int .i64 k] w fun v w'=>∃ a cap,Heap w [] w' [Res.row 3 1 a (dig k).length cap (Qap (dig k))]/\v=.slice a (dig k).length cap:=by
 refine En [.int .i64 k] 16 Tryz.func75 ?_;refine VS [0] ?_;refine VS [0,3] ?_;refine VB ?_;refine Qac [0,3] (fun m e w'=>∃ (j cap:Nat) (a:Option Addr) (o:List Int),Is e [(0,.int .i64 j),(3,.slice a o.length cap)]/\Heap w [] w' [Res.row 3 1 a o.length cap (Qap o)]/\j<=k/\o.length+j<=k/\dig k=o++dig j/\m=j) k ?_ ?_
 ·
  refine Qs ?_;exact ⟨k,0,none,[],rfl,Heap.one (r:=Res.row 3 1 none 0 0 []) (Qr4 3 1 w) (by intro b hb;cases hb),by omega,by simp,rfl,rfl⟩
 rintro m e w2 ⟨j,cap,a,o,rfl,hH,h1,h2,h3,rfl⟩;refine VS [0,3,5] ?_;refine Qaf rfl rfl (fun hlt=>?_) (fun hge=>?_)
 ·
  simp only [decide_eq_true_eq] at hlt;refine VC_skip (Qab ?_);refine VS [0,3] ?_;refine VQ [0,3] fun K hK=>?_;refine ⟨⟨by omega,by omega⟩,⟨by decide,by decide⟩,?_⟩;rw [show Int.toNat 1=1 from rfl,Nat.and_one_is_mod];refine Qb4 (xs:=[.tmp 10]) Tryz.underlying36 sz3 rfl rfl rfl (by omega) ?_;refine Qs ?_;refine ⟨by simp [Value.cells],?_⟩;refine Qai ?_;refine Qs ?_;refine Qf0 hH 0 rfl Tryz.underlying36 zi3 (fun h=>by simp;omega) fun a' cap' w5 hc' hH4=>?_;apply hK;clear hK;refine VS [0,3] ?_;refine Qah (Qaa ?_);refine Qs ?_;obtain ⟨j,rfl⟩:∃ j,m=j+1:=⟨m - 1,by omega⟩
  have e1:(((j+1:Nat):Int) - 1) / 2 ^ shN IntKind.i64 1=((j / 2:Nat):Int):=by
   rw [show shN IntKind.i64 1=1 by decide,show (((j+1:Nat):Int) - 1)=(j:Int) by omega];omega
  rw [e1];rw [Qlq] at h3;exact ⟨j / 2,by omega,j / 2,cap',a',o++[((j % 2:Nat):Int)],rfl,hH4,by omega,by simp;omega,by rw [h3,List.append_assoc];rfl,rfl⟩
 simp only [decide_eq_false_iff_not] at hge;refine Qad rfl ?_;refine VS [2] ?_;refine VC_ret (VX_ret1 rfl rfl ?_);have:m=0:=by omega
 subst this;rw [Qij,List.append_nil] at h3;rw [h3];exact ⟨a,cap,hH,rfl⟩
def runS (k:Int):List Int×Int:=if k < 0∨2147483647 < k then ([],2) else (dig k.toNat,0)
def IntsErr (p:List Int×Int) (w:World) (v:Value) (w':World):Prop :=
 ∃ a cap,Heap w [] w' [Res.row 3 1 a p.1.length cap (Qap p.1)]/\v=.tuple #[.slice a p.1.length cap,.int .i64 p.2]
theorem IntsErr.nil {w w':World} (h:Heap w [] w' []) (e:Int):IntsErr ([],e) w (.tuple #[.slice none 0 0,.int .i64 e]) w' :=
 ⟨none,0,h.call0 (Heap.one (r:=Res.row 3 1 none 0 0 []) (Qr4 3 1 w') (by intro b hb;cases hb)),rfl⟩
def zgo (n:Int):List Int->Nat->List Int->List Int×Int
 | out,z,[]=>(out++dig z++[n+1],0)
 | out,z,v::r=>if v=0 then zgo n out (z+1) r else if v < 0∨n<=v then ([],60) else zgo n (out++dig z++[v+1]) 0 r
def zenc (n:Int) (l:List Int):List Int×Int:=if n < 1∨256 < n then ([],2) else zgo n [] 0 l
theorem QFt (n:Int) (l:List Int) (la:Option Addr) (lc:Nat) (hn:I64 n) (w:World) (hl:RS w la l.length 1 (Qap l)) (hs:l.length<=17592186044400) (hi:∀ v∈l,I64 v) :
  Does Tryz.prog 33 #[.int .i64 n,.slice la l.length lc] w (IntsErr (zenc n l) w):=by
 refine En [.int .i64 n,.slice la l.length lc] 68 Tryz.func33 ?_;refine VS [0,1] ?_;refine VQ [0,1,14] fun K hK=>?_
 have out:(n < 1∨256 < n)->K [(0,.int .i64 n),(1,.slice la l.length lc),(14,.bool true)] w:=by
  intro h;apply hK;clear hK;refine Qaf rfl rfl (fun _=>?_) (fun h=>by cases h);refine VS [4,5] ?_;refine VC_ret (Qat rfl rfl rfl ?_);rw [zenc,if_pos h];exact IntsErr.nil (Heap.start w) 2
 refine ⟨fun h1=>?_,fun h1=>out (.inl h1)⟩;by_cases h2:256 < n
 ·
  rw [decide_eq_true h2];exact out (.inr h2)
 rw [decide_eq_false h2];clear out;apply hK;clear hK;refine Qaf rfl rfl (fun h=>by cases h) (fun _=>VC_skip ?_);rw [zenc,if_neg (by omega)];refine VS [0,1,6] ?_;refine VS [0,1,6,7] ?_;(repeat refine Qar ?_);refine Qde [0,6] (fun e w'=>∃ (cap:Nat) (a:Option Addr) (o:List Int),Is e [(0,.int .i64 n),(6,.slice a o.length cap)]/\Heap w [] w' [Res.row 3 1 a o.length cap (Qap o)]/\o.length<=l.length/\zgo n [] 0 l=(o++[n+1],0)) (Qab ?_) ?_
 rotate_left
 ·
  rintro e w2 ⟨cap,a,o,rfl,hH,g1,g2⟩;refine VQ [4,5] fun K hK=>?_;(repeat first | refine Qo ?_ | refine Qp ?_);refine Qb4 (xs:=[.tmp 65]) Tryz.underlying36 sz3 rfl rfl rfl (by omega) ?_;refine Qs ?_;refine ⟨by simp [Value.cells],?_⟩;refine Qai ?_;refine Qs ?_;refine Qf0 hH 0 rfl Tryz.underlying36 zi3 (fun h=>by (first | omega | (simp;done) | (simp;omega))) fun a' cap' w5 hc' hH6=>?_;(try refine Qs ?_);apply hK;clear hK;refine VC_ret (Qat rfl rfl rfl ?_);rw [g2];exact ⟨_,_,hH6,rfl⟩
 refine Qac [0,1,6,7] (fun m e w'=>∃ (i cap:Nat) (a:Option Addr) (o:List Int),Is e [(0,.int .i64 n),(1,.slice la l.length lc),(6,.slice a o.length cap),(7,.int .i64 i)]/\Heap w [] w' [Res.row 3 1 a o.length cap (Qap o)]/\i<=l.length/\o.length<=i/\zgo n [] 0 l=zgo n o 0 (l.drop i)/\m=l.length - i) l.length ?_ ?_
 ·
  refine Qs ?_;exact ⟨0,0,none,[],rfl,Qjp,by omega,by simp,rfl,rfl⟩
 rintro m e w2 ⟨i,cap,a,o,rfl,hH,g1,g2,g3,rfl⟩;refine VS [0,1,6,7,18] ?_;refine VD (fun h=>?_) (fun h=>?_)
 ·
  refine VC_skip ?_;refine Qab ?_;refine Qr8 ?_;refine VS [0,1,6,7,8] ?_;(repeat refine Qar ?_);refine Qrx ?_;(repeat refine Qar ?_);refine Qde [0,1,6,7,8] (fun e w'=>∃ j z:Nat,Is e [(0,.int .i64 n),(1,.slice la l.length lc),(6,.slice a o.length cap),(7,.int .i64 j),(8,.int .i64 z)]/\Is w' w2/\j<=l.length/\i<=j/\z=j - i/\zgo n [] 0 l=zgo n o z (l.drop j)/\(j < l.length->l.getD j 0≠0)) ?_ ?_
  ·
   refine Qab ?_;refine Qac [0,1,6,7,8] (fun m e w'=>∃ (j z:Nat),Is e [(0,.int .i64 n),(1,.slice la l.length lc),(6,.slice a o.length cap),(7,.int .i64 j),(8,.int .i64 z)]/\Is w' w2/\j<=l.length/\i<=j/\z=j - i/\zgo n [] 0 l=zgo n o z (l.drop j)/\m=l.length - j) (l.length - i) ?_ ?_
   ·
    refine Qs ?_;exact ⟨i,0,rfl,rfl,g1,by omega,by omega,g3,rfl⟩
   rintro m e w' ⟨j,z,rfl,rfl,k1,k2,k3,k4,rfl⟩;refine VS [0,1,6,7,8,22] ?_;refine VD (fun h=>?_) (fun h=>?_)
   ·
    refine VC_skip ?_;refine Qab ?_;obtain ⟨p,rfl⟩:=Qbb hl (by omega);have hl2:=hH.rs' hl;refine VQ [0,1,6,7,8,27] fun K hK=>?_;refine ⟨⟨by omega,by omega⟩,_,Qhc hl2 (show j < l.length by omega),?_⟩;refine Qs ?_;apply hK;clear hK;have k4':=k4;rw [drop_getD 0 (by omega),zgo] at k4;refine Vi (fun h=>?_) (fun h=>?_)
    ·
     simp only [decide_eq_true_eq] at h;refine Qad rfl ?_;refine Qaa ?_;refine Qs ?_;exact ⟨j,z,rfl,rfl,k1,k2,k3,k4',fun _=>h⟩
    simp only [decide_eq_false_iff_not,Decidable.not_not] at h;rw [if_pos h] at k4;refine VC_skip ?_;refine VS [0,1,6,7,8] ?_;refine VS [0,1,6,7,8] ?_;refine Qah ?_;refine Qaa ?_;refine Qs ?_;exact ⟨l.length - (j+1),by omega,j+1,z+1,rfl,rfl,by omega,by omega,by omega,k4,rfl⟩
   refine Qad rfl ?_;refine Qaa ?_;refine Qs ?_;exact ⟨j,z,rfl,rfl,k1,k2,k3,k4,fun h'=>by omega⟩
  rintro e w' ⟨j,z,rfl,rfl,k1,k2,k3,k4,k5⟩;have hdl:=Qh1 z z (Nat.le_refl _);refine VQ [0,1,6,7] fun K hK=>?_;refine MemK_call Tryz.call75 ?_;refine Qs ?_;refine CallK.mk (Qyv z w' (by omega)) ?_;rintro v w2 ⟨a2,c2,hH2,rfl⟩;have hH3:=hH.call0 hH2;refine Qai ?_;refine Qs ?_;refine Qch hH3 1 rfl Tryz.underlying36 zi3 (t:=dig z) (by simp) (Qao (hH2.at 0 rfl)) (fun h=>by (first | omega | (simp;done) | (simp;omega))) fun a' cap' w5 hc' hH4=>?_;(try refine Qs ?_);apply hK;clear hK;have hol:(o++dig z).length<=j:=by simp;omega
  refine VS [0,1,6,7,39] ?_;refine VD (fun h=>?_) (fun h=>?_)
  ·
   refine Qad rfl (Qaa ?_);refine Qs ?_;rw [List.drop_of_length_le (by omega),zgo] at k4;exact ⟨_,_,_,rfl,hH4.sub (by simp),by omega,k4⟩
  refine VC_skip ?_;obtain ⟨p,rfl⟩:=Qbb hl (by omega);have hl2:=hH4.rs' hl;have hc:=Qhc hl2 (show j < l.length by omega);have hj:=k5 (by omega);rw [drop_getD 0 (by omega),zgo,if_neg hj] at k4;have hr:=hi _ (Qaz 0 (show j < l.length by omega));generalize l.getD j 0=v at *;obtain ⟨hr1,hr2⟩:=hr;refine VQ [0,1,6,7,52] fun K hK=>?_;refine ⟨⟨by omega,by omega⟩,_,hc,?_⟩;refine Qs ?_
  have out:(v < 0∨n<=v)->K [(0,.int .i64 n),(1,.slice (some p) l.length lc),(6,.slice a' (o++dig z).length cap'),(7,.int .i64 j),(52,.bool true)] w5:=by
   intro h;apply hK;clear hK;refine Qaf rfl rfl (fun _=>?_) (fun h=>by cases h);refine VS [4,5] ?_;refine VC_ret (Qat rfl rfl rfl ?_);rw [k4,if_pos h];exact IntsErr.nil (hH4.sub (by simp)) 60
  refine ⟨fun f1=>⟨⟨by omega,by omega⟩,_,hc,?_⟩,fun f1=>out (.inl f1)⟩;refine Qs ?_;by_cases f2:n<=v
  ·
   rw [decide_eq_true f2];exact out (.inr f2)
  rw [decide_eq_false f2];clear out;rw [if_neg (by omega)] at k4;apply hK;clear hK;refine Qaf rfl rfl (fun h=>by cases h) (fun _=>VC_skip ?_);refine VQ [0,1,6,7] fun K hK=>?_;refine ⟨⟨by omega,by omega⟩,_,hc,?_⟩;refine Qs ?_;(repeat first | refine Qo ?_ | refine Qp ?_);refine Qb4 (xs:=[.tmp 58]) Tryz.underlying36 sz3 rfl rfl rfl (by omega) ?_;refine Qs ?_;refine ⟨by simp [Value.cells],?_⟩;refine Qai ?_;refine Qs ?_;refine Qf0 hH4 1 rfl Tryz.underlying36 zi3 (fun h=>by (first | omega | (simp;done) | (simp;omega))) fun a' cap' w5 hc' hH6=>?_;(try refine Qs ?_);apply hK;clear hK;refine VS [0,1,6,7] ?_;refine Qah ?_;refine Qaa ?_;refine Qs ?_;exact ⟨l.length - (j+1),by omega,j+1,_,_,_,rfl,hH6.sub (by simp),by omega,by simp at hol ⊢;omega,k4,rfl⟩
 refine Qad rfl (Qaa ?_);refine Qs ?_;rw [List.drop_of_length_le (by omega),zgo,Qij,List.append_nil] at g3;exact ⟨_,_,_,rfl,hH,by omega,g3⟩
def zend (n:Int) (out:List Int):List Int->List Int×Int
 | []=>(out,0)
 | x::_=>if x < 0∨n+1 < x then ([],60) else ([],70)
def zdec (n most:Int):List Int->Nat->List Int->List Int×Int
 | _,_,[]=>([],70)
 | out,wt,s::r=>if s < 0∨n+1 < s then ([],60)
  else if s < 2 then (if most - out.length < (s+1) * wt then ([],3) else zdec n most (out++List.replicate ((s+1) * wt).toNat 0) (2 * wt) r)
  else if s=n+1 then zend n out r
  else if most<=out.length then ([],3) else zdec n most (out++[s - 1]) 1 r
def Qeo (n most:Int) (l:List Int):List Int×Int:=if n < 1∨256 < n∨most < 0∨262144 < most then ([],2) else zdec n most [] 1 l
theorem Qyw (n s:Int) (hn:I64 n) (hn2:n<=256) (hs:I64 s) (w:World):Does Tryz.prog 151 #[.int .i64 n,.int .i64 s] w fun v w'=>w'=w/\v=.int .i64 (if s < 0∨n+1 < s then 60 else 70):=by
 obtain ⟨hn1,hn3⟩:=hn;refine En [.int .i64 n,.int .i64 s] 13 Tryz.func151 ?_;refine VS [0,1] ?_;by_cases hn4:n=-9223372036854775808
 all_goals
  refine VQ [12] fun K hK=>?_
  suffices out:∀ b:Bool,(b=true ↔ s < 0∨n+1 < s)->K [(12,.bool b)] w by (repeat' (first | exact out _ _ (by first | omega | (simp;done) | (simp;omega)) | exact out _ (by first | omega | (simp;done) | (simp;omega)) | refine ⟨fun _=>?_,fun _=>?_⟩ | refine Qo ?_))
  intro b hb;apply hK;clear hK;refine Vi (fun h=>?_) (fun h=>VC_skip ?_)
  ·
   refine VS [4] ?_;refine VC_ret (VX_ret1 rfl rfl ⟨rfl,?_⟩);rw [if_pos (hb.1 h)]
  refine VS [4] ?_;refine VC_ret (VX_ret1 rfl rfl ⟨rfl,?_⟩);rw [if_neg (fun h'=>by rw [hb.2 h'] at h;cases h)]
theorem intsV_zero (m:Nat):List.replicate m (Value.int .i64 0)=Qap (List.replicate m 0):=by simp [Qap]
def lead (b:UInt8):List UInt8->Nat
 | []=>0
 | c::l=>if c=b then lead b l+1 else 0
def Qfm:List UInt8->Nat
 | []=>0
 | b::l=>min 255 (lead b l+1)
def Qeb (n:Nat) (l:List UInt8):List UInt8:=if n < 4 then l.take n else l.take 4++[UInt8.ofNat (n - 4)]
def encF:Nat->List UInt8->List UInt8
 | 0,_=>[]
 | _,[]=>[]
 | f+1,b::l=>Qeb (Qfm (b::l)) (b::l)++encF f ((b::l).drop (Qfm (b::l)))
def enc (l:List UInt8):List UInt8:=encF l.length l
theorem QFu (b:UInt8) (l:List UInt8):∀ n,(∀ j,j < n->l[j]? = some b)->(l[n]? ≠ some b)->lead b l=n:=by
 induction l with
 | nil =>
  intro n h1 _;cases n with
  | zero=>rfl
  | succ n=>have:=h1 0 (by omega);simp at this
 | cons c l ih =>
  intro n h1 h2;cases n with
  | zero =>
   have:¬ c=b:=by simpa using h2
   simp [lead,this]
  | succ n =>
   have:c=b:=by simpa using h1 0 (by omega)
   simp only [lead,this,if_true];rw [ih n (fun j hj=>by simpa using h1 (j+1) (by omega)) (by simpa using h2)]
theorem QM7 (b:UInt8) (l:List UInt8):∀ n,(∀ j,j < n->l[j]? = some b)->n<=lead b l:=by
 induction l with
 | nil =>
  intro n h1;cases n with
  | zero=>omega
  | succ n=>have:=h1 0 (by omega);simp at this
 | cons c l ih =>
  intro n h1;cases n with
  | zero=>omega
  | succ n =>
   have:c=b:=by simpa using h1 0 (by omega)
   simp only [lead,this,if_true];have:=ih n (fun j hj=>by simpa using h1 (j+1) (by omega));omega
theorem QM8 (b:UInt8) (l:List UInt8):lead b l<=l.length:=by
 induction l with
 | nil=>simp [lead]
 | cons c l ih=>simp only [lead];split <;> simp <;> omega
theorem QIr (b:UInt8) (l:List UInt8):l[lead b l]? ≠ some b:=by
 induction l with
 | nil=>simp [lead]
 | cons c l ih =>
  simp only [lead];split
  ·
   simpa using ih
  rename_i hc;simpa using hc
def Same (l:List UInt8) (i n:Nat):Prop:=∀ j,j < n->l[i+j]? = l[i]?
theorem QAm (l:List UInt8) (i n:Nat) (hi:i < l.length) (h1:1<=n) (h2:n<=255) (hs:Same l i n) (he:n=255∨l[i+n]? ≠ l[i]?):Qfm (l.drop i)=n:=by
 have hd:l.drop i=l[i]::l.drop (i+1):=List.drop_eq_getElem_cons hi;rw [hd];simp only [Qfm];have hg:l[i]? = some l[i]:=List.getElem?_eq_getElem hi
 have hj:∀ j,j < n - 1->(l.drop (i+1))[j]? = some l[i]:=fun j hj=>by
  rw [List.getElem?_drop,show i+1+j=i+(j+1) by omega,hs (j+1) (by omega),hg]
 rcases he with he | he
 ·
  have:=QM7 _ _ _ hj;omega
 have:=QFu l[i] (l.drop (i+1)) (n - 1) hj (by rw [List.getElem?_drop,show i+1+(n - 1)=i+n by omega,<- hg];exact he);omega
theorem Qf7 (l:List UInt8) (h:l≠[]):1<=Qfm l:=by
 cases l with
 | nil=>exact absurd rfl h
 | cons b l=>simp only [Qfm];omega
theorem Qjy (l:List UInt8):Qfm l<=l.length/\Qfm l<=255:=by
 cases l with
 | nil=>simp [Qfm]
 | cons b l=>have:=QM8 b l;simp only [Qfm,List.length_cons];omega
theorem Qo4 (l:List UInt8) (h:l≠[]) (f:Nat):encF (f+1) l=Qeb (Qfm l) l++encF f (l.drop (Qfm l)):=by
 cases l with
 | nil=>exact absurd rfl h
 | cons b l=>rfl
theorem QFv:∀ (f g:Nat) (l:List UInt8),l.length<=f->l.length<=g->encF f l=encF g l:=by
 intro f
 induction f with
 | zero =>
  intro g l hf _;have:l=[]:=List.eq_nil_of_length_eq_zero (by omega);subst this;cases g <;> rfl
 | succ f ih =>
  intro g l hf hg;by_cases hl:l=[]
  ·
   subst hl;cases g <;> rfl
  cases g with
  | zero=>exact absurd (List.eq_nil_of_length_eq_zero (by omega)) hl
  | succ g =>
   rw [Qo4 l hl,Qo4 l hl];have:=Qf7 l hl;rw [ih g _ (by simp;omega) (by simp;omega)]
theorem Qik (l:List UInt8) (h:l≠[]):enc l=Qeb (Qfm l) l++enc (l.drop (Qfm l)):=by
 have hp:0 < l.length:=List.length_pos_iff.2 h;have hr:=Qf7 l h;unfold enc;rw [show l.length=(l.length - 1)+1 by omega,Qo4 l h];rw [QFv (l.length - 1) (l.drop (Qfm l)).length _ (by simp;omega) (Nat.le_refl _)]
theorem Qo5:enc []=[]:=rfl
theorem Qdb (n:Nat) (l:List UInt8) (h:n<=l.length):(Qeb n l).length=if n < 4 then n else 5:=by
 unfold Qeb;split <;> simp <;> omega
theorem Qgo (l:List UInt8):(enc l).length<=l.length+l.length / 4:=by
 induction hn:l.length using Nat.strongRecOn generalizing l with
 | _ n ih =>
  subst hn;by_cases hl:l=[]
  ·
   subst hl;simp [Qo5]
  rw [Qik l hl];have h1:=Qf7 l hl;have h2:=(Qjy l).1;have:=ih (l.drop (Qfm l)).length (by simp;omega) _ rfl;rw [List.length_append,Qdb _ _ h2];simp only [List.length_drop] at this;split <;> omega
theorem Qil {l:List UInt8}{i j:Nat} (hi:i < l.length) (hj:j < l.length):(((l.getD i 0).toNat:Int)=((l.getD j 0).toNat:Int)) ↔ l[i]? = l[j]? := by
 rw [List.getElem?_eq_getElem hi,List.getElem?_eq_getElem hj,List.getD_eq_getElem?_getD,List.getD_eq_getElem?_getD,List.getElem?_eq_getElem hi,List.getElem?_eq_getElem hj];simp only [Option.getD_some,Option.some.injEq];exact ⟨fun h=>UInt8.toNat_inj.1 (by omega),fun h=>by rw [h]⟩
theorem QIs (l:List UInt8) (i:Nat) (w:World) (hi:i < l.length) (hs:l.length<=1000000000000000000) :
  Does Tryz.prog 60 #[Str l,.int .i64 i] w fun v w'=>w'=w/\v=.int .i64 (Qfm (l.drop i)):=by
 refine En [Str l,.int .i64 i] 30 Tryz.func60 ?_;refine VS [0,1] ?_;refine VS [0,1,5] ?_;refine VB ?_;refine Qac [0,1,5] (fun m e w'=>∃ n:Nat,Is e [(0,Str l),(1,.int .i64 i),(5,.int .i64 n)]/\Is w' w/\1<=n/\n<=255/\Same l i n/\m=255 - n) 254 ?_ ?_
 ·
  refine Qs ?_;exact ⟨1,rfl,rfl,by omega,by omega,fun j hj=>by rw [show j=0 by omega];rfl,rfl⟩
 rintro m e w' ⟨n,rfl,rfl,h1,h2,h3,rfl⟩;refine Vq [0,1,5,26] fun K hK=>?_
 have done:(n=255∨l[i+n]? ≠ l[i]?)->K [(0,Str l),(1,Value.int IntKind.i64 i),(5,Value.int IntKind.i64 n),(26,Value.bool false)]:=by
  intro hend;apply hK;clear hK;refine Qaf rfl rfl (fun h=>by cases h) (fun _=>?_);refine Qad rfl ?_;refine VS [4] ?_;refine VC_ret (VX_ret1 rfl rfl ⟨rfl,?_⟩);rw [QAm l i n hi h1 h2 h3 hend]
 refine ⟨fun g1=>⟨I64.mk (by omega) (by omega),fun g2=>⟨I64.mk (by omega) (by omega),by omega,by omega,?_⟩,fun g2=>done (.inr ?_)⟩,fun g1=>done (.inl (by omega))⟩
 ·
  by_cases hc:l[i+n]? = l[i]?
  ·
   (apply hK;clear hK)
   refine Vi (fun h=>?_) (fun h=>?_)
   ·
    refine VC_skip (Qab ?_);refine VS [0,1,5] ?_;refine Qah (Qaa ?_);refine Qs ?_;refine ⟨255 - (n+1),by omega,n+1,rfl,rfl,by omega,by omega,?_,rfl⟩;intro j hj;by_cases hjn:j=n
    ·
     rw [hjn];exact hc
    exact h3 j (by omega)
   exfalso;simp only [decide_eq_false_iff_not] at h;rw [Qil (by omega) hi] at h;exact h hc
  have e:decide ((((l.getD (i+n) 0).toNat:Nat):Int)=(((l.getD i 0).toNat:Nat):Int))=false:=by
   rw [decide_eq_false_iff_not,Qil (by omega) hi];exact hc
  rw [e];exact done (.inr hc)
 rw [List.getElem?_eq_none (by omega),List.getElem?_eq_getElem hi];simp
theorem QIt (l:List UInt8) (w:World) (hs:l.length<=140737488355328) :
  Does Tryz.prog 22 #[Str l] w fun v w'=>Heap w [] w' []/\v=Str (enc l):=by
 refine En [Str l] 48 Tryz.func22 ?_;refine VS [0] ?_;refine VQ [0,3] fun K hK=>?_;refine ⟨by omega,by omega,I64.mk (by omega) (by omega),I64.mk (by omega) (by omega),?_⟩;refine Qba Tryz.underlying43 zi5 ?_;refine Qs ?_;refine ⟨0,l.length+l.length / 4,⟨rfl,rfl,by omega,by omega,by omega⟩,?_⟩;have hH:=(Heap.start w).row 5 (n:=0) (cap:=l.length+l.length / 4) (sz:=1) [] (List.replicate (l.length+l.length / 4) (.int .u8 0)) (by simp) (by simp) (by omega) (by omega);simp only [List.nil_append] at hH;generalize w.alloc (Obj.cells (List.replicate (l.length+l.length / 4) (Value.int IntKind.u8 0)).toArray 5)=w1 at hH ⊢;generalize (some ⟨w.heap.size,0,none⟩:Option Addr)=a at hH ⊢;apply hK;clear hK;refine VS [0,3,4] ?_;refine VB ?_;refine Qac [0,3,4] (fun m e w'=>∃ (i:Nat) (o:List UInt8),Is e [(0,Str l),(3,.slice a o.length (l.length+l.length / 4)),(4,.int .i64 i)]/\Heap w [] w' [Res.row 5 1 a o.length (l.length+l.length / 4) (Qan o)]/\i<=l.length/\enc l=o++enc (l.drop i)/\o.length<=i+i / 4/\m=l.length - i) l.length ?_ ?_
 ·
  refine Qs ?_;exact ⟨0,[],rfl,hH,by omega,rfl,by simp,rfl⟩
 rintro m e w2 ⟨i,o,rfl,hH,h1,h2,h3,rfl⟩;refine VS [0,3,4,16] ?_;refine Qaf rfl rfl (fun hlt=>?_) (fun hge=>?_)
 ·
  simp only [decide_eq_true_eq] at hlt;refine VC_skip (Qab ?_);have hn1:1<=Qfm (l.drop i):=Qf7 _ (by intro h;have:=congrArg List.length h;simp at this;omega);have hn2:=Qjy (l.drop i);rw [List.length_drop] at hn2;have hstep:=Qik (l.drop i) (by intro h;have:=congrArg List.length h;simp at this;omega);rw [List.drop_drop] at hstep;refine VQ [0,3,4,5] fun K hK=>?_;refine MemK_call Tryz.call60 ?_;refine Qs ?_;refine CallK.mk (QIs l i w2 (by omega) (by omega)) ?_;rintro v w' ⟨rfl,rfl⟩;apply hK;clear hK;generalize hn:Qfm (l.drop i)=n at hn1 hn2 hstep ⊢;refine VS [0,3,4,5,21] ?_;refine Qde [0,3,4,5] (fun e w3=>Is e [(0,Str l),(3,.slice a (o++Qeb n (l.drop i)).length (l.length+l.length / 4)),(4,.int .i64 i),(5,.int .i64 n)]/\Heap w [] w3 [Res.row 5 1 a (o++Qeb n (l.drop i)).length (l.length+l.length / 4) (Qan (o++Qeb n (l.drop i)))]) ?_ ?_
  ·
   refine Qaf rfl rfl (fun hn4=>?_) (fun hn4=>?_)
   ·
    simp only [decide_eq_true_eq] at hn4;refine VQ [0,3,4,5] fun K hK=>?_;refine ⟨I64.mk (by omega) (by omega),by omega,?_⟩;refine Qai ?_;refine Qs ?_
    have e:Qeb n (l.drop i)=List.take (i+n - i) (List.drop i l):=by
     rw [Qeb,if_pos (by omega)];congr 1;omega
    rw [<- e]
    have el:(o++Qeb n (l.drop i)).length<=l.length+l.length / 4:=by
     rw [List.length_append,Qdb _ _ (by simp;omega),if_pos (by omega)];omega
    refine Qzn hH 0 rfl Tryz.underlying43 zi5 Tryz.underlying9 (fun h=>by omega) fun a' cap' w' hc hH=>?_;obtain ⟨rfl,rfl⟩:=hc el;apply hK;clear hK;refine Qaa ?_;refine Qs ?_;exact ⟨rfl,hH⟩
   simp only [decide_eq_false_iff_not] at hn4
   have e:Qeb n (l.drop i)=List.take (i+4 - i) (List.drop i l)++[UInt8.ofNat (n - 4)]:=by
    rw [Qeb,if_neg (by omega)];congr 2;omega
   have el:(o++Qeb n (l.drop i)).length<=l.length+l.length / 4:=by
    rw [List.length_append,Qdb _ _ (by simp;omega),if_neg (by omega)];omega
   rw [e,<- List.append_assoc] at el ⊢;generalize ht:List.take (i+4 - i) (List.drop i l)=t at el ⊢;have el2:(o++t).length<=l.length+l.length / 4:=by simp at el ⊢;omega
   refine VQ [0,3,4,5] fun K hK=>?_;refine ⟨I64.mk (by omega) (by omega),by omega,?_⟩;refine Qai ?_;refine Qs ?_;rw [ht];refine Qzn hH 0 rfl Tryz.underlying43 zi5 Tryz.underlying9 (fun h=>by omega) fun a' cap' w' hc hH=>?_;obtain ⟨rfl,rfl⟩:=hc el2;apply hK;clear hK;refine VQ [0,3,4,5] fun K hK=>?_;refine ⟨I64.mk (by omega) (by omega),?_⟩;refine Qb4 (xs:=[.tmp 40]) Tryz.underlying43 sz5 rfl rfl rfl (by omega) ?_;refine Qs ?_;refine ⟨by simp [Value.cells],?_⟩;refine Qai ?_;refine Qs ?_;refine Qgu hH 0 (UInt8.ofNat (n - 4)) rfl Tryz.underlying43 zi5 (by simp;omega) (fun h=>by omega) fun a' cap' w' hc hH=>?_;obtain ⟨rfl,rfl⟩:=hc el;apply hK;clear hK;refine Qaa ?_;refine Qs ?_;exact ⟨rfl,hH⟩
  rintro e w3 ⟨rfl,hH⟩;refine VS [0,3,4] ?_;refine Qah (Qaa ?_);refine Qs ?_;refine ⟨l.length - (i+n),by omega,i+n,o++Qeb n (l.drop i),rfl,hH,by omega,?_,?_,rfl⟩
  ·
   rw [h2,hstep,List.append_assoc]
  rw [List.length_append,Qdb _ _ (by simp;omega)];split <;> omega
 simp only [decide_eq_false_iff_not] at hge;refine Qad rfl ?_;refine VQ [2] fun K hK=>?_;refine ⟨o,hH.readsBytes 0 rfl,?_⟩;apply hK;clear hK;refine VC_ret (VX_ret1 rfl rfl ⟨hH.sub (by simp),?_⟩);rw [h2,List.drop_of_length_le (by omega),Qo5,List.append_nil]
theorem Qs9 {α:Type}{l:List α} (h:0 < l.length):l≠[]:=by intro h';rw [h'] at h;simp at h
theorem QFw (l:List UInt8) (w:World) (hs:l.length<=140737488355328) :
  Does Tryz.prog 88 #[Str l] w fun v w'=>Heap w [] w' []/\v=Str (enc l):=by
 refine En [Str l] 47 Tryz.func88 ?_;refine VS [0] ?_;refine VS [0,3] ?_;refine VB ?_;refine Qac [0,3] (fun m e w'=>∃ (s o:List UInt8),Is e [(0,Str s),(3,Str o)]/\Heap w [] w' []/\enc l=o++enc s/\s.length<=l.length/\m=s.length) l.length ?_ ?_
 ·
  refine Qs ?_;exact ⟨l,[],rfl,Heap.start w,rfl,Nat.le_refl _,rfl⟩
 rintro m e w1 ⟨s,o,rfl,hH,h1,h2,rfl⟩;have hel:=Qgo l;have hol:o.length<=(enc l).length:=by rw [h1];simp
 refine VS [0,3,7] ?_;refine Qaf rfl rfl (fun hlt=>?_) (fun hge=>?_)
 ·
  simp only [decide_eq_true_eq] at hlt;refine VC_skip (Qab ?_);have hs0:s≠[]:=Qs9 (by omega);refine VS [0,3,4] ?_;refine VB ?_;refine Qac [0,3,4] (fun m e w'=>∃ n:Nat,Is e [(0,Str s),(3,Str o),(4,.int .i64 n)]/\Is w' w1/\1<=n/\n<=255/\n<=s.length/\Same s 0 n/\m=255 - n) 254 ?_ ?_
  ·
   refine Qs ?_;exact ⟨1,rfl,rfl,by omega,by omega,by omega,fun j hj=>by rw [show j=0 by omega],rfl⟩
  rintro m e w' ⟨n,rfl,rfl,g1,g2,g3,g4,rfl⟩;refine Vq [0,3,4,23] fun K hK=>?_
  have done:(n=255∨s[0+n]? ≠ s[0]?)->K [(0,Str s),(3,Str o),(4,Value.int IntKind.i64 n),(23,Value.bool false)]:=by
   intro hend;apply hK;clear hK;refine Qaf rfl rfl (fun h=>by cases h) (fun _=>?_);refine Qad rfl ?_;have hrun:=QAm s 0 n (by omega) g1 g2 g4 hend;rw [List.drop_zero] at hrun;have hstep:=Qik s hs0;rw [hrun] at hstep;have htot:(o++Qeb n s).length<=(enc l).length:=by rw [h1,hstep];(first | omega | (simp;done) | (simp;omega))
   have hrl:=Qdb n s g3;refine VS [0,3,4,27] ?_;refine Qde [0,3,4] (fun e w3=>Is e [(0,Str s),(3,Str (o++Qeb n s)),(4,.int .i64 n)]/\Heap w [] w3 []) ?_ ?_
   ·
    refine Qaf rfl rfl (fun hn4=>?_) (fun hn4=>?_)
    ·
     simp only [decide_eq_true_eq] at hn4;rw [if_pos (by omega)] at hrl;refine VQ [0,3,4] fun K hK=>?_;refine ⟨by omega,by (first | omega | (simp;done) | (simp;omega)),?_⟩;have e:Qeb n s=List.take n s:=by rw [Qeb,if_pos (by omega)]
     rw [<- e];apply hK;clear hK;refine Qaa ?_;refine Qs ?_;exact ⟨rfl,hH⟩
    simp only [decide_eq_false_iff_not] at hn4;rw [if_neg (by omega)] at hrl;have e:Qeb n s=List.take 4 s++[UInt8.ofNat (n - 4)]:=by rw [Qeb,if_neg (by omega)]
    refine VH _ (Ext.refl _) [0,3,4] [(0,true),(1,true),(2,true),(3,true),(4,true),(5,true),(6,true),(7,false),(8,false),(9,false),(10,false)] fun K hK=>?_;refine ⟨by omega,by (first | omega | (simp;done) | (simp;omega)),I64.mk (by omega) (by omega),?_⟩;refine Qb4 (xs:=[.tmp 39]) Tryz.underlying43 sz5 rfl rfl rfl (by omega) ?_;refine Qs ?_;refine ⟨by simp [Value.cells],?_⟩;have hH':=hH.row 5 (n:=1) (cap:=1) (sz:=1) [Value.int .u8 ((↑n - 4) % 256)] [] (by simp) (by simp) (by omega) (by omega);simp only [List.append_nil] at hH'
    have hb:[Value.int .u8 ((↑n - 4) % 256)]=Qan [UInt8.ofNat (n - 4)]:=by
     simp [Qan];omega
    rw [hb] at hH' ⊢;refine ⟨Ext.alloc _ _,[UInt8.ofNat (n - 4)],hH'.readsBytes 0 rfl,?_,?_⟩
    ·
     simp;omega
    rw [show (4:Int).toNat=4 from rfl,List.append_assoc,<- e];apply hK;clear hK;refine Qaa ?_;refine Qs ?_;exact ⟨rfl,hH'.sub (by simp)⟩
   rintro e w3 ⟨rfl,hH⟩;refine VS [0,3] ?_;refine Qah (Qaa ?_);refine Qs ?_;refine ⟨(s.drop n).length,by (first | omega | (simp;done) | (simp;omega)),s.drop n,o++Qeb n s,rfl,hH,?_,by (first | omega | (simp;done) | (simp;omega)),rfl⟩;rw [h1,hstep,List.append_assoc]
  refine ⟨fun k1=>⟨fun k2=>⟨by omega,by omega,?_⟩,fun k2=>done (.inl (by omega))⟩,fun k1=>?_⟩
  ·
   by_cases hc:s[0+n]? = s[0]?
   ·
    (apply hK;clear hK)
    refine Vi (fun h=>?_) (fun h=>?_)
    ·
     refine VC_skip (Qab ?_);refine VS [0,3,4] ?_;refine Qah (Qaa ?_);refine Qs ?_;refine ⟨255 - (n+1),by omega,n+1,rfl,rfl,by omega,by omega,by omega,?_,rfl⟩;intro j hj;by_cases hjn:j=n
     ·
      rw [hjn];exact hc
     exact g4 j (by omega)
    exfalso;simp only [decide_eq_false_iff_not] at h;rw [show (0:Int).toNat=0 from rfl,Qil (by omega) (by omega)] at h;exact h (by simpa using hc)
   have e:decide ((((s.getD n 0).toNat:Nat):Int)=(((s.getD (0:Int).toNat 0).toNat:Nat):Int))=false:=by
    rw [decide_eq_false_iff_not,show (0:Int).toNat=0 from rfl,Qil (by omega) (by omega)];simpa using hc
   rw [e];exact done (.inr hc)
  exact done (.inr (by rw [List.getElem?_eq_none (by omega),List.getElem?_eq_getElem (by omega)];simp))
 simp only [decide_eq_false_iff_not] at hge;refine Qad rfl ?_;refine VS [2] ?_;refine VC_ret (VX_ret1 rfl rfl ⟨hH,?_⟩);rw [h1,List.eq_nil_of_length_eq_zero (show s.length=0 by omega),Qo5,List.append_nil]
def decS:List UInt8->Nat->List UInt8->List UInt8×Int
 | out,same,[]=>if same=4 then ([],30) else (out,0)
 | out,same,c::s =>
  if same=4 then (if 262144 < out.length+c.toNat then ([],3) else decS (out++List.replicate c.toNat (out.getLastD 0)) 0 s)
  else if out.length=262144 then ([],3) else decS (out++[c]) (if 0 < same/\out.getLastD 0=c then same+1 else 1) s
def Tail (out:List UInt8) (k:Nat):Prop:=k<=out.length/\∀ j,j < k->out[out.length - 1 - j]? = some (out.getLastD 0)
theorem Tail.zero (out:List UInt8):Tail out 0:=⟨Nat.zero_le _,fun j hj=>by omega⟩
theorem Tail.one (out:List UInt8) (c:UInt8):Tail (out++[c]) 1:=⟨by simp,fun j hj=>by rw [show j=0 by omega];simp [List.getLastD_eq_getLast?]⟩
theorem Tail.succ {out:List UInt8}{k:Nat}{c:UInt8} (h:Tail out k) (hc:out.getLastD 0=c):Tail (out++[c]) (k+1):=by
 refine ⟨by have:=h.1;simp;omega,fun j hj=>?_⟩;have e:(out++[c]).getLastD 0=c:=by simp [List.getLastD_eq_getLast?]
 rw [e];cases j with
 | zero=>simp
 | succ j =>
  have h1:=h.2 j (by omega);have hk:=h.1;rw [List.getElem?_append_left (by simp;omega)];rw [show (out++[c]).length - 1 - (j+1)=out.length - 1 - j by simp;omega,h1,hc]
theorem Tail.drop {out:List UInt8}{k:Nat} (h:Tail out k):out.drop (out.length - k)=List.replicate k (out.getLastD 0):=by
 apply List.ext_getElem?;intro j;rw [List.getElem?_drop,List.getElem?_replicate];split
 ·
  rename_i hj;have:=h.2 (k - 1 - j) (by omega);have hk:=h.1;rw [show out.length - k+j=out.length - 1 - (k - 1 - j) by omega,this]
 rename_i hj;have hk:=h.1;rw [List.getElem?_eq_none (by omega)]
theorem QFx (out:List UInt8) (same:Nat) (c:UInt8) (s:List UInt8):decS out same (c::s) =
  if same=4 then (if 262144 < out.length+c.toNat then ([],3) else decS (out++List.replicate c.toNat (out.getLastD 0)) 0 s)
  else if out.length=262144 then ([],3) else decS (out++[c]) (if 0 < same/\out.getLastD 0=c then same+1 else 1) s:=rfl
def QJn (w:World) (l:List UInt8) (m:Nat) (e:Env) (w':World):Prop :=
 ∃ (i same cap:Nat) (a:Option Addr) (out:List UInt8),Is e [(0,Str l),(4,.slice a out.length cap),(5,.int .i64 same),(6,.int .i64 i)]/\Heap w [] w' [Res.row 5 1 a out.length cap (Qan out)]/\i<=l.length/\out.length<=262144/\same<=4/\Tail out same/\decS [] 0 l=decS out same (l.drop i)/\m=l.length - i
theorem QM9 (m c k:Nat) (b:UInt8) (hk:m+k<=c) (ms:List UInt8) (hm:ms.length=c) (hp:ms.take m=List.replicate m b) :
  (ms.take m++List.replicate k b++ms.drop (m+k)).length=c/\(ms.take m++List.replicate k b++ms.drop (m+k)).take (m+k)=List.replicate (m+k) b:=by
 refine ⟨by simp;omega,?_⟩;rw [hp,List.replicate_append_replicate,List.take_left' (by simp)]
theorem bytesV_take (l:List UInt8) (k:Nat):(Qan l).take k=Qan (l.take k):=by simp [Qan]
theorem bytesV_drop (l:List UInt8) (k:Nat):(Qan l).drop k=Qan (l.drop k):=by simp [Qan]
theorem bytesV_zero (n:Nat):List.replicate n (Value.int .u8 0)=Qan (List.replicate n 0):=by simp [Qan]
theorem bytesV_get {l:List UInt8}{i:Nat} (h:i < l.length):(Qan l)[i]? = some (.int .u8 (l.getD i 0).toNat):=by
 simp [Qan,List.getElem?_eq_getElem h,List.getD_eq_getElem?_getD]
theorem QIu (l:List UInt8) (w:World) (hs:l.length<=140737488355328) :
  Does Tryz.prog 108 #[Str l] w fun v w'=>Heap w [] w' []/\v=.tuple #[Str (decS [] 0 l).1,.int .i64 (decS [] 0 l).2]:=by
 refine En [Str l] 78 Tryz.func108 ?_;refine VS [0] ?_;(repeat refine Qar ?_);refine Qr8 ?_;refine VQ [0,4] fun K hK=>?_;refine Qb4 (xs:=[]) Tryz.underlying43 sz5 rfl rfl rfl (by omega) ?_;refine Qs ?_;refine ⟨by simp,?_⟩;have hH:=(Heap.start w).row 5 (n:=0) (cap:=0) (sz:=1) [] [] rfl rfl (by omega) (by omega);simp only [List.append_nil] at hH;generalize w.alloc (Obj.cells (List.toArray []) 5)=w1 at hH ⊢;generalize (some ⟨w.heap.size,0,none⟩:Option Addr)=a at hH ⊢;apply hK;clear hK;refine VS [0,4,5] ?_;refine Qar (Qrx ?_);refine VS [0,4,5,6] ?_;refine VB ?_;refine Qac [0,4,5,6] (QJn w l) l.length ?_ ?_
 ·
  simp only [Qtu,Qnz,Qtv,Qn0,↓reduceIte,reduceEqDiff];exact ⟨0,0,0,a,[],rfl,hH,by omega,by simp,by omega,Tail.zero _,rfl,rfl⟩
 clear hH;rintro m e w2 ⟨i,same,cap,a,out,rfl,hH,h1,h2,h3,h4,h5,rfl⟩;refine VS [0,4,5,6,13] ?_;refine Qaf rfl rfl (fun hlt=>?_) (fun hge=>?_)
 ·
  simp only [decide_eq_true_eq] at hlt;have hlt':i < l.length:=by omega
  have hdrop:l.drop i=l.getD i 0::l.drop (i+1):=by
   rw [List.drop_eq_getElem_cons hlt',List.getD_eq_getElem?_getD,List.getElem?_eq_getElem hlt'];rfl
  rw [hdrop,QFx] at h5;have hc255:=(l.getD i 0).toNat_lt
  have fin:∀ (same':Nat) (cap':Nat) (a':Option Addr) (out':List UInt8) (w3:World) (k:List It),Heap w [] w3 [Res.row 5 1 a' out'.length cap' (Qan out')]->out'.length<=262144->same'<=4->Tail out' same'->decS [] 0 l=decS out' same' (l.drop (i+1)) ->
    selK [0,4,5,6] [(0,Str l),(4,.slice a' out'.length cap'),(5,.int .i64 same'),(6,.int .i64 (↑i+1))] fun e=>∃ m,m < l.length - i/\QJn w l m e w3:=by
   intro same' cap' a' out' w3 k g1 g2 g3 g4 g5;simp only [Qtu,Qnz,Qtv,Qn0,↓reduceIte,reduceEqDiff];exact ⟨l.length - (i+1),by omega,i+1,same',cap',a',out',rfl,g1,by omega,g2,g3,g4,g5,rfl⟩
  refine VC_skip ?_;refine VB ?_;by_cases hsame:same=4
  ·
   subst hsame;rw [if_pos rfl] at h5;refine VS [0,4,5,6,17] ?_;refine Qaf rfl rfl (fun _=>?_) (fun h=>absurd h (by simp));refine VQ [0,4,5,6,25] fun K hK=>?_;refine ⟨by omega,I64.mk (by omega) (by omega),I64.mk (by omega) (by omega),?_⟩;apply hK;clear hK;generalize hc:l.getD i 0=c at h5 hc255 ⊢;by_cases hbig:262144 < out.length+c.toNat
   ·
    rw [if_pos hbig] at h5;refine Qaf rfl rfl (fun _=>?_) (fun h=>?_)
    ·
     refine VS [2,3] ?_;refine VC_ret (Qat rfl rfl rfl ⟨hH.sub (by simp),?_⟩);rw [h5]
    simp only [decide_eq_false_iff_not] at h;omega
   rw [if_neg hbig] at h5;refine Qaf rfl rfl (fun h=>?_) (fun _=>?_)
   ·
    simp only [decide_eq_true_eq] at h;omega
   refine VC_skip ?_;have h4':=h4.1;obtain ⟨g,rfl⟩:=Qdu (hH.at 0 rfl) (by omega);refine VQ [0,4,6,7] fun K hK=>?_;rw [hc];refine ⟨by omega,I64.mk (by omega) (by omega),?_⟩;refine Qba Tryz.underlying43 zi5 ?_;refine Qs ?_;refine ⟨c.toNat,c.toNat,⟨rfl,rfl,by omega,by omega,by omega⟩,?_⟩;have hH2:=hH.row 5 (n:=c.toNat) (cap:=c.toNat) (sz:=1) (List.replicate c.toNat (.int .u8 0)) [] (by simp) (by simp) (by omega) (by omega);rw [List.append_nil,bytesV_zero] at hH2;rw [bytesV_zero];generalize w2.alloc (Obj.cells (Qan (List.replicate c.toNat 0)).toArray 5)=w3 at hH2 ⊢;generalize hg2:w2.heap.size=g2 at hH2 ⊢;apply hK;clear hK;refine VS [0,4,6,7,8] ?_;generalize hb:out.getLastD 0=b at h5;(repeat refine Qar ?_);refine Qde [0,4,6,7] (fun e w'=>Is e [(0,Str l),(4,.slice (some ⟨g,0,none⟩) out.length cap),(6,.int .i64 i),(7,.slice (some ⟨g2,0,none⟩) c.toNat c.toNat)]/\Heap w [] w' [Res.row 5 1 (some ⟨g2,0,none⟩) c.toNat c.toNat (Qan (List.replicate c.toNat b)),Res.row 5 1 (some ⟨g,0,none⟩) out.length cap (Qan out)]) ?_ ?_
   ·
    refine Qab ?_;refine Qac [0,4,6,7,8] (fun m e w'=>∃ (n:Nat) (ms:List UInt8),Is e [(0,Str l),(4,.slice (some ⟨g,0,none⟩) out.length cap),(6,.int .i64 i),(7,.slice (some ⟨g2,0,none⟩) c.toNat c.toNat),(8,.int .i64 n)]/\Heap w [] w' [Res.row 5 1 (some ⟨g2,0,none⟩) c.toNat c.toNat (Qan ms),Res.row 5 1 (some ⟨g,0,none⟩) out.length cap (Qan out)]/\n<=c.toNat/\ms.length=c.toNat/\ms.take n=List.replicate n b/\m=c.toNat - n) c.toNat ?_ ?_
    ·
     simp only [Qtu,Qnz,Qtv,Qn0,↓reduceIte,reduceEqDiff];exact ⟨0,List.replicate c.toNat 0,rfl,hH2,by omega,by simp,rfl,rfl⟩
    rintro m e w4 ⟨n,ms,rfl,hH3,k1,k2,k3,rfl⟩;refine VS [0,4,6,7,8,34] ?_;refine Qaf rfl rfl (fun hn=>?_) (fun hn=>?_)
    ·
     simp only [decide_eq_true_eq] at hn;refine VC_skip ?_;(repeat refine Qar ?_);refine Qab (VC_skip (Qah ?_));have hcap:=(Qr5 (hH3.at 1 rfl)).1;refine VH (holes [g2] w4) (Ext.hole _ _) [0,4,6,7,8] [(0,true),(1,true),(2,true),(3,true),(4,true),(5,true),(6,true),(7,true),(8,true),(9,false),(10,false),(11,false)] fun K hK=>?_;refine ⟨by omega,I64.mk (by omega) (by omega),by omega,?_⟩;refine Qn6 ?_;refine Qs ?_;rw [if_neg (show ¬ c.toNat=n by omega),if_neg (show ¬ cap=out.length - 4 by omega)];simp only [Option.map_some];have hsrc:=(Qao (hH3.at 1 rfl)).drop rfl (out.length - 4) (by omega);rw [Nat.mul_one,bytesV_drop,Tail.drop h4,hb,show out.length - (out.length - 4)=4 by omega] at hsrc;rw [show out.length - (out.length - 4)=4 by omega];refine Qi0 hH3 0 rfl Tryz.underlying43 sz5 (off:=n) rfl ⟨rfl,hsrc,5,Tryz.underlying43⟩ (Qiz _) (by rw [Qfs,k2];omega) fun w5 hu hH4=>?_;refine Qs ?_;have hkk:min 4 (c.toNat - n)<=c.toNat - n:=Nat.min_le_right _ _;have hkk0:0 < min 4 (c.toNat - n):=by omega
     have hk4:min 4 (c.toNat - n)<=4:=Nat.min_le_left _ _;generalize min 4 (c.toNat - n)=kk at hH4 hkk hkk0 hk4 ⊢;refine ⟨hu.extH,I64.mk (by omega) (by omega),?_⟩;apply hK;clear hK;refine Qaa ?_;simp only [Qtu,Qnz,Qtv,Qn0,↓reduceIte,reduceEqDiff]
     have hset:(Qan ms).take n++(Qan (List.replicate 4 b)).take (kk * 1)++(Qan ms).drop (n+kk * 1)=Qan (ms.take n++List.replicate kk b++ms.drop (n+kk)):=by
      rw [Nat.mul_one,bytesV_take,bytesV_take,bytesV_drop,List.take_replicate,Nat.min_eq_left hk4,Qdt,Qdt]
     rw [hset] at hH4;obtain ⟨r1,r2⟩:=QM9 n c.toNat kk b (by omega) ms k2 k3;exact ⟨c.toNat - (n+kk),by omega,n+kk,_,rfl,hH4,by omega,r1,r2,rfl⟩
    simp only [decide_eq_false_iff_not] at hn;refine Qad rfl ?_;refine Qaa ?_;refine Qs ?_;refine ⟨rfl,?_⟩
    have hms:ms=List.replicate c.toNat b:=by
     rw [<- List.take_of_length_le (show ms.length<=n by omega),k3];congr 1;omega
    rw [hms] at hH3;exact hH3
   rintro e w4 ⟨rfl,hH3⟩;refine VQ [0,4,6] fun K hK=>?_;refine Qai ?_;refine Qs ?_;refine QBc hH3 1 rfl Tryz.underlying43 zi5 (t:=List.replicate c.toNat b) (by simp) (by simpa using Qao (hH3.at 0 rfl)) (fun h=>by simp;omega) fun a' cap' w5 hc' hH4=>?_;apply hK;clear hK;refine VS [0,4,5,6] ?_;refine Qad rfl ?_;refine VS [0,4,5,6] ?_;refine Qaa ?_;exact fin 0 cap' a' _ w5 [] (hH4.sub (by simp)) (by simp;omega) (by omega) (Tail.zero _) h5
  rw [if_neg hsame] at h5;generalize hsm:(if 0 < same/\out.getLastD 0=l.getD i 0 then same+1 else 1)=same' at h5
  have hsame':same'<=4/\Tail (out++[l.getD i 0]) same':=by
   rw [<- hsm];split
   ·
    rename_i h;exact ⟨by omega,Tail.succ h4 h.2⟩
   exact ⟨by omega,Tail.one _ _⟩
  refine VS [0,4,5,6,17] ?_;refine Qaf rfl rfl (fun h=>absurd h (by simp;omega)) (fun _=>?_);refine VC_skip ?_;refine Qar (Qde [0,4,5,6] (fun e w'=>Is e [(0,Str l),(4,.slice a out.length cap),(5,.int .i64 same'),(6,.int .i64 i)]/\Is w' w2) ?_ ?_)
  ·
   have yes:0 < same/\out.getLastD 0=l.getD i 0->VC ⟨Tryz.prog,Tryz.f108,fun v w'=>Heap w [] w' []/\v=.tuple #[Str (decS [] 0 l).1,.int .i64 (decS [] 0 l).2],78⟩ [] [] w2->True:=fun _ _=>trivial;clear yes;by_cases hs0:0 < same
   ·
    have h4':=h4.1;obtain ⟨g,rfl⟩:=Qdu (hH.at 0 rfl) (by omega)
    have hcell:w2.cell? ⟨g,out.length - 1,none⟩=some (.int .u8 (out.getLastD 0).toNat):=by
     refine Qaw (hH.at 0 rfl) ?_;have h1':=h4.2 0 hs0;simp only [Qan,List.getElem?_map];rw [show out.length - 1=out.length - 1 - 0 by omega,h1'];rfl
    refine Vq [0,4,5,6,62] fun K hK=>?_;refine ⟨fun _=>⟨by omega,I64.mk (by omega) (by omega),by omega,_,hcell,?_⟩,fun h=>absurd (show (0:Int) < same by omega) h⟩;refine Qs ?_;apply hK;clear hK;refine VD (fun h=>?_) (fun h=>?_)
    ·
     have hl:out.getLastD 0=l.getD i 0:=(UInt8.toNat_inj.1 (by omega));rw [if_pos ⟨hs0,hl⟩] at hsm;subst hsm;refine VS [0,4,5,6] ?_;refine Qaa ?_;refine Qs ?_;exact ⟨rfl,rfl⟩
    have hl:¬ out.getLastD 0=l.getD i 0:=fun h'=>h (by rw [h']);rw [if_neg (fun h=>hl h.2)] at hsm;subst hsm;refine VS [0,4,5,6] ?_;refine Qaa ?_;refine Qs ?_;exact ⟨rfl,rfl⟩
   have:same=0:=by omega
   subst this;rw [if_neg (by omega)] at hsm;subst hsm;refine Vq [0,4,5,6,62] fun K hK=>?_;refine ⟨fun h=>absurd h (by omega),fun _=>?_⟩;apply hK;clear hK;refine Qaf rfl rfl (fun h=>by cases h) (fun _=>?_);refine VS [0,4,5,6] ?_;refine Qaa ?_;refine Qs ?_;exact ⟨rfl,rfl⟩
  rintro e w3 ⟨rfl,rfl⟩;refine VS [0,4,5,6,67] ?_;by_cases hfull:out.length=262144
  ·
   rw [if_pos hfull] at h5;refine Qaf rfl rfl (fun _=>?_) (fun h=>absurd h (by simp;omega));refine VS [2,3] ?_;refine VC_ret (Qat rfl rfl rfl ⟨hH.sub (by simp),?_⟩);rw [h5]
  rw [if_neg hfull] at h5;refine Qaf rfl rfl (fun h=>absurd h (by simp;omega)) (fun _=>?_);refine VC_skip ?_;refine VQ [0,4,5,6] fun K hK=>?_;refine ⟨by omega,?_⟩;refine Qb4 (xs:=[.tmp 71]) Tryz.underlying43 sz5 rfl rfl rfl (by omega) ?_;refine Qs ?_;refine ⟨by simp [Value.cells],?_⟩;refine Qai ?_;refine Qs ?_;refine Qgu hH 0 (l.getD i 0) rfl Tryz.underlying43 zi5 rfl (fun h=>by simp;omega) fun a' cap' w5 hc' hH4=>?_;apply hK;clear hK;refine Qah ?_;refine VS [0,4,5,6] ?_;refine Qaa ?_;exact fin same' cap' a' _ w5 [] hH4 (by simp;omega) hsame'.1 hsame'.2 h5
 simp only [decide_eq_false_iff_not] at hge;rw [List.drop_of_length_le (by omega)] at h5;refine Qad rfl ?_;refine VS [4,75,5] ?_;by_cases hsame:same=4
 ·
  subst hsame;refine Qaf rfl rfl (fun _=>?_) (fun h=>absurd h (by simp));refine VS [2,3] ?_;refine VC_ret (Qat rfl rfl rfl ⟨hH.sub (by simp),?_⟩);rw [h5];rfl
 refine Qaf rfl rfl (fun h=>absurd h (by simp;omega)) (fun _=>?_);refine VC_skip ?_;refine VQ [2,3] fun K hK=>?_;refine ⟨out,hH.readsBytes 0 rfl,?_⟩;apply hK;clear hK;refine VC_ret (Qat rfl rfl rfl ⟨hH.sub (by simp),?_⟩);rw [h5];simp [decS,hsame]
theorem QIv {l:List Nat}{n i:Nat} (h:i∈idxs l n):i < l.length:=(Qno.1 h).1
theorem QFy (l:List Nat):∀ (r:List Bool) (n code:Nat) (q:Nat×Nat),Qg7 l r n code=.ok q->q.1 < l.length/\n < q.2/\q.2<=n+r.length:=by
 intro r
 induction r with
 | nil=>intro n code q h;simp [Qg7] at h
 | cons b r ih =>
  intro n code q h;rw [Qg7] at h;split at h
  ·
   rename_i hc;cases h;refine ⟨?_,by simp,by simp⟩;have hlt:2 * code+b.toNat - Qa7 l (n+1) < (idxs l (n+1)).length:=by unfold cnt at hc;omega
   have:=List.getElem_mem hlt;rw [List.getD_eq_getElem?_getD,List.getElem?_eq_getElem hlt];exact QIv this
  split at h
  ·
   have:=ih _ _ _ h;simp only [List.length_cons];omega
  cases h
theorem QCr (l:List Nat):∀ (r:List Bool) (n code:Nat) (e:Int),Qg7 l r n code=.error e->e≠0:=by
 intro r
 induction r with
 | nil=>intro n code e h;simp [Qg7] at h;omega
 | cons b r ih =>
  intro n code e h;rw [Qg7] at h;split at h
  ·
   cases h
  split at h
  ·
   exact ih _ _ _ h
  cases h;decide
theorem QFz {l:List Nat}{bits:List Bool}{at_:Nat}{q:Nat×Nat} (h:Qjd l bits at_=.ok q):q.1 < l.length/\at_ < q.2/\q.2<=bits.length:=by
 unfold Qjd at h;split at h
 ·
  rename_i p hp;cases h;have:=QFy l _ _ _ _ hp;rw [List.length_drop] at this;simp only;omega
 cases h
theorem QCs {l:List Nat}{bits:List Bool}{at_:Nat}{e:Int} (h:Qjd l bits at_=.error e):e≠0:=by
 unfold Qjd at h;split at h
 ·
  cases h
 rename_i e' hp;cases h;exact QCr l _ _ _ _ hp
theorem QF0 {l:List Nat}{bits:List Bool}{fin:Nat}:∀ (n at_:Nat) (q:List Nat×Nat),at_<=bits.length->Qeq l bits fin n at_=.ok q->(∀ x∈q.1,x < l.length)/\q.1.length<=n/\q.2<=bits.length/\at_<=q.2:=by
 intro n
 induction n with
 | zero=>intro at_ q ha h;rw [Qeq] at h;cases h;simp [ha]
 | succ n ih =>
  intro at_ q ha h;rw [Qeq] at h;cases hn:Qjd l bits at_ with
  | error e=>rw [hn] at h;cases h
  | ok p =>
   rw [hn] at h;simp only at h;obtain ⟨h1,h2,h3⟩:=QFz hn;split at h
   ·
    cases h;refine ⟨by simpa using h1,by simp,h3,by simp only;omega⟩
   cases hr:Qeq l bits fin n p.2 with
   | error e=>rw [hr] at h;cases h
   | ok q' =>
    rw [hr] at h;cases h;obtain ⟨g1,g2,g3,g4⟩:=ih _ _ h3 hr;refine ⟨fun x hx=>?_,by simp only [List.length_cons];omega,g3,by simp only;omega⟩;rcases List.mem_cons.1 hx with rfl | hx
    ·
     exact h1
    exact g1 x hx
theorem QCt {l:List Nat}{bits:List Bool}{fin:Nat}:∀ (n at_:Nat) (e:Int),Qeq l bits fin n at_=.error e->e≠0:=by
 intro n
 induction n with
 | zero=>intro at_ e h;rw [Qeq] at h;cases h
 | succ n ih =>
  intro at_ e h;rw [Qeq] at h;cases hn:Qjd l bits at_ with
  | error e'=>rw [hn] at h;cases h;exact QCs hn
  | ok p =>
   rw [hn] at h;simp only at h;split at h
   ·
    cases h
   cases hr:Qeq l bits fin n p.2 with
   | error e'=>rw [hr] at h;cases h;exact ih _ _ hr
   | ok q'=>rw [hr] at h;cases h
theorem QF1 {T:List (List Nat)}{bits:List Bool}{fin N:Nat} (hT:∀ t,t < T.length->(T.getD t []).length=N):∀ (P:List Nat) (at_:Nat) (q:List Nat×Nat),(∀ k∈P,k < T.length)->at_<=bits.length->Qhn T bits fin P at_=.ok q ->
  (∀ x∈q.1,x < N)/\q.1.length<=50 * P.length/\q.2<=bits.length:=by
 intro P
 induction P with
 | nil=>intro at_ q _ _ h;rw [Qhn] at h;cases h
 | cons p P ih =>
  intro at_ q hP ha h;rw [Qhn] at h;have hp:=hT p (hP p (by simp));cases hn:Qeq (T.getD p []) bits fin 50 at_ with
  | error e=>rw [hn] at h;cases h
  | ok q1 =>
   rw [hn] at h;simp only at h;obtain ⟨h1,h2,h3,h4⟩:=QF0 _ _ _ ha hn;rw [hp] at h1;split at h
   ·
    cases h;refine ⟨h1,by simp only [List.length_cons];omega,h3⟩
   cases hr:Qhn T bits fin P q1.2 with
   | error e=>rw [hr] at h;cases h
   | ok q' =>
    rw [hr] at h;cases h;obtain ⟨g1,g2,g3⟩:=ih _ _ (fun k hk=>hP k (by simp [hk])) h3 hr;refine ⟨fun x hx=>?_,by simp only [List.length_cons,List.length_append];omega,g3⟩;rcases List.mem_append.1 hx with hx | hx
    ·
     exact h1 x hx
    exact g1 x hx
theorem QCu {T:List (List Nat)}{bits:List Bool}{fin:Nat}:∀ (P:List Nat) (at_:Nat) (e:Int),Qhn T bits fin P at_=.error e->e≠0:=by
 intro P
 induction P with
 | nil=>intro at_ e h;rw [Qhn] at h;cases h;decide
 | cons p P ih =>
  intro at_ e h;rw [Qhn] at h;cases hn:Qeq (T.getD p []) bits fin 50 at_ with
  | error e'=>rw [hn] at h;cases h;exact QCt _ _ _ hn
  | ok q1 =>
   rw [hn] at h;simp only at h;split at h
   ·
    cases h
   cases hr:Qhn T bits fin P q1.2 with
   | error e'=>rw [hr] at h;cases h;exact ih _ _ hr
   | ok q'=>rw [hr] at h;cases h
theorem QNa {n most:Int} (hn:n<=256):∀ (r out:List Int) (wt:Nat),(out.length:Int)<=most->(∀ x∈out,0<=x/\x<=256)->((zdec n most out wt r).1.length:Int)<=most/\∀ x∈(zdec n most out wt r).1,0<=x/\x<=256:=by
 intro r
 induction r with
 | nil=>intro out wt h _;rw [zdec];simp;omega
 | cons s r ih =>
  intro out wt h ho;rw [zdec];split
  ·
   simp;omega
  split
  ·
   split
   ·
    simp;omega
   refine ih _ _ ?_ ?_
   ·
    rename_i h1 h2 h3;have h4:0<=(s+1) * (wt:Int):=Int.mul_nonneg (by omega) (by omega);rw [List.length_append,List.length_replicate];omega
   intro x hx;rcases List.mem_append.1 hx with hx | hx
   ·
    exact ho x hx
   rw [List.mem_replicate] at hx;omega
  split
  ·
   cases r with
   | nil=>exact ⟨h,ho⟩
   | cons x r=>rw [zend];split <;> (simp;omega)
  split
  ·
   simp;omega
  refine ih _ _ (by rw [List.length_append,List.length_singleton];omega) fun x hx=>?_;rcases List.mem_append.1 hx with hx | hx
  ·
   exact ho x hx
  simp at hx;omega
theorem QCv {n most:Int} (l:List Int):(Qeo n most l).1.length<=262144/\∀ x∈(Qeo n most l).1,0<=x/\x<=256:=by
 unfold Qeo;split
 ·
  simp
 have:=QNa (n:=n) (most:=most) (by omega) l [] 1 (by simp;omega) (by simp);exact ⟨by omega,this.2⟩
theorem Qta:∀ (l:List Int) (li out:List UInt8),Qdy li l=some out->out.length=l.length:=by
 intro l
 induction l with
 | nil=>intro li out h;simp [Qdy] at h;subst h;rfl
 | cons x l ih =>
  intro li out h;unfold Qdy at h;split at h
  ·
   simp only [Option.map_eq_some_iff] at h;obtain ⟨o,ho,rfl⟩:=h;simp [ih _ _ ho]
  cases h
theorem Qv3 (u:List UInt8) (l:List Int):(Qdw u l).1.length<=l.length:=by
 unfold Qdw;split
 ·
  split
  ·
   simp
  rename_i out h;exact Nat.le_of_eq (Qta _ _ _ h)
 simp
theorem QCw (L:List UInt8) (P:List Nat):∀ (k row:Nat),(Qhe L P k row).length=k:=by
 intro k
 induction k with
 | zero=>intro row;rfl
 | succ k ih=>intro row;simp [Qhe,ih]
theorem QIw (L:List UInt8) (row:Int):(bckS L row).1.length<=262144:=by
 unfold bckS;split
 ·
  simp
 split
 ·
  simp
 simp only [QCw];omega
theorem QNb:∀ (l out:List UInt8) (k:Nat),out.length<=262144->(decS out k l).1.length<=262144:=by
 intro l
 induction l with
 | nil=>intro out k h;rw [decS];split <;> simp <;> omega
 | cons c l ih =>
  intro out k h;rw [decS];split
  ·
   split
   ·
    simp
   exact ih _ _ (by simp;omega)
  split
  ·
   simp
  exact ih _ _ (by simp;omega)
theorem Qv4 (i:Nat) (row:List Bool):(Qhg i row).length<=16:=by
 unfold Qhg;rw [List.length_map];have:=List.length_filter_le (fun k=>row.getD k false) (List.range 16);simpa using this
theorem QNc {bits:List Bool}:∀ (r:List Bool) (i at_:Nat) (q:List UInt8×Nat),at_<=bits.length->stGo bits r i at_=.ok q->q.2<=bits.length/\q.1.length<=16 * r.length:=by
 intro r
 induction r with
 | nil=>intro i at_ q ha h;rw [stGo] at h;cases h;simp [ha]
 | cons b r ih =>
  intro i at_ q ha h;cases b with
  | false=>rw [stGo] at h;have:=ih _ _ _ ha h;simp only [List.length_cons];omega
  | true =>
   rw [stGo] at h;split at h
   ·
    cases h
   cases hr:stGo bits r (i+1) (at_+16) with
   | error e=>rw [hr] at h;cases h
   | ok q' =>
    rw [hr] at h;cases h;have h1:=ih _ _ _ (by omega) hr;have h2:=Qv4 i ((bits.drop at_).take 16);simp only [List.length_cons,List.length_append];omega
theorem QIx {bits:List Bool}:∀ (r:List Bool) (i at_:Nat) (e:Int),stGo bits r i at_=.error e->e≠0:=by
 intro r
 induction r with
 | nil=>intro i at_ e h;rw [stGo] at h;cases h
 | cons b r ih =>
  intro i at_ e h;cases b with
  | false=>rw [stGo] at h;exact ih _ _ _ h
  | true =>
   rw [stGo] at h;split at h
   ·
    cases h;decide
   cases hr:stGo bits r (i+1) (at_+16) with
   | error e'=>rw [hr] at h;cases h;exact ih _ _ _ hr
   | ok q'=>rw [hr] at h;cases h
theorem Qyx {bits:List Bool}{at_:Nat}{q:List UInt8×Nat} (h:Qfj bits at_=.ok q):q.2<=bits.length/\1<=q.1.length/\q.1.length<=256:=by
 unfold Qfj at h;split at h
 ·
  cases h
 cases hr:stGo bits ((bits.drop at_).take 16) 0 (at_+16) with
 | error e=>rw [hr] at h;cases h
 | ok q' =>
  rw [hr] at h;simp only at h;split at h
  ·
   cases h
  rename_i hne;cases h;have h1:=QNc _ _ _ _ (by omega) hr;have h2:((bits.drop at_).take 16).length<=16:=by rw [List.length_take];omega
  have h3:0 < q.1.length:=by
   cases hq:q.1 with
   | nil=>exact absurd hq hne
   | cons a b=>simp
  omega
theorem Qv5 {bits:List Bool}{at_:Nat}{e:Int} (h:Qfj bits at_=.error e):e≠0:=by
 unfold Qfj at h;split at h
 ·
  cases h;decide
 cases hr:stGo bits ((bits.drop at_).take 16) 0 (at_+16) with
 | error e'=>rw [hr] at h;cases h;exact QIx _ _ _ _ hr
 | ok q' =>
  rw [hr] at h;simp only at h;split at h
  ·
   cases h;decide
  cases h
set_option maxHeartbeats 4000000
theorem TabG.mono {G G':List Res}{v:Value}{l:List Nat} (h:TabG G v l) (hs:∀ r∈G,r∈G'):TabG G' v l:=fun w hw=>h w fun r hr=>hw r (hs r hr)
set_option maxHeartbeats 2000000
theorem Qo6 (s:List UInt8) (b:UInt8) (hs:s.length<=1000000000000) (w:World):Does Tryz.prog 139 #[Str s,.int .u8 b.toNat] w fun v w'=>w'=w/\v=.int .i64 (s.idxOf b:Nat):=by
 refine En [Str s,.int .u8 b.toNat] 20 Tryz.func139 ?_;refine VS [0,1] ?_;refine VS [0,1,5] ?_;refine Qab ?_;refine Qac [0,1,5] (fun m e w'=>∃ (i:Nat),Is e [(0,Str s),(1,.int .u8 b.toNat),(5,.int .i64 i)]/\Is w' w/\s.idxOf b=i+(s.drop i).idxOf b/\i<=s.length/\m=s.length - i) s.length ?_ ?_
 ·
  refine Qs ?_;exact ⟨0,rfl,rfl,by simp,by omega,rfl⟩
 rintro m e w' ⟨i,rfl,rfl,hx,hi,rfl⟩;refine VS [0,1,5,9] ?_;refine VD (fun h=>?_) (fun h=>?_)
 ·
  have hi':i < s.length:=by omega
  refine VC_skip ?_;refine VB ?_;have hd:=drop_getD (0:UInt8) hi';rw [hd,List.idxOf_cons] at hx;refine VS [0,1,5,16] ?_;refine Qaf rfl rfl (fun h2=>?_) (fun h2=>VC_skip ?_)
  ·
   simp only [decide_eq_true_eq] at h2;have he:s.getD i 0=b:=UInt8.toNat_inj.1 (by omega);simp only [he,beq_self_eq_true,cond_true] at hx;refine VS [4] ?_;refine VC_ret (VX_ret1 rfl rfl ⟨rfl,?_⟩);rw [hx];rfl
  simp only [decide_eq_false_iff_not] at h2;have he:¬ s.getD i 0=b:=fun e=>h2 (by rw [e]);have hbf:(s.getD i 0 == b)=false:=by simpa using he
  rw [hbf,cond_false] at hx;refine Qah ?_;refine VS [0,1,5] ?_;refine Qaa ?_;refine Qs ?_;exact ⟨s.length - (i+1),by omega,i+1,rfl,rfl,by omega,by omega,rfl⟩
 obtain rfl:i=s.length:=by omega
 refine Qad rfl ?_;rw [List.drop_length] at hx;refine VS [4] ?_;refine VC_ret (VX_ret1 rfl rfl ⟨rfl,?_⟩);rw [hx];rfl
theorem QF2 (s:List UInt8) (b:Nat) (hb:b < 256):(s.any fun c=>c.toNat == b)=true ↔ s.idxOf (UInt8.ofNat b) < s.length:=by
 rw [List.idxOf_lt_length_iff,List.any_eq_true];constructor
 ·
  rintro ⟨c,hc,e⟩;simp only [beq_iff_eq] at e;have:UInt8.ofNat b=c:=by rw [<- e];exact UInt8.ofNat_toNat
  rw [this];exact hc
 intro h;exact ⟨_,h,by simp [Nat.mod_eq_of_lt hb]⟩
theorem Qv6 (s:List UInt8) (hs:s.length<=1000000000000) (w:World):Does Tryz.prog 90 #[Str s] w fun v w'=>Heap w [] w' []/\v=Str (Qa3 s):=by
 refine En [Str s] 23 Tryz.func90 ?_;refine VS [0] ?_;refine VS [0,3] ?_;refine VS [0,3,4] ?_;refine Qab ?_;refine Qac [0,3,4] (fun m e w'=>∃ (b:Nat),Is e [(0,Str s),(3,Str (Qj1 s b)),(4,.int .i64 b)]/\Heap w [] w' []/\b<=256/\m=256 - b) 256 ?_ ?_
 ·
  refine Qs ?_;exact ⟨0,rfl,Heap.start w,by omega,rfl⟩
 rintro m e w' ⟨b,rfl,hH,hb,rfl⟩;refine VS [0,3,4,6] ?_;refine VD (fun h=>?_) (fun h=>?_)
 ·
  have hb':b < 256:=by omega
  refine VC_skip ?_;refine VB ?_;have hbn:((UInt8.ofNat b).toNat:Int)=b:=by simp only [UInt8.toNat_ofNat',Nat.reducePow];omega
  have hul:=Qvb s b;have hus:=Qq9 s b;refine VQ [0,3,4,15] fun K hK=>?_;rw [show (b:Int) % 256=((UInt8.ofNat b).toNat:Int) by omega];refine MemK_call Tryz.call139 ?_;refine Qs ?_;refine CallK.mk (Qo6 s (UInt8.ofNat b) hs w') ?_;rintro v w2 ⟨rfl,rfl⟩;(try refine Qs ?_);(repeat refine Qo ?_);apply hK;clear hK;refine VD (fun h=>?_) (fun h=>?_)
  ·
   rw [if_pos ((QF2 s b hb').2 (by omega))] at hus;refine VQ [0,3,4] fun K hK=>?_;rw [show (b:Int) % 256=((UInt8.ofNat b).toNat:Int) by omega];refine Qbg hH (Qan [UInt8.ofNat b]) (xs:=[.tmp 18]) Tryz.underlying43 sz5 rfl rfl rfl (by omega) ?_;refine Qs ?_;refine ⟨rfl,by simp [Value.cells],fun g w4 hH2=>?_⟩;(try refine Qs ?_);refine ⟨[UInt8.ofNat b],hH2.readsBytes 0 rfl,?_⟩;(try refine Qs ?_);refine ⟨by simp only [List.length_singleton];omega,?_⟩;apply hK;clear hK;refine Qah ?_;refine VS [0,3,4] ?_;refine Qaa ?_;refine Qs ?_;exact ⟨256 - (b+1),by omega,b+1,by rw [hus];rfl,hH2.sub (by simp),by omega,rfl⟩
  rw [if_neg (fun hh=>h (by have:=(QF2 s b hb').1 hh;omega)),List.append_nil] at hus;refine VC_skip ?_;refine Qah ?_;refine VS [0,3,4] ?_;refine Qaa ?_;refine Qs ?_;exact ⟨256 - (b+1),by omega,b+1,by rw [hus];rfl,hH,by omega,rfl⟩
 obtain rfl:b=256:=by omega
 refine Qad rfl ?_;refine VS [2] ?_;exact VC_ret (VX_ret1 rfl rfl ⟨hH,rfl⟩)
theorem Qrj (u:List UInt8) (hu:Qa3 u=u) (hne:u≠[]) (hs:u.length<=1000000000000) (w:World):Does Tryz.prog 116 #[Str u] w fun v w'=>Heap w [] w' []/\v=.bool true:=by
 refine En [Str u] 11 Tryz.func116 ?_;refine VS [0] ?_;refine VQ [2] fun K hK=>?_;refine ⟨fun _=>?_,fun h=>absurd hne h⟩;refine MemK_call Tryz.call90 ?_;refine Qs ?_;refine CallK.mk (Qv6 u hs w) ?_;rintro v w2 ⟨hH,rfl⟩;rw [hu];(try refine Qs ?_);apply hK;clear hK;exact VC_ret (VX_ret1 rfl rfl ⟨hH,by simp⟩)
theorem Qtb (li:List UInt8) (k:Nat) (hk:k < li.length) (hs:li.length<=1000000000000) (w:World):Does Tryz.prog 117 #[Str li,.int .i64 k] w fun v w'=>w'=w/\v=Str (Qgb li k):=by
 have e1:(li.drop k).take 1=[li.getD k 0]:=by rw [drop_getD (0:UInt8) hk];rfl
 refine En [Str li,.int .i64 k] 19 Tryz.func117 ?_;refine VS [0,1] ?_;refine Vq [4] fun K hK=>?_;rw [show k+1 - k=1 by omega,e1];refine ⟨I64.mk (by omega) (by omega),⟨by omega,by omega,by omega⟩,⟨by omega,by omega⟩,by simp;omega,I64.mk (by omega) (by omega),⟨by omega,by omega⟩,by simp;omega,?_⟩;apply hK;clear hK;exact VC_ret (VX_ret1 rfl rfl ⟨rfl,by simp [Qgb]⟩)
theorem QF3 (n most:Int) (l:List Int) (la:Option Addr) (lc:Nat) (hn:I64 n) (hm:I64 most) (w:World) (hl:RS w la l.length 1 (Qap l)) (hs:l.length<=2147483640) (hi:∀ v∈l,I64 v) :
  Does Tryz.prog 105 #[.int .i64 n,.int .i64 most,.slice la l.length lc] w (IntsErr (Qeo n most l) w):=by
 obtain ⟨hn1,hn2⟩:=hn;obtain ⟨hm1,hm2⟩:=hm;refine En [.int .i64 n,.int .i64 most,.slice la l.length lc] 98 Tryz.func105 ?_;refine VQi [0,1,2] fun K hK=>?_;apply hK;clear hK;refine VQi [0,1,2,26] fun K hK=>?_
 suffices out:∀ b:Bool,(b=true ↔ n < 1∨256 < n∨most < 0∨262144 < most)->K [(0,.int .i64 n),(1,.int .i64 most),(2,.slice la l.length lc),(26,.bool b)] w by (repeat' (first | exact out _ _ (by first | omega | (simp;done) | (simp;omega)) | exact out _ (by first | omega | (simp;done) | (simp;omega)) | refine ⟨fun _=>?_,fun _=>?_⟩ | refine Qo ?_))
 intro b hb;apply hK;clear hK;refine Qaf rfl rfl (fun h=>?_) (fun h=>VC_skip ?_)
 ·
  refine VQi [6,7] fun K hK=>?_;apply hK;clear hK;refine VC_ret (Qat rfl rfl rfl ?_);rw [Qeo,if_pos (hb.1 h)];exact IntsErr.nil (Heap.start w) 2
 have hg:¬ (n < 1∨256 < n∨most < 0∨262144 < most):=fun h'=>by rw [hb.2 h'] at h;cases h
 clear h hb;rw [Qeo,if_neg hg];refine VQi [0,1,2,8] fun K hK=>?_;apply hK;clear hK;refine VQi [0,1,2,8,9,10] fun K hK=>?_;apply hK;clear hK;refine VQi [0,1,2,8,9,10,27,28,29] fun K hK=>?_;apply hK;clear hK
 ((repeat refine Qar ?_);refine Qab ?_)
 refine Qac [0,1,2,8,9,10,27,28,29] (fun m e w'=>∃ (i run wt cap:Nat) (a:Option Addr) (o:List Int),Is e [(0,.int .i64 n),(1,.int .i64 most),(2,.slice la l.length lc),(8,.slice a o.length cap),(9,.int .i64 run),(10,.int .i64 wt),(27,.slice la l.length lc),(28,.int .i64 l.length),(29,.int .i64 i)]/\Heap w [] w' [Res.row 3 1 a o.length cap (Qap o)]/\i<=l.length/\(o.length:Int)+run<=most/\wt<=2 * most+1/\1<=wt/\zdec n most [] 1 l=zdec n most (o++List.replicate run 0) wt (l.drop i)/\m=l.length - i) l.length ?_ ?_
 ·
  refine Qi ?_;exact ⟨0,0,1,0,none,[],rfl,Qjp,by omega,by simp;omega,by omega,by omega,rfl,rfl⟩
 rintro m e w2 ⟨i,run,wt,cap,a,o,rfl,hH,g1,g2,g3,g4,g5,rfl⟩;refine VQi [0,1,2,8,9,10,27,28,29,30] fun K hK=>?_;apply hK;clear hK;(repeat refine Qar ?_);refine VD (fun h=>?_) (fun h=>?_)
 ·
  refine VC_skip ?_
  ((repeat refine Qar ?_);refine Qab ?_)
  obtain ⟨p,rfl⟩:=Qbb hl (by omega);have hc:=Qhc (hH.rs' hl) (show i < l.length by omega);have hr:=hi _ (Qaz 0 (show i < l.length by omega));have hdr:=drop_getD 0 (show i < l.length by omega);generalize l.getD i 0=s at *;obtain ⟨hr1,hr2⟩:=hr;rw [hdr] at g5;refine VQi [0,1,2,8,9,10,11,12,27,28,29] fun K hK=>?_;refine ⟨⟨by omega,by omega⟩,_,hc,?_⟩;apply hK;clear hK;refine VQi [0,1,2,8,9,10,11,12,27,28,29,41] fun K hK=>?_
  suffices out:∀ c:Bool,(c=true ↔ s < 0∨n+1 < s)->K [(0,.int .i64 n),(1,.int .i64 most),(2,.slice (some p) l.length lc),(8,.slice a o.length cap),(9,.int .i64 run),(10,.int .i64 wt),(11,.int .i64 i),(12,.int .i64 s),(27,.slice (some p) l.length lc),(28,.int .i64 l.length),(29,.int .i64 i),(41,.bool c)] w2 by (repeat' (first | exact out _ _ (by first | omega | (simp;done) | (simp;omega)) | exact out _ (by first | omega | (simp;done) | (simp;omega)) | refine ⟨fun _=>?_,fun _=>?_⟩ | refine Qo ?_))
  intro c hb;apply hK;clear hK;refine Qaf rfl rfl (fun h=>?_) (fun h=>VC_skip ?_)
  ·
   refine VQi [6,7] fun K hK=>?_;apply hK;clear hK;refine VC_ret (Qat rfl rfl rfl ?_);have hg2:=hb.1 h;rw [zdec,if_pos hg2] at g5;rw [g5];exact IntsErr.nil (hH.sub (by simp)) 60
  have hg2:¬ (s < 0∨n+1 < s):=fun h'=>by rw [hb.2 h'] at h;cases h
  clear h hb;rw [zdec,if_neg hg2] at g5;refine VQi [0,1,2,8,9,10,11,12,27,28,29,43] fun K hK=>?_;apply hK;clear hK;refine VD (fun h=>?_) (fun h=>?_)
  ·
   rw [if_pos h,List.length_append,List.length_replicate] at g5;obtain ⟨t,rfl⟩:∃ t:Nat,s=t:=⟨s.toNat,by omega⟩;have ht:t=0∨t=1:=by omega
   have hmul:((t:Int)+1) * wt<=2 * wt/\(wt:Int)<=((t:Int)+1) * wt:=by
    rcases ht with rfl | rfl <;> simp <;> omega
   generalize hk:((t:Int)+1) * wt=k at *;refine VQi [0,1,2,8,9,10,12,27,28,29,59] fun K hK=>?_;rw [hk]
   suffices out:∀ c:Bool,(c=true ↔ most - o.length - run < k)->K [(0,.int .i64 n),(1,.int .i64 most),(2,.slice (some p) l.length lc),(8,.slice a o.length cap),(9,.int .i64 run),(10,.int .i64 wt),(12,.int .i64 t),(27,.slice (some p) l.length lc),(28,.int .i64 l.length),(29,.int .i64 i),(59,.bool c)] w2 by (repeat' (first | exact out _ _ (by first | omega | (simp;done) | (simp;omega)) | exact out _ (by first | omega | (simp;done) | (simp;omega)) | refine ⟨fun _=>?_,fun _=>?_⟩ | refine Qo ?_))
   intro c hb;apply hK;clear hK;refine Qaf rfl rfl (fun h=>?_) (fun h=>VC_skip ?_)
   ·
    refine VQi [6,7] fun K hK=>?_;apply hK;clear hK;refine VC_ret (Qat rfl rfl rfl ?_);have:=hb.1 h;rw [if_pos (by omega)] at g5;rw [g5];exact IntsErr.nil (hH.sub (by simp)) 3
   have hg3:¬ (most - o.length - run < k):=fun h'=>by rw [hb.2 h'] at h;cases h
   clear h hb;rw [if_neg (by omega)] at g5;refine VQi [0,1,2,8,9,10,27,28,29] fun K hK=>?_;rw [hk];(repeat refine Qo ?_);apply hK;clear hK;refine VQi [0,1,2,8,9,10,27,28,29] fun K hK=>?_;(repeat refine Qo ?_);apply hK;clear hK;refine Qad rfl ?_;refine VQi [0,1,2,8,9,10,27,28,29] fun K hK=>?_;(repeat refine Qo ?_);apply hK;clear hK;refine Qaa ?_;refine Qi ?_;rw [List.append_assoc,List.replicate_append_replicate] at g5;exact ⟨l.length - (i+1),by omega,i+1,run+k.toNat,2 * wt,_,_,_,by simp [Is];omega,hH,by omega,by omega,by omega,by omega,g5,rfl⟩
  rw [if_neg h] at g5;refine VC_skip ?_;refine VQi [0,1,2,8,11,12,27,28,29] fun K hK=>?_;refine Qai ?_;refine Qi ?_;have el:o.length+run=(o++List.replicate run 0).length:=by simp
  refine Qqp hH 0 rfl rfl Tryz.underlying36 zi3 Tryz.underlying3 rfl (by omega) fun a' cap' w5 hc' hH4=>?_;rw [intsV_zero,<- Qf2,el] at hH4;rw [el];apply hK;clear hK;generalize ho2:o++List.replicate run 0=o2 at *;refine VQi [0,1,2,8,9,10,11,12,27,28,29] fun K hK=>?_;apply hK;clear hK;refine VQi [0,1,2,8,9,10,11,12,27,28,29,74] fun K hK=>?_;(repeat refine Qo ?_);apply hK;clear hK;refine Qaf rfl rfl (fun h'=>?_) (fun h'=>?_)
  ·
   simp only [decide_eq_true_eq] at h';rw [if_pos h'] at g5;refine VQi [0,2,8,11,79] fun K hK=>?_;(repeat refine Qo ?_);apply hK;clear hK;refine Qaf rfl rfl (fun hx=>?_) (fun hx=>?_)
   ·
    simp only [decide_eq_true_eq] at hx;have hc2:=Qhc (hH4.rs' hl) (show i+1 < l.length by omega);have hr:=hi _ (Qaz 0 (show i+1 < l.length by omega));have hdr2:=drop_getD 0 (show i+1 < l.length by omega);generalize l.getD (i+1) 0=x at *;rw [hdr2,zend] at g5;refine VQi [6,7] fun K hK=>?_;refine ⟨I64.mk (by omega) (by omega),⟨by omega,by omega⟩,_,hc2,?_⟩;refine MemK_call Tryz.call151 ?_;refine Qi ?_;refine CallK.mk (Qyw n x ⟨hn1,hn2⟩ (by omega) hr w5) ?_;rintro v w6 ⟨rfl,rfl⟩;apply hK;clear hK;refine VC_ret (Qat rfl rfl rfl ?_);rw [g5];split
    ·
     exact IntsErr.nil (hH4.sub (by simp)) 60
    exact IntsErr.nil (hH4.sub (by simp)) 70
   simp only [decide_eq_false_iff_not] at hx;refine VC_skip ?_;refine VQi [6,7] fun K hK=>?_;apply hK;clear hK;refine VC_ret (Qat rfl rfl rfl ?_);rw [List.drop_of_length_le (by omega),zend] at g5;rw [g5];exact ⟨_,_,hH4,rfl⟩
  simp only [decide_eq_false_iff_not] at h';rw [if_neg h'] at g5;refine VC_skip ?_;refine VQi [0,1,2,8,9,10,12,27,28,29,91] fun K hK=>?_;apply hK;clear hK;refine VD (fun h=>?_) (fun h=>?_)
  ·
   refine VQi [6,7] fun K hK=>?_;apply hK;clear hK;refine VC_ret (Qat rfl rfl rfl ?_);rw [if_pos (by omega)] at g5;rw [g5];exact IntsErr.nil (hH4.sub (by simp)) 3
  rw [if_neg (by omega)] at g5;refine VC_skip ?_;refine VQi [0,1,2,8,9,10,27,28,29] fun K hK=>?_;(repeat first | refine Qo ?_ | refine ⟨⟨by omega,by omega⟩,?_⟩);refine Qb4 (xs:=[.tmp 94]) Tryz.underlying36 sz3 rfl rfl rfl (by omega) ?_;refine Qi ?_;refine ⟨by simp [Value.cells],?_⟩;refine Qai ?_;refine Qi ?_;refine Qf0 hH4 0 rfl Tryz.underlying36 zi3 (fun h=>by (first | omega | (simp;done) | (simp;omega))) fun a' cap' w5 hc' hH5=>?_;(try refine Qi ?_);apply hK;clear hK;refine Qah ?_;refine VQi [0,1,2,8,9,10,27,28,29] fun K hK=>?_;(repeat refine Qo ?_);apply hK;clear hK;refine Qaa ?_;refine Qi ?_;exact ⟨l.length - (i+1),by omega,i+1,0,1,_,_,_,rfl,hH5,by omega,by simp;omega,by omega,by omega,by simpa using g5,rfl⟩
 refine Qad rfl ?_;rw [List.drop_of_length_le (by omega),zdec] at g5;refine VQi [6,7] fun K hK=>?_;apply hK;clear hK;refine VC_ret (Qat rfl rfl rfl ?_);rw [g5];exact IntsErr.nil (hH.sub (by simp)) 70
set_option maxHeartbeats 2000000
def unpS (used:List UInt8) (list:List Nat) (row most:Int):List UInt8×Int :=
 if (Qeo used.length most (ni list)).2≠0 then ([],(Qeo used.length most (ni list)).2)
 else if (Qdw used (Qeo used.length most (ni list)).1).2≠0 then ([],(Qdw used (Qeo used.length most (ni list)).1).2)
 else if (bckS (Qdw used (Qeo used.length most (ni list)).1).1 row).2≠0 then ([],(bckS (Qdw used (Qeo used.length most (ni list)).1).1 row).2)
 else decS [] 0 (bckS (Qdw used (Qeo used.length most (ni list)).1).1 row).1
theorem Qtc (used:List UInt8) (list:List Nat) (row most:Int) (la:Option Addr) (lc:Nat) (hu:used.length<=256) (hl:list.length<=2147483640) (hx:∀ x∈list,x<=1000) (hr:I64 row) (hm:I64 most) (w:World) (hrs:RS w la list.length 1 (Qag list)) :
  Does Tryz.prog 49 #[Str used,.slice la list.length lc,.int .i64 row,.int .i64 most] w fun v w'=>Heap w [] w' []/\v=.tuple #[Str (unpS used list row most).1,.int .i64 (unpS used list row most).2]:=by
 have hnl:(ni list).length=list.length:=by simp [ni]
 have hzd:=QF3 used.length most (ni list) la lc (I64.mk (by omega) (by omega)) hm w (by rw [hnl,<- QH9];exact hrs) (by omega) (fun v hv=>by
  simp only [ni,List.mem_map] at hv;obtain ⟨x,hx2,rfl⟩:=hv;have:=hx x hx2;exact I64.mk (by omega) (by omega))
 obtain ⟨z1,z2⟩:=QCv (n:=used.length) (most:=most) (ni list);rw [hnl] at hzd;have hS:unpS used list row most=unpS used list row most:=rfl
 conv at hS=>rhs;unfold unpS
 rw [hS];clear hS;generalize Qeo used.length most (ni list)=Z at *;have hsb:=fun a c w h=>Qvc Z.1 used a c (by omega) (by omega) (fun v hv=>by have:=z2 v hv;exact I64.mk (by omega) (by omega)) w h;have s1:=Qv3 used Z.1;generalize Qdw used Z.1=C at *;have hbk:=fun w=>QFs C.1 row hr (by omega) w;have b1:=QIw C.1 row;generalize bckS C.1 row=T at *;have hdc:=fun w=>QIu T.1 w (by omega);generalize decS [] 0 T.1=X at *;refine En [Str used,.slice la list.length lc,.int .i64 row,.int .i64 most] 47 Tryz.func49 ?_;refine VS [0,1,2,3] ?_;refine VQ [0,2,10,11] fun K hK=>?_;refine MemK_call Tryz.call105 ?_;refine Qs ?_;refine CallK.mk hzd ?_;rintro v w2 ⟨ap,cp,hH,rfl⟩;apply hK;clear hK;refine VS [0,2,10,11,23] ?_;refine VD (fun h=>?_) (fun h=>?_)
 ·
  refine VS [8,9] ?_;refine VC_ret (Qat rfl rfl rfl ⟨hH.sub (by simp),?_⟩);rw [if_pos h]
 rw [if_neg h];refine VC_skip ?_;refine VQ [2,11,12] fun K hK=>?_;refine MemK_call Tryz.call106 ?_;refine Qs ?_;refine CallK.mk (hsb _ _ w2 (Qao (hH.at 0 rfl))) ?_;rintro v w3 ⟨hHs,rfl⟩;have hH2:=hH.call0 hHs;clear hH hHs;apply hK;clear hK;refine VS [2,11,12,32] ?_;refine VD (fun h=>?_) (fun h=>?_)
 ·
  refine VS [8,9] ?_;refine VC_ret (Qat rfl rfl rfl ⟨hH2.sub (by simp),?_⟩);rw [if_pos h]
 rw [if_neg h];refine VC_skip ?_;refine VQ [11,13] fun K hK=>?_;refine MemK_call Tryz.call107 ?_;refine Qs ?_;refine CallK.mk (hbk w3) ?_;rintro v w4 ⟨hHs,rfl⟩;have hH3:=hH2.call0 hHs;clear hH2 hHs;apply hK;clear hK;refine VS [11,13,41] ?_;refine VD (fun h=>?_) (fun h=>?_)
 ·
  refine VS [8,9] ?_;refine VC_ret (Qat rfl rfl rfl ⟨hH3.sub (by simp),?_⟩);rw [if_pos h]
 rw [if_neg h];refine VC_skip ?_;refine VQ [8,9] fun K hK=>?_;refine MemK_call Tryz.call108 ?_;refine Qs ?_;refine CallK.mk (hdc w4) ?_;rintro v w5 ⟨hHs,rfl⟩;have hH4:=hH3.call0 hHs;apply hK;clear hK;exact VC_ret (Qat rfl rfl rfl ⟨hH4.sub (by simp),rfl⟩)
abbrev QF4 (e:Int):Value:=.iface 141 (.agg #[.int .i64 e])
abbrev Qv7 (e:Int):List PanicEntry:=[{ v:=QF4 e,recovered:=false }]
theorem Qlr (b:Bool) (w:World):DoesP Tryz.prog 99 #[.bool b] w (fun _ w'=>w'=w/\b=true) (fun c w'=>w'=w/\b=false/\c=Qv7 120):=by
 refine Qka (args:=[.bool b]) 6 Tryz.func99 rfl rfl (of_decide_eq_true rfl) ?_;simp only [Env.ofArgs];refine GS [3] ?_;refine Qi5 rfl rfl (fun h=>?_) (fun h=>?_)
 ·
  (repeat with_reducible refine Qf4 ?_);refine Qft [] [2] (by kernel_rfl) fun K hK=>?_;simp only [go_sem,List.take_succ_cons,List.take_zero,List.drop_succ_cons,List.drop_zero,↓reduceIte,reduceEqDiff];refine Qkb ?_;refine Qs ?_;exact ⟨⟨_,_,rfl⟩,QJe ⟨rfl,by simpa using h,rfl⟩⟩
 refine Qoa (QEd (nil0 (Qgq rfl ⟨rfl,by simpa using h⟩)))
theorem Qgh (g gs gr at_ n:Nat) (s:List UInt8) (w:World) (hn:n<=64) (ha:at_<=8 * s.length) (hs:s.length<=1000000000000000)
  (hL:Heap w (rd g gs s at_).foot w [rd g gs s at_]) (hc:w.cell? ⟨gr,0,none⟩=some (.pointer (some ⟨g,0,none⟩))) :
  DoesP Tryz.prog 98 #[.int .i64 n,.pointer (some ⟨gr,0,none⟩)] w
   (fun v w'=>at_+n<=8 * s.length/\Heap w (rd g gs s at_).foot w' [rd g gs s (at_+n)]/\v=.int .u64 (numB (((Qam s).drop at_).take n)))
   (fun c w'=>w'=w/\8 * s.length < at_+n/\c=Qv7 10):=by
 refine Qka (args:=[.int .i64 n,.pointer (some ⟨gr,0,none⟩)]) 18 Tryz.func98 rfl rfl (of_decide_eq_true rfl) ?_;simp only [Env.ofArgs];refine GS [0,1] ?_;refine GQ [4,5] fun K hK=>?_;refine ⟨_,hc,?_⟩;refine MemK_call Tryz.call87 ?_;refine Qs ?_;refine CallK.mk (Qe5 g gs s at_ n w hn ha hs hL) ?_;rintro v w2 (⟨h1,rfl,rfl⟩ | ⟨h1,hH,rfl⟩)
 ·
  skip
  apply hK;clear hK;refine GS [4,5,13] ?_;(repeat with_reducible refine Qf4 ?_);refine Qi5 rfl rfl (fun h=>?_) (fun h=>by simp at h);(repeat with_reducible refine Qf4 ?_);refine Qft [] [3] (by kernel_rfl) fun K hK=>?_;simp only [go_sem,List.take_succ_cons,List.take_zero,List.drop_succ_cons,List.drop_zero,↓reduceIte,reduceEqDiff];refine Qkb ?_;refine Qs ?_;exact ⟨⟨_,_,rfl⟩,QJe ⟨rfl,h1,rfl⟩⟩
 skip
 apply hK;clear hK;refine GS [4,5,13] ?_;(repeat with_reducible refine Qf4 ?_);refine Qi5 rfl rfl (fun h=>by simp at h) (fun h=>Qoa ?_);refine GS [3] ?_;exact QJd (ret0 (VX_ret1 rfl rfl ⟨h1,hH,rfl⟩))
set_option maxHeartbeats 2000000
abbrev pt (g:Nat):Value:=.pointer (some ⟨g,0,none⟩)
abbrev Qmo (gA gB gC gD:Nat) (sum row tn e:Value):Res:=Res.bag [Res.blk gA 31 [sum],Res.blk gB 3 [row],Res.blk gC 3 [tn],Res.blk gD 25 [e]]
theorem Qp9 (gA gB gC gD:Nat) (w:World):∀ n,CallsDIn Fence.wide 0 Tryz.prog 97 #[pt gA,pt gB,pt gC,pt gD] .returning (w.drewN n) (fun e2 u2 w'=>(∃ x,e2=.returned x)/\u2=.returning/\∃ w1 m,w'=w1.drewN m/\w1=w):=by
 refine Qqv (args:=[pt gA,pt gB,pt gC,pt gD]) (v:=.nilIface) (N:=20) Tryz.func97 rfl rfl rfl (by simp) (of_decide_eq_true rfl) (of_decide_eq_true rfl) (.inl ⟨rfl,rfl,rfl⟩) ?_;simp only [Env.ofArgs];refine GQ [0,1,2,3,4,9] fun K hK=>?_;rw [QOz (P:=Tryz.prog) (T:=20) (ms:=#[]) rfl];apply hK;clear hK;refine Qi5 rfl rfl (fun h=>by simp at h) (fun h=>Qoa (QEd fun a n ha=>⟨.inl rfl,ha.defers,w,n,rfl,rfl⟩))
theorem Qv8 (e:Int) (gA gB gC gD:Nat) (a b c d:Value) (w:World) (hB:Heap w (Qmo gA gB gC gD a b c d).foot w [Qmo gA gB gC gD a b c d]) :
  ∀ n,CallsDIn Fence.wide 0 Tryz.prog 97 #[pt gA,pt gB,pt gC,pt gD] (.panicking (Qv7 e)) (w.drewN n) (fun e2 u2 w'=>(∃ x,e2=.returned x)/\u2=.panicking [{ v:=QF4 e,recovered:=true }] /\
   ∃ w1 m,w'=w1.drewN m/\Heap w (Qmo gA gB gC gD a b c d).foot w1 [Qmo gA gB gC gD (.int .u32 0) (.int .i64 0) (.int .i64 0) (.int .i64 e)]):=by
 refine Qqv (args:=[pt gA,pt gB,pt gC,pt gD]) (v:=QF4 e) (N:=20) Tryz.func97 rfl rfl rfl (by simp) (of_decide_eq_true rfl) (of_decide_eq_true rfl) (.inr ⟨rfl,rfl⟩) ?_;simp only [Env.ofArgs];refine GQ [0,1,2,3,4,9] fun K hK=>?_;rw [QRq (P:=Tryz.prog) (T:=20) (ms:=#[]) rfl];apply hK;clear hK;refine Qi5 rfl rfl (fun h=>?_) (fun h=>by simp at h);refine GQ [0,1,2,3,4,5,6] fun K hK=>?_;refine Qxl ?_;refine Qs ?_;refine ⟨_,rfl,by kernel_rfl,?_⟩;refine MemK_alloc (.agg #[.int .i64 0]) (by kernel_rfl) ?_;refine Qs ?_;have hH:=hB.box 141 [.int .i64 0];generalize w.alloc (Obj.cells [Value.int IntKind.i64 0].toArray 141)=w1 at *;generalize w.heap.size=g5 at *;refine MemK_store ?_;refine Qs ?_;refine StoreK_blk hH 0 (vs:=[.int .i64 e]) rfl rfl (by kernel_rfl) (by simp) (by simp [Value.oneCell']) fun w2 hH2=>?_;simp only [List.set_cons_zero,List.set_cons_succ] at hH2;apply hK;clear hK;clear hH;(repeat with_reducible refine Qf4 ?_);refine GS [0,1,2,3,5,16] ?_;(repeat with_reducible refine Qf4 ?_);refine Qi5 rfl rfl (fun h=>by simp at h) (fun h=>Qoa ?_);have hH3:=hH2.perm (.swap _ _ _);have hF:=(hH3.focus 0 rfl).unbag;simp only [List.append_nil] at hF;(repeat with_reducible refine Qf4 ?_);refine Qqu (holes (Qmo gA gB gC gD a b c d).foot w2) (Ext.hole _ _) [] [(0,true),(1,true),(2,false),(3,false),(4,false),(5,false)] (by kernel_rfl) (by kernel_rfl) (by kernel_rfl) (by simp only [Qa6,List.filterMap_cons,List.filterMap_nil,List.getElem?_cons_succ,List.getElem?_cons_zero,Option.map_some];rfl) fun K hK=>?_;refine Qs ?_;refine ⟨_,hH3.hole_at 0 1 rfl rfl (by omega) rfl,?_⟩;refine MemK_store ?_;refine Qs ?_;refine StoreK_blk hF 0 (vs:=[.int .u32 0]) rfl rfl (by kernel_rfl) (by simp) (by simp [Value.oneCell']) fun w3 hF1=>?_;simp only [List.set_cons_zero,List.set_cons_succ] at hF1;refine ⟨hF1.upd.extH,?_⟩;refine MemK_store ?_;refine Qs ?_;refine StoreK_blk hF1 1 (vs:=[.int .i64 0]) rfl rfl (by kernel_rfl) (by simp) (by simp [Value.oneCell']) fun w4 hF2=>?_;simp only [List.set_cons_zero,List.set_cons_succ] at hF2;refine ⟨hF2.upd.extH,?_⟩;refine MemK_store ?_;refine Qs ?_;refine StoreK_blk hF2 2 (vs:=[.int .i64 0]) rfl rfl (by kernel_rfl) (by simp) (by simp [Value.oneCell']) fun w5 hF3=>?_;simp only [List.set_cons_zero,List.set_cons_succ] at hF3;refine ⟨hF3.upd.extH,?_⟩;refine MemK_store ?_;refine Qs ?_;refine StoreK_blk hF3 3 (vs:=[.int .i64 e]) rfl rfl (by kernel_rfl) (by simp) (by simp [Value.oneCell']) fun w6 hF4=>?_;simp only [List.set_cons_zero,List.set_cons_succ] at hF4;refine ⟨hF4.upd.extH,?_⟩;apply hK;clear hK;have hF5:=Heap.bag (G:=[]) [Res.blk gA 31 [.int .u32 0],Res.blk gB 3 [.int .i64 0],Res.blk gC 3 [.int .i64 0],Res.blk gD 25 [.int .i64 e]] (by simpa using hF4);have hH4:=hH3.call1 0 rfl hF5;simp only [List.nil_append,List.set_cons_zero] at hH4;exact QEd fun a n ha=>⟨.inl rfl,ha.defers,w6,n,rfl,hH4.sub (.cons_cons _ (.cons _ (.refl _)))⟩
set_option maxHeartbeats 4000000
def hdS (l:List Bool) (a:Nat):Nat×Nat×Nat×Nat :=
 if l.length < a+48 then (0,0,0,10)
 else if numB ((l.drop a).take 48)≠54156738319193 then (0,0,0,120)
 else if l.length < a+80 then (0,0,0,10)
 else if l.length < a+81 then (0,0,0,10)
 else if numB ((l.drop (a+80)).take 1)≠0 then (0,0,0,120)
 else if l.length < a+105 then (0,0,0,10)
 else (numB ((l.drop (a+48)).take 32),numB ((l.drop (a+81)).take 24),a+105,0)
def hdV (x:Nat×Nat×Nat×Nat):Value:=.tuple #[.int .u32 x.1,.int .i64 x.2.1,.int .i64 x.2.2.1,.int .i64 x.2.2.2]
theorem QIy {C:Ctx}{e:Env}{w:World}{t u s r:Tmp}{T U S R:TypeId}{a b c d:Addr} (hr:C.fn.results=#[.cell t T,.cell u U,.cell s S,.cell r R]) (ht:e.find? t=some (.pointer (some a))) (hu:e.find? u=some (.pointer (some b))) (hs:e.find? s=some (.pointer (some c))) (hq:e.find? r=some (.pointer (some d)))
  (h:Qb9 C.P T (.pointer (some a)) w fun v=>Qb9 C.P U (.pointer (some b)) w fun x=>Qb9 C.P S (.pointer (some c)) w fun y=>Qb9 C.P R (.pointer (some d)) w fun z=>C.F (.tuple #[v,x,y,z]) w):VX C [] .ret e w:=by
 intro ac n ha;obtain ⟨v,hv,r1⟩:=Qef h;obtain ⟨x,hv,r2⟩:=Qef hv;obtain ⟨y,hv,r3⟩:=Qef hv;obtain ⟨z,hv,r4⟩:=Qef hv;refine ⟨ha.defers,.tuple #[v,x,y,z],?_,_,w,n,rfl,rfl,hv⟩;have h1:=ha.at_ t _ ht;rw [Array.getD_eq_getD_getElem?] at h1;have h2:=ha.at_ u _ hu;rw [Array.getD_eq_getD_getElem?] at h2;have h3:=ha.at_ s _ hs;rw [Array.getD_eq_getD_getElem?] at h3;have h4:=ha.at_ r _ hq;rw [Array.getD_eq_getD_getElem?] at h4;have q1:=r1 (w.drewN n) (Ext.drewN w n);have q2:=r2 (w.drewN n) (Ext.drewN w n);have q3:=r3 (w.drewN n) (Ext.drewN w n);have q4:=r4 (w.drewN n) (Ext.drewN w n);simp [results,hr,h1,h2,h3,h4,asAddr,q1,q2,q3,q4]
theorem Qjz {P:Program}{T:TypeId}{g T':Nat}{v:Value}{w:World}{K:Value->Prop} (h:(Res.blk g T' [v]).holds w) (hd:Qgv (P.underlying T)=false) (hs:(P.underlying T).isSome=true) (hk:K v):Qb9 P T (.pointer (some ⟨g,0,none⟩)) w K:=by
 have hc:w.cell? ⟨g,0,none⟩=some v:=Qae h rfl;unfold Qb9;cases hu:P.underlying T with
 | none=>simp [hu] at hs
 | some d =>
  cases d <;> first
   | (exfalso;simp [Qgv,hu] at hd;done)
   | exact ⟨v,hc,hk⟩
theorem QAn {w w1:World}{N g4 g5 g6 g7:Nat}{v x y z:Value}{G:List Res}{F:Value->World->Prop} (hH:Heap w [] w1 (Qmo g4 g5 g6 g7 v x y z::G)) (hF:F (.tuple #[v,x,y,z]) w1) :
  VX ⟨Tryz.prog,Tryz.f45,F,N⟩ [] .ret [(4,pt g4),(5,pt g5),(6,pt g6),(7,pt g7)] w1:=by
 have hU:=hH.unbag;refine QIy rfl rfl rfl rfl rfl ?_;refine Qjz (hU.at 0 rfl) (by kernel_rfl) (by kernel_rfl) ?_;refine Qjz (hU.at 1 rfl) (by kernel_rfl) (by kernel_rfl) ?_;refine Qjz (hU.at 2 rfl) (by kernel_rfl) (by kernel_rfl) ?_;exact Qjz (hU.at 3 rfl) (by kernel_rfl) (by kernel_rfl) hF
theorem Qg3 {w w1:World}{N g4 g5 g6 g7:Nat}{v x y z:Value}{G:List Res}{F:Value->World->Prop} (e:Nat) (hH:Heap w [] w1 (Qmo g4 g5 g6 g7 v x y z::G)) (hF:∀ w',Heap w [] w' []->F (hdV (0,0,0,e)) w') :
  ∀ a n,FitsG N [{ target:=.fn (.func 97) #[pt g4,pt g5,pt g6,pt g7],args:=#[] }] [(4,pt g4),(5,pt g5),(6,pt g6),(7,pt g7)] a ->
   Qxi Tryz.prog Tryz.f45 F noPn (.panic (Qv7 e)) a (w1.drewN n):=by
 refine Quo (args:=#[]) (cs:=#[pt g4,pt g5,pt g6,pt g7]) (u:=.panicking (Qv7 e)) (R:=fun w2=>Heap w1 (Qmo g4 g5 g6 g7 v x y z).foot w2 [Qmo g4 g5 g6 g7 (.int .u32 0) (.int .i64 0) (.int .i64 0) (.int .i64 e)]) Tryz.call97 (by simp) rfl (fun n=>?_) fun w2 hR=>?_
 ·
  have h:=Qv8 e g4 g5 g6 g7 v x y z w1 (hH.focus 0 rfl) n;obtain ⟨h1,h2⟩:=h;refine ⟨h1,fun c cs hm hr=>?_⟩;obtain ⟨e2,u2,w2,fr,⟨hx,hu,hw⟩,rest⟩:=h2 c cs hm hr;exact ⟨e2,u2,w2,fr,⟨hx,by rw [hu];rfl,hw⟩,rest⟩
 have hH2:=hH.call1 0 rfl hR;simp only [List.nil_append,List.set_cons_zero] at hH2;exact QAn hH2 (hF _ (hH2.sub (List.nil_sublist _)))
theorem QIz {w w1:World}{N g4 g5 g6 g7:Nat}{v x y z:Value}{G:List Res}{F:Value->World->Prop} (hH:Heap w [] w1 (Qmo g4 g5 g6 g7 v x y z::G)) (hF:F (.tuple #[v,x,y,z]) w1) :
  ∀ a n,FitsG N [{ target:=.fn (.func 97) #[pt g4,pt g5,pt g6,pt g7],args:=#[] }] [(4,pt g4),(5,pt g5),(6,pt g6),(7,pt g7)] a ->
   Qxi Tryz.prog Tryz.f45 F noPn .ret a (w1.drewN n):=by
 refine Quo (args:=#[]) (cs:=#[pt g4,pt g5,pt g6,pt g7]) (u:=.returning) (R:=fun w2=>w2=w1) Tryz.call97 (by simp) rfl (fun n=>?_) fun w2 hR=>?_
 ·
  have h:=Qp9 g4 g5 g6 g7 w1 n;obtain ⟨h1,h2⟩:=h;refine ⟨h1,fun c cs hm hr=>?_⟩;obtain ⟨e2,u2,w2,fr,⟨hx,hu,hw⟩,rest⟩:=h2 c cs hm hr;exact ⟨e2,u2,w2,fr,⟨hx,by rw [hu];rfl,hw⟩,rest⟩
 subst hR;exact QAn hH hF
set_option maxHeartbeats 4000000
theorem Qo7 {P:Program}{w0 w:World}{B:List Nat}{G:List Res} (hH:Heap w0 B w G) (i:Nat) {g:Nat}{T T':TypeId}{cs:List Value}{v:Value}{C:World->Prop} (hi:G[i]? = some (Res.blk g T' cs)) (hv:v.cells=cs.toArray) (hsz:P.szo T=some cs.length) (h1:∀ u∈cs,u.oneCell'=true)
  (h:C w):Qim P T (.pointer (some ⟨g,0,none⟩)) v w C:=by
 obtain ⟨fz,hg,hfz⟩:=hH.at i hi;obtain ⟨hlt,hget⟩:=Array.getElem?_eq_some_iff.1 hg;refine ⟨w,fun n=>?_,h⟩;rw [Qf8 (o:=0) hv hsz hg hfz (by simp) h1 n];have hc:cs.take 0++cs++cs.drop (0+cs.length)=cs:=by simp
 rw [hc]
 have:Qek w g cs T' fz=w:=by
  unfold Qek
  have:w.heap.setIfInBounds g (.cells cs.toArray T' fz)=w.heap:=by
   refine Array.ext_getElem? fun i=>?_;rw [Array.getElem?_setIfInBounds];split
   ·
    rename_i hi2;subst hi2;exact hg.symm
   rfl
  rw [this]
 rw [this]
theorem Qqa (s:List UInt8) (at_:Int) (w:World) (ha:I64 at_) (hs:s.length<=1000000000000000) :
  Does Tryz.prog 45 #[Str s,.int .i64 at_] w fun v w'=>Heap w [] w' []/\v=if at_ < 0∨8 * (s.length:Int) < at_ then hdV (0,0,0,2) else hdV (hdS (Qam s) at_.toNat):=by
 have hbl:=Qbd s;refine Qxj (args:=[Str s,.int .i64 at_]) 40 Tryz.func45 rfl rfl (of_decide_eq_true rfl) ?_;simp only [Env.ofArgs];refine GQ [0,1,4,5,6,7] fun K hK=>?_;refine MemK_alloc (.int .u32 0) (by kernel_rfl) ?_;refine Qs ?_;have hH:=(Heap.start w).box 31 [.int .u32 0];generalize w.alloc (Obj.cells [Value.int IntKind.u32 0].toArray 31)=w1 at *;generalize w.heap.size=g4 at *;refine MemK_alloc (.int .i64 0) (by kernel_rfl) ?_;refine Qs ?_;have hH2:=hH.box 3 [.int .i64 0];generalize w1.alloc (Obj.cells [Value.int IntKind.i64 0].toArray 3)=w2 at *;generalize w1.heap.size=g5 at *;refine MemK_alloc (.int .i64 0) (by kernel_rfl) ?_;refine Qs ?_;have hH3:=hH2.box 3 [.int .i64 0];generalize w2.alloc (Obj.cells [Value.int IntKind.i64 0].toArray 3)=w3 at *;generalize w2.heap.size=g6 at *;refine MemK_alloc (.int .i64 0) (by kernel_rfl) ?_;refine Qs ?_;have hH4:=hH3.box 25 [.int .i64 0];generalize w3.alloc (Obj.cells [Value.int IntKind.i64 0].toArray 25)=w4 at *;generalize w3.heap.size=g7 at *;apply hK;clear hK
 have hHB:Heap w [] w4 [Qmo g4 g5 g6 g7 (.int .u32 0) (.int .i64 0) (.int .i64 0) (.int .i64 0)]:=Heap.bag (G:=[]) _ (by
  refine hH4.perm ?_;exact (List.reverse_perm [_,_,_,_]).symm)
 clear hH hH2 hH3 hH4;(repeat with_reducible refine Qf4 ?_);refine QBs [0,1,4,5,6,7] 1 rfl (by kernel_rfl) rfl fun K hK=>?_;simp only [go_sem,List.take_succ_cons,List.take_zero,List.drop_succ_cons,List.drop_zero,↓reduceIte,reduceEqDiff];refine ⟨_,_,_,rfl,?_⟩;refine hK _ _ _ ?_;clear hK K;refine GQ [4,5,6,7,8] fun K hK=>?_;refine MemK_call Tryz.call86 ?_;refine Qs ?_;refine CallK.mk (Qd4 s at_ w4 ha (by omega)) ?_;rintro v w5 (⟨hbad,hHr,rfl⟩ | ⟨hgood,g,gs,hHr,rfl⟩)
 ·
  have hH5:=hHB.call0 hHr;simp only [List.nil_append] at hH5;clear hHB hHr;refine MemK_alloc (.pointer none) (by kernel_rfl) ?_;refine Qs ?_;have hH6:=hH5.box 130 [.pointer none];generalize w5.alloc (Obj.cells [Value.pointer none].toArray 130)=w6 at *;generalize w5.heap.size=g8 at *;refine MemK_store ?_;refine Qs ?_;refine StoreK_blk hH6 0 (vs:=[.pointer none]) rfl rfl (by kernel_rfl) (by simp) (by simp [Value.oneCell']) fun w7 hH7=>?_;simp only [List.set_cons_zero,List.set_cons_succ] at hH7;apply hK;clear hK;clear hH5 hH6;refine GQ [4,5,6,7,8,16] fun K hK=>?_;refine ⟨_,Qae (hH7.at 0 rfl) rfl,?_⟩;refine Qs ?_
  try rw [Qzo (P:=Tryz.prog) (T:=130) rfl]
  apply hK;clear hK;(repeat with_reducible refine Qf4 ?_);refine Qi5 rfl rfl (fun h=>?_) (fun h=>by simp at h);(repeat with_reducible refine Qf4 ?_);refine Qft [] [2] (by kernel_rfl) fun K hK=>?_;simp only [go_sem,List.take_succ_cons,List.take_zero,List.drop_succ_cons,List.drop_zero,↓reduceIte,reduceEqDiff];refine Qkb ?_;refine Qs ?_;refine ⟨⟨_,_,rfl⟩,fun a n hf=>Qg3 2 (hH7.perm (.swap _ _ _)) ?_ a n (hf.sel [4,5,6,7])⟩;intro w' hw';rw [if_pos hbad];exact ⟨hw',rfl⟩
 obtain ⟨at_,rfl⟩:∃ n:Nat,at_=n:=⟨at_.toNat,by omega⟩;rw [if_neg hgood,Int.toNat_natCast] at *;have hat:at_<=8 * s.length:=by omega
 clear hgood ha;have hH5:=hHB.call0 hHr;simp only [List.cons_append,List.nil_append] at hH5;clear hHB hHr;refine MemK_alloc (.pointer none) (by kernel_rfl) ?_;refine Qs ?_;have hH6:=hH5.box 130 [.pointer none];generalize w5.alloc (Obj.cells [Value.pointer none].toArray 130)=w6 at *;generalize w5.heap.size=g8 at *;refine MemK_store ?_;refine Qs ?_;refine StoreK_blk hH6 0 (vs:=[pt g]) rfl rfl (by kernel_rfl) (by simp) (by simp [Value.oneCell']) fun w7 hH7=>?_;simp only [List.set_cons_zero,List.set_cons_succ] at hH7;apply hK;clear hK;clear hH5 hH6;refine GQ [4,5,6,7,8,16] fun K hK=>?_;refine ⟨_,Qae (hH7.at 0 rfl) rfl,?_⟩;refine Qs ?_
 try rw [Qzo (P:=Tryz.prog) (T:=130) rfl]
 apply hK;clear hK;(repeat with_reducible refine Qf4 ?_);refine Qi5 rfl rfl (fun h=>by simp at h) (fun h=>Qoa ?_);refine GS [4,5,6,7,8,9] ?_;refine GS [4,5,6,7,8,9,10] ?_;(repeat with_reducible refine Qf4 ?_);refine Qft [4,5,6,7,8,9,10] [2,1] (by kernel_rfl) fun K hK=>?_;simp only [go_sem,List.take_succ_cons,List.take_zero,List.drop_succ_cons,List.drop_zero,↓reduceIte,reduceEqDiff];refine Qfu ?_;refine Qs ?_;refine CallP.mk Tryz.call98 (Qgh g gs g8 at_ 48 s w7 (by omega) hat hs (hH7.focus 1 rfl) (Qae (hH7.at 0 rfl) rfl)) ?_ ?_
 case' refine_2 =>
  rintro c w8 ⟨rfl,h1,rfl⟩ a n hf;refine Qg3 10 (hH7.perm (List.reverse_perm [_,_,_]).symm) ?_ a n (hf.sel [4,5,6,7]);intro w' hw';have:hdS (Qam s) at_=(0,0,0,10):=by rw [hdS,if_pos (by omega)]
  rw [this];exact ⟨hw',rfl⟩
 rintro v w8 ⟨h1,hHt,rfl⟩;have hH8:=hH7.call1 1 rfl hHt;simp only [List.nil_append,List.set_cons_zero,List.set_cons_succ] at hH8;clear hH7 hHt;generalize hm:numB (((Qam s).drop at_).take 48)=mg at *;simp only [go_sem,List.take_succ_cons,List.take_zero,List.drop_succ_cons,List.drop_zero,↓reduceIte,reduceEqDiff];refine Qfu ?_;refine Qs ?_;refine CallP.mk Tryz.call99 (Qlr (decide ((mg:Int)=54156738319193)) w8) ?_ ?_
 case' refine_2 =>
  rintro c w9 ⟨rfl,h2,rfl⟩ a n hf;simp only [decide_eq_false_iff_not] at h2;refine Qg3 120 (hH8.perm (List.reverse_perm [_,_,_]).symm) ?_ a n (hf.sel [4,5,6,7]);intro w' hw';have:hdS (Qam s) at_=(0,0,0,120):=by rw [hdS,if_neg (by omega),if_pos (by rw [hm];omega)]
  rw [this];exact ⟨hw',rfl⟩
 rintro v w9 ⟨rfl,h2⟩;simp only [decide_eq_true_eq] at h2;obtain rfl:mg=54156738319193:=by omega
 clear h2
 have hS:hdS (Qam s) at_=if (Qam s).length < at_+80 then (0,0,0,10)
   else if (Qam s).length < at_+81 then (0,0,0,10)
   else if numB (((Qam s).drop (at_+80)).take 1)≠0 then (0,0,0,120)
   else if (Qam s).length < at_+105 then (0,0,0,10)
   else (numB (((Qam s).drop (at_+48)).take 32),numB (((Qam s).drop (at_+81)).take 24),at_+105,0):=by
  rw [hdS,if_neg (by omega),if_neg (by rw [hm];omega)]
 apply hK;clear hK;rw [hS];clear hS hm;(repeat with_reducible refine Qf4 ?_);refine Qft [4,5,6,7,8,9,10] [1] (by kernel_rfl) fun K hK=>?_;simp only [go_sem,List.take_succ_cons,List.take_zero,List.drop_succ_cons,List.drop_zero,↓reduceIte,reduceEqDiff];refine Qfu ?_;refine Qs ?_;refine CallP.mk Tryz.call98 (Qgh g gs g8 (at_+48) 32 s w9 (by omega) (by omega) hs (hH8.focus 1 rfl) (Qae (hH8.at 0 rfl) rfl)) ?_ ?_
 case' refine_2 =>
  rintro c w8 ⟨rfl,h1,rfl⟩ a n hf;refine Qg3 10 (hH8.perm (List.reverse_perm [_,_,_]).symm) ?_ a n (hf.sel [4,5,6,7]);intro w' hw';rw [if_pos (by omega)];exact ⟨hw',rfl⟩
 rintro v w10 ⟨h2,hHt,rfl⟩;have hH9:=hH8.call1 1 rfl hHt;simp only [List.nil_append,List.set_cons_zero,List.set_cons_succ] at hH9;clear hH8 hHt;have hlt:=Qe0 (((Qam s).drop (at_+48)).take 32);have hlt2:=Nat.pow_le_pow_right (show 0 < 2 by omega) (show (((Qam s).drop (at_+48)).take 32).length<=32 by rw [List.length_take];omega);generalize hsum:numB (((Qam s).drop (at_+48)).take 32)=sum at *;have hHA:=hH9.perm (List.reverse_perm [_,_,_]).symm;simp only [List.reverse_cons,List.reverse_nil,List.nil_append,List.cons_append] at hHA;have hHA:=hHA.unbag;simp only [List.cons_append,List.nil_append] at hHA;simp only [go_sem,List.take_succ_cons,List.take_zero,List.drop_succ_cons,List.drop_zero,↓reduceIte,reduceEqDiff];rw [show ((sum:Int) % 4294967296)=sum by omega];refine MemK_store ?_;refine Qs ?_;refine StoreK_blk hHA 0 (vs:=[.int .u32 (sum:Nat)]) rfl rfl (by kernel_rfl) (by simp) (by simp [Value.oneCell']) fun w11 hHC=>?_;simp only [List.set_cons_zero,List.set_cons_succ] at hHC;apply hK;clear hK;rw [if_neg (by omega)];have hHD:Heap w [] w11 (Qmo g4 g5 g6 g7 (.int .u32 sum) (.int .i64 0) (.int .i64 0) (.int .i64 0)::rd g gs s (at_+48+32)::[Res.blk g8 130 [pt g]]):=Heap.bag _ hHC;clear hHC hHA hH9;(repeat with_reducible refine Qf4 ?_);refine Qft [4,5,6,7,8,9] [2,1] (by kernel_rfl) fun K hK=>?_;simp only [go_sem,List.take_succ_cons,List.take_zero,List.drop_succ_cons,List.drop_zero,↓reduceIte,reduceEqDiff];refine Qfu ?_;refine Qs ?_;refine CallP.mk Tryz.call98 (Qgh g gs g8 (at_+48+32) 1 s w11 (by omega) (by omega) hs (hHD.focus 1 rfl) (Qae (hHD.at 2 rfl) rfl)) ?_ ?_
 case' refine_2 =>
  rintro c w8 ⟨rfl,h1,rfl⟩ a n hf;refine Qg3 10 hHD ?_ a n (hf.sel [4,5,6,7]);intro w' hw';rw [if_pos (by omega)];exact ⟨hw',rfl⟩
 rintro v w12 ⟨h3,hHt,rfl⟩;have hHE:=hHD.call1 1 rfl hHt;simp only [List.nil_append,List.set_cons_zero,List.set_cons_succ] at hHE;clear hHD hHt;rw [show at_+48+32=at_+80 by omega] at hHE h3 ⊢;generalize hbt:numB (((Qam s).drop (at_+80)).take 1)=bt at *;simp only [go_sem,List.take_succ_cons,List.take_zero,List.drop_succ_cons,List.drop_zero,↓reduceIte,reduceEqDiff];refine Qfu ?_;refine Qs ?_;refine CallP.mk Tryz.call99 (Qlr (decide ((bt:Int)=0)) w12) ?_ ?_
 case' refine_2 =>
  rintro c w9 ⟨rfl,h2,rfl⟩ a n hf;simp only [decide_eq_false_iff_not] at h2;refine Qg3 120 hHE ?_ a n (hf.sel [4,5,6,7]);intro w' hw';rw [if_neg (by omega),if_pos (by omega)];exact ⟨hw',rfl⟩
 rintro v w13 ⟨rfl,h4⟩;simp only [decide_eq_true_eq] at h4;obtain rfl:bt=0:=by omega
 apply hK;clear hK;rw [if_neg (by omega),if_neg (by simp)];(repeat with_reducible refine Qf4 ?_);refine Qft [4,5,6,7,8] [1] (by kernel_rfl) fun K hK=>?_;simp only [go_sem,List.take_succ_cons,List.take_zero,List.drop_succ_cons,List.drop_zero,↓reduceIte,reduceEqDiff];refine Qfu ?_;refine Qs ?_;refine CallP.mk Tryz.call98 (Qgh g gs g8 (at_+80+1) 24 s w13 (by omega) (by omega) hs (hHE.focus 1 rfl) (Qae (hHE.at 2 rfl) rfl)) ?_ ?_
 case' refine_2 =>
  rintro c w8 ⟨rfl,h1,rfl⟩ a n hf;refine Qg3 10 hHE ?_ a n (hf.sel [4,5,6,7]);intro w' hw';rw [if_pos (by omega)];exact ⟨hw',rfl⟩
 rintro v w14 ⟨h5,hHt,rfl⟩;have hHG:=hHE.call1 1 rfl hHt;simp only [List.nil_append,List.set_cons_zero,List.set_cons_succ] at hHG;clear hHE hHt hbt h4;rw [show at_+80+1=at_+81 by omega] at hHG h5 ⊢;have hlt3:=Qe0 (((Qam s).drop (at_+81)).take 24);have hlt4:=Nat.pow_le_pow_right (show 0 < 2 by omega) (show (((Qam s).drop (at_+81)).take 24).length<=24 by rw [List.length_take];omega);generalize hrow:numB (((Qam s).drop (at_+81)).take 24)=row at *;have hHI:=hHG.unbag;simp only [List.cons_append,List.nil_append] at hHI;simp only [go_sem,List.take_succ_cons,List.take_zero,List.drop_succ_cons,List.drop_zero,↓reduceIte,reduceEqDiff];refine ⟨I64.mk (by omega) (by omega),?_⟩;refine MemK_store ?_;refine Qs ?_;refine StoreK_blk hHI 1 (vs:=[.int .i64 (row:Nat)]) rfl rfl (by kernel_rfl) (by simp) (by simp [Value.oneCell']) fun w15 hHJ=>?_;simp only [List.set_cons_zero,List.set_cons_succ] at hHJ;apply hK;clear hK;rw [if_neg (by omega)];clear hHI hHG
 have hHM:Heap w [] w15 (Res.bag [Res.blk g7 25 [.int .i64 0],Res.blk g6 3 [.int .i64 0]]::[Res.blk g4 31 [.int .u32 (sum:Nat)],Res.blk g5 3 [.int .i64 (row:Nat)],rd g gs s (at_+81+24),Res.blk g8 130 [pt g]]) :=
  Heap.bag [_,_] ((hHJ.front 2 rfl).front 3 rfl)
 clear hHJ;have hF:=(hHM.focus 0 rfl).unbag;simp only [List.append_nil] at hF;(repeat with_reducible refine Qf4 ?_);refine Qqu (holes (Res.bag [Res.blk g7 25 [.int .i64 0],Res.blk g6 3 [.int .i64 0]]).foot w15) (Ext.hole _ _) [4,5,6,7] [(0,true),(1,true),(2,true),(3,false),(4,false),(5,false),(6,false),(7,false)] (by kernel_rfl) (by kernel_rfl) (by kernel_rfl) (by simp only [Qa6,List.filterMap_cons,List.filterMap_nil,List.getElem?_cons_succ,List.getElem?_cons_zero,Option.map_some];rfl) fun K hK=>?_;refine Qs ?_;refine ⟨_,hHM.hole_at 0 1 rfl rfl (by omega) rfl,?_⟩;refine ⟨_,hHM.hole_at 0 2 rfl rfl (by omega) rfl,?_⟩;refine ⟨_,hHM.hole_at 0 4 rfl rfl (by omega) rfl,?_⟩;refine MemK_call Tryz.call100 ?_;refine Qs ?_;refine CallK.mk (Qoq g gs (at_+81+24) s w15 (hHM.at 3 rfl)) ?_;rintro v w16 ⟨rfl,rfl⟩;refine ⟨Ext.hole _ _,?_⟩;refine MemK_store ?_;refine Qs ?_;refine Qo7 hHM 1 (cs:=[.int .u32 (sum:Nat)]) rfl rfl (by kernel_rfl) (by simp [Value.oneCell']) ?_;refine ⟨Ext.hole _ _,?_⟩;refine MemK_store ?_;refine Qs ?_;refine Qo7 hHM 2 (cs:=[.int .i64 (row:Nat)]) rfl rfl (by kernel_rfl) (by simp [Value.oneCell']) ?_;refine ⟨Ext.hole _ _,?_⟩;refine MemK_store ?_;refine Qs ?_;refine StoreK_blk hF 1 (vs:=[.int .i64 (at_+81+24:Nat)]) rfl rfl (by kernel_rfl) (by simp) (by simp [Value.oneCell']) fun w17 hF1=>?_;simp only [List.set_cons_zero,List.set_cons_succ] at hF1;refine ⟨hF1.upd.extH,?_⟩;refine MemK_store ?_;refine Qs ?_;refine StoreK_blk hF1 0 (vs:=[.int .i64 0]) rfl rfl (by kernel_rfl) (by simp) (by simp [Value.oneCell']) fun w18 hF2=>?_;simp only [List.set_cons_zero,List.set_cons_succ] at hF2;refine ⟨hF2.upd.extH,?_⟩;apply hK;clear hK;have hF3:Heap w16 (Res.bag [Res.blk g7 25 [.int .i64 0],Res.blk g6 3 [.int .i64 0]]).foot w18 [Res.bag [Res.blk g7 25 [.int .i64 0],Res.blk g6 3 [.int .i64 (at_+81+24:Nat)]]]:=Heap.bag [_,_] hF2;have hHN:=(hHM.call1 0 rfl hF3).unbag;simp only [List.nil_append,List.set_cons_zero,List.cons_append] at hHN
 have hHO:Heap w [] w18 (Qmo g4 g5 g6 g7 (.int .u32 (sum:Nat)) (.int .i64 (row:Nat)) (.int .i64 (at_+81+24:Nat)) (.int .i64 0)::[rd g gs s (at_+81+24),Res.blk g8 130 [pt g]]) :=
  Heap.bag [_,_,_,_] ((((hHN.front 0 rfl).front 1 rfl).front 3 rfl).front 3 rfl)
 refine QJd fun a n hf=>QIz hHO ?_ a n hf;refine ⟨hHO.sub (List.nil_sublist _),?_⟩;rw [show at_+81+24=at_+105 by omega];rfl
set_option maxHeartbeats 4000000
def Qqb (bits:List Bool) (at_:Nat) (most:Int):Except Int (List UInt8×Nat×Nat) :=
 if (hdS bits at_).2.2.2≠0 then .error (hdS bits at_).2.2.2 else
 match Qfj bits (hdS bits at_).2.2.1 with
 | .error e=>.error e
 | .ok u=>match Qes bits u.2 (u.1.length+2) with
  | .error e=>.error e
  | .ok p=>match Qhn p.1.1 bits ((p.1.1.getD 0 []).length - 1) p.1.2 p.2 with
   | .error e=>.error e
   | .ok q =>
    if (unpS u.1 q.1 (hdS bits at_).2.1 most).2≠0 then .error (unpS u.1 q.1 (hdS bits at_).2.1 most).2
    else if Qdd (unpS u.1 q.1 (hdS bits at_).2.1 most).1≠(hdS bits at_).1 then .error 121
    else .ok ((unpS u.1 q.1 (hdS bits at_).2.1 most).1,(hdS bits at_).1,q.2)
def Qtd (s:List UInt8) (at_ most:Int):Except Int (List UInt8×Nat×Nat) :=
 if most < 1∨262144 < most∨at_ < 0∨8 * (s.length:Int) < at_ then .error 2 else Qqb (Qam s) at_.toNat most
def QQe (r:Except Int (List UInt8×Nat×Nat)):Value:=match r with
 | .ok r=>.tuple #[Str r.1,.int .u32 r.2.1,.int .i64 r.2.2,.int .i64 0]
 | .error e=>.tuple #[Str [],.int .u32 0,.int .i64 0,.int .i64 e]
theorem QQf (l:List Bool) (a:Nat):((hdS l a).2.2.2=0/\a+105<=l.length/\(hdS l a).2.2.1=a+105/\(hdS l a).1 < 4294967296/\(hdS l a).2.1 < 16777216)∨((hdS l a).2.2.2=10∨(hdS l a).2.2.2=120):=by
 unfold hdS;have h1:=Qe0 ((l.drop (a+48)).take 32);have h2:=Nat.pow_le_pow_right (show 0 < 2 by omega) (show ((l.drop (a+48)).take 32).length<=32 by rw [List.length_take];omega);have h3:=Qe0 ((l.drop (a+81)).take 24);have h4:=Nat.pow_le_pow_right (show 0 < 2 by omega) (show ((l.drop (a+81)).take 24).length<=24 by rw [List.length_take];omega)
 repeat' split
 all_goals first
  | (exact .inr (.inl rfl))
  | (exact .inr (.inr rfl))
  | (refine .inl ⟨rfl,by omega,rfl,?_,?_⟩ <;> simp only <;> omega)
theorem QI0:∀ (l out:List UInt8) (k:Nat),(decS out k l).2=0∨(decS out k l).1=[]:=by
 intro l
 induction l with
 | nil=>intro out k;rw [decS];split <;> simp
 | cons c l ih =>
  intro out k;rw [decS]
  repeat' split
  all_goals first | (right;rfl) | exact ih _ _
theorem QI1 (u:List UInt8) (l:List Nat) (row most:Int):(unpS u l row most).2=0∨(unpS u l row most).1=[]:=by
 unfold unpS
 repeat' split
 all_goals first | (right;rfl) | exact QI0 _ _ _
theorem QI2 (u:List UInt8) (l:List Nat) (row most:Int):(unpS u l row most).1.length<=262144:=by
 unfold unpS
 repeat' split
 all_goals first | simp | exact QNb _ _ _ (by simp)
theorem Qj7 (s:List UInt8) (at_ most:Int) (w:World) (ha:I64 at_) (hm:I64 most) (hs:s.length<=100000000000000) :
  Does Tryz.prog 18 #[Str s,.int .i64 at_,.int .i64 most] w fun v w'=>Heap w [] w' []/\v=QQe (Qtd s at_ most):=by
 have hbl:=Qbd s;have hhd:=fun w=>Qqa s at_ w ha (by omega);refine En [Str s,.int .i64 at_,.int .i64 most] 90 Tryz.func18 ?_;refine VS [0,1,2] ?_;refine VQ [0,1,2,22] fun K hK=>?_
 suffices out:∀ b:Bool,(b=true ↔ most < 1∨262144 < most)->K [(0,Str s),(1,.int .i64 at_),(2,.int .i64 most),(22,.bool b)] w by
  refine ⟨fun h=>out _ (by simp at h ⊢;omega),fun h=>out _ (by simp at h ⊢;omega)⟩
 intro b hb;apply hK;clear hK;refine Vi (fun h=>?_) (fun h=>VC_skip ?_)
 ·
  have hb:=hb.1 h;refine VS [6,7,8,9] ?_;refine VC_ret (Qit rfl rfl rfl rfl rfl ⟨Heap.start w,?_⟩);rw [Qtd,if_pos (by omega)];rfl
 have hmo:¬ (most < 1∨262144 < most):=fun hh=>by rw [hb.2 hh] at h;cases h
 clear hb h;refine VQ [0,1,2,10,11,12] fun K hK=>?_;refine MemK_call Tryz.call45 ?_;refine Qs ?_;refine CallK.mk (hhd w) ?_;rintro v w2 ⟨hH,rfl⟩;by_cases hat:at_ < 0∨8 * (s.length:Int) < at_
 ·
  rw [if_pos hat];unfold hdV;refine Qs ?_;apply hK;clear hK;refine VS [0,1,2,10,11,12,32] ?_;refine Qaf rfl rfl (fun h=>?_) (fun h=>by simp at h);refine VS [6,7,8,9] ?_;refine VC_ret (Qit rfl rfl rfl rfl rfl ⟨hH,?_⟩);rw [Qtd,if_pos (by omega)];rfl
 rw [if_neg hat];have hF:Qtd s at_ most=Qqb (Qam s) at_.toNat most:=by rw [Qtd,if_neg (by omega)]
 rw [hF] at hK;obtain ⟨at_,rfl⟩:∃ n:Nat,at_=n:=⟨at_.toNat,by omega⟩;rw [Int.toNat_natCast] at hK ⊢;have hok:=QQf (Qam s) at_;have hE:Qqb (Qam s) at_ most=Qqb (Qam s) at_ most:=rfl
 conv at hE=>rhs;unfold Qqb
 generalize Qqb (Qam s) at_ most=res at *;clear hF hat hhd;generalize hdS (Qam s) at_=hd at *;obtain ⟨sum,row,to,e⟩:=hd;simp only at hok hE;unfold hdV;refine Qs ?_;apply hK;clear hK;refine VS [0,1,2,10,11,12,32] ?_;refine VD (fun h=>?_) (fun h=>?_)
 ·
  refine VS [6,7,8,9] ?_;refine VC_ret (Qit rfl rfl rfl rfl rfl ⟨hH,?_⟩);rw [hE,if_pos (by omega)];rfl
 obtain rfl:e=0:=by omega
 rw [if_neg (by simp)] at hE
 obtain ⟨_,h1,rfl,h2,h3⟩:(0:Nat)=0/\at_+105<=(Qam s).length/\to=at_+105/\sum < 4294967296/\row < 16777216:=by
  rcases hok with hok | hok
  ·
   exact hok
  omega
 clear hok h;refine VC_skip ?_;have hst:=fun w=>Qvy s (at_+105) (by omega) (by omega) w;generalize hbits:Qam s=bits at *;refine VQ [0,1,2,10,11,12,13] fun K hK=>?_;refine MemK_call Tryz.call46 ?_;refine Qs ?_;refine CallK.mk (hst w2) ?_;rintro v w3 ⟨hHs,rfl⟩;have hH2:=hH.call0 hHs;clear hH hHs hst;cases hU:Qfj bits (at_+105) with
 | error e =>
  rw [hU] at hE;have he:=Qv5 hU;unfold exV;refine Qs ?_;apply hK;clear hK;refine VS [0,1,2,10,11,12,13,42] ?_;refine Qaf rfl rfl (fun h=>?_) (fun h=>by simp at h;exact absurd h he);refine VS [6,7,8,9] ?_;refine VC_ret (Qit rfl rfl rfl rfl rfl ⟨hH2,?_⟩);rw [hE];rfl
 | ok u =>
  rw [hU] at hE;obtain ⟨u1,u2,u3⟩:=Qyx hU;obtain ⟨u,at2⟩:=u;simp only at hE u1 u2 u3;unfold exV;refine Qs ?_;apply hK;clear hK;refine VS [0,1,2,10,11,12,13,42] ?_;refine Qaf rfl rfl (fun h=>by simp at h) (fun h=>VC_skip ?_);have hpt:=fun w=>Qs5 s at2 (u.length+2) (by omega) (by omega) (by omega) w;rw [hbits] at hpt;refine VQ [0,1,2,10,11,12,13,14] fun K hK=>?_;(repeat first | refine Qo ?_ | refine Qp ?_);rw [show ((u.length:Int)+2)=((u.length+2:Nat):Int) by push_cast;rfl];refine MemK_call Tryz.call47 ?_;refine Qs ?_;refine CallK.mk (hpt w3) ?_;cases hP:Qes bits at2 (u.length+2) with
  | error e =>
   rw [hP] at hE;have he:=Qvl hP;rintro v w4 ⟨hHs,rfl⟩;have hH3:=hH2.call0 hHs;simp only [List.append_nil] at hH3;clear hH2 hHs;refine MemK_alloc (.agg #[.slice none 0 0,.slice none 0 0]) (by kernel_rfl) ?_;refine Qs ?_;have hH4:=hH3.box 65 (Qak none 0 0 none 0 0);have hpl:[Value.slice none 0 0,Value.slice none 0 0]=Qak none 0 0 none 0 0:=rfl;rw [hpl];generalize w4.alloc (Obj.cells (Qak none 0 0 none 0 0).toArray 65)=w5 at *;generalize w4.heap.size=gp at *;refine MemK_store ?_;refine Qs ?_;refine StoreK_blk hH4 0 (vs:=Qak none 0 0 none 0 0) rfl rfl (by kernel_rfl) (by simp [Qak]) (Qbt _ _ _ _ _ _) fun w6 hH5=>?_;apply hK;clear hK;refine VS [0,1,2,10,11,12,13,14,55] ?_;refine Qaf rfl rfl (fun h=>?_) (fun h=>by simp at h;exact absurd h he);refine VS [6,7,8,9] ?_;refine VC_ret (Qit rfl rfl rfl rfl rfl ⟨hH5.sub (by simp),?_⟩);rw [hE];rfl
  | ok p =>
   rw [hP] at hE;obtain ⟨m1,m2,m3⟩:=Qyq (by omega) hP;obtain ⟨⟨T,P⟩,at3⟩:=p;simp only at hE m1 m2 m3;rintro v w4 ⟨pv,hHs,hpa,rfl⟩;have hH3:=hH2.call0 hHs;simp only [List.append_nil] at hH3;clear hH2 hHs;obtain ⟨ta,tc,pa,pc,us,rfl,_⟩:=id hpa;have hpv:Value.agg #[.slice ta T.length tc,.slice pa P.length pc]=.agg (Qak ta T.length tc pa P.length pc).toArray:=rfl;simp only at hpa;rw [hpv] at hpa ⊢;refine Qs ?_;refine MemK_alloc (.agg #[.slice none 0 0,.slice none 0 0]) (by kernel_rfl) ?_;refine Qs ?_;have hHz:=(Heap.start w4).box 65 (Qak none 0 0 none 0 0);have hpl:[Value.slice none 0 0,Value.slice none 0 0]=Qak none 0 0 none 0 0:=rfl;rw [hpl];generalize w4.alloc (Obj.cells (Qak none 0 0 none 0 0).toArray 65)=w5 at *;generalize w4.heap.size=gp at *;refine MemK_store ?_;refine Qs ?_;refine StoreK_blk hHz 0 (vs:=Qak ta T.length tc pa P.length pc) rfl rfl (by kernel_rfl) (by simp [Qak]) (Qbt _ _ _ _ _ _) fun w6 hHy=>?_;have hHx:Heap w4 [] w6 [Res.blk gp 65 (Qak ta T.length tc pa P.length pc)]:=hHy;have hH4:=hH3.call0 hHx;simp only [List.singleton_append] at hH4;have hpa2:=hpa.keep hHx;clear hHz hHy hHx hH3 hpa;apply hK;clear hK;refine VS [0,1,2,10,11,12,13,14,55] ?_;refine Qaf rfl rfl (fun h=>by simp at h) (fun h=>VC_skip ?_);have hgt:=Qvq _ T P m1 s at3 (by omega) (by omega) w6 hpa2;rw [hbits] at hgt;refine VQ [1,2,10,11,12,13,15] fun K hK=>?_;refine ⟨Qak ta T.length tc pa P.length pc,⟨rfl,blk_reads (hH4.at 0 rfl)⟩,?_⟩;refine MemK_call Tryz.call48 ?_;refine Qs ?_;refine CallK.mk hgt ?_;cases hG:Qhn T bits ((T.getD 0 []).length - 1) P at3 with
   | error e =>
    rw [hG] at hE;have he:=QCu _ _ _ hG;rintro v w7 ⟨hHs,rfl⟩;have hH5:=hH4.call0 hHs;apply hK;clear hK;refine VS [1,2,10,11,12,13,15,66] ?_;refine Qaf rfl rfl (fun h=>?_) (fun h=>by simp at h;exact absurd h he);refine VS [6,7,8,9] ?_;refine VC_ret (Qit rfl rfl rfl rfl rfl ⟨hH5.sub (by simp),?_⟩);rw [hE];rfl
   | ok q =>
    rw [hG] at hE;obtain ⟨n1,n2,n3,n4,n5,n6⟩:=m1;obtain ⟨g1,g2,g3⟩:=QF1 (N:=(T.getD 0 []).length) (fun t ht=>(n5 _ (by rw [List.getD_eq_getElem?_getD,List.getElem?_eq_getElem ht];exact List.getElem_mem ht)).1) _ _ _ n6 (by omega) hG;obtain ⟨q,at4⟩:=q;simp only at hE g1 g2 g3;rintro v w7 ⟨aq,cq,hHs,rfl⟩;have hH5:=hH4.call0 hHs;simp only [List.singleton_append] at hH5;clear hH4 hHs hgt hpa2;refine Qs ?_;apply hK;clear hK;refine VS [1,2,10,11,12,13,15,66] ?_;refine Qaf rfl rfl (fun h=>by simp at h) (fun h=>VC_skip ?_);have hup:=fun w h=>Qtc u q row most aq cq (by omega) (by omega) (fun x hx=>by have:=g1 x hx;omega) (I64.mk (by omega) (by omega)) hm w h;have hue:=QI1 u q row most;have hul:=QI2 u q row most;generalize unpS u q row most=X at *;obtain ⟨txt,e⟩:=X;simp only at hE hue hul hup;refine VQ [1,10,12,16] fun K hK=>?_;refine MemK_call Tryz.call49 ?_;refine Qs ?_;refine CallK.mk (hup w7 (Qao (hH5.at 0 rfl))) ?_;rintro v w8 ⟨hHs,rfl⟩;have hH6:=hH5.call0 hHs;simp only [List.nil_append] at hH6;clear hH5 hHs hup;apply hK;clear hK;refine VQ [1,10,12,16,83] fun K hK=>?_
    suffices out:∀ b:Bool,∀ w9,Heap w [] w9 []->(b=true ↔ e=0/\Qdd txt≠sum)->K [(1,.int .i64 at4),(10,.int .u32 sum),(12,.int .i64 e),(16,Str txt),(83,.bool b)] w9 by
     refine ⟨fun h=>?_,fun h=>out _ _ (hH6.sub (by simp)) (by simp at h ⊢;intro h';exact absurd h' h)⟩;refine MemK_call Tryz.call21 ?_;refine Qs ?_;refine CallK.mk (Qvv txt w8 (by omega)) ?_;rintro v w9 ⟨hHs,rfl⟩;have hH7:=hH6.call0 hHs;refine Qs ?_;exact out _ _ (hH7.sub (by simp)) (by simp [h];omega)
    intro b w9 hH7 hb;apply hK;clear hK;(repeat refine Qar ?_);refine Qde [1,10,12,16] (fun e' w'=>∃ x:Int,Is e' [(1,.int .i64 at4),(10,.int .u32 sum),(12,.int .i64 x),(16,Str txt)]/\Is w' w9/\x=if b=true then 121 else e) ?_ ?_
    ·
     refine Vi (fun h=>?_) (fun h=>?_)
     ·
      refine VS [1,10,12,16] ?_;refine Qaa ?_;refine Qs ?_;exact ⟨121,rfl,rfl,by simp [h]⟩
     refine VC_skip (Qaa ?_);refine Qs ?_;exact ⟨e,rfl,rfl,by simp [h]⟩
    rintro e' w' ⟨x,rfl,rfl,hx⟩;refine VS [1,10,12,16,85] ?_;refine VD (fun h=>?_) (fun h=>VC_skip ?_)
    ·
     refine VS [6,7,8,9] ?_;refine VC_ret (Qit rfl rfl rfl rfl rfl ⟨hH7,?_⟩);rw [hE];by_cases hb2:b=true
     ·
      have h2:=hb.1 hb2;rw [if_pos hb2] at hx;rw [if_neg (by simp [h2.1]),if_pos h2.2,hx];rfl
     rw [if_neg hb2] at hx;rw [if_pos (by rw [<- hx];exact h),hx];rfl
    refine VS [6,7,8,9] ?_;refine VC_ret (Qit rfl rfl rfl rfl rfl ⟨hH7,?_⟩);have hb2:¬ b=true:=fun hb2=>by rw [if_pos hb2] at hx;omega
    rw [if_neg hb2] at hx;have he0:e=0:=by omega
    rw [hE,if_neg (by simp [he0]),if_neg (fun hc=>hb2 (hb.2 ⟨he0,hc⟩))];rfl
theorem QF5 (out:List UInt8) (same:Nat) (c:UInt8) (s:List UInt8) (h:same≠4) (hl:out.length < 262144) :
  decS out same (c::s)=decS (out++[c]) (if 0 < same/\out.getLastD 0=c then same+1 else 1) s:=by
 rw [decS,if_neg h,if_neg (by omega)]
theorem Qnv (out:List UInt8) (c:UInt8):(out++[c]).getLastD 0=c:=by simp
theorem QAo (b:UInt8) (s:List UInt8):∀ (m j:Nat) (out:List UInt8),1<=j->j+m<=4->out.getLastD 0=b->out.length+m<=262144 ->
  decS out j (List.replicate m b++s)=decS (out++List.replicate m b) (j+m) s
 | 0,j,out,_,_,_,_=>by simp
 | m+1,j,out,h1,h2,h3,h4=>by
  rw [List.replicate_succ,List.cons_append,QF5 _ _ _ _ (by omega) (by omega),if_pos ⟨by omega,h3⟩,
   QAo b s m (j+1) (out++[b]) (by omega) (by omega) (Qnv _ _) (by simp;omega),List.append_assoc]
  rw [show j+1+m=j+(m+1) by omega];rfl
theorem QF6 (b:UInt8) (s out:List UInt8) (m same:Nat) (h1:1<=m) (h2:m<=4) (hs:same<=3) (hb:0 < same->out.getLastD 0≠b) (hl:out.length+m<=262144) :
  decS out same (List.replicate m b++s)=decS (out++List.replicate m b) m s:=by
 obtain ⟨m,rfl⟩:∃ k,m=k+1:=⟨m - 1,by omega⟩
 rw [List.replicate_succ,List.cons_append,QF5 _ _ _ _ (by omega) (by omega),if_neg (fun h=>hb h.1 h.2),
  QAo b s m 1 (out++[b]) (by omega) (by omega) (Qnv _ _) (by simp;omega),List.append_assoc,Nat.add_comm 1 m]
 rfl
theorem Qv9 (b:UInt8):∀ (l:List UInt8) (n:Nat),n<=lead b l->l.take n=List.replicate n b
 | [],n,h=>by simp [lead] at h;subst h;rfl
 | c::l,0,_=>rfl
 | c::l,n+1,h=>by
  simp only [lead] at h;by_cases hc:c=b
  ·
   rw [if_pos hc] at h;rw [List.take_succ_cons,Qv9 b l n (by omega),hc];rfl
  rw [if_neg hc] at h;omega
theorem QAp (b:UInt8) (l:List UInt8) (n:Nat) (h:n<=Qfm (b::l)):(b::l).take n=List.replicate n b:=by
 simp only [Qfm] at h;cases n with
 | zero=>rfl
 | succ n=>rw [List.take_succ_cons,Qv9 b l n (by omega)];rfl
theorem QNd (b:UInt8) (l:List UInt8) (h:Qfm (b::l) < 255):(b::l)[Qfm (b::l)]? ≠ some b:=by
 simp only [Qfm] at h ⊢;rw [show min 255 (lead b l+1)=lead b l+1 by omega];exact QIr b l
theorem QNe:∀ (f:Nat) (l out:List UInt8) (same:Nat),l.length<=f->out.length+l.length<=262144->same<=3->(0 < same->∀ b,l[0]? = some b->out.getLastD 0≠b) ->
  decS out same (enc l)=(out++l,0):=by
 intro f
 induction f with
 | zero =>
  intro l out same h1 h2 h3 h4;have:l=[]:=List.eq_nil_of_length_eq_zero (by omega);subst this;rw [Qo5,decS,if_neg (by omega),List.append_nil]
 | succ f ih =>
  intro l out same h1 h2 h3 h4;cases l with
  | nil=>rw [Qo5,decS,if_neg (by omega),List.append_nil]
  | cons b l =>
   have hp:=Qf7 (b::l) (by simp);have hle:=Qjy (b::l);have htk:=QAp b l (Qfm (b::l)) (Nat.le_refl _);have htk4:=QAp b l 4;have hend:=QNd b l;rw [Qik (b::l) (by simp)];generalize Qfm (b::l)=n at *;have hd:(b::l).take n++(b::l).drop n=b::l:=List.take_append_drop _ _;rw [htk] at hd;have hdl:((b::l).drop n).length=(b::l).length - n:=List.length_drop;simp only [List.length_cons] at h1 h2 hle hdl;have h4':0 < same->out.getLastD 0≠b:=fun h=>h4 h b rfl;by_cases hn:n < 4
   ·
    rw [Qeb,if_pos hn,htk,QF6 b _ out n same hp (by omega) h3 h4' (by omega),
     ih _ (out++List.replicate n b) n (by omega) (by simp only [List.length_append,List.length_replicate];omega) (by omega) ?_,List.append_assoc,hd]
    intro _ c hc hlast
    have e:(out++List.replicate n b).getLastD 0=b:=by
     obtain ⟨k,rfl⟩:∃ k,n=k+1:=⟨n - 1,by omega⟩;rw [List.replicate_succ',<- List.append_assoc,Qnv]
    rw [e] at hlast;rw [List.getElem?_drop,Nat.add_zero] at hc;exact hend (by omega) (by rw [hc,hlast])
   rw [Qeb,if_neg hn,htk4 (by omega),List.append_assoc,QF6 b _ out 4 same (by omega) (by omega) h3 h4' (by omega)];rw [List.singleton_append,decS,if_pos rfl];have e1:(UInt8.ofNat (n - 4)).toNat=n - 4:=by simp;omega
   have e2:(out++List.replicate 4 b).getLastD 0=b:=by
    rw [show List.replicate 4 b=List.replicate 3 b++[b] from rfl,<- List.append_assoc,Qnv]
   rw [e1,e2,if_neg (by simp only [List.length_append,List.length_replicate];omega),
    ih _ _ 0 (by omega) (by simp only [List.length_append,List.length_replicate];omega) (by omega) (fun h=>by omega)]
   rw [List.append_assoc,List.append_assoc,<- List.append_assoc (List.replicate 4 b),List.replicate_append_replicate,show 4+(n - 4)=n by omega,hd]
theorem QCx (l:List UInt8) (h:l.length<=262144):decS [] 0 (enc l)=(l,0):=by
 have:=QNe l.length l [] 0 (Nat.le_refl _) (by simpa using h) (by omega) (fun h=>by omega);simpa using this
def Ahead (out:List UInt8) (same:Nat) (s:List UInt8):Prop:=same<=3/\(0 < same->same+lead (out.getLastD 0) s<=3)
theorem Ahead.zero (out s:List UInt8):Ahead out 0 s:=⟨by omega,fun h=>by omega⟩
set_option maxHeartbeats 4000000
set_option maxHeartbeats 4000000
set_option maxHeartbeats 4000000
def badT (i:Nat) (c:UInt8):Prop:=(i < 3/\c.toNat≠(([66,90,104]:List UInt8).getD i 0).toNat)∨(i=3/\(c.toNat < 49∨57 < c.toNat))
instance (i:Nat) (c:UInt8):Decidable (badT i c):=by unfold badT;infer_instance
set_option maxHeartbeats 4000000
set_option maxHeartbeats 4000000
set_option maxHeartbeats 4000000
theorem QJo {T n cap:Nat}{a:Option Addr}{xs:List Value}{w:World} (h:(Res.row T 1 a n cap xs).holds w):SL w a n cap xs:=by
 refine ⟨Qao h,(Qr5 h).1,fun ad e=>?_⟩;obtain ⟨_,_,_,h4⟩:=h;rcases h4 with ⟨h5,_,_⟩ | ⟨g,_,_,h5,_⟩
 ·
  rw [h5] at e;cases e
 rw [h5] at e;cases e;rfl
set_option maxHeartbeats 4000000
theorem SL.drop {w:World}{a:Option Addr}{n c:Nat}{xs:List Value} (h:SL w a n c xs) (k:Nat) (hk:k<=n):SL w (if c=k then a else a.map fun x=>x.add k) (n - k) (c - k) (xs.drop k):=by
 have h1:=h.cut k (n - k) (by omega);have hl:xs.length=n:=by have:=h.1.1;omega
 rw [List.take_of_length_le (by rw [List.length_drop];omega)] at h1;refine ⟨h1,by have:=h.2.1;omega,fun ad e=>?_⟩;split at e
 ·
  exact h.2.2 ad e
 cases a with
 | none=>cases e
 | some x =>
  have h3:=h.2.2 x rfl;obtain ⟨b,o,s⟩:=x;simp only at h3;subst h3;cases e;simp [Qa8]
theorem QCy (s:List UInt8) (a:List Nat):Qeg s a []=a:=by
 cases a with
 | nil=>rw [Qeg]
 | cons x a=>rw [Qeg]
theorem Qwa (l:List UInt8) (a b:List Nat) (hl:l.length<=1000000000000) (ha:∀ x∈a,x < l.length) (hb:∀ x∈b,x < l.length) (hal:a.length<=1000000000) (hbl:b.length<=1000000000) (pa pb:Option Addr) (ca cb:Nat) (w:World) (hsa:SL w pa a.length ca (Qag a)) (hsb:SL w pb b.length cb (Qag b)) :
  Does Tryz.prog 167 #[Str l,.slice pa a.length ca,.slice pb b.length cb] w fun v w'=>∃ ao co,Heap w [] w' [Res.row 3 1 ao (Qeg l a b).length co (Qag (Qeg l a b))]/\v=.slice ao (Qeg l a b).length co:=by
 have hml:(Qeg l a b).length=a.length+b.length:=by rw [(Qez l a b).length_eq,List.length_append]
 generalize hM:Qeg l a b=M at *;refine En [Str l,.slice pa a.length ca,.slice pb b.length cb] 45 Tryz.func167 ?_;refine VS [0,1,2] ?_;refine VS [0,1,2,7] ?_;have hN0:=(Heap.start w).nilRow 3 1;refine VB ?_;refine Qac [0,1,2,7] (fun m e w'=>∃ (x y o:List Nat) (px py po:Option Addr) (cx cy co:Nat),Is e [(0,Str l),(1,.slice px x.length cx),(2,.slice py y.length cy),(7,.slice po o.length co)]/\Heap w [] w' [Res.row 3 1 po o.length co (Qag o)]/\SL w px x.length cx (Qag x)/\SL w py y.length cy (Qag y)/\(∀ z∈x,z < l.length)/\(∀ z∈y,z < l.length)/\o++Qeg l x y=M/\m=x.length+y.length) (a.length+b.length) ?_ ?_
 ·
  refine Qs ?_;exact ⟨a,b,[],pa,pb,none,ca,cb,0,rfl,hN0,hsa,hsb,ha,hb,hM,rfl⟩
 clear hN0 hsa hsb ha hb hM;rintro m e w' ⟨x,y,o,px,py,po,cx,cy,co,rfl,hH,hsx,hsy,hx,hy,hM,rfl⟩
 have hol:o.length<=2000000000:=by
  have:=congrArg List.length hM;rw [List.length_append] at this;omega
 have hMl:o.length+(x.length+y.length)<=2000000000:=by
  have:=congrArg List.length hM;rw [List.length_append,(Qez l x y).length_eq,List.length_append] at this;omega
 refine VQ [0,1,2,7,15] fun K hK=>?_
 suffices out:∀ b:Bool,(b=true ↔ 0 < x.length/\0 < y.length)->K [(0,Str l),(1,.slice px x.length cx),(2,.slice py y.length cy),(7,.slice po o.length co),(15,.bool b)] w' by (repeat' (first | exact out _ _ (by first | omega | (simp;done) | (simp;omega)) | exact out _ (by first | omega | (simp;done) | (simp;omega)) | refine ⟨fun _=>?_,fun _=>?_⟩ | refine Qo ?_))
 intro b hb;apply hK;clear hK;refine Vi (fun h=>?_) (fun h=>?_)
 ·
  obtain ⟨g1,g2⟩:=hb.1 h;clear hb h;cases x with
  | nil=>simp at g1
  | cons u x =>
  cases y with
  | nil=>simp at g2
  | cons v y =>
  have hu:=hx u (by simp);have hv:=hy v (by simp);obtain ⟨qx,rfl⟩:=Qbb hsx.1 (by simp);obtain ⟨qy,rfl⟩:=Qbb hsy.1 (by simp);have c1:=Qbk (hH.rs' hsx.1) (i:=0) (by simp);have c2:=Qbk (hH.rs' hsy.1) (i:=0) (by simp);have e1:(u::x).getD 0 0=u:=rfl;have e2:(v::y).getD 0 0=v:=rfl;rw [e1] at c1;rw [e2] at c2;have hah:=Qxy l u v hl hu hv w';rw [Qeg] at hM;have hdx:=hsx.drop 1 (by simp);have hdy:=hsy.drop 1 (by simp);have hxc:=hsx.2.1;have hyc:=hsy.2.1;simp only [List.length_cons,Nat.add_sub_cancel,Qag,List.map_cons,List.drop_succ_cons,List.drop_zero] at hdx hdy hxc hyc g1 g2 hMl;generalize Qk7 l u v=bb at *;refine VC_skip ?_;refine Qab ?_;refine VL [0,1,2,7,23] 7 fun K hK=>?_;refine ⟨by simp,_,c1,by simp,_,c2,?_⟩;(try refine Qs ?_);refine MemK_call Tryz.call192 ?_;refine Qs ?_;refine CallK.mk hah ?_;rintro v' w2 ⟨rfl,rfl⟩;(try refine Qs ?_);apply hK;clear hK;cases bb with
  | true =>
   refine Qaf rfl rfl (fun h=>?_) (fun h=>by simp at h);rw [if_pos rfl] at hM;refine VQ [0,1,2,7] fun K hK=>?_;refine ⟨by simp,_,c1,?_⟩;(try refine Qs ?_);refine Qb4 (xs:=[.tmp 27]) Tryz.underlying36 sz3 rfl rfl rfl (by omega) ?_;refine Qs ?_;refine ⟨by simp [Value.cells],?_⟩;refine Qai ?_;refine Qs ?_;refine Qid hH 0 (u) rfl Tryz.underlying36 zi3 (by first | rfl | (simp;done) | omega | (simp;omega)) (fun h=>by (first | omega | (simp;done) | (simp;omega))) fun a' cap' w5 hc' hH2=>?_;(try refine Qs ?_);simp only [List.set_cons_zero] at hH2;apply hK;clear hK;refine VQ [0,1,2,7] fun K hK=>?_;refine ⟨⟨by omega,by simp only [List.length_cons];omega,by simp only [List.length_cons];omega⟩,?_⟩;apply hK;clear hK;refine Qah ?_;refine Qaa ?_;refine Qs ?_;exact ⟨x.length+(v::y).length,by simp,x,v::y,o++[u],_,_,a',_,_,cap',rfl,hH2,hdx,hsy,fun z hz=>hx z (by simp [hz]),hy,by rw [<- hM];simp,rfl⟩
  | false =>
   refine Qaf rfl rfl (fun h=>by simp at h) (fun h=>?_);rw [if_neg (by simp)] at hM;refine VQ [0,1,2,7] fun K hK=>?_;refine ⟨by simp,_,c2,?_⟩;(try refine Qs ?_);refine Qb4 (xs:=[.tmp 35]) Tryz.underlying36 sz3 rfl rfl rfl (by omega) ?_;refine Qs ?_;refine ⟨by simp [Value.cells],?_⟩;refine Qai ?_;refine Qs ?_;refine Qid hH 0 (v) rfl Tryz.underlying36 zi3 (by first | rfl | (simp;done) | omega | (simp;omega)) (fun h=>by (first | omega | (simp;done) | (simp;omega))) fun a' cap' w5 hc' hH2=>?_;(try refine Qs ?_);simp only [List.set_cons_zero] at hH2;apply hK;clear hK;refine VQ [0,1,2,7] fun K hK=>?_;refine ⟨⟨by omega,by simp only [List.length_cons];omega,by simp only [List.length_cons];omega⟩,?_⟩;apply hK;clear hK;refine Qah ?_;refine Qaa ?_;refine Qs ?_;exact ⟨(u::x).length+y.length,by simp,u::x,y,o++[v],_,_,a',_,_,cap',rfl,hH2,hsx,hdy,hx,fun z hz=>hy z (by simp [hz]),by rw [<- hM];simp,rfl⟩
 have hn:¬ (0 < x.length/\0 < y.length):=fun hh=>by rw [hb.2 hh] at h;cases h
 have hfin:(o++x)++y=M:=by
  rw [<- hM,List.append_assoc]
  congr 1
  cases x with
  | nil=>rw [Qeg];rfl
  | cons u x =>
   cases y with
   | nil=>rw [QCy,List.append_nil]
   | cons v y=>simp at hn
 clear hb h hn hM;refine Qad rfl ?_;refine VQ [6] fun K hK=>?_;refine Qai ?_;refine Qs ?_;refine Qb7 (zs:=#[.int .i64 0]) (bytes:=8) hH 0 rfl Tryz.underlying36 (by kernel_rfl) rfl (Qju (hH.rs' hsx.1) Tryz.underlying36) (Qc2 _) (fun h=>by omega) fun a1 c1 w5 hc' hH2=>?_;simp only [List.set_cons_zero] at hH2;rw [<- Qcq] at hH2;(try refine Qs ?_);refine Qai ?_;refine Qs ?_;refine Qb7 (zs:=#[.int .i64 0]) (bytes:=8) hH2 0 rfl Tryz.underlying36 (by kernel_rfl) rfl (Qju (hH2.rs' hsy.1) Tryz.underlying36) (Qc2 _) (fun h=>by omega) fun a2 c2 w6 hc' hH3=>?_;simp only [List.set_cons_zero] at hH3;rw [<- Qcq,hfin] at hH3;have hle:o.length+x.length+y.length=M.length:=by rw [<- hfin,List.length_append,List.length_append]
 rw [hle] at hH3 ⊢;(try refine Qs ?_);apply hK;clear hK;exact VC_ret (VX_ret1 rfl rfl ⟨a2,c2,hH3,rfl⟩)
open Go Go.Eng Go.Shelf Go.Sort
section
variable {α:Type} [Inhabited α] {enc:α->List Value}{k:Nat}
theorem Qwb (hk:∀ x,(enc x).length=k) (d:Array α) (j:Nat) (hj:j < d.size * k):(Qdq enc d.toList)[j]? = some (flatK enc k d)[j]! := by
 have hk0:0 < k:=by
  rcases Nat.eq_zero_or_pos k with h | h
  ·
   subst h;simp at hj
  exact h
 have h1:j / k < d.size:=(Nat.div_lt_iff_lt_mul hk0).2 hj;have h2:j % k < k:=Nat.mod_lt _ hk0
 have h3:d.toList[j / k]? = some d[j / k]! := by
  rw [List.getElem?_eq_getElem (by simpa using h1),getElem!_pos d _ h1];simp
 have h4:(enc d[j / k]!)[j % k]? = some (enc d[j / k]!)[j % k]! := by
  rw [List.getElem?_eq_getElem (by rw [hk];exact h2),getElem!_pos (enc d[j / k]!) (j % k) (by rw [hk];exact h2)]
 have h5:=Que hk d.toList (j / k) _ h3 (j % k) _ h4;rw [Nat.mul_comm,Nat.div_add_mod] at h5;rw [h5,get_flatK enc k d j hj]
theorem Qte (hk:∀ x,(enc x).length=k) {T g cap:Nat}{d:Array α}{w:World} (h:(Res.row T k (some ⟨g,0,none⟩) d.size cap (Qdq enc d.toList)).holds w):HoldsK enc k w g 0 d:=by
 intro j hj;rw [size_flatK] at hj;have hc:=Qaw h (Qwb hk d j hj);refine ⟨by rw [Nat.zero_add];exact hc,?_⟩;obtain ⟨h1,h2,h3,h4⟩:=h;rcases h4 with ⟨h5,_⟩ | ⟨g',rest,fz,h5,hg,hl,hf⟩
 ·
  cases h5
 cases h5;have hn:=Nat.mul_le_mul_right k h2;have:=hf j (by omega);obtain ⟨lo,hi⟩:=fz;simp only [World.frozen?,hg,Nat.zero_add];simpa using this
theorem Qyy (hk:∀ x,(enc x).length=k) {T g cap:Nat}{d d':Array α}{w:World} (h:(Res.row T k (some ⟨g,0,none⟩) d.size cap (Qdq enc d.toList)).holds w) (hs:d'.size=d.size) (n m:Nat) (os:Array Obj) :
  ∃ w1,sortWorldK enc k (w.drewN n) g 0 m d' os=(w1.drewN n).drewN m/\Heap w [g] w1 [Res.row T k (some ⟨g,0,none⟩) d'.size cap (Qdq enc d'.toList)]:=by
 obtain ⟨h1,h2,h3,h4⟩:=h;rcases h4 with ⟨h5,_⟩ | ⟨g',rest,fz,h5,hg,hl,hf⟩
 ·
  cases h5
 cases h5;refine ⟨Sort.grow (putRowK enc k w g 0 d') os,rfl,?_⟩;have hlt:g < w.heap.size:=(Array.getElem?_eq_some_iff.1 hg).1;have hsz:(putRowK enc k w g 0 d').heap.size=w.heap.size:=by simp [putRowK,Sort.putRow,Sort.mapBlock]
 have hne:∀ i,i < w.heap.size->i≠g->(Sort.grow (putRowK enc k w g 0 d') os).heap[i]? = w.heap[i]? := fun i hi hi2=>by
  rw [Sort.heap_grow_old _ _ (by omega)];simp only [putRowK,Sort.putRow,Sort.mapBlock,Array.getElem?_modify];rw [if_neg (fun e=>hi2 e.symm)]
 have hcs:(Qdq enc d'.toList).length=d'.size * k:=by rw [Quc hk];simp
 have hold:(Qdq enc d.toList).length=d.size * k:=h1;have hdk:d'.size * k=d.size * k:=by rw [hs]
 have hat:(Sort.grow (putRowK enc k w g 0 d') os).heap[g]? = some (.cells (Qdq enc d'.toList++rest).toArray T fz):=by
  rw [Sort.heap_grow_old _ _ (by omega)];simp only [putRowK,Sort.putRow,Sort.mapBlock,Array.getElem?_modify,if_true,hg,Option.map_some,Sort.onCells]
  congr 2
  apply Array.ext_getElem?;intro j;simp only [Sort.putCells,Array.getElem?_mapIdx,List.getElem?_toArray,size_flatK,Nat.zero_le,true_and,Nat.zero_add,Nat.sub_zero,id];by_cases hj:j < d'.size * k
  ·
   have e1:=Qwb hk d' j hj;rw [List.getElem?_append_left (by omega),List.getElem?_append_left (by omega),e1];rw [List.getElem?_eq_getElem (by rw [hold,<- hs];exact hj),Option.map_some,if_pos hj]
  rw [List.getElem?_append_right (by omega),List.getElem?_append_right (by omega),hcs,hold,hs];cases rest[j - d.size * k]? with
  | none=>rfl
  | some x=>simp only [Option.map_some];rw [if_neg (by omega)]
 refine ⟨⟨rfl,rfl,rfl,by rw [Sort.grow];simp [hsz],fun i hi hi2=>hne i hi (by simpa using hi2)⟩,?_,?_,by simp⟩
 ·
  intro r hr;rw [List.mem_singleton.1 hr];refine ⟨hcs,by omega,h3,.inr ⟨g,rest,fz,rfl,hat,?_,hf⟩⟩;rw [List.length_append] at hl ⊢;rw [hcs,hs,<- hold];exact hl
 intro r hr b hb;rw [List.mem_singleton.1 hr] at hb;simp [Res.row] at hb;subst hb;exact ⟨.inl (by simp),by rw [Sort.grow];simp [hsz];omega⟩
end
open Go.Shelf
def Qwc:Go.Shelf.Ren:=⟨fun | 6=>164 | 15=>159 | 14=>191 | 28=>185 | 29=>186 | 20=>201 | 21=>202 | 22=>203 | 23=>204 | 24=>205 | 25=>206 | 26=>207 | 27=>208 | 46=>211 | 47=>197 | 48=>198 | 49=>212 | 50=>213 | 57=>214 | n=>n,fun | 22=>198 | 24=>200 | 25=>202 | 3=>3 | 39=>97 | 0=>0 | 53=>31 | 55=>71 | 4=>4 | 46=>216 | 45=>215 | 50=>220 | 5=>5 | 9=>9 | 66=>228 | 70=>232 | 76=>240 | 77=>114 | n=>n,fun | n=>n⟩
theorem QI3:Go.Proofs.SlLaysF0.n6 Tryz.prog Qwc:={
 mixed:=by kernel_rfl
 f6:=⟨Tryz.f164.name,by decide,Tryz.func164.trans (congrArg some (by kernel_rfl))⟩
 f14:=⟨Tryz.f191.name,by decide,Tryz.func191.trans (congrArg some (by kernel_rfl))⟩
 f15:=Tryz.func159.trans (congrArg some (by kernel_rfl))
 f20:=⟨Tryz.f201.name,by decide,Tryz.func201.trans (congrArg some (by kernel_rfl))⟩
 f21:=⟨Tryz.f202.name,by decide,Tryz.func202.trans (congrArg some (by kernel_rfl))⟩
 f22:=⟨Tryz.f203.name,by decide,Tryz.func203.trans (congrArg some (by kernel_rfl))⟩
 f23:=⟨Tryz.f204.name,by decide,Tryz.func204.trans (congrArg some (by kernel_rfl))⟩
 f24:=⟨Tryz.f205.name,by decide,Tryz.func205.trans (congrArg some (by kernel_rfl))⟩
 f25:=⟨Tryz.f206.name,by decide,Tryz.func206.trans (congrArg some (by kernel_rfl))⟩
 f26:=⟨Tryz.f207.name,by decide,Tryz.func207.trans (congrArg some (by kernel_rfl))⟩
 f27:=⟨Tryz.f208.name,by decide,Tryz.func208.trans (congrArg some (by kernel_rfl))⟩
 f28:=Tryz.func185.trans (congrArg some (by kernel_rfl))
 f29:=Tryz.func186.trans (congrArg some (by kernel_rfl))
 f46:=⟨Tryz.f211.name,by decide,Tryz.func211.trans (congrArg some (by kernel_rfl))⟩
 f47:=Tryz.func197.trans (congrArg some (by kernel_rfl))
 f48:=Tryz.func198.trans (congrArg some (by kernel_rfl))
 f49:=⟨Tryz.f212.name,by decide,Tryz.func212.trans (congrArg some (by kernel_rfl))⟩
 f50:=⟨Tryz.f213.name,by decide,Tryz.func213.trans (congrArg some (by kernel_rfl))⟩
 f57:=⟨Tryz.f214.name,by decide,Tryz.func214.trans (congrArg some (by kernel_rfl))⟩
 t0:=Tryz.underlying0
 a0:=Tryz.isAgg0
 z0:=Tryz.sizeOf0
 v0:=Tryz.zeroValue0
 t3:=Tryz.underlying3
 a3:=Tryz.isAgg3
 z3:=Tryz.sizeOf3
 v3:=Tryz.zeroValue3
 t4:=Tryz.underlying4
 a4:=Tryz.isAgg4
 z4:=Tryz.sizeOf4
 v4:=Tryz.zeroValue4
 t5:=Tryz.underlying5
 a5:=Tryz.isAgg5
 z5:=Tryz.sizeOf5
 v5:=Tryz.zeroValue5
 t9:=Tryz.underlying9
 a9:=Tryz.isAgg9
 z9:=Tryz.sizeOf9
 v9:=Tryz.zeroValue9
 t22:=Tryz.underlying198
 a22:=Tryz.isAgg198
 z22:=Tryz.sizeOf198
 v22:=Tryz.zeroValue198
 t25:=Tryz.underlying202
 a25:=Tryz.isAgg202
 z25:=Tryz.sizeOf202
 v25:=Tryz.zeroValue202
 t39:=Tryz.underlying97
 a39:=Tryz.isAgg97
 z39:=Tryz.sizeOf97
 v39:=Tryz.zeroValue97
 t45:=Tryz.underlying215
 a45:=Tryz.isAgg215
 z45:=Tryz.sizeOf215
 v45:=Tryz.zeroValue215
 t46:=Tryz.underlying216
 a46:=Tryz.isAgg216
 z46:=Tryz.sizeOf216
 v46:=Tryz.zeroValue216
 t50:=Tryz.underlying220
 a50:=Tryz.isAgg220
 z50:=Tryz.sizeOf220
 v50:=Tryz.zeroValue220
 t53:=Tryz.underlying31
 a53:=Tryz.isAgg31
 z53:=Tryz.sizeOf31
 v53:=Tryz.zeroValue31
 t55:=Tryz.underlying71
 a55:=Tryz.isAgg71
 z55:=Tryz.sizeOf71
 v55:=Tryz.zeroValue71
 t66:=Tryz.underlying228
 a66:=Tryz.isAgg228
 z66:=Tryz.sizeOf228
 v66:=Tryz.zeroValue228
 t70:=Tryz.underlying232
 a70:=Tryz.isAgg232
 z70:=Tryz.sizeOf232
 v70:=Tryz.zeroValue232
 t76:=Tryz.underlying240
 a76:=Tryz.isAgg240
 z76:=Tryz.sizeOf240
 v76:=Tryz.zeroValue240
 t77:=Tryz.underlying114
 a77:=Tryz.isAgg114
 z77:=Tryz.sizeOf114
 v77:=Tryz.zeroValue114 }
open Go Go.Eng
theorem Qo8 (a b:Tr) (ha:TrOk a) (hb:TrOk b) (w:World):Does Tryz.prog 165 #[.agg (Qbc a).toArray,.agg (Qbc b).toArray] w fun v w'=>v=.int .i64 (cmpT a b)/\w'=(w.alloc (Obj.cells (Qbc a).toArray 200)).alloc (Obj.cells (Qbc b).toArray 200):=by
 obtain ⟨ha1,ha2,ha3⟩:=ha;obtain ⟨hb1,hb2,hb3⟩:=hb;refine En [.agg (Qbc a).toArray,.agg (Qbc b).toArray] 23 Tryz.func165 ?_;refine VQ [2,3] fun K hK=>?_;refine Qce ?_;refine Qs ?_;have hH:=(Heap.start w).box 200 (Qbc a);generalize w.alloc (Obj.cells (Qbc a).toArray 200)=w1 at *;generalize w.heap.size=ga at *;refine Qce ?_;refine Qs ?_;have hH2:=hH.box 200 (Qbc b);generalize w1.alloc (Obj.cells (Qbc b).toArray 200)=w2 at *;generalize w1.heap.size=gb at *;clear hH;apply hK;clear hK;refine VQ [2,3,7] fun K hK=>?_;refine ⟨Qbc a,⟨rfl,blk_reads (hH2.at 1 rfl)⟩,?_⟩;refine ⟨Qbc b,⟨rfl,blk_reads (hH2.at 0 rfl)⟩,?_⟩;rw [Qyh];apply hK;clear hK;refine Vi (fun h=>?_) (fun h=>VC_skip ?_)
 ·
  simp only [decide_eq_true_eq] at h;subst h;refine VS [4] ?_;exact VC_ret (VX_ret1 rfl rfl ⟨by simp [cmpT],rfl⟩)
 clear h;have c1:w2.cell? ⟨ga,0,none⟩=some (.int .i64 a.1):=Qae (hH2.at 1 rfl) rfl;have c2:w2.cell? ⟨ga,1,none⟩=some (.int .i64 a.2):=Qae (hH2.at 1 rfl) rfl;have c3:w2.cell? ⟨gb,0,none⟩=some (.int .i64 b.1):=Qae (hH2.at 0 rfl) rfl;have c4:w2.cell? ⟨gb,1,none⟩=some (.int .i64 b.2):=Qae (hH2.at 0 rfl) rfl;refine VQ [2,3,12] fun K hK=>?_;refine ⟨_,c1,_,c3,?_⟩;refine Qs ?_;apply hK;clear hK;refine Vi (fun h=>?_) (fun h=>VC_skip ?_)
 ·
  simp only [decide_eq_true_eq] at h;refine VQ [4] fun K hK=>?_;refine ⟨_,c1,_,c3,?_⟩;refine Qs ?_;refine ⟨I64.mk (by omega) (by omega),?_⟩;apply hK;clear hK;exact VC_ret (VX_ret1 rfl rfl ⟨by rw [cmpT,if_neg h],rfl⟩)
 simp only [decide_eq_false_iff_not,Decidable.not_not] at h;refine VQ [4] fun K hK=>?_;refine ⟨_,c2,_,c4,?_⟩;refine Qs ?_;refine ⟨I64.mk (by omega) (by omega),?_⟩;apply hK;clear hK;exact VC_ret (VX_ret1 rfl rfl ⟨by rw [cmpT,if_pos h],rfl⟩)
abbrev TrS:={ t:Tr // TrOk t }
instance:Inhabited TrS:=⟨⟨(0,0),by unfold TrOk;omega⟩⟩
def encS (x:TrS):List Value:=Qbc x.1
def cmpS (x y:TrS):Int:=cmpT x.1 y.1
theorem Qyz (x y:Tr):cmpT x y < 0 ↔ (x.1 < y.1∨(x.1=y.1/\x.2 < y.2)):=by
 unfold cmpT;split <;> omega
theorem swoT:Sort.SWO (Go.Proofs.ltOf cmpS) where
 irrefl x:=by simp [Go.Proofs.ltOf,cmpS,cmpT]
 trans x y z h1 h2:=by
  simp only [Go.Proofs.ltOf,cmpS,decide_eq_true_eq,Qyz] at *;omega
 ntrans x y z h1 h2:=by
  simp only [Go.Proofs.ltOf,cmpS,decide_eq_false_iff_not,Qyz] at *;omega
theorem QCz (T:List Tr) (hT:T.length<=1000000) (hok:∀ t∈T,TrOk t) (g cap:Nat) (w0 w:World) (B:List Nat) (G:List Res) (hL:Heap w0 B w (trow g cap T::G)) :
  Does Tryz.prog 164 #[.slice (some ⟨g,0,none⟩) T.length cap,Qvh] w fun v w'=>∃ T':List Tr,T'.Perm T/\(T'.Pairwise fun a b=>¬ cmpT b a < 0)/\Heap w0 B w' (trow g cap T'::G):=by
 intro n
 obtain ⟨d,hd⟩:∃ d:Array TrS,d.toList.map (·.1)=T:=by
  refine ⟨(T.pmap (fun t h=>(⟨t,h⟩:TrS)) hok).toArray,?_⟩;rw [List.toList_toArray,List.map_pmap];simp
 have hdl:d.size=T.length:=by rw [<- hd];simp
 have henc:∀ d:Array TrS,Qdq encS d.toList=Qe7 (d.toList.map (·.1)):=fun d=>by
  unfold Qe7 Qdq;rw [List.flatMap_map];rfl
 have hrow:(Res.row 200 2 (some ⟨g,0,none⟩) d.size cap (Qdq encS d.toList)).holds w:=by
  rw [henc d,hd,hdl];exact hL.at 0 rfl
 have hlt:g < w.heap.size:=(hL.foot (trow g cap T) (by simp) g (by simp [trow,Res.row])).2
 have hcmp:Go.Proofs.CmpLays Tryz.prog 165 #[] encS 2 cmpS g 0 d.size (w.drewN n):=by
  intro m os dk hdk x y;rw [Array.append_empty];have h:=Qo8 x.1 y.1 x.2 y.2 (Go.Proofs.sortWorldK encS 2 (w.drewN n) g 0 m dk os) 0;rw [QNi] at h;refine Calls.mono h ?_;rintro e w' ⟨v,w1,q,rfl,rfl,rfl,rfl⟩;refine ⟨rfl,q,#[Obj.cells (Qbc x.1).toArray 200,Obj.cells (Qbc y.1).toArray 200],?_⟩;rw [Sort.alloc_eq_grow,Sort.alloc_eq_grow,Sort.grow_grow];rfl
 have hcon:=AnyQ.slices_SortFunc QI3 2 Tryz.isAgg200 Tryz.sizeOf200 encS (fun _=>rfl) (fun x=>Qdo x.1) cmpS swoT 165 #[] g 0 cap d (w.drewN n) Tryz.call165 hcmp (Qte (enc:=encS) (k:=2) (fun _=>rfl) hrow) hlt (by omega);change Calls Tryz.prog 164 _ _ _ at hcon;rw [hdl] at hcon;refine hcon.mono ?_;rintro e w' ⟨rfl,d',m,os,⟨hp1,hp2,hp3⟩,hs,rfl⟩;obtain ⟨w1,e1,hH⟩:=Qyy (enc:=encS) (k:=2) (fun _=>rfl) hrow hp1 n m os;have e2:(w1.drewN n).drewN m=w1.drewN (n+m):=by simp [World.drewN,Nat.add_assoc]
 have hH2:=hL.call1 0 rfl hH;simp only [List.set_cons_zero,List.nil_append] at hH2;have hlen:(d'.toList.map (·.1)).length=d'.size:=by simp
 have e3:Res.row 200 2 (some ⟨g,0,none⟩) d'.size cap (Qdq encS d'.toList)=trow g cap (d'.toList.map (·.1)):=by
  rw [trow,hlen,<- henc d']
 rw [e3] at hH2;have hfull:∀ x:Array TrS,(x.extract 0 x.size).toList=x.toList:=fun x=>by simp
 refine ⟨_,w1,n+m,rfl,by rw [e1,e2],d'.toList.map (·.1),?_,?_,hH2⟩
 ·
  rw [<- hd];have h1:=hp3;rw [<- hdl,hfull d,<- hp1,hfull d'] at h1;exact h1.map _
 rw [List.pairwise_map,List.pairwise_iff_getElem];intro i j hi hj hij;have h1:=hs i j (by omega) hij (by rw [<- hdl,<- hp1];simpa using hj);have h1:=of_decide_eq_false h1;simp only [cmpS] at h1;have hi':i < d'.size:=by simpa using hi
 have hj':j < d'.size:=by simpa using hj
 rw [getElem!_pos d' i hi',getElem!_pos d' j hj'] at h1;simpa using h1
theorem QI4 {n k:Nat} (hn:2<=n) (h1:2 ^ k<=n) (h2:n < 2 ^ (k+1)):Qfc n=k:=(Nat.log2_eq_iff (by omega)).2 ⟨h1,h2⟩
def negT (l:List Nat) (i:Nat):Tr:=(-((max (l.getD i 0) 1:Nat):Int),i)
theorem QF7 (l:List Nat) (hl:2<=l.length) (hl2:l.length<=258) (hx:∀ x∈l,x<=1073741824) (pa:Option Addr) (lc:Nat) (w:World) (hr:RS w pa l.length 1 (Qag l)) :
  Does Tryz.prog 134 #[.slice pa l.length lc] w fun v w'=>∃ a cap,Heap w [] w' [Res.row 3 1 a (Qdc l).length cap (Qag (Qdc l))]/\v=.tuple #[.slice a (Qdc l).length cap,.int .i64 0]:=by
 have hc1:=Qon l hl hl2 hx pa lc w hr;obtain ⟨p,rfl⟩:=Qbb hr (by omega);have hget:∀ i,i < l.length->l.getD i 0<=1073741824:=fun i hi=>hx _ (Qaz 0 hi);refine En [.slice (some p) l.length lc] 73 Tryz.func134 ?_;generalize hn:l.length=n at *;refine VS [0] ?_;refine VQ [0,14] fun K hK=>?_;refine MemK_call Tryz.call160 ?_;refine Qs ?_;refine CallK.mk hc1 ?_;rintro v w2 ⟨rfl,rfl⟩;refine Qs ?_;apply hK;clear hK;refine Qaf rfl rfl (fun h=>by simp at h) (fun h=>VC_skip ?_);clear h hc1;refine VS [0,4,5] ?_;refine VB ?_;refine Qac [0,4,5] (fun m e w'=>∃ (k:Nat),Is e [(0,.slice (some p) n lc),(4,.int .i64 n),(5,.int .i64 k)]/\Is w' w2/\1<=k/\k<=8/\2 ^ k<=n/\m=9 - k) 8 ?_ ?_
 ·
  refine Qs ?_;exact ⟨1,rfl,rfl,by omega,by omega,by omega,rfl⟩
 rintro m e w' ⟨k,rfl,rfl,hk1,hk8,hkn,rfl⟩;have hp2:2 ^ (k+1)<=2 ^ 9:=Nat.pow_le_pow_right (by omega) (by omega);have hp3:2 ^ (k+1)<=512:=hp2;have hsh:shN IntKind.i64 ((k:Int)+1)=k+1:=Qqr (by omega) (by simp [IntKind.bits];omega);have hp:(1:Int) * 2 ^ (k+1)=((2 ^ (k+1):Nat):Int):=by push_cast;exact Int.one_mul _
 refine VQ [0,4,5,21] fun K hK=>?_;rw [hsh,hp];clear hp hp2 hsh;generalize hP2:2 ^ (k+1)=P2 at *;refine ⟨I64.mk (by omega) (by omega),by omega,I64.mk (by omega) (by omega),?_⟩;apply hK;clear hK;refine VD (fun h=>?_) (fun h=>?_)
 ·
  have hk9:k+1<=8:=by
   rcases Nat.lt_or_ge 8 (k+1) with h3 | h3
   ·
    have:2 ^ 9<=2 ^ (k+1):=Nat.pow_le_pow_right (by omega) (by omega);rw [hP2] at this;have e:(2:Nat) ^ 9=512:=by decide
    omega
   exact h3
  refine VC_skip ?_;refine Qab ?_;refine VS [0,4,5] ?_;refine Qah ?_;refine Qaa ?_;refine Qs ?_;exact ⟨9 - (k+1),by omega,k+1,rfl,rfl,by omega,hk9,by rw [hP2];omega,rfl⟩
 have hK:=QI4 (n:=n) (k:=k) (by omega) hkn (by rw [hP2];omega);refine Qad rfl ?_;refine VQ [0,4,5,6] fun K hK=>?_;refine QBn (zs:=[.int .i64 0,.int .i64 0]) (k:=2) (bytes:=16) Tryz.underlying198 (by kernel_rfl) rfl (by omega) ?_;refine Qs ?_;refine ⟨n,n,⟨rfl,rfl,by omega,by omega,by omega⟩,?_⟩
 have ez:∀ c,(List.replicate c [Value.int .i64 0,Value.int .i64 0]).flatten=Qe7 (List.replicate c (0,0)):=fun c=>by
  induction c with
  | zero=>rfl
  | succ c ih=>rw [List.replicate_succ,List.flatten_cons,ih,List.replicate_succ];rfl
 have hH0:=(Heap.start w').row 200 (n:=n) (cap:=n) (sz:=2) (Qe7 (List.replicate n (0,0))) [] (by rw [Qjx];simp) (by rw [List.append_nil,Qjx];simp) (by omega) (by omega);rw [List.append_nil,<- ez] at hH0;generalize w'.alloc (Obj.cells (List.replicate n [Value.int IntKind.i64 0,Value.int IntKind.i64 0]).flatten.toArray 200)=w3 at *;generalize w'.heap.size=go at *;rw [ez] at hH0;apply hK;clear hK;refine VS [4,5,6,26,27,28] ?_;refine Qab ?_;refine Qac [4,5,6,26,27,28] (fun m e w1=>∃ (i:Nat),Is e [(4,.int .i64 n),(5,.int .i64 k),(6,.slice (some ⟨go,0,none⟩) n n),(26,.slice (some p) n lc),(27,.int .i64 n),(28,.int .i64 i)]/\Heap w' [] w1 [Res.row 200 2 (some ⟨go,0,none⟩) n n (Qe7 ((List.range i).map (negT l)++List.replicate (n - i) (0,0)))]/\i<=n/\m=n - i) n ?_ ?_
 ·
  refine Qs ?_;exact ⟨0,rfl,by simpa using hH0,by omega,rfl⟩
 clear hH0;rintro m e w4 ⟨i,rfl,hH,hi,rfl⟩;refine VS [4,5,6,26,27,28,29] ?_;(repeat refine Qar ?_);refine VD (fun h=>?_) (fun h=>?_)
 ·
  have hcell:=Qbk (hH.rs' hr) (i:=i) (by omega);have hgi:=hget i (by omega);have hsn:(List.range (i+1)).map (negT l)=(List.range i).map (negT l)++[negT l i]:=by rw [List.range_succ,List.map_append];rfl
  have hml:((List.range i).map (negT l)).length=i:=by simp
  have hnt:negT l i=(-((max (l.getD i 0) 1:Nat):Int),i):=rfl;generalize (List.range i).map (negT l)=L at *;generalize l.getD i 0=x at *;generalize negT l i=y at *
  have hset:(L++List.replicate (n - i) (0,0)).set i y=(L++[y])++List.replicate (n - (i+1)) (0,0):=by
   obtain ⟨q,hq⟩:∃ q,n - i=q+1:=⟨n - i - 1,by omega⟩;rw [hq,List.replicate_succ,List.set_append_right _ _ (by omega),hml,Nat.sub_self,List.set_cons_zero,List.append_assoc,show n - (i+1)=q by omega];rfl
  have hlen:(L++List.replicate (n - i) ((0:Int),(0:Nat))).length=n:=by simp;omega
  refine VC_skip ?_;refine VB ?_;refine VQ [4,5,6,7,8,26,27,28] fun K hK=>?_;refine ⟨⟨by omega,by omega⟩,_,hcell,?_⟩;apply hK;clear hK;refine VQ [4,5,6,26,27,28] fun K hK=>?_;refine ⟨I64.mk (by omega) (by omega),⟨by omega,by omega⟩,?_⟩;rw [show -(max ((x:Nat):Int) 1)=y.1 by rw [hnt];simp only;omega,show ((i:Nat):Int)=(y.2:Int) by rw [hnt]];refine MemK_store ?_;refine Qs ?_;refine Qas hH 0 (o:=i * 2) (vs:=Qbc y) rfl (by first | exact (Qa8 _ _ _).symm | rw [Qa8,Nat.zero_add] | (rw [Qa8];simp;omega)) rfl (by kernel_rfl) (by rw [Qjx,hlen];simp [Qbc];omega) (Qdo y) fun w6 hH6=>?_;have e6:=Quf Qfk (L++List.replicate (n - i) (0,0)) i y (by omega);rw [hset] at e6
  have hH7:Heap w' [] w6 [Res.row 200 2 (some ⟨go,0,none⟩) n n (Qe7 ((L++[y])++List.replicate (n - (i+1)) (0,0)))]:=by
   rw [show Qe7 ((L++[y])++List.replicate (n - (i+1)) (0,0))=Qdq Qbc ((L++[y])++List.replicate (n - (i+1)) (0,0)) from rfl,<- e6];exact hH6
  clear hH6 e6 hH hcell;have hi2:((y.2:Nat):Int)=i:=by rw [hnt]
  apply hK;clear hK;rw [hi2];refine Qah ?_;refine VS [4,5,6,26,27,28] ?_;refine Qaa ?_;refine Qs ?_;exact ⟨n - (i+1),by omega,i+1,rfl,by rw [hsn];exact hH7,by omega,rfl⟩
 obtain rfl:i=n:=by omega
 rw [Nat.sub_self,List.replicate_zero,List.append_nil] at hH;have hTl:((List.range i).map (negT l)).length=i:=by simp
 have hTok:∀ t∈(List.range i).map (negT l),TrOk t:=fun t ht=>by
  obtain ⟨j,hj,rfl⟩:=List.mem_map.1 ht;have hj:j < i:=by simpa using hj
  have:=hget j hj;unfold TrOk negT;simp only;omega
 have hH1:Heap w' [] w4 [trow go i ((List.range i).map (negT l))]:=by
  unfold trow;rw [hTl];exact hH
 clear hH;refine Qad rfl ?_;have hcs:=QCz _ (by omega) hTok go i w' w4 [] [] hH1;rw [hTl] at hcs;refine VQ [4,5,6] fun K hK=>?_;refine MemK_call Tryz.call164 ?_;refine Qs ?_;refine CallK.mk hcs ?_;rintro v w5 ⟨T,hTp,hTs,hH2⟩;have hTlen:T.length=i:=by rw [hTp.length_eq,hTl]
 have hTmem:∀ t∈T,t=negT l t.2/\t.2 < i:=fun t ht=>by
  obtain ⟨j,hj,rfl⟩:=List.mem_map.1 (hTp.mem_iff.1 ht);exact ⟨rfl,by simpa [negT] using hj⟩
 have hσp:(T.map (·.2)).Perm (List.range l.length):=by
  have:=hTp.map (·.2);rw [List.map_map] at this;rw [hn];refine this.trans ?_
  have e:((List.range i).map ((fun t:Tr=>t.2) ∘ negT l))=List.range i:=by
   conv=>rhs;rw [<- List.map_id (List.range i)]
   exact List.map_congr_left fun j _=>rfl
  rw [e]
 have hσs:(T.map (·.2)).Pairwise fun a b=>Qdf l a b=true:=by
  have hnd:(T.map (·.2)).Nodup:=hσp.nodup_iff.2 List.nodup_range;rw [List.pairwise_map];have h2:=hTs.and (List.pairwise_map.1 hnd);have h3:T.Pairwise fun a b=>(a=negT l a.2)/\(b=negT l b.2):=List.pairwise_iff_getElem.2 fun i j hi hj _=>⟨(hTmem _ (List.getElem_mem hi)).1,(hTmem _ (List.getElem_mem hj)).1⟩;refine (h2.and h3).imp ?_;rintro a b ⟨⟨h4,h5⟩,h6,h7⟩;rw [Qyz] at h4;have e1:a.1=-((max (l.getD a.2 0) 1:Nat):Int):=congrArg Prod.fst h6;have e2:b.1=-((max (l.getD b.2 0) 1:Nat):Int):=congrArg Prod.fst h7;rw [Qfv];omega
 have hfr:∀ q t,T[q]? = some t->Qj6 l t.2=q:=fun q t ht=>by
  obtain ⟨hq,e⟩:=List.getElem?_eq_some_iff.1 ht;have:=Qol hσp hσs (p:=q) (by simpa using hq);rw [List.getElem_map,e] at this;exact this
 clear hcs hH1 hTs hTok hTl;apply hK;clear hK;refine VQ [4,5,6,9] fun K hK=>?_;refine Qba Tryz.underlying36 zi3 ?_;refine Qs ?_;refine ⟨i,i,⟨rfl,rfl,by omega,by omega,by omega⟩,?_⟩;have hH3:=hH2.row 3 (n:=i) (cap:=i) (sz:=1) (Qag (List.replicate i 0)) [] (by simp [Qaj]) (by simp [Qaj]) (by omega) (by omega);rw [List.append_nil,Qbl] at hH3;generalize w5.alloc (Obj.cells (List.replicate i (Value.int IntKind.i64 0)).toArray 3)=w6 at *;generalize w5.heap.size=gu at *;rw [<- Qbl] at hH3;clear hH2;apply hK;clear hK;refine VS [4,5,9,46,47,48] ?_;refine Qab ?_;refine Qac [4,5,9,46,47,48] (fun m e w1=>∃ (q:Nat) (O:List Nat),Is e [(4,.int .i64 i),(5,.int .i64 k),(9,.slice (some ⟨gu,0,none⟩) i i),(46,.slice (some ⟨go,0,none⟩) i i),(47,.int .i64 i),(48,.int .i64 q)]/\Heap w' [] w1 [Res.row 3 1 (some ⟨gu,0,none⟩) i i (Qag O),trow go i T]/\O.length=i/\(∀ j t,j < q->T[j]? = some t->O.getD t.2 0=Qko i j)/\q<=i/\m=i - q) i ?_ ?_
 ·
  refine Qs ?_;exact ⟨0,_,rfl,hH3,by simp,fun j t hj _=>by omega,by omega,rfl⟩
 clear hH3;rintro m e w7 ⟨q,O,rfl,hH,hOl,hO,hq,rfl⟩;refine VS [4,5,9,46,47,48,49] ?_;(repeat refine Qar ?_);refine VD (fun h=>?_) (fun h=>?_)
 ·
  have hqT:T[q]? = some T[q]:=List.getElem?_eq_getElem (by omega);have htm:=hTmem T[q] (List.getElem_mem _);have hfq:=hfr q _ hqT;have hrd:=Qh4 Qfk (Qao (hH.at 1 rfl)) rfl hqT;rw [Qa8,Nat.zero_add] at hrd;have hfl:Qko i q=if P2 - i<=q then k+1 else k:=by rw [Qko,hK,hP2]
  generalize T[q]=t at *;refine VC_skip ?_;refine VB ?_;refine VQ [4,5,9,10,11,46,47,48] fun K hK=>?_;refine ⟨⟨by omega,by omega⟩,Qbc t,⟨rfl,hrd⟩,?_⟩;refine MemK_alloc (.agg #[.int .i64 0,.int .i64 0]) (by kernel_rfl) ?_;refine Qs ?_;have hH4:=hH.box 200 [.int .i64 0,.int .i64 0];generalize w7.alloc (Obj.cells [Value.int .i64 0,.int .i64 0].toArray 200)=w8 at *;generalize w7.heap.size=gt at *;refine MemK_store ?_;refine Qs ?_;refine StoreK_blk hH4 0 (vs:=Qbc t) rfl rfl (by kernel_rfl) (by simp [Qbc]) (Qdo _) fun w9 hH5=>?_;have hH5:Heap w' [] w9 [Res.blk gt 200 (Qbc t),Res.row 3 1 (some ⟨gu,0,none⟩) i i (Qag O),trow go i T]:=hH5;apply hK;clear hK;clear hH hH4 hrd;have ct:(Qbc t)[1]? = some (.int .i64 (t.2:Nat)):=rfl
  have hO2:∀ x,∀ j t',j < q+1->T[j]? = some t'->(O.set t.2 x).getD t'.2 0=if j=q then x else Qko i j:=fun x j t' hj ht'=>by
   have h8:=hfr j t' ht';by_cases e:j=q
   ·
    subst e;have e2:t'=t:=by rw [hqT] at ht';exact (Option.some.inj ht').symm
    rw [if_pos rfl,e2,Qcx (by omega)]
   rw [if_neg e,Qcz (fun e2=>e (by rw [<- h8,<- e2,hfq])),hO j t' (by omega) ht']
  refine VQ [4,5,9,10,11,46,47,48] fun K hK=>?_;refine ⟨_,Qae (hH5.at 0 rfl) ct,?_⟩;refine Qs ?_;refine Qp ?_;refine MemK_store ?_;refine Qs ?_;refine Qas hH5 1 (o:=(t.2)) (vs:=[.int .i64 (k:Nat)]) rfl (by first | exact (Qa8 _ _ _).symm | rfl | simp [Qa8]) rfl (by kernel_rfl) (by first | omega | (simp;done) | (simp;omega) | (simp [Qan,Qap];omega) | (rw [Qaj];simp;omega)) (by simp [Value.oneCell']) fun w6 hH6=>?_;(try refine Qs ?_);simp only [List.length_singleton,Qb2 (Qag O) _ _ (show t.2 < (Qag O).length by rw [Qaj,hOl];omega),Qca,List.set_cons_zero,List.set_cons_succ] at hH6;apply hK;clear hK;refine VQ [4,5,9,11,46,47,48,64] fun K hK=>?_;rw [Qqr (i:=(k:Int)+1) (n:=k+1) (by omega) (by simp [IntKind.bits];omega),show (1:Int) * 2 ^ (k+1)=((2 ^ (k+1):Nat):Int) by push_cast;exact Int.one_mul _,hP2];(repeat first | refine Qo ?_ | refine Qp ?_);apply hK;clear hK;refine VD (fun h=>?_) (fun h=>VC_skip ?_)
  ·
   rw [if_pos (by omega)] at hfl;refine VQ [4,5,9,46,47,48] fun K hK=>?_;refine ⟨_,Qae (hH6.at 0 rfl) ct,?_⟩;refine Qs ?_;refine ⟨I64.mk (by omega) (by omega),⟨by omega,by omega⟩,?_⟩;refine MemK_store ?_;refine Qs ?_;refine Qas hH6 1 (o:=(t.2)) (vs:=[.int .i64 (k+1:Nat)]) rfl (by first | exact (Qa8 _ _ _).symm | rfl | simp [Qa8]) rfl (by kernel_rfl) (by first | omega | (simp;done) | (simp;omega) | (simp [Qan,Qap];omega) | (rw [Qaj];simp;omega)) (by simp [Value.oneCell']) fun w6 hH7=>?_;(try refine Qs ?_);simp only [List.length_singleton,Qb2 (Qag (O.set t.2 k)) _ _ (show t.2 < (Qag (O.set t.2 k)).length by rw [Qaj,List.length_set,hOl];omega),Qca,List.set_cons_zero,List.set_cons_succ,List.set_set] at hH7;apply hK;clear hK;refine Qah ?_;refine VS [4,5,9,46,47,48] ?_;refine Qaa ?_;refine Qs ?_;refine ⟨i - (q+1),by omega,q+1,_,rfl,hH7.sub (List.sublist_cons_self _ _),by simp [hOl],fun j t' hj ht'=>?_,by omega,rfl⟩;rw [hO2 (k+1) j t' hj ht'];split
   ·
    rename_i e;rw [e,hfl]
   rfl
  rw [if_neg (by omega)] at hfl;refine Qah ?_;refine VS [4,5,9,46,47,48] ?_;refine Qaa ?_;refine Qs ?_;refine ⟨i - (q+1),by omega,q+1,_,rfl,hH6.sub (List.sublist_cons_self _ _),by simp [hOl],fun j t' hj ht'=>?_,by omega,rfl⟩;rw [hO2 k j t' hj ht'];split
  ·
   rename_i e;rw [e,hfl]
  rfl
 obtain rfl:q=i:=by omega
 have hfin:O=Qdc l:=by
  apply List.ext_getElem
  ·
   rw [hOl,Qdc,List.length_map,List.length_range,hn]
  intro j h1 h2;have hj:j < l.length:=by omega
  have hm:j∈T.map (·.2):=hσp.mem_iff.2 (by simpa using hj);obtain ⟨t,ht,e⟩:=List.mem_map.1 hm;obtain ⟨p',hp',e2⟩:=List.getElem_of_mem ht;have h3:T[p']? = some t:=by rw [List.getElem?_eq_getElem hp',e2]
  have h4:=hO p' t (by omega) h3;have h5:=hfr p' t h3;simp only [Qdc,List.getElem_map,List.getElem_range]
  have e5:O.getD j 0=Qko l.length (Qj6 l j):=by
   have e':t.2=j:=e;rw [hn,<- e',h5];exact h4
  rw [<- e5,List.getD_eq_getElem?_getD,List.getElem?_eq_getElem h1];rfl
 have hfl2:(Qdc l).length=q:=by rw [<- hfin];exact hOl
 refine Qad rfl ?_;refine VS [2,3] ?_;refine VC_ret (Qat rfl rfl rfl ⟨some ⟨gu,0,none⟩,q,?_,by rw [hfl2]⟩);rw [hfl2,<- hfin];exact hH.sub (by simp)
theorem QC0 (l:List Nat) (x n:Nat) (hx:x < n):(List.range n).map (fun s=>(l++[x]).count s)=((List.range n).map fun s=>l.count s).set x (l.count x+1):=by
 apply List.ext_getElem?;intro j;rw [List.getElem?_map,List.getElem?_set,List.getElem?_map,List.length_map,List.length_range];by_cases e:x=j
 ·
  subst e;rw [if_pos rfl,if_pos hx,List.getElem?_range hx];simp [List.count_append]
 rw [if_neg e];by_cases hj:j < n
 ·
  rw [List.getElem?_range hj];simp [List.count_append,List.count_singleton,e]
 rw [List.getElem?_eq_none (by simpa using hj)];rfl
theorem QC1 (l:List Nat) (n:Nat):((List.range n).map fun s=>l.count s).length=n:=by simp
theorem QC2 (n:Nat):(List.range n).map (fun s=>([]:List Nat).count s)=List.replicate n 0:=by
 apply List.ext_getElem?;intro j;rw [List.getElem?_map,List.getElem?_replicate];by_cases hj:j < n
 ·
  rw [List.getElem?_range hj,if_pos hj];rfl
 rw [List.getElem?_eq_none (by simpa using hj),if_neg hj];rfl
def QC3 (G:List Res) (v:Value) (T:List (List Nat)) (P:List Nat):Prop:=∀ w:World,(∀ r∈G,r.holds w)->PlanAt w v T P
theorem Qtf (list:List Nat) (n:Nat) (hm:Qe2 list n) (a:Option Addr) (lc:Nat) (w:World) (hr:RS w a list.length 1 (Qag list)) :
  Does Tryz.prog 77 #[.slice a list.length lc,.int .i64 n] w fun x w'=>∃ v G,Heap w [] w' G/\QC3 G v (Qbr list n).1 (Qbr list n).2/\x=.tuple #[v,.int .i64 0]:=by
 have hml:=Qm2 list n hm a lc;have hfl:=Qst hm;have hfq:Qec list n=(List.range n).map fun s=>list.count s:=rfl;obtain ⟨h1,h2,h3,h4,h5⟩:=hm;have hg1:=(Qe6 h3 h4);obtain ⟨p,rfl⟩:=Qbb hr (by omega);refine En [.slice (some p) list.length lc,.int .i64 n] 51 Tryz.func77 ?_;generalize hnl:list.length=nl at *;refine VQ [0,1,4] fun K hK=>?_;refine MemK_alloc (.agg #[.slice none 0 0,.slice none 0 0]) (by kernel_rfl) ?_;refine Qs ?_;have hH:=(Heap.start w).box 65 (Qak none 0 0 none 0 0);have hpl:[Value.slice none 0 0,Value.slice none 0 0]=Qak none 0 0 none 0 0:=rfl;rw [hpl];generalize w.alloc (Obj.cells (Qak none 0 0 none 0 0).toArray 65)=w1 at *;generalize w.heap.size=gr at *;apply hK;clear hK;refine VQ [0,1,4,16] fun K hK=>?_;refine MemK_call Tryz.call129 ?_;refine Qs ?_;refine CallK.mk (hml w1 (hH.rs' hr)) ?_;rintro v w2 ⟨rfl,rfl⟩;refine Qs ?_;apply hK;clear hK;refine Qaf rfl rfl (fun h=>by simp at h) (fun h=>VC_skip ?_);clear h;refine VQ [0,4,6] fun K hK=>?_;refine Qba Tryz.underlying36 zi3 ?_;refine Qs ?_;refine ⟨n,n,⟨rfl,rfl,by omega,by omega,by omega⟩,?_⟩;have hH2:=hH.row 3 (n:=n) (cap:=n) (sz:=1) (Qag (List.replicate n 0)) [] (by simp [Qaj]) (by simp [Qaj]) (by omega) (by omega);rw [List.append_nil,Qbl] at hH2;generalize w2.alloc (Obj.cells (List.replicate n (Value.int IntKind.i64 0)).toArray 3)=w3 at *;generalize w2.heap.size=gu at *;rw [<- Qbl] at hH2;clear hH;apply hK;clear hK;refine VS [0,4,6,20,21,22] ?_;refine Qab ?_;refine Qac [0,4,6,20,21,22] (fun m e w'=>∃ (i:Nat),Is e [(0,.slice (some p) nl lc),(4,.pointer (some ⟨gr,0,none⟩)),(6,.slice (some ⟨gu,0,none⟩) n n),(20,.slice (some p) nl lc),(21,.int .i64 nl),(22,.int .i64 i)]/\Heap w [] w' [Res.row 3 1 (some ⟨gu,0,none⟩) n n (Qag ((List.range n).map fun s=>(list.take i).count s)),Res.blk gr 65 (Qak none 0 0 none 0 0)]/\i<=nl/\m=nl - i) nl ?_ ?_
 ·
  refine Qs ?_;exact ⟨0,rfl,by rw [List.take_zero,QC2];exact hH2,by omega,rfl⟩
 clear hH2;rintro m e w4 ⟨i,rfl,hH,hi,rfl⟩;refine VS [0,4,6,20,21,22,23] ?_;(repeat refine Qar ?_);refine VD (fun h=>?_) (fun h=>?_)
 ·
  have hcell:=Qbk (hH.rs' hr) (i:=i) (by omega);have hx:=h5 _ (Qaz 0 (l:=list) (i:=i) (by omega));have htk:list.take (i+1)=list.take i++[list.getD i 0]:=Qb1 0 (by omega);have hsn:=QC0 (list.take i) (list.getD i 0) n hx;rw [<- htk] at hsn;have hcl:=QC1 (list.take i) n;have hcg:((List.range n).map fun s=>(list.take i).count s).getD (list.getD i 0) 0=(list.take i).count (list.getD i 0):=Qf6 _ _ _ _ hx;have hcle:(list.take i).count (list.getD i 0)<=i:=Nat.le_trans List.count_le_length (by rw [List.length_take];omega);generalize list.getD i 0=x at *
  have hcu:w4.cell? ⟨gu,x,none⟩=some (.int .i64 (((list.take i).count x:Nat):Int)):=by
   rw [<- hcg];exact Qaw (hH.at 0 rfl) (Qbw (by omega))
  generalize (list.take i).count x=c at *;generalize ((List.range n).map fun s=>(list.take i).count s)=C at *;refine VC_skip ?_;refine VB ?_;refine VQ [0,4,6,8,20,21,22] fun K hK=>?_;refine ⟨⟨by omega,by omega⟩,_,hcell,?_⟩;apply hK;clear hK;refine VQ [0,4,6,20,21,22] fun K hK=>?_;refine ⟨⟨by omega,by omega⟩,_,hcu,?_⟩;refine Qs ?_;refine ⟨I64.mk (by omega) (by omega),⟨by omega,by omega⟩,?_⟩;refine MemK_store ?_;refine Qs ?_;refine Qas hH 0 (o:=(x)) (vs:=[.int .i64 (c+1:Nat)]) rfl (by first | exact (Qa8 _ _ _).symm | rfl | simp [Qa8]) rfl (by kernel_rfl) (by first | omega | (simp;done) | (simp;omega) | (simp [Qan,Qap];omega) | (rw [Qaj];simp;omega)) (by simp [Value.oneCell']) fun w6 hH3=>?_;(try refine Qs ?_);simp only [List.length_singleton,Qb2 (Qag C) _ _ (show x < (Qag C).length by rw [Qaj];omega),Qca,List.set_cons_zero,<- hsn] at hH3;apply hK;clear hK;refine Qah ?_;refine VS [0,4,6,20,21,22] ?_;refine Qaa ?_;refine Qs ?_;exact ⟨nl - (i+1),by omega,i+1,rfl,hH3,by omega,rfl⟩
 obtain rfl:i=nl:=by omega
 clear h hi;rw [List.take_of_length_le (by omega),<- hfq] at hH;have hql:(Qec list n).length=n:=by rw [hfq];simp
 have hqx:∀ x∈Qec list n,x<=1073741824:=fun x hx=>by
  obtain ⟨s,_,rfl⟩:=List.mem_map.1 hx;have:=List.count_le_length (l:=list) (a:=s);omega
 have hflp:Qbr list n=([Qdc (Qec list n),Qdc (Qec list n)],List.replicate (Qa4 i) 0):=by unfold Qbr;rw [hnl]
 rw [hflp];have hfd:=QF7 (Qec list n) (by omega) (by omega) hqx (some ⟨gu,0,none⟩) n;rw [hql] at hfd;clear hfq hqx;generalize Qec list n=Q at *;generalize i=nl at *;refine Qad rfl ?_;refine VQ [0,4,6,9] fun K hK=>?_;refine MemK_call Tryz.call134 ?_;refine Qs ?_;refine CallK.mk (hfd w4 (Qao (hH.at 0 rfl))) ?_;rintro v w5 ⟨aa,ca,hHa,rfl⟩;have hH2:=hH.call0 hHa;simp only [List.singleton_append] at hH2;clear hH hHa;apply hK;clear hK;refine VQ [0,4,9,11] fun K hK=>?_;refine MemK_call Tryz.call134 ?_;refine Qs ?_;refine CallK.mk (hfd w5 (Qao (hH2.at 1 rfl))) ?_;rintro v w6 ⟨ab,cb,hHb,rfl⟩;have hH3:=hH2.call0 hHb;simp only [List.singleton_append] at hH3;clear hH2 hHb hfd;generalize hF:Qdc Q=F at *;apply hK;clear hK;refine VQ [4,5] fun K hK=>?_;refine Qbg hH3 (Qbj [(aa,ca),(ab,cb)] [F,F]) (xs:=[.tmp 43,.tmp 44]) Tryz.underlying63 sz36 rfl rfl rfl (by omega) ?_;refine Qs ?_;refine ⟨rfl,by simp [Value.cells],fun gt w7 hH4=>?_⟩;refine MemK_call Tryz.call83 ?_;refine Qs ?_;refine CallK.mk (Qig nl (by omega) w7) ?_;rintro v w8 ⟨rfl,rfl⟩;generalize hgN:Qa4 nl=gN at *;refine Qba Tryz.underlying36 zi3 ?_;refine Qs ?_;refine ⟨gN,gN,⟨rfl,rfl,by omega,by omega,by omega⟩,?_⟩;have hH5:=hH4.row 3 (n:=gN) (cap:=gN) (sz:=1) (Qag (List.replicate gN 0)) [] (by simp [Qaj]) (by simp [Qaj]) (by omega) (by omega);rw [List.append_nil,Qbl] at hH5;generalize w8.alloc (Obj.cells (List.replicate gN (Value.int IntKind.i64 0)).toArray 3)=w9 at *;generalize w8.heap.size=gz at *;rw [<- Qbl] at hH5;clear hH3 hH4;refine MemK_store ?_;refine Qs ?_;refine StoreK_blk hH5 5 (vs:=Qak (some ⟨gt,0,none⟩) 2 2 (some ⟨gz,0,none⟩) gN gN) rfl rfl (by kernel_rfl) (by simp [Qak]) (Qbt _ _ _ _ _ _) fun w10 hH6=>?_;simp only [List.set_cons_zero,List.set_cons_succ] at hH6;apply hK;clear hK;refine VC_ret (Qcw rfl rfl rfl (Qbh (hH6.at 5 rfl) (by kernel_rfl) (by kernel_rfl) rfl ?_));refine ⟨_,_,hH6.sub (List.take_sublist 4 _),fun w' hh=>Qji rfl rfl (by simp) rfl (Qao (hh _ (List.mem_of_getElem? (i:=1) rfl))) (Qao (hh _ (List.mem_of_getElem? (i:=0) rfl))) (fun i h t h6 h7=>?_),rfl⟩
 match i with
 | 0=>cases h6;cases h7;exact Qao (hh _ (List.mem_of_getElem? (i:=3) rfl))
 | 1=>cases h6;cases h7;exact Qao (hh _ (List.mem_of_getElem? (i:=2) rfl))
 | i+2=>simp at h6
theorem Qls (v:Value) (T:List (List Nat)) (P:List Nat) (hm:mayP T P) (list:List Nat) (hl1:1<=list.length) (hls:∀ s∈list,s < (T.getD 0 []).length) (hlg:Qa4 list.length<=P.length) (hsz:Qf9 (T,P) list<=1000000000000) (a:Option Addr) (lc:Nat) (w:World) (hp:PlanAt w v T P) (hr:RS w a list.length 1 (Qag list)) :
  Does Tryz.prog 78 #[v,.slice a list.length lc] w fun x w'=>Heap w [] w' []/\x=.tuple #[.int .i64 (Qf9 (T,P) list:Nat),.int .i64 0]:=by
 have hpd:=Qm6 v T P hm list hl1 hls hlg a lc;have hsd:=Qlk v T P hm;have hsz':Qf9 (T,P) list=(Qbq T P).length+(Qem T P list 0).length:=rfl;rw [hsz'] at hsz ⊢;have hp0:=hp;obtain ⟨ta,tc,pa,pc,hs,rfl,hsl,hrT,hrP,hrt⟩:=hp;have hen:#[Value.agg #[.slice ta T.length tc,.slice pa P.length pc],.slice a list.length lc]=[Value.agg (Qak ta T.length tc pa P.length pc).toArray,.slice a list.length lc].toArray:=rfl;rw [hen];refine Qdj 29 Tryz.func78 rfl rfl (of_decide_eq_true rfl) ?_;simp only [Env.ofArgs];generalize list.length=nl at *;generalize T.length=nt at *;generalize P.length=np at *;generalize Qem T P list 0=X at *;generalize Qbq T P=Y at *;refine VQ [1,2] fun K hK=>?_;refine Qce ?_;refine Qs ?_;have hH:=(Heap.start w).box 65 (Qak ta nt tc pa np pc);generalize w.alloc (Obj.cells (Qak ta nt tc pa np pc).toArray 65)=w1 at *;generalize w.heap.size=gp at *;apply hK;clear hK;refine VQ [2,6,7] fun K hK=>?_;refine ⟨Qak ta nt tc pa np pc,⟨rfl,blk_reads (hH.at 0 rfl)⟩,?_⟩;refine MemK_call Tryz.call41 ?_;refine Qs ?_;refine CallK.mk (hpd w1 (hp0.keep hH) (hH.rs' hr)) ?_;rintro v w2 ⟨hHp,rfl⟩;have hH2:=hH.call0 hHp;simp only [List.nil_append] at hH2;clear hH hHp;refine MemK_alloc (.agg #[.string ⟨#[]⟩,.int .i64 0]) (by kernel_rfl) ?_;refine Qs ?_;have hH3:=hH2.box 24 [.string ⟨#[]⟩,.int .i64 0];generalize w2.alloc (Obj.cells [Value.string ⟨#[]⟩,.int .i64 0].toArray 24)=w3 at *;generalize w2.heap.size=gb at *;refine MemK_store ?_;refine Qs ?_;refine StoreK_blk hH3 0 (vs:=Qbe X) rfl rfl (by kernel_rfl) (by simp [Qbe]) (Qda _) fun w4 hH4=>?_;simp only [List.set_cons_zero] at hH4;clear hH2 hH3;apply hK;clear hK;refine VS [2,6,7,17] ?_;refine Qaf rfl rfl (fun h=>by simp at h) (fun h=>VC_skip ?_);clear h;refine VQ [6,8] fun K hK=>?_;refine ⟨Qak ta nt tc pa np pc,⟨rfl,blk_reads (hH4.at 1 rfl)⟩,?_⟩;refine MemK_call Tryz.call40 ?_;refine Qs ?_;refine CallK.mk (hsd w4 (hp0.keep hH4)) ?_;rintro v w5 ⟨hHs,rfl⟩;have hH5:=hH4.call0 hHs;simp only [List.nil_append] at hH5;clear hH4 hHs;refine MemK_alloc (.agg #[.string ⟨#[]⟩,.int .i64 0]) (by kernel_rfl) ?_;refine Qs ?_;have hH6:=hH5.box 24 [.string ⟨#[]⟩,.int .i64 0];generalize w5.alloc (Obj.cells [Value.string ⟨#[]⟩,.int .i64 0].toArray 24)=w6 at *;generalize w5.heap.size=ga at *;refine MemK_store ?_;refine Qs ?_;refine StoreK_blk hH6 0 (vs:=Qbe Y) rfl rfl (by kernel_rfl) (by simp [Qbe]) (Qda _) fun w7 hH7=>?_;simp only [List.set_cons_zero] at hH7;clear hH5 hH6;apply hK;clear hK;refine VQ [4,5] fun K hK=>?_;refine ⟨_,Qae (hH7.at 0 rfl) (show (Qbe Y)[1]? = some _ from rfl),_,Qae (hH7.at 1 rfl) (show (Qbe X)[1]? = some _ from rfl),?_⟩;refine Qs ?_;(repeat refine Qo ?_);apply hK;clear hK;exact VC_ret (Qat rfl rfl rfl ⟨hH7.sub (by simp),rfl⟩)
def cntU (list P:List Nat) (n m t:Nat):List Nat:=(List.range n).map fun s=>(List.range m).countP fun i=>list.getD i 0 == s && P.getD (i / 50) 0 == t
def Qfn (list P:List Nat) (many n m:Nat):List (List Nat):=(List.range many).map (cntU list P n m)
theorem Qf1 (list P:List Nat) (n m t:Nat):(cntU list P n m t).length=n:=by simp [cntU]
theorem QF8 (list P:List Nat) (many n m:Nat):(Qfn list P many n m).length=many:=by simp [Qfn]
theorem Qwd (list P:List Nat) (n t:Nat):cntU list P n 0 t=List.replicate n 0:=by
 unfold cntU;apply List.ext_getElem?;intro j;rw [List.getElem?_map,List.getElem?_replicate];by_cases hj:j < n
 ·
  rw [List.getElem?_range hj,if_pos hj];rfl
 rw [List.getElem?_eq_none (by simpa using hj),if_neg hj];rfl
theorem QC4 (list P:List Nat) (many n:Nat):Qfn list P many n 0=List.replicate many (List.replicate n 0):=by
 unfold Qfn;apply List.ext_getElem?;intro j;rw [List.getElem?_map,List.getElem?_replicate];by_cases hj:j < many
 ·
  rw [List.getElem?_range hj,if_pos hj,Option.map_some,Qwd]
 rw [List.getElem?_eq_none (by simpa using hj),if_neg hj];rfl
theorem QAq {list P:List Nat}{n m t s:Nat} (hs:s < n):(cntU list P n m t).getD s 0<=m:=by
 rw [cntU,Qf6 _ _ _ _ hs];exact Nat.le_trans List.countP_le_length (by simp)
theorem Qy0 {list P:List Nat}{n m t:Nat}:∀ x∈cntU list P n m t,x<=m:=by
 intro x hx;obtain ⟨s,_,rfl⟩:=List.mem_map.1 hx;exact Nat.le_trans List.countP_le_length (by simp)
theorem Qo9 {list P:List Nat}{n m t:Nat} (hx:list.getD m 0 < n):cntU list P n (m+1) t=if P.getD (m / 50) 0=t then (cntU list P n m t).set (list.getD m 0) ((cntU list P n m t).getD (list.getD m 0) 0+1) else cntU list P n m t:=by
 apply List.ext_getElem?;intro j;by_cases hj:j < n
 ·
  have h1:∀ m,(cntU list P n m t)[j]? = some ((List.range m).countP fun i=>list.getD i 0 == j && P.getD (i / 50) 0 == t):=fun m=>by
   rw [cntU,List.getElem?_map,List.getElem?_range hj];rfl
  rw [h1,List.range_succ,List.countP_append,List.countP_singleton];by_cases ht:P.getD (m / 50) 0=t
  ·
   rw [if_pos ht,List.getElem?_set];by_cases e:list.getD m 0=j
   ·
    have hb:(list.getD m 0 == j && P.getD (m / 50) 0 == t)=true:=by rw [e,ht];simp
    rw [if_pos hb,if_pos e,if_pos (by rw [Qf1];exact hx),e]
    congr 2
    rw [List.getD_eq_getElem?_getD,h1];rfl
   have hb:(list.getD m 0 == j && P.getD (m / 50) 0 == t)=false:=by rw [show (list.getD m 0 == j)=false from beq_eq_false_iff_ne.2 e];rfl
   rw [hb,if_neg e,h1];rfl
  have hb:(list.getD m 0 == j && P.getD (m / 50) 0 == t)=false:=by rw [show (P.getD (m / 50) 0 == t)=false from beq_eq_false_iff_ne.2 ht,Bool.and_false]
  rw [hb,if_neg ht,h1];rfl
 rw [List.getElem?_eq_none (by rw [Qf1];omega),List.getElem?_eq_none];split
 ·
  rw [List.length_set,Qf1];omega
 rw [Qf1];omega
theorem QC5 {list P:List Nat}{many n m b:Nat} (hx:list.getD m 0 < n) (hb:P.getD (m / 50) 0=b) (hbm:b < many):Qfn list P many n (m+1)=(Qfn list P many n m).set b ((cntU list P n m b).set (list.getD m 0) ((cntU list P n m b).getD (list.getD m 0) 0+1)):=by
 apply List.ext_getElem?;intro j;rw [List.getElem?_set];unfold Qfn;rw [List.getElem?_map,List.getElem?_map,List.length_map,List.length_range];by_cases e:b=j
 ·
  subst e;rw [if_pos rfl,if_pos hbm,List.getElem?_range hbm,Option.map_some,Qo9 hx,if_pos hb]
 rw [if_neg e];by_cases hj:j < many
 ·
  rw [List.getElem?_range hj,Option.map_some,Option.map_some,Qo9 hx,if_neg (by omega)]
 rw [List.getElem?_eq_none (by simpa using hj)];rfl
theorem Qfz (list P:List Nat) (n t:Nat):Qfy list P t n=cntU list P n list.length t:=rfl
def Qau (hs:List (Option Addr×Nat)) (n:Nat):List Value:=hs.map fun h=>.slice h.1 n h.2
def Qcg (hs:List (Option Addr×Nat)) (n:Nat) (L:List (List Nat)):List Res:=List.zipWith (fun h l=>Res.row 3 1 h.1 n h.2 (Qag l)) hs L
theorem Qcu (hs:List (Option Addr×Nat)) (n:Nat):(Qau hs n).length=hs.length:=by simp [Qau]
theorem Qg4 {hs:List (Option Addr×Nat)}{i:Nat}{h:Option Addr×Nat} (n:Nat) (h1:hs[i]? = some h):(Qau hs n)[i]? = some (.slice h.1 n h.2):=by simp [Qau,h1]
theorem Qpa (hs:List (Option Addr×Nat)) (n i:Nat) (a:Option Addr) (c:Nat):(Qau hs n).set i (.slice a n c)=Qau (hs.set i (a,c)) n:=by simp [Qau,List.map_set]
theorem Qrk {hs:List (Option Addr×Nat)}{T:List (List Nat)}{n:Nat} (hl:hs.length=T.length) (h:∀ t∈T,t.length=n):Qbj hs T=Qau hs n:=by
 apply List.ext_getElem?;intro i;unfold Qbj Qau;rw [List.getElem?_zipWith,List.getElem?_map];rcases Nat.lt_or_ge i T.length with h1 | h1
 ·
  rw [List.getElem?_eq_getElem h1,List.getElem?_eq_getElem (by omega)];simp only [Option.map_some];rw [h _ (List.getElem_mem h1)]
 rw [List.getElem?_eq_none h1,List.getElem?_eq_none (by omega)];rfl
theorem QF9 {hs:List (Option Addr×Nat)}{n:Nat}{L:List (List Nat)} (hl:hs.length=L.length):(Qcg hs n L).length=L.length:=by simp [Qcg,hl]
theorem Qpb {hs:List (Option Addr×Nat)}{L:List (List Nat)}{i:Nat}{h:Option Addr×Nat}{l:List Nat} (n:Nat) (h1:hs[i]? = some h) (h2:L[i]? = some l):(Qcg hs n L)[i]? = some (Res.row 3 1 h.1 n h.2 (Qag l)):=by
 simp [Qcg,List.getElem?_zipWith,h1,h2]
theorem Qmp {hs:List (Option Addr×Nat)}{L:List (List Nat)} (n:Nat) (hl:hs.length=L.length) (a:Option Addr) (c:Nat) (l:List Nat):Qcg hs n L++[Res.row 3 1 a n c (Qag l)]=Qcg (hs++[(a,c)]) n (L++[l]):=by
 unfold Qcg;rw [List.zipWith_append hl];rfl
theorem QGa {hs:List (Option Addr×Nat)}{L:List (List Nat)}{i n:Nat}{h:Option Addr×Nat} (h1:hs[i]? = some h) (l:List Nat):(Qcg hs n L).set i (Res.row 3 1 h.1 n h.2 (Qag l))=Qcg hs n (L.set i l):=by
 apply List.ext_getElem?;intro j;unfold Qcg;rw [List.getElem?_set,List.getElem?_zipWith,List.getElem?_zipWith,List.getElem?_set,List.length_zipWith];by_cases e:i=j
 ·
  subst e;have h2:=(List.getElem?_eq_some_iff.1 h1).1;rw [if_pos rfl,if_pos rfl,h1];by_cases h3:i < L.length
  ·
   rw [if_pos (by omega),if_pos h3]
  rw [if_neg (by omega),if_neg h3]
 rw [if_neg e,if_neg e]
theorem Heap.hole_row {w0 w:World}{B:List Nat}{G:List Res}{r:Res} (h:Heap w0 B w G) (i j:Nat) (hi:G[i]? = some r) {g T sz n cap k:Nat}{xs:List Value}{v:Value} (hj:G[j]? = some (Res.row T sz (some ⟨g,0,none⟩) n cap xs)) (hij:i≠j) (hv:xs[k]? = some v):(holes r.foot w).cell? ⟨g,k,none⟩=some v:=by
 refine Qqi (Qaw (h.at j hj) hv) ?_;obtain ⟨h1,e1⟩:=List.getElem?_eq_some_iff.1 hi;obtain ⟨h2,e2⟩:=List.getElem?_eq_some_iff.1 hj;have ha:=List.pairwise_iff_getElem.1 h.apart;rcases Nat.lt_or_ge i j with h3 | h3
 ·
  have h4:=ha i j h1 h2 h3;rw [e1,e2] at h4;exact fun hb=>h4 g hb (by simp [Res.row])
 have h4:=ha j i h2 h1 (by omega);rw [e1,e2] at h4;exact h4 g (by simp [Res.row])
theorem QGb (list tab:List Nat) (n k t:Nat) (hk:50 * k < list.length) (hl:list.length<=1638350) (hs:∀ s∈list,s < n) (htl:tab.length=n) (htx:∀ x∈tab,x<=1000) (p:Addr) (hps:p.spot=none) (lc:Nat) (hlc:list.length<=lc) (gl gp gT many mc:Nat) (ht:t < many) (hmany:many<=6) (ta:Option Addr) (tc:Nat) (w:World)
  (c1:w.cell? ⟨gl,0,none⟩=some (.slice (some p) list.length lc)) (c2:w.cell? ⟨gp,0,none⟩=some (.slice (some ⟨gT,0,none⟩) many mc)) (c3:w.cell? ⟨gT,t,none⟩=some (.slice ta n tc)) (hr:RS w (some p) list.length 1 (Qag list)) (hrt:RS w ta n 1 (Qag tab)) :
  Does Tryz.prog 131 #[.int .i64 t,.int .i64 k,.pointer (some ⟨gl,0,none⟩),.pointer (some ⟨gp,0,none⟩)] w fun v w'=>w'=w/\v=.int .i64 (Qfi tab (Qcl list k):Nat):=by
 have hgd:=Qrf list k hk (by omega) p lc hlc w;have hrs:=Qs0 hr hps hk;have hcm:∀ s∈Qcl list k,s < n:=fun s h=>hs s (List.mem_of_mem_drop (List.mem_of_mem_take h));have hcl:(Qcl list k).length<=50:=by simp [Qcl];omega
 refine En [.int .i64 t,.int .i64 k,.pointer (some ⟨gl,0,none⟩),.pointer (some ⟨gp,0,none⟩)] 30 Tryz.func131 ?_;generalize hch:Qcl list k=ch at *;generalize hnc:ch.length=nc at *;generalize list.length=nl at *;refine VS [0,1,2,3] ?_;refine VS [0,1,2,3,7] ?_;refine VQ [0,3,7,12,13,14] fun K hK=>?_;refine ⟨_,c1,?_⟩;refine MemK_call Tryz.call132 ?_;refine Qs ?_;refine CallK.mk hgd ?_;rintro v w2 ⟨rfl,rfl⟩;refine Qs ?_;apply hK;clear hK;generalize hpk:p.add (50 * k)=pk at *;refine Qab ?_;refine Qac [0,3,7,12,13,14] (fun m e w'=>∃ (i:Nat),Is e [(0,.int .i64 t),(3,.pointer (some ⟨gp,0,none⟩)),(7,.int .i64 (Qfi tab (ch.take i):Nat)),(12,.slice (some pk) nc (lc - 50 * k)),(13,.int .i64 nc),(14,.int .i64 i)]/\Is w' w2/\Qfi tab (ch.take i)<=1000 * i/\i<=nc/\m=nc - i) nc ?_ ?_
 ·
  refine Qs ?_;exact ⟨0,rfl,rfl,by simp [Qfi],by omega,rfl⟩
 rintro m e w' ⟨i,rfl,rfl,hcb,hi,rfl⟩;refine VS [0,3,7,12,13,14,15] ?_;(repeat refine Qar ?_);refine VD (fun h=>?_) (fun h=>?_)
 ·
  have hcell:=Qbk hrs (i:=i) (by omega);have hx:=hcm _ (Qaz 0 (l:=ch) (i:=i) (by omega));have htk:ch.take (i+1)=ch.take i++[ch.getD i 0]:=Qb1 0 (by omega);have hcs:Qfi tab (ch.take (i+1))=Qfi tab (ch.take i)+tab.getD (ch.getD i 0) 0:=by rw [htk];simp [Qfi]
  generalize ch.getD i 0=x at *;obtain ⟨q,rfl⟩:=Qbb hrt (by omega);have hct:=Qbk hrt (i:=x) (by omega);have hcx:=htx _ (Qaz 0 (l:=tab) (i:=x) (by omega));generalize tab.getD x 0=c at *;refine VC_skip ?_;refine VB ?_;refine VQ [0,3,7,9,12,13,14] fun K hK=>?_;refine ⟨⟨by omega,by omega⟩,_,hcell,?_⟩;apply hK;clear hK;refine VQ [0,3,7,12,13,14] fun K hK=>?_;refine ⟨_,c2,?_⟩;refine Qs ?_;refine ⟨⟨by omega,by omega⟩,_,c3,?_⟩;refine Qs ?_;refine ⟨⟨by omega,by omega⟩,_,hct,?_⟩;refine Qs ?_;(repeat refine Qo ?_);apply hK;clear hK;refine Qah ?_;refine VS [0,3,7,12,13,14] ?_;refine Qaa ?_;refine Qs ?_;exact ⟨nc - (i+1),by omega,i+1,by rw [hcs];rfl,rfl,by omega,by omega,rfl⟩
 obtain rfl:i=nc:=by omega
 rw [List.take_of_length_le (by omega)];refine Qad rfl ?_;refine VS [6] ?_;exact VC_ret (VX_ret1 rfl rfl ⟨rfl,rfl⟩)
end Go.Proofs.YtfphmlhgebpojaaGreat
