/- A program logic over the model, and what this program's functions do by it: part 3. No conditions: a library of lemmas. -/
import Derived.Test.YtfphmlhgebpojaaGreatM2
import Derived.Laws.StructEq
open Nat (reduceEqDiff)
set_option linter.unusedSimpArgs false
set_option linter.unusedVariables false
set_option maxRecDepth 100000
namespace Go.Proofs.YtfphmlhgebpojaaGreat
open Go Go.Eng
def rd (g gs:Nat) (s:List UInt8) (at_:Nat):Res :=
 Res.pair (Res.blk g 179 [.func (.func 137) #[] #[.pointer (some ⟨gs,0,none⟩)],.int .i64 at_,.int .i64 (8 * s.length:Nat)]) (Res.blk gs 9 [Str s])
theorem Qz8 (s:List UInt8) (gs i:Nat) (w:World) (hi:i < 8 * s.length) (hs:s.length<=1000000000000000000) (hc:w.cell? ⟨gs,0,none⟩=some (Str s)) :
  Does Tryz.prog 137 #[.int .i64 i,.pointer (some ⟨gs,0,none⟩)] w fun x w'=>w'=w/\x=.int .u64 ((Qam s).getD i false).toNat:=by
 have hb:=Qjr s i hi;have hlt:=(s.getD (i / 8) 0).toNat_lt;have e1:((i:Int) / 8).toNat=i / 8:=by omega
 have hsh:shN IntKind.u64 ((7 - (i:Int) % 8) % 18446744073709551616)=7 - i % 8:=Qr9 (by omega) (by simp [IntKind.bits];omega) (by decide);have hbit:=Qgy (s.getD (i / 8) 0).toNat (7 - i % 8);refine En [.int .i64 i,.pointer (some ⟨gs,0,none⟩)] 15 Tryz.func137 ?_;refine VS [0,1] ?_;refine VQ [3] fun K hK=>?_;refine ⟨_,hc,?_⟩;refine Qs ?_;(repeat first | refine Qo ?_ | refine Qp ?_);rw [hsh,e1,Int.emod_eq_of_lt (by omega) (by omega),Qgd];have hle:=Nat.div_le_self (s.getD (i / 8) 0).toNat (2 ^ (7 - i % 8));generalize (s.getD (i / 8) 0).toNat / 2 ^ (7 - i % 8)=q at *;(repeat first | refine Qo ?_ | refine Qp ?_);rw [show Int.toNat 1=1 from rfl,Int.toNat_natCast,Nat.and_one_is_mod,hbit];apply hK;clear hK;have hb2:(Qam s).getD i false=(s.getD (i / 8) 0).toNat.testBit (7 - i % 8):=by rw [List.getD_eq_getElem?_getD,hb];rfl
 rw [hb2];exact VC_ret (VX_ret1 rfl rfl ⟨rfl,rfl⟩)
theorem Qd4 (s:List UInt8) (at_:Int) (w:World) (ha:I64 at_) (hs:s.length<=1000000000000000000) :
  Does Tryz.prog 86 #[Str s,.int .i64 at_] w fun v w' =>
   ((at_ < 0∨8 * (s.length:Int) < at_)/\Heap w [] w' []/\v=.pointer none)∨(¬ (at_ < 0∨8 * (s.length:Int) < at_)/\∃ g gs,Heap w [] w' [rd g gs s at_.toNat]/\v=.pointer (some ⟨g,0,none⟩)):=by
 obtain ⟨ha1,ha2⟩:=ha;refine En [Str s,.int .i64 at_] 21 Tryz.func86 ?_;refine VQ [1,2] fun K hK=>?_;refine Qce ?_;refine Qs ?_;have hH:=(Heap.start w).box 9 [Str s];generalize w.alloc (Obj.cells [Str s].toArray 9)=w1 at *;generalize w.heap.size=gs at *;apply hK;clear hK;refine VQ [1,2,13] fun K hK=>?_
 suffices out:∀ b:Bool,(b=true ↔ at_ < 0∨8 * (s.length:Int) < at_)->K [(1,.int .i64 at_),(2,.pointer (some ⟨gs,0,none⟩)),(13,.bool b)] w1 by
  refine ⟨fun h=>⟨_,Qae (hH.at 0 rfl) rfl,?_⟩,fun h=>out _ (by simp [h])⟩;refine Qs ?_;(repeat' (first | exact out _ _ (by first | omega | (simp;done) | (simp;omega)) | exact out _ (by first | omega | (simp;done) | (simp;omega)) | refine ⟨fun _=>?_,fun _=>?_⟩ | refine Qo ?_))
 intro b hb;apply hK;clear hK;refine Vi (fun h=>?_) (fun h=>VC_skip ?_)
 ·
  refine VS [4] ?_;exact VC_ret (VX_ret1 rfl rfl (.inl ⟨hb.1 h,hH.sub (by simp),rfl⟩))
 have hg:¬ (at_ < 0∨8 * (s.length:Int) < at_):=fun h'=>by rw [hb.2 h'] at h;cases h
 clear h hb;obtain ⟨at_,rfl⟩:∃ n:Nat,at_=n:=⟨at_.toNat,by omega⟩;refine VQ [4] fun K hK=>?_;(repeat first | refine Qo ?_ | refine Qp ?_ | (refine Gc hH ?_;(try refine Qs ?_)));refine Qce ?_;refine Qs ?_;have hH2:=hH.box 179 [.func (.func 137) #[] #[.pointer (some ⟨gs,0,none⟩)],.int .i64 at_,.int .i64 (8 * s.length:Nat)];apply hK;clear hK;refine VC_ret (VX_ret1 rfl rfl (.inr ⟨hg,_,gs,?_,rfl⟩));exact hH2.pair
theorem Qoq (g gs at_:Nat) (s:List UInt8) (w:World) (hL:(rd g gs s at_).holds w) :
  Does Tryz.prog 100 #[.pointer (some ⟨g,0,none⟩)] w fun x w'=>w'=w/\x=.int .i64 at_:=by
 obtain ⟨h1,h2,_⟩:=hL;refine En [.pointer (some ⟨g,0,none⟩)] 9 Tryz.func100 ?_;refine VS [0] ?_;refine VS [0,4] ?_;refine Qaf rfl rfl (fun h=>by cases h) (fun h=>VC_skip ?_);refine VQ [2] fun K hK=>?_;refine ⟨_,Qae h1 rfl,?_⟩;apply hK;clear hK;exact VC_ret (VX_ret1 rfl rfl ⟨rfl,rfl⟩)
theorem Qe5 (g gs:Nat) (s:List UInt8) (at_ n:Nat) (w:World) (hn:n<=64) (ha:at_<=8 * s.length) (hs:s.length<=1000000000000000)
  (hL:Heap w (rd g gs s at_).foot w [rd g gs s at_]):Does Tryz.prog 87 #[.pointer (some ⟨g,0,none⟩),.int .i64 n] w fun x w' =>
   (8 * s.length < at_+n/\w'=w/\x=.tuple #[.int .u64 0,.int .i64 10])∨(at_+n<=8 * s.length/\Heap w (rd g gs s at_).foot w' [rd g gs s (at_+n)]/\x=.tuple #[.int .u64 (numB (((Qam s).drop at_).take n)),.int .i64 0]):=by
 have hH:=hL.unpair;have hbl:=Qbd s;refine En [.pointer (some ⟨g,0,none⟩),.int .i64 n] 62 Tryz.func87 ?_;refine VS [0,1] ?_;refine VQ [0,1,16] fun K hK=>?_;refine ⟨_,Qae (hH.at 0 rfl) rfl,?_⟩;refine Qs ?_;apply hK;clear hK;refine Qaf rfl rfl (fun h=>by cases h) (fun h=>VC_skip ?_);refine VQ [0,1,22] fun K hK=>?_
 suffices out:∀ b:Bool,(b=true ↔ False)->K [(0,.pointer (some ⟨g,0,none⟩)),(1,.int .i64 n),(22,.bool b)] w by (repeat' (first | exact out _ _ (by first | omega | (simp;done) | (simp;omega)) | exact out _ (by first | omega | (simp;done) | (simp;omega)) | refine ⟨fun _=>?_,fun _=>?_⟩ | refine Qo ?_))
 intro b hb;apply hK;clear hK;refine Qaf rfl rfl (fun h=>(hb.1 h).elim) (fun h=>VC_skip ?_);clear hb h;refine Vq [0,1,33] fun K hK=>?_;(repeat first | refine Qo ?_ | refine Qp ?_ | (refine Gc hH ?_;(try refine Qs ?_)));apply hK;clear hK;refine VD (fun h=>?_) (fun h=>VC_skip ?_)
 ·
  refine VS [4,5] ?_;exact VC_ret (Qat rfl rfl rfl (.inl ⟨by omega,rfl,rfl⟩))
 refine VS [0,1,6] ?_;refine VS [0,1,6,34,35] ?_;refine VB ?_;refine Qac [0,1,6,34,35] (fun m e w'=>∃ (k:Nat),Is e [(0,.pointer (some ⟨g,0,none⟩)),(1,.int .i64 n),(6,.int .u64 (numB (((Qam s).drop at_).take k))),(34,.int .i64 n),(35,.int .i64 k)]/\Is w' w/\k<=n/\m=n - k) n ?_ ?_
 ·
  refine Qs ?_;exact ⟨0,rfl,rfl,by omega,rfl⟩
 rintro m e w' ⟨k,rfl,rfl,hk,rfl⟩;refine VS [0,1,6,34,35,36] ?_;(repeat refine Qar ?_);refine VD (fun h=>?_) (fun h=>?_)
 ·
  refine VC_skip ?_;refine VB ?_;have hlt:=Qe0 (((Qam s).drop at_).take k);rw [List.length_take,List.length_drop,Nat.min_eq_left (by omega)] at hlt;have h63:numB (((Qam s).drop at_).take k) < 2 ^ 63:=Nat.lt_of_lt_of_le hlt (Nat.pow_le_pow_right (by omega) (by omega));have htk:=Qb1 false (l:=(Qam s).drop at_) (i:=k) (by simp;omega);have hnext:=Qoi (((Qam s).drop at_).take k) (((Qam s).drop at_).getD k false);rw [<- htk] at hnext;have hgd:((Qam s).drop at_).getD k false=(Qam s).getD (at_+k) false:=by simp [List.getD_eq_getElem?_getD]
  rw [hgd] at hnext;refine VS [0,1,6,7,34,35] ?_;refine VH w' (Ext.refl _) [0,1,6,34,35] [(0,true),(1,true),(2,true),(3,true),(4,true),(5,true),(6,true),(7,true),(8,true),(9,true),(10,true),(11,true),(12,false),(13,true),(14,true)] fun K hK=>?_;(repeat first | refine Qo ?_ | refine Qp ?_ | (refine Gc hH ?_;(try refine Qs ?_)));have hbd:=Qz8 s gs (at_+k) w' (by omega) (by omega) (Qae (hH.at 1 rfl) rfl);rw [Int.natCast_add] at hbd;refine Qbf ?_;refine Qs ?_;refine FnK.mk Tryz.call137 hbd ?_;rintro v w3 ⟨rfl,rfl⟩;refine Qs ?_;refine ⟨Ext.refl _,?_⟩;rw [show shN IntKind.u64 1=1 from rfl];generalize (Qam s).getD (at_+k) false=b at *
  have hor:numB (((Qam s).drop at_).take k) * 2 ||| b.toNat=2 * numB (((Qam s).drop at_).take k)+b.toNat:=by
   rw [Nat.mul_comm];cases b
   ·
    simp
   exact (Nat.two_pow_add_eq_or_of_lt (i:=1) (b:=1) (by omega) _).symm
  rw [Nat.add_comm] at htk;generalize numB (((Qam s).drop at_).take k)=q at *;have e1:(q:Int) * 2 ^ 1 % 18446744073709551616=((q * 2:Nat):Int):=by omega
  rw [e1];refine ⟨⟨by omega,by omega⟩,⟨by cases b <;> simp,by cases b <;> simp⟩,?_⟩;simp only [Int.toNat_natCast];rw [hor,<- hnext];apply hK;clear hK;refine Qah ?_;refine VS [0,1,6,34,35] ?_;refine Qaa ?_;refine Qs ?_;exact ⟨n - (k+1),by omega,k+1,rfl,rfl,by omega,rfl⟩
 refine Qad rfl ?_;refine VQ [6] fun K hK=>?_;(repeat first | refine Qo ?_ | refine Qp ?_ | (refine Gc hH ?_;(try refine Qs ?_)));have hkn:k=n:=by omega
 subst hkn;refine MemK_store ?_;refine Qs ?_;refine StoreK_blk hH 0 (vs:=[.int .i64 (at_+k:Nat)]) rfl rfl (by kernel_rfl) (by first | decide | (simp;done) | (simp;omega)) (by simp [Value.oneCell']) fun w6 hH2=>?_;(try refine Qs ?_);apply hK;clear hK;refine VS [4,5] ?_;exact VC_ret (Qat rfl rfl rfl (.inr ⟨by omega,hH2.pair,rfl⟩))
theorem QCb (g gs:Nat) (s:List UInt8) (at_ most:Nat) (w:World) (hm:most<=1000) (ha:at_<=8 * s.length) (hs:s.length<=1000000000000000)
  (hL:Heap w (rd g gs s at_).foot w [rd g gs s at_]):Does Tryz.prog 101 #[.pointer (some ⟨g,0,none⟩),.int .i64 most] w fun x w' =>
   x=.tuple #[.int .i64 (unS ((Qam s).drop at_) most 0).1,.int .i64 (unS ((Qam s).drop at_) most 0).2]/\(((unS ((Qam s).drop at_) most 0).2≠0/\w'=w)∨((unS ((Qam s).drop at_) most 0).2=0/\at_+(unS ((Qam s).drop at_) most 0).1+1<=8 * s.length/\(unS ((Qam s).drop at_) most 0).1<=most/\Heap w (rd g gs s at_).foot w' [rd g gs s (at_+(unS ((Qam s).drop at_) most 0).1+1)])):=by
 have hH:=hL.unpair;have hbl:=Qbd s;refine En [.pointer (some ⟨g,0,none⟩),.int .i64 most] 56 Tryz.func101 ?_;refine VS [0,1] ?_;refine VQ [0,1,15] fun K hK=>?_;refine ⟨_,Qae (hH.at 0 rfl) rfl,?_⟩;refine Qs ?_;apply hK;clear hK;refine Qaf rfl rfl (fun h=>by cases h) (fun h=>VC_skip ?_);refine VS [0,1,17] ?_;refine Qaf rfl rfl (fun h=>by simp at h;omega) (fun h=>VC_skip ?_);refine VS [0,1,6] ?_;refine VB ?_;generalize hu:unS ((Qam s).drop at_) most 0=u at *;refine Qac [0,1,6] (fun m e w'=>∃ (k:Nat),Is e [(0,.pointer (some ⟨g,0,none⟩)),(1,.int .i64 most),(6,.int .i64 k)]/\Is w' w/\k<=most/\at_+k<=8 * s.length/\unS ((Qam s).drop (at_+k)) most k=u/\m=8 * s.length - (at_+k)) (8 * s.length - at_) ?_ ?_
 ·
  refine Qs ?_;exact ⟨0,rfl,rfl,by omega,by omega,hu,rfl⟩
 rintro m e w' ⟨k,rfl,rfl,hk,hk2,hk3,rfl⟩;refine Vq [0,1,6,28] fun K hK=>?_;(repeat first | refine Qo ?_ | refine Qp ?_ | (refine Gc hH ?_;(try refine Qs ?_)));apply hK;clear hK;refine VD (fun h=>?_) (fun h=>?_)
 ·
  refine VC_skip ?_;refine VB ?_;have hdr:=drop_getD false (l:=Qam s) (i:=at_+k) (by omega);rw [hdr] at hk3;have hbd:=Qz8 s gs (at_+k) w' (by omega) (by omega) (Qae (hH.at 1 rfl) rfl);rw [Int.natCast_add] at hbd;refine VL [0,1,6,42] 10 fun K hK=>?_;(repeat first | refine Qo ?_ | refine Qp ?_ | (refine Gc hH ?_;(try refine Qs ?_)));refine Qbf ?_;refine Qs ?_;refine FnK.mk Tryz.call137 hbd ?_;rintro v w3 ⟨rfl,rfl⟩;refine Qs ?_;apply hK;clear hK;generalize (Qam s).getD (at_+k) false=b at *;cases b with
  | false =>
   refine Qaf rfl rfl (fun h=>?_) (fun h=>by simp at h);rw [unS] at hk3;subst hk3;refine VQ [6] fun K hK=>?_;(repeat first | refine Qo ?_ | refine Qp ?_ | (refine Gc hH ?_;(try refine Qs ?_)));refine MemK_store ?_;refine Qs ?_;refine StoreK_blk hH 0 (vs:=[.int .i64 (at_+k+1:Nat)]) rfl rfl (by kernel_rfl) (by first | decide | (simp;done) | (simp;omega)) (by simp [Value.oneCell']) fun w6 hH2=>?_;(try refine Qs ?_);apply hK;clear hK;refine VS [4,5] ?_;exact VC_ret (Qat rfl rfl rfl ⟨rfl,.inr ⟨rfl,by simp only;omega,hk,hH2.pair⟩⟩)
  | true =>
   refine Qaf rfl rfl (fun h=>by simp at h) (fun h=>VC_skip ?_);rw [unS] at hk3;refine VS [0,1,6,55] ?_;refine VD (fun h=>?_) (fun h=>VC_skip ?_)
   ·
    rw [if_pos (by omega)] at hk3;subst hk3;refine VS [4,5] ?_;exact VC_ret (Qat rfl rfl rfl ⟨rfl,.inl ⟨by simp,rfl⟩⟩)
   rw [if_neg (by omega)] at hk3;refine Qah ?_;refine VS [0,1,6] ?_;refine Qaa ?_;refine Qs ?_;exact ⟨8 * s.length - (at_+(k+1)),by omega,k+1,rfl,rfl,by omega,by omega,hk3,rfl⟩
 refine Qad rfl ?_;rw [List.drop_of_length_le (by omega),unS] at hk3;subst hk3;refine VS [4,5] ?_;exact VC_ret (Qat rfl rfl rfl ⟨rfl,.inl ⟨by simp,rfl⟩⟩)
def Qbe (l:List Bool):List Value:=[Str (Qbo l),.int .i64 l.length]
def Qir (l:List Bool):Value:=.agg (Qbe l).toArray
theorem QEu (l:List Bool) (h:l.length % 8≠0):((Qbo l).getD ((Qbo l).length - 1) 0).toNat * 2 ^ (l.length % 8) % 256=0:=by
 have e:l=l.take (8 * (l.length / 8))++l.drop (8 * (l.length / 8)):=(List.take_append_drop _ _).symm;have h1:(l.take (8 * (l.length / 8))).length % 8=0:=by rw [List.length_take];omega
 have h2:(l.drop (8 * (l.length / 8))).length=l.length % 8:=by rw [List.length_drop];omega
 have h3:Qbo l=Qbo (l.take (8 * (l.length / 8)))++Qbo (l.drop (8 * (l.length / 8))):=by
  conv=>lhs;rw [e]
  exact Qso _ _ h1
 generalize l.drop (8 * (l.length / 8))=m at *;generalize l.take (8 * (l.length / 8))=q at *;have h4:(Qbo m).length=1:=by rw [Qcc,h2];omega
 have h5:=Qc6 m
 match hm:Qbo m,h4 with
 | [x],_ =>
  rw [h3,hm];have:((Qbo q++[x]).getD ((Qbo q++[x]).length - 1) 0)=x:=by simp [List.getD_eq_getElem?_getD]
  rw [this];rw [hm,Qdv,Qjq,List.append_nil] at h5;have h6:=congrArg numB h5;rw [Qdl,Qoh,List.length_replicate] at h6
  have hz:numB (List.replicate (8 * ((m.length+7) / 8) - m.length) false)=0:=by
   rw [<- Qmb,Qdl,Nat.zero_mod]
  rw [hz,h2,Nat.mod_eq_of_lt x.toNat_lt,Nat.add_zero,show 8 * ((l.length % 8+7) / 8) - l.length % 8=8 - l.length % 8 by omega] at h6;rw [h6,Nat.mul_assoc,<- Nat.pow_add,show 8 - l.length % 8+l.length % 8=8 by omega];exact Nat.mul_mod_left _ _
theorem QIc (l:List Bool) (w:World) (hl:l.length<=1000000000000000000):Does Tryz.prog 85 #[Qir l] w fun x w'=>Heap w [] w' []/\x=.bool true:=by
 have htl:=Qcc l;refine En [Qir l] 40 Tryz.func85 ?_;refine VQ [1] fun K hK=>?_;refine Qce ?_;refine Qs ?_;have hH:=(Heap.start w).box 24 (Qbe l);rw [Qir];refine Qs ?_;generalize w.alloc (Obj.cells (Qbe l).toArray 24)=w1 at *;apply hK;clear hK;generalize w.heap.size=g at *;refine VQ [1,20] fun K hK=>?_;(repeat first | refine Qo ?_ | refine Qp ?_ | (refine Gc hH ?_;(try refine Qs ?_)))
 suffices out:∀ b:Bool,(b=true ↔ False)->K [(1,.pointer (some ⟨g,0,none⟩)),(20,.bool b)] w1 by
  refine ⟨fun _=>?_,fun h=>absurd h (by omega)⟩;(repeat first | refine Qo ?_ | refine Qp ?_ | (refine Gc hH ?_;(try refine Qs ?_)));exact out _ (by simp;omega)
 intro b hb;apply hK;clear hK;refine Qaf rfl rfl (fun h=>(hb.1 h).elim) (fun h=>VC_skip ?_);clear h hb;refine Vq [2] fun K hK=>?_;(repeat first | refine Qo ?_ | refine Qp ?_ | (refine Gc hH ?_;(try refine Qs ?_)))
 suffices out:K [(2,.bool true)] by
  refine ⟨fun h=>?_,fun h=>?_⟩
  ·
   have hlb:=QEu l (by omega);(repeat first | refine Qo ?_ | refine Qp ?_ | (refine Gc hH ?_;(try refine Qs ?_)));have hsh:shN IntKind.u8 (((l.length:Int) % 8) % 18446744073709551616)=l.length % 8:=Qr9 (by omega) (by simp [IntKind.bits];omega) (by decide);rw [hsh,Qni,show (((Qbo l).getD ((Qbo l).length - 1) 0).toNat * 2 ^ (l.length % 8):Nat)=_ from rfl];have e:((((Qbo l).getD ((Qbo l).length - 1) 0).toNat * 2 ^ (l.length % 8):Nat):Int) % 256=0:=by omega
   rw [e];exact out
  exact out
 apply hK;clear hK;exact VC_ret (VX_ret1 rfl rfl ⟨hH.sub (by simp),rfl⟩)
def Qe1 (ls:List (List Bool)):List Value:=ls.flatMap Qbe
theorem Qx9 (ls:List (List Bool)):∀ (i:Nat) (l:List Bool),ls[i]? = some l->∀ j u,(Qbe l)[j]? = some u->(Qe1 ls)[i * 2+j]? = some u:=by
 induction ls with
 | nil=>intro i l h;simp at h
 | cons x ls ih =>
  intro i l h j u hu;have hj:j < 2:=by have:=(List.getElem?_eq_some_iff.1 hu).1;simpa [Qbe] using this
  cases i with
  | zero =>
   simp at h;subst h;simp only [Qe1,List.flatMap_cons];rw [List.getElem?_append_left (by simp [Qbe];omega)];simpa using hu
  | succ i =>
   have:=ih i l (by simpa using h) j u hu;simp only [Qe1,List.flatMap_cons] at this ⊢;rw [List.getElem?_append_right (by simp [Qbe];omega)];rw [<- this]
   congr 1
   simp [Qbe];omega
theorem Qu8 (ls:List (List Bool)) (p:Addr) (hp:p.spot=none) (cap:Nat) (w:World) (hl:RS w (some p) ls.length 2 (Qe1 ls)) (hs:ls.flatten.length<=10000000000000) (hls:ls.length<=1000000000) :
  Does Tryz.prog 42 #[.slice (some p) ls.length cap] w fun x w'=>Heap w [] w' []/\x=.tuple #[Qir ls.flatten,.int .i64 0]:=by
 refine En [.slice (some p) ls.length cap] 43 Tryz.func42 ?_;refine VQ [0,2] fun K hK=>?_;refine MemK_alloc (.agg #[.string ⟨#[]⟩,.int .i64 0]) (by kernel_rfl) ?_;refine Qs ?_;have hH:=(Heap.start w).box 24 [.string ⟨#[]⟩,.int .i64 0];generalize w.alloc (Obj.cells [Value.string ⟨#[]⟩,.int .i64 0].toArray 24)=w1 at *;generalize w.heap.size=gr at *;apply hK;clear hK;refine VQ [0,2,4] fun K hK=>?_;refine MemK_call Tryz.call35 ?_;refine Qs ?_;refine CallK.mk (Qd3 w1) ?_;rintro v w2 ⟨gw,hH2,rfl⟩;apply hK;clear hK;have hH3:=hH.call0 hH2;clear hH hH2;refine VS [2,4,11,12,13] ?_;refine VB ?_;refine Qac [2,4,11,12,13] (fun m e w'=>∃ (i:Nat) (a:Option Addr) (c:Nat),Is e [(2,.pointer (some ⟨gr,0,none⟩)),(4,.pointer (some ⟨gw,0,none⟩)),(11,.slice (some p) ls.length cap),(12,.int .i64 ls.length),(13,.int .i64 i)]/\Heap w [] w' [wr gw a c (ls.take i).flatten,Res.blk gr 24 [.string ⟨#[]⟩,.int .i64 0]]/\i<=ls.length/\m=ls.length - i) ls.length ?_ ?_
 ·
  refine Qs ?_;exact ⟨0,none,0,rfl,hH3,by omega,rfl⟩
 clear hH3;rintro m e w' ⟨i,a,c,rfl,hH,hi,rfl⟩;refine VS [2,4,11,12,13,14] ?_;(repeat refine Qar ?_);refine VD (fun h=>?_) (fun h=>?_)
 ·
  refine VC_skip ?_;refine VB ?_;have hi':i < ls.length:=by omega
  have hli:ls[i]? = some ls[i]:=List.getElem?_eq_getElem hi';have htk:(ls.take (i+1)).flatten=(ls.take i).flatten++ls[i]:=by rw [List.take_add_one,hli,Option.toList_some,List.flatten_append,List.flatten_singleton]
  have hfl:(ls.take (i+1)).flatten.length<=ls.flatten.length:=by
   have:ls.flatten=(ls.take (i+1)).flatten++(ls.drop (i+1)).flatten:=by rw [<- List.flatten_append,List.take_append_drop]
   rw [this];simp
  rw [htk,List.length_append] at hfl;generalize hlx:ls[i]=l at *;generalize (ls.take i).flatten=acc at *;have htl:=Qcc l;have hrd:=QD7 (hH.rs' hl) hp (i * 2) (Qbe l) (fun j u hu=>Qx9 ls i l hli j u hu);refine VQ [2,4,6,11,12,13] fun K hK=>?_;refine ⟨⟨by omega,by omega⟩,Qbe l,⟨rfl,hrd⟩,?_⟩;refine MemK_alloc (.agg #[.string ⟨#[]⟩,.int .i64 0]) (by kernel_rfl) ?_;refine Qs ?_;have hH1:=hH.box 24 [.string ⟨#[]⟩,.int .i64 0];generalize w'.alloc (Obj.cells [Value.string ⟨#[]⟩,.int .i64 0].toArray 24)=w1 at *;generalize w'.heap.size=gb at *;refine MemK_store ?_;refine Qs ?_;refine StoreK_blk hH1 0 (vs:=Qbe l) rfl rfl (by kernel_rfl) (by simp [Qbe]) (by simp [Qbe,Value.oneCell']) fun w2 hH2=>?_;have hH2:Heap w [] w2 [Res.blk gb 24 (Qbe l),wr gw a c acc,Res.blk gr 24 [.string ⟨#[]⟩,.int .i64 0]]:=hH2;clear hH1 hH;apply hK;clear hK;refine VQ [2,4,6,11,12,13,19] fun K hK=>?_;refine ⟨Qbe l,⟨rfl,blk_reads (hH2.at 0 rfl)⟩,?_⟩;refine MemK_call Tryz.call85 ?_;refine Qs ?_;refine CallK.mk (QIc l w2 (by omega)) ?_;rintro v w3 ⟨hHm,rfl⟩;refine Qs ?_;apply hK;clear hK;have hH3:=hH2.call0 hHm;clear hH2 hHm;refine Qaf rfl rfl (fun h=>by simp at h) (fun h=>VC_skip ?_);refine VQ [2,4,6,7,11,12,13] fun K hK=>?_;(repeat first | refine Qo ?_ | refine Qp ?_ | (refine Gc hH3 ?_;(try refine Qs ?_)));refine MemK_call Tryz.call86 ?_;refine Qs ?_;refine CallK.mk (Qd4 (Qbo l) 0 w3 (I64.mk (by omega) (by omega)) (by omega)) ?_;rintro v w4 (⟨hbad,_⟩ | ⟨_,grd,gs,hHr,rfl⟩)
  ·
   exact absurd hbad (by omega)
  apply hK;clear hK;have hH4:=hH3.call0 hHr;clear hH3 hHr;refine VQ [2,4,7,11,12,13,25,26] fun K hK=>?_;(repeat first | refine Qo ?_ | refine Qp ?_ | (refine Gc hH4 ?_;(try refine Qs ?_)));apply hK;clear hK;have hH5:Heap w [] w4 [rd grd gs (Qbo l) 0,wr gw a c acc,Res.blk gr 24 [.string ⟨#[]⟩,.int .i64 0]]:=hH4.sub (by simp);clear hH4;refine VB ?_;refine Qac [2,4,7,11,12,13,25,26] (fun m e w'=>∃ (k:Nat) (a:Option Addr) (c:Nat),Is e [(2,.pointer (some ⟨gr,0,none⟩)),(4,.pointer (some ⟨gw,0,none⟩)),(7,.pointer (some ⟨grd,0,none⟩)),(11,.slice (some p) ls.length cap),(12,.int .i64 ls.length),(13,.int .i64 i),(25,.int .i64 l.length),(26,.int .i64 k)]/\Heap w [] w' [rd grd gs (Qbo l) k,wr gw a c (acc++l.take k),Res.blk gr 24 [.string ⟨#[]⟩,.int .i64 0]]/\k<=l.length/\m=l.length - k) l.length ?_ ?_
  ·
   refine Qs ?_;exact ⟨0,a,c,rfl,by simpa using hH5,by omega,rfl⟩
  clear hH5;rintro m e w5 ⟨k,a1,c1,rfl,hH,hk,rfl⟩;refine VS [2,4,7,11,12,13,25,26,27] ?_;(repeat refine Qar ?_);refine VD (fun h=>?_) (fun h=>?_)
  ·
   refine VC_skip ?_;refine VB ?_
   have htb:(Qam (Qbo l)).getD k false=l.getD k false:=by
    rw [Qc6,List.getD_eq_getElem?_getD,List.getElem?_append_left (by omega),List.getD_eq_getElem?_getD]
   have hbl:=Qbd (Qbo l)
   have hnum:numB (((Qam (Qbo l)).drop k).take 1)=(l.getD k false).toNat:=by
    rw [drop_getD false (by omega),htb];cases l.getD k false <;> rfl
   refine VQ [2,4,7,8,11,12,13,25,26] fun K hK=>?_;refine MemK_call Tryz.call87 ?_;refine Qs ?_;refine CallK.mk (Qe5 grd gs (Qbo l) k 1 w5 (by omega) (by omega) (by omega) (hH.focus 0 rfl)) ?_;rintro v w6 (⟨hbad,_⟩ | ⟨_,hHr,rfl⟩)
   ·
    exact absurd hbad (by omega)
   rw [hnum];apply hK;clear hK;have hH2:=hH.call1 0 rfl hHr;clear hHr hH;have htl2:=Qcc (acc++l.take k);have hbt:(l.getD k false).toNat < 2 ^ 1:=by cases l.getD k false <;> simp
   refine VQ [2,4,7,11,12,13,25,26] fun K hK=>?_;refine MemK_call Tryz.call36 ?_;refine Qs ?_;refine CallK.mk (Qdi gw a1 c1 (acc++l.take k) (l.getD k false).toNat 1 w6 (by omega) hbt (by simp;omega) (hH2.focus 1 rfl)) ?_;rintro v w7 ⟨a2,c2,hHw,rfl⟩;apply hK;clear hK;have hH3:=hH2.call1 1 rfl hHw;clear hHw hH2;have hb1:Qaq 1 (l.getD k false).toNat=[l.getD k false]:=by cases l.getD k false <;> rfl
   rw [hb1,List.append_assoc,<- Qb1 false (show k < l.length by omega)] at hH3;refine Qah ?_;refine VS [2,4,7,11,12,13,25,26] ?_;refine Qaa ?_;refine Qs ?_;exact ⟨l.length - (k+1),by omega,k+1,a2,c2,rfl,hH3,by omega,rfl⟩
  refine Qad rfl ?_;refine Qah ?_;refine VS [2,4,11,12,13] ?_;refine Qaa ?_;refine Qs ?_;rw [List.take_of_length_le (by omega),<- htk] at hH;exact ⟨ls.length - (i+1),by omega,i+1,a1,c1,rfl,hH.sub (by simp),by omega,rfl⟩
 refine Qad rfl ?_;rw [List.take_of_length_le (by omega)] at hH;refine VQ [2,3] fun K hK=>?_;refine MemK_call Tryz.call37 ?_;refine Qs ?_;refine CallK.mk (Qhx gw a c _ w' (hH.at 0 rfl)) ?_;rintro v w2 ⟨rfl,rfl⟩;refine MemK_call Tryz.call38 ?_;refine Qs ?_;refine CallK.mk (Qjv gw a c _ w2 (hH.at 0 rfl)) ?_;rintro v w3 ⟨rfl,rfl⟩;refine Qs ?_;refine MemK_store ?_;refine Qs ?_;refine StoreK_blk hH 1 (vs:=Qbe ls.flatten) rfl rfl (by kernel_rfl) (by simp [Qbe]) (by simp [Qbe,Value.oneCell']) fun w4 hH2=>?_;have hH2:Heap w [] w4 [wr gw a c ls.flatten,Res.blk gr 24 (Qbe ls.flatten)]:=hH2;apply hK;clear hK;refine VC_ret (Qcw rfl rfl rfl (Qbh (hH2.at 1 rfl) (by kernel_rfl) (by kernel_rfl) rfl ?_));exact ⟨hH2.sub (by simp),rfl⟩
theorem Qss (d:Nat) (b:Bool):(List.replicate (d+1) [true,b]).flatten=(List.replicate d [true,b]).flatten++[true,b]:=by
 rw [List.replicate_succ',List.flatten_append];simp
def Qhy:Nat->List Nat->Nat
 | p,[]=>p
 | _,y::l=>Qhy y l
theorem Qje:∀ (l:List Nat) (p x:Nat),Qb3 p (l++[x])=Qb3 p l++(Qic (Qhy p l) x++[false])
 | [],p,x=>by simp [Qb3,Qhy]
 | y::l,p,x=>by
  rw [List.cons_append,Qb3,Qje l y x,Qb3,Qhy];simp
theorem Qif:∀ (l:List Nat) (p x:Nat),Qhy p (l++[x])=x
 | [],p,x=>rfl
 | y::l,p,x=>by rw [List.cons_append,Qhy,Qif l y x]
theorem Qor {lo hi:Nat}:∀ (l:List Nat) (p:Nat),(lo<=p/\p<=hi)->(∀ x∈l,lo<=x/\x<=hi)->lo<=Qhy p l/\Qhy p l<=hi
 | [],p,hp,_=>hp
 | y::l,p,hp,h=>Qor l y (h y (by simp)) fun x hx=>h x (by simp [hx])
theorem Qq5 (p x:Nat):Qic p x=(List.replicate (x - p) [true,false]).flatten++(List.replicate (p - x) [true,true]).flatten:=by
 unfold Qic;split
 ·
  rw [show p - x=0 by omega];simp
 rw [show x - p=0 by omega];simp
theorem Qfx:∀ (l:List Nat) (p:Nat),(p<=20)->(∀ x∈l,x<=20)->(Qb3 p l).length<=41 * l.length
 | [],p,_,_=>by simp [Qb3]
 | x::l,p,hp,hx=>by
  have h1:=hx x (by simp);have h2:=Qfx l x h1 fun y hy=>hx y (by simp [hy]);have h3:=Qkp p x;simp only [Qb3,List.length_append,List.length_cons];omega
theorem Qp2 (l:List Nat) (hl:2<=l.length) (hl2:l.length<=258) (hx:∀ x∈l,1<=x/\x<=20) (a:Option Addr) (lc:Nat) (w:World) (hr:RS w a l.length 1 (Qag l)) :
  Does Tryz.prog 82 #[.slice a l.length lc] w fun v w'=>Heap w [] w' []/\v=.tuple #[Qir (Qb5 l),.int .i64 0]:=by
 obtain ⟨p,rfl⟩:=Qbb hr (by omega);have hget:∀ i,i < l.length->1<=l.getD i 0/\l.getD i 0<=20:=fun i hi=>hx _ (Qaz 0 hi);refine En [.slice (some p) l.length lc] 71 Tryz.func82 ?_;generalize hn:l.length=n at *;refine VQ [0,2] fun K hK=>?_;refine MemK_alloc (.agg #[.string ⟨#[]⟩,.int .i64 0]) (by kernel_rfl) ?_;refine Qs ?_;have hH:=(Heap.start w).box 24 [.string ⟨#[]⟩,.int .i64 0];generalize w.alloc (Obj.cells [Value.string ⟨#[]⟩,.int .i64 0].toArray 24)=w1 at *;generalize w.heap.size=gr at *;apply hK;clear hK;refine VQ [0,2,17] fun K hK=>?_
 suffices out:∀ b:Bool,(b=true ↔ False)->K [(0,.slice (some p) n lc),(2,.pointer (some ⟨gr,0,none⟩)),(17,.bool b)] w1 by (repeat' (first | exact out _ _ (by first | omega | (simp;done) | (simp;omega)) | exact out _ (by first | omega | (simp;done) | (simp;omega)) | refine ⟨fun _=>?_,fun _=>?_⟩ | refine Qo ?_))
 intro b hb;apply hK;clear hK;refine Qaf rfl rfl (fun h=>(hb.1 h).elim) (fun h=>VC_skip ?_);clear hb h;refine VS [0,2,19,20,21] ?_;refine Qab ?_;refine Qac [0,2,19,20,21] (fun m e w'=>∃ (i:Nat),Is e [(0,.slice (some p) n lc),(2,.pointer (some ⟨gr,0,none⟩)),(19,.slice (some p) n lc),(20,.int .i64 n),(21,.int .i64 i)]/\Is w' w1/\i<=n/\m=n - i) n ?_ ?_
 ·
  refine Qs ?_;exact ⟨0,rfl,rfl,by omega,rfl⟩
 rintro m e w2 ⟨i,rfl,rfl,hi,rfl⟩;refine VS [0,2,19,20,21,22] ?_;(repeat refine Qar ?_);refine VD (fun h=>?_) (fun h=>?_)
 ·
  have hcell:=Qbk (hH.rs' hr) (i:=i) (by omega);have hg:=hget i (by omega);generalize l.getD i 0=x at *;refine VC_skip ?_;refine VB ?_;refine VQ [0,2,5,19,20,21] fun K hK=>?_;refine ⟨⟨by omega,by omega⟩,_,hcell,?_⟩;apply hK;clear hK;refine VQ [0,2,19,20,21,30] fun K hK=>?_
  suffices out:∀ b:Bool,(b=true ↔ False)->K [(0,.slice (some p) n lc),(2,.pointer (some ⟨gr,0,none⟩)),(19,.slice (some p) n lc),(20,.int .i64 n),(21,.int .i64 i),(30,.bool b)] w2 by (repeat' (first | exact out _ _ (by first | omega | (simp;done) | (simp;omega)) | exact out _ (by first | omega | (simp;done) | (simp;omega)) | refine ⟨fun _=>?_,fun _=>?_⟩ | refine Qo ?_))
  intro b hb;apply hK;clear hK;refine Qaf rfl rfl (fun h=>(hb.1 h).elim) (fun h=>VC_skip ?_);refine Qah ?_;refine VS [0,2,19,20,21] ?_;refine Qaa ?_;refine Qs ?_;exact ⟨n - (i+1),by omega,i+1,rfl,rfl,by omega,rfl⟩
 obtain rfl:i=n:=by omega
 refine Qad rfl ?_;refine VQ [0,2,6] fun K hK=>?_;refine MemK_call Tryz.call35 ?_;refine Qs ?_;refine CallK.mk (Qd3 w2) ?_;rintro v w5 ⟨gw,hH2,rfl⟩;have hH3:=hH.call0 hH2;clear hH hH2 hi h;apply hK;clear hK;have h0:=hget 0 (by omega);have hc0:=Qbk (hH3.rs' hr) (i:=0) (by omega);have hdS:Qb5 l=Qaq 5 (l.getD 0 0)++Qb3 (l.getD 0 0) l:=rfl;rw [hdS];generalize hx0:l.getD 0 0=x0 at *;refine VQ [0,2,6] fun K hK=>?_;refine ⟨by omega,_,hc0,?_⟩;refine Qs ?_;rw [show ((x0:Int) % 18446744073709551616)=x0 by omega];refine MemK_call Tryz.call36 ?_;refine Qs ?_;refine CallK.mk (Qdi gw none 0 [] x0 5 w5 (by omega) (by omega) (by simp) (hH3.focus 0 rfl)) ?_;rintro v w7 ⟨a2,c2,hHw,rfl⟩;rw [List.nil_append] at hHw;have hH4:=hH3.call1 0 rfl hHw;simp only [List.set_cons_zero,List.nil_append] at hH4;clear hH3 hHw hc0;have hc0:=Qbk (hH4.rs' hr) (i:=0) (by omega);rw [hx0] at hc0;apply hK;clear hK;refine VQ [0,2,6,7] fun K hK=>?_;refine ⟨by omega,_,hc0,?_⟩;apply hK;clear hK;refine VS [2,6,7,43,44,45] ?_;refine Qab ?_;refine Qac [2,6,7,43,44,45] (fun m e w'=>∃ (k:Nat) (a:Option Addr) (c:Nat),Is e [(2,.pointer (some ⟨gr,0,none⟩)),(6,.pointer (some ⟨gw,0,none⟩)),(7,.int .i64 (Qhy x0 (l.take k):Nat)),(43,.slice (some p) i lc),(44,.int .i64 i),(45,.int .i64 k)]/\Heap w [] w' [wr gw a c (Qaq 5 x0++Qb3 x0 (l.take k)),Res.blk gr 24 [.string ⟨#[]⟩,.int .i64 0]]/\k<=i/\m=i - k) i ?_ ?_
 ·
  refine Qs ?_;exact ⟨0,a2,c2,rfl,by simpa [Qb3] using hH4,by omega,rfl⟩
 clear hH4 hc0 hdS;rintro m e w8 ⟨k,a3,c3,rfl,hH,hk,rfl⟩;refine VS [2,6,7,43,44,45,46] ?_;(repeat refine Qar ?_);refine VD (fun h=>?_) (fun h=>?_)
 ·
  have hcell:=Qbk (hH.rs' hr) (i:=k) (by omega);have hg:=hget k (by omega);have htk:=Qb1 0 (l:=l) (i:=k) (by omega);have hlo:=Qor (l.take k) x0 h0 fun x hx'=>hx x (List.mem_of_mem_take hx');have hdl:=Qfx (l.take k) x0 h0.2 fun x hx'=>(hx x (List.mem_of_mem_take hx')).2;have hdl2:(l.take k).length<=258:=by rw [List.length_take];omega
  have hsn:=Qje (l.take k) x0 (l.getD k 0);have hls:=Qif (l.take k) x0 (l.getD k 0);rw [<- htk] at hsn hls;rw [Qq5] at hsn;have hbl:=Qal 5 x0;generalize l.getD k 0=x at *;generalize Qhy x0 (l.take k)=p0 at *;generalize hB:Qaq 5 x0++Qb3 x0 (l.take k)=Bt at *;have hBl:Bt.length<=11000:=by rw [<- hB,List.length_append];omega
  refine VC_skip ?_;refine VB ?_;refine VQ [2,6,7,9,43,44,45] fun K hK=>?_;refine ⟨⟨by omega,by omega⟩,_,hcell,?_⟩;apply hK;clear hK;refine VB ?_;refine Qac [2,6,7,9,43,44,45] (fun m e w'=>∃ (d:Nat) (a:Option Addr) (c:Nat),Is e [(2,.pointer (some ⟨gr,0,none⟩)),(6,.pointer (some ⟨gw,0,none⟩)),(7,.int .i64 (p0+d:Nat)),(9,.int .i64 x),(43,.slice (some p) i lc),(44,.int .i64 i),(45,.int .i64 k)]/\Heap w [] w' [wr gw a c (Bt++(List.replicate d [true,false]).flatten),Res.blk gr 24 [.string ⟨#[]⟩,.int .i64 0]]/\d<=x - p0/\m=x - p0 - d) (x - p0) ?_ ?_
  ·
   refine Qs ?_;exact ⟨0,a3,c3,rfl,by simpa using hH,by omega,rfl⟩
  clear hH hcell;rintro m e w9 ⟨d,a4,c4,rfl,hH,hd,rfl⟩;refine VS [2,6,7,9,43,44,45,51] ?_;refine VD (fun h=>?_) (fun h=>?_)
  ·
   refine VC_skip ?_;refine VB ?_;refine VQ [2,6,7,9,43,44,45] fun K hK=>?_;refine MemK_call Tryz.call36 ?_;refine Qs ?_;refine CallK.mk (Qdi gw a4 c4 _ 2 2 w9 (by omega) (by omega) (by rw [List.length_append,Qfh];omega) (hH.focus 0 rfl)) ?_;rintro v w10 ⟨a5,c5,hHw,rfl⟩;have e2:Qaq 2 2=[true,false]:=rfl;rw [e2,List.append_assoc,<- Qss] at hHw;have hH2:=hH.call1 0 rfl hHw;simp only [List.set_cons_zero,List.nil_append] at hH2;apply hK;clear hK;refine Qah ?_;refine VS [2,6,7,9,43,44,45] ?_;refine Qaa ?_;refine Qs ?_;exact ⟨x - p0 - (d+1),by omega,d+1,a5,c5,rfl,hH2,by omega,rfl⟩
  obtain rfl:d=x - p0:=by omega
  refine Qad rfl ?_;generalize hB2:Bt++(List.replicate (x - p0) [true,false]).flatten=Bt2 at *;have hBl2:Bt2.length<=11100:=by rw [<- hB2,List.length_append,Qfh];omega
  refine VB ?_;refine Qac [2,6,7,9,43,44,45] (fun m e w'=>∃ (d:Nat) (a:Option Addr) (c:Nat),Is e [(2,.pointer (some ⟨gr,0,none⟩)),(6,.pointer (some ⟨gw,0,none⟩)),(7,.int .i64 ((p0+(x - p0) - d:Nat):Int)),(9,.int .i64 x),(43,.slice (some p) i lc),(44,.int .i64 i),(45,.int .i64 k)]/\Heap w [] w' [wr gw a c (Bt2++(List.replicate d [true,true]).flatten),Res.blk gr 24 [.string ⟨#[]⟩,.int .i64 0]]/\d<=p0 - x/\m=p0 - x - d) (p0 - x) ?_ ?_
  ·
   refine Qs ?_;exact ⟨0,a4,c4,rfl,by simpa using hH,by omega,rfl⟩
  clear hH;rintro m e w10 ⟨d,a5,c5,rfl,hH,hd,rfl⟩;refine VS [2,6,7,9,43,44,45,58] ?_;refine VD (fun h=>?_) (fun h=>?_)
  ·
   refine VC_skip ?_;refine VB ?_;refine VQ [2,6,7,9,43,44,45] fun K hK=>?_;refine MemK_call Tryz.call36 ?_;refine Qs ?_;refine CallK.mk (Qdi gw a5 c5 _ 3 2 w10 (by omega) (by omega) (by rw [List.length_append,Qfh];omega) (hH.focus 0 rfl)) ?_;rintro v w11 ⟨a6,c6,hHw,rfl⟩;have e2:Qaq 2 3=[true,true]:=rfl;rw [e2,List.append_assoc,<- Qss] at hHw;have hH2:=hH.call1 0 rfl hHw;simp only [List.set_cons_zero,List.nil_append] at hH2;apply hK;clear hK;refine Qah ?_;refine VS [2,6,7,9,43,44,45] ?_;refine Qaa ?_;refine Qs ?_;refine ⟨p0 - x - (d+1),by omega,d+1,a6,c6,?_,hH2,by omega,rfl⟩;rw [show ((p0+(x - p0) - d:Nat):Int) - 1=((p0+(x - p0) - (d+1):Nat):Int) by omega];rfl
  obtain rfl:d=p0 - x:=by omega
  refine Qad rfl ?_;refine VQ [2,6,7,43,44,45] fun K hK=>?_;refine MemK_call Tryz.call36 ?_;refine Qs ?_;refine CallK.mk (Qdi gw a5 c5 _ 0 1 w10 (by omega) (by omega) (by rw [List.length_append,Qfh];omega) (hH.focus 0 rfl)) ?_;rintro v w11 ⟨a6,c6,hHw,rfl⟩;have e2:Qaq 1 0=[false]:=rfl;rw [e2] at hHw;have hH2:=hH.call1 0 rfl hHw;simp only [List.set_cons_zero,List.nil_append] at hH2;apply hK;clear hK;refine Qah ?_;refine VS [2,6,7,43,44,45] ?_;refine Qaa ?_;refine Qs ?_;refine ⟨i - (k+1),by omega,k+1,a6,c6,?_,?_,by omega,rfl⟩
  ·
   rw [hls,show p0+(x - p0) - (p0 - x)=x by omega];rfl
  rw [hsn,<- List.append_assoc,hB,<- List.append_assoc,<- List.append_assoc,hB2];exact hH2
 obtain rfl:k=i:=by omega
 rw [List.take_of_length_le (by omega)] at hH;refine Qad rfl ?_;refine VQ [2,3] fun K hK=>?_;refine MemK_call Tryz.call37 ?_;refine Qs ?_;refine CallK.mk (Qhx gw a3 c3 _ w8 (hH.at 0 rfl)) ?_;rintro v w9 ⟨rfl,rfl⟩;refine MemK_call Tryz.call38 ?_;refine Qs ?_;refine CallK.mk (Qjv gw a3 c3 _ w9 (hH.at 0 rfl)) ?_;rintro v w10 ⟨rfl,rfl⟩;refine Qs ?_;generalize Qaq 5 x0++Qb3 x0 l=R at *;refine MemK_store ?_;refine Qs ?_;refine StoreK_blk hH 1 (vs:=Qbe R) rfl rfl (by kernel_rfl) (by simp [Qbe]) (by simp [Qbe,Value.oneCell']) fun w11 hH2=>?_;have hH2:Heap w [] w11 [wr gw a3 c3 R,Res.blk gr 24 (Qbe R)]:=hH2;apply hK;clear hK;refine VC_ret (Qcw rfl rfl rfl (Qbh (hH2.at 1 rfl) (by kernel_rfl) (by kernel_rfl) rfl ?_));exact ⟨hH2.sub (by simp),rfl⟩
def QEv (r:Except Int (List Nat×Nat)) (w:World) (v:Value) (w':World):Prop:=match r with
 | .ok q=>∃ a cap,Heap w [] w' [Res.row 3 1 a q.1.length cap (Qag q.1)]/\v=.tuple #[.slice a q.1.length cap,.int .i64 q.2,.int .i64 0]
 | .error e=>Heap w [] w' []/\v=.tuple #[.slice none 0 0,.int .i64 0,.int .i64 e]
theorem QMx (r:List Bool) (now at_:Nat):tdGo r now 0 at_=.ok ([],at_):=by
 match r with
 | []=>simp [tdGo]
 | false::r=>simp [tdGo]
 | [true]=>simp [tdGo]
 | true::d::r=>simp [tdGo]
theorem QP8 (r:List Bool) {now k:Nat} (at_:Nat) (hk:k≠0) (h:now < 1∨20 < now):tdGo r now k at_=.error 80:=by
 match r with
 | []=>simp only [tdGo,if_neg hk,if_pos h]
 | false::r=>simp only [tdGo,if_neg hk,if_pos h]
 | [true]=>simp only [tdGo,if_neg hk,if_pos h]
 | true::d::r=>simp only [tdGo,if_neg hk,if_pos h]
theorem Qkq (s:List UInt8) (g9 gr gs p n:Nat) (hn:n<=60) (hp:p<=8 * s.length) (hs:s.length<=100000000000000) (w0 w:World) (B:List Nat) (G:List Res) (hL:Heap w0 B w (rd gr gs s p::Res.blk g9 130 [.pointer (some ⟨gr,0,none⟩)]::G)) :
  Does Tryz.prog 148 #[.int .i64 n,.pointer (some ⟨g9,0,none⟩)] w fun x w' =>
   (8 * s.length < p+n/\w'=w/\x=.tuple #[.int .i64 0,.int .i64 10])∨(p+n<=8 * s.length/\Heap w0 B w' (rd gr gs s (p+n)::Res.blk g9 130 [.pointer (some ⟨gr,0,none⟩)]::G)/\x=.tuple #[.int .i64 (numB (((Qam s).drop p).take n):Nat),.int .i64 0]):=by
 refine En [.int .i64 n,.pointer (some ⟨g9,0,none⟩)] 16 Tryz.func148 ?_;refine VS [0,1] ?_;refine VQ [5,6] fun K hK=>?_;refine ⟨_,Qae (hL.at 1 rfl) rfl,?_⟩;refine MemK_call Tryz.call87 ?_;refine Qs ?_;refine CallK.mk (Qe5 gr gs s p n w (by omega) (by omega) (by omega) (hL.focus 0 rfl)) ?_;rintro v w3 (⟨h1,rfl,rfl⟩ | ⟨h1,hH2,rfl⟩)
 ·
  skip
  apply hK;clear hK;refine VS [3,4] ?_;exact VC_ret (Qat rfl rfl rfl (.inl ⟨h1,rfl,rfl⟩))
 have hH3:=hL.call1 0 rfl hH2;simp only [List.set_cons_zero,List.nil_append] at hH3;have hlt:=Qe0 (((Qam s).drop p).take n);have hlen:(((Qam s).drop p).take n).length<=60:=by rw [List.length_take];omega
 have hlt2:=Nat.pow_le_pow_right (n:=2) (by omega) hlen;generalize numB (((Qam s).drop p).take n)=q at *;apply hK;clear hK;refine VS [3,4] ?_;exact VC_ret (Qat rfl rfl rfl (.inr ⟨h1,hH3,rfl⟩))
theorem Qp3 (s:List UInt8) (at_ n:Nat) (ha:at_<=8 * s.length) (hs:s.length<=100000000000000) (hn:2<=n/\n<=258) (w:World) :
  Does Tryz.prog 102 #[Str s,.int .i64 at_,.int .i64 n] w (QEv (Qdn (Qam s) at_ n) w):=by
 have hbl:=Qbd s;generalize hbits:Qam s=bits at *;generalize hres:Qdn bits at_ n=res;unfold Qdn at hres;refine En [Str s,.int .i64 at_,.int .i64 n] 79 Tryz.func102 ?_;refine VS [0,1,2] ?_;(repeat refine Qar ?_);refine Qr8 ?_;refine VQ [2,9] fun K hK=>?_;refine MemK_call Tryz.call86 ?_;refine Qs ?_;refine CallK.mk (Qd4 s at_ w (I64.mk (by omega) (by omega)) (by omega)) ?_;rintro v w2 (⟨hbad,_⟩ | ⟨_,gr,gs,hH,rfl⟩)
 ·
  omega
 rw [Int.toNat_natCast] at hH;refine MemK_alloc (.pointer none) (by kernel_rfl) ?_;refine Qs ?_;have hH1:=hH.box 130 [.pointer none];generalize w2.alloc (Obj.cells [Value.pointer none].toArray 130)=w3 at *;generalize w2.heap.size=g9 at *;refine MemK_store ?_;refine Qs ?_;refine StoreK_blk hH1 0 (vs:=[.pointer (some ⟨gr,0,none⟩)]) rfl rfl (by kernel_rfl) (by simp) (by simp [Value.oneCell']) fun w4 hH2=>?_;have hH3:Heap w [] w4 [rd gr gs s at_,Res.blk g9 130 [.pointer (some ⟨gr,0,none⟩)]]:=hH2.perm (List.Perm.swap _ _ _);clear hH hH1 hH2;apply hK;clear hK;refine VQ [2,9,29] fun K hK=>?_
 suffices out:∀ b:Bool,(b=true ↔ False)->K [(2,.int .i64 n),(9,.pointer (some ⟨g9,0,none⟩)),(29,.bool b)] w4 by
  refine ⟨_,Qae (hH3.at 1 rfl) rfl,?_⟩;refine Qs ?_;(repeat' (first | exact out _ _ (by first | omega | (simp;done) | (simp;omega)) | exact out _ (by first | omega | (simp;done) | (simp;omega)) | refine ⟨fun _=>?_,fun _=>?_⟩ | refine Qo ?_))
 intro b hb;apply hK;clear hK;refine Qaf rfl rfl (fun h=>(hb.1 h).elim) (fun h=>VC_skip ?_);clear hb h;refine VS [2,9,10] ?_;refine VQ [2,9,10,11,12] fun K hK=>?_;refine Qbf ?_;refine Qs ?_;refine FnK.mk Tryz.call148 (Qkq s g9 gr gs at_ 5 (by omega) ha hs w w4 [] [] hH3) ?_;have hts:Qgf bits at_ 5=if bits.length < at_+5 then (0,10) else (numB ((bits.drop at_).take 5),0):=rfl
 rintro v w5 (⟨h1,rfl,rfl⟩ | ⟨h1,hH4,rfl⟩)
 ·
  rw [if_pos (by omega)] at hts;rw [hts,if_pos (by simp)] at hres;subst hres;apply hK;clear hK;refine VS [2,9,10,11,12,37] ?_;refine Qaf rfl rfl (fun h=>?_) (fun h=>by cases h);refine VS [6,7,8] ?_;exact VC_ret (Qd5 rfl rfl rfl rfl ⟨hH3.sub (by simp),rfl⟩)
 rw [if_neg (by omega)] at hts;rw [hts,if_neg (by simp)] at hres;rw [hbits];have hlt:=Qe0 ((bits.drop at_).take 5);have hlen:((bits.drop at_).take 5).length<=5:=by rw [List.length_take];omega
 have hlt2:=Nat.pow_le_pow_right (n:=2) (by omega) hlen;clear hH3 hts;simp only at hres;generalize numB ((bits.drop at_).take 5)=now0 at *;apply hK;clear hK;refine VS [2,9,10,11,12,37] ?_;refine Qaf rfl rfl (fun h=>by cases h) (fun h=>VC_skip ?_);clear h;refine VS [2,9,10,11,13] ?_;(repeat refine Qar ?_);refine Qrx ?_;refine VB ?_;refine Qac [2,9,10,11,13] (fun m e w'=>∃ (p now cap:Nat) (a:Option Addr) (out:List Nat),Is e [(2,.int .i64 n),(9,.pointer (some ⟨g9,0,none⟩)),(10,.func (.func 148) #[] #[.pointer (some ⟨g9,0,none⟩)]),(11,.int .i64 now),(13,.slice a out.length cap)]/\Heap w [] w' [rd gr gs s p,Res.blk g9 130 [.pointer (some ⟨gr,0,none⟩)],Res.row 3 1 a out.length cap (Qag out)]/\p<=8 * s.length/\now<=100/\out.length<=n/\(match tdGo (bits.drop p) now (n - out.length) p with | .error e=>.error e | .ok q=>.ok (out++q.1,q.2))=res/\m=8 * s.length - p) (8 * s.length - (at_+5)) ?_ ?_
 ·
  refine Qs ?_;have hH5:=(hH4.nilRow 3 1).perm (G':=[rd gr gs s (at_+5),Res.blk g9 130 [.pointer (some ⟨gr,0,none⟩)],Res.row 3 1 none 0 0 []]) (by exact (List.perm_append_comm (l₁:=[Res.row 3 1 none 0 0 []])));exact ⟨at_+5,now0,0,none,[],rfl,hH5,by omega,by omega,by simp,by rw [<- hres];simp only [List.length_nil,Nat.sub_zero,List.nil_append];cases tdGo (bits.drop (at_+5)) now0 n (at_+5) <;> rfl,rfl⟩
 clear hH4 hres;rintro m e w6 ⟨p,now,cap,a,out,rfl,hH,hp,hnow,hol,hres,rfl⟩;refine VS [2,9,10,11,13,42] ?_;refine VD (fun h=>?_) (fun h=>?_)
 ·
  have hol2:out.length < n:=by omega
  obtain ⟨p0,hp0⟩:∃ q,q=p:=⟨p,rfl⟩;refine VC_skip ?_;refine Qab ?_;refine Qab ?_;refine Qac [2,9,10,11,13] (fun m e w'=>∃ (p now:Nat),Is e [(2,.int .i64 n),(9,.pointer (some ⟨g9,0,none⟩)),(10,.func (.func 148) #[] #[.pointer (some ⟨g9,0,none⟩)]),(11,.int .i64 now),(13,.slice a out.length cap)]/\Heap w [] w' [rd gr gs s p,Res.blk g9 130 [.pointer (some ⟨gr,0,none⟩)],Res.row 3 1 a out.length cap (Qag out)]/\p0<=p/\p<=8 * s.length/\now<=100/\(match tdGo (bits.drop p) now (n - out.length) p with | .error e=>.error e | .ok q=>.ok (out++q.1,q.2))=res/\m=8 * s.length - p) (8 * s.length - p) ?_ ?_
  ·
   refine Qs ?_;exact ⟨p,now,rfl,hH,by omega,hp,hnow,hres,rfl⟩
  clear hH hres hp hnow;rintro m e w7 ⟨p,now,rfl,hH,hpp,hp,hnow,hres,rfl⟩;refine Qab ?_;refine VQ [2,9,10,11,13,48] fun K hK=>?_
  suffices out:∀ b:Bool,(b=true ↔ (now < 1∨20 < now))->K [(2,.int .i64 n),(9,.pointer (some ⟨g9,0,none⟩)),(10,.func (.func 148) #[] #[.pointer (some ⟨g9,0,none⟩)]),(11,.int .i64 now),(13,.slice a out.length cap),(48,.bool b)] w7 by (repeat' (first | exact out _ _ (by first | omega | (simp;done) | (simp;omega)) | exact out _ (by first | omega | (simp;done) | (simp;omega)) | refine ⟨fun _=>?_,fun _=>?_⟩ | refine Qo ?_))
  intro b hb;apply hK;clear hK;refine Vi (fun h=>?_) (fun h=>VC_skip ?_)
  ·
   rw [QP8 _ _ (by omega) (hb.1 h)] at hres;subst hres;refine VS [6,7,8] ?_;exact VC_ret (Qd5 rfl rfl rfl rfl ⟨hH.sub (by simp),rfl⟩)
  have hg:¬ (now < 1∨20 < now):=fun h2=>by have:=hb.2 h2;simp_all
  clear hb h;refine VQ [2,9,10,11,13,14,15] fun K hK=>?_;refine Qbf ?_;refine Qs ?_;refine FnK.mk Tryz.call148 (Qkq s g9 gr gs p 1 (by omega) hp hs w w7 [] _ hH) ?_;rintro v w8 (⟨h1,rfl,rfl⟩ | ⟨h1,hH4,rfl⟩)
  ·
   rw [List.drop_of_length_le (by omega),tdGo,if_neg (by omega),if_neg hg] at hres;subst hres;apply hK;clear hK;refine VS [2,9,10,11,13,14,15,55] ?_;refine Qaf rfl rfl (fun h=>?_) (fun h=>by cases h);refine VS [6,7,8] ?_;exact VC_ret (Qd5 rfl rfl rfl rfl ⟨hH.sub (by simp),rfl⟩)
  have hdp:bits.drop p=bits.getD p false::bits.drop (p+1):=drop_getD false (by omega);have hnum:numB ((bits.drop p).take 1)=(bits.getD p false).toNat:=by rw [hdp];cases bits.getD p false <;> rfl
  rw [hbits,hnum];rw [hdp] at hres;apply hK;clear hK;refine VS [2,9,10,11,13,14,15,55] ?_;refine Qaf rfl rfl (fun h=>by cases h) (fun h=>VC_skip ?_);clear h hH;refine VS [2,9,10,11,13,58] ?_;generalize bits.getD p false=b at *;cases b with
  | false =>
   rw [tdGo,if_neg (by omega),if_neg hg] at hres;refine Qaf rfl rfl (fun h=>?_) (fun h=>by simp at h);refine VQ [2,9,10,11,13] fun K hK=>?_;refine Qb4 (xs:=[.tmp 60]) Tryz.underlying36 sz3 rfl rfl rfl (by omega) ?_;refine Qs ?_;refine ⟨by simp [Value.cells],?_⟩;refine Qai ?_;refine Qs ?_;refine Qid hH4 2 (now) rfl Tryz.underlying36 zi3 (by first | rfl | (simp;done) | omega | (simp;omega)) (fun h=>by (first | omega | (simp;done) | (simp;omega))) fun a' cap' w5 hc' hH5=>?_;(try refine Qs ?_);simp only [List.set_cons_succ,List.set_cons_zero] at hH5;apply hK;clear hK;refine Qad rfl ?_;refine Qaa ?_;refine Qs ?_;refine ⟨8 * s.length - (p+1),by omega,p+1,now,cap',a',out++[now],rfl,hH5,by omega,hnow,by simp;omega,?_,rfl⟩;rw [<- hres,show n - (out++[now]).length=n - out.length - 1 by simp;omega];cases tdGo (bits.drop (p+1)) now (n - out.length - 1) (p+1) with
   | error e=>rfl
   | ok q=>simp
  | true =>
   refine Qaf rfl rfl (fun h=>by simp at h) (fun h=>VC_skip ?_);clear h;refine VQ [2,9,10,11,13,15,16] fun K hK=>?_;refine Qbf ?_;refine Qs ?_;refine FnK.mk Tryz.call148 (Qkq s g9 gr gs (p+1) 1 (by omega) h1 hs w w8 [] _ hH4) ?_;rintro v w9 (⟨h2,rfl,rfl⟩ | ⟨h2,hH6,rfl⟩)
   ·
    rw [List.drop_of_length_le (by omega),tdGo,if_neg (by omega),if_neg hg] at hres;subst hres;apply hK;clear hK;refine VS [2,9,10,11,13,15,16,69] ?_;refine Qaf rfl rfl (fun h=>?_) (fun h=>by cases h);refine VS [6,7,8] ?_;exact VC_ret (Qd5 rfl rfl rfl rfl ⟨hH4.sub (by simp),rfl⟩)
   have hdp2:bits.drop (p+1)=bits.getD (p+1) false::bits.drop (p+1+1):=drop_getD false (by omega);have hnum2:numB ((bits.drop (p+1)).take 1)=(bits.getD (p+1) false).toNat:=by rw [hdp2];cases bits.getD (p+1) false <;> rfl
   rw [hbits,hnum2];rw [hdp2,tdGo,if_neg (by omega),if_neg hg] at hres;generalize bits.getD (p+1) false=d at *;have hd1:d.toNat<=1:=by cases d <;> simp
   apply hK;clear hK;refine VS [2,9,10,11,13,15,16,69] ?_;refine Qaf rfl rfl (fun h=>by cases h) (fun h=>VC_skip ?_);clear h;refine VS [2,9,10,11,13] ?_;refine Qah ?_;refine Qaa ?_;refine Qs ?_;refine ⟨8 * s.length - (p+1+1),by omega,p+1+1,(if d=true then now - 1 else now+1),?_,hH6,by omega,by omega,by split <;> omega,hres,rfl⟩;cases d with
   | true=>rw [if_pos rfl,show ((now:Int)+(1 - 2 * ((true.toNat:Nat):Int)))=((now - 1:Nat):Int) by simp;omega];rfl
   | false=>rw [if_neg (by simp),show ((now:Int)+(1 - 2 * ((false.toNat:Nat):Int)))=((now+1:Nat):Int) by simp];rfl
 rw [show n - out.length=0 by omega,QMx] at hres;simp only [List.append_nil] at hres;subst hres;refine Qad rfl ?_;refine VQ [6,7,8] fun K hK=>?_;refine ⟨_,Qae (hH.at 1 rfl) rfl,?_⟩;refine MemK_call Tryz.call100 ?_;refine Qs ?_;refine CallK.mk (Qoq gr gs p s w6 (hH.at 0 rfl)) ?_;rintro v w7 ⟨rfl,rfl⟩;apply hK;clear hK;exact VC_ret (Qd5 rfl rfl rfl rfl ⟨a,cap,hH.sub (by simp),rfl⟩)
set_option maxHeartbeats 2000000
theorem Qu9 (l:List Nat) (i:Nat):(Qhv l i).length=l.getD i 0:=by rw [Qhv,Qal]
def Qem (T:List (List Nat)) (P:List Nat):List Nat->Nat->List Bool
 | [],_=>[]
 | s::r,i=>Qhv (T.getD (P.getD (i / 50) 0) []) s++Qem T P r (i+1)
def putC (T:List (List Nat)):List Nat->List Nat->List Bool
 | [],_=>[]
 | p::P,list=>Qer (T.getD p []) (list.take 50)++putC T P (list.drop 50)
def Qhn (T:List (List Nat)) (bits:List Bool) (fin:Nat):List Nat->Nat->Except Int (List Nat×Nat)
 | [],_=>.error 110
 | p::P,at_=>match Qeq (T.getD p []) bits fin 50 at_ with
  | .error e=>.error e
  | .ok q=>if q.1.getLast? = some fin then .ok q else match Qhn T bits fin P q.2 with
   | .error e=>.error e
   | .ok q'=>.ok (q.1++q'.1,q'.2)
theorem Qos (T:List (List Nat)) (P:List Nat) (j:Nat) (b:List Nat):∀ (a:List Nat) (m:Nat),a.length+m<=50->Qem T P (a++b) (50 * j+m)=Qer (T.getD (P.getD j 0) []) a++Qem T P b (50 * j+m+a.length)
 | [],m,_=>rfl
 | s::a,m,h=>by
  simp at h;rw [List.cons_append,Qem,show (50 * j+m) / 50=j by omega,show 50 * j+m+1=50 * j+(m+1) by omega,Qos T P j b a (m+1) (by omega)];simp only [Qer,List.flatMap_cons,List.append_assoc,List.length_cons]
  congr 3;omega
theorem Qq6 (T:List (List Nat)) (P:List Nat):∀ (Q:List Nat) (j:Nat) (list:List Nat),P.drop j=Q->list.length<=50 * Q.length->Qem T P list (50 * j)=putC T Q list
 | [],j,list,hQ,hl=>by
  simp at hl;subst hl;rfl
 | p::Q,j,list,hQ,hl=>by
  have hj:P.getD j 0=p:=by
   have:=congrArg (fun l=>l.getD 0 0) hQ;simpa [List.getD_eq_getElem?_getD,List.getElem?_drop] using this
  have h1:=Qos T P j (list.drop 50) (list.take 50) 0 (by simp;omega);rw [List.take_append_drop,Nat.add_zero,hj] at h1;rw [h1,putC]
  congr 1
  rcases Nat.lt_or_ge list.length 50 with h2 | h2
  ·
   have hd:list.drop 50=[]:=List.drop_eq_nil_of_le (by omega);rw [hd];clear hl h1;generalize 50 * j+(list.take 50).length=i
   have:∀ Q:List Nat,putC T Q []=[]:=fun Q=>by induction Q with
    | nil=>rfl
    | cons q Q ih=>rw [putC];simp [Qer,ih]
   rw [this];rfl
  rw [List.length_take,Nat.min_eq_left h2,show 50 * j+50=50 * (j+1) by omega];refine Qq6 T P Q (j+1) _ ?_ (by simp at hl ⊢;omega);rw [<- List.drop_drop,hQ];rfl
theorem Qz9 (T:List (List Nat)):∀ Q:List Nat,putC T Q []=[]
 | []=>rfl
 | q::Q=>by rw [putC,List.drop_nil,Qz9 T Q];rfl
theorem QEw {T:List (List Nat)}{n fin:Nat} (hf:fin < n) (hT:∀ t,t < T.length->(T.getD t []).length=n/\okL (T.getD t [])):∀ (P body:List Nat) {bits:List Bool}{at_:Nat}{r:List Bool},(∀ k∈P,k < T.length)->(∀ s∈body,s < n/\s≠fin)->(body++[fin]).length<=50 * P.length->bits.drop at_=putC T P (body++[fin])++r ->
  Qhn T bits fin P at_=.ok (body++[fin],at_+(putC T P (body++[fin])).length)
 | [],body,bits,at_,r,_,_,hl,_=>by simp at hl
 | p::P,body,bits,at_,r,hP,hs,hl,hb=>by
  obtain ⟨h1,h2⟩:=hT p (hP p (by simp));rw [putC,List.append_assoc] at hb;rw [Qhn,putC];rcases Nat.lt_or_ge body.length 50 with h3 | h3
  ·
   have e1:(body++[fin]).take 50=body++[fin]:=List.take_of_length_le (by simp;omega);have e2:(body++[fin]).drop 50=[]:=List.drop_eq_nil_of_le (by simp;omega);rw [e1,e2,Qz9] at hb ⊢;rw [Qle h2 fin (by omega) body 50 (fun s hs'=>by rw [h1];exact hs s hs') (by omega) hb];simp only;rw [if_pos (by simp),List.append_nil]
  have e1:(body++[fin]).take 50=body.take 50:=by rw [List.take_append_of_le_length h3]
  have e2:(body++[fin]).drop 50=body.drop 50++[fin]:=by rw [List.drop_append_of_le_length h3]
  rw [e1,e2] at hb ⊢;have hmem:∀ s∈body.take 50,s < (T.getD p []).length/\s≠fin:=fun s hs'=>by rw [h1];exact hs s (List.mem_of_mem_take hs')
  rw [Qu6 h2 fin (body.take 50) 50 hmem (by rw [List.length_take];omega) hb];simp only;have hlast:¬ (body.take 50).getLast? = some fin:=fun e=>(hmem fin (List.mem_of_getLast? e)).2 rfl;rw [if_neg hlast,QEw hf hT P (body.drop 50) (fun k hk=>hP k (by simp [hk])) (fun s hs'=>hs s (List.mem_of_mem_drop hs')) (by simp at hl ⊢;omega) (Qbs hb)];simp only [Except.ok.injEq,Prod.mk.injEq,List.length_append];refine ⟨?_,by omega⟩;rw [<- List.append_assoc,List.take_append_drop]
def Qec (list:List Nat) (n:Nat):List Nat:=(List.range n).map fun s=>list.count s
def Qfy (list P:List Nat) (t n:Nat):List Nat:=(List.range n).map fun s=>(List.range list.length).countP fun i=>list.getD i 0 == s && P.getD (i / 50) 0 == t
def Qfi (tab chunk:List Nat):Nat:=(chunk.map fun s=>tab.getD s 0).sum
def Qhz (c:Nat->Nat):Nat->Nat
 | 0=>0
 | t+1=>if c (t+1) < c (Qhz c t) then t+1 else Qhz c t
def Qcl (list:List Nat) (k:Nat):List Nat:=(list.drop (50 * k)).take 50
def Qa4 (m:Nat):Nat:=(m+49) / 50
def Qb6 (m:Nat):Nat:=if m < 200 then 2 else if m < 600 then 3 else if m < 1200 then 4 else if m < 2400 then 5 else 6
def Qds (list:List Nat) (many:Nat) (T:List (List Nat)):List Nat:=(List.range (Qa4 list.length)).map fun k=>Qhz (fun t=>Qfi (T.getD t []) (Qcl list k)) (many - 1)
def Qf5 (list:List Nat) (n many:Nat) (x:List (List Nat)×List Nat):List (List Nat)×List Nat :=
 ((List.range many).map fun t=>lenS (Qfy list (Qds list many x.1) t n) 17,Qds list many x.1)
def Qgz (n many:Nat):List (List Nat):=(List.range many).map fun t=>(List.range n).map fun s=>if s * many / n=t then 1 else 15
def Qcm (list:List Nat) (n many:Nat):Nat->List (List Nat)×List Nat
 | 0=>(Qgz n many,List.replicate (Qa4 list.length) 0)
 | k+1=>Qf5 list n many (Qcm list n many k)
def Qct (list:List Nat) (n:Nat):List (List Nat)×List Nat:=Qcm list n (Qb6 list.length) 4
def Qbr (list:List Nat) (n:Nat):List (List Nat)×List Nat:=([Qdc (Qec list n),Qdc (Qec list n)],List.replicate (Qa4 list.length) 0)
def Qf9 (x:List (List Nat)×List Nat) (list:List Nat):Nat:=(Qbq x.1 x.2).length+(Qem x.1 x.2 list 0).length
def Qd7 (list:List Nat) (n:Nat):List (List Nat)×List Nat:=if Qf9 (Qbr list n) list < Qf9 (Qct list n) list then Qbr list n else Qct list n
def Qe2 (list:List Nat) (n:Nat):Prop:=3<=n/\n<=258/\1<=list.length/\list.length<=1638350/\∀ s∈list,s < n
theorem Qnq (c:Nat->Nat):∀ t,Qhz c t<=t
 | 0=>Nat.le_refl _
 | t+1=>by
  have:=Qnq c t;rw [Qhz];split <;> omega
theorem Qmg (m:Nat):2<=Qb6 m/\Qb6 m<=6:=by
 unfold Qb6;(repeat' split) <;> omega
theorem Qe6 {m:Nat} (h:1<=m) (h2:m<=1638350):1<=Qa4 m/\Qa4 m<=32767/\m<=50 * Qa4 m:=by unfold Qa4;omega
theorem Qf6 {α:Type} (f:Nat->α) (n:Nat) (d:α) (i:Nat) (h:i < n):((List.range n).map f).getD i d=f i:=by
 rw [List.getD_eq_getElem?_getD,List.getElem?_map,List.getElem?_range h];rfl
theorem Qmh {list:List Nat}{n:Nat} (h:Qe2 list n):mayP (Qct list n).1 (Qct list n).2/\((Qct list n).1.getD 0 []).length=n:=by
 obtain ⟨h1,h2,h3,h4,h5⟩:=h;obtain ⟨t1,t2⟩:=Qmg list.length;obtain ⟨g1,g2,_⟩:=Qe6 h3 h4;unfold Qct;generalize Qb6 list.length=many at *;rw [Qcm];generalize Qcm list n many 3=x
 have hlen:∀ P t,(lenS (Qfy list P t n) 17).length=n/\okL (lenS (Qfy list P t n) 17):=fun P t=>by
  have hc:(Qfy list P t n).length=n:=by simp [Qfy]
  obtain ⟨a,b,c⟩:=QEp (w:=Qfy list P t n) (most:=17) (by omega) (by omega) (by omega) (by omega) (fun x hx=>by
   obtain ⟨s,_,rfl⟩:=List.mem_map.1 hx;have:=List.countP_le_length (p:=fun i=>list.getD i 0 == s && P.getD (i / 50) 0 == t) (l:=List.range list.length);simp only [List.length_range] at this;omega)
  rw [hc] at a;exact ⟨a,by omega,by omega,fun x hx=>by have:=b x hx;omega,by omega⟩
 have h0:((Qf5 list n many x).1.getD 0 []).length=n:=by
  unfold Qf5;simp only;rw [Qf6 _ _ _ _ (by omega)];exact (hlen _ _).1
 refine ⟨⟨by simp [Qf5];omega,by simp [Qf5];omega,by simp [Qf5,Qds];omega,by simp [Qf5,Qds];omega,fun t ht=>?_,fun k hk=>?_⟩,h0⟩
 ·
  rw [h0];obtain ⟨i,_,rfl⟩:=List.mem_map.1 ht;have:=hlen (Qds list many x.1) i;exact ⟨this.1,by omega,this.2⟩
 simp only [Qf5,Qds,List.mem_map] at hk;obtain ⟨j,_,rfl⟩:=hk;have:=Qnq (fun t=>Qfi (x.1.getD t []) (Qcl list j)) (many - 1);simp only [Qf5,List.length_map,List.length_range];omega
theorem Qva (w:List Nat):∀ x∈Qdc w,x=Qfc w.length∨x=Qfc w.length+1:=by
 intro x hx;obtain ⟨i,_,rfl⟩:=List.mem_map.1 hx;unfold Qko;split <;> simp
theorem Qst {list:List Nat}{n:Nat} (h:Qe2 list n):(Qdc (Qec list n)).length=n/\okL (Qdc (Qec list n)):=by
 obtain ⟨h1,h2,h3,h4,h5⟩:=h;have hc:(Qec list n).length=n:=by simp [Qec]
 obtain ⟨a,b,c⟩:=Qz4 (w:=Qec list n) (by omega) (by omega);rw [hc] at a;exact ⟨a,by omega,by omega,fun x hx=>by have:=b x hx;omega,by omega⟩
theorem Qsu {list:List Nat}{n:Nat} (h:Qe2 list n):mayP (Qbr list n).1 (Qbr list n).2/\((Qbr list n).1.getD 0 []).length=n:=by
 obtain ⟨a,b⟩:=Qst h;obtain ⟨h1,h2,h3,h4,h5⟩:=h;obtain ⟨g1,g2,_⟩:=Qe6 h3 h4;unfold Qbr;simp only;generalize Qdc (Qec list n)=l at *;refine ⟨⟨by simp,by simp,by simp;omega,by simp;omega,fun t ht=>?_,fun k hk=>?_⟩,by simpa using a⟩
 ·
  have:t=l:=by simpa using ht
  subst this;exact ⟨rfl,by omega,b⟩
 have:=List.eq_of_mem_replicate hk;subst this;simp
theorem Qsv {list:List Nat}{n:Nat} (h:Qe2 list n):mayP (Qd7 list n).1 (Qd7 list n).2/\((Qd7 list n).1.getD 0 []).length=n:=by
 unfold Qd7;split
 ·
  exact Qsu h
 exact Qmh h
theorem Qkr (list:List Nat) (n:Nat):(Qd7 list n).2.length=Qa4 list.length:=by
 unfold Qd7;split
 ·
  simp [Qbr]
 simp [Qct,Qcm,Qf5,Qds]
theorem Qmy:∀ g,(Qco [0,1] (List.replicate g 0)).length=g
 | 0=>rfl
 | g+1=>by
  rw [List.replicate_succ,Qco];have e:Qd9 [0,1] (List.idxOf 0 [0,1])=[0,1]:=rfl;have e2:List.idxOf 0 [0,1]=0:=rfl;rw [e,e2];simp [Qmy g]
theorem Qjf {T:List (List Nat)}{P:List Nat}{c:Nat} (h:∀ t∈T,∀ x∈t,x<=c):∀ (list:List Nat) (i:Nat),(Qem T P list i).length<=list.length * c
 | [],i=>by simp [Qem]
 | s::r,i=>by
  have h1:=Qjf (P:=P) h r (i+1)
  have h2:(Qhv (T.getD (P.getD (i / 50) 0) []) s).length<=c:=by
   have:=Qq3 (l:=T.getD (P.getD (i / 50) 0) []) (c:=c) (fun x hx=>by
    by_cases ht:P.getD (i / 50) 0 < T.length
    ·
     refine h (T.getD (P.getD (i / 50) 0) []) ?_ x hx;rw [List.getD_eq_getElem?_getD,List.getElem?_eq_getElem ht];exact List.getElem_mem ht
    rw [List.getD_eq_getElem?_getD,List.getElem?_eq_none (by omega)] at hx;simp at hx) [s]
   simpa [Qer] using this
  simp only [Qem,List.length_append,List.length_cons,Nat.succ_mul];omega
theorem Qot {list:List Nat}{n:Nat} (h:Qe2 list n):Qf9 (Qd7 list n) list<=18+Qa4 list.length+2 * (5+3 * n)+list.length * 9:=by
 have h1:Qf9 (Qd7 list n) list<=Qf9 (Qbr list n) list:=by
  unfold Qd7;split <;> omega
 refine Nat.le_trans h1 ?_;obtain ⟨a,b⟩:=Qst h;have hc:(Qec list n).length=n:=by simp [Qec]
 obtain ⟨h3,h4,h5,h6,h7⟩:=h;have hfl:=Qva (Qec list n);have hok:=(Qz4 (w:=Qec list n) (by omega) (by omega)).2.1
 have hp:=Qjf (T:=(Qbr list n).1) (P:=(Qbr list n).2) (c:=9) (fun t ht x hx=>by
  have:t=Qdc (Qec list n):=by simpa [Qbr] using ht
  subst this;exact (hok x hx).2) list 0
 have hd:(Qb5 (Qdc (Qec list n))).length<=5+3 * n:=by
  rw [Qb5,List.length_append,Qal]
  have:=Qmx (k:=Qfc (Qec list n).length) (Qdc (Qec list n)) ((Qdc (Qec list n)).getD 0 0) (hfl _ (by
   generalize Qdc (Qec list n)=l at *;cases l with
   | nil=>simp at a;omega
   | cons x l=>simp)) hfl
  rw [a] at this;omega
 have hb:(Qbq (Qbr list n).1 (Qbr list n).2).length=18+Qa4 list.length+2 * (Qb5 (Qdc (Qec list n))).length:=by
  have e:List.range 2=[0,1]:=rfl;simp only [Qbq,Qbr,List.length_append,Qal,List.length_cons,List.length_nil,Nat.zero_add,Nat.reduceAdd,e,Qmy,List.flatMap_cons,List.flatMap_nil,List.append_nil];omega
 unfold Qf9;omega
def ascB:List UInt8->Bool
 | []=>true
 | [_]=>true
 | a::b::r=>decide (a.toNat < b.toNat) && ascB (b::r)
def Qmz (l:List UInt8):Bool:=ascB l && !l.isEmpty
theorem Qks (l:List UInt8) (hl:l.length<=1000000000000) (w:World):Does Tryz.prog 73 #[Str l] w fun v w'=>w'=w/\v=.bool (Qmz l):=by
 refine En [Str l] 20 Tryz.func73 ?_;refine VS [0] ?_;refine VS [0,3] ?_;refine Qab ?_;refine Qac [0,3] (fun m e w'=>∃ (i:Nat),Is e [(0,Str l),(3,.int .i64 i)]/\Is w' w/\1<=i/\i<=max l.length 1/\ascB (l.drop (i - 1))=ascB l/\m=l.length - i) (l.length - 1) ?_ ?_
 ·
  refine Qs ?_;exact ⟨1,rfl,rfl,by omega,by omega,rfl,rfl⟩
 rintro m e w' ⟨i,rfl,rfl,hi1,hi2,ha,hm⟩;refine VS [0,3,7] ?_;refine VD (fun h=>?_) (fun h=>?_)
 ·
  have e1:l.drop (i - 1)=l.getD (i - 1) 0::l.getD i 0::l.drop (i+1):=by
   rw [drop_getD 0 (l:=l) (i:=i - 1) (by omega),show i - 1+1=i by omega,drop_getD 0 (l:=l) (i:=i) (by omega)]
  have e2:l.drop i=l.getD i 0::l.drop (i+1):=drop_getD 0 (by omega);rw [e1,ascB,<- e2] at ha;refine VC_skip ?_;refine VB ?_;refine Vq [0,3,17] fun K hK=>?_;(repeat first | refine Qo ?_ | refine Qp ?_);apply hK;clear hK;refine VD (fun h=>?_) (fun h=>?_)
  ·
   refine VS [2] ?_;refine VC_ret (VX_ret1 rfl rfl ⟨rfl,?_⟩);rw [decide_eq_false (by omega),Bool.false_and] at ha;rw [Qmz,<- ha,Bool.false_and]
  rw [decide_eq_true (by omega),Bool.true_and] at ha;refine VC_skip ?_;refine Qah ?_;refine VS [0,3] ?_;refine Qaa ?_;refine Qs ?_;exact ⟨l.length - (i+1),by omega,i+1,rfl,rfl,by omega,by omega,by rw [Nat.add_sub_cancel];exact ha,rfl⟩
 refine Qad rfl ?_;refine VS [2] ?_;refine VC_ret (VX_ret1 rfl rfl ⟨rfl,?_⟩)
 have e1:ascB (l.drop (i - 1))=true:=by
  have hlen:(l.drop (i - 1)).length<=1:=by rw [List.length_drop];omega
  generalize l.drop (i - 1)=d at *
  match d,hlen with
  | [],_=>rfl
  | [_],_=>rfl
  | _::_::_,h=>simp at h
 rw [Qmz,<- ha,e1];cases l <;> rfl
def Qgb (li:List UInt8) (at_:Nat):List UInt8:=li.getD at_ 0::(li.take at_++li.drop (at_+1))
theorem Qq7 (li:List UInt8) (g cap at_:Nat) (hat:at_ < li.length) (hl:li.length<=1000000000000) (w0 w:World) (B:List Nat) (G:List Res) (hL:Heap w0 B w (Res.row 5 1 (some ⟨g,0,none⟩) li.length cap (Qan li)::G)) :
  Does Tryz.prog 74 #[.slice (some ⟨g,0,none⟩) li.length cap,.int .i64 at_] w
   fun v w'=>Heap w0 B w' (Res.row 5 1 (some ⟨g,0,none⟩) li.length cap (Qan (Qgb li at_))::G)/\v=.int .u8 (li.getD at_ 0).toNat:=by
 refine En [.slice (some ⟨g,0,none⟩) li.length cap,.int .i64 at_] 22 Tryz.func74 ?_;refine VS [0,1] ?_;refine VQ [0,1,5] fun K hK=>?_;(repeat first | refine Qo ?_ | refine Qp ?_ | (refine Gc hL ?_;(try refine Qs ?_)));apply hK;clear hK;refine VL [0,5] 7 fun K hK=>?_;obtain ⟨hx1,hx2,hx3,hx4⟩:=hL.at 0 rfl;clear hx1 hx4;refine ⟨I64.mk (by omega) (by omega),⟨by omega,by omega,by omega⟩,⟨by omega,by omega⟩,?_⟩
 have hsrc:RS w (some ⟨g,0,none⟩) at_ 1 (Qan (li.take at_)):=by
  rw [<- bytesV_take];have h:=(Qao (hL.at 0 rfl)).take at_ (by omega)
  rwa [Nat.mul_one] at h
 suffices hall:∀ w5,Heap w0 B w5 (Res.row 5 1 (some ⟨g,0,none⟩) li.length cap (Qan (li.take 1++li.take at_++li.drop (at_+1)))::G)->K [(0,.slice (some ⟨g,0,none⟩) li.length cap),(5,.int .u8 (li.getD at_ 0).toNat)] w5 by
  refine Qn6 ?_;refine Qs ?_;by_cases hc1:cap=1
  ·
   have h0:at_=0:=by omega
   subst h0;rw [if_pos (by rw [hc1];rfl)];refine Qi0 hL 0 rfl Tryz.underlying43 sz5 (off:=0) rfl ⟨rfl,hsrc,5,Tryz.underlying43⟩ (Qiz _) (by simp) fun w5 hu hH4=>?_;refine hall w5 ?_;rw [show li.take 1++li.take 0++li.drop (0+1)=li by rw [List.take_zero,List.append_nil];exact List.take_append_drop 1 li];simpa using hH4
  rw [if_neg (by rw [show Int.toNat 1=1 from rfl];exact hc1)];simp only [Option.map_some];refine Qi0 hL 0 rfl Tryz.underlying43 sz5 (off:=1) rfl ⟨rfl,hsrc,5,Tryz.underlying43⟩ (Qiz _) (by rw [Qfs,show Int.toNat 1=1 from rfl];omega) fun w5 hu hH4=>?_;refine hall w5 ?_;have e:min at_ (at_+1 - Int.toNat 1) * 1=at_:=by rw [show Int.toNat 1=1 from rfl];omega
  simp only [e,List.set_cons_zero] at hH4;rw [Qdt,Qdt,<- bytesV_take,<- bytesV_drop];have e5:(Qan (li.take at_)).take at_=Qan (li.take at_):=List.take_of_length_le (by rw [Qfs,List.length_take];omega);rw [e5,show 1+at_=at_+1 by omega] at hH4;exact hH4
 intro w5 hH;apply hK;clear hK;have hlen:(li.take 1++li.take at_++li.drop (at_+1)).length=li.length:=by simp;omega
 have hmv:(li.take 1++li.take at_++li.drop (at_+1)).set 0 (li.getD at_ 0)=Qgb li at_:=by
  cases li with
  | nil=>simp at hat
  | cons x r=>simp [Qgb]
 generalize li.take 1++li.take at_++li.drop (at_+1)=li2 at *;refine VQ [5] fun K hK=>?_;refine Qp ?_;refine MemK_store ?_;refine Qs ?_;refine Qas hH 0 (o:=(0)) (vs:=[.int .u8 (li.getD at_ 0).toNat]) rfl (by first | exact (Qa8 _ _ _).symm | rfl | simp [Qa8]) rfl (by kernel_rfl) (by first | omega | (simp;done) | (simp;omega) | (simp [Qan,Qap];omega) | (rw [natsV_len];simp;omega)) (by simp [Value.oneCell']) fun w6 hH2=>?_;(try refine Qs ?_);simp only [List.length_singleton,Qb2 (Qan li2) _ _ (show 0 < (Qan li2).length by rw [Qfs];omega),Qjo,List.set_cons_zero,hmv] at hH2;apply hK;clear hK;refine VS [4] ?_;exact VC_ret (VX_ret1 rfl rfl ⟨hH2,rfl⟩)
def Qhf (l:List Bool):List Value:=l.map Value.bool
theorem Qq8 (l:List Bool):(Qhf l).length=l.length:=by simp [Qhf]
theorem QCc {l:List Bool}{i:Nat} (h:i < l.length):(Qhf l)[i]? = some (.bool (l.getD i false)):=by
 simp [Qhf,List.getElem?_eq_getElem h,List.getD_eq_getElem?_getD]
theorem QCd (l:List Bool) (i:Nat) (v:Bool):(Qhf l).set i (.bool v)=Qhf (l.set i v):=by simp [Qhf,List.map_set]
def Qj1 (l:List UInt8) (n:Nat):List UInt8:=((List.range n).filter fun b=>l.any fun c=>c.toNat == b).map UInt8.ofNat
def Qa3 (l:List UInt8):List UInt8:=Qj1 l 256
theorem Qq9 (l:List UInt8) (n:Nat):Qj1 l (n+1)=Qj1 l n++if (l.any fun c=>c.toNat == n) then [UInt8.ofNat n] else []:=by
 unfold Qj1;rw [List.range_succ,List.filter_append,List.map_append]
 congr 1
 by_cases h:(l.any fun c=>c.toNat == n)=true
 ·
  rw [if_pos h,List.filter_cons_of_pos (p:=fun b=>l.any fun c=>c.toNat == b) h];rfl
 rw [if_neg h,List.filter_cons_of_neg (p:=fun b=>l.any fun c=>c.toNat == b) h];rfl
theorem Qvb (l:List UInt8) (n:Nat):(Qj1 l n).length<=n:=by
 unfold Qj1;rw [List.length_map];exact Nat.le_trans (List.length_filter_le _ _) (by simp)
theorem QMy (l:List UInt8) (hl:l.length<=1000000000000) (w:World):Does Tryz.prog 31 #[Str l] w fun v w'=>Heap w [] w' []/\v=Str (Qa3 l):=by
 refine En [Str l] 32 Tryz.func31 ?_;refine VS [0] ?_;refine VQ [0,3] fun K hK=>?_;refine MemK_alloc (.agg (Qhf (List.replicate 256 false)).toArray) (by kernel_rfl) ?_;refine Qs ?_;have hH0:=(Heap.start w).box 118 (Qhf (List.replicate 256 false));generalize w.alloc (Obj.cells (Qhf (List.replicate 256 false)).toArray 118)=w1 at *;generalize w.heap.size=gu at *;apply hK;clear hK;refine VS [0,3,8,9] ?_;generalize hn:l.length=n at *;refine Qab ?_;refine Qac [0,3,8,9] (fun m e w'=>∃ (k:Nat) (bl:List Bool),Is e [(0,Str l),(3,.pointer (some ⟨gu,0,none⟩)),(8,.int .i64 n),(9,.int .i64 k)]/\Heap w [] w' [Res.blk gu 118 (Qhf bl)]/\bl.length=256/\k<=n/\(∀ b,b < 256->bl.getD b false=(l.take k).any fun c=>c.toNat == b)/\m=n - k) n ?_ ?_
 ·
  refine Qs ?_;exact ⟨0,_,rfl,hH0,by simp,by omega,fun b hb=>by rw [List.getD_eq_getElem?_getD,List.getElem?_replicate,if_pos hb];rfl,rfl⟩
 clear hH0;rintro m e w2 ⟨k,bl,rfl,hH,hbl,hk,hb,hm⟩;refine VS [0,3,8,9,10] ?_;(repeat refine Qar ?_);refine VD (fun h=>?_) (fun h=>?_)
 ·
  have hbk:=(l.getD k 0).toNat_lt
  have htk:l.take (k+1)=l.take k++[l.getD k 0]:=by
   rw [List.take_add_one,List.getElem?_eq_getElem (by omega),List.getD_eq_getElem?_getD,List.getElem?_eq_getElem (by omega)];rfl
  refine VC_skip ?_;refine VB ?_;refine VS [0,3,4,8,9] ?_;refine VQ [0,3,8,9] fun K hK=>?_;rw [hn];refine ⟨⟨by omega,by omega⟩,⟨by omega,by omega⟩,?_⟩;refine MemK_store ?_;refine Qs ?_;refine StoreK_blk hH 0 (o:=(l.getD k 0).toNat) (vs:=[.bool true]) rfl rfl (by kernel_rfl) (by rw [Qq8,List.length_singleton];omega) (by simp [Value.oneCell']) fun w6 hH2=>?_;simp only [List.length_singleton,Qb2 (Qhf bl) _ _ (show (l.getD k 0).toNat < (Qhf bl).length by rw [Qq8];omega),QCd,List.set_cons_zero] at hH2;apply hK;clear hK;refine Qah ?_;refine VS [0,3,8,9] ?_;refine Qaa ?_;refine Qs ?_;refine ⟨n - (k+1),by omega,k+1,_,rfl,hH2,by simp [hbl],by omega,fun b hb2=>?_,rfl⟩;rw [htk,List.any_append,<- hb b hb2];generalize l.getD k 0=c at *;simp only [List.getD_eq_getElem?_getD,List.getElem?_set];by_cases e:c.toNat=b
  ·
   rw [if_pos e,if_pos (by omega)];simp [e]
  rw [if_neg e];simp [e]
 obtain rfl:k=n:=by omega
 rw [List.take_of_length_le (by omega)] at hb;refine Qad rfl ?_;refine VQ [3,5] fun K hK=>?_;refine Qbg hH (Qan []) (xs:=[]) Tryz.underlying43 sz5 rfl rfl rfl (by omega) ?_;refine Qs ?_;refine ⟨rfl,by simp [Value.cells],fun g w4 hH2=>?_⟩;(try refine Qs ?_);apply hK;clear hK;refine VS [3,5,18] ?_;refine Qab ?_;refine Qac [3,5,18] (fun m e w'=>∃ (b cap:Nat) (a:Option Addr),Is e [(3,.pointer (some ⟨gu,0,none⟩)),(5,.slice a (Qj1 l b).length cap),(18,.int .i64 b)]/\Heap w [] w' [Res.row 5 1 a (Qj1 l b).length cap (Qan (Qj1 l b)),Res.blk gu 118 (Qhf bl)]/\b<=256/\m=256 - b) 256 ?_ ?_
 ·
  refine Qs ?_;exact ⟨0,_,_,rfl,hH2,by omega,rfl⟩
 clear hH hH2;rintro m e w5 ⟨b,cap,a,rfl,hH,hb2,hm⟩;refine VS [3,5,18,19] ?_;(repeat refine Qar ?_);refine VD (fun h=>?_) (fun h=>?_)
 ·
  have hus:=Qq9 l b;have hul:=Qvb l b;have hbb:=hb b (by omega);refine VC_skip ?_;refine VB ?_;refine VS [3,5,6,18] ?_;refine VQ [3,5,6,18,23] fun K hK=>?_;refine ⟨⟨by omega,by omega⟩,_,Qae (hH.at 1 rfl) (QCc (by omega)),?_⟩;rw [hbb];apply hK;clear hK;generalize (l.any fun c=>c.toNat == b)=bb at *;refine Vi (fun h=>?_) (fun h=>?_)
  ·
   subst h;rw [if_pos rfl] at hus;refine VQ [3,5,18] fun K hK=>?_;rw [show ((b:Int) % 256)=((UInt8.ofNat b).toNat:Int) by rw [UInt8.toNat_ofNat'];omega];have hlen:(Qj1 l (b+1)).length=(Qj1 l b).length+1:=by rw [hus];simp
   refine Qb4 (xs:=[.tmp 26]) Tryz.underlying43 sz5 rfl rfl rfl (by omega) ?_;refine Qs ?_;refine ⟨by simp [Value.cells],?_⟩;refine Qai ?_;refine Qs ?_;refine Qgu hH 0 (UInt8.ofNat b) rfl Tryz.underlying43 zi5 (by first | rfl | (simp;done) | omega) (fun h=>by (first | omega | (simp;done) | (simp;omega))) fun a' cap' w5 hc' hH2=>?_;(try refine Qs ?_);rw [<- hus] at hH2 ⊢;apply hK;clear hK;refine Qah ?_;refine VS [3,5,18] ?_;refine Qaa ?_;refine Qs ?_;exact ⟨256 - (b+1),by omega,b+1,cap',a',rfl,hH2,by omega,rfl⟩
  subst h;rw [if_neg (by simp),List.append_nil] at hus;refine VC_skip ?_;refine Qah ?_;refine VS [3,5,18] ?_;refine Qaa ?_;refine Qs ?_;exact ⟨256 - (b+1),by omega,b+1,cap,a,by rw [hus];rfl,by rw [hus];exact hH,by omega,rfl⟩
 obtain rfl:b=256:=by omega
 refine Qad rfl ?_;refine VQ [2] fun K hK=>?_;refine ⟨Qa3 l,hH.readsBytes 0 rfl,?_⟩;apply hK;clear hK;exact VC_ret (VX_ret1 rfl rfl ⟨hH.sub (by simp),rfl⟩)
def Qc5:List UInt8->List UInt8->Option (List Int)
 | _,[]=>some []
 | li,c::r=>if c∈li then (Qc5 (Qgb li (li.idxOf c)) r).map ((li.idxOf c:Int)::·) else none
theorem Qjw {li:List UInt8}{at_:Nat} (h:at_ < li.length):(Qgb li at_).length=li.length:=by simp [Qgb];omega
def Qmi (sym l:List UInt8) (w:World) (v:Value) (w':World):Prop :=
 if Qmz sym=true then match Qc5 sym l with
  | none=>Heap w [] w' []/\v=.tuple #[.slice none 0 0,.int .i64 60]
  | some out=>∃ a cap,Heap w [] w' [Res.row 3 1 a out.length cap (Qap out)]/\v=.tuple #[.slice a out.length cap,.int .i64 0]
 else Heap w [] w' []/\v=.tuple #[.slice none 0 0,.int .i64 2]
theorem QCe (l sym:List UInt8) (hl:l.length<=1000000000000) (hs:sym.length<=1000000000000) (w:World):Does Tryz.prog 32 #[Str l,Str sym] w fun v w'=>Qmi sym l w v w':=by
 refine En [Str l,Str sym] 52 Tryz.func32 ?_;refine VS [0,1] ?_;refine VQ [0,1,12] fun K hK=>?_;refine MemK_call Tryz.call73 ?_;refine Qs ?_;refine CallK.mk (Qks sym hs w) ?_;rintro v w2 ⟨rfl,rfl⟩;refine Qs ?_;apply hK;clear hK;refine Vi (fun h=>?_) (fun h=>?_)
 ·
  simp at h;refine VS [4,5] ?_;exact VC_ret (Qat rfl rfl rfl (by show Qmi _ _ _ _ _;unfold Qmi;rw [if_neg (by simp [h])];exact ⟨Heap.start _,rfl⟩))
 simp at h
 have hfo:∀ v w',Qmi sym l w2 v w'=match Qc5 sym l with
  | none=>Heap w2 [] w' []/\v=.tuple #[.slice none 0 0,.int .i64 60]
  | some out=>∃ a cap,Heap w2 [] w' [Res.row 3 1 a out.length cap (Qap out)]/\v=.tuple #[.slice a out.length cap,.int .i64 0]:=fun v w'=>by unfold Qmi;rw [if_pos h]
 simp only [hfo];clear hfo h;generalize hfr:Qc5 sym l=res at *;refine VC_skip ?_;refine VQ [0,6] fun K hK=>?_;refine Qqm ?_;refine Qs ?_;refine Qqn (Heap.start w2) Tryz.underlying9 Tryz.underlying43 Tryz.underlying5 (by omega) fun gl cl w3 hH=>?_;apply hK;clear hK;refine VQ [0,6,7] fun K hK=>?_;refine Qba Tryz.underlying36 zi3 ?_;refine Qs ?_;refine ⟨0,l.length,⟨rfl,rfl,by omega,by omega,by omega⟩,?_⟩;have hH1:=hH.row 3 (n:=0) (cap:=l.length) (sz:=1) [] (List.replicate l.length (.int .i64 0)) (by simp) (by simp) (by omega) (by omega);simp only [List.nil_append] at hH1;generalize w3.alloc (Obj.cells (List.replicate l.length (Value.int IntKind.i64 0)).toArray 3)=w4 at *;generalize w3.heap.size=go at *;apply hK;clear hK;generalize hn:l.length=n at *;refine VS [0,6,7,19,20] ?_;rw [hn];have hsl:sym.length<=1000000000000:=hs;generalize hm0:sym.length=sl_ at *;refine Qab ?_;refine Qac [0,6,7,19,20] (fun m e w'=>∃ (k cap:Nat) (a:Option Addr) (li:List UInt8) (out:List Int),Is e [(0,Str l),(6,.slice (some ⟨gl,0,none⟩) sl_ cl),(7,.slice a out.length cap),(19,.int .i64 n),(20,.int .i64 k)]/\Heap w2 [] w' [Res.row 3 1 a out.length cap (Qap out),Res.row 5 1 (some ⟨gl,0,none⟩) sl_ cl (Qan li)]/\li.length=sl_/\k<=n/\out.length=k/\res=(Qc5 li (l.drop k)).map (out++·)/\m=n - k) n ?_ ?_
 ·
  refine Qs ?_;exact ⟨0,n,_,sym,[],rfl,hH1,hm0,by omega,rfl,by rw [List.drop_zero,hfr];simp,rfl⟩
 clear hH hH1 hfr;rintro m e w5 ⟨k,cap,a,li,out,rfl,hH,hli,hk,hol,hres,hm⟩;refine VS [0,6,7,19,20,21] ?_;(repeat refine Qar ?_);refine VD (fun h=>?_) (fun h=>?_)
 ·
  have hdk:l.drop k=l.getD k 0::l.drop (k+1):=drop_getD 0 (by omega);rw [hdk,Qc5] at hres;refine VC_skip ?_;refine VB ?_;refine VS [0,6,7,8,19,20] ?_;refine VS [0,6,7,8,9,19,20] ?_;refine VB ?_;refine Qac [0,6,7,8,9,19,20] (fun m e w'=>∃ (at_:Nat),Is e [(0,Str l),(6,.slice (some ⟨gl,0,none⟩) sl_ cl),(7,.slice a out.length cap),(8,.int .i64 k),(9,.int .i64 at_),(19,.int .i64 n),(20,.int .i64 k)]/\Is w' w5/\at_<=sl_/\l.getD k 0 ∉ li.take at_/\m=sl_ - at_) sl_ ?_ ?_
  ·
   refine Qs ?_;exact ⟨0,rfl,rfl,by omega,by simp,rfl⟩
  rintro m2 e w6 ⟨at_,rfl,rfl,hat,hnot,hm2⟩;refine Vq [0,6,7,8,9,19,20,36] fun K hK=>?_
  suffices hall:∀ bb:Bool,(bb=true ↔ (at_ < sl_/\li.getD at_ 0≠l.getD k 0))->K [(0,Str l),(6,.slice (some ⟨gl,0,none⟩) sl_ cl),(7,.slice a out.length cap),(8,.int .i64 k),(9,.int .i64 at_),(19,.int .i64 n),(20,.int .i64 k),(36,.bool bb)] by
   refine ⟨fun hg=>?_,fun hg=>hall _ (by simp;omega)⟩;refine ⟨⟨by omega,by omega⟩,_,Qaw (hH.at 1 rfl) (bytesV_get (by omega)),⟨by omega,by omega⟩,?_⟩;refine Qs ?_;refine hall _ ?_;have:(li.getD at_ 0).toNat=(l.getD k 0).toNat ↔ li.getD at_ 0=l.getD k 0:=UInt8.toNat_inj;generalize li.getD at_ 0=c1 at *;generalize l.getD k 0=c2 at *;by_cases e:c1=c2
   ·
    subst e;simp
   have h3:c1.toNat≠c2.toNat:=fun h=>e (this.1 h);exact ⟨fun _=>⟨by omega,e⟩,fun _=>decide_eq_true (by omega)⟩
  intro bb hbb;apply hK;clear hK;refine Vi (fun h=>?_) (fun h=>?_)
  ·
   obtain ⟨h1,h2⟩:=hbb.1 h;refine VC_skip ?_;refine Qab ?_;refine VS [0,6,7,8,9,19,20] ?_;refine Qah ?_;refine Qaa ?_;refine Qs ?_;refine ⟨sl_ - (at_+1),by omega,at_+1,rfl,rfl,by omega,?_,rfl⟩;rw [List.take_add_one,List.getElem?_eq_getElem (by omega),List.mem_append];rintro (h3 | h3)
   ·
    exact hnot h3
   have h4:l.getD k 0=li[at_]:=by simpa using h3
   apply h2;rw [h4,List.getD_eq_getElem?_getD,List.getElem?_eq_getElem (by omega)];rfl
  refine Qad rfl ?_
  have hstop:at_=sl_∨li.getD at_ 0=l.getD k 0:=by
   by_cases h1:at_ < sl_
   ·
    right;by_cases h2:li.getD at_ 0=l.getD k 0
    ·
     exact h2
    have:=hbb.2 ⟨h1,h2⟩
    simp_all
   left;omega
  clear hbb h;refine VS [0,6,7,9,19,20,42] ?_;refine VD (fun h=>?_) (fun h=>?_)
  ·
   obtain rfl:at_=sl_:=by omega
   rw [List.take_of_length_le (by omega)] at hnot;rw [if_neg hnot] at hres;subst hres;refine VS [4,5] ?_;exact VC_ret (Qat rfl rfl rfl ⟨hH.sub (by simp),rfl⟩)
  have hat2:at_ < sl_:=by omega
  have heq:li.getD at_ 0=l.getD k 0:=by rcases hstop with h1 | h1;omega;exact h1
  have hidx:li.idxOf (l.getD k 0)=at_:=by
   have e:=List.take_append_drop at_ li;rw [drop_getD 0 (l:=li) (i:=at_) (by omega),heq] at e
   have h3:(li.take at_++l.getD k 0::li.drop (at_+1)).idxOf (l.getD k 0)=at_:=by
    rw [List.idxOf_append,if_neg hnot,List.idxOf_cons_self,List.length_take];omega
   rwa [e] at h3
  have hmem:l.getD k 0∈li:=by rw [<- heq];exact Qaz 0 (by omega)
  rw [if_pos hmem,hidx] at hres;refine VC_skip ?_;refine VQ [0,6,7,9,19,20] fun K hK=>?_;have hc:=Qq7 li gl cl at_ (by omega) (by omega) w2 w6 [] _ (by rw [hli];exact hH.front 1 rfl);rw [hli] at hc;refine MemK_call Tryz.call74 ?_;refine Qs ?_;refine CallK.mk hc ?_;clear hc;rintro v w7 ⟨hH2,rfl⟩;have hH3:=hH2.front 1 rfl;simp only [List.eraseIdx_cons_succ,List.eraseIdx_cons_zero] at hH3;apply hK;clear hK;refine VQ [0,6,7,19,20] fun K hK=>?_;refine Qb4 (xs:=[.tmp 47]) Tryz.underlying36 sz3 rfl rfl rfl (by omega) ?_;refine Qs ?_;refine ⟨by simp [Value.cells],?_⟩;refine Qai ?_;refine Qs ?_;refine Qf0 hH3 0 rfl Tryz.underlying36 zi3 (fun h=>by (first | omega | (simp;done) | (simp;omega))) fun a' cap' w5 hc' hH4=>?_;(try refine Qs ?_);apply hK;clear hK;refine Qah ?_;refine VS [0,6,7,19,20] ?_;refine Qaa ?_;refine Qs ?_;refine ⟨n - (k+1),by omega,k+1,cap',a',Qgb li at_,out++[(at_:Int)],rfl,hH4,by rw [Qjw (by omega)];exact hli,by omega,by simp [hol],?_,rfl⟩;rw [hres,Option.map_map]
  congr 1
  funext x;simp
 obtain rfl:k=n:=by omega
 rw [List.drop_eq_nil_of_le (by omega),Qc5] at hres;simp only [Option.map_some,List.append_nil] at hres;subst hres;refine Qad rfl ?_;refine VS [4,5] ?_;exact VC_ret (Qat rfl rfl rfl ⟨a,cap,hH.sub (by simp),rfl⟩)
def Qdy:List UInt8->List Int->Option (List UInt8)
 | _,[]=>some []
 | li,v::r=>if 0<=v/\v < li.length then (Qdy (Qgb li v.toNat) r).map (li.getD v.toNat 0::·) else none
def Qdw (sym:List UInt8) (l:List Int):List UInt8×Int :=
 if Qmz sym=true then match Qdy sym l with
  | none=>([],60)
  | some out=>(out,0)
 else ([],2)
theorem Qvc (l:List Int) (sym:List UInt8) (la:Option Addr) (lc:Nat) (hl:l.length<=1000000000000) (hs:sym.length<=1000000000000) (hi:∀ v∈l,I64 v) (w:World) (hr:RS w la l.length 1 (Qap l)) :
  Does Tryz.prog 106 #[.slice la l.length lc,Str sym] w fun v w'=>Heap w [] w' []/\v=.tuple #[Str (Qdw sym l).1,.int .i64 (Qdw sym l).2]:=by
 refine En [.slice la l.length lc,Str sym] 41 Tryz.func106 ?_;refine VS [0,1] ?_;refine VQ [0,1,12] fun K hK=>?_;refine MemK_call Tryz.call73 ?_;refine Qs ?_;refine CallK.mk (Qks sym hs w) ?_;rintro v w2 ⟨rfl,rfl⟩;refine Qs ?_;apply hK;clear hK;refine Vi (fun h=>?_) (fun h=>?_)
 ·
  simp at h;refine VS [4,5] ?_;exact VC_ret (Qat rfl rfl rfl ⟨Heap.start _,by rw [Qdw,if_neg (by simp [h])]⟩)
 simp at h
 have hbs:Qdw sym l=match Qdy sym l with
  | none=>([],60)
  | some out=>(out,0):=by rw [Qdw,if_pos h]
 rw [hbs];clear hbs h;generalize hfr:Qdy sym l=res;refine VC_skip ?_;refine VQ [0,6] fun K hK=>?_;refine Qqm ?_;refine Qs ?_;refine Qqn (Heap.start w2) Tryz.underlying9 Tryz.underlying43 Tryz.underlying5 (by omega) fun gl cl w3 hH=>?_;apply hK;clear hK;refine VQ [0,6,7] fun K hK=>?_;refine Qba Tryz.underlying43 zi5 ?_;refine Qs ?_;refine ⟨0,l.length,⟨rfl,rfl,by omega,by omega,by omega⟩,?_⟩;have hH1:=hH.row 5 (n:=0) (cap:=l.length) (sz:=1) [] (List.replicate l.length (.int .u8 0)) (by simp) (by simp) (by omega) (by omega);simp only [List.nil_append] at hH1;generalize w3.alloc (Obj.cells (List.replicate l.length (Value.int IntKind.u8 0)).toArray 5)=w4 at *;generalize w3.heap.size=go at *;apply hK;clear hK;generalize hn:l.length=n at *;refine VS [6,7,18,19,20] ?_;have hsl:sym.length<=1000000000000:=hs;generalize hm0:sym.length=sl_ at *;refine Qab ?_;refine Qac [6,7,18,19,20] (fun m e w'=>∃ (k cap:Nat) (a:Option Addr) (li out:List UInt8),Is e [(6,.slice (some ⟨gl,0,none⟩) sl_ cl),(7,.slice a out.length cap),(18,.slice la n lc),(19,.int .i64 n),(20,.int .i64 k)]/\Heap w2 [] w' [Res.row 5 1 a out.length cap (Qan out),Res.row 5 1 (some ⟨gl,0,none⟩) sl_ cl (Qan li)]/\li.length=sl_/\k<=n/\out.length=k/\res=(Qdy li (l.drop k)).map (out++·)/\m=n - k) n ?_ ?_
 ·
  refine Qs ?_;exact ⟨0,n,_,sym,[],rfl,hH1,hm0,by omega,rfl,by rw [List.drop_zero,hfr];simp,rfl⟩
 clear hH hH1 hfr;rintro m e w5 ⟨k,cap,a,li,out,rfl,hH,hli,hk,hol,hres,hm⟩;refine VS [6,7,18,19,20,21] ?_;(repeat refine Qar ?_);refine VD (fun h=>?_) (fun h=>?_)
 ·
  have hdk:l.drop k=l.getD k 0::l.drop (k+1):=drop_getD 0 (by omega);rw [hdk,Qdy] at hres;have hr5:=hH.rs' hr;obtain ⟨pa,rfl⟩:=Qbb hr (by omega);have hi64:=hi _ (Qaz 0 (l:=l) (i:=k) (by omega));have hcell:=Qhc hr5 (i:=k) (by omega);generalize l.getD k 0=v at *;refine VC_skip ?_;refine VB ?_;refine VQ [6,7,9,18,19,20] fun K hK=>?_;refine ⟨⟨by omega,by omega⟩,_,hcell,?_⟩;apply hK;clear hK;refine VQ [6,7,9,18,19,20,31] fun K hK=>?_
  suffices hall:∀ bb:Bool,(bb=true ↔ (v < 0∨(sl_:Int)<=v))->K [(6,.slice (some ⟨gl,0,none⟩) sl_ cl),(7,.slice a out.length cap),(9,.int .i64 v),(18,.slice (some pa) n lc),(19,.int .i64 n),(20,.int .i64 k),(31,.bool bb)] w5 by (repeat' (first | exact hall _ _ (by first | omega | (simp;done) | (simp;omega)) | exact hall _ (by first | omega | (simp;done) | (simp;omega)) | refine ⟨fun _=>?_,fun _=>?_⟩ | refine Qo ?_))
  intro bb hbb;apply hK;clear hK;refine Vi (fun h=>?_) (fun h=>?_)
  ·
   have h2:=hbb.1 h;rw [if_neg (by omega)] at hres;subst hres;refine VS [4,5] ?_;exact VC_ret (Qat rfl rfl rfl ⟨hH.sub (by simp),rfl⟩)
  have h2:¬ (v < 0∨(sl_:Int)<=v):=fun h3=>by have:=hbb.2 h3;simp_all
  rw [if_pos (by omega)] at hres;obtain ⟨at_,rfl⟩:∃ p:Nat,v=p:=⟨v.toNat,by omega⟩;rw [Int.toNat_natCast] at hres;clear hbb h;refine VC_skip ?_;refine VQ [6,7,18,19,20] fun K hK=>?_;have hc:=Qq7 li gl cl at_ (by omega) (by omega) w2 w5 [] _ (by rw [hli];exact hH.front 1 rfl);rw [hli] at hc;refine MemK_call Tryz.call74 ?_;refine Qs ?_;refine CallK.mk hc ?_;clear hc;rintro v w7 ⟨hH2,rfl⟩;have hH3:=hH2.front 1 rfl;simp only [List.eraseIdx_cons_succ,List.eraseIdx_cons_zero] at hH3;refine Qb4 (xs:=[.tmp 35]) Tryz.underlying43 sz5 rfl rfl rfl (by omega) ?_;refine Qs ?_;refine ⟨by simp [Value.cells],?_⟩;refine Qai ?_;refine Qs ?_;refine Qgu hH3 0 (li.getD at_ 0) rfl Tryz.underlying43 zi5 (by first | rfl | (simp;done) | omega) (fun h=>by (first | omega | (simp;done) | (simp;omega))) fun a' cap' w5 hc' hH4=>?_;(try refine Qs ?_);apply hK;clear hK;refine Qah ?_;refine VS [6,7,18,19,20] ?_;refine Qaa ?_;refine Qs ?_;refine ⟨n - (k+1),by omega,k+1,cap',a',Qgb li at_,out++[li.getD at_ 0],rfl,hH4,by rw [Qjw (by omega)];exact hli,by omega,by simp [hol],?_,rfl⟩;rw [hres,Option.map_map]
  congr 1
  funext x;simp
 obtain rfl:k=n:=by omega
 rw [List.drop_eq_nil_of_le (by omega),Qdy] at hres;simp only [Option.map_some,List.append_nil] at hres;subst hres;refine Qad rfl ?_;refine VQ [4,5] fun K hK=>?_;refine ⟨out,hH.readsBytes 0 rfl,?_⟩;apply hK;clear hK;exact VC_ret (Qat rfl rfl rfl ⟨hH.sub (by simp),rfl⟩)
theorem QCf {li:List UInt8}{c:UInt8} (h:c∈li):li.getD (li.idxOf c) 0=c:=by
 have h1:=List.idxOf_lt_length_iff.2 h;rw [List.getD_eq_getElem?_getD,List.getElem?_eq_getElem h1,Option.getD_some];exact List.getElem_idxOf h1
theorem Qra:∀ (l li:List UInt8) (out:List Int),Qc5 li l=some out->Qdy li out=some l
 | [],li,out,h=>by
  simp only [Qc5,Option.some.injEq] at h;subst h;rfl
 | c::r,li,out,h=>by
  rw [Qc5] at h;split at h
  ·
   rename_i hc;have h1:=List.idxOf_lt_length_iff.2 hc;rw [Option.map_eq_some_iff] at h;obtain ⟨out',h2,rfl⟩:=h;rw [Qdy,if_pos (by omega),Int.toNat_natCast,Qra r _ out' h2,QCf hc];rfl
  cases h
theorem Qou:∀ (l li:List UInt8) (out:List Int),Qc5 li l=some out->out.length=l.length/\∀ v∈out,0<=v/\v < li.length
 | [],li,out,h=>by
  simp only [Qc5,Option.some.injEq] at h;subst h;simp
 | c::r,li,out,h=>by
  rw [Qc5] at h;split at h
  ·
   rename_i hc;have h1:=List.idxOf_lt_length_iff.2 hc;rw [Option.map_eq_some_iff] at h;obtain ⟨out',h2,rfl⟩:=h;obtain ⟨h3,h4⟩:=Qou r _ out' h2;rw [Qjw h1] at h4;refine ⟨by simp [h3],fun v hv=>?_⟩;rcases List.mem_cons.1 hv with rfl | hv
   ·
    omega
   exact h4 v hv
  cases h
theorem QCg {li:List UInt8}{at_:Nat} (h:at_ < li.length) (c:UInt8):c∈Qgb li at_ ↔ c∈li:=by
 have e:li=li.take at_++li.getD at_ 0::li.drop (at_+1):=by
  rw [<- Go.Eng.drop_getD 0 h,List.take_append_drop]
 unfold Qgb
 conv=>rhs;rw [e]
 simp only [List.mem_cons,List.mem_append];constructor
 ·
  rintro (h | h | h)
  ·
   exact .inr (.inl h)
  ·
   exact .inl h
  exact .inr (.inr h)
 rintro (h | h | h)
 ·
  exact .inr (.inl h)
 ·
  exact .inl h
 exact .inr (.inr h)
theorem Qrb:∀ (l li:List UInt8),(∀ c∈l,c∈li)->∃ out,Qc5 li l=some out
 | [],li,_=>⟨[],rfl⟩
 | c::r,li,h=>by
  have hc:=h c (by simp);have h1:=List.idxOf_lt_length_iff.2 hc;obtain ⟨out,ho⟩:=Qrb r (Qgb li (li.idxOf c)) fun d hd=>(QCg h1 d).2 (h d (by simp [hd]));exact ⟨_,by rw [Qc5,if_pos hc,ho];rfl⟩
theorem Qh0 {l:List UInt8}{c:UInt8}:c∈Qa3 l ↔ c∈l:=by
 simp only [Qa3,Qj1,List.mem_map,List.mem_filter,List.mem_range,List.any_eq_true,beq_iff_eq];constructor
 ·
  rintro ⟨b,⟨hb,d,hd,rfl⟩,rfl⟩;simpa using hd
 intro h;exact ⟨c.toNat,⟨c.toNat_lt,c,h,rfl⟩,by simp⟩
theorem QJi:∀ (l:List Nat),l.Pairwise (· < ·)->(∀ b∈l,b < 256)->ascB (l.map UInt8.ofNat)=true
 | [],_,_=>rfl
 | [_],_,_=>rfl
 | a::b::r,h,hb=>by
  have h1:=List.pairwise_cons.1 h;have ha:=hb a (by simp);have hb1:=hb b (by simp);have h2:=h1.1 b (by simp);simp only [List.map_cons,ascB,Bool.and_eq_true,decide_eq_true_eq];refine ⟨by simp only [UInt8.toNat_ofNat'];omega,?_⟩;have:=QJi (b::r) h1.2 fun x hx=>hb x (by simp [hx]);simpa using this
theorem Qkt {l:List UInt8} (h:l≠[]):Qmz (Qa3 l)=true:=by
 have h1:ascB (Qa3 l)=true:=QJi _ (List.Pairwise.filter _ List.pairwise_lt_range) fun b hb=>by simp at hb;exact hb.1
 have h2:Qa3 l≠[]:=fun e=>by
  cases l with
  | nil=>exact h rfl
  | cons c r=>have:=(Qh0 (l:=c::r) (c:=c)).2 (by simp);rw [e] at this;cases this
 rw [Qmz,h1];cases hu:Qa3 l with
 | nil=>exact absurd hu h2
 | cons=>rfl
def memB (u:List UInt8) (b:Nat):Bool:=u.any fun c=>c.toNat == b
def Qbx (u:List UInt8) (i:Nat):Bool:=(List.range 16).any fun k=>memB u (16 * i+k)
def rowS (u:List UInt8) (i:Nat):List Bool:=(List.range 16).map fun k=>memB u (16 * i+k)
def Qen (u:List UInt8):List Bool:=(List.range 16).map (Qbx u)++(List.range 16).flatMap fun i=>if Qbx u i then rowS u i else []
def Qhg (i:Nat) (row:List Bool):List UInt8:=((List.range 16).filter fun k=>row.getD k false).map fun k=>UInt8.ofNat (16 * i+k)
def stGo (bits:List Bool):List Bool->Nat->Nat->Except Int (List UInt8×Nat)
 | [],_,at_=>.ok ([],at_)
 | false::r,i,at_=>stGo bits r (i+1) at_
 | true::r,i,at_=>if bits.length < at_+16 then .error 10 else match stGo bits r (i+1) (at_+16) with
  | .error e=>.error e
  | .ok q=>.ok (Qhg i ((bits.drop at_).take 16)++q.1,q.2)
def Qfj (bits:List Bool) (at_:Nat):Except Int (List UInt8×Nat) :=
 if bits.length < at_+16 then .error 10 else match stGo bits ((bits.drop at_).take 16) 0 (at_+16) with
 | .error e=>.error e
 | .ok q=>if q.1=[] then .error 60 else .ok q
theorem Qlg (u:List UInt8) (i:Nat):(rowS u i).length=16:=by simp [rowS]
theorem Qm0 (u:List UInt8) (i:Nat):Qhg i (rowS u i)=(((List.range 16).map fun k=>16 * i+k).filter (memB u)).map UInt8.ofNat:=by
 unfold Qhg;rw [List.filter_map,List.map_map]
 have:(List.range 16).filter (fun k=>(rowS u i).getD k false)=(List.range 16).filter (memB u ∘ fun k=>16 * i+k):=by
  refine List.filter_congr fun k hk=>?_;have hk:k < 16:=by simpa using hk
  simp [rowS,List.getD_eq_getElem?_getD,List.getElem?_range hk]
 rw [this];rfl
theorem Qsw {u:List UInt8}{i:Nat} (h:Qbx u i=false):Qhg i (rowS u i)=[]:=by
 rw [Qm0,List.map_eq_nil_iff,List.filter_eq_nil_iff];intro b hb;obtain ⟨k,hk,rfl⟩:=List.mem_map.1 hb;unfold Qbx at h;rw [List.any_eq_false] at h;exact h k hk
theorem QMz (u:List UInt8):∀ (n i:Nat) {bits:List Bool}{at_:Nat}{r:List Bool},bits.drop at_=((List.range' i n).flatMap fun i=>if Qbx u i then rowS u i else [])++r ->
  stGo bits ((List.range' i n).map (Qbx u)) i at_=.ok ((List.range' i n).flatMap (fun i=>Qhg i (rowS u i)),at_+((List.range' i n).flatMap fun i=>if Qbx u i then rowS u i else []).length)
 | 0,i,bits,at_,r,_=>rfl
 | n+1,i,bits,at_,r,hb=>by
  rw [List.range'_succ] at hb ⊢;simp only [List.map_cons,List.flatMap_cons,List.append_assoc] at hb ⊢;cases h:Qbx u i with
  | false =>
   rw [h] at hb;simp only [Bool.false_eq_true,if_false,List.nil_append] at hb ⊢;rw [stGo,QMz u n (i+1) hb,Qsw h];simp
  | true =>
   rw [h] at hb;simp only [if_true] at hb ⊢;have hl:=Qlg u i;have hlen:bits.length - at_=(rowS u i).length+(((List.range' (i+1) n).flatMap fun i=>if Qbx u i then rowS u i else [])++r).length:=by rw [<- List.length_drop,hb,List.length_append]
   have ht:(bits.drop at_).take 16=rowS u i:=by
    rw [hb,List.take_append_of_le_length (by omega),List.take_of_length_le (by omega)]
   have hd:=Qbs hb;rw [hl] at hd;rw [stGo,if_neg (by omega),QMz u n (i+1) hd,ht];simp [hl];omega
theorem QEx (u:List UInt8):(List.range 16).flatMap (fun i=>Qhg i (rowS u i))=((List.range 256).filter (memB u)).map UInt8.ofNat:=by
 have e:List.range 256=(List.range 16).flatMap fun i=>(List.range 16).map fun k=>16 * i+k:=by decide
 rw [e,List.filter_flatMap,List.map_flatMap];simp only [Qm0]
theorem QEy (l:List UInt8) (b:Nat) (hb:b < 256):memB (Qa3 l) b=l.any fun c=>c.toNat == b:=by
 unfold memB;rw [Bool.eq_iff_iff,List.any_eq_true,List.any_eq_true];constructor
 ·
  rintro ⟨c,hc,h⟩;exact ⟨c,Qh0.1 hc,h⟩
 rintro ⟨c,hc,h⟩;exact ⟨c,Qh0.2 hc,h⟩
theorem Qrc (l:List UInt8):((List.range 256).filter (memB (Qa3 l))).map UInt8.ofNat=Qa3 l:=by
 conv=>rhs;unfold Qa3 Qj1
 congr 1
 refine List.filter_congr fun b hb=>?_;rw [QEy l b (by simpa using hb)]
theorem Qlh (u:List UInt8):(Qen u).length<=272:=by
 have h:∀ m,((List.range m).flatMap fun i=>if Qbx u i then rowS u i else []).length<=16 * m:=fun m=>by
  induction m with
  | zero=>simp
  | succ m ih =>
   rw [List.range_succ,List.flatMap_append,List.length_append];have:((if Qbx u m=true then rowS u m else []):List Bool).length<=16:=by split <;> simp [Qlg]
   simp only [List.flatMap_cons,List.flatMap_nil,List.append_nil];omega
 have:=h 16;unfold Qen;simp only [List.length_append,List.length_map,List.length_range];omega
theorem QId {l:List UInt8} (hl:l≠[]) {bits:List Bool}{at_:Nat}{r:List Bool} (hb:bits.drop at_=Qen (Qa3 l)++r):Qfj bits at_=.ok (Qa3 l,at_+(Qen (Qa3 l)).length):=by
 generalize hu:Qa3 l=u at *;rw [Qen,List.append_assoc] at hb;have h16:((List.range 16).map (Qbx u)).length=16:=by simp
 have hlen:bits.length - at_=((List.range 16).map (Qbx u)).length+(((List.range 16).flatMap fun i=>if Qbx u i then rowS u i else [])++r).length:=by rw [<- List.length_drop,hb,List.length_append]
 have ht:(bits.drop at_).take 16=(List.range 16).map (Qbx u):=by
  rw [hb,List.take_append_of_le_length (by omega),List.take_of_length_le (by omega)]
 have hd:=Qbs hb;rw [h16] at hd
 have hne:u≠[]:=fun e=>by
  cases l with
  | nil=>exact hl rfl
  | cons c r=>have:=(Qh0 (l:=c::r) (c:=c)).2 (by simp);rw [hu,e] at this;cases this
 rw [Qfj,if_neg (by omega),ht];have:=QMz u 16 0 (bits:=bits) (at_:=at_+16) (r:=r) (by rw [<- List.range_eq_range'];exact hd);rw [<- List.range_eq_range'] at this;rw [this,QEx,<- hu,Qrc];simp only;rw [if_neg (by rw [hu];exact hne)];simp [Qen];omega
def ordN (l:List Nat):Nat->List Nat
 | 0=>[]
 | n+1=>ordN l n++idxs l (n+1)
def begS (l:List Nat) (n:Nat):Nat:=(ordN l (n - 1)).length
theorem Qya (l:List Nat):∀ (n k:Nat),k < (ordN l n).length->(ordN l n).getD k 0 < l.length/\1<=l.getD ((ordN l n).getD k 0) 0/\k=begS l (l.getD ((ordN l n).getD k 0) 0)+(idxN l (l.getD ((ordN l n).getD k 0) 0) ((ordN l n).getD k 0)).length
 | 0,k,h=>by simp [ordN] at h
 | n+1,k,h=>by
  rw [ordN] at h ⊢;rcases Nat.lt_or_ge k (ordN l n).length with h1 | h1
  ·
   rw [Qcs h1];exact Qya l n k h1
  have h2:(ordN l n++idxs l (n+1)).getD k 0=(idxs l (n+1)).getD (k - (ordN l n).length) 0:=by
   rw [List.getD_eq_getElem?_getD,List.getElem?_append_right h1,List.getD_eq_getElem?_getD]
  rw [h2];have h3:k - (ordN l n).length < (idxs l (n+1)).length:=by rw [List.length_append] at h;omega
  obtain ⟨a,b,c⟩:=QEq l (n+1) l.length _ h3;change (idxs l (n+1)).getD (k - (ordN l n).length) 0 < l.length at a;change l.getD ((idxs l (n+1)).getD (k - (ordN l n).length) 0) 0=n+1 at b;change (idxN l (n+1) ((idxs l (n+1)).getD (k - (ordN l n).length) 0)).length=_ at c;rw [b,c,begS,Nat.add_sub_cancel];exact ⟨a,by omega,by omega⟩
theorem QAa {l:List Nat}{i:Nat} (hi:i < l.length) (h1:1<=l.getD i 0):∀ n,l.getD i 0<=n->i∈ordN l n
 | 0,h=>by omega
 | n+1,h=>by
  rw [ordN,List.mem_append];rcases Nat.lt_or_ge n (l.getD i 0) with h2 | h2
  ·
   right;rw [show n+1=l.getD i 0 by omega];exact Qno.2 ⟨hi,rfl⟩
  exact .inl (QAa hi h1 n h2)
theorem QEz {l:List Nat}{n i k:Nat} (h:k < (ordN l n).length) (hk:(ordN l n).getD k 0=i):Qep l i+begS l (l.getD i 0)=Qa7 l (l.getD i 0)+k:=by
 have:=(Qya l n k h).2.2;rw [hk] at this;unfold Qep;omega
theorem Qyb (l:List Nat) {m n:Nat} (h:m<=n):∃ r,ordN l n=ordN l m++r:=by
 induction n with
 | zero=>exact ⟨[],by rw [show m=0 by omega];simp⟩
 | succ n ih =>
  rcases Nat.lt_or_ge m (n+1) with h1 | h1
  ·
   obtain ⟨r,hr⟩:=ih (by omega);exact ⟨_,by rw [ordN,hr,List.append_assoc]⟩
  exact ⟨[],by rw [show m=n+1 by omega];simp⟩
theorem QIe (l:List Nat) {n L j:Nat} (hn:1<=n) (hL:n<=L) (hj:j < cnt l n):begS l n+j < (ordN l L).length/\(ordN l L).getD (begS l n+j) 0=(idxs l n).getD j 0:=by
 obtain ⟨r,hr⟩:=Qyb l hL;obtain ⟨m,rfl⟩:∃ m,n=m+1:=⟨n - 1,by omega⟩;have hb:begS l (m+1)=(ordN l m).length:=by rw [begS,Nat.add_sub_cancel]
 have hj':j < (idxs l (m+1)).length:=hj;rw [hr,ordN,hb];constructor
 ·
  simp only [List.length_append];omega
 rw [List.append_assoc,List.getD_eq_getElem?_getD,List.getElem?_append_right (by omega),Nat.add_sub_cancel_left,List.getElem?_append_left hj',List.getD_eq_getElem?_getD]
theorem QIf {l:List Nat}{n:Nat} (h:maxL l < n):cnt l n=0:=by
 rw [cnt,List.length_eq_zero_iff,List.eq_nil_iff_forall_not_mem];intro i hi;obtain ⟨h1,h2⟩:=Qno.1 hi;have:=Qib.1 (Nat.le_refl (maxL l)) _ (Qaz 0 h1);omega
theorem Qnr (l:List Nat) (n:Nat):(ordN l n).length<=n * l.length:=by
 induction n with
 | zero=>simp [ordN]
 | succ n ih =>
  have:=Qz5 l (n+1) l.length;rw [ordN,List.length_append,Nat.succ_mul];unfold idxs;omega
def Qdz (sv ov:Value) (F Bg C:List Nat):List Value:=sv::ov::(Qag F++(Qag Bg++Qag C))
section
variable {sv ov:Value}{F Bg C:List Nat}
theorem QIg (hF:F.length=22) {n:Nat} (hn:n < 22):(Qdz sv ov F Bg C)[2+n]? = some (.int .i64 (F.getD n 0:Nat)):=by
 rw [Qdz,Nat.add_comm,List.getElem?_cons_succ,List.getElem?_cons_succ,List.getElem?_append_left (by rw [Qaj];omega),Qbw (by omega)]
theorem QIh (hF:F.length=22) (hB:Bg.length=22) {n:Nat} (hn:n < 22):(Qdz sv ov F Bg C)[24+n]? = some (.int .i64 (Bg.getD n 0:Nat)):=by
 rw [Qdz,show 24+n=(22+n+1)+1 by omega,List.getElem?_cons_succ,List.getElem?_cons_succ,List.getElem?_append_right (by rw [Qaj];omega),Qaj,hF,Nat.add_sub_cancel_left,List.getElem?_append_left (by rw [Qaj];omega),Qbw (by omega)]
theorem QAb (hF:F.length=22) (hB:Bg.length=22) (hC:C.length=22) {n:Nat} (hn:n < 22):(Qdz sv ov F Bg C)[46+n]? = some (.int .i64 (C.getD n 0:Nat)):=by
 rw [Qdz,show 46+n=(44+n+1)+1 by omega,List.getElem?_cons_succ,List.getElem?_cons_succ,List.getElem?_append_right (by rw [Qaj];omega),Qaj,hF,List.getElem?_append_right (by rw [Qaj];omega),Qaj,hB,show 44+n - 22 - 22=n by omega,Qbw (by omega)]
theorem Qov (hF:F.length=22) (hB:Bg.length=22) (hC:C.length=22):(Qdz sv ov F Bg C).length=68:=by simp [Qdz,Qaj,hF,hB,hC]
theorem QM0 (hF:F.length=22) {n x:Nat} (hn:n < 22):(Qdz sv ov F Bg C).set (2+n) (.int .i64 (x:Nat))=Qdz sv ov (F.set n x) Bg C:=by
 rw [Qdz,Nat.add_comm,List.set_cons_succ,List.set_cons_succ,List.set_append_left _ _ (by rw [Qaj];omega),Qca];rfl
theorem QM1 (hF:F.length=22) (hB:Bg.length=22) {n x:Nat} (hn:n < 22):(Qdz sv ov F Bg C).set (24+n) (.int .i64 (x:Nat))=Qdz sv ov F (Bg.set n x) C:=by
 rw [Qdz,show 24+n=(22+n+1)+1 by omega,List.set_cons_succ,List.set_cons_succ,List.set_append_right _ _ (by rw [Qaj];omega),Qaj,hF,Nat.add_sub_cancel_left,List.set_append_left _ _ (by rw [Qaj];omega),Qca];rfl
theorem QM2 (hF:F.length=22) (hB:Bg.length=22) (hC:C.length=22) {n x:Nat} (hn:n < 22):(Qdz sv ov F Bg C).set (46+n) (.int .i64 (x:Nat))=Qdz sv ov F Bg (C.set n x):=by
 rw [Qdz,show 46+n=(44+n+1)+1 by omega,List.set_cons_succ,List.set_cons_succ,List.set_append_right _ _ (by rw [Qaj];omega),Qaj,hF,List.set_append_right _ _ (by rw [Qaj];omega),Qaj,hB,show 44+n - 22 - 22=n by omega,Qca];rfl
end
theorem Qow {α:Type} (f:Nat->α) (n:Nat) (d:α) (i:Nat) (h:i < n):((List.range n).map f).getD i d=f i:=by
 rw [List.getD_eq_getElem?_getD,List.getElem?_map,List.getElem?_range h];rfl
def upTo (f:Nat->Nat) (n:Nat):List Nat:=(List.range 22).map fun j=>if j < n then f j else 0
theorem Qhh (f:Nat->Nat) (n:Nat):(upTo f n).length=22:=by simp [upTo]
theorem QAc (f:Nat->Nat) {n j:Nat} (hj:j < 22):(upTo f n).getD j 0=if j < n then f j else 0:=Qow _ _ _ _ hj
theorem Qsx (f:Nat->Nat) (n:Nat) (hn:n < 22):(upTo f n).set n (f n)=upTo f (n+1):=by
 apply List.ext_getElem
 ·
  simp [upTo]
 intro j h1 h2;have hj:j < 22:=by simpa [upTo] using h2
 rw [List.getElem_set];simp only [upTo,List.getElem_map,List.getElem_range];by_cases e:n=j
 ·
  subst e;rw [if_pos rfl,if_pos (by omega)]
 rw [if_neg e];by_cases h3:j < n
 ·
  rw [if_pos h3,if_pos (by omega)]
 rw [if_neg h3,if_neg (by omega)]
theorem Qm1 (l:List Nat) (hs:l.length<=1000000000) (a:Option Addr) (lc:Nat) (w:World) (hr:RS w a l.length 1 (Qag l)) :
  Does Tryz.prog 166 #[.agg #[.slice a l.length lc]] w fun v w'=>Heap w [] w' []/\v=.int .i64 (maxL l:Nat):=by
 have hen:#[Value.agg #[Value.slice a l.length lc]]=[Value.agg [Value.slice a l.length lc].toArray].toArray:=rfl;rw [hen];refine Qdj 18 Tryz.func166 rfl rfl (of_decide_eq_true rfl) ?_;simp only [Env.ofArgs];generalize hn:l.length=n at *;refine VQ [1] fun K hK=>?_;refine Qce ?_;refine Qs ?_;have hH:=(Heap.start w).box 204 [.slice a n lc];generalize w.alloc (Obj.cells [Value.slice a n lc].toArray 204)=w1 at *;generalize w.heap.size=gz at *;apply hK;clear hK;refine VS [1,3] ?_;refine VQ [3,7,8,9] fun K hK=>?_;refine ⟨_,Qae (hH.at 0 rfl) rfl,?_⟩;refine Qs ?_;apply hK;clear hK;refine Qab ?_;refine Qac [3,7,8,9] (fun m e w'=>∃ (i:Nat),Is e [(3,.int .i64 (maxL (l.take i):Nat)),(7,.slice a n lc),(8,.int .i64 n),(9,.int .i64 i)]/\Is w' w1/\i<=n/\m=n - i) n ?_ ?_
 ·
  refine Qs ?_;exact ⟨0,rfl,rfl,by omega,rfl⟩
 rintro m e w' ⟨i,rfl,rfl,hi,rfl⟩;refine VS [3,7,8,9,10] ?_;(repeat refine Qar ?_);refine VD (fun h=>?_) (fun h=>?_)
 ·
  obtain ⟨p,rfl⟩:=Qbb hr (by omega);have hcell:=Qbk (hH.rs' hr) (i:=i) (by omega);have hs2:=Qhm (l:=l) (i:=i) (by omega);refine VC_skip ?_;refine VB ?_;refine VQ [3,5,7,8,9] fun K hK=>?_;refine ⟨⟨by omega,by omega⟩,_,hcell,?_⟩;apply hK;clear hK;refine VQ [3,7,8,9] fun K hK=>?_;rw [show max ((maxL (l.take i):Nat):Int) ((l.getD i 0:Nat):Int)=((maxL (l.take (i+1)):Nat):Int) by rw [hs2];omega];apply hK;clear hK;refine Qah ?_;refine VS [3,7,8,9] ?_;refine Qaa ?_;refine Qs ?_;exact ⟨n - (i+1),by omega,i+1,rfl,rfl,by omega,rfl⟩
 refine Qad rfl ?_;refine VS [2] ?_;refine VC_ret (VX_ret1 rfl rfl ⟨hH.sub (by simp),?_⟩);rw [List.take_of_length_le (by omega)]
def tabB (g:Nat) (sv:Value) (ao:Option Addr) (co no:Nat) (F Bg C:List Nat):Res:=Res.blk g 207 (Qdz sv (.slice ao no co) F Bg C)
def tabR (g:Nat) (sv:Value) (ao:Option Addr) (co:Nat) (l:List Nat):Res:=tabB g sv ao co (ordN l (maxL l)).length (upTo (Qa7 l) (maxL l+1)) (upTo (begS l) (maxL l+1)) (upTo (cnt l) (maxL l+1))
def ordR (ao:Option Addr) (co:Nat) (l:List Nat):Res:=Res.row 3 1 ao (ordN l (maxL l)).length co (Qag (ordN l (maxL l)))
theorem Qns {l:List Nat} (h:okL l):1<=maxL l/\maxL l<=20:=by
 refine ⟨?_,Qib.2 fun x hx=>(h.2.2.1 x hx).2⟩;obtain ⟨h1,_,h3,_⟩:=h;cases l with
 | nil=>simp at h1
 | cons x l=>exact Nat.le_trans (h3 x (by simp)).1 (Qib.1 (Nat.le_refl _) x (by simp))
theorem Qsy {f:Nat->Nat} (h:f 0=0):upTo f 1=List.replicate 22 0:=by
 apply List.ext_getElem
 ·
  simp [upTo]
 intro j h1 h2;simp only [upTo,List.getElem_map,List.getElem_range,List.getElem_replicate];split
 ·
  rw [show j=0 by omega,h]
 rfl
section
variable {w0 w:World}{B:List Nat}{G:List Res}{g:Nat}{sv:Value}{ao:Option Addr}{co no:Nat}{F Bg C:List Nat}{D:World->Prop}
theorem Qyc (hH:Heap w0 B w G) (i:Nat) {n x:Nat} (hi:G[i]? = some (tabB g sv ao co no F Bg C)) (lF:F.length=22) (lB:Bg.length=22) (lC:C.length=22) (hn:n < 22)
  (h:∀ w',Heap w0 B w' (G.set i (tabB g sv ao co no (F.set n x) Bg C))->D w'):Qim Tryz.prog 3 (.pointer (some ⟨g,2+n,none⟩)) (.int .i64 (x:Nat)) w D:=by
 refine StoreK_blk hH i (o:=2+n) (vs:=[.int .i64 (x:Nat)]) hi rfl (by kernel_rfl) (by rw [Qov lF lB lC];simp;omega) (by simp [Value.oneCell']) fun w' hH2=>h w' ?_;rw [List.length_singleton,Qb2 _ _ _ (by rw [Qov lF lB lC];omega),QM0 lF hn] at hH2;exact hH2
theorem Qyd (hH:Heap w0 B w G) (i:Nat) {n x:Nat} (hi:G[i]? = some (tabB g sv ao co no F Bg C)) (lF:F.length=22) (lB:Bg.length=22) (lC:C.length=22) (hn:n < 22)
  (h:∀ w',Heap w0 B w' (G.set i (tabB g sv ao co no F (Bg.set n x) C))->D w'):Qim Tryz.prog 3 (.pointer (some ⟨g,24+n,none⟩)) (.int .i64 (x:Nat)) w D:=by
 refine StoreK_blk hH i (o:=24+n) (vs:=[.int .i64 (x:Nat)]) hi rfl (by kernel_rfl) (by rw [Qov lF lB lC];simp;omega) (by simp [Value.oneCell']) fun w' hH2=>h w' ?_;rw [List.length_singleton,Qb2 _ _ _ (by rw [Qov lF lB lC];omega),QM1 lF lB hn] at hH2;exact hH2
theorem Qye (hH:Heap w0 B w G) (i:Nat) {n x:Nat} (hi:G[i]? = some (tabB g sv ao co no F Bg C)) (lF:F.length=22) (lB:Bg.length=22) (lC:C.length=22) (hn:n < 22)
  (h:∀ w',Heap w0 B w' (G.set i (tabB g sv ao co no F Bg (C.set n x)))->D w'):Qim Tryz.prog 3 (.pointer (some ⟨g,46+n,none⟩)) (.int .i64 (x:Nat)) w D:=by
 refine StoreK_blk hH i (o:=46+n) (vs:=[.int .i64 (x:Nat)]) hi rfl (by kernel_rfl) (by rw [Qov lF lB lC];simp;omega) (by simp [Value.oneCell']) fun w' hH2=>h w' ?_;rw [List.length_singleton,Qb2 _ _ _ (by rw [Qov lF lB lC];omega),QM2 lF lB lC hn] at hH2;exact hH2
theorem Qyf (hH:Heap w0 B w G) (i:Nat) {ao':Option Addr}{co' no':Nat} (hi:G[i]? = some (tabB g sv ao co no F Bg C)) (lF:F.length=22) (lB:Bg.length=22) (lC:C.length=22)
  (h:∀ w',Heap w0 B w' (G.set i (tabB g sv ao' co' no' F Bg C))->D w'):Qim Tryz.prog 36 (.pointer (some ⟨g,1,none⟩)) (.slice ao' no' co') w D:=by
 refine StoreK_blk hH i (o:=1) (vs:=[.slice ao' no' co']) hi rfl (by kernel_rfl) (by rw [Qov lF lB lC];simp) (by simp [Value.oneCell']) fun w' hH2=>h w' ?_;exact hH2
end
theorem Qvd (l:List Nat) (hok:okL l) (a:Option Addr) (lc:Nat) (w:World) (hr:RS w a l.length 1 (Qag l)) :
  Does Tryz.prog 135 #[.slice a l.length lc] w fun v w'=>∃ g ao co,Heap w [] w' [tabR g (.slice a l.length lc) ao co l,ordR ao co l]/\v=.tuple #[.pointer (some ⟨g,0,none⟩),.int .i64 0]:=by
 have hc1:=Qie l a lc w hr;rw [if_pos (Qlf.2 hok)] at hc1;obtain ⟨hL1,hL20⟩:=Qns hok;have hfl:=fun n hn=>Qjt hok (n:=n) hn;have hc0:cnt l 0=0:=Qlc fun x hx=>(hok.2.2.1 x hx).1;obtain ⟨hl2,hl258,_,_⟩:=hok;have hcl:=Qm1 l (by omega) a lc;refine En [.slice a l.length lc] 84 Tryz.func135 ?_;unfold tabR ordR tabB;generalize hLL:maxL l=L at *;generalize hn:l.length=n at *;obtain ⟨p,rfl⟩:=Qbb hr (by omega);refine VQi [0] fun K hK=>?_;apply hK;clear hK;refine VQi [0,4] fun K hK=>?_;refine MemK_call Tryz.call103 ?_;refine Qi ?_;refine CallK.mk hc1 ?_;rintro v w2 ⟨rfl,rfl⟩;apply hK;clear hK;refine VQi [0,4,13] fun K hK=>?_;apply hK;clear hK;refine Qaf rfl rfl (fun h=>by simp at h) (fun h=>VC_skip ?_);clear h hc1;refine VQi [5] fun K hK=>?_;refine Qce ?_;refine Qi ?_
 suffices hsuf:K [(5,.pointer (some ⟨w2.heap.size,0,none⟩))] (w2.alloc (Obj.cells (Qdz (.slice (some p) n lc) (.slice none 0 0) (List.replicate 22 0) (List.replicate 22 0) (List.replicate 22 0)).toArray 207)) from hsuf
 have hH:=((Heap.start w2).box 207 (Qdz (.slice (some p) n lc) (.slice none 0 0) (List.replicate 22 0) (List.replicate 22 0) (List.replicate 22 0))).nilRow 3 1;generalize w2.alloc (Obj.cells (Qdz (.slice (some p) n lc) (.slice none 0 0) (List.replicate 22 0) (List.replicate 22 0) (List.replicate 22 0)).toArray 207)=w3 at *;generalize w2.heap.size=g at *;apply hK;clear hK;refine VQi [5,6] fun K hK=>?_;apply hK;clear hK;refine VQi [5,6,7] fun K hK=>?_;apply hK;clear hK;refine Qab ?_;refine Qac [5,6,7] (fun m e w'=>∃ (j:Nat) (ao:Option Addr) (co:Nat),Is e [(5,.pointer (some ⟨g,0,none⟩)),(6,.int .i64 (Qa7 l j+cnt l j:Nat)),(7,.int .i64 (j+1:Nat))]/\Heap w2 [] w' [Res.row 3 1 ao (ordN l j).length co (Qag (ordN l j)),tabB g (.slice (some p) n lc) ao co (ordN l j).length (upTo (Qa7 l) (j+1)) (upTo (begS l) (j+1)) (upTo (cnt l) (j+1))]/\j<=L/\m=L - j) L ?_ ?_
 ·
  refine Qi ?_;refine ⟨0,none,0,?_,?_,by omega,rfl⟩
  ·
   rw [hc0];rfl
  rw [Qsy rfl,Qsy rfl,Qsy hc0];exact hH
 clear hH;rintro m e w4 ⟨j,ao,co,rfl,hH,hj,rfl⟩;have hcz:(Qdz (.slice (some p) n lc) (.slice ao (ordN l j).length co) (upTo (Qa7 l) (j+1)) (upTo (begS l) (j+1)) (upTo (cnt l) (j+1)))[0]? = some (.slice (some p) n lc):=rfl
 have hsv:Reads w4 ⟨g,0,none⟩ [.slice (some p) n lc]:=by
  intro q u hu;cases q with
  | zero =>
   simp at hu;subst hu;exact Qae (hH.at 1 rfl) hcz
  | succ q=>simp at hu
 have hol:=Qnr l j;rw [hn] at hol;have hol2:(ordN l j).length<=20 * 258:=Nat.le_trans hol (Nat.mul_le_mul (by omega) hl258);have hf1:=hfl j (by omega);have hp2:2 ^ j<=2 ^ 20:=Nat.pow_le_pow_right (by omega) (by omega);have hp3:2 ^ j<=1048576:=hp2;refine VQi [5,6,7,25] fun K hK=>?_;refine ⟨_,⟨rfl,hsv⟩,?_⟩;refine MemK_call Tryz.call166 ?_;refine Qi ?_;refine CallK.mk (hcl w4 (hH.rs' hr)) ?_;rintro v w5 ⟨hHl,rfl⟩;have hH2:=hH.call0 hHl;simp only [List.nil_append] at hH2;clear hH hHl hsv;refine Qi ?_;apply hK;clear hK;refine VD (fun h=>?_) (fun h=>?_)
 ·
  have hj2:j+1<=L:=by omega
  have hf2:=hfl (j+1) (by omega);have hp4:2 ^ (j+1)<=2 ^ 20:=Nat.pow_le_pow_right (by omega) (by omega);have hp5:2 ^ (j+1)<=1048576:=hp4;have hfs:Qa7 l (j+1)=(Qa7 l j+cnt l j) * 2:=by rw [Qa7,Nat.mul_comm]
  have hbs:begS l (j+1)=(ordN l j).length:=by rw [begS,Nat.add_sub_cancel]
  have hsF:=Qsx (Qa7 l) (j+1) (by omega);have hsB:=Qsx (begS l) (j+1) (by omega);have hsC:=Qsx (cnt l) (j+1) (by omega);have lF:=Qhh (Qa7 l) (j+1);have lB:=Qhh (begS l) (j+1);have lC:=Qhh (cnt l) (j+1);have lF2:=Qhh (Qa7 l) (j+1+1);have lB2:=Qhh (begS l) (j+1+1);have hcnt:(idxN l (j+1) n).length=cnt l (j+1):=by rw [cnt,idxs,hn]
  have hoS:ordN l (j+1)=ordN l j++idxN l (j+1) n:=by rw [ordN,idxs,hn]
  generalize hFF:upTo (Qa7 l) (j+1)=F at *;generalize hBB:upTo (begS l) (j+1)=Bg at *;generalize hCC:upTo (cnt l) (j+1)=C at *;generalize hO:ordN l j=O at *;refine VC_skip ?_
  ((repeat refine Qar ?_);refine Qab ?_)
  refine VQi [5,6,7] fun K hK=>?_;rw [show shN IntKind.i64 1=1 from rfl,show (((Qa7 l j+cnt l j:Nat):Int) * 2 ^ 1)=((Qa7 l (j+1):Nat):Int) by rw [hfs];push_cast;rfl];(repeat first | refine Qo ?_ | refine ⟨⟨by omega,by omega⟩,?_⟩);apply hK;clear hK;(repeat refine Qar ?_);refine Ql5 [5,6,7] [(0,0),(1,0),(2,0),(3,0),(4,0),(5,0),(6,0),(7,0),(10,0),(11,0),(14,0),(15,0),(8,1),(9,0),(12,0),(13,2),(16,0),(17,2)] (by kernel_rfl) (by kernel_rfl) (by kernel_rfl) (by simp only [Qa6,List.map_cons,List.map_nil,beq_self_eq_true,Nat.reduceBEq,List.filterMap_cons,List.filterMap_nil,List.getElem?_cons_succ,List.getElem?_cons_zero,Option.map_some];rfl) fun K hK=>?_;refine Qi ?_;refine ⟨_,Qae (hH2.at 1 rfl) (show (Qdz (.slice (some p) n lc) (.slice ao O.length co) F Bg C)[1]? = some _ from rfl),?_⟩;refine Qi ?_;refine ⟨⟨by omega,by omega⟩,?_⟩;refine MemK_store ?_;refine Qi ?_;refine Qyc hH2 1 (n:=j+1) rfl lF lB lC (by omega) fun w6 hH3=>?_;simp only [List.set_cons_succ,List.set_cons_zero,hsF] at hH3;refine ⟨⟨by omega,by omega⟩,?_⟩;refine MemK_store ?_;refine Qi ?_;rw [<- hbs];refine Qyd hH3 1 (n:=j+1) rfl lF2 lB lC (by omega) fun w7 hH4=>?_;simp only [List.set_cons_succ,List.set_cons_zero,hsB] at hH4;clear hH2 hH3;apply hK;clear hK;refine VQi [5,6,7,50,51,52] fun K hK=>?_;refine ⟨_,Qae (hH4.at 1 rfl) (show (Qdz (.slice (some p) n lc) (.slice ao (begS l (j+1)) co) (upTo (Qa7 l) (j+1+1)) (upTo (begS l) (j+1+1)) C)[0]? = some _ from rfl),?_⟩;refine Qi ?_;apply hK;clear hK;refine Qab ?_;refine Qac [5,6,7,50,51,52] (fun m e w'=>∃ (i:Nat) (ao:Option Addr) (co:Nat),Is e [(5,.pointer (some ⟨g,0,none⟩)),(6,.int .i64 (Qa7 l (j+1)+(idxN l (j+1) i).length:Nat)),(7,.int .i64 (j+1:Nat)),(50,.slice (some p) n lc),(51,.int .i64 n),(52,.int .i64 i)]/\Heap w2 [] w' [Res.row 3 1 ao (O++idxN l (j+1) i).length co (Qag (O++idxN l (j+1) i)),tabB g (.slice (some p) n lc) ao co (O++idxN l (j+1) i).length (upTo (Qa7 l) (j+1+1)) (upTo (begS l) (j+1+1)) (C.set (j+1) (idxN l (j+1) i).length)]/\i<=n/\m=n - i) n ?_ ?_
  ·
   refine Qi ?_;have e0:idxN l (j+1) 0=[]:=rfl;refine ⟨0,ao,co,rfl,?_,by omega,rfl⟩
   have hcs:C.set (j+1) (idxN l (j+1) 0).length=C:=by
    rw [e0,List.length_nil];apply List.ext_getElem
    ·
     simp
    intro q h1 h2;rw [List.getElem_set];split
    ·
     rename_i e;subst e;have:=QAc (cnt l) (n:=j+1) (j:=j+1) (by omega);rw [hCC,if_neg (by omega),List.getD_eq_getElem?_getD,List.getElem?_eq_getElem h2] at this;exact this.symm
    rfl
   rw [hcs,e0,List.append_nil];exact hH4
  clear hH4;rintro m e w8 ⟨i,ao,co,rfl,hH,hi,rfl⟩;refine VQi [5,6,7,50,51,52,53] fun K hK=>?_;apply hK;clear hK;(repeat refine Qar ?_);refine VD (fun h=>?_) (fun h=>?_)
  ·
   have hcell:=Qbk (hH.rs' hr) (i:=i) (by omega);have hix:=Qhw l (j+1) i;have hil:=Qz5 l (j+1) i;have hlC:(C.set (j+1) (idxN l (j+1) i).length).length=22:=by rw [List.length_set];exact lC
   have hgC:(C.set (j+1) (idxN l (j+1) i).length).getD (j+1) 0=(idxN l (j+1) i).length:=Qcx (by omega);have hset:∀ x,(C.set (j+1) (idxN l (j+1) i).length).set (j+1) x=C.set (j+1) x:=fun x=>List.set_set _;generalize hx:l.getD i 0=x at *;generalize hI:idxN l (j+1) i=I at *;refine VC_skip ?_
   ((repeat refine Qar ?_);refine Qab ?_)
   refine VQi [5,6,7,8,9,50,51,52] fun K hK=>?_;refine ⟨⟨by omega,by omega⟩,_,hcell,?_⟩;apply hK;clear hK;refine VQi [5,6,7,8,50,51,52,59] fun K hK=>?_;apply hK;clear hK;refine VD (fun h=>?_) (fun h=>?_)
   ·
    rw [if_pos (by omega)] at hix;refine VQi [5,6,7,50,51,52] fun K hK=>?_;refine ⟨_,Qae (hH.at 1 rfl) (show (Qdz (.slice (some p) n lc) (.slice ao (O++I).length co) (upTo (Qa7 l) (j+1+1)) (upTo (begS l) (j+1+1)) (C.set (j+1) I.length))[1]? = some _ from rfl),?_⟩;refine Qb4 (xs:=[.tmp 65]) Tryz.underlying36 sz3 rfl rfl rfl (by omega) ?_;refine Qi ?_;refine ⟨by simp [Value.cells],?_⟩;refine Qai ?_;refine Qi ?_;refine Qid hH 0 (i) rfl Tryz.underlying36 zi3 (by first | rfl | (simp;done) | omega | (simp;omega)) (fun h=>by (first | omega | (simp;done) | (simp;omega))) fun a' cap' w5 hc' hH5=>?_;(try refine Qi ?_);simp only [List.set_cons_zero] at hH5;rw [List.append_assoc,<- hix] at hH5 ⊢;refine MemK_store ?_;refine Qi ?_;refine Qyf hH5 1 rfl lF2 lB2 hlC fun w9 hH6=>?_;simp only [List.set_cons_succ,List.set_cons_zero] at hH6;clear hH5;apply hK;clear hK;have hcc:=QAb (sv:=.slice (some p) n lc) (ov:=.slice a' (O++idxN l (j+1) (i+1)).length cap') lF2 lB2 hlC (n:=j+1) (by omega);rw [hgC] at hcc;(repeat refine Qar ?_);refine Qjn [5,6,7,50,51,52] 10 (by kernel_rfl) (by kernel_rfl) (by kernel_rfl) rfl fun K hK=>?_;refine Qi ?_;refine ⟨⟨by omega,by omega⟩,_,Qae (hH6.at 1 rfl) hcc,?_⟩;refine Qi ?_;refine ⟨I64.mk (by omega) (by omega),⟨by omega,by omega⟩,?_⟩;refine MemK_store ?_;refine Qi ?_;refine Qye hH6 1 (n:=j+1) (x:=I.length+1) rfl lF2 lB2 hlC (by omega) fun w10 hH7=>?_;simp only [List.set_cons_succ,List.set_cons_zero,hset] at hH7;apply hK;clear hK;refine VQi [5,6,7,50,51,52] fun K hK=>?_;(repeat refine Qo ?_);apply hK;clear hK;refine Qah ?_;refine VQi [5,6,7,50,51,52] fun K hK=>?_;(repeat refine Qo ?_);apply hK;clear hK;refine Qaa ?_;refine Qi ?_;have hil2:(idxN l (j+1) (i+1)).length=I.length+1:=by rw [hix];simp
    refine ⟨n - (i+1),by omega,i+1,a',cap',?_,?_,by omega,rfl⟩
    ·
     rw [hil2];rfl
    rw [hil2];exact hH7
   rw [if_neg (by omega),List.append_nil] at hix;refine VC_skip ?_;refine Qah ?_;refine VQi [5,6,7,50,51,52] fun K hK=>?_;(repeat refine Qo ?_);apply hK;clear hK;refine Qaa ?_;refine Qi ?_;exact ⟨n - (i+1),by omega,i+1,ao,co,by rw [hix];rfl,by rw [hix];exact hH,by omega,rfl⟩
  obtain rfl:i=n:=by omega
  rw [hcnt,hsC,<- hoS] at hH;refine Qad rfl ?_;refine Qah ?_;rw [hcnt];refine VQi [5,6,7] fun K hK=>?_;(repeat refine Qo ?_);apply hK;clear hK;refine Qaa ?_;refine Qi ?_;exact ⟨L - (j+1),by omega,j+1,ao,co,rfl,hH,by omega,rfl⟩
 obtain rfl:j=L:=by omega
 refine Qad rfl ?_;refine VQi [2,3] fun K hK=>?_;apply hK;clear hK;exact VC_ret (Qat rfl rfl rfl ⟨g,ao,co,hH2.perm (List.Perm.swap _ _ _),rfl⟩)
def Qc4 (l:List Nat):List Nat:=(List.range l.length).map (Qep l)
theorem Qmj (l:List Nat):(Qc4 l).length=l.length:=by simp [Qc4]
theorem QE0 {g n lc:Nat}{p:Addr}{ao:Option Addr}{co:Nat}{l:List Nat}{w:World} (h:(tabR g (.slice (some p) n lc) ao co l).holds w) {k:Nat} (hk:k<=maxL l) (hL:maxL l<=20) :
  w.cell? ⟨g,2+k,none⟩=some (.int .i64 (Qa7 l k:Nat))/\w.cell? ⟨g,24+k,none⟩=some (.int .i64 (begS l k:Nat))/\w.cell? ⟨g,46+k,none⟩=some (.int .i64 (cnt l k:Nat)):=by
 have lF:=Qhh (Qa7 l) (maxL l+1);have lB:=Qhh (begS l) (maxL l+1);have lC:=Qhh (cnt l) (maxL l+1);have h1:=QIg (sv:=.slice (some p) n lc) (ov:=.slice ao (ordN l (maxL l)).length co) (Bg:=upTo (begS l) (maxL l+1)) (C:=upTo (cnt l) (maxL l+1)) lF (n:=k) (by omega);have h2:=QIh (sv:=.slice (some p) n lc) (ov:=.slice ao (ordN l (maxL l)).length co) (C:=upTo (cnt l) (maxL l+1)) lF lB (n:=k) (by omega);have h3:=QAb (sv:=.slice (some p) n lc) (ov:=.slice ao (ordN l (maxL l)).length co) lF lB lC (n:=k) (by omega);rw [QAc _ (by omega),if_pos (by omega)] at h1 h2 h3;exact ⟨Qae h h1,Qae h h2,Qae h h3⟩
theorem Qve {g n lc:Nat}{p:Addr}{ao:Option Addr}{co:Nat}{l:List Nat}{w:World} (h:(tabR g (.slice (some p) n lc) ao co l).holds w):w.cell? ⟨g,0,none⟩=some (.slice (some p) n lc)/\w.cell? ⟨g,1,none⟩=some (.slice ao (ordN l (maxL l)).length co)/\Reads w ⟨g,0,none⟩ [.slice (some p) n lc]:=by
 have h0:w.cell? ⟨g,0,none⟩=some (.slice (some p) n lc):=Qae h (k:=0) rfl;refine ⟨h0,Qae h (k:=1) rfl,fun q u hu=>?_⟩;cases q with
 | zero=>simp at hu;subst hu;exact h0
 | succ q=>simp at hu
theorem Qvf (l:List Nat) (hok:okL l) (g:Nat) (p:Addr) (lc:Nat) (ao:Option Addr) (co:Nat) (w0 w:World) (G:List Res) (hr:RS w0 (some p) l.length 1 (Qag l)) (hL:Heap w0 [] w (tabR g (.slice (some p) l.length lc) ao co l::ordR ao co l::G)) :
  Does Tryz.prog 136 #[.pointer (some ⟨g,0,none⟩)] w fun v w'=>∃ a cap,Heap w0 [] w' (Res.row 3 1 a (Qc4 l).length cap (Qag (Qc4 l))::tabR g (.slice (some p) l.length lc) ao co l::ordR ao co l::G)/\v=.slice a (Qc4 l).length cap:=by
 obtain ⟨hL1,hL20⟩:=Qns hok;have hat:=fun i hi=>Qmw hok (i:=i) hi;have hfl:=fun n hn=>Qjt hok (n:=n) hn
 have hbl:∀ n,n<=20->begS l n<=5160:=fun n hn=>by
  have:=Qnr l (n - 1);have h2:=Nat.mul_le_mul (show n - 1<=20 by omega) hok.2.1;unfold begS;omega
 obtain ⟨hl2,hl258,hin,_⟩:=id hok;refine En [.pointer (some ⟨g,0,none⟩)] 52 Tryz.func136 ?_;have hcl:=Qmj l;generalize hn:l.length=n at *;refine VS [0] ?_;refine VQ [0,3] fun K hK=>?_;refine ⟨_,(Qve (hL.at 0 rfl)).1,?_⟩;refine Qs ?_;refine Qba Tryz.underlying36 zi3 ?_;refine Qs ?_;refine ⟨n,n,⟨rfl,rfl,by omega,by omega,by omega⟩,?_⟩;have hH:=hL.row 3 (n:=n) (cap:=n) (sz:=1) (Qag (List.replicate n 0)) [] (by simp [Qaj]) (by simp [Qaj]) (by omega) (by omega);have er:Qag (List.replicate n 0)=List.replicate n (.int .i64 0):=by simp [Qag]
 rw [List.append_nil,er] at hH;generalize w.alloc (Obj.cells (List.replicate n (Value.int IntKind.i64 0)).toArray 3)=w1 at *;generalize w.heap.size=gu at *;rw [<- er] at hH;clear hL;apply hK;clear hK;refine VQ [0,3,17,18,19] fun K hK=>?_;refine ⟨_,(Qve (hH.at 1 rfl)).2.1,?_⟩;refine Qs ?_;apply hK;clear hK;have hol:=Qnr l (maxL l)
 have hol2:(ordN l (maxL l)).length<=5160:=by
  have h2:=Nat.mul_le_mul hL20 hl258;rw [hn] at hol;omega
 generalize hoL:(ordN l (maxL l)).length=oL at *;refine Qab ?_;refine Qac [0,3,17,18,19] (fun m e w'=>∃ (k:Nat) (O:List Nat),Is e [(0,.pointer (some ⟨g,0,none⟩)),(3,.slice (some ⟨gu,0,none⟩) n n),(17,.slice ao oL co),(18,.int .i64 oL),(19,.int .i64 k)]/\Heap w0 [] w' (Res.row 3 1 (some ⟨gu,0,none⟩) n n (Qag O)::tabR g (.slice (some p) n lc) ao co l::ordR ao co l::G)/\O.length=n/\(∀ j,j < k->O.getD ((ordN l (maxL l)).getD j 0) 0=Qep l ((ordN l (maxL l)).getD j 0))/\k<=oL/\m=oL - k) oL ?_ ?_
 ·
  refine Qs ?_;exact ⟨0,_,rfl,hH,by simp,fun j hj=>by omega,by omega,rfl⟩
 clear hH;rintro m e w2 ⟨k,O,rfl,hH,hOl,hO,hk,rfl⟩;refine VS [0,3,17,18,19,20] ?_;(repeat refine Qar ?_);refine VD (fun h=>?_) (fun h=>?_)
 ·
  have hkL:k < (ordN l (maxL l)).length:=by omega
  obtain ⟨go,rfl⟩:=Qdu (hH.at 2 rfl) (by omega);have hcell:=Qaw (hH.at 2 rfl) (Qbw hkL);obtain ⟨h1,h2,h3⟩:=Qya l (maxL l) k hkL;have hcode:=QEz hkL rfl;rw [hn] at h1;have hti:=hat _ (by rw [hn] at *;exact h1);have hco:=(Qld hok (by rw [hn] at *;exact h1)).2.2;generalize hi:(ordN l (maxL l)).getD k 0=i at *;have hle:l.getD i 0<=maxL l:=Qib.1 (Nat.le_refl _) _ (Qaz 0 (by omega));obtain ⟨c1,c2,c3⟩:=QE0 (hH.at 1 rfl) hle hL20;have csv:=Qve (hH.at 1 rfl);have hcx:=Qbk (hH.rs' hr) (i:=i) (by omega);have hff:=hfl (l.getD i 0) hti.2;have hbb:=hbl (l.getD i 0) hti.2;have hp2:2 ^ (l.getD i 0)<=2 ^ 20:=Nat.pow_le_pow_right (by omega) hti.2;have hp3:2 ^ (l.getD i 0)<=1048576:=hp2;generalize hx:l.getD i 0=x at *;refine VC_skip ?_;refine VB ?_;refine VQ [0,3,4,5,17,18,19] fun K hK=>?_;refine ⟨⟨by omega,by omega⟩,_,hcell,?_⟩;apply hK;clear hK;refine VQ [0,3,4,5,6,17,18,19] fun K hK=>?_;refine ⟨_,csv.1,?_⟩;refine Qs ?_;refine ⟨⟨by omega,by omega⟩,_,hcx,?_⟩;apply hK;clear hK;refine VL [0,3,17,18,19] 18 fun K hK=>?_;refine ⟨⟨by omega,by omega⟩,_,c1,?_⟩;refine Qs ?_;refine ⟨I64.mk (by omega) (by omega),⟨by omega,by omega⟩,_,c2,?_⟩;refine Qs ?_;refine ⟨I64.mk (by omega) (by omega),⟨by omega,by omega⟩,?_⟩;rw [show ((Qa7 l x:Nat):Int)+k - (begS l x:Nat)=((Qep l i:Nat):Int) by omega];refine MemK_store ?_;refine Qs ?_;refine Qas hH 0 (o:=(i)) (vs:=[.int .i64 (Qep l i:Nat)]) rfl (by first | exact (Qa8 _ _ _).symm | rfl | simp [Qa8]) rfl (by kernel_rfl) (by first | omega | (simp;done) | (simp;omega) | (simp [Qan,Qap];omega) | (rw [Qaj];simp;omega)) (by simp [Value.oneCell']) fun w6 hH2=>?_;(try refine Qs ?_);simp only [List.length_singleton,Qb2 (Qag O) _ _ (show i < (Qag O).length by rw [Qaj,hOl];omega),Qca,List.set_cons_zero] at hH2;apply hK;clear hK;refine Qah ?_;refine VS [0,3,17,18,19] ?_;refine Qaa ?_;refine Qs ?_;refine ⟨oL - (k+1),by omega,k+1,_,rfl,hH2,by simp [hOl],fun j hj=>?_,by omega,rfl⟩;by_cases e:(ordN l (maxL l)).getD j 0=i
  ·
   rw [e,Qcx (by omega)]
  rw [Qcz (fun e2=>e e2.symm)];have:j≠k:=fun e2=>e (by rw [e2];exact hi);exact hO j (by omega)
 have hfin:O=Qc4 l:=by
  apply List.ext_getElem
  ·
   rw [hOl,hcl]
  intro i h1 h2;have hi:i < l.length:=by omega
  have hm:=QAa hi (hat i (by omega)).1 (maxL l) (Qib.1 (Nat.le_refl _) _ (Qaz 0 hi));obtain ⟨j,hj,e⟩:=List.getElem_of_mem hm;have e2:(ordN l (maxL l)).getD j 0=i:=by rw [List.getD_eq_getElem?_getD,List.getElem?_eq_getElem hj];exact e
  have:=hO j (by omega);rw [e2,List.getD_eq_getElem?_getD,List.getElem?_eq_getElem h1] at this;simp only [Qc4,List.getElem_map,List.getElem_range];exact this
 refine Qad rfl ?_;refine VS [2] ?_;refine VC_ret (VX_ret1 rfl rfl ⟨some ⟨gu,0,none⟩,n,?_,by rw [hcl]⟩);rw [hcl,<- hfin];exact hH
theorem Qnh (l:List Nat) (hok:okL l) (a:Option Addr) (lc:Nat) (w:World) (hr:RS w a l.length 1 (Qag l)) :
  Does Tryz.prog 84 #[.slice a l.length lc] w fun v w'=>∃ a' cap,Heap w [] w' [Res.row 3 1 a' (Qc4 l).length cap (Qag (Qc4 l))]/\v=.tuple #[.slice a' (Qc4 l).length cap,.int .i64 0]:=by
 have hl2:=hok.1;obtain ⟨p,rfl⟩:=Qbb hr (by omega);refine En [.slice (some p) l.length lc] 16 Tryz.func84 ?_;refine VS [0] ?_;refine VQ [4,5] fun K hK=>?_;refine MemK_call Tryz.call135 ?_;refine Qs ?_;refine CallK.mk (Qvd l hok (some p) lc w hr) ?_;rintro v w2 ⟨g,ao,co,hH,rfl⟩;apply hK;clear hK;refine VS [4,5,12] ?_;refine Qaf rfl rfl (fun h=>by simp at h) (fun h=>VC_skip ?_);refine VQ [2,3] fun K hK=>?_;refine MemK_call Tryz.call136 ?_;refine Qs ?_;refine CallK.mk (Qvf l hok g p lc ao co w w2 [] hr hH) ?_;rintro v w3 ⟨a',cap,hH2,rfl⟩;apply hK;clear hK;exact VC_ret (Qat rfl rfl rfl ⟨a',cap,hH2.sub (by simp),rfl⟩)
def begC (l:List Nat) (c k m:Nat):Bool:=decide (k < m) && decide (0 < cnt l m) && decide (c * 2 ^ (m - k) < Qa7 l m+cnt l m)
theorem QE1 {l:List Nat}{c k:Nat} (hL:maxL l<=20):begP l c k=true ↔ ∃ m,k < m/\m<=maxL l/\begC l c k m=true:=by
 unfold begP;rw [List.any_eq_true];constructor
 ·
  rintro ⟨m,hm,h⟩;refine ⟨m,?_,?_,h⟩
  ·
   simp only [Bool.and_eq_true,decide_eq_true_eq] at h;exact h.1.1
  rcases Nat.lt_or_ge (maxL l) m with h2 | h2
  ·
   have:=QIf h2;simp [this] at h
  exact h2
 rintro ⟨m,h1,h2,h3⟩;exact ⟨m,List.mem_range.2 (by omega),h3⟩
theorem Qyg (l:List Nat) (hok:okL l) (c k:Nat) (hc:c<=2097152) (hk:k<=20) (g:Nat) (p:Addr) (lc:Nat) (ao:Option Addr) (co i:Nat) (w0 w:World) (G:List Res) (hr:RS w0 (some p) l.length 1 (Qag l)) (hL:Heap w0 [] w G) (hi:G[i]? = some (tabR g (.slice (some p) l.length lc) ao co l)) :
  Does Tryz.prog 175 #[.pointer (some ⟨g,0,none⟩),.int .i64 c,.int .i64 k] w fun v w'=>Heap w0 [] w' G/\v=.bool (begP l c k):=by
 obtain ⟨hL1,hL20⟩:=Qns hok;have hfl:=fun n hn=>Qjt hok (n:=n) hn;have hbp:=QE1 (l:=l) (c:=c) (k:=k) hL20;obtain ⟨hl2,hl258,hin,_⟩:=hok;have hcl:=Qm1 l (by omega) (some p) lc;refine En [.pointer (some ⟨g,0,none⟩),.int .i64 c,.int .i64 k] 47 Tryz.func175 ?_;generalize hres:begP l c k=res at *;generalize hn:l.length=n at *;refine VS [0,1,2] ?_;refine VS [0,1,2,7] ?_;refine Qab ?_;refine Qac [0,1,2,7] (fun m e w'=>∃ (j:Nat),Is e [(0,.pointer (some ⟨g,0,none⟩)),(1,.int .i64 c),(2,.int .i64 k),(7,.int .i64 (j+1:Nat))]/\Heap w0 [] w' G/\k<=j/\j<=20/\(∀ m',k < m'->m'<=j->begC l c k m'=false)/\m=21 - j) (21 - k) ?_ ?_
 ·
  refine Qs ?_;exact ⟨k,rfl,hL,by omega,by omega,fun m' h1 h2=>by omega,rfl⟩
 clear hL;rintro m e w1 ⟨j,rfl,hH,hkj,hj20,hno,rfl⟩;have hsv:=Qve (hH.at i hi);refine VQ [0,1,2,7,16] fun K hK=>?_;refine ⟨_,⟨rfl,hsv.2.2⟩,?_⟩;refine MemK_call Tryz.call166 ?_;refine Qs ?_;refine CallK.mk (hcl w1 (hH.rs' hr)) ?_;rintro v w2 ⟨hHl,rfl⟩;have hH2:=hH.call0 hHl;simp only [List.nil_append] at hH2;clear hH hHl hsv;refine Qs ?_;apply hK;clear hK;refine VD (fun h=>?_) (fun h=>?_)
 ·
  have hj2:j+1<=maxL l:=by omega
  obtain ⟨c1,c2,c3⟩:=QE0 (hH2.at i hi) hj2 hL20;have hff:=hfl (j+1) (by omega);have hp2:2 ^ (j+1)<=2 ^ 20:=Nat.pow_le_pow_right (by omega) (by omega);have hp3:2 ^ (j+1)<=1048576:=hp2;have hp4:2 ^ (j+1 - k)<=2 ^ 20:=Nat.pow_le_pow_right (by omega) (by omega);have hp5:2 ^ (j+1 - k)<=1048576:=hp4;have hmul:c * 2 ^ (j+1 - k)<=2097152 * 1048576:=Nat.mul_le_mul hc hp5;have hsh:shN IntKind.i64 ((j+1:Nat) - (k:Int))=j+1 - k:=Qqr (by omega) (by simp [IntKind.bits];omega);have hbc:begC l c k (j+1)=(decide (k < j+1) && decide (0 < cnt l (j+1)) && decide (c * 2 ^ (j+1 - k) < Qa7 l (j+1)+cnt l (j+1))):=rfl;rw [decide_eq_true (show k < j+1 by omega),Bool.true_and] at hbc;have hsc:=Qni c (j+1 - k);refine VC_skip ?_;refine VB ?_;refine Vq [0,1,2,7,46] fun K hK=>?_;refine ⟨⟨by omega,by omega⟩,_,c3,?_⟩;refine Qs ?_;rw [hsh,hsc];clear hsc hsh hp2 hp4;generalize c * 2 ^ (j+1 - k)=q at *
  suffices out:K [(0,.pointer (some ⟨g,0,none⟩)),(1,.int .i64 c),(2,.int .i64 k),(7,.int .i64 (j+1:Nat)),(46,.bool (begC l c k (j+1)))] by
   refine ⟨fun h2=>?_,fun h2=>?_⟩
   ·
    rw [decide_eq_true (show 0 < cnt l (j+1) by omega),Bool.true_and] at hbc;refine ⟨I64.mk (by omega) (by omega),by omega,I64.mk (by omega) (by omega),⟨by omega,by omega⟩,_,c1,?_⟩;refine ⟨⟨by omega,by omega⟩,_,c3,?_⟩;refine Qs ?_;refine ⟨I64.mk (by omega) (by omega),?_⟩;rw [show decide (((q:Nat):Int) < ((Qa7 l (j+1):Nat):Int)+((cnt l (j+1):Nat):Int))=begC l c k (j+1) by rw [hbc];exact decide_eq_decide.2 (by omega)];exact out
   rw [decide_eq_false (show ¬ 0 < cnt l (j+1) by omega),Bool.false_and] at hbc;rw [hbc] at out;exact out
  apply hK;clear hK;refine Vi (fun h=>?_) (fun h=>VC_skip ?_)
  ·
   have:res=true:=hbp.2 ⟨j+1,by omega,hj2,h⟩;subst this;refine VS [6] ?_;exact VC_ret (VX_ret1 rfl rfl ⟨hH2,rfl⟩)
  refine Qah ?_;refine VS [0,1,2,7] ?_;refine Qaa ?_;refine Qs ?_;refine ⟨21 - (j+1),by omega,j+1,rfl,hH2,by omega,by omega,fun m' h1 h2=>?_,rfl⟩;by_cases e:m'=j+1
  ·
   rw [e];exact h
  exact hno m' h1 (by omega)
 have:res=false:=by
  rw [Bool.eq_false_iff];intro h2;obtain ⟨m',h3,h4,h5⟩:=hbp.1 h2;have:=hno m' h3 (by omega);rw [this] at h5;cases h5
 subst this;refine Qad rfl ?_;refine VS [6] ?_;exact VC_ret (VX_ret1 rfl rfl ⟨hH2,rfl⟩)
theorem QE2 (l:List Nat) (hok:okL l) (s:List UInt8) (gr gs at_:Nat) (hat:at_<=8 * s.length) (hs:s.length<=100000000000000) (g:Nat) (p:Addr) (lc:Nat) (ao:Option Addr) (co:Nat) (w0 w:World) (G:List Res) (hr:RS w0 (some p) l.length 1 (Qag l)) (hL:Heap w0 [] w (rd gr gs s at_::tabR g (.slice (some p) l.length lc) ao co l::ordR ao co l::G)) :
  Does Tryz.prog 150 #[.pointer (some ⟨g,0,none⟩),.pointer (some ⟨gr,0,none⟩)] w fun v w'=>match Qjd l (Qam s) at_ with
   | .ok q=>Heap w0 [] w' (rd gr gs s q.2::tabR g (.slice (some p) l.length lc) ao co l::ordR ao co l::G)/\q.2<=8 * s.length/\at_ < q.2/\v=.tuple #[.int .i64 q.1,.int .i64 0]
   | .error e=>Heap w0 [] w' []/\e≠0/\v=.tuple #[.int .i64 0,.int .i64 e]:=by
 obtain ⟨hL1,hL20⟩:=Qns hok;have hfl:=fun n hn=>Qjt hok (n:=n) hn;have hbp:=fun c k=>QE1 (l:=l) (c:=c) (k:=k) hL20;have hbl:=Qbd s;refine En [.pointer (some ⟨g,0,none⟩),.pointer (some ⟨gr,0,none⟩)] 74 Tryz.func150 ?_;generalize hres:Qjd l (Qam s) at_=res;generalize hbits:Qam s=bits at *;unfold Qjd at hres;refine VS [0,1] ?_;refine VS [0,1,6] ?_;refine VS [0,1,6,7] ?_;refine Qab ?_;refine Qac [0,1,6,7] (fun m e w'=>∃ (j c:Nat),Is e [(0,.pointer (some ⟨g,0,none⟩)),(1,.pointer (some ⟨gr,0,none⟩)),(6,.int .i64 c),(7,.int .i64 (j+1:Nat))]/\Heap w0 [] w' (rd gr gs s (at_+j)::tabR g (.slice (some p) l.length lc) ao co l::ordR ao co l::G)/\at_+j<=8 * s.length/\j+1<=maxL l/\c < 2 ^ j/\Qa7 l j+cnt l j<=c/\(match Qg7 l (bits.drop (at_+j)) j c with | .ok q=>.ok (q.1,at_+q.2) | .error e=>.error e)=res/\m=21 - j) 21 ?_ ?_
 ·
  refine Qs ?_;have hc0:cnt l 0=0:=Qlc fun x hx=>(hok.2.2.1 x hx).1;refine ⟨0,0,rfl,hL,by omega,by omega,by simp,by rw [hc0];simp [Qa7],?_,rfl⟩;rw [<- hres,Nat.add_zero];cases Qg7 l (bits.drop at_) 0 0 <;> rfl
 clear hL hres;rintro m e w1 ⟨j,c,rfl,hH,hp,hj,hc,hfc,hres,rfl⟩;refine VB ?_;refine VQ [0,1,6,7,8,9] fun K hK=>?_;refine MemK_call Tryz.call87 ?_;refine Qs ?_;refine CallK.mk (Qe5 gr gs s (at_+j) 1 w1 (by omega) hp (by omega) (hH.focus 0 rfl)) ?_;rintro v w2 (⟨h1,rfl,rfl⟩ | ⟨h1,hH2,rfl⟩)
 ·
  rw [List.drop_of_length_le (by omega),Qg7] at hres;subst hres;apply hK;clear hK;refine VS [0,1,6,7,8,9,19] ?_;refine Qaf rfl rfl (fun h=>?_) (fun h=>by cases h);refine VS [4,5] ?_;exact VC_ret (Qat rfl rfl rfl ⟨hH.sub (by simp),by decide,rfl⟩)
 have hH3:=hH.call1 0 rfl hH2;simp only [List.set_cons_zero,List.nil_append] at hH3;clear hH hH2;have hdp:bits.drop (at_+j)=bits.getD (at_+j) false::bits.drop (at_+j+1):=drop_getD false (by omega);have hnum:numB ((bits.drop (at_+j)).take 1)=(bits.getD (at_+j) false).toNat:=by rw [hdp];cases bits.getD (at_+j) false <;> rfl
 rw [hbits,hnum];rw [hdp,Qg7] at hres;generalize bits.getD (at_+j) false=b at *;have hb1:b.toNat<=1:=by cases b <;> simp
 apply hK;clear hK;refine VS [0,1,6,7,8,9,19] ?_;refine Qaf rfl rfl (fun h=>by cases h) (fun h=>VC_skip ?_);clear h;have hj20:j+1<=20:=by omega
 have hpj:2 ^ j<=2 ^ 19:=Nat.pow_le_pow_right (by omega) (by omega);have hpj2:2 ^ j<=524288:=hpj;have hps:2 ^ (j+1)=2 * 2 ^ j:=by rw [Nat.pow_succ,Nat.mul_comm]
 have hor:(c * 2) ||| b.toNat=2 * c+b.toNat:=by
  have h3:(2 ^ 1 * c) ||| b.toNat=2 ^ 1 * c+b.toNat:=(Nat.two_pow_add_eq_or_of_lt (i:=1) (by omega) c).symm
  rw [Nat.mul_comm c 2];exact h3
 have hfs:Qa7 l (j+1)=2 * (Qa7 l j+cnt l j):=rfl;have hffl:=hfl (j+1) hj20;refine VQ [0,1,6,7] fun K hK=>?_;rw [show shN IntKind.i64 1=1 from rfl,show ((c:Int) * 2 ^ 1)=((c * 2:Nat):Int) by push_cast;rfl];(repeat first | refine Qo ?_ | refine Qp ?_);rw [Int.toNat_natCast,hor];generalize hc2:2 * c+b.toNat=c2 at *;apply hK;clear hK;obtain ⟨c1,c2',c3⟩:=QE0 (hH3.at 1 rfl) hj hL20;have csv:=Qve (hH3.at 1 rfl);refine VQ [0,1,6,7,10] fun K hK=>?_;refine ⟨⟨by omega,by omega⟩,_,c1,?_⟩;refine Qs ?_;refine ⟨I64.mk (by omega) (by omega),?_⟩;apply hK;clear hK;refine VQ [0,1,6,7,10,54] fun K hK=>?_
 suffices out:∀ bb:Bool,(bb=true ↔ (Qa7 l (j+1)<=c2/\c2 < Qa7 l (j+1)+cnt l (j+1)))->K [(0,.pointer (some ⟨g,0,none⟩)),(1,.pointer (some ⟨gr,0,none⟩)),(6,.int .i64 c2),(7,.int .i64 (j+1:Nat)),(10,.int .i64 (((c2:Nat):Int) - (Qa7 l (j+1):Nat))),(54,.bool bb)] w2 by
  refine ⟨⟨by omega,by omega⟩,_,c3,?_⟩;refine Qs ?_;refine ⟨fun h1=>⟨fun h2=>⟨⟨by omega,by omega⟩,_,c3,?_⟩,fun h2=>out false (by simp;omega)⟩,fun h1=>out false (by simp;omega)⟩;refine Qs ?_;exact out _ (by simp;omega)
 intro bb hbb;apply hK;clear hK;refine Vi (fun h=>?_) (fun h=>VC_skip ?_)
 ·
  have hb2:=hbb.1 h;rw [if_pos hb2] at hres;subst hres;obtain ⟨s1,s2⟩:=QIe l (n:=j+1) (L:=maxL l) (j:=c2 - Qa7 l (j+1)) (by omega) hj (by omega);obtain ⟨go,rfl⟩:=Qdu (hH3.at 2 rfl) (by omega);have hcell:=Qaw (hH3.at 2 rfl) (Qbw s1);rw [s2] at hcell
  have hbl2:begS l (j+1)<=5160:=by
   have h5:=Qnr l (j+1 - 1);have h6:=Nat.mul_le_mul (show j+1 - 1<=20 by omega) hok.2.1;unfold begS;omega
  refine Vq [4,5] fun K hK=>?_;refine ⟨_,csv.2.1,?_⟩;refine ⟨⟨by omega,by omega⟩,_,c2',?_⟩;refine Qs ?_;refine ⟨I64.mk (by omega) (by omega),⟨by omega,by omega⟩,?_⟩;rw [show (((begS l (j+1):Nat):Int)+(((c2:Nat):Int) - (Qa7 l (j+1):Nat))).toNat=begS l (j+1)+(c2 - Qa7 l (j+1)) by omega];refine ⟨_,hcell,?_⟩;apply hK;clear hK;exact VC_ret (Qat rfl rfl rfl ⟨by rw [<- Nat.add_assoc];exact hH3,by simp only;omega,by simp only;omega,rfl⟩)
 have hnb:¬ (Qa7 l (j+1)<=c2/\c2 < Qa7 l (j+1)+cnt l (j+1)):=fun h2=>by have:=hbb.2 h2;simp_all
 rw [if_neg hnb] at hres;clear hbb h;refine VQ [0,1,6,7,73] fun K hK=>?_;refine MemK_call Tryz.call175 ?_;refine Qs ?_;refine CallK.mk (Qyg l hok c2 (j+1) (by omega) hj20 g p lc ao co 1 w0 w2 _ hr hH3 rfl) ?_;rintro v w3 ⟨hH4,rfl⟩;refine Qs ?_;apply hK;clear hK;refine Vi (fun h=>?_) (fun h=>VC_skip ?_)
 ·
  have h2:begP l c2 (j+1)=false:=by simpa using h
  rw [h2,if_neg (by simp)] at hres;subst hres;refine VS [4,5] ?_;exact VC_ret (Qat rfl rfl rfl ⟨hH4.sub (by simp),by decide,rfl⟩)
 have h2:begP l c2 (j+1)=true:=by simpa using h
 rw [if_pos h2] at hres;obtain ⟨m',h3,h4,h5⟩:=(hbp c2 (j+1)).1 h2;refine Qah ?_;refine VS [0,1,6,7] ?_;refine Qaa ?_;refine Qs ?_;exact ⟨21 - (j+1),by omega,j+1,c2,rfl,by rw [<- Nat.add_assoc];exact hH4,by omega,by omega,by omega,by omega,by rw [<- hres,<- Nat.add_assoc],rfl⟩
theorem QIi (l:List Nat) (hok:okL l) (s:List UInt8) (at_ n fin:Nat) (hat:at_<=8 * s.length) (hs:s.length<=100000000000000) (hn:n<=100000) (hfin:fin<=100000) (a:Option Addr) (lc:Nat) (w:World) (hr:RS w a l.length 1 (Qag l)) :
  Does Tryz.prog 104 #[.slice a l.length lc,Str s,.int .i64 at_,.int .i64 n,.int .i64 fin] w (QEv (Qeq l (Qam s) fin n at_) w):=by
 have hl2:=hok.1;obtain ⟨p,rfl⟩:=Qbb hr (by omega);refine En [.slice (some p) l.length lc,Str s,.int .i64 at_,.int .i64 n,.int .i64 fin] 59 Tryz.func104 ?_;generalize hres:Qeq l (Qam s) fin n at_=res;refine VS [0,1,2,3,4] ?_;refine VQ [1,2,3,4,13,14] fun K hK=>?_;refine MemK_call Tryz.call135 ?_;refine Qs ?_;refine CallK.mk (Qvd l hok (some p) lc w hr) ?_;rintro v w2 ⟨g,ao,co,hH,rfl⟩;apply hK;clear hK;refine VS [1,2,3,4,13,14,25] ?_;refine Qaf rfl rfl (fun h=>by simp at h) (fun h=>VC_skip ?_);clear h;refine VQ [3,4,13,15] fun K hK=>?_;refine MemK_call Tryz.call86 ?_;refine Qs ?_;refine CallK.mk (Qd4 s at_ w2 (I64.mk (by omega) (by omega)) (by omega)) ?_;rintro v w3 (⟨hbad,_⟩ | ⟨_,gr,gs,hHr,rfl⟩)
 ·
  omega
 rw [Int.toNat_natCast] at hHr;have hH2:=hH.call0 hHr;simp only [List.singleton_append] at hH2;clear hH hHr;apply hK;clear hK;refine VQ [3,4,13,15,35] fun K hK=>?_
 suffices out:∀ b:Bool,(b=true ↔ False)->K [(3,.int .i64 n),(4,.int .i64 fin),(13,.pointer (some ⟨g,0,none⟩)),(15,.pointer (some ⟨gr,0,none⟩)),(35,.bool b)] w3 by (repeat' (first | exact out _ _ (by first | omega | (simp;done) | (simp;omega)) | exact out _ (by first | omega | (simp;done) | (simp;omega)) | refine ⟨fun _=>?_,fun _=>?_⟩ | refine Qo ?_))
 intro b hb;apply hK;clear hK;refine Qaf rfl rfl (fun h=>(hb.1 h).elim) (fun h=>VC_skip ?_);clear hb h;refine VS [3,4,13,15,16] ?_;(repeat refine Qar ?_);refine Qde [15,16] (fun e w'=>∃ (q:List Nat) (to cap:Nat) (a':Option Addr),Is e [(15,.pointer (some ⟨gr,0,none⟩)),(16,.slice a' q.length cap)]/\Heap w [] w' [rd gr gs s to,Res.row 3 1 a' q.length cap (Qag q)]/\to<=8 * s.length/\res=.ok (q,to)) ?_ ?_
 ·
  refine Qab ?_;refine Qac [3,4,13,15,16] (fun m e w'=>∃ (q:List Nat) (to cap:Nat) (a':Option Addr),Is e [(3,.int .i64 n),(4,.int .i64 fin),(13,.pointer (some ⟨g,0,none⟩)),(15,.pointer (some ⟨gr,0,none⟩)),(16,.slice a' q.length cap)]/\Heap w [] w' [rd gr gs s to,tabR g (.slice (some p) l.length lc) ao co l,ordR ao co l,Res.row 3 1 a' q.length cap (Qag q)]/\to<=8 * s.length/\q.length<=n/\(match Qeq l (Qam s) fin (n - q.length) to with | .error e=>.error e | .ok x=>.ok (q++x.1,x.2))=res/\m=n - q.length) n ?_ ?_
  ·
   refine Qs ?_;have hH3:=(hH2.nilRow 3 1).perm (G':=[rd gr gs s at_,tabR g (.slice (some p) l.length lc) ao co l,ordR ao co l,Res.row 3 1 none 0 0 []]) (by exact (List.perm_append_comm (l₁:=[Res.row 3 1 none 0 0 []])));refine ⟨[],at_,0,none,rfl,hH3,hat,by simp,?_,rfl⟩;rw [<- hres,List.length_nil,Nat.sub_zero];cases Qeq l (Qam s) fin n at_ <;> rfl
  clear hH2 hres;rintro m e w4 ⟨q,to,cap,a',rfl,hH,hto,hq,hres,rfl⟩;refine VS [3,4,13,15,16,39] ?_;refine VD (fun h=>?_) (fun h=>?_)
  ·
   rw [show n - q.length=(n - (q.length+1))+1 by omega,Qeq] at hres;refine VC_skip ?_;refine Qab ?_;refine VQ [3,4,13,15,16,17,18] fun K hK=>?_;refine MemK_call Tryz.call150 ?_;refine Qs ?_;refine CallK.mk (QE2 l hok s gr gs to hto hs g p lc ao co w w4 _ hr hH) ?_;intro v w5 hnx;generalize Qjd l (Qam s) to=r at *;cases r with
   | error e =>
    obtain ⟨hH3,hne,rfl⟩:=hnx;subst hres;apply hK;clear hK;refine VS [3,4,13,15,16,17,18,47] ?_;refine Vi (fun h=>?_) (fun h=>?_)
    ·
     refine VS [10,11,12] ?_;exact VC_ret (Qd5 rfl rfl rfl rfl ⟨hH3,rfl⟩)
    simp at h;exact absurd h hne
   | ok x =>
    obtain ⟨hH3,hx1,hx2,rfl⟩:=hnx;simp only at hres;apply hK;clear hK;refine VS [3,4,13,15,16,17,18,47] ?_;refine Qaf rfl rfl (fun h=>by cases h) (fun h=>VC_skip ?_);clear h;refine VQ [3,4,13,15,16,17] fun K hK=>?_;refine Qb4 (xs:=[.tmp 50]) Tryz.underlying36 sz3 rfl rfl rfl (by omega) ?_;refine Qs ?_;refine ⟨by simp [Value.cells],?_⟩;refine Qai ?_;refine Qs ?_;refine Qid hH3 3 (x.1) rfl Tryz.underlying36 zi3 (by first | rfl | (simp;done) | omega | (simp;omega)) (fun h=>by (first | omega | (simp;done) | (simp;omega))) fun a' cap' w5 hc' hH4=>?_;(try refine Qs ?_);simp only [List.set_cons_succ,List.set_cons_zero] at hH4;apply hK;clear hK;refine VS [3,4,13,15,16,55] ?_;refine VD (fun h=>?_) (fun h=>VC_skip ?_)
    ·
     rw [if_pos (by omega)] at hres;refine Qad rfl ?_;refine Qaa ?_;refine Qs ?_;exact ⟨q++[x.1],x.2,cap',a',rfl,hH4.sub (.cons_cons _ (.cons _ (.cons _ (.refl _)))),hx1,hres.symm⟩
    rw [if_neg (by omega)] at hres;refine Qah ?_;refine Qaa ?_;refine Qs ?_;refine ⟨n - (q++[x.1]).length,by simp;omega,q++[x.1],x.2,cap',a',rfl,hH4,hx1,by simp;omega,?_,rfl⟩;rw [<- hres,show n - (q++[x.1]).length=n - (q.length+1) by simp];cases Qeq l (Qam s) fin (n - (q.length+1)) x.2 with
    | error e=>rfl
    | ok y=>simp
  rw [show n - q.length=0 by omega,Qeq] at hres;simp only [List.append_nil] at hres;refine Qad rfl ?_;refine Qaa ?_;refine Qs ?_;exact ⟨q,to,cap,a',rfl,hH.sub (.cons_cons _ (.cons _ (.cons _ (.refl _)))),hto,hres.symm⟩
 rintro e w' ⟨q,to,cap,a',rfl,hH,hto,rfl⟩;refine VQ [10,11,12] fun K hK=>?_;refine MemK_call Tryz.call100 ?_;refine Qs ?_;refine CallK.mk (Qoq gr gs to s w' (hH.at 0 rfl)) ?_;rintro v w7 ⟨rfl,rfl⟩;apply hK;clear hK;exact VC_ret (Qd5 rfl rfl rfl rfl ⟨a',cap,hH.sub (by simp),rfl⟩)
abbrev Tr:=Int×Nat
def Qbc (t:Tr):List Value:=[.int .i64 t.1,.int .i64 t.2]
theorem Qfk (t:Tr):(Qbc t).length=2:=rfl
theorem Qdo (t:Tr):∀ v∈Qbc t,v.oneCell'=true:=by
 intro v hv;simp [Qbc] at hv;rcases hv with rfl | rfl <;> rfl
def Qe7 (l:List Tr):List Value:=Qdq Qbc l
def cmpT (a b:Tr):Int:=if a.1=b.1 then (a.2:Int) - b.2 else a.1 - b.1
theorem Qyh (a b:Tr) (xo yo:Operand) (w:World) (KV:Value->Prop):Qby Tryz.prog .eql 200 xo yo (.agg (Qbc a).toArray) (.agg (Qbc b).toArray) w KV=KV (.bool (decide (a=b))):=by
 refine Qms fun w'=>?_;have hS:Tryz.prog.underlying 200=some (.struct (Tryz.prog.fieldsOf 200)):=by kernel_rfl
 have hp:Tryz.prog.stoodInHeld 200=false:=by kernel_rfl
 have hg:Tryz.prog.eqGuardType Tryz.prog.depth 200=false:=by kernel_rfl
 simp only [Sem.run_bind];rw [run_eqGuard_agg _ _ _ _ _ _ _ hg];simp only [Result.andThen_ok];rw [run_eql_struct,show (10000:Nat)=9999+1 from rfl,run_equalIn_agg w' 9999 200 _ _ hS hp];simp only [Program.fieldsOf,Tryz.underlying200];have u3:=Tryz.underlying3;have a3:=Tryz.isAgg3;have z3:=Tryz.sizeOf3;simp only [Qbc]
 go_simp
 obtain ⟨a1,a2⟩:=a;obtain ⟨b1,b2⟩:=b;simp only [Prod.mk.injEq];by_cases h1:a1=b1
 ·
  by_cases h2:a2=b2
  ·
   subst h1 h2;simp
  have h3:¬ ((a2:Int)=b2):=by omega
  simp [h1,h2,h3]
 simp [h1]
theorem Qmk (a b:Tr):a=b ↔ a.1=b.1/\a.2=b.2:=by
 obtain ⟨a1,a2⟩:=a;obtain ⟨b1,b2⟩:=b;simp
def TrOk (t:Tr):Prop:=-1099511627776<=t.1/\t.1<=1099511627776/\t.2<=1000000
theorem Qp4 (a b:Tr) (ha:TrOk a) (hb:TrOk b) (w:World):Does Tryz.prog 165 #[.agg (Qbc a).toArray,.agg (Qbc b).toArray] w fun v w'=>Heap w [] w' []/\v=.int .i64 (cmpT a b):=by
 obtain ⟨ha1,ha2,ha3⟩:=ha;obtain ⟨hb1,hb2,hb3⟩:=hb;refine En [.agg (Qbc a).toArray,.agg (Qbc b).toArray] 23 Tryz.func165 ?_;refine VQ [2,3] fun K hK=>?_;refine Qce ?_;refine Qs ?_;have hH:=(Heap.start w).box 200 (Qbc a);have e1:w.alloc (Obj.cells (Qbc a).toArray 200)=w.alloc (Obj.cells (Qbc a).toArray 200):=rfl;generalize w.alloc (Obj.cells (Qbc a).toArray 200)=w1 at *;generalize w.heap.size=ga at *;refine Qce ?_;refine Qs ?_;have hH2:=hH.box 200 (Qbc b);generalize w1.alloc (Obj.cells (Qbc b).toArray 200)=w2 at *;generalize w1.heap.size=gb at *;clear hH e1;apply hK;clear hK;refine VQ [2,3,7] fun K hK=>?_;refine ⟨Qbc a,⟨rfl,blk_reads (hH2.at 1 rfl)⟩,?_⟩;refine ⟨Qbc b,⟨rfl,blk_reads (hH2.at 0 rfl)⟩,?_⟩;rw [Qyh];apply hK;clear hK;refine Vi (fun h=>?_) (fun h=>VC_skip ?_)
 ·
  simp only [decide_eq_true_eq] at h;subst h;refine VS [4] ?_;exact VC_ret (VX_ret1 rfl rfl ⟨hH2.sub (by simp),by simp [cmpT]⟩)
 clear h;have c1:w2.cell? ⟨ga,0,none⟩=some (.int .i64 a.1):=Qae (hH2.at 1 rfl) rfl;have c2:w2.cell? ⟨ga,1,none⟩=some (.int .i64 a.2):=Qae (hH2.at 1 rfl) rfl;have c3:w2.cell? ⟨gb,0,none⟩=some (.int .i64 b.1):=Qae (hH2.at 0 rfl) rfl;have c4:w2.cell? ⟨gb,1,none⟩=some (.int .i64 b.2):=Qae (hH2.at 0 rfl) rfl;refine VQ [2,3,12] fun K hK=>?_;refine ⟨_,c1,_,c3,?_⟩;refine Qs ?_;apply hK;clear hK;refine Vi (fun h=>?_) (fun h=>VC_skip ?_)
 ·
  simp only [decide_eq_true_eq] at h;refine VQ [4] fun K hK=>?_;refine ⟨_,c1,_,c3,?_⟩;refine Qs ?_;refine ⟨I64.mk (by omega) (by omega),?_⟩;apply hK;clear hK;exact VC_ret (VX_ret1 rfl rfl ⟨hH2.sub (by simp),by rw [cmpT,if_neg h]⟩)
 simp only [decide_eq_false_iff_not,Decidable.not_not] at h;refine VQ [4] fun K hK=>?_;refine ⟨_,c2,_,c4,?_⟩;refine Qs ?_;refine ⟨I64.mk (by omega) (by omega),?_⟩;apply hK;clear hK;exact VC_ret (VX_ret1 rfl rfl ⟨hH2.sub (by simp),by rw [cmpT,if_pos h]⟩)
theorem Qjx (l:List Tr):(Qe7 l).length=l.length * 2:=Quc Qfk l
def minT:Tr->List Tr->Tr
 | m,[]=>m
 | m,t::l=>minT (if cmpT t m < 0 then t else m) l
theorem Qvg:∀ (l:List Tr) (m t:Tr),minT m (l++[t])=if cmpT t (minT m l) < 0 then t else minT m l
 | [],m,t=>rfl
 | x::l,m,t=>by rw [List.cons_append,minT,Qvg l _ t,minT]
theorem Qsz:∀ (l:List Tr) (m:Tr),minT m l=m∨minT m l∈l
 | [],m=>.inl rfl
 | x::l,m=>by
  rw [minT];rcases Qsz l (if cmpT x m < 0 then x else m) with h | h
  ·
   rw [h];split
   ·
    simp
   simp
  simp [h]
theorem Qrd {a b c:Tr} (h1:¬ cmpT b a < 0) (h2:¬ cmpT c b < 0):¬ cmpT c a < 0:=by
 unfold cmpT at *;(repeat' split at *) <;> omega
theorem QE3:∀ (l:List Tr) (m:Tr),¬ cmpT m (minT m l) < 0/\∀ t∈l,¬ cmpT t (minT m l) < 0
 | [],m=>⟨by simp [minT,cmpT],by simp⟩
 | x::l,m=>by
  rw [minT];obtain ⟨h1,h2⟩:=QE3 l (if cmpT x m < 0 then x else m);by_cases hx:cmpT x m < 0
  ·
   rw [if_pos hx] at h1 h2 ⊢;refine ⟨Qrd h1 (by unfold cmpT at hx ⊢;(repeat' split at *) <;> omega),fun t ht=>?_⟩;rcases List.mem_cons.1 ht with rfl | ht
   ·
    exact h1
   exact h2 t ht
  rw [if_neg hx] at h1 h2 ⊢;refine ⟨h1,fun t ht=>?_⟩;rcases List.mem_cons.1 ht with rfl | ht
  ·
   exact Qrd h1 hx
  exact h2 t ht
abbrev Qvh:Value:=.func (.func 165) #[] #[]
def trow (g cap:Nat) (l:List Tr):Res:=Res.row 200 2 (some ⟨g,0,none⟩) l.length cap (Qe7 l)
theorem Qvi (t0:Tr) (l:List Tr) (hl:l.length<=1000000) (hok:∀ t∈t0::l,TrOk t) (g cap:Nat) (w:World) (hL:(trow g cap (t0::l)).holds w) :
  Does Tryz.prog 189 #[.slice (some ⟨g,0,none⟩) (t0::l).length cap,Qvh] w fun v w'=>Heap w [] w' []/\v=.agg (Qbc (minT t0 l)).toArray:=by
 have hrs:RS w (some ⟨g,0,none⟩) (t0::l).length 2 (Qe7 (t0::l)):=Qao hL
 have hget:∀ (w':World) (i:Nat) (x:Tr),RS w' (some ⟨g,0,none⟩) (t0::l).length 2 (Qe7 (t0::l))->(t0::l)[i]? = some x->Reads w' ⟨g,i * 2,none⟩ (Qbc x):=fun w' i x h hi=>by
  have:=Qh4 Qfk h rfl hi
  rwa [Qa8,Nat.zero_add] at this
 refine En [.slice (some ⟨g,0,none⟩) (t0::l).length cap,Qvh] 33 Tryz.func189 ?_;generalize hn:(t0::l).length=n at *;have hn1:l.length+1=n:=by rw [<- hn];simp
 refine VQ [0,1,4] fun K hK=>?_;refine MemK_alloc (.agg #[.int .i64 0,.int .i64 0]) (by kernel_rfl) ?_;refine Qs ?_;have hH:=(Heap.start w).box 200 [.int .i64 0,.int .i64 0];generalize w.alloc (Obj.cells [Value.int .i64 0,.int .i64 0].toArray 200)=w1 at *;generalize w.heap.size=gr at *;apply hK;clear hK;refine VS [0,1,4,9] ?_;refine Qde [0,1,4] (fun e w'=>Is e [(0,.slice (some ⟨g,0,none⟩) n cap),(1,Qvh),(4,.pointer (some ⟨gr,0,none⟩))]/\Is w' w1) ?_ ?_
 ·
  refine Qaf rfl rfl (fun h=>by simp at h;omega) (fun h=>VC_skip ?_);refine Qaa ?_;refine Qs ?_;exact ⟨rfl,rfl⟩
 rintro e w' ⟨rfl,rfl⟩;have h0:=hget w' 0 t0 (hH.rs' hrs) rfl;refine VQ [0,1,4,5] fun K hK=>?_;refine ⟨by omega,Qbc t0,⟨rfl,h0⟩,?_⟩;refine MemK_alloc (.agg #[.int .i64 0,.int .i64 0]) (by kernel_rfl) ?_;refine Qs ?_;have hH1:=hH.box 200 [.int .i64 0,.int .i64 0];generalize w'.alloc (Obj.cells [Value.int .i64 0,.int .i64 0].toArray 200)=w2 at *;generalize w'.heap.size=gm at *;refine MemK_store ?_;refine Qs ?_;refine StoreK_blk hH1 0 (vs:=Qbc t0) rfl rfl (by kernel_rfl) (by simp [Qbc]) (Qdo _) fun w3 hH2=>?_;have hH2:Heap w [] w3 [Res.blk gm 200 (Qbc t0),Res.blk gr 200 [.int .i64 0,.int .i64 0]]:=hH2;clear hH hH1 h0;apply hK;clear hK;refine VS [0,1,4,5,6] ?_;refine Qab ?_;refine Qac [0,1,4,5,6] (fun m e w'=>∃ (i:Nat),Is e [(0,.slice (some ⟨g,0,none⟩) n cap),(1,Qvh),(4,.pointer (some ⟨gr,0,none⟩)),(5,.pointer (some ⟨gm,0,none⟩)),(6,.int .i64 (i+1:Nat))]/\Heap w [] w' [Res.blk gm 200 (Qbc (minT t0 (l.take i))),Res.blk gr 200 [.int .i64 0,.int .i64 0]]/\i+1<=n/\m=n - i) n ?_ ?_
 ·
  refine Qs ?_;exact ⟨0,rfl,hH2,by omega,rfl⟩
 clear hH2;rintro m e w4 ⟨i,rfl,hH,hi,rfl⟩;refine VS [0,1,4,5,6,17] ?_;refine VD (fun h=>?_) (fun h=>?_)
 ·
  have hil:i < l.length:=by omega
  have hgi:(t0::l)[i+1]? = some l[i]:=by simp [List.getElem?_eq_getElem hil]
  have hrd:=hget w4 (i+1) l[i] (hH.rs' hrs) hgi;have htk:l.take (i+1)=l.take i++[l[i]]:=by rw [List.take_add_one,List.getElem?_eq_getElem hil];rfl
  have hmn:=Qvg (l.take i) t0 l[i];rw [<- htk] at hmn;have hokx:TrOk l[i]:=hok _ (by simp)
  have hokm:TrOk (minT t0 (l.take i)):=hok _ (by
   rcases Qsz (l.take i) t0 with h | h
   ·
    rw [h];simp
   exact List.mem_cons_of_mem _ (List.mem_of_mem_take h))
  generalize l[i]=x at *;generalize minT t0 (l.take i)=mt at *;refine VC_skip ?_;refine VB ?_;refine VL [0,1,4,5,6,27] 6 fun K hK=>?_;refine ⟨⟨by omega,by omega⟩,Qbc x,⟨rfl,hrd⟩,?_⟩;refine ⟨Qbc mt,⟨rfl,blk_reads (hH.at 0 rfl)⟩,?_⟩;refine Qbf ?_;refine Qs ?_;refine FnK.mk Tryz.call165 (Qp4 x mt hokx hokm w4) ?_;rintro v w5 ⟨hHc,rfl⟩;have hH2:=hH.call0 hHc;simp only [List.nil_append] at hH2;refine Qs ?_;apply hK;clear hK;have hrd5:=hget w5 (i+1) x (hH2.rs' hrs) hgi;clear hH hHc;refine VD (fun h=>?_) (fun h=>?_)
  ·
   rw [if_pos h] at hmn;refine VQ [0,1,4,5,6] fun K hK=>?_;refine ⟨⟨by omega,by omega⟩,Qbc x,⟨rfl,hrd5⟩,?_⟩;refine MemK_store ?_;refine Qs ?_;refine StoreK_blk hH2 0 (vs:=Qbc x) rfl rfl (by kernel_rfl) (by simp [Qbc]) (Qdo _) fun w6 hH3=>?_;have hH3:Heap w [] w6 [Res.blk gm 200 (Qbc x),Res.blk gr 200 [.int .i64 0,.int .i64 0]]:=hH3;apply hK;clear hK;refine Qah ?_;refine VS [0,1,4,5,6] ?_;refine Qaa ?_;refine Qs ?_;exact ⟨n - (i+1),by omega,i+1,rfl,by rw [hmn];exact hH3,by omega,rfl⟩
  rw [if_neg h] at hmn;refine VC_skip ?_;refine Qah ?_;refine VS [0,1,4,5,6] ?_;refine Qaa ?_;refine Qs ?_;exact ⟨n - (i+1),by omega,i+1,rfl,by rw [hmn];exact hH2,by omega,rfl⟩
 refine Qad rfl ?_;rw [List.take_of_length_le (by omega)] at hH;refine VQ [4] fun K hK=>?_;refine ⟨Qbc (minT t0 l),⟨rfl,blk_reads (hH.at 0 rfl)⟩,?_⟩;refine MemK_store ?_;refine Qs ?_;refine StoreK_blk hH 1 (vs:=Qbc (minT t0 l)) rfl rfl (by kernel_rfl) (by simp [Qbc]) (Qdo _) fun w6 hH3=>?_;have hH3:Heap w [] w6 [Res.blk gm 200 (Qbc (minT t0 l)),Res.blk gr 200 (Qbc (minT t0 l))]:=hH3;apply hK;clear hK;refine VC_ret (Qsa rfl rfl (Qbh (hH3.at 1 rfl) (by kernel_rfl) (by kernel_rfl) rfl ?_));exact ⟨hH3.sub (by simp),rfl⟩
theorem Qyi (x:Tr) (l:List Tr) (hl:l.length<=1000000) (hx:x∈l) (g cap:Nat) (w:World) (hL:(trow g cap l).holds w) :
  Does Tryz.prog 190 #[.slice (some ⟨g,0,none⟩) l.length cap,.agg (Qbc x).toArray] w fun v w'=>Heap w [] w' []/\∃ i:Nat,l[i]? = some x/\v=.int .i64 i:=by
 have hrs:RS w (some ⟨g,0,none⟩) l.length 2 (Qe7 l):=Qao hL
 have hget:∀ (w':World) (i:Nat) (y:Tr),RS w' (some ⟨g,0,none⟩) l.length 2 (Qe7 l)->l[i]? = some y->Reads w' ⟨g,i * 2,none⟩ (Qbc y):=fun w' i y h hi=>by
  have:=Qh4 Qfk h rfl hi
  rwa [Qa8,Nat.zero_add] at this
 refine En [.slice (some ⟨g,0,none⟩) l.length cap,.agg (Qbc x).toArray] 19 Tryz.func190 ?_;generalize hn:l.length=n at *;refine VQ [0,3] fun K hK=>?_;refine Qce ?_;refine Qs ?_;have hH:=(Heap.start w).box 200 (Qbc x);generalize w.alloc (Obj.cells (Qbc x).toArray 200)=w1 at *;generalize w.heap.size=gx at *;apply hK;clear hK;refine VS [0,3,7,8] ?_;refine Qab ?_;refine Qac [0,3,7,8] (fun m e w'=>∃ (i:Nat),Is e [(0,.slice (some ⟨g,0,none⟩) n cap),(3,.pointer (some ⟨gx,0,none⟩)),(7,.int .i64 n),(8,.int .i64 i)]/\Is w' w1/\i<=n/\x ∉ l.take i/\m=n - i) n ?_ ?_
 ·
  refine Qs ?_;exact ⟨0,rfl,rfl,by omega,by simp,rfl⟩
 rintro m e w' ⟨i,rfl,rfl,hi,hnot,rfl⟩;refine VS [0,3,7,8,9] ?_;(repeat refine Qar ?_);refine VD (fun h=>?_) (fun h=>?_)
 ·
  have hil:i < l.length:=by omega
  have hgi:l[i]? = some l[i]:=List.getElem?_eq_getElem hil;have hrd:=hget w' i l[i] (hH.rs' hrs) hgi;have htk:l.take (i+1)=l.take i++[l[i]]:=by rw [List.take_add_one,hgi];rfl
  generalize l[i]=y at *;refine VC_skip ?_;refine VB ?_;refine VS [0,3,5,7,8] ?_;refine Vq [0,3,5,7,8,16] fun K hK=>?_;refine ⟨Qbc x,⟨rfl,blk_reads (hH.at 0 rfl)⟩,?_⟩;refine ⟨⟨by omega,by omega⟩,Qbc y,⟨rfl,hrd⟩,?_⟩;rw [Qyh];apply hK;clear hK;refine VD (fun h=>?_) (fun h=>VC_skip ?_)
  ·
   subst h;refine VS [4] ?_;exact VC_ret (VX_ret1 rfl rfl ⟨hH.sub (by simp),i,hgi,rfl⟩)
  refine Qah ?_;refine VS [0,3,7,8] ?_;refine Qaa ?_;refine Qs ?_;refine ⟨n - (i+1),by omega,i+1,rfl,rfl,by omega,?_,rfl⟩;rw [htk,List.mem_append];rintro (h2 | h2)
  ·
   exact hnot h2
  simp at h2;exact h h2
 rw [List.take_of_length_le (by omega)] at hnot;exact absurd hx hnot
def Qe8 (ws ov:List Nat):List Tr:=((List.range ws.length).filter fun i=>ov.getD i 0 == 0).map fun i=>((ws.getD i 0:Nat),i)
theorem Qox {ws ov:List Nat}{t:Tr}:t∈Qe8 ws ov ↔ t.2 < ws.length/\ov.getD t.2 0=0/\t.1=(ws.getD t.2 0:Nat):=by
 unfold Qe8;rw [List.mem_map];constructor
 ·
  rintro ⟨i,hi,rfl⟩;rw [List.mem_filter,List.mem_range,beq_iff_eq] at hi;exact ⟨hi.1,hi.2,rfl⟩
 rintro ⟨h1,h2,h3⟩;refine ⟨t.2,?_,?_⟩
 ·
  rw [List.mem_filter,List.mem_range,beq_iff_eq];exact ⟨h1,h2⟩
 rw [Qmk];exact ⟨h3.symm,rfl⟩
theorem Qoy {ws ov:List Nat}{t:Tr} (ht:t∈Qe8 ws ov) (hm:∀ x∈Qe8 ws ov,¬ cmpT x t < 0):IsLeast ws ov t.2/\t.1=(ws.getD t.2 0:Nat):=by
 obtain ⟨h1,h2,h3⟩:=Qox.1 ht;refine ⟨⟨h1,h2,fun i hi hf=>?_⟩,h3⟩;have:=hm (((ws.getD i 0:Nat):Int),i) (Qox.2 ⟨hi,hf,rfl⟩);unfold cmpT at this;simp only at this;split at this <;> omega
theorem Qvj {p q:Nat->Bool}{a n:Nat} (ha:a < n) (hpa:p a=true) (hqa:q a=false) (h:∀ i,i≠a->q i=p i):((List.range n).filter p).Perm (a::(List.range n).filter q):=by
 induction n with
 | zero=>omega
 | succ n ih =>
  rw [List.range_succ,List.filter_append,List.filter_append];by_cases e:a=n
  ·
   subst e
   have e1:(List.range a).filter p=(List.range a).filter q:=List.filter_congr fun i hi=>by
    have:i < a:=by simpa using hi
    exact (h i (by omega)).symm
   rw [List.filter_cons_of_pos hpa,List.filter_cons_of_neg (by simp [hqa]),List.filter_nil,List.filter_nil,List.append_nil,e1];exact List.perm_append_singleton _ _
  have e1:[n].filter p=[n].filter q:=by
   have:=h n (fun x=>e x.symm);cases hp:p n <;> simp [hp,this]
  rw [e1,<- List.cons_append];exact (ih (by omega)).append_right _
theorem Qvk {ws ov:List Nat}{a v:Nat} (ha:a < ws.length) (hl:ov.length=ws.length) (h0:ov.getD a 0=0) (hv:v≠0):(Qe8 ws ov).Perm (((ws.getD a 0:Nat),a)::Qe8 ws (ov.set a v)):=by
 unfold Qe8;have:=Qvj (p:=fun i=>ov.getD i 0 == 0) (q:=fun i=>(ov.set a v).getD i 0 == 0) ha (by simp only [beq_iff_eq];exact h0) (by rw [Qcx (by omega)];simp [hv]) (fun i hi=>by rw [Qcz (fun x=>hi x.symm)]);have h2:=this.map fun i=>(((ws.getD i 0:Nat):Int),i);rw [List.map_cons] at h2;exact h2
theorem QCh {ws ov:List Nat} (x:Nat) (hl:ov.length=ws.length):Qe8 (ws++[x]) (ov++[0])=Qe8 ws ov++[(((x:Nat):Int),ws.length)]:=by
 unfold Qe8;rw [List.length_append,List.length_singleton,List.range_succ,List.filter_append,List.map_append]
 congr 1
 ·
  have e:(List.range ws.length).filter (fun i=>(ov++[0]).getD i 0 == 0)=(List.range ws.length).filter fun i=>ov.getD i 0 == 0:=List.filter_congr fun i hi=>by
   rw [Qcs (by rw [hl];simpa using hi)]
  rw [e];refine List.map_congr_left fun i hi=>?_;rw [List.mem_filter,List.mem_range] at hi;rw [Qcs hi.1]
 have e1:(ov++[0]).getD ws.length 0=0:=by rw [<- hl];exact Qjc
 rw [List.filter_cons_of_pos (by rw [beq_iff_eq];exact e1),List.filter_nil,List.map_cons,List.map_nil,Qjc]
theorem QE4 (ws ov:List Nat):(Qe8 ws ov).length=Qbv (fun i=>if ov.getD i 0=0 then 1 else 0) ws.length:=by
 unfold Qe8;rw [List.length_map];generalize ws.length=n
 induction n with
 | zero=>rfl
 | succ n ih =>
  rw [List.range_succ,List.filter_append,List.length_append,ih,Qbv];by_cases h:ov.getD n 0=0
  ·
   rw [List.filter_cons_of_pos (by rw [beq_iff_eq];exact h),if_pos h];rfl
  rw [List.filter_cons_of_neg (by rw [beq_iff_eq];exact h),if_neg h];rfl
theorem Qyj (w:List Nat):Qe8 w (List.replicate w.length 0)=(List.range w.length).map fun i=>(((w.getD i 0:Nat):Int),i):=by
 unfold Qe8;rw [List.filter_eq_self.2 fun i hi=>by rw [Qdm];rfl]
theorem QIj {α:Type} (l:List α) (i:Nat) (x z:α) (hx:l[i]? = some x) (hz:l[l.length - 1]? = some z):l.Perm (x::(l.set i z).take (l.length - 1)):=by
 have hi:=(List.getElem?_eq_some_iff.1 hx).1;have hxe:l[i]=x:=(List.getElem?_eq_some_iff.1 hx).2
 have h1:l=l.take (l.length - 1)++[z]:=by
  have h2:l.drop (l.length - 1)=[z]:=by
   have h3:=(List.getElem?_eq_some_iff.1 hz);rw [List.drop_eq_getElem_cons h3.1,h3.2,List.drop_of_length_le (by omega)]
  rw [<- h2,List.take_append_drop]
 rw [List.take_set];generalize hin:l.take (l.length - 1)=t at *;have htl:t.length=l.length - 1:=by rw [<- hin,List.length_take];omega
 by_cases e:i=l.length - 1
 ·
  have:x=z:=by rw [e,hz] at hx;exact (Option.some.inj hx).symm
  subst this;rw [List.set_eq_of_length_le (by omega),h1];exact List.perm_append_singleton _ _
 have hit:i < t.length:=by omega
 have hti:t[i]? = some x:=by
  rw [<- hin,List.getElem?_take,if_pos (by omega)];exact hx
 have ht:t=t.take i++x::t.drop (i+1):=by
  have h4:=List.getElem?_eq_some_iff.1 hti;have h5:=List.drop_eq_getElem_cons h4.1;rw [h4.2] at h5;rw [<- h5,List.take_append_drop]
 rw [List.set_eq_take_append_cons_drop,if_pos hit];generalize t.take i=a at *;generalize t.drop (i+1)=b at *;rw [h1,ht,List.append_assoc];have p1:(a++(x::b++[z])).Perm (x::(a++(b++[z]))):=by simp
 refine p1.trans (List.Perm.cons x ?_);exact (List.perm_append_comm (l₁:=b) (l₂:=[z])).append_left a
def tvar (gT g cap:Nat) (l:List Tr):Res:=Res.blk gT 198 [.slice (some ⟨g,0,none⟩) l.length cap]
theorem Qre (trees:List Tr) (hl:trees.length<=1000000) (hne:0 < trees.length) (hok:∀ t∈trees,TrOk t) (gT g cap:Nat) (w0 w:World) (B:List Nat) (G:List Res) (hL:Heap w0 B w (trow g cap trees::tvar gT g cap trees::G)) :
  Does Tryz.prog 188 #[.pointer (some ⟨gT,0,none⟩)] w fun v w'=>∃ (t:Tr) (trees':List Tr),trees.Perm (t::trees')/\(∀ x∈trees,¬ cmpT x t < 0)/\Heap w0 B w' (trow g cap trees'::tvar gT g cap trees'::G)/\v=.agg (Qbc t).toArray:=by
 obtain ⟨t0,l0,rfl⟩:∃ t0 l0,trees=t0::l0:=by
  cases trees with
  | nil=>simp at hne
  | cons t l=>exact ⟨t,l,rfl⟩
 have hmin:=QE3 l0 t0
 have hmem:minT t0 l0∈t0::l0:=by
  rcases Qsz l0 t0 with h | h
  ·
   rw [h];simp
  exact List.mem_cons_of_mem _ h
 have hall:∀ x∈t0::l0,¬ cmpT x (minT t0 l0) < 0:=fun x hx=>by
  rcases List.mem_cons.1 hx with rfl | hx
  ·
   exact hmin.1
  exact hmin.2 x hx
 clear hmin;refine En [.pointer (some ⟨gT,0,none⟩)] 24 Tryz.func188 ?_;refine VQ [0,1] fun K hK=>?_;refine MemK_alloc (.agg #[.int .i64 0,.int .i64 0]) (by kernel_rfl) ?_;refine Qs ?_;have hH:=hL.box 200 [.int .i64 0,.int .i64 0];generalize w.alloc (Obj.cells [Value.int .i64 0,.int .i64 0].toArray 200)=w1 at *;generalize w.heap.size=gr at *;clear hL;apply hK;clear hK;refine VQ [0,1,2] fun K hK=>?_;refine ⟨_,Qae (hH.at 2 rfl) rfl,?_⟩;refine MemK_call Tryz.call189 ?_;refine Qs ?_;refine CallK.mk (Qvi t0 l0 (by simp at hl;omega) hok g cap w1 (hH.at 1 rfl)) ?_;rintro v w2 ⟨hHm,rfl⟩;have hH2:=hH.call0 hHm;simp only [List.nil_append] at hH2;clear hH hHm;generalize minT t0 l0=t at *;generalize hT:t0::l0=trees at *;refine MemK_alloc (.agg #[.int .i64 0,.int .i64 0]) (by kernel_rfl) ?_;refine Qs ?_;have hH3:=hH2.box 200 [.int .i64 0,.int .i64 0];generalize w2.alloc (Obj.cells [Value.int .i64 0,.int .i64 0].toArray 200)=w3 at *;generalize w2.heap.size=gt at *;refine MemK_store ?_;refine Qs ?_;refine StoreK_blk hH3 0 (vs:=Qbc t) rfl rfl (by kernel_rfl) (by simp [Qbc]) (Qdo _) fun w4 hH4=>?_;have hH4:Heap w0 B w4 (Res.blk gt 200 (Qbc t)::Res.blk gr 200 [.int .i64 0,.int .i64 0]::trow g cap trees::tvar gT g cap trees::G):=hH4;clear hH2 hH3;apply hK;clear hK;refine VQ [0,1,2,3] fun K hK=>?_;refine ⟨_,Qae (hH4.at 3 rfl) rfl,?_⟩;refine ⟨Qbc t,⟨rfl,blk_reads (hH4.at 0 rfl)⟩,?_⟩;refine MemK_call Tryz.call190 ?_;refine Qs ?_;refine CallK.mk (Qyi t trees hl hmem g cap w4 (hH4.at 2 rfl)) ?_;rintro v w5 ⟨hHi,i,hi,rfl⟩;have hH5:=hH4.call0 hHi;simp only [List.nil_append] at hH5;clear hH4 hHi;apply hK;clear hK;have hil:i < trees.length:=(List.getElem?_eq_some_iff.1 hi).1;have hlast:trees[trees.length - 1]? = some trees[trees.length - 1]:=List.getElem?_eq_getElem (by omega);have hout:=QIj trees i t _ hi hlast;generalize trees[trees.length - 1]=z at *;have hrs:=Qao (hH5.at 2 rfl);have hrd:=Qh4 Qfk hrs rfl hlast;rw [Qa8,Nat.zero_add] at hrd;obtain ⟨hx1,hx2,hx3,hx4⟩:=hH5.at 2 rfl;clear hx1 hx4;refine VL [0,1,2] 9 fun K hK=>?_;refine ⟨_,Qae (hH5.at 3 rfl) rfl,_,Qae (hH5.at 3 rfl) rfl,_,Qae (hH5.at 3 rfl) rfl,?_⟩;refine Qs ?_;refine ⟨I64.mk (by omega) (by omega),⟨by omega,by omega⟩,?_⟩;refine ⟨Qbc z,⟨rfl,hrd⟩,?_⟩;refine Qp ?_;refine MemK_store ?_;refine Qs ?_;refine Qas hH5 2 (o:=i * 2) (vs:=Qbc z) rfl (by rw [Qa8,Nat.zero_add]) rfl (by kernel_rfl) (by rw [Qjx];simp [Qbc];omega) (Qdo z) fun w6 hH6=>?_;have e6:=Quf Qfk trees i z hil;simp only [List.set_cons_succ,List.set_cons_zero] at hH6;rw [Qfk] at hH6
 have hH7:Heap w0 B w6 (Res.blk gt 200 (Qbc t)::Res.blk gr 200 [.int .i64 0,.int .i64 0]::trow g cap (trees.set i z)::tvar gT g cap trees::G):=by
  have e7:trow g cap (trees.set i z)=Res.row 200 2 (some ⟨g,0,none⟩) trees.length cap ((Qe7 trees).take (i * 2)++Qbc z++(Qe7 trees).drop (i * 2+2)):=by
   rw [trow,List.length_set];exact congrArg _ e6.symm
  rw [e7];exact hH6
 clear hH6 hH5 e6 hrd hrs;have hlen2:((trees.set i z).take (trees.length - 1)).length=trees.length - 1:=by rw [List.length_take,List.length_set];omega
 have hsh:(trow g cap (trees.set i z)).holds w6->(trow g cap ((trees.set i z).take (trees.length - 1))).holds w6:=fun h=>by
  have h1:=QBo (m:=trees.length - 1) h (by rw [List.length_set];omega);have h2:=Qqt Qfk (trees.set i z) (trees.length - 1);rw [show Qe7 (trees.set i z)=Qdq Qbc (trees.set i z) from rfl,h2] at h1;rw [trow,hlen2];exact h1
 have hH8:=hH7.view 2 rfl hsh (fun b hb=>hb);simp only [List.set_cons_succ,List.set_cons_zero] at hH8;clear hH7 hsh;generalize (trees.set i z).take (trees.length - 1)=trees' at *;apply hK;clear hK;refine VQ [1,2] fun K hK=>?_;refine ⟨_,Qae (hH8.at 3 rfl) rfl,_,Qae (hH8.at 3 rfl) rfl,?_⟩;refine Qs ?_;refine ⟨I64.mk (by omega) (by omega),⟨by omega,by omega⟩,?_⟩;refine MemK_store ?_;refine Qs ?_;refine StoreK_blk hH8 3 (vs:=[.slice (some ⟨g,0,none⟩) trees'.length cap]) rfl (by rw [hlen2];rfl) (by kernel_rfl) (by simp) (by simp [Value.oneCell']) fun w7 hH9=>?_;have hH9:Heap w0 B w7 (Res.blk gt 200 (Qbc t)::Res.blk gr 200 [.int .i64 0,.int .i64 0]::trow g cap trees'::tvar gT g cap trees'::G):=hH9;apply hK;clear hK;refine VQ [1] fun K hK=>?_;refine ⟨Qbc t,⟨rfl,blk_reads (hH9.at 0 rfl)⟩,?_⟩;refine MemK_store ?_;refine Qs ?_;refine StoreK_blk hH9 1 (vs:=Qbc t) rfl rfl (by kernel_rfl) (by simp [Qbc]) (Qdo _) fun w8 hH10=>?_;have hH10:Heap w0 B w8 (Res.blk gt 200 (Qbc t)::Res.blk gr 200 (Qbc t)::trow g cap trees'::tvar gT g cap trees'::G):=hH10;apply hK;clear hK;refine VC_ret (Qsa rfl rfl (Qbh (hH10.at 1 rfl) (by kernel_rfl) (by kernel_rfl) rfl ?_));exact ⟨t,trees',hout,hall,hH10.sub ((List.sublist_cons_self _ _).trans (List.sublist_cons_self _ _)),rfl⟩
theorem Qbl (n:Nat):Qag (List.replicate n 0)=List.replicate n (.int .i64 0):=by simp [Qag]
theorem QE5 {n:Nat} (h:0 < n):List.replicate n (0:Nat)=[0]++List.replicate (n - 1) 0:=by
 obtain ⟨m,rfl⟩:∃ m,n=m+1:=⟨n - 1,by omega⟩;rfl
abbrev QP9 (gT:Nat):Value:=.func (.func 188) #[] #[.pointer (some ⟨gT,0,none⟩)]
theorem QCi (l:List Nat) (hl:2<=l.length) (hl2:l.length<=258) (hx:∀ x∈l,1<=x/\x<=2147483648) (pa:Option Addr) (lc:Nat) (w:World) (hr:RS w pa l.length 1 (Qag l)) :
  Does Tryz.prog 162 #[.slice pa l.length lc] w fun v w'=>∃ a cap,Heap w [] w' [Res.row 3 1 a (Qcf l).length cap (Qag (Qcf l))]/\v=.slice a (Qcf l).length cap:=by
 obtain ⟨p,rfl⟩:=Qbb hr (by omega);have hget:∀ i,i < l.length->1<=l.getD i 0/\l.getD i 0<=2147483648:=fun i hi=>hx _ (Qaz 0 hi)
 have htot:Qbv (fun i=>l.getD i 0) l.length<=1099511627776:=by
  have:=Qnn (fun i=>l.getD i 0) 2147483648 l.length fun i hi=>(hget i hi).2;omega
 refine En [.slice (some p) l.length lc] 90 Tryz.func162 ?_;generalize hn:l.length=n at *;refine VS [0] ?_;refine VQ [0,3] fun K hK=>?_;refine MemK_alloc (.slice none 0 0) (by kernel_rfl) ?_;refine Qs ?_;have hH0:=((Heap.start w).box 198 [.slice none 0 0]).nilRow 200 2;generalize w.alloc (Obj.cells [Value.slice none 0 0].toArray 198)=w1 at *;generalize w.heap.size=gT at *;apply hK;clear hK;refine VS [0,3,14,15,16] ?_;refine Qab ?_;refine Qac [0,3,14,15,16] (fun m e w'=>∃ (i cap:Nat) (a:Option Addr),Is e [(0,.slice (some p) n lc),(3,.pointer (some ⟨gT,0,none⟩)),(14,.slice (some p) n lc),(15,.int .i64 n),(16,.int .i64 i)]/\Heap w [] w' [Res.row 200 2 a i cap (Qe7 ((List.range i).map fun i=>(((l.getD i 0:Nat):Int),i))),Res.blk gT 198 [.slice a i cap]]/\i<=n/\m=n - i) n ?_ ?_
 ·
  refine Qs ?_;exact ⟨0,0,none,rfl,hH0,by omega,rfl⟩
 clear hH0;rintro m e w2 ⟨i,cap,a,rfl,hH,hi,rfl⟩;refine VS [0,3,14,15,16,17] ?_;(repeat refine Qar ?_);refine VD (fun h=>?_) (fun h=>?_)
 ·
  have hcell:=Qbk (hH.rs' hr) (i:=i) (by omega);have hsn:(List.range (i+1)).map (fun i=>(((l.getD i 0:Nat):Int),i))=(List.range i).map (fun i=>(((l.getD i 0:Nat):Int),i))++[(((l.getD i 0:Nat):Int),i)]:=by rw [List.range_succ,List.map_append];rfl
  have hml:((List.range i).map (fun i=>(((l.getD i 0:Nat):Int),i))).length=i:=by simp
  generalize hL1:(List.range i).map (fun i=>(((l.getD i 0:Nat):Int),i))=L at *;generalize hxx:l.getD i 0=x at *;refine VC_skip ?_;refine VB ?_;refine VQ [0,3,4,5,14,15,16] fun K hK=>?_;refine ⟨⟨by omega,by omega⟩,_,hcell,?_⟩;apply hK;clear hK;refine VQ [0,3,14,15,16] fun K hK=>?_;refine ⟨_,Qae (hH.at 1 rfl) rfl,?_⟩;refine Qi2 hH 2 (Qbc ((x:Int),i)) (xs:=[.tmp 24]) Tryz.underlying198 QL6 rfl rfl rfl (by omega) (by omega) ?_;refine Qs ?_;refine ⟨rfl,by simp [Value.cells],fun g w4 hH2=>?_⟩;refine Qai ?_;refine Qs ?_;refine Qb7 (zs:=#[.int .i64 0,.int .i64 0]) (bytes:=16) hH2 1 rfl Tryz.underlying198 (by kernel_rfl) rfl ⟨rfl,Qao (hH2.at 0 rfl),200,Tryz.underlying198⟩ (Qdo _) (fun h=>by omega) fun a' cap' w5 hc' hH3=>?_;simp only [List.set_cons_succ,List.set_cons_zero] at hH3;refine MemK_store ?_;refine Qs ?_;refine StoreK_blk hH3 2 (vs:=[.slice a' (i+1) cap']) rfl rfl (by kernel_rfl) (by simp) (by simp [Value.oneCell']) fun w6 hH4=>?_
  have hH5:Heap w [] w6 [Res.row 200 2 a' (i+1) cap' (Qe7 (L++[((x:Int),i)])),Res.blk gT 198 [.slice a' (i+1) cap']]:=by
   rw [Qe7,Qi3,Qud];exact (hH4.sub (List.sublist_cons_self _ _))
  apply hK;clear hK;refine Qah ?_;refine VS [0,3,14,15,16] ?_;refine Qaa ?_;refine Qs ?_;exact ⟨n - (i+1),by omega,i+1,cap',a',rfl,by rw [hsn];exact hH5,by omega,rfl⟩
 obtain rfl:i=n:=by omega
 obtain ⟨g,rfl⟩:=Qdu (hH.at 0 rfl) (by omega);have hroots:=Qyj l;rw [hn] at hroots;rw [<- hroots] at hH;have hrl:(Qe8 l (List.replicate i 0)).length=i:=by rw [hroots];simp
 clear hroots;generalize hT0:Qe8 l (List.replicate i 0)=T0 at *
 have hH1:Heap w [] w2 [trow g cap T0,tvar gT g cap T0]:=by
  unfold trow tvar;rw [hrl];exact hH
 clear hH;refine Qad rfl ?_;generalize i=n at *;refine VQ [0,3,6] fun K hK=>?_;refine ⟨I64.mk (by omega) (by omega),?_⟩;refine Qba Tryz.underlying36 zi3 ?_;refine Qs ?_;refine ⟨2 * n,2 * n,⟨by push_cast;rfl,by push_cast;rfl,by omega,by omega,by omega⟩,?_⟩;have hH2:=hH1.row 3 (n:=2 * n) (cap:=2 * n) (sz:=1) (Qag (List.replicate (2 * n) 0)) [] (by simp [Qaj]) (by simp [Qaj]) (by omega) (by omega);rw [List.append_nil,Qbl] at hH2;generalize w2.alloc (Obj.cells (List.replicate (2 * n) (Value.int IntKind.i64 0)).toArray 3)=w3 at *;generalize w2.heap.size=go at *;rw [<- Qbl] at hH2;clear hH1;apply hK;clear hK;refine VS [0,3,6,7] ?_;refine VS [0,3,6,7,8] ?_;refine VB ?_;refine Qac [0,3,6,7,8] (fun m e w'=>∃ (k cap g:Nat) (ws ov:List Nat) (hh:Nat->Nat) (T:List Tr),Is e [(0,.slice (some p) n lc),(3,.pointer (some ⟨gT,0,none⟩)),(6,.slice (some ⟨go,0,none⟩) (2 * n) (2 * n)),(7,.int .i64 (n+k:Nat)),(8,QP9 gT)]/\Heap w [] w' [trow g cap T,tvar gT g cap T,Res.row 3 1 (some ⟨go,0,none⟩) (2 * n) (2 * n) (Qag (ov++List.replicate (n - k) 0))]/\Qi9 k (l,List.replicate n 0)=(ws,ov)/\Grown l k ws ov hh/\T.Perm (Qe8 ws ov)/\k+1<=n/\m=n - k) n ?_ ?_
 ·
  refine Qs ?_;have hg:=Grown.start l (by omega) (fun i hi=>(hget i (by omega)).1);rw [hn] at hg;refine ⟨0,cap,g,l,List.replicate n 0,_,T0,rfl,?_,rfl,hg,by rw [hT0],by omega,rfl⟩;have e:List.replicate n 0++List.replicate (n - 0) 0=List.replicate (2 * n) (0:Nat):=by rw [List.replicate_append_replicate];congr 1;omega
  rw [e];exact hH2.perm ((List.perm_append_comm (l₁:=[_])))
 clear hH2 hT0 hrl;rintro m e w4 ⟨k,cap,g,ws,ov,hh,T,rfl,hH,hgr,hg,hp,hk,rfl⟩
 have hTl:T.length+k=n:=by
  have h1:=hg.roots;rw [hp.length_eq,QE4,hg.lws,hn];rw [hn] at h1;exact h1
 have hTok:∀ t∈T,TrOk t:=fun t ht=>by
  obtain ⟨h1,h2,h3⟩:=Qox.1 (hp.mem_iff.1 ht);have h4:=Qnm (fun i=>if ov.getD i 0=0 then ws.getD i 0 else 0) (l.length+k) t.2 (by have:=hg.lws;omega);simp only [if_pos h2] at h4;rw [hg.weight,hn] at h4;have:=hg.lws;unfold TrOk;omega
 refine VQ [0,3,6,7,8,37] fun K hK=>?_;refine ⟨_,Qae (hH.at 1 rfl) rfl,?_⟩;refine Qs ?_;apply hK;clear hK;refine VD (fun h=>?_) (fun h=>?_)
 ·
  have hk2:k+1 < n:=by omega
  have hpick:=hg.pick (by omega);obtain ⟨hla,hlb,hne,hbf⟩:=hpick;have hlw:=hg.lws;have hlo:=hg.lov;rw [hn] at hlw hlo;refine VC_skip ?_;refine Qab ?_;refine VQ [0,3,6,7,8,9,10] fun K hK=>?_;refine Qbf ?_;refine Qs ?_;refine FnK.mk Tryz.call188 (Qre T (by omega) (by omega) hTok gT g cap w w4 [] _ hH) ?_;rintro v w5 ⟨ta,Ta,hpa,hma,hH2,rfl⟩;have hta:=Qoy (hp.mem_iff.1 (hpa.mem_iff.2 (by simp))) (fun x hx'=>hma x (hp.mem_iff.2 hx'));have hta2:ta.2=Qc9 ws ov:=hta.1.unique hla;have htaE:ta=(((ws.getD (Qc9 ws ov) 0:Nat):Int),Qc9 ws ov):=(Qmk _ _).2 ⟨by rw [hta.2,hta2],hta2⟩;have hTaok:∀ t∈Ta,TrOk t:=fun t ht=>hTok t (hpa.mem_iff.2 (by simp [ht]));have hTal:Ta.length+1=T.length:=by have:=hpa.length_eq;simp at this;omega
  have hcut:=Qvk (v:=ws.length) hla.lt (by omega) hla.free (by omega);rw [<- htaE] at hcut;have hpTa:Ta.Perm (Qe8 ws (ov.set (Qc9 ws ov) ws.length)):=((hpa.symm.trans hp).trans hcut).cons_inv;clear hH;refine Qbf ?_;refine Qs ?_;refine FnK.mk Tryz.call188 (Qre Ta (by omega) (by omega) hTaok gT g cap w w5 [] _ hH2) ?_;rintro v w6 ⟨tb,Tb,hpb,hmb,hH3,rfl⟩;have htb:=Qoy (hpTa.mem_iff.1 (hpb.mem_iff.2 (by simp))) (fun x hx'=>hmb x (hpTa.mem_iff.2 hx'));have htb2:tb.2=Qc9 ws (ov.set (Qc9 ws ov) ws.length):=htb.1.unique hlb;have htbE:tb=(((ws.getD tb.2 0:Nat):Int),tb.2):=(Qmk _ _).2 ⟨htb.2,rfl⟩;rw [<- htb2] at hlb hne hbf;have hTbok:∀ t∈Tb,TrOk t:=fun t ht=>hTaok t (hpb.mem_iff.2 (by simp [ht]));have hTbl:Tb.length+1=Ta.length:=by have:=hpb.length_eq;simp at this;omega
  rw [<- hta2] at hla hlb hne hpTa;have hl1:(ov.set ta.2 ws.length).length=ws.length:=by simp;omega
  have hcut2:=Qvk (v:=ws.length) hlb.lt hl1 hlb.free (by omega);rw [<- htbE] at hcut2;have hpTb:Tb.Perm (Qe8 ws ((ov.set ta.2 ws.length).set tb.2 ws.length)):=((hpb.symm.trans hpTa).trans hcut2).cons_inv;have hoka:=hTok ta (hpa.mem_iff.2 (by simp));have hokb:=hTaok tb (hpb.mem_iff.2 (by simp))
  have hstep:Qi9 (k+1) (l,List.replicate n 0)=(ws++[ws.getD ta.2 0+ws.getD tb.2 0],(ov.set ta.2 ws.length).set tb.2 ws.length++[0]):=by
   rw [Qi9,hgr,Qgg];simp only;rw [<- htb2,<- hta2]
  obtain ⟨h',hg'⟩:=hg.step (by omega)
  have hgs:Qgg (ws,ov)=(ws++[ws.getD ta.2 0+ws.getD tb.2 0],(ov.set ta.2 ws.length).set tb.2 ws.length++[0]):=by
   rw [Qgg];simp only;rw [<- htb2,<- hta2]
  rw [hgs] at hg';simp only at hg';have ha1:=hla.lt;have hb1:=hlb.lt;have hwa:=hta.2;have hwb:=htb.2;clear hH2 hgs hcut hcut2 hta htb htaE htbE hma hmb;generalize hA:ta.2=A at *;generalize hB:tb.2=Bn at *;refine MemK_alloc (.agg #[.int .i64 0,.int .i64 0]) (by kernel_rfl) ?_;refine Qs ?_;have hH4:=hH3.box 200 [.int .i64 0,.int .i64 0];generalize w6.alloc (Obj.cells [Value.int .i64 0,.int .i64 0].toArray 200)=w7 at *;generalize w6.heap.size=ga at *;refine MemK_alloc (.agg #[.int .i64 0,.int .i64 0]) (by kernel_rfl) ?_;refine Qs ?_;have hH5:=hH4.box 200 [.int .i64 0,.int .i64 0];generalize w7.alloc (Obj.cells [Value.int .i64 0,.int .i64 0].toArray 200)=w8 at *;generalize w7.heap.size=gb at *;refine MemK_store ?_;refine Qs ?_;refine StoreK_blk hH5 1 (vs:=Qbc ta) rfl rfl (by kernel_rfl) (by simp [Qbc]) (Qdo _) fun w9 hH6=>?_;refine MemK_store ?_;refine Qs ?_;refine StoreK_blk hH6 0 (vs:=Qbc tb) rfl rfl (by kernel_rfl) (by simp [Qbc]) (Qdo _) fun w10 hH7=>?_;have hH7:Heap w [] w10 [Res.blk gb 200 (Qbc tb),Res.blk ga 200 (Qbc ta),trow g cap Tb,tvar gT g cap Tb,Res.row 3 1 (some ⟨go,0,none⟩) (2 * n) (2 * n) (Qag (ov++List.replicate (n - k) 0))]:=hH7;clear hH3 hH4 hH5 hH6;apply hK;clear hK;have ca1:(Qbc ta)[1]? = some (.int .i64 (A:Nat)):=by rw [<- hA];rfl
  have cb1:(Qbc tb)[1]? = some (.int .i64 (Bn:Nat)):=by rw [<- hB];rfl
  have hol:(ov++List.replicate (n - k) 0).length=2 * n:=by simp;omega
  have hF:=hH7.focus 4 rfl;have hla1:=hH7.hole_at 4 1 rfl rfl (by omega) ca1;have hlb1:=hH7.hole_at 4 0 rfl rfl (by omega) cb1;refine VH (holes [go] w10) (Ext.hole _ _) [0,3,6,7,8,9,10] [(0,true),(1,true),(2,true),(3,true),(4,true),(5,true),(6,true),(7,true),(8,true),(9,false),(10,true),(11,false)] fun K hK=>?_;refine ⟨_,hla1,_,hlb1,?_⟩;refine Qs ?_;refine Qp ?_;refine MemK_store ?_;refine Qs ?_;refine Qas hF 0 (o:=(A)) (vs:=[.int .i64 (n+k:Nat)]) rfl (by first | exact (Qa8 _ _ _).symm | rfl | simp [Qa8]) rfl (by kernel_rfl) (by first | omega | (simp;done) | (simp;omega) | (simp [Qan,Qap];omega) | (rw [Qaj];simp;omega)) (by simp [Value.oneCell']) fun w6 hH8=>?_;(try refine Qs ?_);simp only [List.length_singleton,Qb2 (Qag (ov++List.replicate (n - k) 0)) _ _ (show A < (Qag (ov++List.replicate (n - k) 0)).length by rw [Qaj,hol];omega),Qca,List.set_cons_zero,List.set_cons_succ] at hH8;refine ⟨hH8.upd.extH,⟨by omega,by omega⟩,?_⟩;refine MemK_store ?_;refine Qs ?_;refine Qas hH8 0 (o:=(Bn)) (vs:=[.int .i64 (n+k:Nat)]) rfl (by first | exact (Qa8 _ _ _).symm | rfl | simp [Qa8]) rfl (by kernel_rfl) (by first | omega | (simp;done) | (simp;omega) | (simp [Qan,Qap];omega) | (rw [Qaj];simp;omega)) (by simp [Value.oneCell']) fun w6 hH9=>?_;(try refine Qs ?_);simp only [List.length_singleton,Qb2 (Qag ((ov++List.replicate (n - k) 0).set A (n+k))) _ _ (show Bn < (Qag ((ov++List.replicate (n - k) 0).set A (n+k))).length by rw [Qaj,List.length_set,hol];omega),Qca,List.set_cons_zero,List.set_cons_succ] at hH9;refine ⟨hH9.upd.extH,?_⟩;apply hK;clear hK;have hH9:=hH7.call1 4 rfl hH9;simp only [List.set_cons_zero,List.set_cons_succ,List.nil_append] at hH9;clear hF hla1 hlb1
  have hrow:((ov++List.replicate (n - k) 0).set A (n+k)).set Bn (n+k)=((ov.set A ws.length).set Bn ws.length++[0])++List.replicate (n - (k+1)) 0:=by
   rw [List.set_append_left _ _ (by omega),List.set_append_left _ _ (by rw [List.length_set];omega),hlw,QE5 (show 0 < n - k by omega),List.append_assoc,show n - k - 1=n - (k+1) by omega]
  rw [hrow] at hH9;have hH10:Heap w [] w6 [Res.blk gb 200 (Qbc tb),Res.blk ga 200 (Qbc ta),trow g cap Tb,tvar gT g cap Tb,Res.row 3 1 (some ⟨go,0,none⟩) (2 * n) (2 * n) (Qag (((ov.set A ws.length).set Bn ws.length++[0])++List.replicate (n - (k+1)) 0))]:=hH9;have hso:=QCh (ws:=ws) (ov:=(ov.set A ws.length).set Bn ws.length) (ws.getD A 0+ws.getD Bn 0) (by simp;omega);clear hH7 hH8 hH9 hrow hol ca1 cb1;generalize (ov.set A ws.length).set Bn ws.length++[0]=ov' at *;generalize hwx:ws.getD A 0+ws.getD Bn 0=wx at *
  have hpf:(Tb++[(((wx:Nat):Int),n+k)]).Perm (Qe8 (ws++[wx]) ov'):=by
   rw [hso,hlw];rw [hlw] at hpTb;exact hpTb.append_right _
  clear hso hpTb;have hoka':=hoka;have hokb':=hokb;unfold TrOk at hoka' hokb';have hsum:ta.1+tb.1=((wx:Nat):Int):=by rw [hwa,hwb,<- hwx];push_cast;rfl
  have ca0:(Qbc ta)[0]? = some (.int .i64 ta.1):=rfl;have cb0:(Qbc tb)[0]? = some (.int .i64 tb.1):=rfl;refine VQ [0,3,6,7,8] fun K hK=>?_;refine ⟨_,Qae (hH10.at 3 rfl) rfl,_,Qae (hH10.at 1 rfl) ca0,_,Qae (hH10.at 0 rfl) cb0,?_⟩;refine Qs ?_;refine ⟨I64.mk (by omega) (by omega),?_⟩;rw [hsum];refine Qi2 hH10 2 (Qbc ((wx:Int),n+k)) (xs:=[.tmp 59]) Tryz.underlying198 QL6 rfl rfl rfl (by omega) (by omega) ?_;refine Qs ?_;refine ⟨rfl,by simp [Value.cells],fun g2 w11 hH11=>?_⟩;refine Qai ?_;refine Qs ?_;refine Qb7 (zs:=#[.int .i64 0,.int .i64 0]) (bytes:=16) hH11 3 rfl Tryz.underlying198 (by kernel_rfl) rfl ⟨rfl,Qao (hH11.at 0 rfl),200,Tryz.underlying198⟩ (Qdo _) (fun h=>by omega) fun a' cap' w12 hc' hH12=>?_;simp only [List.set_cons_succ,List.set_cons_zero] at hH12;obtain ⟨g',rfl⟩:=Qdu (hH12.at 3 rfl) (by omega);refine MemK_store ?_;refine Qs ?_;refine StoreK_blk hH12 4 (vs:=[.slice (some ⟨g',0,none⟩) (Tb.length+1) cap']) rfl rfl (by kernel_rfl) (by simp) (by simp [Value.oneCell']) fun w13 hH13=>?_
  have hH14:Heap w [] w13 [trow g' cap' (Tb++[((wx:Int),n+k)]),tvar gT g' cap' (Tb++[((wx:Int),n+k)]),Res.row 3 1 (some ⟨go,0,none⟩) (2 * n) (2 * n) (Qag (ov'++List.replicate (n - (k+1)) 0))]:=by
   rw [trow,tvar,Qe7,Qi3,Qud,List.length_append,List.length_singleton];exact hH13.sub (((List.sublist_cons_self _ _).trans (List.sublist_cons_self _ _)).trans (List.sublist_cons_self _ _))
  apply hK;clear hK;refine VS [0,3,6,7,8] ?_;refine Qah ?_;refine Qaa ?_;refine Qs ?_;exact ⟨n - (k+1),by omega,k+1,cap',g',_,_,h',_,rfl,hH14,hstep,hg',hpf,by omega,rfl⟩
 obtain rfl:n=k+1:=by omega
 have hover:Qp1 l=ov:=by rw [Qp1,hn,Nat.add_sub_cancel,hgr]
 have hgrS:Qcf l=(List.range (k+1)).map fun i=>Qbz ov (2 * (k+1)) i:=by rw [Qcf,hover,hn]
 have hdl:∀ f i,Qbz ov f i<=f:=fun f=>by
  induction f with
  | zero=>intro i;simp [Qbz]
  | succ f ih=>intro i;rw [Qbz];split;omega;have:=ih (ov.getD i 0);omega
 have hlo:=hg.lov;rw [hn] at hlo;have hup:=hg.up;rw [hn] at hup;have hdep:∀ i,i < k+1+k->ov.getD i 0≠0->Qbz ov (2 * (k+1)) i=Qbz ov (2 * (k+1)) (ov.getD i 0)+1:=fun i hi h0=>hg.dep _ (by omega) (by omega) h0
 have hd0:∀ i,ov.getD i 0=0->Qbz ov (2 * (k+1)) i=0:=fun i h0=>by
  rw [show 2 * (k+1)=(2 * k+1)+1 by omega,Qbz,if_pos h0]
 rw [hgrS]
 have hH1:Heap w [] w4 [Res.row 3 1 (some ⟨go,0,none⟩) (2 * (k+1)) (2 * (k+1)) (Qag (ov++[0]))]:=by
  have e:k+1 - k=1:=by omega
  rw [e] at hH;exact hH.sub ((List.sublist_cons_self _ _).trans (List.sublist_cons_self _ _))
 clear hH hgrS hgr hg hp hTl hTok hover;have hog:∀ i,i < k+1+k->(ov++[0]).getD i 0=ov.getD i 0:=fun i hi=>Qcs (by omega);have hol:(ov++[0]).length=2 * (k+1):=by simp;omega
 refine Qad rfl ?_;refine VQ [0,6,11] fun K hK=>?_;refine Qba Tryz.underlying36 zi3 ?_;refine Qs ?_;refine ⟨k+1,k+1,⟨rfl,rfl,by omega,by omega,by omega⟩,?_⟩;have hH2:=hH1.row 3 (n:=k+1) (cap:=k+1) (sz:=1) (Qag (List.replicate (k+1) 0)) [] (by simp [Qaj]) (by simp [Qaj]) (by omega) (by omega);rw [List.append_nil,Qbl] at hH2;generalize w4.alloc (Obj.cells (List.replicate (k+1) (Value.int IntKind.i64 0)).toArray 3)=w5 at *;generalize w4.heap.size=gu at *;rw [<- Qbl] at hH2;clear hH1;apply hK;clear hK;refine VS [6,11,68,69] ?_;refine Qab ?_;refine Qac [6,11,68,69] (fun m e w'=>∃ (i:Nat),Is e [(6,.slice (some ⟨go,0,none⟩) (2 * (k+1)) (2 * (k+1))),(11,.slice (some ⟨gu,0,none⟩) (k+1) (k+1)),(68,.int .i64 (k+1:Nat)),(69,.int .i64 i)]/\Heap w [] w' [Res.row 3 1 (some ⟨gu,0,none⟩) (k+1) (k+1) (Qag ((List.range i).map (fun i=>Qbz ov (2 * (k+1)) i)++List.replicate (k+1 - i) 0)),Res.row 3 1 (some ⟨go,0,none⟩) (2 * (k+1)) (2 * (k+1)) (Qag (ov++[0]))]/\i<=k+1/\m=k+1 - i) (k+1) ?_ ?_
 ·
  refine Qs ?_;exact ⟨0,rfl,by simpa using hH2,by omega,rfl⟩
 clear hH2;rintro m e w6 ⟨i,rfl,hH,hi,rfl⟩;refine VS [6,11,68,69,70] ?_;(repeat refine Qar ?_);refine VD (fun h=>?_) (fun h=>?_)
 ·
  have hsn:(List.range (i+1)).map (fun i=>Qbz ov (2 * (k+1)) i)=(List.range i).map (fun i=>Qbz ov (2 * (k+1)) i)++[Qbz ov (2 * (k+1)) i]:=by rw [List.range_succ,List.map_append];rfl
  have hml:((List.range i).map (fun i=>Qbz ov (2 * (k+1)) i)).length=i:=by simp
  have hdi:=hdl (2 * (k+1)) i;generalize (List.range i).map (fun i=>Qbz ov (2 * (k+1)) i)=Dn at *;rw [QE5 (show 0 < k+1 - i by omega),List.singleton_append] at hH;refine VC_skip ?_;refine VB ?_;refine VS [6,11,12,68,69] ?_;refine VS [6,11,12,13,68,69] ?_;refine Qab ?_;refine Qac [6,11,12,13,68,69] (fun m e w'=>∃ (c at_:Nat),Is e [(6,.slice (some ⟨go,0,none⟩) (2 * (k+1)) (2 * (k+1))),(11,.slice (some ⟨gu,0,none⟩) (k+1) (k+1)),(12,.int .i64 i),(13,.int .i64 at_),(68,.int .i64 (k+1:Nat)),(69,.int .i64 i)]/\Heap w [] w' [Res.row 3 1 (some ⟨gu,0,none⟩) (k+1) (k+1) (Qag (Dn++c::List.replicate (k+1 - i - 1) 0)),Res.row 3 1 (some ⟨go,0,none⟩) (2 * (k+1)) (2 * (k+1)) (Qag (ov++[0]))]/\at_ < k+1+k/\c+Qbz ov (2 * (k+1)) at_=Qbz ov (2 * (k+1)) i/\m=2 * (k+1) - at_) (2 * (k+1) - i) ?_ ?_
  ·
   refine Qs ?_;exact ⟨0,i,rfl,hH,by omega,by omega,rfl⟩
  clear hH;rintro m e w7 ⟨c,at_,rfl,hH,hat,hc,rfl⟩;have hov:=hup at_ hat
  have hcell:w7.cell? ⟨go,at_,none⟩=some (.int .i64 ((ov.getD at_ 0:Nat):Int)):=by
   rw [<- hog at_ hat];exact Qaw (hH.at 1 rfl) (Qbw (by omega))
  refine VQ [6,11,12,13,68,69,77] fun K hK=>?_;refine ⟨⟨by omega,by omega⟩,_,hcell,?_⟩;refine Qs ?_;apply hK;clear hK;refine VD (fun h=>?_) (fun h=>?_)
  ·
   have h0:ov.getD at_ 0≠0:=by omega
   have hda:=hdep at_ hat h0;have hlen:(Dn++c::List.replicate (k+1 - i - 1) 0).length=k+1:=by simp;omega
   have hgc:(Dn++c::List.replicate (k+1 - i - 1) 0).getD i 0=c:=by
    rw [List.getD_eq_getElem?_getD,List.getElem?_append_right (by omega),hml,Nat.sub_self];rfl
   have hsc:(Dn++c::List.replicate (k+1 - i - 1) 0).set i (c+1)=Dn++(c+1)::List.replicate (k+1 - i - 1) 0:=by
    rw [List.set_append_right _ _ (by omega),hml,Nat.sub_self];rfl
   have hcu:w7.cell? ⟨gu,i,none⟩=some (.int .i64 ((c:Nat):Int)):=by
    have:=Qaw (hH.at 0 rfl) (Qbw (l:=Dn++c::List.replicate (k+1 - i - 1) 0) (i:=i) (by omega))
    rwa [hgc] at this
   refine VC_skip ?_;refine VB ?_;refine VQ [6,11,12,13,68,69] fun K hK=>?_;refine ⟨⟨by omega,by omega⟩,_,hcu,?_⟩;refine Qs ?_;refine ⟨I64.mk (by omega) (by omega),⟨by omega,by omega⟩,?_⟩;refine MemK_store ?_;refine Qs ?_;refine Qas hH 0 (o:=(i)) (vs:=[.int .i64 (c+1:Nat)]) rfl (by first | exact (Qa8 _ _ _).symm | rfl | simp [Qa8]) rfl (by kernel_rfl) (by first | omega | (simp;done) | (simp;omega) | (simp [Qan,Qap];omega) | (rw [Qaj];simp;omega)) (by simp [Value.oneCell']) fun w6 hH3=>?_;(try refine Qs ?_);simp only [List.length_singleton,Qb2 (Qag (Dn++c::List.replicate (k+1 - i - 1) 0)) _ _ (show i < (Qag (Dn++c::List.replicate (k+1 - i - 1) 0)).length by rw [Qaj,hlen];omega),Qca,List.set_cons_zero,hsc] at hH3;apply hK;clear hK;refine Qah ?_
   have hcell2:w6.cell? ⟨go,at_,none⟩=some (.int .i64 ((ov.getD at_ 0:Nat):Int)):=by
    rw [<- hog at_ hat];exact Qaw (hH3.at 1 rfl) (Qbw (by omega))
   refine VQ [6,11,12,13,68,69] fun K hK=>?_;refine ⟨⟨by omega,by omega⟩,_,hcell2,?_⟩;apply hK;clear hK;refine Qaa ?_;refine Qs ?_;exact ⟨2 * (k+1) - ov.getD at_ 0,by omega,c+1,ov.getD at_ 0,rfl,hH3,by omega,by omega,rfl⟩
  have h0:ov.getD at_ 0=0:=by omega
  rw [hd0 at_ h0] at hc;refine Qad rfl ?_;refine Qah ?_;refine VS [6,11,68,69] ?_;refine Qaa ?_;refine Qs ?_;refine ⟨k+1 - (i+1),by omega,i+1,rfl,?_,by omega,rfl⟩;rw [hsn,<- hc,List.append_assoc,List.singleton_append,Nat.add_zero,show k+1 - (i+1)=k+1 - i - 1 by omega];exact hH
 obtain rfl:i=k+1:=by omega
 refine Qad rfl ?_;refine VS [2] ?_;refine VC_ret (VX_ret1 rfl rfl ?_);have e:((List.range (k+1)).map fun i=>Qbz ov (2 * (k+1)) i).length=k+1:=by simp
 rw [e];rw [Nat.sub_self,List.replicate_zero,List.append_nil] at hH;exact ⟨_,_,hH.sub (by simp),rfl⟩
theorem Qnt (l:List Nat) (f:Nat->Nat) {i:Nat} (h:i < l.length):((l.take i).map f++l.drop i).set i (f (l.getD i 0))=(l.take (i+1)).map f++l.drop (i+1)/\((l.take i).map f++l.drop i).getD i 0=l.getD i 0/\((l.take i).map f++l.drop i).length=l.length:=by
 have h1:=Qb1 0 h;have h2:=drop_getD 0 h;have h3:((l.take i).map f).length=i:=by rw [List.length_map,List.length_take];omega
 refine ⟨?_,?_,?_⟩
 ·
  rw [h2,List.set_append_right _ _ (by omega),h3,Nat.sub_self,List.set_cons_zero,h1,List.map_append,List.append_assoc];rfl
 ·
  rw [h2,List.getD_eq_getElem?_getD,List.getElem?_append_right (by omega),h3,Nat.sub_self];rfl
 rw [List.length_append,h3,List.length_drop];omega
theorem QE6 (l:List Nat) (most:Nat) (hl:2<=l.length) (hl2:l.length<=258) (hx:∀ x∈l,x<=1073741824) (hm:12<=most) (hm2:most<=20) (pa:Option Addr) (lc:Nat) (w:World) (hr:RS w pa l.length 1 (Qag l)) :
  Does Tryz.prog 133 #[.slice pa l.length lc,.int .i64 most] w fun v w'=>∃ a cap,Heap w [] w' [Res.row 3 1 a (lenS l most).length cap (Qag (lenS l most))]/\v=.tuple #[.slice a (lenS l most).length cap,.int .i64 0]:=by
 have hc1:=Qon l hl hl2 hx pa lc w hr;have hc2:=QB9 l (by omega) (by omega) pa lc w hr;refine En [.slice pa l.length lc,.int .i64 most] 59 Tryz.func133 ?_;have hlS:lenS l most=Qkk most 40 (l.map fun x=>max x 1):=rfl;generalize lenS l most=res at *;generalize hn:l.length=n at *;refine VS [0,1] ?_;refine VQ [0,1,22] fun K hK=>?_;refine MemK_call Tryz.call160 ?_;refine Qs ?_;refine CallK.mk hc1 ?_;rintro v w2 ⟨rfl,rfl⟩;refine Qs ?_
 suffices out:∀ b:Bool,(b=true ↔ False)->K [(0,.slice pa n lc),(1,.int .i64 most),(22,.bool b)] w2 by
  rw [Bool.not_true];refine Qs ?_;refine ⟨fun h=>out _ (by simp;omega),fun h=>absurd h (by omega)⟩
 intro b hb;apply hK;clear hK;refine Qaf rfl rfl (fun h=>(hb.1 h).elim) (fun h=>VC_skip ?_);clear hb h;refine VQ [1,6] fun K hK=>?_;refine MemK_call Tryz.call161 ?_;refine Qs ?_;refine CallK.mk hc2 ?_;rintro v w3 ⟨a,cap,hH,rfl⟩;apply hK;clear hK;obtain ⟨g,rfl⟩:=Qdu (hH.at 0 rfl) (by omega);refine VS [1,6,25,26,27] ?_;refine Qab ?_;refine Qac [1,6,25,26,27] (fun m e w'=>∃ (i:Nat),Is e [(1,.int .i64 most),(6,.slice (some ⟨g,0,none⟩) n cap),(25,.slice (some ⟨g,0,none⟩) n cap),(26,.int .i64 n),(27,.int .i64 i)]/\Heap w2 [] w' [Res.row 3 1 (some ⟨g,0,none⟩) n cap (Qag ((l.take i).map (fun x=>max x 1)++l.drop i))]/\i<=n/\m=n - i) n ?_ ?_
 ·
  refine Qs ?_;exact ⟨0,rfl,by simpa using hH,by omega,rfl⟩
 clear hH;rintro m e w4 ⟨i,rfl,hH,hi,rfl⟩;refine VS [1,6,25,26,27,28] ?_;(repeat refine Qar ?_);refine VD (fun h=>?_) (fun h=>?_)
 ·
  obtain ⟨hs1,hs2,hs3⟩:=Qnt l (fun x=>max x 1) (i:=i) (by omega);have hxi:=hx _ (Qaz 0 (l:=l) (i:=i) (by omega));have hcell:=Qaw (hH.at 0 rfl) (Qbw (l:=(l.take i).map (fun x=>max x 1)++l.drop i) (i:=i) (by omega));rw [hs2] at hcell;generalize l.getD i 0=x at *;refine VC_skip ?_;refine VB ?_;refine VQ [1,6,7,8,25,26,27] fun K hK=>?_;refine ⟨⟨by omega,by omega⟩,_,hcell,?_⟩;apply hK;clear hK;refine VQ [1,6,25,26,27] fun K hK=>?_;refine Qp ?_;rw [show max ((x:Nat):Int) 1=((max x 1:Nat):Int) by omega];refine MemK_store ?_;refine Qs ?_;refine Qas hH 0 (o:=(i)) (vs:=[.int .i64 (max x 1:Nat)]) rfl (by first | exact (Qa8 _ _ _).symm | rfl | simp [Qa8]) rfl (by kernel_rfl) (by first | omega | (simp;done) | (simp;omega) | (simp [Qan,Qap];omega) | (rw [Qaj];simp;omega)) (by simp [Value.oneCell']) fun w6 hH2=>?_;(try refine Qs ?_);simp only [List.length_singleton,Qb2 (Qag ((l.take i).map (fun x=>max x 1)++l.drop i)) _ _ (show i < (Qag ((l.take i).map (fun x=>max x 1)++l.drop i)).length by rw [Qaj,hs3];omega),Qca,List.set_cons_zero,hs1] at hH2;apply hK;clear hK;refine Qah ?_;refine VS [1,6,25,26,27] ?_;refine Qaa ?_;refine Qs ?_;exact ⟨n - (i+1),by omega,i+1,rfl,hH2,by omega,rfl⟩
 obtain rfl:i=n:=by omega
 rw [List.take_of_length_le (by omega),List.drop_of_length_le (by omega),List.append_nil] at hH;refine Qad rfl ?_
 have hown1:∀ x∈l.map (fun x=>max x 1),1<=x/\x<=bnd 40/\x<=2147483648:=fun x hx'=>by
  obtain ⟨y,hy,rfl⟩:=List.mem_map.1 hx';have:=hx y hy;have e:bnd 40=549755813890:=by decide
  omega
 have hownl:(l.map fun x=>max x 1).length=i:=by simp [hn]
 generalize l.map (fun x=>max x 1)=own0 at *;generalize i=n at *;clear hn hx hi h;refine Qab ?_;refine Qac [1,6] (fun m e w'=>∃ (t:Nat) (own:List Nat),Is e [(1,.int .i64 most),(6,.slice (some ⟨g,0,none⟩) n cap)]/\Heap w2 [] w' [Res.row 3 1 (some ⟨g,0,none⟩) n cap (Qag own)]/\own.length=n/\(∀ x∈own,1<=x/\x<=bnd t/\x<=2147483648)/\res=Qkk most t own/\m=t) 40 ?_ ?_
 ·
  refine Qs ?_;exact ⟨40,own0,rfl,hH,hownl,hown1,hlS,rfl⟩
 clear hH hown1 hownl hlS;rintro m e w5 ⟨t,own,rfl,hH,hol,hob,hres,rfl⟩;have hgl:=Qfg own;have hc3:=QCi own (by omega) (by omega) (fun x hx'=>⟨(hob x hx').1,(hob x hx').2.2⟩) (some ⟨g,0,none⟩) cap w5 (by rw [hol];exact Qao (hH.at 0 rfl));rw [hol] at hc3 hgl;refine Qab ?_;refine VQ [1,6,9] fun K hK=>?_;refine MemK_call Tryz.call162 ?_;refine Qs ?_;refine CallK.mk hc3 ?_;rintro v w6 ⟨a2,cap2,hHg,rfl⟩;have hH2:=hH.call0 hHg;clear hH hHg;simp only [List.singleton_append] at hH2;apply hK;clear hK;refine VQ [1,6,9,43] fun K hK=>?_;refine MemK_call Tryz.call163 ?_;refine Qs ?_;refine CallK.mk (Qz7 (Qcf own) (by omega) (by omega) a2 cap2 w6 (Qao (hH2.at 0 rfl))) ?_;rintro v w7 ⟨rfl,rfl⟩;refine Qs ?_;apply hK;clear hK;refine VD (fun h=>?_) (fun h=>VC_skip ?_)
 ·
  have hfin:res=Qcf own:=by
   rw [hres];cases m with
   | zero=>rfl
   | succ t=>rw [Qkk,if_pos (by omega)]
  refine VS [4,5] ?_;exact VC_ret (Qat rfl rfl rfl ⟨a2,cap2,by rw [hfin];exact hH2.sub (by simp),by rw [hfin]⟩)
 obtain ⟨t,rfl⟩:∃ t,m=t+1:=by
  cases m with
  | succ t=>exact ⟨t,rfl⟩
  | zero =>
   have:=Qmv (w:=own) (by omega) (by omega) (fun x hx'=>⟨(hob x hx').1,(hob x hx').2.1⟩);omega
 rw [Qkk,if_neg (by omega)] at hres;have hH3:Heap w2 [] w7 [Res.row 3 1 (some ⟨g,0,none⟩) n cap (Qag own)]:=hH2.sub (by simp);clear hH2 h;refine VS [1,6,45,46,47] ?_;refine Qab ?_;refine Qac [1,6,45,46,47] (fun m e w'=>∃ (i:Nat),Is e [(1,.int .i64 most),(6,.slice (some ⟨g,0,none⟩) n cap),(45,.slice (some ⟨g,0,none⟩) n cap),(46,.int .i64 n),(47,.int .i64 i)]/\Heap w2 [] w' [Res.row 3 1 (some ⟨g,0,none⟩) n cap (Qag ((own.take i).map (fun x=>x / 2+1)++own.drop i))]/\i<=n/\m=n - i) n ?_ ?_
 ·
  refine Qs ?_;exact ⟨0,rfl,by simpa using hH3,by omega,rfl⟩
 clear hH3;rintro m e w8 ⟨i,rfl,hH,hi,rfl⟩;refine VS [1,6,45,46,47,48] ?_;(repeat refine Qar ?_);refine VD (fun h=>?_) (fun h=>?_)
 ·
  obtain ⟨hs1,hs2,hs3⟩:=Qnt own (fun x=>x / 2+1) (i:=i) (by omega);have hxi:=hob _ (Qaz 0 (l:=own) (i:=i) (by omega));have hcell:=Qaw (hH.at 0 rfl) (Qbw (l:=(own.take i).map (fun x=>x / 2+1)++own.drop i) (i:=i) (by omega));rw [hs2] at hcell;generalize own.getD i 0=x at *;refine VC_skip ?_;refine VB ?_;refine VQ [1,6,10,11,45,46,47] fun K hK=>?_;refine ⟨⟨by omega,by omega⟩,_,hcell,?_⟩;apply hK;clear hK;refine VQ [1,6,45,46,47] fun K hK=>?_;(repeat first | refine Qo ?_ | refine Qp ?_);rw [show ((x:Nat):Int) / 2+1=((x / 2+1:Nat):Int) by omega];refine MemK_store ?_;refine Qs ?_;refine Qas hH 0 (o:=(i)) (vs:=[.int .i64 (x / 2+1:Nat)]) rfl (by first | exact (Qa8 _ _ _).symm | rfl | simp [Qa8]) rfl (by kernel_rfl) (by first | omega | (simp;done) | (simp;omega) | (simp [Qan,Qap];omega) | (rw [Qaj];simp;omega)) (by simp [Value.oneCell']) fun w6 hH2=>?_;(try refine Qs ?_);simp only [List.length_singleton,Qb2 (Qag ((own.take i).map (fun x=>x / 2+1)++own.drop i)) _ _ (show i < (Qag ((own.take i).map (fun x=>x / 2+1)++own.drop i)).length by rw [Qaj,hs3];omega),Qca,List.set_cons_zero,hs1] at hH2;apply hK;clear hK;refine Qah ?_;refine VS [1,6,45,46,47] ?_;refine Qaa ?_;refine Qs ?_;exact ⟨n - (i+1),by omega,i+1,rfl,hH2,by omega,rfl⟩
 obtain rfl:i=n:=by omega
 rw [List.take_of_length_le (by omega),List.drop_of_length_le (by omega),List.append_nil] at hH;refine Qad rfl ?_;refine Qah ?_;refine Qaa ?_;refine Qs ?_;refine ⟨t,by omega,t,own.map fun x=>x / 2+1,rfl,hH,by simp [hol],fun x hx'=>?_,hres,rfl⟩;obtain ⟨y,hy,rfl⟩:=List.mem_map.1 hx';have:=hob y hy;exact ⟨by omega,Qz0 this.2.1,by omega⟩
def Qbj (hs:List (Option Addr×Nat)) (T:List (List Nat)):List Value:=List.zipWith (fun h t=>.slice h.1 t.length h.2) hs T
theorem Qg0 {hs:List (Option Addr×Nat)}{T:List (List Nat)} (h:hs.length=T.length):(Qbj hs T).length=T.length:=by simp [Qbj,h]
theorem Qb0 {hs:List (Option Addr×Nat)}{T:List (List Nat)}{i:Nat}{h:Option Addr×Nat}{t:List Nat} (h1:hs[i]? = some h) (h2:T[i]? = some t):(Qbj hs T)[i]? = some (.slice h.1 t.length h.2):=by
 simp [Qbj,List.getElem?_zipWith,h1,h2]
theorem Qyk (hs:List (Option Addr×Nat)) (T:List (List Nat)):∀ u∈Qbj hs T,u.oneCell'=true:=by
 intro u hu;obtain ⟨i,hi⟩:=List.mem_iff_getElem?.1 hu;rw [Qbj,List.getElem?_zipWith] at hi;split at hi
 ·
  cases hi;rfl
 cases hi
theorem Qyl {hs:List (Option Addr×Nat)}{T:List (List Nat)} (i:Nat) (h:Option Addr×Nat) (t:List Nat):(Qbj hs T).set i (.slice h.1 t.length h.2)=Qbj (hs.set i h) (T.set i t):=by
 unfold Qbj;apply List.ext_getElem?;intro j;rw [List.getElem?_set,List.getElem?_zipWith,List.getElem?_zipWith,List.getElem?_set,List.getElem?_set];by_cases e:i=j
 ·
  subst e;rw [if_pos rfl,if_pos rfl,if_pos rfl];simp only [List.length_zipWith];by_cases h1:i < hs.length
  ·
   by_cases h2:i < T.length
   ·
    rw [if_pos (by omega),if_pos h1,if_pos h2]
   rw [if_neg (by omega),if_pos h1,if_neg h2]
  rw [if_neg (by omega),if_neg h1]
 rw [if_neg e,if_neg e,if_neg e]
theorem Qhi {hs:List (Option Addr×Nat)}{T:List (List Nat)} (hl:hs.length=T.length) (h:Option Addr×Nat) (t:List Nat):Qbj hs T++[.slice h.1 t.length h.2]=Qbj (hs++[h]) (T++[t]):=by
 unfold Qbj;rw [List.zipWith_append hl];rfl
def PlanAt (w:World) (v:Value) (T:List (List Nat)) (P:List Nat):Prop :=
 ∃ ta tc pa pc,∃ hs:List (Option Addr×Nat),v=.agg #[.slice ta T.length tc,.slice pa P.length pc]/\hs.length=T.length/\RS w ta T.length 1 (Qbj hs T)/\RS w pa P.length 1 (Qag P) /\
  ∀ (i:Nat) (h:Option Addr×Nat) (t:List Nat),hs[i]? = some h->T[i]? = some t->RS w h.1 t.length 1 (Qag t)
theorem PlanAt.keep {w w':World}{v:Value}{T:List (List Nat)}{P:List Nat}{G:List Res} (h:PlanAt w v T P) (hH:Heap w [] w' G):PlanAt w' v T P:=by
 obtain ⟨ta,tc,pa,pc,hs,h1,h2,h3,h4,h5⟩:=h;exact ⟨ta,tc,pa,pc,hs,h1,h2,hH.rs' h3,hH.rs' h4,fun i h t a b=>hH.rs' (h5 i h t a b)⟩
def Qak (ta:Option Addr) (nt tc:Nat) (pa:Option Addr) (np pc:Nat):List Value:=[.slice ta nt tc,.slice pa np pc]
theorem Qm2 (l:List Nat) (n:Nat) (hm:Qe2 l n) (a:Option Addr) (lc:Nat) (w:World) (hr:RS w a l.length 1 (Qag l)) :
  Does Tryz.prog 129 #[.slice a l.length lc,.int .i64 n] w fun v w'=>w'=w/\v=.bool true:=by
 obtain ⟨h1,h2,h3,h4,h5⟩:=hm;obtain ⟨p,rfl⟩:=Qbb hr (by omega);refine En [.slice (some p) l.length lc,.int .i64 n] 37 Tryz.func129 ?_;generalize hn:l.length=m at *;refine VS [0,1] ?_;refine VQ [0,1,22] fun K hK=>?_
 suffices out:∀ b:Bool,(b=true ↔ False)->K [(0,.slice (some p) m lc),(1,.int .i64 n),(22,.bool b)] w by (repeat' (first | exact out _ _ (by first | omega | (simp;done) | (simp;omega)) | exact out _ (by first | omega | (simp;done) | (simp;omega)) | refine ⟨fun _=>?_,fun _=>?_⟩ | refine Qo ?_))
 intro b hb;apply hK;clear hK;refine Qaf rfl rfl (fun h=>(hb.1 h).elim) (fun h=>VC_skip ?_);clear hb h;refine VS [1,23,24,25] ?_;refine Qab ?_;refine Qac [1,23,24,25] (fun m' e w'=>∃ (i:Nat),Is e [(1,.int .i64 n),(23,.slice (some p) m lc),(24,.int .i64 m),(25,.int .i64 i)]/\Is w' w/\i<=m/\m'=m - i) m ?_ ?_
 ·
  refine Qs ?_;exact ⟨0,rfl,rfl,by omega,rfl⟩
 rintro m' e w' ⟨i,rfl,rfl,hi,rfl⟩;refine VS [1,23,24,25,26] ?_;(repeat refine Qar ?_);refine Vi (fun h=>?_) (fun h=>?_)
 ·
  simp only [decide_eq_true_eq] at h;have hcell:=Qbk hr (i:=i) (by omega);have hx:=h5 _ (Qaz 0 (l:=l) (i:=i) (by omega));generalize l.getD i 0=x at *;refine VC_skip ?_;refine VB ?_;refine VQ [1,6,23,24,25] fun K hK=>?_;refine ⟨⟨by omega,by omega⟩,_,hcell,?_⟩;apply hK;clear hK;refine VQ [1,23,24,25,35] fun K hK=>?_
  suffices out:∀ b:Bool,(b=true ↔ False)->K [(1,.int .i64 n),(23,.slice (some p) m lc),(24,.int .i64 m),(25,.int .i64 i),(35,.bool b)] w' by (repeat' (first | exact out _ _ (by first | omega | (simp;done) | (simp;omega)) | exact out _ (by first | omega | (simp;done) | (simp;omega)) | refine ⟨fun _=>?_,fun _=>?_⟩ | refine Qo ?_))
  intro b hb;apply hK;clear hK;refine Qaf rfl rfl (fun h=>(hb.1 h).elim) (fun h=>VC_skip ?_);refine Qah ?_;refine VS [1,23,24,25] ?_;refine Qaa ?_;refine Qs ?_;exact ⟨m - (i+1),by omega,i+1,rfl,rfl,by omega,rfl⟩
 refine Qad rfl ?_;refine VS [4] ?_;exact VC_ret (VX_ret1 rfl rfl ⟨rfl,rfl⟩)
theorem Qig (m:Nat) (hm:m<=1000000000) (w:World):Does Tryz.prog 83 #[.int .i64 m] w fun v w'=>w'=w/\v=.int .i64 (Qa4 m:Nat):=by
 refine En [.int .i64 m] 7 Tryz.func83 ?_;refine VS [0] ?_;refine VQ [2] fun K hK=>?_;(repeat first | refine Qo ?_ | refine Qp ?_);rw [show ((m:Int)+50 - 1) / 50=((Qa4 m:Nat):Int) by unfold Qa4;omega];apply hK;clear hK;exact VC_ret (VX_ret1 rfl rfl ⟨rfl,rfl⟩)
theorem Qrf (l:List Nat) (k:Nat) (hk:50 * k < l.length) (hl:l.length<=1000000000) (p:Addr) (lc:Nat) (hlc:l.length<=lc) (w:World) :
  Does Tryz.prog 132 #[.slice (some p) l.length lc,.int .i64 k] w fun v w'=>w'=w/\v=.slice (some (p.add (50 * k))) (Qcl l k).length (lc - 50 * k):=by
 have hcl:(Qcl l k).length=min 50 (l.length - 50 * k):=by simp [Qcl]
 refine En [.slice (some p) l.length lc,.int .i64 k] 15 Tryz.func132 ?_;generalize hn:l.length=n at *;refine VS [0,1] ?_;refine VQ [4] fun K hK=>?_;(repeat (first | refine Qo ?_ | refine ⟨I64.mk (by omega) (by omega),?_⟩ | refine ⟨⟨by omega,by omega,by omega⟩,?_⟩));rw [if_neg (by omega),show ((k:Int) * 50).toNat=50 * k by omega,show (min (n:Int) (((k:Int)+1) * 50)).toNat - 50 * k=(Qcl l k).length by rw [hcl];omega];apply hK;clear hK;exact VC_ret (VX_ret1 rfl rfl ⟨rfl,rfl⟩)
theorem Qs0 {w:World}{l:List Nat}{p:Addr} (hr:RS w (some p) l.length 1 (Qag l)) (hp:p.spot=none) {k:Nat} (hk:50 * k < l.length):RS w (some (p.add (50 * k))) (Qcl l k).length 1 (Qag (Qcl l k)):=by
 have h1:=hr.drop hp (50 * k) (by omega);rw [Nat.mul_one] at h1;have h2:=h1.take (Qcl l k).length (by simp [Qcl];omega);rw [Nat.mul_one,Qq4,Qmf] at h2
 have e:(l.drop (50 * k)).take (Qcl l k).length=Qcl l k:=by
  unfold Qcl;rw [List.length_take,List.take_eq_take_iff];omega
 rwa [e] at h2
theorem Qym (m:Nat) (h1:1<=m) (hm:m<=1000000000) (w:World):Does Tryz.prog 130 #[.int .i64 m] w fun v w'=>w'=w/\v=.tuple #[.int .i64 (Qb6 m:Nat),.int .i64 0]:=by
 refine En [.int .i64 m] 19 Tryz.func130 ?_;refine VS [0] ?_;refine VS [0,7] ?_;refine Qaf rfl rfl (fun h=>by simp at h;omega) (fun h=>VC_skip ?_);refine VQ [0,8,9] fun K hK=>?_
 suffices hsuf:∀ x:Array Value,x=(Qag [200,600,1200,2400]).toArray->K [(0,.int .i64 m),(8,.agg x),(9,.int .i64 0)] w from hsuf _ (by kernel_rfl)
 rintro x rfl;apply hK;clear hK;refine Qab ?_;refine Qac [0,8,9] (fun m' e w'=>∃ (i:Nat),Is e [(0,.int .i64 m),(8,.agg (Qag [200,600,1200,2400]).toArray),(9,.int .i64 i)]/\Is w' w/\i<=4/\(∀ j,j < i->[200,600,1200,2400].getD j 0<=m)/\m'=4 - i) 4 ?_ ?_
 ·
  refine Qs ?_;exact ⟨0,rfl,rfl,by omega,fun j hj=>by omega,rfl⟩
 rintro m' e w' ⟨i,rfl,rfl,hi,hj,rfl⟩;refine VS [0,8,9,10] ?_;(repeat refine Qar ?_);refine VD (fun h=>?_) (fun h=>?_)
 ·
  have hvn:vNth (Qag [200,600,1200,2400]) i=fun K=>K (.int .i64 ([200,600,1200,2400].getD i 0:Nat)):=by
   funext K;exact Qx6 (Qbw (by simp;omega))
  refine VC_skip ?_;refine VB ?_;refine VQ [0,4,5,8,9] fun K hK=>?_;rw [hvn]
  dsimp only
  refine Qp ?_;apply hK;clear hK;refine VS [0,4,8,9,15] ?_;refine VD (fun h=>?_) (fun h=>VC_skip ?_)
  ·
   have ht:Qb6 m=i+2:=by
    have h0:=hj 0;have h1':=hj 1;have h2:=hj 2
    match i,hi,h,h0,h1',h2 with
    | 0,_,h,_,_,_=>simp at h;unfold Qb6;rw [if_pos (by omega)]
    | 1,_,h,h0,_,_=>simp at h h0;unfold Qb6;rw [if_neg (by omega),if_pos (by omega)]
    | 2,_,h,h0,h1',_=>simp at h h0 h1';unfold Qb6;rw [if_neg (by omega),if_neg (by omega),if_pos (by omega)]
    | 3,_,h,h0,h1',h2=>simp at h h0 h1' h2;unfold Qb6;rw [if_neg (by omega),if_neg (by omega),if_neg (by omega),if_pos (by omega)]
    | 4,_,h,_,_,_=>exact absurd h (by simp)
   refine VS [2,3] ?_;exact VC_ret (Qat rfl rfl rfl ⟨rfl,by rw [ht];rfl⟩)
  refine Qah ?_;refine VS [0,8,9] ?_;refine Qaa ?_;refine Qs ?_;refine ⟨4 - (i+1),by omega,i+1,rfl,rfl,by omega,fun j hj2=>?_,rfl⟩;by_cases e:j=i
  ·
   rw [e];omega
  exact hj j (by omega)
 have h0:=hj 0 (by omega);have h1':=hj 1 (by omega);have h2:=hj 2 (by omega);have h3:=hj 3 (by omega);simp at h0 h1' h2 h3;have ht:Qb6 m=6:=by unfold Qb6;rw [if_neg (by omega),if_neg (by omega),if_neg (by omega),if_neg (by omega)]
 refine Qad rfl ?_;refine VS [2,3] ?_;exact VC_ret (Qat rfl rfl rfl ⟨rfl,by rw [ht];rfl⟩)
theorem Qm3 (m:Nat) (h0:0 < m) (hm:m<=1000000) (w:World):Does Tryz.prog 80 #[.int .i64 m] w fun v w'=>∃ g,Heap w [] w' [Res.row 3 1 (some ⟨g,0,none⟩) m m (Qag (List.range m))]/\v=.slice (some ⟨g,0,none⟩) m m:=by
 refine En [.int .i64 m] 18 Tryz.func80 ?_;refine VS [0] ?_;refine VQ [3] fun K hK=>?_;refine Qba Tryz.underlying36 zi3 ?_;refine Qs ?_;refine ⟨m,m,⟨rfl,rfl,by omega,by omega,by omega⟩,?_⟩;have hH:=(Heap.start w).row 3 (n:=m) (cap:=m) (sz:=1) (Qag (List.replicate m 0)) [] (by simp [Qaj]) (by simp [Qaj]) (by omega) (by omega);rw [List.append_nil,Qbl] at hH;generalize w.alloc (Obj.cells (List.replicate m (Value.int IntKind.i64 0)).toArray 3)=w1 at *;generalize w.heap.size=go at *;rw [<- Qbl] at hH;apply hK;clear hK;refine VS [3,8,9] ?_;refine Qab ?_;refine Qac [3,8,9] (fun m' e w'=>∃ (i:Nat),Is e [(3,.slice (some ⟨go,0,none⟩) m m),(8,.int .i64 m),(9,.int .i64 i)]/\Heap w [] w' [Res.row 3 1 (some ⟨go,0,none⟩) m m (Qag (List.range i++List.replicate (m - i) 0))]/\i<=m/\m'=m - i) m ?_ ?_
 ·
  refine Qs ?_;exact ⟨0,rfl,by simpa using hH,by omega,rfl⟩
 clear hH;rintro m' e w' ⟨i,rfl,hH,hi,rfl⟩;refine VS [3,8,9,10] ?_;(repeat refine Qar ?_);refine VD (fun h=>?_) (fun h=>?_)
 ·
  have hset:(List.range i++List.replicate (m - i) 0).set i i=List.range (i+1)++List.replicate (m - (i+1)) 0:=by
   obtain ⟨q,hq⟩:∃ q,m - i=q+1:=⟨m - i - 1,by omega⟩;rw [hq,List.replicate_succ,List.set_append_right _ _ (by simp),List.length_range,Nat.sub_self,List.set_cons_zero,List.range_succ,List.append_assoc,show m - (i+1)=q by omega];rfl
  have hlen:(List.range i++List.replicate (m - i) 0).length=m:=by simp;omega
  refine VC_skip ?_;refine VB ?_;refine VS [3,4,8,9] ?_;refine VQ [3,8,9] fun K hK=>?_;refine Qp ?_;refine MemK_store ?_;refine Qs ?_;refine Qas hH 0 (o:=(i)) (vs:=[.int .i64 (i:Nat)]) rfl (by first | exact (Qa8 _ _ _).symm | rfl | simp [Qa8]) rfl (by kernel_rfl) (by first | omega | (simp;done) | (simp;omega) | (simp [Qan,Qap];omega) | (rw [Qaj];simp;omega)) (by simp [Value.oneCell']) fun w6 hH2=>?_;(try refine Qs ?_);simp only [List.length_singleton,Qb2 (Qag (List.range i++List.replicate (m - i) 0)) _ _ (show i < (Qag (List.range i++List.replicate (m - i) 0)).length by rw [Qaj,hlen];omega),Qca,List.set_cons_zero,hset] at hH2;apply hK;clear hK;refine Qah ?_;refine VS [3,8,9] ?_;refine Qaa ?_;refine Qs ?_;exact ⟨m - (i+1),by omega,i+1,rfl,hH2,by omega,rfl⟩
 obtain rfl:i=m:=by omega
 rw [Nat.sub_self,List.replicate_zero,List.append_nil] at hH;refine Qad rfl ?_;refine VS [2] ?_;exact VC_ret (VX_ret1 rfl rfl ⟨go,hH,rfl⟩)
theorem Qm4 (li:List Nat) (g cap at_:Nat) (hat:at_ < li.length) (hl:li.length<=1000000000000) (w0 w:World) (B:List Nat) (G:List Res) (hL:Heap w0 B w (Res.row 3 1 (some ⟨g,0,none⟩) li.length cap (Qag li)::G)) :
  Does Tryz.prog 81 #[.slice (some ⟨g,0,none⟩) li.length cap,.int .i64 at_] w
   fun v w'=>Heap w0 B w' (Res.row 3 1 (some ⟨g,0,none⟩) li.length cap (Qag (Qd9 li at_))::G)/\v=.int .i64 (li.getD at_ 0:Nat):=by
 refine En [.slice (some ⟨g,0,none⟩) li.length cap,.int .i64 at_] 22 Tryz.func81 ?_;refine VS [0,1] ?_;refine VQ [0,1,5] fun K hK=>?_;(repeat (first | refine Qo ?_ | refine Qp ?_ | (refine ⟨_,(by first | exact Qae (hL.at 0 rfl) rfl | exact Qaw (hL.at 0 rfl) (bytesV_get (by omega)) | exact Qaw (hL.at 0 rfl) (Qcv (by omega)) | exact Qaw (hL.at 0 rfl) (Qbw (by omega)) | exact Qae (hL.at 1 rfl) rfl | exact Qaw (hL.at 1 rfl) (bytesV_get (by omega)) | exact Qaw (hL.at 1 rfl) (Qcv (by omega)) | exact Qaw (hL.at 1 rfl) (Qbw (by omega)) | exact Qae (hL.at 2 rfl) rfl | exact Qaw (hL.at 2 rfl) (bytesV_get (by omega)) | exact Qaw (hL.at 2 rfl) (Qcv (by omega)) | exact Qaw (hL.at 2 rfl) (Qbw (by omega)) | exact Qae (hL.at 3 rfl) rfl | exact Qaw (hL.at 3 rfl) (bytesV_get (by omega)) | exact Qaw (hL.at 3 rfl) (Qcv (by omega)) | exact Qaw (hL.at 3 rfl) (Qbw (by omega))),?_⟩;(try refine Qs ?_))));apply hK;clear hK;refine VL [0,5] 7 fun K hK=>?_;obtain ⟨hx1,hx2,hx3,hx4⟩:=hL.at 0 rfl;clear hx1 hx4;refine ⟨I64.mk (by omega) (by omega),⟨by omega,by omega,by omega⟩,⟨by omega,by omega⟩,?_⟩
 have hsrc:RS w (some ⟨g,0,none⟩) at_ 1 (Qag (li.take at_)):=by
  rw [<- Qmf];have h:=(Qao (hL.at 0 rfl)).take at_ (by omega)
  rwa [Nat.mul_one] at h
 suffices hall:∀ w5,Heap w0 B w5 (Res.row 3 1 (some ⟨g,0,none⟩) li.length cap (Qag (li.take 1++li.take at_++li.drop (at_+1)))::G)->K [(0,.slice (some ⟨g,0,none⟩) li.length cap),(5,.int .i64 (li.getD at_ 0:Nat))] w5 by
  refine Qn6 ?_;refine Qs ?_;by_cases hc1:cap=1
  ·
   have h0:at_=0:=by omega
   subst h0;rw [if_pos (by rw [hc1];rfl)];refine Qi0 hL 0 rfl Tryz.underlying36 sz3 (off:=0) rfl ⟨rfl,hsrc,3,Tryz.underlying36⟩ (Qc2 _) (by simp) fun w5 hu hH4=>?_;refine hall w5 ?_;rw [show li.take 1++li.take 0++li.drop (0+1)=li by rw [List.take_zero,List.append_nil];exact List.take_append_drop 1 li];simpa using hH4
  rw [if_neg (by rw [show Int.toNat 1=1 from rfl];exact hc1)];simp only [Option.map_some];refine Qi0 hL 0 rfl Tryz.underlying36 sz3 (off:=1) rfl ⟨rfl,hsrc,3,Tryz.underlying36⟩ (Qc2 _) (by rw [Qaj,show Int.toNat 1=1 from rfl];omega) fun w5 hu hH4=>?_;refine hall w5 ?_;have e:min at_ (at_+1 - Int.toNat 1) * 1=at_:=by rw [show Int.toNat 1=1 from rfl];omega
  simp only [e,List.set_cons_zero] at hH4;rw [Qcq,Qcq,<- Qmf,<- Qq4];have e5:(Qag (li.take at_)).take at_=Qag (li.take at_):=List.take_of_length_le (by rw [Qaj,List.length_take];omega);rw [e5,show 1+at_=at_+1 by omega] at hH4;exact hH4
 intro w5 hH;apply hK;clear hK;have hlen:(li.take 1++li.take at_++li.drop (at_+1)).length=li.length:=by simp;omega
 have hmv:(li.take 1++li.take at_++li.drop (at_+1)).set 0 (li.getD at_ 0)=Qd9 li at_:=by
  cases li with
  | nil=>simp at hat
  | cons x r=>simp [Qd9]
 generalize li.take 1++li.take at_++li.drop (at_+1)=li2 at *;refine VQ [5] fun K hK=>?_;refine Qp ?_;refine MemK_store ?_;refine Qs ?_;refine Qas hH 0 (o:=(0)) (vs:=[.int .i64 (li.getD at_ 0:Nat)]) rfl (by first | exact (Qa8 _ _ _).symm | rfl | simp [Qa8]) rfl (by kernel_rfl) (by first | omega | (simp;done) | (simp;omega) | (simp [Qan,Qap];omega) | (rw [Qaj];simp;omega)) (by simp [Value.oneCell']) fun w6 hH2=>?_;(try refine Qs ?_);simp only [List.length_singleton,Qb2 (Qag li2) _ _ (show 0 < (Qag li2).length by rw [Qaj];omega),Qca,List.set_cons_zero,hmv] at hH2;apply hK;clear hK;refine VS [4] ?_;exact VC_ret (VX_ret1 rfl rfl ⟨hH2,rfl⟩)
theorem Qjg (v:Value) (T:List (List Nat)) (P:List Nat) (hm:mayP T P) (w:World) (hp:PlanAt w v T P):Does Tryz.prog 79 #[v] w fun x w'=>Heap w [] w' []/\x=.bool true:=by
 obtain ⟨ta,tc,pa,pc,hs,rfl,hsl,hrT,hrP,hrt⟩:=hp;obtain ⟨m1,m2,m3,m4,m5,m6⟩:=hm;obtain ⟨qt,rfl⟩:=Qbb hrT (by omega);obtain ⟨qp,rfl⟩:=Qbb hrP (by omega);have hen:#[Value.agg #[.slice (some qt) T.length tc,.slice (some qp) P.length pc]]=[Value.agg (Qak (some qt) T.length tc (some qp) P.length pc).toArray].toArray:=rfl;rw [hen];refine Qdj 72 Tryz.func79 rfl rfl (of_decide_eq_true rfl) ?_;simp only [Env.ofArgs];generalize hnt:T.length=nt at *;generalize hnp:P.length=np at *;refine VQ [1] fun K hK=>?_;refine Qce ?_;refine Qs ?_;have hH:=(Heap.start w).box 65 (Qak (some qt) nt tc (some qp) np pc);generalize w.alloc (Obj.cells (Qak (some qt) nt tc (some qp) np pc).toArray 65)=w1 at *;generalize w.heap.size=gp at *;have c0:w1.cell? ⟨gp,0,none⟩=some (.slice (some qt) nt tc):=Qae (hH.at 0 rfl) rfl;have c1:w1.cell? ⟨gp,1,none⟩=some (.slice (some qp) np pc):=Qae (hH.at 0 rfl) rfl;apply hK;clear hK;refine VQ [1,28] fun K hK=>?_
 suffices out:∀ b:Bool,(b=true ↔ False)->K [(1,.pointer (some ⟨gp,0,none⟩)),(28,.bool b)] w1 by
  refine ⟨_,c0,?_⟩;refine Qs ?_;refine ⟨fun _=>⟨_,c0,?_⟩,fun h2=>absurd h2 (by omega)⟩;refine Qs ?_;refine ⟨fun _=>⟨_,c1,?_⟩,fun h2=>absurd h2 (by omega)⟩;refine Qs ?_;refine ⟨fun _=>⟨_,c1,?_⟩,fun h2=>absurd h2 (by omega)⟩;refine Qs ?_;exact out _ (by simp;omega)
 intro b hb;apply hK;clear hK;refine Qaf rfl rfl (fun h=>(hb.1 h).elim) (fun h=>VC_skip ?_);clear hb h;have hT0:T[0]? = some (T.getD 0 []):=by rw [List.getD_eq_getElem?_getD,List.getElem?_eq_getElem (by omega)];rfl
 refine VQ [1,30,31,32] fun K hK=>?_;refine ⟨_,c0,?_⟩;refine Qs ?_;apply hK;clear hK;refine Qab ?_;refine Qac [1,30,31,32] (fun m e w'=>∃ (i:Nat),Is e [(1,.pointer (some ⟨gp,0,none⟩)),(30,.slice (some qt) nt tc),(31,.int .i64 nt),(32,.int .i64 i)]/\Is w' w1/\i<=nt/\m=nt - i) nt ?_ ?_
 ·
  refine Qs ?_;exact ⟨0,rfl,rfl,by omega,rfl⟩
 rintro m e w2 ⟨i,rfl,rfl,hi,rfl⟩;refine VS [1,30,31,32,33] ?_;(repeat refine Qar ?_);refine VD (fun h=>?_) (fun h=>?_)
 ·
  have hTi:T[i]? = some (T.getD i []):=by rw [List.getD_eq_getElem?_getD,List.getElem?_eq_getElem (by omega)];rfl
  obtain ⟨hh,hhi⟩:∃ hh,hs[i]? = some hh:=⟨_,List.getElem?_eq_getElem (by omega)⟩;obtain ⟨h0,hh0⟩:∃ h0,hs[0]? = some h0:=⟨_,List.getElem?_eq_getElem (by omega)⟩;have hrs:=hH.rs' hrT;have hci:=hrs.2.2 qt rfl i _ (Qb0 hhi hTi);have hc0:=hrs.2.2 qt rfl 0 _ (Qb0 hh0 hT0);have hrt2:=hH.rs' (hrt i hh _ hhi hTi);obtain ⟨e1,e2,e3⟩:=m5 _ (List.mem_of_getElem? hTi);have hck:=Qie (T.getD i []) hh.1 hh.2 w2 hrt2;rw [if_pos (Qlf.2 e3)] at hck;generalize T.getD i []=t at *;generalize T.getD 0 []=t0 at *;refine VC_skip ?_;refine VB ?_;refine VQ [1,4,30,31,32] fun K hK=>?_;refine ⟨⟨by omega,by omega⟩,_,hci,?_⟩;apply hK;clear hK;refine VQ [1,30,31,32,53] fun K hK=>?_;refine ⟨_,c0,?_⟩;refine Qs ?_;refine ⟨by omega,_,hc0,?_⟩;refine Qs ?_;refine ⟨fun _=>⟨fun _=>?_,fun h2=>absurd h2 (by omega)⟩,fun h2=>absurd h2 (by omega)⟩;refine MemK_call Tryz.call103 ?_;refine Qs ?_;refine CallK.mk hck ?_;rintro v w3 ⟨rfl,rfl⟩;refine Qs ?_;apply hK;clear hK;refine Qaf rfl rfl (fun h=>by simp at h) (fun h=>VC_skip ?_);refine Qah ?_;refine VS [1,30,31,32] ?_;refine Qaa ?_;refine Qs ?_;exact ⟨nt - (i+1),by omega,i+1,rfl,rfl,by omega,rfl⟩
 refine Qad rfl ?_;refine VQ [1,56,57,58] fun K hK=>?_;refine ⟨_,c1,?_⟩;refine Qs ?_;apply hK;clear hK;refine Qab ?_;refine Qac [1,56,57,58] (fun m e w'=>∃ (i:Nat),Is e [(1,.pointer (some ⟨gp,0,none⟩)),(56,.slice (some qp) np pc),(57,.int .i64 np),(58,.int .i64 i)]/\Is w' w2/\i<=np/\m=np - i) np ?_ ?_
 ·
  refine Qs ?_;exact ⟨0,rfl,rfl,by omega,rfl⟩
 rintro m e w3 ⟨j,rfl,rfl,hj,rfl⟩;refine VS [1,56,57,58,59] ?_;(repeat refine Qar ?_);refine Vi (fun h=>?_) (fun h=>?_)
 ·
  simp only [decide_eq_true_eq] at h;have hcell:=Qbk (hH.rs' hrP) (i:=j) (by omega);have hx:=m6 _ (Qaz 0 (l:=P) (i:=j) (by omega));generalize P.getD j 0=x at *;refine VC_skip ?_;refine VB ?_;refine VQ [1,6,56,57,58] fun K hK=>?_;refine ⟨⟨by omega,by omega⟩,_,hcell,?_⟩;apply hK;clear hK;refine VQ [1,56,57,58,70] fun K hK=>?_;refine ⟨fun _=>⟨_,c0,?_⟩,fun h2=>absurd h2 (by omega)⟩;refine Qs ?_;rw [decide_eq_false (show ¬ ((nt:Int)<=x) by omega)];apply hK;clear hK;refine Qaf rfl rfl (fun h=>by simp at h) (fun h=>VC_skip ?_);refine Qah ?_;refine VS [1,56,57,58] ?_;refine Qaa ?_;refine Qs ?_;exact ⟨np - (j+1),by omega,j+1,rfl,rfl,by omega,rfl⟩
 refine Qad rfl ?_;refine VS [2] ?_;exact VC_ret (VX_ret1 rfl rfl ⟨hH.sub (by simp),rfl⟩)
set_option maxHeartbeats 2000000
theorem Qoz {li:List Nat}{k i:Nat} (h:i < li.length):(li.take (i+1)).eraseIdx k=if i=k then (li.take i).eraseIdx k else (li.take i).eraseIdx k++[li.getD i 0]:=by
 rw [Qb1 0 h];have hl:(li.take i).length=i:=by rw [List.length_take];omega
 by_cases e:i=k
 ·
  subst e;have e2:(li.take i).eraseIdx i=li.take i:=List.eraseIdx_of_length_le (by omega);rw [if_pos rfl,List.eraseIdx_append_of_length_le (by omega),hl,Nat.sub_self,e2];exact List.append_nil _
 rw [if_neg e];rcases Nat.lt_or_ge k i with h2 | h2
 ·
  rw [List.eraseIdx_append_of_lt_length (by omega)]
 rw [List.eraseIdx_of_length_le (l:=li.take i) (by omega),List.eraseIdx_of_length_le (by simp;omega)]
theorem Qp5 (li:List Nat) (k:Nat) (hk:k < li.length) (hl:li.length<=1000000000) (a:Option Addr) (c:Nat) (w:World) (hr:RS w a li.length 1 (Qag li)) :
  Does Tryz.prog 145 #[.slice a li.length c,.int .i64 k] w fun v w'=>∃ a' c',v=.slice a' li.length c'/\Heap w [] w' [Res.row 3 1 a' li.length c' (Qag (Qd9 li k))]:=by
 obtain ⟨p,rfl⟩:=Qbb hr (by omega);refine En [.slice (some p) li.length c,.int .i64 k] 29 Tryz.func145 ?_;have hck:=Qbk hr hk;refine VS [0,1] ?_;refine VQ [0,1,5] fun K hK=>?_;refine ⟨⟨by omega,by omega⟩,_,hck,?_⟩;(try refine Qs ?_);have hH0:=Heap.start w;refine Qbg hH0 (Qag [li.getD k 0]) (xs:=[.tmp 10]) Tryz.underlying36 sz3 rfl rfl rfl (by omega) ?_;refine Qs ?_;refine ⟨rfl,by simp [Value.cells],fun g w4 hH=>?_⟩;(try refine Qs ?_);apply hK;clear hK;refine VS [0,1,5,6] ?_;refine Qab ?_;refine Qac [0,1,5,6] (fun m e w'=>∃ (i cap:Nat) (ao:Option Addr),Is e [(0,.slice (some p) li.length c),(1,.int .i64 k),(5,.slice ao (li.getD k 0::(li.take i).eraseIdx k).length cap),(6,.int .i64 i)]/\Heap w [] w' [Res.row 3 1 ao (li.getD k 0::(li.take i).eraseIdx k).length cap (Qag (li.getD k 0::(li.take i).eraseIdx k))]/\i<=li.length/\m=li.length - i) li.length ?_ ?_
 ·
  refine Qs ?_;exact ⟨0,1,_,rfl,hH,by omega,rfl⟩
 clear hH hH0;rintro m e w' ⟨i,cap,ao,rfl,hH,hi,rfl⟩;refine VS [0,1,5,6,15] ?_;refine VD (fun h=>?_) (fun h=>?_)
 ·
  have hi':i < li.length:=by omega
  have het:=Qoz (li:=li) (k:=k) hi';have hcell:=Qbk (hH.rs' hr) hi'
  have hel:((li.take i).eraseIdx k).length<=i:=by
   have:=List.length_eraseIdx_le (li.take i) k;rw [List.length_take] at this;omega
  generalize (li.take i).eraseIdx k=E at *;refine VC_skip ?_;refine VB ?_;refine VS [0,1,5,6,20] ?_;refine VD (fun h=>?_) (fun h=>?_)
  ·
   rw [if_neg (by omega)] at het;refine VQ [0,1,5,6] fun K hK=>?_;refine ⟨⟨by omega,by omega⟩,_,hcell,?_⟩;(try refine Qs ?_);refine Qb4 (xs:=[.tmp 25]) Tryz.underlying36 sz3 rfl rfl rfl (by omega) ?_;refine Qs ?_;refine ⟨by simp [Value.cells],?_⟩;refine Qai ?_;refine Qs ?_;refine Qid hH 0 (li.getD i 0) rfl Tryz.underlying36 zi3 (by first | rfl | (simp;done) | omega | (simp;omega)) (fun h=>by (first | omega | (simp;done) | (simp;omega))) fun a' cap' w5 hc' hH2=>?_;(try refine Qs ?_);apply hK;clear hK;refine Qah ?_;refine VS [0,1,5,6] ?_;refine Qaa ?_;refine Qs ?_;exact ⟨li.length - (i+1),by omega,i+1,cap',a',by rw [het];rfl,by rw [het];exact hH2,by omega,rfl⟩
  rw [if_pos (by omega)] at het;refine VC_skip ?_;refine Qah ?_;refine VS [0,1,5,6] ?_;refine Qaa ?_;refine Qs ?_;exact ⟨li.length - (i+1),by omega,i+1,cap,ao,by rw [het];rfl,by rw [het];exact hH,by omega,rfl⟩
 obtain rfl:i=li.length:=by omega
 refine Qad rfl ?_
 have e:li.getD k 0::(li.take li.length).eraseIdx k=Qd9 li k:=by
  rw [List.take_length,Qd9,List.eraseIdx_eq_take_drop_succ]
 rw [e,Qfw hk] at hH ⊢;refine VS [4] ?_;exact VC_ret (VX_ret1 rfl rfl ⟨_,_,rfl,hH⟩)
theorem Qli {l:List Bool}{at_ n:Nat} (h:l.length < at_+n):Qgf l at_ n=(0,10):=if_pos h
theorem Qml {l:List Bool}{at_ n:Nat} (h:at_+n<=l.length):Qgf l at_ n=(numB ((l.drop at_).take n),0):=if_neg (by omega)
theorem QJj:∀ (r:List Bool) (most n:Nat),n<=most->(unS r most n).2=0->n<=(unS r most n).1/\(unS r most n).1<=most/\(unS r most n).1+1<=n+r.length
 | [],most,n,_,h=>by simp [unS] at h
 | false::r,most,n,hn,h=>by simp [unS];omega
 | true::r,most,n,hn,h=>by
  rw [unS] at h ⊢;split
  ·
   rename_i e;rw [if_pos e] at h;simp at h
  rename_i e;rw [if_neg e] at h;have:=QJj r most (n+1) (by omega) h;simp;omega
theorem Qyn:∀ (m:Nat) (r:List Bool) (now k at_:Nat) (q:List Nat×Nat),r.length<=m->tdGo r now k at_=.ok q->q.1.length=k/\q.2<=at_+r.length/\at_<=q.2
 | _,[],now,k,at_,q,_,h=>by
  rw [tdGo] at h;split at h
  ·
   cases h;simp;omega
  split at h <;> cases h
 | 0,b::r,now,k,at_,q,hm,h=>by simp at hm
 | m+1,false::r,now,k,at_,q,hm,h=>by
  rw [tdGo] at h;split at h
  ·
   cases h;simp;omega
  split at h
  ·
   cases h
  split at h
  ·
   cases h
  rename_i q' hq;cases h;have:=Qyn m r _ _ _ q' (by simpa using hm) hq;simp;omega
 | m+1,[true],now,k,at_,q,hm,h=>by
  rw [tdGo] at h;split at h
  ·
   cases h;simp;omega
  split at h <;> cases h
 | m+1,true::d::r,now,k,at_,q,hm,h=>by
  rw [tdGo] at h;split at h
  ·
   cases h;simp;omega
  split at h
  ·
   cases h
  have:=Qyn m r _ _ _ q (by simp at hm;omega) h;simp;omega
theorem Qs1:∀ (m:Nat) (r:List Bool) (now k at_:Nat) (e:Int),r.length<=m->tdGo r now k at_=.error e->e≠0
 | _,[],now,k,at_,e,_,h=>by
  rw [tdGo] at h;split at h
  ·
   cases h
  split at h <;> (cases h;omega)
 | 0,b::r,now,k,at_,e,hm,h=>by simp at hm
 | m+1,false::r,now,k,at_,e,hm,h=>by
  rw [tdGo] at h;split at h
  ·
   cases h
  split at h
  ·
   cases h;omega
  split at h
  ·
   rename_i e' he;cases h;exact Qs1 m r _ _ _ _ (by simpa using hm) he
  cases h
 | m+1,[true],now,k,at_,e,hm,h=>by
  rw [tdGo] at h;split at h
  ·
   cases h
  split at h <;> (cases h;omega)
 | m+1,true::d::r,now,k,at_,e,hm,h=>by
  rw [tdGo] at h;split at h
  ·
   cases h
  split at h
  ·
   cases h;omega
  exact Qs1 m r _ _ _ e (by simp at hm;omega) h
theorem Qm5 {bits:List Bool}{at_ n:Nat}{q:List Nat×Nat} (h:Qdn bits at_ n=.ok q):q.1.length=n/\q.2<=bits.length:=by
 unfold Qdn at h;split at h
 ·
  cases h
 rename_i h1
 have h2:at_+5<=bits.length:=by
  rcases Nat.lt_or_ge bits.length (at_+5) with h3 | h3
  ·
   rw [Qli h3] at h1;simp at h1
  exact h3
 have:=Qyn _ _ _ _ _ _ (Nat.le_refl _) h;rw [List.length_drop] at this;omega
theorem Qlj {bits:List Bool}{at_ n:Nat}{e:Int} (h:Qdn bits at_ n=.error e):e≠0:=by
 unfold Qdn at h;split at h
 ·
  rename_i h1;cases h;exact h1
 exact Qs1 _ _ _ _ _ _ (Nat.le_refl _) h
theorem Qyo {bits:List Bool}{many:Nat} (hm:0 < many):∀ (k:Nat) (li:List Nat) (at_:Nat) (q:List Nat×Nat),li.length=many->at_<=bits.length->ptGo bits many li k at_=.ok q->q.1.length=k/\q.2<=bits.length/\∀ x∈q.1,x∈li
 | 0,li,at_,q,hl,ha,h=>by rw [ptGo] at h;cases h;simp;exact ha
 | k+1,li,at_,q,hl,ha,h=>by
  rw [ptGo] at h;split at h
  ·
   cases h
  rename_i h1;have h1:=Decidable.not_not.1 h1;have h2:=QJj _ _ _ (by omega) h1;rw [List.length_drop] at h2;generalize (unS (bits.drop at_) (many - 1) 0).1=u at *;have hu:u < li.length:=by omega
  split at h
  ·
   cases h
  rename_i q' hq;cases h;obtain ⟨a,b,c⟩:=Qyo hm k _ _ q' (by rw [Qfw hu];exact hl) (by omega) hq;refine ⟨by simp [a],b,fun x hx=>?_⟩;rcases List.mem_cons.1 hx with rfl | hx
  ·
   rw [List.getD_eq_getElem?_getD,List.getElem?_eq_getElem hu];exact List.getElem_mem hu
  exact (Qgm hu x).1 (c x hx)
theorem Qs2 {bits:List Bool}{many:Nat}:∀ (k:Nat) (li:List Nat) (at_:Nat) (e:Int),ptGo bits many li k at_=.error e->e≠0
 | 0,li,at_,e,h=>by rw [ptGo] at h;cases h
 | k+1,li,at_,e,h=>by
  rw [ptGo] at h;split at h
  ·
   rename_i h1;cases h;split
   ·
    omega
   exact h1
  split at h
  ·
   rename_i e' he;cases h;exact Qs2 k _ _ _ he
  cases h
theorem Qyp {bits:List Bool}{n:Nat}:∀ (k at_:Nat) (q:List (List Nat)×Nat),at_<=bits.length->ttGo bits n k at_=.ok q->q.1.length=k/\q.2<=bits.length/\∀ t∈q.1,t.length=n/\okLB t=true
 | 0,at_,q,ha,h=>by rw [ttGo] at h;cases h;simp;exact ha
 | k+1,at_,q,ha,h=>by
  rw [ttGo] at h;split at h
  ·
   cases h
  rename_i q1 h1;have h2:=Qm5 h1;split at h
  ·
   cases h
  rename_i h3;split at h
  ·
   cases h
  rename_i q' hq;cases h;obtain ⟨a,b,c⟩:=Qyp k _ q' h2.2 hq;refine ⟨by simp [a],b,fun t ht=>?_⟩;rcases List.mem_cons.1 ht with rfl | ht
  ·
   exact ⟨h2.1,by simpa using h3⟩
  exact c t ht
theorem Qs3 {bits:List Bool}{n:Nat}:∀ (k at_:Nat) (e:Int),ttGo bits n k at_=.error e->e≠0
 | 0,at_,e,h=>by rw [ttGo] at h;cases h
 | k+1,at_,e,h=>by
  rw [ttGo] at h;split at h
  ·
   rename_i e' he;cases h;exact Qlj he
  split at h
  ·
   cases h;omega
  split at h
  ·
   rename_i e' he;cases h;exact Qs3 k _ _ he
  cases h
theorem Qyq {bits:List Bool}{at_ n:Nat}{q:(List (List Nat)×List Nat)×Nat} (hn:3<=n) (h:Qes bits at_ n=.ok q):mayP q.1.1 q.1.2/\(q.1.1.getD 0 []).length=n/\q.2<=bits.length:=by
 unfold Qes at h;split at h
 ·
  cases h
 rename_i h1;split at h
 ·
  cases h
 rename_i h2;split at h
 ·
  cases h
 rename_i h3;split at h
 ·
  cases h
 rename_i h4
 have h5:at_+3+15<=bits.length:=by
  rcases Nat.lt_or_ge bits.length (at_+3+15) with h3' | h3'
  ·
   rw [Qli h3'] at h3;simp at h3
  exact h3'
 have h6:(Qgf bits (at_+3) 15).1<=32767:=by
  rw [Qml h5];have:=Qe0 ((bits.drop (at_+3)).take 15);have h7:((bits.drop (at_+3)).take 15).length=15:=by simp;omega
  rw [h7] at this;simp only;omega
 generalize (Qgf bits (at_+3) 15).1=np at *;generalize (Qgf bits at_ 3).1=many at *;split at h
 ·
  cases h
 rename_i q1 hq1;split at h
 ·
  cases h
 rename_i q2 hq2;cases h;obtain ⟨a,b,c⟩:=Qyo (by omega) np _ _ q1 (by simp) (by omega) hq1;obtain ⟨a2,b2,c2⟩:=Qyp many _ q2 b hq2
 have h0:(q2.1.getD 0 []).length=n:=by
  rw [List.getD_eq_getElem?_getD,List.getElem?_eq_getElem (by omega)];exact (c2 _ (List.getElem_mem _)).1
 refine ⟨⟨by simp only;omega,by simp only;omega,by simp only;omega,by simp only;omega,fun t ht=>?_,fun k hk=>?_⟩,h0,b2⟩
 ·
  simp only at ht ⊢;rw [h0];exact ⟨(c2 t ht).1,by have:=(c2 t ht).1;omega,Qlf.1 (c2 t ht).2⟩
 have:=c k hk;simp at this ⊢;omega
theorem Qvl {bits:List Bool}{at_ n:Nat}{e:Int} (h:Qes bits at_ n=.error e):e≠0:=by
 unfold Qes at h;split at h
 ·
  rename_i h1;cases h;exact h1
 split at h
 ·
  cases h;omega
 split at h
 ·
  rename_i h1;cases h;exact h1
 split at h
 ·
  cases h;omega
 split at h
 ·
  rename_i e' he;cases h;exact Qs2 _ _ _ _ he
 split at h
 ·
  rename_i e' he;cases h;exact Qs3 _ _ _ he
 cases h
theorem Qku:∀ (li:List Nat) (c i:Nat),i < li.idxOf c->li.getD i 0≠c
 | [],c,i,h=>by simp at h
 | x::li,c,i,h=>by
  rw [List.idxOf_cons] at h;by_cases e:x=c
  ·
   subst e;simp at h
  have:(x == c)=false:=by simpa using e
  rw [this] at h;simp only [cond_false] at h;cases i with
  | zero=>simpa using e
  | succ i =>
   have:=Qku li c i (by omega);simpa using this
theorem Qih:∀ (P li:List Nat),(∀ k∈P,k∈li)->(Qco li P).length<=P.length * li.length
 | [],li,_=>by simp [Qco]
 | p::P,li,h=>by
  have h1:=List.idxOf_lt_length_iff.2 (h p (by simp));have h2:=Qih P (Qd9 li (li.idxOf p)) fun k hk=>(Qgm h1 k).2 (h k (by simp [hk]));rw [Qfw h1] at h2;simp only [Qco,List.length_append,List.length_replicate,List.length_cons,Nat.succ_mul];omega
theorem Qvm (ls:List (List Bool)) (l:List Bool):Qe1 ls++Qbe l=Qe1 (ls++[l]):=by simp [Qe1]
theorem Qda (l:List Bool):∀ u∈Qbe l,u.oneCell'=true:=by
 intro u hu;simp [Qbe] at hu;rcases hu with rfl | rfl <;> rfl
theorem Qlk (v:Value) (T:List (List Nat)) (P:List Nat) (hm:mayP T P) (w:World) (hp:PlanAt w v T P):Does Tryz.prog 40 #[v] w fun x w'=>Heap w [] w' []/\x=.tuple #[Qir (Qbq T P),.int .i64 0]:=by
 have hp0:=hp;obtain ⟨ta,tc,pa,pc,hs,rfl,hsl,hrT,hrP,hrt⟩:=hp;have hm0:=hm;obtain ⟨m1,m2,m3,m4,m5,m6⟩:=hm;obtain ⟨qt,rfl⟩:=Qbb hrT (by omega);obtain ⟨qp,rfl⟩:=Qbb hrP (by omega);have hen:#[Value.agg #[.slice (some qt) T.length tc,.slice (some qp) P.length pc]]=[Value.agg (Qak (some qt) T.length tc (some qp) P.length pc).toArray].toArray:=rfl
 have hpb:Qbq T P=([Qaq 3 T.length++(Qaq 15 P.length++Qco (List.range T.length) P)]++T.map Qb5).flatten:=by
  simp [Qbq,List.flatMap,List.append_assoc]
 rw [hen,hpb];refine Qdj 85 Tryz.func40 rfl rfl (of_decide_eq_true rfl) ?_;simp only [Env.ofArgs];have hpl:=Qih P (List.range T.length) (fun k hk=>by simpa using m6 k hk);have hpl2:P.length * (List.range T.length).length<=32767 * 6:=Nat.mul_le_mul m4 (by simpa using m2);generalize hnt:T.length=nt at *;generalize hnp:P.length=np at *;refine VQ [1,2] fun K hK=>?_;refine Qce ?_;refine Qs ?_;have hH:=(Heap.start w).box 65 (Qak (some qt) nt tc (some qp) np pc);generalize w.alloc (Obj.cells (Qak (some qt) nt tc (some qp) np pc).toArray 65)=w1 at *;generalize w.heap.size=gp at *;refine MemK_alloc (.agg #[.string ⟨#[]⟩,.int .i64 0]) (by kernel_rfl) ?_;refine Qs ?_;have hH1:=hH.box 24 [.string ⟨#[]⟩,.int .i64 0];generalize w1.alloc (Obj.cells [Value.string ⟨#[]⟩,.int .i64 0].toArray 24)=w2 at *;generalize w1.heap.size=gr at *;clear hH;apply hK;clear hK;refine VQ [1,2,16] fun K hK=>?_;refine ⟨Qak (some qt) nt tc (some qp) np pc,⟨rfl,blk_reads (hH1.at 1 rfl)⟩,?_⟩;have hmc:=Qjg _ T P hm0 w2 (hp0.keep hH1);refine MemK_call Tryz.call79 ?_;refine Qs ?_;refine CallK.mk hmc ?_;rintro v w3 ⟨hHm,rfl⟩;have hH2:=hH1.call0 hHm;simp only [List.nil_append] at hH2;clear hH1 hHm hmc;refine Qs ?_;apply hK;clear hK;refine Qaf rfl rfl (fun h=>by simp at h) (fun h=>VC_skip ?_);clear h;refine VQ [1,2,4] fun K hK=>?_;refine MemK_call Tryz.call35 ?_;refine Qs ?_;refine CallK.mk (Qd3 w3) ?_;rintro v w4 ⟨gw,hHw,rfl⟩;have hH3:=hH2.call0 hHw;simp only [List.singleton_append] at hH3;clear hH2 hHw;apply hK;clear hK;refine VQ [1,2,4] fun K hK=>?_;refine ⟨_,Qae (hH3.at 2 rfl) (show (Qak (some qt) nt tc (some qp) np pc)[0]? = some _ from rfl),?_⟩;refine Qs ?_;rw [show ((nt:Int) % 18446744073709551616)=nt by omega];refine MemK_call Tryz.call36 ?_;refine Qs ?_;refine CallK.mk (Qdi gw none 0 [] nt 3 w4 (by omega) (by omega) (by simp) (hH3.focus 0 rfl)) ?_;rintro v w5 ⟨a5,c5,hHp,rfl⟩;have hH4:=hH3.call1 0 rfl hHp;simp only [List.set_cons_zero,List.nil_append] at hH4;clear hH3 hHp;apply hK;clear hK;refine VQ [1,2,4] fun K hK=>?_;refine ⟨_,Qae (hH4.at 2 rfl) (show (Qak (some qt) nt tc (some qp) np pc)[1]? = some _ from rfl),?_⟩;refine Qs ?_;rw [show ((np:Int) % 18446744073709551616)=np by omega];refine MemK_call Tryz.call36 ?_;refine Qs ?_;refine CallK.mk (Qdi gw a5 c5 _ np 15 w5 (by omega) (by omega) (by rw [Qal];omega) (hH4.focus 0 rfl)) ?_;rintro v w6 ⟨a6,c6,hHp,rfl⟩;have hH5:=hH4.call1 0 rfl hHp;simp only [List.set_cons_zero,List.nil_append] at hH5;clear hH4 hHp;apply hK;clear hK;refine VQ [1,2,4,5] fun K hK=>?_;refine ⟨_,Qae (hH5.at 2 rfl) (show (Qak (some qt) nt tc (some qp) np pc)[0]? = some _ from rfl),?_⟩;refine Qs ?_;refine MemK_call Tryz.call80 ?_;refine Qs ?_;refine CallK.mk (Qm3 nt (by omega) (by omega) w6) ?_;rintro v w7 ⟨go,hHo,rfl⟩;have hH6:=hH5.call0 hHo;simp only [List.singleton_append] at hH6;clear hH5 hHo;apply hK;clear hK;refine VQ [1,2,4,5,36,37,38] fun K hK=>?_;refine ⟨_,Qae (hH6.at 3 rfl) (show (Qak (some qt) nt tc (some qp) np pc)[1]? = some _ from rfl),?_⟩;refine Qs ?_;apply hK;clear hK;generalize hFull:Qaq 3 nt++(Qaq 15 np++Qco (List.range nt) P)=Full at *
 have hFl:Full.length<=300000:=by
  rw [<- hFull];simp only [List.length_append,Qal];omega
 refine Qab ?_;refine Qac [1,2,4,5,36,37,38] (fun m e w'=>∃ (i:Nat) (li:List Nat) (X:List Bool) (a:Option Addr) (c:Nat),Is e [(1,.pointer (some ⟨gp,0,none⟩)),(2,.pointer (some ⟨gr,0,none⟩)),(4,.pointer (some ⟨gw,0,none⟩)),(5,.slice (some ⟨go,0,none⟩) nt nt),(36,.slice (some qp) np pc),(37,.int .i64 np),(38,.int .i64 i)]/\Heap w [] w' [Res.row 3 1 (some ⟨go,0,none⟩) nt nt (Qag li),wr gw a c X,Res.blk gr 24 [.string ⟨#[]⟩,.int .i64 0],Res.blk gp 65 (Qak (some qt) nt tc (some qp) np pc)]/\li.length=nt/\(∀ k,k < nt->k∈li)/\X++Qco li (P.drop i)=Full/\i<=np/\m=np - i) np ?_ ?_
 ·
  refine Qs ?_;exact ⟨0,_,_,a6,c6,rfl,hH6,by simp,fun k hk=>by simpa using hk,by rw [<- hFull,List.drop_zero,List.append_assoc],by omega,rfl⟩
 clear hH6;rintro m e w8 ⟨i,li,X,a,c,rfl,hH,hlil,hli,hX,hi,rfl⟩;refine VS [1,2,4,5,36,37,38,39] ?_;(repeat refine Qar ?_);refine VD (fun h=>?_) (fun h=>?_)
 ·
  have hcell:=Qbk (hH.rs' hrP) (i:=i) (by omega);have hx:=m6 _ (Qaz 0 (l:=P) (i:=i) (by omega));have hdp:P.drop i=P.getD i 0::P.drop (i+1):=drop_getD 0 (by omega);rw [hdp,Qco] at hX;generalize P.getD i 0=x at *;have hxl:=hli x hx;have hxi:=List.idxOf_lt_length_iff.2 hxl
  have hXl:X.length+li.idxOf x+1<=300000:=by
   have:=congrArg List.length hX;simp only [List.length_append,List.length_replicate,List.length_cons] at this;omega
  refine VC_skip ?_;refine VB ?_;refine VQ [1,2,4,5,7,36,37,38] fun K hK=>?_;refine ⟨⟨by omega,by omega⟩,_,hcell,?_⟩;apply hK;clear hK;refine VS [1,2,4,5,7,8,36,37,38] ?_;refine VB ?_;refine Qac [1,2,4,5,7,8,36,37,38] (fun m e w'=>∃ (at_:Nat) (a:Option Addr) (c:Nat),Is e [(1,.pointer (some ⟨gp,0,none⟩)),(2,.pointer (some ⟨gr,0,none⟩)),(4,.pointer (some ⟨gw,0,none⟩)),(5,.slice (some ⟨go,0,none⟩) nt nt),(7,.int .i64 x),(8,.int .i64 at_),(36,.slice (some qp) np pc),(37,.int .i64 np),(38,.int .i64 i)]/\Heap w [] w' [Res.row 3 1 (some ⟨go,0,none⟩) nt nt (Qag li),wr gw a c (X++List.replicate at_ true),Res.blk gr 24 [.string ⟨#[]⟩,.int .i64 0],Res.blk gp 65 (Qak (some qt) nt tc (some qp) np pc)]/\at_<=li.idxOf x/\m=li.idxOf x - at_) (li.idxOf x) ?_ ?_
  ·
   refine Qs ?_;exact ⟨0,a,c,rfl,by simpa using hH,by omega,rfl⟩
  clear hH hcell;rintro m e w9 ⟨at_,a2,c2,rfl,hH,hat,rfl⟩;have hca:=Qaw (hH.at 0 rfl) (Qbw (l:=li) (i:=at_) (by omega));refine VQ [1,2,4,5,7,8,36,37,38,47] fun K hK=>?_;refine ⟨⟨by omega,by omega⟩,_,hca,?_⟩;refine Qs ?_;apply hK;clear hK;refine Vi (fun h=>?_) (fun h=>?_)
  ·
   simp only [decide_eq_true_eq] at h
   have hlt:at_ < li.idxOf x:=by
    rcases Nat.lt_or_ge at_ (li.idxOf x) with h2 | h2
    ·
     exact h2
    have e:at_=li.idxOf x:=by omega
    rw [e,Qme hxl] at h;omega
   refine VC_skip ?_;refine Qab ?_;refine VS [1,2,4,5,7,8,36,37,38] ?_;refine VQ [1,2,4,5,7,8,36,37,38] fun K hK=>?_;refine MemK_call Tryz.call36 ?_;refine Qs ?_;refine CallK.mk (Qdi gw a2 c2 _ 1 1 w9 (by omega) (by omega) (by rw [List.length_append,List.length_replicate];omega) (hH.focus 1 rfl)) ?_;rintro v w10 ⟨a3,c3,hHp,rfl⟩;have e1:Qaq 1 1=[true]:=rfl;rw [e1,List.append_assoc,<- List.replicate_succ'] at hHp;have hH2:=hH.call1 1 rfl hHp;simp only [List.set_cons_succ,List.set_cons_zero,List.nil_append] at hH2;apply hK;clear hK;refine Qah ?_;refine Qaa ?_;refine Qs ?_;exact ⟨li.idxOf x - (at_+1),by omega,at_+1,a3,c3,rfl,hH2,by omega,rfl⟩
  simp only [decide_eq_false_iff_not,Decidable.not_not] at h
  have hlt:at_=li.idxOf x:=by
   rcases Nat.lt_or_ge at_ (li.idxOf x) with h2 | h2
   ·
    exact absurd (by omega) (Qku li x at_ h2)
   omega
  subst hlt;refine Qad rfl ?_;refine VQ [1,2,4,5,8,36,37,38] fun K hK=>?_;refine MemK_call Tryz.call36 ?_;refine Qs ?_;refine CallK.mk (Qdi gw a2 c2 _ 0 1 w9 (by omega) (by omega) (by rw [List.length_append,List.length_replicate];omega) (hH.focus 1 rfl)) ?_;rintro v w10 ⟨a3,c3,hHp,rfl⟩;have e1:Qaq 1 0=[false]:=rfl;rw [e1,List.append_assoc] at hHp;have hH2:=hH.call1 1 rfl hHp;simp only [List.set_cons_succ,List.set_cons_zero,List.nil_append] at hH2;clear hH hHp;apply hK;clear hK;refine VQ [1,2,4,5,36,37,38] fun K hK=>?_;have hmc:=Qm4 li go nt (li.idxOf x) hxi (by omega) w w10 [] _ (by rw [hlil];exact hH2);rw [hlil] at hmc;refine MemK_call Tryz.call81 ?_;refine Qs ?_;refine CallK.mk hmc ?_;rintro v w11 ⟨hH3,rfl⟩;apply hK;clear hK;refine Qah ?_;refine VS [1,2,4,5,36,37,38] ?_;refine Qaa ?_;refine Qs ?_;refine ⟨np - (i+1),by omega,i+1,Qd9 li (li.idxOf x),_,a3,c3,rfl,hH3,by rw [Qfw hxi];exact hlil,fun k hk=>(Qgm hxi k).2 (hli k hk),?_,by omega,rfl⟩;rw [<- hX];simp
 obtain rfl:i=np:=by omega
 rw [List.drop_of_length_le (by omega),Qco,List.append_nil] at hX;subst hX;refine Qad rfl ?_;refine VQ [1,2,9] fun K hK=>?_;refine MemK_call Tryz.call37 ?_;refine Qs ?_;refine CallK.mk (Qhx gw a c _ w8 (hH.at 1 rfl)) ?_;rintro v w9 ⟨rfl,rfl⟩;refine MemK_call Tryz.call38 ?_;refine Qs ?_;refine CallK.mk (Qjv gw a c _ w9 (hH.at 1 rfl)) ?_;rintro v w10 ⟨rfl,rfl⟩;refine Qs ?_;refine Qi2 hH 2 (Qbe X) (xs:=[.tmp 62]) Tryz.underlying101 sz24 rfl rfl rfl (by omega) (by omega) ?_;refine Qs ?_;refine ⟨by simp [Qbe,Value.cells],by simp [Value.cells],fun ga w11 hH2=>?_⟩
 have hH3:Heap w [] w11 [Res.row 24 2 (some ⟨ga,0,none⟩) 1 1 (Qe1 [X]),Res.blk gr 24 [.string ⟨#[]⟩,.int .i64 0],Res.blk gp 65 (Qak (some qt) nt tc (some qp) i pc)]:=by
  have e:Qe1 [X]=Qbe X:=by simp [Qe1]
  rw [e];exact hH2.sub (.cons_cons _ (.cons _ (.cons _ (.refl _))))
 clear hH2 hH;apply hK;clear hK;refine VQ [2,9,65,66,67] fun K hK=>?_;refine ⟨_,Qae (hH3.at 2 rfl) (show (Qak (some qt) nt tc (some qp) i pc)[0]? = some _ from rfl),?_⟩;refine Qs ?_;apply hK;clear hK;clear h hi;refine Qab ?_;refine Qac [2,9,65,66,67] (fun m e w'=>∃ (j:Nat) (a:Option Addr) (c:Nat),Is e [(2,.pointer (some ⟨gr,0,none⟩)),(9,.slice a (j+1) c),(65,.slice (some qt) nt tc),(66,.int .i64 nt),(67,.int .i64 j)]/\Heap w [] w' [Res.row 24 2 a (j+1) c (Qe1 ([X]++(T.take j).map Qb5)),Res.blk gr 24 [.string ⟨#[]⟩,.int .i64 0]]/\j<=nt/\m=nt - j) nt ?_ ?_
 ·
  refine Qs ?_;exact ⟨0,_,1,rfl,by simpa using hH3.sub (.cons_cons _ (.cons_cons _ (.cons _ (.refl _)))),by omega,rfl⟩
 clear hH3;rintro m e w12 ⟨j,a4,c4,rfl,hH,hj,rfl⟩;refine VS [2,9,65,66,67,68] ?_;(repeat refine Qar ?_);refine VD (fun h=>?_) (fun h=>?_)
 ·
  have hTj:T[j]? = some (T.getD j []):=by rw [List.getD_eq_getElem?_getD,List.getElem?_eq_getElem (by omega)];rfl
  obtain ⟨hh,hhi⟩:∃ hh,hs[j]? = some hh:=⟨_,List.getElem?_eq_getElem (by omega)⟩;have hci:=(hH.rs' hrT).2.2 qt rfl j _ (Qb0 hhi hTj);have hrt2:=hH.rs' (hrt j hh _ hhi hTj);obtain ⟨e1,e2,e3⟩:=m5 _ (List.mem_of_getElem? hTj);have htk:T.take (j+1)=T.take j++[T.getD j []]:=by rw [List.take_add_one,hTj];rfl
  have hds:=Qp2 (T.getD j []) e3.1 e3.2.1 e3.2.2.1 hh.1 hh.2 w12 hrt2;generalize T.getD j []=t at *;refine VC_skip ?_;refine VB ?_;refine VQ [2,9,11,65,66,67] fun K hK=>?_;refine ⟨⟨by omega,by omega⟩,_,hci,?_⟩;apply hK;clear hK;refine VQ [2,9,12,65,66,67] fun K hK=>?_;refine MemK_call Tryz.call82 ?_;refine Qs ?_;refine CallK.mk hds ?_;rintro v w13 ⟨hHd,rfl⟩;have hH2:=hH.call0 hHd;simp only [List.nil_append] at hH2;clear hH hHd;refine MemK_alloc (.agg #[.string ⟨#[]⟩,.int .i64 0]) (by kernel_rfl) ?_;refine Qs ?_;have hH3:=hH2.box 24 [.string ⟨#[]⟩,.int .i64 0];generalize w13.alloc (Obj.cells [Value.string ⟨#[]⟩,.int .i64 0].toArray 24)=w14 at *;generalize w13.heap.size=gb at *;refine MemK_store ?_;refine Qs ?_;refine StoreK_blk hH3 0 (vs:=Qbe (Qb5 t)) rfl rfl (by kernel_rfl) (by simp [Qbe]) (Qda _) fun w15 hH4=>?_;have hH5:Heap w [] w15 [Res.blk gb 24 (Qbe (Qb5 t)),Res.row 24 2 a4 (j+1) c4 (Qe1 ([X]++(T.take j).map Qb5)),Res.blk gr 24 [.string ⟨#[]⟩,.int .i64 0]]:=hH4;clear hH2 hH3 hH4;apply hK;clear hK;refine VQ [2,9,65,66,67] fun K hK=>?_;refine ⟨Qbe (Qb5 t),⟨rfl,blk_reads (hH5.at 0 rfl)⟩,?_⟩;refine Qi2 hH5 2 (Qbe (Qb5 t)) (xs:=[.tmp 77]) Tryz.underlying101 sz24 rfl rfl rfl (by omega) (by omega) ?_;refine Qs ?_;refine ⟨by simp [Qbe,Value.cells],by simp [Qbe,Value.cells],fun g2 w16 hH6=>?_⟩;refine Qai ?_;refine Qs ?_;refine Qb7 (zs:=#[.string ⟨#[]⟩,.int .i64 0]) (bytes:=24) hH6 2 rfl Tryz.underlying101 (by kernel_rfl) rfl ⟨rfl,Qao (hH6.at 0 rfl),24,Tryz.underlying101⟩ (Qda _) (fun h=>by omega) fun a' cap' w17 hc' hH7=>?_;simp only [List.set_cons_succ,List.set_cons_zero] at hH7;rw [Qvm,List.append_assoc] at hH7;apply hK;clear hK;refine Qah ?_;refine VS [2,9,65,66,67] ?_;refine Qaa ?_;refine Qs ?_;refine ⟨nt - (j+1),by omega,j+1,a',cap',rfl,?_,by omega,rfl⟩;rw [htk,List.map_append];exact hH7.sub (.cons _ (.cons _ (.refl _)))
 obtain rfl:j=nt:=by omega
 rw [List.take_of_length_le (by omega)] at hH;obtain ⟨ga2,rfl⟩:=Qdu (hH.at 0 rfl) (by omega);have hlen:([X]++T.map Qb5).length=j+1:=by simp [hnt]
 have hfl:([X]++T.map Qb5).flatten.length<=10000000000000:=by
  rw [List.flatten_append,List.length_append]
  have h1:∀ Q:List (List Nat),(∀ t∈Q,okL t)->(Q.map Qb5).flatten.length<=Q.length * 20000:=fun Q=>by
   induction Q with
   | nil=>intro _;simp
   | cons t Q ih =>
    intro hQ;have h2:=ih fun t ht=>hQ t (by simp [ht]);obtain ⟨o1,o2,o3,_⟩:=hQ t (by simp);have h3:=Qfx t (t.getD 0 0) (o3 _ (Qaz 0 (by omega))).2 fun x hx=>(o3 x hx).2;simp only [List.map_cons,List.flatten_cons,List.length_append,List.length_cons,Nat.succ_mul,Qb5,Qal];omega
  have h4:=h1 T fun t ht=>(m5 t ht).2.2;simp only [List.flatten_singleton];omega
 have hjn:=Qu8 ([X]++T.map Qb5) ⟨ga2,0,none⟩ rfl c4 w12 (by rw [hlen];exact Qao (hH.at 0 rfl)) hfl (by omega);rw [hlen] at hjn;generalize ([X]++T.map Qb5).flatten=R at *;refine Qad rfl ?_;refine VQ [2,3] fun K hK=>?_;refine MemK_call Tryz.call42 ?_;refine Qs ?_;refine CallK.mk hjn ?_;rintro v w13 ⟨hHj,rfl⟩;have hH2:=hH.call0 hHj;simp only [List.nil_append] at hH2;refine MemK_store ?_;refine Qs ?_;refine StoreK_blk hH2 1 (vs:=Qbe R) rfl rfl (by kernel_rfl) (by simp [Qbe]) (Qda _) fun w14 hH3=>?_;have hH4:Heap w [] w14 [Res.row 24 2 (some ⟨ga2,0,none⟩) (j+1) c4 (Qe1 ([X]++T.map Qb5)),Res.blk gr 24 (Qbe R)]:=hH3;apply hK;clear hK;refine VC_ret (Qcw rfl rfl rfl (Qbh (hH4.at 1 rfl) (by kernel_rfl) (by kernel_rfl) rfl ?_));exact ⟨hH4.sub (by simp),rfl⟩
def Qo0 (hs:List (Option Addr×Nat)) (L:List (List Nat)):List Res:=List.zipWith (fun h l=>Res.row 3 1 h.1 l.length h.2 (Qag l)) hs L
theorem Qvn {hs:List (Option Addr×Nat)}{L:List (List Nat)}{i:Nat}{h:Option Addr×Nat}{l:List Nat} (h1:hs[i]? = some h) (h2:L[i]? = some l):(Qo0 hs L)[i]? = some (Res.row 3 1 h.1 l.length h.2 (Qag l)):=by
 simp [Qo0,List.getElem?_zipWith,h1,h2]
theorem Qrg {hs:List (Option Addr×Nat)}{L:List (List Nat)} (hl:hs.length=L.length) (a:Option Addr) (c:Nat) (l:List Nat):Qo0 hs L++[Res.row 3 1 a l.length c (Qag l)]=Qo0 (hs++[(a,c)]) (L++[l]):=by
 unfold Qo0;rw [List.zipWith_append hl];rfl
theorem Qjh {α:Type} (L:List α) (z x:α) {n i:Nat} (hi:i < n) (hl:L.length=i):(L++List.replicate (n - i) z).set i x=(L++[x])++List.replicate (n - (i+1)) z:=by
 obtain ⟨q,hq⟩:∃ q,n - i=q+1:=⟨n - i - 1,by omega⟩;rw [hq,List.replicate_succ,List.set_append_right _ _ (by omega),hl,Nat.sub_self,List.set_cons_zero,List.append_assoc,show n - (i+1)=q by omega];rfl
theorem Qrh (n:Nat):Qbj (List.replicate n (none,0)) (List.replicate n [])=List.replicate n (.slice none 0 0):=by
 unfold Qbj;rw [List.zipWith_replicate];simp
theorem Qs4 {α β:Type} (f:α->β) {T:List α}{j:Nat}{t:α} (h:T[j]? = some t):(T.take (j+1)).map f=(T.take j).map f++[f t]:=by
 rw [List.take_add_one,h,List.map_append];rfl
theorem Qm6 (v:Value) (T:List (List Nat)) (P:List Nat) (hm:mayP T P) (list:List Nat) (hl1:1<=list.length) (hls:∀ s∈list,s < (T.getD 0 []).length) (hlg:Qa4 list.length<=P.length) (a:Option Addr) (lc:Nat) (w:World) (hp:PlanAt w v T P) (hr:RS w a list.length 1 (Qag list)) :
  Does Tryz.prog 41 #[v,.slice a list.length lc] w fun x w'=>Heap w [] w' []/\x=.tuple #[Qir (Qem T P list 0),.int .i64 0]:=by
 have hp0:=hp;obtain ⟨ta,tc,pa,pc,hs,rfl,hsl,hrT,hrP,hrt⟩:=hp;have hm0:=hm;obtain ⟨m1,m2,m3,m4,m5,m6⟩:=hm;have hT0:T[0]? = some (T.getD 0 []):=by rw [List.getD_eq_getElem?_getD,List.getElem?_eq_getElem (by omega)];rfl
 have hn0:3<=(T.getD 0 []).length/\(T.getD 0 []).length<=258:=by
  obtain ⟨e1,e2,e3⟩:=m5 _ (List.mem_of_getElem? hT0);exact ⟨e2,e3.2.1⟩
 have hml:list.length<=1638350:=by unfold Qa4 at hlg;omega
 have hFl:=Qjf (T:=T) (P:=P) (c:=20) (fun t ht x hx=>((m5 t ht).2.2.2.2.1 x hx).2) list 0;obtain ⟨qt,rfl⟩:=Qbb hrT (by omega);obtain ⟨qp,rfl⟩:=Qbb hrP (by omega);obtain ⟨ql,rfl⟩:=Qbb hr (by omega);have hen:#[Value.agg #[.slice (some qt) T.length tc,.slice (some qp) P.length pc],.slice (some ql) list.length lc]=[Value.agg (Qak (some qt) T.length tc (some qp) P.length pc).toArray,.slice (some ql) list.length lc].toArray:=rfl;rw [hen];refine Qdj 106 Tryz.func41 rfl rfl (of_decide_eq_true rfl) ?_;simp only [Env.ofArgs];have hgd:=fun w=>Qig list.length (by omega) w;generalize hnt:T.length=nt at *;generalize hnp:P.length=np at *;generalize hnl:list.length=nl at *;generalize hn:(T.getD 0 []).length=n0 at *;refine VQ [1,2,4] fun K hK=>?_;refine Qce ?_;refine Qs ?_;have hH:=(Heap.start w).box 65 (Qak (some qt) nt tc (some qp) np pc);generalize w.alloc (Obj.cells (Qak (some qt) nt tc (some qp) np pc).toArray 65)=w1 at *;generalize w.heap.size=gp at *;refine MemK_alloc (.agg #[.string ⟨#[]⟩,.int .i64 0]) (by kernel_rfl) ?_;refine Qs ?_;have hH1:=hH.box 24 [.string ⟨#[]⟩,.int .i64 0];generalize w1.alloc (Obj.cells [Value.string ⟨#[]⟩,.int .i64 0].toArray 24)=w2 at *;generalize w1.heap.size=gr at *;clear hH;apply hK;clear hK;have hmc:=Qjg _ T P hm0 w2 (hp0.keep hH1);have c0:w2.cell? ⟨gp,0,none⟩=some (.slice (some qt) nt tc):=Qae (hH1.at 1 rfl) rfl;have c1:w2.cell? ⟨gp,1,none⟩=some (.slice (some qp) np pc):=Qae (hH1.at 1 rfl) rfl;refine VH _ (Ext.refl _) [1,2,4,25] [(0,true),(1,false),(2,true),(3,true),(4,true),(5,true),(7,true),(8,true),(9,true),(6,false),(10,true),(11,true)] fun K hK=>?_;refine ⟨Qak (some qt) nt tc (some qp) np pc,⟨rfl,blk_reads (hH1.at 1 rfl)⟩,?_⟩;refine MemK_call Tryz.call79 ?_;refine Qs ?_;refine CallK.mk hmc ?_;rintro v w3 ⟨hHm,rfl⟩;have hH2:=hH1.call0 hHm;simp only [List.nil_append] at hH2;refine Qs ?_;refine ⟨hHm.ext,?_⟩;refine ⟨fun _=>⟨_,c1,?_⟩,fun h2=>absurd h2 (by simp)⟩;refine Qs ?_;refine MemK_call Tryz.call83 ?_;refine Qs ?_;refine CallK.mk (hgd w3) ?_;rintro v w4 ⟨rfl,rfl⟩;refine Qs ?_;refine ⟨hHm.ext,?_⟩;rw [decide_eq_false (show ¬ ((np:Int) < (Qa4 nl:Nat)) by omega)];apply hK;clear hK;refine Qaf rfl rfl (fun h=>by simp at h) (fun h=>VC_skip ?_);clear h hH1 hHm hmc c0 c1;generalize w4=w3 at *;refine VS [1,2,4,27,28,29] ?_;refine Qab ?_;refine Qac [1,2,4,27,28,29] (fun m e w'=>∃ (i:Nat),Is e [(1,.slice (some ql) nl lc),(2,.pointer (some ⟨gp,0,none⟩)),(4,.pointer (some ⟨gr,0,none⟩)),(27,.slice (some ql) nl lc),(28,.int .i64 nl),(29,.int .i64 i)]/\Is w' w3/\i<=nl/\m=nl - i) nl ?_ ?_
 ·
  refine Qs ?_;exact ⟨0,rfl,rfl,by omega,rfl⟩
 rintro m e w' ⟨i,rfl,rfl,hi,rfl⟩;have c0:w'.cell? ⟨gp,0,none⟩=some (.slice (some qt) nt tc):=Qae (hH2.at 1 rfl) rfl;have c1:w'.cell? ⟨gp,1,none⟩=some (.slice (some qp) np pc):=Qae (hH2.at 1 rfl) rfl;obtain ⟨h0,hh0⟩:∃ h0,hs[0]? = some h0:=⟨_,List.getElem?_eq_getElem (by omega)⟩;have hc0:=(hH2.rs' hrT).2.2 qt rfl 0 _ (Qb0 hh0 hT0);rw [hn] at hc0;refine VS [1,2,4,27,28,29,30] ?_;(repeat refine Qar ?_);refine VD (fun h=>?_) (fun h=>?_)
 ·
  have hcell:=Qbk (hH2.rs' hr) (i:=i) (by omega);have hx:=hls _ (Qaz 0 (l:=list) (i:=i) (by omega));generalize list.getD i 0=x at *;refine VC_skip ?_;refine VB ?_;refine VQ [1,2,4,7,27,28,29] fun K hK=>?_;refine ⟨⟨by omega,by omega⟩,_,hcell,?_⟩;apply hK;clear hK;refine VQ [1,2,4,27,28,29,43] fun K hK=>?_;refine ⟨fun _=>⟨_,c0,?_⟩,fun h2=>absurd h2 (by omega)⟩;refine Qs ?_;refine ⟨by omega,_,hc0,?_⟩;refine Qs ?_;rw [decide_eq_false (show ¬ ((n0:Int)<=x) by omega)];apply hK;clear hK;refine Qaf rfl rfl (fun h=>by simp at h) (fun h=>VC_skip ?_);refine Qah ?_;refine VS [1,2,4,27,28,29] ?_;refine Qaa ?_;refine Qs ?_;exact ⟨nl - (i+1),by omega,i+1,rfl,rfl,by omega,rfl⟩
 clear h hi;generalize w'=w3 at *;refine Qad rfl ?_;refine VQ [1,2,4,8] fun K hK=>?_;refine MemK_call Tryz.call35 ?_;refine Qs ?_;refine CallK.mk (Qd3 w3) ?_;rintro v w4 ⟨gw,hHw,rfl⟩;have hH3:=hH2.call0 hHw;simp only [List.singleton_append] at hH3;clear hHw;apply hK;clear hK;refine VQ [1,2,4,8,9] fun K hK=>?_;refine ⟨_,Qae (hH3.at 2 rfl) (show (Qak (some qt) nt tc (some qp) np pc)[0]? = some _ from rfl),?_⟩;refine Qs ?_;refine Qba Tryz.underlying63 zi36 ?_;refine Qs ?_;refine ⟨nt,nt,⟨rfl,rfl,by omega,by omega,by omega⟩,?_⟩;have hH4:=hH3.row 36 (n:=nt) (cap:=nt) (sz:=1) (Qbj (List.replicate nt (none,0)) (List.replicate nt [])) [] (by rw [Qg0 (by simp)];simp) (by rw [List.append_nil,Qg0 (by simp)];simp) (by omega) (by omega);rw [List.append_nil,Qrh] at hH4;generalize w4.alloc (Obj.cells (List.replicate nt (Value.slice none 0 0)).toArray 36)=w5 at *;generalize w4.heap.size=gc at *;rw [<- Qrh] at hH4;clear hH3;apply hK;clear hK;refine VS [1,2,4,8,9,52,53] ?_;refine Qab ?_;refine Qac [1,2,4,8,9,52,53] (fun m e w'=>∃ (i:Nat) (us:List (Option Addr×Nat)),Is e [(1,.slice (some ql) nl lc),(2,.pointer (some ⟨gp,0,none⟩)),(4,.pointer (some ⟨gr,0,none⟩)),(8,.pointer (some ⟨gw,0,none⟩)),(9,.slice (some ⟨gc,0,none⟩) nt nt),(52,.int .i64 nt),(53,.int .i64 i)]/\Heap w [] w' (Res.row 36 1 (some ⟨gc,0,none⟩) nt nt (Qbj (us++List.replicate (nt - i) (none,0)) ((T.take i).map Qc4++List.replicate (nt - i) []))::wr gw none 0 []::Res.blk gr 24 [.string ⟨#[]⟩,.int .i64 0]::Res.blk gp 65 (Qak (some qt) nt tc (some qp) np pc)::Qo0 us ((T.take i).map Qc4))/\us.length=i/\i<=nt/\m=nt - i) nt ?_ ?_
 ·
  refine Qs ?_;exact ⟨0,[],rfl,by simpa [Qo0] using hH4,rfl,by omega,rfl⟩
 clear hH4 hH2 c0 c1 hc0;rintro m e w6 ⟨i,us,rfl,hH,hus,hi,rfl⟩;refine VS [1,2,4,8,9,52,53,54] ?_;(repeat refine Qar ?_);refine VD (fun h=>?_) (fun h=>?_)
 ·
  have hTi:T[i]? = some (T.getD i []):=by rw [List.getD_eq_getElem?_getD,List.getElem?_eq_getElem (by omega)];rfl
  obtain ⟨hh,hhi⟩:∃ hh,hs[i]? = some hh:=⟨_,List.getElem?_eq_getElem (by omega)⟩;have hci:=(hH.rs' hrT).2.2 qt rfl i _ (Qb0 hhi hTi);have hrt2:=hH.rs' (hrt i hh _ hhi hTi);obtain ⟨e1,e2,e3⟩:=m5 _ (List.mem_of_getElem? hTi);have htk:=Qs4 Qc4 hTi;have hcd:=Qnh (T.getD i []) e3 hh.1 hh.2 w6 hrt2;generalize T.getD i []=t at *;have hLl:((T.take i).map Qc4).length=i:=by simp;omega
  have hAl:(Qbj (us++List.replicate (nt - i) (none,0)) ((T.take i).map Qc4++List.replicate (nt - i) [])).length=nt:=by
   rw [Qg0 (by simp;omega)];simp;omega
  have c0:w6.cell? ⟨gp,0,none⟩=some (.slice (some qt) nt tc):=Qae (hH.at 3 rfl) rfl;refine VC_skip ?_;refine VB ?_;refine VS [1,2,4,8,9,10,52,53] ?_;refine VQ [1,2,4,8,9,52,53] fun K hK=>?_;refine ⟨_,c0,?_⟩;refine Qs ?_;refine ⟨⟨by omega,by omega⟩,_,hci,?_⟩;refine MemK_call Tryz.call84 ?_;refine Qs ?_;refine CallK.mk hcd ?_;rintro v w7 ⟨ac,cc,hHc,rfl⟩;have hH2:=hH.call0 hHc;simp only [List.singleton_append] at hH2;clear hHc c0 hci;refine Qp ?_
  have hset:(Qbj (us++List.replicate (nt - i) (none,0)) ((T.take i).map Qc4++List.replicate (nt - i) [])).set i (.slice ac (Qc4 t).length cc)=Qbj ((us++[(ac,cc)])++List.replicate (nt - (i+1)) (none,0)) ((T.take (i+1)).map Qc4++List.replicate (nt - (i+1)) []):=by
   rw [htk,<- Qjh us (none,0) (ac,cc) (by omega) hus,<- Qjh _ [] (Qc4 t) (by omega) hLl];exact Qyl i (ac,cc) (Qc4 t)
  refine MemK_store ?_;refine Qs ?_;refine Qas hH2 1 (o:=i) (vs:=[.slice ac (Qc4 t).length cc]) rfl (by simp [Qa8]) rfl (by kernel_rfl) (by simp only [List.length_singleton];omega) (by simp [Value.oneCell']) fun w8 hH3=>?_;simp only [List.length_singleton,Qb2 _ _ _ (show i < (Qbj (us++List.replicate (nt - i) (none,0)) ((T.take i).map Qc4++List.replicate (nt - i) [])).length by omega),hset,List.set_cons_zero,List.set_cons_succ] at hH3;have hH4:=hH3.perm (List.perm_append_singleton _ _).symm;simp only [List.cons_append] at hH4;rw [Qrg (by omega),<- htk] at hH4;clear hH hH2 hH3;apply hK;clear hK;refine Qah ?_;refine VS [1,2,4,8,9,52,53] ?_;refine Qaa ?_;refine Qs ?_;exact ⟨nt - (i+1),by omega,i+1,us++[(ac,cc)],rfl,hH4,by simp [hus],by omega,rfl⟩
 obtain rfl:i=nt:=by omega
 clear h hi;rw [Nat.sub_self,List.replicate_zero,List.replicate_zero,List.append_nil,List.append_nil,List.take_of_length_le (by omega)] at hH;generalize i=nt at *;refine Qad rfl ?_;refine VS [2,4,8,9,69,70,71] ?_;generalize hFull:Qem T P list 0=Full at *;refine Qab ?_;refine Qac [2,4,8,9,69,70,71] (fun m e w'=>∃ (i:Nat) (X:List Bool) (a:Option Addr) (c:Nat),Is e [(2,.pointer (some ⟨gp,0,none⟩)),(4,.pointer (some ⟨gr,0,none⟩)),(8,.pointer (some ⟨gw,0,none⟩)),(9,.slice (some ⟨gc,0,none⟩) nt nt),(69,.slice (some ql) nl lc),(70,.int .i64 nl),(71,.int .i64 i)]/\Heap w [] w' (Res.row 36 1 (some ⟨gc,0,none⟩) nt nt (Qbj us (T.map Qc4))::wr gw a c X::Res.blk gr 24 [.string ⟨#[]⟩,.int .i64 0]::Res.blk gp 65 (Qak (some qt) nt tc (some qp) np pc)::Qo0 us (T.map Qc4))/\X++Qem T P (list.drop i) i=Full/\i<=nl/\m=nl - i) nl ?_ ?_
 ·
  refine Qs ?_;exact ⟨0,[],none,0,rfl,hH,by simpa using hFull,by omega,rfl⟩
 clear hH;rintro m e w7 ⟨i,X,a,c,rfl,hH,hX,hi,rfl⟩;refine VS [2,4,8,9,69,70,71,72] ?_;(repeat refine Qar ?_);refine VD (fun h=>?_) (fun h=>?_)
 ·
  have hcell:=Qbk (hH.rs' hr) (i:=i) (by omega);have hx:=hls _ (Qaz 0 (l:=list) (i:=i) (by omega));have hdp:list.drop i=list.getD i 0::list.drop (i+1):=drop_getD 0 (by omega);rw [hdp,Qem] at hX;generalize list.getD i 0=x at *;have hgi:i / 50 < np:=by unfold Qa4 at hlg;omega
  have hcp:=Qbk (hH.rs' hrP) (i:=i / 50) (by omega);have hpx:=m6 _ (Qaz 0 (l:=P) (i:=i / 50) (by omega));generalize P.getD (i / 50) 0=k at *;have hTk:T[k]? = some (T.getD k []):=by rw [List.getD_eq_getElem?_getD,List.getElem?_eq_getElem (by omega)];rfl
  obtain ⟨hh,hhk⟩:∃ hh,hs[k]? = some hh:=⟨_,List.getElem?_eq_getElem (by omega)⟩;obtain ⟨uu,huk⟩:∃ uu,us[k]? = some uu:=⟨_,List.getElem?_eq_getElem (by omega)⟩;have hck:=(hH.rs' hrT).2.2 qt rfl k _ (Qb0 hhk hTk);have hrt2:=hH.rs' (hrt k hh _ hhk hTk);obtain ⟨e1,e2,e3⟩:=m5 _ (List.mem_of_getElem? hTk);have hCk:(T.map Qc4)[k]? = some (Qc4 (T.getD k [])):=by rw [List.getElem?_map,hTk];rfl
  have hcc:=Qaw (hH.at 0 rfl) (Qb0 huk hCk);have hrc:=Qao (hH.at (k+4) (show _=some (Res.row 3 1 uu.1 (Qc4 (T.getD k [])).length uu.2 (Qag (Qc4 (T.getD k [])))) from Qvn huk hCk));rw [Qmj] at hcc hrc;generalize T.getD k []=t at *;have hcode:=Qld e3 (i:=x) (by omega);have hok:=Qmw e3 (i:=x) (by omega);obtain ⟨rt,hrt0⟩:=Qbb hrt2 (by omega);obtain ⟨rc,hrc0⟩:=Qbb hrc (by omega);rw [hrt0] at hrt2 hck;rw [hrc0] at hrc hcc;have hct:=Qbk hrt2 (i:=x) (by omega);have hcx:=Qbk hrc (i:=x) (by rw [Qmj];omega);have hcg:(Qc4 t).getD x 0=Qep t x:=by unfold Qc4;rw [Qf6 _ _ _ _ (by omega)]
  rw [hcg] at hcx
  have hXl:X.length+20<=100000000:=by
   have:=congrArg List.length hX;simp only [List.length_append] at this;omega
  have hw:Qhv t x=Qaq (t.getD x 0) (Qep t x):=rfl;rw [hw] at hX;have hp2:2 ^ (t.getD x 0)<=2 ^ 20:=Nat.pow_le_pow_right (by omega) hok.2;have hp3:2 ^ (t.getD x 0)<=1048576:=hp2;generalize t.getD x 0=b at *;generalize Qep t x=cx at *;have c0:w7.cell? ⟨gp,0,none⟩=some (.slice (some qt) nt tc):=Qae (hH.at 3 rfl) rfl;have c1:w7.cell? ⟨gp,1,none⟩=some (.slice (some qp) np pc):=Qae (hH.at 3 rfl) rfl;refine VC_skip ?_;refine VB ?_;refine VQ [2,4,8,9,11,12,69,70,71] fun K hK=>?_;refine ⟨⟨by omega,by omega⟩,_,hcell,?_⟩;apply hK;clear hK;refine VQ [2,4,8,9,12,13,69,70,71] fun K hK=>?_;refine ⟨_,c1,?_⟩;refine Qs ?_;rw [show ((i:Int) / 50)=((i / 50:Nat):Int) by omega];(repeat first | refine Qo ?_ | refine Qp ?_);refine ⟨_,hcp,?_⟩;apply hK;clear hK;refine VL [2,4,8,9,69,70,71] 17 fun K hK=>?_;refine ⟨⟨by omega,by omega⟩,_,hcc,?_⟩;refine Qs ?_;refine ⟨⟨by omega,by omega⟩,_,hcx,?_⟩;refine Qs ?_;refine ⟨_,c0,?_⟩;refine Qs ?_;refine ⟨⟨by omega,by omega⟩,_,hck,?_⟩;refine Qs ?_;refine ⟨⟨by omega,by omega⟩,_,hct,?_⟩;rw [show ((cx:Int) % 18446744073709551616)=cx by omega];refine MemK_call Tryz.call36 ?_;refine Qs ?_;refine CallK.mk (Qdi gw a c X cx b w7 (by omega) hcode.2.2 (by omega) (hH.focus 1 rfl)) ?_;rintro v w8 ⟨a2,c2,hHp,rfl⟩;have hH2:=hH.call1 1 rfl hHp;simp only [List.set_cons_zero,List.set_cons_succ,List.nil_append] at hH2;clear hH hHp hcc hcx c0 c1 hck hct hcp hrc hrt2 hcell;apply hK;clear hK;refine Qah ?_;refine VS [2,4,8,9,69,70,71] ?_;refine Qaa ?_;refine Qs ?_;exact ⟨nl - (i+1),by omega,i+1,_,a2,c2,rfl,hH2,by rw [List.append_assoc];exact hX,by omega,rfl⟩
 obtain rfl:i=nl:=by omega
 rw [List.drop_of_length_le (by omega),Qem,List.append_nil] at hX;subst hX;refine Qad rfl ?_;refine VQ [4,5] fun K hK=>?_;refine MemK_call Tryz.call37 ?_;refine Qs ?_;refine CallK.mk (Qhx gw a c _ w7 (hH.at 1 rfl)) ?_;rintro v w9 ⟨rfl,rfl⟩;refine MemK_call Tryz.call38 ?_;refine Qs ?_;refine CallK.mk (Qjv gw a c _ w9 (hH.at 1 rfl)) ?_;rintro v w10 ⟨rfl,rfl⟩;refine Qs ?_;refine MemK_store ?_;refine Qs ?_;refine StoreK_blk hH 2 (vs:=Qbe X) rfl rfl (by kernel_rfl) (by simp [Qbe]) (Qda _) fun w11 hH3=>?_;simp only [List.set_cons_zero,List.set_cons_succ] at hH3;apply hK;clear hK;refine VC_ret (Qcw rfl rfl rfl (Qbh (hH3.at 2 rfl) (by kernel_rfl) (by kernel_rfl) rfl ?_));exact ⟨hH3.sub (by simp),rfl⟩
theorem QAd (l:List Nat):∀ (r:List Bool) (n code:Nat) (p:Nat×Nat),Qg7 l r n code=.ok p->p.2<=n+r.length
 | [],n,code,p,h=>by simp [Qg7] at h
 | b::r,n,code,p,h=>by
  rw [Qg7] at h;split at h
  ·
   cases h;simp
  split at h
  ·
   have:=QAd l r _ _ p h;simp;omega
  cases h
theorem Qvo (l:List Nat):∀ (r:List Bool) (n code:Nat) (e:Int),Qg7 l r n code=.error e->e≠0
 | [],n,code,e,h=>by simp [Qg7] at h;omega
 | b::r,n,code,e,h=>by
  rw [Qg7] at h;split at h
  ·
   cases h
  split at h
  ·
   exact Qvo l r _ _ e h
  cases h;omega
theorem QIk {l:List Nat}{bits:List Bool}{at_:Nat}{q:Nat×Nat} (ha:at_<=bits.length) (h:Qjd l bits at_=.ok q):q.2<=bits.length:=by
 unfold Qjd at h;split at h
 ·
  rename_i p hp;cases h;have:=QAd l _ _ _ _ hp;simp at this;simp;omega
 cases h
theorem QE7 {l:List Nat}{bits:List Bool}{at_:Nat}{e:Int} (h:Qjd l bits at_=.error e):e≠0:=by
 unfold Qjd at h;split at h
 ·
  cases h
 rename_i e' he;cases h;exact Qvo l _ _ _ _ he
theorem QAe {l:List Nat}{bits:List Bool}{fin:Nat}:∀ (n at_:Nat) (q:List Nat×Nat),at_<=bits.length->Qeq l bits fin n at_=.ok q->q.2<=bits.length/\q.1.length<=n/\(0 < n->0 < q.1.length)
 | 0,at_,q,ha,h=>by simp [Qeq] at h;subst h;simp;exact ha
 | n+1,at_,q,ha,h=>by
  rw [Qeq] at h;split at h
  ·
   cases h
  rename_i p hp;have h1:=QIk ha hp;split at h
  ·
   cases h;simp;exact h1
  split at h
  ·
   cases h
  rename_i q' hq;cases h;have:=QAe n p.2 q' h1 hq;simp;omega
theorem Qvp {l:List Nat}{bits:List Bool}{fin:Nat}:∀ (n at_:Nat) (e:Int),Qeq l bits fin n at_=.error e->e≠0
 | 0,at_,e,h=>by simp [Qeq] at h
 | n+1,at_,e,h=>by
  rw [Qeq] at h;split at h
  ·
   rename_i e' he;cases h;exact QE7 he
  split at h
  ·
   cases h
  split at h
  ·
   rename_i e' he;cases h;exact Qvp n _ _ he
  cases h
theorem Qm7 {l:List Nat} (h:0 < l.length) (fin:Nat):l.getLast? = some fin ↔ l.getD (l.length - 1) 0=fin:=by
 rw [List.getLast?_eq_getElem?,List.getD_eq_getElem?_getD,List.getElem?_eq_getElem (by omega)];simp
theorem Qvq (v:Value) (T:List (List Nat)) (P:List Nat) (hm:mayP T P) (s:List UInt8) (at_:Nat) (hat:at_<=8 * s.length) (hs:s.length<=100000000000000) (w:World) (hp:PlanAt w v T P) :
  Does Tryz.prog 48 #[v,Str s,.int .i64 at_] w (QEv (Qhn T (Qam s) ((T.getD 0 []).length - 1) P at_) w):=by
 have hp0:=hp;obtain ⟨ta,tc,pa,pc,hs0,rfl,hsl,hrT,hrP,hrt⟩:=hp;have hm0:=hm;obtain ⟨m1,m2,m3,m4,m5,m6⟩:=hm;have hbl:=Qbd s;have hT0:T[0]? = some (T.getD 0 []):=by rw [List.getD_eq_getElem?_getD,List.getElem?_eq_getElem (by omega)];rfl
 have hn0:3<=(T.getD 0 []).length/\(T.getD 0 []).length<=258:=by
  obtain ⟨e1,e2,e3⟩:=m5 _ (List.mem_of_getElem? hT0);exact ⟨e2,e3.2.1⟩
 obtain ⟨qt,rfl⟩:=Qbb hrT (by omega);obtain ⟨qp,rfl⟩:=Qbb hrP (by omega);obtain ⟨h0,hh0⟩:∃ h0,hs0[0]? = some h0:=⟨_,List.getElem?_eq_getElem (by omega)⟩;have hc0:=hrT.2.2 qt rfl 0 _ (Qb0 hh0 hT0);have hen:#[Value.agg #[.slice (some qt) T.length tc,.slice (some qp) P.length pc],Str s,.int .i64 at_]=[Value.agg (Qak (some qt) T.length tc (some qp) P.length pc).toArray,Str s,.int .i64 at_].toArray:=rfl;rw [hen];refine Qdj 72 Tryz.func48 rfl rfl (of_decide_eq_true rfl) ?_;simp only [Env.ofArgs];generalize hn:(T.getD 0 []).length=n0 at *;generalize hres:Qhn T (Qam s) (n0 - 1) P at_=res;generalize hnt:T.length=nt at *;generalize hnp:P.length=np at *;refine VQ [1,2,3] fun K hK=>?_;refine Qce ?_;refine Qs ?_;have hH:=(Heap.start w).box 65 (Qak (some qt) nt tc (some qp) np pc);generalize w.alloc (Obj.cells (Qak (some qt) nt tc (some qp) np pc).toArray 65)=w1 at *;generalize w.heap.size=gp at *;apply hK;clear hK;refine VQ [1,2,3,18] fun K hK=>?_;refine ⟨Qak (some qt) nt tc (some qp) np pc,⟨rfl,blk_reads (hH.at 0 rfl)⟩,?_⟩;refine MemK_call Tryz.call79 ?_;refine Qs ?_;refine CallK.mk (Qjg _ T P hm0 w1 (hp0.keep hH)) ?_;rintro v w2 ⟨hHm,rfl⟩;have hH2:=hH.call0 hHm;simp only [List.nil_append] at hH2;clear hH hHm;refine Qs ?_;apply hK;clear hK;refine Qaf rfl rfl (fun h=>by simp at h) (fun h=>VC_skip ?_);clear h;refine VQ [1,2,3,27] fun K hK=>?_
 suffices out:∀ b:Bool,(b=true ↔ False)->K [(1,Str s),(2,.int .i64 at_),(3,.pointer (some ⟨gp,0,none⟩)),(27,.bool b)] w2 by (repeat' (first | exact out _ _ (by first | omega | (simp;done) | (simp;omega)) | exact out _ (by first | omega | (simp;done) | (simp;omega)) | refine ⟨fun _=>?_,fun _=>?_⟩ | refine Qo ?_))
 intro b hb;apply hK;clear hK;refine Qaf rfl rfl (fun h=>(hb.1 h).elim) (fun h=>VC_skip ?_);clear hb h;have c0:w2.cell? ⟨gp,0,none⟩=some (.slice (some qt) nt tc):=Qae (hH2.at 0 rfl) rfl;have c1:w2.cell? ⟨gp,1,none⟩=some (.slice (some qp) np pc):=Qae (hH2.at 0 rfl) rfl;have hc2:=(hH2.rs' hrT).2.2 qt rfl 0 _ (Qb0 hh0 hT0);rw [hn] at hc2;refine VQ [1,2,3,9] fun K hK=>?_;refine ⟨_,c0,?_⟩;refine Qs ?_;refine ⟨by omega,_,hc2,?_⟩;refine Qs ?_;(repeat first | refine Qo ?_ | refine Qp ?_);rw [show ((n0:Int) - 1)=((n0 - 1:Nat):Int) by omega];apply hK;clear hK;refine VS [1,2,3,9,10] ?_;refine VQ [1,2,3,9,10,35,36,37] fun K hK=>?_;refine ⟨_,c1,?_⟩;refine Qs ?_;apply hK;clear hK;clear c0 c1 hc2 hc0;generalize hfin:n0 - 1=fin at *;refine Qab ?_;refine Qac [1,2,3,9,10,35,36,37] (fun m e w'=>∃ (i at2 cap:Nat) (D:List Nat) (a:Option Addr),Is e [(1,Str s),(2,.int .i64 at2),(3,.pointer (some ⟨gp,0,none⟩)),(9,.int .i64 fin),(10,.slice a D.length cap),(35,.slice (some qp) np pc),(36,.int .i64 np),(37,.int .i64 i)]/\Heap w [] w' [Res.row 3 1 a D.length cap (Qag D),Res.blk gp 65 (Qak (some qt) nt tc (some qp) np pc)]/\at2<=8 * s.length/\D.length<=50 * i/\(match Qhn T (Qam s) fin (P.drop i) at2 with | .error e=>.error e | .ok x=>.ok (D++x.1,x.2))=res/\i<=np/\m=np - i) np ?_ ?_
 ·
  refine Qs ?_;refine ⟨0,at_,0,[],none,rfl,hH2.nilRow 3 1,hat,by simp,?_,by omega,rfl⟩;rw [<- hres,List.drop_zero];cases Qhn T (Qam s) fin P at_ <;> rfl
 clear hH2 hres;rintro m e w3 ⟨i,at2,cap,D,a,rfl,hH,hat2,hDl,hres,hi,rfl⟩;refine VS [1,2,3,9,10,35,36,37,38] ?_;(repeat refine Qar ?_);refine VD (fun h=>?_) (fun h=>?_)
 ·
  have hcp:=Qbk (hH.rs' hrP) (i:=i) (by omega);have hpx:=m6 _ (Qaz 0 (l:=P) (i:=i) (by omega));have hdp:P.drop i=P.getD i 0::P.drop (i+1):=drop_getD 0 (by omega);rw [hdp,Qhn] at hres;generalize P.getD i 0=k at *;have hTk:T[k]? = some (T.getD k []):=by rw [List.getD_eq_getElem?_getD,List.getElem?_eq_getElem (by omega)];rfl
  obtain ⟨hh,hhk⟩:∃ hh,hs0[k]? = some hh:=⟨_,List.getElem?_eq_getElem (by omega)⟩;have hck:=(hH.rs' hrT).2.2 qt rfl k _ (Qb0 hhk hTk);have hrt2:=hH.rs' (hrt k hh _ hhk hTk);obtain ⟨e1,e2,e3⟩:=m5 _ (List.mem_of_getElem? hTk);generalize T.getD k []=t at *;have hal:=QIi t e3 s at2 50 fin hat2 hs (by omega) (by omega) hh.1 hh.2 w3 hrt2;have hag:=fun q=>QAe (l:=t) (bits:=Qam s) (fin:=fin) 50 at2 q (by omega);have hae:=fun e=>Qvp (l:=t) (bits:=Qam s) (fin:=fin) 50 at2 e;generalize Qeq t (Qam s) fin 50 at2=r at *;have c0:w3.cell? ⟨gp,0,none⟩=some (.slice (some qt) nt tc):=Qae (hH.at 1 rfl) rfl;refine VC_skip ?_;refine VB ?_;refine VQ [1,2,3,9,10,12,35,36,37] fun K hK=>?_;refine ⟨⟨by omega,by omega⟩,_,hcp,?_⟩;apply hK;clear hK;refine VQ [1,3,9,10,13,14,15,35,36,37] fun K hK=>?_;refine ⟨_,c0,?_⟩;refine Qs ?_;refine ⟨⟨by omega,by omega⟩,_,hck,?_⟩;refine MemK_call Tryz.call104 ?_;refine Qs ?_;refine CallK.mk hal ?_;intro v w4 hEx;cases r with
  | error e =>
   obtain ⟨hHe,rfl⟩:=hEx;subst hres;have hH2:=hH.call0 hHe;simp only [List.nil_append] at hH2;apply hK;clear hK;refine VS [1,3,9,10,13,14,15,35,36,37,55] ?_;refine Vi (fun h=>?_) (fun h=>?_)
   ·
    refine VS [6,7,8] ?_;exact VC_ret (Qd5 rfl rfl rfl rfl ⟨hH2.sub (by simp),rfl⟩)
   simp at h;exact absurd h (hae e rfl)
  | ok q =>
   obtain ⟨aq,cq,hHq,rfl⟩:=hEx;obtain ⟨q1,q2,q3⟩:=hag q rfl;replace q3:=q3 (by omega);simp only at hres;have hH2:=hH.call0 hHq;simp only [List.singleton_append] at hH2;obtain ⟨gq,rfl⟩:=Qdu (hH2.at 0 rfl) q3;clear hH hHq;apply hK;clear hK;refine VS [1,3,9,10,13,14,15,35,36,37,55] ?_;refine Qaf rfl rfl (fun h=>by simp at h) (fun h=>VC_skip ?_);clear h;refine VQ [1,3,9,10,13,14,35,36,37] fun K hK=>?_;refine Qai ?_;refine Qs ?_;refine Qb7 (zs:=#[.int .i64 0]) (bytes:=8) hH2 1 rfl Tryz.underlying36 (by kernel_rfl) rfl ⟨rfl,Qao (hH2.at 0 rfl),3,Tryz.underlying36⟩ (Qc2 _) (fun h=>by omega) fun a' cap' w5 hc' hH3=>?_;simp only [List.set_cons_succ,List.set_cons_zero] at hH3;rw [<- Qcq,<- List.length_append] at hH3;rw [<- List.length_append];apply hK;clear hK;refine VS [1,2,3,9,10,13,35,36,37] ?_;have hce:=Qaw (hH3.at 0 rfl) (Qbw (l:=q.1) (i:=q.1.length - 1) (by omega));refine VQ [1,2,3,9,10,35,36,37,68] fun K hK=>?_;(repeat first | refine Qo ?_ | refine Qp ?_);refine ⟨_,hce,?_⟩;refine Qs ?_;apply hK;clear hK;clear hce;refine VD (fun h=>?_) (fun h=>VC_skip ?_)
   ·
    rw [if_pos ((Qm7 q3 fin).2 (by omega))] at hres;subst hres;refine VS [6,7,8] ?_;exact VC_ret (Qd5 rfl rfl rfl rfl ⟨a',cap',hH3.sub (by simp),rfl⟩)
   rw [if_neg (fun e=>h (by have:=(Qm7 q3 fin).1 e;omega))] at hres;refine Qah ?_;refine VS [1,2,3,9,10,35,36,37] ?_;refine Qaa ?_;refine Qs ?_;refine ⟨np - (i+1),by omega,i+1,q.2,cap',D++q.1,a',rfl,hH3.sub (List.sublist_cons_self _ _),by omega,by simp;omega,?_,by omega,rfl⟩;rw [<- hres];cases Qhn T (Qam s) fin (P.drop (i+1)) q.2 with
   | error e=>rfl
   | ok y=>simp
 obtain rfl:i=np:=by omega
 rw [List.drop_of_length_le (by omega),Qhn] at hres;subst hres;refine Qad rfl ?_;refine VS [6,7,8] ?_;exact VC_ret (Qd5 rfl rfl rfl rfl ⟨hH.sub (by simp),rfl⟩)
theorem Qbt (ta:Option Addr) (nt tc:Nat) (pa:Option Addr) (np pc:Nat):∀ u∈Qak ta nt tc pa np pc,u.oneCell'=true:=by
 intro u hu;simp [Qak] at hu;rcases hu with rfl | rfl <;> rfl
theorem Qji {w:World}{v:Value}{T:List (List Nat)}{P:List Nat}{ta pa:Option Addr}{nt tc np pc:Nat}{hs:List (Option Addr×Nat)} (hv:v=.agg (Qak ta nt tc pa np pc).toArray) (hnt:T.length=nt) (hnp:P.length=np) (hl:hs.length=nt) (h1:RS w ta nt 1 (Qbj hs T)) (h2:RS w pa np 1 (Qag P))
  (h3:∀ (i:Nat) (h:Option Addr×Nat) (t:List Nat),hs[i]? = some h->T[i]? = some t->RS w h.1 t.length 1 (Qag t)):PlanAt w v T P:=by
 subst hnt hnp;exact ⟨ta,tc,pa,pc,hs,hv,hl,h1,h2,h3⟩
set_option maxHeartbeats 4000000
theorem Qck {P:Program}{N:Nat}{ops:List Oper}{w0:World}{e:Env}{w:World}{K:Env->World->Prop}:vcH P N ops w0 [] e w K=K e w:=rfl
abbrev QQa:Value:=.agg (Qak none 0 0 none 0 0).toArray
def QQb (r:Except Int ((List (List Nat)×List Nat)×Nat)) (w:World) (v:Value) (w':World):Prop:=match r with
 | .ok q=>∃ pv,Heap w [] w' []/\PlanAt w' pv q.1.1 q.1.2/\v=.tuple #[pv,.int .i64 q.2,.int .i64 0]
 | .error e=>Heap w [] w' []/\v=.tuple #[QQa,.int .i64 0,.int .i64 e]
theorem Qs5 (s:List UInt8) (at_ n:Nat) (ha:at_<=8 * s.length) (hs:s.length<=100000000000000) (hn:3<=n/\n<=258) (w:World) :
  Does Tryz.prog 47 #[Str s,.int .i64 at_,.int .i64 n] w (QQb (Qes (Qam s) at_ n) w):=by
 have hbl:=Qbd s;generalize hres:Qes (Qam s) at_ n=res;unfold Qes at hres;refine En [Str s,.int .i64 at_,.int .i64 n] 122 Tryz.func47 ?_;refine VQ [0,1,2,6] fun K hK=>?_;refine MemK_alloc (.agg #[.slice none 0 0,.slice none 0 0]) (by kernel_rfl) ?_;refine Qs ?_;have hH:=(Heap.start w).box 65 (Qak none 0 0 none 0 0);have hpl:[Value.slice none 0 0,Value.slice none 0 0]=Qak none 0 0 none 0 0:=rfl;rw [hpl];generalize w.alloc (Obj.cells (Qak none 0 0 none 0 0).toArray 65)=w1 at *;generalize w.heap.size=gr at *;apply hK;clear hK;refine VQ [0,2,6,9] fun K hK=>?_;refine MemK_call Tryz.call86 ?_;refine Qs ?_;refine CallK.mk (Qd4 s at_ w1 (I64.mk (by omega) (by omega)) (by omega)) ?_;rintro v w2 (⟨hbad,_⟩ | ⟨_,gd,gs,hHr,rfl⟩)
 ·
  omega
 rw [Int.toNat_natCast] at hHr;have hH2:=hH.call0 hHr;simp only [List.singleton_append] at hH2;clear hH hHr;apply hK;clear hK;refine VQ [0,2,6,9,32] fun K hK=>?_
 suffices out:∀ b:Bool,(b=true ↔ False)->K [(0,Str s),(2,.int .i64 n),(6,.pointer (some ⟨gr,0,none⟩)),(9,.pointer (some ⟨gd,0,none⟩)),(32,.bool b)] w2 by (repeat' (first | exact out _ _ (by first | omega | (simp;done) | (simp;omega)) | exact out _ (by first | omega | (simp;done) | (simp;omega)) | refine ⟨fun _=>?_,fun _=>?_⟩ | refine Qo ?_))
 intro b hb;apply hK;clear hK;refine Qaf rfl rfl (fun h=>(hb.1 h).elim) (fun h=>VC_skip ?_);clear hb h;refine VQ [0,2,6,9,10,11] fun K hK=>?_;refine MemK_call Tryz.call87 ?_;refine Qs ?_;refine CallK.mk (Qe5 gd gs s at_ 3 w2 (by omega) (by omega) (by omega) (hH2.focus 0 rfl)) ?_;rintro v w3 (⟨h1,rfl,rfl⟩ | ⟨h1,hHt,rfl⟩)
 ·
  rw [Qli (by omega),if_pos (by simp)] at hres;subst hres;apply hK;clear hK;refine VS [0,2,6,9,10,11,40] ?_;refine Qaf rfl rfl (fun h=>?_) (fun h=>by simp at h);refine VQ [6,7,8] fun K hK=>?_
  (refine MemK_store ?_;refine Qs ?_)
  refine StoreK_blk hH2 1 (vs:=Qak none 0 0 none 0 0) rfl rfl (by kernel_rfl) (by simp [Qak]) (Qbt _ _ _ _ _ _) fun w4 hH3=>?_;simp only [List.set_cons_zero,List.set_cons_succ] at hH3;apply hK;clear hK;refine VC_ret (Qhd rfl rfl rfl rfl (Qbh (hH3.at 1 rfl) (by kernel_rfl) (by kernel_rfl) rfl ?_));exact ⟨hH3.sub (by simp),rfl⟩
 have hH3:=hH2.call1 0 rfl hHt;simp only [List.set_cons_zero,List.nil_append] at hH3;clear hH2 hHt;rw [Qml (by omega),if_neg (by simp)] at hres;simp only at hres;have hm7:=Qe0 (((Qam s).drop at_).take 3);have hfl:(((Qam s).drop at_).take 3).length=3:=by simp;omega
 rw [hfl] at hm7;generalize numB (((Qam s).drop at_).take 3)=many at *;apply hK;clear hK;refine VS [0,2,6,9,10,11,40] ?_;refine Qaf rfl rfl (fun h=>by simp at h) (fun h=>VC_skip ?_);clear h;refine VQ [0,2,6,9,10,48] fun K hK=>?_
 suffices out:∀ b:Bool,(b=true ↔ (many < 2∨6 < many))->K [(0,Str s),(2,.int .i64 n),(6,.pointer (some ⟨gr,0,none⟩)),(9,.pointer (some ⟨gd,0,none⟩)),(10,.int .u64 many),(48,.bool b)] w3 by (repeat' (first | exact out _ _ (by first | omega | (simp;done) | (simp;omega)) | exact out _ (by first | omega | (simp;done) | (simp;omega)) | refine ⟨fun _=>?_,fun _=>?_⟩ | refine Qo ?_))
 intro b hb;apply hK;clear hK;refine Vi (fun h=>?_) (fun h=>?_)
 ·
  rw [if_pos (hb.1 h)] at hres;subst hres;refine VQ [6,7,8] fun K hK=>?_
  (refine MemK_store ?_;refine Qs ?_)
  refine StoreK_blk hH3 1 (vs:=Qak none 0 0 none 0 0) rfl rfl (by kernel_rfl) (by simp [Qak]) (Qbt _ _ _ _ _ _) fun w4 hH4=>?_;simp only [List.set_cons_zero,List.set_cons_succ] at hH4;apply hK;clear hK;refine VC_ret (Qhd rfl rfl rfl rfl (Qbh (hH4.at 1 rfl) (by kernel_rfl) (by kernel_rfl) rfl ?_));exact ⟨hH4.sub (by simp),rfl⟩
 have hb2:¬ (many < 2∨6 < many):=fun hc=>by rw [hb.2 hc] at h;cases h
 rw [if_neg hb2] at hres;clear hb h;refine VC_skip ?_;refine VQ [0,2,6,9,10,11,12] fun K hK=>?_;refine MemK_call Tryz.call87 ?_;refine Qs ?_;refine CallK.mk (Qe5 gd gs s (at_+3) 15 w3 (by omega) (by omega) (by omega) (hH3.focus 0 rfl)) ?_;rintro v w4 (⟨h2,rfl,rfl⟩ | ⟨h2,hHt,rfl⟩)
 ·
  rw [Qli (by omega),if_pos (by simp)] at hres;subst hres;apply hK;clear hK;refine VS [0,2,6,9,10,11,12,56] ?_;refine Qaf rfl rfl (fun h=>?_) (fun h=>by simp at h);refine VQ [6,7,8] fun K hK=>?_
  (refine MemK_store ?_;refine Qs ?_)
  refine StoreK_blk hH3 1 (vs:=Qak none 0 0 none 0 0) rfl rfl (by kernel_rfl) (by simp [Qak]) (Qbt _ _ _ _ _ _) fun w4 hH4=>?_;simp only [List.set_cons_zero,List.set_cons_succ] at hH4;apply hK;clear hK;refine VC_ret (Qhd rfl rfl rfl rfl (Qbh (hH4.at 1 rfl) (by kernel_rfl) (by kernel_rfl) rfl ?_));exact ⟨hH4.sub (by simp),rfl⟩
 have hH4:=hH3.call1 0 rfl hHt;simp only [List.set_cons_zero,List.nil_append] at hH4;clear hH3 hHt;rw [Qml (by omega),if_neg (by simp)] at hres;simp only at hres;have hm7b:=Qe0 (((Qam s).drop (at_+3)).take 15);have hflb:(((Qam s).drop (at_+3)).take 15).length=15:=by simp;omega
 rw [hflb] at hm7b;generalize numB (((Qam s).drop (at_+3)).take 15)=np at *;apply hK;clear hK;refine VS [0,2,6,9,10,11,12,56] ?_;refine Qaf rfl rfl (fun h=>by simp at h) (fun h=>VC_skip ?_);clear h;refine VS [0,2,6,9,10,12,60] ?_;refine VD (fun h=>?_) (fun h=>VC_skip ?_)
 ·
  rw [if_pos (by omega)] at hres;subst hres;refine VQ [6,7,8] fun K hK=>?_
  (refine MemK_store ?_;refine Qs ?_)
  refine StoreK_blk hH4 1 (vs:=Qak none 0 0 none 0 0) rfl rfl (by kernel_rfl) (by simp [Qak]) (Qbt _ _ _ _ _ _) fun w5 hH5=>?_;simp only [List.set_cons_zero,List.set_cons_succ] at hH5;apply hK;clear hK;refine VC_ret (Qhd rfl rfl rfl rfl (Qbh (hH5.at 1 rfl) (by kernel_rfl) (by kernel_rfl) rfl ?_));exact ⟨hH5.sub (by simp),rfl⟩
 rw [if_neg (by omega),show at_+3+15=at_+18 by omega] at *;have hat2:at_+18<=8 * s.length:=by omega
 refine VQ [0,2,6,9,10,12,13] fun K hK=>?_;refine MemK_alloc (.agg #[.slice none 0 0,.slice none 0 0]) (by kernel_rfl) ?_;refine Qs ?_;have hH5:=hH4.box 65 (Qak none 0 0 none 0 0);rw [hpl];generalize w4.alloc (Obj.cells (Qak none 0 0 none 0 0).toArray 65)=w5 at *;generalize w4.heap.size=gp at *;clear hH4;apply hK;clear hK;refine VQ [0,2,6,9,10,12,13,14] fun K hK=>?_;(repeat first | refine Qo ?_ | refine Qp ?_);refine MemK_call Tryz.call80 ?_;refine Qs ?_;refine CallK.mk (Qm3 many (by omega) (by omega) w5) ?_;rintro v w6 ⟨go,hHo,rfl⟩;have hH6:=hH5.call0 hHo;simp only [List.singleton_append] at hH6;clear hH5 hHo;apply hK;clear hK
 have hH7:Heap w [] w6 [Res.row 3 1 (some ⟨go,0,none⟩) many many (Qag (List.range many)),rd gd gs s (at_+18),Res.row 3 1 none 0 0 (Qag []),Res.blk gp 65 (Qak none 0 0 none 0 0),Res.blk gr 65 (Qak none 0 0 none 0 0)] :=
  (hH6.nilRow 3 1).perm ((List.Perm.swap _ _ _).trans (List.Perm.cons _ ((List.Perm.cons _ (List.Perm.swap _ _ _)).trans (List.Perm.swap _ _ _))))
 clear hH6;refine VS [0,2,6,9,10,13,14,65,66] ?_;generalize hpt:ptGo (Qam s) many (List.range many) np (at_+18)=rp at *;have hpok:=fun q=>Qyo (bits:=Qam s) (many:=many) (by omega) np (List.range many) (at_+18) q (by simp) (by omega);have hperr:=fun e=>Qs2 (bits:=Qam s) (many:=many) np (List.range many) (at_+18) e;rw [hpt] at hpok hperr;refine Qab ?_;refine Qac [0,2,6,9,10,13,14,65,66] (fun m e w'=>∃ (i at2 cP:Nat) (aP:Option Addr) (li D:List Nat),Is e [(0,Str s),(2,.int .i64 n),(6,.pointer (some ⟨gr,0,none⟩)),(9,.pointer (some ⟨gd,0,none⟩)),(10,.int .u64 many),(13,.pointer (some ⟨gp,0,none⟩)),(14,.slice (some ⟨go,0,none⟩) many many),(65,.int .u64 np),(66,.int .u64 i)]/\Heap w [] w' [Res.row 3 1 (some ⟨go,0,none⟩) many many (Qag li),rd gd gs s at2,Res.row 3 1 aP D.length cP (Qag D),Res.blk gp 65 (Qak none 0 0 aP D.length cP),Res.blk gr 65 (Qak none 0 0 none 0 0)]/\li.length=many/\D.length=i/\at2<=8 * s.length/\(match ptGo (Qam s) many li (np - i) at2 with | .error e=>.error e | .ok q=>.ok (D++q.1,q.2))=rp/\i<=np/\m=np - i) np ?_ ?_
 ·
  refine Qs ?_;refine ⟨0,at_+18,0,none,List.range many,[],rfl,hH7,by simp,rfl,hat2,?_,by omega,rfl⟩;rw [Nat.sub_zero,hpt];cases rp <;> rfl
 clear hH7 hpt;rintro m e w7 ⟨i,at2,cP,aP,li,D,rfl,hH,hlil,hDl,hat,hrp,hi,rfl⟩;refine VS [0,2,6,9,10,13,14,65,66,67] ?_;(repeat refine Qar ?_);refine VD (fun h=>?_) (fun h=>?_)
 ·
  obtain ⟨k,hk⟩:∃ k,np - i=k+1:=⟨np - i - 1,by omega⟩;rw [hk,ptGo] at hrp;have hud:=QCb gd gs s at2 (many - 1) w7 (by omega) hat (by omega) (hH.focus 1 rfl);generalize hU:unS ((Qam s).drop at2) (many - 1) 0=U at *;obtain ⟨u,ue⟩:=U;simp only at hrp hud;refine VC_skip ?_;refine VB ?_;refine VQ [0,2,6,9,10,13,14,15,16,65,66] fun K hK=>?_;(repeat first | refine Qo ?_ | refine Qp ?_);rw [show ((many:Int) - 1)=((many - 1:Nat):Int) by omega];refine MemK_call Tryz.call101 ?_;refine Qs ?_;refine CallK.mk hud ?_;rintro v w8 ⟨rfl,hcs⟩;apply hK;clear hK;refine VS [0,2,6,9,10,13,14,15,16,65,66,77] ?_;refine Qde [0,2,6,9,10,13,14,15,16,65,66] (fun e w'=>Is e [(0,Str s),(2,.int .i64 n),(6,.pointer (some ⟨gr,0,none⟩)),(9,.pointer (some ⟨gd,0,none⟩)),(10,.int .u64 many),(13,.pointer (some ⟨gp,0,none⟩)),(14,.slice (some ⟨go,0,none⟩) many many),(15,.int .i64 u),(16,.int .i64 (if ue=3 then 110 else ue)),(65,.int .u64 np),(66,.int .u64 i)]/\Is w' w8) ?_ ?_
  ·
   refine VD (fun h=>?_) (fun h=>?_)
   ·
    refine VS [0,2,6,9,10,13,14,15,16,65,66] ?_;refine Qaa ?_;refine Qs ?_;exact ⟨by rw [if_pos h];rfl,rfl⟩
   refine VC_skip ?_;refine Qaa ?_;refine Qs ?_;exact ⟨by rw [if_neg h];rfl,rfl⟩
  rintro e w9 ⟨rfl,rfl⟩;refine VS [0,2,6,9,10,13,14,15,16,65,66,79] ?_;rcases hcs with ⟨hne,rfl⟩ | ⟨hue,hul,hum,hHu⟩
  ·
   rw [if_pos hne] at hrp;subst hrp;subst hres;have hx:(if ue=3 then 110 else ue)≠0:=by split <;> omega
   generalize (if ue=3 then 110 else ue)=x at *;refine Qaf rfl rfl (fun h=>?_) (fun h=>by simp at h;exact absurd h hx);refine VQ [6,7,8] fun K hK=>?_
   (refine MemK_store ?_;refine Qs ?_)
   refine StoreK_blk hH 4 (vs:=Qak none 0 0 none 0 0) rfl rfl (by kernel_rfl) (by simp [Qak]) (Qbt _ _ _ _ _ _) fun w5 hH5=>?_;simp only [List.set_cons_zero,List.set_cons_succ] at hH5;apply hK;clear hK;refine VC_ret (Qhd rfl rfl rfl rfl (Qbh (hH5.at 4 rfl) (by kernel_rfl) (by kernel_rfl) rfl ?_));exact ⟨hH5.sub (by simp),rfl⟩
  subst hue;rw [if_neg (by simp)] at hrp;have hH2:=hH.call1 1 rfl hHu;simp only [List.set_cons_zero,List.set_cons_succ,List.nil_append] at hH2;clear hH hHu;have hmvl:=Qfw (li:=li) (at_:=u) (by omega);have hmd:=Qm4 li go many u (by omega) (by omega) w w9 [] _ (by rw [hlil];exact hH2);rw [hlil] at hmd;refine Qaf rfl rfl (fun h=>by simp at h) (fun h=>VC_skip ?_);clear h;refine V3 (bare w9) (Qnj _ _) [0,2,6,9,10,13,14,65,66] (.two [(0,true),(2,true),(3,true)] 1 4 (.seq [(4,false),(5,false),(6,false),(7,true),(8,false)]) (.two [] 1 5 (.seq [(5,false),(6,false),(7,true),(8,false)]) (.seq [(1,false),(6,false),(7,true),(8,false)]))) fun K hK=>?_
  suffices out:∀ a' c' w10,Heap w [] w10 [Res.row 3 1 (some ⟨go,0,none⟩) many many (Qag (Qd9 li u)),rd gd gs s (at2+u+1),Res.row 3 1 a' (D++[li.getD u 0]).length c' (Qag (D++[li.getD u 0])),Res.blk gp 65 (Qak none 0 0 a' (D++[li.getD u 0]).length c'),Res.blk gr 65 (Qak none 0 0 none 0 0)]->K [(0,Str s),(2,.int .i64 n),(6,.pointer (some ⟨gr,0,none⟩)),(9,.pointer (some ⟨gd,0,none⟩)),(10,.int .u64 many),(13,.pointer (some ⟨gp,0,none⟩)),(14,.slice (some ⟨go,0,none⟩) many many),(65,.int .u64 np),(66,.int .u64 i)] w10 by
   generalize hx:li.getD u 0=x at *;have c0:w9.cell? ⟨gp,1,none⟩=some (.slice aP D.length cP):=Qae (hH2.at 3 rfl) (show (Qak none 0 0 aP D.length cP)[1]? = some _ from rfl);simp only [vcT3,Qa6,List.filterMap_cons,List.filterMap_nil,List.getElem?_cons_succ,List.getElem?_cons_zero,Option.map_some];refine Qs ?_;simp only [Qck];refine Qs ?_;refine And.intro ?_ ?_
   ·
    refine ⟨_,c0,?_⟩;(try simp only [Qck]);refine MemK_call Tryz.call81 ?_;refine Qs ?_;refine CallK.mk hmd ?_;rintro v w10 ⟨hH3,rfl⟩;(try simp only [Qck]);refine Qbg hH3 (Qag [x]) (xs:=[.tmp 86]) Tryz.underlying36 sz3 rfl rfl rfl (by omega) ?_;refine Qs ?_;refine ⟨rfl,by simp [Value.cells],fun g w4 hH4=>?_⟩;(try refine Qs ?_);(try simp only [Qck]);refine Qai ?_;refine Qs ?_;refine Qb7 (zs:=#[.int .i64 0]) (bytes:=8) hH4 3 rfl Tryz.underlying36 (by kernel_rfl) rfl ⟨rfl,Qao (hH4.at 0 rfl),3,Tryz.underlying36⟩ (Qc2 _) (fun h=>by omega) fun a' cap' w12 hc' hH5=>?_;simp only [List.set_cons_succ,List.set_cons_zero] at hH5;skip;(try simp only [Qck]);skip;refine MemK_store ?_;refine Qs ?_;refine StoreK_blk hH5 4 (vs:=[.slice a' (D.length+1) cap']) rfl rfl (by kernel_rfl) (by simp [Qak]) (by simp [Value.oneCell']) fun w13 hH6=>?_;simp only [List.set_cons_succ,List.set_cons_zero] at hH6;skip;(try simp only [Qck]);skip;refine out a' cap' w13 ?_;rw [Qcq,List.length_append];exact hH6.sub (List.sublist_cons_self _ _)
   refine MemK_call Tryz.call81 ?_;refine Qs ?_;refine CallK.mk hmd ?_;rintro v w10 ⟨hH3,rfl⟩;have c1:w10.cell? ⟨gp,1,none⟩=some (.slice aP D.length cP):=Qae (hH3.at 3 rfl) (show (Qak none 0 0 aP D.length cP)[1]? = some _ from rfl);(try simp only [Qck]);refine Qs ?_;refine And.intro ?_ ?_
   ·
    refine ⟨_,c1,?_⟩;(try simp only [Qck]);refine Qbg hH3 (Qag [x]) (xs:=[.tmp 86]) Tryz.underlying36 sz3 rfl rfl rfl (by omega) ?_;refine Qs ?_;refine ⟨rfl,by simp [Value.cells],fun g w4 hH4=>?_⟩;(try refine Qs ?_);(try simp only [Qck]);refine Qai ?_;refine Qs ?_;refine Qb7 (zs:=#[.int .i64 0]) (bytes:=8) hH4 3 rfl Tryz.underlying36 (by kernel_rfl) rfl ⟨rfl,Qao (hH4.at 0 rfl),3,Tryz.underlying36⟩ (Qc2 _) (fun h=>by omega) fun a' cap' w12 hc' hH5=>?_;simp only [List.set_cons_succ,List.set_cons_zero] at hH5;skip;(try simp only [Qck]);skip;refine MemK_store ?_;refine Qs ?_;refine StoreK_blk hH5 4 (vs:=[.slice a' (D.length+1) cap']) rfl rfl (by kernel_rfl) (by simp [Qak]) (by simp [Value.oneCell']) fun w13 hH6=>?_;simp only [List.set_cons_succ,List.set_cons_zero] at hH6;skip;(try simp only [Qck]);skip;refine out a' cap' w13 ?_;rw [Qcq,List.length_append];exact hH6.sub (List.sublist_cons_self _ _)
   refine Qbg hH3 (Qag [x]) (xs:=[.tmp 86]) Tryz.underlying36 sz3 rfl rfl rfl (by omega) ?_;refine Qs ?_;refine ⟨rfl,by simp [Value.cells],fun g w4 hH4=>?_⟩;(try refine Qs ?_);have c2:w4.cell? ⟨gp,1,none⟩=some (.slice aP D.length cP):=Qae (hH4.at 4 rfl) (show (Qak none 0 0 aP D.length cP)[1]? = some _ from rfl);(try simp only [Qck]);refine Qs ?_;refine ⟨_,c2,?_⟩;(try simp only [Qck]);refine Qai ?_;refine Qs ?_;refine Qb7 (zs:=#[.int .i64 0]) (bytes:=8) hH4 3 rfl Tryz.underlying36 (by kernel_rfl) rfl ⟨rfl,Qao (hH4.at 0 rfl),3,Tryz.underlying36⟩ (Qc2 _) (fun h=>by omega) fun a' cap' w12 hc' hH5=>?_;simp only [List.set_cons_succ,List.set_cons_zero] at hH5;skip;(try simp only [Qck]);skip;refine MemK_store ?_;refine Qs ?_;refine StoreK_blk hH5 4 (vs:=[.slice a' (D.length+1) cap']) rfl rfl (by kernel_rfl) (by simp [Qak]) (by simp [Value.oneCell']) fun w13 hH6=>?_;simp only [List.set_cons_succ,List.set_cons_zero] at hH6;skip;(try simp only [Qck]);skip;refine out a' cap' w13 ?_;rw [Qcq,List.length_append];exact hH6.sub (List.sublist_cons_self _ _)
  intro a' c' w10 hH3;clear hH2 hmd;apply hK;clear hK;refine Qah ?_;refine VS [0,2,6,9,10,13,14,65,66] ?_;refine Qaa ?_;refine Qs ?_;rw [show (((i:Int)+1) % 18446744073709551616)=((i+1:Nat):Int) by omega];refine ⟨np - (i+1),by omega,i+1,at2+u+1,c',a',Qd9 li u,D++[li.getD u 0],rfl,hH3,by omega,by simp [hDl],by omega,?_,by omega,rfl⟩;rw [<- hrp,show np - (i+1)=k by omega];cases ptGo (Qam s) many (Qd9 li u) k (at2+u+1) with
  | error e=>rfl
  | ok y=>simp
 have hi2:i=np:=by omega
 rw [hi2,Nat.sub_self,ptGo] at hrp;rw [hi2] at hDl;simp only [List.append_nil] at hrp;clear h hi hi2;subst hrp;obtain ⟨hp1,hp2,hp3⟩:=hpok _ rfl;simp only at hres;clear hpok hperr hlil;refine Qad rfl ?_;refine VQ [0,1,2,6,10,13] fun K hK=>?_;refine MemK_call Tryz.call100 ?_;refine Qs ?_;refine CallK.mk (Qoq gd gs at2 s w7 (hH.at 1 rfl)) ?_;rintro v w8 ⟨rfl,rfl⟩;apply hK;clear hK;refine VS [0,1,2,6,13,93,94] ?_;have htok:=fun q=>Qyp (bits:=Qam s) (n:=n) many at2 q (by omega);have hterr:=fun e=>Qs3 (bits:=Qam s) (n:=n) many at2 e;generalize htt:ttGo (Qam s) n many at2=rt at *;refine Qab ?_;refine Qac [0,1,2,6,13,93,94] (fun m e w'=>∃ (t at3 cT:Nat) (aT:Option Addr) (us:List (Option Addr×Nat)) (T:List (List Nat)),Is e [(0,Str s),(1,.int .i64 at3),(2,.int .i64 n),(6,.pointer (some ⟨gr,0,none⟩)),(13,.pointer (some ⟨gp,0,none⟩)),(93,.int .u64 many),(94,.int .u64 t)]/\Heap w [] w' (Res.row 36 1 aT t cT (Qbj us T)::Res.row 3 1 aP np cP (Qag D)::Res.blk gp 65 (Qak aT t cT aP np cP)::Res.blk gr 65 (Qak none 0 0 none 0 0)::Qo0 us T)/\us.length=t/\T.length=t/\at3<=8 * s.length/\(match ttGo (Qam s) n (many - t) at3 with | .error e=>.error e | .ok q=>.ok (T++q.1,q.2))=rt/\t<=many/\m=many - t) many ?_ ?_
 ·
  refine Qs ?_;refine ⟨0,at2,0,none,[],[],rfl,?_,rfl,rfl,hat,?_,by omega,rfl⟩
  ·
   have h7:=(hH.sub (.cons _ (.cons _ (.refl _)))).nilRow 36 1;rw [hDl] at h7;exact h7
  rw [Nat.sub_zero,htt];cases rt <;> rfl
 clear hH htt;rintro m e w9 ⟨t,at3,cT,aT,us,T,rfl,hH,hus,hTl,hat3,hrt,ht,rfl⟩;refine VS [0,1,2,6,13,93,94,95] ?_;(repeat refine Qar ?_);refine VD (fun h=>?_) (fun h=>?_)
 ·
  obtain ⟨k,hk⟩:∃ k,many - t=k+1:=⟨many - t - 1,by omega⟩;rw [hk,ttGo] at hrt;have hdt:=Qp3 s at3 n hat3 hs (by omega) w9;have hdok:=fun q=>Qm5 (bits:=Qam s) (at_:=at3) (n:=n) (q:=q);have hderr:=fun e=>Qlj (bits:=Qam s) (at_:=at3) (n:=n) (e:=e);generalize Qdn (Qam s) at3 n=rd1 at *;refine VC_skip ?_;refine VB ?_;refine VQ [0,2,6,13,17,18,19,93,94] fun K hK=>?_;refine MemK_call Tryz.call102 ?_;refine Qs ?_;refine CallK.mk hdt ?_;intro v w10 hEx;cases rd1 with
  | error e =>
   obtain ⟨hHe,rfl⟩:=hEx;have hne:=hderr e rfl;subst hrt;subst hres;have hH2:=hH.call0 hHe;simp only [List.nil_append] at hH2;apply hK;clear hK;refine VS [0,2,6,13,17,18,19,93,94,105] ?_;(repeat refine Qar ?_);refine Qde [0,2,6,13,19,93,94] (fun e' w'=>Is e' [(0,Str s),(2,.int .i64 n),(6,.pointer (some ⟨gr,0,none⟩)),(13,.pointer (some ⟨gp,0,none⟩)),(19,.int .i64 e),(93,.int .u64 many),(94,.int .u64 t)]/\Is w' w10) ?_ ?_
   ·
    refine Qaf rfl rfl (fun h=>by simp at h;exact absurd h hne) (fun h=>?_);refine VC_skip ?_;refine Qaa ?_;refine Qs ?_;exact ⟨rfl,rfl⟩
   rintro e' w' ⟨rfl,rfl⟩;refine VS [0,2,6,13,19,93,94,109] ?_;refine Qaf rfl rfl (fun h=>?_) (fun h=>by simp at h;exact absurd h hne);refine VQ [6,7,8] fun K hK=>?_
   (refine MemK_store ?_;refine Qs ?_)
   refine StoreK_blk hH2 3 (vs:=Qak none 0 0 none 0 0) rfl rfl (by kernel_rfl) (by simp [Qak]) (Qbt _ _ _ _ _ _) fun w5 hH5=>?_;simp only [List.set_cons_zero,List.set_cons_succ] at hH5;apply hK;clear hK;refine VC_ret (Qhd rfl rfl rfl rfl (Qbh (hH5.at 3 rfl) (by kernel_rfl) (by kernel_rfl) rfl ?_));exact ⟨hH5.sub (by simp),rfl⟩
  | ok q =>
   obtain ⟨aq,cq,hHq,rfl⟩:=hEx;obtain ⟨q1,q2⟩:=hdok q rfl;simp only at hrt;have hH2:=hH.call0 hHq;simp only [List.singleton_append] at hH2;clear hH hHq;have hck:=Qie q.1 aq cq w10 (Qao (hH2.at 0 rfl));apply hK;clear hK;refine VS [0,2,6,13,17,18,19,93,94,105] ?_;(repeat refine Qar ?_);refine Qde [0,2,6,13,17,18,19,93,94] (fun e' w'=>Is e' [(0,Str s),(2,.int .i64 n),(6,.pointer (some ⟨gr,0,none⟩)),(13,.pointer (some ⟨gp,0,none⟩)),(17,.slice aq q.1.length cq),(18,.int .i64 q.2),(19,.int .i64 (if okLB q.1=true then 0 else 80)),(93,.int .u64 many),(94,.int .u64 t)]/\Is w' w10) ?_ ?_
   ·
    refine Qaf rfl rfl (fun h=>?_) (fun h=>by simp at h);refine VQ [0,2,6,13,17,18,19,93,94] fun K hK=>?_;refine MemK_call Tryz.call103 ?_;refine Qs ?_;refine CallK.mk hck ?_;rintro v w11 ⟨rfl,rfl⟩;apply hK;clear hK;refine Qaa ?_;refine Qs ?_;exact ⟨rfl,rfl⟩
   rintro e' w' ⟨rfl,rfl⟩;refine VS [0,2,6,13,17,18,19,93,94,109] ?_;by_cases hokb:okLB q.1=true
   ·
    rw [if_pos hokb];rw [if_neg (by simp [hokb])] at hrt;refine Qaf rfl rfl (fun h=>by simp at h) (fun h=>VC_skip ?_);clear h;have hrR:Qo0 (us++[(aq,cq)]) (T++[q.1])=Qo0 us T++[Res.row 3 1 aq q.1.length cq (Qag q.1)]:=(Qrg (by omega) _ _ _).symm;have hsS:Qbj (us++[(aq,cq)]) (T++[q.1])=Qbj us T++Qbj [(aq,cq)] [q.1]:=by rw [<- Qhi (by omega)];rfl
    refine VQ [0,2,6,13,18,93,94] fun K hK=>?_;refine ⟨_,Qae (hH2.at 3 rfl) (show (Qak aT t cT aP np cP)[0]? = some _ from rfl),?_⟩;refine Qbg hH2 (Qbj [(aq,cq)] [q.1]) (xs:=[.tmp 114]) Tryz.underlying63 sz36 rfl rfl rfl (by omega) ?_;refine Qs ?_;refine ⟨rfl,by simp [Value.cells],fun gl w12 hH3=>?_⟩;refine Qai ?_;refine Qs ?_;refine Qb7 (zs:=#[.slice none 0 0]) (bytes:=24) hH3 2 rfl Tryz.underlying63 (by kernel_rfl) rfl ⟨rfl,Qao (hH3.at 0 rfl),36,Tryz.underlying63⟩ (Qyk _ _) (fun h=>by omega) fun a' cap' w13 hc' hH4=>?_;simp only [List.set_cons_succ,List.set_cons_zero] at hH4;rw [<- hsS] at hH4;refine MemK_store ?_;refine Qs ?_;refine StoreK_blk hH4 4 (vs:=[.slice a' (t+1) cap']) rfl rfl (by kernel_rfl) (by simp [Qak]) (by simp [Value.oneCell']) fun w14 hH5=>?_;simp only [List.set_cons_succ,List.set_cons_zero] at hH5;have hH6:=(hH5.sub (List.sublist_cons_self _ _)).perm (List.perm_append_singleton _ _).symm;simp only [List.cons_append] at hH6;rw [<- hrR] at hH6;clear hH2 hH3 hH4 hH5;apply hK;clear hK;refine VS [0,1,2,6,13,93,94] ?_;refine Qah ?_;refine VS [0,1,2,6,13,93,94] ?_;refine Qaa ?_;refine Qs ?_;rw [show (((t:Int)+1) % 18446744073709551616)=((t+1:Nat):Int) by omega];refine ⟨many - (t+1),by omega,t+1,q.2,cap',a',us++[(aq,cq)],T++[q.1],rfl,hH6,by simp [hus],by simp [hTl],by omega,?_,by omega,rfl⟩;rw [<- hrt,show many - (t+1)=k by omega];cases ttGo (Qam s) n k q.2 with
    | error e=>rfl
    | ok y=>simp
   have hokf:okLB q.1=false:=by simpa using hokb
   rw [if_neg hokb];rw [if_pos hokf] at hrt;subst hrt;subst hres;refine Qaf rfl rfl (fun h=>?_) (fun h=>by simp at h);refine VQ [6,7,8] fun K hK=>?_
   (refine MemK_store ?_;refine Qs ?_)
   refine StoreK_blk hH2 4 (vs:=Qak none 0 0 none 0 0) rfl rfl (by kernel_rfl) (by simp [Qak]) (Qbt _ _ _ _ _ _) fun w5 hH5=>?_;simp only [List.set_cons_zero,List.set_cons_succ] at hH5;apply hK;clear hK;refine VC_ret (Qhd rfl rfl rfl rfl (Qbh (hH5.at 4 rfl) (by kernel_rfl) (by kernel_rfl) rfl ?_));exact ⟨hH5.sub (by simp),rfl⟩
 have ht2:t=many:=by omega
 rw [ht2,Nat.sub_self,ttGo] at hrt;simp only [List.append_nil] at hrt;subst hrt;subst hres;rw [ht2] at hH hus hTl;clear h ht ht2;refine Qad rfl ?_;refine VQ [6,7,8] fun K hK=>?_;refine ⟨Qak aT many cT aP np cP,⟨rfl,blk_reads (hH.at 2 rfl)⟩,?_⟩
 (refine MemK_store ?_;refine Qs ?_)
 refine StoreK_blk hH 3 (vs:=Qak aT many cT aP np cP) rfl rfl (by kernel_rfl) (by simp [Qak]) (Qbt _ _ _ _ _ _) fun w10 hH6=>?_;simp only [List.set_cons_zero,List.set_cons_succ] at hH6;apply hK;clear hK;refine VC_ret (Qhd rfl rfl rfl rfl (Qbh (hH6.at 3 rfl) (by kernel_rfl) (by kernel_rfl) rfl ?_));refine ⟨_,hH6.sub (by simp),Qji rfl hTl hDl hus (Qao (hH6.at 0 rfl)) (Qao (hH6.at 1 rfl)) (fun i h t h6 h7=>?_),rfl⟩;exact Qao (hH6.at (i+4) (show _=some (Res.row 3 1 h.1 t.length h.2 (Qag t)) from Qvn h6 h7))
end Go.Proofs.YtfphmlhgebpojaaGreat
