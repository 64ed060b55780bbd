/- A program logic over the model, and what this program's functions do by it: part 6. No conditions: a library of lemmas. -/
import Derived.Test.YthcdlcdnchaoiaaGreatW5
open Nat (reduceEqDiff)
set_option linter.unusedSimpArgs false
set_option linter.unusedVariables false
set_option maxRecDepth 100000
open List renaming length_append->Ya,set_cons_zero->Yb,nil_append->Yc,set_cons_succ->Ye,append_assoc->Yg,length_cons->Yj,replicate->Yk,singleton_append->Yl,append_nil->Ym,flatten_cons->Yo,length_nil->Yt,cons_append->Yv,length_drop->Yw,eq_nil_of_length_eq_zero->Yy,getD_eq_getElem?_getD->Y0,sublist_cons_self->Y1,flatten_nil->Y2,length->Y5,getElem?_replicate->Y6,length_take->Y7,getElem?_eq_none->Y9,getElem?_append_left->Xc,getElem?_eq_getElem->Xd,mem_append->Xe,mem_singleton->Xf,length_replicate->Xh,idxOf_le_length->Xi,length_map->Xk,map_congr_left->Xl,length_pos_iff->Xm,mem_map->Xn,range->Xp,getElem?_append_right->Xq,length_singleton->Xu,perm_append_comm->Xv,take_append_drop->Xw,take_zero->Xx,replicate_succ'->X0,drop_drop->X1,flatten_append->X3,ext_getElem?->X8
open Go.Eng.CallK renaming mk->Yd
open Go.Eng.Res renaming blk->Yf,row->Yu
open Go.Proofs.Tryz renaming underlying51->Yh,underlying34->Yi,underlying35->Yr,prog->Y3,call13->Xa,call15->Xg,call17->Xr,call23->Xs,call16->Xz,underlying31->X9,call12->Ub,call11->Uc,call42->Ue,call5->Ug,call7->Uh
open Go.Value renaming cells->Yn,oneCell'->Yq,string->Y4,slice->Xj,int->Ui
open Nat renaming le_refl->Yp,pow_succ->Xo,reduceAdd->Xt,pow_le_pow_right->Xy,add_assoc->X5,xor_lt_two_pow->X6,one_le_two_pow->X7
open UInt8 renaming ofNat->Ys
open Int renaming toNat_natCast->Yx,one_mul->Ua
open Go.Obj renaming cells->Yz,loop->Uf
open Go.Eng.Heap renaming start->Y8
open Go.Eng.I64 renaming mk->Xb
open Bool renaming or_false->X4
open Go.IntKind renaming i64->Ud
namespace Go.Proofs.YthcdlcdnchaoiaaGreat
open Go Go.Eng
def Qdv (f:Nat->Bool):List Bool:=(Xp 16).map f
theorem Qg5 (f:Nat->Bool):(Qdv f).length=16:=by simp [Qdv]
theorem Qnf (f:Nat->Bool) {k:Nat} (h:k < 16):(Qdv f)[k]? = some (f k):=by simp [Qdv,List.getElem?_range h]
theorem Qs7 (f:Nat->Bool) {k:Nat} (h:k < 16):(numB (Qdv f)).testBit (15 - k)=f k:=by
 have h1:=Qhd 16 (numB (Qdv f)) k h;have h2:=Qmx (Qdv f);rw [Qg5] at h2;rw [h2,Qnf f h] at h1;simpa using h1.symm
theorem Qs8 (f:Nat->Bool):Qas 16 (numB (Qdv f))=Qdv f:=by
 have h2:=Qmx (Qdv f)
 rwa [Qg5] at h2
theorem Qmk (f:Nat->Bool):numB (Qdv f) < 65536:=by have:=Qes (Qdv f);rw [Qg5] at this;exact this
theorem QCh {f g:Nat->Bool}{j:Nat} (hj:j < 16) (h:∀ k,k < 16->g k=(f k || decide (k=j))):numB (Qdv f) ||| 2 ^ (15 - j)=numB (Qdv g):=by
 have hlt:numB (Qdv f) ||| 2 ^ (15 - j) < 65536:=Nat.or_lt_two_pow (n:=16) (Qmk f) (Nat.pow_lt_pow_right (by omega) (by omega))
 have e:Qas 16 (numB (Qdv f) ||| 2 ^ (15 - j))=Qdv g:=by
  apply X8;intro k;rcases Nat.lt_or_ge k 16 with hk | hk
  ·
   rw [Qhd 16 _ k hk,Qnf g hk,show 16 - 1 - k=15 - k by omega,Nat.testBit_or,Qs7 f hk,Nat.testBit_two_pow,h k hk]
   congr 2
   exact decide_eq_decide.2 (by omega)
  rw [Y9 (by rw [Qan];exact hk),Y9 (by rw [Qg5];exact hk)]
 rw [<- e,Qdz,Nat.mod_eq_of_lt hlt]
theorem Qs9 (f:Nat->Bool):numB (Qdv f)=0 ↔ ∀ k,k < 16->f k=false:=by
 constructor
 ·
  intro h k hk;have:=Qs7 f hk;rw [h,Nat.zero_testBit] at this;exact this.symm
 intro h
 have:Qdv f=Yk 16 false:=by
  apply X8;intro k;rcases Nat.lt_or_ge k 16 with hk | hk
  ·
   rw [Qnf f hk,h k hk,Y6,if_pos hk]
  rw [Y9 (by rw [Qg5];exact hk),Y9 (by simpa using hk)]
 rw [this,<- Qmy,Qdz]
theorem QSt {n:Nat} (h:n<=2 ^ 15):((n:Int)) % 18446744073709551616=n:=by
 have:n<=32768:=h;omega
def rowN (u:List UInt8) (i:Nat):Nat:=numB (Qdv fun k=>memB u (16 * i+k))
theorem Qyh (u:List UInt8) (i:Nat):rowN u i=0 ↔ Qb5 u i=false:=by
 unfold rowN Qb5;rw [Qs9,List.any_eq_false];simp
theorem QId (u:List UInt8) (c:UInt8) (i:Nat):rowN (u++[c]) i=if i=c.toNat / 16 then rowN u i ||| 2 ^ (15 - c.toNat % 16) else rowN u i:=by
 have hm:∀ b,memB (u++[c]) b=(memB u b || decide (b=c.toNat)):=fun b=>by
  simp only [memB,List.any_append,List.any_cons,List.any_nil,X4]
  congr 1
  by_cases e:b=c.toNat
  ·
   subst e;simp
  rw [decide_eq_false e,beq_eq_false_iff_ne];exact Ne.symm e
 split
 ·
  rename_i h
  symm
  unfold rowN;refine QCh (by omega) fun k hk=>?_;rw [hm]
  congr 1
  exact decide_eq_decide.2 (by omega)
 rename_i h;unfold rowN Qdv
 congr 1
 refine Xl fun k hk=>?_;have hk:k < 16:=by simpa using hk
 rw [hm,decide_eq_false (by omega),X4]
theorem Qyi (u:List UInt8) (hu:Qno u=true) (hl:u.length<=1000000) (w:World) :
  Does Y3 35 #[Str u] w fun v w'=>Heap w [] w' []/\v=.tuple #[Qk8 (Qe8 u),.int .i64 0]:=by
 refine En [Str u] 69 Tryz.func35 ?_;refine VQ [0,2] fun K hK=>?_;refine Qao (.agg #[.string ⟨#[]⟩,.int .i64 0]) (by kernel_rfl) ?_;refine Qs ?_;have hH:=(Y8 w).box 33 [.string ⟨#[]⟩,.int .i64 0];generalize w.alloc (Yz [Y4 ⟨#[]⟩,.int .i64 0].toArray 33)=w1 at *;generalize w.heap.size=gr at *;apply hK;clear hK;refine VQ [0,2,14] fun K hK=>?_;refine MemK_call Tryz.call57 ?_;refine Qs ?_;refine Yd (Qlb u (by omega) w1) ?_;rintro v w2 ⟨rfl,rfl⟩;rw [hu];refine Qs ?_;apply hK;clear hK;refine Qaf rfl rfl (fun h=>by simp at h) (fun h=>VC_skip ?_);refine VQ [0,2,4] fun K hK=>?_;refine Qao (.agg (u64V (Yk 16 0)).toArray) (by kernel_rfl) ?_;refine Qs ?_;have hH1:=hH.box 103 (u64V (Yk 16 0));generalize w2.alloc (Yz (u64V (Yk 16 0)).toArray 103)=w3 at *;generalize w2.heap.size=gt at *;clear hH;apply hK;clear hK;generalize hn:u.length=n at *;refine VQ [0,2,4,17,18] fun K hK=>?_;rw [hn];apply hK;clear hK;refine Qac ?_;refine Qad [0,2,4,17,18] (fun m e w'=>∃ (k:Nat) (R:List Nat),Is e [(0,Str u),(2,.pointer (some ⟨gr,0,none⟩)),(4,.pointer (some ⟨gt,0,none⟩)),(17,.int .i64 n),(18,.int .i64 k)]/\Heap w [] w' [Yf gt 103 (u64V R),Yf gr 33 [.string ⟨#[]⟩,.int .i64 0]]/\R.length=16/\(∀ i,i < 16->R.getD i 0=rowN (u.take k) i)/\k<=n/\m=n - k) n ?_ ?_
 ·
  refine Qs ?_;refine ⟨0,_,rfl,hH1,by simp,fun i hi=>?_,by omega,rfl⟩;rw [Y0,Y6,if_pos hi,Xx];exact ((Qyh [] i).2 (by simp [Qb5,memB])).symm
 clear hH1;rintro m e w4 ⟨k,R,rfl,hH,hR,hRk,hk,rfl⟩;refine VS [0,2,4,17,18,19] ?_;(repeat refine Qax ?_);refine VD (fun h=>?_) (fun h=>?_)
 ·
  have htk:=Qb2 0 (l:=u) (i:=k) (by omega);have hc:=(u.getD k 0).toNat_lt;refine VC_skip ?_;refine VB ?_;refine VS [0,2,4,5,17,18] ?_;have hr1:=hRk ((u.getD k 0).toNat / 16) (by omega);have hrl:=Qmk fun j=>memB (u.take k) (16 * ((u.getD k 0).toNat / 16)+j);have hsn:=QId (u.take k) (u.getD k 0);rw [<- htk] at hsn;generalize hcc:(u.getD k 0).toNat=c at *;refine VL [0,2,4,17,18] 14 fun K hK=>?_;rw [hn,hcc];have hand:c &&& 15=c % 16:=Nat.and_two_pow_sub_one_eq_mod c 4;have hshr:shN IntKind.u8 4=4:=by decide
  have hdiv:(c:Int) / 2 ^ 4=((c / 16:Nat):Int):=by push_cast;rfl
  rw [hshr,hdiv];have hsh:shN IntKind.u64 ((15 - ((c % 16:Nat):Int)) % 256)=15 - c % 16:=Qr2 (by omega) (by simp [IntKind.bits];omega);have hp2:2 ^ (15 - c % 16)<=2 ^ 15:=Xy (by omega) (by omega)
  have hp:((1:Int) * 2 ^ (15 - c % 16)) % 18446744073709551616=((2 ^ (15 - c % 16):Nat):Int):=by
   rw [show (1:Int) * 2 ^ (15 - c % 16)=((2 ^ (15 - c % 16):Nat):Int) by push_cast;exact Ua _];exact QSt hp2
  rw [show Int.toNat 15=15 from rfl,hand,hsh,hp,Yx];have hx:R.getD (c / 16) 0 < 65536:=by rw [hr1];exact hrl
  refine ⟨⟨by omega,by omega⟩,by omega,⟨by omega,by omega⟩,_,Qah (hH.at 0 rfl) (Qt4 (by omega)),⟨by omega,by omega⟩,⟨by omega,by omega⟩,⟨by omega,by omega⟩,by omega,?_⟩;refine Qs ?_;have hi15:2 ^ (15 - c % 16)<=32768:=hp2;generalize 2 ^ (15 - c % 16)=pw at *;refine ⟨⟨by omega,by omega⟩,⟨by omega,by omega⟩,⟨by omega,by omega⟩,?_⟩;refine Qaa ?_;refine Qs ?_;refine Qae hH 0 (o:=c / 16) (vs:=[.int .u64 ((R.getD (c / 16) 0 ||| pw:Nat):Int)]) rfl rfl (by kernel_rfl) (by rw [Qon,Xu];omega) (by simp [Yq]) fun w6 hH2=>?_;simp only [Xu,Qcb (u64V R) _ _ (show c / 16 < (u64V R).length by rw [Qon];omega),QKd,Yb] at hH2;apply hK;clear hK;refine Qaj ?_;refine VS [0,2,4,17,18] ?_;refine Qab ?_;refine Qs ?_;refine ⟨n - (k+1),by omega,k+1,_,rfl,hH2,by simp [hR],fun i hi=>?_,by omega,rfl⟩;rw [hsn i,<- hRk i hi];simp only [Y0,List.getElem?_set];by_cases e:c / 16=i
  ·
   rw [if_pos e,if_pos (by omega),if_pos e.symm,<- e];rfl
  rw [if_neg e,if_neg (Ne.symm e)]
 obtain rfl:k=n:=by omega
 refine Qag rfl ?_;rw [List.take_of_length_le (by omega)] at hRk;generalize k=n at *;refine VQ [2,4,6,7] fun K hK=>?_;refine MemK_call Ub ?_;refine Qs ?_;refine Yd (Qds w4) ?_;rintro v w5 ⟨gw,hH2,rfl⟩;have hH3:=hH.call0 hH2;clear hH hH2;apply hK;clear hK;refine VQ [2,4,6,7,37,38] fun K hK=>?_;refine ⟨u64V R,⟨by rw [Qon,hR],Qay (hH3.at 1 rfl)⟩,?_⟩;apply hK;clear hK;have hflag:∀ i,i < 16->(R.getD i 0=0 ↔ Qb5 u i=false):=fun i hi=>by rw [hRk i hi,Qyh]
 refine Qac ?_;refine Qad [2,4,6,7,37,38] (fun m e w'=>∃ (i:Nat),Is e [(2,.pointer (some ⟨gr,0,none⟩)),(4,.pointer (some ⟨gt,0,none⟩)),(6,.pointer (some ⟨gw,0,none⟩)),(7,.int .u64 (numB (Qdv fun j=>decide (j < i) && Qb5 u j):Nat)),(37,.agg (u64V R).toArray),(38,.int .i64 i)]/\Is w' w5/\i<=16/\m=16 - i) 16 ?_ ?_
 ·
  refine Qs ?_;have e0:numB (Qdv fun j=>decide (j < 0) && Qb5 u j)=0:=(Qs9 _).2 fun k _=>by simp
  exact ⟨0,by rw [e0];rfl,rfl,by omega,rfl⟩
 rintro m e w6 ⟨i,rfl,rfl,hi,rfl⟩;refine VS [2,4,6,7,37,38,39] ?_;(repeat refine Qax ?_);refine VD (fun h=>?_) (fun h=>?_)
 ·
  have hvn:vNth (u64V R) i=fun K=>K (.int .u64 (R.getD i 0:Nat)):=by
   funext K;exact Qzv (Qt4 (by omega))
  have hfl:=hflag i (by omega);refine VC_skip ?_;refine VB ?_;refine VQ [2,4,6,7,8,9,37,38] fun K hK=>?_;rw [hvn]
  dsimp only
  refine Qp ?_;apply hK;clear hK;refine VS [2,4,6,7,8,37,38,43] ?_;refine VD (fun h=>?_) (fun h=>?_)
  ·
   have hrt:Qb5 u i=true:=by
    cases hb:Qb5 u i with
    | true=>rfl
    | false=>have:=hfl.2 hb;omega
   have hor:=QCh (f:=fun j=>decide (j < i) && Qb5 u j) (g:=fun j=>decide (j < i+1) && Qb5 u j) (j:=i) (by omega) (fun k hk=>by
    by_cases e:k=i
    ·
     subst e;simp [hrt]
    rw [decide_eq_false e,X4]
    congr 1
    exact decide_eq_decide.2 (by omega))
   have hlt:=Qmk fun j=>decide (j < i) && Qb5 u j;generalize numB (Qdv fun j=>decide (j < i) && Qb5 u j)=q at *;have hsh:shN IntKind.u64 ((15 - (i:Int)) % 18446744073709551616)=15 - i:=Qtk (by omega) (by simp [IntKind.bits];omega) (by decide);have hp2:2 ^ (15 - i)<=2 ^ 15:=Xy (by omega) (by omega)
   have hp:((1:Int) * 2 ^ (15 - i)) % 18446744073709551616=((2 ^ (15 - i):Nat):Int):=by
    rw [show (1:Int) * 2 ^ (15 - i)=((2 ^ (15 - i):Nat):Int) by push_cast;exact Ua _];exact QSt hp2
   refine VQ [2,4,6,7,37,38] fun K hK=>?_;rw [hsh,hp];have hi15:2 ^ (15 - i)<=32768:=hp2;generalize 2 ^ (15 - i)=pw at *;(repeat first | refine Qo ?_ | refine Qp ?_);refine Qs ?_;rw [hor];apply hK;clear hK;refine Qaj ?_;refine VS [2,4,6,7,37,38] ?_;refine Qab ?_;refine Qs ?_;exact ⟨16 - (i+1),by omega,i+1,rfl,rfl,by omega,rfl⟩
  have hrf:Qb5 u i=false:=hfl.1 (by omega)
  have he:(fun j=>decide (j < i+1) && Qb5 u j)=fun j=>decide (j < i) && Qb5 u j:=by
   funext k;by_cases e:k=i
   ·
    subst e;simp [hrf]
   congr 1
   exact decide_eq_decide.2 (by omega)
  refine VC_skip ?_;refine Qaj ?_;refine VS [2,4,6,7,37,38] ?_;refine Qab ?_;refine Qs ?_;exact ⟨16 - (i+1),by omega,i+1,by rw [he];rfl,rfl,by omega,rfl⟩
 obtain rfl:i=16:=by omega
 have hall:numB (Qdv fun j=>decide (j < 16) && Qb5 u j)=numB (Qdv (Qb5 u)):=by
  congr 1
 rw [hall];refine Qag rfl ?_;refine VQ [2,4,6] fun K hK=>?_;refine MemK_call Xa ?_;refine Qs ?_;refine Yd (Qde gw none 0 [] _ 16 w6 (by omega) (Qmk _) (by simp) (hH3.focus 0 rfl)) ?_;rintro v w7 ⟨a2,c2,hHw,rfl⟩;rw [Yc,Qs8] at hHw;have hH4:=hH3.call1 0 rfl hHw;simp only [Yb,Yc] at hH4;clear hH3 hHw;apply hK;clear hK;refine VQ [2,6,54,55] fun K hK=>?_;refine ⟨u64V R,⟨by rw [Qon,hR],Qay (hH4.at 1 rfl)⟩,?_⟩;apply hK;clear hK;refine Qac ?_;refine Qad [2,6,54,55] (fun m e w'=>∃ (i:Nat) (a:Option Addr) (c:Nat),Is e [(2,.pointer (some ⟨gr,0,none⟩)),(6,.pointer (some ⟨gw,0,none⟩)),(54,.agg (u64V R).toArray),(55,.int .i64 i)]/\Heap w [] w' [wr gw a c (Qdv (Qb5 u)++(Xp i).flatMap fun i=>if Qb5 u i then rowS u i else []),Yf gt 103 (u64V R),Yf gr 33 [.string ⟨#[]⟩,.int .i64 0]]/\i<=16/\((Xp i).flatMap fun i=>if Qb5 u i then rowS u i else []).length<=16 * i/\m=16 - i) 16 ?_ ?_
 ·
  refine Qs ?_;exact ⟨0,a2,c2,rfl,by simpa using hH4,by omega,by simp,rfl⟩
 clear hH4;rintro m e w8 ⟨i,a,c,rfl,hH,hi,hlen,rfl⟩;refine VS [2,6,54,55,56] ?_;(repeat refine Qax ?_);refine VD (fun h=>?_) (fun h=>?_)
 ·
  have hvn:vNth (u64V R) i=fun K=>K (.int .u64 (R.getD i 0:Nat)):=by
   funext K;exact Qzv (Qt4 (by omega))
  have hfl:=hflag i (by omega);have hRi:=hRk i (by omega)
  have hs1:((Xp (i+1)).flatMap fun i=>if Qb5 u i then rowS u i else [])=((Xp i).flatMap fun i=>if Qb5 u i then rowS u i else [])++(if Qb5 u i then rowS u i else []):=by
   rw [List.range_succ,List.flatMap_append];simp
  have hrl:=Ql3 u i;generalize ((Xp i).flatMap fun i=>if Qb5 u i then rowS u i else [])=acc at *;refine VC_skip ?_;refine VB ?_;refine VQ [2,6,11,54,55] fun K hK=>?_;rw [hvn]
  dsimp only
  refine Qp ?_;apply hK;clear hK;refine VS [2,6,11,54,55,59] ?_;refine VD (fun h=>?_) (fun h=>?_)
  ·
   have hrt:Qb5 u i=true:=by
    cases hb:Qb5 u i with
    | true=>rfl
    | false=>have:=hfl.2 hb;omega
   rw [hrt,if_pos rfl] at hs1;refine VQ [2,6,54,55] fun K hK=>?_;rw [hRi];refine MemK_call Xa ?_;refine Qs ?_;refine Yd (Qde gw a c (Qdv (Qb5 u)++acc) (rowN u i) 16 w8 (by omega) (Qmk _) (by rw [Ya,Qg5];omega) (hH.focus 0 rfl)) ?_;rintro v w9 ⟨a3,c3,hHw,rfl⟩;have hH2:=hH.call1 0 rfl hHw;rw [rowN,Qs8,Yg] at hH2;simp only [Yb,Yc] at hH2;apply hK;clear hK;refine Qaj ?_;refine VS [2,6,54,55] ?_;refine Qab ?_;refine Qs ?_;exact ⟨16 - (i+1),by omega,i+1,a3,c3,rfl,by rw [hs1];exact hH2,by omega,by rw [hs1,Ya];omega,rfl⟩
  have hrf:Qb5 u i=false:=hfl.1 (by omega);rw [hrf,if_neg (by simp),Ym] at hs1;refine VC_skip ?_;refine Qaj ?_;refine VS [2,6,54,55] ?_;refine Qab ?_;refine Qs ?_;exact ⟨16 - (i+1),by omega,i+1,a,c,rfl,by rw [hs1];exact hH,by omega,by rw [hs1];omega,rfl⟩
 obtain rfl:i=16:=by omega
 refine Qag rfl ?_;have hH:Heap w [] w8 [wr gw a c (Qe8 u),Yf gt 103 (u64V R),Yf gr 33 [.string ⟨#[]⟩,.int .i64 0]]:=hH;refine VQ [2,3] fun K hK=>?_;refine MemK_call Xz ?_;refine Qs ?_;refine Yd (Qgi gw a c _ w8 (hH.at 0 rfl)) ?_;rintro v w9 ⟨rfl,rfl⟩;refine MemK_call Xr ?_;refine Qs ?_;refine Yd (Qgv gw a c _ w9 (hH.at 0 rfl)) ?_;rintro v w10 ⟨rfl,rfl⟩;refine Qs ?_;refine Qaa ?_;refine Qs ?_;refine Qae hH 2 (vs:=Qa7 (Qe8 u)) rfl rfl (by kernel_rfl) (by simp [Qa7]) (by simp [Qa7,Yq]) fun w11 hH2=>?_;have hH2:Heap w [] w11 [wr gw a c (Qe8 u),Yf gt 103 (u64V R),Yf gr 33 (Qa7 (Qe8 u))]:=hH2;apply hK;clear hK;refine VC_ret (Qdo rfl rfl rfl (Qbw (hH2.at 2 rfl) (by kernel_rfl) (by kernel_rfl) rfl ?_));exact ⟨hH2.sub (by simp),rfl⟩
def toN (l:List Int):List Nat:=l.map Int.toNat
theorem QIe {l:List Int} (h:∀ v∈l,0<=v):Qat l=Qak (toN l):=by
 unfold Qat Qak toN;rw [List.map_map];apply Xl;intro v hv;have:=h v hv;simp only [Function.comp]
 congr 1;omega
theorem QPo (l:List Int):(toN l).length=l.length:=by simp [toN]
theorem Qqp:∀ (f k:Nat),k<=f->∀ x∈dig k,0<=x/\x<=1
 | _,0,_,x,hx=>by simp [Qi1] at hx
 | 0,k+1,h,x,hx=>by omega
 | f+1,k+1,h,x,hx=>by
  rw [Qme] at hx;rcases List.mem_cons.1 hx with rfl | hx
  ·
   omega
  exact Qqp f (k / 2) (by omega) x hx
theorem QIf {n:Int} (hn:1<=n):∀ (l out:List Int) (z:Nat),(∀ v∈l,0<=v/\v < n)->(∀ x∈out,0<=x/\x < n+2)->(zgo n out z l).2=0/\(∀ x∈(zgo n out z l).1,0<=x/\x < n+2)/\(zgo n out z l).1.length<=out.length+z+l.length+1/\1<=(zgo n out z l).1.length
 | [],out,z,_,ho=>by
  have h1:=Qqp z z (Yp _);have h2:=Qig z z (Yp _);refine ⟨rfl,fun x hx=>?_,by simp [zgo];omega,by simp [zgo];omega⟩;simp only [zgo,Xe,Xf] at hx;rcases hx with (hx | hx) | rfl
  ·
   exact ho x hx
  ·
   have:=h1 x hx;omega
  omega
 | v::r,out,z,hl,ho=>by
  have hv:=hl v (by simp);rw [zgo];split
  ·
   obtain ⟨a,b,c,d⟩:=QIf hn r out (z+1) (fun v hv=>hl v (by simp [hv])) ho;exact ⟨a,b,by simp;omega,d⟩
  rw [if_neg (by omega)];have h1:=Qqp z z (Yp _);have h2:=Qig z z (Yp _)
  obtain ⟨a,b,c,d⟩:=QIf hn r (out++dig z++[v+1]) 0 (fun v hv=>hl v (by simp [hv])) (fun x hx=>by
   simp only [Xe,Xf] at hx;rcases hx with (hx | hx) | rfl
   ·
    exact ho x hx
   ·
    have:=h1 x hx;omega
   omega)
  refine ⟨a,b,?_,d⟩;simp at c ⊢;omega
theorem QIg {n:Int} (hn:1<=n) (hn2:n<=256) {l:List Int} (hl:∀ v∈l,0<=v/\v < n):(zenc n l).2=0/\(∀ x∈(zenc n l).1,0<=x/\x < n+2)/\(zenc n l).1.length<=l.length+1/\1<=(zenc n l).1.length:=by
 unfold zenc;rw [if_neg (by omega)];have:=QIf hn l [] 0 hl (by simp);simpa using this
def Qea (t:List UInt8) (σ:List Nat):List Int:=(Qdi (Qbc t) (Qbu t σ)).getD []
def Qcq (t:List UInt8) (σ:List Nat):List Nat:=toN (zenc ((Qbc t).length:Nat) (Qea t σ)).1
def Qqq (s:List UInt8) (row:Nat):List Bool:=Qas 48 54156738319193++Qas 32 (Qa9 s)++Qas 1 0++Qas 24 row
def Qcu (t:List UInt8) (σ:List Nat):List (List Nat)×List Nat:=Qei (Qcq t σ) ((Qbc t).length+2)
def Qc0 (s:List UInt8) (σ:List Nat):List Bool:=[Qqq s (σ.idxOf 0),Qe8 (Qbc (enc s)),Qbx (Qcu (enc s) σ).1 (Qcu (enc s) σ).2,Qe3 (Qcu (enc s) σ).1 (Qcu (enc s) σ).2 (Qcq (enc s) σ) 0].flatten
theorem Qh1 {t:List UInt8} (ht:t≠[]):1<=(Qbc t).length/\(Qbc t).length<=256:=by
 have h:=Qlc ht;constructor
 ·
  cases h2:Qbc t with
  | nil =>
   obtain ⟨c,r,rfl⟩:∃ c r,t=c::r:=by cases t with
    | nil=>exact absurd rfl ht
    | cons c r=>exact ⟨c,r,rfl⟩
   have:c∈Qbc (c::r):=Qif.2 (by simp);rw [h2] at this;simp at this
  | cons=>simp
 have hU:∀ m,(Qkj t m).length<=m:=fun m=>by
  unfold Qkj;rw [Xk];exact Nat.le_trans (List.length_filter_le _ _) (by simp)
 exact hU 256
theorem QE3 {t:List UInt8}{σ:List Nat} (ho:Ordered t σ):∀ c∈Qbu t σ,c∈t:=by
 intro c hc;obtain ⟨i,hi,rfl⟩:=Xn.1 hc;have hi2:i < t.length:=by simpa using ho.perm.mem_iff.1 hi
 have:ahead t.length i < t.length:=by unfold ahead;split <;> omega
 rw [Y0,Xd this];exact List.getElem_mem this
theorem Qkh {t:List UInt8}{σ:List Nat} (ho:Ordered t σ):(Qbu t σ).length=t.length:=by
 simp [Qbu,ho.perm.length_eq]
theorem Qj1 {t:List UInt8}{σ:List Nat} (ho:Ordered t σ):Qdi (Qbc t) (Qbu t σ)=some (Qea t σ)/\(Qea t σ).length=t.length/\∀ v∈Qea t σ,0<=v/\v < (Qbc t).length:=by
 obtain ⟨out,h⟩:=Qso (Qbu t σ) (Qbc t) (fun c hc=>Qif.2 (QE3 ho c hc));have e:Qea t σ=out:=by unfold Qea;rw [h];rfl
 obtain ⟨h1,h2⟩:=Qpw _ _ _ h;rw [e];exact ⟨h,by rw [h1,Qkh ho],h2⟩
theorem Qqr {t:List UInt8}{σ:List Nat} (ho:Ordered t σ) (ht:t≠[]):(zenc ((Qbc t).length:Nat) (Qea t σ)).2=0/\Qat (zenc ((Qbc t).length:Nat) (Qea t σ)).1=Qak (Qcq t σ)/\(Qcq t σ).length=(zenc ((Qbc t).length:Nat) (Qea t σ)).1.length/\(Qcq t σ).length<=t.length+1/\1<=(Qcq t σ).length/\∀ s∈Qcq t σ,s < (Qbc t).length+2:=by
 obtain ⟨u1,u2⟩:=Qh1 ht;obtain ⟨p1,p2,p3⟩:=Qj1 ho;obtain ⟨z1,z2,z3,z4⟩:=QIg (n:=((Qbc t).length:Nat)) (by omega) (by omega) p3;have hl:(Qcq t σ).length=(zenc ((Qbc t).length:Nat) (Qea t σ)).1.length:=QPo _;refine ⟨z1,QIe fun v hv=>(z2 v hv).1,hl,by omega,by omega,fun s hs=>?_⟩;obtain ⟨x,hx,rfl⟩:=Xn.1 hs;have:=z2 x hx;omega
theorem Qou {t:List UInt8}{σ:List Nat} (ho:Ordered t σ) (ht:t≠[]) (hl:t.length<=262144):Qfg (Qcq t σ) ((Qbc t).length+2):=by
 obtain ⟨u1,u2⟩:=Qh1 ht;obtain ⟨_,_,_,h4,h5,h6⟩:=Qqr ho ht;exact ⟨by omega,by omega,h5,by omega,h6⟩
theorem Qov (s:List UInt8) (row:Nat):(Qqq s row).length=105:=by simp [Qqq,Qan]
set_option maxHeartbeats 8000000
abbrev QIh:Value:=.agg #[.string ⟨#[]⟩,.int .i64 0]
def Qqs (s:List UInt8) (v:Value):Prop :=
 if s=[] then v=.tuple #[QIh,.int .i64 2]
 else if 262144 < (enc s).length then v=.tuple #[QIh,.int .i64 3]
 else ∃ σ,Ordered (enc s) σ/\v=.tuple #[Qk8 (Qc0 s σ),.int .i64 0]
theorem QLv {s:List UInt8} (hs:s≠[]):enc s≠[]:=by
 intro e
 obtain ⟨c,r,rfl⟩:∃ c r,s=c::r:=by cases s with
  | nil=>exact absurd rfl hs
  | cons c r=>exact ⟨c,r,rfl⟩
 have h1:=Qi3 (c::r) (by simp);have h2:=Qed (c::r) (by simp);have h3:=(Qi2 (c::r)).1;have h4:=Qdq (Qdj (c::r)) (c::r) h3;rw [e] at h1;have h5:=congrArg Y5 h1;simp only [Ya,Yt] at h5;split at h4 <;> omega
theorem Qki (s:List UInt8):Qa9 s < 4294967296:=by
 have:=Qg3 s (r:=4294967295) (by omega);unfold Qa9
 first | omega | exact X6 (n:=32) this (by omega)
theorem Qrr (s:List UInt8) (hs:s.length<=100000000) (w:World):Does Y3 10 #[Str s] w fun v w'=>Heap w [] w' []/\Qqs s v:=by
 have hel:=Qkg s;have hcrc:=Qki s;refine En [Str s] 117 Tryz.func10 ?_;refine VQ [0,2] fun K hK=>?_;refine Qao (.agg #[.string ⟨#[]⟩,.int .i64 0]) (by kernel_rfl) ?_;refine Qs ?_;have hH:=(Y8 w).box 33 [.string ⟨#[]⟩,.int .i64 0];generalize w.alloc (Yz [Y4 ⟨#[]⟩,.int .i64 0].toArray 33)=w1 at *;generalize w.heap.size=gr at *;apply hK;clear hK;refine VS [0,2,21] ?_;refine VD (fun h=>?_) (fun h=>VC_skip ?_)
 ·
  refine VQ [2,3] fun K hK=>?_;refine Qaa ?_;refine Qs ?_;refine Qae hH 0 (vs:=[.string ⟨#[]⟩,.int .i64 0]) rfl rfl (by kernel_rfl) (by simp) (by simp [Yq]) fun w4 hH3=>?_;simp only [Yb,Ye] at hH3;apply hK;clear hK;refine VC_ret (Qdo rfl rfl rfl (Qbw (hH3.at 0 rfl) (by kernel_rfl) (by kernel_rfl) rfl ?_));refine ⟨hH3.sub (by simp),?_⟩;rw [Qqs,if_pos h];rfl
 have hne:=QLv h;have hMk:∀ v,(if 262144 < (enc s).length then v=.tuple #[QIh,.int .i64 3] else ∃ σ,Ordered (enc s) σ/\v=.tuple #[Qk8 (Qc0 s σ),.int .i64 0])->Qqs s v:=fun v hv=>by rw [Qqs,if_neg h];exact hv
 refine VQ [0,2,4] fun K hK=>?_;refine MemK_call Tryz.call29 ?_;refine Qs ?_;refine Yd (QKu s w1 (by omega)) ?_;rintro v w2 ⟨hHe,rfl⟩;have hH2:=hH.call0 hHe;simp only [Yc] at hH2;clear hH hHe;apply hK;clear hK;generalize ht:enc s=t at *;refine VS [0,2,4,27] ?_;refine VD (fun h=>?_) (fun h=>VC_skip ?_)
 ·
  refine VQ [2,3] fun K hK=>?_;refine Qaa ?_;refine Qs ?_;refine Qae hH2 0 (vs:=[.string ⟨#[]⟩,.int .i64 0]) rfl rfl (by kernel_rfl) (by simp) (by simp [Yq]) fun w4 hH3=>?_;simp only [Yb,Ye] at hH3;apply hK;clear hK;refine VC_ret (Qdo rfl rfl rfl (Qbw (hH3.at 0 rfl) (by kernel_rfl) (by kernel_rfl) rfl ?_));refine ⟨hH3.sub (by simp),hMk _ ?_⟩;rw [if_pos (by omega)];rfl
 have htl:t.length<=262144:=by omega
 replace hMk:∀ v,(∃ σ,Ordered t σ/\v=.tuple #[Qk8 (Qc0 s σ),.int .i64 0])->Qqs s v:=fun v hv=>hMk v (by rw [if_neg (by omega)];exact hv);refine VQ [0,2,4,5,6,7] fun K hK=>?_;refine MemK_call Tryz.call30 ?_;refine Qs ?_;refine Yd (Qxn t (by omega) w2) ?_;rintro v w3 ⟨hHf,hf⟩;rw [QHf,if_neg hne,if_neg (by omega)] at hf;obtain ⟨σ,ho,rfl⟩:=hf;have hH3:=hH2.call0 hHf;simp only [Yc] at hH3;clear hH2 hHf;apply hK;clear hK;refine VS [0,2,4,5,6,7,36] ?_;refine Qaf rfl rfl (fun h=>by simp at h) (fun h=>VC_skip ?_);clear h;refine VQ [0,2,5,6,8] fun K hK=>?_;refine MemK_call Tryz.call31 ?_;refine Qs ?_;refine Yd (QO2 t (by omega) w3) ?_;rintro v w4 ⟨hHo,rfl⟩;have hH4:=hH3.call0 hHo;simp only [Yc] at hH4;clear hH3 hHo;apply hK;clear hK;obtain ⟨u1,u2⟩:=Qh1 hne;have hcl:=Qkh ho;obtain ⟨p1,p2,p3⟩:=Qj1 ho;obtain ⟨z1,z2,z3,z4,z5,z6⟩:=Qqr ho hne;have hmay:=Qou ho hne htl;have hmu:=Qlc hne;have hfr:=QD7 (Qbu t σ) (Qbc t) (by omega) (by omega) w4;unfold Qm5 at hfr;simp only [hmu,p1,if_true] at hfr;refine VQ [0,2,6,7,8,9] fun K hK=>?_;refine MemK_call Tryz.call32 ?_;refine Qs ?_;refine Yd hfr ?_;rintro v w5 ⟨ap,cp,hHp,rfl⟩;have hH5:=hH4.call0 hHp;simp only [Yl] at hH5;clear hH4 hHp hfr;apply hK;clear hK;refine VS [0,2,6,7,8,9,48] ?_;refine Qaf rfl rfl (fun h=>by simp at h) (fun h=>VC_skip ?_);clear h;have hzd:=QHl ((Qbc t).length:Nat) (Qea t σ) ap cp (Xb (by omega) (by omega)) w5 (Qaq (hH5.at 0 rfl)) (by omega) (fun v hv=>by have:=p3 v hv;exact Xb (by omega) (by omega));unfold IntsErr at hzd;rw [z1,z2,<- z3] at hzd;refine VQ [0,2,6,7,8,10] fun K hK=>?_;refine MemK_call Tryz.call33 ?_;refine Qs ?_;refine Yd hzd ?_;rintro v w6 ⟨al,cl,hHl,rfl⟩;have hH6:=hH5.call0 hHl;simp only [Yl] at hH6;have hH7:=hH6.sub (.cons_cons _ (.cons _ (.refl _)));clear hH5 hHl hzd hH6;apply hK;clear hK;refine VS [0,2,6,7,8,10,59] ?_;refine Qaf rfl rfl (fun h=>by simp at h) (fun h=>VC_skip ?_);clear h;have hbk:∀ σ',Ordered t σ'->Qk8 (Qc0 s σ')=Qk8 (Qc0 s σ'):=fun _ _=>rfl;obtain ⟨gl,rfl⟩:=Qc1 (hH7.at 0 rfl) (by omega);have hcap:(Qcq t σ).length<=cl:=(hH7.at 0 rfl).2.1;have hbd:=QIa (Qcq t σ) ((Qbc t).length+2) hmay ⟨gl,0,none⟩ rfl cl hcap w6 (Qaq (hH7.at 0 rfl));obtain ⟨b1,b2⟩:=Qt8 hmay;have b3:=Qla (Qcq t σ) ((Qbc t).length+2);have b4:=Qpv hmay;have hplan:Qcu t σ=Qei (Qcq t σ) ((Qbc t).length+2):=rfl
 have hbs:Qc0 s σ=[Qqq s (σ.idxOf 0),Qe8 (Qbc t),Qbx (Qei (Qcq t σ) ((Qbc t).length+2)).1 (Qei (Qcq t σ) ((Qbc t).length+2)).2,Qe3 (Qei (Qcq t σ) ((Qbc t).length+2)).1 (Qei (Qcq t σ) ((Qbc t).length+2)).2 (Qcq t σ) 0].flatten:=by
  unfold Qc0;rw [ht,hplan]
 have hMk2:Qqs s (.tuple #[Qk8 (Qc0 s σ),.int .i64 0]):=hMk _ ⟨σ,ho,rfl⟩;rw [hbs] at hMk2;have hnl:=Ql4 (Qbc t);have hhl:=Qov s (σ.idxOf 0)
 have hrow:σ.idxOf 0<=262144:=by
  have h1:=Xi (l:=σ) (a:=0);have h2:=ho.perm.length_eq;simp at h2;omega
 unfold Qgo at b4;have hput:=fun v=>Qnw v (Qei (Qcq t σ) ((Qbc t).length+2)).1 (Qei (Qcq t σ) ((Qbc t).length+2)).2 b1 (Qcq t σ) (by omega) (by rw [b2];exact z6) (by omega) (some ⟨gl,0,none⟩) cl;have hsho:=fun v=>Ql7 v (Qei (Qcq t σ) ((Qbc t).length+2)).1 (Qei (Qcq t σ) ((Qbc t).length+2)).2 b1;generalize hHead:Qqq s (σ.idxOf 0)=Head at *;have hHead2:Qas 48 54156738319193++Qas 32 (Qa9 s)++Qas 1 0++Qas 24 (σ.idxOf 0)=Head:=hHead;clear hHead hMk hbs hplan b2 b3 p1 p2 p3 ho hcl;generalize Qei (Qcq t σ) ((Qbc t).length+2)=B at *;obtain ⟨BT,BP⟩:=B;simp only at hput hsho hMk2 b4;generalize Qcq t σ=L at *;generalize σ.idxOf 0=row at *;generalize hce:Qa9 s=crc at *;refine VQ [0,2,6,7,8,10,11] fun K hK=>?_;(repeat first | refine Qo ?_ | refine Qp ?_);rw [show (((Qbc t).length:Int)+2)=(((Qbc t).length+2:Nat):Int) by push_cast;rfl];refine MemK_call Tryz.call34 ?_;refine Qs ?_;refine Yd hbd ?_;rintro v w7 ⟨pv,GP,hHb,hpg,rfl⟩;have hH8:=(hH7.call0 hHb).perm Xv;simp only [Yv,Yc] at hH8;obtain ⟨ta,tc,pa,pc,us,rfl,_⟩:=hpg w7 hHb.holds;have hpv:Value.agg #[.slice ta BT.length tc,.slice pa BP.length pc]=.agg (Qam ta BT.length tc pa BP.length pc).toArray:=rfl;rw [hpv] at hpg ⊢;clear hH7 hHb;refine Qao (.agg #[.slice none 0 0,.slice none 0 0]) (by kernel_rfl) ?_;refine Qs ?_;have hH9:=hH8.box 70 (Qam none 0 0 none 0 0);have hpl:[Xj none 0 0,Xj none 0 0]=Qam none 0 0 none 0 0:=rfl;rw [hpl];generalize w7.alloc (Yz (Qam none 0 0 none 0 0).toArray 70)=w8 at *;generalize w7.heap.size=gp at *;refine Qaa ?_;refine Qs ?_;refine Qae hH9 0 (vs:=Qam ta BT.length tc pa BP.length pc) rfl rfl (by kernel_rfl) (by simp [Qam]) (Qb0 _ _ _ _ _ _) fun w9 hH10=>?_;have hH11:Heap w [] w9 (Yf gp 70 (Qam ta BT.length tc pa BP.length pc)::Yu 3 1 (some ⟨gl,0,none⟩) L.length cl (Qak L)::Yf gr 33 [.string ⟨#[]⟩,.int .i64 0]::GP):=hH10;clear hH8 hH9 hH10;apply hK;clear hK;refine VS [0,2,6,7,8,10,11,71] ?_;refine Qaf rfl rfl (fun h=>by simp at h) (fun h=>VC_skip ?_);clear h;refine VQ [0,2,6,8,10,11,12] fun K hK=>?_;refine MemK_call Ub ?_;refine Qs ?_;refine Yd (Qds w9) ?_;rintro v w10 ⟨gw,hHw,rfl⟩;have hH:=hH11.call0 hHw;simp only [Yl] at hH;clear hH11 hHw;apply hK;clear hK;refine VQ [0,2,6,8,10,11,12] fun K hK=>?_;refine MemK_call Xa ?_;refine Qs ?_;refine Yd (Qde gw none 0 [] 54156738319193 48 w10 (by omega) (by omega) (by simp) (hH.focus 0 rfl)) ?_;rintro v w11 ⟨a1,c1,hHq,rfl⟩;have hH2:=hH.call1 0 rfl hHq;simp only [Yb,Yc] at hH2;clear hH hHq;apply hK;clear hK;refine VQ [2,6,8,10,11,12] fun K hK=>?_;refine MemK_call Uc ?_;refine Qs ?_;refine Yd (Qmb s w11 (by omega)) ?_;rintro v w12 ⟨hHc,rfl⟩;have hH3:=hH2.call0 hHc;simp only [Yc] at hH3;clear hH2 hHc;refine Qs ?_;rw [hce,show ((crc:Int) % 18446744073709551616)=crc by omega];refine MemK_call Xa ?_;refine Qs ?_;refine Yd (Qde gw a1 c1 _ crc 32 w12 (by omega) (by omega) (by simp [Qan]) (hH3.focus 0 rfl)) ?_;rintro v w13 ⟨a2,c2,hHq,rfl⟩;have hH4:=hH3.call1 0 rfl hHq;simp only [Yb,Yc] at hH4;clear hH3 hHq;apply hK;clear hK;refine VQ [2,6,8,10,11,12] fun K hK=>?_;refine MemK_call Xa ?_;refine Qs ?_;refine Yd (Qde gw a2 c2 _ 0 1 w13 (by omega) (by omega) (by simp [Qan]) (hH4.focus 0 rfl)) ?_;rintro v w14 ⟨a3,c3,hHq,rfl⟩;have hH5:=hH4.call1 0 rfl hHq;simp only [Yb,Yc] at hH5;clear hH4 hHq;apply hK;clear hK;refine VQ [2,8,10,11,12] fun K hK=>?_;rw [show ((row:Int) % 18446744073709551616)=row by omega];refine MemK_call Xa ?_;refine Qs ?_;refine Yd (Qde gw a3 c3 _ row 24 w14 (by omega) (by omega) (by simp [Qan]) (hH5.focus 0 rfl)) ?_;rintro v w15 ⟨a4,c4,hHq,rfl⟩
 have hH6:=hH5.call1 0 rfl hHq;simp only [Yb,Yc] at hH6;rw [show Qas 48 54156738319193++Qas 32 crc++Qas 1 0++Qas 24 row=Head from hHead2] at hH6;clear hH5 hHq;apply hK;clear hK;refine VQ [2,8,10,11,13] fun K hK=>?_;refine MemK_call Xz ?_;refine Qs ?_;refine Yd (Qgi gw a4 c4 _ w15 (hH6.at 0 rfl)) ?_;rintro v w16 ⟨rfl,rfl⟩;refine MemK_call Xr ?_;refine Qs ?_;refine Yd (Qgv gw a4 c4 _ w16 (hH6.at 0 rfl)) ?_;rintro v w17 ⟨rfl,rfl⟩;refine Qs ?_;refine Qao (.agg #[.string ⟨#[]⟩,.int .i64 0]) (by kernel_rfl) ?_;refine Qs ?_;have hH7:=(hH6.sub (Y1 _ _)).box 33 [.string ⟨#[]⟩,.int .i64 0];generalize w17.alloc (Yz [Y4 ⟨#[]⟩,.int .i64 0].toArray 33)=w18 at *;generalize w17.heap.size=gh at *;refine Qaa ?_;refine Qs ?_;refine Qae hH7 0 (vs:=Qa7 Head) rfl rfl (by kernel_rfl) (by simp [Qa7]) (Qb8 _) fun w19 hH8=>?_;have hH9:Heap w [] w19 (Yf gh 33 (Qa7 Head)::Yf gp 70 (Qam ta BT.length tc pa BP.length pc)::Yu 3 1 (some ⟨gl,0,none⟩) L.length cl (Qak L)::Yf gr 33 [.string ⟨#[]⟩,.int .i64 0]::GP):=hH8;clear hH6 hH7 hH8;apply hK;clear hK;generalize hNm:Qe8 (Qbc t)=Nm at *;have hsy:=Qyi (Qbc t) hmu (by omega) w19;rw [hNm] at hsy;refine VQ [2,10,11,13,14] fun K hK=>?_;refine MemK_call Tryz.call35 ?_;refine Qs ?_;refine Yd hsy ?_;rintro v w20 ⟨hHn,rfl⟩;have hH2:=hH9.call0 hHn;simp only [Yc] at hH2;clear hH9 hHn;refine Qao (.agg #[.string ⟨#[]⟩,.int .i64 0]) (by kernel_rfl) ?_;refine Qs ?_;have hH3:=hH2.box 33 [.string ⟨#[]⟩,.int .i64 0];generalize w20.alloc (Yz [Y4 ⟨#[]⟩,.int .i64 0].toArray 33)=w21 at *;generalize w20.heap.size=gn at *;refine Qaa ?_;refine Qs ?_;refine Qae hH3 0 (vs:=Qa7 Nm) rfl rfl (by kernel_rfl) (by simp [Qa7]) (Qb8 _) fun w22 hH4=>?_;have hH5:Heap w [] w22 (Yf gn 33 (Qa7 Nm)::Yf gh 33 (Qa7 Head)::Yf gp 70 (Qam ta BT.length tc pa BP.length pc)::Yu 3 1 (some ⟨gl,0,none⟩) L.length cl (Qak L)::Yf gr 33 [.string ⟨#[]⟩,.int .i64 0]::GP):=hH4;clear hH2 hH3 hH4;apply hK;clear hK;generalize hPb:Qbx BT BP=Pb at *;generalize hPu:Qe3 BT BP L 0=Pu at *
 have hfl:[Head,Nm,Pb,Pu].flatten.length<=10000000000000:=by
  simp only [Yo,Y2,Ym,Ya];unfold Qbe at b4;omega
 refine VQ [2,10,11,13,14,16] fun K hK=>?_;refine ⟨Qam ta BT.length tc pa BP.length pc,⟨rfl,Qay (hH5.at 2 rfl)⟩,?_⟩;refine MemK_call Tryz.call36 ?_;refine Qs ?_;refine Yd (hsho _ w22 (hpg w22 (fun r hr=>hH5.holds r (by simp [hr])))) ?_;rintro v w23 ⟨hHs,rfl⟩;have hH6:=hH5.call0 hHs;simp only [Yc] at hH6;clear hH5 hHs;refine Qao (.agg #[.string ⟨#[]⟩,.int .i64 0]) (by kernel_rfl) ?_;refine Qs ?_;have hH7:=hH6.box 33 [.string ⟨#[]⟩,.int .i64 0];generalize w23.alloc (Yz [Y4 ⟨#[]⟩,.int .i64 0].toArray 33)=w24 at *;generalize w23.heap.size=gt at *;refine Qaa ?_;refine Qs ?_;refine Qae hH7 0 (vs:=Qa7 Pb) rfl rfl (by kernel_rfl) (by simp [Qa7]) (Qb8 _) fun w25 hH8=>?_;have hH9:Heap w [] w25 (Yf gt 33 (Qa7 Pb)::Yf gn 33 (Qa7 Nm)::Yf gh 33 (Qa7 Head)::Yf gp 70 (Qam ta BT.length tc pa BP.length pc)::Yu 3 1 (some ⟨gl,0,none⟩) L.length cl (Qak L)::Yf gr 33 [.string ⟨#[]⟩,.int .i64 0]::GP):=hH8;clear hH6 hH7 hH8;apply hK;clear hK;refine VQ [2,13,14,16,18] fun K hK=>?_;refine ⟨Qam ta BT.length tc pa BP.length pc,⟨rfl,Qay (hH9.at 3 rfl)⟩,?_⟩;refine MemK_call Tryz.call37 ?_;refine Qs ?_;refine Yd (hput _ w25 (hpg w25 (fun r hr=>hH9.holds r (by simp [hr]))) (Qaq (hH9.at 4 rfl))) ?_;rintro v w26 ⟨hHs,rfl⟩;have hH6:=hH9.call0 hHs;simp only [Yc] at hH6;clear hH9 hHs;refine Qao (.agg #[.string ⟨#[]⟩,.int .i64 0]) (by kernel_rfl) ?_;refine Qs ?_;have hH7:=hH6.box 33 [.string ⟨#[]⟩,.int .i64 0];generalize w26.alloc (Yz [Y4 ⟨#[]⟩,.int .i64 0].toArray 33)=w27 at *;generalize w26.heap.size=gc at *;refine Qaa ?_;refine Qs ?_;refine Qae hH7 0 (vs:=Qa7 Pu) rfl rfl (by kernel_rfl) (by simp [Qa7]) (Qb8 _) fun w28 hH8=>?_;have hH9:Heap w [] w28 (Yf gc 33 (Qa7 Pu)::Yf gt 33 (Qa7 Pb)::Yf gn 33 (Qa7 Nm)::Yf gh 33 (Qa7 Head)::Yf gp 70 (Qam ta BT.length tc pa BP.length pc)::Yu 3 1 (some ⟨gl,0,none⟩) L.length cl (Qak L)::Yf gr 33 [.string ⟨#[]⟩,.int .i64 0]::GP):=hH8;clear hH6 hH7 hH8;apply hK;clear hK;refine VQ [2,3] fun K hK=>?_;refine ⟨Qa7 Head,⟨rfl,Qay (hH9.at 3 rfl)⟩,?_⟩;refine ⟨Qa7 Nm,⟨rfl,Qay (hH9.at 2 rfl)⟩,?_⟩;refine ⟨Qa7 Pb,⟨rfl,Qay (hH9.at 1 rfl)⟩,?_⟩;refine ⟨Qa7 Pu,⟨rfl,Qay (hH9.at 0 rfl)⟩,?_⟩;refine Qeq hH9 2 (Qdd [Head,Nm,Pb,Pu]) (xs:=[.tmp 109,.tmp 110,.tmp 111,.tmp 112]) Yi sz33 rfl rfl rfl (by omega) (by omega) ?_;refine Qs ?_;refine ⟨by simp [Qdd,Qa7,Yn],by simp [Qa7,Yn],fun ga w29 hH10=>?_⟩;refine MemK_call Xg ?_;refine Qs ?_;refine Yd (Qps [Head,Nm,Pb,Pu] ⟨ga,0,none⟩ rfl 4 w29 (Qaq (hH10.at 0 rfl)) hfl (by simp)) ?_;rintro v w30 ⟨hHj,rfl⟩;have hH11:=hH10.call0 hHj;simp only [Yc] at hH11;clear hH10 hHj hH9;generalize [Head,Nm,Pb,Pu].flatten=R at *;refine Qaa ?_;refine Qs ?_;refine Qae hH11 7 (vs:=Qa7 R) rfl rfl (by kernel_rfl) (by simp [Qa7]) (Qb8 _) fun w31 hH12=>?_;simp only [Yb,Ye] at hH12;apply hK;clear hK;refine VC_ret (Qdo rfl rfl rfl (Qbw (hH12.at 7 rfl) (by kernel_rfl) (by kernel_rfl) rfl ?_));exact ⟨hH12.sub (by simp),hMk2⟩
def bind:Nat->Nat->List Int
 | 0,_=>[]
 | n+1,r=>((r % 2:Nat):Int)::bind n (r / 2)
theorem QCi:∀ (n k:Nat),2 ^ n<=k+1->k+1 < 2 ^ (n+1)->dig k=bind n (k+1 - 2 ^ n)
 | 0,k,h1,h2=>by
  have:k=0:=by simp at h2;omega
  subst this;rfl
 | n+1,0,h1,h2=>by
  have:2 ^ (n+1)=2 * 2 ^ n:=by rw [Xo];omega
  have:=X7 (n:=n);omega
 | n+1,k+1,h1,h2=>by
  have e1:2 ^ (n+1)=2 * 2 ^ n:=by rw [Xo];omega
  have e2:2 ^ (n+1+1)=4 * 2 ^ n:=by rw [Xo,e1];omega
  rw [Qme,QCi n (k / 2) (by omega) (by omega),bind]
  congr 2
  ·
   omega
  omega
theorem QIi (n:Nat) (h:n<=62):shN Ud ((n:Int) % 18446744073709551616)=n:=by
 rw [Int.emod_eq_of_lt (by omega) (by omega),shN,show IntKind.i64.bits=64 from rfl];omega
theorem QIj (n:Nat) (h:n<=62):(1:Int) * 2 ^ shN Ud ((n:Int) % 18446744073709551616)=((2 ^ n:Nat):Int):=by
 rw [QIi n h,Ua,Int.natCast_pow];rfl
theorem Qqt (k:Int) (hk:I64 k) (w:World):Does Y3 75 #[.int .i64 k] w (IntsErr (runS k) w):=by
 refine En [.int .i64 k] 42 Tryz.func75 ?_;refine VS [0] ?_;refine VQ [0,13] fun K hK=>?_
 have out:(k < 0∨2147483647 < k)->K [(0,.int .i64 k),(13,.bool true)] w:=by
  intro h;apply hK;clear hK;refine Qaf rfl rfl (fun _=>?_) (fun h=>by cases h);refine VS [2,3] ?_;refine VC_ret (Qav rfl rfl rfl ?_);rw [runS,if_pos h];exact IntsErr.nil (Y8 w) 2
 refine ⟨fun h1=>?_,fun h1=>out (.inl h1)⟩;by_cases h2:2147483647 < k
 ·
  rw [decide_eq_true h2];exact out (.inr h2)
 rw [decide_eq_false h2];clear out;apply hK;clear hK;refine Qaf rfl rfl (fun h=>by cases h) (fun _=>VC_skip ?_);obtain ⟨k,rfl⟩:∃ n:Nat,k=n:=⟨k.toNat,by omega⟩;refine VS [0,4] ?_;(repeat refine Qax ?_);refine Qac ?_;refine Qad [0,4] (fun m e w'=>∃ n:Nat,Is e [(0,.int .i64 k),(4,.int .i64 n)]/\Is w' w/\n<=31/\2 ^ n<=k+1/\m=31 - n) 31 ?_ ?_
 ·
  refine Qs ?_;exact ⟨0,rfl,rfl,by omega,by omega,rfl⟩
 rintro m e w' ⟨n,rfl,rfl,g1,g2,rfl⟩;refine VQ [0,4,20] fun K hK=>?_;have hp:2 ^ (n+1)=2 * 2 ^ n:=by rw [Xo];omega
 have e1:=QIj (n+1) (by omega);rw [Int.natCast_add,Int.natCast_one] at e1;rw [e1];refine ⟨Xb (by omega) (by omega),by omega,Xb (by omega) (by omega),Xb (by omega) (by omega),?_⟩;apply hK;clear hK;refine Qaf rfl rfl (fun hc=>?_) (fun hc=>?_)
 ·
  simp only [decide_eq_true_eq] at hc
  have hn31:n+1<=31:=by
   by_cases h31:n=31
   ·
    subst h31;simp at hc;omega
   omega
  refine VC_skip (Qac ?_);refine VS [0,4] ?_;refine Qaj (Qab ?_);refine Qs ?_;exact ⟨31 - (n+1),by omega,n+1,rfl,rfl,hn31,by omega,rfl⟩
 simp only [decide_eq_false_iff_not] at hc;refine Qag rfl ?_;have e2:=QIj n (by omega);refine VQ [4,5] fun K hK=>?_;rw [e2];have e3:(k:Int) - (((2 ^ n:Nat):Int) - 1)=((k+1 - 2 ^ n:Nat):Int):=by omega
 have hdig:=QCi n k g2 (by omega);rw [e3];generalize hr:k+1 - 2 ^ n=r at *;refine ⟨by omega,Xb (by omega) (by omega),Xb (by omega) (by omega),Xb (by omega) (by omega),?_⟩;apply hK;clear hK;refine VS [4,5,6] ?_;refine VS [4,5,6,7] ?_;refine VB ?_;have hrk:r<=k:=by have:=X7 (n:=n);omega
 refine Qad [4,5,6,7] (fun m e w2=>∃ (i s cap:Nat) (a:Option Addr) (o:List Int),Is e [(4,.int .i64 n),(5,.int .i64 s),(6,.slice a o.length cap),(7,.int .i64 i)]/\Heap w' [] w2 [Yu 3 1 a o.length cap (Qat o)]/\i<=n/\o.length=i/\s<=k/\dig k=o++bind (n - i) s/\m=n - i) n ?_ ?_
 ·
  refine Qs ?_;exact ⟨0,r,0,none,[],rfl,Heap.one (r:=Yu 3 1 none 0 0 []) (Qtg 3 1 w') (by intro b hb;cases hb),by omega,rfl,hrk,hdig,rfl⟩
 rintro m e w2 ⟨i,s,cap,a,o,rfl,hH,f1,f2,f3,f4,rfl⟩;refine VS [4,5,6,7,31] ?_;refine Qaf rfl rfl (fun hi=>?_) (fun hi=>?_)
 ·
  simp only [decide_eq_true_eq] at hi;refine VC_skip ?_;refine VB ?_
  have hb:bind (n - i) s=((s % 2:Nat):Int)::bind (n - (i+1)) (s / 2):=by
   rw [show n - i=(n - (i+1))+1 by omega];rfl
  rw [hb] at f4;refine VQ [4,5,6,7] fun K hK=>?_;refine ⟨by omega,by omega,?_⟩;rw [show (s:Int) % 2=((s % 2:Nat):Int) by omega];refine Qcd (xs:=[.tmp 36]) Yh sz3 rfl rfl rfl (by omega) ?_;refine Qs ?_;refine ⟨by simp [Yn],?_⟩;refine Qai ?_;refine Qs ?_;refine Qge hH 0 rfl Yh zi3 (fun h=>by simp;omega) fun a' cap' w5 hc' hH4=>?_;apply hK;clear hK;refine VS [4,5,6,7] ?_;refine Qaj ?_;refine VS [4,5,6,7] ?_;refine Qab ?_;refine Qs ?_;exact ⟨n - (i+1),by omega,i+1,s / 2,cap',a',o++[((s % 2:Nat):Int)],rfl,hH4,by omega,by simp;omega,by omega,by rw [f4,Yg];rfl,rfl⟩
 simp only [decide_eq_false_iff_not] at hi;refine Qag rfl ?_;refine VS [2,3] ?_;refine VC_ret (Qav rfl rfl rfl ?_);rw [runS,if_neg (by omega)];have:i=n:=by omega
 subst this;rw [Nat.sub_self,bind,Ym] at f4;exact ⟨a,cap,by simp only [Yx];rw [f4];exact hH,by simp only [Yx];rw [f4]⟩
theorem QE4 (n:Int) (l:List Int) (la:Option Addr) (lc:Nat) (hn:I64 n) (w:World) (hl:RS w la l.length 1 (Qat l)) (hs:l.length<=2147483640) (hi:∀ v∈l,I64 v) :
  Does Y3 46 #[.int .i64 n,.slice la l.length lc] w (IntsErr (zenc n l) w):=by
 refine En [.int .i64 n,.slice la l.length lc] 72 Tryz.func46 ?_;refine VS [0,1] ?_;refine VQ [0,1,18] fun K hK=>?_
 have out:(n < 1∨256 < n)->K [(0,.int .i64 n),(1,.slice la l.length lc),(18,.bool true)] w:=by
  intro h;apply hK;clear hK;refine Qaf rfl rfl (fun _=>?_) (fun h=>by cases h);refine VS [4,5] ?_;refine VC_ret (Qav rfl rfl rfl ?_);rw [zenc,if_pos h];exact IntsErr.nil (Y8 w) 2
 refine ⟨fun h1=>?_,fun h1=>out (.inl h1)⟩;by_cases h2:256 < n
 ·
  rw [decide_eq_true h2];exact out (.inr h2)
 rw [decide_eq_false h2];clear out;apply hK;clear hK;refine Qaf rfl rfl (fun h=>by cases h) (fun _=>VC_skip ?_);rw [zenc,if_neg (by omega)];refine VS [0,1,6] ?_;refine VS [0,1,6,7] ?_;refine VS [0,1,6,7,8] ?_;refine VB ?_;refine Qad [0,1,6,7,8] (fun m e w'=>∃ (i z cap:Nat) (a:Option Addr) (o:List Int),Is e [(0,.int .i64 n),(1,.slice la l.length lc),(6,.slice a o.length cap),(7,.int .i64 z),(8,.int .i64 i)]/\Heap w [] w' [Yu 3 1 a o.length cap (Qat o)]/\i<=l.length/\o.length+z<=i/\zgo n [] 0 l=zgo n o z (l.drop i)/\m=l.length - i) l.length ?_ ?_
 ·
  refine Qs ?_;exact ⟨0,0,0,none,[],rfl,Qj8,by omega,by simp,rfl,rfl⟩
 rintro m e w2 ⟨i,z,cap,a,o,rfl,hH,g1,g2,g3,rfl⟩;refine VS [0,1,6,7,8,22] ?_;have hrz:runS z=(dig z,0):=by rw [runS,if_neg (by omega),Yx]
 have hdl:=Qig z z (Yp _);refine VD (fun h=>?_) (fun h=>?_)
 ·
  refine VC_skip ?_;refine VB ?_;obtain ⟨p,rfl⟩:=Qbj hl (by omega);have hl2:=hH.rs' hl;have hc:=Qht hl2 (show i < l.length by omega);have g4:=g3;rw [drop_getD 0 (by omega),zgo] at g4;have hr:=hi _ (Qa3 0 (show i < l.length by omega));generalize hv:l.getD i 0=v at *;obtain ⟨hr1,hr2⟩:=hr;refine VQ [0,1,6,7,8,37] fun K hK=>?_;refine ⟨⟨by omega,by omega⟩,_,hc,?_⟩;refine Qs ?_
  have out:(v < 0∨n<=v)->K [(0,.int .i64 n),(1,.slice (some p) l.length lc),(6,.slice a o.length cap),(7,.int .i64 z),(8,.int .i64 i),(37,.bool true)] w2:=by
   intro h;apply hK;clear hK;refine Qaf rfl rfl (fun _=>?_) (fun h=>by cases h);refine VS [4,5] ?_;refine VC_ret (Qav rfl rfl rfl ?_);rw [g4,if_neg (by omega),if_pos h];exact IntsErr.nil (hH.sub (by simp)) 60
  refine ⟨fun f1=>⟨⟨by omega,by omega⟩,_,hc,?_⟩,fun f1=>out (.inl f1)⟩;refine Qs ?_;by_cases f2:n<=v
  ·
   rw [decide_eq_true f2];exact out (.inr f2)
  rw [decide_eq_false f2];clear out;apply hK;clear hK;refine Qaf rfl rfl (fun h=>by cases h) (fun _=>VC_skip ?_);refine VQ [0,1,6,7,8,42] fun K hK=>?_;refine ⟨⟨by omega,by omega⟩,_,hc,?_⟩;refine Qs ?_;(repeat refine Qo ?_);apply hK;clear hK;refine VD (fun h=>?_) (fun h=>?_)
  ·
   rw [if_pos h] at g4;refine VS [0,1,6,7,8] ?_;refine Qag rfl ?_;refine VS [0,1,6,7,8] ?_;refine Qab ?_;refine Qs ?_;exact ⟨l.length - (i+1),by omega,i+1,z+1,_,_,_,rfl,hH,by omega,by omega,g4,rfl⟩
  rw [if_neg h,if_neg (by omega)] at g4;refine VC_skip ?_;refine VQ [0,1,6,8,9] fun K hK=>?_;refine MemK_call Tryz.call75 ?_;refine Qs ?_;refine Yd (Qqt z (Xb (by omega) (by omega)) w2) ?_;rw [hrz];rintro v' w3 ⟨a2,c2,hH2,rfl⟩;(try refine Qs ?_);apply hK;clear hK;have hH3:=hH.call0 hH2;(repeat refine Qax ?_);have hc3:=Qht hl (show i < l.length by omega);rw [hv] at hc3;(repeat refine Qax ?_);refine QDb w hH3.ext [0,1,6,8] (.two [(0,true),(1,true),(3,true),(4,true),(5,true),(6,true),(7,true)] 2 8 (.seq [(8,false),(9,false),(10,true)]) (.seq [(2,false),(9,false),(10,true)])) (by kernel_rfl) (by kernel_rfl) rfl fun K hK=>?_
  have last:∀ (a':Option Addr) (cap':Nat) (w5:World),Heap w [] w5 [Yu 3 1 a' (o++dig z++[v+1]).length cap' (Qat (o++dig z++[v+1]))]->K [(0,.int .i64 n),(1,.slice (some p) l.length lc),(6,.slice a' (o++dig z++[v+1]).length cap'),(8,.int .i64 i)] w5:=by
   intro a' cap' w5 hH5;apply hK;clear hK;refine VS [0,1,6,7,8] ?_;refine Qaj ?_;refine VS [0,1,6,7,8] ?_;refine Qab ?_;refine Qs ?_;exact ⟨l.length - (i+1),by omega,i+1,0,_,_,_,rfl,hH5,by omega,by simp;omega,g4,rfl⟩
  clear hK;simp only [vcT,Qbd,List.filterMap_cons,List.filterMap_nil,List.getElem?_cons_succ,List.getElem?_cons_zero,Option.map_some];refine Qs ?_;refine ⟨⟨by omega,by omega⟩,_,hc3,?_⟩;refine Qs ?_;(repeat first | refine Qo ?_ | refine Qp ?_);refine ⟨?_,?_⟩
  ·
   (repeat first | refine Qo ?_ | refine Qp ?_);refine Qai ?_;refine Qs ?_;refine Qcg hH3 1 rfl Yh zi3 (t:=dig z) (by simp) (Qaq (hH2.at 0 rfl)) (fun h=>by (first | omega | (simp;done) | (simp;omega))) fun a' cap' w5 hc' hH4=>?_;(try refine Qs ?_);refine ⟨hH4.ext,?_⟩;refine Qcd (xs:=[.tmp 57]) Yh sz3 rfl rfl rfl (by omega) ?_;refine Qs ?_;refine ⟨by simp [Yn],?_⟩;refine ⟨hH4.ext.trans (Ext.alloc _ _),?_⟩;refine Qai ?_;refine Qs ?_;refine Qge hH4 1 rfl Yh zi3 (fun h=>by (first | omega | (simp;done) | (simp;omega))) fun a' cap' w5 hc' hH5=>?_;(try refine Qs ?_);refine ⟨hH5.ext,?_⟩;exact last _ _ _ (hH5.sub (by simp))
  (repeat first | refine Qo ?_ | refine Qp ?_);refine Qcd (xs:=[.tmp 57]) Yh sz3 rfl rfl rfl (by omega) ?_;refine Qs ?_;refine ⟨by simp [Yn],?_⟩;have hH4:=hH3.row 3 (n:=1) (cap:=1) (sz:=1) [.int .i64 (v+1)] [] (by simp) (by simp) (by omega) (by omega);simp only [Ym] at hH4;rw [show [Ui .i64 (v+1)]=Qat [v+1] from rfl] at hH4 ⊢;generalize w3.alloc (Yz (Qat [v+1]).toArray 3)=w4 at *;refine ⟨hH4.ext,?_⟩;(try refine Qs ?_);refine Qai ?_;refine Qs ?_;refine Qcg hH4 2 rfl Yh zi3 (t:=dig z) (by simp) (Qaq (hH4.at 1 rfl)) (fun h=>by (first | omega | (simp;done) | (simp;omega))) fun a' cap' w5 hc' hH5=>?_;(try refine Qs ?_);refine ⟨hH5.ext,?_⟩;refine Qai ?_;refine Qs ?_;refine Qcg hH5 2 rfl Yh zi3 (t:=[v+1]) rfl (Qaq (hH5.at 0 rfl)) (fun h=>by (first | omega | (simp;done) | (simp;omega))) fun a' cap' w5 hc' hH6=>?_;(try refine Qs ?_);refine ⟨hH6.ext,?_⟩;exact last _ _ _ (hH6.sub (by simp))
 refine Qag rfl ?_;rw [List.drop_of_length_le (by omega),zgo] at g3;refine VQ [0,6,11] fun K hK=>?_;refine MemK_call Tryz.call75 ?_;refine Qs ?_;refine Yd (Qqt z (Xb (by omega) (by omega)) w2) ?_;rw [hrz];rintro v' w3 ⟨a2,c2,hH2,rfl⟩;(try refine Qs ?_);apply hK;clear hK;have hH3:=hH.call0 hH2;refine VQ [4,5] fun K hK=>?_;refine Qai ?_;refine Qs ?_;refine Qcg hH3 1 rfl Yh zi3 (t:=dig z) (by simp) (Qaq (hH2.at 0 rfl)) (fun h=>by (first | omega | (simp;done) | (simp;omega))) fun a' cap' w5 hc' hH4=>?_;(try refine Qs ?_);(repeat first | refine Qo ?_ | refine Qp ?_);refine Qcd (xs:=[.tmp 69]) Yh sz3 rfl rfl rfl (by omega) ?_;refine Qs ?_;refine ⟨by simp [Yn],?_⟩;refine Qai ?_;refine Qs ?_;refine Qge hH4 1 rfl Yh zi3 (fun h=>by (first | omega | (simp;done) | (simp;omega))) fun a' cap' w5 hc' hH5=>?_;(try refine Qs ?_);apply hK;clear hK;refine VC_ret (Qav rfl rfl rfl ?_);rw [g3];exact ⟨_,_,hH5.sub (by simp),rfl⟩
set_option maxHeartbeats 8000000
def QA4 (s:List UInt8) (w:World) (v:Value) (w':World):Prop :=
 if s=[] then Heap w [] w' []/\v=.tuple #[.slice none 0 0,.int .i64 2]
 else if 262144 < (enc s).length then Heap w [] w' []/\v=.tuple #[.slice none 0 0,.int .i64 3]
 else ∃ σ a c,Ordered (enc s) σ/\Heap w [] w' [Yu 3 1 a (Qc0 s σ).length c (Qat (bI (Qc0 s σ)))]/\v=.tuple #[.slice a (Qc0 s σ).length c,.int .i64 0]/\(Qc0 s σ).length<=100000000000
theorem QLd {row:Nat} (h:row < 16777216):Qas 25 row=Qas 1 0++Qas 24 row:=by
 have:row.testBit 24=false:=Nat.testBit_lt_two_pow (by omega)
 show row.testBit 24::Qas 24 row=_
 rw [this];rfl
theorem QA5 (s:List UInt8) (hs:s.length<=100000000) (w:World):Does Y3 21 #[Str s] w (QA4 s w):=by
 have hel:=Qkg s;have hcrc:=Qki s;refine En [Str s] 114 Tryz.func21 ?_;refine VS [0] ?_;refine VS [0,28] ?_;refine VD (fun h=>?_) (fun h=>VC_skip ?_)
 ·
  refine VS [2,3] ?_;refine VC_ret (Qav rfl rfl rfl (show QA4 s w _ _ from ?_));unfold QA4;rw [if_pos h];exact ⟨Y8 w,rfl⟩
 have hne:=QLv h;have hMk:∀ v w',(if 262144 < (enc s).length then Heap w [] w' []/\v=.tuple #[.slice none 0 0,.int .i64 3] else ∃ σ a c,Ordered (enc s) σ/\Heap w [] w' [Yu 3 1 a (Qc0 s σ).length c (Qat (bI (Qc0 s σ)))]/\v=.tuple #[.slice a (Qc0 s σ).length c,.int .i64 0]/\(Qc0 s σ).length<=100000000000)->QA4 s w v w':=fun v w' hv=>by unfold QA4;rw [if_neg h];exact hv
 clear h;refine VQ [0,4] fun K hK=>?_;refine MemK_call Ue ?_;refine Qs ?_;refine Yd (Qp8 s w (by omega)) ?_;rintro v w2 ⟨hH2,rfl⟩;(try refine Qs ?_);apply hK;clear hK;generalize ht:enc s=t at *;refine VS [0,4,33] ?_;refine VD (fun h=>?_) (fun h=>VC_skip ?_)
 ·
  refine VS [2,3] ?_;refine VC_ret (Qav rfl rfl rfl (hMk _ _ ?_));rw [if_pos (by omega)];exact ⟨hH2,rfl⟩
 have htl:t.length<=262144:=by omega
 replace hMk:∀ v w',(∃ σ a c,Ordered t σ/\Heap w [] w' [Yu 3 1 a (Qc0 s σ).length c (Qat (bI (Qc0 s σ)))]/\v=.tuple #[.slice a (Qc0 s σ).length c,.int .i64 0]/\(Qc0 s σ).length<=100000000000)->QA4 s w v w':=fun v w' hv=>hMk v w' (by rw [if_neg (by omega)];exact hv);clear h;refine VQ [0,4,5,6] fun K hK=>?_;refine MemK_call Tryz.call43 ?_;refine Qs ?_;refine Yd (Qu0 t hne htl w2) ?_;rintro v w3 ⟨σ,ho,hHf,rfl⟩;have hH3:=hH2.call0 hHf;simp only [Yc] at hH3;clear hH2 hHf;(try refine Qs ?_);apply hK;clear hK;refine VQ [0,5,6,8] fun K hK=>?_;refine MemK_call Tryz.call44 ?_;refine Qs ?_;refine Yd (Qxu t (by omega) w3) ?_;rintro v w4 ⟨hHo,rfl⟩;have hH4:=hH3.call0 hHo;simp only [Yc] at hH4;clear hH3 hHo;(try refine Qs ?_);apply hK;clear hK;obtain ⟨u1,u2⟩:=Qh1 hne;have hcl:=Qkh ho;obtain ⟨p1,p2,p3⟩:=Qj1 ho;obtain ⟨z1,z2,z3,z4,z5,z6⟩:=Qqr ho hne;have hmay:=Qou ho hne htl;have huu:Qbc (Qbc t)=Qbc t:=Qsp t;have hun:Qbc t≠[]:=fun e=>by rw [e] at u1;simp at u1
 refine VQ [0,6,8,9] fun K hK=>?_;refine MemK_call Tryz.call45 ?_;refine Qs ?_;refine Yd (Qye (Qbu t σ) (Qbc t) _ huu hun u2 (by omega) p1 w4) ?_;rintro v w5 ⟨ap,cp,hHp,rfl⟩;have hH5:=hH4.call0 hHp;simp only [Ym] at hH5;clear hH4 hHp;(try refine Qs ?_);apply hK;clear hK;have hzd:=QE4 ((Qbc t).length:Nat) (Qea t σ) ap cp (Xb (by omega) (by omega)) w5 (Qaq (hH5.at 0 rfl)) (by omega) (fun v hv=>by have:=p3 v hv;exact Xb (by omega) (by omega));unfold IntsErr at hzd;rw [z1,z2,<- z3] at hzd;refine VQ [0,6,8,11] fun K hK=>?_;refine MemK_call Tryz.call46 ?_;refine Qs ?_;refine Yd hzd ?_;rintro v w6 ⟨al,cl,hHl,rfl⟩;have hH6:=hH5.call0 hHl;have hH7:=hH6.sub (.cons_cons _ (.cons _ (.refl _)));clear hH5 hHl hzd hH6;(try refine Qs ?_);apply hK;clear hK;obtain ⟨gl,rfl⟩:=Qc1 (hH7.at 0 rfl) (by omega);have hcap:(Qcq t σ).length<=cl:=(hH7.at 0 rfl).2.1;have hbd:=Qyd (Qcq t σ) ((Qbc t).length+2) hmay ⟨gl,0,none⟩ rfl cl hcap w6 (Qaq (hH7.at 0 rfl));obtain ⟨b1,b2⟩:=Qt8 hmay;have b3:=Qla (Qcq t σ) ((Qbc t).length+2);have b4:=Qpv hmay;have hgl:=(Qfk (m:=(Qcq t σ).length) (by omega) (by omega)).2.1;have hplan:Qcu t σ=Qei (Qcq t σ) ((Qbc t).length+2):=rfl
 have hbs:Qc0 s σ=[Qqq s (σ.idxOf 0),Qe8 (Qbc t),Qbx (Qei (Qcq t σ) ((Qbc t).length+2)).1 (Qei (Qcq t σ) ((Qbc t).length+2)).2,Qe3 (Qei (Qcq t σ) ((Qbc t).length+2)).1 (Qei (Qcq t σ) ((Qbc t).length+2)).2 (Qcq t σ) 0].flatten:=by
  unfold Qc0;rw [ht,hplan]
 have hMk2:=fun v w' a c h1 h2 h3=>hMk v w' ⟨σ,a,c,ho,h1,h2,h3⟩;rw [hbs] at hMk2;have hnl:=Ql4 (Qbc t);have hhl:=Qov s (σ.idxOf 0)
 have hrow:σ.idxOf 0<=262144:=by
  have h1:=Xi (l:=σ) (a:=0);have h2:=ho.perm.length_eq;simp at h2;omega
 unfold Qgo at b4;have hput:=fun v=>Qqj v (Qei (Qcq t σ) ((Qbc t).length+2)).1 (Qei (Qcq t σ) ((Qbc t).length+2)).2 b1 (Qcq t σ) (by omega) (by rw [b2];exact z6) (by omega) (some ⟨gl,0,none⟩) cl;have hsho:=fun v=>Qn3 v (Qei (Qcq t σ) ((Qbc t).length+2)).1 (Qei (Qcq t σ) ((Qbc t).length+2)).2 b1
 have hHead:Qqq s (σ.idxOf 0)=(Qas 48 54156738319193++Qas 32 (Qa9 s))++Qas 25 (σ.idxOf 0):=by
  rw [QLd (by omega),Qqq];simp
 rw [hHead] at hMk2;clear hHead hMk hbs hplan b2 b3 p1 p2 p3 ho hcl hhl;generalize Qei (Qcq t σ) ((Qbc t).length+2)=B at *;obtain ⟨BT,BP⟩:=B;simp only at hput hsho hMk2 b4;generalize Qcq t σ=L at *;generalize σ.idxOf 0=row at *;generalize hce:Qa9 s=crc at *;have hl48:=Qan 48 54156738319193;have hl32:=Qan 32 crc;have hl25:=Qan 25 row;have hb48:=fun w=>Qd0 54156738319193 48 (by omega) (by omega) w;have hb32:=fun w=>Qd0 crc 32 (by omega) (by omega) w;have hb25:=fun w=>Qd0 row 25 (by omega) (by omega) w;generalize Qas 48 54156738319193=B48 at *;generalize Qas 32 crc=B32 at *;generalize Qas 25 row=B25 at *;generalize Qe3 BT BP L 0=CB at *;generalize Qbx BT BP=TB at *;refine VQ [0,6,8,11,13] fun K hK=>?_;(repeat first | refine Qo ?_ | refine Qp ?_);rw [show (((Qbc t).length:Int)+2)=(((Qbc t).length+2:Nat):Int) by push_cast;rfl];refine MemK_call Tryz.call47 ?_;refine Qs ?_;refine Yd hbd ?_;rintro v w7 ⟨pv,GP,hHb,hpg,rfl⟩;have hH8:=(hH7.call0 hHb).perm Xv;simp only [Yv,Yc] at hH8;obtain ⟨ta,tc,pa,pc,us,rfl,_⟩:=hpg w7 hHb.holds;have hpv:Value.agg #[.slice ta BT.length tc,.slice pa BP.length pc]=.agg (Qam ta BT.length tc pa BP.length pc).toArray:=rfl;rw [hpv] at hpg ⊢;clear hH7 hHb;(try refine Qs ?_);refine Qao (.agg #[.slice none 0 0,.slice none 0 0]) (by kernel_rfl) ?_;refine Qs ?_;have hH9:=hH8.box 70 (Qam none 0 0 none 0 0);have hpl:[Xj none 0 0,Xj none 0 0]=Qam none 0 0 none 0 0:=rfl;rw [hpl];generalize w7.alloc (Yz (Qam none 0 0 none 0 0).toArray 70)=w8 at *;generalize w7.heap.size=gp at *;refine Qaa ?_;refine Qs ?_;refine Qae hH9 0 (vs:=Qam ta BT.length tc pa BP.length pc) rfl rfl (by kernel_rfl) (by simp [Qam]) (Qb0 _ _ _ _ _ _) fun w9 hH10=>?_;have hH11:Heap w [] w9 (Yf gp 70 (Qam ta BT.length tc pa BP.length pc)::Yu 3 1 (some ⟨gl,0,none⟩) L.length cl (Qak L)::GP):=hH10;clear hH8 hH9 hH10;(try refine Qs ?_);apply hK;clear hK;refine VQ [0,6,8,11,13,15] fun K hK=>?_;refine MemK_call Xs ?_;refine Qs ?_;refine Yd (hb48 w9) ?_;rintro v w10 ⟨g48,hHq,rfl⟩;have hH:=hH11.call0 hHq;simp only [Yl] at hH;clear hH11 hHq;(try refine Qs ?_);apply hK;clear hK;refine VQ [6,8,11,13,15,17] fun K hK=>?_;refine MemK_call Tryz.call22 ?_;refine Qs ?_;refine Yd (Qsw s w10 (by omega)) ?_;rintro v w11 ⟨hHc,rfl⟩;have hH2:=hH.call0 hHc;simp only [Yc] at hH2;clear hH hHc;(try refine Qs ?_);rw [hce,show ((crc:Int) % 18446744073709551616)=crc by omega];refine MemK_call Xs ?_;refine Qs ?_;refine Yd (hb32 w11) ?_;rintro v w12 ⟨g32,hHq,rfl⟩;have hH3:=hH2.call0 hHq;simp only [Yl] at hH3;clear hH2 hHq;(try refine Qs ?_);apply hK;clear hK;refine VQ [8,11,13,15,17,19] fun K hK=>?_;rw [show ((row:Int) % 18446744073709551616)=row by omega];refine MemK_call Xs ?_;refine Qs ?_;refine Yd (hb25 w12) ?_;rintro v w13 ⟨g25,hHq,rfl⟩;have hH4:=hH3.call0 hHq;simp only [Yl] at hH4;clear hH3 hHq;(try refine Qs ?_);apply hK;clear hK;refine VQ [11,13,15,17,19,21] fun K hK=>?_;refine MemK_call Tryz.call48 ?_;refine Qs ?_;refine Yd (QA3 (Qbc t) huu hun u2 w13) ?_;rintro v w14 ⟨hHs,rfl⟩;have hH5:=hH4.call0 hHs;simp only [Yc] at hH5;clear hH4 hHs;(try refine Qs ?_);generalize hN:Qe8 (Qbc t)=NB at *;refine Qao (.agg #[.string ⟨#[]⟩,.int .i64 0]) (by kernel_rfl) ?_;refine Qs ?_;have hH6:=hH5.box 33 [.string ⟨#[]⟩,.int .i64 0];generalize w14.alloc (Yz [Y4 ⟨#[]⟩,.int .i64 0].toArray 33)=w15 at *;generalize w14.heap.size=gn at *;refine Qaa ?_;refine Qs ?_;refine Qae hH6 0 (vs:=Qa7 NB) rfl rfl (by kernel_rfl) (by simp [Qa7]) (Qb8 _) fun w16 hH7=>?_;simp only [Yb] at hH7;clear hH5 hH6;(try refine Qs ?_);apply hK;clear hK;refine VQ [11,13,15,17,19,21,23] fun K hK=>?_
 refine ⟨Qam ta BT.length tc pa BP.length pc,⟨rfl,Qay (hH7.at 4 rfl)⟩,?_⟩;(try refine Qs ?_);refine MemK_call Tryz.call49 ?_;refine Qs ?_;refine Yd (hsho _ w16 (hpg w16 (fun r hr=>hH7.holds r (by simp [hr])))) ?_;rintro v w17 ⟨aT,cT,hHq,rfl⟩;have hH8:=hH7.call0 hHq;simp only [Yl] at hH8;clear hH7 hHq;(try refine Qs ?_);apply hK;clear hK;refine VQ [15,17,19,21,23,25] fun K hK=>?_;refine ⟨Qam ta BT.length tc pa BP.length pc,⟨rfl,Qay (hH8.at 5 rfl)⟩,?_⟩;(try refine Qs ?_);refine MemK_call Tryz.call50 ?_;refine Qs ?_;refine Yd (hput _ w17 (hpg w17 (fun r hr=>hH8.holds r (by simp [hr]))) (Qaq (hH8.at 6 rfl))) ?_;rintro v w18 ⟨aC,cC,hHq,rfl⟩;have hH9:=hH8.call0 hHq;simp only [Yl] at hH9;clear hH8 hHq hput hsho hpg;(try refine Qs ?_);apply hK;clear hK;refine VQ [15,21,23,25] fun K hK=>?_;refine Qai ?_;refine Qs ?_;refine Qbn (zs:=#[.int .i64 0]) (bytes:=8) hH9 5 rfl Yh (by kernel_rfl) rfl ⟨rfl,Qaq (hH9.at 4 rfl),3,Yh⟩ (Qti _) (fun h=>by omega) fun a1 c1 w19 hc' hH10=>?_;simp only [Ye,Yb,Xt] at hH10;rw [<- Qgg,<- Qcr] at hH10;clear hc';(try refine Qs ?_);refine Qai ?_;refine Qs ?_;refine Qbn (zs:=#[.int .i64 0]) (bytes:=8) hH10 5 rfl Yh (by kernel_rfl) rfl ⟨rfl,Qaq (hH10.at 3 rfl),3,Yh⟩ (Qti _) (fun h=>by omega) fun a2 c2 w20 hc' hH11=>?_;simp only [Ye,Yb,Xt] at hH11;rw [<- Qgg,<- Qcr] at hH11;clear hH9 hH10 hc';(try refine Qs ?_);apply hK;clear hK;have hHl:(B48++B32++B25).length=105:=by simp [hl48,hl32,hl25]
 generalize B48++B32++B25=HB at *;have hHi:105=(bI HB).length:=by rw [Qbh,hHl]
 rw [hHi] at hH11;rw [show 48+32+25=(bI HB).length from hHi];have hF:=hH11.focus 5 rfl;have d1:=Heap.hole_at hH11 5 2 rfl rfl (by decide) (show (Qa7 NB)[0]? = some (Str (Qbo NB)) from rfl);have d2:=Heap.hole_at hH11 5 2 rfl rfl (by decide) (show (Qa7 NB)[1]? = some (.int .i64 NB.length) from rfl);refine VH (holes (Yu 3 1 a2 (bI HB).length c2 (Qat (bI HB))).foot w20) (Ext.hole _ _) [15,23,25] [(0,true),(1,true),(2,true),(4,true),(5,true),(3,false),(6,true),(7,false),(8,true)] fun K hK=>?_;refine ⟨_,d1,_,d2,?_⟩;(try refine Qs ?_);have htb:=Qci NB;refine MemK_call Tryz.call19 ?_;refine Qs ?_;refine Yd (Qt1 (Qbo NB) (by omega) w20) ?_;rintro v w21 ⟨aO,cO,hHO,rfl⟩;have hF2:=hF.call0 hHO;simp only [Yl] at hF2;have hrO:=Qaq (hF2.at 0 rfl);have hcO:=(Qth (hF2.at 0 rfl)).1;have hbl:(bI (Qap (Qbo NB))).length=8 * (Qbo NB).length:=by rw [Qbh,Qaw]
 have hrN:=hrO.take NB.length (by omega)
 have e1:(Qat (bI (Qap (Qbo NB)))).take (NB.length * 1)=Qat (bI NB):=by
  rw [Nat.mul_one,show (Qat (bI (Qap (Qbo NB)))).take NB.length=Qat (bI ((Qap (Qbo NB)).take NB.length)) by rw [<- QGf];simp [Qat,List.map_take],QDx]
 rw [e1] at hrN;(try refine Qs ?_);refine ⟨hF2.upd.extH,?_⟩;(try refine Qs ?_);refine Qp ?_;refine Qai ?_;refine Qs ?_;refine Qcg (o:=bI HB) (t:=bI NB) hF2 1 rfl Yh zi3 (Qbh NB).symm (by rw [Qbh];exact hrN) (fun h=>by simp [Qbh];omega) fun a3 c3 w22 hc' hF3=>?_;simp only [Ye,Yb] at hF3;rw [<- Qcr] at hF3 ⊢;(try refine Qs ?_);refine ⟨hF3.upd.extH,?_⟩;(try refine Qs ?_);apply hK;clear hK;have hH12:=hH11.call1 5 rfl (hF3.perm (.swap _ _ _));simp only [Ye,Yb,Yl] at hH12;clear hH11 hF hF2 hF3 d1 d2 hrO hrN hHO;have hHl2:(HB++NB).length<=1000:=by rw [Ya];omega
 refine VQ [2,3] fun K hK=>?_;refine Qai ?_;refine Qs ?_;refine Qcg (o:=bI (HB++NB)) (t:=bI TB) hH12 6 rfl Yh zi3 (Qbh TB).symm (by rw [Qbh];exact Qaq (hH12.at 2 rfl)) (fun h=>by simp [Qbh];omega) fun a4 c4 w23 hc' hH13=>?_;simp only [Ye,Yb] at hH13;rw [<- Qcr] at hH13 ⊢;(try refine Qs ?_);refine Qai ?_;refine Qs ?_;refine Qcg (o:=bI (HB++NB++TB)) (t:=bI CB) hH13 6 rfl Yh zi3 (Qbh CB).symm (by rw [Qbh];exact Qaq (hH13.at 1 rfl)) (fun h=>by simp [Qbh];omega) fun a5 c5 w24 hc' hH14=>?_;simp only [Ye,Yb] at hH14;rw [<- Qcr] at hH14 ⊢;(try refine Qs ?_);apply hK;clear hK;have hfl:HB++NB++TB++CB=[HB,NB,TB,CB].flatten:=by simp
 rw [hfl,Qbh [HB,NB,TB,CB].flatten] at hH14 ⊢;refine VC_ret (Qav rfl rfl rfl (hMk2 _ _ a5 c5 ?_ rfl ?_))
 ·
  exact hH14.sub (.cons _ (.cons _ (.cons _ (.cons _ (.cons _ (.cons _ (.cons_cons _ (List.nil_sublist _))))))))
 rw [<- hfl];simp only [Ya] at hHl2 ⊢;omega
theorem Qqu (n most:Int) (hn:1<=n):∀ (f z:Nat),z<=f->∀ (wt:Nat) (out r:List Int),1<=wt->(out.length:Int)<=most ->
  zdec n most out wt (dig z++r)=if (out.length:Int)+wt * z<=most then zdec n most (out++Yk (wt * z) 0) (wt * 2 ^ (dig z).length) r else ([],3):=by
 intro f
 induction f with
 | zero =>
  intro z hz wt out r h1 h2;have:z=0:=by omega
  subst this;simp [Qi1,h2]
 | succ f ih =>
  intro z hz wt out r h1 h2;cases z with
  | zero=>simp [Qi1,h2]
  | succ k =>
   have hk:((k % 2:Nat):Int)=0∨((k % 2:Nat):Int)=1:=by omega
   have e1:(((k % 2:Nat):Int)+1) * wt=((wt * (k % 2+1):Nat):Int):=by push_cast;rw [Int.mul_comm]
   have e2:wt * (k+1)=wt * (k % 2+1)+2 * wt * (k / 2):=by
    have:k+1=k % 2+1+2 * (k / 2):=by omega
    rw [this,Nat.mul_add];have:wt * (2 * (k / 2))=2 * wt * (k / 2):=by rw [Nat.mul_left_comm,Nat.mul_assoc]
    omega
   rw [Qme,Yv,zdec,if_neg (by omega),if_pos (by omega),e1,Yx]
   have e2':(wt:Int) * ((k+1:Nat):Int)=((wt * (k % 2+1):Nat):Int)+((2 * wt * (k / 2):Nat):Int):=by
    rw [<- Int.natCast_mul,e2];simp
   have e3:((2 * wt:Nat):Int) * ((k / 2:Nat):Int)=((2 * wt * (k / 2):Nat):Int):=by rw [<- Int.natCast_mul]
   rw [e2',e2];clear e1 e2 e2';generalize wt * (k % 2+1)=p;have ihk:=ih (k / 2) (by omega) (2 * wt) (out++Yk p 0) r (by omega);rw [e3] at ihk;generalize 2 * wt * (k / 2)=q at *;by_cases h3:most - (out.length:Int) < (p:Int)
   ·
    rw [if_pos h3,if_neg (by omega)]
   rw [if_neg h3,ihk (by simp;omega)];rw [Ya,Xh];by_cases h4:(out.length:Int)+((p:Int)+(q:Int))<=most
   ·
    rw [if_pos (by omega),if_pos h4,Yg,List.replicate_append_replicate,Yj,Xo]
    congr 1
    rw [Nat.mul_comm 2 wt,Nat.mul_assoc,Nat.mul_comm 2]
   rw [if_neg (by omega),if_neg h4]
theorem Qu4 (n:Int) (hn:1<=n) (hn2:n<=256):∀ (l:List Int) (o:List Int) (z:Nat) (s:List Int),zgo n o z l=(s,0) ->
  ∃ t,s=o++t/\∀ (out:List Int) (most:Int),(out.length:Int)<=most->zdec n most out 1 t=if (out.length:Int)+z+l.length<=most then (out++Yk z 0++l,0) else ([],3)
 | [],o,z,s,h=>by
  rw [zgo] at h;obtain ⟨rfl,_⟩:=Prod.mk.inj h;refine ⟨dig z++[n+1],by simp,fun out most ho=>?_⟩;rw [Qqu n most hn z z (Yp _) 1 out _ (Yp _) ho];have e:((1:Nat):Int) * (z:Int)=z:=by simp
  rw [e,Nat.one_mul];simp only [Yt,Int.natCast_zero,Int.add_zero,Ym];split
  ·
   rw [zdec,if_neg (by omega),if_neg (by omega),if_pos rfl,zend]
  rfl
 | v::r,o,z,s,h=>by
  rw [zgo] at h;split at h
  ·
   rename_i hv;subst hv;obtain ⟨t,ht,hd⟩:=Qu4 n hn hn2 r o (z+1) s h;refine ⟨t,ht,fun out most ho=>?_⟩;rw [hd out most ho]
   have e:Yk (z+1) (0:Int)++r=Yk z 0++0::r:=by
    rw [X0,Yg];rfl
   rw [Yg,e,<- Yg];simp only [Yj];by_cases hc:(out.length:Int)+((z+1:Nat):Int)+r.length<=most
   ·
    rw [if_pos hc,if_pos (by omega)]
   rw [if_neg hc,if_neg (by omega)]
  rename_i hv;split at h
  ·
   cases h
  rename_i hr;obtain ⟨t,ht,hd⟩:=Qu4 n hn hn2 r _ 0 s h;refine ⟨dig z++(v+1)::t,by rw [ht];simp,fun out most ho=>?_⟩;rw [Qqu n most hn z z (Yp _) 1 out _ (Yp _) ho];have e:((1:Nat):Int) * (z:Int)=z:=by simp
  rw [e,Nat.one_mul];simp only [Yj];by_cases hc:(out.length:Int)+z<=most
  ·
   rw [if_pos hc,zdec,if_neg (by omega),if_neg (by omega),if_neg (by omega),show v+1 - 1=v by omega];simp only [Ya,Xh];by_cases hc2:most<=((out.length+z:Nat):Int)
   ·
    rw [if_pos hc2,if_neg (by omega)]
   rw [if_neg hc2,hd _ most (by simp;omega)];simp only [Ya,Xh,Yj,Yt,List.replicate_zero,Ym];by_cases hc3:(out.length:Int)+z+((r.length+1:Nat):Int)<=most
   ·
    rw [if_pos (by omega),if_pos hc3,Yg];rfl
   rw [if_neg (by omega),if_neg hc3]
  rw [if_neg hc,if_neg (by omega)]
theorem QV1 (n:Int) (l s:List Int) (h:zenc n l=(s,0)) (most:Int) (h0:0<=most) (h1:most<=262144) :
  Qe4 n most s=if (l.length:Int)<=most then (l,0) else ([],3):=by
 rw [zenc] at h;split at h
 ·
  cases h
 rename_i hc;obtain ⟨t,ht,hd⟩:=Qu4 n (by omega) (by omega) l [] 0 s h;have:=hd [] most (by simpa using h0);rw [Yc] at ht;subst ht;rw [Qe4,if_neg (by omega),this];simp
theorem Qhm {n v:Nat}{bits:List Bool}{at_:Nat}{r:List Bool} (h0:0 < n) (hv:v < 2 ^ n) (hb:bits.drop at_=Qas n v++r):at_+n<=bits.length/\numB ((bits.drop at_).take n)=v/\bits.drop (at_+n)=r:=by
 have hl:=congrArg Y5 hb;rw [Yw,Ya,Qan] at hl;refine ⟨by omega,?_,?_⟩
 ·
  rw [hb,List.take_left' (Qan n v),Qdz,Nat.mod_eq_of_lt hv]
 rw [<- X1,hb,List.drop_left' (Qan n v)]
theorem Qu5 {n:Int} (hn:1<=n):∀ (l out:List Int) (z:Nat),(∀ v∈l,0<=v/\v < n)->(∀ x∈out,0<=x/\x<=n)->∃ t,zgo n out z l=(t++[n+1],0)/\∀ x∈t,0<=x/\x<=n
 | [],out,z,_,ho=>by
  have h1:=Qqp z z (Yp _);refine ⟨out++dig z,rfl,fun x hx=>?_⟩;rcases Xe.1 hx with hx | hx
  ·
   exact ho x hx
  have:=h1 x hx;omega
 | v::r,out,z,hl,ho=>by
  have hv:=hl v (by simp);rw [zgo];split
  ·
   exact Qu5 hn r out (z+1) (fun v hv=>hl v (by simp [hv])) ho
  rw [if_neg (by omega)];have h1:=Qqp z z (Yp _);refine Qu5 hn r _ 0 (fun v hv=>hl v (by simp [hv])) fun x hx=>?_;simp only [Xe,Xf] at hx;rcases hx with (hx | hx) | rfl
  ·
   exact ho x hx
  ·
   have:=h1 x hx;omega
  omega
theorem QSu {l:List Int} (h:∀ v∈l,0<=v):ni (toN l)=l:=by
 unfold ni toN;rw [List.map_map]
 conv=>rhs;rw [<- List.map_id l]
 apply Xl;intro v hv;have:=h v hv;simp only [Function.comp,id];omega
theorem QIk {t:List UInt8}{σ:List Nat} (ho:Ordered t σ) (ht:t≠[]):∃ body,Qcq t σ=body++[(Qbc t).length+1]/\∀ x∈body,x < (Qbc t).length+2/\x≠(Qbc t).length+1:=by
 obtain ⟨u1,u2⟩:=Qh1 ht;obtain ⟨p1,p2,p3⟩:=Qj1 ho;obtain ⟨b,hb,hx⟩:=Qu5 (n:=((Qbc t).length:Nat)) (by omega) (Qea t σ) [] 0 p3 (by simp);have he:zenc ((Qbc t).length:Nat) (Qea t σ)=(b++[((Qbc t).length:Int)+1],0):=by rw [zenc,if_neg (by omega)];exact hb
 refine ⟨toN b,?_,fun x hx2=>?_⟩
 ·
  unfold Qcq;rw [he];simp only [toN,List.map_append,List.map_cons,List.map_nil]
  congr 2
 obtain ⟨y,hy,rfl⟩:=Xn.1 hx2;have:=hx y hy;omega
theorem QIl {s:List UInt8}{σ:List Nat} (ho:Ordered (enc s) σ) (hs:s≠[]) (hl:s.length<=262144) (hel:(enc s).length<=262144) (hne:enc s≠[]) {most:Int} (h0:1<=most) (h1:most<=262144) :
  unpS (Qbc (enc s)) (Qcq (enc s) σ) (σ.idxOf 0) most=if ((enc s).length:Int)<=most then (s,0) else ([],3):=by
 obtain ⟨u1,u2⟩:=Qh1 hne;obtain ⟨p1,p2,p3⟩:=Qj1 ho;obtain ⟨z1,z2,z3,z4,z5,z6⟩:=Qqr ho hne;have hz:∀ v∈(zenc ((Qbc (enc s)).length:Nat) (Qea (enc s) σ)).1,0<=v:=fun v hv=>(QIg (n:=((Qbc (enc s)).length:Nat)) (by omega) (by omega) p3).2.1 v hv |>.1
 have hni:ni (Qcq (enc s) σ)=(zenc ((Qbc (enc s)).length:Nat) (Qea (enc s) σ)).1:=QSu hz;have hzb:=QV1 ((Qbc (enc s)).length:Nat) (Qea (enc s) σ) (zenc ((Qbc (enc s)).length:Nat) (Qea (enc s) σ)).1 (by rw [<- z1]) most (by omega) h1;have hfb:=Qsn _ _ _ p1;have hmu:=Qlc hne;have hcl:=Qkh ho
 have hrow:σ.idxOf 0 < (enc s).length:=by
  have hm:0∈σ:=by
   refine ho.perm.mem_iff.2 ?_
   have:0 < (enc s).length:=by cases h:enc s with
    | nil=>exact absurd h hne
    | cons=>simp
   simpa using this
  have:=List.idxOf_lt_length_of_mem hm;have h2:=ho.perm.length_eq;simp at h2;omega
 have hbk:bckS (Qbu (enc s) σ) (σ.idxOf 0:Nat)=(enc s,0):=by
  unfold bckS;rw [if_neg (by omega),if_neg (by omega),Yx,hcl,QJ6 ho hne]
 have hsy:Qd9 (Qbc (enc s)) (Qea (enc s) σ)=(Qbu (enc s) σ,0):=by
  unfold Qd9;rw [if_pos hmu,hfb]
 unfold unpS;rw [hni,hzb,p2];by_cases hm:((enc s).length:Int)<=most
 ·
  simp only [if_pos hm];rw [if_neg (by simp),hsy,if_neg (by simp),hbk,if_neg (by simp),QEo s hl]
 simp only [if_neg hm];rw [if_pos (by simp)]
theorem Qng {s:List UInt8} (hs:s≠[]):enc s≠[]:=by
 intro e
 obtain ⟨c,r,rfl⟩:∃ c r,s=c::r:=by cases s with
  | nil=>exact absurd rfl hs
  | cons c r=>exact ⟨c,r,rfl⟩
 have h1:=Qi3 (c::r) (by simp);have h2:=Qed (c::r) (by simp);have h3:=(Qi2 (c::r)).1;have h4:=Qdq (Qdj (c::r)) (c::r) h3;rw [e] at h1;have h5:=congrArg Y5 h1;simp only [Ya,Yt] at h5;split at h4 <;> omega
theorem Qlg (s:List UInt8):Qa9 s < 4294967296:=by
 have:=Qg3 s (r:=4294967295) (by omega);unfold Qa9
 first | omega | exact X6 (n:=32) this (by omega)
def QIm (s:List UInt8) (σ:List Nat):List Bool:=Qe8 (Qbc (enc s))++(Qbx (Qcu (enc s) σ).1 (Qcu (enc s) σ).2++Qe3 (Qcu (enc s) σ).1 (Qcu (enc s) σ).2 (Qcq (enc s) σ) 0)
theorem Qqv (s:List UInt8) (σ:List Nat):Qc0 s σ=Qqq s (σ.idxOf 0)++QIm s σ:=by
 simp [Qc0,QIm]
theorem QLe {s:List UInt8}{σ:List Nat} (ho:Ordered (enc s) σ) (hs:s≠[]) (hl:s.length<=262144) (hel:(enc s).length<=262144) {bits:List Bool}{at_ sum:Nat}{r:List Bool} (hsum:sum < 4294967296) (hb:bits.drop at_=Qas 48 54156738319193++(Qas 32 sum++(Qas 1 0++(Qas 24 (σ.idxOf 0)++(QIm s σ++r))))) {most:Int} (h0:1<=most) (h1:most<=262144) :
  Qmg bits at_ most=if ((enc s).length:Int)<=most then (if Qa9 s≠sum then .error 121 else .ok (s,sum,at_+(Qc0 s σ).length)) else .error 3:=by
 have hne:=Qng hs;obtain ⟨u1,u2⟩:=Qh1 hne;have hmay:=Qou ho hne hel;obtain ⟨bm,bn⟩:=Qt8 hmay;have hbg:=Qla (Qcq (enc s) σ) ((Qbc (enc s)).length+2)
 have hrow:σ.idxOf 0 < 2 ^ 24:=by
  have h1:=Xi (l:=σ) (a:=0);have h2:=ho.perm.length_eq;simp at h2;omega
 obtain ⟨a1,a2,a3⟩:=Qhm (by omega) (by decide) hb;obtain ⟨b1,b2,b3⟩:=Qhm (by omega) hsum a3;obtain ⟨c1,c2,c3⟩:=Qhm (by omega) (by decide) b3;obtain ⟨d1,d2,d3⟩:=Qhm (by omega) hrow c3
 have hhd:hdS bits at_=(sum,σ.idxOf 0,at_+105,0):=by
  unfold hdS;rw [if_neg (by omega),if_neg (by rw [a2];simp),if_neg (by omega),if_neg (by omega)];rw [show at_+48+32=at_+80 by omega] at c2;rw [show at_+48+32+1=at_+81 by omega] at d2;rw [c2,if_neg (by simp),if_neg (by omega),b2,d2]
 have e1:bits.drop (at_+105)=Qe8 (Qbc (enc s))++((Qbx (Qcu (enc s) σ).1 (Qcu (enc s) σ).2++Qe3 (Qcu (enc s) σ).1 (Qcu (enc s) σ).2 (Qcq (enc s) σ) 0)++r):=by
  rw [show at_+105=at_+48+32+1+24 by omega,d3,QIm];simp
 have hst:=QKg hne e1;have e2:=Qbz e1;rw [Yg] at e2
 have hpt:Qel bits (at_+105+(Qe8 (Qbc (enc s))).length) ((Qbc (enc s)).length+2)=.ok (((Qcu (enc s) σ).1,(Qcu (enc s) σ).2),at_+105+(Qe8 (Qbc (enc s))).length+(Qbx (Qcu (enc s) σ).1 (Qcu (enc s) σ).2).length):=by
  have:=QGl bm e2;rw [bn] at this;exact this
 have e3:=Qbz e2;obtain ⟨body,hbody,hbx⟩:=QIk ho hne;obtain ⟨n1,n2,n3,n4,n5,n6⟩:=bm
 have hgl:(Qcq (enc s) σ).length<=50 * (Qcu (enc s) σ).2.length:=by
  show _<=50 * (Qei _ _).2.length
  rw [hbg];unfold Qbe;omega
 have hpc:Qe3 (Qcu (enc s) σ).1 (Qcu (enc s) σ).2 (Qcq (enc s) σ) 0=putC (Qcu (enc s) σ).1 (Qcu (enc s) σ).2 (Qcq (enc s) σ) :=
  Qsj (Qcu (enc s) σ).1 (Qcu (enc s) σ).2 (Qcu (enc s) σ).2 0 (Qcq (enc s) σ) rfl hgl
 have hT:∀ t,t < (Qcu (enc s) σ).1.length->((Qcu (enc s) σ).1.getD t []).length=(Qbc (enc s)).length+2/\okL ((Qcu (enc s) σ).1.getD t []):=fun t ht=>by
  have hm:(Qcu (enc s) σ).1.getD t []∈(Qcu (enc s) σ).1:=by
   rw [Y0,Xd ht];exact List.getElem_mem ht
  obtain ⟨q1,q2,q3⟩:=n5 _ hm;exact ⟨by rw [q1];exact bn,q3⟩
 have hgp:Qgw (Qcu (enc s) σ).1 bits ((Qbc (enc s)).length+1) (Qcu (enc s) σ).2 (at_+105+(Qe8 (Qbc (enc s))).length+(Qbx (Qcu (enc s) σ).1 (Qcu (enc s) σ).2).length)=.ok (Qcq (enc s) σ,at_+105+(Qe8 (Qbc (enc s))).length+(Qbx (Qcu (enc s) σ).1 (Qcu (enc s) σ).2).length+(putC (Qcu (enc s) σ).1 (Qcu (enc s) σ).2 (Qcq (enc s) σ)).length):=by
  rw [hpc,hbody] at e3;rw [hbody];exact QGo (by omega) hT _ body n6 hbx (by rw [<- hbody];exact hgl) e3
 have hun:=QIl ho hs hl hel hne h0 h1
 have hlen:(Qc0 s σ).length=105+(Qe8 (Qbc (enc s))).length+(Qbx (Qcu (enc s) σ).1 (Qcu (enc s) σ).2).length+(putC (Qcu (enc s) σ).1 (Qcu (enc s) σ).2 (Qcq (enc s) σ)).length:=by
  rw [Qqv,QIm,<- hpc];simp [Qov];omega
 have hbn:((Qcu (enc s) σ).1.getD 0 []).length=(Qbc (enc s)).length+2:=bn;unfold Qmg;rw [hhd];simp only [ne_eq,not_true_eq_false,if_false];rw [hst];simp only;rw [hpt];simp only;rw [hbn,show (Qbc (enc s)).length+2 - 1=(Qbc (enc s)).length+1 by omega,hgp];simp only;rw [hun,hlen];by_cases hm:((enc s).length:Int)<=most
 ·
  simp only [if_pos hm,not_true_eq_false,if_false];split
  ·
   rfl
  rw [show at_+105+(Qe8 (Qbc (enc s))).length+(Qbx (Qcu (enc s) σ).1 (Qcu (enc s) σ).2).length+(putC (Qcu (enc s) σ).1 (Qcu (enc s) σ).2 (Qcq (enc s) σ)).length=at_+(105+(Qe8 (Qbc (enc s))).length+(Qbx (Qcu (enc s) σ).1 (Qcu (enc s) σ).2).length+(putC (Qcu (enc s) σ).1 (Qcu (enc s) σ).2 (Qcq (enc s) σ)).length) by omega]
 simp only [if_neg hm];rfl
theorem QE5 {s:List UInt8}{σ:List Nat} (ho:Ordered (enc s) σ) (hs:s≠[]) (hl:s.length<=262144) (hel:(enc s).length<=262144) {bits:List Bool}{at_:Nat}{r:List Bool} (hb:bits.drop at_=Qc0 s σ++r) {most:Int} (h0:1<=most) (h1:most<=262144) :
  Qmg bits at_ most=if ((enc s).length:Int)<=most then .ok (s,Qa9 s,at_+(Qc0 s σ).length) else .error 3:=by
 rw [QLe (r:=r) ho hs hl hel (Qlg s) (by rw [hb,Qqv,Qqq];simp [Yg]) h0 h1];simp
set_option maxHeartbeats 8000000
theorem QLf (b:UInt8) (n:Nat) (s:List UInt8) (h1:1<=n) (h2:n<=255) (h3:n=255∨s[0]? ≠ some b):Qdj (Yk n b++s)=n:=by
 have hz:(Yk n b++s)[0]? = some b:=by
  rw [Xc (by simp;omega),Y6,if_pos (by omega)]
 have h:=Qup (Yk n b++s) 0 n (by simp;omega) h1 h2 ?_ ?_
 ·
  simpa using h
 ·
  intro j hj;rw [hz,Nat.zero_add,Xc (by simp;omega),Y6,if_pos (by omega)]
 rcases h3 with h3 | h3
 ·
  exact .inl h3
 refine .inr ?_;rw [hz,Nat.zero_add,Xq (by simp)];simpa using h3
theorem Qj2 (b:UInt8) (n:Nat) (s:List UInt8) (h1:1<=n) (h2:n<=255) (h3:n=255∨s[0]? ≠ some b) :
  (enc (Yk n b++s)).length=cost n+(enc s).length:=by
 have hne:Yk n b++s≠[]:=by
  intro h;have:=congrArg Y5 h;simp at this;omega
 rw [Qi3 _ hne,QLf b n s h1 h2 h3,Ya,Qdq _ _ (by simp)];have e:(Yk n b++s).drop n=s:=by simp
 rw [e,cost]
 congr 1
 split <;> split <;> omega
theorem Qyj (l:List UInt8) (h:l≠[]):∃ (b:UInt8) (n:Nat) (s:List UInt8),l=Yk n b++s/\Qdj l=n/\s=l.drop n/\1<=n/\n<=255/\(n=255∨s[0]? ≠ some b):=by
 cases l with
 | nil=>exact absurd rfl h
 | cons b l =>
  have hp:=Qed (b::l) (by simp);have hle:=Qi2 (b::l);refine ⟨b,Qdj (b::l),(b::l).drop (Qdj (b::l)),?_,rfl,rfl,hp,hle.2,?_⟩
  ·
   rw [<- Quv b l _ (Yp _),Xw]
  by_cases h255:Qdj (b::l)=255
  ·
   exact .inl h255
  refine .inr ?_;rw [List.getElem?_drop,Nat.add_zero];exact QHx b l (by omega)
theorem QA6 (c:UInt8):(enc [c]).length=1:=by
 have:=Qj2 c 1 [] (by omega) (by omega) (.inr (by simp));simpa [cost,Qfz] using this
theorem QLg:∀ (f:Nat) (l:List UInt8) (c:UInt8),l.length<=f->(enc l).length<=(enc (l++[c])).length/\(enc (l++[c])).length<=(enc l).length+2:=by
 intro f
 induction f with
 | zero =>
  intro l c h;have:l=[]:=Yy (by omega);subst this;rw [Yc,QA6,Qfz];simp
 | succ f ih =>
  intro l c h;by_cases hl:l=[]
  ·
   subst hl;rw [Yc,QA6,Qfz];simp
  obtain ⟨b,n,s,rfl,_,_,h1,h2,h3⟩:=Qyj l hl;rw [Qj2 b n s h1 h2 h3,Yg];by_cases hs:s=[]
  ·
   subst hs;rw [Yc,Qfz];by_cases hc:n≠255/\c=b
   ·
    obtain ⟨hc1,rfl⟩:=hc;have e:Yk n c++[c]=Yk (n+1) c++[]:=by rw [Ym,X0]
    rw [e,Qj2 c (n+1) [] (by omega) (by omega) (.inr (by simp)),Qfz];simp only [cost,Yt];split <;> split <;> omega
   rw [Qj2 b n [c] h1 h2 ?_,QA6]
   ·
    simp
   by_cases h4:n=255
   ·
    exact .inl h4
   refine .inr ?_;intro h5;simp only [List.getElem?_cons_zero,Option.some.injEq] at h5;exact hc ⟨h4,h5⟩
  have hh:=ih s c (by simp at h;omega)
  have e:(s++[c])[0]? = s[0]? := by
   rw [Xc];cases s with
   | nil=>exact absurd rfl hs
   | cons _ _=>simp
  rw [Qj2 b n (s++[c]) h1 h2 (by rw [e];exact h3)];omega
theorem QIn (l:List UInt8) (c:UInt8):(enc l).length<=(enc (l++[c])).length/\(enc (l++[c])).length<=(enc l).length+2:=QLg l.length l c (Yp _)
theorem QIo (l:List UInt8) (k:Nat) (h:k < l.length):l.take (k+1)=l.take k++[l[k]]:=by
 rw [List.take_add_one,Xd h];rfl
theorem Qu6 (l:List UInt8):∀ (d k:Nat),k+d<=l.length->(enc (l.take k)).length<=(enc (l.take (k+d))).length
 | 0,k,_=>Yp _
 | d+1,k,h=>by
  have h1:=Qu6 l d k (by omega);have h2:=(QIn (l.take (k+d)) l[k+d]).1;rw [<- QIo l (k+d) (by omega)] at h2;rw [<- X5];omega
theorem QLw:∀ (f:Nat) (l:List UInt8) (left:Int),l.length<=f ->
  fit l left<=l.length/\((enc (l.take (fit l left))).length:Int)<=max left 0/\(left < 0->fit l left=0)/\(fit l left=l.length∨left < ((enc (l.take (fit l left+1))).length:Int)):=by
 intro f
 induction f with
 | zero =>
  intro l left h;have:l=[]:=Yy (by omega);subst this;simp [QAk,Qfz];omega
 | succ f ih =>
  intro l left h;by_cases hl:l=[]
  ·
   subst hl;simp [QAk,Qfz];omega
  rw [Qur l left hl];obtain ⟨b,n,s,hls,hn,hd,h1,h2,h3⟩:=Qyj l hl;rw [hn,<- hd];have hlen:l.length=n+s.length:=by rw [hls];simp
  have inrun:∀ k,1<=k->k<=n->(enc (l.take k)).length=cost k:=by
   intro k hk1 hk2
   have e:l.take k=Yk k b++[]:=by
    rw [hls,List.take_append_of_le_length (by simp;omega),List.take_replicate,Ym]
    congr 1;omega
   rw [e,Qj2 b k [] hk1 (by omega) (.inr (by simp)),Qfz];rfl
  have behind:∀ k,(enc (l.take (n+k))).length=cost n+(enc (s.take k)).length:=by
   intro k
   have e:l.take (n+k)=Yk n b++s.take k:=by
    rw [hls,List.take_append];simp
   by_cases hk:k=0
   ·
    subst hk;rw [e,Qj2 b n _ h1 h2 (.inr (by simp))]
   rw [e,Qj2 b n _ h1 h2 ?_];rw [List.getElem?_take,if_pos (by omega)];exact h3
  by_cases hc:left < (cost n:Int)
  ·
   rw [if_pos hc];generalize hk:(max 0 (min left 3)).toNat=k;have hkn:k < n:=by simp only [cost] at hc;split at hc <;> omega
   have hk3:k<=3:=by omega
   refine ⟨by omega,?_,by omega,.inr ?_⟩
   ·
    by_cases hk0:k=0
    ·
     subst hk0;rw [Xx,Qfz];simp;omega
    rw [inrun k (by omega) (by omega),cost,if_pos hk3];omega
   rw [inrun (k+1) (by omega) (by omega)];simp only [cost] at hc ⊢;split at hc <;> split <;> omega
  rw [if_neg hc];obtain ⟨g1,g2,g3,g4⟩:=ih s (left - cost n) (by omega);refine ⟨by omega,?_,by omega,?_⟩
  ·
   rw [behind];omega
  rcases g4 with g4 | g4
  ·
   exact .inl (by omega)
  refine .inr ?_;rw [X5,behind];omega
theorem Qlh {s:List UInt8}{most:Int} (hs:s≠[]) (hm:1<=most):1<=fit s most/\fit s most<=s.length/\((enc (s.take (fit s most))).length:Int)<=most:=by
 obtain ⟨h1,h2,_,_⟩:=QLw s.length s most (Yp _);refine ⟨?_,h1,by omega⟩;rw [Qur s most hs];have:=Qed s hs;split <;> omega
def cutF:Nat->List UInt8->Int->List (List UInt8)
 | 0,_,_=>[]
 | f+1,s,most=>if s=[] then [] else s.take (fit s most)::cutF f (s.drop (fit s most)) most
theorem QIp {most:Int} (hm:1<=most):∀ (f g:Nat) (s:List UInt8),s.length<=f->s.length<=g->cutF f s most=cutF g s most:=by
 intro f
 induction f with
 | zero =>
  intro g s h1 h2;obtain rfl:s=[]:=Yy (by omega);cases g with
  | zero=>rfl
  | succ g=>rw [cutF,cutF,if_pos rfl]
 | succ f ih =>
  intro g s h1 h2;cases g with
  | zero =>
   obtain rfl:s=[]:=Yy (by omega);rw [cutF,cutF,if_pos rfl]
  | succ g =>
   rw [cutF,cutF];split
   ·
    rfl
   rename_i hne;have:=Qlh hne hm;rw [ih g _ (by rw [Yw];omega) (by rw [Yw];omega)]
def cutS (s:List UInt8) (most:Int):List (List UInt8):=cutF s.length s most
theorem Qml (most:Int):cutS [] most=[]:=rfl
theorem Qqw {s:List UInt8}{most:Int} (hs:s≠[]) (hm:1<=most):cutS s most=s.take (fit s most)::cutS (s.drop (fit s most)) most:=by
 obtain ⟨n,hn⟩:∃ n,s.length=n+1:=⟨s.length - 1,by have:=Xm.2 hs;omega⟩;have:=Qlh hs hm;rw [cutS,hn,cutF,if_neg hs,cutS]
 congr 1
 exact QIp hm _ _ _ (by rw [Yw];omega) (Yp _)
theorem Qqx {most:Int} (hm:1<=most):∀ (n:Nat) (s:List UInt8),s.length<=n->(cutS s most).flatten=s/\(cutS s most).length<=s.length/\∀ p∈cutS s most,p≠[]/\p.length<=s.length/\((enc p).length:Int)<=most:=by
 intro n
 induction n with
 | zero =>
  intro s h;obtain rfl:s=[]:=Yy (by omega);rw [Qml];simp
 | succ n ih =>
  intro s h;by_cases hs:s=[]
  ·
   subst hs;rw [Qml];simp
  obtain ⟨f1,f2,f3⟩:=Qlh hs hm;obtain ⟨h1,h2,h3⟩:=ih (s.drop (fit s most)) (by rw [Yw];omega);rw [Yw] at h2 h3;rw [Qqw hs hm];refine ⟨by rw [Yo,h1,Xw],by rw [Yj];omega,fun p hp=>?_⟩;rcases List.mem_cons.1 hp with rfl | hp
  ·
   refine ⟨fun h0=>?_,by rw [Y7];omega,f3⟩;have:=congrArg Y5 h0;rw [Y7,Yt] at this;omega
  obtain ⟨a,b,c⟩:=h3 p hp;exact ⟨a,by omega,c⟩
def PB (p:List UInt8) (b:List Bool):Prop:=∃ σ,Ordered (enc p) σ/\b=Qc0 p σ
def PBs:List (List UInt8)->List (List Bool)->Prop
 | [],[]=>True
 | p::ps,b::bs=>PB p b/\PBs ps bs
 | _,_=>False
theorem Qu7 {p:List UInt8}{b:List Bool} (h:PB p b):∀ (ps:List (List UInt8)) (bs:List (List Bool)),PBs ps bs->PBs (ps++[p]) (bs++[b])
 | [],[],_=>⟨h,trivial⟩
 | _::ps,_::bs,hh=>⟨hh.1,Qu7 h ps bs hh.2⟩
 | [],_::_,hh=>hh.elim
 | _::_,[],hh=>hh.elim
theorem Qu8:∀ (ps:List (List UInt8)) (bs:List (List Bool)),PBs ps bs->bs.length=ps.length
 | [],[],_=>rfl
 | _::ps,_::bs,hh=>by rw [Yj,Yj,Qu8 ps bs hh.2]
 | [],_::_,hh=>hh.elim
 | _::_,[],hh=>hh.elim
theorem QLx {p:List UInt8}{b:List Bool} (h:PB p b) (hp:p≠[]) (he:(enc p).length<=262144):b.length<=20000000:=by
 obtain ⟨σ,ho,rfl⟩:=h;obtain ⟨u1,u2⟩:=Qh1 (Qng hp);have hlen:=(Qqr ho (Qng hp)).2.2.2.1;have hb:=Qpv (Qou ho (Qng hp) he);have hn:=Ql4 (Qbc (enc p));have hh:=Qov p (σ.idxOf 0);unfold Qc0;unfold Qgo at hb;change (Qbx (Qcu (enc p) σ).1 (Qcu (enc p) σ).2).length+(Qe3 (Qcu (enc p) σ).1 (Qcu (enc p) σ).2 (Qcq (enc p) σ) 0).length<=_ at hb;simp only [Yo,Y2,Ym,Ya];unfold Qbe at hb;omega
theorem Qow:∀ (ps:List (List UInt8)) (bs:List (List Bool)),PBs ps bs->(∀ p∈ps,p≠[]/\(enc p).length<=262144)->bs.flatten.length<=ps.length * 20000000
 | [],[],_,_=>by simp
 | p::ps,b::bs,hh,hp=>by
  have h1:=Qow ps bs hh.2 fun q hq=>hp q (by simp [hq]);obtain ⟨a1,a2⟩:=hp p (by simp);have h2:=QLx hh.1 a1 a2;rw [Yo,Ya,Yj];omega
 | [],_::_,hh,_=>hh.elim
 | _::_,[],hh,_=>hh.elim
def Qi5 (level:Nat) (bs:List (List Bool)) (sums:List Nat):List Bool :=
 Qap [66,90,104,Ys (48+level)]++bs.flatten++Qas 48 25779555029136++Qas 32 (Qb6 sums)
def PackOk (s:List UInt8) (level most:Int) (v:Value):Prop :=
 if level < 1∨9 < level∨most < 1∨min (level * 100000) 262144 < most then v=.tuple #[Str [],.int .i64 2]
 else if 262144 < s.length then v=.tuple #[Str [],.int .i64 3]
 else ∃ bs,PBs (cutS s most) bs/\v=.tuple #[Str (Qbo (Qi5 level.toNat bs ((cutS s most).map Qa9))),.int .i64 0]
theorem QPp {p:List UInt8}{b:List Bool} (h:PB p b) (hp:p≠[]) (hl:p.length<=262144) {bits:List Bool}{at_:Nat}{r:List Bool} (hd:bits.drop at_=b++r) {most:Int} (h0:((enc p).length:Int)<=most) (h1:most<=262144) :
  Qmg bits at_ most=.ok (p,Qa9 p,at_+b.length):=by
 obtain ⟨σ,ho,rfl⟩:=h;have he:=Xm.2 (Qng hp);rw [QE5 ho hp hl (by omega) hd (by omega) h1,if_pos h0]
theorem QCj {p:List UInt8}{b:List Bool} (h:PB p b):∃ t,b=Qas 48 54156738319193++t:=by
 obtain ⟨σ,_,rfl⟩:=h;rw [Qqv,Qqq];simp only [Yg];exact ⟨_,rfl⟩
theorem QCk {s:List UInt8}{room:Int} (hr1:room<=262144) {r:List Bool}:∀ (ps:List (List UInt8)) (bs:List (List Bool)) (f bit:Nat) (out:List UInt8) (sums:List Nat),PBs ps bs ->
  (∀ p∈ps,p≠[]/\p.length<=262144/\((enc p).length:Int)<=room)->out.length+ps.flatten.length<=262144->ps.length < f->bit<=8 * s.length->(∀ x∈sums,x < 4294967296) ->
  (Qap s).drop bit=bs.flatten++(Qas 48 25779555029136++(Qas 32 (Qb6 (sums++ps.map Qa9))++r)) ->
  goT s room f bit out sums=.ok (out++ps.flatten,(bit+bs.flatten.length+87) / 8)
 | [],[],f,bit,out,sums,_,_,_,hf,hb,h32,hd=>by
  obtain ⟨f,rfl⟩:∃ k,f=k+1:=⟨f - 1,by simp only [Yt] at hf;omega⟩;simp only [Y2,Yc,List.map_nil,Ym] at hd;obtain ⟨a1,a2,a3⟩:=Qhm (n:=48) (by omega) (by decide) hd;obtain ⟨b1,b2,b3⟩:=Qhm (n:=32) (by omega) (Qfn sums h32) a3;rw [Qaw] at a1 b1;rw [goT,if_neg (by omega),a2,if_pos rfl,if_neg (by omega),b2,if_neg (by simp)];simp
 | p::ps,b::bs,f,bit,out,sums,hh,hp,ho,hf,hb,h32,hd=>by
  obtain ⟨f,rfl⟩:∃ k,f=k+1:=⟨f - 1,by simp only [Yj] at hf;omega⟩;obtain ⟨p1,p2,p3⟩:=hp p (by simp);simp only [Yo,Ya,Yj,List.map_cons,Yg] at hd ho hf;obtain ⟨t,ht⟩:=QCj hh.1;have hd2:=hd;rw [ht,Yg] at hd2;obtain ⟨a1,a2,a3⟩:=Qhm (n:=48) (by omega) (by decide) hd2;have htk:=QPp hh.1 p1 p2 hd p3 hr1;have hle:=congrArg Y5 hd;rw [Yw,Ya,Qaw] at hle;rw [Qaw] at a1
  have hroom:1<=room:=by
   have he:=Xm.2 (Qng p1);omega
  rw [goT,if_neg (by omega),a2,if_neg (by decide),if_pos rfl,Qoa,if_neg (by omega),Yx,htk];simp only
  rw [if_neg (by omega),QCk (r:=r) hr1 ps bs f (bit+b.length) (out++p) (sums++[Qa9 p]) hh.2 (fun q hq=>hp q (by simp [hq])) (by rw [Ya];omega) (by omega) (by omega) (fun x hx=>by
    rcases Xe.1 hx with hx | hx
    ·
     exact h32 x hx
    simp only [Xf] at hx;subst hx;exact Qlg p)]
  ·
   simp only [Yo,Yg,Ya,X5]
  rw [<- X1,hd,List.drop_left];simp only [Yg,Yv,Yc]
 | [],_::_,_,_,_,_,hh,_,_,_,_,_,_=>hh.elim
 | _::_,[],_,_,_,_,hh,_,_,_,_,_,_=>hh.elim
theorem QLh {x y:List UInt8}{level:Nat} (h1:1<=level) (h9:level<=9):hdT (x++([66,90,104,Ys (48+level)]++y)) x.length 0 4=(level,0):=by
 have hg:∀ i,(x++([66,90,104,Ys (48+level)]++y)).getD (x.length+i) 0=([66,90,104,Ys (48+level)]++y).getD i 0:=by
  intro i;simp only [Y0];rw [Xq (by omega)]
  congr 2
  omega
 have hl:∀ i,i < 4->¬ ((x++([66,90,104,Ys (48+level)]++y)).length<=x.length+i):=by
  intro i hi;simp only [Ya,Yj];omega
 have hn:(Ys (48+level)).toNat=48+level:=ofNat_toNat (by omega);simp only [hdT,hg,Xt];rw [if_neg (hl 0 (by omega)),if_neg (hl 1 (by omega)),if_neg (hl 2 (by omega)),if_neg (hl 3 (by omega))];rw [if_neg (by unfold badT;simp),if_neg (by unfold badT;simp),if_neg (by unfold badT;simp),if_neg (by unfold badT;simp [hn];omega)];simp only [hg,Yv,List.getD_cons_succ,List.getD_cons_zero,hn]
 congr 1
 omega
theorem QE6 {s x y:List UInt8}{level:Nat}{most:Int}{bs:List (List Bool)} (h1:1<=level) (h9:level<=9) (hm:1<=most) (hm2:most<=min ((level:Int) * 100000) 262144) (hs:s.length<=262144) (hb:PBs (cutS s most) bs) :
  Qob (x++(Qbo (Qi5 level bs ((cutS s most).map Qa9))++y)) x.length=.ok (s,x.length+(Qbo (Qi5 level bs ((cutS s most).map Qa9))).length):=by
 obtain ⟨c1,c2,c3⟩:=Qqx hm s.length s (Yp _)
 obtain ⟨q,hq⟩:∃ q,Qbo (Qi5 level bs ((cutS s most).map Qa9))=[66,90,104,Ys (48+level)]++q:=by
  unfold Qi5;rw [Yg,Yg,Qlv _ _ (by rw [Qaw];simp),Qni];exact ⟨_,rfl⟩
 have hbits:=Qdk (Qi5 level bs ((cutS s most).map Qa9));have htl:=Qci (Qi5 level bs ((cutS s most).map Qa9))
 have hsl:(Qi5 level bs ((cutS s most).map Qa9)).length=32+bs.flatten.length+80:=by
  unfold Qi5;simp only [Ya,Qan,Qaw,Yj,Yt]
 generalize hT:Qbo (Qi5 level bs ((cutS s most).map Qa9))=T at *;have hhd:=QLh (x:=x) (y:=q++y) h1 h9;rw [<- Yg [66,90,104,_],<- hq] at hhd;rw [Qob,if_neg (by simp;omega),Yx,hhd,if_neg (by simp)]
 rw [QCk (r:=Yk (8 * (((Qi5 level bs ((cutS s most).map Qa9)).length+7) / 8) - (Qi5 level bs ((cutS s most).map Qa9)).length) false++Qap y) (by omega) (cutS s most) bs _ _ [] [] hb (fun p hp=>by
   obtain ⟨a1,a2,a3⟩:=c3 p hp;exact ⟨a1,by omega,by show _<=min ((level:Int) * 100000) 262144;omega⟩) (by rw [c1];simpa using hs) (by
   have:=Qu8 _ _ hb
   have:(cutS s most).length<=bs.flatten.length:=by
    have key:∀ (ps:List (List UInt8)) (bs:List (List Bool)),PBs ps bs->ps.length<=bs.flatten.length:=by
     intro ps
     induction ps with
     | nil=>intro bs _;simp
     | cons p ps ih =>
      intro bs h;cases bs with
      | nil=>exact h.elim
      | cons b bs =>
       have h2:=ih bs h.2;obtain ⟨t,ht⟩:=QCj h.1;rw [Yo,Ya,Yj,ht,Ya,Qan];omega
    exact key _ _ hb
   simp only [Ya];omega) (by simp only [Ya];omega) (by simp) ?_]
 ·
  rw [c1];simp only [Yc]
  congr 2
  omega
 rw [Qft,Qft,show 8 * (x.length+4)=(Qap x).length+32 by rw [Qaw];omega,<- X1,List.drop_left,hbits];unfold Qi5;simp only [Yg];rw [List.drop_left' (by rw [Qaw];rfl)];simp
theorem QCl (l:List UInt8) (most:Int):fit l most<=l.length/\((enc (l.take (fit l most))).length:Int)<=max most 0/\(most < 0->fit l most=0)/\(fit l most=l.length∨most < ((enc (l.take (fit l most+1))).length:Int)):=QLw l.length l most (Yp _)
theorem QIq (l:List UInt8) (most:Int) (i:Nat) (h:i < fit l most):((enc (l.take (i+1))).length:Int)<=most:=by
 obtain ⟨h1,h2,h3,_⟩:=QCl l most;have:=Qu6 l (fit l most - (i+1)) (i+1) (by omega);rw [show i+1+(fit l most - (i+1))=fit l most by omega] at this;omega
theorem QIr (l:List UInt8) (most:Int) (hm:I64 most) (w:World) (hs:l.length<=140737488355328) :
  Does Y3 20 #[Str l,.int .i64 most] w fun v w'=>Heap w [] w' []/\v=.int .i64 (fit l most):=by
 refine En [Str l,.int .i64 most] 30 Tryz.func20 ?_;obtain ⟨f1,f2,f3,f4⟩:=QCl l most;have f5:=QIq l most;have hel:=Qkg l;refine VS [0,1] ?_;refine VQ [0,1,10] fun K hK=>?_;refine MemK_call Ue ?_;refine Qs ?_;refine Yd (Qp8 l w hs) ?_;rintro v w2 ⟨hH,rfl⟩;(try refine Qs ?_);apply hK;clear hK;refine Vi (fun h=>?_) (fun h=>?_)
 ·
  simp only [decide_eq_true_eq] at h;refine VS [4] ?_;refine VC_ret (VX_ret1 rfl rfl ⟨hH,?_⟩);rcases f4 with f4 | f4
  ·
   rw [f4]
  by_cases hlt:fit l most < l.length
  ·
   have:=Qu6 l (l.length - (fit l most+1)) (fit l most+1) (by omega);rw [show fit l most+1+(l.length - (fit l most+1))=l.length by omega,List.take_length] at this;omega
  rw [show fit l most=l.length by omega]
 refine VC_skip ?_;simp only [decide_eq_false_iff_not] at h;refine VS [0,1,5] ?_;refine VB ?_;refine Qad [0,1,5] (fun m e w'=>∃ i:Nat,Is e [(0,Str l),(1,.int .i64 most),(5,.int .i64 i)]/\Heap w [] w' []/\i<=fit l most/\m=l.length - i) l.length ?_ ?_
 ·
  refine Qs ?_;exact ⟨0,rfl,hH,by omega,by omega⟩
 rintro m e w3 ⟨i,rfl,hH3,g1,rfl⟩;refine VQ [0,1,5,26] fun K hK=>?_
 have done:∀ w4,Heap w [] w4 []->i=fit l most->K [(0,Str l),(1,.int .i64 most),(5,.int .i64 i),(26,.bool false)] w4:=by
  intro w4 hH4 hi;apply hK;clear hK;refine Qaf rfl rfl (fun h=>by cases h) (fun _=>?_);refine Qag rfl ?_;refine VS [4] ?_;exact VC_ret (VX_ret1 rfl rfl ⟨hH4,by rw [hi]⟩)
 refine ⟨fun k1=>?_,fun k1=>done _ hH3 (by omega)⟩;refine ⟨Xb (by omega) (by omega),by omega,?_⟩;(try refine Qs ?_);refine MemK_call Ue ?_;refine Qs ?_;refine Yd (Qp8 (l.take (i+1)) w3 (by simp;omega)) ?_;rintro v w4 ⟨hH4,rfl⟩;(try refine Qs ?_);by_cases hi:i=fit l most
 ·
  have e:decide (((enc (l.take (i+1))).length:Int)<=most)=false:=by
   rw [decide_eq_false_iff_not,hi];rcases f4 with f4 | f4
   ·
    omega
   omega
  rw [e];exact done _ (hH3.call0 hH4) hi
 have e:decide (((enc (l.take (i+1))).length:Int)<=most)=true:=by
  rw [decide_eq_true_eq];exact f5 i (by omega)
 rw [e];apply hK;clear hK;refine Qaf rfl rfl (fun _=>?_) (fun h=>by cases h);refine VC_skip (Qac ?_);refine VS [0,1,5] ?_;refine Qaj (Qab ?_);refine Qs ?_;exact ⟨l.length - (i+1),by omega,i+1,rfl,hH3.call0 hH4,by omega,rfl⟩
set_option maxHeartbeats 4000000
set_option maxHeartbeats 8000000
theorem dpack13_does (s:List UInt8) (level most:Int) (w:World) (hl:I64 level) (hm:I64 most) (hs:s.length<=140737488355328) (hs2:s.length<=1000∨262144 < s.length) :
  Does Y3 6 #[Str s,.int .i64 level,.int .i64 most] w fun v w'=>Heap w [] w' []/\PackOk s level most v:=by
 refine En [Str s,.int .i64 level,.int .i64 most] 88 Tryz.func6 ?_;refine VS [0,1,2] ?_;refine VQ [0,1,2,32] fun K hK=>?_
 suffices out:∀ b:Bool,(b=true ↔ level < 1∨9 < level∨most < 1∨min (level * 100000) 262144 < most)->K [(0,Str s),(1,.int .i64 level),(2,.int .i64 most),(32,.bool b)] w by
  refine ⟨fun h1=>⟨fun h2=>⟨fun h3=>?_,fun h3=>out _ (by simp;omega)⟩,fun h2=>out _ (by simp;omega)⟩,fun h1=>out _ (by simp;omega)⟩;refine MemK_call Tryz.call18 ?_;refine Qs ?_;refine Yd (Qx0 level w (by omega)) ?_;rintro v w2 ⟨rfl,rfl⟩;(try refine Qs ?_);exact out _ (by simp;omega)
 intro b hb;apply hK;clear hK;refine Vi (fun h=>?_) (fun h=>VC_skip ?_)
 ·
  refine VS [6,7] ?_;refine VC_ret (Qav rfl rfl rfl ⟨Y8 w,?_⟩);unfold PackOk;rw [if_pos (hb.1 h)]
 have hg:¬ (level < 1∨9 < level∨most < 1∨min (level * 100000) 262144 < most):=fun hh=>by rw [hb.2 hh] at h;cases h
 clear hb h;refine VS [0,1,2,35] ?_;refine VD (fun h=>?_) (fun h=>VC_skip ?_)
 ·
  refine VS [6,7] ?_;refine VC_ret (Qav rfl rfl rfl ⟨Y8 w,?_⟩);unfold PackOk;rw [if_neg hg,if_pos (by omega)]
 have hsl:s.length<=262144:=by omega
 have hsk:s.length<=1000:=by omega
 clear h
 have hMk:∀ v,(∃ bs,PBs (cutS s most) bs/\v=.tuple #[Str (Qbo (Qi5 level.toNat bs ((cutS s most).map Qa9))),.int .i64 0])->PackOk s level most v:=fun v hv=>by
  unfold PackOk;rw [if_neg hg,if_neg (by omega)];exact hv
 obtain ⟨lv,rfl⟩:∃ n:Nat,level=n:=⟨level.toNat,by omega⟩;have hc0:(Ys (48+lv)).toNat=48+lv:=ofNat_toNat (by omega);rw [Yx] at hMk;have hml:1<=most/\most<=262144:=by omega
 have hcok:=Qqx hml.1 s.length s (Yp _);unfold Qi5 at hMk;obtain ⟨hd,hhd⟩:∃ hd,hd=Qap [66,90,104,Ys (48+lv)]:=⟨_,rfl⟩;have hhl:hd.length=32:=by rw [hhd,Qaw];rfl
 rw [<- hhd] at hMk;refine VQ [0,2,8] fun K hK=>?_;(repeat first | refine Qo ?_ | refine Qp ?_);rw [show ((48:Int)+lv) % 256=((Ys (48+lv)).toNat:Int) by omega];have hH0:=Y8 w;refine Qbb hH0 (Qar [Ys (48+lv)]) (xs:=[.tmp 38]) X9 sz5 rfl rfl rfl (by omega) ?_;refine Qs ?_;refine ⟨rfl,by simp [Yn],fun g w4 hH3=>?_⟩;(try refine Qs ?_);refine ⟨[Ys (48+lv)],hH3.readsBytes 0 rfl,?_⟩;(try refine Qs ?_);refine And.intro (by simp) ?_;refine MemK_call Tryz.call19 ?_;refine Qs ?_;refine Yd (Qt1 [66,90,104,Ys (48+lv)] (by simp) _) ?_;rintro v w4 ⟨a,c,hHo,rfl⟩;rw [<- hhd] at hHo ⊢;have hH4:=(hH3.call0 hHo).sub (G':=[Yu 3 1 a (bI hd).length c (Qat (bI hd))]) (by simp);clear hH0 hH3 hHo;(try refine Qs ?_);apply hK;clear hK;refine VS [0,2,8,9] ?_;have hH5:=hH4.nilRow 41 1;refine VB ?_;refine Qad [0,2,8,9] (fun m e w'=>∃ (rest:List UInt8) (ps:List (List UInt8)) (bs:List (List Bool)) (c c2:Nat) (a a2:Option Addr),Is e [(0,Str rest),(2,.int .i64 most),(8,.slice a (bI (hd++bs.flatten)).length c),(9,.slice a2 ps.length c2)]/\Heap w [] w' [Yu 41 1 a2 ps.length c2 (u32V (ps.map Qa9)),Yu 3 1 a (bI (hd++bs.flatten)).length c (Qat (bI (hd++bs.flatten)))]/\PBs ps bs/\ps++cutS rest most=cutS s most/\rest.length<=262144/\m=rest.length) s.length ?_ ?_
 ·
  refine Qs ?_;refine ⟨s,[],[],c,0,a,none,?_,?_,trivial,rfl,hsl,rfl⟩
  ·
   rw [Y2,Ym];rfl
  rw [Y2,Ym];exact hH5
 clear hH4 hH5;rintro m e w' ⟨rest,ps,bs,c,c2,a,a2,rfl,hH,hpb,hcut,hrl,rfl⟩
 have hpl:ps.length<=1000/\∀ p∈ps,p≠[]/\(enc p).length<=262144:=by
  have h1:=congrArg Y5 hcut;rw [Ya] at h1;refine ⟨by omega,fun p hp=>?_⟩;obtain ⟨x1,x2,x3⟩:=hcok.2.2 p (by rw [<- hcut];simp [hp]);exact ⟨x1,by omega⟩
 have hfl:=Qow ps bs hpb hpl.2;have hmu:ps.length * 20000000<=1000 * 20000000:=Nat.mul_le_mul_right _ hpl.1;refine VS [0,2,8,9,44] ?_;refine Vi (fun h=>?_) (fun h=>?_)
 ·
  simp only [decide_eq_true_eq] at h;obtain ⟨f1,f2,f3⟩:=Qlh h hml.1;have hcs:=Qqw h hml.1
  have hne:rest.take (fit rest most)≠[]:=fun e0=>by
   have:=congrArg Y5 e0;rw [Y7,Yt] at this;omega
  generalize hf:fit rest most=n at *;refine VC_skip ?_;refine Qac ?_;refine VQ [0,2,8,9,10] fun K hK=>?_;refine MemK_call Tryz.call20 ?_;refine Qs ?_;refine Yd (QIr rest most hm w' (by omega)) ?_;rintro v w2 ⟨hHf,rfl⟩;have hH2:=hH.call0 hHf;simp only [Yc] at hH2;clear hH hHf;rw [hf];(try refine Qs ?_);apply hK;clear hK;have hpt:(rest.take n).length<=262144:=by rw [Y7];omega
  refine VQ [0,2,8,9,10,11,12] fun K hK=>?_;refine Qp ?_;refine MemK_call Tryz.call21 ?_;refine Qs ?_;refine Yd (QA5 (rest.take n) (by omega) w2) ?_;rintro v w3 hP;unfold QA4 at hP;rw [if_neg hne,if_neg (by omega)] at hP;obtain ⟨σ,ab,cb,ho,hHp,rfl,hbl⟩:=hP;have hPB:PB (rest.take n) (Qc0 (rest.take n) σ):=⟨σ,ho,rfl⟩;have hbl2:=QLx hPB hne (by omega);generalize Qc0 (rest.take n) σ=B at *;have hH3:=hH2.call0 hHp;simp only [Yl] at hH3;clear hH2 hHp;(try refine Qs ?_);apply hK;clear hK;refine VS [0,2,8,9,10,11,12,56] ?_;refine Qaf rfl rfl (fun h=>by simp at h) (fun h=>VC_skip ?_);clear h;refine VQ [0,2,8,9,10] fun K hK=>?_;refine Qai ?_;refine Qs ?_;refine Qcg (o:=bI (hd++bs.flatten)) (t:=bI B) hH3 2 rfl Yh zi3 (Qbh B).symm (by rw [Qbh];exact Qaq (hH3.at 0 rfl)) (fun h=>by simp only [Ya,Qbh];omega) fun a' c' w4 hc' hH4=>?_;simp only [Ye,Yb] at hH4;rw [<- Qcr,Yg,show bs.flatten++B=(bs++[B]).flatten by simp] at hH4 ⊢;have hH5:=hH4.sub (Y1 _ _);clear hH3 hH4;(try refine Qs ?_);apply hK;clear hK;have hcb:=Qki (rest.take n);refine VQ [0,2,8,9,10] fun K hK=>?_;refine Qp ?_;refine MemK_call Tryz.call22 ?_;refine Qs ?_;refine Yd (Qsw (rest.take n) w4 (by omega)) ?_;rintro v w5 ⟨hHb,rfl⟩;have hH6:=hH5.call0 hHb;simp only [Yc] at hH6;clear hH5 hHb;(try refine Qs ?_);refine Qbb hH6 (u32V [Qa9 (rest.take n)]) (xs:=[.tmp 65]) Yr sz41 rfl rfl rfl (by omega) ?_;refine Qs ?_;refine ⟨rfl,by simp [Yn],fun g w4 hH7=>?_⟩;(try refine Qs ?_);refine Qai ?_;refine Qs ?_;refine Qbn (zs:=#[.int .u32 0]) (bytes:=4) hH7 1 rfl Yr (by kernel_rfl) rfl ⟨rfl,Qaq (hH7.at 0 rfl),41,Yr⟩ (by simp [u32V];rfl) (fun h=>by omega) fun a3 c3 w6 hc'' hH8=>?_;simp only [Ye,Yb] at hH8;rw [show u32V (ps.map Qa9)++u32V [Qa9 (rest.take n)]=u32V ((ps++[rest.take n]).map Qa9) by simp [u32V]] at hH8;have hH9:=hH8.sub (Y1 _ _);clear hH6 hH7 hH8;(try refine Qs ?_);apply hK;clear hK;refine VQ [0,2,8,9] fun K hK=>?_;refine Qp ?_;apply hK;clear hK;refine Qaj ?_;refine Qab ?_;refine Qs ?_;refine ⟨(rest.drop n).length,by rw [Yw];omega,rest.drop n,ps++[rest.take n],bs++[B],c',c3,a',a3,?_,by rw [Ya];exact hH9,Qu7 hPB _ _ hpb,by rw [<- hcut,hcs,Yg];rfl,by rw [Yw];omega,rfl⟩;rw [Ya];rfl
 simp only [decide_eq_false_iff_not,Decidable.not_not] at h;subst h;rw [Qml,Ym] at hcut;refine Qag rfl ?_
 have h32:∀ x∈ps.map Qa9,x < 4294967296:=fun x hx=>by
  obtain ⟨p,_,rfl⟩:=Xn.1 hx;exact Qki p
 have hstr:=Qfn (ps.map Qa9) h32;have hst:=fun w' hr=>Qun (ps.map Qa9) a2 c2 w' hr h32 (by rw [Xk];omega);rw [Xk] at hst;have hMk2:=hMk _ ⟨bs,by rw [<- hcut];exact hpb,rfl⟩;rw [<- hcut] at hMk2;have hl48:=Qan 48 25779555029136;have hl32:=Qan 32 (Qb6 (ps.map Qa9));have hb48:=fun w=>Qd0 25779555029136 48 (by omega) (by omega) w;have hb32:=fun w=>Qd0 (Qb6 (ps.map Qa9)) 32 (by omega) (by omega) w;generalize Qas 48 25779555029136=B48 at *;generalize Qas 32 (Qb6 (ps.map Qa9))=B32 at *;generalize Qb6 (ps.map Qa9)=crc at *;have hi48:(bI B48).length=48:=by rw [Qbh,hl48]
 have hi32:(bI B32).length=32:=by rw [Qbh,hl32]
 refine VQ [8,9,13] fun K hK=>?_;refine MemK_call Xs ?_;refine Qs ?_;refine Yd (hb48 w') ?_;rintro v w3 ⟨g48,hHq,rfl⟩;have hH2:=hH.call0 hHq;simp only [Yl] at hH2;clear hH hHq;(try refine Qs ?_);apply hK;clear hK;refine VQ [8,13,15] fun K hK=>?_;refine MemK_call Tryz.call24 ?_;refine Qs ?_;refine Yd (hst w3 (Qaq (hH2.at 1 rfl))) ?_;rintro v w4 ⟨rfl,rfl⟩;(try refine Qs ?_);rw [show ((crc:Int) % 18446744073709551616)=crc by omega];refine MemK_call Xs ?_;refine Qs ?_;refine Yd (hb32 w4) ?_;rintro v w5 ⟨g32,hHq,rfl⟩;have hH3:=hH2.call0 hHq;simp only [Yl] at hH3;clear hH2 hHq;(try refine Qs ?_);apply hK;clear hK;have hfl2:(hd++bs.flatten).length<=100000000000:=by rw [Ya];omega
 generalize hd++bs.flatten=O at *;refine VQ [6,7] fun K hK=>?_;refine Qai ?_;refine Qs ?_;refine Qcg (o:=bI O) (t:=bI B48) hH3 3 rfl Yh zi3 hi48.symm (by rw [hi48];exact Qaq (hH3.at 1 rfl)) (fun h=>by simp only [Ya,Qbh];omega) fun a4 c4 w6 hc' hH4=>?_;simp only [Ye,Yb] at hH4;rw [<- Qcr] at hH4 ⊢;(try refine Qs ?_);refine Qai ?_;refine Qs ?_;refine Qcg (o:=bI (O++B48)) (t:=bI B32) hH4 3 rfl Yh zi3 hi32.symm (by rw [hi32];exact Qaq (hH4.at 0 rfl)) (fun h=>by simp only [Ya,Qbh];omega) fun a5 c5 w7 hc' hH5=>?_;simp only [Ye,Yb] at hH5;rw [<- Qcr,Qbh (O++B48++B32)] at hH5 ⊢;(try refine Qs ?_);refine MemK_call Tryz.call25 ?_;refine Qs ?_;refine Yd (Qs5 (O++B48++B32) (by simp only [Ya];omega) a5 c5 w7 (Qaq (hH5.at 3 rfl))) ?_;rintro v w8 ⟨hHt,rfl⟩;have hH6:=hH5.call0 hHt;(try refine Qs ?_);apply hK;clear hK;exact VC_ret (Qav rfl rfl rfl ⟨hH6.sub (by simp),hMk2⟩)
def Pk (s T:List UInt8):Prop:=∃ (level:Nat) (most:Int) (bs:List (List Bool)),(1<=level/\level<=9/\1<=most/\most<=min ((level:Int) * 100000) 262144/\s.length<=262144)/\PBs (cutS s most) bs/\T=Qbo (Qi5 level bs ((cutS s most).map Qa9))
theorem PackOk.pk {s:List UInt8}{level most:Int}{v:Value} (h:PackOk s level most v) (h1:¬ (level < 1∨9 < level∨most < 1∨min (level * 100000) 262144 < most)) (hs:s.length<=262144) :
  ∃ T,Pk s T/\v=.tuple #[Str T,.int .i64 0]:=by
 rw [PackOk,if_neg h1,if_neg (by omega)] at h;obtain ⟨bs,hb,rfl⟩:=h;exact ⟨_,⟨level.toNat,most,bs,by omega,hb,rfl⟩,rfl⟩
theorem QIs (level:Nat) (bs:List (List Bool)) (sums:List Nat):(Qi5 level bs sums).length=112+bs.flatten.length:=by
 unfold Qi5;simp only [Ya,Qan,Qaw,Yj,Yt];omega
theorem Pk.len {s T:List UInt8} (h:Pk s T):14<=T.length/\T.length<=15+s.length * 2500000:=by
 obtain ⟨level,most,bs,hx,hb,rfl⟩:=h;obtain ⟨c1,c2,c3⟩:=Qqx (most:=most) (by omega) s.length s (Yp _)
 have:=Qow _ _ hb fun p hp=>by
  obtain ⟨a,b,c⟩:=c3 p hp;exact ⟨a,by omega⟩
 rw [Qci,QIs];omega
theorem Pk.take {s T:List UInt8} (h:Pk s T) (x y:List UInt8):Qob (x++(T++y)) x.length=.ok (s,x.length+T.length):=by
 obtain ⟨level,most,bs,hx,hb,rfl⟩:=h;exact QE6 hx.1 hx.2.1 hx.2.2.1 hx.2.2.2.1 hx.2.2.2.2 hb
def Pks:List (List UInt8)->List (List UInt8)->Prop
 | [],[]=>True
 | s::ss,T::Ts=>Pk s T/\Pks ss Ts
 | _,_=>False
theorem QA7:∀ (ss Ts:List (List UInt8)),Pks ss Ts->Ts.flatten.length<=15 * ss.length+ss.flatten.length * 2500000/\14 * ss.length<=Ts.flatten.length
 | [],[],_=>by simp
 | s::ss,T::Ts,hh=>by
  have h1:=hh.1.len;have h2:=QA7 ss Ts hh.2;simp only [Yo,Ya,Yj];omega
 | [],_::_,hh=>hh.elim
 | _::_,[],hh=>hh.elim
theorem QCm:∀ (ss Ts:List (List UInt8)) (x out:List UInt8) (f:Nat),Pks ss Ts->ss≠[]->out.length+ss.flatten.length<=262144->ss.length<=f ->
  goU (x++Ts.flatten) f x.length out=.ok (out++ss.flatten)
 | [],_,_,_,_,_,h,_,_=>absurd rfl h
 | s::ss,[],_,_,_,hh,_,_,_=>hh.elim
 | s::ss,T::Ts,x,out,f,hh,_,ho,hf=>by
  obtain ⟨f,rfl⟩:∃ k,f=k+1:=⟨f - 1,by simp only [Yj] at hf;omega⟩;have h1:=hh.1.len;have h2:=QA7 ss Ts hh.2;simp only [Yo,Ya,Yj] at ho hf ⊢;rw [goU,hh.1.take x Ts.flatten];simp only;rw [if_neg (by omega)];cases ss with
  | nil =>
   cases Ts with
   | nil=>rw [if_pos (by simp)];simp
   | cons T2 Ts=>exact hh.2.elim
  | cons s2 ss =>
   simp only [Yj,Yo,Ya] at h2 hf ho;rw [if_neg (by simp only [Ya];omega)];have:=QCm (s2::ss) Ts (x++T) (out++s) f hh.2 (by simp) (by simp only [Ya,Yo];omega) (by rw [Yj];omega);rw [Ya,Yg,Yg] at this;exact this
theorem Qqy {ss Ts:List (List UInt8)} (h:Pks ss Ts) (hn:ss≠[]) (hl:ss.flatten.length<=262144):Qnc Ts.flatten=.ok ss.flatten:=by
 have h2:=QA7 ss Ts h;exact QCm ss Ts [] [] _ h hn (by simpa using hl) (by omega)
theorem QE7 {s T:List UInt8} (h:Pk s T) (hl:s.length<=262144):Qnc T=.ok s:=by
 have:=Qqy (ss:=[s]) (Ts:=[T]) ⟨h,trivial⟩ (by simp) (by simpa using hl);simpa using this
end Go.Proofs.YthcdlcdnchaoiaaGreat
namespace Go.Eng
open Go
def Res.obj (l:Nat) (o:Obj):Res:=⟨[l],fun w=>w.heap[l]? = some o,fun _ _ h hh=>(h l (by simp)).trans hh⟩
theorem Heap.newObj {w0 w:World}{B:List Nat}{G:List Res} (h:Heap w0 B w G) (o:Obj):Heap w0 B (w.alloc o) (Res.obj w.heap.size o::G) :=
 h.new _ (heap_alloc_new w o) (by simp [Res.obj])
theorem QIt {w:World}{l:Nat}{o:Obj} (h:l < w.heap.size):(w.putObj l o).heap[l]? = some o:=by
 simp [World.putObj,h]
theorem QIu {w:World}{l k:Nat}{o:Obj} (h:k≠l):(w.putObj l o).heap[k]? = w.heap[k]? := by
 simp only [World.putObj];rw [Array.getElem?_setIfInBounds_ne (by omega)]
theorem Qqz {w:World}{l:Nat}{o:Obj}:(w.putObj l o).heap.size=w.heap.size:=by simp [World.putObj]
theorem Heap.put {w0 w:World}{B:List Nat}{G:List Res}{l:Nat}{o:Obj} (h:Heap w0 B w (Res.obj l o::G)) (o':Obj):Heap w0 B (w.putObj l o') (Res.obj l o'::G):=by
 have hf:=(h.foot _ (List.mem_cons_self ..) l (by simp [Res.obj])).2
 have hh:Heap w [l] (w.putObj l o') [Res.obj l o'] :=
  ⟨⟨rfl,rfl,rfl,by rw [Qqz];exact Yp _,fun k _ hk=>QIu (by simpa using hk)⟩,
   fun r hr=>by simp at hr;subst hr;exact QIt hf,
   fun r hr b hb=>by simp at hr;subst hr;simp [Res.obj] at hb;subst hb;exact ⟨.inl (by simp),by rw [Qqz];exact hf⟩,
   List.pairwise_singleton _ _⟩
 have:=Heap.call1 0 h rfl hh;simpa using this
end Go.Eng
namespace Go.Proofs.YthcdlcdnchaoiaaGreat
open Go Go.Eng
set_option maxHeartbeats 4000000
abbrev QIv (l:Nat):Value:=.func (.yield l) #[] #[]
def QIw (l gs gm:Nat) (most:Int) (w0:World) (B:List Nat) (PI:List UInt8->List Res->Prop):Prop :=
 ∀ rest G w,rest≠[]->PI rest G->Heap w0 B w (Yf gs 9 [Str rest]::Yf gm 3 [.int .i64 most]::G) ->
  YieldK Y3 l [Str (rest.take (fit rest most))] w fun v w'=>v=.bool true/\∃ G',PI (rest.drop (fit rest most)) G'/\Heap w0 B w' (Yf gs 9 [Str rest]::Yf gm 3 [.int .i64 most]::G')
theorem Qu9 (l gs gm:Nat) (most:Int) (w0:World) (B:List Nat) (PI:List UInt8->List Res->Prop) (hR:QIw l gs gm most w0 B PI) (s:List UInt8) (hs:s.length<=140737488355328) (hm:1<=most/\most<=262144)
  (hfit:∀ t:List UInt8,t≠[]->1<=fit t most/\fit t most<=t.length) (G:List Res) (hG:PI s G) (w:World) (hH:Heap w0 B w (Yf gs 9 [Str s]::Yf gm 3 [.int .i64 most]::G)) :
  DoesP Y3 27 #[QIv l,.pointer (some ⟨gs,0,none⟩),.pointer (some ⟨gm,0,none⟩)] w
   (fun _ w'=>∃ G',PI [] G'/\Heap w0 B w' (Yf gs 9 [Str []]::Yf gm 3 [.int .i64 most]::G')) noPn:=by
 refine Qim (args:=[QIv l,.pointer (some ⟨gs,0,none⟩),.pointer (some ⟨gm,0,none⟩)]) 23 Tryz.func27 rfl rfl (of_decide_eq_true rfl) ?_;simp only [Env.ofArgs]
 ((repeat with_reducible refine Qdg ?_);refine Qog ?_)
 refine QJw [0,1,2] (fun m e w=>∃ (rest:List UInt8) (G:List Res),Is e [(0,QIv l),(1,.pointer (some ⟨gs,0,none⟩)),(2,.pointer (some ⟨gm,0,none⟩))]/\PI rest G/\Heap w0 B w (Yf gs 9 [Str rest]::Yf gm 3 [.int .i64 most]::G)/\rest.length<=140737488355328/\m=rest.length) s.length ?_ ?_
 ·
  refine Qs ?_;exact ⟨s,G,rfl,hG,hH,hs,rfl⟩
 clear hG hH hs;rintro m e w ⟨rest,G,rfl,hG,hH,hs,rfl⟩;refine GQ [0,1,2,6] fun K hK=>?_;refine ⟨_,Qah (hH.at 0 rfl) rfl,?_⟩;(try refine Qs ?_);apply hK;clear hK;(repeat with_reducible refine Qdg ?_);refine Qf6 rfl rfl (fun h=>?_) (fun h=>?_)
 ·
  have hne:rest≠[]:=by
   rintro rfl;simp at h
  clear h;obtain ⟨hf1,hf2⟩:=hfit rest hne;refine Qh2 ?_
  ((repeat with_reducible refine Qdg ?_);refine Qog ?_)
  refine GQ [0,1,2,4] fun K hK=>?_;refine ⟨_,Qah (hH.at 0 rfl) rfl,?_⟩;(try refine Qs ?_);refine ⟨_,Qah (hH.at 1 rfl) rfl,?_⟩;(try refine Qs ?_);refine MemK_call Tryz.call28 ?_;refine Qs ?_;refine Yd (QKw rest most (Xb (by omega) (by omega)) w (by omega)) ?_;rintro v w1 ⟨rfl,rfl⟩;(try refine Qs ?_);apply hK;clear hK;(repeat with_reducible refine Qdg ?_);(repeat with_reducible refine Qdg ?_);refine Qfi [0,1,2,4,19] [7] (by kernel_rfl) fun K hK=>?_;simp only [go_sem,List.take_succ_cons,Xx,List.drop_succ_cons,List.drop_zero,↓reduceIte,reduceEqDiff];refine ⟨fun _=>⟨_,Qah (hH.at 0 rfl) rfl,?_⟩,fun h=>by omega⟩;(try refine Qs ?_);refine Qp ?_;(try refine Qs ?_);refine Qy8 ?_;refine Qs ?_;refine ⟨l,rfl,(hR rest G w1 hne hG hH).mono ?_⟩;rintro v w2 ⟨rfl,G',hG',hH2⟩;clear hH hG;(try refine Qs ?_);apply hK;clear hK;(repeat with_reducible refine Qdg ?_);refine Qf6 rfl rfl (fun h=>by simp at h) (fun h=>Qh2 ?_);clear h;refine GQ [0,1,2] fun K hK=>?_;refine ⟨_,Qah (hH2.at 0 rfl) rfl,?_⟩;(try refine Qs ?_);refine Qp ?_;(try refine Qs ?_);refine Qaa ?_;refine Qs ?_;refine Qae hH2 0 (vs:=[Str (rest.drop (fit rest most))]) rfl rfl (by kernel_rfl) (by simp) (by simp;rfl) fun w3 hH3=>?_;(try refine Qs ?_);apply hK;clear hK;refine QF4 ?_;refine QJv ?_;refine Qs ?_;refine ⟨(rest.drop (fit rest most)).length,?_,_,G',rfl,hG',hH3,?_,rfl⟩ <;> rw [Yw] <;> omega
 have hne:rest=[]:=by
  simpa using h
 subst hne;refine QNk rfl ?_;refine Qr5 (nil0 (Qgl rfl ⟨G,hG,hH⟩))
set_option maxHeartbeats 4000000
theorem QE8 (s:List UInt8) (most:Int) (w:World) :
  Does Y3 9 #[Str s,.int .i64 most] w fun v w'=>∃ gs gm,Heap w [] w' [Yf gs 9 [Str s],Yf gm 3 [.int .i64 most]] /\
   v=.func (.func 27) #[] #[.pointer (some ⟨gs,0,none⟩),.pointer (some ⟨gm,0,none⟩)]:=by
 refine En [Str s,.int .i64 most] 6 Tryz.func9 ?_;refine VQ [2,3] fun K hK=>?_;refine Qch ?_;refine Qs ?_;have hH:=(Y8 w).box 9 [Str s];generalize w.alloc (Yz [Str s].toArray 9)=w1 at *;generalize w.heap.size=gs at *;refine Qch ?_;refine Qs ?_;have hH1:=hH.box 3 [.int .i64 most];generalize w1.alloc (Yz [Ui .i64 most].toArray 3)=w2 at *;generalize w1.heap.size=gm at *;clear hH;apply hK;clear hK;refine VS [4] ?_;exact VC_ret (VX_ret1 rfl rfl ⟨gs,gm,hH1.perm (.swap _ _ _),rfl⟩)
set_option maxHeartbeats 4000000
theorem QIx {C:Ctx}{e:Env}{w:World}{t u:Tmp}{T U:TypeId}{a b:Addr} (hr:C.fn.results=#[.cell t T,.cell u U]) (ht:e.find? t=some (.pointer (some a))) (hu:e.find? u=some (.pointer (some b)))
  (h:Qcj C.P T (.pointer (some a)) w fun v=>Qcj C.P U (.pointer (some b)) w fun x=>C.F (.tuple #[v,x]) w):VX C [] .ret e w:=by
 intro ac n ha;obtain ⟨v,hv,r1⟩:=Qdn h;obtain ⟨x,hv,r2⟩:=Qdn hv;refine ⟨ha.defers,.tuple #[v,x],?_,_,w,n,rfl,rfl,hv⟩;have h1:=ha.at_ t _ ht;rw [Array.getD_eq_getD_getElem?] at h1;have h2:=ha.at_ u _ hu;rw [Array.getD_eq_getD_getElem?] at h2;have q1:=r1 (w.drewN n) (Ext.drewN w n);have q2:=r2 (w.drewN n) (Ext.drewN w n);simp [results,hr,h1,h2,asAddr,q1,q2]
theorem QCn {w1:World}{N g6 g7:Nat}{x y:Value}{F:Value->World->Prop} (h6:(Yf g6 9 [x]).holds w1) (h7:(Yf g7 23 [y]).holds w1) (hF:F (.tuple #[x,y]) w1) :
  VX ⟨Y3,Tryz.f5,F,N⟩ [] .ret [(6,pt g6),(7,pt g7)] w1:=by
 refine QIx rfl rfl rfl ?_;refine Qg4 h6 (by kernel_rfl) (by kernel_rfl) ?_;exact Qg4 h7 (by kernel_rfl) (by kernel_rfl) hF
def QPq (s:List UInt8) (most:Int) (hd:List Bool) (r:Loop) (dr g6 g7 g8 g9:Nat) (rest:List UInt8) (G:List Res):Prop :=
 ∃ (ps:List (List UInt8)) (bs:List (List Bool)) (ga c1:Nat) (a2:Option Addr) (c2:Nat),PBs ps bs/\ps++cutS rest most=cutS s most/\rest.length<=262144 /\
  G=[Res.obj (dr+1) (.loop r),Res.obj dr (.deferred (some [])),Yf g9 35 [.slice a2 ps.length c2],Yu 41 1 a2 ps.length c2 (u32V (ps.map Qa9)),
   Yf g8 34 [.slice (some ⟨ga,0,none⟩) (ps.length+1) c1],Yu 33 2 (some ⟨ga,0,none⟩) (ps.length+1) c1 (Qdd (hd::bs)),Yf g7 23 [.int .i64 0],Yf g6 9 [.string ⟨#[]⟩]]
theorem pack_does (s:List UInt8) (level most:Int) (w:World) (hl:I64 level) (hm:I64 most) (hs:s.length<=140737488355328) :
  Does Y3 5 #[Str s,.int .i64 level,.int .i64 most] w fun v w'=>Heap w [] w' []/\PackOk s level most v:=by
 refine Qpc (args:=[Str s,.int .i64 level,.int .i64 most]) 87 Tryz.func5 rfl rfl (of_decide_eq_true rfl) ?_;simp only [Env.ofArgs,Xt];refine GQ [0,1,2,6,7] fun K hK=>?_;refine Qao (.string ⟨#[]⟩) (by kernel_rfl) ?_;refine Qs ?_;have hH:=(Y8 w).box 9 [.string ⟨#[]⟩];generalize w.alloc (Yz [Y4 ⟨#[]⟩].toArray 9)=w1 at *;generalize w.heap.size=g6 at *;refine Qao (.int .i64 0) (by kernel_rfl) ?_;refine Qs ?_;have hH2:Heap w [] _ _:=hH.box 23 [.int .i64 0];generalize w1.alloc (Yz [Ui Ud 0].toArray 23)=w2 at *;generalize w1.heap.size=g7 at *;apply hK;clear hK;clear hH
 have bad:∀ (e:Int) {N:Nat}{w4:World},PackOk s level most (.tuple #[Str [],.int .i64 e])->Heap w [] w4 [Yf g7 23 [.int .i64 e],Yf g6 9 [Str []]] ->
   VX ⟨Y3,Tryz.f5,fun v w'=>Heap w [] w' []/\PackOk s level most v,N⟩ [] .ret [(6,pt g6),(7,pt g7)] w4 :=
  fun e N w4 hp hh=>QCn (hh.at 1 rfl) (hh.at 0 rfl) ⟨hh.sub (by simp),hp⟩
 refine GQ [0,1,2,6,7,31] fun K hK=>?_
 suffices out:∀ b:Bool,(b=true ↔ level < 1∨9 < level∨most < 1∨min (level * 100000) 262144 < most)->K [(0,Str s),(1,.int .i64 level),(2,.int .i64 most),(6,pt g6),(7,pt g7),(31,.bool b)] w2 by
  refine ⟨fun h1=>⟨fun h2=>⟨fun h3=>?_,fun h3=>out _ (by simp;omega)⟩,fun h2=>out _ (by simp;omega)⟩,fun h1=>out _ (by simp;omega)⟩;refine MemK_call Tryz.call8 ?_;refine Qs ?_;refine Yd (Qxy level w2 (by omega)) ?_;rintro v w3 ⟨rfl,rfl⟩;(try refine Qs ?_);exact out _ (by simp;omega)
 intro b hb;apply hK;clear hK;(repeat with_reducible refine Qdg ?_);refine Qf6 rfl rfl (fun h=>?_) (fun h=>Qh2 ?_)
 ·
  have hbad:=hb.1 h;refine GQ [6,7] fun K hK=>?_;refine Qaa ?_;refine Qs ?_;refine Qae hH2 1 (vs:=[Str []]) rfl rfl (by kernel_rfl) (by simp) (by simp [Yq]) fun w3 hH3=>?_;(try refine Qs ?_);refine Qaa ?_;refine Qs ?_;refine Qae hH3 0 (vs:=[.int .i64 2]) rfl rfl (by kernel_rfl) (by simp) (by simp [Yq]) fun w4 hH4=>?_;(try refine Qs ?_);apply hK;clear hK;exact Qv6 (ret0 (bad 2 (by rw [PackOk,if_pos hbad]) hH4))
 have hg:¬ (level < 1∨9 < level∨most < 1∨min (level * 100000) 262144 < most):=fun hh=>by rw [hb.2 hh] at h;cases h
 clear hb h;refine GS [0,1,2,6,7,34] ?_;(repeat with_reducible refine Qdg ?_);refine Qf6 rfl rfl (fun h=>?_) (fun h=>Qh2 ?_)
 ·
  simp only [decide_eq_true_eq] at h;refine GQ [6,7] fun K hK=>?_;refine Qaa ?_;refine Qs ?_;refine Qae hH2 1 (vs:=[Str []]) rfl rfl (by kernel_rfl) (by simp) (by simp [Yq]) fun w3 hH3=>?_;(try refine Qs ?_);refine Qaa ?_;refine Qs ?_;refine Qae hH3 0 (vs:=[.int .i64 3]) rfl rfl (by kernel_rfl) (by simp) (by simp [Yq]) fun w4 hH4=>?_;(try refine Qs ?_);apply hK;clear hK;exact Qv6 (ret0 (bad 3 (by rw [PackOk,if_neg hg,if_pos (by omega)]) hH4))
 simp only [decide_eq_false_iff_not] at h;have hsl:s.length<=262144:=by omega
 clear h bad;obtain ⟨lv,rfl⟩:∃ n:Nat,level=n:=⟨level.toNat,by omega⟩;have hc0:(Ys (48+lv)).toNat=48+lv:=ofNat_toNat (by omega);obtain ⟨hd,hhd⟩:∃ hd,hd=Qap [66,90,104,Ys (48+lv)]:=⟨_,rfl⟩
 have hbv:Qa7 hd=[Str [66,90,104,Ys (48+lv)],.int .i64 32]:=by
  unfold Qa7;rw [hhd,Qni,Qaw];rfl
 refine GQ [0,2,6,7,8] fun K hK=>?_;(repeat first | refine Qo ?_ | refine Qp ?_);rw [show ((48:Int)+lv) % 256=((Ys (48+lv)).toNat:Int) by omega];refine Qbb hH2 (Qar [Ys (48+lv)]) (xs:=[.tmp 37]) X9 sz5 rfl rfl rfl (by omega) ?_;refine Qs ?_;refine ⟨rfl,by simp [Yn],fun g w4 hH3=>?_⟩;(try refine Qs ?_);refine ⟨[Ys (48+lv)],hH3.readsBytes 0 rfl,?_⟩;(try refine Qs ?_);refine And.intro (by simp) ?_;refine Qeq hH3 2 (Qa7 hd) (xs:=[.tmp 41]) Yi sz33 rfl rfl rfl (by omega) (by omega) ?_;refine Qs ?_;refine ⟨by rw [hbv];simp [Yn],by simp [Yn],fun ga w4 hH4=>?_⟩;(try refine Qs ?_);refine Qao (.slice none 0 0) (by kernel_rfl) ?_;refine Qs ?_;have hH5:=hH4.box 34 [.slice none 0 0];generalize w4.alloc (Yz [Xj none 0 0].toArray 34)=w5 at *;generalize w4.heap.size=g8 at *;refine Qaa ?_;refine Qs ?_;refine Qae hH5 0 (vs:=[.slice (some ⟨ga,0,none⟩) 1 1]) rfl rfl (by kernel_rfl) (by simp) (by simp [Yq]) fun w6 hH6=>?_;(try refine Qs ?_);apply hK;clear hK;have hH6:=hH6.sub (.cons_cons _ (.cons_cons _ (.cons _ (.refl _))));clear hH2 hH3 hH4 hH5;refine GQ [0,2,6,7,8,9] fun K hK=>?_;refine Qao (.slice none 0 0) (by kernel_rfl) ?_;refine Qs ?_;have hH7:=(hH6.nilRow 41 1).box 35 [.slice none 0 0];generalize w6.alloc (Yz [Xj none 0 0].toArray 35)=w7 at *;generalize w6.heap.size=g9 at *;apply hK;clear hK;refine GQ [6,7,8,9,45] fun K hK=>?_;refine MemK_call Tryz.call9 ?_;refine Qs ?_;refine Yd (QE8 s most w7) ?_;rintro v w8 ⟨gs,gm,hHp,rfl⟩;have hH8:=hH7.call0 hHp;clear hHp hH7 hH6;have hH9:Heap w [] w8 [Yf gs 9 [Str s],Yf gm 3 [.int .i64 most],Yf g9 35 [.slice none 0 0],Yu 41 1 none 0 0 [],Yf g8 34 [.slice (some ⟨ga,0,none⟩) 1 1],Yu 33 2 (some ⟨ga,0,none⟩) 1 1 (Qa7 hd),Yf g7 23 [.int .i64 0],Yf g6 9 [.string ⟨#[]⟩]]:=hH8;clear hH8;(try refine Qs ?_);apply hK;clear hK
 ((repeat with_reducible refine Qdg ?_);refine Qog ?_)
 refine Qwd rfl rfl (fun _ _=>rfl) fun r r1 r2 r3 r4 r5 r6 r7 r8=>?_;generalize hdr:w8.heap.size=dr at *;have hH10:=(hH9.newObj (.deferred (some []))).newObj (.loop r);rw [show (w8.alloc (.deferred (some []))).heap.size=dr+1 by rw [<- hdr];show (w8.heap.push _).size=_;rw [Array.size_push],hdr] at hH10;clear r6;generalize (w8.alloc (Obj.deferred (some []))).alloc (Uf r)=wl at *;have hH11:=(hH10.front 3 rfl).front 3 rfl;clear hH10 hH9;refine (Qu9 (dr+1) gs gm most w [] (QPq s most hd r dr g6 g7 g8 g9) ?_ s hs ⟨by omega,by omega⟩ (fun t ht=>⟨(Qlh ht (by omega)).1,(Qlh ht (by omega)).2.1⟩) _ ⟨[],[],ga,1,none,0,trivial,rfl,hsl,by simp [Qdd,u32V]⟩ wl hH11).mono ?_ (fun _ _ h=>h)
 ·
  clear hH11 hdr w8 wl;rintro rest G w9 hne ⟨ps,bs,ga,c1,a2,c2,hpb,hcut,hrl,rfl⟩ hHr;obtain ⟨f1,f2,f3⟩:=Qlh hne (show 1<=most by omega);have hcs:=Qqw hne (show 1<=most by omega)
  have hpl:ps.length<=262144:=by
   have h1:=congrArg Y5 hcut;have h2:=(Qqx (show 1<=most by omega) s.length s (Yp _)).2.1;rw [Ya] at h1;omega
  have hbl:=Qu8 _ _ hpb;have hdl:(rest.drop (fit rest most)).length<=262144:=by rw [Yw];omega
  have hp1:(rest.take (fit rest most)).length<=262144:=by rw [Y7];omega
  have hp2:rest.take (fit rest most)≠[]:=by
   intro h0;have:=congrArg Y5 h0;rw [Y7,Yt] at this;omega
  generalize rest.take (fit rest most)=part at *;generalize rest.drop (fit rest most)=rest2 at *;rw [hcs,List.append_cons] at hcut;clear hcs f1 f2 hne hrl;refine Qwe (N:=87) (e:=(46,Str part)::[(6,pt g6),(7,pt g7),(8,pt g8),(9,pt g9),(45,.func (.func 27) #[] #[pt gs,pt gm])]) (hHr.at 2 rfl) r1 r7 (by rw [r3];rfl) ?_ ?_
  ·
   intro t v ht;rw [r3,show (#[46].zip [Str part].toArray)=#[(46,Str part)] by first | rfl | simp | (apply Array.ext';simp)]
   show (r.tmps.setIfInBounds 46 (Str part)).getD t undef=v
   rw [Env.find?] at ht;split at ht
   ·
    rename_i h46;subst h46;cases ht;rw [Array.getD_eq_getD_getElem?,Array.getElem?_setIfInBounds_self_of_lt (by rw [r7];decide)];rfl
   rename_i h46;rw [Array.getD_eq_getD_getElem?,Array.getElem?_setIfInBounds_ne (by exact fun h=>h46 h.symm),<- Array.getD_eq_getD_getElem?];exact r8 t v ht
  refine (congrArg (fun c=>VG _ [.code c] _ _) r4).mpr ?_;refine GS [6,7,8,9,10] ?_;refine Qr5 fun a n hf=>⟨rfl,_,_,n,rfl,hf,hHr.at 2 rfl,?_⟩;have hHb:=(hHr.front 2 rfl).put (.loop { r with state:=.busy });generalize w9.putObj (dr+1) (Uf { r with state:=.busy })=wb at *;clear hHr hf a n w9;refine (congrArg (fun c=>VG _ [.code c] _ _) r5).mpr ?_;clear r3 r4 r5 r7 r8
  ((repeat with_reducible refine Qdg ?_);refine Qog ?_)
  refine GQ [6,7,8,9,10,11,12] fun K hK=>?_;refine MemK_call Tryz.call10 ?_;refine Qs ?_;refine Yd (Qrr part (by omega) wb) ?_;rintro v w1 ⟨hHm,hv⟩;have hHc:=hHb.call0 hHm;simp only [Yc] at hHc;clear hHm hHb;rw [Qqs,if_neg hp2,if_neg (by omega)] at hv;obtain ⟨σ,ho,rfl⟩:=hv;have hPB:PB part (Qc0 part σ):=⟨σ,ho,rfl⟩;generalize Qc0 part σ=B at *;(try refine Qs ?_);refine Qao (.agg #[.string ⟨#[]⟩,.int .i64 0]) (by kernel_rfl) ?_;refine Qs ?_;have hHd:=hHc.box 33 [.string ⟨#[]⟩,.int .i64 0];generalize w1.alloc (Yz [Y4 ⟨#[]⟩,.int .i64 0].toArray 33)=w2 at *;generalize w1.heap.size=g11 at *;refine Qaa ?_;refine Qs ?_;refine Qae hHd 0 (vs:=Qa7 B) rfl rfl (by kernel_rfl) (by simp [Qa7]) (Qb8 _) fun w3 hHe=>?_;clear hHc hHd;(try refine Qs ?_);apply hK;clear hK;refine GS [6,7,8,9,10,11,53] ?_;(repeat with_reducible refine Qdg ?_);refine Qf6 rfl rfl (fun h=>by simp at h) (fun h=>Qh2 ?_);clear h;refine GQ [6,7,8,9,10] fun K hK=>?_;refine ⟨_,Qah (hHe.at 7 rfl) rfl,?_⟩;(try refine Qs ?_);refine ⟨Qa7 B,⟨rfl,Qay (hHe.at 0 rfl)⟩,?_⟩;(try refine Qs ?_);refine Qeq hHe 2 (Qa7 B) (xs:=[.tmp 56]) Yi sz33 rfl rfl rfl (by omega) (by omega) ?_;refine Qs ?_;refine ⟨by simp [Qa7,Yn],by simp [Qa7,Yn],fun gl w4 hHf=>?_⟩;(try refine Qs ?_);refine Qai ?_;refine Qs ?_;refine Qbn (zs:=#[.string ⟨#[]⟩,.int .i64 0]) (bytes:=24) hHf 9 rfl Yi (by kernel_rfl) rfl ⟨rfl,Qaq (hHf.at 0 rfl),33,Yi⟩ (Qb8 _) (fun h=>by omega) fun a' cap' w5 hc' hHg=>?_;(try refine Qs ?_);refine Qaa ?_;refine Qs ?_;refine Qae hHg 8 (vs:=[.slice a' (ps.length+1+1) cap']) rfl rfl (by kernel_rfl) (by simp) (by simp [Yq]) fun w6 hHh=>?_;simp only [Ye,Yb] at hHh;rw [Qet,Yv] at hHh
  have hHi:Heap w [] w6 [Res.obj (dr+1) (.loop { r with state:=.busy }),Yf gs 9 [Str rest],Yf gm 3 [.int .i64 most],Res.obj dr (.deferred (some [])),Yf g9 35 [.slice a2 ps.length c2],Yu 41 1 a2 ps.length c2 (u32V (ps.map Qa9)),
   Yf g8 34 [.slice a' (ps.length+1+1) cap'],Yu 33 2 a' (ps.length+1+1) cap' (Qdd (hd::(bs++[B]))),Yf g7 23 [.int .i64 0],Yf g6 9 [.string ⟨#[]⟩]]:=hHh.sub (.cons _ (.cons _ (.refl _)))
  obtain ⟨gp,rfl⟩:=Qc1 (hHi.at 7 rfl) (by omega);clear hHe hHf hHg hHh hc';(try refine Qs ?_);apply hK;clear hK;(repeat with_reducible refine Qdg ?_);refine Qr7 (bare w6) (Qll _ _) [6,7,8,9] (.two [(1,true)] 0 2 (.seq [(2,false),(3,false),(4,false),(5,false)]) (.two [] 0 3 (.seq [(3,false),(4,false),(5,false)]) (.seq [(0,false),(4,false),(5,false)]))) (by kernel_rfl) (by kernel_rfl) (by kernel_rfl) fun K hK=>?_
  suffices out:∀ (a':Option Addr) (c':Nat) (w10:World),Heap w [] w10 [Res.obj (dr+1) (.loop { r with state:=.busy }),Yf gs 9 [Str rest],Yf gm 3 [.int .i64 most],Res.obj dr (.deferred (some [])),Yf g9 35 [.slice a' (ps.length+1) c'],Yu 41 1 a' (ps.length+1) c' (u32V (ps.map Qa9)++u32V [Qa9 part]),
   Yf g8 34 [.slice (some ⟨gp,0,none⟩) (ps.length+1+1) cap'],Yu 33 2 (some ⟨gp,0,none⟩) (ps.length+1+1) cap' (Qdd (hd::(bs++[B]))),Yf g7 23 [.int .i64 0],Yf g6 9 [.string ⟨#[]⟩]]->K [(6,pt g6),(7,pt g7),(8,pt g8),(9,pt g9)] w10 by
   have c0:w6.cell? ⟨g9,0,none⟩=some (.slice a2 ps.length c2):=Qah (hHi.at 4 rfl) rfl;simp only [vcT,Qbd,List.filterMap_cons,List.filterMap_nil,List.getElem?_cons_succ,List.getElem?_cons_zero,Option.map_some];refine Qs ?_;simp only [Qau];(try refine Qs ?_);refine And.intro ?_ ?_
   ·
    refine ⟨_,c0,?_⟩;(try refine Qs ?_);(try simp only [Qau]);(try refine Qs ?_);refine MemK_call Uc ?_;refine Qs ?_;refine Yd (Qmb part w6 (by omega)) ?_;rintro v w7 ⟨hHz,rfl⟩;have hHj:=hHi.call0 hHz;simp only [Yc] at hHj;(try refine Qs ?_);(try simp only [Qau]);(try refine Qs ?_);refine Qbb hHj (u32V [Qa9 part]) (xs:=[.tmp 61]) Yr sz41 rfl rfl rfl (by omega) ?_;refine Qs ?_;refine ⟨rfl,by simp [Yn],fun g w4 hHk=>?_⟩;(try refine Qs ?_);(try simp only [Qau]);(try refine Qs ?_);refine Qai ?_;refine Qs ?_;refine Qbn (zs:=#[.int .u32 0]) (bytes:=4) hHk 6 rfl Yr (by kernel_rfl) rfl ⟨rfl,Qaq (hHk.at 0 rfl),41,Yr⟩ (by simp [u32V];rfl) (fun h=>by omega) fun a' cap' w12 hc' hHl=>?_;(try refine Qs ?_);(try simp only [Qau]);(try refine Qs ?_);refine Qaa ?_;refine Qs ?_;refine Qae hHl 5 (vs:=[.slice a' (ps.length+1) cap']) rfl rfl (by kernel_rfl) (by simp) (by simp [Yq]) fun w13 hHm=>?_;simp only [Ye,Yb] at hHm;(try refine Qs ?_);(try simp only [Qau]);(try refine Qs ?_);refine out a' cap' w13 ?_;exact hHm.sub (Y1 _ _)
   refine MemK_call Uc ?_;refine Qs ?_;refine Yd (Qmb part w6 (by omega)) ?_;rintro v w7 ⟨hHz,rfl⟩;have hHj:=hHi.call0 hHz;simp only [Yc] at hHj;have c1:w7.cell? ⟨g9,0,none⟩=some (.slice a2 ps.length c2):=Qah (hHj.at 4 rfl) rfl;(try refine Qs ?_);(try simp only [Qau]);(try refine Qs ?_);refine And.intro ?_ ?_
   ·
    refine ⟨_,c1,?_⟩;(try refine Qs ?_);(try simp only [Qau]);(try refine Qs ?_);refine Qbb hHj (u32V [Qa9 part]) (xs:=[.tmp 61]) Yr sz41 rfl rfl rfl (by omega) ?_;refine Qs ?_;refine ⟨rfl,by simp [Yn],fun g w4 hHk=>?_⟩;(try refine Qs ?_);(try simp only [Qau]);(try refine Qs ?_);refine Qai ?_;refine Qs ?_;refine Qbn (zs:=#[.int .u32 0]) (bytes:=4) hHk 6 rfl Yr (by kernel_rfl) rfl ⟨rfl,Qaq (hHk.at 0 rfl),41,Yr⟩ (by simp [u32V];rfl) (fun h=>by omega) fun a' cap' w12 hc' hHl=>?_;(try refine Qs ?_);(try simp only [Qau]);(try refine Qs ?_);refine Qaa ?_;refine Qs ?_;refine Qae hHl 5 (vs:=[.slice a' (ps.length+1) cap']) rfl rfl (by kernel_rfl) (by simp) (by simp [Yq]) fun w13 hHm=>?_;simp only [Ye,Yb] at hHm;(try refine Qs ?_);(try simp only [Qau]);(try refine Qs ?_);refine out a' cap' w13 ?_;exact hHm.sub (Y1 _ _)
   refine Qbb hHj (u32V [Qa9 part]) (xs:=[.tmp 61]) Yr sz41 rfl rfl rfl (by omega) ?_;refine Qs ?_;refine ⟨rfl,by simp [Yn],fun g w4 hHk=>?_⟩;(try refine Qs ?_);have c2':w4.cell? ⟨g9,0,none⟩=some (.slice a2 ps.length c2):=Qah (hHk.at 5 rfl) rfl;(try simp only [Qau]);(try refine Qs ?_);refine ⟨_,c2',?_⟩;(try refine Qs ?_);(try simp only [Qau]);(try refine Qs ?_);refine Qai ?_;refine Qs ?_;refine Qbn (zs:=#[.int .u32 0]) (bytes:=4) hHk 6 rfl Yr (by kernel_rfl) rfl ⟨rfl,Qaq (hHk.at 0 rfl),41,Yr⟩ (by simp [u32V];rfl) (fun h=>by omega) fun a' cap' w12 hc' hHl=>?_;(try refine Qs ?_);(try simp only [Qau]);(try refine Qs ?_);refine Qaa ?_;refine Qs ?_;refine Qae hHl 5 (vs:=[.slice a' (ps.length+1) cap']) rfl rfl (by kernel_rfl) (by simp) (by simp [Yq]) fun w13 hHm=>?_;simp only [Ye,Yb] at hHm;(try refine Qs ?_);(try simp only [Qau]);(try refine Qs ?_);refine out a' cap' w13 ?_;exact hHm.sub (Y1 _ _)
  intro a' c' w10 hHn;apply hK;clear hK
  have hr:({ r with state:=.ready,pending:=none }:Loop)=r:=by
   cases r;simp only at r1 r2;subst r1 r2;rfl
  refine QF4 (Qr5 fun a n hf=>⟨_,n,rfl,hHn.at 0 rfl,rfl,?_⟩);rw [hr];refine ⟨_,⟨ps++[part],bs++[B],gp,cap',a',c',Qu7 hPB _ _ hpb,hcut,hdl,rfl⟩,?_⟩;have hHo:=((hHn.put (.loop r)).front 2 rfl).front 2 rfl;rw [show (ps++[part]).length=ps.length+1 by simp,show u32V ((ps++[part]).map Qa9)=u32V (ps.map Qa9)++u32V [Qa9 part] by simp [u32V]];exact hHo
 rintro _ w9 ⟨G,⟨ps,bs,ga,c1,a2,c2,hpb,hcut,_,rfl⟩,hHr⟩
 have hr:({ r with state:=.ready,pending:=none }:Loop)=r:=by
  cases r;simp only at r1 r2;subst r1 r2;rfl
 refine ⟨.ready,none,?_,by simp,?_⟩
 ·
  rw [hr];exact hHr.at 2 rfl
 simp only;have hHs:=(hHr.front 2 rfl).put (.loop { r with state:=.exhausted,pending:=none });generalize w9.putObj (dr+1) (Uf { r with state:=.exhausted,pending:=none })=wb at *;generalize Uf { r with state:=.exhausted,pending:=none }=ro at *;clear hHr r1 r2 r3 r4 r5 r7 r8 hr hH11 w9;rw [Qml,Ym] at hcut;subst hcut;have hok:=Qqx (show 1<=most by omega) s.length s (Yp _);have hps:(cutS s most).length<=262144:=by omega
 have hfl:=Qow _ _ hpb fun p hp=>by
  obtain ⟨a,b,c⟩:=hok.2.2 p hp;exact ⟨a,by omega⟩
 have hbl:=Qu8 _ _ hpb
 have h32:∀ x∈(cutS s most).map Qa9,x < 4294967296:=by
  intro x hx;obtain ⟨p,_,rfl⟩:=Xn.1 hx;exact Qlg p
 have hcl:=Qfn _ h32
 have hend:PackOk s lv most (.tuple #[Str (Qbo ((hd::(bs++[Qas 48 25779555029136++Qas 32 (Qb6 ((cutS s most).map Qa9))])).flatten)),.int .i64 0]):=by
  rw [PackOk,if_neg hg,if_neg (by omega)];refine ⟨bs,hpb,?_⟩;rw [hhd,Yx];unfold Qi5;simp only [Yo,X3,Y2,Ym,Yg]
 have hlL:((cutS s most).map Qa9).length=(cutS s most).length:=Xk ..;generalize hsum:(cutS s most).map Qa9=sums at *;generalize (cutS s most).length=m at *;refine QF4 ?_;refine GQ [6,7,8,9,13] fun K hK=>?_;refine MemK_call Ub ?_;refine Qs ?_;refine Yd (Qds wb) ?_;rintro v w11 ⟨gw,hHw,rfl⟩;have hHt:=hHs.call0 hHw;clear hHs hHw;(try refine Qs ?_);apply hK;clear hK;refine GQ [6,7,8,9,13] fun K hK=>?_;refine MemK_call Xa ?_;refine Qs ?_;refine Yd (Qde gw none 0 [] 25779555029136 48 w11 (by omega) (by decide) (by simp) (hHt.focus 0 rfl)) ?_;rintro v w12 ⟨a',c',hHp,rfl⟩;have hHu:=hHt.call1 0 rfl hHp;clear hHt hHp;(try refine Qs ?_);apply hK;clear hK
 have hHv:Heap w [] w12 [wr gw a' c' (Qas 48 25779555029136),Res.obj (dr+1) ro,Yf gs 9 [Str []],Yf gm 3 [.int .i64 most],Res.obj dr (.deferred (some [])),Yf g9 35 [.slice a2 m c2],Yu 41 1 a2 m c2 (u32V sums),
   Yf g8 34 [.slice (some ⟨ga,0,none⟩) (m+1) c1],Yu 33 2 (some ⟨ga,0,none⟩) (m+1) c1 (Qdd (hd::bs)),Yf g7 23 [.int .i64 0],Yf g6 9 [.string ⟨#[]⟩]]:=hHu
 clear hHu;refine GQ [6,7,8,13] fun K hK=>?_;refine ⟨_,Qah (hHv.at 5 rfl) rfl,?_⟩;(try refine Qs ?_);have hcs:=Qny sums a2 c2 w12 (by rw [hlL];exact Qaq (hHv.at 6 rfl)) h32 (by omega);rw [hlL] at hcs;refine MemK_call Tryz.call14 ?_;refine Qs ?_;refine Yd hcs ?_;rintro v w13 ⟨rfl,rfl⟩;(try refine Qs ?_);rw [show ((Qb6 sums:Nat):Int) % 18446744073709551616=((Qb6 sums:Nat):Int) by omega];refine MemK_call Xa ?_;refine Qs ?_;refine Yd (Qde gw a' c' (Qas 48 25779555029136) (Qb6 sums) 32 w13 (by omega) (by simpa using hcl) (by rw [Qan];omega) (hHv.focus 0 rfl)) ?_;rintro v w14 ⟨a3,c3,hHp,rfl⟩;(try refine Qs ?_);apply hK;clear hK;have hBl:(Qas 48 25779555029136++Qas 32 (Qb6 sums)).length=80:=by simp [Qan]
 generalize Qas 48 25779555029136++Qas 32 (Qb6 sums)=B at *
 have hHw:Heap w [] w14 [wr gw a3 c3 B,Res.obj (dr+1) ro,Yf gs 9 [Str []],Yf gm 3 [.int .i64 most],Res.obj dr (.deferred (some [])),Yf g9 35 [.slice a2 m c2],Yu 41 1 a2 m c2 (u32V sums),
   Yf g8 34 [.slice (some ⟨ga,0,none⟩) (m+1) c1],Yu 33 2 (some ⟨ga,0,none⟩) (m+1) c1 (Qdd (hd::bs)),Yf g7 23 [.int .i64 0],Yf g6 9 [.string ⟨#[]⟩]]:=hHv.call1 0 rfl hHp
 clear hHv hHp hcs hcl h32 hlL hok hpb;have hf:=hHw.focus 8 rfl;have hW:=hHw.at 0 rfl;have hlen:(hd::(bs++[B])).length=m+1+1:=by simp;omega
 have hjn:=fun (gp cap:Nat) (w:World) hl=>Qps (hd::(bs++[B])) ⟨gp,0,none⟩ rfl cap w hl (by
  have:hd.length=32:=by rw [hhd,Qaw];rfl
  simp only [Yo,X3,Y2,Ym,Ya];omega) (by omega)
 rw [hlen] at hjn;generalize hls:(hd::(bs++[B]))=ls at *;clear hlen;obtain ⟨w0,hx0,c0,hE⟩:∃ w0,Ext w0 w14/\w0.cell? ⟨g8,0,none⟩=some (.slice (some ⟨ga,0,none⟩) (m+1) c1)/\∀ w' G,Heap w14 (Yu 33 2 (some ⟨ga,0,none⟩) (m+1) c1 (Qdd (hd::bs))).foot w' G->Ext w0 w':=⟨holes (Yu 33 2 (some ⟨ga,0,none⟩) (m+1) c1 (Qdd (hd::bs))).foot w14,Ext.hole _ _,hHw.hole_at 8 7 rfl rfl (by omega) rfl,fun w' G h=>h.upd.extH⟩;(repeat with_reducible refine Qdg ?_);refine Qr7 w0 hx0 [6,7,14,15] (.two [(0,true),(1,true),(3,true)] 2 12 (.two [] 4 12 (.two [(5,true)] 6 12 (.two [] 7 12 (.two [] 8 12 (.seq [(9,true),(10,true),(11,true),(12,false),(13,false),(14,true)]) (.seq [(8,false),(9,true),(10,true),(11,true),(13,false),(14,true)])) (.seq [(7,false),(8,false),(9,true),(10,true),(11,true),(13,false),(14,true)])) (.seq [(6,false),(7,false),(8,false),(9,true),(10,true),(11,true),(13,false),(14,true)])) (.seq [(4,false),(5,true),(6,false),(7,false),(8,false),(9,true),(10,true),(11,true),(13,false),(14,true)])) (.seq [(2,false),(4,false),(5,true),(6,false),(7,false),(8,false),(9,true),(10,true),(11,true),(13,false),(14,true)])) (by kernel_rfl) (by kernel_rfl) (by kernel_rfl) fun K hK=>?_
 suffices out:∀ (g14:Nat) (w':World),Heap w [] w' [Yf g14 33 (Qa7 ls.flatten),Res.obj dr (.deferred (some [])),Yf g7 23 [.int .i64 0],Yf g6 9 [.string ⟨#[]⟩]]->K [(6,pt g6),(7,pt g7),(14,pt g14),(15,.int .i64 0)] w' by
  simp only [vcT,Qbd,List.filterMap_cons,List.filterMap_nil,List.getElem?_cons_succ,List.getElem?_cons_zero,Option.map_some];refine Qs ?_;refine ⟨_,c0,?_⟩;(try simp only [Qau]);(try refine Qs ?_);refine And.intro ?_ ?_
  ·
   refine MemK_call Xz ?_;refine Qs ?_;refine Yd (Qgi gw a3 c3 B _ hW) ?_;rintro v wt ⟨rfl,rfl⟩;(try simp only [Qgn]);refine ⟨hE _ _ hf,?_⟩;(try simp only [Qau]);(try refine Qs ?_);refine And.intro ?_ ?_
   ·
    refine MemK_call Xr ?_;refine Qs ?_;refine Yd (Qgv gw a3 c3 B _ hW) ?_;rintro v wt ⟨rfl,rfl⟩;(try simp only [Qgn]);refine ⟨hE _ _ hf,?_⟩;(try simp only [Qau]);(try refine Qs ?_);refine And.intro ?_ ?_
    ·
     refine Qeq hf 2 (Qa7 B) (xs:=[.tmp 78]) Yi sz33 rfl rfl rfl (by omega) (by omega) ?_;refine Qs ?_;refine ⟨by simp [Qa7,Yn],by simp [Qa7,Yn],fun gl wl hf=>?_⟩;refine ⟨hE _ _ hf,?_⟩;(try simp only [Qau]);(try refine Qs ?_);refine And.intro ?_ ?_
     ·
      refine Qai ?_;refine Qs ?_;refine Qbn (zs:=#[.string ⟨#[]⟩,.int .i64 0]) (bytes:=24) hf 1 rfl Yi (by kernel_rfl) rfl ⟨rfl,Qaq (hf.at 0 rfl),33,Yi⟩ (Qb8 _) (fun h=>by omega) fun a' cap' wp hc' hf=>?_;obtain ⟨gp,rfl⟩:=Qc1 (hf.at 1 rfl) (by omega);refine ⟨hE _ _ hf,?_⟩;simp only [Ye,Yb] at hf;rw [Qet,Yv,hls] at hf;(try simp only [Qau]);(try refine Qs ?_);refine And.intro ?_ ?_
      ·
       refine MemK_call Xg ?_;refine Qs ?_;refine Yd (hjn gp cap' _ (Qaq (hf.at 1 rfl))) ?_;rintro v wj ⟨hJ,rfl⟩;have hf:=hf.call0 hJ;simp only [Yc] at hf;(try simp only [Qgn]);refine ⟨hE _ _ hf,?_⟩;(try simp only [Qau]);(try refine Qs ?_);refine Qao (.agg #[.string ⟨#[]⟩,.int .i64 0]) (by kernel_rfl) ?_;refine Qs ?_;have hf:=hf.box 33 [.string ⟨#[]⟩,.int .i64 0];refine ⟨hE _ _ hf,?_⟩;(try simp only [Qau]);(try refine Qs ?_);refine Qaa ?_;refine Qs ?_;refine Qae hf 0 (vs:=Qa7 ls.flatten) rfl rfl (by kernel_rfl) (by simp [Qa7]) (Qb8 _) fun ws hf=>?_;refine ⟨hE _ _ hf,?_⟩;simp only [Ye,Yb] at hf;(try simp only [Qau]);(try refine Qs ?_);exact out _ _ ((hHw.call1 8 rfl (hf.perm (.swap _ _ _))).sub (.cons_cons _ (.cons _ (.cons _ (.cons _ (.cons _ (.cons _ (.cons_cons _ (.cons _ (.cons _ (.cons _ (.cons _ (.refl _)))))))))))))
      refine Qao (.agg #[.string ⟨#[]⟩,.int .i64 0]) (by kernel_rfl) ?_;refine Qs ?_;have hf:=hf.box 33 [.string ⟨#[]⟩,.int .i64 0];refine ⟨hE _ _ hf,?_⟩;(try simp only [Qau]);(try refine Qs ?_);refine MemK_call Xg ?_;refine Qs ?_;refine Yd (hjn gp cap' _ (Qaq (hf.at 2 rfl))) ?_;rintro v wj ⟨hJ,rfl⟩;have hf:=hf.call0 hJ;simp only [Yc] at hf;(try simp only [Qgn]);refine ⟨hE _ _ hf,?_⟩;(try simp only [Qau]);(try refine Qs ?_);refine Qaa ?_;refine Qs ?_;refine Qae hf 0 (vs:=Qa7 ls.flatten) rfl rfl (by kernel_rfl) (by simp [Qa7]) (Qb8 _) fun ws hf=>?_;refine ⟨hE _ _ hf,?_⟩;simp only [Ye,Yb] at hf;(try simp only [Qau]);(try refine Qs ?_);exact out _ _ ((hHw.call1 8 rfl (hf.perm (.swap _ _ _))).sub (.cons_cons _ (.cons _ (.cons _ (.cons _ (.cons _ (.cons _ (.cons_cons _ (.cons _ (.cons _ (.cons _ (.cons _ (.refl _)))))))))))))
     refine Qao (.agg #[.string ⟨#[]⟩,.int .i64 0]) (by kernel_rfl) ?_;refine Qs ?_;have hf:=hf.box 33 [.string ⟨#[]⟩,.int .i64 0];refine ⟨hE _ _ hf,?_⟩;(try simp only [Qau]);(try refine Qs ?_);refine Qai ?_;refine Qs ?_;refine Qbn (zs:=#[.string ⟨#[]⟩,.int .i64 0]) (bytes:=24) hf 2 rfl Yi (by kernel_rfl) rfl ⟨rfl,Qaq (hf.at 1 rfl),33,Yi⟩ (Qb8 _) (fun h=>by omega) fun a' cap' wp hc' hf=>?_;obtain ⟨gp,rfl⟩:=Qc1 (hf.at 2 rfl) (by omega);refine ⟨hE _ _ hf,?_⟩;simp only [Ye,Yb] at hf;rw [Qet,Yv,hls] at hf;(try simp only [Qau]);(try refine Qs ?_);refine MemK_call Xg ?_;refine Qs ?_;refine Yd (hjn gp cap' _ (Qaq (hf.at 2 rfl))) ?_;rintro v wj ⟨hJ,rfl⟩;have hf:=hf.call0 hJ;simp only [Yc] at hf;(try simp only [Qgn]);refine ⟨hE _ _ hf,?_⟩;(try simp only [Qau]);(try refine Qs ?_);refine Qaa ?_;refine Qs ?_;refine Qae hf 0 (vs:=Qa7 ls.flatten) rfl rfl (by kernel_rfl) (by simp [Qa7]) (Qb8 _) fun ws hf=>?_;refine ⟨hE _ _ hf,?_⟩;simp only [Ye,Yb] at hf;(try simp only [Qau]);(try refine Qs ?_);exact out _ _ ((hHw.call1 8 rfl (hf.perm (.swap _ _ _))).sub (.cons_cons _ (.cons _ (.cons _ (.cons _ (.cons _ (.cons _ (.cons_cons _ (.cons _ (.cons _ (.cons _ (.cons _ (.refl _)))))))))))))
    refine Qao (.agg #[.string ⟨#[]⟩,.int .i64 0]) (by kernel_rfl) ?_;refine Qs ?_;have hf:=hf.box 33 [.string ⟨#[]⟩,.int .i64 0];refine ⟨hE _ _ hf,?_⟩;(try simp only [Qau]);(try refine Qs ?_);refine Qeq hf 2 (Qa7 B) (xs:=[.tmp 78]) Yi sz33 rfl rfl rfl (by omega) (by omega) ?_;refine Qs ?_;refine ⟨by simp [Qa7,Yn],by simp [Qa7,Yn],fun gl wl hf=>?_⟩;refine ⟨hE _ _ hf,?_⟩;(try simp only [Qau]);(try refine Qs ?_);refine Qai ?_;refine Qs ?_;refine Qbn (zs:=#[.string ⟨#[]⟩,.int .i64 0]) (bytes:=24) hf 2 rfl Yi (by kernel_rfl) rfl ⟨rfl,Qaq (hf.at 0 rfl),33,Yi⟩ (Qb8 _) (fun h=>by omega) fun a' cap' wp hc' hf=>?_;obtain ⟨gp,rfl⟩:=Qc1 (hf.at 2 rfl) (by omega);refine ⟨hE _ _ hf,?_⟩;simp only [Ye,Yb] at hf;rw [Qet,Yv,hls] at hf;(try simp only [Qau]);(try refine Qs ?_);refine MemK_call Xg ?_;refine Qs ?_;refine Yd (hjn gp cap' _ (Qaq (hf.at 2 rfl))) ?_;rintro v wj ⟨hJ,rfl⟩;have hf:=hf.call0 hJ;simp only [Yc] at hf;(try simp only [Qgn]);refine ⟨hE _ _ hf,?_⟩;(try simp only [Qau]);(try refine Qs ?_);refine Qaa ?_;refine Qs ?_;refine Qae hf 1 (vs:=Qa7 ls.flatten) rfl rfl (by kernel_rfl) (by simp [Qa7]) (Qb8 _) fun ws hf=>?_;refine ⟨hE _ _ hf,?_⟩;simp only [Ye,Yb] at hf;(try simp only [Qau]);(try refine Qs ?_);exact out _ _ ((hHw.call1 8 rfl hf).sub (.cons_cons _ (.cons _ (.cons _ (.cons _ (.cons _ (.cons _ (.cons_cons _ (.cons _ (.cons _ (.cons _ (.cons _ (.refl _)))))))))))))
   refine Qao (.agg #[.string ⟨#[]⟩,.int .i64 0]) (by kernel_rfl) ?_;refine Qs ?_;have hf:=hf.box 33 [.string ⟨#[]⟩,.int .i64 0];refine ⟨hE _ _ hf,?_⟩;(try simp only [Qau]);(try refine Qs ?_);have hW:=(hHw.call1 8 rfl hf).at 1 rfl;refine MemK_call Xr ?_;refine Qs ?_;refine Yd (Qgv gw a3 c3 B _ hW) ?_;rintro v wt ⟨rfl,rfl⟩;(try simp only [Qgn]);refine ⟨hE _ _ hf,?_⟩;(try simp only [Qau]);(try refine Qs ?_);refine Qeq hf 2 (Qa7 B) (xs:=[.tmp 78]) Yi sz33 rfl rfl rfl (by omega) (by omega) ?_;refine Qs ?_;refine ⟨by simp [Qa7,Yn],by simp [Qa7,Yn],fun gl wl hf=>?_⟩;refine ⟨hE _ _ hf,?_⟩;(try simp only [Qau]);(try refine Qs ?_);refine Qai ?_;refine Qs ?_;refine Qbn (zs:=#[.string ⟨#[]⟩,.int .i64 0]) (bytes:=24) hf 2 rfl Yi (by kernel_rfl) rfl ⟨rfl,Qaq (hf.at 0 rfl),33,Yi⟩ (Qb8 _) (fun h=>by omega) fun a' cap' wp hc' hf=>?_;obtain ⟨gp,rfl⟩:=Qc1 (hf.at 2 rfl) (by omega);refine ⟨hE _ _ hf,?_⟩;simp only [Ye,Yb] at hf;rw [Qet,Yv,hls] at hf;(try simp only [Qau]);(try refine Qs ?_);refine MemK_call Xg ?_;refine Qs ?_;refine Yd (hjn gp cap' _ (Qaq (hf.at 2 rfl))) ?_;rintro v wj ⟨hJ,rfl⟩;have hf:=hf.call0 hJ;simp only [Yc] at hf;(try simp only [Qgn]);refine ⟨hE _ _ hf,?_⟩;(try simp only [Qau]);(try refine Qs ?_);refine Qaa ?_;refine Qs ?_;refine Qae hf 1 (vs:=Qa7 ls.flatten) rfl rfl (by kernel_rfl) (by simp [Qa7]) (Qb8 _) fun ws hf=>?_;refine ⟨hE _ _ hf,?_⟩;simp only [Ye,Yb] at hf;(try simp only [Qau]);(try refine Qs ?_);exact out _ _ ((hHw.call1 8 rfl hf).sub (.cons_cons _ (.cons _ (.cons _ (.cons _ (.cons _ (.cons _ (.cons_cons _ (.cons _ (.cons _ (.cons _ (.cons _ (.refl _)))))))))))))
  refine Qao (.agg #[.string ⟨#[]⟩,.int .i64 0]) (by kernel_rfl) ?_;refine Qs ?_;have hf:=hf.box 33 [.string ⟨#[]⟩,.int .i64 0];refine ⟨hE _ _ hf,?_⟩;(try simp only [Qau]);(try refine Qs ?_);have hW:=(hHw.call1 8 rfl hf).at 1 rfl;refine MemK_call Xz ?_;refine Qs ?_;refine Yd (Qgi gw a3 c3 B _ hW) ?_;rintro v wt ⟨rfl,rfl⟩;(try simp only [Qgn]);refine ⟨hE _ _ hf,?_⟩;(try simp only [Qau]);(try refine Qs ?_);refine MemK_call Xr ?_;refine Qs ?_;refine Yd (Qgv gw a3 c3 B _ hW) ?_;rintro v wt ⟨rfl,rfl⟩;(try simp only [Qgn]);refine ⟨hE _ _ hf,?_⟩;(try simp only [Qau]);(try refine Qs ?_);refine Qeq hf 2 (Qa7 B) (xs:=[.tmp 78]) Yi sz33 rfl rfl rfl (by omega) (by omega) ?_;refine Qs ?_;refine ⟨by simp [Qa7,Yn],by simp [Qa7,Yn],fun gl wl hf=>?_⟩;refine ⟨hE _ _ hf,?_⟩;(try simp only [Qau]);(try refine Qs ?_);refine Qai ?_;refine Qs ?_;refine Qbn (zs:=#[.string ⟨#[]⟩,.int .i64 0]) (bytes:=24) hf 2 rfl Yi (by kernel_rfl) rfl ⟨rfl,Qaq (hf.at 0 rfl),33,Yi⟩ (Qb8 _) (fun h=>by omega) fun a' cap' wp hc' hf=>?_;obtain ⟨gp,rfl⟩:=Qc1 (hf.at 2 rfl) (by omega);refine ⟨hE _ _ hf,?_⟩;simp only [Ye,Yb] at hf;rw [Qet,Yv,hls] at hf;(try simp only [Qau]);(try refine Qs ?_);refine MemK_call Xg ?_;refine Qs ?_;refine Yd (hjn gp cap' _ (Qaq (hf.at 2 rfl))) ?_;rintro v wj ⟨hJ,rfl⟩;have hf:=hf.call0 hJ;simp only [Yc] at hf;(try simp only [Qgn]);refine ⟨hE _ _ hf,?_⟩;(try simp only [Qau]);(try refine Qs ?_);refine Qaa ?_;refine Qs ?_;refine Qae hf 1 (vs:=Qa7 ls.flatten) rfl rfl (by kernel_rfl) (by simp [Qa7]) (Qb8 _) fun ws hf=>?_;refine ⟨hE _ _ hf,?_⟩;simp only [Ye,Yb] at hf;(try simp only [Qau]);(try refine Qs ?_);exact out _ _ ((hHw.call1 8 rfl hf).sub (.cons_cons _ (.cons _ (.cons _ (.cons _ (.cons _ (.cons _ (.cons_cons _ (.cons _ (.cons _ (.cons _ (.cons _ (.refl _)))))))))))))
 intro g14 w15 hHy;apply hK;clear hK;clear hf hW hx0 c0 hE hjn hHw;refine GQ [6,7] fun K hK=>?_;refine ⟨_,Qah (hHy.at 0 rfl) (show (Qa7 ls.flatten)[0]? = some _ from rfl),?_⟩;(try refine Qs ?_);refine Qaa ?_;refine Qs ?_;refine Qae hHy 3 (vs:=[Str (Qbo ls.flatten)]) rfl rfl (by kernel_rfl) (by simp) (by simp [Yq]) fun w16 hHz=>?_;(try refine Qs ?_);refine Qaa ?_;refine Qs ?_;refine Qae hHz 2 (vs:=[.int .i64 0]) rfl rfl (by kernel_rfl) (by simp) (by simp [Yq]) fun w17 hHq=>?_;(try refine Qs ?_);apply hK;clear hK;have hHr:Heap w [] w17 [Res.obj dr (.deferred (some [])),Yf g7 23 [.int .i64 0],Yf g6 9 [Str (Qbo ls.flatten)]]:=hHq.sub (.cons _ (.refl _));have hHp2:=hHr.put (.deferred none);exact Qv6 (ret1 (hHr.at 0 rfl) (QCn (hHp2.at 2 rfl) (hHp2.at 1 rfl) ⟨hHp2.sub (by simp),hend⟩))
theorem awake13_does (w:World):Does Y3 4 #[] w fun v w'=>Heap w [] w' []/\v=.bool true:=by
 refine En [] 65 Tryz.func4 ?_;refine VS [] ?_;refine VQ [1,2] fun K hK=>?_;refine MemK_call Ug ?_;refine Qs ?_;refine Yd (pack_does [] 1 1 w (Xb (by omega) (by omega)) (Xb (by omega) (by omega)) (by simp)) ?_;rintro v w2 ⟨hH,hv⟩;obtain ⟨T,hT,rfl⟩:=hv.pk (by omega) (by simp)
 have he:T=[66,90,104,49,23,114,69,56,80,144,0,0,0,0]:=by
  rw [PackOk,if_neg (by omega),if_neg (by simp)] at hv;obtain ⟨bs,hb,hv⟩:=hv;rw [Qml] at hb hv;cases bs with
  | cons b bs=>exact hb.elim
  | nil =>
   simp [Str] at hv;rw [hv];kernel_rfl
 have hun:=Qqy (ss:=[[],[]]) (Ts:=[T,T]) ⟨hT,hT,trivial⟩ (by simp) (by simp);simp only [Yo,Y2,Ym] at hun;have hlen:=hT.len;simp only [Yt] at hlen;(try refine Qs ?_);apply hK;clear hK;refine VQ [1,2,3,4] fun K hK=>?_;(repeat first | refine Qo ?_ | refine Qp ?_);refine MemK_call Uh ?_;refine Qs ?_;refine Yd (Qj0 (T++T) w2 (by rw [Ya];omega)) ?_;rintro v w3 ⟨hHt,rfl⟩;have hH2:=hH.call0 hHt;simp only [Yc] at hH2;clear hH hHt;rw [hun];unfold Qux;(try refine Qs ?_);apply hK;clear hK;refine VQ [1,2,3,4,6] fun K hK=>?_;refine MemK_call Uh ?_;refine Qs ?_;refine Yd (Qj0 [] w3 (by simp)) ?_;rintro v w4 ⟨hHt,rfl⟩;have hH3:=hH2.call0 hHt;simp only [Yc] at hH3;clear hH2 hHt;have hz:Qnc []=.error 10:=by first | rfl | kernel_rfl
 rw [hz];unfold Qux;(try refine Qs ?_);apply hK;clear hK;refine VQ [1,2,3,4,6,7,8] fun K hK=>?_;refine MemK_call Ug ?_;refine Qs ?_;refine Yd (pack_does [97,98,99] 9 2 w4 (Xb (by omega) (by omega)) (Xb (by omega) (by omega)) (by simp)) ?_;rintro v w5 ⟨hHt,hv⟩;have hH4:=hH3.call0 hHt;simp only [Yc] at hH4;clear hH3 hHt;obtain ⟨U,hU,rfl⟩:=hv.pk (by omega) (by simp);have hun2:=QE7 hU (by simp);have hlen2:=hU.len;simp only [Yj,Yt] at hlen2;(try refine Qs ?_);apply hK;clear hK;refine VQ [1,2,3,4,6,8,9,10] fun K hK=>?_;refine MemK_call Uh ?_;refine Qs ?_;refine Yd (Qj0 U w5 (by omega)) ?_;rintro v w6 ⟨hHt,rfl⟩;have hH5:=hH4.call0 hHt;simp only [Yc] at hH5;clear hH4 hHt;rw [hun2];unfold Qux;(try refine Qs ?_);apply hK;clear hK;refine VQ [0] fun K hK=>?_
 suffices out:K [(0,.bool true)] w6 by simpa [he] using out
 apply hK;clear hK;exact VC_ret (VX_ret1 rfl rfl ⟨hH5,rfl⟩)
set_option maxHeartbeats 4000000
theorem PBs_one:∀ (ps:List (List UInt8)) (bs cs:List (List Bool)),PBs ps bs->PBs ps cs->bs=cs
 | [],[],[],_,_=>rfl
 | p::ps,b::bs,c::cs,h,k=>by
  obtain ⟨⟨σ,o,rfl⟩,h2⟩:=h;obtain ⟨⟨τ,o2,rfl⟩,k2⟩:=k;rw [o.unique o2,PBs_one ps bs cs h2 k2]
 | [],_::_,_,h,_=>h.elim
 | [],[],_::_,_,k=>k.elim
 | _::_,[],_,h,_=>h.elim
 | _::_,_::_,[],_,k=>k.elim
theorem PackOk.one {s:List UInt8}{level most:Int}{v u:Value} (h:PackOk s level most v) (k:PackOk s level most u):v=u:=by
 unfold PackOk at h k;split at h
 ·
  rename_i e;rw [if_pos e] at k;rw [h,k]
 rename_i e;rw [if_neg e] at k;split at h
 ·
  rename_i e2;rw [if_pos e2] at k;rw [h,k]
 rename_i e2;rw [if_neg e2] at k;obtain ⟨bs,o,rfl⟩:=h;obtain ⟨cs,o2,rfl⟩:=k;rw [PBs_one _ _ _ o o2]
theorem PackOk.form {s:List UInt8}{level most:Int}{v:Value} (h:PackOk s level most v):∃ (x:List UInt8) (e:Int),v=.tuple #[Str x,.int .i64 e]:=by
 unfold PackOk at h;split at h
 ·
  exact ⟨[],2,h⟩
 split at h
 ·
  exact ⟨[],3,h⟩
 obtain ⟨bs,o,rfl⟩:=h;exact ⟨_,0,rfl⟩
theorem streamPacks_law (s:List UInt8) (level most:Int) (hl:I64 level) (hm:I64 most) (hs:s.length<=140737488355328) (w:World) :
  Does Y3 3 #[Str s,.int .i64 level,.int .i64 most] w fun v w'=>Heap w [] w' []/\v=.bool true:=by
 refine En [Str s,.int .i64 level,.int .i64 most] 45 Tryz.func3 ?_;refine VS [0,1,2] ?_;refine VQ [0,1,2,18] fun K hK=>?_
 suffices out:∀ b:Bool,(b=true ↔ 250 < s.length/\s.length<=262144)->K [(0,Str s),(1,.int .i64 level),(2,.int .i64 most),(18,.bool b)] w by (repeat' (first | exact out _ _ (by first | omega | (simp;done) | (simp;omega)) | exact out _ (by first | omega | (simp;done) | (simp;omega)) | refine ⟨fun _=>?_,fun _=>?_⟩ | refine Qo ?_))
 intro b hb;apply hK;clear hK;refine Vi (fun h=>?_) (fun h=>VC_skip ?_)
 ·
  refine VQ [6] fun K hK=>?_;refine MemK_call Tryz.call4 ?_;refine Qs ?_;refine Yd (awake13_does w) ?_;rintro v w2 ⟨hH,rfl⟩;(try refine Qs ?_);apply hK;clear hK;exact VC_ret (VX_ret1 rfl rfl ⟨hH,rfl⟩)
 have hg:¬ (250 < s.length/\s.length<=262144):=fun hh=>by rw [hb.2 hh] at h;cases h
 clear hb h;refine VQ [0,1,2,7,8] fun K hK=>?_;refine MemK_call Ug ?_;refine Qs ?_;refine Yd (pack_does s level most w hl hm hs) ?_;rintro v w2 ⟨hH,hM⟩;obtain ⟨x,e,rfl⟩:=hM.form;(try refine Qs ?_);apply hK;clear hK;refine VQ [7,8,9,10] fun K hK=>?_;refine MemK_call Tryz.call6 ?_;refine Qs ?_;refine Yd (dpack13_does s level most w2 hl hm hs (by omega)) ?_;rintro v w5 ⟨hHd,hD⟩;have hv:=hD.one hM;subst hv;have hH2:=hH.call0 hHd;simp only [Yc] at hH2;(try refine Qs ?_);apply hK;clear hK;refine VQ [6] fun K hK=>?_;(repeat refine ⟨fun _=>?_,fun h=>absurd trivial h⟩);refine MemK_call Tryz.call4 ?_;refine Qs ?_;refine Yd (awake13_does w5) ?_;rintro v w8 ⟨hHa,rfl⟩;have hH7:=hH2.call0 hHa;(try refine Qs ?_);apply hK;clear hK;exact VC_ret (VX_ret1 rfl rfl ⟨hH7.sub (by simp),rfl⟩)
end Go.Proofs.YthcdlcdnchaoiaaGreat
