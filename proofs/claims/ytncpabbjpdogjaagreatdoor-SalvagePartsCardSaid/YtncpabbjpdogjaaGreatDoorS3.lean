/- A program logic over the model, and what this program's functions do by it: part 3. No conditions: a library of lemmas. -/
import Derived.Test.YtncpabbjpdogjaaGreatDoorS2
import Derived.Lib.AppendIntMem
import Derived.Shelf.LaysM
import Derived.Shelf.Small.Strs
import Derived.Shelf.Strconv.Itoa3
import Derived.Shelf.Strings.Count
import Derived.Shelf.Strings.OnBuilder
import Derived.Shelf.Strings.Repeat
import Derived.Shelf.Strings.Search3
import Derived.Sort.Defs
import Derived.Sort.LotA
import Derived.Test.YtncpabbjpdogjaaGreatDoorChecked
open Nat (reduceEqDiff)
set_option linter.unusedSimpArgs false
set_option linter.unusedVariables false
set_option maxRecDepth 100000
open List renaming nil_append->Ya,getD_eq_getElem?_getD->Yb,set_cons_zero->Yc,getElem?_eq_getElem->Ye,range->Yf,replicate->Yh,length_append->Yi,nil_sublist->Yj,append_assoc->Yk,cons_append->Yl,append_nil->Yp,mem_cons_self->Yr,take_of_length_le->Ys,take_append_of_le_length->Yw,take_append_drop->Yx,idxOf_lt_length_iff->Yy,length_cons->Yz,getElem_mem->Y0,length_drop->Y1,mem_map->Y4,drop_eq_nil_of_le->Y7,length_take->Y9,length_singleton->Xc,mem_cons->Xe,replicate_succ->Xf,eraseIdx_cons_succ->Xg,eraseIdx_cons_zero->Xh,flatMap_cons->Xk,range_succ->Xn,filter_cons_of_pos->Xo,filter_cons_of_neg->Xp,length_filter_le->Xq,any_eq_true->Xr,append->Xu,length_map->Xv,getElem?_range->Xw,pairwise_cons->Xz,getElem?_append_right->X0,filter_append->X2,drop_eq_getElem_cons->X6,flatten_cons->X7,length_range->X8,range'->X9,getElem?_replicate->Ud,sublist_cons_self->Ui,map_append->Um,mem_append->Uo,getElem?_eq_none->Up,drop_zero->Us,range_eq_range'->Ut,mergeSort_perm->Uw,getElem_idxOf->Uz,getElem?_map->U3,take_add_one->U4,filter_congr->U5
open Go.Eng.CallK renaming mk->Yd
open Go.Proofs.Tryz renaming underlying37->Yg,prog->Ym,call90->Yn,call91->Yt,underlying192->Yu,call89->Xi,underlying114->X5,underlying5->Ub,underlying9->Uc,call223->U7,call211->U8,call52->U9,call69->Ga
open Nat renaming lt_or_ge->Yo,le_refl->Y5,add_sub_cancel->Xb,pow_succ->Xj,le_trans->Xm,pow_le_pow_right->Xt,succ_mul->Xx,log2->X1,mod_two_eq_zero_or_one->X3,pow_pos->Ua,log2_self_le->Ue,lt_log2_self->Uf,shiftLeft_eq->Uh,add_zero->Uj,zero_add->Uk,le_div_iff_mul_le->Uq,pow_add->Ur,add_assoc->Ux,mul_assoc->Uy,and_one_is_mod->U0,sub_self->U1,le_log2->Gb,add_mul->Gd
open Int renaming toNat_natCast->Yq,emod_eq_of_lt->Xd,toNat->Xy
open Go.Value renaming cells->Yv,oneCell'->Y3,int->Uv
open UInt8 renaming ofNat->Y2,toNat_ofNat'->X4
open Go.Eng.Res renaming row->Y6,blk->Uu
open Go.IntKind renaming u64->Y8,bits->U6
open Go.Eng.Heap renaming start->Xa
open Go.Obj renaming cells->Xl
open Bool renaming and_eq_true->Xs,or_eq_true->Un,eq_false_iff->U2
open Option renaming getD_some->Ug,map_eq_some_iff->Ul
namespace Go.Proofs.YtncpabbjpdogjaaGreatDoor
open Go Go.Eng
set_option maxHeartbeats 20000000
abbrev QFi (p:Bs) (n:Nat) (k:UInt8):Value:=V9 p n k 420 0 [] [] [] 0 0
theorem Qvh (p pre nm:Bs) (k:UInt8) (n:Nat) (w:World) (hs:Ij p=some (pre,nm)) (hp:p≠[]) (hpl:p.length<=1000) (h0:(0:UInt8) ∉ p) (hk:k=48∨k=120) (hn:n < 8 ^ 11) :
  Does Ym 49 #[QFi p n k] w fun v w'=>Heap w [] w' []/\v=.tuple #[Aa (Eh pre nm k n),.int .i64 0]:=by
 obtain ⟨q1,q2,q3,q4⟩:=Wx hs hp
 obtain ⟨z1,z2⟩:(0:UInt8) ∉ pre/\(0:UInt8) ∉ nm:=by
  rw [<- q4] at h0;split at h0
  ·
   rename_i h00;subst h00;exact ⟨by simp,h0⟩
  exact ⟨fun hh=>h0 (by simp [hh]),fun hh=>h0 (by simp [hh])⟩
 refine En [QFi p n k] 117 Tryz.func49 ?_;refine Am [1] fun K hK=>?_;refine Eb ?_;refine Qi ?_;have hH:Heap w [] (w.alloc (Xl (Ih p n k 420 0 [] [] [] 0 0).toArray tH)) [Es w.heap.size p n k 420 0 [] [] [] 0 0]:=(Xa w).box tH (Ih p n k 420 0 [] [] [] 0 0);generalize w.alloc (Xl (Ih p n k 420 0 [] [] [] 0 0).toArray tH)=w1 at *;generalize w.heap.size=gh at *;(try refine Qi ?_);apply hK;clear hK;have hc:∀ {w':World},Heap w [] w' [Es gh p n k 420 0 [] [] [] 0 0]->w'.cell? ⟨gh,0,none⟩=some (Aa p):=fun h=>Aj (h.at 0 rfl) rfl;refine Am [1,4,5,6] fun K hK=>?_;refine ⟨_,hc hH,?_⟩;(try refine Qi ?_);refine Ac Tryz.call25 ?_;refine Qi ?_;refine Yd (Qeg p w1 (by omega)) ?_;rintro v w2 ⟨rfl,rfl⟩;rw [Qmg,hs];(try refine Qi ?_);apply hK;clear hK;refine Am [1,4,5,27] fun K hK=>?_;refine ⟨_,hc hH,?_⟩;(try refine Qi ?_);apply hK;clear hK;refine Ae rfl rfl (fun h=>absurd h (by simp [hp])) (fun h=>Ab ?_);clear h;have hck:∀ {w':World}{G:List Res},Heap w [] w' (Es gh p n k 420 0 [] [] [] 0 0::G)->w'.cell? ⟨gh,2,none⟩=some (.int .u8 k.toNat):=fun h=>Aj (h.at 0 rfl) rfl;refine Am [1,4,5,39] fun K hK=>?_;refine ⟨_,hck hH,?_⟩;(try refine Qi ?_);refine Fb hH (An [k]) (xs:=[.tmp 29]) Yg Fj rfl rfl rfl (by omega) ?_;refine Qi ?_;refine ⟨rfl,by simp [Yv],fun g w4 hH2=>?_⟩;(try refine Qi ?_);refine ⟨[k],K4 (Az (hH2.at 0 rfl)),?_⟩;(try refine Qi ?_);refine Ac Tryz.call51 ?_;refine Qi ?_;refine Yd (Qbp [48,53,120,103] k _) ?_;rintro v w5 ⟨rfl,rfl⟩;rw [show decide (0<=Lib.indexByte [48,53,120,103] k)=true by rcases hk with rfl | rfl <;> rfl];(try refine Qi ?_);have hH3:Heap w [] w5 [Es gh p n k 420 0 [] [] [] 0 0]:=hH2.sub (Ui _ _);clear hH hH2;refine ⟨_,hc hH3,?_⟩;(try refine Qi ?_);refine Ac Tryz.call88 ?_;refine Qi ?_;refine Yd (Qa4 p _) ?_;rintro v w6 ⟨rfl,rfl⟩;rw [Qjd h0];(try refine Qi ?_);apply hK;clear hK;refine Ae rfl rfl (fun h=>absurd h (by simp)) (fun h=>Ab ?_);clear h;have rl:∀ (i:Nat) (u:Value),(Ih p n k 420 0 [] [] [] 0 0)[i]? = some u->w6.cell? ⟨gh,i,none⟩=some u:=fun i u h=>Aj (hH3.at 0 rfl) h;(repeat refine Ax ?_);refine Qb5 _ (Ext.refl _) [1,4,6,7] [(0,true),(2,true),(3,true),(5,true),(6,true),(7,true),(9,true),(10,true),(11,true),(13,true),(14,true),(16,true),(17,true),(1,false),(4,false),(8,false),(12,false),(15,false),(18,false),(19,false),(20,false),(21,false),(22,true),(23,true),(24,true),(25,true),(26,true)] (by kernel_rfl) (by kernel_rfl) rfl (by simp only [Bd,List.filterMap_cons,List.filterMap_nil,List.getElem?_cons_succ,List.getElem?_cons_zero,Option.map_some];rfl) fun K hK=>?_;refine Qi ?_;refine ⟨_,rl 3 _ rfl,⟨by omega,by omega⟩,_,rl 8 _ rfl,⟨by omega,by omega⟩,_,rl 9 _ rfl,_,rl 1 _ rfl,_,rl 4 _ rfl,?_⟩;clear rl;have hE:=Xa w6;(try refine Qi ?_);refine Ac Yn ?_;refine Qi ?_;refine Yd (Eu nm 100 100 _ q2 q2 (by omega) z2) ?_;rintro v w7 ⟨hHx,rfl⟩;replace hE:=hE.call0 hHx;rw [Ya] at hE;clear hHx;refine ⟨hE.ext,?_⟩;(try refine Qi ?_);refine Ac Yt ?_;refine Qi ?_;refine Yd (Km 420 8 _ (by omega) (by omega) (by decide) (by omega)) ?_;rintro v w7 ⟨hHx,rfl⟩;replace hE:=hE.call0 hHx;rw [Ya] at hE;clear hHx;refine ⟨hE.ext,?_⟩;(try refine Qi ?_);refine Ac Yt ?_;refine Qi ?_;refine Yd (Km 0 8 _ (by omega) (by omega) (by decide) (by omega)) ?_;rintro v w7 ⟨hHx,rfl⟩;replace hE:=hE.call0 hHx;rw [Ya] at hE;clear hHx;refine ⟨hE.ext,?_⟩;(try refine Qi ?_);refine Ac Yt ?_;refine Qi ?_;refine Yd (Km 0 8 _ (by omega) (by omega) (by decide) (by omega)) ?_;rintro v w7 ⟨hHx,rfl⟩;replace hE:=hE.call0 hHx;rw [Ya] at hE;clear hHx;refine ⟨hE.ext,?_⟩;(try refine Qi ?_);refine Ac Yt ?_;refine Qi ?_;refine Yd (Km n 12 _ (by omega) (by omega) hn (by omega)) ?_
 rintro v w7 ⟨hHx,rfl⟩;replace hE:=hE.call0 hHx;rw [Ya] at hE;clear hHx;refine ⟨hE.ext,?_⟩;(try refine Qi ?_);refine Ac Yt ?_;refine Qi ?_;refine Yd (Km 0 12 _ (by omega) (by omega) (by decide) (by omega)) ?_;rintro v w7 ⟨hHx,rfl⟩;replace hE:=hE.call0 hHx;rw [Ya] at hE;clear hHx;refine ⟨hE.ext,?_⟩;(try refine Qi ?_);refine Ac Yn ?_;refine Qi ?_;refine Yd (Eu [] 8 8 _ (by simp) (by simp) (by omega) (by simp)) ?_;rintro v w7 ⟨hHx,rfl⟩;replace hE:=hE.call0 hHx;rw [Ya] at hE;clear hHx;refine ⟨hE.ext,?_⟩;(try refine Qi ?_);refine E4 hE 2 (Nz [Av nm 100,A4 420 8,A4 0 8,A4 0 8,A4 n 12,A4 0 12,Av [] 8]) (xs:=[.tmp 42,.tmp 45,.tmp 49,.tmp 53,.tmp 56,.tmp 59,.tmp 60]) Yu N7 rfl rfl rfl (by omega) (by omega) ?_;refine Qi ?_;refine ⟨rfl,by intro v hv;simp only [Xe,List.not_mem_nil,or_false] at hv;rcases hv with rfl | rfl | rfl | rfl | rfl | rfl | rfl <;> rfl,fun ga w8 hE2=>⟨hE2.ext,?_⟩⟩;have ho8:=I6 420 (width:=8) (by omega);have hz8:=I6 0 (width:=8) (by omega);have ho12:=I6 n (width:=12) (by omega);have hz12:=I6 0 (width:=12) (by omega);have htn:=Sw q2;have ht8:=Sw (show ([]:Bs).length<=8 by simp)
 have hAfl:List.flatten [Av nm 100,A4 420 8,A4 0 8,A4 0 8,A4 n 12,A4 0 12,Av [] 8]=Kz nm n++Bh 8:=by
  simp [Kz,Av,Bh]
 (try refine Qi ?_);refine Ac Xi ?_;refine Qi ?_;refine Yd (Oq [Av nm 100,A4 420 8,A4 0 8,A4 0 8,A4 n 12,A4 0 12,Av [] 8] ga 7 w8 (Az (hE2.at 0 rfl)) (hE2.foot _ (Yr ..) ga (by simp [Y6])).2 (by simp) (by rw [hAfl,Yi,St q2,Ey];omega)) ?_;rintro v w7 ⟨hHx,rfl⟩;replace hE:=(hE2.sub (Yj _)).call0 hHx;rw [Ya] at hE;clear hHx hE2;rw [hAfl];refine ⟨hE.ext,?_⟩;(try refine Qi ?_);apply hK;clear hK;replace hH3:=hH3.call0 hE;rw [Ya] at hH3;clear hE
 show VC _ _ [(1,pV gh),(4,Aa pre),(6,.bool true),(7,Aa (Kz nm n++Bh 8))] w7
 have rl:∀ (i:Nat) (u:Value),(Ih p n k 420 0 [] [] [] 0 0)[i]? = some u->w7.cell? ⟨gh,i,none⟩=some u:=fun i u h=>Aj (hH3.at 0 rfl) h;(repeat refine Ax ?_);refine Qq7 [6,7,8,9] (.two [(0,true),(1,true),(5,true),(6,true),(8,true),(9,true),(10,true),(11,true),(13,true),(14,true),(15,true),(19,true)] 2 7 (.seq [(3,true),(4,true),(7,false),(12,false),(16,false),(17,false),(18,false),(20,false),(21,false),(22,false),(23,false),(24,true),(25,true),(26,true),(27,true),(28,true)]) (.two [] 2 12 (.seq [(3,true),(4,true),(12,false),(16,false),(17,false),(18,false),(20,false),(21,false),(22,false),(23,false),(24,true),(25,true),(26,true),(27,true),(28,true)]) (.two [] 2 16 (.seq [(3,true),(4,true),(16,false),(17,false),(18,false),(20,false),(21,false),(22,false),(23,false),(24,true),(25,true),(26,true),(27,true),(28,true)]) (.two [] 2 17 (.seq [(3,true),(4,true),(17,false),(18,false),(20,false),(21,false),(22,false),(23,false),(24,true),(25,true),(26,true),(27,true),(28,true)]) (.two [] 2 18 (.seq [(3,true),(4,true),(18,false),(20,false),(21,false),(22,false),(23,false),(24,true),(25,true),(26,true),(27,true),(28,true)]) (.two [] 2 20 (.seq [(3,true),(4,true),(20,false),(21,false),(22,false),(23,false),(24,true),(25,true),(26,true),(27,true),(28,true)]) (.two [] 2 21 (.seq [(3,true),(4,true),(21,false),(22,false),(23,false),(24,true),(25,true),(26,true),(27,true),(28,true)]) (.seq [(2,false),(3,false),(4,true),(22,false),(23,false),(24,true),(25,true),(26,true),(27,true),(28,true)])))))))) (by kernel_rfl) (by kernel_rfl) rfl fun K hK=>?_
 have last:∀ w9,Heap w7 [] w9 []->K [(6,.bool true),(7,Aa (Kz nm n++Bh 8)),(8,Aa (Lx k pre)),(9,.bool true)] w9:=by
  intro w9 hE;have hW:=hH3.call0 hE;rw [Ya] at hW;clear hE rl hH3
  have hlen:(Kz nm n++Bh 8++Lx k pre).length=512:=by
   rw [Yi,Yi,St q2,Mt q1,Ey]
  have hsum:Od (Kz nm n++Bh 8++Lx k pre)=Ly pre nm k n:=by rw [Ly,Yk]
  have hlt:=Qtk q1 q2 k n;have hl1:=St q2 n;have hl2:=Mt q1 k;apply hK;clear hK;refine Am [7,8,97] fun K hK=>?_;(repeat refine Qo ?_);apply hK;clear hK;refine Ae rfl rfl (fun h=>by simp at h) (fun h=>Ab ?_);refine Am [7,8,10] fun K hK=>?_;refine And.intro (by simp [Ey];omega) ?_;refine Ac Tryz.call79 ?_;refine Qi ?_;refine Yd (Qje (Kz nm n++Bh 8++Lx k pre) w9 hlen) ?_;rintro v w10 ⟨rfl,rfl⟩;rw [hsum];(try refine Qi ?_);apply hK;clear hK;refine Am [7,8,12] fun K hK=>?_;refine Ac Tryz.call92 ?_;refine Qi ?_;refine Yd (Qgl (Ly pre nm k n) 7 w10 (by omega) (by omega) hlt (by omega)) ?_;rintro v w11 ⟨hHo,rfl⟩;replace hW:=hW.call0 hHo;rw [Ya] at hW;(try refine Qi ?_);apply hK;clear hK;refine Am [2,3] fun K hK=>?_;have hl3:=I6 (Ly pre nm k n) (width:=7) (by omega);rw [show (Kz nm n++Bh 8).take (Xy 148)=Kz nm n from List.take_left' hl1];refine ⟨⟨by omega,by rw [Yi,hl1,Ey];omega⟩,by rw [hl1,hl3];omega,by simp;omega,by simp;omega,?_⟩;apply hK;clear hK;refine Ad (A7 rfl rfl rfl ⟨hW.sub (Yj _),?_⟩);rw [Eh];simp [Yk]
 have hCfl:List.flatten [[k],Av [] 100,ustarM,Av [] 32,Av [] 32,A4 0 8,A4 0 8,Av pre 155,Av [] 12]=Lx k pre:=by
  simp [Lx,Av,Bh]
 have hf9:∀ v∈[Lo [k],Lo (Av [] 100),Lo ustarM,Lo (Av [] 32),Lo (Av [] 32),Lo (A4 0 8),Lo (A4 0 8),Lo (Av pre 155),Lo (Av [] 12)],v.cells.size=2:=by
  intro v hv;simp only [Xe,List.not_mem_nil,or_false] at hv;rcases hv with rfl | rfl | rfl | rfl | rfl | rfl | rfl | rfl | rfl <;> rfl
 clear hK hH3;rw [K9];simp only [Bd,List.filterMap_cons,List.filterMap_nil,List.getElem?_cons_succ,List.getElem?_cons_zero,Option.map_some];refine Qi ?_;refine ⟨_,rl 2 _ rfl,_,rl 5 _ rfl,?_⟩;(try refine Qi ?_);refine ⟨⟨by omega,by omega⟩,_,rl 6 _ rfl,⟨by omega,by omega⟩,_,rl 7 _ rfl,?_⟩;clear rl;have hW:=Xa w7;have hE:=Xa w7;(try refine Qi ?_);refine ⟨?_,?_⟩
 ·
  (refine Fb hE (An [k]) (xs:=[.tmp 67]) Yg Fj rfl rfl rfl (by omega) ?_;refine Qi ?_;refine ⟨rfl,by simp [Yv],fun g w4 hE2=>?_⟩;(try refine Qi ?_);replace hE:=hE2;clear hE2;refine ⟨hE.ext,?_⟩;try (refine Qi ?_))
  ((try simp only [Ll]);replace hW:=hW.call0 hE;simp only [Ya,Yl] at hW;clear hE;refine Lp fun hE=>?_;(first | rw [K9] | rw [Ln]);simp only [Bd,List.filterMap_cons,List.filterMap_nil,List.getElem?_cons_succ,List.getElem?_cons_zero,Option.map_some];refine Qi ?_)
  (refine ⟨[k],K4 (by first | exact Az (hW.at 0 rfl) | exact Az (hE.at 0 rfl)),?_⟩;try (refine Qi ?_))
  (refine Ac Yn ?_;refine Qi ?_;refine Yd (Eu [] 100 100 _ (by simp) (by simp) (by omega) (by simp)) ?_;rintro v w9 ⟨hHx,rfl⟩;replace hE:=hE.call0 hHx;rw [Ya] at hE;clear hHx;refine ⟨hE.ext,?_⟩;try (refine Qi ?_))
  (refine Ac Yn ?_;refine Qi ?_;refine Yd (Eu [] 32 31 _ (by simp) (by simp) (by omega) (by simp)) ?_;rintro v w9 ⟨hHx,rfl⟩;replace hE:=hE.call0 hHx;rw [Ya] at hE;clear hHx;refine ⟨hE.ext,?_⟩;try (refine Qi ?_))
  (refine Ac Yn ?_;refine Qi ?_;refine Yd (Eu [] 32 31 _ (by simp) (by simp) (by omega) (by simp)) ?_;rintro v w9 ⟨hHx,rfl⟩;replace hE:=hE.call0 hHx;rw [Ya] at hE;clear hHx;refine ⟨hE.ext,?_⟩;try (refine Qi ?_))
  (refine Ac Yt ?_;refine Qi ?_;refine Yd (Km 0 8 _ (by omega) (by omega) (by decide) (by omega)) ?_;rintro v w9 ⟨hHx,rfl⟩;replace hE:=hE.call0 hHx;rw [Ya] at hE;clear hHx;refine ⟨hE.ext,?_⟩;try (refine Qi ?_))
  (refine Ac Yt ?_;refine Qi ?_;refine Yd (Km 0 8 _ (by omega) (by omega) (by decide) (by omega)) ?_;rintro v w9 ⟨hHx,rfl⟩;replace hE:=hE.call0 hHx;rw [Ya] at hE;clear hHx;refine ⟨hE.ext,?_⟩;try (refine Qi ?_))
  (refine Ac Yn ?_;refine Qi ?_;refine Yd (Eu pre 155 155 _ q1 q1 (by omega) z1) ?_;rintro v w9 ⟨hHx,rfl⟩;replace hE:=hE.call0 hHx;rw [Ya] at hE;clear hHx;refine ⟨hE.ext,?_⟩;try (refine Qi ?_))
  (refine Ac Yn ?_;refine Qi ?_;refine Yd (Eu [] 12 12 _ (by simp) (by simp) (by omega) (by simp)) ?_;rintro v w9 ⟨hHx,rfl⟩;replace hE:=hE.call0 hHx;rw [Ya] at hE;clear hHx;refine ⟨hE.ext,?_⟩;try (refine Qi ?_))
  (refine E4 hE 2 (Nz [[k],Av [] 100,ustarM,Av [] 32,Av [] 32,A4 0 8,A4 0 8,Av pre 155,Av [] 12]) (xs:=[.tmp 70,.tmp 73,.tmp 74,.tmp 78,.tmp 82,.tmp 83,.tmp 84,.tmp 86,.tmp 87]) Yu N7 rfl rfl rfl (by omega) (by omega) ?_;refine Qi ?_;refine ⟨rfl,hf9,fun ga w8 hE2=>⟨hE2.ext,?_⟩⟩;(try (refine Qi ?_));refine Ac Xi ?_;refine Qi ?_;refine Yd (Oq [[k],Av [] 100,ustarM,Av [] 32,Av [] 32,A4 0 8,A4 0 8,Av pre 155,Av [] 12] ga 9 w8 (Az (hE2.at 0 rfl)) (hE2.foot _ (Yr ..) ga (by simp [Y6])).2 (by simp) (by rw [hCfl,Mt q1];omega)) ?_;rintro v w9 ⟨hHx,rfl⟩;replace hE:=(hE2.sub (Yj _)).call0 hHx;rw [Ya] at hE;clear hHx hE2;rw [hCfl];refine ⟨hE.ext,?_⟩;(try (refine Qi ?_));exact last _ ((hW.call0 hE).sub (Yj _)))
 (refine Ac Yn ?_;refine Qi ?_;refine Yd (Eu [] 100 100 _ (by simp) (by simp) (by omega) (by simp)) ?_;rintro v w9 ⟨hHx,rfl⟩;replace hE:=hE.call0 hHx;rw [Ya] at hE;clear hHx;refine ⟨hE.ext,?_⟩;try (refine Qi ?_))
 ((try simp only [Ll]);replace hW:=hW.call0 hE;simp only [Ya,Yl] at hW;clear hE;refine Lp fun hE=>?_;(first | rw [K9] | rw [Ln]);simp only [Bd,List.filterMap_cons,List.filterMap_nil,List.getElem?_cons_succ,List.getElem?_cons_zero,Option.map_some];refine Qi ?_)
 refine And.intro ?_ ?_
 ·
  (refine Fb hE (An [k]) (xs:=[.tmp 67]) Yg Fj rfl rfl rfl (by omega) ?_;refine Qi ?_;refine ⟨rfl,by simp [Yv],fun g w4 hE2=>?_⟩;(try refine Qi ?_);replace hE:=hE2;clear hE2;refine ⟨hE.ext,?_⟩;try (refine Qi ?_))
  ((try simp only [Ll]);replace hW:=hW.call0 hE;simp only [Ya,Yl] at hW;clear hE;refine Lp fun hE=>?_;(first | rw [K9] | rw [Ln]);simp only [Bd,List.filterMap_cons,List.filterMap_nil,List.getElem?_cons_succ,List.getElem?_cons_zero,Option.map_some];refine Qi ?_)
  (refine ⟨[k],K4 (by first | exact Az (hW.at 0 rfl) | exact Az (hE.at 0 rfl)),?_⟩;try (refine Qi ?_))
  (refine Ac Yn ?_;refine Qi ?_;refine Yd (Eu [] 32 31 _ (by simp) (by simp) (by omega) (by simp)) ?_;rintro v w9 ⟨hHx,rfl⟩;replace hE:=hE.call0 hHx;rw [Ya] at hE;clear hHx;refine ⟨hE.ext,?_⟩;try (refine Qi ?_))
  (refine Ac Yn ?_;refine Qi ?_;refine Yd (Eu [] 32 31 _ (by simp) (by simp) (by omega) (by simp)) ?_;rintro v w9 ⟨hHx,rfl⟩;replace hE:=hE.call0 hHx;rw [Ya] at hE;clear hHx;refine ⟨hE.ext,?_⟩;try (refine Qi ?_))
  (refine Ac Yt ?_;refine Qi ?_;refine Yd (Km 0 8 _ (by omega) (by omega) (by decide) (by omega)) ?_;rintro v w9 ⟨hHx,rfl⟩;replace hE:=hE.call0 hHx;rw [Ya] at hE;clear hHx;refine ⟨hE.ext,?_⟩;try (refine Qi ?_))
  (refine Ac Yt ?_;refine Qi ?_;refine Yd (Km 0 8 _ (by omega) (by omega) (by decide) (by omega)) ?_;rintro v w9 ⟨hHx,rfl⟩;replace hE:=hE.call0 hHx;rw [Ya] at hE;clear hHx;refine ⟨hE.ext,?_⟩;try (refine Qi ?_))
  (refine Ac Yn ?_;refine Qi ?_;refine Yd (Eu pre 155 155 _ q1 q1 (by omega) z1) ?_;rintro v w9 ⟨hHx,rfl⟩;replace hE:=hE.call0 hHx;rw [Ya] at hE;clear hHx;refine ⟨hE.ext,?_⟩;try (refine Qi ?_))
  (refine Ac Yn ?_;refine Qi ?_;refine Yd (Eu [] 12 12 _ (by simp) (by simp) (by omega) (by simp)) ?_;rintro v w9 ⟨hHx,rfl⟩;replace hE:=hE.call0 hHx;rw [Ya] at hE;clear hHx;refine ⟨hE.ext,?_⟩;try (refine Qi ?_))
  (refine E4 hE 2 (Nz [[k],Av [] 100,ustarM,Av [] 32,Av [] 32,A4 0 8,A4 0 8,Av pre 155,Av [] 12]) (xs:=[.tmp 70,.tmp 73,.tmp 74,.tmp 78,.tmp 82,.tmp 83,.tmp 84,.tmp 86,.tmp 87]) Yu N7 rfl rfl rfl (by omega) (by omega) ?_;refine Qi ?_;refine ⟨rfl,hf9,fun ga w8 hE2=>⟨hE2.ext,?_⟩⟩;(try (refine Qi ?_));refine Ac Xi ?_;refine Qi ?_;refine Yd (Oq [[k],Av [] 100,ustarM,Av [] 32,Av [] 32,A4 0 8,A4 0 8,Av pre 155,Av [] 12] ga 9 w8 (Az (hE2.at 0 rfl)) (hE2.foot _ (Yr ..) ga (by simp [Y6])).2 (by simp) (by rw [hCfl,Mt q1];omega)) ?_;rintro v w9 ⟨hHx,rfl⟩;replace hE:=(hE2.sub (Yj _)).call0 hHx;rw [Ya] at hE;clear hHx hE2;rw [hCfl];refine ⟨hE.ext,?_⟩;(try (refine Qi ?_));exact last _ ((hW.call0 hE).sub (Yj _)))
 (refine Ac Yn ?_;refine Qi ?_;refine Yd (Eu [] 32 31 _ (by simp) (by simp) (by omega) (by simp)) ?_;rintro v w9 ⟨hHx,rfl⟩;replace hE:=hE.call0 hHx;rw [Ya] at hE;clear hHx;refine ⟨hE.ext,?_⟩;try (refine Qi ?_))
 ((try simp only [Ll]);replace hW:=hW.call0 hE;simp only [Ya,Yl] at hW;clear hE;refine Lp fun hE=>?_;(first | rw [K9] | rw [Ln]);simp only [Bd,List.filterMap_cons,List.filterMap_nil,List.getElem?_cons_succ,List.getElem?_cons_zero,Option.map_some];refine Qi ?_)
 refine And.intro ?_ ?_
 ·
  (refine Fb hE (An [k]) (xs:=[.tmp 67]) Yg Fj rfl rfl rfl (by omega) ?_;refine Qi ?_;refine ⟨rfl,by simp [Yv],fun g w4 hE2=>?_⟩;(try refine Qi ?_);replace hE:=hE2;clear hE2;refine ⟨hE.ext,?_⟩;try (refine Qi ?_))
  ((try simp only [Ll]);replace hW:=hW.call0 hE;simp only [Ya,Yl] at hW;clear hE;refine Lp fun hE=>?_;(first | rw [K9] | rw [Ln]);simp only [Bd,List.filterMap_cons,List.filterMap_nil,List.getElem?_cons_succ,List.getElem?_cons_zero,Option.map_some];refine Qi ?_)
  (refine ⟨[k],K4 (by first | exact Az (hW.at 0 rfl) | exact Az (hE.at 0 rfl)),?_⟩;try (refine Qi ?_))
  (refine Ac Yn ?_;refine Qi ?_;refine Yd (Eu [] 32 31 _ (by simp) (by simp) (by omega) (by simp)) ?_;rintro v w9 ⟨hHx,rfl⟩;replace hE:=hE.call0 hHx;rw [Ya] at hE;clear hHx;refine ⟨hE.ext,?_⟩;try (refine Qi ?_))
  (refine Ac Yt ?_;refine Qi ?_;refine Yd (Km 0 8 _ (by omega) (by omega) (by decide) (by omega)) ?_;rintro v w9 ⟨hHx,rfl⟩;replace hE:=hE.call0 hHx;rw [Ya] at hE;clear hHx;refine ⟨hE.ext,?_⟩;try (refine Qi ?_))
  (refine Ac Yt ?_;refine Qi ?_;refine Yd (Km 0 8 _ (by omega) (by omega) (by decide) (by omega)) ?_;rintro v w9 ⟨hHx,rfl⟩;replace hE:=hE.call0 hHx;rw [Ya] at hE;clear hHx;refine ⟨hE.ext,?_⟩;try (refine Qi ?_))
  (refine Ac Yn ?_;refine Qi ?_;refine Yd (Eu pre 155 155 _ q1 q1 (by omega) z1) ?_;rintro v w9 ⟨hHx,rfl⟩;replace hE:=hE.call0 hHx;rw [Ya] at hE;clear hHx;refine ⟨hE.ext,?_⟩;try (refine Qi ?_))
  (refine Ac Yn ?_;refine Qi ?_;refine Yd (Eu [] 12 12 _ (by simp) (by simp) (by omega) (by simp)) ?_;rintro v w9 ⟨hHx,rfl⟩;replace hE:=hE.call0 hHx;rw [Ya] at hE;clear hHx;refine ⟨hE.ext,?_⟩;try (refine Qi ?_))
  (refine E4 hE 2 (Nz [[k],Av [] 100,ustarM,Av [] 32,Av [] 32,A4 0 8,A4 0 8,Av pre 155,Av [] 12]) (xs:=[.tmp 70,.tmp 73,.tmp 74,.tmp 78,.tmp 82,.tmp 83,.tmp 84,.tmp 86,.tmp 87]) Yu N7 rfl rfl rfl (by omega) (by omega) ?_;refine Qi ?_;refine ⟨rfl,hf9,fun ga w8 hE2=>⟨hE2.ext,?_⟩⟩;(try (refine Qi ?_));refine Ac Xi ?_;refine Qi ?_;refine Yd (Oq [[k],Av [] 100,ustarM,Av [] 32,Av [] 32,A4 0 8,A4 0 8,Av pre 155,Av [] 12] ga 9 w8 (Az (hE2.at 0 rfl)) (hE2.foot _ (Yr ..) ga (by simp [Y6])).2 (by simp) (by rw [hCfl,Mt q1];omega)) ?_;rintro v w9 ⟨hHx,rfl⟩;replace hE:=(hE2.sub (Yj _)).call0 hHx;rw [Ya] at hE;clear hHx hE2;rw [hCfl];refine ⟨hE.ext,?_⟩;(try (refine Qi ?_));exact last _ ((hW.call0 hE).sub (Yj _)))
 (refine Ac Yn ?_;refine Qi ?_;refine Yd (Eu [] 32 31 _ (by simp) (by simp) (by omega) (by simp)) ?_;rintro v w9 ⟨hHx,rfl⟩;replace hE:=hE.call0 hHx;rw [Ya] at hE;clear hHx;refine ⟨hE.ext,?_⟩;try (refine Qi ?_))
 ((try simp only [Ll]);replace hW:=hW.call0 hE;simp only [Ya,Yl] at hW;clear hE;refine Lp fun hE=>?_;(first | rw [K9] | rw [Ln]);simp only [Bd,List.filterMap_cons,List.filterMap_nil,List.getElem?_cons_succ,List.getElem?_cons_zero,Option.map_some];refine Qi ?_)
 refine And.intro ?_ ?_
 ·
  (refine Fb hE (An [k]) (xs:=[.tmp 67]) Yg Fj rfl rfl rfl (by omega) ?_;refine Qi ?_;refine ⟨rfl,by simp [Yv],fun g w4 hE2=>?_⟩;(try refine Qi ?_);replace hE:=hE2;clear hE2;refine ⟨hE.ext,?_⟩;try (refine Qi ?_))
  ((try simp only [Ll]);replace hW:=hW.call0 hE;simp only [Ya,Yl] at hW;clear hE;refine Lp fun hE=>?_;(first | rw [K9] | rw [Ln]);simp only [Bd,List.filterMap_cons,List.filterMap_nil,List.getElem?_cons_succ,List.getElem?_cons_zero,Option.map_some];refine Qi ?_)
  (refine ⟨[k],K4 (by first | exact Az (hW.at 0 rfl) | exact Az (hE.at 0 rfl)),?_⟩;try (refine Qi ?_))
  (refine Ac Yt ?_;refine Qi ?_;refine Yd (Km 0 8 _ (by omega) (by omega) (by decide) (by omega)) ?_;rintro v w9 ⟨hHx,rfl⟩;replace hE:=hE.call0 hHx;rw [Ya] at hE;clear hHx;refine ⟨hE.ext,?_⟩;try (refine Qi ?_))
  (refine Ac Yt ?_;refine Qi ?_;refine Yd (Km 0 8 _ (by omega) (by omega) (by decide) (by omega)) ?_;rintro v w9 ⟨hHx,rfl⟩;replace hE:=hE.call0 hHx;rw [Ya] at hE;clear hHx;refine ⟨hE.ext,?_⟩;try (refine Qi ?_))
  (refine Ac Yn ?_;refine Qi ?_;refine Yd (Eu pre 155 155 _ q1 q1 (by omega) z1) ?_;rintro v w9 ⟨hHx,rfl⟩;replace hE:=hE.call0 hHx;rw [Ya] at hE;clear hHx;refine ⟨hE.ext,?_⟩;try (refine Qi ?_))
  (refine Ac Yn ?_;refine Qi ?_;refine Yd (Eu [] 12 12 _ (by simp) (by simp) (by omega) (by simp)) ?_;rintro v w9 ⟨hHx,rfl⟩;replace hE:=hE.call0 hHx;rw [Ya] at hE;clear hHx;refine ⟨hE.ext,?_⟩;try (refine Qi ?_))
  (refine E4 hE 2 (Nz [[k],Av [] 100,ustarM,Av [] 32,Av [] 32,A4 0 8,A4 0 8,Av pre 155,Av [] 12]) (xs:=[.tmp 70,.tmp 73,.tmp 74,.tmp 78,.tmp 82,.tmp 83,.tmp 84,.tmp 86,.tmp 87]) Yu N7 rfl rfl rfl (by omega) (by omega) ?_;refine Qi ?_;refine ⟨rfl,hf9,fun ga w8 hE2=>⟨hE2.ext,?_⟩⟩;(try (refine Qi ?_));refine Ac Xi ?_;refine Qi ?_;refine Yd (Oq [[k],Av [] 100,ustarM,Av [] 32,Av [] 32,A4 0 8,A4 0 8,Av pre 155,Av [] 12] ga 9 w8 (Az (hE2.at 0 rfl)) (hE2.foot _ (Yr ..) ga (by simp [Y6])).2 (by simp) (by rw [hCfl,Mt q1];omega)) ?_;rintro v w9 ⟨hHx,rfl⟩;replace hE:=(hE2.sub (Yj _)).call0 hHx;rw [Ya] at hE;clear hHx hE2;rw [hCfl];refine ⟨hE.ext,?_⟩;(try (refine Qi ?_));exact last _ ((hW.call0 hE).sub (Yj _)))
 (refine Ac Yt ?_;refine Qi ?_;refine Yd (Km 0 8 _ (by omega) (by omega) (by decide) (by omega)) ?_;rintro v w9 ⟨hHx,rfl⟩;replace hE:=hE.call0 hHx;rw [Ya] at hE;clear hHx;refine ⟨hE.ext,?_⟩;try (refine Qi ?_))
 ((try simp only [Ll]);replace hW:=hW.call0 hE;simp only [Ya,Yl] at hW;clear hE;refine Lp fun hE=>?_;(first | rw [K9] | rw [Ln]);simp only [Bd,List.filterMap_cons,List.filterMap_nil,List.getElem?_cons_succ,List.getElem?_cons_zero,Option.map_some];refine Qi ?_)
 refine And.intro ?_ ?_
 ·
  (refine Fb hE (An [k]) (xs:=[.tmp 67]) Yg Fj rfl rfl rfl (by omega) ?_;refine Qi ?_;refine ⟨rfl,by simp [Yv],fun g w4 hE2=>?_⟩;(try refine Qi ?_);replace hE:=hE2;clear hE2;refine ⟨hE.ext,?_⟩;try (refine Qi ?_))
  ((try simp only [Ll]);replace hW:=hW.call0 hE;simp only [Ya,Yl] at hW;clear hE;refine Lp fun hE=>?_;(first | rw [K9] | rw [Ln]);simp only [Bd,List.filterMap_cons,List.filterMap_nil,List.getElem?_cons_succ,List.getElem?_cons_zero,Option.map_some];refine Qi ?_)
  (refine ⟨[k],K4 (by first | exact Az (hW.at 0 rfl) | exact Az (hE.at 0 rfl)),?_⟩;try (refine Qi ?_))
  (refine Ac Yt ?_;refine Qi ?_;refine Yd (Km 0 8 _ (by omega) (by omega) (by decide) (by omega)) ?_;rintro v w9 ⟨hHx,rfl⟩;replace hE:=hE.call0 hHx;rw [Ya] at hE;clear hHx;refine ⟨hE.ext,?_⟩;try (refine Qi ?_))
  (refine Ac Yn ?_;refine Qi ?_;refine Yd (Eu pre 155 155 _ q1 q1 (by omega) z1) ?_;rintro v w9 ⟨hHx,rfl⟩;replace hE:=hE.call0 hHx;rw [Ya] at hE;clear hHx;refine ⟨hE.ext,?_⟩;try (refine Qi ?_))
  (refine Ac Yn ?_;refine Qi ?_;refine Yd (Eu [] 12 12 _ (by simp) (by simp) (by omega) (by simp)) ?_;rintro v w9 ⟨hHx,rfl⟩;replace hE:=hE.call0 hHx;rw [Ya] at hE;clear hHx;refine ⟨hE.ext,?_⟩;try (refine Qi ?_))
  (refine E4 hE 2 (Nz [[k],Av [] 100,ustarM,Av [] 32,Av [] 32,A4 0 8,A4 0 8,Av pre 155,Av [] 12]) (xs:=[.tmp 70,.tmp 73,.tmp 74,.tmp 78,.tmp 82,.tmp 83,.tmp 84,.tmp 86,.tmp 87]) Yu N7 rfl rfl rfl (by omega) (by omega) ?_;refine Qi ?_;refine ⟨rfl,hf9,fun ga w8 hE2=>⟨hE2.ext,?_⟩⟩;(try (refine Qi ?_));refine Ac Xi ?_;refine Qi ?_;refine Yd (Oq [[k],Av [] 100,ustarM,Av [] 32,Av [] 32,A4 0 8,A4 0 8,Av pre 155,Av [] 12] ga 9 w8 (Az (hE2.at 0 rfl)) (hE2.foot _ (Yr ..) ga (by simp [Y6])).2 (by simp) (by rw [hCfl,Mt q1];omega)) ?_;rintro v w9 ⟨hHx,rfl⟩;replace hE:=(hE2.sub (Yj _)).call0 hHx;rw [Ya] at hE;clear hHx hE2;rw [hCfl];refine ⟨hE.ext,?_⟩;(try (refine Qi ?_));exact last _ ((hW.call0 hE).sub (Yj _)))
 (refine Ac Yt ?_;refine Qi ?_;refine Yd (Km 0 8 _ (by omega) (by omega) (by decide) (by omega)) ?_;rintro v w9 ⟨hHx,rfl⟩;replace hE:=hE.call0 hHx;rw [Ya] at hE;clear hHx;refine ⟨hE.ext,?_⟩;try (refine Qi ?_))
 ((try simp only [Ll]);replace hW:=hW.call0 hE;simp only [Ya,Yl] at hW;clear hE;refine Lp fun hE=>?_;(first | rw [K9] | rw [Ln]);simp only [Bd,List.filterMap_cons,List.filterMap_nil,List.getElem?_cons_succ,List.getElem?_cons_zero,Option.map_some];refine Qi ?_)
 refine And.intro ?_ ?_
 ·
  (refine Fb hE (An [k]) (xs:=[.tmp 67]) Yg Fj rfl rfl rfl (by omega) ?_;refine Qi ?_;refine ⟨rfl,by simp [Yv],fun g w4 hE2=>?_⟩;(try refine Qi ?_);replace hE:=hE2;clear hE2;refine ⟨hE.ext,?_⟩;try (refine Qi ?_))
  ((try simp only [Ll]);replace hW:=hW.call0 hE;simp only [Ya,Yl] at hW;clear hE;refine Lp fun hE=>?_;(first | rw [K9] | rw [Ln]);simp only [Bd,List.filterMap_cons,List.filterMap_nil,List.getElem?_cons_succ,List.getElem?_cons_zero,Option.map_some];refine Qi ?_)
  (refine ⟨[k],K4 (by first | exact Az (hW.at 0 rfl) | exact Az (hE.at 0 rfl)),?_⟩;try (refine Qi ?_))
  (refine Ac Yn ?_;refine Qi ?_;refine Yd (Eu pre 155 155 _ q1 q1 (by omega) z1) ?_;rintro v w9 ⟨hHx,rfl⟩;replace hE:=hE.call0 hHx;rw [Ya] at hE;clear hHx;refine ⟨hE.ext,?_⟩;try (refine Qi ?_))
  (refine Ac Yn ?_;refine Qi ?_;refine Yd (Eu [] 12 12 _ (by simp) (by simp) (by omega) (by simp)) ?_;rintro v w9 ⟨hHx,rfl⟩;replace hE:=hE.call0 hHx;rw [Ya] at hE;clear hHx;refine ⟨hE.ext,?_⟩;try (refine Qi ?_))
  (refine E4 hE 2 (Nz [[k],Av [] 100,ustarM,Av [] 32,Av [] 32,A4 0 8,A4 0 8,Av pre 155,Av [] 12]) (xs:=[.tmp 70,.tmp 73,.tmp 74,.tmp 78,.tmp 82,.tmp 83,.tmp 84,.tmp 86,.tmp 87]) Yu N7 rfl rfl rfl (by omega) (by omega) ?_;refine Qi ?_;refine ⟨rfl,hf9,fun ga w8 hE2=>⟨hE2.ext,?_⟩⟩;(try (refine Qi ?_));refine Ac Xi ?_;refine Qi ?_;refine Yd (Oq [[k],Av [] 100,ustarM,Av [] 32,Av [] 32,A4 0 8,A4 0 8,Av pre 155,Av [] 12] ga 9 w8 (Az (hE2.at 0 rfl)) (hE2.foot _ (Yr ..) ga (by simp [Y6])).2 (by simp) (by rw [hCfl,Mt q1];omega)) ?_;rintro v w9 ⟨hHx,rfl⟩;replace hE:=(hE2.sub (Yj _)).call0 hHx;rw [Ya] at hE;clear hHx hE2;rw [hCfl];refine ⟨hE.ext,?_⟩;(try (refine Qi ?_));exact last _ ((hW.call0 hE).sub (Yj _)))
 (refine Ac Yn ?_;refine Qi ?_;refine Yd (Eu pre 155 155 _ q1 q1 (by omega) z1) ?_;rintro v w9 ⟨hHx,rfl⟩;replace hE:=hE.call0 hHx;rw [Ya] at hE;clear hHx;refine ⟨hE.ext,?_⟩;try (refine Qi ?_))
 ((try simp only [Ll]);replace hW:=hW.call0 hE;simp only [Ya,Yl] at hW;clear hE;refine Lp fun hE=>?_;(first | rw [K9] | rw [Ln]);simp only [Bd,List.filterMap_cons,List.filterMap_nil,List.getElem?_cons_succ,List.getElem?_cons_zero,Option.map_some];refine Qi ?_)
 refine And.intro ?_ ?_
 ·
  (refine Fb hE (An [k]) (xs:=[.tmp 67]) Yg Fj rfl rfl rfl (by omega) ?_;refine Qi ?_;refine ⟨rfl,by simp [Yv],fun g w4 hE2=>?_⟩;(try refine Qi ?_);replace hE:=hE2;clear hE2;refine ⟨hE.ext,?_⟩;try (refine Qi ?_))
  ((try simp only [Ll]);replace hW:=hW.call0 hE;simp only [Ya,Yl] at hW;clear hE;refine Lp fun hE=>?_;(first | rw [K9] | rw [Ln]);simp only [Bd,List.filterMap_cons,List.filterMap_nil,List.getElem?_cons_succ,List.getElem?_cons_zero,Option.map_some];refine Qi ?_)
  (refine ⟨[k],K4 (by first | exact Az (hW.at 0 rfl) | exact Az (hE.at 0 rfl)),?_⟩;try (refine Qi ?_))
  (refine Ac Yn ?_;refine Qi ?_;refine Yd (Eu [] 12 12 _ (by simp) (by simp) (by omega) (by simp)) ?_;rintro v w9 ⟨hHx,rfl⟩;replace hE:=hE.call0 hHx;rw [Ya] at hE;clear hHx;refine ⟨hE.ext,?_⟩;try (refine Qi ?_))
  (refine E4 hE 2 (Nz [[k],Av [] 100,ustarM,Av [] 32,Av [] 32,A4 0 8,A4 0 8,Av pre 155,Av [] 12]) (xs:=[.tmp 70,.tmp 73,.tmp 74,.tmp 78,.tmp 82,.tmp 83,.tmp 84,.tmp 86,.tmp 87]) Yu N7 rfl rfl rfl (by omega) (by omega) ?_;refine Qi ?_;refine ⟨rfl,hf9,fun ga w8 hE2=>⟨hE2.ext,?_⟩⟩;(try (refine Qi ?_));refine Ac Xi ?_;refine Qi ?_;refine Yd (Oq [[k],Av [] 100,ustarM,Av [] 32,Av [] 32,A4 0 8,A4 0 8,Av pre 155,Av [] 12] ga 9 w8 (Az (hE2.at 0 rfl)) (hE2.foot _ (Yr ..) ga (by simp [Y6])).2 (by simp) (by rw [hCfl,Mt q1];omega)) ?_;rintro v w9 ⟨hHx,rfl⟩;replace hE:=(hE2.sub (Yj _)).call0 hHx;rw [Ya] at hE;clear hHx hE2;rw [hCfl];refine ⟨hE.ext,?_⟩;(try (refine Qi ?_));exact last _ ((hW.call0 hE).sub (Yj _)))
 (refine Ac Yn ?_;refine Qi ?_;refine Yd (Eu [] 12 12 _ (by simp) (by simp) (by omega) (by simp)) ?_;rintro v w9 ⟨hHx,rfl⟩;replace hE:=hE.call0 hHx;rw [Ya] at hE;clear hHx;refine ⟨hE.ext,?_⟩;try (refine Qi ?_))
 ((try simp only [Ll]);replace hW:=hW.call0 hE;simp only [Ya,Yl] at hW;clear hE;refine Lp fun hE=>?_;(first | rw [K9] | rw [Ln]);simp only [Bd,List.filterMap_cons,List.filterMap_nil,List.getElem?_cons_succ,List.getElem?_cons_zero,Option.map_some];refine Qi ?_)
 (refine Fb hE (An [k]) (xs:=[.tmp 67]) Yg Fj rfl rfl rfl (by omega) ?_;refine Qi ?_;refine ⟨rfl,by simp [Yv],fun g w4 hE2=>?_⟩;(try refine Qi ?_);replace hE:=hE2;clear hE2;refine ⟨hE.ext,?_⟩;try (refine Qi ?_))
 (refine ⟨[k],K4 (by first | exact Az (hW.at 0 rfl) | exact Az (hE.at 0 rfl)),?_⟩;try (refine Qi ?_))
 (refine E4 hE 2 (Nz [[k],Av [] 100,ustarM,Av [] 32,Av [] 32,A4 0 8,A4 0 8,Av pre 155,Av [] 12]) (xs:=[.tmp 70,.tmp 73,.tmp 74,.tmp 78,.tmp 82,.tmp 83,.tmp 84,.tmp 86,.tmp 87]) Yu N7 rfl rfl rfl (by omega) (by omega) ?_;refine Qi ?_;refine ⟨rfl,hf9,fun ga w8 hE2=>⟨hE2.ext,?_⟩⟩;(try (refine Qi ?_));refine Ac Xi ?_;refine Qi ?_;refine Yd (Oq [[k],Av [] 100,ustarM,Av [] 32,Av [] 32,A4 0 8,A4 0 8,Av pre 155,Av [] 12] ga 9 w8 (Az (hE2.at 0 rfl)) (hE2.foot _ (Yr ..) ga (by simp [Y6])).2 (by simp) (by rw [hCfl,Mt q1];omega)) ?_;rintro v w9 ⟨hHx,rfl⟩;replace hE:=(hE2.sub (Yj _)).call0 hHx;rw [Ya] at hE;clear hHx hE2;rw [hCfl];refine ⟨hE.ext,?_⟩;(try (refine Qi ?_));exact last _ ((hW.call0 hE).sub (Yj _)))
open Go.Shelf
def Qkx:Go.Shelf.Ren:=⟨fun | 171=>94 | 243=>133 | 246=>172 | 283=>188 | 284=>189 | 285=>190 | 286=>191 | 129=>157 | 317=>206 | 318=>207 | 319=>208 | 320=>209 | 337=>221 | 338=>222 | n=>n,fun | 3=>3 | 9=>9 | 2=>2 | 4=>4 | 171=>252 | 0=>0 | 53=>83 | 37=>37 | 5=>5 | 173=>254 | 212=>268 | 51=>78 | 20=>20 | 213=>269 | 46=>128 | 232=>281 | 233=>282 | n=>n,fun | 17=>1 | 18=>2 | 19=>3 | n=>n⟩
theorem Qys:Go.Proofs.LaysM.n171 Ym Qkx:={
 mixed:=by kernel_rfl
 f129:=Tryz.func157.trans (congrArg some (by kernel_rfl))
 f171:=Tryz.func94.trans (congrArg some (by kernel_rfl))
 f243:=Tryz.func133.trans (congrArg some (by kernel_rfl))
 f246:=Tryz.func172.trans (congrArg some (by kernel_rfl))
 f283:=Tryz.func188.trans (congrArg some (by kernel_rfl))
 f284:=Tryz.func189.trans (congrArg some (by kernel_rfl))
 f285:=Tryz.func190.trans (congrArg some (by kernel_rfl))
 f286:=Tryz.func191.trans (congrArg some (by kernel_rfl))
 f317:=Tryz.func206.trans (congrArg some (by kernel_rfl))
 f318:=Tryz.func207.trans (congrArg some (by kernel_rfl))
 f319:=Tryz.func208.trans (congrArg some (by kernel_rfl))
 f320:=Tryz.func209.trans (congrArg some (by kernel_rfl))
 f337:=Tryz.func221.trans (congrArg some (by kernel_rfl))
 f338:=Tryz.func222.trans (congrArg some (by kernel_rfl))
 t0:=Tryz.underlying0
 a0:=Tryz.isAgg0
 z0:=Tryz.sizeOf0
 v0:=Tryz.zeroValue0
 t2:=Tryz.underlying2
 a2:=Tryz.isAgg2
 z2:=Tryz.sizeOf2
 v2:=Tryz.zeroValue2
 t3:=Tryz.underlying3
 a3:=Tryz.isAgg3
 z3:=Tryz.sizeOf3
 v3:=Tryz.zeroValue3
 t4:=Tryz.underlying4
 a4:=Tryz.isAgg4
 z4:=Tryz.sizeOf4
 v4:=Tryz.zeroValue4
 t5:=Ub
 a5:=Tryz.isAgg5
 z5:=Tryz.sizeOf5
 v5:=Tryz.zeroValue5
 t9:=Uc
 a9:=Tryz.isAgg9
 z9:=Tryz.sizeOf9
 v9:=Tryz.zeroValue9
 t20:=Tryz.underlying20
 a20:=Tryz.isAgg20
 z20:=Tryz.sizeOf20
 v20:=Tryz.zeroValue20
 t37:=Yg
 a37:=Tryz.isAgg37
 z37:=Tryz.sizeOf37
 v37:=Tryz.zeroValue37
 t46:=Tryz.underlying128
 a46:=Tryz.isAgg128
 z46:=Tryz.sizeOf128
 v46:=Tryz.zeroValue128
 t51:=Tryz.underlying78
 a51:=Tryz.isAgg78
 z51:=Tryz.sizeOf78
 v51:=Tryz.zeroValue78
 t53:=Tryz.underlying83
 a53:=Tryz.isAgg83
 z53:=Tryz.sizeOf83
 v53:=Tryz.zeroValue83
 t171:=Tryz.underlying252
 a171:=Tryz.isAgg252
 z171:=Tryz.sizeOf252
 v171:=Tryz.zeroValue252
 t173:=Tryz.underlying254
 a173:=Tryz.isAgg254
 z173:=Tryz.sizeOf254
 v173:=Tryz.zeroValue254
 t212:=Tryz.underlying268
 a212:=Tryz.isAgg268
 z212:=Tryz.sizeOf268
 v212:=Tryz.zeroValue268
 t213:=Tryz.underlying269
 a213:=Tryz.isAgg269
 z213:=Tryz.sizeOf269
 t232:=Tryz.underlying281
 a232:=Tryz.isAgg281
 z232:=Tryz.sizeOf281
 v232:=Tryz.zeroValue281
 t233:=Tryz.underlying282
 a233:=Tryz.isAgg282
 z233:=Tryz.sizeOf282
 v233:=Tryz.zeroValue282
 g17:=by kernel_rfl
 g18:=by kernel_rfl
 g19:=by kernel_rfl
 i0:=by kernel_rfl
 i2:=by kernel_rfl
 i3:=by kernel_rfl
 i4:=by kernel_rfl
 i5:=by kernel_rfl
 i9:=by kernel_rfl
 i20:=by kernel_rfl
 i37:=by kernel_rfl
 i46:=by kernel_rfl
 i51:=by kernel_rfl
 i53:=by kernel_rfl
 i171:=by kernel_rfl
 i173:=by kernel_rfl
 i212:=by kernel_rfl
 i232:=by kernel_rfl
 i233:=by kernel_rfl
 m17:=by kernel_rfl
 m18:=by kernel_rfl
 m19:=by kernel_rfl }
open Go Go.Eng
set_option maxHeartbeats 1000000
def Tb (w:World):Prop:=Lib.TabIs Ym w "internal/strconv.uint64pow10" .u64 Lib.pow10Tab
theorem Tb.heap {w w':World}{G:List Res} (h:Tb w) (hH:Heap w [] w' G):Tb w':=Lib.tabBelow_of_tabIs h w' hH.upd.below
theorem Qyt:∀ n,n < 140->100<=n->Lib.itoa (n:Nat)=K0 n:=by decide +kernel
theorem Qcc (n:Nat) (w:World) (hT:Tb w) (h0:100<=n) (h1:n < 140):Does Ym 52 #[.int .i64 n] w fun v w'=>Heap w [] w' []/\v=Aa (K0 n):=by
 have hi:Does Ym 94 #[.int .i64 n] w fun v w'=>Heap w [] w' []/\v=Aa (K0 n):=by
  intro m;have hT2:Tb (w.drewN m):=hT.heap ((Xa w).drewN 0 m);refine (Go.Proofs.Any.strconv_Itoa Qys n (by omega) (by omega) (w.drewN m) hT2).mono fun e w' ⟨he,k,os,hw⟩=>?_;rw [Qyt n h1 h0] at he;have hb:=Lib.below_grow (w.drewN m).heap.size (w.drewN m) (Y5 _) k os;rw [<- hw] at hb;exact ⟨_,w',0,he,rfl,⟨⟨hb.os,hb.tape,hb.output,hb.size,fun k hk _=>hb.block k hk⟩,by simp,by simp,.nil⟩,rfl⟩
 refine En [.int .i64 n] 7 Tryz.func52 ?_;refine VS [0] ?_;refine VS [0,4] ?_;refine Ae rfl rfl (fun h=>absurd h (by simp)) (fun h=>Ab ?_);refine VQ [2] fun K hK=>?_;refine Ac Tryz.call94 ?_;refine Qs ?_;refine Yd hi ?_;rintro v w2 ⟨hH,rfl⟩;(try refine Qs ?_);apply hK;clear hK;exact Ad (A2 rfl rfl ⟨hH,rfl⟩)
set_option maxHeartbeats 1000000
abbrev tP:Nat:=60
theorem Qvi (p:Bs) (ga:Nat) (w:World) (hT:Tb w) (hl:Reads w ⟨ga,0,none⟩ [Aa pathW,Aa p]) (h1:100 < p.length) (h2:p.length<=120) :
  Does Ym 27 #[.slice (some ⟨ga,0,none⟩) 1 1] w fun v w'=>Heap w [] w' []/\v=.tuple #[Aa (Ei p),.int .i64 0]:=by
 have hnc:Lib.indexByte pathW 61=-1:=by decide
 refine En [.slice (some ⟨ga,0,none⟩) 1 1] 74 Tryz.func27 ?_;refine VS [0] ?_;refine VS [0,4] ?_;refine VS [0,4,12,13,14] ?_;refine VB ?_;refine Au [0,4,12,13,14] (fun m e w'=>∃ (i:Nat),Is e [(0,.slice (some ⟨ga,0,none⟩) 1 1),(4,.int .i64 0),(12,.slice (some ⟨ga,0,none⟩) 1 1),(13,.int .i64 1),(14,.int .i64 i)]/\Heap w [] w' []/\i<=1/\m=1 - i) 1 ?_ ?_
 ·
  refine Qs ?_;exact ⟨0,rfl,Xa w,by omega,rfl⟩
 rintro m e w' ⟨i,rfl,hH,hi,rfl⟩;refine VS [0,4,12,13,14,15] ?_;(repeat refine Ax ?_);refine VD (fun h=>?_) (fun h=>?_)
 ·
  obtain rfl:i=0:=by omega
  refine Ab ?_;refine VB ?_;have hrd:=hH.reads hl (by simp);refine VQ [0,4,6,12,13,14] fun K hK=>?_;(repeat first | refine Qo ?_ | refine Qp ?_);refine ⟨[Aa pathW,Aa p],⟨rfl,hrd⟩,?_⟩;(try refine Qs ?_);refine A6 (.agg #[Aa [],Aa []]) (by kernel_rfl) ?_;refine Qs ?_;have hH2:=hH.box tP [Aa [],Aa []];generalize w'.alloc (Xl #[Aa [],Aa []] tP)=w2 at *;generalize w'.heap.size=gf at *;(try refine Qs ?_);refine Af ?_;refine Qs ?_;refine Al hH2 0 (vs:=[Aa pathW,Aa p]) rfl rfl (by kernel_rfl) (by first | decide | (simp;done) | (simp;omega)) (by simp [Y3]) fun w6 hH3=>?_;(try refine Qs ?_);apply hK;clear hK;have c0:w6.cell? ⟨gf,0,none⟩=some (Aa pathW):=Aj (hH3.at 0 rfl) rfl;refine VQ [0,4,12,13,14,25] fun K hK=>?_;refine ⟨_,c0,?_⟩;(try refine Qs ?_);refine And.intro (fun _=>⟨_,c0,?_⟩) (fun h=>by simp at h);(try refine Qs ?_);refine Ac Tryz.call51 ?_;refine Qs ?_;refine Yd (Qbp pathW 61 _) ?_;rintro v w5 ⟨rfl,rfl⟩;rw [hnc];(try refine Qs ?_);apply hK;clear hK;refine Ae rfl rfl (fun h=>by simp at h) (fun h=>Ab ?_);refine Ao ?_;refine VS [0,4,12,13,14] ?_;refine Ah ?_;refine Qs ?_;exact ⟨0,by omega,1,rfl,hH3.sub (Yj _),by omega,rfl⟩
 refine As rfl ?_;clear h;have hld:Reads w' ⟨ga,0,none⟩ [Aa pathW,Aa p]:=hH.reads hl (by simp);replace hT:=hT.heap hH;refine VQ [0,4,7] fun K hK=>?_;refine A6 (.agg #[.pointer none,.slice none 0 0]) (by kernel_rfl) ?_;refine Qs ?_;obtain ⟨g,hg⟩:∃ g,g=w'.heap.size:=⟨_,rfl⟩;have hg0:w'.heap.size<=g:=by omega
 have hB:=Heap.newBld (Xa w');rw [<- hg] at hB ⊢;generalize w'.alloc (Xl #[.pointer none,.slice none 0 0] tB)=w1 at *;(try refine Qs ?_);apply hK;clear hK;refine VS [4,7,27,28,29] ?_;refine VB ?_;refine Au [4,7,27,28,29] (fun m e w3=>∃ (i:Nat) (og:Option Nat),Is e [(4,.int .i64 (if i=0 then 0 else p.length+10:Nat)),(7,pV g),(27,.slice (some ⟨ga,0,none⟩) 1 1),(28,.int .i64 1),(29,.int .i64 i)]/\Heap w' [] w3 [Res.bld g og (if i=0 then [] else Ei p)]/\i<=1/\m=1 - i) 1 ?_ ?_
 ·
  refine Qs ?_;exact ⟨0,none,rfl,hB,by omega,rfl⟩
 clear hB w1;rintro m e w3 ⟨i,og,rfl,hB,hi,rfl⟩;refine VS [4,7,27,28,29,30] ?_;(repeat refine Ax ?_);refine VD (fun h=>?_) (fun h=>?_)
 ·
  obtain rfl:i=0:=by omega
  rw [if_pos rfl] at hB;refine Ab ?_;refine VB ?_;have hrd:=hB.reads hld (by simp);refine VQ [4,7,9,27,28,29] fun K hK=>?_;(repeat first | refine Qo ?_ | refine Qp ?_);refine ⟨[Aa pathW,Aa p],⟨rfl,hrd⟩,?_⟩;(try refine Qs ?_);refine A6 (.agg #[Aa [],Aa []]) (by kernel_rfl) ?_;refine Qs ?_;have hH2:=hB.box tP [Aa [],Aa []];generalize w3.alloc (Xl #[Aa [],Aa []] tP)=w2 at *;generalize w3.heap.size=gf at *;(try refine Qs ?_);refine Af ?_;refine Qs ?_;refine Al hH2 0 (vs:=[Aa pathW,Aa p]) rfl rfl (by kernel_rfl) (by first | decide | (simp;done) | (simp;omega)) (by simp [Y3]) fun w6 hH3=>?_;(try refine Qs ?_);have hH3:Heap w' [] w6 [Uu gf tP [Aa pathW,Aa p],Res.bld g og []]:=hH3;clear hH2 hB hrd;apply hK;clear hK;have c0:w6.cell? ⟨gf,0,none⟩=some (Aa pathW):=Aj (hH3.at 0 rfl) rfl;have c1:w6.cell? ⟨gf,1,none⟩=some (Aa p):=Aj (hH3.at 0 rfl) rfl;refine VQ [4,7,9,10,27,28,29] fun K hK=>?_;refine ⟨_,c0,?_⟩;(try refine Qs ?_);refine ⟨_,c1,?_⟩;(try refine Qs ?_);rw [show ((pathW.length:Nat):Int)=4 from rfl];(repeat first | refine Qo ?_ | refine Qp ?_);rw [show ((4:Int)+p.length+3)=((p.length+7:Nat):Int) by omega];apply hK;clear hK;refine VQ [4,7,9,10,11,27,28,29] fun K hK=>?_;(repeat first | refine Qo ?_ | refine Qp ?_);rw [show ((p.length+7:Nat):Int)+1=((p.length+8:Nat):Int) by omega];apply hK;clear hK;refine VB ?_;have hdl:∀ n,(K0 n).length=3:=fun _=>rfl;refine Au [4,7,9,10,11,27,28,29] (fun m e w4=>∃ (z:Nat),Is e [(4,.int .i64 (0:Nat)),(7,pV g),(9,pV gf),(10,.int .i64 (p.length+7:Nat)),(11,.int .i64 (p.length+z:Nat)),(27,.slice (some ⟨ga,0,none⟩) 1 1),(28,.int .i64 1),(29,.int .i64 (0:Nat))]/\Heap w' [] w4 [Uu gf tP [Aa pathW,Aa p],Res.bld g og []]/\(z=8/\m=1∨z=10/\m=0)) 1 ?_ ?_
  ·
   refine Qs ?_;refine ⟨8,rfl,hH3,?_⟩;simp
  clear hH3 c0 c1;rintro m e w4 ⟨z,rfl,hH3,hz⟩;refine VQ [4,7,9,10,11,27,28,29,49] fun K hK=>?_;refine Ac U9 ?_;refine Qs ?_;refine Yd (Qcc (p.length+z) w4 (hT.heap (hH3.sub (Yj _))) (by omega) (by omega)) ?_;rintro v w5 ⟨hHd,rfl⟩;replace hH3:=hH3.call0 hHd;rw [Ya] at hH3;clear hHd;(try refine Qs ?_);rw [hdl];(repeat first | refine Qo ?_ | refine Qp ?_);apply hK;clear hK;rcases hz with ⟨rfl,rfl⟩ | ⟨rfl,rfl⟩
  ·
   refine Ae rfl rfl (fun h=>?_) (fun h=>absurd h (by simp;omega));refine Ab ?_;refine VB ?_;refine VQ [4,7,9,10,11,27,28,29] fun K hK=>?_;refine Ac U9 ?_;refine Qs ?_;refine Yd (Qcc (p.length+8) w5 (hT.heap (hH3.sub (Yj _))) (by omega) (by omega)) ?_;rintro v w6 ⟨hHd,rfl⟩;replace hH3:=hH3.call0 hHd;rw [Ya] at hH3;clear hHd;(try refine Qs ?_);rw [hdl];(repeat first | refine Qo ?_ | refine Qp ?_);rw [show ((3:Nat):Int)+((p.length+7:Nat):Int)=((p.length+10:Nat):Int) by omega];apply hK;clear hK;refine Ao ?_;refine Ah ?_;refine Qs ?_;refine ⟨0,by omega,10,rfl,hH3,?_⟩;simp
  refine Ae rfl rfl (fun h=>absurd h (by simp;omega)) (fun h=>?_);refine As rfl ?_;clear h;refine VQ [4,7,9,11,27,28,29] fun K hK=>?_;(repeat first | refine Qo ?_ | refine Qp ?_);rw [show ((0:Nat):Int)+((p.length+10:Nat):Int)=((p.length+10:Nat):Int) by omega];apply hK;clear hK;refine VS [4,7,9,11,27,28,29,59] ?_;refine Ae rfl rfl (fun h=>absurd h (by simp;omega)) (fun h=>Ab ?_);clear h;have c0:w5.cell? ⟨gf,0,none⟩=some (Aa pathW):=Aj (hH3.at 0 rfl) rfl;have c1:w5.cell? ⟨gf,1,none⟩=some (Aa p):=Aj (hH3.at 0 rfl) rfl;have hnb:gf ∉ Td g w5:=QD7 (hH3.at 0 rfl) (by decide) (fun e=>(Xz.1 hH3.apart).1 _ (Yr ..) gf (by simp [Uu]) (by simp [Res.bld,e]));refine VH (holes (Td g w5) w5) (Ext.hole _ _) [4,7,27,28,29] [(0,true),(3,true),(4,true),(7,true),(8,true),(1,false),(2,true),(5,true),(6,true),(9,true),(10,true),(11,false)] fun K hK=>?_;refine ⟨_,Ts c0 hnb,_,Ts c1 hnb,?_⟩;(try refine Qs ?_);refine Ac U9 ?_;refine Qs ?_;refine Yd (Qcc (p.length+10) w5 (hT.heap (hH3.sub (Yj _))) (by omega) (by omega)) ?_;rintro v w6 ⟨hHd,rfl⟩;refine ⟨(Ext.hole _ _).trans hHd.ext,?_⟩;replace hH3:=hH3.call0 hHd;rw [Ya] at hH3;clear c0 c1;(try refine Qs ?_);have hrl:=Su p;have hrec:K0 (p.length+10)++[32]++pathW++[61]++p++[10]=Ei p:=by simp [Ei]
  rw [hrec];refine ⟨by simp [hdl],by simp [hdl],by simp [hdl],by simp [hdl];omega,by simp [hdl];omega,?_⟩;refine Ac Tryz.call53 ?_;refine Qs ?_;refine Yd (Qef (Ei p) (hH3.sub (Ui _ _)) hg0 (by simp) (by simp;omega)) ?_;rintro v w7 ⟨og2,hH4,hkk,rfl⟩;refine ⟨QD6 hHd.upd hkk,?_⟩;(try refine Qs ?_);apply hK;clear hK;refine Ao ?_;refine VS [4,7,27,28,29] ?_;refine Ah ?_;refine Qs ?_;refine ⟨0,by omega,1,og2,rfl,?_,by omega,rfl⟩;simpa using hH4
 obtain rfl:i=1:=by omega
 rw [if_neg (by omega)] at hB;refine As rfl ?_;refine VQ [2,3] fun K hK=>?_;refine Ac Tryz.call54 ?_;refine Qs ?_;refine Yd (Qcz hB hg0 (by simp)) ?_;rintro v w7 ⟨hH4,rfl⟩;(try refine Qs ?_);apply hK;clear hK;refine Ad (A7 rfl rfl rfl ⟨?_,rfl⟩);have:=hH.call0 hH4;exact this
set_option maxHeartbeats 4000000
theorem Qjf (n:Int) (w:World) (hn:0<=n/\n<=9) :
  Does Ym 28 #[.int .i64 n] w fun v w'=>w'=w/\v=.int .i64 (min (n * 100000) 262144):=by
 refine En [.int .i64 n] 6 Tryz.func28 ?_;refine VS [0] ?_;refine VS [2] ?_;exact Ad (A2 rfl rfl ⟨rfl,rfl⟩)
def M5 (i:Nat) (c:UInt8):Prop:=(i < 3/\c.toNat≠(([66,90,104]:List UInt8).getD i 0).toNat)∨(i=3/\(c.toNat < 49∨57 < c.toNat))
instance (i:Nat) (c:UInt8):Decidable (M5 i c):=by unfold M5;infer_instance
def E3 (s:List UInt8) (a:Nat):Nat->Nat->Nat×Nat
 | _,0=>((s.getD (a+3) 0).toNat - 48,0)
 | i,k+1=>if s.length<=a+i then (0,10) else if M5 i (s.getD (a+i) 0) then (0,130) else E3 s a (i+1) k
theorem Qvj (s:List UInt8) (a:Nat) (w:World) (ha:a<=s.length) (hs:s.length<=100000000000000) :
  Does Ym 44 #[Aa s,.int .i64 a] w fun v w'=>w'=w/\v=.tuple #[.int .i64 (E3 s a 0 4).1,.int .i64 (E3 s a 0 4).2]:=by
 generalize hres:E3 s a 0 4=res;refine En [Aa s,.int .i64 a] 49 Tryz.func44 ?_;refine VS [0,1] ?_;refine VS [0,1,8] ?_;refine Ar ?_;refine Au [0,1,8] (fun m e w'=>∃ (i:Nat),Is e [(0,Aa s),(1,.int .i64 a),(8,.int .i64 i)]/\Is w' w/\i<=4/\E3 s a i (4 - i)=res/\(0 < i->a+i<=s.length)/\(i=4->49<=(s.getD (a+3) 0).toNat/\(s.getD (a+3) 0).toNat<=57)/\m=4 - i) 4 ?_ ?_
 ·
  refine Qs ?_;exact ⟨0,rfl,rfl,by omega,hres,by omega,by omega,rfl⟩
 rintro m e w' ⟨i,rfl,rfl,hi,hr,hle,hlv,rfl⟩;refine VS [0,1,8,9] ?_;(repeat refine Ax ?_);refine VD (fun h=>?_) (fun h=>?_)
 ·
  refine Ab ?_;refine VB ?_;obtain ⟨j,hj⟩:∃ j,4 - i=j+1:=⟨3 - i,by omega⟩;rw [hj,E3] at hr;refine VS [0,1,6,8] ?_;refine VS [0,1,6,8,16] ?_;refine VD (fun h=>?_) (fun h=>Ab ?_)
  ·
   rw [if_pos (by omega)] at hr;subst hr;refine VS [4,5] ?_;exact Ad (A7 rfl rfl rfl ⟨rfl,rfl⟩)
  rw [if_neg (by omega)] at hr;refine VS [0,1,6,7,8] ?_;generalize hc:s.getD (a+i) 0=c at *;refine VQ [0,1,8,41] fun K hK=>?_
  suffices out:∀ b:Bool,(b=true ↔ M5 i c)->K [(0,Aa s),(1,.int .i64 a),(8,.int .i64 i),(41,.bool b)] w' by
   unfold M5 at out;generalize hz:(([66,90,104]:List UInt8).getD i 0).toNat=z at *;refine ⟨fun h=>⟨⟨by omega,by simp only [Yz,List.length_nil];omega⟩,fun h2=>⟨fun h3=>by omega,fun _=>out _ (iff_of_false (by simp) (by omega))⟩,fun h2=>out _ (iff_of_true rfl (by omega))⟩,fun h=>⟨fun h3=>⟨fun h4=>out _ ?_,fun h4=>out _ (iff_of_true rfl (by omega))⟩,fun h3=>out _ (iff_of_false (by simp) (by omega))⟩⟩;rw [decide_eq_true_eq];omega
  intro b hb;apply hK;clear hK;refine Vi (fun h=>?_) (fun h=>Ab ?_)
  ·
   rw [if_pos (hb.1 h)] at hr;subst hr;refine VS [4,5] ?_;exact Ad (A7 rfl rfl rfl ⟨rfl,rfl⟩)
  have hnb:¬ M5 i c:=fun h'=>by rw [hb.2 h'] at h;cases h
  rw [if_neg hnb] at hr;refine Ao ?_;refine VS [0,1,8] ?_;refine Ah ?_;refine Qs ?_;refine ⟨4 - (i+1),by omega,i+1,rfl,rfl,by omega,?_,by omega,?_,rfl⟩
  ·
   rw [show 4 - (i+1)=j by omega];exact hr
  intro h4;obtain rfl:i=3:=by omega
  rw [hc];unfold M5 at hnb;omega
 obtain rfl:i=4:=by omega
 have h1:=hle (by omega);have h2:=hlv rfl;rw [show 4 - 4=0 from rfl,E3] at hr;subst hr;refine As rfl ?_;refine VS [4,5] ?_;rw [show (((s.getD (a+3) 0).toNat:Int) - 48) % 256=(((s.getD (a+3) 0).toNat - 48:Nat):Int) by omega];exact Ad (A7 rfl rfl rfl ⟨rfl,rfl⟩)
theorem Qeh (s:List UInt8) (a n:Nat) (w:World) (ha:a<=8 * s.length) (hs:s.length<=100000000000000) (hn:n<=60) :
  Does Ym 45 #[Aa s,.int .i64 a,.int .i64 n] w fun v w'=>Heap w [] w' [] /\
   v=if 8 * s.length < a+n then .tuple #[.int .u64 0,.int .i64 10] else .tuple #[.int .u64 (Bc (((At s).drop a).take n)),.int .i64 0]:=by
 refine En [Aa s,.int .i64 a,.int .i64 n] 17 Tryz.func45 ?_;refine VS [0,1,2] ?_;refine VQ [2,8] fun K hK=>?_;refine Ac Tryz.call68 ?_;refine Qs ?_;refine Yd (Q3 s a w (I64.mk (by omega) (by omega)) (by omega)) ?_;rintro v w2 (⟨hbad,_⟩ | ⟨_,gr,gs,hH,rfl⟩)
 ·
  omega
 rw [Yq] at hH;(try refine Qs ?_);apply hK;clear hK;refine VQ [6,7] fun K hK=>?_;refine Ac Ga ?_;refine Qs ?_;refine Yd (Ot gr gs s a n w2 (by omega) (by omega) (by omega) (hH.focus 0 rfl)) ?_;rintro v w3 (⟨h1,rfl,rfl⟩ | ⟨h1,hH2,rfl⟩)
 ·
  (try refine Qs ?_);apply hK;clear hK;exact Ad (A7 rfl rfl rfl ⟨hH.sub (by simp),by rw [if_pos h1];rfl⟩)
 have hH3:=hH.call1 0 rfl hH2;(try refine Qs ?_);apply hK;clear hK;exact Ad (A7 rfl rfl rfl ⟨hH3.sub (by simp),by rw [if_neg (by omega)];rfl⟩)
def O3 (ws ov:List Nat):Nat->Option Nat
 | 0=>none
 | n+1=>match O3 ws ov n with
  | none=>if ov.getD n 0=0 then some n else none
  | some a=>if ov.getD n 0=0/\ws.getD n 0 < ws.getD a 0 then some n else some a
def Fe (ws ov:List Nat):Nat:=(O3 ws ov ws.length).getD 0
def Rc (s:List Nat×List Nat):List Nat×List Nat :=
 let next:=s.1.length
 let a:=Fe s.1 s.2
 let ov1:=s.2.set a next
 let b:=Fe s.1 ov1
 (s.1++[s.1.getD a 0+s.1.getD b 0],ov1.set b next++[0])
def O8:Nat->List Nat×List Nat->List Nat×List Nat
 | 0,s=>s
 | k+1,s=>Rc (O8 k s)
def Cb (ov:List Nat):Nat->Nat->Nat
 | 0,_=>0
 | f+1,i=>if ov.getD i 0=0 then 0 else Cb ov f (ov.getD i 0)+1
def Qt (w:List Nat):List Nat:=(O8 (w.length - 1) (w,Yh w.length 0)).2
def Ix (w:List Nat):List Nat:=(Yf w.length).map fun i=>Cb (Qt w) (2 * w.length) i
def Bq (l:List Nat):Nat:=l.foldl max 0
def Nl (most:Nat):Nat->List Nat->List Nat
 | 0,own=>Ix own
 | f+1,own=>if Bq (Ix own)<=most then Ix own else Nl most f (own.map fun x=>x / 2+1)
structure IsLeast (ws ov:List Nat) (a:Nat):Prop where
 lt:a < ws.length
 free:ov.getD a 0=0
 le:∀ i,i < ws.length->ov.getD i 0=0->ws.getD a 0 < ws.getD i 0∨(ws.getD a 0=ws.getD i 0/\a<=i)
theorem IsLeast.unique {ws ov:List Nat}{a b:Nat} (h:IsLeast ws ov a) (k:IsLeast ws ov b):a=b:=by
 have h1:=h.le b k.lt k.free;have h2:=k.le a h.lt h.free;omega
theorem Qa6 (ws ov:List Nat):∀ n,O3 ws ov n=none->∀ i,i < n->ov.getD i 0≠0
 | 0,_,i,h=>by omega
 | n+1,h,i,hi=>by
  rw [O3] at h;cases hl:O3 ws ov n with
  | none =>
   rw [hl] at h;simp only at h;split at h
   ·
    cases h
   rename_i h0;rcases Yo i n with h2 | h2
   ·
    exact Qa6 ws ov n hl i h2
   rw [show i=n by omega];exact h0
  | some a=>rw [hl] at h;simp only at h;split at h <;> cases h
theorem Qei (ws ov:List Nat):∀ n a,O3 ws ov n=some a->a < n/\ov.getD a 0=0/\∀ i,i < n->ov.getD i 0=0->ws.getD a 0 < ws.getD i 0∨(ws.getD a 0=ws.getD i 0/\a<=i)
 | 0,a,h=>by cases h
 | n+1,a,h=>by
  rw [O3] at h;cases hl:O3 ws ov n with
  | none =>
   rw [hl] at h;simp only at h;have hn:=Qa6 ws ov n hl;split at h
   ·
    rename_i h0;cases h;refine ⟨by omega,h0,fun i hi hf=>?_⟩;rcases Yo i n with h2 | h2
    ·
     exact absurd hf (hn i h2)
    right;rw [show i=n by omega];exact ⟨rfl,Y5 _⟩
   cases h
  | some b =>
   rw [hl] at h;simp only at h;obtain ⟨h1,h2,h3⟩:=Qei ws ov n b hl;split at h
   ·
    rename_i h0;cases h;refine ⟨by omega,h0.1,fun i hi hf=>?_⟩;rcases Yo i n with h4 | h4
    ·
     have:=h3 i h4 hf;omega
    right;rw [show i=n by omega];exact ⟨rfl,Y5 _⟩
   rename_i h0;cases h;refine ⟨by omega,h2,fun i hi hf=>?_⟩;rcases Yo i n with h4 | h4
   ·
    exact h3 i h4 hf
   obtain rfl:i=n:=by omega
   rcases Yo (ws.getD i 0) (ws.getD a 0) with h5 | h5
   ·
    exact absurd ⟨hf,h5⟩ h0
   omega
theorem Qjg {ws ov:List Nat}{i:Nat} (hi:i < ws.length) (hf:ov.getD i 0=0):IsLeast ws ov (Fe ws ov):=by
 unfold Fe;cases hl:O3 ws ov ws.length with
 | none=>exact absurd hf (Qa6 ws ov _ hl i hi)
 | some a =>
  obtain ⟨h1,h2,h3⟩:=Qei ws ov _ a hl;exact ⟨h1,h2,h3⟩
def Be (f:Nat->Nat):Nat->Nat
 | 0=>0
 | n+1=>Be f n+f n
theorem Mp {f g:Nat->Nat}:∀ n,(∀ i,i < n->f i=g i)->Be f n=Be g n
 | 0,_=>rfl
 | n+1,h=>by rw [Be,Be,Mp n fun i hi=>h i (by omega),h n (by omega)]
theorem T4 (f g:Nat->Nat):∀ n,Be (fun i=>f i+g i) n=Be f n+Be g n
 | 0=>rfl
 | n+1=>by rw [Be,Be,Be,T4 f g n];omega
theorem Sp (a c:Nat):∀ n,Be (fun i=>if i=a then c else 0) n=if a < n then c else 0
 | 0=>by simp [Be]
 | n+1=>by
  rw [Be,Sp a c n];by_cases h1:a < n
  ·
   rw [if_pos h1,if_neg (by omega),if_pos (by omega)];rfl
  by_cases h2:n=a
  ·
   subst h2;simp
  rw [if_neg h1,if_neg h2,if_neg (by omega)]
theorem Zv (f:Nat->Nat):∀ n i,i < n->f i<=Be f n
 | 0,i,h=>by omega
 | n+1,i,h=>by
  rw [Be];rcases Yo i n with h1 | h1
  ·
   have:=Zv f n i h1;omega
  rw [show i=n by omega];omega
theorem Qho (f:Nat->Nat) (c:Nat):∀ n,(∀ i,i < n->f i<=c)->Be f n<=n * c
 | 0,_=>by simp [Be]
 | n+1,h=>by
  rw [Be,Xx];have h1:=Qho f c n fun i hi=>h i (by omega);have h2:=h n (by omega);omega
theorem Qvk {f:Nat->Nat}{n a b:Nat} (ha:a < n) (hb:b < n) (hab:a≠b):f a+f b<=Be f n:=by
 have e:Be f n=Be (fun i=>if i=a then f a else 0) n+Be (fun i=>if i=a then 0 else f i) n:=by
  rw [<- T4];exact Mp n fun i _=>by split <;> simp_all
 have h2:=Zv (fun i=>if i=a then 0 else f i) n b hb;simp only [if_neg (Ne.symm hab)] at h2;rw [e,Sp,if_pos ha];omega
theorem Qaq {f:Nat->Nat}{n a b:Nat} (ha:a < n) (hb:b < n) (hab:a≠b):Be (fun i=>if i=a∨i=b then 0 else f i) n+(f a+f b)=Be f n:=by
 have e:Be f n=Be (fun i=>if i=a∨i=b then 0 else f i) n+(Be (fun i=>if i=a then f a else 0) n+Be (fun i=>if i=b then f b else 0) n):=by
  rw [<- T4,<- T4];refine Mp n fun i _=>?_;by_cases h1:i=a
  ·
   subst h1;simp [hab]
  by_cases h2:i=b
  ·
   subst h2;simp [h1]
  simp [h1,h2]
 rw [e,Sp,Sp,if_pos ha,if_pos hb]
def Kl:Nat->Nat
 | 0=>0
 | 1=>1
 | n+2=>Kl (n+1)+Kl n
theorem Qig:∀ n,Kl n<=Kl (n+1)
 | 0=>by decide
 | n+1=>by rw [Kl];omega
theorem Qou {m n:Nat} (h:m<=n):Kl m<=Kl n:=by
 induction n with
 | zero=>rw [show m=0 by omega];exact Y5 _
 | succ n ih =>
  rcases Yo m (n+1) with h1 | h1
  ·
   exact Xm (ih (by omega)) (Qig n)
  rw [show m=n+1 by omega];exact Y5 _
structure Grown (w:List Nat) (k:Nat) (ws ov:List Nat) (h:Nat->Nat):Prop where
 lws:ws.length=w.length+k
 lov:ov.length=w.length+k
 up:∀ i,i < w.length+k->ov.getD i 0=0∨(i < ov.getD i 0/\w.length<=ov.getD i 0/\ov.getD i 0 < w.length+k)
 roots:Be (fun i=>if ov.getD i 0=0 then 1 else 0) (w.length+k)+k=w.length
 weight:Be (fun i=>if ov.getD i 0=0 then ws.getD i 0 else 0) (w.length+k)=Be (fun i=>w.getD i 0) w.length
 two:∀ j,w.length<=j->j < w.length+k->∃ a b,a < j/\b < j/\a≠b/\ov.getD a 0=j/\ov.getD b 0=j/\∀ i,ov.getD i 0=j->i=a∨i=b
 hup:∀ i,i < w.length+k->ov.getD i 0≠0->h i+1<=h (ov.getD i 0)
 hfib:∀ i,i < w.length+k->Kl (h i+2)<=ws.getD i 0
 deep:∀ i,i < w.length+k->1<=h i->∃ y,y < w.length+k/\ov.getD y 0≠0/\Kl (h i+1)<=ws.getD y 0
 order:∀ y r,y < w.length+k->r < w.length+k->ov.getD y 0≠0->ov.getD r 0=0->ws.getD y 0<=ws.getD r 0
theorem R3 (n i:Nat):(Yh n (0:Nat)).getD i 0=0:=by
 rw [Yb,Ud];split <;> rfl
theorem Grown.start (w:List Nat) (h2:1<=w.length) (h1:∀ i,i < w.length->1<=w.getD i 0):Grown w 0 w (Yh w.length 0) (fun _=>0) where
 lws:=rfl
 lov:=by simp
 up i _:=.inl (R3 _ _)
 roots:=by
  have:Be (fun i=>if (Yh w.length 0).getD i 0=0 then 1 else 0) w.length=Be (fun _=>1) w.length:=Mp _ fun i _=>by rw [if_pos (R3 _ _)]
  have h:∀ n,Be (fun _=>1) n=n:=fun n=>by induction n with
   | zero=>rfl
   | succ n ih=>rw [Be,ih]
  rw [Uj,Uj,this,h]
 weight:=Mp _ fun i _=>by rw [if_pos (R3 _ _)]
 two j h3 h4:=by omega
 hup i hi h:=absurd (R3 _ _) h
 hfib i hi:=by have:=h1 i (by simpa using hi);simpa [Kl] using this
 deep i hi h:=by simp at h
 order y r _ _ h:=absurd (R3 _ _) h
theorem Pr {l:List Nat}{i v:Nat} (h:i < l.length):(l.set i v).getD i 0=v:=by
 rw [Yb,List.getElem?_set_self h];rfl
theorem Pq {l:List Nat}{i j v:Nat} (h:i≠j):(l.set i v).getD j 0=l.getD j 0:=by
 rw [Yb,List.getElem?_set_ne h,Yb]
theorem Q1 {l m:List Nat}{i:Nat} (h:i < l.length):(l++m).getD i 0=l.getD i 0:=by
 rw [Yb,List.getElem?_append_left h,Yb]
theorem T5 {l:List Nat}{x:Nat}:(l++[x]).getD l.length 0=x:=by
 rw [Yb,X0 (Y5 _),U1];rfl
theorem Qa7 {l:List Nat}{i:Nat} (h:l.length<=i):l.getD i 0=0:=by
 rw [Yb,Up h];rfl
theorem Qa8 {ov:List Nat}:∀ n,0 < Be (fun i=>if ov.getD i 0=0 then 1 else 0) n->∃ i,i < n/\ov.getD i 0=0
 | 0,h=>by simp [Be] at h
 | n+1,h=>by
  rw [Be] at h;by_cases h0:ov.getD n 0=0
  ·
   exact ⟨n,by omega,h0⟩
  rw [if_neg h0] at h;obtain ⟨i,hi,hf⟩:=Qa8 n (by omega);exact ⟨i,by omega,hf⟩
theorem Grown.pick {w:List Nat}{k:Nat}{ws ov:List Nat}{h:Nat->Nat} (g:Grown w k ws ov h) (hk:k+1 < w.length) :
  IsLeast ws ov (Fe ws ov)/\IsLeast ws (ov.set (Fe ws ov) ws.length) (Fe ws (ov.set (Fe ws ov) ws.length))/\Fe ws (ov.set (Fe ws ov) ws.length)≠Fe ws ov/\ov.getD (Fe ws (ov.set (Fe ws ov) ws.length)) 0=0:=by
 have hr:=g.roots;have hlw:=g.lws;have hlo:=g.lov;obtain ⟨i,hi,hf⟩:=Qa8 (ov:=ov) (w.length+k) (by omega);have ha:=Qjg (ws:=ws) (ov:=ov) (by omega) hf;generalize Fe ws ov=a at *;have ha1:=ha.lt
 obtain ⟨j,hj,hf2⟩:=Qa8 (ov:=ov.set a ws.length) (w.length+k) (by
  have e:Be (fun i=>if (ov.set a ws.length).getD i 0=0 then 1 else 0) (w.length+k)+Be (fun i=>if i=a then 1 else 0) (w.length+k)=Be (fun i=>if ov.getD i 0=0 then 1 else 0) (w.length+k):=by
   rw [<- T4];refine Mp _ fun i _=>?_;by_cases hia:i=a
   ·
    subst hia;rw [Pr (by omega),if_neg (by omega),if_pos rfl,if_pos ha.free]
   rw [Pq (fun x=>hia x.symm),if_neg hia];rfl
  rw [Sp,if_pos (by omega)] at e;omega)
 have hb:=Qjg (ws:=ws) (ov:=ov.set a ws.length) (by omega) hf2;generalize Fe ws (ov.set a ws.length)=b at *
 have hne:b≠a:=fun e=>by
  have:=hb.free;rw [e,Pr (by omega)] at this;omega
 exact ⟨ha,hb,hne,by rw [<- Pq (v:=ws.length) (fun x=>hne x.symm)];exact hb.free⟩
theorem Grown.step {w:List Nat}{k:Nat}{ws ov:List Nat}{h:Nat->Nat} (g:Grown w k ws ov h) (hk:k+1 < w.length) :
  ∃ h',Grown w (k+1) (Rc (ws,ov)).1 (Rc (ws,ov)).2 h':=by
 obtain ⟨ha,hb,hne,hbf⟩:=g.pick hk;unfold Rc;simp only;generalize Fe ws ov=a at *;generalize Fe ws (ov.set a ws.length)=b at *;have hlw:=g.lws;have hlo:=g.lov;have ha1:=ha.lt;have hb1:=hb.lt;have haf:=ha.free;have hwab:ws.getD a 0<=ws.getD b 0:=by have:=ha.le b hb1 hbf;omega
 have hbl:∀ i,i < ws.length->i≠a->ov.getD i 0=0->ws.getD b 0<=ws.getD i 0:=fun i hi hia hf=>by
  have:=hb.le i hi (by rw [Pq (fun x=>hia x.symm)];exact hf);omega
 rw [hlw] at hb ha1 hb1 hbl ⊢;generalize hn:w.length+k=n at *
 have o1:∀ i,i < n->((ov.set a n).set b n++[0]).getD i 0=if i=a∨i=b then n else ov.getD i 0:=fun i hi=>by
  rw [Q1 (by simp;omega)];by_cases e1:i=b
  ·
   subst e1;rw [Pr (by simp;omega),if_pos (.inr rfl)]
  rw [Pq (fun x=>e1 x.symm)];by_cases e2:i=a
  ·
   subst e2;rw [Pr (by omega),if_pos (.inl rfl)]
  rw [Pq (fun x=>e2 x.symm),if_neg (by simp [e1,e2])]
 have o2:((ov.set a n).set b n++[0]).getD n 0=0:=by
  have:=T5 (l:=(ov.set a n).set b n) (x:=0);simp [hlo]
 have w1:∀ i,i < n->(ws++[ws.getD a 0+ws.getD b 0]).getD i 0=ws.getD i 0:=fun i hi=>Q1 (by omega)
 have w2:(ws++[ws.getD a 0+ws.getD b 0]).getD n 0=ws.getD a 0+ws.getD b 0:=by
  have:=T5 (l:=ws) (x:=ws.getD a 0+ws.getD b 0)
  rwa [hlw] at this
 have lo:((ov.set a n).set b n++[0]).length=n+1:=by simp [hlo]
 have lw:(ws++[ws.getD a 0+ws.getD b 0]).length=n+1:=by simp [hlw]
 generalize (ov.set a n).set b n++[0]=ov' at *;generalize ws++[ws.getD a 0+ws.getD b 0]=ws' at *;have hup:=g.up;have hroots:=g.roots;have hweight:=g.weight;have htwo:=g.two;have hhup:=g.hup;have hfib:=g.hfib;have hdeep:=g.deep;have horder:=g.order;rw [hn] at hup hroots hweight htwo hhup hfib hdeep horder;clear g;have hnk:n=w.length+k:=hn.symm;refine ⟨fun i=>if i=n then max (h a) (h b)+1 else h i,?_⟩;have en:w.length+(k+1)=n+1:=by omega
 refine ⟨by rw [lw,en],by rw [lo,en],?_,?_,?_,?_,?_,?_,?_,?_⟩
 ·
  intro i hi;rw [en] at hi ⊢;by_cases e:i=n
  ·
   subst e;exact .inl o2
  rw [o1 i (by omega)];split
  ·
   right;omega
  have:=hup i (by omega);omega
 ·
  rw [en,Be,o2,if_pos rfl]
  have e:Be (fun i=>if ov'.getD i 0=0 then 1 else 0) n=Be (fun i=>if i=a∨i=b then 0 else if ov.getD i 0=0 then 1 else 0) n:=Mp n fun i hi=>by
   rw [o1 i hi];by_cases e:i=a∨i=b
   ·
    rw [if_pos e,if_pos e,if_neg (by omega)]
   rw [if_neg e,if_neg e]
  have e2:=Qaq (f:=fun i=>if ov.getD i 0=0 then 1 else 0) ha1 hb1 (Ne.symm hne);simp only [if_pos haf,if_pos hbf] at e2;omega
 ·
  rw [en,Be,o2,if_pos rfl,w2]
  have e:Be (fun i=>if ov'.getD i 0=0 then ws'.getD i 0 else 0) n=Be (fun i=>if i=a∨i=b then 0 else if ov.getD i 0=0 then ws.getD i 0 else 0) n:=Mp n fun i hi=>by
   rw [o1 i hi,w1 i hi];by_cases e:i=a∨i=b
   ·
    rw [if_pos e,if_pos e,if_neg (by omega)]
   rw [if_neg e,if_neg e]
  have e2:=Qaq (f:=fun i=>if ov.getD i 0=0 then ws.getD i 0 else 0) ha1 hb1 (Ne.symm hne);simp only [if_pos haf,if_pos hbf] at e2;omega
 ·
  intro j hj1 hj2;rw [en] at hj2;by_cases e:j=n
  ·
   subst e;refine ⟨a,b,ha1,hb1,Ne.symm hne,by rw [o1 a ha1,if_pos (.inl rfl)],by rw [o1 b hb1,if_pos (.inr rfl)],fun i hi=>?_⟩;rcases Yo i j with h1 | h1
   ·
    rw [o1 i h1] at hi;split at hi
    ·
     assumption
    have:=hup i h1;omega
   rcases Yo i (j+1) with h2 | h2
   ·
    rw [show i=j by omega,o2] at hi;omega
   rw [Qa7 (by omega)] at hi;omega
  obtain ⟨x,y,hx,hy,hxy,hox,hoy,hall⟩:=htwo j hj1 (by omega);have hxa:¬ (x=a∨x=b):=fun e=>by rcases e with rfl | rfl <;> omega
  have hya:¬ (y=a∨y=b):=fun e=>by rcases e with rfl | rfl <;> omega
  refine ⟨x,y,hx,hy,hxy,by rw [o1 x (by omega),if_neg hxa];exact hox,by rw [o1 y (by omega),if_neg hya];exact hoy,fun i hi=>?_⟩;rcases Yo i n with h1 | h1
  ·
   rw [o1 i h1] at hi;split at hi
   ·
    omega
   exact hall i hi
  rcases Yo i (n+1) with h2 | h2
  ·
   rw [show i=n by omega,o2] at hi;omega
  rw [Qa7 (by omega)] at hi;omega
 ·
  intro i hi hne0;rw [en] at hi;have hin:i≠n:=fun e=>by rw [e,o2] at hne0;exact hne0 rfl
  rw [o1 i (by omega)] at hne0 ⊢;rw [if_neg hin];by_cases e:i=a∨i=b
  ·
   rw [if_pos e,if_pos rfl];rcases e with rfl | rfl <;> omega
  rw [if_neg e] at hne0 ⊢;have h1:=hup i (by omega);rw [if_neg (by omega)];exact hhup i (by omega) hne0
 ·
  intro i hi;rw [en] at hi;by_cases e:i=n
  ·
   subst e;rw [if_pos rfl,w2]
   have key:∀ x y,x < i->y < i->ov.getD x 0=0->ov.getD y 0=0->Kl (h x+3)<=ws.getD x 0+ws.getD y 0:=fun x y hx hy hox hoy=>by
    have h1:=hfib x hx
    have h2:Kl (h x+1)<=ws.getD y 0:=by
     rcases Nat.eq_zero_or_pos (h x) with h0 | h0
     ·
      have:=hfib y hy;refine Xm (Qou ?_) this;omega
     obtain ⟨z,hz1,hz2,hz3⟩:=hdeep x hx h0;exact Xm hz3 (horder z y hz1 hy hz2 hoy)
    rw [show h x+3=(h x+1)+2 from rfl,Kl];have:Kl (h x+1+1)=Kl (h x+2):=rfl;omega
   rcases Nat.le_total (h a) (h b) with h1 | h1
   ·
    rw [Nat.max_eq_right h1];have:=key b a hb1 ha1 hbf haf;rw [Nat.add_comm (ws.getD a 0)];exact this
   rw [Nat.max_eq_left h1];exact key a b ha1 hb1 haf hbf
  rw [if_neg e,w1 i (by omega)];exact hfib i (by omega)
 ·
  intro i hi hh;rw [en] at hi ⊢;by_cases e:i=n
  ·
   subst e;rw [if_pos rfl];rcases Nat.le_total (h a) (h b) with h1 | h1
   ·
    rw [Nat.max_eq_right h1];exact ⟨b,by omega,by rw [o1 b hb1,if_pos (.inr rfl)];omega,by rw [w1 b hb1];exact hfib b hb1⟩
   rw [Nat.max_eq_left h1];exact ⟨a,by omega,by rw [o1 a ha1,if_pos (.inl rfl)];omega,by rw [w1 a ha1];exact hfib a ha1⟩
  rw [if_neg e] at hh ⊢;obtain ⟨y,hy1,hy2,hy3⟩:=hdeep i (by omega) hh;refine ⟨y,by omega,?_,by rw [w1 y hy1];exact hy3⟩;rw [o1 y hy1];split
  ·
   omega
  exact hy2
 intro y r hy hr hoy hor;rw [en] at hy hr;have hyn:y≠n:=fun e=>by rw [e,o2] at hoy;exact hoy rfl
 rw [w1 y (by omega)]
 have hyb:ws.getD y 0<=ws.getD b 0:=by
  rw [o1 y (by omega)] at hoy;by_cases e:y=a∨y=b
  ·
   rcases e with rfl | rfl <;> omega
  rw [if_neg e] at hoy;exact horder y b (by omega) hb1 hoy hbf
 by_cases e:r=n
 ·
  subst e;rw [w2];omega
 rw [w1 r (by omega)];rw [o1 r (by omega)] at hor;by_cases e2:r=a∨r=b
 ·
  rw [if_pos e2] at hor;omega
 rw [if_neg e2] at hor;have:=hbl r (by omega) (fun x=>e2 (.inl x)) hor;omega
theorem Qdr (w:List Nat) (h1:∀ i,i < w.length->1<=w.getD i 0):∀ k,k+1<=w.length->∃ h,Grown w k (O8 k (w,Yh w.length 0)).1 (O8 k (w,Yh w.length 0)).2 h
 | 0,hk=>⟨_,Grown.start w (by omega) h1⟩
 | k+1,hk=>by
  obtain ⟨h,g⟩:=Qdr w h1 k (by omega);exact g.step (by omega)
section
variable {w:List Nat}{k:Nat}{ws ov:List Nat}{h:Nat->Nat}
theorem Grown.last (g:Grown w k ws ov h) (hk:k+1=w.length):ov.getD (w.length+k - 1) 0=0:=by
 have:=g.up (w.length+k - 1) (by omega);omega
theorem Grown.root (g:Grown w k ws ov h) (hk:k+1=w.length) {i:Nat} (hi:i < w.length+k) (hf:ov.getD i 0=0):i=w.length+k - 1:=by
 by_cases e:i=w.length+k - 1
 ·
  exact e
 have h1:=Qvk (f:=fun i=>if ov.getD i 0=0 then 1 else 0) (n:=w.length+k) hi (show w.length+k - 1 < w.length+k by omega) e;simp only [if_pos hf,if_pos (g.last hk)] at h1;have:=g.roots;omega
theorem Grown.depth_h (g:Grown w k ws ov h) (hk:k+1=w.length):∀ f i,i < w.length+k->w.length+k - i<=f->Cb ov f i+h i<=h (w.length+k - 1)
 | 0,i,hi,hf=>by omega
 | f+1,i,hi,hf=>by
  rw [Cb];split
  ·
   rename_i h0;rw [<- g.root hk hi h0];omega
  rename_i h0;have h1:=g.up i hi;have h2:=g.hup i hi h0;have:=g.depth_h hk f (ov.getD i 0) (by omega) (by omega);omega
theorem Grown.fuel (g:Grown w k ws ov h):∀ f f' i,i < w.length+k->w.length+k - i<=f->w.length+k - i<=f'->Cb ov f i=Cb ov f' i
 | 0,_,i,hi,h1,_=>by omega
 | _+1,0,i,hi,_,h2=>by omega
 | f+1,f'+1,i,hi,h1,h2=>by
  rw [Cb,Cb];split
  ·
   rfl
  rename_i h0;have h3:=g.up i hi;rw [g.fuel f f' (ov.getD i 0) (by omega) (by omega) (by omega)]
theorem Grown.dep (g:Grown w k ws ov h) {i:Nat} (f:Nat) (hf:w.length+k<=f) (hi:i < w.length+k) (h0:ov.getD i 0≠0):Cb ov f i=Cb ov f (ov.getD i 0)+1:=by
 have h3:=g.up i hi;cases f with
 | zero=>omega
 | succ f =>
  conv=>lhs;rw [Cb]
  rw [if_neg h0,g.fuel f (f+1) (ov.getD i 0) (by omega) (by omega) (by omega)]
theorem Grown.kraft (g:Grown w k ws ov h) (hk:k+1=w.length) (f:Nat) (hf:w.length+k<=f) (N:Nat) (hN:∀ i,i < w.length+k->Cb ov f i<=N) :
  Be (fun i=>2 ^ (N - Cb ov f i)) w.length=2 ^ N:=by
 have hr:=g.last hk
 have step:∀ j,w.length<=j->j < w.length+k->Be (fun i=>if ov.getD i 0=0∨j+1<=ov.getD i 0 then 2 ^ (N - Cb ov f i) else 0) (j+1)=Be (fun i=>if ov.getD i 0=0∨j<=ov.getD i 0 then 2 ^ (N - Cb ov f i) else 0) j:=fun j h1 h2=>by
  obtain ⟨a,b,ha,hb,hab,hoa,hob,hall⟩:=g.two j h1 h2;have hda:=g.dep f hf (i:=a) (by omega) (by omega);have hdb:=g.dep f hf (i:=b) (by omega) (by omega);have hNa:=hN a (by omega);rw [hoa] at hda;rw [hob] at hdb;have hj:=g.up j h2;rw [Be,if_pos (by omega)];have e:=Qaq (f:=fun i=>if ov.getD i 0=0∨j<=ov.getD i 0 then 2 ^ (N - Cb ov f i) else 0) ha hb hab;rw [if_pos (by omega),if_pos (by omega),hda,hdb] at e;rw [<- e]
  have e2:2 ^ (N - Cb ov f j)=2 ^ (N - (Cb ov f j+1))+2 ^ (N - (Cb ov f j+1)):=by
   rw [show N - Cb ov f j=(N - (Cb ov f j+1))+1 by omega,Xj];omega
  rw [e2]
  congr 1
  refine Mp j fun i hi=>?_;by_cases e3:i=a∨i=b
  ·
   rw [if_pos e3,if_neg (by rcases e3 with rfl | rfl <;> omega)]
  rw [if_neg e3];by_cases e4:ov.getD i 0=0∨j<=ov.getD i 0
  ·
   rw [if_pos e4,if_pos];have:ov.getD i 0≠j:=fun e5=>e3 (hall i e5);omega
  rw [if_neg e4,if_neg (by omega)]
 have all:∀ d,d<=k->Be (fun i=>if ov.getD i 0=0∨w.length+d<=ov.getD i 0 then 2 ^ (N - Cb ov f i) else 0) (w.length+d)=Be (fun i=>if ov.getD i 0=0∨w.length<=ov.getD i 0 then 2 ^ (N - Cb ov f i) else 0) w.length:=fun d=>by
  induction d with
  | zero=>intro _;rfl
  | succ d ih=>intro hd;rw [<- ih (by omega)];exact step (w.length+d) (by omega) (by omega)
 have h1:=all k (Y5 _)
 have e1:Be (fun i=>if ov.getD i 0=0∨w.length+k<=ov.getD i 0 then 2 ^ (N - Cb ov f i) else 0) (w.length+k)=Be (fun i=>if i=w.length+k - 1 then 2 ^ N else 0) (w.length+k):=by
  refine Mp _ fun i hi=>?_;have h2:=g.up i hi;by_cases e:i=w.length+k - 1
  ·
   subst e;rw [if_pos (.inl hr),if_pos rfl]
   have:Cb ov f (w.length+k - 1)=0:=by
    cases f with
    | zero=>rfl
    | succ f=>rw [Cb,if_pos hr]
   rw [this];rfl
  rw [if_neg e,if_neg];rintro (h3 | h3)
  ·
   exact e (g.root hk hi h3)
  omega
 rw [e1,Sp,if_pos (by omega)] at h1;rw [h1];refine Mp _ fun i hi=>?_;have h2:=g.up i (by omega);rw [if_pos (by omega)]
theorem Grown.total (g:Grown w k ws ov h) (hk:k+1=w.length):Kl (h (w.length+k - 1)+2)<=Be (fun i=>w.getD i 0) w.length:=by
 have h1:=g.hfib (w.length+k - 1) (by omega);have h2:=Zv (fun i=>if ov.getD i 0=0 then ws.getD i 0 else 0) (w.length+k) (w.length+k - 1) (by omega);simp only [if_pos (g.last hk)] at h2;rw [<- g.weight];omega
end
def Dd:List Nat->Nat
 | []=>0
 | x::l=>2 ^ (20 - x)+Dd l
theorem Qbq (l m:List Nat):Dd (l++m)=Dd l+Dd m:=by
 induction l with
 | nil=>simp [Dd]
 | cons x l ih=>rw [Yl,Dd,Dd,ih];omega
theorem W4 (f:Nat->Nat):∀ n,Dd ((Yf n).map f)=Be (fun i=>2 ^ (20 - f i)) n
 | 0=>rfl
 | n+1=>by rw [Xn,Um,Qbq,W4 f n,Be];rfl
theorem Qky {l:List Nat}{m:Nat}:∀ a,l.foldl max a<=m ↔ a<=m/\∀ x∈l,x<=m:=by
 induction l with
 | nil=>intro a;simp
 | cons x l ih=>intro a;rw [List.foldl_cons,ih];simp only [Xe,forall_eq_or_imp,Nat.max_le,and_assoc]
theorem Qb {l:List Nat}{m:Nat}:Bq l<=m ↔ ∀ x∈l,x<=m:=by rw [Bq,Qky];simp
theorem Qah (w:List Nat):(Ix w).length=w.length:=by simp [Ix]
theorem Qjh {w:List Nat} (h2:2<=w.length) (h1:∀ x∈w,1<=x) {m:Nat} (hm:Bq (Ix w)<=m) (hm20:m<=20) :
  (∀ x∈Ix w,1<=x/\x<=m)/\Dd (Ix w)=1048576:=by
 obtain ⟨h,g⟩:=Qdr w (fun i hi=>h1 _ (by rw [Yb,Ye hi];exact Y0 hi)) (w.length - 1) (by omega);have hmax:=Qb.1 hm;have hov:(O8 (w.length - 1) (w,Yh w.length 0)).2=Qt w:=rfl;rw [hov] at g;have hk:w.length - 1+1=w.length:=by omega
 have hdep:∀ i,i < w.length->Cb (Qt w) (2 * w.length) i∈Ix w:=fun i hi=>Y4.2 ⟨i,by simpa using hi,rfl⟩;constructor
 ·
  intro x hx;refine ⟨?_,hmax x hx⟩;obtain ⟨i,hi,rfl⟩:=Y4.1 hx;have hi:i < w.length:=by simpa using hi
  by_cases h0:(Qt w).getD i 0=0
  ·
   have:=g.root hk (by omega) h0;omega
  rw [g.dep (2 * w.length) (by omega) (by omega) h0];omega
 have hN:∀ i,i < w.length+(w.length - 1)->Cb (Qt w) (2 * w.length) i<=20:=by
  intro i
  induction i using Nat.strongRecOn with
  | _ i ih =>
   intro hi;rcases Yo i w.length with h3 | h3
   ·
    have:=hmax _ (hdep i h3);omega
   obtain ⟨a,b,ha,hb,hab,hoa,hob,hall⟩:=g.two i h3 hi;have h4:=ih a ha (by omega);have:=g.dep (2 * w.length) (by omega) (i:=a) (by omega) (by omega);rw [hoa] at this;omega
 have hk20:=g.kraft hk (2 * w.length) (by omega) 20 hN;rw [Ix,W4];exact hk20
theorem QOc:Kl 15=610:=by decide
theorem Qc0 {w:List Nat} (h2:2<=w.length) (h258:w.length<=258) (h1:∀ x∈w,1<=x/\x<=2):Bq (Ix w)<=12:=by
 have hget:∀ i,i < w.length->w.getD i 0∈w:=fun i hi=>by rw [Yb,Ye hi];exact Y0 hi
 obtain ⟨h,g⟩:=Qdr w (fun i hi=>(h1 _ (hget i hi)).1) (w.length - 1) (by omega);have hov:(O8 (w.length - 1) (w,Yh w.length 0)).2=Qt w:=rfl;rw [hov] at g;have hk:w.length - 1+1=w.length:=by omega
 have ht:=g.total hk;have ht2:=Qho (fun i=>w.getD i 0) 2 w.length fun i hi=>(h1 _ (hget i hi)).2
 have hh:h (w.length+(w.length - 1) - 1)<=12:=by
  rcases Yo 12 (h (w.length+(w.length - 1) - 1)) with h3 | h3
  ·
   have:=Qou (show 15<=h (w.length+(w.length - 1) - 1)+2 by omega);rw [QOc] at this;omega
  exact h3
 refine Qb.2 fun x hx=>?_;obtain ⟨i,hi,rfl⟩:=Y4.1 hx;have hi:i < w.length:=by simpa using hi
 have:=g.depth_h hk (2 * w.length) i (by omega) (by omega);omega
def Pm:Nat->Nat
 | 0=>2
 | k+1=>2 ^ k+2
theorem Qov {t x:Nat} (h:x<=Pm (t+1)):x / 2+1<=Pm t:=by
 cases t with
 | zero=>simp only [Pm] at h ⊢;omega
 | succ t=>simp only [Pm,Xj] at h ⊢;omega
theorem Qow {most:Nat} (hm:12<=most) (hm20:most<=20):∀ (t:Nat) (own:List Nat),2<=own.length->own.length<=258->(∀ x∈own,1<=x/\x<=Pm t) ->
  (Nl most t own).length=own.length/\(∀ x∈Nl most t own,1<=x/\x<=most)/\Dd (Nl most t own)=1048576
 | 0,own,h2,h258,h1=>by
  have h3:=Qc0 h2 h258 h1;rw [Nl];exact ⟨Qah own,Qjh h2 (fun x hx=>(h1 x hx).1) (by omega) hm20⟩
 | t+1,own,h2,h258,h1=>by
  rw [Nl];split
  ·
   rename_i h3;exact ⟨Qah own,Qjh h2 (fun x hx=>(h1 x hx).1) h3 hm20⟩
  have:=Qow hm hm20 t (own.map fun x=>x / 2+1) (by simpa using h2) (by simpa using h258) (by
   intro x hx;obtain ⟨y,hy,rfl⟩:=Y4.1 hx;exact ⟨by omega,Qov (h1 y hy).2⟩)
  simpa using this
def I0 (w:List Nat) (most:Nat):List Nat:=Nl most 40 (w.map fun x=>max x 1)
theorem Qtm {w:List Nat}{most:Nat} (hm:12<=most) (hm20:most<=20) (h2:2<=w.length) (h258:w.length<=258) (h1:∀ x∈w,x<=1073741824) :
  (I0 w most).length=w.length/\(∀ x∈I0 w most,1<=x/\x<=most)/\Dd (I0 w most)=1048576:=by
 have:=Qow hm hm20 40 (w.map fun x=>max x 1) (by simpa using h2) (by simpa using h258) (by
  intro x hx;obtain ⟨y,hy,rfl⟩:=Y4.1 hx;have:=h1 y hy;have:Pm 40=549755813890:=by decide
  omega)
 simpa [I0] using this
def Ik (w:List Nat) (i j:Nat):Bool:=decide (max (w.getD j 0) 1 < max (w.getD i 0) 1) || (decide (max (w.getD i 0) 1=max (w.getD j 0) 1) && decide (i < j))
def S3 (w:List Nat) (i:Nat):Nat:=(Yf w.length).countP fun j=>Ik w j i
def D7 (n:Nat):Nat:=X1 n
def M0 (n p:Nat):Nat:=if 2 ^ (D7 n+1) - n<=p then D7 n+1 else D7 n
def Em (w:List Nat):List Nat:=(Yf w.length).map fun i=>M0 w.length (S3 w i)
theorem Si {w:List Nat}{i j:Nat}:Ik w i j=true ↔ (max (w.getD j 0) 1 < max (w.getD i 0) 1∨(max (w.getD i 0) 1=max (w.getD j 0) 1/\i < j)):=by
 simp [Ik,Un]
theorem Qkz {w:List Nat}{i j k:Nat} (h1:Ik w i j=true) (h2:Ik w j k=true):Ik w i k=true:=by
 rw [Si] at *;omega
theorem Qih (w:List Nat) (i:Nat):Ik w i i=false:=by
 rw [U2];intro h;rw [Si] at h;omega
theorem Qk0 {w:List Nat}{i j:Nat} (h1:Ik w i j=true):Ik w j i=false:=by
 rw [U2];intro h;rw [Si] at *;omega
theorem Qk1 {w:List Nat}{i j:Nat} (h:i≠j):Ik w i j=true∨Ik w j i=true:=by
 rw [Si,Si];omega
theorem Qej {w:List Nat}{l:List Nat} (hp:l.Perm (Yf w.length)) (hs:l.Pairwise fun i j=>Ik w i j=true) {p:Nat} (hpl:p < l.length):S3 w l[p]=p:=by
 unfold S3;rw [<- hp.countP_eq];have e:l=l.take p++l[p]::l.drop (p+1):=by rw [<- X6 hpl,Yx]
 have hs2:=hs;rw [e] at hs2;obtain ⟨s1,s2,s3⟩:=List.pairwise_append.1 hs2;obtain ⟨s4,s5⟩:=Xz.1 s2;have hlen:(l.take p).length=p:=by rw [Y9];omega
 generalize hx:l[p]=x at *
 conv=>lhs;rw [e]
 rw [List.countP_append,List.countP_cons]
 have c1:(l.take p).countP (fun j=>Ik w j x)=p:=by
  rw [List.countP_eq_length.2 (fun a ha=>s3 a ha _ (by simp)),hlen]
 have c2:(l.drop (p+1)).countP (fun j=>Ik w j x)=0:=by
  rw [List.countP_eq_zero];intro a ha;have:=Qk0 (s4 a ha);simp [this]
 rw [c1,c2,Qih];simp
theorem Qk2 (w:List Nat):∃ l:List Nat,l.Perm (Yf w.length)/\l.Pairwise fun i j=>Ik w i j=true:=by
 refine ⟨(Yf w.length).mergeSort fun i j=>Ik w i j || i == j,Uw _ _,?_⟩
 have hs:=List.pairwise_mergeSort (le:=fun i j=>Ik w i j || i == j) (fun a b c h1 h2=>by
  simp only [Un,beq_iff_eq] at *;rcases h1 with h1 | rfl
  ·
   rcases h2 with h2 | rfl
   ·
    exact .inl (Qkz h1 h2)
   exact .inl h1
  ·
   exact h2) (fun a b=>by
  by_cases e:a=b
  ·
   subst e;simp
  rcases Qk1 (w:=w) e with h | h <;> simp [h]) (Yf w.length)
 have hn:((Yf w.length).mergeSort fun i j=>Ik w i j || i == j).Nodup:=(Uw _ _).nodup_iff.2 List.nodup_range;refine (hs.and hn).imp ?_;rintro a b ⟨h1,h2⟩;simp only [Un,beq_iff_eq] at h1;rcases h1 with h1 | h1
 ·
  exact h1
 exact absurd h1 h2
theorem Qne {l m:List Nat} (h:l.Perm m):Dd l=Dd m:=by
 induction h with
 | nil=>rfl
 | cons x _ ih=>rw [Dd,Dd,ih]
 | swap x y l=>simp only [Dd];omega
 | trans _ _ h1 h2=>rw [h1,h2]
theorem Qgn {n:Nat} (h:2<=n):1<=D7 n/\2 ^ D7 n<=n/\n < 2 ^ (D7 n+1):=by
 refine ⟨(Gb (by omega)).2 (by simpa using h),Ue (by omega),Uf⟩
theorem Qyu {n:Nat} (h:2<=n) (h2:n<=258):D7 n<=8:=by
 have:=(Qgn h).2.1;rcases Yo 8 (D7 n) with h3 | h3
 ·
  have:=Xt (n:=2) (by omega) h3;omega
 exact h3
theorem Qox {n K p:Nat} (hK:n<=2 * K) (hn:K<=n) (c:Nat) (f:Nat->Nat) (hf:∀ i,f i=if 2 * K - n<=i then c else 2 * c):∀ m,m<=n->Be f m=if m<=2 * K - n then m * (2 * c) else (2 * K - n) * (2 * c)+(m - (2 * K - n)) * c
 | 0,_=>by simp [Be]
 | m+1,h=>by
  rw [Be,Qox (p:=p) hK hn c f hf m (by omega),hf];by_cases h1:m+1<=2 * K - n
  ·
   rw [if_pos (by omega),if_neg (by omega),if_pos h1];exact (Xx m (2 * c)).symm
  rw [if_neg h1];by_cases h2:m<=2 * K - n
  ·
   have e:m=2 * K - n:=by omega
   rw [if_pos h2,if_pos (by omega),show m+1 - (2 * K - n)=1 by omega,Nat.one_mul,e]
  rw [if_neg h2,if_pos (by omega),show m+1 - (2 * K - n)=(m - (2 * K - n))+1 by omega,Ux,show (m - (2 * K - n)+1) * c=(m - (2 * K - n)) * c+c from Xx _ _]
theorem Qoy {w:List Nat} (h2:2<=w.length) (h258:w.length<=258):(Em w).length=w.length/\(∀ x∈Em w,1<=x/\x<=9)/\Dd (Em w)=1048576:=by
 obtain ⟨hk1,hk2,hk3⟩:=Qgn h2;have hk8:=Qyu h2 h258;refine ⟨by simp [Em],fun x hx=>?_,?_⟩
 ·
  obtain ⟨i,_,rfl⟩:=Y4.1 hx;unfold M0;split <;> omega
 obtain ⟨l,hp,hs⟩:=Qk2 w
 have e1:(Em w).Perm ((Yf w.length).map fun p=>M0 w.length p):=by
  have e2:(l.map fun i=>M0 w.length (S3 w i))=(Yf w.length).map fun p=>M0 w.length p:=by
   have hl:l.length=w.length:=by have:=hp.length_eq;simpa using this
   apply List.ext_getElem
   ·
    simp [hl]
   intro p h3 h4;simp only [List.getElem_map,List.getElem_range];rw [Qej hp hs]
  rw [<- e2];exact (hp.map _).symm
 rw [Qne e1,W4];have hp2:2 ^ (D7 w.length+1)=2 * 2 ^ D7 w.length:=by rw [Xj];omega
 have h20:2 ^ (20 - D7 w.length)=2 * 2 ^ (19 - D7 w.length):=by rw [show 20 - D7 w.length=(19 - D7 w.length)+1 by omega,Xj];omega
 have hc:2 ^ D7 w.length * 2 ^ (19 - D7 w.length)=524288:=by rw [<- Ur,show D7 w.length+(19 - D7 w.length)=19 by omega]
 rw [Qox (p:=0) (K:=2 ^ D7 w.length) (n:=w.length) (by omega) (by omega) (2 ^ (19 - D7 w.length)) _ (fun i=>?_) w.length (Y5 _)]
 ·
  generalize 2 ^ (19 - D7 w.length)=c at *;generalize 2 ^ D7 w.length=K at *;split
  ·
   rename_i h5;have e5:w.length=K:=by omega
   rw [e5,Nat.mul_left_comm,hc]
  rename_i h5;obtain ⟨d,hd⟩:∃ d,w.length=K+d:=⟨w.length - K,by omega⟩;rw [hd,show 2 * K - (K+d)=K - d by omega,show K+d - (K - d)=2 * d by omega];obtain ⟨e,he⟩:∃ e,K=d+e:=⟨K - d,by omega⟩;rw [show K - d=e by omega]
  have:e * (2 * c)+2 * d * c=2 * (K * c):=by
   rw [he,Gd,Nat.mul_add,Nat.mul_left_comm,Uy];omega
  rw [this,hc]
 simp only [M0];rw [hp2];split
 ·
  rw [show 20 - (D7 w.length+1)=19 - D7 w.length by omega]
 rw [h20]
def Cj (l:List Nat) (n m:Nat):List Nat:=(Yf m).filter fun i=>l.getD i 0 == n
def If (l:List Nat) (n:Nat):List Nat:=Cj l n l.length
def B6 (l:List Nat) (n:Nat):Nat:=(If l n).length
def Bw (l:List Nat):Nat->Nat
 | 0=>0
 | n+1=>2 * (Bw l n+B6 l n)
def Dv (l:List Nat) (i:Nat):Nat:=Bw l (l.getD i 0)+(Cj l (l.getD i 0) i).length
def M1 (l:List Nat) (i:Nat):List Bool:=A0 (l.getD i 0) (Dv l i)
def Qw (l:List Nat) (c k:Nat):Bool:=(Yf 21).any fun m=>decide (k < m) && decide (0 < B6 l m) && decide (c * 2 ^ (m - k) < Bw l m+B6 l m)
def Eo (l:List Nat):List Bool->Nat->Nat->Except Int (Nat×Nat)
 | [],_,_=>.error 10
 | b::r,n,code =>
  if Bw l (n+1)<=2 * code+b.toNat/\2 * code+b.toNat < Bw l (n+1)+B6 l (n+1) then .ok ((If l (n+1)).getD (2 * code+b.toNat - Bw l (n+1)) 0,n+1)
  else if Qw l (2 * code+b.toNat) (n+1)=true then Eo l r (n+1) (2 * code+b.toNat) else .error 90
def F9 (l:List Nat) (bits:List Bool) (at_:Nat):Except Int (Nat×Nat):=match Eo l (bits.drop at_) 0 0 with
 | .ok p=>.ok (p.1,at_+p.2)
 | .error e=>.error e
def C5 (l:List Nat) (bits:List Bool) (fin:Nat):Nat->Nat->Except Int (List Nat×Nat)
 | 0,at_=>.ok ([],at_)
 | n+1,at_=>match F9 l bits at_ with
  | .error e=>.error e
  | .ok p=>if p.1=fin then .ok ([p.1],p.2) else match C5 l bits fin n p.2 with
   | .error e=>.error e
   | .ok q=>.ok (p.1::q.1,q.2)
def Fa (l:List Nat):Prop:=2<=l.length/\l.length<=258/\(∀ x∈l,1<=x/\x<=20)/\Dd l<=1048576
theorem T6 (l:List Nat) (n m:Nat):Cj l n (m+1)=Cj l n m++if l.getD m 0=n then [m] else []:=by
 unfold Cj;rw [Xn,X2]
 congr 1
 by_cases h:l.getD m 0=n
 ·
  rw [if_pos h,Xo (by simp only [beq_iff_eq];exact h)];rfl
 rw [if_neg h,Xp (by simp only [beq_iff_eq];exact h)];rfl
theorem Qoz (l:List Nat) (n m:Nat):(Cj l n m).length<=m:=by
 unfold Cj;exact Xm (Xq _ _) (by simp)
theorem Qnf (l:List Nat) (n:Nat) {m m':Nat} (h:m<=m'):∃ r,Cj l n m'=Cj l n m++r:=by
 induction m' with
 | zero=>exact ⟨[],by rw [show m=0 by omega,Yp]⟩
 | succ m' ih =>
  rcases Yo m (m'+1) with h1 | h1
  ·
   obtain ⟨r,hr⟩:=ih (by omega);exact ⟨_,by rw [T6,hr,Yk]⟩
  exact ⟨[],by rw [show m=m'+1 by omega,Yp]⟩
theorem Zw {l:List Nat}{n m i:Nat}:i∈Cj l n m ↔ i < m/\l.getD i 0=n:=by
 unfold Cj;simp [List.mem_filter]
theorem Qji {l:List Nat}{i:Nat} (hi:i < l.length):(If l (l.getD i 0)).getD (Cj l (l.getD i 0) i).length 0=i/\(Cj l (l.getD i 0) i).length < B6 l (l.getD i 0):=by
 obtain ⟨r,hr⟩:=Qnf l (l.getD i 0) (m:=i+1) (m':=l.length) (by omega)
 have h1:If l (l.getD i 0)=Cj l (l.getD i 0) i++[i]++r:=by
  unfold If;rw [hr,T6,if_pos rfl]
 constructor
 ·
  rw [h1,Yk,Yb,X0 (Y5 _),U1];rfl
 rw [B6,h1];simp
theorem Qds {l:List Nat} (h:∀ x∈l,1<=x):B6 l 0=0:=by
 rw [B6,If,List.length_eq_zero_iff,List.eq_nil_iff_forall_not_mem];intro i hi;obtain ⟨h1,h2⟩:=Zw.1 hi;have:=h (l.getD i 0) (by rw [Yb,Ye h1];exact Y0 h1);omega
theorem Qtn (l:List Nat) (n:Nat):∀ m k,k < (Cj l n m).length->(Cj l n m).getD k 0 < m/\l.getD ((Cj l n m).getD k 0) 0=n/\(Cj l n ((Cj l n m).getD k 0)).length=k
 | 0,k,h=>by simp [Cj] at h
 | m+1,k,h=>by
  rw [T6] at h ⊢;rcases Yo k (Cj l n m).length with h1 | h1
  ·
   rw [Q1 h1];obtain ⟨a,b,c⟩:=Qtn l n m k h1;exact ⟨by omega,b,c⟩
  by_cases h2:l.getD m 0=n
  ·
   rw [if_pos h2] at h ⊢;have hk:k=(Cj l n m).length:=by simp at h;omega
   subst hk;rw [T5];exact ⟨by omega,h2,rfl⟩
  rw [if_neg h2,Yp] at h;omega
theorem Qo0 (l:List Nat) (n:Nat):∀ d,(Bw l n+B6 l n) * 2 ^ (d+1)<=Bw l (n+d+1)
 | 0=>by simp only [Uk,Nat.pow_one,Uj,Bw];omega
 | d+1=>by
  have:=Qo0 l n d;rw [show n+(d+1)+1=(n+d+1)+1 by omega,Bw,Xj,<- Uy];omega
theorem Qgo (l:List Nat) (n:Nat):∀ m,Be (fun i=>if l.getD i 0<=n+1 then 2 ^ (20 - l.getD i 0) else 0) m=Be (fun i=>if l.getD i 0<=n then 2 ^ (20 - l.getD i 0) else 0) m+(Cj l (n+1) m).length * 2 ^ (20 - (n+1))
 | 0=>by simp [Be,Cj]
 | m+1=>by
  rw [Be,Be,Qgo l n m,T6];by_cases h1:l.getD m 0=n+1
  ·
   rw [if_pos (by omega),if_neg (by omega),if_pos h1,h1,Yi,Gd];simp;omega
  rw [if_neg h1,Yp];by_cases h2:l.getD m 0<=n
  ·
   rw [if_pos h2,if_pos (by omega)];omega
  rw [if_neg h2,if_neg (by omega)];omega
theorem Qq8 (l:List Nat):Dd l=Be (fun i=>2 ^ (20 - l.getD i 0)) l.length:=by
 rw [<- W4]
 congr 1
 apply List.ext_getElem
 ·
  simp
 intro i h1 h2;simp [Yb,Ye h1]
theorem Qgp {l:List Nat} (h:∀ x∈l,1<=x/\x<=20):∀ n,n<=20->(Bw l n+B6 l n) * 2 ^ (20 - n)=Be (fun i=>if l.getD i 0<=n then 2 ^ (20 - l.getD i 0) else 0) l.length
 | 0,_=>by
  rw [Bw,Qds fun x hx=>(h x hx).1,Uk,Nat.zero_mul]
  symm
  have:Be (fun i=>if l.getD i 0<=0 then 2 ^ (20 - l.getD i 0) else 0) l.length=Be (fun _=>0) l.length:=Mp _ fun i hi=>by
   have:=h (l.getD i 0) (by rw [Yb,Ye hi];exact Y0 hi);rw [if_neg (by omega)]
  rw [this];generalize l.length=n
  induction n with
  | zero=>rfl
  | succ n ih=>rw [Be,ih]
 | n+1,hn=>by
  rw [Qgo,<- Qgp h n (by omega),Bw];have e:2 ^ (20 - n)=2 * 2 ^ (20 - (n+1)):=by rw [show 20 - n=(20 - (n+1))+1 by omega,Xj];omega
  rw [e,Gd]
  show _=_+B6 l (n+1) * _
  rw [Nat.mul_comm 2 (Bw l n+B6 l n),Uy]
theorem Vg {l:List Nat} (h:Fa l) {n:Nat} (hn:n<=20):Bw l n+B6 l n<=2 ^ n:=by
 have h1:=Qgp h.2.2.1 n hn
 have h2:Be (fun i=>if l.getD i 0<=n then 2 ^ (20 - l.getD i 0) else 0) l.length<=Dd l:=by
  rw [Qq8];generalize l.length=m
  induction m with
  | zero=>exact Y5 _
  | succ m ih =>
   rw [Be,Be];generalize 2 ^ (20 - l.getD m 0)=p;split <;> omega
 have h3:=h.2.2.2;have e:(1048576:Nat)=2 ^ n * 2 ^ (20 - n):=by rw [<- Ur,show n+(20 - n)=20 by omega]
 have h4:(Bw l n+B6 l n) * 2 ^ (20 - n)<=2 ^ n * 2 ^ (20 - n):=by omega
 exact Nat.le_of_mul_le_mul_right h4 (Nat.two_pow_pos _)
theorem V4 {l:List Nat} (h:Fa l) {i:Nat} (hi:i < l.length):1<=l.getD i 0/\l.getD i 0<=20 :=
 h.2.2.1 _ (by rw [Yb,Ye hi];exact Y0 hi)
theorem Zx {l:List Nat} (h:Fa l) {i:Nat} (hi:i < l.length):Bw l (l.getD i 0)<=Dv l i/\Dv l i < Bw l (l.getD i 0)+B6 l (l.getD i 0)/\Dv l i < 2 ^ l.getD i 0:=by
 have h1:=Qji hi;have h2:=Vg h (V4 h hi).2;unfold Dv;omega
theorem Qyv {l:List Nat} (h:Fa l) {i:Nat} (hi:i < l.length) (r:List Bool):∀ k,k < l.getD i 0->Eo l (A0 (k+1) (Dv l i)++r) (l.getD i 0 - (k+1)) (Dv l i / 2 ^ (k+1))=.ok (i,l.getD i 0):=by
 have hL:=V4 h hi;obtain ⟨hc1,hc2,hc3⟩:=Zx h hi;intro k
 induction k with
 | zero =>
  intro hk;rw [A0,Yl,Eo]
  have e:2 * (Dv l i / 2 ^ (0+1))+((Dv l i).testBit 0).toNat=Dv l i:=by
   rw [Nat.testBit_zero];rcases X3 (Dv l i) with h | h <;> rw [h] <;> simp <;> omega
  rw [e,show l.getD i 0 - (0+1)+1=l.getD i 0 by omega,if_pos ⟨hc1,hc2⟩];have:Dv l i - Bw l (l.getD i 0)=(Cj l (l.getD i 0) i).length:=by unfold Dv;omega
  rw [this,(Qji hi).1]
 | succ k ih =>
  intro hk;rw [A0,Yl,Eo]
  have e:2 * (Dv l i / 2 ^ (k+1+1))+((Dv l i).testBit (k+1)).toNat=Dv l i / 2 ^ (k+1):=by
   rw [Xj 2 (k+1),<- Nat.div_div_eq_div_mul,Nat.testBit_eq_decide_div_mod_eq];rcases X3 (Dv l i / 2 ^ (k+1)) with h | h <;> rw [h] <;> simp <;> omega
  rw [e,show l.getD i 0 - (k+1+1)+1=l.getD i 0 - (k+1) by omega];have hfl:=Qo0 l (l.getD i 0 - (k+1)) k;rw [show l.getD i 0 - (k+1)+k+1=l.getD i 0 by omega] at hfl;have hge:Bw l (l.getD i 0 - (k+1))+B6 l (l.getD i 0 - (k+1))<=Dv l i / 2 ^ (k+1):=(Uq (Nat.two_pow_pos _)).2 (by omega);rw [if_neg (by omega),if_pos,ih (by omega)];unfold Qw;rw [Xr];refine ⟨l.getD i 0,List.mem_range.2 (by omega),?_⟩
  have h1:Dv l i / 2 ^ (k+1) * 2 ^ (l.getD i 0 - (l.getD i 0 - (k+1)))<=Dv l i:=by
   rw [show l.getD i 0 - (l.getD i 0 - (k+1))=k+1 by omega];exact Nat.div_mul_le_self _ _
  simp only [Xs,decide_eq_true_eq];omega
theorem Qdt {l:List Nat} (h:Fa l) {i:Nat} (hi:i < l.length) {bits:List Bool}{at_:Nat}{r:List Bool} (hb:bits.drop at_=M1 l i++r):F9 l bits at_=.ok (i,at_+(M1 l i).length):=by
 have hL:=V4 h hi;have hc:=(Zx h hi).2.2;have:=Qyv h hi r (l.getD i 0 - 1) (by omega);rw [show l.getD i 0 - 1+1=l.getD i 0 by omega,U1,Nat.div_eq_of_lt hc] at this;rw [F9,hb]
 show (match Eo l (A0 (l.getD i 0) (Dv l i)++r) 0 0 with | .ok p=>_ | .error e=>_)=_
 rw [this,M1,Ct]
def Fx (l:List Nat) (list:List Nat):List Bool:=list.flatMap (M1 l)
theorem Mo {bits:List Bool}{at_:Nat}{a b:List Bool} (h:bits.drop at_=a++b):bits.drop (at_+a.length)=b:=by
 rw [<- List.drop_drop,h,List.drop_left]
theorem Qjj {l:List Nat} (h:Fa l) (fin:Nat):∀ (list:List Nat) (n:Nat) {bits:List Bool}{at_:Nat}{r:List Bool},(∀ s∈list,s < l.length/\s≠fin)->list.length=n->bits.drop at_=Fx l list++r->C5 l bits fin n at_=.ok (list,at_+(Fx l list).length)
 | [],n,bits,at_,r,_,hn,hb=>by simp at hn;subst hn;simp [C5,Fx]
 | s::list,n,bits,at_,r,hs,hn,hb=>by
  simp at hn;subst hn;have hb':bits.drop at_=M1 l s++(Fx l list++r):=by rw [hb];simp [Fx,Yk]
  have h1:=hs s (by simp);rw [C5,Qdt h h1.1 hb'];simp only;rw [if_neg h1.2,Qjj h fin list list.length (fun x hx=>hs x (by simp [hx])) rfl (Mo hb')];simp [Fx];omega
theorem Qbr {l:List Nat} (h:Fa l) (fin:Nat) (hf:fin < l.length):∀ (list:List Nat) (n:Nat) {bits:List Bool}{at_:Nat}{r:List Bool},(∀ s∈list,s < l.length/\s≠fin)->list.length+1<=n->bits.drop at_=Fx l (list++[fin])++r->C5 l bits fin n at_=.ok (list++[fin],at_+(Fx l (list++[fin])).length)
 | [],n,bits,at_,r,_,hn,hb=>by
  obtain ⟨n,rfl⟩:∃ m,n=m+1:=⟨n - 1,by simp at hn;omega⟩;have hb':bits.drop at_=M1 l fin++r:=by rw [hb];simp [Fx]
  rw [C5,Qdt h hf hb'];simp [Fx]
 | s::list,n,bits,at_,r,hs,hn,hb=>by
  simp at hn;obtain ⟨n,rfl⟩:∃ m,n=m+1:=⟨n - 1,by omega⟩;have hb':bits.drop at_=M1 l s++(Fx l (list++[fin])++r):=by rw [hb];simp [Fx,Yk]
  have h1:=hs s (by simp);rw [C5,Qdt h h1.1 hb'];simp only;rw [if_neg h1.2,Qbr h fin hf list n (fun x hx=>hs x (by simp [hx])) (by omega) (Mo hb')];simp [Fx];omega
theorem Qgq {l:List Nat}{c:Nat} (h:∀ x∈l,x<=c):∀ (list:List Nat),(Fx l list).length<=list.length * c
 | []=>by simp [Fx]
 | s::list=>by
  have h1:=Qgq h list
  have h2:(M1 l s).length<=c:=by
   rw [M1,Ct];by_cases hs:s < l.length
   ·
    exact h _ (by rw [Yb,Ye hs];exact Y0 hs)
   rw [Qa7 (by omega)];omega
  simp only [Fx,Xk,Yi,Yz,Xx] at h1 ⊢;omega
def O0 (a b:Nat):List Bool:=if a < b then (Yh (b - a) [true,false]).flatten else (Yh (a - b) [true,true]).flatten
def Ec:Nat->List Nat->List Bool
 | _,[]=>[]
 | p,x::r=>O0 p x++(false::Ec x r)
def De (l:List Nat):List Bool:=A0 5 (l.getD 0 0)++Ec (l.getD 0 0) l
def Bv:List Bool->Nat->Nat->Nat->Except Int (List Nat×Nat)
 | [],now,k,at_=>if k=0 then .ok ([],at_) else if now < 1∨20 < now then .error 80 else .error 10
 | false::r,now,k,at_=>if k=0 then .ok ([],at_) else if now < 1∨20 < now then .error 80 else match Bv r now (k - 1) (at_+1) with
  | .error e=>.error e
  | .ok q=>.ok (now::q.1,q.2)
 | [true],now,k,at_=>if k=0 then .ok ([],at_) else if now < 1∨20 < now then .error 80 else .error 10
 | true::d::r,now,k,at_=>if k=0 then .ok ([],at_) else if now < 1∨20 < now then .error 80 else Bv r (if d=true then now - 1 else now+1) k (at_+2)
def Kn (bits:List Bool) (at_ n:Nat):Except Int (List Nat×Nat) :=
 if (Dq bits at_ 5).2≠0 then .error (Dq bits at_ 5).2 else Bv (bits.drop (at_+5)) (Dq bits at_ 5).1 n (at_+5)
theorem QFj:∀ (d p k:Nat) (r:List Bool) (at_:Nat),0 < k->1<=p->p+d<=20->Bv ((Yh d [true,false]).flatten++r) p k at_=Bv r (p+d) k (at_+2 * d)
 | 0,p,k,r,at_,_,_,_=>rfl
 | d+1,p,k,r,at_,h1,h2,h3=>by
  rw [Xf,X7,Yk]
  show Bv (true::false::((Yh d [true,false]).flatten++r)) p k at_=_
  rw [Bv,if_neg (by omega),if_neg (by omega),if_neg (by simp),QFj d (p+1) k r (at_+2) h1 (by omega) (by omega)]
  congr 1 <;> omega
theorem Qto:∀ (d p k:Nat) (r:List Bool) (at_:Nat),0 < k->d < p->p<=20->Bv ((Yh d [true,true]).flatten++r) p k at_=Bv r (p - d) k (at_+2 * d)
 | 0,p,k,r,at_,_,_,_=>rfl
 | d+1,p,k,r,at_,h1,h2,h3=>by
  rw [Xf,X7,Yk]
  show Bv (true::true::((Yh d [true,true]).flatten++r)) p k at_=_
  rw [Bv,if_neg (by omega),if_neg (by omega),if_pos rfl,Qto d (p - 1) k r (at_+2) h1 (by omega) (by omega)]
  congr 1 <;> omega
theorem T7 (d:Nat) (b:Bool):(Yh d [true,b]).flatten.length=2 * d:=by
 induction d with
 | zero=>rfl
 | succ d ih=>rw [Xf,X7,Yi,ih];simp;omega
theorem Qa9 (a b:Nat):(O0 a b).length=2 * ((b - a)+(a - b)):=by
 unfold O0;split <;> rw [T7] <;> omega
theorem QD8 {p x k:Nat} (r:List Bool) (at_:Nat) (hk:0 < k) (hp:1<=p/\p<=20) (hx:1<=x/\x<=20):Bv (O0 p x++r) p k at_=Bv r x k (at_+(O0 p x).length):=by
 rw [Qa9];unfold O0;split
 ·
  rw [QFj _ _ _ _ _ hk hp.1 (by omega)];congr 1 <;> omega
 rw [Qto _ _ _ _ _ hk (by omega) hp.2];congr 1 <;> omega
theorem QFk:∀ (l:List Nat) (p:Nat) (r:List Bool) (at_:Nat),(1<=p/\p<=20)->(∀ x∈l,1<=x/\x<=20)->Bv (Ec p l++r) p l.length at_=.ok (l,at_+(Ec p l).length)
 | [],p,r,at_,_,_=>by
  show Bv r p 0 at_=_
  match r with
  | []=>simp [Bv,Ec]
  | false::r=>simp [Bv,Ec]
  | [true]=>simp [Bv,Ec]
  | true::d::r=>simp [Bv,Ec]
 | x::l,p,r,at_,hp,hx=>by
  have h1:=hx x (by simp);rw [Ec,Yk,Yl,QD8 _ _ (by simp) hp h1,Bv,if_neg (by simp),if_neg (by omega)];rw [Yz,Xb,QFk l x r _ h1 fun y hy=>hx y (by simp [hy])];simp;omega
theorem Qq9 {l:List Nat} (hl:l≠[]) (h:∀ x∈l,1<=x/\x<=20) {bits:List Bool}{at_:Nat}{r:List Bool} (hb:bits.drop at_=De l++r):Kn bits at_ l.length=.ok (l,at_+(De l).length):=by
 have h0:1<=l.getD 0 0/\l.getD 0 0<=20:=h _ (by
  cases l with
  | nil=>exact absurd rfl hl
  | cons x l=>simp)
 have hlen:bits.length - at_=(De l).length+r.length:=by rw [<- Y1,hb,Yi]
 have h5:(De l).length=5+(Ec (l.getD 0 0) l).length:=by rw [De,Yi,Ct]
 have ht:(bits.drop at_).take 5=A0 5 (l.getD 0 0):=by
  rw [hb,De,Yk];have:=Ct 5 (l.getD 0 0);rw [Yw (by omega),Ys (by omega)]
 have hd:bits.drop (at_+5)=Ec (l.getD 0 0) l++r:=by
  have:=Mo (bits:=bits) (at_:=at_) (a:=A0 5 (l.getD 0 0)) (b:=Ec (l.getD 0 0) l++r) (by rw [hb,De,Yk])
  rwa [Ct] at this
 have hts:Dq bits at_ 5=(l.getD 0 0,0):=by
  rw [Dq,if_neg (by omega),ht,Os,Nat.mod_eq_of_lt (by omega)]
 rw [Kn,hts,hd,h5,QFk l _ r _ h0 h];simp;omega
theorem Qc1 {k:Nat}:∀ (l:List Nat) (p:Nat),(p=k∨p=k+1)->(∀ x∈l,x=k∨x=k+1)->(Ec p l).length<=3 * l.length
 | [],p,_,_=>by simp [Ec]
 | x::l,p,hp,hx=>by
  have h1:=hx x (by simp);have h2:=Qc1 l x h1 fun y hy=>hx y (by simp [hy]);have h3:=Qa9 p x;simp only [Ec,Yi,Yz];omega
def Kc (li:List Nat) (at_:Nat):List Nat:=li.getD at_ 0::(li.take at_++li.drop (at_+1))
theorem Tu {li:List Nat}{at_:Nat} (h:at_ < li.length):(Kc li at_).length=li.length:=by simp [Kc];omega
theorem W5 {li:List Nat}{at_:Nat} (h:at_ < li.length) (c:Nat):c∈Kc li at_ ↔ c∈li:=by
 have e:li=li.take at_++li.getD at_ 0::li.drop (at_+1):=by
  have:li.getD at_ 0=li[at_]:=by rw [Yb,Ye h];rfl
  rw [this,<- X6 h,Yx]
 unfold Kc
 conv=>rhs;rw [e]
 simp only [Xe,Uo];constructor
 ·
  rintro (h | h | h)
  ·
   exact .inr (.inl h)
  ·
   exact .inl h
  exact .inr (.inr h)
 rintro (h | h | h)
 ·
  exact .inr (.inl h)
 ·
  exact .inl h
 exact .inr (.inr h)
theorem Qgr {li:List Nat}{c:Nat} (h:c∈li):li.getD (li.idxOf c) 0=c:=by
 have h1:=Yy.2 h;rw [Yb,Ye h1,Ug];exact Uz h1
def Iu:List Nat->List Nat->List Bool
 | _,[]=>[]
 | li,p::r=>Yh (li.idxOf p) true++(false::Iu (Kc li (li.idxOf p)) r)
def Ex (T:List (List Nat)) (P:List Nat):List Bool:=A0 3 T.length++(A0 15 P.length++(Iu (Yf T.length) P++T.flatMap De))
def Fs (bits:List Bool) (many:Nat):List Nat->Nat->Nat->Except Int (List Nat×Nat)
 | li,0,at_=>.ok ([],at_)
 | li,k+1,at_=>if (C0 (bits.drop at_) (many - 1) 0).2≠0 then .error (if (C0 (bits.drop at_) (many - 1) 0).2=3 then 110 else (C0 (bits.drop at_) (many - 1) 0).2) else
  match Fs bits many (Kc li (C0 (bits.drop at_) (many - 1) 0).1) k (at_+(C0 (bits.drop at_) (many - 1) 0).1+1) with
  | .error e=>.error e
  | .ok q=>.ok (li.getD (C0 (bits.drop at_) (many - 1) 0).1 0::q.1,q.2)
def Og (l:List Nat):Bool:=decide (2<=l.length) && decide (l.length<=258) && l.all (fun x=>decide (1<=x) && decide (x<=20)) && decide (Dd l<=1048576)
theorem Zy {l:List Nat}:Og l=true ↔ Fa l:=by
 simp only [Og,Fa,Xs,decide_eq_true_eq,List.all_eq_true,and_assoc]
def Ft (bits:List Bool) (n:Nat):Nat->Nat->Except Int (List (List Nat)×Nat)
 | 0,at_=>.ok ([],at_)
 | k+1,at_=>match Kn bits at_ n with
  | .error e=>.error e
  | .ok q=>if Og q.1=false then .error 80 else match Ft bits n k q.2 with
   | .error e=>.error e
   | .ok q'=>.ok (q.1::q'.1,q'.2)
def I7 (bits:List Bool) (at_ n:Nat):Except Int ((List (List Nat)×List Nat)×Nat) :=
 if (Dq bits at_ 3).2≠0 then .error (Dq bits at_ 3).2 else
 if (Dq bits at_ 3).1 < 2∨6 < (Dq bits at_ 3).1 then .error 110 else
 if (Dq bits (at_+3) 15).2≠0 then .error (Dq bits (at_+3) 15).2 else
 if (Dq bits (at_+3) 15).1=0 then .error 110 else
 match Fs bits (Dq bits at_ 3).1 (Yf (Dq bits at_ 3).1) (Dq bits (at_+3) 15).1 (at_+18) with
 | .error e=>.error e
 | .ok q=>match Ft bits n (Dq bits at_ 3).1 q.2 with
  | .error e=>.error e
  | .ok q'=>.ok ((q'.1,q.1),q'.2)
def Nr (T:List (List Nat)) (P:List Nat):Prop:=2<=T.length/\T.length<=6/\1<=P.length/\P.length<=32767/\(∀ t∈T,t.length=(T.getD 0 []).length/\3<=t.length/\Fa t)/\∀ k∈P,k < T.length
theorem Qtp:∀ (k most n:Nat) (r:List Bool),n+k<=most->C0 (Yh k true++false::r) most n=(n+k,0)
 | 0,most,n,r,_=>rfl
 | k+1,most,n,r,h=>by
  rw [Xf,Yl,C0,if_neg (by omega),Qtp k most (n+1) r (by omega)]
  congr 1;omega
theorem QFl (many:Nat):∀ (P li:List Nat) {bits:List Bool}{at_:Nat}{r:List Bool},li.length=many->(∀ k∈P,k∈li)->bits.drop at_=Iu li P++r->Fs bits many li P.length at_=.ok (P,at_+(Iu li P).length)
 | [],li,bits,at_,r,_,_,_=>by simp [Fs,Iu]
 | p::P,li,bits,at_,r,hl,hm,hb=>by
  have hp:=hm p (by simp);have h1:=Yy.2 hp;have hb':bits.drop at_=(Yh (li.idxOf p) true++[false])++(Iu (Kc li (li.idxOf p)) P++r):=by rw [hb,Iu];simp
  have hu:C0 (bits.drop at_) (many - 1) 0=(li.idxOf p,0):=by
   rw [hb',Yk,List.singleton_append,Qtp _ _ _ _ (by omega),Uk]
  have hd:=Mo hb';simp only [Yi,List.length_replicate,Xc] at hd;rw [Yz,Fs,hu];simp only;rw [Ux,QFl many P (Kc li (li.idxOf p)) (by rw [Tu h1,hl]) (fun k hk=>(W5 h1 k).2 (hm k (by simp [hk]))) hd,Qgr hp];simp [Iu];omega
theorem QFm (n:Nat):∀ (T:List (List Nat)) {bits:List Bool}{at_:Nat}{r:List Bool},(∀ t∈T,t.length=n/\Fa t)->bits.drop at_=T.flatMap De++r->Ft bits n T.length at_=.ok (T,at_+(T.flatMap De).length)
 | [],bits,at_,r,_,_=>by simp [Ft]
 | t::T,bits,at_,r,hT,hb=>by
  obtain ⟨h1,h2⟩:=hT t (by simp);have hb':bits.drop at_=De t++(T.flatMap De++r):=by rw [hb];simp
  have hne:t≠[]:=fun e=>by subst e;have:=h2.1;simp at this
  have ht:=Qq9 hne h2.2.2.1 hb';rw [h1] at ht;rw [Yz,Ft,ht];simp only;rw [if_neg (by rw [Zy.2 h2];simp),QFm n T (fun t ht=>hT t (by simp [ht])) (Mo hb')];simp;omega
theorem Qjk {n v:Nat}{bits:List Bool}{at_:Nat}{r:List Bool} (h0:0 < n) (hv:v < 2 ^ n) (hb:bits.drop at_=A0 n v++r):Dq bits at_ n=(v,0)/\bits.drop (at_+n)=r:=by
 have hlen:bits.length - at_=n+r.length:=by rw [<- Y1,hb,Yi,Ct]
 have hd:=Mo hb;rw [Ct] at hd;refine ⟨?_,hd⟩;have hl:=Ct n v
 have ht:(bits.drop at_).take n=A0 n v:=by
  rw [hb,Yw (by omega),Ys (by omega)]
 rw [Dq,ht,Os,Nat.mod_eq_of_lt hv];rw [if_neg (by omega)]
theorem Qvl {T:List (List Nat)}{P:List Nat} (h:Nr T P) {bits:List Bool}{at_:Nat}{r:List Bool} (hb:bits.drop at_=Ex T P++r):I7 bits at_ (T.getD 0 []).length=.ok ((T,P),at_+(Ex T P).length):=by
 obtain ⟨h1,h2,h3,h4,h5,h6⟩:=h;unfold Ex at hb;simp only [Yk] at hb;obtain ⟨t1,d1⟩:=Qjk (by omega) (by omega) hb;obtain ⟨t2,d2⟩:=Qjk (by omega) (by omega) d1;rw [Ux] at d2;have p1:=QFl T.length P (Yf T.length) (by simp) (fun k hk=>by simpa using h6 k hk) d2;have d3:=Mo d2;have p2:=QFm (T.getD 0 []).length T (fun t ht=>⟨(h5 t ht).1,(h5 t ht).2.2⟩) d3;rw [I7,t1,t2];simp only;rw [if_neg (by simp),if_neg (by omega),if_neg (by simp),if_neg (by omega),p1];simp only;rw [p2];simp [Ex,Ct];omega
theorem Ze {l:List Bool}{at_ n:Nat} (h:l.length < at_+n):Dq l at_ n=(0,10):=if_pos h
theorem Qcd {l:List Bool}{at_ n:Nat} (h:at_+n<=l.length):Dq l at_ n=(Bc ((l.drop at_).take n),0):=if_neg (by omega)
theorem QAg:∀ (r:List Bool) (most n:Nat),n<=most->(C0 r most n).2=0->n<=(C0 r most n).1/\(C0 r most n).1<=most/\(C0 r most n).1+1<=n+r.length
 | [],most,n,_,h=>by simp [C0] at h
 | false::r,most,n,hn,h=>by simp [C0];omega
 | true::r,most,n,hn,h=>by
  rw [C0] at h ⊢;split
  ·
   rename_i e;rw [if_pos e] at h;simp at h
  rename_i e;rw [if_neg e] at h;have:=QAg r most (n+1) (by omega) h;simp;omega
theorem Qfc:∀ (m:Nat) (r:List Bool) (now k at_:Nat) (q:List Nat×Nat),r.length<=m->Bv r now k at_=.ok q->q.1.length=k/\q.2<=at_+r.length/\at_<=q.2
 | _,[],now,k,at_,q,_,h=>by
  rw [Bv] at h;split at h
  ·
   cases h;simp;omega
  split at h <;> cases h
 | 0,b::r,now,k,at_,q,hm,h=>by simp at hm
 | m+1,false::r,now,k,at_,q,hm,h=>by
  rw [Bv] at h;split at h
  ·
   cases h;simp;omega
  split at h
  ·
   cases h
  split at h
  ·
   cases h
  rename_i q' hq;cases h;have:=Qfc m r _ _ _ q' (by simpa using hm) hq;simp;omega
 | m+1,[true],now,k,at_,q,hm,h=>by
  rw [Bv] at h;split at h
  ·
   cases h;simp;omega
  split at h <;> cases h
 | m+1,true::d::r,now,k,at_,q,hm,h=>by
  rw [Bv] at h;split at h
  ·
   cases h;simp;omega
  split at h
  ·
   cases h
  have:=Qfc m r _ _ _ q (by simp at hm;omega) h;simp;omega
theorem Qhp:∀ (m:Nat) (r:List Bool) (now k at_:Nat) (e:Int),r.length<=m->Bv r now k at_=.error e->e≠0
 | _,[],now,k,at_,e,_,h=>by
  rw [Bv] at h;split at h
  ·
   cases h
  split at h <;> (cases h;omega)
 | 0,b::r,now,k,at_,e,hm,h=>by simp at hm
 | m+1,false::r,now,k,at_,e,hm,h=>by
  rw [Bv] at h;split at h
  ·
   cases h
  split at h
  ·
   cases h;omega
  split at h
  ·
   rename_i e' he;cases h;exact Qhp m r _ _ _ _ (by simpa using hm) he
  cases h
 | m+1,[true],now,k,at_,e,hm,h=>by
  rw [Bv] at h;split at h
  ·
   cases h
  split at h <;> (cases h;omega)
 | m+1,true::d::r,now,k,at_,e,hm,h=>by
  rw [Bv] at h;split at h
  ·
   cases h
  split at h
  ·
   cases h;omega
  exact Qhp m r _ _ _ e (by simp at hm;omega) h
theorem Qc2 {bits:List Bool}{at_ n:Nat}{q:List Nat×Nat} (h:Kn bits at_ n=.ok q):q.1.length=n/\q.2<=bits.length:=by
 unfold Kn at h;split at h
 ·
  cases h
 rename_i h1
 have h2:at_+5<=bits.length:=by
  rcases Yo bits.length (at_+5) with h3 | h3
  ·
   rw [Ze h3] at h1;simp at h1
  exact h3
 have:=Qfc _ _ _ _ _ _ (Y5 _) h;rw [Y1] at this;omega
theorem Qbs {bits:List Bool}{at_ n:Nat}{e:Int} (h:Kn bits at_ n=.error e):e≠0:=by
 unfold Kn at h;split at h
 ·
  rename_i h1;cases h;exact h1
 exact Qhp _ _ _ _ _ _ (Y5 _) h
theorem Qlz {bits:List Bool}{many:Nat} (hm:0 < many):∀ (k:Nat) (li:List Nat) (at_:Nat) (q:List Nat×Nat),li.length=many->at_<=bits.length->Fs bits many li k at_=.ok q->q.1.length=k/\q.2<=bits.length/\∀ x∈q.1,x∈li
 | 0,li,at_,q,hl,ha,h=>by rw [Fs] at h;cases h;simp;exact ha
 | k+1,li,at_,q,hl,ha,h=>by
  rw [Fs] at h;split at h
  ·
   cases h
  rename_i h1;have h1:=Decidable.not_not.1 h1;have h2:=QAg _ _ _ (by omega) h1;rw [Y1] at h2;generalize (C0 (bits.drop at_) (many - 1) 0).1=u at *;have hu:u < li.length:=by omega
  split at h
  ·
   cases h
  rename_i q' hq;cases h;obtain ⟨a,b,c⟩:=Qlz hm k _ _ q' (by rw [Tu hu];exact hl) (by omega) hq;refine ⟨by simp [a],b,fun x hx=>?_⟩;rcases Xe.1 hx with rfl | hx
  ·
   rw [Yb,Ye hu];exact Y0 hu
  exact (W5 hu x).1 (c x hx)
theorem Qhq {bits:List Bool}{many:Nat}:∀ (k:Nat) (li:List Nat) (at_:Nat) (e:Int),Fs bits many li k at_=.error e->e≠0
 | 0,li,at_,e,h=>by rw [Fs] at h;cases h
 | k+1,li,at_,e,h=>by
  rw [Fs] at h;split at h
  ·
   rename_i h1;cases h;split
   ·
    omega
   exact h1
  split at h
  ·
   rename_i e' he;cases h;exact Qhq k _ _ _ he
  cases h
theorem Ql0 {bits:List Bool}{n:Nat}:∀ (k at_:Nat) (q:List (List Nat)×Nat),at_<=bits.length->Ft bits n k at_=.ok q->q.1.length=k/\q.2<=bits.length/\∀ t∈q.1,t.length=n/\Og t=true
 | 0,at_,q,ha,h=>by rw [Ft] at h;cases h;simp;exact ha
 | k+1,at_,q,ha,h=>by
  rw [Ft] at h;split at h
  ·
   cases h
  rename_i q1 h1;have h2:=Qc2 h1;split at h
  ·
   cases h
  rename_i h3;split at h
  ·
   cases h
  rename_i q' hq;cases h;obtain ⟨a,b,c⟩:=Ql0 k _ q' h2.2 hq;refine ⟨by simp [a],b,fun t ht=>?_⟩;rcases Xe.1 ht with rfl | ht
  ·
   exact ⟨h2.1,by simpa using h3⟩
  exact c t ht
theorem Qhr {bits:List Bool}{n:Nat}:∀ (k at_:Nat) (e:Int),Ft bits n k at_=.error e->e≠0
 | 0,at_,e,h=>by rw [Ft] at h;cases h
 | k+1,at_,e,h=>by
  rw [Ft] at h;split at h
  ·
   rename_i e' he;cases h;exact Qbs he
  split at h
  ·
   cases h;omega
  split at h
  ·
   rename_i e' he;cases h;exact Qhr k _ _ he
  cases h
theorem Qba {bits:List Bool}{at_ n:Nat}{q:(List (List Nat)×List Nat)×Nat} (hn:3<=n) (h:I7 bits at_ n=.ok q):Nr q.1.1 q.1.2/\(q.1.1.getD 0 []).length=n/\q.2<=bits.length:=by
 unfold I7 at h;split at h
 ·
  cases h
 rename_i h1;split at h
 ·
  cases h
 rename_i h2;split at h
 ·
  cases h
 rename_i h3;split at h
 ·
  cases h
 rename_i h4
 have h5:at_+3+15<=bits.length:=by
  rcases Yo bits.length (at_+3+15) with h3' | h3'
  ·
   rw [Ze h3'] at h3;simp at h3
  exact h3'
 have h6:(Dq bits (at_+3) 15).1<=32767:=by
  rw [Qcd h5];have:=K8 ((bits.drop (at_+3)).take 15);have h7:((bits.drop (at_+3)).take 15).length=15:=by simp;omega
  rw [h7] at this;simp only;omega
 generalize (Dq bits (at_+3) 15).1=np at *;generalize (Dq bits at_ 3).1=many at *;split at h
 ·
  cases h
 rename_i q1 hq1;split at h
 ·
  cases h
 rename_i q2 hq2;cases h;obtain ⟨a,b,c⟩:=Qlz (by omega) np _ _ q1 (by simp) (by omega) hq1;obtain ⟨a2,b2,c2⟩:=Ql0 many _ q2 b hq2
 have h0:(q2.1.getD 0 []).length=n:=by
  rw [Yb,Ye (by omega)];exact (c2 _ (Y0 _)).1
 refine ⟨⟨by simp only;omega,by simp only;omega,by simp only;omega,by simp only;omega,fun t ht=>?_,fun k hk=>?_⟩,h0,b2⟩
 ·
  simp only at ht ⊢;rw [h0];exact ⟨(c2 t ht).1,by have:=(c2 t ht).1;omega,Zy.1 (c2 t ht).2⟩
 have:=c k hk;simp at this ⊢;omega
theorem Qc3 {bits:List Bool}{at_ n:Nat}{e:Int} (h:I7 bits at_ n=.error e):e≠0:=by
 unfold I7 at h;split at h
 ·
  rename_i h1;cases h;exact h1
 split at h
 ·
  cases h;omega
 split at h
 ·
  rename_i h1;cases h;exact h1
 split at h
 ·
  cases h;omega
 split at h
 ·
  rename_i e' he;cases h;exact Qhq _ _ _ _ he
 split at h
 ·
  rename_i e' he;cases h;exact Qhr _ _ _ he
 cases h
def E7 (T:List (List Nat)) (P:List Nat):List Nat->Nat->List Bool
 | [],_=>[]
 | s::r,i=>M1 (T.getD (P.getD (i / 50) 0) []) s++E7 T P r (i+1)
def K1 (T:List (List Nat)):List Nat->List Nat->List Bool
 | [],_=>[]
 | p::P,list=>Fx (T.getD p []) (list.take 50)++K1 T P (list.drop 50)
def Ef (T:List (List Nat)) (bits:List Bool) (fin:Nat):List Nat->Nat->Except Int (List Nat×Nat)
 | [],_=>.error 110
 | p::P,at_=>match C5 (T.getD p []) bits fin 50 at_ with
  | .error e=>.error e
  | .ok q=>if q.1.getLast? = some fin then .ok q else match Ef T bits fin P q.2 with
   | .error e=>.error e
   | .ok q'=>.ok (q.1++q'.1,q'.2)
theorem Qek (T:List (List Nat)) (P:List Nat) (j:Nat) (b:List Nat):∀ (a:List Nat) (m:Nat),a.length+m<=50->E7 T P (a++b) (50 * j+m)=Fx (T.getD (P.getD j 0) []) a++E7 T P b (50 * j+m+a.length)
 | [],m,_=>rfl
 | s::a,m,h=>by
  simp at h;rw [Yl,E7,show (50 * j+m) / 50=j by omega,show 50 * j+m+1=50 * j+(m+1) by omega,Qek T P j b a (m+1) (by omega)];simp only [Fx,Xk,Yk,Yz]
  congr 3;omega
theorem Qgs (T:List (List Nat)) (P:List Nat):∀ (Q:List Nat) (j:Nat) (list:List Nat),P.drop j=Q->list.length<=50 * Q.length->E7 T P list (50 * j)=K1 T Q list
 | [],j,list,hQ,hl=>by
  simp at hl;subst hl;rfl
 | p::Q,j,list,hQ,hl=>by
  have hj:P.getD j 0=p:=by
   have:=congrArg (fun l=>l.getD 0 0) hQ;simpa [Yb,List.getElem?_drop] using this
  have h1:=Qek T P j (list.drop 50) (list.take 50) 0 (by simp;omega);rw [Yx,Uj,hj] at h1;rw [h1,K1]
  congr 1
  rcases Yo list.length 50 with h2 | h2
  ·
   have hd:list.drop 50=[]:=Y7 (by omega);rw [hd];clear hl h1;generalize 50 * j+(list.take 50).length=i
   have:∀ Q:List Nat,K1 T Q []=[]:=fun Q=>by induction Q with
    | nil=>rfl
    | cons q Q ih=>rw [K1];simp [Fx,ih]
   rw [this];rfl
  rw [Y9,Nat.min_eq_left h2,show 50 * j+50=50 * (j+1) by omega];refine Qgs T P Q (j+1) _ ?_ (by simp at hl ⊢;omega);rw [<- List.drop_drop,hQ];rfl
theorem Qo1 (T:List (List Nat)):∀ Q:List Nat,K1 T Q []=[]
 | []=>rfl
 | q::Q=>by rw [K1,List.drop_nil,Qo1 T Q];rfl
theorem Qtq {T:List (List Nat)}{n fin:Nat} (hf:fin < n) (hT:∀ t,t < T.length->(T.getD t []).length=n/\Fa (T.getD t [])):∀ (P body:List Nat) {bits:List Bool}{at_:Nat}{r:List Bool},(∀ k∈P,k < T.length)->(∀ s∈body,s < n/\s≠fin)->(body++[fin]).length<=50 * P.length->bits.drop at_=K1 T P (body++[fin])++r ->
  Ef T bits fin P at_=.ok (body++[fin],at_+(K1 T P (body++[fin])).length)
 | [],body,bits,at_,r,_,_,hl,_=>by simp at hl
 | p::P,body,bits,at_,r,hP,hs,hl,hb=>by
  obtain ⟨h1,h2⟩:=hT p (hP p (by simp));rw [K1,Yk] at hb;rw [Ef,K1];rcases Yo body.length 50 with h3 | h3
  ·
   have e1:(body++[fin]).take 50=body++[fin]:=Ys (by simp;omega);have e2:(body++[fin]).drop 50=[]:=Y7 (by simp;omega);rw [e1,e2,Qo1] at hb ⊢;rw [Qbr h2 fin (by omega) body 50 (fun s hs'=>by rw [h1];exact hs s hs') (by omega) hb];simp only;rw [if_pos (by simp),Yp]
  have e1:(body++[fin]).take 50=body.take 50:=by rw [Yw h3]
  have e2:(body++[fin]).drop 50=body.drop 50++[fin]:=by rw [List.drop_append_of_le_length h3]
  rw [e1,e2] at hb ⊢;have hmem:∀ s∈body.take 50,s < (T.getD p []).length/\s≠fin:=fun s hs'=>by rw [h1];exact hs s (List.mem_of_mem_take hs')
  rw [Qjj h2 fin (body.take 50) 50 hmem (by rw [Y9];omega) hb];simp only;have hlast:¬ (body.take 50).getLast? = some fin:=fun e=>(hmem fin (List.mem_of_getLast? e)).2 rfl;rw [if_neg hlast,Qtq hf hT P (body.drop 50) (fun k hk=>hP k (by simp [hk])) (fun s hs'=>hs s (List.mem_of_mem_drop hs')) (by simp at hl ⊢;omega) (Mo hb)];simp only [Except.ok.injEq,Prod.mk.injEq,Yi];refine ⟨?_,by omega⟩;rw [<- Yk,Yx]
def Ez (list:List Nat) (n:Nat):List Nat:=(Yf n).map fun s=>list.count s
def Rj (list P:List Nat) (t n:Nat):List Nat:=(Yf n).map fun s=>(Yf list.length).countP fun i=>list.getD i 0 == s && P.getD (i / 50) 0 == t
def Me (tab chunk:List Nat):Nat:=(chunk.map fun s=>tab.getD s 0).sum
def Mf (c:Nat->Nat):Nat->Nat
 | 0=>0
 | t+1=>if c (t+1) < c (Mf c t) then t+1 else Mf c t
def D5 (list:List Nat) (k:Nat):List Nat:=(list.drop (50 * k)).take 50
def Ds (m:Nat):Nat:=(m+49) / 50
def Kt (m:Nat):Nat:=if m < 200 then 2 else if m < 600 then 3 else if m < 1200 then 4 else if m < 2400 then 5 else 6
def F5 (list:List Nat) (many:Nat) (T:List (List Nat)):List Nat:=(Yf (Ds list.length)).map fun k=>Mf (fun t=>Me (T.getD t []) (D5 list k)) (many - 1)
def Lq (list:List Nat) (n many:Nat) (x:List (List Nat)×List Nat):List (List Nat)×List Nat :=
 ((Yf many).map fun t=>I0 (Rj list (F5 list many x.1) t n) 17,F5 list many x.1)
def Mb (n many:Nat):List (List Nat):=(Yf many).map fun t=>(Yf n).map fun s=>if s * many / n=t then 1 else 15
def Ed (list:List Nat) (n many:Nat):Nat->List (List Nat)×List Nat
 | 0=>(Mb n many,Yh (Ds list.length) 0)
 | k+1=>Lq list n many (Ed list n many k)
def Ku (list:List Nat) (n:Nat):List (List Nat)×List Nat:=Ed list n (Kt list.length) 4
def E6 (list:List Nat) (n:Nat):List (List Nat)×List Nat:=([Em (Ez list n),Em (Ez list n)],Yh (Ds list.length) 0)
def Iy (x:List (List Nat)×List Nat) (list:List Nat):Nat:=(Ex x.1 x.2).length+(E7 x.1 x.2 list 0).length
def E8 (list:List Nat) (n:Nat):List (List Nat)×List Nat:=if Iy (E6 list n) list < Iy (Ku list n) list then E6 list n else Ku list n
def Nf (list:List Nat) (n:Nat):Prop:=3<=n/\n<=258/\1<=list.length/\list.length<=1638350/\∀ s∈list,s < n
theorem Zz (c:Nat->Nat):∀ t,Mf c t<=t
 | 0=>Y5 _
 | t+1=>by
  have:=Zz c t;rw [Mf];split <;> omega
theorem Qgt (m:Nat):2<=Kt m/\Kt m<=6:=by
 unfold Kt;(repeat' split) <;> omega
theorem Tv {m:Nat} (h:1<=m) (h2:m<=1638350):1<=Ds m/\Ds m<=32767/\m<=50 * Ds m:=by unfold Ds;omega
theorem T8 {α:Type} (f:Nat->α) (n:Nat) (d:α) (i:Nat) (h:i < n):((Yf n).map f).getD i d=f i:=by
 rw [Yb,U3,Xw h];rfl
theorem Qgu {list:List Nat}{n:Nat} (h:Nf list n):Nr (Ku list n).1 (Ku list n).2/\((Ku list n).1.getD 0 []).length=n:=by
 obtain ⟨h1,h2,h3,h4,h5⟩:=h;obtain ⟨t1,t2⟩:=Qgt list.length;obtain ⟨g1,g2,_⟩:=Tv h3 h4;unfold Ku;generalize Kt list.length=many at *;rw [Ed];generalize Ed list n many 3=x
 have hlen:∀ P t,(I0 (Rj list P t n) 17).length=n/\Fa (I0 (Rj list P t n) 17):=fun P t=>by
  have hc:(Rj list P t n).length=n:=by simp [Rj]
  obtain ⟨a,b,c⟩:=Qtm (w:=Rj list P t n) (most:=17) (by omega) (by omega) (by omega) (by omega) (fun x hx=>by
   obtain ⟨s,_,rfl⟩:=Y4.1 hx;have:=List.countP_le_length (p:=fun i=>list.getD i 0 == s && P.getD (i / 50) 0 == t) (l:=Yf list.length);simp only [X8] at this;omega)
  rw [hc] at a;exact ⟨a,by omega,by omega,fun x hx=>by have:=b x hx;omega,by omega⟩
 have h0:((Lq list n many x).1.getD 0 []).length=n:=by
  unfold Lq;simp only;rw [T8 _ _ _ _ (by omega)];exact (hlen _ _).1
 refine ⟨⟨by simp [Lq];omega,by simp [Lq];omega,by simp [Lq,F5];omega,by simp [Lq,F5];omega,fun t ht=>?_,fun k hk=>?_⟩,h0⟩
 ·
  rw [h0];obtain ⟨i,_,rfl⟩:=Y4.1 ht;have:=hlen (F5 list many x.1) i;exact ⟨this.1,by omega,this.2⟩
 simp only [Lq,F5,Y4] at hk;obtain ⟨j,_,rfl⟩:=hk;have:=Zz (fun t=>Me (x.1.getD t []) (D5 list j)) (many - 1);simp only [Lq,Xv,X8];omega
theorem Qk3 (w:List Nat):∀ x∈Em w,x=D7 w.length∨x=D7 w.length+1:=by
 intro x hx;obtain ⟨i,_,rfl⟩:=Y4.1 hx;unfold M0;split <;> simp
theorem Ql1 {list:List Nat}{n:Nat} (h:Nf list n):(Em (Ez list n)).length=n/\Fa (Em (Ez list n)):=by
 obtain ⟨h1,h2,h3,h4,h5⟩:=h;have hc:(Ez list n).length=n:=by simp [Ez]
 obtain ⟨a,b,c⟩:=Qoy (w:=Ez list n) (by omega) (by omega);rw [hc] at a;exact ⟨a,by omega,by omega,fun x hx=>by have:=b x hx;omega,by omega⟩
theorem Qo2 {list:List Nat}{n:Nat} (h:Nf list n):Nr (E6 list n).1 (E6 list n).2/\((E6 list n).1.getD 0 []).length=n:=by
 obtain ⟨a,b⟩:=Ql1 h;obtain ⟨h1,h2,h3,h4,h5⟩:=h;obtain ⟨g1,g2,_⟩:=Tv h3 h4;unfold E6;simp only;generalize Em (Ez list n)=l at *;refine ⟨⟨by simp,by simp,by simp;omega,by simp;omega,fun t ht=>?_,fun k hk=>?_⟩,by simpa using a⟩
 ·
  have:t=l:=by simpa using ht
  subst this;exact ⟨rfl,by omega,b⟩
 have:=List.eq_of_mem_replicate hk;subst this;simp
theorem Qo3 {list:List Nat}{n:Nat} (h:Nf list n):Nr (E8 list n).1 (E8 list n).2/\((E8 list n).1.getD 0 []).length=n:=by
 unfold E8;split
 ·
  exact Qo2 h
 exact Qgu h
theorem Qel (list:List Nat) (n:Nat):(E8 list n).2.length=Ds list.length:=by
 unfold E8;split
 ·
  simp [E6]
 simp [Ku,Ed,Lq,F5]
theorem Qc4:∀ g,(Iu [0,1] (Yh g 0)).length=g
 | 0=>rfl
 | g+1=>by
  rw [Xf,Iu];have e:Kc [0,1] (List.idxOf 0 [0,1])=[0,1]:=rfl;have e2:List.idxOf 0 [0,1]=0:=rfl;rw [e,e2];simp [Qc4 g]
theorem Zf {T:List (List Nat)}{P:List Nat}{c:Nat} (h:∀ t∈T,∀ x∈t,x<=c):∀ (list:List Nat) (i:Nat),(E7 T P list i).length<=list.length * c
 | [],i=>by simp [E7]
 | s::r,i=>by
  have h1:=Zf (P:=P) h r (i+1)
  have h2:(M1 (T.getD (P.getD (i / 50) 0) []) s).length<=c:=by
   have:=Qgq (l:=T.getD (P.getD (i / 50) 0) []) (c:=c) (fun x hx=>by
    by_cases ht:P.getD (i / 50) 0 < T.length
    ·
     refine h (T.getD (P.getD (i / 50) 0) []) ?_ x hx;rw [Yb,Ye ht];exact Y0 ht
    rw [Yb,Up (by omega)] at hx;simp at hx) [s]
   simpa [Fx] using this
  simp only [E7,Yi,Yz,Xx];omega
theorem Qdu {list:List Nat}{n:Nat} (h:Nf list n):Iy (E8 list n) list<=18+Ds list.length+2 * (5+3 * n)+list.length * 9:=by
 have h1:Iy (E8 list n) list<=Iy (E6 list n) list:=by
  unfold E8;split <;> omega
 refine Xm h1 ?_;obtain ⟨a,b⟩:=Ql1 h;have hc:(Ez list n).length=n:=by simp [Ez]
 obtain ⟨h3,h4,h5,h6,h7⟩:=h;have hfl:=Qk3 (Ez list n);have hok:=(Qoy (w:=Ez list n) (by omega) (by omega)).2.1
 have hp:=Zf (T:=(E6 list n).1) (P:=(E6 list n).2) (c:=9) (fun t ht x hx=>by
  have:t=Em (Ez list n):=by simpa [E6] using ht
  subst this;exact (hok x hx).2) list 0
 have hd:(De (Em (Ez list n))).length<=5+3 * n:=by
  rw [De,Yi,Ct]
  have:=Qc1 (k:=D7 (Ez list n).length) (Em (Ez list n)) ((Em (Ez list n)).getD 0 0) (hfl _ (by
   generalize Em (Ez list n)=l at *;cases l with
   | nil=>simp at a;omega
   | cons x l=>simp)) hfl
  rw [a] at this;omega
 have hb:(Ex (E6 list n).1 (E6 list n).2).length=18+Ds list.length+2 * (De (Em (Ez list n))).length:=by
  have e:Yf 2=[0,1]:=rfl;simp only [Ex,E6,Yi,Ct,Yz,List.length_nil,Uk,Nat.reduceAdd,e,Qc4,Xk,List.flatMap_nil,Yp];omega
 unfold Iy;omega
def Pj:List UInt8->Bool
 | []=>true
 | [_]=>true
 | a::b::r=>decide (a.toNat < b.toNat) && Pj (b::r)
def Qj (l:List UInt8):Bool:=Pj l && ! l.isEmpty
theorem Qbb (l:List UInt8) (hl:l.length<=1000000000000) (w:World):Does Ym 98 #[Aa l] w fun v w'=>w'=w/\v=.bool (Qj l):=by
 refine En [Aa l] 20 Tryz.func98 ?_;refine VS [0] ?_;refine VS [0,3] ?_;refine Ar ?_;refine Au [0,3] (fun m e w'=>∃ (i:Nat),Is e [(0,Aa l),(3,.int .i64 i)]/\Is w' w/\1<=i/\i<=max l.length 1/\Pj (l.drop (i - 1))=Pj l/\m=l.length - i) (l.length - 1) ?_ ?_
 ·
  refine Qs ?_;exact ⟨1,rfl,rfl,by omega,by omega,rfl,rfl⟩
 rintro m e w' ⟨i,rfl,rfl,hi1,hi2,ha,hm⟩;refine VS [0,3,7] ?_;refine VD (fun h=>?_) (fun h=>?_)
 ·
  have e1:l.drop (i - 1)=l.getD (i - 1) 0::l.getD i 0::l.drop (i+1):=by
   rw [drop_getD 0 (l:=l) (i:=i - 1) (by omega),show i - 1+1=i by omega,drop_getD 0 (l:=l) (i:=i) (by omega)]
  have e2:l.drop i=l.getD i 0::l.drop (i+1):=drop_getD 0 (by omega);rw [e1,Pj,<- e2] at ha;refine Ab ?_;refine VB ?_;refine Vq [0,3,17] fun K hK=>?_;(repeat first | refine Qo ?_ | refine Qp ?_);apply hK;clear hK;refine VD (fun h=>?_) (fun h=>?_)
  ·
   refine VS [2] ?_;refine Ad (A2 rfl rfl ⟨rfl,?_⟩);rw [decide_eq_false (by omega),Bool.false_and] at ha;rw [Qj,<- ha,Bool.false_and]
  rw [decide_eq_true (by omega),Bool.true_and] at ha;refine Ab ?_;refine Ao ?_;refine VS [0,3] ?_;refine Ah ?_;refine Qs ?_;exact ⟨l.length - (i+1),by omega,i+1,rfl,rfl,by omega,by omega,by rw [Xb];exact ha,rfl⟩
 refine As rfl ?_;refine VS [2] ?_;refine Ad (A2 rfl rfl ⟨rfl,?_⟩)
 have e1:Pj (l.drop (i - 1))=true:=by
  have hlen:(l.drop (i - 1)).length<=1:=by rw [Y1];omega
  generalize l.drop (i - 1)=d at *
  match d,hlen with
  | [],_=>rfl
  | [_],_=>rfl
  | _::_::_,h=>simp at h
 rw [Qj,<- ha,e1];cases l <;> rfl
def My (li:List UInt8) (at_:Nat):List UInt8:=li.getD at_ 0::(li.take at_++li.drop (at_+1))
theorem Qgv (li:List UInt8) (g cap at_:Nat) (hat:at_ < li.length) (hl:li.length<=1000000000000) (w0 w:World) (B:List Nat) (G:List Res) (hL:Heap w0 B w (Y6 5 1 (some ⟨g,0,none⟩) li.length cap (An li)::G)) :
  Does Ym 99 #[.slice (some ⟨g,0,none⟩) li.length cap,.int .i64 at_] w
   fun v w'=>Heap w0 B w' (Y6 5 1 (some ⟨g,0,none⟩) li.length cap (An (My li at_))::G)/\v=.int .u8 (li.getD at_ 0).toNat:=by
 refine En [.slice (some ⟨g,0,none⟩) li.length cap,.int .i64 at_] 22 Tryz.func99 ?_;refine VS [0,1] ?_;refine VQ [0,1,5] fun K hK=>?_;(repeat first | refine Qo ?_ | refine Qp ?_ | (refine Gc hL ?_;(try refine Qs ?_)));apply hK;clear hK;refine VL [0,5] 7 fun K hK=>?_;obtain ⟨hx1,hx2,hx3,hx4⟩:=hL.at 0 rfl;clear hx1 hx4;refine ⟨I64.mk (by omega) (by omega),⟨by omega,by omega,by omega⟩,⟨by omega,by omega⟩,?_⟩
 have hsrc:RS w (some ⟨g,0,none⟩) at_ 1 (An (li.take at_)):=by
  rw [<- bytesV_take];have h:=(Az (hL.at 0 rfl)).take at_ (by omega)
  rwa [Nat.mul_one] at h
 suffices hall:∀ w5,Heap w0 B w5 (Y6 5 1 (some ⟨g,0,none⟩) li.length cap (An (li.take 1++li.take at_++li.drop (at_+1)))::G)->K [(0,.slice (some ⟨g,0,none⟩) li.length cap),(5,.int .u8 (li.getD at_ 0).toNat)] w5 by
  refine Qdn ?_;refine Qs ?_;by_cases hc1:cap=1
  ·
   have h0:at_=0:=by omega
   subst h0;rw [if_pos (by rw [hc1];rfl)];refine Tz hL 0 rfl Yg Fj (off:=0) rfl ⟨rfl,hsrc,5,Yg⟩ (Ty _) (by simp) fun w5 hu hH4=>?_;refine hall w5 ?_;rw [show li.take 1++li.take 0++li.drop (0+1)=li by rw [List.take_zero,Yp];exact Yx 1 li];simpa using hH4
  rw [if_neg (by rw [show Xy 1=1 from rfl];exact hc1)];simp only [Option.map_some];refine Tz hL 0 rfl Yg Fj (off:=1) rfl ⟨rfl,hsrc,5,Yg⟩ (Ty _) (by rw [Pw,show Xy 1=1 from rfl];omega) fun w5 hu hH4=>?_;refine hall w5 ?_;have e:min at_ (at_+1 - Xy 1) * 1=at_:=by rw [show Xy 1=1 from rfl];omega
  simp only [e,Yc] at hH4;rw [Q4,Q4,<- bytesV_take,<- bytesV_drop];have e5:(An (li.take at_)).take at_=An (li.take at_):=Ys (by rw [Pw,Y9];omega);rw [e5,show 1+at_=at_+1 by omega] at hH4;exact hH4
 intro w5 hH;apply hK;clear hK;have hlen:(li.take 1++li.take at_++li.drop (at_+1)).length=li.length:=by simp;omega
 have hmv:(li.take 1++li.take at_++li.drop (at_+1)).set 0 (li.getD at_ 0)=My li at_:=by
  cases li with
  | nil=>simp at hat
  | cons x r=>simp [My]
 generalize li.take 1++li.take at_++li.drop (at_+1)=li2 at *;refine VQ [5] fun K hK=>?_;refine Qp ?_;refine Af ?_;refine Qs ?_;refine Ej hH 0 (o:=(0)) (vs:=[.int .u8 (li.getD at_ 0).toNat]) rfl (by first | exact (B0 _ _ _).symm | rfl | simp [B0]) rfl (by kernel_rfl) (by first | omega | (simp;done) | (simp;omega) | (simp [An,Bb];omega) | (rw [natsV_len];simp;omega)) (by simp [Y3]) fun w6 hH2=>?_;(try refine Qs ?_);simp only [Xc,Di (An li2) _ _ (show 0 < (An li2).length by rw [Pw];omega),Tt,Yc,hmv] at hH2;apply hK;clear hK;refine VS [4] ?_;exact Ad (A2 rfl rfl ⟨hH2,rfl⟩)
def Lr (l:List Bool):List Value:=l.map Value.bool
theorem Qgw (l:List Bool):(Lr l).length=l.length:=by simp [Lr]
theorem Qra {l:List Bool}{i:Nat} (h:i < l.length):(Lr l)[i]? = some (.bool (l.getD i false)):=by
 simp [Lr,Ye h,Yb]
theorem Qrb (l:List Bool) (i:Nat) (v:Bool):(Lr l).set i (.bool v)=Lr (l.set i v):=by simp [Lr,List.map_set]
def Le (l:List UInt8) (n:Nat):List UInt8:=((Yf n).filter fun b=>l.any fun c=>c.toNat == b).map Y2
def A9 (l:List UInt8):List UInt8:=Le l 256
theorem Qrc (l:List UInt8) (n:Nat):Le l (n+1)=Le l n++if (l.any fun c=>c.toNat == n) then [Y2 n] else []:=by
 unfold Le;rw [Xn,X2,Um]
 congr 1
 by_cases h:(l.any fun c=>c.toNat == n)=true
 ·
  rw [if_pos h,Xo (p:=fun b=>l.any fun c=>c.toNat == b) h];rfl
 rw [if_neg h,Xp (p:=fun b=>l.any fun c=>c.toNat == b) h];rfl
theorem Qvm (l:List UInt8) (n:Nat):(Le l n).length<=n:=by
 unfold Le;rw [Xv];exact Xm (Xq _ _) (by simp)
theorem QD9 (l:List UInt8) (hl:l.length<=1000000000000) (w:World):Does Ym 59 #[Aa l] w fun v w'=>Heap w [] w' []/\v=Aa (A9 l):=by
 refine En [Aa l] 32 Tryz.func59 ?_;refine VS [0] ?_;refine VQ [0,3] fun K hK=>?_;refine A6 (.agg (Lr (Yh 256 false)).toArray) (by kernel_rfl) ?_;refine Qs ?_;have hH0:=(Xa w).box 161 (Lr (Yh 256 false));generalize w.alloc (Xl (Lr (Yh 256 false)).toArray 161)=w1 at *;generalize w.heap.size=gu at *;apply hK;clear hK;refine VS [0,3,8,9] ?_;generalize hn:l.length=n at *;refine Ar ?_;refine Au [0,3,8,9] (fun m e w'=>∃ (k:Nat) (bl:List Bool),Is e [(0,Aa l),(3,.pointer (some ⟨gu,0,none⟩)),(8,.int .i64 n),(9,.int .i64 k)]/\Heap w [] w' [Uu gu 161 (Lr bl)]/\bl.length=256/\k<=n/\(∀ b,b < 256->bl.getD b false=(l.take k).any fun c=>c.toNat == b)/\m=n - k) n ?_ ?_
 ·
  refine Qs ?_;exact ⟨0,_,rfl,hH0,by simp,by omega,fun b hb=>by rw [Yb,Ud,if_pos hb];rfl,rfl⟩
 clear hH0;rintro m e w2 ⟨k,bl,rfl,hH,hbl,hk,hb,hm⟩;refine VS [0,3,8,9,10] ?_;(repeat refine Ax ?_);refine VD (fun h=>?_) (fun h=>?_)
 ·
  have hbk:=(l.getD k 0).toNat_lt
  have htk:l.take (k+1)=l.take k++[l.getD k 0]:=by
   rw [U4,Ye (by omega),Yb,Ye (by omega)];rfl
  refine Ab ?_;refine VB ?_;refine VS [0,3,4,8,9] ?_;refine VQ [0,3,8,9] fun K hK=>?_;rw [hn];refine ⟨⟨by omega,by omega⟩,⟨by omega,by omega⟩,?_⟩;refine Af ?_;refine Qs ?_;refine Al hH 0 (o:=(l.getD k 0).toNat) (vs:=[.bool true]) rfl rfl (by kernel_rfl) (by rw [Qgw,Xc];omega) (by simp [Y3]) fun w6 hH2=>?_;simp only [Xc,Di (Lr bl) _ _ (show (l.getD k 0).toNat < (Lr bl).length by rw [Qgw];omega),Qrb,Yc] at hH2;apply hK;clear hK;refine Ao ?_;refine VS [0,3,8,9] ?_;refine Ah ?_;refine Qs ?_;refine ⟨n - (k+1),by omega,k+1,_,rfl,hH2,by simp [hbl],by omega,fun b hb2=>?_,rfl⟩;rw [htk,List.any_append,<- hb b hb2];generalize l.getD k 0=c at *;simp only [Yb,List.getElem?_set];by_cases e:c.toNat=b
  ·
   rw [if_pos e,if_pos (by omega)];simp [e]
  rw [if_neg e];simp [e]
 obtain rfl:k=n:=by omega
 rw [Ys (by omega)] at hb;refine As rfl ?_;refine VQ [3,5] fun K hK=>?_;refine Fb hH (An []) (xs:=[]) Yg Fj rfl rfl rfl (by omega) ?_;refine Qs ?_;refine ⟨rfl,by simp [Yv],fun g w4 hH2=>?_⟩;(try refine Qs ?_);apply hK;clear hK;refine VS [3,5,18] ?_;refine Ar ?_;refine Au [3,5,18] (fun m e w'=>∃ (b cap:Nat) (a:Option Addr),Is e [(3,.pointer (some ⟨gu,0,none⟩)),(5,.slice a (Le l b).length cap),(18,.int .i64 b)]/\Heap w [] w' [Y6 5 1 a (Le l b).length cap (An (Le l b)),Uu gu 161 (Lr bl)]/\b<=256/\m=256 - b) 256 ?_ ?_
 ·
  refine Qs ?_;exact ⟨0,_,_,rfl,hH2,by omega,rfl⟩
 clear hH hH2;rintro m e w5 ⟨b,cap,a,rfl,hH,hb2,hm⟩;refine VS [3,5,18,19] ?_;(repeat refine Ax ?_);refine VD (fun h=>?_) (fun h=>?_)
 ·
  have hus:=Qrc l b;have hul:=Qvm l b;have hbb:=hb b (by omega);refine Ab ?_;refine VB ?_;refine VS [3,5,6,18] ?_;refine VQ [3,5,6,18,23] fun K hK=>?_;refine ⟨⟨by omega,by omega⟩,_,Aj (hH.at 1 rfl) (Qra (by omega)),?_⟩;rw [hbb];apply hK;clear hK;generalize (l.any fun c=>c.toNat == b)=bb at *;refine Vi (fun h=>?_) (fun h=>?_)
  ·
   subst h;rw [if_pos rfl] at hus;refine VQ [3,5,18] fun K hK=>?_;rw [show ((b:Int) % 256)=((Y2 b).toNat:Int) by rw [X4];omega];have hlen:(Le l (b+1)).length=(Le l b).length+1:=by rw [hus];simp
   refine Kp (xs:=[.tmp 26]) Yg Fj rfl rfl rfl (by omega) ?_;refine Qs ?_;refine ⟨by simp [Yv],?_⟩;refine Cl ?_;refine Qs ?_;refine Sn hH 0 (Y2 b) rfl Yg Io (by first | rfl | (simp;done) | omega) (fun h=>by (first | omega | (simp;done) | (simp;omega))) fun a' cap' w5 hc' hH2=>?_;(try refine Qs ?_);rw [<- hus] at hH2 ⊢;apply hK;clear hK;refine Ao ?_;refine VS [3,5,18] ?_;refine Ah ?_;refine Qs ?_;exact ⟨256 - (b+1),by omega,b+1,cap',a',rfl,hH2,by omega,rfl⟩
  subst h;rw [if_neg (by simp),Yp] at hus;refine Ab ?_;refine Ao ?_;refine VS [3,5,18] ?_;refine Ah ?_;refine Qs ?_;exact ⟨256 - (b+1),by omega,b+1,cap,a,by rw [hus];rfl,by rw [hus];exact hH,by omega,rfl⟩
 obtain rfl:b=256:=by omega
 refine As rfl ?_;refine VQ [2] fun K hK=>?_;refine ⟨A9 l,hH.readsBytes 0 rfl,?_⟩;apply hK;clear hK;exact Ad (A2 rfl rfl ⟨hH.sub (by simp),rfl⟩)
def Ka:List UInt8->List UInt8->Option (List Int)
 | _,[]=>some []
 | li,c::r=>if c∈li then (Ka (My li (li.idxOf c)) r).map ((li.idxOf c:Int)::·) else none
theorem Qce {li:List UInt8}{at_:Nat} (h:at_ < li.length):(My li at_).length=li.length:=by simp [My];omega
def Sx (sym l:List UInt8) (w:World) (v:Value) (w':World):Prop :=
 if Qj sym=true then match Ka sym l with
  | none=>Heap w [] w' []/\v=.tuple #[.slice none 0 0,.int .i64 60]
  | some out=>∃ a cap,Heap w [] w' [Y6 3 1 a out.length cap (Bb out)]/\v=.tuple #[.slice a out.length cap,.int .i64 0]
 else Heap w [] w' []/\v=.tuple #[.slice none 0 0,.int .i64 2]
theorem Qrd (l sym:List UInt8) (hl:l.length<=1000000000000) (hs:sym.length<=1000000000000) (w:World):Does Ym 60 #[Aa l,Aa sym] w fun v w'=>Sx sym l w v w':=by
 refine En [Aa l,Aa sym] 52 Tryz.func60 ?_;refine VS [0,1] ?_;refine VQ [0,1,12] fun K hK=>?_;refine Ac Tryz.call98 ?_;refine Qs ?_;refine Yd (Qbb sym hs w) ?_;rintro v w2 ⟨rfl,rfl⟩;refine Qs ?_;apply hK;clear hK;refine Vi (fun h=>?_) (fun h=>?_)
 ·
  simp at h;refine VS [4,5] ?_;exact Ad (A7 rfl rfl rfl (by show Sx _ _ _ _ _;unfold Sx;rw [if_neg (by simp [h])];exact ⟨Xa _,rfl⟩))
 simp at h
 have hfo:∀ v w',Sx sym l w2 v w'=match Ka sym l with
  | none=>Heap w2 [] w' []/\v=.tuple #[.slice none 0 0,.int .i64 60]
  | some out=>∃ a cap,Heap w2 [] w' [Y6 3 1 a out.length cap (Bb out)]/\v=.tuple #[.slice a out.length cap,.int .i64 0]:=fun v w'=>by unfold Sx;rw [if_pos h]
 simp only [hfo];clear hfo h;generalize hfr:Ka sym l=res at *;refine Ab ?_;refine VQ [0,6] fun K hK=>?_;refine Qf8 ?_;refine Qs ?_;refine Qf9 (Xa w2) Uc Yg Ub (by omega) fun gl cl w3 hH=>?_;apply hK;clear hK;refine VQ [0,6,7] fun K hK=>?_;refine Ev X5 E2 ?_;refine Qs ?_;refine ⟨0,l.length,⟨rfl,rfl,by omega,by omega,by omega⟩,?_⟩;have hH1:=hH.row 3 (n:=0) (cap:=l.length) (sz:=1) [] (Yh l.length (.int .i64 0)) (by simp) (by simp) (by omega) (by omega);simp only [Ya] at hH1;generalize w3.alloc (Xl (Yh l.length (Uv IntKind.i64 0)).toArray 3)=w4 at *;generalize w3.heap.size=go at *;apply hK;clear hK;generalize hn:l.length=n at *;refine VS [0,6,7,19,20] ?_;rw [hn];have hsl:sym.length<=1000000000000:=hs;generalize hm0:sym.length=sl_ at *;refine Ar ?_;refine Au [0,6,7,19,20] (fun m e w'=>∃ (k cap:Nat) (a:Option Addr) (li:List UInt8) (out:List Int),Is e [(0,Aa l),(6,.slice (some ⟨gl,0,none⟩) sl_ cl),(7,.slice a out.length cap),(19,.int .i64 n),(20,.int .i64 k)]/\Heap w2 [] w' [Y6 3 1 a out.length cap (Bb out),Y6 5 1 (some ⟨gl,0,none⟩) sl_ cl (An li)]/\li.length=sl_/\k<=n/\out.length=k/\res=(Ka li (l.drop k)).map (out++·)/\m=n - k) n ?_ ?_
 ·
  refine Qs ?_;exact ⟨0,n,_,sym,[],rfl,hH1,hm0,by omega,rfl,by rw [Us,hfr];simp,rfl⟩
 clear hH hH1 hfr;rintro m e w5 ⟨k,cap,a,li,out,rfl,hH,hli,hk,hol,hres,hm⟩;refine VS [0,6,7,19,20,21] ?_;(repeat refine Ax ?_);refine VD (fun h=>?_) (fun h=>?_)
 ·
  have hdk:l.drop k=l.getD k 0::l.drop (k+1):=drop_getD 0 (by omega);rw [hdk,Ka] at hres;refine Ab ?_;refine VB ?_;refine VS [0,6,7,8,19,20] ?_;refine VS [0,6,7,8,9,19,20] ?_;refine VB ?_;refine Au [0,6,7,8,9,19,20] (fun m e w'=>∃ (at_:Nat),Is e [(0,Aa l),(6,.slice (some ⟨gl,0,none⟩) sl_ cl),(7,.slice a out.length cap),(8,.int .i64 k),(9,.int .i64 at_),(19,.int .i64 n),(20,.int .i64 k)]/\Is w' w5/\at_<=sl_/\l.getD k 0 ∉ li.take at_/\m=sl_ - at_) sl_ ?_ ?_
  ·
   refine Qs ?_;exact ⟨0,rfl,rfl,by omega,by simp,rfl⟩
  rintro m2 e w6 ⟨at_,rfl,rfl,hat,hnot,hm2⟩;refine Vq [0,6,7,8,9,19,20,36] fun K hK=>?_
  suffices hall:∀ bb:Bool,(bb=true ↔ (at_ < sl_/\li.getD at_ 0≠l.getD k 0))->K [(0,Aa l),(6,.slice (some ⟨gl,0,none⟩) sl_ cl),(7,.slice a out.length cap),(8,.int .i64 k),(9,.int .i64 at_),(19,.int .i64 n),(20,.int .i64 k),(36,.bool bb)] by
   refine ⟨fun hg=>?_,fun hg=>hall _ (by simp;omega)⟩;refine ⟨⟨by omega,by omega⟩,_,Cn (hH.at 1 rfl) (bytesV_get (by omega)),⟨by omega,by omega⟩,?_⟩;refine Qs ?_;refine hall _ ?_;have:(li.getD at_ 0).toNat=(l.getD k 0).toNat ↔ li.getD at_ 0=l.getD k 0:=UInt8.toNat_inj;generalize li.getD at_ 0=c1 at *;generalize l.getD k 0=c2 at *;by_cases e:c1=c2
   ·
    subst e;simp
   have h3:c1.toNat≠c2.toNat:=fun h=>e (this.1 h);exact ⟨fun _=>⟨by omega,e⟩,fun _=>decide_eq_true (by omega)⟩
  intro bb hbb;apply hK;clear hK;refine Vi (fun h=>?_) (fun h=>?_)
  ·
   obtain ⟨h1,h2⟩:=hbb.1 h;refine Ab ?_;refine Ar ?_;refine VS [0,6,7,8,9,19,20] ?_;refine Ao ?_;refine Ah ?_;refine Qs ?_;refine ⟨sl_ - (at_+1),by omega,at_+1,rfl,rfl,by omega,?_,rfl⟩;rw [U4,Ye (by omega),Uo];rintro (h3 | h3)
   ·
    exact hnot h3
   have h4:l.getD k 0=li[at_]:=by simpa using h3
   apply h2;rw [h4,Yb,Ye (by omega)];rfl
  refine As rfl ?_
  have hstop:at_=sl_∨li.getD at_ 0=l.getD k 0:=by
   by_cases h1:at_ < sl_
   ·
    right;by_cases h2:li.getD at_ 0=l.getD k 0
    ·
     exact h2
    have:=hbb.2 ⟨h1,h2⟩
    simp_all
   left;omega
  clear hbb h;refine VS [0,6,7,9,19,20,42] ?_;refine VD (fun h=>?_) (fun h=>?_)
  ·
   obtain rfl:at_=sl_:=by omega
   rw [Ys (by omega)] at hnot;rw [if_neg hnot] at hres;subst hres;refine VS [4,5] ?_;exact Ad (A7 rfl rfl rfl ⟨hH.sub (by simp),rfl⟩)
  have hat2:at_ < sl_:=by omega
  have heq:li.getD at_ 0=l.getD k 0:=by rcases hstop with h1 | h1;omega;exact h1
  have hidx:li.idxOf (l.getD k 0)=at_:=by
   have e:=Yx at_ li;rw [drop_getD 0 (l:=li) (i:=at_) (by omega),heq] at e
   have h3:(li.take at_++l.getD k 0::li.drop (at_+1)).idxOf (l.getD k 0)=at_:=by
    rw [List.idxOf_append,if_neg hnot,List.idxOf_cons_self,Y9];omega
   rwa [e] at h3
  have hmem:l.getD k 0∈li:=by rw [<- heq];exact Dr 0 (by omega)
  rw [if_pos hmem,hidx] at hres;refine Ab ?_;refine VQ [0,6,7,9,19,20] fun K hK=>?_;have hc:=Qgv li gl cl at_ (by omega) (by omega) w2 w6 [] _ (by rw [hli];exact hH.front 1 rfl);rw [hli] at hc;refine Ac Tryz.call99 ?_;refine Qs ?_;refine Yd hc ?_;clear hc;rintro v w7 ⟨hH2,rfl⟩;have hH3:=hH2.front 1 rfl;simp only [Xg,Xh] at hH3;apply hK;clear hK;refine VQ [0,6,7,19,20] fun K hK=>?_;refine Kp (xs:=[.tmp 47]) X5 Lj rfl rfl rfl (by omega) ?_;refine Qs ?_;refine ⟨by simp [Yv],?_⟩;refine Cl ?_;refine Qs ?_;refine Vc hH3 0 rfl X5 E2 (fun h=>by (first | omega | (simp;done) | (simp;omega))) fun a' cap' w5 hc' hH4=>?_;(try refine Qs ?_);apply hK;clear hK;refine Ao ?_;refine VS [0,6,7,19,20] ?_;refine Ah ?_;refine Qs ?_;refine ⟨n - (k+1),by omega,k+1,cap',a',My li at_,out++[(at_:Int)],rfl,hH4,by rw [Qce (by omega)];exact hli,by omega,by simp [hol],?_,rfl⟩;rw [hres,Option.map_map]
  congr 1
  funext x;simp
 obtain rfl:k=n:=by omega
 rw [Y7 (by omega),Ka] at hres;simp only [Option.map_some,Yp] at hres;subst hres;refine As rfl ?_;refine VS [4,5] ?_;exact Ad (A7 rfl rfl rfl ⟨a,cap,hH.sub (by simp),rfl⟩)
def Mr:List UInt8->List Int->Option (List UInt8)
 | _,[]=>some []
 | li,v::r=>if 0<=v/\v < li.length then (Mr (My li v.toNat) r).map (li.getD v.toNat 0::·) else none
def K6 (sym:List UInt8) (l:List Int):List UInt8×Int :=
 if Qj sym=true then match Mr sym l with
  | none=>([],60)
  | some out=>(out,0)
 else ([],2)
theorem Qk4 (l:List Int) (sym:List UInt8) (la:Option Addr) (lc:Nat) (hl:l.length<=1000000000000) (hs:sym.length<=1000000000000) (hi:∀ v∈l,I64 v) (w:World) (hr:RS w la l.length 1 (Bb l)) :
  Does Ym 128 #[.slice la l.length lc,Aa sym] w fun v w'=>Heap w [] w' []/\v=.tuple #[Aa (K6 sym l).1,.int .i64 (K6 sym l).2]:=by
 refine En [.slice la l.length lc,Aa sym] 41 Tryz.func128 ?_;refine VS [0,1] ?_;refine VQ [0,1,12] fun K hK=>?_;refine Ac Tryz.call98 ?_;refine Qs ?_;refine Yd (Qbb sym hs w) ?_;rintro v w2 ⟨rfl,rfl⟩;refine Qs ?_;apply hK;clear hK;refine Vi (fun h=>?_) (fun h=>?_)
 ·
  simp at h;refine VS [4,5] ?_;exact Ad (A7 rfl rfl rfl ⟨Xa _,by rw [K6,if_neg (by simp [h])]⟩)
 simp at h
 have hbs:K6 sym l=match Mr sym l with
  | none=>([],60)
  | some out=>(out,0):=by rw [K6,if_pos h]
 rw [hbs];clear hbs h;generalize hfr:Mr sym l=res;refine Ab ?_;refine VQ [0,6] fun K hK=>?_;refine Qf8 ?_;refine Qs ?_;refine Qf9 (Xa w2) Uc Yg Ub (by omega) fun gl cl w3 hH=>?_;apply hK;clear hK;refine VQ [0,6,7] fun K hK=>?_;refine Ev Yg Io ?_;refine Qs ?_;refine ⟨0,l.length,⟨rfl,rfl,by omega,by omega,by omega⟩,?_⟩;have hH1:=hH.row 5 (n:=0) (cap:=l.length) (sz:=1) [] (Yh l.length (.int .u8 0)) (by simp) (by simp) (by omega) (by omega);simp only [Ya] at hH1;generalize w3.alloc (Xl (Yh l.length (Uv IntKind.u8 0)).toArray 5)=w4 at *;generalize w3.heap.size=go at *;apply hK;clear hK;generalize hn:l.length=n at *;refine VS [6,7,18,19,20] ?_;have hsl:sym.length<=1000000000000:=hs;generalize hm0:sym.length=sl_ at *;refine Ar ?_;refine Au [6,7,18,19,20] (fun m e w'=>∃ (k cap:Nat) (a:Option Addr) (li out:List UInt8),Is e [(6,.slice (some ⟨gl,0,none⟩) sl_ cl),(7,.slice a out.length cap),(18,.slice la n lc),(19,.int .i64 n),(20,.int .i64 k)]/\Heap w2 [] w' [Y6 5 1 a out.length cap (An out),Y6 5 1 (some ⟨gl,0,none⟩) sl_ cl (An li)]/\li.length=sl_/\k<=n/\out.length=k/\res=(Mr li (l.drop k)).map (out++·)/\m=n - k) n ?_ ?_
 ·
  refine Qs ?_;exact ⟨0,n,_,sym,[],rfl,hH1,hm0,by omega,rfl,by rw [Us,hfr];simp,rfl⟩
 clear hH hH1 hfr;rintro m e w5 ⟨k,cap,a,li,out,rfl,hH,hli,hk,hol,hres,hm⟩;refine VS [6,7,18,19,20,21] ?_;(repeat refine Ax ?_);refine VD (fun h=>?_) (fun h=>?_)
 ·
  have hdk:l.drop k=l.getD k 0::l.drop (k+1):=drop_getD 0 (by omega);rw [hdk,Mr] at hres;have hr5:=hH.rs' hr;obtain ⟨pa,rfl⟩:=Dt hr (by omega);have hi64:=hi _ (Dr 0 (l:=l) (i:=k) (by omega));have hcell:=Rn hr5 (i:=k) (by omega);generalize l.getD k 0=v at *;refine Ab ?_;refine VB ?_;refine VQ [6,7,9,18,19,20] fun K hK=>?_;refine ⟨⟨by omega,by omega⟩,_,hcell,?_⟩;apply hK;clear hK;refine VQ [6,7,9,18,19,20,31] fun K hK=>?_
  suffices hall:∀ bb:Bool,(bb=true ↔ (v < 0∨(sl_:Int)<=v))->K [(6,.slice (some ⟨gl,0,none⟩) sl_ cl),(7,.slice a out.length cap),(9,.int .i64 v),(18,.slice (some pa) n lc),(19,.int .i64 n),(20,.int .i64 k),(31,.bool bb)] w5 by (repeat' (first | exact hall _ _ (by first | omega | (simp;done) | (simp;omega)) | exact hall _ (by first | omega | (simp;done) | (simp;omega)) | refine ⟨fun _=>?_,fun _=>?_⟩ | refine Qo ?_))
  intro bb hbb;apply hK;clear hK;refine Vi (fun h=>?_) (fun h=>?_)
  ·
   have h2:=hbb.1 h;rw [if_neg (by omega)] at hres;subst hres;refine VS [4,5] ?_;exact Ad (A7 rfl rfl rfl ⟨hH.sub (by simp),rfl⟩)
  have h2:¬ (v < 0∨(sl_:Int)<=v):=fun h3=>by have:=hbb.2 h3;simp_all
  rw [if_pos (by omega)] at hres;obtain ⟨at_,rfl⟩:∃ p:Nat,v=p:=⟨v.toNat,by omega⟩;rw [Yq] at hres;clear hbb h;refine Ab ?_;refine VQ [6,7,18,19,20] fun K hK=>?_;have hc:=Qgv li gl cl at_ (by omega) (by omega) w2 w5 [] _ (by rw [hli];exact hH.front 1 rfl);rw [hli] at hc;refine Ac Tryz.call99 ?_;refine Qs ?_;refine Yd hc ?_;clear hc;rintro v w7 ⟨hH2,rfl⟩;have hH3:=hH2.front 1 rfl;simp only [Xg,Xh] at hH3;refine Kp (xs:=[.tmp 35]) Yg Fj rfl rfl rfl (by omega) ?_;refine Qs ?_;refine ⟨by simp [Yv],?_⟩;refine Cl ?_;refine Qs ?_;refine Sn hH3 0 (li.getD at_ 0) rfl Yg Io (by first | rfl | (simp;done) | omega) (fun h=>by (first | omega | (simp;done) | (simp;omega))) fun a' cap' w5 hc' hH4=>?_;(try refine Qs ?_);apply hK;clear hK;refine Ao ?_;refine VS [6,7,18,19,20] ?_;refine Ah ?_;refine Qs ?_;refine ⟨n - (k+1),by omega,k+1,cap',a',My li at_,out++[li.getD at_ 0],rfl,hH4,by rw [Qce (by omega)];exact hli,by omega,by simp [hol],?_,rfl⟩;rw [hres,Option.map_map]
  congr 1
  funext x;simp
 obtain rfl:k=n:=by omega
 rw [Y7 (by omega),Mr] at hres;simp only [Option.map_some,Yp] at hres;subst hres;refine As rfl ?_;refine VQ [4,5] fun K hK=>?_;refine ⟨out,hH.readsBytes 0 rfl,?_⟩;apply hK;clear hK;exact Ad (A7 rfl rfl rfl ⟨hH.sub (by simp),rfl⟩)
theorem Qre {li:List UInt8}{c:UInt8} (h:c∈li):li.getD (li.idxOf c) 0=c:=by
 have h1:=Yy.2 h;rw [Yb,Ye h1,Ug];exact Uz h1
theorem Qgx:∀ (l li:List UInt8) (out:List Int),Ka li l=some out->Mr li out=some l
 | [],li,out,h=>by
  simp only [Ka,Option.some.injEq] at h;subst h;rfl
 | c::r,li,out,h=>by
  rw [Ka] at h;split at h
  ·
   rename_i hc;have h1:=Yy.2 hc;rw [Ul] at h;obtain ⟨out',h2,rfl⟩:=h;rw [Mr,if_pos (by omega),Yq,Qgx r _ out' h2,Qre hc];rfl
  cases h
theorem Qem:∀ (l li:List UInt8) (out:List Int),Ka li l=some out->out.length=l.length/\∀ v∈out,0<=v/\v < li.length
 | [],li,out,h=>by
  simp only [Ka,Option.some.injEq] at h;subst h;simp
 | c::r,li,out,h=>by
  rw [Ka] at h;split at h
  ·
   rename_i hc;have h1:=Yy.2 hc;rw [Ul] at h;obtain ⟨out',h2,rfl⟩:=h;obtain ⟨h3,h4⟩:=Qem r _ out' h2;rw [Qce h1] at h4;refine ⟨by simp [h3],fun v hv=>?_⟩;rcases Xe.1 hv with rfl | hv
   ·
    omega
   exact h4 v hv
  cases h
theorem Qrf {li:List UInt8}{at_:Nat} (h:at_ < li.length) (c:UInt8):c∈My li at_ ↔ c∈li:=by
 have e:li=li.take at_++li.getD at_ 0::li.drop (at_+1):=by
  rw [<- Go.Eng.drop_getD 0 h,Yx]
 unfold My
 conv=>rhs;rw [e]
 simp only [Xe,Uo];constructor
 ·
  rintro (h | h | h)
  ·
   exact .inr (.inl h)
  ·
   exact .inl h
  exact .inr (.inr h)
 rintro (h | h | h)
 ·
  exact .inr (.inl h)
 ·
  exact .inl h
 exact .inr (.inr h)
theorem Qgy:∀ (l li:List UInt8),(∀ c∈l,c∈li)->∃ out,Ka li l=some out
 | [],li,_=>⟨[],rfl⟩
 | c::r,li,h=>by
  have hc:=h c (by simp);have h1:=Yy.2 hc;obtain ⟨out,ho⟩:=Qgy r (My li (li.idxOf c)) fun d hd=>(Qrf h1 d).2 (h d (by simp [hd]));exact ⟨_,by rw [Ka,if_pos hc,ho];rfl⟩
theorem Sq {l:List UInt8}{c:UInt8}:c∈A9 l ↔ c∈l:=by
 simp only [A9,Le,Y4,List.mem_filter,List.mem_range,Xr,beq_iff_eq];constructor
 ·
  rintro ⟨b,⟨hb,d,hd,rfl⟩,rfl⟩;simpa using hd
 intro h;exact ⟨c.toNat,⟨c.toNat_lt,c,h,rfl⟩,by simp⟩
theorem QAh:∀ (l:List Nat),l.Pairwise (· < ·)->(∀ b∈l,b < 256)->Pj (l.map Y2)=true
 | [],_,_=>rfl
 | [_],_,_=>rfl
 | a::b::r,h,hb=>by
  have h1:=Xz.1 h;have ha:=hb a (by simp);have hb1:=hb b (by simp);have h2:=h1.1 b (by simp);simp only [List.map_cons,Pj,Xs,decide_eq_true_eq];refine ⟨by simp only [X4];omega,?_⟩;have:=QAh (b::r) h1.2 fun x hx=>hb x (by simp [hx]);simpa using this
theorem Qbc {l:List UInt8} (h:l≠[]):Qj (A9 l)=true:=by
 have h1:Pj (A9 l)=true:=QAh _ (List.Pairwise.filter _ List.pairwise_lt_range) fun b hb=>by simp at hb;exact hb.1
 have h2:A9 l≠[]:=fun e=>by
  cases l with
  | nil=>exact h rfl
  | cons c r=>have:=(Sq (l:=c::r) (c:=c)).2 (by simp);rw [e] at this;cases this
 rw [Qj,h1];cases hu:A9 l with
 | nil=>exact absurd hu h2
 | cons=>rfl
def Lz (u:List UInt8) (b:Nat):Bool:=u.any fun c=>c.toNat == b
def Cg (u:List UInt8) (i:Nat):Bool:=(Yf 16).any fun k=>Lz u (16 * i+k)
def Fi (u:List UInt8) (i:Nat):List Bool:=(Yf 16).map fun k=>Lz u (16 * i+k)
def Fh (u:List UInt8):List Bool:=(Yf 16).map (Cg u)++(Yf 16).flatMap fun i=>if Cg u i then Fi u i else []
def P0 (i:Nat) (row:List Bool):List UInt8:=((Yf 16).filter fun k=>row.getD k false).map fun k=>Y2 (16 * i+k)
def C9 (bits:List Bool):List Bool->Nat->Nat->Except Int (List UInt8×Nat)
 | [],_,at_=>.ok ([],at_)
 | false::r,i,at_=>C9 bits r (i+1) at_
 | true::r,i,at_=>if bits.length < at_+16 then .error 10 else match C9 bits r (i+1) (at_+16) with
  | .error e=>.error e
  | .ok q=>.ok (P0 i ((bits.drop at_).take 16)++q.1,q.2)
def Kq (bits:List Bool) (at_:Nat):Except Int (List UInt8×Nat) :=
 if bits.length < at_+16 then .error 10 else match C9 bits ((bits.drop at_).take 16) 0 (at_+16) with
 | .error e=>.error e
 | .ok q=>if q.1=[] then .error 60 else .ok q
theorem Qhs (u:List UInt8) (i:Nat):(Fi u i).length=16:=by simp [Fi]
theorem Qc5 (u:List UInt8) (i:Nat):P0 i (Fi u i)=(((Yf 16).map fun k=>16 * i+k).filter (Lz u)).map Y2:=by
 unfold P0;rw [List.filter_map,List.map_map]
 have:(Yf 16).filter (fun k=>(Fi u i).getD k false)=(Yf 16).filter (Lz u ∘ fun k=>16 * i+k):=by
  refine U5 fun k hk=>?_;have hk:k < 16:=by simpa using hk
  simp [Fi,Yb,Xw hk]
 rw [this];rfl
theorem Qii {u:List UInt8}{i:Nat} (h:Cg u i=false):P0 i (Fi u i)=[]:=by
 rw [Qc5,List.map_eq_nil_iff,List.filter_eq_nil_iff];intro b hb;obtain ⟨k,hk,rfl⟩:=Y4.1 hb;unfold Cg at h;rw [List.any_eq_false] at h;exact h k hk
theorem QAv (u:List UInt8):∀ (n i:Nat) {bits:List Bool}{at_:Nat}{r:List Bool},bits.drop at_=((X9 i n).flatMap fun i=>if Cg u i then Fi u i else [])++r ->
  C9 bits ((X9 i n).map (Cg u)) i at_=.ok ((X9 i n).flatMap (fun i=>P0 i (Fi u i)),at_+((X9 i n).flatMap fun i=>if Cg u i then Fi u i else []).length)
 | 0,i,bits,at_,r,_=>rfl
 | n+1,i,bits,at_,r,hb=>by
  rw [List.range'_succ] at hb ⊢;simp only [List.map_cons,Xk,Yk] at hb ⊢;cases h:Cg u i with
  | false =>
   rw [h] at hb;simp only [Bool.false_eq_true,if_false,Ya] at hb ⊢;rw [C9,QAv u n (i+1) hb,Qii h];simp
  | true =>
   rw [h] at hb;simp only [if_true] at hb ⊢;have hl:=Qhs u i;have hlen:bits.length - at_=(Fi u i).length+(((X9 (i+1) n).flatMap fun i=>if Cg u i then Fi u i else [])++r).length:=by rw [<- Y1,hb,Yi]
   have ht:(bits.drop at_).take 16=Fi u i:=by
    rw [hb,Yw (by omega),Ys (by omega)]
   have hd:=Mo hb;rw [hl] at hd;rw [C9,if_neg (by omega),QAv u n (i+1) hd,ht];simp [hl];omega
theorem Qvn (u:List UInt8):(Yf 16).flatMap (fun i=>P0 i (Fi u i))=((Yf 256).filter (Lz u)).map Y2:=by
 have e:Yf 256=(Yf 16).flatMap fun i=>(Yf 16).map fun k=>16 * i+k:=by decide
 rw [e,List.filter_flatMap,List.map_flatMap];simp only [Qc5]
theorem Qvo (l:List UInt8) (b:Nat) (hb:b < 256):Lz (A9 l) b=l.any fun c=>c.toNat == b:=by
 unfold Lz;rw [Bool.eq_iff_iff,Xr,Xr];constructor
 ·
  rintro ⟨c,hc,h⟩;exact ⟨c,Sq.1 hc,h⟩
 rintro ⟨c,hc,h⟩;exact ⟨c,Sq.2 hc,h⟩
theorem Qrg (l:List UInt8):((Yf 256).filter (Lz (A9 l))).map Y2=A9 l:=by
 conv=>rhs;unfold A9 Le
 congr 1
 refine U5 fun b hb=>?_;rw [Qvo l b (by simpa using hb)]
theorem Qdv (u:List UInt8):(Fh u).length<=272:=by
 have h:∀ m,((Yf m).flatMap fun i=>if Cg u i then Fi u i else []).length<=16 * m:=fun m=>by
  induction m with
  | zero=>simp
  | succ m ih =>
   rw [Xn,List.flatMap_append,Yi];have:((if Cg u m=true then Fi u m else []):List Bool).length<=16:=by split <;> simp [Qhs]
   simp only [Xk,List.flatMap_nil,Yp];omega
 have:=h 16;unfold Fh;simp only [Yi,Xv,X8];omega
theorem Qyw {l:List UInt8} (hl:l≠[]) {bits:List Bool}{at_:Nat}{r:List Bool} (hb:bits.drop at_=Fh (A9 l)++r):Kq bits at_=.ok (A9 l,at_+(Fh (A9 l)).length):=by
 generalize hu:A9 l=u at *;rw [Fh,Yk] at hb;have h16:((Yf 16).map (Cg u)).length=16:=by simp
 have hlen:bits.length - at_=((Yf 16).map (Cg u)).length+(((Yf 16).flatMap fun i=>if Cg u i then Fi u i else [])++r).length:=by rw [<- Y1,hb,Yi]
 have ht:(bits.drop at_).take 16=(Yf 16).map (Cg u):=by
  rw [hb,Yw (by omega),Ys (by omega)]
 have hd:=Mo hb;rw [h16] at hd
 have hne:u≠[]:=fun e=>by
  cases l with
  | nil=>exact hl rfl
  | cons c r=>have:=(Sq (l:=c::r) (c:=c)).2 (by simp);rw [hu,e] at this;cases this
 rw [Kq,if_neg (by omega),ht];have:=QAv u 16 0 (bits:=bits) (at_:=at_+16) (r:=r) (by rw [<- Ut];exact hd);rw [<- Ut] at this;rw [this,Qvn,<- hu,Qrg];simp only;rw [if_neg (by rw [hu];exact hne)];simp [Fh];omega
theorem Qo4 {l:List Bool}{n i:Nat} (hl:l.length=n) (hi:i < n):(Bc l / 2 ^ (n - 1 - i)) % 2=(l.getD i false).toNat:=by
 rw [Qa3];have h:=T2 n (Bc l) i hi;rw [<- hl,Qb8,hl] at h;rw [Yb,h];rfl
theorem Qjl {l:List Bool} (hl:l.length=16):Bc l < 65536:=by have:=K8 l;rw [hl] at this;exact this
def exV (r:Except Int (List UInt8×Nat)):Value:=match r with
 | .ok q=>.tuple #[Aa q.1,.int .i64 q.2,.int .i64 0]
 | .error e=>.tuple #[Aa [],.int .i64 0,.int .i64 e]
def Nb (i:Nat) (row:List Bool) (n:Nat):List UInt8:=((Yf n).filter fun k=>row.getD k false).map fun k=>Y2 (16 * i+k)
theorem Qfr (i:Nat) (row:List Bool) (n:Nat):Nb i row (n+1)=Nb i row n++if row.getD n false=true then [Y2 (16 * i+n)] else []:=by
 unfold Nb;rw [Xn,X2,Um]
 congr 1
 by_cases h:row.getD n false=true
 ·
  rw [if_pos h,Xo (p:=fun k=>row.getD k false) h];rfl
 rw [if_neg h,Xp (p:=fun k=>row.getD k false) h];rfl
theorem Qbt (i:Nat) (row:List Bool) (n:Nat):(Nb i row n).length<=n:=by
 unfold Nb;rw [Xv];exact Xm (Xq _ _) (by simp)
theorem Qk5 (s:List UInt8) (at_:Nat) (ha:at_<=8 * s.length) (hs:s.length<=100000000000000) (w:World) :
  Does Ym 82 #[Aa s,.int .i64 at_] w fun v w'=>Heap w [] w' []/\v=exV (Kq (At s) at_):=by
 have hbl:=D0 s;generalize hbits:At s=bits at *;generalize hres:Kq bits at_=res;unfold Kq at hres;refine En [Aa s,.int .i64 at_] 74 Tryz.func82 ?_;refine VS [0,1] ?_;refine VQ [7] fun K hK=>?_;refine Ac Tryz.call68 ?_;refine Qs ?_;refine Yd (Q3 s at_ w (I64.mk (by omega) (by omega)) (by omega)) ?_;rintro v w2 (⟨hbad,_⟩ | ⟨_,gr,gs,hH,rfl⟩)
 ·
  omega
 rw [Yq] at hH;apply hK;clear hK;refine VS [7,19] ?_;refine Ae rfl rfl (fun h=>by cases h) (fun h=>Ab ?_);refine VQ [7,8,9] fun K hK=>?_;refine Ac Ga ?_;refine Qs ?_;refine Yd (Ot gr gs s at_ 16 w2 (by omega) (by omega) (by omega) (hH.focus 0 rfl)) ?_;rintro v w3 (⟨h1,rfl,rfl⟩ | ⟨h1,hH2,rfl⟩)
 ·
  rw [if_pos (by omega)] at hres;subst hres;apply hK;clear hK;refine VS [7,8,9,26] ?_;refine Ae rfl rfl (fun h=>?_) (fun h=>by cases h);refine VS [4,5,6] ?_;exact Ad (Dh rfl rfl rfl rfl ⟨hH.sub (by simp),rfl⟩)
 rw [if_neg (by omega)] at hres;have hH3:=hH.call1 0 rfl hH2;clear hH2 hH;rw [hbits];have hfl:((bits.drop at_).take 16).length=16:=by rw [Y9,Y1];omega
 generalize (bits.drop at_).take 16=fl at *;have hfl2:=Qjl hfl;apply hK;clear hK;refine VS [7,8,9,26] ?_;refine Ae rfl rfl (fun h=>by cases h) (fun h=>Ab ?_);refine VQ [7,8,10] fun K hK=>?_;refine Fb hH3 (An []) (xs:=[]) Yg Fj rfl rfl rfl (by omega) ?_;refine Qs ?_;refine ⟨rfl,by simp [Yv],fun g w4 hH4=>?_⟩;(try refine Qs ?_);apply hK;clear hK;refine VS [7,8,10,29] ?_;refine Ar ?_;refine Au [7,8,10,29] (fun m e w'=>∃ (i cap p:Nat) (a:Option Addr) (out:List UInt8),Is e [(7,.pointer (some ⟨gr,0,none⟩)),(8,.int .u64 (Bc fl)),(10,.slice a out.length cap),(29,.int .i64 i)]/\Heap w [] w' [Y6 5 1 a out.length cap (An out),rd gr gs s p]/\i<=16/\p<=8 * s.length/\out.length<=16 * i/\(match C9 bits (fl.drop i) i p with | .error e=>.error e | .ok q=>if out++q.1=[] then .error 60 else .ok (out++q.1,q.2))=res/\m=16 - i) 16 ?_ ?_
 ·
  refine Qs ?_;refine ⟨0,_,at_+16,_,[],rfl,hH4,by omega,by omega,by simp,?_,rfl⟩;rw [Us,<- hres];cases C9 bits fl 0 (at_+16) <;> rfl
 clear hH3 hH4 hres;rintro m e w' ⟨i,cap,p,a,out,rfl,hH,hi,hp,hol,hres,rfl⟩;refine VS [7,8,10,29,30] ?_;(repeat refine Ax ?_);refine VD (fun h=>?_) (fun h=>?_)
 ·
  have hdi:fl.drop i=fl.getD i false::fl.drop (i+1):=drop_getD false (by omega);rw [hdi] at hres;have hbit:=Qo4 hfl (i:=i) (by omega);refine Ab ?_;refine VB ?_;refine VS [7,8,10,11,29] ?_;have hsh:Bx Y8 ((15 - (i:Int)) % 18446744073709551616)=16 - 1 - i:=S5 (by omega) (by simp [U6];omega) (by decide);refine VQ [7,8,10,11,29,38] fun K hK=>?_;rw [hsh,Pz];have hle:=Nat.div_le_self (Bc fl) (2 ^ (16 - 1 - i));generalize Bc fl / 2 ^ (16 - 1 - i)=q at *;(repeat first | refine Qo ?_ | refine Qp ?_);rw [show Xy 1=1 from rfl,Yq,U0,hbit];apply hK;clear hK;cases hfi:fl.getD i false with
  | false =>
   rw [hfi,C9] at hres;refine Ae rfl rfl (fun h=>?_) (fun h=>by simp [hfi] at h);refine As rfl ?_;refine VS [7,8,10,29] ?_;refine Ah ?_;refine Qs ?_;exact ⟨16 - (i+1),by omega,i+1,cap,p,a,out,rfl,hH,by omega,hp,by omega,hres,rfl⟩
  | true =>
   rw [hfi,C9] at hres;refine Ae rfl rfl (fun h=>by simp [hfi] at h) (fun h=>Ab ?_);refine VQ [7,8,10,11,12,13,29] fun K hK=>?_;refine Ac Ga ?_;refine Qs ?_;refine Yd (Ot gr gs s p 16 w' (by omega) (by omega) (by omega) (hH.focus 1 rfl)) ?_;rintro v w3 (⟨h1,rfl,rfl⟩ | ⟨h1,hH2,rfl⟩)
   ·
    rw [if_pos (by omega)] at hres;subst hres;apply hK;clear hK;refine VS [7,8,10,11,12,13,29,45] ?_;refine Ae rfl rfl (fun h=>?_) (fun h=>by cases h);refine VS [4,5,6] ?_;exact Ad (Dh rfl rfl rfl rfl ⟨hH.sub (by simp),rfl⟩)
   rw [if_neg (by omega)] at hres;have hH3:=hH.call1 1 rfl hH2;simp only [List.set_cons_succ,Yc,Ya] at hH3;clear hH2 hH;rw [hbits];have hrow:((bits.drop p).take 16).length=16:=by rw [Y9,Y1];omega
   generalize (bits.drop p).take 16=row at *;have hrow2:=Qjl hrow;apply hK;clear hK;refine VS [7,8,10,11,12,13,29,45] ?_;refine Ae rfl rfl (fun h=>by cases h) (fun h=>Ab ?_);refine VS [7,8,10,11,12,29,47] ?_;refine Ar ?_;refine Au [7,8,10,11,12,29,47] (fun m e w'=>∃ (k cap:Nat) (a:Option Addr),Is e [(7,.pointer (some ⟨gr,0,none⟩)),(8,.int .u64 (Bc fl)),(10,.slice a (out++Nb i row k).length cap),(11,.int .i64 i),(12,.int .u64 (Bc row)),(29,.int .i64 i),(47,.int .i64 k)]/\Heap w [] w' [Y6 5 1 a (out++Nb i row k).length cap (An (out++Nb i row k)),rd gr gs s (p+16)]/\k<=16/\m=16 - k) 16 ?_ ?_
   ·
    refine Qs ?_;have e0:out++Nb i row 0=out:=by simp [Nb]
    refine ⟨0,cap,a,by rw [e0];rfl,by rw [e0];exact hH3,by omega,rfl⟩
   clear hH3;rintro m e w4 ⟨k,cap,a,rfl,hH,hk,rfl⟩;refine VS [7,8,10,11,12,29,47,48] ?_;(repeat refine Ax ?_);refine VD (fun h=>?_) (fun h=>?_)
   ·
    have hbk:=Qo4 hrow (i:=k) (by omega);have hsucc:=Qfr i row k;have hlen:=Qbt i row k;refine Ab ?_;refine VB ?_;refine VS [7,8,10,11,12,14,29,47] ?_;have hsh2:Bx Y8 ((15 - (k:Int)) % 18446744073709551616)=16 - 1 - k:=S5 (by omega) (by simp [U6];omega) (by decide);refine VQ [7,8,10,11,12,14,29,47,56] fun K hK=>?_;rw [hsh2,Pz];have hle2:=Nat.div_le_self (Bc row) (2 ^ (16 - 1 - k));generalize Bc row / 2 ^ (16 - 1 - k)=q2 at *;(repeat first | refine Qo ?_ | refine Qp ?_);rw [show Xy 1=1 from rfl,Yq,U0,hbk];apply hK;clear hK;cases hrk:row.getD k false with
    | true =>
     rw [hrk,if_pos rfl] at hsucc;refine Ae rfl rfl (fun h=>?_) (fun h=>by simp [hrk] at h);refine VQ [7,8,10,11,12,29,47] fun K hK=>?_;(repeat first | refine Qo ?_ | refine Qp ?_);rw [show ((16 * (i:Int)+k) % 256)=((Y2 (16 * i+k)).toNat:Int) by rw [X4];omega];refine Kp (xs:=[.tmp 62]) Yg Fj rfl rfl rfl (by omega) ?_;refine Qs ?_;refine ⟨by simp [Yv],?_⟩;refine Cl ?_;refine Qs ?_;refine Sn hH 0 (Y2 (16 * i+k)) rfl Yg Io (by first | rfl | (simp;done) | omega) (fun h=>by (first | omega | (simp;done) | (simp;omega))) fun a' cap' w5 hc' hH4=>?_;(try refine Qs ?_);rw [Yk,<- hsucc] at hH4 ⊢;apply hK;clear hK;refine Ao ?_;refine VS [7,8,10,11,12,29,47] ?_;refine Ah ?_;refine Qs ?_;exact ⟨16 - (k+1),by omega,k+1,cap',a',rfl,hH4,by omega,rfl⟩
    | false =>
     rw [hrk,if_neg (by simp),Yp] at hsucc;refine Ae rfl rfl (fun h=>by simp [hrk] at h) (fun h=>Ab ?_);refine Ao ?_;refine VS [7,8,10,11,12,29,47] ?_;refine Ah ?_;refine Qs ?_;exact ⟨16 - (k+1),by omega,k+1,cap,a,by rw [hsucc];rfl,by rw [hsucc];exact hH,by omega,rfl⟩
   obtain rfl:k=16:=by omega
   have hlen:=Qbt i row 16;refine As rfl ?_;refine Ao ?_;refine VS [7,8,10,29] ?_;refine Ah ?_;refine Qs ?_;refine ⟨16 - (i+1),by omega,i+1,cap,p+16,a,out++Nb i row 16,rfl,hH,by omega,by omega,by simp;omega,?_,rfl⟩;rw [<- hres];cases C9 bits (fl.drop (i+1)) (i+1) (p+16) with
   | error e=>rfl
   | ok q=>simp only [Yk];rfl
 obtain rfl:i=16:=by omega
 rw [Y7 (by omega),C9] at hres;simp only [Yp] at hres;refine As rfl ?_;refine VS [7,10,69] ?_;refine VD (fun h=>?_) (fun h=>Ab ?_)
 ·
  rw [if_pos (List.eq_nil_of_length_eq_zero (by omega))] at hres;subst hres;refine VS [4,5,6] ?_;exact Ad (Dh rfl rfl rfl rfl ⟨hH.sub (by simp),rfl⟩)
 rw [if_neg (fun e=>h (by rw [e];rfl))] at hres;subst hres;refine Vq [4,5,6] fun K hK=>?_;refine ⟨out,hH.readsBytes 0 rfl,?_⟩;refine Qmv Tryz.call122 ?_;refine Qs ?_;refine QCallK.mk (Vp gr gs p s w' (hH.at 1 rfl)) ?_;apply hK;clear hK;exact Ad (Dh rfl rfl rfl rfl ⟨hH.sub (by simp),rfl⟩)
open Go.Sort (swp insInner insOuter insertionSort)
def Aw (g cap:Nat) (d:Array Int):Res:=Y6 3 1 (some ⟨g,0,none⟩) d.size cap (Bb d.toList)
abbrev sl (g cap:Nat) (d:Array Int):Value:=.slice (some ⟨g,0,none⟩) d.size cap
theorem B2 {g cap:Nat}{d:Array Int}{w:World} (h:(Aw g cap d).holds w) {k:Nat} (hk:k < d.size):w.cell? ⟨g,k,none⟩=some (.int .i64 d[k]!):=by
 refine Cn h ?_;rw [L6 (by simpa using hk)]
 congr 2
 simp only [Yb,getElem!_def,Array.getElem?_toList];cases d[k]? <;> rfl
theorem C3 {w0 w:World}{B:List Nat}{G:List Res} (hH:Heap w0 B w G) (i:Nat) {g cap o:Nat}{d:Array Int}{ap:Addr}{x:Int}{C:World->Prop} (hi:G[i]? = some (Aw g cap d)) (hp:ap=⟨g,o,none⟩) (ho:o < d.size)
  (h:∀ w',Heap w0 B w' (G.set i (Aw g cap (d.setIfInBounds o x)))->C w'):Mw Ym 3 (.pointer (some ap)) (.int .i64 x) w C:=by
 refine Ej hH i (o:=o) (vs:=[.int .i64 x]) hi (by rw [hp];simp [B0]) rfl (by kernel_rfl) (by rw [Tx];simp;omega) (by simp [Y3]) fun w' hw=>h w' ?_
 have e:(Bb d.toList).take o++[.int .i64 x]++(Bb d.toList).drop (o+[Uv .i64 x].length)=Bb (d.setIfInBounds o x).toList:=by
  rw [Xc,Di (Bb d.toList) _ _ (by rw [Tx];simpa using ho),Qi4,Array.toList_setIfInBounds]
 rw [e] at hw;unfold Aw
 rwa [Array.size_setIfInBounds]
structure Cmp (fv:Value) (cf:Int->Int->Int) (Q:Int->Prop) (R:Res):Prop where
 i64:∀ x y,Q x->Q y->-9223372036854775808<=cf x y/\cf x y<=9223372036854775807
 run:∀ w x y,R.holds w->Q x->Q y->FnK Ym fv [.int .i64 x,.int .i64 y] w (fun v w'=>Heap w [] w' []/\v=.int .i64 (cf x y))
abbrev ltOf (cf:Int->Int->Int):Int->Int->Bool:=fun x y=>decide (cf x y < 0)
def AllQ (Q:Int->Prop) (d:Array Int):Prop:=∀ k < d.size,Q d[k]!
theorem Kr (d:Array Int) (i j:Nat):(swp d i j).size=d.size:=by simp [swp]
theorem AllQ.swp {Q:Int->Prop}{d:Array Int} (h:AllQ Q d) {i j:Nat} (hi:i < d.size) (hj:j < d.size):AllQ Q (swp d i j):=by
 intro k hk;rw [Kr] at hk;rw [Sort.swp_get d hi hj];split
 ·
  exact h _ hi
 split
 ·
  exact h _ hj
 exact h _ hk
theorem FnK.to {fv:Value}{vs:List Value}{w:World}{C C':Value->World->Prop} (h:FnK Ym fv vs w C) (h':∀ v w',C v w'->C' v w'):FnK Ym fv vs w C':=by
 obtain ⟨f,first,cs,h1,h2,F,h3,h4⟩:=h;exact ⟨f,first,cs,h1,h2,F,h3,fun v w' h=>h' v w' (h4 v w' h)⟩
theorem Cmp.look {cmp:Value}{cf:Int->Int->Int}{Q:Int->Prop}{R:Res} (hC:Cmp cmp cf Q R) {w0 w:World}{B:List Nat}{G:List Res}{r:Res} (hH:Heap w0 B w (r::R::G)) {x y:Int} (hx:Q x) (hy:Q y) :
  FnK Ym cmp [.int .i64 x,.int .i64 y] w (fun v w'=>Heap w0 B w' (r::R::G)/\v=.int .i64 (cf x y)):=by
 obtain ⟨f,first,cs,h1,h2,h3⟩:=hC.run w x y (hH.at 1 rfl) hx hy;obtain ⟨F,h3,h4⟩:=h3;exact ⟨f,first,cs,h1,h2,F,h3,fun v w' h=>⟨hH.call0 (h4 v w' h).1,(h4 v w' h).2⟩⟩
theorem Qng {lt:Int->Int->Bool}{a j:Nat}{d:Array Int} (h1:a < j) (h2:lt d[j]! d[j - 1]! = true):insInner lt a (j - 1) (swp d j (j - 1))=insInner lt a j d:=by
 obtain ⟨k,rfl⟩:∃ k,j=k+1:=⟨j - 1,by omega⟩;rw [Xb] at *;rw [insInner,if_pos (by simp [h1,h2])]
theorem Qij {lt:Int->Int->Bool}{a j:Nat}{d:Array Int} (h:false=(decide (a < j) && lt d[j]! d[j - 1]!)):insInner lt a j d=d:=by
 cases j with
 | zero=>rfl
 | succ k=>rw [Xb] at h;rw [insInner,if_neg (by simpa using h.symm)]
theorem Qnh {lt:Int->Int->Bool}{a b i:Nat}{d:Array Int} (h:i < b):insOuter lt a b i d=insOuter lt a b (i+1) (insInner lt a i d):=by rw [insOuter,if_pos h]
theorem Qik {lt:Int->Int->Bool}{a b i:Nat}{d:Array Int} (h:¬ i < b):insOuter lt a b i d=d:=by rw [insOuter,if_neg h]
theorem Qb0 {cmp:Value}{cf:Int->Int->Int}{Q:Int->Prop}{R:Res} (hC:Cmp cmp cf Q R) (g cap a b:Nat) (d:Array Int) (hab:a<=b) (hb:b<=d.size) (hd:d.size<=1000000000000) (hQ:AllQ Q d) (w0 w:World) (B:List Nat) (G:List Res)
  (hL:Heap w0 B w (Aw g cap d::R::G)):Does Ym 192 #[sl g cap d,.int .i64 a,.int .i64 b,cmp] w
   fun v w'=>∃ d',d'=insertionSort (ltOf cf) d a b/\d'.size=d.size/\AllQ Q d'/\Heap w0 B w' (Aw g cap d'::R::G)/\v=.tuple #[]:=by
 refine En [sl g cap d,.int .i64 a,.int .i64 b,cmp] 53 Tryz.func192 ?_;refine VS [0,1,2,3,8] ?_;refine Ar ?_;refine Au [0,1,2,3,8] (fun m e w'=>∃ (i:Nat) (d':Array Int),Is e [(0,sl g cap d),(1,.int .i64 a),(2,.int .i64 b),(3,cmp),(8,.int .i64 i)]/\Heap w0 B w' (Aw g cap d'::R::G)/\d'.size=d.size/\AllQ Q d'/\a+1<=i/\i<=max b (a+1)/\insOuter (ltOf cf) a b i d'=insertionSort (ltOf cf) d a b/\m=b - i) (b - (a+1)) ?_ ?_
 ·
  refine Qs ?_;exact ⟨a+1,d,rfl,hL,rfl,hQ,by omega,by omega,rfl,rfl⟩
 rintro m e w1 ⟨i,d1,rfl,hH,hs1,hQ1,hi1,hi2,hins,rfl⟩;refine VS [0,1,2,3,8,14] ?_;refine VD (fun h=>?_) (fun h=>?_)
 ·
  refine Ab ?_;refine VB ?_;refine VS [0,1,2,3,8,9] ?_;refine Ar ?_;refine Au [0,1,2,3,8,9] (fun m e w'=>∃ (j:Nat) (d':Array Int),Is e [(0,sl g cap d),(1,.int .i64 a),(2,.int .i64 b),(3,cmp),(8,.int .i64 i),(9,.int .i64 j)]/\Heap w0 B w' (Aw g cap d'::R::G)/\d'.size=d.size/\AllQ Q d'/\a<=j/\j<=i/\insInner (ltOf cf) a j d'=insInner (ltOf cf) a i d1/\m=j) i ?_ ?_
  ·
   refine Qs ?_;exact ⟨i,d1,rfl,hH,hs1,hQ1,by omega,by omega,rfl,rfl⟩
  rintro m e w2 ⟨j,d2,rfl,hH,hs2,hQ2,hj1,hj2,hinn,hm⟩;refine VL [0,1,2,3,8,9,34] 14 fun K hK=>?_
  have hall:∀ bb:Bool,∀ w4,bb=(decide (a < j) && ltOf cf d2[j]! d2[j - 1]!)->Heap w0 B w4 (Aw g cap d2::R::G)->K [(0,sl g cap d),(1,.int .i64 a),(2,.int .i64 b),(3,cmp),(8,.int .i64 i),(9,.int .i64 j),(34,.bool bb)] w4:=by
   intro bb w4 hb hH;apply hK;clear hK;refine Vi (fun h=>?_) (fun h=>?_)
   ·
    subst h;simp only [Bool.true_eq,Xs,decide_eq_true_eq] at hb;refine Ab ?_;refine VB ?_;refine Vb [0,1,2,3,8,9] [(0,0),(1,0),(2,0),(3,0),(4,0),(5,0),(6,0),(7,0),(8,0),(10,0),(11,0),(12,0),(9,1),(13,1),(14,0),(15,2),(16,0),(17,2)] fun K hK=>?_;(repeat (first | (refine ⟨_,B2 (hH.at 0 rfl) (by omega),?_⟩;(try refine Qs ?_)) | refine Qo ?_ | refine Qp ?_));refine Af ?_;refine Qs ?_;refine C3 hH 0 (o:=(j)) rfl (by first | rfl | (simp;done) | (congr 1;omega)) (by first | omega | (simp;omega)) fun w6 hH3=>?_;simp only [Yc] at hH3;(try refine Qs ?_);(repeat (first | (refine ⟨_,B2 (hH.at 0 rfl) (by omega),?_⟩;(try refine Qs ?_)) | refine Qo ?_ | refine Qp ?_));refine Af ?_;refine Qs ?_;refine C3 hH3 0 (o:=(j - 1)) rfl (by first | rfl | (simp;done) | (congr 1;omega)) (by first | omega | (simp;omega)) fun w6 hH4=>?_;simp only [Yc] at hH4;(try refine Qs ?_);have hH5:Heap w0 B w6 (Aw g cap (swp d2 j (j - 1))::R::G):=hH4;apply hK;clear hK;refine Ao ?_;refine VS [0,1,2,3,8,9] ?_;refine Ah ?_;refine Qs ?_;refine ⟨j - 1,by omega,j - 1,_,by rw [show ((j:Int) - 1)=((j - 1:Nat):Int) by omega];rfl,hH5,by rw [Kr,hs2],hQ2.swp (by omega) (by omega),by omega,by omega,?_,rfl⟩;rw [<- hinn,Qng hb.1 (by simpa [ltOf] using hb.2)]
   subst h;refine As rfl ?_;refine Ao ?_;refine VS [0,1,2,3,8] ?_;refine Ah ?_;refine Qs ?_;refine ⟨b - (i+1),by omega,i+1,d2,rfl,hH,hs2,hQ2,by omega,by omega,?_,rfl⟩;rw [<- hins,Qnh (i:=i) (by omega),<- hinn,Qij hb]
  refine ⟨fun hg=>?_,fun hg=>?_⟩
  ·
   (repeat (first | (refine ⟨_,B2 (hH.at 0 rfl) (by omega),?_⟩;(try refine Qs ?_)) | refine Qo ?_ | refine Qp ?_));refine Cc ?_;refine Qs ?_;refine FnK.to (Cmp.look hC hH (hQ2 _ (by omega)) (hQ2 _ (by omega))) ?_;rintro v w4 ⟨hH2,rfl⟩;(try refine Qs ?_);refine hall _ _ ?_ hH2;simp [ltOf,show a < j by omega]
  refine hall _ _ ?_ hH;simp [show ¬ a < j by omega]
 refine As rfl ?_;refine Qe (I8 rfl ?_);rw [Qik (by omega)] at hins;exact ⟨_,hins,hs1,hQ1,hH,rfl⟩
open Go Go.Eng
open Go.Sort (swp siftDown heapBuild heapPop heapSort)
theorem Qil {lt:Int->Int->Bool}{hi first root:Nat}{d:Array Int} (h:2 * root+1 ≥ hi):siftDown lt hi first root d=d:=by rw [siftDown,dif_pos h]
theorem Qim {lt:Int->Int->Bool}{hi first root c:Nat}{d:Array Int} (h:2 * root+1 < hi) (hc:c=if (decide (2 * root+2 < hi) && lt d[first+(2 * root+1)]! d[first+(2 * root+1)+1]!) then 2 * root+2 else 2 * root+1) :
  siftDown lt hi first root d=if lt d[first+root]! d[first+c]! then siftDown lt hi first c (swp d (first+root) (first+c)) else d:=by
 rw [siftDown,dif_neg (by omega)];by_cases h1:(decide (2 * root+2 < hi) && lt d[first+(2 * root+1)]! d[first+(2 * root+1)+1]!)=true
 ·
  rw [if_pos h1] at hc ⊢;subst hc;have h2:2 * root+2 < hi:=by simp at h1;exact h1.1
  rw [dif_pos h2];cases lt d[first+root]! d[first+(2 * root+2)]! <;> simp
 rw [if_neg h1] at hc ⊢;subst hc;cases lt d[first+root]! d[first+(2 * root+1)]! <;> simp
theorem Qbu {cmp:Value}{cf:Int->Int->Int}{Q:Int->Prop}{R:Res} (hC:Cmp cmp cf Q R) (g cap lo hi first:Nat) (d:Array Int) (hlo:lo<=1000000000000) (hb:first+hi<=d.size) (hd:d.size<=1000000000000) (hQ:AllQ Q d) (w0 w:World) (B:List Nat) (G:List Res)
  (hL:Heap w0 B w (Aw g cap d::R::G)):Does Ym 210 #[sl g cap d,.int .i64 lo,.int .i64 hi,.int .i64 first,cmp] w
   fun v w'=>∃ d',d'=siftDown (ltOf cf) hi first lo d/\d'.size=d.size/\AllQ Q d'/\Heap w0 B w' (Aw g cap d'::R::G)/\v=.tuple #[]:=by
 refine En [sl g cap d,.int .i64 lo,.int .i64 hi,.int .i64 first,cmp] 82 Tryz.func210 ?_;refine VS [0,2,3,4,10] ?_;refine Ar ?_;refine Au [0,2,3,4,10] (fun m e w'=>∃ (root:Nat) (d':Array Int),Is e [(0,sl g cap d),(2,.int .i64 hi),(3,.int .i64 first),(4,cmp),(10,.int .i64 root)]/\Heap w0 B w' (Aw g cap d'::R::G)/\d'.size=d.size/\AllQ Q d'/\root<=1000000000000/\siftDown (ltOf cf) hi first root d'=siftDown (ltOf cf) hi first lo d/\m=hi - root) (hi - lo) ?_ ?_
 ·
  refine Qs ?_;exact ⟨lo,d,rfl,hL,rfl,hQ,hlo,rfl,rfl⟩
 rintro m e w1 ⟨root,d1,rfl,hH,hs1,hQ1,hr,hins,hm⟩;refine Ar ?_;refine VS [0,2,3,4,10,11] ?_;refine VS [0,2,3,4,10,11,18] ?_;refine VD (fun h=>?_) (fun h=>?_)
 ·
  refine As rfl ?_;refine Qe (I8 rfl ?_);rw [Qil (by omega)] at hins;exact ⟨_,hins,hs1,hQ1,hH,rfl⟩
 refine Ab ?_;refine VL [0,2,3,4,10,11,40] 19 fun K hK=>?_
 have hall:∀ bb:Bool,∀ w4,bb=(decide (2 * root+2 < hi) && ltOf cf d1[first+(2 * root+1)]! d1[first+(2 * root+1)+1]!)->Heap w0 B w4 (Aw g cap d1::R::G)->K [(0,sl g cap d),(2,.int .i64 hi),(3,.int .i64 first),(4,cmp),(10,.int .i64 root),(11,.int .i64 (2 * root+1)),(40,.bool bb)] w4:=by
  intro bb w4 hbb hH;apply hK;clear hK;refine Dk [0,2,3,4,10,11] (fun e w'=>∃ c:Nat,Is e [(0,sl g cap d),(2,.int .i64 hi),(3,.int .i64 first),(4,cmp),(10,.int .i64 root),(11,.int .i64 c)]/\Is w' w4/\c=if bb then 2 * root+2 else 2 * root+1) ?_ ?_
  ·
   refine Vi (fun h=>?_) (fun h=>?_)
   ·
    subst h;refine VS [0,2,3,4,10,11] ?_;refine Ah ?_;refine Qs ?_;exact ⟨2 * root+2,by rw [show (2 * (root:Int)+1+1)=((2 * root+2:Nat):Int) by omega];rfl,rfl,rfl⟩
   subst h;refine Ab ?_;refine Ah ?_;refine Qs ?_;exact ⟨2 * root+1,by rw [show (2 * (root:Int)+1)=((2 * root+1:Nat):Int) by omega];rfl,rfl,rfl⟩
  rintro e w' ⟨c,rfl,rfl,hc⟩;rw [hbb] at hc
  have hch:c < hi:=by
   by_cases h2:2 * root+2 < hi
   ·
    split at hc <;> omega
   rw [if_neg (by simp [h2])] at hc;omega
  have hc0:root < c:=by split at hc <;> omega
  have hst:=Qim (lt:=ltOf cf) (first:=first) (d:=d1) (by omega) hc;refine VL [0,2,3,4,10,11,58] 13 fun K hK=>?_;(repeat (first | (refine ⟨_,B2 (hH.at 0 rfl) (by omega),?_⟩;(try refine Qs ?_)) | refine Qo ?_ | refine Qp ?_));refine Cc ?_;refine Qs ?_;refine FnK.to (Cmp.look hC hH (hQ1 _ (by omega)) (hQ1 _ (by omega))) ?_;rintro v w4 ⟨hH2,rfl⟩;(try refine Qs ?_);clear hH;apply hK;clear hK;refine Vi (fun h=>?_) (fun h=>?_)
  ·
   simp at h;rw [if_neg (by simp [ltOf];omega)] at hst;refine Ad (I8 rfl ?_);exact ⟨_,by rw [<- hins,hst],hs1,hQ1,hH2,rfl⟩
  simp at h;rw [if_pos (by simp [ltOf];omega)] at hst;refine Ab ?_;refine Vb [0,2,3,4,11] [(0,0),(1,0),(2,0),(3,0),(4,0),(5,0),(6,0),(7,0),(8,0),(9,0),(10,0),(11,0),(12,0),(14,0),(15,0),(16,0),(17,0),(18,0),(13,1),(19,1),(20,0),(21,2),(22,0),(23,2)] fun K hK=>?_;(repeat (first | (refine ⟨_,B2 (hH2.at 0 rfl) (by omega),?_⟩;(try refine Qs ?_)) | refine Qo ?_ | refine Qp ?_));refine Af ?_;refine Qs ?_;refine C3 hH2 0 (o:=(first+root)) rfl (by first | rfl | (simp;done) | (congr 1;omega)) (by first | omega | (simp;omega)) fun w6 hH3=>?_;simp only [Yc] at hH3;(try refine Qs ?_);(repeat (first | (refine ⟨_,B2 (hH2.at 0 rfl) (by omega),?_⟩;(try refine Qs ?_)) | refine Qo ?_ | refine Qp ?_));refine Af ?_;refine Qs ?_;refine C3 hH3 0 (o:=(first+c)) rfl (by first | rfl | (simp;done) | (congr 1;omega)) (by first | omega | (simp;omega)) fun w6 hH4=>?_;simp only [Yc] at hH4;(try refine Qs ?_);have hH5:Heap w0 B w6 (Aw g cap (swp d1 (first+root) (first+c))::R::G):=hH4;apply hK;clear hK;refine VS [0,2,3,4,10] ?_;refine Ao ?_;refine Ah ?_;refine Qs ?_;refine ⟨hi - c,by omega,c,_,rfl,hH5,by rw [Kr,hs1],hQ1.swp (by omega) (by omega),by omega,by rw [<- hins,hst],rfl⟩
 refine ⟨I64.mk (by omega) (by omega),?_⟩;refine ⟨fun hg=>?_,fun hg=>?_⟩
 ·
  (repeat (first | (refine ⟨_,B2 (hH.at 0 rfl) (by omega),?_⟩;(try refine Qs ?_)) | refine Qo ?_ | refine Qp ?_));refine Cc ?_;refine Qs ?_;refine FnK.to (Cmp.look hC hH (hQ1 _ (by omega)) (hQ1 _ (by omega))) ?_;rintro v w4 ⟨hH2,rfl⟩;(try refine Qs ?_);refine hall _ _ ?_ hH2;rw [show ((first:Int)+(2 * root+1)).toNat=first+(2 * root+1) by omega,show ((first:Int)+(2 * root+1)+1).toNat=first+(2 * root+1)+1 by omega];simp [ltOf,show 2 * root+2 < hi by omega]
 refine hall _ _ ?_ hH;simp [show ¬ 2 * root+2 < hi by omega]
theorem Qin {cmp:Value}{cf:Int->Int->Int}{Q:Int->Prop}{R:Res} (hC:Cmp cmp cf Q R) (g cap a b:Nat) (d:Array Int) (hab:a < b) (hb:b<=d.size) (hd:d.size<=1000000000000) (hQ:AllQ Q d) (w0 w:World) (B:List Nat) (G:List Res)
  (hL:Heap w0 B w (Aw g cap d::R::G)):Does Ym 193 #[sl g cap d,.int .i64 a,.int .i64 b,cmp] w
   fun v w'=>∃ d',d'=heapSort (ltOf cf) d a b/\d'.size=d.size/\AllQ Q d'/\Heap w0 B w' (Aw g cap d'::R::G)/\v=.tuple #[]:=by
 refine En [sl g cap d,.int .i64 a,.int .i64 b,cmp] 60 Tryz.func193 ?_;refine VS [0,1,2,3,8] ?_;refine VS [0,1,2,3,8,9] ?_;refine VS [0,3,8,9,10] ?_;refine VS [0,3,8,9,10,11] ?_;rw [show ((b:Int) - a)=((b - a:Nat):Int) by omega];generalize hn:b - a=n at *;refine Ar ?_;refine Au [0,3,8,9,10,11] (fun m e w'=>∃ (k:Nat) (i:Int) (d':Array Int),Is e [(0,sl g cap d),(3,cmp),(8,.int .i64 a),(9,.int .i64 0),(10,.int .i64 n),(11,.int .i64 i)]/\Heap w0 B w' (Aw g cap d'::R::G)/\d'.size=d.size/\AllQ Q d'/\i=(k:Int) - 1/\k<=n/\heapBuild (ltOf cf) n a k d'=heapBuild (ltOf cf) n a ((n - 1) / 2+1) d/\m=k) ((n - 1) / 2+1) ?_ ?_
 ·
  refine Qs ?_;exact ⟨(n - 1) / 2+1,_,d,rfl,hL,rfl,hQ,by omega,by omega,rfl,rfl⟩
 rintro m e w1 ⟨k,i,d1,rfl,hH,hs1,hQ1,hi,hk,hins,hm⟩;refine VS [0,3,8,9,10,11,21] ?_;refine VD (fun h=>?_) (fun h=>?_)
 ·
  obtain ⟨k,rfl⟩:∃ j,k=j+1:=⟨k - 1,by omega⟩;have hi':i=(k:Int):=by omega
  subst hi';refine Ab ?_;refine VB ?_;refine VQ [0,3,8,9,10,11] fun K hK=>?_;have hsd:=Qbu hC g cap k n a d1 (by omega) (by omega) (by omega) hQ1 w0 w1 B G hH;rw [sl,hs1] at hsd;refine Ac Tryz.call210 ?_;refine Qs ?_;refine Yd hsd ?_;rintro v w2 ⟨d2,hd2,hs2,hQ2,hH2,rfl⟩;apply hK;clear hK;refine Ao ?_;refine VS [0,3,8,9,10,11] ?_;refine Ah ?_;refine Qs ?_;refine ⟨k,by omega,k,_,d2,rfl,hH2,by omega,hQ2,rfl,by omega,?_,rfl⟩;rw [<- hins,heapBuild,hd2]
 obtain rfl:k=0:=by omega
 rw [heapBuild] at hins;refine As rfl ?_;refine VS [0,3,8,9,12] ?_;refine Ar ?_;refine Au [0,3,8,9,12] (fun m e w'=>∃ (k:Nat) (i:Int) (d':Array Int),Is e [(0,sl g cap d),(3,cmp),(8,.int .i64 a),(9,.int .i64 0),(12,.int .i64 i)]/\Heap w0 B w' (Aw g cap d'::R::G)/\d'.size=d.size/\AllQ Q d'/\i=(k:Int) - 1/\k<=n/\heapPop (ltOf cf) a k d'=heapPop (ltOf cf) a n d1/\m=k) n ?_ ?_
 ·
  refine Qs ?_;exact ⟨n,_,d1,rfl,hH,hs1,hQ1,rfl,by omega,rfl,rfl⟩
 clear hH h;rintro m e w2 ⟨k,i,d2,rfl,hH,hs2,hQ2,hi,hk,hpop,hm⟩;refine VS [0,3,8,9,12,33] ?_;refine VD (fun h=>?_) (fun h=>?_)
 ·
  obtain ⟨k,rfl⟩:∃ j,k=j+1:=⟨k - 1,by omega⟩;have hi':i=(k:Int):=by omega
  subst hi';refine Ab ?_;refine VB ?_;refine Vb [0,3,8,9,12] [(0,0),(1,0),(2,0),(3,0),(4,0),(5,0),(6,0),(7,0),(8,0),(9,0),(10,0),(12,0),(13,0),(14,0),(11,1),(15,1),(16,0),(17,2),(18,0),(19,2)] fun K hK=>?_;(repeat (first | (refine ⟨_,B2 (hH.at 0 rfl) (by omega),?_⟩;(try refine Qs ?_)) | refine Qo ?_ | refine Qp ?_));refine Af ?_;refine Qs ?_;refine C3 hH 0 (o:=(a)) rfl (by first | rfl | (simp;done) | (congr 1;omega)) (by first | omega | (simp;omega)) fun w6 hH3=>?_;simp only [Yc] at hH3;(try refine Qs ?_);(repeat (first | (refine ⟨_,B2 (hH.at 0 rfl) (by omega),?_⟩;(try refine Qs ?_)) | refine Qo ?_ | refine Qp ?_));refine Af ?_;refine Qs ?_;refine C3 hH3 0 (o:=(a+k)) rfl (by first | rfl | (simp;done) | (congr 1;omega)) (by first | omega | (simp;omega)) fun w6 hH4=>?_;simp only [Yc] at hH4;(try refine Qs ?_);have hH5:Heap w0 B w6 (Aw g cap (swp d2 a (a+k))::R::G):=hH4;have hs5:(swp d2 a (a+k)).size=d.size:=by rw [Kr,hs2]
  have hQ5:=hQ2.swp (i:=a) (j:=a+k) (by omega) (by omega);apply hK;clear hK;refine VQ [0,3,8,9,12] fun K hK=>?_;have hsd:=Qbu hC g cap 0 k a (swp d2 a (a+k)) (by omega) (by omega) (by omega) hQ5 w0 w6 B G hH5;rw [sl,hs5] at hsd;refine Ac Tryz.call210 ?_;refine Qs ?_;refine Yd hsd ?_;rintro v w7 ⟨d3,hd3,hs3,hQ3,hH6,rfl⟩;apply hK;clear hK;refine Ao ?_;refine VS [0,3,8,9,12] ?_;refine Ah ?_;refine Qs ?_;refine ⟨k,by omega,k,_,d3,rfl,hH6,by omega,hQ3,rfl,by omega,?_,rfl⟩;rw [<- hpop,heapPop,hd3]
 obtain rfl:k=0:=by omega
 rw [heapPop] at hpop;refine As rfl ?_;refine Qe (I8 rfl ?_);exact ⟨_,by rw [hpop,heapSort,hn,<- hins],hs2,hQ2,hH,rfl⟩
open Go Go.Eng
open Go.Sort (swp order2 median medianAdjacent choosePivot Hint reverseLoop reverseRange)
abbrev O9 (s:Nat) (n:Nat):Res:=Uu s 3 [.int .i64 n]
abbrev Qx (s:Nat):Value:=.pointer (some ⟨s,0,none⟩)
theorem Qbd {cmp:Value}{cf:Int->Int->Int}{Q:Int->Prop}{R:Res} (hC:Cmp cmp cf Q R) (g cap a b s n:Nat) (d:Array Int) (ha:a < d.size) (hb:b < d.size) (hd:d.size<=1000000000000) (hn:n<=1000000000000) (hQ:AllQ Q d) (w0 w:World) (B:List Nat) (G:List Res)
  (hL:Heap w0 B w (Aw g cap d::R::O9 s n::G)):Does Ym 223 #[sl g cap d,.int .i64 a,.int .i64 b,Qx s,cmp] w
   fun v w'=>∃ a' b' n':Nat,(a',b',n')=order2 (ltOf cf) d a b n/\Heap w0 B w' (Aw g cap d::R::O9 s n'::G)/\v=.tuple #[.int .i64 a',.int .i64 b']:=by
 refine En [sl g cap d,.int .i64 a,.int .i64 b,Qx s,cmp] 32 Tryz.func223 ?_;refine VS [0,1,2,3,4] ?_;refine VL [1,2,3,22] 9 fun K hK=>?_;(repeat (first | (refine ⟨_,B2 (hL.at 0 rfl) (by omega),?_⟩;(try refine Qs ?_)) | refine Qo ?_ | refine Qp ?_));refine Cc ?_;refine Qs ?_;refine FnK.to (Cmp.look hC hL (hQ _ (by omega)) (hQ _ (by omega))) ?_;rintro v w4 ⟨hH,rfl⟩;(try refine Qs ?_);apply hK;clear hK;refine VD (fun h=>?_) (fun h=>?_)
 ·
  refine VQ [1,2] fun K hK=>?_;(repeat first | refine Qo ?_ | refine Qp ?_ | (refine Gc hH ?_;(try refine Qs ?_)));refine Af ?_;refine Qs ?_;refine Al hH 2 (vs:=[.int .i64 (n+1:Nat)]) rfl rfl (by kernel_rfl) (by first | decide | (simp;done) | (simp;omega)) (by simp [Y3]) fun w6 hH2=>?_;(try refine Qs ?_);apply hK;clear hK;refine VS [10,11] ?_;refine Ad (A7 rfl rfl rfl ?_);exact ⟨b,a,n+1,by simp [order2,ltOf,h],hH2,rfl⟩
 refine Ab ?_;refine VS [10,11] ?_;refine Ad (A7 rfl rfl rfl ?_);exact ⟨a,b,n,by simp [order2,ltOf,h],hH,rfl⟩
theorem Qcf {lt:Int->Int->Bool}{d:Array Int}{a b n a' b' n':Nat} (h:(a',b',n')=order2 lt d a b n):((a'=a/\b'=b)∨(a'=b/\b'=a))/\n<=n'/\n'<=n+1:=by
 unfold order2 at h;split at h <;> simp only [Prod.mk.injEq] at h <;> omega
theorem Qen {cmp:Value}{cf:Int->Int->Int}{Q:Int->Prop}{R:Res} (hC:Cmp cmp cf Q R) (g cap a b c s n:Nat) (d:Array Int) (ha:a < d.size) (hb:b < d.size) (hc:c < d.size) (hd:d.size<=1000000000000) (hn:n<=1000000000) (hQ:AllQ Q d) (w0 w:World) (B:List Nat) (G:List Res)
  (hL:Heap w0 B w (Aw g cap d::R::O9 s n::G)):Does Ym 212 #[sl g cap d,.int .i64 a,.int .i64 b,.int .i64 c,Qx s,cmp] w
   fun v w'=>∃ m n':Nat,(m,n')=median (ltOf cf) d a b c n/\(m=a∨m=b∨m=c)/\n'<=n+3/\Heap w0 B w' (Aw g cap d::R::O9 s n'::G)/\v=.int .i64 m:=by
 refine En [sl g cap d,.int .i64 a,.int .i64 b,.int .i64 c,Qx s,cmp] 41 Tryz.func212 ?_;refine VS [0,1,2,3,4,5] ?_;refine VQ [0,1,2,3,4,5] fun K hK=>?_;refine Ac U7 ?_;refine Qs ?_;refine Yd (Qbd hC g cap a b s n d ha hb hd (by omega) hQ w0 w B G hL) ?_;rintro v w1 ⟨a1,b1,n1,ho1,hH1,rfl⟩;apply hK;clear hK;have hm1:=Qcf ho1;refine VQ [0,1,2,4,5] fun K hK=>?_;refine Ac U7 ?_;refine Qs ?_;refine Yd (Qbd hC g cap b1 c s n1 d (by omega) (by omega) hd (by omega) hQ w0 w1 B G hH1) ?_;rintro v w2 ⟨b2,c2,n2,ho2,hH2,rfl⟩;apply hK;clear hK;have hm2:=Qcf ho2;refine VQ [2] fun K hK=>?_;refine Ac U7 ?_;refine Qs ?_;refine Yd (Qbd hC g cap a1 b2 s n2 d (by omega) (by omega) hd (by omega) hQ w0 w2 B G hH2) ?_;rintro v w3 ⟨a3,b3,n3,ho3,hH3,rfl⟩;apply hK;clear hK;have hm3:=Qcf ho3;refine VS [12] ?_;refine Ad (A2 rfl rfl ?_);exact ⟨b3,n3,by simp only [median,<- ho1,<- ho2,<- ho3],by omega,by omega,hH3,rfl⟩
theorem Qab {cmp:Value}{cf:Int->Int->Int}{Q:Int->Prop}{R:Res} (hC:Cmp cmp cf Q R) (g cap a s n:Nat) (d:Array Int) (ha0:1<=a) (ha:a+1 < d.size) (hd:d.size<=1000000000000) (hn:n<=1000000000) (hQ:AllQ Q d) (w0 w:World) (B:List Nat) (G:List Res)
  (hL:Heap w0 B w (Aw g cap d::R::O9 s n::G)):Does Ym 211 #[sl g cap d,.int .i64 a,Qx s,cmp] w
   fun v w'=>∃ m n':Nat,(m,n')=medianAdjacent (ltOf cf) d a n/\(a - 1<=m/\m<=a+1)/\n'<=n+3/\Heap w0 B w' (Aw g cap d::R::O9 s n'::G)/\v=.int .i64 m:=by
 refine En [sl g cap d,.int .i64 a,Qx s,cmp] 18 Tryz.func211 ?_;refine VS [0,1,2,3] ?_;refine VQ [8] fun K hK=>?_;(repeat first | refine Qo ?_ | refine Qp ?_);have hm:=Qen hC g cap (a - 1) a (a+1) s n d (by omega) (by omega) (by omega) hd hn hQ w0 w B G hL;rw [show ((a - 1:Nat):Int)=(a:Int) - 1 by omega,show ((a+1:Nat):Int)=(a:Int)+1 by omega] at hm;refine Ac Tryz.call212 ?_;refine Qs ?_;refine Yd hm ?_;rintro v w1 ⟨m,n1,h1,h2,h3,hH1,rfl⟩;apply hK;clear hK;refine Ad (A2 rfl rfl ?_);exact ⟨m,n1,h1,by omega,h3,hH1,rfl⟩
open Go Go.Eng
open Go.Sort (swp order2 median medianAdjacent choosePivot Hint reverseLoop reverseRange)
def Wa:Hint->Int
 | .unknown=>0
 | .increasing=>1
 | .decreasing=>2
theorem Qdj {cmp:Value}{cf:Int->Int->Int}{Q:Int->Prop}{R:Res} (hC:Cmp cmp cf Q R) (g cap a b:Nat) (d:Array Int) (hab:a+8<=b) (hb:b<=d.size) (hd:d.size<=1000000000000) (hQ:AllQ Q d) (w0 w:World) (B:List Nat) (G:List Res)
  (hL:Heap w0 B w (Aw g cap d::R::G)):Does Ym 195 #[sl g cap d,.int .i64 a,.int .i64 b,cmp] w
   fun v w'=>∃ (p:Nat) (h:Hint),(p,h)=choosePivot (ltOf cf) d a b/\(a<=p/\p < b)/\Heap w0 B w' (Aw g cap d::R::G)/\v=.tuple #[.int .i64 p,.int .i64 (Wa h)]:=by
 refine En [sl g cap d,.int .i64 a,.int .i64 b,cmp] 63 Tryz.func195 ?_;refine VS [0,1,2,3] ?_;refine VS [0,1,3,10] ?_;rw [show ((b:Int) - a)=((b - a:Nat):Int) by omega];generalize hn:b - a=n at *;refine VQ [0,1,3,10,11] fun K hK=>?_;refine A6 (.int .i64 0) (by kernel_rfl) ?_;refine Qs ?_;have hH0:=hL.box 3 [.int .i64 0];generalize w.alloc (Xl [Uv .i64 0].toArray 3)=w1 at *;generalize w.heap.size=s at *;have hH:Heap w0 B w1 (Aw g cap d::R::O9 s 0::G):=hH0.perm (List.perm_middle (l₁:=[Aw g cap d,R])).symm;clear hH0;apply hK;clear hK;refine VS [0,1,3,10,11,12] ?_;refine VS [0,1,3,10,11,12,13] ?_;refine VS [0,3,10,11,12,13,14] ?_;obtain ⟨i0,hi0⟩:∃ i0,a+n / 4 * 1=i0:=⟨_,rfl⟩;obtain ⟨j0,hj0⟩:∃ j0,a+n / 4 * 2=j0:=⟨_,rfl⟩;obtain ⟨k0,hk0⟩:∃ k0,a+n / 4 * 3=k0:=⟨_,rfl⟩;rw [show ((a:Int)+n / 4 * 1)=(i0:Int) by omega,show ((a:Int)+n / 4 * 2)=(j0:Int) by omega,show ((a:Int)+n / 4 * 3)=(k0:Int) by omega]
 have hcp:choosePivot (ltOf cf) d a b=(fun r:Nat×Nat=>(r.1,if r.2=0 then Hint.increasing else if r.2=12 then Hint.decreasing else Hint.unknown)) (if n ≥ 8 then if n ≥ 50 then median (ltOf cf) d (medianAdjacent (ltOf cf) d i0 0).1 (medianAdjacent (ltOf cf) d j0 (medianAdjacent (ltOf cf) d i0 0).2).1 (medianAdjacent (ltOf cf) d k0 (medianAdjacent (ltOf cf) d j0 (medianAdjacent (ltOf cf) d i0 0).2).2).1 (medianAdjacent (ltOf cf) d k0 (medianAdjacent (ltOf cf) d j0 (medianAdjacent (ltOf cf) d i0 0).2).2).2 else median (ltOf cf) d i0 j0 k0 0 else (j0,0)):=by
  simp only [choosePivot,hn,hi0,hj0,hk0]
 have hb1:a+2<=i0/\i0 < j0/\j0 < k0/\k0+2<=b:=by omega
 clear hi0 hj0 hk0;refine VS [0,3,10,11,12,13,14,34] ?_;refine Dk [11,13] (fun e w'=>∃ m n':Nat,Is e [(11,Qx s),(13,.int .i64 m)]/\Heap w0 B w' (Aw g cap d::R::O9 s n'::G)/\(a<=m/\m < b)/\choosePivot (ltOf cf) d a b=(m,if n'=0 then .increasing else if n'=12 then .decreasing else .unknown)) ?_ ?_
 ·
  refine Ae rfl rfl (fun h=>?_) (fun h=>by simp at h;omega);simp only [decide_eq_true_eq] at h;refine VS [0,3,11,12,13,14,36] ?_
  refine Dk [0,3,11,12,13,14] (fun e w'=>∃ i j k n':Nat,Is e [(0,sl g cap d),(3,cmp),(11,Qx s),(12,.int .i64 i),(13,.int .i64 j),(14,.int .i64 k)]/\Heap w0 B w' (Aw g cap d::R::O9 s n'::G)/\(a<=i/\i < b)/\(a<=j/\j < b)/\(a<=k/\k < b)/\n'<=9 /\
   choosePivot (ltOf cf) d a b=((median (ltOf cf) d i j k n').1,if (median (ltOf cf) d i j k n').2=0 then .increasing else if (median (ltOf cf) d i j k n').2=12 then .decreasing else .unknown)) ?_ ?_
  ·
   refine VD (fun h=>?_) (fun h=>?_)
   ·
    refine VQ [0,3,11,12,13,14] fun K hK=>?_;refine Ac U8 ?_;refine Qs ?_;refine Yd (Qab hC g cap i0 s 0 d (by omega) (by omega) hd (by omega) hQ w0 w1 B G hH) ?_;rintro v w2 ⟨i,n1,hi,hi2,hn1,hH1,rfl⟩;apply hK;clear hK;refine VQ [0,3,11,12,13,14] fun K hK=>?_;refine Ac U8 ?_;refine Qs ?_;refine Yd (Qab hC g cap j0 s n1 d (by omega) (by omega) hd (by omega) hQ w0 w2 B G hH1) ?_;rintro v w3 ⟨j,n2,hj,hj2,hn2,hH2,rfl⟩;apply hK;clear hK;refine VQ [0,3,11,12,13,14] fun K hK=>?_;refine Ac U8 ?_;refine Qs ?_;refine Yd (Qab hC g cap k0 s n2 d (by omega) (by omega) hd (by omega) hQ w0 w3 B G hH2) ?_;rintro v w4 ⟨k,n3,hk,hk2,hn3,hH3,rfl⟩;apply hK;clear hK;refine Ah ?_;refine Qs ?_;refine ⟨i,j,k,n3,rfl,hH3,by omega,by omega,by omega,by omega,?_⟩;rw [hcp,if_pos (show n ≥ 8 by omega),if_pos (show n ≥ 50 by omega),<- hi,<- hj,<- hk]
   refine Ab ?_;refine Ah ?_;refine Qs ?_;refine ⟨_,_,_,0,rfl,hH,by omega,by omega,by omega,by omega,?_⟩;rw [hcp,if_pos (show n ≥ 8 by omega),if_neg (show ¬ n ≥ 50 by omega)]
  rintro e w2 ⟨i,j,k,n1,rfl,hH2,hi,hj,hk,hn1,hch⟩;refine VQ [11,13] fun K hK=>?_;refine Ac Tryz.call212 ?_;refine Qs ?_;refine Yd (Qen hC g cap i j k s n1 d (by omega) (by omega) (by omega) hd (by omega) hQ w0 w2 B G hH2) ?_;rintro v w3 ⟨m,n2,hm,hm2,hn2,hH3,rfl⟩;apply hK;clear hK;refine Ah ?_;refine Qs ?_;refine ⟨m,n2,rfl,hH3,by omega,?_⟩;rw [hch,<- hm]
 clear hH;rintro e w2 ⟨m,n1,rfl,hH,hm,hch⟩;have hH4:Heap w0 B w2 (Aw g cap d::R::G):=hH.sub (by simp);refine VQ [13,55] fun K hK=>?_;(repeat first | refine Qo ?_ | refine Qp ?_ | (refine Gc hH ?_;(try refine Qs ?_)));apply hK;clear hK;refine Ar ?_;refine VS [13,55,57] ?_;refine VD (fun h=>?_) (fun h=>?_)
 ·
  refine VS [8,9] ?_;refine Ad (A7 rfl rfl rfl ?_);exact ⟨m,.increasing,by rw [hch,if_pos (by omega)],hm,hH4,rfl⟩
 refine VS [13,60] ?_;refine VD (fun h=>?_) (fun h=>?_)
 ·
  refine VS [8,9] ?_;refine Ad (A7 rfl rfl rfl ?_);exact ⟨m,.decreasing,by rw [hch,if_neg (by omega),if_pos (by omega)],hm,hH4,rfl⟩
 refine VS [8,9] ?_;refine Ad (A7 rfl rfl rfl ?_);exact ⟨m,.unknown,by rw [hch,if_neg (by omega),if_neg (by omega)],hm,hH4,rfl⟩
theorem Qfs {i j:Nat}{d:Array Int} (h:i < j):reverseLoop i j d=reverseLoop (i+1) (j - 1) (swp d i j):=by
 conv=>lhs;rw [reverseLoop]
 rw [if_pos h]
theorem Qdk {i j:Nat}{d:Array Int} (h:¬ i < j):reverseLoop i j d=d:=by rw [reverseLoop,if_neg h]
theorem Qcu {cmp:Value}{R:Res}{Q:Int->Prop} (g cap a b:Nat) (d:Array Int) (hab:a < b) (hb:b<=d.size) (hd:d.size<=1000000000000) (hQ:AllQ Q d) (w0 w:World) (B:List Nat) (G:List Res)
  (hL:Heap w0 B w (Aw g cap d::R::G)):Does Ym 196 #[sl g cap d,.int .i64 a,.int .i64 b,cmp] w
   fun v w'=>∃ d',d'=reverseRange d a b/\d'.size=d.size/\AllQ Q d'/\Heap w0 B w' (Aw g cap d'::R::G)/\v=.tuple #[]:=by
 refine En [sl g cap d,.int .i64 a,.int .i64 b,cmp] 34 Tryz.func196 ?_;refine VS [0,2,8] ?_;refine VS [0,8,9] ?_;refine Ar ?_;refine Au [0,8,9] (fun m e w'=>∃ (i j:Nat) (d':Array Int),Is e [(0,sl g cap d),(8,.int .i64 i),(9,.int .i64 j)]/\Heap w0 B w' (Aw g cap d'::R::G)/\d'.size=d.size/\AllQ Q d'/\i<=b/\j < b/\reverseLoop i j d'=reverseRange d a b/\m=b - i) (b - a) ?_ ?_
 ·
  refine Qs ?_;exact ⟨a,b - 1,d,by rw [show ((b:Int) - 1)=((b - 1:Nat):Int) by omega];rfl,hL,rfl,hQ,by omega,by omega,rfl,rfl⟩
 rintro m e w1 ⟨i,j,d1,rfl,hH,hs1,hQ1,hi,hj,hrev,hm⟩;refine VS [0,8,9,15] ?_;refine VD (fun h=>?_) (fun h=>?_)
 ·
  refine Ab ?_;refine Ar ?_;refine Vb [0,8,9] [(0,0),(1,0),(2,0),(3,0),(4,0),(5,0),(6,0),(8,0),(9,0),(10,0),(7,1),(11,1),(12,0),(13,2),(14,0),(15,2)] fun K hK=>?_;(repeat (first | (refine ⟨_,B2 (hH.at 0 rfl) (by omega),?_⟩;(try refine Qs ?_)) | refine Qo ?_ | refine Qp ?_));refine Af ?_;refine Qs ?_;refine C3 hH 0 (o:=(i)) rfl (by first | rfl | (simp;done) | (congr 1;omega)) (by first | omega | (simp;omega)) fun w6 hH3=>?_;simp only [Yc] at hH3;(try refine Qs ?_);(repeat (first | (refine ⟨_,B2 (hH.at 0 rfl) (by omega),?_⟩;(try refine Qs ?_)) | refine Qo ?_ | refine Qp ?_));refine Af ?_;refine Qs ?_;refine C3 hH3 0 (o:=(j)) rfl (by first | rfl | (simp;done) | (congr 1;omega)) (by first | omega | (simp;omega)) fun w6 hH4=>?_;simp only [Yc] at hH4;(try refine Qs ?_);have hH5:Heap w0 B w6 (Aw g cap (swp d1 i j)::R::G):=hH4;apply hK;clear hK;refine VS [0,8,9] ?_;refine VS [0,8,9] ?_;refine Ao ?_;refine Ah ?_;refine Qs ?_;refine ⟨b - (i+1),by omega,i+1,j - 1,_,by rw [show ((j:Int) - 1)=((j - 1:Nat):Int) by omega];rfl,hH5,by rw [Kr,hs1],hQ1.swp (by omega) (by omega),by omega,by omega,?_,rfl⟩;rw [<- hrev,Qfs (i:=i) (by omega)]
 refine As rfl ?_;refine Qe (I8 rfl ?_);rw [Qdk (by omega)] at hrev;exact ⟨_,hrev,hs1,hQ1,hH,rfl⟩
open Go Go.Eng
open Go.Sort (bitsLen)
theorem Qyx {P:Program}{fn:Func}{F:Value->World->Prop}{N:Nat}{k:List It}{e:Env}{w:World}{x y:Code} (hf:VC ⟨P,fn,F,N⟩ (.code y::k) e w):VC ⟨P,fn,F,N⟩ (.code (.cond (.const (.bool false)) x y)::k) e w:=by
 intro a n ha;exact wp_cond_split (t:=false) rfl (fun h=>by cases h) (fun _=>hf a n ha)
theorem Qai {x k:Nat} (h:2 ^ k<=x):bitsLen (x / 2 ^ k)+k=bitsLen x:=by
 have h0:x≠0:=by have:=Ua (n:=k) (show 0 < 2 by omega);omega
 have h1:x / 2 ^ k≠0:=by have:=Nat.div_pos h (Ua (by omega));omega
 unfold bitsLen;rw [if_neg h0,if_neg h1]
 have e:X1 (x / 2 ^ k)=X1 x - k:=by
  rw [Nat.log2_eq_iff h1];have h2:=Ue h0;have h3:=Uf (n:=x);have hk:k<=X1 x:=(Gb h0).2 h;constructor
  ·
   rw [Uq (Ua (by omega)),<- Ur,Nat.sub_add_cancel hk];exact h2
  rw [Nat.div_lt_iff_lt_mul (Ua (by omega)),<- Ur,show X1 x - k+1+k=X1 x+1 by omega];exact h3
 have hk:k<=X1 x:=(Gb h0).2 h;omega
theorem Qrh (x:Nat):x < 2 ^ bitsLen x:=by
 unfold bitsLen;split
 ·
  omega
 exact Uf
theorem Sj {x n:Nat} (h:x < 2 ^ n):bitsLen x<=n:=by
 unfold bitsLen;split
 ·
  omega
 rename_i h0;have:=(Nat.log2_lt h0).2 h;omega
def len8:List UInt8:=(Yf 256).map fun n=>Y2 (bitsLen n)
theorem Qo5 {y:Nat} (h:y < 256):(len8.getD y 0).toNat=bitsLen y:=by
 have hl:=Sj (n:=8) h;simp only [len8,Yb,U3,Xw h,Option.map_some,Ug];simp;omega
theorem Qri (x:Nat) (hx:x < 18446744073709551616) (w:World):Does Ym 157 #[.int .u64 x] w fun v w'=>w'=w/\v=.int .i64 (bitsLen x):=by
 refine En [.int .u64 x] 25 Tryz.func157 ?_;refine VS [0,2] ?_;refine VS [0,2,4] ?_;refine Dk [0,2] (fun e w'=>∃ y n:Nat,Is e [(0,.int .u64 y),(2,.int .i64 n)]/\Is w' w/\bitsLen y+n=bitsLen x/\y < 4294967296/\n<=32) ?_ ?_
 ·
  refine VD (fun h=>?_) (fun h=>?_)
  ·
   refine VQ [0] fun K hK=>?_;refine Qo ?_;rw [show Bx Y8 32=32 from rfl,Pz];apply hK;clear hK;refine VS [0,2] ?_;refine Ah ?_;refine Qs ?_;exact ⟨x / 2 ^ 32,32,rfl,rfl,Qai (k:=32) (by omega),by omega,by omega⟩
  refine Ab ?_;refine Ah ?_;refine Qs ?_;exact ⟨x,0,rfl,rfl,rfl,by omega,by omega⟩
 rintro e w' ⟨y,n,rfl,rfl,hyn,hy,hn⟩;refine VS [0,2,8] ?_;refine Dk [0,2] (fun e w''=>∃ y n:Nat,Is e [(0,.int .u64 y),(2,.int .i64 n)]/\Is w'' w'/\bitsLen y+n=bitsLen x/\y < 65536/\n<=48) ?_ ?_
 ·
  refine VD (fun h=>?_) (fun h=>?_)
  ·
   refine VQ [0,2] fun K hK=>?_;refine Qo ?_;rw [show Bx Y8 16=16 from rfl,Pz];apply hK;clear hK;refine VS [0,2] ?_;refine Ah ?_;refine Qs ?_;have h1:=Qai (x:=y) (k:=16) (by omega);exact ⟨y / 2 ^ 16,n+16,rfl,rfl,by omega,by omega,by omega⟩
  refine Ab ?_;refine Ah ?_;refine Qs ?_;exact ⟨y,n,rfl,rfl,hyn,by omega,by omega⟩
 clear hyn hy hn;rintro e w'' ⟨y,n,rfl,rfl,hyn,hy,hn⟩;refine VS [0,2,14] ?_;refine VD (fun h=>?_) (fun h=>?_)
 ·
  refine VQ [0,2] fun K hK=>?_;refine Qo ?_;rw [show Bx Y8 8=8 from rfl,Pz];apply hK;clear hK;refine VS [0,2] ?_;have h1:=Qai (x:=y) (k:=8) (by omega);refine VQ [2] fun K hK=>?_;generalize htab:Xu (Xu _ _) (Xu _ _)=tab at *;have ht2:tab=len8:=by rw [<- htab];kernel_rfl
  clear htab;subst ht2;have h9:=Sj (n:=8) (show y / 2 ^ 8 < 2 ^ 8 by omega);rw [Xd (by omega) (by omega),Yq,Qo5 (by omega),show len8.length=256 by simp [len8]];refine Qp ?_;(repeat refine Qo ?_);apply hK;clear hK;refine Ad (A2 rfl rfl ⟨rfl,?_⟩);rw [show ((n:Int)+8+(bitsLen (y / 2 ^ 8):Nat))=bitsLen x by omega]
 refine Ab ?_;refine VQ [2] fun K hK=>?_;generalize htab:Xu (Xu _ _) (Xu _ _)=tab at *;have ht2:tab=len8:=by rw [<- htab];kernel_rfl
 clear htab;subst ht2;have h9:=Sj (n:=8) (show y < 2 ^ 8 by omega);rw [Xd (by omega) (by omega),Yq,Qo5 (by omega),show len8.length=256 by simp [len8]];refine Qp ?_;(repeat refine Qo ?_);apply hK;clear hK;refine Ad (A2 rfl rfl ⟨rfl,?_⟩);rw [show ((n:Int)+(bitsLen y:Nat))=bitsLen x by omega]
theorem Qgz (x:Nat) (hx:x < 18446744073709551616) (w:World):Does Ym 116 #[.int .u64 x] w fun v w'=>w'=w/\v=.int .i64 (bitsLen x):=by
 refine En [.int .u64 x] 8 Tryz.func116 ?_;refine VS [0] ?_;(repeat refine Ax ?_);refine Qyx (Ab ?_);refine VQ [2] fun K hK=>?_;refine Ac Tryz.call157 ?_;refine Qs ?_;refine Yd (Qri x hx w) ?_;rintro v w2 ⟨rfl,rfl⟩;apply hK;clear hK;exact Ad (A2 rfl rfl ⟨rfl,rfl⟩)
theorem Qbl (x:Nat) (hx:x < 1000000000000) (w:World):Does Ym 182 #[.int .i64 x] w fun v w'=>w'=w/\v=.int .u64 (2 ^ bitsLen x:Nat):=by
 refine En [.int .i64 x] 7 Tryz.func182 ?_;refine VS [0] ?_;refine VQ [2] fun K hK=>?_;rw [Xd (by omega) (by omega)];refine Ac Tryz.call116 ?_;refine Qs ?_;refine Yd (Qgz x (by omega) w) ?_;rintro v w2 ⟨rfl,rfl⟩;refine Qs ?_;have h40:bitsLen x<=40:=Sj (by omega);have hp:2 ^ bitsLen x<=2 ^ 40:=Xt (by omega) h40;refine Qo ?_;rw [S1 rfl (by rw [show U6 .u64=64 from rfl];omega),show ((1:Int) * 2 ^ bitsLen x)=((2 ^ bitsLen x:Nat):Int) by rw [Int.one_mul];push_cast;rfl];generalize 2 ^ bitsLen x=q at *;rw [Xd (by omega) (by omega)];apply hK;clear hK;exact Ad (A2 rfl rfl ⟨rfl,rfl⟩)
open Go Go.Eng
open Go.Sort (swp bitsLen xorNext breakStep breakPatterns)
abbrev Q0 (s:Nat) (r:UInt64):Res:=Uu s 243 [.int .u64 r.toNat]
theorem QOd (r:UInt64):((r.toNat:Int) * (2:Int) ^ Bx Y8 13 % (18446744073709551616:Int))=((r <<< 13).toNat:Int):=by
 rw [show Bx Y8 13=13 from rfl,UInt64.toNat_shiftLeft,Zm,Uh,show (13:UInt64).toNat % 64=13 from rfl];rfl
theorem QOe (r:UInt64):((r.toNat:Int) * (2:Int) ^ Bx Y8 17 % (18446744073709551616:Int))=((r <<< 17).toNat:Int):=by
 rw [show Bx Y8 17=17 from rfl,UInt64.toNat_shiftLeft,Zm,Uh,show (17:UInt64).toNat % 64=17 from rfl];rfl
theorem QQg (r:UInt64):((r.toNat:Int) / (2:Int) ^ Bx Y8 7)=((r >>> 7).toNat:Int):=by
 rw [show Bx Y8 7=7 from rfl,UInt64.toNat_shiftRight,Pz,Nat.shiftRight_eq_div_pow,show (7:UInt64).toNat % 64=7 from rfl]
theorem Qni (s:Nat) (r:UInt64) (w:World) (hL:Heap w (Q0 s r).foot w [Q0 s r]):Does Ym 183 #[.pointer (some ⟨s,0,none⟩)] w
   fun v w'=>Heap w (Q0 s r).foot w' [Q0 s (xorNext r)]/\v=.int .u64 (xorNext r).toNat:=by
 refine En [.pointer (some ⟨s,0,none⟩)] 33 Tryz.func183 ?_;refine VS [0] ?_;refine VL [0] 9 fun K hK=>?_;(repeat first | refine Qo ?_ | refine Qp ?_ | (refine Gc hL ?_;(try refine Qs ?_)));rw [QOd,Yq,<- UInt64.toNat_xor];generalize hr1:r ^^^ (r <<< 13)=r1 at *;have hb:=r.toNat_lt;have hb2:=(r <<< 13).toNat_lt;have hb3:=r1.toNat_lt;refine ⟨⟨by omega,by omega⟩,⟨by omega,by omega⟩,?_⟩;refine Af ?_;refine Qs ?_;refine Al hL 0 (vs:=[.int .u64 r1.toNat]) rfl rfl (by kernel_rfl) (by first | decide | (simp;done) | (simp;omega)) (by simp [Y3]) fun w6 hH1=>?_;(try refine Qs ?_);apply hK;clear hK;refine VL [0] 9 fun K hK=>?_;(repeat first | refine Qo ?_ | refine Qp ?_ | (refine Gc hH1 ?_;(try refine Qs ?_)));rw [QQg,Yq,<- UInt64.toNat_xor];generalize hr2:r1 ^^^ (r1 >>> 7)=r2 at *;have hb4:=(r1 >>> 7).toNat_lt;have hb5:=r2.toNat_lt;refine Qp ?_;refine Af ?_;refine Qs ?_;refine Al hH1 0 (vs:=[.int .u64 r2.toNat]) rfl rfl (by kernel_rfl) (by first | decide | (simp;done) | (simp;omega)) (by simp [Y3]) fun w6 hH2=>?_;(try refine Qs ?_);apply hK;clear hK;refine VL [0] 9 fun K hK=>?_;(repeat first | refine Qo ?_ | refine Qp ?_ | (refine Gc hH2 ?_;(try refine Qs ?_)));rw [QOe,Yq,<- UInt64.toNat_xor];generalize hr3:r2 ^^^ (r2 <<< 17)=r3 at *;have hb6:=(r2 <<< 17).toNat_lt;have hb7:=r3.toNat_lt;refine Af ?_;refine Qs ?_;refine Al hH2 0 (vs:=[.int .u64 r3.toNat]) rfl rfl (by kernel_rfl) (by first | decide | (simp;done) | (simp;omega)) (by simp [Y3]) fun w6 hH3=>?_;(try refine Qs ?_);apply hK;clear hK;refine VQ [2] fun K hK=>?_;(repeat first | refine Qo ?_ | refine Qp ?_ | (refine Gc hH3 ?_;(try refine Qs ?_)));apply hK;clear hK;have e:xorNext r=r3:=by simp only [xorNext,hr1,hr2,hr3]
 rw [e];exact Ad (A2 rfl rfl ⟨hH3,rfl⟩)
def Pl (a length modulus idx:Nat) (d:Array Int):Nat->UInt64×Array Int
 | 0=>(UInt64.ofNat length,d)
 | k+1=>breakStep a length modulus (Pl a length modulus idx d k) (idx+k)
theorem Qb1 {cmp:Value}{R:Res}{Q:Int->Prop} (g cap a b:Nat) (d:Array Int) (hab:a+8<=b) (hb:b<=d.size) (hd:d.size<=100000000000) (hQ:AllQ Q d) (w0 w:World) (B:List Nat) (G:List Res)
  (hL:Heap w0 B w (Aw g cap d::R::G)):Does Ym 194 #[sl g cap d,.int .i64 a,.int .i64 b,cmp] w
   fun v w'=>∃ d',d'=breakPatterns d a b/\d'.size=d.size/\AllQ Q d'/\Heap w0 B w' (Aw g cap d'::R::G)/\v=.tuple #[]:=by
 refine En [sl g cap d,.int .i64 a,.int .i64 b,cmp] 67 Tryz.func194 ?_;refine VS [0,1,8] ?_;rw [show ((b:Int) - a)=((b - a:Nat):Int) by omega];generalize hn:b - a=n at *;refine VS [0,1,8,17] ?_;refine Ae rfl rfl (fun h=>?_) (fun h=>by simp at h;omega);simp only [decide_eq_true_eq] at h;refine VQ [0,1,8,9] fun K hK=>?_;refine A6 (.int .u64 0) (by kernel_rfl) ?_;refine Qs ?_;have hH0:=hL.box 243 [.int .u64 0];generalize w.alloc (Xl [Uv .u64 0].toArray 243)=w1 at *;generalize w.heap.size=s at *;rw [Xd (by omega) (by omega)];have e1:n=(UInt64.ofNat n).toNat:=by rw [UInt64.toNat_ofNat'];omega
 refine Af ?_;refine Qs ?_;refine Al hH0 0 (vs:=[.int .u64 n]) rfl rfl (by kernel_rfl) (by first | decide | (simp;done) | (simp;omega)) (by simp [Y3]) fun w6 hH1=>?_;(try refine Qs ?_);have hH:Heap w0 B w6 (Q0 s (UInt64.ofNat n)::Aw g cap d::R::G):=by rw [Q0,<- e1];exact hH1
 apply hK;clear hK;refine VQ [0,1,8,9,10] fun K hK=>?_;refine Ac Tryz.call182 ?_;refine Qs ?_;refine Yd (Qbl n (by omega) w6) ?_;rintro v w2 ⟨rfl,rfl⟩;apply hK;clear hK;have h40:bitsLen n<=40:=Sj (by omega);have hp:2 ^ bitsLen n<=2 ^ 40:=Xt (by omega) h40;have hp0:0 < 2 ^ bitsLen n:=Ua (by omega);have hpn:=Qrh n;have hmod:1 <<< bitsLen n=2 ^ bitsLen n:=by rw [Uh,Nat.one_mul]
 have hpow2:∀ r:Nat,r &&& (2 ^ bitsLen n - 1) < 2 ^ bitsLen n:=fun r=>by rw [Nat.and_two_pow_sub_one_eq_mod];exact Nat.mod_lt _ hp0
 have hle:2 ^ bitsLen n<=2 * n:=by
  have h0:n≠0:=by omega
  have:=Ue h0;rw [show bitsLen n=X1 n+1 by unfold bitsLen;rw [if_neg h0],Xj];omega
 refine VS [0,1,8,9,10,11] ?_
 have hbp:breakPatterns d a b=(Pl a n (2 ^ bitsLen n) (a+n / 4 * 2 - 1) d 3).2:=by
  simp only [breakPatterns,hn,hmod,if_pos (show n ≥ 8 by omega)];rfl
 have hix:a+3<=a+n / 4 * 2 - 1/\a+n / 4 * 2 - 1+3<=b:=by omega
 rw [show ((a:Int)+n / 4 * 2 - 1)=((a+n / 4 * 2 - 1:Nat):Int) by omega];have hlim:(a:Int)+n / 4 * 2+1=((a+n / 4 * 2 - 1:Nat):Int)+2:=by omega
 generalize a+n / 4 * 2 - 1=i0 at *;generalize 2 ^ bitsLen n=md at *;refine Ar ?_;refine Au [0,1,8,9,10,11] (fun m e w'=>∃ (k:Nat),Is e [(0,sl g cap d),(1,.int .i64 a),(8,.int .i64 n),(9,.pointer (some ⟨s,0,none⟩)),(10,.int .u64 md),(11,.int .i64 (i0+k:Nat))]/\Heap w0 B w' (Q0 s (Pl a n md i0 d k).1::Aw g cap (Pl a n md i0 d k).2::R::G)/\(Pl a n md i0 d k).2.size=d.size/\AllQ Q (Pl a n md i0 d k).2/\k<=3/\m=3 - k) 3 ?_ ?_
 ·
  refine Qs ?_;exact ⟨0,rfl,hH,rfl,hQ,by omega,rfl⟩
 clear hH hH1 hH0;rintro m e w3 ⟨k,rfl,hH,hs1,hQ1,hk,hm⟩;refine VQ [0,1,8,9,10,11,35] fun K hK=>?_;rw [hlim];(repeat refine Qo ?_);apply hK;clear hK;refine VD (fun h=>?_) (fun h=>?_)
 ·
  refine Ab ?_;refine VB ?_;refine VQ [0,1,8,9,10,11,12] fun K hK=>?_;refine Ac Tryz.call183 ?_;refine Qs ?_;refine Yd (Qni s _ w3 (hH.focus 0 rfl)) ?_;rintro v w4 ⟨hH2,rfl⟩;have hH3:=hH.call1 (G':=[]) 0 rfl hH2;simp only [Ya,Yc] at hH3;refine Qs ?_;have hst:Pl a n md i0 d (k+1)=breakStep a n md (Pl a n md i0 d k) (i0+k):=rfl;clear hH hH2;generalize Pl a n md i0 d k=st at *;obtain ⟨r,d1⟩:=st;simp only [breakStep] at hst
  dsimp only at hH3 hs1 hQ1 ⊢
  generalize xorNext r=r1 at *;have hb1:=r1.toNat_lt;rw [Xd (by omega) (by omega),show ((md:Int) - 1).toNat=md - 1 by omega];have ho:=hpow2 r1.toNat;generalize r1.toNat &&& (md - 1)=o at *;refine ⟨⟨by omega,by omega⟩,⟨by omega,by omega⟩,?_⟩;(repeat refine Qo ?_);apply hK;clear hK;refine VS [0,1,8,9,10,11,12,45] ?_;refine Dk [0,1,8,9,10,11,12] (fun e w'=>∃ q:Nat,Is e [(0,sl g cap d),(1,.int .i64 a),(8,.int .i64 n),(9,.pointer (some ⟨s,0,none⟩)),(10,.int .u64 md),(11,.int .i64 (i0+k:Nat)),(12,.int .i64 q)]/\Is w' w4/\q=(if o ≥ n then o - n else o)/\q < n) ?_ ?_
  ·
   refine VD (fun h=>?_) (fun h=>?_)
   ·
    refine VS [0,1,8,9,10,11,12] ?_;refine Ah ?_;refine Qs ?_;exact ⟨o - n,by rw [show ((o:Int) - n)=((o - n:Nat):Int) by omega];rfl,rfl,by rw [if_pos (by omega)],by omega⟩
   refine Ab ?_;refine Ah ?_;refine Qs ?_;exact ⟨o,rfl,rfl,by rw [if_neg (by omega)],by omega⟩
  rintro e w5 ⟨q,rfl,rfl,hq,hq2⟩;rw [<- hq] at hst;have hH4:=hH3.front 1 rfl;simp only [Xg,Xh] at hH4;refine Vb [0,1,8,9,10,11] [(0,0),(1,0),(2,0),(3,0),(4,0),(5,0),(6,0),(7,0),(8,0),(9,0),(10,0),(12,0),(13,0),(14,0),(11,1),(15,1),(16,0),(17,2),(18,0),(19,2)] fun K hK=>?_;(repeat (first | (refine ⟨_,B2 (hH4.at 0 rfl) (by omega),?_⟩;(try refine Qs ?_)) | refine Qo ?_ | refine Qp ?_));refine Af ?_;refine Qs ?_;refine C3 hH4 0 (o:=(i0+k)) rfl (by first | rfl | (simp;done) | (congr 1;omega)) (by first | omega | (simp;omega)) fun w6 hH5=>?_;simp only [Yc] at hH5;(try refine Qs ?_);(repeat (first | (refine ⟨_,B2 (hH4.at 0 rfl) (by omega),?_⟩;(try refine Qs ?_)) | refine Qo ?_ | refine Qp ?_));refine Af ?_;refine Qs ?_;refine C3 hH5 0 (o:=(a+q)) rfl (by first | rfl | (simp;done) | (congr 1;omega)) (by first | omega | (simp;omega)) fun w6 hH6=>?_;simp only [Yc] at hH6;(try refine Qs ?_);have hH7:Heap w0 B w6 (Aw g cap (swp d1 (i0+k) (a+q))::Q0 s r1::R::G):=hH6;have hH8:=hH7.front 1 rfl;simp only [Xg,Xh] at hH8;apply hK;clear hK;refine Ao ?_;refine VS [0,1,8,9,10,11] ?_;refine Ah ?_;refine Qs ?_;refine ⟨3 - (k+1),by omega,k+1,by rw [show (((i0+k:Nat):Int)+1)=((i0+(k+1):Nat):Int) by omega];rfl,?_,?_,?_,by omega,rfl⟩
  ·
   rw [hst];exact hH8
  ·
   rw [hst];rw [Kr];exact hs1
  rw [hst];exact hQ1.swp (by omega) (by omega)
 obtain rfl:k=3:=by omega
 refine As rfl ?_;refine Qe (I8 rfl ?_);exact ⟨_,hbp.symm,hs1,hQ1,(hH.sub (by simp)),rfl⟩
open Go Go.Eng
open Go.Sort (swp scanUp scanDown partLoop partition partEqLoop partitionEqual)
theorem Qdw {p:Int->Bool}{d:Array Int}{j i:Nat} (h:i<=j) (hb:true=(decide (i<=j) && p d[i]!)):scanUp p d j i=scanUp p d j (i+1):=by
 conv=>lhs;rw [scanUp]
 rw [if_pos hb.symm]
theorem Qbe {p:Int->Bool}{d:Array Int}{j i:Nat} (hb:false=(decide (i<=j) && p d[i]!)):scanUp p d j i=i:=by
 rw [scanUp,if_neg (by rw [<- hb];simp)]
theorem Qbf {p:Int->Bool}{d:Array Int}{j i:Nat} (h:0 < j) (hb:true=(decide (i<=j) && p d[j]!)):scanDown p d i j=scanDown p d i (j - 1):=by
 obtain ⟨k,rfl⟩:∃ k,j=k+1:=⟨j - 1,by omega⟩
 conv=>lhs;rw [scanDown]
 rw [if_pos hb.symm];rfl
theorem Qaj {p:Int->Bool}{d:Array Int}{j i:Nat} (hb:false=(decide (i<=j) && p d[j]!)):scanDown p d i j=j:=by
 cases j with
 | zero=>rfl
 | succ k=>rw [scanDown,if_neg (by rw [<- hb];simp)]
theorem Qnj {lt:Int->Int->Bool}{a i j i2 j2:Nat}{d:Array Int} (h1:i2=scanUp (fun x=>! lt d[a]! x) d j i) (h2:j2=scanDown (fun x=>lt d[a]! x) d i2 j) (h:i2 > j2):partEqLoop lt a i j d=(i2,d):=by
 rw [partEqLoop];simp only [<- h1,<- h2];rw [if_pos h]
theorem Qvp {lt:Int->Int->Bool}{a i j i2 j2:Nat}{d:Array Int} (h1:i2=scanUp (fun x=>! lt d[a]! x) d j i) (h2:j2=scanDown (fun x=>lt d[a]! x) d i2 j) (h:¬ i2 > j2) (h3:i<=i2) (h4:j2<=j) (h5:1<=j2):partEqLoop lt a i j d=partEqLoop lt a (i2+1) (j2 - 1) (swp d i2 j2):=by
 conv=>lhs;rw [partEqLoop]
 simp only [<- h1,<- h2];rw [if_neg h,dif_pos (by omega)]
theorem Qvq {lt:Int->Int->Bool}{a i j i2 j2:Nat}{d:Array Int} (h1:i2=scanUp (fun x=>lt x d[a]!) d j i) (h2:j2=scanDown (fun x=>! lt x d[a]!) d i2 j) (h:i2 > j2):partLoop lt a i j d=(j2,d):=by
 rw [partLoop];simp only [<- h1,<- h2];rw [if_pos h]
theorem QEa {lt:Int->Int->Bool}{a i j i2 j2:Nat}{d:Array Int} (h1:i2=scanUp (fun x=>lt x d[a]!) d j i) (h2:j2=scanDown (fun x=>! lt x d[a]!) d i2 j) (h:¬ i2 > j2) (h3:i<=i2) (h4:j2<=j) (h5:1<=j2):partLoop lt a i j d=partLoop lt a (i2+1) (j2 - 1) (swp d i2 j2):=by
 conv=>lhs;rw [partLoop]
 simp only [<- h1,<- h2];rw [if_neg h,dif_pos (by omega)]
theorem Qbm {cmp:Value}{cf:Int->Int->Int}{Q:Int->Prop}{R:Res} (hC:Cmp cmp cf Q R) (g cap a b pivot:Nat) (d:Array Int) (hab:a < b) (hb:b<=d.size) (hp:a<=pivot/\pivot < b) (hd:d.size<=1000000000000) (hQ:AllQ Q d) (w0 w:World) (B:List Nat) (G:List Res)
  (hL:Heap w0 B w (Aw g cap d::R::G)):Does Ym 198 #[sl g cap d,.int .i64 a,.int .i64 b,.int .i64 pivot,cmp] w
   fun v w'=>∃ (p:Nat) (d':Array Int),(p,d')=partitionEqual (ltOf cf) d a b pivot/\(a < p/\p<=b)/\d'.size=d.size/\AllQ Q d'/\Heap w0 B w' (Aw g cap d'::R::G)/\v=.int .i64 p:=by
 refine En [sl g cap d,.int .i64 a,.int .i64 b,.int .i64 pivot,cmp] 90 Tryz.func198 ?_;refine VS [0,1,2,3,4] ?_;refine Vb [0,1,2,4] [(0,0),(1,0),(2,0),(3,0),(4,0),(5,0),(6,0),(8,0),(9,0),(10,0),(7,1),(11,1),(12,0),(13,2),(14,0),(15,2)] fun K hK=>?_;(repeat (first | (refine ⟨_,B2 (hL.at 0 rfl) (by omega),?_⟩;(try refine Qs ?_)) | refine Qo ?_ | refine Qp ?_));refine Af ?_;refine Qs ?_;refine C3 hL 0 (o:=(a)) rfl (by first | rfl | (simp;done) | (congr 1;omega)) (by first | omega | (simp;omega)) fun w6 hS1=>?_;simp only [Yc] at hS1;(try refine Qs ?_);(repeat (first | (refine ⟨_,B2 (hL.at 0 rfl) (by omega),?_⟩;(try refine Qs ?_)) | refine Qo ?_ | refine Qp ?_));refine Af ?_;refine Qs ?_;refine C3 hS1 0 (o:=(pivot)) rfl (by first | rfl | (simp;done) | (congr 1;omega)) (by first | omega | (simp;omega)) fun w6 hS2=>?_;simp only [Yc] at hS2;(try refine Qs ?_);have hS0:Heap w0 B w6 (Aw g cap (swp d a pivot)::R::G):=hS2;clear hS1 hS2;apply hK;clear hK;have hs0:(swp d a pivot).size=d.size:=Kr _ _ _;have hQ0:=hQ.swp (i:=a) (j:=pivot) (by omega) (by omega);refine VS [0,1,4,11,12] ?_;refine VB ?_;refine Au [0,1,4,11,12] (fun m e w'=>∃ (i j:Nat) (d':Array Int),Is e [(0,sl g cap d),(1,.int .i64 a),(4,cmp),(11,.int .i64 i),(12,.int .i64 j)]/\Heap w0 B w' (Aw g cap d'::R::G)/\d'.size=d.size/\AllQ Q d'/\a+1<=i/\(i<=j+2/\i<=b/\a<=j)/\j < b/\partEqLoop (ltOf cf) a i j d'=partitionEqual (ltOf cf) d a b pivot/\m=j+1 - i) (b - (a+1)) ?_ ?_
 ·
  refine Qs ?_;exact ⟨a+1,b - 1,_,by rw [show ((b:Int) - 1)=((b - 1:Nat):Int) by omega];rfl,hS0,hs0,hQ0,by omega,by omega,by omega,rfl,by omega⟩
 clear hS0;rintro m0 e w1 ⟨i0,j,d1,rfl,hH,hs1,hQ1,hi0,hij0,hj,hlp,hm0⟩;refine Ar ?_;refine VB ?_;refine Au [0,1,4,11,12] (fun m e w'=>∃ (i:Nat),Is e [(0,sl g cap d),(1,.int .i64 a),(4,cmp),(11,.int .i64 i),(12,.int .i64 j)]/\Heap w0 B w' (Aw g cap d1::R::G)/\i0<=i/\(i<=j+1∨i=i0)/\scanUp (fun x=>! ltOf cf d1[a]! x) d1 j i=scanUp (fun x=>! ltOf cf d1[a]! x) d1 j i0/\m=j+1 - i) (j+1 - i0) ?_ ?_
 ·
  refine Qs ?_;exact ⟨i0,rfl,hH,by omega,by omega,rfl,rfl⟩
 clear hH;rintro m e w2 ⟨i,rfl,hH,hi1,hi2,hsc,hm⟩;refine VL [0,1,4,11,12,47] 13 fun K hK=>?_
 have hall:∀ bb:Bool,∀ w4,bb=(decide (i<=j) && (! ltOf cf d1[a]! d1[i]!))->Heap w0 B w4 (Aw g cap d1::R::G)->K [(0,sl g cap d),(1,.int .i64 a),(4,cmp),(11,.int .i64 i),(12,.int .i64 j),(47,.bool bb)] w4:=by
  clear hH;intro bb w4 hbb hH;apply hK;clear hK;refine Vi (fun h=>?_) (fun h=>?_)
  ·
   subst h;have hij:i<=j:=by simp at hbb;omega
   refine Ab ?_;refine Ar ?_;refine VS [0,1,4,11,12] ?_;refine Ao ?_;refine Ah ?_;refine Qs ?_;refine ⟨j+1 - (i+1),by omega,i+1,rfl,hH,by omega,by omega,?_,rfl⟩;rw [<- hsc,Qdw (p:=fun x=>! ltOf cf d1[a]! x) (i:=i) (j:=j) (by omega) hbb]
  subst h;rw [Qbe hbb] at hsc;clear hbb;refine As rfl ?_;obtain ⟨j0,hj0⟩:∃ j0,j0=j:=⟨_,rfl⟩;subst hj0;refine VB ?_;refine Au [0,1,4,11,12] (fun m e w'=>∃ (j:Nat),Is e [(0,sl g cap d),(1,.int .i64 a),(4,cmp),(11,.int .i64 i),(12,.int .i64 j)]/\Heap w0 B w' (Aw g cap d1::R::G)/\(i<=j+2/\a<=j)/\j<=j0/\scanDown (fun x=>ltOf cf d1[a]! x) d1 i j=scanDown (fun x=>ltOf cf d1[a]! x) d1 i j0/\m=j) (j0) ?_ ?_
  ·
   refine Qs ?_;exact ⟨j0,rfl,hH,by omega,by omega,rfl,rfl⟩
  clear hH;rintro m e w2 ⟨j,rfl,hH,hj1,hj2,hsd,hm⟩;refine VL [0,1,4,11,12,65] 13 fun K hK=>?_
  have hall:∀ bb:Bool,∀ w4,bb=(decide (i<=j) && ltOf cf d1[a]! d1[j]!)->Heap w0 B w4 (Aw g cap d1::R::G)->K [(0,sl g cap d),(1,.int .i64 a),(4,cmp),(11,.int .i64 i),(12,.int .i64 j),(65,.bool bb)] w4:=by
   clear hH;intro bb w4 hbb hH;apply hK;clear hK;refine Vi (fun h=>?_) (fun h=>?_)
   ·
    subst h;have hij:i<=j:=by simp at hbb;omega
    refine Ab ?_;refine Ar ?_;refine VS [0,1,4,11,12] ?_;refine Ao ?_;refine Ah ?_;refine Qs ?_;refine ⟨j - 1,by omega,j - 1,by rw [show ((j:Int) - 1)=((j - 1:Nat):Int) by omega];rfl,hH,by omega,by omega,?_,rfl⟩;rw [<- hsd,Qbf (p:=fun x=>ltOf cf d1[a]! x) (i:=i) (j:=j) (by omega) hbb]
   subst h;rw [Qaj hbb] at hsd;clear hbb;refine As rfl ?_;refine VS [0,1,4,11,12,70] ?_;refine VD (fun h=>?_) (fun h=>?_)
   ·
    rw [Qnj hsc hsd (by omega)] at hlp;refine As rfl ?_;refine VS [10] ?_;exact Ad (A2 rfl rfl ⟨i,d1,hlp,⟨by omega,by omega⟩,hs1,hQ1,hH,rfl⟩)
   rw [Qvp hsc hsd (by omega) (by omega) (by omega) (by omega)] at hlp;refine Ab ?_;refine Vb [0,1,4,11,12] [(0,0),(1,0),(2,0),(3,0),(4,0),(5,0),(6,0),(8,0),(9,0),(10,0),(7,1),(11,1),(12,0),(13,2),(14,0),(15,2)] fun K hK=>?_;(repeat (first | (refine ⟨_,B2 (hH.at 0 rfl) (by omega),?_⟩;(try refine Qs ?_)) | refine Qo ?_ | refine Qp ?_));refine Af ?_;refine Qs ?_;refine C3 hH 0 (o:=(i)) rfl (by first | rfl | (simp;done) | (congr 1;omega)) (by first | omega | (simp;omega)) fun w6 hS1=>?_;simp only [Yc] at hS1;(try refine Qs ?_);(repeat (first | (refine ⟨_,B2 (hH.at 0 rfl) (by omega),?_⟩;(try refine Qs ?_)) | refine Qo ?_ | refine Qp ?_));refine Af ?_;refine Qs ?_;refine C3 hS1 0 (o:=(j)) rfl (by first | rfl | (simp;done) | (congr 1;omega)) (by first | omega | (simp;omega)) fun w6 hS2=>?_;simp only [Yc] at hS2;(try refine Qs ?_);have hS:Heap w0 B w6 (Aw g cap (swp d1 i j)::R::G):=hS2;clear hS1 hS2;apply hK;clear hK;refine VS [0,1,4,11,12] ?_;refine VS [0,1,4,11,12] ?_;refine Ao ?_;refine Ah ?_;refine Qs ?_;exact ⟨j - 1+1 - (i+1),by omega,i+1,j - 1,_,by rw [show ((j:Int) - 1)=((j - 1:Nat):Int) by omega];rfl,hS,by rw [Kr,hs1],hQ1.swp (by omega) (by omega),by omega,by omega,by omega,hlp,rfl⟩
  refine ⟨fun hg=>?_,fun hg=>?_⟩
  ·
   (repeat (first | (refine ⟨_,B2 (hH.at 0 rfl) (by omega),?_⟩;(try refine Qs ?_)) | refine Qo ?_ | refine Qp ?_));refine Cc ?_;refine Qs ?_;refine FnK.to (Cmp.look hC hH (hQ1 _ (by omega)) (hQ1 _ (by omega))) ?_;rintro v w4 ⟨hH2,rfl⟩;(try refine Qs ?_);refine hall _ _ ?_ hH2;simp [ltOf,show i<=j by omega]
  refine hall _ _ ?_ hH;simp [show ¬ i<=j by omega]
 refine ⟨fun hg=>?_,fun hg=>?_⟩
 ·
  (repeat (first | (refine ⟨_,B2 (hH.at 0 rfl) (by omega),?_⟩;(try refine Qs ?_)) | refine Qo ?_ | refine Qp ?_));refine Cc ?_;refine Qs ?_;refine FnK.to (Cmp.look hC hH (hQ1 _ (by omega)) (hQ1 _ (by omega))) ?_;rintro v w4 ⟨hH2,rfl⟩;(try refine Qs ?_);refine hall _ _ ?_ hH2;simp [ltOf,show i<=j by omega]
 refine hall _ _ ?_ hH;simp [show ¬ i<=j by omega]
theorem Qft {cmp:Value}{cf:Int->Int->Int}{Q:Int->Prop}{R:Res} (hC:Cmp cmp cf Q R) (g cap a b pivot:Nat) (d:Array Int) (hab:a < b) (hb:b<=d.size) (hp:a<=pivot/\pivot < b) (hd:d.size<=1000000000000) (hQ:AllQ Q d) (w0 w:World) (B:List Nat) (G:List Res)
  (hL:Heap w0 B w (Aw g cap d::R::G)):Does Ym 199 #[sl g cap d,.int .i64 a,.int .i64 b,.int .i64 pivot,cmp] w
   fun v w'=>∃ (p:Nat) (al:Bool) (d':Array Int),(p,al,d')=partition (ltOf cf) d a b pivot/\(a<=p/\p < b)/\d'.size=d.size/\AllQ Q d'/\Heap w0 B w' (Aw g cap d'::R::G)/\v=.tuple #[.int .i64 p,.bool al]:=by
 refine En [sl g cap d,.int .i64 a,.int .i64 b,.int .i64 pivot,cmp] 178 Tryz.func199 ?_;refine VS [0,1,2,3,4] ?_;refine Vb [0,1,2,4] [(0,0),(1,0),(2,0),(3,0),(4,0),(5,0),(6,0),(8,0),(9,0),(10,0),(7,1),(11,1),(12,0),(13,2),(14,0),(15,2)] fun K hK=>?_;(repeat (first | (refine ⟨_,B2 (hL.at 0 rfl) (by omega),?_⟩;(try refine Qs ?_)) | refine Qo ?_ | refine Qp ?_));refine Af ?_;refine Qs ?_;refine C3 hL 0 (o:=(a)) rfl (by first | rfl | (simp;done) | (congr 1;omega)) (by first | omega | (simp;omega)) fun w6 hS1=>?_;simp only [Yc] at hS1;(try refine Qs ?_);(repeat (first | (refine ⟨_,B2 (hL.at 0 rfl) (by omega),?_⟩;(try refine Qs ?_)) | refine Qo ?_ | refine Qp ?_));refine Af ?_;refine Qs ?_;refine C3 hS1 0 (o:=(pivot)) rfl (by first | rfl | (simp;done) | (congr 1;omega)) (by first | omega | (simp;omega)) fun w6 hS2=>?_;simp only [Yc] at hS2;(try refine Qs ?_);have hH:Heap w0 B w6 (Aw g cap (swp d a pivot)::R::G):=hS2;clear hS1 hS2;apply hK;clear hK;have hs0:(swp d a pivot).size=d.size:=Kr _ _ _;have hQ0:=hQ.swp (i:=a) (j:=pivot) (by omega) (by omega);generalize hd0:swp d a pivot=d0 at *;refine VS [0,1,4,12,13] ?_;obtain ⟨i0,hi00⟩:∃ i0,i0=a+1:=⟨_,rfl⟩;obtain ⟨j,hj00⟩:∃ j,j=b - 1:=⟨_,rfl⟩;rw [show ((b:Int) - 1)=(j:Int) by omega,show ((a:Int)+1)=(i0:Int) by omega];refine VB ?_;refine Au [0,1,4,12,13] (fun m e w'=>∃ (i:Nat),Is e [(0,sl g cap d),(1,.int .i64 a),(4,cmp),(12,.int .i64 i),(13,.int .i64 j)]/\Heap w0 B w' (Aw g cap d0::R::G)/\i0<=i/\(i<=j+1∨i=i0)/\scanUp (fun x=>ltOf cf x d0[a]!) d0 j i=scanUp (fun x=>ltOf cf x d0[a]!) d0 j i0/\m=j+1 - i) (j+1 - i0) ?_ ?_
 ·
  refine Qs ?_;exact ⟨i0,rfl,hH,by omega,by omega,rfl,rfl⟩
 clear hH;rintro m e w2 ⟨i,rfl,hH,hi1,hi2,hsc,hm⟩;refine VL [0,1,4,12,13,47] 13 fun K hK=>?_
 have hall:∀ bb:Bool,∀ w4,bb=(decide (i<=j) && ltOf cf d0[i]! d0[a]!)->Heap w0 B w4 (Aw g cap d0::R::G)->K [(0,sl g cap d),(1,.int .i64 a),(4,cmp),(12,.int .i64 i),(13,.int .i64 j),(47,.bool bb)] w4:=by
  clear hH;intro bb w4 hbb hH;apply hK;clear hK;refine Vi (fun h=>?_) (fun h=>?_)
  ·
   subst h;have hij:i<=j:=by simp at hbb;omega
   refine Ab ?_;refine Ar ?_;refine VS [0,1,4,12,13] ?_;refine Ao ?_;refine Ah ?_;refine Qs ?_;refine ⟨j+1 - (i+1),by omega,i+1,rfl,hH,by omega,by omega,?_,rfl⟩;rw [<- hsc,Qdw (p:=fun x=>ltOf cf x d0[a]!) (i:=i) (j:=j) (by omega) hbb]
  subst h;rw [Qbe hbb] at hsc;clear hbb;refine As rfl ?_;obtain ⟨j0,hj0⟩:∃ j0,j0=j:=⟨_,rfl⟩;subst hj0;refine VB ?_;refine Au [0,1,4,12,13] (fun m e w'=>∃ (j:Nat),Is e [(0,sl g cap d),(1,.int .i64 a),(4,cmp),(12,.int .i64 i),(13,.int .i64 j)]/\Heap w0 B w' (Aw g cap d0::R::G)/\(i<=j+2/\a<=j)/\j<=j0/\scanDown (fun x=>! ltOf cf x d0[a]!) d0 i j=scanDown (fun x=>! ltOf cf x d0[a]!) d0 i j0/\m=j) (j0) ?_ ?_
  ·
   refine Qs ?_;exact ⟨j0,rfl,hH,by omega,by omega,rfl,rfl⟩
  clear hH;rintro m e w2 ⟨j,rfl,hH,hj1,hj2,hsd,hm⟩;refine VL [0,1,4,12,13,66] 13 fun K hK=>?_
  have hall:∀ bb:Bool,∀ w4,bb=(decide (i<=j) && (! ltOf cf d0[j]! d0[a]!))->Heap w0 B w4 (Aw g cap d0::R::G)->K [(0,sl g cap d),(1,.int .i64 a),(4,cmp),(12,.int .i64 i),(13,.int .i64 j),(66,.bool bb)] w4:=by
   clear hH;intro bb w4 hbb hH;apply hK;clear hK;refine Vi (fun h=>?_) (fun h=>?_)
   ·
    subst h;have hij:i<=j:=by simp at hbb;omega
    refine Ab ?_;refine Ar ?_;refine VS [0,1,4,12,13] ?_;refine Ao ?_;refine Ah ?_;refine Qs ?_;refine ⟨j - 1,by omega,j - 1,by rw [show ((j:Int) - 1)=((j - 1:Nat):Int) by omega];rfl,hH,by omega,by omega,?_,rfl⟩;rw [<- hsd,Qbf (p:=fun x=>! ltOf cf x d0[a]!) (i:=i) (j:=j) (by omega) hbb]
   subst h;rw [Qaj hbb] at hsd;clear hbb;refine As rfl ?_;refine VS [0,1,4,12,13,71] ?_
   have hpart:partition (ltOf cf) d a b pivot=if i > j then (j,true,swp d0 j a) else ((partLoop (ltOf cf) a (i+1) (j - 1) (swp d0 i j)).1,false,swp (partLoop (ltOf cf) a (i+1) (j - 1) (swp d0 i j)).2 (partLoop (ltOf cf) a (i+1) (j - 1) (swp d0 i j)).1 a):=by
    simp only [partition,hd0,<- hi00,<- hj00,<- hsc,<- hsd]
   refine VD (fun h=>?_) (fun h=>?_)
   ·
    rw [if_pos (by omega)] at hpart;refine Vb [13] [(0,0),(1,0),(2,0),(3,0),(4,0),(5,0),(6,0),(8,0),(9,0),(10,0),(7,1),(11,1),(12,0),(13,2),(14,0),(15,2)] fun K hK=>?_;(repeat (first | (refine ⟨_,B2 (hH.at 0 rfl) (by omega),?_⟩;(try refine Qs ?_)) | refine Qo ?_ | refine Qp ?_));refine Af ?_;refine Qs ?_;refine C3 hH 0 (o:=(j)) rfl (by first | rfl | (simp;done) | (congr 1;omega)) (by first | omega | (simp;omega)) fun w6 hS1=>?_;simp only [Yc] at hS1;(try refine Qs ?_);(repeat (first | (refine ⟨_,B2 (hH.at 0 rfl) (by omega),?_⟩;(try refine Qs ?_)) | refine Qo ?_ | refine Qp ?_));refine Af ?_;refine Qs ?_;refine C3 hS1 0 (o:=(a)) rfl (by first | rfl | (simp;done) | (congr 1;omega)) (by first | omega | (simp;omega)) fun w6 hS2=>?_;simp only [Yc] at hS2;(try refine Qs ?_);have hS:Heap w0 B w6 (Aw g cap (swp d0 j a)::R::G):=hS2;clear hS1 hS2;apply hK;clear hK;refine VS [10,11] ?_;refine Ad (A7 rfl rfl rfl ?_);exact ⟨j,true,_,hpart.symm,⟨by omega,by omega⟩,by rw [Kr,hs0],hQ0.swp (by omega) (by omega),hS,rfl⟩
   rw [if_neg (by omega)] at hpart;refine Ab ?_;refine Vb [0,1,4,12,13] [(0,0),(1,0),(2,0),(3,0),(4,0),(5,0),(6,0),(8,0),(9,0),(10,0),(7,1),(11,1),(12,0),(13,2),(14,0),(15,2)] fun K hK=>?_;(repeat (first | (refine ⟨_,B2 (hH.at 0 rfl) (by omega),?_⟩;(try refine Qs ?_)) | refine Qo ?_ | refine Qp ?_));refine Af ?_;refine Qs ?_;refine C3 hH 0 (o:=(i)) rfl (by first | rfl | (simp;done) | (congr 1;omega)) (by first | omega | (simp;omega)) fun w6 hS1=>?_;simp only [Yc] at hS1;(try refine Qs ?_);(repeat (first | (refine ⟨_,B2 (hH.at 0 rfl) (by omega),?_⟩;(try refine Qs ?_)) | refine Qo ?_ | refine Qp ?_));refine Af ?_;refine Qs ?_;refine C3 hS1 0 (o:=(j)) rfl (by first | rfl | (simp;done) | (congr 1;omega)) (by first | omega | (simp;omega)) fun w6 hS2=>?_;simp only [Yc] at hS2;(try refine Qs ?_);have hS0:Heap w0 B w6 (Aw g cap (swp d0 i j)::R::G):=hS2;clear hS1 hS2;apply hK;clear hK;refine VS [0,1,4,12,13] ?_;refine VS [0,1,4,12,13] ?_;have hs0':(swp d0 i j).size=d.size:=by rw [Kr,hs0]
   have hQ0':=hQ0.swp (i:=i) (j:=j) (by omega) (by omega);obtain ⟨r,hr⟩:∃ r,partLoop (ltOf cf) a (i+1) (j - 1) (swp d0 i j)=r:=⟨_,rfl⟩;have hpt:∀ x y,r=(x,y)->(x,false,swp y x a)=partition (ltOf cf) d a b pivot:=fun x y h=>by rw [hpart,hr,h]
   clear hpart hsc hsd;obtain ⟨d0',hd0'⟩:∃ d0',swp d0 i j=d0':=⟨_,rfl⟩;rw [hd0'] at hS0 hs0' hQ0' hr;clear hd0';refine VB ?_;refine Au [0,1,4,12,13] (fun m e w'=>∃ (i j:Nat) (d':Array Int),Is e [(0,sl g cap d),(1,.int .i64 a),(4,cmp),(12,.int .i64 i),(13,.int .i64 j)]/\Heap w0 B w' (Aw g cap d'::R::G)/\d'.size=d.size/\AllQ Q d'/\a+1<=i/\(i<=j+2/\i<=b/\a<=j)/\j < b/\partLoop (ltOf cf) a i j d'=r/\m=j+1 - i) (j - 1+1 - (i+1)) ?_ ?_
   ·
    refine Qs ?_;exact ⟨i+1,j - 1,d0',by rw [show ((j:Int) - 1)=((j - 1:Nat):Int) by omega];rfl,hS0,hs0',hQ0',by omega,by omega,by omega,hr,rfl⟩
   clear hS0;rintro m0 e w1 ⟨i0,j,d1,rfl,hH,hs1,hQ1,hi0,hij0,hj,hlp,hm0⟩;refine Ar ?_;refine VB ?_;refine Au [0,1,4,12,13] (fun m e w'=>∃ (i:Nat),Is e [(0,sl g cap d),(1,.int .i64 a),(4,cmp),(12,.int .i64 i),(13,.int .i64 j)]/\Heap w0 B w' (Aw g cap d1::R::G)/\i0<=i/\(i<=j+1∨i=i0)/\scanUp (fun x=>ltOf cf x d1[a]!) d1 j i=scanUp (fun x=>ltOf cf x d1[a]!) d1 j i0/\m=j+1 - i) (j+1 - i0) ?_ ?_
   ·
    refine Qs ?_;exact ⟨i0,rfl,hH,by omega,by omega,rfl,rfl⟩
   clear hH;rintro m e w2 ⟨i,rfl,hH,hi1,hi2,hsc,hm⟩;refine VL [0,1,4,12,13,120] 13 fun K hK=>?_
   have hall:∀ bb:Bool,∀ w4,bb=(decide (i<=j) && ltOf cf d1[i]! d1[a]!)->Heap w0 B w4 (Aw g cap d1::R::G)->K [(0,sl g cap d),(1,.int .i64 a),(4,cmp),(12,.int .i64 i),(13,.int .i64 j),(120,.bool bb)] w4:=by
    clear hH;intro bb w4 hbb hH;apply hK;clear hK;refine Vi (fun h=>?_) (fun h=>?_)
    ·
     subst h;have hij:i<=j:=by simp at hbb;omega
     refine Ab ?_;refine Ar ?_;refine VS [0,1,4,12,13] ?_;refine Ao ?_;refine Ah ?_;refine Qs ?_;refine ⟨j+1 - (i+1),by omega,i+1,rfl,hH,by omega,by omega,?_,rfl⟩;rw [<- hsc,Qdw (p:=fun x=>ltOf cf x d1[a]!) (i:=i) (j:=j) (by omega) hbb]
    subst h;rw [Qbe hbb] at hsc;clear hbb;refine As rfl ?_;obtain ⟨j0,hj0⟩:∃ j0,j0=j:=⟨_,rfl⟩;subst hj0;refine VB ?_;refine Au [0,1,4,12,13] (fun m e w'=>∃ (j:Nat),Is e [(0,sl g cap d),(1,.int .i64 a),(4,cmp),(12,.int .i64 i),(13,.int .i64 j)]/\Heap w0 B w' (Aw g cap d1::R::G)/\(i<=j+2/\a<=j)/\j<=j0/\scanDown (fun x=>! ltOf cf x d1[a]!) d1 i j=scanDown (fun x=>! ltOf cf x d1[a]!) d1 i j0/\m=j) (j0) ?_ ?_
    ·
     refine Qs ?_;exact ⟨j0,rfl,hH,by omega,by omega,rfl,rfl⟩
    clear hH;rintro m e w2 ⟨j,rfl,hH,hj1,hj2,hsd,hm⟩;refine VL [0,1,4,12,13,139] 13 fun K hK=>?_
    have hall:∀ bb:Bool,∀ w4,bb=(decide (i<=j) && (! ltOf cf d1[j]! d1[a]!))->Heap w0 B w4 (Aw g cap d1::R::G)->K [(0,sl g cap d),(1,.int .i64 a),(4,cmp),(12,.int .i64 i),(13,.int .i64 j),(139,.bool bb)] w4:=by
     clear hH;intro bb w4 hbb hH;apply hK;clear hK;refine Vi (fun h=>?_) (fun h=>?_)
     ·
      subst h;have hij:i<=j:=by simp at hbb;omega
      refine Ab ?_;refine Ar ?_;refine VS [0,1,4,12,13] ?_;refine Ao ?_;refine Ah ?_;refine Qs ?_;refine ⟨j - 1,by omega,j - 1,by rw [show ((j:Int) - 1)=((j - 1:Nat):Int) by omega];rfl,hH,by omega,by omega,?_,rfl⟩;rw [<- hsd,Qbf (p:=fun x=>! ltOf cf x d1[a]!) (i:=i) (j:=j) (by omega) hbb]
     subst h;rw [Qaj hbb] at hsd;clear hbb;refine As rfl ?_;refine VS [0,1,4,12,13,144] ?_;refine VD (fun h=>?_) (fun h=>?_)
     ·
      rw [Qvq hsc hsd (by omega)] at hlp;refine As rfl ?_;refine Vb [13] [(0,0),(1,0),(2,0),(3,0),(4,0),(5,0),(6,0),(8,0),(9,0),(10,0),(7,1),(11,1),(12,0),(13,2),(14,0),(15,2)] fun K hK=>?_;(repeat (first | (refine ⟨_,B2 (hH.at 0 rfl) (by omega),?_⟩;(try refine Qs ?_)) | refine Qo ?_ | refine Qp ?_));refine Af ?_;refine Qs ?_;refine C3 hH 0 (o:=(j)) rfl (by first | rfl | (simp;done) | (congr 1;omega)) (by first | omega | (simp;omega)) fun w6 hS1=>?_;simp only [Yc] at hS1;(try refine Qs ?_);(repeat (first | (refine ⟨_,B2 (hH.at 0 rfl) (by omega),?_⟩;(try refine Qs ?_)) | refine Qo ?_ | refine Qp ?_));refine Af ?_;refine Qs ?_;refine C3 hS1 0 (o:=(a)) rfl (by first | rfl | (simp;done) | (congr 1;omega)) (by first | omega | (simp;omega)) fun w6 hS2=>?_;simp only [Yc] at hS2;(try refine Qs ?_);have hS:Heap w0 B w6 (Aw g cap (swp d1 j a)::R::G):=hS2;clear hS1 hS2;apply hK;clear hK;refine VS [10,11] ?_;refine Ad (A7 rfl rfl rfl ?_);exact ⟨j,false,_,hpt _ _ hlp.symm,⟨by omega,by omega⟩,by rw [Kr,hs1],hQ1.swp (by omega) (by omega),hS,rfl⟩
     rw [QEa hsc hsd (by omega) (by omega) (by omega) (by omega)] at hlp;refine Ab ?_;refine Vb [0,1,4,12,13] [(0,0),(1,0),(2,0),(3,0),(4,0),(5,0),(6,0),(8,0),(9,0),(10,0),(7,1),(11,1),(12,0),(13,2),(14,0),(15,2)] fun K hK=>?_;(repeat (first | (refine ⟨_,B2 (hH.at 0 rfl) (by omega),?_⟩;(try refine Qs ?_)) | refine Qo ?_ | refine Qp ?_));refine Af ?_;refine Qs ?_;refine C3 hH 0 (o:=(i)) rfl (by first | rfl | (simp;done) | (congr 1;omega)) (by first | omega | (simp;omega)) fun w6 hS1=>?_;simp only [Yc] at hS1;(try refine Qs ?_);(repeat (first | (refine ⟨_,B2 (hH.at 0 rfl) (by omega),?_⟩;(try refine Qs ?_)) | refine Qo ?_ | refine Qp ?_));refine Af ?_;refine Qs ?_;refine C3 hS1 0 (o:=(j)) rfl (by first | rfl | (simp;done) | (congr 1;omega)) (by first | omega | (simp;omega)) fun w6 hS2=>?_;simp only [Yc] at hS2;(try refine Qs ?_);have hS:Heap w0 B w6 (Aw g cap (swp d1 i j)::R::G):=hS2;clear hS1 hS2;apply hK;clear hK;refine VS [0,1,4,12,13] ?_;refine VS [0,1,4,12,13] ?_;refine Ao ?_;refine Ah ?_;refine Qs ?_;exact ⟨j - 1+1 - (i+1),by omega,i+1,j - 1,_,by rw [show ((j:Int) - 1)=((j - 1:Nat):Int) by omega];rfl,hS,by rw [Kr,hs1],hQ1.swp (by omega) (by omega),by omega,by omega,by omega,hlp,rfl⟩
    refine ⟨fun hg=>?_,fun hg=>?_⟩
    ·
     (repeat (first | (refine ⟨_,B2 (hH.at 0 rfl) (by omega),?_⟩;(try refine Qs ?_)) | refine Qo ?_ | refine Qp ?_));refine Cc ?_;refine Qs ?_;refine FnK.to (Cmp.look hC hH (hQ1 _ (by omega)) (hQ1 _ (by omega))) ?_;rintro v w4 ⟨hH2,rfl⟩;(try refine Qs ?_);refine hall _ _ ?_ hH2;simp [ltOf,show i<=j by omega]
    refine hall _ _ ?_ hH;simp [show ¬ i<=j by omega]
   refine ⟨fun hg=>?_,fun hg=>?_⟩
   ·
    (repeat (first | (refine ⟨_,B2 (hH.at 0 rfl) (by omega),?_⟩;(try refine Qs ?_)) | refine Qo ?_ | refine Qp ?_));refine Cc ?_;refine Qs ?_;refine FnK.to (Cmp.look hC hH (hQ1 _ (by omega)) (hQ1 _ (by omega))) ?_;rintro v w4 ⟨hH2,rfl⟩;(try refine Qs ?_);refine hall _ _ ?_ hH2;simp [ltOf,show i<=j by omega]
   refine hall _ _ ?_ hH;simp [show ¬ i<=j by omega]
  refine ⟨fun hg=>?_,fun hg=>?_⟩
  ·
   (repeat (first | (refine ⟨_,B2 (hH.at 0 rfl) (by omega),?_⟩;(try refine Qs ?_)) | refine Qo ?_ | refine Qp ?_));refine Cc ?_;refine Qs ?_;refine FnK.to (Cmp.look hC hH (hQ0 _ (by omega)) (hQ0 _ (by omega))) ?_;rintro v w4 ⟨hH2,rfl⟩;(try refine Qs ?_);refine hall _ _ ?_ hH2;simp [ltOf,show i<=j by omega]
  refine hall _ _ ?_ hH;simp [show ¬ i<=j by omega]
 refine ⟨fun hg=>?_,fun hg=>?_⟩
 ·
  (repeat (first | (refine ⟨_,B2 (hH.at 0 rfl) (by omega),?_⟩;(try refine Qs ?_)) | refine Qo ?_ | refine Qp ?_));refine Cc ?_;refine Qs ?_;refine FnK.to (Cmp.look hC hH (hQ0 _ (by omega)) (hQ0 _ (by omega))) ?_;rintro v w4 ⟨hH2,rfl⟩;(try refine Qs ?_);refine hall _ _ ?_ hH2;simp [ltOf,show i<=j by omega]
 refine hall _ _ ?_ hH;simp [show ¬ i<=j by omega]
open Go Go.Eng
open Go.Sort (swp scanSorted shiftDown shiftUp partialIns partialInsertionSort)
theorem Qio {lt:Int->Int->Bool}{d:Array Int}{b i:Nat} (hb:true=(decide (i < b) && ! lt d[i]! d[i - 1]!)):scanSorted lt d b i=scanSorted lt d b (i+1):=by
 conv=>lhs;rw [scanSorted]
 rw [if_pos hb.symm]
theorem Qe5 {lt:Int->Int->Bool}{d:Array Int}{b i:Nat} (hb:false=(decide (i < b) && ! lt d[i]! d[i - 1]!)):scanSorted lt d b i=i:=by
 rw [scanSorted,if_neg (by rw [<- hb];simp)]
theorem Qk6 {lt:Int->Int->Bool}{d:Array Int}{j:Nat} (h0:0 < j) (h:lt d[j]! d[j - 1]! = true):shiftDown lt j d=shiftDown lt (j - 1) (swp d j (j - 1)):=by
 obtain ⟨k,rfl⟩:∃ k,j=k+1:=⟨j - 1,by omega⟩;rw [Xb] at *
 conv=>lhs;rw [shiftDown]
 rw [if_neg (by simp [h])]
theorem Qfu {lt:Int->Int->Bool}{d:Array Int}{j:Nat} (h0:0 < j) (h:lt d[j]! d[j - 1]! = false):shiftDown lt j d=d:=by
 obtain ⟨k,rfl⟩:∃ k,j=k+1:=⟨j - 1,by omega⟩;rw [Xb] at *;rw [shiftDown,if_pos (by simp [h])]
theorem Qrj {lt:Int->Int->Bool}{d:Array Int}{b j:Nat} (h0:j < b) (h:lt d[j]! d[j - 1]! = true):shiftUp lt b j d=shiftUp lt b (j+1) (swp d j (j - 1)):=by
 conv=>lhs;rw [shiftUp]
 rw [if_pos h0,if_neg (by simp [h])]
theorem Qk7 {lt:Int->Int->Bool}{d:Array Int}{b j:Nat} (h0:j < b) (h:lt d[j]! d[j - 1]! = false):shiftUp lt b j d=d:=by
 rw [shiftUp,if_pos h0,if_pos (by simp [h])]
theorem Qnk {lt:Int->Int->Bool}{d:Array Int}{b j:Nat} (h0:¬ j < b):shiftUp lt b j d=d:=by
 rw [shiftUp,if_neg h0]
theorem Qae {cmp:Value}{cf:Int->Int->Int}{Q:Int->Prop}{R:Res} (hC:Cmp cmp cf Q R) (g cap a b:Nat) (d:Array Int) (hab:a < b) (hb:b<=d.size) (hd:d.size<=1000000000000) (hQ:AllQ Q d) (w0 w:World) (B:List Nat) (G:List Res)
  (hL:Heap w0 B w (Aw g cap d::R::G)):Does Ym 197 #[sl g cap d,.int .i64 a,.int .i64 b,cmp] w
   fun v w'=>∃ (d':Array Int) (ok:Bool),(d',ok)=partialInsertionSort (ltOf cf) d a b/\d'.size=d.size/\AllQ Q d'/\Heap w0 B w' (Aw g cap d'::R::G)/\v=.bool ok:=by
 refine En [sl g cap d,.int .i64 a,.int .i64 b,cmp] 141 Tryz.func197 ?_;refine VS [0,1,2,3] ?_;refine VS [0,1,2,3,9] ?_;refine VS [0,1,2,3,9,10] ?_;refine Ar ?_;refine Au [0,1,2,3,9,10] (fun m e w'=>∃ (i q:Nat) (d':Array Int),Is e [(0,sl g cap d),(1,.int .i64 a),(2,.int .i64 b),(3,cmp),(9,.int .i64 i),(10,.int .i64 q)]/\Heap w0 B w' (Aw g cap d'::R::G)/\d'.size=d.size/\AllQ Q d'/\a+1<=i/\i<=b/\q<=5/\partialIns (ltOf cf) a b (5 - q) i d'=partialInsertionSort (ltOf cf) d a b/\m=5 - q) 5 ?_ ?_
 ·
  refine Qs ?_;exact ⟨a+1,0,d,rfl,hL,rfl,hQ,by omega,by omega,by omega,rfl,rfl⟩
 rintro m0 e w1 ⟨i0,q,d1,rfl,hH,hs1,hQ1,hi0,hi0b,hq,hpi,hm0⟩;refine VS [0,1,2,3,9,10,16] ?_;refine VD (fun h=>?_) (fun h=>?_)
 ·
  refine Ab ?_;refine VB ?_;refine VB ?_;refine Au [0,1,2,3,9,10] (fun m e w'=>∃ (i:Nat),Is e [(0,sl g cap d),(1,.int .i64 a),(2,.int .i64 b),(3,cmp),(9,.int .i64 i),(10,.int .i64 q)]/\Heap w0 B w' (Aw g cap d1::R::G)/\i0<=i/\i<=b/\scanSorted (ltOf cf) d1 b i=scanSorted (ltOf cf) d1 b i0/\m=b - i) (b - i0) ?_ ?_
  ·
   refine Qs ?_;exact ⟨i0,rfl,hH,by omega,by omega,rfl,rfl⟩
  clear hH;rintro m e w2 ⟨i,rfl,hH,hi1,hi2,hsc,hm⟩;refine VL [0,1,2,3,9,10,36] 14 fun K hK=>?_
  have hall:∀ bb:Bool,∀ w4,bb=(decide (i < b) && ! ltOf cf d1[i]! d1[i - 1]!)->Heap w0 B w4 (Aw g cap d1::R::G)->K [(0,sl g cap d),(1,.int .i64 a),(2,.int .i64 b),(3,cmp),(9,.int .i64 i),(10,.int .i64 q),(36,.bool bb)] w4:=by
   clear hH;intro bb w4 hbb hH;apply hK;clear hK;refine Vi (fun h=>?_) (fun h=>?_)
   ·
    subst h;have hij:i < b:=by simp at hbb;omega
    refine Ab ?_;refine Ar ?_;refine VS [0,1,2,3,9,10] ?_;refine Ao ?_;refine Ah ?_;refine Qs ?_;refine ⟨b - (i+1),by omega,i+1,rfl,hH,by omega,by omega,?_,rfl⟩;rw [<- hsc,Qio (i:=i) hbb]
   subst h;rw [Qe5 hbb] at hsc;clear hbb;refine As rfl ?_;obtain ⟨s,hs⟩:∃ s,5 - q=s+1:=⟨4 - q,by omega⟩;rw [hs,partialIns] at hpi;simp only [<- hsc] at hpi;refine VS [0,1,2,3,9,10,41] ?_;refine VD (fun h=>?_) (fun h=>?_)
   ·
    rw [if_pos (by omega)] at hpi;refine VS [8] ?_;exact Ad (A2 rfl rfl ⟨d1,true,hpi,hs1,hQ1,hH,rfl⟩)
   rw [if_neg (by omega)] at hpi;refine Ab ?_;refine VS [0,1,2,3,9,10,45] ?_;refine VD (fun h=>?_) (fun h=>?_)
   ·
    rw [if_pos (by omega)] at hpi;refine VS [8] ?_;exact Ad (A2 rfl rfl ⟨d1,false,hpi,hs1,hQ1,hH,rfl⟩)
   rw [if_neg (by omega)] at hpi;refine Ab ?_;refine Vb [0,1,2,3,9,10] [(0,0),(1,0),(2,0),(3,0),(4,0),(5,0),(6,0),(7,0),(8,0),(10,0),(11,0),(12,0),(9,1),(13,1),(14,0),(15,2),(16,0),(17,2)] fun K hK=>?_;(repeat (first | (refine ⟨_,B2 (hH.at 0 rfl) (by omega),?_⟩;(try refine Qs ?_)) | refine Qo ?_ | refine Qp ?_));refine Af ?_;refine Qs ?_;refine C3 hH 0 (o:=(i)) rfl (by first | rfl | (simp;done) | (congr 1;omega)) (by first | omega | (simp;omega)) fun w6 hS1=>?_;simp only [Yc] at hS1;(try refine Qs ?_);(repeat (first | (refine ⟨_,B2 (hH.at 0 rfl) (by omega),?_⟩;(try refine Qs ?_)) | refine Qo ?_ | refine Qp ?_));refine Af ?_;refine Qs ?_;refine C3 hS1 0 (o:=(i - 1)) rfl (by first | rfl | (simp;done) | (congr 1;omega)) (by first | omega | (simp;omega)) fun w6 hS2=>?_;simp only [Yc] at hS2;(try refine Qs ?_);have hH1:Heap w0 B w6 (Aw g cap (swp d1 i (i - 1))::R::G):=hS2;have hs2:(swp d1 i (i - 1)).size=d.size:=by rw [Kr,hs1]
   have hQ2:=hQ1.swp (i:=i) (j:=i - 1) (by omega) (by omega);clear hS1 hS2 hH hsc;generalize swp d1 i (i - 1)=d2 at *;apply hK;clear hK;refine VS [0,1,2,3,9,10,65] ?_;refine Dk [0,1,2,3,9,10] (fun e w'=>∃ d':Array Int,Is e [(0,sl g cap d),(1,.int .i64 a),(2,.int .i64 b),(3,cmp),(9,.int .i64 i),(10,.int .i64 q)]/\Heap w0 B w' (Aw g cap d'::R::G)/\d'.size=d.size/\AllQ Q d'/\d'=if i - a ≥ 2 then shiftDown (ltOf cf) (i - 1) d2 else d2) ?_ ?_
   ·
    refine VD (fun h=>?_) (fun h=>?_)
    ·
     refine VS [0,1,2,3,9,10,11] ?_;refine Ar ?_;refine Au [0,1,2,3,9,10,11] (fun m e w'=>∃ (j:Nat) (d':Array Int),Is e [(0,sl g cap d),(1,.int .i64 a),(2,.int .i64 b),(3,cmp),(9,.int .i64 i),(10,.int .i64 q),(11,.int .i64 j)]/\Heap w0 B w' (Aw g cap d'::R::G)/\d'.size=d.size/\AllQ Q d'/\j < b/\shiftDown (ltOf cf) j d'=shiftDown (ltOf cf) (i - 1) d2/\m=j) (i - 1) ?_ ?_
     ·
      refine Qs ?_;exact ⟨i - 1,d2,by rw [show ((i:Int) - 1)=((i - 1:Nat):Int) by omega];rfl,hH1,hs2,hQ2,by omega,rfl,rfl⟩
     clear hH1 hQ2 hs2;rintro m e w7 ⟨j,d3,rfl,hH,hs3,hQ3,hj,hsd,hm⟩;refine VS [0,1,2,3,9,10,11,69] ?_;refine VD (fun h=>?_) (fun h=>?_)
     ·
      refine Ab ?_;refine VB ?_;refine VL [0,1,2,3,9,10,11,84] 10 fun K hK=>?_;(repeat (first | (refine ⟨_,B2 (hH.at 0 rfl) (by omega),?_⟩;(try refine Qs ?_)) | refine Qo ?_ | refine Qp ?_));refine Cc ?_;refine Qs ?_;refine FnK.to (Cmp.look hC hH (hQ3 _ (by omega)) (hQ3 _ (by omega))) ?_;rintro v w4 ⟨hH2,rfl⟩;(try refine Qs ?_);clear hH;apply hK;clear hK;refine Vi (fun h=>?_) (fun h=>?_)
      ·
       simp at h;rw [Qfu (by omega) (by simp [ltOf];omega)] at hsd;refine As rfl ?_;refine Ah ?_;refine Qs ?_;exact ⟨d3,rfl,hH2,hs3,hQ3,by rw [if_pos (by omega),hsd]⟩
      simp at h;rw [Qk6 (by omega) (by simp [ltOf];omega)] at hsd;refine Ab ?_;refine Vb [0,1,2,3,9,10,11] [(0,0),(1,0),(2,0),(3,0),(4,0),(5,0),(6,0),(7,0),(8,0),(10,0),(11,0),(12,0),(9,1),(13,1),(14,0),(15,2),(16,0),(17,2)] fun K hK=>?_;(repeat (first | (refine ⟨_,B2 (hH2.at 0 rfl) (by omega),?_⟩;(try refine Qs ?_)) | refine Qo ?_ | refine Qp ?_));refine Af ?_;refine Qs ?_;refine C3 hH2 0 (o:=(j)) rfl (by first | rfl | (simp;done) | (congr 1;omega)) (by first | omega | (simp;omega)) fun w6 hS1=>?_;simp only [Yc] at hS1;(try refine Qs ?_);(repeat (first | (refine ⟨_,B2 (hH2.at 0 rfl) (by omega),?_⟩;(try refine Qs ?_)) | refine Qo ?_ | refine Qp ?_));refine Af ?_;refine Qs ?_;refine C3 hS1 0 (o:=(j - 1)) rfl (by first | rfl | (simp;done) | (congr 1;omega)) (by first | omega | (simp;omega)) fun w6 hS2=>?_;simp only [Yc] at hS2;(try refine Qs ?_);have hS3:Heap w0 B w6 (Aw g cap (swp d3 j (j - 1))::R::G):=hS2;apply hK;clear hK;refine Ao ?_;refine VS [0,1,2,3,9,10,11] ?_;refine Ah ?_;refine Qs ?_;exact ⟨j - 1,by omega,j - 1,_,by rw [show ((j:Int) - 1)=((j - 1:Nat):Int) by omega];rfl,hS3,by rw [Kr,hs3],hQ3.swp (by omega) (by omega),by omega,hsd,rfl⟩
     obtain rfl:j=0:=by omega
     rw [shiftDown] at hsd;refine As rfl ?_;refine Ah ?_;refine Qs ?_;exact ⟨d3,rfl,hH,hs3,hQ3,by rw [if_pos (by omega),hsd]⟩
    refine Ab ?_;refine Ah ?_;refine Qs ?_;exact ⟨d2,rfl,hH1,hs2,hQ2,by rw [if_neg (by omega)]⟩
   clear hH1 hs2 hQ2;rintro e w8 ⟨d3,rfl,hH,hs3,hQ3,hd3⟩;rw [<- hd3] at hpi;clear hd3;have hs5:5 - (q+1)=s:=by omega
   have hnext:∀ (d4:Array Int) (w9:World),Heap w0 B w9 (Aw g cap d4::R::G)->d4.size=d.size->AllQ Q d4->d4=(if b - i ≥ 2 then shiftUp (ltOf cf) b (i+1) d3 else d3) ->
     ∃ m_1,m_1 < m0/\∃ (i' q':Nat) (d':Array Int),Is [(0,sl g cap d),(1,.int .i64 a),(2,.int .i64 b),(3,cmp),(9,.int .i64 i),(10,.int .i64 (q+1))] [(0,sl g cap d),(1,.int .i64 a),(2,.int .i64 b),(3,cmp),(9,.int .i64 i'),(10,.int .i64 q')]/\Heap w0 B w9 (Aw g cap d'::R::G)/\d'.size=d.size/\AllQ Q d'/\a+1<=i'/\i'<=b/\q'<=5/\partialIns (ltOf cf) a b (5 - q') i' d'=partialInsertionSort (ltOf cf) d a b/\m_1=5 - q':=by
    intro d4 w9 h1 h2 h3 h4;refine ⟨5 - (q+1),by omega,i,q+1,d4,rfl,h1,h2,h3,by omega,by omega,by omega,?_,rfl⟩;rw [hs5,h4,hpi]
   refine VS [0,1,2,3,9,10,104] ?_;refine VD (fun h=>?_) (fun h=>?_)
   ·
    refine VS [0,1,2,3,9,10,12] ?_;refine Ar ?_;refine Au [0,1,2,3,9,10,12] (fun m e w'=>∃ (j:Nat) (d':Array Int),Is e [(0,sl g cap d),(1,.int .i64 a),(2,.int .i64 b),(3,cmp),(9,.int .i64 i),(10,.int .i64 q),(12,.int .i64 j)]/\Heap w0 B w' (Aw g cap d'::R::G)/\d'.size=d.size/\AllQ Q d'/\i+1<=j/\j<=b/\shiftUp (ltOf cf) b j d'=shiftUp (ltOf cf) b (i+1) d3/\m=b - j) (b - (i+1)) ?_ ?_
    ·
     refine Qs ?_;exact ⟨i+1,d3,rfl,hH,hs3,hQ3,by omega,by omega,rfl,rfl⟩
    clear hH hs3 hQ3;rintro m e w9 ⟨j,d4,rfl,hH,hs4,hQ4,hj1,hj2,hsu,hm⟩;refine VS [0,1,2,3,9,10,12,109] ?_;refine VD (fun h=>?_) (fun h=>?_)
    ·
     refine Ab ?_;refine VB ?_;refine VL [0,1,2,3,9,10,12,124] 10 fun K hK=>?_;(repeat (first | (refine ⟨_,B2 (hH.at 0 rfl) (by omega),?_⟩;(try refine Qs ?_)) | refine Qo ?_ | refine Qp ?_));refine Cc ?_;refine Qs ?_;refine FnK.to (Cmp.look hC hH (hQ4 _ (by omega)) (hQ4 _ (by omega))) ?_;rintro v w4 ⟨hH2,rfl⟩;(try refine Qs ?_);clear hH;apply hK;clear hK;refine Vi (fun h=>?_) (fun h=>?_)
     ·
      simp at h;rw [Qk7 (by omega) (by simp [ltOf];omega)] at hsu;refine As rfl ?_;refine Ao ?_;refine VS [0,1,2,3,9,10] ?_;refine Ah ?_;refine Qs ?_;exact hnext _ _ hH2 hs4 hQ4 (by rw [if_pos (by omega),hsu])
     simp at h;rw [Qrj (by omega) (by simp [ltOf];omega)] at hsu;refine Ab ?_;refine Vb [0,1,2,3,9,10,12] [(0,0),(1,0),(2,0),(3,0),(4,0),(5,0),(6,0),(7,0),(8,0),(10,0),(11,0),(12,0),(9,1),(13,1),(14,0),(15,2),(16,0),(17,2)] fun K hK=>?_;(repeat (first | (refine ⟨_,B2 (hH2.at 0 rfl) (by omega),?_⟩;(try refine Qs ?_)) | refine Qo ?_ | refine Qp ?_));refine Af ?_;refine Qs ?_;refine C3 hH2 0 (o:=(j)) rfl (by first | rfl | (simp;done) | (congr 1;omega)) (by first | omega | (simp;omega)) fun w6 hS1=>?_;simp only [Yc] at hS1;(try refine Qs ?_);(repeat (first | (refine ⟨_,B2 (hH2.at 0 rfl) (by omega),?_⟩;(try refine Qs ?_)) | refine Qo ?_ | refine Qp ?_));refine Af ?_;refine Qs ?_;refine C3 hS1 0 (o:=(j - 1)) rfl (by first | rfl | (simp;done) | (congr 1;omega)) (by first | omega | (simp;omega)) fun w6 hS2=>?_;simp only [Yc] at hS2;(try refine Qs ?_);have hS3:Heap w0 B w6 (Aw g cap (swp d4 j (j - 1))::R::G):=hS2;apply hK;clear hK;refine Ao ?_;refine VS [0,1,2,3,9,10,12] ?_;refine Ah ?_;refine Qs ?_;exact ⟨b - (j+1),by omega,j+1,_,rfl,hS3,by rw [Kr,hs4],hQ4.swp (by omega) (by omega),by omega,by omega,hsu,rfl⟩
    rw [Qnk (by omega)] at hsu;refine As rfl ?_;refine Ao ?_;refine VS [0,1,2,3,9,10] ?_;refine Ah ?_;refine Qs ?_;exact hnext _ _ hH hs4 hQ4 (by rw [if_pos (by omega),hsu])
   refine Ab ?_;refine Ao ?_;refine VS [0,1,2,3,9,10] ?_;refine Ah ?_;refine Qs ?_;exact hnext _ _ hH hs3 hQ3 (by rw [if_neg (by omega)])
  refine ⟨fun hg=>?_,fun hg=>?_⟩
  ·
   (repeat (first | (refine ⟨_,B2 (hH.at 0 rfl) (by omega),?_⟩;(try refine Qs ?_)) | refine Qo ?_ | refine Qp ?_));refine Cc ?_;refine Qs ?_;refine FnK.to (Cmp.look hC hH (hQ1 _ (by omega)) (hQ1 _ (by omega))) ?_;rintro v w4 ⟨hH2,rfl⟩;(try refine Qs ?_);refine hall _ _ ?_ hH2;simp [ltOf,show i < b by omega]
  refine hall _ _ ?_ hH;simp [show ¬ i < b by omega]
 obtain rfl:q=5:=by omega
 refine As rfl ?_;refine VS [8] ?_;exact Ad (A2 rfl rfl ⟨d1,false,hpi,hs1,hQ1,hH,rfl⟩)
end Go.Proofs.YtncpabbjpdogjaaGreatDoor
