/- A program logic over the model, and what this program's functions do by it: part 5. No conditions: a library of lemmas. -/
import Derived.Test.YtfinjnahapbemaaGreatDoorK4
import Derived.Shelf.SlSortCmp.WholeK
import Derived.Test.YtfinjnahapbemaaGreatDoorChecked
open Nat (reduceEqDiff)
set_option linter.unusedSimpArgs false
set_option linter.unusedVariables false
set_option maxRecDepth 100000
open List renaming replicate->Ya,getElem?_eq_getElem->Yb,getD_eq_getElem?_getD->Yc,set_cons_zero->Yd,range->Yg,nil_append->Yh,append_assoc->Yi,set_cons_succ->Yj,append_nil->Yk,length_append->Yl,getElem?_eq_none->Ym,length_singleton->Yn,getElem?_map->Yr,getElem?_range->Yv,take_of_length_le->Yw,cons_append->Yx,singleton_append->Yy,ext_getElem?->Yz,mem_of_getElem?->Y0,mem_map->Y2,getElem?_replicate->Y3,length_range->Y4,eq_nil_of_length_eq_zero->Y5,length_cons->Y7,drop_of_length_le->Xb,map_congr_left->Xc,drop_eq_getElem_cons->Xe,pairwise_iff_getElem->Xf,getElem?_append_left->Xg,getElem?_eq_some_iff->Xh,length_replicate->Xi,getElem_mem->Xk,mem_range->Xl,getElem?_drop->Xm,take_add_one->Xo,length->Xp,getElem?_set->Xr,replicate_zero->Xs,replicate_succ->Xt,length_drop->Xu,getElem?_zipWith->Xx,pairwise_map->Xy,getElem?_append_right->X1,perm_append_singleton->X2,nodup_range->X3,map_map->X4,sublist_append_right->X6,getElem_of_mem->X7,length_map->X8,range_succ->X9,mem_append->Ua,length_nil->Ub,mem_singleton->Ud,flatMap_cons->Ug,sublist_cons_self->Ui,replicate_append_replicate->Uj,set_append_right->Uk,perm_append_comm->Ul,length_take->Uo,replicate_succ'->Up,map_append->Uq,take_succ_cons->Ur,length_pos_iff->Us,take_zero->Uv,getLastD_eq_getLast?->Ux,flatten_cons->Uz,filter_cons_of_neg->U0,ext_getElem->U1,getElem_map->U2,pairwise_lt_range->U6,getElem_cons_zero->U8,getElem_cons_succ->U9,length_set->Gf,take_append_drop->Gg,countP_le_length->Gh,map_id->Gi,getElem_toArray->Gj,drop_drop->Gl,mem_of_mem_take->Gm,idxOf_le_length->Gp,count_le_length->Gq,getElem_range->Gu,count_append->Gw
open Go.Eng.Res renaming blk->Ye,row->Yf
open Go.Eng.CallK renaming mk->Yo
open Go.Obj renaming cells->Yp
open Go.Proofs.Tryz renaming prog->Yq,underlying223->Yu,f182->Xa,underlying69->Xq,call108->Uh,underlying227->Uw,underlying9->U3,underlying317->Gv
open Int renaming toNat_natCast->Ys,toNat->Un,one_mul->Gn
open Go.Value renaming oneCell'->Yt,int->Y6,slice->Y8,string->Xw,cells->Uf,agg->U4
open Nat renaming le_refl->Y1,mod_eq_of_lt->Xj,pow_le_pow_right->X0,sub_self->X5,add_sub_cancel->Uc,xor_lt_two_pow->Ue,add_zero->Ut,lt_or_ge->Uu,or_lt_two_pow->Uy,add_sub_cancel_left->U5,mod_lt->U7,le_trans->Gb,zero_add->Gd,mul_le_mul_right->Gr,add_assoc->Gs
open Go.Eng.Heap renaming start->Y9
open Go.IntKind renaming i64->Xd,u32->Xz,bits->Ga
open Go.Eng.I64 renaming mk->Xn
open Option renaming getD_some->Xv
open Bool renaming and_eq_true->Um,or_false->Gt
open UInt8 renaming toNat_inj->Ge,ofNat->Gk
namespace Go.Proofs.YtfinjnahapbemaaGreatDoor
def Fd:LB->LB->Bool
 | [],_=>true
 | _::_,[]=>false
 | a::l,b::m=>if a=b then Fd l m else decide (a.toNat < b.toNat)
theorem Vv:∀ l,Fd l l=true
 | []=>rfl
 | a::l=>by simp [Fd,Vv l]
theorem Qdo:∀ l m,Fd l m=true->Fd m l=true->l=m
 | [],[],_,_=>rfl
 | [],_::_,_,h=>by simp [Fd] at h
 | _::_,[],h,_=>by simp [Fd] at h
 | a::l,b::m,h1,h2=>by
  simp only [Fd] at h1 h2;by_cases h:a=b
  ·
   subst h;simp at h1 h2;rw [Qdo l m h1 h2]
  simp [h,Ne.symm h] at h1 h2;omega
theorem Qp1:∀ (l m:LB) (c:UInt8),l.length=m.length->Fd (l++[c]) (m++[c])=true->Fd l m=true
 | [],_,_,_,_=>rfl
 | _::_,[],_,h,_=>by simp at h
 | a::l,b::m,c,hl,h=>by
  simp only [Yx,Fd] at h ⊢;by_cases hab:a=b
  ·
   subst hab;simp at h ⊢;exact Qp1 l m c (by simpa using hl) h
  simp [hab] at h ⊢;exact h
def Cq (s:LB) (i:Nat):LB:=s.drop i++s.take i
theorem Qse (s:LB) (i:Nat):(Cq s i).length=s.length:=by simp [Cq];omega
theorem Qzz (s:LB):Cq s 0=s:=by simp [Cq]
def Wx:LB->LB
 | []=>[]
 | a::l=>l++[a]
theorem Qiv (s:LB) (i:Nat) (h:i < s.length):Cq s (i+1)=Wx (Cq s i):=by
 have e:s.drop i=s[i]::s.drop (i+1):=Xe h;rw [Cq,Cq,e,Yx,Wx,Yi]
 congr 1
 rw [Xo,Yb h];rfl
theorem Qz0 (s:LB):Cq s s.length=s:=by simp [Cq]
theorem Qp2 (s:LB) (i:Nat) (h:i < s.length):(Cq s i).head? = some (s.getD i 0):=by
 rw [Cq,Xe h,Yc,Yb h];rfl
structure Ordered (s:LB) (σ:LN):Prop where
 perm:σ.Perm (Yg s.length)
 sorted:σ.Pairwise fun i j=>Fd (Cq s i) (Cq s j)=true/\(Cq s i=Cq s j->i < j)
theorem Ordered.unique {s:LB}{σ τ:LN} (h:Ordered s σ) (k:Ordered s τ):σ=τ:=by
 refine List.Perm.eq_of_pairwise (le:=fun i j=>Fd (Cq s i) (Cq s j)=true/\(Cq s i=Cq s j->i < j)) (fun a b _ _ h1 h2=>?_) h.sorted k.sorted (h.perm.trans k.perm.symm);have e:=Qdo _ _ h1.1 h2.1;have:=h1.2 e;have:=h2.2 e.symm;omega
def D0 (n i:Nat):Nat:=if i=0 then n - 1 else i - 1
theorem Qwo (s:LB) (i:Nat) (h:i < s.length):Cq s i=Wx (Cq s (D0 s.length i)):=by
 unfold D0;by_cases h0:i=0
 ·
  subst h0;rw [if_pos rfl,<- Qiv s (s.length - 1) (by omega),show s.length - 1+1=s.length by omega,Qz0,Qzz]
 rw [if_neg h0,<- Qiv s (i - 1) (by omega),show i - 1+1=i by omega]
def Cb (s:LB) (σ:LN):LB:=σ.map fun i=>s.getD (D0 s.length i) 0
def Lc (L:LB):LN:=(Yg 256).flatMap fun b=>(Yg L.length).filter fun i=>(L.getD i 0).toNat == b
theorem Qbu (L:LB):(Lc L).Perm (Yg L.length):=by
 unfold Lc;generalize hn:Yg L.length=xs;clear hn
 induction xs with
 | nil=>simp
 | cons x xs ih =>
  have h1:∀ (bs:LN),bs.Nodup->(L.getD x 0).toNat∈bs ->
    (bs.flatMap fun b=>(x::xs).filter fun i=>(L.getD i 0).toNat == b).Perm (x::bs.flatMap fun b=>xs.filter fun i=>(L.getD i 0).toNat == b):=by
   intro bs
   induction bs with
   | nil=>intro _ h;simp at h
   | cons b bs ihb =>
    intro hnd hm;rw [List.nodup_cons] at hnd;simp only [Ug];by_cases hb:(L.getD x 0).toNat=b
    ·
     have hno:∀ b'∈bs,((x::xs).filter fun i=>(L.getD i 0).toNat == b')=xs.filter fun i=>(L.getD i 0).toNat == b':=by
      intro b' hb';rw [U0];simp only [beq_iff_eq];intro h;exact hnd.1 (by rw [<- hb,h];exact hb')
     rw [List.filter_cons_of_pos (by simpa using hb)]
     have e:(bs.flatMap fun b'=>(x::xs).filter fun i=>(L.getD i 0).toNat == b')=bs.flatMap fun b'=>xs.filter fun i=>(L.getD i 0).toNat == b':=by
      have:∀ (l:LN),(∀ b'∈l,((x::xs).filter fun i=>(L.getD i 0).toNat == b')=xs.filter fun i=>(L.getD i 0).toNat == b')->(l.flatMap fun b'=>(x::xs).filter fun i=>(L.getD i 0).toNat == b')=l.flatMap fun b'=>xs.filter fun i=>(L.getD i 0).toNat == b':=by
       intro l
       induction l with
       | nil=>intro _;rfl
       | cons c l ihl=>intro h;rw [Ug,Ug,h c (by simp),ihl fun b' hb'=>h b' (by simp [hb'])]
      exact this bs hno
     rw [e];exact List.Perm.refl _
    rw [U0 (by simpa using hb)]
    have hm':(L.getD x 0).toNat∈bs:=by
     rcases List.mem_cons.1 hm with h | h
     ·
      exact absurd h hb
     exact h
    refine (List.Perm.append_left _ (ihb hnd.2 hm')).trans ?_;exact List.perm_middle
  refine (h1 _ X3 (Xl.2 (UInt8.toNat_lt _))).trans (ih.cons x)
theorem Qf1 (L:LB):(Lc L).Pairwise fun i j=>(L.getD i 0).toNat < (L.getD j 0).toNat∨((L.getD i 0).toNat=(L.getD j 0).toNat/\i < j):=by
 unfold Lc;rw [List.pairwise_flatMap];refine ⟨fun b _=>?_,?_⟩
 ·
  have hr:(Yg L.length).Pairwise (· < ·):=U6;have:=hr.filter fun i=>(L.getD i 0).toNat == b;refine this.imp_of_mem fun {i j} hi hj h=>?_;rw [List.mem_filter] at hi hj;simp only [beq_iff_eq] at hi hj;exact .inr ⟨by rw [hi.2,hj.2],h⟩
 refine (U6 (n:=256)).imp fun {b c} h i hi j hj=>?_;rw [List.mem_filter] at hi hj;simp only [beq_iff_eq] at hi hj;exact .inl (by rw [hi.2,hj.2];exact h)
def Ri (L:LB) (pl:LN):Nat->Nat->LB
 | 0,_=>[]
 | n+1,p=>L.getD (pl.getD p 0) 0::Ri L pl n (pl.getD p 0)
theorem QFm (a:UInt8) (l:LB):Wx (a::l)=l++[a]:=rfl
section
variable {s:LB}{σ:LN}
theorem QFn (h:Ordered s σ) {j:Nat} (hj:j < s.length):(Cb s σ).getD j 0=s.getD (D0 s.length (σ.getD j 0)) 0:=by
 have hl:σ.length=s.length:=by rw [h.perm.length_eq,Y4]
 simp only [Cb,Yc,Yr];rw [Yb (by omega)];simp
theorem QLc (h:Ordered s σ) {j:Nat} (hj:j < s.length):σ.getD j 0 < s.length:=by
 have hl:σ.length=s.length:=by rw [h.perm.length_eq,Y4]
 have:σ.getD j 0∈σ:=by
  rw [Yc,Yb (by omega)];simp
 have:=(h.perm.mem_iff).1 this;simpa using this
theorem Qp3 {n i:Nat} (h:i < n):D0 n i < n:=by unfold D0;split <;> omega
theorem Qiw (h:Ordered s σ) {j:Nat} (hj:j < s.length):∃ l,Cq s (σ.getD j 0)=l++[(Cb s σ).getD j 0]/\Cq s (D0 s.length (σ.getD j 0))=(Cb s σ).getD j 0::l:=by
 have h1:=QLc h hj;have h2:=Qwo s _ h1;have h3:=Qp2 s _ (Qp3 h1);cases hr:Cq s (D0 s.length (σ.getD j 0)) with
 | nil=>rw [hr] at h3;simp at h3
 | cons a l =>
  rw [hr] at h2 h3;simp only [List.head?_cons,Option.some.injEq] at h3;rw [QFn h hj,<- h3];exact ⟨l,h2,rfl⟩
theorem Qsf (n:Nat):((Yg n).map (D0 n)).Perm (Yg n):=by
 refine (List.perm_ext_iff_of_nodup ?_ X3).2 fun a=>?_
 ·
  refine List.Pairwise.map _ ?_ (List.pairwise_lt_range.imp_of_mem (S:=fun a b=>a < b/\b < n) fun {a b} ha hb h=>⟨h,by simpa using hb⟩);intro a b h;unfold D0;split <;> split <;> omega
 simp only [Y2,Xl];constructor
 ·
  rintro ⟨i,hi,rfl⟩;exact Qp3 hi
 intro ha;by_cases h:a=n - 1
 ·
  exact ⟨0,by omega,by unfold D0;rw [if_pos rfl];omega⟩
 exact ⟨a+1,by omega,by unfold D0;rw [if_neg (by omega)];omega⟩
theorem Qz1 (σ:LN):(Yg σ.length).map (fun j=>σ.getD j 0)=σ:=by
 apply Yz;intro j;rw [Yr];by_cases h:j < σ.length
 ·
  rw [Yb (by simpa using h)];simp [Yc,h]
 rw [Ym (by simpa using h),Ym (by omega)];rfl
theorem Qwp (h:Ordered s σ):σ.map (Cq s)=(Lc (Cb s σ)).map fun j=>Cq s (D0 s.length (σ.getD j 0)):=by
 have hl:σ.length=s.length:=by rw [h.perm.length_eq,Y4]
 have hcl:(Cb s σ).length=s.length:=by simp [Cb,hl]
 have hpp:=Qbu (Cb s σ);rw [hcl] at hpp;have hmem:∀ j∈Lc (Cb s σ),j < s.length:=fun j hj=>by simpa using (hpp.mem_iff).1 hj
 refine List.Perm.eq_of_pairwise (le:=fun l m=>Fd l m=true) (fun a b _ _ h1 h2=>Qdo a b h1 h2) ?_ ?_ ?_
 ·
  exact List.Pairwise.map _ (fun a b h=>h) (h.sorted.imp fun h=>h.1)
 ·
  refine List.Pairwise.map _ ?_ ((Qf1 (Cb s σ)).imp_of_mem (S:=fun i j=>((((Cb s σ).getD i 0).toNat < ((Cb s σ).getD j 0).toNat∨(((Cb s σ).getD i 0).toNat=((Cb s σ).getD j 0).toNat/\i < j))/\i < s.length)/\j < s.length) fun hi hj h=>⟨⟨h,hmem _ hi⟩,hmem _ hj⟩);rintro i j ⟨⟨hij,hi⟩,hj⟩;obtain ⟨l,e1,e2⟩:=Qiw h hi;obtain ⟨m,f1,f2⟩:=Qiw h hj;rw [e2,f2];simp only [Fd];rcases hij with hlt | ⟨he,hlt⟩
  ·
   have:(Cb s σ).getD i 0≠(Cb s σ).getD j 0:=fun h'=>by rw [h'] at hlt;omega
   simp only [this,if_false];simpa using hlt
  have he':(Cb s σ).getD i 0=(Cb s σ).getD j 0:=Ge.1 he;rw [if_pos he'];have hs:=Xf.1 h.sorted i j (by omega) (by omega) hlt;have g1:σ[i]'(by omega)=σ.getD i 0:=by rw [Yc,Yb (by omega)];rfl
  have g2:σ[j]'(by omega)=σ.getD j 0:=by rw [Yc,Yb (by omega)];rfl
  rw [g1,g2,e1,f1,he'] at hs;refine Qp1 l m _ ?_ hs.1;have a1:=congrArg Xp e1;have a2:=congrArg Xp f1;simp [Qse] at a1 a2;omega
 have p1:(σ.map (Cq s)).Perm ((Yg s.length).map (Cq s)):=h.perm.map _;have p2:((Lc (Cb s σ)).map fun j=>Cq s (D0 s.length (σ.getD j 0))).Perm ((Yg s.length).map fun j=>Cq s (D0 s.length (σ.getD j 0))):=hpp.map _;refine p1.trans (List.Perm.trans ?_ p2.symm)
 have e1:((Yg s.length).map fun j=>Cq s (D0 s.length (σ.getD j 0)))=(σ.map (D0 s.length)).map (Cq s):=by
  rw [<- hl]
  conv=>rhs;rw [<- Qz1 σ]
  simp [X4,Function.comp_def,hl]
 rw [e1];exact (((h.perm.map (D0 s.length)).trans (Qsf s.length)).symm).map _
theorem Qt4 (h:Ordered s σ):∀ (n p i:Nat),p < s.length->i < s.length->Cq s (σ.getD p 0)=Cq s i->i+n<=s.length ->
  Ri (Cb s σ) (Lc (Cb s σ)) n p=(s.drop i).take n
 | 0,_,_,_,_,_,_=>by simp [Ri]
 | n+1,p,i,hp,hi,hr,hn=>by
  have hl:σ.length=s.length:=by rw [h.perm.length_eq,Y4]
  have hcl:(Cb s σ).length=s.length:=by simp [Cb,hl]
  have hpp:=Qbu (Cb s σ);rw [hcl] at hpp;have hpl:(Lc (Cb s σ)).length=s.length:=by rw [hpp.length_eq,Y4]
  generalize hq:(Lc (Cb s σ)).getD p 0=q
  have hqlt:q < s.length:=by
   have:q∈Lc (Cb s σ):=by
    rw [<- hq,Yc,Yb (by omega)];simp
   simpa using (hpp.mem_iff).1 this
  have hb:=congrArg (fun l=>l[p]?) (Qwp h);simp only [Yr] at hb;rw [Yb (by omega),Yb (by omega)] at hb;simp only [Option.map_some,Option.some.injEq] at hb;have g1:σ[p]'(by omega)=σ.getD p 0:=by rw [Yc,Yb (by omega)];rfl
  have g2:(Lc (Cb s σ))[p]'(by omega)=q:=by rw [<- hq,Yc,Yb (by omega)];rfl
  rw [g1,g2,hr] at hb;obtain ⟨l,e1,e2⟩:=Qiw h hqlt;rw [e2] at hb;have hd:=Qp2 s i hi;rw [hb] at hd;simp only [List.head?_cons,Option.some.injEq] at hd;have hnext:Cq s (σ.getD q 0)=Wx (Cq s i):=by rw [hb,QFm,e1]
  rw [Ri,hq,hd,Xe hi,Ur];have e3:s.getD i 0=s[i]:=by rw [Yc,Yb hi];rfl
  rw [e3]
  congr 1
  by_cases hlast:i+1=s.length
  ·
   have:n=0:=by omega
   subst this;simp [Ri]
  exact Qt4 h n q (i+1) hqlt (by omega) (by rw [hnext,Qiv s i hi]) (by omega)
theorem Qz2 (h:Ordered s σ) (hs:s≠[]):Ri (Cb s σ) (Lc (Cb s σ)) s.length (σ.idxOf 0)=s:=by
 have hl:σ.length=s.length:=by rw [h.perm.length_eq,Y4]
 have hn:0 < s.length:=Us.2 hs;have hm:0∈σ:=(h.perm.mem_iff).2 (by simpa using hn);have hr:σ.idxOf 0 < σ.length:=List.idxOf_lt_length_iff.2 hm
 have hg:σ.getD (σ.idxOf 0) 0=0:=by
  rw [Yc,Yb hr];simp
 have:=Qt4 h s.length (σ.idxOf 0) 0 (by omega) hn (by rw [hg]) (by omega);simpa using this
end
open Go Go.Eng
def pre (s:LB) (m i:Nat):LB:=(Yg m).map fun t=>s.getD ((i+t) % s.length) 0
theorem Zp (s:LB) (m i:Nat):(pre s m i).length=m:=by simp [pre]
theorem Qf5 (s:LB) (a b i:Nat):pre s (a+b) i=pre s a i++pre s b ((i+a) % s.length):=by
 simp only [pre,List.range_add,Uq,X4]
 congr 1
 apply Xc;intro t _;simp only [Function.comp]
 congr 1
 rw [Nat.mod_add_mod,Gs]
theorem Qch:∀ {a c:LB} (b d:LB),a.length=c.length->Fd (a++b) (c++d)=if a=c then Fd b d else Fd a c
 | [],[],_,_,_=>by simp
 | [],_::_,_,_,h=>by simp at h
 | _::_,[],_,_,h=>by simp at h
 | x::a,y::c,b,d,h=>by
  have ih:=Qch (a:=a) (c:=c) b d (by simpa using h);by_cases hxy:x=y
  ·
   subst hxy;simp only [Yx,Fd,if_true,ih,List.cons.injEq,true_and]
  simp [Fd,hxy]
theorem Qf6 (s:LB) (i:Nat) (hi:i < s.length):pre s s.length i=Cq s i:=by
 apply U1
 ·
  simp [pre,Cq];omega
 intro t h1 h2;simp only [pre,X8,Y4] at h1;simp only [pre,Cq,U2,Gu,List.getElem_append,Xu,List.getElem_drop,List.getElem_take];split
 ·
  rename_i h;rw [Xj (by omega),Yc,Yb (by omega),Xv]
 rename_i h
 have e:(i+t) % s.length=t - (s.length - i):=by
  rw [Nat.mod_eq_sub_mod (by omega),Xj (by omega)];omega
 rw [e,Yc,Yb (by omega),Xv]
theorem Qsg (s:LB) (m i j:Nat) (hi:i < s.length) (hj:j < s.length) (h:Cq s i=Cq s j):pre s m i=pre s m j:=by
 rw [<- Qf6 s i hi,<- Qf6 s j hj] at h;unfold pre at h ⊢;apply Xc;intro t _;have ht:t % s.length < s.length:=U7 _ (by omega);have h1:=(List.map_inj_left.1 h) (t % s.length) (by simpa using ht)
 rwa [Nat.add_mod_mod,Nat.add_mod_mod] at h1
def Ranks (s:LB) (rk:List Int) (m:Nat):Prop:=rk.length=s.length/\∀ i j,i < s.length->j < s.length->(rk.getD i 0<=rk.getD j 0 ↔ Fd (pre s m i) (pre s m j)=true)
def Od (rk:List Int) (by_:Nat) (x y:Int):Prop:=Ij rk x < Ij rk y∨(Ij rk x=Ij rk y/\Kd rk by_ x<=Kd rk by_ y)
def LeK (s:LB) (rk:List Int) (by_ m:Nat):Prop:=rk.length=s.length/\∀ i j:Nat,i < s.length->j < s.length->(Od rk by_ i j ↔ Fd (pre s m i) (pre s m j)=true)
theorem Ranks.eq {s:LB}{rk:List Int}{m:Nat} (h:Ranks s rk m) {i j:Nat} (hi:i < s.length) (hj:j < s.length):rk.getD i 0=rk.getD j 0 ↔ pre s m i=pre s m j:=by
 constructor
 ·
  intro e;exact Qdo _ _ ((h.2 i j hi hj).1 (by omega)) ((h.2 j i hj hi).1 (by omega))
 intro e;have h1:=(h.2 i j hi hj).2 (by rw [e];exact Vv _);have h2:=(h.2 j i hj hi).2 (by rw [e];exact Vv _);omega
theorem LeK.first {s:LB}{rk:List Int} (h:Ranks s rk 1):LeK s rk 0 1:=by
 refine ⟨h.1,fun i j hi hj=>?_⟩;have hn:=h.1;rw [<- h.2 i j hi hj];simp only [Od,Ij,Kd,Ys,Ut,hn,Xj hi,Xj hj];omega
theorem LeK.double {s:LB}{rk:List Int}{c:Nat} (h:Ranks s rk c):LeK s rk c (c+c):=by
 refine ⟨h.1,fun i j hi hj=>?_⟩;have hn:=h.1;have h0:0 < s.length:=by omega
 rw [Qf5,Qf5,Qch _ _ (by rw [Zp,Zp])];have hi2:(i+c) % s.length < s.length:=U7 _ h0;have hj2:(j+c) % s.length < s.length:=U7 _ h0;have e1:=h.eq hi hj;have e2:=h.2 i j hi hj;have e3:=h.2 _ _ hi2 hj2;simp only [Od,Ij,Kd,Ys,hn];split
 ·
  rename_i hp;rw [<- e3];have:=e1.2 hp;omega
 rename_i hp;rw [<- e2];have:¬ rk.getD i 0=rk.getD j 0:=fun h'=>hp (e1.1 h');omega
def Lp (rk:List Int) (by_:Nat) (x y:Int):Bool:=decide (Ij rk x=Ij rk y) && decide (Kd rk by_ x=Kd rk by_ y)
def Fu (rk:List Int) (by_:Nat) (L:List Int):Nat->Nat
 | 0=>0
 | k+1=>Fu rk by_ L k+if Lp rk by_ (L.getD k 0) (L.getD (k+1) 0) then 0 else 1
theorem Qmt (rk:List Int) (by_:Nat) (L:List Int):∀ k,Fu rk by_ L k<=k
 | 0=>by simp [Fu]
 | k+1=>by have:=Qmt rk by_ L k;simp only [Fu];split <;> omega
theorem Qed (rk:List Int) (by_:Nat) (L:List Int) {p q:Nat} (h:p<=q):Fu rk by_ L p<=Fu rk by_ L q:=by
 induction q with
 | zero =>
  obtain rfl:p=0:=by omega
  exact Y1 _
 | succ q ih =>
  by_cases hp:p=q+1
  ·
   rw [hp];exact Y1 _
  have:=ih (by omega);simp only [Fu];omega
def Quq (rk:List Int) (by_:Nat) (L:List Int):Prop:=∀ p q,p<=q->q < L.length->Od rk by_ (L.getD p 0) (L.getD q 0)
theorem QFo {rk:List Int}{by_:Nat}{L:List Int} (hL:Quq rk by_ L) {p q:Nat} (h:p<=q) (hq:q < L.length):Fu rk by_ L p=Fu rk by_ L q ↔ Lp rk by_ (L.getD p 0) (L.getD q 0)=true:=by
 induction q with
 | zero =>
  obtain rfl:p=0:=by omega
  simp [Lp]
 | succ q ih =>
  by_cases hp:p=q+1
  ·
   subst hp;simp [Lp]
  have ih:=ih (by omega) (by omega);have hm:=Qed rk by_ L (show p<=q by omega);have h1:=hL p q (by omega) (by omega);have h2:=hL q (q+1) (by omega) hq;simp only [Fu];simp only [Lp,Um,decide_eq_true_eq,Od] at *;split
  ·
   rename_i h3;simp only [Ut];rw [ih];omega
  rename_i h3;constructor
  ·
   intro h4;omega
  intro h4;exfalso;apply h3;omega
theorem Qsh {rk:List Int}{by_:Nat}{L:List Int} (hL:Quq rk by_ L) {p q:Nat} (hp:p < L.length) (hq:q < L.length):Fu rk by_ L p<=Fu rk by_ L q ↔ Od rk by_ (L.getD p 0) (L.getD q 0):=by
 by_cases h:p<=q
 ·
  exact ⟨fun _=>hL p q h hq,fun _=>Qed rk by_ L h⟩
 have h1:=hL q p (by omega) hp;have h2:=Qed rk by_ L (show q<=p by omega);have h3:=QFo hL (show q<=p by omega) hp;simp only [Lp,Um,decide_eq_true_eq,Od] at *;constructor
 ·
  intro h4;have:=h3.1 (by omega);omega
 intro h4;have:=h3.2 (by omega);omega
def F6 (n:Nat):List Int:=(Yg n).map fun i:Nat=>(i:Int)
theorem QAx {rk:List Int}{by_:Nat}{x y:Int} (h:ltOf (K7 rk by_) y x=false):Od rk by_ x y/\(Lp rk by_ x y=true->x<=y):=by
 have h1:=Rd rk by_ y x;have h2:¬ K7 rk by_ y x < 0:=of_decide_eq_false h;simp only [Od,Lp,Um,decide_eq_true_eq];constructor
 ·
  omega
 omega
theorem Qz3 {rk:List Int}{by_:Nat}{L:List Int} (h:L.Pairwise fun x y=>ltOf (K7 rk by_) y x=false):Quq rk by_ L:=by
 intro p q hpq hq;by_cases e:p=q
 ·
  subst e;right;exact ⟨rfl,Int.le_refl _⟩
 have:=(Xf.1 h) p q (by omega) hq (by omega);rw [Yc,Yb (by omega),Yc,Yb hq];exact (QAx this).1
theorem Qmu {L:List Int}{n:Nat} (h:L.Perm (F6 n)) {i:Nat} (hi:i < n):∃ p,p < L.length/\L.getD p 0=i:=by
 have hm:(i:Int)∈L:=h.mem_iff.2 (by simp only [F6,Y2,Xl];exact ⟨i,hi,rfl⟩);obtain ⟨p,hp,he⟩:=X7 hm;exact ⟨p,hp,by rw [Yc,Yb hp];exact he⟩
theorem Qmv {L:List Int}{n:Nat} (h:L.Perm (F6 n)) {p:Nat} (hp:p < L.length):0<=L.getD p 0/\L.getD p 0 < n:=by
 have hm:L.getD p 0∈L:=by rw [Yc,Yb hp];exact Xk hp
 have:=h.mem_iff.1 hm;simp only [F6,Y2,Xl] at this;obtain ⟨i,hi,he⟩:=this;omega
theorem Qp4 {L:List Int}{n:Nat} (h:L.Perm (F6 n)):L.length=n:=by rw [h.length_eq];simp [F6]
theorem Qhz {L:List Int}{n:Nat} (h:L.Perm (F6 n)):L.Nodup:=by
 rw [h.nodup_iff,F6,List.Nodup,Xy];exact (X3 (n:=n)).imp fun {a b} hab h=>hab (by omega)
theorem Qz4 {L:List Int}{n:Nat} (h:L.Perm (F6 n)) {p q:Nat} (hp:p < L.length) (hq:q < L.length) (e:L.getD p 0=L.getD q 0):p=q:=by
 have hnd:=Qhz h;rw [Yc,Yb hp,Yc,Yb hq] at e;exact (List.getElem_inj hnd).1 e
theorem Qsi {s:LB}{rk nx L:List Int}{by_ m:Nat} (hk:LeK s rk by_ m) (hp:L.Perm (F6 s.length)) (hs:Quq rk by_ L) (hl:nx.length=s.length) (hn:∀ p,p < s.length->nx.getD (L.getD p 0).toNat 0=Fu rk by_ L p):Ranks s nx m:=by
 refine ⟨hl,fun i j hi hj=>?_⟩;have hL:=Qp4 hp;obtain ⟨p,hp1,hp2⟩:=Qmu hp hi;obtain ⟨q,hq1,hq2⟩:=Qmu hp hj;have e1:=hn p (by omega);have e2:=hn q (by omega);rw [hp2,Ys] at e1;rw [hq2,Ys] at e2;have h1:=Qsh hs hp1 hq1;rw [hp2,hq2] at h1;rw [e1,e2,<- hk.2 i j hi hj,<- h1];omega
theorem Qot {s:LB}{rk nx L:List Int}{by_:Nat} (hp:L.Perm (F6 s.length)) (hl:nx.length=s.length) (hb:s.length<=1000000000) (hn:∀ p,p < s.length->nx.getD (L.getD p 0).toNat 0=Fu rk by_ L p):Oy nx:=by
 intro r hr;obtain ⟨i,hi,rfl⟩:=X7 hr;have hL:=Qp4 hp;obtain ⟨p,hp1,hp2⟩:=Qmu hp (show i < s.length by omega);have e1:=hn p (by omega);have e2:=Qmt rk by_ L p;rw [hp2,Ys,Yc,Yb hi,Xv] at e1;omega
theorem Qou {s:LB}{rk L:List Int}{by_ m:Nat} (hk:LeK s rk by_ m) (hm:s.length<=m) (hp:L.Perm (F6 s.length)) (hs:L.Pairwise fun x y=>ltOf (K7 rk by_) y x=false):Ordered s (L.map Un):=by
 constructor
 ·
  have:=hp.map Un
  rwa [F6,X4,show (Un ∘ fun i:Nat=>(i:Int))=id from funext fun i=>Ys i,Gi] at this
 rw [Xy];refine (List.pairwise_and_iff.2 ⟨hs,Qhz hp⟩).imp_of_mem fun {x y} hx hy h=>?_;obtain ⟨h,hne⟩:=h;have hx:=hp.mem_iff.1 hx;have hy:=hp.mem_iff.1 hy;simp only [F6,Y2,Xl] at hx hy;obtain ⟨i,hi,rfl⟩:=hx;obtain ⟨j,hj,rfl⟩:=hy;simp only [Ys];obtain ⟨h1,h2⟩:=QAx h;have h3:=(hk.2 i j hi hj).1 h1;constructor
 ·
  obtain ⟨c,rfl⟩:∃ c,m=s.length+c:=⟨m - s.length,by omega⟩;rw [Qf5,Qf5,Qch _ _ (by rw [Zp,Zp]),Qf6 s i hi,Qf6 s j hj] at h3;split at h3
  ·
   rename_i e;rw [e];exact Vv _
  exact h3
 intro e;have e2:=Qsg s m i j hi hj e;have h4:=(hk.2 j i hj hi).2 (by rw [e2];exact Vv _)
 have h5:Lp rk by_ i j=true:=by
  simp only [Od,Lp,Um,decide_eq_true_eq] at *;omega
 have h6:=h2 h5;have h7:i≠j:=fun h=>hne (by rw [h]);omega
theorem Mh (d:Array Int) (p:Nat):d.toList.getD p 0=d[p]! := by
 simp only [Yc,getElem!_def,Array.getElem?_toList];cases d[p]? <;> rfl
theorem Vz (d:Array Int) {i:Nat} (v:Int) (j:Nat) (hi:i < d.size):(d.setIfInBounds i v)[j]! = if j=i then v else d[j]! := by
 simp only [getElem!_def,Array.getElem?_setIfInBounds];by_cases h:i=j
 ·
  subst h;simp [hi]
 simp [h,Ne.symm h]
theorem Qwq (n k:Nat):(Array.replicate n (0:Int))[k]! = 0:=by
 simp only [getElem!_def,Array.getElem?_replicate];split <;> rename_i h
 ·
  split at h <;> simp_all
 rfl
theorem QAy {w0 w:World}{B:LN}{G:List Res} (hH:Heap w0 B w G) (n:Nat) (hn:n<=1000000000000):Heap w0 B (w.alloc (.cells (Ya n (Y6 .i64 0)).toArray 3)) (A0 w.heap.size n (Array.replicate n 0)::G):=by
 have h:=hH.row 3 (n:=n) (cap:=n) (sz:=1) (Ya n (.int .i64 0)) [] (by simp) (by simp) (by omega) (by omega);rw [Yk] at h;rw [A0,Array.size_replicate,Array.toList_replicate,<- intsV_zero];exact h
abbrev N2 (g cap:Nat) (rk:List Int):Res:=Yf 3 1 (some ⟨g,0,none⟩) rk.length cap (Br rk)
abbrev Im (g:Nat):Value:=.pointer (some ⟨g,0,none⟩)
theorem Qsj (rk:List Int) (gr cr by_ go co gn gs:Nat) (d:Array Int) (hrk:Oy rk) (hby:by_<=10000000000) (hn:d.size<=1000000000) (hn0:0 < d.size) (hl:rk.length=d.size) (hp:d.toList.Perm (F6 d.size)) (w0 w:World) (B:LN) (G:List Res)
  (hL:Heap w0 B w (A0 go co d::N2 gr cr rk::Ye gn 3 [.int .i64 d.size]::Ye gs 223 [sl go co d]::G)) :
  Does Yq 206 #[Ro ⟨gr,0,none⟩ rk.length cr by_,Im gn,Im gs] w
   fun v w'=>∃ (gx:Nat) (nx:Array Int),nx.size=d.size/\(∀ p,p < d.size->nx[(d[p]!).toNat]! = Fu rk by_ d.toList p)/\Heap w0 B w' (N2 gx d.size nx.toList::A0 go co d::N2 gr cr rk::Ye gn 3 [.int .i64 d.size]::Ye gs 223 [sl go co d]::G)/\v=sl gx d.size nx:=by
 have hin:∀ p,p < d.size->0<=d[p]! /\ d[p]! < d.size:=fun p h=>by
  have:=Qmv hp (p:=p) (by simpa using h)
  rwa [Mh] at this
 have hinj:∀ p q,p < d.size->q < d.size->d[p]! = d[q]! -> p=q:=fun p q h1 h2 e=>by
  refine Qz4 hp (p:=p) (q:=q) (by simpa using h1) (by simpa using h2) ?_;rw [Mh,Mh,e]
 refine En [Ro ⟨gr,0,none⟩ rk.length cr by_,Im gn,Im gs] 69 Tryz.func206 ?_;refine VQ [1,2,3] fun K hK=>?_;refine Dl ?_;refine Qs ?_;have hH:=hL.box 293 [.slice (some ⟨gr,0,none⟩) rk.length cr,.int .i64 by_];generalize w.alloc (Yp [Y8 (some ⟨gr,0,none⟩) rk.length cr,.int .i64 by_].toArray 293)=w1 at *;generalize w.heap.size=gb at *;apply hK;clear hK;refine VQ [1,2,3,5] fun K hK=>?_;refine ⟨_,Af (hH.at 3 rfl) rfl,?_⟩;refine Ew Yu Ib ?_;refine Qs ?_;refine ⟨d.size,d.size,⟨rfl,rfl,by omega,by omega,by omega⟩,?_⟩;have hH1:=QAy hH d.size (by omega);generalize w1.alloc (Yp (Ya d.size (Y6 .i64 0)).toArray 3)=w2 at *;generalize w1.heap.size=gx at *;apply hK;clear hK;refine VS [1,2,3,5,6] ?_;refine Aq ?_;refine Ay [1,2,3,5,6] (fun m e w'=>∃ (k:Nat) (nx:Array Int),Is e [(1,Im gn),(2,Im gs),(3,Im gb),(5,.slice (some ⟨gx,0,none⟩) d.size d.size),(6,.int .i64 k)]/\Heap w0 B w' (A0 gx d.size nx::Ye gb 293 [.slice (some ⟨gr,0,none⟩) rk.length cr,.int .i64 by_]::A0 go co d::N2 gr cr rk::Ye gn 3 [.int .i64 d.size]::Ye gs 223 [sl go co d]::G)/\nx.size=d.size/\1<=k/\k<=d.size/\(∀ p,p < k->nx[(d[p]!).toNat]! = Fu rk by_ d.toList p)/\m=d.size - k) (d.size - 1) ?_ ?_
 ·
  refine Qs ?_;refine ⟨1,Array.replicate d.size 0,rfl,hH1,by simp,by omega,by omega,fun p hp=>?_,rfl⟩;obtain rfl:p=0:=by omega
  rw [Qwq];rfl
 clear hH hH1;rintro m e w3 ⟨k,nx,rfl,hH,hs,hk1,hk2,hnx,hm⟩;refine VQ [1,2,3,5,6,15] fun K hK=>?_;refine ⟨_,Af (hH.at 4 rfl) rfl,?_⟩;refine Qs ?_;apply hK;clear hK;refine VD (fun h=>?_) (fun h=>?_)
 ·
  refine Ad ?_;refine VB ?_;obtain ⟨i1,hi1⟩:∃ i1:Nat,d[k - 1]! = i1:=⟨(d[k - 1]!).toNat,by have:=hin (k - 1) (by omega);omega⟩;obtain ⟨i2,hi2⟩:∃ i2:Nat,d[k]! = i2:=⟨(d[k]!).toNat,by have:=hin k (by omega);omega⟩;have hb1:=hin (k - 1) (by omega);have hb2:=hin k (by omega);have hne:i1≠i2:=fun e=>by have:=hinj (k - 1) k (by omega) (by omega) (by rw [hi1,hi2,e]);omega
  have hrs:Fu rk by_ d.toList k=Fu rk by_ d.toList (k - 1)+if Lp rk by_ i1 i2 then 0 else 1:=by
   obtain ⟨j,rfl⟩:∃ j,k=j+1:=⟨k - 1,by omega⟩;rw [Uc] at *;rw [Fu,Mh,Mh,hi1,hi2]
  have hkeq:Lp rk by_ i1 i2=(decide (rk.getD i1 0=rk.getD i2 0) && decide (rk.getD ((i1+by_) % rk.length) 0=rk.getD ((i2+by_) % rk.length) 0)):=by
   simp only [Lp,Ij,Kd,Ys];rfl
  refine VH _ (Ext.refl _) [1,2,3,5,6,7,8] [(0,true),(1,true),(2,true),(3,true),(4,true),(5,true),(6,false),(7,true),(8,true),(9,true),(10,true),(11,true)] fun K hK=>?_;refine ⟨[.slice (some ⟨gr,0,none⟩) rk.length cr,.int .i64 by_],⟨rfl,Bu (hH.at 1 rfl)⟩,_,Af (hH.at 5 rfl) rfl,Xn (by omega) (by omega),?_⟩;refine Qs ?_;refine ⟨⟨by omega,by omega⟩,_,B7 (hH.at 2 rfl) (by omega),?_⟩;rw [hi1];refine Aa Tryz.call207 ?_;refine Qs ?_;refine Yo (Qdn rk ⟨gr,0,none⟩ cr by_ i1 (by omega) hby (by omega) w3 (As (hH.at 3 rfl))) ?_;rintro v w4 ⟨hH2,rfl⟩;have hH3:=hH.call0 hH2;simp only [Yh] at hH3;clear hH;refine ⟨hH2.ext,?_⟩;apply hK;clear hK;simp only [Gj,U8,U9];clear hH2;refine VH _ (Ext.refl _) [1,2,3,5,6,7,8,9,10] [(0,true),(1,true),(2,true),(3,true),(4,true),(5,false),(6,true),(7,true),(8,true),(9,true),(10,true)] fun K hK=>?_;refine ⟨[.slice (some ⟨gr,0,none⟩) rk.length cr,.int .i64 by_],⟨rfl,Bu (hH3.at 1 rfl)⟩,_,Af (hH3.at 5 rfl) rfl,?_⟩;refine Qs ?_;refine ⟨⟨by omega,by omega⟩,_,B7 (hH3.at 2 rfl) (by omega),?_⟩;rw [hi2];refine Aa Tryz.call207 ?_;refine Qs ?_;refine Yo (Qdn rk ⟨gr,0,none⟩ cr by_ i2 (by omega) hby (by omega) w4 (As (hH3.at 3 rfl))) ?_;rintro v w5 ⟨hH4,rfl⟩;have hH:=hH3.call0 hH4;simp only [Yh] at hH;clear hH3;refine ⟨hH4.ext,?_⟩;apply hK;clear hK;simp only [Gj,U8,U9];clear hH4;generalize rk.getD i1 0=ka at *;generalize rk.getD i2 0=kb at *;generalize rk.getD ((i1+by_) % rk.length) 0=kc at *;generalize rk.getD ((i2+by_) % rk.length) 0=kd at *;refine VL [1,2,3,5,6,7,8,9,10] 14 fun K hK=>?_;refine ⟨_,Af (hH.at 5 rfl) rfl,?_⟩;refine Qs ?_;refine ⟨⟨by omega,by omega⟩,_,B7 (hH.at 2 rfl) (by omega),_,Af (hH.at 5 rfl) rfl,Xn (by omega) (by omega),?_⟩;refine Qs ?_;refine ⟨⟨by omega,by omega⟩,_,B7 (hH.at 2 rfl) (by omega),?_⟩;rw [hi1,hi2];refine Qs ?_;refine ⟨⟨by omega,by omega⟩,_,B7 (hH.at 0 rfl) (by omega),⟨by omega,by omega⟩,?_⟩;refine Ag ?_;refine Qs ?_;refine C7 hH 0 (o:=(i2)) rfl (by first | rfl | (simp;done) | (congr 1;omega)) (by first | omega | (simp;omega)) fun w6 hS1=>?_;simp only [Yd] at hS1;(try refine Qs ?_);have hr1:=hnx (k - 1) (by omega);rw [hi1,Ys] at hr1;have hr2:=Qmt rk by_ d.toList (k - 1);have hs1:(nx.setIfInBounds i2 nx[i1]!).size=d.size:=by simp [hs]
  have hnx1:∀ p,p < k->(nx.setIfInBounds i2 nx[i1]!)[(d[p]!).toNat]! = Fu rk by_ d.toList p:=fun p hp2=>by
   rw [Vz _ _ _ (by omega),if_neg,hnx p hp2];intro e;have h1:=hin p (by omega);have:=hinj p k (by omega) (by omega) (by omega);omega
  have hk0:(nx.setIfInBounds i2 nx[i1]!)[i2]! = Fu rk by_ d.toList (k - 1):=by rw [Vz _ _ _ (by omega),if_pos rfl,hr1]
  clear hnx hr1 hH hs;generalize nx.setIfInBounds i2 nx[i1]! = nx1 at *;apply hK;clear hK;refine VQ [1,2,3,5,6,58] fun K hK=>?_
  suffices hall:∀ bb:Bool,Lp rk by_ i1 i2=! bb->K [(1,Im gn),(2,Im gs),(3,Im gb),(5,.slice (some ⟨gx,0,none⟩) d.size d.size),(6,.int .i64 k),(58,.bool bb)] w6 by
   refine ⟨fun h=>hall _ ?_,fun h=>hall _ ?_⟩
   ·
    rw [hkeq];simp only [Decidable.not_not] at h;simp [h]
   rw [hkeq];simp [h]
  intro bb hbb;rw [hbb] at hrs;clear hbb hkeq;apply hK;clear hK;refine Vi (fun h=>?_) (fun h=>?_)
  ·
   subst h;simp only [Bool.not_true,Bool.false_eq_true,if_false] at hrs;refine VQ [1,2,3,5,6] fun K hK=>?_;refine ⟨_,Af (hS1.at 5 rfl) rfl,?_⟩;refine Qs ?_;refine ⟨⟨by omega,by omega⟩,_,B7 (hS1.at 2 rfl) (by omega),?_⟩;rw [hi2];refine Qs ?_;refine ⟨⟨by omega,by omega⟩,_,B7 (hS1.at 0 rfl) (by omega),?_⟩;rw [hk0];refine Qs ?_;refine ⟨Xn (by omega) (by omega),⟨by omega,by omega⟩,?_⟩;refine Ag ?_;refine Qs ?_;refine C7 hS1 0 (o:=(i2)) rfl (by first | rfl | (simp;done) | (congr 1;omega)) (by first | omega | (simp;omega)) fun w6 hS2=>?_;simp only [Yd] at hS2;(try refine Qs ?_);apply hK;clear hK;refine An ?_;refine VS [1,2,3,5,6] ?_;refine Ah ?_;refine Qs ?_;refine ⟨d.size - (k+1),by omega,k+1,_,rfl,hS2,by simp [hs1],by omega,by omega,fun p hp2=>?_,rfl⟩;rw [Vz _ _ _ (by omega)];by_cases hpk:p=k
   ·
    subst hpk;rw [hi2,Ys,if_pos rfl,hrs];omega
   rw [if_neg,hnx1 p (by omega)];intro e;have h1:=hin p (by omega);have:=hinj p k (by omega) (by omega) (by omega);omega
  subst h;simp only [Bool.not_false,if_true,Ut] at hrs;refine Ad ?_;refine An ?_;refine VS [1,2,3,5,6] ?_;refine Ah ?_;refine Qs ?_;refine ⟨d.size - (k+1),by omega,k+1,nx1,rfl,hS1,hs1,by omega,by omega,fun p hp2=>?_,rfl⟩;by_cases hpk:p=k
  ·
   subst hpk;rw [hi2,Ys,hk0,hrs]
  exact hnx1 p (by omega)
 obtain rfl:k=d.size:=by omega
 refine Ax rfl ?_;refine VS [4] ?_;refine Ae (Al rfl rfl ?_);refine ⟨gx,nx,hs,hnx,?_,by rw [sl,hs]⟩;have h5:Heap w0 B w3 (A0 gx d.size nx::A0 go co d::N2 gr cr rk::Ye gn 3 [.int .i64 d.size]::Ye gs 223 [sl go co d]::G):=hH.sub (by simp);rw [A0,hs] at h5;rw [N2,show nx.toList.length=d.size by simpa using hs];exact h5
abbrev QF6 (g n:Nat):Res:=A0 g n (Array.replicate n 0)
abbrev Qh (g n:Nat):Value:=.slice (some ⟨g,0,none⟩) n n
theorem Qt5 {P:Program}{N:Nat}{ops:List Oper}{w0:World}{e:Env}{w:World}{K:Env->World->Prop}:Av P N ops w0 [] e w K=K e w:=rfl
set_option maxHeartbeats 4000000 in
theorem Qsk (l:LB) (hl:l.length<=100000000) (w:World):Does Yq 178 #[Ab l] w
  fun v w'=>∃ (go:Nat) (σ:LN),Ordered l σ/\Heap w [] w' [Yf 3 1 (some ⟨go,0,none⟩) l.length l.length (Br (σ.map fun i:Nat=>(i:Int)))]/\v=.slice (some ⟨go,0,none⟩) l.length l.length:=by
 refine En [Ab l] 57 Tryz.func178 ?_;generalize hn:l.length=n at *;refine VS [0] ?_;refine VQ [0,3] fun K hK=>?_;refine Bo (.int .i64 0) (by kernel_rfl) ?_;refine Qs ?_;have hH0:=(Y9 w).box 3 [.int .i64 0];generalize w.alloc (Yp [Y6 .i64 0].toArray 3)=w1 at *;generalize w.heap.size=gn at *;rw [hn];refine Ag ?_;refine Qs ?_;refine Ap hH0 0 (vs:=[.int .i64 n]) rfl rfl (by kernel_rfl) (by first | decide | (simp;done) | (simp;omega)) (by simp [Yt]) fun w6 hH=>?_;(try refine Qs ?_);apply hK;clear hK;clear hH0;generalize w6=w1 at *;refine V3 w1 (Ext.refl _) [0,3,4,5] (.three [(0,true),(2,true)] 1 3 4 (.two [] 3 4 (.seq [(4,false),(5,false),(6,true)]) (.two [] 3 5 (.seq [(5,false),(6,true)]) (.seq [(3,false),(6,true)]))) (.two [] 1 4 (.seq [(4,false),(5,false),(6,true)]) (.seq [(1,false),(5,false),(6,true)])) (.two [] 1 3 (.two [] 3 5 (.seq [(5,false),(6,true)]) (.seq [(3,false),(6,true)])) (.seq [(1,false),(5,false),(6,true)]))) fun K hK=>?_
 suffices out:∀ go gf gs w2,Heap w1 [] w2 [QF6 go n,QF6 gf n,Ye gs 223 [Qh go n]]->K [(0,Ab l),(3,Im gn),(4,Im gs),(5,Qh gf n)] w2 by
  simp only [Lm,A6,List.filterMap_cons,List.filterMap_nil,List.getElem?_cons_succ,List.getElem?_cons_zero,Option.map_some];refine Qs ?_;refine ⟨_,Af (hH.at 0 rfl) rfl,_,Af (hH.at 0 rfl) rfl,?_⟩;have hX:=Y9 w1
  repeat' (first
   | (refine Ew Yu Ib ?_;refine Qs ?_;refine ⟨n,n,⟨rfl,rfl,by omega,by omega,by omega⟩,?_⟩;have hX:=QAy hX n (by omega);skip;refine ⟨hX.ext,?_⟩;skip)
   | (refine Bo (.slice none 0 0) (by kernel_rfl) ?_;refine Qs ?_;have hX:=hX.box 223 [.slice none 0 0];skip;refine ⟨hX.ext,?_⟩;skip)
   | (refine Ag ?_;refine Qs ?_;first
     | (refine Ap hX 0 (vs:=[_]) rfl rfl (by kernel_rfl) (by first | decide | (simp;done)) (by simp [Yt]) fun w6 hX=>?_;simp only [Yd,Yj] at hX;skip;refine ⟨hX.ext,?_⟩;skip)
     | (refine Ap hX 1 (vs:=[_]) rfl rfl (by kernel_rfl) (by first | decide | (simp;done)) (by simp [Yt]) fun w6 hX=>?_;simp only [Yd,Yj] at hX;skip;refine ⟨hX.ext,?_⟩;skip)
     | (refine Ap hX 2 (vs:=[_]) rfl rfl (by kernel_rfl) (by first | decide | (simp;done)) (by simp [Yt]) fun w6 hX=>?_;simp only [Yd,Yj] at hX;skip;refine ⟨hX.ext,?_⟩;skip))
   | (simp only [Qt5];skip)
   | refine And.intro ?_ ?_)
  all_goals first
   | exact out _ _ _ _ hX
   | exact out _ _ _ _ (hX.front 1 rfl)
   | exact out _ _ _ _ (hX.front 2 rfl)
   | exact out _ _ _ _ ((hX.front 1 rfl).front 2 rfl)
   | exact out _ _ _ _ ((hX.front 2 rfl).front 2 rfl)
   | exact out _ _ _ _ ((hX.front 2 rfl).front 1 rfl)
 intro go gf gs w2 hX;have hH2:=hH.call0 hX;simp only [Yd,Yx,Yh] at hH2;have hG:Heap w [] w2 [QF6 go n,QF6 gf n,Ye gs 223 [Qh go n],Ye gn 3 [.int .i64 n]]:=hH2;clear hX hH hH2;apply hK;clear hK;refine VQ [0,3,4,5,16,17] fun K hK=>?_;refine ⟨_,Af (hG.at 3 rfl) rfl,?_⟩;apply hK;clear hK;refine Aq ?_;refine Ay [0,3,4,5,16,17] (fun m e w'=>∃ (i:Nat) (D F:Array Int),Is e [(0,Ab l),(3,Im gn),(4,Im gs),(5,Qh gf n),(16,.int .i64 n),(17,.int .i64 i)]/\Heap w [] w' [A0 go n D,A0 gf n F,Ye gs 223 [Qh go n],Ye gn 3 [.int .i64 n]]/\D.size=n/\F.size=n/\i<=n/\(∀ p,p < i->D[p]! = p/\F[p]! = (l.getD p 0).toNat)/\m=n - i) n ?_ ?_
 ·
  refine Qs ?_;exact ⟨0,_,_,rfl,hG,by simp,by simp,by omega,fun p hp=>by omega,rfl⟩
 clear hG;rintro m e w3 ⟨i,D,F,rfl,hH,hD,hF,hi,hDF,hm⟩;refine VS [0,3,4,5,16,17,18] ?_;(repeat refine Aw ?_);refine VD (fun h=>?_) (fun h=>?_)
 ·
  refine Ad ?_;refine VB ?_;refine VS [0,3,4,5,6,16,17] ?_;refine Vb [0,3,4,5,16,17] [(1,0),(2,0),(3,0),(4,0),(5,0),(6,0),(7,0),(8,0),(0,1),(9,0),(10,2),(11,0),(12,2)] fun K hK=>?_;rw [hn];have hb:=(l.getD i 0).toNat_lt;refine ⟨⟨by omega,by omega⟩,Xn (by omega) (by omega),_,Af (hH.at 2 rfl) rfl,?_⟩;refine Qs ?_;refine Qo ?_;refine Ag ?_;refine Qs ?_;refine C7 hH 0 (o:=(i)) rfl (by first | rfl | (simp;done) | (congr 1;omega)) (by first | omega | (simp;omega)) fun w6 hS1=>?_;simp only [Yd] at hS1;(try refine Qs ?_);refine Qo ?_;refine Ag ?_;refine Qs ?_;refine C7 hS1 1 (o:=i) rfl rfl (by omega) fun w7 hS2=>?_;simp only [Yj,Yd] at hS2;apply hK;clear hK;refine An ?_;refine VS [0,3,4,5,16,17] ?_;refine Ah ?_;refine Qs ?_;refine ⟨n - (i+1),by omega,i+1,_,_,rfl,hS2,by simp [hD],by simp [hF],by omega,fun p hp=>?_,rfl⟩;rw [Vz _ _ _ (by omega),Vz _ _ _ (by omega)];by_cases hpi:p=i
  ·
   subst hpi;simp
  rw [if_neg hpi,if_neg hpi];exact hDF p (by omega)
 obtain rfl:i=n:=by omega
 refine Ax rfl ?_
 have hDl:D.toList=F6 i:=by
  apply U1
  ·
   simp [F6,hD]
  intro p h1 h2;have h3:=(hDF p (by simpa [hD] using h1)).1;rw [Qad (by simpa using h1)] at h3;rw [h3];simp [F6]
 have hFl:∀ p,p < i->F.toList.getD p 0=(l.getD p 0).toNat:=fun p hp=>by rw [Mh];exact (hDF p hp).2
 have hFn:F.toList.length=l.length:=by rw [hn];simpa using hF
 clear hDF;refine VQ [3,4,5,33] fun K hK=>?_;refine ⟨_,Af (hH.at 3 rfl) rfl,?_⟩;refine Qs ?_;apply hK;clear hK;refine VD (fun h=>?_) (fun h=>?_)
 ·
  obtain rfl:i=0:=by omega
  obtain rfl:l=[]:=Y5 hn;refine VQ [2] fun K hK=>?_;refine ⟨_,Af (hH.at 2 rfl) rfl,?_⟩;apply hK;clear hK;refine Ae (Al rfl rfl ?_);refine ⟨go,[],⟨by simp,.nil⟩,?_,rfl⟩;have h5:Heap w [] w3 [A0 go 0 D]:=hH.sub (by simp);rw [A0,hD,hDl] at h5;exact h5
 have hn0:0 < i:=by omega
 generalize i=n at *;refine Ad ?_;refine VS [3,4,5,7] ?_
 have hrk0:Ranks l F.toList 1:=by
  refine ⟨hFn,fun p q hp hq=>?_⟩;rw [hFl p (by omega),hFl q (by omega)];have h1:∀ r,r < l.length->pre l 1 r=[l.getD r 0]:=fun r hr=>by simp [pre,X9,Xj hr]
  rw [h1 p hp,h1 q hq];simp only [Fd];by_cases e:l.getD p 0=l.getD q 0
  ·
   rw [if_pos e,e];simp
  rw [if_neg e,decide_eq_true_eq];have:(l.getD p 0).toNat≠(l.getD q 0).toNat:=fun h'=>e (Ge.1 h');omega
 have hok0:Oy F.toList:=by
  intro r hr;obtain ⟨p,hp,rfl⟩:=X7 hr;have h1:=hFl p (by rw [hFn,hn] at hp;exact hp);rw [Yc,Yb hp,Xv] at h1;have:=(l.getD p 0).toNat_lt;omega
 refine VQ [3,4,7,8] fun K hK=>?_;refine Bo (.agg #[.slice none 0 0,.int .i64 0]) (by kernel_rfl) ?_;refine Qs ?_;have hH1:=hH.box 293 [.slice none 0 0,.int .i64 0];generalize w3.alloc (Yp [Y8 none 0 0,.int .i64 0].toArray 293)=w4 at *;generalize w3.heap.size=gr at *;refine Ag ?_;refine Qs ?_;refine Ap hH1 0 (vs:=[.slice (some ⟨gf,0,none⟩) n n,.int .i64 0]) rfl rfl (by kernel_rfl) (by first | decide | (simp;done) | (simp;omega)) (by simp [Yt]) fun w6 hH2=>?_;(try refine Qs ?_)
 have hH3:Heap w [] w6 (A0 go n D::N2 gf n F.toList::Ye gn 3 [.int .i64 n]::Ye gs 223 [Qh go n]::[Ye gr 293 [.slice (some ⟨gf,0,none⟩) F.toList.length n,.int .i64 (0:Nat)]]):=by
  rw [show F.toList.length=n by rw [hFn,hn]];have h7:=(((hH2.front 3 rfl).front 4 rfl).front 4 rfl).front 4 rfl;rw [N2,show F.toList.length=n by rw [hFn,hn]];simp only [A0,hF,List.eraseIdx_cons_succ,List.eraseIdx_cons_zero] at h7;simp only [A0];exact h7
 clear hH hH1 hH2;apply hK;clear hK;refine VS [3,4,7,8,9] ?_;refine Aq ?_;refine Ay [3,4,7,8,9] (fun m e w'=>∃ (b by_ gk ck:Nat) (rk:List Int) (D:Array Int),Is e [(3,Im gn),(4,Im gs),(7,.func (.func 206) #[] #[Im gn,Im gs]),(8,Im gr),(9,.int .i64 b)]/\Heap w [] w' (A0 go n D::N2 gk ck rk::Ye gn 3 [.int .i64 n]::Ye gs 223 [Qh go n]::[Ye gr 293 [.slice (some ⟨gk,0,none⟩) rk.length ck,.int .i64 by_]])/\D.size=n/\D.toList.Perm (F6 n)/\LeK l rk by_ b/\Oy rk/\rk.length=n/\1<=b/\b<=2 * n/\by_<=b/\m=2 * n - b) (2 * n - 1) ?_ ?_
 ·
  refine Qs ?_;exact ⟨1,0,gf,n,F.toList,D,rfl,hH3,hD,by rw [hDl],LeK.first hrk0,hok0,by rw [hFn,hn],by omega,by omega,by omega,rfl⟩
 clear hH3 hrk0 hok0 hFl hFn hDl hD hF;rintro m e w4 ⟨b,by_,gk,ck,rk,D1,rfl,hH,hD1,hp1,hk1,hok1,hrl1,hb1,hb2,hby,hm⟩;refine VB ?_
 have hQ1:AllQ (W0 rk) D1:=fun k hk=>by
  have h1:=Qmv hp1 (p:=k) (by simpa using hk);rw [Mh] at h1;exact ⟨h1.1,by rw [hrl1];exact h1.2⟩
 refine VQ [3,4,7,8,9] fun K hK=>?_;refine ⟨_,Af (hH.at 3 rfl) rfl,[.slice (some ⟨gk,0,none⟩) rk.length ck,.int .i64 by_],⟨rfl,Bu (hH.at 4 rfl)⟩,?_⟩;have hc:=Qbt (Qpz rk hok1 gk ck by_ (by omega) (by omega)) (Qp0 rk by_) go n D1 (by omega) hQ1 w w4 [] _ hH;rw [sl,hD1] at hc;refine Aa Tryz.call208 ?_;refine Qs ?_;refine Yo hc ?_;clear hc hH;rintro v w5 ⟨D2,hsrt,hD2,hQ2,hH,rfl⟩;have hp2:=hsrt.1.trans hp1;have hrow:=Qz3 hsrt.2;apply hK;clear hK;refine VQ [3,4,7,8,9] fun K hK=>?_;refine ⟨[.slice (some ⟨gk,0,none⟩) rk.length ck,.int .i64 by_],⟨rfl,Bu (hH.at 4 rfl)⟩,?_⟩;have hc:=Qsj rk gk ck by_ go n gn gs D2 hok1 (by omega) (by omega) (by omega) (by omega) (by rw [hD2];exact hp2) w w5 [] _ (by rw [sl,hD2];exact hH);rw [hD2] at hc;refine Er ?_;refine Qs ?_;refine FnK.mk Tryz.call206 hc ?_;clear hc hH;rintro v w6 ⟨gx,nx,hnx,hrs,hH,rfl⟩
 have hrk2:Ranks l nx.toList b:=Qsi hk1 (by rw [hn];exact hp2) hrow (by rw [hn];simpa using hnx) fun p hp=>by
  rw [Mh,Mh];exact hrs p (by omega)
 have hok2:Oy nx.toList:=Qot (s:=l) (rk:=rk) (by_:=by_) (L:=D2.toList) (by rw [hn];exact hp2) (by rw [hn];simpa using hnx) (by omega) fun p hp=>by
  rw [Mh,Mh];exact hrs p (by omega)
 have hnl:nx.toList.length=n:=by simpa using hnx
 simp only [sl,hnx,hD2] at hH ⊢;refine Qs ?_;refine Ag ?_;refine Qs ?_;refine Ap hH 5 (vs:=[.slice (some ⟨gx,0,none⟩) n n,.int .i64 b]) rfl rfl (by kernel_rfl) (by first | decide | (simp;done) | (simp;omega)) (by simp [Yt]) fun w6 hH2=>?_;(try refine Qs ?_);simp only [Yj,Yd] at hH2
 have hH3:Heap w [] w6 (A0 go n D2::N2 gx n nx.toList::Ye gn 3 [.int .i64 n]::Ye gs 223 [Qh go n]::[Ye gr 293 [.slice (some ⟨gx,0,none⟩) nx.toList.length n,.int .i64 b]]):=by
  rw [show nx.toList.length=n from hnl];exact (hH2.front 1 rfl).sub (by simp)
 clear hH hH2;apply hK;clear hK;have hk2:LeK l nx.toList b (b+b):=LeK.double hrk2;refine VQ [3,4,7,8,9,51] fun K hK=>?_;refine ⟨_,Af (hH3.at 2 rfl) rfl,?_⟩;refine Qs ?_;apply hK;clear hK;refine VD (fun h=>?_) (fun h=>?_)
 ·
  have hQ3:AllQ (W0 nx.toList) D2:=fun k hk=>by
   have h1:=Qmv hp2 (p:=k) (by simpa using hk);rw [Mh] at h1;exact ⟨h1.1,by rw [hnl];exact h1.2⟩
  refine VQ [4] fun K hK=>?_;refine ⟨_,Af (hH3.at 3 rfl) rfl,[.slice (some ⟨gx,0,none⟩) nx.toList.length n,.int .i64 b],⟨rfl,Bu (hH3.at 4 rfl)⟩,?_⟩;have hc:=Qbt (Qpz nx.toList hok2 gx n b (by omega) (by omega)) (Qp0 nx.toList b) go n D2 (by omega) hQ3 w w6 [] _ hH3;rw [sl,hD2] at hc;refine Aa Tryz.call208 ?_;refine Qs ?_;refine Yo hc ?_;clear hc hH3;rintro v w7 ⟨D3,hsrt3,hD3,hQ3',hH,rfl⟩;have hp3:=hsrt3.1.trans hp2;apply hK;clear hK;refine VQ [2] fun K hK=>?_;refine ⟨_,Af (hH.at 3 rfl) rfl,?_⟩;apply hK;clear hK;refine Ae (Al rfl rfl ?_);have ho:=Qou hk2 (by omega) (by rw [hn];exact hp3) hsrt3.2;refine ⟨go,D3.toList.map Un,ho,?_,rfl⟩
  have e:(D3.toList.map Un).map (fun i:Nat=>(i:Int))=D3.toList:=by
   rw [X4]
   conv=>rhs;rw [<- Gi D3.toList]
   apply Xc;intro x hx;have:=hp3.mem_iff.1 hx;simp only [F6,Y2,Xl] at this;obtain ⟨i,_,rfl⟩:=this;simp
  rw [e];have h5:Heap w [] w7 [A0 go n D3]:=hH.sub (by simp);rw [A0,show D3.size=n by omega] at h5;exact h5
 refine Ad ?_;refine An ?_;refine VS [3,4,7,8,9] ?_;refine Ah ?_;refine Qs ?_;refine ⟨2 * n - (b+b),by omega,b+b,b,gx,n,nx.toList,D2,by rw [show ((b:Int) * 2)=((b+b:Nat):Int) by omega];rfl,hH3,by omega,hp2,hk2,hok2,hnl,by omega,by omega,by omega,rfl⟩
def Wl (l:LB) (v:Value):Prop :=
 if l=[] then v=.tuple #[Ab [],.int .i64 0,.int .i64 2]
 else if 262144 < l.length then v=.tuple #[Ab [],.int .i64 0,.int .i64 3]
 else ∃ σ,Ordered l σ/\v=.tuple #[Ab (Cb l σ),.int .i64 (σ.idxOf 0:Nat),.int .i64 0]
theorem Ql8 (l:LB) (hl:l.length<=1000000000000) (w:World):Does Yq 137 #[Ab l] w fun v w'=>Heap w [] w' []/\Wl l v:=by
 refine En [Ab l] 41 Tryz.func137 ?_;refine VS [0] ?_;refine VS [0,10] ?_;refine VD (fun h=>?_) (fun h=>?_)
 ·
  refine VS [2,3,4] ?_;exact Ae (Q8 rfl rfl rfl rfl ⟨Y9 w,by rw [Wl,if_pos h]⟩)
 have hne:=h;refine Ad ?_;refine VS [0,13] ?_;refine VD (fun h=>?_) (fun h=>?_)
 ·
  refine VS [2,3,4] ?_;exact Ae (Q8 rfl rfl rfl rfl ⟨Y9 w,by rw [Wl,if_neg hne,if_pos (by omega)]⟩)
 have hle:l.length<=262144:=by omega
 have hn0:0 < l.length:=Us.2 hne;clear h;generalize hn:l.length=n at *;refine Ad ?_;refine VQ [0,5,6] fun K hK=>?_;rw [hn];refine Ew Xq Mv ?_;refine Qs ?_;refine ⟨n,n,⟨rfl,rfl,by omega,by omega,by omega⟩,?_⟩;have hH0:=(Y9 w).row 5 (n:=n) (cap:=n) (sz:=1) (Ya n (.int .u8 0)) [] (by simp) (by simp) (by omega) (by omega);rw [Yk,show Ya n (Y6 .u8 0)=Ao (Ya n 0) by simp [Ao]] at hH0;rw [show Ya n (Y6 .u8 0)=Ao (Ya n 0) by simp [Ao]];generalize w.alloc (Yp (Ao (Ya n 0)).toArray 5)=w1 at *;generalize w.heap.size=gb at *;apply hK;clear hK;refine VQ [0,5,6,18,19,20] fun K hK=>?_;have hc:=Qsk l (by omega) w1;rw [hn] at hc;refine Aa Tryz.call178 ?_;refine Qs ?_;refine Yo hc ?_;clear hc;rintro v w2 ⟨go,σ,hσ,hX,rfl⟩;have hH1:=hH0.call0 hX;simp only [Yx,Yh] at hH1;have hσl:σ.length=n:=by rw [hσ.perm.length_eq,Y4,hn]
 have hσb:∀ p,p < n->σ.getD p 0 < n:=fun p hp=>by
  have h1:σ.getD p 0∈σ:=Ez 0 (by omega);have:=hσ.perm.mem_iff.1 h1;rw [Xl,hn] at this;exact this
 have hnd:σ.Nodup:=by rw [hσ.perm.nodup_iff];exact X3
 have h0σ:0∈σ:=hσ.perm.mem_iff.2 (by rw [Xl];omega);have hcl:(Cb l σ).length=n:=by simp [Cb,hσl]
 have hcg:∀ p,p < n->(Cb l σ).getD p 0=l.getD (D0 n (σ.getD p 0)) 0:=fun p hp=>by
  simp only [Cb,Yc,Yr,hn];rw [Yb (by omega)];simp
 refine Qs ?_;apply hK;clear hK;refine Aq ?_;refine Ay [0,5,6,18,19,20] (fun m e w'=>∃ (k r:Nat) (o:LB),Is e [(0,Ab l),(5,.slice (some ⟨gb,0,none⟩) n n),(6,.int .i64 r),(18,.slice (some ⟨go,0,none⟩) n n),(19,.int .i64 n),(20,.int .i64 k)]/\Heap w [] w' [Yf 3 1 (some ⟨go,0,none⟩) n n (Br (σ.map fun i:Nat=>(i:Int))),Yf 5 1 (some ⟨gb,0,none⟩) n n (Ao o)]/\o.length=n/\k<=n/\o.take k=(Cb l σ).take k/\(0∈σ.take k->r=σ.idxOf 0)/\m=n - k) n ?_ ?_
 ·
  refine Qs ?_;exact ⟨0,0,_,rfl,hH1,by simp,by omega,by simp,by simp,rfl⟩
 clear hH0 hX hH1;rintro m e w3 ⟨k,r,o,rfl,hH,hol,hk,ho,hr,hm⟩;refine VS [0,5,6,18,19,20,21] ?_;(repeat refine Aw ?_);refine VD (fun h=>?_) (fun h=>?_)
 ·
  have hkn:k < n:=by omega
  have hsk:=hσb k hkn
  have hgk:(σ.map fun i:Nat=>(i:Int)).getD k 0=((σ.getD k 0:Nat):Int):=by
   simp only [Yc,Yr];rw [Yb (by omega)];simp
  refine Ad ?_;refine VB ?_;refine VQ [0,5,6,7,8,18,19,20] fun K hK=>?_;refine And.intro ⟨by omega,by omega⟩ ⟨_,B3 (hH.at 0 rfl) (Kz (by simp;omega)),?_⟩;rw [hgk];apply hK;clear hK;refine VS [0,5,6,7,8,18,19,20,26] ?_
  have htk:σ.take (k+1)=σ.take k++[σ.getD k 0]:=by
   rw [Xo,Yb (by omega),Yc,Yb (by omega)];rfl
  refine Do [0,5,6,7,8,18,19,20] (fun e w'=>∃ (r':Nat),Is e [(0,Ab l),(5,.slice (some ⟨gb,0,none⟩) n n),(6,.int .i64 r'),(7,.int .i64 k),(8,.int .i64 (D0 n (σ.getD k 0)+1:Nat)),(18,.slice (some ⟨go,0,none⟩) n n),(19,.int .i64 n),(20,.int .i64 k)]/\Is w' w3/\(0∈σ.take (k+1)->r'=σ.idxOf 0)) ?_ ?_
  ·
   refine VD (fun h=>?_) (fun h=>?_)
   ·
    have hz:σ.getD k 0=0:=by omega
    refine VS [0,5,6,7,18,19,20] ?_;refine VQ [0,5,6,7,8,18,19,20] fun K hK=>?_;rw [hn];apply hK;clear hK;refine Ah ?_;refine Qs ?_;refine ⟨k,by rw [hz,show D0 n 0+1=n by unfold D0;rw [if_pos rfl];omega];rfl,rfl,fun _=>?_⟩;have h1:=hnd.idxOf_getElem k (by omega);rw [Yc,Yb (by omega),Xv] at hz;rw [hz] at h1;exact h1.symm
   have hz:σ.getD k 0≠0:=by omega
   refine Ad ?_;refine Ah ?_;refine Qs ?_;refine ⟨r,by rw [show D0 n (σ.getD k 0)+1=σ.getD k 0 by unfold D0;rw [if_neg hz];omega];rfl,rfl,fun h2=>hr ?_⟩;rw [htk,Ua] at h2;rcases h2 with h2 | h2
   ·
    exact h2
   exact absurd (Ud.1 h2).symm hz
  rintro e w4 ⟨r',rfl,rfl,hr'⟩;have hah:D0 n (σ.getD k 0) < n:=by unfold D0;split <;> omega
  have hcgk:=hcg k hkn;generalize D0 n (σ.getD k 0)=at_ at *;refine VQ [0,5,6,18,19,20] fun K hK=>?_;rw [hn,show ((at_+1:Nat):Int) - 1=(at_:Int) by omega];rw [Uc];refine ⟨Xn (by omega) (by omega),⟨by omega,by omega⟩,⟨by omega,by omega⟩,?_⟩;refine Ag ?_;refine Qs ?_;refine Dp hH 1 (o:=(k)) (vs:=[.int .u8 (l.getD at_ 0).toNat]) rfl (by first | exact (Bv _ _ _).symm | rfl | simp [Bv]) rfl (by kernel_rfl) (by first | omega | (simp;done) | (simp;omega) | (simp [Ao,Br];omega) | (rw [natsV_len];simp;omega)) (by simp [Yt]) fun w6 hH2=>?_;(try refine Qs ?_);simp only [Yn,Dm (Ao o) _ _ (show k < (Ao o).length by rw [Of];omega),T7,Yd,Yj] at hH2;apply hK;clear hK;refine An ?_;refine VS [0,5,6,18,19,20] ?_;refine Ah ?_;refine Qs ?_;refine ⟨n - (k+1),by omega,k+1,r',o.set k (l.getD at_ 0),rfl,hH2,by simp [hol],by omega,?_,hr',rfl⟩
  have e1:(o.set k (l.getD at_ 0)).take (k+1)=o.take k++[l.getD at_ 0]:=by
   rw [Xo,List.getElem?_set_self (by omega),List.take_set_of_le (by omega)];rfl
  have e2:(Cb l σ).take (k+1)=(Cb l σ).take k++[(Cb l σ).getD k 0]:=by
   rw [Xo,Yb (by omega),Yc,Yb (by omega)];rfl
  rw [e1,e2,ho,hcgk]
 obtain rfl:k=n:=by omega
 refine Ax rfl ?_;rw [Yw (by omega),Yw (by omega)] at ho;subst ho;have hr2:=hr (by rw [Yw (by omega)];exact h0σ);subst hr2;refine VQ [2,3,4] fun K hK=>?_;refine ⟨Cb l σ,Fw (by rw [<- hcl] at hH ⊢;exact As (hH.at 1 rfl)),?_⟩;apply hK;clear hK;refine Ae (Q8 rfl rfl rfl rfl ?_);refine ⟨hH.sub (by simp),?_⟩;rw [Wl,if_neg hne,if_neg (by omega)];exact ⟨σ,hσ,rfl⟩
def Wy (L:LB) (row:Int):LB×Int :=
 if 262144 < L.length then ([],3) else if row < 0∨(L.length:Int)<=row then ([],50) else (Ri L (Lc L) L.length row.toNat,0)
def To:Nat->Nat->List Int
 | 0,_=>[]
 | _+1,0=>[]
 | f+1,k+1=>((k % 2:Nat):Int)::To f (k / 2)
theorem Qkv:∀ (f g k:Nat),k<=f->k<=g->To f k=To g k
 | 0,g,k,h,_=>by
  have:k=0:=by omega
  subst this;cases g <;> rfl
 | f+1,0,k,_,h=>by
  have:k=0:=by omega
  subst this;rfl
 | f+1,g+1,0,_,_=>rfl
 | f+1,g+1,k+1,h,h'=>by
  simp only [To];rw [Qkv f g (k / 2) (by omega) (by omega)]
def Fe (k:Nat):List Int:=To k k
theorem Q5:Fe 0=[]:=rfl
theorem Qdp (k:Nat):Fe (k+1)=((k % 2:Nat):Int)::Fe (k / 2):=by
 rw [Fe,To,Fe,Qkv k (k / 2) (k / 2) (by omega) (Y1 _)]
theorem Zq:∀ (f k:Nat),k<=f->(Fe k).length<=k
 | 0,k,h=>by
  have:k=0:=by omega
  subst this;simp [Q5]
 | f+1,0,_=>by simp [Q5]
 | f+1,k+1,h=>by
  have:=Zq f (k / 2) (by omega);rw [Qdp,Y7];omega
theorem Qov (k:Nat) (w:World) (hk:k<=17592186044416) :
  Does Yq 181 #[.int .i64 k] w fun v w'=>∃ a cap,Heap w [] w' [Yf 3 1 a (Fe k).length cap (Br (Fe k))]/\v=.slice a (Fe k).length cap:=by
 refine En [.int .i64 k] 16 Tryz.func181 ?_;refine VS [0] ?_;refine VS [0,3] ?_;refine VB ?_;refine Ay [0,3] (fun m e w'=>∃ (j cap:Nat) (a:OA) (o:List Int),Is e [(0,.int .i64 j),(3,.slice a o.length cap)]/\Heap w [] w' [Yf 3 1 a o.length cap (Br o)]/\j<=k/\o.length+j<=k/\Fe k=o++Fe j/\m=j) k ?_ ?_
 ·
  refine Qs ?_;exact ⟨k,0,none,[],rfl,Heap.one (r:=Yf 3 1 none 0 0 []) (Qmi 3 1 w) (by intro b hb;cases hb),by omega,by simp,rfl,rfl⟩
 rintro m e w2 ⟨j,cap,a,o,rfl,hH,h1,h2,h3,rfl⟩;refine VS [0,3,5] ?_;refine Ai rfl rfl (fun hlt=>?_) (fun hge=>?_)
 ·
  simp only [decide_eq_true_eq] at hlt;refine Ad (Aq ?_);refine VS [0,3] ?_;refine VQ [0,3] fun K hK=>?_;refine ⟨⟨by omega,by omega⟩,⟨by decide,by decide⟩,?_⟩;rw [show Un 1=1 from rfl,Nat.and_one_is_mod];refine Oi (xs:=[.tmp 10]) Yu O8 rfl rfl rfl (by omega) ?_;refine Qs ?_;refine ⟨by simp [Uf],?_⟩;refine Ce ?_;refine Qs ?_;refine Z1 hH 0 rfl Yu Ib (fun h=>by simp;omega) fun a' cap' w5 hc' hH4=>?_;apply hK;clear hK;refine VS [0,3] ?_;refine An (Ah ?_);refine Qs ?_;obtain ⟨j,rfl⟩:∃ j,m=j+1:=⟨m - 1,by omega⟩
  have e1:(((j+1:Nat):Int) - 1) / 2 ^ By Xd 1=((j / 2:Nat):Int):=by
   rw [show By Xd 1=1 by decide,show (((j+1:Nat):Int) - 1)=(j:Int) by omega];omega
  rw [e1];rw [Qdp] at h3;exact ⟨j / 2,by omega,j / 2,cap',a',o++[((j % 2:Nat):Int)],rfl,hH4,by omega,by simp;omega,by rw [h3,Yi];rfl,rfl⟩
 simp only [decide_eq_false_iff_not] at hge;refine Ax rfl ?_;refine VS [2] ?_;refine Ae (Al rfl rfl ?_);have:m=0:=by omega
 subst this;rw [Q5,Yk] at h3;rw [h3];exact ⟨a,cap,hH,rfl⟩
def IntsErr (p:List Int×Int) (w:World) (v:Value) (w':World):Prop :=
 ∃ a cap,Heap w [] w' [Yf 3 1 a p.1.length cap (Br p.1)]/\v=.tuple #[.slice a p.1.length cap,.int .i64 p.2]
theorem IntsErr.nil {w w':World} (h:Heap w [] w' []) (e:Int):IntsErr ([],e) w (.tuple #[.slice none 0 0,.int .i64 e]) w' :=
 ⟨none,0,h.call0 (Heap.one (r:=Yf 3 1 none 0 0 []) (Qmi 3 1 w') (by intro b hb;cases hb)),rfl⟩
def Eg (n:Int):List Int->Nat->List Int->List Int×Int
 | out,z,[]=>(out++Fe z++[n+1],0)
 | out,z,v::r=>if v=0 then Eg n out (z+1) r else if v < 0∨n<=v then ([],60) else Eg n (out++Fe z++[v+1]) 0 r
def Ia (n:Int) (l:List Int):List Int×Int:=if n < 1∨256 < n then ([],2) else Eg n [] 0 l
theorem Qwr (n:Int) (l:List Int) (la:OA) (lc:Nat) (hn:I64 n) (w:World) (hl:RS w la l.length 1 (Br l)) (hs:l.length<=17592186044400) (hi:∀ v∈l,I64 v) :
  Does Yq 140 #[.int .i64 n,.slice la l.length lc] w (IntsErr (Ia n l) w):=by
 refine En [.int .i64 n,.slice la l.length lc] 68 Tryz.func140 ?_;refine VS [0,1] ?_;refine VQ [0,1,14] fun K hK=>?_
 have out:(n < 1∨256 < n)->K [(0,.int .i64 n),(1,.slice la l.length lc),(14,.bool true)] w:=by
  intro h;apply hK;clear hK;refine Ai rfl rfl (fun _=>?_) (fun h=>by cases h);refine VS [4,5] ?_;refine Ae (Bp rfl rfl rfl ?_);rw [Ia,if_pos h];exact IntsErr.nil (Y9 w) 2
 refine ⟨fun h1=>?_,fun h1=>out (.inl h1)⟩;by_cases h2:256 < n
 ·
  rw [decide_eq_true h2];exact out (.inr h2)
 rw [decide_eq_false h2];clear out;apply hK;clear hK;refine Ai rfl rfl (fun h=>by cases h) (fun _=>Ad ?_);rw [Ia,if_neg (by omega)];refine VS [0,1,6] ?_;refine VS [0,1,6,7] ?_;(repeat refine Aw ?_);refine Do [0,6] (fun e w'=>∃ (cap:Nat) (a:OA) (o:List Int),Is e [(0,.int .i64 n),(6,.slice a o.length cap)]/\Heap w [] w' [Yf 3 1 a o.length cap (Br o)]/\o.length<=l.length/\Eg n [] 0 l=(o++[n+1],0)) (Aq ?_) ?_
 rotate_left
 ·
  rintro e w2 ⟨cap,a,o,rfl,hH,g1,g2⟩;refine VQ [4,5] fun K hK=>?_;(repeat first | refine Qo ?_ | refine Qp ?_);refine Oi (xs:=[.tmp 65]) Yu O8 rfl rfl rfl (by omega) ?_;refine Qs ?_;refine ⟨by simp [Uf],?_⟩;refine Ce ?_;refine Qs ?_;refine Z1 hH 0 rfl Yu Ib (fun h=>by (first | omega | (simp;done) | (simp;omega))) fun a' cap' w5 hc' hH6=>?_;(try refine Qs ?_);apply hK;clear hK;refine Ae (Bp rfl rfl rfl ?_);rw [g2];exact ⟨_,_,hH6,rfl⟩
 refine Ay [0,1,6,7] (fun m e w'=>∃ (i cap:Nat) (a:OA) (o:List Int),Is e [(0,.int .i64 n),(1,.slice la l.length lc),(6,.slice a o.length cap),(7,.int .i64 i)]/\Heap w [] w' [Yf 3 1 a o.length cap (Br o)]/\i<=l.length/\o.length<=i/\Eg n [] 0 l=Eg n o 0 (l.drop i)/\m=l.length - i) l.length ?_ ?_
 ·
  refine Qs ?_;exact ⟨0,0,none,[],rfl,Sq,by omega,by simp,rfl,rfl⟩
 rintro m e w2 ⟨i,cap,a,o,rfl,hH,g1,g2,g3,rfl⟩;refine VS [0,1,6,7,18] ?_;refine VD (fun h=>?_) (fun h=>?_)
 ·
  refine Ad ?_;refine Aq ?_;refine Qyn ?_;refine VS [0,1,6,7,8] ?_;(repeat refine Aw ?_);refine Qxr ?_;(repeat refine Aw ?_);refine Do [0,1,6,7,8] (fun e w'=>∃ j z:Nat,Is e [(0,.int .i64 n),(1,.slice la l.length lc),(6,.slice a o.length cap),(7,.int .i64 j),(8,.int .i64 z)]/\Is w' w2/\j<=l.length/\i<=j/\z=j - i/\Eg n [] 0 l=Eg n o z (l.drop j)/\(j < l.length->l.getD j 0≠0)) ?_ ?_
  ·
   refine Aq ?_;refine Ay [0,1,6,7,8] (fun m e w'=>∃ (j z:Nat),Is e [(0,.int .i64 n),(1,.slice la l.length lc),(6,.slice a o.length cap),(7,.int .i64 j),(8,.int .i64 z)]/\Is w' w2/\j<=l.length/\i<=j/\z=j - i/\Eg n [] 0 l=Eg n o z (l.drop j)/\m=l.length - j) (l.length - i) ?_ ?_
   ·
    refine Qs ?_;exact ⟨i,0,rfl,rfl,g1,by omega,by omega,g3,rfl⟩
   rintro m e w' ⟨j,z,rfl,rfl,k1,k2,k3,k4,rfl⟩;refine VS [0,1,6,7,8,22] ?_;refine VD (fun h=>?_) (fun h=>?_)
   ·
    refine Ad ?_;refine Aq ?_;obtain ⟨p,rfl⟩:=Ek hl (by omega);have hl2:=hH.rs' hl;refine VQ [0,1,6,7,8,27] fun K hK=>?_;refine ⟨⟨by omega,by omega⟩,_,Qm6 hl2 (show j < l.length by omega),?_⟩;refine Qs ?_;apply hK;clear hK;have k4':=k4;rw [drop_getD 0 (by omega),Eg] at k4;refine Vi (fun h=>?_) (fun h=>?_)
    ·
     simp only [decide_eq_true_eq] at h;refine Ax rfl ?_;refine Ah ?_;refine Qs ?_;exact ⟨j,z,rfl,rfl,k1,k2,k3,k4',fun _=>h⟩
    simp only [decide_eq_false_iff_not,Decidable.not_not] at h;rw [if_pos h] at k4;refine Ad ?_;refine VS [0,1,6,7,8] ?_;refine VS [0,1,6,7,8] ?_;refine An ?_;refine Ah ?_;refine Qs ?_;exact ⟨l.length - (j+1),by omega,j+1,z+1,rfl,rfl,by omega,by omega,by omega,k4,rfl⟩
   refine Ax rfl ?_;refine Ah ?_;refine Qs ?_;exact ⟨j,z,rfl,rfl,k1,k2,k3,k4,fun h'=>by omega⟩
  rintro e w' ⟨j,z,rfl,rfl,k1,k2,k3,k4,k5⟩;have hdl:=Zq z z (Y1 _);refine VQ [0,1,6,7] fun K hK=>?_;refine Aa Tryz.call181 ?_;refine Qs ?_;refine Yo (Qov z w' (by omega)) ?_;rintro v w2 ⟨a2,c2,hH2,rfl⟩;have hH3:=hH.call0 hH2;refine Ce ?_;refine Qs ?_;refine Qu6 hH3 1 rfl Yu Ib (t:=Fe z) (by simp) (As (hH2.at 0 rfl)) (fun h=>by (first | omega | (simp;done) | (simp;omega))) fun a' cap' w5 hc' hH4=>?_;(try refine Qs ?_);apply hK;clear hK;have hol:(o++Fe z).length<=j:=by simp;omega
  refine VS [0,1,6,7,39] ?_;refine VD (fun h=>?_) (fun h=>?_)
  ·
   refine Ax rfl (Ah ?_);refine Qs ?_;rw [Xb (by omega),Eg] at k4;exact ⟨_,_,_,rfl,hH4.sub (by simp),by omega,k4⟩
  refine Ad ?_;obtain ⟨p,rfl⟩:=Ek hl (by omega);have hl2:=hH4.rs' hl;have hc:=Qm6 hl2 (show j < l.length by omega);have hj:=k5 (by omega);rw [drop_getD 0 (by omega),Eg,if_neg hj] at k4;have hr:=hi _ (Ez 0 (show j < l.length by omega));generalize l.getD j 0=v at *;obtain ⟨hr1,hr2⟩:=hr;refine VQ [0,1,6,7,52] fun K hK=>?_;refine ⟨⟨by omega,by omega⟩,_,hc,?_⟩;refine Qs ?_
  have out:(v < 0∨n<=v)->K [(0,.int .i64 n),(1,.slice (some p) l.length lc),(6,.slice a' (o++Fe z).length cap'),(7,.int .i64 j),(52,.bool true)] w5:=by
   intro h;apply hK;clear hK;refine Ai rfl rfl (fun _=>?_) (fun h=>by cases h);refine VS [4,5] ?_;refine Ae (Bp rfl rfl rfl ?_);rw [k4,if_pos h];exact IntsErr.nil (hH4.sub (by simp)) 60
  refine ⟨fun f1=>⟨⟨by omega,by omega⟩,_,hc,?_⟩,fun f1=>out (.inl f1)⟩;refine Qs ?_;by_cases f2:n<=v
  ·
   rw [decide_eq_true f2];exact out (.inr f2)
  rw [decide_eq_false f2];clear out;rw [if_neg (by omega)] at k4;apply hK;clear hK;refine Ai rfl rfl (fun h=>by cases h) (fun _=>Ad ?_);refine VQ [0,1,6,7] fun K hK=>?_;refine ⟨⟨by omega,by omega⟩,_,hc,?_⟩;refine Qs ?_;(repeat first | refine Qo ?_ | refine Qp ?_);refine Oi (xs:=[.tmp 58]) Yu O8 rfl rfl rfl (by omega) ?_;refine Qs ?_;refine ⟨by simp [Uf],?_⟩;refine Ce ?_;refine Qs ?_;refine Z1 hH4 1 rfl Yu Ib (fun h=>by (first | omega | (simp;done) | (simp;omega))) fun a' cap' w5 hc' hH6=>?_;(try refine Qs ?_);apply hK;clear hK;refine VS [0,1,6,7] ?_;refine An ?_;refine Ah ?_;refine Qs ?_;exact ⟨l.length - (j+1),by omega,j+1,_,_,_,rfl,hH6.sub (by simp),by omega,by simp at hol ⊢;omega,k4,rfl⟩
 refine Ax rfl (Ah ?_);refine Qs ?_;rw [Xb (by omega),Eg,Q5,Yk] at g3;exact ⟨_,_,_,rfl,hH,by omega,g3⟩
def QQo (n:Int) (out:List Int):List Int->List Int×Int
 | []=>(out,0)
 | x::_=>if x < 0∨n+1 < x then ([],60) else ([],70)
def O7 (n most:Int):List Int->Nat->List Int->List Int×Int
 | _,_,[]=>([],70)
 | out,wt,s::r=>if s < 0∨n+1 < s then ([],60)
  else if s < 2 then (if most - out.length < (s+1) * wt then ([],3) else O7 n most (out++Ya ((s+1) * wt).toNat 0) (2 * wt) r)
  else if s=n+1 then QQo n out r
  else if most<=out.length then ([],3) else O7 n most (out++[s - 1]) 1 r
def Ot (n most:Int) (l:List Int):List Int×Int:=if n < 1∨256 < n∨most < 0∨262144 < most then ([],2) else O7 n most [] 1 l
theorem intsV_zero (m:Nat):Ya m (Y6 .i64 0)=Br (Ya m 0):=by simp [Br]
def I5 (b:UInt8):LB->Nat
 | []=>0
 | c::l=>if c=b then I5 b l+1 else 0
def Ch:LB->Nat
 | []=>0
 | b::l=>min 255 (I5 b l+1)
def I9 (n:Nat) (l:LB):LB:=if n < 4 then l.take n else l.take 4++[Gk (n - 4)]
def Tp:Nat->LB->LB
 | 0,_=>[]
 | _,[]=>[]
 | f+1,b::l=>I9 (Ch (b::l)) (b::l)++Tp f ((b::l).drop (Ch (b::l)))
def enc (l:LB):LB:=Tp l.length l
theorem Qws (b:UInt8) (l:LB):∀ n,(∀ j,j < n->l[j]? = some b)->(l[n]? ≠ some b)->I5 b l=n:=by
 induction l with
 | nil =>
  intro n h1 _;cases n with
  | zero=>rfl
  | succ n=>have:=h1 0 (by omega);simp at this
 | cons c l ih =>
  intro n h1 h2;cases n with
  | zero =>
   have:¬ c=b:=by simpa using h2
   simp [I5,this]
  | succ n =>
   have:c=b:=by simpa using h1 0 (by omega)
   simp only [I5,this,if_true];rw [ih n (fun j hj=>by simpa using h1 (j+1) (by omega)) (by simpa using h2)]
theorem QFp (b:UInt8) (l:LB):∀ n,(∀ j,j < n->l[j]? = some b)->n<=I5 b l:=by
 induction l with
 | nil =>
  intro n h1;cases n with
  | zero=>omega
  | succ n=>have:=h1 0 (by omega);simp at this
 | cons c l ih =>
  intro n h1;cases n with
  | zero=>omega
  | succ n =>
   have:c=b:=by simpa using h1 0 (by omega)
   simp only [I5,this,if_true];have:=ih n (fun j hj=>by simpa using h1 (j+1) (by omega));omega
theorem QFq (b:UInt8) (l:LB):I5 b l<=l.length:=by
 induction l with
 | nil=>simp [I5]
 | cons c l ih=>simp only [I5];split <;> simp <;> omega
theorem Qz5 (b:UInt8) (l:LB):l[I5 b l]? ≠ some b:=by
 induction l with
 | nil=>simp [I5]
 | cons c l ih =>
  simp only [I5];split
  ·
   simpa using ih
  rename_i hc;simpa using hc
def QQp (l:LB) (i n:Nat):Prop:=∀ j,j < n->l[i+j]? = l[i]?
theorem Qp5 (l:LB) (i n:Nat) (hi:i < l.length) (h1:1<=n) (h2:n<=255) (hs:QQp l i n) (he:n=255∨l[i+n]? ≠ l[i]?):Ch (l.drop i)=n:=by
 have hd:l.drop i=l[i]::l.drop (i+1):=Xe hi;rw [hd];simp only [Ch];have hg:l[i]? = some l[i]:=Yb hi
 have hj:∀ j,j < n - 1->(l.drop (i+1))[j]? = some l[i]:=fun j hj=>by
  rw [Xm,show i+1+j=i+(j+1) by omega,hs (j+1) (by omega),hg]
 rcases he with he | he
 ·
  have:=QFp _ _ _ hj;omega
 have:=Qws l[i] (l.drop (i+1)) (n - 1) hj (by rw [Xm,show i+1+(n - 1)=i+n by omega,<- hg];exact he);omega
theorem Lx (l:LB) (h:l≠[]):1<=Ch l:=by
 cases l with
 | nil=>exact absurd rfl h
 | cons b l=>simp only [Ch];omega
theorem Pi (l:LB):Ch l<=l.length/\Ch l<=255:=by
 cases l with
 | nil=>simp [Ch]
 | cons b l=>have:=QFq b l;simp only [Ch,Y7];omega
theorem Qee (l:LB) (h:l≠[]) (f:Nat):Tp (f+1) l=I9 (Ch l) l++Tp f (l.drop (Ch l)):=by
 cases l with
 | nil=>exact absurd rfl h
 | cons b l=>rfl
theorem Qwt:∀ (f g:Nat) (l:LB),l.length<=f->l.length<=g->Tp f l=Tp g l:=by
 intro f
 induction f with
 | zero =>
  intro g l hf _;have:l=[]:=Y5 (by omega);subst this;cases g <;> rfl
 | succ f ih =>
  intro g l hf hg;by_cases hl:l=[]
  ·
   subst hl;cases g <;> rfl
  cases g with
  | zero=>exact absurd (Y5 (by omega)) hl
  | succ g =>
   rw [Qee l hl,Qee l hl];have:=Lx l hl;rw [ih g _ (by simp;omega) (by simp;omega)]
theorem Q6 (l:LB) (h:l≠[]):enc l=I9 (Ch l) l++enc (l.drop (Ch l)):=by
 have hp:0 < l.length:=Us.2 h;have hr:=Lx l h;unfold enc;rw [show l.length=(l.length - 1)+1 by omega,Qee l h];rw [Qwt (l.length - 1) (l.drop (Ch l)).length _ (by simp;omega) (Y1 _)]
theorem Pq:enc []=[]:=rfl
theorem Pe (n:Nat) (l:LB) (h:n<=l.length):(I9 n l).length=if n < 4 then n else 5:=by
 unfold I9;split <;> simp <;> omega
theorem Qci (l:LB):(enc l).length<=l.length+l.length / 4:=by
 induction hn:l.length using Nat.strongRecOn generalizing l with
 | _ n ih =>
  subst hn;by_cases hl:l=[]
  ·
   subst hl;simp [Pq]
  rw [Q6 l hl];have h1:=Lx l hl;have h2:=(Pi l).1;have:=ih (l.drop (Ch l)).length (by simp;omega) _ rfl;rw [Yl,Pe _ _ h2];simp only [Xu] at this;split <;> omega
theorem Qfi {l:LB}{i j:Nat} (hi:i < l.length) (hj:j < l.length):(((l.getD i 0).toNat:Int)=((l.getD j 0).toNat:Int)) ↔ l[i]? = l[j]? := by
 rw [Yb hi,Yb hj,Yc,Yc,Yb hi,Yb hj];simp only [Xv,Option.some.injEq];exact ⟨fun h=>Ge.1 (by omega),fun h=>by rw [h]⟩
theorem Qp6 (l:LB) (i:Nat) (w:World) (hi:i < l.length) (hs:l.length<=1000000000000000000) :
  Does Yq 177 #[Ab l,.int .i64 i] w fun v w'=>w'=w/\v=.int .i64 (Ch (l.drop i)):=by
 refine En [Ab l,.int .i64 i] 30 Tryz.func177 ?_;refine VS [0,1] ?_;refine VS [0,1,5] ?_;refine VB ?_;refine Ay [0,1,5] (fun m e w'=>∃ n:Nat,Is e [(0,Ab l),(1,.int .i64 i),(5,.int .i64 n)]/\Is w' w/\1<=n/\n<=255/\QQp l i n/\m=255 - n) 254 ?_ ?_
 ·
  refine Qs ?_;exact ⟨1,rfl,rfl,by omega,by omega,fun j hj=>by rw [show j=0 by omega];rfl,rfl⟩
 rintro m e w' ⟨n,rfl,rfl,h1,h2,h3,rfl⟩;refine Vq [0,1,5,26] fun K hK=>?_
 have done:(n=255∨l[i+n]? ≠ l[i]?)->K [(0,Ab l),(1,Y6 Xd i),(5,Y6 Xd n),(26,Value.bool false)]:=by
  intro hend;apply hK;clear hK;refine Ai rfl rfl (fun h=>by cases h) (fun _=>?_);refine Ax rfl ?_;refine VS [4] ?_;refine Ae (Al rfl rfl ⟨rfl,?_⟩);rw [Qp5 l i n hi h1 h2 h3 hend]
 refine ⟨fun g1=>⟨Xn (by omega) (by omega),fun g2=>⟨Xn (by omega) (by omega),by omega,by omega,?_⟩,fun g2=>done (.inr ?_)⟩,fun g1=>done (.inl (by omega))⟩
 ·
  by_cases hc:l[i+n]? = l[i]?
  ·
   (apply hK;clear hK)
   refine Vi (fun h=>?_) (fun h=>?_)
   ·
    refine Ad (Aq ?_);refine VS [0,1,5] ?_;refine An (Ah ?_);refine Qs ?_;refine ⟨255 - (n+1),by omega,n+1,rfl,rfl,by omega,by omega,?_,rfl⟩;intro j hj;by_cases hjn:j=n
    ·
     rw [hjn];exact hc
    exact h3 j (by omega)
   exfalso;simp only [decide_eq_false_iff_not] at h;rw [Qfi (by omega) hi] at h;exact h hc
  have e:decide ((((l.getD (i+n) 0).toNat:Nat):Int)=(((l.getD i 0).toNat:Nat):Int))=false:=by
   rw [decide_eq_false_iff_not,Qfi (by omega) hi];exact hc
  rw [e];exact done (.inr hc)
 rw [Ym (by omega),Yb hi];simp
theorem Qz6 (l:LB) (w:World) (hs:l.length<=140737488355328) :
  Does Yq 136 #[Ab l] w fun v w'=>Heap w [] w' []/\v=Ab (enc l):=by
 refine En [Ab l] 48 Tryz.func136 ?_;refine VS [0] ?_;refine VQ [0,3] fun K hK=>?_;refine ⟨by omega,by omega,Xn (by omega) (by omega),Xn (by omega) (by omega),?_⟩;refine Ew Xq Mv ?_;refine Qs ?_;refine ⟨0,l.length+l.length / 4,⟨rfl,rfl,by omega,by omega,by omega⟩,?_⟩;have hH:=(Y9 w).row 5 (n:=0) (cap:=l.length+l.length / 4) (sz:=1) [] (Ya (l.length+l.length / 4) (.int .u8 0)) (by simp) (by simp) (by omega) (by omega);simp only [Yh] at hH;generalize w.alloc (Yp (Ya (l.length+l.length / 4) (Y6 IntKind.u8 0)).toArray 5)=w1 at hH ⊢;generalize (some ⟨w.heap.size,0,none⟩:OA)=a at hH ⊢;apply hK;clear hK;refine VS [0,3,4] ?_;refine VB ?_;refine Ay [0,3,4] (fun m e w'=>∃ (i:Nat) (o:LB),Is e [(0,Ab l),(3,.slice a o.length (l.length+l.length / 4)),(4,.int .i64 i)]/\Heap w [] w' [Yf 5 1 a o.length (l.length+l.length / 4) (Ao o)]/\i<=l.length/\enc l=o++enc (l.drop i)/\o.length<=i+i / 4/\m=l.length - i) l.length ?_ ?_
 ·
  refine Qs ?_;exact ⟨0,[],rfl,hH,by omega,rfl,by simp,rfl⟩
 rintro m e w2 ⟨i,o,rfl,hH,h1,h2,h3,rfl⟩;refine VS [0,3,4,16] ?_;refine Ai rfl rfl (fun hlt=>?_) (fun hge=>?_)
 ·
  simp only [decide_eq_true_eq] at hlt;refine Ad (Aq ?_);have hn1:1<=Ch (l.drop i):=Lx _ (by intro h;have:=congrArg Xp h;simp at this;omega);have hn2:=Pi (l.drop i);rw [Xu] at hn2;have hstep:=Q6 (l.drop i) (by intro h;have:=congrArg Xp h;simp at this;omega);rw [Gl] at hstep;refine VQ [0,3,4,5] fun K hK=>?_;refine Aa Tryz.call177 ?_;refine Qs ?_;refine Yo (Qp6 l i w2 (by omega) (by omega)) ?_;rintro v w' ⟨rfl,rfl⟩;apply hK;clear hK;generalize hn:Ch (l.drop i)=n at hn1 hn2 hstep ⊢;refine VS [0,3,4,5,21] ?_;refine Do [0,3,4,5] (fun e w3=>Is e [(0,Ab l),(3,.slice a (o++I9 n (l.drop i)).length (l.length+l.length / 4)),(4,.int .i64 i),(5,.int .i64 n)]/\Heap w [] w3 [Yf 5 1 a (o++I9 n (l.drop i)).length (l.length+l.length / 4) (Ao (o++I9 n (l.drop i)))]) ?_ ?_
  ·
   refine Ai rfl rfl (fun hn4=>?_) (fun hn4=>?_)
   ·
    simp only [decide_eq_true_eq] at hn4;refine VQ [0,3,4,5] fun K hK=>?_;refine ⟨Xn (by omega) (by omega),by omega,?_⟩;refine Ce ?_;refine Qs ?_
    have e:I9 n (l.drop i)=List.take (i+n - i) (List.drop i l):=by
     rw [I9,if_pos (by omega)];congr 1;omega
    rw [<- e]
    have el:(o++I9 n (l.drop i)).length<=l.length+l.length / 4:=by
     rw [Yl,Pe _ _ (by simp;omega),if_pos (by omega)];omega
    refine Qo9 hH 0 rfl Xq Mv U3 (fun h=>by omega) fun a' cap' w' hc hH=>?_;obtain ⟨rfl,rfl⟩:=hc el;apply hK;clear hK;refine Ah ?_;refine Qs ?_;exact ⟨rfl,hH⟩
   simp only [decide_eq_false_iff_not] at hn4
   have e:I9 n (l.drop i)=List.take (i+4 - i) (List.drop i l)++[Gk (n - 4)]:=by
    rw [I9,if_neg (by omega)];congr 2;omega
   have el:(o++I9 n (l.drop i)).length<=l.length+l.length / 4:=by
    rw [Yl,Pe _ _ (by simp;omega),if_neg (by omega)];omega
   rw [e,<- Yi] at el ⊢;generalize ht:List.take (i+4 - i) (List.drop i l)=t at el ⊢;have el2:(o++t).length<=l.length+l.length / 4:=by simp at el ⊢;omega
   refine VQ [0,3,4,5] fun K hK=>?_;refine ⟨Xn (by omega) (by omega),by omega,?_⟩;refine Ce ?_;refine Qs ?_;rw [ht];refine Qo9 hH 0 rfl Xq Mv U3 (fun h=>by omega) fun a' cap' w' hc hH=>?_;obtain ⟨rfl,rfl⟩:=hc el2;apply hK;clear hK;refine VQ [0,3,4,5] fun K hK=>?_;refine ⟨Xn (by omega) (by omega),?_⟩;refine Oi (xs:=[.tmp 40]) Xq E5 rfl rfl rfl (by omega) ?_;refine Qs ?_;refine ⟨by simp [Uf],?_⟩;refine Ce ?_;refine Qs ?_;refine Qdx hH 0 (Gk (n - 4)) rfl Xq Mv (by simp;omega) (fun h=>by omega) fun a' cap' w' hc hH=>?_;obtain ⟨rfl,rfl⟩:=hc el;apply hK;clear hK;refine Ah ?_;refine Qs ?_;exact ⟨rfl,hH⟩
  rintro e w3 ⟨rfl,hH⟩;refine VS [0,3,4] ?_;refine An (Ah ?_);refine Qs ?_;refine ⟨l.length - (i+n),by omega,i+n,o++I9 n (l.drop i),rfl,hH,by omega,?_,?_,rfl⟩
  ·
   rw [h2,hstep,Yi]
  rw [Yl,Pe _ _ (by simp;omega)];split <;> omega
 simp only [decide_eq_false_iff_not] at hge;refine Ax rfl ?_;refine VQ [2] fun K hK=>?_;refine ⟨o,hH.readsBytes 0 rfl,?_⟩;apply hK;clear hK;refine Ae (Al rfl rfl ⟨hH.sub (by simp),?_⟩);rw [h2,Xb (by omega),Pq,Yk]
def K8:LB->Nat->LB->LB×Int
 | out,same,[]=>if same=4 then ([],30) else (out,0)
 | out,same,c::s =>
  if same=4 then (if 262144 < out.length+c.toNat then ([],3) else K8 (out++Ya c.toNat (out.getLastD 0)) 0 s)
  else if out.length=262144 then ([],3) else K8 (out++[c]) (if 0 < same/\out.getLastD 0=c then same+1 else 1) s
def Tail (out:LB) (k:Nat):Prop:=k<=out.length/\∀ j,j < k->out[out.length - 1 - j]? = some (out.getLastD 0)
theorem Tail.zero (out:LB):Tail out 0:=⟨Nat.zero_le _,fun j hj=>by omega⟩
theorem Tail.one (out:LB) (c:UInt8):Tail (out++[c]) 1:=⟨by simp,fun j hj=>by rw [show j=0 by omega];simp [Ux]⟩
theorem Tail.succ {out:LB}{k:Nat}{c:UInt8} (h:Tail out k) (hc:out.getLastD 0=c):Tail (out++[c]) (k+1):=by
 refine ⟨by have:=h.1;simp;omega,fun j hj=>?_⟩;have e:(out++[c]).getLastD 0=c:=by simp [Ux]
 rw [e];cases j with
 | zero=>simp
 | succ j =>
  have h1:=h.2 j (by omega);have hk:=h.1;rw [Xg (by simp;omega)];rw [show (out++[c]).length - 1 - (j+1)=out.length - 1 - j by simp;omega,h1,hc]
theorem Tail.drop {out:LB}{k:Nat} (h:Tail out k):out.drop (out.length - k)=Ya k (out.getLastD 0):=by
 apply Yz;intro j;rw [Xm,Y3];split
 ·
  rename_i hj;have:=h.2 (k - 1 - j) (by omega);have hk:=h.1;rw [show out.length - k+j=out.length - 1 - (k - 1 - j) by omega,this]
 rename_i hj;have hk:=h.1;rw [Ym (by omega)]
theorem bytesV_take (l:LB) (k:Nat):(Ao l).take k=Ao (l.take k):=by simp [Ao]
theorem bytesV_drop (l:LB) (k:Nat):(Ao l).drop k=Ao (l.drop k):=by simp [Ao]
theorem bytesV_zero (n:Nat):Ya n (Y6 .u8 0)=Ao (Ya n 0):=by simp [Ao]
theorem bytesV_get {l:LB}{i:Nat} (h:i < l.length):(Ao l)[i]? = some (.int .u8 (l.getD i 0).toNat):=by
 simp [Ao,Yb h,Yc]
def Fk (n:Nat):Nat:=if n<=3 then n else 5
def Tq:Nat->LB->Int->Nat
 | 0,_,_=>0
 | _+1,[],_=>0
 | f+1,x::l,left =>
  if left < (Fk (Ch (x::l)):Int) then (max 0 (min left 3)).toNat
  else Ch (x::l)+Tq f ((x::l).drop (Ch (x::l))) (left - (Fk (Ch (x::l)):Int))
theorem Qwu (f:Nat):∀ (g:Nat) (l:LB) (left:Int),l.length<=f->l.length<=g->Tq f l left=Tq g l left:=by
 induction f with
 | zero =>
  intro g l left h1 h2;have:l=[]:=Y5 (by omega);subst this;cases g <;> rfl
 | succ f ih =>
  intro g l left h1 h2;cases l with
  | nil=>cases g <;> rfl
  | cons x l =>
   cases g with
   | zero=>simp at h2
   | succ g =>
    have hp:=Lx (x::l) (by simp);simp only [Tq];simp only [Y7] at h1 h2;rw [ih g ((x::l).drop (Ch (x::l))) _ (by simp;omega) (by simp;omega)]
def fit (l:LB) (left:Int):Nat:=Tq l.length l left
theorem Qmw (left:Int):fit [] left=0:=rfl
theorem Qix (l:LB) (left:Int) (h:l≠[]) :
  fit l left=if left < (Fk (Ch l):Int) then (max 0 (min left 3)).toNat else Ch l+fit (l.drop (Ch l)) (left - (Fk (Ch l):Int)):=by
 cases l with
 | nil=>exact absurd rfl h
 | cons x l =>
  have hp:=Lx (x::l) (by simp);rw [fit,Y7,Tq];rw [Qwu l.length ((x::l).drop (Ch (x::l))).length ((x::l).drop (Ch (x::l))) _ (by simp;omega) (Y1 _)];rfl
theorem Qz7 (l:LB) (most:Int) (hm:I64 most) (w:World) (hs:l.length<=140737488355328) :
  Does Yq 135 #[Ab l,.int .i64 most] w fun v w'=>w'=w/\v=.int .i64 (fit l most):=by
 refine En [Ab l,.int .i64 most] 40 Tryz.func135 ?_;have hm1:=hm.1;have hm2:=hm.2;refine VS [0,1] ?_;refine VS [0,1,5] ?_;refine VS [0,1,5,6] ?_;refine VB ?_;refine Ay [0,1,5,6] (fun m e w'=>∃ (i:Nat) (used:Int),Is e [(0,Ab l),(1,.int .i64 most),(5,.int .i64 used),(6,.int .i64 i)]/\Is w' w/\i<=l.length/\0<=used/\used<=2 * i/\(used=0∨used<=most)/\fit l most=i+fit (l.drop i) (most - used)/\m=l.length - i) l.length ?_ ?_
 ·
  refine Qs ?_;exact ⟨0,0,rfl,rfl,by omega,by omega,by omega,.inl rfl,by simp,by omega⟩
 rintro m e w' ⟨i,used,rfl,rfl,g1,g2,g3,g4,g5,rfl⟩;refine VS [0,1,5,6,12] ?_;refine Ai rfl rfl (fun hlt=>?_) (fun hge=>?_)
 ·
  simp only [decide_eq_true_eq] at hlt;refine Ad (Aq ?_);have hne:l.drop i≠[]:=by intro h;have:=congrArg Xp h;simp at this;omega
  have hp:=Lx _ hne;have hle:=Pi (l.drop i);simp only [Xu] at hle;have hst:=Qix (l.drop i) (most - used) hne;generalize hn:Ch (l.drop i)=n at hp hle hst;have hc0:(Fk n:Int)<=2 * n:=by simp only [Fk];split <;> omega
  have hc1:0<=(Fk n:Int):=by omega
  refine VQ [0,1,5,6,7] fun K hK=>?_;refine Aa Tryz.call177 ?_;refine Qs ?_;refine Yo (Qp6 l i w' (by omega) (by omega)) ?_;rintro v w2 ⟨rfl,rfl⟩;rw [hn];apply hK;clear hK;refine VS [0,1,5,6,7,8] ?_;refine VS [0,1,5,6,7,8,19] ?_;refine Do [0,1,5,6,7,8] (fun e w3=>Is e [(0,Ab l),(1,.int .i64 most),(5,.int .i64 used),(6,.int .i64 i),(7,.int .i64 n),(8,.int .i64 (Fk n:Nat))]/\Is w3 w2) ?_ ?_
  ·
   refine Ai rfl rfl (fun hn4=>?_) (fun hn4=>?_)
   ·
    simp only [decide_eq_true_eq] at hn4;refine VS [0,1,5,6,7,8] ?_;refine Ah ?_;refine Qs ?_;exact ⟨by rw [Fk,if_neg (by omega)];rfl,rfl⟩
   simp only [decide_eq_false_iff_not] at hn4;refine Ad (Ah ?_);refine Qs ?_;exact ⟨by rw [Fk,if_pos (by omega),Int.min_eq_left (by omega)];rfl,rfl⟩
  rintro e w3 ⟨rfl,rfl⟩;refine VS [0,1,5,6,7,8,24] ?_;refine Ai rfl rfl (fun hc=>?_) (fun hc=>?_)
  ·
   simp only [decide_eq_true_eq] at hc;refine VS [4] ?_;refine Ae (Al rfl rfl ⟨rfl,?_⟩);rw [g5,hst,if_pos (by omega)];have:((i+(max 0 (min (most - used) 3)).toNat:Nat):Int)=i+max 0 (min (most - used) 3):=by omega
   rw [this]
  simp only [decide_eq_false_iff_not] at hc;refine Ad ?_;refine VS [0,1,5,6,7] ?_;refine VS [0,1,5,6] ?_;refine An (Ah ?_);refine Qs ?_;refine ⟨l.length - (i+n),by omega,i+n,used+Fk n,rfl,rfl,by omega,by omega,by omega,.inr (by omega),?_,rfl⟩;rw [g5,hst,if_neg (by omega),Gl];have e1:most - used - (Fk n:Int)=most - (used+(Fk n:Int)):=by omega
  rw [e1];omega
 simp only [decide_eq_false_iff_not] at hge;refine Ax rfl ?_;refine VS [4] ?_;refine Ae (Al rfl rfl ⟨rfl,?_⟩);have:i=l.length:=by omega
 rw [g5,this];simp [Qmw]
set_option maxHeartbeats 2000000
def Ts (used:LB) (list:LN) (row most:Int):LB×Int :=
 if (Ot used.length most (ni list)).2≠0 then ([],(Ot used.length most (ni list)).2)
 else if (Q4 used (Ot used.length most (ni list)).1).2≠0 then ([],(Q4 used (Ot used.length most (ni list)).1).2)
 else if (Wy (Q4 used (Ot used.length most (ni list)).1).1 row).2≠0 then ([],(Wy (Q4 used (Ot used.length most (ni list)).1).1 row).2)
 else K8 [] 0 (Wy (Q4 used (Ot used.length most (ni list)).1).1 row).1
abbrev pt (g:Nat):Value:=.pointer (some ⟨g,0,none⟩)
set_option maxHeartbeats 4000000
def Lq (l:List Bool) (a:Nat):Nat×Nat×Nat×Nat :=
 if l.length < a+48 then (0,0,0,10)
 else if Cc ((l.drop a).take 48)≠54156738319193 then (0,0,0,120)
 else if l.length < a+80 then (0,0,0,10)
 else if l.length < a+81 then (0,0,0,10)
 else if Cc ((l.drop (a+80)).take 1)≠0 then (0,0,0,120)
 else if l.length < a+105 then (0,0,0,10)
 else (Cc ((l.drop (a+48)).take 32),Cc ((l.drop (a+81)).take 24),a+105,0)
theorem Qh0 {P:Program}{T:TypeId}{g T':Nat}{v:Value}{w:World}{K:Value->Prop} (h:(Ye g T' [v]).holds w) (hd:Ol (P.underlying T)=false) (hs:(P.underlying T).isSome=true) (hk:K v):Bf P T (.pointer (some ⟨g,0,none⟩)) w K:=by
 have hc:w.cell? ⟨g,0,none⟩=some v:=Af h rfl;unfold Bf;cases hu:P.underlying T with
 | none=>simp [hu] at hs
 | some d =>
  cases d <;> first
   | (exfalso;simp [Ol,hu] at hd;done)
   | exact ⟨v,hc,hk⟩
theorem QLd {α:Sort _} (a:α):Is a a:=rfl
theorem Qwv (r:Nat) (s:LB) (w:World) (hr:r < 4294967296) (hs:s.length<=1000000000000000000) :
  Does Yq 145 #[.int .u32 r,Ab s] w fun v w'=>Heap w [] w' []/\v=.int .u32 (Nq r s:Nat):=by
 refine En [.int .u32 r,Ab s] 27 Tryz.func145 ?_;refine VS [0,1] ?_;refine VQ [0,1,5] fun K hK=>?_;refine Aa Tryz.call76 ?_;refine Qs ?_;refine Yo (Qhm w) ?_;rintro v w1 ⟨hH,rfl⟩;refine Bo (.agg (Bd (Ya 256 0)).toArray) (by kernel_rfl) ?_;have hH2:=hH.box 139 (Bd (Ya 256 0));have ecells:(U4 (Bd (Ya 256 0)).toArray).cells=(Bd (Ya 256 0)).toArray:=rfl;rw [ecells];generalize w1.alloc (Yp (Bd (Ya 256 0)).toArray 139)=w2 at *;generalize w1.heap.size=g at *;refine Qs ?_;refine Ag ?_;refine Qs ?_;have hlen:(Bd tabs).length=256:=by rw [St,Su]
 have hlen0:(Bd (Ya 256 0)).length=256:=by simp [Bd]
 refine Ap hH2 0 (vs:=Bd tabs) rfl rfl (by rw [hlen];kernel_rfl) (by rw [hlen,hlen0];omega) (by intro u hu;obtain ⟨n,_,rfl⟩:=Y2.1 hu;rfl) fun w6 hH3=>?_
 have e2:(Bd (Ya 256 0)).take 0++Bd tabs++(Bd (Ya 256 0)).drop (0+(Bd tabs).length)=Bd tabs:=by
  rw [Uv,Yh,Xb (by rw [hlen,hlen0];omega),Yk]
 rw [e2] at hH3;have hH4:Heap w [] w6 [Ye g 139 (Bd tabs)]:=hH3;clear hH3 hH2 hH ecells;apply hK;clear hK;refine VS [0,1,5,9,10] ?_;refine VB ?_;refine Ay [0,1,5,9,10] (fun m e w'=>∃ (i:Nat),Is e [(0,.int .u32 (Nq r (s.take i):Nat)),(1,Ab s),(5,.pointer (some ⟨g,0,none⟩)),(9,.int .i64 s.length),(10,.int .i64 i)]/\Is w' w6/\i<=s.length/\m=s.length - i) s.length ?_ ?_
 ·
  refine Qs ?_;exact ⟨0,rfl,rfl,by omega,rfl⟩
 rintro m e w' ⟨i,rfl,rfl,hi,rfl⟩;refine VS [0,1,5,9,10,11] ?_;(repeat refine Aw ?_);refine VD (fun h=>?_) (fun h=>?_)
 ·
  refine Ad ?_;refine VB ?_;refine VS [0,1,5,6,9,10] ?_;have hq:=Zm (s.take i) hr;have htk:=Lv (0:UInt8) (l:=s) (i:=i) (by omega);have hnext:=Ql0 r (s.take i) (s.getD i 0);rw [<- htk,Vy] at hnext;have hb:=(s.getD i 0).toNat_lt;have hx:(Nq r (s.take i) / 16777216) ^^^ (s.getD i 0).toNat < 256:=Ue (n:=8) (by omega) (by omega);have htl:=Qm8 _ hx;have htg:=Qpv hx;generalize Nq r (s.take i)=q at *
  have e1:(q:Int) / 2 ^ By Xz 24 % 256=((q / 16777216:Nat):Int):=by
   rw [show By Xz 24=24 from rfl];omega
  have e3:(q:Int) * 2 ^ By Xz 8 % 4294967296=((q * 256 % 4294967296:Nat):Int):=by
   rw [show By Xz 8=8 from rfl];omega
  refine VQ [0,1,5,9,10] fun K hK=>?_;rw [e1,e3];(repeat first | refine Qo ?_ | refine Qp ?_);(try simp only [Ys]);(repeat first | refine Qo ?_ | refine Qp ?_);refine ⟨_,Af (hH4.at 0 rfl) (Qio (by rw [Su];exact hx)),?_⟩;refine Qs ?_;rw [htg];clear htg hx;generalize tab (q / 16777216 ^^^ (s.getD i 0).toNat)=tb at *;(repeat first | refine Qo ?_ | refine Qp ?_);(try simp only [Ys]);apply hK;clear hK;refine An ?_;refine VS [0,1,5,9,10] ?_;refine Ah ?_;refine Qs ?_;exact ⟨s.length - (i+1),by omega,i+1,by rw [hnext];exact QLd _,rfl,by omega,rfl⟩
 refine Ax rfl ?_;refine VS [4] ?_;rw [Yw (by omega)];exact Ae (Al rfl rfl ⟨hH4.sub (by simp),rfl⟩)
theorem Qef (s:LB) (w:World) (hs:s.length<=1000000000000000000):Does Yq 106 #[Ab s] w fun v w'=>Heap w [] w' []/\v=.int .u32 (Ck s:Nat):=by
 have hlt:=Zm s (r:=4294967295) (by omega);refine En [Ab s] 6 Tryz.func106 ?_;refine VS [0] ?_;refine VQ [2] fun K hK=>?_;refine Aa Tryz.call145 ?_;refine Qs ?_;refine Yo (Qwv 4294967295 s w (by omega) hs) ?_;rintro v w1 ⟨hH,rfl⟩;refine Qs ?_;refine Qp ?_;have e:4294967295 - ((Nq 4294967295 s:Nat):Int)=((Ck s:Nat):Int):=by unfold Ck;omega
 rw [e];apply hK;clear hK;exact Ae (Al rfl rfl ⟨hH,rfl⟩)
theorem Qgr (l:LN) (x:Nat):I6 (l++[x])=((I6 l * 2 % 4294967296) ||| I6 l / 2147483648) ^^^ x:=by simp [I6]
theorem Qaq (l:LN) (h:∀ x∈l,x < 4294967296):I6 l < 4294967296:=by
 have:∀ (l:LN) (c:Nat),c < 4294967296->(∀ x∈l,x < 4294967296)->l.foldl (fun c x=>((c * 2 % 4294967296) ||| c / 2147483648) ^^^ x) c < 4294967296:=by
  intro l
  induction l with
  | nil=>intro c hc _;exact hc
  | cons x l ih =>
   intro c hc hx;refine ih _ ?_ fun y hy=>hx y (by simp [hy]);exact Ue (n:=32) (Uy (U7 _ (by decide)) (by omega)) (hx x (by simp))
 exact this l 0 (by decide) h
theorem Ql9 (l:LN) (a:OA) (cap:Nat) (w:World) (hl:RS w a l.length 1 (Bd l)) (h32:∀ x∈l,x < 4294967296) (hs:l.length<=1000000000000000000) :
  Does Yq 109 #[.slice a l.length cap] w fun v w'=>w'=w/\v=.int .u32 (I6 l:Nat):=by
 refine En [.slice a l.length cap] 22 Tryz.func109 ?_;refine VS [0] ?_;refine VS [0,3] ?_;refine VS [3,6,7,8] ?_;refine VB ?_;refine Ay [3,6,7,8] (fun m e w'=>∃ (i:Nat),Is e [(3,.int .u32 (I6 (l.take i):Nat)),(6,.slice a l.length cap),(7,.int .i64 l.length),(8,.int .i64 i)]/\Is w' w/\i<=l.length/\m=l.length - i) l.length ?_ ?_
 ·
  refine Qs ?_;exact ⟨0,rfl,rfl,by omega,rfl⟩
 rintro m e w' ⟨i,rfl,rfl,hi,rfl⟩;refine VS [3,6,7,8,9] ?_;(repeat refine Aw ?_);refine VD (fun h=>?_) (fun h=>?_)
 ·
  refine Ad ?_;refine VB ?_;obtain ⟨p,rfl⟩:=Ek hl (by omega);have hc:w'.cell? (p.add i)=some (.int .u32 ((l.getD i 0:Nat):Int)):=hl.2.2 p rfl i _ (Qio (by omega));have hx:=h32 _ (Ez 0 (show i < l.length by omega));have hq:=Qaq (l.take i) fun x hx=>h32 x (Gm hx);have htk:=Lv 0 (l:=l) (i:=i) (by omega);have hnext:=Qgr (l.take i) (l.getD i 0);rw [<- htk] at hnext;generalize I6 (l.take i)=q at *;generalize l.getD i 0=x at *;refine VQ [3,5,6,7,8] fun K hK=>?_;refine ⟨⟨by omega,by omega⟩,_,hc,?_⟩;apply hK;clear hK;have e1:(q:Int) * 2 ^ By Xz 1 % 4294967296=((q * 2 % 4294967296:Nat):Int):=by rw [show By Xz 1=1 from rfl];omega
  have e2:(q:Int) / 2 ^ By Xz 31=((q / 2147483648:Nat):Int):=by rw [show By Xz 31=31 from rfl];omega
  have hor:(q * 2 % 4294967296) ||| q / 2147483648 < 4294967296:=Uy (n:=32) (U7 _ (by decide)) (by omega)
  refine VQ [3,5,6,7,8] fun K hK=>?_;rw [e1,e2];refine ⟨by omega,by omega,⟨by omega,by omega⟩,⟨by omega,by omega⟩,?_⟩;(try simp only [Ys]);apply hK;clear hK;generalize (q * 2 % 4294967296) ||| q / 2147483648=o at *
  refine VQ [3,6,7,8] fun K hK=>?_;refine ⟨⟨by omega,by omega⟩,⟨by omega,by omega⟩,?_⟩;(try simp only [Ys]);rw [<- hnext];apply hK;clear hK;refine An ?_;refine VS [3,6,7,8] ?_;refine Ah ?_;refine Qs ?_;exact ⟨l.length - (i+1),by omega,i+1,rfl,rfl,by omega,rfl⟩
 refine Ax rfl ?_;refine VS [2] ?_;rw [Yw (by omega)];exact Ae (Al rfl rfl ⟨rfl,rfl⟩)
def Wm (bits:List Bool) (at_:Nat) (most:Int):Except Int (LB×Nat×Nat) :=
 if (Lq bits at_).2.2.2≠0 then .error (Lq bits at_).2.2.2 else
 match Qit bits (Lq bits at_).2.2.1 with
 | .error e=>.error e
 | .ok u=>match Z7 bits u.2 (u.1.length+2) with
  | .error e=>.error e
  | .ok p=>match Wj p.1.1 bits ((p.1.1.getD 0 []).length - 1) p.1.2 p.2 with
   | .error e=>.error e
   | .ok q =>
    if (Ts u.1 q.1 (Lq bits at_).2.1 most).2≠0 then .error (Ts u.1 q.1 (Lq bits at_).2.1 most).2
    else if Ck (Ts u.1 q.1 (Lq bits at_).2.1 most).1≠(Lq bits at_).1 then .error 121
    else .ok ((Ts u.1 q.1 (Lq bits at_).2.1 most).1,(Lq bits at_).1,q.2)
def QGo (s:LB) (at_ most:Int):Except Int (LB×Nat×Nat) :=
 if most < 1∨262144 < most∨at_ < 0∨8 * (s.length:Int) < at_ then .error 2 else Wm (Cr s) at_.toNat most
def W1 (s:LB) (room:Int):Nat->Nat->LB->LN->Except Int (LB×Nat)
 | 0,_,_,_=>.error 10
 | f+1,bit,out,sums =>
  if 8 * s.length < bit+48 then .error 10
  else if Cc (((Cr s).drop bit).take 48)=25779555029136 then
   if 8 * s.length < bit+48+32 then .error 10
   else if Cc (((Cr s).drop (bit+48)).take 32)≠I6 sums then .error 121
   else .ok (out,(bit+87) / 8)
  else if Cc (((Cr s).drop bit).take 48)=54156738319193 then
   match QGo s bit room with
   | .error e=>.error e
   | .ok r=>if 262144 < out.length+r.1.length then .error 3 else W1 s room f r.2.2 (out++r.1) (sums++[r.2.1])
  else .error 130
def QA8 (s:LB) (a:Int):Except Int (LB×Nat) :=
 if a < 0∨(s.length:Int) < a then .error 2
 else if (Tu s a.toNat 0 4).2≠0 then .error (Tu s a.toNat 0 4).2
 else W1 s (min ((Tu s a.toNat 0 4).1 * 100000) 262144) (8 * s.length+1) (8 * (a.toNat+4)) [] []
def D8 (f:Nat->Bool):List Bool:=(Yg 16).map f
theorem Sj (f:Nat->Bool):(D8 f).length=16:=by simp [D8]
theorem Qcj (f:Nat->Bool) {k:Nat} (h:k < 16):(D8 f)[k]? = some (f k):=by simp [D8,Yv h]
theorem Qh1 (f:Nat->Bool) {k:Nat} (h:k < 16):(Cc (D8 f)).testBit (15 - k)=f k:=by
 have h1:=Zu 16 (Cc (D8 f)) k h;have h2:=Qg5 (D8 f);rw [Sj] at h2;rw [h2,Qcj f h] at h1;simpa using h1.symm
theorem Qh2 (f:Nat->Bool):A2 16 (Cc (D8 f))=D8 f:=by
 have h2:=Qg5 (D8 f)
 rwa [Sj] at h2
theorem Vw (f:Nat->Bool):Cc (D8 f) < 65536:=by have:=Qml (D8 f);rw [Sj] at this;exact this
theorem Qp7 {f g:Nat->Bool}{j:Nat} (hj:j < 16) (h:∀ k,k < 16->g k=(f k || decide (k=j))):Cc (D8 f) ||| 2 ^ (15 - j)=Cc (D8 g):=by
 have hlt:Cc (D8 f) ||| 2 ^ (15 - j) < 65536:=Uy (n:=16) (Vw f) (Nat.pow_lt_pow_right (by omega) (by omega))
 have e:A2 16 (Cc (D8 f) ||| 2 ^ (15 - j))=D8 g:=by
  apply Yz;intro k;rcases Uu k 16 with hk | hk
  ·
   rw [Zu 16 _ k hk,Qcj g hk,show 16 - 1 - k=15 - k by omega,Nat.testBit_or,Qh1 f hk,Nat.testBit_two_pow,h k hk]
   congr 2
   exact decide_eq_decide.2 (by omega)
  rw [Ym (by rw [C0];exact hk),Ym (by rw [Sj];exact hk)]
 rw [<- e,Og,Xj hlt]
theorem Qh3 (f:Nat->Bool):Cc (D8 f)=0 ↔ ∀ k,k < 16->f k=false:=by
 constructor
 ·
  intro h k hk;have:=Qh1 f hk;rw [h,Nat.zero_testBit] at this;exact this.symm
 intro h
 have:D8 f=Ya 16 false:=by
  apply Yz;intro k;rcases Uu k 16 with hk | hk
  ·
   rw [Qcj f hk,h k hk,Y3,if_pos hk]
  rw [Ym (by rw [Sj];exact hk),Ym (by simpa using hk)]
 rw [this,<- Qb5,Og]
theorem QGp {n:Nat} (h:n<=2 ^ 15):((n:Int)) % 18446744073709551616=n:=by
 have:n<=32768:=h;omega
def N8 (u:LB) (i:Nat):Nat:=Cc (D8 fun k=>Lo u (16 * i+k))
theorem Qkw (u:LB) (i:Nat):N8 u i=0 ↔ Cl u i=false:=by
 unfold N8 Cl;rw [Qh3,List.any_eq_false];simp
theorem Qww (u:LB) (c:UInt8) (i:Nat):N8 (u++[c]) i=if i=c.toNat / 16 then N8 u i ||| 2 ^ (15 - c.toNat % 16) else N8 u i:=by
 have hm:∀ b,Lo (u++[c]) b=(Lo u b || decide (b=c.toNat)):=fun b=>by
  simp only [Lo,List.any_append,List.any_cons,List.any_nil,Gt]
  congr 1
  by_cases e:b=c.toNat
  ·
   subst e;simp
  rw [decide_eq_false e,beq_eq_false_iff_ne];exact Ne.symm e
 split
 ·
  rename_i h
  symm
  unfold N8;refine Qp7 (by omega) fun k hk=>?_;rw [hm]
  congr 1
  exact decide_eq_decide.2 (by omega)
 rename_i h;unfold N8 D8
 congr 1
 refine Xc fun k hk=>?_;have hk:k < 16:=by simpa using hk
 rw [hm,decide_eq_false (by omega),Gt]
theorem Qma (u:LB) (hu:Pv u=true) (hl:u.length<=1000000) (w:World) :
  Does Yq 142 #[Ab u] w fun v w'=>Heap w [] w' []/\v=.tuple #[Ll (Fb u),.int .i64 0]:=by
 refine En [Ab u] 69 Tryz.func142 ?_;refine VQ [0,2] fun K hK=>?_;refine Bo (.agg #[.string ⟨#[]⟩,.int .i64 0]) (by kernel_rfl) ?_;refine Qs ?_;have hH:=(Y9 w).box 184 [.string ⟨#[]⟩,.int .i64 0];generalize w.alloc (Yp [Xw ⟨#[]⟩,.int .i64 0].toArray 184)=w1 at *;generalize w.heap.size=gr at *;apply hK;clear hK;refine VQ [0,2,14] fun K hK=>?_;refine Aa Tryz.call179 ?_;refine Qs ?_;refine Yo (Qff u (by omega) w1) ?_;rintro v w2 ⟨rfl,rfl⟩;rw [hu];refine Qs ?_;apply hK;clear hK;refine Ai rfl rfl (fun h=>by simp at h) (fun h=>Ad ?_);refine VQ [0,2,4] fun K hK=>?_;refine Bo (.agg (Fh (Ya 16 0)).toArray) (by kernel_rfl) ?_;refine Qs ?_;have hH1:=hH.box 271 (Fh (Ya 16 0));generalize w2.alloc (Yp (Fh (Ya 16 0)).toArray 271)=w3 at *;generalize w2.heap.size=gt at *;clear hH;apply hK;clear hK;generalize hn:u.length=n at *;refine VQ [0,2,4,17,18] fun K hK=>?_;rw [hn];apply hK;clear hK;refine Aq ?_;refine Ay [0,2,4,17,18] (fun m e w'=>∃ (k:Nat) (R:LN),Is e [(0,Ab u),(2,.pointer (some ⟨gr,0,none⟩)),(4,.pointer (some ⟨gt,0,none⟩)),(17,.int .i64 n),(18,.int .i64 k)]/\Heap w [] w' [Ye gt 271 (Fh R),Ye gr 184 [.string ⟨#[]⟩,.int .i64 0]]/\R.length=16/\(∀ i,i < 16->R.getD i 0=N8 (u.take k) i)/\k<=n/\m=n - k) n ?_ ?_
 ·
  refine Qs ?_;refine ⟨0,_,rfl,hH1,by simp,fun i hi=>?_,by omega,rfl⟩;rw [Yc,Y3,if_pos hi,Uv];exact ((Qkw [] i).2 (by simp [Cl,Lo])).symm
 clear hH1;rintro m e w4 ⟨k,R,rfl,hH,hR,hRk,hk,rfl⟩;refine VS [0,2,4,17,18,19] ?_;(repeat refine Aw ?_);refine VD (fun h=>?_) (fun h=>?_)
 ·
  have htk:=Lv 0 (l:=u) (i:=k) (by omega);have hc:=(u.getD k 0).toNat_lt;refine Ad ?_;refine VB ?_;refine VS [0,2,4,5,17,18] ?_;have hr1:=hRk ((u.getD k 0).toNat / 16) (by omega);have hrl:=Vw fun j=>Lo (u.take k) (16 * ((u.getD k 0).toNat / 16)+j);have hsn:=Qww (u.take k) (u.getD k 0);rw [<- htk] at hsn;generalize hcc:(u.getD k 0).toNat=c at *;refine VL [0,2,4,17,18] 14 fun K hK=>?_;rw [hn,hcc];have hand:c &&& 15=c % 16:=Nat.and_two_pow_sub_one_eq_mod c 4;have hshr:By IntKind.u8 4=4:=by decide
  have hdiv:(c:Int) / 2 ^ 4=((c / 16:Nat):Int):=by push_cast;rfl
  rw [hshr,hdiv];have hsh:By IntKind.u64 ((15 - ((c % 16:Nat):Int)) % 256)=15 - c % 16:=Wa (by omega) (by simp [Ga];omega);have hp2:2 ^ (15 - c % 16)<=2 ^ 15:=X0 (by omega) (by omega)
  have hp:((1:Int) * 2 ^ (15 - c % 16)) % 18446744073709551616=((2 ^ (15 - c % 16):Nat):Int):=by
   rw [show (1:Int) * 2 ^ (15 - c % 16)=((2 ^ (15 - c % 16):Nat):Int) by push_cast;exact Gn _];exact QGp hp2
  rw [show Un 15=15 from rfl,hand,hsh,hp,Ys];have hx:R.getD (c / 16) 0 < 65536:=by rw [hr1];exact hrl
  refine ⟨⟨by omega,by omega⟩,by omega,⟨by omega,by omega⟩,_,Af (hH.at 0 rfl) (Qij (by omega)),⟨by omega,by omega⟩,⟨by omega,by omega⟩,⟨by omega,by omega⟩,by omega,?_⟩;refine Qs ?_;have hi15:2 ^ (15 - c % 16)<=32768:=hp2;generalize 2 ^ (15 - c % 16)=pw at *;refine ⟨⟨by omega,by omega⟩,⟨by omega,by omega⟩,⟨by omega,by omega⟩,?_⟩;refine Ag ?_;refine Qs ?_;refine Ap hH 0 (o:=c / 16) (vs:=[.int .u64 ((R.getD (c / 16) 0 ||| pw:Nat):Int)]) rfl rfl (by kernel_rfl) (by rw [Z9,Yn];omega) (by simp [Yt]) fun w6 hH2=>?_;simp only [Yn,Dm (Fh R) _ _ (show c / 16 < (Fh R).length by rw [Z9];omega),Qy9,Yd] at hH2;apply hK;clear hK;refine An ?_;refine VS [0,2,4,17,18] ?_;refine Ah ?_;refine Qs ?_;refine ⟨n - (k+1),by omega,k+1,_,rfl,hH2,by simp [hR],fun i hi=>?_,by omega,rfl⟩;rw [hsn i,<- hRk i hi];simp only [Yc,Xr];by_cases e:c / 16=i
  ·
   rw [if_pos e,if_pos (by omega),if_pos e.symm,<- e];rfl
  rw [if_neg e,if_neg (Ne.symm e)]
 obtain rfl:k=n:=by omega
 refine Ax rfl ?_;rw [Yw (by omega)] at hRk;generalize k=n at *;refine VQ [2,4,6,7] fun K hK=>?_;refine Aa Tryz.call107 ?_;refine Qs ?_;refine Yo (Qk w4) ?_;rintro v w5 ⟨gw,hH2,rfl⟩;have hH3:=hH.call0 hH2;clear hH hH2;apply hK;clear hK;refine VQ [2,4,6,7,37,38] fun K hK=>?_;refine ⟨Fh R,⟨by rw [Z9,hR],Bu (hH3.at 1 rfl)⟩,?_⟩;apply hK;clear hK;have hflag:∀ i,i < 16->(R.getD i 0=0 ↔ Cl u i=false):=fun i hi=>by rw [hRk i hi,Qkw]
 refine Aq ?_;refine Ay [2,4,6,7,37,38] (fun m e w'=>∃ (i:Nat),Is e [(2,.pointer (some ⟨gr,0,none⟩)),(4,.pointer (some ⟨gt,0,none⟩)),(6,.pointer (some ⟨gw,0,none⟩)),(7,.int .u64 (Cc (D8 fun j=>decide (j < i) && Cl u j):Nat)),(37,.agg (Fh R).toArray),(38,.int .i64 i)]/\Is w' w5/\i<=16/\m=16 - i) 16 ?_ ?_
 ·
  refine Qs ?_;have e0:Cc (D8 fun j=>decide (j < 0) && Cl u j)=0:=(Qh3 _).2 fun k _=>by simp
  exact ⟨0,by rw [e0];rfl,rfl,by omega,rfl⟩
 rintro m e w6 ⟨i,rfl,rfl,hi,rfl⟩;refine VS [2,4,6,7,37,38,39] ?_;(repeat refine Aw ?_);refine VD (fun h=>?_) (fun h=>?_)
 ·
  have hvn:Bb (Fh R) i=fun K=>K (.int .u64 (R.getD i 0:Nat)):=by
   funext K;exact Qmn (Qij (by omega))
  have hfl:=hflag i (by omega);refine Ad ?_;refine VB ?_;refine VQ [2,4,6,7,8,9,37,38] fun K hK=>?_;rw [hvn]
  dsimp only
  refine Qp ?_;apply hK;clear hK;refine VS [2,4,6,7,8,37,38,43] ?_;refine VD (fun h=>?_) (fun h=>?_)
  ·
   have hrt:Cl u i=true:=by
    cases hb:Cl u i with
    | true=>rfl
    | false=>have:=hfl.2 hb;omega
   have hor:=Qp7 (f:=fun j=>decide (j < i) && Cl u j) (g:=fun j=>decide (j < i+1) && Cl u j) (j:=i) (by omega) (fun k hk=>by
    by_cases e:k=i
    ·
     subst e;simp [hrt]
    rw [decide_eq_false e,Gt]
    congr 1
    exact decide_eq_decide.2 (by omega))
   have hlt:=Vw fun j=>decide (j < i) && Cl u j;generalize Cc (D8 fun j=>decide (j < i) && Cl u j)=q at *;have hsh:By IntKind.u64 ((15 - (i:Int)) % 18446744073709551616)=15 - i:=Qun (by omega) (by simp [Ga];omega) (by decide);have hp2:2 ^ (15 - i)<=2 ^ 15:=X0 (by omega) (by omega)
   have hp:((1:Int) * 2 ^ (15 - i)) % 18446744073709551616=((2 ^ (15 - i):Nat):Int):=by
    rw [show (1:Int) * 2 ^ (15 - i)=((2 ^ (15 - i):Nat):Int) by push_cast;exact Gn _];exact QGp hp2
   refine VQ [2,4,6,7,37,38] fun K hK=>?_;rw [hsh,hp];have hi15:2 ^ (15 - i)<=32768:=hp2;generalize 2 ^ (15 - i)=pw at *;(repeat first | refine Qo ?_ | refine Qp ?_);refine Qs ?_;rw [hor];apply hK;clear hK;refine An ?_;refine VS [2,4,6,7,37,38] ?_;refine Ah ?_;refine Qs ?_;exact ⟨16 - (i+1),by omega,i+1,rfl,rfl,by omega,rfl⟩
  have hrf:Cl u i=false:=hfl.1 (by omega)
  have he:(fun j=>decide (j < i+1) && Cl u j)=fun j=>decide (j < i) && Cl u j:=by
   funext k;by_cases e:k=i
   ·
    subst e;simp [hrf]
   congr 1
   exact decide_eq_decide.2 (by omega)
  refine Ad ?_;refine An ?_;refine VS [2,4,6,7,37,38] ?_;refine Ah ?_;refine Qs ?_;exact ⟨16 - (i+1),by omega,i+1,by rw [he];rfl,rfl,by omega,rfl⟩
 obtain rfl:i=16:=by omega
 have hall:Cc (D8 fun j=>decide (j < 16) && Cl u j)=Cc (D8 (Cl u)):=by
  congr 1
 rw [hall];refine Ax rfl ?_;refine VQ [2,4,6] fun K hK=>?_;refine Aa Uh ?_;refine Qs ?_;refine Yo (Ir gw none 0 [] _ 16 w6 (by omega) (Vw _) (by simp) (hH3.focus 0 rfl)) ?_;rintro v w7 ⟨a2,c2,hHw,rfl⟩;rw [Yh,Qh2] at hHw;have hH4:=hH3.call1 0 rfl hHw;simp only [Yd,Yh] at hH4;clear hH3 hHw;apply hK;clear hK;refine VQ [2,6,54,55] fun K hK=>?_;refine ⟨Fh R,⟨by rw [Z9,hR],Bu (hH4.at 1 rfl)⟩,?_⟩;apply hK;clear hK;refine Aq ?_;refine Ay [2,6,54,55] (fun m e w'=>∃ (i:Nat) (a:OA) (c:Nat),Is e [(2,.pointer (some ⟨gr,0,none⟩)),(6,.pointer (some ⟨gw,0,none⟩)),(54,.agg (Fh R).toArray),(55,.int .i64 i)]/\Heap w [] w' [wr gw a c (D8 (Cl u)++(Yg i).flatMap fun i=>if Cl u i then Fc u i else []),Ye gt 271 (Fh R),Ye gr 184 [.string ⟨#[]⟩,.int .i64 0]]/\i<=16/\((Yg i).flatMap fun i=>if Cl u i then Fc u i else []).length<=16 * i/\m=16 - i) 16 ?_ ?_
 ·
  refine Qs ?_;exact ⟨0,a2,c2,rfl,by simpa using hH4,by omega,by simp,rfl⟩
 clear hH4;rintro m e w8 ⟨i,a,c,rfl,hH,hi,hlen,rfl⟩;refine VS [2,6,54,55,56] ?_;(repeat refine Aw ?_);refine VD (fun h=>?_) (fun h=>?_)
 ·
  have hvn:Bb (Fh R) i=fun K=>K (.int .u64 (R.getD i 0:Nat)):=by
   funext K;exact Qmn (Qij (by omega))
  have hfl:=hflag i (by omega);have hRi:=hRk i (by omega)
  have hs1:((Yg (i+1)).flatMap fun i=>if Cl u i then Fc u i else [])=((Yg i).flatMap fun i=>if Cl u i then Fc u i else [])++(if Cl u i then Fc u i else []):=by
   rw [X9,List.flatMap_append];simp
  have hrl:=Qiu u i;generalize ((Yg i).flatMap fun i=>if Cl u i then Fc u i else [])=acc at *;refine Ad ?_;refine VB ?_;refine VQ [2,6,11,54,55] fun K hK=>?_;rw [hvn]
  dsimp only
  refine Qp ?_;apply hK;clear hK;refine VS [2,6,11,54,55,59] ?_;refine VD (fun h=>?_) (fun h=>?_)
  ·
   have hrt:Cl u i=true:=by
    cases hb:Cl u i with
    | true=>rfl
    | false=>have:=hfl.2 hb;omega
   rw [hrt,if_pos rfl] at hs1;refine VQ [2,6,54,55] fun K hK=>?_;rw [hRi];refine Aa Uh ?_;refine Qs ?_;refine Yo (Ir gw a c (D8 (Cl u)++acc) (N8 u i) 16 w8 (by omega) (Vw _) (by rw [Yl,Sj];omega) (hH.focus 0 rfl)) ?_;rintro v w9 ⟨a3,c3,hHw,rfl⟩;have hH2:=hH.call1 0 rfl hHw;rw [N8,Qh2,Yi] at hH2;simp only [Yd,Yh] at hH2;apply hK;clear hK;refine An ?_;refine VS [2,6,54,55] ?_;refine Ah ?_;refine Qs ?_;exact ⟨16 - (i+1),by omega,i+1,a3,c3,rfl,by rw [hs1];exact hH2,by omega,by rw [hs1,Yl];omega,rfl⟩
  have hrf:Cl u i=false:=hfl.1 (by omega);rw [hrf,if_neg (by simp),Yk] at hs1;refine Ad ?_;refine An ?_;refine VS [2,6,54,55] ?_;refine Ah ?_;refine Qs ?_;exact ⟨16 - (i+1),by omega,i+1,a,c,rfl,by rw [hs1];exact hH,by omega,by rw [hs1];omega,rfl⟩
 obtain rfl:i=16:=by omega
 refine Ax rfl ?_;have hH:Heap w [] w8 [wr gw a c (Fb u),Ye gt 271 (Fh R),Ye gr 184 [.string ⟨#[]⟩,.int .i64 0]]:=hH;refine VQ [2,3] fun K hK=>?_;refine Aa Tryz.call111 ?_;refine Qs ?_;refine Yo (Pg gw a c _ w8 (hH.at 0 rfl)) ?_;rintro v w9 ⟨rfl,rfl⟩;refine Aa Tryz.call112 ?_;refine Qs ?_;refine Yo (Oj gw a c _ w9 (hH.at 0 rfl)) ?_;rintro v w10 ⟨rfl,rfl⟩;refine Qs ?_;refine Ag ?_;refine Qs ?_;refine Ap hH 2 (vs:=Az (Fb u)) rfl rfl (by kernel_rfl) (by simp [Az]) (by simp [Az,Yt]) fun w11 hH2=>?_;have hH2:Heap w [] w11 [wr gw a c (Fb u),Ye gt 271 (Fh R),Ye gr 184 (Az (Fb u))]:=hH2;apply hK;clear hK;refine Ae (Kk rfl rfl rfl (Fm (hH2.at 2 rfl) (by kernel_rfl) (by kernel_rfl) rfl ?_));exact ⟨hH2.sub (by simp),rfl⟩
def Pa (l:List Int):LN:=l.map Un
theorem Qwx {l:List Int} (h:∀ v∈l,0<=v):Br l=Ak (Pa l):=by
 unfold Br Ak Pa;rw [X4];apply Xc;intro v hv;have:=h v hv;simp only [Function.comp]
 congr 1;omega
theorem QFr (l:List Int):(Pa l).length=l.length:=by simp [Pa]
theorem V5:∀ (f k:Nat),k<=f->∀ x∈Fe k,0<=x/\x<=1
 | _,0,_,x,hx=>by simp [Q5] at hx
 | 0,k+1,h,x,hx=>by omega
 | f+1,k+1,h,x,hx=>by
  rw [Qdp] at hx;rcases List.mem_cons.1 hx with rfl | hx
  ·
   omega
  exact V5 f (k / 2) (by omega) x hx
theorem Qtf {n:Int} (hn:1<=n):∀ (l out:List Int) (z:Nat),(∀ v∈l,0<=v/\v < n)->(∀ x∈out,0<=x/\x < n+2)->(Eg n out z l).2=0/\(∀ x∈(Eg n out z l).1,0<=x/\x < n+2)/\(Eg n out z l).1.length<=out.length+z+l.length+1/\1<=(Eg n out z l).1.length
 | [],out,z,_,ho=>by
  have h1:=V5 z z (Y1 _);have h2:=Zq z z (Y1 _);refine ⟨rfl,fun x hx=>?_,by simp [Eg];omega,by simp [Eg];omega⟩;simp only [Eg,Ua,Ud] at hx;rcases hx with (hx | hx) | rfl
  ·
   exact ho x hx
  ·
   have:=h1 x hx;omega
  omega
 | v::r,out,z,hl,ho=>by
  have hv:=hl v (by simp);rw [Eg];split
  ·
   obtain ⟨a,b,c,d⟩:=Qtf hn r out (z+1) (fun v hv=>hl v (by simp [hv])) ho;exact ⟨a,b,by simp;omega,d⟩
  rw [if_neg (by omega)];have h1:=V5 z z (Y1 _);have h2:=Zq z z (Y1 _)
  obtain ⟨a,b,c,d⟩:=Qtf hn r (out++Fe z++[v+1]) 0 (fun v hv=>hl v (by simp [hv])) (fun x hx=>by
   simp only [Ua,Ud] at hx;rcases hx with (hx | hx) | rfl
   ·
    exact ho x hx
   ·
    have:=h1 x hx;omega
   omega)
  refine ⟨a,b,?_,d⟩;simp at c ⊢;omega
theorem Qt6 {n:Int} (hn:1<=n) (hn2:n<=256) {l:List Int} (hl:∀ v∈l,0<=v/\v < n):(Ia n l).2=0/\(∀ x∈(Ia n l).1,0<=x/\x < n+2)/\(Ia n l).1.length<=l.length+1/\1<=(Ia n l).1.length:=by
 unfold Ia;rw [if_neg (by omega)];have:=Qtf hn l [] 0 hl (by simp);simpa using this
def Iv (t:LB) (σ:LN):List Int:=(I8 (A7 t) (Cb t σ)).getD []
def Cn (t:LB) (σ:LN):LN:=Pa (Ia ((A7 t).length:Nat) (Iv t σ)).1
def P5 (s:LB) (row:Nat):List Bool:=A2 48 54156738319193++A2 32 (Ck s)++A2 1 0++A2 24 row
def B1 (t:LB) (σ:LN):List (LN)×LN:=E2 (Cn t σ) ((A7 t).length+2)
def Fq (s:LB) (σ:LN):List Bool:=[P5 s (σ.idxOf 0),Fb (A7 (enc s)),Ej (B1 (enc s) σ).1 (B1 (enc s) σ).2,E1 (B1 (enc s) σ).1 (B1 (enc s) σ).2 (Cn (enc s) σ) 0].flatten
theorem Pj {t:LB} (ht:t≠[]):1<=(A7 t).length/\(A7 t).length<=256:=by
 have h:=Qba ht;constructor
 ·
  cases h2:A7 t with
  | nil =>
   obtain ⟨c,r,rfl⟩:∃ c r,t=c::r:=by cases t with
    | nil=>exact absurd rfl ht
    | cons c r=>exact ⟨c,r,rfl⟩
   have:c∈A7 (c::r):=So.2 (by simp);rw [h2] at this;simp at this
  | cons=>simp
 have hU:∀ m,(K4 t m).length<=m:=fun m=>by
  unfold K4;rw [X8];exact Gb (List.length_filter_le _ _) (by simp)
 exact hU 256
theorem Qsl {t:LB}{σ:LN} (ho:Ordered t σ):∀ c∈Cb t σ,c∈t:=by
 intro c hc;obtain ⟨i,hi,rfl⟩:=Y2.1 hc;have hi2:i < t.length:=by simpa using ho.perm.mem_iff.1 hi
 have:D0 t.length i < t.length:=by unfold D0;split <;> omega
 rw [Yc,Yb this];exact Xk this
theorem Qck {t:LB}{σ:LN} (ho:Ordered t σ):(Cb t σ).length=t.length:=by
 simp [Cb,ho.perm.length_eq]
theorem Z0 {t:LB}{σ:LN} (ho:Ordered t σ):I8 (A7 t) (Cb t σ)=some (Iv t σ)/\(Iv t σ).length=t.length/\∀ v∈Iv t σ,0<=v/\v < (A7 t).length:=by
 obtain ⟨out,h⟩:=Qhx (Cb t σ) (A7 t) (fun c hc=>So.2 (Qsl ho c hc));have e:Iv t σ=out:=by unfold Iv;rw [h];rfl
 obtain ⟨h1,h2⟩:=Qfg _ _ _ h;rw [e];exact ⟨h,by rw [h1,Qck ho],h2⟩
theorem V6 {t:LB}{σ:LN} (ho:Ordered t σ) (ht:t≠[]):(Ia ((A7 t).length:Nat) (Iv t σ)).2=0/\Br (Ia ((A7 t).length:Nat) (Iv t σ)).1=Ak (Cn t σ)/\(Cn t σ).length=(Ia ((A7 t).length:Nat) (Iv t σ)).1.length/\(Cn t σ).length<=t.length+1/\1<=(Cn t σ).length/\∀ s∈Cn t σ,s < (A7 t).length+2:=by
 obtain ⟨u1,u2⟩:=Pj ht;obtain ⟨p1,p2,p3⟩:=Z0 ho;obtain ⟨z1,z2,z3,z4⟩:=Qt6 (n:=((A7 t).length:Nat)) (by omega) (by omega) p3;have hl:(Cn t σ).length=(Ia ((A7 t).length:Nat) (Iv t σ)).1.length:=QFr _;refine ⟨z1,Qwx fun v hv=>(z2 v hv).1,hl,by omega,by omega,fun s hs=>?_⟩;obtain ⟨x,hx,rfl⟩:=Y2.1 hs;have:=z2 x hx;omega
theorem Qdq {t:LB}{σ:LN} (ho:Ordered t σ) (ht:t≠[]) (hl:t.length<=262144):M0 (Cn t σ) ((A7 t).length+2):=by
 obtain ⟨u1,u2⟩:=Pj ht;obtain ⟨_,_,_,h4,h5,h6⟩:=V6 ho ht;exact ⟨by omega,by omega,h5,by omega,h6⟩
theorem Qdr (s:LB) (row:Nat):(P5 s row).length=105:=by simp [P5,C0]
theorem Qwy {s:LB}{σ:LN} (ho:Ordered (enc s) σ) (hs:s≠[]) (hl:s.length<=20000):(Fq s σ).length<=12 * s.length+4000:=by
 have he:enc s≠[]:=by
  intro e
  obtain ⟨c,r,rfl⟩:∃ c r,s=c::r:=by cases s with
   | nil=>exact absurd rfl hs
   | cons c r=>exact ⟨c,r,rfl⟩
  have h1:=Q6 (c::r) (by simp);have h2:=Lx (c::r) (by simp);have h3:=(Pi (c::r)).1;have h4:=Pe (Ch (c::r)) (c::r) h3;rw [e] at h1;have h5:=congrArg Xp h1;simp only [Yl,Ub] at h5;split at h4 <;> omega
 have hel:=Qci s;obtain ⟨u1,u2⟩:=Pj he;have hlen:=(V6 ho he).2.2.2.1;have hb:=Qd4 (Qdq ho he (by omega));have hn:=Qeb (A7 (enc s));have hh:=Qdr s (σ.idxOf 0);unfold Fq;unfold I0 at hb;change (Ej (B1 (enc s) σ).1 (B1 (enc s) σ).2).length+(E1 (B1 (enc s) σ).1 (B1 (enc s) σ).2 (Cn (enc s) σ) 0).length<=_ at hb;simp only [Uz,List.flatten_nil,Yk,Yl];unfold Dq at hb;omega
theorem Qfj (n most:Int) (hn:1<=n):∀ (f z:Nat),z<=f->∀ (wt:Nat) (out r:List Int),1<=wt->(out.length:Int)<=most ->
  O7 n most out wt (Fe z++r)=if (out.length:Int)+wt * z<=most then O7 n most (out++Ya (wt * z) 0) (wt * 2 ^ (Fe z).length) r else ([],3):=by
 intro f
 induction f with
 | zero =>
  intro z hz wt out r h1 h2;have:z=0:=by omega
  subst this;simp [Q5,h2]
 | succ f ih =>
  intro z hz wt out r h1 h2;cases z with
  | zero=>simp [Q5,h2]
  | succ k =>
   have hk:((k % 2:Nat):Int)=0∨((k % 2:Nat):Int)=1:=by omega
   have e1:(((k % 2:Nat):Int)+1) * wt=((wt * (k % 2+1):Nat):Int):=by push_cast;rw [Int.mul_comm]
   have e2:wt * (k+1)=wt * (k % 2+1)+2 * wt * (k / 2):=by
    have:k+1=k % 2+1+2 * (k / 2):=by omega
    rw [this,Nat.mul_add];have:wt * (2 * (k / 2))=2 * wt * (k / 2):=by rw [Nat.mul_left_comm,Nat.mul_assoc]
    omega
   rw [Qdp,Yx,O7,if_neg (by omega),if_pos (by omega),e1,Ys]
   have e2':(wt:Int) * ((k+1:Nat):Int)=((wt * (k % 2+1):Nat):Int)+((2 * wt * (k / 2):Nat):Int):=by
    rw [<- Int.natCast_mul,e2];simp
   have e3:((2 * wt:Nat):Int) * ((k / 2:Nat):Int)=((2 * wt * (k / 2):Nat):Int):=by rw [<- Int.natCast_mul]
   rw [e2',e2];clear e1 e2 e2';generalize wt * (k % 2+1)=p;have ihk:=ih (k / 2) (by omega) (2 * wt) (out++Ya p 0) r (by omega);rw [e3] at ihk;generalize 2 * wt * (k / 2)=q at *;by_cases h3:most - (out.length:Int) < (p:Int)
   ·
    rw [if_pos h3,if_neg (by omega)]
   rw [if_neg h3,ihk (by simp;omega)];rw [Yl,Xi];by_cases h4:(out.length:Int)+((p:Int)+(q:Int))<=most
   ·
    rw [if_pos (by omega),if_pos h4,Yi,Uj,Y7,Nat.pow_succ]
    congr 1
    rw [Nat.mul_comm 2 wt,Nat.mul_assoc,Nat.mul_comm 2]
   rw [if_neg (by omega),if_neg h4]
theorem Qiy (n:Int) (hn:1<=n) (hn2:n<=256):∀ (l:List Int) (o:List Int) (z:Nat) (s:List Int),Eg n o z l=(s,0) ->
  ∃ t,s=o++t/\∀ (out:List Int) (most:Int),(out.length:Int)<=most->O7 n most out 1 t=if (out.length:Int)+z+l.length<=most then (out++Ya z 0++l,0) else ([],3)
 | [],o,z,s,h=>by
  rw [Eg] at h;obtain ⟨rfl,_⟩:=Prod.mk.inj h;refine ⟨Fe z++[n+1],by simp,fun out most ho=>?_⟩;rw [Qfj n most hn z z (Y1 _) 1 out _ (Y1 _) ho];have e:((1:Nat):Int) * (z:Int)=z:=by simp
  rw [e,Nat.one_mul];simp only [Ub,Int.natCast_zero,Int.add_zero,Yk];split
  ·
   rw [O7,if_neg (by omega),if_neg (by omega),if_pos rfl,QQo]
  rfl
 | v::r,o,z,s,h=>by
  rw [Eg] at h;split at h
  ·
   rename_i hv;subst hv;obtain ⟨t,ht,hd⟩:=Qiy n hn hn2 r o (z+1) s h;refine ⟨t,ht,fun out most ho=>?_⟩;rw [hd out most ho]
   have e:Ya (z+1) (0:Int)++r=Ya z 0++0::r:=by
    rw [Up,Yi];rfl
   rw [Yi,e,<- Yi];simp only [Y7];by_cases hc:(out.length:Int)+((z+1:Nat):Int)+r.length<=most
   ·
    rw [if_pos hc,if_pos (by omega)]
   rw [if_neg hc,if_neg (by omega)]
  rename_i hv;split at h
  ·
   cases h
  rename_i hr;obtain ⟨t,ht,hd⟩:=Qiy n hn hn2 r _ 0 s h;refine ⟨Fe z++(v+1)::t,by rw [ht];simp,fun out most ho=>?_⟩;rw [Qfj n most hn z z (Y1 _) 1 out _ (Y1 _) ho];have e:((1:Nat):Int) * (z:Int)=z:=by simp
  rw [e,Nat.one_mul];simp only [Y7];by_cases hc:(out.length:Int)+z<=most
  ·
   rw [if_pos hc,O7,if_neg (by omega),if_neg (by omega),if_neg (by omega),show v+1 - 1=v by omega];simp only [Yl,Xi];by_cases hc2:most<=((out.length+z:Nat):Int)
   ·
    rw [if_pos hc2,if_neg (by omega)]
   rw [if_neg hc2,hd _ most (by simp;omega)];simp only [Yl,Xi,Y7,Ub,Xs,Yk];by_cases hc3:(out.length:Int)+z+((r.length+1:Nat):Int)<=most
   ·
    rw [if_pos (by omega),if_pos hc3,Yi];rfl
   rw [if_neg (by omega),if_neg hc3]
  rw [if_neg hc,if_neg (by omega)]
theorem QQb (n:Int) (l s:List Int) (h:Ia n l=(s,0)) (most:Int) (h0:0<=most) (h1:most<=262144) :
  Ot n most s=if (l.length:Int)<=most then (l,0) else ([],3):=by
 rw [Ia] at h;split at h
 ·
  cases h
 rename_i hc;obtain ⟨t,ht,hd⟩:=Qiy n (by omega) (by omega) l [] 0 s h;have:=hd [] most (by simpa using h0);rw [Yh] at ht;subst ht;rw [Ot,if_neg (by omega),this];simp
theorem Qt7 (out:LB) (same:Nat) (c:UInt8) (s:LB) (h:same≠4) (hl:out.length < 262144) :
  K8 out same (c::s)=K8 (out++[c]) (if 0 < same/\out.getLastD 0=c then same+1 else 1) s:=by
 rw [K8,if_neg h,if_neg (by omega)]
theorem Qds (out:LB) (c:UInt8):(out++[c]).getLastD 0=c:=by simp
theorem Qp8 (b:UInt8) (s:LB):∀ (m j:Nat) (out:LB),1<=j->j+m<=4->out.getLastD 0=b->out.length+m<=262144 ->
  K8 out j (Ya m b++s)=K8 (out++Ya m b) (j+m) s
 | 0,j,out,_,_,_,_=>by simp
 | m+1,j,out,h1,h2,h3,h4=>by
  rw [Xt,Yx,Qt7 _ _ _ _ (by omega) (by omega),if_pos ⟨by omega,h3⟩,
   Qp8 b s m (j+1) (out++[b]) (by omega) (by omega) (Qds _ _) (by simp;omega),Yi]
  rw [show j+1+m=j+(m+1) by omega];rfl
theorem Qt8 (b:UInt8) (s out:LB) (m same:Nat) (h1:1<=m) (h2:m<=4) (hs:same<=3) (hb:0 < same->out.getLastD 0≠b) (hl:out.length+m<=262144) :
  K8 out same (Ya m b++s)=K8 (out++Ya m b) m s:=by
 obtain ⟨m,rfl⟩:∃ k,m=k+1:=⟨m - 1,by omega⟩
 rw [Xt,Yx,Qt7 _ _ _ _ (by omega) (by omega),if_neg (fun h=>hb h.1 h.2),
  Qp8 b s m 1 (out++[b]) (by omega) (by omega) (Qds _ _) (by simp;omega),Yi,Nat.add_comm 1 m]
 rfl
theorem Qkx (b:UInt8):∀ (l:LB) (n:Nat),n<=I5 b l->l.take n=Ya n b
 | [],n,h=>by simp [I5] at h;subst h;rfl
 | c::l,0,_=>rfl
 | c::l,n+1,h=>by
  simp only [I5] at h;by_cases hc:c=b
  ·
   rw [if_pos hc] at h;rw [Ur,Qkx b l n (by omega),hc];rfl
  rw [if_neg hc] at h;omega
theorem Qiz (b:UInt8) (l:LB) (n:Nat) (h:n<=Ch (b::l)):(b::l).take n=Ya n b:=by
 simp only [Ch] at h;cases n with
 | zero=>rfl
 | succ n=>rw [Ur,Qkx b l n (by omega)];rfl
theorem Qt9 (b:UInt8) (l:LB) (h:Ch (b::l) < 255):(b::l)[Ch (b::l)]? ≠ some b:=by
 simp only [Ch] at h ⊢;rw [show min 255 (I5 b l+1)=I5 b l+1 by omega];exact Qz5 b l
theorem QFs:∀ (f:Nat) (l out:LB) (same:Nat),l.length<=f->out.length+l.length<=262144->same<=3->(0 < same->∀ b,l[0]? = some b->out.getLastD 0≠b) ->
  K8 out same (enc l)=(out++l,0):=by
 intro f
 induction f with
 | zero =>
  intro l out same h1 h2 h3 h4;have:l=[]:=Y5 (by omega);subst this;rw [Pq,K8,if_neg (by omega),Yk]
 | succ f ih =>
  intro l out same h1 h2 h3 h4;cases l with
  | nil=>rw [Pq,K8,if_neg (by omega),Yk]
  | cons b l =>
   have hp:=Lx (b::l) (by simp);have hle:=Pi (b::l);have htk:=Qiz b l (Ch (b::l)) (Y1 _);have htk4:=Qiz b l 4;have hend:=Qt9 b l;rw [Q6 (b::l) (by simp)];generalize Ch (b::l)=n at *;have hd:(b::l).take n++(b::l).drop n=b::l:=Gg _ _;rw [htk] at hd;have hdl:((b::l).drop n).length=(b::l).length - n:=Xu;simp only [Y7] at h1 h2 hle hdl;have h4':0 < same->out.getLastD 0≠b:=fun h=>h4 h b rfl;by_cases hn:n < 4
   ·
    rw [I9,if_pos hn,htk,Qt8 b _ out n same hp (by omega) h3 h4' (by omega),
     ih _ (out++Ya n b) n (by omega) (by simp only [Yl,Xi];omega) (by omega) ?_,Yi,hd]
    intro _ c hc hlast
    have e:(out++Ya n b).getLastD 0=b:=by
     obtain ⟨k,rfl⟩:∃ k,n=k+1:=⟨n - 1,by omega⟩;rw [Up,<- Yi,Qds]
    rw [e] at hlast;rw [Xm,Ut] at hc;exact hend (by omega) (by rw [hc,hlast])
   rw [I9,if_neg hn,htk4 (by omega),Yi,Qt8 b _ out 4 same (by omega) (by omega) h3 h4' (by omega)];rw [Yy,K8,if_pos rfl];have e1:(Gk (n - 4)).toNat=n - 4:=by simp;omega
   have e2:(out++Ya 4 b).getLastD 0=b:=by
    rw [show Ya 4 b=Ya 3 b++[b] from rfl,<- Yi,Qds]
   rw [e1,e2,if_neg (by simp only [Yl,Xi];omega),
    ih _ _ 0 (by omega) (by simp only [Yl,Xi];omega) (by omega) (fun h=>by omega)]
   rw [Yi,Yi,<- Yi (Ya 4 b),Uj,show 4+(n - 4)=n by omega,hd]
theorem Qsm (l:LB) (h:l.length<=262144):K8 [] 0 (enc l)=(l,0):=by
 have:=QFs l.length l [] 0 (Y1 _) (by simpa using h) (by omega) (fun h=>by omega);simpa using this
theorem Qy {n v:Nat}{bits:List Bool}{at_:Nat}{r:List Bool} (h0:0 < n) (hv:v < 2 ^ n) (hb:bits.drop at_=A2 n v++r):at_+n<=bits.length/\Cc ((bits.drop at_).take n)=v/\bits.drop (at_+n)=r:=by
 have hl:=congrArg Xp hb;rw [Xu,Yl,C0] at hl;refine ⟨by omega,?_,?_⟩
 ·
  rw [hb,List.take_left' (C0 n v),Og,Xj hv]
 rw [<- Gl,hb,List.drop_left' (C0 n v)]
theorem Qi0 {n:Int} (hn:1<=n):∀ (l out:List Int) (z:Nat),(∀ v∈l,0<=v/\v < n)->(∀ x∈out,0<=x/\x<=n)->∃ t,Eg n out z l=(t++[n+1],0)/\∀ x∈t,0<=x/\x<=n
 | [],out,z,_,ho=>by
  have h1:=V5 z z (Y1 _);refine ⟨out++Fe z,rfl,fun x hx=>?_⟩;rcases Ua.1 hx with hx | hx
  ·
   exact ho x hx
  have:=h1 x hx;omega
 | v::r,out,z,hl,ho=>by
  have hv:=hl v (by simp);rw [Eg];split
  ·
   exact Qi0 hn r out (z+1) (fun v hv=>hl v (by simp [hv])) ho
  rw [if_neg (by omega)];have h1:=V5 z z (Y1 _);refine Qi0 hn r _ 0 (fun v hv=>hl v (by simp [hv])) fun x hx=>?_;simp only [Ua,Ud] at hx;rcases hx with (hx | hx) | rfl
  ·
   exact ho x hx
  ·
   have:=h1 x hx;omega
  omega
theorem QLe {l:List Int} (h:∀ v∈l,0<=v):ni (Pa l)=l:=by
 unfold ni Pa;rw [X4]
 conv=>rhs;rw [<- Gi l]
 apply Xc;intro v hv;have:=h v hv;simp only [Function.comp,id];omega
theorem Qwz {t:LB}{σ:LN} (ho:Ordered t σ) (ht:t≠[]):∃ body,Cn t σ=body++[(A7 t).length+1]/\∀ x∈body,x < (A7 t).length+2/\x≠(A7 t).length+1:=by
 obtain ⟨u1,u2⟩:=Pj ht;obtain ⟨p1,p2,p3⟩:=Z0 ho;obtain ⟨b,hb,hx⟩:=Qi0 (n:=((A7 t).length:Nat)) (by omega) (Iv t σ) [] 0 p3 (by simp);have he:Ia ((A7 t).length:Nat) (Iv t σ)=(b++[((A7 t).length:Int)+1],0):=by rw [Ia,if_neg (by omega)];exact hb
 refine ⟨Pa b,?_,fun x hx2=>?_⟩
 ·
  unfold Cn;rw [he];simp only [Pa,Uq,List.map_cons,List.map_nil]
  congr 2
 obtain ⟨y,hy,rfl⟩:=Y2.1 hx2;have:=hx y hy;omega
theorem Qw0 {s:LB}{σ:LN} (ho:Ordered (enc s) σ) (hs:s≠[]) (hl:s.length<=262144) (hel:(enc s).length<=262144) (hne:enc s≠[]) {most:Int} (h0:1<=most) (h1:most<=262144) :
  Ts (A7 (enc s)) (Cn (enc s) σ) (σ.idxOf 0) most=if ((enc s).length:Int)<=most then (s,0) else ([],3):=by
 obtain ⟨u1,u2⟩:=Pj hne;obtain ⟨p1,p2,p3⟩:=Z0 ho;obtain ⟨z1,z2,z3,z4,z5,z6⟩:=V6 ho hne;have hz:∀ v∈(Ia ((A7 (enc s)).length:Nat) (Iv (enc s) σ)).1,0<=v:=fun v hv=>(Qt6 (n:=((A7 (enc s)).length:Nat)) (by omega) (by omega) p3).2.1 v hv |>.1
 have hni:ni (Cn (enc s) σ)=(Ia ((A7 (enc s)).length:Nat) (Iv (enc s) σ)).1:=QLe hz;have hzb:=QQb ((A7 (enc s)).length:Nat) (Iv (enc s) σ) (Ia ((A7 (enc s)).length:Nat) (Iv (enc s) σ)).1 (by rw [<- z1]) most (by omega) h1;have hfb:=Qhw _ _ _ p1;have hmu:=Qba hne;have hcl:=Qck ho
 have hrow:σ.idxOf 0 < (enc s).length:=by
  have hm:0∈σ:=by
   refine ho.perm.mem_iff.2 ?_
   have:0 < (enc s).length:=by cases h:enc s with
    | nil=>exact absurd h hne
    | cons=>simp
   simpa using this
  have:=List.idxOf_lt_length_of_mem hm;have h2:=ho.perm.length_eq;simp at h2;omega
 have hbk:Wy (Cb (enc s) σ) (σ.idxOf 0:Nat)=(enc s,0):=by
  unfold Wy;rw [if_neg (by omega),if_neg (by omega),Ys,hcl,Qz2 ho hne]
 have hsy:Q4 (A7 (enc s)) (Iv (enc s) σ)=(Cb (enc s) σ,0):=by
  unfold Q4;rw [if_pos hmu,hfb]
 unfold Ts;rw [hni,hzb,p2];by_cases hm:((enc s).length:Int)<=most
 ·
  simp only [if_pos hm];rw [if_neg (by simp),hsy,if_neg (by simp),hbk,if_neg (by simp),Qsm s hl]
 simp only [if_neg hm];rw [if_pos (by simp)]
theorem S2 {s:LB} (hs:s≠[]):enc s≠[]:=by
 intro e
 obtain ⟨c,r,rfl⟩:∃ c r,s=c::r:=by cases s with
  | nil=>exact absurd rfl hs
  | cons c r=>exact ⟨c,r,rfl⟩
 have h1:=Q6 (c::r) (by simp);have h2:=Lx (c::r) (by simp);have h3:=(Pi (c::r)).1;have h4:=Pe (Ch (c::r)) (c::r) h3;rw [e] at h1;have h5:=congrArg Xp h1;simp only [Yl,Ub] at h5;split at h4 <;> omega
theorem Qbe (s:LB):Ck s < 4294967296:=by
 have:=Zm s (r:=4294967295) (by omega);unfold Ck
 first | omega | exact Ue (n:=32) this (by omega)
def Wn (s:LB) (σ:LN):List Bool:=Fb (A7 (enc s))++(Ej (B1 (enc s) σ).1 (B1 (enc s) σ).2++E1 (B1 (enc s) σ).1 (B1 (enc s) σ).2 (Cn (enc s) σ) 0)
theorem Qeg (s:LB) (σ:LN):Fq s σ=P5 s (σ.idxOf 0)++Wn s σ:=by
 simp [Fq,Wn]
theorem Qz8 {s:LB}{σ:LN} (ho:Ordered (enc s) σ) (hs:s≠[]) (hl:s.length<=262144) (hel:(enc s).length<=262144) {bits:List Bool}{at_ sum:Nat}{r:List Bool} (hsum:sum < 4294967296) (hb:bits.drop at_=A2 48 54156738319193++(A2 32 sum++(A2 1 0++(A2 24 (σ.idxOf 0)++(Wn s σ++r))))) {most:Int} (h0:1<=most) (h1:most<=262144) :
  Wm bits at_ most=if ((enc s).length:Int)<=most then (if Ck s≠sum then .error 121 else .ok (s,sum,at_+(Fq s σ).length)) else .error 3:=by
 have hne:=S2 hs;obtain ⟨u1,u2⟩:=Pj hne;have hmay:=Qdq ho hne hel;obtain ⟨bm,bn⟩:=Qpl hmay;have hbg:=Qe0 (Cn (enc s) σ) ((A7 (enc s)).length+2)
 have hrow:σ.idxOf 0 < 2 ^ 24:=by
  have h1:=Gp (l:=σ) (a:=0);have h2:=ho.perm.length_eq;simp at h2;omega
 obtain ⟨a1,a2,a3⟩:=Qy (by omega) (by decide) hb;obtain ⟨b1,b2,b3⟩:=Qy (by omega) hsum a3;obtain ⟨c1,c2,c3⟩:=Qy (by omega) (by decide) b3;obtain ⟨d1,d2,d3⟩:=Qy (by omega) hrow c3
 have hhd:Lq bits at_=(sum,σ.idxOf 0,at_+105,0):=by
  unfold Lq;rw [if_neg (by omega),if_neg (by rw [a2];simp),if_neg (by omega),if_neg (by omega)];rw [show at_+48+32=at_+80 by omega] at c2;rw [show at_+48+32+1=at_+81 by omega] at d2;rw [c2,if_neg (by simp),if_neg (by omega),b2,d2]
 have e1:bits.drop (at_+105)=Fb (A7 (enc s))++((Ej (B1 (enc s) σ).1 (B1 (enc s) σ).2++E1 (B1 (enc s) σ).1 (B1 (enc s) σ).2 (Cn (enc s) σ) 0)++r):=by
  rw [show at_+105=at_+48+32+1+24 by omega,d3,Wn];simp
 have hst:=Qzu hne e1;have e2:=Me e1;rw [Yi] at e2
 have hpt:Z7 bits (at_+105+(Fb (A7 (enc s))).length) ((A7 (enc s)).length+2)=.ok (((B1 (enc s) σ).1,(B1 (enc s) σ).2),at_+105+(Fb (A7 (enc s))).length+(Ej (B1 (enc s) σ).1 (B1 (enc s) σ).2).length):=by
  have:=Qvo bm e2;rw [bn] at this;exact this
 have e3:=Me e2;obtain ⟨body,hbody,hbx⟩:=Qwz ho hne;obtain ⟨n1,n2,n3,n4,n5,n6⟩:=bm
 have hgl:(Cn (enc s) σ).length<=50 * (B1 (enc s) σ).2.length:=by
  show _<=50 * (E2 _ _).2.length
  rw [hbg];unfold Dq;omega
 have hpc:E1 (B1 (enc s) σ).1 (B1 (enc s) σ).2 (Cn (enc s) σ) 0=Kt (B1 (enc s) σ).1 (B1 (enc s) σ).2 (Cn (enc s) σ) :=
  Qhc (B1 (enc s) σ).1 (B1 (enc s) σ).2 (B1 (enc s) σ).2 0 (Cn (enc s) σ) rfl hgl
 have hT:∀ t,t < (B1 (enc s) σ).1.length->((B1 (enc s) σ).1.getD t []).length=(A7 (enc s)).length+2/\Fv ((B1 (enc s) σ).1.getD t []):=fun t ht=>by
  have hm:(B1 (enc s) σ).1.getD t []∈(B1 (enc s) σ).1:=by
   rw [Yc,Yb ht];exact Xk ht
  obtain ⟨q1,q2,q3⟩:=n5 _ hm;exact ⟨by rw [q1];exact bn,q3⟩
 have hgp:Wj (B1 (enc s) σ).1 bits ((A7 (enc s)).length+1) (B1 (enc s) σ).2 (at_+105+(Fb (A7 (enc s))).length+(Ej (B1 (enc s) σ).1 (B1 (enc s) σ).2).length)=.ok (Cn (enc s) σ,at_+105+(Fb (A7 (enc s))).length+(Ej (B1 (enc s) σ).1 (B1 (enc s) σ).2).length+(Kt (B1 (enc s) σ).1 (B1 (enc s) σ).2 (Cn (enc s) σ)).length):=by
  rw [hpc,hbody] at e3;rw [hbody];exact Qtw (by omega) hT _ body n6 hbx (by rw [<- hbody];exact hgl) e3
 have hun:=Qw0 ho hs hl hel hne h0 h1
 have hlen:(Fq s σ).length=105+(Fb (A7 (enc s))).length+(Ej (B1 (enc s) σ).1 (B1 (enc s) σ).2).length+(Kt (B1 (enc s) σ).1 (B1 (enc s) σ).2 (Cn (enc s) σ)).length:=by
  rw [Qeg,Wn,<- hpc];simp [Qdr];omega
 have hbn:((B1 (enc s) σ).1.getD 0 []).length=(A7 (enc s)).length+2:=bn;unfold Wm;rw [hhd];simp only [ne_eq,not_true_eq_false,if_false];rw [hst];simp only;rw [hpt];simp only;rw [hbn,show (A7 (enc s)).length+2 - 1=(A7 (enc s)).length+1 by omega,hgp];simp only;rw [hun,hlen];by_cases hm:((enc s).length:Int)<=most
 ·
  simp only [if_pos hm,not_true_eq_false,if_false];split
  ·
   rfl
  rw [show at_+105+(Fb (A7 (enc s))).length+(Ej (B1 (enc s) σ).1 (B1 (enc s) σ).2).length+(Kt (B1 (enc s) σ).1 (B1 (enc s) σ).2 (Cn (enc s) σ)).length=at_+(105+(Fb (A7 (enc s))).length+(Ej (B1 (enc s) σ).1 (B1 (enc s) σ).2).length+(Kt (B1 (enc s) σ).1 (B1 (enc s) σ).2 (Cn (enc s) σ)).length) by omega]
 simp only [if_neg hm];rfl
theorem Qsn {s:LB}{σ:LN} (ho:Ordered (enc s) σ) (hs:s≠[]) (hl:s.length<=262144) (hel:(enc s).length<=262144) {bits:List Bool}{at_:Nat}{r:List Bool} (hb:bits.drop at_=Fq s σ++r) {most:Int} (h0:1<=most) (h1:most<=262144) :
  Wm bits at_ most=if ((enc s).length:Int)<=most then .ok (s,Ck s,at_+(Fq s σ).length) else .error 3:=by
 rw [Qz8 (r:=r) ho hs hl hel (Qbe s) (by rw [hb,Qeg,P5];simp [Yi]) h0 h1];simp
open Go.Shelf
def Qmb:Go.Shelf.Ren:=⟨fun | 6=>233 | 15=>82 | 14=>255 | 28=>122 | 29=>123 | 20=>263 | 21=>264 | 22=>265 | 23=>266 | 24=>267 | 25=>268 | 26=>269 | 27=>270 | 46=>274 | 47=>153 | 48=>154 | 49=>275 | 50=>276 | 57=>277 | n=>n,fun | 22=>317 | 24=>319 | 25=>321 | 3=>3 | 39=>141 | 0=>0 | 53=>52 | 55=>194 | 4=>4 | 46=>200 | 45=>199 | 50=>204 | 5=>5 | 9=>9 | 66=>244 | 70=>248 | 76=>283 | 77=>284 | n=>n,fun | n=>n⟩
theorem Qz9:Go.Proofs.SlLaysF0.n6 Yq Qmb:={
 mixed:=by kernel_rfl
 f6:=⟨Tryz.f233.name,by decide,Tryz.func233.trans (congrArg some (by kernel_rfl))⟩
 f14:=⟨Tryz.f255.name,by decide,Tryz.func255.trans (congrArg some (by kernel_rfl))⟩
 f15:=Tryz.func82.trans (congrArg some (by kernel_rfl))
 f20:=⟨Tryz.f263.name,by decide,Tryz.func263.trans (congrArg some (by kernel_rfl))⟩
 f21:=⟨Tryz.f264.name,by decide,Tryz.func264.trans (congrArg some (by kernel_rfl))⟩
 f22:=⟨Tryz.f265.name,by decide,Tryz.func265.trans (congrArg some (by kernel_rfl))⟩
 f23:=⟨Tryz.f266.name,by decide,Tryz.func266.trans (congrArg some (by kernel_rfl))⟩
 f24:=⟨Tryz.f267.name,by decide,Tryz.func267.trans (congrArg some (by kernel_rfl))⟩
 f25:=⟨Tryz.f268.name,by decide,Tryz.func268.trans (congrArg some (by kernel_rfl))⟩
 f26:=⟨Tryz.f269.name,by decide,Tryz.func269.trans (congrArg some (by kernel_rfl))⟩
 f27:=⟨Tryz.f270.name,by decide,Tryz.func270.trans (congrArg some (by kernel_rfl))⟩
 f28:=Tryz.func122.trans (congrArg some (by kernel_rfl))
 f29:=Tryz.func123.trans (congrArg some (by kernel_rfl))
 f46:=⟨Tryz.f274.name,by decide,Tryz.func274.trans (congrArg some (by kernel_rfl))⟩
 f47:=Tryz.func153.trans (congrArg some (by kernel_rfl))
 f48:=Tryz.func154.trans (congrArg some (by kernel_rfl))
 f49:=⟨Tryz.f275.name,by decide,Tryz.func275.trans (congrArg some (by kernel_rfl))⟩
 f50:=⟨Tryz.f276.name,by decide,Tryz.func276.trans (congrArg some (by kernel_rfl))⟩
 f57:=⟨Tryz.f277.name,by decide,Tryz.func277.trans (congrArg some (by kernel_rfl))⟩
 t0:=Tryz.underlying0
 a0:=Tryz.isAgg0
 z0:=Tryz.sizeOf0
 v0:=Tryz.zeroValue0
 t3:=Tryz.underlying3
 a3:=Tryz.isAgg3
 z3:=Tryz.sizeOf3
 v3:=Tryz.zeroValue3
 t4:=Tryz.underlying4
 a4:=Tryz.isAgg4
 z4:=Tryz.sizeOf4
 v4:=Tryz.zeroValue4
 t5:=Tryz.underlying5
 a5:=Tryz.isAgg5
 z5:=Tryz.sizeOf5
 v5:=Tryz.zeroValue5
 t9:=U3
 a9:=Tryz.isAgg9
 z9:=Tryz.sizeOf9
 v9:=Tryz.zeroValue9
 t22:=Gv
 a22:=Tryz.isAgg317
 z22:=Tryz.sizeOf317
 v22:=Tryz.zeroValue317
 t25:=Tryz.underlying321
 a25:=Tryz.isAgg321
 z25:=Tryz.sizeOf321
 v25:=Tryz.zeroValue321
 t39:=Tryz.underlying141
 a39:=Tryz.isAgg141
 z39:=Tryz.sizeOf141
 v39:=Tryz.zeroValue141
 t45:=Tryz.underlying199
 a45:=Tryz.isAgg199
 z45:=Tryz.sizeOf199
 v45:=Tryz.zeroValue199
 t46:=Tryz.underlying200
 a46:=Tryz.isAgg200
 z46:=Tryz.sizeOf200
 v46:=Tryz.zeroValue200
 t50:=Tryz.underlying204
 a50:=Tryz.isAgg204
 z50:=Tryz.sizeOf204
 v50:=Tryz.zeroValue204
 t53:=Tryz.underlying52
 a53:=Tryz.isAgg52
 z53:=Tryz.sizeOf52
 v53:=Tryz.zeroValue52
 t55:=Tryz.underlying194
 a55:=Tryz.isAgg194
 z55:=Tryz.sizeOf194
 v55:=Tryz.zeroValue194
 t66:=Tryz.underlying244
 a66:=Tryz.isAgg244
 z66:=Tryz.sizeOf244
 v66:=Tryz.zeroValue244
 t70:=Tryz.underlying248
 a70:=Tryz.isAgg248
 z70:=Tryz.sizeOf248
 v70:=Tryz.zeroValue248
 t76:=Tryz.underlying283
 a76:=Tryz.isAgg283
 z76:=Tryz.sizeOf283
 v76:=Tryz.zeroValue283
 t77:=Tryz.underlying284
 a77:=Tryz.isAgg284
 z77:=Tryz.sizeOf284
 v77:=Tryz.zeroValue284 }
open Go Go.Eng
theorem Qf2 (a b:Tr) (ha:I3 a) (hb:I3 b) (w:World):Does Yq 234 #[.agg (A4 a).toArray,.agg (A4 b).toArray] w fun v w'=>v=.int .i64 (Du a b)/\w'=(w.alloc (Yp (A4 a).toArray 319)).alloc (Yp (A4 b).toArray 319):=by
 obtain ⟨ha1,ha2,ha3⟩:=ha;obtain ⟨hb1,hb2,hb3⟩:=hb;refine En [.agg (A4 a).toArray,.agg (A4 b).toArray] 23 Tryz.func234 ?_;refine VQ [2,3] fun K hK=>?_;refine Dl ?_;refine Qs ?_;have hH:=(Y9 w).box 319 (A4 a);generalize w.alloc (Yp (A4 a).toArray 319)=w1 at *;generalize w.heap.size=ga at *;refine Dl ?_;refine Qs ?_;have hH2:=hH.box 319 (A4 b);generalize w1.alloc (Yp (A4 b).toArray 319)=w2 at *;generalize w1.heap.size=gb at *;clear hH;apply hK;clear hK;refine VQ [2,3,7] fun K hK=>?_;refine ⟨A4 a,⟨rfl,Bu (hH2.at 1 rfl)⟩,?_⟩;refine ⟨A4 b,⟨rfl,Bu (hH2.at 0 rfl)⟩,?_⟩;rw [Qmp];apply hK;clear hK;refine Vi (fun h=>?_) (fun h=>Ad ?_)
 ·
  simp only [decide_eq_true_eq] at h;subst h;refine VS [4] ?_;exact Ae (Al rfl rfl ⟨by simp [Du],rfl⟩)
 clear h;have c1:w2.cell? ⟨ga,0,none⟩=some (.int .i64 a.1):=Af (hH2.at 1 rfl) rfl;have c2:w2.cell? ⟨ga,1,none⟩=some (.int .i64 a.2):=Af (hH2.at 1 rfl) rfl;have c3:w2.cell? ⟨gb,0,none⟩=some (.int .i64 b.1):=Af (hH2.at 0 rfl) rfl;have c4:w2.cell? ⟨gb,1,none⟩=some (.int .i64 b.2):=Af (hH2.at 0 rfl) rfl;refine VQ [2,3,12] fun K hK=>?_;refine ⟨_,c1,_,c3,?_⟩;refine Qs ?_;apply hK;clear hK;refine Vi (fun h=>?_) (fun h=>Ad ?_)
 ·
  simp only [decide_eq_true_eq] at h;refine VQ [4] fun K hK=>?_;refine ⟨_,c1,_,c3,?_⟩;refine Qs ?_;refine ⟨Xn (by omega) (by omega),?_⟩;apply hK;clear hK;exact Ae (Al rfl rfl ⟨by rw [Du,if_neg h],rfl⟩)
 simp only [decide_eq_false_iff_not,Decidable.not_not] at h;refine VQ [4] fun K hK=>?_;refine ⟨_,c2,_,c4,?_⟩;refine Qs ?_;refine ⟨Xn (by omega) (by omega),?_⟩;apply hK;clear hK;exact Ae (Al rfl rfl ⟨by rw [Du,if_pos h],rfl⟩)
abbrev R5:={ t:Tr // I3 t }
instance:Inhabited R5:=⟨⟨(0,0),by unfold I3;omega⟩⟩
def Qb (x:R5):LV:=A4 x.1
def Rz (x y:R5):Int:=Du x.1 y.1
theorem Qmx (x y:Tr):Du x y < 0 ↔ (x.1 < y.1∨(x.1=y.1/\x.2 < y.2)):=by
 unfold Du;split <;> omega
theorem QTa:Sort.SWO (Go.Proofs.ltOf Rz) where
 irrefl x:=by simp [Go.Proofs.ltOf,Rz,Du]
 trans x y z h1 h2:=by
  simp only [Go.Proofs.ltOf,Rz,decide_eq_true_eq,Qmx] at *;omega
 ntrans x y z h1 h2:=by
  simp only [Go.Proofs.ltOf,Rz,decide_eq_false_iff_not,Qmx] at *;omega
theorem Qso (T:List Tr) (hT:T.length<=1000000) (hok:∀ t∈T,I3 t) (g cap:Nat) (w0 w:World) (B:LN) (G:List Res) (hL:Heap w0 B w (Dv g cap T::G)) :
  Does Yq 233 #[.slice (some ⟨g,0,none⟩) T.length cap,Wf] w fun v w'=>∃ T':List Tr,T'.Perm T/\(T'.Pairwise fun a b=>¬ Du b a < 0)/\Heap w0 B w' (Dv g cap T'::G):=by
 intro n
 obtain ⟨d,hd⟩:∃ d:Array R5,d.toList.map (·.1)=T:=by
  refine ⟨(T.pmap (fun t h=>(⟨t,h⟩:R5)) hok).toArray,?_⟩;rw [List.toList_toArray,List.map_pmap];simp
 have hdl:d.size=T.length:=by rw [<- hd];simp
 have henc:∀ d:Array R5,Bw Qb d.toList=F2 (d.toList.map (·.1)):=fun d=>by
  unfold F2 Bw;rw [List.flatMap_map];rfl
 have hrow:(Yf 319 2 (some ⟨g,0,none⟩) d.size cap (Bw Qb d.toList)).holds w:=by
  rw [henc d,hd,hdl];exact hL.at 0 rfl
 have hlt:g < w.heap.size:=(hL.foot (Dv g cap T) (by simp) g (by simp [Dv,Yf])).2
 have hcmp:Go.Proofs.CmpLays Yq 234 #[] Qb 2 Rz g 0 d.size (w.drewN n):=by
  intro m os dk hdk x y;rw [Array.append_empty];have h:=Qf2 x.1 y.1 x.2 y.2 (Go.Proofs.sortWorldK Qb 2 (w.drewN n) g 0 m dk os) 0;rw [Qtb] at h;refine Calls.mono h ?_;rintro e w' ⟨v,w1,q,rfl,rfl,rfl,rfl⟩;refine ⟨rfl,q,#[Yp (A4 x.1).toArray 319,Yp (A4 y.1).toArray 319],?_⟩;rw [Sort.alloc_eq_grow,Sort.alloc_eq_grow,Sort.grow_grow];rfl
 have hcon:=AnyQ.slices_SortFunc Qz9 2 Tryz.isAgg319 Tryz.sizeOf319 Qb (fun _=>rfl) (fun x=>Lw x.1) Rz QTa 234 #[] g 0 cap d (w.drewN n) Tryz.call234 hcmp (Qaj (enc:=Qb) (k:=2) (fun _=>rfl) hrow) hlt (by omega);change Calls Yq 233 _ _ _ at hcon;rw [hdl] at hcon;refine hcon.mono ?_;rintro e w' ⟨rfl,d',m,os,⟨hp1,hp2,hp3⟩,hs,rfl⟩;obtain ⟨w1,e1,hH⟩:=Qa7 (enc:=Qb) (k:=2) (fun _=>rfl) hrow hp1 n m os;have e2:(w1.drewN n).drewN m=w1.drewN (n+m):=by simp [World.drewN,Gs]
 have hH2:=hL.call1 0 rfl hH;simp only [Yd,Yh] at hH2;have hlen:(d'.toList.map (·.1)).length=d'.size:=by simp
 have e3:Yf 319 2 (some ⟨g,0,none⟩) d'.size cap (Bw Qb d'.toList)=Dv g cap (d'.toList.map (·.1)):=by
  rw [Dv,hlen,<- henc d']
 rw [e3] at hH2;have hfull:∀ x:Array R5,(x.extract 0 x.size).toList=x.toList:=fun x=>by simp
 refine ⟨_,w1,n+m,rfl,by rw [e1,e2],d'.toList.map (·.1),?_,?_,hH2⟩
 ·
  rw [<- hd];have h1:=hp3;rw [<- hdl,hfull d,<- hp1,hfull d'] at h1;exact h1.map _
 rw [Xy,Xf];intro i j hi hj hij;have h1:=hs i j (by omega) hij (by rw [<- hdl,<- hp1];simpa using hj);have h1:=of_decide_eq_false h1;simp only [Rz] at h1;have hi':i < d'.size:=by simpa using hi
 have hj':j < d'.size:=by simpa using hj
 rw [getElem!_pos d' i hi',getElem!_pos d' j hj'] at h1;simpa using h1
theorem QAa {n k:Nat} (hn:2<=n) (h1:2 ^ k<=n) (h2:n < 2 ^ (k+1)):Dz n=k:=(Nat.log2_eq_iff (by omega)).2 ⟨h1,h2⟩
def Ke (l:LN) (i:Nat):Tr:=(-((max (l.getD i 0) 1:Nat):Int),i)
theorem Qw1 (l:LN) (hl:2<=l.length) (hl2:l.length<=258) (hx:∀ x∈l,x<=1073741824) (pa:OA) (lc:Nat) (w:World) (hr:RS w pa l.length 1 (Ak l)) :
  Does Yq 215 #[.slice pa l.length lc] w fun v w'=>∃ a cap,Heap w [] w' [Yf 3 1 a (Ee l).length cap (Ak (Ee l))]/\v=.tuple #[.slice a (Ee l).length cap,.int .i64 0]:=by
 have hc1:=Qe1 l hl hl2 hx pa lc w hr;obtain ⟨p,rfl⟩:=Ek hr (by omega);have hget:∀ i,i < l.length->l.getD i 0<=1073741824:=fun i hi=>hx _ (Ez 0 hi);refine En [.slice (some p) l.length lc] 73 Tryz.func215 ?_;generalize hn:l.length=n at *;refine VS [0] ?_;refine VQ [0,14] fun K hK=>?_;refine Aa Tryz.call229 ?_;refine Qs ?_;refine Yo hc1 ?_;rintro v w2 ⟨rfl,rfl⟩;refine Qs ?_;apply hK;clear hK;refine Ai rfl rfl (fun h=>by simp at h) (fun h=>Ad ?_);clear h hc1;refine VS [0,4,5] ?_;refine VB ?_;refine Ay [0,4,5] (fun m e w'=>∃ (k:Nat),Is e [(0,.slice (some p) n lc),(4,.int .i64 n),(5,.int .i64 k)]/\Is w' w2/\1<=k/\k<=8/\2 ^ k<=n/\m=9 - k) 8 ?_ ?_
 ·
  refine Qs ?_;exact ⟨1,rfl,rfl,by omega,by omega,by omega,rfl⟩
 rintro m e w' ⟨k,rfl,rfl,hk1,hk8,hkn,rfl⟩;have hp2:2 ^ (k+1)<=2 ^ 9:=X0 (by omega) (by omega);have hp3:2 ^ (k+1)<=512:=hp2;have hsh:By Xd ((k:Int)+1)=k+1:=Wa (by omega) (by simp [Ga];omega);have hp:(1:Int) * 2 ^ (k+1)=((2 ^ (k+1):Nat):Int):=by push_cast;exact Gn _
 refine VQ [0,4,5,21] fun K hK=>?_;rw [hsh,hp];clear hp hp2 hsh;generalize hP2:2 ^ (k+1)=P2 at *;refine ⟨Xn (by omega) (by omega),by omega,Xn (by omega) (by omega),?_⟩;apply hK;clear hK;refine VD (fun h=>?_) (fun h=>?_)
 ·
  have hk9:k+1<=8:=by
   rcases Uu 8 (k+1) with h3 | h3
   ·
    have:2 ^ 9<=2 ^ (k+1):=X0 (by omega) (by omega);rw [hP2] at this;have e:(2:Nat) ^ 9=512:=by decide
    omega
   exact h3
  refine Ad ?_;refine Aq ?_;refine VS [0,4,5] ?_;refine An ?_;refine Ah ?_;refine Qs ?_;exact ⟨9 - (k+1),by omega,k+1,rfl,rfl,by omega,hk9,by rw [hP2];omega,rfl⟩
 have hK:=QAa (n:=n) (k:=k) (by omega) hkn (by rw [hP2];omega);refine Ax rfl ?_;refine VQ [0,4,5,6] fun K hK=>?_;refine Qq5 (zs:=[.int .i64 0,.int .i64 0]) (k:=2) (bytes:=16) Gv (by kernel_rfl) rfl (by omega) ?_;refine Qs ?_;refine ⟨n,n,⟨rfl,rfl,by omega,by omega,by omega⟩,?_⟩
 have ez:∀ c,(Ya c [Y6 .i64 0,Y6 .i64 0]).flatten=F2 (Ya c (0,0)):=fun c=>by
  induction c with
  | zero=>rfl
  | succ c ih=>rw [Xt,Uz,ih,Xt];rfl
 have hH0:=(Y9 w').row 319 (n:=n) (cap:=n) (sz:=2) (F2 (Ya n (0,0))) [] (by rw [Zj];simp) (by rw [Yk,Zj];simp) (by omega) (by omega);rw [Yk,<- ez] at hH0;generalize w'.alloc (Yp (Ya n [Y6 Xd 0,Y6 Xd 0]).flatten.toArray 319)=w3 at *;generalize w'.heap.size=go at *;rw [ez] at hH0;apply hK;clear hK;refine VS [4,5,6,26,27,28] ?_;refine Aq ?_;refine Ay [4,5,6,26,27,28] (fun m e w1=>∃ (i:Nat),Is e [(4,.int .i64 n),(5,.int .i64 k),(6,.slice (some ⟨go,0,none⟩) n n),(26,.slice (some p) n lc),(27,.int .i64 n),(28,.int .i64 i)]/\Heap w' [] w1 [Yf 319 2 (some ⟨go,0,none⟩) n n (F2 ((Yg i).map (Ke l)++Ya (n - i) (0,0)))]/\i<=n/\m=n - i) n ?_ ?_
 ·
  refine Qs ?_;exact ⟨0,rfl,by simpa using hH0,by omega,rfl⟩
 clear hH0;rintro m e w4 ⟨i,rfl,hH,hi,rfl⟩;refine VS [4,5,6,26,27,28,29] ?_;(repeat refine Aw ?_);refine VD (fun h=>?_) (fun h=>?_)
 ·
  have hcell:=El (hH.rs' hr) (i:=i) (by omega);have hgi:=hget i (by omega);have hsn:(Yg (i+1)).map (Ke l)=(Yg i).map (Ke l)++[Ke l i]:=by rw [X9,Uq];rfl
  have hml:((Yg i).map (Ke l)).length=i:=by simp
  have hnt:Ke l i=(-((max (l.getD i 0) 1:Nat):Int),i):=rfl;generalize (Yg i).map (Ke l)=L at *;generalize l.getD i 0=x at *;generalize Ke l i=y at *
  have hset:(L++Ya (n - i) (0,0)).set i y=(L++[y])++Ya (n - (i+1)) (0,0):=by
   obtain ⟨q,hq⟩:∃ q,n - i=q+1:=⟨n - i - 1,by omega⟩;rw [hq,Xt,Uk _ _ (by omega),hml,X5,Yd,Yi,show n - (i+1)=q by omega];rfl
  have hlen:(L++Ya (n - i) ((0:Int),(0:Nat))).length=n:=by simp;omega
  refine Ad ?_;refine VB ?_;refine VQ [4,5,6,7,8,26,27,28] fun K hK=>?_;refine ⟨⟨by omega,by omega⟩,_,hcell,?_⟩;apply hK;clear hK;refine VQ [4,5,6,26,27,28] fun K hK=>?_;refine ⟨Xn (by omega) (by omega),⟨by omega,by omega⟩,?_⟩;rw [show -(max ((x:Nat):Int) 1)=y.1 by rw [hnt];simp only;omega,show ((i:Nat):Int)=(y.2:Int) by rw [hnt]];refine Ag ?_;refine Qs ?_;refine Dp hH 0 (o:=i * 2) (vs:=A4 y) rfl (by first | exact (Bv _ _ _).symm | rw [Bv,Gd] | (rw [Bv];simp;omega)) rfl (by kernel_rfl) (by rw [Zj,hlen];simp [A4];omega) (Lw y) fun w6 hH6=>?_;have e6:=Qj2 Oh (L++Ya (n - i) (0,0)) i y (by omega);rw [hset] at e6
  have hH7:Heap w' [] w6 [Yf 319 2 (some ⟨go,0,none⟩) n n (F2 ((L++[y])++Ya (n - (i+1)) (0,0)))]:=by
   rw [show F2 ((L++[y])++Ya (n - (i+1)) (0,0))=Bw A4 ((L++[y])++Ya (n - (i+1)) (0,0)) from rfl,<- e6];exact hH6
  clear hH6 e6 hH hcell;have hi2:((y.2:Nat):Int)=i:=by rw [hnt]
  apply hK;clear hK;rw [hi2];refine An ?_;refine VS [4,5,6,26,27,28] ?_;refine Ah ?_;refine Qs ?_;exact ⟨n - (i+1),by omega,i+1,rfl,by rw [hsn];exact hH7,by omega,rfl⟩
 obtain rfl:i=n:=by omega
 rw [X5,Xs,Yk] at hH;have hTl:((Yg i).map (Ke l)).length=i:=by simp
 have hTok:∀ t∈(Yg i).map (Ke l),I3 t:=fun t ht=>by
  obtain ⟨j,hj,rfl⟩:=Y2.1 ht;have hj:j < i:=by simpa using hj
  have:=hget j hj;unfold I3 Ke;simp only;omega
 have hH1:Heap w' [] w4 [Dv go i ((Yg i).map (Ke l))]:=by
  unfold Dv;rw [hTl];exact hH
 clear hH;refine Ax rfl ?_;have hcs:=Qso _ (by omega) hTok go i w' w4 [] [] hH1;rw [hTl] at hcs;refine VQ [4,5,6] fun K hK=>?_;refine Aa Tryz.call233 ?_;refine Qs ?_;refine Yo hcs ?_;rintro v w5 ⟨T,hTp,hTs,hH2⟩;have hTlen:T.length=i:=by rw [hTp.length_eq,hTl]
 have hTmem:∀ t∈T,t=Ke l t.2/\t.2 < i:=fun t ht=>by
  obtain ⟨j,hj,rfl⟩:=Y2.1 (hTp.mem_iff.1 ht);exact ⟨rfl,by simpa [Ke] using hj⟩
 have hσp:(T.map (·.2)).Perm (Yg l.length):=by
  have:=hTp.map (·.2);rw [X4] at this;rw [hn];refine this.trans ?_
  have e:((Yg i).map ((fun t:Tr=>t.2) ∘ Ke l))=Yg i:=by
   conv=>rhs;rw [<- Gi (Yg i)]
   exact Xc fun j _=>rfl
  rw [e]
 have hσs:(T.map (·.2)).Pairwise fun a b=>Ie l a b=true:=by
  have hnd:(T.map (·.2)).Nodup:=hσp.nodup_iff.2 X3;rw [Xy];have h2:=hTs.and (Xy.1 hnd);have h3:T.Pairwise fun a b=>(a=Ke l a.2)/\(b=Ke l b.2):=Xf.2 fun i j hi hj _=>⟨(hTmem _ (Xk hi)).1,(hTmem _ (Xk hj)).1⟩;refine (h2.and h3).imp ?_;rintro a b ⟨⟨h4,h5⟩,h6,h7⟩;rw [Qmx] at h4;have e1:a.1=-((max (l.getD a.2 0) 1:Nat):Int):=congrArg Prod.fst h6;have e2:b.1=-((max (l.getD b.2 0) 1:Nat):Int):=congrArg Prod.fst h7;rw [Sg];omega
 have hfr:∀ q t,T[q]? = some t->S8 l t.2=q:=fun q t ht=>by
  obtain ⟨hq,e⟩:=Xh.1 ht;have:=Qey hσp hσs (p:=q) (by simpa using hq);rw [U2,e] at this;exact this
 clear hcs hH1 hTs hTok hTl;apply hK;clear hK;refine VQ [4,5,6,9] fun K hK=>?_;refine Ew Yu Ib ?_;refine Qs ?_;refine ⟨i,i,⟨rfl,rfl,by omega,by omega,by omega⟩,?_⟩;have hH3:=hH2.row 3 (n:=i) (cap:=i) (sz:=1) (Ak (Ya i 0)) [] (by simp [Bh]) (by simp [Bh]) (by omega) (by omega);rw [Yk,Lu] at hH3;generalize w5.alloc (Yp (Ya i (Y6 Xd 0)).toArray 3)=w6 at *;generalize w5.heap.size=gu at *;rw [<- Lu] at hH3;clear hH2;apply hK;clear hK;refine VS [4,5,9,46,47,48] ?_;refine Aq ?_;refine Ay [4,5,9,46,47,48] (fun m e w1=>∃ (q:Nat) (O:LN),Is e [(4,.int .i64 i),(5,.int .i64 k),(9,.slice (some ⟨gu,0,none⟩) i i),(46,.slice (some ⟨go,0,none⟩) i i),(47,.int .i64 i),(48,.int .i64 q)]/\Heap w' [] w1 [Yf 3 1 (some ⟨gu,0,none⟩) i i (Ak O),Dv go i T]/\O.length=i/\(∀ j t,j < q->T[j]? = some t->O.getD t.2 0=Mo i j)/\q<=i/\m=i - q) i ?_ ?_
 ·
  refine Qs ?_;exact ⟨0,_,rfl,hH3,by simp,fun j t hj _=>by omega,by omega,rfl⟩
 clear hH3;rintro m e w7 ⟨q,O,rfl,hH,hOl,hO,hq,rfl⟩;refine VS [4,5,9,46,47,48,49] ?_;(repeat refine Aw ?_);refine VD (fun h=>?_) (fun h=>?_)
 ·
  have hqT:T[q]? = some T[q]:=Yb (by omega);have htm:=hTmem T[q] (Xk _);have hfq:=hfr q _ hqT;have hrd:=Mw Oh (As (hH.at 1 rfl)) rfl hqT;rw [Bv,Gd] at hrd;have hfl:Mo i q=if P2 - i<=q then k+1 else k:=by rw [Mo,hK,hP2]
  generalize T[q]=t at *;refine Ad ?_;refine VB ?_;refine VQ [4,5,9,10,11,46,47,48] fun K hK=>?_;refine ⟨⟨by omega,by omega⟩,A4 t,⟨rfl,hrd⟩,?_⟩;refine Bo (.agg #[.int .i64 0,.int .i64 0]) (by kernel_rfl) ?_;refine Qs ?_;have hH4:=hH.box 319 [.int .i64 0,.int .i64 0];generalize w7.alloc (Yp [Y6 .i64 0,.int .i64 0].toArray 319)=w8 at *;generalize w7.heap.size=gt at *;refine Ag ?_;refine Qs ?_;refine Ap hH4 0 (vs:=A4 t) rfl rfl (by kernel_rfl) (by simp [A4]) (Lw _) fun w9 hH5=>?_;have hH5:Heap w' [] w9 [Ye gt 319 (A4 t),Yf 3 1 (some ⟨gu,0,none⟩) i i (Ak O),Dv go i T]:=hH5;apply hK;clear hK;clear hH hH4 hrd;have ct:(A4 t)[1]? = some (.int .i64 (t.2:Nat)):=rfl
  have hO2:∀ x,∀ j t',j < q+1->T[j]? = some t'->(O.set t.2 x).getD t'.2 0=if j=q then x else Mo i j:=fun x j t' hj ht'=>by
   have h8:=hfr j t' ht';by_cases e:j=q
   ·
    subst e;have e2:t'=t:=by rw [hqT] at ht';exact (Option.some.inj ht').symm
    rw [if_pos rfl,e2,Pd (by omega)]
   rw [if_neg e,Pc (fun e2=>e (by rw [<- h8,<- e2,hfq])),hO j t' (by omega) ht']
  refine VQ [4,5,9,10,11,46,47,48] fun K hK=>?_;refine ⟨_,Af (hH5.at 0 rfl) ct,?_⟩;refine Qs ?_;refine Qp ?_;refine Ag ?_;refine Qs ?_;refine Dp hH5 1 (o:=(t.2)) (vs:=[.int .i64 (k:Nat)]) rfl (by first | exact (Bv _ _ _).symm | rfl | simp [Bv]) rfl (by kernel_rfl) (by first | omega | (simp;done) | (simp;omega) | (simp [Ao,Br];omega) | (rw [Bh];simp;omega)) (by simp [Yt]) fun w6 hH6=>?_;(try refine Qs ?_);simp only [Yn,Dm (Ak O) _ _ (show t.2 < (Ak O).length by rw [Bh,hOl];omega),Ip,Yd,Yj] at hH6;apply hK;clear hK;refine VQ [4,5,9,11,46,47,48,64] fun K hK=>?_;rw [Wa (i:=(k:Int)+1) (n:=k+1) (by omega) (by simp [Ga];omega),show (1:Int) * 2 ^ (k+1)=((2 ^ (k+1):Nat):Int) by push_cast;exact Gn _,hP2];(repeat first | refine Qo ?_ | refine Qp ?_);apply hK;clear hK;refine VD (fun h=>?_) (fun h=>Ad ?_)
  ·
   rw [if_pos (by omega)] at hfl;refine VQ [4,5,9,46,47,48] fun K hK=>?_;refine ⟨_,Af (hH6.at 0 rfl) ct,?_⟩;refine Qs ?_;refine ⟨Xn (by omega) (by omega),⟨by omega,by omega⟩,?_⟩;refine Ag ?_;refine Qs ?_;refine Dp hH6 1 (o:=(t.2)) (vs:=[.int .i64 (k+1:Nat)]) rfl (by first | exact (Bv _ _ _).symm | rfl | simp [Bv]) rfl (by kernel_rfl) (by first | omega | (simp;done) | (simp;omega) | (simp [Ao,Br];omega) | (rw [Bh];simp;omega)) (by simp [Yt]) fun w6 hH7=>?_;(try refine Qs ?_);simp only [Yn,Dm (Ak (O.set t.2 k)) _ _ (show t.2 < (Ak (O.set t.2 k)).length by rw [Bh,Gf,hOl];omega),Ip,Yd,Yj,List.set_set] at hH7;apply hK;clear hK;refine An ?_;refine VS [4,5,9,46,47,48] ?_;refine Ah ?_;refine Qs ?_;refine ⟨i - (q+1),by omega,q+1,_,rfl,hH7.sub (Ui _ _),by simp [hOl],fun j t' hj ht'=>?_,by omega,rfl⟩;rw [hO2 (k+1) j t' hj ht'];split
   ·
    rename_i e;rw [e,hfl]
   rfl
  rw [if_neg (by omega)] at hfl;refine An ?_;refine VS [4,5,9,46,47,48] ?_;refine Ah ?_;refine Qs ?_;refine ⟨i - (q+1),by omega,q+1,_,rfl,hH6.sub (Ui _ _),by simp [hOl],fun j t' hj ht'=>?_,by omega,rfl⟩;rw [hO2 k j t' hj ht'];split
  ·
   rename_i e;rw [e,hfl]
  rfl
 obtain rfl:q=i:=by omega
 have hfin:O=Ee l:=by
  apply U1
  ·
   rw [hOl,Ee,X8,Y4,hn]
  intro j h1 h2;have hj:j < l.length:=by omega
  have hm:j∈T.map (·.2):=hσp.mem_iff.2 (by simpa using hj);obtain ⟨t,ht,e⟩:=Y2.1 hm;obtain ⟨p',hp',e2⟩:=X7 ht;have h3:T[p']? = some t:=by rw [Yb hp',e2]
  have h4:=hO p' t (by omega) h3;have h5:=hfr p' t h3;simp only [Ee,U2,Gu]
  have e5:O.getD j 0=Mo l.length (S8 l j):=by
   have e':t.2=j:=e;rw [hn,<- e',h5];exact h4
  rw [<- e5,Yc,Yb h1];rfl
 have hfl2:(Ee l).length=q:=by rw [<- hfin];exact hOl
 refine Ax rfl ?_;refine VS [2,3] ?_;refine Ae (Bp rfl rfl rfl ⟨some ⟨gu,0,none⟩,q,?_,by rw [hfl2]⟩);rw [hfl2,<- hfin];exact hH.sub (by simp)
theorem Qsp (l:LN) (x n:Nat) (hx:x < n):(Yg n).map (fun s=>(l++[x]).count s)=((Yg n).map fun s=>l.count s).set x (l.count x+1):=by
 apply Yz;intro j;rw [Yr,Xr,Yr,X8,Y4];by_cases e:x=j
 ·
  subst e;rw [if_pos rfl,if_pos hx,Yv hx];simp [Gw]
 rw [if_neg e];by_cases hj:j < n
 ·
  rw [Yv hj];simp [Gw,List.count_singleton,e]
 rw [Ym (by simpa using hj)];rfl
theorem Qsq (l:LN) (n:Nat):((Yg n).map fun s=>l.count s).length=n:=by simp
theorem Qsr (n:Nat):(Yg n).map (fun s=>([]:LN).count s)=Ya n 0:=by
 apply Yz;intro j;rw [Yr,Y3];by_cases hj:j < n
 ·
  rw [Yv hj,if_pos hj];rfl
 rw [Ym (by simpa using hj),if_neg hj];rfl
def QA9 (G:List Res) (v:Value) (T:List (LN)) (P:LN):Prop:=∀ w:World,(∀ r∈G,r.holds w)->PlanAt w v T P
theorem Qjt (list:LN) (n:Nat) (hm:M0 list n) (a:OA) (lc:Nat) (w:World) (hr:RS w a list.length 1 (Ak list)) :
  Does Yq 183 #[.slice a list.length lc,.int .i64 n] w fun x w'=>∃ v G,Heap w [] w' G/\QA9 G v (E0 list n).1 (E0 list n).2/\x=.tuple #[v,.int .i64 0]:=by
 have hml:=Qc5 list n hm a lc;have hfl:=Qmm hm;have hfq:Eo list n=(Yg n).map fun s=>list.count s:=rfl;obtain ⟨h1,h2,h3,h4,h5⟩:=hm;have hg1:=(T8 h3 h4);obtain ⟨p,rfl⟩:=Ek hr (by omega);refine En [.slice (some p) list.length lc,.int .i64 n] 51 Tryz.func183 ?_;generalize hnl:list.length=nl at *;refine VQ [0,1,4] fun K hK=>?_;refine Bo (.agg #[.slice none 0 0,.slice none 0 0]) (by kernel_rfl) ?_;refine Qs ?_;have hH:=(Y9 w).box 229 (Au none 0 0 none 0 0);have hpl:[Y8 none 0 0,Y8 none 0 0]=Au none 0 0 none 0 0:=rfl;rw [hpl];generalize w.alloc (Yp (Au none 0 0 none 0 0).toArray 229)=w1 at *;generalize w.heap.size=gr at *;apply hK;clear hK;refine VQ [0,1,4,16] fun K hK=>?_;refine Aa Tryz.call210 ?_;refine Qs ?_;refine Yo (hml w1 (hH.rs' hr)) ?_;rintro v w2 ⟨rfl,rfl⟩;refine Qs ?_;apply hK;clear hK;refine Ai rfl rfl (fun h=>by simp at h) (fun h=>Ad ?_);clear h;refine VQ [0,4,6] fun K hK=>?_;refine Ew Yu Ib ?_;refine Qs ?_;refine ⟨n,n,⟨rfl,rfl,by omega,by omega,by omega⟩,?_⟩;have hH2:=hH.row 3 (n:=n) (cap:=n) (sz:=1) (Ak (Ya n 0)) [] (by simp [Bh]) (by simp [Bh]) (by omega) (by omega);rw [Yk,Lu] at hH2;generalize w2.alloc (Yp (Ya n (Y6 Xd 0)).toArray 3)=w3 at *;generalize w2.heap.size=gu at *;rw [<- Lu] at hH2;clear hH;apply hK;clear hK;refine VS [0,4,6,20,21,22] ?_;refine Aq ?_;refine Ay [0,4,6,20,21,22] (fun m e w'=>∃ (i:Nat),Is e [(0,.slice (some p) nl lc),(4,.pointer (some ⟨gr,0,none⟩)),(6,.slice (some ⟨gu,0,none⟩) n n),(20,.slice (some p) nl lc),(21,.int .i64 nl),(22,.int .i64 i)]/\Heap w [] w' [Yf 3 1 (some ⟨gu,0,none⟩) n n (Ak ((Yg n).map fun s=>(list.take i).count s)),Ye gr 229 (Au none 0 0 none 0 0)]/\i<=nl/\m=nl - i) nl ?_ ?_
 ·
  refine Qs ?_;exact ⟨0,rfl,by rw [Uv,Qsr];exact hH2,by omega,rfl⟩
 clear hH2;rintro m e w4 ⟨i,rfl,hH,hi,rfl⟩;refine VS [0,4,6,20,21,22,23] ?_;(repeat refine Aw ?_);refine VD (fun h=>?_) (fun h=>?_)
 ·
  have hcell:=El (hH.rs' hr) (i:=i) (by omega);have hx:=h5 _ (Ez 0 (l:=list) (i:=i) (by omega));have htk:list.take (i+1)=list.take i++[list.getD i 0]:=Lv 0 (by omega);have hsn:=Qsp (list.take i) (list.getD i 0) n hx;rw [<- htk] at hsn;have hcl:=Qsq (list.take i) n;have hcg:((Yg n).map fun s=>(list.take i).count s).getD (list.getD i 0) 0=(list.take i).count (list.getD i 0):=Vr _ _ _ _ hx;have hcle:(list.take i).count (list.getD i 0)<=i:=Gb Gq (by rw [Uo];omega);generalize list.getD i 0=x at *
  have hcu:w4.cell? ⟨gu,x,none⟩=some (.int .i64 (((list.take i).count x:Nat):Int)):=by
   rw [<- hcg];exact B3 (hH.at 0 rfl) (Io (by omega))
  generalize (list.take i).count x=c at *;generalize ((Yg n).map fun s=>(list.take i).count s)=C at *;refine Ad ?_;refine VB ?_;refine VQ [0,4,6,8,20,21,22] fun K hK=>?_;refine ⟨⟨by omega,by omega⟩,_,hcell,?_⟩;apply hK;clear hK;refine VQ [0,4,6,20,21,22] fun K hK=>?_;refine ⟨⟨by omega,by omega⟩,_,hcu,?_⟩;refine Qs ?_;refine ⟨Xn (by omega) (by omega),⟨by omega,by omega⟩,?_⟩;refine Ag ?_;refine Qs ?_;refine Dp hH 0 (o:=(x)) (vs:=[.int .i64 (c+1:Nat)]) rfl (by first | exact (Bv _ _ _).symm | rfl | simp [Bv]) rfl (by kernel_rfl) (by first | omega | (simp;done) | (simp;omega) | (simp [Ao,Br];omega) | (rw [Bh];simp;omega)) (by simp [Yt]) fun w6 hH3=>?_;(try refine Qs ?_);simp only [Yn,Dm (Ak C) _ _ (show x < (Ak C).length by rw [Bh];omega),Ip,Yd,<- hsn] at hH3;apply hK;clear hK;refine An ?_;refine VS [0,4,6,20,21,22] ?_;refine Ah ?_;refine Qs ?_;exact ⟨nl - (i+1),by omega,i+1,rfl,hH3,by omega,rfl⟩
 obtain rfl:i=nl:=by omega
 clear h hi;rw [Yw (by omega),<- hfq] at hH;have hql:(Eo list n).length=n:=by rw [hfq];simp
 have hqx:∀ x∈Eo list n,x<=1073741824:=fun x hx=>by
  obtain ⟨s,_,rfl⟩:=Y2.1 hx;have:=Gq (l:=list) (a:=s);omega
 have hflp:E0 list n=([Ee (Eo list n),Ee (Eo list n)],Ya (Dq i) 0):=by unfold E0;rw [hnl]
 rw [hflp];have hfd:=Qw1 (Eo list n) (by omega) (by omega) hqx (some ⟨gu,0,none⟩) n;rw [hql] at hfd;clear hfq hqx;generalize Eo list n=Q at *;generalize i=nl at *;refine Ax rfl ?_;refine VQ [0,4,6,9] fun K hK=>?_;refine Aa Tryz.call215 ?_;refine Qs ?_;refine Yo (hfd w4 (As (hH.at 0 rfl))) ?_;rintro v w5 ⟨aa,ca,hHa,rfl⟩;have hH2:=hH.call0 hHa;simp only [Yy] at hH2;clear hH hHa;apply hK;clear hK;refine VQ [0,4,9,11] fun K hK=>?_;refine Aa Tryz.call215 ?_;refine Qs ?_;refine Yo (hfd w5 (As (hH2.at 1 rfl))) ?_;rintro v w6 ⟨ab,cb,hHb,rfl⟩;have hH3:=hH2.call0 hHb;simp only [Yy] at hH3;clear hH2 hHb hfd;generalize hF:Ee Q=F at *;apply hK;clear hK;refine VQ [4,5] fun K hK=>?_;refine Ei hH3 (Fo [(aa,ca),(ab,cb)] [F,F]) (xs:=[.tmp 43,.tmp 44]) Uw QGd rfl rfl rfl (by omega) ?_;refine Qs ?_;refine ⟨rfl,by simp [Uf],fun gt w7 hH4=>?_⟩;refine Aa Tryz.call189 ?_;refine Qs ?_;refine Yo (Qai nl (by omega) w7) ?_;rintro v w8 ⟨rfl,rfl⟩;generalize hgN:Dq nl=gN at *;refine Ew Yu Ib ?_;refine Qs ?_;refine ⟨gN,gN,⟨rfl,rfl,by omega,by omega,by omega⟩,?_⟩;have hH5:=hH4.row 3 (n:=gN) (cap:=gN) (sz:=1) (Ak (Ya gN 0)) [] (by simp [Bh]) (by simp [Bh]) (by omega) (by omega);rw [Yk,Lu] at hH5;generalize w8.alloc (Yp (Ya gN (Y6 Xd 0)).toArray 3)=w9 at *;generalize w8.heap.size=gz at *;rw [<- Lu] at hH5;clear hH3 hH4;refine Ag ?_;refine Qs ?_;refine Ap hH5 5 (vs:=Au (some ⟨gt,0,none⟩) 2 2 (some ⟨gz,0,none⟩) gN gN) rfl rfl (by kernel_rfl) (by simp [Au]) (Nj _ _ _ _ _ _) fun w10 hH6=>?_;simp only [Yd,Yj] at hH6;apply hK;clear hK;refine Ae (Kk rfl rfl rfl (Fm (hH6.at 5 rfl) (by kernel_rfl) (by kernel_rfl) rfl ?_));refine ⟨_,_,hH6.sub (List.take_sublist 4 _),fun w' hh=>Qkh rfl rfl (by simp) rfl (As (hh _ (Y0 (i:=1) rfl))) (As (hh _ (Y0 (i:=0) rfl))) (fun i h t h6 h7=>?_),rfl⟩
 match i with
 | 0=>cases h6;cases h7;exact As (hh _ (Y0 (i:=3) rfl))
 | 1=>cases h6;cases h7;exact As (hh _ (Y0 (i:=2) rfl))
 | i+2=>simp at h6
theorem Qbv (v:Value) (T:List (LN)) (P:LN) (hm:O3 T P) (list:LN) (hl1:1<=list.length) (hls:∀ s∈list,s < (T.getD 0 []).length) (hlg:Dq list.length<=P.length) (hsz:I0 (T,P) list<=1000000000000) (a:OA) (lc:Nat) (w:World) (hp:PlanAt w v T P) (hr:RS w a list.length 1 (Ak list)) :
  Does Yq 184 #[v,.slice a list.length lc] w fun x w'=>Heap w [] w' []/\x=.tuple #[.int .i64 (I0 (T,P) list:Nat),.int .i64 0]:=by
 have hpd:=Qc7 v T P hm list hl1 hls hlg a lc;have hsd:=Qbp v T P hm;have hsz':I0 (T,P) list=(Ej T P).length+(E1 T P list 0).length:=rfl;rw [hsz'] at hsz ⊢;have hp0:=hp;obtain ⟨ta,tc,pa,pc,hs,rfl,hsl,hrT,hrP,hrt⟩:=hp;have hen:#[U4 #[.slice ta T.length tc,.slice pa P.length pc],.slice a list.length lc]=[U4 (Au ta T.length tc pa P.length pc).toArray,.slice a list.length lc].toArray:=rfl;rw [hen];refine Qu 29 Tryz.func184 rfl rfl (of_decide_eq_true rfl) ?_;simp only [Env.ofArgs];generalize list.length=nl at *;generalize T.length=nt at *;generalize P.length=np at *;generalize E1 T P list 0=X at *;generalize Ej T P=Y at *;refine VQ [1,2] fun K hK=>?_;refine Dl ?_;refine Qs ?_;have hH:=(Y9 w).box 229 (Au ta nt tc pa np pc);generalize w.alloc (Yp (Au ta nt tc pa np pc).toArray 229)=w1 at *;generalize w.heap.size=gp at *;apply hK;clear hK;refine VQ [2,6,7] fun K hK=>?_;refine ⟨Au ta nt tc pa np pc,⟨rfl,Bu (hH.at 0 rfl)⟩,?_⟩;refine Aa Tryz.call144 ?_;refine Qs ?_;refine Yo (hpd w1 (hp0.keep hH) (hH.rs' hr)) ?_;rintro v w2 ⟨hHp,rfl⟩;have hH2:=hH.call0 hHp;simp only [Yh] at hH2;clear hH hHp;refine Bo (.agg #[.string ⟨#[]⟩,.int .i64 0]) (by kernel_rfl) ?_;refine Qs ?_;have hH3:=hH2.box 184 [.string ⟨#[]⟩,.int .i64 0];generalize w2.alloc (Yp [Xw ⟨#[]⟩,.int .i64 0].toArray 184)=w3 at *;generalize w2.heap.size=gb at *;refine Ag ?_;refine Qs ?_;refine Ap hH3 0 (vs:=Az X) rfl rfl (by kernel_rfl) (by simp [Az]) (Ey _) fun w4 hH4=>?_;simp only [Yd] at hH4;clear hH2 hH3;apply hK;clear hK;refine VS [2,6,7,17] ?_;refine Ai rfl rfl (fun h=>by simp at h) (fun h=>Ad ?_);clear h;refine VQ [6,8] fun K hK=>?_;refine ⟨Au ta nt tc pa np pc,⟨rfl,Bu (hH4.at 1 rfl)⟩,?_⟩;refine Aa Tryz.call143 ?_;refine Qs ?_;refine Yo (hsd w4 (hp0.keep hH4)) ?_;rintro v w5 ⟨hHs,rfl⟩;have hH5:=hH4.call0 hHs;simp only [Yh] at hH5;clear hH4 hHs;refine Bo (.agg #[.string ⟨#[]⟩,.int .i64 0]) (by kernel_rfl) ?_;refine Qs ?_;have hH6:=hH5.box 184 [.string ⟨#[]⟩,.int .i64 0];generalize w5.alloc (Yp [Xw ⟨#[]⟩,.int .i64 0].toArray 184)=w6 at *;generalize w5.heap.size=ga at *;refine Ag ?_;refine Qs ?_;refine Ap hH6 0 (vs:=Az Y) rfl rfl (by kernel_rfl) (by simp [Az]) (Ey _) fun w7 hH7=>?_;simp only [Yd] at hH7;clear hH5 hH6;apply hK;clear hK;refine VQ [4,5] fun K hK=>?_;refine ⟨_,Af (hH7.at 0 rfl) (show (Az Y)[1]? = some _ from rfl),_,Af (hH7.at 1 rfl) (show (Az X)[1]? = some _ from rfl),?_⟩;refine Qs ?_;(repeat refine Qo ?_);apply hK;clear hK;exact Ae (Bp rfl rfl rfl ⟨hH7.sub (by simp),rfl⟩)
def Da (list P:LN) (n m t:Nat):LN:=(Yg n).map fun s=>(Yg m).countP fun i=>list.getD i 0 == s && P.getD (i / 50) 0 == t
def Eb (list P:LN) (many n m:Nat):List (LN):=(Yg many).map (Da list P n m)
theorem Q7 (list P:LN) (n m t:Nat):(Da list P n m t).length=n:=by simp [Da]
theorem Qw2 (list P:LN) (many n m:Nat):(Eb list P many n m).length=many:=by simp [Eb]
theorem Qw3 (list P:LN) (n t:Nat):Da list P n 0 t=Ya n 0:=by
 unfold Da;apply Yz;intro j;rw [Yr,Y3];by_cases hj:j < n
 ·
  rw [Yv hj,if_pos hj];rfl
 rw [Ym (by simpa using hj),if_neg hj];rfl
theorem Qss (list P:LN) (many n:Nat):Eb list P many n 0=Ya many (Ya n 0):=by
 unfold Eb;apply Yz;intro j;rw [Yr,Y3];by_cases hj:j < many
 ·
  rw [Yv hj,if_pos hj,Option.map_some,Qw3]
 rw [Ym (by simpa using hj),if_neg hj];rfl
theorem QAb {list P:LN}{n m t s:Nat} (hs:s < n):(Da list P n m t).getD s 0<=m:=by
 rw [Da,Vr _ _ _ _ hs];exact Gb Gh (by simp)
theorem Qua {list P:LN}{n m t:Nat}:∀ x∈Da list P n m t,x<=m:=by
 intro x hx;obtain ⟨s,_,rfl⟩:=Y2.1 hx;exact Gb Gh (by simp)
theorem Qky {list P:LN}{n m t:Nat} (hx:list.getD m 0 < n):Da list P n (m+1) t=if P.getD (m / 50) 0=t then (Da list P n m t).set (list.getD m 0) ((Da list P n m t).getD (list.getD m 0) 0+1) else Da list P n m t:=by
 apply Yz;intro j;by_cases hj:j < n
 ·
  have h1:∀ m,(Da list P n m t)[j]? = some ((Yg m).countP fun i=>list.getD i 0 == j && P.getD (i / 50) 0 == t):=fun m=>by
   rw [Da,Yr,Yv hj];rfl
  rw [h1,X9,List.countP_append,List.countP_singleton];by_cases ht:P.getD (m / 50) 0=t
  ·
   rw [if_pos ht,Xr];by_cases e:list.getD m 0=j
   ·
    have hb:(list.getD m 0 == j && P.getD (m / 50) 0 == t)=true:=by rw [e,ht];simp
    rw [if_pos hb,if_pos e,if_pos (by rw [Q7];exact hx),e]
    congr 2
    rw [Yc,h1];rfl
   have hb:(list.getD m 0 == j && P.getD (m / 50) 0 == t)=false:=by rw [show (list.getD m 0 == j)=false from beq_eq_false_iff_ne.2 e];rfl
   rw [hb,if_neg e,h1];rfl
  have hb:(list.getD m 0 == j && P.getD (m / 50) 0 == t)=false:=by rw [show (P.getD (m / 50) 0 == t)=false from beq_eq_false_iff_ne.2 ht,Bool.and_false]
  rw [hb,if_neg ht,h1];rfl
 rw [Ym (by rw [Q7];omega),Ym];split
 ·
  rw [Gf,Q7];omega
 rw [Q7];omega
theorem Qst {list P:LN}{many n m b:Nat} (hx:list.getD m 0 < n) (hb:P.getD (m / 50) 0=b) (hbm:b < many):Eb list P many n (m+1)=(Eb list P many n m).set b ((Da list P n m b).set (list.getD m 0) ((Da list P n m b).getD (list.getD m 0) 0+1)):=by
 apply Yz;intro j;rw [Xr];unfold Eb;rw [Yr,Yr,X8,Y4];by_cases e:b=j
 ·
  subst e;rw [if_pos rfl,if_pos hbm,Yv hbm,Option.map_some,Qky hx,if_pos hb]
 rw [if_neg e];by_cases hj:j < many
 ·
  rw [Yv hj,Option.map_some,Option.map_some,Qky hx,if_neg (by omega)]
 rw [Ym (by simpa using hj)];rfl
theorem Qsu (list P:LN) (n t:Nat):Rb list P t n=Da list P n list.length t:=rfl
def B0 (hs:List (OA×Nat)) (n:Nat):LV:=hs.map fun h=>.slice h.1 n h.2
def Bz (hs:List (OA×Nat)) (n:Nat) (L:List (LN)):List Res:=List.zipWith (fun h l=>Yf 3 1 h.1 n h.2 (Ak l)) hs L
theorem Se (hs:List (OA×Nat)) (n:Nat):(B0 hs n).length=hs.length:=by simp [B0]
theorem Zb {hs:List (OA×Nat)}{i:Nat}{h:OA×Nat} (n:Nat) (h1:hs[i]? = some h):(B0 hs n)[i]? = some (.slice h.1 n h.2):=by simp [B0,h1]
theorem Qow (hs:List (OA×Nat)) (n i:Nat) (a:OA) (c:Nat):(B0 hs n).set i (.slice a n c)=B0 (hs.set i (a,c)) n:=by simp [B0,List.map_set]
theorem Qsv {hs:List (OA×Nat)}{T:List (LN)}{n:Nat} (hl:hs.length=T.length) (h:∀ t∈T,t.length=n):Fo hs T=B0 hs n:=by
 apply Yz;intro i;unfold Fo B0;rw [Xx,Yr];rcases Uu i T.length with h1 | h1
 ·
  rw [Yb h1,Yb (by omega)];simp only [Option.map_some];rw [h _ (Xk h1)]
 rw [Ym h1,Ym (by omega)];rfl
theorem Qw4 {hs:List (OA×Nat)}{n:Nat}{L:List (LN)} (hl:hs.length=L.length):(Bz hs n L).length=L.length:=by simp [Bz,hl]
theorem Qeh {hs:List (OA×Nat)}{L:List (LN)}{i:Nat}{h:OA×Nat}{l:LN} (n:Nat) (h1:hs[i]? = some h) (h2:L[i]? = some l):(Bz hs n L)[i]? = some (Yf 3 1 h.1 n h.2 (Ak l)):=by
 simp [Bz,Xx,h1,h2]
theorem Qcl {hs:List (OA×Nat)}{L:List (LN)} (n:Nat) (hl:hs.length=L.length) (a:OA) (c:Nat) (l:LN):Bz hs n L++[Yf 3 1 a n c (Ak l)]=Bz (hs++[(a,c)]) n (L++[l]):=by
 unfold Bz;rw [List.zipWith_append hl];rfl
theorem Qw5 {hs:List (OA×Nat)}{L:List (LN)}{i n:Nat}{h:OA×Nat} (h1:hs[i]? = some h) (l:LN):(Bz hs n L).set i (Yf 3 1 h.1 n h.2 (Ak l))=Bz hs n (L.set i l):=by
 apply Yz;intro j;unfold Bz;rw [Xr,Xx,Xx,Xr,List.length_zipWith];by_cases e:i=j
 ·
  subst e;have h2:=(Xh.1 h1).1;rw [if_pos rfl,if_pos rfl,h1];by_cases h3:i < L.length
  ·
   rw [if_pos (by omega),if_pos h3]
  rw [if_neg (by omega),if_neg h3]
 rw [if_neg e,if_neg e]
theorem Heap.hole_row {w0 w:World}{B:LN}{G:List Res}{r:Res} (h:Heap w0 B w G) (i j:Nat) (hi:G[i]? = some r) {g T sz n cap k:Nat}{xs:LV}{v:Value} (hj:G[j]? = some (Yf T sz (some ⟨g,0,none⟩) n cap xs)) (hij:i≠j) (hv:xs[k]? = some v):(holes r.foot w).cell? ⟨g,k,none⟩=some v:=by
 refine Zf (B3 (h.at j hj) hv) ?_;obtain ⟨h1,e1⟩:=Xh.1 hi;obtain ⟨h2,e2⟩:=Xh.1 hj;have ha:=Xf.1 h.apart;rcases Uu i j with h3 | h3
 ·
  have h4:=ha i j h1 h2 h3;rw [e1,e2] at h4;exact fun hb=>h4 g hb (by simp [Yf])
 have h4:=ha j i h2 h1 (by omega);rw [e1,e2] at h4;exact h4 g (by simp [Yf])
theorem Qw6 (list tab:LN) (n k t:Nat) (hk:50 * k < list.length) (hl:list.length<=1638350) (hs:∀ s∈list,s < n) (htl:tab.length=n) (htx:∀ x∈tab,x<=1000) (p:Addr) (hps:p.spot=none) (lc:Nat) (hlc:list.length<=lc) (gl gp gT many mc:Nat) (ht:t < many) (hmany:many<=6) (ta:OA) (tc:Nat) (w:World)
  (c1:w.cell? ⟨gl,0,none⟩=some (.slice (some p) list.length lc)) (c2:w.cell? ⟨gp,0,none⟩=some (.slice (some ⟨gT,0,none⟩) many mc)) (c3:w.cell? ⟨gT,t,none⟩=some (.slice ta n tc)) (hr:RS w (some p) list.length 1 (Ak list)) (hrt:RS w ta n 1 (Ak tab)) :
  Does Yq 212 #[.int .i64 t,.int .i64 k,.pointer (some ⟨gl,0,none⟩),.pointer (some ⟨gp,0,none⟩)] w fun v w'=>w'=w/\v=.int .i64 (L5 tab (Dx list k):Nat):=by
 have hgd:=Qhi list k hk (by omega) p lc hlc w;have hrs:=Qps hr hps hk;have hcm:∀ s∈Dx list k,s < n:=fun s h=>hs s (List.mem_of_mem_drop (Gm h));have hcl:(Dx list k).length<=50:=by simp [Dx];omega
 refine En [.int .i64 t,.int .i64 k,.pointer (some ⟨gl,0,none⟩),.pointer (some ⟨gp,0,none⟩)] 30 Tryz.func212 ?_;generalize hch:Dx list k=ch at *;generalize hnc:ch.length=nc at *;generalize list.length=nl at *;refine VS [0,1,2,3] ?_;refine VS [0,1,2,3,7] ?_;refine VQ [0,3,7,12,13,14] fun K hK=>?_;refine ⟨_,c1,?_⟩;refine Aa Tryz.call213 ?_;refine Qs ?_;refine Yo hgd ?_;rintro v w2 ⟨rfl,rfl⟩;refine Qs ?_;apply hK;clear hK;generalize hpk:p.add (50 * k)=pk at *;refine Aq ?_;refine Ay [0,3,7,12,13,14] (fun m e w'=>∃ (i:Nat),Is e [(0,.int .i64 t),(3,.pointer (some ⟨gp,0,none⟩)),(7,.int .i64 (L5 tab (ch.take i):Nat)),(12,.slice (some pk) nc (lc - 50 * k)),(13,.int .i64 nc),(14,.int .i64 i)]/\Is w' w2/\L5 tab (ch.take i)<=1000 * i/\i<=nc/\m=nc - i) nc ?_ ?_
 ·
  refine Qs ?_;exact ⟨0,rfl,rfl,by simp [L5],by omega,rfl⟩
 rintro m e w' ⟨i,rfl,rfl,hcb,hi,rfl⟩;refine VS [0,3,7,12,13,14,15] ?_;(repeat refine Aw ?_);refine VD (fun h=>?_) (fun h=>?_)
 ·
  have hcell:=El hrs (i:=i) (by omega);have hx:=hcm _ (Ez 0 (l:=ch) (i:=i) (by omega));have htk:ch.take (i+1)=ch.take i++[ch.getD i 0]:=Lv 0 (by omega);have hcs:L5 tab (ch.take (i+1))=L5 tab (ch.take i)+tab.getD (ch.getD i 0) 0:=by rw [htk];simp [L5]
  generalize ch.getD i 0=x at *;obtain ⟨q,rfl⟩:=Ek hrt (by omega);have hct:=El hrt (i:=x) (by omega);have hcx:=htx _ (Ez 0 (l:=tab) (i:=x) (by omega));generalize tab.getD x 0=c at *;refine Ad ?_;refine VB ?_;refine VQ [0,3,7,9,12,13,14] fun K hK=>?_;refine ⟨⟨by omega,by omega⟩,_,hcell,?_⟩;apply hK;clear hK;refine VQ [0,3,7,12,13,14] fun K hK=>?_;refine ⟨_,c2,?_⟩;refine Qs ?_;refine ⟨⟨by omega,by omega⟩,_,c3,?_⟩;refine Qs ?_;refine ⟨⟨by omega,by omega⟩,_,hct,?_⟩;refine Qs ?_;(repeat refine Qo ?_);apply hK;clear hK;refine An ?_;refine VS [0,3,7,12,13,14] ?_;refine Ah ?_;refine Qs ?_;exact ⟨nc - (i+1),by omega,i+1,by rw [hcs];rfl,rfl,by omega,by omega,rfl⟩
 obtain rfl:i=nc:=by omega
 rw [Yw (by omega)];refine Ax rfl ?_;refine VS [6] ?_;exact Ae (Al rfl rfl ⟨rfl,rfl⟩)
end Go.Proofs.YtfinjnahapbemaaGreatDoor
namespace Go.Eng
open Go
def Qc:LN->Code->Code
 | [],c=>c
 | 0::p,.seq a _=>Qc p a
 | _::p,.seq _ b=>Qc p b
 | _::p,.block _ c=>Qc p c
 | _::p,.loop c=>Qc p c
 | _::p,.scope c=>Qc p c
 | 0::p,.cond _ a _=>Qc p a
 | _::p,.cond _ _ b=>Qc p b
 | _,c=>c
def Mm (p:LN) (fn:Func):Code :=
 match fn.body with
 | some c=>Qc p c
 | none=>.skip
theorem Tc {C:Kv}{k:List It}{e:Env}{w:World} (ks:LN) (h:Ep ks e fun e=>VC C k e w):VC C k e w :=
 fun a n ha=>((Kj ks e _).1 h) a n (ha.sel ks)
end Go.Eng
namespace Go.Proofs.YtfinjnahapbemaaGreatDoor
open Go Go.Eng
set_option maxHeartbeats 4000000
theorem Qde (us:List (OA×Nat)) (n:Nat) (a:OA) (c:Nat):B0 us n++[.slice a n c]=B0 (us++[(a,c)]) n:=by simp [B0]
theorem Qmy {w0 w:World}{B:LN}{G:List Res} (hX:Heap w0 B w G) (n:Nat) (hn:n<=1000000000):Heap w0 B (w.alloc (Yp (Ya n (Y6 Xd 0)).toArray 3)) (Yf 3 1 (some ⟨w.heap.size,0,none⟩) n n (Ak (Ya n 0))::G):=by
 have h:=hX.row 3 (n:=n) (cap:=n) (sz:=1) (Ak (Ya n 0)) [] (by simp [Bh]) (by simp [Bh]) (by omega) (by omega);rw [Yk] at h;rw [<- Lu];exact h
theorem Qkz {w0 w:World}{B:LN}{G:List Res} (hX:Heap w0 B w G) (n:Nat) (hn:n<=1000000000):Heap w0 B (w.alloc (Yp (Ya n (Y8 none 0 0)).toArray 223)) (Yf 223 1 (some ⟨w.heap.size,0,none⟩) n n (Ya n (Y8 none 0 0))::G):=by
 have h:=hX.row 223 (n:=n) (cap:=n) (sz:=1) (Ya n (Y8 none 0 0)) [] (by simp) (by simp) (by omega) (by omega);rw [Yk] at h;exact h
abbrev zS:Value:=.slice none 0 0
def Kp (n many t s:Nat):Nat:=if s * many / n=t then 1 else 15
def Qna (n many t:Nat):LN:=(Yg n).map (Kp n many t)
theorem Qei (n many:Nat):L1 n many=(Yg many).map (Qna n many):=rfl
theorem Qox (n many:Nat) {t:Nat} (h:t < many):(L1 n many).take (t+1)=(L1 n many).take t++[Qna n many t]:=by
 have hg:(L1 n many)[t]? = some (Qna n many t):=by rw [Qei,Yr,Yv h];rfl
 rw [Xo,hg];rfl
theorem Qoy (n many:Nat) {t:Nat} (h:t<=many):((L1 n many).take t).length=t:=by rw [Qei];simp;omega
theorem Qub {us vs:List (OA×Nat)}{n i:Nat}{T W:List (LN)}{h:OA×Nat}{l:LN} (h1:us[i]? = some h) (h2:T[i]? = some l):(Bz us n T++Bz vs n W)[i]? = some (Yf 3 1 h.1 n h.2 (Ak l)):=by
 have h3:=Qeh n h1 h2;rw [Xg (Xh.1 h3).1,h3]
theorem QAc {us vs:List (OA×Nat)}{n many i:Nat}{T W:List (LN)}{h:OA×Nat}{l:LN} (hm:(Bz us n T).length=many) (h1:vs[i]? = some h) (h2:W[i]? = some l):(Bz us n T++Bz vs n W)[many+i]? = some (Yf 3 1 h.1 n h.2 (Ak l)):=by
 rw [X1 (by omega),hm,U5,Qeh n h1 h2]
theorem Qw7 {us vs:List (OA×Nat)}{n many i:Nat}{T W:List (LN)}{h:OA×Nat} (l:LN) (hm:(Bz us n T).length=many) (h1:vs[i]? = some h):(Bz us n T++Bz vs n W).set (many+i) (Yf 3 1 h.1 n h.2 (Ak l))=Bz us n T++Bz vs n (W.set i l):=by
 rw [Uk _ _ (by omega),hm,U5,Qw5 h1]
theorem getD_some {α:Type}{l:List α}{i:Nat} (d:α) (h:i < l.length):l[i]? = some (l.getD i d):=by
 rw [Yc,Yb h];rfl
theorem Qbw {α:Type}{A B:List α}{k:Nat} (x:α) (hA:A.length=k) (hB:k < B.length):(A++B.drop k).set k x=(A++[x])++B.drop (k+1):=by
 rw [Uk _ _ (by omega),hA,X5,Xe hB,Yd,Yi];rfl
abbrev Kq (gl gp:Nat):Value:=.func (.func 212) #[] #[.pointer (some ⟨gl,0,none⟩),.pointer (some ⟨gp,0,none⟩)]
theorem QAd {list:LN}{n:Nat} (hm:M0 list n) (many:Nat):∀ r,(D7 list n many r).1.length=many/\(∀ t∈(D7 list n many r).1,t.length=n/\∀ x∈t,x<=20)/\(D7 list n many r).2.length=Dq list.length
 | 0=>by
  refine ⟨by simp [D7,L1],fun t ht=>?_,by simp [D7]⟩;obtain ⟨i,_,rfl⟩:=Y2.1 ht;refine ⟨by simp,fun x hx=>?_⟩;obtain ⟨s,_,rfl⟩:=Y2.1 hx;split <;> omega
 | r+1=>by
  obtain ⟨h1,h2,h3,h4,h5⟩:=hm;rw [D7];refine ⟨by simp [Lg],fun t ht=>?_,by simp [Lg,F1]⟩;obtain ⟨i,_,rfl⟩:=Y2.1 ht;have hc:=Q7 list (F1 list many (D7 list n many r).1) n list.length i;obtain ⟨a,b,c⟩:=Qts (w:=Da list (F1 list many (D7 list n many r).1) n list.length i) (most:=17) (by omega) (by omega) (by omega) (by omega) (fun x hx=>by have:=Qua x hx;omega);rw [hc] at a;exact ⟨a,fun x hx=>by have:=b x hx;omega⟩
theorem Qmc {F:Value->World->Prop}{kk:List It}{n many gN nl lc gl gr gT gP gp:Nat}{p:Addr}{w w5:World} (h1:3<=n) (h2:n<=258) (t1:2<=many) (t2:many<=6)
  (hH2:Heap w [] w5 (Yf 223 1 (some ⟨gT,0,none⟩) many many (Ya many zS)::Yf 3 1 (some ⟨gP,0,none⟩) gN gN (Ak (Ya gN 0))::Ye gp 229 (Au (some ⟨gT,0,none⟩) many many (some ⟨gP,0,none⟩) gN gN)::Ye gr 229 (Au none 0 0 none 0 0)::Ye gl 223 [.slice (some p) nl lc]::[]))
  (out:∀ w' us,Heap w [] w' (Yf 223 1 (some ⟨gT,0,none⟩) many many (B0 us n)::Yf 3 1 (some ⟨gP,0,none⟩) gN gN (Ak (Ya gN 0))::Ye gp 229 (Au (some ⟨gT,0,none⟩) many many (some ⟨gP,0,none⟩) gN gN)::Ye gr 229 (Au none 0 0 none 0 0)::Ye gl 223 [.slice (some p) nl lc]::Bz us n (L1 n many))->us.length=many->VC ⟨Yq,Xa,F,158⟩ kk [(1,.int .i64 n),(2,.pointer (some ⟨gl,0,none⟩)),(4,.pointer (some ⟨gr,0,none⟩)),(6,.int .i64 many),(8,.pointer (some ⟨gp,0,none⟩))] w') :
  VC ⟨Yq,Xa,F,158⟩ (.code (Mm [1,1,1,1,0,1] Xa)::kk) [(1,.int .i64 n),(2,.pointer (some ⟨gl,0,none⟩)),(4,.pointer (some ⟨gr,0,none⟩)),(6,.int .i64 many),(8,.pointer (some ⟨gp,0,none⟩)),(40,.int .i64 many),(41,.int .i64 0)] w5:=by
 conv in (Mm _ _)=>whnf
 refine Aq ?_;refine Ay [1,2,4,6,8,40,41] (fun m e w'=>∃ (t:Nat) (us:List (OA×Nat)),Is e [(1,.int .i64 n),(2,.pointer (some ⟨gl,0,none⟩)),(4,.pointer (some ⟨gr,0,none⟩)),(6,.int .i64 many),(8,.pointer (some ⟨gp,0,none⟩)),(40,.int .i64 many),(41,.int .i64 t)]/\Heap w [] w' (Yf 223 1 (some ⟨gT,0,none⟩) many many (B0 us n++Ya (many - t) zS)::Yf 3 1 (some ⟨gP,0,none⟩) gN gN (Ak (Ya gN 0))::Ye gp 229 (Au (some ⟨gT,0,none⟩) many many (some ⟨gP,0,none⟩) gN gN)::Ye gr 229 (Au none 0 0 none 0 0)::Ye gl 223 [.slice (some p) nl lc]::Bz us n ((L1 n many).take t))/\us.length=t/\t<=many/\m=many - t) many ?_ ?_
 ·
  refine Qs ?_;exact ⟨0,[],rfl,hH2,rfl,by omega,rfl⟩
 clear hH2;rintro m e w4 ⟨t,us,rfl,hH,hus,ht,rfl⟩;refine VS [1,2,4,6,8,40,41,42] ?_;(repeat with_reducible refine Aw ?_);refine VD (fun h=>?_) (fun h=>?_)
 ·
  have hF:=hH.focus 0 rfl;have c0:=hH.hole_at 0 2 rfl rfl (by omega) (show (Au (some ⟨gT,0,none⟩) many many (some ⟨gP,0,none⟩) gN gN)[0]? = some _ from rfl);have hAl:(B0 us n++Ya (many - t) zS).length=many:=by simp [Se];omega
  refine Ad ?_
  ((repeat with_reducible refine Aw ?_);(first | refine Aq ?_ | refine VB ?_))
  refine VS [1,2,4,6,8,9,40,41] ?_;refine VH (holes [gT] w4) (Ext.hole _ _) [1,2,4,6,8,9,40,41] [(0,true),(1,true),(2,true),(3,true),(4,false),(5,true),(6,false)] fun K hK=>?_;refine ⟨_,c0,?_⟩;refine Ew Yu Ib ?_;refine Qs ?_;refine ⟨n,n,⟨rfl,rfl,by omega,by omega,by omega⟩,?_⟩;have hF2:=Qmy hF n (by omega);generalize w4.alloc (Yp (Ya n (Y6 Xd 0)).toArray 3)=w5 at *;generalize w4.heap.size=gC at *;refine ⟨hF2.upd.extH,?_⟩;refine Qp ?_;refine Ag ?_;refine Qs ?_;refine Dp hF2 1 (o:=t) (vs:=[.slice (some ⟨gC,0,none⟩) n n]) rfl (by simp [Bv]) rfl (by kernel_rfl) (by simp only [Yn];omega) (by simp [Yt]) fun w6 hF3=>?_;simp only [Yn,Dm (B0 us n++Ya (many - t) zS) _ _ (show t < (B0 us n++Ya (many - t) zS).length by omega),Sz (B0 us n) zS _ (show t < many by omega) (by rw [Se];exact hus),Qde,Yd,Yj] at hF3;refine ⟨hF3.upd.extH,?_⟩;apply hK;clear hK;have hH3:=hH.call1 0 rfl (hF3.perm (.swap _ _ _));simp only [Yd,Yy] at hH3;clear hH hF hF2 hF3 c0;have hus2:(us++[((some ⟨gC,0,none⟩:OA),n)])[t]? = some (some ⟨gC,0,none⟩,n):=by rw [X1 (by omega),hus,X5];rfl
  have hcT:(B0 (us++[((some ⟨gC,0,none⟩:OA),n)]) n++Ya (many - (t+1)) zS)[t]? = some (.slice (some ⟨gC,0,none⟩) n n):=by
   rw [Xg (by rw [Se];simp;omega)];exact Zb n hus2
  refine VS [1,2,4,6,8,9,40,41,50,51] ?_;refine Aq ?_;refine Ay [1,2,4,6,8,9,40,41,50,51] (fun m e w'=>∃ (i:Nat),Is e [(1,.int .i64 n),(2,.pointer (some ⟨gl,0,none⟩)),(4,.pointer (some ⟨gr,0,none⟩)),(6,.int .i64 many),(8,.pointer (some ⟨gp,0,none⟩)),(9,.int .i64 t),(40,.int .i64 many),(41,.int .i64 t),(50,.int .i64 n),(51,.int .i64 i)]/\Heap w [] w' (Yf 3 1 (some ⟨gC,0,none⟩) n n (Ak ((Yg i).map (Kp n many t)++Ya (n - i) 0))::Yf 223 1 (some ⟨gT,0,none⟩) many many (B0 (us++[((some ⟨gC,0,none⟩:OA),n)]) n++Ya (many - (t+1)) zS)::Yf 3 1 (some ⟨gP,0,none⟩) gN gN (Ak (Ya gN 0))::Ye gp 229 (Au (some ⟨gT,0,none⟩) many many (some ⟨gP,0,none⟩) gN gN)::Ye gr 229 (Au none 0 0 none 0 0)::Ye gl 223 [.slice (some p) nl lc]::Bz us n ((L1 n many).take t))/\i<=n/\m=n - i) n ?_ ?_
  ·
   refine Qs ?_;exact ⟨0,rfl,hH3,by omega,rfl⟩
  clear hH3;rintro m e w7 ⟨i,rfl,hH,hi,rfl⟩;refine VS [1,2,4,6,8,9,40,41,50,51,52] ?_;(repeat with_reducible refine Aw ?_);refine VD (fun h=>?_) (fun h=>?_)
  ·
   have hmul:i * many<=258 * 6:=Nat.mul_le_mul (by omega) (by omega);have hsl:((Yg i).map (Kp n many t)).length=i:=by simp
   have hsn:(Yg (i+1)).map (Kp n many t)=(Yg i).map (Kp n many t)++[Kp n many t i]:=by rw [X9,Uq];rfl
   have hs15:=Sz ((Yg i).map (Kp n many t)) 0 15 (show i < n by omega) hsl
   have hfin:((Yg i).map (Kp n many t)++Ya (n - i) 0).set i (Kp n many t i)=(Yg (i+1)).map (Kp n many t)++Ya (n - (i+1)) 0:=by
    rw [Sz _ 0 _ (show i < n by omega) hsl,hsn]
   have hCl:((Yg i).map (Kp n many t)++Ya (n - i) 0).length=n:=by simp;omega
   generalize (Yg i).map (Kp n many t)++Ya (n - i) 0=C at *;have c0:w7.cell? ⟨gp,0,none⟩=some (.slice (some ⟨gT,0,none⟩) many many):=Af (hH.at 3 rfl) rfl;have c1:=B3 (hH.at 1 rfl) hcT;refine Ad ?_
   ((repeat with_reducible refine Aw ?_);(first | refine Aq ?_ | refine VB ?_))
   refine VS [1,2,4,6,8,9,10,40,41,50,51] ?_;refine VQ [1,2,4,6,8,9,10,40,41,50,51] fun K hK=>?_;refine ⟨_,c0,?_⟩;refine Qs ?_;refine ⟨⟨by omega,by omega⟩,_,c1,?_⟩;refine Qs ?_;refine Qp ?_;refine Ag ?_;refine Qs ?_;refine Dp hH 0 (o:=(i)) (vs:=[.int .i64 (15:Nat)]) rfl (by first | exact (Bv _ _ _).symm | rfl | simp [Bv]) rfl (by kernel_rfl) (by first | omega | (simp;done) | (simp;omega) | (simp [Ao,Br];omega) | (rw [Bh];simp;omega)) (by simp [Yt]) fun w6 hH2=>?_;(try refine Qs ?_);simp only [Yn,Dm (Ak C) _ _ (show i < (Ak C).length by rw [Bh];omega),Ip,Yd] at hH2;clear hH c0 c1;apply hK;clear hK;refine VQ [1,2,4,6,8,9,10,40,41,50,51,67] fun K hK=>?_;(repeat first | refine Qo ?_ | refine Qp ?_);rw [show ((i:Int) * many / n)=((i * many / n:Nat):Int) by push_cast;rfl];have hdv:i * many / n<=i * many:=Nat.div_le_self _ _;generalize hdq:i * many / n=dq at *;refine ⟨Xn (by omega) (by omega),?_⟩;apply hK;clear hK;refine VD (fun h=>?_) (fun h=>Ad ?_)
   ·
    have hsf:Kp n many t i=1:=by unfold Kp;rw [hdq,if_pos (by omega)]
    rw [hsf] at hfin;have c0:w6.cell? ⟨gp,0,none⟩=some (.slice (some ⟨gT,0,none⟩) many many):=Af (hH2.at 3 rfl) rfl;have c1:=B3 (hH2.at 1 rfl) hcT;refine VQ [1,2,4,6,8,9,40,41,50,51] fun K hK=>?_;refine ⟨_,c0,?_⟩;refine Qs ?_;refine ⟨⟨by omega,by omega⟩,_,c1,?_⟩;refine Qs ?_;refine Qp ?_;have hCl2:(C.set i 15).length=n:=by rw [Gf];exact hCl
    refine Ag ?_;refine Qs ?_;refine Dp hH2 0 (o:=(i)) (vs:=[.int .i64 (1:Nat)]) rfl (by first | exact (Bv _ _ _).symm | rfl | simp [Bv]) rfl (by kernel_rfl) (by first | omega | (simp;done) | (simp;omega) | (simp [Ao,Br];omega) | (rw [Bh];simp;omega)) (by simp [Yt]) fun w6 hH3=>?_;(try refine Qs ?_);simp only [Yn,Dm (Ak (C.set i 15)) _ _ (show i < (Ak (C.set i 15)).length by rw [Bh];omega),Ip,Yd,List.set_set,hfin] at hH3;clear hH2 c0 c1;apply hK;clear hK;refine An ?_;refine VS [1,2,4,6,8,9,40,41,50,51] ?_;refine Ah ?_;refine Qs ?_;exact ⟨n - (i+1),by omega,i+1,rfl,hH3,by omega,rfl⟩
   have hsf:Kp n many t i=15:=by unfold Kp;rw [hdq,if_neg (by omega)]
   rw [hsf] at hfin;rw [hfin] at hH2;refine An ?_;refine VS [1,2,4,6,8,9,40,41,50,51] ?_;refine Ah ?_;refine Qs ?_;exact ⟨n - (i+1),by omega,i+1,rfl,hH2,by omega,rfl⟩
  obtain rfl:i=n:=by omega
  rw [X5,Xs,Yk] at hH;have hH2:=hH.perm (X2 _ _).symm;simp only [Yx] at hH2;have hrr:=Qcl (hs:=us) (L:=(L1 i many).take t) i (by rw [Qoy _ _ (by omega)];exact hus) (some ⟨gC,0,none⟩) i (Qna i many t);rw [<- Qox _ _ (by omega)] at hrr
  have hH3:Heap w [] w7 (Yf 223 1 (some ⟨gT,0,none⟩) many many (B0 (us++[((some ⟨gC,0,none⟩:OA),i)]) i++Ya (many - (t+1)) zS)::Yf 3 1 (some ⟨gP,0,none⟩) gN gN (Ak (Ya gN 0))::Ye gp 229 (Au (some ⟨gT,0,none⟩) many many (some ⟨gP,0,none⟩) gN gN)::Ye gr 229 (Au none 0 0 none 0 0)::Ye gl 223 [.slice (some p) nl lc]::Bz (us++[((some ⟨gC,0,none⟩:OA),i)]) i ((L1 i many).take (t+1))):=by
   rw [<- hrr];exact hH2
  clear hH hH2 hrr;refine Ax rfl ?_;refine An ?_;refine VS [1,2,4,6,8,40,41] ?_;refine Ah ?_;refine Qs ?_;exact ⟨many - (t+1),by omega,t+1,_,rfl,hH3,by simp [hus],by omega,rfl⟩
 obtain rfl:t=many:=by omega
 rw [X5,Xs,Yk,Yw (by rw [Qei];simp)] at hH;generalize t=many at *;refine Ax rfl ?_;refine Tc [1,2,4,6,8] ?_;refine Qs ?_;exact out _ _ hH hus
theorem Qgs {F:Value->World->Prop}{kk:List It}{list N P:LN}{T:List (LN)}{us:List (OA×Nat)}{n many gN nl lc gl gr gT gP gp gW r:Nat}{p:Addr}{w w5:World} (h1:3<=n) (h2:n<=258) (t1:2<=many) (t2:many<=6) (hus:us.length=many) (hTl:T.length=many)
  (hH2:Heap w [] w5 (Yf 223 1 (some ⟨gW,0,none⟩) many many (Ya many zS)::Yf 223 1 (some ⟨gT,0,none⟩) many many (B0 us n)::Yf 3 1 (some ⟨gP,0,none⟩) gN gN (Ak P)::Ye gp 229 (Au (some ⟨gT,0,none⟩) many many (some ⟨gP,0,none⟩) gN gN)::Ye gr 229 (Au none 0 0 none 0 0)::Ye gl 223 [.slice (some p) nl lc]::Bz us n T))
  (out:∀ w' vs,Heap w [] w' (Yf 223 1 (some ⟨gW,0,none⟩) many many (B0 vs n)::Yf 223 1 (some ⟨gT,0,none⟩) many many (B0 us n)::Yf 3 1 (some ⟨gP,0,none⟩) gN gN (Ak P)::Ye gp 229 (Au (some ⟨gT,0,none⟩) many many (some ⟨gP,0,none⟩) gN gN)::Ye gr 229 (Au none 0 0 none 0 0)::Ye gl 223 [.slice (some p) nl lc]::(Bz us n T++Bz vs n (Eb list N many n 0)))->vs.length=many->VC ⟨Yq,Xa,F,158⟩ kk [(1,.int .i64 n),(2,.pointer (some ⟨gl,0,none⟩)),(4,.pointer (some ⟨gr,0,none⟩)),(6,.int .i64 many),(8,.pointer (some ⟨gp,0,none⟩)),(11,Kq gl gp),(12,.slice (some ⟨gW,0,none⟩) many many),(78,.int .i64 r)] w') :
  VC ⟨Yq,Xa,F,158⟩ (.code (Mm [1,1,1,1,1,1,0,1,0,0,1,1,0,0,1,0,1] Xa)::kk) [(1,.int .i64 n),(2,.pointer (some ⟨gl,0,none⟩)),(4,.pointer (some ⟨gr,0,none⟩)),(6,.int .i64 many),(8,.pointer (some ⟨gp,0,none⟩)),(11,Kq gl gp),(12,.slice (some ⟨gW,0,none⟩) many many),(78,.int .i64 r),(83,.int .i64 many),(84,.int .i64 0)] w5:=by
 conv in (Mm _ _)=>whnf
 refine Aq ?_;refine Ay [1,2,4,6,8,11,12,78,83,84] (fun m e w'=>∃ (t:Nat) (vs:List (OA×Nat)),Is e [(1,.int .i64 n),(2,.pointer (some ⟨gl,0,none⟩)),(4,.pointer (some ⟨gr,0,none⟩)),(6,.int .i64 many),(8,.pointer (some ⟨gp,0,none⟩)),(11,Kq gl gp),(12,.slice (some ⟨gW,0,none⟩) many many),(78,.int .i64 r),(83,.int .i64 many),(84,.int .i64 t)]/\Heap w [] w' (Yf 223 1 (some ⟨gW,0,none⟩) many many (B0 vs n++Ya (many - t) zS)::Yf 223 1 (some ⟨gT,0,none⟩) many many (B0 us n)::Yf 3 1 (some ⟨gP,0,none⟩) gN gN (Ak P)::Ye gp 229 (Au (some ⟨gT,0,none⟩) many many (some ⟨gP,0,none⟩) gN gN)::Ye gr 229 (Au none 0 0 none 0 0)::Ye gl 223 [.slice (some p) nl lc]::(Bz us n T++Bz vs n (Ya t (Ya n 0))))/\vs.length=t/\t<=many/\m=many - t) many ?_ ?_
 ·
  refine Qs ?_;exact ⟨0,[],rfl,by simpa [Bz,B0] using hH2,rfl,by omega,rfl⟩
 clear hH2;rintro m e w6 ⟨t,vs,rfl,hH,hvs,ht,rfl⟩;refine VS [1,2,4,6,8,11,12,78,83,84,85] ?_;(repeat with_reducible refine Aw ?_);refine VD (fun h=>?_) (fun h=>?_)
 ·
  have hAl:(B0 vs n++Ya (many - t) zS).length=many:=by simp [Se];omega
  refine Ad ?_
  ((repeat with_reducible refine Aw ?_);(first | refine Aq ?_ | refine VB ?_))
  refine VS [1,2,4,6,8,11,12,13,78,83,84] ?_;refine VQ [1,2,4,6,8,11,12,78,83,84] fun K hK=>?_;refine Ew Yu Ib ?_;refine Qs ?_;refine ⟨n,n,⟨rfl,rfl,by omega,by omega,by omega⟩,?_⟩;have hH2:=Qmy hH n (by omega);generalize w6.alloc (Yp (Ya n (Y6 Xd 0)).toArray 3)=w7 at *;generalize w6.heap.size=gC at *;refine Qp ?_;refine Ag ?_;refine Qs ?_;refine Dp hH2 1 (o:=t) (vs:=[.slice (some ⟨gC,0,none⟩) n n]) rfl (by simp [Bv]) rfl (by kernel_rfl) (by simp only [Yn];omega) (by simp [Yt]) fun w8 hH3=>?_;simp only [Yn,Dm (B0 vs n++Ya (many - t) zS) _ _ (show t < (B0 vs n++Ya (many - t) zS).length by omega),Sz (B0 vs n) zS _ (show t < many by omega) (by rw [Se];exact hvs),Qde,Yd,Yj] at hH3;have hH4:=hH3.perm (X2 _ _).symm;simp only [Yx,Yi] at hH4;rw [Qcl n (by simp [hvs]) _ _ _,<- Up] at hH4;clear hH hH2 hH3;apply hK;clear hK;refine An ?_;refine VS [1,2,4,6,8,11,12,78,83,84] ?_;refine Ah ?_;refine Qs ?_;exact ⟨many - (t+1),by omega,t+1,_,rfl,hH4,by simp [hvs],by omega,rfl⟩
 have ht2:t=many:=by omega
 rw [ht2,X5,Xs,Yk,<- Qss list N] at hH;rw [ht2] at hvs;clear h ht ht2;refine Ax rfl ?_;refine Tc [1,2,4,6,8,11,12,78] ?_;refine Qs ?_;exact out _ _ hH hvs
theorem Qoz {F:Value->World->Prop}{kk:List It}{n many gN gl gr gp gW r:Nat}{w5:World}{k:Nat}{cf:Nat->Nat} (t1:2<=many) (t2:many<=6)
  (hcost2:∀ t,t < many->Does Yq 212 #[.int .i64 t,.int .i64 k,.pointer (some ⟨gl,0,none⟩),.pointer (some ⟨gp,0,none⟩)] w5 fun v w'=>w'=w5/\v=.int .i64 (cf t:Nat))
  (out:VC ⟨Yq,Xa,F,158⟩ kk [(1,.int .i64 n),(2,.pointer (some ⟨gl,0,none⟩)),(4,.pointer (some ⟨gr,0,none⟩)),(6,.int .i64 many),(8,.pointer (some ⟨gp,0,none⟩)),(11,Kq gl gp),(12,.slice (some ⟨gW,0,none⟩) many many),(14,.int .i64 k),(15,.int .i64 (L6 cf (many - 1):Nat)),(78,.int .i64 r),(95,.int .i64 gN),(96,.int .i64 k)] w5) :
  VC ⟨Yq,Xa,F,158⟩ (.code (Mm [1,1,1,1,1,1,0,1,0,0,1,1,0,0,1,1,0,1,0,0,1,1,0,0,1,1,0,1] Xa)::kk) [(1,.int .i64 n),(2,.pointer (some ⟨gl,0,none⟩)),(4,.pointer (some ⟨gr,0,none⟩)),(6,.int .i64 many),(8,.pointer (some ⟨gp,0,none⟩)),(11,Kq gl gp),(12,.slice (some ⟨gW,0,none⟩) many many),(14,.int .i64 k),(15,.int .i64 (0:Nat)),(16,.int .i64 1),(78,.int .i64 r),(95,.int .i64 gN),(96,.int .i64 k)] w5:=by
 conv in (Mm _ _)=>whnf
 have hble:=fun t=>Z8 cf t;refine Aq ?_;refine Ay [1,2,4,6,8,11,12,14,15,16,78,95,96] (fun m e w'=>∃ (t:Nat),Is e [(1,.int .i64 n),(2,.pointer (some ⟨gl,0,none⟩)),(4,.pointer (some ⟨gr,0,none⟩)),(6,.int .i64 many),(8,.pointer (some ⟨gp,0,none⟩)),(11,Kq gl gp),(12,.slice (some ⟨gW,0,none⟩) many many),(14,.int .i64 k),(15,.int .i64 (L6 cf (t - 1):Nat)),(16,.int .i64 t),(78,.int .i64 r),(95,.int .i64 gN),(96,.int .i64 k)]/\Is w' w5/\1<=t/\t<=many/\m=many - t) (many - 1) ?_ ?_
 ·
  refine Qs ?_;exact ⟨1,rfl,rfl,by omega,by omega,by omega⟩
 rintro m e w' ⟨t,rfl,rfl,ht1,ht,rfl⟩;refine VS [1,2,4,6,8,11,12,14,15,16,78,95,96,101] ?_;(repeat with_reducible refine Aw ?_);refine VD (fun h=>?_) (fun h=>?_)
 ·
  have hb:=hble (t - 1);refine Ad ?_
  ((repeat with_reducible refine Aw ?_);(first | refine Aq ?_ | refine VB ?_))
  refine VQ [1,2,4,6,8,11,12,14,15,16,78,95,96,112] fun K hK=>?_;refine Er ?_;refine Qs ?_;refine FnK.mk Tryz.call212 (hcost2 t (by omega)) ?_;rintro v w8 ⟨rfl,rfl⟩;refine Er ?_;refine Qs ?_;refine FnK.mk Tryz.call212 (hcost2 (L6 cf (t - 1)) (by omega)) ?_;rintro v w9 ⟨rfl,rfl⟩;refine Qs ?_;apply hK;clear hK
  have hbs:L6 cf t=if cf t < cf (L6 cf (t - 1)) then t else L6 cf (t - 1):=by
   obtain ⟨q,rfl⟩:∃ q,t=q+1:=⟨t - 1,by omega⟩;rfl
  refine VD (fun h=>?_) (fun h=>Ad ?_)
  ·
   rw [if_pos (by omega)] at hbs;refine VS [1,2,4,6,8,11,12,14,15,16,78,95,96] ?_;refine An ?_;refine VS [1,2,4,6,8,11,12,14,15,16,78,95,96] ?_;refine Ah ?_;refine Qs ?_;exact ⟨many - (t+1),by omega,t+1,by rw [Uc,hbs];rfl,rfl,by omega,by omega,rfl⟩
  rw [if_neg (by omega)] at hbs;refine An ?_;refine VS [1,2,4,6,8,11,12,14,15,16,78,95,96] ?_;refine Ah ?_;refine Qs ?_;exact ⟨many - (t+1),by omega,t+1,by rw [Uc,hbs];rfl,rfl,by omega,by omega,rfl⟩
 have ht2:t=many:=by omega
 rw [ht2];clear h ht ht1 ht2 hcost2;refine Ax rfl ?_;refine Tc [1,2,4,6,8,11,12,14,15,78,95,96] ?_;refine Qs ?_;exact out
theorem Qmd {F:Value->World->Prop}{kk:List It}{list N P:LN}{T:List (LN)}{us vs:List (OA×Nat)}{n many gN nl lc gl gr gT gP gp gW r:Nat}{p:Addr}{w w5:World}{k b nc:Nat}{ch:LN}{pk:Addr} (h1:3<=n) (h2:n<=258) (t1:2<=many) (t2:many<=6) (h4:nl<=1638350) (hnl:list.length=nl) (h5:∀ s∈list,s < n) (hkl:50 * k < nl) (hnc:ch.length=nc) (hcl:nc=min 50 (nl - 50 * k)) (hmm:50 * k+nc=min (50 * (k+1)) nl)
  (hb:N.getD k 0=b) (hbm:b < many) (hus:us.length=many) (hvs:vs.length=many) (hRl:(Bz us n T).length=many) (hcg:∀ j,j < nc->ch.getD j 0=list.getD (50 * k+j) 0) (hgrs:RS w (some pk) nc 1 (Ak ch))
  (hH2:Heap w [] w5 (Yf 223 1 (some ⟨gW,0,none⟩) many many (B0 vs n)::Yf 223 1 (some ⟨gT,0,none⟩) many many (B0 us n)::Yf 3 1 (some ⟨gP,0,none⟩) gN gN (Ak (N.take (k+1)++P.drop (k+1)))::Ye gp 229 (Au (some ⟨gT,0,none⟩) many many (some ⟨gP,0,none⟩) gN gN)::Ye gr 229 (Au none 0 0 none 0 0)::Ye gl 223 [.slice (some p) nl lc]::(Bz us n T++Bz vs n (Eb list N many n (50 * k)))))
  (out:∀ w',Heap w [] w' (Yf 223 1 (some ⟨gW,0,none⟩) many many (B0 vs n)::Yf 223 1 (some ⟨gT,0,none⟩) many many (B0 us n)::Yf 3 1 (some ⟨gP,0,none⟩) gN gN (Ak (N.take (k+1)++P.drop (k+1)))::Ye gp 229 (Au (some ⟨gT,0,none⟩) many many (some ⟨gP,0,none⟩) gN gN)::Ye gr 229 (Au none 0 0 none 0 0)::Ye gl 223 [.slice (some p) nl lc]::(Bz us n T++Bz vs n (Eb list N many n (min (50 * (k+1)) nl))))->VC ⟨Yq,Xa,F,158⟩ kk [(1,.int .i64 n),(2,.pointer (some ⟨gl,0,none⟩)),(4,.pointer (some ⟨gr,0,none⟩)),(6,.int .i64 many),(8,.pointer (some ⟨gp,0,none⟩)),(11,Kq gl gp),(12,.slice (some ⟨gW,0,none⟩) many many),(78,.int .i64 r),(95,.int .i64 gN),(96,.int .i64 k)] w') :
  VC ⟨Yq,Xa,F,158⟩ (.code (Mm [1,1,1,1,1,1,0,1,0,0,1,1,0,0,1,1,0,1,0,0,1,1,0,0,1,1,1,1,1] Xa)::kk) [(1,.int .i64 n),(2,.pointer (some ⟨gl,0,none⟩)),(4,.pointer (some ⟨gr,0,none⟩)),(6,.int .i64 many),(8,.pointer (some ⟨gp,0,none⟩)),(11,Kq gl gp),(12,.slice (some ⟨gW,0,none⟩) many many),(15,.int .i64 b),(78,.int .i64 r),(95,.int .i64 gN),(96,.int .i64 k),(121,.slice (some pk) nc (lc - 50 * k)),(122,.int .i64 nc),(123,.int .i64 0)] w5:=by
 conv in (Mm _ _)=>whnf
 refine Aq ?_;refine Ay [1,2,4,6,8,11,12,15,78,95,96,121,122,123] (fun m e w'=>∃ (j:Nat),Is e [(1,.int .i64 n),(2,.pointer (some ⟨gl,0,none⟩)),(4,.pointer (some ⟨gr,0,none⟩)),(6,.int .i64 many),(8,.pointer (some ⟨gp,0,none⟩)),(11,Kq gl gp),(12,.slice (some ⟨gW,0,none⟩) many many),(15,.int .i64 b),(78,.int .i64 r),(95,.int .i64 gN),(96,.int .i64 k),(121,.slice (some pk) nc (lc - 50 * k)),(122,.int .i64 nc),(123,.int .i64 j)]/\Heap w [] w' (Yf 223 1 (some ⟨gW,0,none⟩) many many (B0 vs n)::Yf 223 1 (some ⟨gT,0,none⟩) many many (B0 us n)::Yf 3 1 (some ⟨gP,0,none⟩) gN gN (Ak (N.take (k+1)++P.drop (k+1)))::Ye gp 229 (Au (some ⟨gT,0,none⟩) many many (some ⟨gP,0,none⟩) gN gN)::Ye gr 229 (Au none 0 0 none 0 0)::Ye gl 223 [.slice (some p) nl lc]::(Bz us n T++Bz vs n (Eb list N many n (50 * k+j))))/\j<=nc/\m=nc - j) nc ?_ ?_
 ·
  refine Qs ?_;exact ⟨0,rfl,hH2,by omega,rfl⟩
 clear hH2;rintro m e w9 ⟨j,rfl,hH,hj,rfl⟩;refine VS [1,2,4,6,8,11,12,15,78,95,96,121,122,123,124] ?_;(repeat with_reducible refine Aw ?_);refine VD (fun h=>?_) (fun h=>?_)
 ·
  have hcell:=El (hH.rs' hgrs) (i:=j) (by omega);have hcj:=hcg j (by omega);rw [hcj] at hcell;have hx:=h5 _ (Ez 0 (l:=list) (i:=50 * k+j) (by omega));have hcs:=Qst (P:=N) (many:=many) (n:=n) (b:=b) hx (by rw [show (50 * k+j) / 50=k by omega];exact hb) hbm;have hcu:=QAb (list:=list) (P:=N) (n:=n) (m:=50 * k+j) (t:=b) hx;have hcul:=Q7 list N n (50 * k+j) b
  have hWb:(Eb list N many n (50 * k+j))[b]? = some (Da list N n (50 * k+j) b):=by
   unfold Eb;rw [Yr,Yv hbm];rfl
  obtain ⟨⟨av,cv⟩,hvb⟩:∃ hv,vs[b]? = some hv:=⟨_,Yb (by omega)⟩;have hcW:w9.cell? ⟨gW,b,none⟩=some (.slice av n cv):=B3 (hH.at 0 rfl) (Zb n hvb);have hri2:(Yf 223 1 (some ⟨gW,0,none⟩) many many (B0 vs n)::Yf 223 1 (some ⟨gT,0,none⟩) many many (B0 us n)::Yf 3 1 (some ⟨gP,0,none⟩) gN gN (Ak (N.take (k+1)++P.drop (k+1)))::Ye gp 229 (Au (some ⟨gT,0,none⟩) many many (some ⟨gP,0,none⟩) gN gN)::Ye gr 229 (Au none 0 0 none 0 0)::Ye gl 223 [.slice (some p) nl lc]::(Bz us n T++Bz vs n (Eb list N many n (50 * k+j))))[many+b+6]? = some (Yf 3 1 av n cv (Ak (Da list N n (50 * k+j) b))):=QAc (many:=many) (W:=Eb list N many n (50 * k+j)) hRl hvb hWb;have hset:∀ l,(Bz us n T++Bz vs n (Eb list N many n (50 * k+j))).set (many+b) (Yf 3 1 av n cv (Ak l))=Bz us n T++Bz vs n ((Eb list N many n (50 * k+j)).set b l):=fun l=>Qw7 (many:=many) (W:=Eb list N many n (50 * k+j)) l hRl hvb;obtain ⟨gv,rfl⟩:=Cw (hH.at (many+b+6) hri2) (by omega);generalize list.getD (50 * k+j) 0=x at *;have hcx:=B3 (hH.at (many+b+6) hri2) (Io (l:=Da list N n (50 * k+j) b) (i:=x) (by omega));generalize hcc:(Da list N n (50 * k+j) b).getD x 0=c at *;refine Ad ?_
  ((repeat with_reducible refine Aw ?_);(first | refine Aq ?_ | refine VB ?_))
  refine VQ [1,2,4,6,8,11,12,15,18,78,95,96,121,122,123] fun K hK=>?_;refine ⟨⟨by omega,by omega⟩,_,hcell,?_⟩;apply hK;clear hK;refine VQ [1,2,4,6,8,11,12,15,78,95,96,121,122,123] fun K hK=>?_;refine ⟨⟨by omega,by omega⟩,_,hcW,?_⟩;refine Qs ?_;refine ⟨⟨by omega,by omega⟩,_,hcx,?_⟩;refine Qs ?_;refine ⟨Xn (by omega) (by omega),⟨by omega,by omega⟩,?_⟩;refine Ag ?_;refine Qs ?_;refine Dp hH (many+b+6) (o:=x) (vs:=[.int .i64 (c+1:Nat)]) hri2 (by simp [Bv]) rfl (by kernel_rfl) (by simp only [Yn,Bh];omega) (by simp [Yt]) fun w10 hH3=>?_
  have e1:(Ak (Da list N n (50 * k+j) b)).take x++[.int .i64 (c+1:Nat)]++(Ak (Da list N n (50 * k+j) b)).drop (x+1)=Ak ((Da list N n (50 * k+j) b).set x (c+1)):=by
   rw [Dm _ _ _ (by rw [Bh];omega),Ip]
  rw [Yn,e1] at hH3
  have hH4:Heap w [] w10 (Yf 223 1 (some ⟨gW,0,none⟩) many many (B0 vs n)::Yf 223 1 (some ⟨gT,0,none⟩) many many (B0 us n)::Yf 3 1 (some ⟨gP,0,none⟩) gN gN (Ak (N.take (k+1)++P.drop (k+1)))::Ye gp 229 (Au (some ⟨gT,0,none⟩) many many (some ⟨gP,0,none⟩) gN gN)::Ye gr 229 (Au none 0 0 none 0 0)::Ye gl 223 [.slice (some p) nl lc]::(Bz us n T++Bz vs n (Eb list N many n (50 * k+j+1)))):=by
   rw [hcs,<- hset];exact hH3
  clear hH3;clear hH hcW hcx hcell;apply hK;clear hK;refine An ?_;refine VS [1,2,4,6,8,11,12,15,78,95,96,121,122,123] ?_;refine Ah ?_;refine Qs ?_;exact ⟨nc - (j+1),by omega,j+1,rfl,hH4,by omega,rfl⟩
 have hj2:j=nc:=by omega
 rw [hj2,hmm] at hH;refine Ax rfl ?_;refine Tc [1,2,4,6,8,11,12,78,95,96] ?_;refine Qs ?_;exact out _ hH
theorem Qme {F:Value->World->Prop}{kk:List It}{list N P:LN}{T:List (LN)}{us vs:List (OA×Nat)}{n many gN nl lc gl gr gT gP gp gW r:Nat}{p:Addr}{w w5:World} (h1:3<=n) (h2:n<=258) (t1:2<=many) (t2:many<=6) (h3:1<=nl) (h4:nl<=1638350) (hnl:list.length=nl) (h5:∀ s∈list,s < n) (hps:p.spot=none) (hlc:nl<=lc) (hr:RS w (some p) nl 1 (Ak list)) (hgN:Dq nl=gN)
  (hNk:∀ k,k < gN->N.getD k 0=L6 (fun t=>L5 (T.getD t []) (Dx list k)) (many - 1)) (hNl:N.length=gN) (hPl:P.length=gN) (hTg:∀ t,t < many->T[t]? = some (T.getD t [])/\(T.getD t []).length=n/\∀ x∈T.getD t [],x<=20) (hus:us.length=many) (hvs:vs.length=many) (hRl:(Bz us n T).length=many)
  (hH:Heap w [] w5 (Yf 223 1 (some ⟨gW,0,none⟩) many many (B0 vs n)::Yf 223 1 (some ⟨gT,0,none⟩) many many (B0 us n)::Yf 3 1 (some ⟨gP,0,none⟩) gN gN (Ak P)::Ye gp 229 (Au (some ⟨gT,0,none⟩) many many (some ⟨gP,0,none⟩) gN gN)::Ye gr 229 (Au none 0 0 none 0 0)::Ye gl 223 [.slice (some p) nl lc]::(Bz us n T++Bz vs n (Eb list N many n 0))))
  (out:∀ w',Heap w [] w' (Yf 223 1 (some ⟨gW,0,none⟩) many many (B0 vs n)::Yf 223 1 (some ⟨gT,0,none⟩) many many (B0 us n)::Yf 3 1 (some ⟨gP,0,none⟩) gN gN (Ak N)::Ye gp 229 (Au (some ⟨gT,0,none⟩) many many (some ⟨gP,0,none⟩) gN gN)::Ye gr 229 (Au none 0 0 none 0 0)::Ye gl 223 [.slice (some p) nl lc]::(Bz us n T++Bz vs n (Eb list N many n nl)))->VC ⟨Yq,Xa,F,158⟩ kk [(1,.int .i64 n),(2,.pointer (some ⟨gl,0,none⟩)),(4,.pointer (some ⟨gr,0,none⟩)),(6,.int .i64 many),(8,.pointer (some ⟨gp,0,none⟩)),(11,Kq gl gp),(12,.slice (some ⟨gW,0,none⟩) many many),(78,.int .i64 r)] w') :
  VC ⟨Yq,Xa,F,158⟩ (.code (Mm [1,1,1,1,1,1,0,1,0,0,1,1,0,0,1,1,0,1] Xa)::kk) [(1,.int .i64 n),(2,.pointer (some ⟨gl,0,none⟩)),(4,.pointer (some ⟨gr,0,none⟩)),(6,.int .i64 many),(8,.pointer (some ⟨gp,0,none⟩)),(11,Kq gl gp),(12,.slice (some ⟨gW,0,none⟩) many many),(78,.int .i64 r),(95,.int .i64 gN),(96,.int .i64 0)] w5:=by
 conv in (Mm _ _)=>whnf
 obtain ⟨g1,g2,g3⟩:1<=gN/\gN<=32767/\nl<=50 * gN:=by rw [<- hgN];exact T8 h3 h4
 refine Aq ?_;refine Ay [1,2,4,6,8,11,12,78,95,96] (fun m e w'=>∃ (k:Nat),Is e [(1,.int .i64 n),(2,.pointer (some ⟨gl,0,none⟩)),(4,.pointer (some ⟨gr,0,none⟩)),(6,.int .i64 many),(8,.pointer (some ⟨gp,0,none⟩)),(11,Kq gl gp),(12,.slice (some ⟨gW,0,none⟩) many many),(78,.int .i64 r),(95,.int .i64 gN),(96,.int .i64 k)]/\Heap w [] w' (Yf 223 1 (some ⟨gW,0,none⟩) many many (B0 vs n)::Yf 223 1 (some ⟨gT,0,none⟩) many many (B0 us n)::Yf 3 1 (some ⟨gP,0,none⟩) gN gN (Ak (N.take k++P.drop k))::Ye gp 229 (Au (some ⟨gT,0,none⟩) many many (some ⟨gP,0,none⟩) gN gN)::Ye gr 229 (Au none 0 0 none 0 0)::Ye gl 223 [.slice (some p) nl lc]::(Bz us n T++Bz vs n (Eb list N many n (min (50 * k) nl))))/\k<=gN/\m=gN - k) gN ?_ ?_
 ·
  refine Qs ?_;exact ⟨0,rfl,by simpa using hH,by omega,rfl⟩
 clear hH;rintro m e w7 ⟨k,rfl,hH,hk,rfl⟩;refine VS [1,2,4,6,8,11,12,78,95,96,97] ?_;(repeat with_reducible refine Aw ?_);refine VD (fun h=>?_) (fun h=>?_)
 ·
  have hkl:50 * k < nl:=by unfold Dq at hgN;omega
  rw [Nat.min_eq_left (by omega)] at hH;have hbest:=hNk k (by omega);have c1:w7.cell? ⟨gl,0,none⟩=some (.slice (some p) nl lc):=Af (hH.at 5 rfl) rfl;have c2:w7.cell? ⟨gp,0,none⟩=some (.slice (some ⟨gT,0,none⟩) many many):=Af (hH.at 3 rfl) rfl
  have hcost:∀ t,t < many->Does Yq 212 #[.int .i64 t,.int .i64 k,.pointer (some ⟨gl,0,none⟩),.pointer (some ⟨gp,0,none⟩)] w7 fun v w'=>w'=w7/\v=.int .i64 (L5 (T.getD t []) (Dx list k):Nat):=fun t ht=>by
   obtain ⟨g1,g2,g3⟩:=hTg t ht;have hut:=getD_some (none,0) (show t < us.length by omega);have hr2:=hH.rs' hr;have hrow:=As (hH.at (t+6) (show _=some (Yf 3 1 (us.getD t (none,0)).1 n (us.getD t (none,0)).2 (Ak (T.getD t []))) from Qub hut g1));rw [<- hnl] at hr2 c1 hkl h4;exact Qw6 list (T.getD t []) n k t (by omega) (by omega) h5 g2 (fun x hx=>by have:=g3 x hx;omega) p hps lc (by omega) gl gp gT many many ht t2 _ _ w7 c1 c2 (B3 (hH.at 1 rfl) (Zb n hut)) hr2 hrow
  refine Ad ?_
  ((repeat with_reducible refine Aw ?_);(first | refine Aq ?_ | refine VB ?_))
  refine VS [1,2,4,6,8,11,12,14,78,95,96] ?_;refine VS [1,2,4,6,8,11,12,14,15,78,95,96] ?_;refine Aw ?_;refine Aw ?_;refine Qjx [1,2,4,6,8,11,12,14,15,16,78,95,96] rfl fun K hK=>?_;refine Qs ?_;apply hK;clear hK;generalize hcf:(fun t=>L5 (T.getD t []) (Dx list k))=cf at *;have hcost2:∀ t,t < many->Does Yq 212 #[.int .i64 t,.int .i64 k,.pointer (some ⟨gl,0,none⟩),.pointer (some ⟨gp,0,none⟩)] w7 fun v w'=>w'=w7/\v=.int .i64 (cf t:Nat):=fun t ht=>by rw [<- hcf];exact hcost t ht
  clear hcost;refine Qoz t1 t2 hcost2 ?_;rw [<- hbest];have hbm:N.getD k 0 < many:=by rw [hbest];exact Nat.lt_of_le_of_lt (Z8 _ _) (by omega)
  have hNk2:N.take (k+1)=N.take k++[N.getD k 0]:=Lv 0 (by omega);have hPs:=Qbw (A:=N.take k) (B:=P) (k:=k) (N.getD k 0) (by rw [Uo];omega) (by omega);rw [<- hNk2] at hPs;have hPl2:(N.take k++P.drop k).length=gN:=by simp;omega
  have hgr:=Qhi list k (by omega) (by omega) p lc (by omega);have hgrs:=Qps (l:=list) (p:=p) (k:=k) (w:=w) (by rw [hnl];exact hr) hps (by omega);have hcl:(Dx list k).length=min 50 (nl - 50 * k):=by simp [Dx,hnl]
  have hcg:∀ j,j < (Dx list k).length->(Dx list k).getD j 0=list.getD (50 * k+j) 0:=fun j hj=>by
   unfold Dx at hj ⊢;rw [Yc,List.getElem?_take_of_lt (by rw [Uo] at hj;omega),Xm,<- Yc]
  have hmm:50 * k+(Dx list k).length=min (50 * (k+1)) nl:=by omega
  generalize hch:Dx list k=ch at *;generalize hnc:ch.length=nc at *;rw [hnl] at hgr;generalize hb:N.getD k 0=b at *;refine VQ [1,2,4,6,8,11,12,14,15,78,95,96] fun K hK=>?_;refine ⟨_,Af (hH.at 3 rfl) (show (Au (some ⟨gT,0,none⟩) many many (some ⟨gP,0,none⟩) gN gN)[1]? = some _ from rfl),?_⟩;refine Qs ?_;refine Qp ?_;refine Ag ?_;refine Qs ?_;refine Dp hH 2 (o:=(k)) (vs:=[.int .i64 (b:Nat)]) rfl (by first | exact (Bv _ _ _).symm | rfl | simp [Bv]) rfl (by kernel_rfl) (by first | omega | (simp;done) | (simp;omega) | (simp [Ao,Br];omega) | (rw [Bh];simp;omega)) (by simp [Yt]) fun w6 hH2=>?_;(try refine Qs ?_);simp only [Yn,Dm (Ak (N.take k++P.drop k)) _ _ (show k < (Ak (N.take k++P.drop k)).length by rw [Bh];omega),Ip,Yd,Yj,hPs] at hH2;clear hH c1 c2;apply hK;clear hK;refine VQ [1,2,4,6,8,11,12,15,78,95,96,121,122,123] fun K hK=>?_;refine ⟨_,Af (hH2.at 5 rfl) rfl,?_⟩;refine Aa Tryz.call213 ?_;refine Qs ?_;refine Yo (hgr w6) ?_;rintro v w8 ⟨rfl,rfl⟩;refine Qs ?_;apply hK;clear hK;generalize hpk:p.add (50 * k)=pk at *;refine Qmd (us:=us) (vs:=vs) (T:=T) (P:=P) h1 h2 t1 t2 h4 hnl h5 hkl hnc hcl hmm hb hbm hus hvs hRl hcg hgrs hH2 fun w9 hH=>?_;refine An ?_;refine VS [1,2,4,6,8,11,12,78,95,96] ?_;refine Ah ?_;refine Qs ?_;exact ⟨gN - (k+1),by omega,k+1,rfl,hH,by omega,rfl⟩
 have hk2:k=gN:=by omega
 rw [hk2,Yw (by omega),Xb (by omega),Yk,Nat.min_eq_right (by omega)] at hH;clear h hk hk2;refine Ax rfl ?_;refine Tc [1,2,4,6,8,11,12,78] ?_;refine Qs ?_;exact out _ hH
theorem Qo0 {F:Value->World->Prop}{kk:List It}{list N:LN}{us vs:List (OA×Nat)}{n many gN nl lc gl gr gT gP gp gW r:Nat}{p:Addr}{w w5:World}{X':List (LN)×LN} (h1:3<=n) (h2:n<=258) (t1:2<=many) (t2:many<=6) (h3:1<=nl) (h4:nl<=1638350) (hnl:list.length=nl) (hTx':∀ t∈X'.1,t.length=n/\∀ x∈t,x<=20) (hTl':X'.1.length=many) (hX2:X'.2=N) (hus:us.length=many) (hvl:vs.length=many)
  (hWl:(Eb list N many n nl).length=many) (hnew:∀ t,t < many->X'.1[t]? = some (I2 (Da list N n nl t) 17))
  (hH2:Heap w [] w5 (Yf 223 1 (some ⟨gW,0,none⟩) many many (B0 vs n)::Yf 223 1 (some ⟨gT,0,none⟩) many many (B0 us n)::Yf 3 1 (some ⟨gP,0,none⟩) gN gN (Ak N)::Ye gp 229 (Au (some ⟨gT,0,none⟩) many many (some ⟨gP,0,none⟩) gN gN)::Ye gr 229 (Au none 0 0 none 0 0)::Ye gl 223 [.slice (some p) nl lc]::Bz vs n (Eb list N many n nl)))
  (out:∀ w' us,Heap w [] w' (Yf 223 1 (some ⟨gT,0,none⟩) many many (B0 us n)::Yf 3 1 (some ⟨gP,0,none⟩) gN gN (Ak X'.2)::Ye gp 229 (Au (some ⟨gT,0,none⟩) many many (some ⟨gP,0,none⟩) gN gN)::Ye gr 229 (Au none 0 0 none 0 0)::Ye gl 223 [.slice (some p) nl lc]::Bz us n X'.1)->us.length=many->VC ⟨Yq,Xa,F,158⟩ kk [(1,.int .i64 n),(2,.pointer (some ⟨gl,0,none⟩)),(4,.pointer (some ⟨gr,0,none⟩)),(6,.int .i64 many),(8,.pointer (some ⟨gp,0,none⟩)),(11,Kq gl gp),(12,.slice (some ⟨gW,0,none⟩) many many),(78,.int .i64 r)] w') :
  VC ⟨Yq,Xa,F,158⟩ (.code (Mm [1,1,1,1,1,1,0,1,0,0,1,1,0,0,1,1,1,1] Xa)::kk) [(1,.int .i64 n),(2,.pointer (some ⟨gl,0,none⟩)),(4,.pointer (some ⟨gr,0,none⟩)),(6,.int .i64 many),(8,.pointer (some ⟨gp,0,none⟩)),(11,Kq gl gp),(12,.slice (some ⟨gW,0,none⟩) many many),(78,.int .i64 r),(139,.int .i64 many),(140,.int .i64 0)] w5:=by
 conv in (Mm _ _)=>whnf
 refine Aq ?_;refine Ay [1,2,4,6,8,11,12,78,139,140] (fun m e w'=>∃ (t:Nat) (u2:List (OA×Nat)),Is e [(1,.int .i64 n),(2,.pointer (some ⟨gl,0,none⟩)),(4,.pointer (some ⟨gr,0,none⟩)),(6,.int .i64 many),(8,.pointer (some ⟨gp,0,none⟩)),(11,Kq gl gp),(12,.slice (some ⟨gW,0,none⟩) many many),(78,.int .i64 r),(139,.int .i64 many),(140,.int .i64 t)]/\Heap w [] w' (Yf 223 1 (some ⟨gW,0,none⟩) many many (B0 vs n)::Yf 223 1 (some ⟨gT,0,none⟩) many many (B0 (u2++us.drop t) n)::Yf 3 1 (some ⟨gP,0,none⟩) gN gN (Ak N)::Ye gp 229 (Au (some ⟨gT,0,none⟩) many many (some ⟨gP,0,none⟩) gN gN)::Ye gr 229 (Au none 0 0 none 0 0)::Ye gl 223 [.slice (some p) nl lc]::(Bz vs n (Eb list N many n nl)++Bz u2 n (X'.1.take t)))/\u2.length=t/\t<=many/\m=many - t) many ?_ ?_
 ·
  refine Qs ?_;exact ⟨0,[],rfl,by simpa [Bz] using hH2,rfl,by omega,rfl⟩
 clear hH2;rintro m e w8 ⟨t,u2,rfl,hH,hu2,ht,rfl⟩;refine VS [1,2,4,6,8,11,12,78,139,140,141] ?_;(repeat with_reducible refine Aw ?_);refine VD (fun h=>?_) (fun h=>?_)
 ·
  obtain ⟨⟨av,cv⟩,hvt⟩:∃ hv,vs[t]? = some hv:=⟨_,Yb (by omega)⟩
  have hWt:(Eb list N many n nl)[t]? = some (Da list N n nl t):=by
   unfold Eb;rw [Yr,Yv (show t < many by omega)];rfl
  have hrw:=As (hH.at (t+6) (show _=some (Yf 3 1 av n cv (Ak (Da list N n nl t))) from Qub hvt hWt));have hcl:=Q7 list N n nl t;have hmk:=Qvu (Da list N n nl t) 17 (by omega) (by omega) (fun x hx=>by have:=Qua x hx;omega) (by omega) (by omega) av cv w8;rw [hcl] at hmk;have hnt:=hnew t (by omega);have hln:=(hTx' _ (Y0 hnt)).1;have htk:X'.1.take (t+1)=X'.1.take t++[I2 (Da list N n nl t) 17]:=by rw [Xo,hnt];rfl
  generalize I2 (Da list N n nl t) 17=L at *;rw [hln] at hmk;have hF:=hH.focus 1 rfl;have c0:=hH.hole_at 1 3 rfl rfl (by omega) (show (Au (some ⟨gT,0,none⟩) many many (some ⟨gP,0,none⟩) gN gN)[0]? = some _ from rfl);have cW:=Heap.hole_row hH 1 0 rfl rfl (by omega) (Zb n hvt);have hAl:(B0 (u2++us.drop t) n).length=many:=by rw [Se];simp;omega
  refine Ad ?_
  ((repeat with_reducible refine Aw ?_);(first | refine Aq ?_ | refine VB ?_))
  refine VS [1,2,4,6,8,11,12,19,78,139,140] ?_;refine VH (holes [gT] w8) (Ext.hole _ _) [1,2,4,6,8,11,12,78,139,140] [(0,true),(1,true),(2,true),(3,true),(4,true),(5,true),(6,true),(7,false),(8,true),(9,true),(10,true),(11,true),(12,false)] fun K hK=>?_;refine ⟨_,c0,?_⟩;refine ⟨⟨by omega,by omega⟩,_,cW,?_⟩;refine Qs ?_;refine Aa Tryz.call214 ?_;refine Qs ?_;refine Yo (hmk hrw) ?_;rintro v w9 ⟨aL,cL,hHL,rfl⟩;have hF2:=hF.call0 hHL;simp only [Yy] at hF2;refine ⟨hF2.upd.extH,?_⟩;refine Qp ?_;refine Ag ?_;refine Qs ?_;refine Dp hF2 1 (o:=t) (vs:=[.slice aL n cL]) rfl (by simp [Bv]) rfl (by kernel_rfl) (by simp only [Yn];omega) (by simp [Yt]) fun w10 hF3=>?_
  have e1:(B0 (u2++us.drop t) n).take t++[.slice aL n cL]++(B0 (u2++us.drop t) n).drop (t+1)=B0 ((u2++[(aL,cL)])++us.drop (t+1)) n:=by
   rw [Dm _ _ _ (by omega),Qow,Qbw _ hu2 (by omega)]
  rw [Yn,e1] at hF3;simp only [Yd,Yj] at hF3;refine ⟨hF3.upd.extH,?_⟩;apply hK;clear hK;have hH3:=hH.call1 1 rfl (hF3.perm (.swap _ _ _));simp only [Yd,Yj,Yy] at hH3;have hH4:=hH3.perm (X2 _ _).symm;simp only [Yx,Yi] at hH4;rw [Qcl n (by rw [Uo];omega) _ _ _,<- htk] at hH4;clear hH hF hF2 hF3 hH3 c0 cW hHL;refine An ?_;refine VS [1,2,4,6,8,11,12,78,139,140] ?_;refine Ah ?_;refine Qs ?_;have e2:u2++(aL,cL)::([]++us.drop (t+1))=(u2++[(aL,cL)])++us.drop (t+1):=by simp
  rw [e2] at hH4;exact ⟨many - (t+1),by omega,t+1,u2++[(aL,cL)],rfl,hH4,by simp [hu2],by omega,rfl⟩
 have ht2:t=many:=by omega
 rw [ht2,Xb (by omega),Yk,Yw (by omega),<- hX2] at hH;rw [ht2] at hu2;have hH2:=hH.sub (.cons _ (.cons_cons _ (.cons_cons _ (.cons_cons _ (.cons_cons _ (.cons_cons _ (X6 _ _)))))));clear hH;refine Ax rfl ?_;refine Tc [1,2,4,6,8,11,12,78] ?_;refine Qs ?_;exact out _ _ hH2 hu2
theorem Qo1 (list:LN) (n:Nat) (hm:M0 list n) (p:Addr) (hps:p.spot=none) (lc:Nat) (hlc:list.length<=lc) (w:World) (hr:RS w (some p) list.length 1 (Ak list)) :
  Does Yq 182 #[.slice (some p) list.length lc,.int .i64 n] w fun x w'=>∃ v G,Heap w [] w' G/\QA9 G v (Kn list n).1 (Kn list n).2/\x=.tuple #[v,.int .i64 0]:=by
 have hml:=Qc5 list n hm (some p) lc;have hround:=QAd hm (Km list.length);have hchS:Kn list n=D7 list n (Km list.length) 4:=rfl;rw [hchS];have hm0:=hm;obtain ⟨h1,h2,h3,h4,h5⟩:=hm;have hg1:=(T8 h3 h4);obtain ⟨t1,t2⟩:=Qhd list.length;have htd:=fun w=>Qob list.length h3 (by omega) w;have hgd:=fun w=>Qai list.length (by omega) w;generalize hmany:Km list.length=many at *;generalize hgN:Dq list.length=gN at *;refine En [.slice (some p) list.length lc,.int .i64 n] 158 Tryz.func182 ?_;generalize hnl:list.length=nl at *;refine VQ [1,2,4] fun K hK=>?_;refine Dl ?_;refine Qs ?_;have hH:=(Y9 w).box 223 [.slice (some p) nl lc];generalize w.alloc (Yp [Y8 (some p) nl lc].toArray 223)=w1 at *;generalize w.heap.size=gl at *;refine Bo (.agg #[.slice none 0 0,.slice none 0 0]) (by kernel_rfl) ?_;refine Qs ?_;have hH1:=hH.box 229 (Au none 0 0 none 0 0);have hpl:[Y8 none 0 0,Y8 none 0 0]=Au none 0 0 none 0 0:=rfl;rw [hpl];generalize w1.alloc (Yp (Au none 0 0 none 0 0).toArray 229)=w2 at *;generalize w1.heap.size=gr at *;clear hH;apply hK;clear hK;refine VQ [1,2,4,23] fun K hK=>?_;refine ⟨_,Af (hH1.at 1 rfl) rfl,?_⟩;refine Aa Tryz.call210 ?_;refine Qs ?_;refine Yo (hml w2 (hH1.rs' hr)) ?_;rintro v w3 ⟨rfl,rfl⟩;refine Qs ?_;apply hK;clear hK;refine Ai rfl rfl (fun h=>by simp at h) (fun h=>Ad ?_);clear h;refine VQ [1,2,4,6] fun K hK=>?_;refine ⟨_,Af (hH1.at 1 rfl) rfl,?_⟩;refine Qs ?_;refine Aa Tryz.call211 ?_;refine Qs ?_;refine Yo (htd w3) ?_;rintro v w4 ⟨rfl,rfl⟩;apply hK;clear hK;generalize w4=w2 at *;clear hml htd;refine V3 w2 (Ext.refl _) [1,2,4,6,8] (.three [(0,true),(2,true),(3,true)] 1 4 7 (.two [] 4 7 (.two [] 5 7 (.seq [(6,true),(7,false),(8,false)]) (.seq [(5,false),(6,true),(8,false)])) (.seq [(4,false),(5,false),(6,true),(8,false)])) (.three [] 1 5 7 (.two [] 5 7 (.seq [(6,true),(7,false),(8,false)]) (.seq [(5,false),(6,true),(8,false)])) (.two [] 1 7 (.seq [(6,true),(7,false),(8,false)]) (.seq [(1,false),(6,true),(8,false)])) (.two [] 1 5 (.seq [(5,false),(6,true),(8,false)]) (.seq [(1,false),(6,true),(8,false)]))) (.two [] 1 4 (.seq [(4,false),(5,false),(6,true),(8,false)]) (.two [] 1 5 (.seq [(5,false),(6,true),(8,false)]) (.seq [(1,false),(6,true),(8,false)])))) fun K hK=>?_
 suffices out:∀ gT gP gp w3,Heap w2 [] w3 [Yf 223 1 (some ⟨gT,0,none⟩) many many (Ya many zS),Yf 3 1 (some ⟨gP,0,none⟩) gN gN (Ak (Ya gN 0)),Ye gp 229 (Au (some ⟨gT,0,none⟩) many many (some ⟨gP,0,none⟩) gN gN)]->K [(1,.int .i64 n),(2,.pointer (some ⟨gl,0,none⟩)),(4,.pointer (some ⟨gr,0,none⟩)),(6,.int .i64 many),(8,.pointer (some ⟨gp,0,none⟩))] w3 by
  simp only [Lm,A6,List.filterMap_cons,List.filterMap_nil,List.getElem?_cons_succ,List.getElem?_cons_zero,Option.map_some];refine Qs ?_;refine ⟨_,Af (hH1.at 1 rfl) rfl,?_⟩;refine Qs ?_;have hX:=Y9 w2
  repeat' (first
   | (refine Aa Tryz.call189 ?_;refine Qs ?_;refine Yo (hgd _) ?_;rintro v w9 ⟨rfl,rfl⟩;skip;refine ⟨hX.ext,?_⟩;skip)
   | (refine Ew Uw QA3 ?_;refine Qs ?_;refine ⟨many,many,⟨rfl,rfl,by omega,by omega,by omega⟩,?_⟩;have hX:=Qkz hX many (by omega);skip;refine ⟨hX.ext,?_⟩;skip)
   | (refine Ew Yu Ib ?_;refine Qs ?_;refine ⟨gN,gN,⟨rfl,rfl,by omega,by omega,by omega⟩,?_⟩;have hX:=Qmy hX gN (by omega);skip;refine ⟨hX.ext,?_⟩;skip)
   | (refine Bo (.agg #[.slice none 0 0,.slice none 0 0]) (by kernel_rfl) ?_;refine Qs ?_;have hX:=hX.box 229 (Au none 0 0 none 0 0);skip;refine ⟨hX.ext,?_⟩;skip)
   | (refine Ag ?_;refine Qs ?_;first
     | (refine Ap hX 0 (vs:=Au _ many many _ gN gN) rfl rfl (by kernel_rfl) (by simp [Au]) (Nj _ _ _ _ _ _) fun w6 hX=>?_;simp only [Yd,Yj] at hX;skip;refine ⟨hX.ext,?_⟩;skip)
     | (refine Ap hX 1 (vs:=Au _ many many _ gN gN) rfl rfl (by kernel_rfl) (by simp [Au]) (Nj _ _ _ _ _ _) fun w6 hX=>?_;simp only [Yd,Yj] at hX;skip;refine ⟨hX.ext,?_⟩;skip)
     | (refine Ap hX 2 (vs:=Au _ many many _ gN gN) rfl rfl (by kernel_rfl) (by simp [Au]) (Nj _ _ _ _ _ _) fun w6 hX=>?_;simp only [Yd,Yj] at hX;skip;refine ⟨hX.ext,?_⟩;skip))
   | (simp only [vcH_nil];(try refine Qs ?_))
   | refine And.intro ?_ ?_)
  all_goals first
   | exact out _ _ _ _ hX
   | exact out _ _ _ _ (hX.front 1 rfl)
   | exact out _ _ _ _ (hX.front 2 rfl)
   | exact out _ _ _ _ ((hX.front 1 rfl).front 2 rfl)
   | exact out _ _ _ _ ((hX.front 2 rfl).front 2 rfl)
   | exact out _ _ _ _ ((hX.front 2 rfl).front 1 rfl)
 intro gT gP gp w3 hX;have hH2:=hH1.call0 hX;simp only [Yx,Yh] at hH2;clear hX hH1;apply hK;clear hK;refine VQ [1,2,4,6,8,40,41] fun K hK=>?_;refine ⟨_,Af (hH2.at 2 rfl) (show (Au (some ⟨gT,0,none⟩) many many (some ⟨gP,0,none⟩) gN gN)[0]? = some _ from rfl),?_⟩;refine Qs ?_;apply hK;clear hK;refine Qmc h1 h2 t1 t2 hH2 fun w4 us hH hus=>?_;refine VS [1,2,4,6,8,11] ?_;refine VS [1,2,4,6,8,11,78] ?_;refine Aq ?_;refine Ay [1,2,4,6,8,11,78] (fun m e w'=>∃ (r:Nat) (us:List (OA×Nat)),Is e [(1,.int .i64 n),(2,.pointer (some ⟨gl,0,none⟩)),(4,.pointer (some ⟨gr,0,none⟩)),(6,.int .i64 many),(8,.pointer (some ⟨gp,0,none⟩)),(11,Kq gl gp),(78,.int .i64 r)]/\Heap w [] w' (Yf 223 1 (some ⟨gT,0,none⟩) many many (B0 us n)::Yf 3 1 (some ⟨gP,0,none⟩) gN gN (Ak (D7 list n many r).2)::Ye gp 229 (Au (some ⟨gT,0,none⟩) many many (some ⟨gP,0,none⟩) gN gN)::Ye gr 229 (Au none 0 0 none 0 0)::Ye gl 223 [.slice (some p) nl lc]::Bz us n (D7 list n many r).1)/\us.length=many/\r<=4/\m=4 - r) 4 ?_ ?_
 ·
  refine Qs ?_;have e0:D7 list n many 0=(L1 n many,Ya gN 0):=by rw [D7,hnl,hgN]
  exact ⟨0,us,rfl,by rw [e0];exact hH,hus,by omega,rfl⟩
 clear hH hus us w4;rintro m e w4 ⟨r,us,rfl,hH,hus,hr4,rfl⟩;refine VS [1,2,4,6,8,11,78,79] ?_;(repeat with_reducible refine Aw ?_);refine VD (fun h=>?_) (fun h=>?_)
 ·
  obtain ⟨hTl,hTx,hPl⟩:=hround r;obtain ⟨hTl',hTx',hPl'⟩:=hround (r+1)
  have hstep:D7 list n many (r+1)=((Yg many).map fun t=>I2 (Da list (F1 list many (D7 list n many r).1) n nl t) 17,F1 list many (D7 list n many r).1):=by
   rw [D7];unfold Lg;simp only [Qsu,hnl]
  generalize hXX:D7 list n many (r+1)=X' at *;generalize (D7 list n many r).2=P at *;generalize (D7 list n many r).1=T at *
  have hNk:∀ k,k < gN->(F1 list many T).getD k 0=L6 (fun t=>L5 (T.getD t []) (Dx list k)) (many - 1):=fun k hk=>by
   unfold F1;rw [Vr _ _ _ _ (by rw [hnl,hgN];exact hk)]
  have hNl:(F1 list many T).length=gN:=by unfold F1;simp [hnl,hgN]
  have hX1:X'.1=(Yg many).map fun t=>I2 (Da list (F1 list many T) n nl t) 17:=by rw [hstep]
  have hX2:X'.2=F1 list many T:=by rw [hstep]
  generalize F1 list many T=N at *
  have hTg:∀ t,t < many->T[t]? = some (T.getD t [])/\(T.getD t []).length=n/\∀ x∈T.getD t [],x<=20:=fun t ht=>by
   have h:=getD_some [] (show t < T.length by omega);exact ⟨h,hTx _ (Y0 h)⟩
  have hRl:(Bz us n T).length=many:=by rw [Qw4 (by omega),hTl]
  refine Ad ?_
  ((repeat with_reducible refine Aw ?_);(first | refine Aq ?_ | refine VB ?_))
  refine VQ [1,2,4,6,8,11,12,78] fun K hK=>?_;refine Ew Uw QA3 ?_;refine Qs ?_;refine ⟨many,many,⟨rfl,rfl,by omega,by omega,by omega⟩,?_⟩;have hH2:=Qkz hH many (by omega);generalize w4.alloc (Yp (Ya many (Y8 none 0 0)).toArray 223)=w5 at *;generalize w4.heap.size=gW at *;clear hH;apply hK;clear hK;refine VS [1,2,4,6,8,11,12,78,83,84] ?_;refine Qgs (list:=list) (N:=N) h1 h2 t1 t2 hus hTl hH2 fun w6 vs hH hvs=>?_;refine VQ [1,2,4,6,8,11,12,78,95,96] fun K hK=>?_;refine ⟨_,Af (hH.at 3 rfl) (show (Au (some ⟨gT,0,none⟩) many many (some ⟨gP,0,none⟩) gN gN)[1]? = some _ from rfl),?_⟩;refine Qs ?_;apply hK;clear hK;refine Qme (list:=list) (N:=N) (P:=P) (T:=T) (us:=us) (vs:=vs) h1 h2 t1 t2 h3 h4 hnl h5 hps hlc hr hgN hNk hNl hPl hTg hus hvs hRl hH fun w7 hH=>?_;have hvl:vs.length=many:=hvs;have hH2:Heap w [] w7 (Yf 223 1 (some ⟨gW,0,none⟩) many many (B0 vs n)::Yf 223 1 (some ⟨gT,0,none⟩) many many (B0 us n)::Yf 3 1 (some ⟨gP,0,none⟩) gN gN (Ak N)::Ye gp 229 (Au (some ⟨gT,0,none⟩) many many (some ⟨gP,0,none⟩) gN gN)::Ye gr 229 (Au none 0 0 none 0 0)::Ye gl 223 [.slice (some p) nl lc]::Bz vs n (Eb list N many n nl)):=hH.sub (.cons_cons _ (.cons_cons _ (.cons_cons _ (.cons_cons _ (.cons_cons _ (.cons_cons _ (X6 _ _)))))));clear hH;have hWl:=Qw2 list N many n nl
  have hnew:∀ t,t < many->X'.1[t]? = some (I2 (Da list N n nl t) 17):=fun t ht=>by
   rw [hX1,Yr,Yv ht];rfl
  refine VS [1,2,4,6,8,11,12,78,139,140] ?_;refine Qo0 (list:=list) (N:=N) h1 h2 t1 t2 h3 h4 hnl hTx' hTl' hX2 hus hvl hWl hnew hH2 fun w8 u2 hH2 hu2=>?_;refine An ?_;refine VS [1,2,4,6,8,11,78] ?_;refine Ah ?_;refine Qs ?_;exact ⟨4 - (r+1),by omega,r+1,u2,rfl,by rw [hXX];exact hH2,hu2,by omega,rfl⟩
 have hr2:r=4:=by omega
 obtain ⟨hTl,hTx,hPl⟩:=hround 4;rw [hr2] at hH;generalize (D7 list n many 4).1=T at *;generalize (D7 list n many 4).2=P at *;refine Ax rfl ?_;refine VQ [4,5] fun K hK=>?_;refine ⟨Au (some ⟨gT,0,none⟩) many many (some ⟨gP,0,none⟩) gN gN,⟨rfl,Bu (hH.at 2 rfl)⟩,?_⟩;refine Ag ?_;refine Qs ?_;refine Ap hH 3 (vs:=Au (some ⟨gT,0,none⟩) many many (some ⟨gP,0,none⟩) gN gN) rfl rfl (by kernel_rfl) (by simp [Au]) (Nj _ _ _ _ _ _) fun w10 hH6=>?_;simp only [Yd,Yj] at hH6;apply hK;clear hK;refine Ae (Kk rfl rfl rfl (Fm (hH6.at 3 rfl) (by kernel_rfl) (by kernel_rfl) rfl ?_));refine ⟨_,_,hH6.sub (.cons_cons _ (.cons_cons _ (.cons _ (.cons _ (.cons _ (.refl _)))))),fun w' hh=>Qkh rfl hTl hPl hus (by rw [Qsv (by omega) (fun t ht=>(hTx t ht).1)];exact As (hh _ (Y0 (i:=0) rfl))) (As (hh _ (Y0 (i:=1) rfl))) (fun i h t h6 h7=>?_),rfl⟩;rw [(hTx t (Y0 h7)).1];exact As (hh _ (Y0 (i:=i+2) (show _=some (Yf 3 1 h.1 n h.2 (Ak t)) from Qeh n h6 h7)))
theorem Quc {list:LN}{x:List (LN)×LN} (h1:O3 x.1 x.2) (h2:list.length<=1638350):I0 x list<=1000000000000:=by
 obtain ⟨m1,m2,m3,m4,m5,m6⟩:=h1;have hFl:=Zv (T:=x.1) (P:=x.2) (c:=20) (fun t ht y hy=>((m5 t ht).2.2.2.2.1 y hy).2) list 0;have hpl:=Qa4 x.2 (Yg x.1.length) (fun k hk=>by simpa using m6 k hk);have hpl2:x.2.length * (Yg x.1.length).length<=32767 * 6:=Nat.mul_le_mul m4 (by simpa using m2)
 have h3:∀ Q:List (LN),(∀ t∈Q,Fv t)->(Q.flatMap Dd).length<=Q.length * 20000:=fun Q=>by
  induction Q with
  | nil=>intro _;simp
  | cons t Q ih =>
   intro hQ;have h2:=ih fun t ht=>hQ t (by simp [ht]);obtain ⟨o1,o2,o3,_⟩:=hQ t (by simp);have h3:=Za t (t.getD 0 0) (o3 _ (Ez 0 (by omega))).2 fun x hx=>(o3 x hx).2;simp only [Ug,Yl,Y7,Nat.succ_mul,Dd,C0];omega
 have h4:=h3 x.1 fun t ht=>(m5 t ht).2.2;have hm:=Gr 20 h2;have hm2:=Gr 20000 m2;unfold I0 Ej;simp only [Yl,C0];omega
theorem Qw8 (list:LN) (n:Nat) (hm:M0 list n) (p:Addr) (hps:p.spot=none) (lc:Nat) (hlc:list.length<=lc) (w:World) (hr:RS w (some p) list.length 1 (Ak list)) :
  Does Yq 141 #[.slice (some p) list.length lc,.int .i64 n] w fun x w'=>∃ v G,Heap w [] w' G/\QA9 G v (E2 list n).1 (E2 list n).2/\x=.tuple #[v,.int .i64 0]:=by
 obtain ⟨hmc,hnc⟩:=Qhe hm;obtain ⟨hmf,hnf⟩:=Qpk hm;have hch:=Qo1 list n hm p hps lc hlc;have hfl:=Qjt list n hm (some p) lc;have hbs:E2 list n=if I0 (E0 list n) list < I0 (Kn list n) list then E0 list n else Kn list n:=rfl
 have hgf:(E0 list n).2.length=Dq list.length:=by simp [E0]
 have hgc:(Kn list n).2.length=Dq list.length:=by unfold Kn;rw [D7];simp [Lg,F1]
 obtain ⟨h1,h2,h3,h4,h5⟩:=hm;have hzc:=Quc (list:=list) (x:=Kn list n) hmc h4;have hzf:=Quc (list:=list) (x:=E0 list n) hmf h4;rw [hbs];generalize Kn list n=C at *;generalize E0 list n=F at *;obtain ⟨CT,CP⟩:=C;obtain ⟨FT,FP⟩:=F;simp only at hmc hnc hmf hnf hch hfl hgf hgc;have hsc:=fun v=>Qbv v CT CP hmc list h3 (by rw [hnc];exact h5) (by omega) hzc (some p) lc;have hsf:=fun v=>Qbv v FT FP hmf list h3 (by rw [hnf];exact h5) (by omega) hzf (some p) lc;clear hmc hmf hnc hnf hbs;refine En [.slice (some p) list.length lc,.int .i64 n] 47 Tryz.func141 ?_;generalize hnl:list.length=nl at *;refine VQ [0,1,4] fun K hK=>?_;refine Bo (.agg #[.slice none 0 0,.slice none 0 0]) (by kernel_rfl) ?_;refine Qs ?_;have hH:=(Y9 w).box 229 (Au none 0 0 none 0 0);have hpl:[Y8 none 0 0,Y8 none 0 0]=Au none 0 0 none 0 0:=rfl;rw [hpl];generalize w.alloc (Yp (Au none 0 0 none 0 0).toArray 229)=w1 at *;generalize w.heap.size=gr at *;apply hK;clear hK;refine VQ [0,1,4,6,7] fun K hK=>?_;refine Aa Tryz.call182 ?_;refine Qs ?_;refine Yo (hch w1 (hH.rs' hr)) ?_;rintro v w2 ⟨pv,GC,hHc,hpc,rfl⟩;have hH2:=(hH.call0 hHc).perm Ul;simp only [Yy] at hH2;obtain ⟨ta,tc,pa,pc,us,rfl,_⟩:=hpc w2 hHc.holds;have hpv:U4 #[.slice ta CT.length tc,.slice pa CP.length pc]=.agg (Au ta CT.length tc pa CP.length pc).toArray:=rfl;rw [hpv] at hpc ⊢;clear hH hHc;refine Bo (.agg #[.slice none 0 0,.slice none 0 0]) (by kernel_rfl) ?_;refine Qs ?_;have hH3:=hH2.box 229 (Au none 0 0 none 0 0);rw [hpl];generalize w2.alloc (Yp (Au none 0 0 none 0 0).toArray 229)=w3 at *;generalize w2.heap.size=ga at *;refine Ag ?_;refine Qs ?_;refine Ap hH3 0 (vs:=Au ta CT.length tc pa CP.length pc) rfl rfl (by kernel_rfl) (by simp [Au]) (Nj _ _ _ _ _ _) fun w4 hH4=>?_;have hH5:Heap w [] w4 (Ye ga 229 (Au ta CT.length tc pa CP.length pc)::Ye gr 229 (Au none 0 0 none 0 0)::GC):=hH4;clear hH2 hH3 hH4;apply hK;clear hK;refine VS [0,1,4,6,7,21] ?_;refine Ai rfl rfl (fun h=>by simp at h) (fun h=>Ad ?_);clear h;refine VQ [0,4,6,8] fun K hK=>?_;refine Aa Tryz.call183 ?_;refine Qs ?_;refine Yo (hfl w4 (hH5.rs' hr)) ?_;rintro v w5 ⟨pv,GF,hHf,hpf,rfl⟩;have hH6:=(hH5.call0 hHf).perm Ul;simp only [Yx] at hH6;obtain ⟨fa,fc,qa,qc,us2,rfl,_⟩:=hpf w5 hHf.holds;have hpv2:U4 #[.slice fa FT.length fc,.slice qa FP.length qc]=.agg (Au fa FT.length fc qa FP.length qc).toArray:=rfl;rw [hpv2] at hpf ⊢;clear hH5 hHf;refine Bo (.agg #[.slice none 0 0,.slice none 0 0]) (by kernel_rfl) ?_;refine Qs ?_;have hH7:=hH6.box 229 (Au none 0 0 none 0 0);rw [hpl];generalize w5.alloc (Yp (Au none 0 0 none 0 0).toArray 229)=w6 at *;generalize w5.heap.size=gb at *;refine Ag ?_;refine Qs ?_;refine Ap hH7 0 (vs:=Au fa FT.length fc qa FP.length qc) rfl rfl (by kernel_rfl) (by simp [Au]) (Nj _ _ _ _ _ _) fun w7 hH8=>?_;have hH9:Heap w [] w7 (Ye gb 229 (Au fa FT.length fc qa FP.length qc)::Ye ga 229 (Au ta CT.length tc pa CP.length pc)::Ye gr 229 (Au none 0 0 none 0 0)::(GC++GF)):=hH8;clear hH6 hH7 hH8;apply hK;clear hK;refine VQ [0,4,6,8,10] fun K hK=>?_;refine ⟨Au ta CT.length tc pa CP.length pc,⟨rfl,Bu (hH9.at 1 rfl)⟩,?_⟩;refine Aa Tryz.call184 ?_;refine Qs ?_;refine Yo (hsc _ w7 (hpc w7 (fun r hr=>hH9.holds r (by simp [hr]))) (hH9.rs' hr)) ?_;rintro v w8 ⟨hHs,rfl⟩;have hH10:=hH9.call0 hHs;simp only [Yh] at hH10;clear hH9 hHs;apply hK;clear hK;refine VQ [4,6,8,10,12] fun K hK=>?_;refine ⟨Au fa FT.length fc qa FP.length qc,⟨rfl,Bu (hH10.at 0 rfl)⟩,?_⟩;refine Aa Tryz.call184 ?_;refine Qs ?_;refine Yo (hsf _ w8 (hpf w8 (fun r hr=>hH10.holds r (by simp [hr]))) (hH10.rs' hr)) ?_;rintro v w9 ⟨hHs,rfl⟩;have hH11:=hH10.call0 hHs;simp only [Yh] at hH11;clear hH10 hHs
 apply hK;clear hK;generalize I0 (FT,FP) list=sf at *;generalize I0 (CT,CP) list=sc at *;refine VS [4,6,8,44] ?_;refine VD (fun h=>?_) (fun h=>Ad ?_)
 ·
  rw [if_pos (by omega)];refine VQ [4,5] fun K hK=>?_;refine ⟨Au fa FT.length fc qa FP.length qc,⟨rfl,Bu (hH11.at 0 rfl)⟩,?_⟩;refine Ag ?_;refine Qs ?_;refine Ap hH11 2 (vs:=Au fa FT.length fc qa FP.length qc) rfl rfl (by kernel_rfl) (by simp [Au]) (Nj _ _ _ _ _ _) fun w10 hH12=>?_;simp only [Yd,Yj] at hH12;apply hK;clear hK;refine Ae (Kk rfl rfl rfl (Fm (hH12.at 2 rfl) (by kernel_rfl) (by kernel_rfl) rfl ?_));exact ⟨_,GF,hH12.sub (.cons _ (.cons _ (.cons _ (X6 _ _)))),hpf,rfl⟩
 rw [if_neg (by omega)];refine VQ [4,5] fun K hK=>?_;refine ⟨Au ta CT.length tc pa CP.length pc,⟨rfl,Bu (hH11.at 1 rfl)⟩,?_⟩;refine Ag ?_;refine Qs ?_;refine Ap hH11 2 (vs:=Au ta CT.length tc pa CP.length pc) rfl rfl (by kernel_rfl) (by simp [Au]) (Nj _ _ _ _ _ _) fun w10 hH12=>?_;simp only [Yd,Yj] at hH12;apply hK;clear hK;refine Ae (Kk rfl rfl rfl (Fm (hH12.at 2 rfl) (by kernel_rfl) (by kernel_rfl) rfl ?_));exact ⟨_,GC,hH12.sub (.cons _ (.cons _ (.cons _ (List.sublist_append_left _ _)))),hpc,rfl⟩
set_option maxHeartbeats 8000000
abbrev Qtg:Value:=.agg #[.string ⟨#[]⟩,.int .i64 0]
def Rj (s:LB) (v:Value):Prop :=
 if s=[] then v=.tuple #[Qtg,.int .i64 2]
 else if 262144 < (enc s).length then v=.tuple #[Qtg,.int .i64 3]
 else ∃ σ,Ordered (enc s) σ/\v=.tuple #[Ll (Fq s σ),.int .i64 0]
theorem QLf {s:LB} (hs:s≠[]):enc s≠[]:=by
 intro e
 obtain ⟨c,r,rfl⟩:∃ c r,s=c::r:=by cases s with
  | nil=>exact absurd rfl hs
  | cons c r=>exact ⟨c,r,rfl⟩
 have h1:=Q6 (c::r) (by simp);have h2:=Lx (c::r) (by simp);have h3:=(Pi (c::r)).1;have h4:=Pe (Ch (c::r)) (c::r) h3;rw [e] at h1;have h5:=congrArg Xp h1;simp only [Yl,Ub] at h5;split at h4 <;> omega
theorem Qsw (s:LB):Ck s < 4294967296:=by
 have:=Zm s (r:=4294967295) (by omega);unfold Ck
 first | omega | exact Ue (n:=32) this (by omega)
theorem Qgt (s:LB) (hs:s.length<=100000000) (w:World):Does Yq 105 #[Ab s] w fun v w'=>Heap w [] w' []/\Rj s v:=by
 have hel:=Qci s;have hcrc:=Qsw s;refine En [Ab s] 117 Tryz.func105 ?_;refine VQ [0,2] fun K hK=>?_;refine Bo (.agg #[.string ⟨#[]⟩,.int .i64 0]) (by kernel_rfl) ?_;refine Qs ?_;have hH:=(Y9 w).box 184 [.string ⟨#[]⟩,.int .i64 0];generalize w.alloc (Yp [Xw ⟨#[]⟩,.int .i64 0].toArray 184)=w1 at *;generalize w.heap.size=gr at *;apply hK;clear hK;refine VS [0,2,21] ?_;refine VD (fun h=>?_) (fun h=>Ad ?_)
 ·
  refine VQ [2,3] fun K hK=>?_;refine Ag ?_;refine Qs ?_;refine Ap hH 0 (vs:=[.string ⟨#[]⟩,.int .i64 0]) rfl rfl (by kernel_rfl) (by simp) (by simp [Yt]) fun w4 hH3=>?_;simp only [Yd,Yj] at hH3;apply hK;clear hK;refine Ae (Kk rfl rfl rfl (Fm (hH3.at 0 rfl) (by kernel_rfl) (by kernel_rfl) rfl ?_));refine ⟨hH3.sub (by simp),?_⟩;rw [Rj,if_pos h];rfl
 have hne:=QLf h;have hMk:∀ v,(if 262144 < (enc s).length then v=.tuple #[Qtg,.int .i64 3] else ∃ σ,Ordered (enc s) σ/\v=.tuple #[Ll (Fq s σ),.int .i64 0])->Rj s v:=fun v hv=>by rw [Rj,if_neg h];exact hv
 refine VQ [0,2,4] fun K hK=>?_;refine Aa Tryz.call136 ?_;refine Qs ?_;refine Yo (Qz6 s w1 (by omega)) ?_;rintro v w2 ⟨hHe,rfl⟩;have hH2:=hH.call0 hHe;simp only [Yh] at hH2;clear hH hHe;apply hK;clear hK;generalize ht:enc s=t at *;refine VS [0,2,4,27] ?_;refine VD (fun h=>?_) (fun h=>Ad ?_)
 ·
  refine VQ [2,3] fun K hK=>?_;refine Ag ?_;refine Qs ?_;refine Ap hH2 0 (vs:=[.string ⟨#[]⟩,.int .i64 0]) rfl rfl (by kernel_rfl) (by simp) (by simp [Yt]) fun w4 hH3=>?_;simp only [Yd,Yj] at hH3;apply hK;clear hK;refine Ae (Kk rfl rfl rfl (Fm (hH3.at 0 rfl) (by kernel_rfl) (by kernel_rfl) rfl ?_));refine ⟨hH3.sub (by simp),hMk _ ?_⟩;rw [if_pos (by omega)];rfl
 have htl:t.length<=262144:=by omega
 replace hMk:∀ v,(∃ σ,Ordered t σ/\v=.tuple #[Ll (Fq s σ),.int .i64 0])->Rj s v:=fun v hv=>hMk v (by rw [if_neg (by omega)];exact hv);refine VQ [0,2,4,5,6,7] fun K hK=>?_;refine Aa Tryz.call137 ?_;refine Qs ?_;refine Yo (Ql8 t (by omega) w2) ?_;rintro v w3 ⟨hHf,hf⟩;rw [Wl,if_neg hne,if_neg (by omega)] at hf;obtain ⟨σ,ho,rfl⟩:=hf;have hH3:=hH2.call0 hHf;simp only [Yh] at hH3;clear hH2 hHf;apply hK;clear hK;refine VS [0,2,4,5,6,7,36] ?_;refine Ai rfl rfl (fun h=>by simp at h) (fun h=>Ad ?_);clear h;refine VQ [0,2,5,6,8] fun K hK=>?_;refine Aa Tryz.call138 ?_;refine Qs ?_;refine Yo (QFi t (by omega) w3) ?_;rintro v w4 ⟨hHo,rfl⟩;have hH4:=hH3.call0 hHo;simp only [Yh] at hH4;clear hH3 hHo;apply hK;clear hK;obtain ⟨u1,u2⟩:=Pj hne;have hcl:=Qck ho;obtain ⟨p1,p2,p3⟩:=Z0 ho;obtain ⟨z1,z2,z3,z4,z5,z6⟩:=V6 ho hne;have hmay:=Qdq ho hne htl;have hmu:=Qba hne;have hfr:=Qr7 (Cb t σ) (A7 t) (by omega) (by omega) w4;unfold S1 at hfr;simp only [hmu,p1,if_true] at hfr;refine VQ [0,2,6,7,8,9] fun K hK=>?_;refine Aa Tryz.call139 ?_;refine Qs ?_;refine Yo hfr ?_;rintro v w5 ⟨ap,cp,hHp,rfl⟩;have hH5:=hH4.call0 hHp;simp only [Yy] at hH5;clear hH4 hHp hfr;apply hK;clear hK;refine VS [0,2,6,7,8,9,48] ?_;refine Ai rfl rfl (fun h=>by simp at h) (fun h=>Ad ?_);clear h;have hzd:=Qwr ((A7 t).length:Nat) (Iv t σ) ap cp (Xn (by omega) (by omega)) w5 (As (hH5.at 0 rfl)) (by omega) (fun v hv=>by have:=p3 v hv;exact Xn (by omega) (by omega));unfold IntsErr at hzd;rw [z1,z2,<- z3] at hzd;refine VQ [0,2,6,7,8,10] fun K hK=>?_;refine Aa Tryz.call140 ?_;refine Qs ?_;refine Yo hzd ?_;rintro v w6 ⟨al,cl,hHl,rfl⟩;have hH6:=hH5.call0 hHl;simp only [Yy] at hH6;have hH7:=hH6.sub (.cons_cons _ (.cons _ (.refl _)));clear hH5 hHl hzd hH6;apply hK;clear hK;refine VS [0,2,6,7,8,10,59] ?_;refine Ai rfl rfl (fun h=>by simp at h) (fun h=>Ad ?_);clear h;have hbk:∀ σ',Ordered t σ'->Ll (Fq s σ')=Ll (Fq s σ'):=fun _ _=>rfl;obtain ⟨gl,rfl⟩:=Cw (hH7.at 0 rfl) (by omega);have hcap:(Cn t σ).length<=cl:=(hH7.at 0 rfl).2.1;have hbd:=Qw8 (Cn t σ) ((A7 t).length+2) hmay ⟨gl,0,none⟩ rfl cl hcap w6 (As (hH7.at 0 rfl));obtain ⟨b1,b2⟩:=Qpl hmay;have b3:=Qe0 (Cn t σ) ((A7 t).length+2);have b4:=Qd4 hmay;have hplan:B1 t σ=E2 (Cn t σ) ((A7 t).length+2):=rfl
 have hbs:Fq s σ=[P5 s (σ.idxOf 0),Fb (A7 t),Ej (E2 (Cn t σ) ((A7 t).length+2)).1 (E2 (Cn t σ) ((A7 t).length+2)).2,E1 (E2 (Cn t σ) ((A7 t).length+2)).1 (E2 (Cn t σ) ((A7 t).length+2)).2 (Cn t σ) 0].flatten:=by
  unfold Fq;rw [ht,hplan]
 have hMk2:Rj s (.tuple #[Ll (Fq s σ),.int .i64 0]):=hMk _ ⟨σ,ho,rfl⟩;rw [hbs] at hMk2;have hnl:=Qeb (A7 t);have hhl:=Qdr s (σ.idxOf 0)
 have hrow:σ.idxOf 0<=262144:=by
  have h1:=Gp (l:=σ) (a:=0);have h2:=ho.perm.length_eq;simp at h2;omega
 unfold I0 at b4;have hput:=fun v=>Qc7 v (E2 (Cn t σ) ((A7 t).length+2)).1 (E2 (Cn t σ) ((A7 t).length+2)).2 b1 (Cn t σ) (by omega) (by rw [b2];exact z6) (by omega) (some ⟨gl,0,none⟩) cl;have hsho:=fun v=>Qbp v (E2 (Cn t σ) ((A7 t).length+2)).1 (E2 (Cn t σ) ((A7 t).length+2)).2 b1;generalize hHead:P5 s (σ.idxOf 0)=Head at *;have hHead2:A2 48 54156738319193++A2 32 (Ck s)++A2 1 0++A2 24 (σ.idxOf 0)=Head:=hHead;clear hHead hMk hbs hplan b2 b3 p1 p2 p3 ho hcl;generalize E2 (Cn t σ) ((A7 t).length+2)=B at *;obtain ⟨BT,BP⟩:=B;simp only at hput hsho hMk2 b4;generalize Cn t σ=L at *;generalize σ.idxOf 0=row at *;generalize hce:Ck s=crc at *;refine VQ [0,2,6,7,8,10,11] fun K hK=>?_;(repeat first | refine Qo ?_ | refine Qp ?_);rw [show (((A7 t).length:Int)+2)=(((A7 t).length+2:Nat):Int) by push_cast;rfl];refine Aa Tryz.call141 ?_;refine Qs ?_;refine Yo hbd ?_;rintro v w7 ⟨pv,GP,hHb,hpg,rfl⟩;have hH8:=(hH7.call0 hHb).perm Ul;simp only [Yx,Yh] at hH8;obtain ⟨ta,tc,pa,pc,us,rfl,_⟩:=hpg w7 hHb.holds;have hpv:U4 #[.slice ta BT.length tc,.slice pa BP.length pc]=.agg (Au ta BT.length tc pa BP.length pc).toArray:=rfl;rw [hpv] at hpg ⊢;clear hH7 hHb;refine Bo (.agg #[.slice none 0 0,.slice none 0 0]) (by kernel_rfl) ?_;refine Qs ?_;have hH9:=hH8.box 229 (Au none 0 0 none 0 0);have hpl:[Y8 none 0 0,Y8 none 0 0]=Au none 0 0 none 0 0:=rfl;rw [hpl];generalize w7.alloc (Yp (Au none 0 0 none 0 0).toArray 229)=w8 at *;generalize w7.heap.size=gp at *;refine Ag ?_;refine Qs ?_;refine Ap hH9 0 (vs:=Au ta BT.length tc pa BP.length pc) rfl rfl (by kernel_rfl) (by simp [Au]) (Nj _ _ _ _ _ _) fun w9 hH10=>?_;have hH11:Heap w [] w9 (Ye gp 229 (Au ta BT.length tc pa BP.length pc)::Yf 3 1 (some ⟨gl,0,none⟩) L.length cl (Ak L)::Ye gr 184 [.string ⟨#[]⟩,.int .i64 0]::GP):=hH10;clear hH8 hH9 hH10;apply hK;clear hK;refine VS [0,2,6,7,8,10,11,71] ?_;refine Ai rfl rfl (fun h=>by simp at h) (fun h=>Ad ?_);clear h;refine VQ [0,2,6,8,10,11,12] fun K hK=>?_;refine Aa Tryz.call107 ?_;refine Qs ?_;refine Yo (Qk w9) ?_;rintro v w10 ⟨gw,hHw,rfl⟩;have hH:=hH11.call0 hHw;simp only [Yy] at hH;clear hH11 hHw;apply hK;clear hK;refine VQ [0,2,6,8,10,11,12] fun K hK=>?_;refine Aa Uh ?_;refine Qs ?_;refine Yo (Ir gw none 0 [] 54156738319193 48 w10 (by omega) (by omega) (by simp) (hH.focus 0 rfl)) ?_;rintro v w11 ⟨a1,c1,hHq,rfl⟩;have hH2:=hH.call1 0 rfl hHq;simp only [Yd,Yh] at hH2;clear hH hHq;apply hK;clear hK;refine VQ [2,6,8,10,11,12] fun K hK=>?_;refine Aa Tryz.call106 ?_;refine Qs ?_;refine Yo (Qef s w11 (by omega)) ?_;rintro v w12 ⟨hHc,rfl⟩;have hH3:=hH2.call0 hHc;simp only [Yh] at hH3;clear hH2 hHc;refine Qs ?_;rw [hce,show ((crc:Int) % 18446744073709551616)=crc by omega];refine Aa Uh ?_;refine Qs ?_;refine Yo (Ir gw a1 c1 _ crc 32 w12 (by omega) (by omega) (by simp [C0]) (hH3.focus 0 rfl)) ?_;rintro v w13 ⟨a2,c2,hHq,rfl⟩;have hH4:=hH3.call1 0 rfl hHq;simp only [Yd,Yh] at hH4;clear hH3 hHq;apply hK;clear hK;refine VQ [2,6,8,10,11,12] fun K hK=>?_;refine Aa Uh ?_;refine Qs ?_;refine Yo (Ir gw a2 c2 _ 0 1 w13 (by omega) (by omega) (by simp [C0]) (hH4.focus 0 rfl)) ?_;rintro v w14 ⟨a3,c3,hHq,rfl⟩;have hH5:=hH4.call1 0 rfl hHq;simp only [Yd,Yh] at hH5;clear hH4 hHq;apply hK;clear hK;refine VQ [2,8,10,11,12] fun K hK=>?_;rw [show ((row:Int) % 18446744073709551616)=row by omega];refine Aa Uh ?_;refine Qs ?_;refine Yo (Ir gw a3 c3 _ row 24 w14 (by omega) (by omega) (by simp [C0]) (hH5.focus 0 rfl)) ?_;rintro v w15 ⟨a4,c4,hHq,rfl⟩;have hH6:=hH5.call1 0 rfl hHq;simp only [Yd,Yh] at hH6
 rw [show A2 48 54156738319193++A2 32 crc++A2 1 0++A2 24 row=Head from hHead2] at hH6;clear hH5 hHq;apply hK;clear hK;refine VQ [2,8,10,11,13] fun K hK=>?_;refine Aa Tryz.call111 ?_;refine Qs ?_;refine Yo (Pg gw a4 c4 _ w15 (hH6.at 0 rfl)) ?_;rintro v w16 ⟨rfl,rfl⟩;refine Aa Tryz.call112 ?_;refine Qs ?_;refine Yo (Oj gw a4 c4 _ w16 (hH6.at 0 rfl)) ?_;rintro v w17 ⟨rfl,rfl⟩;refine Qs ?_;refine Bo (.agg #[.string ⟨#[]⟩,.int .i64 0]) (by kernel_rfl) ?_;refine Qs ?_;have hH7:=(hH6.sub (Ui _ _)).box 184 [.string ⟨#[]⟩,.int .i64 0];generalize w17.alloc (Yp [Xw ⟨#[]⟩,.int .i64 0].toArray 184)=w18 at *;generalize w17.heap.size=gh at *;refine Ag ?_;refine Qs ?_;refine Ap hH7 0 (vs:=Az Head) rfl rfl (by kernel_rfl) (by simp [Az]) (Ey _) fun w19 hH8=>?_;have hH9:Heap w [] w19 (Ye gh 184 (Az Head)::Ye gp 229 (Au ta BT.length tc pa BP.length pc)::Yf 3 1 (some ⟨gl,0,none⟩) L.length cl (Ak L)::Ye gr 184 [.string ⟨#[]⟩,.int .i64 0]::GP):=hH8;clear hH6 hH7 hH8;apply hK;clear hK;generalize hNm:Fb (A7 t)=Nm at *;have hsy:=Qma (A7 t) hmu (by omega) w19;rw [hNm] at hsy;refine VQ [2,10,11,13,14] fun K hK=>?_;refine Aa Tryz.call142 ?_;refine Qs ?_;refine Yo hsy ?_;rintro v w20 ⟨hHn,rfl⟩;have hH2:=hH9.call0 hHn;simp only [Yh] at hH2;clear hH9 hHn;refine Bo (.agg #[.string ⟨#[]⟩,.int .i64 0]) (by kernel_rfl) ?_;refine Qs ?_;have hH3:=hH2.box 184 [.string ⟨#[]⟩,.int .i64 0];generalize w20.alloc (Yp [Xw ⟨#[]⟩,.int .i64 0].toArray 184)=w21 at *;generalize w20.heap.size=gn at *;refine Ag ?_;refine Qs ?_;refine Ap hH3 0 (vs:=Az Nm) rfl rfl (by kernel_rfl) (by simp [Az]) (Ey _) fun w22 hH4=>?_;have hH5:Heap w [] w22 (Ye gn 184 (Az Nm)::Ye gh 184 (Az Head)::Ye gp 229 (Au ta BT.length tc pa BP.length pc)::Yf 3 1 (some ⟨gl,0,none⟩) L.length cl (Ak L)::Ye gr 184 [.string ⟨#[]⟩,.int .i64 0]::GP):=hH4;clear hH2 hH3 hH4;apply hK;clear hK;generalize hPb:Ej BT BP=Pb at *;generalize hPu:E1 BT BP L 0=Pu at *
 have hfl:[Head,Nm,Pb,Pu].flatten.length<=10000000000000:=by
  simp only [Uz,List.flatten_nil,Yk,Yl];unfold Dq at b4;omega
 refine VQ [2,10,11,13,14,16] fun K hK=>?_;refine ⟨Au ta BT.length tc pa BP.length pc,⟨rfl,Bu (hH5.at 2 rfl)⟩,?_⟩;refine Aa Tryz.call143 ?_;refine Qs ?_;refine Yo (hsho _ w22 (hpg w22 (fun r hr=>hH5.holds r (by simp [hr])))) ?_;rintro v w23 ⟨hHs,rfl⟩;have hH6:=hH5.call0 hHs;simp only [Yh] at hH6;clear hH5 hHs;refine Bo (.agg #[.string ⟨#[]⟩,.int .i64 0]) (by kernel_rfl) ?_;refine Qs ?_;have hH7:=hH6.box 184 [.string ⟨#[]⟩,.int .i64 0];generalize w23.alloc (Yp [Xw ⟨#[]⟩,.int .i64 0].toArray 184)=w24 at *;generalize w23.heap.size=gt at *;refine Ag ?_;refine Qs ?_;refine Ap hH7 0 (vs:=Az Pb) rfl rfl (by kernel_rfl) (by simp [Az]) (Ey _) fun w25 hH8=>?_;have hH9:Heap w [] w25 (Ye gt 184 (Az Pb)::Ye gn 184 (Az Nm)::Ye gh 184 (Az Head)::Ye gp 229 (Au ta BT.length tc pa BP.length pc)::Yf 3 1 (some ⟨gl,0,none⟩) L.length cl (Ak L)::Ye gr 184 [.string ⟨#[]⟩,.int .i64 0]::GP):=hH8;clear hH6 hH7 hH8;apply hK;clear hK;refine VQ [2,13,14,16,18] fun K hK=>?_;refine ⟨Au ta BT.length tc pa BP.length pc,⟨rfl,Bu (hH9.at 3 rfl)⟩,?_⟩;refine Aa Tryz.call144 ?_;refine Qs ?_;refine Yo (hput _ w25 (hpg w25 (fun r hr=>hH9.holds r (by simp [hr]))) (As (hH9.at 4 rfl))) ?_;rintro v w26 ⟨hHs,rfl⟩;have hH6:=hH9.call0 hHs;simp only [Yh] at hH6;clear hH9 hHs;refine Bo (.agg #[.string ⟨#[]⟩,.int .i64 0]) (by kernel_rfl) ?_;refine Qs ?_;have hH7:=hH6.box 184 [.string ⟨#[]⟩,.int .i64 0];generalize w26.alloc (Yp [Xw ⟨#[]⟩,.int .i64 0].toArray 184)=w27 at *;generalize w26.heap.size=gc at *;refine Ag ?_;refine Qs ?_;refine Ap hH7 0 (vs:=Az Pu) rfl rfl (by kernel_rfl) (by simp [Az]) (Ey _) fun w28 hH8=>?_;have hH9:Heap w [] w28 (Ye gc 184 (Az Pu)::Ye gt 184 (Az Pb)::Ye gn 184 (Az Nm)::Ye gh 184 (Az Head)::Ye gp 229 (Au ta BT.length tc pa BP.length pc)::Yf 3 1 (some ⟨gl,0,none⟩) L.length cl (Ak L)::Ye gr 184 [.string ⟨#[]⟩,.int .i64 0]::GP):=hH8;clear hH6 hH7 hH8;apply hK;clear hK;refine VQ [2,3] fun K hK=>?_;refine ⟨Az Head,⟨rfl,Bu (hH9.at 3 rfl)⟩,?_⟩;refine ⟨Az Nm,⟨rfl,Bu (hH9.at 2 rfl)⟩,?_⟩;refine ⟨Az Pb,⟨rfl,Bu (hH9.at 1 rfl)⟩,?_⟩;refine ⟨Az Pu,⟨rfl,Bu (hH9.at 0 rfl)⟩,?_⟩;refine C2 hH9 2 (E6 [Head,Nm,Pb,Pu]) (xs:=[.tmp 109,.tmp 110,.tmp 111,.tmp 112]) Tryz.underlying185 Nz rfl rfl rfl (by omega) (by omega) ?_;refine Qs ?_;refine ⟨by simp [E6,Az,Uf],by simp [Az,Uf],fun ga w29 hH10=>?_⟩;refine Aa Tryz.call110 ?_;refine Qs ?_;refine Yo (Qd1 [Head,Nm,Pb,Pu] ⟨ga,0,none⟩ rfl 4 w29 (As (hH10.at 0 rfl)) hfl (by simp)) ?_;rintro v w30 ⟨hHj,rfl⟩;have hH11:=hH10.call0 hHj;simp only [Yh] at hH11;clear hH10 hHj hH9;generalize [Head,Nm,Pb,Pu].flatten=R at *;refine Ag ?_;refine Qs ?_;refine Ap hH11 7 (vs:=Az R) rfl rfl (by kernel_rfl) (by simp [Az]) (Ey _) fun w31 hH12=>?_;simp only [Yd,Yj] at hH12;apply hK;clear hK;refine Ae (Kk rfl rfl rfl (Fm (hH12.at 7 rfl) (by kernel_rfl) (by kernel_rfl) rfl ?_));exact ⟨hH12.sub (by simp),hMk2⟩
theorem QAe (b:UInt8) (n:Nat) (s:LB) (h1:1<=n) (h2:n<=255) (h3:n=255∨s[0]? ≠ some b):Ch (Ya n b++s)=n:=by
 have hz:(Ya n b++s)[0]? = some b:=by
  rw [Xg (by simp;omega),Y3,if_pos (by omega)]
 have h:=Qp5 (Ya n b++s) 0 n (by simp;omega) h1 h2 ?_ ?_
 ·
  simpa using h
 ·
  intro j hj;rw [hz,Gd,Xg (by simp;omega),Y3,if_pos (by omega)]
 rcases h3 with h3 | h3
 ·
  exact .inl h3
 refine .inr ?_;rw [hz,Gd,X1 (by simp)];simpa using h3
theorem Qmz (b:UInt8) (n:Nat) (s:LB) (h1:1<=n) (h2:n<=255) (h3:n=255∨s[0]? ≠ some b) :
  (enc (Ya n b++s)).length=Fk n+(enc s).length:=by
 have hne:Ya n b++s≠[]:=by
  intro h;have:=congrArg Xp h;simp at this;omega
 rw [Q6 _ hne,QAe b n s h1 h2 h3,Yl,Pe _ _ (by simp)];have e:(Ya n b++s).drop n=s:=by simp
 rw [e,Fk]
 congr 1
 split <;> split <;> omega
theorem Qw9 (l:LB) (h:l≠[]):∃ (b:UInt8) (n:Nat) (s:LB),l=Ya n b++s/\Ch l=n/\s=l.drop n/\1<=n/\n<=255/\(n=255∨s[0]? ≠ some b):=by
 cases l with
 | nil=>exact absurd rfl h
 | cons b l =>
  have hp:=Lx (b::l) (by simp);have hle:=Pi (b::l);refine ⟨b,Ch (b::l),(b::l).drop (Ch (b::l)),?_,rfl,rfl,hp,hle.2,?_⟩
  ·
   rw [<- Qiz b l _ (Y1 _),Gg]
  by_cases h255:Ch (b::l)=255
  ·
   exact .inl h255
  refine .inr ?_;rw [Xm,Ut];exact Qt9 b l (by omega)
theorem QAz:∀ (f:Nat) (l:LB) (left:Int),l.length<=f ->
  fit l left<=l.length/\((enc (l.take (fit l left))).length:Int)<=max left 0/\(left < 0->fit l left=0)/\(fit l left=l.length∨left < ((enc (l.take (fit l left+1))).length:Int)):=by
 intro f
 induction f with
 | zero =>
  intro l left h;have:l=[]:=Y5 (by omega);subst this;simp [Qmw,Pq];omega
 | succ f ih =>
  intro l left h;by_cases hl:l=[]
  ·
   subst hl;simp [Qmw,Pq];omega
  rw [Qix l left hl];obtain ⟨b,n,s,hls,hn,hd,h1,h2,h3⟩:=Qw9 l hl;rw [hn,<- hd];have hlen:l.length=n+s.length:=by rw [hls];simp
  have inrun:∀ k,1<=k->k<=n->(enc (l.take k)).length=Fk k:=by
   intro k hk1 hk2
   have e:l.take k=Ya k b++[]:=by
    rw [hls,List.take_append_of_le_length (by simp;omega),List.take_replicate,Yk]
    congr 1;omega
   rw [e,Qmz b k [] hk1 (by omega) (.inr (by simp)),Pq];rfl
  have behind:∀ k,(enc (l.take (n+k))).length=Fk n+(enc (s.take k)).length:=by
   intro k
   have e:l.take (n+k)=Ya n b++s.take k:=by
    rw [hls,List.take_append];simp
   by_cases hk:k=0
   ·
    subst hk;rw [e,Qmz b n _ h1 h2 (.inr (by simp))]
   rw [e,Qmz b n _ h1 h2 ?_];rw [List.getElem?_take,if_pos (by omega)];exact h3
  by_cases hc:left < (Fk n:Int)
  ·
   rw [if_pos hc];generalize hk:(max 0 (min left 3)).toNat=k;have hkn:k < n:=by simp only [Fk] at hc;split at hc <;> omega
   have hk3:k<=3:=by omega
   refine ⟨by omega,?_,by omega,.inr ?_⟩
   ·
    by_cases hk0:k=0
    ·
     subst hk0;rw [Uv,Pq];simp;omega
    rw [inrun k (by omega) (by omega),Fk,if_pos hk3];omega
   rw [inrun (k+1) (by omega) (by omega)];simp only [Fk] at hc ⊢;split at hc <;> split <;> omega
  rw [if_neg hc];obtain ⟨g1,g2,g3,g4⟩:=ih s (left - Fk n) (by omega);refine ⟨by omega,?_,by omega,?_⟩
  ·
   rw [behind];omega
  rcases g4 with g4 | g4
  ·
   exact .inl (by omega)
  refine .inr ?_;rw [Gs,behind];omega
end Go.Proofs.YtfinjnahapbemaaGreatDoor
