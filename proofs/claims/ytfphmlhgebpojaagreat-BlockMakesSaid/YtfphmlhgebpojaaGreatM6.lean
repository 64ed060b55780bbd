/- A program logic over the model, and what this program's functions do by it: part 6. No conditions: a library of lemmas. -/
import Derived.Test.YtfphmlhgebpojaaGreatM5
open Nat (reduceEqDiff)
set_option linter.unusedSimpArgs false
set_option linter.unusedVariables false
set_option maxRecDepth 100000
namespace Go.Proofs.YtfphmlhgebpojaaGreat
open Go Go.Eng
theorem Qpm (n most:Int) (hn:1<=n):∀ (f z:Nat),z<=f->∀ (wt:Nat) (out r:List Int),1<=wt->(out.length:Int)<=most ->
  zdec n most out wt (dig z++r)=if (out.length:Int)+wt * z<=most then zdec n most (out++List.replicate (wt * z) 0) (wt * 2 ^ (dig z).length) r else ([],3):=by
 intro f
 induction f with
 | zero =>
  intro z hz wt out r h1 h2;have:z=0:=by omega
  subst this;simp [Qij,h2]
 | succ f ih =>
  intro z hz wt out r h1 h2;cases z with
  | zero=>simp [Qij,h2]
  | succ k =>
   have hk:((k % 2:Nat):Int)=0∨((k % 2:Nat):Int)=1:=by omega
   have e1:(((k % 2:Nat):Int)+1) * wt=((wt * (k % 2+1):Nat):Int):=by push_cast;rw [Int.mul_comm]
   have e2:wt * (k+1)=wt * (k % 2+1)+2 * wt * (k / 2):=by
    have:k+1=k % 2+1+2 * (k / 2):=by omega
    rw [this,Nat.mul_add];have:wt * (2 * (k / 2))=2 * wt * (k / 2):=by rw [Nat.mul_left_comm,Nat.mul_assoc]
    omega
   rw [Qlq,List.cons_append,zdec,if_neg (by omega),if_pos (by omega),e1,Int.toNat_natCast]
   have e2':(wt:Int) * ((k+1:Nat):Int)=((wt * (k % 2+1):Nat):Int)+((2 * wt * (k / 2):Nat):Int):=by
    rw [<- Int.natCast_mul,e2];simp
   have e3:((2 * wt:Nat):Int) * ((k / 2:Nat):Int)=((2 * wt * (k / 2):Nat):Int):=by rw [<- Int.natCast_mul]
   rw [e2',e2];clear e1 e2 e2';generalize wt * (k % 2+1)=p;have ihk:=ih (k / 2) (by omega) (2 * wt) (out++List.replicate p 0) r (by omega);rw [e3] at ihk;generalize 2 * wt * (k / 2)=q at *;by_cases h3:most - (out.length:Int) < (p:Int)
   ·
    rw [if_pos h3,if_neg (by omega)]
   rw [if_neg h3,ihk (by simp;omega)];rw [List.length_append,List.length_replicate];by_cases h4:(out.length:Int)+((p:Int)+(q:Int))<=most
   ·
    rw [if_pos (by omega),if_pos h4,List.append_assoc,List.replicate_append_replicate,List.length_cons,Nat.pow_succ]
    congr 1
    rw [Nat.mul_comm 2 wt,Nat.mul_assoc,Nat.mul_comm 2]
   rw [if_neg (by omega),if_neg h4]
theorem Qtk (n:Int) (hn:1<=n) (hn2:n<=256):∀ (l:List Int) (o:List Int) (z:Nat) (s:List Int),zgo n o z l=(s,0) ->
  ∃ t,s=o++t/\∀ (out:List Int) (most:Int),(out.length:Int)<=most->zdec n most out 1 t=if (out.length:Int)+z+l.length<=most then (out++List.replicate z 0++l,0) else ([],3)
 | [],o,z,s,h=>by
  rw [zgo] at h;obtain ⟨rfl,_⟩:=Prod.mk.inj h;refine ⟨dig z++[n+1],by simp,fun out most ho=>?_⟩;rw [Qpm n most hn z z (Nat.le_refl _) 1 out _ (Nat.le_refl _) ho];have e:((1:Nat):Int) * (z:Int)=z:=by simp
  rw [e,Nat.one_mul];simp only [List.length_nil,Int.natCast_zero,Int.add_zero,List.append_nil];split
  ·
   rw [zdec,if_neg (by omega),if_neg (by omega),if_pos rfl,zend]
  rfl
 | v::r,o,z,s,h=>by
  rw [zgo] at h;split at h
  ·
   rename_i hv;subst hv;obtain ⟨t,ht,hd⟩:=Qtk n hn hn2 r o (z+1) s h;refine ⟨t,ht,fun out most ho=>?_⟩;rw [hd out most ho]
   have e:List.replicate (z+1) (0:Int)++r=List.replicate z 0++0::r:=by
    rw [List.replicate_succ',List.append_assoc];rfl
   rw [List.append_assoc,e,<- List.append_assoc];simp only [List.length_cons];by_cases hc:(out.length:Int)+((z+1:Nat):Int)+r.length<=most
   ·
    rw [if_pos hc,if_pos (by omega)]
   rw [if_neg hc,if_neg (by omega)]
  rename_i hv;split at h
  ·
   cases h
  rename_i hr;obtain ⟨t,ht,hd⟩:=Qtk n hn hn2 r _ 0 s h;refine ⟨dig z++(v+1)::t,by rw [ht];simp,fun out most ho=>?_⟩;rw [Qpm n most hn z z (Nat.le_refl _) 1 out _ (Nat.le_refl _) ho];have e:((1:Nat):Int) * (z:Int)=z:=by simp
  rw [e,Nat.one_mul];simp only [List.length_cons];by_cases hc:(out.length:Int)+z<=most
  ·
   rw [if_pos hc,zdec,if_neg (by omega),if_neg (by omega),if_neg (by omega),show v+1 - 1=v by omega];simp only [List.length_append,List.length_replicate];by_cases hc2:most<=((out.length+z:Nat):Int)
   ·
    rw [if_pos hc2,if_neg (by omega)]
   rw [if_neg hc2,hd _ most (by simp;omega)];simp only [List.length_append,List.length_replicate,List.length_cons,List.length_nil,List.replicate_zero,List.append_nil];by_cases hc3:(out.length:Int)+z+((r.length+1:Nat):Int)<=most
   ·
    rw [if_pos (by omega),if_pos hc3,List.append_assoc];rfl
   rw [if_neg (by omega),if_neg hc3]
  rw [if_neg hc,if_neg (by omega)]
theorem QT6 (n:Int) (l s:List Int) (h:zenc n l=(s,0)) (most:Int) (h0:0<=most) (h1:most<=262144) :
  Qeo n most s=if (l.length:Int)<=most then (l,0) else ([],3):=by
 rw [zenc] at h;split at h
 ·
  cases h
 rename_i hc;obtain ⟨t,ht,hd⟩:=Qtk n (by omega) (by omega) l [] 0 s h;have:=hd [] most (by simpa using h0);rw [List.nil_append] at ht;subst ht;rw [Qeo,if_neg (by omega),this];simp
theorem Qlx {n v:Nat}{bits:List Bool}{at_:Nat}{r:List Bool} (h0:0 < n) (hv:v < 2 ^ n) (hb:bits.drop at_=Qaq n v++r):at_+n<=bits.length/\numB ((bits.drop at_).take n)=v/\bits.drop (at_+n)=r:=by
 have hl:=congrArg List.length hb;rw [List.length_drop,List.length_append,Qal] at hl;refine ⟨by omega,?_,?_⟩
 ·
  rw [hb,List.take_left' (Qal n v),Qdl,Nat.mod_eq_of_lt hv]
 rw [<- List.drop_drop,hb,List.drop_left' (Qal n v)]
theorem Qtl {n:Int} (hn:1<=n):∀ (l out:List Int) (z:Nat),(∀ v∈l,0<=v/\v < n)->(∀ x∈out,0<=x/\x<=n)->∃ t,zgo n out z l=(t++[n+1],0)/\∀ x∈t,0<=x/\x<=n
 | [],out,z,_,ho=>by
  have h1:=Qpj z z (Nat.le_refl _);refine ⟨out++dig z,rfl,fun x hx=>?_⟩;rcases List.mem_append.1 hx with hx | hx
  ·
   exact ho x hx
  have:=h1 x hx;omega
 | v::r,out,z,hl,ho=>by
  have hv:=hl v (by simp);rw [zgo];split
  ·
   exact Qtl hn r out (z+1) (fun v hv=>hl v (by simp [hv])) ho
  rw [if_neg (by omega)];have h1:=Qpj z z (Nat.le_refl _);refine Qtl hn r _ 0 (fun v hv=>hl v (by simp [hv])) fun x hx=>?_;simp only [List.mem_append,List.mem_singleton] at hx;rcases hx with (hx | hx) | rfl
  ·
   exact ho x hx
  ·
   have:=h1 x hx;omega
  omega
theorem QQi {l:List Int} (h:∀ v∈l,0<=v):ni (toN l)=l:=by
 unfold ni toN;rw [List.map_map]
 conv=>rhs;rw [<- List.map_id l]
 apply List.map_congr_left;intro v hv;have:=h v hv;simp only [Function.comp,id];omega
theorem QGq {t:List UInt8}{σ:List Nat} (ho:Ordered t σ) (ht:t≠[]):∃ body,Qci t σ=body++[(Qa3 t).length+1]/\∀ x∈body,x < (Qa3 t).length+2/\x≠(Qa3 t).length+1:=by
 obtain ⟨u1,u2⟩:=Qhk ht;obtain ⟨p1,p2,p3⟩:=Qjj ho;obtain ⟨b,hb,hx⟩:=Qtl (n:=((Qa3 t).length:Nat)) (by omega) (Qdx t σ) [] 0 p3 (by simp);have he:zenc ((Qa3 t).length:Nat) (Qdx t σ)=(b++[((Qa3 t).length:Int)+1],0):=by rw [zenc,if_neg (by omega)];exact hb
 refine ⟨toN b,?_,fun x hx2=>?_⟩
 ·
  unfold Qci;rw [he];simp only [toN,List.map_append,List.map_cons,List.map_nil]
  congr 2
 obtain ⟨y,hy,rfl⟩:=List.mem_map.1 hx2;have:=hx y hy;omega
theorem QGr {s:List UInt8}{σ:List Nat} (ho:Ordered (enc s) σ) (hs:s≠[]) (hl:s.length<=262144) (hel:(enc s).length<=262144) (hne:enc s≠[]) {most:Int} (h0:1<=most) (h1:most<=262144) :
  unpS (Qa3 (enc s)) (Qci (enc s) σ) (σ.idxOf 0) most=if ((enc s).length:Int)<=most then (s,0) else ([],3):=by
 obtain ⟨u1,u2⟩:=Qhk hne;obtain ⟨p1,p2,p3⟩:=Qjj ho;obtain ⟨z1,z2,z3,z4,z5,z6⟩:=Qpk ho hne;have hz:∀ v∈(zenc ((Qa3 (enc s)).length:Nat) (Qdx (enc s) σ)).1,0<=v:=fun v hv=>(QGm (n:=((Qa3 (enc s)).length:Nat)) (by omega) (by omega) p3).2.1 v hv |>.1
 have hni:ni (Qci (enc s) σ)=(zenc ((Qa3 (enc s)).length:Nat) (Qdx (enc s) σ)).1:=QQi hz;have hzb:=QT6 ((Qa3 (enc s)).length:Nat) (Qdx (enc s) σ) (zenc ((Qa3 (enc s)).length:Nat) (Qdx (enc s) σ)).1 (by rw [<- z1]) most (by omega) h1;have hfb:=Qra _ _ _ p1;have hmu:=Qkt hne;have hcl:=Qj0 ho
 have hrow:σ.idxOf 0 < (enc s).length:=by
  have hm:0∈σ:=by
   refine ho.perm.mem_iff.2 ?_
   have:0 < (enc s).length:=by cases h:enc s with
    | nil=>exact absurd h hne
    | cons=>simp
   simpa using this
  have:=List.idxOf_lt_length_of_mem hm;have h2:=ho.perm.length_eq;simp at h2;omega
 have hbk:bckS (Qbn (enc s) σ) (σ.idxOf 0:Nat)=(enc s,0):=by
  unfold bckS;rw [if_neg (by omega),if_neg (by omega),Int.toNat_natCast,hcl,QH3 ho hne]
 have hsy:Qdw (Qa3 (enc s)) (Qdx (enc s) σ)=(Qbn (enc s) σ,0):=by
  unfold Qdw;rw [if_pos hmu,hfb]
 unfold unpS;rw [hni,hzb,p2];by_cases hm:((enc s).length:Int)<=most
 ·
  simp only [if_pos hm];rw [if_neg (by simp),hsy,if_neg (by simp),hbk,if_neg (by simp),QCx s hl]
 simp only [if_neg hm];rw [if_pos (by simp)]
theorem QGs {s:List UInt8} (hs:s≠[]):enc s≠[]:=by
 intro e
 obtain ⟨c,r,rfl⟩:∃ c r,s=c::r:=by cases s with
  | nil=>exact absurd rfl hs
  | cons c r=>exact ⟨c,r,rfl⟩
 have h1:=Qik (c::r) (by simp);have h2:=Qf7 (c::r) (by simp);have h3:=(Qjy (c::r)).1;have h4:=Qdb (Qfm (c::r)) (c::r) h3;rw [e] at h1;have h5:=congrArg List.length h1;simp only [List.length_append,List.length_nil] at h5;split at h4 <;> omega
theorem Qzh (s:List UInt8):Qdd s < 4294967296:=by
 have:=Qgn s (r:=4294967295) (by omega);unfold Qdd
 first | omega | exact Nat.xor_lt_two_pow (n:=32) this (by omega)
def QDe (s:List UInt8) (σ:List Nat):List Bool:=Qen (Qa3 (enc s))++(Qbq (Qcn (enc s) σ).1 (Qcn (enc s) σ).2++Qem (Qcn (enc s) σ).1 (Qcn (enc s) σ).2 (Qci (enc s) σ) 0)
theorem Qpn (s:List UInt8) (σ:List Nat):Qcj s σ=Qqg s (σ.idxOf 0)++QDe s σ:=by
 simp [Qcj,QDe]
theorem QJa {s:List UInt8}{σ:List Nat} (ho:Ordered (enc s) σ) (hs:s≠[]) (hl:s.length<=262144) (hel:(enc s).length<=262144) {bits:List Bool}{at_ sum:Nat}{r:List Bool} (hsum:sum < 4294967296) (hb:bits.drop at_=Qaq 48 54156738319193++(Qaq 32 sum++(Qaq 1 0++(Qaq 24 (σ.idxOf 0)++(QDe s σ++r))))) {most:Int} (h0:1<=most) (h1:most<=262144) :
  Qqb bits at_ most=if ((enc s).length:Int)<=most then (if Qdd s≠sum then .error 121 else .ok (s,sum,at_+(Qcj s σ).length)) else .error 3:=by
 have hne:=QGs hs;obtain ⟨u1,u2⟩:=Qhk hne;have hmay:=Qnw ho hne hel;obtain ⟨bm,bn⟩:=Qsv hmay;have hbg:=Qkr (Qci (enc s) σ) ((Qa3 (enc s)).length+2)
 have hrow:σ.idxOf 0 < 2 ^ 24:=by
  have h1:=List.idxOf_le_length (l:=σ) (a:=0);have h2:=ho.perm.length_eq;simp at h2;omega
 obtain ⟨a1,a2,a3⟩:=Qlx (by omega) (by decide) hb;obtain ⟨b1,b2,b3⟩:=Qlx (by omega) hsum a3;obtain ⟨c1,c2,c3⟩:=Qlx (by omega) (by decide) b3;obtain ⟨d1,d2,d3⟩:=Qlx (by omega) hrow c3
 have hhd:hdS bits at_=(sum,σ.idxOf 0,at_+105,0):=by
  unfold hdS;rw [if_neg (by omega),if_neg (by rw [a2];simp),if_neg (by omega),if_neg (by omega)];rw [show at_+48+32=at_+80 by omega] at c2;rw [show at_+48+32+1=at_+81 by omega] at d2;rw [c2,if_neg (by simp),if_neg (by omega),b2,d2]
 have e1:bits.drop (at_+105)=Qen (Qa3 (enc s))++((Qbq (Qcn (enc s) σ).1 (Qcn (enc s) σ).2++Qem (Qcn (enc s) σ).1 (Qcn (enc s) σ).2 (Qci (enc s) σ) 0)++r):=by
  rw [show at_+105=at_+48+32+1+24 by omega,d3,QDe];simp
 have hst:=QId hne e1;have e2:=Qbs e1;rw [List.append_assoc] at e2
 have hpt:Qes bits (at_+105+(Qen (Qa3 (enc s))).length) ((Qa3 (enc s)).length+2)=.ok (((Qcn (enc s) σ).1,(Qcn (enc s) σ).2),at_+105+(Qen (Qa3 (enc s))).length+(Qbq (Qcn (enc s) σ).1 (Qcn (enc s) σ).2).length):=by
  have:=QEt bm e2;rw [bn] at this;exact this
 have e3:=Qbs e2;obtain ⟨body,hbody,hbx⟩:=QGq ho hne;obtain ⟨n1,n2,n3,n4,n5,n6⟩:=bm
 have hgl:(Qci (enc s) σ).length<=50 * (Qcn (enc s) σ).2.length:=by
  show _<=50 * (Qd7 _ _).2.length
  rw [hbg];unfold Qa4;omega
 have hpc:Qem (Qcn (enc s) σ).1 (Qcn (enc s) σ).2 (Qci (enc s) σ) 0=putC (Qcn (enc s) σ).1 (Qcn (enc s) σ).2 (Qci (enc s) σ) :=
  Qq6 (Qcn (enc s) σ).1 (Qcn (enc s) σ).2 (Qcn (enc s) σ).2 0 (Qci (enc s) σ) rfl hgl
 have hT:∀ t,t < (Qcn (enc s) σ).1.length->((Qcn (enc s) σ).1.getD t []).length=(Qa3 (enc s)).length+2/\okL ((Qcn (enc s) σ).1.getD t []):=fun t ht=>by
  have hm:(Qcn (enc s) σ).1.getD t []∈(Qcn (enc s) σ).1:=by
   rw [List.getD_eq_getElem?_getD,List.getElem?_eq_getElem ht];exact List.getElem_mem ht
  obtain ⟨q1,q2,q3⟩:=n5 _ hm;exact ⟨by rw [q1];exact bn,q3⟩
 have hgp:Qhn (Qcn (enc s) σ).1 bits ((Qa3 (enc s)).length+1) (Qcn (enc s) σ).2 (at_+105+(Qen (Qa3 (enc s))).length+(Qbq (Qcn (enc s) σ).1 (Qcn (enc s) σ).2).length)=.ok (Qci (enc s) σ,at_+105+(Qen (Qa3 (enc s))).length+(Qbq (Qcn (enc s) σ).1 (Qcn (enc s) σ).2).length+(putC (Qcn (enc s) σ).1 (Qcn (enc s) σ).2 (Qci (enc s) σ)).length):=by
  rw [hpc,hbody] at e3;rw [hbody];exact QEw (by omega) hT _ body n6 hbx (by rw [<- hbody];exact hgl) e3
 have hun:=QGr ho hs hl hel hne h0 h1
 have hlen:(Qcj s σ).length=105+(Qen (Qa3 (enc s))).length+(Qbq (Qcn (enc s) σ).1 (Qcn (enc s) σ).2).length+(putC (Qcn (enc s) σ).1 (Qcn (enc s) σ).2 (Qci (enc s) σ)).length:=by
  rw [Qpn,QDe,<- hpc];simp [Qlw];omega
 have hbn:((Qcn (enc s) σ).1.getD 0 []).length=(Qa3 (enc s)).length+2:=bn;unfold Qqb;rw [hhd];simp only [ne_eq,not_true_eq_false,if_false];rw [hst];simp only;rw [hpt];simp only;rw [hbn,show (Qa3 (enc s)).length+2 - 1=(Qa3 (enc s)).length+1 by omega,hgp];simp only;rw [hun,hlen];by_cases hm:((enc s).length:Int)<=most
 ·
  simp only [if_pos hm,not_true_eq_false,if_false];split
  ·
   rfl
  rw [show at_+105+(Qen (Qa3 (enc s))).length+(Qbq (Qcn (enc s) σ).1 (Qcn (enc s) σ).2).length+(putC (Qcn (enc s) σ).1 (Qcn (enc s) σ).2 (Qci (enc s) σ)).length=at_+(105+(Qen (Qa3 (enc s))).length+(Qbq (Qcn (enc s) σ).1 (Qcn (enc s) σ).2).length+(putC (Qcn (enc s) σ).1 (Qcn (enc s) σ).2 (Qci (enc s) σ)).length) by omega]
 simp only [if_neg hm];rfl
theorem QDf {s:List UInt8}{σ:List Nat} (ho:Ordered (enc s) σ) (hs:s≠[]) (hl:s.length<=262144) (hel:(enc s).length<=262144) {bits:List Bool}{at_:Nat}{r:List Bool} (hb:bits.drop at_=Qcj s σ++r) {most:Int} (h0:1<=most) (h1:most<=262144) :
  Qqb bits at_ most=if ((enc s).length:Int)<=most then .ok (s,Qdd s,at_+(Qcj s σ).length) else .error 3:=by
 rw [QJa (r:=r) ho hs hl hel (Qzh s) (by rw [hb,Qpn,Qqg];simp [List.append_assoc]) h0 h1];simp
theorem QGt (s:List UInt8) (σ:List Nat):138<=(Qcj s σ).length:=by
 rw [Qpn];simp only [List.length_append,Qlw,QDe,Qen,Qbq,List.length_map,List.length_range,Qal];omega
theorem QGu (a:List UInt8) (l:List Bool):(Qam (a++Qbo l)).drop (8 * a.length)=l++List.replicate (8 * ((l.length+7) / 8) - l.length) false:=by
 rw [Qge,List.drop_left' (Qbd a),Qc6]
theorem QNh {s:List UInt8} (hs:s≠[]) (hl:s.length<=200000) {v:Value} (h:MakeOk s v):(enc s).length<=262144/\∃ σ,Ordered (enc s) σ/\v=.tuple #[Qir (Qcj s σ),.int .i64 0]:=by
 have hel:=Qgo s;rw [MakeOk,if_neg hs,if_neg (by omega)] at h;exact ⟨by omega,h⟩
theorem Qzi {s a:List UInt8}{σ:List Nat} (ho:Ordered (enc s) σ) (hs:s≠[]) (hl:s.length<=262144) (hel:(enc s).length<=262144) {most:Int} (h0:1<=most) (h1:most<=262144) :
  Qtd (a++Qbo (Qcj s σ)) (8 * a.length:Nat) most=if ((enc s).length:Int)<=most then .ok (s,Qdd s,8 * a.length+(Qcj s σ).length) else .error 3:=by
 rw [Qtd,if_neg (by simp;omega),Int.toNat_natCast];exact QDf ho hs hl hel (QGu a _) h0 h1
theorem awake12_does (w:World):Does Tryz.prog 15 #[] w fun v w'=>Heap w [] w' []/\v=.bool true:=by
 have hel:=Qgo [97];simp only [List.length_cons,List.length_nil] at hel
 have he1:(enc [97]).length=1:=by
  have:=List.length_pos_iff.2 (QGs (s:=[97]) (by simp));omega
 have hcrc:Qdd [97]=429103979:=by kernel_rfl
 refine En [] 58 Tryz.func15 ?_;refine VS [] ?_;refine VQ [1,2] fun K hK=>?_;refine MemK_call Tryz.call16 ?_;refine Qs ?_;refine CallK.mk (blockMake_does [97] (by simp) w) ?_;rintro v w2 ⟨hH,hv⟩;obtain ⟨-,σ,ho,rfl⟩:=QNh (by simp) (by simp) hv;have hpos:=QGt [97] σ;have htk:=Qzi (a:=[]) (most:=1) ho (by simp) (by simp) (by omega) (by omega) (by omega);rw [if_pos (by omega),hcrc] at htk;simp only [List.nil_append,List.length_nil,Nat.mul_zero,Nat.zero_add,Int.natCast_zero] at htk;have hbl:=QGn ho (by simp) (by simp);simp only [List.length_cons,List.length_nil] at hbl;generalize hB:Qcj [97] σ=B at *;refine MemK_alloc (.agg #[.string ⟨#[]⟩,.int .i64 0]) (by kernel_rfl) ?_;refine Qs ?_;have hH2:=hH.box 24 [.string ⟨#[]⟩,.int .i64 0];generalize w2.alloc (Obj.cells [Value.string ⟨#[]⟩,.int .i64 0].toArray 24)=w3 at *;generalize w2.heap.size=gb at *;refine MemK_store ?_;refine Qs ?_;refine StoreK_blk hH2 0 (vs:=Qbe B) rfl rfl (by kernel_rfl) (by simp [Qbe]) (Qda _) fun w4 hH3=>?_;have hH4:Heap w [] w4 [Res.blk gb 24 (Qbe B)]:=hH3;clear hH hH2 hH3;apply hK;clear hK;refine VQ [1,2,3,4,5,6] fun K hK=>?_;refine ⟨_,Qae (hH4.at 0 rfl) (show (Qbe B)[0]? = some _ from rfl),?_⟩;refine MemK_call Tryz.call18 ?_;refine Qs ?_;refine CallK.mk (Qj7 (Qbo B) 0 1 w4 (I64.mk (by omega) (by omega)) (I64.mk (by omega) (by omega)) (by rw [Qcc];omega)) ?_;rintro v w5 ⟨hHt,rfl⟩;have hH5:=hH4.call0 hHt;simp only [List.nil_append] at hH5;clear hH4 hHt;rw [htk];unfold QQe;refine Qs ?_;apply hK;clear hK;refine VQ [1,2,3,4,5,6,10] fun K hK=>?_;refine MemK_call Tryz.call18 ?_;refine Qs ?_;refine CallK.mk (Qj7 [0,0,0,0,0,0] 0 1 w5 (I64.mk (by omega) (by omega)) (I64.mk (by omega) (by omega)) (by simp)) ?_;rintro v w6 ⟨hHt,rfl⟩;have hH6:=hH5.call0 hHt;simp only [List.nil_append] at hH6;clear hH5 hHt
 have hz:Qtd [0,0,0,0,0,0] 0 1=.error 120:=by
  have h1:hdS (Qam [0,0,0,0,0,0]) 0=(0,0,0,120):=by decide
  rw [Qtd,if_neg (by simp),Qqb,show Int.toNat 0=0 from rfl,h1];rfl
 rw [hz];apply hK;clear hK;refine VQ [0] fun K hK=>?_;(repeat (first | (refine ⟨fun _=>?_,fun h=>by first | omega | (simp at h;done) | (simp at h;omega)⟩;(try refine Qs ?_)) | (refine ⟨_,Qae (hH6.at 0 rfl) (show ((Qbe B))[0]? = some _ from rfl),?_⟩;(try refine Qs ?_)) | (refine ⟨_,Qae (hH6.at 0 rfl) (show ((Qbe B))[1]? = some _ from rfl),?_⟩;(try refine Qs ?_)) ));apply hK;clear hK;exact VC_ret (VX_ret1 rfl rfl ⟨hH6.sub (by simp),by simp⟩)
theorem Qws {P:Program}{T:TypeId} (hu:P.underlying T=some .string) (d:Nat) (l m:List UInt8) (w:World):(Op.equalIn (d+1) T (Str l) (Str m)).run P w=.ok (decide (l=m)) w:=by
 unfold Op.equalIn;simp only [Sem.run_bind,run_underlying hu,Result.andThen_ok,Sem.run_pure]
 congr 1
 have hb:∀ a b:ByteArray,(a == b)=(a.data == b.data):=fun a b=>rfl;rw [hb,Bool.eq_iff_iff];simp
theorem Qwt {P:Program}{T:TypeId}{k:IntKind} (hu:P.underlying T=some (.int k)) (d:Nat) (n m:Int) (w:World):(Op.equalIn (d+1) T (.int .i64 n) (.int .i64 m)).run P w=.ok (decide (n=m)) w:=by
 unfold Op.equalIn;simp only [Sem.run_bind,run_underlying hu,Result.andThen_ok,Sem.run_pure,if_true]
 congr 1
theorem Qwu {P:Program}{T:TypeId}{cs:Array Value}{off:Nat}{v:Value} (hd:Qgv (P.underlying T)=false) (hs:(P.underlying T).isSome=true) (hv:cs[off]? = some v) (w:World):(part T cs off).run P w=.ok v w:=by
 cases hu:P.underlying T with
 | none=>simp [hu] at hs
 | some d =>
  have:(isAgg T).run P w=.ok false w:=by
   cases d <;> first
    | (exfalso;simp [Qgv,hu] at hd;done)
    | simp [isAgg,run_underlying hu]
  simp [part,this,hv]
theorem Qtm (d:Nat) (l m:List UInt8) (n k:Int) (w:World):(Op.equalIn (d+2) 24 (.agg #[Str l,.int .i64 n]) (.agg #[Str m,.int .i64 k])).run Tryz.prog w=.ok (decide (l=m/\n=k)) w:=by
 have hu:=Tryz.underlying24;have hst:Tryz.prog.stoodInHeld 24=false:=by kernel_rfl
 have us:Tryz.prog.underlying 9=some .string:=by kernel_rfl
 have ui:Tryz.prog.underlying 3=some (.int .i64):=by kernel_rfl
 have p1:=fun (cs:Array Value) v h w=>Qwu (P:=Tryz.prog) (T:=9) (cs:=cs) (off:=0) (v:=v) (by rw [us];rfl) (by rw [us];rfl) h w;have p2:=fun (cs:Array Value) v h w=>Qwu (P:=Tryz.prog) (T:=3) (cs:=cs) (off:=1) (v:=v) (by rw [ui];rfl) (by rw [ui];rfl) h w;unfold Op.equalIn;simp only [Sem.run_bind,run_underlying hu,Result.andThen_ok];have hpr:(program).run Tryz.prog w=.ok Tryz.prog w:=rfl;simp only [hpr,Result.andThen_ok,hst];simp [p1,p2,Qws us,Qwt ui,Sem.run_bind,Sem.run_pure];by_cases h1:l=m <;> by_cases h2:n=k <;> simp [h1,h2]
theorem Qzj (l m:List UInt8) (n k:Int) (w:World):(Op.equal 24 (.agg #[Str l,.int .i64 n]) (.agg #[Str m,.int .i64 k])).run Tryz.prog w=.ok (decide (l=m/\n=k)) w:=Qtm 9998 l m n k w
theorem be_bits {w:World}{KV:Value->Prop} (l m:List UInt8) (n k:Int) (xo yo:Operand):Qby Tryz.prog .eql 24 xo yo (.agg #[Str l,.int .i64 n]) (.agg #[Str m,.int .i64 k]) w KV=KV (.bool (decide (l=m/\n=k))):=by
 refine Qms fun w'=>?_
 have hg:(eqGuard .eql 24 xo yo (.agg #[Str l,.int .i64 n]) (.agg #[Str m,.int .i64 k])).run Tryz.prog w'=.ok () w':=by
  have h1:Tryz.prog.eqGuardType Tryz.prog.depth 24=false:=by kernel_rfl
  have hpr:(program).run Tryz.prog w'=.ok Tryz.prog w':=rfl;unfold eqGuard;simp [Sem.run_bind,hpr,h1]
 simp only [Sem.run_bind];rw [hg];simp only [Result.andThen_ok,binOp,Sem.run_bind,Qzj,Sem.run_pure]
set_option maxHeartbeats 8000000
theorem dmake12_does (s:List UInt8) (hs:s.length<=100000000) (w:World):Does Tryz.prog 17 #[Str s] w fun v w'=>Heap w [] w' []/\MakeOk s v:=by
 refine En [Str s] 20 Tryz.func17 ?_;refine VQ [0,2] fun K hK=>?_;refine MemK_alloc (.agg #[.string ⟨#[]⟩,.int .i64 0]) (by kernel_rfl) ?_;refine Qs ?_;have hH:=(Heap.start w).box 24 [.string ⟨#[]⟩,.int .i64 0];generalize w.alloc (Obj.cells [Value.string ⟨#[]⟩,.int .i64 0].toArray 24)=w1 at *;generalize w.heap.size=gr at *;apply hK;clear hK;refine VQ [2,4,5] fun K hK=>?_;refine MemK_call Tryz.call43 ?_;refine Qs ?_;refine CallK.mk (Qzg s hs w1) ?_;rintro v w2 hP;unfold Qzf at hP;have hMk:∀ v,(if s=[] then v=.tuple #[Qrv,.int .i64 2] else if 262144 < (enc s).length then v=.tuple #[Qrv,.int .i64 3] else ∃ σ,Ordered (enc s) σ/\v=.tuple #[Qir (Qcj s σ),.int .i64 0])->MakeOk s v:=fun v h=>h
 suffices bad:∀ e:Int,e≠0->I64 e->Heap w1 [] w2 []->v=.tuple #[.slice none 0 0,.int .i64 e]->MakeOk s (.tuple #[Qrv,.int .i64 e])->_ by
  by_cases h1:s=[]
  ·
   rw [if_pos h1] at hP;exact bad 2 (by decide) (I64.mk (by omega) (by omega)) hP.1 hP.2 (hMk _ (by rw [if_pos h1]))
  rw [if_neg h1] at hP;by_cases h2:262144 < (enc s).length
  ·
   rw [if_pos h2] at hP;exact bad 3 (by decide) (I64.mk (by omega) (by omega)) hP.1 hP.2 (hMk _ (by rw [if_neg h1,if_pos h2]))
  rw [if_neg h2] at hP;clear bad;obtain ⟨σ,a,c,ho,hHp,rfl,hBl⟩:=hP;have hMk2:MakeOk s (.tuple #[Qir (Qcj s σ),.int .i64 0]):=hMk _ (by rw [if_neg h1,if_neg h2];exact ⟨σ,ho,rfl⟩);clear hMk ho;have hH2:=hH.call0 hHp;simp only [List.singleton_append] at hH2;clear hH hHp;generalize Qcj s σ=B at *;(try refine Qs ?_);apply hK;clear hK;refine VS [2,4,5,12] ?_;refine Qaf rfl rfl (fun h=>by simp at h) (fun h=>VC_skip ?_);clear h;refine VQ [2,3] fun K hK=>?_;refine MemK_call Tryz.call44 ?_;refine Qs ?_;refine CallK.mk (Qrq B (by omega) a c w2 (Qao (hH2.at 0 rfl))) ?_;rintro v w7 ⟨hHt,rfl⟩;have hH3:=hH2.call0 hHt;simp only [List.nil_append] at hH3;clear hH2 hHt;(try refine Qs ?_);refine MemK_store ?_;refine Qs ?_;refine StoreK_blk hH3 1 (vs:=Qbe B) rfl rfl (by kernel_rfl) (by simp [Qbe]) (Qda _) fun w11 hH4=>?_;simp only [List.set_cons_zero,List.set_cons_succ] at hH4;(try refine Qs ?_);apply hK;clear hK;refine VC_ret (Qcw rfl rfl rfl (Qbh (hH4.at 1 rfl) (by kernel_rfl) (by kernel_rfl) rfl ?_));exact ⟨hH4.sub (by simp),hMk2⟩
 rintro e he hi hHp rfl hM;have hH2:=hH.call0 hHp;simp only [List.nil_append] at hH2;clear hH hHp hMk hP;(try refine Qs ?_);apply hK;clear hK;refine VS [2,4,5,12] ?_;refine Qaf rfl rfl (fun h=>?_) (fun h=>by simp at h;exact absurd h he);refine VQ [2,3] fun K hK=>?_;refine MemK_store ?_;refine Qs ?_;refine StoreK_blk hH2 0 (vs:=[.string ⟨#[]⟩,.int .i64 0]) rfl rfl (by kernel_rfl) (by simp) (by simp [Value.oneCell']) fun w4 hH3=>?_;simp only [List.set_cons_zero,List.set_cons_succ] at hH3;(try refine Qs ?_);apply hK;clear hK;refine VC_ret (Qcw rfl rfl rfl (Qbh (hH3.at 0 rfl) (by kernel_rfl) (by kernel_rfl) rfl ?_));exact ⟨hH3.sub (by simp),hM⟩
set_option maxHeartbeats 4000000
theorem MakeOk.one {s:List UInt8}{v u:Value} (h:MakeOk s v) (k:MakeOk s u):v=u:=by
 unfold MakeOk at h k;split at h
 ·
  rename_i e;rw [if_pos e] at k;rw [h,k]
 rename_i e;rw [if_neg e] at k;split at h
 ·
  rename_i e2;rw [if_pos e2] at k;rw [h,k]
 rename_i e2;rw [if_neg e2] at k;obtain ⟨σ,o,rfl⟩:=h;obtain ⟨τ,o2,rfl⟩:=k;rw [o.unique o2]
theorem MakeOk.form {s:List UInt8}{v:Value} (h:MakeOk s v):∃ (x:List UInt8) (n e:Int),v=.tuple #[.agg [Str x,.int .i64 n].toArray,.int .i64 e]:=by
 unfold MakeOk at h;split at h
 ·
  exact ⟨[],0,2,h⟩
 split at h
 ·
  exact ⟨[],0,3,h⟩
 obtain ⟨σ,o,rfl⟩:=h;exact ⟨_,_,0,rfl⟩
theorem blockMakes_law (s:List UInt8) (w:World) :
  Does Tryz.prog 3 #[Str s] w fun v w'=>Heap w [] w' []/\v=.bool true:=by
 refine En [Str s] 32 Tryz.func3 ?_;refine VS [0] ?_;refine VS [0,9] ?_;refine Vi (fun h=>?_) (fun h=>VC_skip ?_)
 ·
  refine VQ [2] fun K hK=>?_;refine MemK_call Tryz.call15 ?_;refine Qs ?_;refine CallK.mk (awake12_does w) ?_;rintro v w2 ⟨hH,rfl⟩;(try refine Qs ?_);apply hK;clear hK;exact VC_ret (VX_ret1 rfl rfl ⟨hH,rfl⟩)
 simp only [decide_eq_false_iff_not] at h;refine VQ [0,3,4] fun K hK=>?_;refine MemK_call Tryz.call16 ?_;refine Qs ?_;refine CallK.mk (blockMake_does s (by omega) w) ?_;rintro v w2 ⟨hH,hM⟩;obtain ⟨x,n,e,rfl⟩:=hM.form;(try refine Qs ?_);refine MemK_alloc (.agg #[.string ⟨#[]⟩,.int .i64 0]) (by kernel_rfl) ?_;refine Qs ?_;have hH2:=hH.box 24 [.string ⟨#[]⟩,.int .i64 0];generalize w2.alloc (Obj.cells [Value.string ⟨#[]⟩,.int .i64 0].toArray 24)=w3 at *;generalize w2.heap.size=ga at *;refine MemK_store ?_;refine Qs ?_;refine StoreK_blk hH2 0 (vs:=[Str x,.int .i64 n]) rfl rfl (by kernel_rfl) (by simp) (by simp [Value.oneCell',Str]) fun w4 hH3=>?_;have hH3:Heap w [] w4 [Res.blk ga 24 [Str x,.int .i64 n]]:=hH3;clear hH hH2;(try refine Qs ?_);apply hK;clear hK;refine VQ [3,4,5,6] fun K hK=>?_;refine MemK_call Tryz.call17 ?_;refine Qs ?_;refine CallK.mk (dmake12_does s (by omega) w4) ?_;rintro v w5 ⟨hHd,hD⟩;have hv:=hD.one hM;subst hv;have hH4:=hH3.call0 hHd;simp only [List.nil_append] at hH4;clear hH3 hHd;(try refine Qs ?_);refine MemK_alloc (.agg #[.string ⟨#[]⟩,.int .i64 0]) (by kernel_rfl) ?_;refine Qs ?_;have hH5:=hH4.box 24 [.string ⟨#[]⟩,.int .i64 0];generalize w5.alloc (Obj.cells [Value.string ⟨#[]⟩,.int .i64 0].toArray 24)=w6 at *;generalize w5.heap.size=gb at *;refine MemK_store ?_;refine Qs ?_;refine StoreK_blk hH5 0 (vs:=[Str x,.int .i64 n]) rfl rfl (by kernel_rfl) (by simp) (by simp [Value.oneCell',Str]) fun w7 hH6=>?_;have hH6:Heap w [] w7 [Res.blk gb 24 [Str x,.int .i64 n],Res.blk ga 24 [Str x,.int .i64 n]]:=hH6;clear hH4 hH5;(try refine Qs ?_);apply hK;clear hK;refine VQ [2] fun K hK=>?_;refine ⟨_,⟨rfl,blk_reads (hH6.at 1 rfl)⟩,_,⟨rfl,blk_reads (hH6.at 0 rfl)⟩,?_⟩;rw [be_bits,show decide (x=x/\n=n)=true by simp];(try refine Qs ?_);(repeat refine ⟨fun _=>?_,fun h=>absurd trivial h⟩);refine MemK_call Tryz.call15 ?_;refine Qs ?_;refine CallK.mk (awake12_does w7) ?_;rintro v w8 ⟨hHa,rfl⟩;have hH7:=hH6.call0 hHa;(try refine Qs ?_);apply hK;clear hK;exact VC_ret (VX_ret1 rfl rfl ⟨hH7.sub (by simp),rfl⟩)
end Go.Proofs.YtfphmlhgebpojaaGreat
