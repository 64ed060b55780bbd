/- A program logic over the model, and what this program's functions do by it: part 7. No conditions: a library of lemmas. -/
import Derived.Test.YtncpabbjpdogjaaGreatDoorQ6
open Nat (reduceEqDiff)
set_option linter.unusedSimpArgs false
set_option linter.unusedVariables false
set_option maxRecDepth 100000
open Go.Proofs.Tryz renaming prog->Ya,underlying44->Yb,underlying29->Yn,call11->Yo,call8->Yx
open Go.Eng.CallK renaming mk->Yc
open List renaming getElem?_eq_getElem->Yd,sublist_cons_self->Ye,length_append->Yf,mem_cons->Yg,nil_sublist->Yi,not_mem_nil->Yj,eq_nil_of_length_eq_zero->Yk,pairwise_cons->Yl,set_cons_zero->Ym,nil_append->Yq,mem_of_getElem?->Yr,set_cons_succ->Ys
open Go.Eng.Res renaming row->Yh
open Nat renaming zero_add->Yp
open Go.Result renaming andThen_ok->Yt
open Go.Obj renaming cells->Yu
open Go.Eng.I64 renaming mk->Yv
open Go.Eng.Heap renaming start->Yw
namespace Go.Proofs.YtncpabbjpdogjaaGreatDoor
open Go Go.Eng
def dj (a b:Ex):Prop:=a.1+a.2<=b.1∨b.1+b.2<=a.1
def Ok1 (cap:Int) (x:Ex):Prop:=30<=x.1/\1<=x.2/\x.1+x.2<=cap
def May (cap:Int) (l:List Ex):Prop:=(∀ x∈l,Ok1 cap x)/\l.Pairwise dj
def Vx (l:List Ex):Prop:=l.Pairwise fun a b=>¬ Ns b a < 0
def Pa (cap:Int):Int->List Ex->Bool
 | _,[]=>true
 | at_,x::l=>if x.1 < at_∨x.2 < 1∨cap < x.1∨cap - x.1 < x.2 then false else Pa cap (x.1+x.2) l
theorem Qwy {a b:Ex} (h:¬ Ns b a < 0):a.1<=b.1:=by
 rw [Qmb] at h;omega
theorem QEz (cap:Int):∀ (T:List Ex) (at_:Int),Vx T->(Pa cap at_ T=true ↔ (∀ x∈T,at_<=x.1/\1<=x.2/\x.1+x.2<=cap)/\T.Pairwise dj):=by
 intro T
 induction T with
 | nil=>intro at_ _;simp [Pa]
 | cons x T ih =>
  intro at_ hs;obtain ⟨h1,h2⟩:=Yl.1 hs;rw [Yl,Pa];have ih:=ih (x.1+x.2) h2;split
  ·
   rename_i hb;simp only [Bool.false_eq_true,Yg,forall_eq_or_imp,false_iff];intro ⟨⟨h3,h4⟩,h5⟩;omega
  rename_i hb;rw [ih];simp only [Yg,forall_eq_or_imp];constructor
  ·
   intro ⟨h3,h4⟩;refine ⟨⟨by omega,fun y hy=>?_⟩,fun y hy=>.inl (h3 y hy).1,h4⟩;have:=h3 y hy;omega
  intro ⟨⟨h3,h4⟩,h5,h6⟩;refine ⟨fun y hy=>?_,h6⟩;have q1:=h4 y hy;have q2:=Qwy (h1 y hy);rcases h5 y hy with q3 | q3 <;> omega
theorem QE0 {a b:Ex} (h:dj a b):dj b a:=h.symm
theorem Qp0 {cap:Int}{l m:List Ex} (h:l.Perm m):May cap l ↔ May cap m:=by
 unfold May;rw [h.pairwise_iff (fun h=>QE0 h)];constructor
 ·
  exact fun ⟨h1,h2⟩=>⟨fun x hx=>h1 x (h.mem_iff.2 hx),h2⟩
 exact fun ⟨h1,h2⟩=>⟨fun x hx=>h1 x (h.mem_iff.1 hx),h2⟩
theorem Qzx {cap:Int}{l T:List Ex} (hp:T.Perm l) (hs:Vx T):Pa cap 30 T=true ↔ May cap l:=by
 rw [QEz cap T 30 hs,<- Qp0 hp];rfl
theorem May.mono {c d:Int} (h:c<=d) {l:List Ex} (hm:May c l):May d l:=⟨fun x hx=>by obtain ⟨h1,h2,h3⟩:=hm.1 x hx;exact ⟨h1,h2,by omega⟩,hm.2⟩
theorem Qp1 (b o j:Nat):(⟨b,o,none⟩:Addr).add j=⟨b,o+j,none⟩:=by unfold Addr.add;split <;> simp_all
theorem Qoi (l:List Ex) (a:Option Addr) (c:Nat) (w:World) (hl:RS w a l.length 2 (Dr l)) (hlen:l.length<=8796093022208) :
  Does Ya 73 #[.slice a l.length c] w fun v w'=>∃ a' c',v=.slice a' l.length c'/\Heap w [] w' [Yh 48 2 a' l.length c' (Dr l)]:=by
 refine En [.slice a l.length c] 8 Tryz.func73 ?_;refine VS [0] ?_;cases a with
 | none =>
  have h0:l.length=0:=hl.2.1 rfl;have hnil:l=[]:=Yk h0;subst hnil;refine VQ [0,4] fun K hK=>?_;rw [Qhs Yb];apply hK;clear hK;refine Ae rfl rfl (fun h=>?_) (fun h=>by simp at h);refine VS [2] ?_;exact Ad (A0 rfl rfl ⟨none,0,rfl,Vh⟩)
 | some p =>
  refine VQ [0,4] fun K hK=>?_;rw [Qhs Yb];apply hK;clear hK;refine Ae rfl rfl (fun h=>by simp at h) (fun h=>Ab ?_);refine VQ [2] fun K hK=>?_;refine Qkd (Yw w) 2 Yb S9 (z:=.agg #[.int .i64 0,.int .i64 0]) (by kernel_rfl) rfl fun g w1 hH=>?_;(try refine Qs ?_);refine Cd ?_;refine Qs ?_;refine D9 (zs:=#[.int .i64 0,.int .i64 0]) (bytes:=16) hH 0 rfl Yb (by kernel_rfl) rfl (m:=l.length) (news:=Dr l) ⟨rfl,hH.rs' hl,48,Yb⟩ (Qww l) (fun h=>by omega) fun a' cap' w2 hc' hH2=>?_;simp only [Ym,Yq,Yp] at hH2;rw [Yp];(try refine Qs ?_);apply hK;clear hK;exact Ad (A0 rfl rfl ⟨_,_,rfl,hH2⟩)
theorem Qe5 (l:List Ex) (a:Option Addr) (c:Nat) (w:World) (hl:RS w a l.length 2 (Dr l)) (hlen:l.length<=8796093022208) (hok:∀ x∈l,Qx x) (hne:l≠[]) :
  Does Ya 40 #[.slice a l.length c] w fun v w'=>∃ (T:List Ex) (a':Option Addr) (c':Nat),T.Perm l/\Vx T/\v=.slice a' T.length c'/\Heap w [] w' [Yh 48 2 a' T.length c' (Dr T)]:=by
 refine En [.slice a l.length c] 9 Tryz.func40 ?_;refine VS [0] ?_;refine VQ [3] fun K hK=>?_;refine Ac Tryz.call73 ?_;refine Qs ?_;refine Yc (Qoi l a c w hl hlen) ?_;rintro v w2 ⟨a',c',rfl,hH⟩;(try refine Qs ?_);apply hK;clear hK;refine VQ [3] fun K hK=>?_;cases a' with
 | none =>
  have hrow:=hH.at 0 rfl;obtain ⟨r1,r2,r3,r4⟩:=hrow;rcases r4 with ⟨_,r5,r6⟩ | ⟨g,_,_,h,_⟩
  ·
   exact absurd (Yk r5) hne
  cases h
 | some p =>
  obtain ⟨g,rfl⟩:∃ g,p=⟨g,0,none⟩:=by
   obtain ⟨r1,r2,r3,r4⟩:=hH.at 0 rfl;rcases r4 with ⟨h,_⟩ | ⟨g,_,_,h,_⟩
   ·
    cases h
   cases h;exact ⟨g,rfl⟩
  refine Ac Tryz.call74 ?_;refine Qs ?_;refine Yc (Qsr l (by omega) hok g c' w w2 [] [] hH) ?_;rintro v w3 ⟨T,hp,hs,hH2⟩;(try refine Qs ?_);apply hK;clear hK;refine VS [2] ?_;refine Ad (A0 rfl rfl ⟨T,some ⟨g,0,none⟩,c',hp,hs,?_,hH2⟩);rw [hp.length_eq]
def CkV (cap:Int) (l:List Ex) (n:Int):Prop:=(1<=cap/\cap<=4096/\May cap l)/\n=0∨¬ (1<=cap/\cap<=4096/\May cap l)/\n=220
theorem Qss (l:List Ex) (a:Option Addr) (c:Nat) (cap:Int) (w:World) (hl:RS w a l.length 2 (Dr l)) (hlen:l.length<=8796093022208) (hok:∀ x∈l,Qx x) (hcap:I64 cap) (hne:l≠[]) :
  Does Ya 39 #[.slice a l.length c,.int .i64 cap] w fun v w'=>Heap w [] w' []/\∃ n:Int,v=.int .i64 n/\CkV cap l n:=by
 refine En [.slice a l.length c,.int .i64 cap] 51 Tryz.func39 ?_;refine VS [0,1] ?_;refine VQ [0,1,13] fun K hK=>?_
 suffices out:∀ b:Bool,(b=true ↔ (cap < 1∨4096 < cap))->K [(0,.slice a l.length c),(1,.int .i64 cap),(13,.bool b)] w by (repeat' (first | exact out _ _ (by first | omega | (simp;done) | (simp;omega)) | exact out _ (by first | omega | (simp;done) | (simp;omega)) | refine ⟨fun _=>?_,fun _=>?_⟩ | refine Qo ?_))
 intro b hb;apply hK;clear hK;refine Vi (fun h=>?_) (fun h=>Ab ?_)
 ·
  refine VS [4] ?_;have:=hb.1 h;exact Ad (A0 rfl rfl ⟨Yw w,_,rfl,.inr ⟨by omega,rfl⟩⟩)
 have hg:¬ (cap < 1∨4096 < cap):=fun h2=>by have:=hb.2 h2;simp_all
 clear hb h;refine VS [0,1,5] ?_;refine VQ [1,5,15,16,17] fun K hK=>?_;refine Ac Tryz.call40 ?_;refine Qs ?_;refine Yc (Qe5 l a c w hl hlen hok hne) ?_;rintro v w2 ⟨T,a',c',hp,hs,rfl,hH⟩;(try refine Qs ?_);apply hK;clear hK;have hTl:=hp.length_eq;have hTok:∀ x∈T,Qx x:=fun x hx=>hok x (hp.mem_iff.1 hx);have hspec:=Qzx (cap:=cap) hp hs;refine VB ?_;refine Au [1,5,15,16,17] (fun m e w'=>∃ (i:Nat) (at_:Int),Is e [(1,.int .i64 cap),(5,.int .i64 at_),(15,.slice a' T.length c'),(16,.int .i64 T.length),(17,.int .i64 i)]/\Heap w [] w' [Yh 48 2 a' T.length c' (Dr T)]/\Pa cap 30 T=Pa cap at_ (T.drop i)/\(30<=at_/\at_<=8192)/\i<=T.length/\m=T.length - i) T.length ?_ ?_
 ·
  refine Qs ?_;exact ⟨0,30,rfl,hH,rfl,by omega,by omega,rfl⟩
 clear hH;rintro m e w3 ⟨i,at_,rfl,hH,hgo,hat,hi,rfl⟩;refine VS [1,5,15,16,17,18] ?_;(repeat refine Ay ?_);refine VD (fun h=>?_) (fun h=>?_)
 ·
  refine Ab ?_;refine VB ?_;have hi':i < T.length:=by omega
  obtain ⟨x,hx⟩:∃ x,T[i]? = some x:=⟨_,Yd hi'⟩
  have hdr:T.drop i=x::T.drop (i+1):=by
   rw [List.drop_eq_getElem_cons hi'];congr 1;rw [Yd hi'] at hx;exact Option.some.inj hx
  rw [hdr,Pa] at hgo;obtain ⟨hx1,hx2⟩:=hTok x (Yr hx);obtain ⟨g,rfl⟩:=Fz (hH.at 0 rfl) (by omega);have hrd:=Q4 (k:=2) Qig (Az (hH.at 0 rfl)) rfl hx;rw [Qp1,Yp] at hrd;refine VQ [1,5,7,15,16,17] fun K hK=>?_;refine ⟨⟨by omega,by omega⟩,Cs x,⟨rfl,hrd⟩,?_⟩;(try refine Qs ?_);refine A7 (.agg #[.int .i64 0,.int .i64 0]) (by kernel_rfl) ?_;refine Qs ?_;have hH1:=hH.box 48 [.int .i64 0,.int .i64 0];generalize w3.alloc (Yu [Value.int .i64 0,.int .i64 0].toArray 48)=w4 at *;generalize w3.heap.size=gb at *;refine Af ?_;refine Qs ?_;refine Al hH1 0 (vs:=Cs x) rfl rfl (by kernel_rfl) (by simp [Cs]) (Sr x) fun w5 hH2=>?_;have hH2:Heap w [] w5 [Res.blk gb 48 (Cs x),Yh 48 2 (some ⟨g,0,none⟩) T.length c' (Dr T)]:=hH2;clear hH1 hH;(try refine Qs ?_);apply hK;clear hK;have c1:w5.cell? ⟨gb,0,none⟩=some (.int .i64 x.1):=Aj (hH2.at 0 rfl) rfl;have c2:w5.cell? ⟨gb,1,none⟩=some (.int .i64 x.2):=Aj (hH2.at 0 rfl) rfl;refine VQ [1,7,15,16,17,44] fun K hK=>?_
  suffices out:∀ b:Bool,(b=true ↔ (x.1 < at_∨x.2 < 1∨cap < x.1∨cap - x.1 < x.2))->K [(1,.int .i64 cap),(7,.pointer (some ⟨gb,0,none⟩)),(15,.slice (some ⟨g,0,none⟩) T.length c'),(16,.int .i64 T.length),(17,.int .i64 i),(44,.bool b)] w5 by
   refine ⟨_,c1,?_⟩;(try refine Qs ?_);refine ⟨fun h1=>?_,fun h1=>?_⟩
   ·
    refine ⟨_,c2,?_⟩;(try refine Qs ?_);refine ⟨fun h2=>?_,fun h2=>?_⟩
    ·
     refine ⟨_,c1,?_⟩;(try refine Qs ?_);refine ⟨fun h3=>?_,fun h3=>?_⟩
     ·
      refine ⟨_,c2,_,c1,?_⟩;(try refine Qs ?_);refine ⟨Yv (by omega) (by omega),?_⟩;(repeat' (first | exact out _ _ (by first | omega | (simp;done) | (simp;omega)) | exact out _ (by first | omega | (simp;done) | (simp;omega)) | refine ⟨fun _=>?_,fun _=>?_⟩ | refine Qo ?_))
     (repeat' (first | exact out _ _ (by first | omega | (simp;done) | (simp;omega)) | exact out _ (by first | omega | (simp;done) | (simp;omega)) | refine ⟨fun _=>?_,fun _=>?_⟩ | refine Qo ?_))
    (repeat' (first | exact out _ _ (by first | omega | (simp;done) | (simp;omega)) | exact out _ (by first | omega | (simp;done) | (simp;omega)) | refine ⟨fun _=>?_,fun _=>?_⟩ | refine Qo ?_))
   (repeat' (first | exact out _ _ (by first | omega | (simp;done) | (simp;omega)) | exact out _ (by first | omega | (simp;done) | (simp;omega)) | refine ⟨fun _=>?_,fun _=>?_⟩ | refine Qo ?_))
  intro b hb;apply hK;clear hK;refine Vi (fun h=>?_) (fun h=>Ab ?_)
  ·
   rw [if_pos (hb.1 h)] at hgo;refine VS [4] ?_;refine Ad (A0 rfl rfl ⟨hH2.sub (Yi _),_,rfl,.inr ⟨fun hm=>?_,rfl⟩⟩);rw [hspec.2 hm.2.2] at hgo;cases hgo
  have hgx:¬ (x.1 < at_∨x.2 < 1∨cap < x.1∨cap - x.1 < x.2):=fun h2=>by have:=hb.2 h2;simp_all
  rw [if_neg hgx] at hgo;clear hb h;refine VQ [1,5,15,16,17] fun K hK=>?_;refine ⟨_,c1,_,c2,?_⟩;(try refine Qs ?_);refine ⟨Yv (by omega) (by omega),?_⟩;apply hK;clear hK;refine Ao ?_;refine VS [1,5,15,16,17] ?_;refine Ah ?_;refine Qs ?_;exact ⟨T.length - (i+1),by omega,i+1,_,rfl,hH2.sub (Ye _ _),hgo,by omega,by omega,rfl⟩
 obtain rfl:i=T.length:=by omega
 rw [List.drop_length,Pa] at hgo;refine As rfl ?_;refine VS [4] ?_;refine Ad (A0 rfl rfl ⟨hH.sub (Yi _),_,rfl,.inl ⟨⟨by omega,by omega,hspec.1 hgo⟩,rfl⟩⟩)
theorem add_add (p:Addr) (k j:Nat):(p.add k).add j=p.add (k+j):=by
 unfold Addr.add;by_cases h1:k=0 <;> by_cases h2:j=0 <;> simp_all <;> omega
theorem QAf {w:World}{p:Addr}{n:Nat}{l:List Ex} (h:RS w (some p) n 2 (Dr l)) {i:Nat}{x:Ex} (hx:l[i]? = some x):Reads w (p.add (i * 2)) (Cs x):=by
 intro j u hu;rw [add_add];exact h.2.2 p rfl _ u (Qdq (k:=2) Qig l i x hx j u hu)
def Eu (at_:Int) (out:List Ex):List Ex->Int×List Ex
 | []=>(at_,out)
 | x::l=>Eu (x.1+x.2) (if at_ < x.1 then out++[(at_,x.1 - at_)] else out) l
def Wg (cap:Int) (T:List Ex):List Ex:=(Eu 30 [] (T++[(max cap 30,0)])).2
theorem Qi6 (T U:List Ex):∀ (at_:Int) (out:List Ex),Eu at_ out (T++U)=Eu (Eu at_ out T).1 (Eu at_ out T).2 U:=by
 induction T with
 | nil=>intro at_ out;rfl
 | cons x T ih=>intro at_ out;simp only [List.cons_append,Eu];exact ih _ _
theorem Qdh (l m:List Ex):Dr (l++m)=Dr l++Dr m:=To l m
theorem Qhm (x:Ex):Dr [x]=Cs x:=Qdp x
theorem Qst {cap:Int}{T:List Ex} (h:May cap T) {x:Ex} (hx:x∈T++[(max cap 30,0)]):30<=x.1/\0<=x.2/\x.1+x.2<=max cap 30:=by
 rcases List.mem_append.1 hx with hx | hx
 ·
  obtain ⟨h1,h2,h3⟩:=h.1 x hx;omega
 simp at hx;subst hx;simp only;omega
theorem Qwz (l:List Ex) (a:Option Addr) (c:Nat) (cap:Int) (w:World) (hl:RS w a l.length 2 (Dr l)) (hlen:l.length<=1000000) (hok:∀ x∈l,Qx x) (hcap:I64 cap) (hne:l≠[]) :
  Does Ya 18 #[.slice a l.length c,.int .i64 cap] w fun v w' =>
   (¬ (1<=cap/\cap<=4096/\May cap l)/\v=.tuple #[.slice none 0 0,.int .i64 220]/\Heap w [] w' []) ∨
   ((1<=cap/\cap<=4096/\May cap l)/\∃ (T:List Ex) (a':Option Addr) (c':Nat),T.Perm l/\Vx T/\v=.tuple #[.slice a' (Wg cap T).length c',.int .i64 0]/\Heap w [] w' [Yh 48 2 a' (Wg cap T).length c' (Dr (Wg cap T))]):=by
 refine En [.slice a l.length c,.int .i64 cap] 49 Tryz.func18 ?_;refine VS [0,1] ?_;refine VQ [0,1,6] fun K hK=>?_;refine Ac Tryz.call39 ?_;refine Qs ?_;refine Yc (Qss l a c cap w hl (by omega) hok hcap hne) ?_;rintro v w2 ⟨hH,n,rfl,hck⟩;(try refine Qs ?_);apply hK;clear hK;refine VS [0,1,6,15] ?_;refine Vi (fun h=>?_) (fun h=>Ab ?_)
 ·
  simp only [decide_eq_true_eq] at h
  obtain ⟨h1,rfl⟩:¬ (1<=cap/\cap<=4096/\May cap l)/\n=220:=by
   rcases hck with ⟨_,h2⟩ | h2
   ·
    exact absurd h2 h
   exact h2
  refine VS [4,5] ?_;exact Ad (A6 rfl rfl rfl (.inl ⟨h1,rfl,hH⟩))
 simp only [decide_eq_false_iff_not,Decidable.not_not] at h
 have hmc:1<=cap/\cap<=4096/\May cap l:=by
  rcases hck with ⟨h2,_⟩ | ⟨_,h2⟩
  ·
   exact h2
  omega
 obtain ⟨hc1,hc2,hm⟩:=id hmc;clear hck h;refine VS [0,1,7] ?_;refine VS [0,1,7,8] ?_;refine VQ [7,8,23,24,25] fun K hK=>?_;refine Ac Tryz.call40 ?_;refine Qs ?_;refine Yc (Qe5 l a c w2 (hH.rs' hl) (by omega) hok hne) ?_;rintro v w3 ⟨T,a',c',hp,hs,rfl,hH2⟩;have hH3:=hH.call0 hH2;clear hH hH2;have hTl:=hp.length_eq;(try refine Qs ?_);refine Es hH3 2 (Cs (max cap 30,0)) (xs:=[.tmp 21]) Yb S9 rfl rfl rfl (by omega) (by omega) ?_;refine Qs ?_;refine ⟨rfl,by simp [Value.cells],fun g w4 hH4=>?_⟩;(try refine Qs ?_);refine Cd ?_;refine Qs ?_;refine D9 (zs:=#[.int .i64 0,.int .i64 0]) (bytes:=16) hH4 1 rfl Yb (by kernel_rfl) rfl ⟨rfl,Az (hH4.at 0 rfl),48,Yb⟩ (Sr _) (fun h=>by omega) fun a2 c2 w5 hc' hH5=>?_;simp only [Ys,Ym] at hH5;(try refine Qs ?_);apply hK;clear hK;obtain ⟨U,hU⟩:∃ U,U=T++[(max cap 30,(0:Int))]:=⟨_,rfl⟩;have hUl:U.length=T.length+1:=by rw [hU];simp
 have hmT:May cap T:=(Qp0 hp).2 hm;have hbd:∀ x∈U,30<=x.1/\0<=x.2/\x.1+x.2<=max cap 30:=fun x hx=>Qst hmT (hU ▸ hx);have hcm:max cap 30<=4096:=by omega
 have hfr:Wg cap T=(Eu 30 [] U).2:=by rw [hU];rfl
 have hH6:Heap w [] w5 [Yh 48 2 a2 U.length c2 (Dr U)]:=by
  rw [hUl,hU,Qdh,Qhm];exact hH5.sub (Ye _ _)
 rw [<- hUl];clear hH5 hH4 hH3;refine VB ?_
 refine Au [7,8,23,24,25] (fun m e w'=>∃ (i:Nat) (ao:Option Addr) (co:Nat),Is e [(7,.slice ao (Eu 30 [] (U.take i)).2.length co),(8,.int .i64 (Eu 30 [] (U.take i)).1),(23,.slice a2 U.length c2),(24,.int .i64 U.length),(25,.int .i64 i)] /\
  Heap w [] w' [Yh 48 2 ao (Eu 30 [] (U.take i)).2.length co (Dr (Eu 30 [] (U.take i)).2),Yh 48 2 a2 U.length c2 (Dr U)]/\(0<=(Eu 30 [] (U.take i)).1/\(Eu 30 [] (U.take i)).1<=4096)/\(Eu 30 [] (U.take i)).2.length<=i/\i<=U.length/\m=U.length - i) U.length ?_ ?_
 ·
  refine Qs ?_;refine ⟨0,none,0,rfl,hH6.nilRow _ _,⟨by simp [Eu],by simp [Eu]⟩,by simp [Eu],by omega,rfl⟩
 clear hH6;rintro m e w6 ⟨i,ao,co,rfl,hH,hat,hol,hi,rfl⟩;refine VS [7,8,23,24,25,26] ?_;(repeat refine Ay ?_);refine VD (fun h=>?_) (fun h=>?_)
 ·
  refine Ab ?_;refine VB ?_;have hi':i < U.length:=by omega
  obtain ⟨x,hx⟩:∃ x,U[i]? = some x:=⟨_,Yd hi'⟩;obtain ⟨b1,b2,b3⟩:=hbd x (Yr hx)
  have htk:Eu 30 [] (U.take (i+1))=(x.1+x.2,if (Eu 30 [] (U.take i)).1 < x.1 then (Eu 30 [] (U.take i)).2++[((Eu 30 [] (U.take i)).1,x.1 - (Eu 30 [] (U.take i)).1)] else (Eu 30 [] (U.take i)).2):=by
   rw [List.take_add_one,hx,Option.toList_some,Qi6];rfl
  generalize (Eu 30 [] (U.take i)).1=at_ at *;generalize (Eu 30 [] (U.take i)).2=O at *;obtain ⟨g,rfl⟩:=Fz (hH.at 1 rfl) (by omega);have hrd:=Q4 (k:=2) Qig (Az (hH.at 1 rfl)) rfl hx;rw [Qp1,Yp] at hrd;refine VQ [7,8,10,23,24,25] fun K hK=>?_;refine ⟨⟨by omega,by omega⟩,Cs x,⟨rfl,hrd⟩,?_⟩;(try refine Qs ?_);refine A7 (.agg #[.int .i64 0,.int .i64 0]) (by kernel_rfl) ?_;refine Qs ?_;have hH1:=hH.box 48 [.int .i64 0,.int .i64 0];generalize w6.alloc (Yu [Value.int .i64 0,.int .i64 0].toArray 48)=w7 at *;generalize w6.heap.size=gb at *;refine Af ?_;refine Qs ?_;refine Al hH1 0 (vs:=Cs x) rfl rfl (by kernel_rfl) (by simp [Cs]) (Sr x) fun w8 hH2=>?_;have hH2:Heap w [] w8 [Res.blk gb 48 (Cs x),Yh 48 2 ao O.length co (Dr O),Yh 48 2 (some ⟨g,0,none⟩) U.length c2 (Dr U)]:=hH2;clear hH1 hH;(try refine Qs ?_);apply hK;clear hK;have c1:w8.cell? ⟨gb,0,none⟩=some (.int .i64 x.1):=Aj (hH2.at 0 rfl) rfl;refine VQ [7,8,10,23,24,25,32] fun K hK=>?_;refine ⟨_,c1,?_⟩;(try refine Qs ?_);apply hK;clear hK;obtain ⟨O',hO'⟩:∃ O',O'=if at_ < x.1 then O++[(at_,x.1 - at_)] else O:=⟨_,rfl⟩
  rw [<- hO'] at htk
  have hOl:O'.length<=i+1:=by
   rw [hO'];split
   ·
    rw [Yf];simp;omega
   omega
  refine C8 [7,10,23,24,25] (fun e w'=>∃ (ao':Option Addr) (co':Nat),Is e [(7,.slice ao' O'.length co'),(10,.pointer (some ⟨gb,0,none⟩)),(23,.slice (some ⟨g,0,none⟩) U.length c2),(24,.int .i64 U.length),(25,.int .i64 i)] /\
   Heap w [] w' [Res.blk gb 48 (Cs x),Yh 48 2 ao' O'.length co' (Dr O'),Yh 48 2 (some ⟨g,0,none⟩) U.length c2 (Dr U)]) ?_ ?_
  ·
   refine VD (fun h=>?_) (fun h=>?_)
   ·
    rw [if_pos h] at hO';subst hO';refine VQ [7,10,23,24,25] fun K hK=>?_;refine ⟨_,c1,?_⟩;(try refine Qs ?_);refine ⟨Yv (by omega) (by omega),?_⟩;refine Es hH2 2 (Cs (at_,x.1 - at_)) (xs:=[.tmp 39]) Yb S9 rfl rfl rfl (by omega) (by omega) ?_;refine Qs ?_;refine ⟨rfl,by simp [Value.cells],fun g2 w9 hH3=>?_⟩;(try refine Qs ?_);refine Cd ?_;refine Qs ?_;refine D9 (zs:=#[.int .i64 0,.int .i64 0]) (bytes:=16) hH3 2 rfl Yb (by kernel_rfl) rfl ⟨rfl,Az (hH3.at 0 rfl),48,Yb⟩ (Sr _) (fun h=>by omega) fun a3 c3 w10 hc' hH4=>?_;simp only [Ys,Ym] at hH4;(try refine Qs ?_);apply hK;clear hK;refine Ah ?_;refine Qs ?_;refine ⟨a3,c3,by rw [Yf];rfl,?_⟩;rw [Yf,Qdh,Qhm];exact hH4.sub (Ye _ _)
   rw [if_neg h] at hO';subst hO';refine Ab (Ah ?_);refine Qs ?_;exact ⟨ao,co,rfl,hH2⟩
  clear hH2 c1;rintro e w9 ⟨ao',co',rfl,hH2⟩;have c1:w9.cell? ⟨gb,0,none⟩=some (.int .i64 x.1):=Aj (hH2.at 0 rfl) rfl;have c2':w9.cell? ⟨gb,1,none⟩=some (.int .i64 x.2):=Aj (hH2.at 0 rfl) rfl;refine VQ [7,8,23,24,25] fun K hK=>?_;refine ⟨_,c1,_,c2',?_⟩;(try refine Qs ?_);refine ⟨Yv (by omega) (by omega),?_⟩;apply hK;clear hK;refine Ao ?_;refine VS [7,8,23,24,25] ?_;refine Ah ?_;refine Qs ?_;refine ⟨U.length - (i+1),by omega,i+1,ao',co',by rw [htk];rfl,by rw [htk];exact hH2.sub (Ye _ _),by rw [htk];exact ⟨by show (0:Int)<=x.1+x.2;omega,by show x.1+x.2<=4096;omega⟩,by rw [htk];exact hOl,by omega,rfl⟩
 obtain rfl:i=U.length:=by omega
 rw [List.take_length] at *;refine As rfl ?_;refine VS [4,5] ?_;refine Ad (A6 rfl rfl rfl (.inr ⟨hmc,T,ao,co,hp,hs,by rw [hfr],?_⟩));rw [hfr];exact hH.sub (by simp)
set_option maxHeartbeats 1000000
theorem rs_pos {w:World}{a:Option Addr}{n sz:Nat}{xs:List Value} (h:RS w a n sz xs) (hn:0 < n):∃ p,a=some p:=by
 cases a with
 | none=>have:=h.2.1 rfl;omega
 | some p=>exact ⟨p,rfl⟩
theorem QE1 (a b:Ex) (xo yo:Operand) (w:World) (KV:Value->Prop):A5 Ya .neq 48 xo yo (.agg (Cs a).toArray) (.agg (Cs b).toArray) w KV=KV (.bool (! decide (a=b))):=by
 refine N2 fun w'=>?_;have hS:Ya.underlying 48=some (.struct (Ya.fieldsOf 48)):=by kernel_rfl
 have hp:Ya.stoodInHeld 48=false:=by kernel_rfl
 have hg:Ya.eqGuardType Ya.depth 48=false:=by kernel_rfl
 simp only [Sem.run_bind];rw [run_eqGuard_agg _ _ _ _ _ _ _ hg];simp only [Yt];rw [run_neq_struct,show (10000:Nat)=9999+1 from rfl,run_equalIn_agg w' 9999 48 _ _ hS hp];simp only [Program.fieldsOf,Tryz.underlying48];have u3:=Tryz.underlying3;have a3:=Tryz.isAgg3;have z3:=Tryz.sizeOf3;simp only [Cs]
 go_simp
 obtain ⟨a1,a2⟩:=a;obtain ⟨b1,b2⟩:=b;simp only [Prod.mk.injEq];by_cases h1:a1=b1
 ·
  by_cases h2:a2=b2
  ·
   subst h1 h2;simp
  have h3:¬ (a2=b2):=by omega
  simp [h1,h2,h3]
 simp [h1]
theorem Qsu (l:List Ex) (a b:Option Addr) (c c':Nat) (w:World) (hl:RS w a l.length 2 (Dr l)) (hl2:RS w b l.length 2 (Dr l)) (hlen:l.length<=1000000) :
  Does Ya 19 #[.slice a l.length c,.slice b l.length c'] w fun v w'=>Heap w [] w' []/\v=.bool true:=by
 refine En [.slice a l.length c,.slice b l.length c'] 26 Tryz.func19 ?_;refine VS [0,1] ?_;refine VS [0,1,10] ?_;refine Ae rfl rfl (fun h=>by simp at h) (fun h=>Ab ?_);clear h;refine VS [0,1,5] ?_;refine VB ?_;refine Au [0,1,5] (fun m e w'=>∃ (i:Nat),Is e [(0,.slice a l.length c),(1,.slice b l.length c'),(5,.int .i64 i)]/\Heap w [] w' []/\i<=l.length/\m=l.length - i) l.length ?_ ?_
 ·
  refine Qs ?_;exact ⟨0,rfl,Yw w,by omega,rfl⟩
 rintro m e w3 ⟨i,rfl,hH,hi,rfl⟩;refine VS [0,1,5,14] ?_;refine VD (fun h=>?_) (fun h=>?_)
 ·
  refine Ab ?_;refine VB ?_;have hi':i < l.length:=by omega
  obtain ⟨x,hx⟩:∃ x,l[i]? = some x:=⟨_,Yd hi'⟩;obtain ⟨p,rfl⟩:=rs_pos hl (by omega);obtain ⟨q,rfl⟩:=rs_pos hl2 (by omega);have hr1:=QAf (hH.rs' hl) hx;have hr2:=QAf (hH.rs' hl2) hx;refine Vq [0,1,5,25] fun K hK=>?_;refine ⟨⟨by omega,by omega⟩,Cs x,⟨rfl,hr1⟩,⟨by omega,by omega⟩,Cs x,⟨rfl,hr2⟩,?_⟩;rw [QE1];apply hK;clear hK;refine Ae rfl rfl (fun h=>by simp at h) (fun h=>Ab ?_);clear h;refine Ao ?_;refine VS [0,1,5] ?_;refine Ah ?_;refine Qs ?_;exact ⟨l.length - (i+1),by omega,i+1,rfl,hH,by omega,rfl⟩
 obtain rfl:i=l.length:=by omega
 refine As rfl ?_;refine VS [4] ?_;exact Ad (A0 rfl rfl ⟨hH,rfl⟩)
set_option maxHeartbeats 1000000
theorem Qw0 (h:P1 Fk (tS Fk)):(Dc [97] Fk (tS Fk)).length=1024:=by
 have hl:=Qzw h;have h14:=(h.pk (by decide)).len.1;have ho:Dc [97] Fk (tS Fk)=Em [] [97] 48 5++I0 (tS Fk):=rfl;rw [ho,Yf,Nb (by decide) (by decide),Rf];omega
abbrev Tl:List Ex:=[(30,2),(40,1)]
abbrev exB:List Ex:=[(32,8),(41,4)]
theorem Qzy {T:List Ex} (hp:T.Perm Tl) (hs:Vx T):Wg 45 T=exB:=by
 have hl:=hp.length_eq
 match T,hl with
 | [x,y],_ =>
  have hx:x∈Tl:=hp.subset (by simp);have hy:y∈Tl:=hp.subset (by simp);simp only [Yg,Yj,or_false] at hx hy;rcases hx with rfl | rfl <;> rcases hy with rfl | rfl
  ·
   exact absurd hp (by decide)
  ·
   decide
  ·
   have:=Yl.1 hs;exact absurd (this.1 _ (List.mem_singleton.2 rfl)) (by decide)
  exact absurd hp (by decide)
theorem QE2:May 45 Tl:=by
 refine ⟨?_,?_⟩
 ·
  intro x hx;simp only [Yg,Yj,or_false] at hx;rcases hx with rfl | rfl <;> (unfold Ok1;omega)
 simp [dj]
theorem Qtz (p d:Bs) (xo yo:Operand) (w:World) (KV:Value->Prop):A5 Ya .eql 29 xo yo (Lq p d) (Lq p d) w KV=KV (.bool true):=by
 refine N2 fun w'=>?_;have hS:Ya.underlying 29=some (.struct (Ya.fieldsOf 29)):=by kernel_rfl
 have hp:Ya.stoodInHeld 29=false:=by kernel_rfl
 have hg:Ya.eqGuardType Ya.depth 29=false:=by kernel_rfl
 simp only [Sem.run_bind];rw [run_eqGuard_agg _ _ _ _ _ _ _ hg];simp only [Yt];rw [run_eql_struct,show (10000:Nat)=9999+1 from rfl,run_equalIn_agg w' 9999 29 _ _ hS hp];simp only [Program.fieldsOf,Yn];clear hS hp hg;have u3:=Tryz.underlying9;have a3:=Tryz.isAgg9;have z3:=Tryz.sizeOf9
 go_simp
set_option maxHeartbeats 1000000
theorem Tp (w:World) (hT:Tb w):Does Ya 11 #[] w fun v w'=>Heap w [] w' []/\v=.bool true:=by
 refine En [] 56 Tryz.func11 ?_;refine Am [] fun K hK=>?_;(repeat refine Qo ?_);apply hK;clear hK;refine Am [1,2] fun K hK=>?_;refine Ac Yx ?_;refine Qi ?_;refine Yc (Ze [97] Fk w hT (by decide) (by decide)) ?_;rintro v w1 ⟨hH,rfl,hP⟩;have hP:=hP (by decide +kernel) (by decide);have hol:=Qw0 hP;have hrb:=Qkc (p:=[97]) (c:=Fk) (by decide +kernel) (by decide) hP [];rw [List.append_nil] at hrb;rw [Qog];generalize Dc [97] Fk (tS Fk)=own at *;(try refine Qi ?_);apply hK;clear hK;refine Am [1,2,3,4,5] fun K hK=>?_;refine Ac Tryz.call12 ?_;refine Qi ?_;refine Yc (Qhl own w1 (hT.heap hH) (by omega)) ?_;rintro v w4 ⟨hHx,rfl⟩;replace hH:=hH.call0 hHx;rw [Yq] at hH;rw [Qcn hrb];clear hHx;(try refine Qi ?_);refine A7 (.agg #[Aa [],Aa []]) (by kernel_rfl) ?_;refine Qi ?_;have hH2:=hH.box tE [Aa [],Aa []];generalize w4.alloc (Yu #[Aa [],Aa []] tE)=w5 at *;generalize w4.heap.size=g7 at *;(try refine Qi ?_);refine Af ?_;refine Qi ?_;refine Al hH2 0 (vs:=[Aa [97],Aa Fk]) rfl rfl (by kernel_rfl) (by first | decide | (simp;done) | (simp;omega)) (by simp [Value.oneCell']) fun w6 hH3=>?_;(try refine Qi ?_);clear hH hH2;apply hK;clear hK;refine Am [1,2,3,4,5,6,7] fun K hK=>?_;refine Es hH3 2 (Dr Tl) (xs:=[.tmp 19,.tmp 20]) Yb S9 rfl rfl rfl (by omega) (by omega) ?_;refine Qi ?_;refine ⟨rfl,by intro v hv;simp only [Yg,Yj,or_false] at hv;rcases hv with rfl | rfl <;> rfl,fun ga w8 hE2=>?_⟩;(try refine Qi ?_);refine Ac Tryz.call18 ?_;refine Qi ?_;refine Yc (Qwz Tl (some ⟨ga,0,none⟩) 2 45 w8 (Az (hE2.at 0 rfl)) (by decide) (by unfold Qx;decide) (by unfold I64;decide) (by decide)) ?_;rintro v w9 (⟨hno,_⟩ | ⟨_,T,a9,c9,hp,hs,rfl,hHf⟩)
 ·
  exact absurd ⟨by decide,by decide,QE2⟩ hno
 rw [Qzy hp hs] at hHf ⊢;replace hE2:=hE2.call0 hHf;(try refine Qi ?_);apply hK;clear hK
 have hL0:∀ (KV:Value->Prop),Bf Ya 29 (.pointer (some ⟨g7,0,none⟩)) w9 KV=KV (Lq [97] Fk):=by
  intro KV;rw [Mx 29 2 _ _ Yn QJl];exact Qol (B6 (hE2.at 2 rfl)) rfl
 have hQ:∀ (xo yo:Operand) (KV:Value->Prop),A5 Ya .eql 29 xo yo (Lq [97] Fk) (Lq [97] Fk) w9 KV=KV (.bool true):=fun xo yo KV=>Qtz _ _ _ _ _ _
 have hN:∀ (xo yo:Operand) (KV:Value->Prop),A5 Ya .eql 3 xo yo (.int .i64 own.length) (.int .i64 1024) w9 KV=KV (.bool true):=fun xo yo KV=>by
  rw [S4,decide_eq_true (by omega)]
 have hZ:∀ (xo yo:Operand) (KV:Value->Prop),A5 Ya .eql 23 xo yo (.int .i64 0) (.int .i64 0) w9 KV=KV (.bool true):=fun xo yo KV=>by
  rw [S4,decide_eq_true rfl]
 refine VR [0] rfl rfl fun K hK=>?_;simp -implicitDefEqProofs only [go_sem,↓hL0,↓hQ,↓hN,↓hZ,↓reduceIte,reduceEqDiff];refine Es hE2 2 (Dr exB) (xs:=[.tmp 47,.tmp 48]) Yb S9 rfl rfl rfl (by omega) (by omega) ?_;refine Qi ?_;refine ⟨rfl,by intro v hv;simp only [Yg,Yj,or_false] at hv;rcases hv with rfl | rfl <;> rfl,fun gb w5 hE3=>?_⟩;(try refine Qi ?_);refine Ac Tryz.call19 ?_;refine Qi ?_;refine Yc (Qsu exB a9 (some ⟨gb,0,none⟩) c9 2 w5 (Az (hE3.at 1 rfl)) (Az (hE3.at 0 rfl)) (by decide)) ?_;rintro v w6 ⟨hHx,rfl⟩;have hE4:=hE3.call0 hHx;(try refine Qi ?_);apply hK;clear hK;exact Ad (A0 rfl rfl ⟨hE4.sub (Yi _),by simp⟩)
set_option maxHeartbeats 1000000
theorem spaceBack_law (p c y:Bs) (w:World) (hT:Tb w) (hp:p.length<=140737488355328) (hc:c.length<=140737488355328) (hy:y.length<=140737488355328) :
  Does Ya 5 #[Aa p,Aa c,Aa y] w fun v w'=>Heap w [] w' []/\v=.bool true:=by
 refine En [Aa p,Aa c,Aa y] 69 Tryz.func5 ?_;refine Am [0,1,2] fun K hK=>?_;(repeat refine Qo ?_);apply hK;clear hK;refine Am [0,1,2,19] fun K hK=>?_
 suffices out:∀ b:Bool,(b=true ↔ 1000 < p.length∨2000 < y.length)->K [(0,Aa p),(1,Aa c),(2,Aa y),(19,.bool b)] w by
  refine And.intro (fun h1=>out _ ?_) (fun h1=>out _ ?_)
  ·
   rw [decide_eq_true_eq];omega
  simp only [true_iff];omega
 intro b hb;apply hK;clear hK;refine Ae rfl rfl (fun h=>?_) (fun h=>?_)
 ·
  refine Am [6] fun K hK=>?_;refine Ac Yo ?_;refine Qi ?_;refine Yc (Tp w hT) ?_;rintro v w1 ⟨hH,rfl⟩;(try refine Qi ?_);apply hK;clear hK;exact Ad (A0 rfl rfl ⟨hH,rfl⟩)
 refine Ab ?_
 have hab:p.length<=1000/\y.length<=2000:=by
  have:¬ (1000 < p.length∨2000 < y.length):=fun hh=>by rw [hb.2 hh] at h;cases h
  omega
 clear h hb hp hy;obtain ⟨hp,hy⟩:=hab;refine Am [0,1,2,7,8] fun K hK=>?_;refine Ac Yx ?_;refine Qi ?_;refine Yc (Ze p c w hT (by omega) hc) ?_;rintro v w1 ⟨hH,rfl,hP⟩
 obtain ⟨s,er,hmk,hs⟩:∃ (s:Bs) (er:Int),makeV p c=.tuple #[Aa s,.int .i64 er]/\(er≠0/\s=[]∨er=0/\s.length<=20000/\s.length % 512=0/\512 < s.length/\readS (s++y)=some (p,c,s.length)):=by
  rw [makeV];by_cases hg:Ei p=some p
  ·
   rw [if_pos hg];by_cases hc:8192 < c.length
   ·
    rw [if_pos hc];exact ⟨[],3,rfl,.inl ⟨by decide,rfl⟩⟩
   rw [if_neg hc];have hP:=hP hg (by omega);obtain ⟨h1,h2,h3,-⟩:=Qma (c:=c) (T:=tS c) hg;have h4:=hP.small (by omega);have h5:=(hP.pk (by omega)).len;exact ⟨_,0,rfl,.inr ⟨rfl,by omega,h1,h3 (fun h=>by rw [h] at h5;simp at h5),Qkc hg (by omega) hP y⟩⟩
  rw [if_neg hg];exact ⟨[],140,rfl,.inl ⟨by decide,rfl⟩⟩
 rw [hmk];clear hmk hP;(try refine Qi ?_);apply hK;clear hK;refine Am [0,1,2,7,28] fun K hK=>?_;(repeat refine Qo ?_);apply hK;clear hK;refine Ae rfl rfl (fun h=>?_) (fun h=>Ab ?_)
 ·
  obtain ⟨-,rfl⟩:=hs.resolve_right (fun hh=>by simp [hh.1] at h);refine Am [6] fun K hK=>?_;refine And.intro (fun hs=>?_) (fun hs=>absurd trivial hs);refine Ac Yo ?_;refine Qi ?_;refine Yc (Tp w1 (hT.heap hH)) ?_;rintro v w5 ⟨hHx,rfl⟩;(try refine Qi ?_);apply hK;clear hK;exact Ad (A0 rfl rfl ⟨hH.call0 hHx,rfl⟩)
 obtain ⟨rfl,h1,h2,h3,hrb⟩:=hs.resolve_left (fun hh=>by simp [hh.1] at h);clear h hs hc;refine Am [0,1,7,9,10,11] fun K hK=>?_;refine ⟨by omega,?_⟩;refine Ac Tryz.call12 ?_;refine Qi ?_;refine Yc (Qhl (s++y) w1 (hT.heap hH) (by rw [Yf];omega)) ?_;rintro v w4 ⟨hHx,rfl⟩;replace hH:=hH.call0 hHx;rw [Yq] at hH;rw [Qcn hrb];clear hHx;(try refine Qi ?_);refine A7 (.agg #[Aa [],Aa []]) (by kernel_rfl) ?_;refine Qi ?_;have hH2:=hH.box tE [Aa [],Aa []];generalize w4.alloc (Yu #[Aa [],Aa []] tE)=w5 at *;generalize w4.heap.size=g7 at *;(try refine Qi ?_);refine Af ?_;refine Qi ?_;refine Al hH2 0 (vs:=[Aa p,Aa c]) rfl rfl (by kernel_rfl) (by first | decide | (simp;done) | (simp;omega)) (by simp [Value.oneCell']) fun w6 hH3=>?_;(try refine Qi ?_);clear hH hH2;apply hK;clear hK
 have hL0:∀ (KV:Value->Prop),Bf Ya 29 (.pointer (some ⟨g7,0,none⟩)) w6 KV=KV (Lq p c):=by
  intro KV;rw [Mx 29 2 _ _ Yn QJl];exact Qol (B6 (hH3.at 0 rfl)) rfl
 have hQ:∀ (xo yo:Operand) (KV:Value->Prop),A5 Ya .eql 29 xo yo (Lq p c) (Lq p c) w6 KV=KV (.bool true):=fun xo yo KV=>Qtz _ _ _ _ _ _
 have hN:∀ (xo yo:Operand) (KV:Value->Prop),A5 Ya .eql 3 xo yo (.int .i64 s.length) (.int .i64 s.length) w6 KV=KV (.bool true):=fun xo yo KV=>by
  rw [S4,decide_eq_true rfl]
 have hZ:∀ (xo yo:Operand) (KV:Value->Prop),A5 Ya .eql 23 xo yo (.int .i64 0) (.int .i64 0) w6 KV=KV (.bool true):=fun xo yo KV=>by
  rw [S4,decide_eq_true rfl]
 have hM:∀ (xo yo:Operand) (a:Int) (KV:Value->Prop),a=(s.length:Int) % 512->A5 Ya .eql 3 xo yo (.int .i64 a) (.int .i64 0) w6 KV=KV (.bool true):=fun xo yo a KV ha=>by
  rw [S4,decide_eq_true (by omega)]
 have hG:∀ (xo yo:Operand) (KV:Value->Prop),A5 Ya .gtr 3 xo yo (.int .i64 s.length) (.int .i64 512) w6 KV=KV (.bool true):=fun xo yo KV=>by
  rw [QE6,decide_eq_true (by omega)]
 refine VR [6] rfl rfl fun K hK=>?_;simp -implicitDefEqProofs only [go_sem,↓hL0,↓hQ,↓hN,↓hZ,↓hM,↓hG,↓reduceIte,reduceEqDiff];refine ⟨by omega,by decide,?_⟩;refine Ac Yo ?_;refine Qi ?_;refine Yc (Tp w6 (hT.heap hH3)) ?_;rintro v w7 ⟨hHx,rfl⟩;(try refine Qi ?_);apply hK;clear hK;exact Ad (A0 rfl rfl ⟨(hH3.sub (Yi _)).call0 hHx,rfl⟩)
theorem spaceSmall_law (p c:Bs) (w:World) (hT:Tb w) (hp:p.length<=1048576) (hc:c.length<=1048576) :
  Does Ya 6 #[Aa p,Aa c] w fun v w'=>Heap w [] w' []/\v=.bool true:=by
 refine En [Aa p,Aa c] 30 Tryz.func6 ?_;refine Am [0,1] fun K hK=>?_;(repeat refine Qo ?_);apply hK;clear hK;refine Am [1,5,6] fun K hK=>?_;refine Ac Yx ?_;refine Qi ?_;refine Yc (Ze p c w hT (by omega) (by omega)) ?_;rintro v w1 ⟨hH,rfl,hP⟩
 obtain ⟨s,er,hmk,hs⟩:∃ (s:Bs) (er:Int),makeV p c=.tuple #[Aa s,.int .i64 er]/\(er≠0∨er=0/\s.length<=c.length+c.length / 2+2647):=by
  rw [makeV];by_cases hg:Ei p=some p
  ·
   rw [if_pos hg];by_cases hc:8192 < c.length
   ·
    rw [if_pos hc];exact ⟨[],3,rfl,.inl (by decide)⟩
   rw [if_neg hc];have h2:=(Qma (c:=c) (T:=tS c) hg).2.1;have h4:=(hP hg (by omega)).small (by omega);exact ⟨_,0,rfl,.inr ⟨rfl,by omega⟩⟩
  rw [if_neg hg];exact ⟨[],140,rfl,.inl (by decide)⟩
 rw [hmk];clear hmk hP;(try refine Qi ?_);apply hK;clear hK;rcases hs with he | ⟨rfl,hl⟩
 ·
  have hE:∀ (xo yo:Operand) (KV:Value->Prop),A5 Ya .neq 23 xo yo (.int .i64 er) (.int .i64 0) w1 KV=KV (.bool true):=fun xo yo KV=>by
   rw [QAg,decide_eq_true he]
  refine VR [4] rfl rfl fun K hK=>?_;simp -implicitDefEqProofs only [go_sem,↓hE,↓reduceIte,reduceEqDiff];refine Ac Yo ?_;refine Qi ?_;refine Yc (Tp w1 (hT.heap hH)) ?_;rintro v w5 ⟨hHx,rfl⟩;(try refine Qi ?_);(apply hK;clear hK);exact Ad (A0 rfl rfl ⟨hH.call0 hHx,rfl⟩)
 have hE:∀ (xo yo:Operand) (KV:Value->Prop),A5 Ya .neq 23 xo yo (.int .i64 0) (.int .i64 0) w1 KV=KV (.bool false):=fun xo yo KV=>QAg _ _ _ _ _ _
 have hG:∀ (xo yo:Operand) (a:Int) (KV:Value->Prop),a=(c.length:Int)+c.length / 2+2647->A5 Ya .leq 3 xo yo (.int .i64 s.length) (.int .i64 a) w1 KV=KV (.bool true):=fun xo yo a KV ha=>by
  rw [QE5,decide_eq_true (by omega)]
 refine VR [4] rfl rfl fun K hK=>?_;simp -implicitDefEqProofs only [go_sem,↓hE,↓hG,↓reduceIte,reduceEqDiff];refine ⟨by omega,by decide,Yv (by omega) (by omega),Yv (by omega) (by omega),Yv (by omega) (by omega),?_⟩;refine Ac Yo ?_;refine Qi ?_;refine Yc (Tp w1 (hT.heap hH)) ?_;rintro v w5 ⟨hHx,rfl⟩;(try refine Qi ?_);(apply hK;clear hK);exact Ad (A0 rfl rfl ⟨hH.call0 hHx,rfl⟩)
end Go.Proofs.YtncpabbjpdogjaaGreatDoor
