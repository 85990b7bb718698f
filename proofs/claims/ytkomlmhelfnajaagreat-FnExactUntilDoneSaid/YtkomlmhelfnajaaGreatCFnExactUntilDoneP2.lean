/- Plain laws of the functions. -/
import Derived.Test.YtkomlmhelfnajaaGreatCFnExactUntilDoneP1
set_option linter.unusedVariables false
set_option linter.unusedSimpArgs false
open Bool renaming and_eq_true->sk,and_false->zVY,and_self->zWj,and_true->zXq,eq_iff_iff->zXX,false_and->zZV,false_eq_true->zQw,not_false->zYJ,not_true->r0,true_and->zQg
open Int renaming eq_ofNat_of_zero_le->zQQ,pow_succ->zXw,toNat->sY,toNat_natCast->rg
open List renaming all_cons->zYj,all_eq_true->zZQ,append_assoc->zQH,drop_eq_getElem_cons->zWh,drop_zero->zZG,eq_nil_of_length_eq_zero->zQW,foldl_cons->zYG,getElem?_append_right->zQY,getElem?_cons_zero->zWH,getElem?_eq_getElem->sX,getElem?_map->zQk,getElem?_of_mem->zYK,getElem?_set->zXg,head?->zYY,head?_drop->zXW,length->zYZ,length_append->zQh,length_cons->zQq,length_drop->zZx,length_filter_le->zZj,length_map->zXQ,length_nil->zXj,length_singleton->zYx,length_take->zQz,map_append->zXh,map_cons->zWk,mem_append->zWg,mem_cons->zYk,mem_map->zXx,mem_of_getElem?->zQX,mem_of_mem_drop->zYv,mem_of_mem_take->zXK,mem_singleton->zWW,nil_append->zQy,replicate->zQV,singleton_append->zYX,tail->zYq,tail_drop->zXV
open Nat renaming le_refl->zWX,le_trans->zWV,lt_of_lt_of_le->zWK,pow_le_pow_right->zXJ,zero_add->zWJ
open Option renaming bind_some->wk
open List renaming getElem?_eq_some_iff->aab
open List renaming all_eq_true->aaf
namespace Go.Tm.Pu
open Go.Tm
theorem qaF{u:Nat}(hu:1099511627776<=u){l:List Kid}(hl:l.length<=1048576)(id w d:Int):Hp u l id w d=some (qu l id w d):=by
 unfold Hp Ad Bg qu;simp only [AL u (show l.length<=1048577 by omega),bK,jP,GO hu (show l.length<=1048577 by omega),wk]
 cases h1:aw id 0 6 with
 | false=>rfl
 | true=>cases h2:bD w with
  | false=>rfl
  | true=>cases h3:bD d with
   | false=>rfl
   | true =>
    simp only [r0,cond_false,zWj,↓reduceIte];have hd:sC .i64 0 d=d:=by
     have:=cd h3;obtain ⟨n,rfl⟩:∃ n:Nat,d=n:=⟨d.toNat,by omega⟩;have:=KW (a:=0) (b:=n) aD aD
     simpa using this
    rcases qd l id with ⟨h4,_⟩ | ⟨j,x,h4,h5,_⟩
    ·have e:ce l (-1)=none:=by simp [ce]
     have hx:cA u l id=some (eg (λ(x:Kid)=>decide (x.gj > id)) l 0):=by
      unfold cA;rw [m0 u l id () u aD aD,nK (λ(x:Kid)=>decide (x.gj > id)) rfl (λx i k _=>rfl)]
     have hp:=RS l id;have key:∀ q:Nat,q<=l.length->Ac u w d id l (q:Int)=some (l.take q++[⟨id,w,d,0,0⟩]++l.drop q):=by
      intro q hq;unfold Ac fO Ab;have c:(decide (0<=(q:Int)) && decide ((q:Int)<=l.length) && decide (([(Kid.mk id 0 0 0 0)]).length=1) && decide ((l.length+([(Kid.mk id 0 0 0 0)]).length)*40<=140737488355328))=true:=by simp; omega
      rw [c];simp only [cond_true,wk,rg,bu];have g:(List.take q l++[Kid.mk id 0 0 0 0]++List.drop q l)[q]?=some (Kid.mk id 0 0 0 0):=by
       rw [zQH,zQY il];simp [hq]
      rw [g];simp only [wk,hd];have s:∀ a b:Kid,(List.take q l++[a]++List.drop q l).set q b=List.take q l++[b]++List.drop q l:=by
       intro a b;rw [zQH,List.set_append_right _ _ il];simp [hq]
      rw [s,s,s]
     rw [h4,e,hx];simp only [show decide ((-1:Int) < 0)=true from rfl,cond_true,wk];unfold AM at hp ⊢
     by_cases hn:eg (λ(x:Kid)=>decide (x.gj > id)) l 0 < 0
     ·simp only [hn,decide_true,cond_true,↓reduceIte];exact key _ aD
     ·simp only [hn,↓reduceIte] at hp;simp only [hn,decide_false,cond_false,↓reduceIte];rw [<- key _ hp]
      congr 1
      omega
    ·have e:decide ((j:Int) < 0)=false:=by simp
     unfold Ab;simp only [h4,e,cond_false,bu,h5,wk,List.set_set]
theorem XP(l:List Kid)(id w d:Int):(qu l id w d).length<=l.length+1:=by
 unfold qu
 split
 ·split
  ·simp
  ·have:=RS l id;simp; omega
 ·omega
theorem ZN{α:Type}{fin:Unit->Option Bool}{body:Nat->Unit->(Unit->Option Bool)->Option Bool}(f:α->Nat->Bool){xs:List α}{b:Bool}(hf:fin ()=some b)(hb:∀ x i k,xs[i]?=some x->body i () k=bif f x i then k () else some false) :
  ∀ (l:List α) (i:Nat),l=xs.drop i->qn fin body l.length i ()=some (hU f l i && b):=by
 intro l
 induction l with
 | nil=>intro i _; simp [qn,hU,hf]
 | cons x l ih =>
  intro i h;have hx:xs[i]?=some x:=by
   have:=congrArg zYY h
   simpa [zXW] using this.symm
  have hl:l=xs.drop (i+1):=by
   have:=congrArg zYq h
   simpa [zXV] using this
  simp only [zQq,qn,hU];rw [hb x i _ hx,ih (i+1) hl]
  cases f x i <;> simp
def td(n:Nat):Int:=if n<=40 then ((2 ^ n - 1:Nat):Int) else 0
theorem HV(u:Nat){m:ae}:sW u m=some (td m.aI.length):=by
 unfold sW td
 by_cases h:m.aI.length<=40
 ·rw [UE u h]; simp [h]
 ·have h1:aw (m.aI.length:Int) 0 40=false:=by
   unfold aw; simp; omega
  unfold vk;rw [bK,h1];simp [h]
theorem HW(u:Nat){m:ae}:sM u m=some (td m.aI.length):=by
 unfold sM td
 by_cases h:m.aI.length<=40
 ·rw [Uf u h]; simp [h]
 ·have h1:aw (m.aI.length:Int) 0 40=false:=by
   unfold aw; simp; omega
  unfold uT;rw [b5,h1];simp [h]
theorem qdh(n:Nat):bD (td n)=true:=by
 unfold td bD aw
 split
 ·rename_i h;have h2:(2:Nat) ^ n<=2 ^ 40:=zXJ aD h;simp; omega
 ·rfl
def vN(a b:Int):Int:=if bD a && bD b then DV .i64 a b else 0
theorem UG(u:Nat)(a b:Int):zP u a b=some (vN a b):=by
 unfold zP xD vN;simp only [jP,wk]
 cases bD a <;> cases bD b <;> rfl
theorem Jl(u:Nat)(a b:Int):uU u a b=some (vN a b):=by
 unfold uU xh vN;simp only [iX,wk]
 cases bD a <;> cases bD b <;> rfl
def BB(m:ae)(x:aY):Int:=vN (td m.aI.length) x.aT
theorem Dk(u:Nat)(m:ae)(x:aY):rM u m x=some (BB m x):=by
 unfold rM BB;simp only [HV,UG,wk]
theorem Jm(u:Nat)(m:ae)(x:aY):uV u m x=some (BB m x):=by
 unfold uV BB;simp only [HW,Jl,wk]
def M.at_(m:ae)(i:Int):Nat:=(cT m.aG m.aV i).1.toNat
def vO(m:ae)(i:Int):Nat:=(cT m.aG m.aV i).2.toNat
def AN(m:ae)(x:aY)(i:Int):List Int:=M.win x.bj (M.at_ m i) (vO m i)
theorem XQ{m:ae}{b:List Int}(hb:(b.length:Int)=m.aV)(hl:b.length<=1048576)(i:Int) :
  de (dW (cT m.aG m.aV i).1 (aS .i64 (cT m.aG m.aV i).1 (cT m.aG m.aV i).2) b.length)=some () /\
  (b.take (sY (aS .i64 (cT m.aG m.aV i).1 (cT m.aG m.aV i).2))).drop (sY (cT m.aG m.aV i).1)=M.win b (M.at_ m i) (vO m i) /\
  M.at_ m i+vO m i<=b.length/\vO m i<=6:=by
 obtain ⟨h1,h2,h3,h4⟩:=AE (size:=m.aG) (n:=m.aV) (i:=i) aD;unfold M.at_ vO;generalize cT m.aG m.aV i=s at *;obtain ⟨a,c⟩:=s;dsimp only at *;obtain ⟨a,rfl⟩:∃ n:Nat,a=n:=⟨a.toNat,by omega⟩;obtain ⟨c,rfl⟩:∃ n:Nat,c=n:=⟨c.toNat,by omega⟩;simp only [rg] at *;rw [j7 aD,eJ aD aD];exact ⟨rfl,rfl,by omega,by omega⟩
def E9(m:ae)(x:aY)(s:bQ)(i:Nat):Bool :=
 if d6 x.aT i then decide (fd (AN m x i)=s) else (AN m x i).all λc=>c == 0
def eZ(m:ae)(x:aY):Bool :=
 dh m && bD x.aT && (vN x.aT (td m.aI.length) == 0) && ((x.bj.length:Int) == m.aV) && hU (E9 m x) m.aI 0
theorem XR{u:Nat}(hu:1099511627776<=u){b:List Int}(hl:b.length<=1048576):ry u b=some (b.all λc=>c == 0):=by
 unfold ry;rw [Ql u b () u aD aD,nh (λ(c:Int) _=>c == 0) (xs:=b) (b:=true) rfl 0 (λx i k _ hx=>?_) b 0 (zWX _) rfl,zXq]
 ·congr 1
  have:∀ (l:List Int) (i:Nat),hU (λ(c:Int) _=>c == 0) l i=l.all λc=>c == 0:=by
   intro l
   induction l with
   | nil=>intro i; rfl
   | cons x l ih=>intro i; simp [hU,ih]
  exact this b 0
 ·unfold G3;rw [Iw]
  cases x == 0 <;> rfl
theorem qb4{u:Nat}(hu:1099511627776<=u){b:List Int}(hl:b.length<=1048576):bF u b=some (b.any λc=>c != 0):=by
 unfold bF dy;rw [oY u b () u aD aD,nK (λ(c:Int)=>c != 0) rfl (λx i k _=>rfl)];simp only [wk,uG]
theorem qg3(b:List Int):(b.any λc=>c != 0)=!(b.all λc=>c == 0):=by
 rw [List.not_all_eq_any_not]; rfl
structure M.BldWf (x:aY):Prop where
 b:aK x.bj
 l:x.bj.length<=1048576
theorem HX{b:List Int}(h:aK b)(hl:b.length<=1048576)(i n:Nat):aK (M.win b i n)/\(M.win b i n).length<=1048576:=by
 refine ⟨qc h i n,?_⟩;have:(M.win b i n).length<=b.length:=by unfold M.win; simp; omega
 omega
theorem xT{u:Nat}(hu:1099511627776<=u){m:ae}(hm:m.aI.length<=1048576){x:aY}(hx:M.BldWf x):pN u m x=some (eZ m x):=by
 unfold pN pe eZ;simp only [jO hu m (show m.aI.length<=1073741824 by omega),iX,HW,Jl,wk]
 cases dh m with
 | false=>rfl
 | true=>cases bD x.aT with
  | false=>rfl
  | true =>
   rw [Iw,Iw]
   cases vN x.aT (td m.aI.length) == 0 with
   | false=>rfl
   | true =>
    by_cases hb:(x.bj.length:Int)=m.aV
    ·have e:((x.bj.length:Int) == m.aV)=true:=by simpa using hb
     simp only [e,r0,cond_false,zWj,zQg];have hl:=hx.l;rw [Nw u m x () u aD aD,rg,ZN (E9 m x) (xs:=m.aI) (b:=true) rfl (λs i k hs=>?_) m.aI 0 rfl,zXq];obtain ⟨c1,c2,c3,c4⟩:=XQ hb hl i;obtain ⟨b1,b2⟩:=HX hx.b hl (M.at_ m i) (vO m i);unfold FD eM E9 AN;simp only [lY,qt,bu,hs,wk,c1,c2,qr hu b1 (show _<=1073741824 by omega),XR hu b2,Gb]
     cases d6 x.aT i with
     | true=>simp only [cond_true,↓reduceIte,r0,cond_false]; cases decide (fd (M.win x.bj (M.at_ m i) (vO m i))=s) <;> rfl
     | false=>simp only [cond_false,zYJ,cond_true,zQw,↓reduceIte]; cases (M.win x.bj (M.at_ m i) (vO m i)).all λc=>c == 0 <;> rfl
    ·have e:((x.bj.length:Int) == m.aV)=false:=by simpa using hb
     simp [e]
theorem qdi{a b:Int}(ha:bD a=true)(hb:bD b=true):vN a b=DV .i64 a b:=by simp [vN,ha,hb]
theorem L2(u:Nat){m:ae}{x:aY}(hx:M.BldWf x)(hb:(x.bj.length:Int)=m.aV)(i:Int):j0 u x m i=some (AN m x i):=by
 obtain ⟨c1,c2,c3,c4⟩:=XQ hb hx.l i;unfold j0 AN;simp only [rn,wk,c1,c2]
theorem xU{u:Nat}(hu:1099511627776<=u){m:ae}(hm:m.aI.length<=1048576){x:aY}(hx:M.BldWf x):pT u m x=some (eZ m x):=by
 unfold pT pp eZ;simp only [qs hu m (show m.aI.length<=1073741824 by omega),jP,HV,wk]
 cases dh m with
 | false=>rfl
 | true=>cases hs:bD x.aT with
  | false=>rfl
  | true =>
   rw [Iw,Iw,qdi hs (qdh _)]
   cases DV .i64 x.aT (td m.aI.length) == 0 with
   | false=>rfl
   | true =>
    by_cases hb:(x.bj.length:Int)=m.aV
    ·have e:((x.bj.length:Int) == m.aV)=true:=by simpa using hb
     simp only [e,r0,cond_false,zWj,zQg];have hl:=hx.l;rw [NP u m x () u aD aD,nh (E9 m x) (xs:=m.aI) (b:=true) rfl 0 (λs i k _ hs=>?_) m.aI 0 (zWX _) rfl,zXq];obtain ⟨b1,b2⟩:=HX hx.b hl (M.at_ m i) (vO m i);have b3:aK (AN m x i)/\(AN m x i).length<=1048576:=⟨b1,b2⟩;unfold FK eQ E9;simp only [L2 u hx hb,ta,wk,wZ hu b3.1 (show _<=1073741824 by omega),qb4 hu b3.2,Gb,qg3]
     cases d6 x.aT i with
     | true=>simp only [cond_true,↓reduceIte,r0,cond_false]; cases decide (fd (AN m x i)=s) <;> rfl
     | false=>simp only [cond_false,zYJ,cond_true,zQw,↓reduceIte]; cases (AN m x i).all λc=>c == 0 <;> rfl
    ·have e:((x.bj.length:Int) == m.aV)=false:=by simpa using hb
     simp [e]
def IG(m:ae)(x:aY):Bool:=(m.aN != 0) && eZ m x && (BB m x == 0)
theorem L3{u:Nat}(hu:1099511627776<=u){m:ae}(hm:m.aI.length<=1048576){x:aY}(hx:M.BldWf x):A5 u m x=some (IG m x):=by
 unfold A5 IG;simp only [xT hu hm hx,Jm,wk]
 cases m.aN != 0 <;> cases eZ m x <;> rfl
theorem Y5{u:Nat}(hu:1099511627776<=u){m:ae}(hm:m.aI.length<=1048576){x:aY}(hx:M.BldWf x):EF u m x=some (IG m x):=by
 unfold EF IG;simp only [xU hu hm hx,Dk,wk]
 cases m.aN != 0 <;> cases eZ m x <;> rfl
def sa(m:ae)(b:List Int):Bool:=((b.length:Int) == m.aV) && M.same (λx y=>decide (x=y)) (Kd b m.aG) m.aI
theorem Y6{u:Nat}(hu:1099511627776<=u)(m:ae){b:List Int}(hb:aK b)(hl:b.length<=1048576):Ex u m b=some (sa m b):=by
 unfold Ex sa;rw [Kf hu hb aD];simp only [wk];rw [EZ hu qh4]
 cases (b.length:Int) == m.aV <;> rfl
theorem Y7{u:Nat}(hu:1099511627776<=u)(m:ae){b:List Int}(hb:aK b)(hl:b.length<=1048576):EH u m b=some (sa m b):=by
 unfold EH sa;rw [Ke hu hb aD];simp only [wk];rw [nJ hu qh4]
 cases (b.length:Int) == m.aV <;> rfl
theorem Pn{b:List Int}(hl:b.length<=1048576):de (decide (((([]:List Int)).length+b.length)*1<=140737488355328))=some ():=bg il
theorem Kp(u:Nat){m:ae}(hm:m.aI.length<=1048576):yC u m=some m:=by
 unfold yC;rw [bg il]; rfl
theorem Kr(u:Nat){x:aY}(hl:x.bj.length<=1048576):yD u x=some x:=by
 unfold yD;rw [Pn hl]; rfl
theorem Jn(u:Nat){m:ae}(hm:m.aI.length<=1048576):vp u m=some m:=by
 unfold vp gl;rw [bg il]; rfl
theorem Ge(u:Nat){x:aY}(hl:x.bj.length<=1048576):qX u x=some x:=by
 unfold qX;rw [eY u aD]; rfl
structure M.NodWf (n:aA):Prop where
 s:n.ay.aI.length<=1048576
 b:M.BldWf n.aZ
 k:n.aW.length<=1048577
 w:BN n.ay
theorem gT(u:Nat){n:aA}(h:M.NodWf n):eL u n=some n:=by
 unfold eL;rw [Kp u h.s,Kr u h.b.l,wk,wk,Pl (by have:=h.k; omega)]; rfl
theorem hZ(u:Nat){n:aA}(h:M.NodWf n):fc u n=some n:=by
 unfold fc;rw [Jn u h.s,Ge u h.b.l,AL u (by have:=h.k; omega)]; rfl
def fp(m:ae)(x:aY)(i:Int):List Int×Bool:=if eZ m x && d6 x.aT i then (AN m x i,true) else ([],false)
theorem yU{m:ae}{x:aY}(h:eZ m x=true):(x.bj.length:Int)=m.aV:=by
 unfold eZ at h;simp only [sk,beq_iff_eq] at h;exact h.1.2
theorem Jo{u:Nat}(hu:1099511627776<=u){m:ae}(hm:m.aI.length<=1048576){x:aY}(hx:M.BldWf x)(i:Int):rI u m x i=some (fp m x i):=by
 unfold rI xp fp;simp only [xT hu hm hx,qt,wk]
 cases hb:eZ m x with
 | false=>rfl
 | true=>cases d6 x.aT i with
  | false=>rfl
  | true =>
   obtain ⟨c1,c2,c3,c4⟩:=XQ (yU hb) hx.l i;have c5:=(HX hx.b hx.l (M.at_ m i) (vO m i)).2;simp only [r0,cond_false,lY,wk,c1,c2,Pn c5,zWj,↓reduceIte,zQy];rfl
theorem Jp{u:Nat}(hu:1099511627776<=u){m:ae}(hm:m.aI.length<=1048576){x:aY}(hx:M.BldWf x)(i:Int):rQ u m x i=some (fp m x i):=by
 unfold rQ xK fp;simp only [xU hu hm hx,ta,wk]
 cases hb:eZ m x with
 | false=>rfl
 | true=>cases d6 x.aT i with
  | false=>rfl
  | true =>
   have c5:=(HX hx.b hx.l (M.at_ m i) (vO m i)).2;simp only [r0,cond_false,L2 u hx (yU hb),wk];rw [eY u (by have:(AN m x i).length<=1048576:=c5; omega)];rfl
theorem qf4:∀ (b:List Int) (s:Int) (n:Nat),aK b->(256:Int) ^ n<=s->(256:Int) ^ (n+b.length)<=ro b s:=by
 intro b
 induction b with
 | nil=>intro s n _ h; exact h
 | cons c b ih =>
  intro s n hb h;have hc:=hb c jC;have:=ih (256*s+c) (n+1) (λz hz=>hb z wz7) qgj;simp only [zQq,ro];rwa [show n+(b.length+1)=n+1+b.length by omega]
theorem SN{a b:Nat}(h:a<=b):(256:Int) ^ a<=256 ^ b:=by
 induction h with
 | refl=>exact Int.le_refl _
 | step h ih =>
  rename_i c;have:(0:Int) < 256 ^ c:=Int.pow_pos aD;rw [zXw]; omega
theorem RT{b:List Int}{s:bQ}{size len:Int}{i:Nat}(hb:aK b)(h:fd b=s)(hf:CC size len i s=true):(b.length:Int)=(cT size len i).2/\b.length<=6:=by
 unfold CC at hf;simp only [sk,beq_iff_eq] at hf;obtain ⟨⟨h1,h2⟩,_⟩:=hf;have h3:cx s.fS=((cx s.fS).1,true):=by rw [<- h1]
 obtain ⟨h4,h5,_,h6⟩:=Iv h3;generalize (cx s.fS).1=c at *;unfold fd at h
 split at h
 ·rw [<- h] at h4; simp at h4
 ·rename_i hl;have hs:s.fS=ro b 1:=by rw [<- h]
  have h7:=(qc0 b 1 0 hb aD aD).2;have h8:=qf4 b 1 0 hb jC;simp only [zWJ] at h7 h8;rw [hs] at h5;have hp:(0:Int) < 256 ^ c.length:=Int.pow_pos aD;have h9:256 ^ c.length<=ro b 1:=by
   have:=Int.mul_ediv_self_le (x:=ro b 1) (k:=256 ^ c.length) aD;rw [h5] at this; omega
  have h10:ro b 1 < 256 ^ c.length*2:=by
   have:=Int.lt_mul_ediv_self_add (x:=ro b 1) hp;rw [h5] at this; omega
  have:b.length=c.length:=by
   rcases Nat.lt_trichotomy b.length c.length with h | h | h
   ·have:=SN (show b.length+1<=c.length by omega);rw [zXw] at this; omega
   ·exact h
   ·have:=SN (show c.length+1<=b.length by omega);rw [zXw] at this; omega
  omega
theorem SO{size len:Int}:∀ {l:List bQ} {i j:Nat} {s:bQ},rp size len l i=true->l[j]?=some s->CC size len (i+j) s=true
 | [],_,_,_,_,h=>by simp at h
 | x :: l,i,0,s,h,hs=>by
  simp only [rp,sk] at h;simp at hs; subst hs; exact h.1
 | x :: l,i,j+1,s,h,hs=>by
  simp only [rp,sk] at h;have:=SO h.2 (by simpa using hs);rwa [show i+1+j=i+(j+1) by omega] at this
theorem RU{m:ae}(hm:dh m=true){i:Nat}{s:bQ}(hs:m.aI[i]?=some s):CC m.aG m.aV i s=true:=by
 unfold dh at hm
 split at hm
 ·simp only [sk,beq_iff_eq] at hm;have:=(aab.1 hs).1;omega
 ·simp only [sk] at hm;have:=SO hm.2 hs
  simpa using this
theorem MZ{m:ae}(hm:dh m=true):0<=m.aV/\m.aV<=240:=by
 unfold dh at hm
 split at hm
 ·simp only [sk,beq_iff_eq] at hm; omega
 ·simp only [sk] at hm;have:=CB hm.1.1.2;omega
def M.put(m:ae)(x:aY)(i:Int)(b:List Int):aY:=⟨sC .i64 x.aT (iq .i64 1 i),DJ x.bj b (M.at_ m i)⟩
def xV(m:ae)(x:aY)(i:Int)(b:List Int):Bool×aY :=
 if aw i 0 ((m.aI.length:Int) - 1) && !d6 x.aT i && (match m.aI[i.toNat]? with | some s=>decide (fd b=s) | none=>false) then (true,M.put m x i b) else (false,x)
theorem qf5(m:ae)(x:aY)(i:Int)(b:List Int):xV m x i b=(true,M.put m x i b)\/xV m x i b=(false,x):=by
 unfold xV;generalize (aw i 0 ((m.aI.length:Int) - 1) && !d6 x.aT i && (match m.aI[i.toNat]? with | some s=>decide (fd b=s) | none=>false))=c
 cases c
 ·exact .inr rfl
 ·exact .inl rfl
theorem qi5(u:Nat)(p2:Int)(p3:List Int)(r6:Int×Int)(x:aY)(a:Nat)(ha:r6.1=(a:Int))(hal:a<=1048576):∀ (l:List Int) (i:Nat) (s:List Int),a+i+l.length<=s.length->s.length<=4194304 ->
  bn (CY u p2 p3 r6 x) (CZ u p2 p3 r6 x) l i s=(jM u x.aT p2).bind λq=>some (true,⟨q,s.take (a+i)++l++s.drop (a+i+l.length)⟩):=by
 intro l
 induction l with
 | nil=>intro i s _ _; simp [bn,CY,BG]
 | cons y l ih =>
  intro i s h1 h2;simp only [zQq] at h1;simp only [bn,CZ];rw [ha,dQ aD aD,show (a:Int)+(i:Int)=((a+i:Nat):Int) by omega,bu,sX aD,rg];simp only [wk];rw [ih (i+1) _ il il];have e1:(s.set (a+i) y).take (a+(i+1))=s.take (a+i)++[y]:=by
   rw [show a+(i+1)=(a+i)+1 by omega,List.take_add_one,List.take_set_of_le (zWX _)];simp [show a+i < s.length by omega]
  have e2:(s.set (a+i) y).drop (a+(i+1)+l.length)=s.drop (a+i+(y :: l).length):=by
   rw [List.drop_set_of_lt aD]; simp only [zQq]; congr 1; omega
  rw [e1,e2]; simp
theorem Fa{m:ae}{b:List Int}(hb:(b.length:Int)=m.aV)(i:Int):(cT m.aG m.aV i).1=(M.at_ m i:Int)/\(cT m.aG m.aV i).2=(vO m i:Int)/\M.at_ m i+vO m i<=b.length:=by
 obtain ⟨h1,h2,h3,h4⟩:=AE (size:=m.aG) (n:=m.aV) (i:=i) aD;unfold M.at_ vO;omega
theorem qdj{i:Int}{n:Nat}(h:aw i 0 ((n:Int) - 1)=true)(hn:n<=40):fQ i=true/\0<=i:=by
 have:=cd h;unfold fQ aw;simp; omega
theorem HY(u:Nat){s i:Int}(hs:bD s=true)(hi:fQ i=true):jM u s i=some (sC .i64 s (iq .i64 1 i)):=by
 have:=cd hi;unfold jM qN;rw [iX,hs];simp only [wk,r0,cond_false];rw [b5,show aw i 0 39=true from hi];simp only [wk,r0,cond_false];rw [bg aD]; rfl
theorem L4{u:Nat}(hu:1099511627776<=u){m:ae}(hm:dh m=true){x:aY}(hx:(x.bj.length:Int)=m.aV)(hs:bD x.aT=true)(i:Int){b:List Int}(hb:aK b)(hl:b.length<=1048576) :
  xZ u m x i b=some (xV m x i b):=by
 have h40:=yQ hm;have h240:=MZ hm;unfold xZ sU xV;simp (disch:=omega) only [cS,b5,qt,qr hu hb (show b.length<=1073741824 by omega),wk,Gb]
 cases hw:aw i 0 ((m.aI.length:Int) - 1) with
 | false=>simp
 | true=>cases d6 x.aT i with
  | true=>simp
  | false =>
   have hw':=cd hw;obtain ⟨n,rfl⟩:∃ n:Nat,i=n:=⟨i.toNat,by omega⟩;have hn:n < m.aI.length:=by omega
   obtain ⟨s,hs'⟩:∃ s,m.aI[n]?=some s:=⟨_,sX hn⟩;simp only [r0,zYJ,cond_false,bu,hs',wk,rg,zQg]
   by_cases hq:fd b=s
   ·obtain ⟨h1,h2⟩:=RT hb hq (RU hm hs');have h3:decide ((b.length:Int) > 6)=false:=by simp; omega
    obtain ⟨e1,e2,e3⟩:=Fa (b:=x.bj) hx n;have h4:b.length=vO m n:=by omega
    simp only [hq,decide_true,r0,cond_false,h3,lY,wk,↓reduceIte];rw [S3 u n b _ x x.bj u aD aD,qi5 u n b _ x (M.at_ m n) e1 aD b 0 x.bj aD aD,HY u hs (qdj hw aD).1];unfold M.put;rw [Pd aD];rfl
   ·simp [hq]
theorem SP(u:Nat){m:ae}{x:aY}(hx:(x.bj.length:Int)=m.aV)(n:Nat){b:List Int}(hl:b.length<=vO m n)(hxl:x.bj.length<=1048576):m3 u x m n b=some (M.put m x n b):=by
 obtain ⟨e1,e2,e3⟩:=Fa (b:=x.bj) hx n;unfold m3 pZ M.put;rw [rn];simp only [wk];rw [e1,e2,j7 aD,eJ aD e3];simp only [wk];have h1:qcQ (M.at_ m n:Int) ((M.at_ m n+vO m n:Nat):Int) (x.bj.length:Int) (b.length:Int)=true:=by unfold qcQ; simp; omega
 rw [h1,bg aD,rg];rfl
def kd(m:ae)(x:aY)(i:Int)(b:List Int):aY×Bool:=if eZ m x && (xV m x i b).1 then (M.put m x i b,true) else (x,false)
theorem Ks{m:ae}{x:aY}(h:eZ m x=true):dh m=true/\bD x.aT=true:=by
 unfold eZ at h;simp only [sk] at h;exact ⟨h.1.1.1.1,h.1.1.1.2⟩
theorem RV{u:Nat}(hu:1099511627776<=u){m:ae}(hm:m.aI.length<=1048576){x:aY}(hx:M.BldWf x)(i:Int){b:List Int}(hb:aK b)(hl:b.length<=1048576):wA u m x i b=some (kd m x i b):=by
 unfold wA ve kd;simp only [Kr u hx.l,xT hu hm hx,wk]
 cases hk:eZ m x with
 | false=>rfl
 | true =>
  obtain ⟨h1,h2⟩:=Ks hk;simp only [r0,cond_false,L4 hu h1 (yU hk) h2 i hb hl,wk,zQg];rcases qf5 m x i b with h | h <;> rw [h] <;> rfl
theorem RW{u:Nat}(hu:1099511627776<=u){m:ae}(hm:m.aI.length<=1048576){x:aY}(hx:M.BldWf x)(i:Int){b:List Int}(hb:aK b)(hl:b.length<=1048576):wO u m x i b=some (kd m x i b):=by
 unfold wO nP kd;simp (disch:=omega) only [Ge u hx.l,xU hu hm hx,bK,cS,ta,wZ hu hb (show b.length<=1073741824 by omega),Gb,wk]
 cases hk:eZ m x with
 | false=>rfl
 | true =>
  obtain ⟨h1,h2⟩:=Ks hk;unfold xV
  cases hw:aw i 0 ((m.aI.length:Int) - 1) with
  | false=>simp
  | true=>cases d6 x.aT i with
   | true=>simp
   | false =>
    have hw':=cd hw;obtain ⟨n,rfl⟩:∃ n:Nat,i=n:=⟨i.toNat,by omega⟩;have hn:n < m.aI.length:=by omega
    obtain ⟨s,hs'⟩:∃ s,m.aI[n]?=some s:=⟨_,sX hn⟩;simp only [r0,zYJ,cond_false,bu,hs',wk,rg,zQg]
    by_cases hq:fd b=s
    ·obtain ⟨h3,h4⟩:=RT hb hq (RU h1 hs');obtain ⟨e1,e2,e3⟩:=Fa (b:=x.bj) (yU hk) n;simp only [hq,decide_true,r0,cond_false,↓reduceIte];rw [SP u (yU hk) n aD hx.l]; rfl
    ·simp [hq]
def Gf(m:ae)(old:List Int):Nat->Nat->aY->aY
 | 0,_,x=>x
 | n+1,i,x=>Gf m old n (i+1) (if 0<=d7 old m i then M.put m x i (M.win old (d7 old m i).toNat (vO m i)) else x)
def lc(m:ae):aY:=if dh m then ⟨0,zQV m.aV.toNat 0⟩ else ⟨0,[]⟩
def uM(m:ae)(old:List Int):aY:=if dh m then Gf m old m.aI.length 0 (lc m) else ⟨0,[]⟩
theorem Po{m:ae}(hm:dh m=true):de (decide (0<=m.aV) && (m.aV == 0 || m.aV == m.aV))=some ()/\de (decide (sY m.aV*1<=140737488355328))=some ():=by
 have:=MZ hm;refine ⟨by simp [de]; omega,bg aD⟩
theorem RX{u:Nat}(hu:1099511627776<=u){m:ae}(hm:m.aI.length<=1048576):wz u m=some (lc m):=by
 unfold wz lc;simp only [jO hu m (show m.aI.length<=1073741824 by omega),wk]
 cases h:dh m with
 | false=>rfl
 | true=>obtain ⟨h1,h2⟩:=Po h; rw [h1,h2]; rfl
theorem RY{u:Nat}(hu:1099511627776<=u){m:ae}(hm:m.aI.length<=1048576):wN u m=some (lc m):=by
 unfold wN lc;simp only [qs hu m (show m.aI.length<=1073741824 by omega),wk]
 cases h:dh m with
 | false=>rfl
 | true=>obtain ⟨h1,h2⟩:=Po h; rw [h1,h2]; rfl
theorem Pp{b:List Int}{s:bQ}{n:Nat}:∀ (c i:Nat),0<=ir b s n c i->fd (M.win b (ir b s n c i).toNat n)=s
 | 0,_,h=>by simp [ir] at h
 | c+1,i,h=>by
  unfold ir at h ⊢
  split
  ·rename_i hq; simpa using hq
  ·rename_i hq;rw [if_neg hq] at h;exact Pp c (i+1) h
theorem M0{old:List Int}{m:ae}{i:Nat}(h:0<=d7 old m i):∃ s,m.aI[i]?=some s/\0<=(cT m.aG m.aV i).2/\fd (M.win old (d7 old m i).toNat (vO m i))=s/\(d7 old m i).toNat+vO m i<=old.length:=by
 unfold d7 at h ⊢
 split at h
 ·rename_i s hs;simp only [hs];unfold yR at h ⊢
  split at h
  ·rename_i hw;have:=cd hw;rw [if_pos hw];have h1:=Pp _ _ h;have h2:=WX old s (cT m.aG m.aV i).2.toNat (old.length+1 - (cT m.aG m.aV i).2.toNat) 0;refine ⟨s,rfl,by omega,h1,?_⟩;unfold vO;omega
  ·omega
 ·omega
structure M.Part (m:ae) (i:Nat) (x:aY):Prop where
 b:M.BldWf x
 l:(x.bj.length:Int)=m.aV
 h:∃ n:Nat,x.aT=n/\n < 2 ^ i
theorem Kt{x p:List Int}{a:Nat}(h:a+p.length<=x.length)(hx:aK x)(hp:aK p):aK (DJ x p a)/\(DJ x p a).length=x.length:=by
 rw [Pd h];refine ⟨λz hz=>?_,by simp; omega⟩;simp only [zWg] at hz;rcases hz with (hz | hz) | hz
 ·exact hx z (zXK hz)
 ·exact hp z hz
 ·exact hx z (zYv hz)
theorem XS{m:ae}{i:Nat}{x:aY}(hp:M.Part m i x)(hi:i<=39){b:List Int}(hb:aK b)(hl:b.length=vO m i):M.Part m (i+1) (M.put m x i b):=by
 obtain ⟨e1,e2,e3⟩:=Fa (b:=x.bj) hp.l i;obtain ⟨h1,h2⟩:=Kt (x:=x.bj) (p:=b) (a:=M.at_ m i) aD hp.b.b hb;obtain ⟨n,h3,h4⟩:=hp.h;have h5:(2:Nat) ^ i<=2 ^ 39:=zXJ aD hi;refine ⟨⟨h1,by unfold M.put; dsimp only; rw [h2]; exact hp.b.l⟩,by unfold M.put; dsimp only; rw [h2]; exact hp.l,n ||| 2 ^ i,?_,?_⟩
 ·unfold M.put;dsimp only;rw [h3,RB aD,KW aD aD]
 ·exact Nat.or_lt_two_pow (by rw [Nat.pow_succ]; omega) (by rw [Nat.pow_succ]; have:0 < 2 ^ i:=Nat.pow_pos aD; omega)
theorem RZ{m:ae}{i j:Nat}{x:aY}(hp:M.Part m i x)(h:i<=j):M.Part m j x:=by
 obtain ⟨n,h3,h4⟩:=hp.h;exact ⟨hp.b,hp.l,n,h3,zWK h4 (zXJ aD h)⟩
theorem qd3{m:ae}{i:Nat}{x:aY}(hp:M.Part m i x)(hi:i<=40):bD x.aT=true/\d6 x.aT i=false:=by
 obtain ⟨n,h3,h4⟩:=hp.h;have h5:(2:Nat) ^ i<=2 ^ 40:=zXJ aD hi;constructor
 ·rw [h3]; unfold bD aw; simp; omega
 ·unfold d6;rw [h3,rg,rg,Nat.testBit_lt_two_pow h4,zVY]
theorem qd4{old:List Int}(hl:old.length<=1048576){p:Int}{n:Nat}(h0:0<=p)(h:p.toNat+n<=old.length):de (dW p (aS .i64 p (n:Int)) old.length)=some ()/\(old.take (sY (aS .i64 p (n:Int)))).drop (sY p)=M.win old p.toNat n:=by
 obtain ⟨q,rfl⟩:∃ q:Nat,p=q:=⟨p.toNat,by omega⟩;simp only [rg] at h ⊢;rw [j7 aD,eJ aD aD];exact ⟨rfl,rfl⟩
theorem qeR{m:ae}(hm:dh m=true){old:List Int}(ho:aK old):∀ (n i:Nat) (x:aY),i+n=m.aI.length->M.Part m i x->M.Part m (i+n) (Gf m old n i x):=by
 have h40:=yQ hm;intro n
 induction n with
 | zero=>intro i x _ hp; exact hp
 | succ n ih =>
  intro i x h hp;simp only [Gf]
  by_cases hq:0<=d7 old m i
  ·obtain ⟨s,g1,g2,g3,g4⟩:=M0 hq;have hb:=qc ho (d7 old m i).toNat (vO m i);have hbl:(M.win old (d7 old m i).toNat (vO m i)).length=vO m i:=Iy g4;have hput:=XS hp aD hb hbl;have k3:=ih (i+1) _ aD hput;rw [if_pos hq];rwa [show i+1+n=i+(n+1) by omega] at k3
  ·have k3:=ih (i+1) x aD (RZ hp aD);rw [if_neg hq];rwa [show i+1+n=i+(n+1) by omega] at k3
theorem qeS{u:Nat}(hu:1099511627776<=u){m:ae}(hm:dh m=true){old:List Int}(ho:aK old)(hl:old.length<=1048576):∀ (n i:Nat) (x:aY),i+n=m.aI.length->M.Part m i x ->
  qn (Du u old m) (vT u old m) n i (x.aT,x.bj)=some (Gf m old n i x):=by
 have h40:=yQ hm;intro n
 induction n with
 | zero=>intro i x _ hp; exact rfl
 | succ n ih =>
  intro i x h hp;obtain ⟨e1,e2,e3⟩:=Fa (b:=x.bj) hp.l i;obtain ⟨f1,f2⟩:=qd3 hp aD;simp only [qn,Gf,vT,ml];rw [Ue hu ho aD aD,lY];simp only [wk]
  by_cases hq:0<=d7 old m i
  ·obtain ⟨s,g1,g2,g3,g4⟩:=M0 hq;have hq':decide (d7 old m i>=0)=true:=by simpa using hq
   rw [e2];obtain ⟨c1,c2⟩:=qd4 hl hq g4;have hb:=qc ho (d7 old m i).toNat (vO m i);have hbl:(M.win old (d7 old m i).toNat (vO m i)).length=vO m i:=Iy g4;have hput:=XS hp aD hb hbl;have k1:=ih (i+1) _ aD hput;have h6:(M.win old (d7 old m i).toNat (vO m i)).length<=1048576:=by omega
   have hl8:xV m x i (M.win old (d7 old m i).toNat (vO m i))=(true,M.put m x i (M.win old (d7 old m i).toNat (vO m i))):=by
    unfold xV;have hw:aw (i:Int) 0 ((m.aI.length:Int) - 1)=true:=by unfold aw; simp; omega
    rw [hw,f2,rg,g1];simp [g3]
   rw [if_pos hq];simp only [hq',cond_true,c1,c2,wk,L4 hu hm hp.l f1 i hb h6,hl8];exact k1
  ·have hq':decide (d7 old m i>=0)=false:=by simpa using hq
   have k1:=ih (i+1) x aD (RZ hp aD);rw [if_neg hq];simp only [hq',cond_false];exact k1
theorem qeT{u:Nat}(hu:1099511627776<=u){m:ae}(hm:dh m=true){old:List Int}(ho:aK old)(hl:old.length<=1048576):∀ (n i:Nat) (x:aY),i+n=m.aI.length->M.Part m i x ->
  qn (DD u old m) (vW u old m) n i (x.aT,x.bj)=some (Gf m old n i x):=by
 have h40:=yQ hm;intro n
 induction n with
 | zero=>intro i x _ hp; exact rfl
 | succ n ih =>
  intro i x h hp;obtain ⟨e1,e2,e3⟩:=Fa (b:=x.bj) hp.l i;obtain ⟨f1,f2⟩:=qd3 hp aD;simp only [qn,Gf,vW,mu];rw [Ud hu ho aD aD,rn];simp only [wk]
  by_cases hq:0<=d7 old m i
  ·obtain ⟨s,g1,g2,g3,g4⟩:=M0 hq;have hq':decide (d7 old m i>=0)=true:=by simpa using hq
   rw [e2];obtain ⟨c1,c2⟩:=qd4 hl hq g4;have hb:=qc ho (d7 old m i).toNat (vO m i);have hbl:(M.win old (d7 old m i).toNat (vO m i)).length=vO m i:=Iy g4;have hput:=XS hp aD hb hbl;have k1:=ih (i+1) _ aD hput;rw [if_pos hq];simp only [hq',cond_true,c1,c2,wk,SP u hp.l i (Nat.le_of_eq hbl) hp.b.l];exact k1
  ·have hq':decide (d7 old m i>=0)=false:=by simpa using hq
   have k1:=ih (i+1) x aD (RZ hp aD);rw [if_neg hq];simp only [hq',cond_false];exact k1
theorem XT{m:ae}(hm:dh m=true):M.Part m 0 (lc m):=by
 have:=MZ hm;unfold lc;rw [if_pos hm];exact ⟨⟨by simp [aK],by simp; omega⟩,by simp; omega,0,rfl,by simp⟩
theorem XU{m:ae}(hm:dh m=true){old:List Int}(ho:aK old)(hl:old.length<=1048576):M.Part m m.aI.length (uM m old):=by
 have:=qeR hm ho m.aI.length 0 _ aD (XT hm);unfold uM;rw [if_pos hm]
 simpa using this
theorem Pq{u:Nat}(hu:1099511627776<=u){m:ae}(hs:m.aI.length<=1048576){old:List Int}(ho:aK old)(hl:old.length<=1048576):tY u m old=some (uM m old):=by
 unfold tY uM;simp only [RX hu hs,jO hu m (show m.aI.length<=1073741824 by omega),wk]
 cases hm:dh m with
 | false=>simp [lc,hm]
 | true =>
  simp only [r0,cond_false,↓reduceIte];rw [La u old m ((lc m).aT,(lc m).bj) u aD aD,rg];exact qeS hu hm ho hl m.aI.length 0 _ aD (XT hm)
theorem Pr{u:Nat}(hu:1099511627776<=u){m:ae}(hs:m.aI.length<=1048576){old:List Int}(ho:aK old)(hl:old.length<=1048576):ul u m old=some (uM m old):=by
 unfold ul uM;simp only [RY hu hs,qs hu m (show m.aI.length<=1073741824 by omega),wk]
 cases hm:dh m with
 | false=>simp [lc,hm]
 | true =>
  simp only [r0,cond_false,↓reduceIte];rw [Lj u old m ((lc m).aT,(lc m).bj) u aD aD,rg];exact qeT hu hm ho hl m.aI.length 0 _ aD (XT hm)
def M.add(d:ar)(p:bR):ar×Bool:=if cV (j9 d p) then (j9 d p,true) else (d,false)
def ke(d:ar)(slot at_:Int)(b:List Int):ar×Bool:=if aw slot 0 1 then M.add d ⟨slot,at_,b,⟨0,0,0⟩⟩ else (d,false)
def l7(d:ar)(r:ct):ar×Bool:=M.add d ⟨2,0,[],r⟩
def dO(d:ar):Int:=cJ .i64 1 d.fR.b9
theorem qdk(d:ar)(p:bR):(M.add d p=(j9 d p,true)/\cV (j9 d p)=true)\/M.add d p=(d,false):=by
 unfold M.add
 cases h:cV (j9 d p) with
 | true=>exact .inl ⟨rfl,rfl⟩
 | false=>exact .inr rfl
theorem R0{u:Nat}(hu:1099511627776<=u){d:ar}(hd:M.DOk d)(hl:d.fP.length<=1048575)(s a:Int){b:List Int}(hb:b.length<=1048576):wv u d s a b=some (ke d s a b):=by
 unfold wv ke M.add;rw [b5,LY hu hd hl (p:=⟨s,a,b,⟨0,0,0⟩⟩) hb,j8 hu hd];simp only [wk]
 cases aw s 0 1 <;> rfl
theorem R4{u:Nat}(hu:1099511627776<=u){d:ar}(hd:M.DOk d)(hl:d.fP.length<=1048575)(s a:Int){b:List Int}(hb:b.length<=1048576):s0 u d s a b=some (ke d s a b):=by
 unfold s0 ke M.add;rw [E0,Pk hu hd hl (p:=⟨s,a,b,⟨0,0,0⟩⟩) hb,jn hu hd];simp only [wk]
 cases aw s 0 1 <;> rfl
theorem Ps{u:Nat}(hu:1099511627776<=u){d:ar}(hd:M.DOk d)(hl:d.fP.length<=1048575)(r:ct):tQ u d r=some (l7 d r):=by
 unfold tQ l7 M.add;rw [LY hu hd hl (p:=⟨2,0,[],r⟩) jC];rfl
theorem Pt{u:Nat}(hu:1099511627776<=u){d:ar}(hd:M.DOk d)(hl:d.fP.length<=1048575)(r:ct):ue u d r=some (l7 d r):=by
 unfold ue l7 M.add;rw [Pk hu hd hl (p:=⟨2,0,[],r⟩) jC];rfl
theorem w4(u:Nat)(d:ar):qh u d=some (dO d):=rfl
theorem GP(u:Nat)(d:ar):yf u d=some (dO d):=rfl
def l8(d0:ar)(b:List Int)(size:Int):Nat->Nat->ar->ar×Bool
 | 0,_,d=>(d,true)
 | n+1,i,d=>if (ke d (dO d0) ((i:Int)*size) (hP b size i).1).2 then l8 d0 b size n (i+1) (ke d (dO d0) ((i:Int)*size) (hP b size i).1).1 else (d0,false)
def oO(d:ar)(b:List Int)(size:Int):ar×Bool :=
 if cV d && decide (d.fP.length=0) && fM size b.length then l8 d b size (cE size b.length).toNat 0 d else (d,false)
theorem XV{d:ar}(h:cV d=true):d.fP.length<=200:=by
 unfold cV at h;simp only [sk,decide_eq_true_eq] at h;exact h.1.2
theorem SQ(d:ar)(s a:Int)(b:List Int):(ke d s a b=(j9 d ⟨s,a,b,⟨0,0,0⟩⟩,true)/\cV (j9 d ⟨s,a,b,⟨0,0,0⟩⟩)=true)\/ke d s a b=(d,false):=by
 unfold ke
 split
 ·exact qdk d _
 ·exact .inr rfl
theorem IH{d:ar}(hd:M.DOk d)(hl:d.fP.length<=200)(s a:Int){b:List Int}(hb:b.length<=1048576):M.DOk (ke d s a b).1/\(ke d s a b).1.fP.length<=200:=by
 rcases SQ d s a b with ⟨h1,h2⟩ | h1
 ·rw [h1];exact ⟨KX hd aD hb,XV h2⟩
 ·rw [h1]; exact ⟨hd,hl⟩
theorem Ku(b:List Int)(size i:Int):(hP b size i).1.length<=b.length:=by
 unfold hP;dsimp only
 split
 ·simp
 ·unfold M.win; simp; omega
theorem qdl{u:Nat}(hu:1099511627776<=u){d0:ar}(h0:M.DOk d0){b:List Int}(hb:b.length<=1048576){size:Int}:∀ (n i f:Nat) (d:ar),i+n=(cE size b.length).toNat->n < f->M.DOk d->d.fP.length<=200 ->
  kV u f b size i d.fA d.fB d.fR.aN d.fR.b9 d.fR.aV d.fP d0=some (l8 d0 b size n i d):=by
 have hr:=blocks_range size b.length;intro n
 induction n with
 | zero =>
  intro i f d h hf hd hl;obtain ⟨f,rfl⟩:∃ j,f=j+1:=⟨f - 1,by omega⟩;have e:decide ((i:Int) < cE size b.length)=false:=by simp; omega
  unfold kV;rw [iW];simp only [wk,e,cond_false];exact rfl
 | succ n ih =>
  intro i f d h hf hd hl;obtain ⟨f,rfl⟩:∃ j,f=j+1:=⟨f - 1,by omega⟩;have e:decide ((i:Int) < cE size b.length)=true:=by simp; omega
  have hw:aw (i:Int) 0 (cE size b.length - 1)=true:=by unfold aw; simp; omega
  obtain ⟨k1,k2,k3⟩:=HL hw;have k4:=CB k1;have k5:=HM (s:=size) (i:=i) aD aD k2 k3;have e1:(cT size b.length i).1=(i:Int)*size:=by unfold cT; rw [if_pos hw]
  have hbl:=Ku b size i;have hde:ar.mk d.fA d.fB (ct.mk d.fR.aN d.fR.b9 d.fR.aV) d.fP=d:=rfl;unfold kV l8;rw [iW,lY,Jh u aD,w4];simp only [wk,e,cond_true,e1,hde];rw [R0 hu hd aD _ _ aD,j8 hu h0];simp only [wk];obtain ⟨g1,g2⟩:=IH hd hl (dO d0) ((i:Int)*size) (b:=(hP b size i).1) aD;have m1:=ih (i+1) f _ aD aD g1 g2;rw [jj aD]
  cases (ke d (dO d0) ((i:Int)*size) (hP b size i).1).2 with
  | true=>exact m1
  | false=>exact rfl
theorem qdm{u:Nat}(hu:1099511627776<=u){d0:ar}(h0:M.DOk d0){b:List Int}(hb:b.length<=1048576){size:Int}:∀ (n i f:Nat) (d:ar),i+n=(cE size b.length).toNat->n < f->M.DOk d->d.fP.length<=200 ->
  gZ u f b size (cE size b.length) i d.fA d.fB d.fR.aN d.fR.b9 d.fR.aV d.fP d0=some (l8 d0 b size n i d):=by
 have hr:=blocks_range size b.length;intro n
 induction n with
 | zero =>
  intro i f d h hf hd hl;obtain ⟨f,rfl⟩:∃ j,f=j+1:=⟨f - 1,by omega⟩;have e:decide ((i:Int) < cE size b.length)=false:=by simp; omega
  unfold gZ;simp only [e,cond_false];exact rfl
 | succ n ih =>
  intro i f d h hf hd hl;obtain ⟨f,rfl⟩:∃ j,f=j+1:=⟨f - 1,by omega⟩;have e:decide ((i:Int) < cE size b.length)=true:=by simp; omega
  have hw:aw (i:Int) 0 (cE size b.length - 1)=true:=by unfold aw; simp; omega
  obtain ⟨k1,k2,k3⟩:=HL hw;have k4:=CB k1;have k5:=HM (s:=size) (i:=i) aD aD k2 k3;have e1:(cT size b.length i).1=(i:Int)*size:=by unfold cT; rw [if_pos hw]
  have hbl:=Ku b size i;have hde:ar.mk d.fA d.fB (ct.mk d.fR.aN d.fR.b9 d.fR.aV) d.fP=d:=rfl;unfold gZ l8;rw [Jg u aD,GP];simp only [wk,e,cond_true,hde];rw [lW aD aD,R4 hu hd aD _ _ aD,jn hu h0];simp only [wk];obtain ⟨g1,g2⟩:=IH hd hl (dO d0) ((i:Int)*size) (b:=(hP b size i).1) aD;have m1:=ih (i+1) f _ aD aD g1 g2;rw [jj aD]
  cases (ke d (dO d0) ((i:Int)*size) (hP b size i).1).2 with
  | true=>exact m1
  | false=>exact rfl
theorem R5{u:Nat}(hu:1099511627776<=u){d:ar}(hd:M.DOk d){b:List Int}(hb:b.length<=1048576)(size:Int):ww u d b size=some (oO d b size):=by
 have hr:=blocks_range size b.length;unfold ww qL oO;simp only [j8 hu hd,uI hu hd,uC,wk]
 cases cV d with
 | false=>rfl
 | true =>
  by_cases hp:d.fP.length=0
  ·have e:decide ((d.fP.length:Int) > 0)=false:=decide_eq_false aD;simp only [e,hp,decide_true,r0,cond_false,zQg,zWj]
   cases fM size b.length with
   | false=>rfl
   | true=>exact qdl hu hd hb (size:=size) (cE size b.length).toNat 0 u d aD aD hd aD
  ·have e:decide ((d.fP.length:Int) > 0)=true:=by simp; omega
   simp only [e,hp,cond_true,r0,cond_false,decide_false,zVY,zZV,zQw,↓reduceIte]
theorem R6{u:Nat}(hu:1099511627776<=u){d:ar}(hd:M.DOk d){b:List Int}(hb:b.length<=1048576)(size:Int):wK u d b size=some (oO d b size):=by
 have hr:=blocks_range size b.length;unfold wK q5 oO;simp only [jn hu hd,uH hu hd,uB,uD,wk]
 cases cV d with
 | false=>rfl
 | true =>
  by_cases hp:d.fP.length=0
  ·have e:decide ((d.fP.length:Int) > 0)=false:=decide_eq_false aD;simp only [e,hp,decide_true,r0,cond_false,zQg,zWj]
   cases fM size b.length with
   | false=>rfl
   | true=>exact qdm hu hd hb (size:=size) (cE size b.length).toNat 0 u d aD aD hd aD
  ·have e:decide ((d.fP.length:Int) > 0)=true:=by simp; omega
   simp only [e,hp,cond_true,r0,cond_false,decide_false,zVY,zZV,zQw,↓reduceIte]
theorem L5{d0:ar}(h0:M.DOk d0)(hp:d0.fP.length<=200){b:List Int}(hb:b.length<=1048576){size:Int}:∀ (n i:Nat) (d:ar),M.DOk d->d.fP.length<=200->M.DOk (l8 d0 b size n i d).1/\(l8 d0 b size n i d).1.fP.length<=200
 | 0,i,d,hd,hl=>⟨hd,hl⟩
 | n+1,i,d,hd,hl=>by
  unfold l8;have hbl:=Ku b size i;obtain ⟨g1,g2⟩:=IH hd hl (dO d0) ((i:Int)*size) (b:=(hP b size i).1) aD
  split
  ·exact L5 h0 hp hb n (i+1) _ g1 g2
  ·exact ⟨h0,hp⟩
def ia(d:ar)(m:ae)(x:aY)(ph:Int):ar×Int :=
 if ph=1 then (if IG m x && (oO d x.bj m.aG).2 then ((oO d x.bj m.aG).1,2) else (d,ph))
 else if ph=2 then (uJ d,3)
 else if ph=3 then (if (l7 d ⟨m.aN,dO d,m.aV⟩).2 then ((l7 d ⟨m.aN,dO d,m.aV⟩).1,4) else (d,ph))
 else if ph=4 then (uJ d,5)
 else (d,ph)
theorem qf6{α:Type}(ph:Int)(a b c e f:α):(bif ph == 1 then a else bif ph == 2 then b else bif ph == 3 then c else bif ph == 4 then e else f)=if ph=1 then a else if ph=2 then b else if ph=3 then c else if ph=4 then e else f:=by
 by_cases h1:ph=1
 ·simp [h1]
 ·by_cases h2:ph=2
  ·simp [h2]
  ·by_cases h3:ph=3
   ·simp [h3]
   ·by_cases h4:ph=4
    ·simp [h4]
    ·have e1:(ph == 1)=false:=by simpa using h1
     have e2:(ph == 2)=false:=by simpa using h2
     have e3:(ph == 3)=false:=by simpa using h3
     have e4:(ph == 4)=false:=by simpa using h4
     simp [e1,e2,e3,e4,h1,h2,h3,h4]
theorem Gg{α:Type}(p:Prop)[Decidable p](a b:α):(if p then some a else some b)=some (if p then a else b):=by split <;> rfl
theorem qiw(w s:Bool)(a b c:ar×Int)(hb:b=c):(bif w then (bif s then some a else some b) else some c)=some (if (w && s)=true then a else c):=by subst hb; cases w <;> cases s <;> rfl
theorem qhT(w s:Bool)(a b c:ar×Int)(hb:b=c):(bif !w then some c else (bif s then some a else some b))=some (if (w && s)=true then a else c):=by subst hb; cases w <;> cases s <;> rfl
theorem qhn(s:Bool)(a b:ar×Int):(bif s then some a else some b)=some (if s=true then a else b):=by cases s <;> rfl
theorem M1{u:Nat}(hu:1099511627776<=u){d:ar}(hd:M.DOk d)(hl:d.fP.length<=1048575){m:ae}(hm:m.aI.length<=1048576){x:aY}(hx:M.BldWf x)(ph:Int):sf u d m x ph=some (ia d m x ph):=by
 unfold sf kW ia;simp only [L3 hu hm hx,R5 hu hd hx.l,Pe hu hd,w4,Ps hu hd hl,j8 hu hd,wk,qf6];rw [qiw _ _ _ _ _ rfl,qhn,Gg,Gg,Gg,Gg]
theorem M2{u:Nat}(hu:1099511627776<=u){d:ar}(hd:M.DOk d)(hl:d.fP.length<=1048575){m:ae}(hm:m.aI.length<=1048576){x:aY}(hx:M.BldWf x)(ph:Int):su u d m x ph=some (ia d m x ph):=by
 unfold su k7 ia;simp only [Y5 hu hm hx,R6 hu hd hx.l,Pj hu hd,GP,Pt hu hd hl,jn hu hd,wk,qf6];rw [qhT _ _ _ _ _ rfl,qhn,Gg,Gg,Gg,Gg]
theorem XW{d:ar}(hd:M.DOk d)(hl:d.fP.length<=200){m:ae}{x:aY}(hx:M.BldWf x)(ph:Int):M.DOk (ia d m x ph).1/\(ia d m x ph).1.fP.length<=200:=by
 have hs:M.DOk (uJ d)/\(uJ d).fP.length<=200:=by
  refine ⟨qgZ hd,?_⟩;unfold uJ
  split
  ·rw [qb2]; simp
  ·exact hl
 have hst:M.DOk (oO d x.bj m.aG).1/\(oO d x.bj m.aG).1.fP.length<=200:=by
  unfold oO
  split
  ·exact L5 hd hl hx.l _ _ _ hd hl
  ·exact ⟨hd,hl⟩
 have hr:M.DOk (l7 d ⟨m.aN,dO d,m.aV⟩).1/\(l7 d ⟨m.aN,dO d,m.aV⟩).1.fP.length<=200:=by
  unfold l7;rcases qdk d ⟨2,0,[],⟨m.aN,dO d,m.aV⟩⟩ with ⟨h1,h2⟩ | h1
  ·rw [h1]; exact ⟨KX hd aD jC,XV h2⟩
  ·rw [h1]; exact ⟨hd,hl⟩
 unfold ia
 split
 ·split
  ·exact hst
  ·exact ⟨hd,hl⟩
 ·split
  ·exact hs
  ·split
   ·split
    ·exact hr
    ·exact ⟨hd,hl⟩
   ·split
    ·exact hs
    ·exact ⟨hd,hl⟩
theorem XX{u:Nat}(hu:1099511627776<=u){m:eC}(hm:M.MsgWf m):Cc u m=some (iY m):=by
 have k:=bq [] m.bp;have g:=bq (aX [] m.bp) m.aN;simp only [zXj] at k;have hl:=hm.len;obtain ⟨hb,hbl⟩:=MY hm;unfold Cc iY;rw [GK hu hm.sums];simp only [wk]
 cases hok:nB m with
 | false=>rfl
 | true =>
  simp only [r0,cond_false,if_true];rw [et hu jC];simp only [wk];have tail:oF u (fm m)=some (aX (fm m) (cP (fm m))):=by
   unfold oF;rw [AD hu hb aD];simp only [wk];rw [et hu aD]; rfl
  rw [<- tail]
  clear tail hbl hb
  unfold fm sF
  by_cases h1:m.bp=1
  ·simp only [h1,beq_self_eq_true,cond_true,if_true];rw [h1] at k;rw [WU hu aD (by have:=hm.sums; omega) hm.wf]; rfl
  ·have e1:(m.bp == 1)=false:=by simpa using h1
   by_cases h2:m.bp=2
   ·rw [h2] at k g;have h3:=bq (aX (aX [] 2) m.aN) (gU .i64 m.bJ 1048575);have h4:=bq (aX (aX (aX [] 2) m.aN) (gU .i64 m.bJ 1048575)) (qm .i64 m.bJ 20);have h5:=bq (aX (aX (aX (aX [] 2) m.aN) (gU .i64 m.bJ 1048575)) (qm .i64 m.bJ 20)) (gU .i64 m.bG 1048575);simp only [h2,beq_self_eq_true,cond_true,if_true,zr];rw [et hu aD]; simp only [wk];rw [et hu aD]; simp only [wk];rw [et hu aD]; simp only [wk];rw [et hu aD]; simp only [wk];rw [et hu aD]; rfl
   ·have e2:(m.bp == 2)=false:=by simpa using h2
    by_cases h3:m.bp=3
    ·rw [h3] at k g;have h4:=bq (aX (aX [] 3) m.aN) m.fI;have h5:=bq (aX (aX (aX [] 3) m.aN) m.fI) m.fB.length;simp only [h3,beq_self_eq_true,cond_true,if_true,DN];rw [et hu aD]; simp only [wk];rw [et hu aD]; simp only [wk];rw [et hu aD]; simp only [wk];rw [bg aD]; rfl
    ·have e3:(m.bp == 3)=false:=by simpa using h3
     by_cases h4:m.bp=4
     ·rw [h4] at k;simp only [h4,beq_self_eq_true,cond_true,if_true];rw [et hu aD]; rfl
     ·have e4:(m.bp == 4)=false:=by simpa using h4
      rw [XH h1 h2 h3 h4] at hok; cases hok
def qv(f t:Int)(m:eC):ah:=⟨f,t,iY m⟩
def KY(g i:Int)(b:List Int):eC:=⟨3,g,Lv,0,0,i,b⟩
theorem Fb(g i:Int){b:List Int}(hb:aK b)(hl:b.length<=1048576):M.MsgWf (KY g i b):=L1 _ _ _ _ _ hb hl
theorem nW{u:Nat}(hu:1099511627776<=u)(f t:Int){m:eC}(hm:M.MsgWf m):iS u f t m=some (qv f t m):=by
 unfold iS;rw [XX hu hm]; rfl
theorem nX{u:Nat}(hu:1099511627776<=u)(f t:Int){m:eC}(hm:M.MsgWf m):jN u f t m=some (qv f t m):=by
 unfold jN;rw [E2 hu hm]; rfl
theorem Jq(u:Nat)(g i:Int){b:List Int}(hl:b.length<=1048576):rJ u g i b=some (KY g i b):=by
 unfold rJ;rw [Pn hl]; rfl
theorem Jr(u:Nat)(g i:Int){b:List Int}(hl:b.length<=1048576):pY u g i b=some (KY g i b):=by
 unfold pY;rw [eY u aD]; rfl
theorem Fc(m:ae){x:aY}(hx:M.BldWf x)(i:Int):aK (fp m x i).1/\(fp m x i).1.length<=1048576:=by
 unfold fp
 split
 ·exact HX hx.b hx.l _ _
 ·exact ⟨la,by simp⟩
def AO(n:aA)(f t i:Int):ah:=qv f t (KY n.ay.aN i (fp n.ay n.aZ i).1)
def iA(n:aA)(f t:Int):Act :=
 ⟨⟨n.eh,n.bh,n.ba,n.ay,n.aZ,n.aH,oN n.aW t (kR n.aW t n.aZ.aT),n.a7⟩,((iP (kR n.aW t n.aZ.aT)).filter λi=>(fp n.ay n.aZ i).2).map (AO n f t)⟩
theorem Gi(s:Int):(iP s).length<=40:=by
 unfold iP
 split
 ·rw [zXQ];exact zWV (zZj _ _) jC
 ·simp
theorem R7{s:List ah}(hl:s.length<=1048576)(p:ah):de (decide ((s.length + [p].length)*40<=140737488355328))=some ():=bg il
theorem Pv{u:Nat}(hu:1099511627776<=u){n:aA}(hn:M.NodWf n)(f t:Int):tX u n f t=some (iA n f t):=by
 have hp:=Gi (kR n.aW t n.aZ.aT);unfold tX yG;simp only [gT u hn,Kn hu hn.k,T8 hu,wk];rw [K9 u _ _ _ _ _ _ _ u aD aD,IF (xs:=iP (kR n.aW t n.aZ.aT)) (λi=>(fp n.ay n.aZ i).2) (AO n f t) (λx i s k hx hi hs=>?_) (iP (kR n.aW t n.aZ.aT)) 0 [] rfl jC]
 ·unfold Ds tj;rw [HT hu hn.k]; rfl
 ·unfold Dt mj;have w:=Fc n.ay hn.b x;rw [Jo hu hn.s hn.b];simp only [wk]
  cases (fp n.ay n.aZ x).2 with
  | false=>rfl
  | true =>
   have e:ce (iP (kR n.aW t n.aZ.aT)) (i:Int)=some x:=by rw [bu]; exact hx
   simp only [cond_true,e,wk,Jq u _ _ w.2,nW hu _ _ (Fb _ _ w.1 w.2),R7 (show s.length<=1048576 by omega)];rfl
theorem Pw{u:Nat}(hu:1099511627776<=u){n:aA}(hn:M.NodWf n)(f t:Int):uk u n f t=some (iA n f t):=by
 have hp:=Gi (kR n.aW t n.aZ.aT);unfold uk ui;simp only [hZ u hn,Ko hu hn.k,Jf hu,wk];rw [Li u _ _ _ _ _ _ _ u aD aD,IF (xs:=iP (kR n.aW t n.aZ.aT)) (λi=>(fp n.ay n.aZ i).2) (AO n f t) (λx i s k hx hi hs=>?_) (iP (kR n.aW t n.aZ.aT)) 0 [] rfl jC]
 ·unfold DA tr;rw [HU hu hn.k]; rfl
 ·unfold DC mt;have w:=Fc n.ay hn.b x;rw [Jp hu hn.s hn.b];simp only [wk]
  cases (fp n.ay n.aZ x).2 with
  | false=>rfl
  | true =>
   simp only [cond_true,wk,Jr u _ _ w.2,nX hu _ _ (Fb _ _ w.1 w.2),R7 (show s.length<=1048576 by omega)];rfl
theorem Y8(n:aA)(f t:Int):(iA n f t).nr.length<=40:=by
 have hp:=Gi (kR n.aW t n.aZ.aT);unfold iA;have:=zZj (λi=>(fp n.ay n.aZ i).2) (iP (kR n.aW t n.aZ.aT));simp only [zXQ];omega
def jh(n:aA)(l:List Kid):aA:=⟨n.eh,n.bh,n.ba,n.ay,n.aZ,n.aH,l,n.a7⟩
def Fd(g:Int):eC:=⟨4,g,Lv,0,0,0,[]⟩
def Kv(m:ae):eC:=⟨1,0,m,0,0,0,[]⟩
theorem D6(g:Int):M.MsgWf (Fd g):=L1 _ _ _ _ _ la jC
theorem R8{m:ae}(hs:m.aI.length<=1048576)(hw:BN m):M.MsgWf (Kv m):=⟨hs,hw,la,by simp [Kv]⟩
def gu(n:aA)(me f:Int)(m:eC):Act :=
 if f=me then ⟨n,[]⟩ else
 let l:=qu n.aW f m.bJ m.bG
 if n.aH=0 then ⟨jh n l,[qv me f (Fd 0)]⟩
 else if m.aN=n.ay.aN then
  (let a:=iA (jh n l) me f; if a.nr.length=0 then ⟨a.fN,[qv me f (Fd n.ay.aN)]⟩ else a)
 else ⟨jh n l,[qv me f (Kv n.ay)]⟩
theorem CF{n:aA}(hn:M.NodWf n){l:List Kid}(hl:l.length<=1048577):M.NodWf (jh n l):=⟨hn.s,hn.b,hl,hn.w⟩
theorem qaG(p:ah):de (decide (((([]:List ah)).length + [p].length)*40<=140737488355328))=some ():=bg jC
theorem M3{u:Nat}(hu:1099511627776<=u){n:aA}(hn:M.NodWf n)(hk:n.aW.length<=1048576)(me f:Int)(m:eC):sj u n me f m=some (gu n me f m):=by
 unfold sj gu rK rL;simp only [gT u hn,wk]
 by_cases h1:f=me
 ·simp only [h1,beq_self_eq_true,cond_true,if_true]
 ·have e1:(f == me)=false:=by simpa using h1
  have hl:=XP n.aW f m.bJ m.bG;simp only [e1,h1,cond_false,if_false,qaE hu hk,wk]
  by_cases h2:n.aH=0
  ·simp only [h2,beq_self_eq_true,cond_true,if_true];rw [show (eC.mk 4 0 (ae.mk 0 0 0 []) 0 0 0 [])=Fd 0 from rfl,nW hu me f (D6 0)];simp only [wk,qaG,zQy,<- h2]; rfl
  ·have e2:(n.aH == 0)=false:=by simpa using h2
   simp only [e2,h2,cond_false,if_false]
   by_cases h3:m.aN=n.ay.aN
   ·simp only [h3,bne_self_eq_false,cond_false,if_true];rw [show (aA.mk n.eh n.bh n.ba n.ay n.aZ n.aH (qu n.aW f m.bJ m.bG) n.a7)=jh n (qu n.aW f m.bJ m.bG) from rfl,Pv hu (CF hn aD) me f];simp only [wk]
    cases ha:iA (jh n (qu n.aW f m.bJ m.bG)) me f with
    | mk an ao =>
     cases ao with
     | nil =>
      rw [show (eC.mk 4 n.ay.aN (ae.mk 0 0 0 []) 0 0 0 [])=Fd n.ay.aN from rfl,nW hu me f (D6 _)];simp only [wk,qaG]; rfl
     | cons p ps =>
      have e3:(((p :: ps).length:Int) == 0)=false:=by simp; omega
      simp only [e3,cond_false]; simp
   ·have e3:(m.aN != n.ay.aN)=true:=by simpa using h3
    simp only [e3,h3,cond_true,if_false];rw [show (eC.mk 1 0 n.ay 0 0 0 [])=Kv n.ay from rfl,nW hu me f (R8 hn.s hn.w)];simp only [wk,qaG]; rfl
theorem M4{u:Nat}(hu:1099511627776<=u){n:aA}(hn:M.NodWf n)(hk:n.aW.length<=1048576)(me f:Int)(m:eC):sA u n me f m=some (gu n me f m):=by
 unfold sA gu oK;simp only [hZ u hn,wk]
 by_cases h1:f=me
 ·simp only [h1,beq_self_eq_true,cond_true,if_true]
 ·have e1:(f == me)=false:=by simpa using h1
  have hl:=XP n.aW f m.bJ m.bG;simp only [e1,h1,cond_false,if_false,qaF hu hk,wk]
  by_cases h2:n.aH=0
  ·simp only [h2,beq_self_eq_true,cond_true,if_true];rw [show (eC.mk 4 0 (ae.mk 0 0 0 []) 0 0 0 [])=Fd 0 from rfl,nX hu me f (D6 0)];simp only [wk,<- h2]; rfl
  ·have e2:(n.aH == 0)=false:=by simpa using h2
   simp only [e2,h2,cond_false,if_false]
   by_cases h3:m.aN=n.ay.aN
   ·simp only [h3,bne_self_eq_false,cond_false,if_true];rw [show (aA.mk n.eh n.bh n.ba n.ay n.aZ n.aH (qu n.aW f m.bJ m.bG) n.a7)=jh n (qu n.aW f m.bJ m.bG) from rfl,Pw hu (CF hn aD) me f];simp only [wk]
    cases ha:iA (jh n (qu n.aW f m.bJ m.bG)) me f with
    | mk an ao =>
     cases ao with
     | nil =>
      rw [show (eC.mk 4 n.ay.aN (ae.mk 0 0 0 []) 0 0 0 [])=Fd n.ay.aN from rfl,nX hu me f (D6 _)];simp only [wk]; rfl
     | cons p ps =>
      have e3:decide ((((p :: ps).length:Nat):Int) > 0)=true:=by simp
      simp only [e3,cond_true]; simp
   ·have e3:(m.aN != n.ay.aN)=true:=by simpa using h3
    simp only [e3,h3,cond_true,if_false];rw [show (eC.mk 1 0 (ae.mk n.ay.aN n.ay.aG n.ay.aV n.ay.aI) 0 0 0 [])=Kv n.ay from rfl,nX hu me f (R8 hn.s hn.w)];simp only [wk]; rfl
theorem qg4{i:Int}(hi:fQ i=true):sC .i64 0 (iq .i64 1 i)=iq .i64 1 i:=by
 have h:=cd hi;obtain ⟨n,rfl⟩:∃ n:Nat,i=n:=⟨i.toNat,by omega⟩;have hp:2 ^ n<=2 ^ 39:=zXJ aD aD;have e:=Xy (a:=1) (n:=n) aD aD;have e2:iq .i64 1 (n:Int)=((1*2 ^ n:Nat):Int):=e;rw [e2];have:=KW (a:=0) (b:=1*2 ^ n) aD aD
 simpa using this
theorem L6{m:ae}{x:aY}{i:Int}(h:(fp m x i).2=true):fQ i=true:=by
 unfold fp at h
 split at h
 ·rename_i h1;simp only [sk,d6] at h1;exact h1.2.1.2
 ·cases h
def fV(n:aA)(me i:Int)(s:List Kid×List ah)(x:Kid):List Kid×List ah :=
 if d6 (kR s.1 x.gj n.aZ.aT) i then (oN s.1 x.gj (iq .i64 1 i),s.2++[AO n me x.gj i]) else s
def Px(n:aA)(me i:Int):List Kid×List ah:=n.aW.foldl (fV n me i) (n.aW,[])
def my(n:aA)(me i:Int):Act:=if (fp n.ay n.aZ i).2 then ⟨jh n (Px n me i).1,(Px n me i).2⟩ else ⟨n,[]⟩
theorem Kw(n:aA)(me i:Int)(s:List Kid×List ah)(x:Kid):(fV n me i s x).1.length=s.1.length/\(fV n me i s x).2.length<=s.2.length+1:=by
 unfold fV
 split
 ·exact ⟨Pm _ _ _,by simp⟩
 ·exact ⟨rfl,by omega⟩
theorem qg5(n:aA)(me i:Int):∀ (l:List Kid) (s:List Kid×List ah),(l.foldl (fV n me i) s).1.length=s.1.length/\(l.foldl (fV n me i) s).2.length<=s.2.length+l.length:=by
 intro l
 induction l with
 | nil=>intro s; exact ⟨rfl,by simp⟩
 | cons x l ih =>
  intro s;have h:=ih (fV n me i s x);have g:=Kw n me i s x;simp only [zYG,zQq];omega
theorem qdn{u:Nat}(hu:1099511627776<=u){n:aA}(hn:M.NodWf n)(me i:Int)(h:(fp n.ay n.aZ i).2=true):∀ (l:List Kid) (k j:Nat) (s:List Kid×List ah),l=n.aW.drop j->l.length < k->s.1.length<=1048577->s.2.length<=j ->
  fE u k me i (fp n.ay n.aZ i) (j:Int) n n s.1 s.2=some ⟨jh n (l.foldl (fV n me i) s).1,(l.foldl (fV n me i) s).2⟩:=by
 have w:=Fc n.ay hn.b i;have pl:=L6 h;have hk:=hn.k;intro l
 induction l with
 | nil =>
  intro k j s hl hf h1 h2;obtain ⟨k,rfl⟩:∃ k',k=k'+1:=⟨k - 1,by simp at hf; omega⟩;have hj:n.aW.length<=j:=by
   have:=congrArg zYZ hl; simp at this; omega
  have e:decide ((j:Int) < (n.aW.length:Int))=false:=by simp; omega
  simp only [fE,e,cond_false,pm,xz];rfl
 | cons x l ih =>
  intro k j s hl hf h1 h2;obtain ⟨k,rfl⟩:∃ k',k=k'+1:=⟨k - 1,by simp at hf; omega⟩;have hx:n.aW[j]?=some x:=by
   have:=congrArg zYY hl
   simpa [zXW] using this.symm
  have hl2:l=n.aW.drop (j+1):=by
   have:=congrArg zYq hl
   simpa [zXV] using this
  have hj:=(aab.1 hx).1;have e:decide ((j:Int) < (n.aW.length:Int))=true:=by simp; omega
  have g:=Kw n me i s x;have r:=ih k (j+1) (fV n me i s x) hl2 (by simp at hf; omega) aD aD;simp only [zYG,<- r];simp only [fE,e,cond_true,pm,h,xA,bu,hx,yG,wk,Kn hu h1,qt];rw [j7 (a:=j) (b:=1) aD |> (λ(e:aS .i64 (j:Int) ((1:Nat):Int)=_)=>show aS .i64 (j:Int) 1=((j+1:Nat):Int) from e)]
  cases hs:d6 (kR s.1 x.gj n.aZ.aT) i with
  | false =>
   simp only [cond_false,fV,hs,zQw,if_false]
  | true =>
   simp only [cond_true,Jq u _ _ w.2,wk,nW hu _ _ (Fb _ _ w.1 w.2),R7 (show s.2.length<=1048576 by omega),HY u (s:=0) rfl pl,qg4 pl,HT hu h1];simp only [fV,hs,if_true];rfl
theorem UH{u:Nat}(hu:1099511627776<=u){n:aA}(hn:M.NodWf n)(me i:Int):zI u n me i=some (my n me i):=by
 unfold zI my;simp only [gT u hn,Jo hu hn.s hn.b,wk];have hk:=hn.k
 cases h:(fp n.ay n.aZ i).2 with
 | true =>
  have:=qdn hu hn me i h n.aW u 0 (n.aW,[]) rfl aD hk jC;exact this
 | false =>
  obtain ⟨k,rfl⟩:∃ k,u=k+1:=⟨u - 1,by omega⟩;simp only [fE,pm,h,cond_false,xz]
  cases decide ((0:Int) < (n.aW.length:Int)) <;> simp
theorem qdo{α σ ρ:Type}{fin:σ->Option ρ}{body:α->Nat->σ->(σ->Option ρ)->Option ρ}(f:σ->α->σ)(I:Nat->σ->Prop)(hI:∀ x i s,I i s->I (i+1) (f s x)){n:Nat}(hb:∀ x i s k,I i s->i < n->body x i s k=k (f s x)) :
  ∀ (l:List α) (i:Nat) (s:σ),I i s->i+l.length<=n->bn fin body l i s=fin (l.foldl f s):=by
 intro l
 induction l with
 | nil=>intro i s _ _; rfl
 | cons x l ih =>
  intro i s h hl;simp only [zQq] at hl;simp only [bn];rw [hb x i s _ h aD,ih (i+1) _ (hI x i s h) aD]; rfl
theorem UI{u:Nat}(hu:1099511627776<=u){n:aA}(hn:M.NodWf n)(me i:Int):Ah u n me i=some (my n me i):=by
 unfold Ah my;simp only [hZ u hn,Jp hu hn.s hn.b,wk];have hk:=hn.k;have w:=Fc n.ay hn.b i
 cases h:(fp n.ay n.aZ i).2 with
 | false=>rfl
 | true =>
  have pl:=L6 h;simp only [r0,cond_false,if_true];have e:=NX u me i (fp n.ay n.aZ i) n n (n.aW,[]) u aD aD;refine e.trans ?_;rw [qdo (fV n me i) (λj s=>s.1.length<=1048577/\s.2.length<=j) (λx j s h=>by have:=Kw n me i s x; omega) (n:=n.aW.length) (λx j s k hI hj=>?_) n.aW 0 (n.aW,[]) ⟨hk,by simp⟩ aD]
  ·rfl
  ·have pl2:de (decide (0<=i))=some ():=bg (by have:=cd pl; omega);unfold FR pu;simp only [ui,wk,Ko hu hI.1,ta]
   cases hs:d6 (kR s.1 x.gj n.aZ.aT) i with
   | false=>simp only [cond_false,fV,hs,zQw,if_false]
   | true =>
    simp only [cond_true,Jr u _ _ w.2,wk,nX hu _ _ (Fb _ _ w.1 w.2),R7 (show s.2.length<=1048576 by omega),pl2,HU hu hI.1];simp only [fV,hs,if_true];rfl
theorem qeU{α:Type}[DecidableEq α]:∀ (a b:List α),GI (λx y=>decide (x=y)) a b=GI (λx y=>decide (x=y)) b a:=by
 intro a
 induction a with
 | nil=>intro b; cases b <;> rfl
 | cons x a ih =>
  intro b
  cases b with
  | nil=>rfl
  | cons y b =>
   simp only [GI];rw [ih b,show decide (x=y)=decide (y=x) from decide_eq_decide.2 eq_comm]
theorem Vh{α:Type}[DecidableEq α](a b:α):(a == b)=(b == a):=Bool.eq_iff_iff.2 ⟨λh=>beq_iff_eq.2 (beq_iff_eq.1 h).symm,λh=>beq_iff_eq.2 (beq_iff_eq.1 h).symm⟩
theorem qaH(a b:ae):iQ a b=iQ b a:=by
 unfold iQ M.same;rw [qeU,Vh a.aN,Vh a.aG,Vh a.aV,Vh a.aI.length]
structure M.DB (d:ar):Prop where
 a:aK d.fA
 b:aK d.fB
 p:∀ x∈d.fP,aK x.fB
theorem qaI{l:List Int}(h:aK l)(n:Nat):aK (l.take n):=λx hx=>h x (zXK hx)
theorem qaJ{d:ar}(h:M.DB d)(n:Int):aK (jm d n):=by
 unfold jm; split
 ·exact h.a
 ·exact h.b
theorem BU{d:ar}(h:M.DB d):aK (fU d).2/\(fU d).2.length<=240:=by
 unfold fU
 split
 ·rename_i hd;have:=RK hd d.fR.b9;exact ⟨qaI (qaJ h _) _,by simp only [zQz]; omega⟩
 ·exact ⟨la,by simp⟩
theorem R9{b:List Int}(hb:aK b):M.MsgWf (eu b).1:=by
 unfold eu
 split
 ·rename_i h;simp only [sk] at h;have g:=cU hb (ZM _ h.1);have p:=RP hb (k:=(be b 0).1) (a:=(be b 0).2.1) (by simpa using g.2.2.2.2.2)
  cases hr:GM b (be b 0).1 (be b 0).2.1 with
  | none=>exact L1 _ _ _ _ _ la jC
  | some x =>
   obtain ⟨m,e⟩:=x;have q:=p m e hr;dsimp only
   split
   ·exact q.1
   ·exact L1 _ _ _ _ _ la jC
 ·exact L1 _ _ _ _ _ la jC
def M.drop(n:aA):aA:=⟨n.eh,n.bh,n.ba,n.ay,n.aZ,n.aH,n.aW,aS .i64 n.a7 1⟩
theorem Dl(u:Nat){n:aA}(h:M.NodWf n):nu u n=some (M.drop n):=by
 unfold nu;rw [gT u h]; rfl
def pD(n:aA)(d:ar)(m:ae):aA :=
 if n.aH=0 then
  (if dh m && (m.aN != 0) then ⟨n.eh,n.bh,n.ba,m,uM m (fU d).2,if ((fU d).1 == m.aN) && sa m (fU d).2 then 5 else 1,n.aW,n.a7⟩ else n)
 else if iQ n.ay m then n else M.drop n
theorem UJ{u:Nat}(hu:1099511627776<=u){n:aA}(hn:M.NodWf n){d:ar}(hd:M.DOk d)(hb:M.DB d){m:ae}(hm:m.aI.length<=1048576):zH u n d m=some (pD n d m):=by
 obtain ⟨rb,rl⟩:=BU hb;unfold zH pD xy xw xv;simp only [gT u hn,xR hu hn.s,Dl u hn,jO hu m (show m.aI.length<=1073741824 by omega),Jj hu hd,Kp u hm,Pq hu hm rb (show _<=1048576 by omega),Y6 hu m rb (show _<=1048576 by omega),wk]
 by_cases h:n.aH=0
 ·have e:(n.aH != 0)=false:=by simp [h]
  rw [if_pos h];simp only [e,cond_false];rw [show (m.aN != 0)=!(m.aN == 0) from rfl]
  cases dh m <;> cases (m.aN == 0) <;> cases ((fU d).1 == m.aN) <;> cases sa m (fU d).2 <;> rfl
 ·have e:(n.aH != 0)=true:=by simpa using h
  simp only [e,h,cond_true,if_false]
  cases iQ n.ay m <;> rfl
theorem Py{u:Nat}(hu:1099511627776<=u){d:ar}(hd:M.DOk d)(hb:M.DB d)(m:ae):um u d m=some (((fU d).1 == m.aN) && sa m (fU d).2):=by
 obtain ⟨rb,rl⟩:=BU hb;unfold um;simp only [Di hu hd,Y7 hu m rb (show _<=1048576 by omega),wk]
 cases ((fU d).1 == m.aN) <;> rfl
theorem UK{u:Nat}(hu:1099511627776<=u){n:aA}(hn:M.NodWf n){d:ar}(hd:M.DOk d)(hb:M.DB d){m:ae}(hm:m.aI.length<=1048576):Ag u n d m=some (pD n d m):=by
 obtain ⟨rb,rl⟩:=BU hb;unfold Ag pD xL m4;simp only [hZ u hn,Ji hu hm,qaH m n.ay,qs hu m (show m.aI.length<=1073741824 by omega),Di hu hd,Jn u hm,Pr hu hm rb (show _<=1048576 by omega),Py hu hd hb m,wk]
 by_cases h:n.aH=0
 ·have e:(n.aH != 0)=false:=by simp [h]
  rw [if_pos h];simp only [e,cond_false];rw [show (m.aN != 0)=!(m.aN == 0) from rfl]
  cases dh m <;> cases (m.aN == 0) <;> cases ((fU d).1 == m.aN) <;> cases sa m (fU d).2 <;> rfl
 ·have e:(n.aH != 0)=true:=by simpa using h
  simp only [e,h,cond_true,if_false]
  cases iQ n.ay m <;> rfl
def HZ(n:aA)(x:aY):aA:=⟨n.eh,n.bh,n.ba,n.ay,x,n.aH,n.aW,n.a7⟩
def ni(n:aA)(me:Int)(m:eC):Act :=
 if n.aH=0\/m.aN≠n.ay.aN then ⟨M.drop n,[]⟩
 else if d6 n.aZ.aT m.fI then ⟨n,[]⟩
 else if (kd n.ay n.aZ m.fI m.fB).2 then my (HZ n (kd n.ay n.aZ m.fI m.fB).1) me m.fI
 else ⟨M.drop n,[]⟩
theorem qg6{m:ae}{x:aY}{i:Int}{b:List Int}(h:(xV m x i b).1=true):aw i 0 ((m.aI.length:Int) - 1)=true/\(match m.aI[i.toNat]? with | some s=>decide (fd b=s) | none=>false)=true:=by
 unfold xV at h;generalize hc:(aw i 0 ((m.aI.length:Int) - 1) && !d6 x.aT i && (match m.aI[i.toNat]? with | some s=>decide (fd b=s) | none=>false))=c at h
 cases c with
 | false=>cases h
 | true=>simp only [sk] at hc; exact ⟨hc.1.1,hc.2⟩
theorem Kx{m:ae}{x:aY}(hx:M.BldWf x)(i:Int){b:List Int}(hb:aK b):M.BldWf (kd m x i b).1:=by
 unfold kd
 by_cases h:(eZ m x && (xV m x i b).1)=true
 ·rw [if_pos h];simp only [sk] at h;obtain ⟨hbo,h2⟩:=h;obtain ⟨hm,hs⟩:=Ks hbo;have hl:=yU hbo;obtain ⟨h4,h6⟩:=qg6 h2;have h7:=cd h4;obtain ⟨n,rfl⟩:∃ n:Nat,i=n:=⟨i.toNat,by omega⟩;rw [rg] at h6
  cases hg:m.aI[n]? with
  | none=>rw [hg] at h6; cases h6
  | some s =>
   rw [hg] at h6;have h8:=RT hb (of_decide_eq_true h6) (RU hm hg);obtain ⟨e1,e2,e3⟩:=Fa (b:=x.bj) hl n;obtain ⟨g1,g2⟩:=Kt (x:=x.bj) (p:=b) (a:=M.at_ m n) aD hx.b hb;exact ⟨g1,by show (DJ _ _ _).length<=_; rw [g2]; exact hx.l⟩
 ·rw [if_neg h]; exact hx
theorem M5{n:aA}(hn:M.NodWf n){x:aY}(hx:M.BldWf x):M.NodWf (HZ n x):=⟨hn.s,hx,hn.k,hn.w⟩
theorem Sa{u:Nat}(hu:1099511627776<=u){n:aA}(hn:M.NodWf n)(me:Int){m:eC}(hm:M.MsgWf m):wB u n me m=some (ni n me m):=by
 unfold wB ni vg;simp only [gT u hn,Dl u hn,qt,RV hu hn.s hn.b m.fI hm.b hm.len,wk];rw [show (aA.mk n.eh n.bh n.ba n.ay (kd n.ay n.aZ m.fI m.fB).1 n.aH n.aW n.a7)=HZ n (kd n.ay n.aZ m.fI m.fB).1 from rfl,UH hu (M5 hn (Kx hn.b m.fI hm.b)) me m.fI];simp only [wk]
 by_cases h1:n.aH=0
 ·simp [h1]
 ·by_cases h2:m.aN=n.ay.aN
  ·have e:(n.aH == 0)=false:=by simpa using h1
   simp only [h1,h2,e,cond_false,bne_self_eq_false,ne_eq,not_true_eq_false,or_self,if_false]
   cases d6 n.aZ.aT m.fI <;> cases (kd n.ay n.aZ m.fI m.fB).2 <;> rfl
  ·have e:(n.aH == 0)=false:=by simpa using h1
   have e2:(m.aN != n.ay.aN)=true:=by simpa using h2
   simp [h1,h2,e,e2]
theorem Sb{u:Nat}(hu:1099511627776<=u){n:aA}(hn:M.NodWf n)(me:Int){m:eC}(hm:M.MsgWf m):wP u n me m=some (ni n me m):=by
 unfold wP ni vB;simp only [hZ u hn,ta,RW hu hn.s hn.b m.fI hm.b hm.len,wk];rw [show (aA.mk n.eh n.bh n.ba n.ay (kd n.ay n.aZ m.fI m.fB).1 n.aH n.aW n.a7)=HZ n (kd n.ay n.aZ m.fI m.fB).1 from rfl,UI hu (M5 hn (Kx hn.b m.fI hm.b)) me m.fI];simp only [wk]
 by_cases h1:n.aH=0
 ·simp [h1,M.drop]
 ·by_cases h2:m.aN=n.ay.aN
  ·have e:(n.aH == 0)=false:=by simpa using h1
   simp only [h1,h2,e,cond_false,bne_self_eq_false,ne_eq,not_true_eq_false,or_self,if_false]
   cases d6 n.aZ.aT m.fI <;> cases (kd n.ay n.aZ m.fI m.fB).2 <;> rfl
  ·have e:(n.aH == 0)=false:=by simpa using h1
   have e2:(m.aN != n.ay.aN)=true:=by simpa using h2
   simp [h1,h2,e,e2,M.drop]
def Ky(n:aA):aA:=⟨n.eh,n.bh,0,n.ay,n.aZ,n.aH,n.aW,n.a7⟩
theorem Gj{n:aA}(hn:M.NodWf n):M.NodWf (Ky n):=⟨hn.s,hn.b,hn.k,hn.w⟩
def lf(n:aA)(me:Int)(d:ar)(m:eC):Act :=
 if m.bp=1 then ⟨pD (Ky n) d m.ay,[]⟩
 else if m.bp=3 then ni (Ky n) me m
 else if m.bp=2 then ⟨M.drop (Ky n),[]⟩
 else ⟨Ky n,[]⟩
theorem qf7{α:Type}(k:Int)(a b c e:α):(bif k == 1 then a else (bif k == 3 then b else (bif k == 2 then c else e)))=if k=1 then a else if k=3 then b else if k=2 then c else e:=by
 by_cases h1:k=1
 ·subst h1; rfl
 ·by_cases h2:k=3
  ·subst h2; rfl
  ·by_cases h3:k=2
   ·subst h3; rfl
   ·have e1:(k == 1)=false:=by simpa using h1
    have e2:(k == 3)=false:=by simpa using h2
    have e3:(k == 2)=false:=by simpa using h3
    simp [h1,h2,h3,e1,e2,e3]
theorem XY{α:Type}(p q r:Prop)[Decidable p][Decidable q][Decidable r](a b c e:α):(if p then some a else if q then some b else if r then some c else some e)=some (if p then a else if q then b else if r then c else e):=by
 by_cases hp:p <;> by_cases hq:q <;> by_cases hr:r <;> simp [hp,hq,hr]
theorem Sc{u:Nat}(hu:1099511627776<=u){n:aA}(hn:M.NodWf n)(me:Int){d:ar}(hd:M.DOk d)(hb:M.DB d){m:eC}(hm:M.MsgWf m):wC u n me d m=some (lf n me d m):=by
 unfold wC lf qS;simp only [gT u hn,wk];rw [show (aA.mk n.eh n.bh 0 n.ay n.aZ n.aH n.aW n.a7)=Ky n from rfl,UJ hu (Gj hn) hd hb hm.sums,Sa hu (Gj hn) me hm,qf7];exact XY _ _ _ _ _ _ _
theorem Se{u:Nat}(hu:1099511627776<=u){n:aA}(hn:M.NodWf n)(me:Int){d:ar}(hd:M.DOk d)(hb:M.DB d){m:eC}(hm:M.MsgWf m):wQ u n me d m=some (lf n me d m):=by
 unfold wQ lf vC;simp only [hZ u hn,wk];rw [show (aA.mk n.eh n.bh 0 n.ay n.aZ n.aH n.aW n.a7)=Ky n from rfl,UK hu (Gj hn) hd hb hm.sums,Sb hu (Gj hn) me hm,qf7];exact XY _ _ _ _ _ _ _
def M.take(t:bV)(me:Int)(n:aA)(d:ar)(p:ah):Act :=
 if !n.eh then ⟨n,[]⟩
 else if (eu p.fB).2 && aw p.cM 0 ((t.bP.length:Int) - 1) && (p.cM != me) then
  (if (eu p.fB).1.bp=2 then gu n me p.cM (eu p.fB).1
   else if p.cM=n.bh then lf n me d (eu p.fB).1 else ⟨M.drop n,[]⟩)
 else ⟨M.drop n,[]⟩
theorem qaK{u:Nat}(hu:1099511627776<=u){t:bV}(ht:t.bP.length<=1048576)(me:Int){n:aA}(hn:M.NodWf n)(hk:n.aW.length<=1048576){d:ar}(hd:M.DOk d)(hb:M.DB d){p:ah}(hp:aK p.fB)(hl:p.fB.length<=1048576):Hc u t me n d p=some (M.take t me n d p):=by
 have w:=R9 hp;have eb:cJ .i64 ((t.bP.length:Int)) 1=(t.bP.length:Int) - 1:=cS aD aD;unfold Hc M.take zJ;simp only [gT u hn,Dl u hn,Kl hu hp hl,b5,eb,M3 hu hn hk,Sc hu hn me hd hb w,wk]
 by_cases h1:(eu p.fB).1.bp=2
 ·simp only [h1,beq_self_eq_true,cond_true,if_true];rw [show (p.cM != me)=!(p.cM == me) from rfl]
  cases n.eh <;> cases (eu p.fB).2 <;> cases aw p.cM 0 ((t.bP.length:Int) - 1) <;> cases (p.cM == me) <;> rfl
 ·have e1:((eu p.fB).1.bp == 2)=false:=by simpa using h1
  simp only [e1,h1,cond_false,if_false];rw [show (p.cM != me)=!(p.cM == me) from rfl]
  by_cases h2:p.cM=n.bh
  ·have e2:(p.cM == n.bh)=true:=by simpa using h2
   simp only [e2,cond_true,if_pos h2]
   cases n.eh <;> cases (eu p.fB).2 <;> cases aw p.cM 0 ((t.bP.length:Int) - 1) <;> cases (p.cM == me) <;> rfl
  ·have e2:(p.cM == n.bh)=false:=by simpa using h2
   simp only [e2,cond_false,if_neg h2]
   cases n.eh <;> cases (eu p.fB).2 <;> cases aw p.cM 0 ((t.bP.length:Int) - 1) <;> cases (p.cM == me) <;> rfl
theorem qaL{u:Nat}(hu:1099511627776<=u){t:bV}(ht:t.bP.length<=1048576)(me:Int){n:aA}(hn:M.NodWf n)(hk:n.aW.length<=1048576){d:ar}(hd:M.DOk d)(hb:M.DB d){p:ah}(hp:aK p.fB)(hl:p.fB.length<=1048576):Hq u t me n d p=some (M.take t me n d p):=by
 have w:=R9 hp;unfold Hq M.take Ai;simp only [hZ u hn,Kk hu hp hl,kc u ht,M4 hu hn hk,Se hu hn me hd hb w,wk];rw [show (aA.mk n.eh n.bh n.ba n.ay n.aZ n.aH n.aW (aS .i64 n.a7 1))=M.drop n from rfl]
 by_cases h1:(eu p.fB).1.bp=2
 ·simp only [h1,beq_self_eq_true,cond_true,if_true];rw [show (p.cM != me)=!(p.cM == me) from rfl]
  cases n.eh <;> cases (eu p.fB).2 <;> cases aw p.cM 0 ((t.bP.length:Int) - 1) <;> cases (p.cM == me) <;> rfl
 ·have e1:((eu p.fB).1.bp == 2)=false:=by simpa using h1
  simp only [e1,h1,cond_false,if_false];rw [show (p.cM != me)=!(p.cM == me) from rfl]
  by_cases h2:p.cM=n.bh
  ·have e2:(p.cM == n.bh)=true:=by simpa using h2
   simp only [e2,cond_true,if_pos h2]
   cases n.eh <;> cases (eu p.fB).2 <;> cases aw p.cM 0 ((t.bP.length:Int) - 1) <;> cases (p.cM == me) <;> rfl
  ·have e2:(p.cM == n.bh)=false:=by simpa using h2
   simp only [e2,cond_false,if_neg h2]
   cases n.eh <;> cases (eu p.fB).2 <;> cases aw p.cM 0 ((t.bP.length:Int) - 1) <;> cases (p.cM == me) <;> rfl
def CG:List Int->Int->Int->Int
 | [],_,a=>a
 | y :: ys,n,a=>if n < 1 then a else CG ys (cJ .i64 n 1) (sC .i64 a (iq .i64 1 y))
def H0(s n:Int):Int:=CG (iP s) n 0
theorem XZ(s:Int):iP s=((List.range' 0 40).filter λ(i:Nat)=>d6 s (i:Int)).map λ(i:Nat)=>(i:Int):=by
 unfold iP;rw [<- List.range_eq_range']
 cases h:bD s with
 | false=>simp [d6,h]
 | true =>
  simp only [if_true]
  congr 1
  apply List.filter_congr
  intro i hi;have hi:i < 40:=by simpa using hi
  have:fQ (i:Int)=true:=by simp [fQ,aw]; omega
  simp [d6,h,this]
theorem qeV:∀ (l:List Int) (n a:Int),n < 1->CG l n a=a:=by
 intro l n a h
 cases l with
 | nil=>rfl
 | cons y ys=>simp only [CG,h,if_true]
theorem Kz{s y:Int}(h:y∈iP s):0<=y:=by
 rw [XZ] at h;simp only [zXx] at h;obtain ⟨i,_,rfl⟩:=h;omega
theorem qaM(u:Nat)(r:List Int)(hr:∀ y∈r,0<=y):∀ (l:List Int) (i:Nat) (n a:Int),(∀ y∈l,0<=y)->bn (FP u r) (zU u r) l i (n,a)=some (CG l n a):=by
 intro l
 induction l with
 | nil=>intro i n a _; rfl
 | cons y ys ih =>
  intro i n a h;simp only [bn,zU,CG];have hy:de (decide (0<=y))=some ():=bg (h y jC)
  by_cases hn:n < 1
  ·simp only [hn,decide_true,cond_true,if_true]; rfl
  ·simp only [hn,decide_false,cond_false,if_false,hy,wk];exact ih (i+1) _ _ (λz hz=>h z wz7)
theorem UL{u:Nat}(hu:1099511627776<=u)(s n:Int):zT u s n=some (H0 s n):=by
 have hp:=Gi s;unfold zT H0;rw [Jf hu,wk];have e:=NT u (iP s) (n,0) u aD aD;refine e.trans ?_;exact qaM u _ (λy hy=>Kz hy) _ 0 n 0 (λy hy=>Kz hy)
theorem qaN(u:Nat)(s:Int):∀ (m i f:Nat) (n a:Int),i+m=40->m < f ->
  gO u f s n a (i:Int)=some (CG (((List.range' i m).filter λ(i:Nat)=>d6 s (i:Int)).map λ(i:Nat)=>(i:Int)) n a):=by
 intro m
 induction m with
 | zero =>
  intro i f n a h hf;obtain ⟨f,rfl⟩:∃ f',f=f'+1:=⟨f - 1,by omega⟩;have e:decide ((i:Int) < 40)=false:=by simp; omega
  simp only [gO,e,cond_false,sg,xi]; rfl
 | succ m ih =>
  intro i f n a h hf;obtain ⟨f,rfl⟩:∃ f',f=f'+1:=⟨f - 1,by omega⟩;have e:decide ((i:Int) < 40)=true:=by simp; omega
  have hi:de (decide ((0:Int)<=(i:Int)))=some ():=bg aD;have hb:aS .i64 (i:Int) 1=((i+1:Nat):Int):=j7 (a:=i) (b:=1) aD;simp only [gO,e,cond_true,sg,xj,xi,qt,wk,hi,hb]
  by_cases hn:n > 0
  ·have hn2:¬ n < 1:=by omega
   simp only [hn,decide_true,cond_true];rw [List.range'_succ,List.filter_cons]
   cases hs:d6 s (i:Int) with
   | true =>
    simp only [cond_true,if_true,zWk,CG,hn2,if_false];exact ih (i+1) f _ _ aD aD
   | false =>
    simp only [cond_false,zQw,if_false];exact ih (i+1) f _ _ aD aD
  ·simp only [hn,decide_false,cond_false];rw [qeV _ _ _ aD]
theorem UM{u:Nat}(hu:1099511627776<=u)(s n:Int):zo u s n=some (H0 s n):=by
 unfold zo H0;rw [XZ];exact qaN u s 40 0 u n 0 rfl aD
def KA(n:aA):Int:=if n.aH=0 then 0 else BB n.ay n.aZ
theorem X0{u:Nat}(hu:1099511627776<=u){n:aA}(hn:M.NodWf n):B8 u n=some (KA n):=by
 unfold B8 KA;rw [Jm u]
 by_cases h:n.aH=0
 ·simp [h]
 ·have e:(n.aH == 0)=false:=by simpa using h
  simp [h,e]
theorem X1{u:Nat}(hu:1099511627776<=u){n:aA}(hn:M.NodWf n):Cj u n=some (KA n):=by
 unfold Cj KA;rw [Dk u]
 by_cases h:n.aH=0
 ·simp [h]
 ·have e:(n.aH == 0)=false:=by simpa using h
  simp [h,e]
def X2(n:aA)(w:Int):Int:=H0 (KA n) w
theorem X3{u:Nat}(hu:1099511627776<=u){n:aA}(hn:M.NodWf n)(w:Int):B9 u n w=some (X2 n w):=by
 unfold B9;simp only [X0 hu hn,UM hu,wk]; rfl
theorem X4{u:Nat}(hu:1099511627776<=u){n:aA}(hn:M.NodWf n)(w:Int):Ck u n w=some (X2 n w):=by
 unfold Ck;simp only [X1 hu hn,UL hu,wk]; rfl
def Fe(s i:Int):Int:=if bD s && fQ i then sC .i64 s (iq .i64 1 i) else s
theorem UN(u:Nat)(s i:Int):jM u s i=some (Fe s i):=by
 unfold jM qN Fe;simp only [iX,b5,wk]
 cases bD s with
 | false=>rfl
 | true =>
  cases h:fQ i with
  | false=>rw [show aw i 0 39=false from h]; rfl
  | true =>
   have:=cd h;rw [show aw i 0 39=true from h,bg aD]; rfl
theorem UO(u:Nat)(s i:Int):wM u s i=some (Fe s i):=by
 unfold wM vu Fe;simp only [jP,Je,wk]
 cases bD s with
 | false=>rfl
 | true =>
  cases h:fQ i with
  | false=>rfl
  | true =>
   have:=cd h;rw [bg aD]; rfl
def H1(n:aA)(k:Int):Int:=if n.aH=5 then Fe (DY n.aW 0) k else DY n.aW 0
theorem UP{u:Nat}(hu:1099511627776<=u){n:aA}(hk:n.aW.length<=1048576)(k:Int):zp u n k=some (H1 n k):=by
 unfold zp xk H1;simp only [Xt hu hk,UN,wk]
 by_cases h:n.aH=5
 ·simp [h]
 ·have e:(n.aH == 5)=false:=by simpa using h
  simp [h,e]
theorem UQ{u:Nat}(hu:1099511627776<=u){n:aA}(hk:n.aW.length<=1048576)(k:Int):zW u n k=some (H1 n k):=by
 unfold zW xH H1;simp only [Xs hu hk,UO,wk]
 by_cases h:n.aH=5
 ·simp [h]
 ·have e:(n.aH == 5)=false:=by simpa using h
  simp [h,e]
def KZ(g w d:Int):eC:=⟨2,g,Lv,w,d,0,[]⟩
theorem M6(g w d:Int):M.MsgWf (KZ g w d):=L1 _ _ _ _ _ la jC
def uN(c:eG)(n:aA)(d:ar)(b q:Int):aA:=⟨n.eh,b,q,n.ay,n.aZ,(ia d n.ay n.aZ n.aH).2,jo n.aW c.bd,n.a7⟩
def yu(c:eG)(k:Int)(n:aA)(d:ar)(b q:Int):H5 :=
 ⟨uN c n d b q,(ia d n.ay n.aZ n.aH).1,[qv k b (KZ n.ay.aN (X2 (uN c n d b q) c.bi) (H1 (uN c n d b q) k))]⟩
def l9(t:bV)(c:eG)(k:Int)(n:aA)(d:ar):H5 :=
 if !n.eh then ⟨n,d,[]⟩
 else if k=0 then ⟨jh n (jo n.aW c.bd),d,[]⟩
 else if c.a9<=n.ba then yu c k n d (yr t k n.bh) 0
 else yu c k n d n.bh (aS .i64 n.ba 1)
theorem II(l:List Kid)(f:Int):(jo l f).length<=l.length:=by
 unfold jo;rw [zXQ];exact zZj _ _
theorem KB{n:aA}(hn:M.NodWf n)(c:eG)(d:ar)(b q:Int):M.NodWf (uN c n d b q):=⟨hn.s,hn.b,zWV (II _ _) hn.k,hn.w⟩
theorem UR{u:Nat}(hu:1099511627776<=u){c:eG}{k:Int}{n:aA}(hn:M.NodWf n)(hk:n.aW.length<=1048576){d:ar}(hd:M.DOk d)(hl:d.fP.length<=1048575)(b q:Int):zt u k c d n b q (jo n.aW c.bd) d=some (yu c k n d b q):=by
 unfold zt yu;have ha:=II n.aW c.bd;rw [M1 hu hd hl hn.s hn.b,wk];rw [show (aA.mk n.eh b q n.ay n.aZ (ia d n.ay n.aZ n.aH).2 (jo n.aW c.bd) n.a7)=uN c n d b q from rfl];rw [X3 hu (KB hn c d b q),wk,UP hu (show (uN c n d b q).aW.length<=1048576 from zWV ha hk),wk];unfold DM;rw [wk,show (∀ w x,eC.mk 2 n.ay.aN (ae.mk 0 0 0 []) w x 0 []=KZ n.ay.aN w x) from λ_ _=>rfl,nW hu _ _ (M6 _ _ _),wk,qaG];rfl
theorem US{u:Nat}(hu:1099511627776<=u){c:eG}{k:Int}{n:aA}(hn:M.NodWf n)(hk:n.aW.length<=1048576){d:ar}(hd:M.DOk d)(hl:d.fP.length<=1048575)(b q:Int):zX u k c n d n b q (jo n.aW c.bd) d=some (yu c k n d b q):=by
 unfold zX yu;have ha:=II n.aW c.bd;rw [M2 hu hd hl hn.s hn.b,wk];rw [show (aA.mk n.eh b q n.ay n.aZ (ia d n.ay n.aZ n.aH).2 (jo n.aW c.bd) n.a7)=uN c n d b q from rfl];rw [X4 hu (KB hn c d b q),wk,UQ hu (show (uN c n d b q).aW.length<=1048576 from zWV ha hk),wk];unfold DR;rw [wk,show (∀ w x,eC.mk 2 n.ay.aN (ae.mk 0 0 0 []) w x 0 []=KZ n.ay.aN w x) from λ_ _=>rfl,nX hu _ _ (M6 _ _ _),wk]
theorem qaO{u:Nat}(hu:1099511627776<=u){t:bV}(ht:t.bP.length<=1048576)(c:eG)(k:Int){n:aA}(hn:M.NodWf n)(hk:n.aW.length<=1048576){d:ar}(hd:M.DOk d)(hl:d.fP.length<=1048575):Ha u t c k n d=some (l9 t c k n d):=by
 unfold Ha l9;simp only [gT u hn,j8 hu hd,XN hu hk,RQ hu ht,wk,UR hu hn hk hd hl];rw [show (aA.mk n.eh n.bh n.ba n.ay n.aZ n.aH (jo n.aW c.bd) n.a7)=jh n (jo n.aW c.bd) from rfl]
 cases n.eh with
 | false=>rfl
 | true =>
  by_cases h:k=0
  ·subst h; rfl
  ·have e:(k == 0)=false:=by simpa using h
   by_cases h2:c.a9<=n.ba
   ·have e2:decide (n.ba>=c.a9)=true:=by simpa using h2
    simp [h,e,e2,h2]
   ·have e2:decide (n.ba>=c.a9)=false:=by simp; omega
    simp [h,e,e2,h2]
theorem qaP{u:Nat}(hu:1099511627776<=u){t:bV}(ht:t.bP.length<=1048576)(c:eG)(k:Int){n:aA}(hn:M.NodWf n)(hk:n.aW.length<=1048576){d:ar}(hd:M.DOk d)(hl:d.fP.length<=1048575):Ho u t c k n d=some (l9 t c k n d):=by
 unfold Ho l9;simp only [hZ u hn,jn hu hd,XO hu hk,RR hu ht,wk,US hu hn hk hd hl];rw [show (aA.mk n.eh n.bh n.ba n.ay n.aZ n.aH (jo n.aW c.bd) n.a7)=jh n (jo n.aW c.bd) from rfl]
 cases n.eh with
 | false=>rfl
 | true =>
  by_cases h:k=0
  ·subst h; rfl
  ·have e:(k == 0)=false:=by simpa using h
   by_cases h2:c.a9<=n.ba
   ·have e2:decide (n.ba>=c.a9)=true:=by simpa using h2
    simp [h,e,e2,h2]
   ·have e2:decide (n.ba>=c.a9)=false:=by simp; omega
    simp [h,e,e2,h2]
theorem qdp(m:eC):(iY m).length<=1000:=by
 unfold iY
 split
 ·rename_i hok;have k:=bq [] m.bp;have g:=bq (aX [] m.bp) m.aN;have l:=bq (fm m) (cP (fm m));simp only [zXj] at k
  suffices h:(fm m).length<=600 by omega
  unfold fm sF
  split
  ·have:=L0 (aX [] m.bp) m.ay; omega
  ·rename_i n1
   split
   ·have h1:=bq (aX (aX [] m.bp) m.aN) (gU .i64 m.bJ 1048575);have h2:=bq (aX (aX (aX [] m.bp) m.aN) (gU .i64 m.bJ 1048575)) (qm .i64 m.bJ 20);have h3:=bq (aX (aX (aX (aX [] m.bp) m.aN) (gU .i64 m.bJ 1048575)) (qm .i64 m.bJ 20)) (gU .i64 m.bG 1048575);have h4:=bq (aX (aX (aX (aX (aX [] m.bp) m.aN) (gU .i64 m.bJ 1048575)) (qm .i64 m.bJ 20)) (gU .i64 m.bG 1048575)) (qm .i64 m.bG 20);omega
   ·rename_i n2
    split
    ·rename_i n3;have h1:=bq (aX (aX [] m.bp) m.aN) m.fI;have h2:=bq (aX (aX (aX [] m.bp) m.aN) m.fI) m.fB.length;have h3:m.fB.length<=6:=by
      unfold nB at hok;simp only [n1,n2,n3] at hok;have h4:aw m.fB.length 1 6=true:=by
       revert hok
       cases aw (m.fB.length:Int) 1 6 <;> simp
      have:=cd h4;omega
     rw [zQh]; omega
    ·split <;> omega
 ·simp
def AP(p:ah):Prop:=aK p.fB/\p.fB.length<=1048576
theorem SR(f t:Int){m:eC}(hm:M.MsgWf m):AP (qv f t m):=⟨ID hm,by have:=qdp m; show (iY m).length<=_; omega⟩
def fv(s:List ah×List br×Int)(p:ah):List ah×List br×Int :=
 if 400<=s.1.length then (s.1,s.2.1,aS .i64 s.2.2 1)
 else (s.1++[p],if (eu p.fB).2 && ((eu p.fB).1.bp == 3) && decide (s.2.1.length < 3000) then s.2.1++[⟨p.cM,p.w9,(eu p.fB).1.fI⟩] else s.2.1,s.2.2)
def X5(w:World)(out:List ah):World :=
 ⟨w.fC,w.fT,w.cF,w.cu,w.fN,w.fD,(out.foldl fv (w.bM,w.dv,w.ch)).1,(out.foldl fv (w.bM,w.dv,w.ch)).2.1,(out.foldl fv (w.bM,w.dv,w.ch)).2.2⟩
theorem Ff(u:Nat){p:ah}(h:AP p):gQ u p=some p:=by
 unfold gQ;rw [eY u (by have:=h.2; omega)]; rfl
theorem qb5{u:Nat}(hu:1099511627776<=u)(w:World)(out:List ah)(ho:∀ p∈out,AP p)(hl:out.length<=1048576):∀ (l:List ah) (k j:Nat) (s:List ah×List br×Int),l=out.drop j->l.length < k ->
  dV u k out (j:Int) w s.1 s.2.1 s.2.2=some ⟨w.fC,w.fT,w.cF,w.cu,w.fN,w.fD,(l.foldl fv s).1,(l.foldl fv s).2.1,(l.foldl fv s).2.2⟩:=by
 intro l
 induction l with
 | nil =>
  intro k j s h hf;obtain ⟨k,rfl⟩:∃ k',k=k'+1:=⟨k - 1,by simp at hf; omega⟩;have hj:out.length<=j:=by
   have:=congrArg zYZ h; simp at this; omega
  have e:decide ((j:Int) < (out.length:Int))=false:=by simp; omega
  simp only [dV,e,cond_false];rfl
 | cons x l ih =>
  intro k j s h hf;obtain ⟨k,rfl⟩:∃ k',k=k'+1:=⟨k - 1,by simp at hf; omega⟩;have hx:out[j]?=some x:=by
   have:=congrArg zYY h
   simpa [zXW] using this.symm
  have hl2:l=out.drop (j+1):=by
   have:=congrArg zYq h
   simpa [zXV] using this
  have hj:=(aab.1 hx).1;have e:decide ((j:Int) < (out.length:Int))=true:=by simp; omega
  have hb:aS .i64 (j:Int) 1=((j+1:Nat):Int):=j7 (a:=j) (b:=1) aD;have px:=ho x (zQX hx);have r:=ih k (j+1) (fv s x) hl2 (by simp at hf; omega);simp only [zYG,<- r];simp only [dV,e,cond_true,bu,hx,wk,Pn px.2,Kl hu px.1 px.2,kA,pj,hb]
  by_cases h4:400<=s.1.length
  ·have e4:decide (((s.1.length:Int))>=400)=true:=by simp; omega
   simp only [e4,cond_true,fv,h4,if_true]
  ·have e4:decide (((s.1.length:Int))>=400)=false:=by simp; omega
   simp only [e4,cond_false,R7 (show s.1.length<=1048576 by omega),wk,fv,h4,if_false,zQy]
   cases h5:(eu x.fB).2 with
   | false=>simp
   | true =>
    cases h6:((eu x.fB).1.bp == 3) with
    | false=>simp
    | true =>
     by_cases h7:s.2.1.length < 3000
     ·have e7:decide ((s.2.1.length:Int) < 3000)=true:=by simp; omega
      have e8:de (decide ((s.2.1.length + [br.mk x.cM x.w9 (eu x.fB).1.fI].length)*24<=140737488355328))=some ():=bg il;simp only [e7,e8,h7,cond_true,wk,decide_true,zWj,if_true]
     ·have e7:decide ((s.2.1.length:Int) < 3000)=false:=by simp; omega
      simp [e7,h7]
theorem Js{u:Nat}(hu:1099511627776<=u)(w:World){out:List ah}(ho:∀ p∈out,AP p)(hl:out.length<=1048576):zA u w out=some (X5 w out) :=
 qb5 hu w out ho hl out u 0 (w.bM,w.dv,w.ch) rfl aD
theorem qb6{u:Nat}(hu:1099511627776<=u)(w:World)(out:List ah)(ho:∀ p∈out,AP p)(hl:out.length<=1048576):∀ (l:List ah) (k j:Nat) (s:List ah×List br×Int),l=out.drop j->l.length < k ->
  cQ u k out (j:Int) w s.1 s.2.1 s.2.2=some ⟨w.fC,w.fT,w.cF,w.cu,w.fN,w.fD,(l.foldl fv s).1,(l.foldl fv s).2.1,(l.foldl fv s).2.2⟩:=by
 intro l
 induction l with
 | nil =>
  intro k j s h hf;obtain ⟨k,rfl⟩:∃ k',k=k'+1:=⟨k - 1,by simp at hf; omega⟩;have hj:out.length<=j:=by
   have:=congrArg zYZ h; simp at this; omega
  have e:decide ((j:Int) < (out.length:Int))=false:=by simp; omega
  simp only [cQ,e,cond_false];rfl
 | cons x l ih =>
  intro k j s h hf;obtain ⟨k,rfl⟩:∃ k',k=k'+1:=⟨k - 1,by simp at hf; omega⟩;have hx:out[j]?=some x:=by
   have:=congrArg zYY h
   simpa [zXW] using this.symm
  have hl2:l=out.drop (j+1):=by
   have:=congrArg zYq h
   simpa [zXV] using this
  have hj:=(aab.1 hx).1;have e:decide ((j:Int) < (out.length:Int))=true:=by simp; omega
  have hb:aS .i64 (j:Int) 1=((j+1:Nat):Int):=j7 (a:=j) (b:=1) aD;have px:=ho x (zQX hx);have r:=ih k (j+1) (fv s x) hl2 (by simp at hf; omega);simp only [zYG,<- r];simp only [cQ,e,cond_true,bu,hx,wk,Ff u px,Kk hu px.1 px.2,f0,kg,hb]
  by_cases h4:400<=s.1.length
  ·have e4:decide (((s.1.length:Int))>=400)=true:=by simp; omega
   simp only [e4,cond_true,fv,h4,if_true]
  ·have e4:decide (((s.1.length:Int))>=400)=false:=by simp; omega
   simp only [e4,cond_false,R7 (show s.1.length<=1048576 by omega),wk,fv,h4,if_false,zQy]
   cases h5:(eu x.fB).2 with
   | false=>simp
   | true =>
    cases h6:((eu x.fB).1.bp == 3) with
    | false=>simp
    | true =>
     by_cases h7:s.2.1.length < 3000
     ·have e7:decide ((s.2.1.length:Int) < 3000)=true:=by simp; omega
      have e8:de (decide ((s.2.1.length + [br.mk x.cM x.w9 (eu x.fB).1.fI].length)*24<=140737488355328))=some ():=bg il;simp only [e7,e8,h7,cond_true,wk,decide_true,zWj,if_true]
     ·have e7:decide ((s.2.1.length:Int) < 3000)=false:=by simp; omega
      simp [e7,h7]
theorem Pz{u:Nat}(hu:1099511627776<=u)(w:World){out:List ah}(ho:∀ p∈out,AP p)(hl:out.length<=1048576):q9 u w out=some (X5 w out) :=
 qb6 hu w out ho hl out u 0 (w.bM,w.dv,w.ch) rfl aD
theorem ZO{b p:List Int}(hb:aK b)(hp:aK p)(a:Nat):aK (LW b a p):=by
 unfold LW;have hx:aK (b++zQV (a+p.length - b.length) 0):=F9 hb (λx hx=>by have:=List.eq_of_mem_replicate hx; omega);exact (Kt il hx hp).1
theorem ZP{d:ar}(hd:M.DB d){p:bR}(hp:aK p.fB):M.DB (j9 d p):=⟨hd.a,hd.b,λx hx=>by
 simp only [j9,zWg,zWW] at hx;rcases hx with hx | rfl
 ·exact hd.p x hx
 ·exact hp⟩
theorem qb7{d:ar}(hd:M.DB d)(s a:Int){b:List Int}(hb:aK b):M.DB (ke d s a b).1:=by
 rcases SQ d s a b with ⟨h1,_⟩ | h1
 ·rw [h1]; exact ZP hd hb
 ·rw [h1]; exact hd
theorem PA{d0:ar}(h0:M.DB d0){b:List Int}(hb:aK b){size:Int}:∀ (n i:Nat) (d:ar),M.DB d->M.DB (l8 d0 b size n i d).1
 | 0,i,d,hd=>hd
 | n+1,i,d,hd=>by
  unfold l8
  split
  ·exact PA h0 hb n (i+1) _ (qb7 hd _ _ (GH hb size i).1)
  ·exact h0
theorem qeW{d:ar}(hd:M.DB d){p:bR}(hp:aK p.fB):M.DB (AG d p):=by
 unfold AG
 split
 ·exact ⟨hd.a,hd.b,hd.p⟩
 ·split
  ·exact ⟨ZO hd.a hp _,hd.b,hd.p⟩
  ·exact ⟨hd.a,ZO hd.b hp _,hd.p⟩
theorem qd5:∀ (l:List bR) (d:ar),(∀ p∈l,aK p.fB)->M.DB d->M.DB (E1 l d)
 | [],d,_,hd=>⟨hd.a,hd.b,by simp [E1]⟩
 | p :: l,d,hp,hd=>qd5 l _ (λq hq=>hp q (by simp [hq])) (qeW hd (hp p jC))
theorem qd6{d:ar}(hd:M.DB d):M.DB (uJ d):=by
 unfold uJ
 split
 ·exact qd5 _ _ hd.p hd
 ·exact hd
theorem Y9{d:ar}(hd:M.DB d){m:ae}{x:aY}(hx:M.BldWf x)(ph:Int):M.DB (ia d m x ph).1:=by
 have hst:M.DB (oO d x.bj m.aG).1:=by
  unfold oO
  split
  ·exact PA hd hx.b _ _ _ hd
  ·exact hd
 have hr:M.DB (l7 d ⟨m.aN,dO d,m.aV⟩).1:=by
  unfold l7;rcases qdk d ⟨2,0,[],⟨m.aN,dO d,m.aV⟩⟩ with ⟨h1,h2⟩ | h1
  ·rw [h1]; exact ZP hd la
  ·rw [h1]; exact hd
 unfold ia
 split
 ·split
  ·exact hst
  ·exact hd
 ·split
  ·exact qd6 hd
  ·split
   ·split
    ·exact hr
    ·exact hd
   ·split
    ·exact qd6 hd
    ·exact hd
structure M.ActWf (n:aA) (out:List ah):Prop where
 n:M.NodWf n
 o:∀ p∈out,AP p
 l:out.length<=1048576
theorem Sf{n:aA}(hn:M.NodWf n):M.ActWf n []:=⟨hn,λp hp=>by simp at hp,by simp⟩
theorem qg7{n:aA}(hn:M.NodWf n)(f t:Int){m:eC}(hm:M.MsgWf m):M.ActWf n [qv f t m]:=⟨hn,λp hp=>by
 simp only [zWW] at hp;rw [hp]; exact SR f t hm,by simp⟩
theorem L7{n:aA}(hn:M.NodWf n)(f t i:Int):AP (AO n f t i):=by
 have w:=Fc n.ay hn.b i;exact SR f t (Fb _ _ w.1 w.2)
theorem K0{n:aA}(hn:M.NodWf n):M.NodWf (M.drop n):=⟨hn.s,hn.b,hn.k,hn.w⟩
theorem qaQ{n:aA}(hn:M.NodWf n)(f t:Int):M.ActWf (iA n f t).fN (iA n f t).nr:=by
 refine ⟨⟨hn.s,hn.b,?_,hn.w⟩,λp hp=>?_,zWV (Y8 n f t) aD⟩
 ·show (oN _ _ _).length<=_;rw [Pm]; exact hn.k
 ·unfold iA at hp;simp only [zXx] at hp;obtain ⟨i,_,rfl⟩:=hp;exact L7 hn f t i
theorem Za{n:aA}(hn:M.NodWf n)(hk:n.aW.length<=1048576)(me f:Int)(m:eC):M.ActWf (gu n me f m).fN (gu n me f m).nr:=by
 have hl:=XP n.aW f m.bJ m.bG;have hw:M.NodWf (jh n (qu n.aW f m.bJ m.bG)):=CF hn aD;have hs:=qaQ hw me f;unfold gu
 split
 ·exact Sf hn
 ·split
  ·exact qg7 hw _ _ (D6 0)
  ·split
   ·dsimp only
    split
    ·exact qg7 hs.n _ _ (D6 _)
    ·exact hs
   ·exact qg7 hw _ _ (R8 hn.s hn.w)
theorem qg8{n:aA}(hn:M.NodWf n)(me i:Int):∀ (l:List Kid) (s:List Kid×List ah),(∀ p∈s.2,AP p)->∀ p∈(l.foldl (fV n me i) s).2,AP p:=by
 intro l
 induction l with
 | nil=>intro s h; exact h
 | cons x l ih =>
  intro s h;refine ih _ λp hp=>?_;unfold fV at hp
  split at hp
  ·simp only [zWg,zWW] at hp;rcases hp with hp | rfl
   ·exact h p hp
   ·exact L7 hn _ _ _
  ·exact h p hp
theorem qdq{n:aA}(hn:M.NodWf n)(hk:n.aW.length<=1048576)(me i:Int):M.ActWf (my n me i).fN (my n me i).nr:=by
 have h:=qg5 n me i n.aW (n.aW,[]);unfold my
 split
 ·refine ⟨CF hn ?_,qg8 hn me i _ _ (λp hp=>by simp at hp),?_⟩
  ·have:=h.1; unfold Px; dsimp only at this ⊢; omega
  ·have:=h.2; unfold Px; simp only [zXj] at this; dsimp only; omega
 ·exact Sf hn
theorem qdr{n:aA}(hn:M.NodWf n){d:ar}(hb:M.DB d){m:ae}(hs:m.aI.length<=1048576)(hw:BN m):M.NodWf (pD n d m):=by
 obtain ⟨rb,rl⟩:=BU hb;unfold pD
 split
 ·split
  ·rename_i h;simp only [sk] at h;exact ⟨hs,(XU h.1 rb aD).b,hn.k,hw⟩
  ·exact hn
 ·split
  ·exact hn
  ·exact K0 hn
theorem qb8{n:aA}(hn:M.NodWf n)(hk:n.aW.length<=1048576)(me:Int){m:eC}(hm:M.MsgWf m):M.ActWf (ni n me m).fN (ni n me m).nr:=by
 unfold ni
 split
 ·exact Sf (K0 hn)
 ·split
  ·exact Sf hn
  ·split
   ·exact qdq (M5 hn (Kx hn.b m.fI hm.b)) hk me m.fI
   ·exact Sf (K0 hn)
theorem qb9{n:aA}(hn:M.NodWf n)(hk:n.aW.length<=1048576)(me:Int){d:ar}(hb:M.DB d){m:eC}(hm:M.MsgWf m):M.ActWf (lf n me d m).fN (lf n me d m).nr:=by
 unfold lf
 split
 ·exact Sf (qdr (Gj hn) hb hm.sums hm.wf)
 ·split
  ·exact qb8 (Gj hn) hk me hm
  ·split
   ·exact Sf (K0 (Gj hn))
   ·exact Sf (Gj hn)
theorem qg9(t:bV)(me:Int){n:aA}(hn:M.NodWf n)(hk:n.aW.length<=1048576){d:ar}(hb:M.DB d){p:ah}(hp:aK p.fB):M.ActWf (M.take t me n d p).fN (M.take t me n d p).nr:=by
 have w:=R9 hp;unfold M.take
 split
 ·exact Sf hn
 ·split
  ·split
   ·exact Za hn hk me _ _
   ·split
    ·exact qb9 hn hk me hb w
    ·exact Sf (K0 hn)
  ·exact Sf (K0 hn)
structure M.BeatWf (b:H5):Prop where
 a:M.ActWf b.fN b.nr
 d:M.DOk b.fD
 l:b.fD.fP.length<=200
 b:M.DB b.fD
theorem SS(c:eG)(k:Int){n:aA}(hn:M.NodWf n){d:ar}(hd:M.DOk d)(hl:d.fP.length<=200)(hb:M.DB d)(b q:Int):M.BeatWf (yu c k n d b q):=by
 have h:=XW hd hl (m:=n.ay) hn.b n.aH;exact ⟨qg7 (KB hn c d b q) _ _ (M6 _ _ _),h.1,h.2,Y9 hb hn.b _⟩
theorem qha(t:bV)(c:eG)(k:Int){n:aA}(hn:M.NodWf n){d:ar}(hd:M.DOk d)(hl:d.fP.length<=200)(hb:M.DB d):M.BeatWf (l9 t c k n d):=by
 unfold l9
 split
 ·exact ⟨Sf hn,hd,hl,hb⟩
 ·split
  ·exact ⟨Sf (CF hn (zWV (II _ _) hn.k)),hd,hl,hb⟩
  ·split
   ·exact SS c k hn hd hl hb _ _
   ·exact SS c k hn hd hl hb _ _
def fa(l:List Kid):List Int:=l.map λx=>x.gj
structure M.IdsOk (s:List Int):Prop where
 r:∀ x∈s,0<=x/\x<=6
 p:s.Pairwise (· < ·)
def qe(l:List Kid):Prop:=M.IdsOk (fa l)
theorem qf8:∀ (s:List Int) (a:Int),a<=7->(∀ x∈s,a<=x/\x<=6)->s.Pairwise (· < ·)->(s.length:Int)<=7 - a
 | [],a,ha,_,_=>by simp; omega
 | x :: s,a,ha,h,p=>by
  rw [List.pairwise_cons] at p;have hx:=h x jC;have:=qf8 s (x+1) aD (λy hy=>⟨by have:=p.1 y hy; omega,(h y (by simp [hy])).2⟩) p.2;simp only [zQq];omega
theorem qeX{l:List Kid}(h:qe l):l.length<=7:=by
 have:=qf8 (fa l) 0 aD h.r h.p;simp only [fa,zXQ] at this;omega
theorem qaR{l:List Kid}{j:Nat}{x y:Kid}(h:l[j]?=some x)(hi:y.gj=x.gj):fa (l.set j y)=fa l:=by
 unfold fa
 apply List.ext_getElem?
 intro i;simp only [zQk,zXg]
 by_cases e:j=i
 ·subst e;obtain ⟨hj,hx⟩:=aab.1 h;simp [hj,hx,hi]
 ·simp [e]
theorem PB(l:List Kid)(id s:Int):fa (oN l id s)=fa l:=by
 unfold oN;rcases qd l id with ⟨h1,_⟩ | ⟨j,x,h1,h2,_⟩
 ·rw [h1]; rfl
 ·rw [h1];simp only [bu,h2,rg]
  split
  ·exact qaR h2 rfl
  ·rfl
theorem qaS{l:List Kid}(h:qe l)(f:Int):qe (jo l f):=by
 have e:fa (jo l f)=fa (l.filter λx=>decide (x.mg < f)):=by
  unfold fa jo;rw [List.map_map]; rfl
 have sub:(fa (l.filter λx=>decide (x.mg < f))).Sublist (fa l):=List.Sublist.map _ List.filter_sublist;unfold qe;rw [e];exact ⟨λx hx=>h.r x (sub.subset hx),h.p.sublist sub⟩
theorem ST{α:Type}(f:α->Bool):∀ (l:List α) (i j:Nat),eg f l i=((i+j:Nat):Int)->∀ x∈l.take j,f x=false
 | [],i,j,_=>by simp
 | y :: l,i,0,_=>by simp
 | y :: l,i,j+1,h=>by
  unfold eg at h
  split at h
  ·omega
  ·rename_i hy;intro x hx;simp only [List.take_succ_cons,zYk] at hx;rcases hx with rfl | hx
   ·simpa using hy
   ·exact ST f l (i+1) j (by rw [h]; congr 1; omega) x hx
theorem X6{l:List Kid}(h:qe l){k:Nat}{y:Kid}(hy:0<=y.gj/\y.gj<=6)(h1:∀ x∈l.take k,x.gj < y.gj)(h2:∀ x∈l.drop k,y.gj < x.gj):qe (l.take k++[y]++l.drop k):=by
 have e:fa l=fa (l.take k)++fa (l.drop k):=by unfold fa; rw [<- zXh,List.take_append_drop]
 have hp:=h.p;rw [e,List.pairwise_append] at hp;have e2:fa (l.take k++[y]++l.drop k)=fa (l.take k)++([y.gj]++fa (l.drop k)):=by unfold fa; simp
 unfold qe;rw [e2];constructor
 ·intro z hz;simp only [zWg,zWW] at hz;rcases hz with hz | rfl | hz
  ·exact h.r z (by rw [e]; simp [hz])
  ·exact hy
  ·exact h.r z (by rw [e]; simp [hz])
 ·rw [List.pairwise_append];refine ⟨hp.1,?_,?_⟩
  ·rw [zYX,List.pairwise_cons];refine ⟨λz hz=>?_,hp.2.1⟩;unfold fa at hz;rw [zXx] at hz;obtain ⟨x,hx,rfl⟩:=hz;exact h2 x hx
  ·intro a ha b hb;simp only [zWg,zWW] at hb;rcases hb with rfl | hb
   ·unfold fa at ha;rw [zXx] at ha;obtain ⟨x,hx,rfl⟩:=ha;exact h1 x hx
   ·exact hp.2.2 a ha b hb
theorem qds{l:List Kid}(h:qe l)(id w d:Int):qe (qu l id w d):=by
 unfold qu
 split
 ·rename_i hc;simp only [sk] at hc;have hid:=cd hc.1.1;rcases qd l id with ⟨h1,hno⟩ | ⟨j,x,h1,h2,_⟩
  ·rw [h1];have e:ce l (-1)=none:=by unfold ce; simp
   rw [e];dsimp only;unfold AM;rcases BS (λ(x:Kid)=>decide (x.gj > id)) l 0 with ⟨g1,g2⟩ | ⟨j,x,g1,g2,g3⟩
   ·rw [g1,if_pos aD];refine X6 h hid (λx hx=>?_) (λx hx=>by simp at hx);have hx:=zXK hx;have a:=g2 x hx;have b:=hno x hx;simp only [decide_eq_false_iff_not] at a;show x.gj < id;omega
   ·rw [g1,if_neg aD];have hj:=ST (λ(x:Kid)=>decide (x.gj > id)) l 0 j g1;rw [show (((0+j:Nat):Int)).toNat=j by omega];refine X6 h hid (λx hx=>?_) (λy hy=>?_)
    ·have a:=hj x hx;have b:=hno x (zXK hx);simp only [decide_eq_false_iff_not] at a;show x.gj < id;omega
    ·have lt:=(aab.1 g2).1;have e:l.drop j=x :: l.drop (j+1):=by
      rw [zWh lt,(aab.1 g2).2]
     have gx:id < x.gj:=by simpa using g3
     have hs:(fa (l.drop j)).Pairwise (· < ·):=h.p.sublist (List.Sublist.map _ (List.drop_sublist j l));rw [e] at hs hy;unfold fa at hs;rw [zWk,List.pairwise_cons] at hs;simp only [zYk] at hy;show id < y.gj;rcases hy with rfl | hy
     ·exact gx
     ·have:=hs.1 y.gj (List.mem_map.2 ⟨y,hy,rfl⟩);omega
  ·rw [h1];simp only [bu,h2,rg];unfold qe;rw [qaR (y:=⟨x.gj,w,sC .i64 x.bG d,0,x.ef⟩) h2 rfl];exact h
 ·exact h
theorem PC{α:Type}{f:α->Nat->Bool}:∀ {l:List α} {i:Nat},hU f l i=true->∀ (j:Nat) (x:α),l[j]?=some x->f x (i+j)=true
 | [],i,_,j,x,h=>by simp at h
 | y :: l,i,h,j,x,hx=>by
  unfold hU at h;simp only [sk] at h
  cases j with
  | zero =>
   simp only [zWH,Option.some.injEq] at hx;subst hx; exact h.1
  | succ j =>
   have:=PC h.2 j x (by simpa using hx);rw [show i+(j+1)=i+1+j by omega]; exact this
theorem PD{l:List Kid}(h:sG l=true):qe l:=by
 have g:∀ (j:Nat) (x:Kid),l[j]?=some x->CE l x j=true:=λj x hx=>by
  have:=PC h j x hx;rwa [zWJ] at this
 constructor
 ·intro z hz;unfold fa at hz;rw [zXx] at hz;obtain ⟨x,hx,rfl⟩:=hz;obtain ⟨j,hj⟩:=zYK hx;have:=g j x hj;unfold CE at this;simp only [sk] at this;exact cd this.1.1.1.1.1
 ·have step:∀ (j:Nat) (x y:Kid),l[j]?=some x->l[j+1]?=some y->x.gj < y.gj:=λj x y hx hy=>by
   have:=g (j+1) y hy;unfold CE at this;simp only [sk,Nat.add_sub_cancel,hx,Nat.add_eq_zero_iff,Nat.one_ne_zero,and_false,if_false] at this;have:=this.2;simp at this;exact this
  have chain:∀ (n i:Nat) (x y:Kid),l[i]?=some x->l[i+n+1]?=some y->x.gj < y.gj:=λn=>by
   induction n with
   | zero=>intro i x y hx hy; exact step i x y hx hy
   | succ n ih =>
    intro i x y hx hy;have lt:=(aab.1 hy).1;have hz:l[i+1]?=some (l[i+1]'aD):=sX aD;have a:=step i x _ hx hz;have b:=ih (i+1) _ y hz (by rw [show i+1+n+1=i+(n+1)+1 by omega]; exact hy);omega
  unfold fa;rw [List.pairwise_iff_getElem];intro i j hi hj hij;simp only [zXQ] at hi hj;simp only [List.getElem_map];exact chain (j - i - 1) i _ _ (sX hi) (by rw [show i+(j - i - 1)+1=j by omega]; exact sX hj)
theorem qf9{l:List Kid}(id w d:Int):∀ z∈fa (qu l id w d),z∈fa l\/z=id:=by
 unfold qu
 split
 ·rcases qd l id with ⟨h1,hno⟩ | ⟨j,x,h1,h2,_⟩
  ·rw [h1];have e:ce l (-1)=none:=by unfold ce; simp
   rw [e];dsimp only;intro z hz;unfold fa at hz ⊢;simp only [zXh,zWg,zWk,List.map_nil,zWW,zXx] at hz ⊢;rcases hz with (⟨x,hx,rfl⟩ | rfl) | ⟨x,hx,rfl⟩
   ·exact .inl ⟨x,zXK hx,rfl⟩
   ·exact .inr rfl
   ·exact .inl ⟨x,zYv hx,rfl⟩
  ·rw [h1];simp only [bu,h2,rg];rw [qaR (y:=⟨x.gj,w,sC .i64 x.bG d,0,x.ef⟩) h2 rfl];exact λz hz=>.inl hz
 ·exact λz hz=>.inl hz
structure M.KidsTo (S:Int->Prop) (l m:List Kid):Prop where
 s:qe l->qe m
 i:∀ z∈fa m,z∈fa l\/S z
theorem X7{S:Int->Prop}{l m:List Kid}(h:fa m=fa l):M.KidsTo S l m:=⟨λhl=>by unfold qe at hl ⊢; rw [h]; exact hl,λz hz=>.inl (h ▸ hz)⟩
theorem Fg{S:Int->Prop}(l:List Kid):M.KidsTo S l l:=X7 rfl
theorem qeY{S:Int->Prop}{l m k:List Kid}(a:M.KidsTo S l m)(h:fa k=fa m):M.KidsTo S l k:=⟨λhl=>by have:=a.s hl; unfold qe at this ⊢; rw [h]; exact this,λz hz=>a.i z (h ▸ hz)⟩
theorem qhb{S:Int->Prop}{l:List Kid}{id:Int}(hs:S id)(w d:Int):M.KidsTo S l (qu l id w d):=⟨λh=>qds h id w d,λz hz=>by
 rcases qf9 id w d z hz with h | h
 ·exact .inl h
 ·rw [h]; exact .inr hs⟩
theorem Zb(n:aA)(f t:Int):fa (iA n f t).fN.aW=fa n.aW:=PB _ _ _
theorem UT{S:Int->Prop}{n:aA}{me f:Int}(hs:S f)(m:eC):M.KidsTo S n.aW (gu n me f m).fN.aW:=by
 have h:M.KidsTo S n.aW (qu n.aW f m.bJ m.bG):=qhb hs _ _;have g:M.KidsTo S n.aW (iA (jh n (qu n.aW f m.bJ m.bG)) me f).fN.aW:=qeY h (Zb _ me f);unfold gu
 split
 ·exact Fg _
 ·split
  ·exact h
  ·split
   ·dsimp only
    split
    ·exact g
    ·exact g
   ·exact h
theorem qhc(n:aA)(me i:Int):∀ (l:List Kid) (s:List Kid×List ah),fa (l.foldl (fV n me i) s).1=fa s.1:=by
 intro l
 induction l with
 | nil=>intro s; rfl
 | cons x l ih =>
  intro s;rw [zYG,ih];unfold fV
  split
  ·exact PB _ _ _
  ·rfl
theorem qca(n:aA)(me i:Int):fa (my n me i).fN.aW=fa n.aW:=by
 unfold my
 split
 ·exact qhc n me i _ _
 ·rfl
theorem qaT(n:aA)(d:ar)(m:ae):(pD n d m).aW=n.aW:=by
 unfold pD
 split
 ·split <;> rfl
 ·split <;> rfl
theorem qaU(n:aA)(me:Int)(m:eC):fa (ni n me m).fN.aW=fa n.aW:=by
 unfold ni
 split
 ·rfl
 ·split
  ·rfl
  ·split
   ·exact qca _ _ _
   ·rfl
theorem qaV(n:aA)(me:Int)(d:ar)(m:eC):fa (lf n me d m).fN.aW=fa n.aW:=by
 unfold lf
 split
 ·show fa (pD _ _ _).aW=_;rw [qaT]; rfl
 ·split
  ·exact qaU _ _ _
  ·split <;> rfl
def i4(t:bV)(z:Int):Prop:=aw z 0 ((t.bP.length:Int) - 1)=true
theorem qeZ(t:bV)(me:Int)(n:aA)(d:ar)(p:ah):M.KidsTo (i4 t) n.aW (M.take t me n d p).fN.aW:=by
 unfold M.take
 split
 ·exact Fg _
 ·split
  ·rename_i h;simp only [sk] at h
   split
   ·exact UT h.1.2 _
   ·split
    ·exact X7 (qaV _ _ _ _)
    ·exact Fg _
  ·exact Fg _
def vP(me:Int)(S:Int->Prop)(out:List ah):Prop:=∀ q∈out,q.cM=me/\S q.w9
theorem AQ(me:Int)(S:Int->Prop):vP me S []:=λq hq=>by simp at hq
theorem X8{me t:Int}{S:Int->Prop}(h:S t)(m:eC):vP me S [qv me t m]:=λq hq=>by
 simp only [zWW] at hq;subst hq; exact ⟨rfl,h⟩
theorem qaW{S:Int->Prop}{n:aA}{me f:Int}(h:S f):vP me S (iA n me f).nr:=λq hq=>by
 unfold iA at hq;simp only [zXx] at hq;obtain ⟨i,_,rfl⟩:=hq;exact ⟨rfl,h⟩
theorem Zc{S:Int->Prop}{n:aA}{me f:Int}(h:S f)(m:eC):vP me S (gu n me f m).nr:=by
 unfold gu
 split
 ·exact AQ _ _
 ·split
  ·exact X8 h _
  ·split
   ·dsimp only
    split
    ·exact X8 h _
    ·exact qaW h
   ·exact X8 h _
theorem qhU{S:Int->Prop}{n:aA}{me i:Int}:∀ (l:List Kid) (s:List Kid×List ah),(∀ x∈l,S x.gj)->vP me S s.2->vP me S (l.foldl (fV n me i) s).2:=by
 intro l
 induction l with
 | nil=>intro s _ h; exact h
 | cons x l ih =>
  intro s hl h;refine ih _ (λy hy=>hl y (by simp [hy])) λq hq=>?_;unfold fV at hq
  split at hq
  ·simp only [zWg,zWW] at hq;rcases hq with hq | rfl
   ·exact h q hq
   ·exact ⟨rfl,hl x jC⟩
  ·exact h q hq
theorem qdt{S:Int->Prop}{n:aA}{me i:Int}(h:∀ x∈n.aW,S x.gj):vP me S (my n me i).nr:=by
 unfold my
 split
 ·exact qhU _ _ h (AQ _ _)
 ·exact AQ _ _
theorem qhd{t:bV}{me:Int}{n:aA}(h:∀ x∈n.aW,i4 t x.gj)(d:ar)(p:ah):vP me (i4 t) (M.take t me n d p).nr:=by
 unfold M.take
 split
 ·exact AQ _ _
 ·split
  ·rename_i hc;simp only [sk] at hc
   split
   ·exact Zc hc.1.2 _
   ·split
    ·unfold lf
     split
     ·exact AQ _ _
     ·split
      ·unfold ni
       split
       ·exact AQ _ _
       ·split
        ·exact AQ _ _
        ·split
         ·exact qdt (n:=HZ (Ky n) _) h
         ·exact AQ _ _
      ·first | exact AQ _ _ | (split <;> exact AQ _ _)
    ·exact AQ _ _
  ·exact AQ _ _
theorem qe0{t:bV}(h:iZ t=true){j:Nat}(h0:0 < j){x:Int}(hx:t.bP[j]?=some x):0<=x/\x < j:=by
 unfold iZ at h;simp only [sk] at h;have:=PC h.1 j x hx;rw [zWJ] at this;unfold Km at this;rw [if_neg aD] at this;have:=cd this;omega
theorem SU{t:bV}(h:iZ t=true){k:Nat}(h0:0 < k)(hk:k < t.bP.length)(b:Int):i4 t (yr t k b):=by
 have get:∀ j:Nat,0 < j->j < t.bP.length->i4 t ((t.bP[j]?).getD 0):=λj h0 hj=>by
  have e:=sX hj;have:=qe0 h h0 e;rw [e];unfold i4;simp only [Option.getD_some,aw,sk,decide_eq_true_eq];omega
 have hw:aw (k:Int) 1 ((t.bP.length:Int) - 1)=true:=by simp [aw]; omega
 unfold yr;rw [h,hw];simp only [zWj,if_true]
 split
 ·rename_i hc;simp only [sk,decide_eq_true_eq] at hc;have:=cd (XK hc.1);exact get b.toNat aD aD
 ·exact get _ il il
theorem qhe{t:bV}(h:iZ t=true)(c:eG){k:Nat}(hk:k < t.bP.length){n:aA}(hb:k≠0->i4 t n.bh)(d:ar):vP k (i4 t) (l9 t c k n d).nr/\(k≠0->i4 t (l9 t c k n d).fN.bh):=by
 unfold l9
 split
 ·exact ⟨AQ _ _,hb⟩
 ·split
  ·exact ⟨AQ _ _,hb⟩
  ·rename_i h1;have h0:0 < k:=by omega
   split
   ·exact ⟨X8 (SU h h0 hk _) _,λ_=>SU h h0 hk _⟩
   ·exact ⟨X8 (hb aD) _,λg=>hb g⟩
theorem qdu(l:List Kid)(f:Int):∀ z∈fa (jo l f),z∈fa l:=λz hz=>by
 unfold fa jo at *;simp only [List.map_map,zXx,List.mem_filter] at hz ⊢;obtain ⟨x,hx,rfl⟩:=hz;exact ⟨x,hx.1,rfl⟩
theorem qe1(S:Int->Prop)(t:bV)(c:eG)(k:Int)(n:aA)(d:ar):M.KidsTo S n.aW (l9 t c k n d).fN.aW:=by
 have h:M.KidsTo S n.aW (jo n.aW c.bd):=⟨λhl=>qaS hl _,λz hz=>.inl (qdu _ _ z hz)⟩;unfold l9
 split
 ·exact Fg _
 ·split
  ·exact h
  ·split <;> exact h
theorem qaX(n:aA)(d:ar)(m:ae):(pD n d m).bh=n.bh:=by
 unfold pD
 split
 ·split <;> rfl
 ·split <;> rfl
theorem UU(n:aA)(me f:Int)(m:eC):(gu n me f m).fN.bh=n.bh:=by
 unfold gu
 split
 ·rfl
 ·split
  ·rfl
  ·split
   ·dsimp only
    split <;> rfl
   ·rfl
theorem qaY(n:aA)(me i:Int):(my n me i).fN.bh=n.bh:=by
 unfold my
 split <;> rfl
theorem Zd(n:aA)(me:Int)(d:ar)(m:eC):(lf n me d m).fN.bh=n.bh:=by
 unfold lf
 split
 ·exact qaX _ _ _
 ·split
  ·unfold ni
   split
   ·rfl
   ·split
    ·rfl
    ·split
     ·exact qaY _ _ _
     ·rfl
  ·split <;> rfl
theorem qe2(t:bV)(me:Int)(n:aA)(d:ar)(p:ah):(M.take t me n d p).fN.bh=n.bh:=by
 unfold M.take
 split
 ·rfl
 ·split
  ·split
   ·exact UU _ _ _ _
   ·split
    ·exact Zd _ _ _ _
    ·rfl
  ·rfl
structure M.NodeIn (t:bV) (j:Nat) (n:aA):Prop where
 w:M.NodWf n
 s:qe n.aW
 k:∀ z∈fa n.aW,i4 t z
 b:j≠0->i4 t n.bh
structure M.DiskIn (d:ar):Prop where
 o:M.DOk d
 b:M.DB d
 l:d.fP.length<=200
structure M.PkIn (t:bV) (p:ah):Prop where
 w:AP p
 f:i4 t p.cM
 t:i4 t p.w9
structure M.WWf (w:World):Prop where
 t:iZ w.fT=true
 nl:w.fN.length=w.fT.bP.length
 dl:w.fD.length=w.fT.bP.length
 nodes:∀ (j:Nat) (n:aA),w.fN[j]?=some n->M.NodeIn w.fT j n
 disks:∀ (j:Nat) (d:ar),w.fD[j]?=some d->M.DiskIn d
 net:∀ p∈w.bM,M.PkIn w.fT p
 len:w.bM.length<=400
theorem CH{t:bV}{j:Nat}{n:aA}(h:M.NodeIn t j n):n.aW.length<=1048576:=by
 have:=qeX h.s; omega
theorem Dm{w:World}(h:M.WWf w):1<=w.fT.bP.length/\w.fT.bP.length<=7:=by
 have:=h.t;unfold iZ at this;simp only [sk] at this;have:=cd this.2;omega
theorem M7{t:bV}{z:Int}(h:i4 t z):∃ j:Nat,z=j/\j < t.bP.length:=by
 have:=cd h;exact ⟨z.toNat,by omega,by omega⟩
theorem qga{t:bV}:∀ (out:List ah) (s:List ah×List br×Int),(∀ p∈s.1,M.PkIn t p)->s.1.length<=400->(∀ p∈out,M.PkIn t p) ->
  (∀ p∈(out.foldl fv s).1,M.PkIn t p)/\(out.foldl fv s).1.length<=400:=by
 intro out
 induction out with
 | nil=>intro s h l _; exact ⟨h,l⟩
 | cons x out ih =>
  intro s h l ho;rw [zYG];refine ih _ ?_ ?_ (λp hp=>ho p (by simp [hp]))
  ·unfold fv
   split
   ·exact h
   ·intro p hp;simp only [zWg,zWW] at hp;rcases hp with hp | rfl
    ·exact h p hp
    ·exact ho p jC
  ·unfold fv
   split
   ·exact l
   ·simp only [zQh,zYx]; omega
theorem qcb{w:World}(h:M.WWf w){out:List ah}(ho:∀ p∈out,M.PkIn w.fT p):M.WWf (X5 w out):=by
 have:=qga out (w.bM,w.dv,w.ch) h.net h.len ho;exact ⟨h.t,h.nl,h.dl,h.nodes,h.disks,this.1,this.2⟩
theorem qaZ{α:Type}{P:Nat->α->Prop}{l:List α}(h:∀ (j:Nat) (x:α),l[j]?=some x->P j x){k:Nat}{y:α}(hy:P k y):∀ (j:Nat) (x:α),(l.set k y)[j]?=some x->P j x:=by
 intro j x hx;rw [zXg] at hx
 split at hx
 ·rename_i e
  split at hx
  ·simp only [Option.some.injEq] at hx;rw [<- hx,<- e]; exact hy
  ·cases hx
 ·exact h j x hx
def D7(w:World)(k:Nat)(n:aA)(d:ar):World:=⟨w.fC,w.fT,w.cF,w.cu,w.fN.set k n,w.fD.set k d,w.bM,w.dv,w.ch⟩
theorem qcc{w:World}(h:M.WWf w){k:Nat}{n:aA}{d:ar}(hn:M.NodeIn w.fT k n)(hd:M.DiskIn d):M.WWf (D7 w k n d) :=
 ⟨h.t,by simp [D7,h.nl],by simp [D7,h.dl],qaZ h.nodes hn,qaZ (P:=λ_ d=>M.DiskIn d) h.disks hd,h.net,h.len⟩
def iB(w:World)(k:Nat):World:=match w.fN[k]?,w.fD[k]? with
 | some n,some d=>X5 (D7 w k (l9 w.fT w.fC k n d).fN (l9 w.fT w.fC k n d).fD) (l9 w.fT w.fC k n d).nr
 | _,_=>w
theorem qa0{t:bV}(ht:iZ t=true)(c:eG){k:Nat}(hk:k < t.bP.length){n:aA}(hn:M.NodeIn t k n){d:ar}(hd:M.DiskIn d) :
  M.NodeIn t k (l9 t c k n d).fN/\M.DiskIn (l9 t c k n d).fD/\(∀ p∈(l9 t c k n d).nr,M.PkIn t p)/\(l9 t c k n d).nr.length<=1048576:=by
 have w:=qha t c k hn.w hd.o hd.l hd.b;have kk:=qe1 (i4 t) t c k n d;have to:=qhe ht c hk hn.b d;have hkk:i4 t (k:Int):=by unfold i4; simp [aw]; omega
 refine ⟨⟨w.a.n,kk.s hn.s,λz hz=>?_,to.2⟩,⟨w.d,w.b,w.l⟩,λp hp=>⟨w.a.o p hp,?_,(to.1 p hp).2⟩,w.a.l⟩
 ·rcases kk.i z hz with h | h
  ·exact hn.k z h
  ·exact h
 ·rw [(to.1 p hp).1]; exact hkk
theorem GQ{w:World}(h:M.WWf w){k:Nat}(hk:k < w.fT.bP.length):M.WWf (iB w k):=by
 unfold iB
 split
 ·rename_i n d hn hd;have g:=qa0 h.t w.fC hk (h.nodes k n hn) (h.disks k d hd);exact qcb (qcc h g.1 g.2.1) g.2.2.1
 ·exact h
theorem UV{u:Nat}(hu:1099511627776<=u){w:World}(h:M.WWf w){k:Nat}(hk:k < w.fT.bP.length):u7 u w k=some (iB w k):=by
 have up:=Dm h;have hn:w.fN[k]?=some (w.fN[k]'qgk):=sX _;have hd:w.fD[k]?=some (w.fD[k]'qgl):=sX _;generalize w.fN[k]'qgk=n at hn;generalize w.fD[k]'qgl=d at hd;have a:=h.nodes k n hn;have b:=h.disks k d hd;have g:=qa0 h.t w.fC hk a b;unfold u7 iB;simp only [bu,hn,hd,wk,qaO hu (show w.fT.bP.length<=1048576 by omega) w.fC k a.w (CH a) b.o (show d.fP.length<=1048575 by have:=b.l; omega),rg];rw [show (World.mk w.fC w.fT w.cF w.cu (w.fN.set k (l9 w.fT w.fC k n d).fN) (w.fD.set k (l9 w.fT w.fC k n d).fD) w.bM w.dv w.ch)=D7 w k (l9 w.fT w.fC k n d).fN (l9 w.fT w.fC k n d).fD from rfl,Js hu _ (λp hp=>(g.2.2.1 p hp).w) g.2.2.2];rfl
theorem qa1{u:Nat}(hu:1099511627776<=u){w:World}(h:M.WWf w){k:Nat}(hk:k < w.fT.bP.length):ra u w k=some (iB w k):=by
 have up:=Dm h;have hn:w.fN[k]?=some (w.fN[k]'qgk):=sX _;have hd:w.fD[k]?=some (w.fD[k]'qgl):=sX _;generalize w.fN[k]'qgk=n at hn;generalize w.fD[k]'qgl=d at hd;have a:=h.nodes k n hn;have b:=h.disks k d hd;have g:=qa0 h.t w.fC hk a b;unfold ra iB;simp only [bu,hn,hd,wk,qaP hu (show w.fT.bP.length<=1048576 by omega) w.fC k a.w (CH a) b.o (show d.fP.length<=1048575 by have:=b.l; omega),rg];rw [show (World.mk w.fC w.fT w.cF w.cu (w.fN.set k (l9 w.fT w.fC k n d).fN) (w.fD.set k (l9 w.fT w.fC k n d).fD) w.bM w.dv w.ch)=D7 w k (l9 w.fT w.fC k n d).fN (l9 w.fT w.fC k n d).fD from rfl,Pz hu _ (λp hp=>(g.2.2.1 p hp).w) g.2.2.2];rfl
def M8(w:World)(k:Nat):World:=⟨w.fC,w.fT,w.cF,w.cu,w.fN,w.fD,w.bM.take k++w.bM.drop (k+1),w.dv,w.ch⟩
theorem qgb{w:World}(h:M.WWf w)(k:Nat):M.WWf (M8 w k) :=
 ⟨h.t,h.nl,h.dl,h.nodes,h.disks,λp hp=>by
  simp only [M8,zWg] at hp;rcases hp with hp | hp
  ·exact h.net p (zXK hp)
  ·exact h.net p (zYv hp),by
  have:=h.len;simp only [M8,zQh,zQz,zZx]; omega⟩
theorem qa2(u:Nat){w:World}(h:M.WWf w){k:Nat}{p:ah}(hp:w.bM[k]?=some p):nO u w (k:Int)=some (p,M8 w k):=by
 have hk:=(aab.1 hp).1;have hl:=h.len;have hb:aS .i64 (k:Int) 1=((k+1:Nat):Int):=j7 (a:=k) (b:=1) aD;unfold nO d9;have e:(decide ((0:Int)<=(k:Int)) && decide ((k:Int) < ((k+1:Nat):Int)) && decide (((k+1:Nat):Int)<=(w.bM.length:Int)))=true:=by simp only [sk,decide_eq_true_eq]; omega
 simp only [bu,hp,wk,hb,e,cond_true,rg];rfl
def qdv(w:World)(k:Nat)(n:aA):World:=⟨w.fC,w.fT,w.cF,w.cu,w.fN.set k n,w.fD,w.bM,w.dv,w.ch⟩
theorem qgc{w:World}(h:M.WWf w){k:Nat}{n:aA}(hn:M.NodeIn w.fT k n):M.WWf (qdv w k n) :=
 ⟨h.t,by simp [qdv,h.nl],h.dl,qaZ h.nodes hn,h.disks,h.net,h.len⟩
def KC(w:World)(p:ah):World:=match w.fN[p.w9.toNat]?,w.fD[p.w9.toNat]? with
 | some n,some d=>X5 (qdv w p.w9.toNat (M.take w.fT p.w9 n d p).fN) (M.take w.fT p.w9 n d p).nr
 | _,_=>w
def jp(w:World)(k:Nat):World:=match w.bM[k]? with
 | some p=>KC (M8 w k) p
 | none=>w
theorem qa3{t:bV}{n:aA}{k:Nat}(hk:k < t.bP.length)(hn:M.NodeIn t k n){d:ar}(hd:M.DiskIn d){p:ah}(hp:M.PkIn t p) :
  M.NodeIn t k (M.take t k n d p).fN/\(∀ q∈(M.take t k n d p).nr,M.PkIn t q)/\(M.take t k n d p).nr.length<=1048576:=by
 have w:=qg9 t k hn.w (CH hn) hd.b hp.w.1;have kk:=qeZ t k n d p;have to:=qhd (me:=(k:Int)) (λx hx=>hn.k x.gj (List.mem_map.2 ⟨x,hx,rfl⟩)) d p;have hkk:i4 t (k:Int):=by unfold i4; simp [aw]; omega
 refine ⟨⟨w.n,kk.s hn.s,λz hz=>?_,λh0=>by rw [qe2]; exact hn.b h0⟩,λq hq=>⟨w.o q hq,?_,(to q hq).2⟩,w.l⟩
 ·rcases kk.i z hz with h | h
  ·exact hn.k z h
  ·exact h
 ·rw [(to q hq).1]; exact hkk
theorem qdw{w:World}(h:M.WWf w){p:ah}(hp:M.PkIn w.fT p):M.WWf (KC w p):=by
 obtain ⟨j,e,hj⟩:=M7 hp.t;unfold KC
 split
 ·rename_i n d hn hd;rw [e,rg] at hn hd ⊢;have g:=qa3 hj (h.nodes j n hn) (h.disks j d hd) hp;exact qcb (qgc h g.1) g.2.1
 ·exact h
theorem GR{w:World}(h:M.WWf w)(k:Nat):M.WWf (jp w k):=by
 unfold jp
 split
 ·rename_i p hp;exact qdw (qgb h k) (h.net p (zQX hp))
 ·exact h
theorem qa4{u:Nat}(hu:1099511627776<=u){w:World}(h:M.WWf w){k:Nat}(hk:k < w.bM.length):nQ u w k=some (jp w k):=by
 have up:=Dm h;have hp:w.bM[k]?=some w.bM[k]:=sX hk;generalize w.bM[k]=p at hp;have pin:=h.net p (zQX hp);obtain ⟨j,e,hj⟩:=M7 pin.t;have hn:w.fN[j]?=some (w.fN[j]'qgm):=sX _;have hd:w.fD[j]?=some (w.fD[j]'qgn):=sX _;generalize w.fN[j]'qgm=n at hn;generalize w.fD[j]'qgn=d at hd;have a:=h.nodes j n hn;have b:=h.disks j d hd;have g:=qa3 hj a b pin;unfold nQ jp;rw [qa2 u h hp,hp];unfold KC;simp only [wk,e,rg,bu];simp only [M8,hn,hd,wk,qaL hu (show w.fT.bP.length<=1048576 by omega) (j:Int) a.w (CH a) b.o b.b pin.w.1 pin.w.2];rw [Pz hu _ (λp hp=>(g.2.1 p hp).w) g.2.2];rfl
theorem UW{u:Nat}(hu:1099511627776<=u){w:World}(h:M.WWf w){k:Nat}(hk:k < w.bM.length):vh u w k=some (jp w k):=by
 have up:=Dm h;have hl:=h.len;have hp:w.bM[k]?=some w.bM[k]:=sX hk;generalize w.bM[k]=p at hp;have pin:=h.net p (zQX hp);obtain ⟨j,e,hj⟩:=M7 pin.t;have hn:w.fN[j]?=some (w.fN[j]'qgm):=sX _;have hd:w.fD[j]?=some (w.fD[j]'qgn):=sX _;generalize w.fN[j]'qgm=n at hn;generalize w.fD[j]'qgn=d at hd;have a:=h.nodes j n hn;have b:=h.disks j d hd;have g:=qa3 hj a b pin;have hb:aS .i64 (k:Int) 1=((k+1:Nat):Int):=j7 (a:=k) (b:=1) aD;have c1:de (dW 0 (k:Int) w.bM.length)=some ():=by
  rw [show (0:Int)=((0:Nat):Int) from rfl,eJ aD aD]
 have c2:de (dW ((k+1:Nat):Int) ((w.bM.length:Nat):Int) w.bM.length)=some ():=by
  rw [eJ aD aD]
 unfold vh jp;rw [hp];unfold KC;simp only [bu,hp,wk,hb,c1,c2,rg,show sY 0=0 from rfl,zZG,zQy,List.take_length];rw [bg il,wk,bg il,wk];simp only [e,rg,bu];simp only [M8,hn,hd,wk,qaK hu (show w.fT.bP.length<=1048576 by omega) (j:Int) a.w (CH a) b.o b.b pin.w.1 pin.w.2];rw [Js hu _ (λp hp=>(g.2.1 p hp).w) g.2.2];rfl
def Dn:Nat->World->World
 | 0,w=>w
 | n+1,w=>if w.bM.length=0 then w else Dn n (jp w 0)
def BV:Nat->Nat->World->World
 | 0,_,w=>w
 | n+1,k,w=>BV n (k+1) (iB w k)
def K1(w:World):World:=Dn 6000 (BV w.fN.length 0 w)
theorem qcd:∀ (n:Nat) {w:World},M.WWf w->M.WWf (Dn n w)
 | 0,w,h=>h
 | n+1,w,h=>by
  unfold Dn
  split
  ·exact h
  ·exact qcd n (GR h 0)
theorem worldTick_t(w:World)(k:Nat):(iB w k).fT=w.fT:=by
 unfold iB
 split <;> rfl
theorem ZQ:∀ (n k:Nat) {w:World},M.WWf w->k+n=w.fT.bP.length->M.WWf (BV n k w)/\(BV n k w).fT=w.fT
 | 0,k,w,h,_=>⟨h,rfl⟩
 | n+1,k,w,h,e=>by
  have g:=ZQ n (k+1) (GQ h (k:=k) aD) qgo;rw [worldTick_t] at g;exact g
theorem ZR{w:World}(h:M.WWf w):M.WWf (K1 w):=qcd 6000 (ZQ _ 0 h (by rw [h.nl]; omega)).1
theorem qdx{u:Nat}(hu:1099511627776<=u)(N:Nat)(hN:N<=6000):∀ (m i f:Nat) (w:World),M.WWf w->i+m=N->m < f ->
  jX u f N i w.fC.aG w.fC.bi w.fC.a9 w.fC.bd w.fT.bP w.cF w.cu w.fN w.fD w.bM w.dv w.ch=some (Dn m w):=by
 intro m
 induction m with
 | zero =>
  intro i f w h e hf;obtain ⟨f,rfl⟩:∃ f',f=f'+1:=⟨f - 1,by omega⟩;have c:decide ((i:Int) < (N:Int))=false:=by simp; omega
  simp only [jX,c,cond_false,tZ];rfl
 | succ m ih =>
  intro i f w h e hf;obtain ⟨f,rfl⟩:∃ f',f=f'+1:=⟨f - 1,by omega⟩;have c:decide ((i:Int) < (N:Int))=true:=by simp; omega
  have hb:aS .i64 (i:Int) 1=((i+1:Nat):Int):=j7 (a:=i) (b:=1) aD;simp only [jX,c,cond_true,tZ,Dn]
  by_cases hz:w.bM.length=0
  ·have c2:decide (((w.bM.length:Int)) > 0)=false:=by rw [hz]; rfl
   rw [if_pos hz];simp only [c2,cond_false]
  ·have c2:decide (((w.bM.length:Int)) > 0)=true:=by simp; omega
   have t:=UW hu h (k:=0) aD;have t2:vh u (World.mk (eG.mk w.fC.aG w.fC.bi w.fC.a9 w.fC.bd) (bV.mk w.fT.bP) w.cF w.cu w.fN w.fD w.bM w.dv w.ch) 0=some (jp w 0):=t;simp only [c2,cond_true,t2,wk,hz,if_false,hb];exact ih (i+1) f (jp w 0) (GR h 0) aD aD
theorem X9{u:Nat}(hu:1099511627776<=u){w:World}(h:M.WWf w):FI u w 6000=some (Dn 6000 w) :=
 qdx hu 6000 aD 6000 0 u w h rfl aD
theorem qa5{u:Nat}(hu:1099511627776<=u):∀ (m i f:Nat) (w:World),M.WWf w->i+m=w.fT.bP.length->m < f ->
  kY u f i w.fC.aG w.fC.bi w.fC.a9 w.fC.bd w.fT.bP w.cF w.cu w.fN w.fD w.bM w.dv w.ch=some (Dn 6000 (BV m i w)):=by
 intro m
 induction m with
 | zero =>
  intro i f w h e hf;obtain ⟨f,rfl⟩:∃ f',f=f'+1:=⟨f - 1,by omega⟩;have hl:=h.nl;have c:decide ((i:Int) < (w.fN.length:Int))=false:=by simp; omega
  simp only [kY,c,cond_false,Be,BV];rw [show World.mk (eG.mk w.fC.aG w.fC.bi w.fC.a9 w.fC.bd) (bV.mk w.fT.bP) w.cF w.cu w.fN w.fD w.bM w.dv w.ch=w from rfl,X9 hu h];rfl
 | succ m ih =>
  intro i f w h e hf;obtain ⟨f,rfl⟩:∃ f',f=f'+1:=⟨f - 1,by omega⟩;have hl:=h.nl;have up:=Dm h;have c:decide ((i:Int) < (w.fN.length:Int))=true:=by simp; omega
  have hb:aS .i64 (i:Int) 1=((i+1:Nat):Int):=j7 (a:=i) (b:=1) aD;have t2:u7 u (World.mk (eG.mk w.fC.aG w.fC.bi w.fC.a9 w.fC.bd) (bV.mk w.fT.bP) w.cF w.cu w.fN w.fD w.bM w.dv w.ch) i=some (iB w i):=UV hu h aD;simp only [kY,c,cond_true,t2,wk,hb,BV];exact ih (i+1) f (iB w i) (GQ h aD) qgo aD
theorem Sg{u:Nat}(hu:1099511627776<=u){w:World}(h:M.WWf w):wD u w=some (K1 w):=by
 have up:=Dm h;have hl:=h.nl;exact qa5 hu w.fN.length 0 u w h aD aD
def PE(k n:Int):AT:=⟨k,n,0,⟨0,0,[]⟩⟩
theorem qa6{u:Nat}(hu:1099511627776<=u){w:World}(h:M.WWf w):fH u w (PE 2 0)=some (decide (0 < w.bM.length),if w.bM.length=0 then w else jp w 0):=by
 have hl:=h.len;have up:=Dm h;have e:cJ .i64 ((w.bM.length:Int)) 1=(w.bM.length:Int) - 1:=cS aD aD;unfold fH j1 kK PE;simp only [kc u (show w.fT.bP.length<=1048576 by omega),bK,e,wk]
 by_cases hz:w.bM.length=0
 ·have c:aw 0 0 ((w.bM.length:Int) - 1)=false:=by rw [hz]; rfl
  rw [c,hz]; rfl
 ·have c:aw 0 0 ((w.bM.length:Int) - 1)=true:=by simp [aw]; omega
  have d:decide (0 < w.bM.length)=true:=by simp; omega
  have t:nQ u w 0=some (jp w 0):=qa4 hu h (k:=0) aD;rw [c,d,if_neg hz,t]; rfl
theorem qa7{u:Nat}(hu:1099511627776<=u){w:World}(h:M.WWf w){k:Nat}(hk:k < w.fT.bP.length):fH u w (PE 1 k)=some (true,iB w k):=by
 have hl:=h.len;have up:=Dm h;have c:aw (k:Int) 0 ((w.fT.bP.length:Int) - 1)=true:=by simp [aw]; omega
 unfold fH j1 PE;simp only [kc u (show w.fT.bP.length<=1048576 by omega),bK,c,wk,qa1 hu h hk];rfl
theorem qdy{u:Nat}(hu:1099511627776<=u)(N:Nat)(hN:N<=6000):∀ (m i f:Nat) (w:World),M.WWf w->i+m=N->m < f ->
  dM u f N i w.fC.aG w.fC.bi w.fC.a9 w.fC.bd w.fT.bP w.cF w.cu w.fN w.fD w.bM w.dv w.ch=some (Dn m w):=by
 intro m
 induction m with
 | zero =>
  intro i f w h e hf;obtain ⟨f,rfl⟩:∃ f',f=f'+1:=⟨f - 1,by omega⟩;have c:decide ((i:Int) < (N:Int))=false:=by simp; omega
  simp only [dM,c,cond_false];rfl
 | succ m ih =>
  intro i f w h e hf;obtain ⟨f,rfl⟩:∃ f',f=f'+1:=⟨f - 1,by omega⟩;have c:decide ((i:Int) < (N:Int))=true:=by simp; omega
  have hb:aS .i64 (i:Int) 1=((i+1:Nat):Int):=j7 (a:=i) (b:=1) aD;have t2:fH u (World.mk (eG.mk w.fC.aG w.fC.bi w.fC.a9 w.fC.bd) (bV.mk w.fT.bP) w.cF w.cu w.fN w.fD w.bM w.dv w.ch) (AT.mk 2 0 0 (ah.mk 0 0 []))=some (decide (0 < w.bM.length),if w.bM.length=0 then w else jp w 0):=qa6 hu h;simp only [dM,c,cond_true,t2,wk,Dn,hb]
  by_cases hz:w.bM.length=0
  ·rw [hz]; simp
  ·have d:decide (0 < w.bM.length)=true:=by simp; omega
   simp only [d,r0,cond_false,hz,if_false];exact ih (i+1) f (jp w 0) (GR h 0) aD aD
theorem UX{u:Nat}(hu:1099511627776<=u){w:World}(h:M.WWf w):qx u w 6000=some (Dn 6000 w) :=
 qdy hu 6000 aD 6000 0 u w h rfl aD
theorem qa8{u:Nat}(hu:1099511627776<=u)(w0:World):∀ (m i f:Nat) (w:World),M.WWf w->i+m=w.fT.bP.length->w0.fN.length=w.fT.bP.length->m < f ->
  eo u f w0 i w.fC.aG w.fC.bi w.fC.a9 w.fC.bd w.fT.bP w.cF w.cu w.fN w.fD w.bM w.dv w.ch=some (Dn 6000 (BV m i w)):=by
 intro m
 induction m with
 | zero =>
  intro i f w h e h0 hf;obtain ⟨f,rfl⟩:∃ f',f=f'+1:=⟨f - 1,by omega⟩;have c:decide ((i:Int) < (w0.fN.length:Int))=false:=by simp; omega
  simp only [eo,c,cond_false,p5,BV];rw [show World.mk (eG.mk w.fC.aG w.fC.bi w.fC.a9 w.fC.bd) (bV.mk w.fT.bP) w.cF w.cu w.fN w.fD w.bM w.dv w.ch=w from rfl,UX hu h];rfl
 | succ m ih =>
  intro i f w h e h0 hf;obtain ⟨f,rfl⟩:∃ f',f=f'+1:=⟨f - 1,by omega⟩;have up:=Dm h;have c:decide ((i:Int) < (w0.fN.length:Int))=true:=by simp; omega
  have hb:aS .i64 (i:Int) 1=((i+1:Nat):Int):=j7 (a:=i) (b:=1) aD;have t2:fH u (World.mk (eG.mk w.fC.aG w.fC.bi w.fC.a9 w.fC.bd) (bV.mk w.fT.bP) w.cF w.cu w.fN w.fD w.bM w.dv w.ch) (AT.mk 1 i 0 (ah.mk 0 0 []))=some (true,iB w i):=qa7 hu h aD;simp only [eo,c,cond_true,t2,wk,hb,BV];exact ih (i+1) f (iB w i) (GQ h aD) qgo qgo aD
theorem Ze{u:Nat}(hu:1099511627776<=u){w:World}(h:M.WWf w):p6 u w=some (K1 w):=by
 have up:=Dm h;have hl:=h.nl;exact qa8 hu w w.fN.length 0 u w h aD aD aD
def KD(n:aA):Bool:=nU n.ay && (n.aZ.aT == 0) && ((n.aZ.bj.length:Int) == 0)
theorem Jt{u:Nat}(hu:1099511627776<=u){n:aA}(hs:n.ay.aI.length<=1048576):uS u n=some (KD n):=by
 unfold uS KD;rw [xR hu hs,Pg];simp only [wk]
 cases nU n.ay <;> cases n.aZ.aT == 0 <;> rfl
def KE(n:aA):Bool:=if n.aH=0 then KD n else if n.aH=1 then (n.ay.aN != 0) && eZ n.ay n.aZ else aw n.aH 2 6 && IG n.ay n.aZ
theorem PF{u:Nat}(hu:1099511627776<=u){n:aA}(hs:n.ay.aI.length<=1048576)(hb:M.BldWf n.aZ):tL u n=some (KE n):=by
 unfold tL KE;simp only [Jt hu hs,xT hu hs hb,b5,L3 hu hs hb,wk]
 by_cases h0:n.aH=0
 ·simp [h0]
 ·by_cases h1:n.aH=1
  ·simp only [h1]
   cases (n.ay.aN != 0) <;> rfl
  ·have e0:(n.aH == 0)=false:=by simpa using h0
   have e1:(n.aH == 1)=false:=by simpa using h1
   simp only [e0,e1,h0,h1,cond_false,if_false]
   cases aw n.aH 2 6 <;> rfl
def te(t:bV)(k:Int)(x:Kid):Bool:=!(x.gj == k) && !decide (x.gj>=(t.bP.length:Int))
theorem KF{α:Type}(g:α->Bool):∀ (l:List α) (i:Nat),hU (λx _=>g x) l i=l.all g
 | [],_=>rfl
 | x :: l,i=>by simp only [hU,zYj,KF g l]
theorem PG{u:Nat}(hu:1099511627776<=u){t:bV}(k:Int){n:aA}(hs:n.ay.aI.length<=1048576)(hb:M.BldWf n.aZ)(hk:n.aW.length<=1048577):jU u u k 0 t n=some (n.aW.all (te t k) && KE n):=by
 rw [Qn u k t n () u aD aD,nh (λx _=>te t k x) (xs:=n.aW) (b:=KE n) (PF hu hs hb) 0 (λx i f _ hx=>?_) n.aW 0 (zWX _) rfl,KF];unfold G4 qJ te;simp only [bu,hx,wk]
 cases (x.gj == k) <;> cases decide (x.gj>=(t.bP.length:Int)) <;> rfl
def PH(n:aA):Bool:=(n.bh == 0) && (n.ba == 0) && KD n && (n.aH == 0) && ((n.aW.length:Int) == 0) && (n.a7 == 0)
def qa9(t:bV)(k:Int)(n:aA):Bool :=
 (if k=0 then n.bh == -1 else Jk t n.bh k) && !decide (n.ba < 0) && !decide (n.a7 < 0) && ((n.aH == 6) == (k == 0)) && sG n.aW && (n.aW.all (te t k) && KE n)
def oP(t:bV)(k:Int)(n:aA):Bool:=iZ t && aw k 0 ((t.bP.length:Int) - 1) && (if n.eh then qa9 t k n else PH n)
theorem Ya{u:Nat}(hu:1099511627776<=u){t:bV}(ht:t.bP.length<=1048576)(k:Int){n:aA}(hs:n.ay.aI.length<=1048576)(hb:M.BldWf n.aZ)(hk:n.aW.length<=1048576):yF u t k n=some (oP t k n):=by
 have eb:cJ .i64 ((t.bP.length:Int)) 1=(t.bP.length:Int) - 1:=cS aD aD;unfold yF zl cL oP;simp only [E7 hu (show t.bP.length<=1073741824 by omega),b5,eb,Jt hu hs,HR hu ht,XL hu hk,PG hu k hs hb (show n.aW.length<=1048577 by omega),wk]
 cases iZ t with
 | false=>rfl
 | true =>
  cases hw:aw k 0 ((t.bP.length:Int) - 1) with
  | false=>rfl
  | true =>
   have hk0:=cd hw
   cases n.eh with
   | false =>
    unfold PH
    cases (n.bh == 0) <;> cases (n.ba == 0) <;> cases KD n <;> cases (n.aH == 0) <;> cases ((n.aW.length:Int) == 0) <;> rfl
   | true =>
    unfold qa9
    by_cases h0:k=0
    ·have e1:(k == 0)=true:=by simpa using h0
     have e2:decide (k > 0)=false:=by simp; omega
     rw [if_pos h0];simp only [e1,e2,bne]
     cases (n.bh == -1) <;> cases decide (n.ba < 0) <;> cases decide (n.a7 < 0) <;> cases (n.aH == 6) <;> cases sG n.aW <;> rfl
    ·have e1:(k == 0)=false:=by simpa using h0
     have e2:decide (k > 0)=true:=by simp; omega
     rw [if_neg h0];simp only [e1,e2]
     cases Jk t n.bh k <;> cases decide (n.ba < 0) <;> cases decide (n.a7 < 0) <;> cases (n.aH == 6) <;> cases sG n.aW <;> rfl
theorem DL(u:Nat)(x:aY):nM u x=some ((x.aT == 0) && ((x.bj.length:Int) == 0)):=by
 unfold nM
 cases x.aT == 0 <;> rfl
def M9(n:aA):Bool:=if n.aH=0 then KD n else (n.ay.aN != 0) && eZ n.ay n.aZ && ((n.aH == 1) || (BB n.ay n.aZ == 0))
theorem UY{u:Nat}(hu:1099511627776<=u){n:aA}(hs:n.ay.aI.length<=1048576)(hb:M.BldWf n.aZ):oI u n=some (M9 n):=by
 unfold oI oQ M9 KD;simp only [AI,DL,xU hu hs hb,Dk u,wk]
 by_cases h0:n.aH=0
 ·rw [if_pos h0,h0]
  cases nU n.ay <;> cases (n.aZ.aT == 0) <;> rfl
 ·have e0:(n.aH == 0)=false:=by simpa using h0
  rw [if_neg h0,show (n.ay.aN != 0)=!(n.ay.aN == 0) from rfl];simp only [e0,cond_false]
  cases (n.ay.aN == 0) <;> cases eZ n.ay n.aZ <;> cases (n.aH == 1) <;> rfl
theorem qgd(n:aA):(aw n.aH 0 6 && M9 n)=KE n:=by
 unfold M9 KE IG
 by_cases h0:n.aH=0
 ·rw [if_pos h0,if_pos h0,h0]; rfl
 ·rw [if_neg h0,if_neg h0]
  by_cases h1:n.aH=1
  ·rw [if_pos h1,h1]
   cases (n.ay.aN != 0) <;> cases eZ n.ay n.aZ <;> rfl
  ·have e1:(n.aH == 1)=false:=by simpa using h1
   have e2:aw n.aH 2 6=aw n.aH 0 6:=by
    unfold aw;rw [zXX];simp only [sk,decide_eq_true_eq];omega
   rw [if_neg h1,e1,e2]
   cases aw n.aH 0 6 <;> cases (n.ay.aN != 0) <;> cases eZ n.ay n.aZ <;> rfl
def IJ(t:bV)(k:Int)(x:Kid):Bool:=aw x.gj 0 ((t.bP.length:Int) - 1) && !(x.gj == k)
theorem UZ{u:Nat}(hu:1099511627776<=u){l:List Kid}(hl:l.length<=1048576){t:bV}(ht:t.bP.length<=1048576)(k:Int):cm u l t k=some (l.any λx=>!IJ t k x):=by
 unfold cm cW;rw [lM u l t k () u aD aD,nK (λx=>!IJ t k x) rfl (λx i k hx=>by
  unfold ff wH IJ;rw [kc u ht];simp only [wk]
  cases aw x.gj 0 ((t.bP.length:Int) - 1)
  ·rfl
  ·simp)]
 simp only [wk,uG]
theorem qe3{t:bV}{k:Int}{l:List Kid}(h:sG l=true):l.all (IJ t k)=l.all (te t k):=by
 have r:=(PD h).r;have:∀ x∈l,IJ t k x=te t k x:=λx hx=>by
  have:=r x.gj (List.mem_map.2 ⟨x,hx,rfl⟩);have e:aw x.gj 0 ((t.bP.length:Int) - 1)=!decide (x.gj>=(t.bP.length:Int)):=by
   unfold aw;rw [zXX];simp only [sk,decide_eq_true_eq,Bool.not_eq_true',decide_eq_false_iff_not];omega
  unfold IJ te;rw [e,Bool.and_comm]
 rw [zXX,zZQ,zZQ];exact ⟨λg x hx=>this x hx ▸ g x hx,λg x hx=>(this x hx).symm ▸ g x hx⟩
theorem Yb{u:Nat}(hu:1099511627776<=u){t:bV}(ht:t.bP.length<=1048576)(k:Int){n:aA}(hs:n.ay.aI.length<=1048576)(hb:M.BldWf n.aZ)(hk:n.aW.length<=1048576):yJ u t k n=some (oP t k n):=by
 unfold yJ zQ oJ xC oP;simp only [E6 hu (show t.bP.length<=1073741824 by omega),kc u ht,AI,DL,HS hu ht,XM hu hk,bK,UY hu hs hb,UZ hu hk ht k,Kg,wk]
 cases iZ t with
 | false=>rfl
 | true =>
  cases hw:aw k 0 ((t.bP.length:Int) - 1) with
  | false=>rfl
  | true =>
   have hk0:=cd hw
   cases n.eh with
   | false =>
    unfold PH KD
    cases (n.bh == 0) <;> cases (n.ba == 0) <;> cases nU n.ay <;> cases (n.aZ.aT == 0) <;> cases ((n.aZ.bj.length:Int) == 0) <;> cases (n.aH == 0) <;> cases ((n.aW.length:Int) == 0) <;> rfl
   | true =>
    have core:(bif decide (n.ba>=0) then bif decide (n.a7>=0) then bif aw n.aH 0 6 then bif (n.aH == 6) == (k == 0) then bif M9 n then bif sG n.aW then some (n.aW.all (IJ t k)) else some false else some false else some false else some false else some false else some false)
      = some (!decide (n.ba < 0) && !decide (n.a7 < 0) && ((n.aH == 6) == (k == 0)) && sG n.aW && (n.aW.all (te t k) && KE n)):=by
     rw [<- qgd n];have q:decide (n.ba>=0)=!decide (n.ba < 0):=by
      by_cases h:n.ba < 0
      ·have:¬ n.ba>=0:=by omega
       simp [h,this]
      ·have:n.ba>=0:=by omega
       simp [h,this]
     have d:decide (n.a7>=0)=!decide (n.a7 < 0):=by
      by_cases h:n.a7 < 0
      ·have:¬ n.a7>=0:=by omega
       simp [h,this]
      ·have:n.a7>=0:=by omega
       simp [h,this]
     rw [q,d]
     cases hko:sG n.aW with
     | false =>
      generalize ((n.aH == 6) == (k == 0))=z
      cases decide (n.ba < 0) <;> cases decide (n.a7 < 0) <;> cases aw n.aH 0 6 <;> cases M9 n <;> cases z <;> rfl
     | true =>
      rw [qe3 hko];generalize ((n.aH == 6) == (k == 0))=z;generalize n.aW.all (te t k)=y
      cases decide (n.ba < 0) <;> cases decide (n.a7 < 0) <;> cases aw n.aH 0 6 <;> cases M9 n <;> cases z <;> cases y <;> rfl
    unfold qa9
    by_cases h0:k=0
    ·have e1:(k == 0)=true:=by simpa using h0
     have e2:(k != 0)=false:=by simpa using h0
     rw [if_pos h0]
     cases hbo:(n.bh == -1) with
     | false=>simp only [e1,e2,hbo]; rfl
     | true =>
      simp only [e1] at core;simp only [e1,hbo,r0,zQg,zXq,cond_false,cond_true,if_true];exact core
    ·have e1:(k == 0)=false:=by simpa using h0
     have e2:(k != 0)=true:=by simpa using h0
     rw [if_neg h0]
     cases Jk t n.bh k with
     | false=>simp only [e1,e2]; rfl
     | true =>
      simp only [e1] at core;simp only [e1,e2,r0,zQg,zXq,cond_false,cond_true,if_true];exact core
def w5(a b:List Int):Bool:=decide (b.length<=a.length) && yT (a.take b.length) b
theorem Gk(u:Nat)(a b:List Int):oD u a b=some (w5 a b):=by
 unfold oD w5
 by_cases h:b.length<=a.length
 ·have e:decide (((a.length:Int))>=((b.length:Int)))=true:=by simp; omega
  have c:de (dW 0 ((b.length:Int)) a.length)=some ():=by
   rw [show (0:Int)=((0:Nat):Int) from rfl,eJ aD h]
  simp only [e,h,c,cond_true,wk,Gd,rg,show sY 0=0 from rfl,zZG,decide_true,zQg]
 ·have e:decide (((a.length:Int))>=((b.length:Int)))=false:=by simp; omega
  simp only [e,h,cond_false,decide_false,zZV]
theorem Na(u:Nat)(a b:List Int):sq u a b=some (w5 a b):=by
 unfold sq w5
 by_cases h:b.length<=a.length
 ·have e:decide (((a.length:Int))>=((b.length:Int)))=true:=by simp; omega
  have c:de (dW 0 ((b.length:Int)) a.length)=some ():=by
   rw [show (0:Int)=((0:Nat):Int) from rfl,eJ aD h]
  simp only [e,h,c,cond_true,wk,rg,show sY 0=0 from rfl,zZG,decide_true,zQg];rfl
 ·have e:decide (((a.length:Int))>=((b.length:Int)))=false:=by simp; omega
  simp only [e,h,cond_false,decide_false,zZV]
def Sh(p:bR)(m:ae)(s:Int):Bool:=(p.eK == 2) && ([p.fR.aN,p.fR.b9,p.fR.aV] == [m.aN,s,m.aV])
def uO(d:ar)(m:ae)(x:aY)(ph:Int):Bool :=
 if ph=2 then (d.fP.all λp=>p.eK == dO d) && w5 (jm (uJ d) (dO d)) x.bj
 else if ph=3 then ((d.fP.length:Int) == 0) && w5 (jm d (dO d)) x.bj
 else if ph=4 then ((d.fP.length:Int) == 1) && (match d.fP[0]? with | some p=>Sh p m (dO d) | none=>false) && w5 (jm d (dO d)) x.bj
 else false
theorem L8(ph:Int)(a b c:Option Bool):(bif ph == 2 then a else (bif ph == 3 then b else (bif ph == 4 then c else some false)))=if ph=2 then a else if ph=3 then b else if ph=4 then c else some false:=by
 by_cases h2:ph=2
 ·subst h2; rfl
 ·by_cases h3:ph=3
  ·subst h3; rfl
  ·by_cases h4:ph=4
   ·subst h4; rfl
   ·have e2:(ph == 2)=false:=by simpa using h2
    have e3:(ph == 3)=false:=by simpa using h3
    have e4:(ph == 4)=false:=by simpa using h4
    simp [h2,h3,h4,e2,e3,e4]
theorem SV(ph:Int)(a b c:Bool):(if ph=2 then some a else if ph=3 then some b else if ph=4 then some c else some false)=some (if ph=2 then a else if ph=3 then b else if ph=4 then c else false):=by
 by_cases h2:ph=2 <;> by_cases h3:ph=3 <;> by_cases h4:ph=4 <;> simp [h2,h3,h4]
theorem qge{d:ar}(h:aw (dO d) 0 1=true):dO d=0\/dO d=1:=by
 have:=cd h; omega
theorem KG{u:Nat}(hu:1099511627776<=u){d:ar}(hd:M.DOk d)(hs:aw (dO d) 0 1=true)(x:aY):jV u u 0 d x=some ((d.fP.all λp=>p.eK == dO d) && w5 (jm (uJ d) (dO d)) x.bj):=by
 have hp:=hd.p;have fin:vS u d x ()=some (w5 (jm (uJ d) (dO d)) x.bj):=by
  unfold vS ti;simp only [Pe hu hd,w4,wk,DW u (uJ d) hs,Gk]
 rw [K8 u d x () u aD aD,nh (λp _=>p.eK == dO d) (xs:=d.fP) fin 0 (λp i f _ hx=>?_) d.fP 0 (zWX _) rfl,KF];unfold Dr;simp only [w4,wk,bne]
 cases (p.eK == dO d) <;> rfl
theorem qix{α:Type}(l:List α):((l.length:Int) == 1)=decide (l.length=1):=by
 rw [zXX]; simp; omega
theorem PI{u:Nat}(hu:1099511627776<=u){d:ar}(hd:M.DOk d)(hs:aw (dO d) 0 1=true)(m:ae)(x:aY)(ph:Int):tP u d m x ph=some (uO d m x ph):=by
 unfold tP uO;simp only [w4,wk,DW u d hs,KG hu hd hs,Gk];rw [L8,<- SV]
 congr 1
 congr 1
 ·cases ((d.fP.length:Int) == 0) <;> rfl
 ·congr 1
  cases hp:d.fP with
  | nil=>rfl
  | cons p l =>
   cases l with
   | nil =>
    have e:ce [p] (0:Int)=some p:=bu [p] 0;simp only [zYx,e,wk,zWH,Sh]
    cases (p.eK == 2) <;> cases ([p.fR.aN,p.fR.b9,p.fR.aV] == [m.aN,dO d,m.aV]) <;> rfl
   | cons q l =>
    have e:(((p :: q :: l).length:Int) == 1)=false:=by rw [qix]; simp
    simp only [e,cond_false,zZV]
theorem qdz(l:List bR)(s:Int):(!(l.any λp=>p.eK != s))=l.all λp=>p.eK == s:=by
 induction l with
 | nil=>rfl
 | cons x l ih =>
  rw [List.any_cons,zYj,Bool.not_or,ih,show (x.eK != s)=!(x.eK == s) from rfl,Bool.not_not]
theorem Nb{u:Nat}(hu:1099511627776<=u){l:List bR}(hl:l.length<=1048576)(s:Int):cf u l s=some (l.any λp=>p.eK != s):=by
 unfold cf cN;rw [kO u l s () u aD aD,nK (λp=>p.eK != s) rfl (λx i k hx=>rfl)];simp only [wk,uG]
theorem Lw(u:Nat)(d:ar)(s:Int)(x:aY):kZ u d s x=some (w5 (jm d s) x.bj):=by
 unfold kZ;simp only [Iz,wk,Na]
theorem KH{u:Nat}(hu:1099511627776<=u){d:ar}(hd:M.DOk d)(m:ae)(x:aY)(ph:Int):pV u ph d (dO d) (dO d) m x=some (uO d m x ph):=by
 unfold pV uO;simp only [Nb hu hd.p,Pj hu hd,Lw,wk,qdz];rw [L8,<- SV]
 congr 1
 ·cases (d.fP.all λp=>p.eK == dO d) <;> rfl
 ·congr 1
  ·cases ((d.fP.length:Int) == 0) <;> rfl
  ·congr 1
   cases hp:d.fP with
   | nil=>rfl
   | cons p l =>
    cases l with
    | nil =>
     have e:ce [p] (0:Int)=some p:=bu [p] 0;simp only [zYx,e,wk,zWH,Sh]
     cases (p.eK == 2) <;> cases ([p.fR.aN,p.fR.b9,p.fR.aV] == [m.aN,dO d,m.aV]) <;> rfl
    | cons q l =>
     have e:(((p :: q :: l).length:Int) == 1)=false:=by rw [qix]; simp
     simp only [e,cond_false,zZV]
theorem PJ{u:Nat}(hu:1099511627776<=u){d:ar}(hd:M.DOk d)(hs:aw (dO d) 0 1=true)(m:ae)(x:aY)(ph:Int):ub u d m x ph=some (uO d m x ph):=by
 have j:=KH hu hd m x ph;unfold ub;simp only [GP,wk];rcases qge hs with h | h
 ·rw [h] at j ⊢; exact j
 ·rw [h] at j ⊢; exact j
theorem PK{d:ar}(h:cV d=true):aw (dO d) 0 1=true:=by
 have r:=cd (BP (DX h).1).1;unfold dO;rw [cS aD aD];simp [aw]; omega
def Fh(c:eG):Bool:=aw c.aG 2 6 && aw c.bi 1 40 && aw c.a9 1 5 && aw c.bd 2 8
theorem Yc(u:Nat)(c:eG):B3 u c=some (Fh c):=by
 unfold B3 Fh;simp only [b5,wk]
 cases aw c.aG 2 6 <;> cases aw c.bi 1 40 <;> cases aw c.a9 1 5 <;> rfl
theorem Yd(u:Nat)(c:eG):Ce u c=some (Fh c):=by
 unfold Ce Fh;simp only [bK,wk]
 cases aw c.aG 2 6 <;> cases aw c.bi 1 40 <;> cases aw c.a9 1 5 <;> rfl
def AR(l:List aM)(n:Int):Bool:=(l.all λx=>!decide ((x.fB.length:Int) > 240)) && ((l.length:Int) == n)
theorem U0{u:Nat}(hu:1099511627776<=u){l:List aM}(hl:l.length<=1048576)(n:Int):zi u l n=some (AR l n):=by
 unfold zi AR;rw [Nu u l n () u aD aD,nh (λ(x:aM) _=>!decide ((x.fB.length:Int) > 240)) (xs:=l) (b:=(l.length:Int) == n) rfl 0 (λx i f _ hx=>?_) l 0 (zWX _) rfl,KF];unfold FC
 cases decide ((x.fB.length:Int) > 240) <;> rfl
theorem PL{u:Nat}(hu:1099511627776<=u){l:List aM}(hl:l.length<=1048576)(t:bV):t6 u t l=some (AR l t.bP.length):=by
 unfold t6 AR cy cB;rw [jI u l () u aD aD,nK (λ(x:aM)=>decide ((x.fB.length:Int) > 240)) rfl (λx i k hx=>rfl)];simp only [wk,uG];have e:(!(l.any λx=>decide ((x.fB.length:Int) > 240)))=l.all λx=>!decide ((x.fB.length:Int) > 240):=by
  induction l with
  | nil=>rfl
  | cons x l ih=>simp only [List.any_cons,zYj,Bool.not_or,ih (by simp at hl; omega)]
 rw [e]
 cases ((l.length:Int) == (t.bP.length:Int)) <;> simp
def w6(new old:List Int)(n:aA)(d:ar):Bool :=
 if n.aH=0 then ((d.fP.length:Int) == 0) && (M.holds d 0 old || M.holds d 1 new)
 else if n.aH=1 then ((d.fP.length:Int) == 0) && M.holds d 0 old
 else if n.aH=5 then ((d.fP.length:Int) == 0) && M.holds d 1 new
 else M.holds d 0 old && uO d n.ay n.aZ n.aH
theorem L9{α:Type}(ph:Int)(a b c e:α):(bif ph == 0 then a else (bif ph == 1 then b else (bif ph == 5 then c else e)))=if ph=0 then a else if ph=1 then b else if ph=5 then c else e:=by
 by_cases h2:ph=0
 ·subst h2; rfl
 ·by_cases h3:ph=1
  ·subst h3; rfl
  ·by_cases h4:ph=5
   ·subst h4; rfl
   ·have e2:(ph == 0)=false:=by simpa using h2
    have e3:(ph == 1)=false:=by simpa using h3
    have e4:(ph == 5)=false:=by simpa using h4
    simp [h2,h3,h4,e2,e3,e4]
theorem qce{α:Type}(p q r:Prop)[Decidable p][Decidable q][Decidable r](a b c e:α):some (if p then a else if q then b else if r then c else e)=if p then some a else if q then some b else if r then some c else some e:=(XY p q r a b c e).symm
theorem Si{u:Nat}(hu:1099511627776<=u){w:World}{k:Nat}{n:aA}{d:ar}{o:aM}(hn:w.fN[k]?=some n)(hd:w.fD[k]?=some d)(ho:w.cu[k]?=some o)(dk:M.DOk d)(hok:cV d=true)(hoff:n.eh=false->n.aH=0):lQ u w k=some (w6 w.cF o.fB n d):=by
 unfold lQ mn;simp only [bu,hn,hd,ho,wk,LV hu dk,PJ hu dk (PK hok)];have main:(bif n.aH == 0 then (bif (d.fP.length:Int) == 0 then bif M.holds d 0 o.fB then some true else some (M.holds d 1 w.cF) else some false) else bif n.aH == 1 then (bif (d.fP.length:Int) == 0 then some (M.holds d 0 o.fB) else some false) else bif n.aH == 5 then (bif (d.fP.length:Int) == 0 then some (M.holds d 1 w.cF) else some false) else (bif M.holds d 0 o.fB then some (uO d n.ay n.aZ n.aH) else some false))=some (w6 w.cF o.fB n d):=by
  unfold w6;rw [L9,qce]
  congr 1
  ·cases ((d.fP.length:Int) == 0) <;> cases M.holds d 0 o.fB <;> rfl
  ·congr 1
   ·cases ((d.fP.length:Int) == 0) <;> rfl
   ·congr 1
    ·cases ((d.fP.length:Int) == 0) <;> rfl
    ·cases M.holds d 0 o.fB <;> rfl
 cases hon:n.eh with
 | true=>exact main
 | false =>
  have h0:=hoff hon;rw [h0] at main ⊢;exact main
theorem U1{u:Nat}(hu:1099511627776<=u){w:World}{k:Nat}(hk:k≠0){n:aA}{d:ar}{o:aM}(hn:w.fN[k]?=some n)(hd:w.fD[k]?=some d)(ho:w.cu[k]?=some o)(dk:M.DOk d)(hok:cV d=true):jW u w k=some (w6 w.cF o.fB n d):=by
 have e0:((k:Int) == 0)=false:=by simp; omega
 unfold jW;simp only [bu,hn,hd,ho,wk,e0,cond_false,RN hu dk,BQ hu dk,PI hu dk (PK hok)];rw [L9];unfold w6 MX;rw [qce]
 cases h4:M.holds d 0 o.fB with
 | true =>
  simp only [Bool.true_or,r0,cond_false,cond_true]
  congr 1
  ·cases ((d.fP.length:Int) == 0) <;> rfl
  ·congr 1
   ·cases ((d.fP.length:Int) == 0) <;> rfl
   ·congr 1
    cases ((d.fP.length:Int) == 0) <;> rfl
 | false =>
  cases h5:M.holds d 1 w.cF with
  | true =>
   simp only [Bool.false_or,r0,cond_false]
   congr 1
   ·cases ((d.fP.length:Int) == 0) <;> rfl
   ·congr 1
    ·cases ((d.fP.length:Int) == 0) <;> rfl
    ·congr 1
     cases ((d.fP.length:Int) == 0) <;> rfl
  | false =>
   simp only [Bool.or_self,zYJ,cond_true,zVY,zZV]
   split
   ·rfl
   ·split
    ·rfl
    ·split <;> rfl
structure M.WIn (w:World):Prop where
 nd:M.NdOk w
 up:w.fT.bP.length<=1048576
 n:w.fN.length<=1048576
 d:w.fD.length<=1048576
 net:w.bM.length<=1048576
 nodes:∀ n∈w.fN,n.ay.aI.length<=1048576/\M.BldWf n.aZ/\n.aW.length<=1048576
 disks:∀ d∈w.fD,M.DOk d
def w7(n:aA)(d:ar)(o:aM):Bool:=n.eh && M.holds d 0 o.fB && ((d.fP.length:Int) == 0)
def w8(w:World)(n:aA)(i:Nat):Bool:=match w.fD[i]?,w.cu[i]? with
 | some d,some o=>oP w.fT i n && cV d && ((n.aH == 0) || iQ n.ay (xS w)) && (if i=0 then w7 n d o else w6 w.cF o.fB n d)
 | _,_=>false
def rq(t:bV)(p:ah):Bool:=aw p.cM 0 ((t.bP.length:Int) - 1) && aw p.w9 0 ((t.bP.length:Int) - 1)
def BC(w:World):Bool :=
 Fh w.fC && iZ w.fT && fM w.fC.aG w.cF.length && AR w.cu w.fT.bP.length && ((w.fN.length:Int) == (w.fT.bP.length:Int)) && ((w.fD.length:Int) == (w.fT.bP.length:Int)) &&
  !decide ((w.bM.length:Int) > 400) && !decide ((w.dv.length:Int) > 3000) && !decide (w.ch < 0) && (hU (w8 w) w.fN 0 && w.bM.all (rq w.fT))
theorem PM{u:Nat}(hu:1099511627776<=u){w:World}{n:aA}{d:ar}{o:aM}(hn:w.fN[0]?=some n)(hd:w.fD[0]?=some d)(ho:w.cu[0]?=some o)(dk:M.DOk d):jW u w 0=some (w7 n d o):=by
 have i1:ce w.fN (0:Int)=some n:=(bu w.fN 0).trans hn;have i2:ce w.fD (0:Int)=some d:=(bu w.fD 0).trans hd;have i3:ce w.cu (0:Int)=some o:=(bu w.cu 0).trans ho;unfold jW w7;simp only [i1,i2,i3,wk,BQ hu dk]
 cases n.eh <;> cases M.holds d 0 o.fB <;> rfl
theorem Sj{u:Nat}(hu:1099511627776<=u){w:World}(h:M.WIn w):se u w=some (w.bM.all (rq w.fT)):=by
 have eb:cJ .i64 ((w.fT.bP.length:Int)) 1=(w.fT.bP.length:Int) - 1:=cS (by have:=h.up; omega) (by have:=h.up; omega);have hl:=h.net;unfold se;rw [Ny u w () u aD aD,nh (λp _=>rq w.fT p) (xs:=w.bM) (b:=true) rfl 0 (λp i f _ hx=>?_) w.bM 0 (zWX _) rfl,KF,zXq];unfold FE pf rq;simp only [b5,eb,bu,hx,wk]
 cases aw p.cM 0 ((w.fT.bP.length:Int) - 1) <;> cases aw p.w9 0 ((w.fT.bP.length:Int) - 1) <;> rfl
theorem Nc{u:Nat}(hu:1099511627776<=u){w:World}(h:M.WIn w)(hn:w.fN.length=w.fT.bP.length)(hd:w.fD.length=w.fT.bP.length)(ho:w.cu.length=w.fT.bP.length) :
  eO u u w 0 (xS w)=some (hU (w8 w) w.fN 0 && w.bM.all (rq w.fT)):=by
 have up:=h.up;rw [NA u w (xS w) () u aD aD,rg,<- hn,
  ZN (w8 w) (xs:=w.fN) (b:=w.bM.all (rq w.fT)) (Sj hu h) (λn i k hx=>?_) w.fN 0 rfl]
 have hi:=(aab.1 hx).1;have hdd:w.fD[i]?=some (w.fD[i]'aD):=sX _;have hoo:w.cu[i]?=some (w.cu[i]'aD):=sX _;generalize w.fD[i]'aD=d at hdd;generalize w.cu[i]'aD=o at hoo;have nn:=h.nodes n (zQX hx);have dk:=h.disks d (zQX hdd);unfold FF eN w8;simp only [bu,hx,hdd,hoo,wk,Ya hu up i nn.1 nn.2.1 nn.2.2,uI hu dk,xR hu nn.1]
 cases hok:cV d with
 | false=>cases oP w.fT i n <;> simp
 | true =>
  have dsk:jW u w (i:Int)=some (if i=0 then w7 n d o else w6 w.cF o.fB n d):=by
   by_cases h0:i=0
   ·subst h0;rw [if_pos rfl];exact PM hu hx hdd hoo dk
   ·rw [if_neg h0];exact U1 hu h0 hx hdd hoo dk hok
  simp only [dsk,wk];generalize (if i=0 then w7 n d o else w6 w.cF o.fB n d)=z;rw [show (n.aH != 0)=!(n.aH == 0) from rfl]
  cases oP w.fT i n <;> cases (n.aH == 0) <;> cases iQ n.ay (xS w) <;> cases z <;> rfl
theorem U2{u:Nat}(hu:1099511627776<=u){w:World}(h:M.WIn w):zn u w=some (BC w):=by
 unfold zn BC;simp only [Yc,E7 hu (show w.fT.bP.length<=1073741824 by have:=h.up; omega),uC,U0 hu h.nd.old,wk];rw [show ((w.fN.length:Int) != (w.fT.bP.length:Int))=!((w.fN.length:Int) == (w.fT.bP.length:Int)) from rfl,show ((w.fD.length:Int) != (w.fT.bP.length:Int))=!((w.fD.length:Int) == (w.fT.bP.length:Int)) from rfl];have f:eP u w true=some false:=rfl;rw [f]
 cases Fh w.fC with
 | false=>rfl
 | true =>
  cases iZ w.fT with
  | false=>rfl
  | true =>
   cases fM w.fC.aG w.cF.length with
   | false=>rfl
   | true =>
    cases ho:AR w.cu w.fT.bP.length with
    | false=>rfl
    | true =>
     cases hn:((w.fN.length:Int) == (w.fT.bP.length:Int)) with
     | false=>rfl
     | true =>
      cases hd:((w.fD.length:Int) == (w.fT.bP.length:Int)) with
      | false=>rfl
      | true =>
       cases decide ((w.bM.length:Int) > 400) with
       | true=>rfl
       | false =>
        cases decide ((w.dv.length:Int) > 3000) with
        | true=>rfl
        | false =>
         cases decide (w.ch < 0) with
         | true=>rfl
         | false =>
          unfold AR at ho;simp only [sk,beq_iff_eq] at ho hn hd;have l6:=Nc hu h aD aD aD;simp only [r0,zYJ,cond_false,cond_true,zQg,eP,Y0 hu h.nd,wk,l6]
def vQ(w:World)(n:aA)(i:Nat):Bool:=match w.fD[i]?,w.cu[i]? with
 | some d,some o=>oP w.fT i n && cV d && ((n.aH == 0) || iQ n.ay (xS w)) && (if i=0 then true else w6 w.cF o.fB n d)
 | _,_=>false
theorem Ye{α:Type}{f g:α->Nat->Bool}(h:∀ x j,1<=j->f x j=g x j):∀ (l:List α) (i:Nat),1<=i->hU f l i=hU g l i
 | [],_,_=>rfl
 | x :: l,i,hi=>by simp only [hU,h x i hi,Ye h l (i+1) aD]
theorem qdA(w:World)(n:aA)(j:Nat)(h:1<=j):w8 w n j=vQ w n j:=by
 have h0:¬ j=0:=by omega
 unfold w8 vQ;simp only [h0,if_false]
 all_goals (cases w.fD[j]? <;> cases w.cu[j]? <;> rfl)
theorem Sk{u:Nat}(hu:1099511627776<=u){w:World}(h:M.WIn w):b8 u w.bM w=some (w.bM.any λp=>!rq w.fT p):=by
 have hl:=h.net;unfold b8 cC;rw [jK u w.bM w () u aD aD,nK (λp=>!rq w.fT p) rfl (λx i k hx=>by
  unfold ed uc rq;simp only [kc u h.up,wk]
  cases aw x.cM 0 ((w.fT.bP.length:Int) - 1) <;> cases aw x.w9 0 ((w.fT.bP.length:Int) - 1) <;> rfl)]
 simp only [wk,uG]
theorem qdB{t:bV}{k:Int}{n:aA}(h:oP t k n=true)(ho:n.eh=false):n.aH=0:=by
 unfold oP PH at h;rw [ho] at h;simp only [sk,zQw,if_false,beq_iff_eq] at h;exact h.2.1.1.2
def Yf(w:World)(r:Bool):Bool:=r && !decide ((w.bM.length:Int) > 400) && w.bM.all (rq w.fT) && !decide ((w.dv.length:Int) > 3000) && !decide (w.ch < 0)
theorem qhV(a b:Int):decide (a<=b)=!decide (a > b):=by
 by_cases h:a<=b
 ·have:¬ a > b:=by omega
  simp [h,this]
 ·have:a > b:=by omega
  simp [h,this]
theorem qhW(a b:Int):decide (a>=b)=!decide (a < b):=by
 by_cases h:a < b
 ·have:¬ a>=b:=by omega
  simp [h,this]
 ·have:a>=b:=by omega
  simp [h,this]
theorem PN{u:Nat}(hu:1099511627776<=u){w:World}(h:M.WIn w){n:aA}{d:ar}{o:aM}(hn:w.fN[0]?=some n)(hd:w.fD[0]?=some d)(ho:w.cu[0]?=some o):pq u w=some (Yf w (w7 n d o)):=by
 have i1:ce w.fN (0:Int)=some n:=(bu w.fN 0).trans hn;have i2:ce w.fD (0:Int)=some d:=(bu w.fD 0).trans hd;have i3:ce w.cu (0:Int)=some o:=(bu w.cu 0).trans ho;have dk:=h.disks d (zQX hd);unfold pq Yf w7;simp only [i1,i2,i3,wk,LV hu dk,Sk hu h,Kg,qhV,qhW]
 cases n.eh <;> cases M.holds d 0 o.fB <;> cases ((d.fP.length:Int) == 0) <;> cases decide ((w.bM.length:Int) > 400) <;> cases w.bM.all (rq w.fT) <;> cases decide ((w.dv.length:Int) > 3000) <;> rfl
theorem Nd{u:Nat}(hu:1099511627776<=u){w:World}(h:M.WIn w)(hd:w.fD.length=w.fN.length)(ho:w.cu.length=w.fN.length){r:Bool}(hr:pq u w=some r) :
  eR u u w 0 (xS w)=some (hU (vQ w) w.fN 0 && r):=by
 have hn:=h.n;rw [NR u w (xS w) () u aD aD,nh (vQ w) (xs:=w.fN) (b:=r) hr 0 (λn i k _ hx=>?_) w.fN 0 (zWX _) rfl];have hi:=(aab.1 hx).1;have hdd:w.fD[i]?=some (w.fD[i]'aD):=sX _;have hoo:w.cu[i]?=some (w.cu[i]'aD):=sX _;generalize w.fD[i]'aD=d at hdd;generalize w.cu[i]'aD=o at hoo;have nn:=h.nodes n (zQX hx);have dk:=h.disks d (zQX hdd);unfold FM gP xF vQ;simp only [bu,hdd,hoo,wk,Yb hu h.up i nn.1 nn.2.1 nn.2.2,uH hu dk,Ji hu nn.1]
 cases hno:oP w.fT i n with
 | false=>rfl
 | true =>
  cases hok:cV d with
  | false=>rfl
  | true =>
   have mir:=Si hu hx hdd hoo dk hok (qdB hno);simp only [mir,wk];rw [show (n.aH != 0)=!(n.aH == 0) from rfl]
   by_cases h0:i=0
   ·have e:decide ((i:Int) > 0)=false:=by simp; omega
    simp only [e,h0,if_true]
    cases (n.aH == 0) <;> cases iQ n.ay (xS w) <;> rfl
   ·have e:decide ((i:Int) > 0)=true:=by simp; omega
    simp only [e,h0,if_false]
    cases (n.aH == 0) <;> cases iQ n.ay (xS w) <;> cases w6 w.cF o.fB n d <;> rfl
theorem U3{u:Nat}(hu:1099511627776<=u){w:World}(h:M.WIn w):zR u w=some (BC w):=by
 unfold zR BC;simp only [Yd,E6 hu (show w.fT.bP.length<=1073741824 by have:=h.up; omega),uB,PL hu h.nd.old,wk];rw [show ((w.fN.length:Int) != (w.fT.bP.length:Int))=!((w.fN.length:Int) == (w.fT.bP.length:Int)) from rfl,show ((w.fD.length:Int) != (w.fT.bP.length:Int))=!((w.fD.length:Int) == (w.fT.bP.length:Int)) from rfl];have f:i9 u true w=some false:=rfl;rw [f]
 cases Fh w.fC with
 | false=>rfl
 | true =>
  cases ht:iZ w.fT with
  | false=>rfl
  | true =>
   cases fM w.fC.aG w.cF.length with
   | false=>rfl
   | true =>
    cases ho:AR w.cu w.fT.bP.length with
    | false=>rfl
    | true =>
     cases hn:((w.fN.length:Int) == (w.fT.bP.length:Int)) with
     | false=>rfl
     | true =>
      cases hd:((w.fD.length:Int) == (w.fT.bP.length:Int)) with
      | false=>rfl
      | true =>
       unfold AR at ho;unfold iZ at ht;simp only [sk,beq_iff_eq] at ho hn hd ht;have up:=cd ht.2;have hnn:w.fN[0]?=some (w.fN[0]'aD):=sX _;have hdd:w.fD[0]?=some (w.fD[0]'aD):=sX _;have hoo:w.cu[0]?=some (w.cu[0]'aD):=sX _;generalize w.fN[0]'aD=n at hnn;generalize w.fD[0]'aD=d at hdd;generalize w.cu[0]'aD=o at hoo;have l3:=Nd hu h aD aD (PN hu h hnn hdd hoo);simp only [r0,cond_false,zQg,i9,YZ hu h.nd,wk,l3];have e:hU (w8 w) w.fN 0=(hU (vQ w) w.fN 0 && w7 n d o):=by
        cases hf:w.fN with
        | nil=>rw [hf] at hnn; simp at hnn
        | cons x l =>
         rw [hf] at hnn;simp only [zWH,Option.some.injEq] at hnn;subst hnn;simp only [hU];rw [Ye (qdA w) l (0+1) aD];generalize hU (vQ w) l (0+1)=y;unfold w8 vQ;simp only [hdd,hoo,if_true];generalize (oP w.fT ((0:Nat):Int) x && cV d && ((x.aH == 0) || iQ x.ay (xS w)))=z
         cases z <;> cases w7 x d o <;> cases y <;> rfl
       rw [e];unfold Yf;generalize hU (vQ w) w.fN 0=a;generalize w7 n d o=b;generalize w.bM.all (rq w.fT)=c
       cases a <;> cases b <;> cases c <;> cases decide ((w.bM.length:Int) > 400) <;> cases decide ((w.dv.length:Int) > 3000) <;> cases decide (w.ch < 0) <;> rfl
structure M.WBytes (w:World):Prop where
 n:∀ n∈w.fN,BN n.ay
 d:∀ d∈w.fD,M.DB d
 p:∀ p∈w.bM,AP p
theorem qe4{t:bV}{j:Nat}{n:aA}(h:oP t j n=true)(hs:n.ay.aI.length<=1048576)(hb:M.BldWf n.aZ)(hk:n.aW.length<=1048576)(hw:BN n.ay):M.NodeIn t j n:=by
 unfold oP at h;simp only [sk] at h;have hj:=cd h.1.2;have nw:M.NodWf n:=⟨hs,hb,by omega,hw⟩
 cases hon:n.eh with
 | false =>
  have g:=h.2;rw [hon] at g;simp only [zQw,if_false] at g;unfold PH at g;simp only [sk,beq_iff_eq] at g;have e:n.aW=[]:=zQW (by have:=g.1.2; omega);refine ⟨nw,?_,?_,λ_=>?_⟩
  ·unfold qe; rw [e]; exact ⟨by simp [fa],by simp [fa]⟩
  ·rw [e]; simp [fa]
  ·rw [g.1.1.1.1.1];unfold i4; simp [aw]; omega
 | true =>
  have g:=h.2;rw [hon] at g;simp only [if_true] at g;unfold qa9 at g;simp only [sk] at g;obtain ⟨⟨⟨⟨⟨g1,_⟩,_⟩,_⟩,g2⟩,g3,_⟩:=g;have ks:=PD g2;refine ⟨nw,ks,λz hz=>?_,λh0=>?_⟩
  ·have r:=ks.r z hz;unfold fa at hz;rw [zXx] at hz;obtain ⟨x,hx,rfl⟩:=hz;have f:=aaf.1 g3 x hx;unfold te at f;simp only [sk,Bool.not_eq_true',decide_eq_false_iff_not] at f;unfold i4;simp only [aw,sk,decide_eq_true_eq];omega
  ·rw [if_neg aD] at g1;exact XK g1
theorem qcf{w:World}(h:M.WIn w)(b:M.WBytes w)(hw:BC w=true):M.WWf w:=by
 unfold BC at hw;simp only [sk,Bool.not_eq_true',decide_eq_false_iff_not,beq_iff_eq] at hw;obtain ⟨⟨⟨⟨⟨⟨⟨⟨⟨_,ht⟩,_⟩,ho⟩,hn⟩,hd⟩,hnet⟩,_⟩,_⟩,hall,hends⟩:=hw;have at_:∀ (j:Nat) (n:aA),w.fN[j]?=some n->w8 w n j=true:=λj n hj=>by
  have:=PC hall j n hj;rwa [zWJ] at this
 have parts:∀ (j:Nat) (n:aA) (d:ar),w.fN[j]?=some n->w.fD[j]?=some d->oP w.fT j n=true/\cV d=true:=λj n d hj hdj=>by
  have a:=at_ j n hj;unfold w8 at a;rw [hdj] at a
  cases ho:w.cu[j]? with
  | none=>rw [ho] at a; cases a
  | some o =>
   rw [ho] at a;simp only [sk] at a;exact ⟨a.1.1.1,a.1.1.2⟩
 refine ⟨ht,by omega,by omega,λj n hj=>?_,λj d hj=>?_,λp hp=>?_,by omega⟩
 ·have lt:=(aab.1 hj).1;have hdd:w.fD[j]?=some (w.fD[j]'aD):=sX _;have nn:=h.nodes n (zQX hj);exact qe4 (parts j n _ hj hdd).1 nn.1 nn.2.1 nn.2.2 (b.n n (zQX hj))
 ·have lt:=(aab.1 hj).1;have hnn:w.fN[j]?=some (w.fN[j]'aD):=sX _;exact ⟨h.disks d (zQX hj),b.d d (zQX hj),XV (parts j _ d hnn hj).2⟩
 ·have f:=aaf.1 hends p hp;unfold rq at f;simp only [sk] at f;exact ⟨b.p p hp,f.1,f.2⟩
theorem qhX{m:ae}(h:ae.wf m):BN m:=λs hs=>by
 have g:=(h.2.2.2.1.2 s hs).2.1;exact (show -9223372036854775808<=s.fS/\s.fS<=9223372036854775807 from g).2
theorem qgf{w:World}(hw:World.wf w)(hb:fu w<=1048576):M.WBytes w:=by
 obtain ⟨_,_,_,_,h5,h6,h7,_⟩:=hw;refine ⟨λn hn=>qhX (h5.2 n hn).2.2.2.1,λd hd=>?_,λp hp=>⟨EY (h7.2 p hp).2.2.1,?_⟩⟩
 ·have g:=h6.2 d hd;exact ⟨EY g.1,EY g.2.1,λx hx=>EY (g.2.2.2.1.2 x hx).2.2.1⟩
 ·have h0:=hb;unfold fu at h0;have h8:=iN (f:=dn) hp;have h9:dn p=p.fB.length:=rfl;omega
theorem win{w:World}(hw:World.wf w)(hb:fu w<=1048576):M.WIn w:=by
 have k:=worldOk hw hb;obtain ⟨_,_,_,_,h5,_⟩:=id hw;refine ⟨qi0 hw hb,k.up,k.n,k.d,k.net,λn hn=>⟨(k.nodes n hn).1,⟨EY (h5.2 n hn).2.2.2.2.1.2.1,?_⟩,(k.nodes n hn).2⟩,(qiZ hb).ok⟩;have h0:=hb;unfold fu at h0;have h8:=iN (f:=d8) hn;have h7:d8 n=n.ay.aI.length+(n.aZ.bj.length+n.aW.length):=rfl;omega
theorem dk{a b:List Int}{r:ct}{p:List bR}(ha:a.length<=240)(hb:b.length<=240)(hr:ng r=true)(hs:r.aV<=(jm ⟨a,b,r,p⟩ r.b9).length)(hp:p.length<=200)(hq:∀ x∈p,mx x=true):cV ⟨a,b,r,p⟩=true:=by
 unfold cV;simp only [sk,decide_eq_true_eq,zZQ];exact ⟨⟨⟨⟨⟨ha,hb⟩,hr⟩,hs⟩,hp⟩,hq⟩
theorem PO{u:Nat}(hu:1099511627776<=u){l:List aM}(hl:l.length<=1048576)(hb:∀ x∈l,x.fB.length<=1048576):tG u l=some l:=by
 unfold tG;rw [K7 u l _ u aD aD,rY 1048576 l _ l 0 [] (λ_ h=>h) il]
 ·rfl
 ·intro x i s k hx hs;have h4:=hb x hx;unfold Dq;rw [bg il];simp only [wk];rw [bg il]; rfl
theorem qcg{α ρ:Type}{fin:List α->Option ρ}{body:α->Nat->List α->(List α->Option ρ)->Option ρ}(n:Nat)(p:List α)(hb:∀ x i s k,p[i]?=some x->s.length+1<=n->body x i s k=k (s++[x])) :
  ∀ (l:List α) (i:Nat) (s:List α),l=p.drop i->s.length+l.length<=n->bn fin body l i s=fin (s++l):=by
 intro l
 induction l with
 | nil=>intro i s _ _; simp [bn]
 | cons x l ih =>
  intro i s h1 h2;simp only [zQq] at h2;have h3:p[i]?=some x:=by
   have:=congrArg (λl=>l[0]?) h1
   simpa using this.symm
  have h4:l=p.drop (i+1):=by
   have:=congrArg (List.drop 1) h1
   simpa using this
  simp only [bn];rw [hb x i s _ h3 aD,ih (i+1) _ h4 il];simp
theorem IK{u:Nat}(hu:1099511627776<=u){l:List ah}(hl:l.length<=1048576)(hb:∀ x∈l,x.fB.length<=1048576):nj u l=some l:=by
 unfold nj;rw [Gn u l _ u aD aD,qcg 1048576 l _ l 0 [] jC il]
 ·rfl
 ·intro x i s k hx hs;have h4:=hb x (zQX hx);unfold wn;rw [qg0 l i hx];simp only [wk];rw [bg il];simp only [wk];rw [bg il]; rfl
structure M.WCp (w:World):Prop where
 t:w.fT.bP.length<=1048576
 new:w.cF.length<=1048576
 ol:w.cu.length<=1048576
 old:∀ x∈w.cu,x.fB.length<=1048576
 nl:w.fN.length<=1048576
 n:∀ x∈w.fN,M.NodWf x
 dl:w.fD.length<=1048576
 d:∀ x∈w.fD,M.DOk x
 pl:w.bM.length<=1048576
 p:∀ x∈w.bM,AP x
 ll:w.dv.length<=1048576
theorem U4{u:Nat}(hu:1099511627776<=u){w:World}(h:M.WCp w):zg u w=some w:=by
 have h1:=h.t;have h2:=h.new;have h3:=h.nl;have h4:=h.dl;have h5:=h.ll;unfold zg;rw [bg il,bg il];simp only [wk];rw [PO hu h.ol h.old];simp only [wk];rw [Ns u w _ _ u aD aD,rY 1048576 w.fN _ w.fN 0 [] (λ_ h=>h) il]
 ·unfold FA xe;rw [Nr u w _ _ _ u aD aD,rY 1048576 w.fD _ w.fD 0 [] (λ_ h=>h) il]
  ·unfold Fy xd;rw [IK hu h.pl λx hx=>(h.p x hx).2];simp only [wk];rw [bg il];rfl
  ·intro x i s k hx hs;unfold Fz;rw [j8 hu (h.d x hx)];simp only [wk];rw [bg il]; rfl
 ·intro x i s k hx hs;unfold FB;rw [gT u (h.n x hx)];simp only [wk];rw [bg il]; rfl
theorem Lx{u:Nat}(hu:1099511627776<=u){l:List ah}(hl:l.length<=1048576)(hb:∀ x∈l,AP x):qW u l=some l:=by
 unfold qW;rw [Jv u l _ u aD aD,rY 1048576 l _ l 0 [] (λ_ h=>h) il]
 ·rfl
 ·intro x i s k hx hs;unfold AU;rw [Ff u (hb x hx)];simp only [wk];rw [bg il]; rfl
theorem PP{u:Nat}(hu:1099511627776<=u){w:World}(h:M.WCp w):ud u w=some w:=by
 have h1:=h.t;have h2:=h.new;have h3:=h.nl;have h4:=h.dl;have h5:=h.ll;have h6:=h.ol;unfold ud ny ft;rw [bg il];simp only [wk];rw [eY u aD,wk,Lx hu h.pl h.p,wk,bg il];simp only [wk];rw [Lh u w _ _ _ _ _ u aD aD,rY 1048576 w.cu _ w.cu 0 [] (λ_ h=>h) il]
 ·unfold Dy tp;rw [Lg u w _ _ _ _ _ _ u aD aD,rY 1048576 w.fN _ w.fN 0 [] (λ_ h=>h) il]
  ·unfold Dw tn;rw [Lf u w _ _ _ _ _ _ _ u aD aD,rY 1048576 w.fD _ w.fD 0 [] (λ_ h=>h) il]
   ·rfl
   ·intro x i s k hx hs;unfold Dv;rw [jn hu (h.d x hx)];simp only [wk];rw [bg il]; rfl
  ·intro x i s k hx hs;unfold Dx;rw [hZ u (h.n x hx)];simp only [wk];rw [bg il]; rfl
 ·intro x i s k hx hs;have:=h.old x hx;unfold Dz;rw [eY u aD];simp only [wk];rw [bg il]; rfl
def H2(n:aA)(i:Nat):Bool:=decide (i=0) || !n.eh || (n.aH == 5)
def D8(w:World):Bool:=hU H2 w.fN 0
theorem Yg{u:Nat}(hu:1099511627776<=u){w:World}(hl:w.fN.length<=1048576):k6 u w=some (D8 w):=by
 unfold k6;rw [Hl u w () u aD aD,nh H2 (xs:=w.fN) (b:=true) rfl 0 (λx i k _ hx=>?_) w.fN 0 (zWX _) rfl,zXq]
 ·rfl
 unfold yK eI H2
 by_cases h0:i=0
 ·subst h0; simp
 ·have e:decide ((i:Int) > 0)=true:=by simp; omega
  rw [e];simp only [h0,decide_false,Bool.false_or,cond_true]
  cases x.eh
  ·rfl
  ·cases h:x.aH == 5 <;> simp [bne,h]
theorem SW{u:Nat}{w:World}(hl:w.fN.length<=1048576):∀ (m i f:Nat),i+m=w.fN.length->m < f->1<=i->fx u f (i:Int) w=some (hU H2 (w.fN.drop i) i)
 | 0,i,f,h1,h2,h3=>by
  obtain ⟨f,rfl⟩:∃ g,f=g+1:=⟨f - 1,by omega⟩;have e:decide ((i:Int) < (w.fN.length:Int))=false:=by simp; omega
  unfold fx;rw [e,List.drop_eq_nil_of_le aD];rfl
 | m+1,i,f,h1,h2,h3=>by
  obtain ⟨f,rfl⟩:∃ g,f=g+1:=⟨f - 1,by omega⟩;have hi:i < w.fN.length:=by omega
  have e:decide ((i:Int) < (w.fN.length:Int))=true:=by simp; omega
  have ih:=SW (u:=u) hl m (i+1) f aD aD aD;have ea:aS .i64 (i:Int) 1=((i+1:Nat):Int):=by rw [dQ aD aD]; rfl
  unfold fx;rw [e,bu,sX hi,zWh hi];simp only [cond_true,wk,hU];generalize w.fN[i]=n;unfold pg H2;have h0:¬ (i=0):=by omega
  simp only [h0,decide_false,Bool.false_or];rw [ea];simp only [ih]
  cases n.eh with
  | false=>simp [hU] <;> rfl
  | true =>
   cases h:n.aH == 5 <;> simp [bne,h] <;> rfl
theorem qba{u:Nat}(hu:1099511627776<=u){w:World}(hl:w.fN.length<=1048576)(h1:1<=w.fN.length):uY u w=some (D8 w):=by
 unfold uY D8;have:=SW (u:=u) hl (w.fN.length - 1) 1 u aD aD (zWX _);rw [show ((1:Nat):Int)=1 from rfl] at this;rw [this];have hd:w.fN=w.fN[0] :: w.fN.drop 1:=by
  have:=zWh (l:=w.fN) (i:=0) aD
  simpa using this
 conv=>rhs; rw [hd]
 simp [hU,H2]
def IL:Nat->Nat->World->Nat
 | 0,i,_=>i
 | m+1,i,w=>if D8 w then i else IL m (i+1) (K1 w)
theorem PQ{u:Nat}(hu:1099511627776<=u){p1:Int}(hp:p1<=500):∀ (m i f:Nat) (w:World),M.WWf w->(i:Int)+m=p1->m < f ->
  gk u f p1 (i:Int) w.fC.aG w.fC.bi w.fC.a9 w.fC.bd w.fT.bP w.cF w.cu w.fN w.fD w.bM w.dv w.ch=some ((IL m i w:Nat):Int)
 | 0,i,f,w,h,h1,h2=>by
  obtain ⟨f,rfl⟩:∃ g,f=g+1:=⟨f - 1,by omega⟩;have e:decide ((i:Int) < p1)=false:=by simp; omega
  unfold gk;rw [e];show some p1=_;rw [<- h1];simp [IL]
 | m+1,i,f,w,h,h1,h2=>by
  obtain ⟨f,rfl⟩:∃ g,f=g+1:=⟨f - 1,by omega⟩;have e:decide ((i:Int) < p1)=true:=by simp; omega
  have up:=Dm h;have hl:=h.nl;have ea:aS .i64 (i:Int) 1=((i+1:Nat):Int):=by rw [dQ aD aD]; rfl
  have ih:=PQ hu hp m (i+1) f (K1 w) (ZR h) aD aD;unfold gk IL;rw [e];simp only [cond_true];rw [show (World.mk (eG.mk w.fC.aG w.fC.bi w.fC.a9 w.fC.bd) (bV.mk w.fT.bP) w.cF w.cu w.fN w.fD w.bM w.dv w.ch)=w from rfl,qba hu aD aD,Sg hu h,ea];simp only [wk]
  cases D8 w with
  | true=>rfl
  | false=>exact ih
theorem PS{u:Nat}(hu:1099511627776<=u){p1:Int}(hp:p1<=500):∀ (m i f:Nat) (w:World),M.WWf w->(i:Int)+m=p1->m < f ->
  gn u f p1 (i:Int) w.fC.aG w.fC.bi w.fC.a9 w.fC.bd w.fT.bP w.cF w.cu w.fN w.fD w.bM w.dv w.ch=some ((IL m i w:Nat):Int)
 | 0,i,f,w,h,h1,h2=>by
  obtain ⟨f,rfl⟩:∃ g,f=g+1:=⟨f - 1,by omega⟩;have e:decide ((i:Int) < p1)=false:=by simp; omega
  unfold gn;rw [e];show some p1=_;rw [<- h1];simp [IL]
 | m+1,i,f,w,h,h1,h2=>by
  obtain ⟨f,rfl⟩:∃ g,f=g+1:=⟨f - 1,by omega⟩;have e:decide ((i:Int) < p1)=true:=by simp; omega
  have up:=Dm h;have hl:=h.nl;have ea:aS .i64 (i:Int) 1=((i+1:Nat):Int):=by rw [dQ aD aD]; rfl
  have ih:=PS hu hp m (i+1) f (K1 w) (ZR h) aD aD;unfold gn IL;rw [e];simp only [cond_true];rw [show (World.mk (eG.mk w.fC.aG w.fC.bi w.fC.a9 w.fC.bd) (bV.mk w.fT.bP) w.cF w.cu w.fN w.fD w.bM w.dv w.ch)=w from rfl,Yg hu aD,Ze hu h,ea];simp only [wk]
  cases D8 w with
  | true=>rfl
  | false=>exact ih
theorem wcp{w:World}(hw:World.wf w)(hb:fu w<=1048576):M.WCp w:=by
 have k:=worldOk hw hb;have wi:=win hw hb;have wb:=qgf hw hb;exact ⟨k.up,k.new,k.old,λx hx=>(k.oldB x hx).2,k.n,λn hn=>⟨(wi.nodes n hn).1,(wi.nodes n hn).2.1,by have:=(wi.nodes n hn).2.2; omega,wb.n n hn⟩,k.d,wi.disks,k.net,wb.p,k.log⟩
theorem Yh{u:Nat}(hu:1099511627776<=u){p0:World}{p1:Int}(w0:World.wf p0)(b0:fu p0<=1048576):∃ v,t1 u p0 p1=some v/\un u p0 p1=some v:=by
 have wi:=win w0 b0;have wb:=qgf w0 b0;have wc:=wcp w0 b0;unfold t1 tk un tu;rw [U4 hu wc,U2 hu wi,U3 hu wi,b5,bK,PP hu wc];simp only [wk]
 cases hw:BC p0 with
 | false=>exact ⟨0,rfl,rfl⟩
 | true =>
  cases hp:aw p1 0 500 with
  | false=>exact ⟨0,rfl,rfl⟩
  | true =>
   have h:=qcf wi wb hw;have hp:=cd hp;obtain ⟨n,rfl⟩:=zQQ hp.1;exact ⟨_,PQ hu hp.2 n 0 u p0 h aD aD,PS hu hp.2 n 0 u p0 h aD aD⟩
theorem Zf(p0:World)(p1:Int)(h:World.wf p0/\(lU .i64) p1/\True):kP 1099511627776 p0 p1=some true:=by
 obtain ⟨w0,w1,_⟩:=h;have hu:1099511627776<=1099511627776:=zWX _;unfold kP;rw [Uv hu (x:=p0) (n:=1048576) aD aD w0];simp only [wk]
 by_cases b0:((fu p0:Nat):Int)<=1048576
 ·have c0:¬ (1048576 - ((fu p0:Nat):Int) < 0):=by omega
  rw [KV b0];simp only [c0,decide_false,cond_false];obtain ⟨v,e1,e2⟩:=Yh (p1:=p1) hu w0 (show _<=1048576 by omega);simp only [Uw hu (x:=p0) aD,Ux hu (x:=p0) aD,e1,e2,wk,bne_self_eq_false,beq_self_eq_true,r0,cond_false]
 ·rw [Q3 b0]; rfl
end Go.Tm.Pu
