/- Plain laws of the functions. -/
import Derived.Test.YtkomlmhelfnajaaGreatCFnSameImageP1
set_option linter.unusedVariables false
set_option linter.unusedSimpArgs false
open Bool renaming and_eq_true->sk,and_self->zWZ,and_true->zYX,eq_iff_iff->zXH,false_eq_true->zQk,not_true->zQV,true_and->zWX
open Int renaming add_mul->zVY,toNat->sY,toNat_natCast->rg
open List renaming all_eq_true->zYJ,any_cons->zZh,append_assoc->zQX,append_nil->zWW,cons_append->zXy,drop_drop->zZy,drop_eq_getElem_cons->zXq,drop_of_length_le->zYQ,eq_nil_of_length_eq_zero->zQW,getElem?_append->zWK,getElem?_append_left->zQQ,getElem?_append_right->r0,getElem?_cons_zero->zQh,getElem?_eq_getElem->sX,getElem?_eq_none->zXK,getElem?_map->zQz,getElem?_of_mem->zYv,getElem?_range->zZQ,getElem?_set->zXZ,getElem_mem->zYH,head?->zZk,head?_drop->zYK,length_append->zQG,length_cons->zQw,length_drop->zYZ,length_filter_le->zZJ,length_map->zWw,length_nil->zWv,length_replicate->zXz,length_singleton->zZK,length_take->zQx,map_append->zXJ,map_cons->zWh,mem_append->zWk,mem_cons->zYx,mem_cons_of_mem->zQj,mem_cons_self->zWQ,mem_map->zXg,mem_of_getElem?->zQY,mem_of_mem_drop->zXj,mem_of_mem_take->zXQ,mem_singleton->zQy,nil_append->zWH,range->zXW,range'->zZY,range'_succ->zYq,range_eq_range'->zYk,replicate->zQZ,tail_drop->zYj,take_append_drop->zXv,take_of_length_le->zWx,take_take->zZw
open Nat renaming add_assoc->zZX,add_zero->zXx,eq_zero_or_pos->zYY,le_refl->zWJ,le_trans->zXw,min_eq_left->zWq,pow_le_pow_right->zWy,succ_mul->zXY,zero_add->zQg,zero_le->zYy
open Option renaming bind_some->wk,getD_some->zYG
open BitVec renaming ofInt->sa
open List renaming getElem?_eq_some_iff->sr
open List renaming mem_append->An
open List renaming all_eq_true->KB
open List renaming mem_cons->aaa
open List renaming mem_iff_getElem?->aac
open BitVec renaming toNat_ofInt->aad
namespace Go.Tm.Pu
open Go.Tm
theorem UA{α σ ρ:Type}{fin:σ->Option ρ}{body:α->Nat->σ->(σ->Option ρ)->Option ρ}(f:σ->α->σ)(I:Nat->σ->Prop)(hI:∀ x i s,I i s->I (i+1) (f s x)){n:Nat}(hb:∀ x i s k,I i s->i < n->body x i s k=k (f s x)) :
  ∀ (l:List α) (i:Nat) (s:σ),I i s->i+l.length<=n->cE fin body l i s=fin (l.foldl f s):=by
 intro l
 induction l with
 | nil=>intro i s _ _; rfl
 | cons x l ih =>
  intro i s h hl;simp only [zQw] at hl;simp only [cE];rw [hb x i s _ h ak,ih (i+1) _ (hI x i s h) ak]; rfl
theorem LZ{u:Nat}(hu:1099511627776<=u){n:aD}(hn:M.NodWf n)(me i:Int):vQ u n me i=some (nY n me i):=by
 unfold vQ nY;simp only [hJ u hn,C8 hu hn.s hn.b,wk];have hk:=hn.k;have w:=GO n.aB hn.b i
 cases h:(kx n.aB n.bw i).2 with
 | false=>rfl
 | true =>
  have pl:=Pa h;simp only [zQV,cond_false,if_true];have e:=Hm u me i (kx n.aB n.bw i) n n (n.aX,[]) u ak ak;refine e.trans ?_;rw [UA (jP n me i) (λj s=>s.1.length<=1048577/\s.2.length<=j) (λx j s h=>by have:=KI n me i s x; omega) (n:=n.aX.length) (λx j s k hI hj=>?_) n.aX 0 (n.aX,[]) ⟨hk,by simp⟩ ak]
  ·rfl
  ·have pl2:fX (decide (0<=i))=some ():=b5 (by have:=bI pl; omega);unfold AJ nT;simp only [rC,wk,Eg hu hI.1,qS]
   cases hs:dB (oG s.1 x.j7 n.bw.bj) i with
   | false=>simp only [cond_false,jP,hs,zQk,if_false]
   | true =>
    simp only [cond_true,C9 u _ _ w.2,wk,mZ hu _ _ (GN _ _ w.1 w.2),Uz (show s.2.length<=1048576 by omega),pl2,B4 hu hI.1];simp only [jP,hs,if_true];rfl
theorem Wv{α:Type}[DecidableEq α]:∀ (a b:List α),Ae (λx y=>decide (x=y)) a b=Ae (λx y=>decide (x=y)) b a:=by
 intro a
 induction a with
 | nil=>intro b; cases b <;> rfl
 | cons x a ih =>
  intro b
  cases b with
  | nil=>rfl
  | cons y b =>
   simp only [Ae];rw [ih b,show decide (x=y)=decide (y=x) from decide_eq_decide.2 eq_comm]
theorem Mt{α:Type}[DecidableEq α](a b:α):(a == b)=(b == a):=Bool.eq_iff_iff.2 ⟨λh=>beq_iff_eq.2 (beq_iff_eq.1 h).symm,λh=>beq_iff_eq.2 (beq_iff_eq.1 h).symm⟩
theorem Q7(a b:af):lL a b=lL b a:=by
 unfold lL M.same;rw [Wv,Mt a.aM,Mt a.ar,Mt a.aU,Mt a.aG.length]
structure M.DB (d:aA):Prop where
 a:au d.fA
 b:au d.fB
 p:∀ x∈d.fP,au x.fB
theorem Q8{l:List Int}(h:au l)(n:Nat):au (l.take n):=λx hx=>h x (zXQ hx)
theorem Q9{d:aA}(h:M.DB d)(n:Int):au (ja d n):=by
 unfold ja; split
 ·exact h.a
 ·exact h.b
theorem Bs{d:aA}(h:M.DB d):au (eI d).2/\(eI d).2.length<=240:=by
 unfold eI
 split
 ·rename_i hd;have:=PQ hd d.fR.dj;exact ⟨Q8 (Q9 h _) _,by simp only [zQx]; omega⟩
 ·exact ⟨ku,by simp⟩
theorem P2{b:List Int}(hb:au b):M.MsgWf (d3 b).1:=by
 unfold d3
 split
 ·rename_i h;simp only [sk] at h;have g:=eg hb (PY _ h.1);have p:=PZ hb (k:=(bJ b 0).1) (a:=(bJ b 0).2.1) (by simpa using g.2.2.2.2.2)
  cases hr:yF b (bJ b 0).1 (bJ b 0).2.1 with
  | none=>exact FN _ _ _ _ _ ku kU
  | some x =>
   obtain ⟨m,e⟩:=x;have q:=p m e hr;dsimp only
   split
   ·exact q.1
   ·exact FN _ _ _ _ _ ku kU
 ·exact FN _ _ _ _ _ ku kU
def M.drop(n:aD):aD:=⟨n.lu,n.bY,n.bM,n.aB,n.bw,n.aR,n.aX,aV .i64 n.bE 1⟩
def pH(n:aD)(d:aA)(m:af):aD :=
 if n.aR=0 then
  (if dp m && (m.aM != 0) then ⟨n.lu,n.bY,n.bM,m,eP m (eI d).2,if ((eI d).1 == m.aM) && ld m (eI d).2 then 5 else 1,n.aX,n.bE⟩ else n)
 else if lL n.aB m then n else M.drop n
theorem Il{u:Nat}(hu:1099511627776<=u){d:aA}(hd:M.DOk d)(hb:M.DB d)(m:af):rF u d m=some (((eI d).1 == m.aM) && ld m (eI d).2):=by
 obtain ⟨rb,rl⟩:=Bs hb;unfold rF;simp only [yD hu hd,FQ hu m rb (show _<=1048576 by omega),wk]
 cases ((eI d).1 == m.aM) <;> rfl
theorem L0{u:Nat}(hu:1099511627776<=u){n:aD}(hn:M.NodWf n){d:aA}(hd:M.DOk d)(hb:M.DB d){m:af}(hm:m.aG.length<=1048576):vP u n d m=some (pH n d m):=by
 obtain ⟨rb,rl⟩:=Bs hb;unfold vP pH uj ma;simp only [hJ u hn,C7 hu hm,Q7 m n.aB,mN hu m (show m.aG.length<=1073741824 by omega),yD hu hd,yI u hm,A6 hu hm rb (show _<=1048576 by omega),Il hu hd hb m,wk]
 by_cases h:n.aR=0
 ·have e:(n.aR != 0)=false:=by simp [h]
  rw [if_pos h];simp only [e,cond_false];rw [show (m.aM != 0)=!(m.aM == 0) from rfl]
  cases dp m <;> cases (m.aM == 0) <;> cases ((eI d).1 == m.aM) <;> cases ld m (eI d).2 <;> rfl
 ·have e:(n.aR != 0)=true:=by simpa using h
  simp only [e,h,cond_true,if_false]
  cases lL n.aB m <;> rfl
def EX(n:aD)(x:aY):aD:=⟨n.lu,n.bY,n.bM,n.aB,x,n.aR,n.aX,n.bE⟩
def oS(n:aD)(me:Int)(m:j4):Act :=
 if n.aR=0\/m.aM≠n.aB.aM then ⟨M.drop n,[]⟩
 else if dB n.bw.bj m.fI then ⟨n,[]⟩
 else if (qj n.aB n.bw m.fI m.fB).2 then nY (EX n (qj n.aB n.bw m.fI m.fB).1) me m.fI
 else ⟨M.drop n,[]⟩
theorem Zd{m:af}{x:aY}{i:Int}{b:List Int}(h:(zl m x i b).1=true):ah i 0 ((m.aG.length:Int) - 1)=true/\(match m.aG[i.toNat]? with | some s=>decide (dg b=s) | none=>false)=true:=by
 unfold zl at h;generalize hc:(ah i 0 ((m.aG.length:Int) - 1) && !dB x.bj i && (match m.aG[i.toNat]? with | some s=>decide (dg b=s) | none=>false))=c at h
 cases c with
 | false=>cases h
 | true=>simp only [sk] at hc; exact ⟨hc.1.1,hc.2⟩
theorem KJ{m:af}{x:aY}(hx:M.BldWf x)(i:Int){b:List Int}(hb:au b):M.BldWf (qj m x i b).1:=by
 unfold qj
 by_cases h:(hH m x && (zl m x i b).1)=true
 ·rw [if_pos h];simp only [sk] at h;obtain ⟨hbo,h2⟩:=h;obtain ⟨hm,hs⟩:=KF hbo;have hl:=A5 hbo;obtain ⟨h4,h6⟩:=Zd h2;have h7:=bI h4;obtain ⟨n,rfl⟩:∃ n:Nat,i=n:=⟨i.toNat,by omega⟩;rw [rg] at h6
  cases hg:m.aG[n]? with
  | none=>rw [hg] at h6; cases h6
  | some s =>
   rw [hg] at h6;have h8:=JQ hb (of_decide_eq_true h6) (JR hm hg);obtain ⟨e1,e2,e3⟩:=Aj (b:=x.cu) hl n;obtain ⟨g1,g2⟩:=Eh (x:=x.cu) (p:=b) (a:=M.at_ m n) ak hx.b hb;exact ⟨g1,by show (yX _ _ _).length<=_; rw [g2]; exact hx.l⟩
 ·rw [if_neg h]; exact hx
theorem Ob{n:aD}(hn:M.NodWf n){x:aY}(hx:M.BldWf x):M.NodWf (EX n x):=⟨hn.s,hx,hn.k,hn.w⟩
theorem JZ{u:Nat}(hu:1099511627776<=u){n:aD}(hn:M.NodWf n)(me:Int){m:j4}(hm:M.MsgWf m):tG u n me m=some (oS n me m):=by
 unfold tG oS su;simp only [hJ u hn,qS,JT hu hn.s hn.b m.fI hm.b hm.len,wk];rw [show (aD.mk n.lu n.bY n.bM n.aB (qj n.aB n.bw m.fI m.fB).1 n.aR n.aX n.bE)=EX n (qj n.aB n.bw m.fI m.fB).1 from rfl,LZ hu (Ob hn (KJ hn.b m.fI hm.b)) me m.fI];simp only [wk]
 by_cases h1:n.aR=0
 ·simp [h1,M.drop]
 ·by_cases h2:m.aM=n.aB.aM
  ·have e:(n.aR == 0)=false:=by simpa using h1
   simp only [h1,h2,e,cond_false,bne_self_eq_false,ne_eq,not_true_eq_false,or_self,if_false]
   cases dB n.bw.bj m.fI <;> cases (qj n.aB n.bw m.fI m.fB).2 <;> rfl
  ·have e:(n.aR == 0)=false:=by simpa using h1
   have e2:(m.aM != n.aB.aM)=true:=by simpa using h2
   simp [h1,h2,e,e2,M.drop]
def yJ(n:aD):aD:=⟨n.lu,n.bY,0,n.aB,n.bw,n.aR,n.aX,n.bE⟩
theorem EY{n:aD}(hn:M.NodWf n):M.NodWf (yJ n):=⟨hn.s,hn.b,hn.k,hn.w⟩
def kC(n:aD)(me:Int)(d:aA)(m:j4):Act :=
 if m.bG=1 then ⟨pH (yJ n) d m.aB,[]⟩
 else if m.bG=3 then oS (yJ n) me m
 else if m.bG=2 then ⟨M.drop (yJ n),[]⟩
 else ⟨yJ n,[]⟩
theorem qak{α:Type}(k:Int)(a b c e:α):(bif k == 1 then a else (bif k == 3 then b else (bif k == 2 then c else e)))=if k=1 then a else if k=3 then b else if k=2 then c else e:=by
 by_cases h1:k=1
 ·subst h1; rfl
 ·by_cases h2:k=3
  ·subst h2; rfl
  ·by_cases h3:k=2
   ·subst h3; rfl
   ·have e1:(k == 1)=false:=by simpa using h1
    have e2:(k == 3)=false:=by simpa using h2
    have e3:(k == 2)=false:=by simpa using h3
    simp [h1,h2,h3,e1,e2,e3]
theorem SR{α:Type}(p q r:Prop)[Decidable p][Decidable q][Decidable r](a b c e:α):(if p then some a else if q then some b else if r then some c else some e)=some (if p then a else if q then b else if r then c else e):=by
 by_cases hp:p <;> by_cases hq:q <;> by_cases hr:r <;> simp [hp,hq,hr]
theorem J0{u:Nat}(hu:1099511627776<=u){n:aD}(hn:M.NodWf n)(me:Int){d:aA}(hd:M.DOk d)(hb:M.DB d){m:j4}(hm:M.MsgWf m):tH u n me d m=some (kC n me d m):=by
 unfold tH kC sv;simp only [hJ u hn,wk];rw [show (aD.mk n.lu n.bY 0 n.aB n.bw n.aR n.aX n.bE)=yJ n from rfl,L0 hu (EY hn) hd hb hm.sums,JZ hu (EY hn) me hm,qak];exact SR _ _ _ _ _ _ _
def M.take(t:bl)(me:Int)(n:aD)(d:aA)(p:aq):Act :=
 if !n.lu then ⟨n,[]⟩
 else if (d3 p.fB).2 && ah p.gS 0 ((t.bC.length:Int) - 1) && (p.gS != me) then
  (if (d3 p.fB).1.bG=2 then gF n me p.gS (d3 p.fB).1
   else if p.gS=n.bY then kC n me d (d3 p.fB).1 else ⟨M.drop n,[]⟩)
 else ⟨M.drop n,[]⟩
theorem Ra{u:Nat}(hu:1099511627776<=u){t:bl}(ht:t.bC.length<=1048576)(me:Int){n:aD}(hn:M.NodWf n)(hk:n.aX.length<=1048576){d:aA}(hd:M.DOk d)(hb:M.DB d){p:aq}(hp:au p.fB)(hl:p.fB.length<=1048576):BG u t me n d p=some (M.take t me n d p):=by
 have w:=P2 hp;unfold BG M.take vR;simp only [hJ u hn,Ed hu hp hl,iJ u ht,GP hu hn hk,J0 hu hn me hd hb w,wk];rw [show (aD.mk n.lu n.bY n.bM n.aB n.bw n.aR n.aX (aV .i64 n.bE 1))=M.drop n from rfl]
 by_cases h1:(d3 p.fB).1.bG=2
 ·simp only [h1,beq_self_eq_true,cond_true,if_true];rw [show (p.gS != me)=!(p.gS == me) from rfl]
  cases n.lu <;> cases (d3 p.fB).2 <;> cases ah p.gS 0 ((t.bC.length:Int) - 1) <;> cases (p.gS == me) <;> rfl
 ·have e1:((d3 p.fB).1.bG == 2)=false:=by simpa using h1
  simp only [e1,h1,cond_false,if_false];rw [show (p.gS != me)=!(p.gS == me) from rfl]
  by_cases h2:p.gS=n.bY
  ·have e2:(p.gS == n.bY)=true:=by simpa using h2
   simp only [e2,cond_true,if_pos h2]
   cases n.lu <;> cases (d3 p.fB).2 <;> cases ah p.gS 0 ((t.bC.length:Int) - 1) <;> cases (p.gS == me) <;> rfl
  ·have e2:(p.gS == n.bY)=false:=by simpa using h2
   simp only [e2,cond_false,if_neg h2]
   cases n.lu <;> cases (d3 p.fB).2 <;> cases ah p.gS 0 ((t.bC.length:Int) - 1) <;> cases (p.gS == me) <;> rfl
def Im:List Int->Int->Int->Int
 | [],_,a=>a
 | y :: ys,n,a=>if n < 1 then a else Im ys (gX .i64 n 1) (u9 .i64 a (jt .i64 1 y))
def EZ(s n:Int):Int:=Im (gn s) n 0
theorem GQ(s:Int):gn s=((zZY 0 40).filter λ(i:Nat)=>dB s (i:Int)).map λ(i:Nat)=>(i:Int):=by
 unfold gn;rw [<- zYk]
 cases h:bh s with
 | false=>simp [dB,h]
 | true =>
  simp only [if_true]
  congr 1
  apply List.filter_congr
  intro i hi;have hi:i < 40:=by simpa using hi
  have:gm (i:Int)=true:=by simp [gm,ah]; omega
  simp [dB,h,this]
theorem Ek{s y:Int}(h:y∈gn s):0<=y:=by
 rw [GQ] at h;simp only [zXg] at h;obtain ⟨i,_,rfl⟩:=h;omega
theorem Rb(u:Nat)(r:List Int)(hr:∀ y∈r,0<=y):∀ (l:List Int) (i:Nat) (n a:Int),(∀ y∈l,0<=y)->cE (AH u r) (vI u r) l i (n,a)=some (Im l n a):=by
 intro l
 induction l with
 | nil=>intro i n a _; rfl
 | cons y ys ih =>
  intro i n a h;simp only [cE,vI,Im];have hy:fX (decide (0<=y))=some ():=b5 (h y kU)
  by_cases hn:n < 1
  ·simp only [hn,decide_true,cond_true,if_true]; rfl
  ·simp only [hn,decide_false,cond_false,if_false,hy,wk];exact ih (i+1) _ _ (λz hz=>h z WP)
theorem L1{u:Nat}(hu:1099511627776<=u)(s n:Int):vH u s n=some (EZ s n):=by
 have hp:=Ej s;unfold vH EZ;rw [ut hu,wk];have e:=Hi u (gn s) (n,0) u ak ak;refine e.trans ?_;exact Rb u _ (λy hy=>Ek hy) _ 0 n 0 (λy hy=>Ek hy)
def El(n:aD):Int:=if n.aR=0 then 0 else u1 n.aB n.bw
theorem Oc{u:Nat}(hu:1099511627776<=u){n:aD}(hn:M.NodWf n):xH u n=some (El n):=by
 unfold xH El;rw [yH u]
 by_cases h:n.aR=0
 ·simp [h]
 ·have e:(n.aR == 0)=false:=by simpa using h
  simp [h,e]
def Io(n:aD)(w:Int):Int:=EZ (El n) w
theorem Od{u:Nat}(hu:1099511627776<=u){n:aD}(hn:M.NodWf n)(w:Int):xI u n w=some (Io n w):=by
 unfold xI;simp only [Oc hu hn,L1 hu,wk]; rfl
def uJ(s i:Int):Int:=if bh s && gm i then u9 .i64 s (jt .i64 1 i) else s
theorem L2(u:Nat)(s i:Int):tE u s i=some (uJ s i):=by
 unfold tE sq uJ;simp only [jv,C4,wk]
 cases bh s with
 | false=>rfl
 | true =>
  cases h:gm i with
  | false=>rfl
  | true =>
   have:=bI h;rw [b5 ak]; rfl
def B6(n:aD)(k:Int):Int:=if n.aR=5 then uJ (sK n.aX 0) k else sK n.aX 0
theorem L3{u:Nat}(hu:1099511627776<=u){n:aD}(hk:n.aX.length<=1048576)(k:Int):vK u n k=some (B6 n k):=by
 unfold vK ug B6;simp only [D4 hu hk,L2,wk]
 by_cases h:n.aR=5
 ·simp [h]
 ·have e:(n.aR == 5)=false:=by simpa using h
  simp [h,e]
def qV(g w d:Int):j4:=⟨2,g,Dm,w,d,0,[]⟩
theorem Oe(g w d:Int):M.MsgWf (qV g w d):=FN _ _ _ _ _ ku kU
def nw(c:dV)(n:aD)(d:aA)(b q:Int):aD:=⟨n.lu,b,q,n.aB,n.bw,(ei d n.aB n.bw n.aR).2,ic n.aX c.aZ,n.bE⟩
def xd(c:dV)(k:Int)(n:aD)(d:aA)(b q:Int):II :=
 ⟨nw c n d b q,(ei d n.aB n.bw n.aR).1,[kB k b (qV n.aB.aM (Io (nw c n d b q) c.ba) (B6 (nw c n d b q) k))]⟩
def ik(t:bl)(c:dV)(k:Int)(n:aD)(d:aA):II :=
 if !n.lu then ⟨n,d,[]⟩
 else if k=0 then ⟨gP n (ic n.aX c.aZ),d,[]⟩
 else if c.aW<=n.bM then xd c k n d (Ai t k n.bY) 0
 else xd c k n d n.bY (aV .i64 n.bM 1)
theorem GR(l:List Kid)(f:Int):(ic l f).length<=l.length:=by
 unfold ic;rw [zWw];exact zZJ _ _
theorem KK{n:aD}(hn:M.NodWf n)(c:dV)(d:aA)(b q:Int):M.NodWf (nw c n d b q):=⟨hn.s,hn.b,zXw (GR _ _) hn.k,hn.w⟩
theorem L4{u:Nat}(hu:1099511627776<=u){c:dV}{k:Int}{n:aD}(hn:M.NodWf n)(hk:n.aX.length<=1048576){d:aA}(hd:M.DOk d)(hl:d.fP.length<=1048575)(b q:Int):vL u k c n d n b q (ic n.aX c.aZ) d=some (xd c k n d b q):=by
 unfold vL xd;have ha:=GR n.aX c.aZ;rw [GM hu hd hl hn.s hn.b,wk];rw [show (aD.mk n.lu b q n.aB n.bw (ei d n.aB n.bw n.aR).2 (ic n.aX c.aZ) n.bE)=nw c n d b q from rfl];rw [Od hu (KK hn c d b q),wk,L3 hu (show (nw c n d b q).aX.length<=1048576 from zXw ha hk),wk];unfold zd;rw [wk,show (∀ w x,j4.mk 2 n.aB.aM (af.mk 0 0 0 []) w x 0 []=qV n.aB.aM w x) from λ_ _=>rfl,mZ hu _ _ (Oe _ _ _),wk]
theorem Rc{u:Nat}(hu:1099511627776<=u){t:bl}(ht:t.bC.length<=1048576)(c:dV)(k:Int){n:aD}(hn:M.NodWf n)(hk:n.aX.length<=1048576){d:aA}(hd:M.DOk d)(hl:d.fP.length<=1048575):BE u t c k n d=some (ik t c k n d):=by
 unfold BE ik;simp only [hJ u hn,jb hu hd,N5 hu hk,JO hu ht,wk,L4 hu hn hk hd hl];rw [show (aD.mk n.lu n.bY n.bM n.aB n.bw n.aR (ic n.aX c.aZ) n.bE)=gP n (ic n.aX c.aZ) from rfl]
 cases n.lu with
 | false=>rfl
 | true =>
  by_cases h:k=0
  ·subst h; rfl
  ·have e:(k == 0)=false:=by simpa using h
   by_cases h2:c.aW<=n.bM
   ·have e2:decide (n.bM>=c.aW)=true:=by simpa using h2
    simp [h,e,e2,h2]
   ·have e2:decide (n.bM>=c.aW)=false:=by simp; omega
    simp [h,e,e2,h2]
theorem UB(m:j4):(dh m).length<=1000:=by
 unfold dh
 split
 ·rename_i hok;have k:=a9 [] m.bG;have g:=a9 (aF [] m.bG) m.aM;have l:=a9 (ck m) (cR (ck m));simp only [zWv] at k
  suffices h:(ck m).length<=600 by omega
  unfold ck nv
  split
  ·have:=FM (aF [] m.bG) m.aB; omega
  ·rename_i n1
   split
   ·have h1:=a9 (aF (aF [] m.bG) m.aM) (gl .i64 m.bZ 1048575);have h2:=a9 (aF (aF (aF [] m.bG) m.aM) (gl .i64 m.bZ 1048575)) (ju .i64 m.bZ 20);have h3:=a9 (aF (aF (aF (aF [] m.bG) m.aM) (gl .i64 m.bZ 1048575)) (ju .i64 m.bZ 20)) (gl .i64 m.bR 1048575);have h4:=a9 (aF (aF (aF (aF (aF [] m.bG) m.aM) (gl .i64 m.bZ 1048575)) (ju .i64 m.bZ 20)) (gl .i64 m.bR 1048575)) (ju .i64 m.bR 20);omega
   ·rename_i n2
    split
    ·rename_i n3;have h1:=a9 (aF (aF [] m.bG) m.aM) m.fI;have h2:=a9 (aF (aF (aF [] m.bG) m.aM) m.fI) m.fB.length;have h3:m.fB.length<=6:=by
      unfold kT at hok;simp only [n1,n2,n3] at hok;have h4:ah m.fB.length 1 6=true:=by
       revert hok
       cases ah (m.fB.length:Int) 1 6 <;> simp
      have:=bI h4;omega
     rw [zQG]; omega
    ·split <;> omega
 ·simp
def Ak(p:aq):Prop:=au p.fB/\p.fB.length<=1048576
theorem KL(f t:Int){m:j4}(hm:M.MsgWf m):Ak (kB f t m):=⟨CF hm,by have:=UB m; show (dh m).length<=_; omega⟩
def jL(s:List aq×List di×Int)(p:aq):List aq×List di×Int :=
 if 400<=s.1.length then (s.1,s.2.1,aV .i64 s.2.2 1)
 else (s.1++[p],if (d3 p.fB).2 && ((d3 p.fB).1.bG == 3) && decide (s.2.1.length < 3000) then s.2.1++[⟨p.gS,p.Ca,(d3 p.fB).1.fI⟩] else s.2.1,s.2.2)
def Em(w:World)(out:List aq):World :=
 ⟨w.fC,w.fT,w.cG,w.ct,w.fN,w.fD,(out.foldl jL (w.cr,w.fO,w.cQ)).1,(out.foldl jL (w.cr,w.fO,w.cQ)).2.1,(out.foldl jL (w.cr,w.fO,w.cQ)).2.2⟩
theorem Al(u:Nat){p:aq}(h:Ak p):ff u p=some p:=by
 unfold ff;rw [fw u (by have:=h.2; omega)]; rfl
theorem SS{u:Nat}(hu:1099511627776<=u)(w:World)(out:List aq)(ho:∀ p∈out,Ak p)(hl:out.length<=1048576):∀ (l:List aq) (k j:Nat) (s:List aq×List di×Int),l=out.drop j->l.length < k ->
  cV u k out (j:Int) w s.1 s.2.1 s.2.2=some ⟨w.fC,w.fT,w.cG,w.ct,w.fN,w.fD,(l.foldl jL s).1,(l.foldl jL s).2.1,(l.foldl jL s).2.2⟩:=by
 intro l
 induction l with
 | nil =>
  intro k j s h hf;obtain ⟨k,rfl⟩:∃ k',k=k'+1:=⟨k - 1,by simp at hf; omega⟩;have hj:out.length<=j:=by
   have:=congrArg List.length h; simp at this; omega
  have e:decide ((j:Int) < (out.length:Int))=false:=by simp; omega
  simp only [cV,e,cond_false];rfl
 | cons x l ih =>
  intro k j s h hf;obtain ⟨k,rfl⟩:∃ k',k=k'+1:=⟨k - 1,by simp at hf; omega⟩;have hx:out[j]?=some x:=by
   have:=congrArg zZk h
   simpa [zYK] using this.symm
  have hl2:l=out.drop (j+1):=by
   have:=congrArg List.tail h
   simpa [zYj] using this
  have hj:=(sr.1 hx).1;have e:decide ((j:Int) < (out.length:Int))=true:=by simp; omega
  have hb:aV .i64 (j:Int) 1=((j+1:Nat):Int):=qA (a:=j) (b:=1) ak;have px:=ho x (zQY hx);have r:=ih k (j+1) (jL s x) hl2 (by simp at hf; omega);simp only [List.foldl_cons,<- r];simp only [cV,e,cond_true,cU,hx,wk,Al u px,Ed hu px.1 px.2,gq,jN,hb]
  by_cases h4:400<=s.1.length
  ·have e4:decide (((s.1.length:Int))>=400)=true:=by simp; omega
   simp only [e4,cond_true,jL,h4,if_true]
  ·have e4:decide (((s.1.length:Int))>=400)=false:=by simp; omega
   simp only [e4,cond_false,Uz (show s.1.length<=1048576 by omega),wk,jL,h4,if_false,zWH]
   cases h5:(d3 x.fB).2 with
   | false=>simp
   | true =>
    cases h6:((d3 x.fB).1.bG == 3) with
    | false=>simp
    | true =>
     by_cases h7:s.2.1.length < 3000
     ·have e7:decide ((s.2.1.length:Int) < 3000)=true:=by simp; omega
      have e8:fX (decide ((s.2.1.length + [di.mk x.gS x.Ca (d3 x.fB).1.fI].length)*24<=140737488355328))=some ():=b5 lv;simp only [e7,e8,h7,cond_true,wk,decide_true,zWZ,if_true]
     ·have e7:decide ((s.2.1.length:Int) < 3000)=false:=by simp; omega
      simp [e7,h7]
theorem Ip{u:Nat}(hu:1099511627776<=u)(w:World){out:List aq}(ho:∀ p∈out,Ak p)(hl:out.length<=1048576):pr u w out=some (Em w out) :=
 SS hu w out ho hl out u 0 (w.cr,w.fO,w.cQ) rfl ak
theorem P3{b p:List Int}(hb:au b)(hp:au p)(a:Nat):au (D7 b a p):=by
 unfold D7;have hx:au (b++zQZ (a+p.length - b.length) 0):=A0 hb (λx hx=>by have:=List.eq_of_mem_replicate hx; omega);exact (Eh lv hx hp).1
theorem P4{d:aA}(hd:M.DB d){p:ej}(hp:au p.fB):M.DB (jK d p):=⟨hd.a,hd.b,λx hx=>by
 simp only [jK,zWk,zQy] at hx;rcases hx with hx | rfl
 ·exact hd.p x hx
 ·exact hp⟩
theorem ST{d:aA}(hd:M.DB d)(s a:Int){b:List Int}(hb:au b):M.DB (kz d s a b).1:=by
 rcases KG d s a b with ⟨h1,_⟩ | h1
 ·rw [h1]; exact P4 hd hb
 ·rw [h1]; exact hd
theorem Iq{d0:aA}(h0:M.DB d0){b:List Int}(hb:au b){size:Int}:∀ (n i:Nat) (d:aA),M.DB d->M.DB (lr d0 b size n i d).1
 | 0,i,d,hd=>hd
 | n+1,i,d,hd=>by
  unfold lr
  split
  ·exact Iq h0 hb n (i+1) _ (ST hd _ _ (qT hb size i).1)
  ·exact h0
theorem Ww{d:aA}(hd:M.DB d){p:ej}(hp:au p.fB):M.DB (xW d p):=by
 unfold xW
 split
 ·exact ⟨hd.a,hd.b,hd.p⟩
 ·split
  ·exact ⟨P3 hd.a hp _,hd.b,hd.p⟩
  ·exact ⟨hd.a,P3 hd.b hp _,hd.p⟩
theorem Vp:∀ (l:List ej) (d:aA),(∀ p∈l,au p.fB)->M.DB d->M.DB (yE l d)
 | [],d,_,hd=>⟨hd.a,hd.b,by simp [yE]⟩
 | p :: l,d,hp,hd=>Vp l _ (λq hq=>hp q (by simp [hq])) (Ww hd (hp p kU))
theorem Vq{d:aA}(hd:M.DB d):M.DB (M.sure d):=by
 unfold M.sure
 split
 ·exact Vp _ _ hd.p hd
 ·exact hd
theorem Pb{d:aA}(hd:M.DB d){m:af}{x:aY}(hx:M.BldWf x)(ph:Int):M.DB (ei d m x ph).1:=by
 have hst:M.DB (kA d x.cu m.ar).1:=by
  unfold kA
  split
  ·exact Iq hd hx.b _ _ _ hd
  ·exact hd
 have hr:M.DB (fM d ⟨m.aM,d7 d,m.aU⟩).1:=by
  unfold fM;rcases Q6 d ⟨2,0,[],⟨m.aM,d7 d,m.aU⟩⟩ with ⟨h1,h2⟩ | h1
  ·rw [h1]; exact P4 hd ku
  ·rw [h1]; exact hd
 unfold ei
 split
 ·split
  ·exact hst
  ·exact hd
 ·split
  ·exact Vq hd
  ·split
   ·split
    ·exact hr
    ·exact hd
   ·split
    ·exact Vq hd
    ·exact hd
structure M.ActWf (n:aD) (out:List aq):Prop where
 n:M.NodWf n
 o:∀ p∈out,Ak p
 l:out.length<=1048576
theorem J1{n:aD}(hn:M.NodWf n):M.ActWf n []:=⟨hn,λp hp=>by simp at hp,by simp⟩
theorem Ze{n:aD}(hn:M.NodWf n)(f t:Int){m:j4}(hm:M.MsgWf m):M.ActWf n [kB f t m]:=⟨hn,λp hp=>by
 simp only [zQy] at hp;rw [hp]; exact KL f t hm,by simp⟩
theorem FS{n:aD}(hn:M.NodWf n)(f t i:Int):Ak (zn n f t i):=by
 have w:=GO n.aB hn.b i;exact KL f t (GN _ _ w.1 w.2)
theorem E0{n:aD}(hn:M.NodWf n):M.NodWf (M.drop n):=⟨hn.s,hn.b,hn.k,hn.w⟩
theorem Re{n:aD}(hn:M.NodWf n)(f t:Int):M.ActWf (jc n f t).fN (jc n f t).sQ:=by
 refine ⟨⟨hn.s,hn.b,?_,hn.w⟩,λp hp=>?_,zXw (O9 n f t) ak⟩
 ·show (iX _ _ _).length<=_;rw [Id]; exact hn.k
 ·unfold jc at hp;simp only [zXg] at hp;obtain ⟨i,_,rfl⟩:=hp;exact FS hn f t i
theorem Pc{n:aD}(hn:M.NodWf n)(hk:n.aX.length<=1048576)(me f:Int)(m:j4):M.ActWf (gF n me f m).fN (gF n me f m).sQ:=by
 have hl:=SO n.aX f m.bZ m.bR;have hw:M.NodWf (gP n (kw n.aX f m.bZ m.bR)):=A7 hn ak;have hs:=Re hw me f;unfold gF
 split
 ·exact J1 hn
 ·split
  ·exact Ze hw _ _ (EW 0)
  ·split
   ·dsimp only
    split
    ·exact Ze hs.n _ _ (EW _)
    ·exact hs
   ·exact Ze hw _ _ (P1 hn.s hn.w)
theorem Zf{n:aD}(hn:M.NodWf n)(me i:Int):∀ (l:List Kid) (s:List Kid×List aq),(∀ p∈s.2,Ak p)->∀ p∈(l.foldl (jP n me i) s).2,Ak p:=by
 intro l
 induction l with
 | nil=>intro s h; exact h
 | cons x l ih =>
  intro s h;refine ih _ λp hp=>?_;unfold jP at hp
  split at hp
  ·simp only [zWk,zQy] at hp;rcases hp with hp | rfl
   ·exact h p hp
   ·exact FS hn _ _ _
  ·exact h p hp
theorem UC{n:aD}(hn:M.NodWf n)(hk:n.aX.length<=1048576)(me i:Int):M.ActWf (nY n me i).fN (nY n me i).sQ:=by
 have h:=Zc n me i n.aX (n.aX,[]);unfold nY
 split
 ·refine ⟨A7 hn ?_,Zf hn me i _ _ (λp hp=>by simp at hp),?_⟩
  ·have:=h.1; unfold Ik; dsimp only at this ⊢; omega
  ·have:=h.2; unfold Ik; simp only [zWv] at this; dsimp only; omega
 ·exact J1 hn
theorem UD{n:aD}(hn:M.NodWf n){d:aA}(hb:M.DB d){m:af}(hs:m.aG.length<=1048576)(hw:xr m):M.NodWf (pH n d m):=by
 obtain ⟨rb,rl⟩:=Bs hb;unfold pH
 split
 ·split
  ·rename_i h;simp only [sk] at h;exact ⟨hs,(Ei h.1 rb ak).b,hn.k,hw⟩
  ·exact hn
 ·split
  ·exact hn
  ·exact E0 hn
theorem SU{n:aD}(hn:M.NodWf n)(hk:n.aX.length<=1048576)(me:Int){m:j4}(hm:M.MsgWf m):M.ActWf (oS n me m).fN (oS n me m).sQ:=by
 unfold oS
 split
 ·exact J1 (E0 hn)
 ·split
  ·exact J1 hn
  ·split
   ·exact UC (Ob hn (KJ hn.b m.fI hm.b)) hk me m.fI
   ·exact J1 (E0 hn)
theorem SV{n:aD}(hn:M.NodWf n)(hk:n.aX.length<=1048576)(me:Int){d:aA}(hb:M.DB d){m:j4}(hm:M.MsgWf m):M.ActWf (kC n me d m).fN (kC n me d m).sQ:=by
 unfold kC
 split
 ·exact J1 (UD (EY hn) hb hm.sums hm.wf)
 ·split
  ·exact SU (EY hn) hk me hm
  ·split
   ·exact J1 (E0 (EY hn))
   ·exact J1 (EY hn)
theorem Zg(t:bl)(me:Int){n:aD}(hn:M.NodWf n)(hk:n.aX.length<=1048576){d:aA}(hb:M.DB d){p:aq}(hp:au p.fB):M.ActWf (M.take t me n d p).fN (M.take t me n d p).sQ:=by
 have w:=P2 hp;unfold M.take
 split
 ·exact J1 hn
 ·split
  ·split
   ·exact Pc hn hk me _ _
   ·split
    ·exact SV hn hk me hb w
    ·exact J1 (E0 hn)
  ·exact J1 (E0 hn)
structure M.BeatWf (b:II):Prop where
 a:M.ActWf b.fN b.sQ
 d:M.DOk b.fD
 l:b.fD.fP.length<=200
 b:M.DB b.fD
theorem KM(c:dV)(k:Int){n:aD}(hn:M.NodWf n){d:aA}(hd:M.DOk d)(hl:d.fP.length<=200)(hb:M.DB d)(b q:Int):M.BeatWf (xd c k n d b q):=by
 have h:=Oa hd hl (m:=n.aB) hn.b n.aR;exact ⟨Ze (KK hn c d b q) _ _ (Oe _ _ _),h.1,h.2,Pb hb hn.b _⟩
theorem Zh(t:bl)(c:dV)(k:Int){n:aD}(hn:M.NodWf n){d:aA}(hd:M.DOk d)(hl:d.fP.length<=200)(hb:M.DB d):M.BeatWf (ik t c k n d):=by
 unfold ik
 split
 ·exact ⟨J1 hn,hd,hl,hb⟩
 ·split
  ·exact ⟨J1 (A7 hn (zXw (GR _ _) hn.k)),hd,hl,hb⟩
  ·split
   ·exact KM c k hn hd hl hb _ _
   ·exact KM c k hn hd hl hb _ _
def eT(l:List Kid):List Int:=l.map λx=>x.j7
structure M.IdsOk (s:List Int):Prop where
 r:∀ x∈s,0<=x/\x<=6
 p:s.Pairwise (· < ·)
def mD(l:List Kid):Prop:=M.IdsOk (eT l)
theorem XS:∀ (s:List Int) (a:Int),a<=7->(∀ x∈s,a<=x/\x<=6)->s.Pairwise (· < ·)->(s.length:Int)<=7 - a
 | [],a,ha,_,_=>by simp; omega
 | x :: s,a,ha,h,p=>by
  rw [List.pairwise_cons] at p;have hx:=h x kU;have:=XS s (x+1) ak (λy hy=>⟨by have:=p.1 y hy; omega,(h y (by simp [hy])).2⟩) p.2;simp only [zQw];omega
theorem J2{l:List Kid}(h:mD l):l.length<=7:=by
 have:=XS (eT l) 0 ak h.r h.p;simp only [eT,zWw] at this;omega
theorem Rf{l:List Kid}{j:Nat}{x y:Kid}(h:l[j]?=some x)(hi:y.j7=x.j7):eT (l.set j y)=eT l:=by
 unfold eT
 apply List.ext_getElem?
 intro i;simp only [zQz,zXZ]
 by_cases e:j=i
 ·subst e;obtain ⟨hj,hx⟩:=sr.1 h;simp [hj,hx,hi]
 ·simp [e]
theorem Ir(l:List Kid)(id s:Int):eT (iX l id s)=eT l:=by
 unfold iX;rcases oF l id with ⟨h1,_⟩ | ⟨j,x,h1,h2,_⟩
 ·rw [h1]; rfl
 ·rw [h1];simp only [cU,h2,rg]
  split
  ·exact Rf h2 rfl
  ·rfl
theorem Rg{l:List Kid}(h:mD l)(f:Int):mD (ic l f):=by
 have e:eT (ic l f)=eT (l.filter λx=>decide (x.sR < f)):=by
  unfold eT ic;rw [List.map_map]; rfl
 have sub:(eT (l.filter λx=>decide (x.sR < f))).Sublist (eT l):=List.Sublist.map _ List.filter_sublist;unfold mD;rw [e];exact ⟨λx hx=>h.r x (sub.subset hx),h.p.sublist sub⟩
theorem KN{α:Type}(f:α->Bool):∀ (l:List α) (i j:Nat),eH f l i=((i+j:Nat):Int)->∀ x∈l.take j,f x=false
 | [],i,j,_=>by simp
 | y :: l,i,0,_=>by simp
 | y :: l,i,j+1,h=>by
  unfold eH at h
  split at h
  ·omega
  ·rename_i hy;intro x hx;simp only [List.take_succ_cons,zYx] at hx;rcases hx with rfl | hx
   ·simpa using hy
   ·exact KN f l (i+1) j (by rw [h]; congr 1; omega) x hx
theorem Of{l:List Kid}(h:mD l){k:Nat}{y:Kid}(hy:0<=y.j7/\y.j7<=6)(h1:∀ x∈l.take k,x.j7 < y.j7)(h2:∀ x∈l.drop k,y.j7 < x.j7):mD (l.take k++[y]++l.drop k):=by
 have e:eT l=eT (l.take k)++eT (l.drop k):=by unfold eT; rw [<- zXJ,zXv]
 have hp:=h.p;rw [e,List.pairwise_append] at hp;have e2:eT (l.take k++[y]++l.drop k)=eT (l.take k)++([y.j7]++eT (l.drop k)):=by unfold eT; simp
 unfold mD;rw [e2];constructor
 ·intro z hz;simp only [zWk,zQy] at hz;rcases hz with hz | rfl | hz
  ·exact h.r z (by rw [e]; simp [hz])
  ·exact hy
  ·exact h.r z (by rw [e]; simp [hz])
 ·rw [List.pairwise_append];refine ⟨hp.1,?_,?_⟩
  ·rw [List.singleton_append,List.pairwise_cons];refine ⟨λz hz=>?_,hp.2.1⟩;unfold eT at hz;rw [zXg] at hz;obtain ⟨x,hx,rfl⟩:=hz;exact h2 x hx
  ·intro a ha b hb;simp only [zWk,zQy] at hb;rcases hb with rfl | hb
   ·unfold eT at ha;rw [zXg] at ha;obtain ⟨x,hx,rfl⟩:=ha;exact h1 x hx
   ·exact hp.2.2 a ha b hb
theorem UE{l:List Kid}(h:mD l)(id w d:Int):mD (kw l id w d):=by
 unfold kw
 split
 ·rename_i hc;simp only [sk] at hc;have hid:=bI hc.1.1;rcases oF l id with ⟨h1,hno⟩ | ⟨j,x,h1,h2,_⟩
  ·rw [h1];have e:eS l (-1)=none:=by unfold eS; simp
   rw [e];dsimp only;unfold tW;rcases xu (λ(x:Kid)=>decide (x.j7 > id)) l 0 with ⟨g1,g2⟩ | ⟨j,x,g1,g2,g3⟩
   ·rw [g1,if_pos ak];refine Of h hid (λx hx=>?_) (λx hx=>by simp at hx);have hx:=zXQ hx;have a:=g2 x hx;have b:=hno x hx;simp only [decide_eq_false_iff_not] at a;show x.j7 < id;omega
   ·rw [g1,if_neg ak];have hj:=KN (λ(x:Kid)=>decide (x.j7 > id)) l 0 j g1;rw [show (((0+j:Nat):Int)).toNat=j by omega];refine Of h hid (λx hx=>?_) (λy hy=>?_)
    ·have a:=hj x hx;have b:=hno x (zXQ hx);simp only [decide_eq_false_iff_not] at a;show x.j7 < id;omega
    ·have lt:=(sr.1 g2).1;have e:l.drop j=x :: l.drop (j+1):=by
      rw [zXq lt,(sr.1 g2).2]
     have gx:id < x.j7:=by simpa using g3
     have hs:(eT (l.drop j)).Pairwise (· < ·):=h.p.sublist (List.Sublist.map _ (List.drop_sublist j l));rw [e] at hs hy;unfold eT at hs;rw [zWh,List.pairwise_cons] at hs;simp only [zYx] at hy;show id < y.j7;rcases hy with rfl | hy
     ·exact gx
     ·have:=hs.1 y.j7 (List.mem_map.2 ⟨y,hy,rfl⟩);omega
  ·rw [h1];simp only [cU,h2,rg];unfold mD;rw [Rf (y:=⟨x.j7,w,u9 .i64 x.bR d,0,x.kF⟩) h2 rfl];exact h
 ·exact h
theorem Eo{α:Type}{f:α->Nat->Bool}:∀ {l:List α} {i:Nat},gO f l i=true->∀ (j:Nat) (x:α),l[j]?=some x->f x (i+j)=true
 | [],i,_,j,x,h=>by simp at h
 | y :: l,i,h,j,x,hx=>by
  unfold gO at h;simp only [sk] at h
  cases j with
  | zero =>
   simp only [zQh,Option.some.injEq] at hx;subst hx; exact h.1
  | succ j =>
   have:=Eo h.2 j x WW;rw [show i+(j+1)=i+1+j by omega]; exact this
theorem Rh{l:List Kid}(h:tU l=true):mD l:=by
 have g:∀ (j:Nat) (x:Kid),l[j]?=some x->B3 l x j=true:=λj x hx=>by
  have:=Eo h j x hx;rwa [zQg] at this
 constructor
 ·intro z hz;unfold eT at hz;rw [zXg] at hz;obtain ⟨x,hx,rfl⟩:=hz;obtain ⟨j,hj⟩:=zYv hx;have:=g j x hj;unfold B3 at this;simp only [sk] at this;exact bI this.1.1.1.1.1
 ·have step:∀ (j:Nat) (x y:Kid),l[j]?=some x->l[j+1]?=some y->x.j7 < y.j7:=λj x y hx hy=>by
   have:=g (j+1) y hy;unfold B3 at this;simp only [sk,Nat.add_sub_cancel,hx,Nat.add_eq_zero_iff,Nat.one_ne_zero,and_false,if_false] at this;have:=this.2;simp at this;exact this
  have chain:∀ (n i:Nat) (x y:Kid),l[i]?=some x->l[i+n+1]?=some y->x.j7 < y.j7:=λn=>by
   induction n with
   | zero=>intro i x y hx hy; exact step i x y hx hy
   | succ n ih =>
    intro i x y hx hy;have lt:=(sr.1 hy).1;have hz:l[i+1]?=some (l[i+1]'ak):=sX ak;have a:=step i x _ hx hz;have b:=ih (i+1) _ y hz (by rw [show i+1+n+1=i+(n+1)+1 by omega]; exact hy);omega
  unfold eT;rw [List.pairwise_iff_getElem];intro i j hi hj hij;simp only [zWw] at hi hj;simp only [List.getElem_map];exact chain (j - i - 1) i _ _ (sX hi) (by rw [show i+(j - i - 1)+1=j by omega]; exact sX hj)
theorem XT{l:List Kid}(id w d:Int):∀ z∈eT (kw l id w d),z∈eT l\/z=id:=by
 unfold kw
 split
 ·rcases oF l id with ⟨h1,hno⟩ | ⟨j,x,h1,h2,_⟩
  ·rw [h1];have e:eS l (-1)=none:=by unfold eS; simp
   rw [e];dsimp only;intro z hz;unfold eT at hz ⊢;simp only [zXJ,zWk,zWh,List.map_nil,zQy,zXg] at hz ⊢;rcases hz with (⟨x,hx,rfl⟩ | rfl) | ⟨x,hx,rfl⟩
   ·exact .inl ⟨x,zXQ hx,rfl⟩
   ·exact .inr rfl
   ·exact .inl ⟨x,zXj hx,rfl⟩
  ·rw [h1];simp only [cU,h2,rg];rw [Rf (y:=⟨x.j7,w,u9 .i64 x.bR d,0,x.kF⟩) h2 rfl];exact λz hz=>.inl hz
 ·exact λz hz=>.inl hz
structure M.KidsTo (S:Int->Prop) (l m:List Kid):Prop where
 s:mD l->mD m
 i:∀ z∈eT m,z∈eT l\/S z
theorem Og{S:Int->Prop}{l m:List Kid}(h:eT m=eT l):M.KidsTo S l m:=⟨λhl=>by unfold mD at hl ⊢; rw [h]; exact hl,λz hz=>.inl (h ▸ hz)⟩
theorem Am{S:Int->Prop}(l:List Kid):M.KidsTo S l l:=Og rfl
theorem Wx{S:Int->Prop}{l m k:List Kid}(a:M.KidsTo S l m)(h:eT k=eT m):M.KidsTo S l k:=⟨λhl=>by have:=a.s hl; unfold mD at this ⊢; rw [h]; exact this,λz hz=>a.i z (h ▸ hz)⟩
theorem Zi{S:Int->Prop}{l:List Kid}{id:Int}(hs:S id)(w d:Int):M.KidsTo S l (kw l id w d):=⟨λh=>UE h id w d,λz hz=>by
 rcases XT id w d z hz with h | h
 ·exact .inl h
 ·rw [h]; exact .inr hs⟩
theorem Pd(n:aD)(f t:Int):eT (jc n f t).fN.aX=eT n.aX:=Ir _ _ _
theorem L5{S:Int->Prop}{n:aD}{me f:Int}(hs:S f)(m:j4):M.KidsTo S n.aX (gF n me f m).fN.aX:=by
 have h:M.KidsTo S n.aX (kw n.aX f m.bZ m.bR):=Zi hs _ _;have g:M.KidsTo S n.aX (jc (gP n (kw n.aX f m.bZ m.bR)) me f).fN.aX:=Wx h (Pd _ me f);unfold gF
 split
 ·exact Am _
 ·split
  ·exact h
  ·split
   ·dsimp only
    split
    ·exact g
    ·exact g
   ·exact h
theorem Zj(n:aD)(me i:Int):∀ (l:List Kid) (s:List Kid×List aq),eT (l.foldl (jP n me i) s).1=eT s.1:=by
 intro l
 induction l with
 | nil=>intro s; rfl
 | cons x l ih =>
  intro s;rw [List.foldl_cons,ih];unfold jP
  split
  ·exact Ir _ _ _
  ·rfl
theorem SW(n:aD)(me i:Int):eT (nY n me i).fN.aX=eT n.aX:=by
 unfold nY
 split
 ·exact Zj n me i _ _
 ·rfl
theorem Ri(n:aD)(d:aA)(m:af):(pH n d m).aX=n.aX:=by
 unfold pH
 split
 ·split <;> rfl
 ·split <;> rfl
theorem Rj(n:aD)(me:Int)(m:j4):eT (oS n me m).fN.aX=eT n.aX:=by
 unfold oS
 split
 ·rfl
 ·split
  ·rfl
  ·split
   ·exact SW _ _ _
   ·rfl
theorem Rk(n:aD)(me:Int)(d:aA)(m:j4):eT (kC n me d m).fN.aX=eT n.aX:=by
 unfold kC
 split
 ·show eT (pH _ _ _).aX=_;rw [Ri]; rfl
 ·split
  ·exact Rj _ _ _
  ·split <;> rfl
def jd(t:bl)(z:Int):Prop:=ah z 0 ((t.bC.length:Int) - 1)=true
theorem Wy(t:bl)(me:Int)(n:aD)(d:aA)(p:aq):M.KidsTo (jd t) n.aX (M.take t me n d p).fN.aX:=by
 unfold M.take
 split
 ·exact Am _
 ·split
  ·rename_i h;simp only [sk] at h
   split
   ·exact L5 h.1.2 _
   ·split
    ·exact Og (Rk _ _ _ _)
    ·exact Am _
  ·exact Am _
def sN(me:Int)(S:Int->Prop)(out:List aq):Prop:=∀ q∈out,q.gS=me/\S q.Ca
theorem wz(me:Int)(S:Int->Prop):sN me S []:=λq hq=>by simp at hq
theorem Oh{me t:Int}{S:Int->Prop}(h:S t)(m:j4):sN me S [kB me t m]:=λq hq=>by
 simp only [zQy] at hq;subst hq; exact ⟨rfl,h⟩
theorem Rl{S:Int->Prop}{n:aD}{me f:Int}(h:S f):sN me S (jc n me f).sQ:=λq hq=>by
 unfold jc at hq;simp only [zXg] at hq;obtain ⟨i,_,rfl⟩:=hq;exact ⟨rfl,h⟩
theorem Pe{S:Int->Prop}{n:aD}{me f:Int}(h:S f)(m:j4):sN me S (gF n me f m).sQ:=by
 unfold gF
 split
 ·exact wz _ _
 ·split
  ·exact Oh h _
  ·split
   ·dsimp only
    split
    ·exact Oh h _
    ·exact Rl h
   ·exact Oh h _
theorem qal{S:Int->Prop}{n:aD}{me i:Int}:∀ (l:List Kid) (s:List Kid×List aq),(∀ x∈l,S x.j7)->sN me S s.2->sN me S (l.foldl (jP n me i) s).2:=by
 intro l
 induction l with
 | nil=>intro s _ h; exact h
 | cons x l ih =>
  intro s hl h;refine ih _ (λy hy=>hl y (by simp [hy])) λq hq=>?_;unfold jP at hq
  split at hq
  ·simp only [zWk,zQy] at hq;rcases hq with hq | rfl
   ·exact h q hq
   ·exact ⟨rfl,hl x kU⟩
  ·exact h q hq
theorem UF{S:Int->Prop}{n:aD}{me i:Int}(h:∀ x∈n.aX,S x.j7):sN me S (nY n me i).sQ:=by
 unfold nY
 split
 ·exact qal _ _ h (wz _ _)
 ·exact wz _ _
theorem Zk{t:bl}{me:Int}{n:aD}(h:∀ x∈n.aX,jd t x.j7)(d:aA)(p:aq):sN me (jd t) (M.take t me n d p).sQ:=by
 unfold M.take
 split
 ·exact wz _ _
 ·split
  ·rename_i hc;simp only [sk] at hc
   split
   ·exact Pe hc.1.2 _
   ·split
    ·unfold kC
     split
     ·exact wz _ _
     ·split
      ·unfold oS
       split
       ·exact wz _ _
       ·split
        ·exact wz _ _
        ·split
         ·exact UF (n:=EX (yJ n) _) h
         ·exact wz _ _
      ·first | exact wz _ _ | (split <;> exact wz _ _)
    ·exact wz _ _
  ·exact wz _ _
theorem P5{t:bl}(h:cY t=true){j:Nat}(h0:0 < j){x:Int}(hx:t.bC[j]?=some x):0<=x/\x < j:=by
 unfold cY at h;simp only [sk] at h;have:=Eo h.1 j x hx;rw [zQg] at this;unfold yG at this;rw [if_neg ak] at this;have:=bI this;omega
theorem KO{t:bl}(h:cY t=true){k:Nat}(h0:0 < k)(hk:k < t.bC.length)(b:Int):jd t (Ai t k b):=by
 have get:∀ j:Nat,0 < j->j < t.bC.length->jd t ((t.bC[j]?).getD 0):=λj h0 hj=>by
  have e:=sX hj;have:=P5 h h0 e;rw [e];unfold jd;simp only [zYG,ah,sk,decide_eq_true_eq];omega
 have hw:ah (k:Int) 1 ((t.bC.length:Int) - 1)=true:=by simp [ah]; omega
 unfold Ai;rw [h,hw];simp only [zWZ,if_true]
 split
 ·rename_i hc;simp only [sk,decide_eq_true_eq] at hc;have:=bI (Ut hc.1);exact get b.toNat ak ak
 ·exact get _ lv lv
theorem Zl{t:bl}(h:cY t=true)(c:dV){k:Nat}(hk:k < t.bC.length){n:aD}(hb:k≠0->jd t n.bY)(d:aA):sN k (jd t) (ik t c k n d).sQ/\(k≠0->jd t (ik t c k n d).fN.bY):=by
 unfold ik
 split
 ·exact ⟨wz _ _,hb⟩
 ·split
  ·exact ⟨wz _ _,hb⟩
  ·rename_i h1;have h0:0 < k:=by omega
   split
   ·exact ⟨Oh (KO h h0 hk _) _,λ_=>KO h h0 hk _⟩
   ·exact ⟨Oh (hb ak) _,λg=>hb g⟩
theorem UG(l:List Kid)(f:Int):∀ z∈eT (ic l f),z∈eT l:=λz hz=>by
 unfold eT ic at *;simp only [List.map_map,zXg,List.mem_filter] at hz ⊢;obtain ⟨x,hx,rfl⟩:=hz;exact ⟨x,hx.1,rfl⟩
theorem WA(S:Int->Prop)(t:bl)(c:dV)(k:Int)(n:aD)(d:aA):M.KidsTo S n.aX (ik t c k n d).fN.aX:=by
 have h:M.KidsTo S n.aX (ic n.aX c.aZ):=⟨λhl=>Rg hl _,λz hz=>.inl (UG _ _ z hz)⟩;unfold ik
 split
 ·exact Am _
 ·split
  ·exact h
  ·split <;> exact h
theorem Rm(n:aD)(d:aA)(m:af):(pH n d m).bY=n.bY:=by
 unfold pH
 split
 ·split <;> rfl
 ·split <;> rfl
theorem L6(n:aD)(me f:Int)(m:j4):(gF n me f m).fN.bY=n.bY:=by
 unfold gF
 split
 ·rfl
 ·split
  ·rfl
  ·split
   ·dsimp only
    split <;> rfl
   ·rfl
theorem Rn(n:aD)(me i:Int):(nY n me i).fN.bY=n.bY:=by
 unfold nY
 split <;> rfl
theorem Pf(n:aD)(me:Int)(d:aA)(m:j4):(kC n me d m).fN.bY=n.bY:=by
 unfold kC
 split
 ·exact Rm _ _ _
 ·split
  ·unfold oS
   split
   ·rfl
   ·split
    ·rfl
    ·split
     ·exact Rn _ _ _
     ·rfl
  ·split <;> rfl
theorem WB(t:bl)(me:Int)(n:aD)(d:aA)(p:aq):(M.take t me n d p).fN.bY=n.bY:=by
 unfold M.take
 split
 ·rfl
 ·split
  ·split
   ·exact L6 _ _ _ _
   ·split
    ·exact Pf _ _ _ _
    ·rfl
  ·rfl
structure M.NodeIn (t:bl) (j:Nat) (n:aD):Prop where
 w:M.NodWf n
 s:mD n.aX
 k:∀ z∈eT n.aX,jd t z
 b:j≠0->jd t n.bY
structure M.DiskIn (d:aA):Prop where
 o:M.DOk d
 b:M.DB d
 l:d.fP.length<=200
structure M.PkIn (t:bl) (p:aq):Prop where
 w:Ak p
 f:jd t p.gS
 t:jd t p.Ca
structure M.WWf (w:World):Prop where
 t:cY w.fT=true
 nl:w.fN.length=w.fT.bC.length
 dl:w.fD.length=w.fT.bC.length
 nodes:∀ (j:Nat) (n:aD),w.fN[j]?=some n->M.NodeIn w.fT j n
 disks:∀ (j:Nat) (d:aA),w.fD[j]?=some d->M.DiskIn d
 net:∀ p∈w.cr,M.PkIn w.fT p
 len:w.cr.length<=400
theorem Ep{t:bl}{j:Nat}{n:aD}(h:M.NodeIn t j n):n.aX.length<=1048576:=by
 have:=J2 h.s; omega
theorem Er{w:World}(h:M.WWf w):1<=w.fT.bC.length/\w.fT.bC.length<=7:=by
 have:=h.t;unfold cY at this;simp only [sk] at this;have:=bI this.2;omega
theorem Oi{t:bl}{z:Int}(h:jd t z):∃ j:Nat,z=j/\j < t.bC.length:=by
 have:=bI h;exact ⟨z.toNat,by omega,by omega⟩
theorem XU{t:bl}:∀ (out:List aq) (s:List aq×List di×Int),(∀ p∈s.1,M.PkIn t p)->s.1.length<=400->(∀ p∈out,M.PkIn t p) ->
  (∀ p∈(out.foldl jL s).1,M.PkIn t p)/\(out.foldl jL s).1.length<=400:=by
 intro out
 induction out with
 | nil=>intro s h l _; exact ⟨h,l⟩
 | cons x out ih =>
  intro s h l ho;rw [List.foldl_cons];refine ih _ ?_ ?_ (λp hp=>ho p (by simp [hp]))
  ·unfold jL
   split
   ·exact h
   ·intro p hp;simp only [zWk,zQy] at hp;rcases hp with hp | rfl
    ·exact h p hp
    ·exact ho p kU
  ·unfold jL
   split
   ·exact l
   ·simp only [zQG,zZK]; omega
theorem SX{w:World}(h:M.WWf w){out:List aq}(ho:∀ p∈out,M.PkIn w.fT p):M.WWf (Em w out):=by
 have:=XU out (w.cr,w.fO,w.cQ) h.net h.len ho;exact ⟨h.t,h.nl,h.dl,h.nodes,h.disks,this.1,this.2⟩
theorem Ro{α:Type}{P:Nat->α->Prop}{l:List α}(h:∀ (j:Nat) (x:α),l[j]?=some x->P j x){k:Nat}{y:α}(hy:P k y):∀ (j:Nat) (x:α),(l.set k y)[j]?=some x->P j x:=by
 intro j x hx;rw [zXZ] at hx
 split at hx
 ·rename_i e
  split at hx
  ·simp only [Option.some.injEq] at hx;rw [<- hx,<- e]; exact hy
  ·cases hx
 ·exact h j x hx
def zA(w:World)(k:Nat)(n:aD)(d:aA):World:=⟨w.fC,w.fT,w.cG,w.ct,w.fN.set k n,w.fD.set k d,w.cr,w.fO,w.cQ⟩
theorem SY{w:World}(h:M.WWf w){k:Nat}{n:aD}{d:aA}(hn:M.NodeIn w.fT k n)(hd:M.DiskIn d):M.WWf (zA w k n d) :=
 ⟨h.t,by simp [zA,h.nl],by simp [zA,h.dl],Ro h.nodes hn,Ro (P:=λ_ d=>M.DiskIn d) h.disks hd,h.net,h.len⟩
def ir(w:World)(k:Nat):World:=match w.fN[k]?,w.fD[k]? with
 | some n,some d=>Em (zA w k (ik w.fT w.fC k n d).fN (ik w.fT w.fC k n d).fD) (ik w.fT w.fC k n d).sQ
 | _,_=>w
theorem Vr{t:bl}(ht:cY t=true)(c:dV){k:Nat}(hk:k < t.bC.length){n:aD}(hn:M.NodeIn t k n){d:aA}(hd:M.DiskIn d) :
  M.NodeIn t k (ik t c k n d).fN/\M.DiskIn (ik t c k n d).fD/\(∀ p∈(ik t c k n d).sQ,M.PkIn t p)/\(ik t c k n d).sQ.length<=1048576:=by
 have w:=Zh t c k hn.w hd.o hd.l hd.b;have kk:=WA (jd t) t c k n d;have to:=Zl ht c hk hn.b d;have hkk:jd t (k:Int):=by unfold jd; simp [ah]; omega
 refine ⟨⟨w.a.n,kk.s hn.s,λz hz=>?_,to.2⟩,⟨w.d,w.b,w.l⟩,λp hp=>⟨w.a.o p hp,?_,(to.1 p hp).2⟩,w.a.l⟩
 ·rcases kk.i z hz with h | h
  ·exact hn.k z h
  ·exact h
 ·rw [(to.1 p hp).1]; exact hkk
theorem Bt{w:World}(h:M.WWf w){k:Nat}(hk:k < w.fT.bC.length):M.WWf (ir w k):=by
 unfold ir
 split
 ·rename_i n d hn hd;have g:=Vr h.t w.fC hk (h.nodes k n hn) (h.disks k d hd);exact SX (SY h g.1 g.2.1) g.2.2.1
 ·exact h
theorem Rp{u:Nat}(hu:1099511627776<=u){w:World}(h:M.WWf w){k:Nat}(hk:k < w.fT.bC.length):pt u w k=some (ir w k):=by
 have up:=Er h;have hn:w.fN[k]?=some (w.fN[k]'(by rw [h.nl]; exact hk)):=sX _;have hd:w.fD[k]?=some (w.fD[k]'(by rw [h.dl]; exact hk)):=sX _;generalize w.fN[k]'(by rw [h.nl]; exact hk)=n at hn;generalize w.fD[k]'(by rw [h.dl]; exact hk)=d at hd;have a:=h.nodes k n hn;have b:=h.disks k d hd;have g:=Vr h.t w.fC hk a b;unfold pt ir;simp only [cU,hn,hd,wk,Rc hu (show w.fT.bC.length<=1048576 by omega) w.fC k a.w (Ep a) b.o (show d.fP.length<=1048575 by have:=b.l; omega),rg];rw [show (World.mk w.fC w.fT w.cG w.ct (w.fN.set k (ik w.fT w.fC k n d).fN) (w.fD.set k (ik w.fT w.fC k n d).fD) w.cr w.fO w.cQ)=zA w k (ik w.fT w.fC k n d).fN (ik w.fT w.fC k n d).fD from rfl,Ip hu _ (λp hp=>(g.2.2.1 p hp).w) g.2.2.2];rfl
def yK(w:World)(k:Nat):World:=⟨w.fC,w.fT,w.cG,w.ct,w.fN,w.fD,w.cr.take k++w.cr.drop (k+1),w.fO,w.cQ⟩
theorem XV{w:World}(h:M.WWf w)(k:Nat):M.WWf (yK w k) :=
 ⟨h.t,h.nl,h.dl,h.nodes,h.disks,λp hp=>by
  simp only [yK,zWk] at hp;rcases hp with hp | hp
  ·exact h.net p (zXQ hp)
  ·exact h.net p (zXj hp),by
  have:=h.len;simp only [yK,zQG,zQx,zYZ]; omega⟩
theorem Rq(u:Nat){w:World}(h:M.WWf w){k:Nat}{p:aq}(hp:w.cr[k]?=some p):mT u w (k:Int)=some (p,yK w k):=by
 have hk:=(sr.1 hp).1;have hl:=h.len;have hb:aV .i64 (k:Int) 1=((k+1:Nat):Int):=qA (a:=k) (b:=1) ak;unfold mT eD;have e:(decide ((0:Int)<=(k:Int)) && decide ((k:Int) < ((k+1:Nat):Int)) && decide (((k+1:Nat):Int)<=(w.cr.length:Int)))=true:=by simp only [sk,decide_eq_true_eq]; omega
 simp only [cU,hp,wk,hb,e,cond_true,rg];rfl
def UH(w:World)(k:Nat)(n:aD):World:=⟨w.fC,w.fT,w.cG,w.ct,w.fN.set k n,w.fD,w.cr,w.fO,w.cQ⟩
theorem XW{w:World}(h:M.WWf w){k:Nat}{n:aD}(hn:M.NodeIn w.fT k n):M.WWf (UH w k n) :=
 ⟨h.t,by simp [UH,h.nl],h.dl,Ro h.nodes hn,h.disks,h.net,h.len⟩
def B7(w:World)(p:aq):World:=match w.fN[p.Ca.toNat]?,w.fD[p.Ca.toNat]? with
 | some n,some d=>Em (UH w p.Ca.toNat (M.take w.fT p.Ca n d p).fN) (M.take w.fT p.Ca n d p).sQ
 | _,_=>w
def gr(w:World)(k:Nat):World:=match w.cr[k]? with
 | some p=>B7 (yK w k) p
 | none=>w
theorem Vs{t:bl}{n:aD}{k:Nat}(hk:k < t.bC.length)(hn:M.NodeIn t k n){d:aA}(hd:M.DiskIn d){p:aq}(hp:M.PkIn t p) :
  M.NodeIn t k (M.take t k n d p).fN/\(∀ q∈(M.take t k n d p).sQ,M.PkIn t q)/\(M.take t k n d p).sQ.length<=1048576:=by
 have w:=Zg t k hn.w (Ep hn) hd.b hp.w.1;have kk:=Wy t k n d p;have to:=Zk (me:=(k:Int)) (λx hx=>hn.k x.j7 (List.mem_map.2 ⟨x,hx,rfl⟩)) d p;have hkk:jd t (k:Int):=by unfold jd; simp [ah]; omega
 refine ⟨⟨w.n,kk.s hn.s,λz hz=>?_,λh0=>by rw [WB]; exact hn.b h0⟩,λq hq=>⟨w.o q hq,?_,(to q hq).2⟩,w.l⟩
 ·rcases kk.i z hz with h | h
  ·exact hn.k z h
  ·exact h
 ·rw [(to q hq).1]; exact hkk
theorem UI{w:World}(h:M.WWf w){p:aq}(hp:M.PkIn w.fT p):M.WWf (B7 w p):=by
 obtain ⟨j,e,hj⟩:=Oi hp.t;unfold B7
 split
 ·rename_i n d hn hd;rw [e,rg] at hn hd ⊢;have g:=Vs hj (h.nodes j n hn) (h.disks j d hd) hp;exact SX (XW h g.1) g.2.1
 ·exact h
theorem xw{w:World}(h:M.WWf w)(k:Nat):M.WWf (gr w k):=by
 unfold gr
 split
 ·rename_i p hp;exact UI (XV h k) (h.net p (zQY hp))
 ·exact h
theorem Rr{u:Nat}(hu:1099511627776<=u){w:World}(h:M.WWf w){k:Nat}(hk:k < w.cr.length):mW u w k=some (gr w k):=by
 have up:=Er h;have hp:w.cr[k]?=some w.cr[k]:=sX hk;generalize w.cr[k]=p at hp;have pin:=h.net p (zQY hp);obtain ⟨j,e,hj⟩:=Oi pin.t;have hn:w.fN[j]?=some (w.fN[j]'(by rw [h.nl]; exact hj)):=sX _;have hd:w.fD[j]?=some (w.fD[j]'(by rw [h.dl]; exact hj)):=sX _;generalize w.fN[j]'(by rw [h.nl]; exact hj)=n at hn;generalize w.fD[j]'(by rw [h.dl]; exact hj)=d at hd;have a:=h.nodes j n hn;have b:=h.disks j d hd;have g:=Vs hj a b pin;unfold mW gr;rw [Rq u h hp,hp];unfold B7;simp only [wk,e,rg,cU];simp only [yK,hn,hd,wk,Ra hu (show w.fT.bC.length<=1048576 by omega) (j:Int) a.w (Ep a) b.o b.b pin.w.1 pin.w.2];rw [Ip hu _ (λp hp=>(g.2.1 p hp).w) g.2.2];rfl
def uK:Nat->World->World
 | 0,w=>w
 | n+1,w=>if w.cr.length=0 then w else uK n (gr w 0)
def A8:Nat->Nat->World->World
 | 0,_,w=>w
 | n+1,k,w=>A8 n (k+1) (ir w k)
def A9(w:World):World:=uK 6000 (A8 w.fN.length 0 w)
theorem SZ:∀ (n:Nat) {w:World},M.WWf w->M.WWf (uK n w)
 | 0,w,h=>h
 | n+1,w,h=>by
  unfold uK
  split
  ·exact h
  ·exact SZ n (xw h 0)
theorem worldTick_t(w:World)(k:Nat):(ir w k).fT=w.fT:=by
 unfold ir
 split <;> rfl
theorem P6:∀ (n k:Nat) {w:World},M.WWf w->k+n=w.fT.bC.length->M.WWf (A8 n k w)/\(A8 n k w).fT=w.fT
 | 0,k,w,h,_=>⟨h,rfl⟩
 | n+1,k,w,h,e=>by
  have g:=P6 n (k+1) (Bt h (k:=k) ak) ZW;rw [worldTick_t] at g;exact g
theorem WC{w:World}(h:M.WWf w):M.WWf (A9 w):=SZ 6000 (P6 _ 0 h (by rw [h.nl]; omega)).1
def Is(k n:Int):wC:=⟨k,n,0,⟨0,0,[]⟩⟩
theorem Rs{u:Nat}(hu:1099511627776<=u){w:World}(h:M.WWf w):gf u w (Is 2 0)=some (decide (0 < w.cr.length),if w.cr.length=0 then w else gr w 0):=by
 have hl:=h.len;have up:=Er h;have e:gX .i64 ((w.cr.length:Int)) 1=(w.cr.length:Int) - 1:=dZ ak ak;unfold gf jB j8 Is;simp only [iJ u (show w.fT.bC.length<=1048576 by omega),bk,e,wk]
 by_cases hz:w.cr.length=0
 ·have c:ah 0 0 ((w.cr.length:Int) - 1)=false:=by rw [hz]; rfl
  rw [c,hz]; rfl
 ·have c:ah 0 0 ((w.cr.length:Int) - 1)=true:=by simp [ah]; omega
  have d:decide (0 < w.cr.length)=true:=by simp; omega
  have t:mW u w 0=some (gr w 0):=Rr hu h (k:=0) ak;rw [c,d,if_neg hz,t]; rfl
theorem Rt{u:Nat}(hu:1099511627776<=u){w:World}(h:M.WWf w){k:Nat}(hk:k < w.fT.bC.length):gf u w (Is 1 k)=some (true,ir w k):=by
 have hl:=h.len;have up:=Er h;have c:ah (k:Int) 0 ((w.fT.bC.length:Int) - 1)=true:=by simp [ah]; omega
 unfold gf jB Is;simp only [iJ u (show w.fT.bC.length<=1048576 by omega),bk,c,wk,Rp hu h hk];rfl
theorem UJ{u:Nat}(hu:1099511627776<=u)(N:Nat)(hN:N<=6000):∀ (m i f:Nat) (w:World),M.WWf w->i+m=N->m < f ->
  ed u f N i w.fC.ar w.fC.ba w.fC.aW w.fC.aZ w.fT.bC w.cG w.ct w.fN w.fD w.cr w.fO w.cQ=some (uK m w):=by
 intro m
 induction m with
 | zero =>
  intro i f w h e hf;obtain ⟨f,rfl⟩:∃ f',f=f'+1:=⟨f - 1,by omega⟩;have c:decide ((i:Int) < (N:Int))=false:=by simp; omega
  simp only [ed,c,cond_false];rfl
 | succ m ih =>
  intro i f w h e hf;obtain ⟨f,rfl⟩:∃ f',f=f'+1:=⟨f - 1,by omega⟩;have c:decide ((i:Int) < (N:Int))=true:=by simp; omega
  have hb:aV .i64 (i:Int) 1=((i+1:Nat):Int):=qA (a:=i) (b:=1) ak;have t2:gf u (World.mk (dV.mk w.fC.ar w.fC.ba w.fC.aW w.fC.aZ) (bl.mk w.fT.bC) w.cG w.ct w.fN w.fD w.cr w.fO w.cQ) (wC.mk 2 0 0 (aq.mk 0 0 []))=some (decide (0 < w.cr.length),if w.cr.length=0 then w else gr w 0):=Rs hu h;simp only [ed,c,cond_true,t2,wk,uK,hb]
  by_cases hz:w.cr.length=0
  ·rw [hz]; simp
  ·have d:decide (0 < w.cr.length)=true:=by simp; omega
   simp only [d,zQV,cond_false,hz,if_false];exact ih (i+1) f (gr w 0) (xw h 0) ak ak
theorem L7{u:Nat}(hu:1099511627776<=u){w:World}(h:M.WWf w):oX u w 6000=some (uK 6000 w) :=
 UJ hu 6000 ak 6000 0 u w h rfl ak
theorem Ru{u:Nat}(hu:1099511627776<=u)(w0:World):∀ (m i f:Nat) (w:World),M.WWf w->i+m=w.fT.bC.length->w0.fN.length=w.fT.bC.length->m < f ->
  eN u f w0 i w.fC.ar w.fC.ba w.fC.aW w.fC.aZ w.fT.bC w.cG w.ct w.fN w.fD w.cr w.fO w.cQ=some (uK 6000 (A8 m i w)):=by
 intro m
 induction m with
 | zero =>
  intro i f w h e h0 hf;obtain ⟨f,rfl⟩:∃ f',f=f'+1:=⟨f - 1,by omega⟩;have c:decide ((i:Int) < (w0.fN.length:Int))=false:=by simp; omega
  simp only [eN,c,cond_false,ot,A8];rw [show World.mk (dV.mk w.fC.ar w.fC.ba w.fC.aW w.fC.aZ) (bl.mk w.fT.bC) w.cG w.ct w.fN w.fD w.cr w.fO w.cQ=w from rfl,L7 hu h];rfl
 | succ m ih =>
  intro i f w h e h0 hf;obtain ⟨f,rfl⟩:∃ f',f=f'+1:=⟨f - 1,by omega⟩;have up:=Er h;have c:decide ((i:Int) < (w0.fN.length:Int))=true:=by simp; omega
  have hb:aV .i64 (i:Int) 1=((i+1:Nat):Int):=qA (a:=i) (b:=1) ak;have t2:gf u (World.mk (dV.mk w.fC.ar w.fC.ba w.fC.aW w.fC.aZ) (bl.mk w.fT.bC) w.cG w.ct w.fN w.fD w.cr w.fO w.cQ) (wC.mk 1 i 0 (aq.mk 0 0 []))=some (true,ir w i):=Rt hu h ak;simp only [eN,c,cond_true,t2,wk,hb,A8];exact ih (i+1) f (ir w i) (Bt h ak) ZW ZW ak
theorem Pg{u:Nat}(hu:1099511627776<=u){w:World}(h:M.WWf w):ou u w=some (A9 w):=by
 have up:=Er h;have hl:=h.nl;exact Ru hu w w.fN.length 0 u w h ak ak ak
def M.idle(n:aD):Bool:=lM n.aB && (n.bw.bj == 0) && ((n.bw.cu.length:Int) == 0)
def J3(n:aD):Bool:=if n.aR=0 then M.idle n else if n.aR=1 then (n.aB.aM != 0) && hH n.aB n.bw else ah n.aR 2 6 && uw n.aB n.bw
def zB(t:bl)(k:Int)(x:Kid):Bool:=!(x.j7 == k) && !decide (x.j7>=(t.bC.length:Int))
theorem S0{α:Type}(g:α->Bool):∀ (l:List α) (i:Nat),gO (λx _=>g x) l i=l.all g
 | [],_=>rfl
 | x :: l,i=>by simp only [gO,List.all_cons,S0 g l]
def Rv(n:aD):Bool:=(n.bY == 0) && (n.bM == 0) && M.idle n && (n.aR == 0) && ((n.aX.length:Int) == 0) && (n.bE == 0)
def Rw(t:bl)(k:Int)(n:aD):Bool :=
 (if k=0 then n.bY == -1 else FO t n.bY k) && !decide (n.bM < 0) && !decide (n.bE < 0) && ((n.aR == 6) == (k == 0)) && tU n.aX && (n.aX.all (zB t k) && J3 n)
def tX(t:bl)(k:Int)(n:aD):Bool:=cY t && ah k 0 ((t.bC.length:Int) - 1) && (if n.lu then Rw t k n else Rv n)
theorem y0(u:Nat)(x:aY):mS u x=some ((x.bj == 0) && ((x.cu.length:Int) == 0)):=by
 unfold mS
 cases x.bj == 0 <;> rfl
def GS(n:aD):Bool:=if n.aR=0 then M.idle n else (n.aB.aM != 0) && hH n.aB n.bw && ((n.aR == 1) || (u1 n.aB n.bw == 0))
theorem L8{u:Nat}(hu:1099511627776<=u){n:aD}(hs:n.aB.aG.length<=1048576)(hb:M.BldWf n.bw):na u n=some (GS n):=by
 unfold na nx GS M.idle;simp only [ww,y0,uv hu hs hb,yH u,wk]
 by_cases h0:n.aR=0
 ·rw [if_pos h0,h0]
  cases lM n.aB <;> cases (n.bw.bj == 0) <;> rfl
 ·have e0:(n.aR == 0)=false:=by simpa using h0
  rw [if_neg h0,show (n.aB.aM != 0)=!(n.aB.aM == 0) from rfl];simp only [e0,cond_false]
  cases (n.aB.aM == 0) <;> cases hH n.aB n.bw <;> cases (n.aR == 1) <;> rfl
theorem XX(n:aD):(ah n.aR 0 6 && GS n)=J3 n:=by
 unfold GS J3 uw
 by_cases h0:n.aR=0
 ·rw [if_pos h0,if_pos h0,h0]; rfl
 ·rw [if_neg h0,if_neg h0]
  by_cases h1:n.aR=1
  ·rw [if_pos h1,h1]
   cases (n.aB.aM != 0) <;> cases hH n.aB n.bw <;> rfl
  ·have e1:(n.aR == 1)=false:=by simpa using h1
   have e2:ah n.aR 2 6=ah n.aR 0 6:=by
    unfold ah;rw [zXH];simp only [sk,decide_eq_true_eq];omega
   rw [if_neg h1,e1,e2]
   cases ah n.aR 0 6 <;> cases (n.aB.aM != 0) <;> cases hH n.aB n.bw <;> rfl
def CJ(t:bl)(k:Int)(x:Kid):Bool:=ah x.j7 0 ((t.bC.length:Int) - 1) && !(x.j7 == k)
theorem L9{u:Nat}(hu:1099511627776<=u){l:List Kid}(hl:l.length<=1048576){t:bl}(ht:t.bC.length<=1048576)(k:Int):ch u l t k=some (l.any λx=>!CJ t k x):=by
 unfold ch c8;rw [k6 u l t k () u ak ak,lq (λx=>!CJ t k x) rfl (λx i k hx=>by
  unfold fJ tw CJ;rw [iJ u ht];simp only [wk]
  cases ah x.j7 0 ((t.bC.length:Int) - 1)
  ·rfl
  ·simp)]
 simp only [wk,pT]
theorem WD{t:bl}{k:Int}{l:List Kid}(h:tU l=true):l.all (CJ t k)=l.all (zB t k):=by
 have r:=(Rh h).r;have:∀ x∈l,CJ t k x=zB t k x:=λx hx=>by
  have:=r x.j7 (List.mem_map.2 ⟨x,hx,rfl⟩);have e:ah x.j7 0 ((t.bC.length:Int) - 1)=!decide (x.j7>=(t.bC.length:Int)):=by
   unfold ah;rw [zXH];simp only [sk,decide_eq_true_eq,Bool.not_eq_true',decide_eq_false_iff_not];omega
  unfold CJ zB;rw [e,Bool.and_comm]
 rw [zXH,zYJ,zYJ];exact ⟨λg x hx=>this x hx ▸ g x hx,λg x hx=>(this x hx).symm ▸ g x hx⟩
theorem Oj{u:Nat}(hu:1099511627776<=u){t:bl}(ht:t.bC.length<=1048576)(k:Int){n:aD}(hs:n.aB.aG.length<=1048576)(hb:M.BldWf n.bw)(hk:n.aX.length<=1048576):uQ u t k n=some (tX t k n):=by
 unfold uQ vF nb ub tX;simp only [rN hu (show t.bC.length<=1073741824 by omega),iJ u ht,ww,y0,B2 hu ht,N3 hu hk,bk,L8 hu hs hb,L9 hu hk ht k,D3,wk]
 cases cY t with
 | false=>rfl
 | true =>
  cases hw:ah k 0 ((t.bC.length:Int) - 1) with
  | false=>rfl
  | true =>
   have hk0:=bI hw
   cases n.lu with
   | false =>
    unfold Rv M.idle
    cases (n.bY == 0) <;> cases (n.bM == 0) <;> cases lM n.aB <;> cases (n.bw.bj == 0) <;> cases ((n.bw.cu.length:Int) == 0) <;> cases (n.aR == 0) <;> cases ((n.aX.length:Int) == 0) <;> rfl
   | true =>
    have core:(bif decide (n.bM>=0) then bif decide (n.bE>=0) then bif ah n.aR 0 6 then bif (n.aR == 6) == (k == 0) then bif GS n then bif tU n.aX then some (n.aX.all (CJ t k)) else some false else some false else some false else some false else some false else some false)
      = some (!decide (n.bM < 0) && !decide (n.bE < 0) && ((n.aR == 6) == (k == 0)) && tU n.aX && (n.aX.all (zB t k) && J3 n)):=by
     rw [<- XX n];have q:decide (n.bM>=0)=!decide (n.bM < 0):=by
      by_cases h:n.bM < 0
      ·have:¬ n.bM>=0:=by omega
       simp [h,this]
      ·have:n.bM>=0:=by omega
       simp [h,this]
     have d:decide (n.bE>=0)=!decide (n.bE < 0):=by
      by_cases h:n.bE < 0
      ·have:¬ n.bE>=0:=by omega
       simp [h,this]
      ·have:n.bE>=0:=by omega
       simp [h,this]
     rw [q,d]
     cases hko:tU n.aX with
     | false =>
      generalize ((n.aR == 6) == (k == 0))=z
      cases decide (n.bM < 0) <;> cases decide (n.bE < 0) <;> cases ah n.aR 0 6 <;> cases GS n <;> cases z <;> rfl
     | true =>
      rw [WD hko];generalize ((n.aR == 6) == (k == 0))=z;generalize n.aX.all (zB t k)=y
      cases decide (n.bM < 0) <;> cases decide (n.bE < 0) <;> cases ah n.aR 0 6 <;> cases GS n <;> cases z <;> cases y <;> rfl
    unfold Rw
    by_cases h0:k=0
    ·have e1:(k == 0)=true:=by simpa using h0
     have e2:(k != 0)=false:=by simpa using h0
     rw [if_pos h0]
     cases hbo:(n.bY == -1) with
     | false=>simp only [e1,e2,hbo]; rfl
     | true =>
      simp only [e1] at core;simp only [e1,hbo,zQV,zWX,zYX,cond_false,cond_true,if_true];exact core
    ·have e1:(k == 0)=false:=by simpa using h0
     have e2:(k != 0)=true:=by simpa using h0
     rw [if_neg h0]
     cases FO t n.bY k with
     | false=>simp only [e1,e2]; rfl
     | true =>
      simp only [e1] at core;simp only [e1,e2,zQV,zWX,zYX,cond_false,cond_true,if_true];exact core
def B8(a b:List Int):Bool:=decide (b.length<=a.length) && uY (a.take b.length) b
theorem GT(u:Nat)(a b:List Int):qr u a b=some (B8 a b):=by
 unfold qr B8
 by_cases h:b.length<=a.length
 ·have e:decide (((a.length:Int))>=((b.length:Int)))=true:=by simp; omega
  have c:fX (er 0 ((b.length:Int)) a.length)=some ():=by
   rw [show (0:Int)=((0:Nat):Int) from rfl,mO ak h]
  simp only [e,h,c,cond_true,wk,rg,show sY 0=0 from rfl,List.drop_zero,decide_true,zWX];rfl
 ·have e:decide (((a.length:Int))>=((b.length:Int)))=false:=by simp; omega
  simp only [e,h,cond_false,decide_false,Bool.false_and]
def P7(p:ej)(m:af)(s:Int):Bool:=(p.j3 == 2) && ([p.fR.aM,p.fR.dj,p.fR.aU] == [m.aM,s,m.aU])
def xY(d:aA)(m:af)(x:aY)(ph:Int):Bool :=
 if ph=2 then (d.fP.all λp=>p.j3 == d7 d) && B8 (ja (M.sure d) (d7 d)) x.cu
 else if ph=3 then ((d.fP.length:Int) == 0) && B8 (ja d (d7 d)) x.cu
 else if ph=4 then ((d.fP.length:Int) == 1) && (match d.fP[0]? with | some p=>P7 p m (d7 d) | none=>false) && B8 (ja d (d7 d)) x.cu
 else false
theorem Ph(ph:Int)(a b c:Option Bool):(bif ph == 2 then a else (bif ph == 3 then b else (bif ph == 4 then c else some false)))=if ph=2 then a else if ph=3 then b else if ph=4 then c else some false:=by
 by_cases h2:ph=2
 ·subst h2; rfl
 ·by_cases h3:ph=3
  ·subst h3; rfl
  ·by_cases h4:ph=4
   ·subst h4; rfl
   ·have e2:(ph == 2)=false:=by simpa using h2
    have e3:(ph == 3)=false:=by simpa using h3
    have e4:(ph == 4)=false:=by simpa using h4
    simp [h2,h3,h4,e2,e3,e4]
theorem S4(ph:Int)(a b c:Bool):(if ph=2 then some a else if ph=3 then some b else if ph=4 then some c else some false)=some (if ph=2 then a else if ph=3 then b else if ph=4 then c else false):=by
 by_cases h2:ph=2 <;> by_cases h3:ph=3 <;> by_cases h4:ph=4 <;> simp [h2,h3,h4]
theorem XY{d:aA}(h:ah (d7 d) 0 1=true):d7 d=0\/d7 d=1:=by
 have:=bI h; omega
theorem qbB{α:Type}(l:List α):((l.length:Int) == 1)=decide (l.length=1):=by
 rw [zXH]; simp; omega
theorem UK(l:List ej)(s:Int):(!(l.any λp=>p.j3 != s))=l.all λp=>p.j3 == s:=by
 induction l with
 | nil=>rfl
 | cons x l ih =>
  rw [zZh,List.all_cons,Bool.not_or,ih,show (x.j3 != s)=!(x.j3 == s) from rfl,Bool.not_not]
theorem GU{u:Nat}(hu:1099511627776<=u){l:List ej}(hl:l.length<=1048576)(s:Int):b4 u l s=some (l.any λp=>p.j3 != s):=by
 unfold b4 cT;rw [ke u l s () u ak ak,lq (λp=>p.j3 != s) rfl (λx i k hx=>rfl)];simp only [wk,pT]
theorem Fm(u:Nat)(d:aA)(s:Int)(x:aY):kl u d s x=some (B8 (ja d s) x.cu):=by
 unfold kl;simp only [CB,wk,GT]
theorem Es{u:Nat}(hu:1099511627776<=u){d:aA}(hd:M.DOk d)(m:af)(x:aY)(ph:Int):og u ph d (d7 d) (d7 d) m x=some (xY d m x ph):=by
 unfold og xY;simp only [GU hu hd.p,Ia hu hd,Fm,wk,UK];rw [Ph,<- S4]
 congr 1
 ·cases (d.fP.all λp=>p.j3 == d7 d) <;> rfl
 ·congr 1
  ·cases ((d.fP.length:Int) == 0) <;> rfl
  ·congr 1
   cases hp:d.fP with
   | nil=>rfl
   | cons p l =>
    cases l with
    | nil =>
     have e:eS [p] (0:Int)=some p:=cU [p] 0;simp only [zZK,e,wk,zQh,P7]
     cases (p.j3 == 2) <;> cases ([p.fR.aM,p.fR.dj,p.fR.aU] == [m.aM,d7 d,m.aU]) <;> rfl
    | cons q l =>
     have e:(((p :: q :: l).length:Int) == 1)=false:=by rw [qbB]; simp
     simp only [e,cond_false,Bool.false_and]
theorem It{u:Nat}(hu:1099511627776<=u){d:aA}(hd:M.DOk d)(hs:ah (d7 d) 0 1=true)(m:af)(x:aY)(ph:Int):ru u d m x ph=some (xY d m x ph):=by
 have j:=Es hu hd m x ph;unfold ru;simp only [Br,wk];rcases XY hs with h | h
 ·rw [h] at j ⊢; exact j
 ·rw [h] at j ⊢; exact j
theorem Rx{d:aA}(h:c7 d=true):ah (d7 d) 0 1=true:=by
 have r:=bI (FI (CC h).1).1;unfold d7;rw [dZ ak ak];simp [ah]; omega
def my(c:dV):Bool:=ah c.ar 2 6 && ah c.ba 1 40 && ah c.aW 1 5 && ah c.aZ 2 8
theorem Ok(u:Nat)(c:dV):xz u c=some (my c):=by
 unfold xz my;simp only [d1,wk]
 cases ah c.ar 2 6 <;> cases ah c.ba 1 40 <;> cases ah c.aW 1 5 <;> rfl
theorem Et(u:Nat)(c:dV):uO u c=some (my c):=by
 unfold uO my;simp only [bk,wk]
 cases ah c.ar 2 6 <;> cases ah c.ba 1 40 <;> cases ah c.aW 1 5 <;> rfl
def pI(l:List aL)(n:Int):Bool:=(l.all λx=>!decide ((x.fB.length:Int) > 240)) && ((l.length:Int) == n)
theorem Ma{u:Nat}(hu:1099511627776<=u){l:List aL}(hl:l.length<=1048576)(n:Int):vh u l n=some (pI l n):=by
 unfold vh pI;rw [G5 u l n () u ak ak,xb (λ(x:aL) _=>!decide ((x.fB.length:Int) > 240)) (xs:=l) (b:=(l.length:Int) == n) rfl 0 (λx i f _ hx=>?_) l 0 (zWJ _) rfl,S0];unfold AA
 cases decide ((x.fB.length:Int) > 240) <;> rfl
theorem Ba{u:Nat}(hu:1099511627776<=u){l:List aL}(hl:l.length<=1048576)(t:bl):o6 u t l=some (pI l t.bC.length):=by
 unfold o6 pI cC cI;rw [jo u l () u ak ak,lq (λ(x:aL)=>decide ((x.fB.length:Int) > 240)) rfl (λx i k hx=>rfl)];simp only [wk,pT];have e:(!(l.any λx=>decide ((x.fB.length:Int) > 240)))=l.all λx=>!decide ((x.fB.length:Int) > 240):=by
  induction l with
  | nil=>rfl
  | cons x l ih=>simp only [zZh,List.all_cons,Bool.not_or,ih (by simp at hl; omega)]
 rw [e]
 cases ((l.length:Int) == (t.bC.length:Int)) <;> simp
def Ao(new old:List Int)(n:aD)(d:aA):Bool :=
 if n.aR=0 then ((d.fP.length:Int) == 0) && (M.holds d 0 old || M.holds d 1 new)
 else if n.aR=1 then ((d.fP.length:Int) == 0) && M.holds d 0 old
 else if n.aR=5 then ((d.fP.length:Int) == 0) && M.holds d 1 new
 else M.holds d 0 old && xY d n.aB n.bw n.aR
theorem Pi{α:Type}(ph:Int)(a b c e:α):(bif ph == 0 then a else (bif ph == 1 then b else (bif ph == 5 then c else e)))=if ph=0 then a else if ph=1 then b else if ph=5 then c else e:=by
 by_cases h2:ph=0
 ·subst h2; rfl
 ·by_cases h3:ph=1
  ·subst h3; rfl
  ·by_cases h4:ph=5
   ·subst h4; rfl
   ·have e2:(ph == 0)=false:=by simpa using h2
    have e3:(ph == 1)=false:=by simpa using h3
    have e4:(ph == 5)=false:=by simpa using h4
    simp [h2,h3,h4,e2,e3,e4]
theorem XZ{α:Type}(p q r:Prop)[Decidable p][Decidable q][Decidable r](a b c e:α):some (if p then a else if q then b else if r then c else e)=if p then some a else if q then some b else if r then some c else some e:=(SR p q r a b c e).symm
theorem J4{u:Nat}(hu:1099511627776<=u){w:World}{k:Nat}{n:aD}{d:aA}{o:aL}(hn:w.fN[k]?=some n)(hd:w.fD[k]?=some d)(ho:w.ct[k]?=some o)(dk:M.DOk d)(hok:c7 d=true)(hoff:n.lu=false->n.aR=0):lc u w k=some (Ao w.cG o.fB n d):=by
 unfold lc lG;simp only [cU,hn,hd,ho,wk,Bn hu dk,It hu dk (Rx hok)];have main:(bif n.aR == 0 then (bif (d.fP.length:Int) == 0 then bif M.holds d 0 o.fB then some true else some (M.holds d 1 w.cG) else some false) else bif n.aR == 1 then (bif (d.fP.length:Int) == 0 then some (M.holds d 0 o.fB) else some false) else bif n.aR == 5 then (bif (d.fP.length:Int) == 0 then some (M.holds d 1 w.cG) else some false) else (bif M.holds d 0 o.fB then some (xY d n.aB n.bw n.aR) else some false))=some (Ao w.cG o.fB n d):=by
  unfold Ao;rw [Pi,XZ]
  congr 1
  ·cases ((d.fP.length:Int) == 0) <;> cases M.holds d 0 o.fB <;> rfl
  ·congr 1
   ·cases ((d.fP.length:Int) == 0) <;> rfl
   ·congr 1
    ·cases ((d.fP.length:Int) == 0) <;> rfl
    ·cases M.holds d 0 o.fB <;> rfl
 cases hon:n.lu with
 | true=>exact main
 | false =>
  have h0:=hoff hon;rw [h0] at main ⊢;exact main
structure M.WIn (w:World):Prop where
 nd:M.NdOk w
 up:w.fT.bC.length<=1048576
 n:w.fN.length<=1048576
 d:w.fD.length<=1048576
 net:w.cr.length<=1048576
 nodes:∀ n∈w.fN,n.aB.aG.length<=1048576/\M.BldWf n.bw/\n.aX.length<=1048576
 disks:∀ d∈w.fD,M.DOk d
def Ap(n:aD)(d:aA)(o:aL):Bool:=n.lu && M.holds d 0 o.fB && ((d.fP.length:Int) == 0)
def xZ(w:World)(n:aD)(i:Nat):Bool:=match w.fD[i]?,w.ct[i]? with
 | some d,some o=>tX w.fT i n && c7 d && ((n.aR == 0) || lL n.aB (sL w)) && (if i=0 then Ap n d o else Ao w.cG o.fB n d)
 | _,_=>false
def Aq(t:bl)(p:aq):Bool:=ah p.gS 0 ((t.bC.length:Int) - 1) && ah p.Ca 0 ((t.bC.length:Int) - 1)
def B9(w:World):Bool :=
 my w.fC && cY w.fT && cO w.fC.ar w.cG.length && pI w.ct w.fT.bC.length && ((w.fN.length:Int) == (w.fT.bC.length:Int)) && ((w.fD.length:Int) == (w.fT.bC.length:Int)) &&
  !decide ((w.cr.length:Int) > 400) && !decide ((w.fO.length:Int) > 3000) && !decide (w.cQ < 0) && (gO (xZ w) w.fN 0 && w.cr.all (Aq w.fT))
def sO(w:World)(n:aD)(i:Nat):Bool:=match w.fD[i]?,w.ct[i]? with
 | some d,some o=>tX w.fT i n && c7 d && ((n.aR == 0) || lL n.aB (sL w)) && (if i=0 then true else Ao w.cG o.fB n d)
 | _,_=>false
theorem Ol{α:Type}{f g:α->Nat->Bool}(h:∀ x j,1<=j->f x j=g x j):∀ (l:List α) (i:Nat),1<=i->gO f l i=gO g l i
 | [],_,_=>rfl
 | x :: l,i,hi=>by simp only [gO,h x i hi,Ol h l (i+1) ak]
theorem UL(w:World)(n:aD)(j:Nat)(h:1<=j):xZ w n j=sO w n j:=by
 have h0:¬ j=0:=by omega
 unfold xZ sO;simp only [h0,if_false]
 all_goals (cases w.fD[j]? <;> cases w.ct[j]? <;> rfl)
theorem J5{u:Nat}(hu:1099511627776<=u){w:World}(h:M.WIn w):bU u w.cr w=some (w.cr.any λp=>!Aq w.fT p):=by
 have hl:=h.net;unfold bU cJ;rw [jq u w.cr w () u ak ak,lq (λp=>!Aq w.fT p) rfl (λx i k hx=>by
  unfold eE rv Aq;simp only [iJ u h.up,wk]
  cases ah x.gS 0 ((w.fT.bC.length:Int) - 1) <;> cases ah x.Ca 0 ((w.fT.bC.length:Int) - 1) <;> rfl)]
 simp only [wk,pT]
theorem UM{t:bl}{k:Int}{n:aD}(h:tX t k n=true)(ho:n.lu=false):n.aR=0:=by
 unfold tX Rv at h;rw [ho] at h;simp only [sk,zQk,if_false,beq_iff_eq] at h;exact h.2.1.1.2
def Om(w:World)(r:Bool):Bool:=r && !decide ((w.cr.length:Int) > 400) && w.cr.all (Aq w.fT) && !decide ((w.fO.length:Int) > 3000) && !decide (w.cQ < 0)
theorem qam(a b:Int):decide (a<=b)=!decide (a > b):=by
 by_cases h:a<=b
 ·have:¬ a > b:=by omega
  simp [h,this]
 ·have:a > b:=by omega
  simp [h,this]
theorem qan(a b:Int):decide (a>=b)=!decide (a < b):=by
 by_cases h:a < b
 ·have:¬ a>=b:=by omega
  simp [h,this]
 ·have:a>=b:=by omega
  simp [h,this]
theorem Iu{u:Nat}(hu:1099511627776<=u){w:World}(h:M.WIn w){n:aD}{d:aA}{o:aL}(hn:w.fN[0]?=some n)(hd:w.fD[0]?=some d)(ho:w.ct[0]?=some o):nR u w=some (Om w (Ap n d o)):=by
 have i1:eS w.fN (0:Int)=some n:=(cU w.fN 0).trans hn;have i2:eS w.fD (0:Int)=some d:=(cU w.fD 0).trans hd;have i3:eS w.ct (0:Int)=some o:=(cU w.ct 0).trans ho;have dk:=h.disks d (zQY hd);unfold nR Om Ap;simp only [i1,i2,i3,wk,Bn hu dk,J5 hu h,D3,qam,qan]
 cases n.lu <;> cases M.holds d 0 o.fB <;> cases ((d.fP.length:Int) == 0) <;> cases decide ((w.cr.length:Int) > 400) <;> cases w.cr.all (Aq w.fT) <;> cases decide ((w.fO.length:Int) > 3000) <;> rfl
theorem GV{u:Nat}(hu:1099511627776<=u){w:World}(h:M.WIn w)(hd:w.fD.length=w.fN.length)(ho:w.ct.length=w.fN.length){r:Bool}(hr:nR u w=some r) :
  fi u u w 0 (sL w)=some (gO (sO w) w.fN 0 && r):=by
 have hn:=h.n;rw [Hg u w (sL w) () u ak ak,xb (sO w) (xs:=w.fN) (b:=r) hr 0 (λn i k _ hx=>?_) w.fN 0 (zWJ _) rfl];have hi:=(sr.1 hx).1;have hdd:w.fD[i]?=some (w.fD[i]'ak):=sX _;have hoo:w.ct[i]?=some (w.ct[i]'ak):=sX _;generalize w.fD[i]'ak=d at hdd;generalize w.ct[i]'ak=o at hoo;have nn:=h.nodes n (zQY hx);have dk:=h.disks d (zQY hdd);unfold AE gU ue sO;simp only [cU,hdd,hoo,wk,Oj hu h.up i nn.1 nn.2.1 nn.2.2,rM hu dk,C7 hu nn.1]
 cases hno:tX w.fT i n with
 | false=>rfl
 | true =>
  cases hok:c7 d with
  | false=>rfl
  | true =>
   have mir:=J4 hu hx hdd hoo dk hok (UM hno);simp only [mir,wk];rw [show (n.aR != 0)=!(n.aR == 0) from rfl]
   by_cases h0:i=0
   ·have e:decide ((i:Int) > 0)=false:=by simp; omega
    simp only [e,h0,if_true]
    cases (n.aR == 0) <;> cases lL n.aB (sL w) <;> rfl
   ·have e:decide ((i:Int) > 0)=true:=by simp; omega
    simp only [e,h0,if_false]
    cases (n.aR == 0) <;> cases lL n.aB (sL w) <;> cases Ao w.cG o.fB n d <;> rfl
theorem Mb{u:Nat}(hu:1099511627776<=u){w:World}(h:M.WIn w):vG u w=some (B9 w):=by
 unfold vG B9;simp only [Et,rN hu (show w.fT.bC.length<=1073741824 by have:=h.up; omega),pE,Ba hu h.nd.old,wk];rw [show ((w.fN.length:Int) != (w.fT.bC.length:Int))=!((w.fN.length:Int) == (w.fT.bC.length:Int)) from rfl,show ((w.fD.length:Int) != (w.fT.bC.length:Int))=!((w.fD.length:Int) == (w.fT.bC.length:Int)) from rfl];have f:iN u true w=some false:=rfl;rw [f]
 cases my w.fC with
 | false=>rfl
 | true =>
  cases ht:cY w.fT with
  | false=>rfl
  | true =>
   cases cO w.fC.ar w.cG.length with
   | false=>rfl
   | true =>
    cases ho:pI w.ct w.fT.bC.length with
    | false=>rfl
    | true =>
     cases hn:((w.fN.length:Int) == (w.fT.bC.length:Int)) with
     | false=>rfl
     | true =>
      cases hd:((w.fD.length:Int) == (w.fT.bC.length:Int)) with
      | false=>rfl
      | true =>
       unfold pI at ho;unfold cY at ht;simp only [sk,beq_iff_eq] at ho hn hd ht;have up:=bI ht.2;have hnn:w.fN[0]?=some (w.fN[0]'ak):=sX _;have hdd:w.fD[0]?=some (w.fD[0]'ak):=sX _;have hoo:w.ct[0]?=some (w.ct[0]'ak):=sX _;generalize w.fN[0]'ak=n at hnn;generalize w.fD[0]'ak=d at hdd;generalize w.ct[0]'ak=o at hoo;have l3:=GV hu h ak ak (Iu hu h hnn hdd hoo);simp only [zQV,cond_false,zWX,iN,FJ hu h.nd,wk,l3];have e:gO (xZ w) w.fN 0=(gO (sO w) w.fN 0 && Ap n d o):=by
        cases hf:w.fN with
        | nil=>rw [hf] at hnn; simp at hnn
        | cons x l =>
         rw [hf] at hnn;simp only [zQh,Option.some.injEq] at hnn;subst hnn;simp only [gO];rw [Ol (UL w) l (0+1) ak];generalize gO (sO w) l (0+1)=y;unfold xZ sO;simp only [hdd,hoo,if_true];generalize (tX w.fT ((0:Nat):Int) x && c7 d && ((x.aR == 0) || lL x.aB (sL w)))=z
         cases z <;> cases Ap x d o <;> cases y <;> rfl
       rw [e];unfold Om;generalize gO (sO w) w.fN 0=a;generalize Ap n d o=b;generalize w.cr.all (Aq w.fT)=c
       cases a <;> cases b <;> cases c <;> cases decide ((w.cr.length:Int) > 400) <;> cases decide ((w.fO.length:Int) > 3000) <;> cases decide (w.cQ < 0) <;> rfl
theorem S5:∀ (n:Nat) (b:List Int),au b->b.length<=n->qy n (jl b 1)=some b:=by
 intro n
 induction n with
 | zero =>
  intro b _ hl;have:b=[]:=zQW ak;subst this;rfl
 | succ n ih =>
  intro b hb hl;rcases List.eq_nil_or_concat b with rfl | ⟨c,x,hbx⟩
  ·rfl
  ·rw [List.concat_eq_append] at hbx;subst hbx;have hx:=hb x kU;have hc:au c:=λz hz=>hb z WP;have h1:=N7 c 1 0 hc kU;have hp:(0:Int) < 256 ^ (0+c.length):=Int.pow_pos ak;have e:jl (c++[x]) 1=256*jl c 1+x:=by rw [Ss]; rfl
   unfold qy;rw [e,if_neg ak,if_neg ak,show (256*jl c 1+x) / 256=jl c 1 by omega,show (256*jl c 1+x) % 256=x by omega,ih c hc (by simp at hl; omega)];rfl
theorem zo{b:List Int}(hb:au b)(hl:b.length<=6):cy (jl b 1)=(b,true):=by
 have h1:=N7 b 1 0 hb kU;have hp:(0:Int) < 256 ^ (0+b.length):=Int.pow_pos ak;unfold cy;rw [if_neg ak,S5 6 b hb hl]
theorem WE{a b:List Int}(ha:au a)(hb:au b)(la:a.length<=6)(lb:b.length<=6)(h:dg a=dg b):a=b:=by
 unfold dg at h;rw [if_neg ak,if_neg ak] at h;have h2:jl a 1=jl b 1:=congrArg cS.fS h;have h3:=zo ha la;rw [h2,zo hb lb] at h3;exact (congrArg Prod.fst h3).symm
theorem P8{size n i:Int}(h:ah i 0 (bg size n - 1)=true):(bW size n i).1=i*size/\1<=(bW size n i).2:=by
 have ⟨h1,h2,h3⟩:=zy h;have h4:=oE h1;have h5:=(bI h).2;unfold bW;rw [if_pos h];unfold bg at h5;rw [if_pos h1] at h5;have h8:i+1<=(n+size - 1) / size:=by omega
 have h9:(i+1)*size<=n+size - 1:=(Int.le_ediv_iff_mul_le ak).1 h8;rw [zVY] at h9;refine ⟨rfl,?_⟩;dsimp only;omega
theorem Oo{b:List Int}{size i:Int}(h:ah i 0 (bg size b.length - 1)=true):((dJ b size i).1.length:Int)=(bW size b.length i).2/\(dJ b size i).1=M.win b (bW size b.length i).1.toNat (bW size b.length i).2.toNat:=by
 have h1:=P8 h;have h2:=qh (size:=size) (n:=b.length) (i:=i) ak;unfold dJ;dsimp only;rw [if_neg ak];refine ⟨?_,rfl⟩;unfold M.win;simp;omega
theorem Ry{b:List Int}(hb:au b){size:Int}{i:Nat}(h:ah (i:Int) 0 (bg size b.length - 1)=true):wq size b.length i (dg (dJ b size i).1)=true:=by
 have h1:=Oo h;have h2:=qT hb size i;unfold wq dg;rw [if_neg ak];simp only [zo h2.1 h2.2,h1.1];simp
theorem FT{b:List Int}(hb:au b){size:Int}:∀ (n i:Nat),((i+n:Nat):Int)<=bg size b.length->nV size b.length ((zZY i n).map λ(i:Nat)=>dg (dJ b size i).1) i=true
 | 0,i,_=>rfl
 | n+1,i,h=>by
  have hw:ah (i:Int) 0 (bg size b.length - 1)=true:=by unfold ah; simp; omega
  simp only [zYq,zWh,nV];rw [Ry hb hw,zWX];exact FT hb n (i+1) ak
theorem u2(g:Int){b:List Int}(hb:au b)(size:Int):dp (eX g b size)=true:=by
 unfold eX
 cases h1:ah g 1 1000000 with
 | false=>rfl
 | true =>
  cases h2:cO size b.length with
  | false=>rfl
  | true =>
   have hg:=bI h1;have hr:=blocks_range size b.length;simp only [zWZ,if_true];unfold dp;simp only;rw [if_neg ak,h1,h2];simp only [zWX,sk,beq_iff_eq];unfold iI;refine ⟨by simp; omega,?_⟩;rw [zYk];exact FT hb _ 0 ak
theorem P9{α:Type}{f:α->α->Bool}(hf:∀ x,f x x=true)(l:List α):M.same f l l=true:=by
 unfold M.same;have:Ae f l l=true:=by
  induction l with
  | nil=>rfl
  | cons x l ih=>simp [Ae,hf,ih]
 simp [this]
theorem KP{g size:Int}{b:List Int}(h:cO size b.length=true)(hg:ah g 1 1000000=true):ld (eX g b size) b=true:=by
 unfold ld eX;rw [hg,h];simp [P9]
def Ev{β:Type}(r:Option β)(p:β->Prop):Prop:=∃ v,r=some v/\p v
theorem qk{β γ:Type}{r:Option β}{p:β->Prop}{f:β->Option γ}{q:γ->Prop}(h:Ev r p)(hf:∀ v,p v->Ev (f v) q):Ev (r.bind f) q:=by
 obtain ⟨v,e,h1⟩:=h;rw [e];exact hf v h1
theorem E1{β:Type}{v:β}{p:β->Prop}(h:p v):Ev (some v) p:=⟨v,rfl,h⟩
theorem Zm{β:Type}{r:Option β}{p q:β->Prop}(h:Ev r p)(hpq:∀ v,p v->q v):Ev r q:=by
 obtain ⟨v,e,h1⟩:=h;exact ⟨v,e,hpq v h1⟩
theorem u6{β γ:Type}{r:Option β}{v:β}{f:β->Option γ}{q:γ->Prop}(e:r=some v)(hf:Ev (f v) q):Ev (r.bind f) q:=by
 rw [e];exact hf
theorem Eu{γ:Type}{b:Bool}{f:Unit->Option γ}{q:γ->Prop}(hb:b=true)(hf:Ev (f ()) q):Ev ((fX b).bind f) q:=by
 subst hb;exact hf
theorem S6{α:Type}{r:Option (α×bS)}{p:α->Prop}(h:Dr r p):Ev r λv=>p v.1/\Cu v.2:=by
 obtain ⟨v,c,e,h1,h2⟩:=h;exact ⟨_,e,h1,h2⟩
theorem Ar(u:Nat){c:bS}(hc:Cu c)(n:Int):Ev (dA u c n) λv=>(0<=v.1/\(0 < n->v.1 < n))/\Cu v.2:=S6 (mp u hc n)
theorem Zn(u:Nat){c:bS}(hc:Cu c)(n:Int):Ev (uL u c n) λv=>Cu v.2:=Zm (S6 (Wl u hc n)) λ_ h=>h.2
theorem qao(u:Nat){c:bS}(hc:Cu c){xs:List Int}(hx:0 < xs.length):Ev (rh u c xs) λv=>v.1∈xs/\Cu v.2:=S6 (NS u hc hx)
theorem wA{γ:Type}{b:Bool}{x y:Option γ}{q:γ->Prop}(h1:b=true->Ev x q)(h2:b=false->Ev y q):Ev (bif b then x else y) q:=by
 cases b with
 | true=>exact h1 rfl
 | false=>exact h2 rfl
theorem Rz{c:bS}(h:Cu c):Cu (bS.mk c.fB c.fI c.fH):=h
theorem Qa{α:Type}{f:α->Nat->Bool}:∀ (l:List α) (i:Nat) (x:α),gO f (l++[x]) i=(gO f l i && f x (i+l.length))
 | [],i,x=>by simp [gO]
 | y :: l,i,x=>by
  simp only [zXy,gO,Qa l (i+1) x,zQw,Bool.and_assoc];rw [show i+1+l.length=i+(l.length+1) by omega]
def Ew(t:bl):Prop:=cY t=true/\1<=t.bC.length/\t.bC.length<=7
theorem UN(u:Nat)(hu:1099511627776<=u){c:bS}(hc:Cu c):Ev (vd u c) λv=>Ew v.1/\Cu v.2:=by
 have key:∀ (m k n:Nat) (up:List Int) (c:bS),n+m=7->m < k->1<=n->up.length=n->gO yG up 0=true->Cu c ->
   Ev (gT u k (n:Int) up c.fB c.fI c.fH) λv=>Ew v.1/\Cu v.2:=by
  intro m
  induction m with
  | zero =>
   intro k n up c hn hk h1 hl ho hc;obtain ⟨k,rfl⟩:∃ j,k=j+1:=⟨k - 1,by omega⟩;unfold gT;refine qk (Ar u (Rz hc) 7) λr hr=>?_;have hr1:=hr.1.1;have hr2:=hr.1.2 ak;rw [dC ak ak];have:¬ (n:Int) < 1+r.1:=by omega
   simp only [this,decide_false,cond_false,tY];exact E1 ⟨⟨by unfold cY; rw [ho]; simp [ah]; omega,by show 1<=up.length; omega,by show up.length<=7; omega⟩,hr.2⟩
  | succ m ih =>
   intro k n up c hn hk h1 hl ho hc;obtain ⟨k,rfl⟩:∃ j,k=j+1:=⟨k - 1,by omega⟩;unfold gT;refine qk (Ar u (Rz hc) 7) λr hr=>?_;have hr1:=hr.1.1;have hr2:=hr.1.2 ak;rw [dC ak ak];have next:∀ (x:Int) (c:bS),0<=x->x < n->Cu c->Ev (ql u (λz0 z1 z2 z3 z4=>gT u k z0 z1 z2 z3 z4) (n:Int) x up c.fB c.fI c.fH) λv=>Ew v.1/\Cu v.2:=by
    intro x c h0 hx hc;unfold ql;refine Eu lv ?_;rw [dC ak ak,show (n:Int)+1=((n+1:Nat):Int) by omega];refine ih k (n+1) _ c ak ak ak lv ?_ hc;rw [Qa,ho,zWX];unfold yG;rw [if_neg ak];simp [ah]; omega
   refine wA (λhlt=>?_) (λ_=>?_)
   ·refine qk (Zn u hr.2 2) λo ho2=>?_;refine wA (λ_=>?_) (λ_=>?_)
    ·refine qk (Ar u ho2 _) λx hx=>?_;exact next _ _ hx.1.1 (hx.1.2 ak) hx.2
    ·rw [dZ ak ak];exact next _ _ ak ak ho2
   ·unfold tY;exact E1 ⟨⟨by unfold cY; rw [ho]; simp [ah]; omega,by show 1<=up.length; omega,by show up.length<=7; omega⟩,hr.2⟩
 unfold vd;exact key 6 u 1 _ c ak ak ak rfl rfl hc
theorem qap{u:Nat}(hu:1099511627776<=u){c:bS}(hc:Cu c):Ev (rO u c) λv=>sV 16 v.1/\Cu v.2:=S6 (Ui hu hc)
theorem qaq{u:Nat}(hu:1099511627776<=u){c:bS}(hc:Cu c){b:List Int}(hb:sV 200 b):Ev (ux u c b) λv=>sV 240 v.1/\Cu v.2:=S6 (Wn hu hc hb.1 hb.2)
theorem X0{n m:Nat}{b:List Int}(h:sV n b)(hn:n<=m):sV m b:=⟨zXw h.1 hn,h.2⟩
structure M.DrMan (m:af) (b:List Int):Prop where
 i:sV 16 b
 o:dp m=true
 n:m.aG.length<=40
 w:xr m
 l:0<=m.aU/\m.aU<=16
structure M.DrNode (n:aD):Prop where
 w:M.NodWf n
 b:n.bw.cu.length<=16
 k:n.aX.length<=10
theorem qar:xr ⟨0,0,0,[]⟩:=λx hx=>by simp at hx
theorem WF{m:af}{b:List Int}(hm:M.DrMan m b){x:aY}(hp:M.Part m 40 x){l:List Kid}(hl:l.length<=10)(o:Bool)(i q ph dr:Int):M.DrNode ⟨o,i,q,m,x,ph,l,dr⟩:=by
 have h1:=hm.n;have h2:=hm.l;have h3:=hp.l;exact ⟨⟨by show m.aG.length<=1048576; omega,hp.b,by show l.length<=1048577; omega,hm.w⟩,by show x.cu.length<=16; omega,hl⟩
def kD(t:bl)(k:Int):aD:=if cY t && ah k 1 ((t.bC.length:Int) - 1) then ⟨true,(t.bC[k.toNat]?).getD 0,0,⟨0,0,0,[]⟩,⟨0,[]⟩,0,[],0⟩ else ⟨false,0,0,⟨0,0,0,[]⟩,⟨0,[]⟩,0,[],0⟩
theorem Vt{t:bl}{k:Int}(h:ah k 1 ((t.bC.length:Int) - 1)=true):eS t.bC k=some ((t.bC[k.toNat]?).getD 0):=by
 have:=bI h;obtain ⟨j,rfl⟩:∃ j:Nat,k=j:=⟨k.toNat,by omega⟩;rw [cU,rg,sX ak];rfl
theorem J6{u:Nat}(hu:1099511627776<=u){t:bl}(ht:t.bC.length<=1048576)(k:Int):qE u t k=some (kD t k):=by
 unfold qE kD;rw [Ee hu ak,dZ ak ak,d1];simp only [wk];unfold rP
 cases cY t with
 | false=>rfl
 | true =>
  cases h:ah k 1 ((t.bC.length:Int) - 1) with
  | false=>rfl
  | true=>simp only [zQV,cond_false,Vt h,wk,vk]; rfl
theorem J7{u:Nat}(hu:1099511627776<=u){t:bl}(ht:t.bC.length<=1048576)(k:Int):oJ u t k=some (kD t k):=by
 unfold oJ kD;rw [rN hu ak,iJ u ht];simp only [wk];unfold o7
 cases cY t with
 | false=>rfl
 | true =>
  by_cases h0:k=0
  ·subst h0;have:ah 0 1 ((t.bC.length:Int) - 1)=false:=by simp [ah]
   rw [this]; rfl
  ·have e0:(k == 0)=false:=by simpa using h0
   have e1:ah k 0 ((t.bC.length:Int) - 1)=ah k 1 ((t.bC.length:Int) - 1):=by
    unfold ah;rw [show decide (0<=k)=decide (1<=k) from by simp; omega]
   rw [e0,e1]
   cases h:ah k 1 ((t.bC.length:Int) - 1) with
   | false=>rfl
   | true=>simp only [zQV,cond_false,Vt h,wk,vw]; rfl
theorem Mc{u:Nat}{g:Int}{b:List Int}(h0:0<=g)(h1:g<=1000000)(hb:b.length<=240):sf u g b=some ⟨b,[],⟨g,0,b.length⟩,[]⟩:=by
 obtain ⟨e,h2,h3,_⟩:=Q4 (u:=u) g (b:=b) ak;rw [(NT u h0 h1 hb).1] at h3;rw [h2,h3]
theorem X1{g:Int}{b:List Int}(hb:sV 240 b):M.DiskIn ⟨b,[],⟨g,0,b.length⟩,[]⟩:=by
 have:=hb.1;exact ⟨⟨by show b.length<=1048576; omega,by simp,by simp,by simp⟩,⟨hb.2,by simp [au],by simp⟩,by simp⟩
theorem UO(u:Nat){c:bS}(hc:Cu c):Ev (ve u c) λv=>my v.1=true/\Cu v.2:=by
 unfold ve;refine qk (Ar u hc _) λa ha=>qk (qao u ha.2 kU) λw hw=>qk (Ar u hw.2 _) λs hs=>qk (Ar u hs.2 _) λf hf=>E1 ⟨?_,hf.2⟩;have a1:=ha.1.1;have a2:=ha.1.2 ak;have s1:=hs.1.1;have s2:=hs.1.2 ak;have f1:=hf.1.1;have f2:=hf.1.2 ak;have w1:1<=w.1/\w.1<=40:=by
  have:=hw.1;simp only [zYx,List.not_mem_nil,or_false] at this;rcases this with h | h | h | h | h <;> omega
 unfold my ah;simp only [dC (show -9223372036854775808<=2+a.1 by omega) (show 2+a.1<=9223372036854775807 by omega),dC (show -9223372036854775808<=1+s.1 by omega) (show 1+s.1<=9223372036854775807 by omega),dC (show -9223372036854775808<=2+f.1 by omega) (show 2+f.1<=9223372036854775807 by omega),sk,decide_eq_true_eq];omega
def M.man(g:Int)(b:List Int)(size:Int):af:=⟨g,size,b.length,iI b size⟩
theorem u7{g:Int}{b:List Int}{size:Int}(hs:cO size b.length=true)(hg:ah g 1 1000000=true):eX g b size=M.man g b size:=by
 unfold eX M.man;rw [hs,hg]; rfl
structure M.Blk (b:List Int) (size:Int) (z i:Nat):Prop where
 z2:2<=z/\z<=6
 w:ah (i:Int) 0 (bg size b.length - 1)=true
 s:bW size b.length (i:Int)=(((i*z:Nat):Int),((min z (b.length - i*z):Nat):Int))
 p:i*z < b.length
theorem J8{b:List Int}{size:Int}(hs:cO size b.length=true){i:Nat}(hi:i < (bg size b.length).toNat):M.Blk b size size.toNat i:=by
 have h1:=oE hs;have hw:ah (i:Int) 0 (bg size b.length - 1)=true:=by unfold ah; simp; omega
 obtain ⟨z,rfl⟩:∃ z:Nat,size=z:=⟨size.toNat,by omega⟩;have h2:=P8 hw;have h3:=qh (size:=(z:Int)) (n:=b.length) (i:=i) ak;have e:bW (z:Int) b.length i=((i:Int)*z,min (z:Int) (b.length - (i:Int)*z)):=by unfold bW; rw [if_pos hw]
 rw [rg];have hlt:i*z < b.length:=by
  have h5:=h2.1;have h6:=h3.2.2.2;have h7:=h2.2;rw [h5] at h6;have:((i*z:Nat):Int)=(i:Int)*z:=by simp
  omega
 refine ⟨by omega,hw,?_,hlt⟩;rw [e];have h8:(i:Int)*z=((i*z:Nat):Int):=by simp
 rw [h8]
 congr 1
 omega
theorem RA{b:List Int}{size g:Int}{z i:Nat}(h:M.Blk b size z i):M.at_ (M.man g b size) i=i*z/\td (M.man g b size) i=min z (b.length - i*z):=by
 unfold M.at_ td;show (bW size b.length i).1.toNat=_/\(bW size b.length i).2.toNat=_;rw [h.s];exact ⟨rg _,rg _⟩
theorem Mu{b:List Int}{size:Int}{z i:Nat}(h:M.Blk b size z i):(dJ b size i).1=M.win b (i*z) (min z (b.length - i*z)):=by
 have h1:=(Oo h.w).2;rw [h.s] at h1;rw [h1];simp only [rg]
theorem Oq{b:List Int}{size g:Int}{i:Nat}(hi:i < (bg size b.length).toNat):(M.man g b size).aG[i]?=some (dg (dJ b size i).1):=by
 show (iI b size)[i]?=_;unfold iI;rw [zQz,zZQ hi]; rfl
theorem Iv(g:Int)(b:List Int)(size:Int):(M.man g b size).aG.length=(bg size b.length).toNat:=by
 show (iI b size).length=_;unfold iI;simp
theorem GW{b:List Int}{size g:Int}{z i:Nat}(h:M.Blk b size z i)(hi:i < (bg size b.length).toNat):0<=dK b (M.man g b size) i:=by
 unfold dK;rw [Oq hi];show 0<=qU b _ (bW size b.length i).2;rw [h.s];have hp:=h.p;have hz:=h.z2;unfold qU;have hn:ah ((min z (b.length - i*z):Nat):Int) 1 6=true:=by simp [ah]; omega
 simp only;rw [if_pos hn,rg];refine FK _ 0 (i*z) (zYy _) ak ?_;rw [Mu h]
theorem WG{b:List Int}(hb:au b){size g:Int}{z i:Nat}(h:M.Blk b size z i)(hi:i < (bg size b.length).toNat):M.win b (dK b (M.man g b size) i).toNat (td (M.man g b size) i)=M.win b (i*z) (min z (b.length - i*z)):=by
 obtain ⟨s,h1,_,h2,h3⟩:=CI (GW (g:=g) h hi);rw [Oq hi] at h1
 cases h1
 have hz:=h.z2;rw [Mu h] at h2;rw [(RA h).2] at h2 h3 ⊢;refine WE (lp hb _ _) (lp hb _ _) ?_ ?_ h2
 ·rw [qg h3]; omega
 ·rw [qg (by have:=h.p; omega)]; omega
theorem X2{b:List Int}{z i:Nat}(hp:i*z < b.length):b.take (i*z)++M.win b (i*z) (min z (b.length - i*z))=b.take ((i+1)*z):=by
 have e:b.take (i*z)=(b.take (i*z+min z (b.length - i*z))).take (i*z):=by rw [zZw]; congr 1; omega
 unfold M.win;rw [e,zXv,zXY]
 by_cases h:z<=b.length - i*z
 ·rw [zWq h]
 ·rw [Nat.min_eq_right ak,zWx ak,zWx ak]
theorem Zo{b:List Int}{z i:Nat}(hp:i*z < b.length):(b.take ((i+1)*z)).length=i*z+min z (b.length - i*z):=by
 rw [zQx,zXY]; omega
theorem Zp{i:Nat}:(2 ^ i - 1) ||| 2 ^ i=2 ^ (i+1) - 1:=by
 apply Nat.eq_of_testBit_eq
 intro j;rw [Nat.testBit_or,Nat.testBit_two_pow_sub_one,Nat.testBit_two_pow,Nat.testBit_two_pow_sub_one]
 by_cases h1:j < i <;> by_cases h2:i=j <;> simp [h1,h2] <;> omega
def Ex(b:List Int)(z i:Nat):aY:=⟨((2 ^ i - 1:Nat):Int),b.take (i*z)++zQZ (b.length - (b.take (i*z)).length) 0⟩
theorem X3{b:List Int}{size g:Int}{z i:Nat}(h:M.Blk b size z i)(hi:i<=39):M.put (M.man g b size) (Ex b z i) i (M.win b (i*z) (min z (b.length - i*z)))=Ex b z (i+1):=by
 have hp:=h.p;have ha:=(RA (g:=g) h).1;have h2:(2:Nat) ^ i<=2 ^ 39:=zWy ak hi;have h3:0 < (2:Nat) ^ i:=Nat.pow_pos ak;have hw:(M.win b (i*z) (min z (b.length - i*z))).length=min z (b.length - i*z):=qg ak;have hl:(b.take (i*z)).length=i*z:=by rw [zQx]; omega
 unfold M.put Ex;rw [ha]
 congr 1
 ·rw [BV ak,A3 ak ak,Zp]
 ·rw [D8 (by rw [hw,zQG,hl,zXz]; omega),hw,Zo hp,<- X2 hp]
  congr 1
  ·rw [List.take_append_of_le_length ak,zWx ak]
  ·rw [List.drop_append,zYQ ak,zWH,List.drop_replicate]
   congr 1
   omega
theorem Ot{b:List Int}(hb:au b){size g:Int}(hs:cO size b.length=true):∀ (n i:Nat),i+n=(bg size b.length).toNat->xv (M.man g b size) b n i (Ex b size.toNat i)=Ex b size.toNat (i+n)
 | 0,i,_=>rfl
 | n+1,i,h=>by
  have hi:i < (bg size b.length).toNat:=by omega
  have hk:=J8 hs hi;have hr:=blocks_range size b.length;unfold xv;rw [if_pos (GW hk hi),WG hb hk hi,X3 hk ak,Ot hb hs n (i+1) ak]
  congr 1
  omega
theorem Ou{b:List Int}{size:Int}(hs:cO size b.length=true):b.length<=(bg size b.length).toNat*size.toNat:=by
 have h1:=oE hs;have h2:bg size b.length=(b.length+size - 1) / size:=by unfold bg; rw [if_pos hs]
 have h3:=blocks_range size b.length;have h4:=Int.lt_ediv_add_one_mul_self ((b.length:Int)+size - 1) (show 0 < size by omega);rw [<- h2,zVY] at h4;have h5:(((bg size b.length).toNat*size.toNat:Nat):Int)=bg size b.length*size:=by
  rw [Int.natCast_mul,Int.toNat_of_nonneg h3.1,Int.toNat_of_nonneg ak]
 omega
theorem Ey{b:List Int}(hb:au b){size g:Int}(hs:cO size b.length=true)(hm:dp (M.man g b size)=true):eP (M.man g b size) b=⟨((2 ^ (bg size b.length).toNat - 1:Nat):Int),b⟩:=by
 unfold eP;rw [if_pos hm,Iv];have e:iY (M.man g b size)=Ex b size.toNat 0:=by
  unfold iY Ex;rw [if_pos hm];simp [M.man]
 rw [e,Ot hb hs _ 0 ak,zQg];unfold Ex;rw [zWx (Ou hs)];simp
theorem S7(x:Int):wd .i64 x x=0:=by
 unfold wd;have e:sa IntKind.i64.bits x &&& ~~~sa IntKind.i64.bits x=0:=by
  show sa 64 x &&& ~~~sa 64 x=0
  apply BitVec.eq_of_getLsbD_eq
  intro i hi;simp
 rw [e];rfl
theorem Vu{α:Type}{f:α->Nat->Bool}:∀ (l:List α) (i:Nat),(∀ (j:Nat) (x:α),l[j]?=some x->f x (i+j)=true)->gO f l i=true
 | [],i,_=>rfl
 | x :: l,i,h=>by
  unfold gO;rw [show f x i=true from h 0 x rfl,zWX];exact Vu l (i+1) λj y hj=>by
   have:=h (j+1) y WN;rwa [show i+1+j=i+(j+1) by omega]
theorem Ov{b:List Int}(hb:au b){size g:Int}(hs:cO size b.length=true)(hg:ah g 1 1000000=true)(hm:dp (M.man g b size)=true):uw (M.man g b size) ⟨((2 ^ (bg size b.length).toNat - 1:Nat):Int),b⟩=true:=by
 have hr:=blocks_range size b.length;have hn:(bg size b.length).toNat<=40:=by omega
 have h2:(2:Nat) ^ (bg size b.length).toNat<=2 ^ 40:=zWy ak hn;have hset:bh ((2 ^ (bg size b.length).toNat - 1:Nat):Int)=true:=by unfold bh ah; simp; omega
 have hfull:sM (M.man g b size).aG.length=((2 ^ (bg size b.length).toNat - 1:Nat):Int):=by rw [Iv]; unfold sM; rw [if_pos hn]
 have hwo:uZ ((2 ^ (bg size b.length).toNat - 1:Nat):Int) ((2 ^ (bg size b.length).toNat - 1:Nat):Int)=0:=by
  unfold uZ;rw [hset];exact S7 _
 have hg1:=bI hg;unfold uw u1 hH;rw [hm,hfull];simp only [hset,hwo,zWX,sk,beq_iff_eq,bne_iff_ne,ne_eq,and_true,true_and,decide_eq_true_eq];refine ⟨by show g≠0; omega,rfl,Vu _ 0 λi s hi=>?_⟩;have hlt:i < (bg size b.length).toNat:=by have:=(sr.1 hi).1; rw [Iv] at this; exact this
 have hk:=J8 hs hlt;rw [Oq hlt] at hi
 cases hi
 unfold CH;rw [zQg,Ur hn hlt,if_pos rfl];unfold wy;rw [(RA hk).1,(RA hk).2,Mu hk];simp
theorem dk{a b:List Int}{r:gy}{p:List ej}(ha:a.length<=240)(hb:b.length<=240)(hr:jJ r=true)(hs:r.aU<=(ja ⟨a,b,r,p⟩ r.dj).length)(hp:p.length<=200)(hq:∀ x∈p,mC x=true):c7 ⟨a,b,r,p⟩=true:=by
 unfold c7;simp only [sk,decide_eq_true_eq,zYJ];exact ⟨⟨⟨⟨⟨ha,hb⟩,hr⟩,hs⟩,hp⟩,hq⟩
structure M.K0 (old:List Int) (d:aA):Prop where
 a:d.fA=old
 r:d.fR=⟨0,0,old.length⟩
 b:d.fB.length<=240
theorem qbC{old:List Int}(h:old.length<=240):jJ ⟨0,0,old.length⟩=true:=by
 unfold jJ ah;simp;omega
theorem GX{old:List Int}(h:old.length<=240){d:aA}(hk:M.K0 old d)(hp:d.fP.length<=200)(hq:∀ x∈d.fP,mC x=true):c7 d=true/\eI d=(0,old):=by
 obtain ⟨a,b,r,p⟩:=d;obtain ⟨h1,h2,h3⟩:=hk;have h1:a=old:=h1;have h2:r=⟨0,0,old.length⟩:=h2;subst h1 h2;have e:c7 ⟨a,b,⟨0,0,a.length⟩,p⟩=true:=dk h h3 (qbC h) (by simp [ja]) hp hq;refine ⟨e,?_⟩;unfold eI;rw [e,if_pos rfl];simp [ja]
theorem S8{d:aA}{g:Int}{b:List Int}(h:eI d=(g,b)):M.holds d g b=true:=by
 unfold M.holds uY;rw [h];simp
def CK(b:List Int)(z i:Nat):ej:=⟨1,((i*z:Nat):Int),M.win b (i*z) (min z (b.length - i*z)),⟨0,0,0⟩⟩
def nA(b:List Int)(z i:Nat):List ej:=(zXW i).map (CK b z)
def wE(old b:List Int)(p:List ej):aA:=⟨old,b,⟨0,0,old.length⟩,p⟩
theorem Zq{b:List Int}(hl:b.length<=16){size:Int}{z i:Nat}(h:M.Blk b size z i):(CK b z i).j3=1/\mC (CK b z i)=true:=by
 refine ⟨rfl,?_⟩;have hz:=h.z2;have hp:=h.p;have hw:(M.win b (i*z) (min z (b.length - i*z))).length=min z (b.length - i*z):=qg ak;unfold mC CK;simp only [hw];have e:ah ((i*z:Nat):Int) 0 (240 - (min z (b.length - i*z):Nat))=true:=by simp only [ah,sk,decide_eq_true_eq]; omega
 rw [if_neg ak,e];rfl
theorem S9{b:List Int}(hl:b.length<=16){size:Int}(hs:cO size b.length=true){i:Nat}(hi:i<=(bg size b.length).toNat):∀ p∈nA b size.toNat i,p.j3=1/\mC p=true:=by
 intro p hp;obtain ⟨j,hj,rfl⟩:=List.mem_map.1 hp;have:=List.mem_range.1 hj;exact Zq hl (J8 hs ak)
theorem UP(b:List Int)(z i:Nat):nA b z i++[CK b z i]=nA b z (i+1):=by
 unfold nA;rw [List.range_succ,zXJ]; rfl
theorem Qb(b:List Int)(z i:Nat):(nA b z i).length=i:=by simp [nA]
theorem Iw{u:Nat}(hu:1099511627776<=u){l:List aL}(hl:l.length<=1048576)(hb:∀ x∈l,x.fB.length<=1048576):ri u l=some l:=by
 unfold ri;rw [E4 u l _ u ak ak,w6 1048576 l _ l 0 [] (λ_ h=>h) lv]
 ·rfl
 ·intro x i s k hx hs;have h4:=hb x hx;unfold yL;rw [b5 lv];simp only [wk];rw [b5 lv]; rfl
structure M.WCp (w:World):Prop where
 t:w.fT.bC.length<=1048576
 new:w.cG.length<=1048576
 ol:w.ct.length<=1048576
 old:∀ x∈w.ct,x.fB.length<=1048576
 nl:w.fN.length<=1048576
 n:∀ x∈w.fN,M.NodWf x
 dl:w.fD.length<=1048576
 d:∀ x∈w.fD,M.DOk x
 pl:w.cr.length<=1048576
 p:∀ x∈w.cr,Ak x
 ll:w.fO.length<=1048576
structure M.DrW (w:World):Prop where
 wf:M.WWf w
 ol:w.ct.length=w.fT.bC.length
 old:∀ x∈w.ct,sV 240 x.fB
 new:sV 16 w.cG
 log:w.fO.length<=3000
structure M.NewW (w:World):Prop where
 d:M.DrW w
 net:w.cr=[]
 lost:w.cQ=0
 log:w.fO=[]
 c:my w.fC=true
 s:cO w.fC.ar w.cG.length=true
 root:∀ n,w.fN[0]?=some n->n=⟨true,-1,0,eX 1 w.cG w.fC.ar,eP (eX 1 w.cG w.fC.ar) w.cG,6,[],0⟩
 node:∀ (j:Nat) (n:aD),j≠0->w.fN[j]?=some n->n=kD w.fT j
 disk:∀ (j:Nat) (d:aA) (o:aL),w.fD[j]?=some d->w.ct[j]?=some o->d=⟨o.fB,[],⟨0,0,o.fB.length⟩,[]⟩
theorem X4{w:World}(h:M.DrW w):M.WCp w:=by
 have h0:=Er h.wf;have h1:=h.wf.nl;have h2:=h.wf.dl;have h3:=h.wf.len;have h4:=h.ol;have h5:=h.log;have h6:=h.new.1;refine ⟨by omega,by omega,by omega,λx hx=>by have:=(h.old x hx).1; omega,by omega,λx hx=>?_,by omega,λx hx=>?_,by omega,λx hx=>(h.wf.net x hx).w,by omega⟩
 ·obtain ⟨j,hj⟩:=aac.1 hx;exact (h.wf.nodes j x hj).w
 ·obtain ⟨j,hj⟩:=aac.1 hx;exact (h.wf.disks j x hj).o
theorem Vv{t:bl}(ht:cY t=true){k:Nat}(h0:0 < k)(hk:k < t.bC.length):M.NodeIn t k (kD t k):=by
 have hw:ah (k:Int) 1 ((t.bC.length:Int) - 1)=true:=by unfold ah; simp; omega
 unfold kD;simp only [ht,hw,zWZ,if_true];refine ⟨⟨by simp,⟨by simp [au],by simp⟩,by simp,qar⟩,⟨by simp [eT],by simp [eT]⟩,λz hz=>by simp [eT] at hz,λ_=>?_⟩
 ·rw [rg,sX hk];have:=P5 ht h0 (sX hk);unfold jd ah;simp;omega
theorem KQ{u:Nat}(hu:1099511627776<=u)(t:bl){m:af}{b:List Int}(hm:M.DrMan m b)(hg:m.aM≠0)(ht:ld m b=true):qJ u m b=some ⟨true,-1,0,m,eP m b,6,[],0⟩/\M.NodeIn t 0 ⟨true,-1,0,m,eP m b,6,[],0⟩:=by
 have h1:=hm.n;have h2:=hm.i.1;have mk:∀ n:aD,M.DrNode n->n.aX=[]->M.NodeIn t 0 n:=λn hn hk=>⟨hn.w,by rw [hk]; exact ⟨by simp [eT],by simp [eT]⟩,λz hz=>by rw [hk] at hz; simp [eT] at hz,λh=>absurd rfl h⟩;refine ⟨?_,mk _ (WF hm (EV (Ei hm.o hm.i.2 ak) h1) kU _ _ _ _ _) rfl⟩;have e0:(m.aM == 0)=false:=by simpa using hg
 unfold qJ;rw [e0,Bm hu m ak,hm.o];simp only [cond_false,wk,zQV,O7 hu m hm.i.2 (show b.length<=1048576 by omega),ht];unfold o5;simp only [cond_false,N6 u (show m.aG.length<=1048576 by omega),wk,Ig hu (show m.aG.length<=1048576 by omega) hm.i.2 (show b.length<=1048576 by omega)]
theorem Ta{u:Nat}{b:List Int}(hb:sV 16 b)(g s:Int):M.DrMan (eX g b s) b:=by
 have h1:=hb.1;refine ⟨hb,u2 _ hb.2 _,JL _ _ _,XH _ _ _ hb.2,?_⟩;unfold eX
 split
 ·exact ⟨by simp,by simp; omega⟩
 ·simp
theorem Tc{u:Nat}(hu:1099511627776<=u){c:dV}(hc:my c=true){t:bl}(ht:Ew t){b:List Int}(hb:sV 16 b){old:List aL}(ho:old.length=t.bC.length)(hol:∀ x∈old,sV 240 x.fB):Ev (tn u c t b old) M.NewW:=by
 have t1:=ht.2.1;have t2:=ht.2.2;have b1:=hb.1;have hs:cO c.ar (b.length:Int)=true:=by
  unfold my at hc;simp only [sk] at hc;have:=bI hc.1.1.1;unfold cO;simp only [hc.1.1.1,zWX];unfold ah;simp;omega
 have hoo:pI old (t.bC.length:Int)=true:=by
  unfold pI;simp only [sk];refine ⟨KB.2 λx hx=>?_,by simp [ho]⟩;have:=(hol x hx).1;simp;omega
 have ht1:ld (eX 1 b c.ar) b=true:=KP hs Qh;have hg1:(eX 1 b c.ar).aM≠0:=by rw [u7 hs Qh]; show (1:Int)≠0; decide
 obtain ⟨hr1,hr2⟩:=KQ hu t (Ta (u:=u) hb 1 c.ar) hg1 ht1;have loop:∀ (m k i:Nat) (ns:List aD) (ds:List aA),i+m=t.bC.length->m < k->ns.length=i->ds.length=i ->
   (∀ (j:Nat) (n:aD),ns[j]?=some n->n=if j=0 then ⟨true,-1,0,eX 1 b c.ar,eP (eX 1 b c.ar) b,6,[],0⟩ else kD t j)->(∀ (j:Nat) (d:aA),ds[j]?=some d->∃ o,old[j]?=some o/\d=⟨o.fB,[],⟨0,0,o.fB.length⟩,[]⟩) ->
   Ev (eF u k b old (i:Int) c t old ns ds) M.NewW:=by
  intro m
  induction m with
  | zero =>
   intro k i ns ds hi hk h1 h2 h3 h4;obtain ⟨k,rfl⟩:∃ j,k=j+1:=⟨k - 1,by omega⟩;unfold eF;have:¬ (i:Int) < (t.bC.length:Int):=by omega
   simp only [this,decide_false,cond_false,rV];refine E1 ⟨⟨⟨ht.1,by show ns.length=t.bC.length; omega,by show ds.length=t.bC.length; omega,λj n hn=>?_,λj d hd=>?_,λp hp=>by simp at hp,by simp⟩,ho,hol,by simpa using hb,by simp⟩,rfl,rfl,rfl,hc,by simpa using hs,λn hn=>by simpa using h3 0 n hn,λj n h0 hn=>(h3 j n hn).trans (if_neg h0),λj d o hd ho'=>?_⟩
   ·have e:=h3 j n hn
    by_cases h0:j=0
    ·subst h0;rw [e,if_pos rfl];exact hr2
    ·rw [e,if_neg h0];exact Vv ht.1 ak (by have:=(sr.1 hn).1; have:j < ns.length:=this; omega)
   ·obtain ⟨o,h5,h6⟩:=h4 j d hd;rw [h6];exact X1 (hol o (zQY h5))
   ·obtain ⟨o',h5,h6⟩:=h4 j d hd;have ho':old[j]?=some o:=ho';rw [h5] at ho'
    cases ho'
    exact h6
  | succ m ih =>
   intro k i ns ds hi hk h1 h2 h3 h4;obtain ⟨k,rfl⟩:∃ j,k=j+1:=⟨k - 1,by omega⟩;unfold eF;have hlt:(i:Int) < (t.bC.length:Int):=by omega
   simp only [hlt,decide_true,cond_true];have step:∀ n:aD,(n=if i=0 then ⟨true,-1,0,eX 1 b c.ar,eP (eX 1 b c.ar) b,6,[],0⟩ else kD t i)->Ev (ki u (λz0 z1 z2 z3 z4 z5 z6 z7=>eF u k z0 z1 z2 z3 z4 z5 z6 z7) b old (i:Int) c t old ns ds n.lu n.bY n.bM n.aB.aM n.aB.ar n.aB.aU n.aB.aG n.bw.bj n.bw.cu n.aR n.aX n.bE) M.NewW:=by
    intro n hn;unfold ki;obtain ⟨x,hx⟩:∃ x,old[i]?=some x:=⟨_,sX ak⟩;have hxl:=(hol x (zQY hx)).1;refine Eu lv (u6 (Vl old i hx) (u6 (NT u (g:=0) Qh Qh hxl).1 (Eu lv ?_)));rw [fv (show i < 9223372036854775807 by omega)];refine ih k (i+1) _ _ ak ak (by simp [h1]) (by simp [h2]) (λj n' hj=>?_) (λj d' hj=>?_)
    ·by_cases hji:j < ns.length
     ·rw [zQQ hji] at hj;exact h3 j n' hj
     ·rw [r0 ak] at hj
      cases hq:j - ns.length with
      | zero =>
       rw [hq] at hj;simp only [zQh,Option.some.injEq] at hj;have:j=i:=by omega
       subst this hj;exact hn
      | succ q=>rw [hq] at hj; simp at hj
    ·by_cases hji:j < ds.length
     ·rw [zQQ hji] at hj;exact h4 j d' hj
     ·rw [r0 ak] at hj
      cases hq:j - ds.length with
      | zero =>
       rw [hq] at hj;simp only [zQh,Option.some.injEq] at hj;have:j=i:=by omega
       subst this;exact ⟨x,hx,hj.symm⟩
      | succ q=>rw [hq] at hj; simp at hj
   refine u6 (J6 hu ak _) ?_
   cases i with
   | zero =>
    refine wA (λ_=>?_) (λe=>by simp at e);refine u6 (r:=wH u _) (v:=eX 1 b c.ar) ?_ (u6 hr1 (step _ rfl));unfold wH;simp only [zWH];rw [OX hu hb.2 ak];rfl
   | succ i =>
    refine wA (λe=>?_) (λ_=>step _ kU);simp at e;omega
 unfold tn;refine u6 (Ok u c) ?_;rw [hc];refine wA (λe=>by cases e) λ_=>u6 (Ee hu ak) ?_;rw [ht.1];refine wA (λe=>by cases e) λ_=>u6 (wo u _ _) ?_;rw [hs];refine wA (λe=>by cases e) λ_=>u6 (Ma hu ak _) ?_;rw [hoo];unfold mQ;refine wA (λe=>by cases e) λ_=>Eu lv (Eu lv (u6 (Iw hu ak λx hx=>by have:=(hol x hx).1; omega) ?_));exact loop t.bC.length u 0 [] [] ak ak rfl rfl (λj n h=>by simp at h) (λj n h=>by simp at h)
theorem WH{u:Nat}(hu:1099511627776<=u){c:bS}(hc:Cu c):Ev (xC u c) λv=>M.NewW v.1/\Cu v.2:=by
 unfold xC;refine qk (UN u hu hc) λr1 hr1=>qk (qap hu hr1.2) λr2 hr2=>?_;have t1:=hr1.1.2.1;have t2:=hr1.1.2.2;have loop:∀ (m k i:Nat) (xs:List aL) (c:bS),i+m=r1.1.bC.length->m < k->xs.length=i->(∀ x∈xs,sV 240 x.fB)->Cu c->Ev (jw u k r2 xs (i:Int) r1 c.fB c.fI c.fH) λv=>M.NewW v.1/\Cu v.2:=by
  intro m
  induction m with
  | zero =>
   intro k i xs c hi hk h1 h2 hc;obtain ⟨k,rfl⟩:∃ j,k=j+1:=⟨k - 1,by omega⟩;unfold jw;have:¬ (i:Int) < (r1.1.bC.length:Int):=by omega
   simp only [this,decide_false,cond_false,vt];exact qk (UO u (Rz hc)) λq hq=>qk (Tc hu hq.1 hr1.1 hr2.1 ak h2) λw hw=>E1 ⟨hw,hq.2⟩
  | succ m ih =>
   intro k i xs c hi hk h1 h2 hc;obtain ⟨k,rfl⟩:∃ j,k=j+1:=⟨k - 1,by omega⟩;unfold jw;have hlt:(i:Int) < (r1.1.bC.length:Int):=by omega
   simp only [hlt,decide_true,cond_true];refine qk (qaq hu (Rz hc) (X0 hr2.1 ak)) λq hq=>Eu lv ?_;rw [fv (show i < 9223372036854775807 by omega)];refine ih k (i+1) _ q.2 ak ak (by simp [h1]) (λx hx=>?_) hq.2;rcases An.1 hx with hx | hx
   ·exact h2 x hx
   ·simp only [zYx,List.not_mem_nil,or_false] at hx;subst hx;exact hq.1
 exact loop r1.1.bC.length u 0 [] r2.2 ak ak rfl kU hr2.2
theorem Fn{u:Nat}(hu:1099511627776<=u){l:List aq}(hl:l.length<=1048576)(hb:∀ x∈l,Ak x):pe u l=some l:=by
 unfold pe;rw [Dc u l _ u ak ak,w6 1048576 l _ l 0 [] (λ_ h=>h) lv]
 ·rfl
 ·intro x i s k hx hs;unfold wD;rw [Al u (hb x hx)];simp only [wk];rw [b5 lv]; rfl
theorem Bb{u:Nat}(hu:1099511627776<=u){w:World}(h:M.WCp w):pf u w=some w:=by
 have h1:=h.t;have h2:=h.new;have h3:=h.nl;have h4:=h.dl;have h5:=h.ll;have h6:=h.ol;unfold pf jy ew;rw [b5 lv];simp only [wk];rw [fw u ak,wk,Fn hu h.pl h.p,wk,b5 lv];simp only [wk];rw [Fa u w _ _ _ _ _ u ak ak,w6 1048576 w.ct _ w.ct 0 [] (λ_ h=>h) lv]
 ·unfold yR qX;rw [E9 u w _ _ _ _ _ _ u ak ak,w6 1048576 w.fN _ w.fN 0 [] (λ_ h=>h) lv]
  ·unfold yP qW;rw [E8 u w _ _ _ _ _ _ _ u ak ak,w6 1048576 w.fD _ w.fD 0 [] (λ_ h=>h) lv]
   ·rfl
   ·intro x i s k hx hs;unfold yO;rw [jb hu (h.d x hx)];simp only [wk];rw [b5 lv]; rfl
  ·intro x i s k hx hs;unfold yQ;rw [hJ u (h.n x hx)];simp only [wk];rw [b5 lv]; rfl
 ·intro x i s k hx hs;have:=h.old x hx;unfold yS;rw [fw u ak];simp only [wk];rw [b5 lv]; rfl
structure M.K1 (new:List Int) (d:aA):Prop where
 a:d.fA.length<=240
 r:d.fR=⟨1,1,new.length⟩
 b:d.fB.length<=240
 n:d.fB.take new.length=new
 p:d.fP=[]
theorem qas{new:List Int}(h:new.length<=240):jJ ⟨1,1,new.length⟩=true:=by
 unfold jJ ah;simp;omega
theorem X5{a b:List Int}(h:a.take b.length=b):b.length<=a.length:=by
 have:=congrArg List.length h;rw [zQx] at this;omega
theorem Ow{new:List Int}(h:new.length<=240){d:aA}(hk:M.K1 new d):c7 d=true/\eI d=(1,new):=by
 obtain ⟨a,b,r,p⟩:=d;obtain ⟨h1,h2,h3,h4,h5⟩:=hk;have h2:r=⟨1,1,new.length⟩:=h2;have h5:p=[]:=h5;have h4:b.take new.length=new:=h4;subst h2 h5;have hl:=X5 h4;have e:c7 ⟨a,b,⟨1,1,new.length⟩,[]⟩=true:=dk h1 h3 (qas h) (by simp [ja]; omega) kU kU;refine ⟨e,?_⟩;unfold eI;rw [e,if_pos rfl];simp [ja,h4]
theorem X6{old:List Int}{d:aA}(hk:M.K0 old d){p:List ej}(hp:d.fP=p):d=wE old d.fB p:=by
 obtain ⟨a,b,r,q⟩:=d;obtain ⟨h1,h2,h3⟩:=hk;have h1:a=old:=h1;have h2:r=⟨0,0,old.length⟩:=h2;have hp:q=p:=hp;subst h1 h2 hp;rfl
theorem J9{old s b:List Int}(ho:old.length<=240)(hs':s.length<=240)(hl:b.length<=16){size:Int}(hs:cO size b.length=true):∀ (n i:Nat),i+n=(bg size b.length).toNat ->
  lr (wE old s []) b size n i (wE old s (nA b size.toNat i))=(wE old s (nA b size.toNat (i+n)),true)
 | 0,i,_=>rfl
 | n+1,i,h=>by
  have hr:=blocks_range size b.length;have hi:i < (bg size b.length).toNat:=by omega
  have hk:=J8 hs hi;have hz:=hk.z2;have e:kz (wE old s (nA b size.toNat i)) (d7 (wE old s [])) ((i:Int)*size) (dJ b size i).1=(wE old s (nA b size.toNat (i+1)),true):=by
   rw [Mu hk,show d7 (wE old s [])=1 from rfl];have e1:(i:Int)*size=((i*size.toNat:Nat):Int):=by rw [Int.natCast_mul,Int.toNat_of_nonneg ak]
   rw [e1];have e2:jK (wE old s (nA b size.toNat i)) (CK b size.toNat i)=wE old s (nA b size.toNat (i+1)):=by
    unfold jK wE;rw [UP]
   have e3:c7 (wE old s (nA b size.toNat (i+1)))=true:=(GX ho ⟨rfl,rfl,hs'⟩ (by show (nA b size.toNat (i+1)).length<=200; rw [Qb]; omega) λx hx=>(S9 hl hs ak x hx).2).1;unfold kz;rw [if_pos (show ah 1 0 1=true from rfl)];show M.add _ (CK b size.toNat i)=_;unfold M.add;rw [e2,if_pos e3]
  unfold lr;rw [e,if_pos rfl,J9 ho hs' hl hs n (i+1) ak];rw [show i+1+n=i+(n+1) by omega]
theorem X7{b s:List Int}{a m:Nat}(h:a+m<=b.length):D7 (b.take a++s.drop a) a (M.win b a m)=b.take (a+m)++s.drop (a+m):=by
 have hw:(M.win b a m).length=m:=qg h;have ht:(b.take a).length=a:=by rw [zQx]; omega
 unfold D7;rw [D8 (by simp only [zQG,zXz,hw]; omega),hw,zQX (b.take a) (s.drop a),List.take_left' ht];have e1:b.take a++M.win b a m=b.take (a+m):=by
  unfold M.win;have h2:b.take a=(b.take (a+m)).take a:=by rw [zZw,zWq ak]
  rw [h2,zXv]
 rw [<- zQX,e1]
 congr 1
 have h3:(b.take a++s.drop a).length=max a s.length:=by rw [zQG,ht,zYZ]; omega
 by_cases hs:a+m<=s.length
 ·rw [h3,show a+m - max a s.length=0 by omega];simp only [List.replicate_zero,zWW];rw [<- zZy,List.drop_left' ht,zZy]
 ·have h4:s.drop (a+m)=[]:=zYQ ak;rw [h4];refine zYQ ?_;rw [zQG,zQG,ht,zYZ,zXz];omega
theorem Td{old s b:List Int}{size:Int}(hs:cO size b.length=true)(R:List ej):∀ (n i:Nat),i+n=(bg size b.length).toNat ->
  yE ((zZY i n).map (CK b size.toNat)) (wE old (b.take (min (i*size.toNat) b.length)++s.drop (min (i*size.toNat) b.length)) R)=wE old (b++s.drop b.length) []
 | 0,i,h=>by
  have:=Ou hs;rw [<- h,zXx] at this;rw [Nat.min_eq_right this,List.take_length];rfl
 | n+1,i,h=>by
  have hk:=J8 hs (show i < (bg size b.length).toNat by omega);have hp:=hk.p;have hz:=hk.z2;rw [zYq,zWh];unfold yE;rw [zWq (Nat.le_of_lt hp)];have e1:i*size.toNat+min size.toNat (b.length - i*size.toNat)=min ((i+1)*size.toNat) b.length:=by
   rw [zXY]; omega
  have e:xW (wE old (b.take (i*size.toNat)++s.drop (i*size.toNat)) R) (CK b size.toNat i)=wE old (b.take (min ((i+1)*size.toNat) b.length)++s.drop (min ((i+1)*size.toNat) b.length)) R:=by
   show (⟨old,D7 (b.take (i*size.toNat)++s.drop (i*size.toNat)) ((i*size.toNat:Nat):Int).toNat (M.win b (i*size.toNat) (min size.toNat (b.length - i*size.toNat))),⟨0,0,old.length⟩,R⟩:aA)=_;rw [rg,X7 ak,e1];rfl
  rw [e];exact Td hs R n (i+1) ak
inductive M.DS (new old:List Int) (size:Int):Int->aA->Prop
 | idle {d:aA} (k:M.K0 old d) (p:d.fP=[]):M.DS new old size 0 d
 | idleN {d:aA} (k:M.K1 new d):M.DS new old size 0 d
 | gather {d:aA} (k:M.K0 old d) (p:d.fP=[]):M.DS new old size 1 d
 | staged {d:aA} (k:M.K0 old d) (p:d.fP=nA new size.toNat (bg size new.length).toNat):M.DS new old size 2 d
 | sure {d:aA} (k:M.K0 old d) (p:d.fP=[]) (n:d.fB.take new.length=new):M.DS new old size 3 d
 | meant {d:aA} (k:M.K0 old d) (p:d.fP=[⟨2,0,[],⟨1,1,new.length⟩⟩]) (n:d.fB.take new.length=new):M.DS new old size 4 d
 | done {d:aA} (k:M.K1 new d):M.DS new old size 5 d
theorem Vw{new old:List Int}{size:Int}(ho:old.length<=240)(hn:new.length<=16)(hs:cO size new.length=true){ph:Int}{d:aA}(h:M.DS new old size ph d):c7 d=true/\((M.K0 old d/\eI d=(0,old)/\ph≠5)\/(M.K1 new d/\eI d=(1,new)/\(ph=0\/ph=5))):=by
 have hr:=blocks_range size new.length;have nil:∀ {d:aA},M.K0 old d->d.fP=[]->c7 d=true/\eI d=(0,old):=λk p=>GX ho k (by rw [p]; simp) (by rw [p]; simp)
 cases h with
 | idle k p=>exact ⟨(nil k p).1,.inl ⟨k,(nil k p).2,by decide⟩⟩
 | idleN k=>exact ⟨(Ow ak k).1,.inr ⟨k,(Ow ak k).2,.inl rfl⟩⟩
 | gather k p=>exact ⟨(nil k p).1,.inl ⟨k,(nil k p).2,by decide⟩⟩
 | staged k p =>
  have:=GX ho k (by rw [p,Qb]; omega) (by rw [p]; exact λx hx=>(S9 hn hs (zWJ _) x hx).2);exact ⟨this.1,.inl ⟨k,this.2,by decide⟩⟩
 | sure k p _=>exact ⟨(nil k p).1,.inl ⟨k,(nil k p).2,by decide⟩⟩
 | meant k p _ =>
  have:=GX ho k (by rw [p]; simp) (by rw [p]; intro x hx; simp only [zQy] at hx; subst hx; have:=qas (show new.length<=240 by omega); simp [mC,this]);exact ⟨this.1,.inl ⟨k,this.2,by decide⟩⟩
 | done k=>exact ⟨(Ow ak k).1,.inr ⟨k,(Ow ak k).2,.inr rfl⟩⟩
theorem Zr{new old:List Int}{size:Int}(ho:old.length<=240)(hn:new.length<=16)(hs:cO size new.length=true){ph:Int}{d:aA}(h:M.DS new old size ph d){m:af}(hm:ph≠0->m=M.man 1 new size){x:aY}(hx:ph=1->uw m x=true->x.cu=new):M.DS new old size (ei d m x ph).2 (ei d m x ph).1:=by
 have hok:=(Vw ho hn hs h).1;have hr:=blocks_range size new.length
 cases h with
 | idle k p=>exact .idle k p
 | idleN k=>exact .idleN k
 | gather k p =>
  unfold ei;rw [if_pos rfl]
  split
  ·rename_i hc;simp only [sk] at hc;have e:=hx rfl hc.1;have em:=hm Qh;subst em;have hz:(M.man 1 new size).ar=size:=rfl;have:kA d x.cu (M.man 1 new size).ar=(wE old d.fB (nA new size.toNat (bg size new.length).toNat),true):=by
    unfold kA;rw [e,hz,hok,hs,p];simp only [zWv,decide_true,zWZ,if_true];have:=J9 (s:=d.fB) ho k.b hn hs (bg size new.length).toNat 0 ak;rw [zQg] at this;rw [X6 k p];exact this
   rw [this];exact .staged ⟨rfl,rfl,k.b⟩ rfl
  ·exact .gather k p
 | staged k p =>
  show M.DS new old size 3 (M.sure d);unfold M.sure;rw [if_pos hok,p];have e:=Td (old:=old) (s:=d.fB) hs d.fP (bg size new.length).toNat 0 ak;rw [Nat.zero_mul,Nat.zero_min,List.take_zero,List.drop_zero,zWH,<- X6 k rfl] at e;unfold nA;rw [zYk,e];refine .sure ⟨rfl,rfl,?_⟩ rfl (List.take_left' rfl);show (new++d.fB.drop new.length).length<=240;have:=k.b;simp only [zQG,zYZ];omega
 | sure k p n =>
  have em:=hm Qh;subst em;show M.DS new old size (if (fM d ⟨(M.man 1 new size).aM,d7 d,(M.man 1 new size).aU⟩).2 then ((fM d ⟨(M.man 1 new size).aM,d7 d,(M.man 1 new size).aU⟩).1,4) else (d,3)).2 (if (fM d ⟨(M.man 1 new size).aM,d7 d,(M.man 1 new size).aU⟩).2 then ((fM d ⟨(M.man 1 new size).aM,d7 d,(M.man 1 new size).aU⟩).1,(4:Int)) else (d,3)).1;have es:d7 d=1:=by unfold d7; rw [k.r]; rfl
  rw [es];unfold fM;rcases Q6 d ⟨2,0,[],⟨(M.man 1 new size).aM,1,(M.man 1 new size).aU⟩⟩ with ⟨e,_⟩ | e
  ·rw [e];refine .meant ⟨k.a,k.r,k.b⟩ ?_ n;show d.fP++[_]=_;rw [p];rfl
  ·rw [e];exact .sure k p n
 | meant k p n =>
  show M.DS new old size 5 (M.sure d);unfold M.sure;rw [if_pos hok,p];refine .done ⟨?_,rfl,k.b,n,rfl⟩;show d.fA.length<=240;rw [k.a]; exact ho
 | done k=>exact .done k
def M.flat(l:List cS):List Int:=l.flatMap λs=>bz 9 s.fS
theorem Ix:∀ (l:List cS) (c:List Int),nW c l=c++M.flat l
 | [],c=>(zWW _).symm
 | s :: l,c=>by
  simp only [nW,M.flat,List.flatMap_cons];rw [Ix l,zQX];rfl
theorem Te{m:af}(h:dp m=true)(h0:m.aM≠0):(1<=m.aM/\m.aM<=1000000)/\(2<=m.ar/\m.ar<=6)/\(0<=m.aU/\m.aU<=240)/\(m.aG.length:Int)=bg m.ar m.aU/\nV m.ar m.aU m.aG 0=true:=by
 unfold dp at h;rw [if_neg h0] at h;simp only [sk,beq_iff_eq] at h;have h1:=bI h.1.1.1;have h2:=oE h.1.1.2;exact ⟨h1,⟨h2.1,h2.2.1⟩,⟨h2.2.2.1,by omega⟩,h.1.2,h.2⟩
theorem Zs{m:j4}(h:kT m=true)(hk:m.bG=1):dp m.aB=true/\m.aB.aM≠0/\∃ t,dh m=bz 9 1++(bz 9 m.aB.aM++(bz 9 m.aB.ar++(bz 9 m.aB.aU++(M.flat m.aB.aG++t)))):=by
 have h':=h;unfold kT at h';rw [if_pos hk] at h';simp only [sk,bne_iff_ne,ne_eq] at h';obtain ⟨⟨⟨_,g0⟩,mo⟩,_⟩:=h';obtain ⟨a,b,c,_,_⟩:=Te mo g0;refine ⟨mo,g0,?_⟩;have body:ck m=bz 9 1++(bz 9 m.aB.aM++(bz 9 m.aB.ar++(bz 9 m.aB.aU++M.flat m.aB.aG))):=by
  unfold ck qz;rw [if_pos hk,if_pos mo,hk,zj ak ak,d2 ak ak,d2 ak ak,d2 ak ak,Ix];simp only [zQX]
 have pre:∃ t,aF (ck m) (cR (ck m))=ck m++t:=by
  unfold aF
  split
  ·exact ⟨_,rfl⟩
  ·exact ⟨[],(zWW _).symm⟩
 obtain ⟨t,ht⟩:=pre;exact ⟨t,by unfold dh; rw [if_pos h,ht,body]; simp only [zQX]⟩
theorem E2{w:Int}(h:bh w=true):0<=gl .i64 w 1048575/\gl .i64 w 1048575 < 1048576/\0<=ju .i64 w 20/\ju .i64 w 20 < 1048576/\w=gl .i64 w 1048575+ju .i64 w 20*1048576:=by
 have h0:0<=w/\w < 1099511627776:=by unfold bh ah at h; simp at h; omega
 obtain ⟨_,_,e1,e2⟩:=ET (x:=w % 1048576) (y:=w / 1048576) ak ak ak ak;rw [show w % 1048576+w / 1048576*1048576=w by omega] at e1 e2;rw [e1,e2];omega
theorem qa3{m:j4}(h:kT m=true)(hk:m.bG=2):bh m.bZ=true/\bh m.bR=true/\(0<=m.aM/\m.aM<=1000000)/\∃ t,dh m=bz 9 2++(bz 9 m.aM++(bz 9 (gl .i64 m.bZ 1048575)++(bz 9 (ju .i64 m.bZ 20)++(bz 9 (gl .i64 m.bR 1048575)++(bz 9 (ju .i64 m.bR 20)++t))))):=by
 have h':=h;unfold kT at h';rw [if_neg ak,if_pos hk] at h';simp only [sk] at h';have hg:=bI h'.1.1.1.1.1;have sw:=h'.1.1.1.2;have sd:=h'.1.1.2;refine ⟨sw,sd,hg,?_⟩;have pw:=E2 sw;have pd:=E2 sd;have body:ck m=bz 9 2++(bz 9 m.aM++(bz 9 (gl .i64 m.bZ 1048575)++(bz 9 (ju .i64 m.bZ 20)++(bz 9 (gl .i64 m.bR 1048575)++bz 9 (ju .i64 m.bR 20))))):=by
  unfold ck nv;rw [if_neg ak,if_pos hk,hk,zj ak ak,d2 ak ak,d2 ak ak,d2 ak ak,d2 ak ak,d2 ak ak];simp only [zQX]
 have pre:∃ t,aF (ck m) (cR (ck m))=ck m++t:=by
  unfold aF
  split
  ·exact ⟨_,rfl⟩
  ·exact ⟨[],(zWW _).symm⟩
 obtain ⟨t,ht⟩:=pre;exact ⟨t,by unfold dh; rw [if_pos h,ht,body]; simp only [zQX]⟩
theorem Da{b p t:List Int}{n:Int}(e:b=p++(bz 9 n++t))(h0:0<=n)(h1:n<=1000000000000):bJ b p.length=(n,(((p++bz 9 n).length:Nat):Int),true):=by
 rw [e,<- zQX,NV t h0 h1,zQG]
theorem Zt{m:af}(h:lM m=true):m=Dm:=by
 obtain ⟨a,b,c,d⟩:=m;unfold lM at h;simp only [sk,beq_iff_eq] at h;obtain ⟨⟨⟨h1,h2⟩,h3⟩,h4⟩:=h;have h4:d=[]:=List.length_eq_zero_iff.1 h4;subst h1 h2 h3 h4;rfl
theorem UQ{m:j4}(hk:m.bG=2):ck m=nv (nv (aF (aF [] m.bG) m.aM) m.bZ) m.bR:=by
 unfold ck;rw [if_neg ak,if_pos hk]
theorem Tf{m:j4}(hk:m.bG=2):(dh m).length<=400:=by
 unfold dh
 split
 ·have l:=a9 (ck m) (cR (ck m))
  suffices h:(ck m).length<=300 by omega
  rw [UQ hk];have k:=a9 [] m.bG;have g:=a9 (aF [] m.bG) m.aM;unfold nv;have h1:=a9 (aF (aF [] m.bG) m.aM) (gl .i64 m.bZ 1048575);have h2:=a9 (aF (aF (aF [] m.bG) m.aM) (gl .i64 m.bZ 1048575)) (ju .i64 m.bZ 20);have h3:=a9 (aF (aF (aF (aF [] m.bG) m.aM) (gl .i64 m.bZ 1048575)) (ju .i64 m.bZ 20)) (gl .i64 m.bR 1048575);have h4:=a9 (aF (aF (aF (aF (aF [] m.bG) m.aM) (gl .i64 m.bZ 1048575)) (ju .i64 m.bZ 20)) (gl .i64 m.bR 1048575)) (ju .i64 m.bR 20);simp only [zWv] at k;omega
 ·simp
theorem X8{m:j4}(hm:kT m=true)(hl:(dh m).length<=400){k a e:Int}(h0:bJ (dh m) 0=(k,a,true))(hr:yF (dh m) k a=some (m,e)):d3 (dh m)=(m,true):=by
 unfold d3;rw [h0];simp only [hl,decide_true,zWZ,if_true];rw [hr];simp [hm]
theorem X9{m:j4}(hk:m.bG=2)(hz:m.aB=Dm)(hi:m.fI=0)(hb:m.fB=[]):(⟨2,m.aM,Dm,m.bZ,m.bR,0,[]⟩:j4)=m:=by
 obtain ⟨mk,mg,mm,mw,md,mi,mb⟩:=m;simp only at hk hz hi hb;subst hk hz hi hb;rfl
theorem Ya{m:j4}(h:kT m=true)(hk:m.bG=2):d3 (dh m)=(m,true):=by
 obtain ⟨sw,sd,hg,t,e⟩:=qa3 h hk;have pw:=E2 sw;have pd:=E2 sd;have hl:=Tf hk;have k0:=Da (p:=[]) (n:=2) e ak ak;have k1:=Da (b:=dh m) (p:=[]++bz 9 2) (n:=m.aM) TB ak ak;have k2:=Da (b:=dh m) (p:=[]++bz 9 2++bz 9 m.aM) (n:=gl .i64 m.bZ 1048575) TB ak ak;have k3:=Da (b:=dh m) (p:=[]++bz 9 2++bz 9 m.aM++bz 9 (gl .i64 m.bZ 1048575)) (n:=ju .i64 m.bZ 20) TB ak ak;have k4:=Da (b:=dh m) (p:=[]++bz 9 2++bz 9 m.aM++bz 9 (gl .i64 m.bZ 1048575)++bz 9 (ju .i64 m.bZ 20)) (n:=gl .i64 m.bR 1048575) TB ak ak;have k5:=Da (b:=dh m) (p:=[]++bz 9 2++bz 9 m.aM++bz 9 (gl .i64 m.bZ 1048575)++bz 9 (ju .i64 m.bZ 20)++bz 9 (gl .i64 m.bR 1048575)) (n:=ju .i64 m.bR 20) (t:=t) ZX ak ak;refine X8 h hl (e:=(([]++bz 9 2++bz 9 m.aM++bz 9 (gl .i64 m.bZ 1048575)++bz 9 (ju .i64 m.bZ 20)++bz 9 (gl .i64 m.bR 1048575)++bz 9 (ju .i64 m.bR 20)).length:Nat)) k0 ?_;unfold yF BZ;rw [if_neg ak,if_pos rfl];simp only [k1,k2,k3,k4,k5];have h':=h;unfold kT at h';rw [if_neg ak,if_pos hk] at h';simp only [sk,beq_iff_eq] at h';obtain ⟨⟨⟨⟨⟨_,hz⟩,_⟩,_⟩,hi⟩,hb⟩:=h';have l:∀ x:Int,0<=x->x < 1048576->xX x=true:=λx h1 h2=>by unfold xX; simp [ah]; omega
 rw [l _ pw.1 pw.2.1,l _ pw.2.2.1 pw.2.2.2.1,l _ pd.1 pd.2.1,l _ pd.2.2.1 pd.2.2.2.1];simp only [zWZ,if_true];rw [<- pw.2.2.2.2,<- pd.2.2.2.2];rw [X9 hk (Zt hz) hi (List.length_eq_zero_iff.1 hb)]
theorem Tg{g:Int}(h:ah g 0 1000000=true):d3 (dh (ek g))=(ek g,true):=by
 have hg:=bI h;have hm:kT (ek g)=true:=by unfold kT ek; simp [h,lM,Dm]
 have body:ck (ek g)=bz 9 4++bz 9 g:=by
  unfold ck;show (if (4:Int)=1 then _ else if (4:Int)=2 then _ else if (4:Int)=3 then _ else if (4:Int)=4 then aF (aF [] 4) g else _)=_;rw [if_neg ak,if_neg ak,if_neg ak,if_pos rfl];rw [zj ak ak,d2 ak ak]
 have pre:∃ t,aF (ck (ek g)) (cR (ck (ek g)))=ck (ek g)++t:=by
  unfold aF
  split
  ·exact ⟨_,rfl⟩
  ·exact ⟨[],(zWW _).symm⟩
 obtain ⟨t,ht⟩:=pre;have e:dh (ek g)=bz 9 4++(bz 9 g++t):=by unfold dh; rw [if_pos hm,ht,body,zQX]
 have k0:=Da (p:=[]) (n:=4) e ak ak;have k1:=Da (b:=dh (ek g)) (p:=[]++bz 9 4) (n:=g) (t:=t) ZX ak ak;refine X8 hm ?_ k0 (e:=((([]++bz 9 4++bz 9 g).length:Nat):Int)) ?_
 ·have l:=a9 (ck (ek g)) (cR (ck (ek g)));have k:=a9 [] 4;have q:=a9 (aF [] 4) g;have e2:ck (ek g)=aF (aF [] 4) g:=by rw [body,zj ak ak,d2 ak ak]
  rw [<- e2] at q;unfold dh;rw [if_pos hm];simp only [zWv] at k;omega
 ·unfold yF B1;rw [if_neg ak,if_neg ak,if_neg ak,if_pos rfl];simp only [k1,if_true];rfl
theorem Iy:∀ (l:List cS) (b p t:List Int) (acc:List cS),b=p++(M.flat l++t)->(∀ s∈l,0<=s.fS/\s.fS < 72057594037927936/\(cy s.fS).2=true/\dg (cy s.fS).1=s) ->
  nX l.length b p.length acc=some (acc++l,(((p++M.flat l).length:Nat):Int))
 | [],b,p,t,acc,_,_=>by simp [nX,M.flat]
 | s :: l,b,p,t,acc,e,h=>by
  obtain ⟨h0,h1,h2,h3⟩:=h s (zWQ ..);have e1:b=p++(bz 9 s.fS++(M.flat l++t)):=by rw [e]; simp only [M.flat,List.flatMap_cons,zQX]
  have e2:b=(p++bz 9 s.fS)++(M.flat l++t):=by rw [e1,zQX]
  have hr:w7 8 b p.length=some (s.fS,(((p++bz 9 s.fS).length:Nat):Int)):=by
   unfold w7;rw [if_pos ak,rg,e1,List.drop_left,XM 8 9 true s.fS (M.flat l++t) ak h0 (λh=>by cases h) (by rw [show (128:Int) ^ 8=72057594037927936 by decide]; omega) ak];simp
  simp only [zQw,nX];rw [hr];simp only [h2,if_true,h3];rw [Iy l b (p++bz 9 s.fS) t (acc++[s]) e2 λx hx=>h x (zQj _ hx)];simp [M.flat]
theorem UR{b:List Int}(hb:au b)(hl:b.length<=6):(cy (dg b).fS).2=true/\dg (cy (dg b).fS).1=dg b:=by
 have e:(dg b).fS=jl b 1:=by unfold dg; rw [if_neg ak]
 rw [e,zo hb hl];exact ⟨rfl,rfl⟩
theorem Zu{b:List Int}(hb:au b)(hl:b.length<=16){size:Int}(hs:cO size b.length=true):d3 (dh (iK (M.man 1 b size)))=(iK (M.man 1 b size),true):=by
 have mo:=u2 1 hb size;rw [u7 hs rfl] at mo;have hz:=oE hs;have hm:kT (iK (M.man 1 b size))=true:=by
  show (((0:Int) == 0) && ((1:Int) != 0) && dp (M.man 1 b size) && _)=true;rw [mo]; rfl
 have e0:(iK (M.man 1 b size)).aB=M.man 1 b size:=rfl;obtain ⟨_,_,t,e⟩:=Zs hm rfl;rw [e0] at e;have g1:(M.man 1 b size).aM=1:=rfl;have g2:(M.man 1 b size).ar=size:=rfl;have g3:(M.man 1 b size).aU=b.length:=rfl;have g4:(M.man 1 b size).aG=iI b size:=rfl;have hlen:(iI b size).length=(bg size b.length).toNat:=by unfold iI; simp
 have hb8:(bg size b.length).toNat<=8:=by
  unfold bg;rw [hs,if_pos rfl];have:((b.length:Int)+size - 1) / size < 9:=Int.ediv_lt_of_lt_mul ak ak;omega
 generalize hM:dh (iK (M.man 1 b size))=pm at e ⊢;rw [g1,g2,g3,g4] at e;have hpl:pm.length<=400:=by
  rw [<- hM];unfold dh;rw [if_pos hm];have l:=a9 (ck (iK (M.man 1 b size))) (cR (ck (iK (M.man 1 b size))))
  suffices h:(ck (iK (M.man 1 b size))).length<=200 by omega
  show (qz (aF [] 1) (M.man 1 b size)).length<=200;unfold qz;rw [mo,if_pos rfl,g4];have h0:=a9 [] 1;have h1:=a9 (aF [] 1) (M.man 1 b size).aM;have h2:=a9 (aF (aF [] 1) (M.man 1 b size).aM) (M.man 1 b size).ar;have h3:=a9 (aF (aF (aF [] 1) (M.man 1 b size).aM) (M.man 1 b size).ar) (M.man 1 b size).aU;have h4:=D2 (iI b size) (aF (aF (aF (aF [] 1) (M.man 1 b size).aM) (M.man 1 b size).ar) (M.man 1 b size).aU);simp only [zWv] at h0;omega
 have k0:=Da (p:=[]) (n:=1) e ak ak;have k1:=Da (b:=pm) (p:=[]++bz 9 1) (n:=1) TB ak ak;have k2:=Da (b:=pm) (p:=[]++bz 9 1++bz 9 1) (n:=size) TB ak ak;have k3:=Da (b:=pm) (p:=[]++bz 9 1++bz 9 1++bz 9 size) (n:=(b.length:Int)) TB ak ak;have k4:=Iy (iI b size) pm ([]++bz 9 1++bz 9 1++bz 9 size++bz 9 (b.length:Int)) t [] ZX (λs hs'=>by
  obtain ⟨i,_,rfl⟩:=List.mem_map.1 (by unfold iI at hs'; exact hs');have hbl:=qT hb size (i:Int);obtain ⟨q1,q2⟩:=UR hbl.1 hbl.2;have q3:=zh (b:=(cy (dg (dJ b size i).1).fS).1) (by rw [<- q1]);have q4:(dg (dJ b size i).1).fS<=562949953421311:=by
   rcases Int.lt_or_le 562949953421311 (dg (dJ b size i).1).fS with hq | hq
   ·have:=Ku hq;rw [this] at q1
    cases q1
   ·exact hq
  exact ⟨by omega,by omega,q1,q2⟩)
 rw [hlen] at k4;unfold d3;rw [show bJ pm 0=_ from k0];simp only [hpl,decide_true,zWZ,if_true];have hr:yF pm 1 (((([]:List Int)++bz 9 1).length:Nat):Int)=some (iK (M.man 1 b size),((((([]:List Int)++bz 9 1++bz 9 1++bz 9 size++bz 9 (b.length:Int))++M.flat (iI b size)).length:Nat):Int)):=by
  unfold yF B0 qC;simp only [zWH] at k1 k2 k3 k4 ⊢;simp only [k1,k2,k3,k4,if_true,zWZ,zWH];unfold Ea;dsimp only;have mo':dp ⟨1,size,(b.length:Int),iI b size⟩=true:=mo;simp only [mo',if_true];rfl
 rw [hr];simp [hm,hM]
theorem qa4{new old:List Int}{size:Int}(ho:old.length<=240)(hn:new.length<=16)(hs:cO size new.length=true){ph:Int}{d:aA}(h:M.DS new old size ph d){x:aY}(hx:x.cu=new)(hw:uw (M.man 1 new size) x=true)(h1:1<=ph)(h5:ph < 5):(ei d (M.man 1 new size) x ph).2=ph+1:=by
 have hok:=(Vw ho hn hs h).1;have hr:=blocks_range size new.length
 cases h with
 | idle k p=>omega
 | idleN k=>omega
 | gather k p =>
  unfold ei;rw [if_pos rfl];have hz:(M.man 1 new size).ar=size:=rfl;have:kA d x.cu (M.man 1 new size).ar=(wE old d.fB (nA new size.toNat (bg size new.length).toNat),true):=by
   unfold kA;rw [hx,hz,hok,hs,p];simp only [zWv,decide_true,zWZ,if_true];have:=J9 (s:=d.fB) ho k.b hn hs (bg size new.length).toNat 0 ak;rw [zQg] at this;rw [X6 k p];exact this
  rw [this,hw];rfl
 | staged k p=>rfl
 | sure k p n =>
  have es:d7 d=1:=by unfold d7; rw [k.r]; rfl
  have e:c7 (jK d ⟨2,0,[],⟨1,1,new.length⟩⟩)=true:=(GX ho (d:=jK d ⟨2,0,[],⟨1,1,new.length⟩⟩) ⟨k.a,k.r,k.b⟩ (by show (d.fP++[_]).length<=200; rw [p]; simp) λy hy=>by
   have hy:y∈d.fP++[⟨2,0,[],⟨1,1,new.length⟩⟩]:=hy;rw [p] at hy;simp only [zWH,zQy] at hy;subst hy;have:=qas (new:=new) ak;unfold mC;simp [this]).1
  show (if (fM d ⟨1,d7 d,new.length⟩).2 then ((fM d ⟨1,d7 d,new.length⟩).1,(4:Int)) else (d,3)).2=4;rw [es];unfold fM M.add;rw [if_pos e];rfl
 | meant k p n=>rfl
 | done k=>omega
def qD(t:bl)(k:Nat):Nat:=((t.bC[k]?).getD 0).toNat
theorem FU{t:bl}(h:cY t=true){k:Nat}(h1:1<=k)(hk:k < t.bC.length):qD t k < k/\t.bC[k]?=some (qD t k:Int):=by
 unfold cY at h;simp only [sk] at h;have hg:t.bC[k]?=some t.bC[k]:=sX hk;have h2:=Eo h.1 k _ hg;rw [zQg] at h2;unfold yG at h2;rw [if_neg ak] at h2;have h3:=bI h2;unfold qD;rw [hg];simp only [zYG,Option.some.injEq];omega
theorem oH{t:bl}(h:cY t=true):1<=t.bC.length/\t.bC.length<=7:=by
 unfold cY at h;simp only [sk] at h;have:=bI h.2;omega
def M.dep(t:bl):Nat->Nat->Nat
 | 0,_=>0
 | f+1,k=>if k=0 then 0 else M.dep t f (qD t k)+1
theorem Th{t:bl}(h:cY t=true):∀ (f k:Nat),k < t.bC.length->k<=f->M.dep t (f+1) k=M.dep t f k
 | 0,k,hk,hf=>by
  have:k=0:=by omega
  subst this;rfl
 | f+1,k,hk,hf=>by
  unfold M.dep
  by_cases h0:k=0
  ·rw [if_pos h0,if_pos h0]
  ·rw [if_neg h0,if_neg h0];have:=(FU h ak hk).1;rw [Th h f (qD t k) ak ak]
theorem dep_up{t:bl}(h:cY t=true){k:Nat}(h1:1<=k)(hk:k < t.bC.length):M.dep t 7 k=M.dep t 7 (qD t k)+1:=by
 have hl:=oH h;have:=(FU h h1 hk).1;show (if k=0 then 0 else M.dep t 6 (qD t k)+1)=_;rw [if_neg ak,Th h 6 (qD t k) ak ak]
theorem US{t:bl}(h:cY t=true):∀ (f k:Nat),k < t.bC.length->M.dep t f k<=k
 | 0,k,_=>zYy _
 | f+1,k,hk=>by
  unfold M.dep
  split
  ·omega
  ·have:=(FU h ak hk).1;have:=US h f (qD t k) ak;omega
def Dn(t:bl):Nat->Nat->Nat
 | 0,k=>k
 | j+1,k=>qD t (Dn t j k)
theorem Vx{t:bl}(h:cY t=true):qD t 0=0:=by
 have hl:=oH h;unfold cY at h;simp only [sk] at h;have hg:t.bC[0]?=some t.bC[0]:=sX ak;have h2:=Eo h.1 0 _ hg;unfold yG at h2;simp only [zXx,if_true,beq_iff_eq] at h2;unfold qD;rw [hg,h2];rfl
theorem Vy{t:bl}(h:cY t=true){k:Nat}(hk:k < t.bC.length):∀ j,Dn t j k<=k
 | 0=>zWJ _
 | j+1=>by
  have ih:=Vy h hk j;show qD t (Dn t j k)<=k
  by_cases h0:Dn t j k=0
  ·rw [h0,Vx h]; omega
  ·have:=(FU h (k:=Dn t j k) ak ak).1;omega
theorem Yb{t:bl}(h:cY t=true){k:Nat}(hk:k < t.bC.length):∀ j,j<=M.dep t 7 k->M.dep t 7 (Dn t j k)+j=M.dep t 7 k
 | 0,_=>rfl
 | j+1,hj=>by
  have ih:=Yb h hk j ak;have hle:=Vy h hk j;have h0:Dn t j k≠0:=λe=>by
   rw [e] at ih;have:M.dep t 7 0=0:=rfl;omega
  have:=dep_up h (k:=Dn t j k) ak ak;show M.dep t 7 (qD t (Dn t j k))+(j+1)=_;omega
theorem Yc{t:bl}(h:cY t=true){k:Nat}(hk:k < t.bC.length)(h0:M.dep t 7 k=0):k=0:=by
 rcases zYY k with h1 | h1
 ·exact h1
 ·have:=dep_up h h1 hk;omega
theorem Ti{s:Int}(h:bh s=true):∃ n:Nat,s=n/\n < 1099511627776:=by
 unfold bh ah at h;simp at h;exact ⟨s.toNat,by omega,by omega⟩
theorem Qc{a b:Int}(ha:bh a=true)(hb:bh b=true):bh (u9 .i64 a b)=true/\∀ i:Nat,(dB a i=true\/dB b i=true)->dB (u9 .i64 a b) i=true:=by
 obtain ⟨x,rfl,hx⟩:=Ti ha;obtain ⟨y,rfl,hy⟩:=Ti hb;rw [A3 ak ak];have h:x ||| y < 2 ^ 40:=Nat.or_lt_two_pow ak ak
 have hs:bh ((x ||| y:Nat):Int)=true:=PN ak;refine ⟨hs,λi hi=>?_⟩;unfold dB at hi ⊢;rw [ha,hb,rg,rg,rg] at hi;rw [hs,rg,rg,Nat.testBit_or];simp only [zWX,sk,Bool.or_eq_true] at hi ⊢;rcases hi with h | h
 ·exact ⟨h.1,.inl h.2⟩
 ·exact ⟨h.1,.inr h.2⟩
theorem Tj{s i:Int}(h:dB s i=true):bh s=true:=by
 unfold dB at h;simp only [sk] at h;exact h.1.1
theorem Tl:∀ (l:List Kid) (a:Int),bh a=true->bh (sK l a)=true
 | [],a,h=>h
 | x :: l,a,h=>by
  unfold sK;refine Tl l _ ?_
  split
  ·rename_i hx;exact (Qc h hx).1
  ·exact h
theorem Ox:∀ (l:List Kid) (a:Int) (i:Nat),bh a=true->(dB a i=true\/∃ x∈l,dB x.bR i=true)->dB (sK l a) i=true
 | [],a,i,_,h=>by
  rcases h with h | ⟨x,hx,_⟩
  ·exact h
  ·cases hx
 | x :: l,a,i,ha,h=>by
  unfold sK;refine Ox l _ i ?_ ?_
  ·split
   ·rename_i hx;exact (Qc ha hx).1
   ·exact ha
  rcases h with h | ⟨y,hy,hi⟩
  ·refine .inl ?_
   split
   ·rename_i hx; exact (Qc ha hx).2 i (.inl h)
   ·exact h
  ·rcases aaa.1 hy with rfl | hy
   ·refine .inl ?_;rw [if_pos (Tj hi)];exact (Qc ha (Tj hi)).2 i (.inr hi)
   ·exact .inr ⟨y,hy,hi⟩
theorem Zv{s:Int}(hs:bh s=true){k:Nat}(hk:k<=39):bh (uJ s k)=true/\dB (uJ s k) k=true/\∀ i:Nat,dB s i=true->dB (uJ s k) i=true:=by
 have hp:gm (k:Int)=true:=by unfold gm ah; simp; omega
 have h2:(2:Nat) ^ k<=2 ^ 39:=zWy ak hk;have hb:bh ((2 ^ k:Nat):Int)=true:=PN ak;unfold uJ;rw [hs,hp];simp only [zWZ,if_true];rw [BV ak];obtain ⟨h3,h4⟩:=Qc hs hb;refine ⟨h3,h4 k (.inr ?_),λi hi=>h4 i (.inl hi)⟩;unfold dB;rw [hb,hp,rg,rg,Nat.testBit_two_pow_self];rfl
def WI(t:bl)(r c:Nat)(s:Int):Prop:=bh s=true/\∀ y j,y < t.bC.length->Dn t j y=c->M.dep t 7 y+4+j<=r->dB s (y:Int)=true
def Iz(t:bl)(r c:Nat)(l:List Kid):Prop:=∃ x∈l,x.j7=(c:Int)/\WI t r c x.bR
def As(t:bl)(r c:Nat)(l:List Kid):Prop:=∃ x∈l,x.j7=(c:Int)/\x.sR=0/\WI t r c x.bR
theorem Vz{t:bl}{r c:Nat}{l:List Kid}(h:As t r c l){f:Int}(hf:0 < f):Iz t r c (ic l f):=by
 obtain ⟨x,hx,h1,h2,h3⟩:=h;refine ⟨Uu x,List.mem_map.2 ⟨x,List.mem_filter.2 ⟨hx,?_⟩,rfl⟩,h1,h3⟩;rw [h2];exact decide_eq_true hf
def KR(l:List Kid):Prop:=∀ x∈l,bh x.bR=true
theorem UT{α:Type}(l:List α):eS l (-1)=none:=rfl
theorem Oy(l:List Kid){c:Nat}(hc:c<=6){want d:Int}(hw:bh want=true)(hd:bh d=true) :
  (∃ (i:Nat) (x:Kid),l[i]?=some x/\x.j7=(c:Int)/\kw l c want d=l.set i ⟨x.j7,want,u9 .i64 x.bR d,0,x.kF⟩) \/
  ((∀ x∈l,x.j7≠(c:Int))/\kw l c want d=l.take (tW l c)++[⟨c,want,d,0,0⟩]++l.drop (tW l c)):=by
 have hin:ah (c:Int) 0 6=true:=by unfold ah; simp; omega
 unfold kw;rw [hin,hw,hd];simp only [zWZ,if_true];rcases oF l c with ⟨h1,h2⟩ | ⟨j,x,h1,h2,h3⟩
 ·exact .inr ⟨h2,by rw [h1,UT]⟩
 ·exact .inl ⟨j,x,h2,h3,by rw [h1,cU,h2]; rfl⟩
theorem Ka{α:Type}{l:List α}{i:Nat}{v y:α}(h:y∈l.set i v):y=v\/∃ j,j≠i/\l[j]?=some y:=by
 obtain ⟨j,hj⟩:=aac.1 h;rw [zXZ] at hj
 split at hj
 ·split at hj
  ·exact .inl (Option.some.inj hj).symm
  ·cases hj
 ·exact .inr ⟨j,by omega,hj⟩
theorem Qd{α:Type}{l:List α}{i j:Nat}{v y:α}(h:l[j]?=some y)(hij:j≠i):y∈l.set i v :=
 zQY (i:=j) (by rw [zXZ,if_neg ak]; exact h)
theorem Oz{α:Type}{l:List α}{i:Nat}{v y:α}(h:l[i]?=some y):v∈l.set i v :=
 zQY (i:=i) (by rw [zXZ,if_pos rfl,if_pos (sr.1 h).1])
theorem qat{l:List Kid}(hS:mD l){i j:Nat}{x y:Kid}(hi:l[i]?=some x)(hj:l[j]?=some y)(h:x.j7=y.j7):i=j:=by
 have hp:=hS.p;unfold eT at hp;rw [List.pairwise_map,List.pairwise_iff_getElem] at hp;obtain ⟨hi1,rfl⟩:=sr.1 hi;obtain ⟨hj1,rfl⟩:=sr.1 hj;rcases Nat.lt_trichotomy i j with h1 | h1 | h1
 ·have:=hp i j hi1 hj1 h1;omega
 ·exact h1
 ·have:=hp j i hj1 hi1 h1;omega
theorem Yd{t:bl}{r c:Nat}{l:List Kid}{want d:Int}(hc:c<=6)(hw:bh want=true)(hd:WI t r c d)(hk:KR l)(hS:mD l) :
  As t r c (kw l c want d)/\(∀ x∈kw l c want d,x.j7=(c:Int)->x.bZ=want)/\KR (kw l c want d):=by
 rcases Oy l hc hw hd.1 with ⟨i,x,h1,h2,h3⟩ | ⟨h2,h3⟩
 ·rw [h3];have hx:=hk x (zQY h1);obtain ⟨o1,o2⟩:=Qc hx hd.1;refine ⟨⟨_,Oz h1,h2,rfl,o1,λy j h4 h5 h6=>o2 y (.inr (hd.2 y j h4 h5 h6))⟩,λy hy he=>?_,λy hy=>?_⟩
  ·rcases Ka hy with rfl | ⟨j,hj,hg⟩
   ·rfl
   ·exact absurd (qat hS hg h1 (he.trans h2.symm)) hj
  ·rcases Ka hy with rfl | ⟨j,hj,hg⟩
   ·exact o1
   ·exact hk y (zQY hg)
 ·rw [h3];refine ⟨⟨⟨c,want,d,0,0⟩,by simp,rfl,rfl,hd⟩,λy hy he=>?_,λy hy=>?_⟩
  ·simp only [zWk,zQy] at hy;rcases hy with (hy | rfl) | hy
   ·exact absurd he (h2 y (zXQ hy))
   ·rfl
   ·exact absurd he (h2 y (zXj hy))
  ·simp only [zWk,zQy] at hy;rcases hy with (hy | rfl) | hy
   ·exact hk y (zXQ hy)
   ·exact hd.1
   ·exact hk y (zXj hy)
theorem Tn{l:List Kid}{c:Nat}(hc:c<=6){want d:Int}(hw:bh want=true)(hd:bh d=true){x:Kid}(hx:x∈l)(hne:x.j7≠(c:Int)):x∈kw l c want d:=by
 rcases Oy l hc hw hd with ⟨i,y,h1,h2,h3⟩ | ⟨h2,h3⟩
 ·rw [h3];obtain ⟨j,hj⟩:=aac.1 hx;refine Qd hj λe=>?_;subst e;rw [h1] at hj
  cases hj
  exact hne h2
 ·rw [h3];have:x∈l.take (tW l c)++l.drop (tW l c):=by rw [zXv]; exact hx
  simp only [zWk,zQy] at this ⊢;rcases this with h | h
  ·exact .inl (.inl h)
  ·exact .inr h
theorem Ye{l:List Kid}(id s:Int):(∀ x∈l,∃ y∈iX l id s,y.j7=x.j7/\y.sR=x.sR/\y.bR=x.bR)/\∀ y∈iX l id s,∃ x∈l,y.bR=x.bR:=by
 have hid:(∀ x∈l,∃ y∈l,y.j7=x.j7/\y.sR=x.sR/\y.bR=x.bR)/\∀ y∈l,∃ x∈l,y.bR=x.bR:=⟨λx hx=>⟨x,hx,rfl,rfl,rfl⟩,λy hy=>⟨y,hy,rfl⟩⟩;unfold iX;rcases oF l id with ⟨h1,_⟩ | ⟨j,x,h1,h2,h3⟩
 ·rw [h1,UT]; exact hid
 ·rw [h1,cU,h2];dsimp only
  split
  ·rw [rg];refine ⟨λy hy=>?_,λy hy=>?_⟩
   ·obtain ⟨i,hi⟩:=aac.1 hy
    by_cases e:i=j
    ·subst e;rw [h2] at hi
     cases hi
     exact ⟨_,Oz h2,rfl,rfl,rfl⟩
    ·exact ⟨y,Qd hi e,rfl,rfl,rfl⟩
   ·rcases Ka hy with rfl | ⟨i,_,hg⟩
    ·exact ⟨x,zQY h2,rfl⟩
    ·exact ⟨y,zQY hg,rfl⟩
  ·exact hid
theorem IA{t:bl}{r c:Nat}{l:List Kid}(id s:Int):(Iz t r c l->Iz t r c (iX l id s))/\(As t r c l->As t r c (iX l id s))/\(KR l->KR (iX l id s)):=by
 obtain ⟨h1,h2⟩:=Ye (l:=l) id s;refine ⟨λ⟨x,hx,a,b⟩=>?_,λ⟨x,hx,a,e,b⟩=>?_,λhk y hy=>?_⟩
 ·obtain ⟨y,hy,e1,e2,e3⟩:=h1 x hx;exact ⟨y,hy,e1.trans a,e3 ▸ b⟩
 ·obtain ⟨y,hy,e1,e2,e3⟩:=h1 x hx;exact ⟨y,hy,e1.trans a,e2.trans e,e3 ▸ b⟩
 ·obtain ⟨x,hx,e⟩:=h2 y hy;rw [e];exact hk x hx
theorem qbD(s:Int):gl .i64 0 s=0:=by
 have:∀ x:BitVec (IntKind.bits .i64),(sa (IntKind.bits .i64) 0 &&& x).toNat=0:=λx=>by
  rw [BitVec.toNat_and,aad];simp
 unfold gl;rw [this];rfl
theorem Zw(s:Int):wd .i64 0 s=0:=by
 have:∀ x:BitVec (IntKind.bits .i64),(sa (IntKind.bits .i64) 0 &&& x).toNat=0:=λx=>by
  rw [BitVec.toNat_and,aad];simp
 unfold wd;rw [this];rfl
theorem qa5{l:List Kid}{c:Nat}(h:∀ x∈l,x.j7=(c:Int)->x.bZ=0)(have_:Int):oG l c have_=0:=by
 unfold oG;rcases oF l c with ⟨h1,_⟩ | ⟨j,x,h1,h2,h3⟩
 ·rw [h1,UT]
 ·rw [h1,cU,h2];dsimp only
  split
  ·rw [h x (zQY h2) h3,qbD,Zw]
  ·rfl
theorem Yf:gn 0=[]:=by
 rw [GQ];simp [Us]
theorem To{t:bl}{r r' c:Nat}{n:aD}{me:Int}{m:j4}(hc:c<=6)(hne:(c:Int)≠me)(hw:m.bZ=0)(hd:WI t r' c m.bR)(hk:KR n.aX)(hS:mD n.aX) :
  ∃ L,gF n me c m=⟨gP n L,[kB me c (if n.aR=0 then ek 0 else if m.aM=n.aB.aM then ek n.aB.aM else iK n.aB)]⟩ /\
   As t r' c L/\KR L/\(∀ c':Nat,c'≠c->(Iz t r c' n.aX->Iz t r c' L)/\(As t r' c' n.aX->As t r' c' L)):=by
 have h0:bh 0=true:=rfl;obtain ⟨a1,a2,a3⟩:=Yd (want:=0) hc h0 hd hk hS;have oth:∀ c':Nat,c'≠c->(Iz t r c' n.aX->Iz t r c' (kw n.aX c 0 m.bR))/\(As t r' c' n.aX->As t r' c' (kw n.aX c 0 m.bR)):=λc' hne' =>
  ⟨λ⟨x,hx,e1,e2⟩=>⟨x,Tn hc h0 hd.1 hx (by rw [e1]; omega),e1,e2⟩,λ⟨x,hx,e1,e3,e2⟩=>⟨x,Tn hc h0 hd.1 hx (by rw [e1]; omega),e1,e3,e2⟩⟩
 unfold gF;rw [if_neg hne,hw];dsimp only
 by_cases hp:n.aR=0
 ·rw [if_pos hp,if_pos hp];exact ⟨_,rfl,a1,a3,oth⟩
 rw [if_neg hp,if_neg hp]
 by_cases hg:m.aM=n.aB.aM
 ·rw [if_pos hg,if_pos hg];have hs:oG (gP n (kw n.aX c 0 m.bR)).aX c (gP n (kw n.aX c 0 m.bR)).bw.bj=0:=qa5 a2 _;unfold jc;rw [hs,Yf];simp only [List.filter_nil,List.map_nil,zWv,if_true];refine ⟨_,rfl,(IA c 0).2.1 a1,(IA (t:=t) (r:=r) (c:=c) c 0).2.2 a3,λc' hne'=>⟨λh=>(IA c 0).1 ((oth c' hne').1 h),λh=>(IA c 0).2.1 ((oth c' hne').2 h)⟩⟩
 ·rw [if_neg hg,if_neg hg];exact ⟨_,rfl,a1,a3,oth⟩
structure M.Cal (t:bl) (cf:dV) (new:List Int):Prop where
 t:cY t=true
 c:my cf=true
 s:cO cf.ar new.length=true
 b:au new
 l:new.length<=16
def UU(new:List Int)(size:Int):aY:=eP (M.man 1 new size) new
theorem VA{t:bl}{cf:dV}{new:List Int}(h:M.Cal t cf new):(UU new cf.ar).cu=new/\uw (M.man 1 new cf.ar) (UU new cf.ar)=true/\u1 (M.man 1 new cf.ar) (UU new cf.ar)=0:=by
 have mo:=u2 1 h.b cf.ar;rw [u7 h.s rfl] at mo;have e:=Ey h.b (g:=1) h.s mo;have hw:=Ov h.b (g:=1) h.s rfl mo;unfold UU;rw [e];refine ⟨rfl,hw,?_⟩;unfold uw at hw;simp only [sk,beq_iff_eq] at hw;exact hw.2
def oT(t:bl)(r k:Nat):Int:=if k=0 then 6 else if r < M.dep t 7 k then 0 else ((min 5 (r+1 - M.dep t 7 k):Nat):Int)
def pJ(t:bl)(r k:Nat):Int:=if k=0 then 6 else if r < M.dep t 7 k then 0 else ((min 5 (r+2 - M.dep t 7 k):Nat):Int)
theorem Zx{t:bl}{r k:Nat}(hk:k≠0):(oT t r k=0/\pJ t r k=0)\/(1<=oT t r k/\oT t r k < 5/\pJ t r k=oT t r k+1)\/(oT t r k=5/\pJ t r k=5):=by
 unfold oT pJ;rw [if_neg hk,if_neg hk]
 split <;> omega
theorem qau{t:bl}(h:cY t=true){r k:Nat}(hk:1<=k)(hl:k < t.bC.length):oT t (r+1) k=if r < M.dep t 7 k then (if pJ t r (qD t k)=0 then 0 else 1) else pJ t r k:=by
 have hd:=dep_up h hk hl;have hp:=FU h hk hl;unfold oT pJ;rw [if_neg (show k≠0 by omega),if_neg (show k≠0 by omega)]
 by_cases h1:r < M.dep t 7 k
 ·rw [if_pos h1]
  by_cases h0:qD t k=0
  ·rw [if_pos h0];have:M.dep t 7 0=0:=rfl;rw [h0,this] at hd;rw [if_neg ak,if_neg ak];omega
  ·rw [if_neg h0]
   by_cases h2:r < M.dep t 7 (qD t k)
   ·rw [if_pos h2,if_pos rfl,if_pos ak]
   ·rw [if_neg h2,if_neg ak,if_neg ak];omega
 ·rw [if_neg h1,if_neg ak,if_neg h1]
theorem At{t:bl}{r k:Nat}(hk:k≠0):pJ t r k=0↔r < M.dep t 7 k:=by
 unfold pJ;rw [if_neg hk]
 split <;> omega
theorem yb{t:bl}{r k:Nat}(hk:k≠0):oT t r k=0↔r < M.dep t 7 k:=by
 unfold oT;rw [if_neg hk]
 split <;> omega
structure M.NdA (t:bl) (cf:dV) (new:List Int) (k:Nat) (ph:Int) (n:aD):Prop where
 on:n.lu=true
 boss:k≠0->n.bY=(qD t k:Int)
 p:n.aR=ph
 mi:ph=0->n.aB.aM=0
 man:ph≠0->n.aB=M.man 1 new cf.ar
 bld:ph≠0->n.bw=UU new cf.ar
 kd:KR n.aX
structure M.NdE (t:bl) (cf:dV) (new:List Int) (r k:Nat) (n:aD):Prop where
 a:M.NdA t cf new k (oT t r k) n
 q:k≠0->n.bM=0
 kids:1<=r->∀ c,1<=c->c < t.bC.length->qD t c=k->As t r c n.aX
structure M.NdT (t:bl) (cf:dV) (new:List Int) (r i k:Nat) (n:aD):Prop where
 a:M.NdA t cf new k (pJ t r k) n
 now:∀ c,1<=c->c<=i->c < t.bC.length->qD t c=k->As t (r+1) c n.aX
 old:1<=r->∀ c,i < c->c < t.bC.length->qD t c=k->Iz t r c n.aX
def Md(new:List Int)(size ph:Int)(d:aA):Prop:=M.DS new new size ph d/\(ph=0->M.K0 new d/\d.fP=[])
def Zy(t:bl)(r k:Nat)(p:aq):Prop:=∃ g d,p=kB k (qD t k) (qV g 0 d)/\(r < M.dep t 7 k->g=0)/\(M.dep t 7 k<=r->g=1)/\WI t (r+1) k d
def WJ(t:bl)(cf:dV)(new:List Int)(r k:Nat)(p:aq):Prop :=
 p=kB (qD t k) k (if pJ t r (qD t k)=0 then ek 0 else if r < M.dep t 7 k then iK (M.man 1 new cf.ar) else ek 1)
theorem GY{cf:dV}(h:my cf=true):1<=cf.aW/\cf.aW<=5/\2<=cf.aZ/\1<=cf.ba/\cf.ba<=40:=by
 unfold my at h;simp only [sk] at h;have h1:=bI h.1.1.2;have h2:=bI h.1.2;have h3:=bI h.2;omega
theorem qbE(d:aA)(m:af)(x:aY):ei d m x 0=(d,0):=rfl
theorem qbF(d:aA)(m:af)(x:aY):ei d m x 5=(d,5):=rfl
theorem Yg{t:bl}{cf:dV}{new:List Int}(h:M.Cal t cf new){r k:Nat}(hk:k≠0){n:aD}(hn:M.NdA t cf new k (oT t r k) n){d:aA}(hd:Md new cf.ar (oT t r k) d) :
  (ei d n.aB n.bw n.aR).2=pJ t r k/\Md new cf.ar (pJ t r k) (ei d n.aB n.bw n.aR).1:=by
 obtain ⟨b1,b2,_⟩:=VA h;have hl:=h.l;rw [hn.p];rcases Zx (t:=t) (r:=r) hk with ⟨e1,e2⟩ | ⟨e1,e2,e3⟩ | ⟨e1,e2⟩
 ·rw [e1] at hd ⊢;rw [e2,qbE];exact ⟨rfl,hd⟩
 ·have h0:oT t r k≠0:=by omega
  rw [hn.man h0,hn.bld h0,e3];have hg:=qa4 ak hl h.s hd.1 b1 b2 e1 e2;refine ⟨hg,?_,λe=>by omega⟩;have:=Zr ak hl h.s hd.1 (m:=M.man 1 new cf.ar) (λ_=>rfl) (x:=UU new cf.ar) (λ_ _=>b1);rwa [hg] at this
 ·rw [e1] at hd ⊢;rw [e2,qbF];exact ⟨rfl,hd⟩
theorem WK{t:bl}{cf:dV}{new:List Int}(h:M.Cal t cf new){r k:Nat}(hk:1<=k)(hl:k < t.bC.length){n:aD}(hn:M.NdE t cf new r k n){d:aA}(hd:Md new cf.ar (oT t r k) d) :
  ∃ p,(ik t cf k n d).sQ=[p]/\Zy t r k p/\M.NdT t cf new r 0 k (ik t cf k n d).fN/\Md new cf.ar (pJ t r k) (ik t cf k n d).fD:=by
 have hk0:k≠0:=by omega
 have hc:=GY h.c;have h7:=oH h.t;obtain ⟨c1,c2⟩:=Yg h hk0 hn.a hd;have e:ik t cf k n d=xd cf k n d n.bY (aV .i64 n.bM 1):=by
  unfold ik;rw [hn.a.on,if_neg kU,if_neg ak,if_neg (by rw [hn.q hk0]; omega)]
 rw [e];have hkid:∀ c,1<=r->1<=c->c < t.bC.length->qD t c=k->Iz t r c (ic n.aX cf.aZ):=λc h1 h2 h3 h4=>Vz (hn.kids h1 c h2 h3 h4) ak;have hkd:KR (ic n.aX cf.aZ):=λx hx=>by
  obtain ⟨y,hy,rfl⟩:=List.mem_map.1 hx;exact hn.a.kd y (List.mem_filter.1 hy).1
 have hlack:El (nw cf n d n.bY (aV .i64 n.bM 1))=0:=by
  unfold El
  split
  ·rfl
  ·rename_i hp;have hp:pJ t r k≠0:=by rw [<- c1]; exact hp
   have h0:oT t r k≠0:=λe0=>hp ((At hk0).2 ((yb hk0).1 e0));show u1 n.aB n.bw=0;rw [hn.a.man h0,hn.a.bld h0];exact (VA h).2.2
 have hwant:Io (nw cf n d n.bY (aV .i64 n.bM 1)) cf.ba=0:=by
  unfold Io EZ;rw [hlack,Yf];rfl
 refine ⟨_,rfl,⟨n.aB.aM,B6 (nw cf n d n.bY (aV .i64 n.bM 1)) k,?_,λhr=>hn.a.mi ((yb hk0).2 hr),λhr=>?_,?_⟩,⟨⟨hn.a.on,λ_=>hn.a.boss hk0,c1,λe0=>hn.a.mi ((yb hk0).2 ((At hk0).1 e0)),λe0=>hn.a.man λe1=>e0 ((At hk0).2 ((yb hk0).1 e1)),λe0=>hn.a.bld λe1=>e0 ((At hk0).2 ((yb hk0).1 e1)),hkd⟩,λc c1 c2=>by omega,λhr c hc0 hcl hpa=>hkid c hr ak hcl hpa⟩,c2⟩
 ·rw [<- hwant,<- hn.a.boss hk0]
 ·rw [hn.a.man λe0=>by have:=(yb hk0).1 e0; omega];rfl
 ·have hs0:=Tl (ic n.aX cf.aZ) 0 rfl;have hw:=Zv hs0 (k:=k) ak;have hfin:(nw cf n d n.bY (aV .i64 n.bM 1)).aR=pJ t r k:=c1;have hkk:(nw cf n d n.bY (aV .i64 n.bM 1)).aX=ic n.aX cf.aZ:=rfl;unfold B6;rw [hfin,hkk];have bits:∀ y j,y < t.bC.length->Dn t (j+1) y=k->M.dep t 7 y+4+(j+1)<=r+1->dB (sK (ic n.aX cf.aZ) 0) (y:Int)=true:=λy j h1 h2 h3=>by
   have hac:=Vy h.t h1 j;have h2:qD t (Dn t j y)=k:=h2;have hc1:1<=Dn t j y:=by
    rcases zYY (Dn t j y) with e0 | e0
    ·rw [e0,Vx h.t] at h2; omega
    ·exact e0
   obtain ⟨x,hx,_,hb⟩:=hkid (Dn t j y) ak hc1 ak h2;exact Ox _ 0 y rfl (.inr ⟨x,hx,hb.2 y j h1 rfl ak⟩)
  split
  ·refine ⟨hw.1,λy j h1 h2 h3=>?_⟩
   cases j with
   | zero =>
    have h2:y=k:=h2;subst h2;exact hw.2.1
   | succ j=>exact hw.2.2 y (bits y j h1 h2 h3)
  ·rename_i h5;refine ⟨hs0,λy j h1 h2 h3=>?_⟩
   cases j with
   | zero =>
    have h2:y=k:=h2;subst h2;exfalso
    apply h5
    unfold pJ;rw [if_neg hk0,if_neg ak];omega
   | succ j=>exact bits y j h1 h2 h3
theorem WL{t:bl}{cf:dV}{new:List Int}(h:M.Cal t cf new){r:Nat}{n:aD}(hn:M.NdE t cf new r 0 n)(d:aA) :
  (ik t cf (0:Nat) n d).sQ=[]/\M.NdT t cf new r 0 0 (ik t cf (0:Nat) n d).fN/\(ik t cf (0:Nat) n d).fD=d:=by
 have hc:=GY h.c;have e:ik t cf (0:Nat) n d=⟨gP n (ic n.aX cf.aZ),d,[]⟩:=by
  unfold ik;rw [hn.a.on,if_neg kU,if_pos (show ((0:Nat):Int)=0 from rfl)]
 rw [e];refine ⟨rfl,⟨⟨hn.a.on,hn.a.boss,hn.a.p,hn.a.mi,hn.a.man,hn.a.bld,λx hx=>?_⟩,λc c1 c2=>by omega,λhr c hc0 hcl hpa=>Vz (hn.kids hr c ak hcl hpa) ak⟩,rfl⟩;obtain ⟨y,hy,rfl⟩:=List.mem_map.1 hx;exact hn.a.kd y (List.mem_filter.1 hy).1
structure M.Cst (t:bl) (cf:dV) (new:List Int) (w:World):Prop where
 fc:w.fC=cf
 ft:w.fT=t
 fn:w.cG=new
 old:∀ o∈w.ct,o.fB=new
 ol:w.ct.length=t.bC.length
 log:w.fO=[]
 wf:M.WWf w
theorem ZN(w:World):Em w []=w:=rfl
theorem ZO{w:World}{p:aq}(h:w.cr.length < 400)(hk:(d3 p.fB).1.bG≠3):Em w [p]=⟨w.fC,w.fT,w.cG,w.ct,w.fN,w.fD,w.cr++[p],w.fO,w.cQ⟩:=by
 have e:((d3 p.fB).1.bG == 3)=false:=by simpa using hk
 unfold Em;simp only [List.foldl_cons,List.foldl_nil];unfold jL;dsimp only;rw [if_neg ak,e];simp
theorem Zz{g d:Int}(hg:g=0\/g=1)(hd:bh d=true):d3 (dh (qV g 0 d))=(qV g 0 d,true):=by
 refine Ya ?_ rfl;show (ah g 0 1000000 && lM Dm && bh 0 && bh d && ((0:Int) == 0) && (([]:List Int).length == 0))=true;have:ah g 0 1000000=true:=by unfold ah; simp; omega
 rw [this,hd];rfl
theorem Yh{t:bl}{r k:Nat}{p:aq}(h:Zy t r k p):∃ g d,p.gS=(k:Int)/\p.Ca=(qD t k:Int)/\d3 p.fB=(qV g 0 d,true)/\(r < M.dep t 7 k->g=0)/\(M.dep t 7 k<=r->g=1)/\WI t (r+1) k d:=by
 obtain ⟨g,d,rfl,h1,h2,h3⟩:=h;refine ⟨g,d,rfl,rfl,Zz ?_ h3.1,h1,h2,h3⟩;rcases Nat.lt_or_ge r (M.dep t 7 k) with h4 | h4
 ·exact .inl (h1 h4)
 ·exact .inr (h2 h4)
theorem Yi{t:bl}{cf:dV}{new:List Int}(hc:M.Cal t cf new){r k:Nat}{p:aq}(h:WJ t cf new r k p):p.gS=(qD t k:Int)/\p.Ca=(k:Int)/\d3 p.fB=(if pJ t r (qD t k)=0 then ek 0 else if r < M.dep t 7 k then iK (M.man 1 new cf.ar) else ek 1,true):=by
 unfold WJ at h;subst h;refine ⟨rfl,rfl,?_⟩;show d3 (dh _)=_
 split
 ·exact Tg rfl
 split
 ·exact Zu hc.b hc.l hc.s
 ·exact Tg rfl
theorem q7{α:Type}{l:List α}{k j:Nat}{v x:α}(h:(l.set k v)[j]?=some x):(j=k/\x=v)\/(j≠k/\l[j]?=some x):=by
 rw [zXZ] at h
 split at h
 ·split at h
  ·cases h; exact .inl ⟨by omega,rfl⟩
  ·cases h
 ·exact .inr ⟨by omega,h⟩
structure M.S1 (t:bl) (cf:dV) (new:List Int) (r k:Nat) (w:World):Prop where
 c:M.Cst t cf new w
 lo:∀ j n,j < k->w.fN[j]?=some n->M.NdT t cf new r 0 j n
 hi:∀ j n,k<=j->w.fN[j]?=some n->M.NdE t cf new r j n
 dlo:∀ j d,1<=j->j < k->w.fD[j]?=some d->Md new cf.ar (pJ t r j) d
 dhi:∀ j d,1<=j->k<=j->w.fD[j]?=some d->Md new cf.ar (oT t r j) d
 len:w.cr.length=k - 1
 net:∀ i p,w.cr[i]?=some p->Zy t r (i+1) p
theorem ZA{t:bl}{cf:dV}{new:List Int}(hc:M.Cal t cf new){r k:Nat}{w:World}(hk:k < t.bC.length)(h:M.S1 t cf new r k w):M.S1 t cf new r (k+1) (ir w k):=by
 have h7:=oH hc.t;have hwf:=Bt h.c.wf (k:=k) (by rw [h.c.ft]; exact hk);have ht:=h.c.ft;have hcf:=h.c.fc;have hn:w.fN[k]?=some (w.fN[k]'(by rw [h.c.wf.nl,ht]; exact hk)):=sX _;have hd:w.fD[k]?=some (w.fD[k]'(by rw [h.c.wf.dl,ht]; exact hk)):=sX _;generalize w.fN[k]'(by rw [h.c.wf.nl,ht]; exact hk)=n at hn;generalize w.fD[k]'(by rw [h.c.wf.dl,ht]; exact hk)=d at hd;have e:ir w k=Em (zA w k (ik t cf k n d).fN (ik t cf k n d).fD) (ik t cf k n d).sQ:=by
  unfold ir;rw [hn,hd,ht,hcf]
 have cst:∀ {w':World},M.WWf w'->w'.fC=w.fC->w'.fT=w.fT->w'.cG=w.cG->w'.ct=w.ct->w'.fO=w.fO->M.Cst t cf new w':=λh1 e1 e2 e3 e4 e5 =>
  ⟨e1.trans hcf,e2.trans ht,e3.trans h.c.fn,λo ho=>h.c.old o (e4 ▸ ho),(congrArg List.length e4).trans h.c.ol,e5.trans h.c.log,h1⟩
 by_cases h0:k=0
 ·subst h0;obtain ⟨a1,a2,a3⟩:=WL hc (h.hi 0 n (zWJ _) hn) d;rw [a1,a3,ZN] at e;rw [e] at hwf ⊢;refine ⟨cst hwf rfl rfl rfl rfl rfl,λj x hj hx=>?_,λj x hj hx=>?_,λj x h1 h2=>by omega,λj x h1 h2 hx=>?_,?_,h.net⟩
  ·rcases q7 hx with ⟨e1,rfl⟩ | ⟨e1,_⟩
   ·subst e1; exact a2
   ·omega
  ·rcases q7 hx with ⟨e1,rfl⟩ | ⟨e1,hx⟩
   ·omega
   ·exact h.hi j x ak hx
  ·rcases q7 hx with ⟨e1,rfl⟩ | ⟨e1,hx⟩
   ·omega
   ·exact h.dhi j x h1 ak hx
  ·exact h.len
 ·obtain ⟨p,a1,a2,a3,a4⟩:=WK hc ak hk (h.hi k n (zWJ _) hn) (h.dhi k d ak (zWJ _) hd);have hlen:=h.len;obtain ⟨g,dd,_,_,hm,_⟩:=Yh a2;rw [a1,ZO (by show w.cr.length < 400; omega) (by rw [hm]; show (2:Int)≠3; decide)] at e;rw [e] at hwf ⊢;refine ⟨cst hwf rfl rfl rfl rfl rfl,λj x hj hx=>?_,λj x hj hx=>?_,λj x h1 h2 hx=>?_,λj x h1 h2 hx=>?_,?_,λi q hq=>?_⟩
  ·rcases q7 hx with ⟨e1,rfl⟩ | ⟨e1,hx⟩
   ·subst e1; exact a3
   ·exact h.lo j x ak hx
  ·rcases q7 hx with ⟨e1,rfl⟩ | ⟨e1,hx⟩
   ·omega
   ·exact h.hi j x ak hx
  ·rcases q7 hx with ⟨e1,rfl⟩ | ⟨e1,hx⟩
   ·subst e1; exact a4
   ·exact h.dlo j x h1 ak hx
  ·rcases q7 hx with ⟨e1,rfl⟩ | ⟨e1,hx⟩
   ·omega
   ·exact h.dhi j x h1 ak hx
  ·show (w.cr++[p]).length=_;rw [zQG,hlen];show k - 1+1=k+1 - 1;omega
  ·have hq:(w.cr++[p])[i]?=some q:=hq;rw [zWK] at hq
   split at hq
   ·exact h.net i q hq
   ·rename_i hi;have h1:i - w.cr.length=0:=by
     rcases zYY (i - w.cr.length) with h1 | h1
     ·exact h1
     ·rw [zXK lv] at hq
      cases hq
    rw [h1] at hq;simp only [zQh,Option.some.injEq] at hq;subst hq;rwa [show i+1=k by omega]
theorem Yj{t:bl}{cf:dV}{new:List Int}(hc:M.Cal t cf new){r:Nat}:∀ (m k:Nat) (w:World),k+m=t.bC.length->M.S1 t cf new r k w->M.S1 t cf new r t.bC.length (A8 m k w)
 | 0,k,w,h1,h=>by
  have:k=t.bC.length:=by omega
  subst this;exact h
 | m+1,k,w,h1,h=>Yj hc m (k+1) (ir w k) ak (ZA hc ak h)
structure M.S2 (t:bl) (cf:dV) (new:List Int) (r i:Nat) (w:World):Prop where
 c:M.Cst t cf new w
 nd:∀ j n,w.fN[j]?=some n->M.NdT t cf new r i j n
 dk:∀ j d,1<=j->w.fD[j]?=some d->Md new cf.ar (pJ t r j) d
 net:∃ ps ln,w.cr=ps++ln/\ps.length+i+1=t.bC.length/\ln.length=i/\(∀ q p,ps[q]?=some p->Zy t r (i+q+1) p)/\∀ q p,ln[q]?=some p->WJ t cf new r (q+1) p
theorem Yk{t:bl}{cf:dV}{new:List Int}(hc:M.Cal t cf new){r:Nat}{w:World}(h:M.S1 t cf new r t.bC.length w):M.S2 t cf new r 0 w:=by
 have h7:=oH hc.t;have hN:=h.c.wf.nl;have hD:=h.c.wf.dl;rw [h.c.ft] at hN hD;have hl:=h.len;refine ⟨h.c,λj n hn=>h.lo j n (by have:=(sr.1 hn).1; omega) hn,λj d h1 hd=>h.dlo j d h1 (by have:=(sr.1 hd).1; omega) hd,w.cr,[],by simp,by omega,rfl,λq p hp=>?_,λq p hp=>by simp at hp⟩;rw [zQg];exact h.net q p hp
theorem ZB{t:bl}{cf:dV}{new:List Int}(hc:M.Cal t cf new){r i:Nat}{w:World}(hi:i+1 < t.bC.length)(h:M.S2 t cf new r i w):w.cr.length≠0/\M.S2 t cf new r (i+1) (gr w 0):=by
 have h7:=oH hc.t;have hwf:=xw h.c.wf 0;obtain ⟨ps,ln,e0,l1,l2,hps,has⟩:=h.net;obtain ⟨p,ps,rfl⟩:∃ p ps',ps=p :: ps':=by
  cases ps with
  | nil=>simp at l1; omega
  | cons p ps=>exact ⟨p,ps,rfl⟩
 have hw:=hps 0 p rfl;rw [zXx] at hw;obtain ⟨g,d,f1,f2,f3,f4,f5,f6⟩:=Yh hw;have hpa:=FU hc.t (k:=i+1) ak hi;have ht:=h.c.ft;have hN:=h.c.wf.nl;have hD:=h.c.wf.dl;rw [ht] at hN hD;refine ⟨by rw [e0]; simp,?_⟩;generalize hb:qD t (i+1)=b at *;have hn:w.fN[b]?=some (w.fN[b]'ak):=sX _;have hd:w.fD[b]?=some (w.fD[b]'ak):=sX _;generalize w.fN[b]'ak=n at hn;generalize w.fD[b]'ak=dd at hd;have nt:=h.nd b n hn;obtain ⟨L,g1,g2,g3,g4⟩:=To (t:=t) (r:=r) (r':=r+1) (c:=i+1) (n:=n) (me:=(b:Int)) (m:=qV g 0 d) ak ak rfl f6 nt.a.kd (h.c.wf.nodes b n hn).s;have hans:(if n.aR=0 then ek 0 else if (qV g 0 d).aM=n.aB.aM then ek n.aB.aM else iK n.aB)=(if pJ t r b=0 then ek 0 else if r < M.dep t 7 (i+1) then iK (M.man 1 new cf.ar) else ek 1):=by
  rw [nt.a.p]
  by_cases h0:pJ t r b=0
  ·rw [if_pos h0,if_pos h0]
  ·rw [if_neg h0,if_neg h0,nt.a.man h0];show (if g=1 then ek 1 else _)=_
   by_cases h1:r < M.dep t 7 (i+1)
   ·rw [if_pos h1,if_neg (by rw [f4 h1]; decide)]
   ·rw [if_neg h1,if_pos (f5 ak)]
 rw [hans] at g1;generalize hA:kB (b:Int) ((i+1:Nat):Int) (if pJ t r b=0 then ek 0 else if r < M.dep t 7 (i+1) then iK (M.man 1 new cf.ar) else ek 1)=a at g1;have hAn:WJ t cf new r (i+1) a:=by unfold WJ; rw [hb]; exact hA.symm
 have ha3:(d3 a.fB).1.bG≠3:=by
  rw [(Yi hc hAn).2.2];dsimp only
  split
  ·exact (by decide:(4:Int)≠3)
  split
  ·exact (by decide:(1:Int)≠3)
  ·exact (by decide:(4:Int)≠3)
 have hnet0:w.cr[0]?=some p:=by rw [e0]; rfl
 have hin:ah p.gS 0 ((t.bC.length:Int) - 1)=true:=by rw [f1]; unfold ah; simp; omega
 have htk:M.take t p.Ca n dd p=⟨gP n L,[a]⟩:=by
  unfold M.take;rw [nt.a.on,f3,hin,f1,f2];have hne:(((i+1:Nat):Int) != (b:Int))=true:=by simp; omega
  rw [hne];simp only [zQV,zQk,if_false,zWZ,if_true];rw [if_pos (show (qV g 0 d).bG=2 from rfl)];exact g1
 have e:gr w 0=⟨w.fC,w.fT,w.cG,w.ct,w.fN.set b (gP n L),w.fD,ps++ln++[a],w.fO,w.cQ⟩:=by
  unfold gr;rw [hnet0];dsimp only;unfold B7;have hb':p.Ca.toNat=b:=by rw [f2]; rfl
  rw [hb'];have hn':(yK w 0).fN[b]?=some n:=hn;have hd':(yK w 0).fD[b]?=some dd:=hd;rw [hn',hd'];dsimp only;have ht':(yK w 0).fT=t:=ht;rw [ht',htk];dsimp only;have hp0:w.cr.take 0++w.cr.drop (0+1)=ps++ln:=by rw [e0]; rfl
  rw [ZO (by show (w.cr.take 0++w.cr.drop (0+1)).length < 400; rw [hp0]; simp only [zQG,zQw] at l1 ⊢; omega) ha3];show World.mk _ _ _ _ _ _ (w.cr.take 0++w.cr.drop (0+1)++[a]) _ _=_;rw [hp0];rfl
 rw [e] at hwf ⊢;refine ⟨⟨h.c.fc,ht,h.c.fn,h.c.old,h.c.ol,h.c.log,hwf⟩,λj x hx=>?_,h.dk,ps,ln++[a],by simp,by simp only [zQw] at l1; omega,by simp [l2],λq x hx=>?_,λq x hx=>?_⟩
 ·rcases q7 hx with ⟨e1,rfl⟩ | ⟨e1,hx⟩
  ·subst e1;refine ⟨⟨nt.a.on,nt.a.boss,nt.a.p,nt.a.mi,nt.a.man,nt.a.bld,g3⟩,λc c1 c2 c3 c4=>?_,λhr c c1 c3 c4=>(g4 c ak).1 (nt.old hr c ak c3 c4)⟩
   by_cases hck:c=i+1
   ·subst hck; exact g2
   ·exact (g4 c hck).2 (nt.now c c1 ak c3 c4)
  ·have nj:=h.nd j x hx;refine ⟨nj.a,λc c1 c2 c3 c4=>nj.now c c1 ?_ c3 c4,λhr c c1 c3 c4=>nj.old hr c ak c3 c4⟩;rcases Nat.lt_or_ge i c with h1 | h1
   ·have:c=i+1:=by omega
    subst this;omega
   ·exact h1
 ·have:=hps (q+1) x WW;rwa [show i+1+q+1=i+(q+1)+1 by omega]
 ·rw [zWK] at hx
  split at hx
  ·exact has q x hx
  ·have h1:q - ln.length=0:=by
    rcases zYY (q - ln.length) with h1 | h1
    ·exact h1
    ·rw [zXK lv] at hx
     cases hx
   rw [h1] at hx;simp only [zQh,Option.some.injEq] at hx;subst hx;rw [show q=i by omega];exact hAn
structure M.S3 (t:bl) (cf:dV) (new:List Int) (r i:Nat) (w:World):Prop where
 c:M.Cst t cf new w
 lo:∀ j n,j<=i->w.fN[j]?=some n->M.NdE t cf new (r+1) j n
 hi:∀ j n,i < j->w.fN[j]?=some n->M.NdT t cf new r (t.bC.length - 1) j n
 dlo:∀ j d,1<=j->j<=i->w.fD[j]?=some d->Md new cf.ar (oT t (r+1) j) d
 dhi:∀ j d,1<=j->i < j->w.fD[j]?=some d->Md new cf.ar (pJ t r j) d
 len:w.cr.length+i+1=t.bC.length
 net:∀ q p,w.cr[q]?=some p->WJ t cf new r (i+q+1) p
theorem Yl{t:bl}{cf:dV}{new:List Int}(hc:M.Cal t cf new){r:Nat}{w:World}(h:M.S2 t cf new r (t.bC.length - 1) w):M.S3 t cf new r 0 w:=by
 have h7:=oH hc.t;obtain ⟨ps,ln,e0,l1,l2,hps,has⟩:=h.net;have e1:ps=[]:=List.length_eq_zero_iff.1 ak;rw [e1,zWH] at e0;refine ⟨h.c,λj n hj hn=>?_,λj n _ hn=>h.nd j n hn,λj d h1 h2=>by omega,λj d h1 _ hd=>h.dk j d h1 hd,by rw [e0]; omega,λq p hp=>?_⟩
 ·have:j=0:=by omega
  subst this;have nt:=h.nd 0 n hn;have e:pJ t r 0=oT t (r+1) 0:=rfl;exact ⟨e ▸ nt.a,λh0=>absurd rfl h0,λ_ c c1 c3 c4=>nt.now c c1 ak c3 c4⟩
 ·rw [e0] at hp;rw [zQg];exact has q p hp
theorem Ym{t:bl}{cf:dV}{new:List Int}{r k:Nat}{n x:aD}(nt:M.NdT t cf new r (t.bC.length - 1) k n)(h1:x.aX=n.aX)(h2:x.bM=0)(ha:M.NdA t cf new k (oT t (r+1) k) x):M.NdE t cf new (r+1) k x :=
 ⟨ha,λ_=>h2,λ_ c c1 c3 c4=>by rw [h1]; exact nt.now c c1 ak c3 c4⟩
theorem ZC{t:bl}{cf:dV}{new:List Int}(hc:M.Cal t cf new){r i:Nat}{w:World}(hi:i+1 < t.bC.length)(h:M.S3 t cf new r i w):w.cr.length≠0/\M.S3 t cf new r (i+1) (gr w 0):=by
 have h7:=oH hc.t;have hwf:=xw h.c.wf 0;have hlen:=h.len;refine ⟨by omega,?_⟩;obtain ⟨p,ps,e0⟩:∃ p ps,w.cr=p :: ps:=by
  cases hq:w.cr with
  | nil=>rw [hq] at hlen; simp at hlen; omega
  | cons p ps=>exact ⟨p,ps,rfl⟩
 have hnet0:w.cr[0]?=some p:=by rw [e0]; rfl
 have hA:=h.net 0 p hnet0;rw [zXx] at hA;obtain ⟨f1,f2,f3⟩:=Yi hc hA;have hpa:=FU hc.t (k:=i+1) ak hi;have ht:=h.c.ft;have hN:=h.c.wf.nl;have hD:=h.c.wf.dl;rw [ht] at hN hD;have hn:w.fN[i+1]?=some (w.fN[i+1]'ak):=sX _;have hd:w.fD[i+1]?=some (w.fD[i+1]'ak):=sX _;generalize w.fN[i+1]'ak=n at hn;generalize w.fD[i+1]'ak=d at hd;have nt:=h.hi (i+1) n ak hn;have dt:=h.dhi (i+1) d ak ak hd;have hin:ah p.gS 0 ((t.bC.length:Int) - 1)=true:=by rw [f1]; unfold ah; simp; omega
 have hk0:i+1≠0:=by omega
 have hph:=qau hc.t (r:=r) (k:=i+1) ak hi
 -- what the node becomes
 obtain ⟨x,hx,hxE,hxD⟩:∃ x,M.take t p.Ca n d p=⟨x,[]⟩/\M.NdE t cf new (r+1) (i+1) x/\Md new cf.ar (oT t (r+1) (i+1)) d:=by
  have hdown:∀ m,d3 p.fB=(m,true)->m.bG≠2->M.take t p.Ca n d p=kC n ((i+1:Nat):Int) d m:=λm hm hk2=>by
   have hne:((qD t (i+1):Int) != ((i+1:Nat):Int))=true:=by simp; omega
   have hboss:(qD t (i+1):Int)=n.bY:=(nt.a.boss hk0).symm;unfold M.take;rw [nt.a.on,hm,hin,f1,f2,hne];simp only [zQV,zQk,if_false,zWZ,if_true];rw [if_neg hk2,if_pos hboss]
  have hush:∀ g,d3 p.fB=(ek g,true)->M.take t p.Ca n d p=⟨yJ n,[]⟩:=λg hm=>by
   rw [hdown _ hm (by exact (by decide:(4:Int)≠2))];rfl
  have stay:oT t (r+1) (i+1)=pJ t r (i+1)->M.NdE t cf new (r+1) (i+1) (yJ n)/\Md new cf.ar (oT t (r+1) (i+1)) d:=λe =>
   ⟨Ym nt rfl rfl (e ▸ ⟨nt.a.on,nt.a.boss,nt.a.p,nt.a.mi,nt.a.man,nt.a.bld,nt.a.kd⟩),e ▸ dt⟩
  by_cases h0:pJ t r (qD t (i+1))=0
  ·rw [if_pos h0] at f3;refine ⟨yJ n,hush 0 f3,stay ?_⟩;rw [hph]
   split
   ·rename_i hr;rw [(At hk0).2 hr]
   ·rfl
  ·rw [if_neg h0] at f3
   by_cases hr:r < M.dep t 7 (i+1)
   ·rw [if_pos hr] at f3;rw [if_pos hr,if_neg h0] at hph;have hp0:n.aR=0:=by rw [nt.a.p]; exact (At hk0).2 hr
    have dq:=dt;rw [(At hk0).2 hr] at dq;obtain ⟨k0,kp⟩:=dq.2 rfl;have hrec:=(GX (old:=new) (by have:=hc.l; omega) k0 (by rw [kp]; simp) (by rw [kp]; simp)).2;have mo:=u2 1 hc.b cf.ar;rw [u7 hc.s rfl] at mo;refine ⟨⟨n.lu,n.bY,0,M.man 1 new cf.ar,UU new cf.ar,1,n.aX,n.bE⟩,?_,Ym nt rfl rfl ?_,?_⟩
    ·rw [hdown _ f3 (by exact (by decide:(1:Int)≠2))];unfold kC;rw [if_pos (show (iK (M.man 1 new cf.ar)).bG=1 from rfl)];unfold pH;rw [if_pos (show (yJ n).aR=0 from hp0)];have e1:(iK (M.man 1 new cf.ar)).aB=M.man 1 new cf.ar:=rfl;rw [e1,mo,hrec];rfl
    ·rw [hph];exact ⟨nt.a.on,nt.a.boss,rfl,λe=>absurd e Qh,λ_=>rfl,λ_=>rfl,nt.a.kd⟩
    ·rw [hph];exact ⟨.gather k0 kp,λe=>absurd e Qh⟩
   ·rw [if_neg hr] at f3;refine ⟨yJ n,hush 1 f3,stay ?_⟩;rw [hph,if_neg hr]
 have e:gr w 0=⟨w.fC,w.fT,w.cG,w.ct,w.fN.set (i+1) x,w.fD,ps,w.fO,w.cQ⟩:=by
  unfold gr;rw [hnet0];dsimp only;unfold B7;have hb':p.Ca.toNat=i+1:=by rw [f2]; rfl
  rw [hb'];have hn':(yK w 0).fN[i+1]?=some n:=hn;have hd':(yK w 0).fD[i+1]?=some d:=hd;rw [hn',hd'];dsimp only;have ht':(yK w 0).fT=t:=ht;rw [ht',hx,ZN];have hp0:w.cr.take 0++w.cr.drop (0+1)=ps:=by rw [e0]; rfl
  show World.mk _ _ _ _ _ _ (w.cr.take 0++w.cr.drop (0+1)) _ _=_;rw [hp0];rfl
 rw [e] at hwf ⊢;refine ⟨⟨h.c.fc,ht,h.c.fn,h.c.old,h.c.ol,h.c.log,hwf⟩,λj y hj hy=>?_,λj y hj hy=>?_,λj y h1 h2 hy=>?_,λj y h1 h2 hy=>h.dhi j y h1 ak hy,?_,λq y hy=>?_⟩
 ·rcases q7 hy with ⟨e1,rfl⟩ | ⟨e1,hy⟩
  ·subst e1; exact hxE
  ·exact h.lo j y ak hy
 ·rcases q7 hy with ⟨e1,rfl⟩ | ⟨e1,hy⟩
  ·omega
  ·exact h.hi j y ak hy
 ·by_cases hj:j=i+1
  ·subst hj;have hy:w.fD[i+1]?=some y:=hy;rw [hd] at hy
   cases hy
   exact hxD
  ·exact h.dlo j y h1 ak hy
 ·show ps.length+(i+1)+1=_;rw [e0] at hlen;simp only [zQw] at hlen;omega
 ·have:=h.net (q+1) y (by rw [e0]; simpa using hy);rwa [show i+(q+1)+1=i+1+q+1 by omega] at this
theorem VB{f:Nat}{w:World}(h:w.cr.length≠0):uK (f+1) w=uK f (gr w 0):=by
 show (if w.cr.length=0 then w else _)=_;rw [if_neg h]
theorem Yn{w:World}(h:w.cr.length=0):∀ f,uK f w=w
 | 0=>rfl
 | f+1=>by
  show (if w.cr.length=0 then w else _)=w;rw [if_pos h]
theorem Yo{t:bl}{cf:dV}{new:List Int}(hc:M.Cal t cf new){r:Nat}:∀ (m i f:Nat) (w:World),i+m+1=t.bC.length->M.S2 t cf new r i w->∃ w',uK (f+m) w=uK f w'/\M.S2 t cf new r (t.bC.length - 1) w'
 | 0,i,f,w,h1,h=>⟨w,rfl,by rwa [show t.bC.length - 1=i by omega]⟩
 | m+1,i,f,w,h1,h=>by
  obtain ⟨a,b⟩:=ZB hc ak h;obtain ⟨w',e,h'⟩:=Yo hc m (i+1) f _ ak b;exact ⟨w',by rw [<- zZX,VB a,e],h'⟩
theorem Yp{t:bl}{cf:dV}{new:List Int}(hc:M.Cal t cf new){r:Nat}:∀ (m i f:Nat) (w:World),i+m+1=t.bC.length->M.S3 t cf new r i w->∃ w',uK (f+m) w=uK f w'/\M.S3 t cf new r (t.bC.length - 1) w'
 | 0,i,f,w,h1,h=>⟨w,rfl,by rwa [show t.bC.length - 1=i by omega]⟩
 | m+1,i,f,w,h1,h=>by
  obtain ⟨a,b⟩:=ZC hc ak h;obtain ⟨w',e,h'⟩:=Yp hc m (i+1) f _ ak b;exact ⟨w',by rw [<- zZX,VB a,e],h'⟩
structure M.SI (t:bl) (cf:dV) (new:List Int) (r:Nat) (w:World):Prop where
 c:M.Cst t cf new w
 nd:∀ j n,w.fN[j]?=some n->M.NdE t cf new r j n
 dk:∀ j d,1<=j->w.fD[j]?=some d->Md new cf.ar (oT t r j) d
 net:w.cr.length=0
theorem Yq{t:bl}{cf:dV}{new:List Int}(hc:M.Cal t cf new){r:Nat}{w:World}(h:M.SI t cf new r w):M.SI t cf new (r+1) (A9 w):=by
 have h7:=oH hc.t;have hN:=h.c.wf.nl;rw [h.c.ft] at hN;have s1:M.S1 t cf new r 0 w:=⟨h.c,λj n hj=>by omega,λj n _ hn=>h.nd j n hn,λj d _ hj=>by omega,λj d h1 _ hd=>h.dk j d h1 hd,h.net,λi p hp=>by rw [zXK (by rw [h.net]; omega)] at hp; cases hp⟩;have s2:=Yk hc (Yj hc t.bC.length 0 w ak s1);obtain ⟨w2,e2,s2'⟩:=Yo hc (t.bC.length - 1) 0 (6000 - (t.bC.length - 1)) _ ak s2;obtain ⟨w3,e3,s3⟩:=Yp hc (t.bC.length - 1) 0 (6000 - (t.bC.length - 1) - (t.bC.length - 1)) _ ak (Yl hc s2');have hl3:=s3.len;have hn3:w3.cr.length=0:=by omega
 have e:A9 w=w3:=by
  unfold A9;rw [hN];rw [show (6000:Nat) - (t.bC.length - 1)+(t.bC.length - 1)=6000 by omega] at e2;rw [show (6000:Nat) - (t.bC.length - 1) - (t.bC.length - 1)+(t.bC.length - 1)=6000 - (t.bC.length - 1) by omega] at e3;rw [e2,e3,Yn hn3]
 rw [e];have hN3:=s3.c.wf.nl;have hD3:=s3.c.wf.dl;rw [s3.c.ft] at hN3 hD3;exact ⟨s3.c,λj n hn=>s3.lo j n (by have:=(sr.1 hn).1; omega) hn,λj d h1 hd=>s3.dlo j d h1 (by have:=(sr.1 hd).1; omega) hd,hn3⟩
def Ez:Nat->World->World
 | 0,w=>w
 | n+1,w=>Ez n (A9 w)
theorem Qe{t:bl}{cf:dV}{new:List Int}(hc:M.Cal t cf new):∀ (n r:Nat) (w:World),M.SI t cf new r w->M.SI t cf new (r+n) (Ez n w)
 | 0,r,w,h=>h
 | n+1,r,w,h=>by
  have:=Qe hc n (r+1) (A9 w) (Yq hc h);rwa [show r+1+n=r+(n+1) by omega] at this
theorem RB(m:af):lL m m=true:=by
 unfold lL;simp [P9]
theorem qav{t:bl}(h:cY t=true){k:Nat}(h1:1<=k)(hk:k < t.bC.length):FO t (qD t k:Int) k=true:=by
 obtain ⟨p1,p2⟩:=FU h h1 hk;have w1:ah (k:Int) 0 ((t.bC.length:Int) - 1)=true:=by unfold ah; simp; omega
 have w2:ah (qD t k:Int) 0 ((t.bC.length:Int) - 1)=true:=by unfold ah; simp; omega
 unfold FO Ef;obtain ⟨m,hm⟩:∃ m,t.bC.length=m+2:=⟨t.bC.length - 2,by omega⟩;have hne:((qD t k:Int) != (k:Int))=true:=by simp; omega
 rw [hne,hm];unfold kv;rw [w1,if_pos rfl];unfold kv;rw [rg,p2,zYG,w2,if_pos rfl];simp
theorem Tp{t:bl}(h:cY t=true){k:Nat}(h1:1<=k)(hk:k < t.bC.length):kD t k=⟨true,(qD t k:Int),0,⟨0,0,0,[]⟩,⟨0,[]⟩,0,[],0⟩:=by
 have w1:ah (k:Int) 1 ((t.bC.length:Int) - 1)=true:=by unfold ah; simp; omega
 unfold kD;rw [h,w1,rg,(FU h h1 hk).2];rfl
theorem ZD{w:World}(h:M.NewW w):B9 w=true:=by
 have ht:=h.d.wf.t;have h7:=oH ht;have hn:=h.d.wf.nl;have hd:=h.d.wf.dl;have ho:=h.d.ol;have olds:pI w.ct w.fT.bC.length=true:=by
  unfold pI;simp only [sk,zYJ];refine ⟨λx hx=>?_,by simp [ho]⟩;have:=(h.d.old x hx).1;simp; omega
 have nodes:gO (xZ w) w.fN 0=true:=by
  have:∀ (l:List aD) (i:Nat),l=w.fN.drop i->gO (xZ w) l i=true:=by
   intro l
   induction l with
   | nil=>intro i _; rfl
   | cons n l ih =>
    intro i hl;have hi:w.fN[i]?=some n:=by
     have:=congrArg (λl=>l[0]?) hl
     simpa using this.symm
    have hlt:=(sr.1 hi).1;have hl2:l=w.fN.drop (i+1):=by
     have:=congrArg (List.drop 1) hl
     simpa using this
    unfold gO;rw [ih (i+1) hl2,zYX];have hdi:w.fD[i]?=some (w.fD[i]'ak):=sX _;have hoi:w.ct[i]?=some (w.ct[i]'ak):=sX _;generalize w.fD[i]'ak=d at hdi;generalize w.ct[i]'ak=o at hoi;have hdd:=h.disk i d o hdi hoi;have hol:=(h.d.old o (zQY hoi)).1;have k0:M.K0 o.fB d:=by rw [hdd]; exact ⟨rfl,rfl,by simp⟩
    have kr:=GX hol k0 (by rw [hdd]; simp) (by rw [hdd]; simp);have kp:d.fP=[]:=by rw [hdd]
    have w1:ah (i:Int) 0 ((w.fT.bC.length:Int) - 1)=true:=by unfold ah; simp; omega
    have hh:=S8 kr.2;unfold xZ;rw [hdi,hoi];dsimp only;rw [kr.1,zYX]
    by_cases h0:i=0
    ·subst h0;have e:=h.root n hi;have hs:=h.s;have mo:=u2 1 h.d.new.2 w.fC.ar;have hw:uw (eX 1 w.cG w.fC.ar) (eP (eX 1 w.cG w.fC.ar) w.cG)=true:=by
      rw [u7 hs rfl] at mo ⊢;rw [Ey h.d.new.2 hs mo];exact Ov h.d.new.2 hs rfl mo
     subst e;unfold tX Rw J3 Ap sL;simp only [ht,w1,hh,kp,hw,if_true,zYX,zWX];simp [tU,gO,ah,RB]
    ·have e:=h.node i n h0 hi;rw [Tp ht ak ak] at e;have ha:=qav ht (k:=i) ak ak;subst e;have hi0:¬ ((i:Int)=0):=by omega
     unfold tX Rw J3 Ao;simp only [ht,w1,hh,kp,ha,if_true,zYX,zWX,if_neg hi0,if_neg h0];simp [tU,gO,M.idle,lM,h0]
  exact this w.fN 0 kU
 unfold B9;rw [h.c,ht,h.s,olds,nodes,h.net,h.log,h.lost,hn,hd];simp
theorem VC{f:Nat->Int}:∀ n:Nat,(∀ i,i < n->f i=0)->M.S n f=0
 | 0,_=>rfl
 | n+1,h=>by
  show M.S n f+f n=0;rw [VC n λi hi=>h i ak,h n ak];rfl
theorem RC{b:List Int}{size:Int}(hs:cO size b.length=true):jI b (M.man 1 b size)=0:=by
 rw [Wm];refine VC 40 λi _=>?_;rw [if_neg];intro hc;simp only [sk,decide_eq_true_eq,beq_iff_eq] at hc;have hi:i < (bg size b.length).toNat:=by have:=Iv (b:=b) (size:=size) (g:=1); omega
 have:=GW (g:=1) (J8 hs hi) hi;unfold NI at hc;simp [this] at hc
theorem KT{w:World}:∀ (m i:Nat) (a:Int),(∀ k:Nat,wu w k=0)->Mr w m i a=a
 | 0,_,_,_=>rfl
 | m+1,i,a,h=>by
  unfold Mr;rw [h i,KT m (i+1) _ h];omega
theorem qaw{w:World}(h:M.NewW w)(ho:∀ o∈w.ct,o.fB=w.cG):M.Cal w.fT w.fC w.cG/\M.SI w.fT w.fC w.cG 0 w:=by
 have ht:=h.d.wf.t;have h7:=oH ht;have hn:=h.d.wf.nl;have hd:=h.d.wf.dl;have hol:=h.d.ol;have hcal:M.Cal w.fT w.fC w.cG:=⟨ht,h.c,h.s,h.d.new.2,h.d.new.1⟩;refine ⟨hcal,⟨rfl,rfl,rfl,ho,hol,h.log,h.d.wf⟩,λj n hj=>?_,λj d h1 hj=>?_,by rw [h.net]; rfl⟩
 ·have hlt:=(sr.1 hj).1
  by_cases h0:j=0
  ·subst h0;have e:=h.root n hj;rw [u7 h.s rfl] at e;subst e;exact ⟨⟨rfl,λhh=>absurd rfl hh,rfl,λe=>absurd e (show ¬ ((6:Int)=0) by decide),λ_=>rfl,λ_=>rfl,λx hx=>by cases hx⟩,λhh=>absurd rfl hh,λhr=>by omega⟩
  ·have e:=h.node j n h0 hj;rw [Tp ht ak ak] at e;have hp:oT w.fT 0 j=0:=(yb h0).2 qaG;subst e;exact ⟨⟨rfl,λ_=>rfl,hp.symm,λ_=>rfl,λhh=>absurd hp hh,λhh=>absurd hp hh,λx hx=>by cases hx⟩,λ_=>rfl,λhr=>by omega⟩
 ·have hlt:=(sr.1 hj).1;have hp:oT w.fT 0 j=0:=(yb ak).2 qaG;have hoi:w.ct[j]?=some (w.ct[j]'ak):=sX _;have hdd:=h.disk j d _ hj hoi;rw [ho _ (zYH _)] at hdd;have k0:M.K0 w.cG d:=by rw [hdd]; exact ⟨rfl,rfl,by simp⟩
  have kp:d.fP=[]:=by rw [hdd]
  rw [hp];exact ⟨.idle k0 kp,λ_=>⟨k0,kp⟩⟩
theorem qax{t:bl}{cf:dV}{new:List Int}(hc:M.Cal t cf new){r:Nat}{w:World}(h:M.SI t cf new r w)(hr:2*t.bC.length+3<=r) :
  (∀ k:Nat,1<=k->k < t.bC.length->pG w k=1)/\(∀ k:Nat,1<=k->k < t.bC.length->(qi w).any (λy=>y == (k:Int))=true):=by
 have h7:=oH hc.t;have hN:=h.c.wf.nl;have hD:=h.c.wf.dl;have hO:=h.c.ol;rw [h.c.ft] at hN hD;refine ⟨λk h1 hk=>?_,λk h1 hk=>?_⟩
 ·have hdi:w.fD[k]?=some (w.fD[k]'ak):=sX _;have hoi:w.ct[k]?=some (w.ct[k]'ak):=sX _;have hq:=h.dk k _ h1 hdi;have hdep:=US hc.t 7 k hk;have hp:oT t r k=5:=by
   unfold oT;rw [if_neg ak,if_neg ak];omega
  rw [hp] at hq;generalize w.fD[k]'ak=d at hdi hq;generalize w.ct[k]'ak=o at hoi;have hrec:eI d=(1,new):=by
   obtain ⟨hds,_⟩:=hq;generalize hph:(5:Int)=ph at hds
   cases hds <;> first | omega | exact (Ow (by have:=hc.l; omega) (by assumption)).2
  have w1:ah (k:Int) 0 ((w.fD.length:Int) - 1)=true:=by unfold ah; simp; omega
  have w2:ah (k:Int) 0 ((w.ct.length:Int) - 1)=true:=by unfold ah; simp; omega
  have e1:M.holds d 0 o.fB=false:=by unfold M.holds; rw [hrec]; rfl
  have e2:M.holds d 1 w.cG=true:=by rw [h.c.fn]; exact S8 hrec
  unfold pG;rw [w1,w2,rg,hdi,hoi];simp only [zWZ,if_true];rw [e1,e2];rfl
 ·have hdep:=US hc.t 7 k hk;have hup:=dep_up hc.t h1 hk;have had:=Yb hc.t hk (M.dep t 7 k - 1) ak;have hal:=Vy hc.t hk (M.dep t 7 k - 1);have hc1:1<=Dn t (M.dep t 7 k - 1) k:=by
   rcases zYY (Dn t (M.dep t 7 k - 1) k) with e | e
   ·rw [e] at had;have:M.dep t 7 0=0:=rfl;omega
   ·exact e
  have hpa:qD t (Dn t (M.dep t 7 k - 1) k)=0:=by
   have hu:=dep_up hc.t hc1 ak;exact Yc hc.t (by have:=(FU hc.t hc1 ak).1; omega) ak
  have hni:w.fN[0]?=some (w.fN[0]'ak):=sX _;obtain ⟨x,hx,_,_,hb⟩:=(h.nd 0 _ hni).kids ak _ hc1 ak hpa;have hin:=hb.2 k _ hk rfl ak;have hd:=Ox (w.fN[0]'ak).aX 0 k rfl (.inr ⟨x,hx,hin⟩);have hm:(k:Int)∈qi w:=by
   unfold qi;have:w.fN=w.fN[0]'ak :: w.fN.drop 1:=by
    have:=zXq (l:=w.fN) (i:=0) ak
    simpa using this
   rw [this];show (k:Int)∈gn (sK (w.fN[0]'ak).aX 0);rw [GQ];refine List.mem_map.2 ⟨k,List.mem_filter.2 ⟨List.mem_range'_1.2 ak,hd⟩,rfl⟩
  exact List.any_eq_true.2 ⟨_,hm,by simp⟩
theorem ZE{w:World}(h:M.DrW w):M.WIn w:=by
 have h7:=Er h.wf;have hn:=h.wf.nl;have hd:=h.wf.dl;have hl:=h.wf.len;have ho:=h.ol;have hnew:=h.new.1;refine ⟨⟨h.new.2,by omega,by omega,λx hx=>⟨(h.old x hx).2,by have:=(h.old x hx).1; omega⟩⟩,by omega,by omega,by omega,by omega,λn hx=>?_,λd hx=>?_⟩
 ·obtain ⟨j,hj⟩:=aac.1 hx;have g:=h.wf.nodes j n hj;exact ⟨g.w.s,g.w.b,by have:=J2 g.s; omega⟩
 ·obtain ⟨j,hj⟩:=aac.1 hx;exact (h.wf.disks j d hj).o
theorem WM{u:Nat}(hu:1099511627776<=u){m:af}{b:List Int}(hb:sV 16 b)(mo:dp m=true)(hs:m.aG.length<=40)(hg:m.aM≠0)(ht:ld m b=true):qM u m b=some ⟨true,-1,0,m,eP m b,6,[],0⟩:=by
 have hl:=hb.1;have e:(m.aM == 0)=false:=by simpa using hg
 unfold qM pc;rw [e,mN hu m ak,mo,FQ hu m hb.2 ak,ht,yI u ak,A6 hu ak hb.2 ak];rfl
theorem Kb{u:Nat}(hu:1099511627776<=u){c:dV}(hc:my c=true){t:bl}(ht:Ew t){b:List Int}(hb:sV 16 b)(hs:cO c.ar (b.length:Int)=true){old:List aL}(ho:old.length=t.bC.length)(hol:∀ x∈old,sV 240 x.fB):Ev (tv u c t b old) λw=>M.NewW w/\w.ct=old/\w.cG=b:=by
 have t1:=ht.2.1;have t2:=ht.2.2;have b1:=hb.1;have hoo:pI old (t.bC.length:Int)=true:=by
  unfold pI;simp only [sk];refine ⟨KB.2 λx hx=>?_,by simp [ho]⟩;have:=(hol x hx).1;simp;omega
 have ht1:ld (eX 1 b c.ar) b=true:=KP hs Qh;have hg1:(eX 1 b c.ar).aM≠0:=by rw [u7 hs Qh]; show (1:Int)≠0; decide
 have hr1:=WM hu hb (u2 1 hb.2 c.ar) (JL 1 b c.ar) hg1 ht1;obtain ⟨_,hr2⟩:=KQ hu t (Ta (u:=u) hb 1 c.ar) hg1 ht1;have loop:∀ (m k i:Nat) (ns:List aD) (ds:List aA),i+m=t.bC.length->m < k->ns.length=i->ds.length=i ->
   (∀ (j:Nat) (n:aD),ns[j]?=some n->n=if j=0 then ⟨true,-1,0,eX 1 b c.ar,eP (eX 1 b c.ar) b,6,[],0⟩ else kD t j)->(∀ (j:Nat) (d:aA),ds[j]?=some d->∃ o,old[j]?=some o/\d=⟨o.fB,[],⟨0,0,o.fB.length⟩,[]⟩) ->
   Ev (eG u k b old t (i:Int) c ns ds) λw=>M.NewW w/\w.ct=old/\w.cG=b:=by
  intro m
  induction m with
  | zero =>
   intro k i ns ds hi hk h1 h2 h3 h4;obtain ⟨k,rfl⟩:∃ j,k=j+1:=⟨k - 1,by omega⟩;unfold eG;have:¬ (i:Int) < (t.bC.length:Int):=by omega
   simp only [this,decide_false,cond_false,sj];have hN:M.NewW ⟨c,t,b,old,ns,ds,[],[],0⟩:=by
    refine ⟨⟨⟨ht.1,by show ns.length=t.bC.length; omega,by show ds.length=t.bC.length; omega,λj n hn=>?_,λj d hd=>?_,λp hp=>by simp at hp,by simp⟩,ho,hol,hb,by simp⟩,rfl,rfl,rfl,hc,hs,λn hn=>by simpa using h3 0 n hn,λj n h0 hn=>(h3 j n hn).trans (if_neg h0),λj d o hd ho'=>?_⟩
    ·have e:=h3 j n hn
     by_cases h0:j=0
     ·subst h0;rw [e,if_pos rfl];exact hr2
     ·rw [e,if_neg h0];exact Vv ht.1 ak (by have:=(sr.1 hn).1; have:j < ns.length:=this; omega)
    ·obtain ⟨o,h5,h6⟩:=h4 j d hd;rw [h6];exact X1 (hol o (zQY h5))
    ·obtain ⟨o',h5,h6⟩:=h4 j d hd;have ho':old[j]?=some o:=ho';rw [h5] at ho'
     cases ho'
     exact h6
   rw [Bb hu (X4 hN.d)];exact ⟨_,rfl,hN,rfl,rfl⟩
  | succ m ih =>
   intro k i ns ds hi hk h1 h2 h3 h4;obtain ⟨k,rfl⟩:∃ j,k=j+1:=⟨k - 1,by omega⟩;unfold eG;have hlt:(i:Int) < (t.bC.length:Int):=by omega
   simp only [hlt,decide_true,cond_true];have step:∀ n:aD,(n=if i=0 then ⟨true,-1,0,eX 1 b c.ar,eP (eX 1 b c.ar) b,6,[],0⟩ else kD t i)->Ev (kj u (λz0 z1 z2 z3 z4 z5 z6=>eG u k z0 z1 z2 z3 z4 z5 z6) b old (i:Int) t c ns ds n.lu n.bY n.bM n.aB.aM n.aB.ar n.aB.aU n.aB.aG n.bw.bj n.bw.cu n.aR n.aX n.bE) λw=>M.NewW w/\w.ct=old/\w.cG=b:=by
    intro n hn;unfold kj;obtain ⟨x,hx⟩:∃ x,old[i]?=some x:=⟨_,sX ak⟩;have hxl:=(hol x (zQY hx)).1;refine Eu lv (u6 (Vl old i hx) (u6 (Mc (g:=0) Qh Qh hxl) (Eu lv ?_)));rw [fv (show i < 9223372036854775807 by omega)];refine ih k (i+1) _ _ ak ak (by simp [h1]) (by simp [h2]) (λj n' hj=>?_) (λj d' hj=>?_)
    ·by_cases hji:j < ns.length
     ·rw [zQQ hji] at hj;exact h3 j n' hj
     ·rw [r0 ak] at hj
      cases hq:j - ns.length with
      | zero =>
       rw [hq] at hj;simp only [zQh,Option.some.injEq] at hj;have:j=i:=by omega
       subst this hj;exact hn
      | succ q=>rw [hq] at hj; simp at hj
    ·by_cases hji:j < ds.length
     ·rw [zQQ hji] at hj;exact h4 j d' hj
     ·rw [r0 ak] at hj
      cases hq:j - ds.length with
      | zero =>
       rw [hq] at hj;simp only [zQh,Option.some.injEq] at hj;have:j=i:=by omega
       subst this;exact ⟨x,hx,hj.symm⟩
      | succ q=>rw [hq] at hj; simp at hj
   refine u6 (J7 hu ak _) ?_
   cases i with
   | zero =>
    refine wA (λ_=>?_) (λe=>by simp at e);exact u6 (FH hu hb.2 ak 1 c.ar) (u6 hr1 (step _ rfl))
   | succ i =>
    refine wA (λe=>?_) (λ_=>step _ kU);simp at e;omega
 unfold tv;refine u6 (Et u c) ?_;rw [hc];refine wA (λe=>by cases e) λ_=>u6 (rN hu ak) ?_;rw [ht.1];refine wA (λe=>by cases e) λ_=>u6 (pE u _ _) ?_;rw [hs];refine wA (λe=>by cases e) λ_=>u6 (Ba hu ak _) ?_;rw [hoo];unfold mR;refine wA (λe=>by cases e) λ_=>?_;exact loop t.bC.length u 0 [] [] ak ak rfl rfl (λj n h=>by simp at h) (λj n h=>by simp at h)
theorem FV{u:Nat}(hu:1099511627776<=u){p1:Int}(hp:p1<=500):∀ (m i f:Nat) (w:World),M.WWf w->(i:Int)+m=p1->m < f ->
  jF u f p1 (i:Int) w.fC.ar w.fC.ba w.fC.aW w.fC.aZ w.fT.bC w.cG w.ct w.fN w.fD w.cr w.fO w.cQ=some (Ez m w)
 | 0,i,f,w,h,h1,h2=>by
  obtain ⟨f,rfl⟩:∃ g,f=g+1:=⟨f - 1,by omega⟩;have e:decide ((i:Int) < p1)=false:=by simp; omega
  unfold jF;rw [e];rfl
 | m+1,i,f,w,h,h1,h2=>by
  obtain ⟨f,rfl⟩:∃ g,f=g+1:=⟨f - 1,by omega⟩;have e:decide ((i:Int) < p1)=true:=by simp; omega
  have ea:aV .i64 (i:Int) 1=((i+1:Nat):Int):=by rw [dC ak ak]; rfl
  have ih:=FV hu hp m (i+1) f (A9 w) (WC h) ak ak;unfold jF;rw [e];simp only [cond_true];rw [show (World.mk (dV.mk w.fC.ar w.fC.ba w.fC.aW w.fC.aZ) (bl.mk w.fT.bC) w.cG w.ct w.fN w.fD w.cr w.fO w.cQ)=w from rfl,Pg hu h,ea];exact ih
theorem OA{u:Nat}(hu:1099511627776<=u){w:World}(h:M.DrW w)(ho:B9 w=true){n:Nat}(hn:n<=500):xL u w n=some (Ez n w):=by
 have hw:ah (n:Int) 0 500=true:=by unfold ah; simp; omega
 unfold xL vT;rw [Bb hu (X4 h),Mb hu (ZE h),ho,bk,hw];simp only [wk,cond_true];exact FV hu ak n 0 u w h.wf ak ak
theorem RD{u:Nat}{w:World}(hc:my w.fC=true)(hN:1<=w.fN.length/\w.fN.length<=7)(hl:w.cG.length<=16)(hs:cO w.fC.ar w.cG.length=true):∃ n:Nat,ro u w=some (n:Int)/\n<=500/\2*w.fN.length+3<=n:=by
 have hp:=GY hc;have hz:=oE hs;have hb:0<=bg w.fC.ar w.cG.length/\bg w.fC.ar w.cG.length<=8:=by
  have:=(blocks_range w.fC.ar w.cG.length).1;refine ⟨this,?_⟩;unfold bg;rw [hs,if_pos rfl];have:((w.cG.length:Int)+w.fC.ar - 1) / w.fC.ar < 9:=Int.ediv_lt_of_lt_mul ak ak;omega
 have hd:0<=qR (bg w.fC.ar w.cG.length) w.fC.ba/\qR (bg w.fC.ar w.cG.length) w.fC.ba<=8:=by
  generalize bg w.fC.ar w.cG.length=x at *;generalize w.fC.ba=y at *;unfold qR
  split
  ·refine ⟨Int.ediv_nonneg ak ak,?_⟩;have:(x+y - 1) / y < 9:=Int.ediv_lt_of_lt_mul ak ak;omega
  ·omega
 unfold ro;rw [pF,wk,C0,wk];generalize qR (bg w.fC.ar w.cG.length) w.fC.ba=d at *;generalize hS:w.fC.aW=s at *;obtain ⟨k,hk⟩:∃ k:Nat,w.fN.length=k:=⟨_,rfl⟩;rw [hk] at hN ⊢;obtain ⟨e,he⟩:∃ e:Nat,s+4+d=e:=⟨(s+4+d).toNat,by omega⟩;have hm:(k:Int)*(e:Int)=((k*e:Nat):Int):=by simp
 have h1:k*e<=7*17:=Nat.mul_le_mul hN.2 ak;have h2:k*5<=k*e:=Nat.mul_le_mul_left _ ak;rw [dC (a:=s) ak ak,dC (a:=s+4) ak ak,he,kg (by rw [hm]; omega) (by rw [hm]; omega),hm,dC ak ak];exact ⟨k*e+8,by simp,by omega,by omega⟩
theorem Yr{u:Nat}(hu:1099511627776<=u){w:World}(h:M.NewW w)(ho:∀ o∈w.ct,o.fB=w.cG):∃ x,xM u w=some x/\tK u x=some true/\x.fO=[]/\vX u x=some 0:=by
 obtain ⟨hcal,si0⟩:=qaw h ho;have h7:=oH h.d.wf.t;have hnl:=h.d.wf.nl;obtain ⟨n,e1,n1,n2⟩:=RD (u:=u) h.c ak h.d.new.1 h.s;have si:=Qe hcal n 0 w si0;rw [zQg] at si;obtain ⟨st,rp⟩:=qax hcal si ak;generalize hx:Ez n w=x at *;have hN:=si.c.wf.nl;have hD:=si.c.wf.dl;have hO:=si.c.ol;rw [si.c.ft] at hN hD;have ndok:M.NdOk x:=⟨by rw [si.c.fn]; exact hcal.b,by rw [si.c.fn]; have:=hcal.l; omega,by omega,λo hx=>by rw [si.c.old o hx]; exact ⟨hcal.b,by have:=hcal.l; omega⟩⟩;have stok:M.StOk x:=⟨⟨by omega,by omega,λd hd=>by obtain ⟨j,hj⟩:=aac.1 hd; exact (si.c.wf.disks j d hj).o⟩,by omega⟩;have nok:PP x.fN:=λy hy=>by
  obtain ⟨j,hj⟩:=aac.1 hy;have g:=si.c.wf.nodes j y hj;exact ⟨g.w.s,by have:=J2 g.s; omega⟩
 refine ⟨x,?_,?_,si.c.log,?_⟩
 ·unfold xM;rw [e1,wk,OA hu h.d (ZD h) n1,hx];rfl
 ·have hgap:XJ x (qi x)=false:=by
   rw [<- SE];rw [List.any_eq_false];intro k hk;unfold D5 at hk;obtain ⟨j,hj,rfl⟩:=List.mem_map.1 hk;have hj2:=List.mem_range'_1.1 (List.mem_filter.1 hj).1
   by_cases h0:j=0
   ·subst h0; simp
   ·rw [rp j ak ak]; simp
  have hlate:D6 x=[]:=by
   unfold D6;rw [List.map_eq_nil_iff,List.filter_eq_nil_iff];intro k hk;have:=List.mem_range'_1.1 hk;rw [st k ak ak];simp
  have hall:NO x=true:=by unfold NO; rw [hlate]; rfl
  have hrest:vV u x=some true:=by unfold vV; rw [si.net]; rfl
  have hr:=LT x;have hl:=Kw x;unfold tK dP d6;rw [JM hu nok,NP hu stok,hall,hrest,H8 hu ak];simp only [wk,cond_true];rw [nI u _ _ () u ak ak,lq (λk=>decide (k > 0) && !((qi x).any λy=>y == k)) rfl (λy i k hx=>by unfold ia; rw [GI hu ak]; rfl)];simp only [wk,pT,SE];rw [hgap];rfl
 ·have hz:∀ k:Nat,wu x k=0:=λk=>by
   unfold wu
   split
   ·rename_i hk
    cases hq:x.ct[((k:Int)).toNat]? with
    | none=>rfl
    | some o =>
     dsimp only;rw [si.c.old o (zQY hq)];unfold sL;rw [si.c.fn,si.c.fc,u7 hcal.s rfl];exact RC hcal.s
   ·rfl
  unfold vX;have:=NQ hu ndok (x.ct.length - 1) 1 u 0 ak ak ak ak;rw [show ((1:Nat):Int)=1 from rfl] at this;rw [this,KT _ _ _ hz]
theorem Qf{u:Nat}{r2:World×Int}(hN:r2.1.fN.length<=1048576):∀ (m i f:Nat) (xs:List aL),i+m=r2.1.fN.length->m < f->xs=zQZ i ⟨r2.1.cG⟩->fe u f xs (i:Int) r2=ms u (zQZ r2.1.fN.length ⟨r2.1.cG⟩) r2
 | 0,i,f,xs,h1,h2,h3=>by
  obtain ⟨f,rfl⟩:∃ g,f=g+1:=⟨f - 1,by omega⟩;have e:decide ((i:Int) < (r2.1.fN.length:Int))=false:=by simp; omega
  unfold fe;rw [e,h3,<- h1];rfl
 | m+1,i,f,xs,h1,h2,h3=>by
  obtain ⟨f,rfl⟩:∃ g,f=g+1:=⟨f - 1,by omega⟩;have e:decide ((i:Int) < (r2.1.fN.length:Int))=true:=by simp; omega
  have ea:aV .i64 (i:Int) 1=((i+1:Nat):Int):=by rw [dC ak ak]; rfl
  have hl:xs.length=i:=by rw [h3,zXz]
  unfold fe;rw [e,ea];simp only [cond_true];rw [b5 lv];exact Qf hN m (i+1) f _ ak ak (by rw [h3,List.replicate_succ'])
theorem Me{u:Nat}(hu:1099511627776<=u)(code:List Int):mX u code=some true:=by
 unfold mX G3;simp only [wk]
 cases hbig:decide ((code.length:Int) > 1048576) with
 | true=>rfl
 | false =>
  have hl:code.length<=1048576:=by simp at hbig; omega
  simp only [cond_false];obtain ⟨r,e2,hw⟩:Ev (tp u code) λv=>M.NewW v.1:=by
   unfold tp;obtain ⟨c,ec,hcu⟩:=XL hu hl;refine u6 ec ?_;exact qk (WH hu hcu) λv hv=>qk (Ar u hv.2 40) λk _=>E1 hv.1
  rw [e2,wk];have h7:=oH hw.d.wf.t;have hnl:=hw.d.wf.nl;have hnew:=hw.d.new.1;rw [show (0:Int)=((0:Nat):Int) from rfl,Qf ak r.1.fN.length 0 u [] ak ak rfl];unfold ms;have him:∀ x∈zQZ r.1.fN.length (⟨r.1.cG⟩:aL),x.fB=r.1.cG:=λx hx=>by
   rw [(List.mem_replicate.1 hx).2]
  obtain ⟨w,e3,hn,ho,hb⟩:=Kb hu hw.c (t:=r.1.fT) ⟨hw.d.wf.t,h7.1,h7.2⟩ hw.d.new hw.s (old:=zQZ r.1.fN.length ⟨r.1.cG⟩) (by simp [hnl]) λx hx=>by
   rw [him x hx];exact ⟨by omega,hw.d.new.2⟩
  rw [e3,wk];obtain ⟨x,e4,e5,e6,e7⟩:=Yr hu hn (λo hx=>by rw [hb]; exact him o (by rw [<- ho]; exact hx));rw [e4,wk,e5,wk,e6,e7];rfl
theorem Mf(p0:List Int)(h:MY (lh .u8) p0/\True):mX 1099511627776 p0=some true:=Me (zWJ _) p0
end Go.Tm.Pu
