/- Plain laws of the functions. -/
import Derived.Test.YtkomlmhelfnajaaGreatCFnExactUntilDoneD
set_option linter.unusedVariables false
set_option linter.unusedSimpArgs false
open Bool renaming and_eq_true->sk,and_self->zWj,and_true->zXq,eq_iff_iff->zXX,false_eq_true->zQw,not_false->zYJ,not_true->r0,true_and->zQg
open Int renaming add_mul->zVQ,ediv_ediv_of_nonneg->zYH,emod_nonneg->zVX,eq_ofNat_of_zero_le->zQQ,mul_comm->zZw,pow_succ->zXw,tmod_eq_emod_of_nonneg->zXZ,toNat->sY,toNat_natCast->rg
open List renaming all_cons->zYj,append_assoc->zQH,append_nil->zWY,cons_append->zXz,drop_eq_getElem_cons->zWh,drop_of_length_le->zYQ,drop_zero->zZG,getElem?_cons_zero->zWH,getElem?_drop->zQJ,getElem?_eq_getElem->sX,getElem?_map->zQk,getElem?_range->zYg,getElem?_set_self->zYW,getElem_mem->zZW,head?->zYY,head?_drop->zXW,length->zYZ,length_append->zQh,length_cons->zQq,length_drop->zZx,length_nil->zXj,length_singleton->zYx,length_take->zQz,map_append->zXh,map_congr_left->zWy,map_cons->zWk,mem_append->zWg,mem_of_getElem?->zQX,mem_of_mem_drop->zYv,mem_of_mem_take->zXK,mem_singleton->zWW,nil_append->zQy,range->zXY,replicate->zQV,singleton_append->zYX,tail->zYq,tail_drop->zXV,take_of_length_le->zXG
open Nat renaming add_zero->zXy,and_two_pow_sub_one_eq_mod->zZZ,le_refl->zWX,le_trans->zWV,min_eq_left->zWx,mul_le_mul_right->zQG,pow_le_pow_right->zXJ,zero_add->zWJ
open Option renaming bind_some->wk
open Go.IntKind renaming wrap->zm
open BitVec renaming ofInt->aaa
open List renaming getElem?_eq_some_iff->aab
open List renaming mem_append->aad
open List renaming all_eq_true->aaf
open List renaming mem_cons->aah
open BitVec renaming toNat_ofInt->aak
namespace Go.Tm.Pu
open Go.Tm
def aw(n a b:Int):Bool:=decide (a<=n) && decide (n<=b)
def fM(size n:Int):Bool:=aw size 2 6 && aw n 0 (40*size)
def cE(size n:Int):Int:=if fM size n then (n+size - 1) / size else 0
def cT(size n i:Int):Int×Int:=if aw i 0 (cE size n - 1) then (i*size,min size (n - i*size)) else (0,0)
theorem cd{n a b:Int}(h:aw n a b=true):a<=n/\n<=b:=by simpa [aw] using h
theorem qbR{n a b:Int}(h:aw n a b=false):n < a\/b < n:=by
 simp [aw] at h; omega
theorem bK(u:Nat)(n a b:Int):bN u n a b=some (aw n a b):=by
 unfold bN aw
 by_cases h:a<=n <;> simp [h]
theorem b5(u:Nat)(n a b:Int):bL u n a b=some (aw n a b):=by
 unfold bL aw
 by_cases h:a<=n <;> simp [h]
theorem uB(u:Nat)(s n:Int):pO u s n=some (fM s n):=by
 unfold pO fM;simp only [bK,wk]
 cases h:aw s 2 6 with
 | false=>simp
 | true =>
  have:=cd h;simp (disch:=omega) only [cond_true,zQg,lW]
theorem uC(u:Nat)(s n:Int):pL u s n=some (fM s n):=by
 unfold pL fM;simp only [b5,wk]
 cases h:aw s 2 6 with
 | false=>simp
 | true =>
  have:=cd h;simp (disch:=omega) only [cond_true,zQg,lW];rw [zZw]
theorem CB{s n:Int}(h:fM s n=true):2<=s/\s<=6/\0<=n/\n<=40*s:=by
 simp [fM,aw] at h; omega
def D5(a b:Int):Int:=if aw a 0 1000000000000 && aw b 1 1000000000000 then (a+b - 1) / b else 0
theorem T6(u:Nat)(a b:Int):zM u a b=some (D5 a b):=by
 unfold zM D5 xB;simp only [bK,wk]
 cases h:aw a 0 1000000000000 with
 | false=>simp
 | true =>
  cases h2:aw b 1 1000000000000 with
  | false=>simp
  | true =>
   have:=cd h;have:=cd h2;have hb:(b == 0)=false:=by simp; omega
   simp (disch:=omega) [de,dQ,cS,VO,hb]
theorem T7(u:Nat)(a b:Int):zj u a b=some (D5 a b):=by
 unfold zj D5 xg;simp only [b5,wk]
 cases h:aw a 0 1000000000000 with
 | false=>simp
 | true =>
  cases h2:aw b 1 1000000000000 with
  | false=>simp
  | true =>
   have:=cd h;have:=cd h2;have hb:(b == 0)=false:=by simp; omega
   simp (disch:=omega) [de,dQ,cS,VO,hb]
theorem SF{s n:Int}(h:fM s n=true):D5 n s=(n+s - 1) / s:=by
 have:=CB h;have h1:aw n 0 1000000000000=true:=by simp [aw]; omega
 have h2:aw s 1 1000000000000=true:=by simp [aw]; omega
 simp [D5,h1,h2]
theorem uD(u:Nat)(s n:Int):pP u s n=some (cE s n):=by
 unfold pP cE;simp only [uB,T6,wk]
 cases h:fM s n with
 | false=>simp
 | true=>simp [SF h]
theorem iW(u:Nat)(s n:Int):pM u s n=some (cE s n):=by
 unfold pM cE;simp only [uC,T7,wk]
 cases h:fM s n with
 | false=>simp
 | true=>simp [SF h]
theorem blocks_range(s n:Int):0<=cE s n/\cE s n<=40:=by
 unfold cE
 split
 ·rename_i h;have h:=CB h;refine ⟨Int.ediv_nonneg aD aD,?_⟩;have:(n+s - 1) / s < 41:=Int.ediv_lt_of_lt_mul aD aD;omega
 ·omega
theorem HL{s n i:Int}(h:aw i 0 (cE s n - 1)=true):fM s n=true/\0<=i/\i<=39:=by
 have h1:=cd h;have:=blocks_range s n;refine ⟨?_,by omega,by omega⟩
 cases h2:fM s n with
 | true=>rfl
 | false=>simp [cE,h2] at h1; omega
theorem HM{s i:Int}(h1:2<=s)(h2:s<=6)(h3:0<=i)(h4:i<=39):0<=i*s/\i*s<=234 :=
 ⟨Int.mul_nonneg h3 aD,Int.le_trans (Int.mul_le_mul h4 h2 aD aD) aD⟩
theorem rn(u:Nat)(s n i:Int):kC u s n i=some (cT s n i):=by
 unfold kC cT;have hb:=blocks_range s n;simp (disch:=omega) only [uD,bK,wk,cS]
 cases h:aw i 0 (cE s n - 1) with
 | false=>simp
 | true =>
  have ⟨h1,h2,h3⟩:=HL h;have h1:=CB h1;have h4:=HM (s:=s) (i:=i) aD aD h2 h3;simp (disch:=omega) [lW,cS];omega
theorem YH(u:Nat)(a b:Int):Ei u a b=some (min a b):=by
 unfold Ei
 by_cases h:b < a <;> simp [h] <;> omega
theorem lY(u:Nat)(s n i:Int):gG u s n i=some (cT s n i):=by
 unfold gG cT;have hb:=blocks_range s n;simp (disch:=omega) only [iW,b5,wk,cS]
 cases h:aw i 0 (cE s n - 1) with
 | false=>simp
 | true =>
  have ⟨h1,h2,h3⟩:=HL h;have h1:=CB h1;have h4:=HM (s:=s) (i:=i) aD aD h2 h3;simp (disch:=omega) [lW,cS,YH]
def aK(b:List Int):Prop:=∀ x∈b,0<=x/\x<=255
def vL:List Int->Int->Int->Int×Int
 | [],x,y=>(x,y)
 | c :: b,x,y=>vL b ((x+c) % 251) ((y+(x+c) % 251) % 251)
def cP(b:List Int):Int:=(vL b 0 0).1+251*(vL b 0 0).2
theorem Kb(b:List Int):∀ (x y:Int),0<=x->x < 251->0<=y->y < 251->0<=(vL b x y).1/\(vL b x y).1 < 251/\0<=(vL b x y).2/\(vL b x y).2 < 251:=by
 induction b with
 | nil=>intro x y h1 h2 h3 h4; exact ⟨h1,h2,h3,h4⟩
 | cons c b ih =>
  intro x y h1 h2 h3 h4;exact ih _ _ aD aD aD aD
theorem Iu(b:List Int):0<=cP b/\cP b<=63000:=by
 have:=Kb b 0 0 aD aD aD aD;unfold cP; omega
theorem YI(u:Nat):∀ (p b:List Int) (i:Nat) (x y:Int),aK b->0<=x->x < 251->0<=y->y < 251 ->
  bn (G0 u p) (A3 u p) b i (x,y)=tJ u (vL b x y).1 (vL b x y).2:=by
 intro p b
 induction b with
 | nil=>intros; rfl
 | cons c b ih =>
  intro i x y hb h1 h2 h3 h4;have hc:=hb c jC;have e1:ut .i64 (aS .i64 x (zm .i64 c)) 251=(x+c) % 251:=by
   rw [wrap_i64 aD aD,dQ aD aD,Hy aD]
  have e2:ut .i64 (aS .i64 y ((x+c) % 251)) 251=(y+(x+c) % 251) % 251:=by
   rw [dQ aD aD,Hy aD]
  simp only [bn,A3,e1,e2];exact ih (i+1) _ _ (λz hz=>hb z wz7) aD aD aD aD
theorem YJ(u:Nat):∀ (p b:List Int) (i:Nat) (x y:Int),aK b->0<=x->x < 251->0<=y->y < 251 ->
  bn (Hh u p) (Bf u p) b i (x,y)=t7 u (vL b x y).1 (vL b x y).2:=by
 intro p b
 induction b with
 | nil=>intros; rfl
 | cons c b ih =>
  intro i x y hb h1 h2 h3 h4;have hc:=hb c jC;have e1:ut .i64 (aS .i64 x (zm .i64 c)) 251=(x+c) % 251:=by
   rw [wrap_i64 aD aD,dQ aD aD,Hy aD]
  have e2:ut .i64 (aS .i64 y ((x+c) % 251)) 251=(y+(x+c) % 251) % 251:=by
   rw [dQ aD aD,Hy aD]
  simp only [bn,Bf,e1,e2];exact ih (i+1) _ _ (λz hz=>hb z wz7) aD aD aD aD
theorem AD{u:Nat}(hu:1099511627776<=u){b:List Int}(hb:aK b)(hl:b.length<=1073741824):rv u b=some (cP b):=by
 unfold rv;rw [Qg u b (0,0) u aD aD,YI u b b 0 0 0 hb aD aD aD aD];have:=Kb b 0 0 aD aD aD aD;unfold tJ cP;simp (disch:=omega) only [lW,dQ]
theorem ZI{n m:Int}(hm:0 < m):(n.tmod m+m).tmod m=n % m:=by
 rcases Int.le_total 0 n with h | h
 ·rw [zXZ h,zXZ (by have:=zVX n (show m≠0 by omega); omega)];simp
 ·have h1:n.tmod m=-((-n) % m):=by
   rw [show n=-(-n) by omega,Int.neg_tmod,zXZ aD]; simp
  have h2:=zVX (-n) (show m≠0 by omega);have h3:=Int.emod_lt_of_pos (-n) hm;rw [h1,zXZ aD];have:(-((-n) % m)+m) % m=n % m:=by
   have e:-n=m*(-n / m)+(-n) % m:=(Int.mul_ediv_add_emod (-n) m).symm;have e2:-((-n) % m)+m=n+m*(-n / m+1):=by
    rw [Int.mul_add]; omega
   rw [e2,Int.add_mul_emod_self_left]
  exact this
theorem WR{n m:Int}(hm:0 < m):-m < n.tmod m/\n.tmod m < m:=by
 rcases Int.le_total 0 n with h | h
 ·rw [zXZ h];have h2:=zVX n (show m≠0 by omega);have h3:=Int.emod_lt_of_pos n hm;omega
 ·have h1:n.tmod m=-((-n) % m):=by
   rw [show n=-(-n) by omega,Int.neg_tmod,zXZ aD]; simp
  have h2:=zVX (-n) (show m≠0 by omega);have h3:=Int.emod_lt_of_pos (-n) hm;omega
theorem qar(u:Nat)(n m:Int):D1 u n m=some (if aw m 1 1000000000000 then n % m else 0):=by
 unfold D1;simp only [bK,wk]
 cases h:aw m 1 1000000000000 with
 | false=>simp
 | true =>
  have h3:=cd h;have hb:(m == 0)=false:=by simp; omega
  have h4:=WR (n:=n) (m:=m) aD;simp only [hb,r0,cond_false,zYJ,VP,wk];have e1:ut .i64 n m=n.tmod m:=rfl;rw [e1,dQ aD aD];show some ((n.tmod m+m).tmod m)=_;rw [ZI aD]; simp
theorem qas(u:Nat)(x y:Int):Hg u x y=some (x % 251+251*(y % 251)):=by
 unfold Hg;have h:aw 251 1 1000000000000=true:=by decide
 simp only [qar,wk,h,if_true];simp (disch:=omega) only [lW,dQ]
theorem EX{u:Nat}(hu:1099511627776<=u){b:List Int}(hb:aK b)(hl:b.length<=1073741824):rB u b=some (cP b):=by
 unfold rB;rw [Qw u b (0,0) u aD aD,YJ u b b 0 0 0 hb aD aD aD aD];have:=Kb b 0 0 aD aD aD aD;unfold t7 cP;simp only [qas,wk]
 congr 1
 omega
def lZ:Nat->Int->List Int
 | 0,_=>[]
 | n+1,s=>lZ n (s / 256)++[s % 256]
def wX:Nat->Int->Option (List Int)
 | 0,s=>if s=1 then some [] else none
 | n+1,s=>if s=1 then some [] else if s < 256 then none else (wX n (s / 256)).map (·++[s % 256])
def cx(s:Int):List Int×Bool:=if s < 1 then ([],false) else match wX 6 s with | some b=>(b,true) | none=>([],false)
def F8:Nat->Int->Nat
 | 0,_=>0
 | k+1,t=>if 1 < t then F8 k (t / 256)+1 else 0
def xQ:Nat->Int->Int
 | 0,t=>t
 | k+1,t=>if 1 < t then xQ k (t / 256) else t
theorem qfU:∀ (k:Nat) (t:Int),F8 k t<=k:=by
 intro k
 induction k with
 | zero=>intro t; simp [F8]
 | succ k ih=>intro t; unfold F8; have:=ih (t / 256); split <;> omega
theorem WS:∀ (k:Nat) (t:Int),xQ k t=t / 256 ^ F8 k t:=by
 intro k
 induction k with
 | zero=>intro t; simp [xQ,F8]
 | succ k ih =>
  intro t;unfold xQ F8
  split
  ·rw [ih,zYH aD,zXw,zZw]
  ·simp
theorem Rz:∀ (k:Nat) (t:Int),0<=t->wX k t=if xQ k t=1 then some (lZ (F8 k t) t) else none:=by
 intro k
 induction k with
 | zero=>intro t h; simp [wX,xQ,F8,lZ]
 | succ k ih =>
  intro t h;unfold wX xQ F8
  by_cases h1:t=1
  ·subst h1; simp [lZ]
  ·rw [if_neg h1]
   by_cases h2:1 < t
   ·simp only [if_pos h2]
    by_cases h3:t < 256
    ·have:t / 256=0:=Int.ediv_eq_zero_of_lt h h3;rw [if_pos h3,this];have:xQ k 0=0:=by rw [WS]; simp
     rw [this]; simp
    ·rw [if_neg h3,ih _ aD]
     split <;> simp [lZ]
   ·have:t=0:=by omega
    subst this; simp
theorem qfV:∀ (k:Nat) (t:Int),0<=t->t / 256 ^ k<=xQ k t:=by
 intro k
 induction k with
 | zero=>intro t h; simp [xQ]
 | succ k ih =>
  intro t h;unfold xQ
  split
  ·have:=ih (t / 256) aD;rwa [zYH aD,zZw,<- zXw] at this
  ·exact Int.ediv_le_self _ h
theorem qat:∀ (n:Nat) (s:Int),aK (lZ n s):=by
 intro n
 induction n with
 | zero=>intro s x hx; simp [lZ] at hx
 | succ n ih =>
  intro s x hx;simp only [lZ,zWg,zWW] at hx;rcases hx with h | h
  ·exact ih _ x h
  ·omega
theorem YK:∀ (n:Nat) (s:Int),(lZ n s).length=n:=by
 intro n
 induction n with
 | zero=>intro s; rfl
 | succ n ih=>intro s; simp [lZ,ih]
theorem Iv{s:Int}{b:List Int}(h:cx s=(b,true)):1<=s/\s / 256 ^ b.length=1/\b=lZ b.length s/\b.length<=6:=by
 unfold cx at h
 split at h
 ·cases h
 ·rename_i h1;rw [Rz 6 s aD] at h;have he:=WS 6 s;have hn:=qfU 6 s
  by_cases h2:xQ 6 s=1
  ·simp only [h2,if_true,Prod.mk.injEq,and_true] at h;subst h;rw [YK];exact ⟨by omega,by rw [<- he]; exact h2,rfl,hn⟩
  ·simp [h2] at h
theorem wY(s:Int):aK (cx s).1/\(cx s).1.length<=6:=by
 match h:cx s with
 | (b,true) =>
  have h:=Iv h;exact ⟨by rw [h.2.2.1]; exact qat _ _,h.2.2.2⟩
 | (b,false) =>
  have:b=[]:=by
   unfold cx at h
   split at h
   ·simp at h; exact h.symm ▸ rfl
   ·split at h <;> simp at h; exact h.symm ▸ rfl
  subst this;exact ⟨by simp [aK],by simp⟩
theorem qgX(a:Int)(h:0<=a):zm .u8 (gU .i64 a 255)=a % 256:=by
 have:gU .i64 a 255=a % 256:=by
  unfold gU;have e:(aaa (IntKind.bits .i64) a &&& aaa (IntKind.bits .i64) 255).toNat=(a % 256).toNat:=by
   change (aaa 64 a &&& aaa 64 255).toNat=(a % 256).toNat
   rw [BitVec.toNat_and,aak,aak,show ((255:Int) % ((2 ^ 64:Nat):Int)).toNat=2 ^ 8 - 1 by decide,zZZ];omega
  rw [e];exact (wrap_i64 aD aD).trans aD
 rw [this,xM]; omega
theorem MM(u:Nat):∀ (k n:Nat) (s:Int) (acc:List Int),n < k->1<=s->s < 256 ^ n*2->acc.length+n<=1000 ->
  pd u k s acc=some (match wX n s with | some b=>(b++acc,true) | none=>([],false)):=by
 intro k
 induction k with
 | zero=>intro n s acc h; omega
 | succ k ih =>
  intro n s acc hk h1 h2 h3;unfold pd
  by_cases h4:s=1
  ·subst h4
   cases n <;> simp [wX,CQ]
  ·have h5:s > 1:=by omega
   cases n with
   | zero=>simp at h2; omega
   | succ n =>
    simp only [h5,decide_true,cond_true,wX,if_neg h4]
    by_cases h6:s < 256
    ·simp [h6]
    ·have hw:([zm .u8 (gU .i64 s 255)])=[s % 256]:=by rw [qgX _ aD]
     simp only [h6,decide_false,cond_false,if_false,qig,hw];rw [bg il];simp only [wk];rw [ih n (s / 256) _ aD aD (by rw [zXw] at h2; omega) il]
     cases wX n (s / 256) <;> simp
theorem qbS{s:Int}(h:562949953421311 < s):cx s=([],false):=by
 unfold cx;rw [if_neg aD,Rz 6 s aD];have:=qfV 6 s aD;have e:(256:Int) ^ 6=281474976710656:=by decide
 rw [e] at this;rw [if_neg aD]
theorem Dh{u:Nat}(hu:1099511627776<=u)(s:Int):rH u s=some (cx s):=by
 unfold rH;simp only [b5,wk]
 cases h:aw s 1 562949953421311 with
 | false =>
  rcases qbR h with h | h
  ·simp [cx,h]
  ·rw [qbS h]; simp
 | true =>
  have h:=cd h;have e:(256:Int) ^ 6=281474976710656:=by decide
  simp only [r0,cond_false];rw [MM u u 6 s [] aD aD (by rw [e]; omega) jC];unfold cx;rw [if_neg aD]
  cases wX 6 s <;> simp
theorem qcZ(s:Int)(j:Nat)(h:j<=8):qm .i64 s (8*(j:Int))=s / 256 ^ j:=by
 have:=Z7 .i64 s (8*j) (by simp [IntKind.bits]; omega);rw [show ((8*j:Nat):Int)=8*(j:Int) by simp] at this;rw [this,show (256:Int)=2 ^ 8 by decide,<- Int.pow_mul]
theorem qeK{α ρ:Type}{fin:List α->Option ρ}{body:Nat->List α->(List α->Option ρ)->Option ρ}(f:Nat->α)(n:Nat)(hb:∀ i s k,i < n->s.length=n->body i s k=k (s.set i (f i))) :
  ∀ (m i:Nat) (s:List α),i+m=n->s.length=n->s.take i=(zXY i).map f->qn fin body m i s=fin ((zXY n).map f):=by
 intro m
 induction m with
 | zero =>
  intro i s h1 h2 h3;simp only [qn]
  congr 1
  rw [zXG aD] at h3;rw [h3,show i=n by omega]
 | succ m ih =>
  intro i s h1 h2 h3;simp only [qn];rw [hb i s _ aD h2];refine ih (i+1) _ aD (by simp [h2]) ?_;rw [List.take_add_one,List.take_set_of_le (zWX i),h3,zYW aD,List.range_succ,zXh];rfl
theorem qau:∀ (n:Nat) (s:Int),lZ n s=(zXY n).map λi=>s / 256 ^ (n - 1 - i) % 256:=by
 intro n
 induction n with
 | zero=>intro s; rfl
 | succ n ih =>
  intro s;rw [lZ,ih,List.range_succ,zXh]
  congr 1
  ·apply zWy
   intro i hi;have hi:i < n:=by simpa using hi
   rw [zYH aD,zZw,<- zXw,show (n - 1 - i).succ=n+1 - 1 - i by omega]
  ·simp
theorem MN{u:Nat}(hu:1099511627776<=u)(s:Int)(n:Nat)(hn:n<=6):sn u s (n:Int)=some (if 1<=s/\s / 256 ^ n=1 then (lZ n s,true) else ([],false)):=by
 unfold sn
 by_cases h1:s < 1
 ·have:¬ (1<=s):=by omega
  simp [h1,this,po]
 ·rw [lW aD aD,qcZ _ _ aD,bg aD]
  by_cases h2:s / 256 ^ n=1
  ·have h3:(1:Int)<=s:=by omega
   simp only [h1,decide_false,cond_false,wk,h2,h3,true_and,if_true];unfold po;rw [show ((1:Int) != 1)=false by decide];simp only [cond_false,beq_self_eq_true,Bool.or_true,zXq,rg];rw [bg aD,bg aD];simp only [wk];rw [NN u s n _ u il il];simp only [List.length_replicate,rg];rw [qeK (λi=>s / 256 ^ (n - 1 - i) % 256) n _ n 0 _ aD jC jC,<- qau]
   ·rfl
   ·intro i t k hi ht;unfold FJ;have e:cJ .i64 (cJ .i64 (n:Int) 1) (i:Int)=((n - 1 - i:Nat):Int):=by
     rw [cS (a:=(n:Int)) aD aD,cS aD aD]; omega
    rw [e,lW aD aD,qcZ _ _ aD,bg aD,xM,bu,sX aD];simp
  ·have:(s / 256 ^ n != 1)=true:=by simpa using h2
   simp only [h1,decide_false,cond_false,wk,this];simp [po,h2]
theorem MO{u:Nat}(hu:1099511627776<=u)(s:Int):∀ (m n k:Nat),n+m=6->m < k->i8 u k s (n:Int)=sn u s ((n+F8 m (s / 256 ^ n):Nat):Int):=by
 intro m
 induction m with
 | zero =>
  intro n k h1 h2;obtain ⟨k,rfl⟩:∃ j,k=j+1:=⟨k - 1,by omega⟩;unfold i8;have:¬ ((n:Int) < 6):=by omega
  simp [this,so,F8]
 | succ m ih =>
  intro n k h1 h2;obtain ⟨k,rfl⟩:∃ j,k=j+1:=⟨k - 1,by omega⟩;unfold i8;have h3:(n:Int) < 6:=by omega
  rw [lW aD aD,qcZ _ _ aD,bg aD];simp only [h3,decide_true,cond_true,wk,so,F8]
  by_cases h4:s / 256 ^ n > 1
  ·have h4':1 < s / 256 ^ n:=h4;simp only [h4,decide_true,cond_true,h4',if_true];rw [jj aD,ih (n+1) k aD aD,zXw,<- zYH (Int.le_of_lt (Int.pow_pos aD))]
   congr 1
   omega
  ·have h4':¬ 1 < s / 256 ^ n:=h4;simp only [h4,decide_false,cond_false,h4',if_false];simp
theorem Jd{u:Nat}(hu:1099511627776<=u)(s:Int):pR u s=some (cx s):=by
 unfold pR;have:=MO hu s 6 0 u aD aD;simp only [Int.natCast_zero,Int.pow_zero,Int.ediv_one,zWJ] at this;rw [this,MN hu s _ (qfU 6 s)];unfold cx
 by_cases h:s < 1
 ·have:¬ (1<=s):=by omega
  simp [h,this]
 ·rw [if_neg h,Rz 6 s aD,WS];have:1<=s:=by omega
  by_cases h2:s / 256 ^ F8 6 s=1 <;> simp [h2,this]
def ro:List Int->Int->Int
 | [],s=>s
 | c :: b,s=>ro b (256*s+c)
def fd(b:List Int):bQ:=if 6 < b.length then ⟨0,0⟩ else ⟨cP b,ro b 1⟩
theorem qfW(a b:List Int):∀ s,ro (a++b) s=ro b (ro a s):=by
 induction a with
 | nil=>intro s; rfl
 | cons c a ih=>intro s; exact ih _
theorem qbT:∀ (n:Nat) (s:Int),s / 256 ^ n=1->ro (lZ n s) 1=s:=by
 intro n
 induction n with
 | zero=>intro s h; simpa [lZ,ro] using h.symm
 | succ n ih =>
  intro s h;rw [lZ,qfW,ih]
  ·simp only [ro]; omega
  ·rw [zYH aD,zZw,<- zXw]; exact h
theorem GG{s:Int}{b:List Int}(h:cx s=(b,true)):fd b=⟨cP b,s⟩:=by
 have ⟨h1,h2,h3,h4⟩:=Iv h;unfold fd;have:=qbT b.length s h2;rw [<- h3] at this;rw [if_neg aD,this]
theorem qc0:∀ (b:List Int) (s:Int) (n:Nat),aK b->0<=s->s < 256 ^ n*2->0<=ro b s/\ro b s < 256 ^ (n+b.length)*2:=by
 intro b
 induction b with
 | nil=>intro s n _ h1 h2; exact ⟨h1,h2⟩
 | cons c b ih =>
  intro s n hb h1 h2;have hc:=hb c jC;have:=ih (256*s+c) (n+1) (λz hz=>hb z wz7) aD qgj;simp only [zQq,ro];rwa [show n+(b.length+1)=n+1+b.length by omega]
theorem qav(u:Nat):∀ (p b:List Int) (i:Nat) (s:Int) (n:Nat),aK b->0<=s->s < 256 ^ n*2->n+b.length<=6 ->
  bn (IM u p) (CP u p) b i s=wo u p (ro b s):=by
 intro p b
 induction b with
 | nil=>intros; rfl
 | cons c b ih =>
  intro i s n hb h1 h2 h3;have hc:=hb c jC;simp only [zQq] at h3;have hp:(256:Int) ^ n<=1099511627776:=by
   rcases (show n=0\/n=1\/n=2\/n=3\/n=4\/n=5 by omega) with rfl | rfl | rfl | rfl | rfl | rfl <;> decide
  simp only [bn,CP];rw [wrap_i64 aD aD,lW aD aD,dQ aD aD];exact ih (i+1) _ (n+1) (λz hz=>hb z wz7) aD qgj aD
theorem qr{u:Nat}(hu:1099511627776<=u){b:List Int}(hb:aK b)(hl:b.length<=1073741824):je u b=some (fd b):=by
 unfold je fd
 by_cases h:6 < b.length
 ·have:(b.length:Int) > 6:=by omega
  simp [h,this]
 ·have:¬ ((b.length:Int) > 6):=by omega
  simp only [this,decide_false,cond_false,h,if_false];rw [SX u b 1 u aD aD,qav u b b 0 1 0 hb aD (by decide) aD];unfold wo;rw [AD hu hb hl];rfl
def CC(size len:Int)(i:Nat)(s:bQ):Bool:=(cx s.fS).2 && ((cx s.fS).1.length == (cT size len i).2) && (cP (cx s.fS).1 == s.fW)
def rp(size len:Int):List bQ->Nat->Bool
 | [],_=>true
 | s :: l,i=>CC size len i s && rp size len l (i+1)
def dh(m:ae):Bool :=
 if m.aN=0 then m.aG == 0 && m.aV == 0 && m.aI.length == 0
 else aw m.aN 1 1000000 && fM m.aG m.aV && ((m.aI.length:Int) == cE m.aG m.aV) && rp m.aG m.aV m.aI 0
theorem Iw(a b:Int):(a != b)=!(a == b):=rfl
theorem qaw{u:Nat}(hu:1099511627776<=u)(m:ae):∀ (l:List bQ) (i:Nat),bn (IQ u m) (C4 u m) l i ()=some (rp m.aG m.aV l i):=by
 intro l
 induction l with
 | nil=>intro i; rfl
 | cons s l ih =>
  intro i;have hb:=wY s.fS;simp only [bn,C4,Jd hu,rn,wk,rp,CC,nE,ih,EX hu hb.1 (show _<=_ by omega),Iw]
  cases (cx s.fS).2 <;> cases (((cx s.fS).1.length:Int) == (cT m.aG m.aV ↑i).2) <;> cases (cP (cx s.fS).1 == s.fW) <;> simp
theorem qax{u:Nat}(hu:1099511627776<=u)(m:ae):∀ (l:List bQ) (i:Nat),l=m.aI.drop i->bn (IN u m) (CR u m) l i ()=some (rp m.aG m.aV l i):=by
 intro l
 induction l with
 | nil=>intro i _; rfl
 | cons s l ih =>
  intro i hd;have hb:=wY s.fS;have hx:m.aI[i]?=some s:=by
   have:=congrArg zYY hd
   simpa [zXW] using this.symm
  have hl:l=m.aI.drop (i+1):=by
   have:=congrArg zYq hd
   simpa [zXV] using this
  simp only [bn,CR,Dh hu,lY,wk,rp,CC,nC,ih (i+1) hl,qr hu hb.1 (show _<=_ by omega),Iw,bu,hx]
  cases h:(cx s.fS).2 with
  | false=>simp
  | true =>
   have h2:=GG (s:=s.fS) (b:=(cx s.fS).1) (by rw [<- h]);rw [h2];have h3:(([cP (cx s.fS).1,s.fS]:List Int) == [s.fW,s.fS])=(cP (cx s.fS).1 == s.fW):=by simp
   simp only [h3]
   cases (((cx s.fS).1.length:Int) == (cT m.aG m.aV ↑i).2) <;> cases (cP (cx s.fS).1 == s.fW) <;> simp
theorem qs{u:Nat}(hu:1099511627776<=u)(m:ae)(hl:m.aI.length<=1073741824):oH u m=some (dh m):=by
 unfold oH dh jY wG;simp only [bK,uB,uD,wk,Iw,S5 u m () u aD aD,qaw hu];have e0:(((m.aI.length:Int)) == 0)=(m.aI.length == 0):=by rw [zXX]; simp
 by_cases h:m.aN=0
 ·have:aw m.aN 1 1000000=false:=by rw [h]; rfl
  simp only [h,if_true,beq_self_eq_true,cond_true,e0] at this ⊢
  cases (m.aG == 0) <;> cases (m.aV == 0) <;> cases (m.aI.length == 0) <;> simp [this]
 ·have:(m.aN == 0)=false:=by simpa using h
  simp only [h,if_false,this,cond_false,wk]
  cases aw m.aN 1 1000000 <;> cases fM m.aG m.aV <;> cases ((m.aI.length:Int) == cE m.aG m.aV) <;> simp
theorem jO{u:Nat}(hu:1099511627776<=u)(m:ae)(hl:m.aI.length<=1073741824):kU u m=some (dh m):=by
 unfold kU dh wq;simp only [b5,uC,iW,wk,Iw,SY u m () u aD aD,qax hu m m.aI 0 jC];have e0:(((m.aI.length:Int)) == 0)=(m.aI.length == 0):=by rw [zXX]; simp
 by_cases h:m.aN=0
 ·simp only [h,if_true,beq_self_eq_true,cond_true,e0]
  cases (m.aG == 0) <;> cases (m.aV == 0) <;> cases (m.aI.length == 0) <;> simp
 ·have:(m.aN == 0)=false:=by simpa using h
  simp only [h,if_false,this,cond_false,wk]
  cases aw m.aN 1 1000000 <;> cases fM m.aG m.aV <;> cases ((m.aI.length:Int) == cE m.aG m.aV) <;> simp
def dm:Nat->Int->List Int
 | 0,n=>[n % 256]
 | k+1,n=>if n<=127 then [n % 256] else (n % 128+128) :: dm k (n / 128)
def aX(b:List Int)(n:Int):List Int:=if aw n 0 1000000000000 then b++dm 9 n else b
theorem qhm:∀ a:Nat,a < 256->(a ||| 128)=a % 128+128:=by decide +kernel
theorem qhL(a:Int)(h1:0<=a)(h2:a < 256):sC .u8 a 128=a % 128+128:=by
 unfold sC;have e:(aaa (IntKind.bits .u8) a ||| aaa (IntKind.bits .u8) 128).toNat=(a % 128+128).toNat:=by
  change (aaa 8 a ||| aaa 8 128).toNat=_
  rw [BitVec.toNat_or,aak,aak,show ((128:Int) % ((2 ^ 8:Nat):Int)).toNat=128 by decide,qhm _ aD];omega
 rw [e,xM]; omega
theorem qay(a:Int):gU .i64 a 127=a % 128:=by
 unfold gU;have e:(aaa (IntKind.bits .i64) a &&& aaa (IntKind.bits .i64) 127).toNat=(a % 128).toNat:=by
  change (aaa 64 a &&& aaa 64 127).toNat=(a % 128).toNat
  rw [BitVec.toNat_and,aak,aak,show ((127:Int) % ((2 ^ 64:Nat):Int)).toNat=2 ^ 7 - 1 by decide,zZZ];omega
 rw [e];exact (wrap_i64 aD aD).trans aD
theorem qd0(a:Int)(h1:0<=a)(h2:a < 256):sC .i64 a 128=a % 128+128:=by
 unfold sC;have e:(aaa (IntKind.bits .i64) a ||| aaa (IntKind.bits .i64) 128).toNat=(a % 128+128).toNat:=by
  change (aaa 64 a ||| aaa 64 128).toNat=_
  rw [BitVec.toNat_or,aak,aak,show ((128:Int) % ((2 ^ 64:Nat):Int)).toNat=128 by decide,show (a % ((2 ^ 64:Nat):Int)).toNat=a.toNat by omega,qhm _ aD];omega
 rw [e];exact (wrap_i64 aD aD).trans aD
theorem Ix:∀ (k:Nat) (n:Int),(dm k n).length<=k+1:=by
 intro k
 induction k with
 | zero=>intro n; simp [dm]
 | succ k ih =>
  intro n;unfold dm;have:=ih (n / 128)
  split <;> simp <;> omega
theorem ZJ:∀ (k:Nat) (n:Int),aK (dm k n):=by
 intro k
 induction k with
 | zero=>intro n x hx; simp [dm] at hx; omega
 | succ k ih =>
  intro n x hx;unfold dm at hx
  split at hx
  ·simp at hx; omega
  ·rcases aah.1 hx with h | h
   ·omega
   ·exact ih _ x h
theorem F9{a b:List Int}(h:aK a)(k:aK b):aK (a++b):=by
 intro x hx;rcases aad.1 hx with g | g
 ·exact h x g
 ·exact k x g
theorem Kc(u:Nat):∀ (j k:Nat) (n:Int) (b:List Int),n < 128 ^ (j+1)->j < k->b.length+j<=1099511627776->j3 u k b n=some (b++dm j n):=by
 intro j
 induction j with
 | zero =>
  intro k n b h1 h2 h3;obtain ⟨k,rfl⟩:∃ i,k=i+1:=⟨k - 1,by omega⟩;unfold j3;have:¬ (n>=128):=by simp at h1; omega
  simp only [this,decide_false,cond_false,tq,dm,xM];rw [bg il]; rfl
 | succ j ih =>
  intro k n b h1 h2 h3;obtain ⟨k,rfl⟩:∃ i,k=i+1:=⟨k - 1,by omega⟩;unfold j3
  by_cases h:n>=128
  ·have h':¬ n<=127:=by omega
   simp only [h,decide_true,cond_true,dm,h',if_false,xM,qfI];rw [bg il,qhL _ aD aD];simp only [wk];rw [ih k (n / 128) _ qhu aD il,show n % 256 % 128=n % 128 by omega];simp
  ·have h':n<=127:=by omega
   simp only [h,decide_false,cond_false,dm,h',if_true,tq,xM];rw [bg il]; rfl
theorem Lu(u:Nat):∀ (j k:Nat) (n:Int) (b:List Int),n < 128 ^ (j+1)->j < k->b.length+j<=1099511627776->kX u k b n=some (b++dm j n):=by
 intro j
 induction j with
 | zero =>
  intro k n b h1 h2 h3;obtain ⟨k,rfl⟩:∃ i,k=i+1:=⟨k - 1,by omega⟩;unfold kX;have:¬ (n > 127):=by simp at h1; omega
  simp only [this,decide_false,cond_false,u2,dm,xM];rw [bg il]; rfl
 | succ j ih =>
  intro k n b h1 h2 h3;obtain ⟨k,rfl⟩:∃ i,k=i+1:=⟨k - 1,by omega⟩;unfold kX
  by_cases h:n > 127
  ·have h':¬ n<=127:=by omega
   simp only [h,decide_true,cond_true,dm,h',if_false,xM,qfI,qay];rw [bg il,qd0 _ aD aD];simp only [wk];rw [ih k (n / 128) _ qhu aD il,show (n % 128 % 128+128) % 256=n % 128+128 by omega];simp
  ·have h':n<=127:=by omega
   simp only [h,decide_false,cond_false,dm,h',if_true,u2,xM];rw [bg il]; rfl
theorem O6(u:Nat):∀ (j k:Nat) (n:Int) (b:List Int),n < 128 ^ (j+1)->j < k->b.length+j<=1099511627776->oE u k n b=some (b++dm j n):=by
 intro j
 induction j with
 | zero =>
  intro k n b h1 h2 h3;obtain ⟨k,rfl⟩:∃ i,k=i+1:=⟨k - 1,by omega⟩;unfold oE;have:¬ (n > 127):=by simp at h1; omega
  simp only [this,decide_false,cond_false,zq,dm,xM];rw [bg il]; rfl
 | succ j ih =>
  intro k n b h1 h2 h3;obtain ⟨k,rfl⟩:∃ i,k=i+1:=⟨k - 1,by omega⟩;unfold oE
  by_cases h:n > 127
  ·have h':¬ n<=127:=by omega
   simp only [h,decide_true,cond_true,dm,h',if_false,xM,qfI,qay];rw [bg il,qd0 _ aD aD];simp only [wk];rw [ih k (n / 128) _ qhu aD il,show (n % 128 % 128+128) % 256=n % 128+128 by omega];simp
  ·have h':n<=127:=by omega
   simp only [h,decide_false,cond_false,dm,h',if_true,zq,xM];rw [bg il]; rfl
theorem qhM:(128:Int) ^ (9+1)=1180591620717411303424:=by decide
theorem Ga{u:Nat}(hu:1099511627776<=u){b:List Int}{n:Int}(hl:b.length<=1073741824)(hn:n<=9223372036854775807):q6 u b n=some (b++dm 9 n) :=
 Kc u 9 u n b (by rw [qhM]; omega) aD aD
theorem RA{u:Nat}(hu:1099511627776<=u){b:List Int}{n:Int}(hl:b.length<=1073741824)(hn:n<=9223372036854775807):wx u b n=some (b++dm 9 n) :=
 Lu u 9 u n b (by rw [qhM]; omega) aD aD
theorem eY(u:Nat){b:List Int}(hl:b.length<=1073741824):ek u b=some b:=by
 unfold ek;rw [bg il,bg il];simp [de]
theorem er{u:Nat}(hu:1099511627776<=u){b:List Int}{n:Int}(hl:b.length<=1073741824):fZ u b n=some (aX b n):=by
 unfold fZ aX;simp only [eY u hl,bK,wk]
 cases h:aw n 0 1000000000000 with
 | false=>simp
 | true=>have:=cd h; simp [Ga hu hl (show n<=9223372036854775807 by omega)]
theorem et{u:Nat}(hu:1099511627776<=u){b:List Int}{n:Int}(hl:b.length<=1073741824):eH u b n=some (aX b n):=by
 unfold eH aX;rw [bg il];simp only [b5,wk,zQy]
 cases h:aw n 0 1000000000000 with
 | false=>simp
 | true=>have:=cd h; simp [O6 u 9 u n b (by rw [qhM]; omega) aD aD]
theorem bq(b:List Int)(n:Int):(aX b n).length<=b.length+10:=by
 unfold aX;have:=Ix 9 n
 split <;> simp <;> omega
def pC(b:List Int):List bQ->List Int
 | []=>b
 | s :: l=>pC (b++dm 9 s.fS) l
def uE(b:List Int)(m:ae):List Int:=if dh m then pC (aX (aX (aX b m.aN) m.aG) m.aV) m.aI else b
def BN(m:ae):Prop:=∀ s∈m.aI,s.fS<=9223372036854775807
theorem yQ{m:ae}(h:dh m=true):m.aI.length<=40:=by
 unfold dh at h
 split at h
 ·simp only [sk,beq_iff_eq] at h;have:=h.2;omega
 ·have:=blocks_range m.aG m.aV;simp only [sk,beq_iff_eq] at h;omega
theorem YL{u:Nat}(hu:1099511627776<=u)(m:ae):∀ (l:List bQ) (i:Nat) (b:List Int),(∀ s∈l,s.fS<=9223372036854775807)->b.length+10*l.length<=1073741824 ->
  bn (Hn u m) (Bl u m) l i b=some (pC b l):=by
 intro l
 induction l with
 | nil=>intros; rfl
 | cons s l ih =>
  intro i b h1 h2;simp only [zQq] at h2;have h3:=Ix 9 s.fS;simp only [bn,Bl,Ga hu (show b.length<=1073741824 by omega) (h1 s jC),wk,pC];exact ih (i+1) _ (λz hz=>h1 z wz7) il
theorem YM{u:Nat}(hu:1099511627776<=u)(m:ae):∀ (l:List bQ) (i:Nat) (b:List Int),(∀ s∈l,s.fS<=9223372036854775807)->b.length+10*l.length<=1073741824 ->
  bn (G9 u m) (Bc u m) l i b=some (pC b l):=by
 intro l
 induction l with
 | nil=>intros; rfl
 | cons s l ih =>
  intro i b h1 h2;simp only [zQq] at h2;have h3:=Ix 9 s.fS;simp only [bn,Bc,RA hu (show b.length<=1073741824 by omega) (h1 s jC),wk,pC];exact ih (i+1) _ (λz hz=>h1 z wz7) il
theorem WT{u:Nat}(hu:1099511627776<=u){b:List Int}{m:ae}(hl:b.length<=536870912)(hm:m.aI.length<=1073741824)(hw:BN m):Cm u b m=some (uE b m):=by
 unfold Cm uE;have h1:=bq b m.aN;have h2:=bq (aX b m.aN) m.aG;have h3:=bq (aX (aX b m.aN) m.aG) m.aV;rw [qs hu m hm]
 cases h:dh m with
 | false=>simp [eY u (show b.length<=1073741824 by omega)]
 | true =>
  have h4:=yQ h;simp only [wk,r0,cond_false,if_true];rw [er hu aD]; simp only [wk];rw [er hu aD]; simp only [wk];rw [er hu aD]; simp only [wk];rw [QD u m _ u aD aD,YL hu m _ _ _ hw aD]
theorem WU{u:Nat}(hu:1099511627776<=u){b:List Int}{m:ae}(hl:b.length<=536870912)(hm:m.aI.length<=1073741824)(hw:BN m):Cb u b m=some (uE b m):=by
 unfold Cb uE;have h1:=bq b m.aN;have h2:=bq (aX b m.aN) m.aG;have h3:=bq (aX (aX b m.aN) m.aG) m.aV;rw [bg il,jO hu m hm];simp only [zQy,wk]
 cases h:dh m with
 | false=>simp
 | true =>
  have h4:=yQ h;simp only [wk,r0,cond_false,if_true];rw [et hu aD]; simp only [wk];rw [et hu aD]; simp only [wk];rw [et hu aD]; simp only [wk];rw [Qs u m _ u aD aD,YM hu m _ _ _ hw aD]
theorem BO{a:Int}(h1:0<=a)(h2:a < 18446744073709551616):(aaa 64 a).toNat=a.toNat:=by
 rw [aak]; omega
theorem KW{a b:Nat}(h1:a < 9223372036854775808)(h2:b < 9223372036854775808):sC .i64 (a:Int) (b:Int)=((a ||| b:Nat):Int):=by
 unfold sC;have e:(aaa (IntKind.bits .i64) (a:Int) ||| aaa (IntKind.bits .i64) (b:Int)).toNat=a ||| b:=by
  change (aaa 64 (a:Int) ||| aaa 64 (b:Int)).toNat=_
  rw [BitVec.toNat_or,BO aD aD,BO aD aD]; rfl
 rw [e];have:a ||| b < 2 ^ 63:=Nat.or_lt_two_pow aD aD
 exact wrap_i64 aD aD
theorem qbU{a b:Nat}(h1:a < 9223372036854775808)(h2:b < 9223372036854775808):gU .i64 (a:Int) (b:Int)=((a &&& b:Nat):Int):=by
 unfold gU;have e:(aaa (IntKind.bits .i64) (a:Int) &&& aaa (IntKind.bits .i64) (b:Int)).toNat=a &&& b:=by
  change (aaa 64 (a:Int) &&& aaa 64 (b:Int)).toNat=_
  rw [BitVec.toNat_and,BO aD aD,BO aD aD]; rfl
 rw [e];have:a &&& b<=a:=Nat.and_le_left;exact wrap_i64 aD aD
theorem RB{i:Nat}(h:i<=62):iq .i64 1 (i:Int)=((2 ^ i:Nat):Int):=by
 unfold iq;rw [show min (sY (i:Int)) (IntKind.bits .i64)=i by simp [IntKind.bits]; omega];have h1:(2:Nat) ^ i<=2 ^ 62:=zXJ aD h;have h2:(1:Int)*2 ^ i=((2 ^ i:Nat):Int):=by simp
 rw [h2];generalize (2:Nat) ^ i=p at h1;exact wrap_i64 aD aD
theorem qbV{a i:Nat}(h:i<=64):qm .i64 (a:Int) (i:Int)=((a / 2 ^ i:Nat):Int):=by
 rw [Z7 .i64 _ i h]; simp
def bD(s:Int):Bool:=aw s 0 1099511627775
def fQ(i:Int):Bool:=aw i 0 39
def d6(s i:Int):Bool:=bD s && fQ i && s.toNat.testBit i.toNat
theorem jP(u:Nat)(s:Int):dt u s=some (bD s):=by simp [dt,bK,bD]
theorem iX(u:Nat)(s:Int):cK u s=some (bD s):=by simp [cK,b5,bD]
theorem Je(u:Nat)(s:Int):pS u s=some (fQ s):=by simp [pS,bK,fQ]
theorem qfX{s i:Int}(hs:bD s=true)(hi:fQ i=true):(gU .i64 (qm .i64 s i) 1 == 1)=s.toNat.testBit i.toNat:=by
 have h1:=cd hs;have h2:=cd hi;obtain ⟨a,rfl⟩:=zQQ h1.1;obtain ⟨n,rfl⟩:=zQQ h2.1;rw [qbV aD];have h3:a / 2 ^ n<=a:=Nat.div_le_self a _;rw [show (1:Int)=((1:Nat):Int) by rfl,qbU aD aD,Nat.and_one_is_mod];simp only [rg,Nat.testBit_eq_decide_div_mod_eq];generalize a / 2 ^ n=z;rw [zXX,beq_iff_eq,decide_eq_true_eq]; omega
theorem ta(u:Nat)(s i:Int):f9 u s i=some (d6 s i):=by
 unfold f9 d6;simp only [jP,Je,wk]
 cases h1:bD s with
 | false=>simp
 | true =>
  cases h2:fQ i with
  | false=>simp
  | true =>
   have h3:=cd h2;rw [bg aD];simp [qfX h1 h2]
theorem qt(u:Nat)(s i:Int):gH u s i=some (d6 s i):=by
 unfold gH d6;simp only [iX,b5,wk]
 cases h1:bD s with
 | false=>simp
 | true =>
  change ((bif true then (bif fQ i then _ else _) else _):Option Bool)=_
  cases h2:fQ i with
  | false=>simp
  | true =>
   have h3:=cd h2;simp only [cond_true];rw [bg aD];simp [qfX h1 h2]
def iP(s:Int):List Int:=if bD s then ((zXY 40).filter λi=>s.toNat.testBit i).map Int.ofNat else []
theorem SG{α ρ:Type}{fin:List α->Option ρ}{body:Nat->List α->(List α->Option ρ)->Option ρ}(f:Nat->Bool)(g:Nat->α)(n c:Nat)(hb:∀ i s k,i < n->s.length<=c+i->body i s k=k (if f i then s++[g i] else s)) :
  ∀ (m i:Nat) (s:List α),i+m=n->s.length<=c+i->qn fin body m i s=fin (s++(((List.range' i m).filter f).map g)):=by
 intro m
 induction m with
 | zero=>intro i s h1 h2; simp [qn]
 | succ m ih =>
  intro i s h1 h2;simp only [qn];rw [hb i s _ aD h2]
  cases hf:f i with
  | true =>
   simp only [if_true];rw [ih (i+1) _ aD il,List.range'_succ,List.filter_cons,hf];simp
  | false =>
   simp only [zQw,if_false];rw [ih (i+1) _ aD aD,List.range'_succ,List.filter_cons,hf];simp
theorem Jf{u:Nat}(hu:1099511627776<=u)(s:Int):vt u s=some (iP s):=by
 unfold vt;rw [NS u s [] u aD aD,SG (λi=>d6 s i) (λi=>(i:Int)) 40 0 _ (sY 40) 0 [] (by decide) jC]
 ·unfold FN xG iP;rw [show sY 40=40 by rfl,<- List.range_eq_range']
  cases h:bD s with
  | false=>simp [d6,h]
  | true =>
   simp only [zQy,if_true]
   congr 2
   apply List.filter_congr
   intro i hi;have hi:i < 40:=by simpa using hi
   have:fQ (i:Int)=true:=by simp [fQ,aw]; omega
   simp [d6,h,this]
 ·intro i t k hi ht;unfold FO;rw [ta];simp only [wk]
  cases d6 s i with
  | false=>simp [mW]
  | true =>
   simp only [cond_true,if_true];rw [bg il];simp [mW]
theorem T8{u:Nat}(hu:1099511627776<=u)(s:Int):zD u s=some (iP s):=by
 unfold zD;rw [NH u s [] u aD aD,SG (λi=>d6 s i) (λi=>(i:Int)) 40 0 _ (sY 40) 0 [] (by decide) jC]
 ·unfold FG xo iP;rw [show sY 40=40 by rfl,<- List.range_eq_range']
  cases h:bD s with
  | false=>simp [d6,h]
  | true =>
   simp only [zQy,if_true]
   congr 2
   apply List.filter_congr
   intro i hi;have hi:i < 40:=by simpa using hi
   have:fQ (i:Int)=true:=by simp [fQ,aw]; omega
   simp [d6,h,this]
 ·intro i t k hi ht;unfold FH;rw [qt];simp only [wk]
  cases d6 s i with
  | false=>simp [mU]
  | true =>
   simp only [cond_true,if_true];rw [bg il];simp [mU]
theorem qfY{s c:Int}(h1:0<=s)(h2:s < 36028797018963968)(h3:0<=c)(h4:c<=255):sC .i64 (iq .i64 s 8) c=256*s+c:=by
 obtain ⟨a,rfl⟩:=zQQ h1;obtain ⟨b,rfl⟩:=zQQ h3;have e:iq .i64 (a:Int) 8=((a*256:Nat):Int):=by
  unfold iq;rw [show min (sY (8:Int)) (IntKind.bits .i64)=8 by rfl];rw [wrap_i64 aD aD]; omega
 rw [e,KW aD aD];have h5:=Nat.shiftLeft_add_eq_or_of_lt (b:=b) (i:=8) aD a;rw [Nat.shiftLeft_eq,show (2:Nat) ^ 8=256 from rfl] at h5;rw [<- h5]; omega
theorem qaz(u:Nat):∀ (p b:List Int) (i:Nat) (s:Int) (n:Nat),aK b->0<=s->s < 256 ^ n*2->n+b.length<=6 ->
  bn (IP u p) (C0 u p) b i s=wF u p (ro b s):=by
 intro p b
 induction b with
 | nil=>intros; rfl
 | cons c b ih =>
  intro i s n hb h1 h2 h3;have hc:=hb c jC;simp only [zQq] at h3;have hp:(256:Int) ^ n<=1099511627776:=by
   rcases (show n=0\/n=1\/n=2\/n=3\/n=4\/n=5 by omega) with rfl | rfl | rfl | rfl | rfl | rfl <;> decide
  simp only [bn,C0];rw [wrap_i64 aD aD,qfY aD aD aD aD];exact ih (i+1) _ (n+1) (λz hz=>hb z wz7) aD qgj aD
theorem wZ{u:Nat}(hu:1099511627776<=u){b:List Int}(hb:aK b)(hl:b.length<=1073741824):mV u b=some (fd b):=by
 unfold mV fd
 by_cases h:6 < b.length
 ·have:(b.length:Int) > 6:=by omega
  simp [h,this]
 ·have:¬ ((b.length:Int) > 6):=by omega
  simp only [this,decide_false,cond_false,h,if_false];rw [S4 u b 1 u aD aD,qaz u b b 0 1 0 hb aD (by decide) aD];unfold wF;rw [EX hu hb hl];rfl
def M.win(b:List Int)(i n:Nat):List Int:=(b.take (i+n)).drop i
theorem WV(b:List Int)(i n:Nat):M.win b i n=(b.drop i).take n:=by
 unfold M.win; rw [List.drop_take]; congr 1; omega
theorem qc{b:List Int}(h:aK b)(i n:Nat):aK (M.win b i n):=λx hx=>h x (zXK (zYv hx))
theorem Iy{b:List Int}{i n:Nat}(h:i+n<=b.length):(M.win b i n).length=n:=by
 unfold M.win; rw [zZx,zQz]; omega
theorem win_le(b:List Int)(i n:Nat):(M.win b i n).length<=n:=by
 unfold M.win; rw [zZx,zQz]; omega
theorem eJ{a b n:Nat}(h1:a<=b)(h2:b<=n):de (dW (a:Int) (b:Int) (n:Int))=some ():=by
 have:dW (a:Int) (b:Int) (n:Int)=true:=by simp [dW]; omega
 rw [this]; rfl
theorem j7{a b:Nat}(h:a+b<=9223372036854775807):aS .i64 (a:Int) (b:Int)=((a+b:Nat):Int):=by
 rw [dQ aD aD]; omega
theorem LT(u:Nat){b:List Int}{i n:Nat}(h:i+n<=b.length)(hl:b.length<=1073741824):yb u b i n=some (M.win b i n,true):=by
 unfold yb wE;have h1:aw (i:Int) 0 (b.length:Int)=true:=by simp [aw]; omega
 have h2:aw (n:Int) 0 ((b.length:Int) - (i:Int))=true:=by simp [aw]; omega
 simp only [bK,h1,wk,cS (a:=(b.length:Int)) (b:=(i:Int)) aD aD,h2,r0,cond_false];rw [j7 aD,eJ aD h];simp only [wk,rg];rw [eY u il];rfl
def hP(b:List Int)(size i:Int):List Int×Bool :=
 let s:=cT size b.length i
 if s.2=0 then ([],false) else (M.win b s.1.toNat s.2.toNat,true)
theorem AE{size n i:Int}(hn:0<=n):0<=(cT size n i).1/\0<=(cT size n i).2/\(cT size n i).2<=6/\(cT size n i).1+(cT size n i).2<=n:=by
 unfold cT
 split
 ·rename_i h;have ⟨h1,h2,h3⟩:=HL h;have h4:=CB h1;have h5:=(cd h).2;unfold cE at h5;rw [if_pos h1] at h5;have h6:=HM h4.1 h4.2.1 h2 h3;have h7:i*size<=n:=by
   have h8:i+1<=(n+size - 1) / size:=by omega
   have h9:(i+1)*size<=n+size - 1:=(Int.le_ediv_iff_mul_le aD).1 h8;rw [zVQ] at h9;omega
  dsimp only;omega
 ·dsimp only; omega
theorem GH{b:List Int}(hb:aK b)(size i:Int):aK (hP b size i).1/\(hP b size i).1.length<=6:=by
 have h:=AE (size:=size) (n:=b.length) (i:=i) aD;unfold hP;dsimp only
 split
 ·exact ⟨by simp [aK],by simp⟩
 ·refine ⟨qc hb _ _,?_⟩;have:=win_le b (cT size b.length i).1.toNat (cT size b.length i).2.toNat;dsimp only;omega
theorem Jg(u:Nat){b:List Int}(hl:b.length<=1073741824)(size i:Int):pQ u b size i=some (hP b size i):=by
 have h:=AE (size:=size) (n:=b.length) (i:=i) aD;unfold pQ hP;simp only [rn,wk];generalize cT size b.length i=s at h;obtain ⟨a,n⟩:=s;dsimp only at h ⊢
 by_cases h0:n=0
 ·simp [h0]
 ·have:(n == 0)=false:=by simpa using h0
  obtain ⟨x,rfl⟩:=zQQ h.1;obtain ⟨y,rfl⟩:=zQQ h.2.1;simp only [this,cond_false,h0,if_false];rw [LT u aD hl];rfl
theorem Jh(u:Nat){b:List Int}(hl:b.length<=1073741824)(size i:Int):rG u b size i=some (hP b size i):=by
 have h:=AE (size:=size) (n:=b.length) (i:=i) aD;unfold rG hP;simp only [lY,wk];generalize cT size b.length i=s at h;obtain ⟨a,n⟩:=s;dsimp only at h ⊢
 by_cases h0:n=0
 ·simp [h0]
 ·have:(n == 0)=false:=by simpa using h0
  obtain ⟨x,rfl⟩:=zQQ h.1;obtain ⟨y,rfl⟩:=zQQ h.2.1;simp only [this,cond_false,h0,if_false];rw [j7 aD,eJ aD aD];simp only [wk,rg];rw [bg il];rfl
def Kd(b:List Int)(size:Int):List bQ:=(zXY (cE size b.length).toNat).map λ(i:Nat)=>fd (hP b size i).1
theorem SH{α ρ:Type}{fin:List α->Option ρ}{body:Nat->List α->(List α->Option ρ)->Option ρ}(g:Nat->α)(n:Nat)(hb:∀ i s k,i < n->s.length=i->body i s k=k (s++[g i])) :
  qn fin body n 0 []=fin ((zXY n).map g):=by
 have:∀ (m i:Nat) (s:List α),i+m=n->s.length=i->qn fin body m i s=fin (s++(List.range' i m).map g):=by
  intro m
  induction m with
  | zero=>intro i s h1 h2; simp [qn]
  | succ m ih =>
   intro i s h1 h2;simp only [qn];rw [hb i s _ aD h2,ih (i+1) _ aD (by simp [h2]),List.range'_succ];simp
 rw [this n 0 [] aD rfl,<- List.range_eq_range'];simp
theorem Ke{u:Nat}(hu:1099511627776<=u){b:List Int}(hb:aK b)(hl:b.length<=1073741824)(size:Int):yI u b size=some (Kd b size):=by
 unfold yI;have hr:=blocks_range size b.length;rw [uD];simp only [wk];rw [Qy u b size _ [] u aD aD,SH (λi=>fd (hP b size i).1)]
 ·rfl
 ·intro i s k hi hs;unfold Hi;have h:=GH hb size (i:Int);rw [Jg u hl];simp only [wk];rw [wZ hu h.1 aD];simp only [wk];rw [bg il];rfl
theorem Kf{u:Nat}(hu:1099511627776<=u){b:List Int}(hb:aK b)(hl:b.length<=1073741824)(size:Int):yE u b size=some (Kd b size):=by
 unfold yE;have hr:=blocks_range size b.length;rw [o3 (n:=cE size b.length) (fin:=Ej u) (body:=λi (s:List bQ) k=>(rG u b size (i:Int)).bind λr8=>(je u r8.1).bind λr9=>(de (decide ((s.length+([r9]).length)*16<=140737488355328))).bind λ_=>k (s++[r9]))
  (λk (s:List bQ) i=>qG u k b size s i) aD (λk s i=>by rw [qG,iW]; rfl) [] aD,SH (λi=>fd (hP b size i).1)]
 ·rfl
 ·intro i s k hi hs;have h:=GH hb size (i:Int);rw [Jh u hl];simp only [wk];rw [qr hu h.1 aD];simp only [wk];rw [bg il];rfl
def O7(gen:Int)(b:List Int)(size:Int):ae:=if aw gen 1 1000000 && fM size b.length then ⟨gen,size,b.length,Kd b size⟩ else ⟨0,0,0,[]⟩
theorem YN{u:Nat}(hu:1099511627776<=u){b:List Int}(hb:aK b)(hl:b.length<=1073741824)(gen size:Int):Ez u gen b size=some (O7 gen b size):=by
 unfold Ez BH O7;simp only [bK,uB,wk,Ke hu hb hl]
 cases aw gen 1 1000000 <;> cases fM size b.length <;> simp
theorem YO{u:Nat}(hu:1099511627776<=u){b:List Int}(hb:aK b)(hl:b.length<=1073741824)(gen size:Int):Ek u gen b size=some (O7 gen b size):=by
 unfold Ek BD O7;simp only [b5,uC,wk,Kf hu hb hl]
 cases aw gen 1 1000000 <;> cases fM size b.length <;> simp
def MP:List Int->Int
 | []=>0
 | c :: b=>c+MP b
def T9:List Int->Int
 | []=>0
 | c :: b=>((b.length:Int)+1)*c+T9 b
theorem qeL:∀ (b:List Int) (x y:Int),vL b x y=match b with | []=>(x,y) | _=>((x+MP b) % 251,(y+b.length*x+T9 b) % 251):=by
 intro b
 induction b with
 | nil=>intro x y; rfl
 | cons c b ih =>
  intro x y;simp only [vL];rw [ih]
  cases b with
  | nil=>simp [MP,T9,Int.add_assoc]
  | cons d b =>
   simp only [MP,T9,zQq];refine Prod.ext ?_ ?_
   ·dsimp only; omega
   ·dsimp only;have e:((b.length:Int)+1)*((x+c) % 251) % 251=((b.length:Int)+1)*(x+c) % 251:=by rw [Int.mul_emod,Int.emod_emod_of_dvd _ (Int.dvd_refl 251),<- Int.mul_emod]
    have e1:((b.length:Int)+1)*(x+c)=((b.length:Int)+1)*x+((b.length:Int)+1)*c:=Int.mul_add _ _ _;have e2:((b.length:Int)+1+1)*x=((b.length:Int)+1)*x+x:=by rw [zVQ]; omega
    have e3:((b.length:Int)+1+1)*c=((b.length:Int)+1)*c+c:=by rw [zVQ]; omega
    push_cast
    rw [e2,e3];rw [e1] at e;generalize ((b.length:Int)+1)*((x+c) % 251)=p at *;generalize ((b.length:Int)+1)*x=q at *;generalize ((b.length:Int)+1)*c=r at *;generalize ((b.length:Int)+1)*d=t at *;omega
theorem WW{b:List Int}:cP b=MP b % 251+251*(T9 b % 251):=by
 unfold cP;rw [qeL]
 cases b with
 | nil=>simp [MP,T9]
 | cons c b=>dsimp only; simp
theorem qhN(b:List Int)(d:Int):MP (b++[d])=MP b+d:=by
 induction b with
 | nil=>simp [MP]
 | cons c b ih=>simp only [zXz,MP,ih]; omega
theorem qhO(b:List Int)(d:Int):T9 (b++[d])=T9 b+MP b+d:=by
 induction b with
 | nil=>simp [MP,T9]
 | cons c b ih =>
  simp only [zXz,MP,T9,ih,zQh,zYx]
  push_cast
  rw [zVQ ((b.length:Int)+1) 1 c];omega
theorem qaA(u:Nat)(n m:Int):Bd u n m=some (if aw m 1 1000000000000 then n % m else 0):=by
 unfold Bd;simp only [b5,wk]
 cases h:aw m 1 1000000000000 with
 | false=>simp
 | true =>
  have h3:=cd h;have hb:(m == 0)=false:=by simp; omega
  have h4:=WR (n:=n) (m:=m) aD;simp only [hb,r0,cond_false,zYJ,VP,wk];have e1:ut .i64 n m=n.tmod m:=rfl;rw [e1,dQ aD aD];show some ((n.tmod m+m).tmod m)=_;rw [ZI aD]; simp
theorem O8(u:Nat)(w:Int):DZ u w=some (aw w 0 63000):=by simp [DZ,b5]
theorem MQ(u:Nat){w:Int}(h:aw w 0 63000=true):sm u w=some (w % 251,w / 251):=by
 unfold sm;have:=cd h;rw [O8,h];simp (disch:=omega) [Hy,VO]
theorem qaB(u:Nat){c d:Int}{m:List Int}(hc:0<=c/\c<=255)(hd:0<=d/\d<=255)(hm:m.length<=5):D0 u (cP (c :: m)) ((m.length:Int)+1) c d=some (cP (m++[d])):=by
 unfold D0 u9;have h0:=Iu (c :: m);have h1:aw (cP (c :: m)) 0 63000=true:=by simp [aw]; omega
 have h2:aw ((m.length:Int)+1) 1 1000000000000=true:=by simp [aw]; omega
 have h3:aw c 0 255=true:=by simp [aw]; omega
 have h4:aw d 0 255=true:=by simp [aw]; omega
 have h5:aw 251 1 1000000000000=true:=by decide
 have h6:((m.length:Int)+1)*c<=6*255:=Int.mul_le_mul aD aD aD aD;have h7:0<=((m.length:Int)+1)*c:=Int.mul_nonneg aD aD;simp only [O8,b5,h1,h2,h3,h4,wk,r0,cond_false,MQ u h1,qaA,h5,if_true];rw [Hy aD,Int.emod_eq_of_lt (a:=(m.length:Int)+1) aD aD];have e:=WW (b:=c :: m);have e2:=WW (b:=m++[d]);rw [e2,qhN,qhO];simp only [MP,T9] at e;rw [lW (a:=(m.length:Int)+1) (b:=c) aD aD];generalize cP (c :: m)=w at *;generalize ((m.length:Int)+1)*c=q at *;generalize MP m=sx at *;generalize T9 m=sy at *;rw [cS (a:=w / 251) aD aD,cS (a:=w % 251) aD aD,dQ (a:=w % 251 - c) aD aD];rw [dQ (a:=(w / 251 - q) % 251) aD aD];rw [lW aD aD,dQ aD aD]
 congr 1
 omega
theorem qfZ{b:List Int}{i n:Nat}{c:Int}(hc:b[i]?=some c):M.win b i (n+1)=c :: M.win b (i+1) n:=by
 rw [WV,WV];obtain ⟨h,rfl⟩:=aab.1 hc;rw [zWh h,List.take_succ_cons]
theorem qf0{b:List Int}{i n:Nat}{d:Int}(hd:b[i+n]?=some d):M.win b i (n+1)=M.win b i n++[d]:=by
 rw [WV,WV,List.take_add_one]
 congr 1
 rw [zQJ,hd]; rfl
def vM(b:List Int)(n:Nat):List Int:=if n<=b.length then (zXY (b.length+1 - n)).map λi=>cP (M.win b i n) else []
theorem MR(u:Nat){b:List Int}(hb:aK b)(hl:b.length<=1073741824){n:Nat}(h1:1<=n)(h2:n<=6):∀ (m k j:Nat),n+j+m=b.length->m < k ->
  i7 u k b n ((zXY (j+1)).map λi=>cP (M.win b i n)) (cP (M.win b j n)) ((n+j:Nat):Int)=some ((zXY (j+1+m)).map λi=>cP (M.win b i n)):=by
 intro m
 induction m with
 | zero =>
  intro k j h3 h4;obtain ⟨k,rfl⟩:∃ i,k=i+1:=⟨k - 1,by omega⟩;unfold i7;have:¬ (((n+j:Nat):Int) < (b.length:Int)):=by omega
  simp only [this,decide_false,cond_false,xq,zXy]
 | succ m ih =>
  intro k j h3 h4;obtain ⟨k,rfl⟩:∃ i,k=i+1:=⟨k - 1,by omega⟩;unfold i7;have h5:((n+j:Nat):Int) < (b.length:Int):=by omega
  have e:cJ .i64 ((n+j:Nat):Int) (n:Int)=(j:Int):=by rw [cS aD aD]; omega
  simp only [h5,decide_true,cond_true,e,bu];have hc:=sX (l:=b) (i:=j) aD;have hd:=sX (l:=b) (i:=n+j) aD;rw [hc,hd];simp only [wk];have hcb:=hb _ (zZW (l:=b) (n:=j) aD);have hdb:=hb _ (zZW (l:=b) (n:=n+j) aD);rw [wrap_i64 (n:=b[j]) aD aD,wrap_i64 (n:=b[n+j]) aD aD];obtain ⟨n,rfl⟩:∃ i,n=i+1:=⟨n - 1,by omega⟩;have e1:=qfZ (n:=n) hc;have e2:M.win b (j+1) (n+1)=M.win b (j+1) n++[b[n+1+j]]:=qf0 (by rw [show j+1+n=n+1+j by omega]; exact hd);have hw:(M.win b (j+1) n).length=n:=Iy aD;have hroll:=qaB u (c:=b[j]) (d:=b[n+1+j]) (m:=M.win b (j+1) n) hcb hdb aD;rw [hw,<- e1,<- e2] at hroll;rw [show ((n+1:Nat):Int)=(n:Int)+1 by omega,hroll];simp only [wk];rw [bg il];simp only [wk];rw [show (List.map (λi=>cP (M.win b i (n+1))) (zXY (j+1))++[cP (M.win b (j+1) (n+1))])=(zXY (j+1+1)).map λi=>cP (M.win b i (n+1)) by rw [List.range_succ (n:=j+1),zXh]; rfl];rw [jj aD];have:=ih k (j+1) aD aD;rw [show ((n+1:Nat):Int)=(n:Int)+1 by omega] at this;rw [show n+1+j+1=n+1+(j+1) by omega,this,show j+1+1+m=j+1+(m+1) by omega]
theorem Ua{u:Nat}(hu:1099511627776<=u){b:List Int}(hb:aK b)(hl:b.length<=1073741824){n:Nat}(h1:1<=n)(h2:n<=6):zE u b n=some (vM b n):=by
 unfold zE xr vM;have h3:¬ ((n:Int) < 1):=by omega
 simp only [h3,decide_false,cond_false]
 by_cases h4:n<=b.length
 ·have h5:¬ ((n:Int) > (b.length:Int)):=by omega
  simp only [h5,decide_false,cond_false,h4,if_true];rw [show (0:Int)=((0:Nat):Int) by rfl,eJ aD h4];simp only [wk,rg];have e:List.drop 0 (List.take n b)=M.win b 0 n:=by simp [M.win]
  rw [e,AD hu (qc hb _ _) (by have:=win_le b 0 n; omega)];simp only [wk];rw [bg jC];have:=MR u hb hl h1 h2 (b.length - n) u 0 aD aD;simp only [zXy,zWJ] at this;rw [show (zXY 1).map (λi=>cP (M.win b i n))=[cP (M.win b 0 n)] by rfl] at this;simp only [wk,zQy];rw [this,show 1+(b.length - n)=b.length+1 - n by omega]
 ·have h5:((n:Int) > (b.length:Int)):=by omega
  simp [h5,h4]
def ir(b:List Int)(s:bQ)(n:Nat):Nat->Nat->Int
 | 0,_=>-1
 | c+1,i=>if fd (M.win b i n)=s then i else ir b s n c (i+1)
def yR(b:List Int)(s:bQ)(n:Int):Int:=if aw n 1 6 then ir b s n.toNat (b.length+1 - n.toNat) 0 else -1
theorem WX(b:List Int)(s:bQ)(n:Nat):∀ c i,-1<=ir b s n c i/\ir b s n c i < i+c:=by
 intro c
 induction c with
 | zero=>intro i; simp [ir]; omega
 | succ c ih =>
  intro i;unfold ir;have:=ih (i+1)
  split <;> omega
theorem Gb(x y:bQ):(([x.fW,x.fS]:List Int) == [y.fW,y.fS])=decide (x=y):=by
 obtain ⟨a,b⟩:=x;obtain ⟨c,d⟩:=y;rw [zXX]; simp
theorem MS{u:Nat}(hu:1099511627776<=u){b:List Int}(hb:aK b)(hl:b.length<=1073741824)(s:bQ){n:Nat}(h1:1<=n)(h2:n<=6):∀ (c k i:Nat),i+c=b.length+1 - n\/(c=0/\b.length+1 - n<=i)->i<=1073741824->c < k ->
  m2 u k b n i s=some (ir b s n c i):=by
 intro c
 induction c with
 | zero =>
  intro k i h3 hi h4;obtain ⟨k,rfl⟩:∃ i,k=i+1:=⟨k - 1,by omega⟩;unfold m2;rw [j7 aD];have:¬ (((i+n:Nat):Int)<=(b.length:Int)):=by omega
  simp only [this,decide_false,cond_false,C6,ir]
 | succ c ih =>
  intro k i h3 hi h4;obtain ⟨k,rfl⟩:∃ i,k=i+1:=⟨k - 1,by omega⟩;unfold m2;rw [j7 aD];have h5:(((i+n:Nat):Int)<=(b.length:Int)):=by omega
  simp only [h5,decide_true,cond_true,rg];rw [eJ aD aD];simp only [wk]
  change ((mV u (M.win b i n)).bind _)=_
  rw [wZ hu (qc hb _ _) qhv];simp only [wk,Gb,ir]
  by_cases h6:fd (M.win b i n)=s
  ·simp [h6]
  ·simp only [h6,decide_false,cond_false,if_false];rw [jj aD];exact ih k (i+1) aD aD aD
theorem Ub{u:Nat}(hu:1099511627776<=u){b:List Int}(hb:aK b)(hl:b.length<=1073741823)(s:bQ)(n:Int):Ae u b s n=some (yR b s n):=by
 unfold Ae yR;rw [bK];simp only [wk]
 cases h:aw n 1 6 with
 | false=>simp
 | true =>
  have h:=cd h;obtain ⟨n,rfl⟩:=zQQ (show 0<=n by omega);simp only [r0,cond_false,if_true,rg];exact MS hu hb aD s aD aD (b.length+1 - n) u 0 aD aD aD
theorem qc1{b:List Int}(h:b.length<=6):(fd b).fW=cP b:=by
 unfold fd; rw [if_neg aD]
theorem MT{u:Nat}(hu:1099511627776<=u){b:List Int}(hb:aK b)(hl:b.length<=1073741823)(s:bQ){n:Nat}(h1:1<=n)(h2:n<=6):∀ (c k i:Nat),i+c=b.length+1 - n->c < k ->
  fy u k b n (vM b n) i s=some (ir b s n c i):=by
 have hlen:(vM b n).length=b.length+1 - n:=by
  unfold vM
  split
  ·simp
  ·simp; omega
 intro c
 induction c with
 | zero =>
  intro k i h3 h4;obtain ⟨k,rfl⟩:∃ i,k=i+1:=⟨k - 1,by omega⟩;unfold fy;have:¬ ((i:Int) < ((vM b n).length:Int)):=by omega
  simp only [this,decide_false,cond_false,xt,ir]
 | succ c ih =>
  intro k i h3 h4;obtain ⟨k,rfl⟩:∃ i,k=i+1:=⟨k - 1,by omega⟩;unfold fy;have h5:((i:Int) < ((vM b n).length:Int)):=by omega
  have hx:(vM b n)[i]?=some (cP (M.win b i n)):=by
   unfold vM;rw [if_pos aD,zQk,zYg aD]; rfl
  simp only [h5,decide_true,cond_true,bu,hx,wk];rw [j7 aD,eJ aD aD];simp only [wk,rg]
  change (bif _ then ((je u (M.win b i n)).bind _) else _)=_
  rw [qr hu (qc hb _ _) qhv];simp only [wk,Gb,ir,pk,cond_false,jj (show i < 9223372036854775807 by omega),ih k (i+1) aD aD]
  by_cases h6:fd (M.win b i n)=s
  ·have h7:cP (M.win b i n)=s.fW:=by rw [<- h6,qc1 qhv]
   simp [h6,h7]
  ·cases cP (M.win b i n) == s.fW <;> simp [h6]
theorem Uc{u:Nat}(hu:1099511627776<=u){b:List Int}(hb:aK b)(hl:b.length<=1073741823)(s:bQ)(n:Int):zF u b s n=some (yR b s n):=by
 unfold zF yR;rw [b5];simp only [wk]
 cases h:aw n 1 6 with
 | false=>simp
 | true =>
  have h:=cd h;obtain ⟨n,rfl⟩:=zQQ (show 0<=n by omega);simp only [r0,cond_false,if_true,rg];rw [Ua hu hb aD aD aD];exact MT hu hb aD s aD aD (b.length+1 - n) u 0 aD aD
def d7(b:List Int)(m:ae)(i:Nat):Int:=match m.aI[i]? with
 | some s=>yR b s (cT m.aG m.aV i).2
 | none=>-1
theorem Ud{u:Nat}(hu:1099511627776<=u){b:List Int}(hb:aK b)(hl:b.length<=1073741823){m:ae}(hm:m.aI.length<=1073741824)(i:Nat):vA u b m i=some (d7 b m i):=by
 unfold vA d7;rw [rn];simp only [wk];rw [cS aD aD,bK]
 by_cases h:i < m.aI.length
 ·have h1:aw (i:Int) 0 ((m.aI.length:Int) - 1)=true:=by simp [aw]; omega
  simp only [h1,wk,r0,cond_false,bu,sX h,Ub hu hb hl]
 ·have h1:aw (i:Int) 0 ((m.aI.length:Int) - 1)=false:=by simp [aw]; omega
  simp only [h1,wk,zYJ,cond_true,List.getElem?_eq_none (show m.aI.length<=i by omega)]
theorem Ue{u:Nat}(hu:1099511627776<=u){b:List Int}(hb:aK b)(hl:b.length<=1073741823){m:ae}(hm:m.aI.length<=1073741824)(i:Nat):vd u b m i=some (d7 b m i):=by
 unfold vd xu d7;rw [lY];simp only [wk,Uc hu hb hl,bu]
 by_cases h:i < m.aI.length
 ·have h1:¬ ((i:Int)>=(m.aI.length:Int)):=by omega
  simp only [sX h,wk,h1,decide_false,cond_false,cond_true]
  by_cases h2:(cT m.aG m.aV i).2=0
  ·have:yR b m.aI[i] 0=-1:=by simp [yR,aw]
   simp [h2,this]
  ·have:((cT m.aG m.aV i).2 == 0)=false:=by simpa using h2
   simp [this]
 ·have h1:((i:Int)>=(m.aI.length:Int)):=by omega
  simp only [List.getElem?_eq_none (show m.aI.length<=i by omega),h1,decide_true,cond_true]
  cases ((cT m.aG m.aV i).2 == 0) <;> simp
theorem Uf(u:Nat){n:Nat}(h:n<=40):uT u n=some ((2 ^ n - 1:Nat):Int):=by
 unfold uT;have h1:aw (n:Int) 0 40=true:=by simp [aw]; omega
 rw [b5,h1];simp only [wk,r0,cond_false];have h2:(2:Nat) ^ n<=2 ^ 40:=zXJ aD h;have h3:0 < (2:Nat) ^ n:=Nat.pow_pos aD;rw [bg aD,RB aD];generalize (2:Nat) ^ n=p at *;rw [cS aD aD];simp only [wk]
 congr 1
 omega
theorem na{u:Nat}(hu:1099511627776<=u){x:List Int}{n:Int}(h0:0<=n)(h1:n<=1048576)(hw:(LI (lU .u8)) x):i6 u x n=some (jk n x.length):=JT h0 h1 hw.1
theorem nb{u:Nat}(hu:1099511627776<=u){x:List Int}(h:x.length<=68719476736):jS u x=some x:=by
 have hlen:x.length<=68719476736:=by omega
 unfold jS;rw [BM,bg wz6];simp only [wk,rg];rw [Nk u x _ u aD aD,nG]
 ·rfl
 ·intro y i s k hx hi;unfold Fu;rw [bu,sX hi]; simp
theorem nc{u:Nat}(hu:1099511627776<=u){x:List Int}(h:x.length<=68719476736):j4 u x x=some true:=by
 have hlen:x.length<=68719476736:=by omega
 unfold j4;simp only [bne_self_eq_false,cond_false];rw [NZ u x x () u aD aD,s6 (xs:=x) _ x 0 jC]
 ·rfl
 ·intro y i k hx;unfold FT;rw [bu,hx]; simp
theorem HN(u:Nat)(x:ct):sJ u x=some x:=by
 unfold sJ;rfl
theorem HO(u:Nat)(x:ct):s4 u x x=some true:=by
 unfold s4;simp []
def gr(x:bR):Nat:=x.fB.length
theorem YP{u:Nat}(hu:1099511627776<=u){x:bR}{n:Int}(h0:0<=n)(h1:n<=1048576)(hw:bR.wf x):AW u x n=some (jk n (gr x)):=by
 unfold AW gr;rw [na hu h0 h1 hw.2.2.1];simp only [wk];exact vH
theorem YQ{u:Nat}(hu:1099511627776<=u){x:bR}(h:gr x<=68719476736):A0 u x=some x:=by
 unfold gr at h;unfold A0;rw [nb hu aD,HN u _]; rfl
theorem YR{u:Nat}(hu:1099511627776<=u){x:bR}(h:gr x<=68719476736):Bp u x x=some true:=by
 unfold gr at h;unfold Bp;simp [nc hu (x:=x.fB) aD,HO]
theorem YS(u:Nat)(x:Kid):AZ u x=some x:=by
 unfold AZ;rfl
theorem YT(u:Nat)(x:Kid):Bo u x x=some true:=by
 unfold Bo;simp []
theorem YU(u:Nat)(x:bQ):AY u x=some x:=by
 unfold AY;rfl
theorem YV(u:Nat)(x:bQ):Bn u x x=some true:=by
 unfold Bn;simp []
theorem WY{u:Nat}(hu:1099511627776<=u){x:List Int}{n:Int}(h0:0<=n)(h1:n<=1048576)(hw:(LI (lU .i64)) x):Fo u x n=some (jk n x.length):=JT h0 h1 hw.1
theorem WZ{u:Nat}(hu:1099511627776<=u){x:List Int}(h:x.length<=68719476736):BY u x=some x:=by
 have hlen:x.length<=68719476736:=by omega
 unfold BY;rw [BM,bg wz6];simp only [wk,rg];rw [P7 u x _ u aD aD,nG]
 ·rfl
 ·intro y i s k hx hi;unfold GU;rw [bu,sX hi]; simp
theorem W0{u:Nat}(hu:1099511627776<=u){x:List Int}(h:x.length<=68719476736):Cq u x x=some true:=by
 have hlen:x.length<=68719476736:=by omega
 unfold Cq;simp only [bne_self_eq_false,cond_false];rw [QJ u x x () u aD aD,s6 (xs:=x) _ x 0 jC]
 ·rfl
 ·intro y i k hx;unfold Hr;rw [bu,hx]; simp
def yS(x:bV):Nat:=x.bP.length
theorem W3{u:Nat}(hu:1099511627776<=u){x:bV}{n:Int}(h0:0<=n)(h1:n<=1048576)(hw:bV.wf x):BW u x n=some (jk n (yS x)):=by
 unfold BW yS;rw [WY hu h0 h1 hw.1];simp only [wk];exact vH
theorem W4{u:Nat}(hu:1099511627776<=u){x:bV}(h:yS x<=68719476736):BZ u x=some x:=by
 unfold yS at h;unfold BZ;rw [WZ hu aD]; rfl
theorem W5{u:Nat}(hu:1099511627776<=u){x:bV}(h:yS x<=68719476736):Cr u x x=some true:=by
 unfold yS at h;unfold Cr;simp [W0 hu (x:=x.bP) aD]
theorem W6(u:Nat)(x:eG):BX u x=some x:=by
 unfold BX;rfl
theorem W7(u:Nat)(x:eG):Cp u x x=some true:=by
 unfold Cp;simp []
theorem W8{u:Nat}(hu:1099511627776<=u){x:List bQ}{n:Int}(h0:0<=n)(h1:n<=1048576)(hw:(LI bQ.wf) x):Fq u x n=some (jk n x.length):=JT h0 h1 hw.1
theorem W9{u:Nat}(hu:1099511627776<=u){x:List bQ}(h:x.length<=68719476736):B0 u x=some x:=by
 have hlen:x.length<=68719476736:=by omega
 unfold B0;rw [BM,bg wz6];simp only [wk,rg];rw [P9 u x _ u aD aD,nG]
 ·rfl
 ·intro y i s k hx hi;unfold GV;rw [YU u _];rw [bu,sX hi]; simp
theorem Xa{u:Nat}(hu:1099511627776<=u){x:List bQ}(h:x.length<=68719476736):Ct u x x=some true:=by
 have hlen:x.length<=68719476736:=by omega
 unfold Ct;simp only [bne_self_eq_false,cond_false];rw [QL u x x () u aD aD,s6 (xs:=x) _ x 0 jC]
 ·rfl
 ·intro y i k hx;unfold Hs;rw [bu,hx];simp only [wk];rw [YV]; simp
def nI(x:ae):Nat:=x.aI.length
theorem MU{u:Nat}(hu:1099511627776<=u){x:ae}{n:Int}(h0:0<=n)(h1:n<=1048576)(hw:ae.wf x):rZ u x n=some (jk n (nI x)):=by
 unfold rZ nI;rw [W8 hu h0 h1 hw.2.2.2.1];simp only [wk];exact vH
theorem MV{u:Nat}(hu:1099511627776<=u){x:ae}(h:nI x<=68719476736):sd u x=some x:=by
 unfold nI at h;unfold sd;rw [W9 hu aD]; rfl
theorem MW{u:Nat}(hu:1099511627776<=u){x:ae}(h:nI x<=68719476736):sB u x x=some true:=by
 unfold nI at h;unfold sB;simp [Xa hu (x:=x.aI) aD]
def uF(x:aY):Nat:=x.bj.length
theorem Ug{u:Nat}(hu:1099511627776<=u){x:aY}{n:Int}(h0:0<=n)(h1:n<=1048576)(hw:aY.wf x):uQ u x n=some (jk n (uF x)):=by
 unfold uQ uF;rw [na hu h0 h1 hw.2.1];simp only [wk];exact vH
theorem Uh{u:Nat}(hu:1099511627776<=u){x:aY}(h:uF x<=68719476736):y0 u x=some x:=by
 unfold uF at h;unfold y0;rw [nb hu aD]; rfl
theorem Ui{u:Nat}(hu:1099511627776<=u){x:aY}(h:uF x<=68719476736):Ak u x x=some true:=by
 unfold uF at h;unfold Ak;simp [nc hu (x:=x.bj) aD]
theorem Xb{u:Nat}(hu:1099511627776<=u){x:List Kid}{n:Int}(h0:0<=n)(h1:n<=1048576)(hw:(LI Kid.wf) x):yv u x n=some (jk n x.length):=JT h0 h1 hw.1
theorem Xc{u:Nat}(hu:1099511627776<=u){x:List Kid}(h:x.length<=68719476736):B1 u x=some x:=by
 have hlen:x.length<=68719476736:=by omega
 unfold B1;rw [BM,bg wz6];simp only [wk,rg];rw [Qb u x _ u aD aD,nG]
 ·rfl
 ·intro y i s k hx hi;unfold GW;rw [YS u _];rw [bu,sX hi]; simp
theorem Xd{u:Nat}(hu:1099511627776<=u){x:List Kid}(h:x.length<=68719476736):Cu u x x=some true:=by
 have hlen:x.length<=68719476736:=by omega
 unfold Cu;simp only [bne_self_eq_false,cond_false];rw [QN u x x () u aD aD,s6 (xs:=x) _ x 0 jC]
 ·rfl
 ·intro y i k hx;unfold Ht;rw [bu,hx];simp only [wk];rw [YT]; simp
def d8(x:aA):Nat:=nI x.ay+(uF x.aZ+(x.aW.length))
theorem Xe{u:Nat}(hu:1099511627776<=u){x:aA}{n:Int}(h0:0<=n)(h1:n<=1048576)(hw:aA.wf x):yw u x n=some (jk n (d8 x)):=by
 unfold yw d8;rw [MU hu h0 h1 hw.2.2.2.1];simp only [wk];exact pB (c:=uF x.aZ+(x.aW.length)) (f:=λr=>(uQ u x.aZ r).bind λr1=>bif decide (r1 < 0) then some (-1) else ((yv u x.aW r1).bind λr2=>bif decide (r2 < 0) then some (-1) else (some r2))) (λv0 h2v0 h3v0=>by rw [Ug hu h2v0 aD hw.2.2.2.2.1]; simp only [wk]; exact pB (c:=x.aW.length) (f:=λr=>(yv u x.aW r).bind λr2=>bif decide (r2 < 0) then some (-1) else (some r2)) (λv1 h2v1 h3v1=>by rw [Xb hu h2v1 aD hw.2.2.2.2.2.2.1]; simp only [wk]; exact vH) h2v0) h0
theorem Xf{u:Nat}(hu:1099511627776<=u){x:aA}(h:d8 x<=68719476736):yz u x=some x:=by
 unfold d8 at h;unfold yz;rw [MV hu aD,Uh hu aD,Xc hu aD]; rfl
theorem Xg{u:Nat}(hu:1099511627776<=u){x:aA}(h:d8 x<=68719476736):yM u x x=some true:=by
 unfold d8 at h;unfold yM;simp [MW hu (x:=x.ay) aD,Ui hu (x:=x.aZ) aD,Xd hu (x:=x.aW) aD]
theorem Xh{u:Nat}(hu:1099511627776<=u){x:List bR}{n:Int}(h0:0<=n)(h1:n<=1048576)(hw:(LI bR.wf) x):yx u x n=some (jk n (ik gr x)) :=
 HB (c:=Te gr x) (f:=λr=>oA u u x r 0) (λhm r h2 h3=>by
  rw [P5 u x r u aD aD];exact JU (f:=gr) (λs=>rfl) (λy i s k hy hs0 hs1=>by unfold GT; rw [YP hu hs0 hs1 (hw.2 y hy)]; rfl) x 0 r (λ_ h=>h) h2 aD) h0 h1 hw.1
theorem Xi{u:Nat}(hu:1099511627776<=u){x:List bR}(h:Pu.ik gr x<=68719476736):B2 u x=some x:=by
 have hlen:x.length<=68719476736:=by have:=iO (f:=gr) x; omega
 unfold B2;rw [BM,bg wz6];simp only [wk,rg];rw [Qd u x _ u aD aD,nG]
 ·rfl
 ·intro y i s k hx hi;unfold GX;rw [YQ hu (zWV (iN (f:=gr) hx) h)];rw [bu,sX hi]; simp
theorem Xj{u:Nat}(hu:1099511627776<=u){x:List bR}(h:Pu.ik gr x<=68719476736):Cv u x x=some true:=by
 have hlen:x.length<=68719476736:=by have:=iO (f:=gr) x; omega
 unfold Cv;simp only [bne_self_eq_false,cond_false];rw [QP u x x () u aD aD,s6 (xs:=x) _ x 0 jC]
 ·rfl
 ·intro y i k hx;unfold Hu;rw [bu,hx];simp only [wk];rw [YR hu (zWV (iN (f:=gr) (zQX hx)) h)]; simp
def dS(x:ar):Nat:=x.fA.length+(x.fB.length+(Pu.ik gr x.fP))
theorem Xk{u:Nat}(hu:1099511627776<=u){x:ar}{n:Int}(h0:0<=n)(h1:n<=1048576)(hw:ar.wf x):yy u x n=some (jk n (dS x)):=by
 unfold yy dS;rw [na hu h0 h1 hw.1];simp only [wk];exact pB (c:=x.fB.length+(Pu.ik gr x.fP)) (f:=λr=>(i6 u x.fB r).bind λr1=>bif decide (r1 < 0) then some (-1) else ((yx u x.fP r1).bind λr2=>bif decide (r2 < 0) then some (-1) else (some r2))) (λv0 h2v0 h3v0=>by rw [na hu h2v0 aD hw.2.1]; simp only [wk]; exact pB (c:=Pu.ik gr x.fP) (f:=λr=>(yx u x.fP r).bind λr2=>bif decide (r2 < 0) then some (-1) else (some r2)) (λv1 h2v1 h3v1=>by rw [Xh hu h2v1 aD hw.2.2.2.1]; simp only [wk]; exact vH) h2v0) h0
theorem Xl{u:Nat}(hu:1099511627776<=u){x:ar}(h:dS x<=68719476736):yA u x=some x:=by
 unfold dS at h;unfold yA;rw [nb hu aD,nb hu aD,HN u _,Xi hu aD]; rfl
theorem Xm{u:Nat}(hu:1099511627776<=u){x:ar}(h:dS x<=68719476736):yN u x x=some true:=by
 unfold dS at h;unfold yN;simp [nc hu (x:=x.fA) aD,nc hu (x:=x.fB) aD,HO,Xj hu (x:=x.fP) aD]
theorem Xn(u:Nat)(x:br):yB u x=some x:=by
 unfold yB;rfl
theorem Xo(u:Nat)(x:br):yO u x x=some true:=by
 unfold yO;simp []
def d2(x:aM):Nat:=x.fB.length
theorem Uj{u:Nat}(hu:1099511627776<=u){x:aM}{n:Int}(h0:0<=n)(h1:n<=1048576)(hw:aM.wf x):uP u x n=some (jk n (d2 x)):=by
 unfold uP d2;rw [na hu h0 h1 hw.1];simp only [wk];exact vH
theorem Uk{u:Nat}(hu:1099511627776<=u){x:aM}(h:d2 x<=68719476736):uR u x=some x:=by
 unfold d2 at h;unfold uR;rw [nb hu aD]; rfl
theorem Ul{u:Nat}(hu:1099511627776<=u){x:aM}(h:d2 x<=68719476736):vE u x x=some true:=by
 unfold d2 at h;unfold vE;simp [nc hu (x:=x.fB) aD]
theorem RC{u:Nat}(hu:1099511627776<=u){x:List aM}{n:Int}(h0:0<=n)(h1:n<=1048576)(hw:(LI aM.wf) x):sH u x n=some (jk n (ik d2 x)) :=
 HB (c:=Te d2 x) (f:=λr=>kS u u x r 0) (λhm r h2 h3=>by
  rw [Mb u x r u aD aD];exact JU (f:=d2) (λs=>rfl) (λy i s k hy hs0 hs1=>by unfold D9; rw [Uj hu hs0 hs1 (hw.2 y hy)]; rfl) x 0 r (λ_ h=>h) h2 aD) h0 h1 hw.1
theorem RD{u:Nat}(hu:1099511627776<=u){x:List aM}(h:Pu.ik d2 x<=68719476736):wm u x=some x:=by
 have hlen:x.length<=68719476736:=by have:=iO (f:=d2) x; omega
 unfold wm;rw [BM,bg wz6];simp only [wk,rg];rw [Md u x _ u aD aD,nG]
 ·rfl
 ·intro y i s k hx hi;unfold Ec;rw [Uk hu (zWV (iN (f:=d2) hx) h)];rw [bu,sX hi]; simp
theorem RE{u:Nat}(hu:1099511627776<=u){x:List aM}(h:Pu.ik d2 x<=68719476736):wR u x x=some true:=by
 have hlen:x.length<=68719476736:=by have:=iO (f:=d2) x; omega
 unfold wR;simp only [bne_self_eq_false,cond_false];rw [Mn u x x () u aD aD,s6 (xs:=x) _ x 0 jC]
 ·rfl
 ·intro y i k hx;unfold EK;rw [bu,hx];simp only [wk];rw [Ul hu (zWV (iN (f:=d2) (zQX hx)) h)]; simp
theorem Um{u:Nat}(hu:1099511627776<=u){x:List aA}{n:Int}(h0:0<=n)(h1:n<=1048576)(hw:(LI aA.wf) x):rD u x n=some (jk n (ik d8 x)) :=
 HB (c:=Te d8 x) (f:=λr=>mS u u x r 0) (λhm r h2 h3=>by
  rw [Ng u x r u aD aD];exact JU (f:=d8) (λs=>rfl) (λy i s k hy hs0 hs1=>by unfold Fs; rw [Xe hu hs0 hs1 (hw.2 y hy)]; rfl) x 0 r (λ_ h=>h) h2 aD) h0 h1 hw.1
theorem Un{u:Nat}(hu:1099511627776<=u){x:List aA}(h:Pu.ik d8 x<=68719476736):za u x=some x:=by
 have hlen:x.length<=68719476736:=by have:=iO (f:=d8) x; omega
 unfold za;rw [BM,bg wz6];simp only [wk,rg];rw [Nm u x _ u aD aD,nG]
 ·rfl
 ·intro y i s k hx hi;unfold Fv;rw [Xf hu (zWV (iN (f:=d8) hx) h)];rw [bu,sX hi]; simp
theorem Uo{u:Nat}(hu:1099511627776<=u){x:List aA}(h:Pu.ik d8 x<=68719476736):Al u x x=some true:=by
 have hlen:x.length<=68719476736:=by have:=iO (f:=d8) x; omega
 unfold Al;simp only [bne_self_eq_false,cond_false];rw [N3 u x x () u aD aD,s6 (xs:=x) _ x 0 jC]
 ·rfl
 ·intro y i k hx;unfold FU;rw [bu,hx];simp only [wk];rw [Xg hu (zWV (iN (f:=d8) (zQX hx)) h)]; simp
theorem Up{u:Nat}(hu:1099511627776<=u){x:List ar}{n:Int}(h0:0<=n)(h1:n<=1048576)(hw:(LI ar.wf) x):pK u x n=some (jk n (ik dS x)) :=
 HB (c:=Te dS x) (f:=λr=>mT u u x r 0) (λhm r h2 h3=>by
  rw [Ni u x r u aD aD];exact JU (f:=dS) (λs=>rfl) (λy i s k hy hs0 hs1=>by unfold Ft; rw [Xk hu hs0 hs1 (hw.2 y hy)]; rfl) x 0 r (λ_ h=>h) h2 aD) h0 h1 hw.1
theorem Uq{u:Nat}(hu:1099511627776<=u){x:List ar}(h:Pu.ik dS x<=68719476736):zb u x=some x:=by
 have hlen:x.length<=68719476736:=by have:=iO (f:=dS) x; omega
 unfold zb;rw [BM,bg wz6];simp only [wk,rg];rw [No u x _ u aD aD,nG]
 ·rfl
 ·intro y i s k hx hi;unfold Fw;rw [Xl hu (zWV (iN (f:=dS) hx) h)];rw [bu,sX hi]; simp
theorem Ur{u:Nat}(hu:1099511627776<=u){x:List ar}(h:Pu.ik dS x<=68719476736):Am u x x=some true:=by
 have hlen:x.length<=68719476736:=by have:=iO (f:=dS) x; omega
 unfold Am;simp only [bne_self_eq_false,cond_false];rw [N5 u x x () u aD aD,s6 (xs:=x) _ x 0 jC]
 ·rfl
 ·intro y i k hx;unfold FV;rw [bu,hx];simp only [wk];rw [Xm hu (zWV (iN (f:=dS) (zQX hx)) h)]; simp
def dn(x:ah):Nat:=x.fB.length
theorem RF{u:Nat}(hu:1099511627776<=u){x:ah}{n:Int}(h0:0<=n)(h1:n<=1048576)(hw:ah.wf x):sI u x n=some (jk n (dn x)):=by
 unfold sI dn;rw [na hu h0 h1 hw.2.2.1];simp only [wk];exact vH
theorem RG{u:Nat}(hu:1099511627776<=u){x:ah}(h:dn x<=68719476736):sK u x=some x:=by
 unfold dn at h;unfold sK;rw [nb hu aD]; rfl
theorem RH{u:Nat}(hu:1099511627776<=u){x:ah}(h:dn x<=68719476736):s5 u x x=some true:=by
 unfold dn at h;unfold s5;simp [nc hu (x:=x.fB) aD]
theorem O9{u:Nat}(hu:1099511627776<=u){x:List ah}{n:Int}(h0:0<=n)(h1:n<=1048576)(hw:(LI ah.wf) x):jR u x n=some (jk n (ik dn x)) :=
 HB (c:=Te dn x) (f:=λr=>jQ u u x r 0) (λhm r h2 h3=>by
  rw [K3 u x r u aD aD];exact JU (f:=dn) (λs=>rfl) (λy i s k hy hs0 hs1=>by unfold Do; rw [RF hu hs0 hs1 (hw.2 y hy)]; rfl) x 0 r (λ_ h=>h) h2 aD) h0 h1 hw.1
theorem Pa{u:Nat}(hu:1099511627776<=u){x:List ah}(h:Pu.ik dn x<=68719476736):tF u x=some x:=by
 have hlen:x.length<=68719476736:=by have:=iO (f:=dn) x; omega
 unfold tF;rw [BM,bg wz6];simp only [wk,rg];rw [K5 u x _ u aD aD,nG]
 ·rfl
 ·intro y i s k hx hi;unfold Dp;rw [RG hu (zWV (iN (f:=dn) hx) h)];rw [bu,sX hi]; simp
theorem Pb{u:Nat}(hu:1099511627776<=u){x:List ah}(h:Pu.ik dn x<=68719476736):uo u x x=some true:=by
 have hlen:x.length<=68719476736:=by have:=iO (f:=dn) x; omega
 unfold uo;simp only [bne_self_eq_false,cond_false];rw [Lo u x x () u aD aD,s6 (xs:=x) _ x 0 jC]
 ·rfl
 ·intro y i k hx;unfold DE;rw [bu,hx];simp only [wk];rw [RH hu (zWV (iN (f:=dn) (zQX hx)) h)]; simp
theorem Us{u:Nat}(hu:1099511627776<=u){x:List br}{n:Int}(h0:0<=n)(h1:n<=1048576)(hw:(LI br.wf) x):lx u x n=some (jk n x.length):=JT h0 h1 hw.1
theorem Ut{u:Nat}(hu:1099511627776<=u){x:List br}(h:x.length<=68719476736):ze u x=some x:=by
 have hlen:x.length<=68719476736:=by omega
 unfold ze;rw [BM,bg wz6];simp only [wk,rg];rw [Nq u x _ u aD aD,nG]
 ·rfl
 ·intro y i s k hx hi;unfold Fx;rw [Xn u _];rw [bu,sX hi]; simp
theorem Uu{u:Nat}(hu:1099511627776<=u){x:List br}(h:x.length<=68719476736):Ao u x x=some true:=by
 have hlen:x.length<=68719476736:=by omega
 unfold Ao;simp only [bne_self_eq_false,cond_false];rw [N7 u x x () u aD aD,s6 (xs:=x) _ x 0 jC]
 ·rfl
 ·intro y i k hx;unfold FW;rw [bu,hx];simp only [wk];rw [Xo]; simp
def fu(x:World):Nat:=yS x.fT+(x.cF.length+(Pu.ik d2 x.cu+(Pu.ik d8 x.fN+(Pu.ik dS x.fD+(Pu.ik dn x.bM+(x.dv.length))))))
theorem Uv{u:Nat}(hu:1099511627776<=u){x:World}{n:Int}(h0:0<=n)(h1:n<=1048576)(hw:World.wf x):yZ u x n=some (jk n (fu x)):=by
 unfold yZ fu;rw [W3 hu h0 h1 hw.2.1];simp only [wk];exact pB (c:=x.cF.length+(Pu.ik d2 x.cu+(Pu.ik d8 x.fN+(Pu.ik dS x.fD+(Pu.ik dn x.bM+(x.dv.length)))))) (f:=λr=>(i6 u x.cF r).bind λr1=>bif decide (r1 < 0) then some (-1) else ((sH u x.cu r1).bind λr2=>bif decide (r2 < 0) then some (-1) else ((rD u x.fN r2).bind λr3=>bif decide (r3 < 0) then some (-1) else ((pK u x.fD r3).bind λr4=>bif decide (r4 < 0) then some (-1) else ((jR u x.bM r4).bind λr5=>bif decide (r5 < 0) then some (-1) else ((lx u x.dv r5).bind λr6=>bif decide (r6 < 0) then some (-1) else (some r6))))))) (λv0 h2v0 h3v0=>by rw [na hu h2v0 aD hw.2.2.1]; simp only [wk]; exact pB (c:=Pu.ik d2 x.cu+(Pu.ik d8 x.fN+(Pu.ik dS x.fD+(Pu.ik dn x.bM+(x.dv.length))))) (f:=λr=>(sH u x.cu r).bind λr2=>bif decide (r2 < 0) then some (-1) else ((rD u x.fN r2).bind λr3=>bif decide (r3 < 0) then some (-1) else ((pK u x.fD r3).bind λr4=>bif decide (r4 < 0) then some (-1) else ((jR u x.bM r4).bind λr5=>bif decide (r5 < 0) then some (-1) else ((lx u x.dv r5).bind λr6=>bif decide (r6 < 0) then some (-1) else (some r6)))))) (λv1 h2v1 h3v1=>by rw [RC hu h2v1 aD hw.2.2.2.1]; simp only [wk]; exact pB (c:=Pu.ik d8 x.fN+(Pu.ik dS x.fD+(Pu.ik dn x.bM+(x.dv.length)))) (f:=λr=>(rD u x.fN r).bind λr3=>bif decide (r3 < 0) then some (-1) else ((pK u x.fD r3).bind λr4=>bif decide (r4 < 0) then some (-1) else ((jR u x.bM r4).bind λr5=>bif decide (r5 < 0) then some (-1) else ((lx u x.dv r5).bind λr6=>bif decide (r6 < 0) then some (-1) else (some r6))))) (λv2 h2v2 h3v2=>by rw [Um hu h2v2 aD hw.2.2.2.2.1]; simp only [wk]; exact pB (c:=Pu.ik dS x.fD+(Pu.ik dn x.bM+(x.dv.length))) (f:=λr=>(pK u x.fD r).bind λr4=>bif decide (r4 < 0) then some (-1) else ((jR u x.bM r4).bind λr5=>bif decide (r5 < 0) then some (-1) else ((lx u x.dv r5).bind λr6=>bif decide (r6 < 0) then some (-1) else (some r6)))) (λv3 h2v3 h3v3=>by rw [Up hu h2v3 aD hw.2.2.2.2.2.1]; simp only [wk]; exact pB (c:=Pu.ik dn x.bM+(x.dv.length)) (f:=λr=>(jR u x.bM r).bind λr5=>bif decide (r5 < 0) then some (-1) else ((lx u x.dv r5).bind λr6=>bif decide (r6 < 0) then some (-1) else (some r6))) (λv4 h2v4 h3v4=>by rw [O9 hu h2v4 aD hw.2.2.2.2.2.2.1]; simp only [wk]; exact pB (c:=x.dv.length) (f:=λr=>(lx u x.dv r).bind λr6=>bif decide (r6 < 0) then some (-1) else (some r6)) (λv5 h2v5 h3v5=>by rw [Us hu h2v5 aD hw.2.2.2.2.2.2.2.1]; simp only [wk]; exact vH) h2v4) h2v3) h2v2) h2v1) h2v0) h0
theorem Uw{u:Nat}(hu:1099511627776<=u){x:World}(h:fu x<=68719476736):rE u x=some x:=by
 unfold fu at h;unfold rE;rw [W6 u _,W4 hu aD,nb hu aD,RD hu aD,Un hu aD,Uq hu aD,Pa hu aD,Ut hu aD]; rfl
theorem Ux{u:Nat}(hu:1099511627776<=u){x:World}(h:fu x<=68719476736):Ap u x x=some true:=by
 unfold fu at h;unfold Ap;simp [W7,W5 hu (x:=x.fT) aD,nc hu (x:=x.cF) aD,RE hu (x:=x.cu) aD,Uo hu (x:=x.fN) aD,Ur hu (x:=x.fD) aD,Pb hu (x:=x.bM) aD,Uu hu (x:=x.dv) aD]
theorem EY{b:List Int}(h:LI (lU .u8) b):aK b:=λx hx=>h.2 x hx
theorem Xp:∀ (l:List bQ) (b:List Int),(pC b l).length<=b.length+10*l.length:=by
 intro l
 induction l with
 | nil=>intro b; simp [pC]
 | cons s l ih =>
  intro b;have h1:=ih (b++dm 9 s.fS);have h2:=Ix 9 s.fS;simp only [pC,zQq,zQh] at h1 ⊢;omega
def Xq(old:List aM):Prop:=∀ x∈old,aK x.fB/\x.fB.length<=1048576
theorem qgY{l:List aM}(h:LI aM.wf l)(hb:ik d2 l<=1048576):Xq l:=λx hx=>by
 have h1:x.fB.length<=ik d2 l:=iN (f:=d2) hx;exact ⟨EY (h.2 x hx).1,by omega⟩
theorem ZK(b:Bool):(bif b then some true else some false)=some b:=by cases b <;> rfl
def GI{α:Type}(f:α->α->Bool):List α->List α->Bool
 | x :: xs,y :: ys=>f x y && GI f xs ys
 | _,_=>true
def M.same{α:Type}(f:α->α->Bool)(xs ys:List α):Bool:=(xs.length == ys.length) && GI f xs ys
theorem Xr{α:Type}{fin:Unit->Option Bool}{body:α->Nat->Unit->(Unit->Option Bool)->Option Bool}(f:α->α->Bool){xs ys:List α}(h:xs.length=ys.length)(hb:∀ x y i k,xs[i]?=some x->ys[i]?=some y->body x i () k=bif f x y then k () else some false) :
  bn fin body xs 0 ()=bif GI f xs ys then fin () else some false:=by
 have:∀ (l m:List α) (i:Nat),l=xs.drop i->m=ys.drop i->bn fin body l i ()=bif GI f l m then fin () else some false:=by
  intro l
  induction l with
  | nil=>intro m i _ _; simp [bn,GI]
  | cons x l ih =>
   intro m i h1 h2;have hlt:i < xs.length:=by have:=congrArg zYZ h1; simp at this; omega
   cases m with
   | nil=>have:=congrArg zYZ h2; simp at this; omega
   | cons y m =>
    have hx:xs[i]?=some x:=by have:=congrArg zYY h1; simpa [zXW] using this.symm
    have hy:ys[i]?=some y:=by have:=congrArg zYY h2; simpa [zXW] using this.symm
    have hl:l=xs.drop (i+1):=by have:=congrArg zYq h1; simpa [zXV] using this
    have hm:m=ys.drop (i+1):=by have:=congrArg zYq h2; simpa [zXV] using this
    simp only [bn,GI];rw [hb x y i _ hx hy,ih m (i+1) hl hm]
    cases f x y <;> simp
 exact this xs ys 0 jC jC
def yT(a b:List Int):Bool:=(strOfNums a).toList == (strOfNums b).toList
theorem Gd(u:Nat)(a b:List Int):tM u a b=some (yT a b):=rfl
theorem AF(u:Nat)(a b:List Int):ua u a b=some (yT a b):=rfl
theorem qc2(x y:ct):(([x.aN,x.b9,x.aV]:List Int) == [y.aN,y.b9,y.aV])=decide (x=y):=by
 obtain ⟨a0,a1,a2⟩:=x;obtain ⟨b0,b1,b2⟩:=y;rw [zXX]; simp
theorem nJ{u:Nat}(hu:1099511627776<=u){a b:List bQ}(ha:a.length<=1048576):dz u a b=some (M.same (λx y=>decide (x=y)) a b):=by
 unfold dz M.same
 by_cases h:a.length=b.length
 ·have h1:((a.length:Int) != (b.length:Int))=false:=by simp [h]
  simp only [h1,cond_false];rw [vn u a b () u aD aD,Xr (λx y=>decide (x=y)) h (λx y i k hx hy=>by unfold mm; rw [bu,hy]; simp only [wk,Gb]; cases decide (x=y) <;> rfl)];simp only [h,beq_self_eq_true,zQg];exact ZK _
 ·have h1:((a.length:Int) != (b.length:Int))=true:=by simp; omega
  have h2:(a.length == b.length)=false:=by simpa using h
  simp [h1,h2]
theorem EZ{u:Nat}(hu:1099511627776<=u){a b:List bQ}(ha:a.length<=1048576):pc u a b=some (M.same (λx y=>decide (x=y)) a b):=by
 unfold pc M.same
 by_cases h:a.length=b.length
 ·have h1:((a.length:Int) != (b.length:Int))=false:=by simp [h]
  simp only [h1,cond_false];rw [JE u a b () u aD aD,Xr (λx y=>decide (x=y)) h (λx y i k hx hy=>by unfold B4; rw [bu,hy]; simp only [wk,Gb]; cases decide (x=y) <;> rfl)];simp only [h,beq_self_eq_true,zQg];exact ZK _
 ·have h1:((a.length:Int) != (b.length:Int))=true:=by simp; omega
  have h2:(a.length == b.length)=false:=by simpa using h
  simp [h1,h2]
def iQ(a b:ae):Bool:=(a.aN == b.aN) && (a.aG == b.aG) && (a.aV == b.aV) && M.same (λx y=>decide (x=y)) a.aI b.aI
theorem Ji{u:Nat}(hu:1099511627776<=u){a b:ae}(ha:a.aI.length<=1048576):rN u a b=some (iQ a b):=by
 unfold rN iQ;rw [nJ hu ha]
 cases a.aN == b.aN <;> cases a.aG == b.aG <;> cases a.aV == b.aV <;> simp
theorem xR{u:Nat}(hu:1099511627776<=u){a b:ae}(ha:a.aI.length<=1048576):nt u a b=some (iQ a b):=by
 unfold nt iQ;rw [EZ hu ha]
 cases a.aN == b.aN <;> cases a.aG == b.aG <;> cases a.aV == b.aV <;> simp
def qeM(l:List aA):Prop:=∀ x∈l,x.ay.aI.length<=1048576/\x.aW.length<=1048576
def qeN(l:List ar):Prop:=∀ x∈l,x.fP.length<=1048576
structure M.WorldOk (w:World):Prop where
 up:w.fT.bP.length<=1048576
 new:w.cF.length<=1048576
 old:w.cu.length<=1048576
 oldB:Xq w.cu
 n:w.fN.length<=1048576
 nodes:qeM w.fN
 d:w.fD.length<=1048576
 disks:qeN w.fD
 net:w.bM.length<=1048576
 log:w.dv.length<=1048576
theorem worldOk{w:World}(hw:World.wf w)(hb:fu w<=1048576):M.WorldOk w:=by
 have h0:=hb;unfold fu at h0;have h1:=iO (f:=d2) w.cu;have h2:=iO (f:=d8) w.fN;have h3:=iO (f:=dS) w.fD;have h4:=iO (f:=dn) w.bM;obtain ⟨_,_,_,h5,_⟩:=hw;have e1:yS w.fT=w.fT.bP.length:=rfl;refine ⟨by omega,by omega,by omega,qgY h5 aD,by omega,λx hx=>?_,by omega,λx hx=>?_,by omega,by omega⟩
 ·have h6:=iN (f:=d8) hx;unfold d8 nI at h6;have h7:d8 x=x.ay.aI.length+(x.aZ.bj.length+x.aW.length):=rfl;have h8:=iN (f:=d8) hx;omega
 ·have h8:=iN (f:=dS) hx;have h7:dS x=x.fA.length+(x.fB.length+ik gr x.fP):=rfl;have h9:=iO (f:=gr) x.fP;omega
theorem Pc(a b:Nat):((a:Int) == (b:Int))=(a == b):=by rw [zXX,beq_iff_eq,beq_iff_eq]; omega
def eg{α:Type}(f:α->Bool):List α->Nat->Int
 | [],_=>-1
 | x :: l,i=>if f x then i else eg f l (i+1)
theorem nK{α:Type}{fin:Unit->Option Int}{body:α->Nat->Unit->(Unit->Option Int)->Option Int}(f:α->Bool){xs:List α}(hf:fin ()=some (-1))(hb:∀ x i k,x∈xs->body x i () k=bif f x then some (i:Int) else k ()) :
  bn fin body xs 0 ()=some (eg f xs 0):=by
 have:∀ (l:List α) (i:Nat),(∀ y∈l,y∈xs)->bn fin body l i ()=some (eg f l i):=by
  intro l
  induction l with
  | nil=>intro i _; exact hf
  | cons x l ih =>
   intro i h;simp only [bn,eg];rw [hb x i _ (h x jC),ih (i+1) (λy hy=>h y (by simp [hy]))]
   cases f x <;> simp
 exact this xs 0 (λ_ h=>h)
theorem uG{α:Type}(f:α->Bool):∀ (l:List α) (i:Nat),decide (eg f l i>=0)=l.any f:=by
 intro l
 induction l with
 | nil=>intro i; rfl
 | cons x l ih =>
  intro i;rw [List.any_cons,<- ih (i+1),zXX];simp only [decide_eq_true_eq,Bool.or_eq_true]
  by_cases h:f x=true
  ·simp [eg,h]
  ·simp [eg,h]
def ng(r:ct):Bool:=aw r.aN 0 1000000 && aw r.b9 0 1 && aw r.aV 0 240
theorem HP(u:Nat)(r:ct):sN u r=some (ng r):=by
 unfold sN ng;simp only [b5,wk]
 cases aw r.aN 0 1000000 <;> cases aw r.b9 0 1 <;> rfl
theorem E0(u:Nat)(n:Int):t9 u n=some (aw n 0 1):=by
 unfold t9 aw
 by_cases h0:n=0
 ·subst h0; rfl
 ·by_cases h1:n=1
  ·subst h1; rfl
  ·have e0:(n == 0)=false:=by simpa using h0
   have e1:(n == 1)=false:=by simpa using h1
   simp only [e0,e1,cond_false]
   by_cases h:0<=n
   ·have:¬ n<=1:=by omega
    simp [this]
   ·simp [h]
theorem HQ(u:Nat)(r:ct):sZ u r=some (ng r):=by
 unfold sZ yd ng;simp only [bK,E0,wk]
 cases aw r.aN 0 1000000 <;> cases aw r.b9 0 1 <;> rfl
def jm(d:ar)(n:Int):List Int:=if n=0 then d.fA else d.fB
theorem Iz(u:Nat)(d:ar)(n:Int):ga u d n=some (jm d n):=by
 unfold ga jm
 by_cases h:n=0
 ·simp [h]
 ·have:(n == 0)=false:=by simpa using h
  simp [h,this]
theorem DW(u:Nat)(d:ar){n:Int}(h:aw n 0 1=true):rz u d n=some (jm d n):=by
 unfold rz jm;have:=cd h
 by_cases h0:n=0
 ·subst h0; rfl
 ·have:n=1:=by omega
  subst this; rfl
def mx(p:bR):Bool:=if p.eK=2 then (p.Gl == 0) && (p.fB.length == 0) && ng p.fR else aw p.eK 0 1 && decide (p.fR=⟨0,0,0⟩) && aw p.Gl 0 (240 - p.fB.length)
theorem SI(x:ct):(([x.aN,x.b9,x.aV]:List Int) == [0,0,0])=decide (x=⟨0,0,0⟩):=qc2 x ⟨0,0,0⟩
theorem YW(u:Nat){p:bR}(h:p.fB.length<=1048576):EC u p=some (mx p):=by
 unfold EC mx;rw [cS aD aD];simp only [HQ,E0,bK,wk,SI];have e:((p.fB.length:Int) == 0)=(p.fB.length == 0):=Pc _ 0
 by_cases h2:p.eK=2
 ·simp only [h2,beq_self_eq_true,cond_true,if_true,e]
  cases p.Gl == 0 <;> cases p.fB.length == 0 <;> rfl
 ·have:(p.eK == 2)=false:=by simpa using h2
  simp only [this,cond_false,h2,if_false]
  cases aw p.eK 0 1 <;> cases decide (p.fR=⟨0,0,0⟩) <;> rfl
theorem LU(u:Nat){p:bR}(h:p.fB.length<=1048576):xX u p=some (mx p):=by
 unfold xX mx;simp only [HP,b5,wk,SI];have e:((p.fB.length:Int) == 0)=(p.fB.length == 0):=Pc _ 0
 by_cases h2:p.eK=2
 ·simp only [h2,beq_self_eq_true,cond_true,if_true,e]
  cases p.Gl == 0 <;> cases p.fB.length == 0 <;> rfl
 ·have:(p.eK == 2)=false:=by simpa using h2
  simp only [this,cond_false,h2,if_false]
  cases h3:aw p.Gl 0 240 with
  | false =>
   have h4:aw p.Gl 0 (240 - p.fB.length)=false:=by
    have:=qbR h3;simp [aw]; omega
   rw [h4]
   cases aw p.eK 0 1 <;> cases decide (p.fR=⟨0,0,0⟩) <;> rfl
  | true =>
   have h3:=cd h3;rw [cS aD aD];have h4:aw p.Gl 0 (240 - p.fB.length)=decide ((p.fB.length:Int)<=240 - p.Gl):=by
    rw [zXX]; simp [aw]; omega
   rw [h4]
   cases aw p.eK 0 1 <;> cases decide (p.fR=⟨0,0,0⟩) <;> cases decide ((p.fB.length:Int)<=240 - p.Gl) <;> rfl
def cV(d:ar):Bool:=decide (d.fA.length<=240) && decide (d.fB.length<=240) && ng d.fR && decide (d.fR.aV<=(jm d d.fR.b9).length) && decide (d.fP.length<=200) && d.fP.all mx
structure M.DOk (d:ar):Prop where
 a:d.fA.length<=1048576
 b:d.fB.length<=1048576
 p:d.fP.length<=1048576
 puts:∀ x∈d.fP,x.fB.length<=1048576
theorem dok{d:ar}(h:dS d<=1048576):M.DOk d:=by
 have e:dS d=d.fA.length+(d.fB.length+ik gr d.fP):=rfl;have:=iO (f:=gr) d.fP;refine ⟨by omega,by omega,by omega,λx hx=>?_⟩;have h1:x.fB.length<=ik gr d.fP:=iN (f:=gr) hx;omega
theorem Uy{u:Nat}(hu:1099511627776<=u){l:List bR}(hl:l.length<=1048576)(hp:∀ x∈l,x.fB.length<=1048576):cn u l=some (l.any λx=>!mx x):=by
 unfold cn cX;rw [lO u l () u aD aD,nK (λx=>!mx x) rfl (λx i k hx=>by unfold fh wI; rw [YW u (hp x hx)]; rfl)];simp only [wk,uG]
theorem Kg{α:Type}(f:α->Bool)(l:List α):(!(l.any λx=>!f x))=l.all f:=by
 induction l with
 | nil=>rfl
 | cons x l ih=>simp only [List.any_cons,zYj,Bool.not_or,Bool.not_not,ih]
theorem qf1(a b:Int):decide (a > b)=!decide (a<=b):=by
 by_cases h:a<=b
 ·have:¬ a > b:=by omega
  simp [h,this]
 ·have:a > b:=by omega
  simp [h,this]
theorem RI(a b:Nat):decide ((a:Int)<=(b:Int))=decide (a<=b):=by rw [decide_eq_decide]; omega
theorem uH{u:Nat}(hu:1099511627776<=u){d:ar}(hd:M.DOk d):lP u d=some (cV d):=by
 unfold lP qV cV;simp only [HQ,Iz,Uy hu hd.p hd.puts,wk,Kg,qf1];have e1:decide ((d.fA.length:Int)<=240)=decide (d.fA.length<=240):=RI _ 240;have e2:decide ((d.fB.length:Int)<=240)=decide (d.fB.length<=240):=RI _ 240;have e3:decide ((d.fP.length:Int)<=200)=decide (d.fP.length<=200):=RI _ 200;rw [e1,e2,e3]
 cases decide (d.fA.length<=240) <;> cases decide (d.fB.length<=240) <;> cases ng d.fR <;> cases decide (d.fR.aV<=(jm d d.fR.b9).length) <;> cases decide (d.fP.length<=200) <;> rfl
theorem RJ{u:Nat}(hu:1099511627776<=u){d:ar}(hd:M.DOk d):oB u u 0 d=some (d.fP.all mx):=by
 have:=hd.p;rw [Qo u d () u aD aD];have:∀ (l:List bR) (i:Nat),(∀ y∈l,y∈d.fP)->bn (G5 u d) (A6 u d) l i ()=some (l.all mx):=by
  intro l
  induction l with
  | nil=>intro i _; rfl
  | cons x l ih =>
   intro i h;simp only [bn,A6,LU u (hd.puts x (h x jC)),wk,zYj];rw [ih (i+1) (λy hy=>h y (by simp [hy]))]
   cases mx x <;> rfl
 exact this _ 0 (λ_ h=>h)
theorem BP{r:ct}(h:ng r=true):aw r.b9 0 1=true/\0<=r.aV/\r.aV<=240:=by
 unfold ng at h;simp only [sk] at h;exact ⟨h.1.2,(cd h.2).1,(cd h.2).2⟩
theorem uI{u:Nat}(hu:1099511627776<=u){d:ar}(hd:M.DOk d):nD u d=some (cV d):=by
 unfold nD oC cV;have e1:decide ((d.fA.length:Int)<=240)=decide (d.fA.length<=240):=RI _ 240;have e2:decide ((d.fB.length:Int)<=240)=decide (d.fB.length<=240):=RI _ 240;have e3:decide ((d.fP.length:Int)<=200)=decide (d.fP.length<=200):=RI _ 200;simp only [HP,RJ hu hd,wk,qf1,e1,e2,e3,cond_true]
 cases h:ng d.fR with
 | false=>cases decide (d.fA.length<=240) <;> cases decide (d.fB.length<=240) <;> rfl
 | true =>
  rw [DW u d (BP h).1];simp only [wk]
  cases decide (d.fA.length<=240) <;> cases decide (d.fB.length<=240) <;> cases decide (d.fR.aV<=(jm d d.fR.b9).length) <;> cases decide (d.fP.length<=200) <;> rfl
def fU(d:ar):Int×List Int:=if cV d then (d.fR.aN,(jm d d.fR.b9).take d.fR.aV.toNat) else (0,[])
theorem DX{d:ar}(h:cV d=true):ng d.fR=true/\d.fR.aV<=(jm d d.fR.b9).length/\d.fA.length<=240/\d.fB.length<=240/\d.fP.length<=200:=by
 unfold cV at h;simp only [sk,decide_eq_true_eq] at h;obtain ⟨⟨⟨⟨⟨h1,h2⟩,h3⟩,h4⟩,h5⟩,h6⟩:=h;exact ⟨h3,h4,h1,h2,h5⟩
theorem RK{d:ar}(h:cV d=true)(n:Int):(jm d n).length<=240:=by
 have:=DX h;unfold jm; split <;> omega
theorem Di{u:Nat}(hu:1099511627776<=u){d:ar}(hd:M.DOk d):rO u d=some (fU d):=by
 unfold rO fU;rw [uH hu hd,Iz];simp only [wk]
 cases h:cV d with
 | false=>rfl
 | true =>
  have h1:=DX h;have h2:=BP h1.1;have h3:=RK h d.fR.b9;obtain ⟨n,hn⟩:=zQQ h2.2.1;simp only [r0,cond_false,if_true];rw [hn] at h1 ⊢;rw [show (0:Int)=((0:Nat):Int) by rfl,eJ aD aD];simp only [wk,rg,zZG];rw [eY u il]; rfl
theorem Jj{u:Nat}(hu:1099511627776<=u){d:ar}(hd:M.DOk d):uW u d=some (fU d):=by
 unfold uW fU;rw [uI hu hd];simp only [wk]
 cases h:cV d with
 | false=>rfl
 | true =>
  have h1:=DX h;have h2:=BP h1.1;have h3:=RK h d.fR.b9;obtain ⟨n,hn⟩:=zQQ h2.2.1;rw [DW u d h2.1];simp only [r0,cond_false,if_true,wk];rw [hn] at h1 ⊢;rw [show (0:Int)=((0:Nat):Int) by rfl,eJ aD aD];simp only [wk,rg,zZG];rw [bg il]; rfl
def M.holds(d:ar)(gen:Int)(b:List Int):Bool:=((fU d).1 == gen) && yT (fU d).2 b
theorem LV{u:Nat}(hu:1099511627776<=u){d:ar}(hd:M.DOk d)(gen:Int)(b:List Int):ye u d gen b=some (M.holds d gen b):=by
 unfold ye M.holds;rw [Di hu hd];simp only [wk,AF]
 cases (fU d).1 == gen <;> rfl
theorem BQ{u:Nat}(hu:1099511627776<=u){d:ar}(hd:M.DOk d)(gen:Int)(b:List Int):qg u d gen b=some (M.holds d gen b):=by
 unfold qg M.holds;rw [Jj hu hd];simp only [wk,Gd]
 cases (fU d).1 == gen <;> rfl
structure M.DsOk (w:World):Prop where
 d:w.fD.length<=1048576
 old:w.cu.length<=1048576
 ok:∀ x∈w.fD,M.DOk x
theorem qiZ{w:World}(h:fu w<=1048576):M.DsOk w:=by
 have h0:=h;unfold fu at h0;have h1:=iO (f:=d2) w.cu;have h3:=iO (f:=dS) w.fD;refine ⟨by omega,by omega,λx hx=>dok ?_⟩;have:=iN (f:=dS) hx;omega
def DY:List Kid->Int->Int
 | [],a=>a
 | k :: l,a=>DY l (if bD k.bG then sC .i64 a k.bG else a)
theorem YX(u:Nat)(r:List Kid):∀ (l:List Kid) (i:Nat) (a:Int),bn (pW u r) (j2 u r) l i a=some (DY l a):=by
 intro l
 induction l with
 | nil=>intro i a; rfl
 | cons k l ih =>
  intro i a;simp only [bn,j2,dR,wL,jP,wk,DY,ih]
  cases bD k.bG <;> simp
theorem YY(u:Nat)(r:List Kid):∀ (l:List Kid) (i:Nat) (a:Int),l=r.drop i->bn (G8 u r) (Ba u r) l i a=some (DY l a):=by
 intro l
 induction l with
 | nil=>intro i a _; rfl
 | cons k l ih =>
  intro i a hd;have hx:r[i]?=some k:=by have:=congrArg zYY hd; simpa [zXW] using this.symm
  have hl:l=r.drop (i+1):=by have:=congrArg zYq hd; simpa [zXV] using this
  simp only [bn,Ba,qM,iX,wk,DY,bu,hx,ih (i+1) _ hl]
  cases bD k.bG <;> simp
theorem Xs{u:Nat}(hu:1099511627776<=u){l:List Kid}(hl:l.length<=1048576):Cl u l=some (DY l 0):=by
 unfold Cl jA;rw [zV u l 0 u aD aD,YX]; rfl
theorem Xt{u:Nat}(hu:1099511627776<=u){l:List Kid}(hl:l.length<=1048576):Ca u l=some (DY l 0):=by
 unfold Ca;rw [Qr u l 0 u aD aD,YY u l l 0 0 jC]
structure M.NdOk (w:World):Prop where
 new:aK w.cF
 newL:w.cF.length<=1048576
 old:w.cu.length<=1048576
 oldB:Xq w.cu
theorem qi0{w:World}(hw:World.wf w)(h:fu w<=1048576):M.NdOk w:=⟨EY hw.2.2.1,(worldOk hw h).new,(worldOk hw h).old,(worldOk hw h).oldB⟩
def xS(w:World):ae:=O7 1 w.cF w.fC.aG
theorem YZ{u:Nat}(hu:1099511627776<=u){w:World}(hw:M.NdOk w):EA u w=some (xS w):=by
 unfold EA;have:=hw.newL;rw [YN hu hw.new aD]; rfl
theorem Y0{u:Nat}(hu:1099511627776<=u){w:World}(hw:M.NdOk w):El u w=some (xS w):=by
 unfold El;have:=hw.newL;rw [YO hu hw.new aD]; rfl
theorem Xu{u:Nat}(hu:1099511627776<=u){r:List Int}(hr:r.length<=1048576)(k:Int):B6 u r k=some (r.any λy=>y == k):=by
 unfold B6;rw [Qh u r k () u aD aD];have:∀ (l:List Int) (i:Nat),bn (G1 u r k) (A4 u r k) l i ()=some (l.any λy=>y == k):=by
  intro l
  induction l with
  | nil=>intro i; rfl
  | cons y l ih =>
   intro i;simp only [bn,A4,List.any_cons];rw [ih (i+1)]
   cases y == k <;> rfl
 exact this r 0
theorem Dj{u:Nat}(hu:1099511627776<=u){r:List Int}(hr:r.length<=1048576)(k:Int):ig u r k=some (r.any λy=>y == k):=by
 unfold ig nx;rw [DQ u r k () u aD aD,nK (λy=>k == y) rfl (λx i k hx=>by unfold tl; rfl)];simp only [wk,uG]
 congr 2
 funext y
 exact Bool.eq_iff_iff.2 (by simp only [beq_iff_eq]; exact ⟨Eq.symm,Eq.symm⟩)
theorem RL{ρ:Type}(J:List Int->Option ρ)(n:Int)(hn:n<=1048576)(L:Nat->List Int->Option ρ)(hL:∀ k x,L (k+1) x=bif decide ((x.length:Int) < n) then ((de (decide ((x.length+([0]:List Int).length)*1<=140737488355328))).bind λ_=>L k (x++[0])) else J x) :
  ∀ (m k:Nat) (x:List Int),(x.length+m=n.toNat\/(m=0/\n<=x.length))->m < k->L k x=J (x++zQV m 0):=by
 intro m
 induction m with
 | zero =>
  intro k x h1 h2;obtain ⟨k,rfl⟩:∃ j,k=j+1:=⟨k - 1,by omega⟩;have e:¬ ((x.length:Int) < n):=by omega
  rw [hL]; simp [e]
 | succ m ih =>
  intro k x h1 h2;obtain ⟨k,rfl⟩:∃ j,k=j+1:=⟨k - 1,by omega⟩;have e:(x.length:Int) < n:=by omega
  rw [hL,bg il];simp only [e,decide_true,cond_true,wk];rw [ih k _ il aD,zQH];rfl
theorem rY{α ρ:Type}{fin:List α->Option ρ}{body:α->Nat->List α->(List α->Option ρ)->Option ρ}(n:Nat)(p:List α)(hb:∀ x i s k,x∈p->s.length+1<=n->body x i s k=k (s++[x])) :
  ∀ (l:List α) (i:Nat) (s:List α),(∀ x∈l,x∈p)->s.length+l.length<=n->bn fin body l i s=fin (s++l):=by
 intro l
 induction l with
 | nil=>intro i s _ _; simp [bn]
 | cons x l ih =>
  intro i s h1 h2;simp only [zQq] at h2;simp only [bn];rw [hb x i s _ (h1 x jC) aD,ih (i+1) _ (λy hy=>h1 y (by simp [hy])) il];simp
theorem j8{u:Nat}(hu:1099511627776<=u){d:ar}(hd:M.DOk d):gF u d=some d:=by
 have h1:=hd.a;have h2:=hd.b;have h3:=hd.p;unfold gF;rw [bg il,bg il];simp only [wk];rw [Qf u d _ u aD aD,rY 1048576 d.fP _ d.fP 0 [] (λ_ h=>h) il]
 ·rfl
 ·intro x i s k hx hs;have h4:=hd.puts x hx;unfold GY lG;rw [bg il];simp only [wk];rw [bg il]; rfl
theorem jn{u:Nat}(hu:1099511627776<=u){d:ar}(hd:M.DOk d):dP u d=some d:=by
 have h1:=hd.a;have h2:=hd.b;have h3:=hd.p;unfold dP;rw [eY u (show d.fA.length<=1073741824 by omega),eY u (show d.fB.length<=1073741824 by omega)];simp only [wk];rw [Mh u d d.fA d.fB _ u aD aD,rY 1048576 d.fP _ d.fP 0 [] (λ_ h=>h) il]
 ·rfl
 ·intro x i s k hx hs;have h4:=hd.puts x hx;unfold ED pU;rw [eY u (show x.fB.length<=1073741824 by omega)];simp only [wk];rw [bg il]; rfl
def LW(b:List Int)(a:Nat)(p:List Int):List Int:=DJ (b++zQV (a+p.length - b.length) 0) p a
theorem Pd{x p:List Int}{a:Nat}(h:a+p.length<=x.length):DJ x p a=x.take a++p++x.drop (a+p.length):=by
 unfold DJ;rw [zXG (l:=p) aD,zWx aD]
theorem Xv(b:List Int)(a:Nat)(p:List Int):(LW b a p).length=max b.length (a+p.length):=by
 unfold LW;rw [Pd il];simp;omega
theorem qio(u:Nat)(a:Nat)(p:List Int)(ha:a<=1048576):∀ (l:List Int) (i:Nat) (s:List Int),a+i+l.length<=s.length->s.length<=4194304->bn (CT u a p) (CU u a p) l i s=some (s.take (a+i)++l++s.drop (a+i+l.length)):=by
 intro l
 induction l with
 | nil=>intro i s _ _; simp [bn,CT,BE]
 | cons y l ih =>
  intro i s h1 h2;simp only [zQq] at h1;simp only [bn,CU];rw [dQ aD aD,show (a:Int)+(i:Int)=((a+i:Nat):Int) by omega,bu,sX aD,rg];simp only [wk];rw [ih (i+1) _ il il];have e1:(s.set (a+i) y).take (a+(i+1))=s.take (a+i)++[y]:=by
   rw [show a+(i+1)=(a+i)+1 by omega,List.take_add_one,List.take_set_of_le (zWX _)];simp [show a+i < s.length by omega]
  have e2:(s.set (a+i) y).drop (a+(i+1)+l.length)=s.drop (a+i+(y :: l).length):=by
   rw [List.drop_set_of_lt aD]; simp only [zQq]; congr 1; omega
  rw [e1,e2]; simp
theorem LX{u:Nat}(hu:1099511627776<=u){b p:List Int}{a:Nat}(hb:b.length<=1048576)(hp:a+p.length<=1048576):A7 u b a p=some (LW b a p):=by
 unfold A7;rw [bg il];simp only [wk,zQy];have e:aS .i64 (a:Int) (p.length:Int)=((a+p.length:Nat):Int):=by rw [dQ aD aD]; omega
 rw [RL (λx=>BF u a p x) ((a+p.length:Nat):Int) aD (λk x=>wt u k a p x) (λk x=>by rw [<- e]; rfl) (a+p.length - b.length) u b wz6 aD];unfold BF;rw [SZ u a p _ u aD aD,qio u a p aD p 0 _ il il];unfold LW;rw [Pd il]; simp
def AG(d:ar)(p:bR):ar:=if p.eK=2 then ⟨d.fA,d.fB,p.fR,d.fP⟩ else if p.eK=0 then ⟨LW d.fA p.Gl.toNat p.fB,d.fB,d.fR,d.fP⟩ else ⟨d.fA,LW d.fB p.Gl.toNat p.fB,d.fR,d.fP⟩
theorem Kh{p:bR}(h:mx p=true):p.eK=2\/((p.eK=0\/p.eK=1)/\0<=p.Gl/\p.Gl+p.fB.length<=240):=by
 unfold mx at h
 by_cases h2:p.eK=2
 ·exact .inl h2
 ·rw [if_neg h2] at h;simp only [sk] at h;have h3:=cd h.1.1;have h4:=cd h.2;exact .inr ⟨by omega,by omega,by omega⟩
theorem RM{d:ar}{p:bR}(hd:M.DOk d)(h:mx p=true):M.DOk (AG d p):=by
 have h1:=hd.a;have h2:=hd.b;unfold AG;rcases Kh h with h | ⟨h3,h4,h5⟩
 ·rw [if_pos h]; exact ⟨hd.a,hd.b,hd.p,hd.puts⟩
 ·split
  ·exact ⟨hd.a,hd.b,hd.p,hd.puts⟩
  ·split
   ·exact ⟨by rw [Xv]; omega,hd.b,hd.p,hd.puts⟩
   ·exact ⟨hd.a,by rw [Xv]; omega,hd.p,hd.puts⟩
theorem Xw{u:Nat}(hu:1099511627776<=u){d:ar}{p:bR}(hd:M.DOk d)(hp:p.fB.length<=1048576)(h:mx p=true):tO u d p=some (AG d p):=by
 have h1:=hd.a;have h2:=hd.b;unfold tO AG;rw [j8 hu hd,LU u hp,h];simp only [wk,r0,cond_false];rcases Kh h with h | ⟨h3,h4,h5⟩
 ·rw [h]; rfl
 ·obtain ⟨a,ha⟩:=zQQ h4;rcases h3 with h3 | h3
  ·rw [h3,ha,LX hu h1 aD]; rfl
  ·rw [h3,ha,LX hu h2 aD]; rfl
theorem qbW(b:List Int)(a n:Nat):de (LK (a:Int) (((b++zQV (a+n - b.length) (0:Int)).length:Nat):Int))=some ():=by
 have:LK (a:Int) (((b++zQV (a+n - b.length) (0:Int)).length:Nat):Int)=true:=by
  simp only [LK,sk,decide_eq_true_eq,zQh,List.length_replicate]; omega
 rw [this]; rfl
theorem Uz{u:Nat}(hu:1099511627776<=u){d:ar}{p:bR}(hd:M.DOk d)(h:mx p=true):gJ u d p=some (AG d p):=by
 have h1:=hd.a;have h2:=hd.b;unfold gJ AG xE;rcases Kh h with h | ⟨h3,h4,h5⟩
 ·rw [h]; rfl
 ·obtain ⟨a,ha⟩:=zQQ h4;have e:aS .i64 (a:Int) (p.fB.length:Int)=((a+p.fB.length:Nat):Int):=by rw [dQ aD aD]; omega
  rcases h3 with h3 | h3
  ·rw [h3,ha];show iL u u p d.fA (0,d)=some ⟨LW d.fA a p.fB,d.fB,d.fR,d.fP⟩;rw [RL (λx=>oT u p x (0,d)) ((a+p.fB.length:Nat):Int) aD (λk x=>iL u k p x (0,d)) (λk x=>by rw [<- e,<- ha]; rfl) (a+p.fB.length - d.fA.length) u d.fA wz6 aD];unfold oT;rw [ha,qbW d.fA a p.fB.length];rfl
  ·rw [h3,ha];show iK u u p (1,d) d.fB=some ⟨d.fA,LW d.fB a p.fB,d.fR,d.fP⟩;rw [RL (λx=>oS u p (1,d) x) ((a+p.fB.length:Nat):Int) aD (λk x=>iK u k p (1,d) x) (λk x=>by rw [<- e,<- ha]; rfl) (a+p.fB.length - d.fB.length) u d.fB wz6 aD];unfold oS;rw [ha,qbW d.fB a p.fB.length];rfl
theorem Ki{d:ar}(h:cV d=true):∀ p∈d.fP,mx p=true:=by
 unfold cV at h;simp only [sk] at h;exact aaf.1 h.2
def tup(d:ar):List Int×List Int×Int×Int×Int×List bR:=(d.fA,d.fB,d.fR.aN,d.fR.b9,d.fR.aV,d.fP)
def MX(d:ar)(a:List Int)(g:Int)(b:List Int):Bool:=M.holds d 0 a || M.holds d g b
theorem RN{u:Nat}(hu:1099511627776<=u){d:ar}(hd:M.DOk d)(a:List Int)(g:Int)(b:List Int):ws u d a g b=some (MX d a g b):=by
 unfold ws MX;rw [BQ hu hd,BQ hu hd]
 cases M.holds d 0 a <;> rfl
def j9(d:ar)(p:bR):ar:=⟨d.fA,d.fB,d.fR,d.fP++[p]⟩
theorem qaC(u:Nat){p:bR}(h:p.fB.length<=1048576):lG u p=some p:=by
 unfold lG;rw [bg il];simp
theorem KX{d:ar}{p:bR}(hd:M.DOk d)(hl:d.fP.length<=1048575)(hp:p.fB.length<=1048576):M.DOk (j9 d p) :=
 ⟨hd.a,hd.b,by simp [j9]; omega,λx hx=>by
  rcases aad.1 hx with h | h
  ·exact hd.puts x h
  ·simp at h; subst h; exact hp⟩
theorem LY{u:Nat}(hu:1099511627776<=u){d:ar}{p:bR}(hd:M.DOk d)(hl:d.fP.length<=1048575)(hp:p.fB.length<=1048576) :
  A9 u d p=some (if cV (j9 d p) then (j9 d p,true) else (d,false)):=by
 have hap:=hd.p;unfold A9;rw [j8 hu hd];simp only [wk];rw [qaC u hp];simp only [wk];rw [bg il];simp only [wk];have e:(ar.mk d.fA d.fB d.fR (d.fP++[p]))=j9 d p:=rfl;rw [e,uI hu (KX hd hl hp)];simp only [wk]
 cases h:cV (j9 d p) <;> simp
def E1:List bR->ar->ar
 | [],d=>⟨d.fA,d.fB,d.fR,[]⟩
 | p :: l,d=>E1 l (AG d p)
def uJ(d:ar):ar:=if cV d then E1 d.fP d else d
theorem qd1:∀ (l:List bR) (d:ar),(∀ p∈l,mx p=true)->M.DOk d->M.DOk (E1 l d)
 | [],d,_,hd=>⟨hd.a,hd.b,by simp [E1],by simp [E1]⟩
 | p :: l,d,hp,hd=>qd1 l _ (λq hq=>hp q (by simp [hq])) (RM hd (hp p jC))
theorem qgZ{d:ar}(hd:M.DOk d):M.DOk (uJ d):=by
 unfold uJ
 cases h:cV d with
 | true=>exact qd1 _ _ (Ki h) hd
 | false=>exact hd
theorem qbX{u:Nat}(hu:1099511627776<=u)(d0:ar):∀ (l:List bR) (i:Nat) (d:ar),(∀ p∈l,mx p=true/\p.fB.length<=1048576)->M.DOk d->bn (Es u d0) (Et u d0) l i (tup d)=some (E1 l d):=by
 intro l
 induction l with
 | nil=>intro i d _ _; rfl
 | cons p l ih =>
  intro i d hp hd;obtain ⟨h1,h2⟩:=hp p jC;show (tO u d p).bind (λr25=>bn (Es u d0) (Et u d0) l (i+1) (tup r25))=_;rw [Xw hu hd h2 h1];exact ih (i+1) _ (λq hq=>hp q (by simp [hq])) (RM hd h1)
theorem Pe{u:Nat}(hu:1099511627776<=u){d:ar}(hd:M.DOk d):A8 u d=some (uJ d):=by
 have h3:=hd.p;unfold A8 uJ;rw [j8 hu hd,uI hu hd];simp only [wk]
 cases h:cV d with
 | false=>rfl
 | true =>
  simp only [r0,cond_false,if_true];have:=Vi u d (tup d) u aD aD;exact this.trans (qbX hu d d.fP 0 d (λp hp=>⟨Ki h p hp,hd.puts p hp⟩) hd)
theorem qg0{α:Type}(l:List α)(k:Nat){v:α}(h:l[k]?=some v):ce l (k:Int)=some v:=by
 unfold ce;simp [h]
def Xx(c:Int):Option (Int×Nat)->Option (Int×Nat)
 | some (v,n)=>some (v*128+(c - 128),n+1)
 | none=>none
def M.rd:Nat->Bool->List Int->Option (Int×Nat)
 | 0,_,_=>none
 | _+1,_,[]=>none
 | k+1,f,c :: l=>if c < 128 then (if f || decide (0 < c) then some (c,1) else none) else Xx c (M.rd k false l)
theorem qhP:∀ (k:Nat) (f:Bool) (l:List Int) (w:Int) (j:Nat),aK l->M.rd k f l=some (w,j)->0<=w/\(f=false->0 < w)/\j<=l.length/\1<=j/\w < 128 ^ k/\∀ K,k<=K+1->l.take j=dm K w:=by
 intro k
 induction k with
 | zero=>intro f l w j _ h; simp [M.rd] at h
 | succ k ih =>
  intro f l w j hb h
  cases l with
  | nil=>simp [M.rd] at h
  | cons c l =>
   have hc:=hb c jC;unfold M.rd at h
   by_cases hc1:c < 128
   ·rw [if_pos hc1] at h
    split at h
    ·rename_i hf;simp only [Option.some.injEq,Prod.mk.injEq] at h;obtain ⟨rfl,rfl⟩:=h;have hp:(128:Int)<=128 ^ (k+1):=by
      rw [zXw]; have:(0:Int) < 128 ^ k:=Int.pow_pos (by decide); omega
     refine ⟨hc.1,λh0=>by subst h0; simpa using hf,by simp,by omega,by omega,λK _=>?_⟩
     cases K with
     | zero=>simp [dm]; omega
     | succ K=>unfold dm; rw [if_pos aD]; simp; omega
    ·cases h
   ·rw [if_neg hc1] at h
    cases hr:M.rd k false l with
    | none=>rw [hr] at h; cases h
    | some q =>
     obtain ⟨v,n⟩:=q;rw [hr] at h;simp only [Xx,Option.some.injEq,Prod.mk.injEq] at h;obtain ⟨rfl,rfl⟩:=h;obtain ⟨h1,h2,h3,h4,h5,h6⟩:=ih false l v n (λx hx=>hb x wz4) hr;have h2:=h2 rfl;have hk:k≠0:=by intro h0; subst h0; simp [M.rd] at hr
     refine ⟨by omega,λ_=>by omega,by simp; omega,by omega,by rw [zXw]; omega,λK hK=>?_⟩;obtain ⟨K,rfl⟩:∃ K',K=K'+1:=⟨K - 1,by omega⟩;unfold dm;rw [if_neg aD,List.take_succ_cons,h6 K aD]
     congr 1
     ·omega
     ·congr 1; omega
theorem qhQ:∀ (k K:Nat) (f:Bool) (n:Int) (t:List Int),1<=k->0<=n->(f=false->0 < n)->n < 128 ^ k->k<=K+1->M.rd k f (dm K n++t)=some (n,(dm K n).length):=by
 intro k
 induction k with
 | zero=>intro K f n t h0; omega
 | succ k ih =>
  intro K f n t h0 h1 h2 h3 h4
  by_cases h:n<=127
  ·have e:dm K n=[n]:=by
    cases K with
    | zero=>simp [dm]; omega
    | succ K=>unfold dm; rw [if_pos h]; simp; omega
   rw [e];simp only [zYX,M.rd,zYx];rw [if_pos aD,if_pos (by cases f <;> simp; exact h2 rfl)]
  ·have hk:k≠0:=by
    intro h0; subst h0;rw [show (128:Int) ^ (0+1)=128 by rfl] at h3; omega
   obtain ⟨K,rfl⟩:∃ K',K=K'+1:=⟨K - 1,by omega⟩;unfold dm;rw [if_neg h];simp only [zXz,M.rd];rw [if_neg aD,ih K false (n / 128) t aD aD (λ_=>by omega) (by rw [zXw] at h3; omega) aD];simp only [Xx,zQq,Option.some.injEq,Prod.mk.injEq,and_true];omega
theorem Xy{a n:Nat}(hn:n<=62)(h:a*2 ^ n < 9223372036854775808):iq .i64 (a:Int) (n:Int)=((a*2 ^ n:Nat):Int):=by
 unfold iq;rw [show min (sY (n:Int)) (IntKind.bits .i64)=n by simp [IntKind.bits]; omega];have e:(a:Int)*2 ^ n=((a*2 ^ n:Nat):Int):=by simp
 rw [e];exact wrap_i64 aD aD
theorem qf2{v a n:Nat}(hv:v < 2 ^ n):v ||| a*2 ^ n=v+a*2 ^ n:=by
 have h:=Nat.shiftLeft_add_eq_or_of_lt hv a;rw [Nat.shiftLeft_eq] at h;rw [Nat.or_comm,<- h,Nat.add_comm]
theorem qc3{v i:Nat}{c:Int}(hi:i<=7)(hv:v < 2 ^ (7*i))(h1:0<=c)(h2:c<=255):sC .i64 (v:Int) (iq .i64 (gU .i64 (zm .i64 c) 127) (ip .i64 7 (i:Int)))=((v+(c % 128).toNat*2 ^ (7*i):Nat):Int)/\v+(c % 128).toNat*2 ^ (7*i) < 2 ^ (7*(i+1)):=by
 have hp:(2:Nat) ^ (7*i)<=2 ^ 49:=zXJ aD aD;have hq:(2:Nat) ^ (7*(i+1))=128*2 ^ (7*i):=by rw [Nat.mul_add,Nat.pow_add,Nat.mul_comm]
 have hc:(c % 128).toNat < 128:=by omega
 have hm:(c % 128).toNat*2 ^ (7*i)<=127*2 ^ (7*i):=zQG _ aD;rw [wrap_i64 aD aD,qay,lW aD aD,show (7:Int)*(i:Int)=((7*i:Nat):Int) by omega,show c % 128=(((c % 128).toNat:Nat):Int) by omega];rw [show (((c % 128).toNat:Nat):Int).toNat=(c % 128).toNat by omega];have hp2:(2:Nat) ^ 49=562949953421312:=by decide
 rw [Xy aD aD,KW aD aD,qf2 hv];exact ⟨rfl,by omega⟩
def tx(o:Option (Int×Nat))(v i a:Nat)(r:Int×Int×Bool):Prop:=match o with
 | some (w,j)=>r=((v:Int)+w*2 ^ (7*i),((a+j:Nat):Int),true)
 | none=>r.2.2=false
theorem Xz{o:Option (Int×Nat)}{v i a x:Nat}{c:Int}{r:Int×Int×Bool}(hx:(x:Int)=c - 128)(h:tx o (v+x*2 ^ (7*i)) (i+1) (a+1) r):tx (Xx c o) v i a r:=by
 cases o with
 | none=>exact h
 | some q =>
  obtain ⟨w,j⟩:=q;unfold tx at h;unfold tx Xx;dsimp only at h ⊢;rw [h];refine Prod.ext ?_ (Prod.ext ?_ rfl)
  ·dsimp only;rw [show 7*(i+1)=7*i+7 by omega,Int.pow_add,<- hx];have:((v+x*2 ^ (7*i):Nat):Int)=(v:Int)+(x:Int)*2 ^ (7*i):=by simp
   rw [this];generalize (2:Int) ^ (7*i)=p;rw [show (2:Int) ^ 7=128 by rfl,zVQ,Int.mul_assoc w 128 p,zZw p 128];omega
  ·dsimp only; omega
theorem XA{α:Type}{b:List α}{a:Nat}(h:a < b.length):b.drop a=b[a] :: b.drop (a+1):=zWh h
theorem qeO(u:Nat){b:List Int}(hb:aK b)(hl:b.length<=1048576)(a n:Nat)(hn:n<=8):∀ (m i k v:Nat),i+m=n->m < k->v < 2 ^ (7*i)->∃ r,gR u k b a v n i=some r/\tx (M.rd m (i == 0) (b.drop (a+i))) v i (a+i) r:=by
 intro m
 induction m with
 | zero =>
  intro i k v h1 h2 h3;obtain ⟨k,rfl⟩:∃ j,k=j+1:=⟨k - 1,by omega⟩;have e:¬ ((i:Int) < (n:Int)):=by omega
  refine ⟨(0,0,false),?_,rfl⟩;unfold gR xI;simp only [e,decide_false,cond_false]
 | succ m ih =>
  intro i k v h1 h2 h3;obtain ⟨k,rfl⟩:∃ j,k=j+1:=⟨k - 1,by omega⟩;have e:(i:Int) < (n:Int):=by omega
  unfold gR;simp only [e,decide_true,cond_true];rw [cS (a:=(b.length:Int)) aD aD,cS aD aD,bK];simp only [wk]
  by_cases ha:a+i < b.length
  ·rw [show aw (a:Int) 0 ((b.length:Int) - 1 - (i:Int))=true by simp [aw]; omega,XA ha,dQ (a:=(a:Int)) aD aD,show (a:Int)+(i:Int)=((a+i:Nat):Int) by omega,bu,sX ha];have hc:=hb b[a+i] (zZW ha);obtain ⟨e1,e2⟩:=qc3 (i:=i) aD h3 hc.1 hc.2;simp only [r0,cond_false,wk];rw [e1,lW aD aD,bg aD,wrap_i64 aD aD,dQ (a:=((a+i:Nat):Int)) aD aD,jj aD];simp only [wk,M.rd]
   by_cases hc1:b[a+i] < 128
   ·simp only [hc1,decide_true,cond_true,if_true];have hv:((v+(b[a+i] % 128).toNat*2 ^ (7*i):Nat):Int)=(v:Int)+b[a+i]*2 ^ (7*i):=by
     have:((v+(b[a+i] % 128).toNat*2 ^ (7*i):Nat):Int)=(v:Int)+(((b[a+i] % 128).toNat:Nat):Int)*2 ^ (7*i):=by simp
     rw [this,show (((b[a+i] % 128).toNat:Nat):Int)=b[a+i] by omega]
    rw [hv]
    by_cases h0:i=0
    ·subst h0;refine ⟨_,rfl,?_⟩;simp [tx]
    ·have e3:((i:Int) == 0)=false:=by simp; omega
     have e4:(i == 0)=false:=by simpa using h0
     simp only [e3,e4,cond_false,Bool.false_or];refine ⟨_,rfl,?_⟩
     by_cases hc2:0 < b[a+i]
     ·have hc3:b[a+i] > 0:=hc2;simp only [hc2,hc3,decide_true,if_true,tx];refine Prod.ext rfl (Prod.ext ?_ rfl);dsimp only; omega
     ·have hc3:¬ b[a+i] > 0:=hc2;simp only [hc2,hc3,decide_false,zQw,if_false,tx]
   ·simp only [hc1,decide_false,cond_false,if_false];obtain ⟨r,g1,g2⟩:=ih (i+1) k _ aD aD e2;refine ⟨r,g1,Xz (x:=(b[a+i] % 128).toNat) aD ?_⟩;rw [show (i+1 == 0)=false by rfl] at g2;exact g2
  ·rw [show aw (a:Int) 0 ((b.length:Int) - 1 - (i:Int))=false by simp [aw]; omega,zYQ aD];exact ⟨(0,0,false),rfl,rfl⟩
def wh(n:Nat)(b:List Int)(a:Int):Option (Int×Int):=if 0<=a then match M.rd n true (b.drop a.toNat) with
  | some (v,j)=>some (v,a+j)
  | none=>none
 else none
theorem XB{u:Nat}(hu:1099511627776<=u){b:List Int}(hb:aK b)(hl:b.length<=1048576)(a:Int)(n:Nat)(h1:1<=n)(hn:n<=8):∃ r,rP u b a n=some r/\(match wh n b a with | some (v,e)=>r=(v,e,true) | none=>r.2.2=false):=by
 unfold rP wh
 by_cases ha:0<=a
 ·obtain ⟨a,rfl⟩:=zQQ ha;obtain ⟨r,g1,g2⟩:=qeO u hb hl a n hn n 0 u 0 aD aD jC;refine ⟨r,g1,?_⟩;rw [if_pos ha,rg];rw [zXy] at g2;unfold tx at g2
  cases hr:M.rd n true (b.drop a) with
  | none=>rw [show ((0 == 0:Bool))=true by rfl,hr] at g2; exact g2
  | some q=>obtain ⟨w,j⟩:=q; rw [show ((0 == 0:Bool))=true by rfl,hr] at g2; simpa using g2
 ·obtain ⟨u,rfl⟩:∃ j,u=j+1:=⟨u - 1,by omega⟩;rw [if_neg ha];refine ⟨(0,0,false),?_,rfl⟩;unfold gR;have e:(0:Int) < (n:Int):=by omega
  simp only [e,decide_true,cond_true];rw [cS (a:=(b.length:Int)) aD aD,cS aD aD,bK,show aw a 0 ((b.length:Int) - 1 - 0)=false by simp [aw]; omega];rfl
def be(b:List Int)(a:Int):Int×Int×Bool:=match wh 6 b a with
 | some (v,e)=>if v<=1000000000000 then (v,e,true) else (0,0,false)
 | none=>(0,0,false)
theorem AH{u:Nat}(hu:1099511627776<=u){b:List Int}(hb:aK b)(hl:b.length<=1048576)(a:Int):pX u b a=some (be b a):=by
 obtain ⟨r,g1,g2⟩:=XB hu hb hl a 6 aD aD;unfold pX be;rw [show ((6:Nat):Int)=6 by rfl] at g1;rw [g1];simp only [wk]
 cases hr:wh 6 b a with
 | none=>rw [hr] at g2; rw [g2]; rfl
 | some q =>
  obtain ⟨v,e⟩:=q;rw [hr] at g2;rw [g2]
  by_cases h:v<=1000000000000
  ·have:¬ v > 1000000000000:=by omega
   simp [h,this,uf]
  ·have:v > 1000000000000:=by omega
   simp [h,this,uf]
theorem qc4(u:Nat){b:List Int}(hb:aK b)(hl:b.length<=1048576)(a:Nat):∀ (m i k v:Nat),i+m=8->m < k->v < 2 ^ (7*i)->∃ r,gX u k b a v i=some r/\tx (M.rd m (i == 0) (b.drop (a+i))) v i (a+i) r:=by
 intro m
 induction m with
 | zero =>
  intro i k v h1 h2 h3;obtain ⟨k,rfl⟩:∃ j,k=j+1:=⟨k - 1,by omega⟩;have e:¬ ((i:Int) < 8):=by omega
  refine ⟨(0,0,false),?_,rfl⟩;unfold gX u6;simp only [e,decide_false,cond_false]
 | succ m ih =>
  intro i k v h1 h2 h3;obtain ⟨k,rfl⟩:∃ j,k=j+1:=⟨k - 1,by omega⟩;have e:(i:Int) < 8:=by omega
  unfold gX;simp only [e,decide_true,cond_true];rw [cS (a:=(b.length:Int)) aD aD]
  by_cases ha:a+i < b.length
  ·have e0:¬ ((a:Int)>=(b.length:Int) - (i:Int)):=by omega
   rw [XA ha,dQ (a:=(a:Int)) aD aD,show (a:Int)+(i:Int)=((a+i:Nat):Int) by omega,bu,sX ha];have hc:=hb b[a+i] (zZW ha);obtain ⟨e1,e2⟩:=qc3 (i:=i) aD h3 hc.1 hc.2;simp only [e0,decide_false,cond_false,wk];rw [e1,lW aD aD,bg aD,wrap_i64 aD aD,dQ (a:=((a+i:Nat):Int)) aD aD,jj aD];simp only [wk,M.rd]
   by_cases hc1:b[a+i] < 128
   ·simp only [hc1,decide_true,cond_true,if_true];have hv:((v+(b[a+i] % 128).toNat*2 ^ (7*i):Nat):Int)=(v:Int)+b[a+i]*2 ^ (7*i):=by
     have:((v+(b[a+i] % 128).toNat*2 ^ (7*i):Nat):Int)=(v:Int)+(((b[a+i] % 128).toNat:Nat):Int)*2 ^ (7*i):=by simp
     rw [this,show (((b[a+i] % 128).toNat:Nat):Int)=b[a+i] by omega]
    rw [hv]
    by_cases hc2:0 < b[a+i]
    ·have hc3:b[a+i] > 0:=hc2;simp only [hc2,hc3,decide_true,cond_true,Bool.or_true,if_true,tx];refine ⟨_,rfl,Prod.ext rfl (Prod.ext ?_ rfl)⟩;dsimp only; omega
    ·have hc3:¬ b[a+i] > 0:=hc2;simp only [hc2,hc3,decide_false,cond_false,Bool.or_false];refine ⟨_,rfl,?_⟩
     by_cases h0:i=0
     ·subst h0; simp [tx]
     ·have e4:(i == 0)=false:=by simpa using h0
      simp only [e4,zQw,if_false,tx];simp; omega
   ·simp only [hc1,decide_false,cond_false,if_false];obtain ⟨r,g1,g2⟩:=ih (i+1) k _ aD aD e2;refine ⟨r,g1,Xz (x:=(b[a+i] % 128).toNat) aD ?_⟩;rw [show (i+1 == 0)=false by rfl] at g2;exact g2
  ·have e0:(a:Int)>=(b.length:Int) - (i:Int):=by omega
   simp only [e0,decide_true,cond_true];rw [zYQ aD];exact ⟨(0,0,false),rfl,rfl⟩
theorem SJ{u:Nat}(hu:1099511627776<=u){b:List Int}(hb:aK b)(hl:b.length<=1048576){a:Int}(ha:0<=a):∃ r,wy u b a=some r/\(match wh 8 b a with | some (v,e)=>r=(v,e,true) | none=>r.2.2=false):=by
 unfold wy wh;obtain ⟨a,rfl⟩:=zQQ ha;obtain ⟨r,g1,g2⟩:=qc4 u hb hl a 8 0 u 0 aD aD jC;refine ⟨r,g1,?_⟩;rw [if_pos ha,rg];rw [zXy] at g2;unfold tx at g2
 cases hr:M.rd 8 true (b.drop a) with
 | none=>rw [show ((0 == 0:Bool))=true by rfl,hr] at g2; exact g2
 | some q=>obtain ⟨w,j⟩:=q; rw [show ((0 == 0:Bool))=true by rfl,hr] at g2; simpa using g2
def qbY(o:Option (Int×Nat))(v i a:Nat):Int×Int×Bool:=match o with
 | some (w,j)=>if (v:Int)+w*2 ^ (7*i)<=1000000000000 then ((v:Int)+w*2 ^ (7*i),((a+j:Nat):Int),true) else (0,0,false)
 | none=>(0,0,false)
theorem qg1(o:Option (Int×Nat))(v i a x:Nat)(c:Int)(hx:(x:Int)=c - 128):qbY (Xx c o) v i a=qbY o (v+x*2 ^ (7*i)) (i+1) (a+1):=by
 cases o with
 | none=>rfl
 | some q =>
  obtain ⟨w,j⟩:=q;unfold qbY Xx;dsimp only;have e:(v:Int)+(w*128+(c - 128))*2 ^ (7*i)=((v+x*2 ^ (7*i):Nat):Int)+w*2 ^ (7*(i+1)):=by
   rw [show 7*(i+1)=7*i+7 by omega,Int.pow_add,<- hx];have:((v+x*2 ^ (7*i):Nat):Int)=(v:Int)+(x:Int)*2 ^ (7*i):=by simp
   rw [this];generalize (2:Int) ^ (7*i)=p;rw [show (2:Int) ^ 7=128 by rfl,zVQ,Int.mul_assoc w 128 p,zZw p 128];omega
  rw [e,show a+(j+1)=a+1+j by omega]
theorem Y1(u:Nat){b:List Int}(hb:aK b)(hl:b.length<=1048576)(a:Nat):∀ (m i k v:Nat),i+m=6->m < k->v < 2 ^ (7*i)->ei u k b a v i=some (qbY (M.rd m (i == 0) (b.drop (a+i))) v i (a+i)):=by
 intro m
 induction m with
 | zero =>
  intro i k v h1 h2 h3;obtain ⟨k,rfl⟩:∃ j,k=j+1:=⟨k - 1,by omega⟩;have e:¬ ((i:Int) < 6):=by omega
  unfold ei zu;simp only [e,decide_false,cond_false]; rfl
 | succ m ih =>
  intro i k v h1 h2 h3;obtain ⟨k,rfl⟩:∃ j,k=j+1:=⟨k - 1,by omega⟩;have e:(i:Int) < 6:=by omega
  have en:¬ ((a:Int) < 0):=by omega
  unfold ei oG;simp only [e,en,decide_true,decide_false,cond_true,cond_false];rw [cS (a:=(b.length:Int)) aD aD]
  by_cases ha:a+i < b.length
  ·have e0:¬ ((a:Int)>=(b.length:Int) - (i:Int)):=by omega
   rw [XA ha,dQ (a:=(a:Int)) aD aD,show (a:Int)+(i:Int)=((a+i:Nat):Int) by omega,bu,sX ha];have hc:=hb b[a+i] (zZW ha);obtain ⟨e1,e2⟩:=qc3 (i:=i) aD h3 hc.1 hc.2;simp only [e0,decide_false,cond_false,wk];unfold tR;rw [e1,lW aD aD,bg aD,wrap_i64 aD aD,dQ (a:=(a:Int)) (b:=(i:Int)) aD aD,dQ (a:=(a:Int)+(i:Int)) aD aD,jj aD];simp only [wk,M.rd]
   by_cases hc1:b[a+i] < 128
   ·simp only [hc1,decide_true,cond_true,if_true];have hv:((v+(b[a+i] % 128).toNat*2 ^ (7*i):Nat):Int)=(v:Int)+b[a+i]*2 ^ (7*i):=by
     have:((v+(b[a+i] % 128).toNat*2 ^ (7*i):Nat):Int)=(v:Int)+(((b[a+i] % 128).toNat:Nat):Int)*2 ^ (7*i):=by simp
     rw [this,show (((b[a+i] % 128).toNat:Nat):Int)=b[a+i] by omega]
    rw [hv];have hgt:∀ x:Int,decide (x > 1000000000000)=!decide (x<=1000000000000):=λx=>by rw [<- decide_not,decide_eq_decide]; omega
    have hs:((a:Int)+(i:Int)+1)=((a+i+1:Nat):Int):=by omega
    rw [hs]
    by_cases hc2:b[a+i]=0
    ·have e5:¬ (0 < b[a+i]):=by omega
     have e6:(b[a+i] == 0)=true:=by simpa using hc2
     by_cases h0:i=0
     ·subst h0;have hv0:v=0:=by simpa using h3
      subst hv0;simp only [e6,cond_true,hgt,qbY];rw [hc2];rfl
     ·have e4:(i == 0)=false:=by simpa using h0
      have e7:(i:Int) > 0:=by omega
      simp only [e4,e5,e6,e7,decide_true,decide_false,cond_true,Bool.or_false,zQw,if_false,qbY]
    ·have e5:0 < b[a+i]:=by omega
     have e6:(b[a+i] == 0)=false:=by simpa using hc2
     simp only [e5,e6,decide_true,cond_false,Bool.or_true,if_true,hgt,qbY]
     by_cases hq:(v:Int)+b[a+i]*2 ^ (7*i)<=1000000000000
     ·simp [hq]
     ·simp [hq]
   ·simp only [hc1,decide_false,cond_false,if_false];rw [ih (i+1) k _ aD aD e2,show (i+1 == 0)=false by rfl,qg1 _ v i (a+i) (b[a+i] % 128).toNat _ aD];rfl
  ·have e0:(a:Int)>=(b.length:Int) - (i:Int):=by omega
   simp only [e0,decide_true,cond_true];rw [zYQ aD]; rfl
theorem l0{u:Nat}(hu:1099511627776<=u){b:List Int}(hb:aK b)(hl:b.length<=1048576)(a:Int):iu u b a=some (be b a):=by
 unfold iu be wh
 by_cases ha:0<=a
 ·obtain ⟨a,rfl⟩:=zQQ ha;have h:=Y1 u hb hl a 6 0 u 0 aD aD jC;rw [zXy] at h;rw [show ei u u b (a:Int) 0 0=_ from h,if_pos ha,rg,show (0 == 0:Bool)=true by rfl];unfold qbY
  cases M.rd 6 true (b.drop a) with
  | none=>rfl
  | some q=>obtain ⟨w,j⟩:=q; simp
 ·obtain ⟨u,rfl⟩:∃ j,u=j+1:=⟨u - 1,by omega⟩;rw [if_neg ha];unfold ei oG;have e:a < 0:=by omega
  simp [e]
theorem LZ{α:Type}(b:List α)(a j:Nat):b.take (a+j)=b.take a++(b.drop a).take j:=List.take_add
theorem Pf{n:Nat}{b:List Int}{a v e:Int}(hb:aK b)(h:wh n b a=some (v,e))(hn:n<=10):0<=a/\a < e/\e<=b.length/\0<=v/\v < 128 ^ n/\b.take e.toNat=b.take a.toNat++dm 9 v:=by
 unfold wh at h
 by_cases ha:0<=a
 ·rw [if_pos ha] at h
  cases hr:M.rd n true (b.drop a.toNat) with
  | none=>rw [hr] at h; cases h
  | some q =>
   obtain ⟨w,j⟩:=q;rw [hr] at h;simp only [Option.some.injEq,Prod.mk.injEq] at h;obtain ⟨rfl,rfl⟩:=h;obtain ⟨h1,h2,h3,h4,h5,h6⟩:=qhP n true _ w j (λx hx=>hb x (zYv hx)) hr;rw [zZx] at h3;refine ⟨ha,by omega,by omega,h1,h5,?_⟩;rw [show (a+(j:Int)).toNat=a.toNat+j by omega,LZ,h6 9 aD]
 ·rw [if_neg ha] at h; cases h
theorem cU{b:List Int}{a v e:Int}(hb:aK b)(h:be b a=(v,e,true)):0<=a/\a < e/\e<=b.length/\0<=v/\v<=1000000000000/\b.take e.toNat=b.take a.toNat++dm 9 v:=by
 unfold be at h
 cases hr:wh 6 b a with
 | none=>rw [hr] at h; cases h
 | some q =>
  obtain ⟨w,e'⟩:=q;rw [hr] at h;dsimp only at h
  split at h
  ·simp only [Prod.mk.injEq,and_true] at h;obtain ⟨rfl,rfl⟩:=h;have:=Pf hb hr aD;exact ⟨this.1,this.2.1,this.2.2.1,this.2.2.2.1,by assumption,this.2.2.2.2.2⟩
  ·cases h
theorem co(b:List Int)(a:Int):(∃ v e,be b a=(v,e,true))\/be b a=(0,0,false):=by
 unfold be
 split
 ·split
  ·exact .inl ⟨_,_,rfl⟩
  ·exact .inr rfl
 ·exact .inr rfl
theorem XC{p:List Int}{n:Int}(t:List Int)(h0:0<=n)(h1:n<=1000000000000):be (p++dm 9 n++t) p.length=(n,((p.length+(dm 9 n).length:Nat):Int),true):=by
 unfold be wh;rw [if_pos aD,rg,zQH,List.drop_left,qhQ 6 9 true n t aD h0 (λh=>by cases h) (by rw [show (128:Int) ^ 6=4398046511104 by decide]; omega) aD];simp [h1]
def nU(m:ae):Bool:=(m.aN == 0) && (m.aG == 0) && (m.aV == 0) && (m.aI.length == 0)
theorem AI(u:Nat)(m:ae):jY u m=some (nU m):=by
 unfold jY nU;rw [show ((m.aI.length:Int) == 0)=(m.aI.length == 0) from Pc _ 0]
 cases m.aN == 0 <;> cases m.aG == 0 <;> cases m.aV == 0 <;> rfl
theorem Pg(m:ae):iQ m ⟨0,0,0,[]⟩=nU m:=by
 unfold iQ nU M.same
 cases h:m.aI with
 | nil=>simp [GI]
 | cons s l=>simp
def nB(m:eC):Bool :=
 if m.bp=1 then (m.aN == 0) && (m.ay.aN != 0) && dh m.ay && ((m.bJ == 0) && (m.bG == 0) && (m.fI == 0) && (m.fB.length == 0))
 else if m.bp=2 then aw m.aN 0 1000000 && nU m.ay && bD m.bJ && bD m.bG && (m.fI == 0) && (m.fB.length == 0)
 else if m.bp=3 then aw m.aN 1 1000000 && nU m.ay && (m.bJ == 0) && (m.bG == 0) && aw m.fI 0 39 && aw m.fB.length 1 6
 else if m.bp=4 then aw m.aN 0 1000000 && nU m.ay && ((m.bJ == 0) && (m.bG == 0) && (m.fI == 0) && (m.fB.length == 0))
 else false
theorem GJ{u:Nat}(hu:1099511627776<=u){m:eC}(hs:m.ay.aI.length<=1048576):Bk u m=some (nB m):=by
 unfold Bk nB k9 yd pS;simp only [qs hu m.ay (show m.ay.aI.length<=1073741824 by omega),AI,jP,bK,wk];rw [show ((m.fB.length:Int) == 0)=(m.fB.length == 0) from Pc _ 0];generalize dh m.ay=x1;generalize nU m.ay=x2;generalize bD m.bJ=x3;generalize bD m.bG=x4;generalize aw m.aN 0 1000000=x5;generalize aw m.aN 1 1000000=x6;generalize aw m.fI 0 39=x7;generalize aw m.fB.length 1 6=x8;generalize (m.fB.length == 0)=x9;generalize (m.ay.aN != 0)=x10;generalize (m.aN == 0)=x11;generalize (m.bJ == 0)=x12;generalize (m.bG == 0)=x13;generalize (m.fI == 0)=x14
 by_cases h1:m.bp=1
 ·simp only [h1,beq_self_eq_true,cond_true,if_true]
  cases x1 <;> cases x10 <;> cases x11 <;> cases x12 <;> cases x13 <;> cases x14 <;> cases x9 <;> rfl
 ·have e1:(m.bp == 1)=false:=by simpa using h1
  by_cases h2:m.bp=2
  ·simp only [h2,e1,beq_self_eq_true,cond_true,if_true]
   cases x5 <;> cases x2 <;> cases x3 <;> cases x4 <;> cases x14 <;> cases x9 <;> rfl
  ·have e2:(m.bp == 2)=false:=by simpa using h2
   by_cases h3:m.bp=3
   ·simp only [h3,beq_self_eq_true,cond_true,if_true]
    cases x6 <;> cases x2 <;> cases x12 <;> cases x13 <;> cases x7 <;> cases x8 <;> rfl
   ·have e3:(m.bp == 3)=false:=by simpa using h3
    by_cases h4:m.bp=4
    ·simp only [h4,beq_self_eq_true,cond_true,if_true]
     cases x5 <;> cases x2 <;> cases x12 <;> cases x13 <;> cases x14 <;> cases x9 <;> rfl
    ·have e4:(m.bp == 4)=false:=by simpa using h4
     simp only [e1,e2,e3,e4,h1,h2,h3,h4,cond_false,if_false]
theorem GK{u:Nat}(hu:1099511627776<=u){m:eC}(hs:m.ay.aI.length<=1048576):Bb u m=some (nB m):=by
 unfold Bb nB sP;simp only [xR hu hs,Pg,jO hu m.ay (show m.ay.aI.length<=1073741824 by omega),iX,b5,wk];rw [show ((m.fB.length:Int) == 0)=(m.fB.length == 0) from Pc _ 0];generalize dh m.ay=x1;generalize nU m.ay=x2;generalize bD m.bJ=x3;generalize bD m.bG=x4;generalize aw m.aN 0 1000000=x5;generalize aw m.aN 1 1000000=x6;generalize aw m.fI 0 39=x7;generalize aw m.fB.length 1 6=x8;generalize (m.fB.length == 0)=x9;generalize (m.ay.aN != 0)=x10;generalize (m.aN == 0)=x11;generalize (m.bJ == 0)=x12;generalize (m.bG == 0)=x13;generalize (m.fI == 0)=x14
 by_cases h1:m.bp=1
 ·simp only [h1,beq_self_eq_true,cond_true,if_true]
  cases x1 <;> cases x10 <;> cases x11 <;> cases x12 <;> cases x13 <;> cases x14 <;> cases x9 <;> rfl
 ·have e1:(m.bp == 1)=false:=by simpa using h1
  by_cases h2:m.bp=2
  ·simp only [h2,e1,beq_self_eq_true,cond_true,if_true]
   cases x5 <;> cases x2 <;> cases x3 <;> cases x4 <;> cases x14 <;> cases x9 <;> cases x12 <;> cases x13 <;> rfl
  ·have e2:(m.bp == 2)=false:=by simpa using h2
   by_cases h3:m.bp=3
   ·simp only [h3,beq_self_eq_true,cond_true,if_true]
    cases x6 <;> cases x2 <;> cases x12 <;> cases x13 <;> cases x7 <;> cases x8 <;> cases x14 <;> cases x9 <;> rfl
   ·have e3:(m.bp == 3)=false:=by simpa using h3
    by_cases h4:m.bp=4
    ·simp only [h4,beq_self_eq_true,cond_true,if_true]
     cases x5 <;> cases x2 <;> cases x12 <;> cases x13 <;> cases x14 <;> cases x9 <;> rfl
    ·have e4:(m.bp == 4)=false:=by simpa using h4
     simp only [e1,e2,e3,e4,h1,h2,h3,h4,cond_false,if_false]
     cases x12 <;> cases x13 <;> cases x14 <;> rfl
def AJ:ae×Int×Bool:=(⟨0,0,0,[]⟩,0,false)
def nV:Nat->List Int->Int->List bQ->Option (List bQ×Int)
 | 0,_,a,acc=>some (acc,a)
 | n+1,b,a,acc=>match wh 8 b a with
  | some (v,e)=>if (cx v).2 then nV n b e (acc++[fd (cx v).1]) else none
  | none=>none
def uK(g s l:Int):Option (List bQ×Int)->ae×Int×Bool
 | some (ss,e)=>if dh ⟨g,s,l,ss⟩ then (⟨g,s,l,ss⟩,e,true) else AJ
 | none=>AJ
theorem Y2{u:Nat}(hu:1099511627776<=u){b:List Int}(hb:aK b)(hl:b.length<=1048576)(g s l:Int)(n:Nat)(hn:n<=1000):∀ (m i k:Nat) (a:Int) (acc:List bQ),i+m=n->m < k->acc.length+m<=1000->gK u k b a n i g s l acc=some (uK g s l (nV m b a acc)):=by
 intro m
 induction m with
 | zero =>
  intro i k a acc h1 h2 h3;obtain ⟨k,rfl⟩:∃ j,k=j+1:=⟨k - 1,by omega⟩;have e:¬ ((i:Int) < (n:Int)):=by omega
  unfold gK zY;simp only [e,decide_false,cond_false];rw [qs hu _ (show acc.length<=1073741824 by omega)];simp only [wk,nV,uK,AJ]
  cases dh ⟨g,s,l,acc⟩ <;> rfl
 | succ m ih =>
  intro i k a acc h1 h2 h3;obtain ⟨k,rfl⟩:∃ j,k=j+1:=⟨k - 1,by omega⟩;have e:(i:Int) < (n:Int):=by omega
  obtain ⟨r,g1,g2⟩:=XB hu hb hl a 8 aD aD;rw [show ((8:Nat):Int)=8 by rfl] at g1;unfold gK q8;simp only [e,decide_true,cond_true,g1,wk,Jd hu,nV]
  cases hr:wh 8 b a with
  | none=>rw [hr] at g2; rw [g2]; rfl
  | some q =>
   obtain ⟨v,e'⟩:=q;rw [hr] at g2;rw [g2];have hv:=wY v;dsimp only
   cases h:(cx v).2 with
   | false=>rfl
   | true =>
    simp only [r0,cond_false,if_true];rw [wZ hu hv.1 aD];simp only [wk];rw [bg il,jj aD];exact ih (i+1) k e' _ aD aD il
theorem qc5(size len:Int):∀ (l:List bQ) (i:Nat),rp size len l i=true->∀ s∈l,(cx s.fS).2=true:=by
 intro l
 induction l with
 | nil=>intro i _ s hs; simp at hs
 | cons x l ih =>
  intro i h s hs;simp only [rp,CC,sk] at h;rcases aah.1 hs with rfl | hs
  ·exact h.1.1.1
  ·exact ih (i+1) h.2 s hs
theorem ZL{g s l:Int}{ss:List bQ}(h:∃ x∈ss,(cx x.fS).2=false):dh ⟨g,s,l,ss⟩=false:=by
 obtain ⟨x,hx,hb⟩:=h
 cases hm:dh ⟨g,s,l,ss⟩ with
 | false=>rfl
 | true =>
  unfold dh at hm;dsimp only at hm
  split at hm
  ·simp only [sk,beq_iff_eq,List.length_eq_zero_iff] at hm;rw [hm.2] at hx; simp at hx
  ·simp only [sk] at hm;have:=qc5 _ _ _ _ hm.2 x hx;rw [this] at hb; cases hb
theorem UA{u:Nat}(hu:1099511627776<=u){b:List Int}(hb:aK b)(hl:b.length<=1048576)(r1 r2 r3:Int×Int×Bool):∀ (m i k:Nat) (a:Int) (acc:List bQ),i+m=(cE r2.1 r3.1).toNat\/(m=0/\(cE r2.1 r3.1).toNat<=i)->m < k->acc.length+m<=1000->0<=a->(∃ x∈acc,(cx x.fS).2=false)->ej u k b r1 r2 r3 a i acc=some AJ:=by
 have hk:=blocks_range r2.1 r3.1;intro m
 induction m with
 | zero =>
  intro i k a acc h1 h2 h3 h4 h5;obtain ⟨k,rfl⟩:∃ j,k=j+1:=⟨k - 1,by omega⟩;have e:¬ ((i:Int) < cE r2.1 r3.1):=by omega
  unfold ej lK qP;simp only [iW,wk,e,decide_false,cond_false];rw [jO hu _ (show acc.length<=1073741824 by omega),ZL h5]; rfl
 | succ m ih =>
  intro i k a acc h1 h2 h3 h4 h5;obtain ⟨k,rfl⟩:∃ j,k=j+1:=⟨k - 1,by omega⟩;have e:(i:Int) < cE r2.1 r3.1:=by omega
  obtain ⟨r,g1,g2⟩:=SJ hu hb hl h4;unfold ej lK qP;simp only [iW,wk,e,decide_true,cond_true,g1,Dh hu]
  by_cases hg:r1.1 > 0
  ·simp only [hg,decide_true,cond_true]
   cases hr:wh 8 b a with
   | none=>rw [hr] at g2; rw [g2]; rfl
   | some q =>
    obtain ⟨v,e'⟩:=q;rw [hr] at g2;rw [g2];have hv:=wY v;have hp:=Pf hb hr aD;dsimp only;simp only [r0,cond_false];rw [qr hu hv.1 aD];simp only [wk];rw [bg il,jj aD];obtain ⟨x,hx,hbx⟩:=h5;exact ih (i+1) k e' _ aD aD il aD ⟨x,by simp [hx],hbx⟩
  ·simp only [hg,decide_false,cond_false];rw [jO hu _ (show acc.length<=1073741824 by omega),ZL h5]; rfl
theorem Y3{u:Nat}(hu:1099511627776<=u){b:List Int}(hb:aK b)(hl:b.length<=1048576){r1 r2 r3:Int×Int×Bool}(hg:0 < r1.1):∀ (m i k:Nat) (a:Int) (acc:List bQ),i+m=(cE r2.1 r3.1).toNat->m < k->acc.length+m<=1000->0<=a->ej u k b r1 r2 r3 a i acc=some (uK r1.1 r2.1 r3.1 (nV m b a acc)):=by
 have hk:=blocks_range r2.1 r3.1;intro m
 induction m with
 | zero =>
  intro i k a acc h1 h2 h3 h4;obtain ⟨k,rfl⟩:∃ j,k=j+1:=⟨k - 1,by omega⟩;have e:¬ ((i:Int) < cE r2.1 r3.1):=by omega
  unfold ej lK qP;simp only [iW,wk,e,decide_false,cond_false];rw [jO hu _ (show acc.length<=1073741824 by omega)];simp only [wk,nV,uK,AJ]
  cases dh ⟨r1.1,r2.1,r3.1,acc⟩ <;> rfl
 | succ m ih =>
  intro i k a acc h1 h2 h3 h4;obtain ⟨k,rfl⟩:∃ j,k=j+1:=⟨k - 1,by omega⟩;have e:(i:Int) < cE r2.1 r3.1:=by omega
  have hg':r1.1 > 0:=hg;obtain ⟨r,g1,g2⟩:=SJ hu hb hl h4;unfold ej lK;simp only [iW,wk,e,hg',decide_true,cond_true,g1,Dh hu,nV]
  cases hr:wh 8 b a with
  | none=>rw [hr] at g2; rw [g2]; rfl
  | some q =>
   obtain ⟨v,e'⟩:=q;rw [hr] at g2;rw [g2];have hv:=wY v;have hp:=Pf hb hr aD;dsimp only;simp only [r0,cond_false];rw [qr hu hv.1 aD];simp only [wk];rw [bg il,jj aD];simp only [wk]
   cases h:(cx v).2 with
   | false =>
    simp only [zQw,if_false];exact UA hu hb hl r1 r2 r3 m (i+1) k e' _ aD aD il aD ⟨_,List.mem_append_right _ (List.mem_singleton.2 rfl),h⟩
   | true =>
    simp only [if_true];have hs:fd (cx v).1=⟨(fd (cx v).1).fW,v⟩:=by
     have:=GG (s:=v) (b:=(cx v).1) (by rw [<- h]);rw [this]
    rw [<- hs];exact ih (i+1) k e' _ aD aD il aD
theorem RO{u:Nat}(hu:1099511627776<=u)(b:List Int){r1 r2 r3:Int×Int×Bool}(hg:r1.1=0)(k:Nat)(a:Int):ej u (k+1) b r1 r2 r3 a 0 []=some (uK r1.1 r2.1 r3.1 (some ([],a))):=by
 have hg':¬ r1.1 > 0:=by omega
 unfold ej lK qP;simp only [iW,wk,hg',decide_false];have:∀ c:Bool,(bif c then (kU u ⟨r1.1,r2.1,r3.1,[]⟩).bind λr22=>bif !r22 then some ((⟨0,0,0,[]⟩,0,false):ae×Int×Bool) else some (⟨r1.1,r2.1,r3.1,[]⟩,a,true) else (kU u ⟨r1.1,r2.1,r3.1,[]⟩).bind λr22=>bif !r22 then some ((⟨0,0,0,[]⟩,0,false):ae×Int×Bool) else some (⟨r1.1,r2.1,r3.1,[]⟩,a,true))=some (uK r1.1 r2.1 r3.1 (some ([],a))):=by
  intro c;rw [jO hu _ (show ([]:List bQ).length<=1073741824 by simp)];simp only [wk,uK,AJ]
  cases c <;> cases dh ⟨r1.1,r2.1,r3.1,[]⟩ <;> rfl
 exact this _
def BA:Nat->List Int->Int->List Int->List Int×Int×Bool
 | 0,_,a,acc=>(acc,a,true)
 | n+1,b,a,acc=>if (be b a).2.2 then BA n b (be b a).2.1 (acc++[(be b a).1]) else ([],0,false)
theorem qc6{u:Nat}(hu:1099511627776<=u){b:List Int}(hb:aK b)(hl:b.length<=1048576)(n:Nat)(hn:n<=1000):∀ (m i k:Nat) (a:Int) (acc:List Int),i+m=n->m < k->acc.length+m<=1000->g9 u k b a acc n i=some (BA m b a acc):=by
 intro m
 induction m with
 | zero =>
  intro i k a acc h1 h2 h3;obtain ⟨k,rfl⟩:∃ j,k=j+1:=⟨k - 1,by omega⟩;have e:¬ ((i:Int) < (n:Int)):=by omega
  unfold g9 vw;simp only [e,decide_false,cond_false]; rfl
 | succ m ih =>
  intro i k a acc h1 h2 h3;obtain ⟨k,rfl⟩:∃ j,k=j+1:=⟨k - 1,by omega⟩;have e:(i:Int) < (n:Int):=by omega
  unfold g9;simp only [e,decide_true,cond_true,AH hu hb hl,wk,BA]
  cases h:(be b a).2.2 with
  | false=>rfl
  | true =>
   simp only [r0,cond_false,if_true];rw [bg il,jj aD];exact ih (i+1) k _ _ aD aD il
theorem Kj{u:Nat}(hu:1099511627776<=u){b:List Int}(hb:aK b)(hl:b.length<=1048576)(a:Int)(n:Nat)(hn:n<=1000):qj u b a n=some (BA n b a []):=by
 unfold qj;exact qc6 hu hb hl n hn n 0 u a [] aD aD il
def l5(b:List Int)(a:Int):ae×Int×Bool :=
 let g1:=be b a
 let g2:=be b g1.2.1
 let g3:=be b g2.2.1
 if g1.2.2 && g2.2.2 && g3.2.2 then uK g1.1 g2.1 g3.1 (nV (cE g2.1 g3.1).toNat b g3.2.1 []) else AJ
theorem XD{u:Nat}(hu:1099511627776<=u){b:List Int}(hb:aK b)(hl:b.length<=1048576)(a:Int):Co u b a=some (l5 b a):=by
 unfold Co l5;rw [show (3:Int)=((3:Nat):Int) by rfl,Kj hu hb hl a 3 aD];simp only [wk,BA]
 cases h1:(be b a).2.2 with
 | false=>rfl
 | true =>
  cases h2:(be b (be b a).2.1).2.2 with
  | false=>rfl
  | true =>
   cases h3:(be b (be b (be b a).2.1).2.1).2.2 with
   | false=>rfl
   | true =>
    have hk:=blocks_range (be b (be b a).2.1).1 (be b (be b (be b a).2.1).2.1).1;simp only [if_true,r0,cond_false,zWj,zQy,zQH,zXz];rw [show (0:Int)=((0:Nat):Int) by rfl,show (1:Int)=((1:Nat):Int) by rfl,show (2:Int)=((2:Nat):Int) by rfl];simp only [bu,zWH,List.getElem?_cons_succ,wk,uD];generalize hn:(cE (be b (be b a).2.1).1 (be b (be b (be b a).2.1).2.1).1)=n at hk;obtain ⟨n,rfl⟩:=zQQ hk.1;rw [rg];exact Y2 hu hb hl _ _ _ n aD n 0 u _ [] aD aD il
theorem SK{s l:Int}{ss:List bQ}{e:Int}(h:cE s l≠0):uK 0 s l (some (ss,e))=AJ:=by
 unfold uK dh;dsimp only;have hz:¬ (s=0):=by
  intro h0; subst h0
  apply h
  unfold cE fM aw;simp
 simp [hz]
theorem XE{u:Nat}(hu:1099511627776<=u){b:List Int}(hb:aK b)(hl:b.length<=1048576)(a:Int):Cd u b a=some (l5 b a):=by
 unfold Cd l5 tT;simp only [l0 hu hb hl,wk];rcases co b a with ⟨v1,e1,h1⟩ | h1
 ·rw [h1];rcases co b e1 with ⟨v2,e2,h2⟩ | h2
  ·dsimp only;rw [h2];rcases co b e2 with ⟨v3,e3,h3⟩ | h3
   ·dsimp only;rw [h3];have p1:=cU hb h1;have p3:=cU hb h3;have hk:=blocks_range v2 v3;simp only [r0,cond_false,zWj,if_true]
    by_cases hg:0 < v1
    ·exact Y3 hu hb hl (r1:=(v1,e1,true)) (r2:=(v2,e2,true)) (r3:=(v3,e3,true)) hg (cE v2 v3).toNat 0 u e3 [] jC aD il aD
    ·have h0:v1=0:=by omega
     subst h0;obtain ⟨u',rfl⟩:∃ j,u=j+1:=⟨u - 1,by omega⟩;rw [RO (r1:=(0,e1,true)) (r2:=(v2,e2,true)) (r3:=(v3,e3,true)) hu b rfl u' e3];dsimp only
     by_cases hn:cE v2 v3=0
     ·rw [hn]; rfl
     ·rw [SK hn]
      cases hs:nV (cE v2 v3).toNat b e3 [] with
      | none=>rfl
      | some q=>obtain ⟨ss,e⟩:=q; rw [SK hn]
   ·dsimp only;rw [h3]; rfl
  ·dsimp only;rw [h2]; simp;rfl
 ·rw [h1]; simp;rfl
theorem XF(xs:List Int):(strOfNums xs).toList=xs.map λn=>UInt8.ofNat n.toNat:=by
 rw [ByteArray.toList_eq,strOfNums_data]
theorem qhR{a b:Int}(h1:0<=a)(h2:a<=255)(h3:0<=b)(h4:b<=255)(h:UInt8.ofNat a.toNat=UInt8.ofNat b.toNat):a=b:=by
 have:=congrArg UInt8.toNat h;simp only [UInt8.toNat_ofNat'] at this;omega
theorem Ph{a b:List Int}(ha:aK a)(hb:aK b):yT a b=decide (a=b):=by
 unfold yT;rw [zXX,beq_iff_eq,decide_eq_true_eq,XF,XF];constructor
 ·intro h
  revert b
  induction a with
  | nil=>intro b _ h; cases b with
   | nil=>rfl
   | cons y b=>simp at h
  | cons x a ih =>
   intro b hb h
   cases b with
   | nil=>simp at h
   | cons y b =>
    simp only [zWk,List.cons.injEq] at h;have hx:=ha x jC;have hy:=hb y jC;rw [qhR hx.1 hx.2 hy.1 hy.2 h.1,ih (λz hz=>ha z wz7) (λz hz=>hb z wz7) h.2]
 ·intro h; rw [h]
def tc(b:List Int)(a:Int):List Int×Int×Bool :=
 let g:=be b a
 if g.2.2 && decide (g.1<=6) && decide (g.1<=b.length - g.2.1) then (M.win b g.2.1.toNat g.1.toNat,g.2.1+g.1,true) else ([],0,false)
theorem UB{u:Nat}(hu:1099511627776<=u){b:List Int}(hb:aK b)(hl:b.length<=1048576)(a:Int):zZ u b a 6=some (tc b a):=by
 unfold zZ tc xJ;simp only [AH hu hb hl,wk];rcases co b a with ⟨v,e,h⟩ | h
 ·rw [h];have p:=cU hb h;dsimp only
  by_cases h6:v<=6
  ·have h7:¬ v > 6:=by omega
   simp only [h6,h7,decide_true,decide_false,r0,cond_false,zQg];obtain ⟨v,rfl⟩:=zQQ p.2.2.2.1;obtain ⟨e,rfl⟩:=zQQ (show 0<=e by omega)
   by_cases hv:(v:Int)<=(b.length:Int) - (e:Int)
   ·rw [LT u (show e+v<=b.length by omega) aD];simp only [hv,decide_true,if_true,wk,r0,cond_false,rg];rw [dQ aD aD]
   ·simp only [hv,decide_false,zQw,if_false];unfold yb wE;rw [cS aD aD,bK,bK,show aw (e:Int) 0 (b.length:Int)=true by simp [aw]; omega,show aw (v:Int) 0 ((b.length:Int) - (e:Int))=false by simp [aw]; omega];rfl
  ·have h7:v > 6:=by omega
   simp [h6,h7]
 ·rw [h]; simp
theorem UC{u:Nat}(hu:1099511627776<=u){b:List Int}(hb:aK b)(hl:b.length<=1048576)(a:Int):zw u b a 6=some (tc b a):=by
 unfold zw tc si;simp only [l0 hu hb hl,wk];rcases co b a with ⟨v,e,h⟩ | h
 ·rw [h];have p:=cU hb h;dsimp only
  by_cases h6:v<=6
  ·have h7:¬ v > 6:=by omega
   simp only [h6,h7,decide_true,decide_false,r0,cond_false,zQg];obtain ⟨v,rfl⟩:=zQQ p.2.2.2.1;obtain ⟨e,rfl⟩:=zQQ (show 0<=e by omega);rw [cS aD aD]
   by_cases hv:(v:Int)<=(b.length:Int) - (e:Int)
   ·have hv':¬ ((v:Int) > (b.length:Int) - (e:Int)):=by omega
    simp only [hv,hv',decide_true,decide_false,cond_false,if_true];rw [j7 aD,eJ aD aD,bg il];simp only [wk,rg,zQy];rw [show ((e+v:Nat):Int)=(e:Int)+(v:Int) by omega]; rfl
   ·have hv':(v:Int) > (b.length:Int) - (e:Int):=by omega
    simp [hv,hv']
  ·have h7:v > 6:=by omega
   simp [h6,h7]
 ·rw [h]; simp
theorem qbZ{b p:List Int}{a e:Int}(hb:aK b)(h:tc b a=(p,e,true)):0<=a/\a < e/\e<=b.length/\aK p/\p.length<=6/\b.take e.toNat=(b.take a.toNat++dm 9 p.length)++p:=by
 unfold tc at h;rcases co b a with ⟨v,e',g⟩ | g
 ·rw [g] at h;have q:=cU hb g;dsimp only at h
  split at h
  ·rename_i hc;simp only [zQg,sk,decide_eq_true_eq] at hc;simp only [Prod.mk.injEq,and_true] at h;obtain ⟨rfl,rfl⟩:=h;obtain ⟨v,rfl⟩:=zQQ q.2.2.2.1;obtain ⟨e',rfl⟩:=zQQ (show 0<=e' by omega);simp only [rg] at q ⊢;have hw:(M.win b e' v).length=v:=by unfold M.win; rw [zZx,zQz]; omega
   refine ⟨q.1,by omega,by omega,qc hb _ _,by omega,?_⟩;rw [show ((e':Int)+(v:Int)).toNat=e'+v by omega,LZ,q.2.2.2.2.2,hw,WV]
  ·cases h
 ·rw [g] at h; cases h
def sF(c:List Int)(s:Int):List Int:=aX (aX c (gU .i64 s 1048575)) (qm .i64 s 20)
def fm(m:eC):List Int :=
 if m.bp=1 then uE (aX [] m.bp) m.ay
 else if m.bp=2 then sF (sF (aX (aX [] m.bp) m.aN) m.bJ) m.bG
 else if m.bp=3 then aX (aX (aX (aX [] m.bp) m.aN) m.fI) m.fB.length++m.fB
 else if m.bp=4 then aX (aX [] m.bp) m.aN
 else aX [] m.bp
def iY(m:eC):List Int:=if nB m then aX (fm m) (cP (fm m)) else []
structure M.MsgWf (m:eC):Prop where
 sums:m.ay.aI.length<=1048576
 wf:BN m.ay
 b:aK m.fB
 len:m.fB.length<=1048576
theorem ja{b:List Int}(h:aK b)(n:Int):aK (aX b n):=by
 unfold aX
 split
 ·exact F9 h (ZJ 9 n)
 ·exact h
theorem Y4:∀ (l:List bQ) (b:List Int),aK b->aK (pC b l):=by
 intro l
 induction l with
 | nil=>intro b h; exact h
 | cons s l ih=>intro b h; exact ih _ (F9 h (ZJ 9 s.fS))
theorem qaD{b:List Int}(h:aK b)(m:ae):aK (uE b m):=by
 unfold uE
 split
 ·exact Y4 _ _ (ja (ja (ja h _) _) _)
 ·exact h
theorem L0(b:List Int)(m:ae):(uE b m).length<=b.length+430:=by
 unfold uE
 split
 ·rename_i h;have h0:=yQ h;have h1:=bq b m.aN;have h2:=bq (aX b m.aN) m.aG;have h3:=bq (aX (aX b m.aN) m.aG) m.aV;have h4:=Xp m.aI (aX (aX (aX b m.aN) m.aG) m.aV);omega
 ·omega
theorem la:aK []:=λx hx=>by simp at hx
theorem MY{m:eC}(hm:M.MsgWf m):aK (fm m)/\(fm m).length<=1049600:=by
 have k:=bq [] m.bp;have kb:=ja la m.bp;have g:=bq (aX [] m.bp) m.aN;have gb:=ja kb m.aN;simp only [zXj] at k;unfold fm sF
 split
 ·exact ⟨qaD kb _,by have:=L0 (aX [] m.bp) m.ay; omega⟩
 ·split
  ·refine ⟨ja (ja (ja (ja gb _) _) _) _,?_⟩;have h1:=bq (aX (aX [] m.bp) m.aN) (gU .i64 m.bJ 1048575);have h2:=bq (aX (aX (aX [] m.bp) m.aN) (gU .i64 m.bJ 1048575)) (qm .i64 m.bJ 20);have h3:=bq (aX (aX (aX (aX [] m.bp) m.aN) (gU .i64 m.bJ 1048575)) (qm .i64 m.bJ 20)) (gU .i64 m.bG 1048575);have h4:=bq (aX (aX (aX (aX (aX [] m.bp) m.aN) (gU .i64 m.bJ 1048575)) (qm .i64 m.bJ 20)) (gU .i64 m.bG 1048575)) (qm .i64 m.bG 20);omega
  ·split
   ·refine ⟨F9 (ja (ja gb _) _) hm.b,?_⟩;have h1:=bq (aX (aX [] m.bp) m.aN) m.fI;have h2:=bq (aX (aX (aX [] m.bp) m.aN) m.fI) m.fB.length;have h3:=hm.len;rw [zQh]; omega
   ·split
    ·exact ⟨gb,by omega⟩
    ·exact ⟨kb,by omega⟩
theorem E2{u:Nat}(hu:1099511627776<=u){m:eC}(hm:M.MsgWf m):yL u m=some (iY m):=by
 have k:=bq [] m.bp;have g:=bq (aX [] m.bp) m.aN;simp only [zXj] at k;have hl:=hm.len;obtain ⟨hb,hbl⟩:=MY hm;unfold yL iY;rw [GJ hu hm.sums];simp only [wk]
 cases hok:nB m with
 | false=>rfl
 | true =>
  simp only [r0,cond_false,if_true];rw [er hu jC];simp only [wk];have tail:lS u (fm m)=some (aX (fm m) (cP (fm m))):=by
   unfold lS;rw [EX hu hb aD];simp only [wk];rw [er hu aD]; rfl
  rw [<- tail]
  clear tail hbl hb
  unfold fm sF
  by_cases h1:m.bp=1
  ·simp only [h1,beq_self_eq_true,cond_true,if_true];rw [h1] at k;rw [WT hu aD (by have:=hm.sums; omega) hm.wf]; rfl
  ·have e1:(m.bp == 1)=false:=by simpa using h1
   by_cases h2:m.bp=2
   ·rw [h2] at k g;have h3:=bq (aX (aX [] 2) m.aN) (gU .i64 m.bJ 1048575);have h4:=bq (aX (aX (aX [] 2) m.aN) (gU .i64 m.bJ 1048575)) (qm .i64 m.bJ 20);have h5:=bq (aX (aX (aX (aX [] 2) m.aN) (gU .i64 m.bJ 1048575)) (qm .i64 m.bJ 20)) (gU .i64 m.bG 1048575);simp only [h2,beq_self_eq_true,cond_true,if_true,Cn];rw [er hu aD]; simp only [wk];rw [er hu aD]; simp only [wk];rw [er hu aD]; simp only [wk];rw [er hu aD]; simp only [wk];rw [er hu aD]; rfl
   ·have e2:(m.bp == 2)=false:=by simpa using h2
    by_cases h3:m.bp=3
    ·rw [h3] at k g;have h4:=bq (aX (aX [] 3) m.aN) m.fI;have h5:=bq (aX (aX (aX [] 3) m.aN) m.fI) m.fB.length;simp only [h3,beq_self_eq_true,cond_true,if_true,DS];rw [er hu aD]; simp only [wk];rw [er hu aD]; simp only [wk];rw [er hu aD]; simp only [wk];rw [bg aD]; rfl
    ·have e3:(m.bp == 3)=false:=by simpa using h3
     by_cases h4:m.bp=4
     ·rw [h4] at k;simp only [h4,beq_self_eq_true,cond_true,if_true];rw [er hu aD]; rfl
     ·have e4:(m.bp == 4)=false:=by simpa using h4
      simp only [e1,e2,e3,e4,h1,h2,h3,h4,cond_false,if_false]
theorem gA{c:List Int}{n:Int}(h0:0<=n)(h1:n<=1000000000000):aX c n=c++dm 9 n:=by
 unfold aX;rw [if_pos (by simp [aw]; omega)]
theorem qb0{b:List Int}(hb:aK b):∀ (n:Nat) (a:Int) (acc l:List bQ) (e:Int),nV n b a acc=some (l,e)->0<=a->a<=b.length->∃ l',l=acc++l'/\a<=e/\e<=b.length/\b.take e.toNat=pC (b.take a.toNat) l'/\∀ s∈l',s.fS<=9223372036854775807:=by
 intro n
 induction n with
 | zero =>
  intro a acc l e h h0 h1;simp only [nV,Option.some.injEq,Prod.mk.injEq] at h;obtain ⟨rfl,rfl⟩:=h;exact ⟨[],by simp,by omega,h1,rfl,by simp⟩
 | succ n ih =>
  intro a acc l e h h0 h1;unfold nV at h
  cases hr:wh 8 b a with
  | none=>rw [hr] at h; cases h
  | some q =>
   obtain ⟨v,e1⟩:=q;rw [hr] at h;dsimp only at h;have p:=Pf hb hr aD
   split at h
   ·rename_i hv;obtain ⟨l',g1,g2,g3,g4,g5⟩:=ih e1 _ l e h aD p.2.2.1;have hs:(fd (cx v).1).fS=v:=by
     have:=GG (s:=v) (b:=(cx v).1) (by rw [<- hv]);rw [this]
    have hp:(128:Int) ^ 8=72057594037927936:=by decide
    refine ⟨fd (cx v).1 :: l',by rw [g1]; simp,by omega,g3,?_,?_⟩
    ·rw [g4,p.2.2.2.2.2,pC,hs]
    ·intro s hs';rcases aah.1 hs' with rfl | hs'
     ·rw [hs]; omega
     ·exact g5 s hs'
   ·cases h
theorem qc7{b:List Int}(hb:aK b){a e:Int}{m:ae}(h:l5 b a=(m,e,true)):0<=a/\a<=e/\e<=b.length/\dh m=true/\BN m/\b.take e.toNat=uE (b.take a.toNat) m:=by
 unfold l5 at h;rcases co b a with ⟨v1,e1,h1⟩ | h1
 ·rw [h1] at h;dsimp only at h;rcases co b e1 with ⟨v2,e2,h2⟩ | h2
  ·rw [h2] at h;dsimp only at h;rcases co b e2 with ⟨v3,e3,h3⟩ | h3
   ·rw [h3] at h;simp only [zWj,if_true] at h;have p1:=cU hb h1;have p2:=cU hb h2;have p3:=cU hb h3
    cases hs:nV (cE v2 v3).toNat b e3 [] with
    | none=>rw [hs] at h; cases h
    | some q =>
     obtain ⟨ss,e'⟩:=q;rw [hs] at h;unfold uK at h;dsimp only at h
     split at h
     ·rename_i hm;simp only [Prod.mk.injEq,and_true] at h;obtain ⟨rfl,rfl⟩:=h;obtain ⟨l',g1,g2,g3,g4,g5⟩:=qb0 hb _ e3 [] ss e' hs aD p3.2.2.1;rw [zQy] at g1;subst g1;refine ⟨p1.1,by omega,g3,hm,g5,?_⟩;unfold uE;rw [if_pos hm,gA p1.2.2.2.1 p1.2.2.2.2.1,gA p2.2.2.2.1 p2.2.2.2.2.1,gA p3.2.2.2.1 p3.2.2.2.2.1,g4,p3.2.2.2.2.2,p2.2.2.2.2.2,p1.2.2.2.2.2]
     ·cases h
   ·rw [h3] at h; simp [AJ] at h
  ·rw [h2] at h; simp [AJ] at h
 ·rw [h1] at h; simp [AJ] at h
def rC(n:Int):Bool:=decide (n < 1048576)
def Lv:ae:=⟨0,0,0,[]⟩
def CD(b:List Int)(a:Int):Option (eC×Int) :=
 let g0:=be b a
 let g1:=be b g0.2.1
 let g2:=be b g1.2.1
 let g3:=be b g2.2.1
 let g4:=be b g3.2.1
 if g0.2.2 && ((g1.2.2 && rC g1.1) && ((g2.2.2 && rC g2.1) && ((g3.2.2 && rC g3.1) && (g4.2.2 && rC g4.1)))) then some (⟨2,g0.1,Lv,g1.1+g2.1*1048576,g3.1+g4.1*1048576,0,[]⟩,g4.2.1) else none
def E3(b:List Int)(a:Int):Option (eC×Int) :=
 let g0:=be b a
 let g1:=be b g0.2.1
 let g2:=tc b g1.2.1
 if g0.2.2 && g1.2.2 && g2.2.2 then some (⟨3,g0.1,Lv,0,0,g1.1,g2.1⟩,g2.2.1) else none
theorem BR{b:List Int}(hb:aK b)(a:Int):0<=(be b a).1:=by
 rcases co b a with ⟨v,e,h⟩ | h
 ·rw [h]; exact (cU hb h).2.2.2.1
 ·rw [h]; exact Int.le_refl 0
theorem qf3{u:Nat}(hu:1099511627776<=u){b:List Int}(hb:aK b)(hl:b.length<=1048576)(k:Nat)(a:Int)(acc:List Int)(i:Nat)(hi:i < 4)(hacc:acc.length<=4)(p2:Int)(r2:Int×Int×Bool) :
  dq u (k+1) b a acc i p2 r2=if (be b a).2.2 && rC (be b a).1 then dq u k b (be b a).2.1 (acc++[(be b a).1]) ((i+1:Nat):Int) p2 r2 else some (⟨p2,r2.1,Lv,0,0,0,[]⟩,0,false):=by
 have e:(i:Int) < 4:=by omega
 rw [dq];simp only [e,decide_true,cond_true,l0 hu hb hl,wk];unfold pi rC;rw [bg il,jj aD]
 cases h:(be b a).2.2 with
 | false=>rfl
 | true =>
  by_cases hq:(be b a).1 < 1048576
  ·have hq':¬ (be b a).1>=1048576:=by omega
   simp [hq,hq']
  ·have hq':(be b a).1>=1048576:=by omega
   simp [hq,hq',Lv]
theorem IA{x y:Int}(h1:0<=x)(h2:x < 1048576)(h3:0<=y)(h4:y < 1048576):aS .i64 x (iq .i64 y 20)=x+y*1048576/\sC .i64 x (iq .i64 y 20)=x+y*1048576/\gU .i64 (x+y*1048576) 1048575=x/\qm .i64 (x+y*1048576) 20=y:=by
 obtain ⟨a,rfl⟩:=zQQ h1;obtain ⟨c,rfl⟩:=zQQ h3;have hp:(2:Nat) ^ 20=1048576:=by decide
 have e:=Xy (a:=c) (n:=20) aD (by rw [hp]; omega);rw [hp] at e;rw [show ((20:Nat):Int)=20 by rfl] at e;rw [e];refine ⟨by rw [dQ aD aD]; omega,?_,?_,?_⟩
 ·have h:=qf2 (v:=a) (a:=c) (n:=20) (by rw [hp]; omega);rw [hp] at h;rw [KW aD aD,h]; omega
 ·rw [show (a:Int)+(c:Int)*1048576=((a+c*1048576:Nat):Int) by omega,show (1048575:Int)=((1048575:Nat):Int) by rfl,qbU aD aD,show (1048575:Nat)=2 ^ 20 - 1 by decide,zZZ,hp]; omega
 ·rw [show (a:Int)+(c:Int)*1048576=((a+c*1048576:Nat):Int) by omega,show (20:Int)=((20:Nat):Int) by rfl,qbV aD,hp]; omega
theorem qc8{u:Nat}(hu:1099511627776<=u){b:List Int}(hb:aK b)(hl:b.length<=1048576)(a:Int):∃ r,gY u b a 2=some r/\(match CD b a with | some (m,e)=>r=(m,e,true) | none=>r.2.2=false):=by
 obtain ⟨u',hu'⟩:∃ j,u=j+5:=⟨u - 5,by omega⟩;unfold gY CD;rw [show ((2:Int) == 1)=false by rfl,show ((2:Int) == 2)=true by rfl];simp only [cond_false,cond_true,l0 hu hb hl,wk]
 cases h0:(be b a).2.2 with
 | false=>exact ⟨_,rfl,rfl⟩
 | true =>
  simp only [r0,cond_false,zQg];have st:∀ (k:Nat) (a:Int) (acc:List Int) (i:Nat),i < 4->acc.length<=4->∀ r2:Int×Int×Bool,dq u (k+1) b a acc i 2 r2=if (be b a).2.2 && rC (be b a).1 then dq u k b (be b a).2.1 (acc++[(be b a).1]) ((i+1:Nat):Int) 2 r2 else some (⟨2,r2.1,Lv,0,0,0,[]⟩,0,false):=λk a acc i h1 h2 r2=>qf3 hu hb hl k a acc i h1 h2 2 r2
  generalize hv:be b a=g0;rw [show dq u u b g0.2.1 [] 0 2 g0=dq u (u'+4+1) b g0.2.1 [] ((0:Nat):Int) 2 g0 by rw [<- hu']; rfl,st _ _ _ 0 aD jC]
  cases h1:((be b g0.2.1).2.2 && rC (be b g0.2.1).1) with
  | false=>exact ⟨_,rfl,rfl⟩
  | true =>
   simp only [if_true,zQg,zQy];rw [show u'+4=u'+3+1 by omega,st _ _ _ 1 aD jC];generalize hv1:be b g0.2.1=g1
   cases h2:((be b g1.2.1).2.2 && rC (be b g1.2.1).1) with
   | false=>exact ⟨_,rfl,rfl⟩
   | true =>
    simp only [if_true,zQg];rw [show u'+3=u'+2+1 by omega,st _ _ _ 2 aD jC];generalize hv2:be b g1.2.1=g2
    cases h3:((be b g2.2.1).2.2 && rC (be b g2.2.1).1) with
    | false=>exact ⟨_,rfl,rfl⟩
    | true =>
     simp only [if_true,zQg];rw [show u'+2=u'+1+1 by omega,st _ _ _ 3 aD jC];generalize hv3:be b g2.2.1=g3
     cases h4:((be b g3.2.1).2.2 && rC (be b g3.2.1).1) with
     | false=>exact ⟨_,rfl,rfl⟩
     | true =>
      simp only [if_true];rw [dq];have e:¬ (((3+1:Nat):Int) < 4):=by omega
      simp only [e,decide_false,cond_false];unfold xn xm;rw [show (0:Int)=((0:Nat):Int) by rfl,show (1:Int)=((1:Nat):Int) by rfl,show (2:Int)=((2:Nat):Int) by rfl,show (3:Int)=((3:Nat):Int) by rfl];simp only [bu,zQy,zXz,zQH,zWH,List.getElem?_cons_succ,wk];refine ⟨_,rfl,?_⟩;have r1:0<=g1.1/\g1.1 < 1048576:=by
       rw [<- hv1]; refine ⟨BR hb _,?_⟩;simp only [sk,rC,decide_eq_true_eq] at h1; exact h1.2
      have r2:0<=g2.1/\g2.1 < 1048576:=by
       rw [<- hv2]; refine ⟨BR hb _,?_⟩;simp only [sk,rC,decide_eq_true_eq] at h2; exact h2.2
      have r3:0<=g3.1/\g3.1 < 1048576:=by
       rw [<- hv3]; refine ⟨BR hb _,?_⟩;simp only [sk,rC,decide_eq_true_eq] at h3; exact h3.2
      have r4:0<=(be b g3.2.1).1/\(be b g3.2.1).1 < 1048576:=by
       refine ⟨BR hb _,?_⟩;simp only [sk,rC,decide_eq_true_eq] at h4; exact h4.2
      rw [(IA r1.1 r1.2 r2.1 r2.2).1,(IA r3.1 r3.2 r4.1 r4.2).1];rfl
theorem nxt{b p t:List Int}{e e' v n:Int}(hb:b=p++dm 9 n++t)(hp:b.take e.toNat=p)(h0:0<=e)(h1:e<=b.length)(hg:be b e=(v,e',true))(n0:0<=n)(n1:n<=1000000000000):v=n/\b.take e'.toNat=p++dm 9 n:=by
 have hl:p.length=e.toNat:=by rw [<- hp,zQz]; omega
 have h:=XC (p:=p) (n:=n) t n0 n1;rw [<- hb,hl,show ((e.toNat:Nat):Int)=e by omega,hg] at h;simp only [Prod.mk.injEq,and_true] at h;refine ⟨h.1,?_⟩;rw [h.2,rg,hb,<- hl,<- zQh,List.take_left]
theorem SL{w:Int}(h:bD w=true):∃ x y,0<=x/\x < 1048576/\0<=y/\y < 1048576/\gU .i64 w 1048575=x/\qm .i64 w 20=y:=by
 have h:=cd h;have:=IA (x:=w % 1048576) (y:=w / 1048576) aD aD aD aD;refine ⟨w % 1048576,w / 1048576,by omega,by omega,by omega,by omega,?_,?_⟩
 ·have h2:=this.2.2.1;rwa [show w % 1048576+w / 1048576*1048576=w by omega] at h2
 ·have h2:=this.2.2.2;rwa [show w % 1048576+w / 1048576*1048576=w by omega] at h2
theorem Pi{k:Int}(h0:0<=k)(h1:k<=1000000000000):aX [] k=dm 9 k:=by rw [gA h0 h1]; rfl
theorem qg2{b:List Int}(hb:aK b){a v0 e0 v1 e1 v2 e2 v3 e3 v4 e4 W D:Int}(ha:b.take a.toNat=dm 9 2)(h0:be b a=(v0,e0,true))(h1:be b e0=(v1,e1,true))(h2:be b e1=(v2,e2,true))(h3:be b e2=(v3,e3,true))(h4:be b e3=(v4,e4,true))
  (hok:nB ⟨2,v0,Lv,W,D,0,[]⟩=true) (hp:iY ⟨2,v0,Lv,W,D,0,[]⟩=b):rC v1=true/\rC v2=true/\rC v3=true/\rC v4=true:=by
 have p0:=cU hb h0;have p1:=cU hb h1;have p2:=cU hb h2;have p3:=cU hb h3;have p4:=cU hb h4;have hs:bD W=true/\bD D=true:=by
  unfold nB at hok;dsimp only at hok;rw [if_neg (show ¬ ((2:Int)=1) by decide),if_pos rfl] at hok;simp only [sk] at hok;exact ⟨hok.1.1.1.2,hok.1.1.2⟩
 obtain ⟨x1,x2,a1,a2,a3,a4,a5,a6⟩:=SL hs.1;obtain ⟨x3,x4,c1,c2,c3,c4,c5,c6⟩:=SL hs.2;unfold iY at hp;rw [if_pos hok] at hp;have hbody:fm ⟨2,v0,Lv,W,D,0,[]⟩=dm 9 2++dm 9 v0++dm 9 x1++dm 9 x2++dm 9 x3++dm 9 x4:=by
  show sF (sF (aX (aX [] 2) v0) W) D=_;unfold sF;rw [a5,a6,c5,c6,Pi aD aD,gA p0.2.2.2.1 p0.2.2.2.2.1,gA a1 aD,gA a3 aD,gA c1 aD,gA c3 aD]
 have hw:=Iu (fm ⟨2,v0,Lv,W,D,0,[]⟩);rw [gA hw.1 aD,hbody] at hp;generalize dm 9 (cP (dm 9 2++dm 9 v0++dm 9 x1++dm 9 x2++dm 9 x3++dm 9 x4))=t at hp;have q0:b.take e0.toNat=dm 9 2++dm 9 v0:=by rw [p0.2.2.2.2.2,ha]
 have q1:=nxt (t:=dm 9 x2++dm 9 x3++dm 9 x4++t) (by rw [<- hp]; simp) q0 aD p0.2.2.1 h1 a1 aD;have q2:=nxt (t:=dm 9 x3++dm 9 x4++t) (by rw [<- hp]; simp) q1.2 aD p1.2.2.1 h2 a3 aD;have q3:=nxt (t:=dm 9 x4++t) (by rw [<- hp]; simp) q2.2 aD p2.2.2.1 h3 c1 aD;have q4:=nxt (t:=t) (by rw [<- hp]) q3.2 aD p3.2.2.1 h4 c3 aD;unfold rC;simp only [decide_eq_true_eq];omega
theorem L1(k g w d i:Int){p:List Int}(hp:aK p)(hl:p.length<=1048576):M.MsgWf ⟨k,g,Lv,w,d,i,p⟩:=⟨by simp [Lv],by intro s hs; simp [Lv] at hs,hp,hl⟩
def GL(b:List Int)(r:eC×Bool)(o:Option (eC×Int)):Prop:=match o with
 | some (m,e)=>r=(m,true)
 | none=>r.2=false\/(M.MsgWf r.1/\(nB r.1=true->iY r.1≠b))
theorem IB{b:List Int}{r:eC×Bool}{c:Bool}{x:eC×Int}(hc:c=false)(hr:r.2=false):GL b r (if c then some x else none):=by
 subst hc; exact .inl hr
theorem qd2{α:Type}{b:Bool}(h:b=true)(x y:α):(bif !b then x else y)=y:=by subst h; rfl
theorem XG{α β:Type}(a:α)(f:α->Option β):(some a).bind f=f a:=(wk (a:=a) (f:=f)).trans (Eq.refl _)
theorem qip(a b c d e:Int):ce [a,b,c,d,e] 0=some a:=(bu [a,b,c,d,e] 0).trans rfl
theorem qiq(a b c d e:Int):ce [a,b,c,d,e] 1=some b:=(bu [a,b,c,d,e] 1).trans rfl
theorem qir(a b c d e:Int):ce [a,b,c,d,e] 2=some c:=(bu [a,b,c,d,e] 2).trans rfl
theorem qis(a b c d e:Int):ce [a,b,c,d,e] 3=some d:=(bu [a,b,c,d,e] 3).trans rfl
theorem qit(a b c d e:Int):ce [a,b,c,d,e] 4=some e:=(bu [a,b,c,d,e] 4).trans rfl
theorem qc9{u:Nat}(hu:1099511627776<=u){b:List Int}(hb:aK b)(hl:b.length<=1048576){a:Int}(ha:b.take a.toNat=dm 9 2):∃ r,hH u b 2 a=some r/\GL b r (CD b a):=by
 unfold hH CD;rw [show ((2:Int) == 1)=false by rfl,show ((2:Int) == 2)=true by rfl];simp only [cond_false,cond_true];rw [show (5:Int)=((5:Nat):Int) by rfl,Kj hu hb hl a 5 aD];simp only [wk,BA];rcases co b a with ⟨v0,e0,h0⟩ | h0
 ·rw [h0];simp only [if_true];rcases co b e0 with ⟨v1,e1,h1⟩ | h1
  ·rw [h1];simp only [if_true];rcases co b e1 with ⟨v2,e2,h2⟩ | h2
   ·rw [h2];simp only [if_true];rcases co b e2 with ⟨v3,e3,h3⟩ | h3
    ·rw [h3];simp only [if_true];rcases co b e3 with ⟨v4,e4,h4⟩ | h4
     ·rw [h4];rw [if_pos rfl,qd2 (by rfl)];have hq:[]++[v0]++[v1]++[v2]++[v3]++[v4]=[v0,v1,v2,v3,v4]:=rfl;rw [hq,qip,qiq,qir,qis,qit,XG,XG,XG,XG,XG];unfold mX;refine ⟨_,rfl,?_⟩;have p1:=cU hb h1;have p2:=cU hb h2;have p3:=cU hb h3;have p4:=cU hb h4
      cases hc:(true && (true && rC v1 && (true && rC v2 && (true && rC v3 && (true && rC v4))))) with
      | true =>
       simp only [zQg,sk,rC,decide_eq_true_eq] at hc;simp only [if_true,GL];rw [(IA p1.2.2.2.1 hc.1 p2.2.2.2.1 hc.2.1).2.1,(IA p3.2.2.2.1 hc.2.2.1 p4.2.2.2.1 hc.2.2.2).2.1];rfl
      | false =>
       simp only [zQw,if_false,GL];refine .inr ⟨L1 _ _ _ _ _ la jC,λhok hp=>?_⟩;have:=qg2 hb ha h0 h1 h2 h3 h4 hok hp;rw [this.1,this.2.1,this.2.2.1,this.2.2.2] at hc
       cases hc
     ·rw [h4]; exact ⟨_,rfl,IB jC rfl⟩
    ·rw [h3]; exact ⟨_,rfl,IB jC rfl⟩
   ·rw [h2]; exact ⟨_,rfl,IB jC rfl⟩
  ·rw [h1]; exact ⟨_,rfl,IB jC rfl⟩
 ·rw [h0]; exact ⟨_,rfl,IB jC rfl⟩
theorem qi1{b:List Int}(hb:aK b){a e:Int}{m:eC}(ha:b.take a.toNat=dm 9 2)(h:CD b a=some (m,e)):M.MsgWf m/\0<=e/\e<=b.length/\fm m=b.take e.toNat:=by
 unfold CD at h;dsimp only at h
 split at h
 ·rename_i hc;simp only [sk,rC,decide_eq_true_eq] at hc;obtain ⟨k0,⟨k1,l1⟩,⟨k2,l2⟩,⟨k3,l3⟩,k4,l4⟩:=hc;simp only [Option.some.injEq,Prod.mk.injEq] at h;obtain ⟨rfl,rfl⟩:=h;rcases (co b a).symm with h0 | ⟨v0,e0,h0⟩
  ·simp [h0] at k0
  simp only [h0] at k0 k1 l1 k2 l2 k3 l3 k4 l4 ⊢;rcases (co b e0).symm with h1 | ⟨v1,e1,h1⟩
  ·simp [h1] at k1
  simp only [h1] at k0 k1 l1 k2 l2 k3 l3 k4 l4 ⊢;rcases (co b e1).symm with h2 | ⟨v2,e2,h2⟩
  ·simp [h2] at k2
  simp only [h2] at k0 k1 l1 k2 l2 k3 l3 k4 l4 ⊢;rcases (co b e2).symm with h3 | ⟨v3,e3,h3⟩
  ·simp [h3] at k3
  simp only [h3] at k0 k1 l1 k2 l2 k3 l3 k4 l4 ⊢;rcases (co b e3).symm with h4 | ⟨v4,e4,h4⟩
  ·simp [h4] at k4
  simp only [h4] at k0 k1 l1 k2 l2 k3 l3 k4 l4 ⊢;have p0:=cU hb h0;have p1:=cU hb h1;have p2:=cU hb h2;have p3:=cU hb h3;have p4:=cU hb h4;have s1:=IA p1.2.2.2.1 l1 p2.2.2.2.1 l2;have s2:=IA p3.2.2.2.1 l3 p4.2.2.2.1 l4;refine ⟨L1 _ _ _ _ _ la jC,by omega,p4.2.2.1,?_⟩;show sF (sF (aX (aX [] 2) v0) (v1+v2*1048576)) (v3+v4*1048576)=b.take e4.toNat;unfold sF;rw [s1.2.2.1,s1.2.2.2,s2.2.2.1,s2.2.2.2,Pi aD aD,gA p0.2.2.2.1 p0.2.2.2.2.1,gA p1.2.2.2.1 p1.2.2.2.2.1,gA p2.2.2.2.1 p2.2.2.2.2.1,gA p3.2.2.2.1 p3.2.2.2.2.1,gA p4.2.2.2.1 p4.2.2.2.2.1];rw [p4.2.2.2.2.2,p3.2.2.2.2.2,p2.2.2.2.2.2,p1.2.2.2.2.2,p0.2.2.2.2.2,ha]
 ·cases h
def IC(r:eC×Int×Bool)(o:Option (eC×Int)):Prop:=match o with
 | some (m,e)=>r=(m,e,true)
 | none=>r.2.2=false\/(r.1.ay.aI.length<=1048576/\nB r.1=false)
def M.puts(b:List Int)(o:Option (eC×Int)):Prop:=∀ m e,o=some (m,e)->M.MsgWf m/\0<=e/\e<=b.length/\fm m=b.take e.toNat
theorem ZM{α:Type}(r:α×Int×Bool)(h:r.2.2=true):r=(r.1,r.2.1,true):=by rw [<- h]
def E4(b:List Int)(a:Int):Option (eC×Int):=if (l5 b a).2.2 then some (⟨1,0,(l5 b a).1,0,0,0,[]⟩,(l5 b a).2.1) else none
def E5(b:List Int)(a:Int):Option (eC×Int):=if (be b a).2.2 then some (⟨4,(be b a).1,Lv,0,0,0,[]⟩,(be b a).2.1) else none
theorem qda{u:Nat}(hu:1099511627776<=u){b:List Int}(hb:aK b)(hl:b.length<=1048576)(a:Int):∃ r,gY u b a 1=some r/\IC r (E4 b a):=by
 refine ⟨(⟨1,0,(l5 b a).1,0,0,0,[]⟩,(l5 b a).2.1,(l5 b a).2.2),?_,?_⟩
 ·unfold gY;rw [XE hu hb hl]; rfl
 ·unfold E4 IC
  cases h:(l5 b a).2.2 with
  | false=>exact .inl rfl
  | true=>rfl
theorem qdb{u:Nat}(hu:1099511627776<=u){b:List Int}(hb:aK b)(hl:b.length<=1048576)(a:Int):∃ r,hH u b 1 a=some r/\GL b r (E4 b a):=by
 refine ⟨(⟨1,0,(l5 b a).1,0,0,0,[]⟩,(l5 b a).2.2),?_,?_⟩
 ·unfold hH;rw [XD hu hb hl]; rfl
 ·unfold E4 GL
  cases h:(l5 b a).2.2 with
  | false=>exact .inl rfl
  | true=>rfl
theorem qi2{b:List Int}(hb:aK b){a:Int}(ha:b.take a.toNat=dm 9 1):M.puts b (E4 b a):=by
 intro m e h;unfold E4 at h
 split at h
 ·rename_i hc;simp only [Option.some.injEq,Prod.mk.injEq] at h;obtain ⟨rfl,rfl⟩:=h;have p:=qc7 hb (ZM _ hc);refine ⟨⟨by have:=yQ p.2.2.2.1; show (l5 b a).1.aI.length<=_; omega,p.2.2.2.2.1,la,by simp⟩,by omega,p.2.2.1,?_⟩;rw [p.2.2.2.2.2,ha,<- Pi aD aD];rfl
 ·cases h
theorem qdc{u:Nat}(hu:1099511627776<=u){b:List Int}(hb:aK b)(hl:b.length<=1048576)(a:Int):∃ r,gY u b a 3=some r/\IC r (E3 b a):=by
 unfold gY E3;rw [show ((3:Int) == 1)=false by rfl,show ((3:Int) == 2)=false by rfl,show ((3:Int) == 3)=true by rfl];simp only [cond_false,cond_true,l0 hu hb hl,UC hu hb hl,wk];rcases co b a with ⟨v0,e0,h0⟩ | h0
 ·rw [h0];dsimp only;rcases co b e0 with ⟨v1,e1,h1⟩ | h1
  ·rw [h1];dsimp only
   cases h2:(tc b e1).2.2 with
   | false=>exact ⟨_,rfl,.inl rfl⟩
   | true=>exact ⟨_,rfl,rfl⟩
  ·rw [h1]; exact ⟨_,rfl,.inl rfl⟩
 ·rw [h0]; exact ⟨_,rfl,.inl rfl⟩
theorem qiu(a b:Int):ce [a,b] 0=some a:=(bu [a,b] 0).trans rfl
theorem qiv(a b:Int):ce [a,b] 1=some b:=(bu [a,b] 1).trans rfl
theorem qdd{u:Nat}(hu:1099511627776<=u){b:List Int}(hb:aK b)(hl:b.length<=1048576)(a:Int):∃ r,hH u b 3 a=some r/\GL b r (E3 b a):=by
 unfold hH E3;rw [show ((3:Int) == 1)=false by rfl,show ((3:Int) == 2)=false by rfl,show ((3:Int) == 3)=true by rfl];simp only [cond_false,cond_true,UB hu hb hl];have hrv:=Kj hu hb hl a 2 aD;rw [show ((2:Nat):Int)=2 from rfl] at hrv;rw [hrv];simp only [wk,BA];rcases co b a with ⟨v0,e0,h0⟩ | h0
 ·rw [h0];simp only [if_true];rcases co b e0 with ⟨v1,e1,h1⟩ | h1
  ·rw [h1,if_pos rfl,qd2 (by rfl)];have hq:[]++[v0]++[v1]=[v0,v1]:=rfl;rw [hq,qiu,qiv,XG,XG];dsimp only
   cases h2:(tc b e1).2.2 with
   | false=>exact ⟨_,rfl,.inl rfl⟩
   | true=>exact ⟨_,rfl,rfl⟩
  ·rw [h1]; exact ⟨_,rfl,IB jC rfl⟩
 ·rw [h0]; exact ⟨_,rfl,IB jC rfl⟩
theorem qi3{b:List Int}(hb:aK b){a:Int}(ha:b.take a.toNat=dm 9 3):M.puts b (E3 b a):=by
 intro m e h;unfold E3 at h;dsimp only at h
 split at h
 ·rename_i hc;simp only [sk] at hc;obtain ⟨⟨k0,k1⟩,k2⟩:=hc;simp only [Option.some.injEq,Prod.mk.injEq] at h;obtain ⟨rfl,rfl⟩:=h;have p0:=cU hb (ZM _ k0);have p1:=cU hb (ZM _ k1);have p2:=qbZ hb (ZM _ k2);generalize be b a=g0 at *;generalize be b g0.2.1=g1 at *;generalize tc b g1.2.1=g2 at *;refine ⟨L1 _ _ _ _ _ p2.2.2.2.1 aD,by omega,p2.2.2.1,?_⟩;show aX (aX (aX (aX [] 3) g0.1) g1.1) g2.1.length++g2.1=b.take g2.2.1.toNat;rw [Pi aD aD,gA p0.2.2.2.1 p0.2.2.2.2.1,gA p1.2.2.2.1 p1.2.2.2.2.1,gA aD aD,p2.2.2.2.2.2,p1.2.2.2.2.2,p0.2.2.2.2.2,ha]
 ·cases h
theorem qde{u:Nat}(hu:1099511627776<=u){b:List Int}(hb:aK b)(hl:b.length<=1048576)(a:Int):∃ r,gY u b a 4=some r/\IC r (E5 b a):=by
 unfold gY E5;rw [show ((4:Int) == 1)=false by rfl,show ((4:Int) == 2)=false by rfl,show ((4:Int) == 3)=false by rfl];simp only [cond_false,cond_true,l0 hu hb hl,wk];rcases co b a with ⟨v0,e0,h0⟩ | h0
 ·rw [h0]; exact ⟨_,rfl,rfl⟩
 ·rw [h0]; exact ⟨_,rfl,.inl rfl⟩
theorem qdf{u:Nat}(hu:1099511627776<=u){b:List Int}(hb:aK b)(hl:b.length<=1048576)(a:Int):∃ r,hH u b 4 a=some r/\GL b r (E5 b a):=by
 unfold hH E5;rw [show ((4:Int) == 1)=false by rfl,show ((4:Int) == 2)=false by rfl,show ((4:Int) == 3)=false by rfl,show ((4:Int) == 4)=true by rfl];simp only [cond_false,cond_true,AH hu hb hl,wk];rcases co b a with ⟨v0,e0,h0⟩ | h0
 ·rw [h0]; exact ⟨_,rfl,rfl⟩
 ·rw [h0]; exact ⟨_,rfl,.inl rfl⟩
theorem qi4{b:List Int}(hb:aK b){a:Int}(ha:b.take a.toNat=dm 9 4):M.puts b (E5 b a):=by
 intro m e h;unfold E5 at h
 split at h
 ·rename_i k0;simp only [Option.some.injEq,Prod.mk.injEq] at h;obtain ⟨rfl,rfl⟩:=h;have p0:=cU hb (ZM _ k0);generalize be b a=g0 at *;refine ⟨L1 _ _ _ _ _ la jC,by omega,p0.2.2.1,?_⟩;show aX (aX [] 4) g0.1=b.take g0.2.1.toNat;rw [Pi aD aD,gA p0.2.2.2.1 p0.2.2.2.2.1,p0.2.2.2.2.2,ha]
 ·cases h
def GM(b:List Int)(kind a:Int):Option (eC×Int):=if kind=1 then E4 b a else if kind=2 then CD b a else if kind=3 then E3 b a else if kind=4 then E5 b a else none
theorem XH{m:eC}(h1:m.bp≠1)(h2:m.bp≠2)(h3:m.bp≠3)(h4:m.bp≠4):nB m=false:=by
 unfold nB; rw [if_neg h1,if_neg h2,if_neg h3,if_neg h4]
theorem qeP{u:Nat}(hu:1099511627776<=u){b:List Int}(hb:aK b)(hl:b.length<=1048576)(k a:Int):∃ r,gY u b a k=some r/\IC r (GM b k a):=by
 unfold GM
 by_cases h1:k=1
 ·subst h1; exact qda hu hb hl a
 ·rw [if_neg h1]
  by_cases h2:k=2
  ·subst h2;obtain ⟨r,g1,g2⟩:=qc8 hu hb hl a;refine ⟨r,g1,?_⟩;rw [if_pos rfl];unfold IC
   cases hp:CD b a with
   | none=>rw [hp] at g2; exact .inl g2
   | some q=>rw [hp] at g2; exact g2
  ·rw [if_neg h2]
   by_cases h3:k=3
   ·subst h3; exact qdc hu hb hl a
   ·rw [if_neg h3]
    by_cases h4:k=4
    ·subst h4; exact qde hu hb hl a
    ·rw [if_neg h4];have e1:(k == 1)=false:=by simpa using h1
     have e2:(k == 2)=false:=by simpa using h2
     have e3:(k == 3)=false:=by simpa using h3
     unfold gY;rw [e1,e2,e3];simp only [cond_false,l0 hu hb hl,wk];rcases co b a with ⟨v0,e0,h0⟩ | h0
     ·rw [h0];exact ⟨(⟨k,v0,⟨0,0,0,[]⟩,0,0,0,[]⟩,e0,true),rfl,.inr ⟨by simp,XH h1 h2 h3 h4⟩⟩
     ·rw [h0]; exact ⟨_,rfl,.inl rfl⟩
theorem qeQ{u:Nat}(hu:1099511627776<=u){b:List Int}(hb:aK b)(hl:b.length<=1048576){k a:Int}(ha:b.take a.toNat=dm 9 k):∃ r,hH u b k a=some r/\GL b r (GM b k a):=by
 unfold GM
 by_cases h1:k=1
 ·subst h1; exact qdb hu hb hl a
 ·rw [if_neg h1]
  by_cases h2:k=2
  ·subst h2; exact qc9 hu hb hl ha
  ·rw [if_neg h2]
   by_cases h3:k=3
   ·subst h3; exact qdd hu hb hl a
   ·rw [if_neg h3]
    by_cases h4:k=4
    ·subst h4; exact qdf hu hb hl a
    ·rw [if_neg h4];have e1:(k == 1)=false:=by simpa using h1
     have e2:(k == 2)=false:=by simpa using h2
     have e3:(k == 3)=false:=by simpa using h3
     have e4:(k == 4)=false:=by simpa using h4
     unfold hH;rw [e1,e2,e3,e4];exact ⟨_,rfl,.inl rfl⟩
theorem RP{b:List Int}(hb:aK b){k a:Int}(ha:b.take a.toNat=dm 9 k):M.puts b (GM b k a):=by
 unfold GM
 by_cases h1:k=1
 ·subst h1; exact qi2 hb ha
 ·rw [if_neg h1]
  by_cases h2:k=2
  ·subst h2; exact λm e h=>qi1 hb ha h
  ·rw [if_neg h2]
   by_cases h3:k=3
   ·subst h3; exact qi3 hb ha
   ·rw [if_neg h3]
    by_cases h4:k=4
    ·subst h4; exact qi4 hb ha
    ·rw [if_neg h4]; intro m e h; cases h
def AK:eC×Bool:=(⟨0,0,⟨0,0,0,[]⟩,0,0,0,[]⟩,false)
def eu(b:List Int):eC×Bool:=if (be b 0).2.2 && decide (b.length<=400) then match GM b (be b 0).1 (be b 0).2.1 with
  | some (m,e)=>if nB m && decide (iY m=b) then (m,true) else AK
  | none=>AK
 else AK
theorem ID{m:eC}(h:M.MsgWf m):aK (iY m):=by
 unfold iY
 split
 ·exact ja (MY h).1 _
 ·exact la
theorem Kk{u:Nat}(hu:1099511627776<=u){b:List Int}(hb:aK b)(hl:b.length<=1048576):uh u b=some (eu b):=by
 unfold uh eu Aa ug;simp only [AH hu hb hl,wk];rcases co b 0 with ⟨k,a,h0⟩ | h0
 ·rw [h0];have p:=cU hb h0;have ha:b.take a.toNat=dm 9 k:=by rw [p.2.2.2.2.2]; rfl
  by_cases h4:b.length<=400
  ·have h4':¬ ((b.length:Int) > 400):=by omega
   simp only [h4,h4',decide_true,decide_false,zWj,if_true,r0,cond_false];obtain ⟨r,g1,g2⟩:=qeQ hu hb hl ha;rw [g1];simp only [wk]
   cases hr:GM b k a with
   | none =>
    rw [hr] at g2;rcases g2 with g2 | ⟨g2,g3⟩
    ·rw [g2]; rfl
    ·cases hf:r.2 with
     | false=>rfl
     | true =>
      rw [GJ hu g2.sums];simp only [r0,cond_false,wk]
      cases hm:nB r.1 with
      | false=>rfl
      | true =>
       simp only [r0,cond_false,E2 hu g2,AF,wk];rw [Ph (ID g2) hb,decide_eq_false (g3 hm)]; rfl
   | some q =>
    obtain ⟨m,e⟩:=q;rw [hr] at g2;have w:=RP hb ha m e hr;unfold GL at g2;dsimp only at g2;rw [g2];dsimp only;rw [GJ hu w.1.sums];simp only [r0,cond_false,wk]
    cases hm:nB m with
    | false=>rfl
    | true =>
     simp only [r0,cond_false,E2 hu w.1,AF,wk];rw [Ph (ID w.1) hb]
     by_cases hp:iY m=b
     ·simp [hp]
     ·simp [hp,AK]
  ·have h4':(b.length:Int) > 400:=by omega
   simp [h4,h4',AK]
 ·rw [h0]; simp [AK]
theorem qhS{b:List Int}(hb:aK b){m:eC}{e:Int}(h0:0<=e)(h1:e<=b.length)(hp:fm m=b.take e.toNat)(hm:nB m=true):iY m=b↔be b e=(cP (b.take e.toNat),(b.length:Int),true):=by
 have hw:=Iu (b.take e.toNat);unfold iY;rw [if_pos hm,hp,gA hw.1 aD];have hlen:(b.take e.toNat).length=e.toNat:=by rw [zQz]; omega
 constructor
 ·intro h;have g:=XC (p:=b.take e.toNat) (n:=cP (b.take e.toNat)) [] hw.1 aD;rw [zWY,h,hlen,show ((e.toNat:Nat):Int)=e by omega] at g;rw [g];refine Prod.ext rfl (Prod.ext ?_ rfl);have:=congrArg zYZ h;rw [zQh,hlen] at this;dsimp only; omega
 ·intro h;have p:=cU hb h;rw [<- p.2.2.2.2.2,rg,List.take_length]
theorem Kl{u:Nat}(hu:1099511627776<=u){b:List Int}(hb:aK b)(hl:b.length<=1048576):tW u b=some (eu b):=by
 unfold tW eu zy zx tU;simp only [l0 hu hb hl,wk];rcases co b 0 with ⟨k,a,h0⟩ | h0
 ·rw [h0];have p:=cU hb h0;have ha:b.take a.toNat=dm 9 k:=by rw [p.2.2.2.2.2]; rfl
  by_cases h4:b.length<=400
  ·have h4':¬ ((b.length:Int) > 400):=by omega
   simp only [h4,h4',decide_true,decide_false,zWj,if_true,r0,cond_false];obtain ⟨r,g1,g2⟩:=qeP hu hb hl k a;rw [g1];simp only [wk]
   cases hr:GM b k a with
   | none =>
    rw [hr] at g2;rcases g2 with g2 | ⟨g2,g3⟩
    ·rw [g2]; rfl
    ·cases hf:r.2.2 with
     | false=>rfl
     | true =>
      rw [GK hu g2,g3]; rfl
   | some q =>
    obtain ⟨m,e⟩:=q;rw [hr] at g2;have w:=RP hb ha m e hr;unfold IC at g2;dsimp only at g2;rw [g2];dsimp only;rw [GK hu w.1.sums];simp only [r0,cond_false,wk]
    cases hm:nB m with
    | false=>rfl
    | true =>
     have hs:=qhS hb w.2.1 w.2.2.1 w.2.2.2 hm;obtain ⟨e,rfl⟩:=zQQ w.2.1;simp only [r0,cond_false,rg] at hs ⊢;rw [show (0:Int)=((0:Nat):Int) by rfl,eJ aD (by have:=w.2.2.1; omega)];simp only [wk,rg,zZG];rw [AD hu (λx hx=>hb x (zXK hx)) (by rw [zQz]; omega)];simp only [wk];rcases co b e with ⟨v,e',h5⟩ | h5
     ·rw [h5] at hs ⊢;simp only [r0,cond_false]
      by_cases he:e'=(b.length:Int)
      ·by_cases hv:v=cP (b.take e)
       ·have:iY m=b:=hs.2 (by rw [he,hv]);simp [he,hv,this]
       ·have:¬ iY m=b:=λh=>hv (by have:=hs.1 h; simp only [Prod.mk.injEq] at this; exact this.1);have hv':(v != cP (b.take e))=true:=by simpa using hv
        simp [he,this,AK];rw [hv']; rfl
      ·have:¬ iY m=b:=λh=>he (by have:=hs.1 h; simp only [Prod.mk.injEq] at this; exact this.2.1);have he':(e' != (b.length:Int))=true:=by simpa using he
       simp [this,AK];rw [he']; rfl
     ·rw [h5] at hs ⊢;have:¬ iY m=b:=λh=>by have:=hs.1 h; simp at this
      simp [this,AK]
  ·have h4':(b.length:Int) > 400:=by omega
   simp [h4,h4',AK]
 ·rw [h0]; simp [AK]
theorem qb1{u:Nat}(hu:1099511627776<=u)(d0:ar):∀ (l:List bR) (i:Nat) (d:ar),(∀ p∈l,mx p=true)->M.DOk d->bn (nk u d0) (im u d0) l i (tup d)=some (E1 l d):=by
 intro l
 induction l with
 | nil=>intro i d _ _; rfl
 | cons p l ih =>
  intro i d hp hd;have h0:=hp p jC;simp only [bn,im,dp,Ch,wk,cond_true,E1];rw [show (ar.mk (tup d).1 (tup d).2.1 (ct.mk (tup d).2.2.1 (tup d).2.2.2.1 (tup d).2.2.2.2.1) (tup d).2.2.2.2.2)=d by rfl,Uz hu hd h0];exact ih (i+1) _ (λq hq=>hp q (by simp [hq])) (RM hd h0)
theorem Pj{u:Nat}(hu:1099511627776<=u){d:ar}(hd:M.DOk d):Bi u d=some (uJ d):=by
 have h3:=hd.p;unfold Bi gD uJ;rw [jn hu hd,uH hu hd];simp only [wk]
 cases h:cV d with
 | false=>rfl
 | true =>
  simp only [r0,cond_false,if_true];have e:=qb1 hu d d.fP 0 d (Ki h) hd;rw [<- vU u d (tup d) u aD aD] at e;rw [show ci u u d 0 d.fA d.fB d.fR.aN d.fR.b9 d.fR.aV d.fP=_ from e]; rfl
theorem UD(u:Nat){p:bR}(h:p.fB.length<=1048576):pU u p=some p:=by
 unfold pU ek;have h0:(0:Int)<=(p.fB.length:Int):=Int.natCast_nonneg _;simp only [h0,decide_true,beq_self_eq_true,Bool.true_or,zWj,VP,wk];rw [bg il,wk,bg il];simp
theorem Pk{u:Nat}(hu:1099511627776<=u){d:ar}{p:bR}(hd:M.DOk d)(hl:d.fP.length<=1048575)(hp:p.fB.length<=1048576) :
  pr u d p=some (if cV (j9 d p) then (j9 d p,true) else (d,false)):=by
 have hap:=hd.p;unfold pr;rw [jn hu hd];simp only [wk];rw [UD u hp];simp only [wk];rw [bg il];simp only [wk];have e:(ar.mk d.fA d.fB d.fR (d.fP++[p]))=j9 d p:=rfl;rw [e,uH hu (KX hd hl hp)];simp only [wk]
 cases h:cV (j9 d p) <;> simp
theorem UE(u:Nat){n:Nat}(h:n<=40):vk u n=some ((2 ^ n - 1:Nat):Int):=by
 unfold vk;have h1:aw (n:Int) 0 40=true:=by simp [aw]; omega
 rw [bK,h1];simp only [wk,r0,cond_false];have h2:(2:Nat) ^ n<=2 ^ 40:=zXJ aD h;have h3:0 < (2:Nat) ^ n:=Nat.pow_pos aD;rw [bg aD,RB aD];generalize (2:Nat) ^ n=p at *;rw [cS aD aD];simp only [wk]
 congr 1
 omega
theorem qb2:∀ (l:List bR) (d:ar),(E1 l d).fP=[]
 | [],d=>rfl
 | p :: l,d=>qb2 l _
def hU{α:Type}(f:α->Nat->Bool):List α->Nat->Bool
 | [],_=>true
 | x :: l,i=>f x i && hU f l (i+1)
theorem nh{α:Type}{fin:Unit->Option Bool}{body:α->Nat->Unit->(Unit->Option Bool)->Option Bool}(f:α->Nat->Bool){xs:List α}{b:Bool}(hf:fin ()=some b)(i0:Nat)(hb:∀ x i k,i0<=i->xs[i]?=some x->body x i () k=bif f x i then k () else some false) :
  ∀ (l:List α) (i:Nat),i0<=i->l=xs.drop i->bn fin body l i ()=some (hU f l i && b):=by
 intro l
 induction l with
 | nil=>intro i _ _; simp [bn,hU,hf]
 | cons x l ih =>
  intro i h0 h;have hx:xs[i]?=some x:=by
   have:=congrArg zYY h
   simpa [zXW] using this.symm
  have hl:l=xs.drop (i+1):=by
   have:=congrArg zYq h
   simpa [zXV] using this
  simp only [bn,hU];rw [hb x i _ h0 hx,ih (i+1) aD hl]
  cases f x i <;> simp
def Km(x:Int)(i:Nat):Bool:=if i=0 then x == -1 else aw x 0 ((i:Int) - 1)
def iZ(t:bV):Bool:=hU Km t.bP 0 && aw t.bP.length 1 7
theorem E6{u:Nat}(hu:1099511627776<=u){t:bV}(hl:t.bP.length<=1073741824):rA u t=some (iZ t):=by
 unfold rA iZ;rw [Qv u t () u aD aD];refine nh Km (by simp [He,zL,bK]) 0 (λx i k _ hx=>?_) _ 0 (zWX _) rfl;have hi:i < t.bP.length:=(aab.1 hx).1;unfold Hf fF Km
 by_cases h0:i=0
 ·subst h0
  by_cases h1:x=-1
  ·subst h1; simp
  ·have:(x == -1)=false:=by simpa using h1
   simp [this,bne]
 ·have e0:((i:Int) == 0)=false:=by simpa using h0
  have e1:decide ((i:Int) > 0)=true:=by simp; omega
  simp (disch:=omega) only [e0,e1,h0,cond_true,cond_false,cS,bK,wk,↓reduceIte]
  cases aw x 0 ((i:Int) - 1) <;> rfl
theorem E7{u:Nat}(hu:1099511627776<=u){t:bV}(hl:t.bP.length<=1073741824):tH u t=some (iZ t):=by
 unfold tH iZ zh;simp only [b5,wk]
 cases hw:aw t.bP.length 1 7 with
 | false=>simp
 | true =>
  have:=cd hw
  match hup:t.bP with
  | []=>rw [hup] at this; simp at this
  | x :: l =>
   have h1:ce (x :: l) 0=some x:=rfl;simp only [r0,cond_false,h1,wk,hU,Km,↓reduceIte,zXq]
   by_cases hx:x=-1
   ·subst hx;simp only [bne_self_eq_false,cond_false,beq_self_eq_true,zQg];have h:=qbK (fin:=GZ u t) (body:=λy i s k=>A2 u t y i s k) (xs:=t.bP) (λk s i=>lH u k i t) aD (λ_ _ _=>rfl) (t.bP.drop 1) u 1 () rfl il;have h2:lH u u 1 t=some (hU Km (t.bP.drop 1) 1 && true):=by
     rw [show ((1:Int))=((1:Nat):Int) from rfl,h];refine nh Km rfl 1 (λy i k h0 hy=>?_) _ 1 (zWX _) rfl;have hi:i < t.bP.length:=(aab.1 hy).1;have e0:i≠0:=by omega
     unfold A2 Km;simp (disch:=omega) only [e0,cS,b5,wk,↓reduceIte]
     cases aw y 0 ((i:Int) - 1) <;> rfl
    rw [h2,hup];simp
   ·have:(x == -1)=false:=by simpa using hx
    simp [this,bne]
def ka(up:List Int):Nat->Int->List Int
 | 0,_=>[]
 | n+1,k=>if aw k 0 ((up.length:Int) - 1) then k :: ka up n ((up[k.toNat]?).getD 0) else []
def E8(t:bV)(k:Int):List Int:=ka t.bP t.bP.length k
theorem IE(up:List Int):∀ (n:Nat) (k:Int),(ka up n k).length<=n
 | 0,_=>by simp [ka]
 | n+1,k=>by
  unfold ka
  split
  ·have:=IE up n ((up[k.toNat]?).getD 0);simp; omega
  ·simp
theorem uL{up:List Int}{k:Int}(h:aw k 0 ((up.length:Int) - 1)=true):ce up k=some ((up[k.toNat]?).getD 0):=by
 have:=cd h;have h1:k.toNat < up.length:=by omega
 simp [ce,this.1,h1]
theorem kc(u:Nat){t:bV}(hl:t.bP.length<=1048576)(k:Int):c7 u t k=some (aw k 0 ((t.bP.length:Int) - 1)):=by
 unfold c7;simp (disch:=omega) only [cS,bK,wk]
theorem XI{u:Nat}(hu:1099511627776<=u){t:bV}(hl:t.bP.length<=1048576)(k:Int):B5 u t k=some (E8 t k):=by
 have main:∀ (n f:Nat) (k:Int) (o:List Int),o.length+n=t.bP.length->n < f->jT u f k o t=some (o++ka t.bP n k):=by
  intro n
  induction n with
  | zero =>
   intro f k o h1 h2;obtain ⟨f,rfl⟩:∃ j,f=j+1:=⟨f - 1,by omega⟩;have e:decide ((o.length:Int) < (t.bP.length:Int))=false:=by simp; omega
   unfold jT tK zk;simp (disch:=omega) only [cS,b5,wk,e,cond_false,ka,zWY]
   cases aw k 0 ((t.bP.length:Int) - 1) <;> rfl
  | succ n ih =>
   intro f k o h1 h2;obtain ⟨f,rfl⟩:∃ j,f=j+1:=⟨f - 1,by omega⟩;have e:decide ((o.length:Int) < (t.bP.length:Int))=true:=by simp; omega
   unfold jT tK zk;simp (disch:=omega) only [cS,b5,wk,e,ka]
   cases hw:aw k 0 ((t.bP.length:Int) - 1) with
   | false=>simp
   | true =>
    have e2:de (decide ((o.length+([k]).length)*8<=140737488355328))=some ():=bg il;have e2':de (decide ((o.length+([(0:Int)]).length)*8<=140737488355328))=some ():=bg il;simp only [cond_true,uL hw,wk,e2,↓reduceIte];rw [ih f _ (o++[k]) il aD,zQH,zYX]
 unfold B5 E8;rw [main t.bP.length u k [] jC aD,zQy]
theorem XJ{u:Nat}(hu:1099511627776<=u){t:bV}(hl:t.bP.length<=1048576)(k:Int):Cf u t k=some (E8 t k):=by
 have main:∀ (n f:Nat) (k:Int) (o:List Int),o.length+n=t.bP.length->n < f->jZ u f k o t=some (o++ka t.bP n k):=by
  intro n
  induction n with
  | zero =>
   intro f k o h1 h2;obtain ⟨f,rfl⟩:∃ j,f=j+1:=⟨f - 1,by omega⟩;have e:decide ((o.length:Int) < (t.bP.length:Int))=false:=by simp; omega
   unfold jZ t8 zN;simp (disch:=omega) only [kc,wk,e,cond_false,ka,zWY]
   cases aw k 0 ((t.bP.length:Int) - 1) <;> rfl
  | succ n ih =>
   intro f k o h1 h2;obtain ⟨f,rfl⟩:∃ j,f=j+1:=⟨f - 1,by omega⟩;have e:decide ((o.length:Int) < (t.bP.length:Int))=true:=by simp; omega
   unfold jZ t8 zN;simp (disch:=omega) only [kc,wk,e,ka]
   cases hw:aw k 0 ((t.bP.length:Int) - 1) with
   | false=>simp
   | true =>
    have e2:de (decide ((o.length+([k]).length)*8<=140737488355328))=some ():=bg il;simp only [cond_true,uL hw,wk,e2,↓reduceIte];rw [ih f _ (o++[k]) il aD,zQH,zYX]
 unfold Cf E8;rw [main t.bP.length u k [] jC aD,zQy]
def Jk(t:bV)(a k:Int):Bool:=(a != k) && (E8 t k).any λy=>y == a
theorem HR{u:Nat}(hu:1099511627776<=u){t:bV}(hl:t.bP.length<=1048576)(a k:Int):qf u t a k=some (Jk t a k):=by
 have:=IE t.bP t.bP.length k;unfold qf Jk;rw [XI hu hl];simp only [wk];rw [Xu hu (by unfold E8; omega)]
 cases a != k <;> rfl
theorem HS{u:Nat}(hu:1099511627776<=u){t:bV}(hl:t.bP.length<=1048576)(a k:Int):qi u t a k=some (Jk t a k):=by
 have:=IE t.bP t.bP.length k;unfold qi Jk;rw [XJ hu hl];simp only [wk];rw [Dj hu (by unfold E8; omega)]
 cases a != k <;> rfl
def yr(t:bV)(k b:Int):Int:=if iZ t && aw k 1 ((t.bP.length:Int) - 1) then (if Jk t b k && decide (0 < b) then (t.bP[b.toNat]?).getD 0 else (t.bP[k.toNat]?).getD 0) else -1
theorem SM{up:List Int}:∀ {n:Nat} {k a:Int},a∈ka up n k->aw a 0 ((up.length:Int) - 1)=true
 | 0,_,_,h=>by simp [ka] at h
 | n+1,k,a,h=>by
  unfold ka at h
  split at h
  ·rename_i hk;rcases aah.1 h with rfl | h
   ·exact hk
   ·exact SM h
  ·simp at h
theorem XK{t:bV}{a k:Int}(h:Jk t a k=true):aw a 0 ((t.bP.length:Int) - 1)=true:=by
 unfold Jk at h;simp only [sk,List.any_eq_true,beq_iff_eq] at h;obtain ⟨_,y,hy,rfl⟩:=h;exact SM hy
theorem RQ{u:Nat}(hu:1099511627776<=u){t:bV}(hl:t.bP.length<=1048576)(k b:Int):wu u t k b=some (yr t k b):=by
 unfold wu u1 uZ yr;simp (disch:=omega) only [E7 hu (show t.bP.length<=1073741824 by omega),b5,cS,HR hu hl,wk]
 cases iZ t with
 | false=>rfl
 | true =>
  cases hw:aw k 1 ((t.bP.length:Int) - 1) with
  | false=>rfl
  | true =>
   have:=cd hw;have hk:aw k 0 ((t.bP.length:Int) - 1)=true:=by unfold aw; simp; omega
   by_cases hb:b<=0
   ·have h1:¬ (0 < b):=by omega
    simp [hb,h1,uL hk]
   ·have h1:0 < b:=by omega
    cases ha:Jk t b k with
    | false=>simp [hb,uL hk]
    | true=>simp [hb,h1,uL (XK ha)]
theorem RR{u:Nat}(hu:1099511627776<=u){t:bV}(hl:t.bP.length<=1048576)(k b:Int):wJ u t k b=some (yr t k b):=by
 unfold wJ qZ vq yr;simp (disch:=omega) only [E6 hu (show t.bP.length<=1073741824 by omega),kc,HS hu hl,wk]
 cases iZ t with
 | false=>rfl
 | true =>
  have e:(aw k 1 ((t.bP.length:Int) - 1))=(!(k == 0) && aw k 0 ((t.bP.length:Int) - 1)):=by
   unfold aw;rw [zXX];simp;omega
  rw [e]
  by_cases hk0:k=0
  ·subst hk0; rfl
  ·have hk1:(k == 0)=false:=by simpa using hk0
   rw [hk1]
   cases hk:aw k 0 ((t.bP.length:Int) - 1) with
   | false=>rfl
   | true =>
    by_cases hb:b=0
    ·subst hb; simp [uL hk]
    ·have hb1:(b == 0)=false:=by simpa using hb
     cases ha:Jk t b k with
     | false=>simp [hb1,uL hk]
     | true =>
      have:=cd (XK ha);have h1:0 < b:=by omega
      simp [hb1,h1,uL (XK ha)]
theorem BS{α:Type}(f:α->Bool):∀ (l:List α) (i:Nat),(eg f l i=-1/\∀ x∈l,f x=false)\/∃ (j:Nat) (x:α),eg f l i=((i+j:Nat):Int)/\l[j]?=some x/\f x=true
 | [],i=>.inl ⟨rfl,by simp⟩
 | y :: l,i=>by
  cases hy:f y with
  | true=>exact .inr ⟨0,y,by simp [eg,hy],rfl,hy⟩
  | false =>
   rcases BS f l (i+1) with ⟨h1,h2⟩ | ⟨j,x,h1,h2,h3⟩
   ·exact .inl ⟨by simp [eg,hy,h1],by simp [hy]; exact h2⟩
   ·exact .inr ⟨j+1,x,by simp [eg,hy,h1]; omega,by simpa using h2,h3⟩
def BT(l:List Kid)(id:Int):Int:=eg (λx=>x.gj == id) l 0
theorem GN{u:Nat}(hu:1099511627776<=u){l:List Kid}(hl:l.length<=1048577)(id:Int):xY u l id=some (BT l id):=by
 unfold xY;rw [S2 u l id () u aD aD];exact nK (λ(x:Kid)=>x.gj == id) rfl (λx i k _=>rfl)
theorem GO{u:Nat}(hu:1099511627776<=u){l:List Kid}(hl:l.length<=1048577)(id:Int):yg u l id=some (BT l id):=by
 unfold yg c9;rw [mf u l id () u aD aD,nK (λ(x:Kid)=>x.gj == id) rfl (λx i k _=>rfl)];rfl
def CE(l:List Kid)(x:Kid)(i:Nat):Bool :=
 aw x.gj 0 6 && bD x.bJ && bD x.bG && bD x.ef && !decide (x.mg < 0) && (if i=0 then true else match l[i - 1]? with | some y=>!decide (x.gj<=y.gj) | none=>true)
def sG(l:List Kid):Bool:=hU (CE l) l 0
theorem qb3{α:Type}{l:List α}{i:Nat}(h:i < l.length)(h0:i≠0)(hl:l.length<=1048577):∃ y,l[i - 1]?=some y/\ce l (cJ .i64 (i:Int) 1)=some y:=by
 have h1:i - 1 < l.length:=by omega
 refine ⟨l[i - 1],by simp [h1],?_⟩;rw [cS aD aD,show (i:Int) - 1=((i - 1:Nat):Int) by omega,bu];simp [h1]
theorem XL{u:Nat}(hu:1099511627776<=u){l:List Kid}(hl:l.length<=1048576):rx u l=some (sG l):=by
 unfold rx sG;rw [Qj u l () u aD aD,nh (CE l) (xs:=l) (b:=true) rfl 0 (λx i k _ hx=>?_) l 0 (zWX _) rfl,zXq];have hi:i < l.length:=(aab.1 hx).1;unfold G2 cD CE;simp only [b5,iX,bu,hx,wk]
 by_cases h0:i=0
 ·subst h0;have e:decide (((0:Nat):Int) > 0)=false:=by simp
  simp only [e,cond_false,↓reduceIte,zXq]
  cases aw x.gj 0 6 <;> cases bD x.bJ <;> cases bD x.bG <;> cases bD x.ef <;> cases decide (x.mg < 0) <;> rfl
 ·have e:decide ((i:Int) > 0)=true:=by simp; omega
  obtain ⟨y,h1,h2⟩:=qb3 hi h0 aD;simp only [e,cond_true,h0,h1,h2,↓reduceIte,wk]
  cases aw x.gj 0 6 <;> cases bD x.bJ <;> cases bD x.bG <;> cases bD x.ef <;> cases decide (x.mg < 0) <;> cases decide (x.gj<=y.gj) <;> rfl
theorem XM{u:Nat}(hu:1099511627776<=u){l:List Kid}(hl:l.length<=1048576):Cg u l=some (sG l):=by
 unfold Cg sG;rw [QA u l () u aD aD,nh (CE l) (xs:=l) (b:=true) rfl 0 (λx i k _ hx=>?_) l 0 (zWX _) rfl,zXq];have hi:i < l.length:=(aab.1 hx).1;unfold Hj dJ Bg CE;simp only [bK,jP,wk]
 by_cases h0:i=0
 ·subst h0;have e:decide (((0:Nat):Int) > 0)=false:=by simp
  simp only [e,cond_false,↓reduceIte,zXq]
  cases aw x.gj 0 6 <;> cases bD x.bJ <;> cases bD x.bG <;> cases bD x.ef <;> cases decide (x.mg < 0) <;> rfl
 ·have e:decide ((i:Int) > 0)=true:=by simp; omega
  obtain ⟨y,h1,h2⟩:=qb3 hi h0 aD;simp only [e,cond_true,h0,h1,h2,↓reduceIte,wk]
  cases aw x.gj 0 6 <;> cases bD x.bJ <;> cases bD x.bG <;> cases bD x.ef <;> cases decide (x.mg < 0) <;> cases decide (x.gj<=y.gj) <;> rfl
theorem IF{α β ρ:Type}{fin:List β->Option ρ}{body:α->Nat->List β->(List β->Option ρ)->Option ρ}(f:α->Bool)(g:α->β){xs:List α}(hb:∀ x i s k,xs[i]?=some x->i < xs.length->s.length<=i->body x i s k=bif f x then k (s++[g x]) else k s) :
  ∀ (l:List α) (i:Nat) (s:List β),l=xs.drop i->s.length<=i->bn fin body l i s=fin (s++(l.filter f).map g):=by
 intro l
 induction l with
 | nil=>intro i s _ _; simp [bn]
 | cons x l ih =>
  intro i s h hs;have hx:xs[i]?=some x:=by
   have:=congrArg zYY h
   simpa [zXW] using this.symm
  have hl:l=xs.drop (i+1):=by
   have:=congrArg zYq h
   simpa [zXV] using this
  have hi:i < xs.length:=(aab.1 hx).1;simp only [bn];rw [hb x i s _ hx hi hs]
  cases hf:f x with
  | true=>rw [cond_true,ih (i+1) _ hl il]; simp [hf]
  | false=>rw [cond_false,ih (i+1) _ hl aD]; simp [hf]
def qdg(x:Kid):Kid:=⟨x.gj,x.bJ,x.bG,aS .i64 x.mg 1,0⟩
def jo(l:List Kid)(forget:Int):List Kid:=(l.filter λx=>decide (x.mg < forget)).map qdg
theorem XN{u:Nat}(hu:1099511627776<=u){l:List Kid}(hl:l.length<=1048576)(n:Int):B7 u l n=some (jo l n):=by
 unfold B7;rw [Qq u l n [] u aD aD,IF (λx=>decide (x.mg < n)) qdg (λx i s k _ hi hs=>?_) l 0 [] rfl jC]
 ·rfl
 ·unfold G6 qK;have e:de (decide ((s.length+([(Kid.mk x.gj x.bJ x.bG (aS .i64 x.mg 1) 0)]).length)*40<=140737488355328))=some ():=bg il
  by_cases h:x.mg < n
  ·have h2:¬ (x.mg>=n):=by omega
   simp only [h,h2,decide_true,decide_false,cond_true,cond_false,e,wk]; rfl
  ·have h2:x.mg>=n:=by omega
   simp only [h,h2,decide_true,decide_false,cond_true,cond_false]
theorem XO{u:Nat}(hu:1099511627776<=u){l:List Kid}(hl:l.length<=1048576)(n:Int):Ci u l n=some (jo l n):=by
 unfold Ci;rw [QC u n l [] u aD aD,IF (λx=>decide (x.mg < n)) qdg (λx i s k _ hi hs=>?_) l 0 [] rfl jC]
 ·rfl
 ·unfold Hm qY;have e:de (decide ((s.length+([(Kid.mk x.gj x.bJ x.bG (aS .i64 x.mg 1) 0)]).length)*40<=140737488355328))=some ():=bg il
  by_cases h:x.mg < n
  ·simp only [h,decide_true,cond_true,e,wk]; rfl
  ·simp only [h,decide_false,cond_false]
theorem qd(l:List Kid)(id:Int):(BT l id=-1/\∀ x∈l,x.gj≠id)\/∃ (j:Nat) (x:Kid),BT l id=(j:Int)/\l[j]?=some x/\x.gj=id:=by
 rcases BS (λ(x:Kid)=>x.gj == id) l 0 with ⟨h1,h2⟩ | ⟨j,x,h1,h2,h3⟩
 ·exact .inl ⟨h1,λx hx=>by simpa using h2 x hx⟩
 ·exact .inr ⟨j,x,by unfold BT; rw [h1]; simp,h2,by simpa using h3⟩
def kR(l:List Kid)(id have_:Int):Int:=match ce l (BT l id) with
 | some x=>if bD have_ && bD x.bJ && bD x.ef then DV .i64 (gU .i64 x.bJ have_) x.ef else 0
 | none=>0
theorem Kn{u:Nat}(hu:1099511627776<=u){l:List Kid}(hl:l.length<=1048577)(id s:Int):yH u l id s=some (kR l id s):=by
 unfold yH qQ kR;simp only [GN hu hl,iX,wk];rcases qd l id with ⟨h1,_⟩ | ⟨j,x,h1,h2,_⟩
 ·rw [h1]; rfl
 ·have e:decide ((j:Int) < 0)=false:=by simp
  simp only [h1,e,cond_false,bu,h2,wk]
  cases bD s <;> cases bD x.bJ <;> cases bD x.ef <;> rfl
theorem Ko{u:Nat}(hu:1099511627776<=u){l:List Kid}(hl:l.length<=1048577)(id s:Int):uj u l id s=some (kR l id s):=by
 unfold uj rc kR;simp only [GO hu hl,jP,wk];rcases qd l id with ⟨h1,_⟩ | ⟨j,x,h1,h2,_⟩
 ·rw [h1]; rfl
 ·have e:decide ((j:Int) < 0)=false:=by simp
  simp only [h1,e,cond_false,bu,h2,wk]
  cases bD s <;> cases bD x.bJ <;> cases bD x.ef <;> rfl
def oN(l:List Kid)(id s:Int):List Kid:=match ce l (BT l id) with
 | some x=>if bD s && bD x.ef then l.set (BT l id).toNat ⟨x.gj,x.bJ,x.bG,x.mg,sC .i64 x.ef s⟩ else l
 | none=>l
theorem Pl{l:List Kid}(hl:l.length<=1048577):de (decide (((([]:List Kid)).length+l.length)*40<=140737488355328))=some ():=bg il
theorem AL(u:Nat){l:List Kid}(hl:l.length<=1048577):c8 u l=some l:=by
 unfold c8;rw [Pl hl]; rfl
theorem HT{u:Nat}(hu:1099511627776<=u){l:List Kid}(hl:l.length<=1048577)(id s:Int):sR u l id s=some (oN l id s):=by
 unfold sR qR oN;simp only [Pl hl,GN hu hl,iX,wk,zQy];rcases qd l id with ⟨h1,_⟩ | ⟨j,x,h1,h2,_⟩
 ·rw [h1]; rfl
 ·have e:decide ((j:Int) < 0)=false:=by simp
  simp only [h1,e,cond_false,bu,h2,wk]
  cases bD s <;> cases bD x.ef <;> rfl
theorem HU{u:Nat}(hu:1099511627776<=u){l:List Kid}(hl:l.length<=1048577)(id s:Int):qk u l id s=some (oN l id s):=by
 unfold qk re vz oN;simp only [AL u hl,GO hu hl,jP,wk];rcases qd l id with ⟨h1,_⟩ | ⟨j,x,h1,h2,_⟩
 ·rw [h1]; rfl
 ·have e:decide ((j:Int)>=0)=true:=by simp
  simp only [h1,e,cond_true,bu,h2,wk]
  cases bD s <;> cases bD x.ef <;> rfl
theorem Pm(l:List Kid)(id s:Int):(oN l id s).length=l.length:=by
 unfold oN
 split
 ·split <;> simp
 ·rfl
def AM(l:List Kid)(id:Int):Nat:=if eg (λ(x:Kid)=>decide (x.gj > id)) l 0 < 0 then l.length else (eg (λ(x:Kid)=>decide (x.gj > id)) l 0).toNat
def qu(l:List Kid)(id want done:Int):List Kid :=
 if aw id 0 6 && bD want && bD done then match ce l (BT l id) with
  | some x=>l.set (BT l id).toNat ⟨x.gj,want,sC .i64 x.bG done,0,x.ef⟩
  | none=>l.take (AM l id)++[⟨id,want,done,0,0⟩]++l.drop (AM l id)
 else l
theorem RS(l:List Kid)(id:Int):AM l id<=l.length:=by
 unfold AM;rcases BS (λ(x:Kid)=>decide (x.gj > id)) l 0 with ⟨h1,_⟩ | ⟨j,x,h1,h2,_⟩
 ·rw [h1]; simp
 ·have:=(aab.1 h2).1;rw [h1]; split <;> omega
theorem UF{u:Nat}{l:List Kid}(hl:l.length<=1048576)(id w d:Int):∀ (ys:List Kid) (f i:Nat),ys=l.drop i->i<=l.length->ys.length < f ->
  nv u f id w d l (i:Int)=DO u id w d l (if eg (λ(x:Kid)=>decide (x.gj > id)) ys i < 0 then (l.length:Int) else eg (λ(x:Kid)=>decide (x.gj > id)) ys i):=by
 intro ys
 induction ys with
 | nil =>
  intro f i h hi hf;obtain ⟨f,rfl⟩:∃ j,f=j+1:=⟨f - 1,by omega⟩;have h1:i=l.length:=by
   have:=congrArg zYZ h;simp at this;omega
  subst h1;unfold nv zB;simp only [zQy,Int.lt_irrefl,decide_false,cond_false,eg];rfl
 | cons y ys ih =>
  intro f i h hi hf;obtain ⟨f,rfl⟩:∃ j,f=j+1:=⟨f - 1,by omega⟩;have hx:l[i]?=some y:=by
   have:=congrArg zYY h
   simpa [zXW] using this.symm
  have hy:ys=l.drop (i+1):=by
   have:=congrArg zYq h
   simpa [zXV] using this
  have hlt:i < l.length:=(aab.1 hx).1;have e:decide ((i:Int) < (l.length:Int))=true:=by simp; omega
  unfold nv zB;simp only [zQy,e,cond_true,bu,hx,wk,eg]
  by_cases hc:y.gj<=id
  ·have hc2:¬ (y.gj > id):=by omega
   simp only [hc,hc2,decide_true,decide_false,cond_true,zQw,↓reduceIte];rw [jj aD];simp only [zQq] at hf;exact ih f (i+1) hy aD aD
  ·have hc2:y.gj > id:=by omega
   have:¬ ((i:Int) < 0):=by omega
   simp only [hc,hc2,decide_true,decide_false,cond_false,this,↓reduceIte]
theorem qaE{u:Nat}(hu:1099511627776<=u){l:List Kid}(hl:l.length<=1048576)(id w d:Int):Hb u l id w d=some (qu l id w d):=by
 unfold Hb zC qu;simp only [Pl (show l.length<=1048577 by omega),b5,iX,GN hu (show l.length<=1048577 by omega),wk,zQy]
 cases h1:aw id 0 6 with
 | false=>rfl
 | true=>cases h2:bD w with
  | false=>rfl
  | true=>cases h3:bD d with
   | false=>rfl
   | true =>
    simp only [r0,cond_false,zWj,↓reduceIte];rcases qd l id with ⟨h4,_⟩ | ⟨j,x,h4,h5,_⟩
    ·have e:ce l (-1)=none:=by simp [ce]
     rw [h4,e,show decide ((-1:Int) < 0)=true from rfl,cond_true,show ((0:Int))=((0:Nat):Int) from rfl,UF hl id w d l u 0 rfl aD aD];have hp:=RS l id;have e2:(if eg (λ(x:Kid)=>decide (x.gj > id)) l 0 < 0 then (l.length:Int) else eg (λ(x:Kid)=>decide (x.gj > id)) l 0)=((AM l id:Nat):Int):=by
      unfold AM; split <;> omega
     rw [e2];generalize AM l id=q at hp;unfold DO;simp only [zQy];have c1:=eJ (a:=0) (b:=q) (n:=l.length) aD hp;have c2:=eJ (a:=q) (b:=l.length) (n:=l.length) hp aD;rw [show ((0:Nat):Int)=0 from rfl] at c1;rw [c1,c2];simp only [wk];rw [bg il,bg il,bg il];simp
    ·have e:decide ((j:Int) < 0)=false:=by simp
     simp only [h4,e,cond_false,bu,h5,wk]
end Go.Tm.Pu
