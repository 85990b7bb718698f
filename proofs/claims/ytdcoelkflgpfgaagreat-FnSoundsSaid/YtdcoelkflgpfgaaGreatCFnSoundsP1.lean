/- Plain laws of the functions. -/
import Derived.Test.YtdcoelkflgpfgaaGreatCFnSoundsD
set_option linter.unusedVariables false
set_option linter.unusedSimpArgs false
open Bool renaming and_eq_true->sk,and_self->zXz,eq_iff_iff->zYv,false_eq_true->zWW,not_true->zQJ,true_and->zWk
open Int renaming add_mul->zZz,ediv_ediv_of_nonneg->zVW,emod_lt_of_pos->zVQ,emod_nonneg->zZg,eq_ofNat_of_zero_le->zQG,le_refl->zVK,mul_comm->zVX,pow_succ->zYX,tmod_eq_emod_of_nonneg->zXx,toNat->sY,toNat_natCast->rg
open List renaming append_assoc->zQZ,append_nil->zWY,drop_eq_getElem_cons->zXv,drop_of_length_le->zXk,filter_cons->zZj,foldl_cons->zXh,getElem?_cons_zero->zWQ,getElem?_drop->zQq,getElem?_eq_getElem->sX,getElem?_map->zQY,getElem?_range->zYk,getElem_mem->zYV,head?->zYz,head?_drop->zXw,length->zYH,length_append->zQK,length_cons->zQH,length_drop->zYK,length_filter_le->zZW,length_map->zYZ,length_nil->zXK,length_set->zXG,length_singleton->zYG,length_take->zQz,map_cons->zWv,mem_append->zWH,mem_map->zYJ,mem_of_mem_drop->zWq,mem_of_mem_take->zQg,mem_or_eq_of_mem_set->zWg,mem_singleton->zQV,nil_append->zQy,range->zXQ,range'->zWh,range'_succ->zYw,range_eq_range'->zXJ,replicate->zQh,tail->zZX,tail_drop->zXg,take_of_length_le->zXj
open Nat renaming add_zero->zYQ,and_two_pow_sub_one_eq_mod->zZH,le_refl->zWj,le_trans->zWx,lt_of_lt_of_le->zQj,min_eq_left->zXq,mul_le_mul_right->zWV,pow_le_pow_right->zWz,zero_add->zWZ
open Option renaming bind_some->wk
namespace Go.Tm.Pu
open Go.Tm
def au(n a b:Int):Bool:=decide (a<=n) && decide (n<=b)
def dj(size n:Int):Bool:=au size 2 6 && au n 0 (40*size)
def bG(size n:Int):Int:=if dj size n then (n+size - 1) / size else 0
def cj(size n i:Int):Int×Int:=if au i 0 (bG size n - 1) then (i*size,min size (n - i*size)) else (0,0)
theorem ce{n a b:Int}(h:au n a b=true):a<=n/\n<=b:=by simpa [au] using h
theorem Ji{n a b:Int}(h:au n a b=false):n < a\/b < n:=by
 simp [au] at h; omega
theorem mG(u:Nat)(n a b:Int):jg u n a b=some (au n a b):=by
 unfold jg au
 by_cases h:a<=n <;> simp [h]
theorem bH(u:Nat)(n a b:Int):bJ u n a b=some (au n a b):=by
 unfold bJ au
 by_cases h:a<=n <;> simp [h]
theorem oM(u:Nat)(s n:Int):lv u s n=some (dj s n):=by
 unfold lv dj;simp only [bH,wk]
 cases h:au s 2 6 with
 | false=>simp
 | true =>
  have:=ce h;simp (disch:=omega) only [cond_true,zWk,oJ];rw [zVX]
theorem qj{s n:Int}(h:dj s n=true):2<=s/\s<=6/\0<=n/\n<=40*s:=by
 simp [dj,au] at h; omega
def Bf(a b:Int):Int:=if au a 0 1000000000000 && au b 1 1000000000000 then (a+b - 1) / b else 0
theorem Hj(u:Nat)(a b:Int):ro u a b=some (Bf a b):=by
 unfold ro Bf qn;simp only [bH,wk]
 cases h:au a 0 1000000000000 with
 | false=>simp
 | true =>
  cases h2:au b 1 1000000000000 with
  | false=>simp
  | true =>
   have:=ce h;have:=ce h2;have hb:(b == 0)=false:=by simp; omega
   simp (disch:=omega) [ed,dE,dP,NE,hb]
theorem NU{s n:Int}(h:dj s n=true):Bf n s=(n+s - 1) / s:=by
 have:=qj h;have h1:au n 0 1000000000000=true:=by simp [au]; omega
 have h2:au s 1 1000000000000=true:=by simp [au]; omega
 simp [Bf,h1,h2]
theorem gz(u:Nat)(s n:Int):lx u s n=some (bG s n):=by
 unfold lx bG;simp only [oM,Hj,wk]
 cases h:dj s n with
 | false=>simp
 | true=>simp [NU h]
theorem dB(s n:Int):0<=bG s n/\bG s n<=40:=by
 unfold bG
 split
 ·rename_i h;have h:=qj h;refine ⟨Int.ediv_nonneg (by omega) (by omega),?_⟩;have:(n+s - 1) / s < 41:=Int.ediv_lt_of_lt_mul (by omega) (by omega);omega
 ·omega
theorem Bg{s n i:Int}(h:au i 0 (bG s n - 1)=true):dj s n=true/\0<=i/\i<=39:=by
 have h1:=ce h;have:=dB s n;refine ⟨?_,by omega,by omega⟩
 cases h2:dj s n with
 | true=>rfl
 | false=>simp [bG,h2] at h1; omega
theorem FE{s i:Int}(h1:2<=s)(h2:s<=6)(h3:0<=i)(h4:i<=39):0<=i*s/\i*s<=234 :=
 ⟨Int.mul_nonneg h3 (by omega),Int.le_trans (Int.mul_le_mul h4 h2 (by omega) (by omega)) (by omega)⟩
theorem BL(u:Nat)(a b:Int):sM u a b=some (min a b):=by
 unfold sM
 by_cases h:b < a <;> simp [h] <;> omega
theorem jm(u:Nat)(s n i:Int):fm u s n i=some (cj s n i):=by
 unfold fm cj;have hb:=dB s n;simp (disch:=omega) only [gz,bH,wk,dP]
 cases h:au i 0 (bG s n - 1) with
 | false=>simp
 | true =>
  have ⟨h1,h2,h3⟩:=Bg h;have h1:=qj h1;have h4:=FE (s:=s) (i:=i) (by omega) (by omega) h2 h3;simp (disch:=omega) [oJ,dP,BL]
def ay(b:List Int):Prop:=∀ x∈b,0<=x/\x<=255
def sv:List Int->Int->Int->Int×Int
 | [],x,y=>(x,y)
 | c :: b,x,y=>sv b ((x+c) % 251) ((y+(x+c) % 251) % 251)
def cG(b:List Int):Int:=(sv b 0 0).1+251*(sv b 0 0).2
theorem Gj(b:List Int):∀ (x y:Int),0<=x->x < 251->0<=y->y < 251->0<=(sv b x y).1/\(sv b x y).1 < 251/\0<=(sv b x y).2/\(sv b x y).2 < 251:=by
 induction b with
 | nil=>intro x y h1 h2 h3 h4; exact ⟨h1,h2,h3,h4⟩
 | cons c b ih =>
  intro x y h1 h2 h3 h4;exact ih _ _ (by omega) (by omega) (by omega) (by omega)
theorem DW(b:List Int):0<=cG b/\cG b<=63000:=by
 have:=Gj b 0 0 (by omega) (by omega) (by omega) (by omega);unfold cG; omega
theorem KC(u:Nat):∀ (p b:List Int) (i:Nat) (x y:Int),ay b->0<=x->x < 251->0<=y->y < 251 ->
  cy (xk u p) (sN u p) b i (x,y)=oe u (sv b x y).1 (sv b x y).2:=by
 intro p b
 induction b with
 | nil=>intros; rfl
 | cons c b ih =>
  intro i x y hb h1 h2 h3 h4;have hc:=hb c (by simp);have e1:tY .i64 (be .i64 x (IntKind.wrap .i64 c)) 251=(x+c) % 251:=by
   rw [gR (by omega) (by omega),dE (by omega) (by omega),Am (by omega)]
  have e2:tY .i64 (be .i64 y ((x+c) % 251)) 251=(y+(x+c) % 251) % 251:=by
   rw [dE (by omega) (by omega),Am (by omega)]
  simp only [cy,sN,e1,e2];exact ih (i+1) _ _ (λz hz=>hb z (by simp [hz])) (by omega) (by omega) (by omega) (by omega)
theorem sA{u:Nat}(hu:1099511627776<=u){b:List Int}(hb:ay b)(hl:b.length<=1073741824):mO u b=some (cG b):=by
 unfold mO;rw [EI u b (0,0) u (by omega) (by omega),KC u b b 0 0 0 hb (by omega) (by omega) (by omega) (by omega)];have:=Gj b 0 0 (by omega) (by omega) (by omega) (by omega);unfold oe cG;simp (disch:=omega) only [oJ,dE]
theorem Q6{n m:Int}(hm:0 < m):(n.tmod m+m).tmod m=n % m:=by
 rcases Int.le_total 0 n with h | h
 ·rw [zXx h,zXx (by have:=zZg n (show m≠0 by omega); omega)];simp
 ·have h1:n.tmod m=-((-n) % m):=by
   rw [show n=-(-n) by omega,Int.neg_tmod,zXx (by omega)]; simp
  have h2:=zZg (-n) (show m≠0 by omega);have h3:=zVQ (-n) hm;rw [h1,zXx (by omega)];have:(-((-n) % m)+m) % m=n % m:=by
   have e:-n=m*(-n / m)+(-n) % m:=(Int.mul_ediv_add_emod (-n) m).symm;have e2:-((-n) % m)+m=n+m*(-n / m+1):=by
    rw [Int.mul_add]; omega
   rw [e2,Int.add_mul_emod_self_left]
  exact this
theorem Pl{n m:Int}(hm:0 < m):-m < n.tmod m/\n.tmod m < m:=by
 rcases Int.le_total 0 n with h | h
 ·rw [zXx h];have h2:=zZg n (show m≠0 by omega);have h3:=zVQ n hm;omega
 ·have h1:n.tmod m=-((-n) % m):=by
   rw [show n=-(-n) by omega,Int.neg_tmod,zXx (by omega)]; simp
  have h2:=zZg (-n) (show m≠0 by omega);have h3:=zVQ (-n) hm;omega
def lJ:Nat->Int->List Int
 | 0,_=>[]
 | n+1,s=>lJ n (s / 256)++[s % 256]
def nu:Nat->Int->Option (List Int)
 | 0,s=>if s=1 then some [] else none
 | n+1,s=>if s=1 then some [] else if s < 256 then none else (nu n (s / 256)).map (·++[s % 256])
def cg(s:Int):List Int×Bool:=if s < 1 then ([],false) else match nu 6 s with | some b=>(b,true) | none=>([],false)
def BM:Nat->Int->Nat
 | 0,_=>0
 | k+1,t=>if 1 < t then BM k (t / 256)+1 else 0
def qJ:Nat->Int->Int
 | 0,t=>t
 | k+1,t=>if 1 < t then qJ k (t / 256) else t
theorem UM:∀ (k:Nat) (t:Int),BM k t<=k:=by
 intro k
 induction k with
 | zero=>intro t; simp [BM]
 | succ k ih=>intro t; unfold BM; have:=ih (t / 256); split <;> omega
theorem NV:∀ (k:Nat) (t:Int),qJ k t=t / 256 ^ BM k t:=by
 intro k
 induction k with
 | zero=>intro t; simp [qJ,BM]
 | succ k ih =>
  intro t;unfold qJ BM
  split
  ·rw [ih,zVW (by omega),zYX,zVX]
  ·simp
theorem LB:∀ (k:Nat) (t:Int),0<=t->nu k t=if qJ k t=1 then some (lJ (BM k t) t) else none:=by
 intro k
 induction k with
 | zero=>intro t h; simp [nu,qJ,BM,lJ]
 | succ k ih =>
  intro t h;unfold nu qJ BM
  by_cases h1:t=1
  ·subst h1; simp [lJ]
  ·rw [if_neg h1]
   by_cases h2:1 < t
   ·simp only [if_pos h2]
    by_cases h3:t < 256
    ·have:t / 256=0:=Int.ediv_eq_zero_of_lt h h3;rw [if_pos h3,this];have:qJ k 0=0:=by rw [NV]; simp
     rw [this]; simp
    ·rw [if_neg h3,ih _ (by omega)]
     split <;> simp [lJ]
   ·have:t=0:=by omega
    subst this; simp
theorem Sp:∀ (k:Nat) (t:Int),0<=t->t / 256 ^ k<=qJ k t:=by
 intro k
 induction k with
 | zero=>intro t h; simp [qJ]
 | succ k ih =>
  intro t h;unfold qJ
  split
  ·have:=ih (t / 256) (by omega);rwa [zVW (by omega),zVX,<- zYX] at this
  ·exact Int.ediv_le_self _ h
theorem Mk:∀ (n:Nat) (s:Int),ay (lJ n s):=by
 intro n
 induction n with
 | zero=>intro s x hx; simp [lJ] at hx
 | succ n ih =>
  intro s x hx;simp only [lJ,zWH,zQV] at hx;rcases hx with h | h
  ·exact ih _ x h
  ·omega
theorem KD:∀ (n:Nat) (s:Int),(lJ n s).length=n:=by
 intro n
 induction n with
 | zero=>intro s; rfl
 | succ n ih=>intro s; simp [lJ,ih]
theorem uT{s:Int}{b:List Int}(h:cg s=(b,true)):1<=s/\s / 256 ^ b.length=1/\b=lJ b.length s/\b.length<=6:=by
 unfold cg at h
 split at h
 ·cases h
 ·rename_i h1;rw [LB 6 s (by omega)] at h;have he:=NV 6 s;have hn:=UM 6 s
  by_cases h2:qJ 6 s=1
  ·simp only [h2,if_true,Prod.mk.injEq,and_true] at h;subst h;rw [KD];exact ⟨by omega,by rw [<- he]; exact h2,rfl,hn⟩
  ·simp [h2] at h
theorem w7(s:Int):ay (cg s).1/\(cg s).1.length<=6:=by
 match h:cg s with
 | (b,true) =>
  have h:=uT h;exact ⟨by rw [h.2.2.1]; exact Mk _ _,h.2.2.2⟩
 | (b,false) =>
  have:b=[]:=by
   unfold cg at h
   split at h
   ·simp at h; exact h.symm ▸ rfl
   ·split at h <;> simp at h; exact h.symm ▸ rfl
  subst this;exact ⟨by simp [ay],by simp⟩
theorem TM(a:Int)(h:0<=a):IntKind.wrap .u8 (fG .i64 a 255)=a % 256:=by
 have:fG .i64 a 255=a % 256:=by
  unfold fG;have e:(BitVec.ofInt (IntKind.bits .i64) a &&& BitVec.ofInt (IntKind.bits .i64) 255).toNat=(a % 256).toNat:=by
   change (BitVec.ofInt 64 a &&& BitVec.ofInt 64 255).toNat=(a % 256).toNat
   rw [BitVec.toNat_and,BitVec.toNat_ofInt,BitVec.toNat_ofInt,show ((255:Int) % ((2 ^ 64:Nat):Int)).toNat=2 ^ 8 - 1 by decide,zZH];omega
  rw [e];exact (gR (by omega) (by omega)).trans (by omega)
 rw [this,yK]; omega
theorem Cr(u:Nat):∀ (k n:Nat) (s:Int) (acc:List Int),n < k->1<=s->s < 256 ^ n*2->acc.length+n<=1000 ->
  k6 u k s acc=some (match nu n s with | some b=>(b++acc,true) | none=>([],false)):=by
 intro k
 induction k with
 | zero=>intro n s acc h; omega
 | succ k ih =>
  intro n s acc hk h1 h2 h3;unfold k6
  by_cases h4:s=1
  ·subst h4
   cases n <;> simp [nu,ud]
  ·have h5:s > 1:=by omega
   cases n with
   | zero=>simp at h2; omega
   | succ n =>
    simp only [h5,decide_true,cond_true,nu,if_neg h4]
    by_cases h6:s < 256
    ·simp [h6]
    ·have hw:([IntKind.wrap .u8 (fG .i64 s 255)])=[s % 256]:=by rw [TM _ (by omega)]
     simp only [h6,decide_false,cond_false,if_false,Vd,hw];rw [bD (by simp; omega)];simp only [wk];rw [ih n (s / 256) _ (by omega) (by omega) (by rw [zYX] at h2; omega) (by simp; omega)]
     cases nu n (s / 256) <;> simp
theorem Gk{s:Int}(h:562949953421311 < s):cg s=([],false):=by
 unfold cg;rw [if_neg (by omega),LB 6 s (by omega)];have:=Sp 6 s (by omega);have e:(256:Int) ^ 6=281474976710656:=by decide
 rw [e] at this;rw [if_neg (by omega)]
theorem ur{u:Nat}(hu:1099511627776<=u)(s:Int):mU u s=some (cg s):=by
 unfold mU;simp only [bH,wk]
 cases h:au s 1 562949953421311 with
 | false =>
  rcases Ji h with h | h
  ·simp [cg,h]
  ·rw [Gk h]; simp
 | true =>
  have h:=ce h;have e:(256:Int) ^ 6=281474976710656:=by decide
  simp only [zQJ,cond_false];rw [Cr u u 6 s [] (by omega) (by omega) (by rw [e]; omega) (by simp)];unfold cg;rw [if_neg (by omega)]
  cases nu 6 s <;> simp
def iw:List Int->Int->Int
 | [],s=>s
 | c :: b,s=>iw b (256*s+c)
def dZ(b:List Int):cV:=if 6 < b.length then ⟨0,0⟩ else ⟨cG b,iw b 1⟩
theorem NW(a b:List Int):∀ s,iw (a++b) s=iw b (iw a s):=by
 induction a with
 | nil=>intro s; rfl
 | cons c a ih=>intro s; exact ih _
theorem NX:∀ (n:Nat) (s:Int),s / 256 ^ n=1->iw (lJ n s) 1=s:=by
 intro n
 induction n with
 | zero=>intro s h; simpa [lJ,iw] using h.symm
 | succ n ih =>
  intro s h;rw [lJ,NW,ih]
  ·simp only [iw]; omega
  ·rw [zVW (by omega),zVX,<- zYX]; exact h
theorem w8{s:Int}{b:List Int}(h:cg s=(b,true)):dZ b=⟨cG b,s⟩:=by
 have ⟨h1,h2,h3,h4⟩:=uT h;unfold dZ;have:=NX b.length s h2;rw [<- h3] at this;rw [if_neg (by omega),this]
theorem Jj:∀ (b:List Int) (s:Int) (n:Nat),ay b->0<=s->s < 256 ^ n*2->0<=iw b s/\iw b s < 256 ^ (n+b.length)*2:=by
 intro b
 induction b with
 | nil=>intro s n _ h1 h2; exact ⟨h1,h2⟩
 | cons c b ih =>
  intro s n hb h1 h2;have hc:=hb c (by simp);have:=ih (256*s+c) (n+1) (λz hz=>hb z (by simp [hz])) (by omega) (by rw [zYX]; omega);simp only [zQH,iw];rwa [show n+(b.length+1)=n+1+b.length by omega]
theorem Ml(u:Nat):∀ (p b:List Int) (i:Nat) (s:Int) (n:Nat),ay b->0<=s->s < 256 ^ n*2->n+b.length<=6 ->
  cy (ze u p) (uc u p) b i s=pO u p (iw b s):=by
 intro p b
 induction b with
 | nil=>intros; rfl
 | cons c b ih =>
  intro i s n hb h1 h2 h3;have hc:=hb c (by simp);simp only [zQH] at h3;have hp:(256:Int) ^ n<=1099511627776:=by
   rcases (show n=0\/n=1\/n=2\/n=3\/n=4\/n=5 by omega) with rfl | rfl | rfl | rfl | rfl | rfl <;> decide
  simp only [cy,uc];rw [gR (by omega) (by omega),oJ (by omega) (by omega),dE (by omega) (by omega)];exact ih (i+1) _ (n+1) (λz hz=>hb z (by simp [hz])) (by omega) (by rw [zYX]; omega) (by omega)
theorem lU{u:Nat}(hu:1099511627776<=u){b:List Int}(hb:ay b)(hl:b.length<=1073741824):gO u b=some (dZ b):=by
 unfold gO dZ
 by_cases h:6 < b.length
 ·have:(b.length:Int) > 6:=by omega
  simp [h,this]
 ·have:¬ ((b.length:Int) > 6):=by omega
  simp only [this,decide_false,cond_false,h,if_false];rw [GJ u b 1 u (by omega) (by omega),Ml u b b 0 1 0 hb (by omega) (by decide) (by omega)];unfold pO;rw [sA hu hb hl];rfl
def oN(size len:Int)(i:Nat)(s:cV):Bool:=(cg s.fS).2 && ((cg s.fS).1.length == (cj size len i).2) && (cG (cg s.fS).1 == s.fW)
def iK(size len:Int):List cV->Nat->Bool
 | [],_=>true
 | s :: l,i=>oN size len i s && iK size len l (i+1)
def da(m:ai):Bool :=
 if m.aP=0 then m.av == 0 && m.aX == 0 && m.aO.length == 0
 else au m.aP 1 1000000 && dj m.av m.aX && ((m.aO.length:Int) == bG m.av m.aX) && iK m.av m.aX m.aO 0
theorem FF(a b:Int):(a != b)=!(a == b):=rfl
theorem Mm{u:Nat}(hu:1099511627776<=u)(m:ai):∀ (l:List cV) (i:Nat),l=m.aO.drop i->cy (zf u m) (ue u m) l i ()=some (iK m.av m.aX l i):=by
 intro l
 induction l with
 | nil=>intro i _; rfl
 | cons s l ih =>
  intro i hd;have hb:=w7 s.fS;have hx:m.aO[i]?=some s:=by
   have:=congrArg zYz hd
   simpa [zXw] using this.symm
  have hl:l=m.aO.drop (i+1):=by
   have:=congrArg zZX hd
   simpa [zXg] using this
  simp only [cy,ue,ur hu,jm,wk,iK,oN,jS,ih (i+1) hl,lU hu hb.1 (show _<=_ by omega),FF,dg,hx]
  cases h:(cg s.fS).2 with
  | false=>simp
  | true =>
   have h2:=w8 (s:=s.fS) (b:=(cg s.fS).1) (by rw [<- h]);rw [h2];have h3:(([cG (cg s.fS).1,s.fS]:List Int) == [s.fW,s.fS])=(cG (cg s.fS).1 == s.fW):=by simp
   simp only [h3]
   cases (((cg s.fS).1.length:Int) == (cj m.av m.aX ↑i).2) <;> cases (cG (cg s.fS).1 == s.fW) <;> simp
theorem gA{u:Nat}(hu:1099511627776<=u)(m:ai)(hl:m.aO.length<=1073741824):ia u m=some (da m):=by
 unfold ia da pP;simp only [bH,oM,gz,wk,FF,GK u m () u (by omega) (by omega),Mm hu m m.aO 0 (by simp)];have e0:(((m.aO.length:Int)) == 0)=(m.aO.length == 0):=by rw [zYv]; simp
 by_cases h:m.aP=0
 ·simp only [h,if_true,beq_self_eq_true,cond_true,e0]
  cases (m.av == 0) <;> cases (m.aX == 0) <;> cases (m.aO.length == 0) <;> simp
 ·have:(m.aP == 0)=false:=by simpa using h
  simp only [h,if_false,this,cond_false,wk]
  cases au m.aP 1 1000000 <;> cases dj m.av m.aX <;> cases ((m.aO.length:Int) == bG m.av m.aX) <;> simp
def cA:Nat->Int->List Int
 | 0,n=>[n % 256]
 | k+1,n=>if n<=127 then [n % 256] else (n % 128+128) :: cA k (n / 128)
def aZ(b:List Int)(n:Int):List Int:=if au n 0 1000000000000 then b++cA 9 n else b
theorem Vk:∀ a:Nat,a < 256->(a ||| 128)=a % 128+128:=by decide +kernel
theorem Mn(a:Int):fG .i64 a 127=a % 128:=by
 unfold fG;have e:(BitVec.ofInt (IntKind.bits .i64) a &&& BitVec.ofInt (IntKind.bits .i64) 127).toNat=(a % 128).toNat:=by
  change (BitVec.ofInt 64 a &&& BitVec.ofInt 64 127).toNat=(a % 128).toNat
  rw [BitVec.toNat_and,BitVec.toNat_ofInt,BitVec.toNat_ofInt,show ((127:Int) % ((2 ^ 64:Nat):Int)).toNat=2 ^ 7 - 1 by decide,zZH];omega
 rw [e];exact (gR (by omega) (by omega)).trans (by omega)
theorem Qk(a:Int)(h1:0<=a)(h2:a < 256):u3 .i64 a 128=a % 128+128:=by
 unfold u3;have e:(BitVec.ofInt (IntKind.bits .i64) a ||| BitVec.ofInt (IntKind.bits .i64) 128).toNat=(a % 128+128).toNat:=by
  change (BitVec.ofInt 64 a ||| BitVec.ofInt 64 128).toNat=_
  rw [BitVec.toNat_or,BitVec.toNat_ofInt,BitVec.toNat_ofInt,show ((128:Int) % ((2 ^ 64:Nat):Int)).toNat=128 by decide,show (a % ((2 ^ 64:Nat):Int)).toNat=a.toNat by omega,Vk _ (by omega)];omega
 rw [e];exact (gR (by omega) (by omega)).trans (by omega)
theorem Ct:∀ (k:Nat) (n:Int),(cA k n).length<=k+1:=by
 intro k
 induction k with
 | zero=>intro n; simp [cA]
 | succ k ih =>
  intro n;unfold cA;have:=ih (n / 128)
  split <;> simp <;> omega
theorem LC:∀ (k:Nat) (n:Int),ay (cA k n):=by
 intro k
 induction k with
 | zero=>intro n x hx; simp [cA] at hx; omega
 | succ k ih =>
  intro n x hx;unfold cA at hx
  split at hx
  ·simp at hx; omega
  ·rcases List.mem_cons.1 hx with h | h
   ·omega
   ·exact ih _ x h
theorem wK{a b:List Int}(h:ay a)(k:ay b):ay (a++b):=by
 intro x hx;rcases List.mem_append.1 hx with g | g
 ·exact h x g
 ·exact k x g
theorem Bw(u:Nat):∀ (j k:Nat) (n:Int) (b:List Int),n < 128 ^ (j+1)->j < k->b.length+j<=1099511627776->iE u k b n=some (b++cA j n):=by
 intro j
 induction j with
 | zero =>
  intro k n b h1 h2 h3;obtain ⟨k,rfl⟩:∃ i,k=i+1:=⟨k - 1,by omega⟩;unfold iE;have:¬ (n > 127):=by simp at h1; omega
  simp only [this,decide_false,cond_false,o5,cA,yK];rw [bD (by simp; omega)]; rfl
 | succ j ih =>
  intro k n b h1 h2 h3;obtain ⟨k,rfl⟩:∃ i,k=i+1:=⟨k - 1,by omega⟩;unfold iE
  by_cases h:n > 127
  ·have h':¬ n<=127:=by omega
   simp only [h,decide_true,cond_true,cA,h',if_false,yK,Up,Mn];rw [bD (by simp; omega),Qk _ (by omega) (by omega)];simp only [wk];rw [ih k (n / 128) _ (by rw [zYX] at h1; omega) (by omega) (by simp; omega),show (n % 128 % 128+128) % 256=n % 128+128 by omega];simp
  ·have h':n<=127:=by omega
   simp only [h,decide_false,cond_false,cA,h',if_true,o5,yK];rw [bD (by simp; omega)]; rfl
theorem DX(u:Nat):∀ (j k:Nat) (n:Int) (b:List Int),n < 128 ^ (j+1)->j < k->b.length+j<=1099511627776->kH u k n b=some (b++cA j n):=by
 intro j
 induction j with
 | zero =>
  intro k n b h1 h2 h3;obtain ⟨k,rfl⟩:∃ i,k=i+1:=⟨k - 1,by omega⟩;unfold kH;have:¬ (n > 127):=by simp at h1; omega
  simp only [this,decide_false,cond_false,rA,cA,yK];rw [bD (by simp; omega)]; rfl
 | succ j ih =>
  intro k n b h1 h2 h3;obtain ⟨k,rfl⟩:∃ i,k=i+1:=⟨k - 1,by omega⟩;unfold kH
  by_cases h:n > 127
  ·have h':¬ n<=127:=by omega
   simp only [h,decide_true,cond_true,cA,h',if_false,yK,Up,Mn];rw [bD (by simp; omega),Qk _ (by omega) (by omega)];simp only [wk];rw [ih k (n / 128) _ (by rw [zYX] at h1; omega) (by omega) (by simp; omega),show (n % 128 % 128+128) % 256=n % 128+128 by omega];simp
  ·have h':n<=127:=by omega
   simp only [h,decide_false,cond_false,cA,h',if_true,rA,yK];rw [bD (by simp; omega)]; rfl
theorem Vl:(128:Int) ^ (9+1)=1180591620717411303424:=by decide
theorem FG{u:Nat}(hu:1099511627776<=u){b:List Int}{n:Int}(hl:b.length<=1073741824)(hn:n<=9223372036854775807):pT u b n=some (b++cA 9 n) :=
 Bw u 9 u n b (by rw [Vl]; omega) (by omega) (by omega)
theorem Jk(u:Nat){b:List Int}(hl:b.length<=1073741824):tU u b=some b:=by
 unfold tU;rw [bD (by simp; omega),bD (by simp; omega)];simp [ed]
theorem dQ{u:Nat}(hu:1099511627776<=u){b:List Int}{n:Int}(hl:b.length<=1073741824):eg u b n=some (aZ b n):=by
 unfold eg aZ;rw [bD (by simp; omega)];simp only [bH,wk,zQy]
 cases h:au n 0 1000000000000 with
 | false=>simp
 | true=>have:=ce h; simp [DX u 9 u n b (by rw [Vl]; omega) (by omega) (by omega)]
theorem bQ(b:List Int)(n:Int):(aZ b n).length<=b.length+10:=by
 unfold aZ;have:=Ct 9 n
 split <;> simp <;> omega
def jv(b:List Int):List cV->List Int
 | []=>b
 | s :: l=>jv (b++cA 9 s.fS) l
def oO(b:List Int)(m:ai):List Int:=if da m then jv (aZ (aZ (aZ b m.aP) m.av) m.aX) m.aO else b
def pB(m:ai):Prop:=∀ s∈m.aO,s.fS<=9223372036854775807
theorem u4{m:ai}(h:da m=true):m.aO.length<=40:=by
 unfold da at h
 split at h
 ·simp only [sk,beq_iff_eq] at h;have:=h.2;omega
 ·have:=dB m.av m.aX;simp only [sk,beq_iff_eq] at h;omega
theorem KE{u:Nat}(hu:1099511627776<=u)(m:ai):∀ (l:List cV) (i:Nat) (b:List Int),(∀ s∈l,s.fS<=9223372036854775807)->b.length+10*l.length<=1073741824 ->
  cy (xo u m) (sT u m) l i b=some (jv b l):=by
 intro l
 induction l with
 | nil=>intros; rfl
 | cons s l ih =>
  intro i b h1 h2;simp only [zQH] at h2;have h3:=Ct 9 s.fS;simp only [cy,sT,FG hu (show b.length<=1073741824 by omega) (h1 s (by simp)),wk,jv];exact ih (i+1) _ (λz hz=>h1 z (by simp [hz])) (by simp; omega)
theorem Jl{u:Nat}(hu:1099511627776<=u){b:List Int}{m:ai}(hl:b.length<=536870912)(hm:m.aO.length<=1073741824)(hw:pB m):tJ u b m=some (oO b m):=by
 unfold tJ oO;have h1:=bQ b m.aP;have h2:=bQ (aZ b m.aP) m.av;have h3:=bQ (aZ (aZ b m.aP) m.av) m.aX;rw [bD (by simp; omega),gA hu m hm];simp only [zQy,wk]
 cases h:da m with
 | false=>simp
 | true =>
  have h4:=u4 h;simp only [wk,zQJ,cond_false,if_true];rw [dQ hu (by omega)]; simp only [wk];rw [dQ hu (by omega)]; simp only [wk];rw [dQ hu (by omega)]; simp only [wk];rw [EO u m _ u (by omega) (by omega),KE hu m _ _ _ hw (by omega)]
theorem nS{a:Int}(h1:0<=a)(h2:a < 18446744073709551616):(BitVec.ofInt 64 a).toNat=a.toNat:=by
 rw [BitVec.toNat_ofInt]; omega
theorem DY{a b:Nat}(h1:a < 9223372036854775808)(h2:b < 9223372036854775808):u3 .i64 (a:Int) (b:Int)=((a ||| b:Nat):Int):=by
 unfold u3;have e:(BitVec.ofInt (IntKind.bits .i64) (a:Int) ||| BitVec.ofInt (IntKind.bits .i64) (b:Int)).toNat=a ||| b:=by
  change (BitVec.ofInt 64 (a:Int) ||| BitVec.ofInt 64 (b:Int)).toNat=_
  rw [BitVec.toNat_or,nS (by omega) (by omega),nS (by omega) (by omega)]; rfl
 rw [e];have:a ||| b < 2 ^ 63:=Nat.or_lt_two_pow (by omega) (by omega)
 exact gR (by omega) (by omega)
theorem NY{a b:Nat}(h1:a < 9223372036854775808)(h2:b < 9223372036854775808):fG .i64 (a:Int) (b:Int)=((a &&& b:Nat):Int):=by
 unfold fG;have e:(BitVec.ofInt (IntKind.bits .i64) (a:Int) &&& BitVec.ofInt (IntKind.bits .i64) (b:Int)).toNat=a &&& b:=by
  change (BitVec.ofInt 64 (a:Int) &&& BitVec.ofInt 64 (b:Int)).toNat=_
  rw [BitVec.toNat_and,nS (by omega) (by omega),nS (by omega) (by omega)]; rfl
 rw [e];have:a &&& b<=a:=Nat.and_le_left;exact gR (by omega) (by omega)
theorem FH{i:Nat}(h:i<=62):lI .i64 1 (i:Int)=((2 ^ i:Nat):Int):=by
 unfold lI;rw [show min (sY (i:Int)) (IntKind.bits .i64)=i by simp [IntKind.bits]; omega];have h1:(2:Nat) ^ i<=2 ^ 62:=zWz (by omega) h;have h2:(1:Int)*2 ^ i=((2 ^ i:Nat):Int):=by simp
 rw [h2];generalize (2:Nat) ^ i=p at h1;exact gR (by omega) (by omega)
theorem NZ{a i:Nat}(h:i<=64):m7 .i64 (a:Int) (i:Int)=((a / 2 ^ i:Nat):Int):=by
 rw [O8 .i64 _ i h]; simp
def tz:Nat->(Nat->Bool)->Nat
 | 0,_=>0
 | n+1,f=>tz n f ||| (if f n then 2 ^ n else 0)
theorem BN(f:Nat->Bool):∀ (n i:Nat),(tz n f).testBit i=(decide (i < n) && f i):=by
 intro n
 induction n with
 | zero=>intro i; simp [tz]
 | succ n ih =>
  intro i;rw [tz,Nat.testBit_or,ih]
  by_cases h:i=n
  ·subst h
   cases f i <;> simp [Nat.testBit_two_pow_self]
  ·have h1:(if f n=true then 2 ^ n else 0).testBit i=false:=by
    split
    ·exact Nat.testBit_two_pow_of_ne (Ne.symm h)
    ·simp
   rw [h1,Bool.or_false]
   congr 1
   rw [decide_eq_decide]; omega
theorem Sq(f:Nat->Bool)(n:Nat):tz n f < 2 ^ n:=by
 induction n with
 | zero=>simp [tz]
 | succ n ih =>
  rw [tz];refine Nat.or_lt_two_pow (by rw [Nat.pow_succ]; omega) ?_;have:=Nat.pow_lt_pow_right (a:=2) (by omega) (Nat.lt_succ_self n)
  split <;> omega
theorem N0{a b n:Nat}(hn:n<=62)(h1:a < 2 ^ n)(h2:b < 2 ^ n):yJ .i64 (a:Int) (b:Int)=((tz n (λi=>a.testBit i && !b.testBit i):Nat):Int):=by
 have hp:(2:Nat) ^ n<=2 ^ 62:=zWz (by omega) hn;unfold yJ;have e:(BitVec.ofInt (IntKind.bits .i64) (a:Int) &&& ~~~ BitVec.ofInt (IntKind.bits .i64) (b:Int)).toNat=tz n (λi=>a.testBit i && !b.testBit i):=by
  change (BitVec.ofInt 64 (a:Int) &&& ~~~ BitVec.ofInt 64 (b:Int)).toNat=_
  apply Nat.eq_of_testBit_eq
  intro i;rw [BN,BitVec.toNat_and,Nat.testBit_and,nS (by omega) (by omega),BitVec.testBit_toNat,BitVec.getLsbD_not];have hb:(BitVec.ofInt 64 (b:Int)).getLsbD i=b.testBit i:=by rw [<- BitVec.testBit_toNat,nS (by omega) (by omega)]; rfl
  rw [hb];have ha:((a:Int).toNat).testBit i=a.testBit i:=by simp
  rw [ha]
  by_cases hi:i < n
  ·have:i < 64:=by omega
   simp [hi,this]
  ·have:a < 2 ^ i:=zQj h1 (zWz (by omega) (by omega));simp [hi,Nat.testBit_lt_two_pow this]
 rw [e];have:=Sq (λi=>a.testBit i && !b.testBit i) n;exact gR (by omega) (by omega)
def bV(s:Int):Bool:=au s 0 1099511627775
def eB(i:Int):Bool:=au i 0 39
def cT(s i:Int):Bool:=bV s && eB i && s.toNat.testBit i.toNat
theorem BO(u:Nat)(s:Int):qT u s=some (bV s):=by simp [qT,mG,bV]
theorem hP(u:Nat)(s:Int):eo u s=some (bV s):=by simp [eo,bH,bV]
theorem Hk(u:Nat)(s:Int):rQ u s=some (eB s):=by simp [rQ,mG,eB]
theorem Sr{s i:Int}(hs:bV s=true)(hi:eB i=true):(fG .i64 (m7 .i64 s i) 1 == 1)=s.toNat.testBit i.toNat:=by
 have h1:=ce hs;have h2:=ce hi;obtain ⟨a,rfl⟩:=zQG h1.1;obtain ⟨n,rfl⟩:=zQG h2.1;rw [NZ (by omega)];have h3:a / 2 ^ n<=a:=Nat.div_le_self a _;rw [show (1:Int)=((1:Nat):Int) by rfl,NY (by omega) (by omega),Nat.and_one_is_mod];simp only [rg,Nat.testBit_eq_decide_div_mod_eq];generalize a / 2 ^ n=z;rw [zYv,beq_iff_eq,decide_eq_true_eq]; omega
theorem KF(u:Nat)(s i:Int):s5 u s i=some (cT s i):=by
 unfold s5 cT;simp only [BO,Hk,wk]
 cases h1:bV s with
 | false=>simp
 | true =>
  cases h2:eB i with
  | false=>simp
  | true =>
   have h3:=ce h2;rw [bD (by omega)];simp [Sr h1 h2]
theorem ke(u:Nat)(s i:Int):eD u s i=some (cT s i):=by
 unfold eD cT;simp only [hP,bH,wk]
 cases h1:bV s with
 | false=>simp
 | true =>
  change ((bif true then (bif eB i then _ else _) else _):Option Bool)=_
  cases h2:eB i with
  | false=>simp
  | true =>
   have h3:=ce h2;simp only [cond_true];rw [bD (by omega)];simp [Sr h1 h2]
def gS(s:Int):List Int:=if bV s then ((zXQ 40).filter λi=>s.toNat.testBit i).map Int.ofNat else []
theorem Gl{α ρ:Type}{fin:List α->Option ρ}{body:Nat->List α->(List α->Option ρ)->Option ρ}(f:Nat->Bool)(g:Nat->α)(n c:Nat)(hb:∀ i s k,i < n->s.length<=c+i->body i s k=k (if f i then s++[g i] else s)) :
  ∀ (m i:Nat) (s:List α),i+m=n->s.length<=c+i->qg fin body m i s=fin (s++(((zWh i m).filter f).map g)):=by
 intro m
 induction m with
 | zero=>intro i s h1 h2; simp [qg]
 | succ m ih =>
  intro i s h1 h2;simp only [qg];rw [hb i s _ (by omega) h2]
  cases hf:f i with
  | true =>
   simp only [if_true];rw [ih (i+1) _ (by omega) (by simp; omega),zYw,zZj,hf];simp
  | false =>
   simp only [zWW,if_false];rw [ih (i+1) _ (by omega) (by omega),zYw,zZj,hf];simp
theorem Hl{u:Nat}(hu:1099511627776<=u)(s:Int):rS u s=some (gS s):=by
 unfold rS;rw [Db u s [] u (by omega) (by omega),Gl (λi=>cT s i) (λi=>(i:Int)) 40 0 _ (sY 40) 0 [] (by decide) (by simp)]
 ·unfold wv qF gS;rw [show sY 40=40 by rfl,<- zXJ]
  cases h:bV s with
  | false=>simp [cT,h]
  | true =>
   simp only [zQy,if_true]
   congr 2
   apply List.filter_congr
   intro i hi;have hi:i < 40:=by simpa using hi
   have:eB (i:Int)=true:=by simp [eB,au]; omega
   simp [cT,h,this]
 ·intro i t k hi ht;unfold ww;rw [KF];simp only [wk]
  cases cT s i with
  | false=>simp [jG]
  | true =>
   simp only [cond_true,if_true];rw [bD (by simp; omega)];simp [jG]
theorem zE{u:Nat}(hu:1099511627776<=u)(s:Int):pg u s=some (gS s):=by
 unfold pg;rw [Da u s [] u (by omega) (by omega),Gl (λi=>cT s i) (λi=>(i:Int)) 40 0 _ (sY 40) 0 [] (by decide) (by simp)]
 ·unfold wt qx gS;rw [show sY 40=40 by rfl,<- zXJ]
  cases h:bV s with
  | false=>simp [cT,h]
  | true =>
   simp only [zQy,if_true]
   congr 2
   apply List.filter_congr
   intro i hi;have hi:i < 40:=by simpa using hi
   have:eB (i:Int)=true:=by simp [eB,au]; omega
   simp [cT,h,this]
 ·intro i t k hi ht;unfold wu;rw [ke];simp only [wk]
  cases cT s i with
  | false=>simp [jF]
  | true =>
   simp only [cond_true,if_true];rw [bD (by simp; omega)];simp [jF]
def M.win(b:List Int)(i n:Nat):List Int:=(b.take (i+n)).drop i
theorem Jm(b:List Int)(i n:Nat):M.win b i n=(b.drop i).take n:=by
 unfold M.win; rw [List.drop_take]; congr 1; omega
theorem lK{b:List Int}(h:ay b)(i n:Nat):ay (M.win b i n):=λx hx=>h x (zQg (zWq hx))
theorem qZ{b:List Int}{i n:Nat}(h:i+n<=b.length):(M.win b i n).length=n:=by
 unfold M.win; rw [zYK,zQz]; omega
theorem Mo(b:List Int)(i n:Nat):(M.win b i n).length<=n:=by
 unfold M.win; rw [zYK,zQz]; omega
theorem gT{a b n:Nat}(h1:a<=b)(h2:b<=n):ed (cO (a:Int) (b:Int) (n:Int))=some ():=by
 have:cO (a:Int) (b:Int) (n:Int)=true:=by simp [cO]; omega
 rw [this]; rfl
theorem sB{a b:Nat}(h:a+b<=9223372036854775807):be .i64 (a:Int) (b:Int)=((a+b:Nat):Int):=by
 rw [dE (by omega) (by omega)]; omega
def dI(b:List Int)(size i:Int):List Int×Bool :=
 let s:=cj size b.length i
 if s.2=0 then ([],false) else (M.win b s.1.toNat s.2.toNat,true)
theorem pC{size n i:Int}(hn:0<=n):0<=(cj size n i).1/\0<=(cj size n i).2/\(cj size n i).2<=6/\(cj size n i).1+(cj size n i).2<=n:=by
 unfold cj
 split
 ·rename_i h;have ⟨h1,h2,h3⟩:=Bg h;have h4:=qj h1;have h5:=(ce h).2;unfold bG at h5;rw [if_pos h1] at h5;have h6:=FE h4.1 h4.2.1 h2 h3;have h7:i*size<=n:=by
   have h8:i+1<=(n+size - 1) / size:=by omega
   have h9:(i+1)*size<=n+size - 1:=(Int.le_ediv_iff_mul_le (by omega)).1 h8;rw [zZz] at h9;omega
  dsimp only;omega
 ·dsimp only; omega
theorem tA{b:List Int}(hb:ay b)(size i:Int):ay (dI b size i).1/\(dI b size i).1.length<=6:=by
 have h:=pC (size:=size) (n:=b.length) (i:=i) (by omega);unfold dI;dsimp only
 split
 ·exact ⟨by simp [ay],by simp⟩
 ·refine ⟨lK hb _ _,?_⟩;have:=Mo b (cj size b.length i).1.toNat (cj size b.length i).2.toNat;dsimp only;omega
theorem zF(u:Nat){b:List Int}(hl:b.length<=1073741824)(size i:Int):jL u b size i=some (dI b size i):=by
 have h:=pC (size:=size) (n:=b.length) (i:=i) (by omega);unfold jL dI;simp only [jm,wk];generalize cj size b.length i=s at h;obtain ⟨a,n⟩:=s;dsimp only at h ⊢
 by_cases h0:n=0
 ·simp [h0]
 ·have:(n == 0)=false:=by simpa using h0
  obtain ⟨x,rfl⟩:=zQG h.1;obtain ⟨y,rfl⟩:=zQG h.2.1;simp only [this,cond_false,h0,if_false];rw [sB (by omega),gT (by omega) (by omega)];simp only [wk,rg];rw [bD (by simp; omega)];rfl
def nv(b:List Int)(size:Int):List cV:=(zXQ (bG size b.length).toNat).map λ(i:Nat)=>dZ (dI b size i).1
theorem N1{α ρ:Type}{fin:List α->Option ρ}{body:Nat->List α->(List α->Option ρ)->Option ρ}(g:Nat->α)(n:Nat)(hb:∀ i s k,i < n->s.length=i->body i s k=k (s++[g i])) :
  qg fin body n 0 []=fin ((zXQ n).map g):=by
 have:∀ (m i:Nat) (s:List α),i+m=n->s.length=i->qg fin body m i s=fin (s++(zWh i m).map g):=by
  intro m
  induction m with
  | zero=>intro i s h1 h2; simp [qg]
  | succ m ih =>
   intro i s h1 h2;simp only [qg];rw [hb i s _ (by omega) h2,ih (i+1) _ (by omega) (by simp [h2]),zYw];simp
 rw [this n 0 [] (by omega) rfl,<- zXJ];simp
theorem AE{u:Nat}(hu:1099511627776<=u){b:List Int}(hb:ay b)(hl:b.length<=1073741824)(size:Int):mP u b size=some (nv b size):=by
 unfold mP;have hr:=dB size b.length;rw [sg (n:=bG size b.length) (fin:=rq u) (body:=λi (s:List cV) k=>(jL u b size (i:Int)).bind λr8=>(gO u r8.1).bind λr9=>(ed (decide ((s.length+([r9]).length)*16<=140737488355328))).bind λ_=>k (s++[r9]))
  (λk (s:List cV) i=>ja u k b size s i) (by omega) (λk s i=>by rw [ja,gz]; rfl) [] (by omega),N1 (λi=>dZ (dI b size i).1)]
 ·rfl
 ·intro i s k hi hs;have h:=tA hb size (i:Int);rw [zF u hl];simp only [wk];rw [lU hu h.1 (by omega)];simp only [wk];rw [bD (by simp; omega)];rfl
def ga(gen:Int)(b:List Int)(size:Int):ai:=if au gen 1 1000000 && dj size b.length then ⟨gen,size,b.length,nv b size⟩ else ⟨0,0,0,[]⟩
theorem w9{u:Nat}(hu:1099511627776<=u){b:List Int}(hb:ay b)(hl:b.length<=1073741824)(gen size:Int):sO u gen b size=some (ga gen b size):=by
 unfold sO tq ga;simp only [bH,oM,wk,AE hu hb hl]
 cases au gen 1 1000000 <;> cases dj size b.length <;> simp
def Cv:List Int->Int
 | []=>0
 | c :: b=>c+Cv b
def Hm:List Int->Int
 | []=>0
 | c :: b=>((b.length:Int)+1)*c+Hm b
theorem Q7:∀ (b:List Int) (x y:Int),sv b x y=match b with | []=>(x,y) | _=>((x+Cv b) % 251,(y+b.length*x+Hm b) % 251):=by
 intro b
 induction b with
 | nil=>intro x y; rfl
 | cons c b ih =>
  intro x y;simp only [sv];rw [ih]
  cases b with
  | nil=>simp [Cv,Hm,Int.add_assoc]
  | cons d b =>
   simp only [Cv,Hm,zQH];refine Prod.ext ?_ ?_
   ·dsimp only; omega
   ·dsimp only;have e:((b.length:Int)+1)*((x+c) % 251) % 251=((b.length:Int)+1)*(x+c) % 251:=by rw [Int.mul_emod,Int.emod_emod_of_dvd _ (Int.dvd_refl 251),<- Int.mul_emod]
    have e1:((b.length:Int)+1)*(x+c)=((b.length:Int)+1)*x+((b.length:Int)+1)*c:=Int.mul_add _ _ _;have e2:((b.length:Int)+1+1)*x=((b.length:Int)+1)*x+x:=by rw [zZz]; omega
    have e3:((b.length:Int)+1+1)*c=((b.length:Int)+1)*c+c:=by rw [zZz]; omega
    push_cast
    rw [e2,e3];rw [e1] at e;generalize ((b.length:Int)+1)*((x+c) % 251)=p at *;generalize ((b.length:Int)+1)*x=q at *;generalize ((b.length:Int)+1)*c=r at *;generalize ((b.length:Int)+1)*d=t at *;omega
theorem Jn{b:List Int}:cG b=Cv b % 251+251*(Hm b % 251):=by
 unfold cG;rw [Q7]
 cases b with
 | nil=>simp [Cv,Hm]
 | cons c b=>dsimp only; simp
theorem UN(b:List Int)(d:Int):Cv (b++[d])=Cv b+d:=by
 induction b with
 | nil=>simp [Cv]
 | cons c b ih=>simp only [List.cons_append,Cv,ih]; omega
theorem UO(b:List Int)(d:Int):Hm (b++[d])=Hm b+Cv b+d:=by
 induction b with
 | nil=>simp [Cv,Hm]
 | cons c b ih =>
  simp only [List.cons_append,Cv,Hm,ih,zQK,zYG]
  push_cast
  rw [zZz ((b.length:Int)+1) 1 c];omega
theorem Mp(u:Nat)(n m:Int):sR u n m=some (if au m 1 1000000000000 then n % m else 0):=by
 unfold sR;simp only [bH,wk]
 cases h:au m 1 1000000000000 with
 | false=>simp
 | true =>
  have h3:=ce h;have hb:(m == 0)=false:=by simp; omega
  have h4:=Pl (n:=n) (m:=m) (by omega);simp only [hb,zQJ,cond_false,Bool.not_false,DA,wk];have e1:tY .i64 n m=n.tmod m:=rfl;rw [e1,dE (by omega) (by omega)];show some ((n.tmod m+m).tmod m)=_;rw [Q6 (by omega)]; simp
theorem DZ(u:Nat)(w:Int):uX u w=some (au w 0 63000):=by simp [uX,bH]
theorem Cw(u:Nat){w:Int}(h:au w 0 63000=true):nc u w=some (w % 251,w / 251):=by
 unfold nc;have:=ce h;rw [DZ,h];simp (disch:=omega) [Am,NE]
theorem Mq(u:Nat){c d:Int}{m:List Int}(hc:0<=c/\c<=255)(hd:0<=d/\d<=255)(hm:m.length<=5):uY u (cG (c :: m)) ((m.length:Int)+1) c d=some (cG (m++[d])):=by
 unfold uY oY;have h0:=DW (c :: m);have h1:au (cG (c :: m)) 0 63000=true:=by simp [au]; omega
 have h2:au ((m.length:Int)+1) 1 1000000000000=true:=by simp [au]; omega
 have h3:au c 0 255=true:=by simp [au]; omega
 have h4:au d 0 255=true:=by simp [au]; omega
 have h5:au 251 1 1000000000000=true:=by decide
 have h6:((m.length:Int)+1)*c<=6*255:=Int.mul_le_mul (by omega) (by omega) (by omega) (by omega);have h7:0<=((m.length:Int)+1)*c:=Int.mul_nonneg (by omega) (by omega);simp only [DZ,bH,h1,h2,h3,h4,wk,zQJ,cond_false,Cw u h1,Mp,h5,if_true];rw [Am (by omega),Int.emod_eq_of_lt (a:=(m.length:Int)+1) (by omega) (by omega)];have e:=Jn (b:=c :: m);have e2:=Jn (b:=m++[d]);rw [e2,UN,UO];simp only [Cv,Hm] at e;rw [oJ (a:=(m.length:Int)+1) (b:=c) (by omega) (by omega)];generalize cG (c :: m)=w at *;generalize ((m.length:Int)+1)*c=q at *;generalize Cv m=sx at *;generalize Hm m=sy at *;rw [dP (a:=w / 251) (by omega) (by omega),dP (a:=w % 251) (by omega) (by omega),dE (a:=w % 251 - c) (by omega) (by omega)];rw [dE (a:=(w / 251 - q) % 251) (by omega) (by omega)];rw [oJ (by omega) (by omega),dE (by omega) (by omega)]
 congr 1
 omega
theorem Ss{b:List Int}{i n:Nat}{c:Int}(hc:b[i]?=some c):M.win b i (n+1)=c :: M.win b (i+1) n:=by
 rw [Jm,Jm];obtain ⟨h,rfl⟩:=List.getElem?_eq_some_iff.1 hc;rw [zXv h,List.take_succ_cons]
theorem Su{b:List Int}{i n:Nat}{d:Int}(hd:b[i+n]?=some d):M.win b i (n+1)=M.win b i n++[d]:=by
 rw [Jm,Jm,List.take_add_one]
 congr 1
 rw [zQq,hd]; rfl
def pD(b:List Int)(n:Nat):List Int:=if n<=b.length then (zXQ (b.length+1 - n)).map λi=>cG (M.win b i n) else []
theorem Cx(u:Nat){b:List Int}(hb:ay b)(hl:b.length<=1073741824){n:Nat}(h1:1<=n)(h2:n<=6):∀ (m k j:Nat),n+j+m=b.length->m < k ->
  gE u k b n ((zXQ (j+1)).map λi=>cG (M.win b i n)) (cG (M.win b j n)) ((n+j:Nat):Int)=some ((zXQ (j+1+m)).map λi=>cG (M.win b i n)):=by
 intro m
 induction m with
 | zero =>
  intro k j h3 h4;obtain ⟨k,rfl⟩:∃ i,k=i+1:=⟨k - 1,by omega⟩;unfold gE;have:¬ (((n+j:Nat):Int) < (b.length:Int)):=by omega
  simp only [this,decide_false,cond_false,qo,zYQ]
 | succ m ih =>
  intro k j h3 h4;obtain ⟨k,rfl⟩:∃ i,k=i+1:=⟨k - 1,by omega⟩;unfold gE;have h5:((n+j:Nat):Int) < (b.length:Int):=by omega
  have e:eH .i64 ((n+j:Nat):Int) (n:Int)=(j:Int):=by rw [dP (by omega) (by omega)]; omega
  simp only [h5,decide_true,cond_true,e,dg];have hc:=sX (l:=b) (i:=j) (by omega);have hd:=sX (l:=b) (i:=n+j) (by omega);rw [hc,hd];simp only [wk];have hcb:=hb _ (zYV (l:=b) (n:=j) (by omega));have hdb:=hb _ (zYV (l:=b) (n:=n+j) (by omega));rw [gR (n:=b[j]) (by omega) (by omega),gR (n:=b[n+j]) (by omega) (by omega)];obtain ⟨n,rfl⟩:∃ i,n=i+1:=⟨n - 1,by omega⟩;have e1:=Ss (n:=n) hc;have e2:M.win b (j+1) (n+1)=M.win b (j+1) n++[b[n+1+j]]:=Su (by rw [show j+1+n=n+1+j by omega]; exact hd);have hw:(M.win b (j+1) n).length=n:=qZ (by omega);have hroll:=Mq u (c:=b[j]) (d:=b[n+1+j]) (m:=M.win b (j+1) n) hcb hdb (by omega);rw [hw,<- e1,<- e2] at hroll;rw [show ((n+1:Nat):Int)=(n:Int)+1 by omega,hroll];simp only [wk];rw [bD (by simp; omega)];simp only [wk];rw [show (List.map (λi=>cG (M.win b i (n+1))) (zXQ (j+1))++[cG (M.win b (j+1) (n+1))])=(zXQ (j+1+1)).map λi=>cG (M.win b i (n+1)) by rw [List.range_succ (n:=j+1),List.map_append]; rfl];rw [ep (by omega)];have:=ih k (j+1) (by omega) (by omega);rw [show ((n+1:Nat):Int)=(n:Int)+1 by omega] at this;rw [show n+1+j+1=n+1+(j+1) by omega,this,show j+1+1+m=j+1+(m+1) by omega]
theorem Hn{u:Nat}(hu:1099511627776<=u){b:List Int}(hb:ay b)(hl:b.length<=1073741824){n:Nat}(h1:1<=n)(h2:n<=6):rr u b n=some (pD b n):=by
 unfold rr qp pD;have h3:¬ ((n:Int) < 1):=by omega
 simp only [h3,decide_false,cond_false]
 by_cases h4:n<=b.length
 ·have h5:¬ ((n:Int) > (b.length:Int)):=by omega
  simp only [h5,decide_false,cond_false,h4,if_true];rw [show (0:Int)=((0:Nat):Int) by rfl,gT (by omega) h4];simp only [wk,rg];have e:List.drop 0 (List.take n b)=M.win b 0 n:=by simp [M.win]
  rw [e,sA hu (lK hb _ _) (by have:=Mo b 0 n; omega)];simp only [wk];rw [bD (by simp)];have:=Cx u hb hl h1 h2 (b.length - n) u 0 (by omega) (by omega);simp only [zYQ,zWZ] at this;rw [show (zXQ 1).map (λi=>cG (M.win b i n))=[cG (M.win b 0 n)] by rfl] at this;simp only [wk,zQy];rw [this,show 1+(b.length - n)=b.length+1 - n by omega]
 ·have h5:((n:Int) > (b.length:Int)):=by omega
  simp [h5,h4]
def iL(b:List Int)(s:cV)(n:Nat):Nat->Nat->Int
 | 0,_=>-1
 | c+1,i=>if dZ (M.win b i n)=s then i else iL b s n c (i+1)
def u5(b:List Int)(s:cV)(n:Int):Int:=if au n 1 6 then iL b s n.toNat (b.length+1 - n.toNat) 0 else -1
theorem Jo(b:List Int)(s:cV)(n:Nat):∀ c i,-1<=iL b s n c i/\iL b s n c i < i+c:=by
 intro c
 induction c with
 | zero=>intro i; simp [iL]; omega
 | succ c ih =>
  intro i;unfold iL;have:=ih (i+1)
  split <;> omega
theorem H5(x y:cV):(([x.fW,x.fS]:List Int) == [y.fW,y.fS])=decide (x=y):=by
 obtain ⟨a,b⟩:=x;obtain ⟨c,d⟩:=y;rw [zYv]; simp
theorem Pm{b:List Int}(h:b.length<=6):(dZ b).fW=cG b:=by
 unfold dZ; rw [if_neg (by omega)]
theorem Cy{u:Nat}(hu:1099511627776<=u){b:List Int}(hb:ay b)(hl:b.length<=1073741823)(s:cV){n:Nat}(h1:1<=n)(h2:n<=6):∀ (c k i:Nat),i+c=b.length+1 - n->c < k ->
  eN u k b n (pD b n) i s=some (iL b s n c i):=by
 have hlen:(pD b n).length=b.length+1 - n:=by
  unfold pD
  split
  ·simp
  ·simp; omega
 intro c
 induction c with
 | zero =>
  intro k i h3 h4;obtain ⟨k,rfl⟩:∃ i,k=i+1:=⟨k - 1,by omega⟩;unfold eN;have:¬ ((i:Int) < ((pD b n).length:Int)):=by omega
  simp only [this,decide_false,cond_false,qq,iL]
 | succ c ih =>
  intro k i h3 h4;obtain ⟨k,rfl⟩:∃ i,k=i+1:=⟨k - 1,by omega⟩;unfold eN;have h5:((i:Int) < ((pD b n).length:Int)):=by omega
  have hx:(pD b n)[i]?=some (cG (M.win b i n)):=by
   unfold pD;rw [if_pos (by omega),zQY,zYk (by omega)]; rfl
  simp only [h5,decide_true,cond_true,dg,hx,wk];rw [sB (by omega),gT (by omega) (by omega)];simp only [wk,rg]
  change (bif _ then ((gO u (M.win b i n)).bind _) else _)=_
  rw [lU hu (lK hb _ _) (by have:=Mo b i n; omega)];simp only [wk,H5,iL,k8,cond_false,ep (show i < 9223372036854775807 by omega),ih k (i+1) (by omega) (by omega)]
  by_cases h6:dZ (M.win b i n)=s
  ·have h7:cG (M.win b i n)=s.fW:=by rw [<- h6,Pm (by have:=Mo b i n; omega)]
   simp [h6,h7]
  ·cases cG (M.win b i n) == s.fW <;> simp [h6]
theorem Ho{u:Nat}(hu:1099511627776<=u){b:List Int}(hb:ay b)(hl:b.length<=1073741823)(s:cV)(n:Int):rt u b s n=some (u5 b s n):=by
 unfold rt u5;rw [bH];simp only [wk]
 cases h:au n 1 6 with
 | false=>simp
 | true =>
  have h:=ce h;obtain ⟨n,rfl⟩:=zQG (show 0<=n by omega);simp only [zQJ,cond_false,if_true,rg];rw [Hn hu hb (by omega) (by omega) (by omega)];exact Cy hu hb (by omega) s (by omega) (by omega) (b.length+1 - n) u 0 (by omega) (by omega)
def fL(b:List Int)(m:ai)(i:Nat):Int:=match m.aO[i]? with
 | some s=>u5 b s (cj m.av m.aX i).2
 | none=>-1
theorem Hp{u:Nat}(hu:1099511627776<=u){b:List Int}(hb:ay b)(hl:b.length<=1073741823){m:ai}(hm:m.aO.length<=1073741824)(i:Nat):oZ u b m i=some (fL b m i):=by
 unfold oZ qr fL;rw [jm];simp only [wk,Ho hu hb hl,dg]
 by_cases h:i < m.aO.length
 ·have h1:¬ ((i:Int)>=(m.aO.length:Int)):=by omega
  simp only [sX h,wk,h1,decide_false,cond_false,cond_true]
  by_cases h2:(cj m.av m.aX i).2=0
  ·have:u5 b m.aO[i] 0=-1:=by simp [u5,au]
   simp [h2,this]
  ·have:((cj m.av m.aX i).2 == 0)=false:=by simpa using h2
   simp [this]
 ·have h1:((i:Int)>=(m.aO.length:Int)):=by omega
  simp only [List.getElem?_eq_none (show m.aO.length<=i by omega),h1,decide_true,cond_true]
  cases ((cj m.av m.aX i).2 == 0) <;> simp
theorem LD{s:Nat}(h:s < 1099511627776):bV (s:Int)=true:=by simp [bV,au]; omega
theorem Hq(u:Nat){n:Nat}(h:n<=40):pa u n=some ((2 ^ n - 1:Nat):Int):=by
 unfold pa;have h1:au (n:Int) 0 40=true:=by simp [au]; omega
 rw [bH,h1];simp only [wk,zQJ,cond_false];have h2:(2:Nat) ^ n<=2 ^ 40:=zWz (by omega) h;have h3:0 < (2:Nat) ^ n:=Nat.pow_pos (by omega);rw [bD (by omega),FH (by omega)];generalize (2:Nat) ^ n=p at *;rw [dP (by omega) (by omega)];simp only [wk]
 congr 1
 omega
theorem Jp(s:Int):(gS s).length<=40:=by
 unfold gS
 split
 ·rw [zYZ];have:=zZW (λi=>s.toNat.testBit i) (zXQ 40)
  simpa using this
 ·simp
theorem FI(gen:Int)(b:List Int)(size:Int):(ga gen b size).aO.length<=40:=by
 unfold ga
 split
 ·have:=dB size b.length;simp [nv]; omega
 ·simp
theorem Jq(gen:Int)(b:List Int)(size:Int)(hb:ay b):pB (ga gen b size):=by
 unfold ga pB
 split
 ·intro s hs;simp only [nv,zYJ] at hs;obtain ⟨i,_,rfl⟩:=hs;have h:=tA hb size (i:Int);unfold dZ;rw [if_neg (by omega)];have:=Jj (dI b size i).1 1 0 h.1 (by omega) (by decide);have h6:(256:Int) ^ (0+(dI b size i).1.length)<=281474976710656:=by
   have h7:=h.2;generalize (dI b size i).1.length=n at h7;rcases (show n=0\/n=1\/n=2\/n=3\/n=4\/n=5\/n=6 by omega) with rfl | rfl | rfl | rfl | rfl | rfl | rfl <;> decide
  dsimp only;omega
 ·intro s hs; simp at hs
theorem Jr:∀ (l:List cV) (b:List Int),(jv b l).length<=b.length+10*l.length:=by
 intro l
 induction l with
 | nil=>intro b; simp [jv]
 | cons s l ih =>
  intro b;have h1:=ih (b++cA 9 s.fS);have h2:=Ct 9 s.fS;simp only [jv,zQH,zQK] at h1 ⊢;omega
theorem Q8(b:Bool):(bif b then some true else some false)=some b:=by cases b <;> rfl
def yO{α:Type}(f:α->α->Bool):List α->List α->Bool
 | x :: xs,y :: ys=>f x y && yO f xs ys
 | _,_=>true
def M.same{α:Type}(f:α->α->Bool)(xs ys:List α):Bool:=(xs.length == ys.length) && yO f xs ys
theorem Pn{α:Type}{fin:Unit->Option Bool}{body:α->Nat->Unit->(Unit->Option Bool)->Option Bool}(f:α->α->Bool){xs ys:List α}(h:xs.length=ys.length)(hb:∀ x y i k,xs[i]?=some x->ys[i]?=some y->body x i () k=bif f x y then k () else some false) :
  cy fin body xs 0 ()=bif yO f xs ys then fin () else some false:=by
 have:∀ (l m:List α) (i:Nat),l=xs.drop i->m=ys.drop i->cy fin body l i ()=bif yO f l m then fin () else some false:=by
  intro l
  induction l with
  | nil=>intro m i _ _; simp [cy,yO]
  | cons x l ih =>
   intro m i h1 h2;have hlt:i < xs.length:=by have:=congrArg zYH h1; simp at this; omega
   cases m with
   | nil=>have:=congrArg zYH h2; simp at this; omega
   | cons y m =>
    have hx:xs[i]?=some x:=by have:=congrArg zYz h1; simpa [zXw] using this.symm
    have hy:ys[i]?=some y:=by have:=congrArg zYz h2; simpa [zXw] using this.symm
    have hl:l=xs.drop (i+1):=by have:=congrArg zZX h1; simpa [zXg] using this
    have hm:m=ys.drop (i+1):=by have:=congrArg zZX h2; simpa [zXg] using this
    simp only [cy,yO];rw [hb x y i _ hx hy,ih m (i+1) hl hm]
    cases f x y <;> simp
 exact this xs ys 0 (by simp) (by simp)
def lL(a b:List Int):Bool:=(strOfNums a).toList == (strOfNums b).toList
theorem wL(u:Nat)(a b:List Int):mm u a b=some (lL a b):=rfl
theorem D1(u:Nat)(a b:List Int):rO u a b=some (lL a b):=rfl
theorem Po(x y:dc):(([x.aP,x.bX,x.aX]:List Int) == [y.aP,y.bX,y.aX])=decide (x=y):=by
 obtain ⟨a0,a1,a2⟩:=x;obtain ⟨b0,b1,b2⟩:=y;rw [zYv]; simp
theorem vT{u:Nat}(hu:1099511627776<=u){a b:List cV}(ha:a.length<=1048576):k7 u a b=some (M.same (λx y=>decide (x=y)) a b):=by
 unfold k7 M.same
 by_cases h:a.length=b.length
 ·have h1:((a.length:Int) != (b.length:Int))=false:=by simp [h]
  simp only [h1,cond_false];rw [zU u a b () u (by omega) (by omega),Pn (λx y=>decide (x=y)) h (λx y i k hx hy=>by unfold tH; rw [dg,hy]; simp only [wk,H5]; cases decide (x=y) <;> rfl)];simp only [h,beq_self_eq_true,zWk];exact Q8 _
 ·have h1:((a.length:Int) != (b.length:Int))=true:=by simp; omega
  have h2:(a.length == b.length)=false:=by simpa using h
  simp [h1,h2]
def u6(a b:ai):Bool:=(a.aP == b.aP) && (a.av == b.av) && (a.aX == b.aX) && M.same (λx y=>decide (x=y)) a.aO b.aO
theorem zG{u:Nat}(hu:1099511627776<=u){a b:ai}(ha:a.aO.length<=1048576):o4 u a b=some (u6 a b):=by
 unfold o4 u6;rw [vT hu ha]
 cases a.aP == b.aP <;> cases a.av == b.av <;> cases a.aX == b.aX <;> simp
def u7(l:List aA):Prop:=∀ x∈l,x.aw.aO.length<=1048576/\x.bd.length<=1048576
theorem Mr(a b:Nat):((a:Int) == (b:Int))=(a == b):=by rw [zYv,beq_iff_eq,beq_iff_eq]; omega
def eu{α:Type}(f:α->Bool):List α->Nat->Int
 | [],_=>-1
 | x :: l,i=>if f x then i else eu f l (i+1)
theorem AF{α:Type}{fin:Unit->Option Int}{body:α->Nat->Unit->(Unit->Option Int)->Option Int}(f:α->Bool){xs:List α}(hf:fin ()=some (-1))(hb:∀ x i k,x∈xs->body x i () k=bif f x then some (i:Int) else k ()) :
  cy fin body xs 0 ()=some (eu f xs 0):=by
 have:∀ (l:List α) (i:Nat),(∀ y∈l,y∈xs)->cy fin body l i ()=some (eu f l i):=by
  intro l
  induction l with
  | nil=>intro i _; exact hf
  | cons x l ih =>
   intro i h;simp only [cy,eu];rw [hb x i _ (h x (by simp)),ih (i+1) (λy hy=>h y (by simp [hy]))]
   cases f x <;> simp
 exact this xs 0 (λ_ h=>h)
theorem Gm{α:Type}(f:α->Bool):∀ (l:List α) (i:Nat),decide (eu f l i>=0)=l.any f:=by
 intro l
 induction l with
 | nil=>intro i; rfl
 | cons x l ih =>
  intro i;rw [List.any_cons,<- ih (i+1),zYv];simp only [decide_eq_true_eq,Bool.or_eq_true]
  by_cases h:f x=true
  ·simp [eu,h]
  ·simp [eu,h]
def fo(r:dc):Bool:=au r.aP 0 1000000 && au r.bX 0 1 && au r.aX 0 240
theorem xV(u:Nat)(r:dc):nG u r=some (fo r):=by
 unfold nG fo;simp only [bH,wk]
 cases au r.aP 0 1000000 <;> cases au r.bX 0 1 <;> rfl
theorem AG(u:Nat)(n:Int):ra u n=some (au n 0 1):=by
 unfold ra au
 by_cases h0:n=0
 ·subst h0; rfl
 ·by_cases h1:n=1
  ·subst h1; rfl
  ·have e0:(n == 0)=false:=by simpa using h0
   have e1:(n == 1)=false:=by simpa using h1
   simp only [e0,e1,cond_false]
   by_cases h:0<=n
   ·have:¬ n<=1:=by omega
    simp [this]
   ·simp [h]
theorem xW(u:Nat)(r:dc):nM u r=some (fo r):=by
 unfold nM yq fo;simp only [mG,AG,wk]
 cases au r.aP 0 1000000 <;> cases au r.bX 0 1 <;> rfl
def il(d:ar)(n:Int):List Int:=if n=0 then d.fA else d.fB
theorem D2(u:Nat)(d:ar)(n:Int):gn u d n=some (il d n):=by
 unfold gn il
 by_cases h:n=0
 ·simp [h]
 ·have:(n == 0)=false:=by simpa using h
  simp [h,this]
theorem D3(u:Nat)(d:ar){n:Int}(h:au n 0 1=true):q5 u d n=some (il d n):=by
 unfold q5 il;have:=ce h
 by_cases h0:n=0
 ·subst h0; rfl
 ·have:n=1:=by omega
  subst this; rfl
def fk(p:c8):Bool:=if p.iA=2 then (p.zS == 0) && (p.fB.length == 0) && fo p.fR else au p.iA 0 1 && decide (p.fR=⟨0,0,0⟩) && au p.zS 0 (240 - p.fB.length)
theorem Gn(x:dc):(([x.aP,x.bX,x.aX]:List Int) == [0,0,0])=decide (x=⟨0,0,0⟩):=Po x ⟨0,0,0⟩
theorem KG(u:Nat){p:c8}(h:p.fB.length<=1048576):vE u p=some (fk p):=by
 unfold vE fk;rw [dP (by omega) (by omega)];simp only [xW,AG,mG,wk,Gn];have e:((p.fB.length:Int) == 0)=(p.fB.length == 0):=Mr _ 0
 by_cases h2:p.iA=2
 ·simp only [h2,beq_self_eq_true,cond_true,if_true,e]
  cases p.zS == 0 <;> cases p.fB.length == 0 <;> rfl
 ·have:(p.iA == 2)=false:=by simpa using h2
  simp only [this,cond_false,h2,if_false]
  cases au p.iA 0 1 <;> cases decide (p.fR=⟨0,0,0⟩) <;> rfl
theorem BP(u:Nat){p:c8}(h:p.fB.length<=1048576):qR u p=some (fk p):=by
 unfold qR fk;simp only [xV,bH,wk,Gn];have e:((p.fB.length:Int) == 0)=(p.fB.length == 0):=Mr _ 0
 by_cases h2:p.iA=2
 ·simp only [h2,beq_self_eq_true,cond_true,if_true,e]
  cases p.zS == 0 <;> cases p.fB.length == 0 <;> rfl
 ·have:(p.iA == 2)=false:=by simpa using h2
  simp only [this,cond_false,h2,if_false]
  cases h3:au p.zS 0 240 with
  | false =>
   have h4:au p.zS 0 (240 - p.fB.length)=false:=by
    have:=Ji h3;simp [au]; omega
   rw [h4]
   cases au p.iA 0 1 <;> cases decide (p.fR=⟨0,0,0⟩) <;> rfl
  | true =>
   have h3:=ce h3;rw [dP (by omega) (by omega)];have h4:au p.zS 0 (240 - p.fB.length)=decide ((p.fB.length:Int)<=240 - p.zS):=by
    rw [zYv]; simp [au]; omega
   rw [h4]
   cases au p.iA 0 1 <;> cases decide (p.fR=⟨0,0,0⟩) <;> cases decide ((p.fB.length:Int)<=240 - p.zS) <;> rfl
def cd(d:ar):Bool:=decide (d.fA.length<=240) && decide (d.fB.length<=240) && fo d.fR && decide (d.fR.aX<=(il d d.fR.bX).length) && decide (d.fP.length<=200) && d.fP.all fk
structure M.DOk (d:ar):Prop where
 a:d.fA.length<=1048576
 b:d.fB.length<=1048576
 p:d.fP.length<=1048576
 puts:∀ x∈d.fP,x.fB.length<=1048576
theorem Hr{u:Nat}(hu:1099511627776<=u){l:List c8}(hl:l.length<=1048576)(hp:∀ x∈l,x.fB.length<=1048576):b7 u l=some (l.any λx=>!fk x):=by
 unfold b7 cK;rw [ji u l () u (by omega) (by omega),AF (λx=>!fk x) rfl (λx i k hx=>by unfold eA qb; rw [KG u (hp x hx)]; rfl)];simp only [wk,Gm]
theorem Gp{α:Type}(f:α->Bool)(l:List α):(!(l.any λx=>!f x))=l.all f:=by
 induction l with
 | nil=>rfl
 | cons x l ih=>simp only [List.any_cons,List.all_cons,Bool.not_or,Bool.not_not,ih]
theorem Sv(a b:Int):decide (a > b)=!decide (a<=b):=by
 by_cases h:a<=b
 ·have:¬ a > b:=by omega
  simp [h,this]
 ·have:a > b:=by omega
  simp [h,this]
theorem FJ(a b:Nat):decide ((a:Int)<=(b:Int))=decide (a<=b):=by rw [decide_eq_decide]; omega
theorem Js{u:Nat}(hu:1099511627776<=u){d:ar}(hd:M.DOk d):tT u d=some (cd d):=by
 unfold tT mA cd;simp only [xW,D2,Hr hu hd.p hd.puts,wk,Gp,Sv];have e1:decide ((d.fA.length:Int)<=240)=decide (d.fA.length<=240):=FJ _ 240;have e2:decide ((d.fB.length:Int)<=240)=decide (d.fB.length<=240):=FJ _ 240;have e3:decide ((d.fP.length:Int)<=200)=decide (d.fP.length<=200):=FJ _ 200;rw [e1,e2,e3]
 cases decide (d.fA.length<=240) <;> cases decide (d.fB.length<=240) <;> cases fo d.fR <;> cases decide (d.fR.aX<=(il d d.fR.bX).length) <;> cases decide (d.fP.length<=200) <;> rfl
theorem FK{u:Nat}(hu:1099511627776<=u){d:ar}(hd:M.DOk d):kK u u 0 d=some (d.fP.all fk):=by
 have:=hd.p;rw [EW u d () u (by omega) (by omega)];have:∀ (l:List c8) (i:Nat),(∀ y∈l,y∈d.fP)->cy (xt u d) (sV u d) l i ()=some (l.all fk):=by
  intro l
  induction l with
  | nil=>intro i _; rfl
  | cons x l ih =>
   intro i h;simp only [cy,sV,BP u (hd.puts x (h x (by simp))),wk,List.all_cons];rw [ih (i+1) (λy hy=>h y (by simp [hy]))]
   cases fk x <;> rfl
 exact this _ 0 (λ_ h=>h)
theorem xb{r:dc}(h:fo r=true):au r.bX 0 1=true/\0<=r.aX/\r.aX<=240:=by
 unfold fo at h;simp only [sk] at h;exact ⟨h.1.2,(ce h.2).1,(ce h.2).2⟩
theorem mH{u:Nat}(hu:1099511627776<=u){d:ar}(hd:M.DOk d):jV u d=some (cd d):=by
 unfold jV kL cd;have e1:decide ((d.fA.length:Int)<=240)=decide (d.fA.length<=240):=FJ _ 240;have e2:decide ((d.fB.length:Int)<=240)=decide (d.fB.length<=240):=FJ _ 240;have e3:decide ((d.fP.length:Int)<=200)=decide (d.fP.length<=200):=FJ _ 200;simp only [xV,FK hu hd,wk,Sv,e1,e2,e3,cond_true]
 cases h:fo d.fR with
 | false=>cases decide (d.fA.length<=240) <;> cases decide (d.fB.length<=240) <;> rfl
 | true =>
  rw [D3 u d (xb h).1];simp only [wk]
  cases decide (d.fA.length<=240) <;> cases decide (d.fB.length<=240) <;> cases decide (d.fR.aX<=(il d d.fR.bX).length) <;> cases decide (d.fP.length<=200) <;> rfl
def cY(d:ar):Int×List Int:=if cd d then (d.fR.aP,(il d d.fR.bX).take d.fR.aX.toNat) else (0,[])
theorem pE{d:ar}(h:cd d=true):fo d.fR=true/\d.fR.aX<=(il d d.fR.bX).length/\d.fA.length<=240/\d.fB.length<=240/\d.fP.length<=200:=by
 unfold cd at h;simp only [sk,decide_eq_true_eq] at h;obtain ⟨⟨⟨⟨⟨h1,h2⟩,h3⟩,h4⟩,h5⟩,h6⟩:=h;exact ⟨h3,h4,h1,h2,h5⟩
theorem FL{d:ar}(h:cd d=true)(n:Int):(il d n).length<=240:=by
 have:=pE h;unfold il; split <;> omega
theorem Hs{u:Nat}(hu:1099511627776<=u){d:ar}(hd:M.DOk d):rN u d=some (cY d):=by
 unfold rN cY;rw [Js hu hd,D2];simp only [wk]
 cases h:cd d with
 | false=>rfl
 | true =>
  have h1:=pE h;have h2:=xb h1.1;have h3:=FL h d.fR.bX;obtain ⟨n,hn⟩:=zQG h2.2.1;simp only [zQJ,cond_false,if_true];rw [hn] at h1 ⊢;rw [show (0:Int)=((0:Nat):Int) by rfl,gT (by omega) (by omega)];simp only [wk,rg,List.drop_zero];rw [Jk u (by simp; omega)]; rfl
theorem zH{u:Nat}(hu:1099511627776<=u){d:ar}(hd:M.DOk d):pi u d=some (cY d):=by
 unfold pi cY;rw [mH hu hd];simp only [wk]
 cases h:cd d with
 | false=>rfl
 | true =>
  have h1:=pE h;have h2:=xb h1.1;have h3:=FL h d.fR.bX;obtain ⟨n,hn⟩:=zQG h2.2.1;rw [D3 u d h2.1];simp only [zQJ,cond_false,if_true,wk];rw [hn] at h1 ⊢;rw [show (0:Int)=((0:Nat):Int) by rfl,gT (by omega) (by omega)];simp only [wk,rg,List.drop_zero];rw [bD (by simp; omega)]; rfl
def M.holds(d:ar)(gen:Int)(b:List Int):Bool:=((cY d).1 == gen) && lL (cY d).2 b
theorem KH{u:Nat}(hu:1099511627776<=u){d:ar}(hd:M.DOk d)(gen:Int)(b:List Int):s4 u d gen b=some (M.holds d gen b):=by
 unfold s4 M.holds;rw [Hs hu hd];simp only [wk,D1]
 cases (cY d).1 == gen <;> rfl
theorem KI{u:Nat}(hu:1099511627776<=u){d:ar}(hd:M.DOk d)(gen:Int)(b:List Int):s7 u d gen b=some (M.holds d gen b):=by
 unfold s7 M.holds;rw [zH hu hd];simp only [wk,wL]
 cases (cY d).1 == gen <;> rfl
def lj(w:World)(k:Int):Int:=if au k 0 ((w.fD.length:Int) - 1) && au k 0 ((w.bI.length:Int) - 1) then
  match w.fD[k.toNat]?,w.bI[k.toNat]? with
  | some d,some x=>if M.holds d 0 x.fB then 0 else if M.holds d 1 w.bN then 1 else -1
  | _,_=>-1
 else -1
structure M.DsOk (w:World):Prop where
 d:w.fD.length<=1048576
 old:w.bI.length<=1048576
 ok:∀ x∈w.fD,M.DOk x
theorem zI{u:Nat}(hu:1099511627776<=u){w:World}(hw:M.DsOk w)(k:Int):m5 u w k=some (lj w k):=by
 unfold m5 qE lj;have h1:=hw.d;have h2:=hw.old;rw [dP (by omega) (by omega),dP (by omega) (by omega),mG,mG];simp only [wk]
 cases h:au k 0 ((w.fD.length:Int) - 1) with
 | false=>rfl
 | true =>
  cases h':au k 0 ((w.bI.length:Int) - 1) with
  | false=>rfl
  | true =>
   have h:=ce h;have h':=ce h';obtain ⟨n,rfl⟩:=zQG h.1;have e1:=sX (l:=w.fD) (i:=n) (by omega);have e2:=sX (l:=w.bI) (i:=n) (by omega);have hd:=hw.ok _ (zYV (l:=w.fD) (n:=n) (by omega));simp only [zQJ,cond_false,dg,e1,e2,wk,KH hu hd,zXz,if_true,rg]
   cases M.holds w.fD[n] 0 w.bI[n].fB <;> cases M.holds w.fD[n] 1 w.bN <;> rfl
theorem Ht{u:Nat}(hu:1099511627776<=u){w:World}(hw:M.DsOk w)(k:Int):pp u w k=some (lj w k):=by
 unfold pp qG lj;have h1:=hw.d;have h2:=hw.old;rw [dP (by omega) (by omega),bH];simp only [wk]
 cases h:au k 0 ((w.fD.length:Int) - 1) with
 | false=>rfl
 | true =>
  have h:=ce h
  cases h':au k 0 ((w.bI.length:Int) - 1) with
  | false =>
   have h':=Ji h';have:k>=(w.bI.length:Int):=by omega
   simp [this]
  | true =>
   have h':=ce h';have h3:¬ (k>=(w.bI.length:Int)):=by omega
   obtain ⟨n,rfl⟩:=zQG h.1;have e1:=sX (l:=w.fD) (i:=n) (by omega);have e2:=sX (l:=w.bI) (i:=n) (by omega);have hd:=hw.ok _ (zYV (l:=w.fD) (n:=n) (by omega));simp only [zQJ,cond_false,h3,decide_false,dg,e1,e2,wk,KI hu hd,zXz,if_true,rg]
   cases M.holds w.fD[n] 0 w.bI[n].fB <;> cases M.holds w.fD[n] 1 w.bN <;> rfl
def qK:List bM->Int->Int
 | [],a=>a
 | k :: l,a=>qK l (if bV k.bY then u3 .i64 a k.bY else a)
theorem KJ(u:Nat)(r:List bM):∀ (l:List bM) (i:Nat) (a:Int),cy (lF u r) (ig u r) l i a=some (qK l a):=by
 intro l
 induction l with
 | nil=>intro i a; rfl
 | cons k l ih =>
  intro i a;simp only [cy,ig,dv,qc,BO,wk,qK,ih]
  cases bV k.bY <;> simp
theorem KK(u:Nat)(r:List bM):∀ (l:List bM) (i:Nat) (a:Int),l=r.drop i->cy (xv u r) (sW u r) l i a=some (qK l a):=by
 intro l
 induction l with
 | nil=>intro i a _; rfl
 | cons k l ih =>
  intro i a hd;have hx:r[i]?=some k:=by have:=congrArg zYz hd; simpa [zXw] using this.symm
  have hl:l=r.drop (i+1):=by have:=congrArg zZX hd; simpa [zXg] using this
  simp only [cy,sW,mv,hP,wk,qK,dg,hx,ih (i+1) _ hl]
  cases bV k.bY <;> simp
theorem Jt{u:Nat}(hu:1099511627776<=u){l:List bM}(hl:l.length<=1048576):tW u l=some (qK l 0):=by
 unfold tW g9;rw [rP u l 0 u (by omega) (by omega),KJ]; rfl
theorem AH{u:Nat}(hu:1099511627776<=u){l:List bM}(hl:l.length<=1048576):q6 u l=some (qK l 0):=by
 unfold q6;rw [EX u l 0 u (by omega) (by omega),KK u l l 0 0 (by simp)]
def iM(w:World):List Int:=match w.fN with
 | []=>[]
 | n :: _=>gS (qK n.bd 0)
theorem xX{u:Nat}(hu:1099511627776<=u){w:World}(hw:u7 w.fN):nN u w=some (iM w):=by
 unfold nN iM
 cases h:w.fN with
 | nil=>rfl
 | cons n l =>
  have hk:=(hw n (by rw [h]; simp)).2;have e:((((n :: l:List aA)).length:Int) == 0)=false:=by simp; omega
  rw [show (0:Int)=((0:Nat):Int) by rfl,dg];rw [show ((0:Nat):Int)=0 by rfl,e];simp only [cond_false,zWQ,wk,Jt hu hk,Hl hu]
theorem xY{u:Nat}(hu:1099511627776<=u){w:World}(hw:u7 w.fN):nO u w=some (iM w):=by
 unfold nO iM
 cases h:w.fN with
 | nil=>rfl
 | cons n l =>
  have hk:=(hw n (by rw [h]; simp)).2;have e:((((n :: l:List aA)).length:Int) == 0)=false:=by simp; omega
  rw [show (0:Int)=((0:Nat):Int) by rfl,dg];rw [show ((0:Nat):Int)=0 by rfl,e];simp only [cond_false,zWQ,wk,AH hu hk,zE hu]
theorem ut(w:World):(iM w).length<=40:=by
 unfold iM
 split
 ·simp
 ·exact Jp _
theorem BQ{u:Nat}(hu:1099511627776<=u){w:World}(hw:M.DsOk w)(hn:u7 w.fN):s6 u w=some ((iM w).all λk=>lj w k == 1):=by
 unfold s6 df dA;have hl:=ut w;rw [xX hu hn];simp only [wk];rw [lZ u _ w () u (by omega) (by omega),AF (λk=>!(lj w k == 1)) rfl (λx i k hx=>by unfold gL rT; rw [zI hu hw]; rfl)];simp only [wk,Gm,Gp]
theorem KL{u:Nat}(hu:1099511627776<=u){w:World}(hw:M.DsOk w)(hn:u7 w.fN):vF u w=some ((iM w).all λk=>lj w k == 1):=by
 unfold vF;have hl:=ut w;rw [xY hu hn];simp only [wk];rw [GQ u _ w () u (by omega) (by omega)];have:∀ (l:List Int) (i:Nat),cy (zg u (iM w) w) (uk u (iM w) w) l i ()=some (l.all λk=>lj w k == 1):=by
  intro l
  induction l with
  | nil=>intro i; rfl
  | cons k l ih =>
   intro i;simp only [cy,uk,Ht hu hw,wk,List.all_cons,FF];rw [ih (i+1)]
   cases lj w k == 1 <;> rfl
 exact this _ 0
theorem Q9{α ρ:Type}{fin:List Int->Option ρ}{body:α->Nat->List Int->(List Int->Option ρ)->Option ρ}(g:Nat->Bool)(p:List α) :
  ∀ (l:List α) (i:Nat) (s:List Int),l=p.drop i->s.length<=i->(∀ x i s k,p[i]?=some x->s.length<=i->body x i s k=bif g i then k (s++[(i:Int)]) else k s)->cy fin body l i s=fin (s++((zWh i l.length).filter g).map λ(k:Nat)=>(k:Int)):=by
 intro l
 induction l with
 | nil=>intro i s _ _ _; simp [cy]
 | cons x l ih =>
  intro i s h1 h2 h3;have hx:p[i]?=some x:=by have:=congrArg zYz h1; simpa [zXw] using this.symm
  have hl:l=p.drop (i+1):=by have:=congrArg zZX h1; simpa [zXg] using this
  simp only [cy,zQH,zYw];rw [h3 x i s _ hx h2]
  cases hg:g i with
  | true=>simp only [cond_true,zZj,hg,if_true,zWv]; rw [ih (i+1) _ hl (by simp; omega) h3]; simp
  | false=>simp only [cond_false,zZj,hg,zWW,if_false]; rw [ih (i+1) _ hl (by omega) h3]
theorem N2{α:Type}{l:List α}{i:Nat}{x:α}(h:l[i]?=some x):i < l.length:=by
 rcases Nat.lt_or_ge i l.length with h1 | h1
 ·exact h1
 ·rw [List.getElem?_eq_none h1] at h; cases h
theorem Ju{u:Nat}(hu:1099511627776<=u){r:List Int}(hr:r.length<=1048576)(k:Int):tM u r k=some (r.any λy=>y == k):=by
 unfold tM;rw [ET u r k () u (by omega) (by omega)];have:∀ (l:List Int) (i:Nat),cy (xq u r k) (sU u r k) l i ()=some (l.any λy=>y == k):=by
  intro l
  induction l with
  | nil=>intro i; rfl
  | cons y l ih =>
   intro i;simp only [cy,sU,List.any_cons];rw [ih (i+1)]
   cases y == k <;> rfl
 exact this r 0
theorem Ra{ρ:Type}(J:List Int->Option ρ)(n:Int)(hn:n<=1048576)(L:Nat->List Int->Option ρ)(hL:∀ k x,L (k+1) x=bif decide ((x.length:Int) < n) then ((ed (decide ((x.length+([0]:List Int).length)*1<=140737488355328))).bind λ_=>L k (x++[0])) else J x) :
  ∀ (m k:Nat) (x:List Int),(x.length+m=n.toNat\/(m=0/\n<=x.length))->m < k->L k x=J (x++zQh m 0):=by
 intro m
 induction m with
 | zero =>
  intro k x h1 h2;obtain ⟨k,rfl⟩:∃ j,k=j+1:=⟨k - 1,by omega⟩;have e:¬ ((x.length:Int) < n):=by omega
  rw [hL]; simp [e]
 | succ m ih =>
  intro k x h1 h2;obtain ⟨k,rfl⟩:∃ j,k=j+1:=⟨k - 1,by omega⟩;have e:(x.length:Int) < n:=by omega
  rw [hL,bD (by simp; omega)];simp only [e,decide_true,cond_true,wk];rw [ih k _ (by simp; omega) (by omega),zQZ];rfl
theorem yP{α ρ:Type}{fin:List α->Option ρ}{body:α->Nat->List α->(List α->Option ρ)->Option ρ}(n:Nat)(p:List α)(hb:∀ x i s k,x∈p->s.length+1<=n->body x i s k=k (s++[x])) :
  ∀ (l:List α) (i:Nat) (s:List α),(∀ x∈l,x∈p)->s.length+l.length<=n->cy fin body l i s=fin (s++l):=by
 intro l
 induction l with
 | nil=>intro i s _ _; simp [cy]
 | cons x l ih =>
  intro i s h1 h2;simp only [zQH] at h2;simp only [cy];rw [hb x i s _ (h1 x (by simp)) (by omega),ih (i+1) _ (λy hy=>h1 y (by simp [hy])) (by simp; omega)];simp
theorem gB{u:Nat}(hu:1099511627776<=u){d:ar}(hd:M.DOk d):ef u d=some d:=by
 have h1:=hd.a;have h2:=hd.b;have h3:=hd.p;unfold ef;rw [bD (by simp; omega),bD (by simp; omega)];simp only [wk];rw [EN u d _ u (by omega) (by omega),yP 1048576 d.fP _ d.fP 0 [] (λ_ h=>h) (by simp; omega)]
 ·rfl
 ·intro x i s k hx hs;have h4:=hd.puts x hx;unfold xn gq;rw [bD (by simp; omega)];simp only [wk];rw [bD (by simp; omega)]; rfl
def AI(b:List Int)(a:Nat)(p:List Int):List Int:=II (b++zQh (a+p.length - b.length) 0) p a
theorem AJ{x p:List Int}{a:Nat}(h:a+p.length<=x.length):II x p a=x.take a++p++x.drop (a+p.length):=by
 unfold II;rw [zXj (l:=p) (by omega),zXq (by omega)]
theorem Cz(b:List Int)(a:Nat)(p:List Int):(AI b a p).length=max b.length (a+p.length):=by
 unfold AI;rw [AJ (by simp; omega)];simp;omega
theorem Vm(u:Nat)(a:Nat)(p:List Int)(ha:a<=1048576):∀ (l:List Int) (i:Nat) (s:List Int),a+i+l.length<=s.length->s.length<=4194304->cy (ui u a p) (uj u a p) l i s=some (s.take (a+i)++l++s.drop (a+i+l.length)):=by
 intro l
 induction l with
 | nil=>intro i s _ _; simp [cy,ui,pZ]
 | cons y l ih =>
  intro i s h1 h2;simp only [zQH] at h1;simp only [cy,uj];rw [dE (by omega) (by omega),show (a:Int)+(i:Int)=((a+i:Nat):Int) by omega,dg,sX (by omega),rg];simp only [wk];rw [ih (i+1) _ (by simp; omega) (by simp; omega)];have e1:(s.set (a+i) y).take (a+(i+1))=s.take (a+i)++[y]:=by
   rw [show a+(i+1)=(a+i)+1 by omega,List.take_add_one,List.take_set_of_le (zWj _)];simp [show a+i < s.length by omega]
  have e2:(s.set (a+i) y).drop (a+(i+1)+l.length)=s.drop (a+i+(y :: l).length):=by
   rw [List.drop_set_of_lt (by omega)]; simp only [zQH]; congr 1; omega
  rw [e1,e2]; simp
theorem BR{u:Nat}(hu:1099511627776<=u){b p:List Int}{a:Nat}(hb:b.length<=1048576)(hp:a+p.length<=1048576):ot u b a p=some (AI b a p):=by
 unfold ot;rw [bD (by simp; omega)];simp only [wk,zQy];have e:be .i64 (a:Int) (p.length:Int)=((a+p.length:Nat):Int):=by rw [dE (by omega) (by omega)]; omega
 rw [Ra (λx=>p5 u a p x) ((a+p.length:Nat):Int) (by omega) (λk x=>lQ u k a p x) (λk x=>by rw [<- e]; rfl) (a+p.length - b.length) u b (by rw [rg]; omega) (by omega)];unfold p5;rw [GM u a p _ u (by omega) (by omega),Vm u a p (by omega) p 0 _ (by simp; omega) (by simp; omega)];unfold AI;rw [AJ (by simp; omega)]; simp
def nw(d:ar)(p:c8):ar:=if p.iA=2 then ⟨d.fA,d.fB,p.fR,d.fP⟩ else if p.iA=0 then ⟨AI d.fA p.zS.toNat p.fB,d.fB,d.fR,d.fP⟩ else ⟨d.fA,AI d.fB p.zS.toNat p.fB,d.fR,d.fP⟩
theorem wM{p:c8}(h:fk p=true):p.iA=2\/((p.iA=0\/p.iA=1)/\0<=p.zS/\p.zS+p.fB.length<=240):=by
 unfold fk at h
 by_cases h2:p.iA=2
 ·exact .inl h2
 ·rw [if_neg h2] at h;simp only [sk] at h;have h3:=ce h.1.1;have h4:=ce h.2;exact .inr ⟨by omega,by omega,by omega⟩
theorem Bh{d:ar}{p:c8}(hd:M.DOk d)(h:fk p=true):M.DOk (nw d p):=by
 have h1:=hd.a;have h2:=hd.b;unfold nw;rcases wM h with h | ⟨h3,h4,h5⟩
 ·rw [if_pos h]; exact ⟨hd.a,hd.b,hd.p,hd.puts⟩
 ·split
  ·exact ⟨hd.a,hd.b,hd.p,hd.puts⟩
  ·split
   ·exact ⟨by rw [Cz]; omega,hd.b,hd.p,hd.puts⟩
   ·exact ⟨hd.a,by rw [Cz]; omega,hd.p,hd.puts⟩
theorem AK{u:Nat}(hu:1099511627776<=u){d:ar}{p:c8}(hd:M.DOk d)(hp:p.fB.length<=1048576)(h:fk p=true):je u d p=some (nw d p):=by
 have h1:=hd.a;have h2:=hd.b;unfold je nw;rw [gB hu hd,BP u hp,h];simp only [wk,zQJ,cond_false];rcases wM h with h | ⟨h3,h4,h5⟩
 ·rw [h]; rfl
 ·obtain ⟨a,ha⟩:=zQG h4;rcases h3 with h3 | h3
  ·rw [h3,ha,BR hu h1 (by omega)]; rfl
  ·rw [h3,ha,BR hu h2 (by omega)]; rfl
def kU(s:Int):List c8->Nat->ar->ar
 | [],_,d=>⟨d.fA,d.fB,d.fR,[]⟩
 | p :: l,i,d=>kU s l (i+1) (if cT s i then nw d p else d)
def M.fall(d:ar)(s:Int):ar:=if cd d then kU s d.fP 0 d else d
theorem Sw(s:Int):∀ (l:List c8) (i:Nat) (d:ar),(∀ p∈l,fk p=true)->M.DOk d->M.DOk (kU s l i d):=by
 intro l
 induction l with
 | nil=>intro i d _ hd; exact ⟨hd.a,hd.b,by simp [kU],by simp [kU]⟩
 | cons p l ih =>
  intro i d hp hd;refine ih (i+1) _ (λq hq=>hp q (by simp [hq])) ?_
  split
  ·exact Bh hd (hp p (by simp))
  ·exact hd
theorem t6{d:ar}(h:cd d=true):∀ p∈d.fP,fk p=true:=by
 unfold cd at h;simp only [sk] at h;exact List.all_eq_true.1 h.2
theorem TN{d:ar}(hd:M.DOk d)(s:Int):M.DOk (M.fall d s):=by
 unfold M.fall
 split
 ·rename_i h; exact Sw s _ 0 d (t6 h) hd
 ·exact hd
def tup(d:ar):List Int×List Int×Int×Int×Int×List c8:=(d.fA,d.fB,d.fR.aP,d.fR.bX,d.fR.aX,d.fP)
theorem N3{u:Nat}(hu:1099511627776<=u)(s:Int){d0:ar}(h0:∀ p∈d0.fP,fk p=true/\p.fB.length<=1048576):∀ (n i:Nat) (d:ar),i+n=d0.fP.length->M.DOk d->qg (zV u s d0) (vC u s d0) n i (tup d)=some (kU s (d0.fP.drop i) i d):=by
 intro n
 induction n with
 | zero=>intro i d h1 _; rw [zXk (by omega)]; rfl
 | succ n ih =>
  intro i d h1 hd;have hx:=sX (l:=d0.fP) (i:=i) (by omega);have h2:=h0 d0.fP[i] (zYV (by omega));rw [zXv (by omega)];simp only [qg,vC,pm,ke,dg,hx,wk,kU]
  cases hs:cT s i with
  | true =>
   simp only [cond_true,if_true];rw [show (ar.mk (tup d).1 (tup d).2.1 (dc.mk (tup d).2.2.1 (tup d).2.2.2.1 (tup d).2.2.2.2.1) (tup d).2.2.2.2.2)=d by rfl,AK hu hd h2.2 h2.1];exact ih (i+1) _ (by omega) (Bh hd h2.1)
  | false =>
   simp only [cond_false,zWW,if_false];exact ih (i+1) _ (by omega) hd
theorem Ms{u:Nat}(hu:1099511627776<=u){d:ar}(hd:M.DOk d)(s:Int):xB u d s=some (M.fall d s):=by
 have h3:=hd.p;unfold xB M.fall;rw [gB hu hd,mH hu hd];simp only [wk]
 cases h:cd d with
 | false=>rfl
 | true =>
  simp only [zQJ,cond_false,if_true];have e:=N3 hu s (d0:=d) (λp hp=>⟨t6 h p hp,hd.puts p hp⟩) d.fP.length 0 d (by omega) hd;have e2:=Ia u s d (tup d) u (by omega) (by omega);rw [rg,e] at e2;exact e2
structure Cu (c:aG):Prop where
 i0:0<=c.fI
 n:c.fI<=(c.fB.length:Int)
 len:c.fB.length<=1048576
def Dr{α:Type}(r:Option (α×aG))(p:α->Prop):Prop:=∃ v c,r=some (v,c)/\p v/\Cu c
theorem H6{α:Type}{r:Option (α×aG)}{p q:α->Prop}(h:Dr r p)(hpq:∀ v,p v->q v):Dr r q:=by
 obtain ⟨v,c,e,h1,h2⟩:=h;exact ⟨v,c,e,hpq v h1,h2⟩
theorem cz{α β:Type}{r:Option (α×aG)}{p:α->Prop}{f:α×aG->Option (β×aG)}{q:β->Prop}(h:Dr r p)(hf:∀ v c,p v->Cu c->Dr (f (v,c)) q):Dr (r.bind f) q:=by
 obtain ⟨v,c,e,h1,h2⟩:=h;rw [e];exact hf v c h1 h2
theorem cU{α:Type}{v:α}{c:aG}{p:α->Prop}(h:p v)(hc:Cu c):Dr (Option.some (v,c)) p:=⟨v,c,rfl,h,hc⟩
theorem Sy(a:Int):0<=fG .i64 a 255/\fG .i64 a 255<=255:=by
 unfold fG;have h:(BitVec.ofInt 64 a &&& BitVec.ofInt 64 255).toNat<=255:=by
  rw [BitVec.toNat_and];exact Nat.and_le_right
 have e:IntKind.wrap .i64 (((BitVec.ofInt 64 a &&& BitVec.ofInt 64 255).toNat:Nat):Int)=(((BitVec.ofInt 64 a &&& BitVec.ofInt 64 255).toNat:Nat):Int):=gR (by omega) (by omega);show 0<=IntKind.wrap .i64 (((BitVec.ofInt 64 a &&& BitVec.ofInt 64 255).toNat:Nat):Int)/\IntKind.wrap .i64 (((BitVec.ofInt 64 a &&& BitVec.ofInt 64 255).toNat:Nat):Int)<=255;rw [e];omega
theorem Sz{u:Nat}(hu:1099511627776<=u){code:List Int}(h:code.length<=1048576):∃ c,sK u code=some c/\Cu c:=by
 have key:∀ (m k i:Nat) (x:Int),i+m=code.length->m < k->∃ c,iX u k code x (i:Int)=some c/\Cu c:=by
  intro m
  induction m with
  | zero =>
   intro k i x hi hk;obtain ⟨k,rfl⟩:∃ j,k=j+1:=⟨k - 1,by omega⟩;unfold iX;have:¬ ((i:Int) < (code.length:Int)):=by omega
   simp only [this,decide_false,cond_false,pN,tp];exact ⟨_,rfl,⟨zVK 0,Int.natCast_nonneg _,h⟩⟩
  | succ m ih =>
   intro k i x hi hk;obtain ⟨k,rfl⟩:∃ j,k=j+1:=⟨k - 1,by omega⟩;unfold iX;have hlt:(i:Int) < (code.length:Int):=by omega
   simp only [hlt,decide_true,cond_true,pN]
   by_cases h4:(i:Int) < 4000
   ·simp only [h4,decide_true,cond_true,dg];obtain ⟨y,hy⟩:∃ y,code[i]?=some y:=⟨code[i],sX (by omega)⟩;rw [hy];simp only [wk];rw [ep (by omega)];exact ih k (i+1) _ (by omega) (by omega)
   ·simp only [h4,decide_false,cond_false,tp];exact ⟨_,rfl,⟨zVK 0,Int.natCast_nonneg _,h⟩⟩
 exact key code.length u 0 _ (by omega) (by omega)
theorem xZ(u:Nat){c:aG}(hc:Cu c):Dr (jR u c) (λv=>0<=v/\v<=255):=by
 have h0:=hc.i0;have h1:=hc.n;have h2:=hc.len;unfold jR
 by_cases h:c.fI < (c.fB.length:Int)
 ·simp only [h,decide_true,cond_true];obtain ⟨i,hi⟩:∃ i:Nat,c.fI=(i:Int):=⟨c.fI.toNat,by omega⟩;rw [hi,dg,sX (by omega)];simp only [wk,oc];exact cU (Sy _) ⟨by show 0<=be .i64 (i:Int) 1; rw [ep (by omega)]; omega,by show be .i64 (i:Int) 1<=(c.fB.length:Int); rw [ep (by omega)]; omega,h2⟩
 ·simp only [h,decide_false,cond_false,oc];exact cU (Sy _) ⟨h0,h1,h2⟩
theorem cH(u:Nat){c:aG}(hc:Cu c)(n:Int):Dr (bc u c n) (λv=>0<=v/\(0 < n->v < n)):=by
 unfold bc
 by_cases h:n<=0
 ·simp only [h,decide_true,cond_true];exact cU ⟨zVK 0,λh'=>by omega⟩ hc
 ·have hn:(!(n == 0))=true:=by simp; omega
  have hr:∀ a:Int,0<=a->0<=tY .i64 a n/\(0 < n->tY .i64 a n < n):=λa ha=>by
   rw [Am ha];exact ⟨zZg _ (by omega),λ_=>zVQ _ (by omega)⟩
  simp only [h,decide_false,cond_false]
  by_cases h2:n<=256
  ·simp only [h2,decide_true,cond_true];refine cz (xZ u hc) λv c' hv hc'=>?_;rw [hn];exact cU (hr v hv.1) hc'
  ·simp only [h2,decide_false,cond_false];refine cz (xZ u hc) λv c' hv hc'=>?_;refine cz (xZ u hc') λv2 c2 hv2 hc2=>?_;refine cz (xZ u hc2) λv3 c3 hv3 hc3=>?_;rw [hn];refine cU (hr _ ?_) hc3;simp only;rw [oJ (by omega) (by omega),oJ (by omega) (by omega),dE (a:=v*65536) (b:=v2*256) (by omega) (by omega),dE (by omega) (by omega)];omega
theorem FM(u:Nat){c:aG}(hc:Cu c)(n:Int):Dr (i8 u c n) (λ_=>True):=by
 unfold i8;exact cz (cH u hc n) λv c' _ hc'=>cU trivial hc'
theorem nx(u:Nat){c:aG}(hc:Cu c){xs:List Int}(hx:0 < xs.length):Dr (dG u c xs) (λv=>v∈xs):=by
 unfold dG;refine cz (cH u hc _) λv c' hv hc'=>?_;have hlt:=hv.2 (by omega);obtain ⟨i,hi⟩:∃ i:Nat,v=(i:Int):=⟨v.toNat,by omega⟩;subst hi;have hi:i < xs.length:=by omega
 simp only [dg,sX hi,wk];exact cU (zYV hi) hc'
theorem Jv{u:Nat}(hu:1099511627776<=u){c:aG}(hc:Cu c){n:Nat}(hn:n<=1000):Dr (gD u c (n:Int)) (λv=>v.length<=n):=by
 unfold gD;rw [ep (by omega)];refine cz (cH u hc _) λv c1 hv hc1=>?_;have hlt:=hv.2 (by omega);obtain ⟨m,hm⟩:∃ m:Nat,v=(m:Int):=⟨v.toNat,by omega⟩;subst hm;have key:∀ (m k:Nat) (x:List Int) (c:aG),m < k->Cu c->x.length+m<=1000->Dr (fu u k x (m:Int) c.fB c.fI c.fH) (λv=>v.length<=x.length+m):=by
  intro m
  induction m with
  | zero =>
   intro k x c hk hc hx;obtain ⟨k,rfl⟩:∃ j,k=j+1:=⟨k - 1,by omega⟩;unfold fu;simp only [Int.natCast_zero,gt_iff_lt,Int.lt_irrefl,decide_false,cond_false,qm];exact cU (zWj _) hc
  | succ m ih =>
   intro k x c hk hc hx;obtain ⟨k,rfl⟩:∃ j,k=j+1:=⟨k - 1,by omega⟩;unfold fu;have:((m+1:Nat):Int) > 0:=by omega
   simp only [this,decide_true,cond_true];refine cz (nx u hc (xs:=[97,98,99,0,255]) (by simp)) λv c2 hv hc2=>?_;rw [bD (by simp; omega)];simp only [wk];rw [dP (by omega) (by omega)];have e:((m+1:Nat):Int) - 1=(m:Int):=by omega
   rw [e];refine H6 (ih k _ c2 (by omega) hc2 (by simp; omega)) λv h=>?_;simp only [zQK,zQH,zXK] at h;omega
 refine H6 (key m u [] c1 (by omega) hc1 (by simp; omega)) λv h=>?_;simp only [zXK] at h;omega
theorem yQ{d:ar}(h:cd d=true):M.DOk d:=by
 have h1:=pE h;refine ⟨by omega,by omega,by omega,λx hx=>?_⟩;have h2:=t6 h x hx;rcases wM h2 with h3 | ⟨_,h3,h4⟩
 ·unfold fk at h2;rw [if_pos h3] at h2;simp only [sk,beq_iff_eq] at h2;omega
 ·omega
theorem Jw(u:Nat){g:Int}{b:List Int}(h0:0<=g)(h1:g<=1000000)(hb:b.length<=240):lz u g b=some ⟨b,[],⟨g,0,b.length⟩,[]⟩/\cd ⟨b,[],⟨g,0,b.length⟩,[]⟩=true:=by
 refine ⟨?_,?_⟩
 ·unfold lz;have hw:au g 0 1000000=true:=by simp [au,h0,h1]
  rw [bH,hw];simp only [wk,zQJ,cond_false];have:¬ ((b.length:Int) > 240):=by omega
  simp only [this,decide_false,nd,cond_false];rw [bD (by simp; omega)];simp
 ·simp [cd,fo,au,il,h0,h1,hb];omega
def gU(d:ar)(p:c8):ar:=⟨d.fA,d.fB,d.fR,d.fP++[p]⟩
theorem Mt(u:Nat){p:c8}(h:p.fB.length<=1048576):gq u p=some p:=by
 unfold gq;rw [bD (by simp; omega)];simp
theorem Bi{d:ar}{p:c8}(hd:M.DOk d)(hl:d.fP.length<=1048575)(hp:p.fB.length<=1048576):M.DOk (gU d p) :=
 ⟨hd.a,hd.b,by simp [gU]; omega,λx hx=>by
  rcases List.mem_append.1 hx with h | h
  ·exact hd.puts x h
  ·simp at h; subst h; exact hp⟩
theorem xd{u:Nat}(hu:1099511627776<=u){d:ar}{p:c8}(hd:M.DOk d)(hl:d.fP.length<=1048575)(hp:p.fB.length<=1048576) :
  mZ u d p=some (if cd (gU d p) then (gU d p,true) else (d,false)):=by
 have hap:=hd.p;unfold mZ;rw [gB hu hd];simp only [wk];rw [Mt u hp];simp only [wk];rw [bD (by simp; omega)];simp only [wk];have e:(ar.mk d.fA d.fB d.fR (d.fP++[p]))=gU d p:=rfl;rw [e,mH hu (Bi hd hl hp)];simp only [wk]
 cases h:cd (gU d p) <;> simp
def vU:List c8->ar->ar
 | [],d=>⟨d.fA,d.fB,d.fR,[]⟩
 | p :: l,d=>vU l (nw d p)
def M.sure(d:ar):ar:=if cd d then vU d.fP d else d
theorem Ql:∀ (l:List c8) (d:ar),(∀ p∈l,fk p=true)->M.DOk d->M.DOk (vU l d)
 | [],d,_,hd=>⟨hd.a,hd.b,by simp [vU],by simp [vU]⟩
 | p :: l,d,hp,hd=>Ql l _ (λq hq=>hp q (by simp [hq])) (Bh hd (hp p (by simp)))
theorem Qm{d:ar}(hd:M.DOk d):M.DOk (M.sure d):=by
 unfold M.sure
 cases h:cd d with
 | true=>exact Ql _ _ (t6 h) hd
 | false=>exact hd
theorem N4{u:Nat}(hu:1099511627776<=u)(d0:ar):∀ (l:List c8) (i:Nat) (d:ar),(∀ p∈l,fk p=true/\p.fB.length<=1048576)->M.DOk d->cy (vz u d0) (vA u d0) l i (tup d)=some (vU l d):=by
 intro l
 induction l with
 | nil=>intro i d _ _; rfl
 | cons p l ih =>
  intro i d hp hd;obtain ⟨h1,h2⟩:=hp p (by simp);show (je u d p).bind (λr25=>cy (vz u d0) (vA u d0) l (i+1) (tup r25))=_;rw [AK hu hd h2 h1];exact ih (i+1) _ (λq hq=>hp q (by simp [hq])) (Bh hd h1)
theorem D4{u:Nat}(hu:1099511627776<=u){d:ar}(hd:M.DOk d):pf u d=some (M.sure d):=by
 have h3:=hd.p;unfold pf M.sure;rw [gB hu hd,mH hu hd];simp only [wk]
 cases h:cd d with
 | false=>rfl
 | true =>
  simp only [zQJ,cond_false,if_true];have:=H9 u d (tup d) u (by omega) (by omega);exact this.trans (N4 hu d d.fP 0 d (λp hp=>⟨t6 h p hp,hd.puts p hp⟩) hd)
theorem N5{u:Nat}(hu:1099511627776<=u){c:aG}(hc:Cu c):Dr (p9 u c) (λp=>p.fB.length<=5):=by
 unfold p9;refine cz (FM u hc 4) λb c1 _ h1=>?_
 cases b with
 | true =>
  simp only [cond_true];refine cz (cH u h1 4) λv2 c2 _ h2=>?_;refine cz (cH u h2 2) λv3 c3 _ h3=>?_;refine cz (cH u h3 6) λv4 c4 _ h4=>?_;exact cU (by simp) h4
 | false =>
  simp only [cond_false];refine cz (cH u h1 2) λv2 c2 _ h2=>?_;refine cz (cH u h2 9) λv3 c3 _ h3=>?_;refine cz (Jv hu h3 (n:=5) (by omega)) λv4 c4 hv h4=>?_;exact cU hv h4
theorem Rb{u:Nat}(hu:1099511627776<=u){c:aG}(hc:Cu c):Dr (tR u c) (λd=>cd d=true):=by
 unfold tR;refine cz (cH u hc 3) λg c1 hg h1=>?_;refine cz (Jv hu h1 (n:=9) (by omega)) λb c2 hb h2=>?_;have hg2:=hg.2 (by omega);obtain ⟨e1,e2⟩:=Jw u hg.1 (by omega) (b:=b) (by omega);simp only [e1,wk];refine cz (cH u h2 5) λn c3 hn h3=>?_;obtain ⟨m,hm⟩:∃ m:Nat,n=(m:Int):=⟨n.toNat,by omega⟩;subst hm;have hm5:=hn.2 (by omega);have key:∀ (m k:Nat) (d:ar) (c:aG),m < k->m<=5->cd d=true->Cu c->Dr (gu u k (m:Int) d.fA d.fB d.fR.aP d.fR.bX d.fR.aX d.fP c.fB c.fI c.fH) (λd=>cd d=true):=by
  intro m
  induction m with
  | zero =>
   intro k d c hk _ hd hc;obtain ⟨k,rfl⟩:∃ j,k=j+1:=⟨k - 1,by omega⟩;unfold gu;simp only [Int.natCast_zero,gt_iff_lt,Int.lt_irrefl,decide_false,cond_false,vD];exact cU hd hc
  | succ m ih =>
   intro k d c hk hm hd hc;obtain ⟨k,rfl⟩:∃ j,k=j+1:=⟨k - 1,by omega⟩;unfold gu;have:((m+1:Nat):Int) > 0:=by omega
   simp only [this,decide_true,cond_true];refine cz (N5 hu hc) λp c1 hp h1=>?_;have hD:=yQ hd;have hpl:=pE hd;have e:(ar.mk d.fA d.fB (dc.mk d.fR.aP d.fR.bX d.fR.aX) d.fP)=d:=rfl;rw [e,xd hu hD (p:=p) (by omega) (by omega)];simp only [wk];obtain ⟨d',b',hd',hif⟩:∃ d' b',cd d'=true/\(if cd (gU d p)=true then (gU d p,true) else (d,false))=(d',b'):=by
    cases h:cd (gU d p) with
    | true=>exact ⟨_,true,h,rfl⟩
    | false=>exact ⟨_,false,hd,rfl⟩
   rw [hif];simp only;rw [D4 hu (yQ hd')];simp only [wk];refine cz (FM u h1 5) λo c2 _ h2=>?_;have hs:(eH .i64 ((m+1:Nat):Int) 1)=(m:Int):=by rw [dP (by omega) (by omega)]; omega
   cases o with
   | true =>
    simp only [cond_true];rw [mH hu (Qm (yQ hd'))];simp only [wk,oD,oC,hs]
    cases hx:cd (M.sure d') with
    | true=>exact ih k _ c2 (by omega) (by omega) hx h2
    | false=>exact ih k _ c2 (by omega) (by omega) hd' h2
   | false =>
    simp only [cond_false,oD,oC,hs];exact ih k _ c2 (by omega) (by omega) hd' h2
 exact key m u _ c3 (by omega) (by omega) e2 h3
theorem SA{u:Nat}(hu:1099511627776<=u){c:aG}(hc:Cu c):Dr (sZ u c) (λd=>M.DOk d/\d.fP.length<=201):=by
 unfold sZ;refine cz (Rb hu hc) λd c1 hd h1=>?_;have hD:=yQ hd;have hl:=pE hd;have hok:∀ r,M.DOk ⟨d.fA,d.fB,r,d.fP⟩/\d.fP.length<=201:=λr=>⟨⟨hD.a,hD.b,hD.p,hD.puts⟩,by omega⟩;refine cz (cH u h1 12) λn c2 _ h2=>?_;simp only
 cases n == 0 with
 | true =>
  simp only [cond_true];refine cz (nx u h2 (by simp)) λx c3 _ h3=>?_;exact cU (hok _) h3
 | false =>
  simp only [cond_false]
  cases n == 1 with
  | true =>
   simp only [cond_true];refine cz (nx u h2 (by simp)) λx c3 _ h3=>?_;exact cU (hok _) h3
  | false =>
   simp only [cond_false]
   cases n == 2 with
   | true =>
    simp only [cond_true];refine cz (nx u h2 (by simp)) λx c3 _ h3=>?_;exact cU (hok _) h3
   | false =>
    simp only [cond_false]
    cases n == 3 with
    | true =>
     simp only [cond_true];refine cz (nx u h2 (by simp)) λx c3 _ h3=>?_;refine cz (nx u h3 (by simp)) λy c4 _ h4=>?_;rw [bD (by simp; omega)];simp only [wk,lS];refine cU ⟨Bi hD (by omega) (p:=⟨x,y,[1],⟨0,0,0⟩⟩) (by simp),by simp; omega⟩ h4
    | false=>exact cU (hok _) h2
theorem LE(s:Int):∀ (l:List c8) (i:Nat) (d:ar),(kU s l i d).fP=[]
 | [],i,d=>rfl
 | p :: l,i,d=>LE s l (i+1) _
theorem SB{d:ar}(h:cd d=true)(s:Int):(M.fall d s).fP=[]:=by
 unfold M.fall;rw [h];exact LE s d.fP 0 d
theorem Rc(n:Int):0<=IntKind.wrap .u8 n/\IntKind.wrap .u8 n<=255:=by
 show 0<=n % 256/\n % 256<=255;omega
theorem FN(n:Int):ay [IntKind.wrap .u8 n]:=λx hx=>by
 simp only [zQV] at hx;subst hx;exact Rc n
theorem u9{a b:List Int}(ha:ay a)(hb:ay b):ay (a++b):=λx hx=>(List.mem_append.1 hx).elim (ha x) (hb x)
theorem Bj{a:List Int}(ha:ay a)(i:Nat){v:Int}(hv:0<=v/\v<=255):ay (a.set i v):=λx hx=>by
 rcases zWg hx with h | h
 ·exact ha x h
 ·subst h; exact hv
theorem yR{a:List Int}(ha:ay a)(n:Nat):ay (a.take n):=λx hx=>ha x (zQg hx)
theorem yS{a:List Int}(ha:ay a)(n:Nat):ay (a.drop n):=λx hx=>ha x (zWq hx)
theorem LF:ay []:=λx hx=>by cases hx
def mI(n:Nat)(b:List Int):Prop:=b.length<=n/\ay b
theorem wN{u:Nat}(hu:1099511627776<=u){c:aG}(hc:Cu c){n:Nat}(hn:n<=1000):Dr (gD u c (n:Int)) (mI n):=by
 unfold gD;rw [ep (by omega)];refine cz (cH u hc _) λv c1 hv hc1=>?_;have hlt:=hv.2 (by omega);obtain ⟨m,hm⟩:∃ m:Nat,v=(m:Int):=⟨v.toNat,by omega⟩;subst hm;have key:∀ (m k:Nat) (x:List Int) (c:aG),m < k->Cu c->x.length+m<=1000->ay x->Dr (fu u k x (m:Int) c.fB c.fI c.fH) (mI (x.length+m)):=by
  intro m
  induction m with
  | zero =>
   intro k x c hk hc hx hb;obtain ⟨k,rfl⟩:∃ j,k=j+1:=⟨k - 1,by omega⟩;unfold fu;simp only [Int.natCast_zero,gt_iff_lt,Int.lt_irrefl,decide_false,cond_false,qm];exact cU ⟨zWj _,hb⟩ hc
  | succ m ih =>
   intro k x c hk hc hx hb;obtain ⟨k,rfl⟩:∃ j,k=j+1:=⟨k - 1,by omega⟩;unfold fu;have:((m+1:Nat):Int) > 0:=by omega
   simp only [this,decide_true,cond_true];refine cz (nx u hc (xs:=[97,98,99,0,255]) (by simp)) λv c2 hv hc2=>?_;rw [bD (by simp; omega)];simp only [wk];rw [dP (by omega) (by omega)];have e:((m+1:Nat):Int) - 1=(m:Int):=by omega
   rw [e];refine H6 (ih k _ c2 (by omega) hc2 (by simp; omega) (u9 hb (FN _))) λv h=>?_;have h1:=h.1;simp only [zQK,zQH,zXK] at h1;exact ⟨by omega,h.2⟩
 refine H6 (key m u [] c1 (by omega) hc1 (by simp; omega) LF) λv h=>?_;have h1:=h.1;simp only [zXK] at h1;exact ⟨by omega,h.2⟩
theorem Jx{u:Nat}(hu:1099511627776<=u){c:aG}(hc:Cu c):Dr (lu u c) (mI 16):=by
 unfold lu;exact cz (wN hu hc (n:=16) (by omega)) λv c1 hv hc1=>cU hv hc1
theorem Pp(u:Nat){c:aG}(hc:Cu c){b:List Int}(hb:b.length<=200)(hB:ay b):Dr (mN u c b) (mI 201):=by
 unfold mN;rw [bD (by simp; omega)];simp only [wk,zQy];have hlt:∀ {v:Int},0<=v->v < (b.length:Int)->∃ y,dV b v=some y:=λ{v} h0 h1=>by
  obtain ⟨i,rfl⟩:∃ i:Nat,v=(i:Int):=⟨v.toNat,by omega⟩;exact ⟨b[i]'(by omega),by rw [dg]; exact sX (by omega)⟩
 have self:mI 201 b:=⟨by omega,hB⟩;refine cz (cH u hc 6) λn c1 _ h1=>?_;simp only
 cases n == 0 with
 | true =>
  simp only [cond_true]
  by_cases hl:(b.length:Int) > 0
  ·simp only [hl,decide_true,cond_true];refine cz (cH u h1 _) λv c2 hv h2=>?_;refine cz (cH u h2 256) λw c3 _ h3=>?_;obtain ⟨y,hy⟩:=hlt hv.1 (hv.2 hl);simp only [hy,wk,cn];exact cU ⟨by rw [zXG]; omega,Bj hB _ (Rc _)⟩ h3
  ·simp only [hl,decide_false,cond_false,cn];exact cU self h1
 | false =>
  simp only [cond_false]
  cases n == 1 with
  | true =>
   simp only [cond_true];rw [ep (by omega)];refine cz (cH u h1 _) λv c2 hv h2=>?_;have h3:=hv.2 (by omega);have hs:cO 0 v (b.length:Int)=true:=by simp [cO]; omega
   simp only [hs,DA,wk,cn];exact cU ⟨by rw [zYK,zQz]; omega,yS (yR hB _) _⟩ h2
  | false =>
   simp only [cond_false]
   cases n == 2 with
   | true =>
    simp only [cond_true];refine cz (nx u h1 (by simp)) λv c2 _ h2=>?_;rw [bD (by simp; omega)];simp only [wk,cn];exact cU ⟨by rw [zQK,zYG]; omega,u9 hB (FN _)⟩ h2
   | false =>
    simp only [cond_false]
    cases n == 3 with
    | true =>
     simp only [cond_true]
     by_cases hl:(b.length:Int) > 0
     ·simp only [hl,decide_true,cond_true];refine cz (cH u h1 _) λv c2 hv h2=>?_;obtain ⟨y,hy⟩:=hlt hv.1 (hv.2 hl);simp only [hy,wk];refine cz (cH u h2 8) λw c3 hw h3=>?_;have hw0:=hw.1;simp only [hy];rw [bD hw0];simp only [wk,cn];exact cU ⟨by rw [zXG]; omega,Bj hB _ (by unfold Mb; exact Rc _)⟩ h3
     ·simp only [hl,decide_false,cond_false,cn];exact cU self h1
    | false =>
     simp only [cond_false,cn];exact cU self h1
theorem Re{u:Nat}(hu:1099511627776<=u){c:aG}(hc:Cu c){b:List Int}(hb:b.length<=200)(hB:ay b):Dr (qN u c b) (mI 240):=by
 unfold qN;refine cz (cH u hc 5) λn c1 _ h1=>?_;simp only
 cases n == 0 with
 | true =>
  simp only [cond_true];exact cz (wN hu h1 (n:=16) (by omega)) λv c2 hv h2=>cU ⟨zWx hv.1 (by omega),hv.2⟩ h2
 | false =>
  simp only [cond_false]
  cases n == 1 with
  | true =>
   simp only [cond_true];rw [bD (by simp; omega)];simp only [wk,zQy];exact cU ⟨by omega,hB⟩ h1
  | false =>
   simp only [cond_false]
   cases n == 2 with
   | true =>
    simp only [cond_true];rw [ep (by omega)];refine cz (cH u h1 _) λv c2 hv h2=>?_;have h3:=hv.2 (by omega);have h0:=hv.1;have s1:cO v (b.length:Int) (b.length:Int)=true:=by simp [cO]; omega
    have s2:cO 0 v (b.length:Int)=true:=by simp [cO]; omega
    simp only [s1,s2,DA,wk];rw [bD (by simp; omega)];simp only [wk];rw [bD (by simp; omega)];simp only [wk];refine cU ⟨by simp; omega,u9 (u9 (λx hx=>?_) (yS (yR hB _) _)) (yS (yR hB _) _)⟩ h2;simp only [zQV] at hx;omega
   | false =>
    simp only [cond_false]
    cases n == 3 with
    | true =>
     simp only [cond_true];exact cU ⟨by simp,LF⟩ h1
    | false =>
     simp only [cond_false];refine cz (wN hu h1 (n:=3) (by omega)) λv c2 hv h2=>?_;refine cz (Pp u h2 hb hB) λw c3 hw h3=>?_;have hv1:=hv.1;have hw1:=hw.1;simp only;rw [bD (by omega)];simp only [wk];exact cU ⟨by rw [zQK]; omega,u9 hv.2 hw.2⟩ h3
theorem i6{α:Type}(l:List α)(k:Nat){v:α}(h:l[k]?=some v):dV l (k:Int)=some v:=by
 unfold dV;simp [h]
def Jy(c:Int):Option (Int×Nat)->Option (Int×Nat)
 | some (v,n)=>some (v*128+(c - 128),n+1)
 | none=>none
def M.rd:Nat->Bool->List Int->Option (Int×Nat)
 | 0,_,_=>none
 | _+1,_,[]=>none
 | k+1,f,c :: l=>if c < 128 then (if f || decide (0 < c) then some (c,1) else none) else Jy c (M.rd k false l)
theorem UP:∀ (k:Nat) (f:Bool) (l:List Int) (w:Int) (j:Nat),ay l->M.rd k f l=some (w,j)->0<=w/\(f=false->0 < w)/\j<=l.length/\1<=j/\w < 128 ^ k/\∀ K,k<=K+1->l.take j=cA K w:=by
 intro k
 induction k with
 | zero=>intro f l w j _ h; simp [M.rd] at h
 | succ k ih =>
  intro f l w j hb h
  cases l with
  | nil=>simp [M.rd] at h
  | cons c l =>
   have hc:=hb c (by simp);unfold M.rd at h
   by_cases hc1:c < 128
   ·rw [if_pos hc1] at h
    split at h
    ·rename_i hf;simp only [Option.some.injEq,Prod.mk.injEq] at h;obtain ⟨rfl,rfl⟩:=h;have hp:(128:Int)<=128 ^ (k+1):=by
      rw [zYX]; have:(0:Int) < 128 ^ k:=Int.pow_pos (by decide); omega
     refine ⟨hc.1,λh0=>by subst h0; simpa using hf,by simp,by omega,by omega,λK _=>?_⟩
     cases K with
     | zero=>simp [cA]; omega
     | succ K=>unfold cA; rw [if_pos (by omega)]; simp; omega
    ·cases h
   ·rw [if_neg hc1] at h
    cases hr:M.rd k false l with
    | none=>rw [hr] at h; cases h
    | some q =>
     obtain ⟨v,n⟩:=q;rw [hr] at h;simp only [Jy,Option.some.injEq,Prod.mk.injEq] at h;obtain ⟨rfl,rfl⟩:=h;obtain ⟨h1,h2,h3,h4,h5,h6⟩:=ih false l v n (λx hx=>hb x (by simp [hx])) hr;have h2:=h2 rfl;have hk:k≠0:=by intro h0; subst h0; simp [M.rd] at hr
     refine ⟨by omega,λ_=>by omega,by simp; omega,by omega,by rw [zYX]; omega,λK hK=>?_⟩;obtain ⟨K,rfl⟩:∃ K',K=K'+1:=⟨K - 1,by omega⟩;unfold cA;rw [if_neg (by omega),List.take_succ_cons,h6 K (by omega)]
     congr 1
     ·omega
     ·congr 1; omega
theorem Pq:∀ (k K:Nat) (f:Bool) (n:Int) (t:List Int),1<=k->0<=n->(f=false->0 < n)->n < 128 ^ k->k<=K+1->M.rd k f (cA K n++t)=some (n,(cA K n).length):=by
 intro k
 induction k with
 | zero=>intro K f n t h0; omega
 | succ k ih =>
  intro K f n t h0 h1 h2 h3 h4
  by_cases h:n<=127
  ·have e:cA K n=[n]:=by
    cases K with
    | zero=>simp [cA]; omega
    | succ K=>unfold cA; rw [if_pos h]; simp; omega
   rw [e];simp only [List.singleton_append,M.rd,zYG];rw [if_pos (by omega),if_pos (by cases f <;> simp; exact h2 rfl)]
  ·have hk:k≠0:=by
    intro h0; subst h0;rw [show (128:Int) ^ (0+1)=128 by rfl] at h3; omega
   obtain ⟨K,rfl⟩:∃ K',K=K'+1:=⟨K - 1,by omega⟩;unfold cA;rw [if_neg h];simp only [List.cons_append,M.rd];rw [if_neg (by omega),ih K false (n / 128) t (by omega) (by omega) (λ_=>by omega) (by rw [zYX] at h3; omega) (by omega)];simp only [Jy,zQH,Option.some.injEq,Prod.mk.injEq,and_true];omega
theorem Jz{a n:Nat}(hn:n<=62)(h:a*2 ^ n < 9223372036854775808):lI .i64 (a:Int) (n:Int)=((a*2 ^ n:Nat):Int):=by
 unfold lI;rw [show min (sY (n:Int)) (IntKind.bits .i64)=n by simp [IntKind.bits]; omega];have e:(a:Int)*2 ^ n=((a*2 ^ n:Nat):Int):=by simp
 rw [e];exact gR (by omega) (by omega)
theorem SC{v a n:Nat}(hv:v < 2 ^ n):v ||| a*2 ^ n=v+a*2 ^ n:=by
 have h:=Nat.shiftLeft_add_eq_or_of_lt hv a;rw [Nat.shiftLeft_eq] at h;rw [Nat.or_comm,<- h,Nat.add_comm]
theorem SD{v i:Nat}{c:Int}(hi:i<=7)(hv:v < 2 ^ (7*i))(h1:0<=c)(h2:c<=255):u3 .i64 (v:Int) (lI .i64 (fG .i64 (IntKind.wrap .i64 c) 127) (lH .i64 7 (i:Int)))=((v+(c % 128).toNat*2 ^ (7*i):Nat):Int)/\v+(c % 128).toNat*2 ^ (7*i) < 2 ^ (7*(i+1)):=by
 have hp:(2:Nat) ^ (7*i)<=2 ^ 49:=zWz (by omega) (by omega);have hq:(2:Nat) ^ (7*(i+1))=128*2 ^ (7*i):=by rw [Nat.mul_add,Nat.pow_add,Nat.mul_comm]
 have hc:(c % 128).toNat < 128:=by omega
 have hm:(c % 128).toNat*2 ^ (7*i)<=127*2 ^ (7*i):=zWV _ (by omega);rw [gR (by omega) (by omega),Mn,oJ (by omega) (by omega),show (7:Int)*(i:Int)=((7*i:Nat):Int) by omega,show c % 128=(((c % 128).toNat:Nat):Int) by omega];rw [show (((c % 128).toNat:Nat):Int).toNat=(c % 128).toNat by omega];have hp2:(2:Nat) ^ 49=562949953421312:=by decide
 rw [Jz (by omega) (by omega),DY (by omega) (by omega),SC hv];exact ⟨rfl,by omega⟩
def uU(o:Option (Int×Nat))(v i a:Nat)(r:Int×Int×Bool):Prop:=match o with
 | some (w,j)=>r=((v:Int)+w*2 ^ (7*i),((a+j:Nat):Int),true)
 | none=>r.2.2=false
theorem Pr{o:Option (Int×Nat)}{v i a x:Nat}{c:Int}{r:Int×Int×Bool}(hx:(x:Int)=c - 128)(h:uU o (v+x*2 ^ (7*i)) (i+1) (a+1) r):uU (Jy c o) v i a r:=by
 cases o with
 | none=>exact h
 | some q =>
  obtain ⟨w,j⟩:=q;unfold uU at h;unfold uU Jy;dsimp only at h ⊢;rw [h];refine Prod.ext ?_ (Prod.ext ?_ rfl)
  ·dsimp only;rw [show 7*(i+1)=7*i+7 by omega,Int.pow_add,<- hx];have:((v+x*2 ^ (7*i):Nat):Int)=(v:Int)+(x:Int)*2 ^ (7*i):=by simp
   rw [this];generalize (2:Int) ^ (7*i)=p;rw [show (2:Int) ^ 7=128 by rfl,zZz,Int.mul_assoc w 128 p,zVX p 128];omega
  ·dsimp only; omega
theorem N6{α:Type}{b:List α}{a:Nat}(h:a < b.length):b.drop a=b[a] :: b.drop (a+1):=zXv h
def uv(n:Nat)(b:List Int)(a:Int):Option (Int×Int):=if 0<=a then match M.rd n true (b.drop a.toNat) with
  | some (v,j)=>some (v,a+j)
  | none=>none
 else none
def bK(b:List Int)(a:Int):Int×Int×Bool:=match uv 6 b a with
 | some (v,e)=>if v<=1000000000000 then (v,e,true) else (0,0,false)
 | none=>(0,0,false)
theorem Ps(u:Nat){b:List Int}(hb:ay b)(hl:b.length<=1048576)(a:Nat):∀ (m i k v:Nat),i+m=8->m < k->v < 2 ^ (7*i)->∃ r,fJ u k b a v i=some r/\uU (M.rd m (i == 0) (b.drop (a+i))) v i (a+i) r:=by
 intro m
 induction m with
 | zero =>
  intro i k v h1 h2 h3;obtain ⟨k,rfl⟩:∃ j,k=j+1:=⟨k - 1,by omega⟩;have e:¬ ((i:Int) < 8):=by omega
  refine ⟨(0,0,false),?_,rfl⟩;unfold fJ o6;simp only [e,decide_false,cond_false]
 | succ m ih =>
  intro i k v h1 h2 h3;obtain ⟨k,rfl⟩:∃ j,k=j+1:=⟨k - 1,by omega⟩;have e:(i:Int) < 8:=by omega
  unfold fJ;simp only [e,decide_true,cond_true];rw [dP (a:=(b.length:Int)) (by omega) (by omega)]
  by_cases ha:a+i < b.length
  ·have e0:¬ ((a:Int)>=(b.length:Int) - (i:Int)):=by omega
   rw [N6 ha,dE (a:=(a:Int)) (by omega) (by omega),show (a:Int)+(i:Int)=((a+i:Nat):Int) by omega,dg,sX ha];have hc:=hb b[a+i] (zYV ha);obtain ⟨e1,e2⟩:=SD (i:=i) (by omega) h3 hc.1 hc.2;simp only [e0,decide_false,cond_false,wk];rw [e1,oJ (by omega) (by omega),bD (by omega),gR (by omega) (by omega),dE (a:=((a+i:Nat):Int)) (by omega) (by omega),ep (by omega)];simp only [wk,M.rd]
   by_cases hc1:b[a+i] < 128
   ·simp only [hc1,decide_true,cond_true,if_true];have hv:((v+(b[a+i] % 128).toNat*2 ^ (7*i):Nat):Int)=(v:Int)+b[a+i]*2 ^ (7*i):=by
     have:((v+(b[a+i] % 128).toNat*2 ^ (7*i):Nat):Int)=(v:Int)+(((b[a+i] % 128).toNat:Nat):Int)*2 ^ (7*i):=by simp
     rw [this,show (((b[a+i] % 128).toNat:Nat):Int)=b[a+i] by omega]
    rw [hv]
    by_cases hc2:0 < b[a+i]
    ·have hc3:b[a+i] > 0:=hc2;simp only [hc2,hc3,decide_true,cond_true,Bool.or_true,if_true,uU];refine ⟨_,rfl,Prod.ext rfl (Prod.ext ?_ rfl)⟩;dsimp only; omega
    ·have hc3:¬ b[a+i] > 0:=hc2;simp only [hc2,hc3,decide_false,cond_false,Bool.or_false];refine ⟨_,rfl,?_⟩
     by_cases h0:i=0
     ·subst h0; simp [uU]
     ·have e4:(i == 0)=false:=by simpa using h0
      simp only [e4,zWW,if_false,uU];simp; omega
   ·simp only [hc1,decide_false,cond_false,if_false];obtain ⟨r,g1,g2⟩:=ih (i+1) k _ (by omega) (by omega) e2;refine ⟨r,g1,Pr (x:=(b[a+i] % 128).toNat) (by omega) ?_⟩;rw [show (i+1 == 0)=false by rfl] at g2;exact g2
  ·have e0:(a:Int)>=(b.length:Int) - (i:Int):=by omega
   simp only [e0,decide_true,cond_true];rw [zXk (by omega)];exact ⟨(0,0,false),rfl,rfl⟩
theorem Gq{u:Nat}(hu:1099511627776<=u){b:List Int}(hb:ay b)(hl:b.length<=1048576){a:Int}(ha:0<=a):∃ r,pU u b a=some r/\(match uv 8 b a with | some (v,e)=>r=(v,e,true) | none=>r.2.2=false):=by
 unfold pU uv;obtain ⟨a,rfl⟩:=zQG ha;obtain ⟨r,g1,g2⟩:=Ps u hb hl a 8 0 u 0 (by omega) (by omega) (by simp);refine ⟨r,g1,?_⟩;rw [if_pos ha,rg];rw [zYQ] at g2;unfold uU at g2
 cases hr:M.rd 8 true (b.drop a) with
 | none=>rw [show ((0 == 0:Bool))=true by rfl,hr] at g2; exact g2
 | some q=>obtain ⟨w,j⟩:=q; rw [show ((0 == 0:Bool))=true by rfl,hr] at g2; simpa using g2
def N7(o:Option (Int×Nat))(v i a:Nat):Int×Int×Bool:=match o with
 | some (w,j)=>if (v:Int)+w*2 ^ (7*i)<=1000000000000 then ((v:Int)+w*2 ^ (7*i),((a+j:Nat):Int),true) else (0,0,false)
 | none=>(0,0,false)
theorem TO(o:Option (Int×Nat))(v i a x:Nat)(c:Int)(hx:(x:Int)=c - 128):N7 (Jy c o) v i a=N7 o (v+x*2 ^ (7*i)) (i+1) (a+1):=by
 cases o with
 | none=>rfl
 | some q =>
  obtain ⟨w,j⟩:=q;unfold N7 Jy;dsimp only;have e:(v:Int)+(w*128+(c - 128))*2 ^ (7*i)=((v+x*2 ^ (7*i):Nat):Int)+w*2 ^ (7*(i+1)):=by
   rw [show 7*(i+1)=7*i+7 by omega,Int.pow_add,<- hx];have:((v+x*2 ^ (7*i):Nat):Int)=(v:Int)+(x:Int)*2 ^ (7*i):=by simp
   rw [this];generalize (2:Int) ^ (7*i)=p;rw [show (2:Int) ^ 7=128 by rfl,zZz,Int.mul_assoc w 128 p,zVX p 128];omega
  rw [e,show a+(j+1)=a+1+j by omega]
theorem KM(u:Nat){b:List Int}(hb:ay b)(hl:b.length<=1048576)(a:Nat):∀ (m i k v:Nat),i+m=6->m < k->v < 2 ^ (7*i)->dM u k b a v i=some (N7 (M.rd m (i == 0) (b.drop (a+i))) v i (a+i)):=by
 intro m
 induction m with
 | zero =>
  intro i k v h1 h2 h3;obtain ⟨k,rfl⟩:∃ j,k=j+1:=⟨k - 1,by omega⟩;have e:¬ ((i:Int) < 6):=by omega
  unfold dM rC;simp only [e,decide_false,cond_false]; rfl
 | succ m ih =>
  intro i k v h1 h2 h3;obtain ⟨k,rfl⟩:∃ j,k=j+1:=⟨k - 1,by omega⟩;have e:(i:Int) < 6:=by omega
  have en:¬ ((a:Int) < 0):=by omega
  unfold dM kI;simp only [e,en,decide_true,decide_false,cond_true,cond_false];rw [dP (a:=(b.length:Int)) (by omega) (by omega)]
  by_cases ha:a+i < b.length
  ·have e0:¬ ((a:Int)>=(b.length:Int) - (i:Int)):=by omega
   rw [N6 ha,dE (a:=(a:Int)) (by omega) (by omega),show (a:Int)+(i:Int)=((a+i:Nat):Int) by omega,dg,sX ha];have hc:=hb b[a+i] (zYV ha);obtain ⟨e1,e2⟩:=SD (i:=i) (by omega) h3 hc.1 hc.2;simp only [e0,decide_false,cond_false,wk];unfold oh;rw [e1,oJ (by omega) (by omega),bD (by omega),gR (by omega) (by omega),dE (a:=(a:Int)) (b:=(i:Int)) (by omega) (by omega),dE (a:=(a:Int)+(i:Int)) (by omega) (by omega),ep (by omega)];simp only [wk,M.rd]
   by_cases hc1:b[a+i] < 128
   ·simp only [hc1,decide_true,cond_true,if_true];have hv:((v+(b[a+i] % 128).toNat*2 ^ (7*i):Nat):Int)=(v:Int)+b[a+i]*2 ^ (7*i):=by
     have:((v+(b[a+i] % 128).toNat*2 ^ (7*i):Nat):Int)=(v:Int)+(((b[a+i] % 128).toNat:Nat):Int)*2 ^ (7*i):=by simp
     rw [this,show (((b[a+i] % 128).toNat:Nat):Int)=b[a+i] by omega]
    rw [hv];have hgt:∀ x:Int,decide (x > 1000000000000)=!decide (x<=1000000000000):=λx=>by rw [<- decide_not,decide_eq_decide]; omega
    have hs:((a:Int)+(i:Int)+1)=((a+i+1:Nat):Int):=by omega
    rw [hs]
    by_cases hc2:b[a+i]=0
    ·have e5:¬ (0 < b[a+i]):=by omega
     have e6:(b[a+i] == 0)=true:=by simpa using hc2
     by_cases h0:i=0
     ·subst h0;have hv0:v=0:=by simpa using h3
      subst hv0;simp only [e6,cond_true,hgt,N7];rw [hc2];rfl
     ·have e4:(i == 0)=false:=by simpa using h0
      have e7:(i:Int) > 0:=by omega
      simp only [e4,e5,e6,e7,decide_true,decide_false,cond_true,Bool.or_false,zWW,if_false,N7]
    ·have e5:0 < b[a+i]:=by omega
     have e6:(b[a+i] == 0)=false:=by simpa using hc2
     simp only [e5,e6,decide_true,cond_false,Bool.or_true,if_true,hgt,N7]
     by_cases hq:(v:Int)+b[a+i]*2 ^ (7*i)<=1000000000000
     ·simp [hq]
     ·simp [hq]
   ·simp only [hc1,decide_false,cond_false,if_false];rw [ih (i+1) k _ (by omega) (by omega) e2,show (i+1 == 0)=false by rfl,TO _ v i (a+i) (b[a+i] % 128).toNat _ (by omega)];rfl
  ·have e0:(a:Int)>=(b.length:Int) - (i:Int):=by omega
   simp only [e0,decide_true,cond_true];rw [zXk (by omega)]; rfl
theorem jn{u:Nat}(hu:1099511627776<=u){b:List Int}(hb:ay b)(hl:b.length<=1048576)(a:Int):f0 u b a=some (bK b a):=by
 unfold f0 bK uv
 by_cases ha:0<=a
 ·obtain ⟨a,rfl⟩:=zQG ha;have h:=KM u hb hl a 6 0 u 0 (by omega) (by omega) (by simp);rw [zYQ] at h;rw [show dM u u b (a:Int) 0 0=_ from h,if_pos ha,rg,show (0 == 0:Bool)=true by rfl];unfold N7
  cases M.rd 6 true (b.drop a) with
  | none=>rfl
  | some q=>obtain ⟨w,j⟩:=q; simp
 ·obtain ⟨u,rfl⟩:∃ j,u=j+1:=⟨u - 1,by omega⟩;rw [if_neg ha];unfold dM kI;have e:a < 0:=by omega
  simp [e]
theorem BS{α:Type}(b:List α)(a j:Nat):b.take (a+j)=b.take a++(b.drop a).take j:=List.take_add
theorem D5{n:Nat}{b:List Int}{a v e:Int}(hb:ay b)(h:uv n b a=some (v,e))(hn:n<=10):0<=a/\a < e/\e<=b.length/\0<=v/\v < 128 ^ n/\b.take e.toNat=b.take a.toNat++cA 9 v:=by
 unfold uv at h
 by_cases ha:0<=a
 ·rw [if_pos ha] at h
  cases hr:M.rd n true (b.drop a.toNat) with
  | none=>rw [hr] at h; cases h
  | some q =>
   obtain ⟨w,j⟩:=q;rw [hr] at h;simp only [Option.some.injEq,Prod.mk.injEq] at h;obtain ⟨rfl,rfl⟩:=h;obtain ⟨h1,h2,h3,h4,h5,h6⟩:=UP n true _ w j (λx hx=>hb x (zWq hx)) hr;rw [zYK] at h3;refine ⟨ha,by omega,by omega,h1,h5,?_⟩;rw [show (a+(j:Int)).toNat=a.toNat+j by omega,BS,h6 9 (by omega)]
 ·rw [if_neg ha] at h; cases h
theorem eJ{b:List Int}{a v e:Int}(hb:ay b)(h:bK b a=(v,e,true)):0<=a/\a < e/\e<=b.length/\0<=v/\v<=1000000000000/\b.take e.toNat=b.take a.toNat++cA 9 v:=by
 unfold bK at h
 cases hr:uv 6 b a with
 | none=>rw [hr] at h; cases h
 | some q =>
  obtain ⟨w,e'⟩:=q;rw [hr] at h;dsimp only at h
  split at h
  ·simp only [Prod.mk.injEq,and_true] at h;obtain ⟨rfl,rfl⟩:=h;have:=D5 hb hr (by omega);exact ⟨this.1,this.2.1,this.2.2.1,this.2.2.2.1,by assumption,this.2.2.2.2.2⟩
  ·cases h
theorem db(b:List Int)(a:Int):(∃ v e,bK b a=(v,e,true))\/bK b a=(0,0,false):=by
 unfold bK
 split
 ·split
  ·exact .inl ⟨_,_,rfl⟩
  ·exact .inr rfl
 ·exact .inr rfl
theorem CA{p:List Int}{n:Int}(t:List Int)(h0:0<=n)(h1:n<=1000000000000):bK (p++cA 9 n++t) p.length=(n,((p.length+(cA 9 n).length:Nat):Int),true):=by
 unfold bK uv;rw [if_pos (by omega),rg,zQZ,List.drop_left,Pq 6 9 true n t (by omega) h0 (λh=>by cases h) (by rw [show (128:Int) ^ 6=4398046511104 by decide]; omega) (by omega)];simp [h1]
def vd(m:ai):Bool:=(m.aP == 0) && (m.av == 0) && (m.aX == 0) && (m.aO.length == 0)
theorem Mu(m:ai):u6 m ⟨0,0,0,[]⟩=vd m:=by
 unfold u6 vd M.same
 cases h:m.aO with
 | nil=>simp [yO]
 | cons s l=>simp
def gc(m:fe):Bool :=
 if m.bl=1 then (m.aP == 0) && (m.aw.aP != 0) && da m.aw && ((m.ck == 0) && (m.bY == 0) && (m.fI == 0) && (m.fB.length == 0))
 else if m.bl=2 then au m.aP 0 1000000 && vd m.aw && bV m.ck && bV m.bY && (m.fI == 0) && (m.fB.length == 0)
 else if m.bl=3 then au m.aP 1 1000000 && vd m.aw && (m.ck == 0) && (m.bY == 0) && au m.fI 0 39 && au m.fB.length 1 6
 else if m.bl=4 then au m.aP 0 1000000 && vd m.aw && ((m.ck == 0) && (m.bY == 0) && (m.fI == 0) && (m.fB.length == 0))
 else false
theorem xe{u:Nat}(hu:1099511627776<=u){m:fe}(hs:m.aw.aO.length<=1048576):sS u m=some (gc m):=by
 unfold sS gc nE;simp only [zG hu hs,Mu,gA hu m.aw (show m.aw.aO.length<=1073741824 by omega),hP,bH,wk];rw [show ((m.fB.length:Int) == 0)=(m.fB.length == 0) from Mr _ 0];generalize da m.aw=x1;generalize vd m.aw=x2;generalize bV m.ck=x3;generalize bV m.bY=x4;generalize au m.aP 0 1000000=x5;generalize au m.aP 1 1000000=x6;generalize au m.fI 0 39=x7;generalize au m.fB.length 1 6=x8;generalize (m.fB.length == 0)=x9;generalize (m.aw.aP != 0)=x10;generalize (m.aP == 0)=x11;generalize (m.ck == 0)=x12;generalize (m.bY == 0)=x13;generalize (m.fI == 0)=x14
 by_cases h1:m.bl=1
 ·simp only [h1,beq_self_eq_true,cond_true,if_true]
  cases x1 <;> cases x10 <;> cases x11 <;> cases x12 <;> cases x13 <;> cases x14 <;> cases x9 <;> rfl
 ·have e1:(m.bl == 1)=false:=by simpa using h1
  by_cases h2:m.bl=2
  ·simp only [h2,e1,beq_self_eq_true,cond_true,if_true]
   cases x5 <;> cases x2 <;> cases x3 <;> cases x4 <;> cases x14 <;> cases x9 <;> cases x12 <;> cases x13 <;> rfl
  ·have e2:(m.bl == 2)=false:=by simpa using h2
   by_cases h3:m.bl=3
   ·simp only [h3,beq_self_eq_true,cond_true,if_true]
    cases x6 <;> cases x2 <;> cases x12 <;> cases x13 <;> cases x7 <;> cases x8 <;> cases x14 <;> cases x9 <;> rfl
   ·have e3:(m.bl == 3)=false:=by simpa using h3
    by_cases h4:m.bl=4
    ·simp only [h4,beq_self_eq_true,cond_true,if_true]
     cases x5 <;> cases x2 <;> cases x12 <;> cases x13 <;> cases x14 <;> cases x9 <;> rfl
    ·have e4:(m.bl == 4)=false:=by simpa using h4
     simp only [e1,e2,e3,e4,h1,h2,h3,h4,cond_false,if_false]
     cases x12 <;> cases x13 <;> cases x14 <;> rfl
def tB:ai×Int×Bool:=(⟨0,0,0,[]⟩,0,false)
def nT:Nat->List Int->Int->List cV->Option (List cV×Int)
 | 0,_,a,acc=>some (acc,a)
 | n+1,b,a,acc=>match uv 8 b a with
  | some (v,e)=>if (cg v).2 then nT n b e (acc++[dZ (cg v).1]) else none
  | none=>none
def sC(g s l:Int):Option (List cV×Int)->ai×Int×Bool
 | some (ss,e)=>if da ⟨g,s,l,ss⟩ then (⟨g,s,l,ss⟩,e,true) else tB
 | none=>tB
theorem Pt(size len:Int):∀ (l:List cV) (i:Nat),iK size len l i=true->∀ s∈l,(cg s.fS).2=true:=by
 intro l
 induction l with
 | nil=>intro i _ s hs; simp at hs
 | cons x l ih =>
  intro i h s hs;simp only [iK,oN,sk] at h;rcases List.mem_cons.1 hs with rfl | hs
  ·exact h.1.1.1
  ·exact ih (i+1) h.2 s hs
theorem LG{g s l:Int}{ss:List cV}(h:∃ x∈ss,(cg x.fS).2=false):da ⟨g,s,l,ss⟩=false:=by
 obtain ⟨x,hx,hb⟩:=h
 cases hm:da ⟨g,s,l,ss⟩ with
 | false=>rfl
 | true =>
  unfold da at hm;dsimp only at hm
  split at hm
  ·simp only [sk,beq_iff_eq,List.length_eq_zero_iff] at hm;rw [hm.2] at hx; simp at hx
  ·simp only [sk] at hm;have:=Pt _ _ _ _ hm.2 x hx;rw [this] at hb; cases hb
theorem Hu{u:Nat}(hu:1099511627776<=u){b:List Int}(hb:ay b)(hl:b.length<=1048576)(r1 r2 r3:Int×Int×Bool):∀ (m i k:Nat) (a:Int) (acc:List cV),i+m=(bG r2.1 r3.1).toNat\/(m=0/\(bG r2.1 r3.1).toNat<=i)->m < k->acc.length+m<=1000->0<=a->(∃ x∈acc,(cg x.fS).2=false)->c6 u k b r1 r2 r3 a i acc=some tB:=by
 have hk:=dB r2.1 r3.1;intro m
 induction m with
 | zero =>
  intro i k a acc h1 h2 h3 h4 h5;obtain ⟨k,rfl⟩:∃ j,k=j+1:=⟨k - 1,by omega⟩;have e:¬ ((i:Int) < bG r2.1 r3.1):=by omega
  unfold c6 ic kJ;simp only [gz,wk,e,decide_false,cond_false];rw [gA hu _ (show acc.length<=1073741824 by omega),LG h5]; rfl
 | succ m ih =>
  intro i k a acc h1 h2 h3 h4 h5;obtain ⟨k,rfl⟩:∃ j,k=j+1:=⟨k - 1,by omega⟩;have e:(i:Int) < bG r2.1 r3.1:=by omega
  obtain ⟨r,g1,g2⟩:=Gq hu hb hl h4;unfold c6 ic kJ;simp only [gz,wk,e,decide_true,cond_true,g1,ur hu]
  by_cases hg:r1.1 > 0
  ·simp only [hg,decide_true,cond_true]
   cases hr:uv 8 b a with
   | none=>rw [hr] at g2; rw [g2]; rfl
   | some q =>
    obtain ⟨v,e'⟩:=q;rw [hr] at g2;rw [g2];have hv:=w7 v;have hp:=D5 hb hr (by omega);dsimp only;simp only [zQJ,cond_false];rw [lU hu hv.1 (by omega)];simp only [wk];rw [bD (by simp; omega),ep (by omega)];obtain ⟨x,hx,hbx⟩:=h5;exact ih (i+1) k e' _ (by omega) (by omega) (by simp; omega) (by omega) ⟨x,by simp [hx],hbx⟩
  ·simp only [hg,decide_false,cond_false];rw [gA hu _ (show acc.length<=1073741824 by omega),LG h5]; rfl
theorem KN{u:Nat}(hu:1099511627776<=u){b:List Int}(hb:ay b)(hl:b.length<=1048576){r1 r2 r3:Int×Int×Bool}(hg:0 < r1.1):∀ (m i k:Nat) (a:Int) (acc:List cV),i+m=(bG r2.1 r3.1).toNat->m < k->acc.length+m<=1000->0<=a->c6 u k b r1 r2 r3 a i acc=some (sC r1.1 r2.1 r3.1 (nT m b a acc)):=by
 have hk:=dB r2.1 r3.1;intro m
 induction m with
 | zero =>
  intro i k a acc h1 h2 h3 h4;obtain ⟨k,rfl⟩:∃ j,k=j+1:=⟨k - 1,by omega⟩;have e:¬ ((i:Int) < bG r2.1 r3.1):=by omega
  unfold c6 ic kJ;simp only [gz,wk,e,decide_false,cond_false];rw [gA hu _ (show acc.length<=1073741824 by omega)];simp only [wk,nT,sC,tB]
  cases da ⟨r1.1,r2.1,r3.1,acc⟩ <;> rfl
 | succ m ih =>
  intro i k a acc h1 h2 h3 h4;obtain ⟨k,rfl⟩:∃ j,k=j+1:=⟨k - 1,by omega⟩;have e:(i:Int) < bG r2.1 r3.1:=by omega
  have hg':r1.1 > 0:=hg;obtain ⟨r,g1,g2⟩:=Gq hu hb hl h4;unfold c6 ic;simp only [gz,wk,e,hg',decide_true,cond_true,g1,ur hu,nT]
  cases hr:uv 8 b a with
  | none=>rw [hr] at g2; rw [g2]; rfl
  | some q =>
   obtain ⟨v,e'⟩:=q;rw [hr] at g2;rw [g2];have hv:=w7 v;have hp:=D5 hb hr (by omega);dsimp only;simp only [zQJ,cond_false];rw [lU hu hv.1 (by omega)];simp only [wk];rw [bD (by simp; omega),ep (by omega)];simp only [wk]
   cases h:(cg v).2 with
   | false =>
    simp only [zWW,if_false];exact Hu hu hb hl r1 r2 r3 m (i+1) k e' _ (by omega) (by omega) (by simp; omega) (by omega) ⟨_,List.mem_append_right _ (List.mem_singleton.2 rfl),h⟩
   | true =>
    simp only [if_true];have hs:dZ (cg v).1=⟨(dZ (cg v).1).fW,v⟩:=by
     have:=w8 (s:=v) (b:=(cg v).1) (by rw [<- h]);rw [this]
    rw [<- hs];exact ih (i+1) k e' _ (by omega) (by omega) (by simp; omega) (by omega)
theorem FO{u:Nat}(hu:1099511627776<=u)(b:List Int){r1 r2 r3:Int×Int×Bool}(hg:r1.1=0)(k:Nat)(a:Int):c6 u (k+1) b r1 r2 r3 a 0 []=some (sC r1.1 r2.1 r3.1 (some ([],a))):=by
 have hg':¬ r1.1 > 0:=by omega
 unfold c6 ic kJ;simp only [gz,wk,hg',decide_false];have:∀ c:Bool,(bif c then (ia u ⟨r1.1,r2.1,r3.1,[]⟩).bind λr22=>bif !r22 then some ((⟨0,0,0,[]⟩,0,false):ai×Int×Bool) else some (⟨r1.1,r2.1,r3.1,[]⟩,a,true) else (ia u ⟨r1.1,r2.1,r3.1,[]⟩).bind λr22=>bif !r22 then some ((⟨0,0,0,[]⟩,0,false):ai×Int×Bool) else some (⟨r1.1,r2.1,r3.1,[]⟩,a,true))=some (sC r1.1 r2.1 r3.1 (some ([],a))):=by
  intro c;rw [gA hu _ (show ([]:List cV).length<=1073741824 by simp)];simp only [wk,sC,tB]
  cases c <;> cases da ⟨r1.1,r2.1,r3.1,[]⟩ <;> rfl
 exact this _
def ny(b:List Int)(a:Int):ai×Int×Bool :=
 let g1:=bK b a
 let g2:=bK b g1.2.1
 let g3:=bK b g2.2.1
 if g1.2.2 && g2.2.2 && g3.2.2 then sC g1.1 g2.1 g3.1 (nT (bG g2.1 g3.1).toNat b g3.2.1 []) else tB
theorem Gr{s l:Int}{ss:List cV}{e:Int}(h:bG s l≠0):sC 0 s l (some (ss,e))=tB:=by
 unfold sC da;dsimp only;have hz:¬ (s=0):=by
  intro h0; subst h0
  apply h
  unfold bG dj au;simp
 simp [hz]
theorem JA{u:Nat}(hu:1099511627776<=u){b:List Int}(hb:ay b)(hl:b.length<=1048576)(a:Int):oj u b a=some (ny b a):=by
 unfold oj ny mj;simp only [jn hu hb hl,wk];rcases db b a with ⟨v1,e1,h1⟩ | h1
 ·rw [h1];rcases db b e1 with ⟨v2,e2,h2⟩ | h2
  ·dsimp only;rw [h2];rcases db b e2 with ⟨v3,e3,h3⟩ | h3
   ·dsimp only;rw [h3];have p1:=eJ hb h1;have p3:=eJ hb h3;have hk:=dB v2 v3;simp only [zQJ,cond_false,zXz,if_true]
    by_cases hg:0 < v1
    ·exact KN hu hb hl (r1:=(v1,e1,true)) (r2:=(v2,e2,true)) (r3:=(v3,e3,true)) hg (bG v2 v3).toNat 0 u e3 [] (by simp) (by omega) (by simp; omega) (by omega)
    ·have h0:v1=0:=by omega
     subst h0;obtain ⟨u',rfl⟩:∃ j,u=j+1:=⟨u - 1,by omega⟩;rw [FO (r1:=(0,e1,true)) (r2:=(v2,e2,true)) (r3:=(v3,e3,true)) hu b rfl u' e3];dsimp only
     by_cases hn:bG v2 v3=0
     ·rw [hn]; rfl
     ·rw [Gr hn]
      cases hs:nT (bG v2 v3).toNat b e3 [] with
      | none=>rfl
      | some q=>obtain ⟨ss,e⟩:=q; rw [Gr hn]
   ·dsimp only;rw [h3]; rfl
  ·dsimp only;rw [h2]; simp;rfl
 ·rw [h1]; simp;rfl
theorem JB(xs:List Int):(strOfNums xs).toList=xs.map λn=>UInt8.ofNat n.toNat:=by
 rw [ByteArray.toList_eq,strOfNums_data]
theorem UQ{a b:Int}(h1:0<=a)(h2:a<=255)(h3:0<=b)(h4:b<=255)(h:UInt8.ofNat a.toNat=UInt8.ofNat b.toNat):a=b:=by
 have:=congrArg UInt8.toNat h;simp only [UInt8.toNat_ofNat'] at this;omega
theorem Mv{a b:List Int}(ha:ay a)(hb:ay b):lL a b=decide (a=b):=by
 unfold lL;rw [zYv,beq_iff_eq,decide_eq_true_eq,JB,JB];constructor
 ·intro h
  revert b
  induction a with
  | nil=>intro b _ h; cases b with
   | nil=>rfl
   | cons y b=>simp at h
  | cons x a ih =>
   intro b hb h
   cases b with
   | nil=>simp at h
   | cons y b =>
    simp only [zWv,List.cons.injEq] at h;have hx:=ha x (by simp);have hy:=hb y (by simp);rw [UQ hx.1 hx.2 hy.1 hy.2 h.1,ih (λz hz=>ha z (by simp [hz])) (λz hz=>hb z (by simp [hz])) h.2]
 ·intro h; rw [h]
def tl(b:List Int)(a:Int):List Int×Int×Bool :=
 let g:=bK b a
 if g.2.2 && decide (g.1<=6) && decide (g.1<=b.length - g.2.1) then (M.win b g.2.1.toNat g.1.toNat,g.2.1+g.1,true) else ([],0,false)
theorem Hv{u:Nat}(hu:1099511627776<=u){b:List Int}(hb:ay b)(hl:b.length<=1048576)(a:Int):mW u b a 6=some (tl b a):=by
 unfold mW tl k9;simp only [jn hu hb hl,wk];rcases db b a with ⟨v,e,h⟩ | h
 ·rw [h];have p:=eJ hb h;dsimp only
  by_cases h6:v<=6
  ·have h7:¬ v > 6:=by omega
   simp only [h6,h7,decide_true,decide_false,zQJ,cond_false,zWk];obtain ⟨v,rfl⟩:=zQG p.2.2.2.1;obtain ⟨e,rfl⟩:=zQG (show 0<=e by omega);rw [dP (by omega) (by omega)]
   by_cases hv:(v:Int)<=(b.length:Int) - (e:Int)
   ·have hv':¬ ((v:Int) > (b.length:Int) - (e:Int)):=by omega
    simp only [hv,hv',decide_true,decide_false,cond_false,if_true];rw [sB (by omega),gT (by omega) (by omega),bD (by simp; omega)];simp only [wk,rg,zQy];rw [show ((e+v:Nat):Int)=(e:Int)+(v:Int) by omega]; rfl
   ·have hv':(v:Int) > (b.length:Int) - (e:Int):=by omega
    simp [hv,hv']
  ·have h7:v > 6:=by omega
   simp [h6,h7]
 ·rw [h]; simp
theorem N8{b p:List Int}{a e:Int}(hb:ay b)(h:tl b a=(p,e,true)):0<=a/\a < e/\e<=b.length/\ay p/\p.length<=6/\b.take e.toNat=(b.take a.toNat++cA 9 p.length)++p:=by
 unfold tl at h;rcases db b a with ⟨v,e',g⟩ | g
 ·rw [g] at h;have q:=eJ hb g;dsimp only at h
  split at h
  ·rename_i hc;simp only [zWk,sk,decide_eq_true_eq] at hc;simp only [Prod.mk.injEq,and_true] at h;obtain ⟨rfl,rfl⟩:=h;obtain ⟨v,rfl⟩:=zQG q.2.2.2.1;obtain ⟨e',rfl⟩:=zQG (show 0<=e' by omega);simp only [rg] at q ⊢;have hw:(M.win b e' v).length=v:=by unfold M.win; rw [zYK,zQz]; omega
   refine ⟨q.1,by omega,by omega,lK hb _ _,by omega,?_⟩;rw [show ((e':Int)+(v:Int)).toNat=e'+v by omega,BS,q.2.2.2.2.2,hw,Jm]
  ·cases h
 ·rw [g] at h; cases h
def qk(c:List Int)(s:Int):List Int:=aZ (aZ c (fG .i64 s 1048575)) (m7 .i64 s 20)
def cZ(m:fe):List Int :=
 if m.bl=1 then oO (aZ [] m.bl) m.aw
 else if m.bl=2 then qk (qk (aZ (aZ [] m.bl) m.aP) m.ck) m.bY
 else if m.bl=3 then aZ (aZ (aZ (aZ [] m.bl) m.aP) m.fI) m.fB.length++m.fB
 else if m.bl=4 then aZ (aZ [] m.bl) m.aP
 else aZ [] m.bl
def cN(m:fe):List Int:=if gc m then aZ (cZ m) (cG (cZ m)) else []
structure M.MsgWf (m:fe):Prop where
 sums:m.aw.aO.length<=1048576
 wf:pB m.aw
 b:ay m.fB
 len:m.fB.length<=1048576
theorem gH{b:List Int}(h:ay b)(n:Int):ay (aZ b n):=by
 unfold aZ
 split
 ·exact wK h (LC 9 n)
 ·exact h
theorem KO:∀ (l:List cV) (b:List Int),ay b->ay (jv b l):=by
 intro l
 induction l with
 | nil=>intro b h; exact h
 | cons s l ih=>intro b h; exact ih _ (wK h (LC 9 s.fS))
theorem Mw{b:List Int}(h:ay b)(m:ai):ay (oO b m):=by
 unfold oO
 split
 ·exact KO _ _ (gH (gH (gH h _) _) _)
 ·exact h
theorem BT(b:List Int)(m:ai):(oO b m).length<=b.length+430:=by
 unfold oO
 split
 ·rename_i h;have h0:=u4 h;have h1:=bQ b m.aP;have h2:=bQ (aZ b m.aP) m.av;have h3:=bQ (aZ (aZ b m.aP) m.av) m.aX;have h4:=Jr m.aO (aZ (aZ (aZ b m.aP) m.av) m.aX);omega
 ·omega
theorem jw:ay []:=λx hx=>by simp at hx
theorem JC{m:fe}(hm:M.MsgWf m):ay (cZ m)/\(cZ m).length<=1049600:=by
 have k:=bQ [] m.bl;have kb:=gH jw m.bl;have g:=bQ (aZ [] m.bl) m.aP;have gb:=gH kb m.aP;simp only [zXK] at k;unfold cZ qk
 split
 ·exact ⟨Mw kb _,by have:=BT (aZ [] m.bl) m.aw; omega⟩
 ·split
  ·refine ⟨gH (gH (gH (gH gb _) _) _) _,?_⟩;have h1:=bQ (aZ (aZ [] m.bl) m.aP) (fG .i64 m.ck 1048575);have h2:=bQ (aZ (aZ (aZ [] m.bl) m.aP) (fG .i64 m.ck 1048575)) (m7 .i64 m.ck 20);have h3:=bQ (aZ (aZ (aZ (aZ [] m.bl) m.aP) (fG .i64 m.ck 1048575)) (m7 .i64 m.ck 20)) (fG .i64 m.bY 1048575);have h4:=bQ (aZ (aZ (aZ (aZ (aZ [] m.bl) m.aP) (fG .i64 m.ck 1048575)) (m7 .i64 m.ck 20)) (fG .i64 m.bY 1048575)) (m7 .i64 m.bY 20);omega
  ·split
   ·refine ⟨wK (gH (gH gb _) _) hm.b,?_⟩;have h1:=bQ (aZ (aZ [] m.bl) m.aP) m.fI;have h2:=bQ (aZ (aZ (aZ [] m.bl) m.aP) m.fI) m.fB.length;have h3:=hm.len;rw [zQK]; omega
   ·split
    ·exact ⟨gb,by omega⟩
    ·exact ⟨kb,by omega⟩
theorem eC{c:List Int}{n:Int}(h0:0<=n)(h1:n<=1000000000000):aZ c n=c++cA 9 n:=by
 unfold aZ;rw [if_pos (by simp [au]; omega)]
theorem N9{b:List Int}(hb:ay b):∀ (n:Nat) (a:Int) (acc l:List cV) (e:Int),nT n b a acc=some (l,e)->0<=a->a<=b.length->∃ l',l=acc++l'/\a<=e/\e<=b.length/\b.take e.toNat=jv (b.take a.toNat) l'/\∀ s∈l',s.fS<=9223372036854775807:=by
 intro n
 induction n with
 | zero =>
  intro a acc l e h h0 h1;simp only [nT,Option.some.injEq,Prod.mk.injEq] at h;obtain ⟨rfl,rfl⟩:=h;exact ⟨[],by simp,by omega,h1,rfl,by simp⟩
 | succ n ih =>
  intro a acc l e h h0 h1;unfold nT at h
  cases hr:uv 8 b a with
  | none=>rw [hr] at h; cases h
  | some q =>
   obtain ⟨v,e1⟩:=q;rw [hr] at h;dsimp only at h;have p:=D5 hb hr (by omega)
   split at h
   ·rename_i hv;obtain ⟨l',g1,g2,g3,g4,g5⟩:=ih e1 _ l e h (by omega) p.2.2.1;have hs:(dZ (cg v).1).fS=v:=by
     have:=w8 (s:=v) (b:=(cg v).1) (by rw [<- hv]);rw [this]
    have hp:(128:Int) ^ 8=72057594037927936:=by decide
    refine ⟨dZ (cg v).1 :: l',by rw [g1]; simp,by omega,g3,?_,?_⟩
    ·rw [g4,p.2.2.2.2.2,jv,hs]
    ·intro s hs';rcases List.mem_cons.1 hs' with rfl | hs'
     ·rw [hs]; omega
     ·exact g5 s hs'
   ·cases h
theorem Pv{b:List Int}(hb:ay b){a e:Int}{m:ai}(h:ny b a=(m,e,true)):0<=a/\a<=e/\e<=b.length/\da m=true/\pB m/\b.take e.toNat=oO (b.take a.toNat) m:=by
 unfold ny at h;rcases db b a with ⟨v1,e1,h1⟩ | h1
 ·rw [h1] at h;dsimp only at h;rcases db b e1 with ⟨v2,e2,h2⟩ | h2
  ·rw [h2] at h;dsimp only at h;rcases db b e2 with ⟨v3,e3,h3⟩ | h3
   ·rw [h3] at h;simp only [zXz,if_true] at h;have p1:=eJ hb h1;have p2:=eJ hb h2;have p3:=eJ hb h3
    cases hs:nT (bG v2 v3).toNat b e3 [] with
    | none=>rw [hs] at h; cases h
    | some q =>
     obtain ⟨ss,e'⟩:=q;rw [hs] at h;unfold sC at h;dsimp only at h
     split at h
     ·rename_i hm;simp only [Prod.mk.injEq,and_true] at h;obtain ⟨rfl,rfl⟩:=h;obtain ⟨l',g1,g2,g3,g4,g5⟩:=N9 hb _ e3 [] ss e' hs (by omega) p3.2.2.1;rw [zQy] at g1;subst g1;refine ⟨p1.1,by omega,g3,hm,g5,?_⟩;unfold oO;rw [if_pos hm,eC p1.2.2.2.1 p1.2.2.2.2.1,eC p2.2.2.2.1 p2.2.2.2.2.1,eC p3.2.2.2.1 p3.2.2.2.2.1,g4,p3.2.2.2.2.2,p2.2.2.2.2.2,p1.2.2.2.2.2]
     ·cases h
   ·rw [h3] at h; simp [tB] at h
  ·rw [h2] at h; simp [tB] at h
 ·rw [h1] at h; simp [tB] at h
def uK(n:Int):Bool:=decide (n < 1048576)
def Hw:ai:=⟨0,0,0,[]⟩
def yb(b:List Int)(a:Int):Option (fe×Int) :=
 let g0:=bK b a
 let g1:=bK b g0.2.1
 let g2:=bK b g1.2.1
 let g3:=bK b g2.2.1
 let g4:=bK b g3.2.1
 if g0.2.2 && ((g1.2.2 && uK g1.1) && ((g2.2.2 && uK g2.1) && ((g3.2.2 && uK g3.1) && (g4.2.2 && uK g4.1)))) then some (⟨2,g0.1,Hw,g1.1+g2.1*1048576,g3.1+g4.1*1048576,0,[]⟩,g4.2.1) else none
def AL(b:List Int)(a:Int):Option (fe×Int) :=
 let g0:=bK b a
 let g1:=bK b g0.2.1
 let g2:=tl b g1.2.1
 if g0.2.2 && g1.2.2 && g2.2.2 then some (⟨3,g0.1,Hw,0,0,g1.1,g2.1⟩,g2.2.1) else none
theorem tD{b:List Int}(hb:ay b)(a:Int):0<=(bK b a).1:=by
 rcases db b a with ⟨v,e,h⟩ | h
 ·rw [h]; exact (eJ hb h).2.2.2.1
 ·rw [h]; exact zVK 0
theorem SE{u:Nat}(hu:1099511627776<=u){b:List Int}(hb:ay b)(hl:b.length<=1048576)(k:Nat)(a:Int)(acc:List Int)(i:Nat)(hi:i < 4)(hacc:acc.length<=4)(p2:Int)(r2:Int×Int×Bool) :
  cB u (k+1) b a acc i p2 r2=if (bK b a).2.2 && uK (bK b a).1 then cB u k b (bK b a).2.1 (acc++[(bK b a).1]) ((i+1:Nat):Int) p2 r2 else some (⟨p2,r2.1,Hw,0,0,0,[]⟩,0,false):=by
 have e:(i:Int) < 4:=by omega
 rw [cB];simp only [e,decide_true,cond_true,jn hu hb hl,wk];unfold jE uK;rw [bD (by simp; omega),ep (by omega)]
 cases h:(bK b a).2.2 with
 | false=>rfl
 | true =>
  by_cases hq:(bK b a).1 < 1048576
  ·have hq':¬ (bK b a).1>=1048576:=by omega
   simp [hq,hq']
  ·have hq':(bK b a).1>=1048576:=by omega
   simp [hq,hq',Hw]
theorem D6{x y:Int}(h1:0<=x)(h2:x < 1048576)(h3:0<=y)(h4:y < 1048576):be .i64 x (lI .i64 y 20)=x+y*1048576/\u3 .i64 x (lI .i64 y 20)=x+y*1048576/\fG .i64 (x+y*1048576) 1048575=x/\m7 .i64 (x+y*1048576) 20=y:=by
 obtain ⟨a,rfl⟩:=zQG h1;obtain ⟨c,rfl⟩:=zQG h3;have hp:(2:Nat) ^ 20=1048576:=by decide
 have e:=Jz (a:=c) (n:=20) (by omega) (by rw [hp]; omega);rw [hp] at e;rw [show ((20:Nat):Int)=20 by rfl] at e;rw [e];refine ⟨by rw [dE (by omega) (by omega)]; omega,?_,?_,?_⟩
 ·have h:=SC (v:=a) (a:=c) (n:=20) (by rw [hp]; omega);rw [hp] at h;rw [DY (by omega) (by omega),h]; omega
 ·rw [show (a:Int)+(c:Int)*1048576=((a+c*1048576:Nat):Int) by omega,show (1048575:Int)=((1048575:Nat):Int) by rfl,NY (by omega) (by omega),show (1048575:Nat)=2 ^ 20 - 1 by decide,zZH,hp]; omega
 ·rw [show (a:Int)+(c:Int)*1048576=((a+c*1048576:Nat):Int) by omega,show (20:Int)=((20:Nat):Int) by rfl,NZ (by omega),hp]; omega
theorem Pw{u:Nat}(hu:1099511627776<=u){b:List Int}(hb:ay b)(hl:b.length<=1048576)(a:Int):∃ r,eE u b a 2=some r/\(match yb b a with | some (m,e)=>r=(m,e,true) | none=>r.2.2=false):=by
 obtain ⟨u',hu'⟩:∃ j,u=j+5:=⟨u - 5,by omega⟩;unfold eE yb;rw [show ((2:Int) == 1)=false by rfl,show ((2:Int) == 2)=true by rfl];simp only [cond_false,cond_true,jn hu hb hl,wk]
 cases h0:(bK b a).2.2 with
 | false=>exact ⟨_,rfl,rfl⟩
 | true =>
  simp only [zQJ,cond_false,zWk];have st:∀ (k:Nat) (a:Int) (acc:List Int) (i:Nat),i < 4->acc.length<=4->∀ r2:Int×Int×Bool,cB u (k+1) b a acc i 2 r2=if (bK b a).2.2 && uK (bK b a).1 then cB u k b (bK b a).2.1 (acc++[(bK b a).1]) ((i+1:Nat):Int) 2 r2 else some (⟨2,r2.1,Hw,0,0,0,[]⟩,0,false):=λk a acc i h1 h2 r2=>SE hu hb hl k a acc i h1 h2 2 r2
  generalize hv:bK b a=g0;rw [show cB u u b g0.2.1 [] 0 2 g0=cB u (u'+4+1) b g0.2.1 [] ((0:Nat):Int) 2 g0 by rw [<- hu']; rfl,st _ _ _ 0 (by omega) (by simp)]
  cases h1:((bK b g0.2.1).2.2 && uK (bK b g0.2.1).1) with
  | false=>exact ⟨_,rfl,rfl⟩
  | true =>
   simp only [if_true,zWk,zQy];rw [show u'+4=u'+3+1 by omega,st _ _ _ 1 (by omega) (by simp)];generalize hv1:bK b g0.2.1=g1
   cases h2:((bK b g1.2.1).2.2 && uK (bK b g1.2.1).1) with
   | false=>exact ⟨_,rfl,rfl⟩
   | true =>
    simp only [if_true,zWk];rw [show u'+3=u'+2+1 by omega,st _ _ _ 2 (by omega) (by simp)];generalize hv2:bK b g1.2.1=g2
    cases h3:((bK b g2.2.1).2.2 && uK (bK b g2.2.1).1) with
    | false=>exact ⟨_,rfl,rfl⟩
    | true =>
     simp only [if_true,zWk];rw [show u'+2=u'+1+1 by omega,st _ _ _ 3 (by omega) (by simp)];generalize hv3:bK b g2.2.1=g3
     cases h4:((bK b g3.2.1).2.2 && uK (bK b g3.2.1).1) with
     | false=>exact ⟨_,rfl,rfl⟩
     | true =>
      simp only [if_true];rw [cB];have e:¬ (((3+1:Nat):Int) < 4):=by omega
      simp only [e,decide_false,cond_false];unfold nj ni;rw [show (0:Int)=((0:Nat):Int) by rfl,show (1:Int)=((1:Nat):Int) by rfl,show (2:Int)=((2:Nat):Int) by rfl,show (3:Int)=((3:Nat):Int) by rfl];simp only [dg,zQy,List.cons_append,zQZ,zWQ,List.getElem?_cons_succ,wk];refine ⟨_,rfl,?_⟩;have r1:0<=g1.1/\g1.1 < 1048576:=by
       rw [<- hv1]; refine ⟨tD hb _,?_⟩;simp only [sk,uK,decide_eq_true_eq] at h1; exact h1.2
      have r2:0<=g2.1/\g2.1 < 1048576:=by
       rw [<- hv2]; refine ⟨tD hb _,?_⟩;simp only [sk,uK,decide_eq_true_eq] at h2; exact h2.2
      have r3:0<=g3.1/\g3.1 < 1048576:=by
       rw [<- hv3]; refine ⟨tD hb _,?_⟩;simp only [sk,uK,decide_eq_true_eq] at h3; exact h3.2
      have r4:0<=(bK b g3.2.1).1/\(bK b g3.2.1).1 < 1048576:=by
       refine ⟨tD hb _,?_⟩;simp only [sk,uK,decide_eq_true_eq] at h4; exact h4.2
      rw [(D6 r1.1 r1.2 r2.1 r2.2).1,(D6 r3.1 r3.2 r4.1 r4.2).1];rfl
theorem yT{k:Int}(h0:0<=k)(h1:k<=1000000000000):aZ [] k=cA 9 k:=by rw [eC h0 h1]; rfl
theorem D7(k g w d i:Int){p:List Int}(hp:ay p)(hl:p.length<=1048576):M.MsgWf ⟨k,g,Hw,w,d,i,p⟩:=⟨by simp [Hw],by intro s hs; simp [Hw] at hs,hp,hl⟩
theorem Vz{b:List Int}(hb:ay b){a e:Int}{m:fe}(ha:b.take a.toNat=cA 9 2)(h:yb b a=some (m,e)):M.MsgWf m/\0<=e/\e<=b.length/\cZ m=b.take e.toNat:=by
 unfold yb at h;dsimp only at h
 split at h
 ·rename_i hc;simp only [sk,uK,decide_eq_true_eq] at hc;obtain ⟨k0,⟨k1,l1⟩,⟨k2,l2⟩,⟨k3,l3⟩,k4,l4⟩:=hc;simp only [Option.some.injEq,Prod.mk.injEq] at h;obtain ⟨rfl,rfl⟩:=h;rcases (db b a).symm with h0 | ⟨v0,e0,h0⟩
  ·simp [h0] at k0
  simp only [h0] at k0 k1 l1 k2 l2 k3 l3 k4 l4 ⊢;rcases (db b e0).symm with h1 | ⟨v1,e1,h1⟩
  ·simp [h1] at k1
  simp only [h1] at k0 k1 l1 k2 l2 k3 l3 k4 l4 ⊢;rcases (db b e1).symm with h2 | ⟨v2,e2,h2⟩
  ·simp [h2] at k2
  simp only [h2] at k0 k1 l1 k2 l2 k3 l3 k4 l4 ⊢;rcases (db b e2).symm with h3 | ⟨v3,e3,h3⟩
  ·simp [h3] at k3
  simp only [h3] at k0 k1 l1 k2 l2 k3 l3 k4 l4 ⊢;rcases (db b e3).symm with h4 | ⟨v4,e4,h4⟩
  ·simp [h4] at k4
  simp only [h4] at k0 k1 l1 k2 l2 k3 l3 k4 l4 ⊢;have p0:=eJ hb h0;have p1:=eJ hb h1;have p2:=eJ hb h2;have p3:=eJ hb h3;have p4:=eJ hb h4;have s1:=D6 p1.2.2.2.1 l1 p2.2.2.2.1 l2;have s2:=D6 p3.2.2.2.1 l3 p4.2.2.2.1 l4;refine ⟨D7 _ _ _ _ _ jw (by simp),by omega,p4.2.2.1,?_⟩;show qk (qk (aZ (aZ [] 2) v0) (v1+v2*1048576)) (v3+v4*1048576)=b.take e4.toNat;unfold qk;rw [s1.2.2.1,s1.2.2.2,s2.2.2.1,s2.2.2.2,yT (by omega) (by omega),eC p0.2.2.2.1 p0.2.2.2.2.1,eC p1.2.2.2.1 p1.2.2.2.2.1,eC p2.2.2.2.1 p2.2.2.2.2.1,eC p3.2.2.2.1 p3.2.2.2.2.1,eC p4.2.2.2.1 p4.2.2.2.2.1];rw [p4.2.2.2.2.2,p3.2.2.2.2.2,p2.2.2.2.2.2,p1.2.2.2.2.2,p0.2.2.2.2.2,ha]
 ·cases h
def yU(r:fe×Int×Bool)(o:Option (fe×Int)):Prop:=match o with
 | some (m,e)=>r=(m,e,true)
 | none=>r.2.2=false\/(r.1.aw.aO.length<=1048576/\gc r.1=false)
def M.puts(b:List Int)(o:Option (fe×Int)):Prop:=∀ m e,o=some (m,e)->M.MsgWf m/\0<=e/\e<=b.length/\cZ m=b.take e.toNat
theorem LH{α:Type}(r:α×Int×Bool)(h:r.2.2=true):r=(r.1,r.2.1,true):=by rw [<- h]
def AM(b:List Int)(a:Int):Option (fe×Int):=if (ny b a).2.2 then some (⟨1,0,(ny b a).1,0,0,0,[]⟩,(ny b a).2.1) else none
def AN(b:List Int)(a:Int):Option (fe×Int):=if (bK b a).2.2 then some (⟨4,(bK b a).1,Hw,0,0,0,[]⟩,(bK b a).2.1) else none
theorem Px{u:Nat}(hu:1099511627776<=u){b:List Int}(hb:ay b)(hl:b.length<=1048576)(a:Int):∃ r,eE u b a 1=some r/\yU r (AM b a):=by
 refine ⟨(⟨1,0,(ny b a).1,0,0,0,[]⟩,(ny b a).2.1,(ny b a).2.2),?_,?_⟩
 ·unfold eE;rw [JA hu hb hl]; rfl
 ·unfold AM yU
  cases h:(ny b a).2.2 with
  | false=>exact .inl rfl
  | true=>rfl
theorem VA{b:List Int}(hb:ay b){a:Int}(ha:b.take a.toNat=cA 9 1):M.puts b (AM b a):=by
 intro m e h;unfold AM at h
 split at h
 ·rename_i hc;simp only [Option.some.injEq,Prod.mk.injEq] at h;obtain ⟨rfl,rfl⟩:=h;have p:=Pv hb (LH _ hc);refine ⟨⟨by have:=u4 p.2.2.2.1; show (ny b a).1.aO.length<=_; omega,p.2.2.2.2.1,jw,by simp⟩,by omega,p.2.2.1,?_⟩;rw [p.2.2.2.2.2,ha,<- yT (by omega) (by omega)];rfl
 ·cases h
theorem Py{u:Nat}(hu:1099511627776<=u){b:List Int}(hb:ay b)(hl:b.length<=1048576)(a:Int):∃ r,eE u b a 3=some r/\yU r (AL b a):=by
 unfold eE AL;rw [show ((3:Int) == 1)=false by rfl,show ((3:Int) == 2)=false by rfl,show ((3:Int) == 3)=true by rfl];simp only [cond_false,cond_true,jn hu hb hl,Hv hu hb hl,wk];rcases db b a with ⟨v0,e0,h0⟩ | h0
 ·rw [h0];dsimp only;rcases db b e0 with ⟨v1,e1,h1⟩ | h1
  ·rw [h1];dsimp only
   cases h2:(tl b e1).2.2 with
   | false=>exact ⟨_,rfl,.inl rfl⟩
   | true=>exact ⟨_,rfl,rfl⟩
  ·rw [h1]; exact ⟨_,rfl,.inl rfl⟩
 ·rw [h0]; exact ⟨_,rfl,.inl rfl⟩
theorem VB{b:List Int}(hb:ay b){a:Int}(ha:b.take a.toNat=cA 9 3):M.puts b (AL b a):=by
 intro m e h;unfold AL at h;dsimp only at h
 split at h
 ·rename_i hc;simp only [sk] at hc;obtain ⟨⟨k0,k1⟩,k2⟩:=hc;simp only [Option.some.injEq,Prod.mk.injEq] at h;obtain ⟨rfl,rfl⟩:=h;have p0:=eJ hb (LH _ k0);have p1:=eJ hb (LH _ k1);have p2:=N8 hb (LH _ k2);generalize bK b a=g0 at *;generalize bK b g0.2.1=g1 at *;generalize tl b g1.2.1=g2 at *;refine ⟨D7 _ _ _ _ _ p2.2.2.2.1 (by omega),by omega,p2.2.2.1,?_⟩;show aZ (aZ (aZ (aZ [] 3) g0.1) g1.1) g2.1.length++g2.1=b.take g2.2.1.toNat;rw [yT (by omega) (by omega),eC p0.2.2.2.1 p0.2.2.2.2.1,eC p1.2.2.2.1 p1.2.2.2.2.1,eC (by omega) (by omega),p2.2.2.2.2.2,p1.2.2.2.2.2,p0.2.2.2.2.2,ha]
 ·cases h
theorem Pz{u:Nat}(hu:1099511627776<=u){b:List Int}(hb:ay b)(hl:b.length<=1048576)(a:Int):∃ r,eE u b a 4=some r/\yU r (AN b a):=by
 unfold eE AN;rw [show ((4:Int) == 1)=false by rfl,show ((4:Int) == 2)=false by rfl,show ((4:Int) == 3)=false by rfl];simp only [cond_false,cond_true,jn hu hb hl,wk];rcases db b a with ⟨v0,e0,h0⟩ | h0
 ·rw [h0]; exact ⟨_,rfl,rfl⟩
 ·rw [h0]; exact ⟨_,rfl,.inl rfl⟩
theorem VC{b:List Int}(hb:ay b){a:Int}(ha:b.take a.toNat=cA 9 4):M.puts b (AN b a):=by
 intro m e h;unfold AN at h
 split at h
 ·rename_i k0;simp only [Option.some.injEq,Prod.mk.injEq] at h;obtain ⟨rfl,rfl⟩:=h;have p0:=eJ hb (LH _ k0);generalize bK b a=g0 at *;refine ⟨D7 _ _ _ _ _ jw (by simp),by omega,p0.2.2.1,?_⟩;show aZ (aZ [] 4) g0.1=b.take g0.2.1.toNat;rw [yT (by omega) (by omega),eC p0.2.2.2.1 p0.2.2.2.2.1,p0.2.2.2.2.2,ha]
 ·cases h
def CB(b:List Int)(kind a:Int):Option (fe×Int):=if kind=1 then AM b a else if kind=2 then yb b a else if kind=3 then AL b a else if kind=4 then AN b a else none
theorem JD{m:fe}(h1:m.bl≠1)(h2:m.bl≠2)(h3:m.bl≠3)(h4:m.bl≠4):gc m=false:=by
 unfold gc; rw [if_neg h1,if_neg h2,if_neg h3,if_neg h4]
theorem Rf{u:Nat}(hu:1099511627776<=u){b:List Int}(hb:ay b)(hl:b.length<=1048576)(k a:Int):∃ r,eE u b a k=some r/\yU r (CB b k a):=by
 unfold CB
 by_cases h1:k=1
 ·subst h1; exact Px hu hb hl a
 ·rw [if_neg h1]
  by_cases h2:k=2
  ·subst h2;obtain ⟨r,g1,g2⟩:=Pw hu hb hl a;refine ⟨r,g1,?_⟩;rw [if_pos rfl];unfold yU
   cases hp:yb b a with
   | none=>rw [hp] at g2; exact .inl g2
   | some q=>rw [hp] at g2; exact g2
  ·rw [if_neg h2]
   by_cases h3:k=3
   ·subst h3; exact Py hu hb hl a
   ·rw [if_neg h3]
    by_cases h4:k=4
    ·subst h4; exact Pz hu hb hl a
    ·rw [if_neg h4];have e1:(k == 1)=false:=by simpa using h1
     have e2:(k == 2)=false:=by simpa using h2
     have e3:(k == 3)=false:=by simpa using h3
     unfold eE;rw [e1,e2,e3];simp only [cond_false,jn hu hb hl,wk];rcases db b a with ⟨v0,e0,h0⟩ | h0
     ·rw [h0];exact ⟨(⟨k,v0,⟨0,0,0,[]⟩,0,0,0,[]⟩,e0,true),rfl,.inr ⟨by simp,JD h1 h2 h3 h4⟩⟩
     ·rw [h0]; exact ⟨_,rfl,.inl rfl⟩
theorem LI{b:List Int}(hb:ay b){k a:Int}(ha:b.take a.toNat=cA 9 k):M.puts b (CB b k a):=by
 unfold CB
 by_cases h1:k=1
 ·subst h1; exact VA hb ha
 ·rw [if_neg h1]
  by_cases h2:k=2
  ·subst h2; exact λm e h=>Vz hb ha h
  ·rw [if_neg h2]
   by_cases h3:k=3
   ·subst h3; exact VB hb ha
   ·rw [if_neg h3]
    by_cases h4:k=4
    ·subst h4; exact VC hb ha
    ·rw [if_neg h4]; intro m e h; cases h
def wO:fe×Bool:=(⟨0,0,⟨0,0,0,[]⟩,0,0,0,[]⟩,false)
def bR(b:List Int):fe×Bool:=if (bK b 0).2.2 && decide (b.length<=400) then match CB b (bK b 0).1 (bK b 0).2.1 with
  | some (m,e)=>if gc m && decide (cN m=b) then (m,true) else wO
  | none=>wO
 else wO
theorem D8{m:fe}(h:M.MsgWf m):ay (cN m):=by
 unfold cN
 split
 ·exact gH (JC h).1 _
 ·exact jw
theorem UR{b:List Int}(hb:ay b){m:fe}{e:Int}(h0:0<=e)(h1:e<=b.length)(hp:cZ m=b.take e.toNat)(hm:gc m=true):cN m=b↔bK b e=(cG (b.take e.toNat),(b.length:Int),true):=by
 have hw:=DW (b.take e.toNat);unfold cN;rw [if_pos hm,hp,eC hw.1 (by omega)];have hlen:(b.take e.toNat).length=e.toNat:=by rw [zQz]; omega
 constructor
 ·intro h;have g:=CA (p:=b.take e.toNat) (n:=cG (b.take e.toNat)) [] hw.1 (by omega);rw [zWY,h,hlen,show ((e.toNat:Nat):Int)=e by omega] at g;rw [g];refine Prod.ext rfl (Prod.ext ?_ rfl);have:=congrArg zYH h;rw [zQK,hlen] at this;dsimp only; omega
 ·intro h;have p:=eJ hb h;rw [<- p.2.2.2.2.2,rg,List.take_length]
theorem vV{u:Nat}(hu:1099511627776<=u){b:List Int}(hb:ay b)(hl:b.length<=1048576):jT u b=some (bR b):=by
 unfold jT bR oo om ml;simp only [jn hu hb hl,wk];rcases db b 0 with ⟨k,a,h0⟩ | h0
 ·rw [h0];have p:=eJ hb h0;have ha:b.take a.toNat=cA 9 k:=by rw [p.2.2.2.2.2]; rfl
  by_cases h4:b.length<=400
  ·have h4':¬ ((b.length:Int) > 400):=by omega
   simp only [h4,h4',decide_true,decide_false,zXz,if_true,zQJ,cond_false];obtain ⟨r,g1,g2⟩:=Rf hu hb hl k a;rw [g1];simp only [wk]
   cases hr:CB b k a with
   | none =>
    rw [hr] at g2;rcases g2 with g2 | ⟨g2,g3⟩
    ·rw [g2]; rfl
    ·cases hf:r.2.2 with
     | false=>rfl
     | true =>
      rw [xe hu g2,g3]; rfl
   | some q =>
    obtain ⟨m,e⟩:=q;rw [hr] at g2;have w:=LI hb ha m e hr;unfold yU at g2;dsimp only at g2;rw [g2];dsimp only;rw [xe hu w.1.sums];simp only [zQJ,cond_false,wk]
    cases hm:gc m with
    | false=>rfl
    | true =>
     have hs:=UR hb w.2.1 w.2.2.1 w.2.2.2 hm;obtain ⟨e,rfl⟩:=zQG w.2.1;simp only [zQJ,cond_false,rg] at hs ⊢;rw [show (0:Int)=((0:Nat):Int) by rfl,gT (by omega) (by have:=w.2.2.1; omega)];simp only [wk,rg,List.drop_zero];rw [sA hu (λx hx=>hb x (zQg hx)) (by rw [zQz]; omega)];simp only [wk];rcases db b e with ⟨v,e',h5⟩ | h5
     ·rw [h5] at hs ⊢;simp only [zQJ,cond_false]
      by_cases he:e'=(b.length:Int)
      ·by_cases hv:v=cG (b.take e)
       ·have:cN m=b:=hs.2 (by rw [he,hv]);simp [he,hv,this]
       ·have:¬ cN m=b:=λh=>hv (by have:=hs.1 h; simp only [Prod.mk.injEq] at this; exact this.1);have hv':(v != cG (b.take e))=true:=by simpa using hv
        simp [he,this,wO];rw [hv']; rfl
      ·have:¬ cN m=b:=λh=>he (by have:=hs.1 h; simp only [Prod.mk.injEq] at this; exact this.2.1);have he':(e' != (b.length:Int))=true:=by simpa using he
       simp [this,wO];rw [he']; rfl
     ·rw [h5] at hs ⊢;have:¬ cN m=b:=λh=>by have:=hs.1 h; simp at this
      simp [this,wO]
  ·have h4':(b.length:Int) > 400:=by omega
   simp [h4,h4',wO]
 ·rw [h0]; simp [wO]
theorem CC{u:Nat}(hu:1099511627776<=u){w:World}(hl:w.bk.length<=1048576)(ev:cq):fK u u 0 w ev=some (w.bk.any λp=>lL p.fB ev.fP.fB):=by
 rw [B5 u w ev () u (by omega) (by omega)];have:∀ (l:List ah) (i:Nat),cy (vn u w ev) (qQ u w ev) l i ()=some (l.any λp=>lL p.fB ev.fP.fB):=by
  intro l
  induction l with
  | nil=>intro i; rfl
  | cons x l ih =>
   intro i;simp only [cy,qQ,wL,wk,List.any_cons];rw [ih (i+1)]
   cases lL x.fB ev.fP.fB <;> rfl
 exact this _ 0
def AO(w:World)(i:Nat):Bool:=match w.fN[i]? with | some x=>x.aY == 5 | none=>false
def yd(w:World):List Int:=((zWh 0 w.fN.length).filter (AO w)).map λ(k:Nat)=>(k:Int)
theorem LJ{w:World}{i:Nat}{x:aA}(h:w.fN[i]?=some x):AO w i=(x.aY == 5):=by unfold AO; rw [h]
theorem JE{u:Nat}(hu:1099511627776<=u){w:World}(hn:w.fN.length<=1048576):tS u w=some (yd w):=by
 unfold tS eF;rw [n8 u w _ u (by omega) (by omega),Q9 (AO w) w.fN w.fN 0 [] (by simp) (by simp)]
 ·simp [iT,dY,yd]
 ·intro x i s k hx hs;have:=N2 hx;unfold iU cJ qa;simp only [wk,LJ hx];rw [bD (by simp; omega)]; rfl
theorem SF{u:Nat}(hu:1099511627776<=u){c:aG}(hc:Cu c):Dr (s0 u c) (λm=>m.aO.length<=41/\pB m):=by
 unfold s0 og;obtain ⟨b,c1,e1,hb,h1⟩:=Jx hu hc;obtain ⟨n,c2,e2,_,h2⟩:=cH u h1 5;obtain ⟨s,c3,e3,_,h3⟩:=cH u h2 5;have hb1:=hb.1;rw [e1];simp only [wk,e2,e3];rw [w9 hu hb.2 (by omega)];simp only [wk];generalize hm:ga (be .i64 1 n) b (be .i64 2 s)=m;have hl:m.aO.length<=40:=hm ▸ FI _ _ _;have hw:pB m:=hm ▸ Jq _ b _ hb.2;refine cz (cH u h3 10) λv c4 _ h4=>?_;simp only
 cases v == 0 with
 | true =>
  simp only [cond_true];exact cz (nx u h4 (by simp)) λx c5 _ h5=>cU ⟨by show m.aO.length<=41; omega,hw⟩ h5
 | false =>
  simp only [cond_false]
  cases v == 1 with
  | true =>
   simp only [cond_true];exact cz (nx u h4 (by simp)) λx c5 _ h5=>cU ⟨by show m.aO.length<=41; omega,hw⟩ h5
  | false =>
   simp only [cond_false]
   cases v == 2 with
   | true=>exact cU ⟨by show m.aO.length<=41; omega,hw⟩ h4
   | false =>
    simp only [cond_false]
    cases v == 3 with
    | true =>
     simp only [cond_true];rw [bD (by simp; omega)];simp only [wk];refine cU ⟨by show (m.aO++[cV.mk 1 257]).length<=41; simp; omega,λx hx=>?_⟩ h4;rcases List.mem_append.1 hx with h | h
     ·exact hw x h
     ·simp only [zQV] at h;subst h;show (257:Int)<=9223372036854775807;omega
    | false =>
     simp only [cond_false]
     cases v == 4 with
     | false=>exact cU ⟨by show m.aO.length<=41; omega,hw⟩ h4
     | true =>
      simp only [cond_true]
      by_cases hp:(m.aO.length:Int) > 0
      ·simp only [hp,decide_true,cond_true];have hlt:0 < m.aO.length:=by omega
       have e0:dV m.aO 0=some (m.aO[0]'hlt):=i6 m.aO 0 (sX hlt);simp only [e0,wk];refine cU ⟨?_,λx hx=>?_⟩ h4
       ·show (m.aO.set _ _).length<=41;rw [zXG]; omega
       ·rcases zWg hx with h | h
        ·exact hw x h
        ·subst h;have hq:=hw _ (zYV hlt);exact hq
      ·simp only [hp,decide_false,cond_false];exact cU ⟨by show m.aO.length<=41; omega,hw⟩ h4
theorem PA(i:Int):cT 0 i=false:=by simp [cT]
theorem Oa:∀ (l:List c8) (d:ar),(vU l d).fP=[]
 | [],d=>rfl
 | p :: l,d=>Oa l _
def kY{α:Type}(f:α->Nat->Bool):List α->Nat->Bool
 | [],_=>true
 | x :: l,i=>f x i && kY f l (i+1)
theorem CD{α:Type}{fin:Unit->Option Bool}{body:α->Nat->Unit->(Unit->Option Bool)->Option Bool}(f:α->Nat->Bool){xs:List α}{b:Bool}(hf:fin ()=some b)(i0:Nat)(hb:∀ x i k,i0<=i->xs[i]?=some x->body x i () k=bif f x i then k () else some false) :
  ∀ (l:List α) (i:Nat),i0<=i->l=xs.drop i->cy fin body l i ()=some (kY f l i && b):=by
 intro l
 induction l with
 | nil=>intro i _ _; simp [cy,kY,hf]
 | cons x l ih =>
  intro i h0 h;have hx:xs[i]?=some x:=by
   have:=congrArg zYz h
   simpa [zXw] using this.symm
  have hl:l=xs.drop (i+1):=by
   have:=congrArg zZX h
   simpa [zXg] using this
  simp only [cy,kY];rw [hb x i _ h0 hx,ih (i+1) (by omega) hl]
  cases f x i <;> simp
def AP(x:Int)(i:Nat):Bool:=if i=0 then x == -1 else au x 0 ((i:Int) - 1)
def jo(t:cS):Bool:=kY AP t.b9 0 && au t.b9.length 1 7
theorem vW{u:Nat}(hu:1099511627776<=u){t:cS}(hl:t.b9.length<=1073741824):od u t=some (jo t):=by
 unfold od jo rk;simp only [bH,wk]
 cases hw:au t.b9.length 1 7 with
 | false=>simp
 | true =>
  have:=ce hw
  match hup:t.b9 with
  | []=>rw [hup] at this; simp at this
  | x :: l =>
   have h1:dV (x :: l) 0=some x:=rfl;simp only [zQJ,cond_false,h1,wk,kY,AP,↓reduceIte,Bool.and_true]
   by_cases hx:x=-1
   ·subst hx;simp only [bne_self_eq_false,cond_false,beq_self_eq_true,zWk];have h:=NF (fin:=xj u t) (body:=λy i s k=>sL u t y i s k) (xs:=t.b9) (λk s i=>i9 u k i t) (by omega) (λ_ _ _=>rfl) (t.b9.drop 1) u 1 () rfl (by simp; omega);have h2:i9 u u 1 t=some (kY AP (t.b9.drop 1) 1 && true):=by
     rw [show ((1:Int))=((1:Nat):Int) from rfl,h];refine CD AP rfl 1 (λy i k h0 hy=>?_) _ 1 (zWj _) rfl;have hi:i < t.b9.length:=(List.getElem?_eq_some_iff.1 hy).1;have e0:i≠0:=by omega
     unfold sL AP;simp (disch:=omega) only [e0,dP,bH,wk,↓reduceIte]
     cases au y 0 ((i:Int) - 1) <;> rfl
    rw [h2,hup];simp
   ·have:(x == -1)=false:=by simpa using hx
    simp [this,bne]
def kQ(up:List Int):Nat->Int->List Int
 | 0,_=>[]
 | n+1,k=>if au k 0 ((up.length:Int) - 1) then k :: kQ up n ((up[k.toNat]?).getD 0) else []
def D9(t:cS)(k:Int):List Int:=kQ t.b9 t.b9.length k
theorem Ea(up:List Int):∀ (n:Nat) (k:Int),(kQ up n k).length<=n
 | 0,_=>by simp [kQ]
 | n+1,k=>by
  unfold kQ
  split
  ·have:=Ea up n ((up[k.toNat]?).getD 0);simp; omega
  ·simp
theorem yV{up:List Int}{k:Int}(h:au k 0 ((up.length:Int) - 1)=true):dV up k=some ((up[k.toNat]?).getD 0):=by
 have:=ce h;have h1:k.toNat < up.length:=by omega
 simp [dV,this.1,h1]
theorem JF{u:Nat}(hu:1099511627776<=u){t:cS}(hl:t.b9.length<=1048576)(k:Int):tL u t k=some (D9 t k):=by
 have main:∀ (n f:Nat) (k:Int) (o:List Int),o.length+n=t.b9.length->n < f->ie u f k o t=some (o++kQ t.b9 n k):=by
  intro n
  induction n with
  | zero =>
   intro f k o h1 h2;obtain ⟨f,rfl⟩:∃ j,f=j+1:=⟨f - 1,by omega⟩;have e:decide ((o.length:Int) < (t.b9.length:Int))=false:=by simp; omega
   unfold ie oq rD;simp (disch:=omega) only [dP,bH,wk,e,cond_false,kQ,zWY]
   cases au k 0 ((t.b9.length:Int) - 1) <;> rfl
  | succ n ih =>
   intro f k o h1 h2;obtain ⟨f,rfl⟩:∃ j,f=j+1:=⟨f - 1,by omega⟩;have e:decide ((o.length:Int) < (t.b9.length:Int))=true:=by simp; omega
   unfold ie oq rD;simp (disch:=omega) only [dP,bH,wk,e,kQ]
   cases hw:au k 0 ((t.b9.length:Int) - 1) with
   | false=>simp
   | true =>
    have e2:ed (decide ((o.length+([k]).length)*8<=140737488355328))=some ():=bD (by simp; omega);have e2':ed (decide ((o.length+([(0:Int)]).length)*8<=140737488355328))=some ():=bD (by simp; omega);simp only [cond_true,yV hw,wk,e2,↓reduceIte];rw [ih f _ (o++[k]) (by simp; omega) (by omega),zQZ,List.singleton_append]
 unfold tL D9;rw [main t.b9.length u k [] (by simp) (by omega),zQy]
def LK(t:cS)(a k:Int):Bool:=(a != k) && (D9 t k).any λy=>y == a
theorem FP{u:Nat}(hu:1099511627776<=u){t:cS}(hl:t.b9.length<=1048576)(a k:Int):pV u t a k=some (LK t a k):=by
 have:=Ea t.b9 t.b9.length k;unfold pV LK;rw [JF hu hl];simp only [wk];rw [Ju hu (by unfold D9; omega)]
 cases a != k <;> rfl
def vX(t:cS)(k b:Int):Int:=if jo t && au k 1 ((t.b9.length:Int) - 1) then (if LK t b k && decide (0 < b) then (t.b9[b.toNat]?).getD 0 else (t.b9[k.toNat]?).getD 0) else -1
theorem Gs{up:List Int}:∀ {n:Nat} {k a:Int},a∈kQ up n k->au a 0 ((up.length:Int) - 1)=true
 | 0,_,_,h=>by simp [kQ] at h
 | n+1,k,a,h=>by
  unfold kQ at h
  split at h
  ·rename_i hk;rcases List.mem_cons.1 h with rfl | h
   ·exact hk
   ·exact Gs h
  ·simp at h
theorem SG{t:cS}{a k:Int}(h:LK t a k=true):au a 0 ((t.b9.length:Int) - 1)=true:=by
 unfold LK at h;simp only [sk,List.any_eq_true,beq_iff_eq] at h;obtain ⟨_,y,hy,rfl⟩:=h;exact Gs hy
theorem FQ{u:Nat}(hu:1099511627776<=u){t:cS}(hl:t.b9.length<=1048576)(k b:Int):pW u t k b=some (vX t k b):=by
 unfold pW o9 o8 vX;simp (disch:=omega) only [vW hu (show t.b9.length<=1073741824 by omega),bH,dP,FP hu hl,wk]
 cases jo t with
 | false=>rfl
 | true =>
  cases hw:au k 1 ((t.b9.length:Int) - 1) with
  | false=>rfl
  | true =>
   have:=ce hw;have hk:au k 0 ((t.b9.length:Int) - 1)=true:=by unfold au; simp; omega
   by_cases hb:b<=0
   ·have h1:¬ (0 < b):=by omega
    simp [hb,h1,yV hk]
   ·have h1:0 < b:=by omega
    cases ha:LK t b k with
    | false=>simp [hb,yV hk]
    | true=>simp [hb,h1,yV (SG ha)]
theorem tE{α:Type}(f:α->Bool):∀ (l:List α) (i:Nat),(eu f l i=-1/\∀ x∈l,f x=false)\/∃ (j:Nat) (x:α),eu f l i=((i+j:Nat):Int)/\l[j]?=some x/\f x=true
 | [],i=>.inl ⟨rfl,by simp⟩
 | y :: l,i=>by
  cases hy:f y with
  | true=>exact .inr ⟨0,y,by simp [eu,hy],rfl,hy⟩
  | false =>
   rcases tE f l (i+1) with ⟨h1,h2⟩ | ⟨j,x,h1,h2,h3⟩
   ·exact .inl ⟨by simp [eu,hy,h1],by simp [hy]; exact h2⟩
   ·exact .inr ⟨j+1,x,by simp [eu,hy,h1]; omega,by simpa using h2,h3⟩
def uV(l:List bM)(id:Int):Int:=eu (λx=>x.oa == id) l 0
theorem xh{u:Nat}(hu:1099511627776<=u){l:List bM}(hl:l.length<=1048577)(id:Int):qS u l id=some (uV l id):=by
 unfold qS;rw [GP u l id () u (by omega) (by omega)];exact AF (λ(x:bM)=>x.oa == id) rfl (λx i k _=>rfl)
theorem JG{α β ρ:Type}{fin:List β->Option ρ}{body:α->Nat->List β->(List β->Option ρ)->Option ρ}(f:α->Bool)(g:α->β){xs:List α}(hb:∀ x i s k,xs[i]?=some x->i < xs.length->s.length<=i->body x i s k=bif f x then k (s++[g x]) else k s) :
  ∀ (l:List α) (i:Nat) (s:List β),l=xs.drop i->s.length<=i->cy fin body l i s=fin (s++(l.filter f).map g):=by
 intro l
 induction l with
 | nil=>intro i s _ _; simp [cy]
 | cons x l ih =>
  intro i s h hs;have hx:xs[i]?=some x:=by
   have:=congrArg zYz h
   simpa [zXw] using this.symm
  have hl:l=xs.drop (i+1):=by
   have:=congrArg zZX h
   simpa [zXg] using this
  have hi:i < xs.length:=(List.getElem?_eq_some_iff.1 hx).1;simp only [cy];rw [hb x i s _ hx hi hs]
  cases hf:f x with
  | true=>rw [cond_true,ih (i+1) _ hl (by simp; omega)]; simp [hf]
  | false=>rw [cond_false,ih (i+1) _ hl (by omega)]; simp [hf]
def SH(x:bM):bM:=⟨x.oa,x.ck,x.bY,be .i64 x.we 1,0⟩
def jp(l:List bM)(forget:Int):List bM:=(l.filter λx=>decide (x.we < forget)).map SH
theorem JH{u:Nat}(hu:1099511627776<=u){l:List bM}(hl:l.length<=1048576)(n:Int):tK u l n=some (jp l n):=by
 unfold tK;rw [ES u l n [] u (by omega) (by omega),JG (λx=>decide (x.we < n)) SH (λx i s k _ hi hs=>?_) l 0 [] rfl (by simp)]
 ·rfl
 ·unfold xp mp;have e:ed (decide ((s.length+([(bM.mk x.oa x.ck x.bY (be .i64 x.we 1) 0)]).length)*40<=140737488355328))=some ():=bD (by simp; omega)
  by_cases h:x.we < n
  ·have h2:¬ (x.we>=n):=by omega
   simp only [h,h2,decide_true,decide_false,cond_true,cond_false,e,wk]; rfl
  ·have h2:x.we>=n:=by omega
   simp only [h,h2,decide_true,decide_false,cond_true,cond_false]
theorem rf(l:List bM)(id:Int):(uV l id=-1/\∀ x∈l,x.oa≠id)\/∃ (j:Nat) (x:bM),uV l id=(j:Int)/\l[j]?=some x/\x.oa=id:=by
 rcases tE (λ(x:bM)=>x.oa == id) l 0 with ⟨h1,h2⟩ | ⟨j,x,h1,h2,h3⟩
 ·exact .inl ⟨h1,λx hx=>by simpa using h2 x hx⟩
 ·exact .inr ⟨j,x,by unfold uV; rw [h1]; simp,h2,by simpa using h3⟩
def nz(l:List bM)(id have_:Int):Int:=match dV l (uV l id) with
 | some x=>if bV have_ && bV x.ck && bV x.n7 then yJ .i64 (fG .i64 x.ck have_) x.n7 else 0
 | none=>0
theorem AQ{u:Nat}(hu:1099511627776<=u){l:List bM}(hl:l.length<=1048577)(id s:Int):q8 u l id s=some (nz l id s):=by
 unfold q8 mw nz;simp only [xh hu hl,hP,wk];rcases rf l id with ⟨h1,_⟩ | ⟨j,x,h1,h2,_⟩
 ·rw [h1]; rfl
 ·have e:decide ((j:Int) < 0)=false:=by simp
  simp only [h1,e,cond_false,dg,h2,wk]
  cases bV s <;> cases bV x.ck <;> cases bV x.n7 <;> rfl
def kR(l:List bM)(id s:Int):List bM:=match dV l (uV l id) with
 | some x=>if bV s && bV x.n7 then l.set (uV l id).toNat ⟨x.oa,x.ck,x.bY,x.we,u3 .i64 x.n7 s⟩ else l
 | none=>l
theorem JI{l:List bM}(hl:l.length<=1048577):ed (decide (((([]:List bM)).length+l.length)*40<=140737488355328))=some ():=bD (by simp; omega)
theorem ye{u:Nat}(hu:1099511627776<=u){l:List bM}(hl:l.length<=1048577)(id s:Int):nI u l id s=some (kR l id s):=by
 unfold nI mx kR;simp only [JI hl,xh hu hl,hP,wk,zQy];rcases rf l id with ⟨h1,_⟩ | ⟨j,x,h1,h2,_⟩
 ·rw [h1]; rfl
 ·have e:decide ((j:Int) < 0)=false:=by simp
  simp only [h1,e,cond_false,dg,h2,wk]
  cases bV s <;> cases bV x.n7 <;> rfl
theorem Eb(l:List bM)(id s:Int):(kR l id s).length=l.length:=by
 unfold kR
 split
 ·split <;> simp
 ·rfl
def t7(l:List bM)(id:Int):Nat:=if eu (λ(x:bM)=>decide (x.oa > id)) l 0 < 0 then l.length else (eu (λ(x:bM)=>decide (x.oa > id)) l 0).toNat
def nV(l:List bM)(id want done:Int):List bM :=
 if au id 0 6 && bV want && bV done then match dV l (uV l id) with
  | some x=>l.set (uV l id).toNat ⟨x.oa,want,u3 .i64 x.bY done,0,x.n7⟩
  | none=>l.take (t7 l id)++[⟨id,want,done,0,0⟩]++l.drop (t7 l id)
 else l
theorem LL(l:List bM)(id:Int):t7 l id<=l.length:=by
 unfold t7;rcases tE (λ(x:bM)=>decide (x.oa > id)) l 0 with ⟨h1,_⟩ | ⟨j,x,h1,h2,_⟩
 ·rw [h1]; simp
 ·have:=(List.getElem?_eq_some_iff.1 h2).1;rw [h1]; split <;> omega
theorem Hx{u:Nat}{l:List bM}(hl:l.length<=1048576)(id w d:Int):∀ (ys:List bM) (f i:Nat),ys=l.drop i->i<=l.length->ys.length < f ->
  jP u f id w d l (i:Int)=uO u id w d l (if eu (λ(x:bM)=>decide (x.oa > id)) ys i < 0 then (l.length:Int) else eu (λ(x:bM)=>decide (x.oa > id)) ys i):=by
 intro ys
 induction ys with
 | nil =>
  intro f i h hi hf;obtain ⟨f,rfl⟩:∃ j,f=j+1:=⟨f - 1,by omega⟩;have h1:i=l.length:=by
   have:=congrArg zYH h;simp at this;omega
  subst h1;unfold jP rH;simp only [zQy,Int.lt_irrefl,decide_false,cond_false,eu];rfl
 | cons y ys ih =>
  intro f i h hi hf;obtain ⟨f,rfl⟩:∃ j,f=j+1:=⟨f - 1,by omega⟩;have hx:l[i]?=some y:=by
   have:=congrArg zYz h
   simpa [zXw] using this.symm
  have hy:ys=l.drop (i+1):=by
   have:=congrArg zZX h
   simpa [zXg] using this
  have hlt:i < l.length:=(List.getElem?_eq_some_iff.1 hx).1;have e:decide ((i:Int) < (l.length:Int))=true:=by simp; omega
  unfold jP rH;simp only [zQy,e,cond_true,dg,hx,wk,eu]
  by_cases hc:y.oa<=id
  ·have hc2:¬ (y.oa > id):=by omega
   simp only [hc,hc2,decide_true,decide_false,cond_true,zWW,↓reduceIte];rw [ep (by omega)];simp only [zQH] at hf;exact ih f (i+1) hy (by omega) (by omega)
  ·have hc2:y.oa > id:=by omega
   have:¬ ((i:Int) < 0):=by omega
   simp only [hc,hc2,decide_true,decide_false,cond_false,this,↓reduceIte]
theorem Mx{u:Nat}(hu:1099511627776<=u){l:List bM}(hl:l.length<=1048576)(id w d:Int):xz u l id w d=some (nV l id w d):=by
 unfold xz rI nV;simp only [JI (show l.length<=1048577 by omega),bH,hP,xh hu (show l.length<=1048577 by omega),wk,zQy]
 cases h1:au id 0 6 with
 | false=>rfl
 | true=>cases h2:bV w with
  | false=>rfl
  | true=>cases h3:bV d with
   | false=>rfl
   | true =>
    simp only [zQJ,cond_false,zXz,↓reduceIte];rcases rf l id with ⟨h4,_⟩ | ⟨j,x,h4,h5,_⟩
    ·have e:dV l (-1)=none:=by simp [dV]
     rw [h4,e,show decide ((-1:Int) < 0)=true from rfl,cond_true,show ((0:Int))=((0:Nat):Int) from rfl,Hx hl id w d l u 0 rfl (by omega) (by omega)];have hp:=LL l id;have e2:(if eu (λ(x:bM)=>decide (x.oa > id)) l 0 < 0 then (l.length:Int) else eu (λ(x:bM)=>decide (x.oa > id)) l 0)=((t7 l id:Nat):Int):=by
      unfold t7; split <;> omega
     rw [e2];generalize t7 l id=q at hp;unfold uO;simp only [zQy];have c1:=gT (a:=0) (b:=q) (n:=l.length) (by omega) hp;have c2:=gT (a:=q) (b:=l.length) (n:=l.length) hp (by omega);rw [show ((0:Nat):Int)=0 from rfl] at c1;rw [c1,c2];simp only [wk];rw [bD (by simp; omega),bD (by simp; omega),bD (by simp; omega)];simp
    ·have e:decide ((j:Int) < 0)=false:=by simp
     simp only [h4,e,cond_false,dg,h5,wk]
theorem Ob(l:List bM)(id w d:Int):(nV l id w d).length<=l.length+1:=by
 unfold nV
 split
 ·split
  ·simp
  ·have:=LL l id;simp; omega
 ·omega
theorem Rg{α:Type}{fin:Unit->Option Bool}{body:Nat->Unit->(Unit->Option Bool)->Option Bool}(f:α->Nat->Bool){xs:List α}{b:Bool}(hf:fin ()=some b)(hb:∀ x i k,xs[i]?=some x->body i () k=bif f x i then k () else some false) :
  ∀ (l:List α) (i:Nat),l=xs.drop i->qg fin body l.length i ()=some (kY f l i && b):=by
 intro l
 induction l with
 | nil=>intro i _; simp [qg,kY,hf]
 | cons x l ih =>
  intro i h;have hx:xs[i]?=some x:=by
   have:=congrArg zYz h
   simpa [zXw] using this.symm
  have hl:l=xs.drop (i+1):=by
   have:=congrArg zZX h
   simpa [zXg] using this
  simp only [zQH,qg,kY];rw [hb x i _ hx,ih (i+1) hl]
  cases f x i <;> simp
def nU(n:Nat):Int:=if n<=40 then ((2 ^ n - 1:Nat):Int) else 0
theorem yf(u:Nat){m:ai}:nF u m=some (nU m.aO.length):=by
 unfold nF nU
 by_cases h:m.aO.length<=40
 ·rw [Hq u h]; simp [h]
 ·have h1:au (m.aO.length:Int) 0 40=false:=by
   unfold au; simp; omega
  unfold pa;rw [bH,h1];simp [h]
theorem PB(n:Nat):bV (nU n)=true:=by
 unfold nU bV au
 split
 ·rename_i h;have h2:(2:Nat) ^ n<=2 ^ 40:=zWz (by omega) h;simp; omega
 ·rfl
def rh(a b:Int):Int:=if bV a && bV b then yJ .i64 a b else 0
theorem zJ(u:Nat)(a b:Int):pc u a b=some (rh a b):=by
 unfold pc qt rh;simp only [hP,wk]
 cases bV a <;> cases bV b <;> rfl
def yh(m:ai)(x:bF):Int:=rh (nU m.aO.length) x.bn
theorem zK(u:Nat)(m:ai)(x:bF):pe u m x=some (yh m x):=by
 unfold pe yh;simp only [yf,zJ,wk]
def M.at_(m:ai)(i:Int):Nat:=(cj m.av m.aX i).1.toNat
def sD(m:ai)(i:Int):Nat:=(cj m.av m.aX i).2.toNat
def Ec(m:ai)(x:bF)(i:Int):List Int:=M.win x.ca (M.at_ m i) (sD m i)
theorem Oc{m:ai}{b:List Int}(hb:(b.length:Int)=m.aX)(hl:b.length<=1048576)(i:Int) :
  ed (cO (cj m.av m.aX i).1 (be .i64 (cj m.av m.aX i).1 (cj m.av m.aX i).2) b.length)=some () /\
  (b.take (sY (be .i64 (cj m.av m.aX i).1 (cj m.av m.aX i).2))).drop (sY (cj m.av m.aX i).1)=M.win b (M.at_ m i) (sD m i) /\
  M.at_ m i+sD m i<=b.length/\sD m i<=6:=by
 obtain ⟨h1,h2,h3,h4⟩:=pC (size:=m.av) (n:=m.aX) (i:=i) (by omega);unfold M.at_ sD;generalize cj m.av m.aX i=s at *;obtain ⟨a,c⟩:=s;dsimp only at *;obtain ⟨a,rfl⟩:∃ n:Nat,a=n:=⟨a.toNat,by omega⟩;obtain ⟨c,rfl⟩:∃ n:Nat,c=n:=⟨c.toNat,by omega⟩;simp only [rg] at *;rw [sB (by omega),gT (by omega) (by omega)];exact ⟨rfl,rfl,by omega,by omega⟩
def yW(m:ai)(x:bF)(s:cV)(i:Nat):Bool :=
 if cT x.bn i then decide (dZ (Ec m x i)=s) else (Ec m x i).all λc=>c == 0
def jx(m:ai)(x:bF):Bool :=
 da m && bV x.bn && (rh x.bn (nU m.aO.length) == 0) && ((x.ca.length:Int) == m.aX) && kY (yW m x) m.aO 0
theorem JJ{u:Nat}(hu:1099511627776<=u){b:List Int}(hl:b.length<=1048576):mS u b=some (b.all λc=>c == 0):=by
 unfold mS;rw [EV u b () u (by omega) (by omega),CD (λ(c:Int) _=>c == 0) (xs:=b) (b:=true) rfl 0 (λx i k _ hx=>?_) b 0 (zWj _) rfl,Bool.and_true]
 ·congr 1
  have:∀ (l:List Int) (i:Nat),kY (λ(c:Int) _=>c == 0) l i=l.all λc=>c == 0:=by
   intro l
   induction l with
   | nil=>intro i; rfl
   | cons x l ih=>intro i; simp [kY,ih]
  exact this b 0
 ·unfold xr;rw [FF]
  cases x == 0 <;> rfl
structure M.BldWf (x:bF):Prop where
 b:ay x.ca
 l:x.ca.length<=1048576
theorem FR{b:List Int}(h:ay b)(hl:b.length<=1048576)(i n:Nat):ay (M.win b i n)/\(M.win b i n).length<=1048576:=by
 refine ⟨lK h i n,?_⟩;have:(M.win b i n).length<=b.length:=by unfold M.win; simp; omega
 omega
theorem uw{u:Nat}(hu:1099511627776<=u){m:ai}(hm:m.aO.length<=1048576){x:bF}(hx:M.BldWf x):mY u m x=some (jx m x):=by
 unfold mY lf jx;simp only [gA hu m (show m.aO.length<=1073741824 by omega),hP,yf,zJ,wk]
 cases da m with
 | false=>rfl
 | true=>cases bV x.bn with
  | false=>rfl
  | true =>
   rw [FF,FF]
   cases rh x.bn (nU m.aO.length) == 0 with
   | false=>rfl
   | true =>
    by_cases hb:(x.ca.length:Int)=m.aX
    ·have e:((x.ca.length:Int) == m.aX)=true:=by simpa using hb
     simp only [e,zQJ,cond_false,zXz,zWk];have hl:=hx.l;rw [C7 u m x () u (by omega) (by omega),rg,Rg (yW m x) (xs:=m.aO) (b:=true) rfl (λs i k hs=>?_) m.aO 0 rfl,Bool.and_true];obtain ⟨c1,c2,c3,c4⟩:=Oc hb hl i;obtain ⟨b1,b2⟩:=FR hx.b hl (M.at_ m i) (sD m i);unfold ws ek yW Ec;simp only [jm,ke,dg,hs,wk,c1,c2,lU hu b1 (show _<=1073741824 by omega),JJ hu b2,H5]
     cases cT x.bn i with
     | true=>simp only [cond_true,↓reduceIte,zQJ,cond_false]; cases decide (dZ (M.win x.ca (M.at_ m i) (sD m i))=s) <;> rfl
     | false=>simp only [cond_false,Bool.not_false,cond_true,zWW,↓reduceIte]; cases (M.win x.ca (M.at_ m i) (sD m i)).all λc=>c == 0 <;> rfl
    ·have e:((x.ca.length:Int) == m.aX)=false:=by simpa using hb
     simp [e]
theorem PC{a b:Int}(ha:bV a=true)(hb:bV b=true):rh a b=yJ .i64 a b:=by simp [rh,ha,hb]
def Bk(m:ai)(x:bF):Bool:=(m.aP != 0) && jx m x && (yh m x == 0)
theorem KP{u:Nat}(hu:1099511627776<=u){m:ai}(hm:m.aO.length<=1048576){x:bF}(hx:M.BldWf x):vt u m x=some (Bk m x):=by
 unfold vt Bk;simp only [uw hu hm hx,zK,wk]
 cases m.aP != 0 <;> cases jx m x <;> rfl
def M.tells(m:ai)(b:List Int):Bool:=((b.length:Int) == m.aX) && M.same (λx y=>decide (x=y)) (nv b m.av) m.aO
theorem BU{u:Nat}(hu:1099511627776<=u)(m:ai){b:List Int}(hb:ay b)(hl:b.length<=1048576):sQ u m b=some (M.tells m b):=by
 unfold sQ M.tells;rw [AE hu hb (by omega)];simp only [wk];rw [vT hu (by unfold nv; have:=dB m.av b.length; simp; omega)]
 cases (b.length:Int) == m.aX <;> rfl
theorem Ed{b:List Int}(hl:b.length<=1048576):ed (decide (((([]:List Int)).length+b.length)*1<=140737488355328))=some ():=bD (by simp; omega)
theorem vY(u:Nat){m:ai}(hm:m.aO.length<=1048576):ly u m=some m:=by
 unfold ly;rw [bD (by simp; omega)]; rfl
theorem AR(u:Nat){x:bF}(hl:x.ca.length<=1048576):mQ u x=some x:=by
 unfold mQ;rw [Ed hl]; rfl
structure M.NodWf (n:aA):Prop where
 s:n.aw.aO.length<=1048576
 b:M.BldWf n.bu
 k:n.bd.length<=1048577
 w:pB n.aw
theorem fF(u:Nat){n:aA}(h:M.NodWf n):dz u n=some n:=by
 unfold dz;rw [vY u h.s,AR u h.b.l,wk,wk,JI (by have:=h.k; omega)]; rfl
def iq(m:ai)(x:bF)(i:Int):List Int×Bool:=if jx m x && cT x.bn i then (Ec m x i,true) else ([],false)
theorem wP{m:ai}{x:bF}(h:jx m x=true):(x.ca.length:Int)=m.aX:=by
 unfold jx at h;simp only [sk,beq_iff_eq] at h;exact h.1.2
theorem zL{u:Nat}(hu:1099511627776<=u){m:ai}(hm:m.aO.length<=1048576){x:bF}(hx:M.BldWf x)(i:Int):m0 u m x i=some (iq m x i):=by
 unfold m0 qy iq;simp only [uw hu hm hx,ke,wk]
 cases hb:jx m x with
 | false=>rfl
 | true=>cases cT x.bn i with
  | false=>rfl
  | true =>
   obtain ⟨c1,c2,c3,c4⟩:=Oc (wP hb) hx.l i;have c5:=(FR hx.b hx.l (M.at_ m i) (sD m i)).2;simp only [zQJ,cond_false,jm,wk,c1,c2,Ed c5,zXz,↓reduceIte,zQy];rfl
theorem JK:∀ (b:List Int) (s:Int) (n:Nat),ay b->(256:Int) ^ n<=s->(256:Int) ^ (n+b.length)<=iw b s:=by
 intro b
 induction b with
 | nil=>intro s n _ h; exact h
 | cons c b ih =>
  intro s n hb h;have hc:=hb c (by simp);have:=ih (256*s+c) (n+1) (λz hz=>hb z (by simp [hz])) (by rw [zYX]; omega);simp only [zQH,iw];rwa [show n+(b.length+1)=n+1+b.length by omega]
theorem Gt{a b:Nat}(h:a<=b):(256:Int) ^ a<=256 ^ b:=by
 induction h with
 | refl=>exact zVK _
 | step h ih =>
  rename_i c;have:(0:Int) < 256 ^ c:=Int.pow_pos (by omega);rw [zYX]; omega
theorem LM{b:List Int}{s:cV}{size len:Int}{i:Nat}(hb:ay b)(h:dZ b=s)(hf:oN size len i s=true):(b.length:Int)=(cj size len i).2/\b.length<=6:=by
 unfold oN at hf;simp only [sk,beq_iff_eq] at hf;obtain ⟨⟨h1,h2⟩,_⟩:=hf;have h3:cg s.fS=((cg s.fS).1,true):=by rw [<- h1]
 obtain ⟨h4,h5,_,h6⟩:=uT h3;generalize (cg s.fS).1=c at *;unfold dZ at h
 split at h
 ·rw [<- h] at h4; simp at h4
 ·rename_i hl;have hs:s.fS=iw b 1:=by rw [<- h]
  have h7:=(Jj b 1 0 hb (by omega) (by omega)).2;have h8:=JK b 1 0 hb (by simp);simp only [zWZ] at h7 h8;rw [hs] at h5;have hp:(0:Int) < 256 ^ c.length:=Int.pow_pos (by omega);have h9:256 ^ c.length<=iw b 1:=by
   have:=Int.mul_ediv_self_le (x:=iw b 1) (k:=256 ^ c.length) (by omega);rw [h5] at this; omega
  have h10:iw b 1 < 256 ^ c.length*2:=by
   have:=Int.lt_mul_ediv_self_add (x:=iw b 1) hp;rw [h5] at this; omega
  have:b.length=c.length:=by
   rcases Nat.lt_trichotomy b.length c.length with h | h | h
   ·have:=Gt (show b.length+1<=c.length by omega);rw [zYX] at this; omega
   ·exact h
   ·have:=Gt (show c.length+1<=b.length by omega);rw [zYX] at this; omega
  omega
theorem Gu{size len:Int}:∀ {l:List cV} {i j:Nat} {s:cV},iK size len l i=true->l[j]?=some s->oN size len (i+j) s=true
 | [],_,_,_,_,h=>by simp at h
 | x :: l,i,0,s,h,hs=>by
  simp only [iK,sk] at h;simp at hs; subst hs; exact h.1
 | x :: l,i,j+1,s,h,hs=>by
  simp only [iK,sk] at h;have:=Gu h.2 (by simpa using hs);rwa [show i+1+j=i+(j+1) by omega] at this
theorem LN{m:ai}(hm:da m=true){i:Nat}{s:cV}(hs:m.aO[i]?=some s):oN m.av m.aX i s=true:=by
 unfold da at hm
 split at hm
 ·simp only [sk,beq_iff_eq] at hm;have:=(List.getElem?_eq_some_iff.1 hs).1;omega
 ·simp only [sk] at hm;have:=Gu hm.2 hs
  simpa using this
theorem CE{m:ai}(hm:da m=true):0<=m.aX/\m.aX<=240:=by
 unfold da at hm
 split at hm
 ·simp only [sk,beq_iff_eq] at hm; omega
 ·simp only [sk] at hm;have:=qj hm.1.1.2;omega
def M.put(m:ai)(x:bF)(i:Int)(b:List Int):bF:=⟨u3 .i64 x.bn (lI .i64 1 i),II x.ca b (M.at_ m i)⟩
def sE(m:ai)(x:bF)(i:Int)(b:List Int):Bool×bF :=
 if au i 0 ((m.aO.length:Int) - 1) && !cT x.bn i && (match m.aO[i.toNat]? with | some s=>decide (dZ b=s) | none=>false) then (true,M.put m x i b) else (false,x)
theorem SI(m:ai)(x:bF)(i:Int)(b:List Int):sE m x i b=(true,M.put m x i b)\/sE m x i b=(false,x):=by
 unfold sE;generalize (au i 0 ((m.aO.length:Int) - 1) && !cT x.bn i && (match m.aO[i.toNat]? with | some s=>decide (dZ b=s) | none=>false))=c
 cases c
 ·exact .inr rfl
 ·exact .inl rfl
theorem VD(u:Nat)(p2:Int)(p3:List Int)(r6:Int×Int)(x:bF)(a:Nat)(ha:r6.1=(a:Int))(hal:a<=1048576):∀ (l:List Int) (i:Nat) (s:List Int),a+i+l.length<=s.length->s.length<=4194304 ->
  cy (uf u p2 p3 r6 x) (ug u p2 p3 r6 x) l i s=(hH u x.bn p2).bind λq=>some (true,⟨q,s.take (a+i)++l++s.drop (a+i+l.length)⟩):=by
 intro l
 induction l with
 | nil=>intro i s _ _; simp [cy,uf,tr]
 | cons y l ih =>
  intro i s h1 h2;simp only [zQH] at h1;simp only [cy,ug];rw [ha,dE (by omega) (by omega),show (a:Int)+(i:Int)=((a+i:Nat):Int) by omega,dg,sX (by omega),rg];simp only [wk];rw [ih (i+1) _ (by simp; omega) (by simp; omega)];have e1:(s.set (a+i) y).take (a+(i+1))=s.take (a+i)++[y]:=by
   rw [show a+(i+1)=(a+i)+1 by omega,List.take_add_one,List.take_set_of_le (zWj _)];simp [show a+i < s.length by omega]
  have e2:(s.set (a+i) y).drop (a+(i+1)+l.length)=s.drop (a+i+(y :: l).length):=by
   rw [List.drop_set_of_lt (by omega)]; simp only [zQH]; congr 1; omega
  rw [e1,e2]; simp
theorem Ee{m:ai}{b:List Int}(hb:(b.length:Int)=m.aX)(i:Int):(cj m.av m.aX i).1=(M.at_ m i:Int)/\(cj m.av m.aX i).2=(sD m i:Int)/\M.at_ m i+sD m i<=b.length:=by
 obtain ⟨h1,h2,h3,h4⟩:=pC (size:=m.av) (n:=m.aX) (i:=i) (by omega);unfold M.at_ sD;omega
theorem PD{i:Int}{n:Nat}(h:au i 0 ((n:Int) - 1)=true)(hn:n<=40):eB i=true/\0<=i:=by
 have:=ce h;unfold eB au;simp; omega
theorem yi(u:Nat){s i:Int}(hs:bV s=true)(hi:eB i=true):hH u s i=some (u3 .i64 s (lI .i64 1 i)):=by
 have:=ce hi;unfold hH md;rw [hP,hs];simp only [wk,zQJ,cond_false];rw [bH,show au i 0 39=true from hi];simp only [wk,zQJ,cond_false];rw [bD (by omega)]; rfl
theorem BV{u:Nat}(hu:1099511627776<=u){m:ai}(hm:da m=true){x:bF}(hx:(x.ca.length:Int)=m.aX)(hs:bV x.bn=true)(i:Int){b:List Int}(hb:ay b)(hl:b.length<=1048576) :
  qP u m x i b=some (sE m x i b):=by
 have h40:=u4 hm;have h240:=CE hm;unfold qP nC sE;simp (disch:=omega) only [dP,bH,ke,lU hu hb (show b.length<=1073741824 by omega),wk,H5]
 cases hw:au i 0 ((m.aO.length:Int) - 1) with
 | false=>simp
 | true=>cases cT x.bn i with
  | true=>simp
  | false =>
   have hw':=ce hw;obtain ⟨n,rfl⟩:∃ n:Nat,i=n:=⟨i.toNat,by omega⟩;have hn:n < m.aO.length:=by omega
   obtain ⟨s,hs'⟩:∃ s,m.aO[n]?=some s:=⟨_,sX hn⟩;simp only [zQJ,Bool.not_false,cond_false,dg,hs',wk,rg,zWk]
   by_cases hq:dZ b=s
   ·obtain ⟨h1,h2⟩:=LM hb hq (LN hm hs');have h3:decide ((b.length:Int) > 6)=false:=by simp; omega
    obtain ⟨e1,e2,e3⟩:=Ee (b:=x.ca) hx n;have h4:b.length=sD m n:=by omega
    simp only [hq,decide_true,zQJ,cond_false,h3,jm,wk,↓reduceIte];rw [GL u n b _ x x.ca u (by omega) (by omega),VD u n b _ x (M.at_ m n) e1 (by omega) b 0 x.ca (by omega) (by omega),yi u hs (PD hw (by omega)).1];unfold M.put;rw [AJ (by omega)];rfl
   ·simp [hq]
def lV(m:ai)(x:bF)(i:Int)(b:List Int):bF×Bool:=if jx m x && (sE m x i b).1 then (M.put m x i b,true) else (x,false)
theorem AS{m:ai}{x:bF}(h:jx m x=true):da m=true/\bV x.bn=true:=by
 unfold jx at h;simp only [sk] at h;exact ⟨h.1.1.1.1,h.1.1.1.2⟩
theorem FS{u:Nat}(hu:1099511627776<=u){m:ai}(hm:m.aO.length<=1048576){x:bF}(hx:M.BldWf x)(i:Int){b:List Int}(hb:ay b)(hl:b.length<=1048576):p6 u m x i b=some (lV m x i b):=by
 unfold p6 pj lV;simp only [AR u hx.l,uw hu hm hx,wk]
 cases hk:jx m x with
 | false=>rfl
 | true =>
  obtain ⟨h1,h2⟩:=AS hk;simp only [zQJ,cond_false,BV hu h1 (wP hk) h2 i hb hl,wk,zWk];rcases SI m x i b with h | h <;> rw [h] <;> rfl
def Bl(m:ai)(old:List Int):Nat->Nat->bF->bF
 | 0,_,x=>x
 | n+1,i,x=>Bl m old n (i+1) (if 0<=fL old m i then M.put m x i (M.win old (fL old m i).toNat (sD m i)) else x)
def oP(m:ai):bF:=if da m then ⟨0,zQh m.aX.toNat 0⟩ else ⟨0,[]⟩
def kh(m:ai)(old:List Int):bF:=if da m then Bl m old m.aO.length 0 (oP m) else ⟨0,[]⟩
theorem My{m:ai}(hm:da m=true):ed (decide (0<=m.aX) && (m.aX == 0 || m.aX == m.aX))=some ()/\ed (decide (sY m.aX*1<=140737488355328))=some ():=by
 have:=CE hm;refine ⟨by simp [ed]; omega,bD (by omega)⟩
theorem FT{u:Nat}(hu:1099511627776<=u){m:ai}(hm:m.aO.length<=1048576):pQ u m=some (oP m):=by
 unfold pQ oP;simp only [gA hu m (show m.aO.length<=1073741824 by omega),wk]
 cases h:da m with
 | false=>rfl
 | true=>obtain ⟨h1,h2⟩:=My h; rw [h1,h2]; rfl
theorem Ef{b:List Int}{s:cV}{n:Nat}:∀ (c i:Nat),0<=iL b s n c i->dZ (M.win b (iL b s n c i).toNat n)=s
 | 0,_,h=>by simp [iL] at h
 | c+1,i,h=>by
  unfold iL at h ⊢
  split
  ·rename_i hq; simpa using hq
  ·rename_i hq;rw [if_neg hq] at h;exact Ef c (i+1) h
theorem JL{old:List Int}{m:ai}{i:Nat}(h:0<=fL old m i):∃ s,m.aO[i]?=some s/\0<=(cj m.av m.aX i).2/\dZ (M.win old (fL old m i).toNat (sD m i))=s/\(fL old m i).toNat+sD m i<=old.length:=by
 unfold fL at h ⊢
 split at h
 ·rename_i s hs;simp only [hs];unfold u5 at h ⊢
  split at h
  ·rename_i hw;have:=ce hw;rw [if_pos hw];have h1:=Ef _ _ h;have h2:=Jo old s (cj m.av m.aX i).2.toNat (old.length+1 - (cj m.av m.aX i).2.toNat) 0;refine ⟨s,rfl,by omega,h1,?_⟩;unfold sD;omega
  ·omega
 ·omega
structure M.Part (m:ai) (i:Nat) (x:bF):Prop where
 b:M.BldWf x
 l:(x.ca.length:Int)=m.aX
 h:∃ n:Nat,x.bn=n/\n < 2 ^ i
theorem AT{x p:List Int}{a:Nat}(h:a+p.length<=x.length)(hx:ay x)(hp:ay p):ay (II x p a)/\(II x p a).length=x.length:=by
 rw [AJ h];refine ⟨λz hz=>?_,by simp; omega⟩;simp only [zWH] at hz;rcases hz with (hz | hz) | hz
 ·exact hx z (zQg hz)
 ·exact hp z hz
 ·exact hx z (zWq hz)
theorem Od{m:ai}{i:Nat}{x:bF}(hp:M.Part m i x)(hi:i<=39){b:List Int}(hb:ay b)(hl:b.length=sD m i):M.Part m (i+1) (M.put m x i b):=by
 obtain ⟨e1,e2,e3⟩:=Ee (b:=x.ca) hp.l i;obtain ⟨h1,h2⟩:=AT (x:=x.ca) (p:=b) (a:=M.at_ m i) (by omega) hp.b.b hb;obtain ⟨n,h3,h4⟩:=hp.h;have h5:(2:Nat) ^ i<=2 ^ 39:=zWz (by omega) hi;refine ⟨⟨h1,by unfold M.put; dsimp only; rw [h2]; exact hp.b.l⟩,by unfold M.put; dsimp only; rw [h2]; exact hp.l,n ||| 2 ^ i,?_,?_⟩
 ·unfold M.put;dsimp only;rw [h3,FH (by omega),DY (by omega) (by omega)]
 ·exact Nat.or_lt_two_pow (by rw [Nat.pow_succ]; omega) (by rw [Nat.pow_succ]; have:0 < 2 ^ i:=Nat.pow_pos (by omega); omega)
theorem FU{m:ai}{i j:Nat}{x:bF}(hp:M.Part m i x)(h:i<=j):M.Part m j x:=by
 obtain ⟨n,h3,h4⟩:=hp.h;exact ⟨hp.b,hp.l,n,h3,zQj h4 (zWz (by omega) h)⟩
theorem TP{m:ai}{i:Nat}{x:bF}(hp:M.Part m i x)(hi:i<=40):bV x.bn=true/\cT x.bn i=false:=by
 obtain ⟨n,h3,h4⟩:=hp.h;have h5:(2:Nat) ^ i<=2 ^ 40:=zWz (by omega) hi;constructor
 ·rw [h3]; unfold bV au; simp; omega
 ·unfold cT;rw [h3,rg,rg,Nat.testBit_lt_two_pow h4,Bool.and_false]
theorem TQ{old:List Int}(hl:old.length<=1048576){p:Int}{n:Nat}(h0:0<=p)(h:p.toNat+n<=old.length):ed (cO p (be .i64 p (n:Int)) old.length)=some ()/\(old.take (sY (be .i64 p (n:Int)))).drop (sY p)=M.win old p.toNat n:=by
 obtain ⟨q,rfl⟩:∃ q:Nat,p=q:=⟨p.toNat,by omega⟩;simp only [rg] at h ⊢;rw [sB (by omega),gT (by omega) (by omega)];exact ⟨rfl,rfl⟩
theorem Rh{m:ai}(hm:da m=true){old:List Int}(ho:ay old):∀ (n i:Nat) (x:bF),i+n=m.aO.length->M.Part m i x->M.Part m (i+n) (Bl m old n i x):=by
 have h40:=u4 hm;intro n
 induction n with
 | zero=>intro i x _ hp; exact hp
 | succ n ih =>
  intro i x h hp;simp only [Bl]
  by_cases hq:0<=fL old m i
  ·obtain ⟨s,g1,g2,g3,g4⟩:=JL hq;have hb:=lK ho (fL old m i).toNat (sD m i);have hbl:(M.win old (fL old m i).toNat (sD m i)).length=sD m i:=qZ g4;have hput:=Od hp (by omega) hb hbl;have k3:=ih (i+1) _ (by omega) hput;rw [if_pos hq];rwa [show i+1+n=i+(n+1) by omega] at k3
  ·have k3:=ih (i+1) x (by omega) (FU hp (by omega));rw [if_neg hq];rwa [show i+1+n=i+(n+1) by omega] at k3
theorem Ri{u:Nat}(hu:1099511627776<=u){m:ai}(hm:da m=true){old:List Int}(ho:ay old)(hl:old.length<=1048576):∀ (n i:Nat) (x:bF),i+n=m.aO.length->M.Part m i x ->
  qg (uC u old m) (pJ u old m) n i (x.bn,x.ca)=some (Bl m old n i x):=by
 have h40:=u4 hm;intro n
 induction n with
 | zero=>intro i x _ hp; exact rfl
 | succ n ih =>
  intro i x h hp;obtain ⟨e1,e2,e3⟩:=Ee (b:=x.ca) hp.l i;obtain ⟨f1,f2⟩:=TP hp (by omega);simp only [qg,Bl,pJ,jt];rw [Hp hu ho (by omega) (by omega),jm];simp only [wk]
  by_cases hq:0<=fL old m i
  ·obtain ⟨s,g1,g2,g3,g4⟩:=JL hq;have hq':decide (fL old m i>=0)=true:=by simpa using hq
   rw [e2];obtain ⟨c1,c2⟩:=TQ hl hq g4;have hb:=lK ho (fL old m i).toNat (sD m i);have hbl:(M.win old (fL old m i).toNat (sD m i)).length=sD m i:=qZ g4;have hput:=Od hp (by omega) hb hbl;have k1:=ih (i+1) _ (by omega) hput;have h6:(M.win old (fL old m i).toNat (sD m i)).length<=1048576:=by omega
   have hl8:sE m x i (M.win old (fL old m i).toNat (sD m i))=(true,M.put m x i (M.win old (fL old m i).toNat (sD m i))):=by
    unfold sE;have hw:au (i:Int) 0 ((m.aO.length:Int) - 1)=true:=by unfold au; simp; omega
    rw [hw,f2,rg,g1];simp [g3]
   rw [if_pos hq];simp only [hq',cond_true,c1,c2,wk,BV hu hm hp.l f1 i hb h6,hl8];exact k1
  ·have hq':decide (fL old m i>=0)=false:=by simpa using hq
   have k1:=ih (i+1) x (by omega) (FU hp (by omega));rw [if_neg hq];simp only [hq',cond_false];exact k1
theorem Oe{m:ai}(hm:da m=true):M.Part m 0 (oP m):=by
 have:=CE hm;unfold oP;rw [if_pos hm];exact ⟨⟨by simp [ay],by simp; omega⟩,by simp; omega,0,rfl,by simp⟩
theorem AU{m:ai}(hm:da m=true){old:List Int}(ho:ay old)(hl:old.length<=1048576):M.Part m m.aO.length (kh m old):=by
 have:=Rh hm ho m.aO.length 0 _ (by omega) (Oe hm);unfold kh;rw [if_pos hm]
 simpa using this
theorem wQ{u:Nat}(hu:1099511627776<=u){m:ai}(hs:m.aO.length<=1048576){old:List Int}(ho:ay old)(hl:old.length<=1048576):mf u m old=some (kh m old):=by
 unfold mf kh;simp only [FT hu hs,gA hu m (show m.aO.length<=1073741824 by omega),wk]
 cases hm:da m with
 | false=>simp [oP,hm]
 | true =>
  simp only [zQJ,cond_false,↓reduceIte];rw [Br u old m ((oP m).bn,(oP m).ca) u (by omega) (by omega),rg];exact Ri hu hm ho hl m.aO.length 0 _ (by omega) (Oe hm)
def M.add(d:ar)(p:c8):ar×Bool:=if cd (gU d p) then (gU d p,true) else (d,false)
def iN(d:ar)(slot at_:Int)(b:List Int):ar×Bool:=if au slot 0 1 then M.add d ⟨slot,at_,b,⟨0,0,0⟩⟩ else (d,false)
def gf(d:ar)(r:dc):ar×Bool:=M.add d ⟨2,0,[],r⟩
def i7(d:ar):Int:=eH .i64 1 d.fR.bX
theorem Mz(d:ar)(p:c8):(M.add d p=(gU d p,true)/\cd (gU d p)=true)\/M.add d p=(d,false):=by
 unfold M.add
 cases h:cd (gU d p) with
 | true=>exact .inl ⟨rfl,rfl⟩
 | false=>exact .inr rfl
theorem FV{u:Nat}(hu:1099511627776<=u){d:ar}(hd:M.DOk d)(hl:d.fP.length<=1048575)(s a:Int){b:List Int}(hb:b.length<=1048576):pX u d s a b=some (iN d s a b):=by
 unfold pX iN M.add;rw [bH,xd hu hd hl (p:=⟨s,a,b,⟨0,0,0⟩⟩) hb,gB hu hd];simp only [wk]
 cases au s 0 1 <;> rfl
theorem Eg{u:Nat}(hu:1099511627776<=u){d:ar}(hd:M.DOk d)(hl:d.fP.length<=1048575)(r:dc):ou u d r=some (gf d r):=by
 unfold ou gf M.add;rw [xd hu hd hl (p:=⟨2,0,[],r⟩) (by simp)];rfl
theorem BW(u:Nat)(d:ar):vw u d=some (i7 d):=rfl
def jq(d0:ar)(b:List Int)(size:Int):Nat->Nat->ar->ar×Bool
 | 0,_,d=>(d,true)
 | n+1,i,d=>if (iN d (i7 d0) ((i:Int)*size) (dI b size i).1).2 then jq d0 b size n (i+1) (iN d (i7 d0) ((i:Int)*size) (dI b size i).1).1 else (d0,false)
def kS(d:ar)(b:List Int)(size:Int):ar×Bool :=
 if cd d && decide (d.fP.length=0) && dj size b.length then jq d b size (bG size b.length).toNat 0 d else (d,false)
theorem Of{d:ar}(h:cd d=true):d.fP.length<=200:=by
 unfold cd at h;simp only [sk,decide_eq_true_eq] at h;exact h.1.2
theorem Gw(d:ar)(s a:Int)(b:List Int):(iN d s a b=(gU d ⟨s,a,b,⟨0,0,0⟩⟩,true)/\cd (gU d ⟨s,a,b,⟨0,0,0⟩⟩)=true)\/iN d s a b=(d,false):=by
 unfold iN
 split
 ·exact Mz d _
 ·exact .inr rfl
theorem Eh{d:ar}(hd:M.DOk d)(hl:d.fP.length<=200)(s a:Int){b:List Int}(hb:b.length<=1048576):M.DOk (iN d s a b).1/\(iN d s a b).1.fP.length<=200:=by
 rcases Gw d s a b with ⟨h1,h2⟩ | h1
 ·rw [h1];exact ⟨Bi hd (by omega) hb,Of h2⟩
 ·rw [h1]; exact ⟨hd,hl⟩
theorem Gx(b:List Int)(size i:Int):(dI b size i).1.length<=b.length:=by
 unfold dI;dsimp only
 split
 ·simp
 ·unfold M.win; simp; omega
theorem PE{u:Nat}(hu:1099511627776<=u){d0:ar}(h0:M.DOk d0){b:List Int}(hb:b.length<=1048576){size:Int}:∀ (n i f:Nat) (d:ar),i+n=(bG size b.length).toNat->n < f->M.DOk d->d.fP.length<=200 ->
  iG u f b size i d.fA d.fB d.fR.aP d.fR.bX d.fR.aX d.fP d0=some (jq d0 b size n i d):=by
 have hr:=dB size b.length;intro n
 induction n with
 | zero =>
  intro i f d h hf hd hl;obtain ⟨f,rfl⟩:∃ j,f=j+1:=⟨f - 1,by omega⟩;have e:decide ((i:Int) < bG size b.length)=false:=by simp; omega
  unfold iG;rw [gz];simp only [wk,e,cond_false];exact rfl
 | succ n ih =>
  intro i f d h hf hd hl;obtain ⟨f,rfl⟩:∃ j,f=j+1:=⟨f - 1,by omega⟩;have e:decide ((i:Int) < bG size b.length)=true:=by simp; omega
  have hw:au (i:Int) 0 (bG size b.length - 1)=true:=by unfold au; simp; omega
  obtain ⟨k1,k2,k3⟩:=Bg hw;have k4:=qj k1;have k5:=FE (s:=size) (i:=i) (by omega) (by omega) k2 k3;have e1:(cj size b.length i).1=(i:Int)*size:=by unfold cj; rw [if_pos hw]
  have hbl:=Gx b size i;have hde:ar.mk d.fA d.fB (dc.mk d.fR.aP d.fR.bX d.fR.aX) d.fP=d:=rfl;unfold iG jq;rw [gz,jm,zF u (by omega),BW];simp only [wk,e,cond_true,e1,hde];rw [FV hu hd (by omega) _ _ (by omega),gB hu h0];simp only [wk];obtain ⟨g1,g2⟩:=Eh hd hl (i7 d0) ((i:Int)*size) (b:=(dI b size i).1) (by omega);have m1:=ih (i+1) f _ (by omega) (by omega) g1 g2;rw [ep (by omega)]
  cases (iN d (i7 d0) ((i:Int)*size) (dI b size i).1).2 with
  | true=>exact m1
  | false=>exact rfl
theorem FW{u:Nat}(hu:1099511627776<=u){d:ar}(hd:M.DOk d){b:List Int}(hb:b.length<=1048576)(size:Int):pY u d b size=some (kS d b size):=by
 have hr:=dB size b.length;unfold pY mt kS;simp only [gB hu hd,mH hu hd,oM,wk]
 cases cd d with
 | false=>rfl
 | true =>
  by_cases hp:d.fP.length=0
  ·have e:decide ((d.fP.length:Int) > 0)=false:=decide_eq_false (by omega);simp only [e,hp,decide_true,zQJ,cond_false,zWk,zXz]
   cases dj size b.length with
   | false=>rfl
   | true=>exact PE hu hd hb (size:=size) (bG size b.length).toNat 0 u d (by omega) (by omega) hd (by omega)
  ·have e:decide ((d.fP.length:Int) > 0)=true:=by simp; omega
   simp only [e,hp,cond_true,zQJ,cond_false,decide_false,Bool.and_false,Bool.false_and,zWW,↓reduceIte]
theorem BX{d0:ar}(h0:M.DOk d0)(hp:d0.fP.length<=200){b:List Int}(hb:b.length<=1048576){size:Int}:∀ (n i:Nat) (d:ar),M.DOk d->d.fP.length<=200->M.DOk (jq d0 b size n i d).1/\(jq d0 b size n i d).1.fP.length<=200
 | 0,i,d,hd,hl=>⟨hd,hl⟩
 | n+1,i,d,hd,hl=>by
  unfold jq;have hbl:=Gx b size i;obtain ⟨g1,g2⟩:=Eh hd hl (i7 d0) ((i:Int)*size) (b:=(dI b size i).1) (by omega)
  split
  ·exact BX h0 hp hb n (i+1) _ g1 g2
  ·exact ⟨h0,hp⟩
def du(d:ar)(m:ai)(x:bF)(ph:Int):ar×Int :=
 if ph=1 then (if Bk m x && (kS d x.ca m.av).2 then ((kS d x.ca m.av).1,2) else (d,ph))
 else if ph=2 then (M.sure d,3)
 else if ph=3 then (if (gf d ⟨m.aP,i7 d,m.aX⟩).2 then ((gf d ⟨m.aP,i7 d,m.aX⟩).1,4) else (d,ph))
 else if ph=4 then (M.sure d,5)
 else (d,ph)
theorem US{α:Type}(ph:Int)(a b c e f:α):(bif ph == 1 then a else bif ph == 2 then b else bif ph == 3 then c else bif ph == 4 then e else f)=if ph=1 then a else if ph=2 then b else if ph=3 then c else if ph=4 then e else f:=by
 by_cases h1:ph=1
 ·simp [h1]
 ·by_cases h2:ph=2
  ·simp [h2]
  ·by_cases h3:ph=3
   ·simp [h3]
   ·by_cases h4:ph=4
    ·simp [h4]
    ·have e1:(ph == 1)=false:=by simpa using h1
     have e2:(ph == 2)=false:=by simpa using h2
     have e3:(ph == 3)=false:=by simpa using h3
     have e4:(ph == 4)=false:=by simpa using h4
     simp [e1,e2,e3,e4,h1,h2,h3,h4]
theorem H7{α:Type}(p:Prop)[Decidable p](a b:α):(if p then some a else some b)=some (if p then a else b):=by split <;> rfl
theorem Vn(w s:Bool)(a b c:ar×Int)(hb:b=c):(bif w then (bif s then some a else some b) else some c)=some (if (w && s)=true then a else c):=by subst hb; cases w <;> cases s <;> rfl
theorem Vo(s:Bool)(a b:ar×Int):(bif s then some a else some b)=some (if s=true then a else b):=by cases s <;> rfl
theorem CF{u:Nat}(hu:1099511627776<=u){d:ar}(hd:M.DOk d)(hl:d.fP.length<=1048575){m:ai}(hm:m.aO.length<=1048576){x:bF}(hx:M.BldWf x)(ph:Int):nm u d m x ph=some (du d m x ph):=by
 unfold nm iH du;simp only [KP hu hm hx,FW hu hd hx.l,D4 hu hd,BW,Eg hu hd hl,gB hu hd,wk,US];rw [Vn _ _ _ _ _ rfl,Vo,H7,H7,H7,H7]
theorem JM{d:ar}(hd:M.DOk d)(hl:d.fP.length<=200){m:ai}{x:bF}(hx:M.BldWf x)(ph:Int):M.DOk (du d m x ph).1/\(du d m x ph).1.fP.length<=200:=by
 have hs:M.DOk (M.sure d)/\(M.sure d).fP.length<=200:=by
  refine ⟨Qm hd,?_⟩;unfold M.sure
  split
  ·rw [Oa]; simp
  ·exact hl
 have hst:M.DOk (kS d x.ca m.av).1/\(kS d x.ca m.av).1.fP.length<=200:=by
  unfold kS
  split
  ·exact BX hd hl hx.l _ _ _ hd hl
  ·exact ⟨hd,hl⟩
 have hr:M.DOk (gf d ⟨m.aP,i7 d,m.aX⟩).1/\(gf d ⟨m.aP,i7 d,m.aX⟩).1.fP.length<=200:=by
  unfold gf;rcases Mz d ⟨2,0,[],⟨m.aP,i7 d,m.aX⟩⟩ with ⟨h1,h2⟩ | h1
  ·rw [h1]; exact ⟨Bi hd (by omega) (by simp),Of h2⟩
  ·rw [h1]; exact ⟨hd,hl⟩
 unfold du
 split
 ·split
  ·exact hst
  ·exact ⟨hd,hl⟩
 ·split
  ·exact hs
  ·split
   ·split
    ·exact hr
    ·exact ⟨hd,hl⟩
   ·split
    ·exact hs
    ·exact ⟨hd,hl⟩
theorem AV{u:Nat}(hu:1099511627776<=u){m:fe}(hm:M.MsgWf m):mR u m=some (cN m):=by
 have k:=bQ [] m.bl;have g:=bQ (aZ [] m.bl) m.aP;simp only [zXK] at k;have hl:=hm.len;obtain ⟨hb,hbl⟩:=JC hm;unfold mR cN;rw [xe hu hm.sums];simp only [wk]
 cases hok:gc m with
 | false=>rfl
 | true =>
  simp only [zQJ,cond_false,if_true];rw [dQ hu (by simp)];simp only [wk];have tail:jc u (cZ m)=some (aZ (cZ m) (cG (cZ m))):=by
   unfold jc;rw [sA hu hb (by omega)];simp only [wk];rw [dQ hu (by omega)]; rfl
  rw [<- tail]
  clear tail hbl hb
  unfold cZ qk
  by_cases h1:m.bl=1
  ·simp only [h1,beq_self_eq_true,cond_true,if_true];rw [h1] at k;rw [Jl hu (by omega) (by have:=hm.sums; omega) hm.wf]; rfl
  ·have e1:(m.bl == 1)=false:=by simpa using h1
   by_cases h2:m.bl=2
   ·rw [h2] at k g;have h3:=bQ (aZ (aZ [] 2) m.aP) (fG .i64 m.ck 1048575);have h4:=bQ (aZ (aZ (aZ [] 2) m.aP) (fG .i64 m.ck 1048575)) (m7 .i64 m.ck 20);have h5:=bQ (aZ (aZ (aZ (aZ [] 2) m.aP) (fG .i64 m.ck 1048575)) (m7 .i64 m.ck 20)) (fG .i64 m.bY 1048575);simp only [h2,beq_self_eq_true,cond_true,if_true,rB];rw [dQ hu (by omega)]; simp only [wk];rw [dQ hu (by omega)]; simp only [wk];rw [dQ hu (by omega)]; simp only [wk];rw [dQ hu (by omega)]; simp only [wk];rw [dQ hu (by omega)]; rfl
   ·have e2:(m.bl == 2)=false:=by simpa using h2
    by_cases h3:m.bl=3
    ·rw [h3] at k g;have h4:=bQ (aZ (aZ [] 3) m.aP) m.fI;have h5:=bQ (aZ (aZ (aZ [] 3) m.aP) m.fI) m.fB.length;simp only [h3,beq_self_eq_true,cond_true,if_true,uL];rw [dQ hu (by omega)]; simp only [wk];rw [dQ hu (by omega)]; simp only [wk];rw [dQ hu (by omega)]; simp only [wk];rw [bD (by omega)]; rfl
    ·have e3:(m.bl == 3)=false:=by simpa using h3
     by_cases h4:m.bl=4
     ·rw [h4] at k;simp only [h4,beq_self_eq_true,cond_true,if_true];rw [dQ hu (by omega)]; rfl
     ·have e4:(m.bl == 4)=false:=by simpa using h4
      rw [JD h1 h2 h3 h4] at hok; cases hok
def eK(f t:Int)(m:fe):ah:=⟨f,t,cN m⟩
def FX(g i:Int)(b:List Int):fe:=⟨3,g,Hw,0,0,i,b⟩
theorem yX(g i:Int){b:List Int}(hb:ay b)(hl:b.length<=1048576):M.MsgWf (FX g i b):=D7 _ _ _ _ _ hb hl
theorem kw{u:Nat}(hu:1099511627776<=u)(f t:Int){m:fe}(hm:M.MsgWf m):eT u f t m=some (eK f t m):=by
 unfold eT;rw [AV hu hm]; rfl
theorem ux(u:Nat)(g i:Int){b:List Int}(hl:b.length<=1048576):lA u g i b=some (FX g i b):=by
 unfold lA;rw [Ed hl]; rfl
theorem CG(m:ai){x:bF}(hx:M.BldWf x)(i:Int):ay (iq m x i).1/\(iq m x i).1.length<=1048576:=by
 unfold iq
 split
 ·exact FR hx.b hx.l _ _
 ·exact ⟨jw,by simp⟩
def uW(n:aA)(f t i:Int):ah:=eK f t (FX n.aw.aP i (iq n.aw n.bu i).1)
def eV(n:aA)(f t:Int):Act :=
 ⟨⟨n.fq,n.bP,n.bC,n.aw,n.bu,n.aY,kR n.bd t (nz n.bd t n.bu.bn),n.bx⟩,((gS (nz n.bd t n.bu.bn)).filter λi=>(iq n.aw n.bu i).2).map (uW n f t)⟩
theorem Gy(s:Int):(gS s).length<=40:=by
 unfold gS
 split
 ·rw [zYZ];exact zWx (zZW _ _) (by simp)
 ·simp
theorem PF{s:List ah}(hl:s.length<=1048576)(p:ah):ed (decide ((s.length + [p].length)*40<=140737488355328))=some ():=bD (by simp; omega)
theorem Ei{u:Nat}(hu:1099511627776<=u){n:aA}(hn:M.NodWf n)(f t:Int):ov u n f t=some (eV n f t):=by
 have hp:=Gy (nz n.bd t n.bu.bn);unfold ov q7;simp only [fF u hn,AQ hu hn.k,zE hu,wk];rw [Bt u _ _ _ _ _ _ _ u (by omega) (by omega),JG (xs:=gS (nz n.bd t n.bu.bn)) (λi=>(iq n.aw n.bu i).2) (uW n f t) (λx i s k hx hi hs=>?_) (gS (nz n.bd t n.bu.bn)) 0 [] rfl (by simp)]
 ·unfold uD nW;rw [ye hu hn.k]; rfl
 ·unfold uE ju;have w:=CG n.aw hn.b x;rw [zL hu hn.s hn.b];simp only [wk]
  cases (iq n.aw n.bu x).2 with
  | false=>rfl
  | true =>
   have e:dV (gS (nz n.bd t n.bu.bn)) (i:Int)=some x:=by rw [dg]; exact hx
   simp only [cond_true,e,wk,ux u _ _ w.2,kw hu _ _ (yX _ _ w.1 w.2),PF (show s.length<=1048576 by omega)];rfl
theorem KQ(n:aA)(f t:Int):(eV n f t).iB.length<=40:=by
 have hp:=Gy (nz n.bd t n.bu.bn);unfold eV;have:=zZW (λi=>(iq n.aw n.bu i).2) (gS (nz n.bd t n.bu.bn));simp only [zYZ];omega
def jI(n:aA)(l:List bM):aA:=⟨n.fq,n.bP,n.bC,n.aw,n.bu,n.aY,l,n.bx⟩
def AW(g:Int):fe:=⟨4,g,Hw,0,0,0,[]⟩
def Ej(m:ai):fe:=⟨1,0,m,0,0,0,[]⟩
theorem Bm(g:Int):M.MsgWf (AW g):=D7 _ _ _ _ _ jw (by simp)
theorem LO{m:ai}(hs:m.aO.length<=1048576)(hw:pB m):M.MsgWf (Ej m):=⟨hs,hw,jw,by simp [Ej]⟩
def cP(n:aA)(me f:Int)(m:fe):Act :=
 if f=me then ⟨n,[]⟩ else
 let l:=nV n.bd f m.ck m.bY
 if n.aY=0 then ⟨jI n l,[eK me f (AW 0)]⟩
 else if m.aP=n.aw.aP then
  (let a:=eV (jI n l) me f; if a.iB.length=0 then ⟨a.fN,[eK me f (AW n.aw.aP)]⟩ else a)
 else ⟨jI n l,[eK me f (Ej n.aw)]⟩
theorem wR{n:aA}(hn:M.NodWf n){l:List bM}(hl:l.length<=1048577):M.NodWf (jI n l):=⟨hn.s,hn.b,hl,hn.w⟩
theorem MB(p:ah):ed (decide (((([]:List ah)).length + [p].length)*40<=140737488355328))=some ():=bD (by simp)
theorem CH{u:Nat}(hu:1099511627776<=u){n:aA}(hn:M.NodWf n)(hk:n.bd.length<=1048576)(me f:Int)(m:fe):nq u n me f m=some (cP n me f m):=by
 unfold nq cP m2 m3;simp only [fF u hn,wk]
 by_cases h1:f=me
 ·simp only [h1,beq_self_eq_true,cond_true,if_true]
 ·have e1:(f == me)=false:=by simpa using h1
  have hl:=Ob n.bd f m.ck m.bY;simp only [e1,h1,cond_false,if_false,Mx hu hk,wk]
  by_cases h2:n.aY=0
  ·simp only [h2,beq_self_eq_true,cond_true,if_true];rw [show (fe.mk 4 0 (ai.mk 0 0 0 []) 0 0 0 [])=AW 0 from rfl,kw hu me f (Bm 0)];simp only [wk,MB,zQy,<- h2]; rfl
  ·have e2:(n.aY == 0)=false:=by simpa using h2
   simp only [e2,h2,cond_false,if_false]
   by_cases h3:m.aP=n.aw.aP
   ·simp only [h3,bne_self_eq_false,cond_false,if_true];rw [show (aA.mk n.fq n.bP n.bC n.aw n.bu n.aY (nV n.bd f m.ck m.bY) n.bx)=jI n (nV n.bd f m.ck m.bY) from rfl,Ei hu (wR hn (by omega)) me f];simp only [wk]
    cases ha:eV (jI n (nV n.bd f m.ck m.bY)) me f with
    | mk an ao =>
     cases ao with
     | nil =>
      rw [show (fe.mk 4 n.aw.aP (ai.mk 0 0 0 []) 0 0 0 [])=AW n.aw.aP from rfl,kw hu me f (Bm _)];simp only [wk,MB]; rfl
     | cons p ps =>
      have e3:(((p :: ps).length:Int) == 0)=false:=by simp; omega
      simp only [e3,cond_false]; simp
   ·have e3:(m.aP != n.aw.aP)=true:=by simpa using h3
    simp only [e3,h3,cond_true,if_false];rw [show (fe.mk 1 0 n.aw 0 0 0 [])=Ej n.aw from rfl,kw hu me f (LO hn.s hn.w)];simp only [wk,MB]; rfl
theorem TR{i:Int}(hi:eB i=true):u3 .i64 0 (lI .i64 1 i)=lI .i64 1 i:=by
 have h:=ce hi;obtain ⟨n,rfl⟩:∃ n:Nat,i=n:=⟨i.toNat,by omega⟩;have hp:2 ^ n<=2 ^ 39:=zWz (by omega) (by omega);have e:=Jz (a:=1) (n:=n) (by omega) (by omega);have e2:lI .i64 1 (n:Int)=((1*2 ^ n:Nat):Int):=e;rw [e2];have:=DY (a:=0) (b:=1*2 ^ n) (by omega) (by omega)
 simpa using this
theorem KR{m:ai}{x:bF}{i:Int}(h:(iq m x i).2=true):eB i=true:=by
 unfold iq at h
 split at h
 ·rename_i h1;simp only [sk,cT] at h1;exact h1.2.1.2
 ·cases h
def dC(n:aA)(me i:Int)(s:List bM×List ah)(x:bM):List bM×List ah :=
 if cT (nz s.1 x.oa n.bu.bn) i then (kR s.1 x.oa (lI .i64 1 i),s.2++[uW n me x.oa i]) else s
def Ek(n:aA)(me i:Int):List bM×List ah:=n.bd.foldl (dC n me i) (n.bd,[])
def d7(n:aA)(me i:Int):Act:=if (iq n.aw n.bu i).2 then ⟨jI n (Ek n me i).1,(Ek n me i).2⟩ else ⟨n,[]⟩
theorem Gz(n:aA)(me i:Int)(s:List bM×List ah)(x:bM):(dC n me i s x).1.length=s.1.length/\(dC n me i s x).2.length<=s.2.length+1:=by
 unfold dC
 split
 ·exact ⟨Eb _ _ _,by simp⟩
 ·exact ⟨rfl,by omega⟩
theorem TS(n:aA)(me i:Int):∀ (l:List bM) (s:List bM×List ah),(l.foldl (dC n me i) s).1.length=s.1.length/\(l.foldl (dC n me i) s).2.length<=s.2.length+l.length:=by
 intro l
 induction l with
 | nil=>intro s; exact ⟨rfl,by simp⟩
 | cons x l ih =>
  intro s;have h:=ih (dC n me i s x);have g:=Gz n me i s x;simp only [zXh,zQH];omega
theorem PG{u:Nat}(hu:1099511627776<=u){n:aA}(hn:M.NodWf n)(me i:Int)(h:(iq n.aw n.bu i).2=true):∀ (l:List bM) (k j:Nat) (s:List bM×List ah),l=n.bd.drop j->l.length < k->s.1.length<=1048577->s.2.length<=j ->
  eQ u k me i (iq n.aw n.bu i) (j:Int) n n s.1 s.2=some ⟨jI n (l.foldl (dC n me i) s).1,(l.foldl (dC n me i) s).2⟩:=by
 have w:=CG n.aw hn.b i;have pl:=KR h;have hk:=hn.k;intro l
 induction l with
 | nil =>
  intro k j s hl hf h1 h2;obtain ⟨k,rfl⟩:∃ k',k=k'+1:=⟨k - 1,by simp at hf; omega⟩;have hj:n.bd.length<=j:=by
   have:=congrArg zYH hl; simp at this; omega
  have e:decide ((j:Int) < (n.bd.length:Int))=false:=by simp; omega
  simp only [eQ,e,cond_false,lg,qC];rfl
 | cons x l ih =>
  intro k j s hl hf h1 h2;obtain ⟨k,rfl⟩:∃ k',k=k'+1:=⟨k - 1,by simp at hf; omega⟩;have hx:n.bd[j]?=some x:=by
   have:=congrArg zYz hl
   simpa [zXw] using this.symm
  have hl2:l=n.bd.drop (j+1):=by
   have:=congrArg zZX hl
   simpa [zXg] using this
  have hj:=(List.getElem?_eq_some_iff.1 hx).1;have e:decide ((j:Int) < (n.bd.length:Int))=true:=by simp; omega
  have g:=Gz n me i s x;have r:=ih k (j+1) (dC n me i s x) hl2 (by simp at hf; omega) (by omega) (by omega);simp only [zXh,<- r];simp only [eQ,e,cond_true,lg,h,qD,dg,hx,q7,wk,AQ hu h1,ke];rw [sB (a:=j) (b:=1) (by omega) |> (λ(e:be .i64 (j:Int) ((1:Nat):Int)=_)=>show be .i64 (j:Int) 1=((j+1:Nat):Int) from e)]
  cases hs:cT (nz s.1 x.oa n.bu.bn) i with
  | false =>
   simp only [cond_false,dC,hs,zWW,if_false]
  | true =>
   simp only [cond_true,ux u _ _ w.2,wk,kw hu _ _ (yX _ _ w.1 w.2),PF (show s.2.length<=1048576 by omega),yi u (s:=0) rfl pl,TR pl,ye hu h1];simp only [dC,hs,if_true];rfl
theorem Hy{u:Nat}(hu:1099511627776<=u){n:aA}(hn:M.NodWf n)(me i:Int):rK u n me i=some (d7 n me i):=by
 unfold rK d7;simp only [fF u hn,zL hu hn.s hn.b,wk];have hk:=hn.k
 cases h:(iq n.aw n.bu i).2 with
 | true =>
  have:=PG hu hn me i h n.bd u 0 (n.bd,[]) rfl (by omega) hk (by simp);exact this
 | false =>
  obtain ⟨k,rfl⟩:∃ k,u=k+1:=⟨u - 1,by omega⟩;simp only [eQ,lg,h,cond_false,qC]
  cases decide ((0:Int) < (n.bd.length:Int)) <;> simp
structure M.DB (d:ar):Prop where
 a:ay d.fA
 b:ay d.fB
 p:∀ x∈d.fP,ay x.fB
theorem MC{l:List Int}(h:ay l)(n:Nat):ay (l.take n):=λx hx=>h x (zQg hx)
theorem MD{d:ar}(h:M.DB d)(n:Int):ay (il d n):=by
 unfold il; split
 ·exact h.a
 ·exact h.b
theorem BY{d:ar}(h:M.DB d):ay (cY d).2/\(cY d).2.length<=240:=by
 unfold cY
 split
 ·rename_i hd;have:=FL hd d.fR.bX;exact ⟨MC (MD h _) _,by simp only [zQz]; omega⟩
 ·exact ⟨jw,by simp⟩
theorem LP{b:List Int}(hb:ay b):M.MsgWf (bR b).1:=by
 unfold bR
 split
 ·rename_i h;simp only [sk] at h;have g:=eJ hb (LH _ h.1);have p:=LI hb (k:=(bK b 0).1) (a:=(bK b 0).2.1) (by simpa using g.2.2.2.2.2)
  cases hr:CB b (bK b 0).1 (bK b 0).2.1 with
  | none=>exact D7 _ _ _ _ _ jw (by simp)
  | some x =>
   obtain ⟨m,e⟩:=x;have q:=p m e hr;dsimp only
   split
   ·exact q.1
   ·exact D7 _ _ _ _ _ jw (by simp)
 ·exact D7 _ _ _ _ _ jw (by simp)
def M.drop(n:aA):aA:=⟨n.fq,n.bP,n.bC,n.aw,n.bu,n.aY,n.bd,be .i64 n.bx 1⟩
theorem uy(u:Nat){n:aA}(h:M.NodWf n):jO u n=some (M.drop n):=by
 unfold jO;rw [fF u h]; rfl
def mJ(n:aA)(d:ar)(m:ai):aA :=
 if n.aY=0 then
  (if da m && (m.aP != 0) then ⟨n.fq,n.bP,n.bC,m,kh m (cY d).2,if ((cY d).1 == m.aP) && M.tells m (cY d).2 then 5 else 1,n.bd,n.bx⟩ else n)
 else if u6 n.aw m then n else M.drop n
theorem Hz{u:Nat}(hu:1099511627776<=u){n:aA}(hn:M.NodWf n){d:ar}(hd:M.DOk d)(hb:M.DB d){m:ai}(hm:m.aO.length<=1048576):rJ u n d m=some (mJ n d m):=by
 obtain ⟨rb,rl⟩:=BY hb;unfold rJ mJ qB qA qz;simp only [fF u hn,zG hu hn.s,uy u hn,gA hu m (show m.aO.length<=1073741824 by omega),zH hu hd,vY u hm,wQ hu hm rb (show _<=1048576 by omega),BU hu m rb (show _<=1048576 by omega),wk]
 by_cases h:n.aY=0
 ·have e:(n.aY != 0)=false:=by simp [h]
  rw [if_pos h];simp only [e,cond_false];rw [show (m.aP != 0)=!(m.aP == 0) from rfl]
  cases da m <;> cases (m.aP == 0) <;> cases ((cY d).1 == m.aP) <;> cases M.tells m (cY d).2 <;> rfl
 ·have e:(n.aY != 0)=true:=by simpa using h
  simp only [e,h,cond_true,if_false]
  cases u6 n.aw m <;> rfl
def ve(n:aA)(x:bF):aA:=⟨n.fq,n.bP,n.bC,n.aw,x,n.aY,n.bd,n.bx⟩
def eL(n:aA)(me:Int)(m:fe):Act :=
 if n.aY=0\/m.aP≠n.aw.aP then ⟨M.drop n,[]⟩
 else if cT n.bu.bn m.fI then ⟨n,[]⟩
 else if (lV n.aw n.bu m.fI m.fB).2 then d7 (ve n (lV n.aw n.bu m.fI m.fB).1) me m.fI
 else ⟨M.drop n,[]⟩
theorem TT{m:ai}{x:bF}{i:Int}{b:List Int}(h:(sE m x i b).1=true):au i 0 ((m.aO.length:Int) - 1)=true/\(match m.aO[i.toNat]? with | some s=>decide (dZ b=s) | none=>false)=true:=by
 unfold sE at h;generalize hc:(au i 0 ((m.aO.length:Int) - 1) && !cT x.bn i && (match m.aO[i.toNat]? with | some s=>decide (dZ b=s) | none=>false))=c at h
 cases c with
 | false=>cases h
 | true=>simp only [sk] at hc; exact ⟨hc.1.1,hc.2⟩
theorem GA{m:ai}{x:bF}(hx:M.BldWf x)(i:Int){b:List Int}(hb:ay b):M.BldWf (lV m x i b).1:=by
 unfold lV
 by_cases h:(jx m x && (sE m x i b).1)=true
 ·rw [if_pos h];simp only [sk] at h;obtain ⟨hbo,h2⟩:=h;obtain ⟨hm,hs⟩:=AS hbo;have hl:=wP hbo;obtain ⟨h4,h6⟩:=TT h2;have h7:=ce h4;obtain ⟨n,rfl⟩:∃ n:Nat,i=n:=⟨i.toNat,by omega⟩;rw [rg] at h6
  cases hg:m.aO[n]? with
  | none=>rw [hg] at h6; cases h6
  | some s =>
   rw [hg] at h6;have h8:=LM hb (of_decide_eq_true h6) (LN hm hg);obtain ⟨e1,e2,e3⟩:=Ee (b:=x.ca) hl n;obtain ⟨g1,g2⟩:=AT (x:=x.ca) (p:=b) (a:=M.at_ m n) (by omega) hx.b hb;exact ⟨g1,by show (II _ _ _).length<=_; rw [g2]; exact hx.l⟩
 ·rw [if_neg h]; exact hx
theorem JN{n:aA}(hn:M.NodWf n){x:bF}(hx:M.BldWf x):M.NodWf (ve n x):=⟨hn.s,hx,hn.k,hn.w⟩
theorem FY{u:Nat}(hu:1099511627776<=u){n:aA}(hn:M.NodWf n)(me:Int){m:fe}(hm:M.MsgWf m):p7 u n me m=some (eL n me m):=by
 unfold p7 eL pk;simp only [fF u hn,uy u hn,ke,FS hu hn.s hn.b m.fI hm.b hm.len,wk];rw [show (aA.mk n.fq n.bP n.bC n.aw (lV n.aw n.bu m.fI m.fB).1 n.aY n.bd n.bx)=ve n (lV n.aw n.bu m.fI m.fB).1 from rfl,Hy hu (JN hn (GA hn.b m.fI hm.b)) me m.fI];simp only [wk]
 by_cases h1:n.aY=0
 ·simp [h1]
 ·by_cases h2:m.aP=n.aw.aP
  ·have e:(n.aY == 0)=false:=by simpa using h1
   simp only [h1,h2,e,cond_false,bne_self_eq_false,ne_eq,not_true_eq_false,or_self,if_false]
   cases cT n.bu.bn m.fI <;> cases (lV n.aw n.bu m.fI m.fB).2 <;> rfl
  ·have e:(n.aY == 0)=false:=by simpa using h1
   have e2:(m.aP != n.aw.aP)=true:=by simpa using h2
   simp [h1,h2,e,e2]
def yY(n:aA):aA:=⟨n.fq,n.bP,0,n.aw,n.bu,n.aY,n.bd,n.bx⟩
theorem Bn{n:aA}(hn:M.NodWf n):M.NodWf (yY n):=⟨hn.s,hn.b,hn.k,hn.w⟩
def fY(n:aA)(me:Int)(d:ar)(m:fe):Act :=
 if m.bl=1 then ⟨mJ (yY n) d m.aw,[]⟩
 else if m.bl=3 then eL (yY n) me m
 else if m.bl=2 then ⟨M.drop (yY n),[]⟩
 else ⟨yY n,[]⟩
theorem UT{α:Type}(k:Int)(a b c e:α):(bif k == 1 then a else (bif k == 3 then b else (bif k == 2 then c else e)))=if k=1 then a else if k=3 then b else if k=2 then c else e:=by
 by_cases h1:k=1
 ·subst h1; rfl
 ·by_cases h2:k=3
  ·subst h2; rfl
  ·by_cases h3:k=2
   ·subst h3; rfl
   ·have e1:(k == 1)=false:=by simpa using h1
    have e2:(k == 3)=false:=by simpa using h2
    have e3:(k == 2)=false:=by simpa using h3
    simp [h1,h2,h3,e1,e2,e3]
theorem SJ{α:Type}(p q r:Prop)[Decidable p][Decidable q][Decidable r](a b c e:α):(if p then some a else if q then some b else if r then some c else some e)=some (if p then a else if q then b else if r then c else e):=by
 by_cases hp:p <;> by_cases hq:q <;> by_cases hr:r <;> simp [hp,hq,hr]
theorem FZ{u:Nat}(hu:1099511627776<=u){n:aA}(hn:M.NodWf n)(me:Int){d:ar}(hd:M.DOk d)(hb:M.DB d){m:fe}(hm:M.MsgWf m):p8 u n me d m=some (fY n me d m):=by
 unfold p8 fY my;simp only [fF u hn,wk];rw [show (aA.mk n.fq n.bP 0 n.aw n.bu n.aY n.bd n.bx)=yY n from rfl,Hz hu (Bn hn) hd hb hm.sums,FY hu (Bn hn) me hm,UT];exact SJ _ _ _ _ _ _ _
def M.take(t:cS)(me:Int)(n:aA)(d:ar)(p:ah):Act :=
 if !n.fq then ⟨n,[]⟩
 else if (bR p.fB).2 && au p.dn 0 ((t.b9.length:Int) - 1) && (p.dn != me) then
  (if (bR p.fB).1.bl=2 then cP n me p.dn (bR p.fB).1
   else if p.dn=n.bP then fY n me d (bR p.fB).1 else ⟨M.drop n,[]⟩)
 else ⟨M.drop n,[]⟩
end Go.Tm.Pu
