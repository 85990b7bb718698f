/- Plain laws of the functions. -/
import Derived.Test.YtdcoelkflgpfgaaGreatCFnEdgesD
set_option linter.unusedVariables false
set_option linter.unusedSimpArgs false
open Bool renaming and_eq_true->sY,and_self->zYW,eq_iff_iff->zYQ,false_eq_true->zQz,not_false->zZj,not_true->zQV,true_and->zWx
open Int renaming add_mul->zZv,ediv_ediv_of_nonneg->zZz,emod_lt_of_pos->zZy,emod_nonneg->zZx,eq_ofNat_of_zero_le->zQZ,mul_comm->zZk,pow_succ->zXq,tmod_eq_emod_of_nonneg->zXV,toNat->sX,toNat_natCast->r0
open List renaming append_assoc->zQk,append_nil->zXQ,drop_eq_getElem_cons->zXH,drop_of_length_le->zYX,filter_cons->zZZ,getElem?_cons_zero->zWV,getElem?_drop->zQG,getElem?_eq_getElem->tw,getElem?_map->zQX,getElem?_range->zZW,getElem_mem->zXv,head?->zYV,head?_drop->zXW,length_append->zQw,length_cons->zQW,length_drop->zYx,length_filter_le->zYv,length_map->zXx,length_nil->zXw,length_set->zXZ,length_singleton->zYY,length_take->zQh,map_cons->zWq,mem_append->zWK,mem_map->zXh,mem_of_mem_drop->zXX,mem_of_mem_take->zWZ,mem_or_eq_of_mem_set->zXG,mem_singleton->zQq,nil_append->zQy,range->zWy,range'->zWz,range'_succ->zYw,range_eq_range'->zWk,replicate->zQg,tail->zYq,tail_drop->zXK
open Nat renaming add_zero->zXk,and_two_pow_sub_one_eq_mod->zZY,le_refl->zWj,le_trans->zWW,lt_of_lt_of_le->zQK,min_eq_left->zXg,mul_le_mul_right->zWX,pow_le_pow_right->zWG,zero_add->zWJ
open Option renaming bind_some->wk
namespace Go.Tm.Pu
open Go.Tm
def am(n a b:Int):Bool:=decide (a<=n) && decide (n<=b)
def dP(size n:Int):Bool:=am size 2 6 && am n 0 (40*size)
def ce(size n:Int):Int:=if dP size n then (n+size - 1) / size else 0
def bW(size n i:Int):Int×Int:=if am i 0 (ce size n - 1) then (i*size,min size (n - i*size)) else (0,0)
theorem bX{n a b:Int}(h:am n a b=true):a<=n/\n<=b:=by simpa [am] using h
theorem O6{n a b:Int}(h:am n a b=false):n < a\/b < n:=by
 simp [am] at h; omega
theorem eJ(u:Nat)(n a b:Int):dE u n a b=some (am n a b):=by
 unfold dE am
 by_cases h:a<=n <;> simp [h]
theorem bC(u:Nat)(n a b:Int):bG u n a b=some (am n a b):=by
 unfold bG am
 by_cases h:a<=n <;> simp [h]
theorem Bp(u:Nat)(s n:Int):rB u s n=some (dP s n):=by
 unfold rB dP;simp only [eJ,wk]
 cases h:am s 2 6 with
 | false=>simp
 | true =>
  have:=bX h;simp (disch:=omega) only [cond_true,zWx,lG]
theorem o6(u:Nat)(s n:Int):la u s n=some (dP s n):=by
 unfold la dP;simp only [bC,wk]
 cases h:am s 2 6 with
 | false=>simp
 | true =>
  have:=bX h;simp (disch:=omega) only [cond_true,zWx,lG];rw [zZk]
theorem tg{s n:Int}(h:dP s n=true):2<=s/\s<=6/\0<=n/\n<=40*s:=by
 simp [dP,am] at h; omega
def vU(a b:Int):Int:=if am a 0 1000000000000 && am b 1 1000000000000 then (a+b - 1) / b else 0
theorem Ir(u:Nat)(a b:Int):sH u a b=some (vU a b):=by
 unfold sH vU q6;simp only [eJ,wk]
 cases h:am a 0 1000000000000 with
 | false=>simp
 | true =>
  cases h2:am b 1 1000000000000 with
  | false=>simp
  | true =>
   have:=bX h;have:=bX h2;have hb:(b == 0)=false:=by simp; omega
   simp (disch:=omega) [c9,cd,cU,JQ,hb]
theorem Is(u:Nat)(a b:Int):rO u a b=some (vU a b):=by
 unfold rO vU qJ;simp only [bC,wk]
 cases h:am a 0 1000000000000 with
 | false=>simp
 | true =>
  cases h2:am b 1 1000000000000 with
  | false=>simp
  | true =>
   have:=bX h;have:=bX h2;have hb:(b == 0)=false:=by simp; omega
   simp (disch:=omega) [c9,cd,cU,JQ,hb]
theorem Hj{s n:Int}(h:dP s n=true):vU n s=(n+s - 1) / s:=by
 have:=tg h;have h1:am n 0 1000000000000=true:=by simp [am]; omega
 have h2:am s 1 1000000000000=true:=by simp [am]; omega
 simp [vU,h1,h2]
theorem Bq(u:Nat)(s n:Int):rC u s n=some (ce s n):=by
 unfold rC ce;simp only [Bp,Ir,wk]
 cases h:dP s n with
 | false=>simp
 | true=>simp [Hj h]
theorem fJ(u:Nat)(s n:Int):lc u s n=some (ce s n):=by
 unfold lc ce;simp only [o6,Is,wk]
 cases h:dP s n with
 | false=>simp
 | true=>simp [Hj h]
theorem eu(s n:Int):0<=ce s n/\ce s n<=40:=by
 unfold ce
 split
 ·rename_i h;have h:=tg h;refine ⟨Int.ediv_nonneg (by omega) (by omega),?_⟩;have:(n+s - 1) / s < 41:=Int.ediv_lt_of_lt_mul (by omega) (by omega);omega
 ·omega
theorem vV{s n i:Int}(h:am i 0 (ce s n - 1)=true):dP s n=true/\0<=i/\i<=39:=by
 have h1:=bX h;have:=eu s n;refine ⟨?_,by omega,by omega⟩
 cases h2:dP s n with
 | true=>rfl
 | false=>simp [ce,h2] at h1; omega
theorem yV{s i:Int}(h1:2<=s)(h2:s<=6)(h3:0<=i)(h4:i<=39):0<=i*s/\i*s<=234 :=
 ⟨Int.mul_nonneg h3 (by omega),Int.le_trans (Int.mul_le_mul h4 h2 (by omega) (by omega)) (by omega)⟩
theorem th(u:Nat)(s n i:Int):lr u s n i=some (bW s n i):=by
 unfold lr bW;have hb:=eu s n;simp (disch:=omega) only [Bq,eJ,wk,cU]
 cases h:am i 0 (ce s n - 1) with
 | false=>simp
 | true =>
  have ⟨h1,h2,h3⟩:=vV h;have h1:=tg h1;have h4:=yV (s:=s) (i:=i) (by omega) (by omega) h2 h3;simp (disch:=omega) [lG,cU];omega
theorem xY(u:Nat)(a b:Int):rk u a b=some (min a b):=by
 unfold rk
 by_cases h:b < a <;> simp [h] <;> omega
theorem fK(u:Nat)(s n i:Int):dB u s n i=some (bW s n i):=by
 unfold dB bW;have hb:=eu s n;simp (disch:=omega) only [fJ,bC,wk,cU]
 cases h:am i 0 (ce s n - 1) with
 | false=>simp
 | true =>
  have ⟨h1,h2,h3⟩:=vV h;have h1:=tg h1;have h4:=yV (s:=s) (i:=i) (by omega) (by omega) h2 h3;simp (disch:=omega) [lG,cU,xY]
def aq(b:List Int):Prop:=∀ x∈b,0<=x/\x<=255
def pO:List Int->Int->Int->Int×Int
 | [],x,y=>(x,y)
 | c :: b,x,y=>pO b ((x+c) % 251) ((y+(x+c) % 251) % 251)
def cr(b:List Int):Int:=(pO b 0 0).1+251*(pO b 0 0).2
theorem Br(b:List Int):∀ (x y:Int),0<=x->x < 251->0<=y->y < 251->0<=(pO b x y).1/\(pO b x y).1 < 251/\0<=(pO b x y).2/\(pO b x y).2 < 251:=by
 induction b with
 | nil=>intro x y h1 h2 h3 h4; exact ⟨h1,h2,h3,h4⟩
 | cons c b ih =>
  intro x y h1 h2 h3 h4;exact ih _ _ (by omega) (by omega) (by omega) (by omega)
theorem EW(b:List Int):0<=cr b/\cr b<=63000:=by
 have:=Br b 0 0 (by omega) (by omega) (by omega) (by omega);unfold cr; omega
theorem LP(u:Nat):∀ (p b:List Int) (i:Nat) (x y:Int),aq b->0<=x->x < 251->0<=y->y < 251 ->
  bP (yi u p) (tD u p) b i (x,y)=oB u (pO b x y).1 (pO b x y).2:=by
 intro p b
 induction b with
 | nil=>intros; rfl
 | cons c b ih =>
  intro i x y hb h1 h2 h3 h4;have hc:=hb c (by simp);have e1:mA .i64 (aQ .i64 x (IntKind.wrap .i64 c)) 251=(x+c) % 251:=by
   rw [eH (by omega) (by omega),cd (by omega) (by omega),wE (by omega)]
  have e2:mA .i64 (aQ .i64 y ((x+c) % 251)) 251=(y+(x+c) % 251) % 251:=by
   rw [cd (by omega) (by omega),wE (by omega)]
  simp only [bP,tD,e1,e2];exact ih (i+1) _ _ (λz hz=>hb z (by simp [hz])) (by omega) (by omega) (by omega) (by omega)
theorem LQ(u:Nat):∀ (p b:List Int) (i:Nat) (x y:Int),aq b->0<=x->x < 251->0<=y->y < 251 ->
  bP (yB u p) (tP u p) b i (x,y)=oQ u (pO b x y).1 (pO b x y).2:=by
 intro p b
 induction b with
 | nil=>intros; rfl
 | cons c b ih =>
  intro i x y hb h1 h2 h3 h4;have hc:=hb c (by simp);have e1:mA .i64 (aQ .i64 x (IntKind.wrap .i64 c)) 251=(x+c) % 251:=by
   rw [eH (by omega) (by omega),cd (by omega) (by omega),wE (by omega)]
  have e2:mA .i64 (aQ .i64 y ((x+c) % 251)) 251=(y+(x+c) % 251) % 251:=by
   rw [cd (by omega) (by omega),wE (by omega)]
  simp only [bP,tP,e1,e2];exact ih (i+1) _ _ (λz hz=>hb z (by simp [hz])) (by omega) (by omega) (by omega) (by omega)
theorem ti{u:Nat}(hu:1099511627776<=u){b:List Int}(hb:aq b)(hl:b.length<=1073741824):mN u b=some (cr b):=by
 unfold mN;rw [FC u b (0,0) u (by omega) (by omega),LP u b b 0 0 0 hb (by omega) (by omega) (by omega) (by omega)];have:=Br b 0 0 (by omega) (by omega) (by omega) (by omega);unfold oB cr;simp (disch:=omega) only [lG,cd]
theorem MI{n m:Int}(hm:0 < m):(n.tmod m+m).tmod m=n % m:=by
 rcases Int.le_total 0 n with h | h
 ·rw [zXV h,zXV (by have:=zZx n (show m≠0 by omega); omega)];simp
 ·have h1:n.tmod m=-((-n) % m):=by
   rw [show n=-(-n) by omega,Int.neg_tmod,zXV (by omega)]; simp
  have h2:=zZx (-n) (show m≠0 by omega);have h3:=zZy (-n) hm;rw [h1,zXV (by omega)];have:(-((-n) % m)+m) % m=n % m:=by
   have e:-n=m*(-n / m)+(-n) % m:=(Int.mul_ediv_add_emod (-n) m).symm;have e2:-((-n) % m)+m=n+m*(-n / m+1):=by
    rw [Int.mul_add]; omega
   rw [e2,Int.add_mul_emod_self_left]
  exact this
theorem Kv{n m:Int}(hm:0 < m):-m < n.tmod m/\n.tmod m < m:=by
 rcases Int.le_total 0 n with h | h
 ·rw [zXV h];have h2:=zZx n (show m≠0 by omega);have h3:=zZy n hm;omega
 ·have h1:n.tmod m=-((-n) % m):=by
   rw [show n=-(-n) by omega,Int.neg_tmod,zXV (by omega)]; simp
  have h2:=zZx (-n) (show m≠0 by omega);have h3:=zZy (-n) hm;omega
theorem Nr(u:Nat)(n m:Int):vS u n m=some (if am m 1 1000000000000 then n % m else 0):=by
 unfold vS;simp only [eJ,wk]
 cases h:am m 1 1000000000000 with
 | false=>simp
 | true =>
  have h3:=bX h;have hb:(m == 0)=false:=by simp; omega
  have h4:=Kv (n:=n) (m:=m) (by omega);simp only [hb,zQV,cond_false,zZj,A4,wk];have e1:mA .i64 n m=n.tmod m:=rfl;rw [e1,cd (by omega) (by omega)];show some ((n.tmod m+m).tmod m)=_;rw [MI (by omega)]; simp
theorem Ns(u:Nat)(x y:Int):yA u x y=some (x % 251+251*(y % 251)):=by
 unfold yA;have h:am 251 1 1000000000000=true:=by decide
 simp only [Nr,wk,h,if_true];simp (disch:=omega) only [lG,cd]
theorem Kw{u:Nat}(hu:1099511627776<=u){b:List Int}(hb:aq b)(hl:b.length<=1073741824):uE u b=some (cr b):=by
 unfold uE;rw [FR u b (0,0) u (by omega) (by omega),LQ u b b 0 0 0 hb (by omega) (by omega) (by omega) (by omega)];have:=Br b 0 0 (by omega) (by omega) (by omega) (by omega);unfold oQ cr;simp only [Ns,wk]
 congr 1
 omega
def lH:Nat->Int->List Int
 | 0,_=>[]
 | n+1,s=>lH n (s / 256)++[s % 256]
def nI:Nat->Int->Option (List Int)
 | 0,s=>if s=1 then some [] else none
 | n+1,s=>if s=1 then some [] else if s < 256 then none else (nI n (s / 256)).map (·++[s % 256])
def b9(s:Int):List Int×Bool:=if s < 1 then ([],false) else match nI 6 s with | some b=>(b,true) | none=>([],false)
def CH:Nat->Int->Nat
 | 0,_=>0
 | k+1,t=>if 1 < t then CH k (t / 256)+1 else 0
def rh:Nat->Int->Int
 | 0,t=>t
 | k+1,t=>if 1 < t then rh k (t / 256) else t
theorem VL:∀ (k:Nat) (t:Int),CH k t<=k:=by
 intro k
 induction k with
 | zero=>intro t; simp [CH]
 | succ k ih=>intro t; unfold CH; have:=ih (t / 256); split <;> omega
theorem O7:∀ (k:Nat) (t:Int),rh k t=t / 256 ^ CH k t:=by
 intro k
 induction k with
 | zero=>intro t; simp [rh,CH]
 | succ k ih =>
  intro t;unfold rh CH
  split
  ·rw [ih,zZz (by omega),zXq,zZk]
  ·simp
theorem MJ:∀ (k:Nat) (t:Int),0<=t->nI k t=if rh k t=1 then some (lH (CH k t) t) else none:=by
 intro k
 induction k with
 | zero=>intro t h; simp [nI,rh,CH,lH]
 | succ k ih =>
  intro t h;unfold nI rh CH
  by_cases h1:t=1
  ·subst h1; simp [lH]
  ·rw [if_neg h1]
   by_cases h2:1 < t
   ·simp only [if_pos h2]
    by_cases h3:t < 256
    ·have:t / 256=0:=Int.ediv_eq_zero_of_lt h h3;rw [if_pos h3,this];have:rh k 0=0:=by rw [O7]; simp
     rw [this]; simp
    ·rw [if_neg h3,ih _ (by omega)]
     split <;> simp [lH]
   ·have:t=0:=by omega
    subst this; simp
theorem TL:∀ (k:Nat) (t:Int),0<=t->t / 256 ^ k<=rh k t:=by
 intro k
 induction k with
 | zero=>intro t h; simp [rh]
 | succ k ih =>
  intro t h;unfold rh
  split
  ·have:=ih (t / 256) (by omega);rwa [zZz (by omega),zZk,<- zXq] at this
  ·exact Int.ediv_le_self _ h
theorem Nt:∀ (n:Nat) (s:Int),aq (lH n s):=by
 intro n
 induction n with
 | zero=>intro s x hx; simp [lH] at hx
 | succ n ih =>
  intro s x hx;simp only [lH,zWK,zQq] at hx;rcases hx with h | h
  ·exact ih _ x h
  ·omega
theorem LR:∀ (n:Nat) (s:Int),(lH n s).length=n:=by
 intro n
 induction n with
 | zero=>intro s; rfl
 | succ n ih=>intro s; simp [lH,ih]
theorem zN{s:Int}{b:List Int}(h:b9 s=(b,true)):1<=s/\s / 256 ^ b.length=1/\b=lH b.length s/\b.length<=6:=by
 unfold b9 at h
 split at h
 ·cases h
 ·rename_i h1;rw [MJ 6 s (by omega)] at h;have he:=O7 6 s;have hn:=VL 6 s
  by_cases h2:rh 6 s=1
  ·simp only [h2,if_true,Prod.mk.injEq,and_true] at h;subst h;rw [LR];exact ⟨by omega,by rw [<- he]; exact h2,rfl,hn⟩
  ·simp [h2] at h
theorem xZ(s:Int):aq (b9 s).1/\(b9 s).1.length<=6:=by
 match h:b9 s with
 | (b,true) =>
  have h:=zN h;exact ⟨by rw [h.2.2.1]; exact Nt _ _,h.2.2.2⟩
 | (b,false) =>
  have:b=[]:=by
   unfold b9 at h
   split at h
   ·simp at h; exact h.symm ▸ rfl
   ·split at h <;> simp at h; exact h.symm ▸ rfl
  subst this;exact ⟨by simp [aq],by simp⟩
theorem US(a:Int)(h:0<=a):IntKind.wrap .u8 (gE .i64 a 255)=a % 256:=by
 have:gE .i64 a 255=a % 256:=by
  unfold gE;have e:(BitVec.ofInt (IntKind.bits .i64) a &&& BitVec.ofInt (IntKind.bits .i64) 255).toNat=(a % 256).toNat:=by
   change (BitVec.ofInt 64 a &&& BitVec.ofInt 64 255).toNat=(a % 256).toNat
   rw [BitVec.toNat_and,BitVec.toNat_ofInt,BitVec.toNat_ofInt,show ((255:Int) % ((2 ^ 64:Nat):Int)).toNat=2 ^ 8 - 1 by decide,zZY];omega
  rw [e];exact (eH (by omega) (by omega)).trans (by omega)
 rw [this,zH]; omega
theorem Dm(u:Nat):∀ (k n:Nat) (s:Int) (acc:List Int),n < k->1<=s->s < 256 ^ n*2->acc.length+n<=1000 ->
  kS u k s acc=some (match nI n s with | some b=>(b++acc,true) | none=>([],false)):=by
 intro k
 induction k with
 | zero=>intro n s acc h; omega
 | succ k ih =>
  intro n s acc hk h1 h2 h3;unfold kS
  by_cases h4:s=1
  ·subst h4
   cases n <;> simp [nI,uT]
  ·have h5:s > 1:=by omega
   cases n with
   | zero=>simp at h2; omega
   | succ n =>
    simp only [h5,decide_true,cond_true,nI,if_neg h4]
    by_cases h6:s < 256
    ·simp [h6]
    ·have hw:([IntKind.wrap .u8 (gE .i64 s 255)])=[s % 256]:=by rw [US _ (by omega)]
     simp only [h6,decide_false,cond_false,if_false,Wb,hw];rw [bu (by simp; omega)];simp only [wk];rw [ih n (s / 256) _ (by omega) (by omega) (by rw [zXq] at h2; omega) (by simp; omega)]
     cases nI n (s / 256) <;> simp
theorem O8{s:Int}(h:562949953421311 < s):b9 s=([],false):=by
 unfold b9;rw [if_neg (by omega),MJ 6 s (by omega)];have:=TL 6 s (by omega);have e:(256:Int) ^ 6=281474976710656:=by decide
 rw [e] at this;rw [if_neg (by omega)]
theorem vg{u:Nat}(hu:1099511627776<=u)(s:Int):mU u s=some (b9 s):=by
 unfold mU;simp only [bC,wk]
 cases h:am s 1 562949953421311 with
 | false =>
  rcases O6 h with h | h
  ·simp [b9,h]
  ·rw [O8 h]; simp
 | true =>
  have h:=bX h;have e:(256:Int) ^ 6=281474976710656:=by decide
  simp only [zQV,cond_false];rw [Dm u u 6 s [] (by omega) (by omega) (by rw [e]; omega) (by simp)];unfold b9;rw [if_neg (by omega)]
  cases nI 6 s <;> simp
def iq:List Int->Int->Int
 | [],s=>s
 | c :: b,s=>iq b (256*s+c)
def du(b:List Int):cn:=if 6 < b.length then ⟨0,0⟩ else ⟨cr b,iq b 1⟩
theorem O9(a b:List Int):∀ s,iq (a++b) s=iq b (iq a s):=by
 induction a with
 | nil=>intro s; rfl
 | cons c a ih=>intro s; exact ih _
theorem Pa:∀ (n:Nat) (s:Int),s / 256 ^ n=1->iq (lH n s) 1=s:=by
 intro n
 induction n with
 | zero=>intro s h; simpa [lH,iq] using h.symm
 | succ n ih =>
  intro s h;rw [lH,O9,ih]
  ·simp only [iq]; omega
  ·rw [zZz (by omega),zZk,<- zXq]; exact h
theorem yb{s:Int}{b:List Int}(h:b9 s=(b,true)):du b=⟨cr b,s⟩:=by
 have ⟨h1,h2,h3,h4⟩:=zN h;unfold du;have:=Pa b.length s h2;rw [<- h3] at this;rw [if_neg (by omega),this]
theorem Kx:∀ (b:List Int) (s:Int) (n:Nat),aq b->0<=s->s < 256 ^ n*2->0<=iq b s/\iq b s < 256 ^ (n+b.length)*2:=by
 intro b
 induction b with
 | nil=>intro s n _ h1 h2; exact ⟨h1,h2⟩
 | cons c b ih =>
  intro s n hb h1 h2;have hc:=hb c (by simp);have:=ih (256*s+c) (n+1) (λz hz=>hb z (by simp [hz])) (by omega) (by rw [zXq]; omega);simp only [zQW,iq];rwa [show n+(b.length+1)=n+1+b.length by omega]
theorem Nu(u:Nat):∀ (p b:List Int) (i:Nat) (s:Int) (n:Nat),aq b->0<=s->s < 256 ^ n*2->n+b.length<=6 ->
  bP (Ab u p) (uS u p) b i s=qc u p (iq b s):=by
 intro p b
 induction b with
 | nil=>intros; rfl
 | cons c b ih =>
  intro i s n hb h1 h2 h3;have hc:=hb c (by simp);simp only [zQW] at h3;have hp:(256:Int) ^ n<=1099511627776:=by
   rcases (show n=0\/n=1\/n=2\/n=3\/n=4\/n=5 by omega) with rfl | rfl | rfl | rfl | rfl | rfl <;> decide
  simp only [bP,uS];rw [eH (by omega) (by omega),lG (by omega) (by omega),cd (by omega) (by omega)];exact ih (i+1) _ (n+1) (λz hz=>hb z (by simp [hz])) (by omega) (by rw [zXq]; omega) (by omega)
theorem lQ{u:Nat}(hu:1099511627776<=u){b:List Int}(hb:aq b)(hl:b.length<=1073741824):gj u b=some (du b):=by
 unfold gj du
 by_cases h:6 < b.length
 ·have:(b.length:Int) > 6:=by omega
  simp [h,this]
 ·have:¬ ((b.length:Int) > 6):=by omega
  simp only [this,decide_false,cond_false,h,if_false];rw [HG u b 1 u (by omega) (by omega),Nu u b b 0 1 0 hb (by omega) (by decide) (by omega)];unfold qc;rw [ti hu hb hl];rfl
def tj(size len:Int)(i:Nat)(s:cn):Bool:=(b9 s.fS).2 && ((b9 s.fS).1.length == (bW size len i).2) && (cr (b9 s.fS).1 == s.fW)
def mF(size len:Int):List cn->Nat->Bool
 | [],_=>true
 | s :: l,i=>tj size len i s && mF size len l (i+1)
def cV(m:ag):Bool :=
 if m.aS=0 then m.aw == 0 && m.aY == 0 && m.aC.length == 0
 else am m.aS 1 1000000 && dP m.aw m.aY && ((m.aC.length:Int) == ce m.aw m.aY) && mF m.aw m.aY m.aC 0
theorem Ky(a b:Int):(a != b)=!(a == b):=rfl
theorem Nv{u:Nat}(hu:1099511627776<=u)(m:ag):∀ (l:List cn) (i:Nat),l=m.aC.drop i->bP (Ac u m) (uU u m) l i ()=some (mF m.aw m.aY l i):=by
 intro l
 induction l with
 | nil=>intro i _; rfl
 | cons s l ih =>
  intro i hd;have hb:=xZ s.fS;have hx:m.aC[i]?=some s:=by
   have:=congrArg zYV hd
   simpa [zXW] using this.symm
  have hl:l=m.aC.drop (i+1):=by
   have:=congrArg zYq hd
   simpa [zXK] using this
  simp only [bP,uU,vg hu,fK,wk,mF,tj,jH,ih (i+1) hl,lQ hu hb.1 (show _<=_ by omega),Ky,cM,hx]
  cases h:(b9 s.fS).2 with
  | false=>simp
  | true =>
   have h2:=yb (s:=s.fS) (b:=(b9 s.fS).1) (by rw [<- h]);rw [h2];have h3:(([cr (b9 s.fS).1,s.fS]:List Int) == [s.fW,s.fS])=(cr (b9 s.fS).1 == s.fW):=by simp
   simp only [h3]
   cases (((b9 s.fS).1.length:Int) == (bW m.aw m.aY ↑i).2) <;> cases (cr (b9 s.fS).1 == s.fW) <;> simp
theorem fL{u:Nat}(hu:1099511627776<=u)(m:ag)(hl:m.aC.length<=1073741824):gI u m=some (cV m):=by
 unfold gI cV qe;simp only [bC,o6,fJ,wk,Ky,HH u m () u (by omega) (by omega),Nv hu m m.aC 0 (by simp)];have e0:(((m.aC.length:Int)) == 0)=(m.aC.length == 0):=by rw [zYQ]; simp
 by_cases h:m.aS=0
 ·simp only [h,if_true,beq_self_eq_true,cond_true,e0]
  cases (m.aw == 0) <;> cases (m.aY == 0) <;> cases (m.aC.length == 0) <;> simp
 ·have:(m.aS == 0)=false:=by simpa using h
  simp only [h,if_false,this,cond_false,wk]
  cases am m.aS 1 1000000 <;> cases dP m.aw m.aY <;> cases ((m.aC.length:Int) == ce m.aw m.aY) <;> simp
def gc:Nat->Int->List Int
 | 0,n=>[n % 256]
 | k+1,n=>if n<=127 then [n % 256] else (n % 128+128) :: gc k (n / 128)
def aZ(b:List Int)(n:Int):List Int:=if am n 0 1000000000000 then b++gc 9 n else b
theorem Wo:∀ a:Nat,a < 256->(a ||| 128)=a % 128+128:=by decide +kernel
theorem Nw(a:Int):gE .i64 a 127=a % 128:=by
 unfold gE;have e:(BitVec.ofInt (IntKind.bits .i64) a &&& BitVec.ofInt (IntKind.bits .i64) 127).toNat=(a % 128).toNat:=by
  change (BitVec.ofInt 64 a &&& BitVec.ofInt 64 127).toNat=(a % 128).toNat
  rw [BitVec.toNat_and,BitVec.toNat_ofInt,BitVec.toNat_ofInt,show ((127:Int) % ((2 ^ 64:Nat):Int)).toNat=2 ^ 7 - 1 by decide,zZY];omega
 rw [e];exact (eH (by omega) (by omega)).trans (by omega)
theorem RH(a:Int)(h1:0<=a)(h2:a < 256):vL .i64 a 128=a % 128+128:=by
 unfold vL;have e:(BitVec.ofInt (IntKind.bits .i64) a ||| BitVec.ofInt (IntKind.bits .i64) 128).toNat=(a % 128+128).toNat:=by
  change (BitVec.ofInt 64 a ||| BitVec.ofInt 64 128).toNat=_
  rw [BitVec.toNat_or,BitVec.toNat_ofInt,BitVec.toNat_ofInt,show ((128:Int) % ((2 ^ 64:Nat):Int)).toNat=128 by decide,show (a % ((2 ^ 64:Nat):Int)).toNat=a.toNat by omega,Wo _ (by omega)];omega
 rw [e];exact (eH (by omega) (by omega)).trans (by omega)
theorem Dn:∀ (k:Nat) (n:Int),(gc k n).length<=k+1:=by
 intro k
 induction k with
 | zero=>intro n; simp [gc]
 | succ k ih =>
  intro n;unfold gc;have:=ih (n / 128)
  split <;> simp <;> omega
theorem MK:∀ (k:Nat) (n:Int),aq (gc k n):=by
 intro k
 induction k with
 | zero=>intro n x hx; simp [gc] at hx; omega
 | succ k ih =>
  intro n x hx;unfold gc at hx
  split at hx
  ·simp at hx; omega
  ·rcases List.mem_cons.1 hx with h | h
   ·omega
   ·exact ih _ x h
theorem xG{a b:List Int}(h:aq a)(k:aq b):aq (a++b):=by
 intro x hx;rcases List.mem_append.1 hx with g | g
 ·exact h x g
 ·exact k x g
theorem Co(u:Nat):∀ (j k:Nat) (n:Int) (b:List Int),n < 128 ^ (j+1)->j < k->b.length+j<=1099511627776->il u k b n=some (b++gc j n):=by
 intro j
 induction j with
 | zero =>
  intro k n b h1 h2 h3;obtain ⟨k,rfl⟩:∃ i,k=i+1:=⟨k - 1,by omega⟩;unfold il;have:¬ (n > 127):=by simp at h1; omega
  simp only [this,decide_false,cond_false,po,gc,zH];rw [bu (by simp; omega)]; rfl
 | succ j ih =>
  intro k n b h1 h2 h3;obtain ⟨k,rfl⟩:∃ i,k=i+1:=⟨k - 1,by omega⟩;unfold il
  by_cases h:n > 127
  ·have h':¬ n<=127:=by omega
   simp only [h,decide_true,cond_true,gc,h',if_false,zH,Vp,Nw];rw [bu (by simp; omega),RH _ (by omega) (by omega)];simp only [wk];rw [ih k (n / 128) _ (by rw [zXq] at h1; omega) (by omega) (by simp; omega),show (n % 128 % 128+128) % 256=n % 128+128 by omega];simp
  ·have h':n<=127:=by omega
   simp only [h,decide_false,cond_false,gc,h',if_true,po,zH];rw [bu (by simp; omega)]; rfl
theorem EX(u:Nat):∀ (j k:Nat) (n:Int) (b:List Int),n < 128 ^ (j+1)->j < k->b.length+j<=1099511627776->kw u k n b=some (b++gc j n):=by
 intro j
 induction j with
 | zero =>
  intro k n b h1 h2 h3;obtain ⟨k,rfl⟩:∃ i,k=i+1:=⟨k - 1,by omega⟩;unfold kw;have:¬ (n > 127):=by simp at h1; omega
  simp only [this,decide_false,cond_false,se,gc,zH];rw [bu (by simp; omega)]; rfl
 | succ j ih =>
  intro k n b h1 h2 h3;obtain ⟨k,rfl⟩:∃ i,k=i+1:=⟨k - 1,by omega⟩;unfold kw
  by_cases h:n > 127
  ·have h':¬ n<=127:=by omega
   simp only [h,decide_true,cond_true,gc,h',if_false,zH,Vp,Nw];rw [bu (by simp; omega),RH _ (by omega) (by omega)];simp only [wk];rw [ih k (n / 128) _ (by rw [zXq] at h1; omega) (by omega) (by simp; omega),show (n % 128 % 128+128) % 256=n % 128+128 by omega];simp
  ·have h':n<=127:=by omega
   simp only [h,decide_false,cond_false,gc,h',if_true,se,zH];rw [bu (by simp; omega)]; rfl
theorem Wq:(128:Int) ^ (9+1)=1180591620717411303424:=by decide
theorem Gy{u:Nat}(hu:1099511627776<=u){b:List Int}{n:Int}(hl:b.length<=1073741824)(hn:n<=9223372036854775807):qi u b n=some (b++gc 9 n) :=
 Co u 9 u n b (by rw [Wq]; omega) (by omega) (by omega)
theorem Kz(u:Nat){b:List Int}(hl:b.length<=1073741824):uD u b=some b:=by
 unfold uD;rw [bu (by simp; omega),bu (by simp; omega)];simp [c9]
theorem dj{u:Nat}(hu:1099511627776<=u){b:List Int}{n:Int}(hl:b.length<=1073741824):dD u b n=some (aZ b n):=by
 unfold dD aZ;rw [bu (by simp; omega)];simp only [bC,wk,zQy]
 cases h:am n 0 1000000000000 with
 | false=>simp
 | true=>have:=bX h; simp [EX u 9 u n b (by rw [Wq]; omega) (by omega) (by omega)]
theorem bN(b:List Int)(n:Int):(aZ b n).length<=b.length+10:=by
 unfold aZ;have:=Dn 9 n
 split <;> simp <;> omega
def nZ(b:List Int):List cn->List Int
 | []=>b
 | s :: l=>nZ (b++gc 9 s.fS) l
def tl(b:List Int)(m:ag):List Int:=if cV m then nZ (aZ (aZ (aZ b m.aS) m.aw) m.aY) m.aC else b
def pP(m:ag):Prop:=∀ s∈m.aC,s.fS<=9223372036854775807
theorem vW{m:ag}(h:cV m=true):m.aC.length<=40:=by
 unfold cV at h
 split at h
 ·simp only [sY,beq_iff_eq] at h;have:=h.2;omega
 ·have:=eu m.aw m.aY;simp only [sY,beq_iff_eq] at h;omega
theorem LS{u:Nat}(hu:1099511627776<=u)(m:ag):∀ (l:List cn) (i:Nat) (b:List Int),(∀ s∈l,s.fS<=9223372036854775807)->b.length+10*l.length<=1073741824 ->
  bP (yk u m) (tH u m) l i b=some (nZ b l):=by
 intro l
 induction l with
 | nil=>intros; rfl
 | cons s l ih =>
  intro i b h1 h2;simp only [zQW] at h2;have h3:=Dn 9 s.fS;simp only [bP,tH,Gy hu (show b.length<=1073741824 by omega) (h1 s (by simp)),wk,nZ];exact ih (i+1) _ (λz hz=>h1 z (by simp [hz])) (by simp; omega)
theorem KA{u:Nat}(hu:1099511627776<=u){b:List Int}{m:ag}(hl:b.length<=536870912)(hm:m.aC.length<=1073741824)(hw:pP m):uo u b m=some (tl b m):=by
 unfold uo tl;have h1:=bN b m.aS;have h2:=bN (aZ b m.aS) m.aw;have h3:=bN (aZ (aZ b m.aS) m.aw) m.aY;rw [bu (by simp; omega),fL hu m hm];simp only [zQy,wk]
 cases h:cV m with
 | false=>simp
 | true =>
  have h4:=vW h;simp only [wk,zQV,cond_false,if_true];rw [dj hu (by omega)]; simp only [wk];rw [dj hu (by omega)]; simp only [wk];rw [dj hu (by omega)]; simp only [wk];rw [FH u m _ u (by omega) (by omega),LS hu m _ _ _ hw (by omega)]
theorem n4{a:Int}(h1:0<=a)(h2:a < 18446744073709551616):(BitVec.ofInt 64 a).toNat=a.toNat:=by
 rw [BitVec.toNat_ofInt]; omega
theorem B0{a b:Nat}(h1:a < 9223372036854775808)(h2:b < 9223372036854775808):vL .i64 (a:Int) (b:Int)=((a ||| b:Nat):Int):=by
 unfold vL;have e:(BitVec.ofInt (IntKind.bits .i64) (a:Int) ||| BitVec.ofInt (IntKind.bits .i64) (b:Int)).toNat=a ||| b:=by
  change (BitVec.ofInt 64 (a:Int) ||| BitVec.ofInt 64 (b:Int)).toNat=_
  rw [BitVec.toNat_or,n4 (by omega) (by omega),n4 (by omega) (by omega)]; rfl
 rw [e];have:a ||| b < 2 ^ 63:=Nat.or_lt_two_pow (by omega) (by omega)
 exact eH (by omega) (by omega)
theorem Pb{a b:Nat}(h1:a < 9223372036854775808)(h2:b < 9223372036854775808):gE .i64 (a:Int) (b:Int)=((a &&& b:Nat):Int):=by
 unfold gE;have e:(BitVec.ofInt (IntKind.bits .i64) (a:Int) &&& BitVec.ofInt (IntKind.bits .i64) (b:Int)).toNat=a &&& b:=by
  change (BitVec.ofInt 64 (a:Int) &&& BitVec.ofInt 64 (b:Int)).toNat=_
  rw [BitVec.toNat_and,n4 (by omega) (by omega),n4 (by omega) (by omega)]; rfl
 rw [e];have:a &&& b<=a:=Nat.and_le_left;exact eH (by omega) (by omega)
theorem Gz{i:Nat}(h:i<=62):iT .i64 1 (i:Int)=((2 ^ i:Nat):Int):=by
 unfold iT;rw [show min (sX (i:Int)) (IntKind.bits .i64)=i by simp [IntKind.bits]; omega];have h1:(2:Nat) ^ i<=2 ^ 62:=zWG (by omega) h;have h2:(1:Int)*2 ^ i=((2 ^ i:Nat):Int):=by simp
 rw [h2];generalize (2:Nat) ^ i=p at h1;exact eH (by omega) (by omega)
theorem Pc{a i:Nat}(h:i<=64):rJ .i64 (a:Int) (i:Int)=((a / 2 ^ i:Nat):Int):=by
 rw [Qo .i64 _ i h]; simp
def gD:Nat->(Nat->Bool)->Nat
 | 0,_=>0
 | n+1,f=>gD n f ||| (if f n then 2 ^ n else 0)
theorem ue(f:Nat->Bool):∀ (n i:Nat),(gD n f).testBit i=(decide (i < n) && f i):=by
 intro n
 induction n with
 | zero=>intro i; simp [gD]
 | succ n ih =>
  intro i;rw [gD,Nat.testBit_or,ih]
  by_cases h:i=n
  ·subst h
   cases f i <;> simp [Nat.testBit_two_pow_self]
  ·have h1:(if f n=true then 2 ^ n else 0).testBit i=false:=by
    split
    ·exact Nat.testBit_two_pow_of_ne (Ne.symm h)
    ·simp
   rw [h1,Bool.or_false]
   congr 1
   rw [decide_eq_decide]; omega
theorem Bt(f:Nat->Bool)(n:Nat):gD n f < 2 ^ n:=by
 induction n with
 | zero=>simp [gD]
 | succ n ih =>
  rw [gD];refine Nat.or_lt_two_pow (by rw [Nat.pow_succ]; omega) ?_;have:=Nat.pow_lt_pow_right (a:=2) (by omega) (Nat.lt_succ_self n)
  split <;> omega
theorem Pd{f g:Nat->Bool}:∀ {n:Nat},(∀ i,i < n->f i=g i)->gD n f=gD n g:=by
 intro n h
 apply Nat.eq_of_testBit_eq
 intro i;rw [ue,ue]
 by_cases hi:i < n
 ·rw [h i hi]
 ·simp [hi]
theorem Pe{a b n:Nat}(hn:n<=62)(h1:a < 2 ^ n)(h2:b < 2 ^ n):BY .i64 (a:Int) (b:Int)=((gD n (λi=>a.testBit i && !b.testBit i):Nat):Int):=by
 have hp:(2:Nat) ^ n<=2 ^ 62:=zWG (by omega) hn;unfold BY;have e:(BitVec.ofInt (IntKind.bits .i64) (a:Int) &&& ~~~ BitVec.ofInt (IntKind.bits .i64) (b:Int)).toNat=gD n (λi=>a.testBit i && !b.testBit i):=by
  change (BitVec.ofInt 64 (a:Int) &&& ~~~ BitVec.ofInt 64 (b:Int)).toNat=_
  apply Nat.eq_of_testBit_eq
  intro i;rw [ue,BitVec.toNat_and,Nat.testBit_and,n4 (by omega) (by omega),BitVec.testBit_toNat,BitVec.getLsbD_not];have hb:(BitVec.ofInt 64 (b:Int)).getLsbD i=b.testBit i:=by rw [<- BitVec.testBit_toNat,n4 (by omega) (by omega)]; rfl
  rw [hb];have ha:((a:Int).toNat).testBit i=a.testBit i:=by simp
  rw [ha]
  by_cases hi:i < n
  ·have:i < 64:=by omega
   simp [hi,this]
  ·have:a < 2 ^ i:=zQK h1 (zWG (by omega) (by omega));simp [hi,Nat.testBit_lt_two_pow this]
 rw [e];have:=Bt (λi=>a.testBit i && !b.testBit i) n;exact eH (by omega) (by omega)
def ct(s:Int):Bool:=am s 0 1099511627775
def eA(i:Int):Bool:=am i 0 39
def dv(s i:Int):Bool:=ct s && eA i && s.toNat.testBit i.toNat
theorem LT(u:Nat)(s:Int):wC u s=some (ct s):=by simp [wC,eJ,ct]
theorem eR(u:Nat)(s:Int):dL u s=some (ct s):=by simp [dL,bC,ct]
theorem It(u:Nat)(s:Int):sM u s=some (eA s):=by simp [sM,eJ,eA]
theorem TM{s i:Int}(hs:ct s=true)(hi:eA i=true):(gE .i64 (rJ .i64 s i) 1 == 1)=s.toNat.testBit i.toNat:=by
 have h1:=bX hs;have h2:=bX hi;obtain ⟨a,rfl⟩:=zQZ h1.1;obtain ⟨n,rfl⟩:=zQZ h2.1;rw [Pc (by omega)];have h3:a / 2 ^ n<=a:=Nat.div_le_self a _;rw [show (1:Int)=((1:Nat):Int) by rfl,Pb (by omega) (by omega),Nat.and_one_is_mod];simp only [r0,Nat.testBit_eq_decide_div_mod_eq];generalize a / 2 ^ n=z;rw [zYQ,beq_iff_eq,decide_eq_true_eq]; omega
theorem LU(u:Nat)(s i:Int):tQ u s i=some (dv s i):=by
 unfold tQ dv;simp only [LT,It,wk]
 cases h1:ct s with
 | false=>simp
 | true =>
  cases h2:eA i with
  | false=>simp
  | true =>
   have h3:=bX h2;rw [bu (by omega)];simp [TM h1 h2]
theorem jU(u:Nat)(s i:Int):dS u s i=some (dv s i):=by
 unfold dS dv;simp only [eR,bC,wk]
 cases h1:ct s with
 | false=>simp
 | true =>
  change ((bif true then (bif eA i then _ else _) else _):Option Bool)=_
  cases h2:eA i with
  | false=>simp
  | true =>
   have h3:=bX h2;simp only [cond_true];rw [bu (by omega)];simp [TM h1 h2]
def fy(s:Int):List Int:=if ct s then ((zWy 40).filter λi=>s.toNat.testBit i).map Int.ofNat else []
theorem Hk{α ρ:Type}{fin:List α->Option ρ}{body:Nat->List α->(List α->Option ρ)->Option ρ}(f:Nat->Bool)(g:Nat->α)(n c:Nat)(hb:∀ i s k,i < n->s.length<=c+i->body i s k=k (if f i then s++[g i] else s)) :
  ∀ (m i:Nat) (s:List α),i+m=n->s.length<=c+i->lS fin body m i s=fin (s++(((zWz i m).filter f).map g)):=by
 intro m
 induction m with
 | zero=>intro i s h1 h2; simp [lS]
 | succ m ih =>
  intro i s h1 h2;simp only [lS];rw [hb i s _ (by omega) h2]
  cases hf:f i with
  | true =>
   simp only [if_true];rw [ih (i+1) _ (by omega) (by simp; omega),zYw,zZZ,hf];simp
  | false =>
   simp only [zQz,if_false];rw [ih (i+1) _ (by omega) (by omega),zYw,zZZ,hf];simp
theorem Iu{u:Nat}(hu:1099511627776<=u)(s:Int):sN u s=some (fy s):=by
 unfold sN;rw [D8 u s [] u (by omega) (by omega),Hk (λi=>dv s i) (λi=>(i:Int)) 40 0 _ (sX 40) 0 [] (by decide) (by simp)]
 ·unfold xh q7 fy;rw [show sX 40=40 by rfl,<- zWk]
  cases h:ct s with
  | false=>simp [dv,h]
  | true =>
   simp only [zQy,if_true]
   congr 2
   apply List.filter_congr
   intro i hi;have hi:i < 40:=by simpa using hi
   have:eA (i:Int)=true:=by simp [eA,am]; omega
   simp [dv,h,this]
 ·intro i t k hi ht;unfold xi;rw [LU];simp only [wk]
  cases dv s i with
  | false=>simp [jw]
  | true =>
   simp only [cond_true,if_true];rw [bu (by simp; omega)];simp [jw]
theorem Av{u:Nat}(hu:1099511627776<=u)(s:Int):pz u s=some (fy s):=by
 unfold pz;rw [D7 u s [] u (by omega) (by omega),Hk (λi=>dv s i) (λi=>(i:Int)) 40 0 _ (sX 40) 0 [] (by decide) (by simp)]
 ·unfold xb qU fy;rw [show sX 40=40 by rfl,<- zWk]
  cases h:ct s with
  | false=>simp [dv,h]
  | true =>
   simp only [zQy,if_true]
   congr 2
   apply List.filter_congr
   intro i hi;have hi:i < 40:=by simpa using hi
   have:eA (i:Int)=true:=by simp [eA,am]; omega
   simp [dv,h,this]
 ·intro i t k hi ht;unfold xd;rw [jU];simp only [wk]
  cases dv s i with
  | false=>simp [ju]
  | true =>
   simp only [cond_true,if_true];rw [bu (by simp; omega)];simp [ju]
theorem TN{s c:Int}(h1:0<=s)(h2:s < 36028797018963968)(h3:0<=c)(h4:c<=255):vL .i64 (iT .i64 s 8) c=256*s+c:=by
 obtain ⟨a,rfl⟩:=zQZ h1;obtain ⟨b,rfl⟩:=zQZ h3;have e:iT .i64 (a:Int) 8=((a*256:Nat):Int):=by
  unfold iT;rw [show min (sX (8:Int)) (IntKind.bits .i64)=8 by rfl];rw [eH (by omega) (by omega)]; omega
 rw [e,B0 (by omega) (by omega)];have h5:=Nat.shiftLeft_add_eq_or_of_lt (b:=b) (i:=8) (by omega) a;rw [Nat.shiftLeft_eq,show (2:Nat) ^ 8=256 from rfl] at h5;rw [<- h5]; omega
theorem Nx(u:Nat):∀ (p b:List Int) (i:Nat) (s:Int) (n:Nat),aq b->0<=s->s < 256 ^ n*2->n+b.length<=6 ->
  bP (Ad u p) (u3 u p) b i s=qB u p (iq b s):=by
 intro p b
 induction b with
 | nil=>intros; rfl
 | cons c b ih =>
  intro i s n hb h1 h2 h3;have hc:=hb c (by simp);simp only [zQW] at h3;have hp:(256:Int) ^ n<=1099511627776:=by
   rcases (show n=0\/n=1\/n=2\/n=3\/n=4\/n=5 by omega) with rfl | rfl | rfl | rfl | rfl | rfl <;> decide
  simp only [bP,u3];rw [eH (by omega) (by omega),TN (by omega) (by omega) (by omega) (by omega)];exact ih (i+1) _ (n+1) (λz hz=>hb z (by simp [hz])) (by omega) (by rw [zXq]; omega) (by omega)
theorem CI{u:Nat}(hu:1099511627776<=u){b:List Int}(hb:aq b)(hl:b.length<=1073741824):oS u b=some (du b):=by
 unfold oS du
 by_cases h:6 < b.length
 ·have:(b.length:Int) > 6:=by omega
  simp [h,this]
 ·have:¬ ((b.length:Int) > 6):=by omega
  simp only [this,decide_false,cond_false,h,if_false];rw [HN u b 1 u (by omega) (by omega),Nx u b b 0 1 0 hb (by omega) (by decide) (by omega)];unfold qB;rw [Kw hu hb hl];rfl
def M.win(b:List Int)(i n:Nat):List Int:=(b.take (i+n)).drop i
theorem KB(b:List Int)(i n:Nat):M.win b i n=(b.drop i).take n:=by
 unfold M.win; rw [List.drop_take]; congr 1; omega
theorem mT{b:List Int}(h:aq b)(i n:Nat):aq (M.win b i n):=λx hx=>h x (zWZ (zXX hx))
theorem Do{b:List Int}{i n:Nat}(h:i+n<=b.length):(M.win b i n).length=n:=by
 unfold M.win; rw [zYx,zQh]; omega
theorem KC(b:List Int)(i n:Nat):(M.win b i n).length<=n:=by
 unfold M.win; rw [zYx,zQh]; omega
theorem fk{a b n:Nat}(h1:a<=b)(h2:b<=n):c9 (cy (a:Int) (b:Int) (n:Int))=some ():=by
 have:cy (a:Int) (b:Int) (n:Int)=true:=by simp [cy]; omega
 rw [this]; rfl
theorem mG{a b:Nat}(h:a+b<=9223372036854775807):aQ .i64 (a:Int) (b:Int)=((a+b:Nat):Int):=by
 rw [cd (by omega) (by omega)]; omega
theorem LV(u:Nat){b:List Int}{i n:Nat}(h:i+n<=b.length)(hl:b.length<=1073741824):wx u b i n=some (M.win b i n,true):=by
 unfold wx t9;have h1:am (i:Int) 0 (b.length:Int)=true:=by simp [am]; omega
 have h2:am (n:Int) 0 ((b.length:Int) - (i:Int))=true:=by simp [am]; omega
 simp only [eJ,h1,wk,cU (a:=(b.length:Int)) (b:=(i:Int)) (by omega) (by omega),h2,zQV,cond_false];rw [mG (by omega),fk (by omega) h];simp only [wk,r0];rw [Kz u (by simp; omega)];rfl
def db(b:List Int)(size i:Int):List Int×Bool :=
 let s:=bW size b.length i
 if s.2=0 then ([],false) else (M.win b s.1.toNat s.2.toNat,true)
theorem nd{size n i:Int}(hn:0<=n):0<=(bW size n i).1/\0<=(bW size n i).2/\(bW size n i).2<=6/\(bW size n i).1+(bW size n i).2<=n:=by
 unfold bW
 split
 ·rename_i h;have ⟨h1,h2,h3⟩:=vV h;have h4:=tg h1;have h5:=(bX h).2;unfold ce at h5;rw [if_pos h1] at h5;have h6:=yV h4.1 h4.2.1 h2 h3;have h7:i*size<=n:=by
   have h8:i+1<=(n+size - 1) / size:=by omega
   have h9:(i+1)*size<=n+size - 1:=(Int.le_ediv_iff_mul_le (by omega)).1 h8;rw [zZv] at h9;omega
  dsimp only;omega
 ·dsimp only; omega
theorem qG{b:List Int}(hb:aq b)(size i:Int):aq (db b size i).1/\(db b size i).1.length<=6:=by
 have h:=nd (size:=size) (n:=b.length) (i:=i) (by omega);unfold db;dsimp only
 split
 ·exact ⟨by simp [aq],by simp⟩
 ·refine ⟨mT hb _ _,?_⟩;have:=KC b (bW size b.length i).1.toNat (bW size b.length i).2.toNat;dsimp only;omega
theorem Iv(u:Nat){b:List Int}(hl:b.length<=1073741824)(size i:Int):pF u b size i=some (db b size i):=by
 have h:=nd (size:=size) (n:=b.length) (i:=i) (by omega);unfold pF db;simp only [th,wk];generalize bW size b.length i=s at h;obtain ⟨a,n⟩:=s;dsimp only at h ⊢
 by_cases h0:n=0
 ·simp [h0]
 ·have:(n == 0)=false:=by simpa using h0
  obtain ⟨x,rfl⟩:=zQZ h.1;obtain ⟨y,rfl⟩:=zQZ h.2.1;simp only [this,cond_false,h0,if_false];rw [LV u (by omega) hl];rfl
theorem Aw(u:Nat){b:List Int}(hl:b.length<=1073741824)(size i:Int):jD u b size i=some (db b size i):=by
 have h:=nd (size:=size) (n:=b.length) (i:=i) (by omega);unfold jD db;simp only [fK,wk];generalize bW size b.length i=s at h;obtain ⟨a,n⟩:=s;dsimp only at h ⊢
 by_cases h0:n=0
 ·simp [h0]
 ·have:(n == 0)=false:=by simpa using h0
  obtain ⟨x,rfl⟩:=zQZ h.1;obtain ⟨y,rfl⟩:=zQZ h.2.1;simp only [this,cond_false,h0,if_false];rw [mG (by omega),fk (by omega) (by omega)];simp only [wk,r0];rw [bu (by simp; omega)];rfl
def tn(b:List Int)(size:Int):List cn:=(zWy (ce size b.length).toNat).map λ(i:Nat)=>du (db b size i).1
theorem Hl{α ρ:Type}{fin:List α->Option ρ}{body:Nat->List α->(List α->Option ρ)->Option ρ}(g:Nat->α)(n:Nat)(hb:∀ i s k,i < n->s.length=i->body i s k=k (s++[g i])) :
  lS fin body n 0 []=fin ((zWy n).map g):=by
 have:∀ (m i:Nat) (s:List α),i+m=n->s.length=i->lS fin body m i s=fin (s++(zWz i m).map g):=by
  intro m
  induction m with
  | zero=>intro i s h1 h2; simp [lS]
  | succ m ih =>
   intro i s h1 h2;simp only [lS];rw [hb i s _ (by omega) h2,ih (i+1) _ (by omega) (by simp [h2]),zYw];simp
 rw [this n 0 [] (by omega) rfl,<- zWk];simp
theorem KD{u:Nat}(hu:1099511627776<=u){b:List Int}(hb:aq b)(hl:b.length<=1073741824)(size:Int):uF u b size=some (tn b size):=by
 unfold uF;have hr:=eu size b.length;rw [Bq];simp only [wk];rw [FT u b size _ [] u (by omega) (by omega),Hl (λi=>du (db b size i).1)]
 ·rfl
 ·intro i s k hi hs;unfold yC;have h:=qG hb size (i:Int);rw [Iv u hl];simp only [wk];rw [CI hu h.1 (by omega)];simp only [wk];rw [bu (by simp; omega)];rfl
theorem Bu{u:Nat}(hu:1099511627776<=u){b:List Int}(hb:aq b)(hl:b.length<=1073741824)(size:Int):mO u b size=some (tn b size):=by
 unfold mO;have hr:=eu size b.length;rw [mB (n:=ce size b.length) (fin:=rP u) (body:=λi (s:List cn) k=>(jD u b size (i:Int)).bind λr8=>(gj u r8.1).bind λr9=>(c9 (decide ((s.length+([r9]).length)*16<=140737488355328))).bind λ_=>k (s++[r9]))
  (λk (s:List cn) i=>iL u k b size s i) (by omega) (λk s i=>by rw [iL,fJ]; rfl) [] (by omega),Hl (λi=>du (db b size i).1)]
 ·rfl
 ·intro i s k hi hs;have h:=qG hb size (i:Int);rw [Aw u hl];simp only [wk];rw [lQ hu h.1 (by omega)];simp only [wk];rw [bu (by simp; omega)];rfl
def eG(gen:Int)(b:List Int)(size:Int):ag:=if am gen 1 1000000 && dP size b.length then ⟨gen,size,b.length,tn b size⟩ else ⟨0,0,0,[]⟩
theorem LW{u:Nat}(hu:1099511627776<=u){b:List Int}(hb:aq b)(hl:b.length<=1073741824)(gen size:Int):wz u gen b size=some (eG gen b size):=by
 unfold wz ua eG;simp only [eJ,Bp,wk,KD hu hb hl]
 cases am gen 1 1000000 <;> cases dP size b.length <;> simp
theorem uf{u:Nat}(hu:1099511627776<=u){b:List Int}(hb:aq b)(hl:b.length<=1073741824)(gen size:Int):oC u gen b size=some (eG gen b size):=by
 unfold oC qd eG;simp only [bC,o6,wk,Bu hu hb hl]
 cases am gen 1 1000000 <;> cases dP size b.length <;> simp
def Dp:List Int->Int
 | []=>0
 | c :: b=>c+Dp b
def Iw:List Int->Int
 | []=>0
 | c :: b=>((b.length:Int)+1)*c+Iw b
theorem Sy:∀ (b:List Int) (x y:Int),pO b x y=match b with | []=>(x,y) | _=>((x+Dp b) % 251,(y+b.length*x+Iw b) % 251):=by
 intro b
 induction b with
 | nil=>intro x y; rfl
 | cons c b ih =>
  intro x y;simp only [pO];rw [ih]
  cases b with
  | nil=>simp [Dp,Iw,Int.add_assoc]
  | cons d b =>
   simp only [Dp,Iw,zQW];refine Prod.ext ?_ ?_
   ·dsimp only; omega
   ·dsimp only;have e:((b.length:Int)+1)*((x+c) % 251) % 251=((b.length:Int)+1)*(x+c) % 251:=by rw [Int.mul_emod,Int.emod_emod_of_dvd _ (Int.dvd_refl 251),<- Int.mul_emod]
    have e1:((b.length:Int)+1)*(x+c)=((b.length:Int)+1)*x+((b.length:Int)+1)*c:=Int.mul_add _ _ _;have e2:((b.length:Int)+1+1)*x=((b.length:Int)+1)*x+x:=by rw [zZv]; omega
    have e3:((b.length:Int)+1+1)*c=((b.length:Int)+1)*c+c:=by rw [zZv]; omega
    push_cast
    rw [e2,e3];rw [e1] at e;generalize ((b.length:Int)+1)*((x+c) % 251)=p at *;generalize ((b.length:Int)+1)*x=q at *;generalize ((b.length:Int)+1)*c=r at *;generalize ((b.length:Int)+1)*d=t at *;omega
theorem KE{b:List Int}:cr b=Dp b % 251+251*(Iw b % 251):=by
 unfold cr;rw [Sy]
 cases b with
 | nil=>simp [Dp,Iw]
 | cons c b=>dsimp only; simp
theorem VM(b:List Int)(d:Int):Dp (b++[d])=Dp b+d:=by
 induction b with
 | nil=>simp [Dp]
 | cons c b ih=>simp only [List.cons_append,Dp,ih]; omega
theorem VN(b:List Int)(d:Int):Iw (b++[d])=Iw b+Dp b+d:=by
 induction b with
 | nil=>simp [Dp,Iw]
 | cons c b ih =>
  simp only [List.cons_append,Dp,Iw,ih,zQw,zYY]
  push_cast
  rw [zZv ((b.length:Int)+1) 1 c];omega
theorem Ny(u:Nat)(n m:Int):tF u n m=some (if am m 1 1000000000000 then n % m else 0):=by
 unfold tF;simp only [bC,wk]
 cases h:am m 1 1000000000000 with
 | false=>simp
 | true =>
  have h3:=bX h;have hb:(m == 0)=false:=by simp; omega
  have h4:=Kv (n:=n) (m:=m) (by omega);simp only [hb,zQV,cond_false,zZj,A4,wk];have e1:mA .i64 n m=n.tmod m:=rfl;rw [e1,cd (by omega) (by omega)];show some ((n.tmod m+m).tmod m)=_;rw [MI (by omega)]; simp
theorem EY(u:Nat)(w:Int):vP u w=some (am w 0 63000):=by simp [vP,bC]
theorem Dq(u:Nat){w:Int}(h:am w 0 63000=true):nt u w=some (w % 251,w / 251):=by
 unfold nt;have:=bX h;rw [EY,h];simp (disch:=omega) [wE,JQ]
theorem Nz(u:Nat){c d:Int}{m:List Int}(hc:0<=c/\c<=255)(hd:0<=d/\d<=255)(hm:m.length<=5):vQ u (cr (c :: m)) ((m.length:Int)+1) c d=some (cr (m++[d])):=by
 unfold vQ pj;have h0:=EW (c :: m);have h1:am (cr (c :: m)) 0 63000=true:=by simp [am]; omega
 have h2:am ((m.length:Int)+1) 1 1000000000000=true:=by simp [am]; omega
 have h3:am c 0 255=true:=by simp [am]; omega
 have h4:am d 0 255=true:=by simp [am]; omega
 have h5:am 251 1 1000000000000=true:=by decide
 have h6:((m.length:Int)+1)*c<=6*255:=Int.mul_le_mul (by omega) (by omega) (by omega) (by omega);have h7:0<=((m.length:Int)+1)*c:=Int.mul_nonneg (by omega) (by omega);simp only [EY,bC,h1,h2,h3,h4,wk,zQV,cond_false,Dq u h1,Ny,h5,if_true];rw [wE (by omega),Int.emod_eq_of_lt (a:=(m.length:Int)+1) (by omega) (by omega)];have e:=KE (b:=c :: m);have e2:=KE (b:=m++[d]);rw [e2,VM,VN];simp only [Dp,Iw] at e;rw [lG (a:=(m.length:Int)+1) (b:=c) (by omega) (by omega)];generalize cr (c :: m)=w at *;generalize ((m.length:Int)+1)*c=q at *;generalize Dp m=sx at *;generalize Iw m=sy at *;rw [cU (a:=w / 251) (by omega) (by omega),cU (a:=w % 251) (by omega) (by omega),cd (a:=w % 251 - c) (by omega) (by omega)];rw [cd (a:=(w / 251 - q) % 251) (by omega) (by omega)];rw [lG (by omega) (by omega),cd (by omega) (by omega)]
 congr 1
 omega
theorem TO{b:List Int}{i n:Nat}{c:Int}(hc:b[i]?=some c):M.win b i (n+1)=c :: M.win b (i+1) n:=by
 rw [KB,KB];obtain ⟨h,rfl⟩:=List.getElem?_eq_some_iff.1 hc;rw [zXH h,List.take_succ_cons]
theorem TP{b:List Int}{i n:Nat}{d:Int}(hd:b[i+n]?=some d):M.win b i (n+1)=M.win b i n++[d]:=by
 rw [KB,KB,List.take_add_one]
 congr 1
 rw [zQG,hd]; rfl
def pQ(b:List Int)(n:Nat):List Int:=if n<=b.length then (zWy (b.length+1 - n)).map λi=>cr (M.win b i n) else []
theorem Ds(u:Nat){b:List Int}(hb:aq b)(hl:b.length<=1073741824){n:Nat}(h1:1<=n)(h2:n<=6):∀ (m k j:Nat),n+j+m=b.length->m < k ->
  fU u k b n ((zWy (j+1)).map λi=>cr (M.win b i n)) (cr (M.win b j n)) ((n+j:Nat):Int)=some ((zWy (j+1+m)).map λi=>cr (M.win b i n)):=by
 intro m
 induction m with
 | zero =>
  intro k j h3 h4;obtain ⟨k,rfl⟩:∃ i,k=i+1:=⟨k - 1,by omega⟩;unfold fU;have:¬ (((n+j:Nat):Int) < (b.length:Int)):=by omega
  simp only [this,decide_false,cond_false,qK,zXk]
 | succ m ih =>
  intro k j h3 h4;obtain ⟨k,rfl⟩:∃ i,k=i+1:=⟨k - 1,by omega⟩;unfold fU;have h5:((n+j:Nat):Int) < (b.length:Int):=by omega
  have e:dM .i64 ((n+j:Nat):Int) (n:Int)=(j:Int):=by rw [cU (by omega) (by omega)]; omega
  simp only [h5,decide_true,cond_true,e,cM];have hc:=tw (l:=b) (i:=j) (by omega);have hd:=tw (l:=b) (i:=n+j) (by omega);rw [hc,hd];simp only [wk];have hcb:=hb _ (zXv (l:=b) (n:=j) (by omega));have hdb:=hb _ (zXv (l:=b) (n:=n+j) (by omega));rw [eH (n:=b[j]) (by omega) (by omega),eH (n:=b[n+j]) (by omega) (by omega)];obtain ⟨n,rfl⟩:∃ i,n=i+1:=⟨n - 1,by omega⟩;have e1:=TO (n:=n) hc;have e2:M.win b (j+1) (n+1)=M.win b (j+1) n++[b[n+1+j]]:=TP (by rw [show j+1+n=n+1+j by omega]; exact hd);have hw:(M.win b (j+1) n).length=n:=Do (by omega);have hroll:=Nz u (c:=b[j]) (d:=b[n+1+j]) (m:=M.win b (j+1) n) hcb hdb (by omega);rw [hw,<- e1,<- e2] at hroll;rw [show ((n+1:Nat):Int)=(n:Int)+1 by omega,hroll];simp only [wk];rw [bu (by simp; omega)];simp only [wk];rw [show (List.map (λi=>cr (M.win b i (n+1))) (zWy (j+1))++[cr (M.win b (j+1) (n+1))])=(zWy (j+1+1)).map λi=>cr (M.win b i (n+1)) by rw [List.range_succ (n:=j+1),List.map_append]; rfl];rw [cu (by omega)];have:=ih k (j+1) (by omega) (by omega);rw [show ((n+1:Nat):Int)=(n:Int)+1 by omega] at this;rw [show n+1+j+1=n+1+(j+1) by omega,this,show j+1+1+m=j+1+(m+1) by omega]
theorem Ix{u:Nat}(hu:1099511627776<=u){b:List Int}(hb:aq b)(hl:b.length<=1073741824){n:Nat}(h1:1<=n)(h2:n<=6):rQ u b n=some (pQ b n):=by
 unfold rQ qL pQ;have h3:¬ ((n:Int) < 1):=by omega
 simp only [h3,decide_false,cond_false]
 by_cases h4:n<=b.length
 ·have h5:¬ ((n:Int) > (b.length:Int)):=by omega
  simp only [h5,decide_false,cond_false,h4,if_true];rw [show (0:Int)=((0:Nat):Int) by rfl,fk (by omega) h4];simp only [wk,r0];have e:List.drop 0 (List.take n b)=M.win b 0 n:=by simp [M.win]
  rw [e,ti hu (mT hb _ _) (by have:=KC b 0 n; omega)];simp only [wk];rw [bu (by simp)];have:=Ds u hb hl h1 h2 (b.length - n) u 0 (by omega) (by omega);simp only [zXk,zWJ] at this;rw [show (zWy 1).map (λi=>cr (M.win b i n))=[cr (M.win b 0 n)] by rfl] at this;simp only [wk,zQy];rw [this,show 1+(b.length - n)=b.length+1 - n by omega]
 ·have h5:((n:Int) > (b.length:Int)):=by omega
  simp [h5,h4]
def fe(b:List Int)(s:cn)(n:Nat):Nat->Nat->Int
 | 0,_=>-1
 | c+1,i=>if du (M.win b i n)=s then i else fe b s n c (i+1)
def rG(b:List Int)(s:cn)(n:Int):Int:=if am n 1 6 then fe b s n.toNat (b.length+1 - n.toNat) 0 else -1
theorem KF(b:List Int)(s:cn)(n:Nat):∀ c i,-1<=fe b s n c i/\fe b s n c i < i+c:=by
 intro c
 induction c with
 | zero=>intro i; simp [fe]; omega
 | succ c ih =>
  intro i;unfold fe;have:=ih (i+1)
  split <;> omega
theorem EZ(x y:cn):(([x.fW,x.fS]:List Int) == [y.fW,y.fS])=decide (x=y):=by
 obtain ⟨a,b⟩:=x;obtain ⟨c,d⟩:=y;rw [zYQ]; simp
theorem Dt{u:Nat}(hu:1099511627776<=u){b:List Int}(hb:aq b)(hl:b.length<=1073741824)(s:cn){n:Nat}(h1:1<=n)(h2:n<=6):∀ (c k i:Nat),i+c=b.length+1 - n\/(c=0/\b.length+1 - n<=i)->i<=1073741824->c < k ->
  jv u k b n i s=some (fe b s n c i):=by
 intro c
 induction c with
 | zero =>
  intro k i h3 hi h4;obtain ⟨k,rfl⟩:∃ i,k=i+1:=⟨k - 1,by omega⟩;unfold jv;rw [mG (by omega)];have:¬ (((i+n:Nat):Int)<=(b.length:Int)):=by omega
  simp only [this,decide_false,cond_false,u4,fe]
 | succ c ih =>
  intro k i h3 hi h4;obtain ⟨k,rfl⟩:∃ i,k=i+1:=⟨k - 1,by omega⟩;unfold jv;rw [mG (by omega)];have h5:(((i+n:Nat):Int)<=(b.length:Int)):=by omega
  simp only [h5,decide_true,cond_true,r0];rw [fk (by omega) (by omega)];simp only [wk]
  change ((oS u (M.win b i n)).bind _)=_
  rw [CI hu (mT hb _ _) (by have:=KC b i n; omega)];simp only [wk,EZ,fe]
  by_cases h6:du (M.win b i n)=s
  ·simp [h6]
  ·simp only [h6,decide_false,cond_false,if_false];rw [cu (by omega)];exact ih k (i+1) (by omega) (by omega) (by omega)
theorem Iy{u:Nat}(hu:1099511627776<=u){b:List Int}(hb:aq b)(hl:b.length<=1073741823)(s:cn)(n:Int):sK u b s n=some (rG b s n):=by
 unfold sK rG;rw [eJ];simp only [wk]
 cases h:am n 1 6 with
 | false=>simp
 | true =>
  have h:=bX h;obtain ⟨n,rfl⟩:=zQZ (show 0<=n by omega);simp only [zQV,cond_false,if_true,r0];exact Dt hu hb (by omega) s (by omega) (by omega) (b.length+1 - n) u 0 (by omega) (by omega) (by omega)
theorem QD{b:List Int}(h:b.length<=6):(du b).fW=cr b:=by
 unfold du; rw [if_neg (by omega)]
theorem Du{u:Nat}(hu:1099511627776<=u){b:List Int}(hb:aq b)(hl:b.length<=1073741823)(s:cn){n:Nat}(h1:1<=n)(h2:n<=6):∀ (c k i:Nat),i+c=b.length+1 - n->c < k ->
  dW u k b n (pQ b n) i s=some (fe b s n c i):=by
 have hlen:(pQ b n).length=b.length+1 - n:=by
  unfold pQ
  split
  ·simp
  ·simp; omega
 intro c
 induction c with
 | zero =>
  intro k i h3 h4;obtain ⟨k,rfl⟩:∃ i,k=i+1:=⟨k - 1,by omega⟩;unfold dW;have:¬ ((i:Int) < ((pQ b n).length:Int)):=by omega
  simp only [this,decide_false,cond_false,qM,fe]
 | succ c ih =>
  intro k i h3 h4;obtain ⟨k,rfl⟩:∃ i,k=i+1:=⟨k - 1,by omega⟩;unfold dW;have h5:((i:Int) < ((pQ b n).length:Int)):=by omega
  have hx:(pQ b n)[i]?=some (cr (M.win b i n)):=by
   unfold pQ;rw [if_pos (by omega),zQX,zZW (by omega)]; rfl
  simp only [h5,decide_true,cond_true,cM,hx,wk];rw [mG (by omega),fk (by omega) (by omega)];simp only [wk,r0]
  change (bif _ then ((gj u (M.win b i n)).bind _) else _)=_
  rw [lQ hu (mT hb _ _) (by have:=KC b i n; omega)];simp only [wk,EZ,fe,kU,cond_false,cu (show i < 9223372036854775807 by omega),ih k (i+1) (by omega) (by omega)]
  by_cases h6:du (M.win b i n)=s
  ·have h7:cr (M.win b i n)=s.fW:=by rw [<- h6,QD (by have:=KC b i n; omega)]
   simp [h6,h7]
  ·cases cr (M.win b i n) == s.fW <;> simp [h6]
theorem Iz{u:Nat}(hu:1099511627776<=u){b:List Int}(hb:aq b)(hl:b.length<=1073741823)(s:cn)(n:Int):rS u b s n=some (rG b s n):=by
 unfold rS rG;rw [bC];simp only [wk]
 cases h:am n 1 6 with
 | false=>simp
 | true =>
  have h:=bX h;obtain ⟨n,rfl⟩:=zQZ (show 0<=n by omega);simp only [zQV,cond_false,if_true,r0];rw [Ix hu hb (by omega) (by omega) (by omega)];exact Du hu hb (by omega) s (by omega) (by omega) (b.length+1 - n) u 0 (by omega) (by omega)
def dx(b:List Int)(m:ag)(i:Nat):Int:=match m.aC[i]? with
 | some s=>rG b s (bW m.aw m.aY i).2
 | none=>-1
theorem IA{u:Nat}(hu:1099511627776<=u){b:List Int}(hb:aq b)(hl:b.length<=1073741823){m:ag}(hm:m.aC.length<=1073741824)(i:Nat):pG u b m i=some (dx b m i):=by
 unfold pG dx;rw [th];simp only [wk];rw [cU (by omega) (by omega),eJ]
 by_cases h:i < m.aC.length
 ·have h1:am (i:Int) 0 ((m.aC.length:Int) - 1)=true:=by simp [am]; omega
  simp only [h1,wk,zQV,cond_false,cM,tw h,Iy hu hb hl]
 ·have h1:am (i:Int) 0 ((m.aC.length:Int) - 1)=false:=by simp [am]; omega
  simp only [h1,wk,zZj,cond_true,List.getElem?_eq_none (show m.aC.length<=i by omega)]
theorem Ax{u:Nat}(hu:1099511627776<=u){b:List Int}(hb:aq b)(hl:b.length<=1073741823){m:ag}(hm:m.aC.length<=1073741824)(i:Nat):mV u b m i=some (dx b m i):=by
 unfold mV qN dx;rw [fK];simp only [wk,Iz hu hb hl,cM]
 by_cases h:i < m.aC.length
 ·have h1:¬ ((i:Int)>=(m.aC.length:Int)):=by omega
  simp only [tw h,wk,h1,decide_false,cond_false,cond_true]
  by_cases h2:(bW m.aw m.aY i).2=0
  ·have:rG b m.aC[i] 0=-1:=by simp [rG,am]
   simp [h2,this]
  ·have:((bW m.aw m.aY i).2 == 0)=false:=by simpa using h2
   simp [this]
 ·have h1:((i:Int)>=(m.aC.length:Int)):=by omega
  simp only [List.getElem?_eq_none (show m.aC.length<=i by omega),h1,decide_true,cond_true]
  cases ((bW m.aw m.aY i).2 == 0) <;> simp
def Hm(b:List Int)(m:ag)(i:Nat):Bool:=decide (0<=dx b m i)
def lI(b:List Int)(m:ag)(x:Bool):Nat:=gD (min m.aC.length 40) (λi=>Hm b m i == x)
theorem TQ{ρ:Type}{fin:Int->Option ρ}{body:Nat->Int->(Int->Option ρ)->Option ρ}(f:Nat->Bool)(n:Nat)(hb:∀ i k,i < n->body i (gD i f:Nat) k=k (gD (i+1) f:Nat)) :
  lS fin body n 0 0=fin (gD n f:Nat):=by
 have:∀ (m i:Nat),i+m=n->lS fin body m i (gD i f:Nat)=fin (gD n f:Nat):=by
  intro m
  induction m with
  | zero=>intro i h; simp only [lS]; rw [show i=n by omega]
  | succ m ih =>
   intro i h;simp only [lS];rw [hb i _ (by omega)];exact ih (i+1) (by omega)
 exact this n 0 (by omega)
theorem KG{f:Nat->Bool}{i:Nat}(h:i<=39):vL .i64 (gD i f:Nat) (iT .i64 1 (i:Int))=((gD i f ||| 2 ^ i:Nat):Int):=by
 rw [Gz (by omega)];have h1:=Bt f i;have h2:(2:Nat) ^ i<=2 ^ 39:=zWG (by omega) h;generalize (2:Nat) ^ i=p at *;exact B0 (by omega) (by omega)
theorem KH{u:Nat}(hu:1099511627776<=u){b:List Int}(hb:aq b)(hl:b.length<=1073741823){m:ag}(hm:m.aC.length<=1073741824)(x:Bool):uG u b m x=some ((lI b m x:Nat):Int):=by
 unfold uG;have e:(if ((m.aC.length:Int)) < 40 then ((m.aC.length:Int)) else 40)=((min m.aC.length 40:Nat):Int):=by split <;> omega
 rw [FV u b x m 0 u (by rw [e]; omega) (by rw [e]; omega),e,r0,TQ (λi=>Hm b m i == x)]
 ·rfl
 ·intro i k hi;unfold yD;rw [IA hu hb hl hm];simp only [wk,gD];have e2:decide (dx b m i>=0)=Hm b m i:=rfl;rw [e2,bu (by omega),KG (by omega)]
  by_cases h:(Hm b m i == x)=true
  ·simp only [h,cond_true,wk,kE,if_true]
  ·simp only [h,Bool.not_eq_true] at h ⊢;simp only [h,cond_false,kE,zQz,if_false,Nat.or_zero]
theorem IB{u:Nat}(hu:1099511627776<=u){b:List Int}(hb:aq b)(hl:b.length<=1073741823){m:ag}(hm:m.aC.length<=1073741824):sL u b m=some ((lI b m false:Nat):Int):=by
 unfold sL;rw [KH hu hb hl hm]; rfl
theorem NA(b:List Int)(m:ag)(x:Bool):lI b m x < 1099511627776:=by
 have h1:=Bt (λi=>Hm b m i == x) (min m.aC.length 40);have h2:(2:Nat) ^ (min m.aC.length 40)<=2 ^ 40:=zWG (by omega) (by omega);exact zQK h1 h2
theorem GA{s:Nat}(h:s < 1099511627776):ct (s:Int)=true:=by simp [ct,am]; omega
theorem GB(u:Nat){f:Nat->Bool}{i:Nat}(h:i<=39):d8 u (gD i f:Nat) i=some ((gD i f ||| 2 ^ i:Nat):Int):=by
 unfold d8 jX;have h1:=Bt f i;have h2:(2:Nat) ^ i<=2 ^ 39:=zWG (by omega) h;rw [eR,GA (zQK h1 (by omega)),bC];have h3:am (i:Int) 0 39=true:=by simp [am]; omega
 simp only [wk,zQV,cond_false,h3];rw [bu (by omega),KG h]; rfl
theorem GC{u:Nat}(hu:1099511627776<=u){b:List Int}(hb:aq b)(hl:b.length<=1073741823){m:ag}(hm:m.aC.length<=1073741824):∀ (c k i:Nat),i+c=min m.aC.length 40->c < k ->
  gG u k b (gD i (λi=>Hm b m i == true):Nat) i m=some ((lI b m true:Nat):Int):=by
 intro c
 induction c with
 | zero =>
  intro k i h3 h4;obtain ⟨k,rfl⟩:∃ i,k=i+1:=⟨k - 1,by omega⟩;unfold gG qC xT lI;rw [show i=min m.aC.length 40 by omega]
  by_cases h5:m.aC.length < 40
  ·have h6:¬ (((min m.aC.length 40:Nat):Int) < (m.aC.length:Int)):=by omega
   simp only [h6,decide_false,cond_false]
  ·have h6:¬ (((min m.aC.length 40:Nat):Int) < 40):=by omega
   simp only [h6,decide_false,cond_false]
   cases decide (((min m.aC.length 40:Nat):Int) < (m.aC.length:Int)) <;> rfl
 | succ c ih =>
  intro k i h3 h4;obtain ⟨k,rfl⟩:∃ i,k=i+1:=⟨k - 1,by omega⟩;unfold gG qC ub;have h5:(i:Int) < (m.aC.length:Int):=by omega
  have h6:(i:Int) < 40:=by omega
  simp only [h5,h6,decide_true,cond_true,Ax hu hb hl hm,wk];have e2:decide (dx b m i>=0)=Hm b m i:=rfl;rw [e2,GB u (by omega),cu (by omega)];have:=ih k (i+1) (by omega) (by omega);rw [gD] at this
  cases h:Hm b m i with
  | false =>
   rw [h,if_neg (by decide),Nat.or_zero] at this;simp only [cond_false]; exact this
  | true =>
   rw [h,if_pos (by decide)] at this;simp only [cond_true,wk]; exact this
theorem LX{u:Nat}(hu:1099511627776<=u){b:List Int}(hb:aq b)(hl:b.length<=1073741823){m:ag}(hm:m.aC.length<=1073741824):zo u b m=some ((lI b m true:Nat):Int) :=
 GC hu hb hl hm (min m.aC.length 40) u 0 (by omega) (by omega)
theorem Ay(u:Nat){n:Nat}(h:n<=40):mY u n=some ((2 ^ n - 1:Nat):Int):=by
 unfold mY;have h1:am (n:Int) 0 40=true:=by simp [am]; omega
 rw [bC,h1];simp only [wk,zQV,cond_false];have h2:(2:Nat) ^ n<=2 ^ 40:=zWG (by omega) h;have h3:0 < (2:Nat) ^ n:=Nat.pow_pos (by omega);rw [bu (by omega),Gz (by omega)];generalize (2:Nat) ^ n=p at *;rw [cU (by omega) (by omega)];simp only [wk]
 congr 1
 omega
theorem IC{u:Nat}(hu:1099511627776<=u){b:List Int}(hb:aq b)(hl:b.length<=1073741823){m:ag}(hm:m.aC.length<=1073741824):sO u b m=some ((lI b m false:Nat):Int):=by
 unfold sO li ny;have hn:(min (m.aC.length:Int) 40)=((min m.aC.length 40:Nat):Int):=by omega
 rw [xY,hn];simp only [wk];rw [Ay u (by omega),LX hu hb hl hm];have h2:(2:Nat) ^ (min m.aC.length 40)<=2 ^ 40:=zWG (by omega) (by omega);have h3:0 < (2:Nat) ^ (min m.aC.length 40):=Nat.pow_pos (by omega);have hp:=NA b m true;simp only [wk,eR,GA hp,GA (show 2 ^ (min m.aC.length 40) - 1 < 1099511627776 by omega),zQV,cond_false];have h4:lI b m true < 2 ^ (min m.aC.length 40):=Bt _ _;rw [Pe (n:=min m.aC.length 40) (by omega) (by omega) h4];refine congrArg (λz:Nat=>some (z:Int)) ?_;unfold lI
 apply Pd
 intro i hi;rw [ue,Nat.testBit_two_pow_sub_one];simp [hi]
def M.lenOf(m:ag):List Int->Int
 | []=>0
 | i :: l=>(bW m.aw m.aY i).2+M.lenOf m l
def iW(b:List Int)(m:ag):Int:=M.lenOf m (fy (lI b m false:Nat))
theorem zO(size n i:Int):-1000<=(bW size n i).2/\(bW size n i).2<=6:=by
 unfold bW
 split
 ·rename_i h;have ⟨h1,h2,h3⟩:=vV h;have h4:=tg h1;have h6:=yV h4.1 h4.2.1 h2 h3;dsimp only; omega
 ·dsimp only; omega
theorem wM(s:Int):(fy s).length<=40:=by
 unfold fy
 split
 ·rw [zXx];have:=zYv (λi=>s.toNat.testBit i) (zWy 40)
  simpa using this
 ·simp
theorem Pf(m:ag):∀ l:List Int,-1000*l.length<=M.lenOf m l/\M.lenOf m l<=6*l.length:=by
 intro l
 induction l with
 | nil=>simp [M.lenOf]
 | cons i l ih =>
  have:=zO m.aw m.aY i;simp only [M.lenOf,zQW];omega
theorem Cp(u:Nat)(r:List Int)(m:ag):∀ (l:List Int) (i:Nat) (a:Int),l.length<=1000->-100000000+1000*l.length<=a->a<=100000000 - 6*l.length->bP (m7 u r m) (m8 u r m) l i a=some (a+M.lenOf m l):=by
 intro l
 induction l with
 | nil=>intro i a _ _ _; simp [bP,m7,lz,M.lenOf]
 | cons j l ih =>
  intro i a h0 h1 h2;have:=zO m.aw m.aY j;simp only [zQW] at h0 h1 h2;simp only [bP,m8,th,wk,M.lenOf];rw [cd (by omega) (by omega),ih (i+1) _ (by omega) (by omega) (by omega),Int.add_assoc]
theorem Cq(u:Nat)(r:List Int)(m:ag):∀ (l:List Int) (i:Nat) (a:Int),l.length<=1000->-100000000+1000*l.length<=a->a<=100000000 - 6*l.length->bP (m9 u r m) (na u r m) l i a=some (a+M.lenOf m l):=by
 intro l
 induction l with
 | nil=>intro i a _ _ _; simp [bP,m9,lB,M.lenOf]
 | cons j l ih =>
  intro i a h0 h1 h2;have:=zO m.aw m.aY j;simp only [zQW] at h0 h1 h2;simp only [bP,na,fK,wk,M.lenOf];rw [cd (by omega) (by omega),ih (i+1) _ (by omega) (by omega) (by omega),Int.add_assoc]
theorem Bv{u:Nat}(hu:1099511627776<=u){b:List Int}(hb:aq b)(hl:b.length<=1073741823){m:ag}(hm:m.aC.length<=1073741824):lA u b m=some (iW b m):=by
 unfold lA;rw [IB hu hb hl hm];simp only [wk,Iu hu];have h:=wM (lI b m false:Nat);rw [zn u _ m 0 u (by omega) (by omega),Cp u _ m _ 0 0 (by omega) (by omega) (by omega)];simp [iW]
theorem Bw{u:Nat}(hu:1099511627776<=u){b:List Int}(hb:aq b)(hl:b.length<=1073741823){m:ag}(hm:m.aC.length<=1073741824):lC u b m=some (iW b m):=by
 unfold lC;rw [IC hu hb hl hm];simp only [wk,Av hu];have h:=wM (lI b m false:Nat);rw [zp u _ m 0 u (by omega) (by omega),Cq u _ m _ 0 0 (by omega) (by omega) (by omega)];simp [iW]
theorem Dv(b:List Int)(m:ag):-40000<=iW b m/\iW b m<=240:=by
 have h:=wM (lI b m false:Nat);have:=Pf m (fy (lI b m false:Nat));unfold iW; omega
theorem yW(gen:Int)(b:List Int)(size:Int):(eG gen b size).aC.length<=40:=by
 unfold eG
 split
 ·have:=eu size b.length;simp [tn]; omega
 ·simp
theorem KI(gen:Int)(b:List Int)(size:Int)(hb:aq b):pP (eG gen b size):=by
 unfold eG pP
 split
 ·intro s hs;simp only [tn,zXh] at hs;obtain ⟨i,_,rfl⟩:=hs;have h:=qG hb size (i:Int);unfold du;rw [if_neg (by omega)];have:=Kx (db b size i).1 1 0 h.1 (by omega) (by decide);have h6:(256:Int) ^ (0+(db b size i).1.length)<=281474976710656:=by
   have h7:=h.2;generalize (db b size i).1.length=n at h7;rcases (show n=0\/n=1\/n=2\/n=3\/n=4\/n=5\/n=6 by omega) with rfl | rfl | rfl | rfl | rfl | rfl | rfl <;> decide
  dsimp only;omega
 ·intro s hs; simp at hs
theorem KJ:∀ (l:List cn) (b:List Int),(nZ b l).length<=b.length+10*l.length:=by
 intro l
 induction l with
 | nil=>intro b; simp [nZ]
 | cons s l ih =>
  intro b;have h1:=ih (b++gc 9 s.fS);have h2:=Dn 9 s.fS;simp only [nZ,zQW,zQw] at h1 ⊢;omega
def TR(old:List bg):Prop:=∀ x∈old,aq x.fB/\x.fB.length<=1048576
def tY(w:World)(i:Int):Int:=(bW w.fC.aw w.b5.length i).2
theorem yX(u:Nat)(w:World)(i:Int):jO u w i=some (tY w i):=by
 unfold jO; rw [fK]; rfl
theorem Az(u:Nat)(w:World)(i:Int):ef u w i=some (tY w i):=by
 unfold ef; rw [th]; rfl
theorem ug(w:World)(i:Int):-1000<=tY w i/\tY w i<=6:=zO _ _ _
def uh(w:World)(k:Int):List cg->Int->Int
 | [],a=>a
 | s :: l,a=>uh w k l (if s.mK=k then a+tY w s.fI else a)
theorem Pg(u:Nat)(w:World)(k:Int):∀ (l:List cg) (i:Nat) (a:Int),-1000000000000+1000*l.length<=a->a<=1000000000000 - 6*l.length ->
  bP (AO u k w) (wv u k w) l i a=some (uh w k l a):=by
 intro l
 induction l with
 | nil=>intro i a _ _; rfl
 | cons s l ih =>
  intro i a h1 h2;have h3:=ug w s.fI;simp only [zQW] at h1 h2;simp only [bP,wv,pD,Az,wk,uh]
  by_cases h:s.mK=k
  ·simp only [h,beq_self_eq_true,cond_true,if_true];rw [cd (by omega) (by omega)];exact ih (i+1) _ (by omega) (by omega)
  ·have h':(s.mK == k)=false:=by simpa using h
   simp only [h',cond_false,h,if_false];exact ih (i+1) _ (by omega) (by omega)
theorem Ph(u:Nat)(w:World)(k:Int):∀ (l:List cg) (i:Nat) (a:Int),l=w.bq.drop i->-1000000000000+1000*l.length<=a->a<=1000000000000 - 6*l.length ->
  bP (AP u k w) (ww u k w) l i a=some (uh w k l a):=by
 intro l
 induction l with
 | nil=>intro i a _ _ _; rfl
 | cons s l ih =>
  intro i a hd h1 h2;have hx:w.bq[i]?=some s:=by have:=congrArg zYV hd; simpa [zXW] using this.symm
  have hl:l=w.bq.drop (i+1):=by have:=congrArg zYq hd; simpa [zXK] using this
  have h3:=ug w s.fI;simp only [zQW] at h1 h2;simp only [bP,ww,pE,yX,cM,hx,wk,uh]
  by_cases h:s.mK=k
  ·simp only [h,beq_self_eq_true,cond_true,if_true];rw [cd (by omega) (by omega)];exact ih (i+1) _ hl (by omega) (by omega)
  ·have h':(s.mK == k)=false:=by simpa using h
   simp only [h',cond_false,h,if_false];exact ih (i+1) _ hl (by omega) (by omega)
def jV(w:World)(i j:Int):List Int:=(w.bq.filter λs=>s.cm == i && s.mK == j).map cg.fI
theorem GD(u:Nat)(w:World)(i j:Int):∀ (l:List cg) (n:Nat) (a:List Int),a.length+l.length<=1073741824 ->
  bP (pV u i j w) (pW u i j w) l n a=some (a++(l.filter λs=>s.cm == i && s.mK == j).map cg.fI):=by
 intro l
 induction l with
 | nil=>intro n a _; simp [bP,pV,oa]
 | cons s l ih =>
  intro n a h;simp only [zQW] at h;simp only [bP,pW,ja,oc,zZZ];rw [bu (by simp; omega)];simp only [wk];rw [ih (n+1) a (by omega),ih (n+1) (a++[s.fI]) (by simp; omega)]
  cases s.cm == i <;> cases s.mK == j <;> simp
theorem GE(u:Nat)(w:World)(i j:Int):∀ (l:List cg) (n:Nat) (a:List Int),l=w.bq.drop n->a.length+l.length<=1073741824 ->
  bP (pX u i j w) (pY u i j w) l n a=some (a++(l.filter λs=>s.cm == i && s.mK == j).map cg.fI):=by
 intro l
 induction l with
 | nil=>intro n a _ _; simp [bP,pX,od]
 | cons s l ih =>
  intro n a hd h;have hx:w.bq[n]?=some s:=by have:=congrArg zYV hd; simpa [zXW] using this.symm
  have hl:l=w.bq.drop (n+1):=by have:=congrArg zYq hd; simpa [zXK] using this
  simp only [zQW] at h;simp only [bP,pY,jb,oe,zZZ,cM,hx,wk];rw [bu (by simp; omega)];simp only [wk];rw [ih (n+1) a hl (by omega),ih (n+1) (a++[s.fI]) hl (by simp; omega)]
  cases s.cm == i <;> cases s.mK == j <;> simp
theorem tp{u:Nat}(hu:1099511627776<=u){w:World}(hl:w.bq.length<=1048576)(i j:Int):iR u w i j=some (jV w i j):=by
 unfold iR;rw [Cf u i j w [] u (by omega) (by omega),GD u w i j _ 0 [] (by simp; omega)]; rfl
theorem xH{u:Nat}(hu:1099511627776<=u){w:World}(hl:w.bq.length<=1048576)(i j:Int):mv u w i j=some (jV w i j):=by
 unfold mv;rw [Cg u i j w [] u (by omega) (by omega),GE u w i j _ 0 [] (by simp) (by simp; omega)]; rfl
theorem tZ(w:World)(i j:Int):(jV w i j).length<=w.bq.length:=by
 unfold jV; rw [zXx]; exact zYv _ _
def tq(w:World):List Int->Int->Int
 | [],a=>a
 | i :: l,a=>tq w l (a+tY w i)
theorem GF(u:Nat)(w:World)(r:List Int):∀ (l:List Int) (n:Nat) (a:Int),-1000000000000+1000*l.length<=a->a<=1000000000000 - 6*l.length ->
  bP (vu u r w) (pZ u r w) l n a=some (tq w l a):=by
 intro l
 induction l with
 | nil=>intro n a _ _; rfl
 | cons i l ih =>
  intro n a h1 h2;have h3:=ug w i;simp only [zQW] at h1 h2;simp only [bP,pZ,Az,wk,tq];rw [cd (by omega) (by omega)];exact ih (n+1) _ (by omega) (by omega)
theorem GG(u:Nat)(w:World)(r:List Int):∀ (l:List Int) (n:Nat) (a:Int),-1000000000000+1000*l.length<=a->a<=1000000000000 - 6*l.length ->
  bP (vw u r w) (p5 u r w) l n a=some (tq w l a):=by
 intro l
 induction l with
 | nil=>intro n a _ _; rfl
 | cons i l ih =>
  intro n a h1 h2;have h3:=ug w i;simp only [zQW] at h1 h2;simp only [bP,p5,yX,wk,tq];rw [cd (by omega) (by omega)];exact ih (n+1) _ (by omega) (by omega)
theorem Sz(b:Bool):(bif b then some true else some false)=some b:=by cases b <;> rfl
def zP{α:Type}(f:α->α->Bool):List α->List α->Bool
 | x :: xs,y :: ys=>f x y && zP f xs ys
 | _,_=>true
def M.same{α:Type}(f:α->α->Bool)(xs ys:List α):Bool:=(xs.length == ys.length) && zP f xs ys
theorem QE{α:Type}{fin:Unit->Option Bool}{body:α->Nat->Unit->(Unit->Option Bool)->Option Bool}(f:α->α->Bool){xs ys:List α}(h:xs.length=ys.length)(hb:∀ x y i k,xs[i]?=some x->ys[i]?=some y->body x i () k=bif f x y then k () else some false) :
  bP fin body xs 0 ()=bif zP f xs ys then fin () else some false:=by
 have:∀ (l m:List α) (i:Nat),l=xs.drop i->m=ys.drop i->bP fin body l i ()=bif zP f l m then fin () else some false:=by
  intro l
  induction l with
  | nil=>intro m i _ _; simp [bP,zP]
  | cons x l ih =>
   intro m i h1 h2;have hlt:i < xs.length:=by have:=congrArg List.length h1; simp at this; omega
   cases m with
   | nil=>have:=congrArg List.length h2; simp at this; omega
   | cons y m =>
    have hx:xs[i]?=some x:=by have:=congrArg zYV h1; simpa [zXW] using this.symm
    have hy:ys[i]?=some y:=by have:=congrArg zYV h2; simpa [zXW] using this.symm
    have hl:l=xs.drop (i+1):=by have:=congrArg zYq h1; simpa [zXK] using this
    have hm:m=ys.drop (i+1):=by have:=congrArg zYq h2; simpa [zXK] using this
    simp only [bP,zP];rw [hb x y i _ hx hy,ih m (i+1) hl hm]
    cases f x y <;> simp
 exact this xs ys 0 (by simp) (by simp)
def rH(a b:List Int):Bool:=(strOfNums a).toList == (strOfNums b).toList
theorem E2(u:Nat)(a b:List Int):oI u a b=some (rH a b):=rfl
theorem QF(x y:c7):(([x.aS,x.ch,x.aY]:List Int) == [y.aS,y.ch,y.aY])=decide (x=y):=by
 obtain ⟨a0,a1,a2⟩:=x;obtain ⟨b0,b1,b2⟩:=y;rw [zYQ]; simp
theorem wN{u:Nat}(hu:1099511627776<=u){a b:List cn}(ha:a.length<=1048576):kT u a b=some (M.same (λx y=>decide (x=y)) a b):=by
 unfold kT M.same
 by_cases h:a.length=b.length
 ·have h1:((a.length:Int) != (b.length:Int))=false:=by simp [h]
  simp only [h1,cond_false];rw [AM u a b () u (by omega) (by omega),QE (λx y=>decide (x=y)) h (λx y i k hx hy=>by unfold um; rw [cM,hy]; simp only [wk,EZ]; cases decide (x=y) <;> rfl)];simp only [h,beq_self_eq_true,zWx];exact Sz _
 ·have h1:((a.length:Int) != (b.length:Int))=true:=by simp; omega
  have h2:(a.length == b.length)=false:=by simpa using h
  simp [h1,h2]
def vX(a b:ag):Bool:=(a.aS == b.aS) && (a.aw == b.aw) && (a.aY == b.aY) && M.same (λx y=>decide (x=y)) a.aC b.aC
theorem AA{u:Nat}(hu:1099511627776<=u){a b:ag}(ha:a.aC.length<=1048576):pm u a b=some (vX a b):=by
 unfold pm vX;rw [wN hu ha]
 cases a.aS == b.aS <;> cases a.aw == b.aw <;> cases a.aY == b.aY <;> simp
def SA(l:List aK):Prop:=∀ x∈l,x.aD.aC.length<=1048576/\x.bf.length<=1048576
theorem RI(a b:Nat):((a:Int) == (b:Int))=(a == b):=by rw [zYQ,beq_iff_eq,beq_iff_eq]; omega
def eB{α:Type}(f:α->Bool):List α->Nat->Int
 | [],_=>-1
 | x :: l,i=>if f x then i else eB f l (i+1)
theorem Pi{α:Type}{fin:Unit->Option Int}{body:α->Nat->Unit->(Unit->Option Int)->Option Int}(f:α->Bool){xs:List α}(hf:fin ()=some (-1))(hb:∀ x i k,x∈xs->body x i () k=bif f x then some (i:Int) else k ()) :
  bP fin body xs 0 ()=some (eB f xs 0):=by
 have:∀ (l:List α) (i:Nat),(∀ y∈l,y∈xs)->bP fin body l i ()=some (eB f l i):=by
  intro l
  induction l with
  | nil=>intro i _; exact hf
  | cons x l ih =>
   intro i h;simp only [bP,eB];rw [hb x i _ (h x (by simp)),ih (i+1) (λy hy=>h y (by simp [hy]))]
   cases f x <;> simp
 exact this xs 0 (λ_ h=>h)
def ng(r:c7):Bool:=am r.aS 0 1000000 && am r.ch 0 1 && am r.aY 0 240
theorem yY(u:Nat)(r:c7):nU u r=some (ng r):=by
 unfold nU ng;simp only [bC,wk]
 cases am r.aS 0 1000000 <;> cases am r.ch 0 1 <;> rfl
def o7(d:aA)(n:Int):List Int:=if n=0 then d.fA else d.fB
theorem E3(u:Nat)(d:aA){n:Int}(h:am n 0 1=true):rx u d n=some (o7 d n):=by
 unfold rx o7;have:=bX h
 by_cases h0:n=0
 ·subst h0; rfl
 ·have:n=1:=by omega
  subst this; rfl
def lU(p:dA):Bool:=if p.nM=2 then (p.CW == 0) && (p.fB.length == 0) && ng p.fR else am p.nM 0 1 && decide (p.fR=⟨0,0,0⟩) && am p.CW 0 (240 - p.fB.length)
theorem Pj(x:c7):(([x.aS,x.ch,x.aY]:List Int) == [0,0,0])=decide (x=⟨0,0,0⟩):=QF x ⟨0,0,0⟩
theorem CJ(u:Nat){p:dA}(h:p.fB.length<=1048576):rp u p=some (lU p):=by
 unfold rp lU;simp only [yY,bC,wk,Pj];have e:((p.fB.length:Int) == 0)=(p.fB.length == 0):=RI _ 0
 by_cases h2:p.nM=2
 ·simp only [h2,beq_self_eq_true,cond_true,if_true,e]
  cases p.CW == 0 <;> cases p.fB.length == 0 <;> rfl
 ·have:(p.nM == 2)=false:=by simpa using h2
  simp only [this,cond_false,h2,if_false]
  cases h3:am p.CW 0 240 with
  | false =>
   have h4:am p.CW 0 (240 - p.fB.length)=false:=by
    have:=O6 h3;simp [am]; omega
   rw [h4]
   cases am p.nM 0 1 <;> cases decide (p.fR=⟨0,0,0⟩) <;> rfl
  | true =>
   have h3:=bX h3;rw [cU (by omega) (by omega)];have h4:am p.CW 0 (240 - p.fB.length)=decide ((p.fB.length:Int)<=240 - p.CW):=by
    rw [zYQ]; simp [am]; omega
   rw [h4]
   cases am p.nM 0 1 <;> cases decide (p.fR=⟨0,0,0⟩) <;> cases decide ((p.fB.length:Int)<=240 - p.CW) <;> rfl
def cE(d:aA):Bool:=decide (d.fA.length<=240) && decide (d.fB.length<=240) && ng d.fR && decide (d.fR.aY<=(o7 d d.fR.ch).length) && decide (d.fP.length<=200) && d.fP.all lU
structure M.DOk (d:aA):Prop where
 a:d.fA.length<=1048576
 b:d.fB.length<=1048576
 p:d.fP.length<=1048576
 puts:∀ x∈d.fP,x.fB.length<=1048576
theorem VO(a b:Int):decide (a > b)=!decide (a<=b):=by
 by_cases h:a<=b
 ·have:¬ a > b:=by omega
  simp [h,this]
 ·have:a > b:=by omega
  simp [h,this]
theorem QG(a b:Nat):decide ((a:Int)<=(b:Int))=decide (a<=b):=by rw [decide_eq_decide]; omega
theorem GH{u:Nat}(hu:1099511627776<=u){d:aA}(hd:M.DOk d):kA u u 0 d=some (d.fP.all lU):=by
 have:=hd.p;rw [FP u d () u (by omega) (by omega)];have:∀ (l:List dA) (i:Nat),(∀ y∈l,y∈d.fP)->bP (yp u d) (tK u d) l i ()=some (l.all lU):=by
  intro l
  induction l with
  | nil=>intro i _; rfl
  | cons x l ih =>
   intro i h;simp only [bP,tK,CJ u (hd.puts x (h x (by simp))),wk,List.all_cons];rw [ih (i+1) (λy hy=>h y (by simp [hy]))]
   cases lU x <;> rfl
 exact this _ 0 (λ_ h=>h)
theorem CK{r:c7}(h:ng r=true):am r.ch 0 1=true/\0<=r.aY/\r.aY<=240:=by
 unfold ng at h;simp only [sY] at h;exact ⟨h.1.2,(bX h.2).1,(bX h.2).2⟩
theorem mH{u:Nat}(hu:1099511627776<=u){d:aA}(hd:M.DOk d):jJ u d=some (cE d):=by
 unfold jJ kB cE;have e1:decide ((d.fA.length:Int)<=240)=decide (d.fA.length<=240):=QG _ 240;have e2:decide ((d.fB.length:Int)<=240)=decide (d.fB.length<=240):=QG _ 240;have e3:decide ((d.fP.length:Int)<=200)=decide (d.fP.length<=200):=QG _ 200;simp only [yY,GH hu hd,wk,VO,e1,e2,e3,cond_true]
 cases h:ng d.fR with
 | false=>cases decide (d.fA.length<=240) <;> cases decide (d.fB.length<=240) <;> rfl
 | true =>
  rw [E3 u d (CK h).1];simp only [wk]
  cases decide (d.fA.length<=240) <;> cases decide (d.fB.length<=240) <;> cases decide (d.fR.aY<=(o7 d d.fR.ch).length) <;> cases decide (d.fP.length<=200) <;> rfl
def n5(d:aA):Int×List Int:=if cE d then (d.fR.aS,(o7 d d.fR.ch).take d.fR.aY.toNat) else (0,[])
theorem tr{d:aA}(h:cE d=true):ng d.fR=true/\d.fR.aY<=(o7 d d.fR.ch).length/\d.fA.length<=240/\d.fB.length<=240/\d.fP.length<=200:=by
 unfold cE at h;simp only [sY,decide_eq_true_eq] at h;obtain ⟨⟨⟨⟨⟨h1,h2⟩,h3⟩,h4⟩,h5⟩,h6⟩:=h;exact ⟨h3,h4,h1,h2,h5⟩
theorem ML{d:aA}(h:cE d=true)(n:Int):(o7 d n).length<=240:=by
 have:=tr h;unfold o7; split <;> omega
theorem ID{u:Nat}(hu:1099511627776<=u){d:aA}(hd:M.DOk d):sv u d=some (n5 d):=by
 unfold sv n5;rw [mH hu hd];simp only [wk]
 cases h:cE d with
 | false=>rfl
 | true =>
  have h1:=tr h;have h2:=CK h1.1;have h3:=ML h d.fR.ch;obtain ⟨n,hn⟩:=zQZ h2.2.1;rw [E3 u d h2.1];simp only [zQV,cond_false,if_true,wk];rw [hn] at h1 ⊢;rw [show (0:Int)=((0:Nat):Int) by rfl,fk (by omega) (by omega)];simp only [wk,r0,List.drop_zero];rw [bu (by simp; omega)]; rfl
def B1:List bO->Int->Int
 | [],a=>a
 | k :: l,a=>B1 l (if ct k.cq then vL .i64 a k.cq else a)
theorem LY(u:Nat)(r:List bO):∀ (l:List bO) (i:Nat) (a:Int),l=r.drop i->bP (yr u r) (tL u r) l i a=some (B1 l a):=by
 intro l
 induction l with
 | nil=>intro i a _; rfl
 | cons k l ih =>
  intro i a hd;have hx:r[i]?=some k:=by have:=congrArg zYV hd; simpa [zXW] using this.symm
  have hl:l=r.drop (i+1):=by have:=congrArg zYq hd; simpa [zXK] using this
  simp only [bP,tL,mn,eR,wk,B1,cM,hx,ih (i+1) _ hl]
  cases ct k.cq <;> simp
theorem KK{u:Nat}(hu:1099511627776<=u){l:List bO}(hl:l.length<=1048576):ux u l=some (B1 l 0):=by
 unfold ux;rw [FQ u l 0 u (by omega) (by omega),LY u l l 0 0 (by simp)]
structure M.NdOk (w:World):Prop where
 new:aq w.b5
 newL:w.b5.length<=1048576
 old:w.bS.length<=1048576
 oldB:TR w.bS
def zQ(w:World):ag:=eG 1 w.b5 w.fC.aw
theorem LZ{u:Nat}(hu:1099511627776<=u){w:World}(hw:M.NdOk w):wA u w=some (zQ w):=by
 unfold wA;have:=hw.newL;rw [LW hu hw.new (by omega)]; rfl
theorem L0{u:Nat}(hu:1099511627776<=u){w:World}(hw:M.NdOk w):kv u w=some (zQ w):=by
 unfold kv;have:=hw.newL;rw [uf hu hw.new (by omega)]; rfl
def uJ(w:World)(k:Int):Int:=if am k 0 ((w.bS.length:Int) - 1) then match w.bS[k.toNat]? with | some x=>iW x.fB (zQ w) | none=>0 else 0
theorem Bx{u:Nat}(hu:1099511627776<=u){w:World}(hw:M.NdOk w)(k:Int):oT u w k=some (uJ w k):=by
 unfold oT uJ;have h1:=hw.old;have h2:=yW 1 w.b5 w.fC.aw;rw [cU (by omega) (by omega),eJ];simp only [wk]
 cases h:am k 0 ((w.bS.length:Int) - 1) with
 | false=>rfl
 | true =>
  have h:=bX h;obtain ⟨n,rfl⟩:=zQZ h.1;have e2:=tw (l:=w.bS) (i:=n) (by omega);have hx:=hw.oldB _ (zXv (l:=w.bS) (n:=n) (by omega));simp only [zQV,cond_false,cM,e2,wk,LZ hu hw,if_true,r0];rw [Bv hu hx.1 (by omega) (show (zQ w).aC.length<=1073741824 by unfold zQ; omega)]; rfl
theorem By{u:Nat}(hu:1099511627776<=u){w:World}(hw:M.NdOk w)(k:Int):oU u w k=some (uJ w k):=by
 unfold oU uJ;have h1:=hw.old;have h2:=yW 1 w.b5 w.fC.aw;rw [cU (by omega) (by omega),bC];simp only [wk]
 cases h:am k 0 ((w.bS.length:Int) - 1) with
 | false=>rfl
 | true =>
  have h:=bX h;obtain ⟨n,rfl⟩:=zQZ h.1;have e2:=tw (l:=w.bS) (i:=n) (by omega);have hx:=hw.oldB _ (zXv (l:=w.bS) (n:=n) (by omega));simp only [zQV,cond_false,cM,e2,wk,L0 hu hw,if_true,r0];rw [Bw hu hx.1 (by omega) (show (zQ w).aC.length<=1073741824 by unfold zQ; omega)]; rfl
theorem KL{u:Nat}(hu:1099511627776<=u){r:List Int}(hr:r.length<=1048576)(k:Int):ut u r k=some (r.any λy=>y == k):=by
 unfold ut;rw [FM u r k () u (by omega) (by omega)];have:∀ (l:List Int) (i:Nat),bP (yn u r k) (tJ u r k) l i ()=some (l.any λy=>y == k):=by
  intro l
  induction l with
  | nil=>intro i; rfl
  | cons y l ih =>
   intro i;simp only [bP,tJ,List.any_cons];rw [ih (i+1)]
   cases y == k <;> rfl
 exact this r 0
theorem E4(w:World)(k:Int):-40000<=uJ w k/\uJ w k<=240:=by
 unfold uJ
 split
 ·split
  ·exact Dv _ _
  ·omega
 ·omega
def NB(w:World):Nat->Nat->Int->Int
 | 0,_,a=>a
 | n+1,i,a=>NB w n (i+1) (a+uJ w i)
theorem KM{u:Nat}(hu:1099511627776<=u){w:World}(hw:M.NdOk w):∀ (m i k:Nat) (a:Int),i+m=w.bS.length->m < k->-1000000000000+40000*m<=a->a<=1000000000000 - 240*m->eP u k a i w=some (NB w m i a):=by
 intro m;have ho:=hw.old
 induction m with
 | zero =>
  intro i k a h1 h2 h3 h4;obtain ⟨k,rfl⟩:∃ j,k=j+1:=⟨k - 1,by omega⟩;have e:¬ ((i:Int) < (w.bS.length:Int)):=by omega
  unfold eP q8;simp only [e,decide_false,cond_false]; rfl
 | succ m ih =>
  intro i k a h1 h2 h3 h4;obtain ⟨k,rfl⟩:∃ j,k=j+1:=⟨k - 1,by omega⟩;have e:(i:Int) < (w.bS.length:Int):=by omega
  have hr:=E4 w i;unfold eP;simp only [e,decide_true,cond_true,Bx hu hw,wk];rw [cd (by omega) (by omega),cu (by omega)];exact ih (i+1) k _ (by omega) (by omega) (by omega) (by omega)
theorem KN{u:Nat}(hu:1099511627776<=u){w:World}(hw:M.NdOk w):∀ (m i k:Nat) (a:Int),i+m=w.bS.length->m < k->-1000000000000+40000*m<=a->a<=1000000000000 - 240*m->eQ u k a i w=some (NB w m i a):=by
 intro m;have ho:=hw.old
 induction m with
 | zero =>
  intro i k a h1 h2 h3 h4;obtain ⟨k,rfl⟩:∃ j,k=j+1:=⟨k - 1,by omega⟩;have e:¬ ((i:Int) < (w.bS.length:Int)):=by omega
  unfold eQ q9;simp only [e,decide_false,cond_false]; rfl
 | succ m ih =>
  intro i k a h1 h2 h3 h4;obtain ⟨k,rfl⟩:∃ j,k=j+1:=⟨k - 1,by omega⟩;have e:(i:Int) < (w.bS.length:Int):=by omega
  have hr:=E4 w i;unfold eQ;simp only [e,decide_true,cond_true,By hu hw,wk];rw [cd (by omega) (by omega),cu (by omega)];exact ih (i+1) k _ (by omega) (by omega) (by omega) (by omega)
theorem SB{ρ:Type}(J:List Int->Option ρ)(n:Int)(hn:n<=1048576)(L:Nat->List Int->Option ρ)(hL:∀ k x,L (k+1) x=bif decide ((x.length:Int) < n) then ((c9 (decide ((x.length+([0]:List Int).length)*1<=140737488355328))).bind λ_=>L k (x++[0])) else J x) :
  ∀ (m k:Nat) (x:List Int),(x.length+m=n.toNat\/(m=0/\n<=x.length))->m < k->L k x=J (x++zQg m 0):=by
 intro m
 induction m with
 | zero =>
  intro k x h1 h2;obtain ⟨k,rfl⟩:∃ j,k=j+1:=⟨k - 1,by omega⟩;have e:¬ ((x.length:Int) < n):=by omega
  rw [hL]; simp [e]
 | succ m ih =>
  intro k x h1 h2;obtain ⟨k,rfl⟩:∃ j,k=j+1:=⟨k - 1,by omega⟩;have e:(x.length:Int) < n:=by omega
  rw [hL,bu (by simp; omega)];simp only [e,decide_true,cond_true,wk];rw [ih k _ (by simp; omega) (by omega),zQk];rfl
theorem zR{α ρ:Type}{fin:List α->Option ρ}{body:α->Nat->List α->(List α->Option ρ)->Option ρ}(n:Nat)(p:List α)(hb:∀ x i s k,x∈p->s.length+1<=n->body x i s k=k (s++[x])) :
  ∀ (l:List α) (i:Nat) (s:List α),(∀ x∈l,x∈p)->s.length+l.length<=n->bP fin body l i s=fin (s++l):=by
 intro l
 induction l with
 | nil=>intro i s _ _; simp [bP]
 | cons x l ih =>
  intro i s h1 h2;simp only [zQW] at h2;simp only [bP];rw [hb x i s _ (h1 x (by simp)) (by omega),ih (i+1) _ (λy hy=>h1 y (by simp [hy])) (by simp; omega)];simp
theorem fM{u:Nat}(hu:1099511627776<=u){d:aA}(hd:M.DOk d):dC u d=some d:=by
 have h1:=hd.a;have h2:=hd.b;have h3:=hd.p;unfold dC;rw [bu (by simp; omega),bu (by simp; omega)];simp only [wk];rw [FG u d _ u (by omega) (by omega),zR 1048576 d.fP _ d.fP 0 [] (λ_ h=>h) (by simp; omega)]
 ·rfl
 ·intro x i s k hx hs;have h4:=hd.puts x hx;unfold yj fE;rw [bu (by simp; omega)];simp only [wk];rw [bu (by simp; omega)]; rfl
def Hn(b:List Int)(a:Nat)(p:List Int):List Int:=JO (b++zQg (a+p.length - b.length) 0) p a
theorem E5{x p:List Int}{a:Nat}(h:a+p.length<=x.length):JO x p a=x.take a++p++x.drop (a+p.length):=by
 unfold JO;rw [List.take_of_length_le (l:=p) (by omega),zXg (by omega)]
theorem KO(b:List Int)(a:Nat)(p:List Int):(Hn b a p).length=max b.length (a+p.length):=by
 unfold Hn;rw [E5 (by simp; omega)];simp;omega
theorem Ws(u:Nat)(a:Nat)(p:List Int)(ha:a<=1048576):∀ (l:List Int) (i:Nat) (s:List Int),a+i+l.length<=s.length->s.length<=4194304->bP (uY u a p) (uZ u a p) l i s=some (s.take (a+i)++l++s.drop (a+i+l.length)):=by
 intro l
 induction l with
 | nil=>intro i s _ _; simp [bP,uY,qp]
 | cons y l ih =>
  intro i s h1 h2;simp only [zQW] at h1;simp only [bP,uZ];rw [cd (by omega) (by omega),show (a:Int)+(i:Int)=((a+i:Nat):Int) by omega,cM,tw (by omega),r0];simp only [wk];rw [ih (i+1) _ (by simp; omega) (by simp; omega)];have e1:(s.set (a+i) y).take (a+(i+1))=s.take (a+i)++[y]:=by
   rw [show a+(i+1)=(a+i)+1 by omega,List.take_add_one,List.take_set_of_le (zWj _)];simp [show a+i < s.length by omega]
  have e2:(s.set (a+i) y).drop (a+(i+1)+l.length)=s.drop (a+i+(y :: l).length):=by
   rw [List.drop_set_of_lt (by omega)]; simp only [zQW]; congr 1; omega
  rw [e1,e2]; simp
theorem CL{u:Nat}(hu:1099511627776<=u){b p:List Int}{a:Nat}(hb:b.length<=1048576)(hp:a+p.length<=1048576):oK u b a p=some (Hn b a p):=by
 unfold oK;rw [bu (by simp; omega)];simp only [wk,zQy];have e:aQ .i64 (a:Int) (p.length:Int)=((a+p.length:Nat):Int):=by rw [cd (by omega) (by omega)]; omega
 rw [SB (λx=>qq u a p x) ((a+p.length:Nat):Int) (by omega) (λk x=>lM u k a p x) (λk x=>by rw [<- e]; rfl) (a+p.length - b.length) u b (by rw [r0]; omega) (by omega)];unfold qq;rw [HJ u a p _ u (by omega) (by omega),Ws u a p (by omega) p 0 _ (by simp; omega) (by simp; omega)];unfold Hn;rw [E5 (by simp; omega)]; simp
def uK(d:aA)(p:dA):aA:=if p.nM=2 then ⟨d.fA,d.fB,p.fR,d.fP⟩ else if p.nM=0 then ⟨Hn d.fA p.CW.toNat p.fB,d.fB,d.fR,d.fP⟩ else ⟨d.fA,Hn d.fB p.CW.toNat p.fB,d.fR,d.fP⟩
theorem Bz{p:dA}(h:lU p=true):p.nM=2\/((p.nM=0\/p.nM=1)/\0<=p.CW/\p.CW+p.fB.length<=240):=by
 unfold lU at h
 by_cases h2:p.nM=2
 ·exact .inl h2
 ·rw [if_neg h2] at h;simp only [sY] at h;have h3:=bX h.1.1;have h4:=bX h.2;exact .inr ⟨by omega,by omega,by omega⟩
theorem B2{d:aA}{p:dA}(hd:M.DOk d)(h:lU p=true):M.DOk (uK d p):=by
 have h1:=hd.a;have h2:=hd.b;unfold uK;rcases Bz h with h | ⟨h3,h4,h5⟩
 ·rw [if_pos h]; exact ⟨hd.a,hd.b,hd.p,hd.puts⟩
 ·split
  ·exact ⟨hd.a,hd.b,hd.p,hd.puts⟩
  ·split
   ·exact ⟨by rw [KO]; omega,hd.b,hd.p,hd.puts⟩
   ·exact ⟨hd.a,by rw [KO]; omega,hd.p,hd.puts⟩
theorem BA{u:Nat}(hu:1099511627776<=u){d:aA}{p:dA}(hd:M.DOk d)(hp:p.fB.length<=1048576)(h:lU p=true):iP u d p=some (uK d p):=by
 have h1:=hd.a;have h2:=hd.b;unfold iP uK;rw [fM hu hd,CJ u hp,h];simp only [wk,zQV,cond_false];rcases Bz h with h | ⟨h3,h4,h5⟩
 ·rw [h]; rfl
 ·obtain ⟨a,ha⟩:=zQZ h4;rcases h3 with h3 | h3
  ·rw [h3,ha,CL hu h1 (by omega)]; rfl
  ·rw [h3,ha,CL hu h2 (by omega)]; rfl
def tu(s:Int):List dA->Nat->aA->aA
 | [],_,d=>⟨d.fA,d.fB,d.fR,[]⟩
 | p :: l,i,d=>tu s l (i+1) (if dv s i then uK d p else d)
def M.fall(d:aA)(s:Int):aA:=if cE d then tu s d.fP 0 d else d
theorem TS(s:Int):∀ (l:List dA) (i:Nat) (d:aA),(∀ p∈l,lU p=true)->M.DOk d->M.DOk (tu s l i d):=by
 intro l
 induction l with
 | nil=>intro i d _ hd; exact ⟨hd.a,hd.b,by simp [tu],by simp [tu]⟩
 | cons p l ih =>
  intro i d hp hd;refine ih (i+1) _ (λq hq=>hp q (by simp [hq])) ?_
  split
  ·exact B2 hd (hp p (by simp))
  ·exact hd
theorem uL{d:aA}(h:cE d=true):∀ p∈d.fP,lU p=true:=by
 unfold cE at h;simp only [sY] at h;exact List.all_eq_true.1 h.2
theorem UT{d:aA}(hd:M.DOk d)(s:Int):M.DOk (M.fall d s):=by
 unfold M.fall
 split
 ·rename_i h; exact TS s _ 0 d (uL h) hd
 ·exact hd
def tup(d:aA):List Int×List Int×Int×Int×Int×List dA:=(d.fA,d.fB,d.fR.aS,d.fR.ch,d.fR.aY,d.fP)
theorem Pk{u:Nat}(hu:1099511627776<=u)(s:Int){d0:aA}(h0:∀ p∈d0.fP,lU p=true/\p.fB.length<=1048576):∀ (n i:Nat) (d:aA),i+n=d0.fP.length->M.DOk d->lS (AN u s d0) (ws u s d0) n i (tup d)=some (tu s (d0.fP.drop i) i d):=by
 intro n
 induction n with
 | zero=>intro i d h1 _; rw [zYX (by omega)]; rfl
 | succ n ih =>
  intro i d h1 hd;have hx:=tw (l:=d0.fP) (i:=i) (by omega);have h2:=h0 d0.fP[i] (zXv (by omega));rw [zXH (by omega)];simp only [lS,ws,pC,jU,cM,hx,wk,tu]
  cases hs:dv s i with
  | true =>
   simp only [cond_true,if_true];rw [show (aA.mk (tup d).1 (tup d).2.1 (c7.mk (tup d).2.2.1 (tup d).2.2.2.1 (tup d).2.2.2.2.1) (tup d).2.2.2.2.2)=d by rfl,BA hu hd h2.2 h2.1];exact ih (i+1) _ (by omega) (B2 hd h2.1)
  | false =>
   simp only [cond_false,zQz,if_false];exact ih (i+1) _ (by omega) hd
theorem NC{u:Nat}(hu:1099511627776<=u){d:aA}(hd:M.DOk d)(s:Int):yx u d s=some (M.fall d s):=by
 have h3:=hd.p;unfold yx M.fall;rw [fM hu hd,mH hu hd];simp only [wk]
 cases h:cE d with
 | false=>rfl
 | true =>
  simp only [zQV,cond_false,if_true];have e:=Pk hu s (d0:=d) (λp hp=>⟨uL h p hp,hd.puts p hp⟩) d.fP.length 0 d (by omega) hd;have e2:=Jg u s d (tup d) u (by omega) (by omega);rw [r0,e] at e2;exact e2
structure Cu (c:aG):Prop where
 i0:0<=c.fI
 n:c.fI<=(c.fB.length:Int)
 len:c.fB.length<=1048576
def Dr{α:Type}(r:Option (α×aG))(p:α->Prop):Prop:=∃ v c,r=some (v,c)/\p v/\Cu c
theorem Ja{α:Type}{r:Option (α×aG)}{p q:α->Prop}(h:Dr r p)(hpq:∀ v,p v->q v):Dr r q:=by
 obtain ⟨v,c,e,h1,h2⟩:=h;exact ⟨v,c,e,hpq v h1,h2⟩
theorem cc{α β:Type}{r:Option (α×aG)}{p:α->Prop}{f:α×aG->Option (β×aG)}{q:β->Prop}(h:Dr r p)(hf:∀ v c,p v->Cu c->Dr (f (v,c)) q):Dr (r.bind f) q:=by
 obtain ⟨v,c,e,h1,h2⟩:=h;rw [e];exact hf v c h1 h2
theorem cD{α:Type}{v:α}{c:aG}{p:α->Prop}(h:p v)(hc:Cu c):Dr (Option.some (v,c)) p:=⟨v,c,rfl,h,hc⟩
theorem TT(a:Int):0<=gE .i64 a 255/\gE .i64 a 255<=255:=by
 unfold gE;have h:(BitVec.ofInt 64 a &&& BitVec.ofInt 64 255).toNat<=255:=by
  rw [BitVec.toNat_and];exact Nat.and_le_right
 have e:IntKind.wrap .i64 (((BitVec.ofInt 64 a &&& BitVec.ofInt 64 255).toNat:Nat):Int)=(((BitVec.ofInt 64 a &&& BitVec.ofInt 64 255).toNat:Nat):Int):=eH (by omega) (by omega);show 0<=IntKind.wrap .i64 (((BitVec.ofInt 64 a &&& BitVec.ofInt 64 255).toNat:Nat):Int)/\IntKind.wrap .i64 (((BitVec.ofInt 64 a &&& BitVec.ofInt 64 255).toNat:Nat):Int)<=255;rw [e];omega
theorem TU{u:Nat}(hu:1099511627776<=u){code:List Int}(h:code.length<=1048576):∃ c,wa u code=some c/\Cu c:=by
 have key:∀ (m k i:Nat) (x:Int),i+m=code.length->m < k->∃ c,iD u k code x (i:Int)=some c/\Cu c:=by
  intro m
  induction m with
  | zero =>
   intro k i x hi hk;obtain ⟨k,rfl⟩:∃ j,k=j+1:=⟨k - 1,by omega⟩;unfold iD;have:¬ ((i:Int) < (code.length:Int)):=by omega
   simp only [this,decide_false,cond_false,qb,t7];exact ⟨_,rfl,⟨Int.le_refl 0,Int.natCast_nonneg _,h⟩⟩
  | succ m ih =>
   intro k i x hi hk;obtain ⟨k,rfl⟩:∃ j,k=j+1:=⟨k - 1,by omega⟩;unfold iD;have hlt:(i:Int) < (code.length:Int):=by omega
   simp only [hlt,decide_true,cond_true,qb]
   by_cases h4:(i:Int) < 4000
   ·simp only [h4,decide_true,cond_true,cM];obtain ⟨y,hy⟩:∃ y,code[i]?=some y:=⟨code[i],tw (by omega)⟩;rw [hy];simp only [wk];rw [cu (by omega)];exact ih k (i+1) _ (by omega) (by omega)
   ·simp only [h4,decide_false,cond_false,t7];exact ⟨_,rfl,⟨Int.le_refl 0,Int.natCast_nonneg _,h⟩⟩
 exact key code.length u 0 _ (by omega) (by omega)
theorem yZ(u:Nat){c:aG}(hc:Cu c):Dr (jG u c) (λv=>0<=v/\v<=255):=by
 have h0:=hc.i0;have h1:=hc.n;have h2:=hc.len;unfold jG
 by_cases h:c.fI < (c.fB.length:Int)
 ·simp only [h,decide_true,cond_true];obtain ⟨i,hi⟩:∃ i:Nat,c.fI=(i:Int):=⟨c.fI.toNat,by omega⟩;rw [hi,cM,tw (by omega)];simp only [wk,oz];exact cD (TT _) ⟨by show 0<=aQ .i64 (i:Int) 1; rw [cu (by omega)]; omega,by show aQ .i64 (i:Int) 1<=(c.fB.length:Int); rw [cu (by omega)]; omega,h2⟩
 ·simp only [h,decide_false,cond_false,oz];exact cD (TT _) ⟨h0,h1,h2⟩
theorem co(u:Nat){c:aG}(hc:Cu c)(n:Int):Dr (aX u c n) (λv=>0<=v/\(0 < n->v < n)):=by
 unfold aX
 by_cases h:n<=0
 ·simp only [h,decide_true,cond_true];exact cD ⟨Int.le_refl 0,λh'=>by omega⟩ hc
 ·have hn:(!(n == 0))=true:=by simp; omega
  have hr:∀ a:Int,0<=a->0<=mA .i64 a n/\(0 < n->mA .i64 a n < n):=λa ha=>by
   rw [wE ha];exact ⟨zZx _ (by omega),λ_=>zZy _ (by omega)⟩
  simp only [h,decide_false,cond_false]
  by_cases h2:n<=256
  ·simp only [h2,decide_true,cond_true];refine cc (yZ u hc) λv c' hv hc'=>?_;rw [hn];exact cD (hr v hv.1) hc'
  ·simp only [h2,decide_false,cond_false];refine cc (yZ u hc) λv c' hv hc'=>?_;refine cc (yZ u hc') λv2 c2 hv2 hc2=>?_;refine cc (yZ u hc2) λv3 c3 hv3 hc3=>?_;rw [hn];refine cD (hr _ ?_) hc3;simp only;rw [lG (by omega) (by omega),lG (by omega) (by omega),cd (a:=v*65536) (b:=v2*256) (by omega) (by omega),cd (by omega) (by omega)];omega
theorem GI(u:Nat){c:aG}(hc:Cu c)(n:Int):Dr (gZ u c n) (λ_=>True):=by
 unfold gZ;exact cc (co u hc n) λv c' _ hc'=>cD trivial hc'
theorem nJ(u:Nat){c:aG}(hc:Cu c){xs:List Int}(hx:0 < xs.length):Dr (c8 u c xs) (λv=>v∈xs):=by
 unfold c8;refine cc (co u hc _) λv c' hv hc'=>?_;have hlt:=hv.2 (by omega);obtain ⟨i,hi⟩:∃ i:Nat,v=(i:Int):=⟨v.toNat,by omega⟩;subst hi;have hi:i < xs.length:=by omega
 simp only [cM,tw hi,wk];exact cD (zXv hi) hc'
theorem KP{u:Nat}(hu:1099511627776<=u){c:aG}(hc:Cu c){n:Nat}(hn:n<=1000):Dr (fQ u c (n:Int)) (λv=>v.length<=n):=by
 unfold fQ;rw [cu (by omega)];refine cc (co u hc _) λv c1 hv hc1=>?_;have hlt:=hv.2 (by omega);obtain ⟨m,hm⟩:∃ m:Nat,v=(m:Int):=⟨v.toNat,by omega⟩;subst hm;have key:∀ (m k:Nat) (x:List Int) (c:aG),m < k->Cu c->x.length+m<=1000->Dr (eM u k x (m:Int) c.fB c.fI c.fH) (λv=>v.length<=x.length+m):=by
  intro m
  induction m with
  | zero =>
   intro k x c hk hc hx;obtain ⟨k,rfl⟩:∃ j,k=j+1:=⟨k - 1,by omega⟩;unfold eM;simp only [Int.natCast_zero,gt_iff_lt,Int.lt_irrefl,decide_false,cond_false,qI];exact cD (zWj _) hc
  | succ m ih =>
   intro k x c hk hc hx;obtain ⟨k,rfl⟩:∃ j,k=j+1:=⟨k - 1,by omega⟩;unfold eM;have:((m+1:Nat):Int) > 0:=by omega
   simp only [this,decide_true,cond_true];refine cc (nJ u hc (xs:=[97,98,99,0,255]) (by simp)) λv c2 hv hc2=>?_;rw [bu (by simp; omega)];simp only [wk];rw [cU (by omega) (by omega)];have e:((m+1:Nat):Int) - 1=(m:Int):=by omega
   rw [e];refine Ja (ih k _ c2 (by omega) hc2 (by simp; omega)) λv h=>?_;simp only [zQw,zQW,zXw] at h;omega
 refine Ja (key m u [] c1 (by omega) hc1 (by simp; omega)) λv h=>?_;simp only [zXw] at h;omega
theorem zS{d:aA}(h:cE d=true):M.DOk d:=by
 have h1:=tr h;refine ⟨by omega,by omega,by omega,λx hx=>?_⟩;have h2:=uL h x hx;rcases Bz h2 with h3 | ⟨_,h3,h4⟩
 ·unfold lU at h2;rw [if_pos h3] at h2;simp only [sY,beq_iff_eq] at h2;omega
 ·omega
theorem KQ(u:Nat){g:Int}{b:List Int}(h0:0<=g)(h1:g<=1000000)(hb:b.length<=240):lg u g b=some ⟨b,[],⟨g,0,b.length⟩,[]⟩/\cE ⟨b,[],⟨g,0,b.length⟩,[]⟩=true:=by
 refine ⟨?_,?_⟩
 ·unfold lg;have hw:am g 0 1000000=true:=by simp [am,h0,h1]
  rw [bC,hw];simp only [wk,zQV,cond_false];have:¬ ((b.length:Int) > 240):=by omega
  simp only [this,decide_false,nu,cond_false];rw [bu (by simp; omega)];simp
 ·simp [cE,ng,am,o7,h0,h1,hb];omega
def ii(d:aA)(p:dA):aA:=⟨d.fA,d.fB,d.fR,d.fP++[p]⟩
theorem ND(u:Nat){p:dA}(h:p.fB.length<=1048576):fE u p=some p:=by
 unfold fE;rw [bu (by simp; omega)];simp
theorem B3{d:aA}{p:dA}(hd:M.DOk d)(hl:d.fP.length<=1048575)(hp:p.fB.length<=1048576):M.DOk (ii d p) :=
 ⟨hd.a,hd.b,by simp [ii]; omega,λx hx=>by
  rcases List.mem_append.1 hx with h | h
  ·exact hd.puts x h
  ·simp at h; subst h; exact hp⟩
theorem yd{u:Nat}(hu:1099511627776<=u){d:aA}{p:dA}(hd:M.DOk d)(hl:d.fP.length<=1048575)(hp:p.fB.length<=1048576) :
  m0 u d p=some (if cE (ii d p) then (ii d p,true) else (d,false)):=by
 have hap:=hd.p;unfold m0;rw [fM hu hd];simp only [wk];rw [ND u hp];simp only [wk];rw [bu (by simp; omega)];simp only [wk];have e:(aA.mk d.fA d.fB d.fR (d.fP++[p]))=ii d p:=rfl;rw [e,mH hu (B3 hd hl hp)];simp only [wk]
 cases h:cE (ii d p) <;> simp
def zT:List dA->aA->aA
 | [],d=>⟨d.fA,d.fB,d.fR,[]⟩
 | p :: l,d=>zT l (uK d p)
def vh(d:aA):aA:=if cE d then zT d.fP d else d
theorem RJ:∀ (l:List dA) (d:aA),(∀ p∈l,lU p=true)->M.DOk d->M.DOk (zT l d)
 | [],d,_,hd=>⟨hd.a,hd.b,by simp [zT],by simp [zT]⟩
 | p :: l,d,hp,hd=>RJ l _ (λq hq=>hp q (by simp [hq])) (B2 hd (hp p (by simp)))
theorem RK{d:aA}(hd:M.DOk d):M.DOk (vh d):=by
 unfold vh
 cases h:cE d with
 | true=>exact RJ _ _ (uL h) hd
 | false=>exact hd
theorem Pl{u:Nat}(hu:1099511627776<=u)(d0:aA):∀ (l:List dA) (i:Nat) (d:aA),(∀ p∈l,lU p=true/\p.fB.length<=1048576)->M.DOk d->bP (wn u d0) (wo u d0) l i (tup d)=some (zT l d):=by
 intro l
 induction l with
 | nil=>intro i d _ _; rfl
 | cons p l ih =>
  intro i d hp hd;obtain ⟨h1,h2⟩:=hp p (by simp);show (iP u d p).bind (λr25=>bP (wn u d0) (wo u d0) l (i+1) (tup r25))=_;rw [BA hu hd h2 h1];exact ih (i+1) _ (λq hq=>hp q (by simp [hq])) (B2 hd h1)
theorem E6{u:Nat}(hu:1099511627776<=u){d:aA}(hd:M.DOk d):pv u d=some (vh d):=by
 have h3:=hd.p;unfold pv vh;rw [fM hu hd,mH hu hd];simp only [wk]
 cases h:cE d with
 | false=>rfl
 | true =>
  simp only [zQV,cond_false,if_true];have:=Jf u d (tup d) u (by omega) (by omega);exact this.trans (Pl hu d d.fP 0 d (λp hp=>⟨uL h p hp,hd.puts p hp⟩) hd)
theorem Pm{u:Nat}(hu:1099511627776<=u){c:aG}(hc:Cu c):Dr (qy u c) (λp=>p.fB.length<=5):=by
 unfold qy;refine cc (GI u hc 4) λb c1 _ h1=>?_
 cases b with
 | true =>
  simp only [cond_true];refine cc (co u h1 4) λv2 c2 _ h2=>?_;refine cc (co u h2 2) λv3 c3 _ h3=>?_;refine cc (co u h3 6) λv4 c4 _ h4=>?_;exact cD (by simp) h4
 | false =>
  simp only [cond_false];refine cc (co u h1 2) λv2 c2 _ h2=>?_;refine cc (co u h2 9) λv3 c3 _ h3=>?_;refine cc (KP hu h3 (n:=5) (by omega)) λv4 c4 hv h4=>?_;exact cD hv h4
theorem SC{u:Nat}(hu:1099511627776<=u){c:aG}(hc:Cu c):Dr (uC u c) (λd=>cE d=true):=by
 unfold uC;refine cc (co u hc 3) λg c1 hg h1=>?_;refine cc (KP hu h1 (n:=9) (by omega)) λb c2 hb h2=>?_;have hg2:=hg.2 (by omega);obtain ⟨e1,e2⟩:=KQ u hg.1 (by omega) (b:=b) (by omega);simp only [e1,wk];refine cc (co u h2 5) λn c3 hn h3=>?_;obtain ⟨m,hm⟩:∃ m:Nat,n=(m:Int):=⟨n.toNat,by omega⟩;subst hm;have hm5:=hn.2 (by omega);have key:∀ (m k:Nat) (d:aA) (c:aG),m < k->m<=5->cE d=true->Cu c->Dr (fF u k (m:Int) d.fA d.fB d.fR.aS d.fR.ch d.fR.aY d.fP c.fB c.fI c.fH) (λd=>cE d=true):=by
  intro m
  induction m with
  | zero =>
   intro k d c hk _ hd hc;obtain ⟨k,rfl⟩:∃ j,k=j+1:=⟨k - 1,by omega⟩;unfold fF;simp only [Int.natCast_zero,gt_iff_lt,Int.lt_irrefl,decide_false,cond_false,wt];exact cD hd hc
  | succ m ih =>
   intro k d c hk hm hd hc;obtain ⟨k,rfl⟩:∃ j,k=j+1:=⟨k - 1,by omega⟩;unfold fF;have:((m+1:Nat):Int) > 0:=by omega
   simp only [this,decide_true,cond_true];refine cc (Pm hu hc) λp c1 hp h1=>?_;have hD:=zS hd;have hpl:=tr hd;have e:(aA.mk d.fA d.fB (c7.mk d.fR.aS d.fR.ch d.fR.aY) d.fP)=d:=rfl;rw [e,yd hu hD (p:=p) (by omega) (by omega)];simp only [wk];obtain ⟨d',b',hd',hif⟩:∃ d' b',cE d'=true/\(if cE (ii d p)=true then (ii d p,true) else (d,false))=(d',b'):=by
    cases h:cE (ii d p) with
    | true=>exact ⟨_,true,h,rfl⟩
    | false=>exact ⟨_,false,hd,rfl⟩
   rw [hif];simp only;rw [E6 hu (zS hd')];simp only [wk];refine cc (GI u h1 5) λo c2 _ h2=>?_;have hs:(dM .i64 ((m+1:Nat):Int) 1)=(m:Int):=by rw [cU (by omega) (by omega)]; omega
   cases o with
   | true =>
    simp only [cond_true];rw [mH hu (RK (zS hd'))];simp only [wk,oO,oN,hs]
    cases hx:cE (vh d') with
    | true=>exact ih k _ c2 (by omega) (by omega) hx h2
    | false=>exact ih k _ c2 (by omega) (by omega) hd' h2
   | false =>
    simp only [cond_false,oO,oN,hs];exact ih k _ c2 (by omega) (by omega) hd' h2
 exact key m u _ c3 (by omega) (by omega) e2 h3
theorem TV{u:Nat}(hu:1099511627776<=u){c:aG}(hc:Cu c):Dr (tM u c) (λd=>M.DOk d/\d.fP.length<=201):=by
 unfold tM;refine cc (SC hu hc) λd c1 hd h1=>?_;have hD:=zS hd;have hl:=tr hd;have hok:∀ r,M.DOk ⟨d.fA,d.fB,r,d.fP⟩/\d.fP.length<=201:=λr=>⟨⟨hD.a,hD.b,hD.p,hD.puts⟩,by omega⟩;refine cc (co u h1 12) λn c2 _ h2=>?_;simp only
 cases n == 0 with
 | true =>
  simp only [cond_true];refine cc (nJ u h2 (by simp)) λx c3 _ h3=>?_;exact cD (hok _) h3
 | false =>
  simp only [cond_false]
  cases n == 1 with
  | true =>
   simp only [cond_true];refine cc (nJ u h2 (by simp)) λx c3 _ h3=>?_;exact cD (hok _) h3
  | false =>
   simp only [cond_false]
   cases n == 2 with
   | true =>
    simp only [cond_true];refine cc (nJ u h2 (by simp)) λx c3 _ h3=>?_;exact cD (hok _) h3
   | false =>
    simp only [cond_false]
    cases n == 3 with
    | true =>
     simp only [cond_true];refine cc (nJ u h2 (by simp)) λx c3 _ h3=>?_;refine cc (nJ u h3 (by simp)) λy c4 _ h4=>?_;rw [bu (by simp; omega)];simp only [wk,lP];refine cD ⟨B3 hD (by omega) (p:=⟨x,y,[1],⟨0,0,0⟩⟩) (by simp),by simp; omega⟩ h4
    | false=>exact cD (hok _) h2
theorem MM(s:Int):∀ (l:List dA) (i:Nat) (d:aA),(tu s l i d).fP=[]
 | [],i,d=>rfl
 | p :: l,i,d=>MM s l (i+1) _
theorem TW{d:aA}(h:cE d=true)(s:Int):(M.fall d s).fP=[]:=by
 unfold M.fall;rw [h];exact MM s d.fP 0 d
theorem SD(n:Int):0<=IntKind.wrap .u8 n/\IntKind.wrap .u8 n<=255:=by
 show 0<=n % 256/\n % 256<=255;omega
theorem GJ(n:Int):aq [IntKind.wrap .u8 n]:=λx hx=>by
 simp only [zQq] at hx;subst hx;exact SD n
theorem vY{a b:List Int}(ha:aq a)(hb:aq b):aq (a++b):=λx hx=>(List.mem_append.1 hx).elim (ha x) (hb x)
theorem B4{a:List Int}(ha:aq a)(i:Nat){v:Int}(hv:0<=v/\v<=255):aq (a.set i v):=λx hx=>by
 rcases zXG hx with h | h
 ·exact ha x h
 ·subst h; exact hv
theorem zU{a:List Int}(ha:aq a)(n:Nat):aq (a.take n):=λx hx=>ha x (zWZ hx)
theorem zV{a:List Int}(ha:aq a)(n:Nat):aq (a.drop n):=λx hx=>ha x (zXX hx)
theorem MN:aq []:=λx hx=>by cases hx
def mI(n:Nat)(b:List Int):Prop:=b.length<=n/\aq b
theorem xI{u:Nat}(hu:1099511627776<=u){c:aG}(hc:Cu c){n:Nat}(hn:n<=1000):Dr (fQ u c (n:Int)) (mI n):=by
 unfold fQ;rw [cu (by omega)];refine cc (co u hc _) λv c1 hv hc1=>?_;have hlt:=hv.2 (by omega);obtain ⟨m,hm⟩:∃ m:Nat,v=(m:Int):=⟨v.toNat,by omega⟩;subst hm;have key:∀ (m k:Nat) (x:List Int) (c:aG),m < k->Cu c->x.length+m<=1000->aq x->Dr (eM u k x (m:Int) c.fB c.fI c.fH) (mI (x.length+m)):=by
  intro m
  induction m with
  | zero =>
   intro k x c hk hc hx hb;obtain ⟨k,rfl⟩:∃ j,k=j+1:=⟨k - 1,by omega⟩;unfold eM;simp only [Int.natCast_zero,gt_iff_lt,Int.lt_irrefl,decide_false,cond_false,qI];exact cD ⟨zWj _,hb⟩ hc
  | succ m ih =>
   intro k x c hk hc hx hb;obtain ⟨k,rfl⟩:∃ j,k=j+1:=⟨k - 1,by omega⟩;unfold eM;have:((m+1:Nat):Int) > 0:=by omega
   simp only [this,decide_true,cond_true];refine cc (nJ u hc (xs:=[97,98,99,0,255]) (by simp)) λv c2 hv hc2=>?_;rw [bu (by simp; omega)];simp only [wk];rw [cU (by omega) (by omega)];have e:((m+1:Nat):Int) - 1=(m:Int):=by omega
   rw [e];refine Ja (ih k _ c2 (by omega) hc2 (by simp; omega) (vY hb (GJ _))) λv h=>?_;have h1:=h.1;simp only [zQw,zQW,zXw] at h1;exact ⟨by omega,h.2⟩
 refine Ja (key m u [] c1 (by omega) hc1 (by simp; omega) MN) λv h=>?_;have h1:=h.1;simp only [zXw] at h1;exact ⟨by omega,h.2⟩
theorem KR{u:Nat}(hu:1099511627776<=u){c:aG}(hc:Cu c):Dr (k9 u c) (mI 16):=by
 unfold k9;exact cc (xI hu hc (n:=16) (by omega)) λv c1 hv hc1=>cD hv hc1
theorem QH(u:Nat){c:aG}(hc:Cu c){b:List Int}(hb:b.length<=200)(hB:aq b):Dr (mM u c b) (mI 201):=by
 unfold mM;rw [bu (by simp; omega)];simp only [wk,zQy];have hlt:∀ {v:Int},0<=v->v < (b.length:Int)->∃ y,c6 b v=some y:=λ{v} h0 h1=>by
  obtain ⟨i,rfl⟩:∃ i:Nat,v=(i:Int):=⟨v.toNat,by omega⟩;exact ⟨b[i]'(by omega),by rw [cM]; exact tw (by omega)⟩
 have self:mI 201 b:=⟨by omega,hB⟩;refine cc (co u hc 6) λn c1 _ h1=>?_;simp only
 cases n == 0 with
 | true =>
  simp only [cond_true]
  by_cases hl:(b.length:Int) > 0
  ·simp only [hl,decide_true,cond_true];refine cc (co u h1 _) λv c2 hv h2=>?_;refine cc (co u h2 256) λw c3 _ h3=>?_;obtain ⟨y,hy⟩:=hlt hv.1 (hv.2 hl);simp only [hy,wk,b6];exact cD ⟨by rw [zXZ]; omega,B4 hB _ (SD _)⟩ h3
  ·simp only [hl,decide_false,cond_false,b6];exact cD self h1
 | false =>
  simp only [cond_false]
  cases n == 1 with
  | true =>
   simp only [cond_true];rw [cu (by omega)];refine cc (co u h1 _) λv c2 hv h2=>?_;have h3:=hv.2 (by omega);have hs:cy 0 v (b.length:Int)=true:=by simp [cy]; omega
   simp only [hs,A4,wk,b6];exact cD ⟨by rw [zYx,zQh]; omega,zV (zU hB _) _⟩ h2
  | false =>
   simp only [cond_false]
   cases n == 2 with
   | true =>
    simp only [cond_true];refine cc (nJ u h1 (by simp)) λv c2 _ h2=>?_;rw [bu (by simp; omega)];simp only [wk,b6];exact cD ⟨by rw [zQw,zYY]; omega,vY hB (GJ _)⟩ h2
   | false =>
    simp only [cond_false]
    cases n == 3 with
    | true =>
     simp only [cond_true]
     by_cases hl:(b.length:Int) > 0
     ·simp only [hl,decide_true,cond_true];refine cc (co u h1 _) λv c2 hv h2=>?_;obtain ⟨y,hy⟩:=hlt hv.1 (hv.2 hl);simp only [hy,wk];refine cc (co u h2 8) λw c3 hw h3=>?_;have hw0:=hw.1;simp only [hy];rw [bu hw0];simp only [wk,b6];exact cD ⟨by rw [zXZ]; omega,B4 hB _ (by unfold Nf; exact SD _)⟩ h3
     ·simp only [hl,decide_false,cond_false,b6];exact cD self h1
    | false =>
     simp only [cond_false,b6];exact cD self h1
theorem SE{u:Nat}(hu:1099511627776<=u){c:aG}(hc:Cu c){b:List Int}(hb:b.length<=200)(hB:aq b):Dr (rj u c b) (mI 240):=by
 unfold rj;refine cc (co u hc 5) λn c1 _ h1=>?_;simp only
 cases n == 0 with
 | true =>
  simp only [cond_true];exact cc (xI hu h1 (n:=16) (by omega)) λv c2 hv h2=>cD ⟨zWW hv.1 (by omega),hv.2⟩ h2
 | false =>
  simp only [cond_false]
  cases n == 1 with
  | true =>
   simp only [cond_true];rw [bu (by simp; omega)];simp only [wk,zQy];exact cD ⟨by omega,hB⟩ h1
  | false =>
   simp only [cond_false]
   cases n == 2 with
   | true =>
    simp only [cond_true];rw [cu (by omega)];refine cc (co u h1 _) λv c2 hv h2=>?_;have h3:=hv.2 (by omega);have h0:=hv.1;have s1:cy v (b.length:Int) (b.length:Int)=true:=by simp [cy]; omega
    have s2:cy 0 v (b.length:Int)=true:=by simp [cy]; omega
    simp only [s1,s2,A4,wk];rw [bu (by simp; omega)];simp only [wk];rw [bu (by simp; omega)];simp only [wk];refine cD ⟨by simp; omega,vY (vY (λx hx=>?_) (zV (zU hB _) _)) (zV (zU hB _) _)⟩ h2;simp only [zQq] at hx;omega
   | false =>
    simp only [cond_false]
    cases n == 3 with
    | true =>
     simp only [cond_true];exact cD ⟨by simp,MN⟩ h1
    | false =>
     simp only [cond_false];refine cc (xI hu h1 (n:=3) (by omega)) λv c2 hv h2=>?_;refine cc (QH u h2 hb hB) λw c3 hw h3=>?_;have hv1:=hv.1;have hw1:=hw.1;simp only;rw [bu (by omega)];simp only [wk];exact cD ⟨by rw [zQw]; omega,vY hv.2 hw.2⟩ h3
theorem ic{α:Type}(l:List α)(k:Nat){v:α}(h:l[k]?=some v):c6 l (k:Int)=some v:=by
 unfold c6;simp [h]
def KT(c:Int):Option (Int×Nat)->Option (Int×Nat)
 | some (v,n)=>some (v*128+(c - 128),n+1)
 | none=>none
def M.rd:Nat->Bool->List Int->Option (Int×Nat)
 | 0,_,_=>none
 | _+1,_,[]=>none
 | k+1,f,c :: l=>if c < 128 then (if f || decide (0 < c) then some (c,1) else none) else KT c (M.rd k false l)
theorem VP:∀ (k:Nat) (f:Bool) (l:List Int) (w:Int) (j:Nat),aq l->M.rd k f l=some (w,j)->0<=w/\(f=false->0 < w)/\j<=l.length/\1<=j/\w < 128 ^ k/\∀ K,k<=K+1->l.take j=gc K w:=by
 intro k
 induction k with
 | zero=>intro f l w j _ h; simp [M.rd] at h
 | succ k ih =>
  intro f l w j hb h
  cases l with
  | nil=>simp [M.rd] at h
  | cons c l =>
   have hc:=hb c (by simp);unfold M.rd at h
   by_cases hc1:c < 128
   ·rw [if_pos hc1] at h
    split at h
    ·rename_i hf;simp only [Option.some.injEq,Prod.mk.injEq] at h;obtain ⟨rfl,rfl⟩:=h;have hp:(128:Int)<=128 ^ (k+1):=by
      rw [zXq]; have:(0:Int) < 128 ^ k:=Int.pow_pos (by decide); omega
     refine ⟨hc.1,λh0=>by subst h0; simpa using hf,by simp,by omega,by omega,λK _=>?_⟩
     cases K with
     | zero=>simp [gc]; omega
     | succ K=>unfold gc; rw [if_pos (by omega)]; simp; omega
    ·cases h
   ·rw [if_neg hc1] at h
    cases hr:M.rd k false l with
    | none=>rw [hr] at h; cases h
    | some q =>
     obtain ⟨v,n⟩:=q;rw [hr] at h;simp only [KT,Option.some.injEq,Prod.mk.injEq] at h;obtain ⟨rfl,rfl⟩:=h;obtain ⟨h1,h2,h3,h4,h5,h6⟩:=ih false l v n (λx hx=>hb x (by simp [hx])) hr;have h2:=h2 rfl;have hk:k≠0:=by intro h0; subst h0; simp [M.rd] at hr
     refine ⟨by omega,λ_=>by omega,by simp; omega,by omega,by rw [zXq]; omega,λK hK=>?_⟩;obtain ⟨K,rfl⟩:∃ K',K=K'+1:=⟨K - 1,by omega⟩;unfold gc;rw [if_neg (by omega),List.take_succ_cons,h6 K (by omega)]
     congr 1
     ·omega
     ·congr 1; omega
theorem VQ:∀ (k K:Nat) (f:Bool) (n:Int) (t:List Int),1<=k->0<=n->(f=false->0 < n)->n < 128 ^ k->k<=K+1->M.rd k f (gc K n++t)=some (n,(gc K n).length):=by
 intro k
 induction k with
 | zero=>intro K f n t h0; omega
 | succ k ih =>
  intro K f n t h0 h1 h2 h3 h4
  by_cases h:n<=127
  ·have e:gc K n=[n]:=by
    cases K with
    | zero=>simp [gc]; omega
    | succ K=>unfold gc; rw [if_pos h]; simp; omega
   rw [e];simp only [List.singleton_append,M.rd,zYY];rw [if_pos (by omega),if_pos (by cases f <;> simp; exact h2 rfl)]
  ·have hk:k≠0:=by
    intro h0; subst h0;rw [show (128:Int) ^ (0+1)=128 by rfl] at h3; omega
   obtain ⟨K,rfl⟩:∃ K',K=K'+1:=⟨K - 1,by omega⟩;unfold gc;rw [if_neg h];simp only [List.cons_append,M.rd];rw [if_neg (by omega),ih K false (n / 128) t (by omega) (by omega) (λ_=>by omega) (by rw [zXq] at h3; omega) (by omega)];simp only [KT,zQW,Option.some.injEq,Prod.mk.injEq,and_true];omega
theorem KU{a n:Nat}(hn:n<=62)(h:a*2 ^ n < 9223372036854775808):iT .i64 (a:Int) (n:Int)=((a*2 ^ n:Nat):Int):=by
 unfold iT;rw [show min (sX (n:Int)) (IntKind.bits .i64)=n by simp [IntKind.bits]; omega];have e:(a:Int)*2 ^ n=((a*2 ^ n:Nat):Int):=by simp
 rw [e];exact eH (by omega) (by omega)
theorem TX{v a n:Nat}(hv:v < 2 ^ n):v ||| a*2 ^ n=v+a*2 ^ n:=by
 have h:=Nat.shiftLeft_add_eq_or_of_lt hv a;rw [Nat.shiftLeft_eq] at h;rw [Nat.or_comm,<- h,Nat.add_comm]
theorem TY{v i:Nat}{c:Int}(hi:i<=7)(hv:v < 2 ^ (7*i))(h1:0<=c)(h2:c<=255):vL .i64 (v:Int) (iT .i64 (gE .i64 (IntKind.wrap .i64 c) 127) (jC .i64 7 (i:Int)))=((v+(c % 128).toNat*2 ^ (7*i):Nat):Int)/\v+(c % 128).toNat*2 ^ (7*i) < 2 ^ (7*(i+1)):=by
 have hp:(2:Nat) ^ (7*i)<=2 ^ 49:=zWG (by omega) (by omega);have hq:(2:Nat) ^ (7*(i+1))=128*2 ^ (7*i):=by rw [Nat.mul_add,Nat.pow_add,Nat.mul_comm]
 have hc:(c % 128).toNat < 128:=by omega
 have hm:(c % 128).toNat*2 ^ (7*i)<=127*2 ^ (7*i):=zWX _ (by omega);rw [eH (by omega) (by omega),Nw,lG (by omega) (by omega),show (7:Int)*(i:Int)=((7*i:Nat):Int) by omega,show c % 128=(((c % 128).toNat:Nat):Int) by omega];rw [show (((c % 128).toNat:Nat):Int).toNat=(c % 128).toNat by omega];have hp2:(2:Nat) ^ 49=562949953421312:=by decide
 rw [KU (by omega) (by omega),B0 (by omega) (by omega),TX hv];exact ⟨rfl,by omega⟩
def vM(o:Option (Int×Nat))(v i a:Nat)(r:Int×Int×Bool):Prop:=match o with
 | some (w,j)=>r=((v:Int)+w*2 ^ (7*i),((a+j:Nat):Int),true)
 | none=>r.2.2=false
theorem QI{o:Option (Int×Nat)}{v i a x:Nat}{c:Int}{r:Int×Int×Bool}(hx:(x:Int)=c - 128)(h:vM o (v+x*2 ^ (7*i)) (i+1) (a+1) r):vM (KT c o) v i a r:=by
 cases o with
 | none=>exact h
 | some q =>
  obtain ⟨w,j⟩:=q;unfold vM at h;unfold vM KT;dsimp only at h ⊢;rw [h];refine Prod.ext ?_ (Prod.ext ?_ rfl)
  ·dsimp only;rw [show 7*(i+1)=7*i+7 by omega,Int.pow_add,<- hx];have:((v+x*2 ^ (7*i):Nat):Int)=(v:Int)+(x:Int)*2 ^ (7*i):=by simp
   rw [this];generalize (2:Int) ^ (7*i)=p;rw [show (2:Int) ^ 7=128 by rfl,zZv,Int.mul_assoc w 128 p,zZk p 128];omega
  ·dsimp only; omega
theorem Pn{α:Type}{b:List α}{a:Nat}(h:a < b.length):b.drop a=b[a] :: b.drop (a+1):=zXH h
def vj(n:Nat)(b:List Int)(a:Int):Option (Int×Int):=if 0<=a then match M.rd n true (b.drop a.toNat) with
  | some (v,j)=>some (v,a+j)
  | none=>none
 else none
def bH(b:List Int)(a:Int):Int×Int×Bool:=match vj 6 b a with
 | some (v,e)=>if v<=1000000000000 then (v,e,true) else (0,0,false)
 | none=>(0,0,false)
theorem QJ(u:Nat){b:List Int}(hb:aq b)(hl:b.length<=1048576)(a:Nat):∀ (m i k v:Nat),i+m=8->m < k->v < 2 ^ (7*i)->∃ r,eV u k b a v i=some r/\vM (M.rd m (i == 0) (b.drop (a+i))) v i (a+i) r:=by
 intro m
 induction m with
 | zero =>
  intro i k v h1 h2 h3;obtain ⟨k,rfl⟩:∃ j,k=j+1:=⟨k - 1,by omega⟩;have e:¬ ((i:Int) < 8):=by omega
  refine ⟨(0,0,false),?_,rfl⟩;unfold eV pp;simp only [e,decide_false,cond_false]
 | succ m ih =>
  intro i k v h1 h2 h3;obtain ⟨k,rfl⟩:∃ j,k=j+1:=⟨k - 1,by omega⟩;have e:(i:Int) < 8:=by omega
  unfold eV;simp only [e,decide_true,cond_true];rw [cU (a:=(b.length:Int)) (by omega) (by omega)]
  by_cases ha:a+i < b.length
  ·have e0:¬ ((a:Int)>=(b.length:Int) - (i:Int)):=by omega
   rw [Pn ha,cd (a:=(a:Int)) (by omega) (by omega),show (a:Int)+(i:Int)=((a+i:Nat):Int) by omega,cM,tw ha];have hc:=hb b[a+i] (zXv ha);obtain ⟨e1,e2⟩:=TY (i:=i) (by omega) h3 hc.1 hc.2;simp only [e0,decide_false,cond_false,wk];rw [e1,lG (by omega) (by omega),bu (by omega),eH (by omega) (by omega),cd (a:=((a+i:Nat):Int)) (by omega) (by omega),cu (by omega)];simp only [wk,M.rd]
   by_cases hc1:b[a+i] < 128
   ·simp only [hc1,decide_true,cond_true,if_true];have hv:((v+(b[a+i] % 128).toNat*2 ^ (7*i):Nat):Int)=(v:Int)+b[a+i]*2 ^ (7*i):=by
     have:((v+(b[a+i] % 128).toNat*2 ^ (7*i):Nat):Int)=(v:Int)+(((b[a+i] % 128).toNat:Nat):Int)*2 ^ (7*i):=by simp
     rw [this,show (((b[a+i] % 128).toNat:Nat):Int)=b[a+i] by omega]
    rw [hv]
    by_cases hc2:0 < b[a+i]
    ·have hc3:b[a+i] > 0:=hc2;simp only [hc2,hc3,decide_true,cond_true,Bool.or_true,if_true,vM];refine ⟨_,rfl,Prod.ext rfl (Prod.ext ?_ rfl)⟩;dsimp only; omega
    ·have hc3:¬ b[a+i] > 0:=hc2;simp only [hc2,hc3,decide_false,cond_false,Bool.or_false];refine ⟨_,rfl,?_⟩
     by_cases h0:i=0
     ·subst h0; simp [vM]
     ·have e4:(i == 0)=false:=by simpa using h0
      simp only [e4,zQz,if_false,vM];simp; omega
   ·simp only [hc1,decide_false,cond_false,if_false];obtain ⟨r,g1,g2⟩:=ih (i+1) k _ (by omega) (by omega) e2;refine ⟨r,g1,QI (x:=(b[a+i] % 128).toNat) (by omega) ?_⟩;rw [show (i+1 == 0)=false by rfl] at g2;exact g2
  ·have e0:(a:Int)>=(b.length:Int) - (i:Int):=by omega
   simp only [e0,decide_true,cond_true];rw [zYX (by omega)];exact ⟨(0,0,false),rfl,rfl⟩
theorem Ho{u:Nat}(hu:1099511627776<=u){b:List Int}(hb:aq b)(hl:b.length<=1048576){a:Int}(ha:0<=a):∃ r,qj u b a=some r/\(match vj 8 b a with | some (v,e)=>r=(v,e,true) | none=>r.2.2=false):=by
 unfold qj vj;obtain ⟨a,rfl⟩:=zQZ ha;obtain ⟨r,g1,g2⟩:=QJ u hb hl a 8 0 u 0 (by omega) (by omega) (by simp);refine ⟨r,g1,?_⟩;rw [if_pos ha,r0];rw [zXk] at g2;unfold vM at g2
 cases hr:M.rd 8 true (b.drop a) with
 | none=>rw [show ((0 == 0:Bool))=true by rfl,hr] at g2; exact g2
 | some q=>obtain ⟨w,j⟩:=q; rw [show ((0 == 0:Bool))=true by rfl,hr] at g2; simpa using g2
def Po(o:Option (Int×Nat))(v i a:Nat):Int×Int×Bool:=match o with
 | some (w,j)=>if (v:Int)+w*2 ^ (7*i)<=1000000000000 then ((v:Int)+w*2 ^ (7*i),((a+j:Nat):Int),true) else (0,0,false)
 | none=>(0,0,false)
theorem UU(o:Option (Int×Nat))(v i a x:Nat)(c:Int)(hx:(x:Int)=c - 128):Po (KT c o) v i a=Po o (v+x*2 ^ (7*i)) (i+1) (a+1):=by
 cases o with
 | none=>rfl
 | some q =>
  obtain ⟨w,j⟩:=q;unfold Po KT;dsimp only;have e:(v:Int)+(w*128+(c - 128))*2 ^ (7*i)=((v+x*2 ^ (7*i):Nat):Int)+w*2 ^ (7*(i+1)):=by
   rw [show 7*(i+1)=7*i+7 by omega,Int.pow_add,<- hx];have:((v+x*2 ^ (7*i):Nat):Int)=(v:Int)+(x:Int)*2 ^ (7*i):=by simp
   rw [this];generalize (2:Int) ^ (7*i)=p;rw [show (2:Int) ^ 7=128 by rfl,zZv,Int.mul_assoc w 128 p,zZk p 128];omega
  rw [e,show a+(j+1)=a+1+j by omega]
theorem L1(u:Nat){b:List Int}(hb:aq b)(hl:b.length<=1048576)(a:Nat):∀ (m i k v:Nat),i+m=6->m < k->v < 2 ^ (7*i)->dd u k b a v i=some (Po (M.rd m (i == 0) (b.drop (a+i))) v i (a+i)):=by
 intro m
 induction m with
 | zero =>
  intro i k v h1 h2 h3;obtain ⟨k,rfl⟩:∃ j,k=j+1:=⟨k - 1,by omega⟩;have e:¬ ((i:Int) < 6):=by omega
  unfold dd sg;simp only [e,decide_false,cond_false]; rfl
 | succ m ih =>
  intro i k v h1 h2 h3;obtain ⟨k,rfl⟩:∃ j,k=j+1:=⟨k - 1,by omega⟩;have e:(i:Int) < 6:=by omega
  have en:¬ ((a:Int) < 0):=by omega
  unfold dd kx;simp only [e,en,decide_true,decide_false,cond_true,cond_false];rw [cU (a:=(b.length:Int)) (by omega) (by omega)]
  by_cases ha:a+i < b.length
  ·have e0:¬ ((a:Int)>=(b.length:Int) - (i:Int)):=by omega
   rw [Pn ha,cd (a:=(a:Int)) (by omega) (by omega),show (a:Int)+(i:Int)=((a+i:Nat):Int) by omega,cM,tw ha];have hc:=hb b[a+i] (zXv ha);obtain ⟨e1,e2⟩:=TY (i:=i) (by omega) h3 hc.1 hc.2;simp only [e0,decide_false,cond_false,wk];unfold oE;rw [e1,lG (by omega) (by omega),bu (by omega),eH (by omega) (by omega),cd (a:=(a:Int)) (b:=(i:Int)) (by omega) (by omega),cd (a:=(a:Int)+(i:Int)) (by omega) (by omega),cu (by omega)];simp only [wk,M.rd]
   by_cases hc1:b[a+i] < 128
   ·simp only [hc1,decide_true,cond_true,if_true];have hv:((v+(b[a+i] % 128).toNat*2 ^ (7*i):Nat):Int)=(v:Int)+b[a+i]*2 ^ (7*i):=by
     have:((v+(b[a+i] % 128).toNat*2 ^ (7*i):Nat):Int)=(v:Int)+(((b[a+i] % 128).toNat:Nat):Int)*2 ^ (7*i):=by simp
     rw [this,show (((b[a+i] % 128).toNat:Nat):Int)=b[a+i] by omega]
    rw [hv];have hgt:∀ x:Int,decide (x > 1000000000000)=!decide (x<=1000000000000):=λx=>by rw [<- decide_not,decide_eq_decide]; omega
    have hs:((a:Int)+(i:Int)+1)=((a+i+1:Nat):Int):=by omega
    rw [hs]
    by_cases hc2:b[a+i]=0
    ·have e5:¬ (0 < b[a+i]):=by omega
     have e6:(b[a+i] == 0)=true:=by simpa using hc2
     by_cases h0:i=0
     ·subst h0;have hv0:v=0:=by simpa using h3
      subst hv0;simp only [e6,cond_true,hgt,Po];rw [hc2];rfl
     ·have e4:(i == 0)=false:=by simpa using h0
      have e7:(i:Int) > 0:=by omega
      simp only [e4,e5,e6,e7,decide_true,decide_false,cond_true,Bool.or_false,zQz,if_false,Po]
    ·have e5:0 < b[a+i]:=by omega
     have e6:(b[a+i] == 0)=false:=by simpa using hc2
     simp only [e5,e6,decide_true,cond_false,Bool.or_true,if_true,hgt,Po]
     by_cases hq:(v:Int)+b[a+i]*2 ^ (7*i)<=1000000000000
     ·simp [hq]
     ·simp [hq]
   ·simp only [hc1,decide_false,cond_false,if_false];rw [ih (i+1) k _ (by omega) (by omega) e2,show (i+1 == 0)=false by rfl,UU _ v i (a+i) (b[a+i] % 128).toNat _ (by omega)];rfl
  ·have e0:(a:Int)>=(b.length:Int) - (i:Int):=by omega
   simp only [e0,decide_true,cond_true];rw [zYX (by omega)]; rfl
theorem iX{u:Nat}(hu:1099511627776<=u){b:List Int}(hb:aq b)(hl:b.length<=1048576)(a:Int):fi u b a=some (bH b a):=by
 unfold fi bH vj
 by_cases ha:0<=a
 ·obtain ⟨a,rfl⟩:=zQZ ha;have h:=L1 u hb hl a 6 0 u 0 (by omega) (by omega) (by simp);rw [zXk] at h;rw [show dd u u b (a:Int) 0 0=_ from h,if_pos ha,r0,show (0 == 0:Bool)=true by rfl];unfold Po
  cases M.rd 6 true (b.drop a) with
  | none=>rfl
  | some q=>obtain ⟨w,j⟩:=q; simp
 ·obtain ⟨u,rfl⟩:∃ j,u=j+1:=⟨u - 1,by omega⟩;rw [if_neg ha];unfold dd kx;have e:a < 0:=by omega
  simp [e]
theorem CM{α:Type}(b:List α)(a j:Nat):b.take (a+j)=b.take a++(b.drop a).take j:=List.take_add
theorem E7{n:Nat}{b:List Int}{a v e:Int}(hb:aq b)(h:vj n b a=some (v,e))(hn:n<=10):0<=a/\a < e/\e<=b.length/\0<=v/\v < 128 ^ n/\b.take e.toNat=b.take a.toNat++gc 9 v:=by
 unfold vj at h
 by_cases ha:0<=a
 ·rw [if_pos ha] at h
  cases hr:M.rd n true (b.drop a.toNat) with
  | none=>rw [hr] at h; cases h
  | some q =>
   obtain ⟨w,j⟩:=q;rw [hr] at h;simp only [Option.some.injEq,Prod.mk.injEq] at h;obtain ⟨rfl,rfl⟩:=h;obtain ⟨h1,h2,h3,h4,h5,h6⟩:=VP n true _ w j (λx hx=>hb x (zXX hx)) hr;rw [zYx] at h3;refine ⟨ha,by omega,by omega,h1,h5,?_⟩;rw [show (a+(j:Int)).toNat=a.toNat+j by omega,CM,h6 9 (by omega)]
 ·rw [if_neg ha] at h; cases h
theorem dU{b:List Int}{a v e:Int}(hb:aq b)(h:bH b a=(v,e,true)):0<=a/\a < e/\e<=b.length/\0<=v/\v<=1000000000000/\b.take e.toNat=b.take a.toNat++gc 9 v:=by
 unfold bH at h
 cases hr:vj 6 b a with
 | none=>rw [hr] at h; cases h
 | some q =>
  obtain ⟨w,e'⟩:=q;rw [hr] at h;dsimp only at h
  split at h
  ·simp only [Prod.mk.injEq,and_true] at h;obtain ⟨rfl,rfl⟩:=h;have:=E7 hb hr (by omega);exact ⟨this.1,this.2.1,this.2.2.1,this.2.2.2.1,by assumption,this.2.2.2.2.2⟩
  ·cases h
theorem cN(b:List Int)(a:Int):(∃ v e,bH b a=(v,e,true))\/bH b a=(0,0,false):=by
 unfold bH
 split
 ·split
  ·exact .inl ⟨_,_,rfl⟩
  ·exact .inr rfl
 ·exact .inr rfl
theorem QK{p:List Int}{n:Int}(t:List Int)(h0:0<=n)(h1:n<=1000000000000):bH (p++gc 9 n++t) p.length=(n,((p.length+(gc 9 n).length:Nat):Int),true):=by
 unfold bH vj;rw [if_pos (by omega),r0,zQk,List.drop_left,VQ 6 9 true n t (by omega) h0 (λh=>by cases h) (by rw [show (128:Int) ^ 6=4398046511104 by decide]; omega) (by omega)];simp [h1]
def vZ(m:ag):Bool:=(m.aS == 0) && (m.aw == 0) && (m.aY == 0) && (m.aC.length == 0)
theorem NE(m:ag):vX m ⟨0,0,0,[]⟩=vZ m:=by
 unfold vX vZ M.same
 cases h:m.aC with
 | nil=>simp [zP]
 | cons s l=>simp
def tv(m:fz):Bool :=
 if m.bK=1 then (m.aS == 0) && (m.aD.aS != 0) && cV m.aD && ((m.ck == 0) && (m.cq == 0) && (m.fI == 0) && (m.fB.length == 0))
 else if m.bK=2 then am m.aS 0 1000000 && vZ m.aD && ct m.ck && ct m.cq && (m.fI == 0) && (m.fB.length == 0)
 else if m.bK=3 then am m.aS 1 1000000 && vZ m.aD && (m.ck == 0) && (m.cq == 0) && am m.fI 0 39 && am m.fB.length 1 6
 else if m.bK=4 then am m.aS 0 1000000 && vZ m.aD && ((m.ck == 0) && (m.cq == 0) && (m.fI == 0) && (m.fB.length == 0))
 else false
theorem ye{u:Nat}(hu:1099511627776<=u){m:fz}(hs:m.aD.aC.length<=1048576):tG u m=some (tv m):=by
 unfold tG tv nR;simp only [AA hu hs,NE,fL hu m.aD (show m.aD.aC.length<=1073741824 by omega),eR,bC,wk];rw [show ((m.fB.length:Int) == 0)=(m.fB.length == 0) from RI _ 0];generalize cV m.aD=x1;generalize vZ m.aD=x2;generalize ct m.ck=x3;generalize ct m.cq=x4;generalize am m.aS 0 1000000=x5;generalize am m.aS 1 1000000=x6;generalize am m.fI 0 39=x7;generalize am m.fB.length 1 6=x8;generalize (m.fB.length == 0)=x9;generalize (m.aD.aS != 0)=x10;generalize (m.aS == 0)=x11;generalize (m.ck == 0)=x12;generalize (m.cq == 0)=x13;generalize (m.fI == 0)=x14
 by_cases h1:m.bK=1
 ·simp only [h1,beq_self_eq_true,cond_true,if_true]
  cases x1 <;> cases x10 <;> cases x11 <;> cases x12 <;> cases x13 <;> cases x14 <;> cases x9 <;> rfl
 ·have e1:(m.bK == 1)=false:=by simpa using h1
  by_cases h2:m.bK=2
  ·simp only [h2,e1,beq_self_eq_true,cond_true,if_true]
   cases x5 <;> cases x2 <;> cases x3 <;> cases x4 <;> cases x14 <;> cases x9 <;> cases x12 <;> cases x13 <;> rfl
  ·have e2:(m.bK == 2)=false:=by simpa using h2
   by_cases h3:m.bK=3
   ·simp only [h3,beq_self_eq_true,cond_true,if_true]
    cases x6 <;> cases x2 <;> cases x12 <;> cases x13 <;> cases x7 <;> cases x8 <;> cases x14 <;> cases x9 <;> rfl
   ·have e3:(m.bK == 3)=false:=by simpa using h3
    by_cases h4:m.bK=4
    ·simp only [h4,beq_self_eq_true,cond_true,if_true]
     cases x5 <;> cases x2 <;> cases x12 <;> cases x13 <;> cases x14 <;> cases x9 <;> rfl
    ·have e4:(m.bK == 4)=false:=by simpa using h4
     simp only [e1,e2,e3,e4,h1,h2,h3,h4,cond_false,if_false]
     cases x12 <;> cases x13 <;> cases x14 <;> rfl
def ui:ag×Int×Bool:=(⟨0,0,0,[]⟩,0,false)
def n6:Nat->List Int->Int->List cn->Option (List cn×Int)
 | 0,_,a,acc=>some (acc,a)
 | n+1,b,a,acc=>match vj 8 b a with
  | some (v,e)=>if (b9 v).2 then n6 n b e (acc++[du (b9 v).1]) else none
  | none=>none
def tx(g s l:Int):Option (List cn×Int)->ag×Int×Bool
 | some (ss,e)=>if cV ⟨g,s,l,ss⟩ then (⟨g,s,l,ss⟩,e,true) else ui
 | none=>ui
theorem QL(size len:Int):∀ (l:List cn) (i:Nat),mF size len l i=true->∀ s∈l,(b9 s.fS).2=true:=by
 intro l
 induction l with
 | nil=>intro i _ s hs; simp at hs
 | cons x l ih =>
  intro i h s hs;simp only [mF,tj,sY] at h;rcases List.mem_cons.1 hs with rfl | hs
  ·exact h.1.1.1
  ·exact ih (i+1) h.2 s hs
theorem MO{g s l:Int}{ss:List cn}(h:∃ x∈ss,(b9 x.fS).2=false):cV ⟨g,s,l,ss⟩=false:=by
 obtain ⟨x,hx,hb⟩:=h
 cases hm:cV ⟨g,s,l,ss⟩ with
 | false=>rfl
 | true =>
  unfold cV at hm;dsimp only at hm
  split at hm
  ·simp only [sY,beq_iff_eq,List.length_eq_zero_iff] at hm;rw [hm.2] at hx; simp at hx
  ·simp only [sY] at hm;have:=QL _ _ _ _ hm.2 x hx;rw [this] at hb; cases hb
theorem IE{u:Nat}(hu:1099511627776<=u){b:List Int}(hb:aq b)(hl:b.length<=1048576)(r1 r2 r3:Int×Int×Bool):∀ (m i k:Nat) (a:Int) (acc:List cn),i+m=(ce r2.1 r3.1).toNat\/(m=0/\(ce r2.1 r3.1).toNat<=i)->m < k->acc.length+m<=1000->0<=a->(∃ x∈acc,(b9 x.fS).2=false)->cH u k b r1 r2 r3 a i acc=some ui:=by
 have hk:=eu r2.1 r3.1;intro m
 induction m with
 | zero =>
  intro i k a acc h1 h2 h3 h4 h5;obtain ⟨k,rfl⟩:∃ j,k=j+1:=⟨k - 1,by omega⟩;have e:¬ ((i:Int) < ce r2.1 r3.1):=by omega
  unfold cH gK kz;simp only [fJ,wk,e,decide_false,cond_false];rw [fL hu _ (show acc.length<=1073741824 by omega),MO h5]; rfl
 | succ m ih =>
  intro i k a acc h1 h2 h3 h4 h5;obtain ⟨k,rfl⟩:∃ j,k=j+1:=⟨k - 1,by omega⟩;have e:(i:Int) < ce r2.1 r3.1:=by omega
  obtain ⟨r,g1,g2⟩:=Ho hu hb hl h4;unfold cH gK kz;simp only [fJ,wk,e,decide_true,cond_true,g1,vg hu]
  by_cases hg:r1.1 > 0
  ·simp only [hg,decide_true,cond_true]
   cases hr:vj 8 b a with
   | none=>rw [hr] at g2; rw [g2]; rfl
   | some q =>
    obtain ⟨v,e'⟩:=q;rw [hr] at g2;rw [g2];have hv:=xZ v;have hp:=E7 hb hr (by omega);dsimp only;simp only [zQV,cond_false];rw [lQ hu hv.1 (by omega)];simp only [wk];rw [bu (by simp; omega),cu (by omega)];obtain ⟨x,hx,hbx⟩:=h5;exact ih (i+1) k e' _ (by omega) (by omega) (by simp; omega) (by omega) ⟨x,by simp [hx],hbx⟩
  ·simp only [hg,decide_false,cond_false];rw [fL hu _ (show acc.length<=1073741824 by omega),MO h5]; rfl
theorem L2{u:Nat}(hu:1099511627776<=u){b:List Int}(hb:aq b)(hl:b.length<=1048576){r1 r2 r3:Int×Int×Bool}(hg:0 < r1.1):∀ (m i k:Nat) (a:Int) (acc:List cn),i+m=(ce r2.1 r3.1).toNat->m < k->acc.length+m<=1000->0<=a->cH u k b r1 r2 r3 a i acc=some (tx r1.1 r2.1 r3.1 (n6 m b a acc)):=by
 have hk:=eu r2.1 r3.1;intro m
 induction m with
 | zero =>
  intro i k a acc h1 h2 h3 h4;obtain ⟨k,rfl⟩:∃ j,k=j+1:=⟨k - 1,by omega⟩;have e:¬ ((i:Int) < ce r2.1 r3.1):=by omega
  unfold cH gK kz;simp only [fJ,wk,e,decide_false,cond_false];rw [fL hu _ (show acc.length<=1073741824 by omega)];simp only [wk,n6,tx,ui]
  cases cV ⟨r1.1,r2.1,r3.1,acc⟩ <;> rfl
 | succ m ih =>
  intro i k a acc h1 h2 h3 h4;obtain ⟨k,rfl⟩:∃ j,k=j+1:=⟨k - 1,by omega⟩;have e:(i:Int) < ce r2.1 r3.1:=by omega
  have hg':r1.1 > 0:=hg;obtain ⟨r,g1,g2⟩:=Ho hu hb hl h4;unfold cH gK;simp only [fJ,wk,e,hg',decide_true,cond_true,g1,vg hu,n6]
  cases hr:vj 8 b a with
  | none=>rw [hr] at g2; rw [g2]; rfl
  | some q =>
   obtain ⟨v,e'⟩:=q;rw [hr] at g2;rw [g2];have hv:=xZ v;have hp:=E7 hb hr (by omega);dsimp only;simp only [zQV,cond_false];rw [lQ hu hv.1 (by omega)];simp only [wk];rw [bu (by simp; omega),cu (by omega)];simp only [wk]
   cases h:(b9 v).2 with
   | false =>
    simp only [zQz,if_false];exact IE hu hb hl r1 r2 r3 m (i+1) k e' _ (by omega) (by omega) (by simp; omega) (by omega) ⟨_,List.mem_append_right _ (List.mem_singleton.2 rfl),h⟩
   | true =>
    simp only [if_true];have hs:du (b9 v).1=⟨(du (b9 v).1).fW,v⟩:=by
     have:=yb (s:=v) (b:=(b9 v).1) (by rw [<- h]);rw [this]
    rw [<- hs];exact ih (i+1) k e' _ (by omega) (by omega) (by simp; omega) (by omega)
theorem GK{u:Nat}(hu:1099511627776<=u)(b:List Int){r1 r2 r3:Int×Int×Bool}(hg:r1.1=0)(k:Nat)(a:Int):cH u (k+1) b r1 r2 r3 a 0 []=some (tx r1.1 r2.1 r3.1 (some ([],a))):=by
 have hg':¬ r1.1 > 0:=by omega
 unfold cH gK kz;simp only [fJ,wk,hg',decide_false];have:∀ c:Bool,(bif c then (gI u ⟨r1.1,r2.1,r3.1,[]⟩).bind λr22=>bif !r22 then some ((⟨0,0,0,[]⟩,0,false):ag×Int×Bool) else some (⟨r1.1,r2.1,r3.1,[]⟩,a,true) else (gI u ⟨r1.1,r2.1,r3.1,[]⟩).bind λr22=>bif !r22 then some ((⟨0,0,0,[]⟩,0,false):ag×Int×Bool) else some (⟨r1.1,r2.1,r3.1,[]⟩,a,true))=some (tx r1.1 r2.1 r3.1 (some ([],a))):=by
  intro c;rw [fL hu _ (show ([]:List cn).length<=1073741824 by simp)];simp only [wk,tx,ui]
  cases c <;> cases cV ⟨r1.1,r2.1,r3.1,[]⟩ <;> rfl
 exact this _
def nK(b:List Int)(a:Int):ag×Int×Bool :=
 let g1:=bH b a
 let g2:=bH b g1.2.1
 let g3:=bH b g2.2.1
 if g1.2.2 && g2.2.2 && g3.2.2 then tx g1.1 g2.1 g3.1 (n6 (ce g2.1 g3.1).toNat b g3.2.1 []) else ui
theorem Hp{s l:Int}{ss:List cn}{e:Int}(h:ce s l≠0):tx 0 s l (some (ss,e))=ui:=by
 unfold tx cV;dsimp only;have hz:¬ (s=0):=by
  intro h0; subst h0
  apply h
  unfold ce dP am;simp
 simp [hz]
theorem KV{u:Nat}(hu:1099511627776<=u){b:List Int}(hb:aq b)(hl:b.length<=1048576)(a:Int):oF u b a=some (nK b a):=by
 unfold oF nK mb;simp only [iX hu hb hl,wk];rcases cN b a with ⟨v1,e1,h1⟩ | h1
 ·rw [h1];rcases cN b e1 with ⟨v2,e2,h2⟩ | h2
  ·dsimp only;rw [h2];rcases cN b e2 with ⟨v3,e3,h3⟩ | h3
   ·dsimp only;rw [h3];have p1:=dU hb h1;have p3:=dU hb h3;have hk:=eu v2 v3;simp only [zQV,cond_false,zYW,if_true]
    by_cases hg:0 < v1
    ·exact L2 hu hb hl (r1:=(v1,e1,true)) (r2:=(v2,e2,true)) (r3:=(v3,e3,true)) hg (ce v2 v3).toNat 0 u e3 [] (by simp) (by omega) (by simp; omega) (by omega)
    ·have h0:v1=0:=by omega
     subst h0;obtain ⟨u',rfl⟩:∃ j,u=j+1:=⟨u - 1,by omega⟩;rw [GK (r1:=(0,e1,true)) (r2:=(v2,e2,true)) (r3:=(v3,e3,true)) hu b rfl u' e3];dsimp only
     by_cases hn:ce v2 v3=0
     ·rw [hn]; rfl
     ·rw [Hp hn]
      cases hs:n6 (ce v2 v3).toNat b e3 [] with
      | none=>rfl
      | some q=>obtain ⟨ss,e⟩:=q; rw [Hp hn]
   ·dsimp only;rw [h3]; rfl
  ·dsimp only;rw [h2]; simp;rfl
 ·rw [h1]; simp;rfl
theorem KW(xs:List Int):(strOfNums xs).toList=xs.map λn=>UInt8.ofNat n.toNat:=by
 rw [ByteArray.toList_eq,strOfNums_data]
theorem VS{a b:Int}(h1:0<=a)(h2:a<=255)(h3:0<=b)(h4:b<=255)(h:UInt8.ofNat a.toNat=UInt8.ofNat b.toNat):a=b:=by
 have:=congrArg UInt8.toNat h;simp only [UInt8.toNat_ofNat'] at this;omega
theorem NF{a b:List Int}(ha:aq a)(hb:aq b):rH a b=decide (a=b):=by
 unfold rH;rw [zYQ,beq_iff_eq,decide_eq_true_eq,KW,KW];constructor
 ·intro h
  revert b
  induction a with
  | nil=>intro b _ h; cases b with
   | nil=>rfl
   | cons y b=>simp at h
  | cons x a ih =>
   intro b hb h
   cases b with
   | nil=>simp at h
   | cons y b =>
    simp only [zWq,List.cons.injEq] at h;have hx:=ha x (by simp);have hy:=hb y (by simp);rw [VS hx.1 hx.2 hy.1 hy.2 h.1,ih (λz hz=>ha z (by simp [hz])) (λz hz=>hb z (by simp [hz])) h.2]
 ·intro h; rw [h]
def t3(b:List Int)(a:Int):List Int×Int×Bool :=
 let g:=bH b a
 if g.2.2 && decide (g.1<=6) && decide (g.1<=b.length - g.2.1) then (M.win b g.2.1.toNat g.1.toNat,g.2.1+g.1,true) else ([],0,false)
theorem IF{u:Nat}(hu:1099511627776<=u){b:List Int}(hb:aq b)(hl:b.length<=1048576)(a:Int):mX u b a 6=some (t3 b a):=by
 unfold mX t3 kV;simp only [iX hu hb hl,wk];rcases cN b a with ⟨v,e,h⟩ | h
 ·rw [h];have p:=dU hb h;dsimp only
  by_cases h6:v<=6
  ·have h7:¬ v > 6:=by omega
   simp only [h6,h7,decide_true,decide_false,zQV,cond_false,zWx];obtain ⟨v,rfl⟩:=zQZ p.2.2.2.1;obtain ⟨e,rfl⟩:=zQZ (show 0<=e by omega);rw [cU (by omega) (by omega)]
   by_cases hv:(v:Int)<=(b.length:Int) - (e:Int)
   ·have hv':¬ ((v:Int) > (b.length:Int) - (e:Int)):=by omega
    simp only [hv,hv',decide_true,decide_false,cond_false,if_true];rw [mG (by omega),fk (by omega) (by omega),bu (by simp; omega)];simp only [wk,r0,zQy];rw [show ((e+v:Nat):Int)=(e:Int)+(v:Int) by omega]; rfl
   ·have hv':(v:Int) > (b.length:Int) - (e:Int):=by omega
    simp [hv,hv']
  ·have h7:v > 6:=by omega
   simp [h6,h7]
 ·rw [h]; simp
theorem Pp{b p:List Int}{a e:Int}(hb:aq b)(h:t3 b a=(p,e,true)):0<=a/\a < e/\e<=b.length/\aq p/\p.length<=6/\b.take e.toNat=(b.take a.toNat++gc 9 p.length)++p:=by
 unfold t3 at h;rcases cN b a with ⟨v,e',g⟩ | g
 ·rw [g] at h;have q:=dU hb g;dsimp only at h
  split at h
  ·rename_i hc;simp only [zWx,sY,decide_eq_true_eq] at hc;simp only [Prod.mk.injEq,and_true] at h;obtain ⟨rfl,rfl⟩:=h;obtain ⟨v,rfl⟩:=zQZ q.2.2.2.1;obtain ⟨e',rfl⟩:=zQZ (show 0<=e' by omega);simp only [r0] at q ⊢;have hw:(M.win b e' v).length=v:=by unfold M.win; rw [zYx,zQh]; omega
   refine ⟨q.1,by omega,by omega,mT hb _ _,by omega,?_⟩;rw [show ((e':Int)+(v:Int)).toNat=e'+v by omega,CM,q.2.2.2.2.2,hw,KB]
  ·cases h
 ·rw [g] at h; cases h
def uM(c:List Int)(s:Int):List Int:=aZ (aZ c (gE .i64 s 1048575)) (rJ .i64 s 20)
def gU(m:fz):List Int :=
 if m.bK=1 then tl (aZ [] m.bK) m.aD
 else if m.bK=2 then uM (uM (aZ (aZ [] m.bK) m.aS) m.ck) m.cq
 else if m.bK=3 then aZ (aZ (aZ (aZ [] m.bK) m.aS) m.fI) m.fB.length++m.fB
 else if m.bK=4 then aZ (aZ [] m.bK) m.aS
 else aZ [] m.bK
def iY(m:fz):List Int:=if tv m then aZ (gU m) (cr (gU m)) else []
structure M.MsgWf (m:fz):Prop where
 sums:m.aD.aC.length<=1048576
 wf:pP m.aD
 b:aq m.fB
 len:m.fB.length<=1048576
theorem f0{b:List Int}(h:aq b)(n:Int):aq (aZ b n):=by
 unfold aZ
 split
 ·exact xG h (MK 9 n)
 ·exact h
theorem L3:∀ (l:List cn) (b:List Int),aq b->aq (nZ b l):=by
 intro l
 induction l with
 | nil=>intro b h; exact h
 | cons s l ih=>intro b h; exact ih _ (xG h (MK 9 s.fS))
theorem NG{b:List Int}(h:aq b)(m:ag):aq (tl b m):=by
 unfold tl
 split
 ·exact L3 _ _ (f0 (f0 (f0 h _) _) _)
 ·exact h
theorem CN(b:List Int)(m:ag):(tl b m).length<=b.length+430:=by
 unfold tl
 split
 ·rename_i h;have h0:=vW h;have h1:=bN b m.aS;have h2:=bN (aZ b m.aS) m.aw;have h3:=bN (aZ (aZ b m.aS) m.aw) m.aY;have h4:=KJ m.aC (aZ (aZ (aZ b m.aS) m.aw) m.aY);omega
 ·omega
theorem jf:aq []:=λx hx=>by simp at hx
theorem KX{m:fz}(hm:M.MsgWf m):aq (gU m)/\(gU m).length<=1049600:=by
 have k:=bN [] m.bK;have kb:=f0 jf m.bK;have g:=bN (aZ [] m.bK) m.aS;have gb:=f0 kb m.aS;simp only [zXw] at k;unfold gU uM
 split
 ·exact ⟨NG kb _,by have:=CN (aZ [] m.bK) m.aD; omega⟩
 ·split
  ·refine ⟨f0 (f0 (f0 (f0 gb _) _) _) _,?_⟩;have h1:=bN (aZ (aZ [] m.bK) m.aS) (gE .i64 m.ck 1048575);have h2:=bN (aZ (aZ (aZ [] m.bK) m.aS) (gE .i64 m.ck 1048575)) (rJ .i64 m.ck 20);have h3:=bN (aZ (aZ (aZ (aZ [] m.bK) m.aS) (gE .i64 m.ck 1048575)) (rJ .i64 m.ck 20)) (gE .i64 m.cq 1048575);have h4:=bN (aZ (aZ (aZ (aZ (aZ [] m.bK) m.aS) (gE .i64 m.ck 1048575)) (rJ .i64 m.ck 20)) (gE .i64 m.cq 1048575)) (rJ .i64 m.cq 20);omega
  ·split
   ·refine ⟨xG (f0 (f0 gb _) _) hm.b,?_⟩;have h1:=bN (aZ (aZ [] m.bK) m.aS) m.fI;have h2:=bN (aZ (aZ (aZ [] m.bK) m.aS) m.fI) m.fB.length;have h3:=hm.len;rw [zQw]; omega
   ·split
    ·exact ⟨gb,by omega⟩
    ·exact ⟨kb,by omega⟩
theorem jg{c:List Int}{n:Int}(h0:0<=n)(h1:n<=1000000000000):aZ c n=c++gc 9 n:=by
 unfold aZ;rw [if_pos (by simp [am]; omega)]
theorem Pq{b:List Int}(hb:aq b):∀ (n:Nat) (a:Int) (acc l:List cn) (e:Int),n6 n b a acc=some (l,e)->0<=a->a<=b.length->∃ l',l=acc++l'/\a<=e/\e<=b.length/\b.take e.toNat=nZ (b.take a.toNat) l'/\∀ s∈l',s.fS<=9223372036854775807:=by
 intro n
 induction n with
 | zero =>
  intro a acc l e h h0 h1;simp only [n6,Option.some.injEq,Prod.mk.injEq] at h;obtain ⟨rfl,rfl⟩:=h;exact ⟨[],by simp,by omega,h1,rfl,by simp⟩
 | succ n ih =>
  intro a acc l e h h0 h1;unfold n6 at h
  cases hr:vj 8 b a with
  | none=>rw [hr] at h; cases h
  | some q =>
   obtain ⟨v,e1⟩:=q;rw [hr] at h;dsimp only at h;have p:=E7 hb hr (by omega)
   split at h
   ·rename_i hv;obtain ⟨l',g1,g2,g3,g4,g5⟩:=ih e1 _ l e h (by omega) p.2.2.1;have hs:(du (b9 v).1).fS=v:=by
     have:=yb (s:=v) (b:=(b9 v).1) (by rw [<- hv]);rw [this]
    have hp:(128:Int) ^ 8=72057594037927936:=by decide
    refine ⟨du (b9 v).1 :: l',by rw [g1]; simp,by omega,g3,?_,?_⟩
    ·rw [g4,p.2.2.2.2.2,nZ,hs]
    ·intro s hs';rcases List.mem_cons.1 hs' with rfl | hs'
     ·rw [hs]; omega
     ·exact g5 s hs'
   ·cases h
theorem QM{b:List Int}(hb:aq b){a e:Int}{m:ag}(h:nK b a=(m,e,true)):0<=a/\a<=e/\e<=b.length/\cV m=true/\pP m/\b.take e.toNat=tl (b.take a.toNat) m:=by
 unfold nK at h;rcases cN b a with ⟨v1,e1,h1⟩ | h1
 ·rw [h1] at h;dsimp only at h;rcases cN b e1 with ⟨v2,e2,h2⟩ | h2
  ·rw [h2] at h;dsimp only at h;rcases cN b e2 with ⟨v3,e3,h3⟩ | h3
   ·rw [h3] at h;simp only [zYW,if_true] at h;have p1:=dU hb h1;have p2:=dU hb h2;have p3:=dU hb h3
    cases hs:n6 (ce v2 v3).toNat b e3 [] with
    | none=>rw [hs] at h; cases h
    | some q =>
     obtain ⟨ss,e'⟩:=q;rw [hs] at h;unfold tx at h;dsimp only at h
     split at h
     ·rename_i hm;simp only [Prod.mk.injEq,and_true] at h;obtain ⟨rfl,rfl⟩:=h;obtain ⟨l',g1,g2,g3,g4,g5⟩:=Pq hb _ e3 [] ss e' hs (by omega) p3.2.2.1;rw [zQy] at g1;subst g1;refine ⟨p1.1,by omega,g3,hm,g5,?_⟩;unfold tl;rw [if_pos hm,jg p1.2.2.2.1 p1.2.2.2.2.1,jg p2.2.2.2.1 p2.2.2.2.2.1,jg p3.2.2.2.1 p3.2.2.2.2.1,g4,p3.2.2.2.2.2,p2.2.2.2.2.2,p1.2.2.2.2.2]
     ·cases h
   ·rw [h3] at h; simp [ui] at h
  ·rw [h2] at h; simp [ui] at h
 ·rw [h1] at h; simp [ui] at h
def vD(n:Int):Bool:=decide (n < 1048576)
def IG:ag:=⟨0,0,0,[]⟩
def y0(b:List Int)(a:Int):Option (fz×Int) :=
 let g0:=bH b a
 let g1:=bH b g0.2.1
 let g2:=bH b g1.2.1
 let g3:=bH b g2.2.1
 let g4:=bH b g3.2.1
 if g0.2.2 && ((g1.2.2 && vD g1.1) && ((g2.2.2 && vD g2.1) && ((g3.2.2 && vD g3.1) && (g4.2.2 && vD g4.1)))) then some (⟨2,g0.1,IG,g1.1+g2.1*1048576,g3.1+g4.1*1048576,0,[]⟩,g4.2.1) else none
def BB(b:List Int)(a:Int):Option (fz×Int) :=
 let g0:=bH b a
 let g1:=bH b g0.2.1
 let g2:=t3 b g1.2.1
 if g0.2.2 && g1.2.2 && g2.2.2 then some (⟨3,g0.1,IG,0,0,g1.1,g2.1⟩,g2.2.1) else none
theorem uj{b:List Int}(hb:aq b)(a:Int):0<=(bH b a).1:=by
 rcases cN b a with ⟨v,e,h⟩ | h
 ·rw [h]; exact (dU hb h).2.2.2.1
 ·rw [h]; exact Int.le_refl 0
theorem TZ{u:Nat}(hu:1099511627776<=u){b:List Int}(hb:aq b)(hl:b.length<=1048576)(k:Nat)(a:Int)(acc:List Int)(i:Nat)(hi:i < 4)(hacc:acc.length<=4)(p2:Int)(r2:Int×Int×Bool) :
  ci u (k+1) b a acc i p2 r2=if (bH b a).2.2 && vD (bH b a).1 then ci u k b (bH b a).2.1 (acc++[(bH b a).1]) ((i+1:Nat):Int) p2 r2 else some (⟨p2,r2.1,IG,0,0,0,[]⟩,0,false):=by
 have e:(i:Int) < 4:=by omega
 rw [ci];simp only [e,decide_true,cond_true,iX hu hb hl,wk];unfold jt vD;rw [bu (by simp; omega),cu (by omega)]
 cases h:(bH b a).2.2 with
 | false=>rfl
 | true =>
  by_cases hq:(bH b a).1 < 1048576
  ·have hq':¬ (bH b a).1>=1048576:=by omega
   simp [hq,hq']
  ·have hq':(bH b a).1>=1048576:=by omega
   simp [hq,hq',IG]
theorem Jb{x y:Int}(h1:0<=x)(h2:x < 1048576)(h3:0<=y)(h4:y < 1048576):aQ .i64 x (iT .i64 y 20)=x+y*1048576/\vL .i64 x (iT .i64 y 20)=x+y*1048576/\gE .i64 (x+y*1048576) 1048575=x/\rJ .i64 (x+y*1048576) 20=y:=by
 obtain ⟨a,rfl⟩:=zQZ h1;obtain ⟨c,rfl⟩:=zQZ h3;have hp:(2:Nat) ^ 20=1048576:=by decide
 have e:=KU (a:=c) (n:=20) (by omega) (by rw [hp]; omega);rw [hp] at e;rw [show ((20:Nat):Int)=20 by rfl] at e;rw [e];refine ⟨by rw [cd (by omega) (by omega)]; omega,?_,?_,?_⟩
 ·have h:=TX (v:=a) (a:=c) (n:=20) (by rw [hp]; omega);rw [hp] at h;rw [B0 (by omega) (by omega),h]; omega
 ·rw [show (a:Int)+(c:Int)*1048576=((a+c*1048576:Nat):Int) by omega,show (1048575:Int)=((1048575:Nat):Int) by rfl,Pb (by omega) (by omega),show (1048575:Nat)=2 ^ 20 - 1 by decide,zZY,hp]; omega
 ·rw [show (a:Int)+(c:Int)*1048576=((a+c*1048576:Nat):Int) by omega,show (20:Int)=((20:Nat):Int) by rfl,Pc (by omega),hp]; omega
theorem QN{u:Nat}(hu:1099511627776<=u){b:List Int}(hb:aq b)(hl:b.length<=1048576)(a:Int):∃ r,dT u b a 2=some r/\(match y0 b a with | some (m,e)=>r=(m,e,true) | none=>r.2.2=false):=by
 obtain ⟨u',hu'⟩:∃ j,u=j+5:=⟨u - 5,by omega⟩;unfold dT y0;rw [show ((2:Int) == 1)=false by rfl,show ((2:Int) == 2)=true by rfl];simp only [cond_false,cond_true,iX hu hb hl,wk]
 cases h0:(bH b a).2.2 with
 | false=>exact ⟨_,rfl,rfl⟩
 | true =>
  simp only [zQV,cond_false,zWx];have st:∀ (k:Nat) (a:Int) (acc:List Int) (i:Nat),i < 4->acc.length<=4->∀ r2:Int×Int×Bool,ci u (k+1) b a acc i 2 r2=if (bH b a).2.2 && vD (bH b a).1 then ci u k b (bH b a).2.1 (acc++[(bH b a).1]) ((i+1:Nat):Int) 2 r2 else some (⟨2,r2.1,IG,0,0,0,[]⟩,0,false):=λk a acc i h1 h2 r2=>TZ hu hb hl k a acc i h1 h2 2 r2
  generalize hv:bH b a=g0;rw [show ci u u b g0.2.1 [] 0 2 g0=ci u (u'+4+1) b g0.2.1 [] ((0:Nat):Int) 2 g0 by rw [<- hu']; rfl,st _ _ _ 0 (by omega) (by simp)]
  cases h1:((bH b g0.2.1).2.2 && vD (bH b g0.2.1).1) with
  | false=>exact ⟨_,rfl,rfl⟩
  | true =>
   simp only [if_true,zWx,zQy];rw [show u'+4=u'+3+1 by omega,st _ _ _ 1 (by omega) (by simp)];generalize hv1:bH b g0.2.1=g1
   cases h2:((bH b g1.2.1).2.2 && vD (bH b g1.2.1).1) with
   | false=>exact ⟨_,rfl,rfl⟩
   | true =>
    simp only [if_true,zWx];rw [show u'+3=u'+2+1 by omega,st _ _ _ 2 (by omega) (by simp)];generalize hv2:bH b g1.2.1=g2
    cases h3:((bH b g2.2.1).2.2 && vD (bH b g2.2.1).1) with
    | false=>exact ⟨_,rfl,rfl⟩
    | true =>
     simp only [if_true,zWx];rw [show u'+2=u'+1+1 by omega,st _ _ _ 3 (by omega) (by simp)];generalize hv3:bH b g2.2.1=g3
     cases h4:((bH b g3.2.1).2.2 && vD (bH b g3.2.1).1) with
     | false=>exact ⟨_,rfl,rfl⟩
     | true =>
      simp only [if_true];rw [ci];have e:¬ (((3+1:Nat):Int) < 4):=by omega
      simp only [e,decide_false,cond_false];unfold nw nv;rw [show (0:Int)=((0:Nat):Int) by rfl,show (1:Int)=((1:Nat):Int) by rfl,show (2:Int)=((2:Nat):Int) by rfl,show (3:Int)=((3:Nat):Int) by rfl];simp only [cM,zQy,List.cons_append,zQk,zWV,List.getElem?_cons_succ,wk];refine ⟨_,rfl,?_⟩;have r1:0<=g1.1/\g1.1 < 1048576:=by
       rw [<- hv1]; refine ⟨uj hb _,?_⟩;simp only [sY,vD,decide_eq_true_eq] at h1; exact h1.2
      have r2:0<=g2.1/\g2.1 < 1048576:=by
       rw [<- hv2]; refine ⟨uj hb _,?_⟩;simp only [sY,vD,decide_eq_true_eq] at h2; exact h2.2
      have r3:0<=g3.1/\g3.1 < 1048576:=by
       rw [<- hv3]; refine ⟨uj hb _,?_⟩;simp only [sY,vD,decide_eq_true_eq] at h3; exact h3.2
      have r4:0<=(bH b g3.2.1).1/\(bH b g3.2.1).1 < 1048576:=by
       refine ⟨uj hb _,?_⟩;simp only [sY,vD,decide_eq_true_eq] at h4; exact h4.2
      rw [(Jb r1.1 r1.2 r2.1 r2.2).1,(Jb r3.1 r3.2 r4.1 r4.2).1];rfl
theorem Jc{k:Int}(h0:0<=k)(h1:k<=1000000000000):aZ [] k=gc 9 k:=by rw [jg h0 h1]; rfl
theorem E8(k g w d i:Int){p:List Int}(hp:aq p)(hl:p.length<=1048576):M.MsgWf ⟨k,g,IG,w,d,i,p⟩:=⟨by simp [IG],by intro s hs; simp [IG] at hs,hp,hl⟩
theorem WF{b:List Int}(hb:aq b){a e:Int}{m:fz}(ha:b.take a.toNat=gc 9 2)(h:y0 b a=some (m,e)):M.MsgWf m/\0<=e/\e<=b.length/\gU m=b.take e.toNat:=by
 unfold y0 at h;dsimp only at h
 split at h
 ·rename_i hc;simp only [sY,vD,decide_eq_true_eq] at hc;obtain ⟨k0,⟨k1,l1⟩,⟨k2,l2⟩,⟨k3,l3⟩,k4,l4⟩:=hc;simp only [Option.some.injEq,Prod.mk.injEq] at h;obtain ⟨rfl,rfl⟩:=h;rcases (cN b a).symm with h0 | ⟨v0,e0,h0⟩
  ·simp [h0] at k0
  simp only [h0] at k0 k1 l1 k2 l2 k3 l3 k4 l4 ⊢;rcases (cN b e0).symm with h1 | ⟨v1,e1,h1⟩
  ·simp [h1] at k1
  simp only [h1] at k0 k1 l1 k2 l2 k3 l3 k4 l4 ⊢;rcases (cN b e1).symm with h2 | ⟨v2,e2,h2⟩
  ·simp [h2] at k2
  simp only [h2] at k0 k1 l1 k2 l2 k3 l3 k4 l4 ⊢;rcases (cN b e2).symm with h3 | ⟨v3,e3,h3⟩
  ·simp [h3] at k3
  simp only [h3] at k0 k1 l1 k2 l2 k3 l3 k4 l4 ⊢;rcases (cN b e3).symm with h4 | ⟨v4,e4,h4⟩
  ·simp [h4] at k4
  simp only [h4] at k0 k1 l1 k2 l2 k3 l3 k4 l4 ⊢;have p0:=dU hb h0;have p1:=dU hb h1;have p2:=dU hb h2;have p3:=dU hb h3;have p4:=dU hb h4;have s1:=Jb p1.2.2.2.1 l1 p2.2.2.2.1 l2;have s2:=Jb p3.2.2.2.1 l3 p4.2.2.2.1 l4;refine ⟨E8 _ _ _ _ _ jf (by simp),by omega,p4.2.2.1,?_⟩;show uM (uM (aZ (aZ [] 2) v0) (v1+v2*1048576)) (v3+v4*1048576)=b.take e4.toNat;unfold uM;rw [s1.2.2.1,s1.2.2.2,s2.2.2.1,s2.2.2.2,Jc (by omega) (by omega),jg p0.2.2.2.1 p0.2.2.2.2.1,jg p1.2.2.2.1 p1.2.2.2.2.1,jg p2.2.2.2.1 p2.2.2.2.2.1,jg p3.2.2.2.1 p3.2.2.2.2.1,jg p4.2.2.2.1 p4.2.2.2.2.1];rw [p4.2.2.2.2.2,p3.2.2.2.2.2,p2.2.2.2.2.2,p1.2.2.2.2.2,p0.2.2.2.2.2,ha]
 ·cases h
def zW(r:fz×Int×Bool)(o:Option (fz×Int)):Prop:=match o with
 | some (m,e)=>r=(m,e,true)
 | none=>r.2.2=false\/(r.1.aD.aC.length<=1048576/\tv r.1=false)
def M.puts(b:List Int)(o:Option (fz×Int)):Prop:=∀ m e,o=some (m,e)->M.MsgWf m/\0<=e/\e<=b.length/\gU m=b.take e.toNat
theorem MP{α:Type}(r:α×Int×Bool)(h:r.2.2=true):r=(r.1,r.2.1,true):=by rw [<- h]
def BC(b:List Int)(a:Int):Option (fz×Int):=if (nK b a).2.2 then some (⟨1,0,(nK b a).1,0,0,0,[]⟩,(nK b a).2.1) else none
def BD(b:List Int)(a:Int):Option (fz×Int):=if (bH b a).2.2 then some (⟨4,(bH b a).1,IG,0,0,0,[]⟩,(bH b a).2.1) else none
theorem QO{u:Nat}(hu:1099511627776<=u){b:List Int}(hb:aq b)(hl:b.length<=1048576)(a:Int):∃ r,dT u b a 1=some r/\zW r (BC b a):=by
 refine ⟨(⟨1,0,(nK b a).1,0,0,0,[]⟩,(nK b a).2.1,(nK b a).2.2),?_,?_⟩
 ·unfold dT;rw [KV hu hb hl]; rfl
 ·unfold BC zW
  cases h:(nK b a).2.2 with
  | false=>exact .inl rfl
  | true=>rfl
theorem WG{b:List Int}(hb:aq b){a:Int}(ha:b.take a.toNat=gc 9 1):M.puts b (BC b a):=by
 intro m e h;unfold BC at h
 split at h
 ·rename_i hc;simp only [Option.some.injEq,Prod.mk.injEq] at h;obtain ⟨rfl,rfl⟩:=h;have p:=QM hb (MP _ hc);refine ⟨⟨by have:=vW p.2.2.2.1; show (nK b a).1.aC.length<=_; omega,p.2.2.2.2.1,jf,by simp⟩,by omega,p.2.2.1,?_⟩;rw [p.2.2.2.2.2,ha,<- Jc (by omega) (by omega)];rfl
 ·cases h
theorem QP{u:Nat}(hu:1099511627776<=u){b:List Int}(hb:aq b)(hl:b.length<=1048576)(a:Int):∃ r,dT u b a 3=some r/\zW r (BB b a):=by
 unfold dT BB;rw [show ((3:Int) == 1)=false by rfl,show ((3:Int) == 2)=false by rfl,show ((3:Int) == 3)=true by rfl];simp only [cond_false,cond_true,iX hu hb hl,IF hu hb hl,wk];rcases cN b a with ⟨v0,e0,h0⟩ | h0
 ·rw [h0];dsimp only;rcases cN b e0 with ⟨v1,e1,h1⟩ | h1
  ·rw [h1];dsimp only
   cases h2:(t3 b e1).2.2 with
   | false=>exact ⟨_,rfl,.inl rfl⟩
   | true=>exact ⟨_,rfl,rfl⟩
  ·rw [h1]; exact ⟨_,rfl,.inl rfl⟩
 ·rw [h0]; exact ⟨_,rfl,.inl rfl⟩
theorem WH{b:List Int}(hb:aq b){a:Int}(ha:b.take a.toNat=gc 9 3):M.puts b (BB b a):=by
 intro m e h;unfold BB at h;dsimp only at h
 split at h
 ·rename_i hc;simp only [sY] at hc;obtain ⟨⟨k0,k1⟩,k2⟩:=hc;simp only [Option.some.injEq,Prod.mk.injEq] at h;obtain ⟨rfl,rfl⟩:=h;have p0:=dU hb (MP _ k0);have p1:=dU hb (MP _ k1);have p2:=Pp hb (MP _ k2);generalize bH b a=g0 at *;generalize bH b g0.2.1=g1 at *;generalize t3 b g1.2.1=g2 at *;refine ⟨E8 _ _ _ _ _ p2.2.2.2.1 (by omega),by omega,p2.2.2.1,?_⟩;show aZ (aZ (aZ (aZ [] 3) g0.1) g1.1) g2.1.length++g2.1=b.take g2.2.1.toNat;rw [Jc (by omega) (by omega),jg p0.2.2.2.1 p0.2.2.2.2.1,jg p1.2.2.2.1 p1.2.2.2.2.1,jg (by omega) (by omega),p2.2.2.2.2.2,p1.2.2.2.2.2,p0.2.2.2.2.2,ha]
 ·cases h
theorem QQ{u:Nat}(hu:1099511627776<=u){b:List Int}(hb:aq b)(hl:b.length<=1048576)(a:Int):∃ r,dT u b a 4=some r/\zW r (BD b a):=by
 unfold dT BD;rw [show ((4:Int) == 1)=false by rfl,show ((4:Int) == 2)=false by rfl,show ((4:Int) == 3)=false by rfl];simp only [cond_false,cond_true,iX hu hb hl,wk];rcases cN b a with ⟨v0,e0,h0⟩ | h0
 ·rw [h0]; exact ⟨_,rfl,rfl⟩
 ·rw [h0]; exact ⟨_,rfl,.inl rfl⟩
theorem WI{b:List Int}(hb:aq b){a:Int}(ha:b.take a.toNat=gc 9 4):M.puts b (BD b a):=by
 intro m e h;unfold BD at h
 split at h
 ·rename_i k0;simp only [Option.some.injEq,Prod.mk.injEq] at h;obtain ⟨rfl,rfl⟩:=h;have p0:=dU hb (MP _ k0);generalize bH b a=g0 at *;refine ⟨E8 _ _ _ _ _ jf (by simp),by omega,p0.2.2.1,?_⟩;show aZ (aZ [] 4) g0.1=b.take g0.2.1.toNat;rw [Jc (by omega) (by omega),jg p0.2.2.2.1 p0.2.2.2.2.1,p0.2.2.2.2.2,ha]
 ·cases h
def Dw(b:List Int)(kind a:Int):Option (fz×Int):=if kind=1 then BC b a else if kind=2 then y0 b a else if kind=3 then BB b a else if kind=4 then BD b a else none
theorem KY{m:fz}(h1:m.bK≠1)(h2:m.bK≠2)(h3:m.bK≠3)(h4:m.bK≠4):tv m=false:=by
 unfold tv; rw [if_neg h1,if_neg h2,if_neg h3,if_neg h4]
theorem SF{u:Nat}(hu:1099511627776<=u){b:List Int}(hb:aq b)(hl:b.length<=1048576)(k a:Int):∃ r,dT u b a k=some r/\zW r (Dw b k a):=by
 unfold Dw
 by_cases h1:k=1
 ·subst h1; exact QO hu hb hl a
 ·rw [if_neg h1]
  by_cases h2:k=2
  ·subst h2;obtain ⟨r,g1,g2⟩:=QN hu hb hl a;refine ⟨r,g1,?_⟩;rw [if_pos rfl];unfold zW
   cases hp:y0 b a with
   | none=>rw [hp] at g2; exact .inl g2
   | some q=>rw [hp] at g2; exact g2
  ·rw [if_neg h2]
   by_cases h3:k=3
   ·subst h3; exact QP hu hb hl a
   ·rw [if_neg h3]
    by_cases h4:k=4
    ·subst h4; exact QQ hu hb hl a
    ·rw [if_neg h4];have e1:(k == 1)=false:=by simpa using h1
     have e2:(k == 2)=false:=by simpa using h2
     have e3:(k == 3)=false:=by simpa using h3
     unfold dT;rw [e1,e2,e3];simp only [cond_false,iX hu hb hl,wk];rcases cN b a with ⟨v0,e0,h0⟩ | h0
     ·rw [h0];exact ⟨(⟨k,v0,⟨0,0,0,[]⟩,0,0,0,[]⟩,e0,true),rfl,.inr ⟨by simp,KY h1 h2 h3 h4⟩⟩
     ·rw [h0]; exact ⟨_,rfl,.inl rfl⟩
theorem MQ{b:List Int}(hb:aq b){k a:Int}(ha:b.take a.toNat=gc 9 k):M.puts b (Dw b k a):=by
 unfold Dw
 by_cases h1:k=1
 ·subst h1; exact WG hb ha
 ·rw [if_neg h1]
  by_cases h2:k=2
  ·subst h2; exact λm e h=>WF hb ha h
  ·rw [if_neg h2]
   by_cases h3:k=3
   ·subst h3; exact WH hb ha
   ·rw [if_neg h3]
    by_cases h4:k=4
    ·subst h4; exact WI hb ha
    ·rw [if_neg h4]; intro m e h; cases h
def xJ:fz×Bool:=(⟨0,0,⟨0,0,0,[]⟩,0,0,0,[]⟩,false)
def fd(b:List Int):fz×Bool:=if (bH b 0).2.2 && decide (b.length<=400) then match Dw b (bH b 0).1 (bH b 0).2.1 with
  | some (m,e)=>if tv m && decide (iY m=b) then (m,true) else xJ
  | none=>xJ
 else xJ
theorem E9{m:fz}(h:M.MsgWf m):aq (iY m):=by
 unfold iY
 split
 ·exact f0 (KX h).1 _
 ·exact jf
theorem VT{b:List Int}(hb:aq b){m:fz}{e:Int}(h0:0<=e)(h1:e<=b.length)(hp:gU m=b.take e.toNat)(hm:tv m=true):iY m=b↔bH b e=(cr (b.take e.toNat),(b.length:Int),true):=by
 have hw:=EW (b.take e.toNat);unfold iY;rw [if_pos hm,hp,jg hw.1 (by omega)];have hlen:(b.take e.toNat).length=e.toNat:=by rw [zQh]; omega
 constructor
 ·intro h;have g:=QK (p:=b.take e.toNat) (n:=cr (b.take e.toNat)) [] hw.1 (by omega);rw [zXQ,h,hlen,show ((e.toNat:Nat):Int)=e by omega] at g;rw [g];refine Prod.ext rfl (Prod.ext ?_ rfl);have:=congrArg List.length h;rw [zQw,hlen] at this;dsimp only; omega
 ·intro h;have p:=dU hb h;rw [<- p.2.2.2.2.2,r0,List.take_length]
theorem wO{u:Nat}(hu:1099511627776<=u){b:List Int}(hb:aq b)(hl:b.length<=1048576):jI u b=some (fd b):=by
 unfold jI fd oH oG mc;simp only [iX hu hb hl,wk];rcases cN b 0 with ⟨k,a,h0⟩ | h0
 ·rw [h0];have p:=dU hb h0;have ha:b.take a.toNat=gc 9 k:=by rw [p.2.2.2.2.2]; rfl
  by_cases h4:b.length<=400
  ·have h4':¬ ((b.length:Int) > 400):=by omega
   simp only [h4,h4',decide_true,decide_false,zYW,if_true,zQV,cond_false];obtain ⟨r,g1,g2⟩:=SF hu hb hl k a;rw [g1];simp only [wk]
   cases hr:Dw b k a with
   | none =>
    rw [hr] at g2;rcases g2 with g2 | ⟨g2,g3⟩
    ·rw [g2]; rfl
    ·cases hf:r.2.2 with
     | false=>rfl
     | true =>
      rw [ye hu g2,g3]; rfl
   | some q =>
    obtain ⟨m,e⟩:=q;rw [hr] at g2;have w:=MQ hb ha m e hr;unfold zW at g2;dsimp only at g2;rw [g2];dsimp only;rw [ye hu w.1.sums];simp only [zQV,cond_false,wk]
    cases hm:tv m with
    | false=>rfl
    | true =>
     have hs:=VT hb w.2.1 w.2.2.1 w.2.2.2 hm;obtain ⟨e,rfl⟩:=zQZ w.2.1;simp only [zQV,cond_false,r0] at hs ⊢;rw [show (0:Int)=((0:Nat):Int) by rfl,fk (by omega) (by have:=w.2.2.1; omega)];simp only [wk,r0,List.drop_zero];rw [ti hu (λx hx=>hb x (zWZ hx)) (by rw [zQh]; omega)];simp only [wk];rcases cN b e with ⟨v,e',h5⟩ | h5
     ·rw [h5] at hs ⊢;simp only [zQV,cond_false]
      by_cases he:e'=(b.length:Int)
      ·by_cases hv:v=cr (b.take e)
       ·have:iY m=b:=hs.2 (by rw [he,hv]);simp [he,hv,this]
       ·have:¬ iY m=b:=λh=>hv (by have:=hs.1 h; simp only [Prod.mk.injEq] at this; exact this.1);have hv':(v != cr (b.take e))=true:=by simpa using hv
        simp [he,this,xJ];rw [hv']; rfl
      ·have:¬ iY m=b:=λh=>he (by have:=hs.1 h; simp only [Prod.mk.injEq] at this; exact this.2.1);have he':(e' != (b.length:Int))=true:=by simpa using he
       simp [this,xJ];rw [he']; rfl
     ·rw [h5] at hs ⊢;have:¬ iY m=b:=λh=>by have:=hs.1 h; simp at this
      simp [this,xJ]
  ·have h4':(b.length:Int) > 400:=by omega
   simp [h4,h4',xJ]
 ·rw [h0]; simp [xJ]
theorem Dx{u:Nat}(hu:1099511627776<=u){w:World}(hl:w.bE.length<=1048576)(ev:cG):im u u 0 w ev=some (w.bE.any λp=>rH p.fB ev.fP.fB):=by
 rw [C1 u w ev () u (by omega) (by omega)];have:∀ (l:List ak) (i:Nat),bP (we u w ev) (ro u w ev) l i ()=some (l.any λp=>rH p.fB ev.fP.fB):=by
  intro l
  induction l with
  | nil=>intro i; rfl
  | cons x l ih =>
   intro i;simp only [bP,ro,E2,wk,List.any_cons];rw [ih (i+1)]
   cases rH x.fB ev.fP.fB <;> rfl
 exact this _ 0
theorem T0{u:Nat}(hu:1099511627776<=u){c:aG}(hc:Cu c):Dr (tN u c) (λm=>m.aC.length<=41/\pP m):=by
 unfold tN oD;obtain ⟨b,c1,e1,hb,h1⟩:=KR hu hc;obtain ⟨n,c2,e2,_,h2⟩:=co u h1 5;obtain ⟨s,c3,e3,_,h3⟩:=co u h2 5;have hb1:=hb.1;rw [e1];simp only [wk,e2,e3];rw [uf hu hb.2 (by omega)];simp only [wk];generalize hm:eG (aQ .i64 1 n) b (aQ .i64 2 s)=m;have hl:m.aC.length<=40:=hm ▸ yW _ _ _;have hw:pP m:=hm ▸ KI _ b _ hb.2;refine cc (co u h3 10) λv c4 _ h4=>?_;simp only
 cases v == 0 with
 | true =>
  simp only [cond_true];exact cc (nJ u h4 (by simp)) λx c5 _ h5=>cD ⟨by show m.aC.length<=41; omega,hw⟩ h5
 | false =>
  simp only [cond_false]
  cases v == 1 with
  | true =>
   simp only [cond_true];exact cc (nJ u h4 (by simp)) λx c5 _ h5=>cD ⟨by show m.aC.length<=41; omega,hw⟩ h5
  | false =>
   simp only [cond_false]
   cases v == 2 with
   | true=>exact cD ⟨by show m.aC.length<=41; omega,hw⟩ h4
   | false =>
    simp only [cond_false]
    cases v == 3 with
    | true =>
     simp only [cond_true];rw [bu (by simp; omega)];simp only [wk];refine cD ⟨by show (m.aC++[cn.mk 1 257]).length<=41; simp; omega,λx hx=>?_⟩ h4;rcases List.mem_append.1 hx with h | h
     ·exact hw x h
     ·simp only [zQq] at h;subst h;show (257:Int)<=9223372036854775807;omega
    | false =>
     simp only [cond_false]
     cases v == 4 with
     | false=>exact cD ⟨by show m.aC.length<=41; omega,hw⟩ h4
     | true =>
      simp only [cond_true]
      by_cases hp:(m.aC.length:Int) > 0
      ·simp only [hp,decide_true,cond_true];have hlt:0 < m.aC.length:=by omega
       have e0:c6 m.aC 0=some (m.aC[0]'hlt):=ic m.aC 0 (tw hlt);simp only [e0,wk];refine cD ⟨?_,λx hx=>?_⟩ h4
       ·show (m.aC.set _ _).length<=41;rw [zXZ]; omega
       ·rcases zXG hx with h | h
        ·exact hw x h
        ·subst h;have hq:=hw _ (zXv hlt);exact hq
      ·simp only [hp,decide_false,cond_false];exact cD ⟨by show m.aC.length<=41; omega,hw⟩ h4
theorem Pr:∀ (l:List dA) (d:aA),(zT l d).fP=[]
 | [],d=>rfl
 | p :: l,d=>Pr l _
def kQ{α:Type}(f:α->Nat->Bool):List α->Nat->Bool
 | [],_=>true
 | x :: l,i=>f x i && kQ f l (i+1)
theorem Dy{α:Type}{fin:Unit->Option Bool}{body:α->Nat->Unit->(Unit->Option Bool)->Option Bool}(f:α->Nat->Bool){xs:List α}{b:Bool}(hf:fin ()=some b)(i0:Nat)(hb:∀ x i k,i0<=i->xs[i]?=some x->body x i () k=bif f x i then k () else some false) :
  ∀ (l:List α) (i:Nat),i0<=i->l=xs.drop i->bP fin body l i ()=some (kQ f l i && b):=by
 intro l
 induction l with
 | nil=>intro i _ _; simp [bP,kQ,hf]
 | cons x l ih =>
  intro i h0 h;have hx:xs[i]?=some x:=by
   have:=congrArg zYV h
   simpa [zXW] using this.symm
  have hl:l=xs.drop (i+1):=by
   have:=congrArg zYq h
   simpa [zXK] using this
  simp only [bP,kQ];rw [hb x i _ h0 hx,ih (i+1) (by omega) hl]
  cases f x i <;> simp
def BE(x:Int)(i:Nat):Bool:=if i=0 then x == -1 else am x 0 ((i:Int) - 1)
def iZ(t:cF):Bool:=kQ BE t.cf 0 && am t.cf.length 1 7
theorem wP{u:Nat}(hu:1099511627776<=u){t:cF}(hl:t.cf.length<=1073741824):oA u t=some (iZ t):=by
 unfold oA iZ rL;simp only [bC,wk]
 cases hw:am t.cf.length 1 7 with
 | false=>simp
 | true =>
  have:=bX hw
  match hup:t.cf with
  | []=>rw [hup] at this; simp at this
  | x :: l =>
   have h1:c6 (x :: l) 0=some x:=rfl;simp only [zQV,cond_false,h1,wk,kQ,BE,↓reduceIte,Bool.and_true]
   by_cases hx:x=-1
   ·subst hx;simp only [bne_self_eq_false,cond_false,beq_self_eq_true,zWx];have h:=OJ (fin:=yh u t) (body:=λy i s k=>tB u t y i s k) (xs:=t.cf) (λk s i=>iJ u k i t) (by omega) (λ_ _ _=>rfl) (t.cf.drop 1) u 1 () rfl (by simp; omega);have h2:iJ u u 1 t=some (kQ BE (t.cf.drop 1) 1 && true):=by
     rw [show ((1:Int))=((1:Nat):Int) from rfl,h];refine Dy BE rfl 1 (λy i k h0 hy=>?_) _ 1 (zWj _) rfl;have hi:i < t.cf.length:=(List.getElem?_eq_some_iff.1 hy).1;have e0:i≠0:=by omega
     unfold tB BE;simp (disch:=omega) only [e0,cU,bC,wk,↓reduceIte]
     cases am y 0 ((i:Int) - 1) <;> rfl
    rw [h2,hup];simp
   ·have:(x == -1)=false:=by simpa using hx
    simp [this,bne]
def kJ(up:List Int):Nat->Int->List Int
 | 0,_=>[]
 | n+1,k=>if am k 0 ((up.length:Int) - 1) then k :: kJ up n ((up[k.toNat]?).getD 0) else []
def Fa(t:cF)(k:Int):List Int:=kJ t.cf t.cf.length k
theorem Fb(up:List Int):∀ (n:Nat) (k:Int),(kJ up n k).length<=n
 | 0,_=>by simp [kJ]
 | n+1,k=>by
  unfold kJ
  split
  ·have:=Fb up n ((up[k.toNat]?).getD 0);simp; omega
  ·simp
theorem zX{up:List Int}{k:Int}(h:am k 0 ((up.length:Int) - 1)=true):c6 up k=some ((up[k.toNat]?).getD 0):=by
 have:=bX h;have h1:k.toNat < up.length:=by omega
 simp [c6,this.1,h1]
theorem KZ{u:Nat}(hu:1099511627776<=u){t:cF}(hl:t.cf.length<=1048576)(k:Int):ur u t k=some (Fa t k):=by
 have main:∀ (n f:Nat) (k:Int) (o:List Int),o.length+n=t.cf.length->n < f->gL u f k o t=some (o++kJ t.cf n k):=by
  intro n
  induction n with
  | zero =>
   intro f k o h1 h2;obtain ⟨f,rfl⟩:∃ j,f=j+1:=⟨f - 1,by omega⟩;have e:decide ((o.length:Int) < (t.cf.length:Int))=false:=by simp; omega
   unfold gL oJ sj;simp (disch:=omega) only [cU,bC,wk,e,cond_false,kJ,zXQ]
   cases am k 0 ((t.cf.length:Int) - 1) <;> rfl
  | succ n ih =>
   intro f k o h1 h2;obtain ⟨f,rfl⟩:∃ j,f=j+1:=⟨f - 1,by omega⟩;have e:decide ((o.length:Int) < (t.cf.length:Int))=true:=by simp; omega
   unfold gL oJ sj;simp (disch:=omega) only [cU,bC,wk,e,kJ]
   cases hw:am k 0 ((t.cf.length:Int) - 1) with
   | false=>simp
   | true =>
    have e2:c9 (decide ((o.length+([k]).length)*8<=140737488355328))=some ():=bu (by simp; omega);have e2':c9 (decide ((o.length+([(0:Int)]).length)*8<=140737488355328))=some ():=bu (by simp; omega);simp only [cond_true,zX hw,wk,e2,↓reduceIte];rw [ih f _ (o++[k]) (by simp; omega) (by omega),zQk,List.singleton_append]
 unfold ur Fa;rw [main t.cf.length u k [] (by simp) (by omega),zQy]
def MR(t:cF)(a k:Int):Bool:=(a != k) && (Fa t k).any λy=>y == a
theorem GL{u:Nat}(hu:1099511627776<=u){t:cF}(hl:t.cf.length<=1048576)(a k:Int):ql u t a k=some (MR t a k):=by
 have:=Fb t.cf t.cf.length k;unfold ql MR;rw [KZ hu hl];simp only [wk];rw [KL hu (by unfold Fa; omega)]
 cases a != k <;> rfl
def wQ(t:cF)(k b:Int):Int:=if iZ t && am k 1 ((t.cf.length:Int) - 1) then (if MR t b k && decide (0 < b) then (t.cf[b.toNat]?).getD 0 else (t.cf[k.toNat]?).getD 0) else -1
theorem Hq{up:List Int}:∀ {n:Nat} {k a:Int},a∈kJ up n k->am a 0 ((up.length:Int) - 1)=true
 | 0,_,_,h=>by simp [kJ] at h
 | n+1,k,a,h=>by
  unfold kJ at h
  split at h
  ·rename_i hk;rcases List.mem_cons.1 h with rfl | h
   ·exact hk
   ·exact Hq h
  ·simp at h
theorem T1{t:cF}{a k:Int}(h:MR t a k=true):am a 0 ((t.cf.length:Int) - 1)=true:=by
 unfold MR at h;simp only [sY,List.any_eq_true,beq_iff_eq] at h;obtain ⟨_,y,hy,rfl⟩:=h;exact Hq hy
theorem GM{u:Nat}(hu:1099511627776<=u){t:cF}(hl:t.cf.length<=1048576)(k b:Int):qm u t k b=some (wQ t k b):=by
 unfold qm pt pr wQ;simp (disch:=omega) only [wP hu (show t.cf.length<=1073741824 by omega),bC,cU,GL hu hl,wk]
 cases iZ t with
 | false=>rfl
 | true =>
  cases hw:am k 1 ((t.cf.length:Int) - 1) with
  | false=>rfl
  | true =>
   have:=bX hw;have hk:am k 0 ((t.cf.length:Int) - 1)=true:=by unfold am; simp; omega
   by_cases hb:b<=0
   ·have h1:¬ (0 < b):=by omega
    simp [hb,h1,zX hk]
   ·have h1:0 < b:=by omega
    cases ha:MR t b k with
    | false=>simp [hb,zX hk]
    | true=>simp [hb,h1,zX (T1 ha)]
theorem uk{α:Type}(f:α->Bool):∀ (l:List α) (i:Nat),(eB f l i=-1/\∀ x∈l,f x=false)\/∃ (j:Nat) (x:α),eB f l i=((i+j:Nat):Int)/\l[j]?=some x/\f x=true
 | [],i=>.inl ⟨rfl,by simp⟩
 | y :: l,i=>by
  cases hy:f y with
  | true=>exact .inr ⟨0,y,by simp [eB,hy],rfl,hy⟩
  | false =>
   rcases uk f l (i+1) with ⟨h1,h2⟩ | ⟨j,x,h1,h2,h3⟩
   ·exact .inl ⟨by simp [eB,hy,h1],by simp [hy]; exact h2⟩
   ·exact .inr ⟨j+1,x,by simp [eB,hy,h1]; omega,by simpa using h2,h3⟩
def vN(l:List bO)(id:Int):Int:=eB (λx=>x.ov == id) l 0
theorem yf{u:Nat}(hu:1099511627776<=u){l:List bO}(hl:l.length<=1048577)(id:Int):rq u l id=some (vN l id):=by
 unfold rq;rw [HM u l id () u (by omega) (by omega)];exact Pi (λ(x:bO)=>x.ov == id) rfl (λx i k _=>rfl)
theorem K0{α β ρ:Type}{fin:List β->Option ρ}{body:α->Nat->List β->(List β->Option ρ)->Option ρ}(f:α->Bool)(g:α->β){xs:List α}(hb:∀ x i s k,xs[i]?=some x->i < xs.length->s.length<=i->body x i s k=bif f x then k (s++[g x]) else k s) :
  ∀ (l:List α) (i:Nat) (s:List β),l=xs.drop i->s.length<=i->bP fin body l i s=fin (s++(l.filter f).map g):=by
 intro l
 induction l with
 | nil=>intro i s _ _; simp [bP]
 | cons x l ih =>
  intro i s h hs;have hx:xs[i]?=some x:=by
   have:=congrArg zYV h
   simpa [zXW] using this.symm
  have hl:l=xs.drop (i+1):=by
   have:=congrArg zYq h
   simpa [zXK] using this
  have hi:i < xs.length:=(List.getElem?_eq_some_iff.1 hx).1;simp only [bP];rw [hb x i s _ hx hi hs]
  cases hf:f x with
  | true=>rw [cond_true,ih (i+1) _ hl (by simp; omega)]; simp [hf]
  | false=>rw [cond_false,ih (i+1) _ hl (by omega)]; simp [hf]
def T2(x:bO):bO:=⟨x.ov,x.ck,x.cq,aQ .i64 x.wW 1,0⟩
def kK(l:List bO)(forget:Int):List bO:=(l.filter λx=>decide (x.wW < forget)).map T2
theorem K1{u:Nat}(hu:1099511627776<=u){l:List bO}(hl:l.length<=1048576)(n:Int):uq u l n=some (kK l n):=by
 unfold uq;rw [FL u l n [] u (by omega) (by omega),K0 (λx=>decide (x.wW < n)) T2 (λx i s k _ hi hs=>?_) l 0 [] rfl (by simp)]
 ·rfl
 ·unfold ym mh;have e:c9 (decide ((s.length+([(bO.mk x.ov x.ck x.cq (aQ .i64 x.wW 1) 0)]).length)*40<=140737488355328))=some ():=bu (by simp; omega)
  by_cases h:x.wW < n
  ·have h2:¬ (x.wW>=n):=by omega
   simp only [h,h2,decide_true,decide_false,cond_true,cond_false,e,wk]; rfl
  ·have h2:x.wW>=n:=by omega
   simp only [h,h2,decide_true,decide_false,cond_true,cond_false]
theorem rI(l:List bO)(id:Int):(vN l id=-1/\∀ x∈l,x.ov≠id)\/∃ (j:Nat) (x:bO),vN l id=(j:Int)/\l[j]?=some x/\x.ov=id:=by
 rcases uk (λ(x:bO)=>x.ov == id) l 0 with ⟨h1,h2⟩ | ⟨j,x,h1,h2,h3⟩
 ·exact .inl ⟨h1,λx hx=>by simpa using h2 x hx⟩
 ·exact .inr ⟨j,x,by unfold vN; rw [h1]; simp,h2,by simpa using h3⟩
def nL(l:List bO)(id have_:Int):Int:=match c6 l (vN l id) with
 | some x=>if ct have_ && ct x.ck && ct x.ou then BY .i64 (gE .i64 x.ck have_) x.ou else 0
 | none=>0
theorem BF{u:Nat}(hu:1099511627776<=u){l:List bO}(hl:l.length<=1048577)(id s:Int):rz u l id s=some (nL l id s):=by
 unfold rz mp nL;simp only [yf hu hl,eR,wk];rcases rI l id with ⟨h1,_⟩ | ⟨j,x,h1,h2,_⟩
 ·rw [h1]; rfl
 ·have e:decide ((j:Int) < 0)=false:=by simp
  simp only [h1,e,cond_false,cM,h2,wk]
  cases ct s <;> cases ct x.ck <;> cases ct x.ou <;> rfl
def nh(l:List bO)(id s:Int):List bO:=match c6 l (vN l id) with
 | some x=>if ct s && ct x.ou then l.set (vN l id).toNat ⟨x.ov,x.ck,x.cq,x.wW,vL .i64 x.ou s⟩ else l
 | none=>l
theorem K2{l:List bO}(hl:l.length<=1048577):c9 (decide (((([]:List bO)).length+l.length)*40<=140737488355328))=some ():=bu (by simp; omega)
theorem za{u:Nat}(hu:1099511627776<=u){l:List bO}(hl:l.length<=1048577)(id s:Int):nW u l id s=some (nh l id s):=by
 unfold nW mq nh;simp only [K2 hl,yf hu hl,eR,wk,zQy];rcases rI l id with ⟨h1,_⟩ | ⟨j,x,h1,h2,_⟩
 ·rw [h1]; rfl
 ·have e:decide ((j:Int) < 0)=false:=by simp
  simp only [h1,e,cond_false,cM,h2,wk]
  cases ct s <;> cases ct x.ou <;> rfl
theorem Fc(l:List bO)(id s:Int):(nh l id s).length=l.length:=by
 unfold nh
 split
 ·split <;> simp
 ·rfl
def uN(l:List bO)(id:Int):Nat:=if eB (λ(x:bO)=>decide (x.ov > id)) l 0 < 0 then l.length else (eB (λ(x:bO)=>decide (x.ov > id)) l 0).toNat
def p8(l:List bO)(id want done:Int):List bO :=
 if am id 0 6 && ct want && ct done then match c6 l (vN l id) with
  | some x=>l.set (vN l id).toNat ⟨x.ov,want,vL .i64 x.cq done,0,x.ou⟩
  | none=>l.take (uN l id)++[⟨id,want,done,0,0⟩]++l.drop (uN l id)
 else l
theorem MS(l:List bO)(id:Int):uN l id<=l.length:=by
 unfold uN;rcases uk (λ(x:bO)=>decide (x.ov > id)) l 0 with ⟨h1,_⟩ | ⟨j,x,h1,h2,_⟩
 ·rw [h1]; simp
 ·have:=(List.getElem?_eq_some_iff.1 h2).1;rw [h1]; split <;> omega
theorem IH{u:Nat}{l:List bO}(hl:l.length<=1048576)(id w d:Int):∀ (ys:List bO) (f i:Nat),ys=l.drop i->i<=l.length->ys.length < f ->
  jF u f id w d l (i:Int)=vH u id w d l (if eB (λ(x:bO)=>decide (x.ov > id)) ys i < 0 then (l.length:Int) else eB (λ(x:bO)=>decide (x.ov > id)) ys i):=by
 intro ys
 induction ys with
 | nil =>
  intro f i h hi hf;obtain ⟨f,rfl⟩:∃ j,f=j+1:=⟨f - 1,by omega⟩;have h1:i=l.length:=by
   have:=congrArg List.length h;simp at this;omega
  subst h1;unfold jF sq;simp only [zQy,Int.lt_irrefl,decide_false,cond_false,eB];rfl
 | cons y ys ih =>
  intro f i h hi hf;obtain ⟨f,rfl⟩:∃ j,f=j+1:=⟨f - 1,by omega⟩;have hx:l[i]?=some y:=by
   have:=congrArg zYV h
   simpa [zXW] using this.symm
  have hy:ys=l.drop (i+1):=by
   have:=congrArg zYq h
   simpa [zXK] using this
  have hlt:i < l.length:=(List.getElem?_eq_some_iff.1 hx).1;have e:decide ((i:Int) < (l.length:Int))=true:=by simp; omega
  unfold jF sq;simp only [zQy,e,cond_true,cM,hx,wk,eB]
  by_cases hc:y.ov<=id
  ·have hc2:¬ (y.ov > id):=by omega
   simp only [hc,hc2,decide_true,decide_false,cond_true,zQz,↓reduceIte];rw [cu (by omega)];simp only [zQW] at hf;exact ih f (i+1) hy (by omega) (by omega)
  ·have hc2:y.ov > id:=by omega
   have:¬ ((i:Int) < 0):=by omega
   simp only [hc,hc2,decide_true,decide_false,cond_false,this,↓reduceIte]
theorem NH{u:Nat}(hu:1099511627776<=u){l:List bO}(hl:l.length<=1048576)(id w d:Int):yv u l id w d=some (p8 l id w d):=by
 unfold yv su p8;simp only [K2 (show l.length<=1048577 by omega),bC,eR,yf hu (show l.length<=1048577 by omega),wk,zQy]
 cases h1:am id 0 6 with
 | false=>rfl
 | true=>cases h2:ct w with
  | false=>rfl
  | true=>cases h3:ct d with
   | false=>rfl
   | true =>
    simp only [zQV,cond_false,zYW,↓reduceIte];rcases rI l id with ⟨h4,_⟩ | ⟨j,x,h4,h5,_⟩
    ·have e:c6 l (-1)=none:=by simp [c6]
     rw [h4,e,show decide ((-1:Int) < 0)=true from rfl,cond_true,show ((0:Int))=((0:Nat):Int) from rfl,IH hl id w d l u 0 rfl (by omega) (by omega)];have hp:=MS l id;have e2:(if eB (λ(x:bO)=>decide (x.ov > id)) l 0 < 0 then (l.length:Int) else eB (λ(x:bO)=>decide (x.ov > id)) l 0)=((uN l id:Nat):Int):=by
      unfold uN; split <;> omega
     rw [e2];generalize uN l id=q at hp;unfold vH;simp only [zQy];have c1:=fk (a:=0) (b:=q) (n:=l.length) (by omega) hp;have c2:=fk (a:=q) (b:=l.length) (n:=l.length) hp (by omega);rw [show ((0:Nat):Int)=0 from rfl] at c1;rw [c1,c2];simp only [wk];rw [bu (by simp; omega),bu (by simp; omega),bu (by simp; omega)];simp
    ·have e:decide ((j:Int) < 0)=false:=by simp
     simp only [h4,e,cond_false,cM,h5,wk]
theorem Ps(l:List bO)(id w d:Int):(p8 l id w d).length<=l.length+1:=by
 unfold p8
 split
 ·split
  ·simp
  ·have:=MS l id;simp; omega
 ·omega
theorem SG{α:Type}{fin:Unit->Option Bool}{body:Nat->Unit->(Unit->Option Bool)->Option Bool}(f:α->Nat->Bool){xs:List α}{b:Bool}(hf:fin ()=some b)(hb:∀ x i k,xs[i]?=some x->body i () k=bif f x i then k () else some false) :
  ∀ (l:List α) (i:Nat),l=xs.drop i->lS fin body l.length i ()=some (kQ f l i && b):=by
 intro l
 induction l with
 | nil=>intro i _; simp [lS,kQ,hf]
 | cons x l ih =>
  intro i h;have hx:xs[i]?=some x:=by
   have:=congrArg zYV h
   simpa [zXW] using this.symm
  have hl:l=xs.drop (i+1):=by
   have:=congrArg zYq h
   simpa [zXK] using this
  simp only [zQW,lS,kQ];rw [hb x i _ hx,ih (i+1) hl]
  cases f x i <;> simp
def zb(n:Nat):Int:=if n<=40 then ((2 ^ n - 1:Nat):Int) else 0
theorem zd(u:Nat){m:ag}:nT u m=some (zb m.aC.length):=by
 unfold nT zb
 by_cases h:m.aC.length<=40
 ·rw [Ay u h]; simp [h]
 ·have h1:am (m.aC.length:Int) 0 40=false:=by
   unfold am; simp; omega
  unfold mY;rw [bC,h1];simp [h]
def ze(a b:Int):Int:=if ct a && ct b then BY .i64 a b else 0
theorem AB(u:Nat)(a b:Int):li u a b=some (ze a b):=by
 unfold li ny ze;simp only [eR,wk]
 cases ct a <;> cases ct b <;> rfl
def B5(m:ag)(x:bD):Int:=ze (zb m.aC.length) x.bj
theorem AC(u:Nat)(m:ag)(x:bD):pu u m x=some (B5 m x):=by
 unfold pu B5;simp only [zd,AB,wk]
def M.at_(m:ag)(i:Int):Nat:=(bW m.aw m.aY i).1.toNat
def t4(m:ag)(i:Int):Nat:=(bW m.aw m.aY i).2.toNat
def Jd(m:ag)(x:bD)(i:Int):List Int:=M.win x.b4 (M.at_ m i) (t4 m i)
theorem Pt{m:ag}{b:List Int}(hb:(b.length:Int)=m.aY)(hl:b.length<=1048576)(i:Int) :
  c9 (cy (bW m.aw m.aY i).1 (aQ .i64 (bW m.aw m.aY i).1 (bW m.aw m.aY i).2) b.length)=some () /\
  (b.take (sX (aQ .i64 (bW m.aw m.aY i).1 (bW m.aw m.aY i).2))).drop (sX (bW m.aw m.aY i).1)=M.win b (M.at_ m i) (t4 m i) /\
  M.at_ m i+t4 m i<=b.length/\t4 m i<=6:=by
 obtain ⟨h1,h2,h3,h4⟩:=nd (size:=m.aw) (n:=m.aY) (i:=i) (by omega);unfold M.at_ t4;generalize bW m.aw m.aY i=s at *;obtain ⟨a,c⟩:=s;dsimp only at *;obtain ⟨a,rfl⟩:∃ n:Nat,a=n:=⟨a.toNat,by omega⟩;obtain ⟨c,rfl⟩:∃ n:Nat,c=n:=⟨c.toNat,by omega⟩;simp only [r0] at *;rw [mG (by omega),fk (by omega) (by omega)];exact ⟨rfl,rfl,by omega,by omega⟩
def Dz(m:ag)(x:bD)(s:cn)(i:Nat):Bool :=
 if dv x.bj i then decide (du (Jd m x i)=s) else (Jd m x i).all λc=>c == 0
def ke(m:ag)(x:bD):Bool :=
 cV m && ct x.bj && (ze x.bj (zb m.aC.length) == 0) && ((x.b4.length:Int) == m.aY) && kQ (Dz m x) m.aC 0
theorem K3{u:Nat}(hu:1099511627776<=u){b:List Int}(hl:b.length<=1048576):mR u b=some (b.all λc=>c == 0):=by
 unfold mR;rw [FO u b () u (by omega) (by omega),Dy (λ(c:Int) _=>c == 0) (xs:=b) (b:=true) rfl 0 (λx i k _ hx=>?_) b 0 (zWj _) rfl,Bool.and_true]
 ·congr 1
  have:∀ (l:List Int) (i:Nat),kQ (λ(c:Int) _=>c == 0) l i=l.all λc=>c == 0:=by
   intro l
   induction l with
   | nil=>intro i; rfl
   | cons x l ih=>intro i; simp [kQ,ih]
  exact this b 0
 ·unfold yo;rw [Ky]
  cases x == 0 <;> rfl
structure M.BldWf (x:bD):Prop where
 b:aq x.b4
 l:x.b4.length<=1048576
theorem GN{b:List Int}(h:aq b)(hl:b.length<=1048576)(i n:Nat):aq (M.win b i n)/\(M.win b i n).length<=1048576:=by
 refine ⟨mT h i n,?_⟩;have:(M.win b i n).length<=b.length:=by unfold M.win; simp; omega
 omega
theorem vk{u:Nat}(hu:1099511627776<=u){m:ag}(hm:m.aC.length<=1048576){x:bD}(hx:M.BldWf x):mZ u m x=some (ke m x):=by
 unfold mZ kW ke;simp only [fL hu m (show m.aC.length<=1073741824 by omega),eR,zd,AB,wk]
 cases cV m with
 | false=>rfl
 | true=>cases ct x.bj with
  | false=>rfl
  | true =>
   rw [Ky,Ky]
   cases ze x.bj (zb m.aC.length) == 0 with
   | false=>rfl
   | true =>
    by_cases hb:(x.b4.length:Int)=m.aY
    ·have e:((x.b4.length:Int) == m.aY)=true:=by simpa using hb
     simp only [e,zQV,cond_false,zYW,zWx];have hl:=hx.l;rw [D4 u m x () u (by omega) (by omega),r0,SG (Dz m x) (xs:=m.aC) (b:=true) rfl (λs i k hs=>?_) m.aC 0 rfl,Bool.and_true];obtain ⟨c1,c2,c3,c4⟩:=Pt hb hl i;obtain ⟨b1,b2⟩:=GN hx.b hl (M.at_ m i) (t4 m i);unfold w9 dK Dz Jd;simp only [fK,jU,cM,hs,wk,c1,c2,lQ hu b1 (show _<=1073741824 by omega),K3 hu b2,EZ]
     cases dv x.bj i with
     | true=>simp only [cond_true,↓reduceIte,zQV,cond_false]; cases decide (du (M.win x.b4 (M.at_ m i) (t4 m i))=s) <;> rfl
     | false=>simp only [cond_false,zZj,cond_true,zQz,↓reduceIte]; cases (M.win x.b4 (M.at_ m i) (t4 m i)).all λc=>c == 0 <;> rfl
    ·have e:((x.b4.length:Int) == m.aY)=false:=by simpa using hb
     simp [e]
def NI(m:ag)(x:bD):Bool:=(m.aS != 0) && ke m x && (B5 m x == 0)
theorem L4{u:Nat}(hu:1099511627776<=u){m:ag}(hm:m.aC.length<=1048576){x:bD}(hx:M.BldWf x):wj u m x=some (NI m x):=by
 unfold wj NI;simp only [vk hu hm hx,AC,wk]
 cases m.aS != 0 <;> cases ke m x <;> rfl
def M.tells(m:ag)(b:List Int):Bool:=((b.length:Int) == m.aY) && M.same (λx y=>decide (x=y)) (tn b m.aw) m.aC
theorem CO{u:Nat}(hu:1099511627776<=u)(m:ag){b:List Int}(hb:aq b)(hl:b.length<=1048576):tE u m b=some (M.tells m b):=by
 unfold tE M.tells;rw [Bu hu hb (by omega)];simp only [wk];rw [wN hu (by unfold tn; have:=eu m.aw b.length; simp; omega)]
 cases (b.length:Int) == m.aY <;> rfl
theorem Fd{b:List Int}(hl:b.length<=1048576):c9 (decide (((([]:List Int)).length+b.length)*1<=140737488355328))=some ():=bu (by simp; omega)
theorem wR(u:Nat){m:ag}(hm:m.aC.length<=1048576):lf u m=some m:=by
 unfold lf;rw [bu (by simp; omega)]; rfl
theorem BG(u:Nat){x:bD}(hl:x.b4.length<=1048576):mP u x=some x:=by
 unfold mP;rw [Fd hl]; rfl
structure M.NodWf (n:aK):Prop where
 s:n.aD.aC.length<=1048576
 b:M.BldWf n.bw
 k:n.bf.length<=1048577
 w:pP n.aD
theorem eS(u:Nat){n:aK}(h:M.NodWf n):cY u n=some n:=by
 unfold cY;rw [wR u h.s,BG u h.b.l,wk,wk,K2 (by have:=h.k; omega)]; rfl
def gV(m:ag)(x:bD)(i:Int):List Int×Bool:=if ke m x && dv x.bj i then (Jd m x i,true) else ([],false)
theorem BH{m:ag}{x:bD}(h:ke m x=true):(x.b4.length:Int)=m.aY:=by
 unfold ke at h;simp only [sY,beq_iff_eq] at h;exact h.1.2
theorem AD{u:Nat}(hu:1099511627776<=u){m:ag}(hm:m.aC.length<=1048576){x:bD}(hx:M.BldWf x)(i:Int):m3 u m x i=some (gV m x i):=by
 unfold m3 qV gV;simp only [vk hu hm hx,jU,wk]
 cases hb:ke m x with
 | false=>rfl
 | true=>cases dv x.bj i with
  | false=>rfl
  | true =>
   obtain ⟨c1,c2,c3,c4⟩:=Pt (BH hb) hx.l i;have c5:=(GN hx.b hx.l (M.at_ m i) (t4 m i)).2;simp only [zQV,cond_false,fK,wk,c1,c2,Fd c5,zYW,↓reduceIte,zQy];rfl
theorem K4:∀ (b:List Int) (s:Int) (n:Nat),aq b->(256:Int) ^ n<=s->(256:Int) ^ (n+b.length)<=iq b s:=by
 intro b
 induction b with
 | nil=>intro s n _ h; exact h
 | cons c b ih =>
  intro s n hb h;have hc:=hb c (by simp);have:=ih (256*s+c) (n+1) (λz hz=>hb z (by simp [hz])) (by rw [zXq]; omega);simp only [zQW,iq];rwa [show n+(b.length+1)=n+1+b.length by omega]
theorem Hr{a b:Nat}(h:a<=b):(256:Int) ^ a<=256 ^ b:=by
 induction h with
 | refl=>exact Int.le_refl _
 | step h ih =>
  rename_i c;have:(0:Int) < 256 ^ c:=Int.pow_pos (by omega);rw [zXq]; omega
theorem MT{b:List Int}{s:cn}{size len:Int}{i:Nat}(hb:aq b)(h:du b=s)(hf:tj size len i s=true):(b.length:Int)=(bW size len i).2/\b.length<=6:=by
 unfold tj at hf;simp only [sY,beq_iff_eq] at hf;obtain ⟨⟨h1,h2⟩,_⟩:=hf;have h3:b9 s.fS=((b9 s.fS).1,true):=by rw [<- h1]
 obtain ⟨h4,h5,_,h6⟩:=zN h3;generalize (b9 s.fS).1=c at *;unfold du at h
 split at h
 ·rw [<- h] at h4; simp at h4
 ·rename_i hl;have hs:s.fS=iq b 1:=by rw [<- h]
  have h7:=(Kx b 1 0 hb (by omega) (by omega)).2;have h8:=K4 b 1 0 hb (by simp);simp only [zWJ] at h7 h8;rw [hs] at h5;have hp:(0:Int) < 256 ^ c.length:=Int.pow_pos (by omega);have h9:256 ^ c.length<=iq b 1:=by
   have:=Int.mul_ediv_self_le (x:=iq b 1) (k:=256 ^ c.length) (by omega);rw [h5] at this; omega
  have h10:iq b 1 < 256 ^ c.length*2:=by
   have:=Int.lt_mul_ediv_self_add (x:=iq b 1) hp;rw [h5] at this; omega
  have:b.length=c.length:=by
   rcases Nat.lt_trichotomy b.length c.length with h | h | h
   ·have:=Hr (show b.length+1<=c.length by omega);rw [zXq] at this; omega
   ·exact h
   ·have:=Hr (show c.length+1<=b.length by omega);rw [zXq] at this; omega
  omega
theorem Hs{size len:Int}:∀ {l:List cn} {i j:Nat} {s:cn},mF size len l i=true->l[j]?=some s->tj size len (i+j) s=true
 | [],_,_,_,_,h=>by simp at h
 | x :: l,i,0,s,h,hs=>by
  simp only [mF,sY] at h;simp at hs; subst hs; exact h.1
 | x :: l,i,j+1,s,h,hs=>by
  simp only [mF,sY] at h;have:=Hs h.2 (by simpa using hs);rwa [show i+1+j=i+(j+1) by omega] at this
theorem MU{m:ag}(hm:cV m=true){i:Nat}{s:cn}(hs:m.aC[i]?=some s):tj m.aw m.aY i s=true:=by
 unfold cV at hm
 split at hm
 ·simp only [sY,beq_iff_eq] at hm;have:=(List.getElem?_eq_some_iff.1 hs).1;omega
 ·simp only [sY] at hm;have:=Hs hm.2 hs
  simpa using this
theorem DA{m:ag}(hm:cV m=true):0<=m.aY/\m.aY<=240:=by
 unfold cV at hm
 split at hm
 ·simp only [sY,beq_iff_eq] at hm; omega
 ·simp only [sY] at hm;have:=tg hm.1.1.2;omega
def M.put(m:ag)(x:bD)(i:Int)(b:List Int):bD:=⟨vL .i64 x.bj (iT .i64 1 i),JO x.b4 b (M.at_ m i)⟩
def tz(m:ag)(x:bD)(i:Int)(b:List Int):Bool×bD :=
 if am i 0 ((m.aC.length:Int) - 1) && !dv x.bj i && (match m.aC[i.toNat]? with | some s=>decide (du b=s) | none=>false) then (true,M.put m x i b) else (false,x)
theorem T3(m:ag)(x:bD)(i:Int)(b:List Int):tz m x i b=(true,M.put m x i b)\/tz m x i b=(false,x):=by
 unfold tz;generalize (am i 0 ((m.aC.length:Int) - 1) && !dv x.bj i && (match m.aC[i.toNat]? with | some s=>decide (du b=s) | none=>false))=c
 cases c
 ·exact .inr rfl
 ·exact .inl rfl
theorem WJ(u:Nat)(p2:Int)(p3:List Int)(r6:Int×Int)(x:bD)(a:Nat)(ha:r6.1=(a:Int))(hal:a<=1048576):∀ (l:List Int) (i:Nat) (s:List Int),a+i+l.length<=s.length->s.length<=4194304 ->
  bP (uV u p2 p3 r6 x) (uW u p2 p3 r6 x) l i s=(d8 u x.bj p2).bind λq=>some (true,⟨q,s.take (a+i)++l++s.drop (a+i+l.length)⟩):=by
 intro l
 induction l with
 | nil=>intro i s _ _; simp [bP,uV,t8]
 | cons y l ih =>
  intro i s h1 h2;simp only [zQW] at h1;simp only [bP,uW];rw [ha,cd (by omega) (by omega),show (a:Int)+(i:Int)=((a+i:Nat):Int) by omega,cM,tw (by omega),r0];simp only [wk];rw [ih (i+1) _ (by simp; omega) (by simp; omega)];have e1:(s.set (a+i) y).take (a+(i+1))=s.take (a+i)++[y]:=by
   rw [show a+(i+1)=(a+i)+1 by omega,List.take_add_one,List.take_set_of_le (zWj _)];simp [show a+i < s.length by omega]
  have e2:(s.set (a+i) y).drop (a+(i+1)+l.length)=s.drop (a+i+(y :: l).length):=by
   rw [List.drop_set_of_lt (by omega)]; simp only [zQW]; congr 1; omega
  rw [e1,e2]; simp
theorem Fe{m:ag}{b:List Int}(hb:(b.length:Int)=m.aY)(i:Int):(bW m.aw m.aY i).1=(M.at_ m i:Int)/\(bW m.aw m.aY i).2=(t4 m i:Int)/\M.at_ m i+t4 m i<=b.length:=by
 obtain ⟨h1,h2,h3,h4⟩:=nd (size:=m.aw) (n:=m.aY) (i:=i) (by omega);unfold M.at_ t4;omega
theorem QR{i:Int}{n:Nat}(h:am i 0 ((n:Int) - 1)=true)(hn:n<=40):eA i=true/\0<=i:=by
 have:=bX h;unfold eA am;simp; omega
theorem zf(u:Nat){s i:Int}(hs:ct s=true)(hi:eA i=true):d8 u s i=some (vL .i64 s (iT .i64 1 i)):=by
 have:=bX hi;unfold d8 jX;rw [eR,hs];simp only [wk,zQV,cond_false];rw [bC,show am i 0 39=true from hi];simp only [wk,zQV,cond_false];rw [bu (by omega)]; rfl
theorem CP{u:Nat}(hu:1099511627776<=u){m:ag}(hm:cV m=true){x:bD}(hx:(x.b4.length:Int)=m.aY)(hs:ct x.bj=true)(i:Int){b:List Int}(hb:aq b)(hl:b.length<=1048576) :
  rn u m x i b=some (tz m x i b):=by
 have h40:=vW hm;have h240:=DA hm;unfold rn nP tz;simp (disch:=omega) only [cU,bC,jU,lQ hu hb (show b.length<=1073741824 by omega),wk,EZ]
 cases hw:am i 0 ((m.aC.length:Int) - 1) with
 | false=>simp
 | true=>cases dv x.bj i with
  | true=>simp
  | false =>
   have hw':=bX hw;obtain ⟨n,rfl⟩:∃ n:Nat,i=n:=⟨i.toNat,by omega⟩;have hn:n < m.aC.length:=by omega
   obtain ⟨s,hs'⟩:∃ s,m.aC[n]?=some s:=⟨_,tw hn⟩;simp only [zQV,zZj,cond_false,cM,hs',wk,r0,zWx]
   by_cases hq:du b=s
   ·obtain ⟨h1,h2⟩:=MT hb hq (MU hm hs');have h3:decide ((b.length:Int) > 6)=false:=by simp; omega
    obtain ⟨e1,e2,e3⟩:=Fe (b:=x.b4) hx n;have h4:b.length=t4 m n:=by omega
    simp only [hq,decide_true,zQV,cond_false,h3,fK,wk,↓reduceIte];rw [HI u n b _ x x.b4 u (by omega) (by omega),WJ u n b _ x (M.at_ m n) e1 (by omega) b 0 x.b4 (by omega) (by omega),zf u hs (QR hw (by omega)).1];unfold M.put;rw [E5 (by omega)];rfl
   ·simp [hq]
def ni(m:ag)(x:bD)(i:Int)(b:List Int):bD×Bool:=if ke m x && (tz m x i b).1 then (M.put m x i b,true) else (x,false)
theorem Ht{m:ag}{x:bD}(h:ke m x=true):cV m=true/\ct x.bj=true:=by
 unfold ke at h;simp only [sY] at h;exact ⟨h.1.1.1.1,h.1.1.1.2⟩
theorem GO{u:Nat}(hu:1099511627776<=u){m:ag}(hm:m.aC.length<=1048576){x:bD}(hx:M.BldWf x)(i:Int){b:List Int}(hb:aq b)(hl:b.length<=1048576):qr u m x i b=some (ni m x i b):=by
 unfold qr pA ni;simp only [BG u hx.l,vk hu hm hx,wk]
 cases hk:ke m x with
 | false=>rfl
 | true =>
  obtain ⟨h1,h2⟩:=Ht hk;simp only [zQV,cond_false,CP hu h1 (BH hk) h2 i hb hl,wk,zWx];rcases T3 m x i b with h | h <;> rw [h] <;> rfl
def B6(m:ag)(old:List Int):Nat->Nat->bD->bD
 | 0,_,x=>x
 | n+1,i,x=>B6 m old n (i+1) (if 0<=dx old m i then M.put m x i (M.win old (dx old m i).toNat (t4 m i)) else x)
def o8(m:ag):bD:=if cV m then ⟨0,zQg m.aY.toNat 0⟩ else ⟨0,[]⟩
def jW(m:ag)(old:List Int):bD:=if cV m then B6 m old m.aC.length 0 (o8 m) else ⟨0,[]⟩
theorem NJ{m:ag}(hm:cV m=true):c9 (decide (0<=m.aY) && (m.aY == 0 || m.aY == m.aY))=some ()/\c9 (decide (sX m.aY*1<=140737488355328))=some ():=by
 have:=DA hm;refine ⟨by simp [c9]; omega,bu (by omega)⟩
theorem GP{u:Nat}(hu:1099511627776<=u){m:ag}(hm:m.aC.length<=1048576):qf u m=some (o8 m):=by
 unfold qf o8;simp only [fL hu m (show m.aC.length<=1073741824 by omega),wk]
 cases h:cV m with
 | false=>rfl
 | true=>obtain ⟨h1,h2⟩:=NJ h; rw [h1,h2]; rfl
theorem Ff{b:List Int}{s:cn}{n:Nat}:∀ (c i:Nat),0<=fe b s n c i->du (M.win b (fe b s n c i).toNat n)=s
 | 0,_,h=>by simp [fe] at h
 | c+1,i,h=>by
  unfold fe at h ⊢
  split
  ·rename_i hq; simpa using hq
  ·rename_i hq;rw [if_neg hq] at h;exact Ff c (i+1) h
theorem K5{old:List Int}{m:ag}{i:Nat}(h:0<=dx old m i):∃ s,m.aC[i]?=some s/\0<=(bW m.aw m.aY i).2/\du (M.win old (dx old m i).toNat (t4 m i))=s/\(dx old m i).toNat+t4 m i<=old.length:=by
 unfold dx at h ⊢
 split at h
 ·rename_i s hs;simp only [hs];unfold rG at h ⊢
  split at h
  ·rename_i hw;have:=bX hw;rw [if_pos hw];have h1:=Ff _ _ h;have h2:=KF old s (bW m.aw m.aY i).2.toNat (old.length+1 - (bW m.aw m.aY i).2.toNat) 0;refine ⟨s,rfl,by omega,h1,?_⟩;unfold t4;omega
  ·omega
 ·omega
structure M.Part (m:ag) (i:Nat) (x:bD):Prop where
 b:M.BldWf x
 l:(x.b4.length:Int)=m.aY
 h:∃ n:Nat,x.bj=n/\n < 2 ^ i
theorem BI{x p:List Int}{a:Nat}(h:a+p.length<=x.length)(hx:aq x)(hp:aq p):aq (JO x p a)/\(JO x p a).length=x.length:=by
 rw [E5 h];refine ⟨λz hz=>?_,by simp; omega⟩;simp only [zWK] at hz;rcases hz with (hz | hz) | hz
 ·exact hx z (zWZ hz)
 ·exact hp z hz
 ·exact hx z (zXX hz)
theorem Pv{m:ag}{i:Nat}{x:bD}(hp:M.Part m i x)(hi:i<=39){b:List Int}(hb:aq b)(hl:b.length=t4 m i):M.Part m (i+1) (M.put m x i b):=by
 obtain ⟨e1,e2,e3⟩:=Fe (b:=x.b4) hp.l i;obtain ⟨h1,h2⟩:=BI (x:=x.b4) (p:=b) (a:=M.at_ m i) (by omega) hp.b.b hb;obtain ⟨n,h3,h4⟩:=hp.h;have h5:(2:Nat) ^ i<=2 ^ 39:=zWG (by omega) hi;refine ⟨⟨h1,by unfold M.put; dsimp only; rw [h2]; exact hp.b.l⟩,by unfold M.put; dsimp only; rw [h2]; exact hp.l,n ||| 2 ^ i,?_,?_⟩
 ·unfold M.put;dsimp only;rw [h3,Gz (by omega),B0 (by omega) (by omega)]
 ·exact Nat.or_lt_two_pow (by rw [Nat.pow_succ]; omega) (by rw [Nat.pow_succ]; have:0 < 2 ^ i:=Nat.pow_pos (by omega); omega)
theorem GQ{m:ag}{i j:Nat}{x:bD}(hp:M.Part m i x)(h:i<=j):M.Part m j x:=by
 obtain ⟨n,h3,h4⟩:=hp.h;exact ⟨hp.b,hp.l,n,h3,zQK h4 (zWG (by omega) h)⟩
theorem UV{m:ag}{i:Nat}{x:bD}(hp:M.Part m i x)(hi:i<=40):ct x.bj=true/\dv x.bj i=false:=by
 obtain ⟨n,h3,h4⟩:=hp.h;have h5:(2:Nat) ^ i<=2 ^ 40:=zWG (by omega) hi;constructor
 ·rw [h3]; unfold ct am; simp; omega
 ·unfold dv;rw [h3,r0,r0,Nat.testBit_lt_two_pow h4,Bool.and_false]
theorem UW{old:List Int}(hl:old.length<=1048576){p:Int}{n:Nat}(h0:0<=p)(h:p.toNat+n<=old.length):c9 (cy p (aQ .i64 p (n:Int)) old.length)=some ()/\(old.take (sX (aQ .i64 p (n:Int)))).drop (sX p)=M.win old p.toNat n:=by
 obtain ⟨q,rfl⟩:∃ q:Nat,p=q:=⟨p.toNat,by omega⟩;simp only [r0] at h ⊢;rw [mG (by omega),fk (by omega) (by omega)];exact ⟨rfl,rfl⟩
theorem SH{m:ag}(hm:cV m=true){old:List Int}(ho:aq old):∀ (n i:Nat) (x:bD),i+n=m.aC.length->M.Part m i x->M.Part m (i+n) (B6 m old n i x):=by
 have h40:=vW hm;intro n
 induction n with
 | zero=>intro i x _ hp; exact hp
 | succ n ih =>
  intro i x h hp;simp only [B6]
  by_cases hq:0<=dx old m i
  ·obtain ⟨s,g1,g2,g3,g4⟩:=K5 hq;have hb:=mT ho (dx old m i).toNat (t4 m i);have hbl:(M.win old (dx old m i).toNat (t4 m i)).length=t4 m i:=Do g4;have hput:=Pv hp (by omega) hb hbl;have k3:=ih (i+1) _ (by omega) hput;rw [if_pos hq];rwa [show i+1+n=i+(n+1) by omega] at k3
  ·have k3:=ih (i+1) x (by omega) (GQ hp (by omega));rw [if_neg hq];rwa [show i+1+n=i+(n+1) by omega] at k3
theorem SI{u:Nat}(hu:1099511627776<=u){m:ag}(hm:cV m=true){old:List Int}(ho:aq old)(hl:old.length<=1048576):∀ (n i:Nat) (x:bD),i+n=m.aC.length->M.Part m i x ->
  lS (vp u old m) (pU u old m) n i (x.bj,x.b4)=some (B6 m old n i x):=by
 have h40:=vW hm;intro n
 induction n with
 | zero=>intro i x _ hp; exact rfl
 | succ n ih =>
  intro i x h hp;obtain ⟨e1,e2,e3⟩:=Fe (b:=x.b4) hp.l i;obtain ⟨f1,f2⟩:=UV hp (by omega);simp only [lS,B6,pU,i8];rw [Ax hu ho (by omega) (by omega),fK];simp only [wk]
  by_cases hq:0<=dx old m i
  ·obtain ⟨s,g1,g2,g3,g4⟩:=K5 hq;have hq':decide (dx old m i>=0)=true:=by simpa using hq
   rw [e2];obtain ⟨c1,c2⟩:=UW hl hq g4;have hb:=mT ho (dx old m i).toNat (t4 m i);have hbl:(M.win old (dx old m i).toNat (t4 m i)).length=t4 m i:=Do g4;have hput:=Pv hp (by omega) hb hbl;have k1:=ih (i+1) _ (by omega) hput;have h6:(M.win old (dx old m i).toNat (t4 m i)).length<=1048576:=by omega
   have hl8:tz m x i (M.win old (dx old m i).toNat (t4 m i))=(true,M.put m x i (M.win old (dx old m i).toNat (t4 m i))):=by
    unfold tz;have hw:am (i:Int) 0 ((m.aC.length:Int) - 1)=true:=by unfold am; simp; omega
    rw [hw,f2,r0,g1];simp [g3]
   rw [if_pos hq];simp only [hq',cond_true,c1,c2,wk,CP hu hm hp.l f1 i hb h6,hl8];exact k1
  ·have hq':decide (dx old m i>=0)=false:=by simpa using hq
   have k1:=ih (i+1) x (by omega) (GQ hp (by omega));rw [if_neg hq];simp only [hq',cond_false];exact k1
theorem Pw{m:ag}(hm:cV m=true):M.Part m 0 (o8 m):=by
 have:=DA hm;unfold o8;rw [if_pos hm];exact ⟨⟨by simp [aq],by simp; omega⟩,by simp; omega,0,rfl,by simp⟩
theorem BJ{m:ag}(hm:cV m=true){old:List Int}(ho:aq old)(hl:old.length<=1048576):M.Part m m.aC.length (jW m old):=by
 have:=SH hm ho m.aC.length 0 _ (by omega) (Pw hm);unfold jW;rw [if_pos hm]
 simpa using this
theorem xK{u:Nat}(hu:1099511627776<=u){m:ag}(hs:m.aC.length<=1048576){old:List Int}(ho:aq old)(hl:old.length<=1048576):lY u m old=some (jW m old):=by
 unfold lY jW;simp only [GP hu hs,fL hu m (show m.aC.length<=1073741824 by omega),wk]
 cases hm:cV m with
 | false=>simp [o8,hm]
 | true =>
  simp only [zQV,cond_false,↓reduceIte];rw [Cd u old m ((o8 m).bj,(o8 m).b4) u (by omega) (by omega),r0];exact SI hu hm ho hl m.aC.length 0 _ (by omega) (Pw hm)
def M.add(d:aA)(p:dA):aA×Bool:=if cE (ii d p) then (ii d p,true) else (d,false)
def kL(d:aA)(slot at_:Int)(b:List Int):aA×Bool:=if am slot 0 1 then M.add d ⟨slot,at_,b,⟨0,0,0⟩⟩ else (d,false)
def lJ(d:aA)(r:c7):aA×Bool:=M.add d ⟨2,0,[],r⟩
def pR(d:aA):Int:=dM .i64 1 d.fR.ch
theorem QS(d:aA)(p:dA):(M.add d p=(ii d p,true)/\cE (ii d p)=true)\/M.add d p=(d,false):=by
 unfold M.add
 cases h:cE (ii d p) with
 | true=>exact .inl ⟨rfl,rfl⟩
 | false=>exact .inr rfl
theorem GR{u:Nat}(hu:1099511627776<=u){d:aA}(hd:M.DOk d)(hl:d.fP.length<=1048575)(s a:Int){b:List Int}(hb:b.length<=1048576):qn u d s a b=some (kL d s a b):=by
 unfold qn kL M.add;rw [bC,yd hu hd hl (p:=⟨s,a,b,⟨0,0,0⟩⟩) hb,fM hu hd];simp only [wk]
 cases am s 0 1 <;> rfl
theorem Fg{u:Nat}(hu:1099511627776<=u){d:aA}(hd:M.DOk d)(hl:d.fP.length<=1048575)(r:c7):oL u d r=some (lJ d r):=by
 unfold oL lJ M.add;rw [yd hu hd hl (p:=⟨2,0,[],r⟩) (by simp)];rfl
theorem CQ(u:Nat)(d:aA):wm u d=some (pR d):=rfl
def lK(d0:aA)(b:List Int)(size:Int):Nat->Nat->aA->aA×Bool
 | 0,_,d=>(d,true)
 | n+1,i,d=>if (kL d (pR d0) ((i:Int)*size) (db b size i).1).2 then lK d0 b size n (i+1) (kL d (pR d0) ((i:Int)*size) (db b size i).1).1 else (d0,false)
def nj(d:aA)(b:List Int)(size:Int):aA×Bool :=
 if cE d && decide (d.fP.length=0) && dP size b.length then lK d b size (ce size b.length).toNat 0 d else (d,false)
theorem Px{d:aA}(h:cE d=true):d.fP.length<=200:=by
 unfold cE at h;simp only [sY,decide_eq_true_eq] at h;exact h.1.2
theorem Hu(d:aA)(s a:Int)(b:List Int):(kL d s a b=(ii d ⟨s,a,b,⟨0,0,0⟩⟩,true)/\cE (ii d ⟨s,a,b,⟨0,0,0⟩⟩)=true)\/kL d s a b=(d,false):=by
 unfold kL
 split
 ·exact QS d _
 ·exact .inr rfl
theorem Fh{d:aA}(hd:M.DOk d)(hl:d.fP.length<=200)(s a:Int){b:List Int}(hb:b.length<=1048576):M.DOk (kL d s a b).1/\(kL d s a b).1.fP.length<=200:=by
 rcases Hu d s a b with ⟨h1,h2⟩ | h1
 ·rw [h1];exact ⟨B3 hd (by omega) hb,Px h2⟩
 ·rw [h1]; exact ⟨hd,hl⟩
theorem Hv(b:List Int)(size i:Int):(db b size i).1.length<=b.length:=by
 unfold db;dsimp only
 split
 ·simp
 ·unfold M.win; simp; omega
theorem QT{u:Nat}(hu:1099511627776<=u){d0:aA}(h0:M.DOk d0){b:List Int}(hb:b.length<=1048576){size:Int}:∀ (n i f:Nat) (d:aA),i+n=(ce size b.length).toNat->n < f->M.DOk d->d.fP.length<=200 ->
  io u f b size i d.fA d.fB d.fR.aS d.fR.ch d.fR.aY d.fP d0=some (lK d0 b size n i d):=by
 have hr:=eu size b.length;intro n
 induction n with
 | zero =>
  intro i f d h hf hd hl;obtain ⟨f,rfl⟩:∃ j,f=j+1:=⟨f - 1,by omega⟩;have e:decide ((i:Int) < ce size b.length)=false:=by simp; omega
  unfold io;rw [fJ];simp only [wk,e,cond_false];exact rfl
 | succ n ih =>
  intro i f d h hf hd hl;obtain ⟨f,rfl⟩:∃ j,f=j+1:=⟨f - 1,by omega⟩;have e:decide ((i:Int) < ce size b.length)=true:=by simp; omega
  have hw:am (i:Int) 0 (ce size b.length - 1)=true:=by unfold am; simp; omega
  obtain ⟨k1,k2,k3⟩:=vV hw;have k4:=tg k1;have k5:=yV (s:=size) (i:=i) (by omega) (by omega) k2 k3;have e1:(bW size b.length i).1=(i:Int)*size:=by unfold bW; rw [if_pos hw]
  have hbl:=Hv b size i;have hde:aA.mk d.fA d.fB (c7.mk d.fR.aS d.fR.ch d.fR.aY) d.fP=d:=rfl;unfold io lK;rw [fJ,fK,Aw u (by omega),CQ];simp only [wk,e,cond_true,e1,hde];rw [GR hu hd (by omega) _ _ (by omega),fM hu h0];simp only [wk];obtain ⟨g1,g2⟩:=Fh hd hl (pR d0) ((i:Int)*size) (b:=(db b size i).1) (by omega);have m1:=ih (i+1) f _ (by omega) (by omega) g1 g2;rw [cu (by omega)]
  cases (kL d (pR d0) ((i:Int)*size) (db b size i).1).2 with
  | true=>exact m1
  | false=>exact rfl
theorem GS{u:Nat}(hu:1099511627776<=u){d:aA}(hd:M.DOk d){b:List Int}(hb:b.length<=1048576)(size:Int):qo u d b size=some (nj d b size):=by
 have hr:=eu size b.length;unfold qo ml nj;simp only [fM hu hd,mH hu hd,o6,wk]
 cases cE d with
 | false=>rfl
 | true =>
  by_cases hp:d.fP.length=0
  ·have e:decide ((d.fP.length:Int) > 0)=false:=decide_eq_false (by omega);simp only [e,hp,decide_true,zQV,cond_false,zWx,zYW]
   cases dP size b.length with
   | false=>rfl
   | true=>exact QT hu hd hb (size:=size) (ce size b.length).toNat 0 u d (by omega) (by omega) hd (by omega)
  ·have e:decide ((d.fP.length:Int) > 0)=true:=by simp; omega
   simp only [e,hp,cond_true,zQV,cond_false,decide_false,Bool.and_false,Bool.false_and,zQz,↓reduceIte]
theorem CR{d0:aA}(h0:M.DOk d0)(hp:d0.fP.length<=200){b:List Int}(hb:b.length<=1048576){size:Int}:∀ (n i:Nat) (d:aA),M.DOk d->d.fP.length<=200->M.DOk (lK d0 b size n i d).1/\(lK d0 b size n i d).1.fP.length<=200
 | 0,i,d,hd,hl=>⟨hd,hl⟩
 | n+1,i,d,hd,hl=>by
  unfold lK;have hbl:=Hv b size i;obtain ⟨g1,g2⟩:=Fh hd hl (pR d0) ((i:Int)*size) (b:=(db b size i).1) (by omega)
  split
  ·exact CR h0 hp hb n (i+1) _ g1 g2
  ·exact ⟨h0,hp⟩
def iH(d:aA)(m:ag)(x:bD)(ph:Int):aA×Int :=
 if ph=1 then (if NI m x && (nj d x.b4 m.aw).2 then ((nj d x.b4 m.aw).1,2) else (d,ph))
 else if ph=2 then (vh d,3)
 else if ph=3 then (if (lJ d ⟨m.aS,pR d,m.aY⟩).2 then ((lJ d ⟨m.aS,pR d,m.aY⟩).1,4) else (d,ph))
 else if ph=4 then (vh d,5)
 else (d,ph)
theorem VU{α:Type}(ph:Int)(a b c e f:α):(bif ph == 1 then a else bif ph == 2 then b else bif ph == 3 then c else bif ph == 4 then e else f)=if ph=1 then a else if ph=2 then b else if ph=3 then c else if ph=4 then e else f:=by
 by_cases h1:ph=1
 ·simp [h1]
 ·by_cases h2:ph=2
  ·simp [h2]
  ·by_cases h3:ph=3
   ·simp [h3]
   ·by_cases h4:ph=4
    ·simp [h4]
    ·have e1:(ph == 1)=false:=by simpa using h1
     have e2:(ph == 2)=false:=by simpa using h2
     have e3:(ph == 3)=false:=by simpa using h3
     have e4:(ph == 4)=false:=by simpa using h4
     simp [e1,e2,e3,e4,h1,h2,h3,h4]
theorem Je{α:Type}(p:Prop)[Decidable p](a b:α):(if p then some a else some b)=some (if p then a else b):=by split <;> rfl
theorem Wt(w s:Bool)(a b c:aA×Int)(hb:b=c):(bif w then (bif s then some a else some b) else some c)=some (if (w && s)=true then a else c):=by subst hb; cases w <;> cases s <;> rfl
theorem Wu(s:Bool)(a b:aA×Int):(bif s then some a else some b)=some (if s=true then a else b):=by cases s <;> rfl
theorem DC{u:Nat}(hu:1099511627776<=u){d:aA}(hd:M.DOk d)(hl:d.fP.length<=1048575){m:ag}(hm:m.aC.length<=1048576){x:bD}(hx:M.BldWf x)(ph:Int):nz u d m x ph=some (iH d m x ph):=by
 unfold nz ip iH;simp only [L4 hu hm hx,GS hu hd hx.l,E6 hu hd,CQ,Fg hu hd hl,fM hu hd,wk,VU];rw [Wt _ _ _ _ _ rfl,Wu,Je,Je,Je,Je]
theorem K6{d:aA}(hd:M.DOk d)(hl:d.fP.length<=200){m:ag}{x:bD}(hx:M.BldWf x)(ph:Int):M.DOk (iH d m x ph).1/\(iH d m x ph).1.fP.length<=200:=by
 have hs:M.DOk (vh d)/\(vh d).fP.length<=200:=by
  refine ⟨RK hd,?_⟩;unfold vh
  split
  ·rw [Pr]; simp
  ·exact hl
 have hst:M.DOk (nj d x.b4 m.aw).1/\(nj d x.b4 m.aw).1.fP.length<=200:=by
  unfold nj
  split
  ·exact CR hd hl hx.l _ _ _ hd hl
  ·exact ⟨hd,hl⟩
 have hr:M.DOk (lJ d ⟨m.aS,pR d,m.aY⟩).1/\(lJ d ⟨m.aS,pR d,m.aY⟩).1.fP.length<=200:=by
  unfold lJ;rcases QS d ⟨2,0,[],⟨m.aS,pR d,m.aY⟩⟩ with ⟨h1,h2⟩ | h1
  ·rw [h1]; exact ⟨B3 hd (by omega) (by simp),Px h2⟩
  ·rw [h1]; exact ⟨hd,hl⟩
 unfold iH
 split
 ·split
  ·exact hst
  ·exact ⟨hd,hl⟩
 ·split
  ·exact hs
  ·split
   ·split
    ·exact hr
    ·exact ⟨hd,hl⟩
   ·split
    ·exact hs
    ·exact ⟨hd,hl⟩
theorem BK{u:Nat}(hu:1099511627776<=u){m:fz}(hm:M.MsgWf m):mQ u m=some (iY m):=by
 have k:=bN [] m.bK;have g:=bN (aZ [] m.bK) m.aS;simp only [zXw] at k;have hl:=hm.len;obtain ⟨hb,hbl⟩:=KX hm;unfold mQ iY;rw [ye hu hm.sums];simp only [wk]
 cases hok:tv m with
 | false=>rfl
 | true =>
  simp only [zQV,cond_false,if_true];rw [dj hu (by simp)];simp only [wk];have tail:iN u (gU m)=some (aZ (gU m) (cr (gU m))):=by
   unfold iN;rw [ti hu hb (by omega)];simp only [wk];rw [dj hu (by omega)]; rfl
  rw [<- tail]
  clear tail hbl hb
  unfold gU uM
  by_cases h1:m.bK=1
  ·simp only [h1,beq_self_eq_true,cond_true,if_true];rw [h1] at k;rw [KA hu (by omega) (by have:=hm.sums; omega) hm.wf]; rfl
  ·have e1:(m.bK == 1)=false:=by simpa using h1
   by_cases h2:m.bK=2
   ·rw [h2] at k g;have h3:=bN (aZ (aZ [] 2) m.aS) (gE .i64 m.ck 1048575);have h4:=bN (aZ (aZ (aZ [] 2) m.aS) (gE .i64 m.ck 1048575)) (rJ .i64 m.ck 20);have h5:=bN (aZ (aZ (aZ (aZ [] 2) m.aS) (gE .i64 m.ck 1048575)) (rJ .i64 m.ck 20)) (gE .i64 m.cq 1048575);simp only [h2,beq_self_eq_true,cond_true,if_true,sf];rw [dj hu (by omega)]; simp only [wk];rw [dj hu (by omega)]; simp only [wk];rw [dj hu (by omega)]; simp only [wk];rw [dj hu (by omega)]; simp only [wk];rw [dj hu (by omega)]; rfl
   ·have e2:(m.bK == 2)=false:=by simpa using h2
    by_cases h3:m.bK=3
    ·rw [h3] at k g;have h4:=bN (aZ (aZ [] 3) m.aS) m.fI;have h5:=bN (aZ (aZ (aZ [] 3) m.aS) m.fI) m.fB.length;simp only [h3,beq_self_eq_true,cond_true,if_true,vE];rw [dj hu (by omega)]; simp only [wk];rw [dj hu (by omega)]; simp only [wk];rw [dj hu (by omega)]; simp only [wk];rw [bu (by omega)]; rfl
    ·have e3:(m.bK == 3)=false:=by simpa using h3
     by_cases h4:m.bK=4
     ·rw [h4] at k;simp only [h4,beq_self_eq_true,cond_true,if_true];rw [dj hu (by omega)]; rfl
     ·have e4:(m.bK == 4)=false:=by simpa using h4
      rw [KY h1 h2 h3 h4] at hok; cases hok
def kM(f t:Int)(m:fz):ak:=⟨f,t,iY m⟩
def GT(g i:Int)(b:List Int):fz:=⟨3,g,IG,0,0,i,b⟩
theorem zY(g i:Int){b:List Int}(hb:aq b)(hl:b.length<=1048576):M.MsgWf (GT g i b):=E8 _ _ _ _ _ hb hl
theorem kg{u:Nat}(hu:1099511627776<=u)(f t:Int){m:fz}(hm:M.MsgWf m):d9 u f t m=some (kM f t m):=by
 unfold d9;rw [BK hu hm]; rfl
theorem vm(u:Nat)(g i:Int){b:List Int}(hl:b.length<=1048576):lh u g i b=some (GT g i b):=by
 unfold lh;rw [Fd hl]; rfl
theorem DD(m:ag){x:bD}(hx:M.BldWf x)(i:Int):aq (gV m x i).1/\(gV m x i).1.length<=1048576:=by
 unfold gV
 split
 ·exact GN hx.b hx.l _ _
 ·exact ⟨jf,by simp⟩
def vO(n:aK)(f t i:Int):ak:=kM f t (GT n.aD.aS i (gV n.aD n.bw i).1)
def fm(n:aK)(f t:Int):Act :=
 ⟨⟨n.gS,n.bM,n.bF,n.aD,n.bw,n.bi,nh n.bf t (nL n.bf t n.bw.bj),n.br⟩,((fy (nL n.bf t n.bw.bj)).filter λi=>(gV n.aD n.bw i).2).map (vO n f t)⟩
end Go.Tm.Pu
