/- Plain laws of the functions. -/
import Derived.Test.YtdcoelkflgpfgaaGreatCFnSafesD
set_option linter.unusedVariables false
set_option linter.unusedSimpArgs false
open Bool renaming and_eq_true->sk,and_self->zXV,eq_iff_iff->zYk,false_eq_true->zWW,not_true->zQK,true_and->zWk
open Int renaming add_mul->zZx,ediv_ediv_of_nonneg->zZh,emod_lt_of_pos->zZj,emod_nonneg->zZk,eq_ofNat_of_zero_le->zQJ,le_refl->zVV,mul_comm->zVQ,pow_succ->zYW,tmod_eq_emod_of_nonneg->zXq,toNat->sY,toNat_natCast->rg
open List renaming all_cons->zYh,append_assoc->zQZ,append_nil->zWQ,drop_eq_getElem_cons->zXy,drop_of_length_le->zXv,foldl_cons->zYK,getElem?_cons_zero->zWJ,getElem?_drop->zQq,getElem?_eq_getElem->sX,getElem?_map->zQX,getElem?_range->zYj,getElem_mem->zXG,head?->zZQ,head?_drop->zXj,length->zYq,length_append->zQV,length_cons->zQG,length_drop->zYV,length_map->zXQ,length_nil->zXZ,length_set->zXJ,length_singleton->zYw,length_take->zQz,map_cons->zWh,mem_append->zWw,mem_map->zYZ,mem_of_mem_drop->zWg,mem_of_mem_take->zWX,mem_or_eq_of_mem_set->zXz,mem_singleton->zQH,nil_append->zQy,range->zXW,range'->zWY,range'_succ->zXh,range_eq_range'->zXx,replicate->zQk,tail->zZV,tail_drop->zYX,take_of_length_le->zXk
open Nat renaming add_zero->zXg,and_two_pow_sub_one_eq_mod->zZJ,le_refl->zWy,le_trans->zWx,lt_of_lt_of_le->zQj,min_eq_left->zXH,mul_le_mul_right->zWV,pow_le_pow_right->zWz,zero_add->zWZ
open Option renaming bind_some->wk
namespace Go.Tm.Pu
open Go.Tm
def au(n a b:Int):Bool:=decide (a<=n) && decide (n<=b)
def dn(size n:Int):Bool:=au size 2 6 && au n 0 (40*size)
def bJ(size n:Int):Int:=if dn size n then (n+size - 1) / size else 0
def ch(size n i:Int):Int×Int:=if au i 0 (bJ size n - 1) then (i*size,min size (n - i*size)) else (0,0)
theorem cd{n a b:Int}(h:au n a b=true):a<=n/\n<=b:=by simpa [au] using h
theorem Ka{n a b:Int}(h:au n a b=false):n < a\/b < n:=by
 simp [au] at h; omega
theorem m3(u:Nat)(n a b:Int):js u n a b=some (au n a b):=by
 unfold js au
 by_cases h:a<=n <;> simp [h]
theorem bL(u:Nat)(n a b:Int):bM u n a b=some (au n a b):=by
 unfold bM au
 by_cases h:a<=n <;> simp [h]
theorem pm(u:Nat)(s n:Int):lU u s n=some (dn s n):=by
 unfold lU dn;simp only [bL,wk]
 cases h:au s 2 6 with
 | false=>simp
 | true =>
  have:=cd h;simp (disch:=omega) only [cond_true,zWk,pg];rw [zVQ]
theorem qI{s n:Int}(h:dn s n=true):2<=s/\s<=6/\0<=n/\n<=40*s:=by
 simp [dn,au] at h; omega
def BO(a b:Int):Int:=if au a 0 1000000000000 && au b 1 1000000000000 then (a+b - 1) / b else 0
theorem Ib(u:Nat)(a b:Int):rZ u a b=some (BO a b):=by
 unfold rZ BO qM;simp only [bL,wk]
 cases h:au a 0 1000000000000 with
 | false=>simp
 | true =>
  cases h2:au b 1 1000000000000 with
  | false=>simp
  | true =>
   have:=cd h;have:=cd h2;have hb:(b == 0)=false:=by simp; omega
   simp (disch:=omega) [dC,dy,dD,Om,hb]
theorem OG{s n:Int}(h:dn s n=true):BO n s=(n+s - 1) / s:=by
 have:=qI h;have h1:au n 0 1000000000000=true:=by simp [au]; omega
 have h2:au s 1 1000000000000=true:=by simp [au]; omega
 simp [BO,h1,h2]
theorem gE(u:Nat)(s n:Int):lW u s n=some (bJ s n):=by
 unfold lW bJ;simp only [pm,Ib,wk]
 cases h:dn s n with
 | false=>simp
 | true=>simp [OG h]
theorem dA(s n:Int):0<=bJ s n/\bJ s n<=40:=by
 unfold bJ
 split
 ·rename_i h;have h:=qI h;refine ⟨Int.ediv_nonneg (by omega) (by omega),?_⟩;have:(n+s - 1) / s < 41:=Int.ediv_lt_of_lt_mul (by omega) (by omega);omega
 ·omega
theorem BP{s n i:Int}(h:au i 0 (bJ s n - 1)=true):dn s n=true/\0<=i/\i<=39:=by
 have h1:=cd h;have:=dA s n;refine ⟨?_,by omega,by omega⟩
 cases h2:dn s n with
 | true=>rfl
 | false=>simp [bJ,h2] at h1; omega
theorem Gn{s i:Int}(h1:2<=s)(h2:s<=6)(h3:0<=i)(h4:i<=39):0<=i*s/\i*s<=234 :=
 ⟨Int.mul_nonneg h3 (by omega),Int.le_trans (Int.mul_le_mul h4 h2 (by omega) (by omega)) (by omega)⟩
theorem xR(u:Nat)(a b:Int):rk u a b=some (min a b):=by
 unfold rk
 by_cases h:b < a <;> simp [h] <;> omega
theorem jz(u:Nat)(s n i:Int):fm u s n i=some (ch s n i):=by
 unfold fm ch;have hb:=dA s n;simp (disch:=omega) only [gE,bL,wk,dD]
 cases h:au i 0 (bJ s n - 1) with
 | false=>simp
 | true =>
  have ⟨h1,h2,h3⟩:=BP h;have h1:=qI h1;have h4:=Gn (s:=s) (i:=i) (by omega) (by omega) h2 h3;simp (disch:=omega) [pg,dD,xR]
def aB(b:List Int):Prop:=∀ x∈b,0<=x/\x<=255
def s9:List Int->Int->Int->Int×Int
 | [],x,y=>(x,y)
 | c :: b,x,y=>s9 b ((x+c) % 251) ((y+(x+c) % 251) % 251)
def cF(b:List Int):Int:=(s9 b 0 0).1+251*(s9 b 0 0).2
theorem Hb(b:List Int):∀ (x y:Int),0<=x->x < 251->0<=y->y < 251->0<=(s9 b x y).1/\(s9 b x y).1 < 251/\0<=(s9 b x y).2/\(s9 b x y).2 < 251:=by
 induction b with
 | nil=>intro x y h1 h2 h3 h4; exact ⟨h1,h2,h3,h4⟩
 | cons c b ih =>
  intro x y h1 h2 h3 h4;exact ih _ _ (by omega) (by omega) (by omega) (by omega)
theorem EC(b:List Int):0<=cF b/\cF b<=63000:=by
 have:=Hb b 0 0 (by omega) (by omega) (by omega) (by omega);unfold cF; omega
theorem Lt(u:Nat):∀ (p b:List Int) (i:Nat) (x y:Int),aB b->0<=x->x < 251->0<=y->y < 251 ->
  cA (yh u p) (tr u p) b i (x,y)=oN u (s9 b x y).1 (s9 b x y).2:=by
 intro p b
 induction b with
 | nil=>intros; rfl
 | cons c b ih =>
  intro i x y hb h1 h2 h3 h4;have hc:=hb c (by simp);have e1:uG .i64 (bd .i64 x (IntKind.wrap .i64 c)) 251=(x+c) % 251:=by
   rw [gX (by omega) (by omega),dy (by omega) (by omega),AZ (by omega)]
  have e2:uG .i64 (bd .i64 y ((x+c) % 251)) 251=(y+(x+c) % 251) % 251:=by
   rw [dy (by omega) (by omega),AZ (by omega)]
  simp only [cA,tr,e1,e2];exact ih (i+1) _ _ (λz hz=>hb z (by simp [hz])) (by omega) (by omega) (by omega) (by omega)
theorem ta{u:Nat}(hu:1099511627776<=u){b:List Int}(hb:aB b)(hl:b.length<=1073741824):na u b=some (cF b):=by
 unfold na;rw [Fm u b (0,0) u (by omega) (by omega),Lt u b b 0 0 0 hb (by omega) (by omega) (by omega) (by omega)];have:=Hb b 0 0 (by omega) (by omega) (by omega) (by omega);unfold oN cF;simp (disch:=omega) only [pg,dy]
theorem RW{n m:Int}(hm:0 < m):(n.tmod m+m).tmod m=n % m:=by
 rcases Int.le_total 0 n with h | h
 ·rw [zXq h,zXq (by have:=zZk n (show m≠0 by omega); omega)];simp
 ·have h1:n.tmod m=-((-n) % m):=by
   rw [show n=-(-n) by omega,Int.neg_tmod,zXq (by omega)]; simp
  have h2:=zZk (-n) (show m≠0 by omega);have h3:=zZj (-n) hm;rw [h1,zXq (by omega)];have:(-((-n) % m)+m) % m=n % m:=by
   have e:-n=m*(-n / m)+(-n) % m:=(Int.mul_ediv_add_emod (-n) m).symm;have e2:-((-n) % m)+m=n+m*(-n / m+1):=by
    rw [Int.mul_add]; omega
   rw [e2,Int.add_mul_emod_self_left]
  exact this
theorem P6{n m:Int}(hm:0 < m):-m < n.tmod m/\n.tmod m < m:=by
 rcases Int.le_total 0 n with h | h
 ·rw [zXq h];have h2:=zZk n (show m≠0 by omega);have h3:=zZj n hm;omega
 ·have h1:n.tmod m=-((-n) % m):=by
   rw [show n=-(-n) by omega,Int.neg_tmod,zXq (by omega)]; simp
  have h2:=zZk (-n) (show m≠0 by omega);have h3:=zZj (-n) hm;omega
def mh:Nat->Int->List Int
 | 0,_=>[]
 | n+1,s=>mh n (s / 256)++[s % 256]
def nX:Nat->Int->Option (List Int)
 | 0,s=>if s=1 then some [] else none
 | n+1,s=>if s=1 then some [] else if s < 256 then none else (nX n (s / 256)).map (·++[s % 256])
def ce(s:Int):List Int×Bool:=if s < 1 then ([],false) else match nX 6 s with | some b=>(b,true) | none=>([],false)
def Ch:Nat->Int->Nat
 | 0,_=>0
 | k+1,t=>if 1 < t then Ch k (t / 256)+1 else 0
def rh:Nat->Int->Int
 | 0,t=>t
 | k+1,t=>if 1 < t then rh k (t / 256) else t
theorem Vp:∀ (k:Nat) (t:Int),Ch k t<=k:=by
 intro k
 induction k with
 | zero=>intro t; simp [Ch]
 | succ k ih=>intro t; unfold Ch; have:=ih (t / 256); split <;> omega
theorem OH:∀ (k:Nat) (t:Int),rh k t=t / 256 ^ Ch k t:=by
 intro k
 induction k with
 | zero=>intro t; simp [rh,Ch]
 | succ k ih =>
  intro t;unfold rh Ch
  split
  ·rw [ih,zZh (by omega),zYW,zVQ]
  ·simp
theorem Mo:∀ (k:Nat) (t:Int),0<=t->nX k t=if rh k t=1 then some (mh (Ch k t) t) else none:=by
 intro k
 induction k with
 | zero=>intro t h; simp [nX,rh,Ch,mh]
 | succ k ih =>
  intro t h;unfold nX rh Ch
  by_cases h1:t=1
  ·subst h1; simp [mh]
  ·rw [if_neg h1]
   by_cases h2:1 < t
   ·simp only [if_pos h2]
    by_cases h3:t < 256
    ·have:t / 256=0:=Int.ediv_eq_zero_of_lt h h3;rw [if_pos h3,this];have:rh k 0=0:=by rw [OH]; simp
     rw [this]; simp
    ·rw [if_neg h3,ih _ (by omega)]
     split <;> simp [mh]
   ·have:t=0:=by omega
    subst this; simp
theorem Te:∀ (k:Nat) (t:Int),0<=t->t / 256 ^ k<=rh k t:=by
 intro k
 induction k with
 | zero=>intro t h; simp [rh]
 | succ k ih =>
  intro t h;unfold rh
  split
  ·have:=ih (t / 256) (by omega);rwa [zZh (by omega),zVQ,<- zYW] at this
  ·exact Int.ediv_le_self _ h
theorem M6:∀ (n:Nat) (s:Int),aB (mh n s):=by
 intro n
 induction n with
 | zero=>intro s x hx; simp [mh] at hx
 | succ n ih =>
  intro s x hx;simp only [mh,zWw,zQH] at hx;rcases hx with h | h
  ·exact ih _ x h
  ·omega
theorem Lu:∀ (n:Nat) (s:Int),(mh n s).length=n:=by
 intro n
 induction n with
 | zero=>intro s; rfl
 | succ n ih=>intro s; simp [mh,ih]
theorem vE{s:Int}{b:List Int}(h:ce s=(b,true)):1<=s/\s / 256 ^ b.length=1/\b=mh b.length s/\b.length<=6:=by
 unfold ce at h
 split at h
 ·cases h
 ·rename_i h1;rw [Mo 6 s (by omega)] at h;have he:=OH 6 s;have hn:=Vp 6 s
  by_cases h2:rh 6 s=1
  ·simp only [h2,if_true,Prod.mk.injEq,and_true] at h;subst h;rw [Lu];exact ⟨by omega,by rw [<- he]; exact h2,rfl,hn⟩
  ·simp [h2] at h
theorem xS(s:Int):aB (ce s).1/\(ce s).1.length<=6:=by
 match h:ce s with
 | (b,true) =>
  have h:=vE h;exact ⟨by rw [h.2.2.1]; exact M6 _ _,h.2.2.2⟩
 | (b,false) =>
  have:b=[]:=by
   unfold ce at h
   split at h
   ·simp at h; exact h.symm ▸ rfl
   ·split at h <;> simp at h; exact h.symm ▸ rfl
  subst this;exact ⟨by simp [aB],by simp⟩
theorem Us(a:Int)(h:0<=a):IntKind.wrap .u8 (fK .i64 a 255)=a % 256:=by
 have:fK .i64 a 255=a % 256:=by
  unfold fK;have e:(BitVec.ofInt (IntKind.bits .i64) a &&& BitVec.ofInt (IntKind.bits .i64) 255).toNat=(a % 256).toNat:=by
   change (BitVec.ofInt 64 a &&& BitVec.ofInt 64 255).toNat=(a % 256).toNat
   rw [BitVec.toNat_and,BitVec.toNat_ofInt,BitVec.toNat_ofInt,show ((255:Int) % ((2 ^ 64:Nat):Int)).toNat=2 ^ 8 - 1 by decide,zZJ];omega
  rw [e];exact (gX (by omega) (by omega)).trans (by omega)
 rw [this,zG]; omega
theorem C3(u:Nat):∀ (k n:Nat) (s:Int) (acc:List Int),n < k->1<=s->s < 256 ^ n*2->acc.length+n<=1000 ->
  lF u k s acc=some (match nX n s with | some b=>(b++acc,true) | none=>([],false)):=by
 intro k
 induction k with
 | zero=>intro n s acc h; omega
 | succ k ih =>
  intro n s acc hk h1 h2 h3;unfold lF
  by_cases h4:s=1
  ·subst h4
   cases n <;> simp [nX,uN]
  ·have h5:s > 1:=by omega
   cases n with
   | zero=>simp at h2; omega
   | succ n =>
    simp only [h5,decide_true,cond_true,nX,if_neg h4]
    by_cases h6:s < 256
    ·simp [h6]
    ·have hw:([IntKind.wrap .u8 (fK .i64 s 255)])=[s % 256]:=by rw [Us _ (by omega)]
     simp only [h6,decide_false,cond_false,if_false,VP,hw];rw [bD (by simp; omega)];simp only [wk];rw [ih n (s / 256) _ (by omega) (by omega) (by rw [zYW] at h2; omega) (by simp; omega)]
     cases nX n (s / 256) <;> simp
theorem Hc{s:Int}(h:562949953421311 < s):ce s=([],false):=by
 unfold ce;rw [if_neg (by omega),Mo 6 s (by omega)];have:=Te 6 s (by omega);have e:(256:Int) ^ 6=281474976710656:=by decide
 rw [e] at this;rw [if_neg (by omega)]
theorem u3{u:Nat}(hu:1099511627776<=u)(s:Int):np u s=some (ce s):=by
 unfold np;simp only [bL,wk]
 cases h:au s 1 562949953421311 with
 | false =>
  rcases Ka h with h | h
  ·simp [ce,h]
  ·rw [Hc h]; simp
 | true =>
  have h:=cd h;have e:(256:Int) ^ 6=281474976710656:=by decide
  simp only [zQK,cond_false];rw [C3 u u 6 s [] (by omega) (by omega) (by rw [e]; omega) (by simp)];unfold ce;rw [if_neg (by omega)]
  cases nX 6 s <;> simp
def iJ:List Int->Int->Int
 | [],s=>s
 | c :: b,s=>iJ b (256*s+c)
def dX(b:List Int):cS:=if 6 < b.length then ⟨0,0⟩ else ⟨cF b,iJ b 1⟩
theorem OI(a b:List Int):∀ s,iJ (a++b) s=iJ b (iJ a s):=by
 induction a with
 | nil=>intro s; rfl
 | cons c a ih=>intro s; exact ih _
theorem OJ:∀ (n:Nat) (s:Int),s / 256 ^ n=1->iJ (mh n s) 1=s:=by
 intro n
 induction n with
 | zero=>intro s h; simpa [mh,iJ] using h.symm
 | succ n ih =>
  intro s h;rw [mh,OI,ih]
  ·simp only [iJ]; omega
  ·rw [zZh (by omega),zVQ,<- zYW]; exact h
theorem xT{s:Int}{b:List Int}(h:ce s=(b,true)):dX b=⟨cF b,s⟩:=by
 have ⟨h1,h2,h3,h4⟩:=vE h;unfold dX;have:=OJ b.length s h2;rw [<- h3] at this;rw [if_neg (by omega),this]
theorem Kb:∀ (b:List Int) (s:Int) (n:Nat),aB b->0<=s->s < 256 ^ n*2->0<=iJ b s/\iJ b s < 256 ^ (n+b.length)*2:=by
 intro b
 induction b with
 | nil=>intro s n _ h1 h2; exact ⟨h1,h2⟩
 | cons c b ih =>
  intro s n hb h1 h2;have hc:=hb c (by simp);have:=ih (256*s+c) (n+1) (λz hz=>hb z (by simp [hz])) (by omega) (by rw [zYW]; omega);simp only [zQG,iJ];rwa [show n+(b.length+1)=n+1+b.length by omega]
theorem M7(u:Nat):∀ (p b:List Int) (i:Nat) (s:Int) (n:Nat),aB b->0<=s->s < 256 ^ n*2->n+b.length<=6 ->
  cA (zZ u p) (uM u p) b i s=qg u p (iJ b s):=by
 intro p b
 induction b with
 | nil=>intros; rfl
 | cons c b ih =>
  intro i s n hb h1 h2 h3;have hc:=hb c (by simp);simp only [zQG] at h3;have hp:(256:Int) ^ n<=1099511627776:=by
   rcases (show n=0\/n=1\/n=2\/n=3\/n=4\/n=5 by omega) with rfl | rfl | rfl | rfl | rfl | rfl <;> decide
  simp only [cA,uM];rw [gX (by omega) (by omega),pg (by omega) (by omega),dy (by omega) (by omega)];exact ih (i+1) _ (n+1) (λz hz=>hb z (by simp [hz])) (by omega) (by rw [zYW]; omega) (by omega)
theorem mv{u:Nat}(hu:1099511627776<=u){b:List Int}(hb:aB b)(hl:b.length<=1073741824):gT u b=some (dX b):=by
 unfold gT dX
 by_cases h:6 < b.length
 ·have:(b.length:Int) > 6:=by omega
  simp [h,this]
 ·have:¬ ((b.length:Int) > 6):=by omega
  simp only [this,decide_false,cond_false,h,if_false];rw [Hz u b 1 u (by omega) (by omega),M7 u b b 0 1 0 hb (by omega) (by decide) (by omega)];unfold qg;rw [ta hu hb hl];rfl
def po(size len:Int)(i:Nat)(s:cS):Bool:=(ce s.fS).2 && ((ce s.fS).1.length == (ch size len i).2) && (cF (ce s.fS).1 == s.fW)
def iW(size len:Int):List cS->Nat->Bool
 | [],_=>true
 | s :: l,i=>po size len i s && iW size len l (i+1)
def dd(m:al):Bool :=
 if m.aM=0 then m.aw == 0 && m.aW == 0 && m.aO.length == 0
 else au m.aM 1 1000000 && dn m.aw m.aW && ((m.aO.length:Int) == bJ m.aw m.aW) && iW m.aw m.aW m.aO 0
theorem Kc(a b:Int):(a != b)=!(a == b):=rfl
theorem M8{u:Nat}(hu:1099511627776<=u)(m:al):∀ (l:List cS) (i:Nat),l=m.aO.drop i->cA (Aa u m) (uO u m) l i ()=some (iW m.aw m.aW l i):=by
 intro l
 induction l with
 | nil=>intro i _; rfl
 | cons s l ih =>
  intro i hd;have hb:=xS s.fS;have hx:m.aO[i]?=some s:=by
   have:=congrArg zZQ hd
   simpa [zXj] using this.symm
  have hl:l=m.aO.drop (i+1):=by
   have:=congrArg zZV hd
   simpa [zYX] using this
  simp only [cA,uO,u3 hu,jz,wk,iW,po,km,ih (i+1) hl,mv hu hb.1 (show _<=_ by omega),Kc,dc,hx]
  cases h:(ce s.fS).2 with
  | false=>simp
  | true =>
   have h2:=xT (s:=s.fS) (b:=(ce s.fS).1) (by rw [<- h]);rw [h2];have h3:(([cF (ce s.fS).1,s.fS]:List Int) == [s.fW,s.fS])=(cF (ce s.fS).1 == s.fW):=by simp
   simp only [h3]
   cases (((ce s.fS).1.length:Int) == (ch m.aw m.aW ↑i).2) <;> cases (cF (ce s.fS).1 == s.fW) <;> simp
theorem gF{u:Nat}(hu:1099511627776<=u)(m:al)(hl:m.aO.length<=1073741824):ii u m=some (dd m):=by
 unfold ii dd qh;simp only [bL,pm,gE,wk,Kc,HA u m () u (by omega) (by omega),M8 hu m m.aO 0 (by simp)];have e0:(((m.aO.length:Int)) == 0)=(m.aO.length == 0):=by rw [zYk]; simp
 by_cases h:m.aM=0
 ·simp only [h,if_true,beq_self_eq_true,cond_true,e0]
  cases (m.aw == 0) <;> cases (m.aW == 0) <;> cases (m.aO.length == 0) <;> simp
 ·have:(m.aM == 0)=false:=by simpa using h
  simp only [h,if_false,this,cond_false,wk]
  cases au m.aM 1 1000000 <;> cases dn m.aw m.aW <;> cases ((m.aO.length:Int) == bJ m.aw m.aW) <;> simp
def cB:Nat->Int->List Int
 | 0,n=>[n % 256]
 | k+1,n=>if n<=127 then [n % 256] else (n % 128+128) :: cB k (n / 128)
def aZ(b:List Int)(n:Int):List Int:=if au n 0 1000000000000 then b++cB 9 n else b
theorem VX:∀ a:Nat,a < 256->(a ||| 128)=a % 128+128:=by decide +kernel
theorem M9(a:Int):fK .i64 a 127=a % 128:=by
 unfold fK;have e:(BitVec.ofInt (IntKind.bits .i64) a &&& BitVec.ofInt (IntKind.bits .i64) 127).toNat=(a % 128).toNat:=by
  change (BitVec.ofInt 64 a &&& BitVec.ofInt 64 127).toNat=(a % 128).toNat
  rw [BitVec.toNat_and,BitVec.toNat_ofInt,BitVec.toNat_ofInt,show ((127:Int) % ((2 ^ 64:Nat):Int)).toNat=2 ^ 7 - 1 by decide,zZJ];omega
 rw [e];exact (gX (by omega) (by omega)).trans (by omega)
theorem Q7(a:Int)(h1:0<=a)(h2:a < 256):xO .i64 a 128=a % 128+128:=by
 unfold xO;have e:(BitVec.ofInt (IntKind.bits .i64) a ||| BitVec.ofInt (IntKind.bits .i64) 128).toNat=(a % 128+128).toNat:=by
  change (BitVec.ofInt 64 a ||| BitVec.ofInt 64 128).toNat=_
  rw [BitVec.toNat_or,BitVec.toNat_ofInt,BitVec.toNat_ofInt,show ((128:Int) % ((2 ^ 64:Nat):Int)).toNat=128 by decide,show (a % ((2 ^ 64:Nat):Int)).toNat=a.toNat by omega,VX _ (by omega)];omega
 rw [e];exact (gX (by omega) (by omega)).trans (by omega)
theorem C4:∀ (k:Nat) (n:Int),(cB k n).length<=k+1:=by
 intro k
 induction k with
 | zero=>intro n; simp [cB]
 | succ k ih =>
  intro n;unfold cB;have:=ih (n / 128)
  split <;> simp <;> omega
theorem Mp:∀ (k:Nat) (n:Int),aB (cB k n):=by
 intro k
 induction k with
 | zero=>intro n x hx; simp [cB] at hx; omega
 | succ k ih =>
  intro n x hx;unfold cB at hx
  split at hx
  ·simp at hx; omega
  ·rcases List.mem_cons.1 hx with h | h
   ·omega
   ·exact ih _ x h
theorem xy{a b:List Int}(h:aB a)(k:aB b):aB (a++b):=by
 intro x hx;rcases List.mem_append.1 hx with g | g
 ·exact h x g
 ·exact k x g
theorem B5(u:Nat):∀ (j k:Nat) (n:Int) (b:List Int),n < 128 ^ (j+1)->j < k->b.length+j<=1099511627776->iP u k b n=some (b++cB j n):=by
 intro j
 induction j with
 | zero =>
  intro k n b h1 h2 h3;obtain ⟨k,rfl⟩:∃ i,k=i+1:=⟨k - 1,by omega⟩;unfold iP;have:¬ (n > 127):=by simp at h1; omega
  simp only [this,decide_false,cond_false,pD,cB,zG];rw [bD (by simp; omega)]; rfl
 | succ j ih =>
  intro k n b h1 h2 h3;obtain ⟨k,rfl⟩:∃ i,k=i+1:=⟨k - 1,by omega⟩;unfold iP
  by_cases h:n > 127
  ·have h':¬ n<=127:=by omega
   simp only [h,decide_true,cond_true,cB,h',if_false,zG,U1,M9];rw [bD (by simp; omega),Q7 _ (by omega) (by omega)];simp only [wk];rw [ih k (n / 128) _ (by rw [zYW] at h1; omega) (by omega) (by simp; omega),show (n % 128 % 128+128) % 256=n % 128+128 by omega];simp
  ·have h':n<=127:=by omega
   simp only [h,decide_false,cond_false,cB,h',if_true,pD,zG];rw [bD (by simp; omega)]; rfl
theorem ED(u:Nat):∀ (j k:Nat) (n:Int) (b:List Int),n < 128 ^ (j+1)->j < k->b.length+j<=1099511627776->k8 u k n b=some (b++cB j n):=by
 intro j
 induction j with
 | zero =>
  intro k n b h1 h2 h3;obtain ⟨k,rfl⟩:∃ i,k=i+1:=⟨k - 1,by omega⟩;unfold k8;have:¬ (n > 127):=by simp at h1; omega
  simp only [this,decide_false,cond_false,sq,cB,zG];rw [bD (by simp; omega)]; rfl
 | succ j ih =>
  intro k n b h1 h2 h3;obtain ⟨k,rfl⟩:∃ i,k=i+1:=⟨k - 1,by omega⟩;unfold k8
  by_cases h:n > 127
  ·have h':¬ n<=127:=by omega
   simp only [h,decide_true,cond_true,cB,h',if_false,zG,U1,M9];rw [bD (by simp; omega),Q7 _ (by omega) (by omega)];simp only [wk];rw [ih k (n / 128) _ (by rw [zYW] at h1; omega) (by omega) (by simp; omega),show (n % 128 % 128+128) % 256=n % 128+128 by omega];simp
  ·have h':n<=127:=by omega
   simp only [h,decide_false,cond_false,cB,h',if_true,sq,zG];rw [bD (by simp; omega)]; rfl
theorem VY:(128:Int) ^ (9+1)=1180591620717411303424:=by decide
theorem Gp{u:Nat}(hu:1099511627776<=u){b:List Int}{n:Int}(hl:b.length<=1073741824)(hn:n<=9223372036854775807):ql u b n=some (b++cB 9 n) :=
 B5 u 9 u n b (by rw [VY]; omega) (by omega) (by omega)
theorem tc(u:Nat){b:List Int}(hl:b.length<=1073741824):ni u b=some b:=by
 unfold ni;rw [bD (by simp; omega),bD (by simp; omega)];simp [dC]
theorem dR{u:Nat}(hu:1099511627776<=u){b:List Int}{n:Int}(hl:b.length<=1073741824):ed u b n=some (aZ b n):=by
 unfold ed aZ;rw [bD (by simp; omega)];simp only [bL,wk,zQy]
 cases h:au n 0 1000000000000 with
 | false=>simp
 | true=>have:=cd h; simp [ED u 9 u n b (by rw [VY]; omega) (by omega) (by omega)]
theorem bT(b:List Int)(n:Int):(aZ b n).length<=b.length+10:=by
 unfold aZ;have:=C4 9 n
 split <;> simp <;> omega
def jI(b:List Int):List cS->List Int
 | []=>b
 | s :: l=>jI (b++cB 9 s.fS) l
def pp(b:List Int)(m:al):List Int:=if dd m then jI (aZ (aZ (aZ b m.aM) m.aw) m.aW) m.aO else b
def pW(m:al):Prop:=∀ s∈m.aO,s.fS<=9223372036854775807
theorem vP{m:al}(h:dd m=true):m.aO.length<=40:=by
 unfold dd at h
 split at h
 ·simp only [sk,beq_iff_eq] at h;have:=h.2;omega
 ·have:=dA m.aw m.aW;simp only [sk,beq_iff_eq] at h;omega
theorem Lv{u:Nat}(hu:1099511627776<=u)(m:al):∀ (l:List cS) (i:Nat) (b:List Int),(∀ s∈l,s.fS<=9223372036854775807)->b.length+10*l.length<=1073741824 ->
  cA (yj u m) (tA u m) l i b=some (jI b l):=by
 intro l
 induction l with
 | nil=>intros; rfl
 | cons s l ih =>
  intro i b h1 h2;simp only [zQG] at h2;have h3:=C4 9 s.fS;simp only [cA,tA,Gp hu (show b.length<=1073741824 by omega) (h1 s (by simp)),wk,jI];exact ih (i+1) _ (λz hz=>h1 z (by simp [hz])) (by simp; omega)
theorem Kd{u:Nat}(hu:1099511627776<=u){b:List Int}{m:al}(hl:b.length<=536870912)(hm:m.aO.length<=1073741824)(hw:pW m):uo u b m=some (pp b m):=by
 unfold uo pp;have h1:=bT b m.aM;have h2:=bT (aZ b m.aM) m.aw;have h3:=bT (aZ (aZ b m.aM) m.aw) m.aW;rw [bD (by simp; omega),gF hu m hm];simp only [zQy,wk]
 cases h:dd m with
 | false=>simp
 | true =>
  have h4:=vP h;simp only [wk,zQK,cond_false,if_true];rw [dR hu (by omega)]; simp only [wk];rw [dR hu (by omega)]; simp only [wk];rw [dR hu (by omega)]; simp only [wk];rw [Ft u m _ u (by omega) (by omega),Lv hu m _ _ _ hw (by omega)]
theorem ov{a:Int}(h1:0<=a)(h2:a < 18446744073709551616):(BitVec.ofInt 64 a).toNat=a.toNat:=by
 rw [BitVec.toNat_ofInt]; omega
theorem IX{a b:Nat}(h1:a < 9223372036854775808)(h2:b < 9223372036854775808):xO .i64 (a:Int) (b:Int)=((a ||| b:Nat):Int):=by
 unfold xO;have e:(BitVec.ofInt (IntKind.bits .i64) (a:Int) ||| BitVec.ofInt (IntKind.bits .i64) (b:Int)).toNat=a ||| b:=by
  change (BitVec.ofInt 64 (a:Int) ||| BitVec.ofInt 64 (b:Int)).toNat=_
  rw [BitVec.toNat_or,ov (by omega) (by omega),ov (by omega) (by omega)]; rfl
 rw [e];have:a ||| b < 2 ^ 63:=Nat.or_lt_two_pow (by omega) (by omega)
 exact gX (by omega) (by omega)
theorem OK{a b:Nat}(h1:a < 9223372036854775808)(h2:b < 9223372036854775808):fK .i64 (a:Int) (b:Int)=((a &&& b:Nat):Int):=by
 unfold fK;have e:(BitVec.ofInt (IntKind.bits .i64) (a:Int) &&& BitVec.ofInt (IntKind.bits .i64) (b:Int)).toNat=a &&& b:=by
  change (BitVec.ofInt 64 (a:Int) &&& BitVec.ofInt 64 (b:Int)).toNat=_
  rw [BitVec.toNat_and,ov (by omega) (by omega),ov (by omega) (by omega)]; rfl
 rw [e];have:a &&& b<=a:=Nat.and_le_left;exact gX (by omega) (by omega)
theorem vQ{i:Nat}(h:i<=62):jF .i64 1 (i:Int)=((2 ^ i:Nat):Int):=by
 unfold jF;rw [show min (sY (i:Int)) (IntKind.bits .i64)=i by simp [IntKind.bits]; omega];have h1:(2:Nat) ^ i<=2 ^ 62:=zWz (by omega) h;have h2:(1:Int)*2 ^ i=((2 ^ i:Nat):Int):=by simp
 rw [h2];generalize (2:Nat) ^ i=p at h1;exact gX (by omega) (by omega)
theorem OL{a i:Nat}(h:i<=64):nD .i64 (a:Int) (i:Int)=((a / 2 ^ i:Nat):Int):=by
 rw [PT .i64 _ i h]; simp
def uf:Nat->(Nat->Bool)->Nat
 | 0,_=>0
 | n+1,f=>uf n f ||| (if f n then 2 ^ n else 0)
theorem Ci(f:Nat->Bool):∀ (n i:Nat),(uf n f).testBit i=(decide (i < n) && f i):=by
 intro n
 induction n with
 | zero=>intro i; simp [uf]
 | succ n ih =>
  intro i;rw [uf,Nat.testBit_or,ih]
  by_cases h:i=n
  ·subst h
   cases f i <;> simp [Nat.testBit_two_pow_self]
  ·have h1:(if f n=true then 2 ^ n else 0).testBit i=false:=by
    split
    ·exact Nat.testBit_two_pow_of_ne (Ne.symm h)
    ·simp
   rw [h1,Bool.or_false]
   congr 1
   rw [decide_eq_decide]; omega
theorem Tf(f:Nat->Bool)(n:Nat):uf n f < 2 ^ n:=by
 induction n with
 | zero=>simp [uf]
 | succ n ih =>
  rw [uf];refine Nat.or_lt_two_pow (by rw [Nat.pow_succ]; omega) ?_;have:=Nat.pow_lt_pow_right (a:=2) (by omega) (Nat.lt_succ_self n)
  split <;> omega
theorem OM{a b n:Nat}(hn:n<=62)(h1:a < 2 ^ n)(h2:b < 2 ^ n):zF .i64 (a:Int) (b:Int)=((uf n (λi=>a.testBit i && !b.testBit i):Nat):Int):=by
 have hp:(2:Nat) ^ n<=2 ^ 62:=zWz (by omega) hn;unfold zF;have e:(BitVec.ofInt (IntKind.bits .i64) (a:Int) &&& ~~~ BitVec.ofInt (IntKind.bits .i64) (b:Int)).toNat=uf n (λi=>a.testBit i && !b.testBit i):=by
  change (BitVec.ofInt 64 (a:Int) &&& ~~~ BitVec.ofInt 64 (b:Int)).toNat=_
  apply Nat.eq_of_testBit_eq
  intro i;rw [Ci,BitVec.toNat_and,Nat.testBit_and,ov (by omega) (by omega),BitVec.testBit_toNat,BitVec.getLsbD_not];have hb:(BitVec.ofInt 64 (b:Int)).getLsbD i=b.testBit i:=by rw [<- BitVec.testBit_toNat,ov (by omega) (by omega)]; rfl
  rw [hb];have ha:((a:Int).toNat).testBit i=a.testBit i:=by simp
  rw [ha]
  by_cases hi:i < n
  ·have:i < 64:=by omega
   simp [hi,this]
  ·have:a < 2 ^ i:=zQj h1 (zWz (by omega) (by omega));simp [hi,Nat.testBit_lt_two_pow this]
 rw [e];have:=Tf (λi=>a.testBit i && !b.testBit i) n;exact gX (by omega) (by omega)
def cq(s:Int):Bool:=au s 0 1099511627775
def fe(i:Int):Bool:=au i 0 39
def ef(s i:Int):Bool:=cq s && fe i && s.toNat.testBit i.toNat
theorem Lw(u:Nat)(s:Int):ws u s=some (cq s):=by simp [ws,m3,cq]
theorem ie(u:Nat)(s:Int):ek u s=some (cq s):=by simp [ek,bL,cq]
theorem Ic(u:Nat)(s:Int):sO u s=some (fe s):=by simp [sO,m3,fe]
theorem Tg{s i:Int}(hs:cq s=true)(hi:fe i=true):(fK .i64 (nD .i64 s i) 1 == 1)=s.toNat.testBit i.toNat:=by
 have h1:=cd hs;have h2:=cd hi;obtain ⟨a,rfl⟩:=zQJ h1.1;obtain ⟨n,rfl⟩:=zQJ h2.1;rw [OL (by omega)];have h3:a / 2 ^ n<=a:=Nat.div_le_self a _;rw [show (1:Int)=((1:Nat):Int) by rfl,OK (by omega) (by omega),Nat.and_one_is_mod];simp only [rg,Nat.testBit_eq_decide_div_mod_eq];generalize a / 2 ^ n=z;rw [zYk,beq_iff_eq,decide_eq_true_eq]; omega
theorem Lx(u:Nat)(s i:Int):wt u s i=some (ef s i):=by
 unfold wt ef;simp only [Lw,Ic,wk]
 cases h1:cq s with
 | false=>simp
 | true =>
  cases h2:fe i with
  | false=>simp
  | true =>
   have h3:=cd h2;rw [bD (by omega)];simp [Tg h1 h2]
theorem kD(u:Nat)(s i:Int):eD u s i=some (ef s i):=by
 unfold eD ef;simp only [ie,bL,wk]
 cases h1:cq s with
 | false=>simp
 | true =>
  change ((bif true then (bif fe i then _ else _) else _):Option Bool)=_
  cases h2:fe i with
  | false=>simp
  | true =>
   have h3:=cd h2;simp only [cond_true];rw [bD (by omega)];simp [Tg h1 h2]
def lO(s:Int):List Int:=if cq s then ((zXW 40).filter λi=>s.toNat.testBit i).map Int.ofNat else []
theorem ON{α ρ:Type}{fin:List α->Option ρ}{body:Nat->List α->(List α->Option ρ)->Option ρ}(f:Nat->Bool)(g:Nat->α)(n c:Nat)(hb:∀ i s k,i < n->s.length<=c+i->body i s k=k (if f i then s++[g i] else s)) :
  ∀ (m i:Nat) (s:List α),i+m=n->s.length<=c+i->lB fin body m i s=fin (s++(((zWY i m).filter f).map g)):=by
 intro m
 induction m with
 | zero=>intro i s h1 h2; simp [lB]
 | succ m ih =>
  intro i s h1 h2;simp only [lB];rw [hb i s _ (by omega) h2]
  cases hf:f i with
  | true =>
   simp only [if_true];rw [ih (i+1) _ (by omega) (by simp; omega),zXh,List.filter_cons,hf];simp
  | false =>
   simp only [zWW,if_false];rw [ih (i+1) _ (by omega) (by omega),zXh,List.filter_cons,hf];simp
theorem Id{u:Nat}(hu:1099511627776<=u)(s:Int):sG u s=some (lO s):=by
 unfold sG;rw [DK u s [] u (by omega) (by omega),ON (λi=>ef s i) (λi=>(i:Int)) 40 0 _ (sY 40) 0 [] (by decide) (by simp)]
 ·unfold w6 qW lO;rw [show sY 40=40 by rfl,<- zXx]
  cases h:cq s with
  | false=>simp [ef,h]
  | true =>
   simp only [zQy,if_true]
   congr 2
   apply List.filter_congr
   intro i hi;have hi:i < 40:=by simpa using hi
   have:fe (i:Int)=true:=by simp [fe,au]; omega
   simp [ef,h,this]
 ·intro i t k hi ht;unfold w7;rw [kD];simp only [wk]
  cases ef s i with
  | false=>simp [jR]
  | true =>
   simp only [cond_true,if_true];rw [bD (by simp; omega)];simp [jR]
def M.win(b:List Int)(i n:Nat):List Int:=(b.take (i+n)).drop i
theorem Ke(b:List Int)(i n:Nat):M.win b i n=(b.drop i).take n:=by
 unfold M.win; rw [List.drop_take]; congr 1; omega
theorem mi{b:List Int}(h:aB b)(i n:Nat):aB (M.win b i n):=λx hx=>h x (zWX (zWg hx))
theorem rC{b:List Int}{i n:Nat}(h:i+n<=b.length):(M.win b i n).length=n:=by
 unfold M.win; rw [zYV,zQz]; omega
theorem Na(b:List Int)(i n:Nat):(M.win b i n).length<=n:=by
 unfold M.win; rw [zYV,zQz]; omega
theorem gY{a b n:Nat}(h1:a<=b)(h2:b<=n):dC (cO (a:Int) (b:Int) (n:Int))=some ():=by
 have:cO (a:Int) (b:Int) (n:Int)=true:=by simp [cO]; omega
 rw [this]; rfl
theorem td{a b:Nat}(h:a+b<=9223372036854775807):bd .i64 (a:Int) (b:Int)=((a+b:Nat):Int):=by
 rw [dy (by omega) (by omega)]; omega
def dK(b:List Int)(size i:Int):List Int×Bool :=
 let s:=ch size b.length i
 if s.2=0 then ([],false) else (M.win b s.1.toNat s.2.toNat,true)
theorem pX{size n i:Int}(hn:0<=n):0<=(ch size n i).1/\0<=(ch size n i).2/\(ch size n i).2<=6/\(ch size n i).1+(ch size n i).2<=n:=by
 unfold ch
 split
 ·rename_i h;have ⟨h1,h2,h3⟩:=BP h;have h4:=qI h1;have h5:=(cd h).2;unfold bJ at h5;rw [if_pos h1] at h5;have h6:=Gn h4.1 h4.2.1 h2 h3;have h7:i*size<=n:=by
   have h8:i+1<=(n+size - 1) / size:=by omega
   have h9:(i+1)*size<=n+size - 1:=(Int.le_ediv_iff_mul_le (by omega)).1 h8;rw [zZx] at h9;omega
  dsimp only;omega
 ·dsimp only; omega
theorem ug{b:List Int}(hb:aB b)(size i:Int):aB (dK b size i).1/\(dK b size i).1.length<=6:=by
 have h:=pX (size:=size) (n:=b.length) (i:=i) (by omega);unfold dK;dsimp only
 split
 ·exact ⟨by simp [aB],by simp⟩
 ·refine ⟨mi hb _ _,?_⟩;have:=Na b (ch size b.length i).1.toNat (ch size b.length i).2.toNat;dsimp only;omega
theorem Au(u:Nat){b:List Int}(hl:b.length<=1073741824)(size i:Int):jZ u b size i=some (dK b size i):=by
 have h:=pX (size:=size) (n:=b.length) (i:=i) (by omega);unfold jZ dK;simp only [jz,wk];generalize ch size b.length i=s at h;obtain ⟨a,n⟩:=s;dsimp only at h ⊢
 by_cases h0:n=0
 ·simp [h0]
 ·have:(n == 0)=false:=by simpa using h0
  obtain ⟨x,rfl⟩:=zQJ h.1;obtain ⟨y,rfl⟩:=zQJ h.2.1;simp only [this,cond_false,h0,if_false];rw [td (by omega),gY (by omega) (by omega)];simp only [wk,rg];rw [bD (by simp; omega)];rfl
def nY(b:List Int)(size:Int):List cS:=(zXW (bJ size b.length).toNat).map λ(i:Nat)=>dX (dK b size i).1
theorem OO{α ρ:Type}{fin:List α->Option ρ}{body:Nat->List α->(List α->Option ρ)->Option ρ}(g:Nat->α)(n:Nat)(hb:∀ i s k,i < n->s.length=i->body i s k=k (s++[g i])) :
  lB fin body n 0 []=fin ((zXW n).map g):=by
 have:∀ (m i:Nat) (s:List α),i+m=n->s.length=i->lB fin body m i s=fin (s++(zWY i m).map g):=by
  intro m
  induction m with
  | zero=>intro i s h1 h2; simp [lB]
  | succ m ih =>
   intro i s h1 h2;simp only [lB];rw [hb i s _ (by omega) h2,ih (i+1) _ (by omega) (by simp [h2]),zXh];simp
 rw [this n 0 [] (by omega) rfl,<- zXx];simp
theorem Bh{u:Nat}(hu:1099511627776<=u){b:List Int}(hb:aB b)(hl:b.length<=1073741824)(size:Int):nc u b size=some (nY b size):=by
 unfold nc;have hr:=dA size b.length;rw [pi (n:=bJ size b.length) (fin:=se u) (body:=λi (s:List cS) k=>(jZ u b size (i:Int)).bind λr8=>(gT u r8.1).bind λr9=>(dC (decide ((s.length+([r9]).length)*16<=140737488355328))).bind λ_=>k (s++[r9]))
  (λk (s:List cS) i=>jm u k b size s i) (by omega) (λk s i=>by rw [jm,gE]; rfl) [] (by omega),OO (λi=>dX (dK b size i).1)]
 ·rfl
 ·intro i s k hi hs;have h:=ug hb size (i:Int);rw [Au u hl];simp only [wk];rw [mv hu h.1 (by omega)];simp only [wk];rw [bD (by simp; omega)];rfl
def gj(gen:Int)(b:List Int)(size:Int):al:=if au gen 1 1000000 && dn size b.length then ⟨gen,size,b.length,nY b size⟩ else ⟨0,0,0,[]⟩
theorem xU{u:Nat}(hu:1099511627776<=u){b:List Int}(hb:aB b)(hl:b.length<=1073741824)(gen size:Int):tu u gen b size=some (gj gen b size):=by
 unfold tu t7 gj;simp only [bL,pm,wk,Bh hu hb hl]
 cases au gen 1 1000000 <;> cases dn size b.length <;> simp
def C5:List Int->Int
 | []=>0
 | c :: b=>c+C5 b
def Ie:List Int->Int
 | []=>0
 | c :: b=>((b.length:Int)+1)*c+Ie b
theorem RX:∀ (b:List Int) (x y:Int),s9 b x y=match b with | []=>(x,y) | _=>((x+C5 b) % 251,(y+b.length*x+Ie b) % 251):=by
 intro b
 induction b with
 | nil=>intro x y; rfl
 | cons c b ih =>
  intro x y;simp only [s9];rw [ih]
  cases b with
  | nil=>simp [C5,Ie,Int.add_assoc]
  | cons d b =>
   simp only [C5,Ie,zQG];refine Prod.ext ?_ ?_
   ·dsimp only; omega
   ·dsimp only;have e:((b.length:Int)+1)*((x+c) % 251) % 251=((b.length:Int)+1)*(x+c) % 251:=by rw [Int.mul_emod,Int.emod_emod_of_dvd _ (Int.dvd_refl 251),<- Int.mul_emod]
    have e1:((b.length:Int)+1)*(x+c)=((b.length:Int)+1)*x+((b.length:Int)+1)*c:=Int.mul_add _ _ _;have e2:((b.length:Int)+1+1)*x=((b.length:Int)+1)*x+x:=by rw [zZx]; omega
    have e3:((b.length:Int)+1+1)*c=((b.length:Int)+1)*c+c:=by rw [zZx]; omega
    push_cast
    rw [e2,e3];rw [e1] at e;generalize ((b.length:Int)+1)*((x+c) % 251)=p at *;generalize ((b.length:Int)+1)*x=q at *;generalize ((b.length:Int)+1)*c=r at *;generalize ((b.length:Int)+1)*d=t at *;omega
theorem Kf{b:List Int}:cF b=C5 b % 251+251*(Ie b % 251):=by
 unfold cF;rw [RX]
 cases b with
 | nil=>simp [C5,Ie]
 | cons c b=>dsimp only; simp
theorem Vq(b:List Int)(d:Int):C5 (b++[d])=C5 b+d:=by
 induction b with
 | nil=>simp [C5]
 | cons c b ih=>simp only [List.cons_append,C5,ih]; omega
theorem Vr(b:List Int)(d:Int):Ie (b++[d])=Ie b+C5 b+d:=by
 induction b with
 | nil=>simp [C5,Ie]
 | cons c b ih =>
  simp only [List.cons_append,C5,Ie,ih,zQV,zYw]
  push_cast
  rw [zZx ((b.length:Int)+1) 1 c];omega
theorem Nb(u:Nat)(n m:Int):tx u n m=some (if au m 1 1000000000000 then n % m else 0):=by
 unfold tx;simp only [bL,wk]
 cases h:au m 1 1000000000000 with
 | false=>simp
 | true =>
  have h3:=cd h;have hb:(m == 0)=false:=by simp; omega
  have h4:=P6 (n:=n) (m:=m) (by omega);simp only [hb,zQK,cond_false,Bool.not_false,Eg,wk];have e1:uG .i64 n m=n.tmod m:=rfl;rw [e1,dy (by omega) (by omega)];show some ((n.tmod m+m).tmod m)=_;rw [RW (by omega)]; simp
theorem EE(u:Nat)(w:Int):vJ u w=some (au w 0 63000):=by simp [vJ,bL]
theorem C6(u:Nat){w:Int}(h:au w 0 63000=true):nJ u w=some (w % 251,w / 251):=by
 unfold nJ;have:=cd h;rw [EE,h];simp (disch:=omega) [AZ,Om]
theorem Nc(u:Nat){c d:Int}{m:List Int}(hc:0<=c/\c<=255)(hd:0<=d/\d<=255)(hm:m.length<=5):vK u (cF (c :: m)) ((m.length:Int)+1) c d=some (cF (m++[d])):=by
 unfold vK pz;have h0:=EC (c :: m);have h1:au (cF (c :: m)) 0 63000=true:=by simp [au]; omega
 have h2:au ((m.length:Int)+1) 1 1000000000000=true:=by simp [au]; omega
 have h3:au c 0 255=true:=by simp [au]; omega
 have h4:au d 0 255=true:=by simp [au]; omega
 have h5:au 251 1 1000000000000=true:=by decide
 have h6:((m.length:Int)+1)*c<=6*255:=Int.mul_le_mul (by omega) (by omega) (by omega) (by omega);have h7:0<=((m.length:Int)+1)*c:=Int.mul_nonneg (by omega) (by omega);simp only [EE,bL,h1,h2,h3,h4,wk,zQK,cond_false,C6 u h1,Nb,h5,if_true];rw [AZ (by omega),Int.emod_eq_of_lt (a:=(m.length:Int)+1) (by omega) (by omega)];have e:=Kf (b:=c :: m);have e2:=Kf (b:=m++[d]);rw [e2,Vq,Vr];simp only [C5,Ie] at e;rw [pg (a:=(m.length:Int)+1) (b:=c) (by omega) (by omega)];generalize cF (c :: m)=w at *;generalize ((m.length:Int)+1)*c=q at *;generalize C5 m=sx at *;generalize Ie m=sy at *;rw [dD (a:=w / 251) (by omega) (by omega),dD (a:=w % 251) (by omega) (by omega),dy (a:=w % 251 - c) (by omega) (by omega)];rw [dy (a:=(w / 251 - q) % 251) (by omega) (by omega)];rw [pg (by omega) (by omega),dy (by omega) (by omega)]
 congr 1
 omega
theorem Th{b:List Int}{i n:Nat}{c:Int}(hc:b[i]?=some c):M.win b i (n+1)=c :: M.win b (i+1) n:=by
 rw [Ke,Ke];obtain ⟨h,rfl⟩:=List.getElem?_eq_some_iff.1 hc;rw [zXy h,List.take_succ_cons]
theorem Ti{b:List Int}{i n:Nat}{d:Int}(hd:b[i+n]?=some d):M.win b i (n+1)=M.win b i n++[d]:=by
 rw [Ke,Ke,List.take_add_one]
 congr 1
 rw [zQq,hd]; rfl
def pY(b:List Int)(n:Nat):List Int:=if n<=b.length then (zXW (b.length+1 - n)).map λi=>cF (M.win b i n) else []
theorem C7(u:Nat){b:List Int}(hb:aB b)(hl:b.length<=1073741824){n:Nat}(h1:1<=n)(h2:n<=6):∀ (m k j:Nat),n+j+m=b.length->m < k ->
  gJ u k b n ((zXW (j+1)).map λi=>cF (M.win b i n)) (cF (M.win b j n)) ((n+j:Nat):Int)=some ((zXW (j+1+m)).map λi=>cF (M.win b i n)):=by
 intro m
 induction m with
 | zero =>
  intro k j h3 h4;obtain ⟨k,rfl⟩:∃ i,k=i+1:=⟨k - 1,by omega⟩;unfold gJ;have:¬ (((n+j:Nat):Int) < (b.length:Int)):=by omega
  simp only [this,decide_false,cond_false,qN,zXg]
 | succ m ih =>
  intro k j h3 h4;obtain ⟨k,rfl⟩:∃ i,k=i+1:=⟨k - 1,by omega⟩;unfold gJ;have h5:((n+j:Nat):Int) < (b.length:Int):=by omega
  have e:ez .i64 ((n+j:Nat):Int) (n:Int)=(j:Int):=by rw [dD (by omega) (by omega)]; omega
  simp only [h5,decide_true,cond_true,e,dc];have hc:=sX (l:=b) (i:=j) (by omega);have hd:=sX (l:=b) (i:=n+j) (by omega);rw [hc,hd];simp only [wk];have hcb:=hb _ (zXG (l:=b) (n:=j) (by omega));have hdb:=hb _ (zXG (l:=b) (n:=n+j) (by omega));rw [gX (n:=b[j]) (by omega) (by omega),gX (n:=b[n+j]) (by omega) (by omega)];obtain ⟨n,rfl⟩:∃ i,n=i+1:=⟨n - 1,by omega⟩;have e1:=Th (n:=n) hc;have e2:M.win b (j+1) (n+1)=M.win b (j+1) n++[b[n+1+j]]:=Ti (by rw [show j+1+n=n+1+j by omega]; exact hd);have hw:(M.win b (j+1) n).length=n:=rC (by omega);have hroll:=Nc u (c:=b[j]) (d:=b[n+1+j]) (m:=M.win b (j+1) n) hcb hdb (by omega);rw [hw,<- e1,<- e2] at hroll;rw [show ((n+1:Nat):Int)=(n:Int)+1 by omega,hroll];simp only [wk];rw [bD (by simp; omega)];simp only [wk];rw [show (List.map (λi=>cF (M.win b i (n+1))) (zXW (j+1))++[cF (M.win b (j+1) (n+1))])=(zXW (j+1+1)).map λi=>cF (M.win b i (n+1)) by rw [List.range_succ (n:=j+1),List.map_append]; rfl];rw [dB (by omega)];have:=ih k (j+1) (by omega) (by omega);rw [show ((n+1:Nat):Int)=(n:Int)+1 by omega] at this;rw [show n+1+j+1=n+1+(j+1) by omega,this,show j+1+1+m=j+1+(m+1) by omega]
theorem If{u:Nat}(hu:1099511627776<=u){b:List Int}(hb:aB b)(hl:b.length<=1073741824){n:Nat}(h1:1<=n)(h2:n<=6):sf u b n=some (pY b n):=by
 unfold sf qO pY;have h3:¬ ((n:Int) < 1):=by omega
 simp only [h3,decide_false,cond_false]
 by_cases h4:n<=b.length
 ·have h5:¬ ((n:Int) > (b.length:Int)):=by omega
  simp only [h5,decide_false,cond_false,h4,if_true];rw [show (0:Int)=((0:Nat):Int) by rfl,gY (by omega) h4];simp only [wk,rg];have e:List.drop 0 (List.take n b)=M.win b 0 n:=by simp [M.win]
  rw [e,ta hu (mi hb _ _) (by have:=Na b 0 n; omega)];simp only [wk];rw [bD (by simp)];have:=C7 u hb hl h1 h2 (b.length - n) u 0 (by omega) (by omega);simp only [zXg,zWZ] at this;rw [show (zXW 1).map (λi=>cF (M.win b i n))=[cF (M.win b 0 n)] by rfl] at this;simp only [wk,zQy];rw [this,show 1+(b.length - n)=b.length+1 - n by omega]
 ·have h5:((n:Int) > (b.length:Int)):=by omega
  simp [h5,h4]
def iX(b:List Int)(s:cS)(n:Nat):Nat->Nat->Int
 | 0,_=>-1
 | c+1,i=>if dX (M.win b i n)=s then i else iX b s n c (i+1)
def vR(b:List Int)(s:cS)(n:Int):Int:=if au n 1 6 then iX b s n.toNat (b.length+1 - n.toNat) 0 else -1
theorem Kg(b:List Int)(s:cS)(n:Nat):∀ c i,-1<=iX b s n c i/\iX b s n c i < i+c:=by
 intro c
 induction c with
 | zero=>intro i; simp [iX]; omega
 | succ c ih =>
  intro i;unfold iX;have:=ih (i+1)
  split <;> omega
theorem IY(x y:cS):(([x.fW,x.fS]:List Int) == [y.fW,y.fS])=decide (x=y):=by
 obtain ⟨a,b⟩:=x;obtain ⟨c,d⟩:=y;rw [zYk]; simp
theorem P7{b:List Int}(h:b.length<=6):(dX b).fW=cF b:=by
 unfold dX; rw [if_neg (by omega)]
theorem C8{u:Nat}(hu:1099511627776<=u){b:List Int}(hb:aB b)(hl:b.length<=1073741823)(s:cS){n:Nat}(h1:1<=n)(h2:n<=6):∀ (c k i:Nat),i+c=b.length+1 - n->c < k ->
  eJ u k b n (pY b n) i s=some (iX b s n c i):=by
 have hlen:(pY b n).length=b.length+1 - n:=by
  unfold pY
  split
  ·simp
  ·simp; omega
 intro c
 induction c with
 | zero =>
  intro k i h3 h4;obtain ⟨k,rfl⟩:∃ i,k=i+1:=⟨k - 1,by omega⟩;unfold eJ;have:¬ ((i:Int) < ((pY b n).length:Int)):=by omega
  simp only [this,decide_false,cond_false,qP,iX]
 | succ c ih =>
  intro k i h3 h4;obtain ⟨k,rfl⟩:∃ i,k=i+1:=⟨k - 1,by omega⟩;unfold eJ;have h5:((i:Int) < ((pY b n).length:Int)):=by omega
  have hx:(pY b n)[i]?=some (cF (M.win b i n)):=by
   unfold pY;rw [if_pos (by omega),zQX,zYj (by omega)]; rfl
  simp only [h5,decide_true,cond_true,dc,hx,wk];rw [td (by omega),gY (by omega) (by omega)];simp only [wk,rg]
  change (bif _ then ((gT u (M.win b i n)).bind _) else _)=_
  rw [mv hu (mi hb _ _) (by have:=Na b i n; omega)];simp only [wk,IY,iX,lH,cond_false,dB (show i < 9223372036854775807 by omega),ih k (i+1) (by omega) (by omega)]
  by_cases h6:dX (M.win b i n)=s
  ·have h7:cF (M.win b i n)=s.fW:=by rw [<- h6,P7 (by have:=Na b i n; omega)]
   simp [h6,h7]
  ·cases cF (M.win b i n) == s.fW <;> simp [h6]
theorem Ig{u:Nat}(hu:1099511627776<=u){b:List Int}(hb:aB b)(hl:b.length<=1073741823)(s:cS)(n:Int):sg u b s n=some (vR b s n):=by
 unfold sg vR;rw [bL];simp only [wk]
 cases h:au n 1 6 with
 | false=>simp
 | true =>
  have h:=cd h;obtain ⟨n,rfl⟩:=zQJ (show 0<=n by omega);simp only [zQK,cond_false,if_true,rg];rw [If hu hb (by omega) (by omega) (by omega)];exact C8 hu hb (by omega) s (by omega) (by omega) (b.length+1 - n) u 0 (by omega) (by omega)
def fU(b:List Int)(m:al)(i:Nat):Int:=match m.aO[i]? with
 | some s=>vR b s (ch m.aw m.aW i).2
 | none=>-1
theorem Ih{u:Nat}(hu:1099511627776<=u){b:List Int}(hb:aB b)(hl:b.length<=1073741823){m:al}(hm:m.aO.length<=1073741824)(i:Nat):pA u b m i=some (fU b m i):=by
 unfold pA qQ fU;rw [jz];simp only [wk,Ig hu hb hl,dc]
 by_cases h:i < m.aO.length
 ·have h1:¬ ((i:Int)>=(m.aO.length:Int)):=by omega
  simp only [sX h,wk,h1,decide_false,cond_false,cond_true]
  by_cases h2:(ch m.aw m.aW i).2=0
  ·have:vR b m.aO[i] 0=-1:=by simp [vR,au]
   simp [h2,this]
  ·have:((ch m.aw m.aW i).2 == 0)=false:=by simpa using h2
   simp [this]
 ·have h1:((i:Int)>=(m.aO.length:Int)):=by omega
  simp only [List.getElem?_eq_none (show m.aO.length<=i by omega),h1,decide_true,cond_true]
  cases ((ch m.aw m.aW i).2 == 0) <;> simp
theorem Ii(u:Nat){n:Nat}(h:n<=40):pI u n=some ((2 ^ n - 1:Nat):Int):=by
 unfold pI;have h1:au (n:Int) 0 40=true:=by simp [au]; omega
 rw [bL,h1];simp only [wk,zQK,cond_false];have h2:(2:Nat) ^ n<=2 ^ 40:=zWz (by omega) h;have h3:0 < (2:Nat) ^ n:=Nat.pow_pos (by omega);rw [bD (by omega),vQ (by omega)];generalize (2:Nat) ^ n=p at *;rw [dD (by omega) (by omega)];simp only [wk]
 congr 1
 omega
theorem Gq(gen:Int)(b:List Int)(size:Int):(gj gen b size).aO.length<=40:=by
 unfold gj
 split
 ·have:=dA size b.length;simp [nY]; omega
 ·simp
theorem Kh(gen:Int)(b:List Int)(size:Int)(hb:aB b):pW (gj gen b size):=by
 unfold gj pW
 split
 ·intro s hs;simp only [nY,zYZ] at hs;obtain ⟨i,_,rfl⟩:=hs;have h:=ug hb size (i:Int);unfold dX;rw [if_neg (by omega)];have:=Kb (dK b size i).1 1 0 h.1 (by omega) (by decide);have h6:(256:Int) ^ (0+(dK b size i).1.length)<=281474976710656:=by
   have h7:=h.2;generalize (dK b size i).1.length=n at h7;rcases (show n=0\/n=1\/n=2\/n=3\/n=4\/n=5\/n=6 by omega) with rfl | rfl | rfl | rfl | rfl | rfl | rfl <;> decide
  dsimp only;omega
 ·intro s hs; simp at hs
theorem Ki:∀ (l:List cS) (b:List Int),(jI b l).length<=b.length+10*l.length:=by
 intro l
 induction l with
 | nil=>intro b; simp [jI]
 | cons s l ih =>
  intro b;have h1:=ih (b++cB 9 s.fS);have h2:=C4 9 s.fS;simp only [jI,zQG,zQV] at h1 ⊢;omega
theorem RY(b:Bool):(bif b then some true else some false)=some b:=by cases b <;> rfl
def zK{α:Type}(f:α->α->Bool):List α->List α->Bool
 | x :: xs,y :: ys=>f x y && zK f xs ys
 | _,_=>true
def M.same{α:Type}(f:α->α->Bool)(xs ys:List α):Bool:=(xs.length == ys.length) && zK f xs ys
theorem P8{α:Type}{fin:Unit->Option Bool}{body:α->Nat->Unit->(Unit->Option Bool)->Option Bool}(f:α->α->Bool){xs ys:List α}(h:xs.length=ys.length)(hb:∀ x y i k,xs[i]?=some x->ys[i]?=some y->body x i () k=bif f x y then k () else some false) :
  cA fin body xs 0 ()=bif zK f xs ys then fin () else some false:=by
 have:∀ (l m:List α) (i:Nat),l=xs.drop i->m=ys.drop i->cA fin body l i ()=bif zK f l m then fin () else some false:=by
  intro l
  induction l with
  | nil=>intro m i _ _; simp [cA,zK]
  | cons x l ih =>
   intro m i h1 h2;have hlt:i < xs.length:=by have:=congrArg zYq h1; simp at this; omega
   cases m with
   | nil=>have:=congrArg zYq h2; simp at this; omega
   | cons y m =>
    have hx:xs[i]?=some x:=by have:=congrArg zZQ h1; simpa [zXj] using this.symm
    have hy:ys[i]?=some y:=by have:=congrArg zZQ h2; simpa [zXj] using this.symm
    have hl:l=xs.drop (i+1):=by have:=congrArg zZV h1; simpa [zYX] using this
    have hm:m=ys.drop (i+1):=by have:=congrArg zZV h2; simpa [zYX] using this
    simp only [cA,zK];rw [hb x y i _ hx hy,ih m (i+1) hl hm]
    cases f x y <;> simp
 exact this xs ys 0 (by simp) (by simp)
def mj(a b:List Int):Bool:=(strOfNums a).toList == (strOfNums b).toList
theorem xz(u:Nat)(a b:List Int):mJ u a b=some (mj a b):=rfl
theorem EF(u:Nat)(a b:List Int):sM u a b=some (mj a b):=rfl
theorem P9(x y:cT):(([x.aM,x.bQ,x.aW]:List Int) == [y.aM,y.bQ,y.aW])=decide (x=y):=by
 obtain ⟨a0,a1,a2⟩:=x;obtain ⟨b0,b1,b2⟩:=y;rw [zYk]; simp
theorem wK{u:Nat}(hu:1099511627776<=u){a b:List cS}(ha:a.length<=1048576):lG u a b=some (M.same (λx y=>decide (x=y)) a b):=by
 unfold lG M.same
 by_cases h:a.length=b.length
 ·have h1:((a.length:Int) != (b.length:Int))=false:=by simp [h]
  simp only [h1,cond_false];rw [AJ u a b () u (by omega) (by omega),P8 (λx y=>decide (x=y)) h (λx y i k hx hy=>by unfold um; rw [dc,hy]; simp only [wk,IY]; cases decide (x=y) <;> rfl)];simp only [h,beq_self_eq_true,zWk];exact RY _
 ·have h1:((a.length:Int) != (b.length:Int))=true:=by simp; omega
  have h2:(a.length == b.length)=false:=by simpa using h
  simp [h1,h2]
def vS(a b:al):Bool:=(a.aM == b.aM) && (a.aw == b.aw) && (a.aW == b.aW) && M.same (λx y=>decide (x=y)) a.aO b.aO
theorem Av{u:Nat}(hu:1099511627776<=u){a b:al}(ha:a.aO.length<=1048576):pC u a b=some (vS a b):=by
 unfold pC vS;rw [wK hu ha]
 cases a.aM == b.aM <;> cases a.aw == b.aw <;> cases a.aW == b.aW <;> simp
def RZ(l:List aC):Prop:=∀ x∈l,x.ay.aO.length<=1048576/\x.bi.length<=1048576
theorem Nd(a b:Nat):((a:Int) == (b:Int))=(a == b):=by rw [zYk,beq_iff_eq,beq_iff_eq]; omega
def er{α:Type}(f:α->Bool):List α->Nat->Int
 | [],_=>-1
 | x :: l,i=>if f x then i else er f l (i+1)
theorem Bi{α:Type}{fin:Unit->Option Int}{body:α->Nat->Unit->(Unit->Option Int)->Option Int}(f:α->Bool){xs:List α}(hf:fin ()=some (-1))(hb:∀ x i k,x∈xs->body x i () k=bif f x then some (i:Int) else k ()) :
  cA fin body xs 0 ()=some (er f xs 0):=by
 have:∀ (l:List α) (i:Nat),(∀ y∈l,y∈xs)->cA fin body l i ()=some (er f l i):=by
  intro l
  induction l with
  | nil=>intro i _; exact hf
  | cons x l ih =>
   intro i h;simp only [cA,er];rw [hb x i _ (h x (by simp)),ih (i+1) (λy hy=>h y (by simp [hy]))]
   cases f x <;> simp
 exact this xs 0 (λ_ h=>h)
theorem Hd{α:Type}(f:α->Bool):∀ (l:List α) (i:Nat),decide (er f l i>=0)=l.any f:=by
 intro l
 induction l with
 | nil=>intro i; rfl
 | cons x l ih =>
  intro i;rw [List.any_cons,<- ih (i+1),zYk];simp only [decide_eq_true_eq,Bool.or_eq_true]
  by_cases h:f x=true
  ·simp [er,h]
  ·simp [er,h]
def fp(r:cT):Bool:=au r.aM 0 1000000 && au r.bQ 0 1 && au r.aW 0 240
theorem yV(u:Nat)(r:cT):oe u r=some (fp r):=by
 unfold oe fp;simp only [bL,wk]
 cases au r.aM 0 1000000 <;> cases au r.bQ 0 1 <;> rfl
theorem Bj(u:Nat)(n:Int):rH u n=some (au n 0 1):=by
 unfold rH au
 by_cases h0:n=0
 ·subst h0; rfl
 ·by_cases h1:n=1
  ·subst h1; rfl
  ·have e0:(n == 0)=false:=by simpa using h0
   have e1:(n == 1)=false:=by simpa using h1
   simp only [e0,e1,cond_false]
   by_cases h:0<=n
   ·have:¬ n<=1:=by omega
    simp [this]
   ·simp [h]
theorem yW(u:Nat)(r:cT):oq u r=some (fp r):=by
 unfold oq zn fp;simp only [m3,Bj,wk]
 cases au r.aM 0 1000000 <;> cases au r.bQ 0 1 <;> rfl
def iv(d:am)(n:Int):List Int:=if n=0 then d.fA else d.fB
theorem EG(u:Nat)(d:am)(n:Int):gr u d n=some (iv d n):=by
 unfold gr iv
 by_cases h:n=0
 ·simp [h]
 ·have:(n == 0)=false:=by simpa using h
  simp [h,this]
theorem EH(u:Nat)(d:am){n:Int}(h:au n 0 1=true):rD u d n=some (iv d n):=by
 unfold rD iv;have:=cd h
 by_cases h0:n=0
 ·subst h0; rfl
 ·have:n=1:=by omega
  subst this; rfl
def eR(p:ct):Bool:=if p.gq=2 then (p.vI == 0) && (p.fB.length == 0) && fp p.fR else au p.gq 0 1 && decide (p.fR=⟨0,0,0⟩) && au p.vI 0 (240 - p.fB.length)
theorem He(x:cT):(([x.aM,x.bQ,x.aW]:List Int) == [0,0,0])=decide (x=⟨0,0,0⟩):=P9 x ⟨0,0,0⟩
theorem Ly(u:Nat){p:ct}(h:p.fB.length<=1048576):wo u p=some (eR p):=by
 unfold wo eR;rw [dD (by omega) (by omega)];simp only [yW,Bj,m3,wk,He];have e:((p.fB.length:Int) == 0)=(p.fB.length == 0):=Nd _ 0
 by_cases h2:p.gq=2
 ·simp only [h2,beq_self_eq_true,cond_true,if_true,e]
  cases p.vI == 0 <;> cases p.fB.length == 0 <;> rfl
 ·have:(p.gq == 2)=false:=by simpa using h2
  simp only [this,cond_false,h2,if_false]
  cases au p.gq 0 1 <;> cases decide (p.fR=⟨0,0,0⟩) <;> rfl
theorem Cj(u:Nat){p:ct}(h:p.fB.length<=1048576):rq u p=some (eR p):=by
 unfold rq eR;simp only [yV,bL,wk,He];have e:((p.fB.length:Int) == 0)=(p.fB.length == 0):=Nd _ 0
 by_cases h2:p.gq=2
 ·simp only [h2,beq_self_eq_true,cond_true,if_true,e]
  cases p.vI == 0 <;> cases p.fB.length == 0 <;> rfl
 ·have:(p.gq == 2)=false:=by simpa using h2
  simp only [this,cond_false,h2,if_false]
  cases h3:au p.vI 0 240 with
  | false =>
   have h4:au p.vI 0 (240 - p.fB.length)=false:=by
    have:=Ka h3;simp [au]; omega
   rw [h4]
   cases au p.gq 0 1 <;> cases decide (p.fR=⟨0,0,0⟩) <;> rfl
  | true =>
   have h3:=cd h3;rw [dD (by omega) (by omega)];have h4:au p.vI 0 (240 - p.fB.length)=decide ((p.fB.length:Int)<=240 - p.vI):=by
    rw [zYk]; simp [au]; omega
   rw [h4]
   cases au p.gq 0 1 <;> cases decide (p.fR=⟨0,0,0⟩) <;> cases decide ((p.fB.length:Int)<=240 - p.vI) <;> rfl
def b7(d:am):Bool:=decide (d.fA.length<=240) && decide (d.fB.length<=240) && fp d.fR && decide (d.fR.aW<=(iv d d.fR.bQ).length) && decide (d.fP.length<=200) && d.fP.all eR
structure M.DOk (d:am):Prop where
 a:d.fA.length<=1048576
 b:d.fB.length<=1048576
 p:d.fP.length<=1048576
 puts:∀ x∈d.fP,x.fB.length<=1048576
theorem Ij{u:Nat}(hu:1099511627776<=u){l:List ct}(hl:l.length<=1048576)(hp:∀ x∈l,x.fB.length<=1048576):b6 u l=some (l.any λx=>!eR x):=by
 unfold b6 cJ;rw [ju u l () u (by omega) (by omega),Bi (λx=>!eR x) rfl (λx i k hx=>by unfold eA qx; rw [Ly u (hp x hx)]; rfl)];simp only [wk,Hd]
theorem Hf{α:Type}(f:α->Bool)(l:List α):(!(l.any λx=>!f x))=l.all f:=by
 induction l with
 | nil=>rfl
 | cons x l ih=>simp only [List.any_cons,zYh,Bool.not_or,Bool.not_not,ih]
theorem Tj(a b:Int):decide (a > b)=!decide (a<=b):=by
 by_cases h:a<=b
 ·have:¬ a > b:=by omega
  simp [h,this]
 ·have:a > b:=by omega
  simp [h,this]
theorem Gr(a b:Nat):decide ((a:Int)<=(b:Int))=decide (a<=b):=by rw [decide_eq_decide]; omega
theorem Bk{u:Nat}(hu:1099511627776<=u){d:am}(hd:M.DOk d):rI u d=some (b7 d):=by
 unfold rI mW b7;simp only [yW,EG,Ij hu hd.p hd.puts,wk,Hf,Tj];have e1:decide ((d.fA.length:Int)<=240)=decide (d.fA.length<=240):=Gr _ 240;have e2:decide ((d.fB.length:Int)<=240)=decide (d.fB.length<=240):=Gr _ 240;have e3:decide ((d.fP.length:Int)<=200)=decide (d.fP.length<=200):=Gr _ 200;rw [e1,e2,e3]
 cases decide (d.fA.length<=240) <;> cases decide (d.fB.length<=240) <;> cases fp d.fR <;> cases decide (d.fR.aW<=(iv d d.fR.bQ).length) <;> cases decide (d.fP.length<=200) <;> rfl
theorem Gs{u:Nat}(hu:1099511627776<=u){d:am}(hd:M.DOk d):lf u u 0 d=some (d.fP.all eR):=by
 have:=hd.p;rw [FB u d () u (by omega) (by omega)];have:∀ (l:List ct) (i:Nat),(∀ y∈l,y∈d.fP)->cA (yp u d) (tD u d) l i ()=some (l.all eR):=by
  intro l
  induction l with
  | nil=>intro i _; rfl
  | cons x l ih =>
   intro i h;simp only [cA,tD,Cj u (hd.puts x (h x (by simp))),wk,zYh];rw [ih (i+1) (λy hy=>h y (by simp [hy]))]
   cases eR x <;> rfl
 exact this _ 0 (λ_ h=>h)
theorem xV{r:cT}(h:fp r=true):au r.bQ 0 1=true/\0<=r.aW/\r.aW<=240:=by
 unfold fp at h;simp only [sk] at h;exact ⟨h.1.2,(cd h.2).1,(cd h.2).2⟩
theorem m4{u:Nat}(hu:1099511627776<=u){d:am}(hd:M.DOk d):ku u d=some (b7 d):=by
 unfold ku lg b7;have e1:decide ((d.fA.length:Int)<=240)=decide (d.fA.length<=240):=Gr _ 240;have e2:decide ((d.fB.length:Int)<=240)=decide (d.fB.length<=240):=Gr _ 240;have e3:decide ((d.fP.length:Int)<=200)=decide (d.fP.length<=200):=Gr _ 200;simp only [yV,Gs hu hd,wk,Tj,e1,e2,e3,cond_true]
 cases h:fp d.fR with
 | false=>cases decide (d.fA.length<=240) <;> cases decide (d.fB.length<=240) <;> rfl
 | true =>
  rw [EH u d (xV h).1];simp only [wk]
  cases decide (d.fA.length<=240) <;> cases decide (d.fB.length<=240) <;> cases decide (d.fR.aW<=(iv d d.fR.bQ).length) <;> cases decide (d.fP.length<=200) <;> rfl
def c6(d:am):Int×List Int:=if b7 d then (d.fR.aM,(iv d d.fR.bQ).take d.fR.aW.toNat) else (0,[])
theorem pZ{d:am}(h:b7 d=true):fp d.fR=true/\d.fR.aW<=(iv d d.fR.bQ).length/\d.fA.length<=240/\d.fB.length<=240/\d.fP.length<=200:=by
 unfold b7 at h;simp only [sk,decide_eq_true_eq] at h;obtain ⟨⟨⟨⟨⟨h1,h2⟩,h3⟩,h4⟩,h5⟩,h6⟩:=h;exact ⟨h3,h4,h1,h2,h5⟩
theorem Gt{d:am}(h:b7 d=true)(n:Int):(iv d n).length<=240:=by
 have:=pZ h;unfold iv; split <;> omega
theorem Ik{u:Nat}(hu:1099511627776<=u){d:am}(hd:M.DOk d):sL u d=some (c6 d):=by
 unfold sL c6;rw [Bk hu hd,EG];simp only [wk]
 cases h:b7 d with
 | false=>rfl
 | true =>
  have h1:=pZ h;have h2:=xV h1.1;have h3:=Gt h d.fR.bQ;obtain ⟨n,hn⟩:=zQJ h2.2.1;simp only [zQK,cond_false,if_true];rw [hn] at h1 ⊢;rw [show (0:Int)=((0:Nat):Int) by rfl,gY (by omega) (by omega)];simp only [wk,rg,List.drop_zero];rw [tc u (by simp; omega)]; rfl
theorem Aw{u:Nat}(hu:1099511627776<=u){d:am}(hd:M.DOk d):pM u d=some (c6 d):=by
 unfold pM c6;rw [m4 hu hd];simp only [wk]
 cases h:b7 d with
 | false=>rfl
 | true =>
  have h1:=pZ h;have h2:=xV h1.1;have h3:=Gt h d.fR.bQ;obtain ⟨n,hn⟩:=zQJ h2.2.1;rw [EH u d h2.1];simp only [zQK,cond_false,if_true,wk];rw [hn] at h1 ⊢;rw [show (0:Int)=((0:Nat):Int) by rfl,gY (by omega) (by omega)];simp only [wk,rg,List.drop_zero];rw [bD (by simp; omega)]; rfl
def M.holds(d:am)(gen:Int)(b:List Int):Bool:=((c6 d).1 == gen) && mj (c6 d).2 b
theorem xW{u:Nat}(hu:1099511627776<=u){d:am}(hd:M.DOk d)(gen:Int)(b:List Int):o7 u d gen b=some (M.holds d gen b):=by
 unfold o7 M.holds;rw [Ik hu hd];simp only [wk,EF]
 cases (c6 d).1 == gen <;> rfl
theorem xX{u:Nat}(hu:1099511627776<=u){d:am}(hd:M.DOk d)(gen:Int)(b:List Int):o8 u d gen b=some (M.holds d gen b):=by
 unfold o8 M.holds;rw [Aw hu hd];simp only [wk,xz]
 cases (c6 d).1 == gen <;> rfl
def lP(w:World)(k:Int):Int:=if au k 0 ((w.fD.length:Int) - 1) && au k 0 ((w.bA.length:Int) - 1) then
  match w.fD[k.toNat]?,w.bA[k.toNat]? with
  | some d,some x=>if M.holds d 0 x.fB then 0 else if M.holds d 1 w.bK then 1 else -1
  | _,_=>-1
 else -1
structure M.DsOk (w:World):Prop where
 d:w.fD.length<=1048576
 old:w.bA.length<=1048576
 ok:∀ x∈w.fD,M.DOk x
theorem u4{u:Nat}(hu:1099511627776<=u){w:World}(hw:M.DsOk w)(k:Int):im u w k=some (lP w k):=by
 unfold im q8 lP;have h1:=hw.d;have h2:=hw.old;rw [dD (by omega) (by omega),dD (by omega) (by omega),m3,m3];simp only [wk]
 cases h:au k 0 ((w.fD.length:Int) - 1) with
 | false=>rfl
 | true =>
  cases h':au k 0 ((w.bA.length:Int) - 1) with
  | false=>rfl
  | true =>
   have h:=cd h;have h':=cd h';obtain ⟨n,rfl⟩:=zQJ h.1;have e1:=sX (l:=w.fD) (i:=n) (by omega);have e2:=sX (l:=w.bA) (i:=n) (by omega);have hd:=hw.ok _ (zXG (l:=w.fD) (n:=n) (by omega));simp only [zQK,cond_false,dc,e1,e2,wk,xW hu hd,zXV,if_true,rg]
   cases M.holds w.fD[n] 0 w.bA[n].fB <;> cases M.holds w.fD[n] 1 w.bK <;> rfl
theorem Ax{u:Nat}(hu:1099511627776<=u){w:World}(hw:M.DsOk w)(k:Int):nA u w k=some (lP w k):=by
 unfold nA ra lP;have h1:=hw.d;have h2:=hw.old;rw [dD (by omega) (by omega),bL];simp only [wk]
 cases h:au k 0 ((w.fD.length:Int) - 1) with
 | false=>rfl
 | true =>
  have h:=cd h
  cases h':au k 0 ((w.bA.length:Int) - 1) with
  | false =>
   have h':=Ka h';have:k>=(w.bA.length:Int):=by omega
   simp [this]
  | true =>
   have h':=cd h';have h3:¬ (k>=(w.bA.length:Int)):=by omega
   obtain ⟨n,rfl⟩:=zQJ h.1;have e1:=sX (l:=w.fD) (i:=n) (by omega);have e2:=sX (l:=w.bA) (i:=n) (by omega);have hd:=hw.ok _ (zXG (l:=w.fD) (n:=n) (by omega));simp only [zQK,cond_false,h3,decide_false,dc,e1,e2,wk,xX hu hd,zXV,if_true,rg]
   cases M.holds w.fD[n] 0 w.bA[n].fB <;> cases M.holds w.fD[n] 1 w.bK <;> rfl
def m5(w:World):List Int:=(zWY 1 (w.fN.length - 1)).map λ(k:Nat)=>lP w k
structure M.StOk (w:World):Prop where
 ds:M.DsOk w
 n:w.fN.length<=1048576
theorem xY{α ρ:Type}{fin:List α->Option ρ}{body:Nat->List α->(List α->Option ρ)->Option ρ}(g:Nat->α)(c:Nat)(hb:∀ i s k,i < c->s.length<=i->body i s k=k (s++[g i])) :
  ∀ (m i:Nat) (s:List α),i+m<=c->s.length<=i->lB fin body m i s=fin (s++(zWY i m).map g):=by
 intro m
 induction m with
 | zero=>intro i s _ _; simp [lB]
 | succ m ih =>
  intro i s h1 h2;simp only [lB];rw [hb i s _ (by omega) h2,ih (i+1) _ (by omega) (by simp; omega),zXh];simp
theorem Kj{u:Nat}(hu:1099511627776<=u){w:World}(hw:M.StOk w):uE u w=some (m5 w):=by
 have hn:=hw.n;unfold uE;have h:=MY (n:=(w.fN.length:Int)) (fin:=yA u w) (body:=tK u w) (λk s i=>lh u k s i w) (by omega) (λ_ _ _=>rfl) (w.fN.length - 1) u 1 [] (by omega) (by omega);rw [show ((1:Nat):Int)=1 by rfl] at h;rw [h,xY (λ(i:Nat)=>lP w i) (w.fN.length+1)]
 ·rfl
 ·intro i s k hi hs;unfold tK;rw [Ax hu hw.ds];simp only [wk];rw [bD (by simp; omega)];rfl
 ·omega
 ·simp
theorem Bl{u:Nat}(hu:1099511627776<=u){w:World}(hw:M.StOk w):nj u w=some (m5 w):=by
 have hn:=hw.n;unfold nj;rw [FD u w [] u (by omega) (by omega),rg];have hb:∀ i s (k:List Int->Option (List Int)),0 < i->i < w.fN.length+1->s.length<=i->gV u w i s k=k (s++[lP w i]):=by
  intro i s k h0 hi hs;unfold gV jv;have:(i:Int) > 0:=by omega
  simp only [this,decide_true,cond_true,u4 hu hw.ds,wk];rw [bD (by simp; omega)];rfl
 cases hl:w.fN.length with
 | zero=>simp [lB,iT,mX,m5,hl]
 | succ n =>
  simp only [lB];have e0:gV u w 0 [] (lB (iT u w) (gV u w) n (0+1))=lB (iT u w) (gV u w) n 1 []:=by
   unfold gV jv;simp
  rw [e0];have:∀ (m i:Nat) (s:List Int),0 < i->i+m<=w.fN.length+1->s.length<=i->lB (iT u w) (gV u w) m i s=iT u w (s++(zWY i m).map λ(k:Nat)=>lP w k):=by
   intro m
   induction m with
   | zero=>intro i s _ _ _; simp [lB]
   | succ m ih =>
    intro i s h0 h1 h2;simp only [lB];rw [hb i s _ h0 (by omega) h2,ih (i+1) _ (by omega) (by omega) (by simp; omega),zXh];simp
  rw [this n 1 [] (by omega) (by omega) (by simp)];simp [iT,mX,m5,hl]
theorem Lz(w:World):(m5 w).length<=w.fN.length:=by
 unfold m5; rw [zXQ,List.length_range']; omega
def BQ:List bS->Int->Int
 | [],a=>a
 | k :: l,a=>BQ l (if cq k.ci then xO .i64 a k.ci else a)
theorem LA(u:Nat)(r:List bS):∀ (l:List bS) (i:Nat) (a:Int),l=r.drop i->cA (yr u r) (tE u r) l i a=some (BQ l a):=by
 intro l
 induction l with
 | nil=>intro i a _; rfl
 | cons k l ih =>
  intro i a hd;have hx:r[i]?=some k:=by have:=congrArg zZQ hd; simpa [zXj] using this.symm
  have hl:l=r.drop (i+1):=by have:=congrArg zZV hd; simpa [zYX] using this
  simp only [cA,tE,mQ,ie,wk,BQ,dc,hx,ih (i+1) _ hl]
  cases cq k.ci <;> simp
theorem Kk{u:Nat}(hu:1099511627776<=u){l:List bS}(hl:l.length<=1048576):ux u l=some (BQ l 0):=by
 unfold ux;rw [FC u l 0 u (by omega) (by omega),LA u l l 0 0 (by simp)]
theorem Km{u:Nat}(hu:1099511627776<=u){r:List Int}(hr:r.length<=1048576)(k:Int):ut u r k=some (r.any λy=>y == k):=by
 unfold ut;rw [Fy u r k () u (by omega) (by omega)];have:∀ (l:List Int) (i:Nat),cA (yn u r k) (tB u r k) l i ()=some (l.any λy=>y == k):=by
  intro l
  induction l with
  | nil=>intro i; rfl
  | cons y l ih =>
   intro i;simp only [cA,tB,List.any_cons];rw [ih (i+1)]
   cases y == k <;> rfl
 exact this r 0
theorem Gu{ρ:Type}(J:List Int->Option ρ)(n:Int)(hn:n<=1048576)(L:Nat->List Int->Option ρ)(hL:∀ k x,L (k+1) x=bif decide ((x.length:Int) < n) then ((dC (decide ((x.length+([0]:List Int).length)*1<=140737488355328))).bind λ_=>L k (x++[0])) else J x) :
  ∀ (m k:Nat) (x:List Int),(x.length+m=n.toNat\/(m=0/\n<=x.length))->m < k->L k x=J (x++zQk m 0):=by
 intro m
 induction m with
 | zero =>
  intro k x h1 h2;obtain ⟨k,rfl⟩:∃ j,k=j+1:=⟨k - 1,by omega⟩;have e:¬ ((x.length:Int) < n):=by omega
  rw [hL]; simp [e]
 | succ m ih =>
  intro k x h1 h2;obtain ⟨k,rfl⟩:∃ j,k=j+1:=⟨k - 1,by omega⟩;have e:(x.length:Int) < n:=by omega
  rw [hL,bD (by simp; omega)];simp only [e,decide_true,cond_true,wk];rw [ih k _ (by simp; omega) (by omega),zQZ];rfl
theorem wL{α ρ:Type}{fin:List α->Option ρ}{body:α->Nat->List α->(List α->Option ρ)->Option ρ}(n:Nat)(p:List α)(hb:∀ x i s k,x∈p->s.length+1<=n->body x i s k=k (s++[x])) :
  ∀ (l:List α) (i:Nat) (s:List α),(∀ x∈l,x∈p)->s.length+l.length<=n->cA fin body l i s=fin (s++l):=by
 intro l
 induction l with
 | nil=>intro i s _ _; simp [cA]
 | cons x l ih =>
  intro i s h1 h2;simp only [zQG] at h2;simp only [cA];rw [hb x i s _ (h1 x (by simp)) (by omega),ih (i+1) _ (λy hy=>h1 y (by simp [hy])) (by simp; omega)];simp
theorem gG{u:Nat}(hu:1099511627776<=u){d:am}(hd:M.DOk d):d9 u d=some d:=by
 have h1:=hd.a;have h2:=hd.b;have h3:=hd.p;unfold d9;rw [bD (by simp; omega),bD (by simp; omega)];simp only [wk];rw [Fs u d _ u (by omega) (by omega),wL 1048576 d.fP _ d.fP 0 [] (λ_ h=>h) (by simp; omega)]
 ·rfl
 ·intro x i s k hx hs;have h4:=hd.puts x hx;unfold yi gz;rw [bD (by simp; omega)];simp only [wk];rw [bD (by simp; omega)]; rfl
theorem Gw{u:Nat}(hu:1099511627776<=u){d:am}(hd:M.DOk d):qy u d=some d:=by
 have h1:=hd.a;have h2:=hd.b;have h3:=hd.p;unfold qy;rw [tc u (show d.fA.length<=1073741824 by omega),tc u (show d.fB.length<=1073741824 by omega)];simp only [wk];rw [CC u d d.fA d.fB _ u (by omega) (by omega),wL 1048576 d.fP _ d.fP 0 [] (λ_ h=>h) (by simp; omega)]
 ·rfl
 ·intro x i s k hx hs;have h4:=hd.puts x hx;unfold wq sN;rw [tc u (show x.fB.length<=1073741824 by omega)];simp only [wk];rw [bD (by simp; omega)]; rfl
def yX(b:List Int)(a:Nat)(p:List Int):List Int:=Ae (b++zQk (a+p.length - b.length) 0) p a
theorem Bm{x p:List Int}{a:Nat}(h:a+p.length<=x.length):Ae x p a=x.take a++p++x.drop (a+p.length):=by
 unfold Ae;rw [zXk (l:=p) (by omega),zXH (by omega)]
theorem C9(b:List Int)(a:Nat)(p:List Int):(yX b a p).length=max b.length (a+p.length):=by
 unfold yX;rw [Bm (by simp; omega)];simp;omega
theorem VZ(u:Nat)(a:Nat)(p:List Int)(ha:a<=1048576):∀ (l:List Int) (i:Nat) (s:List Int),a+i+l.length<=s.length->s.length<=4194304->cA (uS u a p) (uT u a p) l i s=some (s.take (a+i)++l++s.drop (a+i+l.length)):=by
 intro l
 induction l with
 | nil=>intro i s _ _; simp [cA,uS,qr]
 | cons y l ih =>
  intro i s h1 h2;simp only [zQG] at h1;simp only [cA,uT];rw [dy (by omega) (by omega),show (a:Int)+(i:Int)=((a+i:Nat):Int) by omega,dc,sX (by omega),rg];simp only [wk];rw [ih (i+1) _ (by simp; omega) (by simp; omega)];have e1:(s.set (a+i) y).take (a+(i+1))=s.take (a+i)++[y]:=by
   rw [show a+(i+1)=(a+i)+1 by omega,List.take_add_one,List.take_set_of_le (zWy _)];simp [show a+i < s.length by omega]
  have e2:(s.set (a+i) y).drop (a+(i+1)+l.length)=s.drop (a+i+(y :: l).length):=by
   rw [List.drop_set_of_lt (by omega)]; simp only [zQG]; congr 1; omega
  rw [e1,e2]; simp
theorem Ck{u:Nat}(hu:1099511627776<=u){b p:List Int}{a:Nat}(hb:b.length<=1048576)(hp:a+p.length<=1048576):oV u b a p=some (yX b a p):=by
 unfold oV;rw [bD (by simp; omega)];simp only [wk,zQy];have e:bd .i64 (a:Int) (p.length:Int)=((a+p.length:Nat):Int):=by rw [dy (by omega) (by omega)]; omega
 rw [Gu (λx=>qs u a p x) ((a+p.length:Nat):Int) (by omega) (λk x=>mq u k a p x) (λk x=>by rw [<- e]; rfl) (a+p.length - b.length) u b (by rw [rg]; omega) (by omega)];unfold qs;rw [HC u a p _ u (by omega) (by omega),VZ u a p (by omega) p 0 _ (by simp; omega) (by simp; omega)];unfold yX;rw [Bm (by simp; omega)]; simp
def ml(d:am)(p:ct):am:=if p.gq=2 then ⟨d.fA,d.fB,p.fR,d.fP⟩ else if p.gq=0 then ⟨yX d.fA p.vI.toNat p.fB,d.fB,d.fR,d.fP⟩ else ⟨d.fA,yX d.fB p.vI.toNat p.fB,d.fR,d.fP⟩
theorem uH{p:ct}(h:eR p=true):p.gq=2\/((p.gq=0\/p.gq=1)/\0<=p.vI/\p.vI+p.fB.length<=240):=by
 unfold eR at h
 by_cases h2:p.gq=2
 ·exact .inl h2
 ·rw [if_neg h2] at h;simp only [sk] at h;have h3:=cd h.1.1;have h4:=cd h.2;exact .inr ⟨by omega,by omega,by omega⟩
theorem yY{d:am}{p:ct}(hd:M.DOk d)(h:eR p=true):M.DOk (ml d p):=by
 have h1:=hd.a;have h2:=hd.b;unfold ml;rcases uH h with h | ⟨h3,h4,h5⟩
 ·rw [if_pos h]; exact ⟨hd.a,hd.b,hd.p,hd.puts⟩
 ·split
  ·exact ⟨hd.a,hd.b,hd.p,hd.puts⟩
  ·split
   ·exact ⟨by rw [C9]; omega,hd.b,hd.p,hd.puts⟩
   ·exact ⟨hd.a,by rw [C9]; omega,hd.p,hd.puts⟩
theorem Bn{u:Nat}(hu:1099511627776<=u){d:am}{p:ct}(hd:M.DOk d)(hp:p.fB.length<=1048576)(h:eR p=true):jq u d p=some (ml d p):=by
 have h1:=hd.a;have h2:=hd.b;unfold jq ml;rw [gG hu hd,Cj u hp,h];simp only [wk,zQK,cond_false];rcases uH h with h | ⟨h3,h4,h5⟩
 ·rw [h]; rfl
 ·obtain ⟨a,ha⟩:=zQJ h4;rcases h3 with h3 | h3
  ·rw [h3,ha,Ck hu h1 (by omega)]; rfl
  ·rw [h3,ha,Ck hu h2 (by omega)]; rfl
theorem OP(b:List Int)(a n:Nat):dC (Ef (a:Int) (((b++zQk (a+n - b.length) (0:Int)).length:Nat):Int))=some ():=by
 have:Ef (a:Int) (((b++zQk (a+n - b.length) (0:Int)).length:Nat):Int)=true:=by
  simp only [Ef,sk,decide_eq_true_eq,zQV,List.length_replicate]; omega
 rw [this]; rfl
theorem Il{u:Nat}(hu:1099511627776<=u){d:am}{p:ct}(hd:M.DOk d)(h:eR p=true):iU u d p=some (ml d p):=by
 have h1:=hd.a;have h2:=hd.b;unfold iU ml q9;rcases uH h with h | ⟨h3,h4,h5⟩
 ·rw [h]; rfl
 ·obtain ⟨a,ha⟩:=zQJ h4;have e:bd .i64 (a:Int) (p.fB.length:Int)=((a+p.fB.length:Nat):Int):=by rw [dy (by omega) (by omega)]; omega
  rcases h3 with h3 | h3
  ·rw [h3,ha];show gw u u p d.fA (0,d)=some ⟨yX d.fA a p.fB,d.fB,d.fR,d.fP⟩;rw [Gu (λx=>ly u p x (0,d)) ((a+p.fB.length:Nat):Int) (by omega) (λk x=>gw u k p x (0,d)) (λk x=>by rw [<- e,<- ha]; rfl) (a+p.fB.length - d.fA.length) u d.fA (by rw [rg]; omega) (by omega)];unfold ly;rw [ha,OP d.fA a p.fB.length];rfl
  ·rw [h3,ha];show gu u u p (1,d) d.fB=some ⟨d.fA,yX d.fB a p.fB,d.fR,d.fP⟩;rw [Gu (λx=>lx u p (1,d) x) ((a+p.fB.length:Nat):Int) (by omega) (λk x=>gu u k p (1,d) x) (λk x=>by rw [<- e,<- ha]; rfl) (a+p.fB.length - d.fB.length) u d.fB (by rw [rg]; omega) (by omega)];unfold lx;rw [ha,OP d.fB a p.fB.length];rfl
def ki(s:Int):List ct->Nat->am->am
 | [],_,d=>⟨d.fA,d.fB,d.fR,[]⟩
 | p :: l,i,d=>ki s l (i+1) (if ef s i then ml d p else d)
def M.fall(d:am)(s:Int):am:=if b7 d then ki s d.fP 0 d else d
theorem Tl(s:Int):∀ (l:List ct) (i:Nat) (d:am),(∀ p∈l,eR p=true)->M.DOk d->M.DOk (ki s l i d):=by
 intro l
 induction l with
 | nil=>intro i d _ hd; exact ⟨hd.a,hd.b,by simp [ki],by simp [ki]⟩
 | cons p l ih =>
  intro i d hp hd;refine ih (i+1) _ (λq hq=>hp q (by simp [hq])) ?_
  split
  ·exact yY hd (hp p (by simp))
  ·exact hd
theorem rM{d:am}(h:b7 d=true):∀ p∈d.fP,eR p=true:=by
 unfold b7 at h;simp only [sk] at h;exact List.all_eq_true.1 h.2
theorem Q8{d:am}(hd:M.DOk d)(s:Int):M.DOk (M.fall d s):=by
 unfold M.fall
 split
 ·rename_i h; exact Tl s _ 0 d (rM h) hd
 ·exact hd
def tup(d:am):List Int×List Int×Int×Int×Int×List ct:=(d.fA,d.fB,d.fR.aM,d.fR.bQ,d.fR.aW,d.fP)
theorem OQ{u:Nat}(hu:1099511627776<=u)(s:Int)(d0:am):∀ (l:List ct) (i:Nat) (d:am),(∀ p∈l,eR p=true)->M.DOk d->cA (jW u s d0) (f5 u s d0) l i (tup d)=some (ki s l i d):=by
 intro l
 induction l with
 | nil=>intro i d _ _; rfl
 | cons p l ih =>
  intro i d hp hd;have h0:=hp p (by simp);simp only [cA,f5,cU,uC,Lx,wk,ki]
  cases hs:ef s i with
  | true =>
   simp only [cond_true,if_true];rw [show (am.mk (tup d).1 (tup d).2.1 (cT.mk (tup d).2.2.1 (tup d).2.2.2.1 (tup d).2.2.2.2.1) (tup d).2.2.2.2.2)=d by rfl,Il hu hd h0];exact ih (i+1) _ (λq hq=>hp q (by simp [hq])) (yY hd h0)
  | false =>
   simp only [cond_false,zWW,if_false];exact ih (i+1) _ (λq hq=>hp q (by simp [hq])) hd
theorem OR{u:Nat}(hu:1099511627776<=u)(s:Int){d0:am}(h0:∀ p∈d0.fP,eR p=true/\p.fB.length<=1048576):∀ (n i:Nat) (d:am),i+n=d0.fP.length->M.DOk d->lB (AK u s d0) (wm u s d0) n i (tup d)=some (ki s (d0.fP.drop i) i d):=by
 intro n
 induction n with
 | zero=>intro i d h1 _; rw [zXv (by omega)]; rfl
 | succ n ih =>
  intro i d h1 hd;have hx:=sX (l:=d0.fP) (i:=i) (by omega);have h2:=h0 d0.fP[i] (zXG (by omega));rw [zXy (by omega)];simp only [lB,wm,pP,kD,dc,hx,wk,ki]
  cases hs:ef s i with
  | true =>
   simp only [cond_true,if_true];rw [show (am.mk (tup d).1 (tup d).2.1 (cT.mk (tup d).2.2.1 (tup d).2.2.2.1 (tup d).2.2.2.2.1) (tup d).2.2.2.2.2)=d by rfl,Bn hu hd h2.2 h2.1];exact ih (i+1) _ (by omega) (yY hd h2.1)
  | false =>
   simp only [cond_false,zWW,if_false];exact ih (i+1) _ (by omega) hd
theorem Nf{u:Nat}(hu:1099511627776<=u){d:am}(hd:M.DOk d)(s:Int):vL u d s=some (M.fall d s):=by
 have h3:=hd.p;unfold vL fk M.fall;rw [Gw hu hd,Bk hu hd];simp only [wk]
 cases h:b7 d with
 | false=>rfl
 | true =>
  simp only [zQK,cond_false,if_true];have e:=OQ hu s d d.fP 0 d (rM h) hd;rw [<- p8 u s d (tup d) u (by omega) (by omega)] at e;rw [show bZ u u s d 0 d.fA d.fB d.fR.aM d.fR.bQ d.fR.aW d.fP=_ from e]; rfl
theorem EI{u:Nat}(hu:1099511627776<=u){d:am}(hd:M.DOk d)(s:Int):tF u d s=some (M.fall d s):=by
 have h3:=hd.p;unfold tF M.fall;rw [gG hu hd,m4 hu hd];simp only [wk]
 cases h:b7 d with
 | false=>rfl
 | true =>
  simp only [zQK,cond_false,if_true];have e:=OR hu s (d0:=d) (λp hp=>⟨rM h p hp,hd.puts p hp⟩) d.fP.length 0 d (by omega) hd;have e2:=I4 u s d (tup d) u (by omega) (by omega);rw [rg,e] at e2;exact e2
def mw(d:am):List am:=(zWY 0 (2 ^ min d.fP.length 6)).map λ(k:Nat)=>M.fall d k
theorem Vs(n:Nat):2 ^ min n 6<=64:=zWz (n:=2) (i:=min n 6) (j:=6) (by decide) (Nat.min_le_right _ _)
theorem Vt(n:Nat):(if (n:Int) < 6 then (n:Int) else 6)=((min n 6:Nat):Int):=by split <;> omega
theorem Gx{u:Nat}(hu:1099511627776<=u){d:am}(hd:M.DOk d):qz u d=some (mw d):=by
 have h3:=hd.p;have h4:=Vs d.fP.length;unfold qz;rw [CE u d [] u (by rw [Vt,vQ (by omega)]; omega) (by rw [Vt,vQ (by omega),rg]; omega),Vt,vQ (by omega),rg,bD (by omega)];simp only [wk];rw [xY (λ(k:Nat)=>M.fall d k) 1000]
 ·rfl
 ·intro i s k h1 h2;unfold wu;rw [Nf hu hd];simp only [wk];rw [bD (by simp; omega)]; rfl
 ·omega
 ·simp
theorem Gy{u:Nat}(hu:1099511627776<=u){d:am}(hd:M.DOk d):qA u d=some (mw d):=by
 have h3:=hd.p;have h4:=Vs d.fP.length;unfold qA;rw [xR,show min (d.fP.length:Int) 6=((min d.fP.length 6:Nat):Int) by omega];simp only [wk];have h:=MY (n:=((2 ^ min d.fP.length 6:Nat):Int)) (fin:=λs=>some s) (body:=λi s k=>(tF u d (i:Int)).bind λr9=>(dC (decide ((s.length+([r9]).length)*96<=140737488355328))).bind λ_=>k (s++[r9])) (λk s i=>kL u k s ((min d.fP.length 6:Nat):Int) i d) (by omega) (λk s i=>by
  rw [kL,bD (by omega),vQ (by omega)]; rfl) (2 ^ min d.fP.length 6) u 0 [] (by rw [rg]; omega) (by omega)
 rw [show ((0:Nat):Int)=0 by rfl] at h;rw [h,xY (λ(k:Nat)=>M.fall d k) 1000]
 ·rfl
 ·intro i s k h1 h2;simp only [EI hu hd,wk];rw [bD (by simp; omega)]; rfl
 ·omega
 ·simp
theorem Hg{d:am}(hd:M.DOk d):∀ x∈mw d,M.DOk x:=by
 intro x hx;unfold mw at hx;rw [zYZ] at hx;obtain ⟨k,_,rfl⟩:=hx;exact Q8 hd k
theorem Ay(d:am):(mw d).length<=64:=by
 unfold mw; rw [zXQ,List.length_range']; exact Vs _
def f6(d:am)(a:List Int)(g:Int)(b:List Int):Bool:=M.holds d 0 a || M.holds d g b
theorem yZ{u:Nat}(hu:1099511627776<=u){d:am}(hd:M.DOk d)(a:List Int)(g:Int)(b:List Int):ot u d a g b=some (f6 d a g b):=by
 unfold ot f6;rw [xW hu hd,xW hu hd]
 cases M.holds d 0 a <;> rfl
theorem y0{u:Nat}(hu:1099511627776<=u){d:am}(hd:M.DOk d)(a:List Int)(g:Int)(b:List Int):mu u d a g b=some (f6 d a g b):=by
 unfold mu f6;rw [xX hu hd,xX hu hd]
 cases M.holds d 0 a <;> rfl
def lr(d:am)(a:List Int)(g:Int)(b:List Int):Bool:=f6 d a g b && (mw d).all λx=>f6 x a g b
theorem Gz{u:Nat}(hu:1099511627776<=u){d:am}(hd:M.DOk d)(a:List Int)(g:Int)(b:List Int):ou u d a g b=some (lr d a g b):=by
 have hl:=Ay d;unfold ou lr cj cy;rw [yZ hu hd,Gx hu hd];simp only [wk];rw [iI u _ a g b () u (by omega) (by omega),Bi (λx=>!f6 x a g b) rfl (λx i k hx=>by unfold dY nT; rw [yZ hu (Hg hd x hx)]; rfl)];simp only [wk,Hd,Hf]
 cases f6 d a g b <;> rfl
theorem GA{u:Nat}(hu:1099511627776<=u){d:am}(hd:M.DOk d)(a:List Int)(g:Int)(b:List Int):qB u d a g b=some (lr d a g b):=by
 have hl:=Ay d;unfold qB lr;rw [Gy hu hd];simp only [wk];rw [CF u a g b _ d () u (by omega) (by omega)];have:∀ (l:List am) (i:Nat),(∀ x∈l,M.DOk x)->cA (rt u a g b (mw d) d) (ru u a g b (mw d) d) l i ()=some (f6 d a g b && l.all λx=>f6 x a g b):=by
  intro l
  induction l with
  | nil=>intro i _; simp only [cA,rt,pR,y0 hu hd,wk,List.all_nil,Bool.and_true]
  | cons x l ih =>
   intro i h;simp only [cA,ru,y0 hu (h x (by simp)),wk,zYh];rw [ih (i+1) (λy hy=>h y (by simp [hy]))]
   cases f6 x a g b
   ·simp
   ·simp
 exact this _ 0 (Hg hd)
def nZ(w:World)(i:Nat):Bool:=match w.fD[i]?,w.bA[i]? with
 | some d,some x=>lr d x.fB 1 w.bK
 | _,_=>true
theorem LB{u:Nat}(hu:1099511627776<=u){w:World}(hw:M.DsOk w):∀ (m i k:Nat),(i+m=min w.bA.length w.fD.length\/(m=0/\min w.bA.length w.fD.length<=i))->m < k->io u k i w=some ((zWY i m).all (nZ w)):=by
 have h1:=hw.d;have h2:=hw.old;have e0:(if (w.bA.length:Int) < (w.fD.length:Int) then (w.bA.length:Int) else (w.fD.length:Int))=((min w.bA.length w.fD.length:Nat):Int):=by split <;> omega
 intro m
 induction m with
 | zero =>
  intro i k h3 h4;obtain ⟨k,rfl⟩:∃ j,k=j+1:=⟨k - 1,by omega⟩;have e:¬ ((i:Int) < ((min w.bA.length w.fD.length:Nat):Int)):=by omega
  unfold io;rw [e0];simp only [e,decide_false,cond_false]; rfl
 | succ m ih =>
  intro i k h3 h4;obtain ⟨k,rfl⟩:∃ j,k=j+1:=⟨k - 1,by omega⟩;have e:(i:Int) < ((min w.bA.length w.fD.length:Nat):Int):=by omega
  have e1:=sX (l:=w.fD) (i:=i) (by omega);have e2:=sX (l:=w.bA) (i:=i) (by omega);have hd:=hw.ok _ (zXG (l:=w.fD) (n:=i) (by omega));unfold io;rw [e0];simp only [e,decide_true,cond_true,dc,e1,e2,wk,Gz hu hd];rw [dB (by omega),ih (i+1) k (by omega) (by omega),zXh,zYh];have e3:nZ w i=lr w.fD[i] w.bA[i].fB 1 w.bK:=by unfold nZ; rw [e1,e2]
  rw [e3]
  cases lr w.fD[i] w.bA[i].fB 1 w.bK <;> rfl
theorem LC{u:Nat}(hu:1099511627776<=u){w:World}(hw:M.DsOk w):∀ (m i k:Nat),(i+m=min w.bA.length w.fD.length\/(m=0/\min w.bA.length w.fD.length<=i))->m < k->ip u k i w=some ((zWY i m).all (nZ w)):=by
 have h1:=hw.d;have h2:=hw.old;intro m
 induction m with
 | zero =>
  intro i k h3 h4;obtain ⟨k,rfl⟩:∃ j,k=j+1:=⟨k - 1,by omega⟩;unfold ip o9 ww
  by_cases e:(i:Int) < (w.fD.length:Int)
  ·have e':¬ ((i:Int) < (w.bA.length:Int)):=by omega
   simp only [e,e',decide_true,decide_false,cond_true,cond_false]; rfl
  ·simp only [e,decide_false,cond_false]; rfl
 | succ m ih =>
  intro i k h3 h4;obtain ⟨k,rfl⟩:∃ j,k=j+1:=⟨k - 1,by omega⟩;have e:(i:Int) < (w.fD.length:Int):=by omega
  have e':(i:Int) < (w.bA.length:Int):=by omega
  have e1:=sX (l:=w.fD) (i:=i) (by omega);have e2:=sX (l:=w.bA) (i:=i) (by omega);have hd:=hw.ok _ (zXG (l:=w.fD) (n:=i) (by omega));unfold ip o9;simp only [e,e',decide_true,cond_true,dc,e1,e2,wk,GA hu hd];rw [dB (by omega),ih (i+1) k (by omega) (by omega),zXh,zYh];have e3:nZ w i=lr w.fD[i] w.bA[i].fB 1 w.bK:=by unfold nZ; rw [e1,e2]
  rw [e3]
  cases lr w.fD[i] w.bA[i].fB 1 w.bK <;> rfl
structure Cu (c:aH):Prop where
 i0:0<=c.fI
 n:c.fI<=(c.fB.length:Int)
 len:c.fB.length<=1048576
def Dr{α:Type}(r:Option (α×aH))(p:α->Prop):Prop:=∃ v c,r=some (v,c)/\p v/\Cu c
theorem IZ{α:Type}{r:Option (α×aH)}{p q:α->Prop}(h:Dr r p)(hpq:∀ v,p v->q v):Dr r q:=by
 obtain ⟨v,c,e,h1,h2⟩:=h;exact ⟨v,c,e,hpq v h1,h2⟩
theorem cz{α β:Type}{r:Option (α×aH)}{p:α->Prop}{f:α×aH->Option (β×aH)}{q:β->Prop}(h:Dr r p)(hf:∀ v c,p v->Cu c->Dr (f (v,c)) q):Dr (r.bind f) q:=by
 obtain ⟨v,c,e,h1,h2⟩:=h;rw [e];exact hf v c h1 h2
theorem cR{α:Type}{v:α}{c:aH}{p:α->Prop}(h:p v)(hc:Cu c):Dr (Option.some (v,c)) p:=⟨v,c,rfl,h,hc⟩
theorem Tn(a:Int):0<=fK .i64 a 255/\fK .i64 a 255<=255:=by
 unfold fK;have h:(BitVec.ofInt 64 a &&& BitVec.ofInt 64 255).toNat<=255:=by
  rw [BitVec.toNat_and];exact Nat.and_le_right
 have e:IntKind.wrap .i64 (((BitVec.ofInt 64 a &&& BitVec.ofInt 64 255).toNat:Nat):Int)=(((BitVec.ofInt 64 a &&& BitVec.ofInt 64 255).toNat:Nat):Int):=gX (by omega) (by omega);show 0<=IntKind.wrap .i64 (((BitVec.ofInt 64 a &&& BitVec.ofInt 64 255).toNat:Nat):Int)/\IntKind.wrap .i64 (((BitVec.ofInt 64 a &&& BitVec.ofInt 64 255).toNat:Nat):Int)<=255;rw [e];omega
theorem To{u:Nat}(hu:1099511627776<=u){code:List Int}(h:code.length<=1048576):∃ c,tp u code=some c/\Cu c:=by
 have key:∀ (m k i:Nat) (x:Int),i+m=code.length->m < k->∃ c,ja u k code x (i:Int)=some c/\Cu c:=by
  intro m
  induction m with
  | zero =>
   intro k i x hi hk;obtain ⟨k,rfl⟩:∃ j,k=j+1:=⟨k - 1,by omega⟩;unfold ja;have:¬ ((i:Int) < (code.length:Int)):=by omega
   simp only [this,decide_false,cond_false,qf,t6];exact ⟨_,rfl,⟨zVV 0,Int.natCast_nonneg _,h⟩⟩
  | succ m ih =>
   intro k i x hi hk;obtain ⟨k,rfl⟩:∃ j,k=j+1:=⟨k - 1,by omega⟩;unfold ja;have hlt:(i:Int) < (code.length:Int):=by omega
   simp only [hlt,decide_true,cond_true,qf]
   by_cases h4:(i:Int) < 4000
   ·simp only [h4,decide_true,cond_true,dc];obtain ⟨y,hy⟩:∃ y,code[i]?=some y:=⟨code[i],sX (by omega)⟩;rw [hy];simp only [wk];rw [dB (by omega)];exact ih k (i+1) _ (by omega) (by omega)
   ·simp only [h4,decide_false,cond_false,t6];exact ⟨_,rfl,⟨zVV 0,Int.natCast_nonneg _,h⟩⟩
 exact key code.length u 0 _ (by omega) (by omega)
theorem za(u:Nat){c:aH}(hc:Cu c):Dr (kl u c) (λv=>0<=v/\v<=255):=by
 have h0:=hc.i0;have h1:=hc.n;have h2:=hc.len;unfold kl
 by_cases h:c.fI < (c.fB.length:Int)
 ·simp only [h,decide_true,cond_true];obtain ⟨i,hi⟩:∃ i:Nat,c.fI=(i:Int):=⟨c.fI.toNat,by omega⟩;rw [hi,dc,sX (by omega)];simp only [wk,oL];exact cR (Tn _) ⟨by show 0<=bd .i64 (i:Int) 1; rw [dB (by omega)]; omega,by show bd .i64 (i:Int) 1<=(c.fB.length:Int); rw [dB (by omega)]; omega,h2⟩
 ·simp only [h,decide_false,cond_false,oL];exact cR (Tn _) ⟨h0,h1,h2⟩
theorem cG(u:Nat){c:aH}(hc:Cu c)(n:Int):Dr (be u c n) (λv=>0<=v/\(0 < n->v < n)):=by
 unfold be
 by_cases h:n<=0
 ·simp only [h,decide_true,cond_true];exact cR ⟨zVV 0,λh'=>by omega⟩ hc
 ·have hn:(!(n == 0))=true:=by simp; omega
  have hr:∀ a:Int,0<=a->0<=uG .i64 a n/\(0 < n->uG .i64 a n < n):=λa ha=>by
   rw [AZ ha];exact ⟨zZk _ (by omega),λ_=>zZj _ (by omega)⟩
  simp only [h,decide_false,cond_false]
  by_cases h2:n<=256
  ·simp only [h2,decide_true,cond_true];refine cz (za u hc) λv c' hv hc'=>?_;rw [hn];exact cR (hr v hv.1) hc'
  ·simp only [h2,decide_false,cond_false];refine cz (za u hc) λv c' hv hc'=>?_;refine cz (za u hc') λv2 c2 hv2 hc2=>?_;refine cz (za u hc2) λv3 c3 hv3 hc3=>?_;rw [hn];refine cR (hr _ ?_) hc3;simp only;rw [pg (by omega) (by omega),pg (by omega) (by omega),dy (a:=v*65536) (b:=v2*256) (by omega) (by omega),dy (by omega) (by omega)];omega
theorem GB(u:Nat){c:aH}(hc:Cu c)(n:Int):Dr (jk u c n) (λ_=>True):=by
 unfold jk;exact cz (cG u hc n) λv c' _ hc'=>cR trivial hc'
theorem n4(u:Nat){c:aH}(hc:Cu c){xs:List Int}(hx:0 < xs.length):Dr (dE u c xs) (λv=>v∈xs):=by
 unfold dE;refine cz (cG u hc _) λv c' hv hc'=>?_;have hlt:=hv.2 (by omega);obtain ⟨i,hi⟩:∃ i:Nat,v=(i:Int):=⟨v.toNat,by omega⟩;subst hi;have hi:i < xs.length:=by omega
 simp only [dc,sX hi,wk];exact cR (zXG hi) hc'
theorem Kn{u:Nat}(hu:1099511627776<=u){c:aH}(hc:Cu c){n:Nat}(hn:n<=1000):Dr (gI u c (n:Int)) (λv=>v.length<=n):=by
 unfold gI;rw [dB (by omega)];refine cz (cG u hc _) λv c1 hv hc1=>?_;have hlt:=hv.2 (by omega);obtain ⟨m,hm⟩:∃ m:Nat,v=(m:Int):=⟨v.toNat,by omega⟩;subst hm;have key:∀ (m k:Nat) (x:List Int) (c:aH),m < k->Cu c->x.length+m<=1000->Dr (fw u k x (m:Int) c.fB c.fI c.fH) (λv=>v.length<=x.length+m):=by
  intro m
  induction m with
  | zero =>
   intro k x c hk hc hx;obtain ⟨k,rfl⟩:∃ j,k=j+1:=⟨k - 1,by omega⟩;unfold fw;simp only [Int.natCast_zero,gt_iff_lt,Int.lt_irrefl,decide_false,cond_false,qL];exact cR (zWy _) hc
  | succ m ih =>
   intro k x c hk hc hx;obtain ⟨k,rfl⟩:∃ j,k=j+1:=⟨k - 1,by omega⟩;unfold fw;have:((m+1:Nat):Int) > 0:=by omega
   simp only [this,decide_true,cond_true];refine cz (n4 u hc (xs:=[97,98,99,0,255]) (by simp)) λv c2 hv hc2=>?_;rw [bD (by simp; omega)];simp only [wk];rw [dD (by omega) (by omega)];have e:((m+1:Nat):Int) - 1=(m:Int):=by omega
   rw [e];refine IZ (ih k _ c2 (by omega) hc2 (by simp; omega)) λv h=>?_;simp only [zQV,zQG,zXZ] at h;omega
 refine IZ (key m u [] c1 (by omega) hc1 (by simp; omega)) λv h=>?_;simp only [zXZ] at h;omega
theorem zL{d:am}(h:b7 d=true):M.DOk d:=by
 have h1:=pZ h;refine ⟨by omega,by omega,by omega,λx hx=>?_⟩;have h2:=rM h x hx;rcases uH h2 with h3 | ⟨_,h3,h4⟩
 ·unfold eR at h2;rw [if_pos h3] at h2;simp only [sk,beq_iff_eq] at h2;omega
 ·omega
theorem Ko(u:Nat){g:Int}{b:List Int}(h0:0<=g)(h1:g<=1000000)(hb:b.length<=240):lY u g b=some ⟨b,[],⟨g,0,b.length⟩,[]⟩/\b7 ⟨b,[],⟨g,0,b.length⟩,[]⟩=true:=by
 refine ⟨?_,?_⟩
 ·unfold lY;have hw:au g 0 1000000=true:=by simp [au,h0,h1]
  rw [bL,hw];simp only [wk,zQK,cond_false];have:¬ ((b.length:Int) > 240):=by omega
  simp only [this,decide_false,nK,cond_false];rw [bD (by simp; omega)];simp
 ·simp [b7,fp,au,iv,h0,h1,hb];omega
def gZ(d:am)(p:ct):am:=⟨d.fA,d.fB,d.fR,d.fP++[p]⟩
theorem Ng(u:Nat){p:ct}(h:p.fB.length<=1048576):gz u p=some p:=by
 unfold gz;rw [bD (by simp; omega)];simp
theorem BR{d:am}{p:ct}(hd:M.DOk d)(hl:d.fP.length<=1048575)(hp:p.fB.length<=1048576):M.DOk (gZ d p) :=
 ⟨hd.a,hd.b,by simp [gZ]; omega,λx hx=>by
  rcases List.mem_append.1 hx with h | h
  ·exact hd.puts x h
  ·simp at h; subst h; exact hp⟩
theorem xZ{u:Nat}(hu:1099511627776<=u){d:am}{p:ct}(hd:M.DOk d)(hl:d.fP.length<=1048575)(hp:p.fB.length<=1048576) :
  nv u d p=some (if b7 (gZ d p) then (gZ d p,true) else (d,false)):=by
 have hap:=hd.p;unfold nv;rw [gG hu hd];simp only [wk];rw [Ng u hp];simp only [wk];rw [bD (by simp; omega)];simp only [wk];have e:(am.mk d.fA d.fB d.fR (d.fP++[p]))=gZ d p:=rfl;rw [e,m4 hu (BR hd hl hp)];simp only [wk]
 cases h:b7 (gZ d p) <;> simp
def wM:List ct->am->am
 | [],d=>⟨d.fA,d.fB,d.fR,[]⟩
 | p :: l,d=>wM l (ml d p)
def M.sure(d:am):am:=if b7 d then wM d.fP d else d
theorem Q9:∀ (l:List ct) (d:am),(∀ p∈l,eR p=true)->M.DOk d->M.DOk (wM l d)
 | [],d,_,hd=>⟨hd.a,hd.b,by simp [wM],by simp [wM]⟩
 | p :: l,d,hp,hd=>Q9 l _ (λq hq=>hp q (by simp [hq])) (yY hd (hp p (by simp)))
theorem Ra{d:am}(hd:M.DOk d):M.DOk (M.sure d):=by
 unfold M.sure
 cases h:b7 d with
 | true=>exact Q9 _ _ (rM h) hd
 | false=>exact hd
theorem OS{u:Nat}(hu:1099511627776<=u)(d0:am):∀ (l:List ct) (i:Nat) (d:am),(∀ p∈l,eR p=true/\p.fB.length<=1048576)->M.DOk d->cA (wi u d0) (wj u d0) l i (tup d)=some (wM l d):=by
 intro l
 induction l with
 | nil=>intro i d _ _; rfl
 | cons p l ih =>
  intro i d hp hd;obtain ⟨h1,h2⟩:=hp p (by simp);show (jq u d p).bind (λr25=>cA (wi u d0) (wj u d0) l (i+1) (tup r25))=_;rw [Bn hu hd h2 h1];exact ih (i+1) _ (λq hq=>hp q (by simp [hq])) (yY hd h1)
theorem EJ{u:Nat}(hu:1099511627776<=u){d:am}(hd:M.DOk d):pL u d=some (M.sure d):=by
 have h3:=hd.p;unfold pL M.sure;rw [gG hu hd,m4 hu hd];simp only [wk]
 cases h:b7 d with
 | false=>rfl
 | true =>
  simp only [zQK,cond_false,if_true];have:=I3 u d (tup d) u (by omega) (by omega);exact this.trans (OS hu d d.fP 0 d (λp hp=>⟨rM h p hp,hd.puts p hp⟩) hd)
theorem OT{u:Nat}(hu:1099511627776<=u){c:aH}(hc:Cu c):Dr (qw u c) (λp=>p.fB.length<=5):=by
 unfold qw;refine cz (GB u hc 4) λb c1 _ h1=>?_
 cases b with
 | true =>
  simp only [cond_true];refine cz (cG u h1 4) λv2 c2 _ h2=>?_;refine cz (cG u h2 2) λv3 c3 _ h3=>?_;refine cz (cG u h3 6) λv4 c4 _ h4=>?_;exact cR (by simp) h4
 | false =>
  simp only [cond_false];refine cz (cG u h1 2) λv2 c2 _ h2=>?_;refine cz (cG u h2 9) λv3 c3 _ h3=>?_;refine cz (Kn hu h3 (n:=5) (by omega)) λv4 c4 hv h4=>?_;exact cR hv h4
theorem R0{u:Nat}(hu:1099511627776<=u){c:aH}(hc:Cu c):Dr (uB u c) (λd=>b7 d=true):=by
 unfold uB;refine cz (cG u hc 3) λg c1 hg h1=>?_;refine cz (Kn hu h1 (n:=9) (by omega)) λb c2 hb h2=>?_;have hg2:=hg.2 (by omega);obtain ⟨e1,e2⟩:=Ko u hg.1 (by omega) (b:=b) (by omega);simp only [e1,wk];refine cz (cG u h2 5) λn c3 hn h3=>?_;obtain ⟨m,hm⟩:∃ m:Nat,n=(m:Int):=⟨n.toNat,by omega⟩;subst hm;have hm5:=hn.2 (by omega);have key:∀ (m k:Nat) (d:am) (c:aH),m < k->m<=5->b7 d=true->Cu c->Dr (gB u k (m:Int) d.fA d.fB d.fR.aM d.fR.bQ d.fR.aW d.fP c.fB c.fI c.fH) (λd=>b7 d=true):=by
  intro m
  induction m with
  | zero =>
   intro k d c hk _ hd hc;obtain ⟨k,rfl⟩:∃ j,k=j+1:=⟨k - 1,by omega⟩;unfold gB;simp only [Int.natCast_zero,gt_iff_lt,Int.lt_irrefl,decide_false,cond_false,wn];exact cR hd hc
  | succ m ih =>
   intro k d c hk hm hd hc;obtain ⟨k,rfl⟩:∃ j,k=j+1:=⟨k - 1,by omega⟩;unfold gB;have:((m+1:Nat):Int) > 0:=by omega
   simp only [this,decide_true,cond_true];refine cz (OT hu hc) λp c1 hp h1=>?_;have hD:=zL hd;have hpl:=pZ hd;have e:(am.mk d.fA d.fB (cT.mk d.fR.aM d.fR.bQ d.fR.aW) d.fP)=d:=rfl;rw [e,xZ hu hD (p:=p) (by omega) (by omega)];simp only [wk];obtain ⟨d',b',hd',hif⟩:∃ d' b',b7 d'=true/\(if b7 (gZ d p)=true then (gZ d p,true) else (d,false))=(d',b'):=by
    cases h:b7 (gZ d p) with
    | true=>exact ⟨_,true,h,rfl⟩
    | false=>exact ⟨_,false,hd,rfl⟩
   rw [hif];simp only;rw [EJ hu (zL hd')];simp only [wk];refine cz (GB u h1 5) λo c2 _ h2=>?_;have hs:(ez .i64 ((m+1:Nat):Int) 1)=(m:Int):=by rw [dD (by omega) (by omega)]; omega
   cases o with
   | true =>
    simp only [cond_true];rw [m4 hu (Ra (zL hd'))];simp only [wk,o6,o5,hs]
    cases hx:b7 (M.sure d') with
    | true=>exact ih k _ c2 (by omega) (by omega) hx h2
    | false=>exact ih k _ c2 (by omega) (by omega) hd' h2
   | false =>
    simp only [cond_false,o6,o5,hs];exact ih k _ c2 (by omega) (by omega) hd' h2
 exact key m u _ c3 (by omega) (by omega) e2 h3
theorem Tp{u:Nat}(hu:1099511627776<=u){c:aH}(hc:Cu c):Dr (tG u c) (λd=>M.DOk d/\d.fP.length<=201):=by
 unfold tG;refine cz (R0 hu hc) λd c1 hd h1=>?_;have hD:=zL hd;have hl:=pZ hd;have hok:∀ r,M.DOk ⟨d.fA,d.fB,r,d.fP⟩/\d.fP.length<=201:=λr=>⟨⟨hD.a,hD.b,hD.p,hD.puts⟩,by omega⟩;refine cz (cG u h1 12) λn c2 _ h2=>?_;simp only
 cases n == 0 with
 | true =>
  simp only [cond_true];refine cz (n4 u h2 (by simp)) λx c3 _ h3=>?_;exact cR (hok _) h3
 | false =>
  simp only [cond_false]
  cases n == 1 with
  | true =>
   simp only [cond_true];refine cz (n4 u h2 (by simp)) λx c3 _ h3=>?_;exact cR (hok _) h3
  | false =>
   simp only [cond_false]
   cases n == 2 with
   | true =>
    simp only [cond_true];refine cz (n4 u h2 (by simp)) λx c3 _ h3=>?_;exact cR (hok _) h3
   | false =>
    simp only [cond_false]
    cases n == 3 with
    | true =>
     simp only [cond_true];refine cz (n4 u h2 (by simp)) λx c3 _ h3=>?_;refine cz (n4 u h3 (by simp)) λy c4 _ h4=>?_;rw [bD (by simp; omega)];simp only [wk,mt];refine cR ⟨BR hD (by omega) (p:=⟨x,y,[1],⟨0,0,0⟩⟩) (by simp),by simp; omega⟩ h4
    | false=>exact cR (hok _) h2
theorem Mq(s:Int):∀ (l:List ct) (i:Nat) (d:am),(ki s l i d).fP=[]
 | [],i,d=>rfl
 | p :: l,i,d=>Mq s l (i+1) _
theorem Tq{d:am}(h:b7 d=true)(s:Int):(M.fall d s).fP=[]:=by
 unfold M.fall;rw [h];exact Mq s d.fP 0 d
theorem R4(n:Int):0<=IntKind.wrap .u8 n/\IntKind.wrap .u8 n<=255:=by
 show 0<=n % 256/\n % 256<=255;omega
theorem GC(n:Int):aB [IntKind.wrap .u8 n]:=λx hx=>by
 simp only [zQH] at hx;subst hx;exact R4 n
theorem vT{a b:List Int}(ha:aB a)(hb:aB b):aB (a++b):=λx hx=>(List.mem_append.1 hx).elim (ha x) (hb x)
theorem BS{a:List Int}(ha:aB a)(i:Nat){v:Int}(hv:0<=v/\v<=255):aB (a.set i v):=λx hx=>by
 rcases zXz hx with h | h
 ·exact ha x h
 ·subst h; exact hv
theorem zM{a:List Int}(ha:aB a)(n:Nat):aB (a.take n):=λx hx=>ha x (zWX hx)
theorem zN{a:List Int}(ha:aB a)(n:Nat):aB (a.drop n):=λx hx=>ha x (zWg hx)
theorem Mr:aB []:=λx hx=>by cases hx
def m6(n:Nat)(b:List Int):Prop:=b.length<=n/\aB b
theorem xA{u:Nat}(hu:1099511627776<=u){c:aH}(hc:Cu c){n:Nat}(hn:n<=1000):Dr (gI u c (n:Int)) (m6 n):=by
 unfold gI;rw [dB (by omega)];refine cz (cG u hc _) λv c1 hv hc1=>?_;have hlt:=hv.2 (by omega);obtain ⟨m,hm⟩:∃ m:Nat,v=(m:Int):=⟨v.toNat,by omega⟩;subst hm;have key:∀ (m k:Nat) (x:List Int) (c:aH),m < k->Cu c->x.length+m<=1000->aB x->Dr (fw u k x (m:Int) c.fB c.fI c.fH) (m6 (x.length+m)):=by
  intro m
  induction m with
  | zero =>
   intro k x c hk hc hx hb;obtain ⟨k,rfl⟩:∃ j,k=j+1:=⟨k - 1,by omega⟩;unfold fw;simp only [Int.natCast_zero,gt_iff_lt,Int.lt_irrefl,decide_false,cond_false,qL];exact cR ⟨zWy _,hb⟩ hc
  | succ m ih =>
   intro k x c hk hc hx hb;obtain ⟨k,rfl⟩:∃ j,k=j+1:=⟨k - 1,by omega⟩;unfold fw;have:((m+1:Nat):Int) > 0:=by omega
   simp only [this,decide_true,cond_true];refine cz (n4 u hc (xs:=[97,98,99,0,255]) (by simp)) λv c2 hv hc2=>?_;rw [bD (by simp; omega)];simp only [wk];rw [dD (by omega) (by omega)];have e:((m+1:Nat):Int) - 1=(m:Int):=by omega
   rw [e];refine IZ (ih k _ c2 (by omega) hc2 (by simp; omega) (vT hb (GC _))) λv h=>?_;have h1:=h.1;simp only [zQV,zQG,zXZ] at h1;exact ⟨by omega,h.2⟩
 refine IZ (key m u [] c1 (by omega) hc1 (by simp; omega) Mr) λv h=>?_;have h1:=h.1;simp only [zXZ] at h1;exact ⟨by omega,h.2⟩
theorem Kp{u:Nat}(hu:1099511627776<=u){c:aH}(hc:Cu c):Dr (lT u c) (m6 16):=by
 unfold lT;exact cz (xA hu hc (n:=16) (by omega)) λv c1 hv hc1=>cR hv hc1
theorem Qa(u:Nat){c:aH}(hc:Cu c){b:List Int}(hb:b.length<=200)(hB:aB b):Dr (m9 u c b) (m6 201):=by
 unfold m9;rw [bD (by simp; omega)];simp only [wk,zQy];have hlt:∀ {v:Int},0<=v->v < (b.length:Int)->∃ y,dG b v=some y:=λ{v} h0 h1=>by
  obtain ⟨i,rfl⟩:∃ i:Nat,v=(i:Int):=⟨v.toNat,by omega⟩;exact ⟨b[i]'(by omega),by rw [dc]; exact sX (by omega)⟩
 have self:m6 201 b:=⟨by omega,hB⟩;refine cz (cG u hc 6) λn c1 _ h1=>?_;simp only
 cases n == 0 with
 | true =>
  simp only [cond_true]
  by_cases hl:(b.length:Int) > 0
  ·simp only [hl,decide_true,cond_true];refine cz (cG u h1 _) λv c2 hv h2=>?_;refine cz (cG u h2 256) λw c3 _ h3=>?_;obtain ⟨y,hy⟩:=hlt hv.1 (hv.2 hl);simp only [hy,wk,co];exact cR ⟨by rw [zXJ]; omega,BS hB _ (R4 _)⟩ h3
  ·simp only [hl,decide_false,cond_false,co];exact cR self h1
 | false =>
  simp only [cond_false]
  cases n == 1 with
  | true =>
   simp only [cond_true];rw [dB (by omega)];refine cz (cG u h1 _) λv c2 hv h2=>?_;have h3:=hv.2 (by omega);have hs:cO 0 v (b.length:Int)=true:=by simp [cO]; omega
   simp only [hs,Eg,wk,co];exact cR ⟨by rw [zYV,zQz]; omega,zN (zM hB _) _⟩ h2
  | false =>
   simp only [cond_false]
   cases n == 2 with
   | true =>
    simp only [cond_true];refine cz (n4 u h1 (by simp)) λv c2 _ h2=>?_;rw [bD (by simp; omega)];simp only [wk,co];exact cR ⟨by rw [zQV,zYw]; omega,vT hB (GC _)⟩ h2
   | false =>
    simp only [cond_false]
    cases n == 3 with
    | true =>
     simp only [cond_true]
     by_cases hl:(b.length:Int) > 0
     ·simp only [hl,decide_true,cond_true];refine cz (cG u h1 _) λv c2 hv h2=>?_;obtain ⟨y,hy⟩:=hlt hv.1 (hv.2 hl);simp only [hy,wk];refine cz (cG u h2 8) λw c3 hw h3=>?_;have hw0:=hw.1;simp only [hy];rw [bD hw0];simp only [wk,co];exact cR ⟨by rw [zXJ]; omega,BS hB _ (by unfold MV; exact R4 _)⟩ h3
     ·simp only [hl,decide_false,cond_false,co];exact cR self h1
    | false =>
     simp only [cond_false,co];exact cR self h1
theorem R5{u:Nat}(hu:1099511627776<=u){c:aH}(hc:Cu c){b:List Int}(hb:b.length<=200)(hB:aB b):Dr (rj u c b) (m6 240):=by
 unfold rj;refine cz (cG u hc 5) λn c1 _ h1=>?_;simp only
 cases n == 0 with
 | true =>
  simp only [cond_true];exact cz (xA hu h1 (n:=16) (by omega)) λv c2 hv h2=>cR ⟨zWx hv.1 (by omega),hv.2⟩ h2
 | false =>
  simp only [cond_false]
  cases n == 1 with
  | true =>
   simp only [cond_true];rw [bD (by simp; omega)];simp only [wk,zQy];exact cR ⟨by omega,hB⟩ h1
  | false =>
   simp only [cond_false]
   cases n == 2 with
   | true =>
    simp only [cond_true];rw [dB (by omega)];refine cz (cG u h1 _) λv c2 hv h2=>?_;have h3:=hv.2 (by omega);have h0:=hv.1;have s1:cO v (b.length:Int) (b.length:Int)=true:=by simp [cO]; omega
    have s2:cO 0 v (b.length:Int)=true:=by simp [cO]; omega
    simp only [s1,s2,Eg,wk];rw [bD (by simp; omega)];simp only [wk];rw [bD (by simp; omega)];simp only [wk];refine cR ⟨by simp; omega,vT (vT (λx hx=>?_) (zN (zM hB _) _)) (zN (zM hB _) _)⟩ h2;simp only [zQH] at hx;omega
   | false =>
    simp only [cond_false]
    cases n == 3 with
    | true =>
     simp only [cond_true];exact cR ⟨by simp,Mr⟩ h1
    | false =>
     simp only [cond_false];refine cz (xA hu h1 (n:=3) (by omega)) λv c2 hv h2=>?_;refine cz (Qa u h2 hb hB) λw c3 hw h3=>?_;have hv1:=hv.1;have hw1:=hw.1;simp only;rw [bD (by omega)];simp only [wk];exact cR ⟨by rw [zQV]; omega,vT hv.2 hw.2⟩ h3
theorem ji{α:Type}(l:List α)(k:Nat){v:α}(h:l[k]?=some v):dG l (k:Int)=some v:=by
 unfold dG;simp [h]
def Kr(c:Int):Option (Int×Nat)->Option (Int×Nat)
 | some (v,n)=>some (v*128+(c - 128),n+1)
 | none=>none
def M.rd:Nat->Bool->List Int->Option (Int×Nat)
 | 0,_,_=>none
 | _+1,_,[]=>none
 | k+1,f,c :: l=>if c < 128 then (if f || decide (0 < c) then some (c,1) else none) else Kr c (M.rd k false l)
theorem Vu:∀ (k:Nat) (f:Bool) (l:List Int) (w:Int) (j:Nat),aB l->M.rd k f l=some (w,j)->0<=w/\(f=false->0 < w)/\j<=l.length/\1<=j/\w < 128 ^ k/\∀ K,k<=K+1->l.take j=cB K w:=by
 intro k
 induction k with
 | zero=>intro f l w j _ h; simp [M.rd] at h
 | succ k ih =>
  intro f l w j hb h
  cases l with
  | nil=>simp [M.rd] at h
  | cons c l =>
   have hc:=hb c (by simp);unfold M.rd at h
   by_cases hc1:c < 128
   ·rw [if_pos hc1] at h
    split at h
    ·rename_i hf;simp only [Option.some.injEq,Prod.mk.injEq] at h;obtain ⟨rfl,rfl⟩:=h;have hp:(128:Int)<=128 ^ (k+1):=by
      rw [zYW]; have:(0:Int) < 128 ^ k:=Int.pow_pos (by decide); omega
     refine ⟨hc.1,λh0=>by subst h0; simpa using hf,by simp,by omega,by omega,λK _=>?_⟩
     cases K with
     | zero=>simp [cB]; omega
     | succ K=>unfold cB; rw [if_pos (by omega)]; simp; omega
    ·cases h
   ·rw [if_neg hc1] at h
    cases hr:M.rd k false l with
    | none=>rw [hr] at h; cases h
    | some q =>
     obtain ⟨v,n⟩:=q;rw [hr] at h;simp only [Kr,Option.some.injEq,Prod.mk.injEq] at h;obtain ⟨rfl,rfl⟩:=h;obtain ⟨h1,h2,h3,h4,h5,h6⟩:=ih false l v n (λx hx=>hb x (by simp [hx])) hr;have h2:=h2 rfl;have hk:k≠0:=by intro h0; subst h0; simp [M.rd] at hr
     refine ⟨by omega,λ_=>by omega,by simp; omega,by omega,by rw [zYW]; omega,λK hK=>?_⟩;obtain ⟨K,rfl⟩:∃ K',K=K'+1:=⟨K - 1,by omega⟩;unfold cB;rw [if_neg (by omega),List.take_succ_cons,h6 K (by omega)]
     congr 1
     ·omega
     ·congr 1; omega
theorem Qb:∀ (k K:Nat) (f:Bool) (n:Int) (t:List Int),1<=k->0<=n->(f=false->0 < n)->n < 128 ^ k->k<=K+1->M.rd k f (cB K n++t)=some (n,(cB K n).length):=by
 intro k
 induction k with
 | zero=>intro K f n t h0; omega
 | succ k ih =>
  intro K f n t h0 h1 h2 h3 h4
  by_cases h:n<=127
  ·have e:cB K n=[n]:=by
    cases K with
    | zero=>simp [cB]; omega
    | succ K=>unfold cB; rw [if_pos h]; simp; omega
   rw [e];simp only [List.singleton_append,M.rd,zYw];rw [if_pos (by omega),if_pos (by cases f <;> simp; exact h2 rfl)]
  ·have hk:k≠0:=by
    intro h0; subst h0;rw [show (128:Int) ^ (0+1)=128 by rfl] at h3; omega
   obtain ⟨K,rfl⟩:∃ K',K=K'+1:=⟨K - 1,by omega⟩;unfold cB;rw [if_neg h];simp only [List.cons_append,M.rd];rw [if_neg (by omega),ih K false (n / 128) t (by omega) (by omega) (λ_=>by omega) (by rw [zYW] at h3; omega) (by omega)];simp only [Kr,zQG,Option.some.injEq,Prod.mk.injEq,and_true];omega
theorem Ks{a n:Nat}(hn:n<=62)(h:a*2 ^ n < 9223372036854775808):jF .i64 (a:Int) (n:Int)=((a*2 ^ n:Nat):Int):=by
 unfold jF;rw [show min (sY (n:Int)) (IntKind.bits .i64)=n by simp [IntKind.bits]; omega];have e:(a:Int)*2 ^ n=((a*2 ^ n:Nat):Int):=by simp
 rw [e];exact gX (by omega) (by omega)
theorem Tr{v a n:Nat}(hv:v < 2 ^ n):v ||| a*2 ^ n=v+a*2 ^ n:=by
 have h:=Nat.shiftLeft_add_eq_or_of_lt hv a;rw [Nat.shiftLeft_eq] at h;rw [Nat.or_comm,<- h,Nat.add_comm]
theorem Ts{v i:Nat}{c:Int}(hi:i<=7)(hv:v < 2 ^ (7*i))(h1:0<=c)(h2:c<=255):xO .i64 (v:Int) (jF .i64 (fK .i64 (IntKind.wrap .i64 c) 127) (md .i64 7 (i:Int)))=((v+(c % 128).toNat*2 ^ (7*i):Nat):Int)/\v+(c % 128).toNat*2 ^ (7*i) < 2 ^ (7*(i+1)):=by
 have hp:(2:Nat) ^ (7*i)<=2 ^ 49:=zWz (by omega) (by omega);have hq:(2:Nat) ^ (7*(i+1))=128*2 ^ (7*i):=by rw [Nat.mul_add,Nat.pow_add,Nat.mul_comm]
 have hc:(c % 128).toNat < 128:=by omega
 have hm:(c % 128).toNat*2 ^ (7*i)<=127*2 ^ (7*i):=zWV _ (by omega);rw [gX (by omega) (by omega),M9,pg (by omega) (by omega),show (7:Int)*(i:Int)=((7*i:Nat):Int) by omega,show c % 128=(((c % 128).toNat:Nat):Int) by omega];rw [show (((c % 128).toNat:Nat):Int).toNat=(c % 128).toNat by omega];have hp2:(2:Nat) ^ 49=562949953421312:=by decide
 rw [Ks (by omega) (by omega),IX (by omega) (by omega),Tr hv];exact ⟨rfl,by omega⟩
def vF(o:Option (Int×Nat))(v i a:Nat)(r:Int×Int×Bool):Prop:=match o with
 | some (w,j)=>r=((v:Int)+w*2 ^ (7*i),((a+j:Nat):Int),true)
 | none=>r.2.2=false
theorem Qc{o:Option (Int×Nat)}{v i a x:Nat}{c:Int}{r:Int×Int×Bool}(hx:(x:Int)=c - 128)(h:vF o (v+x*2 ^ (7*i)) (i+1) (a+1) r):vF (Kr c o) v i a r:=by
 cases o with
 | none=>exact h
 | some q =>
  obtain ⟨w,j⟩:=q;unfold vF at h;unfold vF Kr;dsimp only at h ⊢;rw [h];refine Prod.ext ?_ (Prod.ext ?_ rfl)
  ·dsimp only;rw [show 7*(i+1)=7*i+7 by omega,Int.pow_add,<- hx];have:((v+x*2 ^ (7*i):Nat):Int)=(v:Int)+(x:Int)*2 ^ (7*i):=by simp
   rw [this];generalize (2:Int) ^ (7*i)=p;rw [show (2:Int) ^ 7=128 by rfl,zZx,Int.mul_assoc w 128 p,zVQ p 128];omega
  ·dsimp only; omega
theorem OU{α:Type}{b:List α}{a:Nat}(h:a < b.length):b.drop a=b[a] :: b.drop (a+1):=zXy h
def u5(n:Nat)(b:List Int)(a:Int):Option (Int×Int):=if 0<=a then match M.rd n true (b.drop a.toNat) with
  | some (v,j)=>some (v,a+j)
  | none=>none
 else none
def bN(b:List Int)(a:Int):Int×Int×Bool:=match u5 6 b a with
 | some (v,e)=>if v<=1000000000000 then (v,e,true) else (0,0,false)
 | none=>(0,0,false)
theorem Qd(u:Nat){b:List Int}(hb:aB b)(hl:b.length<=1048576)(a:Nat):∀ (m i k v:Nat),i+m=8->m < k->v < 2 ^ (7*i)->∃ r,fO u k b a v i=some r/\vF (M.rd m (i == 0) (b.drop (a+i))) v i (a+i) r:=by
 intro m
 induction m with
 | zero =>
  intro i k v h1 h2 h3;obtain ⟨k,rfl⟩:∃ j,k=j+1:=⟨k - 1,by omega⟩;have e:¬ ((i:Int) < 8):=by omega
  refine ⟨(0,0,false),?_,rfl⟩;unfold fO pE;simp only [e,decide_false,cond_false]
 | succ m ih =>
  intro i k v h1 h2 h3;obtain ⟨k,rfl⟩:∃ j,k=j+1:=⟨k - 1,by omega⟩;have e:(i:Int) < 8:=by omega
  unfold fO;simp only [e,decide_true,cond_true];rw [dD (a:=(b.length:Int)) (by omega) (by omega)]
  by_cases ha:a+i < b.length
  ·have e0:¬ ((a:Int)>=(b.length:Int) - (i:Int)):=by omega
   rw [OU ha,dy (a:=(a:Int)) (by omega) (by omega),show (a:Int)+(i:Int)=((a+i:Nat):Int) by omega,dc,sX ha];have hc:=hb b[a+i] (zXG ha);obtain ⟨e1,e2⟩:=Ts (i:=i) (by omega) h3 hc.1 hc.2;simp only [e0,decide_false,cond_false,wk];rw [e1,pg (by omega) (by omega),bD (by omega),gX (by omega) (by omega),dy (a:=((a+i:Nat):Int)) (by omega) (by omega),dB (by omega)];simp only [wk,M.rd]
   by_cases hc1:b[a+i] < 128
   ·simp only [hc1,decide_true,cond_true,if_true];have hv:((v+(b[a+i] % 128).toNat*2 ^ (7*i):Nat):Int)=(v:Int)+b[a+i]*2 ^ (7*i):=by
     have:((v+(b[a+i] % 128).toNat*2 ^ (7*i):Nat):Int)=(v:Int)+(((b[a+i] % 128).toNat:Nat):Int)*2 ^ (7*i):=by simp
     rw [this,show (((b[a+i] % 128).toNat:Nat):Int)=b[a+i] by omega]
    rw [hv]
    by_cases hc2:0 < b[a+i]
    ·have hc3:b[a+i] > 0:=hc2;simp only [hc2,hc3,decide_true,cond_true,Bool.or_true,if_true,vF];refine ⟨_,rfl,Prod.ext rfl (Prod.ext ?_ rfl)⟩;dsimp only; omega
    ·have hc3:¬ b[a+i] > 0:=hc2;simp only [hc2,hc3,decide_false,cond_false,Bool.or_false];refine ⟨_,rfl,?_⟩
     by_cases h0:i=0
     ·subst h0; simp [vF]
     ·have e4:(i == 0)=false:=by simpa using h0
      simp only [e4,zWW,if_false,vF];simp; omega
   ·simp only [hc1,decide_false,cond_false,if_false];obtain ⟨r,g1,g2⟩:=ih (i+1) k _ (by omega) (by omega) e2;refine ⟨r,g1,Qc (x:=(b[a+i] % 128).toNat) (by omega) ?_⟩;rw [show (i+1 == 0)=false by rfl] at g2;exact g2
  ·have e0:(a:Int)>=(b.length:Int) - (i:Int):=by omega
   simp only [e0,decide_true,cond_true];rw [zXv (by omega)];exact ⟨(0,0,false),rfl,rfl⟩
theorem Hh{u:Nat}(hu:1099511627776<=u){b:List Int}(hb:aB b)(hl:b.length<=1048576){a:Int}(ha:0<=a):∃ r,qm u b a=some r/\(match u5 8 b a with | some (v,e)=>r=(v,e,true) | none=>r.2.2=false):=by
 unfold qm u5;obtain ⟨a,rfl⟩:=zQJ ha;obtain ⟨r,g1,g2⟩:=Qd u hb hl a 8 0 u 0 (by omega) (by omega) (by simp);refine ⟨r,g1,?_⟩;rw [if_pos ha,rg];rw [zXg] at g2;unfold vF at g2
 cases hr:M.rd 8 true (b.drop a) with
 | none=>rw [show ((0 == 0:Bool))=true by rfl,hr] at g2; exact g2
 | some q=>obtain ⟨w,j⟩:=q; rw [show ((0 == 0:Bool))=true by rfl,hr] at g2; simpa using g2
def OV(o:Option (Int×Nat))(v i a:Nat):Int×Int×Bool:=match o with
 | some (w,j)=>if (v:Int)+w*2 ^ (7*i)<=1000000000000 then ((v:Int)+w*2 ^ (7*i),((a+j:Nat):Int),true) else (0,0,false)
 | none=>(0,0,false)
theorem Ut(o:Option (Int×Nat))(v i a x:Nat)(c:Int)(hx:(x:Int)=c - 128):OV (Kr c o) v i a=OV o (v+x*2 ^ (7*i)) (i+1) (a+1):=by
 cases o with
 | none=>rfl
 | some q =>
  obtain ⟨w,j⟩:=q;unfold OV Kr;dsimp only;have e:(v:Int)+(w*128+(c - 128))*2 ^ (7*i)=((v+x*2 ^ (7*i):Nat):Int)+w*2 ^ (7*(i+1)):=by
   rw [show 7*(i+1)=7*i+7 by omega,Int.pow_add,<- hx];have:((v+x*2 ^ (7*i):Nat):Int)=(v:Int)+(x:Int)*2 ^ (7*i):=by simp
   rw [this];generalize (2:Int) ^ (7*i)=p;rw [show (2:Int) ^ 7=128 by rfl,zZx,Int.mul_assoc w 128 p,zVQ p 128];omega
  rw [e,show a+(j+1)=a+1+j by omega]
theorem LD(u:Nat){b:List Int}(hb:aB b)(hl:b.length<=1048576)(a:Nat):∀ (m i k v:Nat),i+m=6->m < k->v < 2 ^ (7*i)->dQ u k b a v i=some (OV (M.rd m (i == 0) (b.drop (a+i))) v i (a+i)):=by
 intro m
 induction m with
 | zero =>
  intro i k v h1 h2 h3;obtain ⟨k,rfl⟩:∃ j,k=j+1:=⟨k - 1,by omega⟩;have e:¬ ((i:Int) < 6):=by omega
  unfold dQ sv;simp only [e,decide_false,cond_false]; rfl
 | succ m ih =>
  intro i k v h1 h2 h3;obtain ⟨k,rfl⟩:∃ j,k=j+1:=⟨k - 1,by omega⟩;have e:(i:Int) < 6:=by omega
  have en:¬ ((a:Int) < 0):=by omega
  unfold dQ k9;simp only [e,en,decide_true,decide_false,cond_true,cond_false];rw [dD (a:=(b.length:Int)) (by omega) (by omega)]
  by_cases ha:a+i < b.length
  ·have e0:¬ ((a:Int)>=(b.length:Int) - (i:Int)):=by omega
   rw [OU ha,dy (a:=(a:Int)) (by omega) (by omega),show (a:Int)+(i:Int)=((a+i:Nat):Int) by omega,dc,sX ha];have hc:=hb b[a+i] (zXG ha);obtain ⟨e1,e2⟩:=Ts (i:=i) (by omega) h3 hc.1 hc.2;simp only [e0,decide_false,cond_false,wk];unfold oP;rw [e1,pg (by omega) (by omega),bD (by omega),gX (by omega) (by omega),dy (a:=(a:Int)) (b:=(i:Int)) (by omega) (by omega),dy (a:=(a:Int)+(i:Int)) (by omega) (by omega),dB (by omega)];simp only [wk,M.rd]
   by_cases hc1:b[a+i] < 128
   ·simp only [hc1,decide_true,cond_true,if_true];have hv:((v+(b[a+i] % 128).toNat*2 ^ (7*i):Nat):Int)=(v:Int)+b[a+i]*2 ^ (7*i):=by
     have:((v+(b[a+i] % 128).toNat*2 ^ (7*i):Nat):Int)=(v:Int)+(((b[a+i] % 128).toNat:Nat):Int)*2 ^ (7*i):=by simp
     rw [this,show (((b[a+i] % 128).toNat:Nat):Int)=b[a+i] by omega]
    rw [hv];have hgt:∀ x:Int,decide (x > 1000000000000)=!decide (x<=1000000000000):=λx=>by rw [<- decide_not,decide_eq_decide]; omega
    have hs:((a:Int)+(i:Int)+1)=((a+i+1:Nat):Int):=by omega
    rw [hs]
    by_cases hc2:b[a+i]=0
    ·have e5:¬ (0 < b[a+i]):=by omega
     have e6:(b[a+i] == 0)=true:=by simpa using hc2
     by_cases h0:i=0
     ·subst h0;have hv0:v=0:=by simpa using h3
      subst hv0;simp only [e6,cond_true,hgt,OV];rw [hc2];rfl
     ·have e4:(i == 0)=false:=by simpa using h0
      have e7:(i:Int) > 0:=by omega
      simp only [e4,e5,e6,e7,decide_true,decide_false,cond_true,Bool.or_false,zWW,if_false,OV]
    ·have e5:0 < b[a+i]:=by omega
     have e6:(b[a+i] == 0)=false:=by simpa using hc2
     simp only [e5,e6,decide_true,cond_false,Bool.or_true,if_true,hgt,OV]
     by_cases hq:(v:Int)+b[a+i]*2 ^ (7*i)<=1000000000000
     ·simp [hq]
     ·simp [hq]
   ·simp only [hc1,decide_false,cond_false,if_false];rw [ih (i+1) k _ (by omega) (by omega) e2,show (i+1 == 0)=false by rfl,Ut _ v i (a+i) (b[a+i] % 128).toNat _ (by omega)];rfl
  ·have e0:(a:Int)>=(b.length:Int) - (i:Int):=by omega
   simp only [e0,decide_true,cond_true];rw [zXv (by omega)]; rfl
theorem jA{u:Nat}(hu:1099511627776<=u){b:List Int}(hb:aB b)(hl:b.length<=1048576)(a:Int):ga u b a=some (bN b a):=by
 unfold ga bN u5
 by_cases ha:0<=a
 ·obtain ⟨a,rfl⟩:=zQJ ha;have h:=LD u hb hl a 6 0 u 0 (by omega) (by omega) (by simp);rw [zXg] at h;rw [show dQ u u b (a:Int) 0 0=_ from h,if_pos ha,rg,show (0 == 0:Bool)=true by rfl];unfold OV
  cases M.rd 6 true (b.drop a) with
  | none=>rfl
  | some q=>obtain ⟨w,j⟩:=q; simp
 ·obtain ⟨u,rfl⟩:∃ j,u=j+1:=⟨u - 1,by omega⟩;rw [if_neg ha];unfold dQ k9;have e:a < 0:=by omega
  simp [e]
theorem Cl{α:Type}(b:List α)(a j:Nat):b.take (a+j)=b.take a++(b.drop a).take j:=List.take_add
theorem EK{n:Nat}{b:List Int}{a v e:Int}(hb:aB b)(h:u5 n b a=some (v,e))(hn:n<=10):0<=a/\a < e/\e<=b.length/\0<=v/\v < 128 ^ n/\b.take e.toNat=b.take a.toNat++cB 9 v:=by
 unfold u5 at h
 by_cases ha:0<=a
 ·rw [if_pos ha] at h
  cases hr:M.rd n true (b.drop a.toNat) with
  | none=>rw [hr] at h; cases h
  | some q =>
   obtain ⟨w,j⟩:=q;rw [hr] at h;simp only [Option.some.injEq,Prod.mk.injEq] at h;obtain ⟨rfl,rfl⟩:=h;obtain ⟨h1,h2,h3,h4,h5,h6⟩:=Vu n true _ w j (λx hx=>hb x (zWg hx)) hr;rw [zYV] at h3;refine ⟨ha,by omega,by omega,h1,h5,?_⟩;rw [show (a+(j:Int)).toNat=a.toNat+j by omega,Cl,h6 9 (by omega)]
 ·rw [if_neg ha] at h; cases h
theorem eH{b:List Int}{a v e:Int}(hb:aB b)(h:bN b a=(v,e,true)):0<=a/\a < e/\e<=b.length/\0<=v/\v<=1000000000000/\b.take e.toNat=b.take a.toNat++cB 9 v:=by
 unfold bN at h
 cases hr:u5 6 b a with
 | none=>rw [hr] at h; cases h
 | some q =>
  obtain ⟨w,e'⟩:=q;rw [hr] at h;dsimp only at h
  split at h
  ·simp only [Prod.mk.injEq,and_true] at h;obtain ⟨rfl,rfl⟩:=h;have:=EK hb hr (by omega);exact ⟨this.1,this.2.1,this.2.2.1,this.2.2.2.1,by assumption,this.2.2.2.2.2⟩
  ·cases h
theorem de(b:List Int)(a:Int):(∃ v e,bN b a=(v,e,true))\/bN b a=(0,0,false):=by
 unfold bN
 split
 ·split
  ·exact .inl ⟨_,_,rfl⟩
  ·exact .inr rfl
 ·exact .inr rfl
theorem Da{p:List Int}{n:Int}(t:List Int)(h0:0<=n)(h1:n<=1000000000000):bN (p++cB 9 n++t) p.length=(n,((p.length+(cB 9 n).length:Nat):Int),true):=by
 unfold bN u5;rw [if_pos (by omega),rg,zQZ,List.drop_left,Qb 6 9 true n t (by omega) h0 (λh=>by cases h) (by rw [show (128:Int) ^ 6=4398046511104 by decide]; omega) (by omega)];simp [h1]
def vU(m:al):Bool:=(m.aM == 0) && (m.aw == 0) && (m.aW == 0) && (m.aO.length == 0)
theorem Nh(m:al):vS m ⟨0,0,0,[]⟩=vU m:=by
 unfold vS vU M.same
 cases h:m.aO with
 | nil=>simp [zK]
 | cons s l=>simp
def gk(m:fc):Bool :=
 if m.br=1 then (m.aM == 0) && (m.ay.aM != 0) && dd m.ay && ((m.cn == 0) && (m.ci == 0) && (m.fI == 0) && (m.fB.length == 0))
 else if m.br=2 then au m.aM 0 1000000 && vU m.ay && cq m.cn && cq m.ci && (m.fI == 0) && (m.fB.length == 0)
 else if m.br=3 then au m.aM 1 1000000 && vU m.ay && (m.cn == 0) && (m.ci == 0) && au m.fI 0 39 && au m.fB.length 1 6
 else if m.br=4 then au m.aM 0 1000000 && vU m.ay && ((m.cn == 0) && (m.ci == 0) && (m.fI == 0) && (m.fB.length == 0))
 else false
theorem yb{u:Nat}(hu:1099511627776<=u){m:fc}(hs:m.ay.aO.length<=1048576):tz u m=some (gk m):=by
 unfold tz gk oc;simp only [Av hu hs,Nh,gF hu m.ay (show m.ay.aO.length<=1073741824 by omega),ie,bL,wk];rw [show ((m.fB.length:Int) == 0)=(m.fB.length == 0) from Nd _ 0];generalize dd m.ay=x1;generalize vU m.ay=x2;generalize cq m.cn=x3;generalize cq m.ci=x4;generalize au m.aM 0 1000000=x5;generalize au m.aM 1 1000000=x6;generalize au m.fI 0 39=x7;generalize au m.fB.length 1 6=x8;generalize (m.fB.length == 0)=x9;generalize (m.ay.aM != 0)=x10;generalize (m.aM == 0)=x11;generalize (m.cn == 0)=x12;generalize (m.ci == 0)=x13;generalize (m.fI == 0)=x14
 by_cases h1:m.br=1
 ·simp only [h1,beq_self_eq_true,cond_true,if_true]
  cases x1 <;> cases x10 <;> cases x11 <;> cases x12 <;> cases x13 <;> cases x14 <;> cases x9 <;> rfl
 ·have e1:(m.br == 1)=false:=by simpa using h1
  by_cases h2:m.br=2
  ·simp only [h2,e1,beq_self_eq_true,cond_true,if_true]
   cases x5 <;> cases x2 <;> cases x3 <;> cases x4 <;> cases x14 <;> cases x9 <;> cases x12 <;> cases x13 <;> rfl
  ·have e2:(m.br == 2)=false:=by simpa using h2
   by_cases h3:m.br=3
   ·simp only [h3,beq_self_eq_true,cond_true,if_true]
    cases x6 <;> cases x2 <;> cases x12 <;> cases x13 <;> cases x7 <;> cases x8 <;> cases x14 <;> cases x9 <;> rfl
   ·have e3:(m.br == 3)=false:=by simpa using h3
    by_cases h4:m.br=4
    ·simp only [h4,beq_self_eq_true,cond_true,if_true]
     cases x5 <;> cases x2 <;> cases x12 <;> cases x13 <;> cases x14 <;> cases x9 <;> rfl
    ·have e4:(m.br == 4)=false:=by simpa using h4
     simp only [e1,e2,e3,e4,h1,h2,h3,h4,cond_false,if_false]
     cases x12 <;> cases x13 <;> cases x14 <;> rfl
def uh:al×Int×Bool:=(⟨0,0,0,[]⟩,0,false)
def oz:Nat->List Int->Int->List cS->Option (List cS×Int)
 | 0,_,a,acc=>some (acc,a)
 | n+1,b,a,acc=>match u5 8 b a with
  | some (v,e)=>if (ce v).2 then oz n b e (acc++[dX (ce v).1]) else none
  | none=>none
def te(g s l:Int):Option (List cS×Int)->al×Int×Bool
 | some (ss,e)=>if dd ⟨g,s,l,ss⟩ then (⟨g,s,l,ss⟩,e,true) else uh
 | none=>uh
theorem Qe(size len:Int):∀ (l:List cS) (i:Nat),iW size len l i=true->∀ s∈l,(ce s.fS).2=true:=by
 intro l
 induction l with
 | nil=>intro i _ s hs; simp at hs
 | cons x l ih =>
  intro i h s hs;simp only [iW,po,sk] at h;rcases List.mem_cons.1 hs with rfl | hs
  ·exact h.1.1.1
  ·exact ih (i+1) h.2 s hs
theorem Ms{g s l:Int}{ss:List cS}(h:∃ x∈ss,(ce x.fS).2=false):dd ⟨g,s,l,ss⟩=false:=by
 obtain ⟨x,hx,hb⟩:=h
 cases hm:dd ⟨g,s,l,ss⟩ with
 | false=>rfl
 | true =>
  unfold dd at hm;dsimp only at hm
  split at hm
  ·simp only [sk,beq_iff_eq,List.length_eq_zero_iff] at hm;rw [hm.2] at hx; simp at hx
  ·simp only [sk] at hm;have:=Qe _ _ _ _ hm.2 x hx;rw [this] at hb; cases hb
theorem Im{u:Nat}(hu:1099511627776<=u){b:List Int}(hb:aB b)(hl:b.length<=1048576)(r1 r2 r3:Int×Int×Bool):∀ (m i k:Nat) (a:Int) (acc:List cS),i+m=(bJ r2.1 r3.1).toNat\/(m=0/\(bJ r2.1 r3.1).toNat<=i)->m < k->acc.length+m<=1000->0<=a->(∃ x∈acc,(ce x.fS).2=false)->c8 u k b r1 r2 r3 a i acc=some uh:=by
 have hk:=dA r2.1 r3.1;intro m
 induction m with
 | zero =>
  intro i k a acc h1 h2 h3 h4 h5;obtain ⟨k,rfl⟩:∃ j,k=j+1:=⟨k - 1,by omega⟩;have e:¬ ((i:Int) < bJ r2.1 r3.1):=by omega
  unfold c8 ik lc;simp only [gE,wk,e,decide_false,cond_false];rw [gF hu _ (show acc.length<=1073741824 by omega),Ms h5]; rfl
 | succ m ih =>
  intro i k a acc h1 h2 h3 h4 h5;obtain ⟨k,rfl⟩:∃ j,k=j+1:=⟨k - 1,by omega⟩;have e:(i:Int) < bJ r2.1 r3.1:=by omega
  obtain ⟨r,g1,g2⟩:=Hh hu hb hl h4;unfold c8 ik lc;simp only [gE,wk,e,decide_true,cond_true,g1,u3 hu]
  by_cases hg:r1.1 > 0
  ·simp only [hg,decide_true,cond_true]
   cases hr:u5 8 b a with
   | none=>rw [hr] at g2; rw [g2]; rfl
   | some q =>
    obtain ⟨v,e'⟩:=q;rw [hr] at g2;rw [g2];have hv:=xS v;have hp:=EK hb hr (by omega);dsimp only;simp only [zQK,cond_false];rw [mv hu hv.1 (by omega)];simp only [wk];rw [bD (by simp; omega),dB (by omega)];obtain ⟨x,hx,hbx⟩:=h5;exact ih (i+1) k e' _ (by omega) (by omega) (by simp; omega) (by omega) ⟨x,by simp [hx],hbx⟩
  ·simp only [hg,decide_false,cond_false];rw [gF hu _ (show acc.length<=1073741824 by omega),Ms h5]; rfl
theorem LE{u:Nat}(hu:1099511627776<=u){b:List Int}(hb:aB b)(hl:b.length<=1048576){r1 r2 r3:Int×Int×Bool}(hg:0 < r1.1):∀ (m i k:Nat) (a:Int) (acc:List cS),i+m=(bJ r2.1 r3.1).toNat->m < k->acc.length+m<=1000->0<=a->c8 u k b r1 r2 r3 a i acc=some (te r1.1 r2.1 r3.1 (oz m b a acc)):=by
 have hk:=dA r2.1 r3.1;intro m
 induction m with
 | zero =>
  intro i k a acc h1 h2 h3 h4;obtain ⟨k,rfl⟩:∃ j,k=j+1:=⟨k - 1,by omega⟩;have e:¬ ((i:Int) < bJ r2.1 r3.1):=by omega
  unfold c8 ik lc;simp only [gE,wk,e,decide_false,cond_false];rw [gF hu _ (show acc.length<=1073741824 by omega)];simp only [wk,oz,te,uh]
  cases dd ⟨r1.1,r2.1,r3.1,acc⟩ <;> rfl
 | succ m ih =>
  intro i k a acc h1 h2 h3 h4;obtain ⟨k,rfl⟩:∃ j,k=j+1:=⟨k - 1,by omega⟩;have e:(i:Int) < bJ r2.1 r3.1:=by omega
  have hg':r1.1 > 0:=hg;obtain ⟨r,g1,g2⟩:=Hh hu hb hl h4;unfold c8 ik;simp only [gE,wk,e,hg',decide_true,cond_true,g1,u3 hu,oz]
  cases hr:u5 8 b a with
  | none=>rw [hr] at g2; rw [g2]; rfl
  | some q =>
   obtain ⟨v,e'⟩:=q;rw [hr] at g2;rw [g2];have hv:=xS v;have hp:=EK hb hr (by omega);dsimp only;simp only [zQK,cond_false];rw [mv hu hv.1 (by omega)];simp only [wk];rw [bD (by simp; omega),dB (by omega)];simp only [wk]
   cases h:(ce v).2 with
   | false =>
    simp only [zWW,if_false];exact Im hu hb hl r1 r2 r3 m (i+1) k e' _ (by omega) (by omega) (by simp; omega) (by omega) ⟨_,List.mem_append_right _ (List.mem_singleton.2 rfl),h⟩
   | true =>
    simp only [if_true];have hs:dX (ce v).1=⟨(dX (ce v).1).fW,v⟩:=by
     have:=xT (s:=v) (b:=(ce v).1) (by rw [<- h]);rw [this]
    rw [<- hs];exact ih (i+1) k e' _ (by omega) (by omega) (by simp; omega) (by omega)
theorem GD{u:Nat}(hu:1099511627776<=u)(b:List Int){r1 r2 r3:Int×Int×Bool}(hg:r1.1=0)(k:Nat)(a:Int):c8 u (k+1) b r1 r2 r3 a 0 []=some (te r1.1 r2.1 r3.1 (some ([],a))):=by
 have hg':¬ r1.1 > 0:=by omega
 unfold c8 ik lc;simp only [gE,wk,hg',decide_false];have:∀ c:Bool,(bif c then (ii u ⟨r1.1,r2.1,r3.1,[]⟩).bind λr22=>bif !r22 then some ((⟨0,0,0,[]⟩,0,false):al×Int×Bool) else some (⟨r1.1,r2.1,r3.1,[]⟩,a,true) else (ii u ⟨r1.1,r2.1,r3.1,[]⟩).bind λr22=>bif !r22 then some ((⟨0,0,0,[]⟩,0,false):al×Int×Bool) else some (⟨r1.1,r2.1,r3.1,[]⟩,a,true))=some (te r1.1 r2.1 r3.1 (some ([],a))):=by
  intro c;rw [gF hu _ (show ([]:List cS).length<=1073741824 by simp)];simp only [wk,te,uh]
  cases c <;> cases dd ⟨r1.1,r2.1,r3.1,[]⟩ <;> rfl
 exact this _
def n5(b:List Int)(a:Int):al×Int×Bool :=
 let g1:=bN b a
 let g2:=bN b g1.2.1
 let g3:=bN b g2.2.1
 if g1.2.2 && g2.2.2 && g3.2.2 then te g1.1 g2.1 g3.1 (oz (bJ g2.1 g3.1).toNat b g3.2.1 []) else uh
theorem Hi{s l:Int}{ss:List cS}{e:Int}(h:bJ s l≠0):te 0 s l (some (ss,e))=uh:=by
 unfold te dd;dsimp only;have hz:¬ (s=0):=by
  intro h0; subst h0
  apply h
  unfold bJ dn au;simp
 simp [hz]
theorem Kt{u:Nat}(hu:1099511627776<=u){b:List Int}(hb:aB b)(hl:b.length<=1048576)(a:Int):oQ u b a=some (n5 b a):=by
 unfold oQ n5 mH;simp only [jA hu hb hl,wk];rcases de b a with ⟨v1,e1,h1⟩ | h1
 ·rw [h1];rcases de b e1 with ⟨v2,e2,h2⟩ | h2
  ·dsimp only;rw [h2];rcases de b e2 with ⟨v3,e3,h3⟩ | h3
   ·dsimp only;rw [h3];have p1:=eH hb h1;have p3:=eH hb h3;have hk:=dA v2 v3;simp only [zQK,cond_false,zXV,if_true]
    by_cases hg:0 < v1
    ·exact LE hu hb hl (r1:=(v1,e1,true)) (r2:=(v2,e2,true)) (r3:=(v3,e3,true)) hg (bJ v2 v3).toNat 0 u e3 [] (by simp) (by omega) (by simp; omega) (by omega)
    ·have h0:v1=0:=by omega
     subst h0;obtain ⟨u',rfl⟩:∃ j,u=j+1:=⟨u - 1,by omega⟩;rw [GD (r1:=(0,e1,true)) (r2:=(v2,e2,true)) (r3:=(v3,e3,true)) hu b rfl u' e3];dsimp only
     by_cases hn:bJ v2 v3=0
     ·rw [hn]; rfl
     ·rw [Hi hn]
      cases hs:oz (bJ v2 v3).toNat b e3 [] with
      | none=>rfl
      | some q=>obtain ⟨ss,e⟩:=q; rw [Hi hn]
   ·dsimp only;rw [h3]; rfl
  ·dsimp only;rw [h2]; simp;rfl
 ·rw [h1]; simp;rfl
theorem Ku(xs:List Int):(strOfNums xs).toList=xs.map λn=>UInt8.ofNat n.toNat:=by
 rw [ByteArray.toList_eq,strOfNums_data]
theorem Vv{a b:Int}(h1:0<=a)(h2:a<=255)(h3:0<=b)(h4:b<=255)(h:UInt8.ofNat a.toNat=UInt8.ofNat b.toNat):a=b:=by
 have:=congrArg UInt8.toNat h;simp only [UInt8.toNat_ofNat'] at this;omega
theorem Ni{a b:List Int}(ha:aB a)(hb:aB b):mj a b=decide (a=b):=by
 unfold mj;rw [zYk,beq_iff_eq,decide_eq_true_eq,Ku,Ku];constructor
 ·intro h
  revert b
  induction a with
  | nil=>intro b _ h; cases b with
   | nil=>rfl
   | cons y b=>simp at h
  | cons x a ih =>
   intro b hb h
   cases b with
   | nil=>simp at h
   | cons y b =>
    simp only [zWh,List.cons.injEq] at h;have hx:=ha x (by simp);have hy:=hb y (by simp);rw [Vv hx.1 hx.2 hy.1 hy.2 h.1,ih (λz hz=>ha z (by simp [hz])) (λz hz=>hb z (by simp [hz])) h.2]
 ·intro h; rw [h]
def tW(b:List Int)(a:Int):List Int×Int×Bool :=
 let g:=bN b a
 if g.2.2 && decide (g.1<=6) && decide (g.1<=b.length - g.2.1) then (M.win b g.2.1.toNat g.1.toNat,g.2.1+g.1,true) else ([],0,false)
theorem Io{u:Nat}(hu:1099511627776<=u){b:List Int}(hb:aB b)(hl:b.length<=1048576)(a:Int):nr u b a 6=some (tW b a):=by
 unfold nr tW lI;simp only [jA hu hb hl,wk];rcases de b a with ⟨v,e,h⟩ | h
 ·rw [h];have p:=eH hb h;dsimp only
  by_cases h6:v<=6
  ·have h7:¬ v > 6:=by omega
   simp only [h6,h7,decide_true,decide_false,zQK,cond_false,zWk];obtain ⟨v,rfl⟩:=zQJ p.2.2.2.1;obtain ⟨e,rfl⟩:=zQJ (show 0<=e by omega);rw [dD (by omega) (by omega)]
   by_cases hv:(v:Int)<=(b.length:Int) - (e:Int)
   ·have hv':¬ ((v:Int) > (b.length:Int) - (e:Int)):=by omega
    simp only [hv,hv',decide_true,decide_false,cond_false,if_true];rw [td (by omega),gY (by omega) (by omega),bD (by simp; omega)];simp only [wk,rg,zQy];rw [show ((e+v:Nat):Int)=(e:Int)+(v:Int) by omega]; rfl
   ·have hv':(v:Int) > (b.length:Int) - (e:Int):=by omega
    simp [hv,hv']
  ·have h7:v > 6:=by omega
   simp [h6,h7]
 ·rw [h]; simp
theorem OW{b p:List Int}{a e:Int}(hb:aB b)(h:tW b a=(p,e,true)):0<=a/\a < e/\e<=b.length/\aB p/\p.length<=6/\b.take e.toNat=(b.take a.toNat++cB 9 p.length)++p:=by
 unfold tW at h;rcases de b a with ⟨v,e',g⟩ | g
 ·rw [g] at h;have q:=eH hb g;dsimp only at h
  split at h
  ·rename_i hc;simp only [zWk,sk,decide_eq_true_eq] at hc;simp only [Prod.mk.injEq,and_true] at h;obtain ⟨rfl,rfl⟩:=h;obtain ⟨v,rfl⟩:=zQJ q.2.2.2.1;obtain ⟨e',rfl⟩:=zQJ (show 0<=e' by omega);simp only [rg] at q ⊢;have hw:(M.win b e' v).length=v:=by unfold M.win; rw [zYV,zQz]; omega
   refine ⟨q.1,by omega,by omega,mi hb _ _,by omega,?_⟩;rw [show ((e':Int)+(v:Int)).toNat=e'+v by omega,Cl,q.2.2.2.2.2,hw,Ke]
  ·cases h
 ·rw [g] at h; cases h
def qJ(c:List Int)(s:Int):List Int:=aZ (aZ c (fK .i64 s 1048575)) (nD .i64 s 20)
def c7(m:fc):List Int :=
 if m.br=1 then pp (aZ [] m.br) m.ay
 else if m.br=2 then qJ (qJ (aZ (aZ [] m.br) m.aM) m.cn) m.ci
 else if m.br=3 then aZ (aZ (aZ (aZ [] m.br) m.aM) m.fI) m.fB.length++m.fB
 else if m.br=4 then aZ (aZ [] m.br) m.aM
 else aZ [] m.br
def cL(m:fc):List Int:=if gk m then aZ (c7 m) (cF (c7 m)) else []
structure M.MsgWf (m:fc):Prop where
 sums:m.ay.aO.length<=1048576
 wf:pW m.ay
 b:aB m.fB
 len:m.fB.length<=1048576
theorem gO{b:List Int}(h:aB b)(n:Int):aB (aZ b n):=by
 unfold aZ
 split
 ·exact xy h (Mp 9 n)
 ·exact h
theorem LF:∀ (l:List cS) (b:List Int),aB b->aB (jI b l):=by
 intro l
 induction l with
 | nil=>intro b h; exact h
 | cons s l ih=>intro b h; exact ih _ (xy h (Mp 9 s.fS))
theorem Nj{b:List Int}(h:aB b)(m:al):aB (pp b m):=by
 unfold pp
 split
 ·exact LF _ _ (gO (gO (gO h _) _) _)
 ·exact h
theorem Cm(b:List Int)(m:al):(pp b m).length<=b.length+430:=by
 unfold pp
 split
 ·rename_i h;have h0:=vP h;have h1:=bT b m.aM;have h2:=bT (aZ b m.aM) m.aw;have h3:=bT (aZ (aZ b m.aM) m.aw) m.aW;have h4:=Ki m.aO (aZ (aZ (aZ b m.aM) m.aw) m.aW);omega
 ·omega
theorem jJ:aB []:=λx hx=>by simp at hx
theorem Kv{m:fc}(hm:M.MsgWf m):aB (c7 m)/\(c7 m).length<=1049600:=by
 have k:=bT [] m.br;have kb:=gO jJ m.br;have g:=bT (aZ [] m.br) m.aM;have gb:=gO kb m.aM;simp only [zXZ] at k;unfold c7 qJ
 split
 ·exact ⟨Nj kb _,by have:=Cm (aZ [] m.br) m.ay; omega⟩
 ·split
  ·refine ⟨gO (gO (gO (gO gb _) _) _) _,?_⟩;have h1:=bT (aZ (aZ [] m.br) m.aM) (fK .i64 m.cn 1048575);have h2:=bT (aZ (aZ (aZ [] m.br) m.aM) (fK .i64 m.cn 1048575)) (nD .i64 m.cn 20);have h3:=bT (aZ (aZ (aZ (aZ [] m.br) m.aM) (fK .i64 m.cn 1048575)) (nD .i64 m.cn 20)) (fK .i64 m.ci 1048575);have h4:=bT (aZ (aZ (aZ (aZ (aZ [] m.br) m.aM) (fK .i64 m.cn 1048575)) (nD .i64 m.cn 20)) (fK .i64 m.ci 1048575)) (nD .i64 m.ci 20);omega
  ·split
   ·refine ⟨xy (gO (gO gb _) _) hm.b,?_⟩;have h1:=bT (aZ (aZ [] m.br) m.aM) m.fI;have h2:=bT (aZ (aZ (aZ [] m.br) m.aM) m.fI) m.fB.length;have h3:=hm.len;rw [zQV]; omega
   ·split
    ·exact ⟨gb,by omega⟩
    ·exact ⟨kb,by omega⟩
theorem eB{c:List Int}{n:Int}(h0:0<=n)(h1:n<=1000000000000):aZ c n=c++cB 9 n:=by
 unfold aZ;rw [if_pos (by simp [au]; omega)]
theorem OX{b:List Int}(hb:aB b):∀ (n:Nat) (a:Int) (acc l:List cS) (e:Int),oz n b a acc=some (l,e)->0<=a->a<=b.length->∃ l',l=acc++l'/\a<=e/\e<=b.length/\b.take e.toNat=jI (b.take a.toNat) l'/\∀ s∈l',s.fS<=9223372036854775807:=by
 intro n
 induction n with
 | zero =>
  intro a acc l e h h0 h1;simp only [oz,Option.some.injEq,Prod.mk.injEq] at h;obtain ⟨rfl,rfl⟩:=h;exact ⟨[],by simp,by omega,h1,rfl,by simp⟩
 | succ n ih =>
  intro a acc l e h h0 h1;unfold oz at h
  cases hr:u5 8 b a with
  | none=>rw [hr] at h; cases h
  | some q =>
   obtain ⟨v,e1⟩:=q;rw [hr] at h;dsimp only at h;have p:=EK hb hr (by omega)
   split at h
   ·rename_i hv;obtain ⟨l',g1,g2,g3,g4,g5⟩:=ih e1 _ l e h (by omega) p.2.2.1;have hs:(dX (ce v).1).fS=v:=by
     have:=xT (s:=v) (b:=(ce v).1) (by rw [<- hv]);rw [this]
    have hp:(128:Int) ^ 8=72057594037927936:=by decide
    refine ⟨dX (ce v).1 :: l',by rw [g1]; simp,by omega,g3,?_,?_⟩
    ·rw [g4,p.2.2.2.2.2,jI,hs]
    ·intro s hs';rcases List.mem_cons.1 hs' with rfl | hs'
     ·rw [hs]; omega
     ·exact g5 s hs'
   ·cases h
theorem Qf{b:List Int}(hb:aB b){a e:Int}{m:al}(h:n5 b a=(m,e,true)):0<=a/\a<=e/\e<=b.length/\dd m=true/\pW m/\b.take e.toNat=pp (b.take a.toNat) m:=by
 unfold n5 at h;rcases de b a with ⟨v1,e1,h1⟩ | h1
 ·rw [h1] at h;dsimp only at h;rcases de b e1 with ⟨v2,e2,h2⟩ | h2
  ·rw [h2] at h;dsimp only at h;rcases de b e2 with ⟨v3,e3,h3⟩ | h3
   ·rw [h3] at h;simp only [zXV,if_true] at h;have p1:=eH hb h1;have p2:=eH hb h2;have p3:=eH hb h3
    cases hs:oz (bJ v2 v3).toNat b e3 [] with
    | none=>rw [hs] at h; cases h
    | some q =>
     obtain ⟨ss,e'⟩:=q;rw [hs] at h;unfold te at h;dsimp only at h
     split at h
     ·rename_i hm;simp only [Prod.mk.injEq,and_true] at h;obtain ⟨rfl,rfl⟩:=h;obtain ⟨l',g1,g2,g3,g4,g5⟩:=OX hb _ e3 [] ss e' hs (by omega) p3.2.2.1;rw [zQy] at g1;subst g1;refine ⟨p1.1,by omega,g3,hm,g5,?_⟩;unfold pp;rw [if_pos hm,eB p1.2.2.2.1 p1.2.2.2.2.1,eB p2.2.2.2.1 p2.2.2.2.2.1,eB p3.2.2.2.1 p3.2.2.2.2.1,g4,p3.2.2.2.2.2,p2.2.2.2.2.2,p1.2.2.2.2.2]
     ·cases h
   ·rw [h3] at h; simp [uh] at h
  ·rw [h2] at h; simp [uh] at h
 ·rw [h1] at h; simp [uh] at h
def vp(n:Int):Bool:=decide (n < 1048576)
def Ip:al:=⟨0,0,0,[]⟩
def zb(b:List Int)(a:Int):Option (fc×Int) :=
 let g0:=bN b a
 let g1:=bN b g0.2.1
 let g2:=bN b g1.2.1
 let g3:=bN b g2.2.1
 let g4:=bN b g3.2.1
 if g0.2.2 && ((g1.2.2 && vp g1.1) && ((g2.2.2 && vp g2.1) && ((g3.2.2 && vp g3.1) && (g4.2.2 && vp g4.1)))) then some (⟨2,g0.1,Ip,g1.1+g2.1*1048576,g3.1+g4.1*1048576,0,[]⟩,g4.2.1) else none
def Bo(b:List Int)(a:Int):Option (fc×Int) :=
 let g0:=bN b a
 let g1:=bN b g0.2.1
 let g2:=tW b g1.2.1
 if g0.2.2 && g1.2.2 && g2.2.2 then some (⟨3,g0.1,Ip,0,0,g1.1,g2.1⟩,g2.2.1) else none
theorem ui{b:List Int}(hb:aB b)(a:Int):0<=(bN b a).1:=by
 rcases de b a with ⟨v,e,h⟩ | h
 ·rw [h]; exact (eH hb h).2.2.2.1
 ·rw [h]; exact zVV 0
theorem Tt{u:Nat}(hu:1099511627776<=u){b:List Int}(hb:aB b)(hl:b.length<=1048576)(k:Nat)(a:Int)(acc:List Int)(i:Nat)(hi:i < 4)(hacc:acc.length<=4)(p2:Int)(r2:Int×Int×Bool) :
  cC u (k+1) b a acc i p2 r2=if (bN b a).2.2 && vp (bN b a).1 then cC u k b (bN b a).2.1 (acc++[(bN b a).1]) ((i+1:Nat):Int) p2 r2 else some (⟨p2,r2.1,Ip,0,0,0,[]⟩,0,false):=by
 have e:(i:Int) < 4:=by omega
 rw [cC];simp only [e,decide_true,cond_true,jA hu hb hl,wk];unfold jQ vp;rw [bD (by simp; omega),dB (by omega)]
 cases h:(bN b a).2.2 with
 | false=>rfl
 | true =>
  by_cases hq:(bN b a).1 < 1048576
  ·have hq':¬ (bN b a).1>=1048576:=by omega
   simp [hq,hq']
  ·have hq':(bN b a).1>=1048576:=by omega
   simp [hq,hq',Ip]
theorem EM{x y:Int}(h1:0<=x)(h2:x < 1048576)(h3:0<=y)(h4:y < 1048576):bd .i64 x (jF .i64 y 20)=x+y*1048576/\xO .i64 x (jF .i64 y 20)=x+y*1048576/\fK .i64 (x+y*1048576) 1048575=x/\nD .i64 (x+y*1048576) 20=y:=by
 obtain ⟨a,rfl⟩:=zQJ h1;obtain ⟨c,rfl⟩:=zQJ h3;have hp:(2:Nat) ^ 20=1048576:=by decide
 have e:=Ks (a:=c) (n:=20) (by omega) (by rw [hp]; omega);rw [hp] at e;rw [show ((20:Nat):Int)=20 by rfl] at e;rw [e];refine ⟨by rw [dy (by omega) (by omega)]; omega,?_,?_,?_⟩
 ·have h:=Tr (v:=a) (a:=c) (n:=20) (by rw [hp]; omega);rw [hp] at h;rw [IX (by omega) (by omega),h]; omega
 ·rw [show (a:Int)+(c:Int)*1048576=((a+c*1048576:Nat):Int) by omega,show (1048575:Int)=((1048575:Nat):Int) by rfl,OK (by omega) (by omega),show (1048575:Nat)=2 ^ 20 - 1 by decide,zZJ,hp]; omega
 ·rw [show (a:Int)+(c:Int)*1048576=((a+c*1048576:Nat):Int) by omega,show (20:Int)=((20:Nat):Int) by rfl,OL (by omega),hp]; omega
theorem Qg{u:Nat}(hu:1099511627776<=u){b:List Int}(hb:aB b)(hl:b.length<=1048576)(a:Int):∃ r,eE u b a 2=some r/\(match zb b a with | some (m,e)=>r=(m,e,true) | none=>r.2.2=false):=by
 obtain ⟨u',hu'⟩:∃ j,u=j+5:=⟨u - 5,by omega⟩;unfold eE zb;rw [show ((2:Int) == 1)=false by rfl,show ((2:Int) == 2)=true by rfl];simp only [cond_false,cond_true,jA hu hb hl,wk]
 cases h0:(bN b a).2.2 with
 | false=>exact ⟨_,rfl,rfl⟩
 | true =>
  simp only [zQK,cond_false,zWk];have st:∀ (k:Nat) (a:Int) (acc:List Int) (i:Nat),i < 4->acc.length<=4->∀ r2:Int×Int×Bool,cC u (k+1) b a acc i 2 r2=if (bN b a).2.2 && vp (bN b a).1 then cC u k b (bN b a).2.1 (acc++[(bN b a).1]) ((i+1:Nat):Int) 2 r2 else some (⟨2,r2.1,Ip,0,0,0,[]⟩,0,false):=λk a acc i h1 h2 r2=>Tt hu hb hl k a acc i h1 h2 2 r2
  generalize hv:bN b a=g0;rw [show cC u u b g0.2.1 [] 0 2 g0=cC u (u'+4+1) b g0.2.1 [] ((0:Nat):Int) 2 g0 by rw [<- hu']; rfl,st _ _ _ 0 (by omega) (by simp)]
  cases h1:((bN b g0.2.1).2.2 && vp (bN b g0.2.1).1) with
  | false=>exact ⟨_,rfl,rfl⟩
  | true =>
   simp only [if_true,zWk,zQy];rw [show u'+4=u'+3+1 by omega,st _ _ _ 1 (by omega) (by simp)];generalize hv1:bN b g0.2.1=g1
   cases h2:((bN b g1.2.1).2.2 && vp (bN b g1.2.1).1) with
   | false=>exact ⟨_,rfl,rfl⟩
   | true =>
    simp only [if_true,zWk];rw [show u'+3=u'+2+1 by omega,st _ _ _ 2 (by omega) (by simp)];generalize hv2:bN b g1.2.1=g2
    cases h3:((bN b g2.2.1).2.2 && vp (bN b g2.2.1).1) with
    | false=>exact ⟨_,rfl,rfl⟩
    | true =>
     simp only [if_true,zWk];rw [show u'+2=u'+1+1 by omega,st _ _ _ 3 (by omega) (by simp)];generalize hv3:bN b g2.2.1=g3
     cases h4:((bN b g3.2.1).2.2 && vp (bN b g3.2.1).1) with
     | false=>exact ⟨_,rfl,rfl⟩
     | true =>
      simp only [if_true];rw [cC];have e:¬ (((3+1:Nat):Int) < 4):=by omega
      simp only [e,decide_false,cond_false];unfold nO nN;rw [show (0:Int)=((0:Nat):Int) by rfl,show (1:Int)=((1:Nat):Int) by rfl,show (2:Int)=((2:Nat):Int) by rfl,show (3:Int)=((3:Nat):Int) by rfl];simp only [dc,zQy,List.cons_append,zQZ,zWJ,List.getElem?_cons_succ,wk];refine ⟨_,rfl,?_⟩;have r1:0<=g1.1/\g1.1 < 1048576:=by
       rw [<- hv1]; refine ⟨ui hb _,?_⟩;simp only [sk,vp,decide_eq_true_eq] at h1; exact h1.2
      have r2:0<=g2.1/\g2.1 < 1048576:=by
       rw [<- hv2]; refine ⟨ui hb _,?_⟩;simp only [sk,vp,decide_eq_true_eq] at h2; exact h2.2
      have r3:0<=g3.1/\g3.1 < 1048576:=by
       rw [<- hv3]; refine ⟨ui hb _,?_⟩;simp only [sk,vp,decide_eq_true_eq] at h3; exact h3.2
      have r4:0<=(bN b g3.2.1).1/\(bN b g3.2.1).1 < 1048576:=by
       refine ⟨ui hb _,?_⟩;simp only [sk,vp,decide_eq_true_eq] at h4; exact h4.2
      rw [(EM r1.1 r1.2 r2.1 r2.2).1,(EM r3.1 r3.2 r4.1 r4.2).1];rfl
theorem zO{k:Int}(h0:0<=k)(h1:k<=1000000000000):aZ [] k=cB 9 k:=by rw [eB h0 h1]; rfl
theorem EN(k g w d i:Int){p:List Int}(hp:aB p)(hl:p.length<=1048576):M.MsgWf ⟨k,g,Ip,w,d,i,p⟩:=⟨by simp [Ip],by intro s hs; simp [Ip] at hs,hp,hl⟩
theorem Wc{b:List Int}(hb:aB b){a e:Int}{m:fc}(ha:b.take a.toNat=cB 9 2)(h:zb b a=some (m,e)):M.MsgWf m/\0<=e/\e<=b.length/\c7 m=b.take e.toNat:=by
 unfold zb at h;dsimp only at h
 split at h
 ·rename_i hc;simp only [sk,vp,decide_eq_true_eq] at hc;obtain ⟨k0,⟨k1,l1⟩,⟨k2,l2⟩,⟨k3,l3⟩,k4,l4⟩:=hc;simp only [Option.some.injEq,Prod.mk.injEq] at h;obtain ⟨rfl,rfl⟩:=h;rcases (de b a).symm with h0 | ⟨v0,e0,h0⟩
  ·simp [h0] at k0
  simp only [h0] at k0 k1 l1 k2 l2 k3 l3 k4 l4 ⊢;rcases (de b e0).symm with h1 | ⟨v1,e1,h1⟩
  ·simp [h1] at k1
  simp only [h1] at k0 k1 l1 k2 l2 k3 l3 k4 l4 ⊢;rcases (de b e1).symm with h2 | ⟨v2,e2,h2⟩
  ·simp [h2] at k2
  simp only [h2] at k0 k1 l1 k2 l2 k3 l3 k4 l4 ⊢;rcases (de b e2).symm with h3 | ⟨v3,e3,h3⟩
  ·simp [h3] at k3
  simp only [h3] at k0 k1 l1 k2 l2 k3 l3 k4 l4 ⊢;rcases (de b e3).symm with h4 | ⟨v4,e4,h4⟩
  ·simp [h4] at k4
  simp only [h4] at k0 k1 l1 k2 l2 k3 l3 k4 l4 ⊢;have p0:=eH hb h0;have p1:=eH hb h1;have p2:=eH hb h2;have p3:=eH hb h3;have p4:=eH hb h4;have s1:=EM p1.2.2.2.1 l1 p2.2.2.2.1 l2;have s2:=EM p3.2.2.2.1 l3 p4.2.2.2.1 l4;refine ⟨EN _ _ _ _ _ jJ (by simp),by omega,p4.2.2.1,?_⟩;show qJ (qJ (aZ (aZ [] 2) v0) (v1+v2*1048576)) (v3+v4*1048576)=b.take e4.toNat;unfold qJ;rw [s1.2.2.1,s1.2.2.2,s2.2.2.1,s2.2.2.2,zO (by omega) (by omega),eB p0.2.2.2.1 p0.2.2.2.2.1,eB p1.2.2.2.1 p1.2.2.2.2.1,eB p2.2.2.2.1 p2.2.2.2.2.1,eB p3.2.2.2.1 p3.2.2.2.2.1,eB p4.2.2.2.1 p4.2.2.2.2.1];rw [p4.2.2.2.2.2,p3.2.2.2.2.2,p2.2.2.2.2.2,p1.2.2.2.2.2,p0.2.2.2.2.2,ha]
 ·cases h
def zP(r:fc×Int×Bool)(o:Option (fc×Int)):Prop:=match o with
 | some (m,e)=>r=(m,e,true)
 | none=>r.2.2=false\/(r.1.ay.aO.length<=1048576/\gk r.1=false)
def M.puts(b:List Int)(o:Option (fc×Int)):Prop:=∀ m e,o=some (m,e)->M.MsgWf m/\0<=e/\e<=b.length/\c7 m=b.take e.toNat
theorem Mt{α:Type}(r:α×Int×Bool)(h:r.2.2=true):r=(r.1,r.2.1,true):=by rw [<- h]
def Bp(b:List Int)(a:Int):Option (fc×Int):=if (n5 b a).2.2 then some (⟨1,0,(n5 b a).1,0,0,0,[]⟩,(n5 b a).2.1) else none
def Bq(b:List Int)(a:Int):Option (fc×Int):=if (bN b a).2.2 then some (⟨4,(bN b a).1,Ip,0,0,0,[]⟩,(bN b a).2.1) else none
theorem Qh{u:Nat}(hu:1099511627776<=u){b:List Int}(hb:aB b)(hl:b.length<=1048576)(a:Int):∃ r,eE u b a 1=some r/\zP r (Bp b a):=by
 refine ⟨(⟨1,0,(n5 b a).1,0,0,0,[]⟩,(n5 b a).2.1,(n5 b a).2.2),?_,?_⟩
 ·unfold eE;rw [Kt hu hb hl]; rfl
 ·unfold Bp zP
  cases h:(n5 b a).2.2 with
  | false=>exact .inl rfl
  | true=>rfl
theorem We{b:List Int}(hb:aB b){a:Int}(ha:b.take a.toNat=cB 9 1):M.puts b (Bp b a):=by
 intro m e h;unfold Bp at h
 split at h
 ·rename_i hc;simp only [Option.some.injEq,Prod.mk.injEq] at h;obtain ⟨rfl,rfl⟩:=h;have p:=Qf hb (Mt _ hc);refine ⟨⟨by have:=vP p.2.2.2.1; show (n5 b a).1.aO.length<=_; omega,p.2.2.2.2.1,jJ,by simp⟩,by omega,p.2.2.1,?_⟩;rw [p.2.2.2.2.2,ha,<- zO (by omega) (by omega)];rfl
 ·cases h
theorem Qi{u:Nat}(hu:1099511627776<=u){b:List Int}(hb:aB b)(hl:b.length<=1048576)(a:Int):∃ r,eE u b a 3=some r/\zP r (Bo b a):=by
 unfold eE Bo;rw [show ((3:Int) == 1)=false by rfl,show ((3:Int) == 2)=false by rfl,show ((3:Int) == 3)=true by rfl];simp only [cond_false,cond_true,jA hu hb hl,Io hu hb hl,wk];rcases de b a with ⟨v0,e0,h0⟩ | h0
 ·rw [h0];dsimp only;rcases de b e0 with ⟨v1,e1,h1⟩ | h1
  ·rw [h1];dsimp only
   cases h2:(tW b e1).2.2 with
   | false=>exact ⟨_,rfl,.inl rfl⟩
   | true=>exact ⟨_,rfl,rfl⟩
  ·rw [h1]; exact ⟨_,rfl,.inl rfl⟩
 ·rw [h0]; exact ⟨_,rfl,.inl rfl⟩
theorem Wf{b:List Int}(hb:aB b){a:Int}(ha:b.take a.toNat=cB 9 3):M.puts b (Bo b a):=by
 intro m e h;unfold Bo at h;dsimp only at h
 split at h
 ·rename_i hc;simp only [sk] at hc;obtain ⟨⟨k0,k1⟩,k2⟩:=hc;simp only [Option.some.injEq,Prod.mk.injEq] at h;obtain ⟨rfl,rfl⟩:=h;have p0:=eH hb (Mt _ k0);have p1:=eH hb (Mt _ k1);have p2:=OW hb (Mt _ k2);generalize bN b a=g0 at *;generalize bN b g0.2.1=g1 at *;generalize tW b g1.2.1=g2 at *;refine ⟨EN _ _ _ _ _ p2.2.2.2.1 (by omega),by omega,p2.2.2.1,?_⟩;show aZ (aZ (aZ (aZ [] 3) g0.1) g1.1) g2.1.length++g2.1=b.take g2.2.1.toNat;rw [zO (by omega) (by omega),eB p0.2.2.2.1 p0.2.2.2.2.1,eB p1.2.2.2.1 p1.2.2.2.2.1,eB (by omega) (by omega),p2.2.2.2.2.2,p1.2.2.2.2.2,p0.2.2.2.2.2,ha]
 ·cases h
theorem Qj{u:Nat}(hu:1099511627776<=u){b:List Int}(hb:aB b)(hl:b.length<=1048576)(a:Int):∃ r,eE u b a 4=some r/\zP r (Bq b a):=by
 unfold eE Bq;rw [show ((4:Int) == 1)=false by rfl,show ((4:Int) == 2)=false by rfl,show ((4:Int) == 3)=false by rfl];simp only [cond_false,cond_true,jA hu hb hl,wk];rcases de b a with ⟨v0,e0,h0⟩ | h0
 ·rw [h0]; exact ⟨_,rfl,rfl⟩
 ·rw [h0]; exact ⟨_,rfl,.inl rfl⟩
theorem Wg{b:List Int}(hb:aB b){a:Int}(ha:b.take a.toNat=cB 9 4):M.puts b (Bq b a):=by
 intro m e h;unfold Bq at h
 split at h
 ·rename_i k0;simp only [Option.some.injEq,Prod.mk.injEq] at h;obtain ⟨rfl,rfl⟩:=h;have p0:=eH hb (Mt _ k0);generalize bN b a=g0 at *;refine ⟨EN _ _ _ _ _ jJ (by simp),by omega,p0.2.2.1,?_⟩;show aZ (aZ [] 4) g0.1=b.take g0.2.1.toNat;rw [zO (by omega) (by omega),eB p0.2.2.2.1 p0.2.2.2.2.1,p0.2.2.2.2.2,ha]
 ·cases h
def Db(b:List Int)(kind a:Int):Option (fc×Int):=if kind=1 then Bp b a else if kind=2 then zb b a else if kind=3 then Bo b a else if kind=4 then Bq b a else none
theorem Kw{m:fc}(h1:m.br≠1)(h2:m.br≠2)(h3:m.br≠3)(h4:m.br≠4):gk m=false:=by
 unfold gk; rw [if_neg h1,if_neg h2,if_neg h3,if_neg h4]
theorem R6{u:Nat}(hu:1099511627776<=u){b:List Int}(hb:aB b)(hl:b.length<=1048576)(k a:Int):∃ r,eE u b a k=some r/\zP r (Db b k a):=by
 unfold Db
 by_cases h1:k=1
 ·subst h1; exact Qh hu hb hl a
 ·rw [if_neg h1]
  by_cases h2:k=2
  ·subst h2;obtain ⟨r,g1,g2⟩:=Qg hu hb hl a;refine ⟨r,g1,?_⟩;rw [if_pos rfl];unfold zP
   cases hp:zb b a with
   | none=>rw [hp] at g2; exact .inl g2
   | some q=>rw [hp] at g2; exact g2
  ·rw [if_neg h2]
   by_cases h3:k=3
   ·subst h3; exact Qi hu hb hl a
   ·rw [if_neg h3]
    by_cases h4:k=4
    ·subst h4; exact Qj hu hb hl a
    ·rw [if_neg h4];have e1:(k == 1)=false:=by simpa using h1
     have e2:(k == 2)=false:=by simpa using h2
     have e3:(k == 3)=false:=by simpa using h3
     unfold eE;rw [e1,e2,e3];simp only [cond_false,jA hu hb hl,wk];rcases de b a with ⟨v0,e0,h0⟩ | h0
     ·rw [h0];exact ⟨(⟨k,v0,⟨0,0,0,[]⟩,0,0,0,[]⟩,e0,true),rfl,.inr ⟨by simp,Kw h1 h2 h3 h4⟩⟩
     ·rw [h0]; exact ⟨_,rfl,.inl rfl⟩
theorem Mu{b:List Int}(hb:aB b){k a:Int}(ha:b.take a.toNat=cB 9 k):M.puts b (Db b k a):=by
 unfold Db
 by_cases h1:k=1
 ·subst h1; exact We hb ha
 ·rw [if_neg h1]
  by_cases h2:k=2
  ·subst h2; exact λm e h=>Wc hb ha h
  ·rw [if_neg h2]
   by_cases h3:k=3
   ·subst h3; exact Wf hb ha
   ·rw [if_neg h3]
    by_cases h4:k=4
    ·subst h4; exact Wg hb ha
    ·rw [if_neg h4]; intro m e h; cases h
def xB:fc×Bool:=(⟨0,0,⟨0,0,0,[]⟩,0,0,0,[]⟩,false)
def cM(b:List Int):fc×Bool:=if (bN b 0).2.2 && decide (b.length<=400) then match Db b (bN b 0).1 (bN b 0).2.1 with
  | some (m,e)=>if gk m && decide (cL m=b) then (m,true) else xB
  | none=>xB
 else xB
theorem EO{m:fc}(h:M.MsgWf m):aB (cL m):=by
 unfold cL
 split
 ·exact gO (Kv h).1 _
 ·exact jJ
theorem Vw{b:List Int}(hb:aB b){m:fc}{e:Int}(h0:0<=e)(h1:e<=b.length)(hp:c7 m=b.take e.toNat)(hm:gk m=true):cL m=b↔bN b e=(cF (b.take e.toNat),(b.length:Int),true):=by
 have hw:=EC (b.take e.toNat);unfold cL;rw [if_pos hm,hp,eB hw.1 (by omega)];have hlen:(b.take e.toNat).length=e.toNat:=by rw [zQz]; omega
 constructor
 ·intro h;have g:=Da (p:=b.take e.toNat) (n:=cF (b.take e.toNat)) [] hw.1 (by omega);rw [zWQ,h,hlen,show ((e.toNat:Nat):Int)=e by omega] at g;rw [g];refine Prod.ext rfl (Prod.ext ?_ rfl);have:=congrArg zYq h;rw [zQV,hlen] at this;dsimp only; omega
 ·intro h;have p:=eH hb h;rw [<- p.2.2.2.2.2,rg,List.take_length]
theorem wN{u:Nat}(hu:1099511627776<=u){b:List Int}(hb:aB b)(hl:b.length<=1048576):kn u b=some (cM b):=by
 unfold kn cM oT oS mI;simp only [jA hu hb hl,wk];rcases de b 0 with ⟨k,a,h0⟩ | h0
 ·rw [h0];have p:=eH hb h0;have ha:b.take a.toNat=cB 9 k:=by rw [p.2.2.2.2.2]; rfl
  by_cases h4:b.length<=400
  ·have h4':¬ ((b.length:Int) > 400):=by omega
   simp only [h4,h4',decide_true,decide_false,zXV,if_true,zQK,cond_false];obtain ⟨r,g1,g2⟩:=R6 hu hb hl k a;rw [g1];simp only [wk]
   cases hr:Db b k a with
   | none =>
    rw [hr] at g2;rcases g2 with g2 | ⟨g2,g3⟩
    ·rw [g2]; rfl
    ·cases hf:r.2.2 with
     | false=>rfl
     | true =>
      rw [yb hu g2,g3]; rfl
   | some q =>
    obtain ⟨m,e⟩:=q;rw [hr] at g2;have w:=Mu hb ha m e hr;unfold zP at g2;dsimp only at g2;rw [g2];dsimp only;rw [yb hu w.1.sums];simp only [zQK,cond_false,wk]
    cases hm:gk m with
    | false=>rfl
    | true =>
     have hs:=Vw hb w.2.1 w.2.2.1 w.2.2.2 hm;obtain ⟨e,rfl⟩:=zQJ w.2.1;simp only [zQK,cond_false,rg] at hs ⊢;rw [show (0:Int)=((0:Nat):Int) by rfl,gY (by omega) (by have:=w.2.2.1; omega)];simp only [wk,rg,List.drop_zero];rw [ta hu (λx hx=>hb x (zWX hx)) (by rw [zQz]; omega)];simp only [wk];rcases de b e with ⟨v,e',h5⟩ | h5
     ·rw [h5] at hs ⊢;simp only [zQK,cond_false]
      by_cases he:e'=(b.length:Int)
      ·by_cases hv:v=cF (b.take e)
       ·have:cL m=b:=hs.2 (by rw [he,hv]);simp [he,hv,this]
       ·have:¬ cL m=b:=λh=>hv (by have:=hs.1 h; simp only [Prod.mk.injEq] at this; exact this.1);have hv':(v != cF (b.take e))=true:=by simpa using hv
        simp [he,this,xB];rw [hv']; rfl
      ·have:¬ cL m=b:=λh=>he (by have:=hs.1 h; simp only [Prod.mk.injEq] at this; exact this.2.1);have he':(e' != (b.length:Int))=true:=by simpa using he
       simp [this,xB];rw [he']; rfl
     ·rw [h5] at hs ⊢;have:¬ cL m=b:=λh=>by have:=hs.1 h; simp at this
      simp [this,xB]
  ·have h4':(b.length:Int) > 400:=by omega
   simp [h4,h4',xB]
 ·rw [h0]; simp [xB]
theorem Dc{u:Nat}(hu:1099511627776<=u){w:World}(hl:w.bn.length<=1048576)(ev:cu):fQ u u 0 w ev=some (w.bn.any λp=>mj p.fB ev.fP.fB):=by
 rw [CA u w ev () u (by omega) (by omega)];have:∀ (l:List ai) (i:Nat),cA (vZ u w ev) (ro u w ev) l i ()=some (l.any λp=>mj p.fB ev.fP.fB):=by
  intro l
  induction l with
  | nil=>intro i; rfl
  | cons x l ih =>
   intro i;simp only [cA,ro,xz,wk,List.any_cons];rw [ih (i+1)]
   cases mj x.fB ev.fP.fB <;> rfl
 exact this _ 0
theorem Tu{u:Nat}(hu:1099511627776<=u){c:aH}(hc:Cu c):Dr (tH u c) (λm=>m.aO.length<=41/\pW m):=by
 unfold tH oO;obtain ⟨b,c1,e1,hb,h1⟩:=Kp hu hc;obtain ⟨n,c2,e2,_,h2⟩:=cG u h1 5;obtain ⟨s,c3,e3,_,h3⟩:=cG u h2 5;have hb1:=hb.1;rw [e1];simp only [wk,e2,e3];rw [xU hu hb.2 (by omega)];simp only [wk];generalize hm:gj (bd .i64 1 n) b (bd .i64 2 s)=m;have hl:m.aO.length<=40:=hm ▸ Gq _ _ _;have hw:pW m:=hm ▸ Kh _ b _ hb.2;refine cz (cG u h3 10) λv c4 _ h4=>?_;simp only
 cases v == 0 with
 | true =>
  simp only [cond_true];exact cz (n4 u h4 (by simp)) λx c5 _ h5=>cR ⟨by show m.aO.length<=41; omega,hw⟩ h5
 | false =>
  simp only [cond_false]
  cases v == 1 with
  | true =>
   simp only [cond_true];exact cz (n4 u h4 (by simp)) λx c5 _ h5=>cR ⟨by show m.aO.length<=41; omega,hw⟩ h5
  | false =>
   simp only [cond_false]
   cases v == 2 with
   | true=>exact cR ⟨by show m.aO.length<=41; omega,hw⟩ h4
   | false =>
    simp only [cond_false]
    cases v == 3 with
    | true =>
     simp only [cond_true];rw [bD (by simp; omega)];simp only [wk];refine cR ⟨by show (m.aO++[cS.mk 1 257]).length<=41; simp; omega,λx hx=>?_⟩ h4;rcases List.mem_append.1 hx with h | h
     ·exact hw x h
     ·simp only [zQH] at h;subst h;show (257:Int)<=9223372036854775807;omega
    | false =>
     simp only [cond_false]
     cases v == 4 with
     | false=>exact cR ⟨by show m.aO.length<=41; omega,hw⟩ h4
     | true =>
      simp only [cond_true]
      by_cases hp:(m.aO.length:Int) > 0
      ·simp only [hp,decide_true,cond_true];have hlt:0 < m.aO.length:=by omega
       have e0:dG m.aO 0=some (m.aO[0]'hlt):=ji m.aO 0 (sX hlt);simp only [e0,wk];refine cR ⟨?_,λx hx=>?_⟩ h4
       ·show (m.aO.set _ _).length<=41;rw [zXJ]; omega
       ·rcases zXz hx with h | h
        ·exact hw x h
        ·subst h;have hq:=hw _ (zXG hlt);exact hq
      ·simp only [hp,decide_false,cond_false];exact cR ⟨by show m.aO.length<=41; omega,hw⟩ h4
theorem OY:∀ (l:List ct) (d:am),(wM l d).fP=[]
 | [],d=>rfl
 | p :: l,d=>OY l _
def lD{α:Type}(f:α->Nat->Bool):List α->Nat->Bool
 | [],_=>true
 | x :: l,i=>f x i && lD f l (i+1)
theorem Dd{α:Type}{fin:Unit->Option Bool}{body:α->Nat->Unit->(Unit->Option Bool)->Option Bool}(f:α->Nat->Bool){xs:List α}{b:Bool}(hf:fin ()=some b)(i0:Nat)(hb:∀ x i k,i0<=i->xs[i]?=some x->body x i () k=bif f x i then k () else some false) :
  ∀ (l:List α) (i:Nat),i0<=i->l=xs.drop i->cA fin body l i ()=some (lD f l i && b):=by
 intro l
 induction l with
 | nil=>intro i _ _; simp [cA,lD,hf]
 | cons x l ih =>
  intro i h0 h;have hx:xs[i]?=some x:=by
   have:=congrArg zZQ h
   simpa [zXj] using this.symm
  have hl:l=xs.drop (i+1):=by
   have:=congrArg zZV h
   simpa [zYX] using this
  simp only [cA,lD];rw [hb x i _ h0 hx,ih (i+1) (by omega) hl]
  cases f x i <;> simp
def Br(x:Int)(i:Nat):Bool:=if i=0 then x == -1 else au x 0 ((i:Int) - 1)
def jB(t:cX):Bool:=lD Br t.ca 0 && au t.ca.length 1 7
theorem wO{u:Nat}(hu:1099511627776<=u){t:cX}(hl:t.ca.length<=1073741824):oM u t=some (jB t):=by
 unfold oM jB rV;simp only [bL,wk]
 cases hw:au t.ca.length 1 7 with
 | false=>simp
 | true =>
  have:=cd hw
  match hup:t.ca with
  | []=>rw [hup] at this; simp at this
  | x :: l =>
   have h1:dG (x :: l) 0=some x:=rfl;simp only [zQK,cond_false,h1,wk,lD,Br,↓reduceIte,Bool.and_true]
   by_cases hx:x=-1
   ·subst hx;simp only [bne_self_eq_false,cond_false,beq_self_eq_true,zWk];have h:=Oo (fin:=yf u t) (body:=λy i s k=>tq u t y i s k) (xs:=t.ca) (λk s i=>jl u k i t) (by omega) (λ_ _ _=>rfl) (t.ca.drop 1) u 1 () rfl (by simp; omega);have h2:jl u u 1 t=some (lD Br (t.ca.drop 1) 1 && true):=by
     rw [show ((1:Int))=((1:Nat):Int) from rfl,h];refine Dd Br rfl 1 (λy i k h0 hy=>?_) _ 1 (zWy _) rfl;have hi:i < t.ca.length:=(List.getElem?_eq_some_iff.1 hy).1;have e0:i≠0:=by omega
     unfold tq Br;simp (disch:=omega) only [e0,dD,bL,wk,↓reduceIte]
     cases au y 0 ((i:Int) - 1) <;> rfl
    rw [h2,hup];simp
   ·have:(x == -1)=false:=by simpa using hx
    simp [this,bne]
def lu(up:List Int):Nat->Int->List Int
 | 0,_=>[]
 | n+1,k=>if au k 0 ((up.length:Int) - 1) then k :: lu up n ((up[k.toNat]?).getD 0) else []
def EP(t:cX)(k:Int):List Int:=lu t.ca t.ca.length k
theorem EQ(up:List Int):∀ (n:Nat) (k:Int),(lu up n k).length<=n
 | 0,_=>by simp [lu]
 | n+1,k=>by
  unfold lu
  split
  ·have:=EQ up n ((up[k.toNat]?).getD 0);simp; omega
  ·simp
theorem zQ{up:List Int}{k:Int}(h:au k 0 ((up.length:Int) - 1)=true):dG up k=some ((up[k.toNat]?).getD 0):=by
 have:=cd h;have h1:k.toNat < up.length:=by omega
 simp [dG,this.1,h1]
theorem Kx{u:Nat}(hu:1099511627776<=u){t:cX}(hl:t.ca.length<=1048576)(k:Int):ur u t k=some (EP t k):=by
 have main:∀ (n f:Nat) (k:Int) (o:List Int),o.length+n=t.ca.length->n < f->il u f k o t=some (o++lu t.ca n k):=by
  intro n
  induction n with
  | zero =>
   intro f k o h1 h2;obtain ⟨f,rfl⟩:∃ j,f=j+1:=⟨f - 1,by omega⟩;have e:decide ((o.length:Int) < (t.ca.length:Int))=false:=by simp; omega
   unfold il oU sA;simp (disch:=omega) only [dD,bL,wk,e,cond_false,lu,zWQ]
   cases au k 0 ((t.ca.length:Int) - 1) <;> rfl
  | succ n ih =>
   intro f k o h1 h2;obtain ⟨f,rfl⟩:∃ j,f=j+1:=⟨f - 1,by omega⟩;have e:decide ((o.length:Int) < (t.ca.length:Int))=true:=by simp; omega
   unfold il oU sA;simp (disch:=omega) only [dD,bL,wk,e,lu]
   cases hw:au k 0 ((t.ca.length:Int) - 1) with
   | false=>simp
   | true =>
    have e2:dC (decide ((o.length+([k]).length)*8<=140737488355328))=some ():=bD (by simp; omega);have e2':dC (decide ((o.length+([(0:Int)]).length)*8<=140737488355328))=some ():=bD (by simp; omega);simp only [cond_true,zQ hw,wk,e2,↓reduceIte];rw [ih f _ (o++[k]) (by simp; omega) (by omega),zQZ,List.singleton_append]
 unfold ur EP;rw [main t.ca.length u k [] (by simp) (by omega),zQy]
def Mv(t:cX)(a k:Int):Bool:=(a != k) && (EP t k).any λy=>y == a
theorem GE{u:Nat}(hu:1099511627776<=u){t:cX}(hl:t.ca.length<=1048576)(a k:Int):qn u t a k=some (Mv t a k):=by
 have:=EQ t.ca t.ca.length k;unfold qn Mv;rw [Kx hu hl];simp only [wk];rw [Km hu (by unfold EP; omega)]
 cases a != k <;> rfl
def wP(t:cX)(k b:Int):Int:=if jB t && au k 1 ((t.ca.length:Int) - 1) then (if Mv t b k && decide (0 < b) then (t.ca[b.toNat]?).getD 0 else (t.ca[k.toNat]?).getD 0) else -1
theorem Hj{up:List Int}:∀ {n:Nat} {k a:Int},a∈lu up n k->au a 0 ((up.length:Int) - 1)=true
 | 0,_,_,h=>by simp [lu] at h
 | n+1,k,a,h=>by
  unfold lu at h
  split at h
  ·rename_i hk;rcases List.mem_cons.1 h with rfl | h
   ·exact hk
   ·exact Hj h
  ·simp at h
theorem Tv{t:cX}{a k:Int}(h:Mv t a k=true):au a 0 ((t.ca.length:Int) - 1)=true:=by
 unfold Mv at h;simp only [sk,List.any_eq_true,beq_iff_eq] at h;obtain ⟨_,y,hy,rfl⟩:=h;exact Hj hy
theorem GF{u:Nat}(hu:1099511627776<=u){t:cX}(hl:t.ca.length<=1048576)(k b:Int):qo u t k b=some (wP t k b):=by
 unfold qo pH pG wP;simp (disch:=omega) only [wO hu (show t.ca.length<=1073741824 by omega),bL,dD,GE hu hl,wk]
 cases jB t with
 | false=>rfl
 | true =>
  cases hw:au k 1 ((t.ca.length:Int) - 1) with
  | false=>rfl
  | true =>
   have:=cd hw;have hk:au k 0 ((t.ca.length:Int) - 1)=true:=by unfold au; simp; omega
   by_cases hb:b<=0
   ·have h1:¬ (0 < b):=by omega
    simp [hb,h1,zQ hk]
   ·have h1:0 < b:=by omega
    cases ha:Mv t b k with
    | false=>simp [hb,zQ hk]
    | true=>simp [hb,h1,zQ (Tv ha)]
theorem uj{α:Type}(f:α->Bool):∀ (l:List α) (i:Nat),(er f l i=-1/\∀ x∈l,f x=false)\/∃ (j:Nat) (x:α),er f l i=((i+j:Nat):Int)/\l[j]?=some x/\f x=true
 | [],i=>.inl ⟨rfl,by simp⟩
 | y :: l,i=>by
  cases hy:f y with
  | true=>exact .inr ⟨0,y,by simp [er,hy],rfl,hy⟩
  | false =>
   rcases uj f l (i+1) with ⟨h1,h2⟩ | ⟨j,x,h1,h2,h3⟩
   ·exact .inl ⟨by simp [er,hy,h1],by simp [hy]; exact h2⟩
   ·exact .inr ⟨j+1,x,by simp [er,hy,h1]; omega,by simpa using h2,h3⟩
def vG(l:List bS)(id:Int):Int:=er (λx=>x.oK == id) l 0
theorem yd{u:Nat}(hu:1099511627776<=u){l:List bS}(hl:l.length<=1048577)(id:Int):rr u l id=some (vG l id):=by
 unfold rr;rw [HF u l id () u (by omega) (by omega)];exact Bi (λ(x:bS)=>x.oK == id) rfl (λx i k _=>rfl)
theorem Ky{α β ρ:Type}{fin:List β->Option ρ}{body:α->Nat->List β->(List β->Option ρ)->Option ρ}(f:α->Bool)(g:α->β){xs:List α}(hb:∀ x i s k,xs[i]?=some x->i < xs.length->s.length<=i->body x i s k=bif f x then k (s++[g x]) else k s) :
  ∀ (l:List α) (i:Nat) (s:List β),l=xs.drop i->s.length<=i->cA fin body l i s=fin (s++(l.filter f).map g):=by
 intro l
 induction l with
 | nil=>intro i s _ _; simp [cA]
 | cons x l ih =>
  intro i s h hs;have hx:xs[i]?=some x:=by
   have:=congrArg zZQ h
   simpa [zXj] using this.symm
  have hl:l=xs.drop (i+1):=by
   have:=congrArg zZV h
   simpa [zYX] using this
  have hi:i < xs.length:=(List.getElem?_eq_some_iff.1 hx).1;simp only [cA];rw [hb x i s _ hx hi hs]
  cases hf:f x with
  | true=>rw [cond_true,ih (i+1) _ hl (by simp; omega)]; simp [hf]
  | false=>rw [cond_false,ih (i+1) _ hl (by omega)]; simp [hf]
def Tw(x:bS):bS:=⟨x.oK,x.cn,x.ci,bd .i64 x.wT 1,0⟩
def lv(l:List bS)(forget:Int):List bS:=(l.filter λx=>decide (x.wT < forget)).map Tw
theorem Kz{u:Nat}(hu:1099511627776<=u){l:List bS}(hl:l.length<=1048576)(n:Int):uq u l n=some (lv l n):=by
 unfold uq;rw [Fx u l n [] u (by omega) (by omega),Ky (λx=>decide (x.wT < n)) Tw (λx i s k _ hi hs=>?_) l 0 [] rfl (by simp)]
 ·rfl
 ·unfold yk mL;have e:dC (decide ((s.length+([(bS.mk x.oK x.cn x.ci (bd .i64 x.wT 1) 0)]).length)*40<=140737488355328))=some ():=bD (by simp; omega)
  by_cases h:x.wT < n
  ·have h2:¬ (x.wT>=n):=by omega
   simp only [h,h2,decide_true,decide_false,cond_true,cond_false,e,wk]; rfl
  ·have h2:x.wT>=n:=by omega
   simp only [h,h2,decide_true,decide_false,cond_true,cond_false]
theorem rN(l:List bS)(id:Int):(vG l id=-1/\∀ x∈l,x.oK≠id)\/∃ (j:Nat) (x:bS),vG l id=(j:Int)/\l[j]?=some x/\x.oK=id:=by
 rcases uj (λ(x:bS)=>x.oK == id) l 0 with ⟨h1,h2⟩ | ⟨j,x,h1,h2,h3⟩
 ·exact .inl ⟨h1,λx hx=>by simpa using h2 x hx⟩
 ·exact .inr ⟨j,x,by unfold vG; rw [h1]; simp,h2,by simpa using h3⟩
def n6(l:List bS)(id have_:Int):Int:=match dG l (vG l id) with
 | some x=>if cq have_ && cq x.cn && cq x.oI then zF .i64 (fK .i64 x.cn have_) x.oI else 0
 | none=>0
theorem Bt{u:Nat}(hu:1099511627776<=u){l:List bS}(hl:l.length<=1048577)(id s:Int):rF u l id s=some (n6 l id s):=by
 unfold rF mR n6;simp only [yd hu hl,ie,wk];rcases rN l id with ⟨h1,_⟩ | ⟨j,x,h1,h2,_⟩
 ·rw [h1]; rfl
 ·have e:decide ((j:Int) < 0)=false:=by simp
  simp only [h1,e,cond_false,dc,h2,wk]
  cases cq s <;> cases cq x.cn <;> cases cq x.oI <;> rfl
def nE(l:List bS)(id s:Int):List bS:=match dG l (vG l id) with
 | some x=>if cq s && cq x.oI then l.set (vG l id).toNat ⟨x.oK,x.cn,x.ci,x.wT,xO .i64 x.oI s⟩ else l
 | none=>l
theorem KA{l:List bS}(hl:l.length<=1048577):dC (decide (((([]:List bS)).length+l.length)*40<=140737488355328))=some ():=bD (by simp; omega)
theorem zd{u:Nat}(hu:1099511627776<=u){l:List bS}(hl:l.length<=1048577)(id s:Int):oh u l id s=some (nE l id s):=by
 unfold oh mS nE;simp only [KA hl,yd hu hl,ie,wk,zQy];rcases rN l id with ⟨h1,_⟩ | ⟨j,x,h1,h2,_⟩
 ·rw [h1]; rfl
 ·have e:decide ((j:Int) < 0)=false:=by simp
  simp only [h1,e,cond_false,dc,h2,wk]
  cases cq s <;> cases cq x.oI <;> rfl
theorem ER(l:List bS)(id s:Int):(nE l id s).length=l.length:=by
 unfold nE
 split
 ·split <;> simp
 ·rfl
def uI(l:List bS)(id:Int):Nat:=if er (λ(x:bS)=>decide (x.oK > id)) l 0 < 0 then l.length else (er (λ(x:bS)=>decide (x.oK > id)) l 0).toNat
def qc(l:List bS)(id want done:Int):List bS :=
 if au id 0 6 && cq want && cq done then match dG l (vG l id) with
  | some x=>l.set (vG l id).toNat ⟨x.oK,want,xO .i64 x.ci done,0,x.oI⟩
  | none=>l.take (uI l id)++[⟨id,want,done,0,0⟩]++l.drop (uI l id)
 else l
theorem Mw(l:List bS)(id:Int):uI l id<=l.length:=by
 unfold uI;rcases uj (λ(x:bS)=>decide (x.oK > id)) l 0 with ⟨h1,_⟩ | ⟨j,x,h1,h2,_⟩
 ·rw [h1]; simp
 ·have:=(List.getElem?_eq_some_iff.1 h2).1;rw [h1]; split <;> omega
theorem Iq{u:Nat}{l:List bS}(hl:l.length<=1048576)(id w d:Int):∀ (ys:List bS) (f i:Nat),ys=l.drop i->i<=l.length->ys.length < f ->
  ke u f id w d l (i:Int)=vw u id w d l (if er (λ(x:bS)=>decide (x.oK > id)) ys i < 0 then (l.length:Int) else er (λ(x:bS)=>decide (x.oK > id)) ys i):=by
 intro ys
 induction ys with
 | nil =>
  intro f i h hi hf;obtain ⟨f,rfl⟩:∃ j,f=j+1:=⟨f - 1,by omega⟩;have h1:i=l.length:=by
   have:=congrArg zYq h;simp at this;omega
  subst h1;unfold ke sE;simp only [zQy,Int.lt_irrefl,decide_false,cond_false,er];rfl
 | cons y ys ih =>
  intro f i h hi hf;obtain ⟨f,rfl⟩:∃ j,f=j+1:=⟨f - 1,by omega⟩;have hx:l[i]?=some y:=by
   have:=congrArg zZQ h
   simpa [zXj] using this.symm
  have hy:ys=l.drop (i+1):=by
   have:=congrArg zZV h
   simpa [zYX] using this
  have hlt:i < l.length:=(List.getElem?_eq_some_iff.1 hx).1;have e:decide ((i:Int) < (l.length:Int))=true:=by simp; omega
  unfold ke sE;simp only [zQy,e,cond_true,dc,hx,wk,er]
  by_cases hc:y.oK<=id
  ·have hc2:¬ (y.oK > id):=by omega
   simp only [hc,hc2,decide_true,decide_false,cond_true,zWW,↓reduceIte];rw [dB (by omega)];simp only [zQG] at hf;exact ih f (i+1) hy (by omega) (by omega)
  ·have hc2:y.oK > id:=by omega
   have:¬ ((i:Int) < 0):=by omega
   simp only [hc,hc2,decide_true,decide_false,cond_false,this,↓reduceIte]
theorem Nk{u:Nat}(hu:1099511627776<=u){l:List bS}(hl:l.length<=1048576)(id w d:Int):yv u l id w d=some (qc l id w d):=by
 unfold yv sF qc;simp only [KA (show l.length<=1048577 by omega),bL,ie,yd hu (show l.length<=1048577 by omega),wk,zQy]
 cases h1:au id 0 6 with
 | false=>rfl
 | true=>cases h2:cq w with
  | false=>rfl
  | true=>cases h3:cq d with
   | false=>rfl
   | true =>
    simp only [zQK,cond_false,zXV,↓reduceIte];rcases rN l id with ⟨h4,_⟩ | ⟨j,x,h4,h5,_⟩
    ·have e:dG l (-1)=none:=by simp [dG]
     rw [h4,e,show decide ((-1:Int) < 0)=true from rfl,cond_true,show ((0:Int))=((0:Nat):Int) from rfl,Iq hl id w d l u 0 rfl (by omega) (by omega)];have hp:=Mw l id;have e2:(if er (λ(x:bS)=>decide (x.oK > id)) l 0 < 0 then (l.length:Int) else er (λ(x:bS)=>decide (x.oK > id)) l 0)=((uI l id:Nat):Int):=by
      unfold uI; split <;> omega
     rw [e2];generalize uI l id=q at hp;unfold vw;simp only [zQy];have c1:=gY (a:=0) (b:=q) (n:=l.length) (by omega) hp;have c2:=gY (a:=q) (b:=l.length) (n:=l.length) hp (by omega);rw [show ((0:Nat):Int)=0 from rfl] at c1;rw [c1,c2];simp only [wk];rw [bD (by simp; omega),bD (by simp; omega),bD (by simp; omega)];simp
    ·have e:decide ((j:Int) < 0)=false:=by simp
     simp only [h4,e,cond_false,dc,h5,wk]
theorem OZ(l:List bS)(id w d:Int):(qc l id w d).length<=l.length+1:=by
 unfold qc
 split
 ·split
  ·simp
  ·have:=Mw l id;simp; omega
 ·omega
theorem R7{α:Type}{fin:Unit->Option Bool}{body:Nat->Unit->(Unit->Option Bool)->Option Bool}(f:α->Nat->Bool){xs:List α}{b:Bool}(hf:fin ()=some b)(hb:∀ x i k,xs[i]?=some x->body i () k=bif f x i then k () else some false) :
  ∀ (l:List α) (i:Nat),l=xs.drop i->lB fin body l.length i ()=some (lD f l i && b):=by
 intro l
 induction l with
 | nil=>intro i _; simp [lB,lD,hf]
 | cons x l ih =>
  intro i h;have hx:xs[i]?=some x:=by
   have:=congrArg zZQ h
   simpa [zXj] using this.symm
  have hl:l=xs.drop (i+1):=by
   have:=congrArg zZV h
   simpa [zYX] using this
  simp only [zQG,lB,lD];rw [hb x i _ hx,ih (i+1) hl]
  cases f x i <;> simp
def oA(n:Nat):Int:=if n<=40 then ((2 ^ n - 1:Nat):Int) else 0
theorem ze(u:Nat){m:al}:od u m=some (oA m.aO.length):=by
 unfold od oA
 by_cases h:m.aO.length<=40
 ·rw [Ii u h]; simp [h]
 ·have h1:au (m.aO.length:Int) 0 40=false:=by
   unfold au; simp; omega
  unfold pI;rw [bL,h1];simp [h]
theorem Qk(n:Nat):cq (oA n)=true:=by
 unfold oA cq au
 split
 ·rename_i h;have h2:(2:Nat) ^ n<=2 ^ 40:=zWz (by omega) h;simp; omega
 ·rfl
def rO(a b:Int):Int:=if cq a && cq b then zF .i64 a b else 0
theorem Az(u:Nat)(a b:Int):pJ u a b=some (rO a b):=by
 unfold pJ qS rO;simp only [ie,wk]
 cases cq a <;> cases cq b <;> rfl
def zf(m:al)(x:bI):Int:=rO (oA m.aO.length) x.bq
theorem AA(u:Nat)(m:al)(x:bI):pK u m x=some (zf m x):=by
 unfold pK zf;simp only [ze,Az,wk]
def M.at_(m:al)(i:Int):Nat:=(ch m.aw m.aW i).1.toNat
def tg(m:al)(i:Int):Nat:=(ch m.aw m.aW i).2.toNat
def ES(m:al)(x:bI)(i:Int):List Int:=M.win x.b9 (M.at_ m i) (tg m i)
theorem O0{m:al}{b:List Int}(hb:(b.length:Int)=m.aW)(hl:b.length<=1048576)(i:Int) :
  dC (cO (ch m.aw m.aW i).1 (bd .i64 (ch m.aw m.aW i).1 (ch m.aw m.aW i).2) b.length)=some () /\
  (b.take (sY (bd .i64 (ch m.aw m.aW i).1 (ch m.aw m.aW i).2))).drop (sY (ch m.aw m.aW i).1)=M.win b (M.at_ m i) (tg m i) /\
  M.at_ m i+tg m i<=b.length/\tg m i<=6:=by
 obtain ⟨h1,h2,h3,h4⟩:=pX (size:=m.aw) (n:=m.aW) (i:=i) (by omega);unfold M.at_ tg;generalize ch m.aw m.aW i=s at *;obtain ⟨a,c⟩:=s;dsimp only at *;obtain ⟨a,rfl⟩:∃ n:Nat,a=n:=⟨a.toNat,by omega⟩;obtain ⟨c,rfl⟩:∃ n:Nat,c=n:=⟨c.toNat,by omega⟩;simp only [rg] at *;rw [td (by omega),gY (by omega) (by omega)];exact ⟨rfl,rfl,by omega,by omega⟩
def zR(m:al)(x:bI)(s:cS)(i:Nat):Bool :=
 if ef x.bq i then decide (dX (ES m x i)=s) else (ES m x i).all λc=>c == 0
def jK(m:al)(x:bI):Bool :=
 dd m && cq x.bq && (rO x.bq (oA m.aO.length) == 0) && ((x.b9.length:Int) == m.aW) && lD (zR m x) m.aO 0
theorem KB{u:Nat}(hu:1099511627776<=u){b:List Int}(hl:b.length<=1048576):nh u b=some (b.all λc=>c == 0):=by
 unfold nh;rw [FA u b () u (by omega) (by omega),Dd (λ(c:Int) _=>c == 0) (xs:=b) (b:=true) rfl 0 (λx i k _ hx=>?_) b 0 (zWy _) rfl,Bool.and_true]
 ·congr 1
  have:∀ (l:List Int) (i:Nat),lD (λ(c:Int) _=>c == 0) l i=l.all λc=>c == 0:=by
   intro l
   induction l with
   | nil=>intro i; rfl
   | cons x l ih=>intro i; simp [lD,ih]
  exact this b 0
 ·unfold yo;rw [Kc]
  cases x == 0 <;> rfl
structure M.BldWf (x:bI):Prop where
 b:aB x.b9
 l:x.b9.length<=1048576
theorem GG{b:List Int}(h:aB b)(hl:b.length<=1048576)(i n:Nat):aB (M.win b i n)/\(M.win b i n).length<=1048576:=by
 refine ⟨mi h i n,?_⟩;have:(M.win b i n).length<=b.length:=by unfold M.win; simp; omega
 omega
theorem u6{u:Nat}(hu:1099511627776<=u){m:al}(hm:m.aO.length<=1048576){x:bI}(hx:M.BldWf x):nu u m x=some (jK m x):=by
 unfold nu lK jK;simp only [gF hu m (show m.aO.length<=1073741824 by omega),ie,ze,Az,wk]
 cases dd m with
 | false=>rfl
 | true=>cases cq x.bq with
  | false=>rfl
  | true =>
   rw [Kc,Kc]
   cases rO x.bq (oA m.aO.length) == 0 with
   | false=>rfl
   | true =>
    by_cases hb:(x.b9.length:Int)=m.aW
    ·have e:((x.b9.length:Int) == m.aW)=true:=by simpa using hb
     simp only [e,zQK,cond_false,zXV,zWk];have hl:=hx.l;rw [DH u m x () u (by omega) (by omega),rg,R7 (zR m x) (xs:=m.aO) (b:=true) rfl (λs i k hs=>?_) m.aO 0 rfl,Bool.and_true];obtain ⟨c1,c2,c3,c4⟩:=O0 hb hl i;obtain ⟨b1,b2⟩:=GG hx.b hl (M.at_ m i) (tg m i);unfold w5 ei zR ES;simp only [jz,kD,dc,hs,wk,c1,c2,mv hu b1 (show _<=1073741824 by omega),KB hu b2,IY]
     cases ef x.bq i with
     | true=>simp only [cond_true,↓reduceIte,zQK,cond_false]; cases decide (dX (M.win x.b9 (M.at_ m i) (tg m i))=s) <;> rfl
     | false=>simp only [cond_false,Bool.not_false,cond_true,zWW,↓reduceIte]; cases (M.win x.b9 (M.at_ m i) (tg m i)).all λc=>c == 0 <;> rfl
    ·have e:((x.b9.length:Int) == m.aW)=false:=by simpa using hb
     simp [e]
theorem Ql{a b:Int}(ha:cq a=true)(hb:cq b=true):rO a b=zF .i64 a b:=by simp [rO,ha,hb]
def BT(m:al)(x:bI):Bool:=(m.aM != 0) && jK m x && (zf m x == 0)
theorem LG{u:Nat}(hu:1099511627776<=u){m:al}(hm:m.aO.length<=1048576){x:bI}(hx:M.BldWf x):we u m x=some (BT m x):=by
 unfold we BT;simp only [u6 hu hm hx,AA,wk]
 cases m.aM != 0 <;> cases jK m x <;> rfl
def M.tells(m:al)(b:List Int):Bool:=((b.length:Int) == m.aW) && M.same (λx y=>decide (x=y)) (nY b m.aw) m.aO
theorem Cn{u:Nat}(hu:1099511627776<=u)(m:al){b:List Int}(hb:aB b)(hl:b.length<=1048576):tw u m b=some (M.tells m b):=by
 unfold tw M.tells;rw [Bh hu hb (by omega)];simp only [wk];rw [wK hu (by unfold nY; have:=dA m.aw b.length; simp; omega)]
 cases (b.length:Int) == m.aW <;> rfl
theorem ET{b:List Int}(hl:b.length<=1048576):dC (decide (((([]:List Int)).length+b.length)*1<=140737488355328))=some ():=bD (by simp; omega)
theorem wQ(u:Nat){m:al}(hm:m.aO.length<=1048576):lX u m=some m:=by
 unfold lX;rw [bD (by simp; omega)]; rfl
theorem Bu(u:Nat){x:bI}(hl:x.b9.length<=1048576):nd u x=some x:=by
 unfold nd;rw [ET hl]; rfl
structure M.NodWf (n:aC):Prop where
 s:n.ay.aO.length<=1048576
 b:M.BldWf n.bB
 k:n.bi.length<=1048577
 w:pW n.ay
theorem fJ(u:Nat){n:aC}(h:M.NodWf n):dz u n=some n:=by
 unfold dz;rw [wQ u h.s,Bu u h.b.l,wk,wk,KA (by have:=h.k; omega)]; rfl
def iA(m:al)(x:bI)(i:Int):List Int×Bool:=if jK m x && ef x.bq i then (ES m x i,true) else ([],false)
theorem xC{m:al}{x:bI}(h:jK m x=true):(x.b9.length:Int)=m.aW:=by
 unfold jK at h;simp only [sk,beq_iff_eq] at h;exact h.1.2
theorem AB{u:Nat}(hu:1099511627776<=u){m:al}(hm:m.aO.length<=1048576){x:bI}(hx:M.BldWf x)(i:Int):nw u m x i=some (iA m x i):=by
 unfold nw qX iA;simp only [u6 hu hm hx,kD,wk]
 cases hb:jK m x with
 | false=>rfl
 | true=>cases ef x.bq i with
  | false=>rfl
  | true =>
   obtain ⟨c1,c2,c3,c4⟩:=O0 (xC hb) hx.l i;have c5:=(GG hx.b hx.l (M.at_ m i) (tg m i)).2;simp only [zQK,cond_false,jz,wk,c1,c2,ET c5,zXV,↓reduceIte,zQy];rfl
theorem KC:∀ (b:List Int) (s:Int) (n:Nat),aB b->(256:Int) ^ n<=s->(256:Int) ^ (n+b.length)<=iJ b s:=by
 intro b
 induction b with
 | nil=>intro s n _ h; exact h
 | cons c b ih =>
  intro s n hb h;have hc:=hb c (by simp);have:=ih (256*s+c) (n+1) (λz hz=>hb z (by simp [hz])) (by rw [zYW]; omega);simp only [zQG,iJ];rwa [show n+(b.length+1)=n+1+b.length by omega]
theorem Hk{a b:Nat}(h:a<=b):(256:Int) ^ a<=256 ^ b:=by
 induction h with
 | refl=>exact zVV _
 | step h ih =>
  rename_i c;have:(0:Int) < 256 ^ c:=Int.pow_pos (by omega);rw [zYW]; omega
theorem Mx{b:List Int}{s:cS}{size len:Int}{i:Nat}(hb:aB b)(h:dX b=s)(hf:po size len i s=true):(b.length:Int)=(ch size len i).2/\b.length<=6:=by
 unfold po at hf;simp only [sk,beq_iff_eq] at hf;obtain ⟨⟨h1,h2⟩,_⟩:=hf;have h3:ce s.fS=((ce s.fS).1,true):=by rw [<- h1]
 obtain ⟨h4,h5,_,h6⟩:=vE h3;generalize (ce s.fS).1=c at *;unfold dX at h
 split at h
 ·rw [<- h] at h4; simp at h4
 ·rename_i hl;have hs:s.fS=iJ b 1:=by rw [<- h]
  have h7:=(Kb b 1 0 hb (by omega) (by omega)).2;have h8:=KC b 1 0 hb (by simp);simp only [zWZ] at h7 h8;rw [hs] at h5;have hp:(0:Int) < 256 ^ c.length:=Int.pow_pos (by omega);have h9:256 ^ c.length<=iJ b 1:=by
   have:=Int.mul_ediv_self_le (x:=iJ b 1) (k:=256 ^ c.length) (by omega);rw [h5] at this; omega
  have h10:iJ b 1 < 256 ^ c.length*2:=by
   have:=Int.lt_mul_ediv_self_add (x:=iJ b 1) hp;rw [h5] at this; omega
  have:b.length=c.length:=by
   rcases Nat.lt_trichotomy b.length c.length with h | h | h
   ·have:=Hk (show b.length+1<=c.length by omega);rw [zYW] at this; omega
   ·exact h
   ·have:=Hk (show c.length+1<=b.length by omega);rw [zYW] at this; omega
  omega
theorem Hl{size len:Int}:∀ {l:List cS} {i j:Nat} {s:cS},iW size len l i=true->l[j]?=some s->po size len (i+j) s=true
 | [],_,_,_,_,h=>by simp at h
 | x :: l,i,0,s,h,hs=>by
  simp only [iW,sk] at h;simp at hs; subst hs; exact h.1
 | x :: l,i,j+1,s,h,hs=>by
  simp only [iW,sk] at h;have:=Hl h.2 (by simpa using hs);rwa [show i+1+j=i+(j+1) by omega] at this
theorem My{m:al}(hm:dd m=true){i:Nat}{s:cS}(hs:m.aO[i]?=some s):po m.aw m.aW i s=true:=by
 unfold dd at hm
 split at hm
 ·simp only [sk,beq_iff_eq] at hm;have:=(List.getElem?_eq_some_iff.1 hs).1;omega
 ·simp only [sk] at hm;have:=Hl hm.2 hs
  simpa using this
theorem De{m:al}(hm:dd m=true):0<=m.aW/\m.aW<=240:=by
 unfold dd at hm
 split at hm
 ·simp only [sk,beq_iff_eq] at hm; omega
 ·simp only [sk] at hm;have:=qI hm.1.1.2;omega
def M.put(m:al)(x:bI)(i:Int)(b:List Int):bI:=⟨xO .i64 x.bq (jF .i64 1 i),Ae x.b9 b (M.at_ m i)⟩
def th(m:al)(x:bI)(i:Int)(b:List Int):Bool×bI :=
 if au i 0 ((m.aO.length:Int) - 1) && !ef x.bq i && (match m.aO[i.toNat]? with | some s=>decide (dX b=s) | none=>false) then (true,M.put m x i b) else (false,x)
theorem Tx(m:al)(x:bI)(i:Int)(b:List Int):th m x i b=(true,M.put m x i b)\/th m x i b=(false,x):=by
 unfold th;generalize (au i 0 ((m.aO.length:Int) - 1) && !ef x.bq i && (match m.aO[i.toNat]? with | some s=>decide (dX b=s) | none=>false))=c
 cases c
 ·exact .inr rfl
 ·exact .inl rfl
theorem Wh(u:Nat)(p2:Int)(p3:List Int)(r6:Int×Int)(x:bI)(a:Nat)(ha:r6.1=(a:Int))(hal:a<=1048576):∀ (l:List Int) (i:Nat) (s:List Int),a+i+l.length<=s.length->s.length<=4194304 ->
  cA (uP u p2 p3 r6 x) (uQ u p2 p3 r6 x) l i s=(ib u x.bq p2).bind λq=>some (true,⟨q,s.take (a+i)++l++s.drop (a+i+l.length)⟩):=by
 intro l
 induction l with
 | nil=>intro i s _ _; simp [cA,uP,t8]
 | cons y l ih =>
  intro i s h1 h2;simp only [zQG] at h1;simp only [cA,uQ];rw [ha,dy (by omega) (by omega),show (a:Int)+(i:Int)=((a+i:Nat):Int) by omega,dc,sX (by omega),rg];simp only [wk];rw [ih (i+1) _ (by simp; omega) (by simp; omega)];have e1:(s.set (a+i) y).take (a+(i+1))=s.take (a+i)++[y]:=by
   rw [show a+(i+1)=(a+i)+1 by omega,List.take_add_one,List.take_set_of_le (zWy _)];simp [show a+i < s.length by omega]
  have e2:(s.set (a+i) y).drop (a+(i+1)+l.length)=s.drop (a+i+(y :: l).length):=by
   rw [List.drop_set_of_lt (by omega)]; simp only [zQG]; congr 1; omega
  rw [e1,e2]; simp
theorem EU{m:al}{b:List Int}(hb:(b.length:Int)=m.aW)(i:Int):(ch m.aw m.aW i).1=(M.at_ m i:Int)/\(ch m.aw m.aW i).2=(tg m i:Int)/\M.at_ m i+tg m i<=b.length:=by
 obtain ⟨h1,h2,h3,h4⟩:=pX (size:=m.aw) (n:=m.aW) (i:=i) (by omega);unfold M.at_ tg;omega
theorem Qm{i:Int}{n:Nat}(h:au i 0 ((n:Int) - 1)=true)(hn:n<=40):fe i=true/\0<=i:=by
 have:=cd h;unfold fe au;simp; omega
theorem zg(u:Nat){s i:Int}(hs:cq s=true)(hi:fe i=true):ib u s i=some (xO .i64 s (jF .i64 1 i)):=by
 have:=cd hi;unfold ib mD;rw [ie,hs];simp only [wk,zQK,cond_false];rw [bL,show au i 0 39=true from hi];simp only [wk,zQK,cond_false];rw [bD (by omega)]; rfl
theorem Co{u:Nat}(hu:1099511627776<=u){m:al}(hm:dd m=true){x:bI}(hx:(x.b9.length:Int)=m.aW)(hs:cq x.bq=true)(i:Int){b:List Int}(hb:aB b)(hl:b.length<=1048576) :
  rn u m x i b=some (th m x i b):=by
 have h40:=vP hm;have h240:=De hm;unfold rn n9 th;simp (disch:=omega) only [dD,bL,kD,mv hu hb (show b.length<=1073741824 by omega),wk,IY]
 cases hw:au i 0 ((m.aO.length:Int) - 1) with
 | false=>simp
 | true=>cases ef x.bq i with
  | true=>simp
  | false =>
   have hw':=cd hw;obtain ⟨n,rfl⟩:∃ n:Nat,i=n:=⟨i.toNat,by omega⟩;have hn:n < m.aO.length:=by omega
   obtain ⟨s,hs'⟩:∃ s,m.aO[n]?=some s:=⟨_,sX hn⟩;simp only [zQK,Bool.not_false,cond_false,dc,hs',wk,rg,zWk]
   by_cases hq:dX b=s
   ·obtain ⟨h1,h2⟩:=Mx hb hq (My hm hs');have h3:decide ((b.length:Int) > 6)=false:=by simp; omega
    obtain ⟨e1,e2,e3⟩:=EU (b:=x.b9) hx n;have h4:b.length=tg m n:=by omega
    simp only [hq,decide_true,zQK,cond_false,h3,jz,wk,↓reduceIte];rw [HB u n b _ x x.b9 u (by omega) (by omega),Wh u n b _ x (M.at_ m n) e1 (by omega) b 0 x.b9 (by omega) (by omega),zg u hs (Qm hw (by omega)).1];unfold M.put;rw [Bm (by omega)];rfl
   ·simp [hq]
def mx(m:al)(x:bI)(i:Int)(b:List Int):bI×Bool:=if jK m x && (th m x i b).1 then (M.put m x i b,true) else (x,false)
theorem Bv{m:al}{x:bI}(h:jK m x=true):dd m=true/\cq x.bq=true:=by
 unfold jK at h;simp only [sk] at h;exact ⟨h.1.1.1.1,h.1.1.1.2⟩
theorem GH{u:Nat}(hu:1099511627776<=u){m:al}(hm:m.aO.length<=1048576){x:bI}(hx:M.BldWf x)(i:Int){b:List Int}(hb:aB b)(hl:b.length<=1048576):qt u m x i b=some (mx m x i b):=by
 unfold qt pN mx;simp only [Bu u hx.l,u6 hu hm hx,wk]
 cases hk:jK m x with
 | false=>rfl
 | true =>
  obtain ⟨h1,h2⟩:=Bv hk;simp only [zQK,cond_false,Co hu h1 (xC hk) h2 i hb hl,wk,zWk];rcases Tx m x i b with h | h <;> rw [h] <;> rfl
def BU(m:al)(old:List Int):Nat->Nat->bI->bI
 | 0,_,x=>x
 | n+1,i,x=>BU m old n (i+1) (if 0<=fU old m i then M.put m x i (M.win old (fU old m i).toNat (tg m i)) else x)
def pq(m:al):bI:=if dd m then ⟨0,zQk m.aW.toNat 0⟩ else ⟨0,[]⟩
def kE(m:al)(old:List Int):bI:=if dd m then BU m old m.aO.length 0 (pq m) else ⟨0,[]⟩
theorem Nl{m:al}(hm:dd m=true):dC (decide (0<=m.aW) && (m.aW == 0 || m.aW == m.aW))=some ()/\dC (decide (sY m.aW*1<=140737488355328))=some ():=by
 have:=De hm;refine ⟨by simp [dC]; omega,bD (by omega)⟩
theorem GI{u:Nat}(hu:1099511627776<=u){m:al}(hm:m.aO.length<=1048576):qi u m=some (pq m):=by
 unfold qi pq;simp only [gF hu m (show m.aO.length<=1073741824 by omega),wk]
 cases h:dd m with
 | false=>rfl
 | true=>obtain ⟨h1,h2⟩:=Nl h; rw [h1,h2]; rfl
theorem EV{b:List Int}{s:cS}{n:Nat}:∀ (c i:Nat),0<=iX b s n c i->dX (M.win b (iX b s n c i).toNat n)=s
 | 0,_,h=>by simp [iX] at h
 | c+1,i,h=>by
  unfold iX at h ⊢
  split
  ·rename_i hq; simpa using hq
  ·rename_i hq;rw [if_neg hq] at h;exact EV c (i+1) h
theorem KD{old:List Int}{m:al}{i:Nat}(h:0<=fU old m i):∃ s,m.aO[i]?=some s/\0<=(ch m.aw m.aW i).2/\dX (M.win old (fU old m i).toNat (tg m i))=s/\(fU old m i).toNat+tg m i<=old.length:=by
 unfold fU at h ⊢
 split at h
 ·rename_i s hs;simp only [hs];unfold vR at h ⊢
  split at h
  ·rename_i hw;have:=cd hw;rw [if_pos hw];have h1:=EV _ _ h;have h2:=Kg old s (ch m.aw m.aW i).2.toNat (old.length+1 - (ch m.aw m.aW i).2.toNat) 0;refine ⟨s,rfl,by omega,h1,?_⟩;unfold tg;omega
  ·omega
 ·omega
structure M.Part (m:al) (i:Nat) (x:bI):Prop where
 b:M.BldWf x
 l:(x.b9.length:Int)=m.aW
 h:∃ n:Nat,x.bq=n/\n < 2 ^ i
theorem Bw{x p:List Int}{a:Nat}(h:a+p.length<=x.length)(hx:aB x)(hp:aB p):aB (Ae x p a)/\(Ae x p a).length=x.length:=by
 rw [Bm h];refine ⟨λz hz=>?_,by simp; omega⟩;simp only [zWw] at hz;rcases hz with (hz | hz) | hz
 ·exact hx z (zWX hz)
 ·exact hp z hz
 ·exact hx z (zWg hz)
theorem O4{m:al}{i:Nat}{x:bI}(hp:M.Part m i x)(hi:i<=39){b:List Int}(hb:aB b)(hl:b.length=tg m i):M.Part m (i+1) (M.put m x i b):=by
 obtain ⟨e1,e2,e3⟩:=EU (b:=x.b9) hp.l i;obtain ⟨h1,h2⟩:=Bw (x:=x.b9) (p:=b) (a:=M.at_ m i) (by omega) hp.b.b hb;obtain ⟨n,h3,h4⟩:=hp.h;have h5:(2:Nat) ^ i<=2 ^ 39:=zWz (by omega) hi;refine ⟨⟨h1,by unfold M.put; dsimp only; rw [h2]; exact hp.b.l⟩,by unfold M.put; dsimp only; rw [h2]; exact hp.l,n ||| 2 ^ i,?_,?_⟩
 ·unfold M.put;dsimp only;rw [h3,vQ (by omega),IX (by omega) (by omega)]
 ·exact Nat.or_lt_two_pow (by rw [Nat.pow_succ]; omega) (by rw [Nat.pow_succ]; have:0 < 2 ^ i:=Nat.pow_pos (by omega); omega)
theorem GJ{m:al}{i j:Nat}{x:bI}(hp:M.Part m i x)(h:i<=j):M.Part m j x:=by
 obtain ⟨n,h3,h4⟩:=hp.h;exact ⟨hp.b,hp.l,n,h3,zQj h4 (zWz (by omega) h)⟩
theorem Uu{m:al}{i:Nat}{x:bI}(hp:M.Part m i x)(hi:i<=40):cq x.bq=true/\ef x.bq i=false:=by
 obtain ⟨n,h3,h4⟩:=hp.h;have h5:(2:Nat) ^ i<=2 ^ 40:=zWz (by omega) hi;constructor
 ·rw [h3]; unfold cq au; simp; omega
 ·unfold ef;rw [h3,rg,rg,Nat.testBit_lt_two_pow h4,Bool.and_false]
theorem Uv{old:List Int}(hl:old.length<=1048576){p:Int}{n:Nat}(h0:0<=p)(h:p.toNat+n<=old.length):dC (cO p (bd .i64 p (n:Int)) old.length)=some ()/\(old.take (sY (bd .i64 p (n:Int)))).drop (sY p)=M.win old p.toNat n:=by
 obtain ⟨q,rfl⟩:∃ q:Nat,p=q:=⟨p.toNat,by omega⟩;simp only [rg] at h ⊢;rw [td (by omega),gY (by omega) (by omega)];exact ⟨rfl,rfl⟩
theorem R8{m:al}(hm:dd m=true){old:List Int}(ho:aB old):∀ (n i:Nat) (x:bI),i+n=m.aO.length->M.Part m i x->M.Part m (i+n) (BU m old n i x):=by
 have h40:=vP hm;intro n
 induction n with
 | zero=>intro i x _ hp; exact hp
 | succ n ih =>
  intro i x h hp;simp only [BU]
  by_cases hq:0<=fU old m i
  ·obtain ⟨s,g1,g2,g3,g4⟩:=KD hq;have hb:=mi ho (fU old m i).toNat (tg m i);have hbl:(M.win old (fU old m i).toNat (tg m i)).length=tg m i:=rC g4;have hput:=O4 hp (by omega) hb hbl;have k3:=ih (i+1) _ (by omega) hput;rw [if_pos hq];rwa [show i+1+n=i+(n+1) by omega] at k3
  ·have k3:=ih (i+1) x (by omega) (GJ hp (by omega));rw [if_neg hq];rwa [show i+1+n=i+(n+1) by omega] at k3
theorem R9{u:Nat}(hu:1099511627776<=u){m:al}(hm:dd m=true){old:List Int}(ho:aB old)(hl:old.length<=1048576):∀ (n i:Nat) (x:bI),i+n=m.aO.length->M.Part m i x ->
  lB (ve u old m) (p7 u old m) n i (x.bq,x.b9)=some (BU m old n i x):=by
 have h40:=vP hm;intro n
 induction n with
 | zero=>intro i x _ hp; exact rfl
 | succ n ih =>
  intro i x h hp;obtain ⟨e1,e2,e3⟩:=EU (b:=x.b9) hp.l i;obtain ⟨f1,f2⟩:=Uu hp (by omega);simp only [lB,BU,p7,jG];rw [Ih hu ho (by omega) (by omega),jz];simp only [wk]
  by_cases hq:0<=fU old m i
  ·obtain ⟨s,g1,g2,g3,g4⟩:=KD hq;have hq':decide (fU old m i>=0)=true:=by simpa using hq
   rw [e2];obtain ⟨c1,c2⟩:=Uv hl hq g4;have hb:=mi ho (fU old m i).toNat (tg m i);have hbl:(M.win old (fU old m i).toNat (tg m i)).length=tg m i:=rC g4;have hput:=O4 hp (by omega) hb hbl;have k1:=ih (i+1) _ (by omega) hput;have h6:(M.win old (fU old m i).toNat (tg m i)).length<=1048576:=by omega
   have hl8:th m x i (M.win old (fU old m i).toNat (tg m i))=(true,M.put m x i (M.win old (fU old m i).toNat (tg m i))):=by
    unfold th;have hw:au (i:Int) 0 ((m.aO.length:Int) - 1)=true:=by unfold au; simp; omega
    rw [hw,f2,rg,g1];simp [g3]
   rw [if_pos hq];simp only [hq',cond_true,c1,c2,wk,Co hu hm hp.l f1 i hb h6,hl8];exact k1
  ·have hq':decide (fU old m i>=0)=false:=by simpa using hq
   have k1:=ih (i+1) x (by omega) (GJ hp (by omega));rw [if_neg hq];simp only [hq',cond_false];exact k1
theorem O5{m:al}(hm:dd m=true):M.Part m 0 (pq m):=by
 have:=De hm;unfold pq;rw [if_pos hm];exact ⟨⟨by simp [aB],by simp; omega⟩,by simp; omega,0,rfl,by simp⟩
theorem Bx{m:al}(hm:dd m=true){old:List Int}(ho:aB old)(hl:old.length<=1048576):M.Part m m.aO.length (kE m old):=by
 have:=R8 hm ho m.aO.length 0 _ (by omega) (O5 hm);unfold kE;rw [if_pos hm]
 simpa using this
theorem xD{u:Nat}(hu:1099511627776<=u){m:al}(hs:m.aO.length<=1048576){old:List Int}(ho:aB old)(hl:old.length<=1048576):mE u m old=some (kE m old):=by
 unfold mE kE;simp only [GI hu hs,gF hu m (show m.aO.length<=1073741824 by omega),wk]
 cases hm:dd m with
 | false=>simp [pq,hm]
 | true =>
  simp only [zQK,cond_false,↓reduceIte];rw [B0 u old m ((pq m).bq,(pq m).b9) u (by omega) (by omega),rg];exact R9 hu hm ho hl m.aO.length 0 _ (by omega) (O5 hm)
def M.add(d:am)(p:ct):am×Bool:=if b7 (gZ d p) then (gZ d p,true) else (d,false)
def iY(d:am)(slot at_:Int)(b:List Int):am×Bool:=if au slot 0 1 then M.add d ⟨slot,at_,b,⟨0,0,0⟩⟩ else (d,false)
def gl(d:am)(r:cT):am×Bool:=M.add d ⟨2,0,[],r⟩
def jj(d:am):Int:=ez .i64 1 d.fR.bQ
theorem Nm(d:am)(p:ct):(M.add d p=(gZ d p,true)/\b7 (gZ d p)=true)\/M.add d p=(d,false):=by
 unfold M.add
 cases h:b7 (gZ d p) with
 | true=>exact .inl ⟨rfl,rfl⟩
 | false=>exact .inr rfl
theorem GK{u:Nat}(hu:1099511627776<=u){d:am}(hd:M.DOk d)(hl:d.fP.length<=1048575)(s a:Int){b:List Int}(hb:b.length<=1048576):qp u d s a b=some (iY d s a b):=by
 unfold qp iY M.add;rw [bL,xZ hu hd hl (p:=⟨s,a,b,⟨0,0,0⟩⟩) hb,gG hu hd];simp only [wk]
 cases au s 0 1 <;> rfl
theorem EW{u:Nat}(hu:1099511627776<=u){d:am}(hd:M.DOk d)(hl:d.fP.length<=1048575)(r:cT):oX u d r=some (gl d r):=by
 unfold oX gl M.add;rw [xZ hu hd hl (p:=⟨2,0,[],r⟩) (by simp)];rfl
theorem Cp(u:Nat)(d:am):wh u d=some (jj d):=rfl
def jC(d0:am)(b:List Int)(size:Int):Nat->Nat->am->am×Bool
 | 0,_,d=>(d,true)
 | n+1,i,d=>if (iY d (jj d0) ((i:Int)*size) (dK b size i).1).2 then jC d0 b size n (i+1) (iY d (jj d0) ((i:Int)*size) (dK b size i).1).1 else (d0,false)
def lw(d:am)(b:List Int)(size:Int):am×Bool :=
 if b7 d && decide (d.fP.length=0) && dn size b.length then jC d b size (bJ size b.length).toNat 0 d else (d,false)
theorem O6{d:am}(h:b7 d=true):d.fP.length<=200:=by
 unfold b7 at h;simp only [sk,decide_eq_true_eq] at h;exact h.1.2
theorem Hm(d:am)(s a:Int)(b:List Int):(iY d s a b=(gZ d ⟨s,a,b,⟨0,0,0⟩⟩,true)/\b7 (gZ d ⟨s,a,b,⟨0,0,0⟩⟩)=true)\/iY d s a b=(d,false):=by
 unfold iY
 split
 ·exact Nm d _
 ·exact .inr rfl
theorem EX{d:am}(hd:M.DOk d)(hl:d.fP.length<=200)(s a:Int){b:List Int}(hb:b.length<=1048576):M.DOk (iY d s a b).1/\(iY d s a b).1.fP.length<=200:=by
 rcases Hm d s a b with ⟨h1,h2⟩ | h1
 ·rw [h1];exact ⟨BR hd (by omega) hb,O6 h2⟩
 ·rw [h1]; exact ⟨hd,hl⟩
theorem Hn(b:List Int)(size i:Int):(dK b size i).1.length<=b.length:=by
 unfold dK;dsimp only
 split
 ·simp
 ·unfold M.win; simp; omega
theorem Qn{u:Nat}(hu:1099511627776<=u){d0:am}(h0:M.DOk d0){b:List Int}(hb:b.length<=1048576){size:Int}:∀ (n i f:Nat) (d:am),i+n=(bJ size b.length).toNat->n < f->M.DOk d->d.fP.length<=200 ->
  iR u f b size i d.fA d.fB d.fR.aM d.fR.bQ d.fR.aW d.fP d0=some (jC d0 b size n i d):=by
 have hr:=dA size b.length;intro n
 induction n with
 | zero =>
  intro i f d h hf hd hl;obtain ⟨f,rfl⟩:∃ j,f=j+1:=⟨f - 1,by omega⟩;have e:decide ((i:Int) < bJ size b.length)=false:=by simp; omega
  unfold iR;rw [gE];simp only [wk,e,cond_false];exact rfl
 | succ n ih =>
  intro i f d h hf hd hl;obtain ⟨f,rfl⟩:∃ j,f=j+1:=⟨f - 1,by omega⟩;have e:decide ((i:Int) < bJ size b.length)=true:=by simp; omega
  have hw:au (i:Int) 0 (bJ size b.length - 1)=true:=by unfold au; simp; omega
  obtain ⟨k1,k2,k3⟩:=BP hw;have k4:=qI k1;have k5:=Gn (s:=size) (i:=i) (by omega) (by omega) k2 k3;have e1:(ch size b.length i).1=(i:Int)*size:=by unfold ch; rw [if_pos hw]
  have hbl:=Hn b size i;have hde:am.mk d.fA d.fB (cT.mk d.fR.aM d.fR.bQ d.fR.aW) d.fP=d:=rfl;unfold iR jC;rw [gE,jz,Au u (by omega),Cp];simp only [wk,e,cond_true,e1,hde];rw [GK hu hd (by omega) _ _ (by omega),gG hu h0];simp only [wk];obtain ⟨g1,g2⟩:=EX hd hl (jj d0) ((i:Int)*size) (b:=(dK b size i).1) (by omega);have m1:=ih (i+1) f _ (by omega) (by omega) g1 g2;rw [dB (by omega)]
  cases (iY d (jj d0) ((i:Int)*size) (dK b size i).1).2 with
  | true=>exact m1
  | false=>exact rfl
theorem GL{u:Nat}(hu:1099511627776<=u){d:am}(hd:M.DOk d){b:List Int}(hb:b.length<=1048576)(size:Int):qq u d b size=some (lw d b size):=by
 have hr:=dA size b.length;unfold qq mO lw;simp only [gG hu hd,m4 hu hd,pm,wk]
 cases b7 d with
 | false=>rfl
 | true =>
  by_cases hp:d.fP.length=0
  ·have e:decide ((d.fP.length:Int) > 0)=false:=decide_eq_false (by omega);simp only [e,hp,decide_true,zQK,cond_false,zWk,zXV]
   cases dn size b.length with
   | false=>rfl
   | true=>exact Qn hu hd hb (size:=size) (bJ size b.length).toNat 0 u d (by omega) (by omega) hd (by omega)
  ·have e:decide ((d.fP.length:Int) > 0)=true:=by simp; omega
   simp only [e,hp,cond_true,zQK,cond_false,decide_false,Bool.and_false,Bool.false_and,zWW,↓reduceIte]
theorem Cq{d0:am}(h0:M.DOk d0)(hp:d0.fP.length<=200){b:List Int}(hb:b.length<=1048576){size:Int}:∀ (n i:Nat) (d:am),M.DOk d->d.fP.length<=200->M.DOk (jC d0 b size n i d).1/\(jC d0 b size n i d).1.fP.length<=200
 | 0,i,d,hd,hl=>⟨hd,hl⟩
 | n+1,i,d,hd,hl=>by
  unfold jC;have hbl:=Hn b size i;obtain ⟨g1,g2⟩:=EX hd hl (jj d0) ((i:Int)*size) (b:=(dK b size i).1) (by omega)
  split
  ·exact Cq h0 hp hb n (i+1) _ g1 g2
  ·exact ⟨h0,hp⟩
def eg(d:am)(m:al)(x:bI)(ph:Int):am×Int :=
 if ph=1 then (if BT m x && (lw d x.b9 m.aw).2 then ((lw d x.b9 m.aw).1,2) else (d,ph))
 else if ph=2 then (M.sure d,3)
 else if ph=3 then (if (gl d ⟨m.aM,jj d,m.aW⟩).2 then ((gl d ⟨m.aM,jj d,m.aW⟩).1,4) else (d,ph))
 else if ph=4 then (M.sure d,5)
 else (d,ph)
theorem Vx{α:Type}(ph:Int)(a b c e f:α):(bif ph == 1 then a else bif ph == 2 then b else bif ph == 3 then c else bif ph == 4 then e else f)=if ph=1 then a else if ph=2 then b else if ph=3 then c else if ph=4 then e else f:=by
 by_cases h1:ph=1
 ·simp [h1]
 ·by_cases h2:ph=2
  ·simp [h2]
  ·by_cases h3:ph=3
   ·simp [h3]
   ·by_cases h4:ph=4
    ·simp [h4]
    ·have e1:(ph == 1)=false:=by simpa using h1
     have e2:(ph == 2)=false:=by simpa using h2
     have e3:(ph == 3)=false:=by simpa using h3
     have e4:(ph == 4)=false:=by simpa using h4
     simp [e1,e2,e3,e4,h1,h2,h3,h4]
theorem I0{α:Type}(p:Prop)[Decidable p](a b:α):(if p then some a else some b)=some (if p then a else b):=by split <;> rfl
theorem V0(w s:Bool)(a b c:am×Int)(hb:b=c):(bif w then (bif s then some a else some b) else some c)=some (if (w && s)=true then a else c):=by subst hb; cases w <;> cases s <;> rfl
theorem V1(s:Bool)(a b:am×Int):(bif s then some a else some b)=some (if s=true then a else b):=by cases s <;> rfl
theorem Df{u:Nat}(hu:1099511627776<=u){d:am}(hd:M.DOk d)(hl:d.fP.length<=1048575){m:al}(hm:m.aO.length<=1048576){x:bI}(hx:M.BldWf x)(ph:Int):nP u d m x ph=some (eg d m x ph):=by
 unfold nP iS eg;simp only [LG hu hm hx,GL hu hd hx.l,EJ hu hd,Cp,EW hu hd hl,gG hu hd,wk,Vx];rw [V0 _ _ _ _ _ rfl,V1,I0,I0,I0,I0]
theorem KE{d:am}(hd:M.DOk d)(hl:d.fP.length<=200){m:al}{x:bI}(hx:M.BldWf x)(ph:Int):M.DOk (eg d m x ph).1/\(eg d m x ph).1.fP.length<=200:=by
 have hs:M.DOk (M.sure d)/\(M.sure d).fP.length<=200:=by
  refine ⟨Ra hd,?_⟩;unfold M.sure
  split
  ·rw [OY]; simp
  ·exact hl
 have hst:M.DOk (lw d x.b9 m.aw).1/\(lw d x.b9 m.aw).1.fP.length<=200:=by
  unfold lw
  split
  ·exact Cq hd hl hx.l _ _ _ hd hl
  ·exact ⟨hd,hl⟩
 have hr:M.DOk (gl d ⟨m.aM,jj d,m.aW⟩).1/\(gl d ⟨m.aM,jj d,m.aW⟩).1.fP.length<=200:=by
  unfold gl;rcases Nm d ⟨2,0,[],⟨m.aM,jj d,m.aW⟩⟩ with ⟨h1,h2⟩ | h1
  ·rw [h1]; exact ⟨BR hd (by omega) (by simp),O6 h2⟩
  ·rw [h1]; exact ⟨hd,hl⟩
 unfold eg
 split
 ·split
  ·exact hst
  ·exact ⟨hd,hl⟩
 ·split
  ·exact hs
  ·split
   ·split
    ·exact hr
    ·exact ⟨hd,hl⟩
   ·split
    ·exact hs
    ·exact ⟨hd,hl⟩
theorem By{u:Nat}(hu:1099511627776<=u){m:fc}(hm:M.MsgWf m):ng u m=some (cL m):=by
 have k:=bT [] m.br;have g:=bT (aZ [] m.br) m.aM;simp only [zXZ] at k;have hl:=hm.len;obtain ⟨hb,hbl⟩:=Kv hm;unfold ng cL;rw [yb hu hm.sums];simp only [wk]
 cases hok:gk m with
 | false=>rfl
 | true =>
  simp only [zQK,cond_false,if_true];rw [dR hu (by simp)];simp only [wk];have tail:jo u (c7 m)=some (aZ (c7 m) (cF (c7 m))):=by
   unfold jo;rw [ta hu hb (by omega)];simp only [wk];rw [dR hu (by omega)]; rfl
  rw [<- tail]
  clear tail hbl hb
  unfold c7 qJ
  by_cases h1:m.br=1
  ·simp only [h1,beq_self_eq_true,cond_true,if_true];rw [h1] at k;rw [Kd hu (by omega) (by have:=hm.sums; omega) hm.wf]; rfl
  ·have e1:(m.br == 1)=false:=by simpa using h1
   by_cases h2:m.br=2
   ·rw [h2] at k g;have h3:=bT (aZ (aZ [] 2) m.aM) (fK .i64 m.cn 1048575);have h4:=bT (aZ (aZ (aZ [] 2) m.aM) (fK .i64 m.cn 1048575)) (nD .i64 m.cn 20);have h5:=bT (aZ (aZ (aZ (aZ [] 2) m.aM) (fK .i64 m.cn 1048575)) (nD .i64 m.cn 20)) (fK .i64 m.ci 1048575);simp only [h2,beq_self_eq_true,cond_true,if_true,su];rw [dR hu (by omega)]; simp only [wk];rw [dR hu (by omega)]; simp only [wk];rw [dR hu (by omega)]; simp only [wk];rw [dR hu (by omega)]; simp only [wk];rw [dR hu (by omega)]; rfl
   ·have e2:(m.br == 2)=false:=by simpa using h2
    by_cases h3:m.br=3
    ·rw [h3] at k g;have h4:=bT (aZ (aZ [] 3) m.aM) m.fI;have h5:=bT (aZ (aZ (aZ [] 3) m.aM) m.fI) m.fB.length;simp only [h3,beq_self_eq_true,cond_true,if_true,vq];rw [dR hu (by omega)]; simp only [wk];rw [dR hu (by omega)]; simp only [wk];rw [dR hu (by omega)]; simp only [wk];rw [bD (by omega)]; rfl
    ·have e3:(m.br == 3)=false:=by simpa using h3
     by_cases h4:m.br=4
     ·rw [h4] at k;simp only [h4,beq_self_eq_true,cond_true,if_true];rw [dR hu (by omega)]; rfl
     ·have e4:(m.br == 4)=false:=by simpa using h4
      rw [Kw h1 h2 h3 h4] at hok; cases hok
def iZ(f t:Int)(m:fc):ai:=⟨f,t,cL m⟩
def GM(g i:Int)(b:List Int):fc:=⟨3,g,Ip,0,0,i,b⟩
theorem zS(g i:Int){b:List Int}(hb:aB b)(hl:b.length<=1048576):M.MsgWf (GM g i b):=EN _ _ _ _ _ hb hl
theorem kQ{u:Nat}(hu:1099511627776<=u)(f t:Int){m:fc}(hm:M.MsgWf m):eS u f t m=some (iZ f t m):=by
 unfold eS;rw [By hu hm]; rfl
theorem u7(u:Nat)(g i:Int){b:List Int}(hl:b.length<=1048576):lZ u g i b=some (GM g i b):=by
 unfold lZ;rw [ET hl]; rfl
theorem Dg(m:al){x:bI}(hx:M.BldWf x)(i:Int):aB (iA m x i).1/\(iA m x i).1.length<=1048576:=by
 unfold iA
 split
 ·exact GG hx.b hx.l _ _
 ·exact ⟨jJ,by simp⟩
def vH(n:aC)(f t i:Int):ai:=iZ f t (GM n.ay.aM i (iA n.ay n.bB i).1)
def fq(n:aC)(f t:Int):Act :=
 ⟨⟨n.fL,n.bR,n.bG,n.ay,n.bB,n.bc,nE n.bi t (n6 n.bi t n.bB.bq),n.bw⟩,((lO (n6 n.bi t n.bB.bq)).filter λi=>(iA n.ay n.bB i).2).map (vH n f t)⟩
theorem Ho(s:Int):(lO s).length<=40:=by
 unfold lO
 split
 ·rw [zXQ];exact zWx (List.length_filter_le _ _) (by simp)
 ·simp
theorem Qo{s:List ai}(hl:s.length<=1048576)(p:ai):dC (decide ((s.length + [p].length)*40<=140737488355328))=some ():=bD (by simp; omega)
theorem EY{u:Nat}(hu:1099511627776<=u){n:aC}(hn:M.NodWf n)(f t:Int):oY u n f t=some (fq n f t):=by
 have hp:=Ho (n6 n.bi t n.bB.bq);unfold oY rE;simp only [fJ u hn,Bt hu hn.k,Id hu,wk];rw [B1 u _ _ _ _ _ _ _ u (by omega) (by omega),Ky (xs:=lO (n6 n.bi t n.bB.bq)) (λi=>(iA n.ay n.bB i).2) (vH n f t) (λx i s k hx hi hs=>?_) (lO (n6 n.bi t n.bB.bq)) 0 [] rfl (by simp)]
 ·unfold vg oB;rw [zd hu hn.k]; rfl
 ·unfold vh jH;have w:=Dg n.ay hn.b x;rw [AB hu hn.s hn.b];simp only [wk]
  cases (iA n.ay n.bB x).2 with
  | false=>rfl
  | true =>
   have e:dG (lO (n6 n.bi t n.bB.bq)) (i:Int)=some x:=by rw [dc]; exact hx
   simp only [cond_true,e,wk,u7 u _ _ w.2,kQ hu _ _ (zS _ _ w.1 w.2),Qo (show s.length<=1048576 by omega)];rfl
theorem LH(n:aC)(f t:Int):(fq n f t).kj.length<=40:=by
 have hp:=Ho (n6 n.bi t n.bB.bq);unfold fq;have:=List.length_filter_le (λi=>(iA n.ay n.bB i).2) (lO (n6 n.bi t n.bB.bq));simp only [zXQ];omega
def jU(n:aC)(l:List bS):aC:=⟨n.fL,n.bR,n.bG,n.ay,n.bB,n.bc,l,n.bw⟩
def Bz(g:Int):fc:=⟨4,g,Ip,0,0,0,[]⟩
def EZ(m:al):fc:=⟨1,0,m,0,0,0,[]⟩
theorem BV(g:Int):M.MsgWf (Bz g):=EN _ _ _ _ _ jJ (by simp)
theorem Mz{m:al}(hs:m.aO.length<=1048576)(hw:pW m):M.MsgWf (EZ m):=⟨hs,hw,jJ,by simp [EZ]⟩
def df(n:aC)(me f:Int)(m:fc):Act :=
 if f=me then ⟨n,[]⟩ else
 let l:=qc n.bi f m.cn m.ci
 if n.bc=0 then ⟨jU n l,[iZ me f (Bz 0)]⟩
 else if m.aM=n.ay.aM then
  (let a:=fq (jU n l) me f; if a.kj.length=0 then ⟨a.fN,[iZ me f (Bz n.ay.aM)]⟩ else a)
 else ⟨jU n l,[iZ me f (EZ n.ay)]⟩
theorem xE{n:aC}(hn:M.NodWf n){l:List bS}(hl:l.length<=1048577):M.NodWf (jU n l):=⟨hn.s,hn.b,hl,hn.w⟩
theorem Nn(p:ai):dC (decide (((([]:List ai)).length + [p].length)*40<=140737488355328))=some ():=bD (by simp)
theorem Dh{u:Nat}(hu:1099511627776<=u){n:aC}(hn:M.NodWf n)(hk:n.bi.length<=1048576)(me f:Int)(m:fc):nR u n me f m=some (df n me f m):=by
 unfold nR df nx ny;simp only [fJ u hn,wk]
 by_cases h1:f=me
 ·simp only [h1,beq_self_eq_true,cond_true,if_true]
 ·have e1:(f == me)=false:=by simpa using h1
  have hl:=OZ n.bi f m.cn m.ci;simp only [e1,h1,cond_false,if_false,Nk hu hk,wk]
  by_cases h2:n.bc=0
  ·simp only [h2,beq_self_eq_true,cond_true,if_true];rw [show (fc.mk 4 0 (al.mk 0 0 0 []) 0 0 0 [])=Bz 0 from rfl,kQ hu me f (BV 0)];simp only [wk,Nn,zQy,<- h2]; rfl
  ·have e2:(n.bc == 0)=false:=by simpa using h2
   simp only [e2,h2,cond_false,if_false]
   by_cases h3:m.aM=n.ay.aM
   ·simp only [h3,bne_self_eq_false,cond_false,if_true];rw [show (aC.mk n.fL n.bR n.bG n.ay n.bB n.bc (qc n.bi f m.cn m.ci) n.bw)=jU n (qc n.bi f m.cn m.ci) from rfl,EY hu (xE hn (by omega)) me f];simp only [wk]
    cases ha:fq (jU n (qc n.bi f m.cn m.ci)) me f with
    | mk an ao =>
     cases ao with
     | nil =>
      rw [show (fc.mk 4 n.ay.aM (al.mk 0 0 0 []) 0 0 0 [])=Bz n.ay.aM from rfl,kQ hu me f (BV _)];simp only [wk,Nn]; rfl
     | cons p ps =>
      have e3:(((p :: ps).length:Int) == 0)=false:=by simp; omega
      simp only [e3,cond_false]; simp
   ·have e3:(m.aM != n.ay.aM)=true:=by simpa using h3
    simp only [e3,h3,cond_true,if_false];rw [show (fc.mk 1 0 n.ay 0 0 0 [])=EZ n.ay from rfl,kQ hu me f (Mz hn.s hn.w)];simp only [wk,Nn]; rfl
theorem Uw{i:Int}(hi:fe i=true):xO .i64 0 (jF .i64 1 i)=jF .i64 1 i:=by
 have h:=cd hi;obtain ⟨n,rfl⟩:∃ n:Nat,i=n:=⟨i.toNat,by omega⟩;have hp:2 ^ n<=2 ^ 39:=zWz (by omega) (by omega);have e:=Ks (a:=1) (n:=n) (by omega) (by omega);have e2:jF .i64 1 (n:Int)=((1*2 ^ n:Nat):Int):=e;rw [e2];have:=IX (a:=0) (b:=1*2 ^ n) (by omega) (by omega)
 simpa using this
theorem LI{m:al}{x:bI}{i:Int}(h:(iA m x i).2=true):fe i=true:=by
 unfold iA at h
 split at h
 ·rename_i h1;simp only [sk,ef] at h1;exact h1.2.1.2
 ·cases h
def eC(n:aC)(me i:Int)(s:List bS×List ai)(x:bS):List bS×List ai :=
 if ef (n6 s.1 x.oK n.bB.bq) i then (nE s.1 x.oK (jF .i64 1 i),s.2++[vH n me x.oK i]) else s
def E2(n:aC)(me i:Int):List bS×List ai:=n.bi.foldl (eC n me i) (n.bi,[])
def ff(n:aC)(me i:Int):Act:=if (iA n.ay n.bB i).2 then ⟨jU n (E2 n me i).1,(E2 n me i).2⟩ else ⟨n,[]⟩
theorem Hp(n:aC)(me i:Int)(s:List bS×List ai)(x:bS):(eC n me i s x).1.length=s.1.length/\(eC n me i s x).2.length<=s.2.length+1:=by
 unfold eC
 split
 ·exact ⟨ER _ _ _,by simp⟩
 ·exact ⟨rfl,by omega⟩
theorem Ux(n:aC)(me i:Int):∀ (l:List bS) (s:List bS×List ai),(l.foldl (eC n me i) s).1.length=s.1.length/\(l.foldl (eC n me i) s).2.length<=s.2.length+l.length:=by
 intro l
 induction l with
 | nil=>intro s; exact ⟨rfl,by simp⟩
 | cons x l ih =>
  intro s;have h:=ih (eC n me i s x);have g:=Hp n me i s x;simp only [zYK,zQG];omega
theorem Qp{u:Nat}(hu:1099511627776<=u){n:aC}(hn:M.NodWf n)(me i:Int)(h:(iA n.ay n.bB i).2=true):∀ (l:List bS) (k j:Nat) (s:List bS×List ai),l=n.bi.drop j->l.length < k->s.1.length<=1048577->s.2.length<=j ->
  eM u k me i (iA n.ay n.bB i) (j:Int) n n s.1 s.2=some ⟨jU n (l.foldl (eC n me i) s).1,(l.foldl (eC n me i) s).2⟩:=by
 have w:=Dg n.ay hn.b i;have pl:=LI h;have hk:=hn.k;intro l
 induction l with
 | nil =>
  intro k j s hl hf h1 h2;obtain ⟨k,rfl⟩:∃ k',k=k'+1:=⟨k - 1,by simp at hf; omega⟩;have hj:n.bi.length<=j:=by
   have:=congrArg zYq hl; simp at this; omega
  have e:decide ((j:Int) < (n.bi.length:Int))=false:=by simp; omega
  simp only [eM,e,cond_false,lL,q6];rfl
 | cons x l ih =>
  intro k j s hl hf h1 h2;obtain ⟨k,rfl⟩:∃ k',k=k'+1:=⟨k - 1,by simp at hf; omega⟩;have hx:n.bi[j]?=some x:=by
   have:=congrArg zZQ hl
   simpa [zXj] using this.symm
  have hl2:l=n.bi.drop (j+1):=by
   have:=congrArg zZV hl
   simpa [zYX] using this
  have hj:=(List.getElem?_eq_some_iff.1 hx).1;have e:decide ((j:Int) < (n.bi.length:Int))=true:=by simp; omega
  have g:=Hp n me i s x;have r:=ih k (j+1) (eC n me i s x) hl2 (by simp at hf; omega) (by omega) (by omega);simp only [zYK,<- r];simp only [eM,e,cond_true,lL,h,q7,dc,hx,rE,wk,Bt hu h1,kD];rw [td (a:=j) (b:=1) (by omega) |> (λ(e:bd .i64 (j:Int) ((1:Nat):Int)=_)=>show bd .i64 (j:Int) 1=((j+1:Nat):Int) from e)]
  cases hs:ef (n6 s.1 x.oK n.bB.bq) i with
  | false =>
   simp only [cond_false,eC,hs,zWW,if_false]
  | true =>
   simp only [cond_true,u7 u _ _ w.2,wk,kQ hu _ _ (zS _ _ w.1 w.2),Qo (show s.2.length<=1048576 by omega),zg u (s:=0) rfl pl,Uw pl,zd hu h1];simp only [eC,hs,if_true];rfl
theorem Ir{u:Nat}(hu:1099511627776<=u){n:aC}(hn:M.NodWf n)(me i:Int):sI u n me i=some (ff n me i):=by
 unfold sI ff;simp only [fJ u hn,AB hu hn.s hn.b,wk];have hk:=hn.k
 cases h:(iA n.ay n.bB i).2 with
 | true =>
  have:=Qp hu hn me i h n.bi u 0 (n.bi,[]) rfl (by omega) hk (by simp);exact this
 | false =>
  obtain ⟨k,rfl⟩:∃ k,u=k+1:=⟨u - 1,by omega⟩;simp only [eM,lL,h,cond_false,q6]
  cases decide ((0:Int) < (n.bi.length:Int)) <;> simp
structure M.DB (d:am):Prop where
 a:aB d.fA
 b:aB d.fB
 p:∀ x∈d.fP,aB x.fB
theorem No{l:List Int}(h:aB l)(n:Nat):aB (l.take n):=λx hx=>h x (zWX hx)
theorem Np{d:am}(h:M.DB d)(n:Int):aB (iv d n):=by
 unfold iv; split
 ·exact h.a
 ·exact h.b
end Go.Tm.Pu
