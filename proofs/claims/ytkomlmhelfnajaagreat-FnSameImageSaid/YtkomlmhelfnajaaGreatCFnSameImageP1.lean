/- Plain laws of the functions. -/
import Derived.Test.YtkomlmhelfnajaaGreatCFnSameImageD
set_option linter.unusedVariables false
set_option linter.unusedSimpArgs false
open Bool renaming and_eq_true->sk,and_self->zWZ,and_true->zYX,eq_iff_iff->zXH,false_eq_true->zQk,false_or->zZj,not_false->zYh,not_true->zQV,true_and->zWX
open Int renaming add_mul->zVY,ediv_ediv_of_nonneg->zYg,emod_lt_of_pos->zVW,emod_nonneg->zVQ,eq_ofNat_of_zero_le->zQH,mul_comm->zVK,natCast_nonneg->zVX,pow_succ->zXh,tmod_eq_emod_of_nonneg->zXG,toNat->sY,toNat_natCast->rg
open List renaming any_cons->zZh,append_assoc->zQX,append_nil->zWW,cons_append->zXy,drop_eq_getElem_cons->zXq,drop_of_length_le->zYQ,filter_cons->zYw,getElem?_append_right->r0,getElem?_cons_zero->zQh,getElem?_drop->zQJ,getElem?_eq_getElem->sX,getElem?_eq_none->zXK,getElem?_map->zQz,getElem?_range->zZQ,getElem_mem->zYH,head?->zZk,head?_drop->zYK,length_append->zQG,length_cons->zQw,length_drop->zYZ,length_filter_le->zZJ,length_map->zWw,length_nil->zWv,length_replicate->zXz,length_set->zYV,length_singleton->zZK,length_take->zQx,map_append->zXJ,map_congr_left->zWg,map_cons->zWh,mem_append->zWk,mem_map->zXg,mem_of_mem_drop->zXj,mem_of_mem_take->zXQ,mem_singleton->zQy,nil_append->zWH,range->zXW,range'->zZY,range'_succ->zYq,range_eq_range'->zYk,replicate->zQZ,tail_drop->zYj,take_add_one->zZv,take_of_length_le->zWx
open Nat renaming add_zero->zXx,and_two_pow_sub_one_eq_mod->zZz,le_refl->zWJ,le_trans->zXw,lt_of_lt_of_le->zWV,min_eq_left->zWq,mul_le_mul_right->zQq,pow_le_pow_right->zWy,zero_add->zQg
open Option renaming bind_some->wk
open Go.IntKind renaming wrap->pa
open BitVec renaming ofInt->sa
open List renaming getElem?_eq_some_iff->sr
open List renaming mem_append->An
open List renaming all_eq_true->KB
open List renaming mem_cons->aaa
open BitVec renaming toNat_ofInt->aad
namespace Go.Tm.Pu
open Go.Tm
def ah(n a b:Int):Bool:=decide (a<=n) && decide (n<=b)
def cO(size n:Int):Bool:=ah size 2 6 && ah n 0 (40*size)
def bg(size n:Int):Int:=if cO size n then (n+size - 1) / size else 0
def bW(size n i:Int):Int×Int:=if ah i 0 (bg size n - 1) then (i*size,min size (n - i*size)) else (0,0)
theorem bI{n a b:Int}(h:ah n a b=true):a<=n/\n<=b:=by simpa [ah] using h
theorem Xz{n a b:Int}(h:ah n a b=false):n < a\/b < n:=by
 simp [ah] at h; omega
theorem bk(u:Nat)(n a b:Int):bq u n a b=some (ah n a b):=by
 unfold bq ah
 by_cases h:a<=n <;> simp [h]
theorem d1(u:Nat)(n a b:Int):dG u n a b=some (ah n a b):=by
 unfold dG ah
 by_cases h:a<=n <;> simp [h]
theorem pE(u:Nat)(s n:Int):mF u s n=some (cO s n):=by
 unfold mF cO;simp only [bk,wk]
 cases h:ah s 2 6 with
 | false=>simp
 | true =>
  have:=bI h;simp (disch:=omega) only [cond_true,zWX,kg]
theorem wo(u:Nat)(s n:Int):pO u s n=some (cO s n):=by
 unfold pO cO;simp only [d1,wk]
 cases h:ah s 2 6 with
 | false=>simp
 | true =>
  have:=bI h;simp (disch:=omega) only [cond_true,zWX,kg];rw [zVK]
theorem oE{s n:Int}(h:cO s n=true):2<=s/\s<=6/\0<=n/\n<=40*s:=by
 simp [cO,ah] at h; omega
def qR(a b:Int):Int:=if ah a 0 1000000000000 && ah b 1 1000000000000 then (a+b - 1) / b else 0
theorem C0(u:Nat)(a b:Int):rY u a b=some (qR a b):=by
 unfold rY qR ua;simp only [bk,wk]
 cases h:ah a 0 1000000000000 with
 | false=>simp
 | true =>
  cases h2:ah b 1 1000000000000 with
  | false=>simp
  | true =>
   have:=bI h;have:=bI h2;have hb:(b == 0)=false:=by simp; omega
   simp (disch:=omega) [fX,dC,dZ,M2,hb]
theorem LI(u:Nat)(a b:Int):vm u a b=some (qR a b):=by
 unfold vm qR tZ;simp only [d1,wk]
 cases h:ah a 0 1000000000000 with
 | false=>simp
 | true =>
  cases h2:ah b 1 1000000000000 with
  | false=>simp
  | true =>
   have:=bI h;have:=bI h2;have hb:(b == 0)=false:=by simp; omega
   simp (disch:=omega) [fX,dC,dZ,M2,hb]
theorem Kt{s n:Int}(h:cO s n=true):qR n s=(n+s - 1) / s:=by
 have:=oE h;have h1:ah n 0 1000000000000=true:=by simp [ah]; omega
 have h2:ah s 1 1000000000000=true:=by simp [ah]; omega
 simp [qR,h1,h2]
theorem pF(u:Nat)(s n:Int):mG u s n=some (bg s n):=by
 unfold mG bg;simp only [pE,C0,wk]
 cases h:cO s n with
 | false=>simp
 | true=>simp [Kt h]
theorem Ab(u:Nat)(s n:Int):rj u s n=some (bg s n):=by
 unfold rj bg;simp only [wo,LI,wk]
 cases h:cO s n with
 | false=>simp
 | true=>simp [Kt h]
theorem blocks_range(s n:Int):0<=bg s n/\bg s n<=40:=by
 unfold bg
 split
 ·rename_i h;have h:=oE h;refine ⟨Int.ediv_nonneg ak ak,?_⟩;have:(n+s - 1) / s < 41:=Int.ediv_lt_of_lt_mul ak ak;omega
 ·omega
theorem zy{s n i:Int}(h:ah i 0 (bg s n - 1)=true):cO s n=true/\0<=i/\i<=39:=by
 have h1:=bI h;have:=blocks_range s n;refine ⟨?_,by omega,by omega⟩
 cases h2:cO s n with
 | true=>rfl
 | false=>simp [bg,h2] at h1; omega
theorem BU{s i:Int}(h1:2<=s)(h2:s<=6)(h3:0<=i)(h4:i<=39):0<=i*s/\i*s<=234 :=
 ⟨Int.mul_nonneg h3 ak,Int.le_trans (Int.mul_le_mul h4 h2 ak ak) ak⟩
theorem nu(u:Nat)(s n i:Int):io u s n i=some (bW s n i):=by
 unfold io bW;have hb:=blocks_range s n;simp (disch:=omega) only [pF,bk,wk,dZ]
 cases h:ah i 0 (bg s n - 1) with
 | false=>simp
 | true =>
  have ⟨h1,h2,h3⟩:=zy h;have h1:=oE h1;have h4:=BU (s:=s) (i:=i) ak ak h2 h3;simp (disch:=omega) [kg,dZ];omega
theorem OQ(u:Nat)(a b:Int):zD u a b=some (min a b):=by
 unfold zD
 by_cases h:b < a <;> simp [h] <;> omega
theorem rL(u:Nat)(s n i:Int):kW u s n i=some (bW s n i):=by
 unfold kW bW;have hb:=blocks_range s n;simp (disch:=omega) only [Ab,d1,wk,dZ]
 cases h:ah i 0 (bg s n - 1) with
 | false=>simp
 | true =>
  have ⟨h1,h2,h3⟩:=zy h;have h1:=oE h1;have h4:=BU (s:=s) (i:=i) ak ak h2 h3;simp (disch:=omega) [kg,dZ,OQ]
def au(b:List Int):Prop:=∀ x∈b,0<=x/\x<=255
def sI:List Int->Int->Int->Int×Int
 | [],x,y=>(x,y)
 | c :: b,x,y=>sI b ((x+c) % 251) ((y+(x+c) % 251) % 251)
def cR(b:List Int):Int:=(sI b 0 0).1+251*(sI b 0 0).2
theorem DW(b:List Int):∀ (x y:Int),0<=x->x < 251->0<=y->y < 251->0<=(sI b x y).1/\(sI b x y).1 < 251/\0<=(sI b x y).2/\(sI b x y).2 < 251:=by
 induction b with
 | nil=>intro x y h1 h2 h3 h4; exact ⟨h1,h2,h3,h4⟩
 | cons c b ih =>
  intro x y h1 h2 h3 h4;exact ih _ _ ak ak ak ak
theorem H6(b:List Int):0<=cR b/\cR b<=63000:=by
 have:=DW b 0 0 ak ak ak ak;unfold cR; omega
theorem OR(u:Nat):∀ (p b:List Int) (i:Nat) (x y:Int),au b->0<=x->x < 251->0<=y->y < 251 ->
  cE (Bv u p) (wG u p) b i (x,y)=rk u (sI b x y).1 (sI b x y).2:=by
 intro p b
 induction b with
 | nil=>intros; rfl
 | cons c b ih =>
  intro i x y hb h1 h2 h3 h4;have hc:=hb c kU;have e1:pK .i64 (aV .i64 x (pa .i64 c)) 251=(x+c) % 251:=by
   rw [wrap_i64 ak ak,dC ak ak,zP ak]
  have e2:pK .i64 (aV .i64 y ((x+c) % 251)) 251=(y+(x+c) % 251) % 251:=by
   rw [dC ak ak,zP ak]
  simp only [cE,wG,e1,e2];exact ih (i+1) _ _ (λz hz=>hb z WP) ak ak ak ak
theorem OS(u:Nat):∀ (p b:List Int) (i:Nat) (x y:Int),au b->0<=x->x < 251->0<=y->y < 251 ->
  cE (Bz u p) (wL u p) b i (x,y)=rn u (sI b x y).1 (sI b x y).2:=by
 intro p b
 induction b with
 | nil=>intros; rfl
 | cons c b ih =>
  intro i x y hb h1 h2 h3 h4;have hc:=hb c kU;have e1:pK .i64 (aV .i64 x (pa .i64 c)) 251=(x+c) % 251:=by
   rw [wrap_i64 ak ak,dC ak ak,zP ak]
  have e2:pK .i64 (aV .i64 y ((x+c) % 251)) 251=(y+(x+c) % 251) % 251:=by
   rw [dC ak ak,zP ak]
  simp only [cE,wL,e1,e2];exact ih (i+1) _ _ (λz hz=>hb z WP) ak ak ak ak
theorem DX{u:Nat}(hu:1099511627776<=u){b:List Int}(hb:au b)(hl:b.length<=1073741824):uN u b=some (cR b):=by
 unfold uN;rw [IJ u b (0,0) u ak ak,OR u b b 0 0 0 hb ak ak ak ak];have:=DW b 0 0 ak ak ak ak;unfold rk cR;simp (disch:=omega) only [kg,dC]
theorem PL{n m:Int}(hm:0 < m):(n.tmod m+m).tmod m=n % m:=by
 rcases Int.le_total 0 n with h | h
 ·rw [zXG h,zXG (by have:=zVQ n (show m≠0 by omega); omega)];simp
 ·have h1:n.tmod m=-((-n) % m):=by
   rw [show n=-(-n) by omega,Int.neg_tmod,zXG ak]; simp
  have h2:=zVQ (-n) (show m≠0 by omega);have h3:=zVW (-n) hm;rw [h1,zXG ak];have:(-((-n) % m)+m) % m=n % m:=by
   have e:-n=m*(-n / m)+(-n) % m:=(Int.mul_ediv_add_emod (-n) m).symm;have e2:-((-n) % m)+m=n+m*(-n / m+1):=by
    rw [Int.mul_add]; omega
   rw [e2,Int.add_mul_emod_self_left]
  exact this
theorem NB{n m:Int}(hm:0 < m):-m < n.tmod m/\n.tmod m < m:=by
 rcases Int.le_total 0 n with h | h
 ·rw [zXG h];have h2:=zVQ n (show m≠0 by omega);have h3:=zVW n hm;omega
 ·have h1:n.tmod m=-((-n) % m):=by
   rw [show n=-(-n) by omega,Int.neg_tmod,zXG ak]; simp
  have h2:=zVQ (-n) (show m≠0 by omega);have h3:=zVW (-n) hm;omega
theorem QM(u:Nat)(n m:Int):zr u n m=some (if ah m 1 1000000000000 then n % m else 0):=by
 unfold zr;simp only [bk,wk]
 cases h:ah m 1 1000000000000 with
 | false=>simp
 | true =>
  have h3:=bI h;have hb:(m == 0)=false:=by simp; omega
  have h4:=NB (n:=n) (m:=m) ak;simp only [hb,zQV,cond_false,zYh,zQ,wk];have e1:pK .i64 n m=n.tmod m:=rfl;rw [e1,dC ak ak];show some ((n.tmod m+m).tmod m)=_;rw [PL ak]; simp
theorem QN(u:Nat)(x y:Int):By u x y=some (x % 251+251*(y % 251)):=by
 unfold By;have h:ah 251 1 1000000000000=true:=by decide
 simp only [QM,wk,h,if_true];simp (disch:=omega) only [kg,dC]
theorem Ac{u:Nat}(hu:1099511627776<=u){b:List Int}(hb:au b)(hl:b.length<=1073741824):pQ u b=some (cR b):=by
 unfold pQ;rw [IN u b (0,0) u ak ak,OS u b b 0 0 0 hb ak ak ak ak];have:=DW b 0 0 ak ak ak ak;unfold rn cR;simp only [QN,wk]
 congr 1
 omega
def lm:Nat->Int->List Int
 | 0,_=>[]
 | n+1,s=>lm n (s / 256)++[s % 256]
def qy:Nat->Int->Option (List Int)
 | 0,s=>if s=1 then some [] else none
 | n+1,s=>if s=1 then some [] else if s < 256 then none else (qy n (s / 256)).map (·++[s % 256])
def cy(s:Int):List Int×Bool:=if s < 1 then ([],false) else match qy 6 s with | some b=>(b,true) | none=>([],false)
def AZ:Nat->Int->Nat
 | 0,_=>0
 | k+1,t=>if 1 < t then AZ k (t / 256)+1 else 0
def ur:Nat->Int->Int
 | 0,t=>t
 | k+1,t=>if 1 < t then ur k (t / 256) else t
theorem XA:∀ (k:Nat) (t:Int),AZ k t<=k:=by
 intro k
 induction k with
 | zero=>intro t; simp [AZ]
 | succ k ih=>intro t; unfold AZ; have:=ih (t / 256); split <;> omega
theorem NC:∀ (k:Nat) (t:Int),ur k t=t / 256 ^ AZ k t:=by
 intro k
 induction k with
 | zero=>intro t; simp [ur,AZ]
 | succ k ih =>
  intro t;unfold ur AZ
  split
  ·rw [ih,zYg ak,zXh,zVK]
  ·simp
theorem JJ:∀ (k:Nat) (t:Int),0<=t->qy k t=if ur k t=1 then some (lm (AZ k t) t) else none:=by
 intro k
 induction k with
 | zero=>intro t h; simp [qy,ur,AZ,lm]
 | succ k ih =>
  intro t h;unfold qy ur AZ
  by_cases h1:t=1
  ·subst h1; simp [lm]
  ·rw [if_neg h1]
   by_cases h2:1 < t
   ·simp only [if_pos h2]
    by_cases h3:t < 256
    ·have:t / 256=0:=Int.ediv_eq_zero_of_lt h h3;rw [if_pos h3,this];have:ur k 0=0:=by rw [NC]; simp
     rw [this]; simp
    ·rw [if_neg h3,ih _ ak]
     split <;> simp [lm]
   ·have:t=0:=by omega
    subst this; simp
theorem XB:∀ (k:Nat) (t:Int),0<=t->t / 256 ^ k<=ur k t:=by
 intro k
 induction k with
 | zero=>intro t h; simp [ur]
 | succ k ih =>
  intro t h;unfold ur
  split
  ·have:=ih (t / 256) ak;rwa [zYg ak,zVK,<- zXh] at this
  ·exact Int.ediv_le_self _ h
theorem QO:∀ (n:Nat) (s:Int),au (lm n s):=by
 intro n
 induction n with
 | zero=>intro s x hx; simp [lm] at hx
 | succ n ih =>
  intro s x hx;simp only [lm,zWk,zQy] at hx;rcases hx with h | h
  ·exact ih _ x h
  ·omega
theorem OT:∀ (n:Nat) (s:Int),(lm n s).length=n:=by
 intro n
 induction n with
 | zero=>intro s; rfl
 | succ n ih=>intro s; simp [lm,ih]
theorem zh{s:Int}{b:List Int}(h:cy s=(b,true)):1<=s/\s / 256 ^ b.length=1/\b=lm b.length s/\b.length<=6:=by
 unfold cy at h
 split at h
 ·cases h
 ·rename_i h1;rw [JJ 6 s ak] at h;have he:=NC 6 s;have hn:=XA 6 s
  by_cases h2:ur 6 s=1
  ·simp only [h2,if_true,Prod.mk.injEq,and_true] at h;subst h;rw [OT];exact ⟨by omega,by rw [<- he]; exact h2,rfl,hn⟩
  ·simp [h2] at h
theorem Bl(s:Int):au (cy s).1/\(cy s).1.length<=6:=by
 match h:cy s with
 | (b,true) =>
  have h:=zh h;exact ⟨by rw [h.2.2.1]; exact QO _ _,h.2.2.2⟩
 | (b,false) =>
  have:b=[]:=by
   unfold cy at h
   split at h
   ·simp at h; exact h.symm ▸ rfl
   ·split at h <;> simp at h; exact h.symm ▸ rfl
  subst this;exact ⟨by simp [au],by simp⟩
theorem Y6(a:Int)(h:0<=a):pa .u8 (gl .i64 a 255)=a % 256:=by
 have:gl .i64 a 255=a % 256:=by
  unfold gl;have e:(sa (IntKind.bits .i64) a &&& sa (IntKind.bits .i64) 255).toNat=(a % 256).toNat:=by
   change (sa 64 a &&& sa 64 255).toNat=(a % 256).toNat
   rw [BitVec.toNat_and,aad,aad,show ((255:Int) % ((2 ^ 64:Nat):Int)).toNat=2 ^ 8 - 1 by decide,zZz];omega
  rw [e];exact (wrap_i64 ak ak).trans ak
 rw [this,ER]; omega
theorem Gx(u:Nat):∀ (k n:Nat) (s:Int) (acc:List Int),n < k->1<=s->s < 256 ^ n*2->acc.length+n<=1000 ->
  nL u k s acc=some (match qy n s with | some b=>(b++acc,true) | none=>([],false)):=by
 intro k
 induction k with
 | zero=>intro n s acc h; omega
 | succ k ih =>
  intro n s acc hk h1 h2 h3;unfold nL
  by_cases h4:s=1
  ·subst h4
   cases n <;> simp [qy,yg]
  ·have h5:s > 1:=by omega
   cases n with
   | zero=>simp at h2; omega
   | succ n =>
    simp only [h5,decide_true,cond_true,qy,if_neg h4]
    by_cases h6:s < 256
    ·simp [h6]
    ·have hw:([pa .u8 (gl .i64 s 255)])=[s % 256]:=by rw [Y6 _ ak]
     simp only [h6,decide_false,cond_false,if_false,qaR,hw];rw [b5 lv];simp only [wk];rw [ih n (s / 256) _ ak ak (by rw [zXh] at h2; omega) lv]
     cases qy n (s / 256) <;> simp
theorem Ku{s:Int}(h:562949953421311 < s):cy s=([],false):=by
 unfold cy;rw [if_neg ak,JJ 6 s ak];have:=XB 6 s ak;have e:(256:Int) ^ 6=281474976710656:=by decide
 rw [e] at this;rw [if_neg ak]
theorem LJ{u:Nat}(hu:1099511627776<=u)(s:Int):rQ u s=some (cy s):=by
 unfold rQ;simp only [d1,wk]
 cases h:ah s 1 562949953421311 with
 | false =>
  rcases Xz h with h | h
  ·simp [cy,h]
  ·rw [Ku h]; simp
 | true =>
  have h:=bI h;have e:(256:Int) ^ 6=281474976710656:=by decide
  simp only [zQV,cond_false];rw [Gx u u 6 s [] ak ak (by rw [e]; omega) kU];unfold cy;rw [if_neg ak]
  cases qy 6 s <;> simp
theorem Ud(s:Int)(j:Nat)(h:j<=8):ju .i64 s (8*(j:Int))=s / 256 ^ j:=by
 have:=Qw .i64 s (8*j) (by simp [IntKind.bits]; omega);rw [show ((8*j:Nat):Int)=8*(j:Int) by simp] at this;rw [this,show (256:Int)=2 ^ 8 by decide,<- Int.pow_mul]
theorem Wh{α ρ:Type}{fin:List α->Option ρ}{body:Nat->List α->(List α->Option ρ)->Option ρ}(f:Nat->α)(n:Nat)(hb:∀ i s k,i < n->s.length=n->body i s k=k (s.set i (f i))) :
  ∀ (m i:Nat) (s:List α),i+m=n->s.length=n->s.take i=(zXW i).map f->oU fin body m i s=fin ((zXW n).map f):=by
 intro m
 induction m with
 | zero =>
  intro i s h1 h2 h3;simp only [oU]
  congr 1
  rw [zWx ak] at h3;rw [h3,show i=n by omega]
 | succ m ih =>
  intro i s h1 h2 h3;simp only [oU];rw [hb i s _ ak h2];refine ih (i+1) _ ak (by simp [h2]) ?_;rw [zZv,List.take_set_of_le (zWJ i),h3,List.getElem?_set_self ak,List.range_succ,zXJ];rfl
theorem QP:∀ (n:Nat) (s:Int),lm n s=(zXW n).map λi=>s / 256 ^ (n - 1 - i) % 256:=by
 intro n
 induction n with
 | zero=>intro s; rfl
 | succ n ih =>
  intro s;rw [lm,ih,List.range_succ,zXJ]
  congr 1
  ·apply zWg
   intro i hi;have hi:i < n:=by simpa using hi
   rw [zYg ak,zVK,<- zXh,show (n - 1 - i).succ=n+1 - 1 - i by omega]
  ·simp
theorem Gy{u:Nat}(hu:1099511627776<=u)(s:Int)(n:Nat)(hn:n<=6):qo u s (n:Int)=some (if 1<=s/\s / 256 ^ n=1 then (lm n s,true) else ([],false)):=by
 unfold qo
 by_cases h1:s < 1
 ·have:¬ (1<=s):=by omega
  simp [h1,this,nP]
 ·rw [kg ak ak,Ud _ _ ak,b5 ak]
  by_cases h2:s / 256 ^ n=1
  ·have h3:(1:Int)<=s:=by omega
   simp only [h1,decide_false,cond_false,wk,h2,h3,true_and,if_true];unfold nP;rw [show ((1:Int) != 1)=false by decide];simp only [cond_false,beq_self_eq_true,Bool.or_true,zYX,rg];rw [b5 ak,b5 ak];simp only [wk];rw [Hb u s n _ u lv lv];simp only [zXz,rg];rw [Wh (λi=>s / 256 ^ (n - 1 - i) % 256) n _ n 0 _ ak kU kU,<- QP]
   ·rfl
   ·intro i t k hi ht;unfold AB;have e:gX .i64 (gX .i64 (n:Int) 1) (i:Int)=((n - 1 - i:Nat):Int):=by
     rw [dZ (a:=(n:Int)) ak ak,dZ ak ak]; omega
    rw [e,kg ak ak,Ud _ _ ak,b5 ak,ER,cU,sX ak];simp
  ·have:(s / 256 ^ n != 1)=true:=by simpa using h2
   simp only [h1,decide_false,cond_false,wk,this];simp [nP,h2]
theorem Gz{u:Nat}(hu:1099511627776<=u)(s:Int):∀ (m n k:Nat),n+m=6->m < k->iM u k s (n:Int)=qo u s ((n+AZ m (s / 256 ^ n):Nat):Int):=by
 intro m
 induction m with
 | zero =>
  intro n k h1 h2;obtain ⟨k,rfl⟩:∃ j,k=j+1:=⟨k - 1,by omega⟩;unfold iM;have:¬ ((n:Int) < 6):=by omega
  simp [this,qp,AZ]
 | succ m ih =>
  intro n k h1 h2;obtain ⟨k,rfl⟩:∃ j,k=j+1:=⟨k - 1,by omega⟩;unfold iM;have h3:(n:Int) < 6:=by omega
  rw [kg ak ak,Ud _ _ ak,b5 ak];simp only [h3,decide_true,cond_true,wk,qp,AZ]
  by_cases h4:s / 256 ^ n > 1
  ·have h4':1 < s / 256 ^ n:=h4;simp only [h4,decide_true,cond_true,h4',if_true];rw [fv ak,ih (n+1) k ak ak,zXh,<- zYg (Int.le_of_lt (Int.pow_pos ak))]
   congr 1
   omega
  ·have h4':¬ 1 < s / 256 ^ n:=h4;simp only [h4,decide_false,cond_false,h4',if_false];simp
theorem C3{u:Nat}(hu:1099511627776<=u)(s:Int):n9 u s=some (cy s):=by
 unfold n9;have:=Gz hu s 6 0 u ak ak;simp only [Int.natCast_zero,Int.pow_zero,Int.ediv_one,zQg] at this;rw [this,Gy hu s _ (XA 6 s)];unfold cy
 by_cases h:s < 1
 ·have:¬ (1<=s):=by omega
  simp [h,this]
 ·rw [if_neg h,JJ 6 s ak,NC];have:1<=s:=by omega
  by_cases h2:s / 256 ^ AZ 6 s=1 <;> simp [h2,this]
def jl:List Int->Int->Int
 | [],s=>s
 | c :: b,s=>jl b (256*s+c)
def dg(b:List Int):cS:=if 6 < b.length then ⟨0,0⟩ else ⟨cR b,jl b 1⟩
theorem Ss(a b:List Int):∀ s,jl (a++b) s=jl b (jl a s):=by
 induction a with
 | nil=>intro s; rfl
 | cons c a ih=>intro s; exact ih _
theorem Su:∀ (n:Nat) (s:Int),s / 256 ^ n=1->jl (lm n s) 1=s:=by
 intro n
 induction n with
 | zero=>intro s h; simpa [lm,jl] using h.symm
 | succ n ih =>
  intro s h;rw [lm,Ss,ih]
  ·simp only [jl]; omega
  ·rw [zYg ak,zVK,<- zXh]; exact h
theorem FE{s:Int}{b:List Int}(h:cy s=(b,true)):dg b=⟨cR b,s⟩:=by
 have ⟨h1,h2,h3,h4⟩:=zh h;unfold dg;have:=Su b.length s h2;rw [<- h3] at this;rw [if_neg ak,this]
theorem ND:∀ (b:List Int) (s:Int) (n:Nat),au b->0<=s->s < 256 ^ n*2->0<=jl b s/\jl b s < 256 ^ (n+b.length)*2:=by
 intro b
 induction b with
 | nil=>intro s n _ h1 h2; exact ⟨h1,h2⟩
 | cons c b ih =>
  intro s n hb h1 h2;have hc:=hb c kU;have:=ih (256*s+c) (n+1) (λz hz=>hb z WP) ak Yx;simp only [zQw,jl];rwa [show n+(b.length+1)=n+1+b.length by omega]
theorem QQ(u:Nat):∀ (p b:List Int) (i:Nat) (s:Int) (n:Nat),au b->0<=s->s < 256 ^ n*2->n+b.length<=6 ->
  cE (CL u p) (yf u p) b i s=tj u p (jl b s):=by
 intro p b
 induction b with
 | nil=>intros; rfl
 | cons c b ih =>
  intro i s n hb h1 h2 h3;have hc:=hb c kU;simp only [zQw] at h3;have hp:(256:Int) ^ n<=1099511627776:=by
   rcases (show n=0\/n=1\/n=2\/n=3\/n=4\/n=5 by omega) with rfl | rfl | rfl | rfl | rfl | rfl <;> decide
  simp only [cE,yf];rw [wrap_i64 ak ak,kg ak ak,dC ak ak];exact ih (i+1) _ (n+1) (λz hz=>hb z WP) ak Yx ak
theorem xq{u:Nat}(hu:1099511627776<=u){b:List Int}(hb:au b)(hl:b.length<=1073741824):lX u b=some (dg b):=by
 unfold lX dg
 by_cases h:6 < b.length
 ·have:(b.length:Int) > 6:=by omega
  simp [h,this]
 ·have:¬ ((b.length:Int) > 6):=by omega
  simp only [this,decide_false,cond_false,h,if_false];rw [KV u b 1 u ak ak,QQ u b b 0 1 0 hb ak Qh ak];unfold tj;rw [DX hu hb hl];rfl
def wq(size len:Int)(i:Nat)(s:cS):Bool:=(cy s.fS).2 && ((cy s.fS).1.length == (bW size len i).2) && (cR (cy s.fS).1 == s.fW)
def nV(size len:Int):List cS->Nat->Bool
 | [],_=>true
 | s :: l,i=>wq size len i s && nV size len l (i+1)
def dp(m:af):Bool :=
 if m.aM=0 then m.ar == 0 && m.aU == 0 && m.aG.length == 0
 else ah m.aM 1 1000000 && cO m.ar m.aU && ((m.aG.length:Int) == bg m.ar m.aU) && nV m.ar m.aU m.aG 0
theorem JK(a b:Int):(a != b)=!(a == b):=rfl
theorem QR{u:Nat}(hu:1099511627776<=u)(m:af):∀ (l:List cS) (i:Nat),cE (CO u m) (yn u m) l i ()=some (nV m.ar m.aU l i):=by
 intro l
 induction l with
 | nil=>intro i; rfl
 | cons s l ih =>
  intro i;have hb:=Bl s.fS;simp only [cE,yn,C3 hu,nu,wk,nV,wq,mH,ih,Ac hu hb.1 (show _<=_ by omega),JK]
  cases (cy s.fS).2 <;> cases (((cy s.fS).1.length:Int) == (bW m.ar m.aU ↑i).2) <;> cases (cR (cy s.fS).1 == s.fW) <;> simp
theorem QS{u:Nat}(hu:1099511627776<=u)(m:af):∀ (l:List cS) (i:Nat),l=m.aG.drop i->cE (CM u m) (yh u m) l i ()=some (nV m.ar m.aU l i):=by
 intro l
 induction l with
 | nil=>intro i _; rfl
 | cons s l ih =>
  intro i hd;have hb:=Bl s.fS;have hx:m.aG[i]?=some s:=by
   have:=congrArg zZk hd
   simpa [zYK] using this.symm
  have hl:l=m.aG.drop (i+1):=by
   have:=congrArg List.tail hd
   simpa [zYj] using this
  simp only [cE,yh,LJ hu,rL,wk,nV,wq,mE,ih (i+1) hl,xq hu hb.1 (show _<=_ by omega),JK,cU,hx]
  cases h:(cy s.fS).2 with
  | false=>simp
  | true =>
   have h2:=FE (s:=s.fS) (b:=(cy s.fS).1) (by rw [<- h]);rw [h2];have h3:(([cR (cy s.fS).1,s.fS]:List Int) == [s.fW,s.fS])=(cR (cy s.fS).1 == s.fW):=by simp
   simp only [h3]
   cases (((cy s.fS).1.length:Int) == (bW m.ar m.aU ↑i).2) <;> cases (cR (cy s.fS).1 == s.fW) <;> simp
theorem mN{u:Nat}(hu:1099511627776<=u)(m:af)(hl:m.aG.length<=1073741824):lZ u m=some (dp m):=by
 unfold lZ dp jx tr;simp only [bk,pE,pF,wk,JK,KZ u m () u ak ak,QR hu];have e0:(((m.aG.length:Int)) == 0)=(m.aG.length == 0):=by rw [zXH]; simp
 by_cases h:m.aM=0
 ·have:ah m.aM 1 1000000=false:=by rw [h]; rfl
  simp only [h,if_true,beq_self_eq_true,cond_true,e0] at this ⊢
  cases (m.ar == 0) <;> cases (m.aU == 0) <;> cases (m.aG.length == 0) <;> simp [this]
 ·have:(m.aM == 0)=false:=by simpa using h
  simp only [h,if_false,this,cond_false,wk]
  cases ah m.aM 1 1000000 <;> cases cO m.ar m.aU <;> cases ((m.aG.length:Int) == bg m.ar m.aU) <;> simp
theorem Bm{u:Nat}(hu:1099511627776<=u)(m:af)(hl:m.aG.length<=1073741824):uy u m=some (dp m):=by
 unfold uy dp tk;simp only [d1,wo,Ab,wk,JK,KW u m () u ak ak,QS hu m m.aG 0 kU];have e0:(((m.aG.length:Int)) == 0)=(m.aG.length == 0):=by rw [zXH]; simp
 by_cases h:m.aM=0
 ·simp only [h,if_true,beq_self_eq_true,cond_true,e0]
  cases (m.ar == 0) <;> cases (m.aU == 0) <;> cases (m.aG.length == 0) <;> simp
 ·have:(m.aM == 0)=false:=by simpa using h
  simp only [h,if_false,this,cond_false,wk]
  cases ah m.aM 1 1000000 <;> cases cO m.ar m.aU <;> cases ((m.aG.length:Int) == bg m.ar m.aU) <;> simp
def bz:Nat->Int->List Int
 | 0,n=>[n % 256]
 | k+1,n=>if n<=127 then [n % 256] else (n % 128+128) :: bz k (n / 128)
def aF(b:List Int)(n:Int):List Int:=if ah n 0 1000000000000 then b++bz 9 n else b
theorem qaU:∀ a:Nat,a < 256->(a ||| 128)=a % 128+128:=by decide +kernel
theorem qaa(a:Int)(h1:0<=a)(h2:a < 256):u9 .u8 a 128=a % 128+128:=by
 unfold u9;have e:(sa (IntKind.bits .u8) a ||| sa (IntKind.bits .u8) 128).toNat=(a % 128+128).toNat:=by
  change (sa 8 a ||| sa 8 128).toNat=_
  rw [BitVec.toNat_or,aad,aad,show ((128:Int) % ((2 ^ 8:Nat):Int)).toNat=128 by decide,qaU _ ak];omega
 rw [e,ER]; omega
theorem Y7(a:Int):gl .i64 a 127=a % 128:=by
 unfold gl;have e:(sa (IntKind.bits .i64) a &&& sa (IntKind.bits .i64) 127).toNat=(a % 128).toNat:=by
  change (sa 64 a &&& sa 64 127).toNat=(a % 128).toNat
  rw [BitVec.toNat_and,aad,aad,show ((127:Int) % ((2 ^ 64:Nat):Int)).toNat=2 ^ 7 - 1 by decide,zZz];omega
 rw [e];exact (wrap_i64 ak ak).trans ak
theorem GA:∀ (k:Nat) (n:Int),(bz k n).length<=k+1:=by
 intro k
 induction k with
 | zero=>intro n; simp [bz]
 | succ k ih =>
  intro n;unfold bz;have:=ih (n / 128)
  split <;> simp <;> omega
theorem PM:∀ (k:Nat) (n:Int),au (bz k n):=by
 intro k
 induction k with
 | zero=>intro n x hx; simp [bz] at hx; omega
 | succ k ih =>
  intro n x hx;unfold bz at hx
  split at hx
  ·simp at hx; omega
  ·rcases aaa.1 hx with h | h
   ·omega
   ·exact ih _ x h
theorem A0{a b:List Int}(h:au a)(k:au b):au (a++b):=by
 intro x hx;rcases An.1 hx with g | g
 ·exact h x g
 ·exact k x g
theorem DY(u:Nat):∀ (j k:Nat) (n:Int) (b:List Int),n < 128 ^ (j+1)->j < k->b.length+j<=1099511627776->jD u k b n=some (b++bz j n):=by
 intro j
 induction j with
 | zero =>
  intro k n b h1 h2 h3;obtain ⟨k,rfl⟩:∃ i,k=i+1:=⟨k - 1,by omega⟩;unfold jD;have:¬ (n>=128):=by simp at h1; omega
  simp only [this,decide_false,cond_false,qZ,bz,ER];rw [b5 lv]; rfl
 | succ j ih =>
  intro k n b h1 h2 h3;obtain ⟨k,rfl⟩:∃ i,k=i+1:=⟨k - 1,by omega⟩;unfold jD
  by_cases h:n>=128
  ·have h':¬ n<=127:=by omega
   simp only [h,decide_true,cond_true,bz,h',if_false,ER,qaQ];rw [b5 lv,qaa _ ak ak];simp only [wk];rw [ih k (n / 128) _ (by rw [zXh] at h1; omega) ak lv,show n % 256 % 128=n % 128 by omega];simp
  ·have h':n<=127:=by omega
   simp only [h,decide_false,cond_false,bz,h',if_true,qZ,ER];rw [b5 lv]; rfl
theorem qbv:(128:Int) ^ (9+1)=1180591620717411303424:=by decide
theorem A2{u:Nat}(hu:1099511627776<=u){b:List Int}{n:Int}(hl:b.length<=1073741824)(hn:n<=9223372036854775807):pn u b n=some (b++bz 9 n) :=
 DY u 9 u n b (by rw [qbv]; omega) ak ak
theorem fw(u:Nat){b:List Int}(hl:b.length<=1073741824):dR u b=some b:=by
 unfold dR;rw [b5 lv,b5 lv];simp [fX]
theorem eO{u:Nat}(hu:1099511627776<=u){b:List Int}{n:Int}(hl:b.length<=1073741824):fd u b n=some (aF b n):=by
 unfold fd aF;simp only [fw u hl,bk,wk]
 cases h:ah n 0 1000000000000 with
 | false=>simp
 | true=>have:=bI h; simp [A2 hu hl (show n<=9223372036854775807 by omega)]
theorem a9(b:List Int)(n:Int):(aF b n).length<=b.length+10:=by
 unfold aF;have:=GA 9 n
 split <;> simp <;> omega
def nW(b:List Int):List cS->List Int
 | []=>b
 | s :: l=>nW (b++bz 9 s.fS) l
def qz(b:List Int)(m:af):List Int:=if dp m then nW (aF (aF (aF b m.aM) m.ar) m.aU) m.aG else b
def xr(m:af):Prop:=∀ s∈m.aG,s.fS<=9223372036854775807
theorem w5{m:af}(h:dp m=true):m.aG.length<=40:=by
 unfold dp at h
 split at h
 ·simp only [sk,beq_iff_eq] at h;have:=h.2;omega
 ·have:=blocks_range m.ar m.aU;simp only [sk,beq_iff_eq] at h;omega
theorem OU{u:Nat}(hu:1099511627776<=u)(m:af):∀ (l:List cS) (i:Nat) (b:List Int),(∀ s∈l,s.fS<=9223372036854775807)->b.length+10*l.length<=1073741824 ->
  cE (BD u m) (wS u m) l i b=some (nW b l):=by
 intro l
 induction l with
 | nil=>intros; rfl
 | cons s l ih =>
  intro i b h1 h2;simp only [zQw] at h2;have h3:=GA 9 s.fS;simp only [cE,wS,A2 hu (show b.length<=1073741824 by omega) (h1 s kU),wk,nW];exact ih (i+1) _ (λz hz=>h1 z WP) lv
theorem NE{u:Nat}(hu:1099511627776<=u){b:List Int}{m:af}(hl:b.length<=536870912)(hm:m.aG.length<=1073741824)(hw:xr m):xJ u b m=some (qz b m):=by
 unfold xJ qz;have h1:=a9 b m.aM;have h2:=a9 (aF b m.aM) m.ar;have h3:=a9 (aF (aF b m.aM) m.ar) m.aU;rw [mN hu m hm]
 cases h:dp m with
 | false=>simp [fw u (show b.length<=1073741824 by omega)]
 | true =>
  have h4:=w5 h;simp only [wk,zQV,cond_false,if_true];rw [eO hu ak]; simp only [wk];rw [eO hu ak]; simp only [wk];rw [eO hu ak]; simp only [wk];rw [IV u m _ u ak ak,OU hu m _ _ _ hw ak]
theorem xt{a:Int}(h1:0<=a)(h2:a < 18446744073709551616):(sa 64 a).toNat=a.toNat:=by
 rw [aad]; omega
theorem A3{a b:Nat}(h1:a < 9223372036854775808)(h2:b < 9223372036854775808):u9 .i64 (a:Int) (b:Int)=((a ||| b:Nat):Int):=by
 unfold u9;have e:(sa (IntKind.bits .i64) (a:Int) ||| sa (IntKind.bits .i64) (b:Int)).toNat=a ||| b:=by
  change (sa 64 (a:Int) ||| sa 64 (b:Int)).toNat=_
  rw [BitVec.toNat_or,xt ak ak,xt ak ak]; rfl
 rw [e];have:a ||| b < 2 ^ 63:=Nat.or_lt_two_pow ak ak
 exact wrap_i64 ak ak
theorem Sv{a b:Nat}(h1:a < 9223372036854775808)(h2:b < 9223372036854775808):gl .i64 (a:Int) (b:Int)=((a &&& b:Nat):Int):=by
 unfold gl;have e:(sa (IntKind.bits .i64) (a:Int) &&& sa (IntKind.bits .i64) (b:Int)).toNat=a &&& b:=by
  change (sa 64 (a:Int) &&& sa 64 (b:Int)).toNat=_
  rw [BitVec.toNat_and,xt ak ak,xt ak ak]; rfl
 rw [e];have:a &&& b<=a:=Nat.and_le_left;exact wrap_i64 ak ak
theorem BV{i:Nat}(h:i<=62):jt .i64 1 (i:Int)=((2 ^ i:Nat):Int):=by
 unfold jt;rw [show min (sY (i:Int)) (IntKind.bits .i64)=i by simp [IntKind.bits]; omega];have h1:(2:Nat) ^ i<=2 ^ 62:=zWy ak h;have h2:(1:Int)*2 ^ i=((2 ^ i:Nat):Int):=by simp
 rw [h2];generalize (2:Nat) ^ i=p at h1;exact wrap_i64 ak ak
theorem Sw{a i:Nat}(h:i<=64):ju .i64 (a:Int) (i:Int)=((a / 2 ^ i:Nat):Int):=by
 rw [Qw .i64 _ i h]; simp
def o3:Nat->(Nat->Bool)->Nat
 | 0,_=>0
 | n+1,f=>o3 n f ||| (if f n then 2 ^ n else 0)
theorem OV(f:Nat->Bool):∀ (n i:Nat),(o3 n f).testBit i=(decide (i < n) && f i):=by
 intro n
 induction n with
 | zero=>intro i; simp [o3]
 | succ n ih =>
  intro i;rw [o3,Nat.testBit_or,ih]
  by_cases h:i=n
  ·subst h
   cases f i <;> simp [Nat.testBit_two_pow_self]
  ·have h1:(if f n=true then 2 ^ n else 0).testBit i=false:=by
    split
    ·exact Nat.testBit_two_pow_of_ne (Ne.symm h)
    ·simp
   rw [h1,Bool.or_false]
   congr 1
   rw [decide_eq_decide]; omega
theorem Sy(f:Nat->Bool)(n:Nat):o3 n f < 2 ^ n:=by
 induction n with
 | zero=>simp [o3]
 | succ n ih =>
  rw [o3];refine Nat.or_lt_two_pow (by rw [Nat.pow_succ]; omega) ?_;have:=Nat.pow_lt_pow_right (a:=2) ak (Nat.lt_succ_self n)
  split <;> omega
def bh(s:Int):Bool:=ah s 0 1099511627775
def gm(i:Int):Bool:=ah i 0 39
def dB(s i:Int):Bool:=bh s && gm i && s.toNat.testBit i.toNat
theorem jv(u:Nat)(s:Int):dS u s=some (bh s):=by simp [dS,bk,bh]
theorem FF(u:Nat)(s:Int):wJ u s=some (bh s):=by simp [wJ,d1,bh]
theorem C4(u:Nat)(s:Int):od u s=some (gm s):=by simp [od,bk,gm]
theorem XC{s i:Int}(hs:bh s=true)(hi:gm i=true):(gl .i64 (ju .i64 s i) 1 == 1)=s.toNat.testBit i.toNat:=by
 have h1:=bI hs;have h2:=bI hi;obtain ⟨a,rfl⟩:=zQH h1.1;obtain ⟨n,rfl⟩:=zQH h2.1;rw [Sw ak];have h3:a / 2 ^ n<=a:=Nat.div_le_self a _;rw [show (1:Int)=((1:Nat):Int) by rfl,Sv ak ak,Nat.and_one_is_mod];simp only [rg,Nat.testBit_eq_decide_div_mod_eq];generalize a / 2 ^ n=z;rw [zXH,beq_iff_eq,decide_eq_true_eq]; omega
theorem qS(u:Nat)(s i:Int):gz u s i=some (dB s i):=by
 unfold gz dB;simp only [jv,C4,wk]
 cases h1:bh s with
 | false=>simp
 | true =>
  cases h2:gm i with
  | false=>simp
  | true =>
   have h3:=bI h2;rw [b5 ak];simp [XC h1 h2]
theorem OW(u:Nat)(s i:Int):zG u s i=some (dB s i):=by
 unfold zG dB;simp only [FF,d1,wk]
 cases h1:bh s with
 | false=>simp
 | true =>
  change ((bif true then (bif gm i then _ else _) else _):Option Bool)=_
  cases h2:gm i with
  | false=>simp
  | true =>
   have h3:=bI h2;simp only [cond_true];rw [b5 ak];simp [XC h1 h2]
def gn(s:Int):List Int:=if bh s then ((zXW 40).filter λi=>s.toNat.testBit i).map Int.ofNat else []
theorem Sz{α ρ:Type}{fin:List α->Option ρ}{body:Nat->List α->(List α->Option ρ)->Option ρ}(f:Nat->Bool)(g:Nat->α)(n c:Nat)(hb:∀ i s k,i < n->s.length<=c+i->body i s k=k (if f i then s++[g i] else s)) :
  ∀ (m i:Nat) (s:List α),i+m=n->s.length<=c+i->oU fin body m i s=fin (s++(((zZY i m).filter f).map g)):=by
 intro m
 induction m with
 | zero=>intro i s h1 h2; simp [oU]
 | succ m ih =>
  intro i s h1 h2;simp only [oU];rw [hb i s _ ak h2]
  cases hf:f i with
  | true =>
   simp only [if_true];rw [ih (i+1) _ ak lv,zYq,zYw,hf];simp
  | false =>
   simp only [zQk,if_false];rw [ih (i+1) _ ak ak,zYq,zYw,hf];simp
theorem ut{u:Nat}(hu:1099511627776<=u)(s:Int):oh u s=some (gn s):=by
 unfold oh;rw [Hh u s [] u ak ak,Sz (λi=>dB s i) (λi=>(i:Int)) 40 0 _ (sY 40) 0 [] Qh kU]
 ·unfold AF uf gn;rw [show sY 40=40 by rfl,<- zYk]
  cases h:bh s with
  | false=>simp [dB,h]
  | true =>
   simp only [zWH,if_true]
   congr 2
   apply List.filter_congr
   intro i hi;have hi:i < 40:=by simpa using hi
   have:gm (i:Int)=true:=by simp [gm,ah]; omega
   simp [dB,h,this]
 ·intro i t k hi ht;unfold AG;rw [qS];simp only [wk]
  cases dB s i with
  | false=>simp [l6]
  | true =>
   simp only [cond_true,if_true];rw [b5 lv];simp [l6]
theorem XD{s c:Int}(h1:0<=s)(h2:s < 36028797018963968)(h3:0<=c)(h4:c<=255):u9 .i64 (jt .i64 s 8) c=256*s+c:=by
 obtain ⟨a,rfl⟩:=zQH h1;obtain ⟨b,rfl⟩:=zQH h3;have e:jt .i64 (a:Int) 8=((a*256:Nat):Int):=by
  unfold jt;rw [show min (sY (8:Int)) (IntKind.bits .i64)=8 by rfl];rw [wrap_i64 ak ak]; omega
 rw [e,A3 ak ak];have h5:=Nat.shiftLeft_add_eq_or_of_lt (b:=b) (i:=8) ak a;rw [Nat.shiftLeft_eq,show (2:Nat) ^ 8=256 from rfl] at h5;rw [<- h5]; omega
theorem QT(u:Nat):∀ (p b:List Int) (i:Nat) (s:Int) (n:Nat),au b->0<=s->s < 256 ^ n*2->n+b.length<=6 ->
  cE (CN u p) (yk u p) b i s=tq u p (jl b s):=by
 intro p b
 induction b with
 | nil=>intros; rfl
 | cons c b ih =>
  intro i s n hb h1 h2 h3;have hc:=hb c kU;simp only [zQw] at h3;have hp:(256:Int) ^ n<=1099511627776:=by
   rcases (show n=0\/n=1\/n=2\/n=3\/n=4\/n=5 by omega) with rfl | rfl | rfl | rfl | rfl | rfl <;> decide
  simp only [cE,yk];rw [wrap_i64 ak ak,XD ak ak ak ak];exact ih (i+1) _ (n+1) (λz hz=>hb z WP) ak Yx ak
theorem tT{u:Nat}(hu:1099511627776<=u){b:List Int}(hb:au b)(hl:b.length<=1073741824):lY u b=some (dg b):=by
 unfold lY dg
 by_cases h:6 < b.length
 ·have:(b.length:Int) > 6:=by omega
  simp [h,this]
 ·have:¬ ((b.length:Int) > 6):=by omega
  simp only [this,decide_false,cond_false,h,if_false];rw [KY u b 1 u ak ak,QT u b b 0 1 0 hb ak Qh ak];unfold tq;rw [Ac hu hb hl];rfl
def M.win(b:List Int)(i n:Nat):List Int:=(b.take (i+n)).drop i
theorem NF(b:List Int)(i n:Nat):M.win b i n=(b.drop i).take n:=by
 unfold M.win; rw [List.drop_take]; congr 1; omega
theorem lp{b:List Int}(h:au b)(i n:Nat):au (M.win b i n):=λx hx=>h x (zXQ (zXj hx))
theorem qg{b:List Int}{i n:Nat}(h:i+n<=b.length):(M.win b i n).length=n:=by
 unfold M.win; rw [zYZ,zQx]; omega
theorem win_le(b:List Int)(i n:Nat):(M.win b i n).length<=n:=by
 unfold M.win; rw [zYZ,zQx]; omega
theorem mO{a b n:Nat}(h1:a<=b)(h2:b<=n):fX (er (a:Int) (b:Int) (n:Int))=some ():=by
 have:er (a:Int) (b:Int) (n:Int)=true:=by simp [er]; omega
 rw [this]; rfl
theorem qA{a b:Nat}(h:a+b<=9223372036854775807):aV .i64 (a:Int) (b:Int)=((a+b:Nat):Int):=by
 rw [dC ak ak]; omega
theorem FG(u:Nat){b:List Int}{i n:Nat}(h:i+n<=b.length)(hl:b.length<=1073741824):pW u b i n=some (M.win b i n,true):=by
 unfold pW qK;have h1:ah (i:Int) 0 (b.length:Int)=true:=by simp [ah]; omega
 have h2:ah (n:Int) 0 ((b.length:Int) - (i:Int))=true:=by simp [ah]; omega
 simp only [bk,h1,wk,dZ (a:=(b.length:Int)) (b:=(i:Int)) ak ak,h2,zQV,cond_false];rw [qA ak,mO ak h];simp only [wk,rg];rw [fw u lv];rfl
def dJ(b:List Int)(size i:Int):List Int×Bool :=
 let s:=bW size b.length i
 if s.2=0 then ([],false) else (M.win b s.1.toNat s.2.toNat,true)
theorem qh{size n i:Int}(hn:0<=n):0<=(bW size n i).1/\0<=(bW size n i).2/\(bW size n i).2<=6/\(bW size n i).1+(bW size n i).2<=n:=by
 unfold bW
 split
 ·rename_i h;have ⟨h1,h2,h3⟩:=zy h;have h4:=oE h1;have h5:=(bI h).2;unfold bg at h5;rw [if_pos h1] at h5;have h6:=BU h4.1 h4.2.1 h2 h3;have h7:i*size<=n:=by
   have h8:i+1<=(n+size - 1) / size:=by omega
   have h9:(i+1)*size<=n+size - 1:=(Int.le_ediv_iff_mul_le ak).1 h8;rw [zVY] at h9;omega
  dsimp only;omega
 ·dsimp only; omega
theorem qT{b:List Int}(hb:au b)(size i:Int):au (dJ b size i).1/\(dJ b size i).1.length<=6:=by
 have h:=qh (size:=size) (n:=b.length) (i:=i) ak;unfold dJ;dsimp only
 split
 ·exact ⟨by simp [au],by simp⟩
 ·refine ⟨lp hb _ _,?_⟩;have:=win_le b (bW size b.length i).1.toNat (bW size b.length i).2.toNat;dsimp only;omega
theorem C5(u:Nat){b:List Int}(hl:b.length<=1073741824)(size i:Int):n8 u b size i=some (dJ b size i):=by
 have h:=qh (size:=size) (n:=b.length) (i:=i) ak;unfold n8 dJ;simp only [nu,wk];generalize bW size b.length i=s at h;obtain ⟨a,n⟩:=s;dsimp only at h ⊢
 by_cases h0:n=0
 ·simp [h0]
 ·have:(n == 0)=false:=by simpa using h0
  obtain ⟨x,rfl⟩:=zQH h.1;obtain ⟨y,rfl⟩:=zQH h.2.1;simp only [this,cond_false,h0,if_false];rw [FG u ak hl];rfl
theorem LK(u:Nat){b:List Int}(hl:b.length<=1073741824)(size i:Int):n6 u b size i=some (dJ b size i):=by
 have h:=qh (size:=size) (n:=b.length) (i:=i) ak;unfold n6 dJ;simp only [rL,wk];generalize bW size b.length i=s at h;obtain ⟨a,n⟩:=s;dsimp only at h ⊢
 by_cases h0:n=0
 ·simp [h0]
 ·have:(n == 0)=false:=by simpa using h0
  obtain ⟨x,rfl⟩:=zQH h.1;obtain ⟨y,rfl⟩:=zQH h.2.1;simp only [this,cond_false,h0,if_false];rw [qA ak,mO ak ak];simp only [wk,rg];rw [b5 lv];rfl
def iI(b:List Int)(size:Int):List cS:=(zXW (bg size b.length).toNat).map λ(i:Nat)=>dg (dJ b size i).1
theorem Kv{α ρ:Type}{fin:List α->Option ρ}{body:Nat->List α->(List α->Option ρ)->Option ρ}(g:Nat->α)(n:Nat)(hb:∀ i s k,i < n->s.length=i->body i s k=k (s++[g i])) :
  oU fin body n 0 []=fin ((zXW n).map g):=by
 have:∀ (m i:Nat) (s:List α),i+m=n->s.length=i->oU fin body m i s=fin (s++(zZY i m).map g):=by
  intro m
  induction m with
  | zero=>intro i s h1 h2; simp [oU]
  | succ m ih =>
   intro i s h1 h2;simp only [oU];rw [hb i s _ ak h2,ih (i+1) _ ak (by simp [h2]),zYq];simp
 rw [this n 0 [] ak rfl,<- zYk];simp
theorem DZ{u:Nat}(hu:1099511627776<=u){b:List Int}(hb:au b)(hl:b.length<=1073741824)(size:Int):uP u b size=some (iI b size):=by
 unfold uP;have hr:=blocks_range size b.length;rw [pF];simp only [wk];rw [IQ u b size _ [] u ak ak,Kv (λi=>dg (dJ b size i).1)]
 ·rfl
 ·intro i s k hi hs;unfold BA;have h:=qT hb size (i:Int);rw [C5 u hl];simp only [wk];rw [tT hu h.1 ak];simp only [wk];rw [b5 lv];rfl
theorem D0{u:Nat}(hu:1099511627776<=u){b:List Int}(hb:au b)(hl:b.length<=1073741824)(size:Int):pP u b size=some (iI b size):=by
 unfold pP;have hr:=blocks_range size b.length;rw [pA (n:=bg size b.length) (fin:=vn u) (body:=λi (s:List cS) k=>(n6 u b size (i:Int)).bind λr8=>(lX u r8.1).bind λr9=>(fX (decide ((s.length+([r9]).length)*16<=140737488355328))).bind λ_=>k (s++[r9]))
  (λk (s:List cS) i=>kX u k b size s i) ak (λk s i=>by rw [kX,Ab]; rfl) [] ak,Kv (λi=>dg (dJ b size i).1)]
 ·rfl
 ·intro i s k hi hs;have h:=qT hb size (i:Int);rw [LK u hl];simp only [wk];rw [xq hu h.1 ak];simp only [wk];rw [b5 lv];rfl
def eX(gen:Int)(b:List Int)(size:Int):af:=if ah gen 1 1000000 && cO size b.length then ⟨gen,size,b.length,iI b size⟩ else ⟨0,0,0,[]⟩
theorem FH{u:Nat}(hu:1099511627776<=u){b:List Int}(hb:au b)(hl:b.length<=1073741824)(gen size:Int):uB u gen b size=some (eX gen b size):=by
 unfold uB xi eX;simp only [bk,pE,wk,DZ hu hb hl]
 cases ah gen 1 1000000 <;> cases cO size b.length <;> simp
theorem OX{u:Nat}(hu:1099511627776<=u){b:List Int}(hb:au b)(hl:b.length<=1073741824)(gen size:Int):zE u gen b size=some (eX gen b size):=by
 unfold zE xg eX;simp only [d1,wo,wk,D0 hu hb hl]
 cases ah gen 1 1000000 <;> cases cO size b.length <;> simp
def GB:List Int->Int
 | []=>0
 | c :: b=>c+GB b
def LL:List Int->Int
 | []=>0
 | c :: b=>((b.length:Int)+1)*c+LL b
theorem Wi:∀ (b:List Int) (x y:Int),sI b x y=match b with | []=>(x,y) | _=>((x+GB b) % 251,(y+b.length*x+LL b) % 251):=by
 intro b
 induction b with
 | nil=>intro x y; rfl
 | cons c b ih =>
  intro x y;simp only [sI];rw [ih]
  cases b with
  | nil=>simp [GB,LL,Int.add_assoc]
  | cons d b =>
   simp only [GB,LL,zQw];refine Prod.ext ?_ ?_
   ·dsimp only; omega
   ·dsimp only;have e:((b.length:Int)+1)*((x+c) % 251) % 251=((b.length:Int)+1)*(x+c) % 251:=by rw [Int.mul_emod,Int.emod_emod_of_dvd _ (Int.dvd_refl 251),<- Int.mul_emod]
    have e1:((b.length:Int)+1)*(x+c)=((b.length:Int)+1)*x+((b.length:Int)+1)*c:=Int.mul_add _ _ _;have e2:((b.length:Int)+1+1)*x=((b.length:Int)+1)*x+x:=by rw [zVY]; omega
    have e3:((b.length:Int)+1+1)*c=((b.length:Int)+1)*c+c:=by rw [zVY]; omega
    push_cast
    rw [e2,e3];rw [e1] at e;generalize ((b.length:Int)+1)*((x+c) % 251)=p at *;generalize ((b.length:Int)+1)*x=q at *;generalize ((b.length:Int)+1)*c=r at *;generalize ((b.length:Int)+1)*d=t at *;omega
theorem NG{b:List Int}:cR b=GB b % 251+251*(LL b % 251):=by
 unfold cR;rw [Wi]
 cases b with
 | nil=>simp [GB,LL]
 | cons c b=>dsimp only; simp
theorem qab(b:List Int)(d:Int):GB (b++[d])=GB b+d:=by
 induction b with
 | nil=>simp [GB]
 | cons c b ih=>simp only [zXy,GB,ih]; omega
theorem qac(b:List Int)(d:Int):LL (b++[d])=LL b+GB b+d:=by
 induction b with
 | nil=>simp [GB,LL]
 | cons c b ih =>
  simp only [zXy,GB,LL,ih,zQG,zZK]
  push_cast
  rw [zVY ((b.length:Int)+1) 1 c];omega
theorem QU(u:Nat)(n m:Int):wI u n m=some (if ah m 1 1000000000000 then n % m else 0):=by
 unfold wI;simp only [d1,wk]
 cases h:ah m 1 1000000000000 with
 | false=>simp
 | true =>
  have h3:=bI h;have hb:(m == 0)=false:=by simp; omega
  have h4:=NB (n:=n) (m:=m) ak;simp only [hb,zQV,cond_false,zYh,zQ,wk];have e1:pK .i64 n m=n.tmod m:=rfl;rw [e1,dC ak ak];show some ((n.tmod m+m).tmod m)=_;rw [PL ak]; simp
theorem H7(u:Nat)(w:Int):zp u w=some (ah w 0 63000):=by simp [zp,d1]
theorem GC(u:Nat){w:Int}(h:ah w 0 63000=true):qn u w=some (w % 251,w / 251):=by
 unfold qn;have:=bI h;rw [H7,h];simp (disch:=omega) [zP,M2]
theorem QV(u:Nat){c d:Int}{m:List Int}(hc:0<=c/\c<=255)(hd:0<=d/\d<=255)(hm:m.length<=5):zq u (cR (c :: m)) ((m.length:Int)+1) c d=some (cR (m++[d])):=by
 unfold zq rS;have h0:=H6 (c :: m);have h1:ah (cR (c :: m)) 0 63000=true:=by simp [ah]; omega
 have h2:ah ((m.length:Int)+1) 1 1000000000000=true:=by simp [ah]; omega
 have h3:ah c 0 255=true:=by simp [ah]; omega
 have h4:ah d 0 255=true:=by simp [ah]; omega
 have h5:ah 251 1 1000000000000=true:=by decide
 have h6:((m.length:Int)+1)*c<=6*255:=Int.mul_le_mul ak ak ak ak;have h7:0<=((m.length:Int)+1)*c:=Int.mul_nonneg ak ak;simp only [H7,d1,h1,h2,h3,h4,wk,zQV,cond_false,GC u h1,QU,h5,if_true];rw [zP ak,Int.emod_eq_of_lt (a:=(m.length:Int)+1) ak ak];have e:=NG (b:=c :: m);have e2:=NG (b:=m++[d]);rw [e2,qab,qac];simp only [GB,LL] at e;rw [kg (a:=(m.length:Int)+1) (b:=c) ak ak];generalize cR (c :: m)=w at *;generalize ((m.length:Int)+1)*c=q at *;generalize GB m=sx at *;generalize LL m=sy at *;rw [dZ (a:=w / 251) ak ak,dZ (a:=w % 251) ak ak,dC (a:=w % 251 - c) ak ak];rw [dC (a:=(w / 251 - q) % 251) ak ak];rw [kg ak ak,dC ak ak]
 congr 1
 omega
theorem XE{b:List Int}{i n:Nat}{c:Int}(hc:b[i]?=some c):M.win b i (n+1)=c :: M.win b (i+1) n:=by
 rw [NF,NF];obtain ⟨h,rfl⟩:=sr.1 hc;rw [zXq h,List.take_succ_cons]
theorem XF{b:List Int}{i n:Nat}{d:Int}(hd:b[i+n]?=some d):M.win b i (n+1)=M.win b i n++[d]:=by
 rw [NF,NF,zZv]
 congr 1
 rw [zQJ,hd]; rfl
def sJ(b:List Int)(n:Nat):List Int:=if n<=b.length then (zXW (b.length+1 - n)).map λi=>cR (M.win b i n) else []
theorem GD(u:Nat){b:List Int}(hb:au b)(hl:b.length<=1073741824){n:Nat}(h1:1<=n)(h2:n<=6):∀ (m k j:Nat),n+j+m=b.length->m < k ->
  iL u k b n ((zXW (j+1)).map λi=>cR (M.win b i n)) (cR (M.win b j n)) ((n+j:Nat):Int)=some ((zXW (j+1+m)).map λi=>cR (M.win b i n)):=by
 intro m
 induction m with
 | zero =>
  intro k j h3 h4;obtain ⟨k,rfl⟩:∃ i,k=i+1:=⟨k - 1,by omega⟩;unfold iL;have:¬ (((n+j:Nat):Int) < (b.length:Int)):=by omega
  simp only [this,decide_false,cond_false,t6,zXx]
 | succ m ih =>
  intro k j h3 h4;obtain ⟨k,rfl⟩:∃ i,k=i+1:=⟨k - 1,by omega⟩;unfold iL;have h5:((n+j:Nat):Int) < (b.length:Int):=by omega
  have e:gX .i64 ((n+j:Nat):Int) (n:Int)=(j:Int):=by rw [dZ ak ak]; omega
  simp only [h5,decide_true,cond_true,e,cU];have hc:=sX (l:=b) (i:=j) ak;have hd:=sX (l:=b) (i:=n+j) ak;rw [hc,hd];simp only [wk];have hcb:=hb _ (zYH (l:=b) (n:=j) ak);have hdb:=hb _ (zYH (l:=b) (n:=n+j) ak);rw [wrap_i64 (n:=b[j]) ak ak,wrap_i64 (n:=b[n+j]) ak ak];obtain ⟨n,rfl⟩:∃ i,n=i+1:=⟨n - 1,by omega⟩;have e1:=XE (n:=n) hc;have e2:M.win b (j+1) (n+1)=M.win b (j+1) n++[b[n+1+j]]:=XF (by rw [show j+1+n=n+1+j by omega]; exact hd);have hw:(M.win b (j+1) n).length=n:=qg ak;have hroll:=QV u (c:=b[j]) (d:=b[n+1+j]) (m:=M.win b (j+1) n) hcb hdb ak;rw [hw,<- e1,<- e2] at hroll;rw [show ((n+1:Nat):Int)=(n:Int)+1 by omega,hroll];simp only [wk];rw [b5 lv];simp only [wk];rw [show (List.map (λi=>cR (M.win b i (n+1))) (zXW (j+1))++[cR (M.win b (j+1) (n+1))])=(zXW (j+1+1)).map λi=>cR (M.win b i (n+1)) by rw [List.range_succ (n:=j+1),zXJ]; rfl];rw [fv ak];have:=ih k (j+1) ak ak;rw [show ((n+1:Nat):Int)=(n:Int)+1 by omega] at this;rw [show n+1+j+1=n+1+(j+1) by omega,this,show j+1+1+m=j+1+(m+1) by omega]
theorem LM{u:Nat}(hu:1099511627776<=u){b:List Int}(hb:au b)(hl:b.length<=1073741824){n:Nat}(h1:1<=n)(h2:n<=6):vo u b n=some (sJ b n):=by
 unfold vo t7 sJ;have h3:¬ ((n:Int) < 1):=by omega
 simp only [h3,decide_false,cond_false]
 by_cases h4:n<=b.length
 ·have h5:¬ ((n:Int) > (b.length:Int)):=by omega
  simp only [h5,decide_false,cond_false,h4,if_true];rw [show (0:Int)=((0:Nat):Int) by rfl,mO ak h4];simp only [wk,rg];have e:List.drop 0 (List.take n b)=M.win b 0 n:=by simp [M.win]
  rw [e,DX hu (lp hb _ _) (by have:=win_le b 0 n; omega)];simp only [wk];rw [b5 kU];have:=GD u hb hl h1 h2 (b.length - n) u 0 ak ak;simp only [zXx,zQg] at this;rw [show (zXW 1).map (λi=>cR (M.win b i n))=[cR (M.win b 0 n)] by rfl] at this;simp only [wk,zWH];rw [this,show 1+(b.length - n)=b.length+1 - n by omega]
 ·have h5:((n:Int) > (b.length:Int)):=by omega
  simp [h5,h4]
def gC(b:List Int)(s:cS)(n:Nat):Nat->Nat->Int
 | 0,_=>-1
 | c+1,i=>if dg (M.win b i n)=s then i else gC b s n c (i+1)
def qU(b:List Int)(s:cS)(n:Int):Int:=if ah n 1 6 then gC b s n.toNat (b.length+1 - n.toNat) 0 else -1
theorem NH(b:List Int)(s:cS)(n:Nat):∀ c i,-1<=gC b s n c i/\gC b s n c i < i+c:=by
 intro c
 induction c with
 | zero=>intro i; simp [gC]; omega
 | succ c ih =>
  intro i;unfold gC;have:=ih (i+1)
  split <;> omega
theorem CA(x y:cS):(([x.fW,x.fS]:List Int) == [y.fW,y.fS])=decide (x=y):=by
 obtain ⟨a,b⟩:=x;obtain ⟨c,d⟩:=y;rw [zXH]; simp
theorem GE{u:Nat}(hu:1099511627776<=u){b:List Int}(hb:au b)(hl:b.length<=1073741824)(s:cS){n:Nat}(h1:1<=n)(h2:n<=6):∀ (c k i:Nat),i+c=b.length+1 - n\/(c=0/\b.length+1 - n<=i)->i<=1073741824->c < k ->
  l0 u k b n i s=some (gC b s n c i):=by
 intro c
 induction c with
 | zero =>
  intro k i h3 hi h4;obtain ⟨k,rfl⟩:∃ i,k=i+1:=⟨k - 1,by omega⟩;unfold l0;rw [qA ak];have:¬ (((i+n:Nat):Int)<=(b.length:Int)):=by omega
  simp only [this,decide_false,cond_false,yo,gC]
 | succ c ih =>
  intro k i h3 hi h4;obtain ⟨k,rfl⟩:∃ i,k=i+1:=⟨k - 1,by omega⟩;unfold l0;rw [qA ak];have h5:(((i+n:Nat):Int)<=(b.length:Int)):=by omega
  simp only [h5,decide_true,cond_true,rg];rw [mO ak ak];simp only [wk]
  change ((lY u (M.win b i n)).bind _)=_
  rw [tT hu (lp hb _ _) ZV];simp only [wk,CA,gC]
  by_cases h6:dg (M.win b i n)=s
  ·simp [h6]
  ·simp only [h6,decide_false,cond_false,if_false];rw [fv ak];exact ih k (i+1) ak ak ak
theorem LN{u:Nat}(hu:1099511627776<=u){b:List Int}(hb:au b)(hl:b.length<=1073741823)(s:cS)(n:Int):vz u b s n=some (qU b s n):=by
 unfold vz qU;rw [bk];simp only [wk]
 cases h:ah n 1 6 with
 | false=>simp
 | true =>
  have h:=bI h;obtain ⟨n,rfl⟩:=zQH (show 0<=n by omega);simp only [zQV,cond_false,if_true,rg];exact GE hu hb ak s ak ak (b.length+1 - n) u 0 ak ak ak
theorem Ue{b:List Int}(h:b.length<=6):(dg b).fW=cR b:=by
 unfold dg; rw [if_neg ak]
theorem GF{u:Nat}(hu:1099511627776<=u){b:List Int}(hb:au b)(hl:b.length<=1073741823)(s:cS){n:Nat}(h1:1<=n)(h2:n<=6):∀ (c k i:Nat),i+c=b.length+1 - n->c < k ->
  f0 u k b n (sJ b n) i s=some (gC b s n c i):=by
 have hlen:(sJ b n).length=b.length+1 - n:=by
  unfold sJ
  split
  ·simp
  ·simp; omega
 intro c
 induction c with
 | zero =>
  intro k i h3 h4;obtain ⟨k,rfl⟩:∃ i,k=i+1:=⟨k - 1,by omega⟩;unfold f0;have:¬ ((i:Int) < ((sJ b n).length:Int)):=by omega
  simp only [this,decide_false,cond_false,t8,gC]
 | succ c ih =>
  intro k i h3 h4;obtain ⟨k,rfl⟩:∃ i,k=i+1:=⟨k - 1,by omega⟩;unfold f0;have h5:((i:Int) < ((sJ b n).length:Int)):=by omega
  have hx:(sJ b n)[i]?=some (cR (M.win b i n)):=by
   unfold sJ;rw [if_pos ak,zQz,zZQ ak]; rfl
  simp only [h5,decide_true,cond_true,cU,hx,wk];rw [qA ak,mO ak ak];simp only [wk,rg]
  change (bif _ then ((lX u (M.win b i n)).bind _) else _)=_
  rw [xq hu (lp hb _ _) ZV];simp only [wk,CA,gC,nM,cond_false,fv (show i < 9223372036854775807 by omega),ih k (i+1) ak ak]
  by_cases h6:dg (M.win b i n)=s
  ·have h7:cR (M.win b i n)=s.fW:=by rw [<- h6,Ue ZV]
   simp [h6,h7]
  ·cases cR (M.win b i n) == s.fW <;> simp [h6]
theorem LO{u:Nat}(hu:1099511627776<=u){b:List Int}(hb:au b)(hl:b.length<=1073741823)(s:cS)(n:Int):vp u b s n=some (qU b s n):=by
 unfold vp qU;rw [d1];simp only [wk]
 cases h:ah n 1 6 with
 | false=>simp
 | true =>
  have h:=bI h;obtain ⟨n,rfl⟩:=zQH (show 0<=n by omega);simp only [zQV,cond_false,if_true,rg];rw [LM hu hb ak ak ak];exact GF hu hb ak s ak ak (b.length+1 - n) u 0 ak ak
def dK(b:List Int)(m:af)(i:Nat):Int:=match m.aG[i]? with
 | some s=>qU b s (bW m.ar m.aU i).2
 | none=>-1
theorem C6{u:Nat}(hu:1099511627776<=u){b:List Int}(hb:au b)(hl:b.length<=1073741823){m:af}(hm:m.aG.length<=1073741824)(i:Nat):oa u b m i=some (dK b m i):=by
 unfold oa dK;rw [nu];simp only [wk];rw [dZ ak ak,bk]
 by_cases h:i < m.aG.length
 ·have h1:ah (i:Int) 0 ((m.aG.length:Int) - 1)=true:=by simp [ah]; omega
  simp only [h1,wk,zQV,cond_false,cU,sX h,LN hu hb hl]
 ·have h1:ah (i:Int) 0 ((m.aG.length:Int) - 1)=false:=by simp [ah]; omega
  simp only [h1,wk,zYh,cond_true,zXK (show m.aG.length<=i by omega)]
theorem LP{u:Nat}(hu:1099511627776<=u){b:List Int}(hb:au b)(hl:b.length<=1073741823){m:af}(hm:m.aG.length<=1073741824)(i:Nat):rT u b m i=some (dK b m i):=by
 unfold rT t9 dK;rw [rL];simp only [wk,LO hu hb hl,cU]
 by_cases h:i < m.aG.length
 ·have h1:¬ ((i:Int)>=(m.aG.length:Int)):=by omega
  simp only [sX h,wk,h1,decide_false,cond_false,cond_true]
  by_cases h2:(bW m.ar m.aU i).2=0
  ·have:qU b m.aG[i] 0=-1:=by simp [qU,ah]
   simp [h2,this]
  ·have:((bW m.ar m.aU i).2 == 0)=false:=by simpa using h2
   simp [this]
 ·have h1:((i:Int)>=(m.aG.length:Int)):=by omega
  simp only [zXK (show m.aG.length<=i by omega),h1,decide_true,cond_true]
  cases ((bW m.ar m.aU i).2 == 0) <;> simp
def NI(b:List Int)(m:af)(i:Nat):Bool:=decide (0<=dK b m i)
def ws(b:List Int)(m:af)(x:Bool):Nat:=o3 (min m.aG.length 40) (λi=>NI b m i == x)
theorem XG{ρ:Type}{fin:Int->Option ρ}{body:Nat->Int->(Int->Option ρ)->Option ρ}(f:Nat->Bool)(n:Nat)(hb:∀ i k,i < n->body i (o3 i f:Nat) k=k (o3 (i+1) f:Nat)) :
  oU fin body n 0 0=fin (o3 n f:Nat):=by
 have:∀ (m i:Nat),i+m=n->oU fin body m i (o3 i f:Nat)=fin (o3 n f:Nat):=by
  intro m
  induction m with
  | zero=>intro i h; simp only [oU]; rw [show i=n by omega]
  | succ m ih =>
   intro i h;simp only [oU];rw [hb i _ ak];exact ih (i+1) ak
 exact this n 0 ak
theorem Uf{f:Nat->Bool}{i:Nat}(h:i<=39):u9 .i64 (o3 i f:Nat) (jt .i64 1 (i:Int))=((o3 i f ||| 2 ^ i:Nat):Int):=by
 rw [BV ak];have h1:=Sy f i;have h2:(2:Nat) ^ i<=2 ^ 39:=zWy ak h;generalize (2:Nat) ^ i=p at *;exact A3 ak ak
theorem NJ{u:Nat}(hu:1099511627776<=u){b:List Int}(hb:au b)(hl:b.length<=1073741823){m:af}(hm:m.aG.length<=1073741824)(x:Bool):xQ u b m x=some ((ws b m x:Nat):Int):=by
 unfold xQ;have e:(if ((m.aG.length:Int)) < 40 then ((m.aG.length:Int)) else 40)=((min m.aG.length 40:Nat):Int):=by split <;> omega
 rw [I3 u b x m 0 u (by rw [e]; omega) (by rw [e]; omega),e,rg,XG (λi=>NI b m i == x)]
 ·rfl
 ·intro i k hi;unfold BH;rw [C6 hu hb hl hm];simp only [wk,o3];have e2:decide (dK b m i>=0)=NI b m i:=rfl;rw [e2,b5 ak,Uf ak]
  by_cases h:(NI b m i == x)=true
  ·simp only [h,cond_true,wk,nh,if_true]
  ·simp only [h,Bool.not_eq_true] at h ⊢;simp only [h,cond_false,nh,zQk,if_false,Nat.or_zero]
theorem LQ{u:Nat}(hu:1099511627776<=u){b:List Int}(hb:au b)(hl:b.length<=1073741823){m:af}(hm:m.aG.length<=1073741824):vW u b m=some ((ws b m false:Nat):Int):=by
 unfold vW;rw [NJ hu hb hl hm]; rfl
theorem QW(b:List Int)(m:af)(x:Bool):ws b m x < 1099511627776:=by
 have h1:=Sy (λi=>NI b m i == x) (min m.aG.length 40);have h2:(2:Nat) ^ (min m.aG.length 40)<=2 ^ 40:=zWy ak ak;exact zWV h1 h2
theorem PN{s:Nat}(h:s < 1099511627776):bh (s:Int)=true:=by simp [bh,ah]; omega
def M.lenOf(m:af):List Int->Int
 | []=>0
 | i :: l=>(bW m.ar m.aU i).2+M.lenOf m l
def jI(b:List Int)(m:af):Int:=M.lenOf m (gn (ws b m false:Nat))
theorem NK(size n i:Int):-1000<=(bW size n i).2/\(bW size n i).2<=6:=by
 unfold bW
 split
 ·rename_i h;have ⟨h1,h2,h3⟩:=zy h;have h4:=oE h1;have h6:=BU h4.1 h4.2.1 h2 h3;dsimp only; omega
 ·dsimp only; omega
theorem Ad(s:Int):(gn s).length<=40:=by
 unfold gn
 split
 ·rw [zWw];have:=zZJ (λi=>s.toNat.testBit i) (zXW 40)
  simpa using this
 ·simp
theorem SA(m:af):∀ l:List Int,-1000*l.length<=M.lenOf m l/\M.lenOf m l<=6*l.length:=by
 intro l
 induction l with
 | nil=>simp [M.lenOf]
 | cons i l ih =>
  have:=NK m.ar m.aU i;simp only [M.lenOf,zQw];omega
theorem Fl(u:Nat)(r:List Int)(m:af):∀ (l:List Int) (i:Nat) (a:Int),l.length<=1000->-100000000+1000*l.length<=a->a<=100000000 - 6*l.length->cE (qa u r m) (qb u r m) l i a=some (a+M.lenOf m l):=by
 intro l
 induction l with
 | nil=>intro i a _ _ _; simp [cE,qa,oz,M.lenOf]
 | cons j l ih =>
  intro i a h0 h1 h2;have:=NK m.ar m.aU j;simp only [zQw] at h0 h1 h2;simp only [cE,qb,nu,wk,M.lenOf];rw [dC ak ak,ih (i+1) _ ak ak ak,Int.add_assoc]
theorem D1{u:Nat}(hu:1099511627776<=u){b:List Int}(hb:au b)(hl:b.length<=1073741823){m:af}(hm:m.aG.length<=1073741824):oA u b m=some (jI b m):=by
 unfold oA;rw [LQ hu hb hl hm];simp only [wk,ut hu];have h:=Ad (ws b m false:Nat);rw [Ce u _ m 0 u ak ak,Fl u _ m _ 0 0 ak ak ak];simp [jI]
theorem GG(b:List Int)(m:af):-40000<=jI b m/\jI b m<=240:=by
 have h:=Ad (ws b m false:Nat);have:=SA m (gn (ws b m false:Nat));unfold jI; omega
theorem JL(gen:Int)(b:List Int)(size:Int):(eX gen b size).aG.length<=40:=by
 unfold eX
 split
 ·have:=blocks_range size b.length;simp [iI]; omega
 ·simp
theorem XH(gen:Int)(b:List Int)(size:Int)(hb:au b):xr (eX gen b size):=by
 unfold eX xr
 split
 ·intro s hs;simp only [iI,zXg] at hs;obtain ⟨i,_,rfl⟩:=hs;have h:=qT hb size (i:Int);unfold dg;rw [if_neg ak];have:=ND (dJ b size i).1 1 0 h.1 ak Qh;have h6:(256:Int) ^ (0+(dJ b size i).1.length)<=281474976710656:=by
   have h7:=h.2;generalize (dJ b size i).1.length=n at h7;rcases (show n=0\/n=1\/n=2\/n=3\/n=4\/n=5\/n=6 by omega) with rfl | rfl | rfl | rfl | rfl | rfl | rfl <;> decide
  dsimp only;omega
 ·intro s hs; simp at hs
theorem D2:∀ (l:List cS) (b:List Int),(nW b l).length<=b.length+10*l.length:=by
 intro l
 induction l with
 | nil=>intro b; simp [nW]
 | cons s l ih =>
  intro b;have h1:=ih (b++bz 9 s.fS);have h2:=GA 9 s.fS;simp only [nW,zQw,zQG] at h1 ⊢;omega
def XI(old:List aL):Prop:=∀ x∈old,au x.fB/\x.fB.length<=1048576
theorem PO(b:Bool):(bif b then some true else some false)=some b:=by cases b <;> rfl
def Ae{α:Type}(f:α->α->Bool):List α->List α->Bool
 | x :: xs,y :: ys=>f x y && Ae f xs ys
 | _,_=>true
def M.same{α:Type}(f:α->α->Bool)(xs ys:List α):Bool:=(xs.length == ys.length) && Ae f xs ys
theorem NL{α:Type}{fin:Unit->Option Bool}{body:α->Nat->Unit->(Unit->Option Bool)->Option Bool}(f:α->α->Bool){xs ys:List α}(h:xs.length=ys.length)(hb:∀ x y i k,xs[i]?=some x->ys[i]?=some y->body x i () k=bif f x y then k () else some false) :
  cE fin body xs 0 ()=bif Ae f xs ys then fin () else some false:=by
 have:∀ (l m:List α) (i:Nat),l=xs.drop i->m=ys.drop i->cE fin body l i ()=bif Ae f l m then fin () else some false:=by
  intro l
  induction l with
  | nil=>intro m i _ _; simp [cE,Ae]
  | cons x l ih =>
   intro m i h1 h2;have hlt:i < xs.length:=by have:=congrArg List.length h1; simp at this; omega
   cases m with
   | nil=>have:=congrArg List.length h2; simp at this; omega
   | cons y m =>
    have hx:xs[i]?=some x:=by have:=congrArg zZk h1; simpa [zYK] using this.symm
    have hy:ys[i]?=some y:=by have:=congrArg zZk h2; simpa [zYK] using this.symm
    have hl:l=xs.drop (i+1):=by have:=congrArg List.tail h1; simpa [zYj] using this
    have hm:m=ys.drop (i+1):=by have:=congrArg List.tail h2; simpa [zYj] using this
    simp only [cE,Ae];rw [hb x y i _ hx hy,ih m (i+1) hl hm]
    cases f x y <;> simp
 exact this xs ys 0 kU kU
def uY(a b:List Int):Bool:=(strOfNums a).toList == (strOfNums b).toList
theorem wt(u:Nat)(a b:List Int):rt u a b=some (uY a b):=rfl
theorem Ug(x y:gy):(([x.aM,x.dj,x.aU]:List Int) == [y.aM,y.dj,y.aU])=decide (x=y):=by
 obtain ⟨a0,a1,a2⟩:=x;obtain ⟨b0,b1,b2⟩:=y;rw [zXH]; simp
theorem mP{u:Nat}(hu:1099511627776<=u){a b:List cS}(ha:a.length<=1048576):dW u a b=some (M.same (λx y=>decide (x=y)) a b):=by
 unfold dW M.same
 by_cases h:a.length=b.length
 ·have h1:((a.length:Int) != (b.length:Int))=false:=by simp [h]
  simp only [h1,cond_false];rw [se u a b () u ak ak,NL (λx y=>decide (x=y)) h (λx y i k hx hy=>by unfold lB; rw [cU,hy]; simp only [wk,CA]; cases decide (x=y) <;> rfl)];simp only [h,beq_self_eq_true,zWX];exact PO _
 ·have h1:((a.length:Int) != (b.length:Int))=true:=by simp; omega
  have h2:(a.length == b.length)=false:=by simpa using h
  simp [h1,h2]
theorem GH{u:Nat}(hu:1099511627776<=u){a b:List cS}(ha:a.length<=1048576):qm u a b=some (M.same (λx y=>decide (x=y)) a b):=by
 unfold qm M.same
 by_cases h:a.length=b.length
 ·have h1:((a.length:Int) != (b.length:Int))=false:=by simp [h]
  simp only [h1,cond_false];rw [Dq u a b () u ak ak,NL (λx y=>decide (x=y)) h (λx y i k hx hy=>by unfold xA; rw [cU,hy]; simp only [wk,CA]; cases decide (x=y) <;> rfl)];simp only [h,beq_self_eq_true,zWX];exact PO _
 ·have h1:((a.length:Int) != (b.length:Int))=true:=by simp; omega
  have h2:(a.length == b.length)=false:=by simpa using h
  simp [h1,h2]
def lL(a b:af):Bool:=(a.aM == b.aM) && (a.ar == b.ar) && (a.aU == b.aU) && M.same (λx y=>decide (x=y)) a.aG b.aG
theorem C7{u:Nat}(hu:1099511627776<=u){a b:af}(ha:a.aG.length<=1048576):pZ u a b=some (lL a b):=by
 unfold pZ lL;rw [mP hu ha]
 cases a.aM == b.aM <;> cases a.ar == b.ar <;> cases a.aU == b.aU <;> simp
def PP(l:List aD):Prop:=∀ x∈l,x.aB.aG.length<=1048576/\x.aX.length<=1048576
theorem QX(a b:Nat):((a:Int) == (b:Int))=(a == b):=by rw [zXH,beq_iff_eq,beq_iff_eq]; omega
def eH{α:Type}(f:α->Bool):List α->Nat->Int
 | [],_=>-1
 | x :: l,i=>if f x then i else eH f l (i+1)
theorem lq{α:Type}{fin:Unit->Option Int}{body:α->Nat->Unit->(Unit->Option Int)->Option Int}(f:α->Bool){xs:List α}(hf:fin ()=some (-1))(hb:∀ x i k,x∈xs->body x i () k=bif f x then some (i:Int) else k ()) :
  cE fin body xs 0 ()=some (eH f xs 0):=by
 have:∀ (l:List α) (i:Nat),(∀ y∈l,y∈xs)->cE fin body l i ()=some (eH f l i):=by
  intro l
  induction l with
  | nil=>intro i _; exact hf
  | cons x l ih =>
   intro i h;simp only [cE,eH];rw [hb x i _ (h x kU),ih (i+1) (λy hy=>h y (by simp [hy]))]
   cases f x <;> simp
 exact this xs 0 (λ_ h=>h)
theorem pT{α:Type}(f:α->Bool):∀ (l:List α) (i:Nat),decide (eH f l i>=0)=l.any f:=by
 intro l
 induction l with
 | nil=>intro i; rfl
 | cons x l ih =>
  intro i;rw [zZh,<- ih (i+1),zXH];simp only [decide_eq_true_eq,Bool.or_eq_true]
  by_cases h:f x=true
  ·simp [eH,h]
  ·simp [eH,h]
def jJ(r:gy):Bool:=ah r.aM 0 1000000 && ah r.dj 0 1 && ah r.aU 0 240
theorem Af(u:Nat)(n:Int):rr u n=some (ah n 0 1):=by
 unfold rr ah
 by_cases h0:n=0
 ·subst h0; rfl
 ·by_cases h1:n=1
  ·subst h1; rfl
  ·have e0:(n == 0)=false:=by simpa using h0
   have e1:(n == 1)=false:=by simpa using h1
   simp only [e0,e1,cond_false]
   by_cases h:0<=n
   ·have:¬ n<=1:=by omega
    simp [this]
   ·simp [h]
theorem BW(u:Nat)(r:gy):qO u r=some (jJ r):=by
 unfold qO pX jJ;simp only [bk,Af,wk]
 cases ah r.aM 0 1000000 <;> cases ah r.dj 0 1 <;> rfl
def ja(d:aA)(n:Int):List Int:=if n=0 then d.fA else d.fB
theorem CB(u:Nat)(d:aA)(n:Int):gA u d n=some (ja d n):=by
 unfold gA ja
 by_cases h:n=0
 ·simp [h]
 ·have:(n == 0)=false:=by simpa using h
  simp [h,this]
def mC(p:ej):Bool:=if p.j3=2 then (p.KU == 0) && (p.fB.length == 0) && jJ p.fR else ah p.j3 0 1 && decide (p.fR=⟨0,0,0⟩) && ah p.KU 0 (240 - p.fB.length)
theorem SB(x:gy):(([x.aM,x.dj,x.aU]:List Int) == [0,0,0])=decide (x=⟨0,0,0⟩):=Ug x ⟨0,0,0⟩
theorem OY(u:Nat){p:ej}(h:p.fB.length<=1048576):zK u p=some (mC p):=by
 unfold zK mC;rw [dZ ak ak];simp only [BW,Af,bk,wk,SB];have e:((p.fB.length:Int) == 0)=(p.fB.length == 0):=QX _ 0
 by_cases h2:p.j3=2
 ·simp only [h2,beq_self_eq_true,cond_true,if_true,e]
  cases p.KU == 0 <;> cases p.fB.length == 0 <;> rfl
 ·have:(p.j3 == 2)=false:=by simpa using h2
  simp only [this,cond_false,h2,if_false]
  cases ah p.j3 0 1 <;> cases decide (p.fR=⟨0,0,0⟩) <;> rfl
def c7(d:aA):Bool:=decide (d.fA.length<=240) && decide (d.fB.length<=240) && jJ d.fR && decide (d.fR.aU<=(ja d d.fR.dj).length) && decide (d.fP.length<=200) && d.fP.all mC
structure M.DOk (d:aA):Prop where
 a:d.fA.length<=1048576
 b:d.fB.length<=1048576
 p:d.fP.length<=1048576
 puts:∀ x∈d.fP,x.fB.length<=1048576
theorem LR{u:Nat}(hu:1099511627776<=u){l:List ej}(hl:l.length<=1048576)(hp:∀ x∈l,x.fB.length<=1048576):ci u l=some (l.any λx=>!mC x):=by
 unfold ci c9;rw [k8 u l () u ak ak,lq (λx=>!mC x) rfl (λx i k hx=>by unfold fK tx; rw [OY u (hp x hx)]; rfl)];simp only [wk,pT]
theorem D3{α:Type}(f:α->Bool)(l:List α):(!(l.any λx=>!f x))=l.all f:=by
 induction l with
 | nil=>rfl
 | cons x l ih=>simp only [zZh,List.all_cons,Bool.not_or,Bool.not_not,ih]
theorem qad(a b:Int):decide (a > b)=!decide (a<=b):=by
 by_cases h:a<=b
 ·have:¬ a > b:=by omega
  simp [h,this]
 ·have:a > b:=by omega
  simp [h,this]
theorem Uh(a b:Nat):decide ((a:Int)<=(b:Int))=decide (a<=b):=by rw [decide_eq_decide]; omega
theorem rM{u:Nat}(hu:1099511627776<=u){d:aA}(hd:M.DOk d):k9 u d=some (c7 d):=by
 unfold k9 pg c7;simp only [BW,CB,LR hu hd.p hd.puts,wk,D3,qad];have e1:decide ((d.fA.length:Int)<=240)=decide (d.fA.length<=240):=Uh _ 240;have e2:decide ((d.fB.length:Int)<=240)=decide (d.fB.length<=240):=Uh _ 240;have e3:decide ((d.fP.length:Int)<=200)=decide (d.fP.length<=200):=Uh _ 200;rw [e1,e2,e3]
 cases decide (d.fA.length<=240) <;> cases decide (d.fB.length<=240) <;> cases jJ d.fR <;> cases decide (d.fR.aU<=(ja d d.fR.dj).length) <;> cases decide (d.fP.length<=200) <;> rfl
theorem FI{r:gy}(h:jJ r=true):ah r.dj 0 1=true/\0<=r.aU/\r.aU<=240:=by
 unfold jJ at h;simp only [sk] at h;exact ⟨h.1.2,(bI h.2).1,(bI h.2).2⟩
def eI(d:aA):Int×List Int:=if c7 d then (d.fR.aM,(ja d d.fR.dj).take d.fR.aU.toNat) else (0,[])
theorem CC{d:aA}(h:c7 d=true):jJ d.fR=true/\d.fR.aU<=(ja d d.fR.dj).length/\d.fA.length<=240/\d.fB.length<=240/\d.fP.length<=200:=by
 unfold c7 at h;simp only [sk,decide_eq_true_eq] at h;obtain ⟨⟨⟨⟨⟨h1,h2⟩,h3⟩,h4⟩,h5⟩,h6⟩:=h;exact ⟨h3,h4,h1,h2,h5⟩
theorem PQ{d:aA}(h:c7 d=true)(n:Int):(ja d n).length<=240:=by
 have:=CC h;unfold ja; split <;> omega
theorem yD{u:Nat}(hu:1099511627776<=u){d:aA}(hd:M.DOk d):p5 u d=some (eI d):=by
 unfold p5 eI;rw [rM hu hd,CB];simp only [wk]
 cases h:c7 d with
 | false=>rfl
 | true =>
  have h1:=CC h;have h2:=FI h1.1;have h3:=PQ h d.fR.dj;obtain ⟨n,hn⟩:=zQH h2.2.1;simp only [zQV,cond_false,if_true];rw [hn] at h1 ⊢;rw [show (0:Int)=((0:Nat):Int) by rfl,mO ak ak];simp only [wk,rg,List.drop_zero];rw [fw u lv]; rfl
def M.holds(d:aA)(gen:Int)(b:List Int):Bool:=((eI d).1 == gen) && uY (eI d).2 b
theorem Bn{u:Nat}(hu:1099511627776<=u){d:aA}(hd:M.DOk d)(gen:Int)(b:List Int):p6 u d gen b=some (M.holds d gen b):=by
 unfold p6 M.holds;rw [yD hu hd];simp only [wk,wt]
 cases (eI d).1 == gen <;> rfl
def pG(w:World)(k:Int):Int:=if ah k 0 ((w.fD.length:Int) - 1) && ah k 0 ((w.ct.length:Int) - 1) then
  match w.fD[k.toNat]?,w.ct[k.toNat]? with
  | some d,some x=>if M.holds d 0 x.fB then 0 else if M.holds d 1 w.cG then 1 else -1
  | _,_=>-1
 else -1
structure M.DsOk (w:World):Prop where
 d:w.fD.length<=1048576
 old:w.ct.length<=1048576
 ok:∀ x∈w.fD,M.DOk x
theorem LS{u:Nat}(hu:1099511627776<=u){w:World}(hw:M.DsOk w)(k:Int):vU u w k=some (pG w k):=by
 unfold vU uk pG;have h1:=hw.d;have h2:=hw.old;rw [dZ ak ak,dZ ak ak,bk,bk];simp only [wk]
 cases h:ah k 0 ((w.fD.length:Int) - 1) with
 | false=>rfl
 | true =>
  cases h':ah k 0 ((w.ct.length:Int) - 1) with
  | false=>rfl
  | true =>
   have h:=bI h;have h':=bI h';obtain ⟨n,rfl⟩:=zQH h.1;have e1:=sX (l:=w.fD) (i:=n) ak;have e2:=sX (l:=w.ct) (i:=n) ak;have hd:=hw.ok _ (zYH (l:=w.fD) (n:=n) ak);simp only [zQV,cond_false,cU,e1,e2,wk,Bn hu hd,zWZ,if_true,rg]
   cases M.holds w.fD[n] 0 w.ct[n].fB <;> cases M.holds w.fD[n] 1 w.cG <;> rfl
structure M.StOk (w:World):Prop where
 ds:M.DsOk w
 n:w.fN.length<=1048576
def sK:List Kid->Int->Int
 | [],a=>a
 | k :: l,a=>sK l (if bh k.bR then u9 .i64 a k.bR else a)
theorem OZ(u:Nat)(r:List Kid):∀ (l:List Kid) (i:Nat) (a:Int),cE (oj u r) (jC u r) l i a=some (sK l a):=by
 intro l
 induction l with
 | nil=>intro i a; rfl
 | cons k l ih =>
  intro i a;simp only [cE,jC,en,tD,jv,wk,sK,ih]
  cases bh k.bR <;> simp
theorem D4{u:Nat}(hu:1099511627776<=u){l:List Kid}(hl:l.length<=1048576):uR u l=some (sK l 0):=by
 unfold uR ji;rw [vJ u l 0 u ak ak,OZ]; rfl
def qi(w:World):List Int:=match w.fN with
 | []=>[]
 | n :: _=>gn (sK n.aX 0)
theorem JM{u:Nat}(hu:1099511627776<=u){w:World}(hw:PP w.fN):tJ u w=some (qi w):=by
 unfold tJ qi
 cases h:w.fN with
 | nil=>rfl
 | cons n l =>
  have hk:=(hw n (by rw [h]; simp)).2;have e:((((n :: l:List aD)).length:Int) == 0)=false:=by simp; omega
  rw [show (0:Int)=((0:Nat):Int) by rfl,cU];rw [show ((0:Nat):Int)=0 by rfl,e];simp only [cond_false,zQh,wk,D4 hu hk,ut hu]
theorem LT(w:World):(qi w).length<=40:=by
 unfold qi
 split
 ·simp
 ·exact Ad _
structure M.NdOk (w:World):Prop where
 new:au w.cG
 newL:w.cG.length<=1048576
 old:w.ct.length<=1048576
 oldB:XI w.ct
def sL(w:World):af:=eX 1 w.cG w.fC.ar
theorem FJ{u:Nat}(hu:1099511627776<=u){w:World}(hw:M.NdOk w):wN u w=some (sL w):=by
 unfold wN;have:=hw.newL;rw [FH hu hw.new ak]; rfl
def wu(w:World)(k:Int):Int:=if ah k 0 ((w.ct.length:Int) - 1) then match w.ct[k.toNat]? with | some x=>jI x.fB (sL w) | none=>0 else 0
theorem NM{u:Nat}(hu:1099511627776<=u){w:World}(hw:M.NdOk w)(k:Int):uS u w k=some (wu w k):=by
 unfold uS wu;have h1:=hw.old;have h2:=JL 1 w.cG w.fC.ar;rw [dZ ak ak,bk];simp only [wk]
 cases h:ah k 0 ((w.ct.length:Int) - 1) with
 | false=>rfl
 | true =>
  have h:=bI h;obtain ⟨n,rfl⟩:=zQH h.1;have e2:=sX (l:=w.ct) (i:=n) ak;have hx:=hw.oldB _ (zYH (l:=w.ct) (n:=n) ak);simp only [zQV,cond_false,cU,e2,wk,FJ hu hw,if_true,rg];rw [D1 hu hx.1 ak (show (sL w).aG.length<=1073741824 by unfold sL; omega)]; rfl
theorem SC{α:Type}(z:α)(f:α->Bool)(L:Nat->List α->Int->Int->Option (List α))(hL:∀ k x w r,L (k+1) x w r=bif decide (r < ((x.length:Int))) then ((eS x r).bind λy=>bif !(f y) then ((eS x w).bind λ_=>L k (x.set (sY w) y) (aV .i64 w 1) (aV .i64 r 1)) else L k x w (aV .i64 r 1)) else ((fX (AS w x.length)).bind λ_=>(fX (er 0 w (x.take (sY w)++zQZ (x.length - sY w) z).length)).bind λ_=>some (((x.take (sY w)++zQZ (x.length - sY w) z).take (sY w)).drop (sY 0))))
  (xs:List α) (hx:xs.length<=1073741824):∀ (m r w k:Nat) (x:List α),r+m=xs.length->m < k->x.length=xs.length->w<=r->x.take w=(xs.take r).filter (λy=>!f y)->x.drop r=xs.drop r->L k x w r=some (xs.filter λy=>!f y):=by
 intro m
 induction m with
 | zero =>
  intro r w k x h1 h2 h3 h4 h5 h6;obtain ⟨k,rfl⟩:∃ j,k=j+1:=⟨k - 1,by omega⟩;have e:¬ ((r:Int) < (x.length:Int)):=by omega
  rw [hL];simp only [e,decide_false,cond_false,rg];have c1:AS (w:Int) (x.length:Int)=true:=by simp only [AS,sk,decide_eq_true_eq]; omega
  have c2:er 0 (w:Int) ((x.take w++zQZ (x.length - w) z).length:Int)=true:=by
   simp only [er,sk,decide_eq_true_eq,zQG,zQx,zXz]; omega
  rw [c1,c2];simp only [zQ,wk];have h7:(x.take w).length=w:=by rw [zQx]; omega
  rw [List.take_append_of_le_length ak,zWx ak,h5,zWx ak];rfl
 | succ m ih =>
  intro r w k x h1 h2 h3 h4 h5 h6;obtain ⟨k,rfl⟩:∃ j,k=j+1:=⟨k - 1,by omega⟩;have e:(r:Int) < (x.length:Int):=by omega
  have hr:xs[r]?=some xs[r]:=sX ak;have hxr:x[r]?=xs[r]?:=by
   have:=congrArg zZk h6; simpa [zYK] using this
  have hd1:x.drop (r+1)=xs.drop (r+1):=by
   have:=congrArg List.tail h6; simpa [zYj] using this
  have ht:xs.take (r+1)=xs.take r++[xs[r]]:=by rw [zZv,hr]; rfl
  rw [hL];simp only [e,decide_true,cond_true,cU,hxr,hr,wk];have hw:x[w]?=some x[w]:=sX ak;have a1:aV .i64 (r:Int) 1=((r+1:Nat):Int):=fv ak;have a2:aV .i64 (w:Int) 1=((w+1:Nat):Int):=fv ak
  cases hf:f xs[r] with
  | true =>
   simp only [zQV,cond_false,a1];exact ih (r+1) w k x ak ak h3 ak (by rw [ht,List.filter_append]; simp [hf,h5]) hd1
  | false =>
   simp only [zYh,cond_true,hw,wk,a1,a2,rg];refine ih (r+1) (w+1) k _ ak ak Yu ak ?_ ?_
   ·rw [ht,List.filter_append,<- h5];simp only [zYw,hf,zYh,if_true,List.filter_nil];rw [zZv,List.take_set_of_le (zWJ w)];simp [show w < x.length by omega]
   ·rw [List.drop_set_of_lt ak]; exact hd1
theorem QY{α:Type}(f:α->Bool):∀ (l:List α) (i:Nat),eH f l i=-1->l.filter (λy=>!f y)=l:=by
 intro l
 induction l with
 | nil=>intro i _; rfl
 | cons x l ih =>
  intro i h;unfold eH at h
  cases hf:f x with
  | true=>rw [hf] at h; simp only [cond_true,if_true] at h; omega
  | false =>
   rw [hf] at h;simp only [cond_false,zQk,if_false] at h;simp [zYw,hf,ih (i+1) h]
theorem QZ{α:Type}(f:α->Bool):∀ (l:List α) (i:Nat),eH f l i≠-1->∃ j:Nat,eH f l i=((i+j:Nat):Int)/\j < l.length/\l.take j=(l.take (j+1)).filter (λy=>!f y):=by
 intro l
 induction l with
 | nil=>intro i h; exact absurd rfl h
 | cons x l ih =>
  intro i h;unfold eH at h ⊢
  cases hf:f x with
  | true=>exact ⟨0,by simp,by simp,by simp [hf]⟩
  | false =>
   rw [hf] at h;simp only [cond_false,zQk,if_false] at h ⊢;obtain ⟨j,h1,h2,h3⟩:=ih (i+1) h;exact ⟨j+1,by rw [h1]; omega,by simp; omega,by simp [List.take_succ_cons,zYw,hf]; simpa using h3⟩
def Ag(w:World)(k:Nat):Bool:=match w.fN[k]? with | some n=>n.lu | none=>false
def D5(w:World):List Int:=((zZY 0 w.fN.length).filter (Ag w)).map λ(k:Nat)=>(k:Int)
def D6(w:World):List Int:=((zZY 1 (w.fN.length - 1)).filter λk=>Ag w k && (pG w k != 1)).map λ(k:Nat)=>(k:Int)
theorem Wj{α ρ:Type}{fin:List Int->Option ρ}{body:α->Nat->List Int->(List Int->Option ρ)->Option ρ}(g:Nat->Bool)(p:List α) :
  ∀ (l:List α) (i:Nat) (s:List Int),l=p.drop i->s.length<=i->(∀ x i s k,p[i]?=some x->s.length<=i->body x i s k=bif g i then k (s++[(i:Int)]) else k s)->cE fin body l i s=fin (s++((zZY i l.length).filter g).map λ(k:Nat)=>(k:Int)):=by
 intro l
 induction l with
 | nil=>intro i s _ _ _; simp [cE]
 | cons x l ih =>
  intro i s h1 h2 h3;have hx:p[i]?=some x:=by have:=congrArg zZk h1; simpa [zYK] using this.symm
  have hl:l=p.drop (i+1):=by have:=congrArg List.tail h1; simpa [zYj] using this
  simp only [cE,zQw,zYq];rw [h3 x i s _ hx h2]
  cases hg:g i with
  | true=>simp only [cond_true,zYw,hg,if_true,zWh]; rw [ih (i+1) _ hl lv h3]; simp
  | false=>simp only [cond_false,zYw,hg,zQk,if_false]; rw [ih (i+1) _ hl ak h3]
theorem Y8{w:World}{i:Nat}{x:aD}(h:w.fN[i]?=some x):Ag w i=x.lu:=by unfold Ag; rw [h]
theorem SD{α:Type}{l:List α}{i:Nat}{x:α}(h:l[i]?=some x):i < l.length:=by
 rcases Nat.lt_or_ge i l.length with h1 | h1
 ·exact h1
 ·rw [zXK h1] at h; cases h
theorem H8{u:Nat}(hu:1099511627776<=u){w:World}(hn:w.fN.length<=1048576):zt u w=some (D5 w):=by
 unfold zt gE;rw [sA u w _ u ak ak,Wj (Ag w) w.fN w.fN 0 [] kU kU]
 ·simp [lI,fE,D5]
 ·intro x i s k hx hs;have:=SD hx;unfold lJ dy xN;simp only [wk,Y8 hx];rw [b5 lv]; rfl
theorem Kw(w:World):(D5 w).length<=w.fN.length:=by
 unfold D5;rw [zWw];have:=zZJ (Ag w) (zZY 0 w.fN.length);rwa [List.length_range'] at this
theorem BX{u:Nat}(hu:1099511627776<=u){w:World}(hw:M.DsOk w)(k:Int):oL u k w=some (k == 0 || pG w k == 1):=by
 unfold oL;rw [LS hu hw]
 cases k == 0 <;> rfl
theorem O0{u:Nat}(hu:1099511627776<=u){w:World}(hw:M.DsOk w){xs:List Int}(hx:xs.length<=1048576):df u xs w=some (xs.filter λk=>!(k == 0 || pG w k == 1)):=by
 unfold df ep;rw [oN u xs w () u ak ak,lq (λk=>k == 0 || pG w k == 1) rfl (λx i k hx=>by unfold iG; rw [BX hu hw]; rfl)];simp only [wk]
 by_cases h:eH (λk=>k == 0 || pG w k == 1) xs 0=-1
 ·rw [h,QY _ _ _ h]; rfl
 ·obtain ⟨j,h1,h2,h3⟩:=QZ _ _ _ h;rw [h1];have e:(((0+j:Nat):Int) == -1)=false:=by simp
  rw [e];simp only [cond_false,zQg];rw [fv ak];refine SC 0 (λk=>k == 0 || pG w k == 1) (λk x w' r=>bm u k x w w' r) ?_ xs ak (xs.length - (j+1)) (j+1) j u xs ak ak rfl ak h3 rfl;intro k x w' r;show bm u (k+1) x w w' r=_;rw [bm];simp only [BX hu hw,wk];rfl
theorem NN{u:Nat}(hu:1099511627776<=u){w:World}(hw:M.StOk w):xO u w=some (D6 w):=by
 have hn:=hw.n;have hl:=Kw w;unfold xO;rw [H8 hu hn];simp only [wk];rw [O0 hu hw.ds ak];simp only [wk,Option.some.injEq];unfold D5 D6;rw [List.filter_map,List.filter_filter]
 cases h:w.fN.length with
 | zero=>rfl
 | succ n =>
  rw [zYq,zYw];simp only [Function.comp,Nat.add_sub_cancel];rw [show (!((((0:Nat):Int) == 0) || pG w ((0:Nat):Int) == 1) && Ag w 0)=false by simp];simp only [zQk,if_false]
  congr 1
  apply List.filter_congr
  intro k hk;have hk:=List.mem_range'_1.1 hk;have:((k:Int) == 0)=false:=by simp; omega
  rw [this,zZj,Bool.and_comm]; rfl
theorem qB{u:Nat}(hu:1099511627776<=u){r:List Int}(hr:r.length<=1048576)(k:Int):fU u r k=some (r.any λy=>y == k):=by
 unfold fU mA;rw [zb u r k () u ak ak,lq (λy=>k == y) rfl (λx i k hx=>by unfold qY; rfl)];simp only [wk,pT]
 congr 2
 funext y
 exact Bool.eq_iff_iff.2 (by simp only [beq_iff_eq]; exact ⟨Eq.symm,Eq.symm⟩)
def XJ(w:World)(r:List Int):Bool:=(zZY 1 (w.fN.length - 1)).any λk=>Ag w k && !(r.any λy=>y == (k:Int))
def NO(w:World):Bool:=((D6 w).length:Int) == 0
theorem NP{u:Nat}(hu:1099511627776<=u){w:World}(hw:M.StOk w):xP u w=some (NO w):=by
 unfold xP; rw [NN hu hw]; rfl
theorem GI{u:Nat}(hu:1099511627776<=u){r:List Int}(hr:r.length<=1048576)(k:Int):nU u k r=some (decide (k > 0) && !(r.any λy=>y == k)):=by
 unfold nU;rw [qB hu hr]
 cases decide (k > 0) <;> rfl
theorem SE(w:World)(r:List Int):((D5 w).any λk=>decide (k > 0) && !(r.any λy=>y == k))=XJ w r:=by
 unfold D5 XJ;rw [List.any_map,List.any_filter]
 cases h:w.fN.length with
 | zero=>rfl
 | succ n =>
  rw [zYq,zZh];simp only [Function.comp,Nat.add_sub_cancel,zQg];rw [show (Ag w 0 && (decide (((0:Nat):Int) > 0) && !(r.any λy=>y == ((0:Nat):Int))))=false by simp,zZj];have:∀ l:List Nat,(∀ k∈l,0 < k)->(l.any λa=>Ag w a && (decide ((a:Int) > 0) && !(r.any λy=>y == (a:Int))))=l.any λk=>Ag w k && !(r.any λy=>y == (k:Int)):=by
   intro l
   induction l with
   | nil=>intro _; rfl
   | cons a l ih =>
    intro hl;have h0:=hl a kU;have:((a:Int) > 0):=by omega
    simp only [zZh,this,decide_true,zWX];rw [ih (λk hk=>hl k (by simp [hk]))]
  exact this _ (λk hk=>by have:=List.mem_range'_1.1 hk; omega)
theorem Q0(w:World)(k:Int):-40000<=wu w k/\wu w k<=240:=by
 unfold wu
 split
 ·split
  ·exact GG _ _
  ·omega
 ·omega
def Mr(w:World):Nat->Nat->Int->Int
 | 0,_,a=>a
 | n+1,i,a=>Mr w n (i+1) (a+wu w i)
theorem NQ{u:Nat}(hu:1099511627776<=u){w:World}(hw:M.NdOk w):∀ (m i k:Nat) (a:Int),i+m=w.ct.length->m < k->-1000000000000+40000*m<=a->a<=1000000000000 - 240*m->iO u k a i w=some (Mr w m i a):=by
 intro m;have ho:=hw.old
 induction m with
 | zero =>
  intro i k a h1 h2 h3 h4;obtain ⟨k,rfl⟩:∃ j,k=j+1:=⟨k - 1,by omega⟩;have e:¬ ((i:Int) < (w.ct.length:Int)):=by omega
  unfold iO ul;simp only [e,decide_false,cond_false]; rfl
 | succ m ih =>
  intro i k a h1 h2 h3 h4;obtain ⟨k,rfl⟩:∃ j,k=j+1:=⟨k - 1,by omega⟩;have e:(i:Int) < (w.ct.length:Int):=by omega
  have hr:=Q0 w i;unfold iO;simp only [e,decide_true,cond_true,NM hu hw,wk];rw [dC ak ak,fv ak];exact ih (i+1) k _ ak ak ak ak
theorem PS{ρ:Type}(J:List Int->Option ρ)(n:Int)(hn:n<=1048576)(L:Nat->List Int->Option ρ)(hL:∀ k x,L (k+1) x=bif decide ((x.length:Int) < n) then ((fX (decide ((x.length+([0]:List Int).length)*1<=140737488355328))).bind λ_=>L k (x++[0])) else J x) :
  ∀ (m k:Nat) (x:List Int),(x.length+m=n.toNat\/(m=0/\n<=x.length))->m < k->L k x=J (x++zQZ m 0):=by
 intro m
 induction m with
 | zero =>
  intro k x h1 h2;obtain ⟨k,rfl⟩:∃ j,k=j+1:=⟨k - 1,by omega⟩;have e:¬ ((x.length:Int) < n):=by omega
  rw [hL]; simp [e]
 | succ m ih =>
  intro k x h1 h2;obtain ⟨k,rfl⟩:∃ j,k=j+1:=⟨k - 1,by omega⟩;have e:(x.length:Int) < n:=by omega
  rw [hL,b5 lv];simp only [e,decide_true,cond_true,wk];rw [ih k _ lv ak,zQX];rfl
theorem w6{α ρ:Type}{fin:List α->Option ρ}{body:α->Nat->List α->(List α->Option ρ)->Option ρ}(n:Nat)(p:List α)(hb:∀ x i s k,x∈p->s.length+1<=n->body x i s k=k (s++[x])) :
  ∀ (l:List α) (i:Nat) (s:List α),(∀ x∈l,x∈p)->s.length+l.length<=n->cE fin body l i s=fin (s++l):=by
 intro l
 induction l with
 | nil=>intro i s _ _; simp [cE]
 | cons x l ih =>
  intro i s h1 h2;simp only [zQw] at h2;simp only [cE];rw [hb x i s _ (h1 x kU) ak,ih (i+1) _ (λy hy=>h1 y (by simp [hy])) lv];simp
theorem jb{u:Nat}(hu:1099511627776<=u){d:aA}(hd:M.DOk d):dM u d=some d:=by
 have h1:=hd.a;have h2:=hd.b;have h3:=hd.p;unfold dM;rw [fw u (show d.fA.length<=1073741824 by omega),fw u (show d.fB.length<=1073741824 by omega)];simp only [wk];rw [FZ u d d.fA d.fB _ u ak ak,w6 1048576 d.fP _ d.fP 0 [] (λ_ h=>h) lv]
 ·rfl
 ·intro x i s k hx hs;have h4:=hd.puts x hx;unfold zI kJ;rw [fw u (show x.fB.length<=1073741824 by omega)];simp only [wk];rw [b5 lv]; rfl
def D7(b:List Int)(a:Nat)(p:List Int):List Int:=yX (b++zQZ (a+p.length - b.length) 0) p a
theorem D8{x p:List Int}{a:Nat}(h:a+p.length<=x.length):yX x p a=x.take a++p++x.drop (a+p.length):=by
 unfold yX;rw [zWx (l:=p) ak,zWq ak]
theorem NR(b:List Int)(a:Nat)(p:List Int):(D7 b a p).length=max b.length (a+p.length):=by
 unfold D7;rw [D8 lv];simp;omega
def xW(d:aA)(p:ej):aA:=if p.j3=2 then ⟨d.fA,d.fB,p.fR,d.fP⟩ else if p.j3=0 then ⟨D7 d.fA p.KU.toNat p.fB,d.fB,d.fR,d.fP⟩ else ⟨d.fA,D7 d.fB p.KU.toNat p.fB,d.fR,d.fP⟩
theorem Kx{p:ej}(h:mC p=true):p.j3=2\/((p.j3=0\/p.j3=1)/\0<=p.KU/\p.KU+p.fB.length<=240):=by
 unfold mC at h
 by_cases h2:p.j3=2
 ·exact .inl h2
 ·rw [if_neg h2] at h;simp only [sk] at h;have h3:=bI h.1.1;have h4:=bI h.2;exact .inr ⟨by omega,by omega,by omega⟩
theorem PT{d:aA}{p:ej}(hd:M.DOk d)(h:mC p=true):M.DOk (xW d p):=by
 have h1:=hd.a;have h2:=hd.b;unfold xW;rcases Kx h with h | ⟨h3,h4,h5⟩
 ·rw [if_pos h]; exact ⟨hd.a,hd.b,hd.p,hd.puts⟩
 ·split
  ·exact ⟨hd.a,hd.b,hd.p,hd.puts⟩
  ·split
   ·exact ⟨by rw [NR]; omega,hd.b,hd.p,hd.puts⟩
   ·exact ⟨hd.a,by rw [NR]; omega,hd.p,hd.puts⟩
theorem SF(b:List Int)(a n:Nat):fX (AS (a:Int) (((b++zQZ (a+n - b.length) (0:Int)).length:Nat):Int))=some ():=by
 have:AS (a:Int) (((b++zQZ (a+n - b.length) (0:Int)).length:Nat):Int)=true:=by
  simp only [AS,sk,decide_eq_true_eq,zQG,zXz]; omega
 rw [this]; rfl
theorem LU{u:Nat}(hu:1099511627776<=u){d:aA}{p:ej}(hd:M.DOk d)(h:mC p=true):gL u d p=some (xW d p):=by
 have h1:=hd.a;have h2:=hd.b;unfold gL xW ud;rcases Kx h with h | ⟨h3,h4,h5⟩
 ·rw [h]; rfl
 ·obtain ⟨a,ha⟩:=zQH h4;have e:aV .i64 (a:Int) (p.fB.length:Int)=((a+p.fB.length:Nat):Int):=by rw [dC ak ak]; omega
  rcases h3 with h3 | h3
  ·rw [h3,ha];show iB u u p d.fA (0,d)=some ⟨D7 d.fA a p.fB,d.fB,d.fR,d.fP⟩;rw [PS (λx=>nz u p x (0,d)) ((a+p.fB.length:Nat):Int) ak (λk x=>iB u k p x (0,d)) (λk x=>by rw [<- e,<- ha]; rfl) (a+p.fB.length - d.fA.length) u d.fA (by rw [rg]; omega) ak];unfold nz;rw [ha,SF d.fA a p.fB.length];rfl
  ·rw [h3,ha];show iA u u p (1,d) d.fB=some ⟨d.fA,D7 d.fB a p.fB,d.fR,d.fP⟩;rw [PS (λx=>ny u p (1,d) x) ((a+p.fB.length:Nat):Int) ak (λk x=>iA u k p (1,d) x) (λk x=>by rw [<- e,<- ha]; rfl) (a+p.fB.length - d.fB.length) u d.fB (by rw [rg]; omega) ak];unfold ny;rw [ha,SF d.fB a p.fB.length];rfl
theorem Ky{d:aA}(h:c7 d=true):∀ p∈d.fP,mC p=true:=by
 unfold c7 at h;simp only [sk] at h;exact KB.1 h.2
def tup(d:aA):List Int×List Int×Int×Int×Int×List ej:=(d.fA,d.fB,d.fR.aM,d.fR.dj,d.fR.aU,d.fP)
structure Cu (c:bS):Prop where
 i0:0<=c.fI
 n:c.fI<=(c.fB.length:Int)
 len:c.fB.length<=1048576
def Dr{α:Type}(r:Option (α×bS))(p:α->Prop):Prop:=∃ v c,r=some (v,c)/\p v/\Cu c
theorem Vi{α:Type}{r:Option (α×bS)}{p q:α->Prop}(h:Dr r p)(hpq:∀ v,p v->q v):Dr r q:=by
 obtain ⟨v,c,e,h1,h2⟩:=h;exact ⟨v,c,e,hpq v h1,h2⟩
theorem kR{α β:Type}{r:Option (α×bS)}{p:α->Prop}{f:α×bS->Option (β×bS)}{q:β->Prop}(h:Dr r p)(hf:∀ v c,p v->Cu c->Dr (f (v,c)) q):Dr (r.bind f) q:=by
 obtain ⟨v,c,e,h1,h2⟩:=h;rw [e];exact hf v c h1 h2
theorem kS{α:Type}{v:α}{c:bS}{p:α->Prop}(h:p v)(hc:Cu c):Dr (Option.some (v,c)) p:=⟨v,c,rfl,h,hc⟩
theorem XK(a:Int):0<=gl .i64 a 255/\gl .i64 a 255<=255:=by
 unfold gl;have h:(sa 64 a &&& sa 64 255).toNat<=255:=by
  rw [BitVec.toNat_and];exact Nat.and_le_right
 have e:pa .i64 (((sa 64 a &&& sa 64 255).toNat:Nat):Int)=(((sa 64 a &&& sa 64 255).toNat:Nat):Int):=wrap_i64 ak ak;show 0<=pa .i64 (((sa 64 a &&& sa 64 255).toNat:Nat):Int)/\pa .i64 (((sa 64 a &&& sa 64 255).toNat:Nat):Int)<=255;rw [e];omega
theorem XL{u:Nat}(hu:1099511627776<=u){code:List Int}(h:code.length<=1048576):∃ c,Cb u code=some c/\Cu c:=by
 have key:∀ (m k i:Nat) (x:Int),i+m=code.length->m < k->∃ c,kG u k code x (i:Int)=some c/\Cu c:=by
  intro m
  induction m with
  | zero =>
   intro k i x hi hk;obtain ⟨k,rfl⟩:∃ j,k=j+1:=⟨k - 1,by omega⟩;unfold kG;have:¬ ((i:Int) < (code.length:Int)):=by omega
   simp only [this,decide_false,cond_false,ti,xe];exact ⟨_,rfl,⟨Int.le_refl 0,zVX _,h⟩⟩
  | succ m ih =>
   intro k i x hi hk;obtain ⟨k,rfl⟩:∃ j,k=j+1:=⟨k - 1,by omega⟩;unfold kG;have hlt:(i:Int) < (code.length:Int):=by omega
   simp only [hlt,decide_true,cond_true,ti]
   by_cases h4:(i:Int) < 4000
   ·simp only [h4,decide_true,cond_true,cU];obtain ⟨y,hy⟩:∃ y,code[i]?=some y:=⟨code[i],sX ak⟩;rw [hy];simp only [wk];rw [fv ak];exact ih k (i+1) _ ak ak
   ·simp only [h4,decide_false,cond_false,xe];exact ⟨_,rfl,⟨Int.le_refl 0,zVX _,h⟩⟩
 exact key code.length u 0 _ ak ak
theorem ES(u:Nat){c:bS}(hc:Cu c):Dr (pN u c) (λv=>0<=v/\v<=255):=by
 have h0:=hc.i0;have h1:=hc.n;have h2:=hc.len;unfold pN
 by_cases h:c.fI < (c.fB.length:Int)
 ·simp only [h,decide_true,cond_true];obtain ⟨i,hi⟩:∃ i:Nat,c.fI=(i:Int):=⟨c.fI.toNat,by omega⟩;rw [hi,cU,sX ak];simp only [wk,rf];exact kS (XK _) ⟨by show 0<=aV .i64 (i:Int) 1; rw [fv ak]; omega,by show aV .i64 (i:Int) 1<=(c.fB.length:Int); rw [fv ak]; omega,h2⟩
 ·simp only [h,decide_false,cond_false,rf];exact kS (XK _) ⟨h0,h1,h2⟩
theorem mp(u:Nat){c:bS}(hc:Cu c)(n:Int):Dr (dA u c n) (λv=>0<=v/\(0 < n->v < n)):=by
 unfold dA
 by_cases h:n<=0
 ·simp only [h,decide_true,cond_true];exact kS ⟨Int.le_refl 0,λh'=>by omega⟩ hc
 ·have hn:(!(n == 0))=true:=by simp; omega
  have hr:∀ a:Int,0<=a->0<=pK .i64 a n/\(0 < n->pK .i64 a n < n):=λa ha=>by
   rw [zP ha];exact ⟨zVQ _ ak,λ_=>zVW _ ak⟩
  simp only [h,decide_false,cond_false]
  by_cases h2:n<=256
  ·simp only [h2,decide_true,cond_true];refine kR (ES u hc) λv c' hv hc'=>?_;rw [hn];exact kS (hr v hv.1) hc'
  ·simp only [h2,decide_false,cond_false];refine kR (ES u hc) λv c' hv hc'=>?_;refine kR (ES u hc') λv2 c2 hv2 hc2=>?_;refine kR (ES u hc2) λv3 c3 hv3 hc3=>?_;rw [hn];refine kS (hr _ ?_) hc3;simp only;rw [kg ak ak,kg ak ak,dC (a:=v*65536) (b:=v2*256) ak ak,dC ak ak];omega
theorem Wl(u:Nat){c:bS}(hc:Cu c)(n:Int):Dr (uL u c n) (λ_=>True):=by
 unfold uL;exact kR (mp u hc n) λv c' _ hc'=>kS trivial hc'
theorem NS(u:Nat){c:bS}(hc:Cu c){xs:List Int}(hx:0 < xs.length):Dr (rh u c xs) (λv=>v∈xs):=by
 unfold rh;refine kR (mp u hc _) λv c' hv hc'=>?_;have hlt:=hv.2 ak;obtain ⟨i,hi⟩:∃ i:Nat,v=(i:Int):=⟨v.toNat,by omega⟩;subst hi;have hi:i < xs.length:=by omega
 simp only [cU,sX hi,wk];exact kS (zYH hi) hc'
theorem NT(u:Nat){g:Int}{b:List Int}(h0:0<=g)(h1:g<=1000000)(hb:b.length<=240):pV u g b=some ⟨b,[],⟨g,0,b.length⟩,[]⟩/\c7 ⟨b,[],⟨g,0,b.length⟩,[]⟩=true:=by
 refine ⟨?_,?_⟩
 ·unfold pV;have hw:ah g 0 1000000=true:=by simp [ah,h0,h1]
  rw [d1,hw];simp only [wk,zQV,cond_false];have:¬ ((b.length:Int) > 240):=by omega
  simp only [this,decide_false,nN,cond_false];rw [b5 lv];simp
 ·simp [c7,jJ,ah,ja,h0,h1,hb];omega
def jK(d:aA)(p:ej):aA:=⟨d.fA,d.fB,d.fR,d.fP++[p]⟩
theorem JN{d:aA}{p:ej}(hd:M.DOk d)(hl:d.fP.length<=1048575)(hp:p.fB.length<=1048576):M.DOk (jK d p) :=
 ⟨hd.a,hd.b,by simp [jK]; omega,λx hx=>by
  rcases An.1 hx with h | h
  ·exact hd.puts x h
  ·simp at h; subst h; exact hp⟩
def yE:List ej->aA->aA
 | [],d=>⟨d.fA,d.fB,d.fR,[]⟩
 | p :: l,d=>yE l (xW d p)
def M.sure(d:aA):aA:=if c7 d then yE d.fP d else d
theorem Vj:∀ (l:List ej) (d:aA),(∀ p∈l,mC p=true)->M.DOk d->M.DOk (yE l d)
 | [],d,_,hd=>⟨hd.a,hd.b,by simp [yE],by simp [yE]⟩
 | p :: l,d,hp,hd=>Vj l _ (λq hq=>hp q (by simp [hq])) (PT hd (hp p kU))
theorem Y9{d:aA}(hd:M.DOk d):M.DOk (M.sure d):=by
 unfold M.sure
 cases h:c7 d with
 | true=>exact Vj _ _ (Ky h) hd
 | false=>exact hd
def M.S:Nat->(Nat->Int)->Int
 | 0,_=>0
 | n+1,g=>M.S n g+g n
theorem PU(m:af):∀ a b:List Int,M.lenOf m (a++b)=M.lenOf m a+M.lenOf m b
 | [],b=>by simp [M.lenOf]
 | x :: a,b=>by simp only [zXy,M.lenOf,PU m a b]; omega
theorem Vk(m:af)(p:Nat->Bool):∀ n:Nat,M.lenOf m (((zXW n).filter p).map Int.ofNat)=M.S n λi=>if p i=true then (bW m.ar m.aU (i:Int)).2 else 0
 | 0=>rfl
 | n+1=>by
  rw [List.range_succ,List.filter_append,zXJ,PU,Vk m p n,M.S]
  congr 1
  cases h:p n <;> simp [h,M.lenOf]
theorem Q2(b:List Int)(m:af)(x:Bool):bh ((ws b m x:Nat):Int)=true:=by
 have:=QW b m x;simp [bh,ah]; omega
theorem Wm(b:List Int)(m:af):jI b m=M.S 40 λi=>if (decide (i < min m.aG.length 40) && (NI b m i == false))=true then (bW m.ar m.aU (i:Int)).2 else 0:=by
 unfold jI gn;rw [if_pos (Q2 b m false),rg,Vk]
 congr 1
 funext i
 unfold ws;rw [OV]
theorem FK{b:List Int}{s:cS}{n:Nat}:∀ (c i j:Nat),i<=j->j < i+c->dg (M.win b j n)=s->0<=gC b s n c i
 | 0,i,j,h1,h2,_=>by omega
 | c+1,i,j,h1,h2,h3=>by
  unfold gC
  split
  ·omega
  ·rename_i hne;have:i≠j:=λh=>hne (h ▸ h3);exact FK c (i+1) j ak ak h3
theorem qae(n:Int):0<=pa .u8 n/\pa .u8 n<=255:=by
 show 0<=n % 256/\n % 256<=255;omega
theorem PV(n:Int):au [pa .u8 n]:=λx hx=>by
 simp only [zQy] at hx;subst hx;exact qae n
theorem BY{a b:List Int}(ha:au a)(hb:au b):au (a++b):=λx hx=>(An.1 hx).elim (ha x) (hb x)
theorem PW{a:List Int}(ha:au a)(i:Nat){v:Int}(hv:0<=v/\v<=255):au (a.set i v):=λx hx=>by
 rcases List.mem_or_eq_of_mem_set hx with h | h
 ·exact ha x h
 ·subst h; exact hv
theorem GJ{a:List Int}(ha:au a)(n:Nat):au (a.take n):=λx hx=>ha x (zXQ hx)
theorem GK{a:List Int}(ha:au a)(n:Nat):au (a.drop n):=λx hx=>ha x (zXj hx)
theorem PX:au []:=λx hx=>by cases hx
def sV(n:Nat)(b:List Int):Prop:=b.length<=n/\au b
theorem D9{u:Nat}(hu:1099511627776<=u){c:bS}(hc:Cu c){n:Nat}(hn:n<=1000):Dr (pU u c (n:Int)) (sV n):=by
 unfold pU;rw [fv ak];refine kR (mp u hc _) λv c1 hv hc1=>?_;have hlt:=hv.2 ak;obtain ⟨m,hm⟩:∃ m:Nat,v=(m:Int):=⟨v.toNat,by omega⟩;subst hm;have key:∀ (m k:Nat) (x:List Int) (c:bS),m < k->Cu c->x.length+m<=1000->au x->Dr (lW u k x (m:Int) c.fB c.fI c.fH) (sV (x.length+m)):=by
  intro m
  induction m with
  | zero =>
   intro k x c hk hc hx hb;obtain ⟨k,rfl⟩:∃ j,k=j+1:=⟨k - 1,by omega⟩;unfold lW;simp only [Int.natCast_zero,gt_iff_lt,Int.lt_irrefl,decide_false,cond_false,yd];exact kS ⟨zWJ _,hb⟩ hc
  | succ m ih =>
   intro k x c hk hc hx hb;obtain ⟨k,rfl⟩:∃ j,k=j+1:=⟨k - 1,by omega⟩;unfold lW;have:((m+1:Nat):Int) > 0:=by omega
   simp only [this,decide_true,cond_true];refine kR (NS u hc (xs:=[97,98,99,0,255]) kU) λv c2 hv hc2=>?_;rw [b5 lv];simp only [wk];rw [dZ ak ak];have e:((m+1:Nat):Int) - 1=(m:Int):=by omega
   rw [e];refine Vi (ih k _ c2 ak hc2 lv (BY hb (PV _))) λv h=>?_;have h1:=h.1;simp only [zQG,zQw,zWv] at h1;exact ⟨by omega,h.2⟩
 refine Vi (key m u [] c1 ak hc1 lv PX) λv h=>?_;have h1:=h.1;simp only [zWv] at h1;exact ⟨by omega,h.2⟩
theorem Ui{u:Nat}(hu:1099511627776<=u){c:bS}(hc:Cu c):Dr (rO u c) (sV 16):=by
 unfold rO;exact kR (D9 hu hc (n:=16) ak) λv c1 hv hc1=>kS hv hc1
theorem Uj(u:Nat){c:bS}(hc:Cu c){b:List Int}(hb:b.length<=200)(hB:au b):Dr (xy u c b) (sV 201):=by
 unfold xy;rw [b5 lv];simp only [wk,zWH];have hlt:∀ {v:Int},0<=v->v < (b.length:Int)->∃ y,eS b v=some y:=λ{v} h0 h1=>by
  obtain ⟨i,rfl⟩:∃ i:Nat,v=(i:Int):=⟨v.toNat,by omega⟩;exact ⟨b[i]'ak,by rw [cU]; exact sX ak⟩
 have self:sV 201 b:=⟨by omega,hB⟩;refine kR (mp u hc 6) λn c1 _ h1=>?_;simp only
 cases n == 0 with
 | true =>
  simp only [cond_true]
  by_cases hl:(b.length:Int) > 0
  ·simp only [hl,decide_true,cond_true];refine kR (mp u h1 _) λv c2 hv h2=>?_;refine kR (mp u h2 256) λw c3 _ h3=>?_;obtain ⟨y,hy⟩:=hlt hv.1 (hv.2 hl);simp only [hy,wk,eu];exact kS ⟨by rw [zYV]; omega,PW hB _ (qae _)⟩ h3
  ·simp only [hl,decide_false,cond_false,eu];exact kS self h1
 | false =>
  simp only [cond_false]
  cases n == 1 with
  | true =>
   simp only [cond_true];rw [fv ak];refine kR (mp u h1 _) λv c2 hv h2=>?_;have h3:=hv.2 ak;have hs:er 0 v (b.length:Int)=true:=by simp [er]; omega
   simp only [hs,zQ,wk,eu];exact kS ⟨by rw [zYZ,zQx]; omega,GK (GJ hB _) _⟩ h2
  | false =>
   simp only [cond_false]
   cases n == 2 with
   | true =>
    simp only [cond_true];refine kR (NS u h1 kU) λv c2 _ h2=>?_;rw [b5 lv];simp only [wk,eu];exact kS ⟨by rw [zQG,zZK]; omega,BY hB (PV _)⟩ h2
   | false =>
    simp only [cond_false]
    cases n == 3 with
    | true =>
     simp only [cond_true]
     by_cases hl:(b.length:Int) > 0
     ·simp only [hl,decide_true,cond_true];refine kR (mp u h1 _) λv c2 hv h2=>?_;obtain ⟨y,hy⟩:=hlt hv.1 (hv.2 hl);simp only [hy,wk];refine kR (mp u h2 8) λw c3 hw h3=>?_;have hw0:=hw.1;simp only [hy];rw [b5 hw0];simp only [wk,eu];exact kS ⟨by rw [zYV]; omega,PW hB _ (by unfold Sf; exact qae _)⟩ h3
     ·simp only [hl,decide_false,cond_false,eu];exact kS self h1
    | false =>
     simp only [cond_false,eu];exact kS self h1
theorem Wn{u:Nat}(hu:1099511627776<=u){c:bS}(hc:Cu c){b:List Int}(hb:b.length<=200)(hB:au b):Dr (ux u c b) (sV 240):=by
 unfold ux;refine kR (mp u hc 5) λn c1 _ h1=>?_;simp only
 cases n == 0 with
 | true =>
  simp only [cond_true];exact kR (D9 hu h1 (n:=16) ak) λv c2 hv h2=>kS ⟨zXw hv.1 ak,hv.2⟩ h2
 | false =>
  simp only [cond_false]
  cases n == 1 with
  | true =>
   simp only [cond_true];rw [b5 lv];simp only [wk,zWH];exact kS ⟨by omega,hB⟩ h1
  | false =>
   simp only [cond_false]
   cases n == 2 with
   | true =>
    simp only [cond_true];rw [fv ak];refine kR (mp u h1 _) λv c2 hv h2=>?_;have h3:=hv.2 ak;have h0:=hv.1;have s1:er v (b.length:Int) (b.length:Int)=true:=by simp [er]; omega
    have s2:er 0 v (b.length:Int)=true:=by simp [er]; omega
    simp only [s1,s2,zQ,wk];rw [b5 lv];simp only [wk];rw [b5 lv];simp only [wk];refine kS ⟨by simp; omega,BY (BY (λx hx=>?_) (GK (GJ hB _) _)) (GK (GJ hB _) _)⟩ h2;simp only [zQy] at hx;omega
   | false =>
    simp only [cond_false]
    cases n == 3 with
    | true =>
     simp only [cond_true];exact kS ⟨by simp,PX⟩ h1
    | false =>
     simp only [cond_false];refine kR (D9 hu h1 (n:=3) ak) λv c2 hv h2=>?_;refine kR (Uj u h2 hb hB) λw c3 hw h3=>?_;have hv1:=hv.1;have hw1:=hw.1;simp only;rw [b5 ak];simp only [wk];exact kS ⟨by rw [zQG]; omega,BY hv.2 hw.2⟩ h3
theorem Vl{α:Type}(l:List α)(k:Nat){v:α}(h:l[k]?=some v):eS l (k:Int)=some v:=by
 unfold eS;simp [h]
def SG(c:Int):Option (Int×Nat)->Option (Int×Nat)
 | some (v,n)=>some (v*128+(c - 128),n+1)
 | none=>none
def M.rd:Nat->Bool->List Int->Option (Int×Nat)
 | 0,_,_=>none
 | _+1,_,[]=>none
 | k+1,f,c :: l=>if c < 128 then (if f || decide (0 < c) then some (c,1) else none) else SG c (M.rd k false l)
theorem qaf:∀ (k:Nat) (f:Bool) (l:List Int) (w:Int) (j:Nat),au l->M.rd k f l=some (w,j)->0<=w/\(f=false->0 < w)/\j<=l.length/\1<=j/\w < 128 ^ k/\∀ K,k<=K+1->l.take j=bz K w:=by
 intro k
 induction k with
 | zero=>intro f l w j _ h; simp [M.rd] at h
 | succ k ih =>
  intro f l w j hb h
  cases l with
  | nil=>simp [M.rd] at h
  | cons c l =>
   have hc:=hb c kU;unfold M.rd at h
   by_cases hc1:c < 128
   ·rw [if_pos hc1] at h
    split at h
    ·rename_i hf;simp only [Option.some.injEq,Prod.mk.injEq] at h;obtain ⟨rfl,rfl⟩:=h;have hp:(128:Int)<=128 ^ (k+1):=by
      rw [zXh]; have:(0:Int) < 128 ^ k:=Int.pow_pos Qh; omega
     refine ⟨hc.1,λh0=>by subst h0; simpa using hf,by simp,by omega,by omega,λK _=>?_⟩
     cases K with
     | zero=>simp [bz]; omega
     | succ K=>unfold bz; rw [if_pos ak]; simp; omega
    ·cases h
   ·rw [if_neg hc1] at h
    cases hr:M.rd k false l with
    | none=>rw [hr] at h; cases h
    | some q =>
     obtain ⟨v,n⟩:=q;rw [hr] at h;simp only [SG,Option.some.injEq,Prod.mk.injEq] at h;obtain ⟨rfl,rfl⟩:=h;obtain ⟨h1,h2,h3,h4,h5,h6⟩:=ih false l v n (λx hx=>hb x Tq) hr;have h2:=h2 rfl;have hk:k≠0:=by intro h0; subst h0; simp [M.rd] at hr
     refine ⟨by omega,λ_=>by omega,by simp; omega,by omega,by rw [zXh]; omega,λK hK=>?_⟩;obtain ⟨K,rfl⟩:∃ K',K=K'+1:=⟨K - 1,by omega⟩;unfold bz;rw [if_neg ak,List.take_succ_cons,h6 K ak]
     congr 1
     ·omega
     ·congr 1; omega
theorem XM:∀ (k K:Nat) (f:Bool) (n:Int) (t:List Int),1<=k->0<=n->(f=false->0 < n)->n < 128 ^ k->k<=K+1->M.rd k f (bz K n++t)=some (n,(bz K n).length):=by
 intro k
 induction k with
 | zero=>intro K f n t h0; omega
 | succ k ih =>
  intro K f n t h0 h1 h2 h3 h4
  by_cases h:n<=127
  ·have e:bz K n=[n]:=by
    cases K with
    | zero=>simp [bz]; omega
    | succ K=>unfold bz; rw [if_pos h]; simp; omega
   rw [e];simp only [List.singleton_append,M.rd,zZK];rw [if_pos ak,if_pos (by cases f <;> simp; exact h2 rfl)]
  ·have hk:k≠0:=by
    intro h0; subst h0;rw [show (128:Int) ^ (0+1)=128 by rfl] at h3; omega
   obtain ⟨K,rfl⟩:∃ K',K=K'+1:=⟨K - 1,by omega⟩;unfold bz;rw [if_neg h];simp only [zXy,M.rd];rw [if_neg ak,ih K false (n / 128) t ak ak (λ_=>by omega) (by rw [zXh] at h3; omega) ak];simp only [SG,zQw,Option.some.injEq,Prod.mk.injEq,and_true];omega
theorem SH{a n:Nat}(hn:n<=62)(h:a*2 ^ n < 9223372036854775808):jt .i64 (a:Int) (n:Int)=((a*2 ^ n:Nat):Int):=by
 unfold jt;rw [show min (sY (n:Int)) (IntKind.bits .i64)=n by simp [IntKind.bits]; omega];have e:(a:Int)*2 ^ n=((a*2 ^ n:Nat):Int):=by simp
 rw [e];exact wrap_i64 ak ak
theorem XN{v a n:Nat}(hv:v < 2 ^ n):v ||| a*2 ^ n=v+a*2 ^ n:=by
 have h:=Nat.shiftLeft_add_eq_or_of_lt hv a;rw [Nat.shiftLeft_eq] at h;rw [Nat.or_comm,<- h,Nat.add_comm]
theorem qag{v i:Nat}{c:Int}(hi:i<=7)(hv:v < 2 ^ (7*i))(h1:0<=c)(h2:c<=255):u9 .i64 (v:Int) (jt .i64 (gl .i64 (pa .i64 c) 127) (js .i64 7 (i:Int)))=((v+(c % 128).toNat*2 ^ (7*i):Nat):Int)/\v+(c % 128).toNat*2 ^ (7*i) < 2 ^ (7*(i+1)):=by
 have hp:(2:Nat) ^ (7*i)<=2 ^ 49:=zWy ak ak;have hq:(2:Nat) ^ (7*(i+1))=128*2 ^ (7*i):=by rw [Nat.mul_add,Nat.pow_add,Nat.mul_comm]
 have hc:(c % 128).toNat < 128:=by omega
 have hm:(c % 128).toNat*2 ^ (7*i)<=127*2 ^ (7*i):=zQq _ ak;rw [wrap_i64 ak ak,Y7,kg ak ak,show (7:Int)*(i:Int)=((7*i:Nat):Int) by omega,show c % 128=(((c % 128).toNat:Nat):Int) by omega];rw [show (((c % 128).toNat:Nat):Int).toNat=(c % 128).toNat by omega];have hp2:(2:Nat) ^ 49=562949953421312:=by decide
 rw [SH ak ak,A3 ak ak,XN hv];exact ⟨rfl,by omega⟩
def zi(o:Option (Int×Nat))(v i a:Nat)(r:Int×Int×Bool):Prop:=match o with
 | some (w,j)=>r=((v:Int)+w*2 ^ (7*i),((a+j:Nat):Int),true)
 | none=>r.2.2=false
theorem Uk{o:Option (Int×Nat)}{v i a x:Nat}{c:Int}{r:Int×Int×Bool}(hx:(x:Int)=c - 128)(h:zi o (v+x*2 ^ (7*i)) (i+1) (a+1) r):zi (SG c o) v i a r:=by
 cases o with
 | none=>exact h
 | some q =>
  obtain ⟨w,j⟩:=q;unfold zi at h;unfold zi SG;dsimp only at h ⊢;rw [h];refine Prod.ext ?_ (Prod.ext ?_ rfl)
  ·dsimp only;rw [show 7*(i+1)=7*i+7 by omega,Int.pow_add,<- hx];have:((v+x*2 ^ (7*i):Nat):Int)=(v:Int)+(x:Int)*2 ^ (7*i):=by simp
   rw [this];generalize (2:Int) ^ (7*i)=p;rw [show (2:Int) ^ 7=128 by rfl,zVY,Int.mul_assoc w 128 p,zVK p 128];omega
  ·dsimp only; omega
theorem XO{α:Type}{b:List α}{a:Nat}(h:a < b.length):b.drop a=b[a] :: b.drop (a+1):=zXq h
theorem Wo(u:Nat){b:List Int}(hb:au b)(hl:b.length<=1048576)(a n:Nat)(hn:n<=8):∀ (m i k v:Nat),i+m=n->m < k->v < 2 ^ (7*i)->∃ r,gW u k b a v n i=some r/\zi (M.rd m (i == 0) (b.drop (a+i))) v i (a+i) r:=by
 intro m
 induction m with
 | zero =>
  intro i k v h1 h2 h3;obtain ⟨k,rfl⟩:∃ j,k=j+1:=⟨k - 1,by omega⟩;have e:¬ ((i:Int) < (n:Int)):=by omega
  refine ⟨(0,0,false),?_,rfl⟩;unfold gW uh;simp only [e,decide_false,cond_false]
 | succ m ih =>
  intro i k v h1 h2 h3;obtain ⟨k,rfl⟩:∃ j,k=j+1:=⟨k - 1,by omega⟩;have e:(i:Int) < (n:Int):=by omega
  unfold gW;simp only [e,decide_true,cond_true];rw [dZ (a:=(b.length:Int)) ak ak,dZ ak ak,bk];simp only [wk]
  by_cases ha:a+i < b.length
  ·rw [show ah (a:Int) 0 ((b.length:Int) - 1 - (i:Int))=true by simp [ah]; omega,XO ha,dC (a:=(a:Int)) ak ak,show (a:Int)+(i:Int)=((a+i:Nat):Int) by omega,cU,sX ha];have hc:=hb b[a+i] (zYH ha);obtain ⟨e1,e2⟩:=qag (i:=i) ak h3 hc.1 hc.2;simp only [zQV,cond_false,wk];rw [e1,kg ak ak,b5 ak,wrap_i64 ak ak,dC (a:=((a+i:Nat):Int)) ak ak,fv ak];simp only [wk,M.rd]
   by_cases hc1:b[a+i] < 128
   ·simp only [hc1,decide_true,cond_true,if_true];have hv:((v+(b[a+i] % 128).toNat*2 ^ (7*i):Nat):Int)=(v:Int)+b[a+i]*2 ^ (7*i):=by
     have:((v+(b[a+i] % 128).toNat*2 ^ (7*i):Nat):Int)=(v:Int)+(((b[a+i] % 128).toNat:Nat):Int)*2 ^ (7*i):=by simp
     rw [this,show (((b[a+i] % 128).toNat:Nat):Int)=b[a+i] by omega]
    rw [hv]
    by_cases h0:i=0
    ·subst h0;refine ⟨_,rfl,?_⟩;simp [zi]
    ·have e3:((i:Int) == 0)=false:=by simp; omega
     have e4:(i == 0)=false:=by simpa using h0
     simp only [e3,e4,cond_false,zZj];refine ⟨_,rfl,?_⟩
     by_cases hc2:0 < b[a+i]
     ·have hc3:b[a+i] > 0:=hc2;simp only [hc2,hc3,decide_true,if_true,zi];refine Prod.ext rfl (Prod.ext ?_ rfl);dsimp only; omega
     ·have hc3:¬ b[a+i] > 0:=hc2;simp only [hc2,hc3,decide_false,zQk,if_false,zi]
   ·simp only [hc1,decide_false,cond_false,if_false];obtain ⟨r,g1,g2⟩:=ih (i+1) k _ ak ak e2;refine ⟨r,g1,Uk (x:=(b[a+i] % 128).toNat) ak ?_⟩;rw [show (i+1 == 0)=false by rfl] at g2;exact g2
  ·rw [show ah (a:Int) 0 ((b.length:Int) - 1 - (i:Int))=false by simp [ah]; omega,zYQ ak];exact ⟨(0,0,false),rfl,rfl⟩
def w7(n:Nat)(b:List Int)(a:Int):Option (Int×Int):=if 0<=a then match M.rd n true (b.drop a.toNat) with
  | some (v,j)=>some (v,a+j)
  | none=>none
 else none
theorem NU{u:Nat}(hu:1099511627776<=u){b:List Int}(hb:au b)(hl:b.length<=1048576)(a:Int)(n:Nat)(h1:1<=n)(hn:n<=8):∃ r,p7 u b a n=some r/\(match w7 n b a with | some (v,e)=>r=(v,e,true) | none=>r.2.2=false):=by
 unfold p7 w7
 by_cases ha:0<=a
 ·obtain ⟨a,rfl⟩:=zQH ha;obtain ⟨r,g1,g2⟩:=Wo u hb hl a n hn n 0 u 0 ak ak kU;refine ⟨r,g1,?_⟩;rw [if_pos ha,rg];rw [zXx] at g2;unfold zi at g2
  cases hr:M.rd n true (b.drop a) with
  | none=>rw [show ((0 == 0:Bool))=true by rfl,hr] at g2; exact g2
  | some q=>obtain ⟨w,j⟩:=q; rw [show ((0 == 0:Bool))=true by rfl,hr] at g2; simpa using g2
 ·obtain ⟨u,rfl⟩:∃ j,u=j+1:=⟨u - 1,by omega⟩;rw [if_neg ha];refine ⟨(0,0,false),?_,rfl⟩;unfold gW;have e:(0:Int) < (n:Int):=by omega
  simp only [e,decide_true,cond_true];rw [dZ (a:=(b.length:Int)) ak ak,dZ ak ak,bk,show ah a 0 ((b.length:Int) - 1 - 0)=false by simp [ah]; omega];rfl
def bJ(b:List Int)(a:Int):Int×Int×Bool:=match w7 6 b a with
 | some (v,e)=>if v<=1000000000000 then (v,e,true) else (0,0,false)
 | none=>(0,0,false)
theorem wv{u:Nat}(hu:1099511627776<=u){b:List Int}(hb:au b)(hl:b.length<=1048576)(a:Int):om u b a=some (bJ b a):=by
 obtain ⟨r,g1,g2⟩:=NU hu hb hl a 6 ak ak;unfold om bJ;rw [show ((6:Nat):Int)=6 by rfl] at g1;rw [g1];simp only [wk]
 cases hr:w7 6 b a with
 | none=>rw [hr] at g2; rw [g2]; rfl
 | some q =>
  obtain ⟨v,e⟩:=q;rw [hr] at g2;rw [g2]
  by_cases h:v<=1000000000000
  ·have:¬ v > 1000000000000:=by omega
   simp [h,this,ry]
  ·have:v > 1000000000000:=by omega
   simp [h,this,ry]
theorem FL{α:Type}(b:List α)(a j:Nat):b.take (a+j)=b.take a++(b.drop a).take j:=List.take_add
theorem SJ{n:Nat}{b:List Int}{a v e:Int}(hb:au b)(h:w7 n b a=some (v,e))(hn:n<=10):0<=a/\a < e/\e<=b.length/\0<=v/\v < 128 ^ n/\b.take e.toNat=b.take a.toNat++bz 9 v:=by
 unfold w7 at h
 by_cases ha:0<=a
 ·rw [if_pos ha] at h
  cases hr:M.rd n true (b.drop a.toNat) with
  | none=>rw [hr] at h; cases h
  | some q =>
   obtain ⟨w,j⟩:=q;rw [hr] at h;simp only [Option.some.injEq,Prod.mk.injEq] at h;obtain ⟨rfl,rfl⟩:=h;obtain ⟨h1,h2,h3,h4,h5,h6⟩:=qaf n true _ w j (λx hx=>hb x (zXj hx)) hr;rw [zYZ] at h3;refine ⟨ha,by omega,by omega,h1,h5,?_⟩;rw [show (a+(j:Int)).toNat=a.toNat+j by omega,FL,h6 9 ak]
 ·rw [if_neg ha] at h; cases h
theorem eg{b:List Int}{a v e:Int}(hb:au b)(h:bJ b a=(v,e,true)):0<=a/\a < e/\e<=b.length/\0<=v/\v<=1000000000000/\b.take e.toNat=b.take a.toNat++bz 9 v:=by
 unfold bJ at h
 cases hr:w7 6 b a with
 | none=>rw [hr] at h; cases h
 | some q =>
  obtain ⟨w,e'⟩:=q;rw [hr] at h;dsimp only at h
  split at h
  ·simp only [Prod.mk.injEq,and_true] at h;obtain ⟨rfl,rfl⟩:=h;have:=SJ hb hr ak;exact ⟨this.1,this.2.1,this.2.2.1,this.2.2.2.1,by assumption,this.2.2.2.2.2⟩
  ·cases h
theorem eh(b:List Int)(a:Int):(∃ v e,bJ b a=(v,e,true))\/bJ b a=(0,0,false):=by
 unfold bJ
 split
 ·split
  ·exact .inl ⟨_,_,rfl⟩
  ·exact .inr rfl
 ·exact .inr rfl
theorem NV{p:List Int}{n:Int}(t:List Int)(h0:0<=n)(h1:n<=1000000000000):bJ (p++bz 9 n++t) p.length=(n,((p.length+(bz 9 n).length:Nat):Int),true):=by
 unfold bJ w7;rw [if_pos ak,rg,zQX,List.drop_left,XM 6 9 true n t ak h0 (λh=>by cases h) (by rw [show (128:Int) ^ 6=4398046511104 by decide]; omega) ak];simp [h1]
def lM(m:af):Bool:=(m.aM == 0) && (m.ar == 0) && (m.aU == 0) && (m.aG.length == 0)
theorem ww(u:Nat)(m:af):jx u m=some (lM m):=by
 unfold jx lM;rw [show ((m.aG.length:Int) == 0)=(m.aG.length == 0) from QX _ 0]
 cases m.aM == 0 <;> cases m.ar == 0 <;> cases m.aU == 0 <;> rfl
def kT(m:j4):Bool :=
 if m.bG=1 then (m.aM == 0) && (m.aB.aM != 0) && dp m.aB && ((m.bZ == 0) && (m.bR == 0) && (m.fI == 0) && (m.fB.length == 0))
 else if m.bG=2 then ah m.aM 0 1000000 && lM m.aB && bh m.bZ && bh m.bR && (m.fI == 0) && (m.fB.length == 0)
 else if m.bG=3 then ah m.aM 1 1000000 && lM m.aB && (m.bZ == 0) && (m.bR == 0) && ah m.fI 0 39 && ah m.fB.length 1 6
 else if m.bG=4 then ah m.aM 0 1000000 && lM m.aB && ((m.bZ == 0) && (m.bR == 0) && (m.fI == 0) && (m.fB.length == 0))
 else false
theorem Bo{u:Nat}(hu:1099511627776<=u){m:j4}(hs:m.aB.aG.length<=1048576):wR u m=some (kT m):=by
 unfold wR kT ko pX od;simp only [mN hu m.aB (show m.aB.aG.length<=1073741824 by omega),ww,jv,bk,wk];rw [show ((m.fB.length:Int) == 0)=(m.fB.length == 0) from QX _ 0];generalize dp m.aB=x1;generalize lM m.aB=x2;generalize bh m.bZ=x3;generalize bh m.bR=x4;generalize ah m.aM 0 1000000=x5;generalize ah m.aM 1 1000000=x6;generalize ah m.fI 0 39=x7;generalize ah m.fB.length 1 6=x8;generalize (m.fB.length == 0)=x9;generalize (m.aB.aM != 0)=x10;generalize (m.aM == 0)=x11;generalize (m.bZ == 0)=x12;generalize (m.bR == 0)=x13;generalize (m.fI == 0)=x14
 by_cases h1:m.bG=1
 ·simp only [h1,beq_self_eq_true,cond_true,if_true]
  cases x1 <;> cases x10 <;> cases x11 <;> cases x12 <;> cases x13 <;> cases x14 <;> cases x9 <;> rfl
 ·have e1:(m.bG == 1)=false:=by simpa using h1
  by_cases h2:m.bG=2
  ·simp only [h2,e1,beq_self_eq_true,cond_true,if_true]
   cases x5 <;> cases x2 <;> cases x3 <;> cases x4 <;> cases x14 <;> cases x9 <;> rfl
  ·have e2:(m.bG == 2)=false:=by simpa using h2
   by_cases h3:m.bG=3
   ·simp only [h3,beq_self_eq_true,cond_true,if_true]
    cases x6 <;> cases x2 <;> cases x12 <;> cases x13 <;> cases x7 <;> cases x8 <;> rfl
   ·have e3:(m.bG == 3)=false:=by simpa using h3
    by_cases h4:m.bG=4
    ·simp only [h4,beq_self_eq_true,cond_true,if_true]
     cases x5 <;> cases x2 <;> cases x12 <;> cases x13 <;> cases x14 <;> cases x9 <;> rfl
    ·have e4:(m.bG == 4)=false:=by simpa using h4
     simp only [e1,e2,e3,e4,h1,h2,h3,h4,cond_false,if_false]
def CD:af×Int×Bool:=(⟨0,0,0,[]⟩,0,false)
def nX:Nat->List Int->Int->List cS->Option (List cS×Int)
 | 0,_,a,acc=>some (acc,a)
 | n+1,b,a,acc=>match w7 8 b a with
  | some (v,e)=>if (cy v).2 then nX n b e (acc++[dg (cy v).1]) else none
  | none=>none
def Ea(g s l:Int):Option (List cS×Int)->af×Int×Bool
 | some (ss,e)=>if dp ⟨g,s,l,ss⟩ then (⟨g,s,l,ss⟩,e,true) else CD
 | none=>CD
theorem O4{u:Nat}(hu:1099511627776<=u){b:List Int}(hb:au b)(hl:b.length<=1048576)(g s l:Int)(n:Nat)(hn:n<=1000):∀ (m i k:Nat) (a:Int) (acc:List cS),i+m=n->m < k->acc.length+m<=1000->eM u k b a n i g s l acc=some (Ea g s l (nX m b a acc)):=by
 intro m
 induction m with
 | zero =>
  intro i k a acc h1 h2 h3;obtain ⟨k,rfl⟩:∃ j,k=j+1:=⟨k - 1,by omega⟩;have e:¬ ((i:Int) < (n:Int)):=by omega
  unfold eM rz;simp only [e,decide_false,cond_false];rw [mN hu _ (show acc.length<=1073741824 by omega)];simp only [wk,nX,Ea,CD]
  cases dp ⟨g,s,l,acc⟩ <;> rfl
 | succ m ih =>
  intro i k a acc h1 h2 h3;obtain ⟨k,rfl⟩:∃ j,k=j+1:=⟨k - 1,by omega⟩;have e:(i:Int) < (n:Int):=by omega
  obtain ⟨r,g1,g2⟩:=NU hu hb hl a 8 ak ak;rw [show ((8:Nat):Int)=8 by rfl] at g1;unfold eM nc;simp only [e,decide_true,cond_true,g1,wk,C3 hu,nX]
  cases hr:w7 8 b a with
  | none=>rw [hr] at g2; rw [g2]; rfl
  | some q =>
   obtain ⟨v,e'⟩:=q;rw [hr] at g2;rw [g2];have hv:=Bl v;dsimp only
   cases h:(cy v).2 with
   | false=>rfl
   | true =>
    simp only [zQV,cond_false,if_true];rw [tT hu hv.1 ak];simp only [wk];rw [b5 lv,fv ak];exact ih (i+1) k e' _ ak ak lv
def w8:Nat->List Int->Int->List Int->List Int×Int×Bool
 | 0,_,a,acc=>(acc,a,true)
 | n+1,b,a,acc=>if (bJ b a).2.2 then w8 n b (bJ b a).2.1 (acc++[(bJ b a).1]) else ([],0,false)
theorem Ul{u:Nat}(hu:1099511627776<=u){b:List Int}(hb:au b)(hl:b.length<=1048576)(n:Nat)(hn:n<=1000):∀ (m i k:Nat) (a:Int) (acc:List Int),i+m=n->m < k->acc.length+m<=1000->fp u k b a acc n i=some (w8 m b a acc):=by
 intro m
 induction m with
 | zero =>
  intro i k a acc h1 h2 h3;obtain ⟨k,rfl⟩:∃ j,k=j+1:=⟨k - 1,by omega⟩;have e:¬ ((i:Int) < (n:Int)):=by omega
  unfold fp pp;simp only [e,decide_false,cond_false]; rfl
 | succ m ih =>
  intro i k a acc h1 h2 h3;obtain ⟨k,rfl⟩:∃ j,k=j+1:=⟨k - 1,by omega⟩;have e:(i:Int) < (n:Int):=by omega
  unfold fp;simp only [e,decide_true,cond_true,wv hu hb hl,wk,w8]
  cases h:(bJ b a).2.2 with
  | false=>rfl
  | true =>
   simp only [zQV,cond_false,if_true];rw [b5 lv,fv ak];exact ih (i+1) k _ _ ak ak lv
theorem Eb{u:Nat}(hu:1099511627776<=u){b:List Int}(hb:au b)(hl:b.length<=1048576)(a:Int)(n:Nat)(hn:n<=1000):kK u b a n=some (w8 n b a []):=by
 unfold kK;exact Ul hu hb hl n hn n 0 u a [] ak ak lv
def qC(b:List Int)(a:Int):af×Int×Bool :=
 let g1:=bJ b a
 let g2:=bJ b g1.2.1
 let g3:=bJ b g2.2.1
 if g1.2.2 && g2.2.2 && g3.2.2 then Ea g1.1 g2.1 g3.1 (nX (bg g2.1 g3.1).toNat b g3.2.1 []) else CD
theorem NW{u:Nat}(hu:1099511627776<=u){b:List Int}(hb:au b)(hl:b.length<=1048576)(a:Int):rA u b a=some (qC b a):=by
 unfold rA qC;rw [show (3:Int)=((3:Nat):Int) by rfl,Eb hu hb hl a 3 ak];simp only [wk,w8]
 cases h1:(bJ b a).2.2 with
 | false=>rfl
 | true =>
  cases h2:(bJ b (bJ b a).2.1).2.2 with
  | false=>rfl
  | true =>
   cases h3:(bJ b (bJ b (bJ b a).2.1).2.1).2.2 with
   | false=>rfl
   | true =>
    have hk:=blocks_range (bJ b (bJ b a).2.1).1 (bJ b (bJ b (bJ b a).2.1).2.1).1;simp only [if_true,zQV,cond_false,zWZ,zWH,zQX,zXy];rw [show (0:Int)=((0:Nat):Int) by rfl,show (1:Int)=((1:Nat):Int) by rfl,show (2:Int)=((2:Nat):Int) by rfl];simp only [cU,zQh,List.getElem?_cons_succ,wk,pF];generalize hn:(bg (bJ b (bJ b a).2.1).1 (bJ b (bJ b (bJ b a).2.1).2.1).1)=n at hk;obtain ⟨n,rfl⟩:=zQH hk.1;rw [rg];exact O4 hu hb hl _ _ _ n ak n 0 u _ [] ak ak lv
theorem NX(xs:List Int):(strOfNums xs).toList=xs.map λn=>UInt8.ofNat n.toNat:=by
 rw [ByteArray.toList_eq,strOfNums_data]
theorem qah{a b:Int}(h1:0<=a)(h2:a<=255)(h3:0<=b)(h4:b<=255)(h:UInt8.ofNat a.toNat=UInt8.ofNat b.toNat):a=b:=by
 have:=congrArg UInt8.toNat h;simp only [UInt8.toNat_ofNat'] at this;omega
theorem H9{a b:List Int}(ha:au a)(hb:au b):uY a b=decide (a=b):=by
 unfold uY;rw [zXH,beq_iff_eq,decide_eq_true_eq,NX,NX];constructor
 ·intro h
  revert b
  induction a with
  | nil=>intro b _ h; cases b with
   | nil=>rfl
   | cons y b=>simp at h
  | cons x a ih =>
   intro b hb h
   cases b with
   | nil=>simp at h
   | cons y b =>
    simp only [zWh,List.cons.injEq] at h;have hx:=ha x kU;have hy:=hb y kU;rw [qah hx.1 hx.2 hy.1 hy.2 h.1,ih (λz hz=>ha z WP) (λz hz=>hb z WP) h.2]
 ·intro h; rw [h]
def w9(b:List Int)(a:Int):List Int×Int×Bool :=
 let g:=bJ b a
 if g.2.2 && decide (g.1<=6) && decide (g.1<=b.length - g.2.1) then (M.win b g.2.1.toNat g.1.toNat,g.2.1+g.1,true) else ([],0,false)
theorem LV{u:Nat}(hu:1099511627776<=u){b:List Int}(hb:au b)(hl:b.length<=1048576)(a:Int):p8 u b a 6=some (w9 b a):=by
 unfold p8 w9 qu;simp only [wv hu hb hl,wk];rcases eh b a with ⟨v,e,h⟩ | h
 ·rw [h];have p:=eg hb h;dsimp only
  by_cases h6:v<=6
  ·have h7:¬ v > 6:=by omega
   simp only [h6,h7,decide_true,decide_false,zQV,cond_false,zWX];obtain ⟨v,rfl⟩:=zQH p.2.2.2.1;obtain ⟨e,rfl⟩:=zQH (show 0<=e by omega)
   by_cases hv:(v:Int)<=(b.length:Int) - (e:Int)
   ·rw [FG u (show e+v<=b.length by omega) ak];simp only [hv,decide_true,if_true,wk,zQV,cond_false,rg];rw [dC ak ak]
   ·simp only [hv,decide_false,zQk,if_false];unfold pW qK;rw [dZ ak ak,bk,bk,show ah (e:Int) 0 (b.length:Int)=true by simp [ah]; omega,show ah (v:Int) 0 ((b.length:Int) - (e:Int))=false by simp [ah]; omega];rfl
  ·have h7:v > 6:=by omega
   simp [h6,h7]
 ·rw [h]; simp
theorem SK{b p:List Int}{a e:Int}(hb:au b)(h:w9 b a=(p,e,true)):0<=a/\a < e/\e<=b.length/\au p/\p.length<=6/\b.take e.toNat=(b.take a.toNat++bz 9 p.length)++p:=by
 unfold w9 at h;rcases eh b a with ⟨v,e',g⟩ | g
 ·rw [g] at h;have q:=eg hb g;dsimp only at h
  split at h
  ·rename_i hc;simp only [zWX,sk,decide_eq_true_eq] at hc;simp only [Prod.mk.injEq,and_true] at h;obtain ⟨rfl,rfl⟩:=h;obtain ⟨v,rfl⟩:=zQH q.2.2.2.1;obtain ⟨e',rfl⟩:=zQH (show 0<=e' by omega);simp only [rg] at q ⊢;have hw:(M.win b e' v).length=v:=by unfold M.win; rw [zYZ,zQx]; omega
   refine ⟨q.1,by omega,by omega,lp hb _ _,by omega,?_⟩;rw [show ((e':Int)+(v:Int)).toNat=e'+v by omega,FL,q.2.2.2.2.2,hw,NF]
  ·cases h
 ·rw [g] at h; cases h
def nv(c:List Int)(s:Int):List Int:=aF (aF c (gl .i64 s 1048575)) (ju .i64 s 20)
def ck(m:j4):List Int :=
 if m.bG=1 then qz (aF [] m.bG) m.aB
 else if m.bG=2 then nv (nv (aF (aF [] m.bG) m.aM) m.bZ) m.bR
 else if m.bG=3 then aF (aF (aF (aF [] m.bG) m.aM) m.fI) m.fB.length++m.fB
 else if m.bG=4 then aF (aF [] m.bG) m.aM
 else aF [] m.bG
def dh(m:j4):List Int:=if kT m then aF (ck m) (cR (ck m)) else []
structure M.MsgWf (m:j4):Prop where
 sums:m.aB.aG.length<=1048576
 wf:xr m.aB
 b:au m.fB
 len:m.fB.length<=1048576
theorem iQ{b:List Int}(h:au b)(n:Int):au (aF b n):=by
 unfold aF
 split
 ·exact A0 h (PM 9 n)
 ·exact h
theorem O5:∀ (l:List cS) (b:List Int),au b->au (nW b l):=by
 intro l
 induction l with
 | nil=>intro b h; exact h
 | cons s l ih=>intro b h; exact ih _ (A0 h (PM 9 s.fS))
theorem Q3{b:List Int}(h:au b)(m:af):au (qz b m):=by
 unfold qz
 split
 ·exact O5 _ _ (iQ (iQ (iQ h _) _) _)
 ·exact h
theorem FM(b:List Int)(m:af):(qz b m).length<=b.length+430:=by
 unfold qz
 split
 ·rename_i h;have h0:=w5 h;have h1:=a9 b m.aM;have h2:=a9 (aF b m.aM) m.ar;have h3:=a9 (aF (aF b m.aM) m.ar) m.aU;have h4:=D2 m.aG (aF (aF (aF b m.aM) m.ar) m.aU);omega
 ·omega
theorem ku:au []:=λx hx=>by simp at hx
theorem NY{m:j4}(hm:M.MsgWf m):au (ck m)/\(ck m).length<=1049600:=by
 have k:=a9 [] m.bG;have kb:=iQ ku m.bG;have g:=a9 (aF [] m.bG) m.aM;have gb:=iQ kb m.aM;simp only [zWv] at k;unfold ck nv
 split
 ·exact ⟨Q3 kb _,by have:=FM (aF [] m.bG) m.aB; omega⟩
 ·split
  ·refine ⟨iQ (iQ (iQ (iQ gb _) _) _) _,?_⟩;have h1:=a9 (aF (aF [] m.bG) m.aM) (gl .i64 m.bZ 1048575);have h2:=a9 (aF (aF (aF [] m.bG) m.aM) (gl .i64 m.bZ 1048575)) (ju .i64 m.bZ 20);have h3:=a9 (aF (aF (aF (aF [] m.bG) m.aM) (gl .i64 m.bZ 1048575)) (ju .i64 m.bZ 20)) (gl .i64 m.bR 1048575);have h4:=a9 (aF (aF (aF (aF (aF [] m.bG) m.aM) (gl .i64 m.bZ 1048575)) (ju .i64 m.bZ 20)) (gl .i64 m.bR 1048575)) (ju .i64 m.bR 20);omega
  ·split
   ·refine ⟨A0 (iQ (iQ gb _) _) hm.b,?_⟩;have h1:=a9 (aF (aF [] m.bG) m.aM) m.fI;have h2:=a9 (aF (aF (aF [] m.bG) m.aM) m.fI) m.fB.length;have h3:=hm.len;rw [zQG]; omega
   ·split
    ·exact ⟨gb,by omega⟩
    ·exact ⟨kb,by omega⟩
theorem Ah{u:Nat}(hu:1099511627776<=u){m:j4}(hm:M.MsgWf m):pR u m=some (dh m):=by
 have k:=a9 [] m.bG;have g:=a9 (aF [] m.bG) m.aM;simp only [zWv] at k;have hl:=hm.len;obtain ⟨hb,hbl⟩:=NY hm;unfold pR dh;rw [Bo hu hm.sums];simp only [wk]
 cases hok:kT m with
 | false=>rfl
 | true =>
  simp only [zQV,cond_false,if_true];rw [eO hu kU];simp only [wk];have tail:jE u (ck m)=some (aF (ck m) (cR (ck m))):=by
   unfold jE;rw [Ac hu hb ak];simp only [wk];rw [eO hu ak]; rfl
  rw [<- tail]
  clear tail hbl hb
  unfold ck nv
  by_cases h1:m.bG=1
  ·simp only [h1,beq_self_eq_true,cond_true,if_true];rw [h1] at k;rw [NE hu ak (by have:=hm.sums; omega) hm.wf]; rfl
  ·have e1:(m.bG == 1)=false:=by simpa using h1
   by_cases h2:m.bG=2
   ·rw [h2] at k g;have h3:=a9 (aF (aF [] 2) m.aM) (gl .i64 m.bZ 1048575);have h4:=a9 (aF (aF (aF [] 2) m.aM) (gl .i64 m.bZ 1048575)) (ju .i64 m.bZ 20);have h5:=a9 (aF (aF (aF (aF [] 2) m.aM) (gl .i64 m.bZ 1048575)) (ju .i64 m.bZ 20)) (gl .i64 m.bR 1048575);simp only [h2,beq_self_eq_true,cond_true,if_true,xK];rw [eO hu ak]; simp only [wk];rw [eO hu ak]; simp only [wk];rw [eO hu ak]; simp only [wk];rw [eO hu ak]; simp only [wk];rw [eO hu ak]; rfl
   ·have e2:(m.bG == 2)=false:=by simpa using h2
    by_cases h3:m.bG=3
    ·rw [h3] at k g;have h4:=a9 (aF (aF [] 3) m.aM) m.fI;have h5:=a9 (aF (aF (aF [] 3) m.aM) m.fI) m.fB.length;simp only [h3,beq_self_eq_true,cond_true,if_true,ze];rw [eO hu ak]; simp only [wk];rw [eO hu ak]; simp only [wk];rw [eO hu ak]; simp only [wk];rw [b5 ak]; rfl
    ·have e3:(m.bG == 3)=false:=by simpa using h3
     by_cases h4:m.bG=4
     ·rw [h4] at k;simp only [h4,beq_self_eq_true,cond_true,if_true];rw [eO hu ak]; rfl
     ·have e4:(m.bG == 4)=false:=by simpa using h4
      simp only [e1,e2,e3,e4,h1,h2,h3,h4,cond_false,if_false]
theorem d2{c:List Int}{n:Int}(h0:0<=n)(h1:n<=1000000000000):aF c n=c++bz 9 n:=by
 unfold aF;rw [if_pos (by simp [ah]; omega)]
theorem SL{b:List Int}(hb:au b):∀ (n:Nat) (a:Int) (acc l:List cS) (e:Int),nX n b a acc=some (l,e)->0<=a->a<=b.length->∃ l',l=acc++l'/\a<=e/\e<=b.length/\b.take e.toNat=nW (b.take a.toNat) l'/\∀ s∈l',s.fS<=9223372036854775807:=by
 intro n
 induction n with
 | zero =>
  intro a acc l e h h0 h1;simp only [nX,Option.some.injEq,Prod.mk.injEq] at h;obtain ⟨rfl,rfl⟩:=h;exact ⟨[],by simp,by omega,h1,rfl,by simp⟩
 | succ n ih =>
  intro a acc l e h h0 h1;unfold nX at h
  cases hr:w7 8 b a with
  | none=>rw [hr] at h; cases h
  | some q =>
   obtain ⟨v,e1⟩:=q;rw [hr] at h;dsimp only at h;have p:=SJ hb hr ak
   split at h
   ·rename_i hv;obtain ⟨l',g1,g2,g3,g4,g5⟩:=ih e1 _ l e h ak p.2.2.1;have hs:(dg (cy v).1).fS=v:=by
     have:=FE (s:=v) (b:=(cy v).1) (by rw [<- hv]);rw [this]
    have hp:(128:Int) ^ 8=72057594037927936:=by decide
    refine ⟨dg (cy v).1 :: l',by rw [g1]; simp,by omega,g3,?_,?_⟩
    ·rw [g4,p.2.2.2.2.2,nW,hs]
    ·intro s hs';rcases aaa.1 hs' with rfl | hs'
     ·rw [hs]; omega
     ·exact g5 s hs'
   ·cases h
theorem Um{b:List Int}(hb:au b){a e:Int}{m:af}(h:qC b a=(m,e,true)):0<=a/\a<=e/\e<=b.length/\dp m=true/\xr m/\b.take e.toNat=qz (b.take a.toNat) m:=by
 unfold qC at h;rcases eh b a with ⟨v1,e1,h1⟩ | h1
 ·rw [h1] at h;dsimp only at h;rcases eh b e1 with ⟨v2,e2,h2⟩ | h2
  ·rw [h2] at h;dsimp only at h;rcases eh b e2 with ⟨v3,e3,h3⟩ | h3
   ·rw [h3] at h;simp only [zWZ,if_true] at h;have p1:=eg hb h1;have p2:=eg hb h2;have p3:=eg hb h3
    cases hs:nX (bg v2 v3).toNat b e3 [] with
    | none=>rw [hs] at h; cases h
    | some q =>
     obtain ⟨ss,e'⟩:=q;rw [hs] at h;unfold Ea at h;dsimp only at h
     split at h
     ·rename_i hm;simp only [Prod.mk.injEq,and_true] at h;obtain ⟨rfl,rfl⟩:=h;obtain ⟨l',g1,g2,g3,g4,g5⟩:=SL hb _ e3 [] ss e' hs ak p3.2.2.1;rw [zWH] at g1;subst g1;refine ⟨p1.1,by omega,g3,hm,g5,?_⟩;unfold qz;rw [if_pos hm,d2 p1.2.2.2.1 p1.2.2.2.2.1,d2 p2.2.2.2.1 p2.2.2.2.2.1,d2 p3.2.2.2.1 p3.2.2.2.2.1,g4,p3.2.2.2.2.2,p2.2.2.2.2.2,p1.2.2.2.2.2]
     ·cases h
   ·rw [h3] at h; simp [CD] at h
  ·rw [h2] at h; simp [CD] at h
 ·rw [h1] at h; simp [CD] at h
def xX(n:Int):Bool:=decide (n < 1048576)
def Dm:af:=⟨0,0,0,[]⟩
def BZ(b:List Int)(a:Int):Option (j4×Int) :=
 let g0:=bJ b a
 let g1:=bJ b g0.2.1
 let g2:=bJ b g1.2.1
 let g3:=bJ b g2.2.1
 let g4:=bJ b g3.2.1
 if g0.2.2 && ((g1.2.2 && xX g1.1) && ((g2.2.2 && xX g2.1) && ((g3.2.2 && xX g3.1) && (g4.2.2 && xX g4.1)))) then some (⟨2,g0.1,Dm,g1.1+g2.1*1048576,g3.1+g4.1*1048576,0,[]⟩,g4.2.1) else none
def Ec(b:List Int)(a:Int):Option (j4×Int) :=
 let g0:=bJ b a
 let g1:=bJ b g0.2.1
 let g2:=w9 b g1.2.1
 if g0.2.2 && g1.2.2 && g2.2.2 then some (⟨3,g0.1,Dm,0,0,g1.1,g2.1⟩,g2.2.1) else none
theorem ET{x y:Int}(h1:0<=x)(h2:x < 1048576)(h3:0<=y)(h4:y < 1048576):aV .i64 x (jt .i64 y 20)=x+y*1048576/\u9 .i64 x (jt .i64 y 20)=x+y*1048576/\gl .i64 (x+y*1048576) 1048575=x/\ju .i64 (x+y*1048576) 20=y:=by
 obtain ⟨a,rfl⟩:=zQH h1;obtain ⟨c,rfl⟩:=zQH h3;have hp:(2:Nat) ^ 20=1048576:=by decide
 have e:=SH (a:=c) (n:=20) ak (by rw [hp]; omega);rw [hp] at e;rw [show ((20:Nat):Int)=20 by rfl] at e;rw [e];refine ⟨by rw [dC ak ak]; omega,?_,?_,?_⟩
 ·have h:=XN (v:=a) (a:=c) (n:=20) (by rw [hp]; omega);rw [hp] at h;rw [A3 ak ak,h]; omega
 ·rw [show (a:Int)+(c:Int)*1048576=((a+c*1048576:Nat):Int) by omega,show (1048575:Int)=((1048575:Nat):Int) by rfl,Sv ak ak,show (1048575:Nat)=2 ^ 20 - 1 by decide,zZz,hp]; omega
 ·rw [show (a:Int)+(c:Int)*1048576=((a+c*1048576:Nat):Int) by omega,show (20:Int)=((20:Nat):Int) by rfl,Sw ak,hp]; omega
theorem nxt{b p t:List Int}{e e' v n:Int}(hb:b=p++bz 9 n++t)(hp:b.take e.toNat=p)(h0:0<=e)(h1:e<=b.length)(hg:bJ b e=(v,e',true))(n0:0<=n)(n1:n<=1000000000000):v=n/\b.take e'.toNat=p++bz 9 n:=by
 have hl:p.length=e.toNat:=by rw [<- hp,zQx]; omega
 have h:=NV (p:=p) (n:=n) t n0 n1;rw [<- hb,hl,show ((e.toNat:Nat):Int)=e by omega,hg] at h;simp only [Prod.mk.injEq,and_true] at h;refine ⟨h.1,?_⟩;rw [h.2,rg,hb,<- hl,<- zQG,List.take_left]
theorem Kz{w:Int}(h:bh w=true):∃ x y,0<=x/\x < 1048576/\0<=y/\y < 1048576/\gl .i64 w 1048575=x/\ju .i64 w 20=y:=by
 have h:=bI h;have:=ET (x:=w % 1048576) (y:=w / 1048576) ak ak ak ak;refine ⟨w % 1048576,w / 1048576,by omega,by omega,by omega,by omega,?_,?_⟩
 ·have h2:=this.2.2.1;rwa [show w % 1048576+w / 1048576*1048576=w by omega] at h2
 ·have h2:=this.2.2.2;rwa [show w % 1048576+w / 1048576*1048576=w by omega] at h2
theorem zj{k:Int}(h0:0<=k)(h1:k<=1000000000000):aF [] k=bz 9 k:=by rw [d2 h0 h1]; rfl
theorem Za{b:List Int}(hb:au b){a v0 e0 v1 e1 v2 e2 v3 e3 v4 e4 W D:Int}(ha:b.take a.toNat=bz 9 2)(h0:bJ b a=(v0,e0,true))(h1:bJ b e0=(v1,e1,true))(h2:bJ b e1=(v2,e2,true))(h3:bJ b e2=(v3,e3,true))(h4:bJ b e3=(v4,e4,true))
  (hok:kT ⟨2,v0,Dm,W,D,0,[]⟩=true) (hp:dh ⟨2,v0,Dm,W,D,0,[]⟩=b):xX v1=true/\xX v2=true/\xX v3=true/\xX v4=true:=by
 have p0:=eg hb h0;have p1:=eg hb h1;have p2:=eg hb h2;have p3:=eg hb h3;have p4:=eg hb h4;have hs:bh W=true/\bh D=true:=by
  unfold kT at hok;dsimp only at hok;rw [if_neg (show ¬ ((2:Int)=1) by decide),if_pos rfl] at hok;simp only [sk] at hok;exact ⟨hok.1.1.1.2,hok.1.1.2⟩
 obtain ⟨x1,x2,a1,a2,a3,a4,a5,a6⟩:=Kz hs.1;obtain ⟨x3,x4,c1,c2,c3,c4,c5,c6⟩:=Kz hs.2;unfold dh at hp;rw [if_pos hok] at hp;have hbody:ck ⟨2,v0,Dm,W,D,0,[]⟩=bz 9 2++bz 9 v0++bz 9 x1++bz 9 x2++bz 9 x3++bz 9 x4:=by
  show nv (nv (aF (aF [] 2) v0) W) D=_;unfold nv;rw [a5,a6,c5,c6,zj ak ak,d2 p0.2.2.2.1 p0.2.2.2.2.1,d2 a1 ak,d2 a3 ak,d2 c1 ak,d2 c3 ak]
 have hw:=H6 (ck ⟨2,v0,Dm,W,D,0,[]⟩);rw [d2 hw.1 ak,hbody] at hp;generalize bz 9 (cR (bz 9 2++bz 9 v0++bz 9 x1++bz 9 x2++bz 9 x3++bz 9 x4))=t at hp;have q0:b.take e0.toNat=bz 9 2++bz 9 v0:=by rw [p0.2.2.2.2.2,ha]
 have q1:=nxt (t:=bz 9 x2++bz 9 x3++bz 9 x4++t) (by rw [<- hp]; simp) q0 ak p0.2.2.1 h1 a1 ak;have q2:=nxt (t:=bz 9 x3++bz 9 x4++t) (by rw [<- hp]; simp) q1.2 ak p1.2.2.1 h2 a3 ak;have q3:=nxt (t:=bz 9 x4++t) (by rw [<- hp]; simp) q2.2 ak p2.2.2.1 h3 c1 ak;have q4:=nxt (t:=t) (by rw [<- hp]) q3.2 ak p3.2.2.1 h4 c3 ak;unfold xX;simp only [decide_eq_true_eq];omega
theorem FN(k g w d i:Int){p:List Int}(hp:au p)(hl:p.length<=1048576):M.MsgWf ⟨k,g,Dm,w,d,i,p⟩:=⟨by simp [Dm],by intro s hs; simp [Dm] at hs,hp,hl⟩
def Bp(b:List Int)(r:j4×Bool)(o:Option (j4×Int)):Prop:=match o with
 | some (m,e)=>r=(m,true)
 | none=>r.2=false\/(M.MsgWf r.1/\(kT r.1=true->dh r.1≠b))
theorem CE{b:List Int}{r:j4×Bool}{c:Bool}{x:j4×Int}(hc:c=false)(hr:r.2=false):Bp b r (if c then some x else none):=by
 subst hc; exact .inl hr
theorem Vm{α:Type}{b:Bool}(h:b=true)(x y:α):(bif !b then x else y)=y:=by subst h; rfl
theorem NZ{α β:Type}(a:α)(f:α->Option β):(some a).bind f=f a:=(wk (a:=a) (f:=f)).trans (Eq.refl _)
theorem qaV(a b c d e:Int):eS [a,b,c,d,e] 0=some a:=(cU [a,b,c,d,e] 0).trans rfl
theorem qaW(a b c d e:Int):eS [a,b,c,d,e] 1=some b:=(cU [a,b,c,d,e] 1).trans rfl
theorem qaX(a b c d e:Int):eS [a,b,c,d,e] 2=some c:=(cU [a,b,c,d,e] 2).trans rfl
theorem qaY(a b c d e:Int):eS [a,b,c,d,e] 3=some d:=(cU [a,b,c,d,e] 3).trans rfl
theorem qaZ(a b c d e:Int):eS [a,b,c,d,e] 4=some e:=(cU [a,b,c,d,e] 4).trans rfl
theorem Un{u:Nat}(hu:1099511627776<=u){b:List Int}(hb:au b)(hl:b.length<=1048576){a:Int}(ha:b.take a.toNat=bz 9 2):∃ r,fV u b 2 a=some r/\Bp b r (BZ b a):=by
 unfold fV BZ;rw [show ((2:Int) == 1)=false by rfl,show ((2:Int) == 2)=true by rfl];simp only [cond_false,cond_true];rw [show (5:Int)=((5:Nat):Int) by rfl,Eb hu hb hl a 5 ak];simp only [wk,w8];rcases eh b a with ⟨v0,e0,h0⟩ | h0
 ·rw [h0];simp only [if_true];rcases eh b e0 with ⟨v1,e1,h1⟩ | h1
  ·rw [h1];simp only [if_true];rcases eh b e1 with ⟨v2,e2,h2⟩ | h2
   ·rw [h2];simp only [if_true];rcases eh b e2 with ⟨v3,e3,h3⟩ | h3
    ·rw [h3];simp only [if_true];rcases eh b e3 with ⟨v4,e4,h4⟩ | h4
     ·rw [h4];rw [if_pos rfl,Vm (by rfl)];have hq:[]++[v0]++[v1]++[v2]++[v3]++[v4]=[v0,v1,v2,v3,v4]:=rfl;rw [hq,qaV,qaW,qaX,qaY,qaZ,NZ,NZ,NZ,NZ,NZ];unfold jZ;refine ⟨_,rfl,?_⟩;have p1:=eg hb h1;have p2:=eg hb h2;have p3:=eg hb h3;have p4:=eg hb h4
      cases hc:(true && (true && xX v1 && (true && xX v2 && (true && xX v3 && (true && xX v4))))) with
      | true =>
       simp only [zWX,sk,xX,decide_eq_true_eq] at hc;simp only [if_true,Bp];rw [(ET p1.2.2.2.1 hc.1 p2.2.2.2.1 hc.2.1).2.1,(ET p3.2.2.2.1 hc.2.2.1 p4.2.2.2.1 hc.2.2.2).2.1];rfl
      | false =>
       simp only [zQk,if_false,Bp];refine .inr ⟨FN _ _ _ _ _ ku kU,λhok hp=>?_⟩;have:=Za hb ha h0 h1 h2 h3 h4 hok hp;rw [this.1,this.2.1,this.2.2.1,this.2.2.2] at hc
       cases hc
     ·rw [h4]; exact ⟨_,rfl,CE kU rfl⟩
    ·rw [h3]; exact ⟨_,rfl,CE kU rfl⟩
   ·rw [h2]; exact ⟨_,rfl,CE kU rfl⟩
  ·rw [h1]; exact ⟨_,rfl,CE kU rfl⟩
 ·rw [h0]; exact ⟨_,rfl,CE kU rfl⟩
theorem qbw{b:List Int}(hb:au b){a e:Int}{m:j4}(ha:b.take a.toNat=bz 9 2)(h:BZ b a=some (m,e)):M.MsgWf m/\0<=e/\e<=b.length/\ck m=b.take e.toNat:=by
 unfold BZ at h;dsimp only at h
 split at h
 ·rename_i hc;simp only [sk,xX,decide_eq_true_eq] at hc;obtain ⟨k0,⟨k1,l1⟩,⟨k2,l2⟩,⟨k3,l3⟩,k4,l4⟩:=hc;simp only [Option.some.injEq,Prod.mk.injEq] at h;obtain ⟨rfl,rfl⟩:=h;rcases (eh b a).symm with h0 | ⟨v0,e0,h0⟩
  ·simp [h0] at k0
  simp only [h0] at k0 k1 l1 k2 l2 k3 l3 k4 l4 ⊢;rcases (eh b e0).symm with h1 | ⟨v1,e1,h1⟩
  ·simp [h1] at k1
  simp only [h1] at k0 k1 l1 k2 l2 k3 l3 k4 l4 ⊢;rcases (eh b e1).symm with h2 | ⟨v2,e2,h2⟩
  ·simp [h2] at k2
  simp only [h2] at k0 k1 l1 k2 l2 k3 l3 k4 l4 ⊢;rcases (eh b e2).symm with h3 | ⟨v3,e3,h3⟩
  ·simp [h3] at k3
  simp only [h3] at k0 k1 l1 k2 l2 k3 l3 k4 l4 ⊢;rcases (eh b e3).symm with h4 | ⟨v4,e4,h4⟩
  ·simp [h4] at k4
  simp only [h4] at k0 k1 l1 k2 l2 k3 l3 k4 l4 ⊢;have p0:=eg hb h0;have p1:=eg hb h1;have p2:=eg hb h2;have p3:=eg hb h3;have p4:=eg hb h4;have s1:=ET p1.2.2.2.1 l1 p2.2.2.2.1 l2;have s2:=ET p3.2.2.2.1 l3 p4.2.2.2.1 l4;refine ⟨FN _ _ _ _ _ ku kU,by omega,p4.2.2.1,?_⟩;show nv (nv (aF (aF [] 2) v0) (v1+v2*1048576)) (v3+v4*1048576)=b.take e4.toNat;unfold nv;rw [s1.2.2.1,s1.2.2.2,s2.2.2.1,s2.2.2.2,zj ak ak,d2 p0.2.2.2.1 p0.2.2.2.2.1,d2 p1.2.2.2.1 p1.2.2.2.2.1,d2 p2.2.2.2.1 p2.2.2.2.2.1,d2 p3.2.2.2.1 p3.2.2.2.2.1,d2 p4.2.2.2.1 p4.2.2.2.2.1];rw [p4.2.2.2.2.2,p3.2.2.2.2.2,p2.2.2.2.2.2,p1.2.2.2.2.2,p0.2.2.2.2.2,ha]
 ·cases h
def M.puts(b:List Int)(o:Option (j4×Int)):Prop:=∀ m e,o=some (m,e)->M.MsgWf m/\0<=e/\e<=b.length/\ck m=b.take e.toNat
theorem PY{α:Type}(r:α×Int×Bool)(h:r.2.2=true):r=(r.1,r.2.1,true):=by rw [<- h]
def B0(b:List Int)(a:Int):Option (j4×Int):=if (qC b a).2.2 then some (⟨1,0,(qC b a).1,0,0,0,[]⟩,(qC b a).2.1) else none
def B1(b:List Int)(a:Int):Option (j4×Int):=if (bJ b a).2.2 then some (⟨4,(bJ b a).1,Dm,0,0,0,[]⟩,(bJ b a).2.1) else none
theorem Uo{u:Nat}(hu:1099511627776<=u){b:List Int}(hb:au b)(hl:b.length<=1048576)(a:Int):∃ r,fV u b 1 a=some r/\Bp b r (B0 b a):=by
 refine ⟨(⟨1,0,(qC b a).1,0,0,0,[]⟩,(qC b a).2.2),?_,?_⟩
 ·unfold fV;rw [NW hu hb hl]; rfl
 ·unfold B0 Bp
  cases h:(qC b a).2.2 with
  | false=>exact .inl rfl
  | true=>rfl
theorem qbx{b:List Int}(hb:au b){a:Int}(ha:b.take a.toNat=bz 9 1):M.puts b (B0 b a):=by
 intro m e h;unfold B0 at h
 split at h
 ·rename_i hc;simp only [Option.some.injEq,Prod.mk.injEq] at h;obtain ⟨rfl,rfl⟩:=h;have p:=Um hb (PY _ hc);refine ⟨⟨by have:=w5 p.2.2.2.1; show (qC b a).1.aG.length<=_; omega,p.2.2.2.2.1,ku,by simp⟩,by omega,p.2.2.1,?_⟩;rw [p.2.2.2.2.2,ha,<- zj ak ak];rfl
 ·cases h
theorem qa0(a b:Int):eS [a,b] 0=some a:=(cU [a,b] 0).trans rfl
theorem qa1(a b:Int):eS [a,b] 1=some b:=(cU [a,b] 1).trans rfl
theorem Up{u:Nat}(hu:1099511627776<=u){b:List Int}(hb:au b)(hl:b.length<=1048576)(a:Int):∃ r,fV u b 3 a=some r/\Bp b r (Ec b a):=by
 unfold fV Ec;rw [show ((3:Int) == 1)=false by rfl,show ((3:Int) == 2)=false by rfl,show ((3:Int) == 3)=true by rfl];simp only [cond_false,cond_true,LV hu hb hl];have hrv:=Eb hu hb hl a 2 ak;rw [show ((2:Nat):Int)=2 from rfl] at hrv;rw [hrv];simp only [wk,w8];rcases eh b a with ⟨v0,e0,h0⟩ | h0
 ·rw [h0];simp only [if_true];rcases eh b e0 with ⟨v1,e1,h1⟩ | h1
  ·rw [h1,if_pos rfl,Vm (by rfl)];have hq:[]++[v0]++[v1]=[v0,v1]:=rfl;rw [hq,qa0,qa1,NZ,NZ];dsimp only
   cases h2:(w9 b e1).2.2 with
   | false=>exact ⟨_,rfl,.inl rfl⟩
   | true=>exact ⟨_,rfl,rfl⟩
  ·rw [h1]; exact ⟨_,rfl,CE kU rfl⟩
 ·rw [h0]; exact ⟨_,rfl,CE kU rfl⟩
theorem qby{b:List Int}(hb:au b){a:Int}(ha:b.take a.toNat=bz 9 3):M.puts b (Ec b a):=by
 intro m e h;unfold Ec at h;dsimp only at h
 split at h
 ·rename_i hc;simp only [sk] at hc;obtain ⟨⟨k0,k1⟩,k2⟩:=hc;simp only [Option.some.injEq,Prod.mk.injEq] at h;obtain ⟨rfl,rfl⟩:=h;have p0:=eg hb (PY _ k0);have p1:=eg hb (PY _ k1);have p2:=SK hb (PY _ k2);generalize bJ b a=g0 at *;generalize bJ b g0.2.1=g1 at *;generalize w9 b g1.2.1=g2 at *;refine ⟨FN _ _ _ _ _ p2.2.2.2.1 ak,by omega,p2.2.2.1,?_⟩;show aF (aF (aF (aF [] 3) g0.1) g1.1) g2.1.length++g2.1=b.take g2.2.1.toNat;rw [zj ak ak,d2 p0.2.2.2.1 p0.2.2.2.2.1,d2 p1.2.2.2.1 p1.2.2.2.2.1,d2 ak ak,p2.2.2.2.2.2,p1.2.2.2.2.2,p0.2.2.2.2.2,ha]
 ·cases h
theorem Uq{u:Nat}(hu:1099511627776<=u){b:List Int}(hb:au b)(hl:b.length<=1048576)(a:Int):∃ r,fV u b 4 a=some r/\Bp b r (B1 b a):=by
 unfold fV B1;rw [show ((4:Int) == 1)=false by rfl,show ((4:Int) == 2)=false by rfl,show ((4:Int) == 3)=false by rfl,show ((4:Int) == 4)=true by rfl];simp only [cond_false,cond_true,wv hu hb hl,wk];rcases eh b a with ⟨v0,e0,h0⟩ | h0
 ·rw [h0]; exact ⟨_,rfl,rfl⟩
 ·rw [h0]; exact ⟨_,rfl,.inl rfl⟩
theorem qbz{b:List Int}(hb:au b){a:Int}(ha:b.take a.toNat=bz 9 4):M.puts b (B1 b a):=by
 intro m e h;unfold B1 at h
 split at h
 ·rename_i k0;simp only [Option.some.injEq,Prod.mk.injEq] at h;obtain ⟨rfl,rfl⟩:=h;have p0:=eg hb (PY _ k0);generalize bJ b a=g0 at *;refine ⟨FN _ _ _ _ _ ku kU,by omega,p0.2.2.1,?_⟩;show aF (aF [] 4) g0.1=b.take g0.2.1.toNat;rw [zj ak ak,d2 p0.2.2.2.1 p0.2.2.2.2.1,p0.2.2.2.2.2,ha]
 ·cases h
def yF(b:List Int)(kind a:Int):Option (j4×Int):=if kind=1 then B0 b a else if kind=2 then BZ b a else if kind=3 then Ec b a else if kind=4 then B1 b a else none
theorem Wq{u:Nat}(hu:1099511627776<=u){b:List Int}(hb:au b)(hl:b.length<=1048576){k a:Int}(ha:b.take a.toNat=bz 9 k):∃ r,fV u b k a=some r/\Bp b r (yF b k a):=by
 unfold yF
 by_cases h1:k=1
 ·subst h1; exact Uo hu hb hl a
 ·rw [if_neg h1]
  by_cases h2:k=2
  ·subst h2; exact Un hu hb hl ha
  ·rw [if_neg h2]
   by_cases h3:k=3
   ·subst h3; exact Up hu hb hl a
   ·rw [if_neg h3]
    by_cases h4:k=4
    ·subst h4; exact Uq hu hb hl a
    ·rw [if_neg h4];have e1:(k == 1)=false:=by simpa using h1
     have e2:(k == 2)=false:=by simpa using h2
     have e3:(k == 3)=false:=by simpa using h3
     have e4:(k == 4)=false:=by simpa using h4
     unfold fV;rw [e1,e2,e3,e4];exact ⟨_,rfl,.inl rfl⟩
theorem PZ{b:List Int}(hb:au b){k a:Int}(ha:b.take a.toNat=bz 9 k):M.puts b (yF b k a):=by
 unfold yF
 by_cases h1:k=1
 ·subst h1; exact qbx hb ha
 ·rw [if_neg h1]
  by_cases h2:k=2
  ·subst h2; exact λm e h=>qbw hb ha h
  ·rw [if_neg h2]
   by_cases h3:k=3
   ·subst h3; exact qby hb ha
   ·rw [if_neg h3]
    by_cases h4:k=4
    ·subst h4; exact qbz hb ha
    ·rw [if_neg h4]; intro m e h; cases h
def EU:j4×Bool:=(⟨0,0,⟨0,0,0,[]⟩,0,0,0,[]⟩,false)
def d3(b:List Int):j4×Bool:=if (bJ b 0).2.2 && decide (b.length<=400) then match yF b (bJ b 0).1 (bJ b 0).2.1 with
  | some (m,e)=>if kT m && decide (dh m=b) then (m,true) else EU
  | none=>EU
 else EU
theorem CF{m:j4}(h:M.MsgWf m):au (dh m):=by
 unfold dh
 split
 ·exact iQ (NY h).1 _
 ·exact ku
theorem Ed{u:Nat}(hu:1099511627776<=u){b:List Int}(hb:au b)(hl:b.length<=1048576):oo u b=some (d3 b):=by
 unfold oo d3 rB pq;simp only [wv hu hb hl,wk];rcases eh b 0 with ⟨k,a,h0⟩ | h0
 ·rw [h0];have p:=eg hb h0;have ha:b.take a.toNat=bz 9 k:=by rw [p.2.2.2.2.2]; rfl
  by_cases h4:b.length<=400
  ·have h4':¬ ((b.length:Int) > 400):=by omega
   simp only [h4,h4',decide_true,decide_false,zWZ,if_true,zQV,cond_false];obtain ⟨r,g1,g2⟩:=Wq hu hb hl ha;rw [g1];simp only [wk]
   cases hr:yF b k a with
   | none =>
    rw [hr] at g2;rcases g2 with g2 | ⟨g2,g3⟩
    ·rw [g2]; rfl
    ·cases hf:r.2 with
     | false=>rfl
     | true =>
      rw [Bo hu g2.sums];simp only [zQV,cond_false,wk]
      cases hm:kT r.1 with
      | false=>rfl
      | true =>
       simp only [zQV,cond_false,Ah hu g2,wt,wk];rw [H9 (CF g2) hb,decide_eq_false (g3 hm)]; rfl
   | some q =>
    obtain ⟨m,e⟩:=q;rw [hr] at g2;have w:=PZ hb ha m e hr;unfold Bp at g2;dsimp only at g2;rw [g2];dsimp only;rw [Bo hu w.1.sums];simp only [zQV,cond_false,wk]
    cases hm:kT m with
    | false=>rfl
    | true =>
     simp only [zQV,cond_false,Ah hu w.1,wt,wk];rw [H9 (CF w.1) hb]
     by_cases hp:dh m=b
     ·simp [hp]
     ·simp [hp,EU]
  ·have h4':(b.length:Int) > 400:=by omega
   simp [h4,h4',EU]
 ·rw [h0]; simp [EU]
theorem SM{u:Nat}(hu:1099511627776<=u)(d0:aA):∀ (l:List ej) (i:Nat) (d:aA),(∀ p∈l,mC p=true)->M.DOk d->cE (mq u d0) (ie u d0) l i (tup d)=some (yE l d):=by
 intro l
 induction l with
 | nil=>intro i d _ _; rfl
 | cons p l ih =>
  intro i d hp hd;have h0:=hp p kU;simp only [cE,ie,dH,xF,wk,cond_true,yE];rw [show (aA.mk (tup d).1 (tup d).2.1 (gy.mk (tup d).2.2.1 (tup d).2.2.2.1 (tup d).2.2.2.2.1) (tup d).2.2.2.2.2)=d by rfl,LU hu hd h0];exact ih (i+1) _ (λq hq=>hp q (by simp [hq])) (PT hd h0)
theorem Ia{u:Nat}(hu:1099511627776<=u){d:aA}(hd:M.DOk d):wP u d=some (M.sure d):=by
 have h3:=hd.p;unfold wP gJ M.sure;rw [jb hu hd,rM hu hd];simp only [wk]
 cases h:c7 d with
 | false=>rfl
 | true =>
  simp only [zQV,cond_false,if_true];have e:=SM hu d d.fP 0 d (Ky h) hd;rw [<- s4 u d (tup d) u ak ak] at e;rw [show b8 u u d 0 d.fA d.fB d.fR.aM d.fR.dj d.fR.aU d.fP=_ from e]; rfl
theorem LW(u:Nat){p:ej}(h:p.fB.length<=1048576):kJ u p=some p:=by
 unfold kJ dR;have h0:(0:Int)<=(p.fB.length:Int):=zVX _;simp only [h0,decide_true,beq_self_eq_true,Bool.true_or,zWZ,zQ,wk];rw [b5 lv,wk,b5 lv];simp
theorem Ib{u:Nat}(hu:1099511627776<=u){d:aA}{p:ej}(hd:M.DOk d)(hl:d.fP.length<=1048575)(hp:p.fB.length<=1048576) :
  jX u d p=some (if c7 (jK d p) then (jK d p,true) else (d,false)):=by
 have hap:=hd.p;unfold jX;rw [jb hu hd];simp only [wk];rw [LW u hp];simp only [wk];rw [b5 lv];simp only [wk];have e:(aA.mk d.fA d.fB d.fR (d.fP++[p]))=jK d p:=rfl;rw [e,rM hu (JN hd hl hp)];simp only [wk]
 cases h:c7 (jK d p) <;> simp
theorem Q4{u:Nat}(g:Int){b:List Int}(hb:b.length<=1048576):∃ e,sf u g b=some e/\pV u g b=some e/\M.DOk e:=by
 unfold sf pV pX;rw [bk,d1];simp only [wk];have h0:(0:Int)<=(b.length:Int):=zVX _;have key:∀ x:Bool,∃ e,qq u g b x=some e/\nN u g b x=some e/\M.DOk e:=by
  intro x;unfold qq nN dR
  cases x with
  | true=>exact ⟨_,rfl,rfl,⟨by simp,by simp,by simp,by simp⟩⟩
  | false =>
   simp only [cond_false,h0,decide_true,beq_self_eq_true,Bool.true_or,zWZ,zQ,wk];rw [b5 lv,wk,b5 lv,b5 lv];exact ⟨⟨b,[],⟨g,0,b.length⟩,[]⟩,by simp,by simp,⟨hb,by simp,by simp,by simp⟩⟩
 cases ah g 0 1000000 with
 | true=>simp only [zQV,cond_false]; exact key _
 | false=>simp only [zYh,cond_true]; exact key _
theorem LX(u:Nat){n:Nat}(h:n<=40):sm u n=some ((2 ^ n - 1:Nat):Int):=by
 unfold sm;have h1:ah (n:Int) 0 40=true:=by simp [ah]; omega
 rw [bk,h1];simp only [wk,zQV,cond_false];have h2:(2:Nat) ^ n<=2 ^ 40:=zWy ak h;have h3:0 < (2:Nat) ^ n:=Nat.pow_pos ak;rw [b5 ak,BV ak];generalize (2:Nat) ^ n=p at *;rw [dZ ak ak];simp only [wk]
 congr 1
 omega
theorem Ur{n i:Nat}(hn:n<=40)(hi:i < n):dB ((2 ^ n - 1:Nat):Int) (i:Int)=true:=by
 unfold dB;have h2:(2:Nat) ^ n<=2 ^ 40:=zWy ak hn;have h3:0 < (2:Nat) ^ n:=Nat.pow_pos ak;have ha:bh ((2 ^ n - 1:Nat):Int)=true:=by
  simp only [bh,ah,sk,decide_eq_true_eq];omega
 have hb:gm (i:Int)=true:=by simp only [gm,ah,sk,decide_eq_true_eq]; omega
 rw [ha,hb,rg,rg,Nat.testBit_two_pow_sub_one];simp [hi]
theorem Us(i:Int):dB 0 i=false:=by simp [dB]
theorem SN:∀ (l:List ej) (d:aA),(yE l d).fP=[]
 | [],d=>rfl
 | p :: l,d=>SN l _
def gO{α:Type}(f:α->Nat->Bool):List α->Nat->Bool
 | [],_=>true
 | x :: l,i=>f x i && gO f l (i+1)
theorem xb{α:Type}{fin:Unit->Option Bool}{body:α->Nat->Unit->(Unit->Option Bool)->Option Bool}(f:α->Nat->Bool){xs:List α}{b:Bool}(hf:fin ()=some b)(i0:Nat)(hb:∀ x i k,i0<=i->xs[i]?=some x->body x i () k=bif f x i then k () else some false) :
  ∀ (l:List α) (i:Nat),i0<=i->l=xs.drop i->cE fin body l i ()=some (gO f l i && b):=by
 intro l
 induction l with
 | nil=>intro i _ _; simp [cE,gO,hf]
 | cons x l ih =>
  intro i h0 h;have hx:xs[i]?=some x:=by
   have:=congrArg zZk h
   simpa [zYK] using this.symm
  have hl:l=xs.drop (i+1):=by
   have:=congrArg List.tail h
   simpa [zYj] using this
  simp only [cE,gO];rw [hb x i _ h0 hx,ih (i+1) ak hl]
  cases f x i <;> simp
def yG(x:Int)(i:Nat):Bool:=if i=0 then x == -1 else ah x 0 ((i:Int) - 1)
def cY(t:bl):Bool:=gO yG t.bC 0 && ah t.bC.length 1 7
theorem rN{u:Nat}(hu:1099511627776<=u){t:bl}(hl:t.bC.length<=1073741824):n7 u t=some (cY t):=by
 unfold n7 cY;rw [IM u t () u ak ak];refine xb yG (by simp [Bw,vu,bk]) 0 (λx i k _ hx=>?_) _ 0 (zWJ _) rfl;have hi:i < t.bC.length:=(sr.1 hx).1;unfold Bx ga yG
 by_cases h0:i=0
 ·subst h0
  by_cases h1:x=-1
  ·subst h1; simp
  ·have:(x == -1)=false:=by simpa using h1
   simp [this,bne]
 ·have e0:((i:Int) == 0)=false:=by simpa using h0
  have e1:decide ((i:Int) > 0)=true:=by simp; omega
  simp (disch:=omega) only [e0,e1,h0,cond_true,cond_false,dZ,bk,wk,↓reduceIte]
  cases ah x 0 ((i:Int) - 1) <;> rfl
theorem Ee{u:Nat}(hu:1099511627776<=u){t:bl}(hl:t.bC.length<=1073741824):uM u t=some (cY t):=by
 unfold uM cY vg;simp only [d1,wk]
 cases hw:ah t.bC.length 1 7 with
 | false=>simp
 | true =>
  have:=bI hw
  match hup:t.bC with
  | []=>rw [hup] at this; simp at this
  | x :: l =>
   have h1:eS (x :: l) 0=some x:=rfl;simp only [zQV,cond_false,h1,wk,gO,yG,↓reduceIte,zYX]
   by_cases hx:x=-1
   ·subst hx;simp only [bne_self_eq_false,cond_false,beq_self_eq_true,zWX];have h:=Sk (fin:=Bu u t) (body:=λy i s k=>wF u t y i s k) (xs:=t.bC) (λk s i=>kV u k i t) ak (λ_ _ _=>rfl) (t.bC.drop 1) u 1 () rfl lv;have h2:kV u u 1 t=some (gO yG (t.bC.drop 1) 1 && true):=by
     rw [show ((1:Int))=((1:Nat):Int) from rfl,h];refine xb yG rfl 1 (λy i k h0 hy=>?_) _ 1 (zWJ _) rfl;have hi:i < t.bC.length:=(sr.1 hy).1;have e0:i≠0:=by omega
     unfold wF yG;simp (disch:=omega) only [e0,dZ,d1,wk,↓reduceIte]
     cases ah y 0 ((i:Int) - 1) <;> rfl
    rw [h2,hup];simp
   ·have:(x == -1)=false:=by simpa using hx
    simp [this,bne]
def kv(up:List Int):Nat->Int->List Int
 | 0,_=>[]
 | n+1,k=>if ah k 0 ((up.length:Int) - 1) then k :: kv up n ((up[k.toNat]?).getD 0) else []
def Ef(t:bl)(k:Int):List Int:=kv t.bC t.bC.length k
theorem Ic(up:List Int):∀ (n:Nat) (k:Int),(kv up n k).length<=n
 | 0,_=>by simp [kv]
 | n+1,k=>by
  unfold kv
  split
  ·have:=Ic up n ((up[k.toNat]?).getD 0);simp; omega
  ·simp
theorem CG{up:List Int}{k:Int}(h:ah k 0 ((up.length:Int) - 1)=true):eS up k=some ((up[k.toNat]?).getD 0):=by
 have:=bI h;have h1:k.toNat < up.length:=by omega
 simp [eS,this.1,h1]
theorem iJ(u:Nat){t:bl}(hl:t.bC.length<=1048576)(k:Int):db u t k=some (ah k 0 ((t.bC.length:Int) - 1)):=by
 unfold db;simp (disch:=omega) only [dZ,bk,wk]
theorem N0{u:Nat}(hu:1099511627776<=u){t:bl}(hl:t.bC.length<=1048576)(k:Int):xD u t k=some (Ef t k):=by
 have main:∀ (n f:Nat) (k:Int) (o:List Int),o.length+n=t.bC.length->n < f->jz u f k o t=some (o++kv t.bC n k):=by
  intro n
  induction n with
  | zero =>
   intro f k o h1 h2;obtain ⟨f,rfl⟩:∃ j,f=j+1:=⟨f - 1,by omega⟩;have e:decide ((o.length:Int) < (t.bC.length:Int))=false:=by simp; omega
   unfold jz rq vC;simp (disch:=omega) only [iJ,wk,e,cond_false,kv,zWW]
   cases ah k 0 ((t.bC.length:Int) - 1) <;> rfl
  | succ n ih =>
   intro f k o h1 h2;obtain ⟨f,rfl⟩:∃ j,f=j+1:=⟨f - 1,by omega⟩;have e:decide ((o.length:Int) < (t.bC.length:Int))=true:=by simp; omega
   unfold jz rq vC;simp (disch:=omega) only [iJ,wk,e,kv]
   cases hw:ah k 0 ((t.bC.length:Int) - 1) with
   | false=>simp
   | true =>
    have e2:fX (decide ((o.length+([k]).length)*8<=140737488355328))=some ():=b5 lv;simp only [cond_true,CG hw,wk,e2,↓reduceIte];rw [ih f _ (o++[k]) lv ak,zQX,List.singleton_append]
 unfold xD Ef;rw [main t.bC.length u k [] kU ak,zWH]
def FO(t:bl)(a k:Int):Bool:=(a != k) && (Ef t k).any λy=>y == a
theorem B2{u:Nat}(hu:1099511627776<=u){t:bl}(hl:t.bC.length<=1048576)(a k:Int):oK u t a k=some (FO t a k):=by
 have:=Ic t.bC t.bC.length k;unfold oK FO;rw [N0 hu hl];simp only [wk];rw [qB hu (by unfold Ef; omega)]
 cases a != k <;> rfl
def Ai(t:bl)(k b:Int):Int:=if cY t && ah k 1 ((t.bC.length:Int) - 1) then (if FO t b k && decide (0 < b) then (t.bC[b.toNat]?).getD 0 else (t.bC[k.toNat]?).getD 0) else -1
theorem KA{up:List Int}:∀ {n:Nat} {k a:Int},a∈kv up n k->ah a 0 ((up.length:Int) - 1)=true
 | 0,_,_,h=>by simp [kv] at h
 | n+1,k,a,h=>by
  unfold kv at h
  split at h
  ·rename_i hk;rcases aaa.1 h with rfl | h
   ·exact hk
   ·exact KA h
  ·simp at h
theorem Ut{t:bl}{a k:Int}(h:FO t a k=true):ah a 0 ((t.bC.length:Int) - 1)=true:=by
 unfold FO at h;simp only [sk,List.any_eq_true,beq_iff_eq] at h;obtain ⟨_,y,hy,rfl⟩:=h;exact KA hy
theorem JO{u:Nat}(hu:1099511627776<=u){t:bl}(hl:t.bC.length<=1048576)(k b:Int):tz u t k b=some (Ai t k b):=by
 unfold tz pj so Ai;simp (disch:=omega) only [rN hu (show t.bC.length<=1073741824 by omega),iJ,B2 hu hl,wk]
 cases cY t with
 | false=>rfl
 | true =>
  have e:(ah k 1 ((t.bC.length:Int) - 1))=(!(k == 0) && ah k 0 ((t.bC.length:Int) - 1)):=by
   unfold ah;rw [zXH];simp;omega
  rw [e]
  by_cases hk0:k=0
  ·subst hk0; rfl
  ·have hk1:(k == 0)=false:=by simpa using hk0
   rw [hk1]
   cases hk:ah k 0 ((t.bC.length:Int) - 1) with
   | false=>rfl
   | true =>
    by_cases hb:b=0
    ·subst hb; simp [CG hk]
    ·have hb1:(b == 0)=false:=by simpa using hb
     cases ha:FO t b k with
     | false=>simp [hb1,CG hk]
     | true =>
      have:=bI (Ut ha);have h1:0 < b:=by omega
      simp [hb1,h1,CG (Ut ha)]
theorem xu{α:Type}(f:α->Bool):∀ (l:List α) (i:Nat),(eH f l i=-1/\∀ x∈l,f x=false)\/∃ (j:Nat) (x:α),eH f l i=((i+j:Nat):Int)/\l[j]?=some x/\f x=true
 | [],i=>.inl ⟨rfl,by simp⟩
 | y :: l,i=>by
  cases hy:f y with
  | true=>exact .inr ⟨0,y,by simp [eH,hy],rfl,hy⟩
  | false =>
   rcases xu f l (i+1) with ⟨h1,h2⟩ | ⟨j,x,h1,h2,h3⟩
   ·exact .inl ⟨by simp [eH,hy,h1],by simp [hy]; exact h2⟩
   ·exact .inr ⟨j+1,x,by simp [eH,hy,h1]; omega,by simpa using h2,h3⟩
def zk(l:List Kid)(id:Int):Int:=eH (λx=>x.j7 == id) l 0
theorem Bq{u:Nat}(hu:1099511627776<=u){l:List Kid}(hl:l.length<=1048577)(id:Int):uD u l id=some (zk l id):=by
 unfold uD de;rw [ly u l id () u ak ak,lq (λ(x:Kid)=>x.j7 == id) rfl (λx i k _=>rfl)];rfl
def B3(l:List Kid)(x:Kid)(i:Nat):Bool :=
 ah x.j7 0 6 && bh x.bZ && bh x.bR && bh x.kF && !decide (x.sR < 0) && (if i=0 then true else match l[i - 1]? with | some y=>!decide (x.j7<=y.j7) | none=>true)
def tU(l:List Kid):Bool:=gO (B3 l) l 0
theorem XP{α:Type}{l:List α}{i:Nat}(h:i < l.length)(h0:i≠0)(hl:l.length<=1048577):∃ y,l[i - 1]?=some y/\eS l (gX .i64 (i:Int) 1)=some y:=by
 have h1:i - 1 < l.length:=by omega
 refine ⟨l[i - 1],by simp [h1],?_⟩;rw [dZ ak ak,show (i:Int) - 1=((i - 1:Nat):Int) by omega,cU];simp [h1]
theorem N3{u:Nat}(hu:1099511627776<=u){l:List Kid}(hl:l.length<=1048576):xE u l=some (tU l):=by
 unfold xE tU;rw [IS u l () u ak ak,xb (B3 l) (xs:=l) (b:=true) rfl 0 (λx i k _ hx=>?_) l 0 (zWJ _) rfl,zYX];have hi:i < l.length:=(sr.1 hx).1;unfold BB d8 wO B3;simp only [bk,jv,wk]
 by_cases h0:i=0
 ·subst h0;have e:decide (((0:Nat):Int) > 0)=false:=by simp
  simp only [e,cond_false,↓reduceIte,zYX]
  cases ah x.j7 0 6 <;> cases bh x.bZ <;> cases bh x.bR <;> cases bh x.kF <;> cases decide (x.sR < 0) <;> rfl
 ·have e:decide ((i:Int) > 0)=true:=by simp; omega
  obtain ⟨y,h1,h2⟩:=XP hi h0 ak;simp only [e,cond_true,h0,h1,h2,↓reduceIte,wk]
  cases ah x.j7 0 6 <;> cases bh x.bZ <;> cases bh x.bR <;> cases bh x.kF <;> cases decide (x.sR < 0) <;> cases decide (x.j7<=y.j7) <;> rfl
theorem N4{α β ρ:Type}{fin:List β->Option ρ}{body:α->Nat->List β->(List β->Option ρ)->Option ρ}(f:α->Bool)(g:α->β){xs:List α}(hb:∀ x i s k,xs[i]?=some x->i < xs.length->s.length<=i->body x i s k=bif f x then k (s++[g x]) else k s) :
  ∀ (l:List α) (i:Nat) (s:List β),l=xs.drop i->s.length<=i->cE fin body l i s=fin (s++(l.filter f).map g):=by
 intro l
 induction l with
 | nil=>intro i s _ _; simp [cE]
 | cons x l ih =>
  intro i s h hs;have hx:xs[i]?=some x:=by
   have:=congrArg zZk h
   simpa [zYK] using this.symm
  have hl:l=xs.drop (i+1):=by
   have:=congrArg List.tail h
   simpa [zYj] using this
  have hi:i < xs.length:=(sr.1 hx).1;simp only [cE];rw [hb x i s _ hx hi hs]
  cases hf:f x with
  | true=>rw [cond_true,ih (i+1) _ hl lv]; simp [hf]
  | false=>rw [cond_false,ih (i+1) _ hl ak]; simp [hf]
def Uu(x:Kid):Kid:=⟨x.j7,x.bZ,x.bR,aV .i64 x.sR 1,0⟩
def ic(l:List Kid)(forget:Int):List Kid:=(l.filter λx=>decide (x.sR < forget)).map Uu
theorem N5{u:Nat}(hu:1099511627776<=u){l:List Kid}(hl:l.length<=1048576)(n:Int):xG u l n=some (ic l n):=by
 unfold xG;rw [IU u n l [] u ak ak,N4 (λx=>decide (x.sR < n)) Uu (λx i s k _ hi hs=>?_) l 0 [] rfl kU]
 ·rfl
 ·unfold BC pi;have e:fX (decide ((s.length+([(Kid.mk x.j7 x.bZ x.bR (aV .i64 x.sR 1) 0)]).length)*40<=140737488355328))=some ():=b5 lv
  by_cases h:x.sR < n
  ·simp only [h,decide_true,cond_true,e,wk]; rfl
  ·simp only [h,decide_false,cond_false]
theorem oF(l:List Kid)(id:Int):(zk l id=-1/\∀ x∈l,x.j7≠id)\/∃ (j:Nat) (x:Kid),zk l id=(j:Int)/\l[j]?=some x/\x.j7=id:=by
 rcases xu (λ(x:Kid)=>x.j7 == id) l 0 with ⟨h1,h2⟩ | ⟨j,x,h1,h2,h3⟩
 ·exact .inl ⟨h1,λx hx=>by simpa using h2 x hx⟩
 ·exact .inr ⟨j,x,by unfold zk; rw [h1]; simp,h2,by simpa using h3⟩
def oG(l:List Kid)(id have_:Int):Int:=match eS l (zk l id) with
 | some x=>if bh have_ && bh x.bZ && bh x.kF then wd .i64 (gl .i64 x.bZ have_) x.kF else 0
 | none=>0
theorem Eg{u:Nat}(hu:1099511627776<=u){l:List Kid}(hl:l.length<=1048577)(id s:Int):rD u l id s=some (oG l id s):=by
 unfold rD pu oG;simp only [Bq hu hl,jv,wk];rcases oF l id with ⟨h1,_⟩ | ⟨j,x,h1,h2,_⟩
 ·rw [h1]; rfl
 ·have e:decide ((j:Int) < 0)=false:=by simp
  simp only [h1,e,cond_false,cU,h2,wk]
  cases bh s <;> cases bh x.bZ <;> cases bh x.kF <;> rfl
def iX(l:List Kid)(id s:Int):List Kid:=match eS l (zk l id) with
 | some x=>if bh s && bh x.kF then l.set (zk l id).toNat ⟨x.j7,x.bZ,x.bR,x.sR,u9 .i64 x.kF s⟩ else l
 | none=>l
theorem XQ{l:List Kid}(hl:l.length<=1048577):fX (decide (((([]:List Kid)).length+l.length)*40<=140737488355328))=some ():=b5 lv
theorem wx(u:Nat){l:List Kid}(hl:l.length<=1048577):cM u l=some l:=by
 unfold cM;rw [XQ hl]; rfl
theorem B4{u:Nat}(hu:1099511627776<=u){l:List Kid}(hl:l.length<=1048577)(id s:Int):kL u l id s=some (iX l id s):=by
 unfold kL mU pv iX;simp only [wx u hl,Bq hu hl,jv,wk];rcases oF l id with ⟨h1,_⟩ | ⟨j,x,h1,h2,_⟩
 ·rw [h1]; rfl
 ·have e:decide ((j:Int)>=0)=true:=by simp
  simp only [h1,e,cond_true,cU,h2,wk]
  cases bh s <;> cases bh x.kF <;> rfl
theorem Id(l:List Kid)(id s:Int):(iX l id s).length=l.length:=by
 unfold iX
 split
 ·split <;> simp
 ·rfl
def tW(l:List Kid)(id:Int):Nat:=if eH (λ(x:Kid)=>decide (x.j7 > id)) l 0 < 0 then l.length else (eH (λ(x:Kid)=>decide (x.j7 > id)) l 0).toNat
def kw(l:List Kid)(id want done:Int):List Kid :=
 if ah id 0 6 && bh want && bh done then match eS l (zk l id) with
  | some x=>l.set (zk l id).toNat ⟨x.j7,want,u9 .i64 x.bR done,0,x.kF⟩
  | none=>l.take (tW l id)++[⟨id,want,done,0,0⟩]++l.drop (tW l id)
 else l
theorem P0(l:List Kid)(id:Int):tW l id<=l.length:=by
 unfold tW;rcases xu (λ(x:Kid)=>decide (x.j7 > id)) l 0 with ⟨h1,_⟩ | ⟨j,x,h1,h2,_⟩
 ·rw [h1]; simp
 ·have:=(sr.1 h2).1;rw [h1]; split <;> omega
theorem Q5{u:Nat}(hu:1099511627776<=u){l:List Kid}(hl:l.length<=1048576)(id w d:Int):BF u l id w d=some (kw l id w d):=by
 unfold BF vO wO kw;simp only [wx u (show l.length<=1048577 by omega),bk,jv,Bq hu (show l.length<=1048577 by omega),wk]
 cases h1:ah id 0 6 with
 | false=>rfl
 | true=>cases h2:bh w with
  | false=>rfl
  | true=>cases h3:bh d with
   | false=>rfl
   | true =>
    simp only [zQV,cond_false,zWZ,↓reduceIte];have hd:u9 .i64 0 d=d:=by
     have:=bI h3;obtain ⟨n,rfl⟩:∃ n:Nat,d=n:=⟨d.toNat,by omega⟩;have:=A3 (a:=0) (b:=n) ak ak
     simpa using this
    rcases oF l id with ⟨h4,_⟩ | ⟨j,x,h4,h5,_⟩
    ·have e:eS l (-1)=none:=by simp [eS]
     have hx:cH u l id=some (eH (λ(x:Kid)=>decide (x.j7 > id)) l 0):=by
      unfold cH;rw [l9 u l id () u ak ak,lq (λ(x:Kid)=>decide (x.j7 > id)) rfl (λx i k _=>rfl)]
     have hp:=P0 l id;have key:∀ q:Nat,q<=l.length->vN u w d id l (q:Int)=some (l.take q++[⟨id,w,d,0,0⟩]++l.drop q):=by
      intro q hq;unfold vN gk vM;have c:(decide (0<=(q:Int)) && decide ((q:Int)<=l.length) && decide (([(Kid.mk id 0 0 0 0)]).length=1) && decide ((l.length+([(Kid.mk id 0 0 0 0)]).length)*40<=140737488355328))=true:=by simp; omega
      rw [c];simp only [cond_true,wk,rg,cU];have g:(List.take q l++[Kid.mk id 0 0 0 0]++List.drop q l)[q]?=some (Kid.mk id 0 0 0 0):=by
       rw [zQX,r0 lv];simp [hq]
      rw [g];simp only [wk,hd];have s:∀ a b:Kid,(List.take q l++[a]++List.drop q l).set q b=List.take q l++[b]++List.drop q l:=by
       intro a b;rw [zQX,List.set_append_right _ _ lv];simp [hq]
      rw [s,s,s]
     rw [h4,e,hx];simp only [show decide ((-1:Int) < 0)=true from rfl,cond_true,wk];unfold tW at hp ⊢
     by_cases hn:eH (λ(x:Kid)=>decide (x.j7 > id)) l 0 < 0
     ·simp only [hn,decide_true,cond_true,↓reduceIte];exact key _ ak
     ·simp only [hn,↓reduceIte] at hp;simp only [hn,decide_false,cond_false,↓reduceIte];rw [<- key _ hp]
      congr 1
      omega
    ·have e:decide ((j:Int) < 0)=false:=by simp
     unfold vM;simp only [h4,e,cond_false,cU,h5,wk,List.set_set]
theorem SO(l:List Kid)(id w d:Int):(kw l id w d).length<=l.length+1:=by
 unfold kw
 split
 ·split
  ·simp
  ·have:=P0 l id;simp; omega
 ·omega
def sM(n:Nat):Int:=if n<=40 then ((2 ^ n - 1:Nat):Int) else 0
theorem B5(u:Nat){m:af}:qN u m=some (sM m.aG.length):=by
 unfold qN sM
 by_cases h:m.aG.length<=40
 ·rw [LX u h]; simp [h]
 ·have h1:ah (m.aG.length:Int) 0 40=false:=by
   unfold ah; simp; omega
  unfold sm;rw [bk,h1];simp [h]
theorem Uv(n:Nat):bh (sM n)=true:=by
 unfold sM bh ah
 split
 ·rename_i h;have h2:(2:Nat) ^ n<=2 ^ 40:=zWy ak h;simp; omega
 ·rfl
def uZ(a b:Int):Int:=if bh a && bh b then wd .i64 a b else 0
theorem LY(u:Nat)(a b:Int):vE u a b=some (uZ a b):=by
 unfold vE uc uZ;simp only [jv,wk]
 cases bh a <;> cases bh b <;> rfl
def u1(m:af)(x:aY):Int:=uZ (sM m.aG.length) x.bj
theorem yH(u:Nat)(m:af)(x:aY):pY u m x=some (u1 m x):=by
 unfold pY u1;simp only [B5,LY,wk]
def M.at_(m:af)(i:Int):Nat:=(bW m.ar m.aU i).1.toNat
def td(m:af)(i:Int):Nat:=(bW m.ar m.aU i).2.toNat
def wy(m:af)(x:aY)(i:Int):List Int:=M.win x.cu (M.at_ m i) (td m i)
theorem XR{m:af}{b:List Int}(hb:(b.length:Int)=m.aU)(hl:b.length<=1048576)(i:Int) :
  fX (er (bW m.ar m.aU i).1 (aV .i64 (bW m.ar m.aU i).1 (bW m.ar m.aU i).2) b.length)=some () /\
  (b.take (sY (aV .i64 (bW m.ar m.aU i).1 (bW m.ar m.aU i).2))).drop (sY (bW m.ar m.aU i).1)=M.win b (M.at_ m i) (td m i) /\
  M.at_ m i+td m i<=b.length/\td m i<=6:=by
 obtain ⟨h1,h2,h3,h4⟩:=qh (size:=m.ar) (n:=m.aU) (i:=i) ak;unfold M.at_ td;generalize bW m.ar m.aU i=s at *;obtain ⟨a,c⟩:=s;dsimp only at *;obtain ⟨a,rfl⟩:∃ n:Nat,a=n:=⟨a.toNat,by omega⟩;obtain ⟨c,rfl⟩:∃ n:Nat,c=n:=⟨c.toNat,by omega⟩;simp only [rg] at *;rw [qA ak,mO ak ak];exact ⟨rfl,rfl,by omega,by omega⟩
def CH(m:af)(x:aY)(s:cS)(i:Nat):Bool :=
 if dB x.bj i then decide (dg (wy m x i)=s) else (wy m x i).all λc=>c == 0
def hH(m:af)(x:aY):Bool :=
 dp m && bh x.bj && (uZ x.bj (sM m.aG.length) == 0) && ((x.cu.length:Int) == m.aU) && gO (CH m x) m.aG 0
theorem SP{u:Nat}(hu:1099511627776<=u){b:List Int}(hl:b.length<=1048576):bx u b=some (b.any λc=>c != 0):=by
 unfold bx dX;rw [nE u b () u ak ak,lq (λ(c:Int)=>c != 0) rfl (λx i k _=>rfl)];simp only [wk,pT]
theorem Zb(b:List Int):(b.any λc=>c != 0)=!(b.all λc=>c == 0):=by
 rw [List.not_all_eq_any_not]; rfl
structure M.BldWf (x:aY):Prop where
 b:au x.cu
 l:x.cu.length<=1048576
theorem JP{b:List Int}(h:au b)(hl:b.length<=1048576)(i n:Nat):au (M.win b i n)/\(M.win b i n).length<=1048576:=by
 refine ⟨lp h i n,?_⟩;have:(M.win b i n).length<=b.length:=by unfold M.win; simp; omega
 omega
theorem Uw{a b:Int}(ha:bh a=true)(hb:bh b=true):uZ a b=wd .i64 a b:=by simp [uZ,ha,hb]
theorem FP(u:Nat){m:af}{x:aY}(hx:M.BldWf x)(hb:(x.cu.length:Int)=m.aU)(i:Int):jA u x m i=some (wy m x i):=by
 obtain ⟨c1,c2,c3,c4⟩:=XR hb hx.l i;unfold jA wy;simp only [nu,wk,c1,c2]
theorem uv{u:Nat}(hu:1099511627776<=u){m:af}(hm:m.aG.length<=1048576){x:aY}(hx:M.BldWf x):oe u m x=some (hH m x):=by
 unfold oe nQ hH;simp only [mN hu m (show m.aG.length<=1073741824 by omega),jv,B5,wk]
 cases dp m with
 | false=>rfl
 | true=>cases hs:bh x.bj with
  | false=>rfl
  | true =>
   rw [JK,JK,Uw hs (Uv _)]
   cases wd .i64 x.bj (sM m.aG.length) == 0 with
   | false=>rfl
   | true =>
    by_cases hb:(x.cu.length:Int)=m.aU
    ·have e:((x.cu.length:Int) == m.aU)=true:=by simpa using hb
     simp only [e,zQV,cond_false,zWZ,zWX];have hl:=hx.l;rw [He u m x () u ak ak,xb (CH m x) (xs:=m.aG) (b:=true) rfl 0 (λs i k _ hs=>?_) m.aG 0 (zWJ _) rfl,zYX];obtain ⟨b1,b2⟩:=JP hx.b hl (M.at_ m i) (td m i);have b3:au (wy m x i)/\(wy m x i).length<=1048576:=⟨b1,b2⟩;unfold AC fh CH;simp only [FP u hx hb,qS,wk,tT hu b3.1 (show _<=1073741824 by omega),SP hu b3.2,CA,Zb]
     cases dB x.bj i with
     | true=>simp only [cond_true,↓reduceIte,zQV,cond_false]; cases decide (dg (wy m x i)=s) <;> rfl
     | false=>simp only [cond_false,zYh,cond_true,zQk,↓reduceIte]; cases (wy m x i).all λc=>c == 0 <;> rfl
    ·have e:((x.cu.length:Int) == m.aU)=false:=by simpa using hb
     simp [e]
def uw(m:af)(x:aY):Bool:=(m.aM != 0) && hH m x && (u1 m x == 0)
theorem O6{u:Nat}(hu:1099511627776<=u){m:af}(hm:m.aG.length<=1048576){x:aY}(hx:M.BldWf x):zM u m x=some (uw m x):=by
 unfold zM uw;simp only [uv hu hm hx,yH,wk]
 cases m.aM != 0 <;> cases hH m x <;> rfl
def ld(m:af)(b:List Int):Bool:=((b.length:Int) == m.aU) && M.same (λx y=>decide (x=y)) (iI b m.ar) m.aG
theorem O7{u:Nat}(hu:1099511627776<=u)(m:af){b:List Int}(hb:au b)(hl:b.length<=1048576):zF u m b=some (ld m b):=by
 unfold zF ld;rw [D0 hu hb ak];simp only [wk];rw [GH hu qaF]
 cases (b.length:Int) == m.aU <;> rfl
theorem FQ{u:Nat}(hu:1099511627776<=u)(m:af){b:List Int}(hb:au b)(hl:b.length<=1048576):wM u m b=some (ld m b):=by
 unfold wM ld;rw [DZ hu hb ak];simp only [wk];rw [mP hu qaF]
 cases (b.length:Int) == m.aU <;> rfl
theorem N6(u:Nat){m:af}(hm:m.aG.length<=1048576):xB u m=some m:=by
 unfold xB;rw [b5 lv]; rfl
theorem yI(u:Nat){m:af}(hm:m.aG.length<=1048576):mz u m=some m:=by
 unfold mz eK;rw [b5 lv]; rfl
theorem A4(u:Nat){x:aY}(hl:x.cu.length<=1048576):kY u x=some x:=by
 unfold kY;rw [fw u ak]; rfl
structure M.NodWf (n:aD):Prop where
 s:n.aB.aG.length<=1048576
 b:M.BldWf n.bw
 k:n.aX.length<=1048577
 w:xr n.aB
theorem hJ(u:Nat){n:aD}(h:M.NodWf n):eB u n=some n:=by
 unfold eB;rw [yI u h.s,A4 u h.b.l,wx u (by have:=h.k; omega)]; rfl
def kx(m:af)(x:aY)(i:Int):List Int×Bool:=if hH m x && dB x.bj i then (wy m x i,true) else ([],false)
theorem A5{m:af}{x:aY}(h:hH m x=true):(x.cu.length:Int)=m.aU:=by
 unfold hH at h;simp only [sk,beq_iff_eq] at h;exact h.1.2
theorem C8{u:Nat}(hu:1099511627776<=u){m:af}(hm:m.aG.length<=1048576){x:aY}(hx:M.BldWf x)(i:Int):p9 u m x i=some (kx m x i):=by
 unfold p9 ui kx;simp only [uv hu hm hx,qS,wk]
 cases hb:hH m x with
 | false=>rfl
 | true=>cases dB x.bj i with
  | false=>rfl
  | true =>
   have c5:=(JP hx.b hx.l (M.at_ m i) (td m i)).2;simp only [zQV,cond_false,FP u hx (A5 hb),wk];rw [fw u (by have:(wy m x i).length<=1048576:=c5; omega)];rfl
theorem N7:∀ (b:List Int) (s:Int) (n:Nat),au b->(256:Int) ^ n<=s->(256:Int) ^ (n+b.length)<=jl b s:=by
 intro b
 induction b with
 | nil=>intro s n _ h; exact h
 | cons c b ih =>
  intro s n hb h;have hc:=hb c kU;have:=ih (256*s+c) (n+1) (λz hz=>hb z WP) Yx;simp only [zQw,jl];rwa [show n+(b.length+1)=n+1+b.length by omega]
theorem KC{a b:Nat}(h:a<=b):(256:Int) ^ a<=256 ^ b:=by
 induction h with
 | refl=>exact Int.le_refl _
 | step h ih =>
  rename_i c;have:(0:Int) < 256 ^ c:=Int.pow_pos ak;rw [zXh]; omega
theorem JQ{b:List Int}{s:cS}{size len:Int}{i:Nat}(hb:au b)(h:dg b=s)(hf:wq size len i s=true):(b.length:Int)=(bW size len i).2/\b.length<=6:=by
 unfold wq at hf;simp only [sk,beq_iff_eq] at hf;obtain ⟨⟨h1,h2⟩,_⟩:=hf;have h3:cy s.fS=((cy s.fS).1,true):=by rw [<- h1]
 obtain ⟨h4,h5,_,h6⟩:=zh h3;generalize (cy s.fS).1=c at *;unfold dg at h
 split at h
 ·rw [<- h] at h4; simp at h4
 ·rename_i hl;have hs:s.fS=jl b 1:=by rw [<- h]
  have h7:=(ND b 1 0 hb ak ak).2;have h8:=N7 b 1 0 hb kU;simp only [zQg] at h7 h8;rw [hs] at h5;have hp:(0:Int) < 256 ^ c.length:=Int.pow_pos ak;have h9:256 ^ c.length<=jl b 1:=by
   have:=Int.mul_ediv_self_le (x:=jl b 1) (k:=256 ^ c.length) ak;rw [h5] at this; omega
  have h10:jl b 1 < 256 ^ c.length*2:=by
   have:=Int.lt_mul_ediv_self_add (x:=jl b 1) hp;rw [h5] at this; omega
  have:b.length=c.length:=by
   rcases Nat.lt_trichotomy b.length c.length with h | h | h
   ·have:=KC (show b.length+1<=c.length by omega);rw [zXh] at this; omega
   ·exact h
   ·have:=KC (show c.length+1<=b.length by omega);rw [zXh] at this; omega
  omega
theorem KD{size len:Int}:∀ {l:List cS} {i j:Nat} {s:cS},nV size len l i=true->l[j]?=some s->wq size len (i+j) s=true
 | [],_,_,_,_,h=>by simp at h
 | x :: l,i,0,s,h,hs=>by
  simp only [nV,sk] at h;simp at hs; subst hs; exact h.1
 | x :: l,i,j+1,s,h,hs=>by
  simp only [nV,sk] at h;have:=KD h.2 (by simpa using hs);rwa [show i+1+j=i+(j+1) by omega] at this
theorem JR{m:af}(hm:dp m=true){i:Nat}{s:cS}(hs:m.aG[i]?=some s):wq m.ar m.aU i s=true:=by
 unfold dp at hm
 split at hm
 ·simp only [sk,beq_iff_eq] at hm;have:=(sr.1 hs).1;omega
 ·simp only [sk] at hm;have:=KD hm.2 hs
  simpa using this
theorem GL{m:af}(hm:dp m=true):0<=m.aU/\m.aU<=240:=by
 unfold dp at hm
 split at hm
 ·simp only [sk,beq_iff_eq] at hm; omega
 ·simp only [sk] at hm;have:=oE hm.1.1.2;omega
def M.put(m:af)(x:aY)(i:Int)(b:List Int):aY:=⟨u9 .i64 x.bj (jt .i64 1 i),yX x.cu b (M.at_ m i)⟩
def zl(m:af)(x:aY)(i:Int)(b:List Int):Bool×aY :=
 if ah i 0 ((m.aG.length:Int) - 1) && !dB x.bj i && (match m.aG[i.toNat]? with | some s=>decide (dg b=s) | none=>false) then (true,M.put m x i b) else (false,x)
theorem qbA(u:Nat)(p2:Int)(p3:List Int)(r6:Int×Int)(x:aY)(a:Nat)(ha:r6.1=(a:Int))(hal:a<=1048576):∀ (l:List Int) (i:Nat) (s:List Int),a+i+l.length<=s.length->s.length<=4194304 ->
  cE (yi u p2 p3 r6 x) (yj u p2 p3 r6 x) l i s=(qG u x.bj p2).bind λq=>some (true,⟨q,s.take (a+i)++l++s.drop (a+i+l.length)⟩):=by
 intro l
 induction l with
 | nil=>intro i s _ _; simp [cE,yi,xh]
 | cons y l ih =>
  intro i s h1 h2;simp only [zQw] at h1;simp only [cE,yj];rw [ha,dC ak ak,show (a:Int)+(i:Int)=((a+i:Nat):Int) by omega,cU,sX ak,rg];simp only [wk];rw [ih (i+1) _ lv lv];have e1:(s.set (a+i) y).take (a+(i+1))=s.take (a+i)++[y]:=by
   rw [show a+(i+1)=(a+i)+1 by omega,zZv,List.take_set_of_le (zWJ _)];simp [show a+i < s.length by omega]
  have e2:(s.set (a+i) y).drop (a+(i+1)+l.length)=s.drop (a+i+(y :: l).length):=by
   rw [List.drop_set_of_lt ak]; simp only [zQw]; congr 1; omega
  rw [e1,e2]; simp
theorem Aj{m:af}{b:List Int}(hb:(b.length:Int)=m.aU)(i:Int):(bW m.ar m.aU i).1=(M.at_ m i:Int)/\(bW m.ar m.aU i).2=(td m i:Int)/\M.at_ m i+td m i<=b.length:=by
 obtain ⟨h1,h2,h3,h4⟩:=qh (size:=m.ar) (n:=m.aU) (i:=i) ak;unfold M.at_ td;omega
theorem Ux{i:Int}{n:Nat}(h:ah i 0 ((n:Int) - 1)=true)(hn:n<=40):gm i=true/\0<=i:=by
 have:=bI h;unfold gm ah;simp; omega
theorem JS(u:Nat){s i:Int}(hs:bh s=true)(hi:gm i=true):qG u s i=some (u9 .i64 s (jt .i64 1 i)):=by
 have:=bI hi;unfold qG rU;rw [FF,hs];simp only [wk,zQV,cond_false];rw [d1,show ah i 0 39=true from hi];simp only [wk,zQV,cond_false];rw [b5 ak]; rfl
theorem O8{u:Nat}(hu:1099511627776<=u){m:af}(hm:dp m=true){x:aY}(hx:(x.cu.length:Int)=m.aU)(hs:bh x.bj=true)(i:Int){b:List Int}(hb:au b)(hl:b.length<=1048576) :
  wK u m x i b=some (zl m x i b):=by
 have h40:=w5 hm;have h240:=GL hm;unfold wK qI zl;simp (disch:=omega) only [dZ,d1,OW,xq hu hb (show b.length<=1073741824 by omega),wk,CA]
 cases hw:ah i 0 ((m.aG.length:Int) - 1) with
 | false=>simp
 | true=>cases dB x.bj i with
  | true=>simp
  | false =>
   have hw':=bI hw;obtain ⟨n,rfl⟩:∃ n:Nat,i=n:=⟨i.toNat,by omega⟩;have hn:n < m.aG.length:=by omega
   obtain ⟨s,hs'⟩:∃ s,m.aG[n]?=some s:=⟨_,sX hn⟩;simp only [zQV,zYh,cond_false,cU,hs',wk,rg,zWX]
   by_cases hq:dg b=s
   ·obtain ⟨h1,h2⟩:=JQ hb hq (JR hm hs');have h3:decide ((b.length:Int) > 6)=false:=by simp; omega
    obtain ⟨e1,e2,e3⟩:=Aj (b:=x.cu) hx n;have h4:b.length=td m n:=by omega
    simp only [hq,decide_true,zQV,cond_false,h3,rL,wk,↓reduceIte];rw [KX u n b _ x x.cu u ak ak,qbA u n b _ x (M.at_ m n) e1 ak b 0 x.cu ak ak,JS u hs (Ux hw ak).1];unfold M.put;rw [D8 ak];rfl
   ·simp [hq]
theorem KE(u:Nat){m:af}{x:aY}(hx:(x.cu.length:Int)=m.aU)(n:Nat){b:List Int}(hl:b.length<=td m n)(hxl:x.cu.length<=1048576):l5 u x m n b=some (M.put m x n b):=by
 obtain ⟨e1,e2,e3⟩:=Aj (b:=x.cu) hx n;unfold l5 oc M.put;rw [nu];simp only [wk];rw [e1,e2,qA ak,mO ak e3];simp only [wk];have h1:T3 (M.at_ m n:Int) ((M.at_ m n+td m n:Nat):Int) (x.cu.length:Int) (b.length:Int)=true:=by unfold T3; simp; omega
 rw [h1,b5 ak,rg];rfl
def qj(m:af)(x:aY)(i:Int)(b:List Int):aY×Bool:=if hH m x && (zl m x i b).1 then (M.put m x i b,true) else (x,false)
theorem KF{m:af}{x:aY}(h:hH m x=true):dp m=true/\bh x.bj=true:=by
 unfold hH at h;simp only [sk] at h;exact ⟨h.1.1.1.1,h.1.1.1.2⟩
theorem JT{u:Nat}(hu:1099511627776<=u){m:af}(hm:m.aG.length<=1048576){x:aY}(hx:M.BldWf x)(i:Int){b:List Int}(hb:au b)(hl:b.length<=1048576):tF u m x i b=some (qj m x i b):=by
 unfold tF mV qj;simp (disch:=omega) only [A4 u hx.l,uv hu hm hx,bk,dZ,qS,tT hu hb (show b.length<=1073741824 by omega),CA,wk]
 cases hk:hH m x with
 | false=>rfl
 | true =>
  obtain ⟨h1,h2⟩:=KF hk;unfold zl
  cases hw:ah i 0 ((m.aG.length:Int) - 1) with
  | false=>simp
  | true=>cases dB x.bj i with
   | true=>simp
   | false =>
    have hw':=bI hw;obtain ⟨n,rfl⟩:∃ n:Nat,i=n:=⟨i.toNat,by omega⟩;have hn:n < m.aG.length:=by omega
    obtain ⟨s,hs'⟩:∃ s,m.aG[n]?=some s:=⟨_,sX hn⟩;simp only [zQV,zYh,cond_false,cU,hs',wk,rg,zWX]
    by_cases hq:dg b=s
    ·obtain ⟨h3,h4⟩:=JQ hb hq (JR h1 hs');obtain ⟨e1,e2,e3⟩:=Aj (b:=x.cu) (A5 hk) n;simp only [hq,decide_true,zQV,cond_false,↓reduceIte];rw [KE u (A5 hk) n ak hx.l]; rfl
    ·simp [hq]
def xv(m:af)(old:List Int):Nat->Nat->aY->aY
 | 0,_,x=>x
 | n+1,i,x=>xv m old n (i+1) (if 0<=dK old m i then M.put m x i (M.win old (dK old m i).toNat (td m i)) else x)
def iY(m:af):aY:=if dp m then ⟨0,zQZ m.aU.toNat 0⟩ else ⟨0,[]⟩
def eP(m:af)(old:List Int):aY:=if dp m then xv m old m.aG.length 0 (iY m) else ⟨0,[]⟩
theorem Ie{m:af}(hm:dp m=true):fX (decide (0<=m.aU) && (m.aU == 0 || m.aU == m.aU))=some ()/\fX (decide (sY m.aU*1<=140737488355328))=some ():=by
 have:=GL hm;refine ⟨by simp [fX]; omega,b5 ak⟩
theorem JU{u:Nat}(hu:1099511627776<=u){m:af}(hm:m.aG.length<=1048576):tl u m=some (iY m):=by
 unfold tl iY;simp only [Bm hu m (show m.aG.length<=1073741824 by omega),wk]
 cases h:dp m with
 | false=>rfl
 | true=>obtain ⟨h1,h2⟩:=Ie h; rw [h1,h2]; rfl
theorem JV{u:Nat}(hu:1099511627776<=u){m:af}(hm:m.aG.length<=1048576):tu u m=some (iY m):=by
 unfold tu iY;simp only [mN hu m (show m.aG.length<=1073741824 by omega),wk]
 cases h:dp m with
 | false=>rfl
 | true=>obtain ⟨h1,h2⟩:=Ie h; rw [h1,h2]; rfl
theorem If{b:List Int}{s:cS}{n:Nat}:∀ (c i:Nat),0<=gC b s n c i->dg (M.win b (gC b s n c i).toNat n)=s
 | 0,_,h=>by simp [gC] at h
 | c+1,i,h=>by
  unfold gC at h ⊢
  split
  ·rename_i hq; simpa using hq
  ·rename_i hq;rw [if_neg hq] at h;exact If c (i+1) h
theorem CI{old:List Int}{m:af}{i:Nat}(h:0<=dK old m i):∃ s,m.aG[i]?=some s/\0<=(bW m.ar m.aU i).2/\dg (M.win old (dK old m i).toNat (td m i))=s/\(dK old m i).toNat+td m i<=old.length:=by
 unfold dK at h ⊢
 split at h
 ·rename_i s hs;simp only [hs];unfold qU at h ⊢
  split at h
  ·rename_i hw;have:=bI hw;rw [if_pos hw];have h1:=If _ _ h;have h2:=NH old s (bW m.ar m.aU i).2.toNat (old.length+1 - (bW m.ar m.aU i).2.toNat) 0;refine ⟨s,rfl,by omega,h1,?_⟩;unfold td;omega
  ·omega
 ·omega
structure M.Part (m:af) (i:Nat) (x:aY):Prop where
 b:M.BldWf x
 l:(x.cu.length:Int)=m.aU
 h:∃ n:Nat,x.bj=n/\n < 2 ^ i
theorem Eh{x p:List Int}{a:Nat}(h:a+p.length<=x.length)(hx:au x)(hp:au p):au (yX x p a)/\(yX x p a).length=x.length:=by
 rw [D8 h];refine ⟨λz hz=>?_,by simp; omega⟩;simp only [zWk] at hz;rcases hz with (hz | hz) | hz
 ·exact hx z (zXQ hz)
 ·exact hp z hz
 ·exact hx z (zXj hz)
theorem N8{m:af}{i:Nat}{x:aY}(hp:M.Part m i x)(hi:i<=39){b:List Int}(hb:au b)(hl:b.length=td m i):M.Part m (i+1) (M.put m x i b):=by
 obtain ⟨e1,e2,e3⟩:=Aj (b:=x.cu) hp.l i;obtain ⟨h1,h2⟩:=Eh (x:=x.cu) (p:=b) (a:=M.at_ m i) ak hp.b.b hb;obtain ⟨n,h3,h4⟩:=hp.h;have h5:(2:Nat) ^ i<=2 ^ 39:=zWy ak hi;refine ⟨⟨h1,by unfold M.put; dsimp only; rw [h2]; exact hp.b.l⟩,by unfold M.put; dsimp only; rw [h2]; exact hp.l,n ||| 2 ^ i,?_,?_⟩
 ·unfold M.put;dsimp only;rw [h3,BV ak,A3 ak ak]
 ·exact Nat.or_lt_two_pow (by rw [Nat.pow_succ]; omega) (by rw [Nat.pow_succ]; have:0 < 2 ^ i:=Nat.pow_pos ak; omega)
theorem EV{m:af}{i j:Nat}{x:aY}(hp:M.Part m i x)(h:i<=j):M.Part m j x:=by
 obtain ⟨n,h3,h4⟩:=hp.h;exact ⟨hp.b,hp.l,n,h3,zWV h4 (zWy ak h)⟩
theorem Vn{m:af}{i:Nat}{x:aY}(hp:M.Part m i x)(hi:i<=40):bh x.bj=true/\dB x.bj i=false:=by
 obtain ⟨n,h3,h4⟩:=hp.h;have h5:(2:Nat) ^ i<=2 ^ 40:=zWy ak hi;constructor
 ·rw [h3]; unfold bh ah; simp; omega
 ·unfold dB;rw [h3,rg,rg,Nat.testBit_lt_two_pow h4,Bool.and_false]
theorem Vo{old:List Int}(hl:old.length<=1048576){p:Int}{n:Nat}(h0:0<=p)(h:p.toNat+n<=old.length):fX (er p (aV .i64 p (n:Int)) old.length)=some ()/\(old.take (sY (aV .i64 p (n:Int)))).drop (sY p)=M.win old p.toNat n:=by
 obtain ⟨q,rfl⟩:∃ q:Nat,p=q:=⟨p.toNat,by omega⟩;simp only [rg] at h ⊢;rw [qA ak,mO ak ak];exact ⟨rfl,rfl⟩
theorem Ws{m:af}(hm:dp m=true){old:List Int}(ho:au old):∀ (n i:Nat) (x:aY),i+n=m.aG.length->M.Part m i x->M.Part m (i+n) (xv m old n i x):=by
 have h40:=w5 hm;intro n
 induction n with
 | zero=>intro i x _ hp; exact hp
 | succ n ih =>
  intro i x h hp;simp only [xv]
  by_cases hq:0<=dK old m i
  ·obtain ⟨s,g1,g2,g3,g4⟩:=CI hq;have hb:=lp ho (dK old m i).toNat (td m i);have hbl:(M.win old (dK old m i).toNat (td m i)).length=td m i:=qg g4;have hput:=N8 hp ak hb hbl;have k3:=ih (i+1) _ ak hput;rw [if_pos hq];rwa [show i+1+n=i+(n+1) by omega] at k3
  ·have k3:=ih (i+1) x ak (EV hp ak);rw [if_neg hq];rwa [show i+1+n=i+(n+1) by omega] at k3
theorem Wt{u:Nat}(hu:1099511627776<=u){m:af}(hm:dp m=true){old:List Int}(ho:au old)(hl:old.length<=1048576):∀ (n i:Nat) (x:aY),i+n=m.aG.length->M.Part m i x ->
  oU (yM u old m) (sW u old m) n i (x.bj,x.cu)=some (xv m old n i x):=by
 have h40:=w5 hm;intro n
 induction n with
 | zero=>intro i x _ hp; exact rfl
 | succ n ih =>
  intro i x h hp;obtain ⟨e1,e2,e3⟩:=Aj (b:=x.cu) hp.l i;obtain ⟨f1,f2⟩:=Vn hp ak;simp only [oU,xv,sW,lA];rw [LP hu ho ak ak,rL];simp only [wk]
  by_cases hq:0<=dK old m i
  ·obtain ⟨s,g1,g2,g3,g4⟩:=CI hq;have hq':decide (dK old m i>=0)=true:=by simpa using hq
   rw [e2];obtain ⟨c1,c2⟩:=Vo hl hq g4;have hb:=lp ho (dK old m i).toNat (td m i);have hbl:(M.win old (dK old m i).toNat (td m i)).length=td m i:=qg g4;have hput:=N8 hp ak hb hbl;have k1:=ih (i+1) _ ak hput;have h6:(M.win old (dK old m i).toNat (td m i)).length<=1048576:=by omega
   have hl8:zl m x i (M.win old (dK old m i).toNat (td m i))=(true,M.put m x i (M.win old (dK old m i).toNat (td m i))):=by
    unfold zl;have hw:ah (i:Int) 0 ((m.aG.length:Int) - 1)=true:=by unfold ah; simp; omega
    rw [hw,f2,rg,g1];simp [g3]
   rw [if_pos hq];simp only [hq',cond_true,c1,c2,wk,O8 hu hm hp.l f1 i hb h6,hl8];exact k1
  ·have hq':decide (dK old m i>=0)=false:=by simpa using hq
   have k1:=ih (i+1) x ak (EV hp ak);rw [if_neg hq];simp only [hq',cond_false];exact k1
theorem Wu{u:Nat}(hu:1099511627776<=u){m:af}(hm:dp m=true){old:List Int}(ho:au old)(hl:old.length<=1048576):∀ (n i:Nat) (x:aY),i+n=m.aG.length->M.Part m i x ->
  oU (yN u old m) (sZ u old m) n i (x.bj,x.cu)=some (xv m old n i x):=by
 have h40:=w5 hm;intro n
 induction n with
 | zero=>intro i x _ hp; exact rfl
 | succ n ih =>
  intro i x h hp;obtain ⟨e1,e2,e3⟩:=Aj (b:=x.cu) hp.l i;obtain ⟨f1,f2⟩:=Vn hp ak;simp only [oU,xv,sZ,lC];rw [C6 hu ho ak ak,nu];simp only [wk]
  by_cases hq:0<=dK old m i
  ·obtain ⟨s,g1,g2,g3,g4⟩:=CI hq;have hq':decide (dK old m i>=0)=true:=by simpa using hq
   rw [e2];obtain ⟨c1,c2⟩:=Vo hl hq g4;have hb:=lp ho (dK old m i).toNat (td m i);have hbl:(M.win old (dK old m i).toNat (td m i)).length=td m i:=qg g4;have hput:=N8 hp ak hb hbl;have k1:=ih (i+1) _ ak hput;rw [if_pos hq];simp only [hq',cond_true,c1,c2,wk,KE u hp.l i (Nat.le_of_eq hbl) hp.b.l];exact k1
  ·have hq':decide (dK old m i>=0)=false:=by simpa using hq
   have k1:=ih (i+1) x ak (EV hp ak);rw [if_neg hq];simp only [hq',cond_false];exact k1
theorem N9{m:af}(hm:dp m=true):M.Part m 0 (iY m):=by
 have:=GL hm;unfold iY;rw [if_pos hm];exact ⟨⟨by simp [au],by simp; omega⟩,by simp; omega,0,rfl,by simp⟩
theorem Ei{m:af}(hm:dp m=true){old:List Int}(ho:au old)(hl:old.length<=1048576):M.Part m m.aG.length (eP m old):=by
 have:=Ws hm ho m.aG.length 0 _ ak (N9 hm);unfold eP;rw [if_pos hm]
 simpa using this
theorem Ig{u:Nat}(hu:1099511627776<=u){m:af}(hs:m.aG.length<=1048576){old:List Int}(ho:au old)(hl:old.length<=1048576):rm u m old=some (eP m old):=by
 unfold rm eP;simp only [JU hu hs,Bm hu m (show m.aG.length<=1073741824 by omega),wk]
 cases hm:dp m with
 | false=>simp [iY,hm]
 | true =>
  simp only [zQV,cond_false,↓reduceIte];rw [E5 u old m ((iY m).bj,(iY m).cu) u ak ak,rg];exact Wt hu hm ho hl m.aG.length 0 _ ak (N9 hm)
theorem A6{u:Nat}(hu:1099511627776<=u){m:af}(hs:m.aG.length<=1048576){old:List Int}(ho:au old)(hl:old.length<=1048576):pb u m old=some (eP m old):=by
 unfold pb eP;simp only [JV hu hs,mN hu m (show m.aG.length<=1073741824 by omega),wk]
 cases hm:dp m with
 | false=>simp [iY,hm]
 | true =>
  simp only [zQV,cond_false,↓reduceIte];rw [E6 u old m ((iY m).bj,(iY m).cu) u ak ak,rg];exact Wu hu hm ho hl m.aG.length 0 _ ak (N9 hm)
def M.add(d:aA)(p:ej):aA×Bool:=if c7 (jK d p) then (jK d p,true) else (d,false)
def kz(d:aA)(slot at_:Int)(b:List Int):aA×Bool:=if ah slot 0 1 then M.add d ⟨slot,at_,b,⟨0,0,0⟩⟩ else (d,false)
def fM(d:aA)(r:gy):aA×Bool:=M.add d ⟨2,0,[],r⟩
def d7(d:aA):Int:=gX .i64 1 d.fR.dj
theorem Q6(d:aA)(p:ej):(M.add d p=(jK d p,true)/\c7 (jK d p)=true)\/M.add d p=(d,false):=by
 unfold M.add
 cases h:c7 (jK d p) with
 | true=>exact .inl ⟨rfl,rfl⟩
 | false=>exact .inr rfl
theorem JW{u:Nat}(hu:1099511627776<=u){d:aA}(hd:M.DOk d)(hl:d.fP.length<=1048575)(s a:Int){b:List Int}(hb:b.length<=1048576):qP u d s a b=some (kz d s a b):=by
 unfold qP kz M.add;rw [Af,Ib hu hd hl (p:=⟨s,a,b,⟨0,0,0⟩⟩) hb,jb hu hd];simp only [wk]
 cases ah s 0 1 <;> rfl
theorem Ih{u:Nat}(hu:1099511627776<=u){d:aA}(hd:M.DOk d)(hl:d.fP.length<=1048575)(r:gy):rx u d r=some (fM d r):=by
 unfold rx fM M.add;rw [Ib hu hd hl (p:=⟨2,0,[],r⟩) kU];rfl
theorem Br(u:Nat)(d:aA):uC u d=some (d7 d):=rfl
def lr(d0:aA)(b:List Int)(size:Int):Nat->Nat->aA->aA×Bool
 | 0,_,d=>(d,true)
 | n+1,i,d=>if (kz d (d7 d0) ((i:Int)*size) (dJ b size i).1).2 then lr d0 b size n (i+1) (kz d (d7 d0) ((i:Int)*size) (dJ b size i).1).1 else (d0,false)
def kA(d:aA)(b:List Int)(size:Int):aA×Bool :=
 if c7 d && decide (d.fP.length=0) && cO size b.length then lr d b size (bg size b.length).toNat 0 d else (d,false)
theorem SQ{d:aA}(h:c7 d=true):d.fP.length<=200:=by
 unfold c7 at h;simp only [sk,decide_eq_true_eq] at h;exact h.1.2
theorem KG(d:aA)(s a:Int)(b:List Int):(kz d s a b=(jK d ⟨s,a,b,⟨0,0,0⟩⟩,true)/\c7 (jK d ⟨s,a,b,⟨0,0,0⟩⟩)=true)\/kz d s a b=(d,false):=by
 unfold kz
 split
 ·exact Q6 d _
 ·exact .inr rfl
theorem Ii{d:aA}(hd:M.DOk d)(hl:d.fP.length<=200)(s a:Int){b:List Int}(hb:b.length<=1048576):M.DOk (kz d s a b).1/\(kz d s a b).1.fP.length<=200:=by
 rcases KG d s a b with ⟨h1,h2⟩ | h1
 ·rw [h1];exact ⟨JN hd ak hb,SQ h2⟩
 ·rw [h1]; exact ⟨hd,hl⟩
theorem KH(b:List Int)(size i:Int):(dJ b size i).1.length<=b.length:=by
 unfold dJ;dsimp only
 split
 ·simp
 ·unfold M.win; simp; omega
theorem Uy{u:Nat}(hu:1099511627776<=u){d0:aA}(h0:M.DOk d0){b:List Int}(hb:b.length<=1048576){size:Int}:∀ (n i f:Nat) (d:aA),i+n=(bg size b.length).toNat->n < f->M.DOk d->d.fP.length<=200 ->
  gY u f b size (bg size b.length) i d.fA d.fB d.fR.aM d.fR.dj d.fR.aU d.fP d0=some (lr d0 b size n i d):=by
 have hr:=blocks_range size b.length;intro n
 induction n with
 | zero =>
  intro i f d h hf hd hl;obtain ⟨f,rfl⟩:∃ j,f=j+1:=⟨f - 1,by omega⟩;have e:decide ((i:Int) < bg size b.length)=false:=by simp; omega
  unfold gY;simp only [e,cond_false];exact rfl
 | succ n ih =>
  intro i f d h hf hd hl;obtain ⟨f,rfl⟩:∃ j,f=j+1:=⟨f - 1,by omega⟩;have e:decide ((i:Int) < bg size b.length)=true:=by simp; omega
  have hw:ah (i:Int) 0 (bg size b.length - 1)=true:=by unfold ah; simp; omega
  obtain ⟨k1,k2,k3⟩:=zy hw;have k4:=oE k1;have k5:=BU (s:=size) (i:=i) ak ak k2 k3;have e1:(bW size b.length i).1=(i:Int)*size:=by unfold bW; rw [if_pos hw]
  have hbl:=KH b size i;have hde:aA.mk d.fA d.fB (gy.mk d.fR.aM d.fR.dj d.fR.aU) d.fP=d:=rfl;unfold gY lr;rw [C5 u ak,Br];simp only [wk,e,cond_true,hde];rw [kg ak ak,JW hu hd ak _ _ ak,jb hu h0];simp only [wk];obtain ⟨g1,g2⟩:=Ii hd hl (d7 d0) ((i:Int)*size) (b:=(dJ b size i).1) ak;have m1:=ih (i+1) f _ ak ak g1 g2;rw [fv ak]
  cases (kz d (d7 d0) ((i:Int)*size) (dJ b size i).1).2 with
  | true=>exact m1
  | false=>exact rfl
theorem JX{u:Nat}(hu:1099511627776<=u){d:aA}(hd:M.DOk d){b:List Int}(hb:b.length<=1048576)(size:Int):tA u d b size=some (kA d b size):=by
 have hr:=blocks_range size b.length;unfold tA pk kA;simp only [jb hu hd,rM hu hd,pE,pF,wk]
 cases c7 d with
 | false=>rfl
 | true =>
  by_cases hp:d.fP.length=0
  ·have e:decide ((d.fP.length:Int) > 0)=false:=decide_eq_false ak;simp only [e,hp,decide_true,zQV,cond_false,zWX,zWZ]
   cases cO size b.length with
   | false=>rfl
   | true=>exact Uy hu hd hb (size:=size) (bg size b.length).toNat 0 u d ak ak hd ak
  ·have e:decide ((d.fP.length:Int) > 0)=true:=by simp; omega
   simp only [e,hp,cond_true,zQV,cond_false,decide_false,Bool.and_false,Bool.false_and,zQk,↓reduceIte]
theorem FR{d0:aA}(h0:M.DOk d0)(hp:d0.fP.length<=200){b:List Int}(hb:b.length<=1048576){size:Int}:∀ (n i:Nat) (d:aA),M.DOk d->d.fP.length<=200->M.DOk (lr d0 b size n i d).1/\(lr d0 b size n i d).1.fP.length<=200
 | 0,i,d,hd,hl=>⟨hd,hl⟩
 | n+1,i,d,hd,hl=>by
  unfold lr;have hbl:=KH b size i;obtain ⟨g1,g2⟩:=Ii hd hl (d7 d0) ((i:Int)*size) (b:=(dJ b size i).1) ak
  split
  ·exact FR h0 hp hb n (i+1) _ g1 g2
  ·exact ⟨h0,hp⟩
def ei(d:aA)(m:af)(x:aY)(ph:Int):aA×Int :=
 if ph=1 then (if uw m x && (kA d x.cu m.ar).2 then ((kA d x.cu m.ar).1,2) else (d,ph))
 else if ph=2 then (M.sure d,3)
 else if ph=3 then (if (fM d ⟨m.aM,d7 d,m.aU⟩).2 then ((fM d ⟨m.aM,d7 d,m.aU⟩).1,4) else (d,ph))
 else if ph=4 then (M.sure d,5)
 else (d,ph)
theorem qai{α:Type}(ph:Int)(a b c e f:α):(bif ph == 1 then a else bif ph == 2 then b else bif ph == 3 then c else bif ph == 4 then e else f)=if ph=1 then a else if ph=2 then b else if ph=3 then c else if ph=4 then e else f:=by
 by_cases h1:ph=1
 ·simp [h1]
 ·by_cases h2:ph=2
  ·simp [h2]
  ·by_cases h3:ph=3
   ·simp [h3]
   ·by_cases h4:ph=4
    ·simp [h4]
    ·have e1:(ph == 1)=false:=by simpa using h1
     have e2:(ph == 2)=false:=by simpa using h2
     have e3:(ph == 3)=false:=by simpa using h3
     have e4:(ph == 4)=false:=by simpa using h4
     simp [e1,e2,e3,e4,h1,h2,h3,h4]
theorem Ms{α:Type}(p:Prop)[Decidable p](a b:α):(if p then some a else some b)=some (if p then a else b):=by split <;> rfl
theorem qaj(w s:Bool)(a b c:aA×Int)(hb:b=c):(bif !w then some c else (bif s then some a else some b))=some (if (w && s)=true then a else c):=by subst hb; cases w <;> cases s <;> rfl
theorem qa2(s:Bool)(a b:aA×Int):(bif s then some a else some b)=some (if s=true then a else b):=by cases s <;> rfl
theorem GM{u:Nat}(hu:1099511627776<=u){d:aA}(hd:M.DOk d)(hl:d.fP.length<=1048575){m:af}(hm:m.aG.length<=1048576){x:aY}(hx:M.BldWf x)(ph:Int):qs u d m x ph=some (ei d m x ph):=by
 unfold qs km ei;simp only [O6 hu hm hx,JX hu hd hx.l,Ia hu hd,Br,Ih hu hd hl,jb hu hd,wk,qai];rw [qaj _ _ _ _ _ rfl,qa2,Ms,Ms,Ms,Ms]
theorem Oa{d:aA}(hd:M.DOk d)(hl:d.fP.length<=200){m:af}{x:aY}(hx:M.BldWf x)(ph:Int):M.DOk (ei d m x ph).1/\(ei d m x ph).1.fP.length<=200:=by
 have hs:M.DOk (M.sure d)/\(M.sure d).fP.length<=200:=by
  refine ⟨Y9 hd,?_⟩;unfold M.sure
  split
  ·rw [SN]; simp
  ·exact hl
 have hst:M.DOk (kA d x.cu m.ar).1/\(kA d x.cu m.ar).1.fP.length<=200:=by
  unfold kA
  split
  ·exact FR hd hl hx.l _ _ _ hd hl
  ·exact ⟨hd,hl⟩
 have hr:M.DOk (fM d ⟨m.aM,d7 d,m.aU⟩).1/\(fM d ⟨m.aM,d7 d,m.aU⟩).1.fP.length<=200:=by
  unfold fM;rcases Q6 d ⟨2,0,[],⟨m.aM,d7 d,m.aU⟩⟩ with ⟨h1,h2⟩ | h1
  ·rw [h1]; exact ⟨JN hd ak kU,SQ h2⟩
  ·rw [h1]; exact ⟨hd,hl⟩
 unfold ei
 split
 ·split
  ·exact hst
  ·exact ⟨hd,hl⟩
 ·split
  ·exact hs
  ·split
   ·split
    ·exact hr
    ·exact ⟨hd,hl⟩
   ·split
    ·exact hs
    ·exact ⟨hd,hl⟩
def kB(f t:Int)(m:j4):aq:=⟨f,t,dh m⟩
def JY(g i:Int)(b:List Int):j4:=⟨3,g,Dm,0,0,i,b⟩
theorem GN(g i:Int){b:List Int}(hb:au b)(hl:b.length<=1048576):M.MsgWf (JY g i b):=FN _ _ _ _ _ hb hl
theorem mZ{u:Nat}(hu:1099511627776<=u)(f t:Int){m:j4}(hm:M.MsgWf m):gV u f t m=some (kB f t m):=by
 unfold gV;rw [Ah hu hm]; rfl
theorem C9(u:Nat)(g i:Int){b:List Int}(hl:b.length<=1048576):oq u g i b=some (JY g i b):=by
 unfold oq;rw [fw u ak]; rfl
theorem GO(m:af){x:aY}(hx:M.BldWf x)(i:Int):au (kx m x i).1/\(kx m x i).1.length<=1048576:=by
 unfold kx
 split
 ·exact JP hx.b hx.l _ _
 ·exact ⟨ku,by simp⟩
def zn(n:aD)(f t i:Int):aq:=kB f t (JY n.aB.aM i (kx n.aB n.bw i).1)
def jc(n:aD)(f t:Int):Act :=
 ⟨⟨n.lu,n.bY,n.bM,n.aB,n.bw,n.aR,iX n.aX t (oG n.aX t n.bw.bj),n.bE⟩,((gn (oG n.aX t n.bw.bj)).filter λi=>(kx n.aB n.bw i).2).map (zn n f t)⟩
theorem Ej(s:Int):(gn s).length<=40:=by
 unfold gn
 split
 ·rw [zWw];exact zXw (zZJ _ _) kU
 ·simp
theorem Uz{s:List aq}(hl:s.length<=1048576)(p:aq):fX (decide ((s.length + [p].length)*40<=140737488355328))=some ():=b5 lv
theorem Ij{u:Nat}(hu:1099511627776<=u){n:aD}(hn:M.NodWf n)(f t:Int):rE u n f t=some (jc n f t):=by
 have hp:=Ej (oG n.aX t n.bw.bj);unfold rE rC;simp only [hJ u hn,Eg hu hn.k,ut hu,wk];rw [Fb u _ _ _ _ _ _ _ u ak ak,N4 (xs:=gn (oG n.aX t n.bw.bj)) (λi=>(kx n.aB n.bw i).2) (zn n f t) (λx i s k hx hi hs=>?_) (gn (oG n.aX t n.bw.bj)) 0 [] rfl kU]
 ·unfold yT q5;rw [B4 hu hn.k]; rfl
 ·unfold yU lH;have w:=GO n.aB hn.b x;rw [C8 hu hn.s hn.b];simp only [wk]
  cases (kx n.aB n.bw x).2 with
  | false=>rfl
  | true =>
   simp only [cond_true,wk,C9 u _ _ w.2,mZ hu _ _ (GN _ _ w.1 w.2),Uz (show s.length<=1048576 by omega)];rfl
theorem O9(n:aD)(f t:Int):(jc n f t).sQ.length<=40:=by
 have hp:=Ej (oG n.aX t n.bw.bj);unfold jc;have:=zZJ (λi=>(kx n.aB n.bw i).2) (gn (oG n.aX t n.bw.bj));simp only [zWw];omega
def gP(n:aD)(l:List Kid):aD:=⟨n.lu,n.bY,n.bM,n.aB,n.bw,n.aR,l,n.bE⟩
def ek(g:Int):j4:=⟨4,g,Dm,0,0,0,[]⟩
def iK(m:af):j4:=⟨1,0,m,0,0,0,[]⟩
theorem EW(g:Int):M.MsgWf (ek g):=FN _ _ _ _ _ ku kU
theorem P1{m:af}(hs:m.aG.length<=1048576)(hw:xr m):M.MsgWf (iK m):=⟨hs,hw,ku,by simp [iK]⟩
def gF(n:aD)(me f:Int)(m:j4):Act :=
 if f=me then ⟨n,[]⟩ else
 let l:=kw n.aX f m.bZ m.bR
 if n.aR=0 then ⟨gP n l,[kB me f (ek 0)]⟩
 else if m.aM=n.aB.aM then
  (let a:=jc (gP n l) me f; if a.sQ.length=0 then ⟨a.fN,[kB me f (ek n.aB.aM)]⟩ else a)
 else ⟨gP n l,[kB me f (iK n.aB)]⟩
theorem A7{n:aD}(hn:M.NodWf n){l:List Kid}(hl:l.length<=1048577):M.NodWf (gP n l):=⟨hn.s,hn.b,hl,hn.w⟩
theorem GP{u:Nat}(hu:1099511627776<=u){n:aD}(hn:M.NodWf n)(hk:n.aX.length<=1048576)(me f:Int)(m:j4):qv u n me f m=some (gF n me f m):=by
 unfold qv gF ng;simp only [hJ u hn,wk]
 by_cases h1:f=me
 ·simp only [h1,beq_self_eq_true,cond_true,if_true]
 ·have e1:(f == me)=false:=by simpa using h1
  have hl:=SO n.aX f m.bZ m.bR;simp only [e1,h1,cond_false,if_false,Q5 hu hk,wk]
  by_cases h2:n.aR=0
  ·simp only [h2,beq_self_eq_true,cond_true,if_true];rw [show (j4.mk 4 0 (af.mk 0 0 0 []) 0 0 0 [])=ek 0 from rfl,mZ hu me f (EW 0)];simp only [wk,<- h2]; rfl
  ·have e2:(n.aR == 0)=false:=by simpa using h2
   simp only [e2,h2,cond_false,if_false]
   by_cases h3:m.aM=n.aB.aM
   ·simp only [h3,bne_self_eq_false,cond_false,if_true];rw [show (aD.mk n.lu n.bY n.bM n.aB n.bw n.aR (kw n.aX f m.bZ m.bR) n.bE)=gP n (kw n.aX f m.bZ m.bR) from rfl,Ij hu (A7 hn ak) me f];simp only [wk]
    cases ha:jc (gP n (kw n.aX f m.bZ m.bR)) me f with
    | mk an ao =>
     cases ao with
     | nil =>
      rw [show (j4.mk 4 n.aB.aM (af.mk 0 0 0 []) 0 0 0 [])=ek n.aB.aM from rfl,mZ hu me f (EW _)];simp only [wk]; rfl
     | cons p ps =>
      have e3:decide ((((p :: ps).length:Nat):Int) > 0)=true:=by simp
      simp only [e3,cond_true]; simp
   ·have e3:(m.aM != n.aB.aM)=true:=by simpa using h3
    simp only [e3,h3,cond_true,if_false];rw [show (j4.mk 1 0 (af.mk n.aB.aM n.aB.ar n.aB.aU n.aB.aG) 0 0 0 [])=iK n.aB from rfl,mZ hu me f (P1 hn.s hn.w)];simp only [wk]; rfl
theorem Pa{m:af}{x:aY}{i:Int}(h:(kx m x i).2=true):gm i=true:=by
 unfold kx at h
 split at h
 ·rename_i h1;simp only [sk,dB] at h1;exact h1.2.1.2
 ·cases h
def jP(n:aD)(me i:Int)(s:List Kid×List aq)(x:Kid):List Kid×List aq :=
 if dB (oG s.1 x.j7 n.bw.bj) i then (iX s.1 x.j7 (jt .i64 1 i),s.2++[zn n me x.j7 i]) else s
def Ik(n:aD)(me i:Int):List Kid×List aq:=n.aX.foldl (jP n me i) (n.aX,[])
def nY(n:aD)(me i:Int):Act:=if (kx n.aB n.bw i).2 then ⟨gP n (Ik n me i).1,(Ik n me i).2⟩ else ⟨n,[]⟩
theorem KI(n:aD)(me i:Int)(s:List Kid×List aq)(x:Kid):(jP n me i s x).1.length=s.1.length/\(jP n me i s x).2.length<=s.2.length+1:=by
 unfold jP
 split
 ·exact ⟨Id _ _ _,by simp⟩
 ·exact ⟨rfl,by omega⟩
theorem Zc(n:aD)(me i:Int):∀ (l:List Kid) (s:List Kid×List aq),(l.foldl (jP n me i) s).1.length=s.1.length/\(l.foldl (jP n me i) s).2.length<=s.2.length+l.length:=by
 intro l
 induction l with
 | nil=>intro s; exact ⟨rfl,by simp⟩
 | cons x l ih =>
  intro s;have h:=ih (jP n me i s x);have g:=KI n me i s x;simp only [List.foldl_cons,zQw];omega
end Go.Tm.Pu
