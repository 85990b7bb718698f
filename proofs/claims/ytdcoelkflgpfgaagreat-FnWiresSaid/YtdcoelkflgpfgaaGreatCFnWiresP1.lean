/- Plain laws of the functions. -/
import Derived.Test.YtdcoelkflgpfgaaGreatCFnWiresD
set_option linter.unusedVariables false
set_option linter.unusedSimpArgs false
open Bool renaming and_eq_true->sk,and_self->zXH,eq_iff_iff->zYq,false_eq_true->zQk,not_false->zVQ,not_true->zQW,true_and->zWG
open Int renaming add_mul->zZx,ediv_ediv_of_nonneg->zYH,emod_lt_of_pos->zZw,emod_nonneg->zZq,eq_ofNat_of_zero_le->zQK,mul_comm->zZG,natCast_zero->zZk,pow_succ->zWh,tmod_eq_emod_of_nonneg->zXK,toNat->sY,toNat_natCast->zQQ
open List renaming append_assoc->zQz,append_nil->zWj,cons_append->zXk,drop_eq_getElem_cons->zXG,drop_of_length_le->zXv,getElem?_cons_zero->zWW,getElem?_drop->zQw,getElem?_eq_getElem->sX,getElem?_map->zQZ,getElem?_range->zZW,getElem_mem->zYW,head?->zYG,head?_drop->zXV,length->zYK,length_append->zQJ,length_cons->zQV,length_drop->zYy,length_nil->zXW,length_set->zXZ,length_singleton->zYV,length_take->zQh,map_congr_left->zWv,map_cons->zWg,mem_append->zWJ,mem_map->zXg,mem_of_getElem?->zQX,mem_of_mem_drop->zWw,mem_of_mem_take->zWQ,mem_or_eq_of_mem_set->zYZ,mem_singleton->zQx,nil_append->zQy,range->zWz,range'->zXX,range_eq_range'->zXy,replicate->zQH,tail->zYk,tail_drop->zXq,take_add_one->zZy,take_of_length_le->zYw
open Nat renaming add_zero->zXY,and_two_pow_sub_one_eq_mod->zZY,le_refl->zWq,le_trans->zWx,lt_of_lt_of_le->zQg,min_eq_left->zYQ,mul_le_mul_right->zWY,pow_le_pow_right->zYX,zero_add->zWV
open Option renaming bind_some->wk
namespace Go.Tm.Pu
open Go.Tm
def ar(n a b:Int):Bool:=decide (a<=n) && decide (n<=b)
def fk(size n:Int):Bool:=ar size 2 6 && ar n 0 (40*size)
def ch(size n:Int):Int:=if fk size n then (n+size - 1) / size else 0
def cm(size n i:Int):Int×Int:=if ar i 0 (ch size n - 1) then (i*size,min size (n - i*size)) else (0,0)
theorem cd{n a b:Int}(h:ar n a b=true):a<=n/\n<=b:=by simpa [ar] using h
theorem PU{n a b:Int}(h:ar n a b=false):n < a\/b < n:=by
 simp [ar] at h; omega
theorem d9(u:Nat)(n a b:Int):df u n a b=some (ar n a b):=by
 unfold df ar
 by_cases h:a<=n <;> simp [h]
theorem bL(u:Nat)(n a b:Int):bN u n a b=some (ar n a b):=by
 unfold bN ar
 by_cases h:a<=n <;> simp [h]
theorem Cc(u:Nat)(s n:Int):sK u s n=some (fk s n):=by
 unfold sK fk;simp only [d9,wk]
 cases h:ar s 2 6 with
 | false=>simp
 | true =>
  have:=cd h;simp (disch:=omega) only [cond_true,zWG,iH]
theorem pN(u:Nat)(s n:Int):ma u s n=some (fk s n):=by
 unfold ma fk;simp only [bL,wk]
 cases h:ar s 2 6 with
 | false=>simp
 | true =>
  have:=cd h;simp (disch:=omega) only [cond_true,zWG,iH];rw [zZG]
theorem vw{s n:Int}(h:fk s n=true):2<=s/\s<=6/\0<=n/\n<=40*s:=by
 simp [fk,ar] at h; omega
def wV(a b:Int):Int:=if ar a 0 1000000000000 && ar b 1 1000000000000 then (a+b - 1) / b else 0
theorem Ju(u:Nat)(a b:Int):tw u a b=some (wV a b):=by
 unfold tw wV se;simp only [d9,wk]
 cases h:ar a 0 1000000000000 with
 | false=>simp
 | true =>
  cases h2:ar b 1 1000000000000 with
  | false=>simp
  | true =>
   have:=cd h;have:=cd h2;have hb:(b == 0)=false:=by simp; omega
   simp (disch:=omega) [c9,cq,cJ,KV,hb]
theorem Jv(u:Nat)(a b:Int):sT u a b=some (wV a b):=by
 unfold sT wV rG;simp only [bL,wk]
 cases h:ar a 0 1000000000000 with
 | false=>simp
 | true =>
  cases h2:ar b 1 1000000000000 with
  | false=>simp
  | true =>
   have:=cd h;have:=cd h2;have hb:(b == 0)=false:=by simp; omega
   simp (disch:=omega) [c9,cq,cJ,KV,hb]
theorem Io{s n:Int}(h:fk s n=true):wV n s=(n+s - 1) / s:=by
 have:=vw h;have h1:ar n 0 1000000000000=true:=by simp [ar]; omega
 have h2:ar s 1 1000000000000=true:=by simp [ar]; omega
 simp [wV,h1,h2]
theorem xL(u:Nat)(s n:Int):pu u s n=some (ch s n):=by
 unfold pu ch;simp only [Cc,Ju,wk]
 cases h:fk s n with
 | false=>simp
 | true=>simp [Io h]
theorem gq(u:Nat)(s n:Int):mb u s n=some (ch s n):=by
 unfold mb ch;simp only [pN,Jv,wk]
 cases h:fk s n with
 | false=>simp
 | true=>simp [Io h]
theorem eS(s n:Int):0<=ch s n/\ch s n<=40:=by
 unfold ch
 split
 ·rename_i h;have h:=vw h;refine ⟨Int.ediv_nonneg (by omega) (by omega),?_⟩;have:(n+s - 1) / s < 41:=Int.ediv_lt_of_lt_mul (by omega) (by omega);omega
 ·omega
theorem Ae{s n i:Int}(h:ar i 0 (ch s n - 1)=true):fk s n=true/\0<=i/\i<=39:=by
 have h1:=cd h;have:=eS s n;refine ⟨?_,by omega,by omega⟩
 cases h2:fk s n with
 | true=>rfl
 | false=>simp [ch,h2] at h1; omega
theorem CJ{s i:Int}(h1:2<=s)(h2:s<=6)(h3:0<=i)(h4:i<=39):0<=i*s/\i*s<=234 :=
 ⟨Int.mul_nonneg h3 (by omega),Int.le_trans (Int.mul_le_mul h4 h2 (by omega) (by omega)) (by omega)⟩
theorem Lx(u:Nat)(s n i:Int):sL u s n i=some (cm s n i):=by
 unfold sL cm;have hb:=eS s n;simp (disch:=omega) only [xL,d9,wk,cJ]
 cases h:ar i 0 (ch s n - 1) with
 | false=>simp
 | true =>
  have ⟨h1,h2,h3⟩:=Ae h;have h1:=vw h1;have h4:=CJ (s:=s) (i:=i) (by omega) (by omega) h2 h3;simp (disch:=omega) [iH,cJ];omega
theorem Ds(u:Nat)(a b:Int):uc u a b=some (min a b):=by
 unfold uc
 by_cases h:b < a <;> simp [h] <;> omega
theorem jt(u:Nat)(s n i:Int):fh u s n i=some (cm s n i):=by
 unfold fh cm;have hb:=eS s n;simp (disch:=omega) only [gq,bL,wk,cJ]
 cases h:ar i 0 (ch s n - 1) with
 | false=>simp
 | true =>
  have ⟨h1,h2,h3⟩:=Ae h;have h1:=vw h1;have h4:=CJ (s:=s) (i:=i) (by omega) (by omega) h2 h3;simp (disch:=omega) [iH,cJ,Ds]
def aq(b:List Int):Prop:=∀ x∈b,0<=x/\x<=255
def qv:List Int->Int->Int->Int×Int
 | [],x,y=>(x,y)
 | c :: b,x,y=>qv b ((x+c) % 251) ((y+(x+c) % 251) % 251)
def ct(b:List Int):Int:=(qv b 0 0).1+251*(qv b 0 0).2
theorem Cd(b:List Int):∀ (x y:Int),0<=x->x < 251->0<=y->y < 251->0<=(qv b x y).1/\(qv b x y).1 < 251/\0<=(qv b x y).2/\(qv b x y).2 < 251:=by
 induction b with
 | nil=>intro x y h1 h2 h3 h4; exact ⟨h1,h2,h3,h4⟩
 | cons c b ih =>
  intro x y h1 h2 h3 h4;exact ih _ _ (by omega) (by omega) (by omega) (by omega)
theorem AI(b:List Int):0<=ct b/\ct b<=63000:=by
 have:=Cd b 0 0 (by omega) (by omega) (by omega) (by omega);unfold ct; omega
theorem ME(u:Nat):∀ (p b:List Int) (i:Nat) (x y:Int),aq b->0<=x->x < 251->0<=y->y < 251 ->
  bU (zt u p) (ud u p) b i (x,y)=o9 u (qv b x y).1 (qv b x y).2:=by
 intro p b
 induction b with
 | nil=>intros; rfl
 | cons c b ih =>
  intro i x y hb h1 h2 h3 h4;have hc:=hb c (by simp);have e1:m4 .i64 (aW .i64 x (IntKind.wrap .i64 c)) 251=(x+c) % 251:=by
   rw [fi (by omega) (by omega),cq (by omega) (by omega),xA (by omega)]
  have e2:m4 .i64 (aW .i64 y ((x+c) % 251)) 251=(y+(x+c) % 251) % 251:=by
   rw [cq (by omega) (by omega),xA (by omega)]
  simp only [bU,ud,e1,e2];exact ih (i+1) _ _ (λz hz=>hb z (by simp [hz])) (by omega) (by omega) (by omega) (by omega)
theorem MF(u:Nat):∀ (p b:List Int) (i:Nat) (x y:Int),aq b->0<=x->x < 251->0<=y->y < 251 ->
  bU (zK u p) (ut u p) b i (x,y)=pv u (qv b x y).1 (qv b x y).2:=by
 intro p b
 induction b with
 | nil=>intros; rfl
 | cons c b ih =>
  intro i x y hb h1 h2 h3 h4;have hc:=hb c (by simp);have e1:m4 .i64 (aW .i64 x (IntKind.wrap .i64 c)) 251=(x+c) % 251:=by
   rw [fi (by omega) (by omega),cq (by omega) (by omega),xA (by omega)]
  have e2:m4 .i64 (aW .i64 y ((x+c) % 251)) 251=(y+(x+c) % 251) % 251:=by
   rw [cq (by omega) (by omega),xA (by omega)]
  simp only [bU,ut,e1,e2];exact ih (i+1) _ _ (λz hz=>hb z (by simp [hz])) (by omega) (by omega) (by omega) (by omega)
theorem tU{u:Nat}(hu:1099511627776<=u){b:List Int}(hb:aq b)(hl:b.length<=1073741824):nd u b=some (ct b):=by
 unfold nd;rw [GJ u b (0,0) u (by omega) (by omega),ME u b b 0 0 0 hb (by omega) (by omega) (by omega) (by omega)];have:=Cd b 0 0 (by omega) (by omega) (by omega) (by omega);unfold o9 ct;simp (disch:=omega) only [iH,cq]
theorem Nv{n m:Int}(hm:0 < m):(n.tmod m+m).tmod m=n % m:=by
 rcases Int.le_total 0 n with h | h
 ·rw [zXK h,zXK (by have:=zZq n (show m≠0 by omega); omega)];simp
 ·have h1:n.tmod m=-((-n) % m):=by
   rw [show n=-(-n) by omega,Int.neg_tmod,zXK (by omega)]; simp
  have h2:=zZq (-n) (show m≠0 by omega);have h3:=zZw (-n) hm;rw [h1,zXK (by omega)];have:(-((-n) % m)+m) % m=n % m:=by
   have e:-n=m*(-n / m)+(-n) % m:=(Int.mul_ediv_add_emod (-n) m).symm;have e2:-((-n) % m)+m=n+m*(-n / m+1):=by
    rw [Int.mul_add]; omega
   rw [e2,Int.add_mul_emod_self_left]
  exact this
theorem Ly{n m:Int}(hm:0 < m):-m < n.tmod m/\n.tmod m < m:=by
 rcases Int.le_total 0 n with h | h
 ·rw [zXK h];have h2:=zZq n (show m≠0 by omega);have h3:=zZw n hm;omega
 ·have h1:n.tmod m=-((-n) % m):=by
   rw [show n=-(-n) by omega,Int.neg_tmod,zXK (by omega)]; simp
  have h2:=zZq (-n) (show m≠0 by omega);have h3:=zZw (-n) hm;omega
theorem Od(u:Nat)(n m:Int):wT u n m=some (if ar m 1 1000000000000 then n % m else 0):=by
 unfold wT;simp only [d9,wk]
 cases h:ar m 1 1000000000000 with
 | false=>simp
 | true =>
  have h3:=cd h;have hb:(m == 0)=false:=by simp; omega
  have h4:=Ly (n:=n) (m:=m) (by omega);simp only [hb,zQW,cond_false,zVQ,zR,wk];have e1:m4 .i64 n m=n.tmod m:=rfl;rw [e1,cq (by omega) (by omega)];show some ((n.tmod m+m).tmod m)=_;rw [Nv (by omega)]; simp
theorem Oe(u:Nat)(x y:Int):zJ u x y=some (x % 251+251*(y % 251)):=by
 unfold zJ;have h:ar 251 1 1000000000000=true:=by decide
 simp only [Od,wk,h,if_true];simp (disch:=omega) only [iH,cq]
theorem xM{u:Nat}(hu:1099511627776<=u){b:List Int}(hb:aq b)(hl:b.length<=1073741824):nk u b=some (ct b):=by
 unfold nk;rw [GY u b (0,0) u (by omega) (by omega),MF u b b 0 0 0 hb (by omega) (by omega) (by omega) (by omega)];have:=Cd b 0 0 (by omega) (by omega) (by omega) (by omega);unfold pv ct;simp only [Oe,wk]
 congr 1
 omega
def ju:Nat->Int->List Int
 | 0,_=>[]
 | n+1,s=>ju n (s / 256)++[s % 256]
def n9:Nat->Int->Option (List Int)
 | 0,s=>if s=1 then some [] else none
 | n+1,s=>if s=1 then some [] else if s < 256 then none else (n9 n (s / 256)).map (·++[s % 256])
def bW(s:Int):List Int×Bool:=if s < 1 then ([],false) else match n9 6 s with | some b=>(b,true) | none=>([],false)
def yK:Nat->Int->Nat
 | 0,_=>0
 | k+1,t=>if 1 < t then yK k (t / 256)+1 else 0
def sj:Nat->Int->Int
 | 0,t=>t
 | k+1,t=>if 1 < t then sj k (t / 256) else t
theorem T5:∀ (k:Nat) (t:Int),yK k t<=k:=by
 intro k
 induction k with
 | zero=>intro t; simp [yK]
 | succ k ih=>intro t; unfold yK; have:=ih (t / 256); split <;> omega
theorem Lz:∀ (k:Nat) (t:Int),sj k t=t / 256 ^ yK k t:=by
 intro k
 induction k with
 | zero=>intro t; simp [sj,yK]
 | succ k ih =>
  intro t;unfold sj yK
  split
  ·rw [ih,zYH (by omega),zWh,zZG]
  ·simp
theorem HJ:∀ (k:Nat) (t:Int),0<=t->n9 k t=if sj k t=1 then some (ju (yK k t) t) else none:=by
 intro k
 induction k with
 | zero=>intro t h; simp [n9,sj,yK,ju]
 | succ k ih =>
  intro t h;unfold n9 sj yK
  by_cases h1:t=1
  ·subst h1; simp [ju]
  ·rw [if_neg h1]
   by_cases h2:1 < t
   ·simp only [if_pos h2]
    by_cases h3:t < 256
    ·have:t / 256=0:=Int.ediv_eq_zero_of_lt h h3;rw [if_pos h3,this];have:sj k 0=0:=by rw [Lz]; simp
     rw [this]; simp
    ·rw [if_neg h3,ih _ (by omega)]
     split <;> simp [ju]
   ·have:t=0:=by omega
    subst this; simp
theorem T6:∀ (k:Nat) (t:Int),0<=t->t / 256 ^ k<=sj k t:=by
 intro k
 induction k with
 | zero=>intro t h; simp [sj]
 | succ k ih =>
  intro t h;unfold sj
  split
  ·have:=ih (t / 256) (by omega);rwa [zYH (by omega),zZG,<- zWh] at this
  ·exact Int.ediv_le_self _ h
theorem Of:∀ (n:Nat) (s:Int),aq (ju n s):=by
 intro n
 induction n with
 | zero=>intro s x hx; simp [ju] at hx
 | succ n ih =>
  intro s x hx;simp only [ju,zWJ,zQx] at hx;rcases hx with h | h
  ·exact ih _ x h
  ·omega
theorem MG:∀ (n:Nat) (s:Int),(ju n s).length=n:=by
 intro n
 induction n with
 | zero=>intro s; rfl
 | succ n ih=>intro s; simp [ju,ih]
theorem AJ{s:Int}{b:List Int}(h:bW s=(b,true)):1<=s/\s / 256 ^ b.length=1/\b=ju b.length s/\b.length<=6:=by
 unfold bW at h
 split at h
 ·cases h
 ·rename_i h1;rw [HJ 6 s (by omega)] at h;have he:=Lz 6 s;have hn:=T5 6 s
  by_cases h2:sj 6 s=1
  ·simp only [h2,if_true,Prod.mk.injEq,and_true] at h;subst h;rw [MG];exact ⟨by omega,by rw [<- he]; exact h2,rfl,hn⟩
  ·simp [h2] at h
theorem rC(s:Int):aq (bW s).1/\(bW s).1.length<=6:=by
 match h:bW s with
 | (b,true) =>
  have h:=AJ h;exact ⟨by rw [h.2.2.1]; exact Of _ _,h.2.2.2⟩
 | (b,false) =>
  have:b=[]:=by
   unfold bW at h
   split at h
   ·simp at h; exact h.symm ▸ rfl
   ·split at h <;> simp at h; exact h.symm ▸ rfl
  subst this;exact ⟨by simp [aq],by simp⟩
theorem U3(a:Int)(h:0<=a):IntKind.wrap .u8 (eH .i64 a 255)=a % 256:=by
 have:eH .i64 a 255=a % 256:=by
  unfold eH;have e:(BitVec.ofInt (IntKind.bits .i64) a &&& BitVec.ofInt (IntKind.bits .i64) 255).toNat=(a % 256).toNat:=by
   change (BitVec.ofInt 64 a &&& BitVec.ofInt 64 255).toNat=(a % 256).toNat
   rw [BitVec.toNat_and,BitVec.toNat_ofInt,BitVec.toNat_ofInt,show ((255:Int) % ((2 ^ 64:Nat):Int)).toNat=2 ^ 8 - 1 by decide,zZY];omega
  rw [e];exact (fi (by omega) (by omega)).trans (by omega)
 rw [this,sg]; omega
theorem El(u:Nat):∀ (k n:Nat) (s:Int) (acc:List Int),n < k->1<=s->s < 256 ^ n*2->acc.length+n<=1000 ->
  lJ u k s acc=some (match n9 n s with | some b=>(b++acc,true) | none=>([],false)):=by
 intro k
 induction k with
 | zero=>intro n s acc h; omega
 | succ k ih =>
  intro n s acc hk h1 h2 h3;unfold lJ
  by_cases h4:s=1
  ·subst h4
   cases n <;> simp [n9,vH]
  ·have h5:s > 1:=by omega
   cases n with
   | zero=>simp at h2; omega
   | succ n =>
    simp only [h5,decide_true,cond_true,n9,if_neg h4]
    by_cases h6:s < 256
    ·simp [h6]
    ·have hw:([IntKind.wrap .u8 (eH .i64 s 255)])=[s % 256]:=by rw [U3 _ (by omega)]
     simp only [h6,decide_false,cond_false,if_false,Ws,hw];rw [bl (by simp; omega)];simp only [wk];rw [ih n (s / 256) _ (by omega) (by omega) (by rw [zWh] at h2; omega) (by simp; omega)]
     cases n9 n (s / 256) <;> simp
theorem PV{s:Int}(h:562949953421311 < s):bW s=([],false):=by
 unfold bW;rw [if_neg (by omega),HJ 6 s (by omega)];have:=T6 6 s (by omega);have e:(256:Int) ^ 6=281474976710656:=by decide
 rw [e] at this;rw [if_neg (by omega)]
theorem vX{u:Nat}(hu:1099511627776<=u)(s:Int):nr u s=some (bW s):=by
 unfold nr;simp only [bL,wk]
 cases h:ar s 1 562949953421311 with
 | false =>
  rcases PU h with h | h
  ·simp [bW,h]
  ·rw [PV h]; simp
 | true =>
  have h:=cd h;have e:(256:Int) ^ 6=281474976710656:=by decide
  simp only [zQW,cond_false];rw [El u u 6 s [] (by omega) (by omega) (by rw [e]; omega) (by simp)];unfold bW;rw [if_neg (by omega)]
  cases n9 6 s <;> simp
theorem Rb(s:Int)(j:Nat)(h:j<=8):lB .i64 s (8*(j:Int))=s / 256 ^ j:=by
 have:=N0 .i64 s (8*j) (by simp [IntKind.bits]; omega);rw [show ((8*j:Nat):Int)=8*(j:Int) by simp] at this;rw [this,show (256:Int)=2 ^ 8 by decide,<- Int.pow_mul]
theorem SY{α ρ:Type}{fin:List α->Option ρ}{body:Nat->List α->(List α->Option ρ)->Option ρ}(f:Nat->α)(n:Nat)(hb:∀ i s k,i < n->s.length=n->body i s k=k (s.set i (f i))) :
  ∀ (m i:Nat) (s:List α),i+m=n->s.length=n->s.take i=(zWz i).map f->n5 fin body m i s=fin ((zWz n).map f):=by
 intro m
 induction m with
 | zero =>
  intro i s h1 h2 h3;simp only [n5]
  congr 1
  rw [zYw (by omega)] at h3;rw [h3,show i=n by omega]
 | succ m ih =>
  intro i s h1 h2 h3;simp only [n5];rw [hb i s _ (by omega) h2];refine ih (i+1) _ (by omega) (by simp [h2]) ?_;rw [zZy,List.take_set_of_le (zWq i),h3,List.getElem?_set_self (by omega),List.range_succ,List.map_append];rfl
theorem Og:∀ (n:Nat) (s:Int),ju n s=(zWz n).map λi=>s / 256 ^ (n - 1 - i) % 256:=by
 intro n
 induction n with
 | zero=>intro s; rfl
 | succ n ih =>
  intro s;rw [ju,ih,List.range_succ,List.map_append]
  congr 1
  ·apply zWv
   intro i hi;have hi:i < n:=by simpa using hi
   rw [zYH (by omega),zZG,<- zWh,show (n - 1 - i).succ=n+1 - 1 - i by omega]
  ·simp
theorem Em{u:Nat}(hu:1099511627776<=u)(s:Int)(n:Nat)(hn:n<=6):nY u s (n:Int)=some (if 1<=s/\s / 256 ^ n=1 then (ju n s,true) else ([],false)):=by
 unfold nY
 by_cases h1:s < 1
 ·have:¬ (1<=s):=by omega
  simp [h1,this,lQ]
 ·rw [iH (by omega) (by omega),Rb _ _ (by omega),bl (by omega)]
  by_cases h2:s / 256 ^ n=1
  ·have h3:(1:Int)<=s:=by omega
   simp only [h1,decide_false,cond_false,wk,h2,h3,true_and,if_true];unfold lQ;rw [show ((1:Int) != 1)=false by decide];simp only [cond_false,beq_self_eq_true,Bool.or_true,Bool.and_true,zQQ];rw [bl (by omega),bl (by omega)];simp only [wk];rw [Fh u s n _ u (by simp; omega) (by simp; omega)];simp only [List.length_replicate,zQQ];rw [SY (λi=>s / 256 ^ (n - 1 - i) % 256) n _ n 0 _ (by omega) (by simp) (by simp),<- Og]
   ·rfl
   ·intro i t k hi ht;unfold yp;have e:cW .i64 (cW .i64 (n:Int) 1) (i:Int)=((n - 1 - i:Nat):Int):=by
     rw [cJ (a:=(n:Int)) (by omega) (by omega),cJ (by omega) (by omega)]; omega
    rw [e,iH (by omega) (by omega),Rb _ _ (by omega),bl (by omega),sg,b9,sX (by omega)];simp
  ·have:(s / 256 ^ n != 1)=true:=by simpa using h2
   simp only [h1,decide_false,cond_false,wk,this];simp [lQ,h2]
theorem Eo{u:Nat}(hu:1099511627776<=u)(s:Int):∀ (m n k:Nat),n+m=6->m < k->gC u k s (n:Int)=nY u s ((n+yK m (s / 256 ^ n):Nat):Int):=by
 intro m
 induction m with
 | zero =>
  intro n k h1 h2;obtain ⟨k,rfl⟩:∃ j,k=j+1:=⟨k - 1,by omega⟩;unfold gC;have:¬ ((n:Int) < 6):=by omega
  simp [this,nZ,yK]
 | succ m ih =>
  intro n k h1 h2;obtain ⟨k,rfl⟩:∃ j,k=j+1:=⟨k - 1,by omega⟩;unfold gC;have h3:(n:Int) < 6:=by omega
  rw [iH (by omega) (by omega),Rb _ _ (by omega),bl (by omega)];simp only [h3,decide_true,cond_true,wk,nZ,yK]
  by_cases h4:s / 256 ^ n > 1
  ·have h4':1 < s / 256 ^ n:=h4;simp only [h4,decide_true,cond_true,h4',if_true];rw [db (by omega),ih (n+1) k (by omega) (by omega),zWh,<- zYH (Int.le_of_lt (Int.pow_pos (by omega)))]
   congr 1
   omega
  ·have h4':¬ 1 < s / 256 ^ n:=h4;simp only [h4,decide_false,cond_false,h4',if_false];simp
theorem Bg{u:Nat}(hu:1099511627776<=u)(s:Int):mj u s=some (bW s):=by
 unfold mj;have:=Eo hu s 6 0 u (by omega) (by omega);simp only [zZk,Int.pow_zero,Int.ediv_one,zWV] at this;rw [this,Em hu s _ (T5 6 s)];unfold bW
 by_cases h:s < 1
 ·have:¬ (1<=s):=by omega
  simp [h,this]
 ·rw [if_neg h,HJ 6 s (by omega),Lz];have:1<=s:=by omega
  by_cases h2:s / 256 ^ yK 6 s=1 <;> simp [h2,this]
def iS:List Int->Int->Int
 | [],s=>s
 | c :: b,s=>iS b (256*s+c)
def ef(b:List Int):b4:=if 6 < b.length then ⟨0,0⟩ else ⟨ct b,iS b 1⟩
theorem PW(a b:List Int):∀ s,iS (a++b) s=iS b (iS a s):=by
 induction a with
 | nil=>intro s; rfl
 | cons c a ih=>intro s; exact ih _
theorem PX:∀ (n:Nat) (s:Int),s / 256 ^ n=1->iS (ju n s) 1=s:=by
 intro n
 induction n with
 | zero=>intro s h; simpa [ju,iS] using h.symm
 | succ n ih =>
  intro s h;rw [ju,PW,ih]
  ·simp only [iS]; omega
  ·rw [zYH (by omega),zZG,<- zWh]; exact h
theorem ze{s:Int}{b:List Int}(h:bW s=(b,true)):ef b=⟨ct b,s⟩:=by
 have ⟨h1,h2,h3,h4⟩:=AJ h;unfold ef;have:=PX b.length s h2;rw [<- h3] at this;rw [if_neg (by omega),this]
theorem LA:∀ (b:List Int) (s:Int) (n:Nat),aq b->0<=s->s < 256 ^ n*2->0<=iS b s/\iS b s < 256 ^ (n+b.length)*2:=by
 intro b
 induction b with
 | nil=>intro s n _ h1 h2; exact ⟨h1,h2⟩
 | cons c b ih =>
  intro s n hb h1 h2;have hc:=hb c (by simp);have:=ih (256*s+c) (n+1) (λz hz=>hb z (by simp [hz])) (by omega) (by rw [zWh]; omega);simp only [zQV,iS];rwa [show n+(b.length+1)=n+1+b.length by omega]
theorem Oh(u:Nat):∀ (p b:List Int) (i:Nat) (s:Int) (n:Nat),aq b->0<=s->s < 256 ^ n*2->n+b.length<=6 ->
  bU (AW u p) (vG u p) b i s=qS u p (iS b s):=by
 intro p b
 induction b with
 | nil=>intros; rfl
 | cons c b ih =>
  intro i s n hb h1 h2 h3;have hc:=hb c (by simp);simp only [zQV] at h3;have hp:(256:Int) ^ n<=1099511627776:=by
   rcases (show n=0\/n=1\/n=2\/n=3\/n=4\/n=5 by omega) with rfl | rfl | rfl | rfl | rfl | rfl <;> decide
  simp only [bU,vG];rw [fi (by omega) (by omega),iH (by omega) (by omega),cq (by omega) (by omega)];exact ih (i+1) _ (n+1) (λz hz=>hb z (by simp [hz])) (by omega) (by rw [zWh]; omega) (by omega)
theorem mu{u:Nat}(hu:1099511627776<=u){b:List Int}(hb:aq b)(hl:b.length<=1073741824):gJ u b=some (ef b):=by
 unfold gJ ef
 by_cases h:6 < b.length
 ·have:(b.length:Int) > 6:=by omega
  simp [h,this]
 ·have:¬ ((b.length:Int) > 6):=by omega
  simp only [this,decide_false,cond_false,h,if_false];rw [IJ u b 1 u (by omega) (by omega),Oh u b b 0 1 0 hb (by omega) (by decide) (by omega)];unfold qS;rw [tU hu hb hl];rfl
def rD(size len:Int)(i:Nat)(s:b4):Bool:=(bW s.fS).2 && ((bW s.fS).1.length == (cm size len i).2) && (ct (bW s.fS).1 == s.fW)
def kN(size len:Int):List b4->Nat->Bool
 | [],_=>true
 | s :: l,i=>rD size len i s && kN size len l (i+1)
def cS(m:ah):Bool :=
 if m.aO=0 then m.aC == 0 && m.aY == 0 && m.aJ.length == 0
 else ar m.aO 1 1000000 && fk m.aC m.aY && ((m.aJ.length:Int) == ch m.aC m.aY) && kN m.aC m.aY m.aJ 0
theorem Ep(a b:Int):(a != b)=!(a == b):=rfl
theorem Oi{u:Nat}(hu:1099511627776<=u)(m:ah):∀ (l:List b4) (i:Nat),bU (AZ u m) (vQ u m) l i ()=some (kN m.aC m.aY l i):=by
 intro l
 induction l with
 | nil=>intro i; rfl
 | cons s l ih =>
  intro i;have hb:=rC s.fS;simp only [bU,vQ,Bg hu,Lx,wk,kN,rD,ku,ih,xM hu hb.1 (show _<=_ by omega),Ep]
  cases (bW s.fS).2 <;> cases (((bW s.fS).1.length:Int) == (cm m.aC m.aY ↑i).2) <;> cases (ct (bW s.fS).1 == s.fW) <;> simp
theorem Oj{u:Nat}(hu:1099511627776<=u)(m:ah):∀ (l:List b4) (i:Nat),l=m.aJ.drop i->bU (AX u m) (vI u m) l i ()=some (kN m.aC m.aY l i):=by
 intro l
 induction l with
 | nil=>intro i _; rfl
 | cons s l ih =>
  intro i hd;have hb:=rC s.fS;have hx:m.aJ[i]?=some s:=by
   have:=congrArg zYG hd
   simpa [zXV] using this.symm
  have hl:l=m.aJ.drop (i+1):=by
   have:=congrArg zYk hd
   simpa [zXq] using this
  simp only [bU,vI,vX hu,jt,wk,kN,rD,kj,ih (i+1) hl,mu hu hb.1 (show _<=_ by omega),Ep,b9,hx]
  cases h:(bW s.fS).2 with
  | false=>simp
  | true =>
   have h2:=ze (s:=s.fS) (b:=(bW s.fS).1) (by rw [<- h]);rw [h2];have h3:(([ct (bW s.fS).1,s.fS]:List Int) == [s.fW,s.fS])=(ct (bW s.fS).1 == s.fW):=by simp
   simp only [h3]
   cases (((bW s.fS).1.length:Int) == (cm m.aC m.aY ↑i).2) <;> cases (ct (bW s.fS).1 == s.fW) <;> simp
theorem zf{u:Nat}(hu:1099511627776<=u)(m:ah)(hl:m.aJ.length<=1073741824):sC u m=some (cS m):=by
 unfold sC cS lf rq;simp only [d9,Cc,xL,wk,Ep,IS u m () u (by omega) (by omega),Oi hu];have e0:(((m.aJ.length:Int)) == 0)=(m.aJ.length == 0):=by rw [zYq]; simp
 by_cases h:m.aO=0
 ·have:ar m.aO 1 1000000=false:=by rw [h]; rfl
  simp only [h,if_true,beq_self_eq_true,cond_true,e0] at this ⊢
  cases (m.aC == 0) <;> cases (m.aY == 0) <;> cases (m.aJ.length == 0) <;> simp [this]
 ·have:(m.aO == 0)=false:=by simpa using h
  simp only [h,if_false,this,cond_false,wk]
  cases ar m.aO 1 1000000 <;> cases fk m.aC m.aY <;> cases ((m.aJ.length:Int) == ch m.aC m.aY) <;> simp
theorem gr{u:Nat}(hu:1099511627776<=u)(m:ah)(hl:m.aJ.length<=1073741824):g8 u m=some (cS m):=by
 unfold g8 cS qT;simp only [bL,pN,gq,wk,Ep,IK u m () u (by omega) (by omega),Oj hu m m.aJ 0 (by simp)];have e0:(((m.aJ.length:Int)) == 0)=(m.aJ.length == 0):=by rw [zYq]; simp
 by_cases h:m.aO=0
 ·simp only [h,if_true,beq_self_eq_true,cond_true,e0]
  cases (m.aC == 0) <;> cases (m.aY == 0) <;> cases (m.aJ.length == 0) <;> simp
 ·have:(m.aO == 0)=false:=by simpa using h
  simp only [h,if_false,this,cond_false,wk]
  cases ar m.aO 1 1000000 <;> cases fk m.aC m.aY <;> cases ((m.aJ.length:Int) == ch m.aC m.aY) <;> simp
def cO:Nat->Int->List Int
 | 0,n=>[n % 256]
 | k+1,n=>if n<=127 then [n % 256] else (n % 128+128) :: cO k (n / 128)
def aU(b:List Int)(n:Int):List Int:=if ar n 0 1000000000000 then b++cO 9 n else b
theorem VF:∀ a:Nat,a < 256->(a ||| 128)=a % 128+128:=by decide +kernel
theorem V1(a:Int)(h1:0<=a)(h2:a < 256):qP .u8 a 128=a % 128+128:=by
 unfold qP;have e:(BitVec.ofInt (IntKind.bits .u8) a ||| BitVec.ofInt (IntKind.bits .u8) 128).toNat=(a % 128+128).toNat:=by
  change (BitVec.ofInt 8 a ||| BitVec.ofInt 8 128).toNat=_
  rw [BitVec.toNat_or,BitVec.toNat_ofInt,BitVec.toNat_ofInt,show ((128:Int) % ((2 ^ 8:Nat):Int)).toNat=128 by decide,VF _ (by omega)];omega
 rw [e,sg]; omega
theorem Ok(a:Int):eH .i64 a 127=a % 128:=by
 unfold eH;have e:(BitVec.ofInt (IntKind.bits .i64) a &&& BitVec.ofInt (IntKind.bits .i64) 127).toNat=(a % 128).toNat:=by
  change (BitVec.ofInt 64 a &&& BitVec.ofInt 64 127).toNat=(a % 128).toNat
  rw [BitVec.toNat_and,BitVec.toNat_ofInt,BitVec.toNat_ofInt,show ((127:Int) % ((2 ^ 64:Nat):Int)).toNat=2 ^ 7 - 1 by decide,zZY];omega
 rw [e];exact (fi (by omega) (by omega)).trans (by omega)
theorem Si(a:Int)(h1:0<=a)(h2:a < 256):qP .i64 a 128=a % 128+128:=by
 unfold qP;have e:(BitVec.ofInt (IntKind.bits .i64) a ||| BitVec.ofInt (IntKind.bits .i64) 128).toNat=(a % 128+128).toNat:=by
  change (BitVec.ofInt 64 a ||| BitVec.ofInt 64 128).toNat=_
  rw [BitVec.toNat_or,BitVec.toNat_ofInt,BitVec.toNat_ofInt,show ((128:Int) % ((2 ^ 64:Nat):Int)).toNat=128 by decide,show (a % ((2 ^ 64:Nat):Int)).toNat=a.toNat by omega,VF _ (by omega)];omega
 rw [e];exact (fi (by omega) (by omega)).trans (by omega)
theorem AK:∀ (k:Nat) (n:Int),(cO k n).length<=k+1:=by
 intro k
 induction k with
 | zero=>intro n; simp [cO]
 | succ k ih =>
  intro n;unfold cO;have:=ih (n / 128)
  split <;> simp <;> omega
theorem Nw:∀ (k:Nat) (n:Int),aq (cO k n):=by
 intro k
 induction k with
 | zero=>intro n x hx; simp [cO] at hx; omega
 | succ k ih =>
  intro n x hx;unfold cO at hx
  split at hx
  ·simp at hx; omega
  ·rcases List.mem_cons.1 hx with h | h
   ·omega
   ·exact ih _ x h
theorem yL{a b:List Int}(h:aq a)(k:aq b):aq (a++b):=by
 intro x hx;rcases List.mem_append.1 hx with g | g
 ·exact h x g
 ·exact k x g
theorem Ce(u:Nat):∀ (j k:Nat) (n:Int) (b:List Int),n < 128 ^ (j+1)->j < k->b.length+j<=1099511627776->ia u k b n=some (b++cO j n):=by
 intro j
 induction j with
 | zero =>
  intro k n b h1 h2 h3;obtain ⟨k,rfl⟩:∃ i,k=i+1:=⟨k - 1,by omega⟩;unfold ia;have:¬ (n>=128):=by simp at h1; omega
  simp only [this,decide_false,cond_false,oP,cO,sg];rw [bl (by simp; omega)]; rfl
 | succ j ih =>
  intro k n b h1 h2 h3;obtain ⟨k,rfl⟩:∃ i,k=i+1:=⟨k - 1,by omega⟩;unfold ia
  by_cases h:n>=128
  ·have h':¬ n<=127:=by omega
   simp only [h,decide_true,cond_true,cO,h',if_false,sg,TV];rw [bl (by simp; omega),V1 _ (by omega) (by omega)];simp only [wk];rw [ih k (n / 128) _ (by rw [zWh] at h1; omega) (by omega) (by simp; omega),show n % 256 % 128=n % 128 by omega];simp
  ·have h':n<=127:=by omega
   simp only [h,decide_false,cond_false,cO,h',if_true,oP,sg];rw [bl (by simp; omega)]; rfl
theorem Da(u:Nat):∀ (j k:Nat) (n:Int) (b:List Int),n < 128 ^ (j+1)->j < k->b.length+j<=1099511627776->iL u k b n=some (b++cO j n):=by
 intro j
 induction j with
 | zero =>
  intro k n b h1 h2 h3;obtain ⟨k,rfl⟩:∃ i,k=i+1:=⟨k - 1,by omega⟩;unfold iL;have:¬ (n > 127):=by simp at h1; omega
  simp only [this,decide_false,cond_false,qa,cO,sg];rw [bl (by simp; omega)]; rfl
 | succ j ih =>
  intro k n b h1 h2 h3;obtain ⟨k,rfl⟩:∃ i,k=i+1:=⟨k - 1,by omega⟩;unfold iL
  by_cases h:n > 127
  ·have h':¬ n<=127:=by omega
   simp only [h,decide_true,cond_true,cO,h',if_false,sg,TV,Ok];rw [bl (by simp; omega),Si _ (by omega) (by omega)];simp only [wk];rw [ih k (n / 128) _ (by rw [zWh] at h1; omega) (by omega) (by simp; omega),show (n % 128 % 128+128) % 256=n % 128+128 by omega];simp
  ·have h':n<=127:=by omega
   simp only [h,decide_false,cond_false,cO,h',if_true,qa,sg];rw [bl (by simp; omega)]; rfl
theorem FZ(u:Nat):∀ (j k:Nat) (n:Int) (b:List Int),n < 128 ^ (j+1)->j < k->b.length+j<=1099511627776->k6 u k n b=some (b++cO j n):=by
 intro j
 induction j with
 | zero =>
  intro k n b h1 h2 h3;obtain ⟨k,rfl⟩:∃ i,k=i+1:=⟨k - 1,by omega⟩;unfold k6;have:¬ (n > 127):=by simp at h1; omega
  simp only [this,decide_false,cond_false,s6,cO,sg];rw [bl (by simp; omega)]; rfl
 | succ j ih =>
  intro k n b h1 h2 h3;obtain ⟨k,rfl⟩:∃ i,k=i+1:=⟨k - 1,by omega⟩;unfold k6
  by_cases h:n > 127
  ·have h':¬ n<=127:=by omega
   simp only [h,decide_true,cond_true,cO,h',if_false,sg,TV,Ok];rw [bl (by simp; omega),Si _ (by omega) (by omega)];simp only [wk];rw [ih k (n / 128) _ (by rw [zWh] at h1; omega) (by omega) (by simp; omega),show (n % 128 % 128+128) % 256=n % 128+128 by omega];simp
  ·have h':n<=127:=by omega
   simp only [h,decide_false,cond_false,cO,h',if_true,s6,sg];rw [bl (by simp; omega)]; rfl
theorem V2:(128:Int) ^ (9+1)=1180591620717411303424:=by decide
theorem yM{u:Nat}(hu:1099511627776<=u){b:List Int}{n:Int}(hl:b.length<=1073741824)(hn:n<=9223372036854775807):mY u b n=some (b++cO 9 n) :=
 Ce u 9 u n b (by rw [V2]; omega) (by omega) (by omega)
theorem HK{u:Nat}(hu:1099511627776<=u){b:List Int}{n:Int}(hl:b.length<=1073741824)(hn:n<=9223372036854775807):qX u b n=some (b++cO 9 n) :=
 Da u 9 u n b (by rw [V2]; omega) (by omega) (by omega)
theorem gu(u:Nat){b:List Int}(hl:b.length<=1073741824):eg u b=some b:=by
 unfold eg;rw [bl (by simp; omega),bl (by simp; omega)];simp [c9]
theorem dD{u:Nat}(hu:1099511627776<=u){b:List Int}{n:Int}(hl:b.length<=1073741824):dU u b n=some (aU b n):=by
 unfold dU aU;simp only [gu u hl,d9,wk]
 cases h:ar n 0 1000000000000 with
 | false=>simp
 | true=>have:=cd h; simp [yM hu hl (show n<=9223372036854775807 by omega)]
theorem dE{u:Nat}(hu:1099511627776<=u){b:List Int}{n:Int}(hl:b.length<=1073741824):dT u b n=some (aU b n):=by
 unfold dT aU;rw [bl (by simp; omega)];simp only [bL,wk,zQy]
 cases h:ar n 0 1000000000000 with
 | false=>simp
 | true=>have:=cd h; simp [FZ u 9 u n b (by rw [V2]; omega) (by omega) (by omega)]
theorem bA(b:List Int)(n:Int):(aU b n).length<=b.length+10:=by
 unfold aU;have:=AK 9 n
 split <;> simp <;> omega
def lS(b:List Int):List b4->List Int
 | []=>b
 | s :: l=>lS (b++cO 9 s.fS) l
def pO(b:List Int)(m:ah):List Int:=if cS m then lS (aU (aU (aU b m.aO) m.aC) m.aY) m.aJ else b
def oY(m:ah):Prop:=∀ s∈m.aJ,s.fS<=9223372036854775807
theorem uK{m:ah}(h:cS m=true):m.aJ.length<=40:=by
 unfold cS at h
 split at h
 ·simp only [sk,beq_iff_eq] at h;have:=h.2;omega
 ·have:=eS m.aC m.aY;simp only [sk,beq_iff_eq] at h;omega
theorem MH{u:Nat}(hu:1099511627776<=u)(m:ah):∀ (l:List b4) (i:Nat) (b:List Int),(∀ s∈l,s.fS<=9223372036854775807)->b.length+10*l.length<=1073741824 ->
  bU (zL u m) (ux u m) l i b=some (lS b l):=by
 intro l
 induction l with
 | nil=>intros; rfl
 | cons s l ih =>
  intro i b h1 h2;simp only [zQV] at h2;have h3:=AK 9 s.fS;simp only [bU,ux,yM hu (show b.length<=1073741824 by omega) (h1 s (by simp)),wk,lS];exact ih (i+1) _ (λz hz=>h1 z (by simp [hz])) (by simp; omega)
theorem MI{u:Nat}(hu:1099511627776<=u)(m:ah):∀ (l:List b4) (i:Nat) (b:List Int),(∀ s∈l,s.fS<=9223372036854775807)->b.length+10*l.length<=1073741824 ->
  bU (zw u m) (uj u m) l i b=some (lS b l):=by
 intro l
 induction l with
 | nil=>intros; rfl
 | cons s l ih =>
  intro i b h1 h2;simp only [zQV] at h2;have h3:=AK 9 s.fS;simp only [bU,uj,HK hu (show b.length<=1073741824 by omega) (h1 s (by simp)),wk,lS];exact ih (i+1) _ (λz hz=>h1 z (by simp [hz])) (by simp; omega)
theorem LB{u:Nat}(hu:1099511627776<=u){b:List Int}{m:ah}(hl:b.length<=536870912)(hm:m.aJ.length<=1073741824)(hw:oY m):vp u b m=some (pO b m):=by
 unfold vp pO;have h1:=bA b m.aO;have h2:=bA (aU b m.aO) m.aC;have h3:=bA (aU (aU b m.aO) m.aC) m.aY;rw [zf hu m hm]
 cases h:cS m with
 | false=>simp [gu u (show b.length<=1073741824 by omega)]
 | true =>
  have h4:=uK h;simp only [wk,zQW,cond_false,if_true];rw [dD hu (by omega)]; simp only [wk];rw [dD hu (by omega)]; simp only [wk];rw [dD hu (by omega)]; simp only [wk];rw [G1 u m _ u (by omega) (by omega),MH hu m _ _ _ hw (by omega)]
theorem LC{u:Nat}(hu:1099511627776<=u){b:List Int}{m:ah}(hl:b.length<=536870912)(hm:m.aJ.length<=1073741824)(hw:oY m):u7 u b m=some (pO b m):=by
 unfold u7 pO;have h1:=bA b m.aO;have h2:=bA (aU b m.aO) m.aC;have h3:=bA (aU (aU b m.aO) m.aC) m.aY;rw [bl (by simp; omega),gr hu m hm];simp only [zQy,wk]
 cases h:cS m with
 | false=>simp
 | true =>
  have h4:=uK h;simp only [wk,zQW,cond_false,if_true];rw [dE hu (by omega)]; simp only [wk];rw [dE hu (by omega)]; simp only [wk];rw [dE hu (by omega)]; simp only [wk];rw [GO u m _ u (by omega) (by omega),MI hu m _ _ _ hw (by omega)]
theorem uX{a:Int}(h1:0<=a)(h2:a < 18446744073709551616):(BitVec.ofInt 64 a).toNat=a.toNat:=by
 rw [BitVec.toNat_ofInt]; omega
theorem F1{a b:Nat}(h1:a < 9223372036854775808)(h2:b < 9223372036854775808):qP .i64 (a:Int) (b:Int)=((a ||| b:Nat):Int):=by
 unfold qP;have e:(BitVec.ofInt (IntKind.bits .i64) (a:Int) ||| BitVec.ofInt (IntKind.bits .i64) (b:Int)).toNat=a ||| b:=by
  change (BitVec.ofInt 64 (a:Int) ||| BitVec.ofInt 64 (b:Int)).toNat=_
  rw [BitVec.toNat_or,uX (by omega) (by omega),uX (by omega) (by omega)]; rfl
 rw [e];have:a ||| b < 2 ^ 63:=Nat.or_lt_two_pow (by omega) (by omega)
 exact fi (by omega) (by omega)
theorem PY{a b:Nat}(h1:a < 9223372036854775808)(h2:b < 9223372036854775808):eH .i64 (a:Int) (b:Int)=((a &&& b:Nat):Int):=by
 unfold eH;have e:(BitVec.ofInt (IntKind.bits .i64) (a:Int) &&& BitVec.ofInt (IntKind.bits .i64) (b:Int)).toNat=a &&& b:=by
  change (BitVec.ofInt 64 (a:Int) &&& BitVec.ofInt 64 (b:Int)).toNat=_
  rw [BitVec.toNat_and,uX (by omega) (by omega),uX (by omega) (by omega)]; rfl
 rw [e];have:a &&& b<=a:=Nat.and_le_left;exact fi (by omega) (by omega)
theorem Nx{i:Nat}(h:i<=62):gl .i64 1 (i:Int)=((2 ^ i:Nat):Int):=by
 unfold gl;rw [show min (sY (i:Int)) (IntKind.bits .i64)=i by simp [IntKind.bits]; omega];have h1:(2:Nat) ^ i<=2 ^ 62:=zYX (by omega) h;have h2:(1:Int)*2 ^ i=((2 ^ i:Nat):Int):=by simp
 rw [h2];generalize (2:Nat) ^ i=p at h1;exact fi (by omega) (by omega)
theorem PZ{a i:Nat}(h:i<=64):lB .i64 (a:Int) (i:Int)=((a / 2 ^ i:Nat):Int):=by
 rw [N0 .i64 _ i h]; simp
def cG(s:Int):Bool:=ar s 0 1099511627775
def iT(i:Int):Bool:=ar i 0 39
def ff(s i:Int):Bool:=cG s && iT i && s.toNat.testBit i.toNat
theorem MJ(u:Nat)(s:Int):uv u s=some (cG s):=by simp [uv,d9,cG]
theorem gZ(u:Nat)(s:Int):d7 u s=some (cG s):=by simp [d7,bL,cG]
theorem V3{s i:Int}(hs:cG s=true)(hi:iT i=true):(eH .i64 (lB .i64 s i) 1 == 1)=s.toNat.testBit i.toNat:=by
 have h1:=cd hs;have h2:=cd hi;obtain ⟨a,rfl⟩:=zQK h1.1;obtain ⟨n,rfl⟩:=zQK h2.1;rw [PZ (by omega)];have h3:a / 2 ^ n<=a:=Nat.div_le_self a _;rw [show (1:Int)=((1:Nat):Int) by rfl,PY (by omega) (by omega),Nat.and_one_is_mod];simp only [zQQ,Nat.testBit_eq_decide_div_mod_eq];generalize a / 2 ^ n=z;rw [zYq,beq_iff_eq,decide_eq_true_eq]; omega
theorem kB(u:Nat)(s i:Int):em u s i=some (ff s i):=by
 unfold em ff;simp only [gZ,bL,wk]
 cases h1:cG s with
 | false=>simp
 | true =>
  change ((bif true then (bif iT i then _ else _) else _):Option Bool)=_
  cases h2:iT i with
  | false=>simp
  | true =>
   have h3:=cd h2;simp only [cond_true];rw [bl (by omega)];simp [V3 h1 h2]
def lT(s:Int):List Int:=if cG s then ((zWz 40).filter λi=>s.toNat.testBit i).map Int.ofNat else []
theorem P0{α ρ:Type}{fin:List α->Option ρ}{body:Nat->List α->(List α->Option ρ)->Option ρ}(f:Nat->Bool)(g:Nat->α)(n c:Nat)(hb:∀ i s k,i < n->s.length<=c+i->body i s k=k (if f i then s++[g i] else s)) :
  ∀ (m i:Nat) (s:List α),i+m=n->s.length<=c+i->n5 fin body m i s=fin (s++(((zXX i m).filter f).map g)):=by
 intro m
 induction m with
 | zero=>intro i s h1 h2; simp [n5]
 | succ m ih =>
  intro i s h1 h2;simp only [n5];rw [hb i s _ (by omega) h2]
  cases hf:f i with
  | true =>
   simp only [if_true];rw [ih (i+1) _ (by omega) (by simp; omega),List.range'_succ,List.filter_cons,hf];simp
  | false =>
   simp only [zQk,if_false];rw [ih (i+1) _ (by omega) (by omega),List.range'_succ,List.filter_cons,hf];simp
theorem Jw{u:Nat}(hu:1099511627776<=u)(s:Int):ti u s=some (lT s):=by
 unfold ti;rw [Fd u s [] u (by omega) (by omega),P0 (λi=>ff s i) (λi=>(i:Int)) 40 0 _ (sY 40) 0 [] (by decide) (by simp)]
 ·unfold yn rQ lT;rw [show sY 40=40 by rfl,<- zXy]
  cases h:cG s with
  | false=>simp [ff,h]
  | true =>
   simp only [zQy,if_true]
   congr 2
   apply List.filter_congr
   intro i hi;have hi:i < 40:=by simpa using hi
   have:iT (i:Int)=true:=by simp [iT,ar]; omega
   simp [ff,h,this]
 ·intro i t k hi ht;unfold yo;rw [kB];simp only [wk]
  cases ff s i with
  | false=>simp [jV]
  | true =>
   simp only [cond_true,if_true];rw [bl (by simp; omega)];simp [jV]
theorem T7{s c:Int}(h1:0<=s)(h2:s < 36028797018963968)(h3:0<=c)(h4:c<=255):qP .i64 (gl .i64 s 8) c=256*s+c:=by
 obtain ⟨a,rfl⟩:=zQK h1;obtain ⟨b,rfl⟩:=zQK h3;have e:gl .i64 (a:Int) 8=((a*256:Nat):Int):=by
  unfold gl;rw [show min (sY (8:Int)) (IntKind.bits .i64)=8 by rfl];rw [fi (by omega) (by omega)]; omega
 rw [e,F1 (by omega) (by omega)];have h5:=Nat.shiftLeft_add_eq_or_of_lt (b:=b) (i:=8) (by omega) a;rw [Nat.shiftLeft_eq,show (2:Nat) ^ 8=256 from rfl] at h5;rw [<- h5]; omega
theorem Ol(u:Nat):∀ (p b:List Int) (i:Nat) (s:Int) (n:Nat),aq b->0<=s->s < 256 ^ n*2->n+b.length<=6 ->
  bU (AY u p) (vP u p) b i s=rp u p (iS b s):=by
 intro p b
 induction b with
 | nil=>intros; rfl
 | cons c b ih =>
  intro i s n hb h1 h2 h3;have hc:=hb c (by simp);simp only [zQV] at h3;have hp:(256:Int) ^ n<=1099511627776:=by
   rcases (show n=0\/n=1\/n=2\/n=3\/n=4\/n=5 by omega) with rfl | rfl | rfl | rfl | rfl | rfl <;> decide
  simp only [bU,vP];rw [fi (by omega) (by omega),T7 (by omega) (by omega) (by omega) (by omega)];exact ih (i+1) _ (n+1) (λz hz=>hb z (by simp [hz])) (by omega) (by rw [zWh]; omega) (by omega)
theorem MK{u:Nat}(hu:1099511627776<=u){b:List Int}(hb:aq b)(hl:b.length<=1073741824):xp u b=some (ef b):=by
 unfold xp ef
 by_cases h:6 < b.length
 ·have:(b.length:Int) > 6:=by omega
  simp [h,this]
 ·have:¬ ((b.length:Int) > 6):=by omega
  simp only [this,decide_false,cond_false,h,if_false];rw [IR u b 1 u (by omega) (by omega),Ol u b b 0 1 0 hb (by omega) (by decide) (by omega)];unfold rp;rw [xM hu hb hl];rfl
def M.win(b:List Int)(i n:Nat):List Int:=(b.take (i+n)).drop i
theorem LD(b:List Int)(i n:Nat):M.win b i n=(b.drop i).take n:=by
 unfold M.win; rw [List.drop_take]; congr 1; omega
theorem pP{b:List Int}(h:aq b)(i n:Nat):aq (M.win b i n):=λx hx=>h x (zWQ (zWw hx))
theorem Er{b:List Int}{i n:Nat}(h:i+n<=b.length):(M.win b i n).length=n:=by
 unfold M.win; rw [zYy,zQh]; omega
theorem Om(b:List Int)(i n:Nat):(M.win b i n).length<=n:=by
 unfold M.win; rw [zYy,zQh]; omega
theorem gN{a b n:Nat}(h1:a<=b)(h2:b<=n):c9 (cE (a:Int) (b:Int) (n:Int))=some ():=by
 have:cE (a:Int) (b:Int) (n:Int)=true:=by simp [cE]; omega
 rw [this]; rfl
theorem pQ{a b:Nat}(h:a+b<=9223372036854775807):aW .i64 (a:Int) (b:Int)=((a+b:Nat):Int):=by
 rw [cq (by omega) (by omega)]; omega
theorem ML(u:Nat){b:List Int}{i n:Nat}(h:i+n<=b.length)(hl:b.length<=1073741824):pB u b i n=some (M.win b i n,true):=by
 unfold pB oC;have h1:ar (i:Int) 0 (b.length:Int)=true:=by simp [ar]; omega
 have h2:ar (n:Int) 0 ((b.length:Int) - (i:Int))=true:=by simp [ar]; omega
 simp only [d9,h1,wk,cJ (a:=(b.length:Int)) (b:=(i:Int)) (by omega) (by omega),h2,zQW,cond_false];rw [pQ (by omega),gN (by omega) h];simp only [wk,zQQ];rw [gu u (by simp; omega)];rfl
def ei(b:List Int)(size i:Int):List Int×Bool :=
 let s:=cm size b.length i
 if s.2=0 then ([],false) else (M.win b s.1.toNat s.2.toNat,true)
theorem tW{size n i:Int}(hn:0<=n):0<=(cm size n i).1/\0<=(cm size n i).2/\(cm size n i).2<=6/\(cm size n i).1+(cm size n i).2<=n:=by
 unfold cm
 split
 ·rename_i h;have ⟨h1,h2,h3⟩:=Ae h;have h4:=vw h1;have h5:=(cd h).2;unfold ch at h5;rw [if_pos h1] at h5;have h6:=CJ h4.1 h4.2.1 h2 h3;have h7:i*size<=n:=by
   have h8:i+1<=(n+size - 1) / size:=by omega
   have h9:(i+1)*size<=n+size - 1:=(Int.le_ediv_iff_mul_le (by omega)).1 h8;rw [zZx] at h9;omega
  dsimp only;omega
 ·dsimp only; omega
theorem uY{b:List Int}(hb:aq b)(size i:Int):aq (ei b size i).1/\(ei b size i).1.length<=6:=by
 have h:=tW (size:=size) (n:=b.length) (i:=i) (by omega);unfold ei;dsimp only
 split
 ·exact ⟨by simp [aq],by simp⟩
 ·refine ⟨pP hb _ _,?_⟩;have:=Om b (cm size b.length i).1.toNat (cm size b.length i).2.toNat;dsimp only;omega
theorem Bh(u:Nat){b:List Int}(hl:b.length<=1073741824)(size i:Int):kc u b size i=some (ei b size i):=by
 have h:=tW (size:=size) (n:=b.length) (i:=i) (by omega);unfold kc ei;simp only [jt,wk];generalize cm size b.length i=s at h;obtain ⟨a,n⟩:=s;dsimp only at h ⊢
 by_cases h0:n=0
 ·simp [h0]
 ·have:(n == 0)=false:=by simpa using h0
  obtain ⟨x,rfl⟩:=zQK h.1;obtain ⟨y,rfl⟩:=zQK h.2.1;simp only [this,cond_false,h0,if_false];rw [pQ (by omega),gN (by omega) (by omega)];simp only [wk,zQQ];rw [bl (by simp; omega)];rfl
def xN(b:List Int)(size:Int):List b4:=(zWz (ch size b.length).toNat).map λ(i:Nat)=>ef (ei b size i).1
theorem P1{α ρ:Type}{fin:List α->Option ρ}{body:Nat->List α->(List α->Option ρ)->Option ρ}(g:Nat->α)(n:Nat)(hb:∀ i s k,i < n->s.length=i->body i s k=k (s++[g i])) :
  n5 fin body n 0 []=fin ((zWz n).map g):=by
 have:∀ (m i:Nat) (s:List α),i+m=n->s.length=i->n5 fin body m i s=fin (s++(zXX i m).map g):=by
  intro m
  induction m with
  | zero=>intro i s h1 h2; simp [n5]
  | succ m ih =>
   intro i s h1 h2;simp only [n5];rw [hb i s _ (by omega) h2,ih (i+1) _ (by omega) (by simp [h2]),List.range'_succ];simp
 rw [this n 0 [] (by omega) rfl,<- zXy];simp
theorem Cf{u:Nat}(hu:1099511627776<=u){b:List Int}(hb:aq b)(hl:b.length<=1073741824)(size:Int):ng u b size=some (xN b size):=by
 unfold ng;have hr:=eS size b.length;rw [pJ (n:=ch size b.length) (fin:=sU u) (body:=λi (s:List b4) k=>(kc u b size (i:Int)).bind λr8=>(gJ u r8.1).bind λr9=>(c9 (decide ((s.length+([r9]).length)*16<=140737488355328))).bind λ_=>k (s++[r9]))
  (λk (s:List b4) i=>jj u k b size s i) (by omega) (λk s i=>by rw [jj,gq]; rfl) [] (by omega),P1 (λi=>ef (ei b size i).1)]
 ·rfl
 ·intro i s k hi hs;have h:=uY hb size (i:Int);rw [Bh u hl];simp only [wk];rw [mu hu h.1 (by omega)];simp only [wk];rw [bl (by simp; omega)];rfl
def qw(gen:Int)(b:List Int)(size:Int):ah:=if ar gen 1 1000000 && fk size b.length then ⟨gen,size,b.length,xN b size⟩ else ⟨0,0,0,[]⟩
theorem zg{u:Nat}(hu:1099511627776<=u){b:List Int}(hb:aq b)(hl:b.length<=1073741824)(gen size:Int):ue u gen b size=some (qw gen b size):=by
 unfold ue uQ qw;simp only [bL,pN,wk,Cf hu hb hl]
 cases ar gen 1 1000000 <;> cases fk size b.length <;> simp
def Es:List Int->Int
 | []=>0
 | c :: b=>c+Es b
def Jx:List Int->Int
 | []=>0
 | c :: b=>((b.length:Int)+1)*c+Jx b
theorem SZ:∀ (b:List Int) (x y:Int),qv b x y=match b with | []=>(x,y) | _=>((x+Es b) % 251,(y+b.length*x+Jx b) % 251):=by
 intro b
 induction b with
 | nil=>intro x y; rfl
 | cons c b ih =>
  intro x y;simp only [qv];rw [ih]
  cases b with
  | nil=>simp [Es,Jx,Int.add_assoc]
  | cons d b =>
   simp only [Es,Jx,zQV];refine Prod.ext ?_ ?_
   ·dsimp only; omega
   ·dsimp only;have e:((b.length:Int)+1)*((x+c) % 251) % 251=((b.length:Int)+1)*(x+c) % 251:=by rw [Int.mul_emod,Int.emod_emod_of_dvd _ (Int.dvd_refl 251),<- Int.mul_emod]
    have e1:((b.length:Int)+1)*(x+c)=((b.length:Int)+1)*x+((b.length:Int)+1)*c:=Int.mul_add _ _ _;have e2:((b.length:Int)+1+1)*x=((b.length:Int)+1)*x+x:=by rw [zZx]; omega
    have e3:((b.length:Int)+1+1)*c=((b.length:Int)+1)*c+c:=by rw [zZx]; omega
    push_cast
    rw [e2,e3];rw [e1] at e;generalize ((b.length:Int)+1)*((x+c) % 251)=p at *;generalize ((b.length:Int)+1)*x=q at *;generalize ((b.length:Int)+1)*c=r at *;generalize ((b.length:Int)+1)*d=t at *;omega
theorem LE{b:List Int}:ct b=Es b % 251+251*(Jx b % 251):=by
 unfold ct;rw [SZ]
 cases b with
 | nil=>simp [Es,Jx]
 | cons c b=>dsimp only; simp
theorem V4(b:List Int)(d:Int):Es (b++[d])=Es b+d:=by
 induction b with
 | nil=>simp [Es]
 | cons c b ih=>simp only [zXk,Es,ih]; omega
theorem V5(b:List Int)(d:Int):Jx (b++[d])=Jx b+Es b+d:=by
 induction b with
 | nil=>simp [Es,Jx]
 | cons c b ih =>
  simp only [zXk,Es,Jx,ih,zQJ,zYV]
  push_cast
  rw [zZx ((b.length:Int)+1) 1 c];omega
theorem Oo(u:Nat)(n m:Int):uh u n m=some (if ar m 1 1000000000000 then n % m else 0):=by
 unfold uh;simp only [bL,wk]
 cases h:ar m 1 1000000000000 with
 | false=>simp
 | true =>
  have h3:=cd h;have hb:(m == 0)=false:=by simp; omega
  have h4:=Ly (n:=n) (m:=m) (by omega);simp only [hb,zQW,cond_false,zVQ,zR,wk];have e1:m4 .i64 n m=n.tmod m:=rfl;rw [e1,cq (by omega) (by omega)];show some ((n.tmod m+m).tmod m)=_;rw [Nv (by omega)]; simp
theorem F2(u:Nat)(w:Int):wR u w=some (ar w 0 63000):=by simp [wR,bL]
theorem Et(u:Nat){w:Int}(h:ar w 0 63000=true):nO u w=some (w % 251,w / 251):=by
 unfold nO;have:=cd h;rw [F2,h];simp (disch:=omega) [xA,KV]
theorem Oq(u:Nat){c d:Int}{m:List Int}(hc:0<=c/\c<=255)(hd:0<=d/\d<=255)(hm:m.length<=5):wS u (ct (c :: m)) ((m.length:Int)+1) c d=some (ct (m++[d])):=by
 unfold wS p5;have h0:=AI (c :: m);have h1:ar (ct (c :: m)) 0 63000=true:=by simp [ar]; omega
 have h2:ar ((m.length:Int)+1) 1 1000000000000=true:=by simp [ar]; omega
 have h3:ar c 0 255=true:=by simp [ar]; omega
 have h4:ar d 0 255=true:=by simp [ar]; omega
 have h5:ar 251 1 1000000000000=true:=by decide
 have h6:((m.length:Int)+1)*c<=6*255:=Int.mul_le_mul (by omega) (by omega) (by omega) (by omega);have h7:0<=((m.length:Int)+1)*c:=Int.mul_nonneg (by omega) (by omega);simp only [F2,bL,h1,h2,h3,h4,wk,zQW,cond_false,Et u h1,Oo,h5,if_true];rw [xA (by omega),Int.emod_eq_of_lt (a:=(m.length:Int)+1) (by omega) (by omega)];have e:=LE (b:=c :: m);have e2:=LE (b:=m++[d]);rw [e2,V4,V5];simp only [Es,Jx] at e;rw [iH (a:=(m.length:Int)+1) (b:=c) (by omega) (by omega)];generalize ct (c :: m)=w at *;generalize ((m.length:Int)+1)*c=q at *;generalize Es m=sx at *;generalize Jx m=sy at *;rw [cJ (a:=w / 251) (by omega) (by omega),cJ (a:=w % 251) (by omega) (by omega),cq (a:=w % 251 - c) (by omega) (by omega)];rw [cq (a:=(w / 251 - q) % 251) (by omega) (by omega)];rw [iH (by omega) (by omega),cq (by omega) (by omega)]
 congr 1
 omega
theorem T8{b:List Int}{i n:Nat}{c:Int}(hc:b[i]?=some c):M.win b i (n+1)=c :: M.win b (i+1) n:=by
 rw [LD,LD];obtain ⟨h,rfl⟩:=List.getElem?_eq_some_iff.1 hc;rw [zXG h,List.take_succ_cons]
theorem T9{b:List Int}{i n:Nat}{d:Int}(hd:b[i+n]?=some d):M.win b i (n+1)=M.win b i n++[d]:=by
 rw [LD,LD,zZy]
 congr 1
 rw [zQw,hd]; rfl
def qx(b:List Int)(n:Nat):List Int:=if n<=b.length then (zWz (b.length+1 - n)).map λi=>ct (M.win b i n) else []
theorem Eu(u:Nat){b:List Int}(hb:aq b)(hl:b.length<=1073741824){n:Nat}(h1:1<=n)(h2:n<=6):∀ (m k j:Nat),n+j+m=b.length->m < k ->
  gA u k b n ((zWz (j+1)).map λi=>ct (M.win b i n)) (ct (M.win b j n)) ((n+j:Nat):Int)=some ((zWz (j+1+m)).map λi=>ct (M.win b i n)):=by
 intro m
 induction m with
 | zero =>
  intro k j h3 h4;obtain ⟨k,rfl⟩:∃ i,k=i+1:=⟨k - 1,by omega⟩;unfold gA;have:¬ (((n+j:Nat):Int) < (b.length:Int)):=by omega
  simp only [this,decide_false,cond_false,rH,zXY]
 | succ m ih =>
  intro k j h3 h4;obtain ⟨k,rfl⟩:∃ i,k=i+1:=⟨k - 1,by omega⟩;unfold gA;have h5:((n+j:Nat):Int) < (b.length:Int):=by omega
  have e:cW .i64 ((n+j:Nat):Int) (n:Int)=(j:Int):=by rw [cJ (by omega) (by omega)]; omega
  simp only [h5,decide_true,cond_true,e,b9];have hc:=sX (l:=b) (i:=j) (by omega);have hd:=sX (l:=b) (i:=n+j) (by omega);rw [hc,hd];simp only [wk];have hcb:=hb _ (zYW (l:=b) (n:=j) (by omega));have hdb:=hb _ (zYW (l:=b) (n:=n+j) (by omega));rw [fi (n:=b[j]) (by omega) (by omega),fi (n:=b[n+j]) (by omega) (by omega)];obtain ⟨n,rfl⟩:∃ i,n=i+1:=⟨n - 1,by omega⟩;have e1:=T8 (n:=n) hc;have e2:M.win b (j+1) (n+1)=M.win b (j+1) n++[b[n+1+j]]:=T9 (by rw [show j+1+n=n+1+j by omega]; exact hd);have hw:(M.win b (j+1) n).length=n:=Er (by omega);have hroll:=Oq u (c:=b[j]) (d:=b[n+1+j]) (m:=M.win b (j+1) n) hcb hdb (by omega);rw [hw,<- e1,<- e2] at hroll;rw [show ((n+1:Nat):Int)=(n:Int)+1 by omega,hroll];simp only [wk];rw [bl (by simp; omega)];simp only [wk];rw [show (List.map (λi=>ct (M.win b i (n+1))) (zWz (j+1))++[ct (M.win b (j+1) (n+1))])=(zWz (j+1+1)).map λi=>ct (M.win b i (n+1)) by rw [List.range_succ (n:=j+1),List.map_append]; rfl];rw [db (by omega)];have:=ih k (j+1) (by omega) (by omega);rw [show ((n+1:Nat):Int)=(n:Int)+1 by omega] at this;rw [show n+1+j+1=n+1+(j+1) by omega,this,show j+1+1+m=j+1+(m+1) by omega]
theorem Jy{u:Nat}(hu:1099511627776<=u){b:List Int}(hb:aq b)(hl:b.length<=1073741824){n:Nat}(h1:1<=n)(h2:n<=6):sV u b n=some (qx b n):=by
 unfold sV rI qx;have h3:¬ ((n:Int) < 1):=by omega
 simp only [h3,decide_false,cond_false]
 by_cases h4:n<=b.length
 ·have h5:¬ ((n:Int) > (b.length:Int)):=by omega
  simp only [h5,decide_false,cond_false,h4,if_true];rw [show (0:Int)=((0:Nat):Int) by rfl,gN (by omega) h4];simp only [wk,zQQ];have e:List.drop 0 (List.take n b)=M.win b 0 n:=by simp [M.win]
  rw [e,tU hu (pP hb _ _) (by have:=Om b 0 n; omega)];simp only [wk];rw [bl (by simp)];have:=Eu u hb hl h1 h2 (b.length - n) u 0 (by omega) (by omega);simp only [zXY,zWV] at this;rw [show (zWz 1).map (λi=>ct (M.win b i n))=[ct (M.win b 0 n)] by rfl] at this;simp only [wk,zQy];rw [this,show 1+(b.length - n)=b.length+1 - n by omega]
 ·have h5:((n:Int) > (b.length:Int)):=by omega
  simp [h5,h4]
def iU(b:List Int)(s:b4)(n:Nat):Nat->Nat->Int
 | 0,_=>-1
 | c+1,i=>if ef (M.win b i n)=s then i else iU b s n c (i+1)
def wW(b:List Int)(s:b4)(n:Int):Int:=if ar n 1 6 then iU b s n.toNat (b.length+1 - n.toNat) 0 else -1
theorem LF(b:List Int)(s:b4)(n:Nat):∀ c i,-1<=iU b s n c i/\iU b s n c i < i+c:=by
 intro c
 induction c with
 | zero=>intro i; simp [iU]; omega
 | succ c ih =>
  intro i;unfold iU;have:=ih (i+1)
  split <;> omega
theorem Kd(x y:b4):(([x.fW,x.fS]:List Int) == [y.fW,y.fS])=decide (x=y):=by
 obtain ⟨a,b⟩:=x;obtain ⟨c,d⟩:=y;rw [zYq]; simp
theorem Rc{b:List Int}(h:b.length<=6):(ef b).fW=ct b:=by
 unfold ef; rw [if_neg (by omega)]
theorem Ew{u:Nat}(hu:1099511627776<=u){b:List Int}(hb:aq b)(hl:b.length<=1073741823)(s:b4){n:Nat}(h1:1<=n)(h2:n<=6):∀ (c k i:Nat),i+c=b.length+1 - n->c < k ->
  eu u k b n (qx b n) i s=some (iU b s n c i):=by
 have hlen:(qx b n).length=b.length+1 - n:=by
  unfold qx
  split
  ·simp
  ·simp; omega
 intro c
 induction c with
 | zero =>
  intro k i h3 h4;obtain ⟨k,rfl⟩:∃ i,k=i+1:=⟨k - 1,by omega⟩;unfold eu;have:¬ ((i:Int) < ((qx b n).length:Int)):=by omega
  simp only [this,decide_false,cond_false,rJ,iU]
 | succ c ih =>
  intro k i h3 h4;obtain ⟨k,rfl⟩:∃ i,k=i+1:=⟨k - 1,by omega⟩;unfold eu;have h5:((i:Int) < ((qx b n).length:Int)):=by omega
  have hx:(qx b n)[i]?=some (ct (M.win b i n)):=by
   unfold qx;rw [if_pos (by omega),zQZ,zZW (by omega)]; rfl
  simp only [h5,decide_true,cond_true,b9,hx,wk];rw [pQ (by omega),gN (by omega) (by omega)];simp only [wk,zQQ]
  change (bif _ then ((gJ u (M.win b i n)).bind _) else _)=_
  rw [mu hu (pP hb _ _) (by have:=Om b i n; omega)];simp only [wk,Kd,iU,lL,cond_false,db (show i < 9223372036854775807 by omega),ih k (i+1) (by omega) (by omega)]
  by_cases h6:ef (M.win b i n)=s
  ·have h7:ct (M.win b i n)=s.fW:=by rw [<- h6,Rc (by have:=Om b i n; omega)]
   simp [h6,h7]
  ·cases ct (M.win b i n) == s.fW <;> simp [h6]
theorem Jz{u:Nat}(hu:1099511627776<=u){b:List Int}(hb:aq b)(hl:b.length<=1073741823)(s:b4)(n:Int):sW u b s n=some (wW b s n):=by
 unfold sW wW;rw [bL];simp only [wk]
 cases h:ar n 1 6 with
 | false=>simp
 | true =>
  have h:=cd h;obtain ⟨n,rfl⟩:=zQK (show 0<=n by omega);simp only [zQW,cond_false,if_true,zQQ];rw [Jy hu hb (by omega) (by omega) (by omega)];exact Ew hu hb (by omega) s (by omega) (by omega) (b.length+1 - n) u 0 (by omega) (by omega)
def fL(b:List Int)(m:ah)(i:Nat):Int:=match m.aJ[i]? with
 | some s=>wW b s (cm m.aC m.aY i).2
 | none=>-1
theorem JA{u:Nat}(hu:1099511627776<=u){b:List Int}(hb:aq b)(hl:b.length<=1073741823){m:ah}(hm:m.aJ.length<=1073741824)(i:Nat):p6 u b m i=some (fL b m i):=by
 unfold p6 rK fL;rw [jt];simp only [wk,Jz hu hb hl,b9]
 by_cases h:i < m.aJ.length
 ·have h1:¬ ((i:Int)>=(m.aJ.length:Int)):=by omega
  simp only [sX h,wk,h1,decide_false,cond_false,cond_true]
  by_cases h2:(cm m.aC m.aY i).2=0
  ·have:wW b m.aJ[i] 0=-1:=by simp [wW,ar]
   simp [h2,this]
  ·have:((cm m.aC m.aY i).2 == 0)=false:=by simpa using h2
   simp [this]
 ·have h1:((i:Int)>=(m.aJ.length:Int)):=by omega
  simp only [List.getElem?_eq_none (show m.aJ.length<=i by omega),h1,decide_true,cond_true]
  cases ((cm m.aC m.aY i).2 == 0) <;> simp
theorem JB(u:Nat){n:Nat}(h:n<=40):qf u n=some ((2 ^ n - 1:Nat):Int):=by
 unfold qf;have h1:ar (n:Int) 0 40=true:=by simp [ar]; omega
 rw [bL,h1];simp only [wk,zQW,cond_false];have h2:(2:Nat) ^ n<=2 ^ 40:=zYX (by omega) h;have h3:0 < (2:Nat) ^ n:=Nat.pow_pos (by omega);rw [bl (by omega),Nx (by omega)];generalize (2:Nat) ^ n=p at *;rw [cJ (by omega) (by omega)];simp only [wk]
 congr 1
 omega
theorem HL(gen:Int)(b:List Int)(size:Int):(qw gen b size).aJ.length<=40:=by
 unfold qw
 split
 ·have:=eS size b.length;simp [xN]; omega
 ·simp
theorem LG(gen:Int)(b:List Int)(size:Int)(hb:aq b):oY (qw gen b size):=by
 unfold qw oY
 split
 ·intro s hs;simp only [xN,zXg] at hs;obtain ⟨i,_,rfl⟩:=hs;have h:=uY hb size (i:Int);unfold ef;rw [if_neg (by omega)];have:=LA (ei b size i).1 1 0 h.1 (by omega) (by decide);have h6:(256:Int) ^ (0+(ei b size i).1.length)<=281474976710656:=by
   have h7:=h.2;generalize (ei b size i).1.length=n at h7;rcases (show n=0\/n=1\/n=2\/n=3\/n=4\/n=5\/n=6 by omega) with rfl | rfl | rfl | rfl | rfl | rfl | rfl <;> decide
  dsimp only;omega
 ·intro s hs; simp at hs
theorem LH:∀ (l:List b4) (b:List Int),(lS b l).length<=b.length+10*l.length:=by
 intro l
 induction l with
 | nil=>intro b; simp [lS]
 | cons s l ih =>
  intro b;have h1:=ih (b++cO 9 s.fS);have h2:=AK 9 s.fS;simp only [lS,zQV,zQJ] at h1 ⊢;omega
theorem S0(b:Bool):(bif b then some true else some false)=some b:=by cases b <;> rfl
def Ex{α:Type}(f:α->α->Bool):List α->List α->Bool
 | x :: xs,y :: ys=>f x y && Ex f xs ys
 | _,_=>true
def M.same{α:Type}(f:α->α->Bool)(xs ys:List α):Bool:=(xs.length == ys.length) && Ex f xs ys
theorem Re{α:Type}{fin:Unit->Option Bool}{body:α->Nat->Unit->(Unit->Option Bool)->Option Bool}(f:α->α->Bool){xs ys:List α}(h:xs.length=ys.length)(hb:∀ x y i k,xs[i]?=some x->ys[i]?=some y->body x i () k=bif f x y then k () else some false) :
  bU fin body xs 0 ()=bif Ex f xs ys then fin () else some false:=by
 have:∀ (l m:List α) (i:Nat),l=xs.drop i->m=ys.drop i->bU fin body l i ()=bif Ex f l m then fin () else some false:=by
  intro l
  induction l with
  | nil=>intro m i _ _; simp [bU,Ex]
  | cons x l ih =>
   intro m i h1 h2;have hlt:i < xs.length:=by have:=congrArg zYK h1; simp at this; omega
   cases m with
   | nil=>have:=congrArg zYK h2; simp at this; omega
   | cons y m =>
    have hx:xs[i]?=some x:=by have:=congrArg zYG h1; simpa [zXV] using this.symm
    have hy:ys[i]?=some y:=by have:=congrArg zYG h2; simpa [zXV] using this.symm
    have hl:l=xs.drop (i+1):=by have:=congrArg zYk h1; simpa [zXq] using this
    have hm:m=ys.drop (i+1):=by have:=congrArg zYk h2; simpa [zXq] using this
    simp only [bU,Ex];rw [hb x y i _ hx hy,ih m (i+1) hl hm]
    cases f x y <;> simp
 exact this xs ys 0 (by simp) (by simp)
def pR(a b:List Int):Bool:=(strOfNums a).toList == (strOfNums b).toList
theorem F3(u:Nat)(a b:List Int):pg u a b=some (pR a b):=rfl
theorem yN(u:Nat)(a b:List Int):tx u a b=some (pR a b):=rfl
theorem Rf(x y:dp):(([x.aO,x.b7,x.aY]:List Int) == [y.aO,y.b7,y.aY])=decide (x=y):=by
 obtain ⟨a0,a1,a2⟩:=x;obtain ⟨b0,b1,b2⟩:=y;rw [zYq]; simp
theorem xO{u:Nat}(hu:1099511627776<=u){a b:List b4}(ha:a.length<=1048576):lK u a b=some (M.same (λx y=>decide (x=y)) a b):=by
 unfold lK M.same
 by_cases h:a.length=b.length
 ·have h1:((a.length:Int) != (b.length:Int))=false:=by simp [h]
  simp only [h1,cond_false];rw [BD u a b () u (by omega) (by omega),Re (λx y=>decide (x=y)) h (λx y i k hx hy=>by unfold u5; rw [b9,hy]; simp only [wk,Kd]; cases decide (x=y) <;> rfl)];simp only [h,beq_self_eq_true,zWG];exact S0 _
 ·have h1:((a.length:Int) != (b.length:Int))=true:=by simp; omega
  have h2:(a.length == b.length)=false:=by simpa using h
  simp [h1,h2]
def wX(a b:ah):Bool:=(a.aO == b.aO) && (a.aC == b.aC) && (a.aY == b.aY) && M.same (λx y=>decide (x=y)) a.aJ b.aJ
theorem Bi{u:Nat}(hu:1099511627776<=u){a b:ah}(ha:a.aJ.length<=1048576):p9 u a b=some (wX a b):=by
 unfold p9 wX;rw [xO hu ha]
 cases a.aO == b.aO <;> cases a.aC == b.aC <;> cases a.aY == b.aY <;> simp
theorem Ke(a b:Nat):((a:Int) == (b:Int))=(a == b):=by rw [zYq,beq_iff_eq,beq_iff_eq]; omega
def fa{α:Type}(f:α->Bool):List α->Nat->Int
 | [],_=>-1
 | x :: l,i=>if f x then i else fa f l (i+1)
theorem P2{α:Type}{fin:Unit->Option Int}{body:α->Nat->Unit->(Unit->Option Int)->Option Int}(f:α->Bool){xs:List α}(hf:fin ()=some (-1))(hb:∀ x i k,x∈xs->body x i () k=bif f x then some (i:Int) else k ()) :
  bU fin body xs 0 ()=some (fa f xs 0):=by
 have:∀ (l:List α) (i:Nat),(∀ y∈l,y∈xs)->bU fin body l i ()=some (fa f l i):=by
  intro l
  induction l with
  | nil=>intro i _; exact hf
  | cons x l ih =>
   intro i h;simp only [bU,fa];rw [hb x i _ (h x (by simp)),ih (i+1) (λy hy=>h y (by simp [hy]))]
   cases f x <;> simp
 exact this xs 0 (λ_ h=>h)
def nG(r:dp):Bool:=ar r.aO 0 1000000 && ar r.b7 0 1 && ar r.aY 0 240
theorem Af(u:Nat)(r:dp):ot u r=some (nG r):=by
 unfold ot nG;simp only [bL,wk]
 cases ar r.aO 0 1000000 <;> cases ar r.b7 0 1 <;> rfl
def pS(d:aB)(n:Int):List Int:=if n=0 then d.fA else d.fB
theorem F4(u:Nat)(d:aB){n:Int}(h:ar n 0 1=true):sG u d n=some (pS d n):=by
 unfold sG pS;have:=cd h
 by_cases h0:n=0
 ·subst h0; rfl
 ·have:n=1:=by omega
  subst this; rfl
def mB(p:dd):Bool:=if p.lx=2 then (p.Bn == 0) && (p.fB.length == 0) && nG p.fR else ar p.lx 0 1 && decide (p.fR=⟨0,0,0⟩) && ar p.Bn 0 (240 - p.fB.length)
theorem P3(x:dp):(([x.aO,x.b7,x.aY]:List Int) == [0,0,0])=decide (x=⟨0,0,0⟩):=Rf x ⟨0,0,0⟩
theorem Dt(u:Nat){p:dd}(h:p.fB.length<=1048576):su u p=some (mB p):=by
 unfold su mB;simp only [Af,bL,wk,P3];have e:((p.fB.length:Int) == 0)=(p.fB.length == 0):=Ke _ 0
 by_cases h2:p.lx=2
 ·simp only [h2,beq_self_eq_true,cond_true,if_true,e]
  cases p.Bn == 0 <;> cases p.fB.length == 0 <;> rfl
 ·have:(p.lx == 2)=false:=by simpa using h2
  simp only [this,cond_false,h2,if_false]
  cases h3:ar p.Bn 0 240 with
  | false =>
   have h4:ar p.Bn 0 (240 - p.fB.length)=false:=by
    have:=PU h3;simp [ar]; omega
   rw [h4]
   cases ar p.lx 0 1 <;> cases decide (p.fR=⟨0,0,0⟩) <;> rfl
  | true =>
   have h3:=cd h3;rw [cJ (by omega) (by omega)];have h4:ar p.Bn 0 (240 - p.fB.length)=decide ((p.fB.length:Int)<=240 - p.Bn):=by
    rw [zYq]; simp [ar]; omega
   rw [h4]
   cases ar p.lx 0 1 <;> cases decide (p.fR=⟨0,0,0⟩) <;> cases decide ((p.fB.length:Int)<=240 - p.Bn) <;> rfl
def cQ(d:aB):Bool:=decide (d.fA.length<=240) && decide (d.fB.length<=240) && nG d.fR && decide (d.fR.aY<=(pS d d.fR.b7).length) && decide (d.fP.length<=200) && d.fP.all mB
structure M.DOk (d:aB):Prop where
 a:d.fA.length<=1048576
 b:d.fB.length<=1048576
 p:d.fP.length<=1048576
 puts:∀ x∈d.fP,x.fB.length<=1048576
theorem V6(a b:Int):decide (a > b)=!decide (a<=b):=by
 by_cases h:a<=b
 ·have:¬ a > b:=by omega
  simp [h,this]
 ·have:a > b:=by omega
  simp [h,this]
theorem Rg(a b:Nat):decide ((a:Int)<=(b:Int))=decide (a<=b):=by rw [decide_eq_decide]; omega
theorem HM{u:Nat}(hu:1099511627776<=u){d:aB}(hd:M.DOk d):k9 u u 0 d=some (d.fP.all mB):=by
 have:=hd.p;rw [GW u d () u (by omega) (by omega)];have:∀ (l:List dd) (i:Nat),(∀ y∈l,y∈d.fP)->bU (zB u d) (um u d) l i ()=some (l.all mB):=by
  intro l
  induction l with
  | nil=>intro i _; rfl
  | cons x l ih =>
   intro i h;simp only [bU,um,Dt u (hd.puts x (h x (by simp))),wk,List.all_cons];rw [ih (i+1) (λy hy=>h y (by simp [hy]))]
   cases mB x <;> rfl
 exact this _ 0 (λ_ h=>h)
theorem Du{r:dp}(h:nG r=true):ar r.b7 0 1=true/\0<=r.aY/\r.aY<=240:=by
 unfold nG at h;simp only [sk] at h;exact ⟨h.1.2,(cd h.2).1,(cd h.2).2⟩
theorem m7{u:Nat}(hu:1099511627776<=u){d:aB}(hd:M.DOk d):km u d=some (cQ d):=by
 unfold km la cQ;have e1:decide ((d.fA.length:Int)<=240)=decide (d.fA.length<=240):=Rg _ 240;have e2:decide ((d.fB.length:Int)<=240)=decide (d.fB.length<=240):=Rg _ 240;have e3:decide ((d.fP.length:Int)<=200)=decide (d.fP.length<=200):=Rg _ 200;simp only [Af,HM hu hd,wk,V6,e1,e2,e3,cond_true]
 cases h:nG d.fR with
 | false=>cases decide (d.fA.length<=240) <;> cases decide (d.fB.length<=240) <;> rfl
 | true =>
  rw [F4 u d (Du h).1];simp only [wk]
  cases decide (d.fA.length<=240) <;> cases decide (d.fB.length<=240) <;> cases decide (d.fR.aY<=(pS d d.fR.b7).length) <;> cases decide (d.fP.length<=200) <;> rfl
def oG(d:aB):Int×List Int:=if cQ d then (d.fR.aO,(pS d d.fR.b7).take d.fR.aY.toNat) else (0,[])
theorem tX{d:aB}(h:cQ d=true):nG d.fR=true/\d.fR.aY<=(pS d d.fR.b7).length/\d.fA.length<=240/\d.fB.length<=240/\d.fP.length<=200:=by
 unfold cQ at h;simp only [sk,decide_eq_true_eq] at h;obtain ⟨⟨⟨⟨⟨h1,h2⟩,h3⟩,h4⟩,h5⟩,h6⟩:=h;exact ⟨h3,h4,h1,h2,h5⟩
theorem Ny{d:aB}(h:cQ d=true)(n:Int):(pS d n).length<=240:=by
 have:=tX h;unfold pS; split <;> omega
theorem JC{u:Nat}(hu:1099511627776<=u){d:aB}(hd:M.DOk d):tj u d=some (oG d):=by
 unfold tj oG;rw [m7 hu hd];simp only [wk]
 cases h:cQ d with
 | false=>rfl
 | true =>
  have h1:=tX h;have h2:=Du h1.1;have h3:=Ny h d.fR.b7;obtain ⟨n,hn⟩:=zQK h2.2.1;rw [F4 u d h2.1];simp only [zQW,cond_false,if_true,wk];rw [hn] at h1 ⊢;rw [show (0:Int)=((0:Nat):Int) by rfl,gN (by omega) (by omega)];simp only [wk,zQQ,List.drop_zero];rw [bl (by simp; omega)]; rfl
def CK:List bM->Int->Int
 | [],a=>a
 | k :: l,a=>CK l (if cG k.bV then qP .i64 a k.bV else a)
theorem MM(u:Nat)(r:List bM):∀ (l:List bM) (i:Nat) (a:Int),l=r.drop i->bU (zD u r) (un u r) l i a=some (CK l a):=by
 intro l
 induction l with
 | nil=>intro i a _; rfl
 | cons k l ih =>
  intro i a hd;have hx:r[i]?=some k:=by have:=congrArg zYG hd; simpa [zXV] using this.symm
  have hl:l=r.drop (i+1):=by have:=congrArg zYk hd; simpa [zXq] using this
  simp only [bU,un,mQ,gZ,wk,CK,b9,hx,ih (i+1) _ hl]
  cases cG k.bV <;> simp
theorem LI{u:Nat}(hu:1099511627776<=u){l:List bM}(hl:l.length<=1048576):vj u l=some (CK l 0):=by
 unfold vj;rw [GX u l 0 u (by omega) (by omega),MM u l l 0 0 (by simp)]
theorem LJ{u:Nat}(hu:1099511627776<=u){r:List Int}(hr:r.length<=1048576)(k:Int):ve u r k=some (r.any λy=>y == k):=by
 unfold ve;rw [GT u r k () u (by omega) (by omega)];have:∀ (l:List Int) (i:Nat),bU (zy u r k) (ul u r k) l i ()=some (l.any λy=>y == k):=by
  intro l
  induction l with
  | nil=>intro i; rfl
  | cons y l ih =>
   intro i;simp only [bU,ul,List.any_cons];rw [ih (i+1)]
   cases y == k <;> rfl
 exact this r 0
theorem S1{ρ:Type}(J:List Int->Option ρ)(n:Int)(hn:n<=1048576)(L:Nat->List Int->Option ρ)(hL:∀ k x,L (k+1) x=bif decide ((x.length:Int) < n) then ((c9 (decide ((x.length+([0]:List Int).length)*1<=140737488355328))).bind λ_=>L k (x++[0])) else J x) :
  ∀ (m k:Nat) (x:List Int),(x.length+m=n.toNat\/(m=0/\n<=x.length))->m < k->L k x=J (x++zQH m 0):=by
 intro m
 induction m with
 | zero =>
  intro k x h1 h2;obtain ⟨k,rfl⟩:∃ j,k=j+1:=⟨k - 1,by omega⟩;have e:¬ ((x.length:Int) < n):=by omega
  rw [hL]; simp [e]
 | succ m ih =>
  intro k x h1 h2;obtain ⟨k,rfl⟩:∃ j,k=j+1:=⟨k - 1,by omega⟩;have e:(x.length:Int) < n:=by omega
  rw [hL,bl (by simp; omega)];simp only [e,decide_true,cond_true,wk];rw [ih k _ (by simp; omega) (by omega),zQz];rfl
theorem nH{α ρ:Type}{fin:List α->Option ρ}{body:α->Nat->List α->(List α->Option ρ)->Option ρ}(n:Nat)(p:List α)(hb:∀ x i s k,x∈p->s.length+1<=n->body x i s k=k (s++[x])) :
  ∀ (l:List α) (i:Nat) (s:List α),(∀ x∈l,x∈p)->s.length+l.length<=n->bU fin body l i s=fin (s++l):=by
 intro l
 induction l with
 | nil=>intro i s _ _; simp [bU]
 | cons x l ih =>
  intro i s h1 h2;simp only [zQV] at h2;simp only [bU];rw [hb x i s _ (h1 x (by simp)) (by omega),ih (i+1) _ (λy hy=>h1 y (by simp [hy])) (by simp; omega)];simp
theorem gw{u:Nat}(hu:1099511627776<=u){d:aB}(hd:M.DOk d):dS u d=some d:=by
 have h1:=hd.a;have h2:=hd.b;have h3:=hd.p;unfold dS;rw [bl (by simp; omega),bl (by simp; omega)];simp only [wk];rw [GN u d _ u (by omega) (by omega),nH 1048576 d.fP _ d.fP 0 [] (λ_ h=>h) (by simp; omega)]
 ·rfl
 ·intro x i s k hx hs;have h4:=hd.puts x hx;unfold zu gn;rw [bl (by simp; omega)];simp only [wk];rw [bl (by simp; omega)]; rfl
theorem HN{u:Nat}(hu:1099511627776<=u){d:aB}(hd:M.DOk d):oA u d=some d:=by
 have h1:=hd.a;have h2:=hd.b;have h3:=hd.p;unfold oA;rw [gu u (show d.fA.length<=1073741824 by omega),gu u (show d.fB.length<=1073741824 by omega)];simp only [wk];rw [DO u d d.fA d.fB _ u (by omega) (by omega),nH 1048576 d.fP _ d.fP 0 [] (λ_ h=>h) (by simp; omega)]
 ·rfl
 ·intro x i s k hx hs;have h4:=hd.puts x hx;unfold xo tu;rw [gu u (show x.fB.length<=1073741824 by omega)];simp only [wk];rw [bl (by simp; omega)]; rfl
def Ip(b:List Int)(a:Nat)(p:List Int):List Int:=KU (b++zQH (a+p.length - b.length) 0) p a
theorem F5{x p:List Int}{a:Nat}(h:a+p.length<=x.length):KU x p a=x.take a++p++x.drop (a+p.length):=by
 unfold KU;rw [zYw (l:=p) (by omega),zYQ (by omega)]
theorem LK(b:List Int)(a:Nat)(p:List Int):(Ip b a p).length=max b.length (a+p.length):=by
 unfold Ip;rw [F5 (by simp; omega)];simp;omega
theorem WA(u:Nat)(a:Nat)(p:List Int)(ha:a<=1048576):∀ (l:List Int) (i:Nat) (s:List Int),a+i+l.length<=s.length->s.length<=4194304->bU (vM u a p) (vN u a p) l i s=some (s.take (a+i)++l++s.drop (a+i+l.length)):=by
 intro l
 induction l with
 | nil=>intro i s _ _; simp [bU,vM,q9]
 | cons y l ih =>
  intro i s h1 h2;simp only [zQV] at h1;simp only [bU,vN];rw [cq (by omega) (by omega),show (a:Int)+(i:Int)=((a+i:Nat):Int) by omega,b9,sX (by omega),zQQ];simp only [wk];rw [ih (i+1) _ (by simp; omega) (by simp; omega)];have e1:(s.set (a+i) y).take (a+(i+1))=s.take (a+i)++[y]:=by
   rw [show a+(i+1)=(a+i)+1 by omega,zZy,List.take_set_of_le (zWq _)];simp [show a+i < s.length by omega]
  have e2:(s.set (a+i) y).drop (a+(i+1)+l.length)=s.drop (a+i+(y :: l).length):=by
   rw [List.drop_set_of_lt (by omega)]; simp only [zQV]; congr 1; omega
  rw [e1,e2]; simp
theorem Dv{u:Nat}(hu:1099511627776<=u){b p:List Int}{a:Nat}(hb:b.length<=1048576)(hp:a+p.length<=1048576):pj u b a p=some (Ip b a p):=by
 unfold pj;rw [bl (by simp; omega)];simp only [wk,zQy];have e:aW .i64 (a:Int) (p.length:Int)=((a+p.length:Nat):Int):=by rw [cq (by omega) (by omega)]; omega
 rw [S1 (λx=>ra u a p x) ((a+p.length:Nat):Int) (by omega) (λk x=>mp u k a p x) (λk x=>by rw [<- e]; rfl) (a+p.length - b.length) u b (by rw [zQQ]; omega) (by omega)];unfold ra;rw [IM u a p _ u (by omega) (by omega),WA u a p (by omega) p 0 _ (by simp; omega) (by simp; omega)];unfold Ip;rw [F5 (by simp; omega)]; simp
def vz(d:aB)(p:dd):aB:=if p.lx=2 then ⟨d.fA,d.fB,p.fR,d.fP⟩ else if p.lx=0 then ⟨Ip d.fA p.Bn.toNat p.fB,d.fB,d.fR,d.fP⟩ else ⟨d.fA,Ip d.fB p.Bn.toNat p.fB,d.fR,d.fP⟩
theorem Cg{p:dd}(h:mB p=true):p.lx=2\/((p.lx=0\/p.lx=1)/\0<=p.Bn/\p.Bn+p.fB.length<=240):=by
 unfold mB at h
 by_cases h2:p.lx=2
 ·exact .inl h2
 ·rw [if_neg h2] at h;simp only [sk] at h;have h3:=cd h.1.1;have h4:=cd h.2;exact .inr ⟨by omega,by omega,by omega⟩
theorem CL{d:aB}{p:dd}(hd:M.DOk d)(h:mB p=true):M.DOk (vz d p):=by
 have h1:=hd.a;have h2:=hd.b;unfold vz;rcases Cg h with h | ⟨h3,h4,h5⟩
 ·rw [if_pos h]; exact ⟨hd.a,hd.b,hd.p,hd.puts⟩
 ·split
  ·exact ⟨hd.a,hd.b,hd.p,hd.puts⟩
  ·split
   ·exact ⟨by rw [LK]; omega,hd.b,hd.p,hd.puts⟩
   ·exact ⟨hd.a,by rw [LK]; omega,hd.p,hd.puts⟩
theorem Ch{u:Nat}(hu:1099511627776<=u){d:aB}{p:dd}(hd:M.DOk d)(hp:p.fB.length<=1048576)(h:mB p=true):jn u d p=some (vz d p):=by
 have h1:=hd.a;have h2:=hd.b;unfold jn vz;rw [gw hu hd,Dt u hp,h];simp only [wk,zQW,cond_false];rcases Cg h with h | ⟨h3,h4,h5⟩
 ·rw [h]; rfl
 ·obtain ⟨a,ha⟩:=zQK h4;rcases h3 with h3 | h3
  ·rw [h3,ha,Dv hu h1 (by omega)]; rfl
  ·rw [h3,ha,Dv hu h2 (by omega)]; rfl
def tY(s:Int):List dd->Nat->aB->aB
 | [],_,d=>⟨d.fA,d.fB,d.fR,[]⟩
 | p :: l,i,d=>tY s l (i+1) (if ff s i then vz d p else d)
def zh(d:aB)(s:Int):aB:=if cQ d then tY s d.fP 0 d else d
theorem Ua(s:Int):∀ (l:List dd) (i:Nat) (d:aB),(∀ p∈l,mB p=true)->M.DOk d->M.DOk (tY s l i d):=by
 intro l
 induction l with
 | nil=>intro i d _ hd; exact ⟨hd.a,hd.b,by simp [tY],by simp [tY]⟩
 | cons p l ih =>
  intro i d hp hd;refine ih (i+1) _ (λq hq=>hp q (by simp [hq])) ?_
  split
  ·exact CL hd (hp p (by simp))
  ·exact hd
theorem vA{d:aB}(h:cQ d=true):∀ p∈d.fP,mB p=true:=by
 unfold cQ at h;simp only [sk] at h;exact List.all_eq_true.1 h.2
theorem U4{d:aB}(hd:M.DOk d)(s:Int):M.DOk (zh d s):=by
 unfold zh
 split
 ·rename_i h; exact Ua s _ 0 d (vA h) hd
 ·exact hd
def tup(d:aB):List Int×List Int×Int×Int×Int×List dd:=(d.fA,d.fB,d.fR.aO,d.fR.b7,d.fR.aY,d.fP)
theorem P4{u:Nat}(hu:1099511627776<=u)(s:Int){d0:aB}(h0:∀ p∈d0.fP,mB p=true/\p.fB.length<=1048576):∀ (n i:Nat) (d:aB),i+n=d0.fP.length->M.DOk d->n5 (BE u s d0) (xm u s d0) n i (tup d)=some (tY s (d0.fP.drop i) i d):=by
 intro n
 induction n with
 | zero=>intro i d h1 _; rw [zXv (by omega)]; rfl
 | succ n ih =>
  intro i d h1 hd;have hx:=sX (l:=d0.fP) (i:=i) (by omega);have h2:=h0 d0.fP[i] (zYW (by omega));rw [zXG (by omega)];simp only [n5,xm,ql,kB,b9,hx,wk,tY]
  cases hs:ff s i with
  | true =>
   simp only [cond_true,if_true];rw [show (aB.mk (tup d).1 (tup d).2.1 (dp.mk (tup d).2.2.1 (tup d).2.2.2.1 (tup d).2.2.2.2.1) (tup d).2.2.2.2.2)=d by rfl,Ch hu hd h2.2 h2.1];exact ih (i+1) _ (by omega) (CL hd h2.1)
  | false =>
   simp only [cond_false,zQk,if_false];exact ih (i+1) _ (by omega) hd
theorem Ot{u:Nat}(hu:1099511627776<=u){d:aB}(hd:M.DOk d)(s:Int):zH u d s=some (zh d s):=by
 have h3:=hd.p;unfold zH zh;rw [gw hu hd,m7 hu hd];simp only [wk]
 cases h:cQ d with
 | false=>rfl
 | true =>
  simp only [zQW,cond_false,if_true];have e:=P4 hu s (d0:=d) (λp hp=>⟨vA h p hp,hd.puts p hp⟩) d.fP.length 0 d (by omega) hd;have e2:=Kj u s d (tup d) u (by omega) (by omega);rw [zQQ,e] at e2;exact e2
structure Cu (c:aK):Prop where
 i0:0<=c.fI
 n:c.fI<=(c.fB.length:Int)
 len:c.fB.length<=1048576
def Dr{α:Type}(r:Option (α×aK))(p:α->Prop):Prop:=∃ v c,r=some (v,c)/\p v/\Cu c
theorem Kf{α:Type}{r:Option (α×aK)}{p q:α->Prop}(h:Dr r p)(hpq:∀ v,p v->q v):Dr r q:=by
 obtain ⟨v,c,e,h1,h2⟩:=h;exact ⟨v,c,e,hpq v h1,h2⟩
theorem co{α β:Type}{r:Option (α×aK)}{p:α->Prop}{f:α×aK->Option (β×aK)}{q:β->Prop}(h:Dr r p)(hf:∀ v c,p v->Cu c->Dr (f (v,c)) q):Dr (r.bind f) q:=by
 obtain ⟨v,c,e,h1,h2⟩:=h;rw [e];exact hf v c h1 h2
theorem cP{α:Type}{v:α}{c:aK}{p:α->Prop}(h:p v)(hc:Cu c):Dr (Option.some (v,c)) p:=⟨v,c,rfl,h,hc⟩
theorem Ub(a:Int):0<=eH .i64 a 255/\eH .i64 a 255<=255:=by
 unfold eH;have h:(BitVec.ofInt 64 a &&& BitVec.ofInt 64 255).toNat<=255:=by
  rw [BitVec.toNat_and];exact Nat.and_le_right
 have e:IntKind.wrap .i64 (((BitVec.ofInt 64 a &&& BitVec.ofInt 64 255).toNat:Nat):Int)=(((BitVec.ofInt 64 a &&& BitVec.ofInt 64 255).toNat:Nat):Int):=fi (by omega) (by omega);show 0<=IntKind.wrap .i64 (((BitVec.ofInt 64 a &&& BitVec.ofInt 64 255).toNat:Nat):Int)/\IntKind.wrap .i64 (((BitVec.ofInt 64 a &&& BitVec.ofInt 64 255).toNat:Nat):Int)<=255;rw [e];omega
theorem Uc{u:Nat}(hu:1099511627776<=u){code:List Int}(h:code.length<=1048576):∃ c,w4 u code=some c/\Cu c:=by
 have key:∀ (m k i:Nat) (x:Int),i+m=code.length->m < k->∃ c,i9 u k code x (i:Int)=some c/\Cu c:=by
  intro m
  induction m with
  | zero =>
   intro k i x hi hk;obtain ⟨k,rfl⟩:∃ j,k=j+1:=⟨k - 1,by omega⟩;unfold i9;have:¬ ((i:Int) < (code.length:Int)):=by omega
   simp only [this,decide_false,cond_false,qR,uP];exact ⟨_,rfl,⟨Int.le_refl 0,Int.natCast_nonneg _,h⟩⟩
  | succ m ih =>
   intro k i x hi hk;obtain ⟨k,rfl⟩:∃ j,k=j+1:=⟨k - 1,by omega⟩;unfold i9;have hlt:(i:Int) < (code.length:Int):=by omega
   simp only [hlt,decide_true,cond_true,qR]
   by_cases h4:(i:Int) < 4000
   ·simp only [h4,decide_true,cond_true,b9];obtain ⟨y,hy⟩:∃ y,code[i]?=some y:=⟨code[i],sX (by omega)⟩;rw [hy];simp only [wk];rw [db (by omega)];exact ih k (i+1) _ (by omega) (by omega)
   ·simp only [h4,decide_false,cond_false,uP];exact ⟨_,rfl,⟨Int.le_refl 0,Int.natCast_nonneg _,h⟩⟩
 exact key code.length u 0 _ (by omega) (by omega)
theorem Ag(u:Nat){c:aK}(hc:Cu c):Dr (ki u c) (λv=>0<=v/\v<=255):=by
 have h0:=hc.i0;have h1:=hc.n;have h2:=hc.len;unfold ki
 by_cases h:c.fI < (c.fB.length:Int)
 ·simp only [h,decide_true,cond_true];obtain ⟨i,hi⟩:∃ i:Nat,c.fI=(i:Int):=⟨c.fI.toNat,by omega⟩;rw [hi,b9,sX (by omega)];simp only [wk,o7];exact cP (Ub _) ⟨by show 0<=aW .i64 (i:Int) 1; rw [db (by omega)]; omega,by show aW .i64 (i:Int) 1<=(c.fB.length:Int); rw [db (by omega)]; omega,h2⟩
 ·simp only [h,decide_false,cond_false,o7];exact cP (Ub _) ⟨h0,h1,h2⟩
theorem cC(u:Nat){c:aK}(hc:Cu c)(n:Int):Dr (ba u c n) (λv=>0<=v/\(0 < n->v < n)):=by
 unfold ba
 by_cases h:n<=0
 ·simp only [h,decide_true,cond_true];exact cP ⟨Int.le_refl 0,λh'=>by omega⟩ hc
 ·have hn:(!(n == 0))=true:=by simp; omega
  have hr:∀ a:Int,0<=a->0<=m4 .i64 a n/\(0 < n->m4 .i64 a n < n):=λa ha=>by
   rw [xA ha];exact ⟨zZq _ (by omega),λ_=>zZw _ (by omega)⟩
  simp only [h,decide_false,cond_false]
  by_cases h2:n<=256
  ·simp only [h2,decide_true,cond_true];refine co (Ag u hc) λv c' hv hc'=>?_;rw [hn];exact cP (hr v hv.1) hc'
  ·simp only [h2,decide_false,cond_false];refine co (Ag u hc) λv c' hv hc'=>?_;refine co (Ag u hc') λv2 c2 hv2 hc2=>?_;refine co (Ag u hc2) λv3 c3 hv3 hc3=>?_;rw [hn];refine cP (hr _ ?_) hc3;simp only;rw [iH (by omega) (by omega),iH (by omega) (by omega),cq (a:=v*65536) (b:=v2*256) (by omega) (by omega),cq (by omega) (by omega)];omega
theorem HO(u:Nat){c:aK}(hc:Cu c)(n:Int):Dr (iz u c n) (λ_=>True):=by
 unfold iz;exact co (cC u hc n) λv c' _ hc'=>cP trivial hc'
theorem oa(u:Nat){c:aK}(hc:Cu c){xs:List Int}(hx:0 < xs.length):Dr (dq u c xs) (λv=>v∈xs):=by
 unfold dq;refine co (cC u hc _) λv c' hv hc'=>?_;have hlt:=hv.2 (by omega);obtain ⟨i,hi⟩:∃ i:Nat,v=(i:Int):=⟨v.toNat,by omega⟩;subst hi;have hi:i < xs.length:=by omega
 simp only [b9,sX hi,wk];exact cP (zYW hi) hc'
theorem LL{u:Nat}(hu:1099511627776<=u){c:aK}(hc:Cu c){n:Nat}(hn:n<=1000):Dr (gz u c (n:Int)) (λv=>v.length<=n):=by
 unfold gz;rw [db (by omega)];refine co (cC u hc _) λv c1 hv hc1=>?_;have hlt:=hv.2 (by omega);obtain ⟨m,hm⟩:∃ m:Nat,v=(m:Int):=⟨v.toNat,by omega⟩;subst hm;have key:∀ (m k:Nat) (x:List Int) (c:aK),m < k->Cu c->x.length+m<=1000->Dr (fq u k x (m:Int) c.fB c.fI c.fH) (λv=>v.length<=x.length+m):=by
  intro m
  induction m with
  | zero =>
   intro k x c hk hc hx;obtain ⟨k,rfl⟩:∃ j,k=j+1:=⟨k - 1,by omega⟩;unfold fq;simp only [zZk,gt_iff_lt,Int.lt_irrefl,decide_false,cond_false,rF];exact cP (zWq _) hc
  | succ m ih =>
   intro k x c hk hc hx;obtain ⟨k,rfl⟩:∃ j,k=j+1:=⟨k - 1,by omega⟩;unfold fq;have:((m+1:Nat):Int) > 0:=by omega
   simp only [this,decide_true,cond_true];refine co (oa u hc (xs:=[97,98,99,0,255]) (by simp)) λv c2 hv hc2=>?_;rw [bl (by simp; omega)];simp only [wk];rw [cJ (by omega) (by omega)];have e:((m+1:Nat):Int) - 1=(m:Int):=by omega
   rw [e];refine Kf (ih k _ c2 (by omega) hc2 (by simp; omega)) λv h=>?_;simp only [zQJ,zQV,zXW] at h;omega
 refine Kf (key m u [] c1 (by omega) hc1 (by simp; omega)) λv h=>?_;simp only [zXW] at h;omega
theorem AL{d:aB}(h:cQ d=true):M.DOk d:=by
 have h1:=tX h;refine ⟨by omega,by omega,by omega,λx hx=>?_⟩;have h2:=vA h x hx;rcases Cg h2 with h3 | ⟨_,h3,h4⟩
 ·unfold mB at h2;rw [if_pos h3] at h2;simp only [sk,beq_iff_eq] at h2;omega
 ·omega
theorem Rh(u:Nat){g:Int}{b:List Int}(h0:0<=g)(h1:g<=1000000)(hb:b.length<=240):jb u g b=some ⟨b,[],⟨g,0,b.length⟩,[]⟩/\cQ ⟨b,[],⟨g,0,b.length⟩,[]⟩=true:=by
 refine ⟨?_,?_⟩
 ·unfold jb;have hw:ar g 0 1000000=true:=by simp [ar,h0,h1]
  rw [bL,hw];simp only [wk,zQW,cond_false];have:¬ ((b.length:Int) > 240):=by omega
  simp only [this,decide_false,jT,cond_false];rw [bl (by simp; omega)];simp
 ·simp [cQ,nG,ar,pS,h0,h1,hb];omega
def iI(d:aB)(p:dd):aB:=⟨d.fA,d.fB,d.fR,d.fP++[p]⟩
theorem Ou(u:Nat){p:dd}(h:p.fB.length<=1048576):gn u p=some p:=by
 unfold gn;rw [bl (by simp; omega)];simp
theorem CM{d:aB}{p:dd}(hd:M.DOk d)(hl:d.fP.length<=1048575)(hp:p.fB.length<=1048576):M.DOk (iI d p) :=
 ⟨hd.a,hd.b,by simp [iI]; omega,λx hx=>by
  rcases List.mem_append.1 hx with h | h
  ·exact hd.puts x h
  ·simp at h; subst h; exact hp⟩
theorem zi{u:Nat}(hu:1099511627776<=u){d:aB}{p:dd}(hd:M.DOk d)(hl:d.fP.length<=1048575)(hp:p.fB.length<=1048576) :
  nw u d p=some (if cQ (iI d p) then (iI d p,true) else (d,false)):=by
 have hap:=hd.p;unfold nw;rw [gw hu hd];simp only [wk];rw [Ou u hp];simp only [wk];rw [bl (by simp; omega)];simp only [wk];have e:(aB.mk d.fA d.fB d.fR (d.fP++[p]))=iI d p:=rfl;rw [e,m7 hu (CM hd hl hp)];simp only [wk]
 cases h:cQ (iI d p) <;> simp
def AM:List dd->aB->aB
 | [],d=>⟨d.fA,d.fB,d.fR,[]⟩
 | p :: l,d=>AM l (vz d p)
def vY(d:aB):aB:=if cQ d then AM d.fP d else d
theorem Sj:∀ (l:List dd) (d:aB),(∀ p∈l,mB p=true)->M.DOk d->M.DOk (AM l d)
 | [],d,_,hd=>⟨hd.a,hd.b,by simp [AM],by simp [AM]⟩
 | p :: l,d,hp,hd=>Sj l _ (λq hq=>hp q (by simp [hq])) (CL hd (hp p (by simp)))
theorem Sk{d:aB}(hd:M.DOk d):M.DOk (vY d):=by
 unfold vY
 cases h:cQ d with
 | true=>exact Sj _ _ (vA h) hd
 | false=>exact hd
theorem P5{u:Nat}(hu:1099511627776<=u)(d0:aB):∀ (l:List dd) (i:Nat) (d:aB),(∀ p∈l,mB p=true/\p.fB.length<=1048576)->M.DOk d->bU (xi u d0) (xj u d0) l i (tup d)=some (AM l d):=by
 intro l
 induction l with
 | nil=>intro i d _ _; rfl
 | cons p l ih =>
  intro i d hp hd;obtain ⟨h1,h2⟩:=hp p (by simp);show (jn u d p).bind (λr25=>bU (xi u d0) (xj u d0) l (i+1) (tup r25))=_;rw [Ch hu hd h2 h1];exact ih (i+1) _ (λq hq=>hp q (by simp [hq])) (CL hd h1)
theorem F6{u:Nat}(hu:1099511627776<=u){d:aB}(hd:M.DOk d):qi u d=some (vY d):=by
 have h3:=hd.p;unfold qi vY;rw [gw hu hd,m7 hu hd];simp only [wk]
 cases h:cQ d with
 | false=>rfl
 | true =>
  simp only [zQW,cond_false,if_true];have:=Ki u d (tup d) u (by omega) (by omega);exact this.trans (P5 hu d d.fP 0 d (λp hp=>⟨vA h p hp,hd.puts p hp⟩) hd)
theorem P6{u:Nat}(hu:1099511627776<=u){c:aK}(hc:Cu c):Dr (rn u c) (λp=>p.fB.length<=5):=by
 unfold rn;refine co (HO u hc 4) λb c1 _ h1=>?_
 cases b with
 | true =>
  simp only [cond_true];refine co (cC u h1 4) λv2 c2 _ h2=>?_;refine co (cC u h2 2) λv3 c3 _ h3=>?_;refine co (cC u h3 6) λv4 c4 _ h4=>?_;exact cP (by simp) h4
 | false =>
  simp only [cond_false];refine co (cC u h1 2) λv2 c2 _ h2=>?_;refine co (cC u h2 9) λv3 c3 _ h3=>?_;refine co (LL hu h3 (n:=5) (by omega)) λv4 c4 hv h4=>?_;exact cP hv h4
theorem S2{u:Nat}(hu:1099511627776<=u){c:aK}(hc:Cu c):Dr (vo u c) (λd=>cQ d=true):=by
 unfold vo;refine co (cC u hc 3) λg c1 hg h1=>?_;refine co (LL hu h1 (n:=9) (by omega)) λb c2 hb h2=>?_;have hg2:=hg.2 (by omega);obtain ⟨e1,e2⟩:=Rh u hg.1 (by omega) (b:=b) (by omega);simp only [e1,wk];refine co (cC u h2 5) λn c3 hn h3=>?_;obtain ⟨m,hm⟩:∃ m:Nat,n=(m:Int):=⟨n.toNat,by omega⟩;subst hm;have hm5:=hn.2 (by omega);have key:∀ (m k:Nat) (d:aB) (c:aK),m < k->m<=5->cQ d=true->Cu c->Dr (gp u k (m:Int) d.fA d.fB d.fR.aO d.fR.b7 d.fR.aY d.fP c.fB c.fI c.fH) (λd=>cQ d=true):=by
  intro m
  induction m with
  | zero =>
   intro k d c hk _ hd hc;obtain ⟨k,rfl⟩:∃ j,k=j+1:=⟨k - 1,by omega⟩;unfold gp;simp only [zZk,gt_iff_lt,Int.lt_irrefl,decide_false,cond_false,xn];exact cP hd hc
  | succ m ih =>
   intro k d c hk hm hd hc;obtain ⟨k,rfl⟩:∃ j,k=j+1:=⟨k - 1,by omega⟩;unfold gp;have:((m+1:Nat):Int) > 0:=by omega
   simp only [this,decide_true,cond_true];refine co (P6 hu hc) λp c1 hp h1=>?_;have hD:=AL hd;have hpl:=tX hd;have e:(aB.mk d.fA d.fB (dp.mk d.fR.aO d.fR.b7 d.fR.aY) d.fP)=d:=rfl;rw [e,zi hu hD (p:=p) (by omega) (by omega)];simp only [wk];obtain ⟨d',b',hd',hif⟩:∃ d' b',cQ d'=true/\(if cQ (iI d p)=true then (iI d p,true) else (d,false))=(d',b'):=by
    cases h:cQ (iI d p) with
    | true=>exact ⟨_,true,h,rfl⟩
    | false=>exact ⟨_,false,hd,rfl⟩
   rw [hif];simp only;rw [F6 hu (AL hd')];simp only [wk];refine co (HO u h1 5) λo c2 _ h2=>?_;have hs:(cW .i64 ((m+1:Nat):Int) 1)=(m:Int):=by rw [cJ (by omega) (by omega)]; omega
   cases o with
   | true =>
    simp only [cond_true];rw [m7 hu (Sk (AL hd'))];simp only [wk,pp,po,hs]
    cases hx:cQ (vY d') with
    | true=>exact ih k _ c2 (by omega) (by omega) hx h2
    | false=>exact ih k _ c2 (by omega) (by omega) hd' h2
   | false =>
    simp only [cond_false,pp,po,hs];exact ih k _ c2 (by omega) (by omega) hd' h2
 exact key m u _ c3 (by omega) (by omega) e2 h3
theorem Ud{u:Nat}(hu:1099511627776<=u){c:aK}(hc:Cu c):Dr (uo u c) (λd=>M.DOk d/\d.fP.length<=201):=by
 unfold uo;refine co (S2 hu hc) λd c1 hd h1=>?_;have hD:=AL hd;have hl:=tX hd;have hok:∀ r,M.DOk ⟨d.fA,d.fB,r,d.fP⟩/\d.fP.length<=201:=λr=>⟨⟨hD.a,hD.b,hD.p,hD.puts⟩,by omega⟩;refine co (cC u h1 12) λn c2 _ h2=>?_;simp only
 cases n == 0 with
 | true =>
  simp only [cond_true];refine co (oa u h2 (by simp)) λx c3 _ h3=>?_;exact cP (hok _) h3
 | false =>
  simp only [cond_false]
  cases n == 1 with
  | true =>
   simp only [cond_true];refine co (oa u h2 (by simp)) λx c3 _ h3=>?_;exact cP (hok _) h3
  | false =>
   simp only [cond_false]
   cases n == 2 with
   | true =>
    simp only [cond_true];refine co (oa u h2 (by simp)) λx c3 _ h3=>?_;exact cP (hok _) h3
   | false =>
    simp only [cond_false]
    cases n == 3 with
    | true =>
     simp only [cond_true];refine co (oa u h2 (by simp)) λx c3 _ h3=>?_;refine co (oa u h3 (by simp)) λy c4 _ h4=>?_;rw [bl (by simp; omega)];simp only [wk,mt];refine cP ⟨CM hD (by omega) (p:=⟨x,y,[1],⟨0,0,0⟩⟩) (by simp),by simp; omega⟩ h4
    | false=>exact cP (hok _) h2
theorem lp{u:Nat}(hu:1099511627776<=u){a:List Int}(h:a.length<=1048576):jF u a a=some true:=by
 unfold jF;simp only [bne_self_eq_false,cond_false];rw [Km u a a () u (by omega) (by omega),oF (λx i k hx=>by unfold BG; rw [b9,hx]; simp only [wk,bne_self_eq_false,cond_false]) a 0 rfl];rfl
theorem Ey{u:Nat}(hu:1099511627776<=u){d:aB}(h:M.DOk d):oE u d d=some true:=by
 have hp:=h.p;unfold oE;rw [lp hu h.a,lp hu h.b];simp only [wk,zQW,cond_false,beq_self_eq_true,bne_self_eq_false,kK];rw [DY u d d () u (by omega) (by omega),oF (λx i k hx=>by
  unfold xw;rw [b9,hx];have hb:=h.puts x (zQX hx);simp only [wk,bne_self_eq_false,beq_self_eq_true,zQW,cond_false,eE,lp hu hb]) d.fP 0 rfl]
 rfl
theorem Nz(s:Int):∀ (l:List dd) (i:Nat) (d:aB),(tY s l i d).fP=[]
 | [],i,d=>rfl
 | p :: l,i,d=>Nz s l (i+1) _
theorem Ue{d:aB}(h:cQ d=true)(s:Int):(zh d s).fP=[]:=by
 unfold zh;rw [h];exact Nz s d.fP 0 d
theorem S3(n:Int):0<=IntKind.wrap .u8 n/\IntKind.wrap .u8 n<=255:=by
 show 0<=n % 256/\n % 256<=255;omega
theorem HP(n:Int):aq [IntKind.wrap .u8 n]:=λx hx=>by
 simp only [zQx] at hx;subst hx;exact S3 n
theorem wY{a b:List Int}(ha:aq a)(hb:aq b):aq (a++b):=λx hx=>(List.mem_append.1 hx).elim (ha x) (hb x)
theorem CN{a:List Int}(ha:aq a)(i:Nat){v:Int}(hv:0<=v/\v<=255):aq (a.set i v):=λx hx=>by
 rcases zYZ hx with h | h
 ·exact ha x h
 ·subst h; exact hv
theorem AN{a:List Int}(ha:aq a)(n:Nat):aq (a.take n):=λx hx=>ha x (zWQ hx)
theorem AO{a:List Int}(ha:aq a)(n:Nat):aq (a.drop n):=λx hx=>ha x (zWw hx)
theorem NA:aq []:=λx hx=>by cases hx
def m8(n:Nat)(b:List Int):Prop:=b.length<=n/\aq b
theorem yO{u:Nat}(hu:1099511627776<=u){c:aK}(hc:Cu c){n:Nat}(hn:n<=1000):Dr (gz u c (n:Int)) (m8 n):=by
 unfold gz;rw [db (by omega)];refine co (cC u hc _) λv c1 hv hc1=>?_;have hlt:=hv.2 (by omega);obtain ⟨m,hm⟩:∃ m:Nat,v=(m:Int):=⟨v.toNat,by omega⟩;subst hm;have key:∀ (m k:Nat) (x:List Int) (c:aK),m < k->Cu c->x.length+m<=1000->aq x->Dr (fq u k x (m:Int) c.fB c.fI c.fH) (m8 (x.length+m)):=by
  intro m
  induction m with
  | zero =>
   intro k x c hk hc hx hb;obtain ⟨k,rfl⟩:∃ j,k=j+1:=⟨k - 1,by omega⟩;unfold fq;simp only [zZk,gt_iff_lt,Int.lt_irrefl,decide_false,cond_false,rF];exact cP ⟨zWq _,hb⟩ hc
  | succ m ih =>
   intro k x c hk hc hx hb;obtain ⟨k,rfl⟩:∃ j,k=j+1:=⟨k - 1,by omega⟩;unfold fq;have:((m+1:Nat):Int) > 0:=by omega
   simp only [this,decide_true,cond_true];refine co (oa u hc (xs:=[97,98,99,0,255]) (by simp)) λv c2 hv hc2=>?_;rw [bl (by simp; omega)];simp only [wk];rw [cJ (by omega) (by omega)];have e:((m+1:Nat):Int) - 1=(m:Int):=by omega
   rw [e];refine Kf (ih k _ c2 (by omega) hc2 (by simp; omega) (wY hb (HP _))) λv h=>?_;have h1:=h.1;simp only [zQJ,zQV,zXW] at h1;exact ⟨by omega,h.2⟩
 refine Kf (key m u [] c1 (by omega) hc1 (by simp; omega) NA) λv h=>?_;have h1:=h.1;simp only [zXW] at h1;exact ⟨by omega,h.2⟩
theorem LM{u:Nat}(hu:1099511627776<=u){c:aK}(hc:Cu c):Dr (lY u c) (m8 16):=by
 unfold lY;exact co (yO hu hc (n:=16) (by omega)) λv c1 hv hc1=>cP hv hc1
theorem Ri(u:Nat){c:aK}(hc:Cu c){b:List Int}(hb:b.length<=200)(hB:aq b):Dr (lZ u c b) (m8 201):=by
 unfold lZ;rw [bl (by simp; omega)];simp only [wk,zQy];have hlt:∀ {v:Int},0<=v->v < (b.length:Int)->∃ y,cN b v=some y:=λ{v} h0 h1=>by
  obtain ⟨i,rfl⟩:∃ i:Nat,v=(i:Int):=⟨v.toNat,by omega⟩;exact ⟨b[i]'(by omega),by rw [b9]; exact sX (by omega)⟩
 have self:m8 201 b:=⟨by omega,hB⟩;refine co (cC u hc 6) λn c1 _ h1=>?_;simp only
 cases n == 0 with
 | true =>
  simp only [cond_true]
  by_cases hl:(b.length:Int) > 0
  ·simp only [hl,decide_true,cond_true];refine co (cC u h1 _) λv c2 hv h2=>?_;refine co (cC u h2 256) λw c3 _ h3=>?_;obtain ⟨y,hy⟩:=hlt hv.1 (hv.2 hl);simp only [hy,wk,cg];exact cP ⟨by rw [zXZ]; omega,CN hB _ (S3 _)⟩ h3
  ·simp only [hl,decide_false,cond_false,cg];exact cP self h1
 | false =>
  simp only [cond_false]
  cases n == 1 with
  | true =>
   simp only [cond_true];rw [db (by omega)];refine co (cC u h1 _) λv c2 hv h2=>?_;have h3:=hv.2 (by omega);have hs:cE 0 v (b.length:Int)=true:=by simp [cE]; omega
   simp only [hs,zR,wk,cg];exact cP ⟨by rw [zYy,zQh]; omega,AO (AN hB _) _⟩ h2
  | false =>
   simp only [cond_false]
   cases n == 2 with
   | true =>
    simp only [cond_true];refine co (oa u h1 (by simp)) λv c2 _ h2=>?_;rw [bl (by simp; omega)];simp only [wk,cg];exact cP ⟨by rw [zQJ,zYV]; omega,wY hB (HP _)⟩ h2
   | false =>
    simp only [cond_false]
    cases n == 3 with
    | true =>
     simp only [cond_true]
     by_cases hl:(b.length:Int) > 0
     ·simp only [hl,decide_true,cond_true];refine co (cC u h1 _) λv c2 hv h2=>?_;obtain ⟨y,hy⟩:=hlt hv.1 (hv.2 hl);simp only [hy,wk];refine co (cC u h2 8) λw c3 hw h3=>?_;have hw0:=hw.1;simp only [hy];rw [bl hw0];simp only [wk,cg];exact cP ⟨by rw [zXZ]; omega,CN hB _ (by unfold NZ; exact S3 _)⟩ h3
     ·simp only [hl,decide_false,cond_false,cg];exact cP self h1
    | false =>
     simp only [cond_false,cg];exact cP self h1
theorem S4{u:Nat}(hu:1099511627776<=u){c:aK}(hc:Cu c){b:List Int}(hb:b.length<=200)(hB:aq b):Dr (sm u c b) (m8 240):=by
 unfold sm;refine co (cC u hc 5) λn c1 _ h1=>?_;simp only
 cases n == 0 with
 | true =>
  simp only [cond_true];exact co (yO hu h1 (n:=16) (by omega)) λv c2 hv h2=>cP ⟨zWx hv.1 (by omega),hv.2⟩ h2
 | false =>
  simp only [cond_false]
  cases n == 1 with
  | true =>
   simp only [cond_true];rw [bl (by simp; omega)];simp only [wk,zQy];exact cP ⟨by omega,hB⟩ h1
  | false =>
   simp only [cond_false]
   cases n == 2 with
   | true =>
    simp only [cond_true];rw [db (by omega)];refine co (cC u h1 _) λv c2 hv h2=>?_;have h3:=hv.2 (by omega);have h0:=hv.1;have s1:cE v (b.length:Int) (b.length:Int)=true:=by simp [cE]; omega
    have s2:cE 0 v (b.length:Int)=true:=by simp [cE]; omega
    simp only [s1,s2,zR,wk];rw [bl (by simp; omega)];simp only [wk];rw [bl (by simp; omega)];simp only [wk];refine cP ⟨by simp; omega,wY (wY (λx hx=>?_) (AO (AN hB _) _)) (AO (AN hB _) _)⟩ h2;simp only [zQx] at hx;omega
   | false =>
    simp only [cond_false]
    cases n == 3 with
    | true =>
     simp only [cond_true];exact cP ⟨by simp,NA⟩ h1
    | false =>
     simp only [cond_false];refine co (yO hu h1 (n:=3) (by omega)) λv c2 hv h2=>?_;refine co (Ri u h2 hb hB) λw c3 hw h3=>?_;have hv1:=hv.1;have hw1:=hw.1;simp only;rw [bl (by omega)];simp only [wk];exact cP ⟨by rw [zQJ]; omega,wY hv.2 hw.2⟩ h3
theorem jK{α:Type}(l:List α)(k:Nat){v:α}(h:l[k]?=some v):cN l (k:Int)=some v:=by
 unfold cN;simp [h]
def LN(c:Int):Option (Int×Nat)->Option (Int×Nat)
 | some (v,n)=>some (v*128+(c - 128),n+1)
 | none=>none
def M.rd:Nat->Bool->List Int->Option (Int×Nat)
 | 0,_,_=>none
 | _+1,_,[]=>none
 | k+1,f,c :: l=>if c < 128 then (if f || decide (0 < c) then some (c,1) else none) else LN c (M.rd k false l)
theorem V7:∀ (k:Nat) (f:Bool) (l:List Int) (w:Int) (j:Nat),aq l->M.rd k f l=some (w,j)->0<=w/\(f=false->0 < w)/\j<=l.length/\1<=j/\w < 128 ^ k/\∀ K,k<=K+1->l.take j=cO K w:=by
 intro k
 induction k with
 | zero=>intro f l w j _ h; simp [M.rd] at h
 | succ k ih =>
  intro f l w j hb h
  cases l with
  | nil=>simp [M.rd] at h
  | cons c l =>
   have hc:=hb c (by simp);unfold M.rd at h
   by_cases hc1:c < 128
   ·rw [if_pos hc1] at h
    split at h
    ·rename_i hf;simp only [Option.some.injEq,Prod.mk.injEq] at h;obtain ⟨rfl,rfl⟩:=h;have hp:(128:Int)<=128 ^ (k+1):=by
      rw [zWh]; have:(0:Int) < 128 ^ k:=Int.pow_pos (by decide); omega
     refine ⟨hc.1,λh0=>by subst h0; simpa using hf,by simp,by omega,by omega,λK _=>?_⟩
     cases K with
     | zero=>simp [cO]; omega
     | succ K=>unfold cO; rw [if_pos (by omega)]; simp; omega
    ·cases h
   ·rw [if_neg hc1] at h
    cases hr:M.rd k false l with
    | none=>rw [hr] at h; cases h
    | some q =>
     obtain ⟨v,n⟩:=q;rw [hr] at h;simp only [LN,Option.some.injEq,Prod.mk.injEq] at h;obtain ⟨rfl,rfl⟩:=h;obtain ⟨h1,h2,h3,h4,h5,h6⟩:=ih false l v n (λx hx=>hb x (by simp [hx])) hr;have h2:=h2 rfl;have hk:k≠0:=by intro h0; subst h0; simp [M.rd] at hr
     refine ⟨by omega,λ_=>by omega,by simp; omega,by omega,by rw [zWh]; omega,λK hK=>?_⟩;obtain ⟨K,rfl⟩:∃ K',K=K'+1:=⟨K - 1,by omega⟩;unfold cO;rw [if_neg (by omega),List.take_succ_cons,h6 K (by omega)]
     congr 1
     ·omega
     ·congr 1; omega
theorem V8:∀ (k K:Nat) (f:Bool) (n:Int) (t:List Int),1<=k->0<=n->(f=false->0 < n)->n < 128 ^ k->k<=K+1->M.rd k f (cO K n++t)=some (n,(cO K n).length):=by
 intro k
 induction k with
 | zero=>intro K f n t h0; omega
 | succ k ih =>
  intro K f n t h0 h1 h2 h3 h4
  by_cases h:n<=127
  ·have e:cO K n=[n]:=by
    cases K with
    | zero=>simp [cO]; omega
    | succ K=>unfold cO; rw [if_pos h]; simp; omega
   rw [e];simp only [List.singleton_append,M.rd,zYV];rw [if_pos (by omega),if_pos (by cases f <;> simp; exact h2 rfl)]
  ·have hk:k≠0:=by
    intro h0; subst h0;rw [show (128:Int) ^ (0+1)=128 by rfl] at h3; omega
   obtain ⟨K,rfl⟩:∃ K',K=K'+1:=⟨K - 1,by omega⟩;unfold cO;rw [if_neg h];simp only [zXk,M.rd];rw [if_neg (by omega),ih K false (n / 128) t (by omega) (by omega) (λ_=>by omega) (by rw [zWh] at h3; omega) (by omega)];simp only [LN,zQV,Option.some.injEq,Prod.mk.injEq,and_true];omega
theorem LO{a n:Nat}(hn:n<=62)(h:a*2 ^ n < 9223372036854775808):gl .i64 (a:Int) (n:Int)=((a*2 ^ n:Nat):Int):=by
 unfold gl;rw [show min (sY (n:Int)) (IntKind.bits .i64)=n by simp [IntKind.bits]; omega];have e:(a:Int)*2 ^ n=((a*2 ^ n:Nat):Int):=by simp
 rw [e];exact fi (by omega) (by omega)
theorem Uf{v a n:Nat}(hv:v < 2 ^ n):v ||| a*2 ^ n=v+a*2 ^ n:=by
 have h:=Nat.shiftLeft_add_eq_or_of_lt hv a;rw [Nat.shiftLeft_eq] at h;rw [Nat.or_comm,<- h,Nat.add_comm]
theorem Rj{v i:Nat}{c:Int}(hi:i<=7)(hv:v < 2 ^ (7*i))(h1:0<=c)(h2:c<=255):qP .i64 (v:Int) (gl .i64 (eH .i64 (IntKind.wrap .i64 c) 127) (eB .i64 7 (i:Int)))=((v+(c % 128).toNat*2 ^ (7*i):Nat):Int)/\v+(c % 128).toNat*2 ^ (7*i) < 2 ^ (7*(i+1)):=by
 have hp:(2:Nat) ^ (7*i)<=2 ^ 49:=zYX (by omega) (by omega);have hq:(2:Nat) ^ (7*(i+1))=128*2 ^ (7*i):=by rw [Nat.mul_add,Nat.pow_add,Nat.mul_comm]
 have hc:(c % 128).toNat < 128:=by omega
 have hm:(c % 128).toNat*2 ^ (7*i)<=127*2 ^ (7*i):=zWY _ (by omega);rw [fi (by omega) (by omega),Ok,iH (by omega) (by omega),show (7:Int)*(i:Int)=((7*i:Nat):Int) by omega,show c % 128=(((c % 128).toNat:Nat):Int) by omega];rw [show (((c % 128).toNat:Nat):Int).toNat=(c % 128).toNat by omega];have hp2:(2:Nat) ^ 49=562949953421312:=by decide
 rw [LO (by omega) (by omega),F1 (by omega) (by omega),Uf hv];exact ⟨rfl,by omega⟩
def oZ(o:Option (Int×Nat))(v i a:Nat)(r:Int×Int×Bool):Prop:=match o with
 | some (w,j)=>r=((v:Int)+w*2 ^ (7*i),((a+j:Nat):Int),true)
 | none=>r.2.2=false
theorem LP{o:Option (Int×Nat)}{v i a x:Nat}{c:Int}{r:Int×Int×Bool}(hx:(x:Int)=c - 128)(h:oZ o (v+x*2 ^ (7*i)) (i+1) (a+1) r):oZ (LN c o) v i a r:=by
 cases o with
 | none=>exact h
 | some q =>
  obtain ⟨w,j⟩:=q;unfold oZ at h;unfold oZ LN;dsimp only at h ⊢;rw [h];refine Prod.ext ?_ (Prod.ext ?_ rfl)
  ·dsimp only;rw [show 7*(i+1)=7*i+7 by omega,Int.pow_add,<- hx];have:((v+x*2 ^ (7*i):Nat):Int)=(v:Int)+(x:Int)*2 ^ (7*i):=by simp
   rw [this];generalize (2:Int) ^ (7*i)=p;rw [show (2:Int) ^ 7=128 by rfl,zZx,Int.mul_assoc w 128 p,zZG p 128];omega
  ·dsimp only; omega
theorem LQ{α:Type}{b:List α}{a:Nat}(h:a < b.length):b.drop a=b[a] :: b.drop (a+1):=zXG h
theorem S5(u:Nat){b:List Int}(hb:aq b)(hl:b.length<=1048576)(a n:Nat)(hn:n<=8):∀ (m i k v:Nat),i+m=n->m < k->v < 2 ^ (7*i)->∃ r,fy u k b a v n i=some r/\oZ (M.rd m (i == 0) (b.drop (a+i))) v i (a+i) r:=by
 intro m
 induction m with
 | zero =>
  intro i k v h1 h2 h3;obtain ⟨k,rfl⟩:∃ j,k=j+1:=⟨k - 1,by omega⟩;have e:¬ ((i:Int) < (n:Int)):=by omega
  refine ⟨(0,0,false),?_,rfl⟩;unfold fy rZ;simp only [e,decide_false,cond_false]
 | succ m ih =>
  intro i k v h1 h2 h3;obtain ⟨k,rfl⟩:∃ j,k=j+1:=⟨k - 1,by omega⟩;have e:(i:Int) < (n:Int):=by omega
  unfold fy;simp only [e,decide_true,cond_true];rw [cJ (a:=(b.length:Int)) (by omega) (by omega),cJ (by omega) (by omega),d9];simp only [wk]
  by_cases ha:a+i < b.length
  ·rw [show ar (a:Int) 0 ((b.length:Int) - 1 - (i:Int))=true by simp [ar]; omega,LQ ha,cq (a:=(a:Int)) (by omega) (by omega),show (a:Int)+(i:Int)=((a+i:Nat):Int) by omega,b9,sX ha];have hc:=hb b[a+i] (zYW ha);obtain ⟨e1,e2⟩:=Rj (i:=i) (by omega) h3 hc.1 hc.2;simp only [zQW,cond_false,wk];rw [e1,iH (by omega) (by omega),bl (by omega),fi (by omega) (by omega),cq (a:=((a+i:Nat):Int)) (by omega) (by omega),db (by omega)];simp only [wk,M.rd]
   by_cases hc1:b[a+i] < 128
   ·simp only [hc1,decide_true,cond_true,if_true];have hv:((v+(b[a+i] % 128).toNat*2 ^ (7*i):Nat):Int)=(v:Int)+b[a+i]*2 ^ (7*i):=by
     have:((v+(b[a+i] % 128).toNat*2 ^ (7*i):Nat):Int)=(v:Int)+(((b[a+i] % 128).toNat:Nat):Int)*2 ^ (7*i):=by simp
     rw [this,show (((b[a+i] % 128).toNat:Nat):Int)=b[a+i] by omega]
    rw [hv]
    by_cases h0:i=0
    ·subst h0;refine ⟨_,rfl,?_⟩;simp [oZ]
    ·have e3:((i:Int) == 0)=false:=by simp; omega
     have e4:(i == 0)=false:=by simpa using h0
     simp only [e3,e4,cond_false,Bool.false_or];refine ⟨_,rfl,?_⟩
     by_cases hc2:0 < b[a+i]
     ·have hc3:b[a+i] > 0:=hc2;simp only [hc2,hc3,decide_true,if_true,oZ];refine Prod.ext rfl (Prod.ext ?_ rfl);dsimp only; omega
     ·have hc3:¬ b[a+i] > 0:=hc2;simp only [hc2,hc3,decide_false,zQk,if_false,oZ]
   ·simp only [hc1,decide_false,cond_false,if_false];obtain ⟨r,g1,g2⟩:=ih (i+1) k _ (by omega) (by omega) e2;refine ⟨r,g1,LP (x:=(b[a+i] % 128).toNat) (by omega) ?_⟩;rw [show (i+1 == 0)=false by rfl] at g2;exact g2
  ·rw [show ar (a:Int) 0 ((b.length:Int) - 1 - (i:Int))=false by simp [ar]; omega,zXv (by omega)];exact ⟨(0,0,false),rfl,rfl⟩
def qN(n:Nat)(b:List Int)(a:Int):Option (Int×Int):=if 0<=a then match M.rd n true (b.drop a.toNat) with
  | some (v,j)=>some (v,a+j)
  | none=>none
 else none
theorem LR{u:Nat}(hu:1099511627776<=u){b:List Int}(hb:aq b)(hl:b.length<=1048576)(a:Int)(n:Nat)(h1:1<=n)(hn:n<=8):∃ r,nC u b a n=some r/\(match qN n b a with | some (v,e)=>r=(v,e,true) | none=>r.2.2=false):=by
 unfold nC qN
 by_cases ha:0<=a
 ·obtain ⟨a,rfl⟩:=zQK ha;obtain ⟨r,g1,g2⟩:=S5 u hb hl a n hn n 0 u 0 (by omega) (by omega) (by simp);refine ⟨r,g1,?_⟩;rw [if_pos ha,zQQ];rw [zXY] at g2;unfold oZ at g2
  cases hr:M.rd n true (b.drop a) with
  | none=>rw [show ((0 == 0:Bool))=true by rfl,hr] at g2; exact g2
  | some q=>obtain ⟨w,j⟩:=q; rw [show ((0 == 0:Bool))=true by rfl,hr] at g2; simpa using g2
 ·obtain ⟨u,rfl⟩:∃ j,u=j+1:=⟨u - 1,by omega⟩;rw [if_neg ha];refine ⟨(0,0,false),?_,rfl⟩;unfold fy;have e:(0:Int) < (n:Int):=by omega
  simp only [e,decide_true,cond_true];rw [cJ (a:=(b.length:Int)) (by omega) (by omega),cJ (by omega) (by omega),d9,show ar a 0 ((b.length:Int) - 1 - 0)=false by simp [ar]; omega];rfl
def bf(b:List Int)(a:Int):Int×Int×Bool:=match qN 6 b a with
 | some (v,e)=>if v<=1000000000000 then (v,e,true) else (0,0,false)
 | none=>(0,0,false)
theorem tZ{u:Nat}(hu:1099511627776<=u){b:List Int}(hb:aq b)(hl:b.length<=1048576)(a:Int):mi u b a=some (bf b a):=by
 obtain ⟨r,g1,g2⟩:=LR hu hb hl a 6 (by omega) (by omega);unfold mi bf;rw [show ((6:Nat):Int)=6 by rfl] at g1;rw [g1];simp only [wk]
 cases hr:qN 6 b a with
 | none=>rw [hr] at g2; rw [g2]; rfl
 | some q =>
  obtain ⟨v,e⟩:=q;rw [hr] at g2;rw [g2]
  by_cases h:v<=1000000000000
  ·have:¬ v > 1000000000000:=by omega
   simp [h,this,pt]
  ·have:v > 1000000000000:=by omega
   simp [h,this,pt]
theorem Rk(u:Nat){b:List Int}(hb:aq b)(hl:b.length<=1048576)(a:Nat):∀ (m i k v:Nat),i+m=8->m < k->v < 2 ^ (7*i)->∃ r,fJ u k b a v i=some r/\oZ (M.rd m (i == 0) (b.drop (a+i))) v i (a+i) r:=by
 intro m
 induction m with
 | zero =>
  intro i k v h1 h2 h3;obtain ⟨k,rfl⟩:∃ j,k=j+1:=⟨k - 1,by omega⟩;have e:¬ ((i:Int) < 8):=by omega
  refine ⟨(0,0,false),?_,rfl⟩;unfold fJ qb;simp only [e,decide_false,cond_false]
 | succ m ih =>
  intro i k v h1 h2 h3;obtain ⟨k,rfl⟩:∃ j,k=j+1:=⟨k - 1,by omega⟩;have e:(i:Int) < 8:=by omega
  unfold fJ;simp only [e,decide_true,cond_true];rw [cJ (a:=(b.length:Int)) (by omega) (by omega)]
  by_cases ha:a+i < b.length
  ·have e0:¬ ((a:Int)>=(b.length:Int) - (i:Int)):=by omega
   rw [LQ ha,cq (a:=(a:Int)) (by omega) (by omega),show (a:Int)+(i:Int)=((a+i:Nat):Int) by omega,b9,sX ha];have hc:=hb b[a+i] (zYW ha);obtain ⟨e1,e2⟩:=Rj (i:=i) (by omega) h3 hc.1 hc.2;simp only [e0,decide_false,cond_false,wk];rw [e1,iH (by omega) (by omega),bl (by omega),fi (by omega) (by omega),cq (a:=((a+i:Nat):Int)) (by omega) (by omega),db (by omega)];simp only [wk,M.rd]
   by_cases hc1:b[a+i] < 128
   ·simp only [hc1,decide_true,cond_true,if_true];have hv:((v+(b[a+i] % 128).toNat*2 ^ (7*i):Nat):Int)=(v:Int)+b[a+i]*2 ^ (7*i):=by
     have:((v+(b[a+i] % 128).toNat*2 ^ (7*i):Nat):Int)=(v:Int)+(((b[a+i] % 128).toNat:Nat):Int)*2 ^ (7*i):=by simp
     rw [this,show (((b[a+i] % 128).toNat:Nat):Int)=b[a+i] by omega]
    rw [hv]
    by_cases hc2:0 < b[a+i]
    ·have hc3:b[a+i] > 0:=hc2;simp only [hc2,hc3,decide_true,cond_true,Bool.or_true,if_true,oZ];refine ⟨_,rfl,Prod.ext rfl (Prod.ext ?_ rfl)⟩;dsimp only; omega
    ·have hc3:¬ b[a+i] > 0:=hc2;simp only [hc2,hc3,decide_false,cond_false,Bool.or_false];refine ⟨_,rfl,?_⟩
     by_cases h0:i=0
     ·subst h0; simp [oZ]
     ·have e4:(i == 0)=false:=by simpa using h0
      simp only [e4,zQk,if_false,oZ];simp; omega
   ·simp only [hc1,decide_false,cond_false,if_false];obtain ⟨r,g1,g2⟩:=ih (i+1) k _ (by omega) (by omega) e2;refine ⟨r,g1,LP (x:=(b[a+i] % 128).toNat) (by omega) ?_⟩;rw [show (i+1 == 0)=false by rfl] at g2;exact g2
  ·have e0:(a:Int)>=(b.length:Int) - (i:Int):=by omega
   simp only [e0,decide_true,cond_true];rw [zXv (by omega)];exact ⟨(0,0,false),rfl,rfl⟩
theorem Iq{u:Nat}(hu:1099511627776<=u){b:List Int}(hb:aq b)(hl:b.length<=1048576){a:Int}(ha:0<=a):∃ r,qY u b a=some r/\(match qN 8 b a with | some (v,e)=>r=(v,e,true) | none=>r.2.2=false):=by
 unfold qY qN;obtain ⟨a,rfl⟩:=zQK ha;obtain ⟨r,g1,g2⟩:=Rk u hb hl a 8 0 u 0 (by omega) (by omega) (by simp);refine ⟨r,g1,?_⟩;rw [if_pos ha,zQQ];rw [zXY] at g2;unfold oZ at g2
 cases hr:M.rd 8 true (b.drop a) with
 | none=>rw [show ((0 == 0:Bool))=true by rfl,hr] at g2; exact g2
 | some q=>obtain ⟨w,j⟩:=q; rw [show ((0 == 0:Bool))=true by rfl,hr] at g2; simpa using g2
def P7(o:Option (Int×Nat))(v i a:Nat):Int×Int×Bool:=match o with
 | some (w,j)=>if (v:Int)+w*2 ^ (7*i)<=1000000000000 then ((v:Int)+w*2 ^ (7*i),((a+j:Nat):Int),true) else (0,0,false)
 | none=>(0,0,false)
theorem U5(o:Option (Int×Nat))(v i a x:Nat)(c:Int)(hx:(x:Int)=c - 128):P7 (LN c o) v i a=P7 o (v+x*2 ^ (7*i)) (i+1) (a+1):=by
 cases o with
 | none=>rfl
 | some q =>
  obtain ⟨w,j⟩:=q;unfold P7 LN;dsimp only;have e:(v:Int)+(w*128+(c - 128))*2 ^ (7*i)=((v+x*2 ^ (7*i):Nat):Int)+w*2 ^ (7*(i+1)):=by
   rw [show 7*(i+1)=7*i+7 by omega,Int.pow_add,<- hx];have:((v+x*2 ^ (7*i):Nat):Int)=(v:Int)+(x:Int)*2 ^ (7*i):=by simp
   rw [this];generalize (2:Int) ^ (7*i)=p;rw [show (2:Int) ^ 7=128 by rfl,zZx,Int.mul_assoc w 128 p,zZG p 128];omega
  rw [e,show a+(j+1)=a+1+j by omega]
theorem MN(u:Nat){b:List Int}(hb:aq b)(hl:b.length<=1048576)(a:Nat):∀ (m i k v:Nat),i+m=6->m < k->v < 2 ^ (7*i)->dx u k b a v i=some (P7 (M.rd m (i == 0) (b.drop (a+i))) v i (a+i)):=by
 intro m
 induction m with
 | zero =>
  intro i k v h1 h2 h3;obtain ⟨k,rfl⟩:∃ j,k=j+1:=⟨k - 1,by omega⟩;have e:¬ ((i:Int) < 6):=by omega
  unfold dx s8;simp only [e,decide_false,cond_false]; rfl
 | succ m ih =>
  intro i k v h1 h2 h3;obtain ⟨k,rfl⟩:∃ j,k=j+1:=⟨k - 1,by omega⟩;have e:(i:Int) < 6:=by omega
  have en:¬ ((a:Int) < 0):=by omega
  unfold dx k7;simp only [e,en,decide_true,decide_false,cond_true,cond_false];rw [cJ (a:=(b.length:Int)) (by omega) (by omega)]
  by_cases ha:a+i < b.length
  ·have e0:¬ ((a:Int)>=(b.length:Int) - (i:Int)):=by omega
   rw [LQ ha,cq (a:=(a:Int)) (by omega) (by omega),show (a:Int)+(i:Int)=((a+i:Nat):Int) by omega,b9,sX ha];have hc:=hb b[a+i] (zYW ha);obtain ⟨e1,e2⟩:=Rj (i:=i) (by omega) h3 hc.1 hc.2;simp only [e0,decide_false,cond_false,wk];unfold pc;rw [e1,iH (by omega) (by omega),bl (by omega),fi (by omega) (by omega),cq (a:=(a:Int)) (b:=(i:Int)) (by omega) (by omega),cq (a:=(a:Int)+(i:Int)) (by omega) (by omega),db (by omega)];simp only [wk,M.rd]
   by_cases hc1:b[a+i] < 128
   ·simp only [hc1,decide_true,cond_true,if_true];have hv:((v+(b[a+i] % 128).toNat*2 ^ (7*i):Nat):Int)=(v:Int)+b[a+i]*2 ^ (7*i):=by
     have:((v+(b[a+i] % 128).toNat*2 ^ (7*i):Nat):Int)=(v:Int)+(((b[a+i] % 128).toNat:Nat):Int)*2 ^ (7*i):=by simp
     rw [this,show (((b[a+i] % 128).toNat:Nat):Int)=b[a+i] by omega]
    rw [hv];have hgt:∀ x:Int,decide (x > 1000000000000)=!decide (x<=1000000000000):=λx=>by rw [<- decide_not,decide_eq_decide]; omega
    have hs:((a:Int)+(i:Int)+1)=((a+i+1:Nat):Int):=by omega
    rw [hs]
    by_cases hc2:b[a+i]=0
    ·have e5:¬ (0 < b[a+i]):=by omega
     have e6:(b[a+i] == 0)=true:=by simpa using hc2
     by_cases h0:i=0
     ·subst h0;have hv0:v=0:=by simpa using h3
      subst hv0;simp only [e6,cond_true,hgt,P7];rw [hc2];rfl
     ·have e4:(i == 0)=false:=by simpa using h0
      have e7:(i:Int) > 0:=by omega
      simp only [e4,e5,e6,e7,decide_true,decide_false,cond_true,Bool.or_false,zQk,if_false,P7]
    ·have e5:0 < b[a+i]:=by omega
     have e6:(b[a+i] == 0)=false:=by simpa using hc2
     simp only [e5,e6,decide_true,cond_false,Bool.or_true,if_true,hgt,P7]
     by_cases hq:(v:Int)+b[a+i]*2 ^ (7*i)<=1000000000000
     ·simp [hq]
     ·simp [hq]
   ·simp only [hc1,decide_false,cond_false,if_false];rw [ih (i+1) k _ (by omega) (by omega) e2,show (i+1 == 0)=false by rfl,U5 _ v i (a+i) (b[a+i] % 128).toNat _ (by omega)];rfl
  ·have e0:(a:Int)>=(b.length:Int) - (i:Int):=by omega
   simp only [e0,decide_true,cond_true];rw [zXv (by omega)]; rfl
theorem jv{u:Nat}(hu:1099511627776<=u){b:List Int}(hb:aq b)(hl:b.length<=1048576)(a:Int):fY u b a=some (bf b a):=by
 unfold fY bf qN
 by_cases ha:0<=a
 ·obtain ⟨a,rfl⟩:=zQK ha;have h:=MN u hb hl a 6 0 u 0 (by omega) (by omega) (by simp);rw [zXY] at h;rw [show dx u u b (a:Int) 0 0=_ from h,if_pos ha,zQQ,show (0 == 0:Bool)=true by rfl];unfold P7
  cases M.rd 6 true (b.drop a) with
  | none=>rfl
  | some q=>obtain ⟨w,j⟩:=q; simp
 ·obtain ⟨u,rfl⟩:∃ j,u=j+1:=⟨u - 1,by omega⟩;rw [if_neg ha];unfold dx k7;have e:a < 0:=by omega
  simp [e]
theorem Dw{α:Type}(b:List α)(a j:Nat):b.take (a+j)=b.take a++(b.drop a).take j:=List.take_add
theorem F7{n:Nat}{b:List Int}{a v e:Int}(hb:aq b)(h:qN n b a=some (v,e))(hn:n<=10):0<=a/\a < e/\e<=b.length/\0<=v/\v < 128 ^ n/\b.take e.toNat=b.take a.toNat++cO 9 v:=by
 unfold qN at h
 by_cases ha:0<=a
 ·rw [if_pos ha] at h
  cases hr:M.rd n true (b.drop a.toNat) with
  | none=>rw [hr] at h; cases h
  | some q =>
   obtain ⟨w,j⟩:=q;rw [hr] at h;simp only [Option.some.injEq,Prod.mk.injEq] at h;obtain ⟨rfl,rfl⟩:=h;obtain ⟨h1,h2,h3,h4,h5,h6⟩:=V7 n true _ w j (λx hx=>hb x (zWw hx)) hr;rw [zYy] at h3;refine ⟨ha,by omega,by omega,h1,h5,?_⟩;rw [show (a+(j:Int)).toNat=a.toNat+j by omega,Dw,h6 9 (by omega)]
 ·rw [if_neg ha] at h; cases h
theorem cD{b:List Int}{a v e:Int}(hb:aq b)(h:bf b a=(v,e,true)):0<=a/\a < e/\e<=b.length/\0<=v/\v<=1000000000000/\b.take e.toNat=b.take a.toNat++cO 9 v:=by
 unfold bf at h
 cases hr:qN 6 b a with
 | none=>rw [hr] at h; cases h
 | some q =>
  obtain ⟨w,e'⟩:=q;rw [hr] at h;dsimp only at h
  split at h
  ·simp only [Prod.mk.injEq,and_true] at h;obtain ⟨rfl,rfl⟩:=h;have:=F7 hb hr (by omega);exact ⟨this.1,this.2.1,this.2.2.1,this.2.2.2.1,by assumption,this.2.2.2.2.2⟩
  ·cases h
theorem bY(b:List Int)(a:Int):(∃ v e,bf b a=(v,e,true))\/bf b a=(0,0,false):=by
 unfold bf
 split
 ·split
  ·exact .inl ⟨_,_,rfl⟩
  ·exact .inr rfl
 ·exact .inr rfl
theorem LS{p:List Int}{n:Int}(t:List Int)(h0:0<=n)(h1:n<=1000000000000):bf (p++cO 9 n++t) p.length=(n,((p.length+(cO 9 n).length:Nat):Int),true):=by
 unfold bf qN;rw [if_pos (by omega),zQQ,zQz,List.drop_left,V8 6 9 true n t (by omega) h0 (λh=>by cases h) (by rw [show (128:Int) ^ 6=4398046511104 by decide]; omega) (by omega)];simp [h1]
def qy(m:ah):Bool:=(m.aO == 0) && (m.aC == 0) && (m.aY == 0) && (m.aJ.length == 0)
theorem F8(u:Nat)(m:ah):lf u m=some (qy m):=by
 unfold lf qy;rw [show ((m.aJ.length:Int) == 0)=(m.aJ.length == 0) from Ke _ 0]
 cases m.aO == 0 <;> cases m.aC == 0 <;> cases m.aY == 0 <;> rfl
theorem Ov(m:ah):wX m ⟨0,0,0,[]⟩=qy m:=by
 unfold wX qy M.same
 cases h:m.aJ with
 | nil=>simp [Ex]
 | cons s l=>simp
def kh(m:dY):Bool :=
 if m.bt=1 then (m.aO == 0) && (m.aD.aO != 0) && cS m.aD && ((m.bQ == 0) && (m.bV == 0) && (m.fI == 0) && (m.fB.length == 0))
 else if m.bt=2 then ar m.aO 0 1000000 && qy m.aD && cG m.bQ && cG m.bV && (m.fI == 0) && (m.fB.length == 0)
 else if m.bt=3 then ar m.aO 1 1000000 && qy m.aD && (m.bQ == 0) && (m.bV == 0) && ar m.fI 0 39 && ar m.fB.length 1 6
 else if m.bt=4 then ar m.aO 0 1000000 && qy m.aD && ((m.bQ == 0) && (m.bV == 0) && (m.fI == 0) && (m.fB.length == 0))
 else false
theorem zj{u:Nat}(hu:1099511627776<=u){m:dY}(hs:m.aD.aJ.length<=1048576):uw u m=some (kh m):=by
 unfold uw kh iP xq wI;simp only [zf hu m.aD (show m.aD.aJ.length<=1073741824 by omega),F8,MJ,d9,wk];rw [show ((m.fB.length:Int) == 0)=(m.fB.length == 0) from Ke _ 0];generalize cS m.aD=x1;generalize qy m.aD=x2;generalize cG m.bQ=x3;generalize cG m.bV=x4;generalize ar m.aO 0 1000000=x5;generalize ar m.aO 1 1000000=x6;generalize ar m.fI 0 39=x7;generalize ar m.fB.length 1 6=x8;generalize (m.fB.length == 0)=x9;generalize (m.aD.aO != 0)=x10;generalize (m.aO == 0)=x11;generalize (m.bQ == 0)=x12;generalize (m.bV == 0)=x13;generalize (m.fI == 0)=x14
 by_cases h1:m.bt=1
 ·simp only [h1,beq_self_eq_true,cond_true,if_true]
  cases x1 <;> cases x10 <;> cases x11 <;> cases x12 <;> cases x13 <;> cases x14 <;> cases x9 <;> rfl
 ·have e1:(m.bt == 1)=false:=by simpa using h1
  by_cases h2:m.bt=2
  ·simp only [h2,e1,beq_self_eq_true,cond_true,if_true]
   cases x5 <;> cases x2 <;> cases x3 <;> cases x4 <;> cases x14 <;> cases x9 <;> rfl
  ·have e2:(m.bt == 2)=false:=by simpa using h2
   by_cases h3:m.bt=3
   ·simp only [h3,beq_self_eq_true,cond_true,if_true]
    cases x6 <;> cases x2 <;> cases x12 <;> cases x13 <;> cases x7 <;> cases x8 <;> rfl
   ·have e3:(m.bt == 3)=false:=by simpa using h3
    by_cases h4:m.bt=4
    ·simp only [h4,beq_self_eq_true,cond_true,if_true]
     cases x5 <;> cases x2 <;> cases x12 <;> cases x13 <;> cases x14 <;> cases x9 <;> rfl
    ·have e4:(m.bt == 4)=false:=by simpa using h4
     simp only [e1,e2,e3,e4,h1,h2,h3,h4,cond_false,if_false]
theorem zk{u:Nat}(hu:1099511627776<=u){m:dY}(hs:m.aD.aJ.length<=1048576):ui u m=some (kh m):=by
 unfold ui kh om;simp only [Bi hu hs,Ov,gr hu m.aD (show m.aD.aJ.length<=1073741824 by omega),gZ,bL,wk];rw [show ((m.fB.length:Int) == 0)=(m.fB.length == 0) from Ke _ 0];generalize cS m.aD=x1;generalize qy m.aD=x2;generalize cG m.bQ=x3;generalize cG m.bV=x4;generalize ar m.aO 0 1000000=x5;generalize ar m.aO 1 1000000=x6;generalize ar m.fI 0 39=x7;generalize ar m.fB.length 1 6=x8;generalize (m.fB.length == 0)=x9;generalize (m.aD.aO != 0)=x10;generalize (m.aO == 0)=x11;generalize (m.bQ == 0)=x12;generalize (m.bV == 0)=x13;generalize (m.fI == 0)=x14
 by_cases h1:m.bt=1
 ·simp only [h1,beq_self_eq_true,cond_true,if_true]
  cases x1 <;> cases x10 <;> cases x11 <;> cases x12 <;> cases x13 <;> cases x14 <;> cases x9 <;> rfl
 ·have e1:(m.bt == 1)=false:=by simpa using h1
  by_cases h2:m.bt=2
  ·simp only [h2,e1,beq_self_eq_true,cond_true,if_true]
   cases x5 <;> cases x2 <;> cases x3 <;> cases x4 <;> cases x14 <;> cases x9 <;> cases x12 <;> cases x13 <;> rfl
  ·have e2:(m.bt == 2)=false:=by simpa using h2
   by_cases h3:m.bt=3
   ·simp only [h3,beq_self_eq_true,cond_true,if_true]
    cases x6 <;> cases x2 <;> cases x12 <;> cases x13 <;> cases x7 <;> cases x8 <;> cases x14 <;> cases x9 <;> rfl
   ·have e3:(m.bt == 3)=false:=by simpa using h3
    by_cases h4:m.bt=4
    ·simp only [h4,beq_self_eq_true,cond_true,if_true]
     cases x5 <;> cases x2 <;> cases x12 <;> cases x13 <;> cases x14 <;> cases x9 <;> rfl
    ·have e4:(m.bt == 4)=false:=by simpa using h4
     simp only [e1,e2,e3,e4,h1,h2,h3,h4,cond_false,if_false]
     cases x12 <;> cases x13 <;> cases x14 <;> rfl
def t3:ah×Int×Bool:=(⟨0,0,0,[]⟩,0,false)
def kO:Nat->List Int->Int->List b4->Option (List b4×Int)
 | 0,_,a,acc=>some (acc,a)
 | n+1,b,a,acc=>match qN 8 b a with
  | some (v,e)=>if (bW v).2 then kO n b e (acc++[ef (bW v).1]) else none
  | none=>none
def pT(g s l:Int):Option (List b4×Int)->ah×Int×Bool
 | some (ss,e)=>if cS ⟨g,s,l,ss⟩ then (⟨g,s,l,ss⟩,e,true) else t3
 | none=>t3
theorem MO{u:Nat}(hu:1099511627776<=u){b:List Int}(hb:aq b)(hl:b.length<=1048576)(g s l:Int)(n:Nat)(hn:n<=1000):∀ (m i k:Nat) (a:Int) (acc:List b4),i+m=n->m < k->acc.length+m<=1000->dA u k b a n i g s l acc=some (pT g s l (kO m b a acc)):=by
 intro m
 induction m with
 | zero =>
  intro i k a acc h1 h2 h3;obtain ⟨k,rfl⟩:∃ j,k=j+1:=⟨k - 1,by omega⟩;have e:¬ ((i:Int) < (n:Int)):=by omega
  unfold dA pz;simp only [e,decide_false,cond_false];rw [zf hu _ (show acc.length<=1073741824 by omega)];simp only [wk,kO,pT,t3]
  cases cS ⟨g,s,l,acc⟩ <;> rfl
 | succ m ih =>
  intro i k a acc h1 h2 h3;obtain ⟨k,rfl⟩:∃ j,k=j+1:=⟨k - 1,by omega⟩;have e:(i:Int) < (n:Int):=by omega
  obtain ⟨r,g1,g2⟩:=LR hu hb hl a 8 (by omega) (by omega);rw [show ((8:Nat):Int)=8 by rfl] at g1;unfold dA lg;simp only [e,decide_true,cond_true,g1,wk,Bg hu,kO]
  cases hr:qN 8 b a with
  | none=>rw [hr] at g2; rw [g2]; rfl
  | some q =>
   obtain ⟨v,e'⟩:=q;rw [hr] at g2;rw [g2];have hv:=rC v;dsimp only
   cases h:(bW v).2 with
   | false=>rfl
   | true =>
    simp only [zQW,cond_false,if_true];rw [MK hu hv.1 (by omega)];simp only [wk];rw [bl (by simp; omega),db (by omega)];exact ih (i+1) k e' _ (by omega) (by omega) (by simp; omega)
theorem Rl(size len:Int):∀ (l:List b4) (i:Nat),kN size len l i=true->∀ s∈l,(bW s.fS).2=true:=by
 intro l
 induction l with
 | nil=>intro i _ s hs; simp at hs
 | cons x l ih =>
  intro i h s hs;simp only [kN,rD,sk] at h;rcases List.mem_cons.1 hs with rfl | hs
  ·exact h.1.1.1
  ·exact ih (i+1) h.2 s hs
theorem NB{g s l:Int}{ss:List b4}(h:∃ x∈ss,(bW x.fS).2=false):cS ⟨g,s,l,ss⟩=false:=by
 obtain ⟨x,hx,hb⟩:=h
 cases hm:cS ⟨g,s,l,ss⟩ with
 | false=>rfl
 | true =>
  unfold cS at hm;dsimp only at hm
  split at hm
  ·simp only [sk,beq_iff_eq,List.length_eq_zero_iff] at hm;rw [hm.2] at hx; simp at hx
  ·simp only [sk] at hm;have:=Rl _ _ _ _ hm.2 x hx;rw [this] at hb; cases hb
theorem JD{u:Nat}(hu:1099511627776<=u){b:List Int}(hb:aq b)(hl:b.length<=1048576)(r1 r2 r3:Int×Int×Bool):∀ (m i k:Nat) (a:Int) (acc:List b4),i+m=(ch r2.1 r3.1).toNat\/(m=0/\(ch r2.1 r3.1).toNat<=i)->m < k->acc.length+m<=1000->0<=a->(∃ x∈acc,(bW x.fS).2=false)->cU u k b r1 r2 r3 a i acc=some t3:=by
 have hk:=eS r2.1 r3.1;intro m
 induction m with
 | zero =>
  intro i k a acc h1 h2 h3 h4 h5;obtain ⟨k,rfl⟩:∃ j,k=j+1:=⟨k - 1,by omega⟩;have e:¬ ((i:Int) < ch r2.1 r3.1):=by omega
  unfold cU hH k8;simp only [gq,wk,e,decide_false,cond_false];rw [gr hu _ (show acc.length<=1073741824 by omega),NB h5]; rfl
 | succ m ih =>
  intro i k a acc h1 h2 h3 h4 h5;obtain ⟨k,rfl⟩:∃ j,k=j+1:=⟨k - 1,by omega⟩;have e:(i:Int) < ch r2.1 r3.1:=by omega
  obtain ⟨r,g1,g2⟩:=Iq hu hb hl h4;unfold cU hH k8;simp only [gq,wk,e,decide_true,cond_true,g1,vX hu]
  by_cases hg:r1.1 > 0
  ·simp only [hg,decide_true,cond_true]
   cases hr:qN 8 b a with
   | none=>rw [hr] at g2; rw [g2]; rfl
   | some q =>
    obtain ⟨v,e'⟩:=q;rw [hr] at g2;rw [g2];have hv:=rC v;have hp:=F7 hb hr (by omega);dsimp only;simp only [zQW,cond_false];rw [mu hu hv.1 (by omega)];simp only [wk];rw [bl (by simp; omega),db (by omega)];obtain ⟨x,hx,hbx⟩:=h5;exact ih (i+1) k e' _ (by omega) (by omega) (by simp; omega) (by omega) ⟨x,by simp [hx],hbx⟩
  ·simp only [hg,decide_false,cond_false];rw [gr hu _ (show acc.length<=1073741824 by omega),NB h5]; rfl
theorem MP{u:Nat}(hu:1099511627776<=u){b:List Int}(hb:aq b)(hl:b.length<=1048576){r1 r2 r3:Int×Int×Bool}(hg:0 < r1.1):∀ (m i k:Nat) (a:Int) (acc:List b4),i+m=(ch r2.1 r3.1).toNat->m < k->acc.length+m<=1000->0<=a->cU u k b r1 r2 r3 a i acc=some (pT r1.1 r2.1 r3.1 (kO m b a acc)):=by
 have hk:=eS r2.1 r3.1;intro m
 induction m with
 | zero =>
  intro i k a acc h1 h2 h3 h4;obtain ⟨k,rfl⟩:∃ j,k=j+1:=⟨k - 1,by omega⟩;have e:¬ ((i:Int) < ch r2.1 r3.1):=by omega
  unfold cU hH k8;simp only [gq,wk,e,decide_false,cond_false];rw [gr hu _ (show acc.length<=1073741824 by omega)];simp only [wk,kO,pT,t3]
  cases cS ⟨r1.1,r2.1,r3.1,acc⟩ <;> rfl
 | succ m ih =>
  intro i k a acc h1 h2 h3 h4;obtain ⟨k,rfl⟩:∃ j,k=j+1:=⟨k - 1,by omega⟩;have e:(i:Int) < ch r2.1 r3.1:=by omega
  have hg':r1.1 > 0:=hg;obtain ⟨r,g1,g2⟩:=Iq hu hb hl h4;unfold cU hH;simp only [gq,wk,e,hg',decide_true,cond_true,g1,vX hu,kO]
  cases hr:qN 8 b a with
  | none=>rw [hr] at g2; rw [g2]; rfl
  | some q =>
   obtain ⟨v,e'⟩:=q;rw [hr] at g2;rw [g2];have hv:=rC v;have hp:=F7 hb hr (by omega);dsimp only;simp only [zQW,cond_false];rw [mu hu hv.1 (by omega)];simp only [wk];rw [bl (by simp; omega),db (by omega)];simp only [wk]
   cases h:(bW v).2 with
   | false =>
    simp only [zQk,if_false];exact JD hu hb hl r1 r2 r3 m (i+1) k e' _ (by omega) (by omega) (by simp; omega) (by omega) ⟨_,List.mem_append_right _ (List.mem_singleton.2 rfl),h⟩
   | true =>
    simp only [if_true];have hs:ef (bW v).1=⟨(ef (bW v).1).fW,v⟩:=by
     have:=ze (s:=v) (b:=(bW v).1) (by rw [<- h]);rw [this]
    rw [<- hs];exact ih (i+1) k e' _ (by omega) (by omega) (by simp; omega) (by omega)
theorem HQ{u:Nat}(hu:1099511627776<=u)(b:List Int){r1 r2 r3:Int×Int×Bool}(hg:r1.1=0)(k:Nat)(a:Int):cU u (k+1) b r1 r2 r3 a 0 []=some (pT r1.1 r2.1 r3.1 (some ([],a))):=by
 have hg':¬ r1.1 > 0:=by omega
 unfold cU hH k8;simp only [gq,wk,hg',decide_false];have:∀ c:Bool,(bif c then (g8 u ⟨r1.1,r2.1,r3.1,[]⟩).bind λr22=>bif !r22 then some ((⟨0,0,0,[]⟩,0,false):ah×Int×Bool) else some (⟨r1.1,r2.1,r3.1,[]⟩,a,true) else (g8 u ⟨r1.1,r2.1,r3.1,[]⟩).bind λr22=>bif !r22 then some ((⟨0,0,0,[]⟩,0,false):ah×Int×Bool) else some (⟨r1.1,r2.1,r3.1,[]⟩,a,true))=some (pT r1.1 r2.1 r3.1 (some ([],a))):=by
  intro c;rw [gr hu _ (show ([]:List b4).length<=1073741824 by simp)];simp only [wk,pT,t3]
  cases c <;> cases cS ⟨r1.1,r2.1,r3.1,[]⟩ <;> rfl
 exact this _
def uL:Nat->List Int->Int->List Int->List Int×Int×Bool
 | 0,_,a,acc=>(acc,a,true)
 | n+1,b,a,acc=>if (bf b a).2.2 then uL n b (bf b a).2.1 (acc++[(bf b a).1]) else ([],0,false)
theorem Rm{u:Nat}(hu:1099511627776<=u){b:List Int}(hb:aq b)(hl:b.length<=1048576)(n:Nat)(hn:n<=1000):∀ (m i k:Nat) (a:Int) (acc:List Int),i+m=n->m < k->acc.length+m<=1000->d8 u k b a acc n i=some (uL m b a acc):=by
 intro m
 induction m with
 | zero =>
  intro i k a acc h1 h2 h3;obtain ⟨k,rfl⟩:∃ j,k=j+1:=⟨k - 1,by omega⟩;have e:¬ ((i:Int) < (n:Int)):=by omega
  unfold d8 mW;simp only [e,decide_false,cond_false]; rfl
 | succ m ih =>
  intro i k a acc h1 h2 h3;obtain ⟨k,rfl⟩:∃ j,k=j+1:=⟨k - 1,by omega⟩;have e:(i:Int) < (n:Int):=by omega
  unfold d8;simp only [e,decide_true,cond_true,tZ hu hb hl,wk,uL]
  cases h:(bf b a).2.2 with
  | false=>rfl
  | true =>
   simp only [zQW,cond_false,if_true];rw [bl (by simp; omega),db (by omega)];exact ih (i+1) k _ _ (by omega) (by omega) (by simp; omega)
theorem Ci{u:Nat}(hu:1099511627776<=u){b:List Int}(hb:aq b)(hl:b.length<=1048576)(a:Int)(n:Nat)(hn:n<=1000):jc u b a n=some (uL n b a []):=by
 unfold jc;exact Rm hu hb hl n hn n 0 u a [] (by omega) (by omega) (by simp; omega)
def jw(b:List Int)(a:Int):ah×Int×Bool :=
 let g1:=bf b a
 let g2:=bf b g1.2.1
 let g3:=bf b g2.2.1
 if g1.2.2 && g2.2.2 && g3.2.2 then pT g1.1 g2.1 g3.1 (kO (ch g2.1 g3.1).toNat b g3.2.1 []) else t3
theorem LT{u:Nat}(hu:1099511627776<=u){b:List Int}(hb:aq b)(hl:b.length<=1048576)(a:Int):pA u b a=some (jw b a):=by
 unfold pA jw;rw [show (3:Int)=((3:Nat):Int) by rfl,Ci hu hb hl a 3 (by omega)];simp only [wk,uL]
 cases h1:(bf b a).2.2 with
 | false=>rfl
 | true =>
  cases h2:(bf b (bf b a).2.1).2.2 with
  | false=>rfl
  | true =>
   cases h3:(bf b (bf b (bf b a).2.1).2.1).2.2 with
   | false=>rfl
   | true =>
    have hk:=eS (bf b (bf b a).2.1).1 (bf b (bf b (bf b a).2.1).2.1).1;simp only [if_true,zQW,cond_false,zXH,zQy,zQz,zXk];rw [show (0:Int)=((0:Nat):Int) by rfl,show (1:Int)=((1:Nat):Int) by rfl,show (2:Int)=((2:Nat):Int) by rfl];simp only [b9,zWW,List.getElem?_cons_succ,wk,xL];generalize hn:(ch (bf b (bf b a).2.1).1 (bf b (bf b (bf b a).2.1).2.1).1)=n at hk;obtain ⟨n,rfl⟩:=zQK hk.1;rw [zQQ];exact MO hu hb hl _ _ _ n (by omega) n 0 u _ [] (by omega) (by omega) (by simp; omega)
theorem Ir{s l:Int}{ss:List b4}{e:Int}(h:ch s l≠0):pT 0 s l (some (ss,e))=t3:=by
 unfold pT cS;dsimp only;have hz:¬ (s=0):=by
  intro h0; subst h0
  apply h
  unfold ch fk ar;simp
 simp [hz]
theorem LU{u:Nat}(hu:1099511627776<=u){b:List Int}(hb:aq b)(hl:b.length<=1048576)(a:Int):pd u b a=some (jw b a):=by
 unfold pd jw mG;simp only [jv hu hb hl,wk];rcases bY b a with ⟨v1,e1,h1⟩ | h1
 ·rw [h1];rcases bY b e1 with ⟨v2,e2,h2⟩ | h2
  ·dsimp only;rw [h2];rcases bY b e2 with ⟨v3,e3,h3⟩ | h3
   ·dsimp only;rw [h3];have p1:=cD hb h1;have p3:=cD hb h3;have hk:=eS v2 v3;simp only [zQW,cond_false,zXH,if_true]
    by_cases hg:0 < v1
    ·exact MP hu hb hl (r1:=(v1,e1,true)) (r2:=(v2,e2,true)) (r3:=(v3,e3,true)) hg (ch v2 v3).toNat 0 u e3 [] (by simp) (by omega) (by simp; omega) (by omega)
    ·have h0:v1=0:=by omega
     subst h0;obtain ⟨u',rfl⟩:∃ j,u=j+1:=⟨u - 1,by omega⟩;rw [HQ (r1:=(0,e1,true)) (r2:=(v2,e2,true)) (r3:=(v3,e3,true)) hu b rfl u' e3];dsimp only
     by_cases hn:ch v2 v3=0
     ·rw [hn]; rfl
     ·rw [Ir hn]
      cases hs:kO (ch v2 v3).toNat b e3 [] with
      | none=>rfl
      | some q=>obtain ⟨ss,e⟩:=q; rw [Ir hn]
   ·dsimp only;rw [h3]; rfl
  ·dsimp only;rw [h2]; simp;rfl
 ·rw [h1]; simp;rfl
theorem LV(xs:List Int):(strOfNums xs).toList=xs.map λn=>UInt8.ofNat n.toNat:=by
 rw [ByteArray.toList_eq,strOfNums_data]
theorem V9{a b:Int}(h1:0<=a)(h2:a<=255)(h3:0<=b)(h4:b<=255)(h:UInt8.ofNat a.toNat=UInt8.ofNat b.toNat):a=b:=by
 have:=congrArg UInt8.toNat h;simp only [UInt8.toNat_ofNat'] at this;omega
theorem F9{a b:List Int}(ha:aq a)(hb:aq b):pR a b=decide (a=b):=by
 unfold pR;rw [zYq,beq_iff_eq,decide_eq_true_eq,LV,LV];constructor
 ·intro h
  revert b
  induction a with
  | nil=>intro b _ h; cases b with
   | nil=>rfl
   | cons y b=>simp at h
  | cons x a ih =>
   intro b hb h
   cases b with
   | nil=>simp at h
   | cons y b =>
    simp only [zWg,List.cons.injEq] at h;have hx:=ha x (by simp);have hy:=hb y (by simp);rw [V9 hx.1 hx.2 hy.1 hy.2 h.1,ih (λz hz=>ha z (by simp [hz])) (λz hz=>hb z (by simp [hz])) h.2]
 ·intro h; rw [h]
def oH(b:List Int)(a:Int):List Int×Int×Bool :=
 let g:=bf b a
 if g.2.2 && decide (g.1<=6) && decide (g.1<=b.length - g.2.1) then (M.win b g.2.1.toNat g.1.toNat,g.2.1+g.1,true) else ([],0,false)
theorem JE{u:Nat}(hu:1099511627776<=u){b:List Int}(hb:aq b)(hl:b.length<=1048576)(a:Int):nD u b a 6=some (oH b a):=by
 unfold nD oH n4;simp only [tZ hu hb hl,wk];rcases bY b a with ⟨v,e,h⟩ | h
 ·rw [h];have p:=cD hb h;dsimp only
  by_cases h6:v<=6
  ·have h7:¬ v > 6:=by omega
   simp only [h6,h7,decide_true,decide_false,zQW,cond_false,zWG];obtain ⟨v,rfl⟩:=zQK p.2.2.2.1;obtain ⟨e,rfl⟩:=zQK (show 0<=e by omega)
   by_cases hv:(v:Int)<=(b.length:Int) - (e:Int)
   ·rw [ML u (show e+v<=b.length by omega) (by omega)];simp only [hv,decide_true,if_true,wk,zQW,cond_false,zQQ];rw [cq (by omega) (by omega)]
   ·simp only [hv,decide_false,zQk,if_false];unfold pB oC;rw [cJ (by omega) (by omega),d9,d9,show ar (e:Int) 0 (b.length:Int)=true by simp [ar]; omega,show ar (v:Int) 0 ((b.length:Int) - (e:Int))=false by simp [ar]; omega];rfl
  ·have h7:v > 6:=by omega
   simp [h6,h7]
 ·rw [h]; simp
theorem JF{u:Nat}(hu:1099511627776<=u){b:List Int}(hb:aq b)(hl:b.length<=1048576)(a:Int):nu u b a 6=some (oH b a):=by
 unfold nu oH lM;simp only [jv hu hb hl,wk];rcases bY b a with ⟨v,e,h⟩ | h
 ·rw [h];have p:=cD hb h;dsimp only
  by_cases h6:v<=6
  ·have h7:¬ v > 6:=by omega
   simp only [h6,h7,decide_true,decide_false,zQW,cond_false,zWG];obtain ⟨v,rfl⟩:=zQK p.2.2.2.1;obtain ⟨e,rfl⟩:=zQK (show 0<=e by omega);rw [cJ (by omega) (by omega)]
   by_cases hv:(v:Int)<=(b.length:Int) - (e:Int)
   ·have hv':¬ ((v:Int) > (b.length:Int) - (e:Int)):=by omega
    simp only [hv,hv',decide_true,decide_false,cond_false,if_true];rw [pQ (by omega),gN (by omega) (by omega),bl (by simp; omega)];simp only [wk,zQQ,zQy];rw [show ((e+v:Nat):Int)=(e:Int)+(v:Int) by omega]; rfl
   ·have hv':(v:Int) > (b.length:Int) - (e:Int):=by omega
    simp [hv,hv']
  ·have h7:v > 6:=by omega
   simp [h6,h7]
 ·rw [h]; simp
theorem P8{b p:List Int}{a e:Int}(hb:aq b)(h:oH b a=(p,e,true)):0<=a/\a < e/\e<=b.length/\aq p/\p.length<=6/\b.take e.toNat=(b.take a.toNat++cO 9 p.length)++p:=by
 unfold oH at h;rcases bY b a with ⟨v,e',g⟩ | g
 ·rw [g] at h;have q:=cD hb g;dsimp only at h
  split at h
  ·rename_i hc;simp only [zWG,sk,decide_eq_true_eq] at hc;simp only [Prod.mk.injEq,and_true] at h;obtain ⟨rfl,rfl⟩:=h;obtain ⟨v,rfl⟩:=zQK q.2.2.2.1;obtain ⟨e',rfl⟩:=zQK (show 0<=e' by omega);simp only [zQQ] at q ⊢;have hw:(M.win b e' v).length=v:=by unfold M.win; rw [zYy,zQh]; omega
   refine ⟨q.1,by omega,by omega,pP hb _ _,by omega,?_⟩;rw [show ((e':Int)+(v:Int)).toNat=e'+v by omega,Dw,q.2.2.2.2.2,hw,LD]
  ·cases h
 ·rw [g] at h; cases h
def oc(c:List Int)(s:Int):List Int:=aU (aU c (eH .i64 s 1048575)) (lB .i64 s 20)
def ek(m:dY):List Int :=
 if m.bt=1 then pO (aU [] m.bt) m.aD
 else if m.bt=2 then oc (oc (aU (aU [] m.bt) m.aO) m.bQ) m.bV
 else if m.bt=3 then aU (aU (aU (aU [] m.bt) m.aO) m.fI) m.fB.length++m.fB
 else if m.bt=4 then aU (aU [] m.bt) m.aO
 else aU [] m.bt
def fm(m:dY):List Int:=if kh m then aU (ek m) (ct (ek m)) else []
structure M.MsgWf (m:dY):Prop where
 sums:m.aD.aJ.length<=1048576
 wf:oY m.aD
 b:aq m.fB
 len:m.fB.length<=1048576
theorem gD{b:List Int}(h:aq b)(n:Int):aq (aU b n):=by
 unfold aU
 split
 ·exact yL h (Nw 9 n)
 ·exact h
theorem MQ:∀ (l:List b4) (b:List Int),aq b->aq (lS b l):=by
 intro l
 induction l with
 | nil=>intro b h; exact h
 | cons s l ih=>intro b h; exact ih _ (yL h (Nw 9 s.fS))
theorem Ow{b:List Int}(h:aq b)(m:ah):aq (pO b m):=by
 unfold pO
 split
 ·exact MQ _ _ (gD (gD (gD h _) _) _)
 ·exact h
theorem Dx(b:List Int)(m:ah):(pO b m).length<=b.length+430:=by
 unfold pO
 split
 ·rename_i h;have h0:=uK h;have h1:=bA b m.aO;have h2:=bA (aU b m.aO) m.aC;have h3:=bA (aU (aU b m.aO) m.aC) m.aY;have h4:=LH m.aJ (aU (aU (aU b m.aO) m.aC) m.aY);omega
 ·omega
theorem iV:aq []:=λx hx=>by simp at hx
theorem Ez{m:dY}(hm:M.MsgWf m):aq (ek m)/\(ek m).length<=1049600:=by
 have k:=bA [] m.bt;have kb:=gD iV m.bt;have g:=bA (aU [] m.bt) m.aO;have gb:=gD kb m.aO;simp only [zXW] at k;unfold ek oc
 split
 ·exact ⟨Ow kb _,by have:=Dx (aU [] m.bt) m.aD; omega⟩
 ·split
  ·refine ⟨gD (gD (gD (gD gb _) _) _) _,?_⟩;have h1:=bA (aU (aU [] m.bt) m.aO) (eH .i64 m.bQ 1048575);have h2:=bA (aU (aU (aU [] m.bt) m.aO) (eH .i64 m.bQ 1048575)) (lB .i64 m.bQ 20);have h3:=bA (aU (aU (aU (aU [] m.bt) m.aO) (eH .i64 m.bQ 1048575)) (lB .i64 m.bQ 20)) (eH .i64 m.bV 1048575);have h4:=bA (aU (aU (aU (aU (aU [] m.bt) m.aO) (eH .i64 m.bQ 1048575)) (lB .i64 m.bQ 20)) (eH .i64 m.bV 1048575)) (lB .i64 m.bV 20);omega
  ·split
   ·refine ⟨yL (gD (gD gb _) _) hm.b,?_⟩;have h1:=bA (aU (aU [] m.bt) m.aO) m.fI;have h2:=bA (aU (aU (aU [] m.bt) m.aO) m.fI) m.fB.length;have h3:=hm.len;rw [zQJ]; omega
   ·split
    ·exact ⟨gb,by omega⟩
    ·exact ⟨kb,by omega⟩
theorem Cj{u:Nat}(hu:1099511627776<=u){m:dY}(hm:M.MsgWf m):vt u m=some (fm m):=by
 have k:=bA [] m.bt;have g:=bA (aU [] m.bt) m.aO;simp only [zXW] at k;have hl:=hm.len;obtain ⟨hb,hbl⟩:=Ez hm;unfold vt fm;rw [zj hu hm.sums];simp only [wk]
 cases hok:kh m with
 | false=>rfl
 | true =>
  simp only [zQW,cond_false,if_true];rw [dD hu (by simp)];simp only [wk];have tail:jp u (ek m)=some (aU (ek m) (ct (ek m))):=by
   unfold jp;rw [xM hu hb (by omega)];simp only [wk];rw [dD hu (by omega)]; rfl
  rw [<- tail]
  clear tail hbl hb
  unfold ek oc
  by_cases h1:m.bt=1
  ·simp only [h1,beq_self_eq_true,cond_true,if_true];rw [h1] at k;rw [LB hu (by omega) (by have:=hm.sums; omega) hm.wf]; rfl
  ·have e1:(m.bt == 1)=false:=by simpa using h1
   by_cases h2:m.bt=2
   ·rw [h2] at k g;have h3:=bA (aU (aU [] 2) m.aO) (eH .i64 m.bQ 1048575);have h4:=bA (aU (aU (aU [] 2) m.aO) (eH .i64 m.bQ 1048575)) (lB .i64 m.bQ 20);have h5:=bA (aU (aU (aU (aU [] 2) m.aO) (eH .i64 m.bQ 1048575)) (lB .i64 m.bQ 20)) (eH .i64 m.bV 1048575);simp only [h2,beq_self_eq_true,cond_true,if_true,vq];rw [dD hu (by omega)]; simp only [wk];rw [dD hu (by omega)]; simp only [wk];rw [dD hu (by omega)]; simp only [wk];rw [dD hu (by omega)]; simp only [wk];rw [dD hu (by omega)]; rfl
   ·have e2:(m.bt == 2)=false:=by simpa using h2
    by_cases h3:m.bt=3
    ·rw [h3] at k g;have h4:=bA (aU (aU [] 3) m.aO) m.fI;have h5:=bA (aU (aU (aU [] 3) m.aO) m.fI) m.fB.length;simp only [h3,beq_self_eq_true,cond_true,if_true,wJ];rw [dD hu (by omega)]; simp only [wk];rw [dD hu (by omega)]; simp only [wk];rw [dD hu (by omega)]; simp only [wk];rw [bl (by omega)]; rfl
    ·have e3:(m.bt == 3)=false:=by simpa using h3
     by_cases h4:m.bt=4
     ·rw [h4] at k;simp only [h4,beq_self_eq_true,cond_true,if_true];rw [dD hu (by omega)]; rfl
     ·have e4:(m.bt == 4)=false:=by simpa using h4
      simp only [e1,e2,e3,e4,h1,h2,h3,h4,cond_false,if_false]
theorem fb{c:List Int}{n:Int}(h0:0<=n)(h1:n<=1000000000000):aU c n=c++cO 9 n:=by
 unfold aU;rw [if_pos (by simp [ar]; omega)]
theorem P9{b:List Int}(hb:aq b):∀ (n:Nat) (a:Int) (acc l:List b4) (e:Int),kO n b a acc=some (l,e)->0<=a->a<=b.length->∃ l',l=acc++l'/\a<=e/\e<=b.length/\b.take e.toNat=lS (b.take a.toNat) l'/\∀ s∈l',s.fS<=9223372036854775807:=by
 intro n
 induction n with
 | zero =>
  intro a acc l e h h0 h1;simp only [kO,Option.some.injEq,Prod.mk.injEq] at h;obtain ⟨rfl,rfl⟩:=h;exact ⟨[],by simp,by omega,h1,rfl,by simp⟩
 | succ n ih =>
  intro a acc l e h h0 h1;unfold kO at h
  cases hr:qN 8 b a with
  | none=>rw [hr] at h; cases h
  | some q =>
   obtain ⟨v,e1⟩:=q;rw [hr] at h;dsimp only at h;have p:=F7 hb hr (by omega)
   split at h
   ·rename_i hv;obtain ⟨l',g1,g2,g3,g4,g5⟩:=ih e1 _ l e h (by omega) p.2.2.1;have hs:(ef (bW v).1).fS=v:=by
     have:=ze (s:=v) (b:=(bW v).1) (by rw [<- hv]);rw [this]
    have hp:(128:Int) ^ 8=72057594037927936:=by decide
    refine ⟨ef (bW v).1 :: l',by rw [g1]; simp,by omega,g3,?_,?_⟩
    ·rw [g4,p.2.2.2.2.2,lS,hs]
    ·intro s hs';rcases List.mem_cons.1 hs' with rfl | hs'
     ·rw [hs]; omega
     ·exact g5 s hs'
   ·cases h
theorem Rn{b:List Int}(hb:aq b){a e:Int}{m:ah}(h:jw b a=(m,e,true)):0<=a/\a<=e/\e<=b.length/\cS m=true/\oY m/\b.take e.toNat=pO (b.take a.toNat) m:=by
 unfold jw at h;rcases bY b a with ⟨v1,e1,h1⟩ | h1
 ·rw [h1] at h;dsimp only at h;rcases bY b e1 with ⟨v2,e2,h2⟩ | h2
  ·rw [h2] at h;dsimp only at h;rcases bY b e2 with ⟨v3,e3,h3⟩ | h3
   ·rw [h3] at h;simp only [zXH,if_true] at h;have p1:=cD hb h1;have p2:=cD hb h2;have p3:=cD hb h3
    cases hs:kO (ch v2 v3).toNat b e3 [] with
    | none=>rw [hs] at h; cases h
    | some q =>
     obtain ⟨ss,e'⟩:=q;rw [hs] at h;unfold pT at h;dsimp only at h
     split at h
     ·rename_i hm;simp only [Prod.mk.injEq,and_true] at h;obtain ⟨rfl,rfl⟩:=h;obtain ⟨l',g1,g2,g3,g4,g5⟩:=P9 hb _ e3 [] ss e' hs (by omega) p3.2.2.1;rw [zQy] at g1;subst g1;refine ⟨p1.1,by omega,g3,hm,g5,?_⟩;unfold pO;rw [if_pos hm,fb p1.2.2.2.1 p1.2.2.2.2.1,fb p2.2.2.2.1 p2.2.2.2.2.1,fb p3.2.2.2.1 p3.2.2.2.2.1,g4,p3.2.2.2.2.2,p2.2.2.2.2.2,p1.2.2.2.2.2]
     ·cases h
   ·rw [h3] at h; simp [t3] at h
  ·rw [h2] at h; simp [t3] at h
 ·rw [h1] at h; simp [t3] at h
def nq(n:Int):Bool:=decide (n < 1048576)
def Db:ah:=⟨0,0,0,[]⟩
def vB(b:List Int)(a:Int):Option (dY×Int) :=
 let g0:=bf b a
 let g1:=bf b g0.2.1
 let g2:=bf b g1.2.1
 let g3:=bf b g2.2.1
 let g4:=bf b g3.2.1
 if g0.2.2 && ((g1.2.2 && nq g1.1) && ((g2.2.2 && nq g2.1) && ((g3.2.2 && nq g3.1) && (g4.2.2 && nq g4.1)))) then some (⟨2,g0.1,Db,g1.1+g2.1*1048576,g3.1+g4.1*1048576,0,[]⟩,g4.2.1) else none
def xP(b:List Int)(a:Int):Option (dY×Int) :=
 let g0:=bf b a
 let g1:=bf b g0.2.1
 let g2:=oH b g1.2.1
 if g0.2.2 && g1.2.2 && g2.2.2 then some (⟨3,g0.1,Db,0,0,g1.1,g2.1⟩,g2.2.1) else none
theorem uZ{b:List Int}(hb:aq b)(a:Int):0<=(bf b a).1:=by
 rcases bY b a with ⟨v,e,h⟩ | h
 ·rw [h]; exact (cD hb h).2.2.2.1
 ·rw [h]; exact Int.le_refl 0
theorem Ug{u:Nat}(hu:1099511627776<=u){b:List Int}(hb:aq b)(hl:b.length<=1048576)(k:Nat)(a:Int)(acc:List Int)(i:Nat)(hi:i < 4)(hacc:acc.length<=4)(p2:Int)(r2:Int×Int×Bool) :
  cr u (k+1) b a acc i p2 r2=if (bf b a).2.2 && nq (bf b a).1 then cr u k b (bf b a).2.1 (acc++[(bf b a).1]) ((i+1:Nat):Int) p2 r2 else some (⟨p2,r2.1,Db,0,0,0,[]⟩,0,false):=by
 have e:(i:Int) < 4:=by omega
 rw [cr];simp only [e,decide_true,cond_true,jv hu hb hl,wk];unfold jU nq;rw [bl (by simp; omega),db (by omega)]
 cases h:(bf b a).2.2 with
 | false=>rfl
 | true =>
  by_cases hq:(bf b a).1 < 1048576
  ·have hq':¬ (bf b a).1>=1048576:=by omega
   simp [hq,hq']
  ·have hq':(bf b a).1>=1048576:=by omega
   simp [hq,hq',Db]
theorem AP{x y:Int}(h1:0<=x)(h2:x < 1048576)(h3:0<=y)(h4:y < 1048576):aW .i64 x (gl .i64 y 20)=x+y*1048576/\qP .i64 x (gl .i64 y 20)=x+y*1048576/\eH .i64 (x+y*1048576) 1048575=x/\lB .i64 (x+y*1048576) 20=y:=by
 obtain ⟨a,rfl⟩:=zQK h1;obtain ⟨c,rfl⟩:=zQK h3;have hp:(2:Nat) ^ 20=1048576:=by decide
 have e:=LO (a:=c) (n:=20) (by omega) (by rw [hp]; omega);rw [hp] at e;rw [show ((20:Nat):Int)=20 by rfl] at e;rw [e];refine ⟨by rw [cq (by omega) (by omega)]; omega,?_,?_,?_⟩
 ·have h:=Uf (v:=a) (a:=c) (n:=20) (by rw [hp]; omega);rw [hp] at h;rw [F1 (by omega) (by omega),h]; omega
 ·rw [show (a:Int)+(c:Int)*1048576=((a+c*1048576:Nat):Int) by omega,show (1048575:Int)=((1048575:Nat):Int) by rfl,PY (by omega) (by omega),show (1048575:Nat)=2 ^ 20 - 1 by decide,zZY,hp]; omega
 ·rw [show (a:Int)+(c:Int)*1048576=((a+c*1048576:Nat):Int) by omega,show (20:Int)=((20:Nat):Int) by rfl,PZ (by omega),hp]; omega
theorem Ro{u:Nat}(hu:1099511627776<=u){b:List Int}(hb:aq b)(hl:b.length<=1048576)(a:Int):∃ r,eo u b a 2=some r/\(match vB b a with | some (m,e)=>r=(m,e,true) | none=>r.2.2=false):=by
 obtain ⟨u',hu'⟩:∃ j,u=j+5:=⟨u - 5,by omega⟩;unfold eo vB;rw [show ((2:Int) == 1)=false by rfl,show ((2:Int) == 2)=true by rfl];simp only [cond_false,cond_true,jv hu hb hl,wk]
 cases h0:(bf b a).2.2 with
 | false=>exact ⟨_,rfl,rfl⟩
 | true =>
  simp only [zQW,cond_false,zWG];have st:∀ (k:Nat) (a:Int) (acc:List Int) (i:Nat),i < 4->acc.length<=4->∀ r2:Int×Int×Bool,cr u (k+1) b a acc i 2 r2=if (bf b a).2.2 && nq (bf b a).1 then cr u k b (bf b a).2.1 (acc++[(bf b a).1]) ((i+1:Nat):Int) 2 r2 else some (⟨2,r2.1,Db,0,0,0,[]⟩,0,false):=λk a acc i h1 h2 r2=>Ug hu hb hl k a acc i h1 h2 2 r2
  generalize hv:bf b a=g0;rw [show cr u u b g0.2.1 [] 0 2 g0=cr u (u'+4+1) b g0.2.1 [] ((0:Nat):Int) 2 g0 by rw [<- hu']; rfl,st _ _ _ 0 (by omega) (by simp)]
  cases h1:((bf b g0.2.1).2.2 && nq (bf b g0.2.1).1) with
  | false=>exact ⟨_,rfl,rfl⟩
  | true =>
   simp only [if_true,zWG,zQy];rw [show u'+4=u'+3+1 by omega,st _ _ _ 1 (by omega) (by simp)];generalize hv1:bf b g0.2.1=g1
   cases h2:((bf b g1.2.1).2.2 && nq (bf b g1.2.1).1) with
   | false=>exact ⟨_,rfl,rfl⟩
   | true =>
    simp only [if_true,zWG];rw [show u'+3=u'+2+1 by omega,st _ _ _ 2 (by omega) (by simp)];generalize hv2:bf b g1.2.1=g2
    cases h3:((bf b g2.2.1).2.2 && nq (bf b g2.2.1).1) with
    | false=>exact ⟨_,rfl,rfl⟩
    | true =>
     simp only [if_true,zWG];rw [show u'+2=u'+1+1 by omega,st _ _ _ 3 (by omega) (by simp)];generalize hv3:bf b g2.2.1=g3
     cases h4:((bf b g3.2.1).2.2 && nq (bf b g3.2.1).1) with
     | false=>exact ⟨_,rfl,rfl⟩
     | true =>
      simp only [if_true];rw [cr];have e:¬ (((3+1:Nat):Int) < 4):=by omega
      simp only [e,decide_false,cond_false];unfold nS nR;rw [show (0:Int)=((0:Nat):Int) by rfl,show (1:Int)=((1:Nat):Int) by rfl,show (2:Int)=((2:Nat):Int) by rfl,show (3:Int)=((3:Nat):Int) by rfl];simp only [b9,zQy,zXk,zQz,zWW,List.getElem?_cons_succ,wk];refine ⟨_,rfl,?_⟩;have r1:0<=g1.1/\g1.1 < 1048576:=by
       rw [<- hv1]; refine ⟨uZ hb _,?_⟩;simp only [sk,nq,decide_eq_true_eq] at h1; exact h1.2
      have r2:0<=g2.1/\g2.1 < 1048576:=by
       rw [<- hv2]; refine ⟨uZ hb _,?_⟩;simp only [sk,nq,decide_eq_true_eq] at h2; exact h2.2
      have r3:0<=g3.1/\g3.1 < 1048576:=by
       rw [<- hv3]; refine ⟨uZ hb _,?_⟩;simp only [sk,nq,decide_eq_true_eq] at h3; exact h3.2
      have r4:0<=(bf b g3.2.1).1/\(bf b g3.2.1).1 < 1048576:=by
       refine ⟨uZ hb _,?_⟩;simp only [sk,nq,decide_eq_true_eq] at h4; exact h4.2
      rw [(AP r1.1 r1.2 r2.1 r2.2).1,(AP r3.1 r3.2 r4.1 r4.2).1];rfl
theorem WQ{b p t:List Int}{e e' v n:Int}(hb:b=p++cO 9 n++t)(hp:b.take e.toNat=p)(h0:0<=e)(h1:e<=b.length)(hg:bf b e=(v,e',true))(n0:0<=n)(n1:n<=1000000000000):v=n/\b.take e'.toNat=p++cO 9 n:=by
 have hl:p.length=e.toNat:=by rw [<- hp,zQh]; omega
 have h:=LS (p:=p) (n:=n) t n0 n1;rw [<- hb,hl,show ((e.toNat:Nat):Int)=e by omega,hg] at h;simp only [Prod.mk.injEq,and_true] at h;refine ⟨h.1,?_⟩;rw [h.2,zQQ,hb,<- hl,<- zQJ,List.take_left]
theorem Is{w:Int}(h:cG w=true):∃ x y,0<=x/\x < 1048576/\0<=y/\y < 1048576/\eH .i64 w 1048575=x/\lB .i64 w 20=y:=by
 have h:=cd h;have:=AP (x:=w % 1048576) (y:=w / 1048576) (by omega) (by omega) (by omega) (by omega);refine ⟨w % 1048576,w / 1048576,by omega,by omega,by omega,by omega,?_,?_⟩
 ·have h2:=this.2.2.1;rwa [show w % 1048576+w / 1048576*1048576=w by omega] at h2
 ·have h2:=this.2.2.2;rwa [show w % 1048576+w / 1048576*1048576=w by omega] at h2
theorem Ga{k:Int}(h0:0<=k)(h1:k<=1000000000000):aU [] k=cO 9 k:=by rw [fb h0 h1]; rfl
theorem U6{b:List Int}(hb:aq b){a v0 e0 v1 e1 v2 e2 v3 e3 v4 e4 W D:Int}(ha:b.take a.toNat=cO 9 2)(h0:bf b a=(v0,e0,true))(h1:bf b e0=(v1,e1,true))(h2:bf b e1=(v2,e2,true))(h3:bf b e2=(v3,e3,true))(h4:bf b e3=(v4,e4,true))
  (hok:kh ⟨2,v0,Db,W,D,0,[]⟩=true) (hp:fm ⟨2,v0,Db,W,D,0,[]⟩=b):nq v1=true/\nq v2=true/\nq v3=true/\nq v4=true:=by
 have p0:=cD hb h0;have p1:=cD hb h1;have p2:=cD hb h2;have p3:=cD hb h3;have p4:=cD hb h4;have hs:cG W=true/\cG D=true:=by
  unfold kh at hok;dsimp only at hok;rw [if_neg (show ¬ ((2:Int)=1) by decide),if_pos rfl] at hok;simp only [sk] at hok;exact ⟨hok.1.1.1.2,hok.1.1.2⟩
 obtain ⟨x1,x2,a1,a2,a3,a4,a5,a6⟩:=Is hs.1;obtain ⟨x3,x4,c1,c2,c3,c4,c5,c6⟩:=Is hs.2;unfold fm at hp;rw [if_pos hok] at hp;have hbody:ek ⟨2,v0,Db,W,D,0,[]⟩=cO 9 2++cO 9 v0++cO 9 x1++cO 9 x2++cO 9 x3++cO 9 x4:=by
  show oc (oc (aU (aU [] 2) v0) W) D=_;unfold oc;rw [a5,a6,c5,c6,Ga (by omega) (by omega),fb p0.2.2.2.1 p0.2.2.2.2.1,fb a1 (by omega),fb a3 (by omega),fb c1 (by omega),fb c3 (by omega)]
 have hw:=AI (ek ⟨2,v0,Db,W,D,0,[]⟩);rw [fb hw.1 (by omega),hbody] at hp;generalize cO 9 (ct (cO 9 2++cO 9 v0++cO 9 x1++cO 9 x2++cO 9 x3++cO 9 x4))=t at hp;have q0:b.take e0.toNat=cO 9 2++cO 9 v0:=by rw [p0.2.2.2.2.2,ha]
 have q1:=WQ (t:=cO 9 x2++cO 9 x3++cO 9 x4++t) (by rw [<- hp]; simp) q0 (by omega) p0.2.2.1 h1 a1 (by omega);have q2:=WQ (t:=cO 9 x3++cO 9 x4++t) (by rw [<- hp]; simp) q1.2 (by omega) p1.2.2.1 h2 a3 (by omega);have q3:=WQ (t:=cO 9 x4++t) (by rw [<- hp]; simp) q2.2 (by omega) p2.2.2.1 h3 c1 (by omega);have q4:=WQ (t:=t) (by rw [<- hp]) q3.2 (by omega) p3.2.2.1 h4 c3 (by omega);unfold nq;simp only [decide_eq_true_eq];omega
theorem Dy(k g w d i:Int){p:List Int}(hp:aq p)(hl:p.length<=1048576):M.MsgWf ⟨k,g,Db,w,d,i,p⟩:=⟨by simp [Db],by intro s hs; simp [Db] at hs,hp,hl⟩
def zl(b:List Int)(r:dY×Bool)(o:Option (dY×Int)):Prop:=match o with
 | some (m,e)=>r=(m,true)
 | none=>r.2=false\/(M.MsgWf r.1/\(kh r.1=true->fm r.1≠b))
theorem AQ{b:List Int}{r:dY×Bool}{c:Bool}{x:dY×Int}(hc:c=false)(hr:r.2=false):zl b r (if c then some x else none):=by
 subst hc; exact .inl hr
theorem Sl{α:Type}{b:Bool}(h:b=true)(x y:α):(bif !b then x else y)=y:=by subst h; rfl
theorem LW{α β:Type}(a:α)(f:α->Option β):(some a).bind f=f a:=(wk (a:=a) (f:=f)).trans (Eq.refl _)
theorem WB(a b c d e:Int):cN [a,b,c,d,e] 0=some a:=(b9 [a,b,c,d,e] 0).trans rfl
theorem WC(a b c d e:Int):cN [a,b,c,d,e] 1=some b:=(b9 [a,b,c,d,e] 1).trans rfl
theorem WD(a b c d e:Int):cN [a,b,c,d,e] 2=some c:=(b9 [a,b,c,d,e] 2).trans rfl
theorem WE(a b c d e:Int):cN [a,b,c,d,e] 3=some d:=(b9 [a,b,c,d,e] 3).trans rfl
theorem WF(a b c d e:Int):cN [a,b,c,d,e] 4=some e:=(b9 [a,b,c,d,e] 4).trans rfl
theorem Rp{u:Nat}(hu:1099511627776<=u){b:List Int}(hb:aq b)(hl:b.length<=1048576){a:Int}(ha:b.take a.toNat=cO 9 2):∃ r,ep u b 2 a=some r/\zl b r (vB b a):=by
 unfold ep vB;rw [show ((2:Int) == 1)=false by rfl,show ((2:Int) == 2)=true by rfl];simp only [cond_false,cond_true];rw [show (5:Int)=((5:Nat):Int) by rfl,Ci hu hb hl a 5 (by omega)];simp only [wk,uL];rcases bY b a with ⟨v0,e0,h0⟩ | h0
 ·rw [h0];simp only [if_true];rcases bY b e0 with ⟨v1,e1,h1⟩ | h1
  ·rw [h1];simp only [if_true];rcases bY b e1 with ⟨v2,e2,h2⟩ | h2
   ·rw [h2];simp only [if_true];rcases bY b e2 with ⟨v3,e3,h3⟩ | h3
    ·rw [h3];simp only [if_true];rcases bY b e3 with ⟨v4,e4,h4⟩ | h4
     ·rw [h4];rw [if_pos rfl,Sl (by rfl)];have hq:[]++[v0]++[v1]++[v2]++[v3]++[v4]=[v0,v1,v2,v3,v4]:=rfl;rw [hq,WB,WC,WD,WE,WF,LW,LW,LW,LW,LW];unfold iC;refine ⟨_,rfl,?_⟩;have p1:=cD hb h1;have p2:=cD hb h2;have p3:=cD hb h3;have p4:=cD hb h4
      cases hc:(true && (true && nq v1 && (true && nq v2 && (true && nq v3 && (true && nq v4))))) with
      | true =>
       simp only [zWG,sk,nq,decide_eq_true_eq] at hc;simp only [if_true,zl];rw [(AP p1.2.2.2.1 hc.1 p2.2.2.2.1 hc.2.1).2.1,(AP p3.2.2.2.1 hc.2.2.1 p4.2.2.2.1 hc.2.2.2).2.1];rfl
      | false =>
       simp only [zQk,if_false,zl];refine .inr ⟨Dy _ _ _ _ _ iV (by simp),λhok hp=>?_⟩;have:=U6 hb ha h0 h1 h2 h3 h4 hok hp;rw [this.1,this.2.1,this.2.2.1,this.2.2.2] at hc
       cases hc
     ·rw [h4]; exact ⟨_,rfl,AQ (by simp) rfl⟩
    ·rw [h3]; exact ⟨_,rfl,AQ (by simp) rfl⟩
   ·rw [h2]; exact ⟨_,rfl,AQ (by simp) rfl⟩
  ·rw [h1]; exact ⟨_,rfl,AQ (by simp) rfl⟩
 ·rw [h0]; exact ⟨_,rfl,AQ (by simp) rfl⟩
theorem WW{b:List Int}(hb:aq b){a e:Int}{m:dY}(ha:b.take a.toNat=cO 9 2)(h:vB b a=some (m,e)):M.MsgWf m/\0<=e/\e<=b.length/\ek m=b.take e.toNat:=by
 unfold vB at h;dsimp only at h
 split at h
 ·rename_i hc;simp only [sk,nq,decide_eq_true_eq] at hc;obtain ⟨k0,⟨k1,l1⟩,⟨k2,l2⟩,⟨k3,l3⟩,k4,l4⟩:=hc;simp only [Option.some.injEq,Prod.mk.injEq] at h;obtain ⟨rfl,rfl⟩:=h;rcases (bY b a).symm with h0 | ⟨v0,e0,h0⟩
  ·simp [h0] at k0
  simp only [h0] at k0 k1 l1 k2 l2 k3 l3 k4 l4 ⊢;rcases (bY b e0).symm with h1 | ⟨v1,e1,h1⟩
  ·simp [h1] at k1
  simp only [h1] at k0 k1 l1 k2 l2 k3 l3 k4 l4 ⊢;rcases (bY b e1).symm with h2 | ⟨v2,e2,h2⟩
  ·simp [h2] at k2
  simp only [h2] at k0 k1 l1 k2 l2 k3 l3 k4 l4 ⊢;rcases (bY b e2).symm with h3 | ⟨v3,e3,h3⟩
  ·simp [h3] at k3
  simp only [h3] at k0 k1 l1 k2 l2 k3 l3 k4 l4 ⊢;rcases (bY b e3).symm with h4 | ⟨v4,e4,h4⟩
  ·simp [h4] at k4
  simp only [h4] at k0 k1 l1 k2 l2 k3 l3 k4 l4 ⊢;have p0:=cD hb h0;have p1:=cD hb h1;have p2:=cD hb h2;have p3:=cD hb h3;have p4:=cD hb h4;have s1:=AP p1.2.2.2.1 l1 p2.2.2.2.1 l2;have s2:=AP p3.2.2.2.1 l3 p4.2.2.2.1 l4;refine ⟨Dy _ _ _ _ _ iV (by simp),by omega,p4.2.2.1,?_⟩;show oc (oc (aU (aU [] 2) v0) (v1+v2*1048576)) (v3+v4*1048576)=b.take e4.toNat;unfold oc;rw [s1.2.2.1,s1.2.2.2,s2.2.2.1,s2.2.2.2,Ga (by omega) (by omega),fb p0.2.2.2.1 p0.2.2.2.2.1,fb p1.2.2.2.1 p1.2.2.2.2.1,fb p2.2.2.2.1 p2.2.2.2.2.1,fb p3.2.2.2.1 p3.2.2.2.2.1,fb p4.2.2.2.1 p4.2.2.2.2.1];rw [p4.2.2.2.2.2,p3.2.2.2.2.2,p2.2.2.2.2.2,p1.2.2.2.2.2,p0.2.2.2.2.2,ha]
 ·cases h
def AR(r:dY×Int×Bool)(o:Option (dY×Int)):Prop:=match o with
 | some (m,e)=>r=(m,e,true)
 | none=>r.2.2=false\/(r.1.aD.aJ.length<=1048576/\kh r.1=false)
def M.puts(b:List Int)(o:Option (dY×Int)):Prop:=∀ m e,o=some (m,e)->M.MsgWf m/\0<=e/\e<=b.length/\ek m=b.take e.toNat
theorem NC{α:Type}(r:α×Int×Bool)(h:r.2.2=true):r=(r.1,r.2.1,true):=by rw [<- h]
def xQ(b:List Int)(a:Int):Option (dY×Int):=if (jw b a).2.2 then some (⟨1,0,(jw b a).1,0,0,0,[]⟩,(jw b a).2.1) else none
def xR(b:List Int)(a:Int):Option (dY×Int):=if (bf b a).2.2 then some (⟨4,(bf b a).1,Db,0,0,0,[]⟩,(bf b a).2.1) else none
theorem Rq{u:Nat}(hu:1099511627776<=u){b:List Int}(hb:aq b)(hl:b.length<=1048576)(a:Int):∃ r,eo u b a 1=some r/\AR r (xQ b a):=by
 refine ⟨(⟨1,0,(jw b a).1,0,0,0,[]⟩,(jw b a).2.1,(jw b a).2.2),?_,?_⟩
 ·unfold eo;rw [LU hu hb hl]; rfl
 ·unfold xQ AR
  cases h:(jw b a).2.2 with
  | false=>exact .inl rfl
  | true=>rfl
theorem Rr{u:Nat}(hu:1099511627776<=u){b:List Int}(hb:aq b)(hl:b.length<=1048576)(a:Int):∃ r,ep u b 1 a=some r/\zl b r (xQ b a):=by
 refine ⟨(⟨1,0,(jw b a).1,0,0,0,[]⟩,(jw b a).2.2),?_,?_⟩
 ·unfold ep;rw [LT hu hb hl]; rfl
 ·unfold xQ zl
  cases h:(jw b a).2.2 with
  | false=>exact .inl rfl
  | true=>rfl
theorem WX{b:List Int}(hb:aq b){a:Int}(ha:b.take a.toNat=cO 9 1):M.puts b (xQ b a):=by
 intro m e h;unfold xQ at h
 split at h
 ·rename_i hc;simp only [Option.some.injEq,Prod.mk.injEq] at h;obtain ⟨rfl,rfl⟩:=h;have p:=Rn hb (NC _ hc);refine ⟨⟨by have:=uK p.2.2.2.1; show (jw b a).1.aJ.length<=_; omega,p.2.2.2.2.1,iV,by simp⟩,by omega,p.2.2.1,?_⟩;rw [p.2.2.2.2.2,ha,<- Ga (by omega) (by omega)];rfl
 ·cases h
theorem Rs{u:Nat}(hu:1099511627776<=u){b:List Int}(hb:aq b)(hl:b.length<=1048576)(a:Int):∃ r,eo u b a 3=some r/\AR r (xP b a):=by
 unfold eo xP;rw [show ((3:Int) == 1)=false by rfl,show ((3:Int) == 2)=false by rfl,show ((3:Int) == 3)=true by rfl];simp only [cond_false,cond_true,jv hu hb hl,JF hu hb hl,wk];rcases bY b a with ⟨v0,e0,h0⟩ | h0
 ·rw [h0];dsimp only;rcases bY b e0 with ⟨v1,e1,h1⟩ | h1
  ·rw [h1];dsimp only
   cases h2:(oH b e1).2.2 with
   | false=>exact ⟨_,rfl,.inl rfl⟩
   | true=>exact ⟨_,rfl,rfl⟩
  ·rw [h1]; exact ⟨_,rfl,.inl rfl⟩
 ·rw [h0]; exact ⟨_,rfl,.inl rfl⟩
theorem WG(a b:Int):cN [a,b] 0=some a:=(b9 [a,b] 0).trans rfl
theorem WH(a b:Int):cN [a,b] 1=some b:=(b9 [a,b] 1).trans rfl
theorem Rt{u:Nat}(hu:1099511627776<=u){b:List Int}(hb:aq b)(hl:b.length<=1048576)(a:Int):∃ r,ep u b 3 a=some r/\zl b r (xP b a):=by
 unfold ep xP;rw [show ((3:Int) == 1)=false by rfl,show ((3:Int) == 2)=false by rfl,show ((3:Int) == 3)=true by rfl];simp only [cond_false,cond_true,JE hu hb hl];have hrv:=Ci hu hb hl a 2 (by omega);rw [show ((2:Nat):Int)=2 from rfl] at hrv;rw [hrv];simp only [wk,uL];rcases bY b a with ⟨v0,e0,h0⟩ | h0
 ·rw [h0];simp only [if_true];rcases bY b e0 with ⟨v1,e1,h1⟩ | h1
  ·rw [h1,if_pos rfl,Sl (by rfl)];have hq:[]++[v0]++[v1]=[v0,v1]:=rfl;rw [hq,WG,WH,LW,LW];dsimp only
   cases h2:(oH b e1).2.2 with
   | false=>exact ⟨_,rfl,.inl rfl⟩
   | true=>exact ⟨_,rfl,rfl⟩
  ·rw [h1]; exact ⟨_,rfl,AQ (by simp) rfl⟩
 ·rw [h0]; exact ⟨_,rfl,AQ (by simp) rfl⟩
theorem WY{b:List Int}(hb:aq b){a:Int}(ha:b.take a.toNat=cO 9 3):M.puts b (xP b a):=by
 intro m e h;unfold xP at h;dsimp only at h
 split at h
 ·rename_i hc;simp only [sk] at hc;obtain ⟨⟨k0,k1⟩,k2⟩:=hc;simp only [Option.some.injEq,Prod.mk.injEq] at h;obtain ⟨rfl,rfl⟩:=h;have p0:=cD hb (NC _ k0);have p1:=cD hb (NC _ k1);have p2:=P8 hb (NC _ k2);generalize bf b a=g0 at *;generalize bf b g0.2.1=g1 at *;generalize oH b g1.2.1=g2 at *;refine ⟨Dy _ _ _ _ _ p2.2.2.2.1 (by omega),by omega,p2.2.2.1,?_⟩;show aU (aU (aU (aU [] 3) g0.1) g1.1) g2.1.length++g2.1=b.take g2.2.1.toNat;rw [Ga (by omega) (by omega),fb p0.2.2.2.1 p0.2.2.2.2.1,fb p1.2.2.2.1 p1.2.2.2.2.1,fb (by omega) (by omega),p2.2.2.2.2.2,p1.2.2.2.2.2,p0.2.2.2.2.2,ha]
 ·cases h
theorem Ru{u:Nat}(hu:1099511627776<=u){b:List Int}(hb:aq b)(hl:b.length<=1048576)(a:Int):∃ r,eo u b a 4=some r/\AR r (xR b a):=by
 unfold eo xR;rw [show ((4:Int) == 1)=false by rfl,show ((4:Int) == 2)=false by rfl,show ((4:Int) == 3)=false by rfl];simp only [cond_false,cond_true,jv hu hb hl,wk];rcases bY b a with ⟨v0,e0,h0⟩ | h0
 ·rw [h0]; exact ⟨_,rfl,rfl⟩
 ·rw [h0]; exact ⟨_,rfl,.inl rfl⟩
theorem Rv{u:Nat}(hu:1099511627776<=u){b:List Int}(hb:aq b)(hl:b.length<=1048576)(a:Int):∃ r,ep u b 4 a=some r/\zl b r (xR b a):=by
 unfold ep xR;rw [show ((4:Int) == 1)=false by rfl,show ((4:Int) == 2)=false by rfl,show ((4:Int) == 3)=false by rfl,show ((4:Int) == 4)=true by rfl];simp only [cond_false,cond_true,tZ hu hb hl,wk];rcases bY b a with ⟨v0,e0,h0⟩ | h0
 ·rw [h0]; exact ⟨_,rfl,rfl⟩
 ·rw [h0]; exact ⟨_,rfl,.inl rfl⟩
theorem WZ{b:List Int}(hb:aq b){a:Int}(ha:b.take a.toNat=cO 9 4):M.puts b (xR b a):=by
 intro m e h;unfold xR at h
 split at h
 ·rename_i k0;simp only [Option.some.injEq,Prod.mk.injEq] at h;obtain ⟨rfl,rfl⟩:=h;have p0:=cD hb (NC _ k0);generalize bf b a=g0 at *;refine ⟨Dy _ _ _ _ _ iV (by simp),by omega,p0.2.2.1,?_⟩;show aU (aU [] 4) g0.1=b.take g0.2.1.toNat;rw [Ga (by omega) (by omega),fb p0.2.2.2.1 p0.2.2.2.2.1,p0.2.2.2.2.2,ha]
 ·cases h
def zn(b:List Int)(kind a:Int):Option (dY×Int):=if kind=1 then xQ b a else if kind=2 then vB b a else if kind=3 then xP b a else if kind=4 then xR b a else none
theorem LX{m:dY}(h1:m.bt≠1)(h2:m.bt≠2)(h3:m.bt≠3)(h4:m.bt≠4):kh m=false:=by
 unfold kh; rw [if_neg h1,if_neg h2,if_neg h3,if_neg h4]
theorem S6{u:Nat}(hu:1099511627776<=u){b:List Int}(hb:aq b)(hl:b.length<=1048576)(k a:Int):∃ r,eo u b a k=some r/\AR r (zn b k a):=by
 unfold zn
 by_cases h1:k=1
 ·subst h1; exact Rq hu hb hl a
 ·rw [if_neg h1]
  by_cases h2:k=2
  ·subst h2;obtain ⟨r,g1,g2⟩:=Ro hu hb hl a;refine ⟨r,g1,?_⟩;rw [if_pos rfl];unfold AR
   cases hp:vB b a with
   | none=>rw [hp] at g2; exact .inl g2
   | some q=>rw [hp] at g2; exact g2
  ·rw [if_neg h2]
   by_cases h3:k=3
   ·subst h3; exact Rs hu hb hl a
   ·rw [if_neg h3]
    by_cases h4:k=4
    ·subst h4; exact Ru hu hb hl a
    ·rw [if_neg h4];have e1:(k == 1)=false:=by simpa using h1
     have e2:(k == 2)=false:=by simpa using h2
     have e3:(k == 3)=false:=by simpa using h3
     unfold eo;rw [e1,e2,e3];simp only [cond_false,jv hu hb hl,wk];rcases bY b a with ⟨v0,e0,h0⟩ | h0
     ·rw [h0];exact ⟨(⟨k,v0,⟨0,0,0,[]⟩,0,0,0,[]⟩,e0,true),rfl,.inr ⟨by simp,LX h1 h2 h3 h4⟩⟩
     ·rw [h0]; exact ⟨_,rfl,.inl rfl⟩
theorem S7{u:Nat}(hu:1099511627776<=u){b:List Int}(hb:aq b)(hl:b.length<=1048576){k a:Int}(ha:b.take a.toNat=cO 9 k):∃ r,ep u b k a=some r/\zl b r (zn b k a):=by
 unfold zn
 by_cases h1:k=1
 ·subst h1; exact Rr hu hb hl a
 ·rw [if_neg h1]
  by_cases h2:k=2
  ·subst h2; exact Rp hu hb hl ha
  ·rw [if_neg h2]
   by_cases h3:k=3
   ·subst h3; exact Rt hu hb hl a
   ·rw [if_neg h3]
    by_cases h4:k=4
    ·subst h4; exact Rv hu hb hl a
    ·rw [if_neg h4];have e1:(k == 1)=false:=by simpa using h1
     have e2:(k == 2)=false:=by simpa using h2
     have e3:(k == 3)=false:=by simpa using h3
     have e4:(k == 4)=false:=by simpa using h4
     unfold ep;rw [e1,e2,e3,e4];exact ⟨_,rfl,.inl rfl⟩
theorem HR{b:List Int}(hb:aq b){k a:Int}(ha:b.take a.toNat=cO 9 k):M.puts b (zn b k a):=by
 unfold zn
 by_cases h1:k=1
 ·subst h1; exact WX hb ha
 ·rw [if_neg h1]
  by_cases h2:k=2
  ·subst h2; exact λm e h=>WW hb ha h
  ·rw [if_neg h2]
   by_cases h3:k=3
   ·subst h3; exact WY hb ha
   ·rw [if_neg h3]
    by_cases h4:k=4
    ·subst h4; exact WZ hb ha
    ·rw [if_neg h4]; intro m e h; cases h
def t4:dY×Bool:=(⟨0,0,⟨0,0,0,[]⟩,0,0,0,[]⟩,false)
def dR(b:List Int):dY×Bool:=if (bf b 0).2.2 && decide (b.length<=400) then match zn b (bf b 0).1 (bf b 0).2.1 with
  | some (m,e)=>if kh m && decide (fm m=b) then (m,true) else t4
  | none=>t4
 else t4
theorem wO{m:dY}(h:M.MsgWf m):aq (fm m):=by
 unfold fm
 split
 ·exact gD (Ez h).1 _
 ·exact iV
theorem Ck{u:Nat}(hu:1099511627776<=u){b:List Int}(hb:aq b)(hl:b.length<=1048576):kv u b=some (dR b):=by
 unfold kv dR pC m0;simp only [tZ hu hb hl,wk];rcases bY b 0 with ⟨k,a,h0⟩ | h0
 ·rw [h0];have p:=cD hb h0;have ha:b.take a.toNat=cO 9 k:=by rw [p.2.2.2.2.2]; rfl
  by_cases h4:b.length<=400
  ·have h4':¬ ((b.length:Int) > 400):=by omega
   simp only [h4,h4',decide_true,decide_false,zXH,if_true,zQW,cond_false];obtain ⟨r,g1,g2⟩:=S7 hu hb hl ha;rw [g1];simp only [wk]
   cases hr:zn b k a with
   | none =>
    rw [hr] at g2;rcases g2 with g2 | ⟨g2,g3⟩
    ·rw [g2]; rfl
    ·cases hf:r.2 with
     | false=>rfl
     | true =>
      rw [zj hu g2.sums];simp only [zQW,cond_false,wk]
      cases hm:kh r.1 with
      | false=>rfl
      | true =>
       simp only [zQW,cond_false,Cj hu g2,yN,wk];rw [F9 (wO g2) hb,decide_eq_false (g3 hm)]; rfl
   | some q =>
    obtain ⟨m,e⟩:=q;rw [hr] at g2;have w:=HR hb ha m e hr;unfold zl at g2;dsimp only at g2;rw [g2];dsimp only;rw [zj hu w.1.sums];simp only [zQW,cond_false,wk]
    cases hm:kh m with
    | false=>rfl
    | true =>
     simp only [zQW,cond_false,Cj hu w.1,yN,wk];rw [F9 (wO w.1) hb]
     by_cases hp:fm m=b
     ·simp [hp]
     ·simp [hp,t4]
  ·have h4':(b.length:Int) > 400:=by omega
   simp [h4,h4',t4]
 ·rw [h0]; simp [t4]
theorem Wa{b:List Int}(hb:aq b){m:dY}{e:Int}(h0:0<=e)(h1:e<=b.length)(hp:ek m=b.take e.toNat)(hm:kh m=true):fm m=b↔bf b e=(ct (b.take e.toNat),(b.length:Int),true):=by
 have hw:=AI (b.take e.toNat);unfold fm;rw [if_pos hm,hp,fb hw.1 (by omega)];have hlen:(b.take e.toNat).length=e.toNat:=by rw [zQh]; omega
 constructor
 ·intro h;have g:=LS (p:=b.take e.toNat) (n:=ct (b.take e.toNat)) [] hw.1 (by omega);rw [zWj,h,hlen,show ((e.toNat:Nat):Int)=e by omega] at g;rw [g];refine Prod.ext rfl (Prod.ext ?_ rfl);have:=congrArg zYK h;rw [zQJ,hlen] at this;dsimp only; omega
 ·intro h;have p:=cD hb h;rw [<- p.2.2.2.2.2,zQQ,List.take_length]
theorem xS{u:Nat}(hu:1099511627776<=u){b:List Int}(hb:aq b)(hl:b.length<=1048576):kl u b=some (dR b):=by
 unfold kl dR pf pe mH;simp only [jv hu hb hl,wk];rcases bY b 0 with ⟨k,a,h0⟩ | h0
 ·rw [h0];have p:=cD hb h0;have ha:b.take a.toNat=cO 9 k:=by rw [p.2.2.2.2.2]; rfl
  by_cases h4:b.length<=400
  ·have h4':¬ ((b.length:Int) > 400):=by omega
   simp only [h4,h4',decide_true,decide_false,zXH,if_true,zQW,cond_false];obtain ⟨r,g1,g2⟩:=S6 hu hb hl k a;rw [g1];simp only [wk]
   cases hr:zn b k a with
   | none =>
    rw [hr] at g2;rcases g2 with g2 | ⟨g2,g3⟩
    ·rw [g2]; rfl
    ·cases hf:r.2.2 with
     | false=>rfl
     | true =>
      rw [zk hu g2,g3]; rfl
   | some q =>
    obtain ⟨m,e⟩:=q;rw [hr] at g2;have w:=HR hb ha m e hr;unfold AR at g2;dsimp only at g2;rw [g2];dsimp only;rw [zk hu w.1.sums];simp only [zQW,cond_false,wk]
    cases hm:kh m with
    | false=>rfl
    | true =>
     have hs:=Wa hb w.2.1 w.2.2.1 w.2.2.2 hm;obtain ⟨e,rfl⟩:=zQK w.2.1;simp only [zQW,cond_false,zQQ] at hs ⊢;rw [show (0:Int)=((0:Nat):Int) by rfl,gN (by omega) (by have:=w.2.2.1; omega)];simp only [wk,zQQ,List.drop_zero];rw [tU hu (λx hx=>hb x (zWQ hx)) (by rw [zQh]; omega)];simp only [wk];rcases bY b e with ⟨v,e',h5⟩ | h5
     ·rw [h5] at hs ⊢;simp only [zQW,cond_false]
      by_cases he:e'=(b.length:Int)
      ·by_cases hv:v=ct (b.take e)
       ·have:fm m=b:=hs.2 (by rw [he,hv]);simp [he,hv,this]
       ·have:¬ fm m=b:=λh=>hv (by have:=hs.1 h; simp only [Prod.mk.injEq] at this; exact this.1);have hv':(v != ct (b.take e))=true:=by simpa using hv
        simp [he,this,t4];rw [hv']; rfl
      ·have:¬ fm m=b:=λh=>he (by have:=hs.1 h; simp only [Prod.mk.injEq] at this; exact this.2.1);have he':(e' != (b.length:Int))=true:=by simpa using he
       simp [this,t4];rw [he']; rfl
     ·rw [h5] at hs ⊢;have:¬ fm m=b:=λh=>by have:=hs.1 h; simp at this
      simp [this,t4]
  ·have h4':(b.length:Int) > 400:=by omega
   simp [h4,h4',t4]
 ·rw [h0]; simp [t4]
theorem EA{u:Nat}(hu:1099511627776<=u){w:World}(hl:w.bx.length<=1048576)(ev:cX):iM u u 0 w ev=some (w.bx.any λp=>pR p.fB ev.fP.fB):=by
 rw [DM u w ev () u (by omega) (by omega)];have:∀ (l:List ag) (i:Nat),bU (w8 u w ev) (sq u w ev) l i ()=some (l.any λp=>pR p.fB ev.fP.fB):=by
  intro l
  induction l with
  | nil=>intro i; rfl
  | cons x l ih =>
   intro i;simp only [bU,sq,F3,wk,List.any_cons];rw [ih (i+1)]
   cases pR x.fB ev.fP.fB <;> rfl
 exact this _ 0
theorem Uh{u:Nat}(hu:1099511627776<=u){c:aK}(hc:Cu c):Dr (uq u c) (λm=>m.aJ.length<=41/\oY m):=by
 unfold uq pa;obtain ⟨b,c1,e1,hb,h1⟩:=LM hu hc;obtain ⟨n,c2,e2,_,h2⟩:=cC u h1 5;obtain ⟨s,c3,e3,_,h3⟩:=cC u h2 5;have hb1:=hb.1;rw [e1];simp only [wk,e2,e3];rw [zg hu hb.2 (by omega)];simp only [wk];generalize hm:qw (aW .i64 1 n) b (aW .i64 2 s)=m;have hl:m.aJ.length<=40:=hm ▸ HL _ _ _;have hw:oY m:=hm ▸ LG _ b _ hb.2;refine co (cC u h3 10) λv c4 _ h4=>?_;simp only
 cases v == 0 with
 | true =>
  simp only [cond_true];exact co (oa u h4 (by simp)) λx c5 _ h5=>cP ⟨by show m.aJ.length<=41; omega,hw⟩ h5
 | false =>
  simp only [cond_false]
  cases v == 1 with
  | true =>
   simp only [cond_true];exact co (oa u h4 (by simp)) λx c5 _ h5=>cP ⟨by show m.aJ.length<=41; omega,hw⟩ h5
  | false =>
   simp only [cond_false]
   cases v == 2 with
   | true=>exact cP ⟨by show m.aJ.length<=41; omega,hw⟩ h4
   | false =>
    simp only [cond_false]
    cases v == 3 with
    | true =>
     simp only [cond_true];rw [bl (by simp; omega)];simp only [wk];refine cP ⟨by show (m.aJ++[b4.mk 1 257]).length<=41; simp; omega,λx hx=>?_⟩ h4;rcases List.mem_append.1 hx with h | h
     ·exact hw x h
     ·simp only [zQx] at h;subst h;show (257:Int)<=9223372036854775807;omega
    | false =>
     simp only [cond_false]
     cases v == 4 with
     | false=>exact cP ⟨by show m.aJ.length<=41; omega,hw⟩ h4
     | true =>
      simp only [cond_true]
      by_cases hp:(m.aJ.length:Int) > 0
      ·simp only [hp,decide_true,cond_true];have hlt:0 < m.aJ.length:=by omega
       have e0:cN m.aJ 0=some (m.aJ[0]'hlt):=jK m.aJ 0 (sX hlt);simp only [e0,wk];refine cP ⟨?_,λx hx=>?_⟩ h4
       ·show (m.aJ.set _ _).length<=41;rw [zXZ]; omega
       ·rcases zYZ hx with h | h
        ·exact hw x h
        ·subst h;have hq:=hw _ (zYW hlt);exact hq
      ·simp only [hp,decide_false,cond_false];exact cP ⟨by show m.aJ.length<=41; omega,hw⟩ h4
theorem Qa:∀ (l:List dd) (d:aB),(AM l d).fP=[]
 | [],d=>rfl
 | p :: l,d=>Qa l _
def lE{α:Type}(f:α->Nat->Bool):List α->Nat->Bool
 | [],_=>true
 | x :: l,i=>f x i && lE f l (i+1)
theorem EB{α:Type}{fin:Unit->Option Bool}{body:α->Nat->Unit->(Unit->Option Bool)->Option Bool}(f:α->Nat->Bool){xs:List α}{b:Bool}(hf:fin ()=some b)(i0:Nat)(hb:∀ x i k,i0<=i->xs[i]?=some x->body x i () k=bif f x i then k () else some false) :
  ∀ (l:List α) (i:Nat),i0<=i->l=xs.drop i->bU fin body l i ()=some (lE f l i && b):=by
 intro l
 induction l with
 | nil=>intro i _ _; simp [bU,lE,hf]
 | cons x l ih =>
  intro i h0 h;have hx:xs[i]?=some x:=by
   have:=congrArg zYG h
   simpa [zXV] using this.symm
  have hl:l=xs.drop (i+1):=by
   have:=congrArg zYk h
   simpa [zXq] using this
  simp only [bU,lE];rw [hb x i _ h0 hx,ih (i+1) (by omega) hl]
  cases f x i <;> simp
def Cl(x:Int)(i:Nat):Bool:=if i=0 then x == -1 else ar x 0 ((i:Int) - 1)
def jx(t:cT):Bool:=lE Cl t.cf 0 && ar t.cf.length 1 7
theorem xT{u:Nat}(hu:1099511627776<=u){t:cT}(hl:t.cf.length<=1073741824):o8 u t=some (jx t):=by
 unfold o8 jx sQ;simp only [bL,wk]
 cases hw:ar t.cf.length 1 7 with
 | false=>simp
 | true =>
  have:=cd hw
  match hup:t.cf with
  | []=>rw [hup] at this; simp at this
  | x :: l =>
   have h1:cN (x :: l) 0=some x:=rfl;simp only [zQW,cond_false,h1,wk,lE,Cl,↓reduceIte,Bool.and_true]
   by_cases hx:x=-1
   ·subst hx;simp only [bne_self_eq_false,cond_false,beq_self_eq_true,zWG];have h:=PD (fin:=zr u t) (body:=λy i s k=>ub u t y i s k) (xs:=t.cf) (λk s i=>jh u k i t) (by omega) (λ_ _ _=>rfl) (t.cf.drop 1) u 1 () rfl (by simp; omega);have h2:jh u u 1 t=some (lE Cl (t.cf.drop 1) 1 && true):=by
     rw [show ((1:Int))=((1:Nat):Int) from rfl,h];refine EB Cl rfl 1 (λy i k h0 hy=>?_) _ 1 (zWq _) rfl;have hi:i < t.cf.length:=(List.getElem?_eq_some_iff.1 hy).1;have e0:i≠0:=by omega
     unfold ub Cl;simp (disch:=omega) only [e0,cJ,bL,wk,↓reduceIte]
     cases ar y 0 ((i:Int) - 1) <;> rfl
    rw [h2,hup];simp
   ·have:(x == -1)=false:=by simpa using hx
    simp [this,bne]
def lq(up:List Int):Nat->Int->List Int
 | 0,_=>[]
 | n+1,k=>if ar k 0 ((up.length:Int) - 1) then k :: lq up n ((up[k.toNat]?).getD 0) else []
def Gb(t:cT)(k:Int):List Int:=lq t.cf t.cf.length k
theorem Gd(up:List Int):∀ (n:Nat) (k:Int),(lq up n k).length<=n
 | 0,_=>by simp [lq]
 | n+1,k=>by
  unfold lq
  split
  ·have:=Gd up n ((up[k.toNat]?).getD 0);simp; omega
  ·simp
theorem AS{up:List Int}{k:Int}(h:ar k 0 ((up.length:Int) - 1)=true):cN up k=some ((up[k.toNat]?).getD 0):=by
 have:=cd h;have h1:k.toNat < up.length:=by omega
 simp [cN,this.1,h1]
theorem LY{u:Nat}(hu:1099511627776<=u){t:cT}(hl:t.cf.length<=1048576)(k:Int):vd u t k=some (Gb t k):=by
 have main:∀ (n f:Nat) (k:Int) (o:List Int),o.length+n=t.cf.length->n < f->hJ u f k o t=some (o++lq t.cf n k):=by
  intro n
  induction n with
  | zero =>
   intro f k o h1 h2;obtain ⟨f,rfl⟩:∃ j,f=j+1:=⟨f - 1,by omega⟩;have e:decide ((o.length:Int) < (t.cf.length:Int))=false:=by simp; omega
   unfold hJ pi ta;simp (disch:=omega) only [cJ,bL,wk,e,cond_false,lq,zWj]
   cases ar k 0 ((t.cf.length:Int) - 1) <;> rfl
  | succ n ih =>
   intro f k o h1 h2;obtain ⟨f,rfl⟩:∃ j,f=j+1:=⟨f - 1,by omega⟩;have e:decide ((o.length:Int) < (t.cf.length:Int))=true:=by simp; omega
   unfold hJ pi ta;simp (disch:=omega) only [cJ,bL,wk,e,lq]
   cases hw:ar k 0 ((t.cf.length:Int) - 1) with
   | false=>simp
   | true =>
    have e2:c9 (decide ((o.length+([k]).length)*8<=140737488355328))=some ():=bl (by simp; omega);have e2':c9 (decide ((o.length+([(0:Int)]).length)*8<=140737488355328))=some ():=bl (by simp; omega);simp only [cond_true,AS hw,wk,e2,↓reduceIte];rw [ih f _ (o++[k]) (by simp; omega) (by omega),zQz,List.singleton_append]
 unfold vd Gb;rw [main t.cf.length u k [] (by simp) (by omega),zQy]
def ND(t:cT)(a k:Int):Bool:=(a != k) && (Gb t k).any λy=>y == a
theorem HS{u:Nat}(hu:1099511627776<=u){t:cT}(hl:t.cf.length<=1048576)(a k:Int):q5 u t a k=some (ND t a k):=by
 have:=Gd t.cf t.cf.length k;unfold q5 ND;rw [LY hu hl];simp only [wk];rw [LJ hu (by unfold Gb; omega)]
 cases a != k <;> rfl
def xU(t:cT)(k b:Int):Int:=if jx t && ar k 1 ((t.cf.length:Int) - 1) then (if ND t b k && decide (0 < b) then (t.cf[b.toNat]?).getD 0 else (t.cf[k.toNat]?).getD 0) else -1
theorem It{up:List Int}:∀ {n:Nat} {k a:Int},a∈lq up n k->ar a 0 ((up.length:Int) - 1)=true
 | 0,_,_,h=>by simp [lq] at h
 | n+1,k,a,h=>by
  unfold lq at h
  split at h
  ·rename_i hk;rcases List.mem_cons.1 h with rfl | h
   ·exact hk
   ·exact It h
  ·simp at h
theorem Ui{t:cT}{a k:Int}(h:ND t a k=true):ar a 0 ((t.cf.length:Int) - 1)=true:=by
 unfold ND at h;simp only [sk,List.any_eq_true,beq_iff_eq] at h;obtain ⟨_,y,hy,rfl⟩:=h;exact It hy
theorem HT{u:Nat}(hu:1099511627776<=u){t:cT}(hl:t.cf.length<=1048576)(k b:Int):q6 u t k b=some (xU t k b):=by
 unfold q6 qe qd xU;simp (disch:=omega) only [xT hu (show t.cf.length<=1073741824 by omega),bL,cJ,HS hu hl,wk]
 cases jx t with
 | false=>rfl
 | true =>
  cases hw:ar k 1 ((t.cf.length:Int) - 1) with
  | false=>rfl
  | true =>
   have:=cd hw;have hk:ar k 0 ((t.cf.length:Int) - 1)=true:=by unfold ar; simp; omega
   by_cases hb:b<=0
   ·have h1:¬ (0 < b):=by omega
    simp [hb,h1,AS hk]
   ·have h1:0 < b:=by omega
    cases ha:ND t b k with
    | false=>simp [hb,AS hk]
    | true=>simp [hb,h1,AS (Ui ha)]
theorem u3{α:Type}(f:α->Bool):∀ (l:List α) (i:Nat),(fa f l i=-1/\∀ x∈l,f x=false)\/∃ (j:Nat) (x:α),fa f l i=((i+j:Nat):Int)/\l[j]?=some x/\f x=true
 | [],i=>.inl ⟨rfl,by simp⟩
 | y :: l,i=>by
  cases hy:f y with
  | true=>exact .inr ⟨0,y,by simp [fa,hy],rfl,hy⟩
  | false =>
   rcases u3 f l (i+1) with ⟨h1,h2⟩ | ⟨j,x,h1,h2,h3⟩
   ·exact .inl ⟨by simp [fa,hy,h1],by simp [hy]; exact h2⟩
   ·exact .inr ⟨j+1,x,by simp [fa,hy,h1]; omega,by simpa using h2,h3⟩
def wP(l:List bM)(id:Int):Int:=fa (λx=>x.oJ == id) l 0
theorem zo{u:Nat}(hu:1099511627776<=u){l:List bM}(hl:l.length<=1048577)(id:Int):sv u l id=some (wP l id):=by
 unfold sv;rw [IQ u l id () u (by omega) (by omega)];exact P2 (λ(x:bM)=>x.oJ == id) rfl (λx i k _=>rfl)
theorem LZ{α β ρ:Type}{fin:List β->Option ρ}{body:α->Nat->List β->(List β->Option ρ)->Option ρ}(f:α->Bool)(g:α->β){xs:List α}(hb:∀ x i s k,xs[i]?=some x->i < xs.length->s.length<=i->body x i s k=bif f x then k (s++[g x]) else k s) :
  ∀ (l:List α) (i:Nat) (s:List β),l=xs.drop i->s.length<=i->bU fin body l i s=fin (s++(l.filter f).map g):=by
 intro l
 induction l with
 | nil=>intro i s _ _; simp [bU]
 | cons x l ih =>
  intro i s h hs;have hx:xs[i]?=some x:=by
   have:=congrArg zYG h
   simpa [zXV] using this.symm
  have hl:l=xs.drop (i+1):=by
   have:=congrArg zYk h
   simpa [zXq] using this
  have hi:i < xs.length:=(List.getElem?_eq_some_iff.1 hx).1;simp only [bU];rw [hb x i s _ hx hi hs]
  cases hf:f x with
  | true=>rw [cond_true,ih (i+1) _ hl (by simp; omega)]; simp [hf]
  | false=>rw [cond_false,ih (i+1) _ hl (by omega)]; simp [hf]
def Uj(x:bM):bM:=⟨x.oJ,x.bQ,x.bV,aW .i64 x.uO 1,0⟩
def lr(l:List bM)(forget:Int):List bM:=(l.filter λx=>decide (x.uO < forget)).map Uj
theorem L0{u:Nat}(hu:1099511627776<=u){l:List bM}(hl:l.length<=1048576)(n:Int):u9 u l n=some (lr l n):=by
 unfold u9;rw [GS u l n [] u (by omega) (by omega),LZ (λx=>decide (x.uO < n)) Uj (λx i s k _ hi hs=>?_) l 0 [] rfl (by simp)]
 ·rfl
 ·unfold zx mL;have e:c9 (decide ((s.length+([(bM.mk x.oJ x.bQ x.bV (aW .i64 x.uO 1) 0)]).length)*40<=140737488355328))=some ():=bl (by simp; omega)
  by_cases h:x.uO < n
  ·have h2:¬ (x.uO>=n):=by omega
   simp only [h,h2,decide_true,decide_false,cond_true,cond_false,e,wk]; rfl
  ·have h2:x.uO>=n:=by omega
   simp only [h,h2,decide_true,decide_false,cond_true,cond_false]
theorem sO(l:List bM)(id:Int):(wP l id=-1/\∀ x∈l,x.oJ≠id)\/∃ (j:Nat) (x:bM),wP l id=(j:Int)/\l[j]?=some x/\x.oJ=id:=by
 rcases u3 (λ(x:bM)=>x.oJ == id) l 0 with ⟨h1,h2⟩ | ⟨j,x,h1,h2,h3⟩
 ·exact .inl ⟨h1,λx hx=>by simpa using h2 x hx⟩
 ·exact .inr ⟨j,x,by unfold wP; rw [h1]; simp,h2,by simpa using h3⟩
def od(l:List bM)(id have_:Int):Int:=match cN l (wP l id) with
 | some x=>if cG have_ && cG x.bQ && cG x.mx then J9 .i64 (eH .i64 x.bQ have_) x.mx else 0
 | none=>0
theorem Cm{u:Nat}(hu:1099511627776<=u){l:List bM}(hl:l.length<=1048577)(id s:Int):sI u l id s=some (od l id s):=by
 unfold sI mR od;simp only [zo hu hl,gZ,wk];rcases sO l id with ⟨h1,_⟩ | ⟨j,x,h1,h2,_⟩
 ·rw [h1]; rfl
 ·have e:decide ((j:Int) < 0)=false:=by simp
  simp only [h1,e,cond_false,b9,h2,wk]
  cases cG s <;> cases cG x.bQ <;> cases cG x.mx <;> rfl
def nI(l:List bM)(id s:Int):List bM:=match cN l (wP l id) with
 | some x=>if cG s && cG x.mx then l.set (wP l id).toNat ⟨x.oJ,x.bQ,x.bV,x.uO,qP .i64 x.mx s⟩ else l
 | none=>l
theorem Ge{l:List bM}(hl:l.length<=1048577):c9 (decide (((([]:List bM)).length+l.length)*40<=140737488355328))=some ():=bl (by simp; omega)
theorem Gf(u:Nat){l:List bM}(hl:l.length<=1048577):cY u l=some l:=by
 unfold cY;rw [Ge hl]; rfl
theorem Ah{u:Nat}(hu:1099511627776<=u){l:List bM}(hl:l.length<=1048577)(id s:Int):ov u l id s=some (nI l id s):=by
 unfold ov mS nI;simp only [Ge hl,zo hu hl,gZ,wk,zQy];rcases sO l id with ⟨h1,_⟩ | ⟨j,x,h1,h2,_⟩
 ·rw [h1]; rfl
 ·have e:decide ((j:Int) < 0)=false:=by simp
  simp only [h1,e,cond_false,b9,h2,wk]
  cases cG s <;> cases cG x.mx <;> rfl
theorem Gg(l:List bM)(id s:Int):(nI l id s).length=l.length:=by
 unfold nI
 split
 ·split <;> simp
 ·rfl
def vC(l:List bM)(id:Int):Nat:=if fa (λ(x:bM)=>decide (x.oJ > id)) l 0 < 0 then l.length else (fa (λ(x:bM)=>decide (x.oJ > id)) l 0).toNat
def qO(l:List bM)(id want done:Int):List bM :=
 if ar id 0 6 && cG want && cG done then match cN l (wP l id) with
  | some x=>l.set (wP l id).toNat ⟨x.oJ,want,qP .i64 x.bV done,0,x.mx⟩
  | none=>l.take (vC l id)++[⟨id,want,done,0,0⟩]++l.drop (vC l id)
 else l
theorem NE(l:List bM)(id:Int):vC l id<=l.length:=by
 unfold vC;rcases u3 (λ(x:bM)=>decide (x.oJ > id)) l 0 with ⟨h1,_⟩ | ⟨j,x,h1,h2,_⟩
 ·rw [h1]; simp
 ·have:=(List.getElem?_eq_some_iff.1 h2).1;rw [h1]; split <;> omega
theorem JG{u:Nat}{l:List bM}(hl:l.length<=1048576)(id w d:Int):∀ (ys:List bM) (f i:Nat),ys=l.drop i->i<=l.length->ys.length < f ->
  kg u f id w d l (i:Int)=wG u id w d l (if fa (λ(x:bM)=>decide (x.oJ > id)) ys i < 0 then (l.length:Int) else fa (λ(x:bM)=>decide (x.oJ > id)) ys i):=by
 intro ys
 induction ys with
 | nil =>
  intro f i h hi hf;obtain ⟨f,rfl⟩:∃ j,f=j+1:=⟨f - 1,by omega⟩;have h1:i=l.length:=by
   have:=congrArg zYK h;simp at this;omega
  subst h1;unfold kg tg;simp only [zQy,Int.lt_irrefl,decide_false,cond_false,fa];rfl
 | cons y ys ih =>
  intro f i h hi hf;obtain ⟨f,rfl⟩:∃ j,f=j+1:=⟨f - 1,by omega⟩;have hx:l[i]?=some y:=by
   have:=congrArg zYG h
   simpa [zXV] using this.symm
  have hy:ys=l.drop (i+1):=by
   have:=congrArg zYk h
   simpa [zXq] using this
  have hlt:i < l.length:=(List.getElem?_eq_some_iff.1 hx).1;have e:decide ((i:Int) < (l.length:Int))=true:=by simp; omega
  unfold kg tg;simp only [zQy,e,cond_true,b9,hx,wk,fa]
  by_cases hc:y.oJ<=id
  ·have hc2:¬ (y.oJ > id):=by omega
   simp only [hc,hc2,decide_true,decide_false,cond_true,zQk,↓reduceIte];rw [db (by omega)];simp only [zQV] at hf;exact ih f (i+1) hy (by omega) (by omega)
  ·have hc2:y.oJ > id:=by omega
   have:¬ ((i:Int) < 0):=by omega
   simp only [hc,hc2,decide_true,decide_false,cond_false,this,↓reduceIte]
theorem Ox{u:Nat}(hu:1099511627776<=u){l:List bM}(hl:l.length<=1048576)(id w d:Int):zF u l id w d=some (qO l id w d):=by
 unfold zF th qO;simp only [Ge (show l.length<=1048577 by omega),bL,gZ,zo hu (show l.length<=1048577 by omega),wk,zQy]
 cases h1:ar id 0 6 with
 | false=>rfl
 | true=>cases h2:cG w with
  | false=>rfl
  | true=>cases h3:cG d with
   | false=>rfl
   | true =>
    simp only [zQW,cond_false,zXH,↓reduceIte];rcases sO l id with ⟨h4,_⟩ | ⟨j,x,h4,h5,_⟩
    ·have e:cN l (-1)=none:=by simp [cN]
     rw [h4,e,show decide ((-1:Int) < 0)=true from rfl,cond_true,show ((0:Int))=((0:Nat):Int) from rfl,JG hl id w d l u 0 rfl (by omega) (by omega)];have hp:=NE l id;have e2:(if fa (λ(x:bM)=>decide (x.oJ > id)) l 0 < 0 then (l.length:Int) else fa (λ(x:bM)=>decide (x.oJ > id)) l 0)=((vC l id:Nat):Int):=by
      unfold vC; split <;> omega
     rw [e2];generalize vC l id=q at hp;unfold wG;simp only [zQy];have c1:=gN (a:=0) (b:=q) (n:=l.length) (by omega) hp;have c2:=gN (a:=q) (b:=l.length) (n:=l.length) hp (by omega);rw [show ((0:Nat):Int)=0 from rfl] at c1;rw [c1,c2];simp only [wk];rw [bl (by simp; omega),bl (by simp; omega),bl (by simp; omega)];simp
    ·have e:decide ((j:Int) < 0)=false:=by simp
     simp only [h4,e,cond_false,b9,h5,wk]
theorem Qb(l:List bM)(id w d:Int):(qO l id w d).length<=l.length+1:=by
 unfold qO
 split
 ·split
  ·simp
  ·have:=NE l id;simp; omega
 ·omega
theorem S8{α:Type}{fin:Unit->Option Bool}{body:Nat->Unit->(Unit->Option Bool)->Option Bool}(f:α->Nat->Bool){xs:List α}{b:Bool}(hf:fin ()=some b)(hb:∀ x i k,xs[i]?=some x->body i () k=bif f x i then k () else some false) :
  ∀ (l:List α) (i:Nat),l=xs.drop i->n5 fin body l.length i ()=some (lE f l i && b):=by
 intro l
 induction l with
 | nil=>intro i _; simp [n5,lE,hf]
 | cons x l ih =>
  intro i h;have hx:xs[i]?=some x:=by
   have:=congrArg zYG h
   simpa [zXV] using this.symm
  have hl:l=xs.drop (i+1):=by
   have:=congrArg zYk h
   simpa [zXq] using this
  simp only [zQV,n5,lE];rw [hb x i _ hx,ih (i+1) hl]
  cases f x i <;> simp
def Ai(n:Nat):Int:=if n<=40 then ((2 ^ n - 1:Nat):Int) else 0
theorem Aj(u:Nat){m:ah}:oq u m=some (Ai m.aJ.length):=by
 unfold oq Ai
 by_cases h:m.aJ.length<=40
 ·rw [JB u h]; simp [h]
 ·have h1:ar (m.aJ.length:Int) 0 40=false:=by
   unfold ar; simp; omega
  unfold qf;rw [bL,h1];simp [h]
def Ak(a b:Int):Int:=if cG a && cG b then J9 .i64 a b else 0
theorem Bj(u:Nat)(a b:Int):qg u a b=some (Ak a b):=by
 unfold qg rM Ak;simp only [gZ,wk]
 cases cG a <;> cases cG b <;> rfl
def CO(m:ah)(x:bI):Int:=Ak (Ai m.aJ.length) x.bq
theorem Bk(u:Nat)(m:ah)(x:bI):qh u m x=some (CO m x):=by
 unfold qh CO;simp only [Aj,Bj,wk]
def M.at_(m:ah)(i:Int):Nat:=(cm m.aC m.aY i).1.toNat
def uM(m:ah)(i:Int):Nat:=(cm m.aC m.aY i).2.toNat
def Kg(m:ah)(x:bI)(i:Int):List Int:=M.win x.bZ (M.at_ m i) (uM m i)
theorem Qc{m:ah}{b:List Int}(hb:(b.length:Int)=m.aY)(hl:b.length<=1048576)(i:Int) :
  c9 (cE (cm m.aC m.aY i).1 (aW .i64 (cm m.aC m.aY i).1 (cm m.aC m.aY i).2) b.length)=some () /\
  (b.take (sY (aW .i64 (cm m.aC m.aY i).1 (cm m.aC m.aY i).2))).drop (sY (cm m.aC m.aY i).1)=M.win b (M.at_ m i) (uM m i) /\
  M.at_ m i+uM m i<=b.length/\uM m i<=6:=by
 obtain ⟨h1,h2,h3,h4⟩:=tW (size:=m.aC) (n:=m.aY) (i:=i) (by omega);unfold M.at_ uM;generalize cm m.aC m.aY i=s at *;obtain ⟨a,c⟩:=s;dsimp only at *;obtain ⟨a,rfl⟩:∃ n:Nat,a=n:=⟨a.toNat,by omega⟩;obtain ⟨c,rfl⟩:∃ n:Nat,c=n:=⟨c.toNat,by omega⟩;simp only [zQQ] at *;rw [pQ (by omega),gN (by omega) (by omega)];exact ⟨rfl,rfl,by omega,by omega⟩
def EC(m:ah)(x:bI)(s:b4)(i:Nat):Bool :=
 if ff x.bq i then decide (ef (Kg m x i)=s) else (Kg m x i).all λc=>c == 0
def kP(m:ah)(x:bI):Bool :=
 cS m && cG x.bq && (Ak x.bq (Ai m.aJ.length) == 0) && ((x.bZ.length:Int) == m.aY) && lE (EC m x) m.aJ 0
theorem L1{u:Nat}(hu:1099511627776<=u){b:List Int}(hl:b.length<=1048576):nj u b=some (b.all λc=>c == 0):=by
 unfold nj;rw [GV u b () u (by omega) (by omega),EB (λ(c:Int) _=>c == 0) (xs:=b) (b:=true) rfl 0 (λx i k _ hx=>?_) b 0 (zWq _) rfl,Bool.and_true]
 ·congr 1
  have:∀ (l:List Int) (i:Nat),lE (λ(c:Int) _=>c == 0) l i=l.all λc=>c == 0:=by
   intro l
   induction l with
   | nil=>intro i; rfl
   | cons x l ih=>intro i; simp [lE,ih]
  exact this b 0
 ·unfold zA;rw [Ep]
  cases x == 0 <;> rfl
structure M.BldWf (x:bI):Prop where
 b:aq x.bZ
 l:x.bZ.length<=1048576
theorem HU{b:List Int}(h:aq b)(hl:b.length<=1048576)(i n:Nat):aq (M.win b i n)/\(M.win b i n).length<=1048576:=by
 refine ⟨pP h i n,?_⟩;have:(M.win b i n).length<=b.length:=by unfold M.win; simp; omega
 omega
theorem vZ{u:Nat}(hu:1099511627776<=u){m:ah}(hm:m.aJ.length<=1048576){x:bI}(hx:M.BldWf x):nv u m x=some (kP m x):=by
 unfold nv lN kP;simp only [gr hu m (show m.aJ.length<=1073741824 by omega),gZ,Aj,Bj,wk]
 cases cS m with
 | false=>rfl
 | true=>cases cG x.bq with
  | false=>rfl
  | true =>
   rw [Ep,Ep]
   cases Ak x.bq (Ai m.aJ.length) == 0 with
   | false=>rfl
   | true =>
    by_cases hb:(x.bZ.length:Int)=m.aY
    ·have e:((x.bZ.length:Int) == m.aY)=true:=by simpa using hb
     simp only [e,zQW,cond_false,zXH,zWG];have hl:=hx.l;rw [Fa u m x () u (by omega) (by omega),zQQ,S8 (EC m x) (xs:=m.aJ) (b:=true) rfl (λs i k hs=>?_) m.aJ 0 rfl,Bool.and_true];obtain ⟨c1,c2,c3,c4⟩:=Qc hb hl i;obtain ⟨b1,b2⟩:=HU hx.b hl (M.at_ m i) (uM m i);unfold ym dZ EC Kg;simp only [jt,kB,b9,hs,wk,c1,c2,mu hu b1 (show _<=1073741824 by omega),L1 hu b2,Kd]
     cases ff x.bq i with
     | true=>simp only [cond_true,↓reduceIte,zQW,cond_false]; cases decide (ef (M.win x.bZ (M.at_ m i) (uM m i))=s) <;> rfl
     | false=>simp only [cond_false,zVQ,cond_true,zQk,↓reduceIte]; cases (M.win x.bZ (M.at_ m i) (uM m i)).all λc=>c == 0 <;> rfl
    ·have e:((x.bZ.length:Int) == m.aY)=false:=by simpa using hb
     simp [e]
def Oy(m:ah)(x:bI):Bool:=(m.aO != 0) && kP m x && (CO m x == 0)
theorem MR{u:Nat}(hu:1099511627776<=u){m:ah}(hm:m.aJ.length<=1048576){x:bI}(hx:M.BldWf x):xe u m x=some (Oy m x):=by
 unfold xe Oy;simp only [vZ hu hm hx,Bk,wk]
 cases m.aO != 0 <;> cases kP m x <;> rfl
def M.tells(m:ah)(b:List Int):Bool:=((b.length:Int) == m.aY) && M.same (λx y=>decide (x=y)) (xN b m.aC) m.aJ
theorem Dz{u:Nat}(hu:1099511627776<=u)(m:ah){b:List Int}(hb:aq b)(hl:b.length<=1048576):ug u m b=some (M.tells m b):=by
 unfold ug M.tells;rw [Cf hu hb (by omega)];simp only [wk];rw [xO hu (by unfold xN; have:=eS m.aC b.length; simp; omega)]
 cases (b.length:Int) == m.aY <;> rfl
theorem Gi{b:List Int}(hl:b.length<=1048576):c9 (decide (((([]:List Int)).length+b.length)*1<=140737488355328))=some ():=bl (by simp; omega)
theorem xV(u:Nat){m:ah}(hm:m.aJ.length<=1048576):mc u m=some m:=by
 unfold mc;rw [bl (by simp; omega)]; rfl
theorem Cn(u:Nat){x:bI}(hl:x.bZ.length<=1048576):nh u x=some x:=by
 unfold nh;rw [Gi hl]; rfl
theorem JH(u:Nat){m:ah}(hm:m.aJ.length<=1048576):tr u m=some m:=by
 unfold tr dz;rw [bl (by simp; omega)]; rfl
theorem Gj(u:Nat){x:bI}(hl:x.bZ.length<=1048576):pq u x=some x:=by
 unfold pq;rw [gu u (by omega)]; rfl
structure M.NodWf (n:aH):Prop where
 s:n.aD.aJ.length<=1048576
 b:M.BldWf n.bD
 k:n.bj.length<=1048577
 w:oY n.aD
theorem fF(u:Nat){n:aH}(h:M.NodWf n):dj u n=some n:=by
 unfold dj;rw [xV u h.s,Cn u h.b.l,wk,wk,Ge (by have:=h.k; omega)]; rfl
theorem HV(u:Nat){n:aH}(h:M.NodWf n):oz u n=some n:=by
 unfold oz;rw [JH u h.s,Gj u h.b.l,Gf u (by have:=h.k; omega)]; rfl
def il(m:ah)(x:bI)(i:Int):List Int×Bool:=if kP m x && ff x.bq i then (Kg m x i,true) else ([],false)
theorem Co{m:ah}{x:bI}(h:kP m x=true):(x.bZ.length:Int)=m.aY:=by
 unfold kP at h;simp only [sk,beq_iff_eq] at h;exact h.1.2
theorem Bl{u:Nat}(hu:1099511627776<=u){m:ah}(hm:m.aJ.length<=1048576){x:bI}(hx:M.BldWf x)(i:Int):ny u m x i=some (il m x i):=by
 unfold ny rS il;simp only [vZ hu hm hx,kB,wk]
 cases hb:kP m x with
 | false=>rfl
 | true=>cases ff x.bq i with
  | false=>rfl
  | true =>
   obtain ⟨c1,c2,c3,c4⟩:=Qc (Co hb) hx.l i;have c5:=(HU hx.b hx.l (M.at_ m i) (uM m i)).2;simp only [zQW,cond_false,jt,wk,c1,c2,Gi c5,zXH,↓reduceIte,zQy];rfl
theorem L2:∀ (b:List Int) (s:Int) (n:Nat),aq b->(256:Int) ^ n<=s->(256:Int) ^ (n+b.length)<=iS b s:=by
 intro b
 induction b with
 | nil=>intro s n _ h; exact h
 | cons c b ih =>
  intro s n hb h;have hc:=hb c (by simp);have:=ih (256*s+c) (n+1) (λz hz=>hb z (by simp [hz])) (by rw [zWh]; omega);simp only [zQV,iS];rwa [show n+(b.length+1)=n+1+b.length by omega]
theorem Iu{a b:Nat}(h:a<=b):(256:Int) ^ a<=256 ^ b:=by
 induction h with
 | refl=>exact Int.le_refl _
 | step h ih =>
  rename_i c;have:(0:Int) < 256 ^ c:=Int.pow_pos (by omega);rw [zWh]; omega
theorem NF{b:List Int}{s:b4}{size len:Int}{i:Nat}(hb:aq b)(h:ef b=s)(hf:rD size len i s=true):(b.length:Int)=(cm size len i).2/\b.length<=6:=by
 unfold rD at hf;simp only [sk,beq_iff_eq] at hf;obtain ⟨⟨h1,h2⟩,_⟩:=hf;have h3:bW s.fS=((bW s.fS).1,true):=by rw [<- h1]
 obtain ⟨h4,h5,_,h6⟩:=AJ h3;generalize (bW s.fS).1=c at *;unfold ef at h
 split at h
 ·rw [<- h] at h4; simp at h4
 ·rename_i hl;have hs:s.fS=iS b 1:=by rw [<- h]
  have h7:=(LA b 1 0 hb (by omega) (by omega)).2;have h8:=L2 b 1 0 hb (by simp);simp only [zWV] at h7 h8;rw [hs] at h5;have hp:(0:Int) < 256 ^ c.length:=Int.pow_pos (by omega);have h9:256 ^ c.length<=iS b 1:=by
   have:=Int.mul_ediv_self_le (x:=iS b 1) (k:=256 ^ c.length) (by omega);rw [h5] at this; omega
  have h10:iS b 1 < 256 ^ c.length*2:=by
   have:=Int.lt_mul_ediv_self_add (x:=iS b 1) hp;rw [h5] at this; omega
  have:b.length=c.length:=by
   rcases Nat.lt_trichotomy b.length c.length with h | h | h
   ·have:=Iu (show b.length+1<=c.length by omega);rw [zWh] at this; omega
   ·exact h
   ·have:=Iu (show c.length+1<=b.length by omega);rw [zWh] at this; omega
  omega
theorem Iv{size len:Int}:∀ {l:List b4} {i j:Nat} {s:b4},kN size len l i=true->l[j]?=some s->rD size len (i+j) s=true
 | [],_,_,_,_,h=>by simp at h
 | x :: l,i,0,s,h,hs=>by
  simp only [kN,sk] at h;simp at hs; subst hs; exact h.1
 | x :: l,i,j+1,s,h,hs=>by
  simp only [kN,sk] at h;have:=Iv h.2 (by simpa using hs);rwa [show i+1+j=i+(j+1) by omega] at this
theorem NG{m:ah}(hm:cS m=true){i:Nat}{s:b4}(hs:m.aJ[i]?=some s):rD m.aC m.aY i s=true:=by
 unfold cS at hm
 split at hm
 ·simp only [sk,beq_iff_eq] at hm;have:=(List.getElem?_eq_some_iff.1 hs).1;omega
 ·simp only [sk] at hm;have:=Iv hm.2 hs
  simpa using this
theorem ED{m:ah}(hm:cS m=true):0<=m.aY/\m.aY<=240:=by
 unfold cS at hm
 split at hm
 ·simp only [sk,beq_iff_eq] at hm; omega
 ·simp only [sk] at hm;have:=vw hm.1.1.2;omega
def M.put(m:ah)(x:bI)(i:Int)(b:List Int):bI:=⟨qP .i64 x.bq (gl .i64 1 i),KU x.bZ b (M.at_ m i)⟩
def t5(m:ah)(x:bI)(i:Int)(b:List Int):Bool×bI :=
 if ar i 0 ((m.aJ.length:Int) - 1) && !ff x.bq i && (match m.aJ[i.toNat]? with | some s=>decide (ef b=s) | none=>false) then (true,M.put m x i b) else (false,x)
theorem Uk(m:ah)(x:bI)(i:Int)(b:List Int):t5 m x i b=(true,M.put m x i b)\/t5 m x i b=(false,x):=by
 unfold t5;generalize (ar i 0 ((m.aJ.length:Int) - 1) && !ff x.bq i && (match m.aJ[i.toNat]? with | some s=>decide (ef b=s) | none=>false))=c
 cases c
 ·exact .inr rfl
 ·exact .inl rfl
theorem W0(u:Nat)(p2:Int)(p3:List Int)(r6:Int×Int)(x:bI)(a:Nat)(ha:r6.1=(a:Int))(hal:a<=1048576):∀ (l:List Int) (i:Nat) (s:List Int),a+i+l.length<=s.length->s.length<=4194304 ->
  bU (vJ u p2 p3 r6 x) (vK u p2 p3 r6 x) l i s=(gX u x.bq p2).bind λq=>some (true,⟨q,s.take (a+i)++l++s.drop (a+i+l.length)⟩):=by
 intro l
 induction l with
 | nil=>intro i s _ _; simp [bU,vJ,uR]
 | cons y l ih =>
  intro i s h1 h2;simp only [zQV] at h1;simp only [bU,vK];rw [ha,cq (by omega) (by omega),show (a:Int)+(i:Int)=((a+i:Nat):Int) by omega,b9,sX (by omega),zQQ];simp only [wk];rw [ih (i+1) _ (by simp; omega) (by simp; omega)];have e1:(s.set (a+i) y).take (a+(i+1))=s.take (a+i)++[y]:=by
   rw [show a+(i+1)=(a+i)+1 by omega,zZy,List.take_set_of_le (zWq _)];simp [show a+i < s.length by omega]
  have e2:(s.set (a+i) y).drop (a+(i+1)+l.length)=s.drop (a+i+(y :: l).length):=by
   rw [List.drop_set_of_lt (by omega)]; simp only [zQV]; congr 1; omega
  rw [e1,e2]; simp
theorem Gk{m:ah}{b:List Int}(hb:(b.length:Int)=m.aY)(i:Int):(cm m.aC m.aY i).1=(M.at_ m i:Int)/\(cm m.aC m.aY i).2=(uM m i:Int)/\M.at_ m i+uM m i<=b.length:=by
 obtain ⟨h1,h2,h3,h4⟩:=tW (size:=m.aC) (n:=m.aY) (i:=i) (by omega);unfold M.at_ uM;omega
theorem Rw{i:Int}{n:Nat}(h:ar i 0 ((n:Int) - 1)=true)(hn:n<=40):iT i=true/\0<=i:=by
 have:=cd h;unfold iT ar;simp; omega
theorem Al(u:Nat){s i:Int}(hs:cG s=true)(hi:iT i=true):gX u s i=some (qP .i64 s (gl .i64 1 i)):=by
 have:=cd hi;unfold gX mD;rw [gZ,hs];simp only [wk,zQW,cond_false];rw [bL,show ar i 0 39=true from hi];simp only [wk,zQW,cond_false];rw [bl (by omega)]; rfl
theorem DA{u:Nat}(hu:1099511627776<=u){m:ah}(hm:cS m=true){x:bI}(hx:(x.bZ.length:Int)=m.aY)(hs:cG x.bq=true)(i:Int){b:List Int}(hb:aq b)(hl:b.length<=1048576) :
  so u m x i b=some (t5 m x i b):=by
 have h40:=uK hm;have h240:=ED hm;unfold so oh t5;simp (disch:=omega) only [cJ,bL,kB,mu hu hb (show b.length<=1073741824 by omega),wk,Kd]
 cases hw:ar i 0 ((m.aJ.length:Int) - 1) with
 | false=>simp
 | true=>cases ff x.bq i with
  | true=>simp
  | false =>
   have hw':=cd hw;obtain ⟨n,rfl⟩:∃ n:Nat,i=n:=⟨i.toNat,by omega⟩;have hn:n < m.aJ.length:=by omega
   obtain ⟨s,hs'⟩:∃ s,m.aJ[n]?=some s:=⟨_,sX hn⟩;simp only [zQW,zVQ,cond_false,b9,hs',wk,zQQ,zWG]
   by_cases hq:ef b=s
   ·obtain ⟨h1,h2⟩:=NF hb hq (NG hm hs');have h3:decide ((b.length:Int) > 6)=false:=by simp; omega
    obtain ⟨e1,e2,e3⟩:=Gk (b:=x.bZ) hx n;have h4:b.length=uM m n:=by omega
    simp only [hq,decide_true,zQW,cond_false,h3,jt,wk,↓reduceIte];rw [IL u n b _ x x.bZ u (by omega) (by omega),W0 u n b _ x (M.at_ m n) e1 (by omega) b 0 x.bZ (by omega) (by omega),Al u hs (Rw hw (by omega)).1];unfold M.put;rw [F5 (by omega)];rfl
   ·simp [hq]
def nJ(m:ah)(x:bI)(i:Int)(b:List Int):bI×Bool:=if kP m x && (t5 m x i b).1 then (M.put m x i b,true) else (x,false)
theorem Iw{m:ah}{x:bI}(h:kP m x=true):cS m=true/\cG x.bq=true:=by
 unfold kP at h;simp only [sk] at h;exact ⟨h.1.1.1.1,h.1.1.1.2⟩
theorem HW{u:Nat}(hu:1099511627776<=u){m:ah}(hm:m.aJ.length<=1048576){x:bI}(hx:M.BldWf x)(i:Int){b:List Int}(hb:aq b)(hl:b.length<=1048576):rc u m x i b=some (nJ m x i b):=by
 unfold rc qj nJ;simp only [Cn u hx.l,vZ hu hm hx,wk]
 cases hk:kP m x with
 | false=>rfl
 | true =>
  obtain ⟨h1,h2⟩:=Iw hk;simp only [zQW,cond_false,DA hu h1 (Co hk) h2 i hb hl,wk,zWG];rcases Uk m x i b with h | h <;> rw [h] <;> rfl
def CP(m:ah)(old:List Int):Nat->Nat->bI->bI
 | 0,_,x=>x
 | n+1,i,x=>CP m old n (i+1) (if 0<=fL old m i then M.put m x i (M.win old (fL old m i).toNat (uM m i)) else x)
def pU(m:ah):bI:=if cS m then ⟨0,zQH m.aY.toNat 0⟩ else ⟨0,[]⟩
def vD(m:ah)(old:List Int):bI:=if cS m then CP m old m.aJ.length 0 (pU m) else ⟨0,[]⟩
theorem Oz{m:ah}(hm:cS m=true):c9 (decide (0<=m.aY) && (m.aY == 0 || m.aY == m.aY))=some ()/\c9 (decide (sY m.aY*1<=140737488355328))=some ():=by
 have:=ED hm;refine ⟨by simp [c9]; omega,bl (by omega)⟩
theorem HX{u:Nat}(hu:1099511627776<=u){m:ah}(hm:m.aJ.length<=1048576):qU u m=some (pU m):=by
 unfold qU pU;simp only [gr hu m (show m.aJ.length<=1073741824 by omega),wk]
 cases h:cS m with
 | false=>rfl
 | true=>obtain ⟨h1,h2⟩:=Oz h; rw [h1,h2]; rfl
theorem Gl{b:List Int}{s:b4}{n:Nat}:∀ (c i:Nat),0<=iU b s n c i->ef (M.win b (iU b s n c i).toNat n)=s
 | 0,_,h=>by simp [iU] at h
 | c+1,i,h=>by
  unfold iU at h ⊢
  split
  ·rename_i hq; simpa using hq
  ·rename_i hq;rw [if_neg hq] at h;exact Gl c (i+1) h
theorem L3{old:List Int}{m:ah}{i:Nat}(h:0<=fL old m i):∃ s,m.aJ[i]?=some s/\0<=(cm m.aC m.aY i).2/\ef (M.win old (fL old m i).toNat (uM m i))=s/\(fL old m i).toNat+uM m i<=old.length:=by
 unfold fL at h ⊢
 split at h
 ·rename_i s hs;simp only [hs];unfold wW at h ⊢
  split at h
  ·rename_i hw;have:=cd hw;rw [if_pos hw];have h1:=Gl _ _ h;have h2:=LF old s (cm m.aC m.aY i).2.toNat (old.length+1 - (cm m.aC m.aY i).2.toNat) 0;refine ⟨s,rfl,by omega,h1,?_⟩;unfold uM;omega
  ·omega
 ·omega
structure M.Part (m:ah) (i:Nat) (x:bI):Prop where
 b:M.BldWf x
 l:(x.bZ.length:Int)=m.aY
 h:∃ n:Nat,x.bq=n/\n < 2 ^ i
theorem Cp{x p:List Int}{a:Nat}(h:a+p.length<=x.length)(hx:aq x)(hp:aq p):aq (KU x p a)/\(KU x p a).length=x.length:=by
 rw [F5 h];refine ⟨λz hz=>?_,by simp; omega⟩;simp only [zWJ] at hz;rcases hz with (hz | hz) | hz
 ·exact hx z (zWQ hz)
 ·exact hp z hz
 ·exact hx z (zWw hz)
theorem Qd{m:ah}{i:Nat}{x:bI}(hp:M.Part m i x)(hi:i<=39){b:List Int}(hb:aq b)(hl:b.length=uM m i):M.Part m (i+1) (M.put m x i b):=by
 obtain ⟨e1,e2,e3⟩:=Gk (b:=x.bZ) hp.l i;obtain ⟨h1,h2⟩:=Cp (x:=x.bZ) (p:=b) (a:=M.at_ m i) (by omega) hp.b.b hb;obtain ⟨n,h3,h4⟩:=hp.h;have h5:(2:Nat) ^ i<=2 ^ 39:=zYX (by omega) hi;refine ⟨⟨h1,by unfold M.put; dsimp only; rw [h2]; exact hp.b.l⟩,by unfold M.put; dsimp only; rw [h2]; exact hp.l,n ||| 2 ^ i,?_,?_⟩
 ·unfold M.put;dsimp only;rw [h3,Nx (by omega),F1 (by omega) (by omega)]
 ·exact Nat.or_lt_two_pow (by rw [Nat.pow_succ]; omega) (by rw [Nat.pow_succ]; have:0 < 2 ^ i:=Nat.pow_pos (by omega); omega)
theorem HY{m:ah}{i j:Nat}{x:bI}(hp:M.Part m i x)(h:i<=j):M.Part m j x:=by
 obtain ⟨n,h3,h4⟩:=hp.h;exact ⟨hp.b,hp.l,n,h3,zQg h4 (zYX (by omega) h)⟩
theorem U7{m:ah}{i:Nat}{x:bI}(hp:M.Part m i x)(hi:i<=40):cG x.bq=true/\ff x.bq i=false:=by
 obtain ⟨n,h3,h4⟩:=hp.h;have h5:(2:Nat) ^ i<=2 ^ 40:=zYX (by omega) hi;constructor
 ·rw [h3]; unfold cG ar; simp; omega
 ·unfold ff;rw [h3,zQQ,zQQ,Nat.testBit_lt_two_pow h4,Bool.and_false]
theorem U8{old:List Int}(hl:old.length<=1048576){p:Int}{n:Nat}(h0:0<=p)(h:p.toNat+n<=old.length):c9 (cE p (aW .i64 p (n:Int)) old.length)=some ()/\(old.take (sY (aW .i64 p (n:Int)))).drop (sY p)=M.win old p.toNat n:=by
 obtain ⟨q,rfl⟩:∃ q:Nat,p=q:=⟨p.toNat,by omega⟩;simp only [zQQ] at h ⊢;rw [pQ (by omega),gN (by omega) (by omega)];exact ⟨rfl,rfl⟩
theorem S9{m:ah}(hm:cS m=true){old:List Int}(ho:aq old):∀ (n i:Nat) (x:bI),i+n=m.aJ.length->M.Part m i x->M.Part m (i+n) (CP m old n i x):=by
 have h40:=uK hm;intro n
 induction n with
 | zero=>intro i x _ hp; exact hp
 | succ n ih =>
  intro i x h hp;simp only [CP]
  by_cases hq:0<=fL old m i
  ·obtain ⟨s,g1,g2,g3,g4⟩:=L3 hq;have hb:=pP ho (fL old m i).toNat (uM m i);have hbl:(M.win old (fL old m i).toNat (uM m i)).length=uM m i:=Er g4;have hput:=Qd hp (by omega) hb hbl;have k3:=ih (i+1) _ (by omega) hput;rw [if_pos hq];rwa [show i+1+n=i+(n+1) by omega] at k3
  ·have k3:=ih (i+1) x (by omega) (HY hp (by omega));rw [if_neg hq];rwa [show i+1+n=i+(n+1) by omega] at k3
theorem Ta{u:Nat}(hu:1099511627776<=u){m:ah}(hm:cS m=true){old:List Int}(ho:aq old)(hl:old.length<=1048576):∀ (n i:Nat) (x:bI),i+n=m.aJ.length->M.Part m i x ->
  n5 (we u old m) (qE u old m) n i (x.bq,x.bZ)=some (CP m old n i x):=by
 have h40:=uK hm;intro n
 induction n with
 | zero=>intro i x _ hp; exact rfl
 | succ n ih =>
  intro i x h hp;obtain ⟨e1,e2,e3⟩:=Gk (b:=x.bZ) hp.l i;obtain ⟨f1,f2⟩:=U7 hp (by omega);simp only [n5,CP,qE,jA];rw [JA hu ho (by omega) (by omega),jt];simp only [wk]
  by_cases hq:0<=fL old m i
  ·obtain ⟨s,g1,g2,g3,g4⟩:=L3 hq;have hq':decide (fL old m i>=0)=true:=by simpa using hq
   rw [e2];obtain ⟨c1,c2⟩:=U8 hl hq g4;have hb:=pP ho (fL old m i).toNat (uM m i);have hbl:(M.win old (fL old m i).toNat (uM m i)).length=uM m i:=Er g4;have hput:=Qd hp (by omega) hb hbl;have k1:=ih (i+1) _ (by omega) hput;have h6:(M.win old (fL old m i).toNat (uM m i)).length<=1048576:=by omega
   have hl8:t5 m x i (M.win old (fL old m i).toNat (uM m i))=(true,M.put m x i (M.win old (fL old m i).toNat (uM m i))):=by
    unfold t5;have hw:ar (i:Int) 0 ((m.aJ.length:Int) - 1)=true:=by unfold ar; simp; omega
    rw [hw,f2,zQQ,g1];simp [g3]
   rw [if_pos hq];simp only [hq',cond_true,c1,c2,wk,DA hu hm hp.l f1 i hb h6,hl8];exact k1
  ·have hq':decide (fL old m i>=0)=false:=by simpa using hq
   have k1:=ih (i+1) x (by omega) (HY hp (by omega));rw [if_neg hq];simp only [hq',cond_false];exact k1
theorem Qe{m:ah}(hm:cS m=true):M.Part m 0 (pU m):=by
 have:=ED hm;unfold pU;rw [if_pos hm];exact ⟨⟨by simp [aq],by simp; omega⟩,by simp; omega,0,rfl,by simp⟩
theorem Cq{m:ah}(hm:cS m=true){old:List Int}(ho:aq old)(hl:old.length<=1048576):M.Part m m.aJ.length (vD m old):=by
 have:=S9 hm ho m.aJ.length 0 _ (by omega) (Qe hm);unfold vD;rw [if_pos hm]
 simpa using this
theorem yP{u:Nat}(hu:1099511627776<=u){m:ah}(hs:m.aJ.length<=1048576){old:List Int}(ho:aq old)(hl:old.length<=1048576):mE u m old=some (vD m old):=by
 unfold mE vD;simp only [HX hu hs,gr hu m (show m.aJ.length<=1073741824 by omega),wk]
 cases hm:cS m with
 | false=>simp [pU,hm]
 | true =>
  simp only [zQW,cond_false,↓reduceIte];rw [CX u old m ((pU m).bq,(pU m).bZ) u (by omega) (by omega),zQQ];exact Ta hu hm ho hl m.aJ.length 0 _ (by omega) (Qe hm)
def M.add(d:aB)(p:dd):aB×Bool:=if cQ (iI d p) then (iI d p,true) else (d,false)
def lu(d:aB)(slot at_:Int)(b:List Int):aB×Bool:=if ar slot 0 1 then M.add d ⟨slot,at_,b,⟨0,0,0⟩⟩ else (d,false)
def ml(d:aB)(r:dp):aB×Bool:=M.add d ⟨2,0,[],r⟩
def qz(d:aB):Int:=cW .i64 1 d.fR.b7
theorem Rx(d:aB)(p:dd):(M.add d p=(iI d p,true)/\cQ (iI d p)=true)\/M.add d p=(d,false):=by
 unfold M.add
 cases h:cQ (iI d p) with
 | true=>exact .inl ⟨rfl,rfl⟩
 | false=>exact .inr rfl
theorem HZ{u:Nat}(hu:1099511627776<=u){d:aB}(hd:M.DOk d)(hl:d.fP.length<=1048575)(s a:Int){b:List Int}(hb:b.length<=1048576):q7 u d s a b=some (lu d s a b):=by
 unfold q7 lu M.add;rw [bL,zi hu hd hl (p:=⟨s,a,b,⟨0,0,0⟩⟩) hb,gw hu hd];simp only [wk]
 cases ar s 0 1 <;> rfl
theorem Gm{u:Nat}(hu:1099511627776<=u){d:aB}(hd:M.DOk d)(hl:d.fP.length<=1048575)(r:dp):pk u d r=some (ml d r):=by
 unfold pk ml M.add;rw [zi hu hd hl (p:=⟨2,0,[],r⟩) (by simp)];rfl
theorem DC(u:Nat)(d:aB):xh u d=some (qz d):=rfl
def mm(d0:aB)(b:List Int)(size:Int):Nat->Nat->aB->aB×Bool
 | 0,_,d=>(d,true)
 | n+1,i,d=>if (lu d (qz d0) ((i:Int)*size) (ei b size i).1).2 then mm d0 b size n (i+1) (lu d (qz d0) ((i:Int)*size) (ei b size i).1).1 else (d0,false)
def nK(d:aB)(b:List Int)(size:Int):aB×Bool :=
 if cQ d && decide (d.fP.length=0) && fk size b.length then mm d b size (ch size b.length).toNat 0 d else (d,false)
theorem Qf{d:aB}(h:cQ d=true):d.fP.length<=200:=by
 unfold cQ at h;simp only [sk,decide_eq_true_eq] at h;exact h.1.2
theorem Ix(d:aB)(s a:Int)(b:List Int):(lu d s a b=(iI d ⟨s,a,b,⟨0,0,0⟩⟩,true)/\cQ (iI d ⟨s,a,b,⟨0,0,0⟩⟩)=true)\/lu d s a b=(d,false):=by
 unfold lu
 split
 ·exact Rx d _
 ·exact .inr rfl
theorem Gn{d:aB}(hd:M.DOk d)(hl:d.fP.length<=200)(s a:Int){b:List Int}(hb:b.length<=1048576):M.DOk (lu d s a b).1/\(lu d s a b).1.fP.length<=200:=by
 rcases Ix d s a b with ⟨h1,h2⟩ | h1
 ·rw [h1];exact ⟨CM hd (by omega) hb,Qf h2⟩
 ·rw [h1]; exact ⟨hd,hl⟩
theorem Iy(b:List Int)(size i:Int):(ei b size i).1.length<=b.length:=by
 unfold ei;dsimp only
 split
 ·simp
 ·unfold M.win; simp; omega
end Go.Tm.Pu
