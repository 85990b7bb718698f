/- Plain laws of the functions. -/
import Derived.Test.YtdcoelkflgpfgaaGreatDoorCFnTextsD
set_option linter.unusedVariables false
set_option linter.unusedSimpArgs false
open Bool renaming and_eq_true->sk,and_self->zXK,eq_iff_iff->zYJ,false_eq_true->zQj,not_false->zZK,not_true->zQX,true_and->zWz
open Int renaming add_mul->zVV,ediv_ediv_of_nonneg->zYq,emod_lt_of_pos->zVY,emod_nonneg->zVX,eq_ofNat_of_zero_le->zQJ,mul_comm->zZh,natCast_zero->zVJ,one_mul->zZw,pow_pos->zVZ,pow_succ->zYQ,tmod_eq_emod_of_nonneg->zXq,toNat->sY,toNat_natCast->r0
open List renaming append_assoc->zQv,append_nil->zXH,cons_append->zYX,drop_eq_getElem_cons->zXY,drop_of_length_le->zYW,drop_zero->zZH,filter_cons->zZg,getElem?_cons_zero->zWX,getElem?_drop->zQH,getElem?_eq_getElem->sX,getElem?_map->zQZ,getElem?_range->zZY,getElem_mem->zXG,head?->zYj,head?_drop->zXx,length_append->zQG,length_cons->zQK,length_drop->zYz,length_filter_le->zYh,length_map->zWg,length_nil->zXQ,length_set->zXJ,length_singleton->zXz,length_take->zWQ,map_congr_left->zWh,map_cons->zWy,mem_append->zWw,mem_map->zYK,mem_of_mem_drop->zXV,mem_of_mem_take->zWJ,mem_or_eq_of_mem_set->zXZ,mem_singleton->zQy,nil_append->zQz,range->zWj,range'->zWx,range'_succ->zYZ,range_eq_range'->zXj,replicate->zQq,tail->zZV,tail_drop->zXh,take_of_length_le->zYx
open Nat renaming add_zero->zXv,and_le_right->zVQ,and_two_pow_sub_one_eq_mod->zZJ,le_refl->zWk,le_trans->zWH,min_eq_left->zXg,mul_le_mul_right->zWV,pow_le_pow_right->zYV,pow_succ->zVW,testBit_two_pow_mul_add->zZz,zero_add->zWY
open Option renaming bind_some->wk
open ByteArray renaming mk->zm
open ByteArray renaming size_append->Dp
open Go.IntKind renaming wrap->Ir
open BitVec renaming ofInt->Sh
open List renaming getElem?_eq_some_iff->aaa
open List renaming mem_append->aac
open List renaming all_eq_true->aae
open List renaming mem_cons->aag
open BitVec renaming toNat_ofInt->aaj
namespace Go.Tm.Pu
open Go.Tm
def aq(n a b:Int):Bool:=decide (a<=n) && decide (n<=b)
def ey(size n:Int):Bool:=aq size 2 6 && aq n 0 (40*size)
def cr(size n:Int):Int:=if ey size n then (n+size - 1) / size else 0
def cz(size n i:Int):Int×Int:=if aq i 0 (cr size n - 1) then (i*size,min size (n - i*size)) else (0,0)
theorem bM{n a b:Int}(h:aq n a b=true):a<=n/\n<=b:=by simpa [aq] using h
theorem NS{n a b:Int}(h:aq n a b=false):n < a\/b < n:=by
 simp [aq] at h; omega
theorem cY(u:Nat)(n a b:Int):cB u n a b=some (aq n a b):=by
 unfold cB aq
 by_cases h:a<=n <;> simp [h]
theorem bG(u:Nat)(n a b:Int):bF u n a b=some (aq n a b):=by
 unfold bF aq
 by_cases h:a<=n <;> simp [h]
theorem DV(u:Nat)(s n:Int):tU u s n=some (ey s n):=by
 unfold tU ey;simp only [cY,wk]
 cases h:aq s 2 6 with
 | false=>simp
 | true =>
  have:=bM h;simp (disch:=omega) only [cond_true,zWz,jd]
theorem qu(u:Nat)(s n:Int):mJ u s n=some (ey s n):=by
 unfold mJ ey;simp only [bG,wk]
 cases h:aq s 2 6 with
 | false=>simp
 | true =>
  have:=bM h;simp (disch:=omega) only [cond_true,zWz,jd];rw [zZh]
theorem w7{s n:Int}(h:ey s n=true):2<=s/\s<=6/\0<=n/\n<=40*s:=by
 simp [ey,aq] at h; omega
def yw(a b:Int):Int:=if aq a 0 1000000000000 && aq b 1 1000000000000 then (a+b - 1) / b else 0
theorem LB(u:Nat)(a b:Int):uK u a b=some (yw a b):=by
 unfold uK yw te;simp only [cY,wk]
 cases h:aq a 0 1000000000000 with
 | false=>simp
 | true =>
  cases h2:aq b 1 1000000000000 with
  | false=>simp
  | true =>
   have:=bM h;have:=bM h2;have hb:(b == 0)=false:=by simp; omega
   simp (disch:=omega) [cd,cN,cm,M4,hb]
theorem LC(u:Nat)(a b:Int):ud u a b=some (yw a b):=by
 unfold ud yw sL;simp only [bG,wk]
 cases h:aq a 0 1000000000000 with
 | false=>simp
 | true =>
  cases h2:aq b 1 1000000000000 with
  | false=>simp
  | true =>
   have:=bM h;have:=bM h2;have hb:(b == 0)=false:=by simp; omega
   simp (disch:=omega) [cd,cN,cm,M4,hb]
theorem Kn{s n:Int}(h:ey s n=true):yw n s=(n+s - 1) / s:=by
 have:=w7 h;have h1:aq n 0 1000000000000=true:=by simp [aq]; omega
 have h2:aq s 1 1000000000000=true:=by simp [aq]; omega
 simp [yw,h1,h2]
theorem zk(u:Nat)(s n:Int):qe u s n=some (cr s n):=by
 unfold qe cr;simp only [DV,LB,wk]
 cases h:ey s n with
 | false=>simp
 | true=>simp [Kn h]
theorem gO(u:Nat)(s n:Int):mK u s n=some (cr s n):=by
 unfold mK cr;simp only [qu,LC,wk]
 cases h:ey s n with
 | false=>simp
 | true=>simp [Kn h]
theorem fb(s n:Int):0<=cr s n/\cr s n<=40:=by
 unfold cr
 split
 ·rename_i h;have h:=w7 h;refine ⟨Int.ediv_nonneg ar ar,?_⟩;have:(n+s - 1) / s < 41:=Int.ediv_lt_of_lt_mul ar ar;omega
 ·omega
theorem BF{s n i:Int}(h:aq i 0 (cr s n - 1)=true):ey s n=true/\0<=i/\i<=39:=by
 have h1:=bM h;have:=fb s n;refine ⟨?_,by omega,by omega⟩
 cases h2:ey s n with
 | true=>rfl
 | false=>simp [cr,h2] at h1; omega
theorem Ex{s i:Int}(h1:2<=s)(h2:s<=6)(h3:0<=i)(h4:i<=39):0<=i*s/\i*s<=234 :=
 ⟨Int.mul_nonneg h3 ar,Int.le_trans (Int.mul_le_mul h4 h2 ar ar) ar⟩
theorem NT(u:Nat)(s n i:Int):tW u s n i=some (cz s n i):=by
 unfold tW cz;have hb:=fb s n;simp (disch:=omega) only [zk,cY,wk,cm]
 cases h:aq i 0 (cr s n - 1) with
 | false=>simp
 | true =>
  have ⟨h1,h2,h3⟩:=BF h;have h1:=w7 h1;have h4:=Ex (s:=s) (i:=i) ar ar h2 h3;simp (disch:=omega) [jd,cm];omega
theorem Fl(u:Nat)(a b:Int):vw u a b=some (min a b):=by
 unfold vw
 by_cases h:b < a <;> simp [h] <;> omega
theorem kg(u:Nat)(s n i:Int):fp u s n i=some (cz s n i):=by
 unfold fp cz;have hb:=fb s n;simp (disch:=omega) only [gO,bG,wk,cm]
 cases h:aq i 0 (cr s n - 1) with
 | false=>simp
 | true =>
  have ⟨h1,h2,h3⟩:=BF h;have h1:=w7 h1;have h4:=Ex (s:=s) (i:=i) ar ar h2 h3;simp (disch:=omega) [jd,cm,Fl]
def av(b:List Int):Prop:=∀ x∈b,0<=x/\x<=255
def rf:List Int->Int->Int->Int×Int
 | [],x,y=>(x,y)
 | c :: b,x,y=>rf b ((x+c) % 251) ((y+(x+c) % 251) % 251)
def cE(b:List Int):Int:=(rf b 0 0).1+251*(rf b 0 0).2
theorem DW(b:List Int):∀ (x y:Int),0<=x->x < 251->0<=y->y < 251->0<=(rf b x y).1/\(rf b x y).1 < 251/\0<=(rf b x y).2/\(rf b x y).2 < 251:=by
 induction b with
 | nil=>intro x y h1 h2 h3 h4; exact ⟨h1,h2,h3,h4⟩
 | cons c b ih =>
  intro x y h1 h2 h3 h4;exact ih _ _ ar ar ar ar
theorem Cf(b:List Int):0<=cE b/\cE b<=63000:=by
 have:=DW b 0 0 ar ar ar ar;unfold cE; omega
theorem Pp(u:Nat):∀ (p b:List Int) (i:Nat) (x y:Int),av b->0<=x->x < 251->0<=y->y < 251 ->
  bZ (A0 u p) (vz u p) b i (x,y)=pQ u (rf b x y).1 (rf b x y).2:=by
 intro p b
 induction b with
 | nil=>intros; rfl
 | cons c b ih =>
  intro i x y hb h1 h2 h3 h4;have hc:=hb c eH;have e1:ml .i64 (aL .i64 x (Ir .i64 c)) 251=(x+c) % 251:=by
   rw [wrap_i64 ar ar,cN ar ar,yV ar]
  have e2:ml .i64 (aL .i64 y ((x+c) % 251)) 251=(y+(x+c) % 251) % 251:=by
   rw [cN ar ar,yV ar]
  simp only [bZ,vz,e1,e2];exact ih (i+1) _ _ (λz hz=>hb z Xe) ar ar ar ar
theorem Pq(u:Nat):∀ (p b:List Int) (i:Nat) (x y:Int),av b->0<=x->x < 251->0<=y->y < 251 ->
  bZ (Bh u p) (vP u p) b i (x,y)=qf u (rf b x y).1 (rf b x y).2:=by
 intro p b
 induction b with
 | nil=>intros; rfl
 | cons c b ih =>
  intro i x y hb h1 h2 h3 h4;have hc:=hb c eH;have e1:ml .i64 (aL .i64 x (Ir .i64 c)) 251=(x+c) % 251:=by
   rw [wrap_i64 ar ar,cN ar ar,yV ar]
  have e2:ml .i64 (aL .i64 y ((x+c) % 251)) 251=(y+(x+c) % 251) % 251:=by
   rw [cN ar ar,yV ar]
  simp only [bZ,vP,e1,e2];exact ih (i+1) _ _ (λz hz=>hb z Xe) ar ar ar ar
theorem vd{u:Nat}(hu:1099511627776<=u){b:List Int}(hb:av b)(hl:b.length<=1073741824):n8 u b=some (cE b):=by
 unfold n8;rw [IA u b (0,0) u ar ar,Pp u b b 0 0 0 hb ar ar ar ar];have:=DW b 0 0 ar ar ar ar;unfold pQ cE;simp (disch:=omega) only [jd,cN]
theorem Qm{n m:Int}(hm:0 < m):(n.tmod m+m).tmod m=n % m:=by
 rcases Int.le_total 0 n with h | h
 ·rw [zXq h,zXq (by have:=zVX n (show m≠0 by omega); omega)];simp
 ·have h1:n.tmod m=-((-n) % m):=by
   rw [show n=-(-n) by omega,Int.neg_tmod,zXq ar]; simp
  have h2:=zVX (-n) (show m≠0 by omega);have h3:=zVY (-n) hm;rw [h1,zXq ar];have:(-((-n) % m)+m) % m=n % m:=by
   have e:-n=m*(-n / m)+(-n) % m:=(Int.mul_ediv_add_emod (-n) m).symm;have e2:-((-n) % m)+m=n+m*(-n / m+1):=by
    rw [Int.mul_add]; omega
   rw [e2,Int.add_mul_emod_self_left]
  exact this
theorem NU{n m:Int}(hm:0 < m):-m < n.tmod m/\n.tmod m < m:=by
 rcases Int.le_total 0 n with h | h
 ·rw [zXq h];have h2:=zVX n (show m≠0 by omega);have h3:=zVY n hm;omega
 ·have h1:n.tmod m=-((-n) % m):=by
   rw [show n=-(-n) by omega,Int.neg_tmod,zXq ar]; simp
  have h2:=zVX (-n) (show m≠0 by omega);have h3:=zVY (-n) hm;omega
theorem Rh(u:Nat)(n m:Int):yu u n m=some (if aq m 1 1000000000000 then n % m else 0):=by
 unfold yu;simp only [cY,wk]
 cases h:aq m 1 1000000000000 with
 | false=>simp
 | true =>
  have h3:=bM h;have hb:(m == 0)=false:=by simp; omega
  have h4:=NU (n:=n) (m:=m) ar;simp only [hb,zQX,cond_false,zZK,DH,wk];have e1:ml .i64 n m=n.tmod m:=rfl;rw [e1,cN ar ar];show some ((n.tmod m+m).tmod m)=_;rw [Qm ar]; simp
theorem Ri(u:Nat)(x y:Int):Bg u x y=some (x % 251+251*(y % 251)):=by
 unfold Bg;have h:aq 251 1 1000000000000=true:=by decide
 simp only [Rh,wk,h,if_true];simp (disch:=omega) only [jd,cN]
theorem zl{u:Nat}(hu:1099511627776<=u){b:List Int}(hb:av b)(hl:b.length<=1073741824):oe u b=some (cE b):=by
 unfold oe;rw [IR u b (0,0) u ar ar,Pq u b b 0 0 0 hb ar ar ar ar];have:=DW b 0 0 ar ar ar ar;unfold qf cE;simp only [Ri,wk]
 congr 1
 omega
def kh:Nat->Int->List Int
 | 0,_=>[]
 | n+1,s=>kh n (s / 256)++[s % 256]
def o8:Nat->Int->Option (List Int)
 | 0,s=>if s=1 then some [] else none
 | n+1,s=>if s=1 then some [] else if s < 256 then none else (o8 n (s / 256)).map (·++[s % 256])
def b4(s:Int):List Int×Bool:=if s < 1 then ([],false) else match o8 6 s with | some b=>(b,true) | none=>([],false)
def Ar:Nat->Int->Nat
 | 0,_=>0
 | k+1,t=>if 1 < t then Ar k (t / 256)+1 else 0
def tq:Nat->Int->Int
 | 0,t=>t
 | k+1,t=>if 1 < t then tq k (t / 256) else t
theorem XX:∀ (k:Nat) (t:Int),Ar k t<=k:=by
 intro k
 induction k with
 | zero=>intro t; simp [Ar]
 | succ k ih=>intro t; unfold Ar; have:=ih (t / 256); split <;> omega
theorem NV:∀ (k:Nat) (t:Int),tq k t=t / 256 ^ Ar k t:=by
 intro k
 induction k with
 | zero=>intro t; simp [tq,Ar]
 | succ k ih =>
  intro t;unfold tq Ar
  split
  ·rw [ih,zYq ar,zYQ,zZh]
  ·simp
theorem Jy:∀ (k:Nat) (t:Int),0<=t->o8 k t=if tq k t=1 then some (kh (Ar k t) t) else none:=by
 intro k
 induction k with
 | zero=>intro t h; simp [o8,tq,Ar,kh]
 | succ k ih =>
  intro t h;unfold o8 tq Ar
  by_cases h1:t=1
  ·subst h1; simp [kh]
  ·rw [if_neg h1]
   by_cases h2:1 < t
   ·simp only [if_pos h2]
    by_cases h3:t < 256
    ·have:t / 256=0:=Int.ediv_eq_zero_of_lt h h3;rw [if_pos h3,this];have:tq k 0=0:=by rw [NV]; simp
     rw [this]; simp
    ·rw [if_neg h3,ih _ ar]
     split <;> simp [kh]
   ·have:t=0:=by omega
    subst this; simp
theorem XY:∀ (k:Nat) (t:Int),0<=t->t / 256 ^ k<=tq k t:=by
 intro k
 induction k with
 | zero=>intro t h; simp [tq]
 | succ k ih =>
  intro t h;unfold tq
  split
  ·have:=ih (t / 256) ar;rwa [zYq ar,zZh,<- zYQ] at this
  ·exact Int.ediv_le_self _ h
theorem Rj:∀ (n:Nat) (s:Int),av (kh n s):=by
 intro n
 induction n with
 | zero=>intro s x hx; simp [kh] at hx
 | succ n ih =>
  intro s x hx;simp only [kh,zWw,zQy] at hx;rcases hx with h | h
  ·exact ih _ x h
  ·omega
theorem Pr:∀ (n:Nat) (s:Int),(kh n s).length=n:=by
 intro n
 induction n with
 | zero=>intro s; rfl
 | succ n ih=>intro s; simp [kh,ih]
theorem Cg{s:Int}{b:List Int}(h:b4 s=(b,true)):1<=s/\s / 256 ^ b.length=1/\b=kh b.length s/\b.length<=6:=by
 unfold b4 at h
 split at h
 ·cases h
 ·rename_i h1;rw [Jy 6 s ar] at h;have he:=NV 6 s;have hn:=XX 6 s
  by_cases h2:tq 6 s=1
  ·simp only [h2,if_true,Prod.mk.injEq,and_true] at h;subst h;rw [Pr];exact ⟨by omega,by rw [<- he]; exact h2,rfl,hn⟩
  ·simp [h2] at h
theorem sG(s:Int):av (b4 s).1/\(b4 s).1.length<=6:=by
 match h:b4 s with
 | (b,true) =>
  have h:=Cg h;exact ⟨by rw [h.2.2.1]; exact Rj _ _,h.2.2.2⟩
 | (b,false) =>
  have:b=[]:=by
   unfold b4 at h
   split at h
   ·simp at h; exact h.symm ▸ rfl
   ·split at h <;> simp at h; exact h.symm ▸ rfl
  subst this;exact ⟨by simp [av],by simp⟩
theorem Zs(a:Int)(h:0<=a):Ir .u8 (bJ .i64 a 255)=a % 256:=by
 have:bJ .i64 a 255=a % 256:=by
  unfold bJ;have e:(Sh (IntKind.bits .i64) a &&& Sh (IntKind.bits .i64) 255).toNat=(a % 256).toNat:=by
   change (Sh 64 a &&& Sh 64 255).toNat=(a % 256).toNat
   rw [BitVec.toNat_and,aaj,aaj,show ((255:Int) % ((2 ^ 64:Nat):Int)).toNat=2 ^ 8 - 1 by decide,zZJ];omega
  rw [e];exact (wrap_i64 ar ar).trans ar
 rw [this,tl]; omega
theorem F9(u:Nat):∀ (k n:Nat) (s:Int) (acc:List Int),n < k->1<=s->s < 256 ^ n*2->acc.length+n<=1000 ->
  ms u k s acc=some (match o8 n s with | some b=>(b++acc,true) | none=>([],false)):=by
 intro k
 induction k with
 | zero=>intro n s acc h; omega
 | succ k ih =>
  intro n s acc hk h1 h2 h3;unfold ms
  by_cases h4:s=1
  ·subst h4
   cases n <;> simp [o8,xo]
  ·have h5:s > 1:=by omega
   cases n with
   | zero=>simp at h2; omega
   | succ n =>
    simp only [h5,decide_true,cond_true,o8,if_neg h4]
    by_cases h6:s < 256
    ·simp [h6]
    ·have hw:([Ir .u8 (bJ .i64 s 255)])=[s % 256]:=by rw [Zs _ ar]
     simp only [h6,decide_false,cond_false,if_false,qa6,hw];rw [bq eF];simp only [wk];rw [ih n (s / 256) _ ar ar (by rw [zYQ] at h2; omega) eF]
     cases o8 n (s / 256) <;> simp
theorem S2{s:Int}(h:562949953421311 < s):b4 s=([],false):=by
 unfold b4;rw [if_neg ar,Jy 6 s ar];have:=XY 6 s ar;have e:(256:Int) ^ 6=281474976710656:=by decide
 rw [e] at this;rw [if_neg ar]
theorem xG{u:Nat}(hu:1099511627776<=u)(s:Int):oo u s=some (b4 s):=by
 unfold oo;simp only [bG,wk]
 cases h:aq s 1 562949953421311 with
 | false =>
  rcases NS h with h | h
  ·simp [b4,h]
  ·rw [S2 h]; simp
 | true =>
  have h:=bM h;have e:(256:Int) ^ 6=281474976710656:=by decide
  simp only [zQX,cond_false];rw [F9 u u 6 s [] ar ar (by rw [e]; omega) eH];unfold b4;rw [if_neg ar]
  cases o8 6 s <;> simp
theorem UC(s:Int)(j:Nat)(h:j<=8):cU .i64 s (8*(j:Int))=s / 256 ^ j:=by
 have:=QV .i64 s (8*j) (by simp [IntKind.bits]; omega);rw [show ((8*j:Nat):Int)=8*(j:Int) by simp] at this;rw [this,show (256:Int)=2 ^ 8 by decide,<- Int.pow_mul]
theorem WD{α ρ:Type}{fin:List α->Option ρ}{body:Nat->List α->(List α->Option ρ)->Option ρ}(f:Nat->α)(n:Nat)(hb:∀ i s k,i < n->s.length=n->body i s k=k (s.set i (f i))) :
  ∀ (m i:Nat) (s:List α),i+m=n->s.length=n->s.take i=(zWj i).map f->gX fin body m i s=fin ((zWj n).map f):=by
 intro m
 induction m with
 | zero =>
  intro i s h1 h2 h3;simp only [gX]
  congr 1
  rw [zYx ar] at h3;rw [h3,show i=n by omega]
 | succ m ih =>
  intro i s h1 h2 h3;simp only [gX];rw [hb i s _ ar h2];refine ih (i+1) _ ar (by simp [h2]) ?_;rw [List.take_add_one,List.take_set_of_le (zWk i),h3,List.getElem?_set_self ar,List.range_succ,List.map_append];rfl
theorem Rk:∀ (n:Nat) (s:Int),kh n s=(zWj n).map λi=>s / 256 ^ (n - 1 - i) % 256:=by
 intro n
 induction n with
 | zero=>intro s; rfl
 | succ n ih =>
  intro s;rw [kh,ih,List.range_succ,List.map_append]
  congr 1
  ·apply zWh
   intro i hi;have hi:i < n:=by simpa using hi
   rw [zYq ar,zZh,<- zYQ,show (n - 1 - i).succ=n+1 - 1 - i by omega]
  ·simp
theorem Ga{u:Nat}(hu:1099511627776<=u)(s:Int)(n:Nat)(hn:n<=6):o3 u s (n:Int)=some (if 1<=s/\s / 256 ^ n=1 then (kh n s,true) else ([],false)):=by
 unfold o3
 by_cases h1:s < 1
 ·have:¬ (1<=s):=by omega
  simp [h1,this,mA]
 ·rw [jd ar ar,UC _ _ ar,bq ar]
  by_cases h2:s / 256 ^ n=1
  ·have h3:(1:Int)<=s:=by omega
   simp only [h1,decide_false,cond_false,wk,h2,h3,true_and,if_true];unfold mA;rw [show ((1:Int) != 1)=false by decide];simp only [cond_false,beq_self_eq_true,Bool.or_true,Bool.and_true,r0];rw [bq ar,bq ar];simp only [wk];rw [G1 u s n _ u eF eF];simp only [List.length_replicate,r0];rw [WD (λi=>s / 256 ^ (n - 1 - i) % 256) n _ n 0 _ ar eH eH,<- Rk]
   ·rfl
   ·intro i t k hi ht;unfold zS;have e:cG .i64 (cG .i64 (n:Int) 1) (i:Int)=((n - 1 - i:Nat):Int):=by
     rw [cm (a:=(n:Int)) ar ar,cm ar ar]; omega
    rw [e,jd ar ar,UC _ _ ar,bq ar,tl,cO,sX ar];simp
  ·have:(s / 256 ^ n != 1)=true:=by simpa using h2
   simp only [h1,decide_false,cond_false,wk,this];simp [mA,h2]
theorem Gb{u:Nat}(hu:1099511627776<=u)(s:Int):∀ (m n k:Nat),n+m=6->m < k->gU u k s (n:Int)=o3 u s ((n+Ar m (s / 256 ^ n):Nat):Int):=by
 intro m
 induction m with
 | zero =>
  intro n k h1 h2;obtain ⟨k,rfl⟩:∃ j,k=j+1:=⟨k - 1,by omega⟩;unfold gU;have:¬ ((n:Int) < 6):=by omega
  simp [this,o4,Ar]
 | succ m ih =>
  intro n k h1 h2;obtain ⟨k,rfl⟩:∃ j,k=j+1:=⟨k - 1,by omega⟩;unfold gU;have h3:(n:Int) < 6:=by omega
  rw [jd ar ar,UC _ _ ar,bq ar];simp only [h3,decide_true,cond_true,wk,o4,Ar]
  by_cases h4:s / 256 ^ n > 1
  ·have h4':1 < s / 256 ^ n:=h4;simp only [h4,decide_true,cond_true,h4',if_true];rw [dy ar,ih (n+1) k ar ar,zYQ,<- zYq (Int.le_of_lt (zVZ ar))]
   congr 1
   omega
  ·have h4':¬ 1 < s / 256 ^ n:=h4;simp only [h4,decide_false,cond_false,h4',if_false];simp
theorem C2{u:Nat}(hu:1099511627776<=u)(s:Int):mS u s=some (b4 s):=by
 unfold mS;have:=Gb hu s 6 0 u ar ar;simp only [zVJ,Int.pow_zero,Int.ediv_one,zWY] at this;rw [this,Ga hu s _ (XX 6 s)];unfold b4
 by_cases h:s < 1
 ·have:¬ (1<=s):=by omega
  simp [h,this]
 ·rw [if_neg h,Jy 6 s ar,NV];have:1<=s:=by omega
  by_cases h2:s / 256 ^ Ar 6 s=1 <;> simp [h2,this]
def jt:List Int->Int->Int
 | [],s=>s
 | c :: b,s=>jt b (256*s+c)
def et(b:List Int):cC:=if 6 < b.length then ⟨0,0⟩ else ⟨cE b,jt b 1⟩
theorem S3(a b:List Int):∀ s,jt (a++b) s=jt b (jt a s):=by
 induction a with
 | nil=>intro s; rfl
 | cons c a ih=>intro s; exact ih _
theorem S4:∀ (n:Nat) (s:Int),s / 256 ^ n=1->jt (kh n s) 1=s:=by
 intro n
 induction n with
 | zero=>intro s h; simpa [kh,jt] using h.symm
 | succ n ih =>
  intro s h;rw [kh,S3,ih]
  ·simp only [jt]; omega
  ·rw [zYq ar,zZh,<- zYQ]; exact h
theorem AQ{s:Int}{b:List Int}(h:b4 s=(b,true)):et b=⟨cE b,s⟩:=by
 have ⟨h1,h2,h3,h4⟩:=Cg h;unfold et;have:=S4 b.length s h2;rw [<- h3] at this;rw [if_neg ar,this]
theorem NW:∀ (b:List Int) (s:Int) (n:Nat),av b->0<=s->s < 256 ^ n*2->0<=jt b s/\jt b s < 256 ^ (n+b.length)*2:=by
 intro b
 induction b with
 | nil=>intro s n _ h1 h2; exact ⟨h1,h2⟩
 | cons c b ih =>
  intro s n hb h1 h2;have hc:=hb c eH;have:=ih (256*s+c) (n+1) (λz hz=>hb z Xe) ar YQ;simp only [zQK,jt];rwa [show n+(b.length+1)=n+1+b.length by omega]
theorem Rl(u:Nat):∀ (p b:List Int) (i:Nat) (s:Int) (n:Nat),av b->0<=s->s < 256 ^ n*2->n+b.length<=6 ->
  bZ (CB u p) (xn u p) b i s=rE u p (jt b s):=by
 intro p b
 induction b with
 | nil=>intros; rfl
 | cons c b ih =>
  intro i s n hb h1 h2 h3;have hc:=hb c eH;simp only [zQK] at h3;have hp:(256:Int) ^ n<=1099511627776:=by
   rcases (show n=0\/n=1\/n=2\/n=3\/n=4\/n=5 by omega) with rfl | rfl | rfl | rfl | rfl | rfl <;> decide
  simp only [bZ,xn];rw [wrap_i64 ar ar,jd ar ar,cN ar ar];exact ih (i+1) _ (n+1) (λz hz=>hb z Xe) ar YQ ar
theorem m6{u:Nat}(hu:1099511627776<=u){b:List Int}(hb:av b)(hl:b.length<=1073741824):ic u b=some (et b):=by
 unfold ic et
 by_cases h:6 < b.length
 ·have:(b.length:Int) > 6:=by omega
  simp [h,this]
 ·have:¬ ((b.length:Int) > 6):=by omega
  simp only [this,decide_false,cond_false,h,if_false];rw [KM u b 1 u ar ar,Rl u b b 0 1 0 hb ar V0 ar];unfold rE;rw [vd hu hb hl];rfl
def sH(size len:Int)(i:Nat)(s:cC):Bool:=(b4 s.fS).2 && ((b4 s.fS).1.length == (cz size len i).2) && (cE (b4 s.fS).1 == s.fW)
def lz(size len:Int):List cC->Nat->Bool
 | [],_=>true
 | s :: l,i=>sH size len i s && lz size len l (i+1)
def c7(m:af):Bool :=
 if m.aH=0 then m.aB == 0 && m.aT == 0 && m.aI.length == 0
 else aq m.aH 1 1000000 && ey m.aB m.aT && ((m.aI.length:Int) == cr m.aB m.aT) && lz m.aB m.aT m.aI 0
theorem Gd(a b:Int):(a != b)=!(a == b):=rfl
theorem Rm{u:Nat}(hu:1099511627776<=u)(m:af):∀ (l:List cC) (i:Nat),bZ (CE u m) (xz u m) l i ()=some (lz m.aB m.aT l i):=by
 intro l
 induction l with
 | nil=>intro i; rfl
 | cons s l ih =>
  intro i;have hb:=sG s.fS;simp only [bZ,xz,C2 hu,NT,wk,lz,sH,lj,ih,zl hu hb.1 (show _<=_ by omega),Gd]
  cases (b4 s.fS).2 <;> cases (((b4 s.fS).1.length:Int) == (cz m.aB m.aT ↑i).2) <;> cases (cE (b4 s.fS).1 == s.fW) <;> simp
theorem Rn{u:Nat}(hu:1099511627776<=u)(m:af):∀ (l:List cC) (i:Nat),l=m.aI.drop i->bZ (CC u m) (xp u m) l i ()=some (lz m.aB m.aT l i):=by
 intro l
 induction l with
 | nil=>intro i _; rfl
 | cons s l ih =>
  intro i hd;have hb:=sG s.fS;have hx:m.aI[i]?=some s:=by
   have:=congrArg zYj hd
   simpa [zXx] using this.symm
  have hl:l=m.aI.drop (i+1):=by
   have:=congrArg zZV hd
   simpa [zXh] using this
  simp only [bZ,xp,xG hu,kg,wk,lz,sH,k7,ih (i+1) hl,m6 hu hb.1 (show _<=_ by omega),Gd,cO,hx]
  cases h:(b4 s.fS).2 with
  | false=>simp
  | true =>
   have h2:=AQ (s:=s.fS) (b:=(b4 s.fS).1) (by rw [<- h]);rw [h2];have h3:(([cE (b4 s.fS).1,s.fS]:List Int) == [s.fW,s.fS])=(cE (b4 s.fS).1 == s.fW):=by simp
   simp only [h3]
   cases (((b4 s.fS).1.length:Int) == (cz m.aB m.aT ↑i).2) <;> cases (cE (b4 s.fS).1 == s.fW) <;> simp
theorem AR{u:Nat}(hu:1099511627776<=u)(m:af)(hl:m.aI.length<=1073741824):tJ u m=some (c7 m):=by
 unfold tJ c7 l6 sn;simp only [cY,DV,zk,wk,Gd,KV u m () u ar ar,Rm hu];have e0:(((m.aI.length:Int)) == 0)=(m.aI.length == 0):=by rw [zYJ]; simp
 by_cases h:m.aH=0
 ·have:aq m.aH 1 1000000=false:=by rw [h]; rfl
  simp only [h,if_true,beq_self_eq_true,cond_true,e0] at this ⊢
  cases (m.aB == 0) <;> cases (m.aT == 0) <;> cases (m.aI.length == 0) <;> simp [this]
 ·have:(m.aH == 0)=false:=by simpa using h
  simp only [h,if_false,this,cond_false,wk]
  cases aq m.aH 1 1000000 <;> cases ey m.aB m.aT <;> cases ((m.aI.length:Int) == cr m.aB m.aT) <;> simp
theorem gP{u:Nat}(hu:1099511627776<=u)(m:af)(hl:m.aI.length<=1073741824):iE u m=some (c7 m):=by
 unfold iE c7 rF;simp only [bG,qu,gO,wk,Gd,KN u m () u ar ar,Rn hu m m.aI 0 eH];have e0:(((m.aI.length:Int)) == 0)=(m.aI.length == 0):=by rw [zYJ]; simp
 by_cases h:m.aH=0
 ·simp only [h,if_true,beq_self_eq_true,cond_true,e0]
  cases (m.aB == 0) <;> cases (m.aT == 0) <;> cases (m.aI.length == 0) <;> simp
 ·have:(m.aH == 0)=false:=by simpa using h
  simp only [h,if_false,this,cond_false,wk]
  cases aq m.aH 1 1000000 <;> cases ey m.aB m.aT <;> cases ((m.aI.length:Int) == cr m.aB m.aT) <;> simp
def cZ:Nat->Int->List Int
 | 0,n=>[n % 256]
 | k+1,n=>if n<=127 then [n % 256] else (n % 128+128) :: cZ k (n / 128)
def aR(b:List Int)(n:Int):List Int:=if aq n 0 1000000000000 then b++cZ 9 n else b
theorem qab:∀ a:Nat,a < 256->(a ||| 128)=a % 128+128:=by decide +kernel
theorem qay(a:Int)(h1:0<=a)(h2:a < 256):tZ .u8 a 128=a % 128+128:=by
 unfold tZ;have e:(Sh (IntKind.bits .u8) a ||| Sh (IntKind.bits .u8) 128).toNat=(a % 128+128).toNat:=by
  change (Sh 8 a ||| Sh 8 128).toNat=_
  rw [BitVec.toNat_or,aaj,aaj,show ((128:Int) % ((2 ^ 8:Nat):Int)).toNat=128 by decide,qab _ ar];omega
 rw [e,tl]; omega
theorem Mp(a:Int):bJ .i64 a 127=a % 128:=by
 unfold bJ;have e:(Sh (IntKind.bits .i64) a &&& Sh (IntKind.bits .i64) 127).toNat=(a % 128).toNat:=by
  change (Sh 64 a &&& Sh 64 127).toNat=(a % 128).toNat
  rw [BitVec.toNat_and,aaj,aaj,show ((127:Int) % ((2 ^ 64:Nat):Int)).toNat=2 ^ 7 - 1 by decide,zZJ];omega
 rw [e];exact (wrap_i64 ar ar).trans ar
theorem VF(a:Int)(h1:0<=a)(h2:a < 256):tZ .i64 a 128=a % 128+128:=by
 unfold tZ;have e:(Sh (IntKind.bits .i64) a ||| Sh (IntKind.bits .i64) 128).toNat=(a % 128+128).toNat:=by
  change (Sh 64 a ||| Sh 64 128).toNat=_
  rw [BitVec.toNat_or,aaj,aaj,show ((128:Int) % ((2 ^ 64:Nat):Int)).toNat=128 by decide,show (a % ((2 ^ 64:Nat):Int)).toNat=a.toNat by omega,qab _ ar];omega
 rw [e];exact (wrap_i64 ar ar).trans ar
theorem Ch:∀ (k:Nat) (n:Int),(cZ k n).length<=k+1:=by
 intro k
 induction k with
 | zero=>intro n; simp [cZ]
 | succ k ih =>
  intro n;unfold cZ;have:=ih (n / 128)
  split <;> simp <;> omega
theorem Qn:∀ (k:Nat) (n:Int),av (cZ k n):=by
 intro k
 induction k with
 | zero=>intro n x hx; simp [cZ] at hx; omega
 | succ k ih =>
  intro n x hx;unfold cZ at hx
  split at hx
  ·simp at hx; omega
  ·rcases aag.1 hx with h | h
   ·omega
   ·exact ih _ x h
theorem As{a b:List Int}(h:av a)(k:av b):av (a++b):=by
 intro x hx;rcases aac.1 hx with g | g
 ·exact h x g
 ·exact k x g
theorem DX(u:Nat):∀ (j k:Nat) (n:Int) (b:List Int),n < 128 ^ (j+1)->j < k->b.length+j<=1099511627776->iK u k b n=some (b++cZ j n):=by
 intro j
 induction j with
 | zero =>
  intro k n b h1 h2 h3;obtain ⟨k,rfl⟩:∃ i,k=i+1:=⟨k - 1,by omega⟩;unfold iK;have:¬ (n>=128):=by simp at h1; omega
  simp only [this,decide_false,cond_false,pC,cZ,tl];rw [bq eF]; rfl
 | succ j ih =>
  intro k n b h1 h2 h3;obtain ⟨k,rfl⟩:∃ i,k=i+1:=⟨k - 1,by omega⟩;unfold iK
  by_cases h:n>=128
  ·have h':¬ n<=127:=by omega
   simp only [h,decide_true,cond_true,cZ,h',if_false,tl,XN];rw [bq eF,qay _ ar ar];simp only [wk];rw [ih k (n / 128) _ qaj ar eF,show n % 256 % 128=n % 128 by omega];simp
  ·have h':n<=127:=by omega
   simp only [h,decide_false,cond_false,cZ,h',if_true,pC,tl];rw [bq eF]; rfl
theorem E2(u:Nat):∀ (j k:Nat) (n:Int) (b:List Int),n < 128 ^ (j+1)->j < k->b.length+j<=1099511627776->ji u k b n=some (b++cZ j n):=by
 intro j
 induction j with
 | zero =>
  intro k n b h1 h2 h3;obtain ⟨k,rfl⟩:∃ i,k=i+1:=⟨k - 1,by omega⟩;unfold ji;have:¬ (n > 127):=by simp at h1; omega
  simp only [this,decide_false,cond_false,qI,cZ,tl];rw [bq eF]; rfl
 | succ j ih =>
  intro k n b h1 h2 h3;obtain ⟨k,rfl⟩:∃ i,k=i+1:=⟨k - 1,by omega⟩;unfold ji
  by_cases h:n > 127
  ·have h':¬ n<=127:=by omega
   simp only [h,decide_true,cond_true,cZ,h',if_false,tl,XN,Mp];rw [bq eF,VF _ ar ar];simp only [wk];rw [ih k (n / 128) _ qaj ar eF,show (n % 128 % 128+128) % 256=n % 128+128 by omega];simp
  ·have h':n<=127:=by omega
   simp only [h,decide_false,cond_false,cZ,h',if_true,qI,tl];rw [bq eF]; rfl
theorem HP(u:Nat):∀ (j k:Nat) (n:Int) (b:List Int),n < 128 ^ (j+1)->j < k->b.length+j<=1099511627776->lO u k n b=some (b++cZ j n):=by
 intro j
 induction j with
 | zero =>
  intro k n b h1 h2 h3;obtain ⟨k,rfl⟩:∃ i,k=i+1:=⟨k - 1,by omega⟩;unfold lO;have:¬ (n > 127):=by simp at h1; omega
  simp only [this,decide_false,cond_false,um,cZ,tl];rw [bq eF]; rfl
 | succ j ih =>
  intro k n b h1 h2 h3;obtain ⟨k,rfl⟩:∃ i,k=i+1:=⟨k - 1,by omega⟩;unfold lO
  by_cases h:n > 127
  ·have h':¬ n<=127:=by omega
   simp only [h,decide_true,cond_true,cZ,h',if_false,tl,XN,Mp];rw [bq eF,VF _ ar ar];simp only [wk];rw [ih k (n / 128) _ qaj ar eF,show (n % 128 % 128+128) % 256=n % 128+128 by omega];simp
  ·have h':n<=127:=by omega
   simp only [h,decide_false,cond_false,cZ,h',if_true,um,tl];rw [bq eF]; rfl
theorem qaz:(128:Int) ^ (9+1)=1180591620717411303424:=by decide
theorem At{u:Nat}(hu:1099511627776<=u){b:List Int}{n:Int}(hl:b.length<=1073741824)(hn:n<=9223372036854775807):nO u b n=some (b++cZ 9 n) :=
 DX u 9 u n b (by rw [qaz]; omega) ar ar
theorem Jz{u:Nat}(hu:1099511627776<=u){b:List Int}{n:Int}(hl:b.length<=1073741824)(hn:n<=9223372036854775807):rJ u b n=some (b++cZ 9 n) :=
 E2 u 9 u n b (by rw [qaz]; omega) ar ar
theorem ve(u:Nat){b:List Int}(hl:b.length<=1073741824):lg u b=some b:=by
 unfold lg;rw [bq eF,bq eF];simp [cd]
theorem dL{u:Nat}(hu:1099511627776<=u){b:List Int}{n:Int}(hl:b.length<=1073741824):ef u b n=some (aR b n):=by
 unfold ef aR;simp only [ve u hl,cY,wk]
 cases h:aq n 0 1000000000000 with
 | false=>simp
 | true=>have:=bM h; simp [At hu hl (show n<=9223372036854775807 by omega)]
theorem dM{u:Nat}(hu:1099511627776<=u){b:List Int}{n:Int}(hl:b.length<=1073741824):ed u b n=some (aR b n):=by
 unfold ed aR;rw [bq eF];simp only [bG,wk,zQz]
 cases h:aq n 0 1000000000000 with
 | false=>simp
 | true=>have:=bM h; simp [HP u 9 u n b (by rw [qaz]; omega) ar ar]
theorem bx(b:List Int)(n:Int):(aR b n).length<=b.length+10:=by
 unfold aR;have:=Ch 9 n
 split <;> simp <;> omega
def mC(b:List Int):List cC->List Int
 | []=>b
 | s :: l=>mC (b++cZ 9 s.fS) l
def qv(b:List Int)(m:af):List Int:=if c7 m then mC (aR (aR (aR b m.aH) m.aB) m.aT) m.aI else b
def oH(m:af):Prop:=∀ s∈m.aI,s.fS<=9223372036854775807
theorem wc{m:af}(h:c7 m=true):m.aI.length<=40:=by
 unfold c7 at h
 split at h
 ·simp only [sk,beq_iff_eq] at h;have:=h.2;omega
 ·have:=fb m.aB m.aT;simp only [sk,beq_iff_eq] at h;omega
theorem Ps{u:Nat}(hu:1099511627776<=u)(m:af):∀ (l:List cC) (i:Nat) (b:List Int),(∀ s∈l,s.fS<=9223372036854775807)->b.length+10*l.length<=1073741824 ->
  bZ (Bi u m) (vR u m) l i b=some (mC b l):=by
 intro l
 induction l with
 | nil=>intros; rfl
 | cons s l ih =>
  intro i b h1 h2;simp only [zQK] at h2;have h3:=Ch 9 s.fS;simp only [bZ,vR,At hu (show b.length<=1073741824 by omega) (h1 s eH),wk,mC];exact ih (i+1) _ (λz hz=>h1 z Xe) eF
theorem Pt{u:Nat}(hu:1099511627776<=u)(m:af):∀ (l:List cC) (i:Nat) (b:List Int),(∀ s∈l,s.fS<=9223372036854775807)->b.length+10*l.length<=1073741824 ->
  bZ (A3 u m) (vF u m) l i b=some (mC b l):=by
 intro l
 induction l with
 | nil=>intros; rfl
 | cons s l ih =>
  intro i b h1 h2;simp only [zQK] at h2;have h3:=Ch 9 s.fS;simp only [bZ,vF,Jz hu (show b.length<=1073741824 by omega) (h1 s eH),wk,mC];exact ih (i+1) _ (λz hz=>h1 z Xe) eF
theorem NX{u:Nat}(hu:1099511627776<=u){b:List Int}{m:af}(hl:b.length<=536870912)(hm:m.aI.length<=1073741824)(hw:oH m):wU u b m=some (qv b m):=by
 unfold wU qv;have h1:=bx b m.aH;have h2:=bx (aR b m.aH) m.aB;have h3:=bx (aR (aR b m.aH) m.aB) m.aT;rw [AR hu m hm]
 cases h:c7 m with
 | false=>simp [ve u (show b.length<=1073741824 by omega)]
 | true =>
  have h4:=wc h;simp only [wk,zQX,cond_false,if_true];rw [dL hu ar]; simp only [wk];rw [dL hu ar]; simp only [wk];rw [dL hu ar]; simp only [wk];rw [IU u m _ u ar ar,Ps hu m _ _ _ hw ar]
theorem NY{u:Nat}(hu:1099511627776<=u){b:List Int}{m:af}(hl:b.length<=536870912)(hm:m.aI.length<=1073741824)(hw:oH m):wB u b m=some (qv b m):=by
 unfold wB qv;have h1:=bx b m.aH;have h2:=bx (aR b m.aH) m.aB;have h3:=bx (aR (aR b m.aH) m.aB) m.aT;rw [bq eF,gP hu m hm];simp only [zQz,wk]
 cases h:c7 m with
 | false=>simp
 | true =>
  have h4:=wc h;simp only [wk,zQX,cond_false,if_true];rw [dM hu ar]; simp only [wk];rw [dM hu ar]; simp only [wk];rw [dM hu ar]; simp only [wk];rw [IF u m _ u ar ar,Pt hu m _ _ _ hw ar]
theorem wq{a:Int}(h1:0<=a)(h2:a < 18446744073709551616):(Sh 64 a).toNat=a.toNat:=by
 rw [aaj]; omega
theorem HQ{a b:Nat}(h1:a < 9223372036854775808)(h2:b < 9223372036854775808):tZ .i64 (a:Int) (b:Int)=((a ||| b:Nat):Int):=by
 unfold tZ;have e:(Sh (IntKind.bits .i64) (a:Int) ||| Sh (IntKind.bits .i64) (b:Int)).toNat=a ||| b:=by
  change (Sh 64 (a:Int) ||| Sh 64 (b:Int)).toNat=_
  rw [BitVec.toNat_or,wq ar ar,wq ar ar]; rfl
 rw [e];have:a ||| b < 2 ^ 63:=Nat.or_lt_two_pow ar ar
 exact wrap_i64 ar ar
theorem S5{a b:Nat}(h1:a < 9223372036854775808)(h2:b < 9223372036854775808):bJ .i64 (a:Int) (b:Int)=((a &&& b:Nat):Int):=by
 unfold bJ;have e:(Sh (IntKind.bits .i64) (a:Int) &&& Sh (IntKind.bits .i64) (b:Int)).toNat=a &&& b:=by
  change (Sh 64 (a:Int) &&& Sh 64 (b:Int)).toNat=_
  rw [BitVec.toNat_and,wq ar ar,wq ar ar]; rfl
 rw [e];have:a &&& b<=a:=Nat.and_le_left;exact wrap_i64 ar ar
theorem Qo{i:Nat}(h:i<=62):il .i64 1 (i:Int)=((2 ^ i:Nat):Int):=by
 unfold il;rw [show min (sY (i:Int)) (IntKind.bits .i64)=i by simp [IntKind.bits]; omega];have h1:(2:Nat) ^ i<=2 ^ 62:=zYV ar h;have h2:(1:Int)*2 ^ i=((2 ^ i:Nat):Int):=by simp
 rw [h2];generalize (2:Nat) ^ i=p at h1;exact wrap_i64 ar ar
theorem S6{a i:Nat}(h:i<=64):cU .i64 (a:Int) (i:Int)=((a / 2 ^ i:Nat):Int):=by
 rw [QV .i64 _ i h]; simp
def co(s:Int):Bool:=aq s 0 1099511627775
def im(i:Int):Bool:=aq i 0 39
def eu(s i:Int):Bool:=co s && im i && s.toNat.testBit i.toNat
theorem Fm(u:Nat)(s:Int):tH u s=some (co s):=by simp [tH,cY,co]
theorem iC(u:Nat)(s:Int):ek u s=some (co s):=by simp [ek,bG,co]
theorem qaA{s i:Int}(hs:co s=true)(hi:im i=true):(bJ .i64 (cU .i64 s i) 1 == 1)=s.toNat.testBit i.toNat:=by
 have h1:=bM hs;have h2:=bM hi;obtain ⟨a,rfl⟩:=zQJ h1.1;obtain ⟨n,rfl⟩:=zQJ h2.1;rw [S6 ar];have h3:a / 2 ^ n<=a:=Nat.div_le_self a _;rw [show (1:Int)=((1:Nat):Int) by rfl,S5 ar ar,Nat.and_one_is_mod];simp only [r0,Nat.testBit_eq_decide_div_mod_eq];generalize a / 2 ^ n=z;rw [zYJ,beq_iff_eq,decide_eq_true_eq]; omega
theorem iD(u:Nat)(s i:Int):dT u s i=some (eu s i):=by
 unfold dT eu;simp only [iC,bG,wk]
 cases h1:co s with
 | false=>simp
 | true =>
  change ((bif true then (bif im i then _ else _) else _):Option Bool)=_
  cases h2:im i with
  | false=>simp
  | true =>
   have h3:=bM h2;simp only [cond_true];rw [bq ar];simp [qaA h1 h2]
def mD(s:Int):List Int:=if co s then ((zWj 40).filter λi=>s.toNat.testBit i).map Int.ofNat else []
theorem S7{α ρ:Type}{fin:List α->Option ρ}{body:Nat->List α->(List α->Option ρ)->Option ρ}(f:Nat->Bool)(g:Nat->α)(n c:Nat)(hb:∀ i s k,i < n->s.length<=c+i->body i s k=k (if f i then s++[g i] else s)) :
  ∀ (m i:Nat) (s:List α),i+m=n->s.length<=c+i->gX fin body m i s=fin (s++(((zWx i m).filter f).map g)):=by
 intro m
 induction m with
 | zero=>intro i s h1 h2; simp [gX]
 | succ m ih =>
  intro i s h1 h2;simp only [gX];rw [hb i s _ ar h2]
  cases hf:f i with
  | true =>
   simp only [if_true];rw [ih (i+1) _ ar eF,zYZ,zZg,hf];simp
  | false =>
   simp only [zQj,if_false];rw [ih (i+1) _ ar ar,zYZ,zZg,hf];simp
theorem LD{u:Nat}(hu:1099511627776<=u)(s:Int):uA u s=some (mD s):=by
 unfold uA;rw [GX u s [] u ar ar,S7 (λi=>eu s i) (λi=>(i:Int)) 40 0 _ (sY 40) 0 [] V0 eH]
 ·unfold zQ sZ mD;rw [show sY 40=40 by rfl,<- zXj]
  cases h:co s with
  | false=>simp [eu,h]
  | true =>
   simp only [zQz,if_true]
   congr 2
   apply List.filter_congr
   intro i hi;have hi:i < 40:=by simpa using hi
   have:im (i:Int)=true:=by simp [im,aq]; omega
   simp [eu,h,this]
 ·intro i t k hi ht;unfold zR;rw [iD];simp only [wk]
  cases eu s i with
  | false=>simp [kJ]
  | true =>
   simp only [cond_true,if_true];rw [bq eF];simp [kJ]
theorem XZ{s c:Int}(h1:0<=s)(h2:s < 36028797018963968)(h3:0<=c)(h4:c<=255):tZ .i64 (il .i64 s 8) c=256*s+c:=by
 obtain ⟨a,rfl⟩:=zQJ h1;obtain ⟨b,rfl⟩:=zQJ h3;have e:il .i64 (a:Int) 8=((a*256:Nat):Int):=by
  unfold il;rw [show min (sY (8:Int)) (IntKind.bits .i64)=8 by rfl];rw [wrap_i64 ar ar]; omega
 rw [e,HQ ar ar];have h5:=Nat.shiftLeft_add_eq_or_of_lt (b:=b) (i:=8) ar a;rw [Nat.shiftLeft_eq,show (2:Nat) ^ 8=256 from rfl] at h5;rw [<- h5]; omega
theorem Ro(u:Nat):∀ (p b:List Int) (i:Nat) (s:Int) (n:Nat),av b->0<=s->s < 256 ^ n*2->n+b.length<=6 ->
  bZ (CD u p) (xy u p) b i s=sm u p (jt b s):=by
 intro p b
 induction b with
 | nil=>intros; rfl
 | cons c b ih =>
  intro i s n hb h1 h2 h3;have hc:=hb c eH;simp only [zQK] at h3;have hp:(256:Int) ^ n<=1099511627776:=by
   rcases (show n=0\/n=1\/n=2\/n=3\/n=4\/n=5 by omega) with rfl | rfl | rfl | rfl | rfl | rfl <;> decide
  simp only [bZ,xy];rw [wrap_i64 ar ar,XZ ar ar ar ar];exact ih (i+1) _ (n+1) (λz hz=>hb z Xe) ar YQ ar
theorem Pv{u:Nat}(hu:1099511627776<=u){b:List Int}(hb:av b)(hl:b.length<=1073741824):yR u b=some (et b):=by
 unfold yR et
 by_cases h:6 < b.length
 ·have:(b.length:Int) > 6:=by omega
  simp [h,this]
 ·have:¬ ((b.length:Int) > 6):=by omega
  simp only [this,decide_false,cond_false,h,if_false];rw [KU u b 1 u ar ar,Ro u b b 0 1 0 hb ar V0 ar];unfold sm;rw [zl hu hb hl];rfl
def M.win(b:List Int)(i n:Nat):List Int:=(b.take (i+n)).drop i
theorem NZ(b:List Int)(i n:Nat):M.win b i n=(b.drop i).take n:=by
 unfold M.win; rw [List.drop_take]; congr 1; omega
theorem qw{b:List Int}(h:av b)(i n:Nat):av (M.win b i n):=λx hx=>h x (zWJ (zXV hx))
theorem Ge{b:List Int}{i n:Nat}(h:i+n<=b.length):(M.win b i n).length=n:=by
 unfold M.win; rw [zYz,zWQ]; omega
theorem Rp(b:List Int)(i n:Nat):(M.win b i n).length<=n:=by
 unfold M.win; rw [zYz,zWQ]; omega
theorem gw{a b n:Nat}(h1:a<=b)(h2:b<=n):cd (cS (a:Int) (b:Int) (n:Int))=some ():=by
 have:cS (a:Int) (b:Int) (n:Int)=true:=by simp [cS]; omega
 rw [this]; rfl
theorem sI{a b:Nat}(h:a+b<=9223372036854775807):aL .i64 (a:Int) (b:Int)=((a+b:Nat):Int):=by
 rw [cN ar ar]; omega
theorem Pw(u:Nat){b:List Int}{i n:Nat}(h:i+n<=b.length)(hl:b.length<=1073741824):vQ u b i n=some (M.win b i n,true):=by
 unfold vQ so;have h1:aq (i:Int) 0 (b.length:Int)=true:=by simp [aq]; omega
 have h2:aq (n:Int) 0 ((b.length:Int) - (i:Int))=true:=by simp [aq]; omega
 simp only [cY,h1,wk,cm (a:=(b.length:Int)) (b:=(i:Int)) ar ar,h2,zQX,cond_false];rw [sI ar,gw ar h];simp only [wk,r0];rw [ve u eF];rfl
def eB(b:List Int)(size i:Int):List Int×Bool :=
 let s:=cz size b.length i
 if s.2=0 then ([],false) else (M.win b s.1.toNat s.2.toNat,true)
theorem vg{size n i:Int}(hn:0<=n):0<=(cz size n i).1/\0<=(cz size n i).2/\(cz size n i).2<=6/\(cz size n i).1+(cz size n i).2<=n:=by
 unfold cz
 split
 ·rename_i h;have ⟨h1,h2,h3⟩:=BF h;have h4:=w7 h1;have h5:=(bM h).2;unfold cr at h5;rw [if_pos h1] at h5;have h6:=Ex h4.1 h4.2.1 h2 h3;have h7:i*size<=n:=by
   have h8:i+1<=(n+size - 1) / size:=by omega
   have h9:(i+1)*size<=n+size - 1:=(Int.le_ediv_iff_mul_le ar).1 h8;rw [zVV] at h9;omega
  dsimp only;omega
 ·dsimp only; omega
theorem ws{b:List Int}(hb:av b)(size i:Int):av (eB b size i).1/\(eB b size i).1.length<=6:=by
 have h:=vg (size:=size) (n:=b.length) (i:=i) ar;unfold eB;dsimp only
 split
 ·exact ⟨by simp [av],by simp⟩
 ·refine ⟨qw hb _ _,?_⟩;have:=Rp b (cz size b.length i).1.toNat (cz size b.length i).2.toNat;dsimp only;omega
theorem C3(u:Nat){b:List Int}(hl:b.length<=1073741824)(size i:Int):kW u b size i=some (eB b size i):=by
 have h:=vg (size:=size) (n:=b.length) (i:=i) ar;unfold kW eB;simp only [kg,wk];generalize cz size b.length i=s at h;obtain ⟨a,n⟩:=s;dsimp only at h ⊢
 by_cases h0:n=0
 ·simp [h0]
 ·have:(n == 0)=false:=by simpa using h0
  obtain ⟨x,rfl⟩:=zQJ h.1;obtain ⟨y,rfl⟩:=zQJ h.2.1;simp only [this,cond_false,h0,if_false];rw [sI ar,gw ar ar];simp only [wk,r0];rw [bq eF];rfl
def w8(b:List Int)(size:Int):List cC:=(zWj (cr size b.length).toNat).map λ(i:Nat)=>et (eB b size i).1
theorem S8{α ρ:Type}{fin:List α->Option ρ}{body:Nat->List α->(List α->Option ρ)->Option ρ}(g:Nat->α)(n:Nat)(hb:∀ i s k,i < n->s.length=i->body i s k=k (s++[g i])) :
  gX fin body n 0 []=fin ((zWj n).map g):=by
 have:∀ (m i:Nat) (s:List α),i+m=n->s.length=i->gX fin body m i s=fin (s++(zWx i m).map g):=by
  intro m
  induction m with
  | zero=>intro i s h1 h2; simp [gX]
  | succ m ih =>
   intro i s h1 h2;simp only [gX];rw [hb i s _ ar h2,ih (i+1) _ ar (by simp [h2]),zYZ];simp
 rw [this n 0 [] ar rfl,<- zXj];simp
theorem DY{u:Nat}(hu:1099511627776<=u){b:List Int}(hb:av b)(hl:b.length<=1073741824)(size:Int):n9 u b size=some (w8 b size):=by
 unfold n9;have hr:=fb size b.length;rw [kZ (n:=cr size b.length) (fin:=ue u) (body:=λi (s:List cC) k=>(kW u b size (i:Int)).bind λr8=>(ic u r8.1).bind λr9=>(cd (decide ((s.length+([r9]).length)*16<=140737488355328))).bind λ_=>k (s++[r9]))
  (λk (s:List cC) i=>jR u k b size s i) ar (λk s i=>by rw [jR,gO]; rfl) [] ar,S8 (λi=>et (eB b size i).1)]
 ·rfl
 ·intro i s k hi hs;have h:=ws hb size (i:Int);rw [C3 u hl];simp only [wk];rw [m6 hu h.1 ar];simp only [wk];rw [bq eF];rfl
def gZ(gen:Int)(b:List Int)(size:Int):af:=if aq gen 1 1000000 && ey size b.length then ⟨gen,size,b.length,w8 b size⟩ else ⟨0,0,0,[]⟩
theorem AS{u:Nat}(hu:1099511627776<=u){b:List Int}(hb:av b)(hl:b.length<=1073741824)(gen size:Int):vA u gen b size=some (gZ gen b size):=by
 unfold vA wl gZ;simp only [bG,qu,wk,DY hu hb hl]
 cases aq gen 1 1000000 <;> cases ey size b.length <;> simp
def Gf:List Int->Int
 | []=>0
 | c :: b=>c+Gf b
def LE:List Int->Int
 | []=>0
 | c :: b=>((b.length:Int)+1)*c+LE b
theorem WE:∀ (b:List Int) (x y:Int),rf b x y=match b with | []=>(x,y) | _=>((x+Gf b) % 251,(y+b.length*x+LE b) % 251):=by
 intro b
 induction b with
 | nil=>intro x y; rfl
 | cons c b ih =>
  intro x y;simp only [rf];rw [ih]
  cases b with
  | nil=>simp [Gf,LE,Int.add_assoc]
  | cons d b =>
   simp only [Gf,LE,zQK];refine Prod.ext ?_ ?_
   ·dsimp only; omega
   ·dsimp only;have e:((b.length:Int)+1)*((x+c) % 251) % 251=((b.length:Int)+1)*(x+c) % 251:=by rw [Int.mul_emod,Int.emod_emod_of_dvd _ (Int.dvd_refl 251),<- Int.mul_emod]
    have e1:((b.length:Int)+1)*(x+c)=((b.length:Int)+1)*x+((b.length:Int)+1)*c:=Int.mul_add _ _ _;have e2:((b.length:Int)+1+1)*x=((b.length:Int)+1)*x+x:=by rw [zVV]; omega
    have e3:((b.length:Int)+1+1)*c=((b.length:Int)+1)*c+c:=by rw [zVV]; omega
    push_cast
    rw [e2,e3];rw [e1] at e;generalize ((b.length:Int)+1)*((x+c) % 251)=p at *;generalize ((b.length:Int)+1)*x=q at *;generalize ((b.length:Int)+1)*c=r at *;generalize ((b.length:Int)+1)*d=t at *;omega
theorem N0{b:List Int}:cE b=Gf b % 251+251*(LE b % 251):=by
 unfold cE;rw [WE]
 cases b with
 | nil=>simp [Gf,LE]
 | cons c b=>dsimp only; simp
theorem qaB(b:List Int)(d:Int):Gf (b++[d])=Gf b+d:=by
 induction b with
 | nil=>simp [Gf]
 | cons c b ih=>simp only [zYX,Gf,ih]; omega
theorem qaC(b:List Int)(d:Int):LE (b++[d])=LE b+Gf b+d:=by
 induction b with
 | nil=>simp [Gf,LE]
 | cons c b ih =>
  simp only [zYX,Gf,LE,ih,zQG,zXz]
  push_cast
  rw [zVV ((b.length:Int)+1) 1 c];omega
theorem Rq(u:Nat)(n m:Int):vD u n m=some (if aq m 1 1000000000000 then n % m else 0):=by
 unfold vD;simp only [bG,wk]
 cases h:aq m 1 1000000000000 with
 | false=>simp
 | true =>
  have h3:=bM h;have hb:(m == 0)=false:=by simp; omega
  have h4:=NU (n:=n) (m:=m) ar;simp only [hb,zQX,cond_false,zZK,DH,wk];have e1:ml .i64 n m=n.tmod m:=rfl;rw [e1,cN ar ar];show some ((n.tmod m+m).tmod m)=_;rw [Qm ar]; simp
theorem HR(u:Nat)(w:Int):yq u w=some (aq w 0 63000):=by simp [yq,bG]
theorem Gg(u:Nat){w:Int}(h:aq w 0 63000=true):oP u w=some (w % 251,w / 251):=by
 unfold oP;have:=bM h;rw [HR,h];simp (disch:=omega) [yV,M4]
theorem Rr(u:Nat){c d:Int}{m:List Int}(hc:0<=c/\c<=255)(hd:0<=d/\d<=255)(hm:m.length<=5):yr u (cE (c :: m)) ((m.length:Int)+1) c d=some (cE (m++[d])):=by
 unfold yr qD;have h0:=Cf (c :: m);have h1:aq (cE (c :: m)) 0 63000=true:=by simp [aq]; omega
 have h2:aq ((m.length:Int)+1) 1 1000000000000=true:=by simp [aq]; omega
 have h3:aq c 0 255=true:=by simp [aq]; omega
 have h4:aq d 0 255=true:=by simp [aq]; omega
 have h5:aq 251 1 1000000000000=true:=by decide
 have h6:((m.length:Int)+1)*c<=6*255:=Int.mul_le_mul ar ar ar ar;have h7:0<=((m.length:Int)+1)*c:=Int.mul_nonneg ar ar;simp only [HR,bG,h1,h2,h3,h4,wk,zQX,cond_false,Gg u h1,Rq,h5,if_true];rw [yV ar,Int.emod_eq_of_lt (a:=(m.length:Int)+1) ar ar];have e:=N0 (b:=c :: m);have e2:=N0 (b:=m++[d]);rw [e2,qaB,qaC];simp only [Gf,LE] at e;rw [jd (a:=(m.length:Int)+1) (b:=c) ar ar];generalize cE (c :: m)=w at *;generalize ((m.length:Int)+1)*c=q at *;generalize Gf m=sx at *;generalize LE m=sy at *;rw [cm (a:=w / 251) ar ar,cm (a:=w % 251) ar ar,cN (a:=w % 251 - c) ar ar];rw [cN (a:=(w / 251 - q) % 251) ar ar];rw [jd ar ar,cN ar ar]
 congr 1
 omega
theorem X1{b:List Int}{i n:Nat}{c:Int}(hc:b[i]?=some c):M.win b i (n+1)=c :: M.win b (i+1) n:=by
 rw [NZ,NZ];obtain ⟨h,rfl⟩:=aaa.1 hc;rw [zXY h,List.take_succ_cons]
theorem X2{b:List Int}{i n:Nat}{d:Int}(hd:b[i+n]?=some d):M.win b i (n+1)=M.win b i n++[d]:=by
 rw [NZ,NZ,List.take_add_one]
 congr 1
 rw [zQH,hd]; rfl
def rh(b:List Int)(n:Nat):List Int:=if n<=b.length then (zWj (b.length+1 - n)).map λi=>cE (M.win b i n) else []
theorem Gi(u:Nat){b:List Int}(hb:av b)(hl:b.length<=1073741824){n:Nat}(h1:1<=n)(h2:n<=6):∀ (m k j:Nat),n+j+m=b.length->m < k ->
  gR u k b n ((zWj (j+1)).map λi=>cE (M.win b i n)) (cE (M.win b j n)) ((n+j:Nat):Int)=some ((zWj (j+1+m)).map λi=>cE (M.win b i n)):=by
 intro m
 induction m with
 | zero =>
  intro k j h3 h4;obtain ⟨k,rfl⟩:∃ i,k=i+1:=⟨k - 1,by omega⟩;unfold gR;have:¬ (((n+j:Nat):Int) < (b.length:Int)):=by omega
  simp only [this,decide_false,cond_false,sM,zXv]
 | succ m ih =>
  intro k j h3 h4;obtain ⟨k,rfl⟩:∃ i,k=i+1:=⟨k - 1,by omega⟩;unfold gR;have h5:((n+j:Nat):Int) < (b.length:Int):=by omega
  have e:cG .i64 ((n+j:Nat):Int) (n:Int)=(j:Int):=by rw [cm ar ar]; omega
  simp only [h5,decide_true,cond_true,e,cO];have hc:=sX (l:=b) (i:=j) ar;have hd:=sX (l:=b) (i:=n+j) ar;rw [hc,hd];simp only [wk];have hcb:=hb _ (zXG (l:=b) (n:=j) ar);have hdb:=hb _ (zXG (l:=b) (n:=n+j) ar);rw [wrap_i64 (n:=b[j]) ar ar,wrap_i64 (n:=b[n+j]) ar ar];obtain ⟨n,rfl⟩:∃ i,n=i+1:=⟨n - 1,by omega⟩;have e1:=X1 (n:=n) hc;have e2:M.win b (j+1) (n+1)=M.win b (j+1) n++[b[n+1+j]]:=X2 (by rw [show j+1+n=n+1+j by omega]; exact hd);have hw:(M.win b (j+1) n).length=n:=Ge ar;have hroll:=Rr u (c:=b[j]) (d:=b[n+1+j]) (m:=M.win b (j+1) n) hcb hdb ar;rw [hw,<- e1,<- e2] at hroll;rw [show ((n+1:Nat):Int)=(n:Int)+1 by omega,hroll];simp only [wk];rw [bq eF];simp only [wk];rw [show (List.map (λi=>cE (M.win b i (n+1))) (zWj (j+1))++[cE (M.win b (j+1) (n+1))])=(zWj (j+1+1)).map λi=>cE (M.win b i (n+1)) by rw [List.range_succ (n:=j+1),List.map_append]; rfl];rw [dy ar];have:=ih k (j+1) ar ar;rw [show ((n+1:Nat):Int)=(n:Int)+1 by omega] at this;rw [show n+1+j+1=n+1+(j+1) by omega,this,show j+1+1+m=j+1+(m+1) by omega]
theorem LF{u:Nat}(hu:1099511627776<=u){b:List Int}(hb:av b)(hl:b.length<=1073741824){n:Nat}(h1:1<=n)(h2:n<=6):uf u b n=some (rh b n):=by
 unfold uf sN rh;have h3:¬ ((n:Int) < 1):=by omega
 simp only [h3,decide_false,cond_false]
 by_cases h4:n<=b.length
 ·have h5:¬ ((n:Int) > (b.length:Int)):=by omega
  simp only [h5,decide_false,cond_false,h4,if_true];rw [show (0:Int)=((0:Nat):Int) by rfl,gw ar h4];simp only [wk,r0];have e:List.drop 0 (List.take n b)=M.win b 0 n:=by simp [M.win]
  rw [e,vd hu (qw hb _ _) (by have:=Rp b 0 n; omega)];simp only [wk];rw [bq eH];have:=Gi u hb hl h1 h2 (b.length - n) u 0 ar ar;simp only [zXv,zWY] at this;rw [show (zWj 1).map (λi=>cE (M.win b i n))=[cE (M.win b 0 n)] by rfl] at this;simp only [wk,zQz];rw [this,show 1+(b.length - n)=b.length+1 - n by omega]
 ·have h5:((n:Int) > (b.length:Int)):=by omega
  simp [h5,h4]
def ju(b:List Int)(s:cC)(n:Nat):Nat->Nat->Int
 | 0,_=>-1
 | c+1,i=>if et (M.win b i n)=s then i else ju b s n c (i+1)
def yx(b:List Int)(s:cC)(n:Int):Int:=if aq n 1 6 then ju b s n.toNat (b.length+1 - n.toNat) 0 else -1
theorem N3(b:List Int)(s:cC)(n:Nat):∀ c i,-1<=ju b s n c i/\ju b s n c i < i+c:=by
 intro c
 induction c with
 | zero=>intro i; simp [ju]; omega
 | succ c ih =>
  intro i;unfold ju;have:=ih (i+1)
  split <;> omega
theorem Mq(x y:cC):(([x.fW,x.fS]:List Int) == [y.fW,y.fS])=decide (x=y):=by
 obtain ⟨a,b⟩:=x;obtain ⟨c,d⟩:=y;rw [zYJ]; simp
theorem UD{b:List Int}(h:b.length<=6):(et b).fW=cE b:=by
 unfold et; rw [if_neg ar]
theorem Gj{u:Nat}(hu:1099511627776<=u){b:List Int}(hb:av b)(hl:b.length<=1073741823)(s:cC){n:Nat}(h1:1<=n)(h2:n<=6):∀ (c k i:Nat),i+c=b.length+1 - n->c < k ->
  eJ u k b n (rh b n) i s=some (ju b s n c i):=by
 have hlen:(rh b n).length=b.length+1 - n:=by
  unfold rh
  split
  ·simp
  ·simp; omega
 intro c
 induction c with
 | zero =>
  intro k i h3 h4;obtain ⟨k,rfl⟩:∃ i,k=i+1:=⟨k - 1,by omega⟩;unfold eJ;have:¬ ((i:Int) < ((rh b n).length:Int)):=by omega
  simp only [this,decide_false,cond_false,sO,ju]
 | succ c ih =>
  intro k i h3 h4;obtain ⟨k,rfl⟩:∃ i,k=i+1:=⟨k - 1,by omega⟩;unfold eJ;have h5:((i:Int) < ((rh b n).length:Int)):=by omega
  have hx:(rh b n)[i]?=some (cE (M.win b i n)):=by
   unfold rh;rw [if_pos ar,zQZ,zZY ar]; rfl
  simp only [h5,decide_true,cond_true,cO,hx,wk];rw [sI ar,gw ar ar];simp only [wk,r0]
  change (bif _ then ((ic u (M.win b i n)).bind _) else _)=_
  rw [m6 hu (qw hb _ _) (by have:=Rp b i n; omega)];simp only [wk,Mq,ju,mu,cond_false,dy (show i < 9223372036854775807 by omega),ih k (i+1) ar ar]
  by_cases h6:et (M.win b i n)=s
  ·have h7:cE (M.win b i n)=s.fW:=by rw [<- h6,UD (by have:=Rp b i n; omega)]
   simp [h6,h7]
  ·cases cE (M.win b i n) == s.fW <;> simp [h6]
theorem LG{u:Nat}(hu:1099511627776<=u){b:List Int}(hb:av b)(hl:b.length<=1073741823)(s:cC)(n:Int):ug u b s n=some (yx b s n):=by
 unfold ug yx;rw [bG];simp only [wk]
 cases h:aq n 1 6 with
 | false=>simp
 | true =>
  have h:=bM h;obtain ⟨n,rfl⟩:=zQJ (show 0<=n by omega);simp only [zQX,cond_false,if_true,r0];rw [LF hu hb ar ar ar];exact Gj hu hb ar s ar ar (b.length+1 - n) u 0 ar ar
def fX(b:List Int)(m:af)(i:Nat):Int:=match m.aI[i]? with
 | some s=>yx b s (cz m.aB m.aT i).2
 | none=>-1
theorem LH{u:Nat}(hu:1099511627776<=u){b:List Int}(hb:av b)(hl:b.length<=1073741823){m:af}(hm:m.aI.length<=1073741824)(i:Nat):qE u b m i=some (fX b m i):=by
 unfold qE sP fX;rw [kg];simp only [wk,LG hu hb hl,cO]
 by_cases h:i < m.aI.length
 ·have h1:¬ ((i:Int)>=(m.aI.length:Int)):=by omega
  simp only [sX h,wk,h1,decide_false,cond_false,cond_true]
  by_cases h2:(cz m.aB m.aT i).2=0
  ·have:yx b m.aI[i] 0=-1:=by simp [yx,aq]
   simp [h2,this]
  ·have:((cz m.aB m.aT i).2 == 0)=false:=by simpa using h2
   simp [this]
 ·have h1:((i:Int)>=(m.aI.length:Int)):=by omega
  simp only [List.getElem?_eq_none (show m.aI.length<=i by omega),h1,decide_true,cond_true]
  cases ((cz m.aB m.aT i).2 == 0) <;> simp
theorem LI(u:Nat){n:Nat}(h:n<=40):qN u n=some ((2 ^ n - 1:Nat):Int):=by
 unfold qN;have h1:aq (n:Int) 0 40=true:=by simp [aq]; omega
 rw [bG,h1];simp only [wk,zQX,cond_false];have h2:(2:Nat) ^ n<=2 ^ 40:=zYV ar h;have h3:0 < (2:Nat) ^ n:=Nat.pow_pos ar;rw [bq ar,Qo ar];generalize (2:Nat) ^ n=p at *;rw [cm ar ar];simp only [wk]
 congr 1
 omega
theorem JA(gen:Int)(b:List Int)(size:Int):(gZ gen b size).aI.length<=40:=by
 unfold gZ
 split
 ·have:=fb size b.length;simp [w8]; omega
 ·simp
theorem N4(gen:Int)(b:List Int)(size:Int)(hb:av b):oH (gZ gen b size):=by
 unfold gZ oH
 split
 ·intro s hs;simp only [w8,zYK] at hs;obtain ⟨i,_,rfl⟩:=hs;have h:=ws hb size (i:Int);unfold et;rw [if_neg ar];have:=NW (eB b size i).1 1 0 h.1 ar V0;have h6:(256:Int) ^ (0+(eB b size i).1.length)<=281474976710656:=by
   have h7:=h.2;generalize (eB b size i).1.length=n at h7;rcases (show n=0\/n=1\/n=2\/n=3\/n=4\/n=5\/n=6 by omega) with rfl | rfl | rfl | rfl | rfl | rfl | rfl <;> decide
  dsimp only;omega
 ·intro s hs; simp at hs
theorem N5:∀ (l:List cC) (b:List Int),(mC b l).length<=b.length+10*l.length:=by
 intro l
 induction l with
 | nil=>intro b; simp [mC]
 | cons s l ih =>
  intro b;have h1:=ih (b++cZ 9 s.fS);have h2:=Ch 9 s.fS;simp only [mC,zQK,zQG] at h1 ⊢;omega
theorem WF(b:Bool):(bif b then some true else some false)=some b:=by cases b <;> rfl
def Ci{α:Type}(f:α->α->Bool):List α->List α->Bool
 | x :: xs,y :: ys=>f x y && Ci f xs ys
 | _,_=>true
def M.same{α:Type}(f:α->α->Bool)(xs ys:List α):Bool:=(xs.length == ys.length) && Ci f xs ys
theorem UE{α:Type}{fin:Unit->Option Bool}{body:α->Nat->Unit->(Unit->Option Bool)->Option Bool}(f:α->α->Bool){xs ys:List α}(h:xs.length=ys.length)(hb:∀ x y i k,xs[i]?=some x->ys[i]?=some y->body x i () k=bif f x y then k () else some false) :
  bZ fin body xs 0 ()=bif Ci f xs ys then fin () else some false:=by
 have:∀ (l m:List α) (i:Nat),l=xs.drop i->m=ys.drop i->bZ fin body l i ()=bif Ci f l m then fin () else some false:=by
  intro l
  induction l with
  | nil=>intro m i _ _; simp [bZ,Ci]
  | cons x l ih =>
   intro m i h1 h2;have hlt:i < xs.length:=by have:=congrArg List.length h1; simp at this; omega
   cases m with
   | nil=>have:=congrArg List.length h2; simp at this; omega
   | cons y m =>
    have hx:xs[i]?=some x:=by have:=congrArg zYj h1; simpa [zXx] using this.symm
    have hy:ys[i]?=some y:=by have:=congrArg zYj h2; simpa [zXx] using this.symm
    have hl:l=xs.drop (i+1):=by have:=congrArg zZV h1; simpa [zXh] using this
    have hm:m=ys.drop (i+1):=by have:=congrArg zZV h2; simpa [zXh] using this
    simp only [bZ,Ci];rw [hb x y i _ hx hy,ih m (i+1) hl hm]
    cases f x y <;> simp
 exact this xs ys 0 eH eH
def oj(a b:List Int):Bool:=(strOfNums a).toList == (strOfNums b).toList
theorem Au(u:Nat)(a b:List Int):nu u a b=some (oj a b):=rfl
theorem vh(u:Nat)(a b:List Int):p7 u a b=some (oj a b):=rfl
theorem UF(x y:dq):(([x.aH,x.b8,x.aT]:List Int) == [y.aH,y.b8,y.aT])=decide (x=y):=by
 obtain ⟨a0,a1,a2⟩:=x;obtain ⟨b0,b1,b2⟩:=y;rw [zYJ]; simp
theorem zn{u:Nat}(hu:1099511627776<=u){a b:List cC}(ha:a.length<=1048576):mt u a b=some (M.same (λx y=>decide (x=y)) a b):=by
 unfold mt M.same
 by_cases h:a.length=b.length
 ·have h1:((a.length:Int) != (b.length:Int))=false:=by simp [h]
  simp only [h1,cond_false];rw [Dk u a b () u ar ar,UE (λx y=>decide (x=y)) h (λx y i k hx hy=>by unfold wz; rw [cO,hy]; simp only [wk,Mq]; cases decide (x=y) <;> rfl)];simp only [h,beq_self_eq_true,zWz];exact WF _
 ·have h1:((a.length:Int) != (b.length:Int))=true:=by simp; omega
  have h2:(a.length == b.length)=false:=by simpa using h
  simp [h1,h2]
def yy(a b:af):Bool:=(a.aH == b.aH) && (a.aB == b.aB) && (a.aT == b.aT) && M.same (λx y=>decide (x=y)) a.aI b.aI
theorem C4{u:Nat}(hu:1099511627776<=u){a b:af}(ha:a.aI.length<=1048576):qH u a b=some (yy a b):=by
 unfold qH yy;rw [zn hu ha]
 cases a.aH == b.aH <;> cases a.aB == b.aB <;> cases a.aT == b.aT <;> simp
def WG(l:List aG):Prop:=∀ x∈l,x.ay.aI.length<=1048576/\x.aZ.length<=1048576
theorem Cj(a b:Nat):((a:Int) == (b:Int))=(a == b):=by rw [zYJ,beq_iff_eq,beq_iff_eq]; omega
def eo{α:Type}(f:α->Bool):List α->Nat->Int
 | [],_=>-1
 | x :: l,i=>if f x then i else eo f l (i+1)
theorem Ko{α:Type}{fin:Unit->Option Int}{body:α->Nat->Unit->(Unit->Option Int)->Option Int}(f:α->Bool){xs:List α}(hf:fin ()=some (-1))(hb:∀ x i k,x∈xs->body x i () k=bif f x then some (i:Int) else k ()) :
  bZ fin body xs 0 ()=some (eo f xs 0):=by
 have:∀ (l:List α) (i:Nat),(∀ y∈l,y∈xs)->bZ fin body l i ()=some (eo f l i):=by
  intro l
  induction l with
  | nil=>intro i _; exact hf
  | cons x l ih =>
   intro i h;simp only [bZ,eo];rw [hb x i _ (h x eH),ih (i+1) (λy hy=>h y V3)]
   cases f x <;> simp
 exact this xs 0 (λ_ h=>h)
theorem S9{α:Type}(f:α->Bool):∀ (l:List α) (i:Nat),decide (eo f l i>=0)=l.any f:=by
 intro l
 induction l with
 | nil=>intro i; rfl
 | cons x l ih =>
  intro i;rw [List.any_cons,<- ih (i+1),zYJ];simp only [decide_eq_true_eq,Bool.or_eq_true]
  by_cases h:f x=true
  ·simp [eo,h]
  ·simp [eo,h]
def kP(r:dq):Bool:=aq r.aH 0 1000000 && aq r.b8 0 1 && aq r.aT 0 240
theorem BG(u:Nat)(r:dq):po u r=some (kP r):=by
 unfold po kP;simp only [bG,wk]
 cases aq r.aH 0 1000000 <;> cases aq r.b8 0 1 <;> rfl
theorem DZ(u:Nat)(n:Int):tT u n=some (aq n 0 1):=by
 unfold tT aq
 by_cases h0:n=0
 ·subst h0; rfl
 ·by_cases h1:n=1
  ·subst h1; rfl
  ·have e0:(n == 0)=false:=by simpa using h0
   have e1:(n == 1)=false:=by simpa using h1
   simp only [e0,e1,cond_false]
   by_cases h:0<=n
   ·have:¬ n<=1:=by omega
    simp [this]
   ·simp [h]
theorem BH(u:Nat)(r:dq):pt u r=some (kP r):=by
 unfold pt tG kP;simp only [cY,DZ,wk]
 cases aq r.aH 0 1000000 <;> cases aq r.b8 0 1 <;> rfl
def mV(d:aC)(n:Int):List Int:=if n=0 then d.fA else d.fB
theorem HS(u:Nat)(d:aC)(n:Int):gG u d n=some (mV d n):=by
 unfold gG mV
 by_cases h:n=0
 ·simp [h]
 ·have:(n == 0)=false:=by simpa using h
  simp [h,this]
theorem HT(u:Nat)(d:aC){n:Int}(h:aq n 0 1=true):tP u d n=some (mV d n):=by
 unfold tP mV;have:=bM h
 by_cases h0:n=0
 ·subst h0; rfl
 ·have:n=1:=by omega
  subst this; rfl
def kw(p:dv):Bool:=if p.mi=2 then (p.Di == 0) && (p.fB.length == 0) && kP p.fR else aq p.mi 0 1 && decide (p.fR=⟨0,0,0⟩) && aq p.Di 0 (240 - p.fB.length)
theorem Kp(x:dq):(([x.aH,x.b8,x.aT]:List Int) == [0,0,0])=decide (x=⟨0,0,0⟩):=UF x ⟨0,0,0⟩
theorem Px(u:Nat){p:dv}(h:p.fB.length<=1048576):yP u p=some (kw p):=by
 unfold yP kw;rw [cm ar ar];simp only [BH,DZ,cY,wk,Kp];have e:((p.fB.length:Int) == 0)=(p.fB.length == 0):=Cj _ 0
 by_cases h2:p.mi=2
 ·simp only [h2,beq_self_eq_true,cond_true,if_true,e]
  cases p.Di == 0 <;> cases p.fB.length == 0 <;> rfl
 ·have:(p.mi == 2)=false:=by simpa using h2
  simp only [this,cond_false,h2,if_false]
  cases aq p.mi 0 1 <;> cases decide (p.fR=⟨0,0,0⟩) <;> rfl
theorem Fn(u:Nat){p:dv}(h:p.fB.length<=1048576):tB u p=some (kw p):=by
 unfold tB kw;simp only [BG,bG,wk,Kp];have e:((p.fB.length:Int) == 0)=(p.fB.length == 0):=Cj _ 0
 by_cases h2:p.mi=2
 ·simp only [h2,beq_self_eq_true,cond_true,if_true,e]
  cases p.Di == 0 <;> cases p.fB.length == 0 <;> rfl
 ·have:(p.mi == 2)=false:=by simpa using h2
  simp only [this,cond_false,h2,if_false]
  cases h3:aq p.Di 0 240 with
  | false =>
   have h4:aq p.Di 0 (240 - p.fB.length)=false:=by
    have:=NS h3;simp [aq]; omega
   rw [h4]
   cases aq p.mi 0 1 <;> cases decide (p.fR=⟨0,0,0⟩) <;> rfl
  | true =>
   have h3:=bM h3;rw [cm ar ar];have h4:aq p.Di 0 (240 - p.fB.length)=decide ((p.fB.length:Int)<=240 - p.Di):=by
    rw [zYJ]; simp [aq]; omega
   rw [h4]
   cases aq p.mi 0 1 <;> cases decide (p.fR=⟨0,0,0⟩) <;> cases decide ((p.fB.length:Int)<=240 - p.Di) <;> rfl
def cP(d:aC):Bool:=decide (d.fA.length<=240) && decide (d.fB.length<=240) && kP d.fR && decide (d.fR.aT<=(mV d d.fR.b8).length) && decide (d.fP.length<=200) && d.fP.all kw
structure M.DOk (d:aC):Prop where
 a:d.fA.length<=1048576
 b:d.fB.length<=1048576
 p:d.fP.length<=1048576
 puts:∀ x∈d.fP,x.fB.length<=1048576
theorem LJ{u:Nat}(hu:1099511627776<=u){l:List dv}(hl:l.length<=1048576)(hp:∀ x∈l,x.fB.length<=1048576):b6 u l=some (l.any λx=>!kw x):=by
 unfold b6 cL;rw [jZ u l () u ar ar,Ko (λx=>!kw x) rfl (λx i k hx=>by unfold ew si; rw [Px u (hp x hx)]; rfl)];simp only [wk,S9]
theorem Ta{α:Type}(f:α->Bool)(l:List α):(!(l.any λx=>!f x))=l.all f:=by
 induction l with
 | nil=>rfl
 | cons x l ih=>simp only [List.any_cons,List.all_cons,Bool.not_or,Bool.not_not,ih]
theorem X3(a b:Int):decide (a > b)=!decide (a<=b):=by
 by_cases h:a<=b
 ·have:¬ a > b:=by omega
  simp [h,this]
 ·have:a > b:=by omega
  simp [h,this]
theorem JB(a b:Nat):decide ((a:Int)<=(b:Int))=decide (a<=b):=by rw [decide_eq_decide]; omega
theorem N6{u:Nat}(hu:1099511627776<=u){d:aC}(hd:M.DOk d):wO u d=some (cP d):=by
 unfold wO nJ cP;simp only [BH,HS,LJ hu hd.p hd.puts,wk,Ta,X3];have e1:decide ((d.fA.length:Int)<=240)=decide (d.fA.length<=240):=JB _ 240;have e2:decide ((d.fB.length:Int)<=240)=decide (d.fB.length<=240):=JB _ 240;have e3:decide ((d.fP.length:Int)<=200)=decide (d.fP.length<=200):=JB _ 200;rw [e1,e2,e3]
 cases decide (d.fA.length<=240) <;> cases decide (d.fB.length<=240) <;> cases kP d.fR <;> cases decide (d.fR.aT<=(mV d d.fR.b8).length) <;> cases decide (d.fP.length<=200) <;> rfl
theorem JC{u:Nat}(hu:1099511627776<=u){d:aC}(hd:M.DOk d):lR u u 0 d=some (d.fP.all kw):=by
 have:=hd.p;rw [IN u d () u ar ar];have:∀ (l:List dv) (i:Nat),(∀ y∈l,y∈d.fP)->bZ (A7 u d) (vI u d) l i ()=some (l.all kw):=by
  intro l
  induction l with
  | nil=>intro i _; rfl
  | cons x l ih =>
   intro i h;simp only [bZ,vI,Fn u (hd.puts x (h x eH)),wk,List.all_cons];rw [ih (i+1) (λy hy=>h y V3)]
   cases kw x <;> rfl
 exact this _ 0 (λ_ h=>h)
theorem AT{r:dq}(h:kP r=true):aq r.b8 0 1=true/\0<=r.aT/\r.aT<=240:=by
 unfold kP at h;simp only [sk] at h;exact ⟨h.1.2,(bM h.2).1,(bM h.2).2⟩
theorem nW{u:Nat}(hu:1099511627776<=u){d:aC}(hd:M.DOk d):k8 u d=some (cP d):=by
 unfold k8 lS cP;have e1:decide ((d.fA.length:Int)<=240)=decide (d.fA.length<=240):=JB _ 240;have e2:decide ((d.fB.length:Int)<=240)=decide (d.fB.length<=240):=JB _ 240;have e3:decide ((d.fP.length:Int)<=200)=decide (d.fP.length<=200):=JB _ 200;simp only [BG,JC hu hd,wk,X3,e1,e2,e3,cond_true]
 cases h:kP d.fR with
 | false=>cases decide (d.fA.length<=240) <;> cases decide (d.fB.length<=240) <;> rfl
 | true =>
  rw [HT u d (AT h).1];simp only [wk]
  cases decide (d.fA.length<=240) <;> cases decide (d.fB.length<=240) <;> cases decide (d.fR.aT<=(mV d d.fR.b8).length) <;> cases decide (d.fP.length<=200) <;> rfl
def iR(d:aC):Int×List Int:=if cP d then (d.fR.aH,(mV d d.fR.b8).take d.fR.aT.toNat) else (0,[])
theorem ri{d:aC}(h:cP d=true):kP d.fR=true/\d.fR.aT<=(mV d d.fR.b8).length/\d.fA.length<=240/\d.fB.length<=240/\d.fP.length<=200:=by
 unfold cP at h;simp only [sk,decide_eq_true_eq] at h;obtain ⟨⟨⟨⟨⟨h1,h2⟩,h3⟩,h4⟩,h5⟩,h6⟩:=h;exact ⟨h3,h4,h1,h2,h5⟩
theorem JD{d:aC}(h:cP d=true)(n:Int):(mV d n).length<=240:=by
 have:=ri h;unfold mV; split <;> omega
theorem LK{u:Nat}(hu:1099511627776<=u){d:aC}(hd:M.DOk d):uG u d=some (iR d):=by
 unfold uG iR;rw [N6 hu hd,HS];simp only [wk]
 cases h:cP d with
 | false=>rfl
 | true =>
  have h1:=ri h;have h2:=AT h1.1;have h3:=JD h d.fR.b8;obtain ⟨n,hn⟩:=zQJ h2.2.1;simp only [zQX,cond_false,if_true];rw [hn] at h1 ⊢;rw [show (0:Int)=((0:Nat):Int) by rfl,gw ar ar];simp only [wk,r0,zZH];rw [ve u eF]; rfl
theorem C5{u:Nat}(hu:1099511627776<=u){d:aC}(hd:M.DOk d):qS u d=some (iR d):=by
 unfold qS iR;rw [nW hu hd];simp only [wk]
 cases h:cP d with
 | false=>rfl
 | true =>
  have h1:=ri h;have h2:=AT h1.1;have h3:=JD h d.fR.b8;obtain ⟨n,hn⟩:=zQJ h2.2.1;rw [HT u d h2.1];simp only [zQX,cond_false,if_true,wk];rw [hn] at h1 ⊢;rw [show (0:Int)=((0:Nat):Int) by rfl,gw ar ar];simp only [wk,r0,zZH];rw [bq eF]; rfl
def M.holds(d:aC)(gen:Int)(b:List Int):Bool:=((iR d).1 == gen) && oj (iR d).2 b
theorem Py{u:Nat}(hu:1099511627776<=u){d:aC}(hd:M.DOk d)(gen:Int)(b:List Int):vL u d gen b=some (M.holds d gen b):=by
 unfold vL M.holds;rw [LK hu hd];simp only [wk,vh]
 cases (iR d).1 == gen <;> rfl
theorem Pz{u:Nat}(hu:1099511627776<=u){d:aC}(hd:M.DOk d)(gen:Int)(b:List Int):vM u d gen b=some (M.holds d gen b):=by
 unfold vM M.holds;rw [C5 hu hd];simp only [wk,Au]
 cases (iR d).1 == gen <;> rfl
def t6(w:World)(k:Int):Int:=if aq k 0 ((w.fD.length:Int) - 1) && aq k 0 ((w.ca.length:Int) - 1) then
  match w.fD[k.toNat]?,w.ca[k.toNat]? with
  | some d,some x=>if M.holds d 0 x.fB then 0 else if M.holds d 1 w.ct then 1 else -1
  | _,_=>-1
 else -1
structure M.DsOk (w:World):Prop where
 d:w.fD.length<=1048576
 old:w.ca.length<=1048576
 ok:∀ x∈w.fD,M.DOk x
theorem LL{u:Nat}(hu:1099511627776<=u){w:World}(hw:M.DsOk w)(k:Int):qW u w k=some (t6 w k):=by
 unfold qW ta t6;have h1:=hw.d;have h2:=hw.old;rw [cm ar ar,cm ar ar,cY,cY];simp only [wk]
 cases h:aq k 0 ((w.fD.length:Int) - 1) with
 | false=>rfl
 | true =>
  cases h':aq k 0 ((w.ca.length:Int) - 1) with
  | false=>rfl
  | true =>
   have h:=bM h;have h':=bM h';obtain ⟨n,rfl⟩:=zQJ h.1;have e1:=sX (l:=w.fD) (i:=n) ar;have e2:=sX (l:=w.ca) (i:=n) ar;have hd:=hw.ok _ (zXG (l:=w.fD) (n:=n) ar);simp only [zQX,cond_false,cO,e1,e2,wk,Py hu hd,zXK,if_true,r0]
   cases M.holds w.fD[n] 0 w.ca[n].fB <;> cases M.holds w.fD[n] 1 w.ct <;> rfl
theorem LM{u:Nat}(hu:1099511627776<=u){w:World}(hw:M.DsOk w)(k:Int):qX u w k=some (t6 w k):=by
 unfold qX tc t6;have h1:=hw.d;have h2:=hw.old;rw [cm ar ar,bG];simp only [wk]
 cases h:aq k 0 ((w.fD.length:Int) - 1) with
 | false=>rfl
 | true =>
  have h:=bM h
  cases h':aq k 0 ((w.ca.length:Int) - 1) with
  | false =>
   have h':=NS h';have:k>=(w.ca.length:Int):=by omega
   simp [this]
  | true =>
   have h':=bM h';have h3:¬ (k>=(w.ca.length:Int)):=by omega
   obtain ⟨n,rfl⟩:=zQJ h.1;have e1:=sX (l:=w.fD) (i:=n) ar;have e2:=sX (l:=w.ca) (i:=n) ar;have hd:=hw.ok _ (zXG (l:=w.fD) (n:=n) ar);simp only [zQX,cond_false,h3,decide_false,cO,e1,e2,wk,Pz hu hd,zXK,if_true,r0]
   cases M.holds w.fD[n] 0 w.ca[n].fB <;> cases M.holds w.fD[n] 1 w.ct <;> rfl
def vj(w:World):List Int:=(zWx 1 (w.fN.length - 1)).map λ(k:Nat)=>t6 w k
structure M.StOk (w:World):Prop where
 ds:M.DsOk w
 n:w.fN.length<=1048576
theorem PA{α ρ:Type}{fin:List α->Option ρ}{body:Nat->List α->(List α->Option ρ)->Option ρ}(g:Nat->α)(c:Nat)(hb:∀ i s k,i < c->s.length<=i->body i s k=k (s++[g i])) :
  ∀ (m i:Nat) (s:List α),i+m<=c->s.length<=i->gX fin body m i s=fin (s++(zWx i m).map g):=by
 intro m
 induction m with
 | zero=>intro i s _ _; simp [gX]
 | succ m ih =>
  intro i s h1 h2;simp only [gX];rw [hb i s _ ar h2,ih (i+1) _ ar eF,zYZ];simp
theorem N7{u:Nat}(hu:1099511627776<=u){w:World}(hw:M.StOk w):wQ u w=some (vj w):=by
 have hn:=hw.n;unfold wQ;have h:=Vx (n:=(w.fN.length:Int)) (fin:=Bf u w) (body:=vN u w) (λk s i=>lY u k s i w) ar (λ_ _ _=>rfl) (w.fN.length - 1) u 1 [] ar ar;rw [show ((1:Nat):Int)=1 by rfl] at h;rw [h,PA (λ(i:Nat)=>t6 w i) (w.fN.length+1)]
 ·rfl
 ·intro i s k hi hs;unfold vN;rw [LM hu hw.ds];simp only [wk];rw [bq eF];rfl
 ·omega
 ·simp
theorem N8{u:Nat}(hu:1099511627776<=u){w:World}(hw:M.StOk w):wP u w=some (vj w):=by
 have hn:=hw.n;unfold wP;rw [IQ u w [] u ar ar,r0];have hb:∀ i s (k:List Int->Option (List Int)),0 < i->i < w.fN.length+1->s.length<=i->ig u w i s k=k (s++[t6 w i]):=by
  intro i s k h0 hi hs;unfold ig lX;have:(i:Int) > 0:=by omega
  simp only [this,decide_true,cond_true,LL hu hw.ds,wk];rw [bq eF];rfl
 cases hl:w.fN.length with
 | zero=>simp [gX,jm,p8,vj,hl]
 | succ n =>
  simp only [gX];have e0:ig u w 0 [] (gX (jm u w) (ig u w) n (0+1))=gX (jm u w) (ig u w) n 1 []:=by
   unfold ig lX;simp
  rw [e0];have:∀ (m i:Nat) (s:List Int),0 < i->i+m<=w.fN.length+1->s.length<=i->gX (jm u w) (ig u w) m i s=jm u w (s++(zWx i m).map λ(k:Nat)=>t6 w k):=by
   intro m
   induction m with
   | zero=>intro i s _ _ _; simp [gX]
   | succ m ih =>
    intro i s h0 h1 h2;simp only [gX];rw [hb i s _ h0 ar h2,ih (i+1) _ ar ar eF,zYZ];simp
  rw [this n 1 [] ar ar eH];simp [jm,p8,vj,hl]
def BI(k:Int):ByteArray:=if k=0 then zm #[111] else if k=1 then zm #[110] else zm #[63]
def zo:List Int->ByteArray->ByteArray
 | [],s=>s
 | k :: l,s=>zo l (s++BI k)
theorem Tc(k:Int):(BI k).size=1:=by
 unfold BI
 split
 ·rfl
 ·split <;> rfl
theorem Kr:∀ (l:List Int) (s:ByteArray),(zo l s).size=s.size+l.length
 | [],s=>rfl
 | k :: l,s=>by
  show (zo l (s++BI k)).size=_;rw [Kr l,Dp,Tc,zQK];omega
theorem JE(u:Nat)(r:List Int):∀ (l:List Int) (i:Nat) (s:ByteArray),s.size+l.length<=1073741824->bZ (xQ u r) (rq u r) l i s=some (zo l s):=by
 intro l
 induction l with
 | nil=>intro i s _; rfl
 | cons k l ih =>
  intro i s h;simp only [zQK] at h;simp only [bZ,rq,gp,zo];rw [show (zm #[111]).size=1 by rfl,show (zm #[110]).size=1 by rfl,show (zm #[63]).size=1 by rfl,bq ar];simp only [wk];unfold BI;have e:∀ c:ByteArray,c.size=1->(s++c).size+l.length<=1073741824:=λc hc=>by rw [Dp,hc]; omega
  by_cases h0:k=0
  ·subst h0; exact ih (i+1) _ (e _ rfl)
  ·have e0:(k == 0)=false:=by simpa using h0
   by_cases h1:k=1
   ·subst h1; exact ih (i+1) _ (e _ rfl)
   ·have e1:(k == 1)=false:=by simpa using h1
    simp only [e0,e1,cond_false,h0,h1,if_false];exact ih (i+1) _ (e _ rfl)
theorem JF(u:Nat)(r:List Int):∀ (l:List Int) (i:Nat) (s:ByteArray),s.size+l.length<=1073741824->bZ (xR u r) (rr u r) l i s=some (zo l s):=by
 intro l
 induction l with
 | nil=>intro i s _; rfl
 | cons k l ih =>
  intro i s h;simp only [zQK] at h;simp only [bZ,rr,gq,zo];rw [show (zm #[111]).size=1 by rfl,show (zm #[110]).size=1 by rfl,show (zm #[63]).size=1 by rfl,bq ar];simp only [wk];unfold BI;have e:∀ c:ByteArray,c.size=1->(s++c).size+l.length<=1073741824:=λc hc=>by rw [Dp,hc]; omega
  by_cases h0:k=0
  ·subst h0; exact ih (i+1) _ (e _ rfl)
  ·have e0:(k == 0)=false:=by simpa using h0
   by_cases h1:k=1
   ·subst h1; exact ih (i+1) _ (e _ rfl)
   ·have e1:(k == 1)=false:=by simpa using h1
    simp only [e0,e1,cond_false,h0,h1,if_false];exact ih (i+1) _ (e _ rfl)
theorem PB(w:World):(vj w).length<=w.fN.length:=by
 unfold vj; rw [zWg,List.length_range']; omega
theorem Td{u:Nat}(hu:1099511627776<=u){p0:World}(hw:M.StOk p0):∃ v,qa u p0=some v/\p9 u p0=some v/\v.size=(vj p0).length:=by
 have hn:=hw.n;have hl:=PB p0;unfold qa p9;rw [N7 hu hw,N8 hu hw];simp only [wk];rw [ES u _ _ u ar ar,ER u _ _ u ar ar,JF u _ _ 0 _ qaW,JE u _ _ 0 _ qaW];exact ⟨_,rfl,rfl,by rw [Kr]; exact zWY _⟩
def Ey:List bS->Int->Int
 | [],a=>a
 | k :: l,a=>Ey l (if co k.bW then tZ .i64 a k.bW else a)
theorem PC(u:Nat)(r:List bS):∀ (l:List bS) (i:Nat) (a:Int),l=r.drop i->bZ (A9 u r) (vJ u r) l i a=some (Ey l a):=by
 intro l
 induction l with
 | nil=>intro i a _; rfl
 | cons k l ih =>
  intro i a hd;have hx:r[i]?=some k:=by have:=congrArg zYj hd; simpa [zXx] using this.symm
  have hl:l=r.drop (i+1):=by have:=congrArg zZV hd; simpa [zXh] using this
  simp only [bZ,vJ,nD,iC,wk,Ey,cO,hx,ih (i+1) _ hl]
  cases co k.bW <;> simp
theorem N9{u:Nat}(hu:1099511627776<=u){l:List bS}(hl:l.length<=1048576):wH u l=some (Ey l 0):=by
 unfold wH;rw [IP u l 0 u ar ar,PC u l l 0 0 eH]
def JG(w:World)(k:Nat):Bool:=match w.fN[k]? with | some n=>n.ia | none=>false
def D1(w:World):List Int:=((zWx 0 w.fN.length).filter (JG w)).map λ(k:Nat)=>(k:Int)
theorem Ez{α ρ:Type}{fin:List Int->Option ρ}{body:α->Nat->List Int->(List Int->Option ρ)->Option ρ}(g:Nat->Bool)(p:List α) :
  ∀ (l:List α) (i:Nat) (s:List Int),l=p.drop i->s.length<=i->(∀ x i s k,p[i]?=some x->s.length<=i->body x i s k=bif g i then k (s++[(i:Int)]) else k s)->bZ fin body l i s=fin (s++((zWx i l.length).filter g).map λ(k:Nat)=>(k:Int)):=by
 intro l
 induction l with
 | nil=>intro i s _ _ _; simp [bZ]
 | cons x l ih =>
  intro i s h1 h2 h3;have hx:p[i]?=some x:=by have:=congrArg zYj h1; simpa [zXx] using this.symm
  have hl:l=p.drop (i+1):=by have:=congrArg zZV h1; simpa [zXh] using this
  simp only [bZ,zQK,zYZ];rw [h3 x i s _ hx h2]
  cases hg:g i with
  | true=>simp only [cond_true,zZg,hg,if_true,zWy]; rw [ih (i+1) _ hl eF h3]; simp
  | false=>simp only [cond_false,zZg,hg,zQj,if_false]; rw [ih (i+1) _ hl ar h3]
theorem VG{w:World}{i:Nat}{x:aG}(h:w.fN[i]?=some x):JG w i=x.ia:=by unfold JG; rw [h]
theorem Av{α:Type}{l:List α}{i:Nat}{x:α}(h:l[i]?=some x):i < l.length:=by
 rcases Nat.lt_or_ge i l.length with h1 | h1
 ·exact h1
 ·rw [List.getElem?_eq_none h1] at h; cases h
theorem Rs{u:Nat}(hu:1099511627776<=u){w:World}(hn:w.fN.length<=1048576):Bj u w=some (D1 w):=by
 unfold Bj fa;rw [q5 u w _ u ar ar,Ez (JG w) w.fN w.fN 0 [] eH eH]
 ·simp [ku,er,D1]
 ·intro x i s k hx hs;have:=Av hx;unfold kv cV wY;simp only [wk,VG hx];rw [bq eF]; rfl
theorem Rt{u:Nat}(hu:1099511627776<=u){w:World}(hn:w.fN.length<=1048576):Bm u w=some (D1 w):=by
 unfold Bm;rw [Mw u w _ u ar ar,Ez (JG w) w.fN w.fN 0 [] eH eH]
 ·simp [Dn,yh,D1]
 ·intro x i s k hx hs;have:=Av hx;unfold Do q6;simp only [VG hx];rw [bq eF]; rfl
theorem Te(w:World):(D1 w).length<=w.fN.length:=by
 unfold D1;rw [zWg];have:=zYh (JG w) (zWx 0 w.fN.length);rwa [List.length_range'] at this
theorem Oa{u:Nat}(hu:1099511627776<=u){r:List Int}(hr:r.length<=1048576)(k:Int):wE u r k=some (r.any λy=>y == k):=by
 unfold wE;rw [IK u r k () u ar ar];have:∀ (l:List Int) (i:Nat),bZ (A5 u r k) (vH u r k) l i ()=some (l.any λy=>y == k):=by
  intro l
  induction l with
  | nil=>intro i; rfl
  | cons y l ih =>
   intro i;simp only [bZ,vH,List.any_cons];rw [ih (i+1)]
   cases y == k <;> rfl
 exact this r 0
theorem WH{ρ:Type}(J:List Int->Option ρ)(n:Int)(hn:n<=1048576)(L:Nat->List Int->Option ρ)(hL:∀ k x,L (k+1) x=bif decide ((x.length:Int) < n) then ((cd (decide ((x.length+([0]:List Int).length)*1<=140737488355328))).bind λ_=>L k (x++[0])) else J x) :
  ∀ (m k:Nat) (x:List Int),(x.length+m=n.toNat\/(m=0/\n<=x.length))->m < k->L k x=J (x++zQq m 0):=by
 intro m
 induction m with
 | zero =>
  intro k x h1 h2;obtain ⟨k,rfl⟩:∃ j,k=j+1:=⟨k - 1,by omega⟩;have e:¬ ((x.length:Int) < n):=by omega
  rw [hL]; simp [e]
 | succ m ih =>
  intro k x h1 h2;obtain ⟨k,rfl⟩:∃ j,k=j+1:=⟨k - 1,by omega⟩;have e:(x.length:Int) < n:=by omega
  rw [hL,bq eF];simp only [e,decide_true,cond_true,wk];rw [ih k _ eF ar,zQv];rfl
theorem Ck{α ρ:Type}{fin:List α->Option ρ}{body:α->Nat->List α->(List α->Option ρ)->Option ρ}(n:Nat)(p:List α)(hb:∀ x i s k,x∈p->s.length+1<=n->body x i s k=k (s++[x])) :
  ∀ (l:List α) (i:Nat) (s:List α),(∀ x∈l,x∈p)->s.length+l.length<=n->bZ fin body l i s=fin (s++l):=by
 intro l
 induction l with
 | nil=>intro i s _ _; simp [bZ]
 | cons x l ih =>
  intro i s h1 h2;simp only [zQK] at h2;simp only [bZ];rw [hb x i s _ (h1 x eH) ar,ih (i+1) _ (λy hy=>h1 y V3) eF];simp
theorem gQ{u:Nat}(hu:1099511627776<=u){d:aC}(hd:M.DOk d):d9 u d=some d:=by
 have h1:=hd.a;have h2:=hd.b;have h3:=hd.p;unfold d9;rw [bq eF,bq eF];simp only [wk];rw [IE u d _ u ar ar,Ck 1048576 d.fP _ d.fP 0 [] (λ_ h=>h) eF]
 ·rfl
 ·intro x i s k hx hs;have h4:=hd.puts x hx;unfold A2 gH;rw [bq eF];simp only [wk];rw [bq eF]; rfl
def Ks(b:List Int)(a:Nat)(p:List Int):List Int:=M3 (b++zQq (a+p.length - b.length) 0) p a
theorem HU{x p:List Int}{a:Nat}(h:a+p.length<=x.length):M3 x p a=x.take a++p++x.drop (a+p.length):=by
 unfold M3;rw [zYx (l:=p) ar,zXg ar]
theorem Ob(b:List Int)(a:Nat)(p:List Int):(Ks b a p).length=max b.length (a+p.length):=by
 unfold Ks;rw [HU eF];simp;omega
theorem qbg(u:Nat)(a:Nat)(p:List Int)(ha:a<=1048576):∀ (l:List Int) (i:Nat) (s:List Int),a+i+l.length<=s.length->s.length<=4194304->bZ (xu u a p) (xv u a p) l i s=some (s.take (a+i)++l++s.drop (a+i+l.length)):=by
 intro l
 induction l with
 | nil=>intro i s _ _; simp [bZ,xu,rQ]
 | cons y l ih =>
  intro i s h1 h2;simp only [zQK] at h1;simp only [bZ,xv];rw [cN ar ar,show (a:Int)+(i:Int)=((a+i:Nat):Int) by omega,cO,sX ar,r0];simp only [wk];rw [ih (i+1) _ eF eF];have e1:(s.set (a+i) y).take (a+(i+1))=s.take (a+i)++[y]:=by
   rw [show a+(i+1)=(a+i)+1 by omega,List.take_add_one,List.take_set_of_le (zWk _)];simp [show a+i < s.length by omega]
  have e2:(s.set (a+i) y).drop (a+(i+1)+l.length)=s.drop (a+i+(y :: l).length):=by
   rw [List.drop_set_of_lt ar]; simp only [zQK]; congr 1; omega
  rw [e1,e2]; simp
theorem Fo{u:Nat}(hu:1099511627776<=u){b p:List Int}{a:Nat}(hb:b.length<=1048576)(hp:a+p.length<=1048576):pX u b a p=some (Ks b a p):=by
 unfold pX;rw [bq eF];simp only [wk,zQz];have e:aL .i64 (a:Int) (p.length:Int)=((a+p.length:Nat):Int):=by rw [cN ar ar]; omega
 rw [WH (λx=>rS u a p x) ((a+p.length:Nat):Int) ar (λk x=>m0 u k a p x) (λk x=>by rw [<- e]; rfl) (a+p.length - b.length) u b (by rw [r0]; omega) ar];unfold rS;rw [KP u a p _ u ar ar,qbg u a p ar p 0 _ eF eF];unfold Ks;rw [HU eF]; simp
def w9(d:aC)(p:dv):aC:=if p.mi=2 then ⟨d.fA,d.fB,p.fR,d.fP⟩ else if p.mi=0 then ⟨Ks d.fA p.Di.toNat p.fB,d.fB,d.fR,d.fP⟩ else ⟨d.fA,Ks d.fB p.Di.toNat p.fB,d.fR,d.fP⟩
theorem D2{p:dv}(h:kw p=true):p.mi=2\/((p.mi=0\/p.mi=1)/\0<=p.Di/\p.Di+p.fB.length<=240):=by
 unfold kw at h
 by_cases h2:p.mi=2
 ·exact .inl h2
 ·rw [if_neg h2] at h;simp only [sk] at h;have h3:=bM h.1.1;have h4:=bM h.2;exact .inr ⟨by omega,by omega,by omega⟩
theorem EA{d:aC}{p:dv}(hd:M.DOk d)(h:kw p=true):M.DOk (w9 d p):=by
 have h1:=hd.a;have h2:=hd.b;unfold w9;rcases D2 h with h | ⟨h3,h4,h5⟩
 ·rw [if_pos h]; exact ⟨hd.a,hd.b,hd.p,hd.puts⟩
 ·split
  ·exact ⟨hd.a,hd.b,hd.p,hd.puts⟩
  ·split
   ·exact ⟨by rw [Ob]; omega,hd.b,hd.p,hd.puts⟩
   ·exact ⟨hd.a,by rw [Ob]; omega,hd.p,hd.puts⟩
theorem D3{u:Nat}(hu:1099511627776<=u){d:aC}{p:dv}(hd:M.DOk d)(hp:p.fB.length<=1048576)(h:kw p=true):jW u d p=some (w9 d p):=by
 have h1:=hd.a;have h2:=hd.b;unfold jW w9;rw [gQ hu hd,Fn u hp,h];simp only [wk,zQX,cond_false];rcases D2 h with h | ⟨h3,h4,h5⟩
 ·rw [h]; rfl
 ·obtain ⟨a,ha⟩:=zQJ h4;rcases h3 with h3 | h3
  ·rw [h3,ha,Fo hu h1 ar]; rfl
  ·rw [h3,ha,Fo hu h2 ar]; rfl
def vk(s:Int):List dv->Nat->aC->aC
 | [],_,d=>⟨d.fA,d.fB,d.fR,[]⟩
 | p :: l,i,d=>vk s l (i+1) (if eu s i then w9 d p else d)
def M.fall(d:aC)(s:Int):aC:=if cP d then vk s d.fP 0 d else d
theorem X4(s:Int):∀ (l:List dv) (i:Nat) (d:aC),(∀ p∈l,kw p=true)->M.DOk d->M.DOk (vk s l i d):=by
 intro l
 induction l with
 | nil=>intro i d _ hd; exact ⟨hd.a,hd.b,by simp [vk],by simp [vk]⟩
 | cons p l ih =>
  intro i d hp hd;refine ih (i+1) _ (λq hq=>hp q T5) ?_
  split
  ·exact EA hd (hp p eH)
  ·exact hd
theorem xb{d:aC}(h:cP d=true):∀ p∈d.fP,kw p=true:=by
 unfold cP at h;simp only [sk] at h;exact aae.1 h.2
theorem Zt{d:aC}(hd:M.DOk d)(s:Int):M.DOk (M.fall d s):=by
 unfold M.fall
 split
 ·rename_i h; exact X4 s _ 0 d (xb h) hd
 ·exact hd
def tup(d:aC):List Int×List Int×Int×Int×Int×List dv:=(d.fA,d.fB,d.fR.aH,d.fR.b8,d.fR.aT,d.fP)
theorem Tf{u:Nat}(hu:1099511627776<=u)(s:Int){d0:aC}(h0:∀ p∈d0.fP,kw p=true/\p.fB.length<=1048576):∀ (n i:Nat) (d:aC),i+n=d0.fP.length->M.DOk d->gX (Dl u s d0) (yM u s d0) n i (tup d)=some (vk s (d0.fP.drop i) i d):=by
 intro n
 induction n with
 | zero=>intro i d h1 _; rw [zYW ar]; rfl
 | succ n ih =>
  intro i d h1 hd;have hx:=sX (l:=d0.fP) (i:=i) ar;have h2:=h0 d0.fP[i] (zXG ar);rw [zXY ar];simp only [gX,yM,qV,iD,cO,hx,wk,vk]
  cases hs:eu s i with
  | true =>
   simp only [cond_true,if_true];rw [show (aC.mk (tup d).1 (tup d).2.1 (dq.mk (tup d).2.2.1 (tup d).2.2.2.1 (tup d).2.2.2.2.1) (tup d).2.2.2.2.2)=d by rfl,D3 hu hd h2.2 h2.1];exact ih (i+1) _ ar (EA hd h2.1)
  | false =>
   simp only [cond_false,zQj,if_false];exact ih (i+1) _ ar hd
theorem Ru{u:Nat}(hu:1099511627776<=u){d:aC}(hd:M.DOk d)(s:Int):Bd u d s=some (M.fall d s):=by
 have h3:=hd.p;unfold Bd M.fall;rw [gQ hu hd,nW hu hd];simp only [wk]
 cases h:cP d with
 | false=>rfl
 | true =>
  simp only [zQX,cond_false,if_true];have e:=Tf hu s (d0:=d) (λp hp=>⟨xb h p hp,hd.puts p hp⟩) d.fP.length 0 d ar hd;have e2:=Mv u s d (tup d) u ar ar;rw [r0,e] at e2;exact e2
structure Cu (c:aJ):Prop where
 i0:0<=c.fI
 n:c.fI<=(c.fB.length:Int)
 len:c.fB.length<=1048576
def Dr{α:Type}(r:Option (α×aJ))(p:α->Prop):Prop:=∃ v c,r=some (v,c)/\p v/\Cu c
theorem Mr{α:Type}{r:Option (α×aJ)}{p q:α->Prop}(h:Dr r p)(hpq:∀ v,p v->q v):Dr r q:=by
 obtain ⟨v,c,e,h1,h2⟩:=h;exact ⟨v,c,e,hpq v h1,h2⟩
theorem cA{α β:Type}{r:Option (α×aJ)}{p:α->Prop}{f:α×aJ->Option (β×aJ)}{q:β->Prop}(h:Dr r p)(hf:∀ v c,p v->Cu c->Dr (f (v,c)) q):Dr (r.bind f) q:=by
 obtain ⟨v,c,e,h1,h2⟩:=h;rw [e];exact hf v c h1 h2
theorem c8{α:Type}{v:α}{c:aJ}{p:α->Prop}(h:p v)(hc:Cu c):Dr (Option.some (v,c)) p:=⟨v,c,rfl,h,hc⟩
theorem X5(a:Int):0<=bJ .i64 a 255/\bJ .i64 a 255<=255:=by
 unfold bJ;have h:(Sh 64 a &&& Sh 64 255).toNat<=255:=by
  rw [BitVec.toNat_and];exact zVQ
 have e:Ir .i64 (((Sh 64 a &&& Sh 64 255).toNat:Nat):Int)=(((Sh 64 a &&& Sh 64 255).toNat:Nat):Int):=wrap_i64 ar ar;show 0<=Ir .i64 (((Sh 64 a &&& Sh 64 255).toNat:Nat):Int)/\Ir .i64 (((Sh 64 a &&& Sh 64 255).toNat:Nat):Int)<=255;rw [e];omega
theorem X6{u:Nat}(hu:1099511627776<=u){code:List Int}(h:code.length<=1048576):∃ c,tu u code=some c/\Cu c:=by
 have key:∀ (m k i:Nat) (x:Int),i+m=code.length->m < k->∃ c,jI u k code x (i:Int)=some c/\Cu c:=by
  intro m
  induction m with
  | zero =>
   intro k i x hi hk;obtain ⟨k,rfl⟩:∃ j,k=j+1:=⟨k - 1,by omega⟩;unfold jI;have:¬ ((i:Int) < (code.length:Int)):=by omega
   simp only [this,decide_false,cond_false,rD,wj];exact ⟨_,rfl,⟨Int.le_refl 0,Int.natCast_nonneg _,h⟩⟩
  | succ m ih =>
   intro k i x hi hk;obtain ⟨k,rfl⟩:∃ j,k=j+1:=⟨k - 1,by omega⟩;unfold jI;have hlt:(i:Int) < (code.length:Int):=by omega
   simp only [hlt,decide_true,cond_true,rD]
   by_cases h4:(i:Int) < 4000
   ·simp only [h4,decide_true,cond_true,cO];obtain ⟨y,hy⟩:∃ y,code[i]?=some y:=⟨code[i],sX ar⟩;rw [hy];simp only [wk];rw [dy ar];exact ih k (i+1) _ ar ar
   ·simp only [h4,decide_false,cond_false,wj];exact ⟨_,rfl,⟨Int.le_refl 0,Int.natCast_nonneg _,h⟩⟩
 exact key code.length u 0 _ ar ar
theorem BJ(u:Nat){c:aJ}(hc:Cu c):Dr (k6 u c) (λv=>0<=v/\v<=255):=by
 have h0:=hc.i0;have h1:=hc.n;have h2:=hc.len;unfold k6
 by_cases h:c.fI < (c.fB.length:Int)
 ·simp only [h,decide_true,cond_true];obtain ⟨i,hi⟩:∃ i:Nat,c.fI=(i:Int):=⟨c.fI.toNat,by omega⟩;rw [hi,cO,sX ar];simp only [wk,pO];exact c8 (X5 _) ⟨by show 0<=aL .i64 (i:Int) 1; rw [dy ar]; omega,by show aL .i64 (i:Int) 1<=(c.fB.length:Int); rw [dy ar]; omega,h2⟩
 ·simp only [h,decide_false,cond_false,pO];exact c8 (X5 _) ⟨h0,h1,h2⟩
theorem cJ(u:Nat){c:aJ}(hc:Cu c)(n:Int):Dr (aW u c n) (λv=>0<=v/\(0 < n->v < n)):=by
 unfold aW
 by_cases h:n<=0
 ·simp only [h,decide_true,cond_true];exact c8 ⟨Int.le_refl 0,λh'=>by omega⟩ hc
 ·have hn:(!(n == 0))=true:=by simp; omega
  have hr:∀ a:Int,0<=a->0<=ml .i64 a n/\(0 < n->ml .i64 a n < n):=λa ha=>by
   rw [yV ha];exact ⟨zVX _ ar,λ_=>zVY _ ar⟩
  simp only [h,decide_false,cond_false]
  by_cases h2:n<=256
  ·simp only [h2,decide_true,cond_true];refine cA (BJ u hc) λv c' hv hc'=>?_;rw [hn];exact c8 (hr v hv.1) hc'
  ·simp only [h2,decide_false,cond_false];refine cA (BJ u hc) λv c' hv hc'=>?_;refine cA (BJ u hc') λv2 c2 hv2 hc2=>?_;refine cA (BJ u hc2) λv3 c3 hv3 hc3=>?_;rw [hn];refine c8 (hr _ ?_) hc3;simp only;rw [jd ar ar,jd ar ar,cN (a:=v*65536) (b:=v2*256) ar ar,cN ar ar];omega
theorem JH(u:Nat){c:aJ}(hc:Cu c)(n:Int):Dr (ie u c n) (λ_=>True):=by
 unfold ie;exact cA (cJ u hc n) λv c' _ hc'=>c8 trivial hc'
theorem o9(u:Nat){c:aJ}(hc:Cu c){xs:List Int}(hx:0 < xs.length):Dr (di u c xs) (λv=>v∈xs):=by
 unfold di;refine cA (cJ u hc _) λv c' hv hc'=>?_;have hlt:=hv.2 ar;obtain ⟨i,hi⟩:∃ i:Nat,v=(i:Int):=⟨v.toNat,by omega⟩;subst hi;have hi:i < xs.length:=by omega
 simp only [cO,sX hi,wk];exact c8 (zXG hi) hc'
theorem Oc{u:Nat}(hu:1099511627776<=u){c:aJ}(hc:Cu c){n:Nat}(hn:n<=1000):Dr (fL u c (n:Int)) (λv=>v.length<=n):=by
 unfold fL;rw [dy ar];refine cA (cJ u hc _) λv c1 hv hc1=>?_;have hlt:=hv.2 ar;obtain ⟨m,hm⟩:∃ m:Nat,v=(m:Int):=⟨v.toNat,by omega⟩;subst hm;have key:∀ (m k:Nat) (x:List Int) (c:aJ),m < k->Cu c->x.length+m<=1000->Dr (fy u k x (m:Int) c.fB c.fI c.fH) (λv=>v.length<=x.length+m):=by
  intro m
  induction m with
  | zero =>
   intro k x c hk hc hx;obtain ⟨k,rfl⟩:∃ j,k=j+1:=⟨k - 1,by omega⟩;unfold fy;simp only [zVJ,gt_iff_lt,Int.lt_irrefl,decide_false,cond_false,sK];exact c8 (zWk _) hc
  | succ m ih =>
   intro k x c hk hc hx;obtain ⟨k,rfl⟩:∃ j,k=j+1:=⟨k - 1,by omega⟩;unfold fy;have:((m+1:Nat):Int) > 0:=by omega
   simp only [this,decide_true,cond_true];refine cA (o9 u hc (xs:=[97,98,99,0,255]) eH) λv c2 hv hc2=>?_;rw [bq eF];simp only [wk];rw [cm ar ar];have e:((m+1:Nat):Int) - 1=(m:Int):=by omega
   rw [e];refine Mr (ih k _ c2 ar hc2 eF) λv h=>?_;simp only [zQG,zQK,zXQ] at h;omega
 refine Mr (key m u [] c1 ar hc1 eF) λv h=>?_;simp only [zXQ] at h;omega
theorem Cl{d:aC}(h:cP d=true):M.DOk d:=by
 have h1:=ri h;refine ⟨by omega,by omega,by omega,λx hx=>?_⟩;have h2:=xb h x hx;rcases D2 h2 with h3 | ⟨_,h3,h4⟩
 ·unfold kw at h2;rw [if_pos h3] at h2;simp only [sk,beq_iff_eq] at h2;omega
 ·omega
theorem Od(u:Nat){g:Int}{b:List Int}(h0:0<=g)(h1:g<=1000000)(hb:b.length<=240):mM u g b=some ⟨b,[],⟨g,0,b.length⟩,[]⟩/\cP ⟨b,[],⟨g,0,b.length⟩,[]⟩=true:=by
 refine ⟨?_,?_⟩
 ·unfold mM;have hw:aq g 0 1000000=true:=by simp [aq,h0,h1]
  rw [bG,hw];simp only [wk,zQX,cond_false];have:¬ ((b.length:Int) > 240):=by omega
  simp only [this,decide_false,oQ,cond_false];rw [bq eF];simp
 ·simp [cP,kP,aq,mV,h0,h1,hb];omega
def je(d:aC)(p:dv):aC:=⟨d.fA,d.fB,d.fR,d.fP++[p]⟩
theorem Rv(u:Nat){p:dv}(h:p.fB.length<=1048576):gH u p=some p:=by
 unfold gH;rw [bq eF];simp
theorem EB{d:aC}{p:dv}(hd:M.DOk d)(hl:d.fP.length<=1048575)(hp:p.fB.length<=1048576):M.DOk (je d p) :=
 ⟨hd.a,hd.b,by simp [je]; omega,λx hx=>by
  rcases aac.1 hx with h | h
  ·exact hd.puts x h
  ·simp at h; subst h; exact hp⟩
theorem AU{u:Nat}(hu:1099511627776<=u){d:aC}{p:dv}(hd:M.DOk d)(hl:d.fP.length<=1048575)(hp:p.fB.length<=1048576) :
  ov u d p=some (if cP (je d p) then (je d p,true) else (d,false)):=by
 have hap:=hd.p;unfold ov;rw [gQ hu hd];simp only [wk];rw [Rv u hp];simp only [wk];rw [bq eF];simp only [wk];have e:(aC.mk d.fA d.fB d.fR (d.fP++[p]))=je d p:=rfl;rw [e,nW hu (EB hd hl hp)];simp only [wk]
 cases h:cP (je d p) <;> simp
def Cm:List dv->aC->aC
 | [],d=>⟨d.fA,d.fB,d.fR,[]⟩
 | p :: l,d=>Cm l (w9 d p)
def xH(d:aC):aC:=if cP d then Cm d.fP d else d
theorem VH:∀ (l:List dv) (d:aC),(∀ p∈l,kw p=true)->M.DOk d->M.DOk (Cm l d)
 | [],d,_,hd=>⟨hd.a,hd.b,by simp [Cm],by simp [Cm]⟩
 | p :: l,d,hp,hd=>VH l _ (λq hq=>hp q T5) (EA hd (hp p eH))
theorem VI{d:aC}(hd:M.DOk d):M.DOk (xH d):=by
 unfold xH
 cases h:cP d with
 | true=>exact VH _ _ (xb h) hd
 | false=>exact hd
theorem Tg{u:Nat}(hu:1099511627776<=u)(d0:aC):∀ (l:List dv) (i:Nat) (d:aC),(∀ p∈l,kw p=true/\p.fB.length<=1048576)->M.DOk d->bZ (yJ u d0) (yK u d0) l i (tup d)=some (Cm l d):=by
 intro l
 induction l with
 | nil=>intro i d _ _; rfl
 | cons p l ih =>
  intro i d hp hd;obtain ⟨h1,h2⟩:=hp p eH;show (jW u d p).bind (λr25=>bZ (yJ u d0) (yK u d0) l (i+1) (tup r25))=_;rw [D3 hu hd h2 h1];exact ih (i+1) _ (λq hq=>hp q T5) (EA hd h1)
theorem HV{u:Nat}(hu:1099511627776<=u){d:aC}(hd:M.DOk d):qQ u d=some (xH d):=by
 have h3:=hd.p;unfold qQ xH;rw [gQ hu hd,nW hu hd];simp only [wk]
 cases h:cP d with
 | false=>rfl
 | true =>
  simp only [zQX,cond_false,if_true];have:=Mu u d (tup d) u ar ar;exact this.trans (Tg hu d d.fP 0 d (λp hp=>⟨xb h p hp,hd.puts p hp⟩) hd)
theorem Th{u:Nat}(hu:1099511627776<=u){c:aJ}(hc:Cu c):Dr (sf u c) (λp=>p.fB.length<=5):=by
 unfold sf;refine cA (JH u hc 4) λb c1 _ h1=>?_
 cases b with
 | true =>
  simp only [cond_true];refine cA (cJ u h1 4) λv2 c2 _ h2=>?_;refine cA (cJ u h2 2) λv3 c3 _ h3=>?_;refine cA (cJ u h3 6) λv4 c4 _ h4=>?_;exact c8 eH h4
 | false =>
  simp only [cond_false];refine cA (cJ u h1 2) λv2 c2 _ h2=>?_;refine cA (cJ u h2 9) λv3 c3 _ h3=>?_;refine cA (Oc hu h3 (n:=5) ar) λv4 c4 hv h4=>?_;exact c8 hv h4
theorem WI{u:Nat}(hu:1099511627776<=u){c:aJ}(hc:Cu c):Dr (wL u c) (λd=>cP d=true):=by
 unfold wL;refine cA (cJ u hc 3) λg c1 hg h1=>?_;refine cA (Oc hu h1 (n:=9) ar) λb c2 hb h2=>?_;have hg2:=hg.2 ar;obtain ⟨e1,e2⟩:=Od u hg.1 ar (b:=b) ar;simp only [e1,wk];refine cA (cJ u h2 5) λn c3 hn h3=>?_;obtain ⟨m,hm⟩:∃ m:Nat,n=(m:Int):=⟨n.toNat,by omega⟩;subst hm;have hm5:=hn.2 ar;have key:∀ (m k:Nat) (d:aC) (c:aJ),m < k->m<=5->cP d=true->Cu c->Dr (gI u k (m:Int) d.fA d.fB d.fR.aH d.fR.b8 d.fR.aT d.fP c.fB c.fI c.fH) (λd=>cP d=true):=by
  intro m
  induction m with
  | zero =>
   intro k d c hk _ hd hc;obtain ⟨k,rfl⟩:∃ j,k=j+1:=⟨k - 1,by omega⟩;unfold gI;simp only [zVJ,gt_iff_lt,Int.lt_irrefl,decide_false,cond_false,yN];exact c8 hd hc
  | succ m ih =>
   intro k d c hk hm hd hc;obtain ⟨k,rfl⟩:∃ j,k=j+1:=⟨k - 1,by omega⟩;unfold gI;have:((m+1:Nat):Int) > 0:=by omega
   simp only [this,decide_true,cond_true];refine cA (Th hu hc) λp c1 hp h1=>?_;have hD:=Cl hd;have hpl:=ri hd;have e:(aC.mk d.fA d.fB (dq.mk d.fR.aH d.fR.b8 d.fR.aT) d.fP)=d:=rfl;rw [e,AU hu hD (p:=p) ar ar];simp only [wk];obtain ⟨d',b',hd',hif⟩:∃ d' b',cP d'=true/\(if cP (je d p)=true then (je d p,true) else (d,false))=(d',b'):=by
    cases h:cP (je d p) with
    | true=>exact ⟨_,true,h,rfl⟩
    | false=>exact ⟨_,false,hd,rfl⟩
   rw [hif];simp only;rw [HV hu (Cl hd')];simp only [wk];refine cA (JH u h1 5) λo c2 _ h2=>?_;have hs:(cG .i64 ((m+1:Nat):Int) 1)=(m:Int):=by rw [cm ar ar]; omega
   cases o with
   | true =>
    simp only [cond_true];rw [nW hu (VI (Cl hd'))];simp only [wk,p6,p5,hs]
    cases hx:cP (xH d') with
    | true=>exact ih k _ c2 ar ar hx h2
    | false=>exact ih k _ c2 ar ar hd' h2
   | false =>
    simp only [cond_false,p6,p5,hs];exact ih k _ c2 ar ar hd' h2
 exact key m u _ c3 ar ar e2 h3
theorem X7{u:Nat}(hu:1099511627776<=u){c:aJ}(hc:Cu c):Dr (vK u c) (λd=>M.DOk d/\d.fP.length<=201):=by
 unfold vK;refine cA (WI hu hc) λd c1 hd h1=>?_;have hD:=Cl hd;have hl:=ri hd;have hok:∀ r,M.DOk ⟨d.fA,d.fB,r,d.fP⟩/\d.fP.length<=201:=λr=>⟨⟨hD.a,hD.b,hD.p,hD.puts⟩,by omega⟩;refine cA (cJ u h1 12) λn c2 _ h2=>?_;simp only
 cases n == 0 with
 | true =>
  simp only [cond_true];refine cA (o9 u h2 eH) λx c3 _ h3=>?_;exact c8 (hok _) h3
 | false =>
  simp only [cond_false]
  cases n == 1 with
  | true =>
   simp only [cond_true];refine cA (o9 u h2 eH) λx c3 _ h3=>?_;exact c8 (hok _) h3
  | false =>
   simp only [cond_false]
   cases n == 2 with
   | true =>
    simp only [cond_true];refine cA (o9 u h2 eH) λx c3 _ h3=>?_;exact c8 (hok _) h3
   | false =>
    simp only [cond_false]
    cases n == 3 with
    | true =>
     simp only [cond_true];refine cA (o9 u h2 eH) λx c3 _ h3=>?_;refine cA (o9 u h3 eH) λy c4 _ h4=>?_;rw [bq eF];simp only [wk,m4];refine c8 ⟨EB hD ar (p:=⟨x,y,[1],⟨0,0,0⟩⟩) eH,by simp; omega⟩ h4
    | false=>exact c8 (hok _) h2
theorem Qp(s:Int):∀ (l:List dv) (i:Nat) (d:aC),(vk s l i d).fP=[]
 | [],i,d=>rfl
 | p :: l,i,d=>Qp s l (i+1) _
theorem X8{d:aC}(h:cP d=true)(s:Int):(M.fall d s).fP=[]:=by
 unfold M.fall;rw [h];exact Qp s d.fP 0 d
theorem WJ(n:Int):0<=Ir .u8 n/\Ir .u8 n<=255:=by
 show 0<=n % 256/\n % 256<=255;omega
theorem JI(n:Int):av [Ir .u8 n]:=λx hx=>by
 simp only [zQy] at hx;subst hx;exact WJ n
theorem yz{a b:List Int}(ha:av a)(hb:av b):av (a++b):=λx hx=>(aac.1 hx).elim (ha x) (hb x)
theorem EC{a:List Int}(ha:av a)(i:Nat){v:Int}(hv:0<=v/\v<=255):av (a.set i v):=λx hx=>by
 rcases zXZ hx with h | h
 ·exact ha x h
 ·subst h; exact hv
theorem Cn{a:List Int}(ha:av a)(n:Nat):av (a.take n):=λx hx=>ha x (zWJ hx)
theorem Co{a:List Int}(ha:av a)(n:Nat):av (a.drop n):=λx hx=>ha x (zXV hx)
theorem Qq:av []:=λx hx=>by cases hx
def nX(n:Nat)(b:List Int):Prop:=b.length<=n/\av b
theorem xd{u:Nat}(hu:1099511627776<=u){c:aJ}(hc:Cu c){n:Nat}(hn:n<=1000):Dr (fL u c (n:Int)) (nX n):=by
 unfold fL;rw [dy ar];refine cA (cJ u hc _) λv c1 hv hc1=>?_;have hlt:=hv.2 ar;obtain ⟨m,hm⟩:∃ m:Nat,v=(m:Int):=⟨v.toNat,by omega⟩;subst hm;have key:∀ (m k:Nat) (x:List Int) (c:aJ),m < k->Cu c->x.length+m<=1000->av x->Dr (fy u k x (m:Int) c.fB c.fI c.fH) (nX (x.length+m)):=by
  intro m
  induction m with
  | zero =>
   intro k x c hk hc hx hb;obtain ⟨k,rfl⟩:∃ j,k=j+1:=⟨k - 1,by omega⟩;unfold fy;simp only [zVJ,gt_iff_lt,Int.lt_irrefl,decide_false,cond_false,sK];exact c8 ⟨zWk _,hb⟩ hc
  | succ m ih =>
   intro k x c hk hc hx hb;obtain ⟨k,rfl⟩:∃ j,k=j+1:=⟨k - 1,by omega⟩;unfold fy;have:((m+1:Nat):Int) > 0:=by omega
   simp only [this,decide_true,cond_true];refine cA (o9 u hc (xs:=[97,98,99,0,255]) eH) λv c2 hv hc2=>?_;rw [bq eF];simp only [wk];rw [cm ar ar];have e:((m+1:Nat):Int) - 1=(m:Int):=by omega
   rw [e];refine Mr (ih k _ c2 ar hc2 eF (yz hb (JI _))) λv h=>?_;have h1:=h.1;simp only [zQG,zQK,zXQ] at h1;exact ⟨by omega,h.2⟩
 refine Mr (key m u [] c1 ar hc1 eF Qq) λv h=>?_;have h1:=h.1;simp only [zXQ] at h1;exact ⟨by omega,h.2⟩
theorem Oe{u:Nat}(hu:1099511627776<=u){c:aJ}(hc:Cu c):Dr (mI u c) (nX 16):=by
 unfold mI;exact cA (xd hu hc (n:=16) ar) λv c1 hv hc1=>c8 hv hc1
theorem UG(u:Nat){c:aJ}(hc:Cu c){b:List Int}(hb:b.length<=200)(hB:av b):Dr (n7 u c b) (nX 201):=by
 unfold n7;rw [bq eF];simp only [wk,zQz];have hlt:∀ {v:Int},0<=v->v < (b.length:Int)->∃ y,dm b v=some y:=λ{v} h0 h1=>by
  obtain ⟨i,rfl⟩:∃ i:Nat,v=(i:Int):=⟨v.toNat,by omega⟩;exact ⟨b[i]'ar,by rw [cO]; exact sX ar⟩
 have self:nX 201 b:=⟨by omega,hB⟩;refine cA (cJ u hc 6) λn c1 _ h1=>?_;simp only
 cases n == 0 with
 | true =>
  simp only [cond_true]
  by_cases hl:(b.length:Int) > 0
  ·simp only [hl,decide_true,cond_true];refine cA (cJ u h1 _) λv c2 hv h2=>?_;refine cA (cJ u h2 256) λw c3 _ h3=>?_;obtain ⟨y,hy⟩:=hlt hv.1 (hv.2 hl);simp only [hy,wk,cq];exact c8 ⟨by rw [zXJ]; omega,EC hB _ (WJ _)⟩ h3
  ·simp only [hl,decide_false,cond_false,cq];exact c8 self h1
 | false =>
  simp only [cond_false]
  cases n == 1 with
  | true =>
   simp only [cond_true];rw [dy ar];refine cA (cJ u h1 _) λv c2 hv h2=>?_;have h3:=hv.2 ar;have hs:cS 0 v (b.length:Int)=true:=by simp [cS]; omega
   simp only [hs,DH,wk,cq];exact c8 ⟨by rw [zYz,zWQ]; omega,Co (Cn hB _) _⟩ h2
  | false =>
   simp only [cond_false]
   cases n == 2 with
   | true =>
    simp only [cond_true];refine cA (o9 u h1 eH) λv c2 _ h2=>?_;rw [bq eF];simp only [wk,cq];exact c8 ⟨by rw [zQG,zXz]; omega,yz hB (JI _)⟩ h2
   | false =>
    simp only [cond_false]
    cases n == 3 with
    | true =>
     simp only [cond_true]
     by_cases hl:(b.length:Int) > 0
     ·simp only [hl,decide_true,cond_true];refine cA (cJ u h1 _) λv c2 hv h2=>?_;obtain ⟨y,hy⟩:=hlt hv.1 (hv.2 hl);simp only [hy,wk];refine cA (cJ u h2 8) λw c3 hw h3=>?_;have hw0:=hw.1;simp only [hy];rw [bq hw0];simp only [wk,cq];exact c8 ⟨by rw [zXJ]; omega,EC hB _ (by unfold QT; exact WJ _)⟩ h3
     ·simp only [hl,decide_false,cond_false,cq];exact c8 self h1
    | false =>
     simp only [cond_false,cq];exact c8 self h1
theorem WK{u:Nat}(hu:1099511627776<=u){c:aJ}(hc:Cu c){b:List Int}(hb:b.length<=200)(hB:av b):Dr (tv u c b) (nX 240):=by
 unfold tv;refine cA (cJ u hc 5) λn c1 _ h1=>?_;simp only
 cases n == 0 with
 | true =>
  simp only [cond_true];exact cA (xd hu h1 (n:=16) ar) λv c2 hv h2=>c8 ⟨zWH hv.1 ar,hv.2⟩ h2
 | false =>
  simp only [cond_false]
  cases n == 1 with
  | true =>
   simp only [cond_true];rw [bq eF];simp only [wk,zQz];exact c8 ⟨by omega,hB⟩ h1
  | false =>
   simp only [cond_false]
   cases n == 2 with
   | true =>
    simp only [cond_true];rw [dy ar];refine cA (cJ u h1 _) λv c2 hv h2=>?_;have h3:=hv.2 ar;have h0:=hv.1;have s1:cS v (b.length:Int) (b.length:Int)=true:=by simp [cS]; omega
    have s2:cS 0 v (b.length:Int)=true:=by simp [cS]; omega
    simp only [s1,s2,DH,wk];rw [bq eF];simp only [wk];rw [bq eF];simp only [wk];refine c8 ⟨by simp; omega,yz (yz (λx hx=>?_) (Co (Cn hB _) _)) (Co (Cn hB _) _)⟩ h2;simp only [zQy] at hx;omega
   | false =>
    simp only [cond_false]
    cases n == 3 with
    | true =>
     simp only [cond_true];exact c8 ⟨by simp,Qq⟩ h1
    | false =>
     simp only [cond_false];refine cA (xd hu h1 (n:=3) ar) λv c2 hv h2=>?_;refine cA (UG u h2 hb hB) λw c3 hw h3=>?_;have hv1:=hv.1;have hw1:=hw.1;simp only;rw [bq ar];simp only [wk];exact c8 ⟨by rw [zQG]; omega,yz hv.2 hw.2⟩ h3
def ez(n:Int):ByteArray:=⟨(Lib.itoa n).toArray⟩
theorem io{n:Int}(h0:-9223372036854775808<=n)(h1:n<=9223372036854775807):(ez n).size<=21:=by
 have:=Lib.itoa_length_le n h0 h1
 simpa [ez,ByteArray.size] using this
theorem Zu{u:Nat}{n:Int}(h0:-9223372036854775808<=n)(h1:n<=9223372036854775807):strconv_Itoa u n=some (ez n):=by
 unfold strconv_Itoa ez;simp [h0,h1]
theorem kQ{u:Nat}{n:Int}(h0:-9223372036854775808<=n)(h1:n<=9223372036854775807):de u n=some (ez n):=by
 unfold de;rw [Zu h0 h1]; rfl
def Of(m:Nat):List UInt8:=if m=0 then [] else Lib.decDigits m
theorem Zv{m:Nat}(h:m≠0):Of m=Of (m / 10)++[UInt8.ofNat (48+m % 10)]:=by
 unfold Of;rw [if_neg h,Lib.decDigits]
 by_cases h10:m < 10
 ·rw [dif_pos h10,if_pos ar,Nat.mod_eq_of_lt h10]; rfl
 ·rw [dif_neg h10,if_neg ar]
theorem X9(d:Nat)(h:d < 10):strOfNums [Ir .u8 (aL .i64 48 (d:Int))]=zm #[UInt8.ofNat (48+d)]:=by
 have:∀ d:Fin 10,strOfNums [Ir .u8 (aL .i64 48 (d.val:Int))]=zm #[UInt8.ofNat (48+d.val)]:=by decide
 exact this ⟨d,h⟩
theorem Og{a b:ByteArray}(h:a.data.toList=b.data.toList):a=b:=by
 cases a; cases b
 congr
 exact Array.toList_inj.1 h
theorem AV(a b:ByteArray):(a++b).data.toList=a.data.toList++b.data.toList:=by
 rw [ByteArray.data_append]; simp
theorem Ya{u:Nat}(p0:Int)(sg:Int)(hs:sg=1\/sg=-1):∀ (j m k:Nat) (acc:ByteArray),m < 10 ^ j->m<=9223372036854775808->(sg=1->m<=9223372036854775807)->j < k->acc.size+j<=1000 ->
  eM u k p0 acc (sg*m)=my u p0 (zm (Of m).toArray++acc):=by
 have hnil:∀ acc:ByteArray,zm (Of 0).toArray++acc=acc:=λacc=>Og (by rw [AV]; rfl);intro j
 induction j with
 | zero =>
  intro m k acc hm _ _ hk _;obtain rfl:m=0:=by simpa using hm
  obtain ⟨k,rfl⟩:∃ k',k=k'+1:=⟨k - 1,by omega⟩;unfold eM;rw [hnil];simp
 | succ j ih =>
  intro m k acc hm hr hr1 hk ha;obtain ⟨k,rfl⟩:∃ k',k=k'+1:=⟨k - 1,by omega⟩
  by_cases h0:m=0
  ·subst h0;unfold eM;rw [hnil];simp
  have hd:m % 10 < 10:=Nat.mod_lt _ ar;have hq:Pc .i64 (sg*(m:Int)) 10=sg*((m / 10:Nat):Int):=by
   have e:(sg*(m:Int)).tdiv 10=sg*((m / 10:Nat):Int):=by
    rcases hs with rfl | rfl
    ·rw [zZw,zZw]; rfl
    ·rw [Int.neg_mul,zZw,Int.neg_mul,zZw,Int.neg_tdiv]; rfl
   unfold Pc;rw [e,wrap_i64] <;> rcases hs with rfl | rfl <;> omega
  have hrm:ml .i64 (sg*(m:Int)) 10=sg*((m % 10:Nat):Int):=by
   unfold ml;rcases hs with rfl | rfl
   ·rw [zZw,zZw]; rfl
   ·rw [Int.neg_mul,zZw,Int.neg_mul,zZw,Int.neg_tmod]; rfl
  have hj3:oZ u (λz0 z1 z2=>eM u k z0 z1 z2) p0 acc (sg*(m:Int)) ((m % 10:Nat):Int)=my u p0 (zm (Of m).toArray++acc):=by
   unfold oZ;rw [X9 _ hd,hq];have hsz:(zm #[UInt8.ofNat (48+m % 10)]).size=1:=rfl;have hc:decide ((zm #[UInt8.ofNat (48+m % 10)]).size+acc.size<=9223372036854775807)=true:=by rw [hsz]; simp; omega
   rw [hc];simp only [cd,if_true,wk];rw [ih (m / 10) k _ (by rw [zVW] at hm; omega) ar (λ_=>by omega) ar (by rw [Dp,hsz]; omega)]
   congr 1
   refine Og ?_;rw [AV,AV,AV,Zv h0];simp
  unfold eM;have hne:(sg*(m:Int) != 0)=true:=by rcases hs with rfl | rfl <;> simp <;> omega
  rw [hne,cond_true,hrm]
  by_cases hneg:sg*((m % 10:Nat):Int) < 0
  ·rw [decide_eq_true hneg,cond_true];have:cG .i64 0 (sg*((m % 10:Nat):Int))=((m % 10:Nat):Int):=by
    rw [cm] <;> rcases hs with rfl | rfl <;> omega
   rw [this];exact hj3
  ·rw [decide_eq_false hneg,cond_false];have:sg*((m % 10:Nat):Int)=((m % 10:Nat):Int):=by rcases hs with rfl | rfl <;> omega
   rw [this];exact hj3
theorem fJ{u:Nat}(hu:1099511627776<=u){n:Int}(h0:-9223372036854775808<=n)(h1:n<=9223372036854775807):dc u n=some (ez n):=by
 unfold dc
 by_cases hz:n=0
 ·subst hz;have:ez 0=zm #[48]:=by
   unfold ez Lib.itoa;rw [if_neg ar,show (0:Int).toNat=0 by rfl,Lib.decDigits_one ar];rfl
  rw [this]; rfl
 rw [beq_eq_false_iff_ne.2 hz,cond_false];rcases Int.lt_or_lt_of_ne hz with hl | hl
 ·obtain ⟨m,rfl⟩:∃ m:Nat,n=-1*(m:Int):=⟨n.natAbs,by omega⟩;rw [Ya (-1*(m:Int)) (-1) (.inr rfl) 19 m u _ ar ar (λh=>by omega) ar (by show 0+19<=1000; omega)];unfold my;rw [decide_eq_true hl,cond_true];have hm0:m≠0:=by omega
  have hd:Of m=Lib.decDigits m:=by unfold Of; rw [if_neg hm0]
  have hsz:(zm (Of m).toArray++zm #[]).size<=21:=by
   have:=io h0 h1;have e:ez (-1*(m:Int))=zm (45 :: Lib.decDigits m).toArray:=by
    unfold ez; rw [show (-1*(m:Int))=-(m:Int) by omega,Lib.itoa_neg m ar]
   rw [e] at this;rw [hd,Dp];simp only [ByteArray.size,List.size_toArray,zQK] at this ⊢;simp; omega
  have hc:decide ((zm #[45]).size+(zm (Of m).toArray++zm #[]).size<=9223372036854775807)=true:=by
   have:(zm #[45]).size=1:=rfl;rw [this]; simp only [decide_eq_true_eq]; omega
  rw [hc];simp only [cd,if_true,wk,Option.some.injEq];refine Og ?_;rw [AV,AV,hd];unfold ez;rw [show (-1*(m:Int))=-(m:Int) by omega,Lib.itoa_neg m ar];simp
 ·obtain ⟨m,rfl⟩:∃ m:Nat,n=1*(m:Int):=⟨n.toNat,by omega⟩;rw [Ya (1*(m:Int)) 1 (.inl rfl) 19 m u _ ar ar (λh=>by omega) ar (by show 0+19<=1000; omega)];unfold my;rw [decide_eq_false ar,cond_false];have hm0:m≠0:=by omega
  congr 1
  refine Og ?_;rw [AV];unfold ez Of;rw [if_neg hm0,zZw,Lib.itoa_nonneg];simp
theorem BK{a b:ByteArray}(ha:a.size<=1048576)(hb:b.size<=1048576):cd (decide (a.size+b.size<=9223372036854775807))=some ():=by
 rw [decide_eq_true ar]; rfl
theorem fY{α:Type}(l:List α)(k:Nat){v:α}(h:l[k]?=some v):dm l (k:Int)=some v:=by
 unfold dm;simp [h]
def UH:Nat->ByteArray
 | 1=>zm #[116,105,99,107]
 | 2=>zm #[116,97,107,101]
 | 3=>zm #[108,111,115,101]
 | 4=>zm #[100,111,117,98,108,101]
 | 5=>zm #[102,97,108,108]
 | 6=>zm #[114,105,115,101]
 | _=>zm #[102,111,114,103,101]
theorem Ti{u:Nat}(hu:1099511627776<=u){p0:cK}(hn:-9223372036854775808<=p0.fN/\p0.fN<=9223372036854775807)(hs:-9223372036854775808<=p0.fS/\p0.fS<=9223372036854775807):∃ v,qk u p0=some v/\qj u p0=some v:=by
 obtain ⟨n0,n1⟩:=hn;obtain ⟨s0,s1⟩:=hs;unfold qk qj bF cB;have e7:cG .i64 ((([(zm #[]),(zm #[116,105,99,107]),(zm #[116,97,107,101]),(zm #[108,111,115,101]),(zm #[100,111,117,98,108,101]),(zm #[102,97,108,108]),(zm #[114,105,115,101]),(zm #[102,111,114,103,101])]).length:Int)) 1=7:=by
  rw [cm] <;> simp
 rw [e7]
 by_cases h1:p0.ba>=1
 ·by_cases h7:p0.ba<=7
  ·simp only [decide_eq_true h1,decide_eq_true h7,cond_true,wk,zQX,cond_false,tj];obtain ⟨k,hk⟩:∃ k:Nat,p0.ba=k:=⟨p0.ba.toNat,by omega⟩;have hkk:1<=k/\k<=7:=by omega
   have key:([(zm #[]),(zm #[116,105,99,107]),(zm #[116,97,107,101]),(zm #[108,111,115,101]),(zm #[100,111,117,98,108,101]),(zm #[102,97,108,108]),(zm #[114,105,115,101]),(zm #[102,111,114,103,101])])[k]?=some (UH k):=by
    match k,hkk with
    | 1,_ | 2,_ | 3,_ | 4,_ | 5,_ | 6,_ | 7,_=>rfl
   have hsz:(UH k).size<=10:=by
    match k,hkk with
    | 1,_ | 2,_ | 3,_ | 4,_ | 5,_ | 6,_ | 7,_=>decide
   have h32:(zm #[32]).size=1:=rfl;have hN:=io n0 n1;have hS:=io s0 s1;rw [hk,fY _ k key];simp only [wk,fJ hu n0 n1,kQ n0 n1,fJ hu s0 s1,kQ s0 s1];have c1:cd (decide ((UH k).size+(zm #[32]).size<=9223372036854775807))=some ():=BK ar ar;have c2:cd (decide ((UH k++zm #[32]).size+(ez p0.fN).size<=9223372036854775807))=some ():=BK (by rw [Dp]; omega) ar;have c3:cd (decide ((UH k++zm #[32]++ez p0.fN).size+(zm #[32]).size<=9223372036854775807))=some ():=BK qaX ar;have c4:cd (decide ((UH k++zm #[32]++ez p0.fN++zm #[32]).size+(ez p0.fS).size<=9223372036854775807))=some ():=BK (by rw [Dp,Dp,Dp]; omega) ar;have c5:cd (decide ((zm #[32]).size+(ez p0.fS).size<=9223372036854775807))=some ():=BK ar ar;have c6:cd (decide ((UH k++zm #[32]++ez p0.fN).size+(zm #[32]++ez p0.fS).size<=9223372036854775807))=some ():=BK qaX (by rw [Dp]; omega)
   cases hb:((k:Int) == 5) with
   | false=>simp only [c1,c2,cond_false,wk,mU]; exact ⟨_,rfl,rfl⟩
   | true=>simp only [c1,c2,c3,c4,c5,c6,cond_true,wk,mU]; exact ⟨_,rfl,by simp only [ByteArray.append_assoc]⟩
  ·simp only [decide_eq_true h1,decide_eq_false h7,cond_true,cond_false,wk,zZK];exact ⟨_,rfl,rfl⟩
 ·simp only [decide_eq_false h1,cond_false,wk,zZK,cond_true];exact ⟨_,rfl,rfl⟩
def Oh(c:Int):Option (Int×Nat)->Option (Int×Nat)
 | some (v,n)=>some (v*128+(c - 128),n+1)
 | none=>none
def M.rd:Nat->Bool->List Int->Option (Int×Nat)
 | 0,_,_=>none
 | _+1,_,[]=>none
 | k+1,f,c :: l=>if c < 128 then (if f || decide (0 < c) then some (c,1) else none) else Oh c (M.rd k false l)
theorem qaD:∀ (k:Nat) (f:Bool) (l:List Int) (w:Int) (j:Nat),av l->M.rd k f l=some (w,j)->0<=w/\(f=false->0 < w)/\j<=l.length/\1<=j/\w < 128 ^ k/\∀ K,k<=K+1->l.take j=cZ K w:=by
 intro k
 induction k with
 | zero=>intro f l w j _ h; simp [M.rd] at h
 | succ k ih =>
  intro f l w j hb h
  cases l with
  | nil=>simp [M.rd] at h
  | cons c l =>
   have hc:=hb c eH;unfold M.rd at h
   by_cases hc1:c < 128
   ·rw [if_pos hc1] at h
    split at h
    ·rename_i hf;simp only [Option.some.injEq,Prod.mk.injEq] at h;obtain ⟨rfl,rfl⟩:=h;have hp:(128:Int)<=128 ^ (k+1):=by
      rw [zYQ]; have:(0:Int) < 128 ^ k:=zVZ V0; omega
     refine ⟨hc.1,λh0=>by subst h0; simpa using hf,by simp,by omega,by omega,λK _=>?_⟩
     cases K with
     | zero=>simp [cZ]; omega
     | succ K=>unfold cZ; rw [if_pos ar]; simp; omega
    ·cases h
   ·rw [if_neg hc1] at h
    cases hr:M.rd k false l with
    | none=>rw [hr] at h; cases h
    | some q =>
     obtain ⟨v,n⟩:=q;rw [hr] at h;simp only [Oh,Option.some.injEq,Prod.mk.injEq] at h;obtain ⟨rfl,rfl⟩:=h;obtain ⟨h1,h2,h3,h4,h5,h6⟩:=ih false l v n (λx hx=>hb x R6) hr;have h2:=h2 rfl;have hk:k≠0:=by intro h0; subst h0; simp [M.rd] at hr
     refine ⟨by omega,λ_=>by omega,by simp; omega,by omega,by rw [zYQ]; omega,λK hK=>?_⟩;obtain ⟨K,rfl⟩:∃ K',K=K'+1:=⟨K - 1,by omega⟩;unfold cZ;rw [if_neg ar,List.take_succ_cons,h6 K ar]
     congr 1
     ·omega
     ·congr 1; omega
theorem qaE:∀ (k K:Nat) (f:Bool) (n:Int) (t:List Int),1<=k->0<=n->(f=false->0 < n)->n < 128 ^ k->k<=K+1->M.rd k f (cZ K n++t)=some (n,(cZ K n).length):=by
 intro k
 induction k with
 | zero=>intro K f n t h0; omega
 | succ k ih =>
  intro K f n t h0 h1 h2 h3 h4
  by_cases h:n<=127
  ·have e:cZ K n=[n]:=by
    cases K with
    | zero=>simp [cZ]; omega
    | succ K=>unfold cZ; rw [if_pos h]; simp; omega
   rw [e];simp only [List.singleton_append,M.rd,zXz];rw [if_pos ar,if_pos (by cases f <;> simp; exact h2 rfl)]
  ·have hk:k≠0:=by
    intro h0; subst h0;rw [show (128:Int) ^ (0+1)=128 by rfl] at h3; omega
   obtain ⟨K,rfl⟩:∃ K',K=K'+1:=⟨K - 1,by omega⟩;unfold cZ;rw [if_neg h];simp only [zYX,M.rd];rw [if_neg ar,ih K false (n / 128) t ar ar (λ_=>by omega) (by rw [zYQ] at h3; omega) ar];simp only [Oh,zQK,Option.some.injEq,Prod.mk.injEq,and_true];omega
theorem Oi{a n:Nat}(hn:n<=62)(h:a*2 ^ n < 9223372036854775808):il .i64 (a:Int) (n:Int)=((a*2 ^ n:Nat):Int):=by
 unfold il;rw [show min (sY (n:Int)) (IntKind.bits .i64)=n by simp [IntKind.bits]; omega];have e:(a:Int)*2 ^ n=((a*2 ^ n:Nat):Int):=by simp
 rw [e];exact wrap_i64 ar ar
theorem Yb{v a n:Nat}(hv:v < 2 ^ n):v ||| a*2 ^ n=v+a*2 ^ n:=by
 have h:=Nat.shiftLeft_add_eq_or_of_lt hv a;rw [Nat.shiftLeft_eq] at h;rw [Nat.or_comm,<- h,Nat.add_comm]
theorem UI{v i:Nat}{c:Int}(hi:i<=7)(hv:v < 2 ^ (7*i))(h1:0<=c)(h2:c<=255):tZ .i64 (v:Int) (il .i64 (bJ .i64 (Ir .i64 c) 127) (eO .i64 7 (i:Int)))=((v+(c % 128).toNat*2 ^ (7*i):Nat):Int)/\v+(c % 128).toNat*2 ^ (7*i) < 2 ^ (7*(i+1)):=by
 have hp:(2:Nat) ^ (7*i)<=2 ^ 49:=zYV ar ar;have hq:(2:Nat) ^ (7*(i+1))=128*2 ^ (7*i):=by rw [Nat.mul_add,Nat.pow_add,Nat.mul_comm]
 have hc:(c % 128).toNat < 128:=by omega
 have hm:(c % 128).toNat*2 ^ (7*i)<=127*2 ^ (7*i):=zWV _ ar;rw [wrap_i64 ar ar,Mp,jd ar ar,show (7:Int)*(i:Int)=((7*i:Nat):Int) by omega,show c % 128=(((c % 128).toNat:Nat):Int) by omega];rw [show (((c % 128).toNat:Nat):Int).toNat=(c % 128).toNat by omega];have hp2:(2:Nat) ^ 49=562949953421312:=by decide
 rw [Oi ar ar,HQ ar ar,Yb hv];exact ⟨rfl,by omega⟩
def pG(o:Option (Int×Nat))(v i a:Nat)(r:Int×Int×Bool):Prop:=match o with
 | some (w,j)=>r=((v:Int)+w*2 ^ (7*i),((a+j:Nat):Int),true)
 | none=>r.2.2=false
theorem Oj{o:Option (Int×Nat)}{v i a x:Nat}{c:Int}{r:Int×Int×Bool}(hx:(x:Int)=c - 128)(h:pG o (v+x*2 ^ (7*i)) (i+1) (a+1) r):pG (Oh c o) v i a r:=by
 cases o with
 | none=>exact h
 | some q =>
  obtain ⟨w,j⟩:=q;unfold pG at h;unfold pG Oh;dsimp only at h ⊢;rw [h];refine Prod.ext ?_ (Prod.ext ?_ rfl)
  ·dsimp only;rw [show 7*(i+1)=7*i+7 by omega,Int.pow_add,<- hx];have:((v+x*2 ^ (7*i):Nat):Int)=(v:Int)+(x:Int)*2 ^ (7*i):=by simp
   rw [this];generalize (2:Int) ^ (7*i)=p;rw [show (2:Int) ^ 7=128 by rfl,zVV,Int.mul_assoc w 128 p,zZh p 128];omega
  ·dsimp only; omega
theorem Ok{α:Type}{b:List α}{a:Nat}(h:a < b.length):b.drop a=b[a] :: b.drop (a+1):=zXY h
theorem WL(u:Nat){b:List Int}(hb:av b)(hl:b.length<=1048576)(a n:Nat)(hn:n<=8):∀ (m i k v:Nat),i+m=n->m < k->v < 2 ^ (7*i)->∃ r,fG u k b a v n i=some r/\pG (M.rd m (i == 0) (b.drop (a+i))) v i (a+i) r:=by
 intro m
 induction m with
 | zero =>
  intro i k v h1 h2 h3;obtain ⟨k,rfl⟩:∃ j,k=j+1:=⟨k - 1,by omega⟩;have e:¬ ((i:Int) < (n:Int)):=by omega
  refine ⟨(0,0,false),?_,rfl⟩;unfold fG td;simp only [e,decide_false,cond_false]
 | succ m ih =>
  intro i k v h1 h2 h3;obtain ⟨k,rfl⟩:∃ j,k=j+1:=⟨k - 1,by omega⟩;have e:(i:Int) < (n:Int):=by omega
  unfold fG;simp only [e,decide_true,cond_true];rw [cm (a:=(b.length:Int)) ar ar,cm ar ar,cY];simp only [wk]
  by_cases ha:a+i < b.length
  ·rw [show aq (a:Int) 0 ((b.length:Int) - 1 - (i:Int))=true by simp [aq]; omega,Ok ha,cN (a:=(a:Int)) ar ar,show (a:Int)+(i:Int)=((a+i:Nat):Int) by omega,cO,sX ha];have hc:=hb b[a+i] (zXG ha);obtain ⟨e1,e2⟩:=UI (i:=i) ar h3 hc.1 hc.2;simp only [zQX,cond_false,wk];rw [e1,jd ar ar,bq ar,wrap_i64 ar ar,cN (a:=((a+i:Nat):Int)) ar ar,dy ar];simp only [wk,M.rd]
   by_cases hc1:b[a+i] < 128
   ·simp only [hc1,decide_true,cond_true,if_true];have hv:((v+(b[a+i] % 128).toNat*2 ^ (7*i):Nat):Int)=(v:Int)+b[a+i]*2 ^ (7*i):=by
     have:((v+(b[a+i] % 128).toNat*2 ^ (7*i):Nat):Int)=(v:Int)+(((b[a+i] % 128).toNat:Nat):Int)*2 ^ (7*i):=by simp
     rw [this,show (((b[a+i] % 128).toNat:Nat):Int)=b[a+i] by omega]
    rw [hv]
    by_cases h0:i=0
    ·subst h0;refine ⟨_,rfl,?_⟩;simp [pG]
    ·have e3:((i:Int) == 0)=false:=by simp; omega
     have e4:(i == 0)=false:=by simpa using h0
     simp only [e3,e4,cond_false,Bool.false_or];refine ⟨_,rfl,?_⟩
     by_cases hc2:0 < b[a+i]
     ·have hc3:b[a+i] > 0:=hc2;simp only [hc2,hc3,decide_true,if_true,pG];refine Prod.ext rfl (Prod.ext ?_ rfl);dsimp only; omega
     ·have hc3:¬ b[a+i] > 0:=hc2;simp only [hc2,hc3,decide_false,zQj,if_false,pG]
   ·simp only [hc1,decide_false,cond_false,if_false];obtain ⟨r,g1,g2⟩:=ih (i+1) k _ ar ar e2;refine ⟨r,g1,Oj (x:=(b[a+i] % 128).toNat) ar ?_⟩;rw [show (i+1 == 0)=false by rfl] at g2;exact g2
  ·rw [show aq (a:Int) 0 ((b.length:Int) - 1 - (i:Int))=false by simp [aq]; omega,zYW ar];exact ⟨(0,0,false),rfl,rfl⟩
def rz(n:Nat)(b:List Int)(a:Int):Option (Int×Int):=if 0<=a then match M.rd n true (b.drop a.toNat) with
  | some (v,j)=>some (v,a+j)
  | none=>none
 else none
theorem Ol{u:Nat}(hu:1099511627776<=u){b:List Int}(hb:av b)(hl:b.length<=1048576)(a:Int)(n:Nat)(h1:1<=n)(hn:n<=8):∃ r,oE u b a n=some r/\(match rz n b a with | some (v,e)=>r=(v,e,true) | none=>r.2.2=false):=by
 unfold oE rz
 by_cases ha:0<=a
 ·obtain ⟨a,rfl⟩:=zQJ ha;obtain ⟨r,g1,g2⟩:=WL u hb hl a n hn n 0 u 0 ar ar eH;refine ⟨r,g1,?_⟩;rw [if_pos ha,r0];rw [zXv] at g2;unfold pG at g2
  cases hr:M.rd n true (b.drop a) with
  | none=>rw [show ((0 == 0:Bool))=true by rfl,hr] at g2; exact g2
  | some q=>obtain ⟨w,j⟩:=q; rw [show ((0 == 0:Bool))=true by rfl,hr] at g2; simpa using g2
 ·obtain ⟨u,rfl⟩:∃ j,u=j+1:=⟨u - 1,by omega⟩;rw [if_neg ha];refine ⟨(0,0,false),?_,rfl⟩;unfold fG;have e:(0:Int) < (n:Int):=by omega
  simp only [e,decide_true,cond_true];rw [cm (a:=(b.length:Int)) ar ar,cm ar ar,cY,show aq a 0 ((b.length:Int) - 1 - 0)=false by simp [aq]; omega];rfl
def bd(b:List Int)(a:Int):Int×Int×Bool:=match rz 6 b a with
 | some (v,e)=>if v<=1000000000000 then (v,e,true) else (0,0,false)
 | none=>(0,0,false)
theorem vm{u:Nat}(hu:1099511627776<=u){b:List Int}(hb:av b)(hl:b.length<=1048576)(a:Int):mR u b a=some (bd b a):=by
 obtain ⟨r,g1,g2⟩:=Ol hu hb hl a 6 ar ar;unfold mR bd;rw [show ((6:Nat):Int)=6 by rfl] at g1;rw [g1];simp only [wk]
 cases hr:rz 6 b a with
 | none=>rw [hr] at g2; rw [g2]; rfl
 | some q =>
  obtain ⟨v,e⟩:=q;rw [hr] at g2;rw [g2]
  by_cases h:v<=1000000000000
  ·have:¬ v > 1000000000000:=by omega
   simp [h,this,qd]
  ·have:v > 1000000000000:=by omega
   simp [h,this,qd]
theorem UJ(u:Nat){b:List Int}(hb:av b)(hl:b.length<=1048576)(a:Nat):∀ (m i k v:Nat),i+m=8->m < k->v < 2 ^ (7*i)->∃ r,fO u k b a v i=some r/\pG (M.rd m (i == 0) (b.drop (a+i))) v i (a+i) r:=by
 intro m
 induction m with
 | zero =>
  intro i k v h1 h2 h3;obtain ⟨k,rfl⟩:∃ j,k=j+1:=⟨k - 1,by omega⟩;have e:¬ ((i:Int) < 8):=by omega
  refine ⟨(0,0,false),?_,rfl⟩;unfold fO qJ;simp only [e,decide_false,cond_false]
 | succ m ih =>
  intro i k v h1 h2 h3;obtain ⟨k,rfl⟩:∃ j,k=j+1:=⟨k - 1,by omega⟩;have e:(i:Int) < 8:=by omega
  unfold fO;simp only [e,decide_true,cond_true];rw [cm (a:=(b.length:Int)) ar ar]
  by_cases ha:a+i < b.length
  ·have e0:¬ ((a:Int)>=(b.length:Int) - (i:Int)):=by omega
   rw [Ok ha,cN (a:=(a:Int)) ar ar,show (a:Int)+(i:Int)=((a+i:Nat):Int) by omega,cO,sX ha];have hc:=hb b[a+i] (zXG ha);obtain ⟨e1,e2⟩:=UI (i:=i) ar h3 hc.1 hc.2;simp only [e0,decide_false,cond_false,wk];rw [e1,jd ar ar,bq ar,wrap_i64 ar ar,cN (a:=((a+i:Nat):Int)) ar ar,dy ar];simp only [wk,M.rd]
   by_cases hc1:b[a+i] < 128
   ·simp only [hc1,decide_true,cond_true,if_true];have hv:((v+(b[a+i] % 128).toNat*2 ^ (7*i):Nat):Int)=(v:Int)+b[a+i]*2 ^ (7*i):=by
     have:((v+(b[a+i] % 128).toNat*2 ^ (7*i):Nat):Int)=(v:Int)+(((b[a+i] % 128).toNat:Nat):Int)*2 ^ (7*i):=by simp
     rw [this,show (((b[a+i] % 128).toNat:Nat):Int)=b[a+i] by omega]
    rw [hv]
    by_cases hc2:0 < b[a+i]
    ·have hc3:b[a+i] > 0:=hc2;simp only [hc2,hc3,decide_true,cond_true,Bool.or_true,if_true,pG];refine ⟨_,rfl,Prod.ext rfl (Prod.ext ?_ rfl)⟩;dsimp only; omega
    ·have hc3:¬ b[a+i] > 0:=hc2;simp only [hc2,hc3,decide_false,cond_false,Bool.or_false];refine ⟨_,rfl,?_⟩
     by_cases h0:i=0
     ·subst h0; simp [pG]
     ·have e4:(i == 0)=false:=by simpa using h0
      simp only [e4,zQj,if_false,pG];simp; omega
   ·simp only [hc1,decide_false,cond_false,if_false];obtain ⟨r,g1,g2⟩:=ih (i+1) k _ ar ar e2;refine ⟨r,g1,Oj (x:=(b[a+i] % 128).toNat) ar ?_⟩;rw [show (i+1 == 0)=false by rfl] at g2;exact g2
  ·have e0:(a:Int)>=(b.length:Int) - (i:Int):=by omega
   simp only [e0,decide_true,cond_true];rw [zYW ar];exact ⟨(0,0,false),rfl,rfl⟩
theorem Kt{u:Nat}(hu:1099511627776<=u){b:List Int}(hb:av b)(hl:b.length<=1048576){a:Int}(ha:0<=a):∃ r,rK u b a=some r/\(match rz 8 b a with | some (v,e)=>r=(v,e,true) | none=>r.2.2=false):=by
 unfold rK rz;obtain ⟨a,rfl⟩:=zQJ ha;obtain ⟨r,g1,g2⟩:=UJ u hb hl a 8 0 u 0 ar ar eH;refine ⟨r,g1,?_⟩;rw [if_pos ha,r0];rw [zXv] at g2;unfold pG at g2
 cases hr:M.rd 8 true (b.drop a) with
 | none=>rw [show ((0 == 0:Bool))=true by rfl,hr] at g2; exact g2
 | some q=>obtain ⟨w,j⟩:=q; rw [show ((0 == 0:Bool))=true by rfl,hr] at g2; simpa using g2
def Tj(o:Option (Int×Nat))(v i a:Nat):Int×Int×Bool:=match o with
 | some (w,j)=>if (v:Int)+w*2 ^ (7*i)<=1000000000000 then ((v:Int)+w*2 ^ (7*i),((a+j:Nat):Int),true) else (0,0,false)
 | none=>(0,0,false)
theorem Zw(o:Option (Int×Nat))(v i a x:Nat)(c:Int)(hx:(x:Int)=c - 128):Tj (Oh c o) v i a=Tj o (v+x*2 ^ (7*i)) (i+1) (a+1):=by
 cases o with
 | none=>rfl
 | some q =>
  obtain ⟨w,j⟩:=q;unfold Tj Oh;dsimp only;have e:(v:Int)+(w*128+(c - 128))*2 ^ (7*i)=((v+x*2 ^ (7*i):Nat):Int)+w*2 ^ (7*(i+1)):=by
   rw [show 7*(i+1)=7*i+7 by omega,Int.pow_add,<- hx];have:((v+x*2 ^ (7*i):Nat):Int)=(v:Int)+(x:Int)*2 ^ (7*i):=by simp
   rw [this];generalize (2:Int) ^ (7*i)=p;rw [show (2:Int) ^ 7=128 by rfl,zVV,Int.mul_assoc w 128 p,zZh p 128];omega
  rw [e,show a+(j+1)=a+1+j by omega]
theorem PD(u:Nat){b:List Int}(hb:av b)(hl:b.length<=1048576)(a:Nat):∀ (m i k v:Nat),i+m=6->m < k->v < 2 ^ (7*i)->dI u k b a v i=some (Tj (M.rd m (i == 0) (b.drop (a+i))) v i (a+i)):=by
 intro m
 induction m with
 | zero =>
  intro i k v h1 h2 h3;obtain ⟨k,rfl⟩:∃ j,k=j+1:=⟨k - 1,by omega⟩;have e:¬ ((i:Int) < 6):=by omega
  unfold dI uo;simp only [e,decide_false,cond_false]; rfl
 | succ m ih =>
  intro i k v h1 h2 h3;obtain ⟨k,rfl⟩:∃ j,k=j+1:=⟨k - 1,by omega⟩;have e:(i:Int) < 6:=by omega
  have en:¬ ((a:Int) < 0):=by omega
  unfold dI lP;simp only [e,en,decide_true,decide_false,cond_true,cond_false];rw [cm (a:=(b.length:Int)) ar ar]
  by_cases ha:a+i < b.length
  ·have e0:¬ ((a:Int)>=(b.length:Int) - (i:Int)):=by omega
   rw [Ok ha,cN (a:=(a:Int)) ar ar,show (a:Int)+(i:Int)=((a+i:Nat):Int) by omega,cO,sX ha];have hc:=hb b[a+i] (zXG ha);obtain ⟨e1,e2⟩:=UI (i:=i) ar h3 hc.1 hc.2;simp only [e0,decide_false,cond_false,wk];unfold pS;rw [e1,jd ar ar,bq ar,wrap_i64 ar ar,cN (a:=(a:Int)) (b:=(i:Int)) ar ar,cN (a:=(a:Int)+(i:Int)) ar ar,dy ar];simp only [wk,M.rd]
   by_cases hc1:b[a+i] < 128
   ·simp only [hc1,decide_true,cond_true,if_true];have hv:((v+(b[a+i] % 128).toNat*2 ^ (7*i):Nat):Int)=(v:Int)+b[a+i]*2 ^ (7*i):=by
     have:((v+(b[a+i] % 128).toNat*2 ^ (7*i):Nat):Int)=(v:Int)+(((b[a+i] % 128).toNat:Nat):Int)*2 ^ (7*i):=by simp
     rw [this,show (((b[a+i] % 128).toNat:Nat):Int)=b[a+i] by omega]
    rw [hv];have hgt:∀ x:Int,decide (x > 1000000000000)=!decide (x<=1000000000000):=λx=>by rw [<- decide_not,decide_eq_decide]; omega
    have hs:((a:Int)+(i:Int)+1)=((a+i+1:Nat):Int):=by omega
    rw [hs]
    by_cases hc2:b[a+i]=0
    ·have e5:¬ (0 < b[a+i]):=by omega
     have e6:(b[a+i] == 0)=true:=by simpa using hc2
     by_cases h0:i=0
     ·subst h0;have hv0:v=0:=by simpa using h3
      subst hv0;simp only [e6,cond_true,hgt,Tj];rw [hc2];rfl
     ·have e4:(i == 0)=false:=by simpa using h0
      have e7:(i:Int) > 0:=by omega
      simp only [e4,e5,e6,e7,decide_true,decide_false,cond_true,Bool.or_false,zQj,if_false,Tj]
    ·have e5:0 < b[a+i]:=by omega
     have e6:(b[a+i] == 0)=false:=by simpa using hc2
     simp only [e5,e6,decide_true,cond_false,Bool.or_true,if_true,hgt,Tj]
     by_cases hq:(v:Int)+b[a+i]*2 ^ (7*i)<=1000000000000
     ·simp [hq]
     ·simp [hq]
   ·simp only [hc1,decide_false,cond_false,if_false];rw [ih (i+1) k _ ar ar e2,show (i+1 == 0)=false by rfl,Zw _ v i (a+i) (b[a+i] % 128).toNat _ ar];rfl
  ·have e0:(a:Int)>=(b.length:Int) - (i:Int):=by omega
   simp only [e0,decide_true,cond_true];rw [zYW ar]; rfl
theorem ki{u:Nat}(hu:1099511627776<=u){b:List Int}(hb:av b)(hl:b.length<=1048576)(a:Int):gm u b a=some (bd b a):=by
 unfold gm bd rz
 by_cases ha:0<=a
 ·obtain ⟨a,rfl⟩:=zQJ ha;have h:=PD u hb hl a 6 0 u 0 ar ar eH;rw [zXv] at h;rw [show dI u u b (a:Int) 0 0=_ from h,if_pos ha,r0,show (0 == 0:Bool)=true by rfl];unfold Tj
  cases M.rd 6 true (b.drop a) with
  | none=>rfl
  | some q=>obtain ⟨w,j⟩:=q; simp
 ·obtain ⟨u,rfl⟩:∃ j,u=j+1:=⟨u - 1,by omega⟩;rw [if_neg ha];unfold dI lP;have e:a < 0:=by omega
  simp [e]
theorem Fq{α:Type}(b:List α)(a j:Nat):b.take (a+j)=b.take a++(b.drop a).take j:=List.take_add
theorem HW{n:Nat}{b:List Int}{a v e:Int}(hb:av b)(h:rz n b a=some (v,e))(hn:n<=10):0<=a/\a < e/\e<=b.length/\0<=v/\v < 128 ^ n/\b.take e.toNat=b.take a.toNat++cZ 9 v:=by
 unfold rz at h
 by_cases ha:0<=a
 ·rw [if_pos ha] at h
  cases hr:M.rd n true (b.drop a.toNat) with
  | none=>rw [hr] at h; cases h
  | some q =>
   obtain ⟨w,j⟩:=q;rw [hr] at h;simp only [Option.some.injEq,Prod.mk.injEq] at h;obtain ⟨rfl,rfl⟩:=h;obtain ⟨h1,h2,h3,h4,h5,h6⟩:=qaD n true _ w j (λx hx=>hb x (zXV hx)) hr;rw [zYz] at h3;refine ⟨ha,by omega,by omega,h1,h5,?_⟩;rw [show (a+(j:Int)).toNat=a.toNat+j by omega,Fq,h6 9 ar]
 ·rw [if_neg ha] at h; cases h
theorem cF{b:List Int}{a v e:Int}(hb:av b)(h:bd b a=(v,e,true)):0<=a/\a < e/\e<=b.length/\0<=v/\v<=1000000000000/\b.take e.toNat=b.take a.toNat++cZ 9 v:=by
 unfold bd at h
 cases hr:rz 6 b a with
 | none=>rw [hr] at h; cases h
 | some q =>
  obtain ⟨w,e'⟩:=q;rw [hr] at h;dsimp only at h
  split at h
  ·simp only [Prod.mk.injEq,and_true] at h;obtain ⟨rfl,rfl⟩:=h;have:=HW hb hr ar;exact ⟨this.1,this.2.1,this.2.2.1,this.2.2.2.1,by assumption,this.2.2.2.2.2⟩
  ·cases h
theorem bX(b:List Int)(a:Int):(∃ v e,bd b a=(v,e,true))\/bd b a=(0,0,false):=by
 unfold bd
 split
 ·split
  ·exact .inl ⟨_,_,rfl⟩
  ·exact .inr rfl
 ·exact .inr rfl
theorem Om{p:List Int}{n:Int}(t:List Int)(h0:0<=n)(h1:n<=1000000000000):bd (p++cZ 9 n++t) p.length=(n,((p.length+(cZ 9 n).length:Nat):Int),true):=by
 unfold bd rz;rw [if_pos ar,r0,zQv,List.drop_left,qaE 6 9 true n t ar h0 (λh=>by cases h) (by rw [show (128:Int) ^ 6=4398046511104 by decide]; omega) ar];simp [h1]
def rj(m:af):Bool:=(m.aH == 0) && (m.aB == 0) && (m.aT == 0) && (m.aI.length == 0)
theorem HX(u:Nat)(m:af):l6 u m=some (rj m):=by
 unfold l6 rj;rw [show ((m.aI.length:Int) == 0)=(m.aI.length == 0) from Cj _ 0]
 cases m.aH == 0 <;> cases m.aB == 0 <;> cases m.aT == 0 <;> rfl
theorem Rw(m:af):yy m ⟨0,0,0,[]⟩=rj m:=by
 unfold yy rj M.same
 cases h:m.aI with
 | nil=>simp [Ci]
 | cons s l=>simp
def iO(m:dW):Bool :=
 if m.ba=1 then (m.aH == 0) && (m.ay.aH != 0) && c7 m.ay && ((m.bQ == 0) && (m.bW == 0) && (m.fI == 0) && (m.fB.length == 0))
 else if m.ba=2 then aq m.aH 0 1000000 && rj m.ay && co m.bQ && co m.bW && (m.fI == 0) && (m.fB.length == 0)
 else if m.ba=3 then aq m.aH 1 1000000 && rj m.ay && (m.bQ == 0) && (m.bW == 0) && aq m.fI 0 39 && aq m.fB.length 1 6
 else if m.ba=4 then aq m.aH 0 1000000 && rj m.ay && ((m.bQ == 0) && (m.bW == 0) && (m.fI == 0) && (m.fB.length == 0))
 else false
theorem wt{u:Nat}(hu:1099511627776<=u){m:dW}(hs:m.ay.aI.length<=1048576):tK u m=some (iO m):=by
 unfold tK iO jp tG yf;simp only [AR hu m.ay (show m.ay.aI.length<=1073741824 by omega),HX,Fm,cY,wk];rw [show ((m.fB.length:Int) == 0)=(m.fB.length == 0) from Cj _ 0];generalize c7 m.ay=x1;generalize rj m.ay=x2;generalize co m.bQ=x3;generalize co m.bW=x4;generalize aq m.aH 0 1000000=x5;generalize aq m.aH 1 1000000=x6;generalize aq m.fI 0 39=x7;generalize aq m.fB.length 1 6=x8;generalize (m.fB.length == 0)=x9;generalize (m.ay.aH != 0)=x10;generalize (m.aH == 0)=x11;generalize (m.bQ == 0)=x12;generalize (m.bW == 0)=x13;generalize (m.fI == 0)=x14
 by_cases h1:m.ba=1
 ·simp only [h1,beq_self_eq_true,cond_true,if_true]
  cases x1 <;> cases x10 <;> cases x11 <;> cases x12 <;> cases x13 <;> cases x14 <;> cases x9 <;> rfl
 ·have e1:(m.ba == 1)=false:=by simpa using h1
  by_cases h2:m.ba=2
  ·simp only [h2,e1,beq_self_eq_true,cond_true,if_true]
   cases x5 <;> cases x2 <;> cases x3 <;> cases x4 <;> cases x14 <;> cases x9 <;> rfl
  ·have e2:(m.ba == 2)=false:=by simpa using h2
   by_cases h3:m.ba=3
   ·simp only [h3,beq_self_eq_true,cond_true,if_true]
    cases x6 <;> cases x2 <;> cases x12 <;> cases x13 <;> cases x7 <;> cases x8 <;> rfl
   ·have e3:(m.ba == 3)=false:=by simpa using h3
    by_cases h4:m.ba=4
    ·simp only [h4,beq_self_eq_true,cond_true,if_true]
     cases x5 <;> cases x2 <;> cases x12 <;> cases x13 <;> cases x14 <;> cases x9 <;> rfl
    ·have e4:(m.ba == 4)=false:=by simpa using h4
     simp only [e1,e2,e3,e4,h1,h2,h3,h4,cond_false,if_false]
theorem wu{u:Nat}(hu:1099511627776<=u){m:dW}(hs:m.ay.aI.length<=1048576):tz u m=some (iO m):=by
 unfold tz iO pj;simp only [C4 hu hs,Rw,gP hu m.ay (show m.ay.aI.length<=1073741824 by omega),iC,bG,wk];rw [show ((m.fB.length:Int) == 0)=(m.fB.length == 0) from Cj _ 0];generalize c7 m.ay=x1;generalize rj m.ay=x2;generalize co m.bQ=x3;generalize co m.bW=x4;generalize aq m.aH 0 1000000=x5;generalize aq m.aH 1 1000000=x6;generalize aq m.fI 0 39=x7;generalize aq m.fB.length 1 6=x8;generalize (m.fB.length == 0)=x9;generalize (m.ay.aH != 0)=x10;generalize (m.aH == 0)=x11;generalize (m.bQ == 0)=x12;generalize (m.bW == 0)=x13;generalize (m.fI == 0)=x14
 by_cases h1:m.ba=1
 ·simp only [h1,beq_self_eq_true,cond_true,if_true]
  cases x1 <;> cases x10 <;> cases x11 <;> cases x12 <;> cases x13 <;> cases x14 <;> cases x9 <;> rfl
 ·have e1:(m.ba == 1)=false:=by simpa using h1
  by_cases h2:m.ba=2
  ·simp only [h2,e1,beq_self_eq_true,cond_true,if_true]
   cases x5 <;> cases x2 <;> cases x3 <;> cases x4 <;> cases x14 <;> cases x9 <;> cases x12 <;> cases x13 <;> rfl
  ·have e2:(m.ba == 2)=false:=by simpa using h2
   by_cases h3:m.ba=3
   ·simp only [h3,beq_self_eq_true,cond_true,if_true]
    cases x6 <;> cases x2 <;> cases x12 <;> cases x13 <;> cases x7 <;> cases x8 <;> cases x14 <;> cases x9 <;> rfl
   ·have e3:(m.ba == 3)=false:=by simpa using h3
    by_cases h4:m.ba=4
    ·simp only [h4,beq_self_eq_true,cond_true,if_true]
     cases x5 <;> cases x2 <;> cases x12 <;> cases x13 <;> cases x14 <;> cases x9 <;> rfl
    ·have e4:(m.ba == 4)=false:=by simpa using h4
     simp only [e1,e2,e3,e4,h1,h2,h3,h4,cond_false,if_false]
     cases x12 <;> cases x13 <;> cases x14 <;> rfl
def vn:af×Int×Bool:=(⟨0,0,0,[]⟩,0,false)
def lA:Nat->List Int->Int->List cC->Option (List cC×Int)
 | 0,_,a,acc=>some (acc,a)
 | n+1,b,a,acc=>match rz 8 b a with
  | some (v,e)=>if (b4 v).2 then lA n b e (acc++[et (b4 v).1]) else none
  | none=>none
def qx(g s l:Int):Option (List cC×Int)->af×Int×Bool
 | some (ss,e)=>if c7 ⟨g,s,l,ss⟩ then (⟨g,s,l,ss⟩,e,true) else vn
 | none=>vn
theorem PE{u:Nat}(hu:1099511627776<=u){b:List Int}(hb:av b)(hl:b.length<=1048576)(g s l:Int)(n:Nat)(hn:n<=1000):∀ (m i k:Nat) (a:Int) (acc:List cC),i+m=n->m < k->acc.length+m<=1000->fq u k b a n i g s l acc=some (qx g s l (lA m b a acc)):=by
 intro m
 induction m with
 | zero =>
  intro i k a acc h1 h2 h3;obtain ⟨k,rfl⟩:∃ j,k=j+1:=⟨k - 1,by omega⟩;have e:¬ ((i:Int) < (n:Int)):=by omega
  unfold fq uL;simp only [e,decide_false,cond_false];rw [AR hu _ (show acc.length<=1073741824 by omega)];simp only [wk,lA,qx,vn]
  cases c7 ⟨g,s,l,acc⟩ <;> rfl
 | succ m ih =>
  intro i k a acc h1 h2 h3;obtain ⟨k,rfl⟩:∃ j,k=j+1:=⟨k - 1,by omega⟩;have e:(i:Int) < (n:Int):=by omega
  obtain ⟨r,g1,g2⟩:=Ol hu hb hl a 8 ar ar;rw [show ((8:Nat):Int)=8 by rfl] at g1;unfold fq nN;simp only [e,decide_true,cond_true,g1,wk,C2 hu,lA]
  cases hr:rz 8 b a with
  | none=>rw [hr] at g2; rw [g2]; rfl
  | some q =>
   obtain ⟨v,e'⟩:=q;rw [hr] at g2;rw [g2];have hv:=sG v;dsimp only
   cases h:(b4 v).2 with
   | false=>rfl
   | true =>
    simp only [zQX,cond_false,if_true];rw [Pv hu hv.1 ar];simp only [wk];rw [bq eF,dy ar];exact ih (i+1) k e' _ ar ar eF
theorem UK(size len:Int):∀ (l:List cC) (i:Nat),lz size len l i=true->∀ s∈l,(b4 s.fS).2=true:=by
 intro l
 induction l with
 | nil=>intro i _ s hs; simp at hs
 | cons x l ih =>
  intro i h s hs;simp only [lz,sH,sk] at h;rcases aag.1 hs with rfl | hs
  ·exact h.1.1.1
  ·exact ih (i+1) h.2 s hs
theorem Qr{g s l:Int}{ss:List cC}(h:∃ x∈ss,(b4 x.fS).2=false):c7 ⟨g,s,l,ss⟩=false:=by
 obtain ⟨x,hx,hb⟩:=h
 cases hm:c7 ⟨g,s,l,ss⟩ with
 | false=>rfl
 | true =>
  unfold c7 at hm;dsimp only at hm
  split at hm
  ·simp only [sk,beq_iff_eq,List.length_eq_zero_iff] at hm;rw [hm.2] at hx; simp at hx
  ·simp only [sk] at hm;have:=UK _ _ _ _ hm.2 x hx;rw [this] at hb; cases hb
theorem LN{u:Nat}(hu:1099511627776<=u){b:List Int}(hb:av b)(hl:b.length<=1048576)(r1 r2 r3:Int×Int×Bool):∀ (m i k:Nat) (a:Int) (acc:List cC),i+m=(cr r2.1 r3.1).toNat\/(m=0/\(cr r2.1 r3.1).toNat<=i)->m < k->acc.length+m<=1000->0<=a->(∃ x∈acc,(b4 x.fS).2=false)->dd u k b r1 r2 r3 a i acc=some vn:=by
 have hk:=fb r2.1 r3.1;intro m
 induction m with
 | zero =>
  intro i k a acc h1 h2 h3 h4 h5;obtain ⟨k,rfl⟩:∃ j,k=j+1:=⟨k - 1,by omega⟩;have e:¬ ((i:Int) < cr r2.1 r3.1):=by omega
  unfold dd iG lQ;simp only [gO,wk,e,decide_false,cond_false];rw [gP hu _ (show acc.length<=1073741824 by omega),Qr h5]; rfl
 | succ m ih =>
  intro i k a acc h1 h2 h3 h4 h5;obtain ⟨k,rfl⟩:∃ j,k=j+1:=⟨k - 1,by omega⟩;have e:(i:Int) < cr r2.1 r3.1:=by omega
  obtain ⟨r,g1,g2⟩:=Kt hu hb hl h4;unfold dd iG lQ;simp only [gO,wk,e,decide_true,cond_true,g1,xG hu]
  by_cases hg:r1.1 > 0
  ·simp only [hg,decide_true,cond_true]
   cases hr:rz 8 b a with
   | none=>rw [hr] at g2; rw [g2]; rfl
   | some q =>
    obtain ⟨v,e'⟩:=q;rw [hr] at g2;rw [g2];have hv:=sG v;have hp:=HW hb hr ar;dsimp only;simp only [zQX,cond_false];rw [m6 hu hv.1 ar];simp only [wk];rw [bq eF,dy ar];obtain ⟨x,hx,hbx⟩:=h5;exact ih (i+1) k e' _ ar ar eF ar ⟨x,by simp [hx],hbx⟩
  ·simp only [hg,decide_false,cond_false];rw [gP hu _ (show acc.length<=1073741824 by omega),Qr h5]; rfl
theorem PF{u:Nat}(hu:1099511627776<=u){b:List Int}(hb:av b)(hl:b.length<=1048576){r1 r2 r3:Int×Int×Bool}(hg:0 < r1.1):∀ (m i k:Nat) (a:Int) (acc:List cC),i+m=(cr r2.1 r3.1).toNat->m < k->acc.length+m<=1000->0<=a->dd u k b r1 r2 r3 a i acc=some (qx r1.1 r2.1 r3.1 (lA m b a acc)):=by
 have hk:=fb r2.1 r3.1;intro m
 induction m with
 | zero =>
  intro i k a acc h1 h2 h3 h4;obtain ⟨k,rfl⟩:∃ j,k=j+1:=⟨k - 1,by omega⟩;have e:¬ ((i:Int) < cr r2.1 r3.1):=by omega
  unfold dd iG lQ;simp only [gO,wk,e,decide_false,cond_false];rw [gP hu _ (show acc.length<=1073741824 by omega)];simp only [wk,lA,qx,vn]
  cases c7 ⟨r1.1,r2.1,r3.1,acc⟩ <;> rfl
 | succ m ih =>
  intro i k a acc h1 h2 h3 h4;obtain ⟨k,rfl⟩:∃ j,k=j+1:=⟨k - 1,by omega⟩;have e:(i:Int) < cr r2.1 r3.1:=by omega
  have hg':r1.1 > 0:=hg;obtain ⟨r,g1,g2⟩:=Kt hu hb hl h4;unfold dd iG;simp only [gO,wk,e,hg',decide_true,cond_true,g1,xG hu,lA]
  cases hr:rz 8 b a with
  | none=>rw [hr] at g2; rw [g2]; rfl
  | some q =>
   obtain ⟨v,e'⟩:=q;rw [hr] at g2;rw [g2];have hv:=sG v;have hp:=HW hb hr ar;dsimp only;simp only [zQX,cond_false];rw [m6 hu hv.1 ar];simp only [wk];rw [bq eF,dy ar];simp only [wk]
   cases h:(b4 v).2 with
   | false =>
    simp only [zQj,if_false];exact LN hu hb hl r1 r2 r3 m (i+1) k e' _ ar ar eF ar ⟨_,List.mem_append_right _ (List.mem_singleton.2 rfl),h⟩
   | true =>
    simp only [if_true];have hs:et (b4 v).1=⟨(et (b4 v).1).fW,v⟩:=by
     have:=AQ (s:=v) (b:=(b4 v).1) (by rw [<- h]);rw [this]
    rw [<- hs];exact ih (i+1) k e' _ ar ar eF ar
theorem JJ{u:Nat}(hu:1099511627776<=u)(b:List Int){r1 r2 r3:Int×Int×Bool}(hg:r1.1=0)(k:Nat)(a:Int):dd u (k+1) b r1 r2 r3 a 0 []=some (qx r1.1 r2.1 r3.1 (some ([],a))):=by
 have hg':¬ r1.1 > 0:=by omega
 unfold dd iG lQ;simp only [gO,wk,hg',decide_false];have:∀ c:Bool,(bif c then (iE u ⟨r1.1,r2.1,r3.1,[]⟩).bind λr22=>bif !r22 then some ((⟨0,0,0,[]⟩,0,false):af×Int×Bool) else some (⟨r1.1,r2.1,r3.1,[]⟩,a,true) else (iE u ⟨r1.1,r2.1,r3.1,[]⟩).bind λr22=>bif !r22 then some ((⟨0,0,0,[]⟩,0,false):af×Int×Bool) else some (⟨r1.1,r2.1,r3.1,[]⟩,a,true))=some (qx r1.1 r2.1 r3.1 (some ([],a))):=by
  intro c;rw [gP hu _ (show ([]:List cC).length<=1073741824 by simp)];simp only [wk,qx,vn]
  cases c <;> cases c7 ⟨r1.1,r2.1,r3.1,[]⟩ <;> rfl
 exact this _
def wd:Nat->List Int->Int->List Int->List Int×Int×Bool
 | 0,_,a,acc=>(acc,a,true)
 | n+1,b,a,acc=>if (bd b a).2.2 then wd n b (bd b a).2.1 (acc++[(bd b a).1]) else ([],0,false)
theorem UL{u:Nat}(hu:1099511627776<=u){b:List Int}(hb:av b)(hl:b.length<=1048576)(n:Nat)(hn:n<=1000):∀ (m i k:Nat) (a:Int) (acc:List Int),i+m=n->m < k->acc.length+m<=1000->fQ u k b a acc n i=some (wd m b a acc):=by
 intro m
 induction m with
 | zero =>
  intro i k a acc h1 h2 h3;obtain ⟨k,rfl⟩:∃ j,k=j+1:=⟨k - 1,by omega⟩;have e:¬ ((i:Int) < (n:Int)):=by omega
  unfold fQ qY;simp only [e,decide_false,cond_false]; rfl
 | succ m ih =>
  intro i k a acc h1 h2 h3;obtain ⟨k,rfl⟩:∃ j,k=j+1:=⟨k - 1,by omega⟩;have e:(i:Int) < (n:Int):=by omega
  unfold fQ;simp only [e,decide_true,cond_true,vm hu hb hl,wk,wd]
  cases h:(bd b a).2.2 with
  | false=>rfl
  | true =>
   simp only [zQX,cond_false,if_true];rw [bq eF,dy ar];exact ih (i+1) k _ _ ar ar eF
theorem D4{u:Nat}(hu:1099511627776<=u){b:List Int}(hb:av b)(hl:b.length<=1048576)(a:Int)(n:Nat)(hn:n<=1000):m5 u b a n=some (wd n b a []):=by
 unfold m5;exact UL hu hb hl n hn n 0 u a [] ar ar eF
def kj(b:List Int)(a:Int):af×Int×Bool :=
 let g1:=bd b a
 let g2:=bd b g1.2.1
 let g3:=bd b g2.2.1
 if g1.2.2 && g2.2.2 && g3.2.2 then qx g1.1 g2.1 g3.1 (lA (cr g2.1 g3.1).toNat b g3.2.1 []) else vn
theorem Oo{u:Nat}(hu:1099511627776<=u){b:List Int}(hb:av b)(hl:b.length<=1048576)(a:Int):wT u b a=some (kj b a):=by
 unfold wT kj;rw [show (3:Int)=((3:Nat):Int) by rfl,D4 hu hb hl a 3 ar];simp only [wk,wd]
 cases h1:(bd b a).2.2 with
 | false=>rfl
 | true =>
  cases h2:(bd b (bd b a).2.1).2.2 with
  | false=>rfl
  | true =>
   cases h3:(bd b (bd b (bd b a).2.1).2.1).2.2 with
   | false=>rfl
   | true =>
    have hk:=fb (bd b (bd b a).2.1).1 (bd b (bd b (bd b a).2.1).2.1).1;simp only [if_true,zQX,cond_false,zXK,zQz,zQv,zYX];rw [show (0:Int)=((0:Nat):Int) by rfl,show (1:Int)=((1:Nat):Int) by rfl,show (2:Int)=((2:Nat):Int) by rfl];simp only [cO,zWX,List.getElem?_cons_succ,wk,zk];generalize hn:(cr (bd b (bd b a).2.1).1 (bd b (bd b (bd b a).2.1).2.1).1)=n at hk;obtain ⟨n,rfl⟩:=zQJ hk.1;rw [r0];exact PE hu hb hl _ _ _ n ar n 0 u _ [] ar ar eF
theorem Ku{s l:Int}{ss:List cC}{e:Int}(h:cr s l≠0):qx 0 s l (some (ss,e))=vn:=by
 unfold qx c7;dsimp only;have hz:¬ (s=0):=by
  intro h0; subst h0
  apply h
  unfold cr ey aq;simp
 simp [hz]
theorem Oq{u:Nat}(hu:1099511627776<=u){b:List Int}(hb:av b)(hl:b.length<=1048576)(a:Int):pT u b a=some (kj b a):=by
 unfold pT kj nr;simp only [ki hu hb hl,wk];rcases bX b a with ⟨v1,e1,h1⟩ | h1
 ·rw [h1];rcases bX b e1 with ⟨v2,e2,h2⟩ | h2
  ·dsimp only;rw [h2];rcases bX b e2 with ⟨v3,e3,h3⟩ | h3
   ·dsimp only;rw [h3];have p1:=cF hb h1;have p3:=cF hb h3;have hk:=fb v2 v3;simp only [zQX,cond_false,zXK,if_true]
    by_cases hg:0 < v1
    ·exact PF hu hb hl (r1:=(v1,e1,true)) (r2:=(v2,e2,true)) (r3:=(v3,e3,true)) hg (cr v2 v3).toNat 0 u e3 [] eH ar eF ar
    ·have h0:v1=0:=by omega
     subst h0;obtain ⟨u',rfl⟩:∃ j,u=j+1:=⟨u - 1,by omega⟩;rw [JJ (r1:=(0,e1,true)) (r2:=(v2,e2,true)) (r3:=(v3,e3,true)) hu b rfl u' e3];dsimp only
     by_cases hn:cr v2 v3=0
     ·rw [hn]; rfl
     ·rw [Ku hn]
      cases hs:lA (cr v2 v3).toNat b e3 [] with
      | none=>rfl
      | some q=>obtain ⟨ss,e⟩:=q; rw [Ku hn]
   ·dsimp only;rw [h3]; rfl
  ·dsimp only;rw [h2]; simp;rfl
 ·rw [h1]; simp;rfl
theorem Ot(xs:List Int):(strOfNums xs).toList=xs.map λn=>UInt8.ofNat n.toNat:=by
 rw [ByteArray.toList_eq,strOfNums_data]
theorem qaF{a b:Int}(h1:0<=a)(h2:a<=255)(h3:0<=b)(h4:b<=255)(h:UInt8.ofNat a.toNat=UInt8.ofNat b.toNat):a=b:=by
 have:=congrArg UInt8.toNat h;simp only [UInt8.toNat_ofNat'] at this;omega
theorem Cp{a b:List Int}(ha:av a)(hb:av b):oj a b=decide (a=b):=by
 unfold oj;rw [zYJ,beq_iff_eq,decide_eq_true_eq,Ot,Ot];constructor
 ·intro h
  revert b
  induction a with
  | nil=>intro b _ h; cases b with
   | nil=>rfl
   | cons y b=>simp at h
  | cons x a ih =>
   intro b hb h
   cases b with
   | nil=>simp at h
   | cons y b =>
    simp only [zWy,List.cons.injEq] at h;have hx:=ha x eH;have hy:=hb y eH;rw [qaF hx.1 hx.2 hy.1 hy.2 h.1,ih (λz hz=>ha z Xe) (λz hz=>hb z Xe) h.2]
 ·intro h; rw [h]
def pw(b:List Int)(a:Int):List Int×Int×Bool :=
 let g:=bd b a
 if g.2.2 && decide (g.1<=6) && decide (g.1<=b.length - g.2.1) then (M.win b g.2.1.toNat g.1.toNat,g.2.1+g.1,true) else ([],0,false)
theorem LO{u:Nat}(hu:1099511627776<=u){b:List Int}(hb:av b)(hl:b.length<=1048576)(a:Int):uM u b a 6=some (pw b a):=by
 unfold uM pw tg;simp only [vm hu hb hl,wk];rcases bX b a with ⟨v,e,h⟩ | h
 ·rw [h];have p:=cF hb h;dsimp only
  by_cases h6:v<=6
  ·have h7:¬ v > 6:=by omega
   simp only [h6,h7,decide_true,decide_false,zQX,cond_false,zWz];obtain ⟨v,rfl⟩:=zQJ p.2.2.2.1;obtain ⟨e,rfl⟩:=zQJ (show 0<=e by omega)
   by_cases hv:(v:Int)<=(b.length:Int) - (e:Int)
   ·rw [Pw u (show e+v<=b.length by omega) ar];simp only [hv,decide_true,if_true,wk,zQX,cond_false,r0];rw [cN ar ar]
   ·simp only [hv,decide_false,zQj,if_false];unfold vQ so;rw [cm ar ar,cY,cY,show aq (e:Int) 0 (b.length:Int)=true by simp [aq]; omega,show aq (v:Int) 0 ((b.length:Int) - (e:Int))=false by simp [aq]; omega];rfl
  ·have h7:v > 6:=by omega
   simp [h6,h7]
 ·rw [h]; simp
theorem LP{u:Nat}(hu:1099511627776<=u){b:List Int}(hb:av b)(hl:b.length<=1048576)(a:Int):ot u b a 6=some (pw b a):=by
 unfold ot pw mv;simp only [ki hu hb hl,wk];rcases bX b a with ⟨v,e,h⟩ | h
 ·rw [h];have p:=cF hb h;dsimp only
  by_cases h6:v<=6
  ·have h7:¬ v > 6:=by omega
   simp only [h6,h7,decide_true,decide_false,zQX,cond_false,zWz];obtain ⟨v,rfl⟩:=zQJ p.2.2.2.1;obtain ⟨e,rfl⟩:=zQJ (show 0<=e by omega);rw [cm ar ar]
   by_cases hv:(v:Int)<=(b.length:Int) - (e:Int)
   ·have hv':¬ ((v:Int) > (b.length:Int) - (e:Int)):=by omega
    simp only [hv,hv',decide_true,decide_false,cond_false,if_true];rw [sI ar,gw ar ar,bq eF];simp only [wk,r0,zQz];rw [show ((e+v:Nat):Int)=(e:Int)+(v:Int) by omega]; rfl
   ·have hv':(v:Int) > (b.length:Int) - (e:Int):=by omega
    simp [hv,hv']
  ·have h7:v > 6:=by omega
   simp [h6,h7]
 ·rw [h]; simp
theorem Tl{b p:List Int}{a e:Int}(hb:av b)(h:pw b a=(p,e,true)):0<=a/\a < e/\e<=b.length/\av p/\p.length<=6/\b.take e.toNat=(b.take a.toNat++cZ 9 p.length)++p:=by
 unfold pw at h;rcases bX b a with ⟨v,e',g⟩ | g
 ·rw [g] at h;have q:=cF hb g;dsimp only at h
  split at h
  ·rename_i hc;simp only [zWz,sk,decide_eq_true_eq] at hc;simp only [Prod.mk.injEq,and_true] at h;obtain ⟨rfl,rfl⟩:=h;obtain ⟨v,rfl⟩:=zQJ q.2.2.2.1;obtain ⟨e',rfl⟩:=zQJ (show 0<=e' by omega);simp only [r0] at q ⊢;have hw:(M.win b e' v).length=v:=by unfold M.win; rw [zYz,zWQ]; omega
   refine ⟨q.1,by omega,by omega,qw hb _ _,by omega,?_⟩;rw [show ((e':Int)+(v:Int)).toNat=e'+v by omega,Fq,q.2.2.2.2.2,hw,NZ]
  ·cases h
 ·rw [g] at h; cases h
def pa(c:List Int)(s:Int):List Int:=aR (aR c (bJ .i64 s 1048575)) (cU .i64 s 20)
def eC(m:dW):List Int :=
 if m.ba=1 then qv (aR [] m.ba) m.ay
 else if m.ba=2 then pa (pa (aR (aR [] m.ba) m.aH) m.bQ) m.bW
 else if m.ba=3 then aR (aR (aR (aR [] m.ba) m.aH) m.fI) m.fB.length++m.fB
 else if m.ba=4 then aR (aR [] m.ba) m.aH
 else aR [] m.ba
def fc(m:dW):List Int:=if iO m then aR (eC m) (cE (eC m)) else []
structure M.MsgWf (m:dW):Prop where
 sums:m.ay.aI.length<=1048576
 wf:oH m.ay
 b:av m.fB
 len:m.fB.length<=1048576
theorem g9{b:List Int}(h:av b)(n:Int):av (aR b n):=by
 unfold aR
 split
 ·exact As h (Qn 9 n)
 ·exact h
theorem PG:∀ (l:List cC) (b:List Int),av b->av (mC b l):=by
 intro l
 induction l with
 | nil=>intro b h; exact h
 | cons s l ih=>intro b h; exact ih _ (As h (Qn 9 s.fS))
theorem Rx{b:List Int}(h:av b)(m:af):av (qv b m):=by
 unfold qv
 split
 ·exact PG _ _ (g9 (g9 (g9 h _) _) _)
 ·exact h
theorem Fs(b:List Int)(m:af):(qv b m).length<=b.length+430:=by
 unfold qv
 split
 ·rename_i h;have h0:=wc h;have h1:=bx b m.aH;have h2:=bx (aR b m.aH) m.aB;have h3:=bx (aR (aR b m.aH) m.aB) m.aT;have h4:=N5 m.aI (aR (aR (aR b m.aH) m.aB) m.aT);omega
 ·omega
theorem jv:av []:=λx hx=>by simp at hx
theorem Gk{m:dW}(hm:M.MsgWf m):av (eC m)/\(eC m).length<=1049600:=by
 have k:=bx [] m.ba;have kb:=g9 jv m.ba;have g:=bx (aR [] m.ba) m.aH;have gb:=g9 kb m.aH;simp only [zXQ] at k;unfold eC pa
 split
 ·exact ⟨Rx kb _,by have:=Fs (aR [] m.ba) m.ay; omega⟩
 ·split
  ·refine ⟨g9 (g9 (g9 (g9 gb _) _) _) _,?_⟩;have h1:=bx (aR (aR [] m.ba) m.aH) (bJ .i64 m.bQ 1048575);have h2:=bx (aR (aR (aR [] m.ba) m.aH) (bJ .i64 m.bQ 1048575)) (cU .i64 m.bQ 20);have h3:=bx (aR (aR (aR (aR [] m.ba) m.aH) (bJ .i64 m.bQ 1048575)) (cU .i64 m.bQ 20)) (bJ .i64 m.bW 1048575);have h4:=bx (aR (aR (aR (aR (aR [] m.ba) m.aH) (bJ .i64 m.bQ 1048575)) (cU .i64 m.bQ 20)) (bJ .i64 m.bW 1048575)) (cU .i64 m.bW 20);omega
  ·split
   ·refine ⟨As (g9 (g9 gb _) _) hm.b,?_⟩;have h1:=bx (aR (aR [] m.ba) m.aH) m.fI;have h2:=bx (aR (aR (aR [] m.ba) m.aH) m.fI) m.fB.length;have h3:=hm.len;rw [zQG]; omega
   ·split
    ·exact ⟨gb,by omega⟩
    ·exact ⟨kb,by omega⟩
theorem D5{u:Nat}(hu:1099511627776<=u){m:dW}(hm:M.MsgWf m):wW u m=some (fc m):=by
 have k:=bx [] m.ba;have g:=bx (aR [] m.ba) m.aH;simp only [zXQ] at k;have hl:=hm.len;obtain ⟨hb,hbl⟩:=Gk hm;unfold wW fc;rw [wt hu hm.sums];simp only [wk]
 cases hok:iO m with
 | false=>rfl
 | true =>
  simp only [zQX,cond_false,if_true];rw [dL hu eH];simp only [wk];have tail:j9 u (eC m)=some (aR (eC m) (cE (eC m))):=by
   unfold j9;rw [zl hu hb ar];simp only [wk];rw [dL hu ar]; rfl
  rw [<- tail]
  clear tail hbl hb
  unfold eC pa
  by_cases h1:m.ba=1
  ·simp only [h1,beq_self_eq_true,cond_true,if_true];rw [h1] at k;rw [NX hu ar (by have:=hm.sums; omega) hm.wf]; rfl
  ·have e1:(m.ba == 1)=false:=by simpa using h1
   by_cases h2:m.ba=2
   ·rw [h2] at k g;have h3:=bx (aR (aR [] 2) m.aH) (bJ .i64 m.bQ 1048575);have h4:=bx (aR (aR (aR [] 2) m.aH) (bJ .i64 m.bQ 1048575)) (cU .i64 m.bQ 20);have h5:=bx (aR (aR (aR (aR [] 2) m.aH) (bJ .i64 m.bQ 1048575)) (cU .i64 m.bQ 20)) (bJ .i64 m.bW 1048575);simp only [h2,beq_self_eq_true,cond_true,if_true,wV];rw [dL hu ar]; simp only [wk];rw [dL hu ar]; simp only [wk];rw [dL hu ar]; simp only [wk];rw [dL hu ar]; simp only [wk];rw [dL hu ar]; rfl
   ·have e2:(m.ba == 2)=false:=by simpa using h2
    by_cases h3:m.ba=3
    ·rw [h3] at k g;have h4:=bx (aR (aR [] 3) m.aH) m.fI;have h5:=bx (aR (aR (aR [] 3) m.aH) m.fI) m.fB.length;simp only [h3,beq_self_eq_true,cond_true,if_true,yg];rw [dL hu ar]; simp only [wk];rw [dL hu ar]; simp only [wk];rw [dL hu ar]; simp only [wk];rw [bq ar]; rfl
    ·have e3:(m.ba == 3)=false:=by simpa using h3
     by_cases h4:m.ba=4
     ·rw [h4] at k;simp only [h4,beq_self_eq_true,cond_true,if_true];rw [dL hu ar]; rfl
     ·have e4:(m.ba == 4)=false:=by simpa using h4
      simp only [e1,e2,e3,e4,h1,h2,h3,h4,cond_false,if_false]
theorem fj{c:List Int}{n:Int}(h0:0<=n)(h1:n<=1000000000000):aR c n=c++cZ 9 n:=by
 unfold aR;rw [if_pos (by simp [aq]; omega)]
theorem Tn{b:List Int}(hb:av b):∀ (n:Nat) (a:Int) (acc l:List cC) (e:Int),lA n b a acc=some (l,e)->0<=a->a<=b.length->∃ l',l=acc++l'/\a<=e/\e<=b.length/\b.take e.toNat=mC (b.take a.toNat) l'/\∀ s∈l',s.fS<=9223372036854775807:=by
 intro n
 induction n with
 | zero =>
  intro a acc l e h h0 h1;simp only [lA,Option.some.injEq,Prod.mk.injEq] at h;obtain ⟨rfl,rfl⟩:=h;exact ⟨[],by simp,by omega,h1,rfl,by simp⟩
 | succ n ih =>
  intro a acc l e h h0 h1;unfold lA at h
  cases hr:rz 8 b a with
  | none=>rw [hr] at h; cases h
  | some q =>
   obtain ⟨v,e1⟩:=q;rw [hr] at h;dsimp only at h;have p:=HW hb hr ar
   split at h
   ·rename_i hv;obtain ⟨l',g1,g2,g3,g4,g5⟩:=ih e1 _ l e h ar p.2.2.1;have hs:(et (b4 v).1).fS=v:=by
     have:=AQ (s:=v) (b:=(b4 v).1) (by rw [<- hv]);rw [this]
    have hp:(128:Int) ^ 8=72057594037927936:=by decide
    refine ⟨et (b4 v).1 :: l',by rw [g1]; simp,by omega,g3,?_,?_⟩
    ·rw [g4,p.2.2.2.2.2,mC,hs]
    ·intro s hs';rcases aag.1 hs' with rfl | hs'
     ·rw [hs]; omega
     ·exact g5 s hs'
   ·cases h
theorem UM{b:List Int}(hb:av b){a e:Int}{m:af}(h:kj b a=(m,e,true)):0<=a/\a<=e/\e<=b.length/\c7 m=true/\oH m/\b.take e.toNat=qv (b.take a.toNat) m:=by
 unfold kj at h;rcases bX b a with ⟨v1,e1,h1⟩ | h1
 ·rw [h1] at h;dsimp only at h;rcases bX b e1 with ⟨v2,e2,h2⟩ | h2
  ·rw [h2] at h;dsimp only at h;rcases bX b e2 with ⟨v3,e3,h3⟩ | h3
   ·rw [h3] at h;simp only [zXK,if_true] at h;have p1:=cF hb h1;have p2:=cF hb h2;have p3:=cF hb h3
    cases hs:lA (cr v2 v3).toNat b e3 [] with
    | none=>rw [hs] at h; cases h
    | some q =>
     obtain ⟨ss,e'⟩:=q;rw [hs] at h;unfold qx at h;dsimp only at h
     split at h
     ·rename_i hm;simp only [Prod.mk.injEq,and_true] at h;obtain ⟨rfl,rfl⟩:=h;obtain ⟨l',g1,g2,g3,g4,g5⟩:=Tn hb _ e3 [] ss e' hs ar p3.2.2.1;rw [zQz] at g1;subst g1;refine ⟨p1.1,by omega,g3,hm,g5,?_⟩;unfold qv;rw [if_pos hm,fj p1.2.2.2.1 p1.2.2.2.2.1,fj p2.2.2.2.1 p2.2.2.2.2.1,fj p3.2.2.2.1 p3.2.2.2.2.1,g4,p3.2.2.2.2.2,p2.2.2.2.2.2,p1.2.2.2.2.2]
     ·cases h
   ·rw [h3] at h; simp [vn] at h
  ·rw [h2] at h; simp [vn] at h
 ·rw [h1] at h; simp [vn] at h
def om(n:Int):Bool:=decide (n < 1048576)
def E3:af:=⟨0,0,0,[]⟩
def xe(b:List Int)(a:Int):Option (dW×Int) :=
 let g0:=bd b a
 let g1:=bd b g0.2.1
 let g2:=bd b g1.2.1
 let g3:=bd b g2.2.1
 let g4:=bd b g3.2.1
 if g0.2.2 && ((g1.2.2 && om g1.1) && ((g2.2.2 && om g2.1) && ((g3.2.2 && om g3.1) && (g4.2.2 && om g4.1)))) then some (⟨2,g0.1,E3,g1.1+g2.1*1048576,g3.1+g4.1*1048576,0,[]⟩,g4.2.1) else none
def zp(b:List Int)(a:Int):Option (dW×Int) :=
 let g0:=bd b a
 let g1:=bd b g0.2.1
 let g2:=pw b g1.2.1
 if g0.2.2 && g1.2.2 && g2.2.2 then some (⟨3,g0.1,E3,0,0,g1.1,g2.1⟩,g2.2.1) else none
theorem wv{b:List Int}(hb:av b)(a:Int):0<=(bd b a).1:=by
 rcases bX b a with ⟨v,e,h⟩ | h
 ·rw [h]; exact (cF hb h).2.2.2.1
 ·rw [h]; exact Int.le_refl 0
theorem Yc{u:Nat}(hu:1099511627776<=u){b:List Int}(hb:av b)(hl:b.length<=1048576)(k:Nat)(a:Int)(acc:List Int)(i:Nat)(hi:i < 4)(hacc:acc.length<=4)(p2:Int)(r2:Int×Int×Bool) :
  cD u (k+1) b a acc i p2 r2=if (bd b a).2.2 && om (bd b a).1 then cD u k b (bd b a).2.1 (acc++[(bd b a).1]) ((i+1:Nat):Int) p2 r2 else some (⟨p2,r2.1,E3,0,0,0,[]⟩,0,false):=by
 have e:(i:Int) < 4:=by omega
 rw [cD];simp only [e,decide_true,cond_true,ki hu hb hl,wk];unfold kI om;rw [bq eF,dy ar]
 cases h:(bd b a).2.2 with
 | false=>rfl
 | true =>
  by_cases hq:(bd b a).1 < 1048576
  ·have hq':¬ (bd b a).1>=1048576:=by omega
   simp [hq,hq']
  ·have hq':(bd b a).1>=1048576:=by omega
   simp [hq,hq',E3]
theorem Cq{x y:Int}(h1:0<=x)(h2:x < 1048576)(h3:0<=y)(h4:y < 1048576):aL .i64 x (il .i64 y 20)=x+y*1048576/\tZ .i64 x (il .i64 y 20)=x+y*1048576/\bJ .i64 (x+y*1048576) 1048575=x/\cU .i64 (x+y*1048576) 20=y:=by
 obtain ⟨a,rfl⟩:=zQJ h1;obtain ⟨c,rfl⟩:=zQJ h3;have hp:(2:Nat) ^ 20=1048576:=by decide
 have e:=Oi (a:=c) (n:=20) ar (by rw [hp]; omega);rw [hp] at e;rw [show ((20:Nat):Int)=20 by rfl] at e;rw [e];refine ⟨by rw [cN ar ar]; omega,?_,?_,?_⟩
 ·have h:=Yb (v:=a) (a:=c) (n:=20) (by rw [hp]; omega);rw [hp] at h;rw [HQ ar ar,h]; omega
 ·rw [show (a:Int)+(c:Int)*1048576=((a+c*1048576:Nat):Int) by omega,show (1048575:Int)=((1048575:Nat):Int) by rfl,S5 ar ar,show (1048575:Nat)=2 ^ 20 - 1 by decide,zZJ,hp]; omega
 ·rw [show (a:Int)+(c:Int)*1048576=((a+c*1048576:Nat):Int) by omega,show (20:Int)=((20:Nat):Int) by rfl,S6 ar,hp]; omega
theorem UN{u:Nat}(hu:1099511627776<=u){b:List Int}(hb:av b)(hl:b.length<=1048576)(a:Int):∃ r,eD u b a 2=some r/\(match xe b a with | some (m,e)=>r=(m,e,true) | none=>r.2.2=false):=by
 obtain ⟨u',hu'⟩:∃ j,u=j+5:=⟨u - 5,by omega⟩;unfold eD xe;rw [show ((2:Int) == 1)=false by rfl,show ((2:Int) == 2)=true by rfl];simp only [cond_false,cond_true,ki hu hb hl,wk]
 cases h0:(bd b a).2.2 with
 | false=>exact ⟨_,rfl,rfl⟩
 | true =>
  simp only [zQX,cond_false,zWz];have st:∀ (k:Nat) (a:Int) (acc:List Int) (i:Nat),i < 4->acc.length<=4->∀ r2:Int×Int×Bool,cD u (k+1) b a acc i 2 r2=if (bd b a).2.2 && om (bd b a).1 then cD u k b (bd b a).2.1 (acc++[(bd b a).1]) ((i+1:Nat):Int) 2 r2 else some (⟨2,r2.1,E3,0,0,0,[]⟩,0,false):=λk a acc i h1 h2 r2=>Yc hu hb hl k a acc i h1 h2 2 r2
  generalize hv:bd b a=g0;rw [show cD u u b g0.2.1 [] 0 2 g0=cD u (u'+4+1) b g0.2.1 [] ((0:Nat):Int) 2 g0 by rw [<- hu']; rfl,st _ _ _ 0 ar eH]
  cases h1:((bd b g0.2.1).2.2 && om (bd b g0.2.1).1) with
  | false=>exact ⟨_,rfl,rfl⟩
  | true =>
   simp only [if_true,zWz,zQz];rw [show u'+4=u'+3+1 by omega,st _ _ _ 1 ar eH];generalize hv1:bd b g0.2.1=g1
   cases h2:((bd b g1.2.1).2.2 && om (bd b g1.2.1).1) with
   | false=>exact ⟨_,rfl,rfl⟩
   | true =>
    simp only [if_true,zWz];rw [show u'+3=u'+2+1 by omega,st _ _ _ 2 ar eH];generalize hv2:bd b g1.2.1=g2
    cases h3:((bd b g2.2.1).2.2 && om (bd b g2.2.1).1) with
    | false=>exact ⟨_,rfl,rfl⟩
    | true =>
     simp only [if_true,zWz];rw [show u'+2=u'+1+1 by omega,st _ _ _ 3 ar eH];generalize hv3:bd b g2.2.1=g3
     cases h4:((bd b g3.2.1).2.2 && om (bd b g3.2.1).1) with
     | false=>exact ⟨_,rfl,rfl⟩
     | true =>
      simp only [if_true];rw [cD];have e:¬ (((3+1:Nat):Int) < 4):=by omega
      simp only [e,decide_false,cond_false];unfold oT oS;rw [show (0:Int)=((0:Nat):Int) by rfl,show (1:Int)=((1:Nat):Int) by rfl,show (2:Int)=((2:Nat):Int) by rfl,show (3:Int)=((3:Nat):Int) by rfl];simp only [cO,zQz,zYX,zQv,zWX,List.getElem?_cons_succ,wk];refine ⟨_,rfl,?_⟩;have r1:0<=g1.1/\g1.1 < 1048576:=by
       rw [<- hv1]; refine ⟨wv hb _,?_⟩;simp only [sk,om,decide_eq_true_eq] at h1; exact h1.2
      have r2:0<=g2.1/\g2.1 < 1048576:=by
       rw [<- hv2]; refine ⟨wv hb _,?_⟩;simp only [sk,om,decide_eq_true_eq] at h2; exact h2.2
      have r3:0<=g3.1/\g3.1 < 1048576:=by
       rw [<- hv3]; refine ⟨wv hb _,?_⟩;simp only [sk,om,decide_eq_true_eq] at h3; exact h3.2
      have r4:0<=(bd b g3.2.1).1/\(bd b g3.2.1).1 < 1048576:=by
       refine ⟨wv hb _,?_⟩;simp only [sk,om,decide_eq_true_eq] at h4; exact h4.2
      rw [(Cq r1.1 r1.2 r2.1 r2.2).1,(Cq r3.1 r3.2 r4.1 r4.2).1];rfl
theorem nxt{b p t:List Int}{e e' v n:Int}(hb:b=p++cZ 9 n++t)(hp:b.take e.toNat=p)(h0:0<=e)(h1:e<=b.length)(hg:bd b e=(v,e',true))(n0:0<=n)(n1:n<=1000000000000):v=n/\b.take e'.toNat=p++cZ 9 n:=by
 have hl:p.length=e.toNat:=by rw [<- hp,zWQ]; omega
 have h:=Om (p:=p) (n:=n) t n0 n1;rw [<- hb,hl,show ((e.toNat:Nat):Int)=e by omega,hg] at h;simp only [Prod.mk.injEq,and_true] at h;refine ⟨h.1,?_⟩;rw [h.2,r0,hb,<- hl,<- zQG,List.take_left]
theorem Kv{w:Int}(h:co w=true):∃ x y,0<=x/\x < 1048576/\0<=y/\y < 1048576/\bJ .i64 w 1048575=x/\cU .i64 w 20=y:=by
 have h:=bM h;have:=Cq (x:=w % 1048576) (y:=w / 1048576) ar ar ar ar;refine ⟨w % 1048576,w / 1048576,by omega,by omega,by omega,by omega,?_,?_⟩
 ·have h2:=this.2.2.1;rwa [show w % 1048576+w / 1048576*1048576=w by omega] at h2
 ·have h2:=this.2.2.2;rwa [show w % 1048576+w / 1048576*1048576=w by omega] at h2
theorem HY{k:Int}(h0:0<=k)(h1:k<=1000000000000):aR [] k=cZ 9 k:=by rw [fj h0 h1]; rfl
theorem Zx{b:List Int}(hb:av b){a v0 e0 v1 e1 v2 e2 v3 e3 v4 e4 W D:Int}(ha:b.take a.toNat=cZ 9 2)(h0:bd b a=(v0,e0,true))(h1:bd b e0=(v1,e1,true))(h2:bd b e1=(v2,e2,true))(h3:bd b e2=(v3,e3,true))(h4:bd b e3=(v4,e4,true))
  (hok:iO ⟨2,v0,E3,W,D,0,[]⟩=true) (hp:fc ⟨2,v0,E3,W,D,0,[]⟩=b):om v1=true/\om v2=true/\om v3=true/\om v4=true:=by
 have p0:=cF hb h0;have p1:=cF hb h1;have p2:=cF hb h2;have p3:=cF hb h3;have p4:=cF hb h4;have hs:co W=true/\co D=true:=by
  unfold iO at hok;dsimp only at hok;rw [if_neg (show ¬ ((2:Int)=1) by decide),if_pos rfl] at hok;simp only [sk] at hok;exact ⟨hok.1.1.1.2,hok.1.1.2⟩
 obtain ⟨x1,x2,a1,a2,a3,a4,a5,a6⟩:=Kv hs.1;obtain ⟨x3,x4,c1,c2,c3,c4,c5,c6⟩:=Kv hs.2;unfold fc at hp;rw [if_pos hok] at hp;have hbody:eC ⟨2,v0,E3,W,D,0,[]⟩=cZ 9 2++cZ 9 v0++cZ 9 x1++cZ 9 x2++cZ 9 x3++cZ 9 x4:=by
  show pa (pa (aR (aR [] 2) v0) W) D=_;unfold pa;rw [a5,a6,c5,c6,HY ar ar,fj p0.2.2.2.1 p0.2.2.2.2.1,fj a1 ar,fj a3 ar,fj c1 ar,fj c3 ar]
 have hw:=Cf (eC ⟨2,v0,E3,W,D,0,[]⟩);rw [fj hw.1 ar,hbody] at hp;generalize cZ 9 (cE (cZ 9 2++cZ 9 v0++cZ 9 x1++cZ 9 x2++cZ 9 x3++cZ 9 x4))=t at hp;have q0:b.take e0.toNat=cZ 9 2++cZ 9 v0:=by rw [p0.2.2.2.2.2,ha]
 have q1:=nxt (t:=cZ 9 x2++cZ 9 x3++cZ 9 x4++t) (by rw [<- hp]; simp) q0 ar p0.2.2.1 h1 a1 ar;have q2:=nxt (t:=cZ 9 x3++cZ 9 x4++t) (by rw [<- hp]; simp) q1.2 ar p1.2.2.1 h2 a3 ar;have q3:=nxt (t:=cZ 9 x4++t) (by rw [<- hp]; simp) q2.2 ar p2.2.2.1 h3 c1 ar;have q4:=nxt (t:=t) (by rw [<- hp]) q3.2 ar p3.2.2.1 h4 c3 ar;unfold om;simp only [decide_eq_true_eq];omega
theorem Ft(k g w d i:Int){p:List Int}(hp:av p)(hl:p.length<=1048576):M.MsgWf ⟨k,g,E3,w,d,i,p⟩:=⟨by simp [E3],by intro s hs; simp [E3] at hs,hp,hl⟩
def AW(b:List Int)(r:dW×Bool)(o:Option (dW×Int)):Prop:=match o with
 | some (m,e)=>r=(m,true)
 | none=>r.2=false\/(M.MsgWf r.1/\(iO r.1=true->fc r.1≠b))
theorem Cr{b:List Int}{r:dW×Bool}{c:Bool}{x:dW×Int}(hc:c=false)(hr:r.2=false):AW b r (if c then some x else none):=by
 subst hc; exact .inl hr
theorem VJ{α:Type}{b:Bool}(h:b=true)(x y:α):(bif !b then x else y)=y:=by subst h; rfl
theorem Ou{α β:Type}(a:α)(f:α->Option β):(some a).bind f=f a:=(wk (a:=a) (f:=f)).trans (Eq.refl _)
theorem qbh(a b c d e:Int):dm [a,b,c,d,e] 0=some a:=(cO [a,b,c,d,e] 0).trans rfl
theorem qbi(a b c d e:Int):dm [a,b,c,d,e] 1=some b:=(cO [a,b,c,d,e] 1).trans rfl
theorem qbj(a b c d e:Int):dm [a,b,c,d,e] 2=some c:=(cO [a,b,c,d,e] 2).trans rfl
theorem qbk(a b c d e:Int):dm [a,b,c,d,e] 3=some d:=(cO [a,b,c,d,e] 3).trans rfl
theorem qbl(a b c d e:Int):dm [a,b,c,d,e] 4=some e:=(cO [a,b,c,d,e] 4).trans rfl
theorem UO{u:Nat}(hu:1099511627776<=u){b:List Int}(hb:av b)(hl:b.length<=1048576){a:Int}(ha:b.take a.toNat=cZ 9 2):∃ r,fU u b 2 a=some r/\AW b r (xe b a):=by
 unfold fU xe;rw [show ((2:Int) == 1)=false by rfl,show ((2:Int) == 2)=true by rfl];simp only [cond_false,cond_true];rw [show (5:Int)=((5:Nat):Int) by rfl,D4 hu hb hl a 5 ar];simp only [wk,wd];rcases bX b a with ⟨v0,e0,h0⟩ | h0
 ·rw [h0];simp only [if_true];rcases bX b e0 with ⟨v1,e1,h1⟩ | h1
  ·rw [h1];simp only [if_true];rcases bX b e1 with ⟨v2,e2,h2⟩ | h2
   ·rw [h2];simp only [if_true];rcases bX b e2 with ⟨v3,e3,h3⟩ | h3
    ·rw [h3];simp only [if_true];rcases bX b e3 with ⟨v4,e4,h4⟩ | h4
     ·rw [h4];rw [if_pos rfl,VJ (by rfl)];have hq:[]++[v0]++[v1]++[v2]++[v3]++[v4]=[v0,v1,v2,v3,v4]:=rfl;rw [hq,qbh,qbi,qbj,qbk,qbl,Ou,Ou,Ou,Ou,Ou];unfold kK;refine ⟨_,rfl,?_⟩;have p1:=cF hb h1;have p2:=cF hb h2;have p3:=cF hb h3;have p4:=cF hb h4
      cases hc:(true && (true && om v1 && (true && om v2 && (true && om v3 && (true && om v4))))) with
      | true =>
       simp only [zWz,sk,om,decide_eq_true_eq] at hc;simp only [if_true,AW];rw [(Cq p1.2.2.2.1 hc.1 p2.2.2.2.1 hc.2.1).2.1,(Cq p3.2.2.2.1 hc.2.2.1 p4.2.2.2.1 hc.2.2.2).2.1];rfl
      | false =>
       simp only [zQj,if_false,AW];refine .inr ⟨Ft _ _ _ _ _ jv eH,λhok hp=>?_⟩;have:=Zx hb ha h0 h1 h2 h3 h4 hok hp;rw [this.1,this.2.1,this.2.2.1,this.2.2.2] at hc
       cases hc
     ·rw [h4]; exact ⟨_,rfl,Cr eH rfl⟩
    ·rw [h3]; exact ⟨_,rfl,Cr eH rfl⟩
   ·rw [h2]; exact ⟨_,rfl,Cr eH rfl⟩
  ·rw [h1]; exact ⟨_,rfl,Cr eH rfl⟩
 ·rw [h0]; exact ⟨_,rfl,Cr eH rfl⟩
theorem qbT{b:List Int}(hb:av b){a e:Int}{m:dW}(ha:b.take a.toNat=cZ 9 2)(h:xe b a=some (m,e)):M.MsgWf m/\0<=e/\e<=b.length/\eC m=b.take e.toNat:=by
 unfold xe at h;dsimp only at h
 split at h
 ·rename_i hc;simp only [sk,om,decide_eq_true_eq] at hc;obtain ⟨k0,⟨k1,l1⟩,⟨k2,l2⟩,⟨k3,l3⟩,k4,l4⟩:=hc;simp only [Option.some.injEq,Prod.mk.injEq] at h;obtain ⟨rfl,rfl⟩:=h;rcases (bX b a).symm with h0 | ⟨v0,e0,h0⟩
  ·simp [h0] at k0
  simp only [h0] at k0 k1 l1 k2 l2 k3 l3 k4 l4 ⊢;rcases (bX b e0).symm with h1 | ⟨v1,e1,h1⟩
  ·simp [h1] at k1
  simp only [h1] at k0 k1 l1 k2 l2 k3 l3 k4 l4 ⊢;rcases (bX b e1).symm with h2 | ⟨v2,e2,h2⟩
  ·simp [h2] at k2
  simp only [h2] at k0 k1 l1 k2 l2 k3 l3 k4 l4 ⊢;rcases (bX b e2).symm with h3 | ⟨v3,e3,h3⟩
  ·simp [h3] at k3
  simp only [h3] at k0 k1 l1 k2 l2 k3 l3 k4 l4 ⊢;rcases (bX b e3).symm with h4 | ⟨v4,e4,h4⟩
  ·simp [h4] at k4
  simp only [h4] at k0 k1 l1 k2 l2 k3 l3 k4 l4 ⊢;have p0:=cF hb h0;have p1:=cF hb h1;have p2:=cF hb h2;have p3:=cF hb h3;have p4:=cF hb h4;have s1:=Cq p1.2.2.2.1 l1 p2.2.2.2.1 l2;have s2:=Cq p3.2.2.2.1 l3 p4.2.2.2.1 l4;refine ⟨Ft _ _ _ _ _ jv eH,by omega,p4.2.2.1,?_⟩;show pa (pa (aR (aR [] 2) v0) (v1+v2*1048576)) (v3+v4*1048576)=b.take e4.toNat;unfold pa;rw [s1.2.2.1,s1.2.2.2,s2.2.2.1,s2.2.2.2,HY ar ar,fj p0.2.2.2.1 p0.2.2.2.2.1,fj p1.2.2.2.1 p1.2.2.2.2.1,fj p2.2.2.2.1 p2.2.2.2.2.1,fj p3.2.2.2.1 p3.2.2.2.2.1,fj p4.2.2.2.1 p4.2.2.2.2.1];rw [p4.2.2.2.2.2,p3.2.2.2.2.2,p2.2.2.2.2.2,p1.2.2.2.2.2,p0.2.2.2.2.2,ha]
 ·cases h
def Ct(r:dW×Int×Bool)(o:Option (dW×Int)):Prop:=match o with
 | some (m,e)=>r=(m,e,true)
 | none=>r.2.2=false\/(r.1.ay.aI.length<=1048576/\iO r.1=false)
def M.puts(b:List Int)(o:Option (dW×Int)):Prop:=∀ m e,o=some (m,e)->M.MsgWf m/\0<=e/\e<=b.length/\eC m=b.take e.toNat
theorem Qs{α:Type}(r:α×Int×Bool)(h:r.2.2=true):r=(r.1,r.2.1,true):=by rw [<- h]
def zq(b:List Int)(a:Int):Option (dW×Int):=if (kj b a).2.2 then some (⟨1,0,(kj b a).1,0,0,0,[]⟩,(kj b a).2.1) else none
def zr(b:List Int)(a:Int):Option (dW×Int):=if (bd b a).2.2 then some (⟨4,(bd b a).1,E3,0,0,0,[]⟩,(bd b a).2.1) else none
theorem UP{u:Nat}(hu:1099511627776<=u){b:List Int}(hb:av b)(hl:b.length<=1048576)(a:Int):∃ r,eD u b a 1=some r/\Ct r (zq b a):=by
 refine ⟨(⟨1,0,(kj b a).1,0,0,0,[]⟩,(kj b a).2.1,(kj b a).2.2),?_,?_⟩
 ·unfold eD;rw [Oq hu hb hl]; rfl
 ·unfold zq Ct
  cases h:(kj b a).2.2 with
  | false=>exact .inl rfl
  | true=>rfl
theorem UQ{u:Nat}(hu:1099511627776<=u){b:List Int}(hb:av b)(hl:b.length<=1048576)(a:Int):∃ r,fU u b 1 a=some r/\AW b r (zq b a):=by
 refine ⟨(⟨1,0,(kj b a).1,0,0,0,[]⟩,(kj b a).2.2),?_,?_⟩
 ·unfold fU;rw [Oo hu hb hl]; rfl
 ·unfold zq AW
  cases h:(kj b a).2.2 with
  | false=>exact .inl rfl
  | true=>rfl
theorem qbU{b:List Int}(hb:av b){a:Int}(ha:b.take a.toNat=cZ 9 1):M.puts b (zq b a):=by
 intro m e h;unfold zq at h
 split at h
 ·rename_i hc;simp only [Option.some.injEq,Prod.mk.injEq] at h;obtain ⟨rfl,rfl⟩:=h;have p:=UM hb (Qs _ hc);refine ⟨⟨by have:=wc p.2.2.2.1; show (kj b a).1.aI.length<=_; omega,p.2.2.2.2.1,jv,by simp⟩,by omega,p.2.2.1,?_⟩;rw [p.2.2.2.2.2,ha,<- HY ar ar];rfl
 ·cases h
theorem UR{u:Nat}(hu:1099511627776<=u){b:List Int}(hb:av b)(hl:b.length<=1048576)(a:Int):∃ r,eD u b a 3=some r/\Ct r (zp b a):=by
 unfold eD zp;rw [show ((3:Int) == 1)=false by rfl,show ((3:Int) == 2)=false by rfl,show ((3:Int) == 3)=true by rfl];simp only [cond_false,cond_true,ki hu hb hl,LP hu hb hl,wk];rcases bX b a with ⟨v0,e0,h0⟩ | h0
 ·rw [h0];dsimp only;rcases bX b e0 with ⟨v1,e1,h1⟩ | h1
  ·rw [h1];dsimp only
   cases h2:(pw b e1).2.2 with
   | false=>exact ⟨_,rfl,.inl rfl⟩
   | true=>exact ⟨_,rfl,rfl⟩
  ·rw [h1]; exact ⟨_,rfl,.inl rfl⟩
 ·rw [h0]; exact ⟨_,rfl,.inl rfl⟩
theorem qbm(a b:Int):dm [a,b] 0=some a:=(cO [a,b] 0).trans rfl
theorem qbn(a b:Int):dm [a,b] 1=some b:=(cO [a,b] 1).trans rfl
theorem US{u:Nat}(hu:1099511627776<=u){b:List Int}(hb:av b)(hl:b.length<=1048576)(a:Int):∃ r,fU u b 3 a=some r/\AW b r (zp b a):=by
 unfold fU zp;rw [show ((3:Int) == 1)=false by rfl,show ((3:Int) == 2)=false by rfl,show ((3:Int) == 3)=true by rfl];simp only [cond_false,cond_true,LO hu hb hl];have hrv:=D4 hu hb hl a 2 ar;rw [show ((2:Nat):Int)=2 from rfl] at hrv;rw [hrv];simp only [wk,wd];rcases bX b a with ⟨v0,e0,h0⟩ | h0
 ·rw [h0];simp only [if_true];rcases bX b e0 with ⟨v1,e1,h1⟩ | h1
  ·rw [h1,if_pos rfl,VJ (by rfl)];have hq:[]++[v0]++[v1]=[v0,v1]:=rfl;rw [hq,qbm,qbn,Ou,Ou];dsimp only
   cases h2:(pw b e1).2.2 with
   | false=>exact ⟨_,rfl,.inl rfl⟩
   | true=>exact ⟨_,rfl,rfl⟩
  ·rw [h1]; exact ⟨_,rfl,Cr eH rfl⟩
 ·rw [h0]; exact ⟨_,rfl,Cr eH rfl⟩
theorem qbV{b:List Int}(hb:av b){a:Int}(ha:b.take a.toNat=cZ 9 3):M.puts b (zp b a):=by
 intro m e h;unfold zp at h;dsimp only at h
 split at h
 ·rename_i hc;simp only [sk] at hc;obtain ⟨⟨k0,k1⟩,k2⟩:=hc;simp only [Option.some.injEq,Prod.mk.injEq] at h;obtain ⟨rfl,rfl⟩:=h;have p0:=cF hb (Qs _ k0);have p1:=cF hb (Qs _ k1);have p2:=Tl hb (Qs _ k2);generalize bd b a=g0 at *;generalize bd b g0.2.1=g1 at *;generalize pw b g1.2.1=g2 at *;refine ⟨Ft _ _ _ _ _ p2.2.2.2.1 ar,by omega,p2.2.2.1,?_⟩;show aR (aR (aR (aR [] 3) g0.1) g1.1) g2.1.length++g2.1=b.take g2.2.1.toNat;rw [HY ar ar,fj p0.2.2.2.1 p0.2.2.2.2.1,fj p1.2.2.2.1 p1.2.2.2.2.1,fj ar ar,p2.2.2.2.2.2,p1.2.2.2.2.2,p0.2.2.2.2.2,ha]
 ·cases h
theorem UT{u:Nat}(hu:1099511627776<=u){b:List Int}(hb:av b)(hl:b.length<=1048576)(a:Int):∃ r,eD u b a 4=some r/\Ct r (zr b a):=by
 unfold eD zr;rw [show ((4:Int) == 1)=false by rfl,show ((4:Int) == 2)=false by rfl,show ((4:Int) == 3)=false by rfl];simp only [cond_false,cond_true,ki hu hb hl,wk];rcases bX b a with ⟨v0,e0,h0⟩ | h0
 ·rw [h0]; exact ⟨_,rfl,rfl⟩
 ·rw [h0]; exact ⟨_,rfl,.inl rfl⟩
theorem UU{u:Nat}(hu:1099511627776<=u){b:List Int}(hb:av b)(hl:b.length<=1048576)(a:Int):∃ r,fU u b 4 a=some r/\AW b r (zr b a):=by
 unfold fU zr;rw [show ((4:Int) == 1)=false by rfl,show ((4:Int) == 2)=false by rfl,show ((4:Int) == 3)=false by rfl,show ((4:Int) == 4)=true by rfl];simp only [cond_false,cond_true,vm hu hb hl,wk];rcases bX b a with ⟨v0,e0,h0⟩ | h0
 ·rw [h0]; exact ⟨_,rfl,rfl⟩
 ·rw [h0]; exact ⟨_,rfl,.inl rfl⟩
theorem qbW{b:List Int}(hb:av b){a:Int}(ha:b.take a.toNat=cZ 9 4):M.puts b (zr b a):=by
 intro m e h;unfold zr at h
 split at h
 ·rename_i k0;simp only [Option.some.injEq,Prod.mk.injEq] at h;obtain ⟨rfl,rfl⟩:=h;have p0:=cF hb (Qs _ k0);generalize bd b a=g0 at *;refine ⟨Ft _ _ _ _ _ jv eH,by omega,p0.2.2.1,?_⟩;show aR (aR [] 4) g0.1=b.take g0.2.1.toNat;rw [HY ar ar,fj p0.2.2.2.1 p0.2.2.2.2.1,p0.2.2.2.2.2,ha]
 ·cases h
def zt(b:List Int)(kind a:Int):Option (dW×Int):=if kind=1 then zq b a else if kind=2 then xe b a else if kind=3 then zp b a else if kind=4 then zr b a else none
theorem Ov{m:dW}(h1:m.ba≠1)(h2:m.ba≠2)(h3:m.ba≠3)(h4:m.ba≠4):iO m=false:=by
 unfold iO; rw [if_neg h1,if_neg h2,if_neg h3,if_neg h4]
theorem WM{u:Nat}(hu:1099511627776<=u){b:List Int}(hb:av b)(hl:b.length<=1048576)(k a:Int):∃ r,eD u b a k=some r/\Ct r (zt b k a):=by
 unfold zt
 by_cases h1:k=1
 ·subst h1; exact UP hu hb hl a
 ·rw [if_neg h1]
  by_cases h2:k=2
  ·subst h2;obtain ⟨r,g1,g2⟩:=UN hu hb hl a;refine ⟨r,g1,?_⟩;rw [if_pos rfl];unfold Ct
   cases hp:xe b a with
   | none=>rw [hp] at g2; exact .inl g2
   | some q=>rw [hp] at g2; exact g2
  ·rw [if_neg h2]
   by_cases h3:k=3
   ·subst h3; exact UR hu hb hl a
   ·rw [if_neg h3]
    by_cases h4:k=4
    ·subst h4; exact UT hu hb hl a
    ·rw [if_neg h4];have e1:(k == 1)=false:=by simpa using h1
     have e2:(k == 2)=false:=by simpa using h2
     have e3:(k == 3)=false:=by simpa using h3
     unfold eD;rw [e1,e2,e3];simp only [cond_false,ki hu hb hl,wk];rcases bX b a with ⟨v0,e0,h0⟩ | h0
     ·rw [h0];exact ⟨(⟨k,v0,⟨0,0,0,[]⟩,0,0,0,[]⟩,e0,true),rfl,.inr ⟨by simp,Ov h1 h2 h3 h4⟩⟩
     ·rw [h0]; exact ⟨_,rfl,.inl rfl⟩
theorem WN{u:Nat}(hu:1099511627776<=u){b:List Int}(hb:av b)(hl:b.length<=1048576){k a:Int}(ha:b.take a.toNat=cZ 9 k):∃ r,fU u b k a=some r/\AW b r (zt b k a):=by
 unfold zt
 by_cases h1:k=1
 ·subst h1; exact UQ hu hb hl a
 ·rw [if_neg h1]
  by_cases h2:k=2
  ·subst h2; exact UO hu hb hl ha
  ·rw [if_neg h2]
   by_cases h3:k=3
   ·subst h3; exact US hu hb hl a
   ·rw [if_neg h3]
    by_cases h4:k=4
    ·subst h4; exact UU hu hb hl a
    ·rw [if_neg h4];have e1:(k == 1)=false:=by simpa using h1
     have e2:(k == 2)=false:=by simpa using h2
     have e3:(k == 3)=false:=by simpa using h3
     have e4:(k == 4)=false:=by simpa using h4
     unfold fU;rw [e1,e2,e3,e4];exact ⟨_,rfl,.inl rfl⟩
theorem ED{b:List Int}(hb:av b){k a:Int}(ha:b.take a.toNat=cZ 9 k):M.puts b (zt b k a):=by
 unfold zt
 by_cases h1:k=1
 ·subst h1; exact qbU hb ha
 ·rw [if_neg h1]
  by_cases h2:k=2
  ·subst h2; exact λm e h=>qbT hb ha h
  ·rw [if_neg h2]
   by_cases h3:k=3
   ·subst h3; exact qbV hb ha
   ·rw [if_neg h3]
    by_cases h4:k=4
    ·subst h4; exact qbW hb ha
    ·rw [if_neg h4]; intro m e h; cases h
def vo:dW×Bool:=(⟨0,0,⟨0,0,0,[]⟩,0,0,0,[]⟩,false)
def dO(b:List Int):dW×Bool:=if (bd b 0).2.2 && decide (b.length<=400) then match zt b (bd b 0).1 (bd b 0).2.1 with
  | some (m,e)=>if iO m && decide (fc m=b) then (m,true) else vo
  | none=>vo
 else vo
theorem yn{m:dW}(h:M.MsgWf m):av (fc m):=by
 unfold fc
 split
 ·exact g9 (Gk h).1 _
 ·exact jv
theorem Ow{u:Nat}(hu:1099511627776<=u){b:List Int}(hb:av b)(hl:b.length<=1048576):wX u b=some (dO b):=by
 unfold wX dO uN qg;simp only [vm hu hb hl,wk];rcases bX b 0 with ⟨k,a,h0⟩ | h0
 ·rw [h0];have p:=cF hb h0;have ha:b.take a.toNat=cZ 9 k:=by rw [p.2.2.2.2.2]; rfl
  by_cases h4:b.length<=400
  ·have h4':¬ ((b.length:Int) > 400):=by omega
   simp only [h4,h4',decide_true,decide_false,zXK,if_true,zQX,cond_false];obtain ⟨r,g1,g2⟩:=WN hu hb hl ha;rw [g1];simp only [wk]
   cases hr:zt b k a with
   | none =>
    rw [hr] at g2;rcases g2 with g2 | ⟨g2,g3⟩
    ·rw [g2]; rfl
    ·cases hf:r.2 with
     | false=>rfl
     | true =>
      rw [wt hu g2.sums];simp only [zQX,cond_false,wk]
      cases hm:iO r.1 with
      | false=>rfl
      | true =>
       simp only [zQX,cond_false,D5 hu g2,vh,wk];rw [Cp (yn g2) hb,decide_eq_false (g3 hm)]; rfl
   | some q =>
    obtain ⟨m,e⟩:=q;rw [hr] at g2;have w:=ED hb ha m e hr;unfold AW at g2;dsimp only at g2;rw [g2];dsimp only;rw [wt hu w.1.sums];simp only [zQX,cond_false,wk]
    cases hm:iO m with
    | false=>rfl
    | true =>
     simp only [zQX,cond_false,D5 hu w.1,vh,wk];rw [Cp (yn w.1) hb]
     by_cases hp:fc m=b
     ·simp [hp]
     ·simp [hp,vo]
  ·have h4':(b.length:Int) > 400:=by omega
   simp [h4,h4',vo]
 ·rw [h0]; simp [vo]
theorem qaG{b:List Int}(hb:av b){m:dW}{e:Int}(h0:0<=e)(h1:e<=b.length)(hp:eC m=b.take e.toNat)(hm:iO m=true):fc m=b↔bd b e=(cE (b.take e.toNat),(b.length:Int),true):=by
 have hw:=Cf (b.take e.toNat);unfold fc;rw [if_pos hm,hp,fj hw.1 ar];have hlen:(b.take e.toNat).length=e.toNat:=by rw [zWQ]; omega
 constructor
 ·intro h;have g:=Om (p:=b.take e.toNat) (n:=cE (b.take e.toNat)) [] hw.1 ar;rw [zXH,h,hlen,show ((e.toNat:Nat):Int)=e by omega] at g;rw [g];refine Prod.ext rfl (Prod.ext ?_ rfl);have:=congrArg List.length h;rw [zQG,hlen] at this;dsimp only; omega
 ·intro h;have p:=cF hb h;rw [<- p.2.2.2.2.2,r0,List.take_length]
theorem vp{u:Nat}(hu:1099511627776<=u){b:List Int}(hb:av b)(hl:b.length<=1048576):jU u b=some (dO b):=by
 unfold jU dO pV pU nt;simp only [ki hu hb hl,wk];rcases bX b 0 with ⟨k,a,h0⟩ | h0
 ·rw [h0];have p:=cF hb h0;have ha:b.take a.toNat=cZ 9 k:=by rw [p.2.2.2.2.2]; rfl
  by_cases h4:b.length<=400
  ·have h4':¬ ((b.length:Int) > 400):=by omega
   simp only [h4,h4',decide_true,decide_false,zXK,if_true,zQX,cond_false];obtain ⟨r,g1,g2⟩:=WM hu hb hl k a;rw [g1];simp only [wk]
   cases hr:zt b k a with
   | none =>
    rw [hr] at g2;rcases g2 with g2 | ⟨g2,g3⟩
    ·rw [g2]; rfl
    ·cases hf:r.2.2 with
     | false=>rfl
     | true =>
      rw [wu hu g2,g3]; rfl
   | some q =>
    obtain ⟨m,e⟩:=q;rw [hr] at g2;have w:=ED hb ha m e hr;unfold Ct at g2;dsimp only at g2;rw [g2];dsimp only;rw [wu hu w.1.sums];simp only [zQX,cond_false,wk]
    cases hm:iO m with
    | false=>rfl
    | true =>
     have hs:=qaG hb w.2.1 w.2.2.1 w.2.2.2 hm;obtain ⟨e,rfl⟩:=zQJ w.2.1;simp only [zQX,cond_false,r0] at hs ⊢;rw [show (0:Int)=((0:Nat):Int) by rfl,gw ar (by have:=w.2.2.1; omega)];simp only [wk,r0,zZH];rw [vd hu (λx hx=>hb x (zWJ hx)) (by rw [zWQ]; omega)];simp only [wk];rcases bX b e with ⟨v,e',h5⟩ | h5
     ·rw [h5] at hs ⊢;simp only [zQX,cond_false]
      by_cases he:e'=(b.length:Int)
      ·by_cases hv:v=cE (b.take e)
       ·have:fc m=b:=hs.2 (by rw [he,hv]);simp [he,hv,this]
       ·have:¬ fc m=b:=λh=>hv (by have:=hs.1 h; simp only [Prod.mk.injEq] at this; exact this.1);have hv':(v != cE (b.take e))=true:=by simpa using hv
        simp [he,this,vo];rw [hv']; rfl
      ·have:¬ fc m=b:=λh=>he (by have:=hs.1 h; simp only [Prod.mk.injEq] at this; exact this.2.1);have he':(e' != (b.length:Int))=true:=by simpa using he
       simp [this,vo];rw [he']; rfl
     ·rw [h5] at hs ⊢;have:¬ fc m=b:=λh=>by have:=hs.1 h; simp at this
      simp [this,vo]
  ·have h4':(b.length:Int) > 400:=by omega
   simp [h4,h4',vo]
 ·rw [h0]; simp [vo]
theorem Gl{u:Nat}(hu:1099511627776<=u){w:World}(hl:w.br.length<=1048576)(ev:cK):jj u u 0 w ev=some (w.br.any λp=>oj p.fB ev.fP.fB):=by
 rw [FI u w ev () u ar ar];have:∀ (l:List ak) (i:Nat),bZ (yC u w ev) (tA u w ev) l i ()=some (l.any λp=>oj p.fB ev.fP.fB):=by
  intro l
  induction l with
  | nil=>intro i; rfl
  | cons x l ih =>
   intro i;simp only [bZ,tA,Au,wk,List.any_cons];rw [ih (i+1)]
   cases oj x.fB ev.fP.fB <;> rfl
 exact this _ 0
def mW:Nat->Nat->Nat
 | 0,_=>0
 | n+1,x=>x % 2+mW n (x / 2)
theorem Qt:∀ (k n a B:Nat),a < 2 ^ k->mW (k+n) (a+2 ^ k*B)=mW k a+mW n B
 | 0,n,a,B,h=>by
  obtain rfl:a=0:=by simpa using h
  simp [mW]
 | k+1,n,a,B,h=>by
  rw [zVW] at h;have e:(a+2 ^ (k+1)*B) / 2=a / 2+2 ^ k*B:=by
   rw [zVW,show 2 ^ k*2*B=2*(2 ^ k*B) by rw [Nat.mul_comm (2 ^ k) 2,Nat.mul_assoc]];omega
  have e2:(a+2 ^ (k+1)*B) % 2=a % 2:=by
   rw [zVW,show 2 ^ k*2*B=2*(2 ^ k*B) by rw [Nat.mul_comm (2 ^ k) 2,Nat.mul_assoc]];omega
  rw [show k+1+n=(k+n)+1 by omega];simp only [mW];rw [e,e2,Qt k n (a / 2) B ar];omega
def M.mk(c:Nat):Nat->Nat
 | 0=>0
 | n+1=>c+256*M.mk c n
theorem BL{a b c d:Nat}(ha:a < 256)(hc:c < 256):(a+256*b) &&& (c+256*d)=(a &&& c)+256*(b &&& d):=by
 have h1:(a &&& c) < 2 ^ 8:=Nat.and_lt_two_pow _ hc;rw [Nat.add_comm a,Nat.add_comm c,Nat.add_comm (a &&& c),show (256:Nat)=2 ^ 8 by rfl]
 apply Nat.eq_of_testBit_eq
 intro i;rw [Nat.testBit_and,zZz _ ha,zZz _ hc,zZz _ h1]
 split <;> rw [Nat.testBit_and]
def AX(n x:Nat):Nat:=((x / 2) &&& M.mk 85 n)+(x &&& M.mk 85 n)
def zI(n b:Nat):Nat:=((b / 4) &&& M.mk 51 n)+(b &&& M.mk 51 n)
def HZ(n c:Nat):Nat:=((c / 16)+c) &&& M.mk 15 n
theorem Yd:∀ e:Fin 2,∀ a:Fin 256,((a.val / 2+128*e.val) &&& 85)+(a.val &&& 85)=AX 1 a.val/\AX 1 a.val < 256:=by decide +kernel
theorem Ye:∀ e:Fin 4,∀ a:Fin 256,((a.val / 4+64*e.val) &&& 51)+(a.val &&& 51)=zI 1 a.val/\zI 1 a.val<=102/\zI 1 a.val % 16<=6:=by decide +kernel
theorem qbo:∀ e:Fin 7,∀ a:Fin 103,((a.val / 16+16*e.val+a.val) &&& 15)=HZ 1 a.val:=by decide +kernel
theorem qbp:∀ a:Fin 256,HZ 1 (zI 1 (AX 1 a.val))=mW 8 a.val:=by decide +kernel
theorem To{a B n:Nat}(ha:a < 256):AX (n+1) (a+256*B)=AX 1 a+256*AX n B:=by
 have h:=(Yd ⟨B % 2,by omega⟩ ⟨a,ha⟩).1;simp only at h;unfold AX;rw [show (a+256*B) / 2=(a / 2+128*(B % 2))+256*(B / 2) by omega];simp only [M.mk];rw [BL ar ar,BL ha ar];unfold AX at h;simp only [M.mk] at h;omega
theorem Tp{a B n:Nat}(ha:a < 256):zI (n+1) (a+256*B)=zI 1 a+256*zI n B:=by
 have h:=(Ye ⟨B % 4,by omega⟩ ⟨a,ha⟩).1;simp only at h;unfold zI;rw [show (a+256*B) / 4=(a / 4+64*(B % 4))+256*(B / 4) by omega];simp only [M.mk];rw [BL ar ar,BL ha ar];unfold zI at h;simp only [M.mk] at h;omega
theorem Yf{a B n:Nat}(ha:a<=102)(hB:B % 16<=6):HZ (n+1) (a+256*B)=HZ 1 a+256*HZ n B:=by
 have h:=qbo ⟨B % 16,by omega⟩ ⟨a,by omega⟩;simp only at h;unfold HZ;rw [show (a+256*B) / 16+(a+256*B)=(a / 16+16*(B % 16)+a)+256*(B / 16+B) by omega];simp only [M.mk];rw [BL ar ar];unfold HZ at h;simp only [M.mk] at h;omega
theorem qac{a:Nat}(h:a < 256):AX 1 a < 256:=(Yd 0 ⟨a,h⟩).2
theorem qbq{a:Nat}(h:a < 256):zI 1 a<=102/\zI 1 a % 16<=6:=(Ye 0 ⟨a,h⟩).2
theorem qaH{n B:Nat}:zI n (AX n B) % 16<=6:=by
 cases n with
 | zero=>simp [zI,M.mk]
 | succ n =>
  have hl:B % 256 < 256:=by omega
  have e:B=B % 256+256*(B / 256):=by omega
  rw [e,To hl,Tp (qac hl)];have:=(qbq (qac hl)).2;omega
theorem H0{a B n:Nat}(ha:a < 256):HZ (n+1) (zI (n+1) (AX (n+1) (a+256*B)))=mW 8 a+256*HZ n (zI n (AX n B)):=by
 have h1:=(Yd 0 ⟨a,ha⟩).2;have h2:=(Ye 0 ⟨AX 1 a,h1⟩).2.1;rw [To ha,Tp h1,Yf h2 qaH,qbp ⟨a,ha⟩]
theorem H1{a:Nat}(ha:a < 256):mW 8 a<=8:=by
 have:∀ a:Fin 256,mW 8 a.val<=8:=by decide +kernel
 exact this ⟨a,ha⟩
theorem qaI{x:Nat}(hx:x < 1099511627776):∃ p0 p1 p2 p3 p4:Nat,p0<=8/\p1<=8/\p2<=8/\p3<=8/\p4<=8/\HZ 8 (zI 8 (AX 8 x))=p0+256*(p1+256*(p2+256*(p3+256*p4)))/\mW 40 x=p0+p1+p2+p3+p4:=by
 have e:x=x % 256+256*(x / 256 % 256+256*(x / 65536 % 256+256*(x / 16777216 % 256+256*(x / 4294967296 % 256+256*0)))):=by omega
 refine ⟨mW 8 (x % 256),mW 8 (x / 256 % 256),mW 8 (x / 65536 % 256),mW 8 (x / 16777216 % 256),mW 8 (x / 4294967296 % 256),H1 ar,H1 ar,H1 ar,H1 ar,H1 ar,?_,?_⟩
 ·conv=>lhs; rw [e]
  rw [H0 ar,H0 ar,H0 ar,H0 ar,H0 ar];have:HZ 3 (zI 3 (AX 3 0))=0:=by decide +kernel
  omega
 ·have c:∀ (n a B:Nat),a < 256->mW (8+n) (a+256*B)=mW 8 a+mW n B:=λn a B h=>Qt 8 n a B h
  conv=>lhs; rw [e]
  rw [show (40:Nat)=8+(8+(8+(8+(8+0)))) by rfl,c _ _ _ ar,c _ _ _ ar,c _ _ _ ar,c _ _ _ ar,c _ _ _ ar];simp only [mW];omega
theorem Ry{n:Nat}(h:n < 18446744073709551616):Ir .u64 (n:Int)=(n:Int):=by
 show (n:Int) % 18446744073709551616=(n:Int);omega
theorem H2{a b:Nat}(h:a+b < 18446744073709551616):aL .u64 (a:Int) (b:Int)=((a+b:Nat):Int):=by
 unfold aL;rw [<- Int.natCast_add,Ry h]
theorem Yg{a i:Nat}(h:i<=64):cU .u64 (a:Int) (i:Int)=((a / 2 ^ i:Nat):Int):=by
 unfold cU;rw [r0,show min i IntKind.u64.bits=i from zXg h,Int.fdiv_eq_ediv_of_nonneg _ (by have:(0:Int) < 2 ^ i:=zVZ ar; omega)]
 norm_cast
theorem D6{a b:Nat}(h1:a < 18446744073709551616)(h2:b < 18446744073709551616):bJ .u64 (a:Int) (b:Int)=((a &&& b:Nat):Int):=by
 unfold bJ;have e:∀ n:Nat,n < 18446744073709551616->(Sh IntKind.u64.bits (n:Int)).toNat=n:=λn h=>by
  rw [BitVec.ofInt_natCast];show (BitVec.ofNat 64 n).toNat=n;rw [BitVec.toNat_ofNat]; omega
 rw [BitVec.toNat_and,e a h1,e b h2,Ry];exact Nat.lt_of_le_of_lt Nat.and_le_left h1
theorem Rz(a i:Nat)(h:i<=64)(j:Int)(hj:j=(i:Int)):cU .u64 (a:Int) j=((a / 2 ^ i:Nat):Int):=by subst hj; exact Yg h
theorem qbr:M.mk 85 8=6148914691236517205:=by decide +kernel
theorem qbs:M.mk 51 8=3689348814741910323:=by decide +kernel
theorem qbt:M.mk 15 8=1085102592571150095:=by decide +kernel
theorem Yh{p0 p1 p2 p3 p4 y z v:Nat}(h0:p0<=8)(h1:p1<=8)(h2:p2<=8)(h3:p3<=8)(h4:p4<=8)(hy:p0+256*(p1+256*(p2+256*(p3+256*p4)))=y)(hz:y+y / 256=z)(hv:z+z / 65536=v) :
  y<=68719476736/\z<=68719476736/\v+v / 4294967296<=68719476736/\(v+v / 4294967296) % 128=p0+p1+p2+p3+p4:=by
 have e1:y / 256=p1+256*(p2+256*(p3+256*p4)):=by omega
 have e2:z=(p0+p1)+256*(p1+p2)+65536*((p2+p3)+256*(p3+p4)+65536*p4):=by omega
 have e3:z / 65536=(p2+p3)+256*(p3+p4)+65536*p4:=by omega
 have e4:v=(p0+p1+p2+p3)+256*(p1+p2+p3+p4)+65536*(p2+p3+p4+256*(p3+p4))+4294967296*p4:=by omega
 have e5:v / 4294967296=p4:=by omega
 omega
theorem qbX(x:Nat):AX 8 x=(x / 2 &&& 6148914691236517205)+(x &&& 6148914691236517205):=by unfold AX; rw [qbr]
theorem qbY(x:Nat):zI 8 x=(x / 4 &&& 3689348814741910323)+(x &&& 3689348814741910323):=by unfold zI; rw [qbs]
theorem qbZ(x:Nat):HZ 8 x=(x / 16+x) &&& 1085102592571150095:=by unfold HZ; rw [qbt]
theorem qbu(x:Nat)(hx:x < 18446744073709551616):aL .u64 (bJ .u64 (cU .u64 (x:Int) 1) 6148914691236517205) (bJ .u64 (x:Int) 6148914691236517205)=((AX 8 x:Nat):Int)/\AX 8 x<=12297829382473034410:=by
 have h1:(x / 2 &&& 6148914691236517205)<=6148914691236517205:=zVQ;have h2:(x &&& 6148914691236517205)<=6148914691236517205:=zVQ;have m:(6148914691236517205:Int)=((6148914691236517205:Nat):Int):=rfl;rw [qbX,m,Rz x 1 ar 1 rfl,show 2 ^ 1=2 by rfl,D6 ar ar,D6 hx ar,H2 ar];exact ⟨rfl,by omega⟩
theorem qbv(x:Nat)(hx:x < 18446744073709551616):aL .u64 (bJ .u64 (cU .u64 (x:Int) 2) 3689348814741910323) (bJ .u64 (x:Int) 3689348814741910323)=((zI 8 x:Nat):Int)/\zI 8 x<=7378697629483820646:=by
 have h1:(x / 4 &&& 3689348814741910323)<=3689348814741910323:=zVQ;have h2:(x &&& 3689348814741910323)<=3689348814741910323:=zVQ;have m:(3689348814741910323:Int)=((3689348814741910323:Nat):Int):=rfl;rw [qbY,m,Rz x 2 ar 2 rfl,show 2 ^ 2=4 by rfl,D6 ar ar,D6 hx ar,H2 ar];exact ⟨rfl,by omega⟩
theorem qbw(x:Nat)(hx:x<=7378697629483820646):bJ .u64 (aL .u64 (cU .u64 (x:Int) 4) (x:Int)) 1085102592571150095=((HZ 8 x:Nat):Int):=by
 have m:(1085102592571150095:Int)=((1085102592571150095:Nat):Int):=rfl;rw [qbZ,m,Rz x 4 ar 4 rfl,show 2 ^ 4=16 by rfl,H2 ar,D6 ar ar]
theorem Yi(y i p:Nat)(h:i<=64)(hp:p=2 ^ i)(hb:y+y / p < 18446744073709551616)(j:Int)(hj:j=(i:Int)):aL .u64 (y:Int) (cU .u64 (y:Int) j)=((y+y / p:Nat):Int):=by
 rw [Rz y i h j hj,<- hp,H2 hb]
theorem Zy{u x:Nat}(hx:x < 1099511627776):nK u (x:Int)=some ((mW 40 x:Nat):Int):=by
 obtain ⟨hB,b1⟩:=qbu x (Nat.lt_trans hx V0);obtain ⟨hC,b2⟩:=qbv (AX 8 x) (Nat.lt_of_le_of_lt b1 V0);have hD:=qbw (zI 8 (AX 8 x)) b2;obtain ⟨p0,p1,p2,p3,p4,h0,h1,h2,h3,h4,hs,hc⟩:=qaI hx;unfold nK;rw [hB,hC,hD,hs,hc]
 clear hB hC hD hs hc b1 b2
 generalize hy:p0+256*(p1+256*(p2+256*(p3+256*p4)))=y;generalize hz:y+y / 256=z;generalize hv:z+z / 65536=v;obtain ⟨f1,f2,f3,f4⟩:=Yh h0 h1 h2 h3 h4 hy hz hv
 clear hy
 rw [Yi y 8 256 ar rfl ar 8 rfl,hz,Yi z 16 65536 ar rfl ar 16 rfl,hv,Yi v 32 4294967296 ar rfl ar 32 rfl,wrap_i64 ar ar,Mp];rw [<- f4]
 congr 1
theorem JK{u:Nat}(s:Int):lh u s=some (if co s=true then ((mW 40 s.toNat:Nat):Int) else 0):=by
 unfold lh;rw [Fm,wk]
 cases h:co s with
 | false=>rfl
 | true =>
  have h1:=bM h;obtain ⟨x,rfl⟩:∃ x:Nat,s=x:=⟨s.toNat,by omega⟩;rw [Ry ar,Zy ar];rfl
theorem xI{u:Nat}{s:Int}(h:co s=true):∀ (n i:Nat) (a:Int),i+n<=40->0<=a->a<=i->gX (lZ u s) (l5 u s) n i a=some (a+((mW n (s.toNat / 2 ^ i):Nat):Int))
 | 0,i,a,_,_,_=>by simp [gX,lZ,nL,mW]
 | n+1,i,a,hi,h0,h1=>by
  have hp:im (i:Int)=true:=by simp [im,aq]; omega
  have e:eu s (i:Int)=decide (s.toNat / 2 ^ i % 2=1):=by
   unfold eu;rw [h,hp,r0,Nat.testBit_eq_decide_div_mod_eq];rfl
  have hd:s.toNat / 2 ^ (i+1)=s.toNat / 2 ^ i / 2:=by rw [zVW,Nat.div_div_eq_div_mul]
  simp only [gX,l5,iD,jo,wk,e,mW]
  by_cases hb:s.toNat / 2 ^ i % 2=1
  ·rw [decide_eq_true hb,cond_true,cN ar ar,xI h n (i+1) (a+1) ar ar ar,hd,hb]
   congr 1; omega
  ·rw [decide_eq_false hb,cond_false,xI h n (i+1) a ar ar ar,hd,show s.toNat / 2 ^ i % 2=0 by omega]
   congr 1; omega
theorem Fu{u:Nat}{s:Int}(h:co s=false):∀ (n i:Nat) (a:Int),gX (lZ u s) (l5 u s) n i a=some a
 | 0,i,a=>by simp [gX,lZ,nL]
 | n+1,i,a=>by
  have e:eu s (i:Int)=false:=by unfold eu; rw [h]; rfl
  simp only [gX,l5,iD,jo,wk,e,cond_false];exact Fu h n (i+1) a
theorem JL{u:Nat}(hu:1099511627776<=u)(s:Int):li u s=some (if co s=true then ((mW 40 s.toNat:Nat):Int) else 0):=by
 unfold li;rw [FL u s 0 u ar ar,show sY 40=40 by rfl]
 cases h:co s with
 | false=>rw [Fu h]; rfl
 | true=>rw [xI h 40 0 0 ar ar ar]; simp
theorem Yj:∀ (n x:Nat),mW n x<=n
 | 0,_=>zWk _
 | n+1,x=>by
  have:=Yj n (x / 2);simp only [mW]; omega
theorem WO{b:List Int}(hb:av b)(h:(dO b).2=true):M.MsgWf (dO b).1/\iO (dO b).1=true:=by
 unfold dO at h ⊢;rcases bX b 0 with ⟨k,a,h0⟩ | h0
 ·rw [h0] at h ⊢;have p:=cF hb h0;have ha:b.take a.toNat=cZ 9 k:=by rw [p.2.2.2.2.2]; rfl
  by_cases h4:b.length<=400
  ·simp only [h4,decide_true,zXK,if_true] at h ⊢
   cases hr:zt b k a with
   | none=>rw [hr] at h; cases h
   | some q =>
    obtain ⟨m,e⟩:=q;rw [hr] at h;simp only at h ⊢
    by_cases hm:(iO m && decide (fc m=b))=true
    ·rw [if_pos hm] at h ⊢;simp only [sk] at hm;exact ⟨(ED hb ha m e hr).1,hm.1⟩
    ·rw [if_neg hm] at h; cases h
  ·simp only [h4,decide_false,Bool.and_false,zQj,if_false] at h; cases h
 ·rw [h0] at h; cases h
theorem tO{p:Prop}[Decidable p](h:p):cd (decide p)=some ():=by rw [decide_eq_true h]; rfl
theorem ww{p:Prop}[Decidable p]{N:Nat}{k:Unit->Option ByteArray}(h:p)(hk:∃ v,k ()=some v/\v.size<=N):∃ v,(cd (decide p)).bind k=some v/\v.size<=N:=by
 rw [tO h]; exact hk
def M.cs(s:Int):Int:=if co s=true then ((mW 40 s.toNat:Nat):Int) else 0
theorem Yk(s:Int):0<=M.cs s/\M.cs s<=40:=by
 unfold M.cs;have:=Yj 40 s.toNat
 split <;> omega
theorem BM{u:Nat}(hu:1099511627776<=u)(s:Int):li u s=some (M.cs s):=JL hu s
theorem BN{u:Nat}(s:Int):lh u s=some (M.cs s):=JK s
theorem zu{u:Nat}(hu:1099511627776<=u){n:Int}(h:-1000001<=n/\n<=1000001):dc u n=some (ez n):=fJ hu ar ar
theorem zw{u:Nat}{n:Int}(h:-1000001<=n/\n<=1000001):de u n=some (ez n):=kQ ar ar
theorem Gm{n:Int}(h:-1000001<=n/\n<=1000001):(ez n).size<=21:=io ar ar
theorem sz5(a b c d e:UInt8):(zm #[a,b,c,d,e]).size=5:=rfl
theorem sz4(a b c d:UInt8):(zm #[a,b,c,d]).size=4:=rfl
theorem sz1(a:UInt8):(zm #[a]).size=1:=rfl
theorem UV{u:Nat}(hu:1099511627776<=u){m:dW}(hs:m.ay.aI.length<=1048576)(ok:iO m=true):∃ v,(uP u m=some v/\uO u m=some v)/\v.size<=200:=by
 unfold uP uO;rw [wu hu hs,wt hu hs,ok];simp only [wk,zQX,cond_false];unfold iO at ok
 by_cases h1:m.ba=1
 ·rw [if_pos h1] at ok;simp only [sk] at ok;have hg:-1000001<=m.ay.aH/\m.ay.aH<=1000001:=by
   have:=ok.1.2;unfold c7 at this
   by_cases hz:m.ay.aH=0
   ·omega
   ·rw [if_neg hz] at this;simp only [sk] at this;have:=bM this.1.1.1;omega
  have b1:(m.ba == 1)=true:=by simpa using h1
  have z1:=Gm hg;simp only [b1,cond_true,zu hu hg,zw hg,wk,and_self];refine ww (by simp only [Dp,sz4]; omega) ⟨_,rfl,by simp only [Dp,sz4]; omega⟩
 rw [if_neg h1] at ok;have b1:(m.ba == 1)=false:=by simpa using h1
 by_cases h2:m.ba=2
 ·rw [if_pos h2] at ok;simp only [sk] at ok;have b2:(m.ba == 2)=true:=by simpa using h2
  have hg:-1000001<=m.aH/\m.aH<=1000001:=by have:=bM ok.1.1.1.1.1; omega
  have hw:=Yk m.bQ;have hd:=Yk m.bW;have hw':-1000001<=M.cs m.bQ/\M.cs m.bQ<=1000001:=by omega
  have hd':-1000001<=M.cs m.bW/\M.cs m.bW<=1000001:=by omega
  have z1:=Gm hg;have z2:=Gm hw';have z3:=Gm hd';simp only [b1,b2,cond_true,cond_false,zu hu hg,zw hg,BM hu,BN,zu hu hw',zw hw',zu hu hd',zw hd',wk,and_self];refine ww QI ?_;refine ww QI ?_;refine ww QI ?_;refine ww QI ?_;refine ww QI ⟨_,rfl,by simp only [Dp,sz5,sz1]; omega⟩
 rw [if_neg h2] at ok;have b2:(m.ba == 2)=false:=by simpa using h2
 by_cases h3:m.ba=3
 ·rw [if_pos h3] at ok;simp only [sk] at ok;have b3:(m.ba == 3)=true:=by simpa using h3
  have hg:-1000001<=m.aH/\m.aH<=1000001:=by have:=bM ok.1.1.1.1.1; omega
  have hi:-1000001<=m.fI/\m.fI<=1000001:=by have:=bM ok.1.2; omega
  have z1:=Gm hg;have z2:=Gm hi;simp only [b1,b2,b3,cond_true,cond_false,zu hu hg,zw hg,zu hu hi,zw hi,wk,and_self];refine ww QI ?_;refine ww QI ?_;refine ww QI ⟨_,rfl,by simp only [Dp,sz5,sz1]; omega⟩
 rw [if_neg h3] at ok;have b3:(m.ba == 3)=false:=by simpa using h3
 by_cases h4:m.ba=4
 ·rw [if_pos h4] at ok;simp only [sk] at ok;have hg:-1000001<=m.aH/\m.aH<=1000001:=by have:=bM ok.1.1; omega
  have z1:=Gm hg;simp only [b1,b2,b3,cond_true,cond_false,zu hu hg,zw hg,wk,and_self];refine ww QI ⟨_,rfl,by simp only [Dp,sz5,sz1]; omega⟩
 ·rw [if_neg h4] at ok; cases ok
def H3(a b:ByteArray)(t:ByteArray):ByteArray:=(((a++(zm #[62]))++b)++(zm #[32]))++t
theorem H4{u:Nat}(hu:1099511627776<=u){p0:ak}(hf:-9223372036854775808<=p0.cQ/\p0.cQ<=9223372036854775807)(ht:-9223372036854775808<=p0.rB/\p0.rB<=9223372036854775807)(hb:av p0.fB)(hl:p0.fB.length<=1048576):∃ v,(gW u p0=some v/\gV u p0=some v)/\v.size<=300/\1<=v.size:=by
 obtain ⟨f0,f1⟩:=hf;obtain ⟨t0,t1⟩:=ht;have z1:=io f0 f1;have z2:=io t0 t1;unfold gW gV;simp only [fJ hu f0 f1,fJ hu t0 t1,vp hu hb hl,Ow hu hb hl,wk];have c1:cd (decide ((ez p0.cQ).size+(zm #[62]).size<=9223372036854775807))=some ():=tO Xl;have c2:cd (decide (((ez p0.cQ)++(zm #[62])).size+(ez p0.rB).size<=9223372036854775807))=some ():=tO Xf;have c3:cd (decide ((((ez p0.cQ)++(zm #[62]))++(ez p0.rB)).size+(zm #[32]).size<=9223372036854775807))=some ():=tO Xf;have c4:∀ t:ByteArray,t.size<=200->cd (decide (((((ez p0.cQ)++(zm #[62]))++(ez p0.rB))++(zm #[32])).size+t.size<=9223372036854775807))=some ():=λt ht=>tO Xf;have hj:∀ t:ByteArray,t.size<=200->l7 u t p0=some (H3 (ez p0.cQ) (ez p0.rB) t):=λt ht=>by
  unfold l7;simp only [kQ f0 f1,kQ t0 t1,wk,c1,c2,c3,c4 t ht];rfl
 have hsz:∀ t:ByteArray,t.size<=200->(H3 (ez p0.cQ) (ez p0.rB) t).size<=300/\1<=(H3 (ez p0.cQ) (ez p0.rB) t).size:=λt ht=>by
  unfold H3;simp only [Dp,sz1]; omega
 cases ho:(dO p0.fB).2 with
 | false =>
  have hq:(zm #[63]).size<=200:=by rw [sz1]; omega
  simp only [c1,c2,c3,c4 _ hq,hj _ hq,wk,zZK,cond_true,cond_false];exact ⟨_,⟨rfl,rfl⟩,hsz _ hq⟩
 | true =>
  obtain ⟨hw,hok⟩:=WO hb ho;obtain ⟨v,⟨e1,e2⟩,e3⟩:=UV hu hw.sums hok;simp only [c1,c2,c3,c4 _ e3,hj _ e3,e1,e2,wk,zQX,cond_true,cond_false];exact ⟨_,⟨rfl,rfl⟩,hsz _ e3⟩
def D7(w:World)(i:Nat):Bool:=match w.fN[i]? with | some x=>x.bh == 5 | none=>false
def xg(w:World):List Int:=((zWx 0 w.fN.length).filter (D7 w)).map λ(k:Nat)=>(k:Int)
theorem Qu{w:World}{i:Nat}{x:aG}(h:w.fN[i]?=some x):D7 w i=(x.bh == 5):=by unfold D7; rw [h]
theorem Ox{u:Nat}(hu:1099511627776<=u){w:World}(hn:w.fN.length<=1048576):wZ u w=some (xg w):=by
 unfold wZ eE;rw [pL u w _ u ar ar,Ez (D7 w) w.fN w.fN 0 [] eH eH]
 ·simp [jF,dX,xg]
 ·intro x i s k hx hs;have:=Av hx;unfold jG cM sq;simp only [wk,Qu hx];rw [bq eF]; rfl
theorem Oy{u:Nat}(hu:1099511627776<=u){w:World}(hn:w.fN.length<=1048576):w5 u w=some (xg w):=by
 unfold w5;rw [IW u w _ u ar ar,Ez (D7 w) w.fN w.fN 0 [] eH eH]
 ·simp [Bn,uS,xg]
 ·intro x i s k hx hs;have:=Av hx;unfold Bo nR;simp only [Qu hx];rw [bq eF]; rfl
def D8(sep:ByteArray):Nat->ByteArray->List ByteArray->ByteArray
 | _,s,[]=>s
 | i,s,t :: ts=>D8 sep (i+1) ((if i > 0 then s++sep else s)++t) ts
def H5(sep:ByteArray)(ts:List ByteArray):ByteArray:=⟨(Lib.join (ts.map (·.data.toList)) sep.data.toList).toArray⟩
theorem VK(sep:ByteArray):∀ (ts:List ByteArray) (i:Nat) (s:ByteArray),(D8 sep (i+1) s ts).data.toList=s.data.toList++Lib.joinTail sep.data.toList (ts.map (·.data.toList))
 | [],i,s=>by simp [D8,Lib.joinTail]
 | t :: ts,i,s=>by
  rw [D8,VK sep ts,if_pos ar,AV,AV];simp [Lib.joinTail]
theorem RA(sep:ByteArray)(ts:List ByteArray):D8 sep 0 (zm #[]) ts=H5 sep ts:=by
 refine Og ?_;unfold H5
 cases ts with
 | nil=>rfl
 | cons t ts =>
  rw [D8,VK,if_neg ar,AV,zWy,Lib.join_cons];simp
theorem Tq{sep s:ByteArray}{i:Nat}(hs:sep.size<=2):(if i > 0 then s++sep else s).size<=s.size+2:=by
 split
 ·rw [Dp]; omega
 ·omega
end Go.Tm.Pu
