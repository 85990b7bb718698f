/- Plain laws of the functions. -/
import Derived.Test.YtdcoelkflgpfgaaGreatCFnWorldsD
set_option linter.unusedVariables false
set_option linter.unusedSimpArgs false
open Bool renaming and_eq_true->sk,and_self->zXG,and_true->zXH,eq_iff_iff->zXg,false_eq_true->zWQ,not_false->zZH,not_true->zQY,true_and->zQh
open Int renaming add_mul->zVV,ediv_ediv_of_nonneg->zZG,emod_lt_of_pos->zVv,emod_nonneg->zVz,eq_ofNat_of_zero_le->zQK,le_refl->zYY,mul_comm->zVG,natCast_zero->zVq,pow_succ->zYH,tmod_eq_emod_of_nonneg->zYQ,toNat->sY,toNat_natCast->r0
open List renaming any_cons->zVx,append_assoc->zQJ,append_nil->zWV,drop_eq_getElem_cons->zYZ,drop_of_length_le->zXz,drop_zero->zVQ,getElem?_cons_zero->zQz,getElem?_drop->zQx,getElem?_eq_getElem->sX,getElem?_eq_none->zXK,getElem?_map->zQV,getElem?_range->zZw,getElem?_set_self->zZW,getElem_mem->zZY,head?->zZq,head?_drop->zXh,length->zZX,length_append->zQH,length_cons->zQw,length_drop->zYx,length_map->zWw,length_nil->zXx,length_replicate->zYz,length_set->zXk,length_singleton->zYJ,length_take->zQk,map_append->zYk,map_congr_left->zXJ,map_cons->zXV,mem_append->zWv,mem_map->zYv,mem_of_getElem?->zQQ,mem_of_mem_drop->zWh,mem_of_mem_take->zWJ,mem_or_eq_of_mem_set->zXw,mem_singleton->zQq,nil_append->zQj,range->zXY,range'->zXW,range'_succ->zYj,range_eq_range'->zYX,replicate->zQG,tail->zZz,tail_drop->zYK,take_add_one->zVh,take_of_length_le->zWj
open Nat renaming add_zero->zYV,and_two_pow_sub_one_eq_mod->zZg,le_refl->zWK,le_trans->zXQ,lt_of_lt_of_le->zWW,min_eq_left->zXj,mul_le_mul_right->zWH,or_lt_two_pow->zZk,pow_le_pow_right->zWZ,testBit_two_pow_sub_one->zYg,zero_add->zWY
open Option renaming bind_some->wk
open Go.IntKind renaming wrap->ld
open BitVec renaming ofInt->lg
open List renaming getElem?_eq_some_iff->ln
open List renaming mem_append->sa
open List renaming all_eq_true->zm
open List renaming mem_cons->Ir
open BitVec renaming toNat_ofInt->Sl
open Option renaming some->ac
open Option renaming none->cl
open Bool renaming true->gi
open Bool renaming false->go
namespace Go.Tm.Pu
open Go.Tm
def aj(n a b:Int):Bool:=decide (a<=n) && decide (n<=b)
def cF(size n:Int):Bool:=aj size 2 6 && aj n 0 (40*size)
def bu(size n:Int):Int:=if cF size n then (n+size - 1) / size else 0
def cu(size n i:Int):Int×Int:=if aj i 0 (bu size n - 1) then (i*size,min size (n - i*size)) else (0,0)
theorem bC{n a b:Int}(h:aj n a b=gi):a<=n/\n<=b:=by simpa [aj] using h
theorem qba{n a b:Int}(h:aj n a b=go):n < a\/b < n:=by
 simp [aj] at h; omega
theorem c9(n a b:Int):cy n a b=ac (aj n a b):=by
 unfold cy aj
 by_cases h:a<=n <;> simp [h]
theorem bJ(n a b:Int):bK n a b=ac (aj n a b):=by
 unfold bK aj
 by_cases h:a<=n <;> simp [h]
theorem rC(s n:Int):pQ s n=ac (cF s n):=by
 unfold pQ cF;simp only [c9,wk]
 cases h:aj s 2 6 with
 | false=>simp
 | true =>
  have:=bC h;simp (disch:=omega) only [cond_true,zQh,mp]
theorem ms(s n:Int):nA s n=ac (cF s n):=by
 unfold nA cF;simp only [bJ,wk]
 cases h:aj s 2 6 with
 | false=>simp
 | true =>
  have:=bC h;simp (disch:=omega) only [cond_true,zQh,mp];rw [zVG]
theorem vH{s n:Int}(h:cF s n=gi):2<=s/\s<=6/\0<=n/\n<=40*s:=by
 simp [cF,aj] at h; omega
def El(a b:Int):Int:=if aj a 0 1000000000000 && aj b 1 1000000000000 then (a+b - 1) / b else 0
theorem TC(a b:Int):Ac a b=ac (El a b):=by
 unfold Ac El yu;simp only [c9,wk]
 cases h:aj a 0 1000000000000 with
 | false=>simp
 | true =>
  cases h2:aj b 1 1000000000000 with
  | false=>simp
  | true =>
   have:=bC h;have:=bC h2;have hb:(b == 0)=false:=by simp; omega
   simp (disch:=omega) [dW,dE,db,Vi,hb]
theorem TD(a b:Int):zT a b=ac (El a b):=by
 unfold zT El yn;simp only [bJ,wk]
 cases h:aj a 0 1000000000000 with
 | false=>simp
 | true =>
  cases h2:aj b 1 1000000000000 with
  | false=>simp
  | true =>
   have:=bC h;have:=bC h2;have hb:(b == 0)=false:=by simp; omega
   simp (disch:=omega) [dW,dE,db,Vi,hb]
theorem Sj{s n:Int}(h:cF s n=gi):El n s=(n+s - 1) / s:=by
 have:=vH h;have h1:aj n 0 1000000000000=true:=by simp [aj]; omega
 have h2:aj s 1 1000000000000=true:=by simp [aj]; omega
 simp [El,h1,h2]
theorem Fa(s n:Int):uQ s n=ac (bu s n):=by
 unfold uQ bu;simp only [rC,TC,wk]
 cases h:cF s n with
 | false=>simp
 | true=>simp [Sj h]
theorem jm(s n:Int):pM s n=ac (bu s n):=by
 unfold pM bu;simp only [ms,TD,wk]
 cases h:cF s n with
 | false=>simp
 | true=>simp [Sj h]
theorem blocks_range(s n:Int):0<=bu s n/\bu s n<=40:=by
 unfold bu
 split
 ·rename_i h;have h:=vH h;refine ⟨Int.ediv_nonneg al al,?_⟩;have:(n+s - 1) / s < 41:=Int.ediv_lt_of_lt_mul al al;omega
 ·omega
theorem Hx{s n i:Int}(h:aj i 0 (bu s n - 1)=gi):cF s n=gi/\0<=i/\i<=39:=by
 have h1:=bC h;have:=blocks_range s n;refine ⟨?_,by omega,by omega⟩
 cases h2:cF s n with
 | true=>rfl
 | false=>simp [bu,h2] at h1; omega
theorem KV{s i:Int}(h1:2<=s)(h2:s<=6)(h3:0<=i)(h4:i<=39):0<=i*s/\i*s<=234 :=
 ⟨Int.mul_nonneg h3 al,Int.le_trans (Int.mul_le_mul h4 h2 al al) al⟩
theorem rD(s n i:Int):kU s n i=ac (cu s n i):=by
 unfold kU cu;have hb:=blocks_range s n;simp (disch:=omega) only [Fa,c9,wk,db]
 cases h:aj i 0 (bu s n - 1) with
 | false=>simp
 | true =>
  have ⟨h1,h2,h3⟩:=Hx h;have h1:=vH h1;have h4:=KV (s:=s) (i:=i) al al h2 h3;simp (disch:=omega) [mp,db];omega
theorem LM(a b:Int):Bq a b=ac (min a b):=by
 unfold Bq
 by_cases h:b < a <;> simp [h] <;> omega
theorem mt(s n i:Int):iu s n i=ac (cu s n i):=by
 unfold iu cu;have hb:=blocks_range s n;simp (disch:=omega) only [jm,bJ,wk,db]
 cases h:aj i 0 (bu s n - 1) with
 | false=>simp
 | true =>
  have ⟨h1,h2,h3⟩:=Hx h;have h1:=vH h1;have h4:=KV (s:=s) (i:=i) al al h2 h3;simp (disch:=omega) [mp,db,LM]
def aw(b:gs):Prop:=∀ x∈b,0<=x/\x<=255
def wK:gs->Int->Int->Int×Int
 | [],x,y=>(x,y)
 | c :: b,x,y=>wK b ((x+c) % 251) ((y+(x+c) % 251) % 251)
def dc(b:gs):Int:=(wK b 0 0).1+251*(wK b 0 0).2
theorem J9(b:gs):∀ (x y:Int),0<=x->x < 251->0<=y->y < 251->0<=(wK b x y).1/\(wK b x y).1 < 251/\0<=(wK b x y).2/\(wK b x y).2 < 251:=by
 induction b with
 | nil=>intro x y h1 h2 h3 h4; exact ⟨h1,h2,h3,h4⟩
 | cons c b ih =>
  intro x y h1 h2 h3 h4;exact ih _ _ al al al al
theorem O5(b:gs):0<=dc b/\dc b<=63000:=by
 have:=J9 b 0 0 al al al al;unfold dc; omega
theorem Xv :∀ (p b:gs) (i:Nat) (x y:Int),aw b->0<=x->x < 251->0<=y->y < 251 ->
  bT (GM p) (Br p) b i (x,y)=uO (wK b x y).1 (wK b x y).2:=by
 intro p b
 induction b with
 | nil=>intros; rfl
 | cons c b ih =>
  intro i x y hb h1 h2 h3 h4;have hc:=hb c ig;have e1:rU .i64 (aS .i64 x (ld .i64 c)) 251=(x+c) % 251:=by
   rw [wrap_i64 al al,dE al al,ET al]
  have e2:rU .i64 (aS .i64 y ((x+c) % 251)) 251=(y+(x+c) % 251) % 251:=by
   rw [dE al al,ET al]
  simp only [bT,Br,e1,e2];exact ih (i+1) _ _ (λz hz=>hb z W8) al al al al
theorem Xw :∀ (p b:gs) (i:Nat) (x y:Int),aw b->0<=x->x < 251->0<=y->y < 251 ->
  bT (GQ p) (Bv p) b i (x,y)=uR (wK b x y).1 (wK b x y).2:=by
 intro p b
 induction b with
 | nil=>intros; rfl
 | cons c b ih =>
  intro i x y hb h1 h2 h3 h4;have hc:=hb c ig;have e1:rU .i64 (aS .i64 x (ld .i64 c)) 251=(x+c) % 251:=by
   rw [wrap_i64 al al,dE al al,ET al]
  have e2:rU .i64 (aS .i64 y ((x+c) % 251)) 251=(y+(x+c) % 251) % 251:=by
   rw [dE al al,ET al]
  simp only [bT,Bv,e1,e2];exact ih (i+1) _ _ (λz hz=>hb z W8) al al al al
theorem A8(hu:UB){b:gs}(hb:aw b)(hl:b.length<=1073741824):rY b=ac (dc b):=by
 unfold rY;rw [PZ b (0,0) u al al,Xv b b 0 0 0 hb al al al al];have:=J9 b 0 0 al al al al;unfold uO dc;simp (disch:=omega) only [mp,dE]
theorem Ys{n m:Int}(hm:0 < m):(n.tmod m+m).tmod m=n % m:=by
 rcases Int.le_total 0 n with h | h
 ·rw [zYQ h,zYQ (by have:=zVz n (show m≠0 by omega); omega)];simp
 ·have h1:n.tmod m=-((-n) % m):=by
   rw [show n=-(-n) by omega,Int.neg_tmod,zYQ al]; simp
  have h2:=zVz (-n) (show m≠0 by omega);have h3:=zVv (-n) hm;rw [h1,zYQ al];have:(-((-n) % m)+m) % m=n % m:=by
   have e:-n=m*(-n / m)+(-n) % m:=(Int.mul_ediv_add_emod (-n) m).symm;have e2:-((-n) % m)+m=n+m*(-n / m+1):=by
    rw [Int.mul_add]; omega
   rw [e2,Int.add_mul_emod_self_left]
  exact this
theorem VU{n m:Int}(hm:0 < m):-m < n.tmod m/\n.tmod m < m:=by
 rcases Int.le_total 0 n with h | h
 ·rw [zYQ h];have h2:=zVz n (show m≠0 by omega);have h3:=zVv n hm;omega
 ·have h1:n.tmod m=-((-n) % m):=by
   rw [show n=-(-n) by omega,Int.neg_tmod,zYQ al]; simp
  have h2:=zVz (-n) (show m≠0 by omega);have h3:=zVv (-n) hm;omega
theorem Zv(n m:Int):Eh n m=ac (if aj m 1 1000000000000 then n % m else 0):=by
 unfold Eh;simp only [c9,wk]
 cases h:aj m 1 1000000000000 with
 | false=>simp
 | true =>
  have h3:=bC h;have hb:(m == 0)=false:=by simp; omega
  have h4:=VU (n:=n) (m:=m) al;simp only [hb,zQY,cond_false,zZH,Hf,wk];have e1:rU .i64 n m=n.tmod m:=rfl;rw [e1,dE al al];show ac ((n.tmod m+m).tmod m)=_;rw [Ys al]; simp
theorem Zw(x y:Int):GP x y=ac (x % 251+251*(y % 251)):=by
 unfold GP;have h:aj 251 1 1000000000000=true:=by decide
 simp only [Zv,wk,h,if_true];simp (disch:=omega) only [mp,dE]
theorem Ka(hu:UB){b:gs}(hb:aw b)(hl:b.length<=1073741824):uS b=ac (dc b):=by
 unfold uS;rw [P3 b (0,0) u al al,Xw b b 0 0 0 hb al al al al];have:=J9 b 0 0 al al al al;unfold uR dc;simp only [Zw,wk]
 congr 1
 omega
def mu:Nat->Int->gs
 | 0,_=>[]
 | n+1,s=>mu n (s / 256)++[s % 256]
def tq:Nat->Int->Option gs
 | 0,s=>if s=1 then ac [] else cl
 | n+1,s=>if s=1 then ac [] else if s < 256 then cl else (tq n (s / 256)).map (·++[s % 256])
def cr(s:Int):gs×Bool:=if s < 1 then ([],go) else match tq 6 s with | some b=>(b,gi) | none=>([],go)
def F2:Nat->Int->Nat
 | 0,_=>0
 | k+1,t=>if 1 < t then F2 k (t / 256)+1 else 0
def yR:Nat->Int->Int
 | 0,t=>t
 | k+1,t=>if 1 < t then yR k (t / 256) else t
theorem qgb:∀ (k:Nat) (t:Int),F2 k t<=k:=by
 intro k
 induction k with
 | zero=>intro t; simp [F2]
 | succ k ih=>intro t; unfold F2; have:=ih (t / 256); split <;> omega
theorem VW:∀ (k:Nat) (t:Int),yR k t=t / 256 ^ F2 k t:=by
 intro k
 induction k with
 | zero=>intro t; simp [yR,F2]
 | succ k ih =>
  intro t;unfold yR F2
  split
  ·rw [ih,zZG al,zYH,zVG]
  ·simp
theorem Rb:∀ (k:Nat) (t:Int),0<=t->tq k t=if yR k t=1 then ac (mu (F2 k t) t) else none:=by
 intro k
 induction k with
 | zero=>intro t h; simp [tq,yR,F2,mu]
 | succ k ih =>
  intro t h;unfold tq yR F2
  by_cases h1:t=1
  ·subst h1; simp [mu]
  ·rw [if_neg h1]
   by_cases h2:1 < t
   ·simp only [if_pos h2]
    by_cases h3:t < 256
    ·have:t / 256=0:=Int.ediv_eq_zero_of_lt h h3;rw [if_pos h3,this];have:yR k 0=0:=by rw [VW]; simp
     rw [this]; simp
    ·rw [if_neg h3,ih _ al]
     split <;> simp [mu]
   ·have:t=0:=by omega
    subst this; simp
theorem qgc:∀ (k:Nat) (t:Int),0<=t->t / 256 ^ k<=yR k t:=by
 intro k
 induction k with
 | zero=>intro t h; simp [yR]
 | succ k ih =>
  intro t h;unfold yR
  split
  ·have:=ih (t / 256) al;rwa [zZG al,zVG,<- zYH] at this
  ·exact Int.ediv_le_self _ h
theorem Zx:∀ (n:Nat) (s:Int),aw (mu n s):=by
 intro n
 induction n with
 | zero=>intro s x hx; simp [mu] at hx
 | succ n ih =>
  intro s x hx;simp only [mu,zWv,zQq] at hx;rcases hx with h | h
  ·exact ih _ x h
  ·omega
theorem Xx:∀ (n:Nat) (s:Int),(mu n s).length=n:=by
 intro n
 induction n with
 | zero=>intro s; rfl
 | succ n ih=>intro s; simp [mu,ih]
theorem D8{s:Int}{b:gs}(h:cr s=(b,gi)):1<=s/\s / 256 ^ b.length=1/\b=mu b.length s/\b.length<=6:=by
 unfold cr at h
 split at h
 ·cases h
 ·rename_i h1;rw [Rb 6 s al] at h;have he:=VW 6 s;have hn:=qgb 6 s
  by_cases h2:yR 6 s=1
  ·simp only [h2,if_true,Prod.mk.injEq,and_true] at h;subst h;rw [Xx];exact ⟨by omega,by rw [<- he]; exact h2,rfl,hn⟩
  ·simp [h2] at h
theorem Cc(s:Int):aw (cr s).1/\(cr s).1.length<=6:=by
 match h:cr s with
 | (b,gi) =>
  have h:=D8 h;exact ⟨by rw [h.2.2.1]; exact Zx _ _,h.2.2.2⟩
 | (b,go) =>
  have:b=[]:=by
   unfold cr at h
   split at h
   ·simp at h; exact h.symm ▸ rfl
   ·split at h <;> simp at h; exact h.symm ▸ rfl
  subst this;exact ⟨by simp [aw],by simp⟩
theorem qhM(a:Int)(h:0<=a):ld .u8 (iK .i64 a 255)=a % 256:=by
 have:iK .i64 a 255=a % 256:=by
  unfold iK;have e:(lg (IntKind.bits .i64) a &&& lg (IntKind.bits .i64) 255).toNat=(a % 256).toNat:=by
   change (lg 64 a &&& lg 64 255).toNat=(a % 256).toNat
   rw [BitVec.toNat_and,Sl,Sl,show ((255:Int) % ((2 ^ 64:Nat):Int)).toNat=2 ^ 8 - 1 by decide,zZg];omega
  rw [e];exact (wrap_i64 al al).trans al
 rw [this,FN]; omega
theorem MO :∀ (k n:Nat) (s:Int) (acc:gs),n < k->1<=s->s < 256 ^ n*2->acc.length+n<=1000 ->
  pj k s acc=ac (match tq n s with | some b=>(b++acc,gi) | none=>([],go)):=by
 intro k
 induction k with
 | zero=>intro n s acc h; omega
 | succ k ih =>
  intro n s acc hk h1 h2 h3;unfold pj
  by_cases h4:s=1
  ·subst h4
   cases n <;> simp [tq,CQ]
  ·have h5:s > 1:=by omega
   cases n with
   | zero=>simp at h2; omega
   | succ n =>
    simp only [h5,decide_true,cond_true,tq,if_neg h4]
    by_cases h6:s < 256
    ·simp [h6]
    ·have hw:([ld .u8 (iK .i64 s 255)])=[s % 256]:=by rw [qhM _ al]
     simp only [h6,decide_false,cond_false,if_false,qjx,hw];rw [bp f6];simp only [wk];rw [ih n (s / 256) _ al al (by rw [zYH] at h2; omega) f6]
     cases tq n (s / 256) <;> simp
theorem Sk{s:Int}(h:562949953421311 < s):cr s=([],go):=by
 unfold cr;rw [if_neg al,Rb 6 s al];have:=qgc 6 s al;have e:(256:Int) ^ 6=281474976710656:=by decide
 rw [e] at this;rw [if_neg al]
theorem Dd(hu:UB)(s:Int):sB s=ac (cr s):=by
 unfold sB;simp only [bJ,wk]
 cases h:aj s 1 562949953421311 with
 | false =>
  rcases qba h with h | h
  ·simp [cr,h]
  ·rw [Sk h]; simp
 | true =>
  have h:=bC h;have e:(256:Int) ^ 6=281474976710656:=by decide
  simp only [zQY,cond_false];rw [MO u 6 s [] al al (by rw [e]; omega) ig];unfold cr;rw [if_neg al]
  cases tq 6 s <;> simp
theorem qcO(s:Int)(j:Nat)(h:j<=8):ng .i64 s (8*(j:Int))=s / 256 ^ j:=by
 have:=Zg .i64 s (8*j) (by simp [IntKind.bits]; omega);rw [show ((8*j:Nat):Int)=8*(j:Int) by simp] at this;rw [this,show (256:Int)=2 ^ 8 by decide,<- Int.pow_mul]
theorem qeT{α ρ:Type}{fin:List α->Option ρ}{body:Nat->List α->(List α->Option ρ)->Option ρ}(f:Nat->α)(n:Nat)(hb:∀ i s k,i < n->s.length=n->body i s k=k (s.set i (f i))) :
  ∀ (m i:Nat) (s:List α),i+m=n->s.length=n->s.take i=(zXY i).map f->rr fin body m i s=fin ((zXY n).map f):=by
 intro m
 induction m with
 | zero =>
  intro i s h1 h2 h3;simp only [rr]
  congr 1
  rw [zWj al] at h3;rw [h3,show i=n by omega]
 | succ m ih =>
  intro i s h1 h2 h3;simp only [rr];rw [hb i s _ al h2];refine ih (i+1) _ al (by simp [h2]) ?_;rw [zVh,List.take_set_of_le (zWK i),h3,zZW al,List.range_succ,zYk];rfl
theorem Zy:∀ (n:Nat) (s:Int),mu n s=(zXY n).map λi=>s / 256 ^ (n - 1 - i) % 256:=by
 intro n
 induction n with
 | zero=>intro s; rfl
 | succ n ih =>
  intro s;rw [mu,ih,List.range_succ,zYk]
  congr 1
  ·apply zXJ
   intro i hi;have hi:i < n:=by simpa using hi
   rw [zZG al,zVG,<- zYH,show (n - 1 - i).succ=n+1 - 1 - i by omega]
  ·simp
theorem MP(hu:UB)(s:Int)(n:Nat)(hn:n<=6):s7 s (n:Int)=ac (if 1<=s/\s / 256 ^ n=1 then (mu n s,gi) else ([],go)):=by
 unfold s7
 by_cases h1:s < 1
 ·have:¬ (1<=s):=by omega
  simp [h1,this,pp]
 ·rw [mp al al,qcO _ _ al,bp al]
  by_cases h2:s / 256 ^ n=1
  ·have h3:(1:Int)<=s:=by omega
   simp only [h1,decide_false,cond_false,wk,h2,h3,true_and,if_true];unfold pp;rw [show ((1:Int) != 1)=go by decide];simp only [cond_false,beq_self_eq_true,Bool.or_true,zXH,r0];rw [bp al,bp al];simp only [wk];rw [NG s n _ u f6 f6];simp only [zYz,r0];rw [qeT (λi=>s / 256 ^ (n - 1 - i) % 256) n _ n 0 _ al ig ig,<- Zy]
   ·rfl
   ·intro i t k hi ht;unfold Fv;have e:ew .i64 (ew .i64 (n:Int) 1) (i:Int)=((n - 1 - i:Nat):Int):=by
     rw [db (a:=(n:Int)) al al,db al al]; omega
    rw [e,mp al al,qcO _ _ al,bp al,FN,cj,sX al];simp
  ·have:(s / 256 ^ n != 1)=true:=by simpa using h2
   simp only [h1,decide_false,cond_false,wk,this];simp [pp,h2]
theorem MQ(hu:UB)(s:Int):∀ (m n k:Nat),n+m=6->m < k->jv k s (n:Int)=s7 s ((n+F2 m (s / 256 ^ n):Nat):Int):=by
 intro m
 induction m with
 | zero =>
  intro n k h1 h2;obtain ⟨k,rfl⟩:∃ j,k=j+1:=⟨k - 1,by omega⟩;unfold jv;have:¬ ((n:Int) < 6):=by omega
  simp [this,s8,F2]
 | succ m ih =>
  intro n k h1 h2;obtain ⟨k,rfl⟩:∃ j,k=j+1:=⟨k - 1,by omega⟩;unfold jv;have h3:(n:Int) < 6:=by omega
  rw [mp al al,qcO _ _ al,bp al];simp only [h3,decide_true,cond_true,wk,s8,F2]
  by_cases h4:s / 256 ^ n > 1
  ·have h4':1 < s / 256 ^ n:=h4;simp only [h4,decide_true,cond_true,h4',if_true];rw [fa al,ih (n+1) k al al,zYH,<- zZG (Int.le_of_lt (Int.pow_pos al))]
   congr 1
   omega
  ·have h4':¬ 1 < s / 256 ^ n:=h4;simp only [h4,decide_false,cond_false,h4',if_false];simp
theorem TE(hu:UB)(s:Int):vX s=ac (cr s):=by
 unfold vX;have:=MQ hu s 6 0 u al al;simp only [zVq,Int.pow_zero,Int.ediv_one,zWY] at this;rw [this,MP hu s _ (qgb 6 s)];unfold cr
 by_cases h:s < 1
 ·have:¬ (1<=s):=by omega
  simp [h,this]
 ·rw [if_neg h,Rb 6 s al,VW];have:1<=s:=by omega
  by_cases h2:s / 256 ^ F2 6 s=1 <;> simp [h2,this]
def jV:gs->Int->Int
 | [],s=>s
 | c :: b,s=>jV b (256*s+c)
def eo(b:gs):dR:=if 6 < b.length then ⟨0,0⟩ else ⟨dc b,jV b 1⟩
theorem qbb(a b:gs):∀ s,jV (a++b) s=jV b (jV a s):=by
 induction a with
 | nil=>intro s; rfl
 | cons c a ih=>intro s; exact ih _
theorem qbc:∀ (n:Nat) (s:Int),s / 256 ^ n=1->jV (mu n s) 1=s:=by
 intro n
 induction n with
 | zero=>intro s h; simpa [mu,jV] using h.symm
 | succ n ih =>
  intro s h;rw [mu,qbb,ih]
  ·simp only [jV]; omega
  ·rw [zZG al,zVG,<- zYH]; exact h
theorem GD{s:Int}{b:gs}(h:cr s=(b,gi)):eo b=⟨dc b,s⟩:=by
 have ⟨h1,h2,h3,h4⟩:=D8 h;unfold eo;have:=qbc b.length s h2;rw [<- h3] at this;rw [if_neg al,this]
theorem VX:∀ (b:gs) (s:Int) (n:Nat),aw b->0<=s->s < 256 ^ n*2->0<=jV b s/\jV b s < 256 ^ (n+b.length)*2:=by
 intro b
 induction b with
 | nil=>intro s n _ h1 h2; exact ⟨h1,h2⟩
 | cons c b ih =>
  intro s n hb h1 h2;have hc:=hb c ig;have:=ih (256*s+c) (n+1) (λz hz=>hb z W8) al qhd;simp only [zQw,jV];rwa [show n+(b.length+1)=n+1+b.length by omega]
theorem Zz :∀ (p b:gs) (i:Nat) (s:Int) (n:Nat),aw b->0<=s->s < 256 ^ n*2->n+b.length<=6 ->
  bT (IE p) (CP p) b i s=xr p (jV b s):=by
 intro p b
 induction b with
 | nil=>intros; rfl
 | cons c b ih =>
  intro i s n hb h1 h2 h3;have hc:=hb c ig;simp only [zQw] at h3;have hp:(256:Int) ^ n<=1099511627776:=by
   rcases (show n=0\/n=1\/n=2\/n=3\/n=4\/n=5 by omega) with rfl | rfl | rfl | rfl | rfl | rfl <;> decide
  simp only [bT,CP];rw [wrap_i64 al al,mp al al,dE al al];exact ih (i+1) _ (n+1) (λz hz=>hb z W8) al qhd al
theorem qr(hu:UB){b:gs}(hb:aw b)(hl:b.length<=1073741824):jB b=ac (eo b):=by
 unfold jB eo
 by_cases h:6 < b.length
 ·have:(b.length:Int) > 6:=by omega
  simp [h,this]
 ·have:¬ ((b.length:Int) > 6):=by omega
  simp only [this,decide_false,cond_false,h,if_false];rw [SH b 1 u al al,Zz b b 0 1 0 hb al BL al];unfold xr;rw [A8 hu hb hl];rfl
def rE(size len:Int)(i:Nat)(s:dR):Bool:=(cr s.fS).2 && ((cr s.fS).1.length == (cu size len i).2) && (dc (cr s.fS).1 == s.fW)
def jM(size len:Int):List dR->Nat->Bool
 | [],_=>gi
 | s :: l,i=>rE size len i s && jM size len l (i+1)
def cG(m:af):Bool :=
 if m.aR=0 then m.au == 0 && m.aT == 0 && m.aI.length == 0
 else aj m.aR 1 1000000 && cF m.au m.aT && ((m.aI.length:Int) == bu m.au m.aT) && jM m.au m.aT m.aI 0
theorem Ik(a b:Int):(a != b)=!(a == b):=rfl
theorem ZA(hu:UB)(m:af):∀ (l:List dR) (i:Nat),bT (IH m) (CX m) l i ()=ac (jM m.au m.aT l i):=by
 intro l
 induction l with
 | nil=>intro i; rfl
 | cons s l ih =>
  intro i;have hb:=Cc s.fS;simp only [bT,CX,TE hu,rD,wk,jM,rE,nC,ih,Ka hu hb.1 (show _<=_ by omega),Ik]
  cases (cr s.fS).2 <;> cases (((cr s.fS).1.length:Int) == (cu m.au m.aT ↑i).2) <;> cases (dc (cr s.fS).1 == s.fW) <;> simp
theorem ZB(hu:UB)(m:af):∀ (l:List dR) (i:Nat),l=m.aI.drop i->bT (IF m) (CR m) l i ()=ac (jM m.au m.aT l i):=by
 intro l
 induction l with
 | nil=>intro i _; rfl
 | cons s l ih =>
  intro i hd;have hb:=Cc s.fS;have hx:m.aI[i]?=ac s:=by
   have:=congrArg zZq hd
   simpa [zXh] using this.symm
  have hl:l=m.aI.drop (i+1):=by
   have:=congrArg zZz hd
   simpa [zYK] using this
  simp only [bT,CR,Dd hu,mt,wk,jM,rE,nB,ih (i+1) hl,qr hu hb.1 (show _<=_ by omega),Ik,cj,hx]
  cases h:(cr s.fS).2 with
  | false=>simp
  | true =>
   have h2:=GD (s:=s.fS) (b:=(cr s.fS).1) (by rw [<- h]);rw [h2];have h3:(([dc (cr s.fS).1,s.fS]:gs) == [s.fW,s.fS])=(dc (cr s.fS).1 == s.fW):=by simp
   simp only [h3]
   cases (((cr s.fS).1.length:Int) == (cu m.au m.aT ↑i).2) <;> cases (dc (cr s.fS).1 == s.fW) <;> simp
theorem Cd(hu:UB)(m:af)(hl:m.aI.length<=1073741824):uT m=ac (cG m):=by
 unfold uT cG l7 xz;simp only [c9,rC,Fa,wk,Ik,SL m () u al al,ZA hu];have e0:(((m.aI.length:Int)) == 0)=(m.aI.length == 0):=by rw [zXg]; simp
 by_cases h:m.aR=0
 ·have:aj m.aR 1 1000000=false:=by rw [h]; rfl
  simp only [h,if_true,beq_self_eq_true,cond_true,e0] at this ⊢
  cases (m.au == 0) <;> cases (m.aT == 0) <;> cases (m.aI.length == 0) <;> simp [this]
 ·have:(m.aR == 0)=false:=by simpa using h
  simp only [h,if_false,this,cond_false,wk]
  cases aj m.aR 1 1000000 <;> cases cF m.au m.aT <;> cases ((m.aI.length:Int) == bu m.au m.aT) <;> simp
theorem jn(hu:UB)(m:af)(hl:m.aI.length<=1073741824):kj m=ac (cG m):=by
 unfold kj cG xu;simp only [bJ,ms,jm,wk,Ik,SI m () u al al,ZB hu m m.aI 0 ig];have e0:(((m.aI.length:Int)) == 0)=(m.aI.length == 0):=by rw [zXg]; simp
 by_cases h:m.aR=0
 ·simp only [h,if_true,beq_self_eq_true,cond_true,e0]
  cases (m.au == 0) <;> cases (m.aT == 0) <;> cases (m.aI.length == 0) <;> simp
 ·have:(m.aR == 0)=false:=by simpa using h
  simp only [h,if_false,this,cond_false,wk]
  cases aj m.aR 1 1000000 <;> cases cF m.au m.aT <;> cases ((m.aI.length:Int) == bu m.au m.aT) <;> simp
def dn:Nat->Int->gs
 | 0,n=>[n % 256]
 | k+1,n=>if n<=127 then [n % 256] else (n % 128+128) :: dn k (n / 128)
def aY(b:gs)(n:Int):gs:=if aj n 0 1000000000000 then b++dn 9 n else b
theorem qjG:∀ a:Nat,a < 256->(a ||| 128)=a % 128+128:=by decide +kernel
theorem ZC(a:Int):iK .i64 a 127=a % 128:=by
 unfold iK;have e:(lg (IntKind.bits .i64) a &&& lg (IntKind.bits .i64) 127).toNat=(a % 128).toNat:=by
  change (lg 64 a &&& lg 64 127).toNat=(a % 128).toNat
  rw [BitVec.toNat_and,Sl,Sl,show ((127:Int) % ((2 ^ 64:Nat):Int)).toNat=2 ^ 7 - 1 by decide,zZg];omega
 rw [e];exact (wrap_i64 al al).trans al
theorem qdY(a:Int)(h1:0<=a)(h2:a < 256):DM .i64 a 128=a % 128+128:=by
 unfold DM;have e:(lg (IntKind.bits .i64) a ||| lg (IntKind.bits .i64) 128).toNat=(a % 128+128).toNat:=by
  change (lg 64 a ||| lg 64 128).toNat=_
  rw [BitVec.toNat_or,Sl,Sl,show ((128:Int) % ((2 ^ 64:Nat):Int)).toNat=128 by decide,show (a % ((2 ^ 64:Nat):Int)).toNat=a.toNat by omega,qjG _ al];omega
 rw [e];exact (wrap_i64 al al).trans al
theorem MR:∀ (k:Nat) (n:Int),(dn k n).length<=k+1:=by
 intro k
 induction k with
 | zero=>intro n; simp [dn]
 | succ k ih =>
  intro n;unfold dn;have:=ih (n / 128)
  split <;> simp <;> omega
theorem Yt:∀ (k:Nat) (n:Int),aw (dn k n):=by
 intro k
 induction k with
 | zero=>intro n x hx; simp [dn] at hx; omega
 | succ k ih =>
  intro n x hx;unfold dn at hx
  split at hx
  ·simp at hx; omega
  ·rcases Ir.1 hx with h | h
   ·omega
   ·exact ih _ x h
theorem F3{a b:gs}(h:aw a)(k:aw b):aw (a++b):=by
 intro x hx;rcases sa.1 hx with g | g
 ·exact h x g
 ·exact k x g
theorem Lt :∀ (j k:Nat) (n:Int) (b:gs),n < 128 ^ (j+1)->j < k->b.length+j<=1099511627776->lu k b n=ac (b++dn j n):=by
 intro j
 induction j with
 | zero =>
  intro k n b h1 h2 h3;obtain ⟨k,rfl⟩:∃ i,k=i+1:=⟨k - 1,by omega⟩;unfold lu;have:¬ (n > 127):=by simp at h1; omega
  simp only [this,decide_false,cond_false,v9,dn,FN];rw [bp f6]; rfl
 | succ j ih =>
  intro k n b h1 h2 h3;obtain ⟨k,rfl⟩:∃ i,k=i+1:=⟨k - 1,by omega⟩;unfold lu
  by_cases h:n > 127
  ·have h':¬ n<=127:=by omega
   simp only [h,decide_true,cond_true,dn,h',if_false,FN,qiz,ZC];rw [bp f6,qdY _ al al];simp only [wk];rw [ih k (n / 128) _ (by rw [zYH] at h1; omega) al f6,show (n % 128 % 128+128) % 256=n % 128+128 by omega];simp
  ·have h':n<=127:=by omega
   simp only [h,decide_false,cond_false,dn,h',if_true,v9,FN];rw [bp f6]; rfl
theorem O6 :∀ (j k:Nat) (n:Int) (b:gs),n < 128 ^ (j+1)->j < k->b.length+j<=1099511627776->oh k n b=ac (b++dn j n):=by
 intro j
 induction j with
 | zero =>
  intro k n b h1 h2 h3;obtain ⟨k,rfl⟩:∃ i,k=i+1:=⟨k - 1,by omega⟩;unfold oh;have:¬ (n > 127):=by simp at h1; omega
  simp only [this,decide_false,cond_false,Aj,dn,FN];rw [bp f6]; rfl
 | succ j ih =>
  intro k n b h1 h2 h3;obtain ⟨k,rfl⟩:∃ i,k=i+1:=⟨k - 1,by omega⟩;unfold oh
  by_cases h:n > 127
  ·have h':¬ n<=127:=by omega
   simp only [h,decide_true,cond_true,dn,h',if_false,FN,qiz,ZC];rw [bp f6,qdY _ al al];simp only [wk];rw [ih k (n / 128) _ (by rw [zYH] at h1; omega) al f6,show (n % 128 % 128+128) % 256=n % 128+128 by omega];simp
  ·have h':n<=127:=by omega
   simp only [h,decide_false,cond_false,dn,h',if_true,Aj,FN];rw [bp f6]; rfl
theorem qjH:(128:Int) ^ (9+1)=1180591620717411303424:=by decide
theorem Rc(hu:UB){b:gs}{n:Int}(hl:b.length<=1073741824)(hn:n<=9223372036854775807):xC b n=ac (b++dn 9 n) :=
 Lt 9 u n b (by rw [qjH]; omega) al al
theorem kH{b:gs}(hl:b.length<=1073741824):fZ b=ac b:=by
 unfold fZ;rw [bp f6,bp f6];simp [dW]
theorem fG(hu:UB){b:gs}{n:Int}(hl:b.length<=1073741824):f5 b n=ac (aY b n):=by
 unfold f5 aY;rw [bp f6];simp only [bJ,wk,zQj]
 cases h:aj n 0 1000000000000 with
 | false=>simp
 | true=>have:=bC h; simp [O6 9 u n b (by rw [qjH]; omega) al al]
theorem ci(b:gs)(n:Int):(aY b n).length<=b.length+10:=by
 unfold aY;have:=MR 9 n
 split <;> simp <;> omega
def mO(b:gs):List dR->gs
 | []=>b
 | s :: l=>mO (b++dn 9 s.fS) l
def vI(b:gs)(m:af):gs:=if cG m then mO (aY (aY (aY b m.aR) m.au) m.aT) m.aI else b
def wL(m:af):Prop:=∀ s∈m.aI,s.fS<=9223372036854775807
theorem BX{m:af}(h:cG m=gi):m.aI.length<=40:=by
 unfold cG at h
 split at h
 ·simp only [sk,beq_iff_eq] at h;have:=h.2;omega
 ·have:=blocks_range m.au m.aT;simp only [sk,beq_iff_eq] at h;omega
theorem Xy(hu:UB)(m:af):∀ (l:List dR) (i:Nat) (b:gs),(∀ s∈l,s.fS<=9223372036854775807)->b.length+10*l.length<=1073741824 ->
  bT (GT m) (By m) l i b=ac (mO b l):=by
 intro l
 induction l with
 | nil=>intros; rfl
 | cons s l ih =>
  intro i b h1 h2;simp only [zQw] at h2;have h3:=MR 9 s.fS;simp only [bT,By,Rc hu (show b.length<=1073741824 by omega) (h1 s ig),wk,mO];exact ih (i+1) _ (λz hz=>h1 z W8) f6
theorem VY(hu:UB){b:gs}{m:af}(hl:b.length<=536870912)(hm:m.aI.length<=1073741824)(hw:wL m):Cl b m=ac (vI b m):=by
 unfold Cl vI;have h1:=ci b m.aR;have h2:=ci (aY b m.aR) m.au;have h3:=ci (aY (aY b m.aR) m.au) m.aT;rw [bp f6,jn hu m hm];simp only [zQj,wk]
 cases h:cG m with
 | false=>simp
 | true =>
  have h4:=BX h;simp only [wk,zQY,cond_false,if_true];rw [fG hu al]; simp only [wk];rw [fG hu al]; simp only [wk];rw [fG hu al]; simp only [wk];rw [P8 m _ u al al,Xy hu m _ _ _ hw al]
theorem t9{a:Int}(h1:0<=a)(h2:a < 18446744073709551616):(lg 64 a).toNat=a.toNat:=by
 rw [Sl]; omega
theorem F4{a b:Nat}(h1:a < 9223372036854775808)(h2:b < 9223372036854775808):DM .i64 (a:Int) (b:Int)=((a ||| b:Nat):Int):=by
 unfold DM;have e:(lg (IntKind.bits .i64) (a:Int) ||| lg (IntKind.bits .i64) (b:Int)).toNat=a ||| b:=by
  change (lg 64 (a:Int) ||| lg 64 (b:Int)).toNat=_
  rw [BitVec.toNat_or,t9 al al,t9 al al]; rfl
 rw [e];have:a ||| b < 2 ^ 63:=zZk al al
 exact wrap_i64 al al
theorem qbd{a b:Nat}(h1:a < 9223372036854775808)(h2:b < 9223372036854775808):iK .i64 (a:Int) (b:Int)=((a &&& b:Nat):Int):=by
 unfold iK;have e:(lg (IntKind.bits .i64) (a:Int) &&& lg (IntKind.bits .i64) (b:Int)).toNat=a &&& b:=by
  change (lg 64 (a:Int) &&& lg 64 (b:Int)).toNat=_
  rw [BitVec.toNat_and,t9 al al,t9 al al]; rfl
 rw [e];have:a &&& b<=a:=Nat.and_le_left;exact wrap_i64 al al
theorem Hy{i:Nat}(h:i<=62):mm .i64 1 (i:Int)=((2 ^ i:Nat):Int):=by
 unfold mm;rw [show min (sY (i:Int)) (IntKind.bits .i64)=i by simp [IntKind.bits]; omega];have h1:(2:Nat) ^ i<=2 ^ 62:=zWZ al h;have h2:(1:Int)*2 ^ i=((2 ^ i:Nat):Int):=by simp
 rw [h2];generalize (2:Nat) ^ i=p at h1;exact wrap_i64 al al
theorem qbe{a i:Nat}(h:i<=64):ng .i64 (a:Int) (i:Int)=((a / 2 ^ i:Nat):Int):=by
 rw [Zg .i64 _ i h]; simp
def A9:Nat->(Nat->Bool)->Nat
 | 0,_=>0
 | n+1,f=>A9 n f ||| (if f n then 2 ^ n else 0)
theorem GE(f:Nat->Bool):∀ (n i:Nat),(A9 n f).testBit i=(decide (i < n) && f i):=by
 intro n
 induction n with
 | zero=>intro i; simp [A9]
 | succ n ih =>
  intro i;rw [A9,Nat.testBit_or,ih]
  by_cases h:i=n
  ·subst h
   cases f i <;> simp [Nat.testBit_two_pow_self]
  ·have h1:(if f n=gi then 2 ^ n else 0).testBit i=false:=by
    split
    ·exact Nat.testBit_two_pow_of_ne (Ne.symm h)
    ·simp
   rw [h1,Bool.or_false]
   congr 1
   rw [decide_eq_decide]; omega
theorem qgd(f:Nat->Bool)(n:Nat):A9 n f < 2 ^ n:=by
 induction n with
 | zero=>simp [A9]
 | succ n ih =>
  rw [A9];refine zZk (by rw [Nat.pow_succ]; omega) ?_;have:=Nat.pow_lt_pow_right (a:=2) al (Nat.lt_succ_self n)
  split <;> omega
theorem Sm{a b n:Nat}(hn:n<=62)(h1:a < 2 ^ n)(h2:b < 2 ^ n):yN .i64 (a:Int) (b:Int)=((A9 n (λi=>a.testBit i && !b.testBit i):Nat):Int):=by
 have hp:(2:Nat) ^ n<=2 ^ 62:=zWZ al hn;unfold yN;have e:(lg (IntKind.bits .i64) (a:Int) &&& ~~~ lg (IntKind.bits .i64) (b:Int)).toNat=A9 n (λi=>a.testBit i && !b.testBit i):=by
  change (lg 64 (a:Int) &&& ~~~ lg 64 (b:Int)).toNat=_
  apply Nat.eq_of_testBit_eq
  intro i;rw [GE,BitVec.toNat_and,Nat.testBit_and,t9 al al,BitVec.testBit_toNat,BitVec.getLsbD_not];have hb:(lg 64 (b:Int)).getLsbD i=b.testBit i:=by rw [<- BitVec.testBit_toNat,t9 al al]; rfl
  rw [hb];have ha:((a:Int).toNat).testBit i=a.testBit i:=by simp
  rw [ha]
  by_cases hi:i < n
  ·have:i < 64:=by omega
   simp [hi,this]
  ·have:a < 2 ^ i:=zWW h1 (zWZ al al);simp [hi,Nat.testBit_lt_two_pow this]
 rw [e];have:=qgd (λi=>a.testBit i && !b.testBit i) n;exact wrap_i64 al al
def bB(s:Int):Bool:=aj s 0 1099511627775
def fu(i:Int):Bool:=aj i 0 39
def dL(s i:Int):Bool:=bB s && fu i && s.toNat.testBit i.toNat
theorem Ce(s:Int):kw s=ac (bB s):=by simp [kw,c9,bB]
theorem jp(s:Int):dh s=ac (bB s):=by simp [dh,bJ,bB]
theorem TF(s:Int):AB s=ac (fu s):=by simp [AB,c9,fu]
theorem qge{s i:Int}(hs:bB s=gi)(hi:fu i=gi):(iK .i64 (ng .i64 s i) 1 == 1)=s.toNat.testBit i.toNat:=by
 have h1:=bC hs;have h2:=bC hi;obtain ⟨a,rfl⟩:=zQK h1.1;obtain ⟨n,rfl⟩:=zQK h2.1;rw [qbe al];have h3:a / 2 ^ n<=a:=Nat.div_le_self a _;rw [show (1:Int)=((1:Nat):Int) by rfl,qbd al al,Nat.and_one_is_mod];simp only [r0,Nat.testBit_eq_decide_div_mod_eq];generalize a / 2 ^ n=z;rw [zXg,beq_iff_eq,decide_eq_true_eq]; omega
theorem Xz(s i:Int):qn s i=ac (dL s i):=by
 unfold qn dL;simp only [Ce,TF,wk]
 cases h1:bB s with
 | false=>simp
 | true =>
  cases h2:fu i with
  | false=>simp
  | true =>
   have h3:=bC h2;rw [bp al];simp [qge h1 h2]
theorem nO(s i:Int):gH s i=ac (dL s i):=by
 unfold gH dL;simp only [jp,bJ,wk]
 cases h1:bB s with
 | false=>simp
 | true =>
  change ((bif gi then (bif fu i then _ else _) else _):Option Bool)=_
  cases h2:fu i with
  | false=>simp
  | true =>
   have h3:=bC h2;simp only [cond_true];rw [bp al];simp [qge h1 h2]
def pG(s:Int):gs:=if bB s then ((zXY 40).filter λi=>s.toNat.testBit i).map Int.ofNat else []
theorem qbf{α ρ:Type}{fin:List α->Option ρ}{body:Nat->List α->(List α->Option ρ)->Option ρ}(f:Nat->Bool)(g:Nat->α)(n c:Nat)(hb:∀ i s k,i < n->s.length<=c+i->body i s k=k (if f i then s++[g i] else s)) :
  ∀ (m i:Nat) (s:List α),i+m=n->s.length<=c+i->rr fin body m i s=fin (s++(((zXW i m).filter f).map g)):=by
 intro m
 induction m with
 | zero=>intro i s h1 h2; simp [rr]
 | succ m ih =>
  intro i s h1 h2;simp only [rr];rw [hb i s _ al h2]
  cases hf:f i with
  | true =>
   simp only [if_true];rw [ih (i+1) _ al f6,zYj,List.filter_cons,hf];simp
  | false =>
   simp only [zWQ,if_false];rw [ih (i+1) _ al al,zYj,List.filter_cons,hf];simp
theorem TG(hu:UB)(s:Int):As s=ac (pG s):=by
 unfold As;rw [NR s [] u al al,qbf (λi=>dL s i) (λi=>(i:Int)) 40 0 _ (sY 40) 0 [] BL ig]
 ·unfold FB yB pG;rw [show sY 40=40 by rfl,<- zYX]
  cases h:bB s with
  | false=>simp [dL,h]
  | true =>
   simp only [zQj,if_true]
   congr 2
   apply List.filter_congr
   intro i hi;have hi:i < 40:=by simpa using hi
   have:fu (i:Int)=true:=by simp [fu,aj]; omega
   simp [dL,h,this]
 ·intro i t k hi ht;unfold FC;rw [nO];simp only [wk]
  cases dL s i with
  | false=>simp [mZ]
  | true =>
   simp only [cond_true,if_true];rw [bp f6];simp [mZ]
theorem qgf{s c:Int}(h1:0<=s)(h2:s < 36028797018963968)(h3:0<=c)(h4:c<=255):DM .i64 (mm .i64 s 8) c=256*s+c:=by
 obtain ⟨a,rfl⟩:=zQK h1;obtain ⟨b,rfl⟩:=zQK h3;have e:mm .i64 (a:Int) 8=((a*256:Nat):Int):=by
  unfold mm;rw [show min (sY (8:Int)) (IntKind.bits .i64)=8 by rfl];rw [wrap_i64 al al]; omega
 rw [e,F4 al al];have h5:=Nat.shiftLeft_add_eq_or_of_lt (b:=b) (i:=8) al a;rw [Nat.shiftLeft_eq,show (2:Nat) ^ 8=256 from rfl] at h5;rw [<- h5]; omega
theorem ZD :∀ (p b:gs) (i:Nat) (s:Int) (n:Nat),aw b->0<=s->s < 256 ^ n*2->n+b.length<=6 ->
  bT (IG p) (CU p) b i s=xy p (jV b s):=by
 intro p b
 induction b with
 | nil=>intros; rfl
 | cons c b ih =>
  intro i s n hb h1 h2 h3;have hc:=hb c ig;simp only [zQw] at h3;have hp:(256:Int) ^ n<=1099511627776:=by
   rcases (show n=0\/n=1\/n=2\/n=3\/n=4\/n=5 by omega) with rfl | rfl | rfl | rfl | rfl | rfl <;> decide
  simp only [bT,CU];rw [wrap_i64 al al,qgf al al al al];exact ih (i+1) _ (n+1) (λz hz=>hb z W8) al qhd al
theorem GF(hu:UB){b:gs}(hb:aw b)(hl:b.length<=1073741824):qf b=ac (eo b):=by
 unfold qf eo
 by_cases h:6 < b.length
 ·have:(b.length:Int) > 6:=by omega
  simp [h,this]
 ·have:¬ ((b.length:Int) > 6):=by omega
  simp only [this,decide_false,cond_false,h,if_false];rw [SK b 1 u al al,ZD b b 0 1 0 hb al BL al];unfold xy;rw [Ka hu hb hl];rfl
def M.win(b:gs)(i n:Nat):gs:=(b.take (i+n)).drop i
theorem VZ(b:gs)(i n:Nat):M.win b i n=(b.drop i).take n:=by
 unfold M.win; rw [List.drop_take]; congr 1; omega
theorem i6{b:gs}(h:aw b)(i n:Nat):aw (M.win b i n):=λx hx=>h x (zWJ (zWh hx))
theorem m5{b:gs}{i n:Nat}(h:i+n<=b.length):(M.win b i n).length=n:=by
 unfold M.win; rw [zYx,zQk]; omega
theorem win_le(b:gs)(i n:Nat):(M.win b i n).length<=n:=by
 unfold M.win; rw [zYx,zQk]; omega
theorem ga{a b n:Nat}(h1:a<=b)(h2:b<=n):dW (cR (a:Int) (b:Int) (n:Int))=ac ():=by
 have:cR (a:Int) (b:Int) (n:Int)=true:=by simp [cR]; omega
 rw [this]; rfl
theorem rF{a b:Nat}(h:a+b<=9223372036854775807):aS .i64 (a:Int) (b:Int)=((a+b:Nat):Int):=by
 rw [dE al al]; omega
theorem XA{b:gs}{i n:Nat}(h:i+n<=b.length)(hl:b.length<=1073741824):Es b i n=ac (M.win b i n,gi):=by
 unfold Es B4;have h1:aj (i:Int) 0 (b.length:Int)=true:=by simp [aj]; omega
 have h2:aj (n:Int) 0 ((b.length:Int) - (i:Int))=true:=by simp [aj]; omega
 simp only [c9,h1,wk,db (a:=(b.length:Int)) (b:=(i:Int)) al al,h2,zQY,cond_false];rw [rF al,ga al h];simp only [wk,r0];rw [kH f6];rfl
def eV(b:gs)(size i:Int):gs×Bool :=
 let s:=cu size b.length i
 if s.2=0 then ([],go) else (M.win b s.1.toNat s.2.toNat,gi)
theorem sQ{size n i:Int}(hn:0<=n):0<=(cu size n i).1/\0<=(cu size n i).2/\(cu size n i).2<=6/\(cu size n i).1+(cu size n i).2<=n:=by
 unfold cu
 split
 ·rename_i h;have ⟨h1,h2,h3⟩:=Hx h;have h4:=vH h1;have h5:=(bC h).2;unfold bu at h5;rw [if_pos h1] at h5;have h6:=KV h4.1 h4.2.1 h2 h3;have h7:i*size<=n:=by
   have h8:i+1<=(n+size - 1) / size:=by omega
   have h9:(i+1)*size<=n+size - 1:=(Int.le_ediv_iff_mul_le al).1 h8;rw [zVV] at h9;omega
  dsimp only;omega
 ·dsimp only; omega
theorem yd{b:gs}(hb:aw b)(size i:Int):aw (eV b size i).1/\(eV b size i).1.length<=6:=by
 have h:=sQ (size:=size) (n:=b.length) (i:=i) al;unfold eV;dsimp only
 split
 ·exact ⟨by simp [aw],by simp⟩
 ·refine ⟨i6 hb _ _,?_⟩;have:=win_le b (cu size b.length i).1.toNat (cu size b.length i).2.toNat;dsimp only;omega
theorem TH{b:gs}(hl:b.length<=1073741824)(size i:Int):vW b size i=ac (eV b size i):=by
 have h:=sQ (size:=size) (n:=b.length) (i:=i) al;unfold vW eV;simp only [rD,wk];generalize cu size b.length i=s at h;obtain ⟨a,n⟩:=s;dsimp only at h ⊢
 by_cases h0:n=0
 ·simp [h0]
 ·have:(n == 0)=false:=by simpa using h0
  obtain ⟨x,rfl⟩:=zQK h.1;obtain ⟨y,rfl⟩:=zQK h.2.1;simp only [this,cond_false,h0,if_false];rw [XA al hl];rfl
theorem I5{b:gs}(hl:b.length<=1073741824)(size i:Int):np b size i=ac (eV b size i):=by
 have h:=sQ (size:=size) (n:=b.length) (i:=i) al;unfold np eV;simp only [mt,wk];generalize cu size b.length i=s at h;obtain ⟨a,n⟩:=s;dsimp only at h ⊢
 by_cases h0:n=0
 ·simp [h0]
 ·have:(n == 0)=false:=by simpa using h0
  obtain ⟨x,rfl⟩:=zQK h.1;obtain ⟨y,rfl⟩:=zQK h.2.1;simp only [this,cond_false,h0,if_false];rw [rF al,ga al al];simp only [wk,r0];rw [bp f6];rfl
def rG(b:gs)(size:Int):List dR:=(zXY (bu size b.length).toNat).map λ(i:Nat)=>eo (eV b size i).1
theorem Sn{α ρ:Type}{fin:List α->Option ρ}{body:Nat->List α->(List α->Option ρ)->Option ρ}(g:Nat->α)(n:Nat)(hb:∀ i s k,i < n->s.length=i->body i s k=k (s++[g i])) :
  rr fin body n 0 []=fin ((zXY n).map g):=by
 have:∀ (m i:Nat) (s:List α),i+m=n->s.length=i->rr fin body m i s=fin (s++(zXW i m).map g):=by
  intro m
  induction m with
  | zero=>intro i s h1 h2; simp [rr]
  | succ m ih =>
   intro i s h1 h2;simp only [rr];rw [hb i s _ al h2,ih (i+1) _ al (by simp [h2]),zYj];simp
 rw [this n 0 [] al rfl,<- zYX];simp
theorem Kb(hu:UB){b:gs}(hb:aw b)(hl:b.length<=1073741824)(size:Int):zB b size=ac (rG b size):=by
 unfold zB;have hr:=blocks_range size b.length;rw [Fa];simp only [wk];rw [P5 b size _ [] u al al,Sn (λi=>eo (eV b size i).1)]
 ·rfl
 ·intro i s k hi hs;unfold GR;have h:=yd hb size (i:Int);rw [TH hl];simp only [wk];rw [GF hu h.1 al];simp only [wk];rw [bp f6];rfl
theorem Kc(hu:UB){b:gs}(hb:aw b)(hl:b.length<=1073741824)(size:Int):rZ b size=ac (rG b size):=by
 unfold rZ;have hr:=blocks_range size b.length;rw [ue (n:=bu size b.length) (fin:=zU) (body:=λi (s:List dR) k=>(np b size (i:Int)).bind λr8=>(jB r8.1).bind λr9=>(dW (decide ((s.length+([r9]).length)*16<=140737488355328))).bind λ_=>k (s++[r9]))
  (λk (s:List dR) i=>lY k b size s i) al (λk s i=>by rw [lY,jm]; rfl) [] al,Sn (λi=>eo (eV b size i).1)]
 ·rfl
 ·intro i s k hi hs;have h:=yd hb size (i:Int);rw [I5 hl];simp only [wk];rw [qr hu h.1 al];simp only [wk];rw [bp f6];rfl
def dZ(gen:Int)(b:gs)(size:Int):af:=if aj gen 1 1000000 && cF size b.length then ⟨gen,size,b.length,rG b size⟩ else ⟨0,0,0,[]⟩
theorem LN(hu:UB){b:gs}(hb:aw b)(hl:b.length<=1073741824)(gen size:Int):zd gen b size=ac (dZ gen b size):=by
 unfold zd B5 dZ;simp only [c9,rC,wk,Kb hu hb hl]
 cases aj gen 1 1000000 <;> cases cF size b.length <;> simp
theorem ye(hu:UB){b:gs}(hb:aw b)(hl:b.length<=1073741824)(gen size:Int):uP gen b size=ac (dZ gen b size):=by
 unfold uP xt dZ;simp only [bJ,ms,wk,Kc hu hb hl]
 cases aj gen 1 1000000 <;> cases cF size b.length <;> simp
def MS:gs->Int
 | []=>0
 | c :: b=>c+MS b
def TI:gs->Int
 | []=>0
 | c :: b=>((b.length:Int)+1)*c+TI b
theorem qeU:∀ (b:gs) (x y:Int),wK b x y=match b with | []=>(x,y) | _=>((x+MS b) % 251,(y+b.length*x+TI b) % 251):=by
 intro b
 induction b with
 | nil=>intro x y; rfl
 | cons c b ih =>
  intro x y;simp only [wK];rw [ih]
  cases b with
  | nil=>simp [MS,TI,Int.add_assoc]
  | cons d b =>
   simp only [MS,TI,zQw];refine Prod.ext ?_ ?_
   ·dsimp only; omega
   ·dsimp only;have e:((b.length:Int)+1)*((x+c) % 251) % 251=((b.length:Int)+1)*(x+c) % 251:=by rw [Int.mul_emod,Int.emod_emod_of_dvd _ (Int.dvd_refl 251),<- Int.mul_emod]
    have e1:((b.length:Int)+1)*(x+c)=((b.length:Int)+1)*x+((b.length:Int)+1)*c:=Int.mul_add _ _ _;have e2:((b.length:Int)+1+1)*x=((b.length:Int)+1)*x+x:=by rw [zVV]; omega
    have e3:((b.length:Int)+1+1)*c=((b.length:Int)+1)*c+c:=by rw [zVV]; omega
    push_cast
    rw [e2,e3];rw [e1] at e;generalize ((b.length:Int)+1)*((x+c) % 251)=p at *;generalize ((b.length:Int)+1)*x=q at *;generalize ((b.length:Int)+1)*c=r at *;generalize ((b.length:Int)+1)*d=t at *;omega
theorem V0{b:gs}:dc b=MS b % 251+251*(TI b % 251):=by
 unfold dc;rw [qeU]
 cases b with
 | nil=>simp [MS,TI]
 | cons c b=>dsimp only; simp
theorem qi1(b:gs)(d:Int):MS (b++[d])=MS b+d:=by
 induction b with
 | nil=>simp [MS]
 | cons c b ih=>simp only [List.cons_append,MS,ih]; omega
theorem qi2(b:gs)(d:Int):TI (b++[d])=TI b+MS b+d:=by
 induction b with
 | nil=>simp [MS,TI]
 | cons c b ih =>
  simp only [List.cons_append,MS,TI,ih,zQH,zYJ]
  push_cast
  rw [zVV ((b.length:Int)+1) 1 c];omega
theorem ZE(n m:Int):Bu n m=ac (if aj m 1 1000000000000 then n % m else 0):=by
 unfold Bu;simp only [bJ,wk]
 cases h:aj m 1 1000000000000 with
 | false=>simp
 | true =>
  have h3:=bC h;have hb:(m == 0)=false:=by simp; omega
  have h4:=VU (n:=n) (m:=m) al;simp only [hb,zQY,cond_false,zZH,Hf,wk];have e1:rU .i64 n m=n.tmod m:=rfl;rw [e1,dE al al];show ac ((n.tmod m+m).tmod m)=_;rw [Ys al]; simp
theorem O7(w:Int):Ef w=ac (aj w 0 63000):=by simp [Ef,bJ]
theorem MT{w:Int}(h:aj w 0 63000=gi):s6 w=ac (w % 251,w / 251):=by
 unfold s6;have:=bC h;rw [O7,h];simp (disch:=omega) [ET,Vi]
theorem ZF{c d:Int}{m:gs}(hc:0<=c/\c<=255)(hd:0<=d/\d<=255)(hm:m.length<=5):Eg (dc (c :: m)) ((m.length:Int)+1) c d=ac (dc (m++[d])):=by
 unfold Eg vT;have h0:=O5 (c :: m);have h1:aj (dc (c :: m)) 0 63000=true:=by simp [aj]; omega
 have h2:aj ((m.length:Int)+1) 1 1000000000000=true:=by simp [aj]; omega
 have h3:aj c 0 255=true:=by simp [aj]; omega
 have h4:aj d 0 255=true:=by simp [aj]; omega
 have h5:aj 251 1 1000000000000=true:=by decide
 have h6:((m.length:Int)+1)*c<=6*255:=Int.mul_le_mul al al al al;have h7:0<=((m.length:Int)+1)*c:=Int.mul_nonneg al al;simp only [O7,bJ,h1,h2,h3,h4,wk,zQY,cond_false,MT h1,ZE,h5,if_true];rw [ET al,Int.emod_eq_of_lt (a:=(m.length:Int)+1) al al];have e:=V0 (b:=c :: m);have e2:=V0 (b:=m++[d]);rw [e2,qi1,qi2];simp only [MS,TI] at e;rw [mp (a:=(m.length:Int)+1) (b:=c) al al];generalize dc (c :: m)=w at *;generalize ((m.length:Int)+1)*c=q at *;generalize MS m=sx at *;generalize TI m=sy at *;rw [db (a:=w / 251) al al,db (a:=w % 251) al al,dE (a:=w % 251 - c) al al];rw [dE (a:=(w / 251 - q) % 251) al al];rw [mp al al,dE al al]
 congr 1
 omega
theorem qgg{b:gs}{i n:Nat}{c:Int}(hc:b[i]?=ac c):M.win b i (n+1)=c :: M.win b (i+1) n:=by
 rw [VZ,VZ];obtain ⟨h,rfl⟩:=ln.1 hc;rw [zYZ h,List.take_succ_cons]
theorem qgh{b:gs}{i n:Nat}{d:Int}(hd:b[i+n]?=ac d):M.win b i (n+1)=M.win b i n++[d]:=by
 rw [VZ,VZ,zVh]
 congr 1
 rw [zQx,hd]; rfl
def wM(b:gs)(n:Nat):gs:=if n<=b.length then (zXY (b.length+1 - n)).map λi=>dc (M.win b i n) else []
theorem MU{b:gs}(hb:aw b)(hl:b.length<=1073741824){n:Nat}(h1:1<=n)(h2:n<=6):∀ (m k j:Nat),n+j+m=b.length->m < k ->
  jt k b n ((zXY (j+1)).map λi=>dc (M.win b i n)) (dc (M.win b j n)) ((n+j:Nat):Int)=ac ((zXY (j+1+m)).map λi=>dc (M.win b i n)):=by
 intro m
 induction m with
 | zero =>
  intro k j h3 h4;obtain ⟨k,rfl⟩:∃ i,k=i+1:=⟨k - 1,by omega⟩;unfold jt;have:¬ (((n+j:Nat):Int) < (b.length:Int)):=by omega
  simp only [this,decide_false,cond_false,yo,zYV]
 | succ m ih =>
  intro k j h3 h4;obtain ⟨k,rfl⟩:∃ i,k=i+1:=⟨k - 1,by omega⟩;unfold jt;have h5:((n+j:Nat):Int) < (b.length:Int):=by omega
  have e:ew .i64 ((n+j:Nat):Int) (n:Int)=(j:Int):=by rw [db al al]; omega
  simp only [h5,decide_true,cond_true,e,cj];have hc:=sX (l:=b) (i:=j) al;have hd:=sX (l:=b) (i:=n+j) al;rw [hc,hd];simp only [wk];have hcb:=hb _ (zZY (l:=b) (n:=j) al);have hdb:=hb _ (zZY (l:=b) (n:=n+j) al);rw [wrap_i64 (n:=b[j]) al al,wrap_i64 (n:=b[n+j]) al al];obtain ⟨n,rfl⟩:∃ i,n=i+1:=⟨n - 1,by omega⟩;have e1:=qgg (n:=n) hc;have e2:M.win b (j+1) (n+1)=M.win b (j+1) n++[b[n+1+j]]:=qgh (by rw [show j+1+n=n+1+j by omega]; exact hd);have hw:(M.win b (j+1) n).length=n:=m5 al;have hroll:=ZF (c:=b[j]) (d:=b[n+1+j]) (m:=M.win b (j+1) n) hcb hdb al;rw [hw,<- e1,<- e2] at hroll;rw [show ((n+1:Nat):Int)=(n:Int)+1 by omega,hroll];simp only [wk];rw [bp f6];simp only [wk];rw [show (List.map (λi=>dc (M.win b i (n+1))) (zXY (j+1))++[dc (M.win b (j+1) (n+1))])=(zXY (j+1+1)).map λi=>dc (M.win b i (n+1)) by rw [List.range_succ (n:=j+1),zYk]; rfl];rw [fa al];have:=ih k (j+1) al al;rw [show ((n+1:Nat):Int)=(n:Int)+1 by omega] at this;rw [show n+1+j+1=n+1+(j+1) by omega,this,show j+1+1+m=j+1+(m+1) by omega]
theorem TJ(hu:UB){b:gs}(hb:aw b)(hl:b.length<=1073741824){n:Nat}(h1:1<=n)(h2:n<=6):zV b n=ac (wM b n):=by
 unfold zV yp wM;have h3:¬ ((n:Int) < 1):=by omega
 simp only [h3,decide_false,cond_false]
 by_cases h4:n<=b.length
 ·have h5:¬ ((n:Int) > (b.length:Int)):=by omega
  simp only [h5,decide_false,cond_false,h4,if_true];rw [show (0:Int)=((0:Nat):Int) by rfl,ga al h4];simp only [wk,r0];have e:List.drop 0 (List.take n b)=M.win b 0 n:=by simp [M.win]
  rw [e,A8 hu (i6 hb _ _) (by have:=win_le b 0 n; omega)];simp only [wk];rw [bp ig];have:=MU hb hl h1 h2 (b.length - n) u 0 al al;simp only [zYV,zWY] at this;rw [show (zXY 1).map (λi=>dc (M.win b i n))=[dc (M.win b 0 n)] by rfl] at this;simp only [wk,zQj];rw [this,show 1+(b.length - n)=b.length+1 - n by omega]
 ·have h5:((n:Int) > (b.length:Int)):=by omega
  simp [h5,h4]
def ia(b:gs)(s:dR)(n:Nat):Nat->Nat->Int
 | 0,_=>-1
 | c+1,i=>if eo (M.win b i n)=s then i else ia b s n c (i+1)
def ua(b:gs)(s:dR)(n:Int):Int:=if aj n 1 6 then ia b s n.toNat (b.length+1 - n.toNat) 0 else -1
theorem V1(b:gs)(s:dR)(n:Nat):∀ c i,-1<=ia b s n c i/\ia b s n c i < i+c:=by
 intro c
 induction c with
 | zero=>intro i; simp [ia]; omega
 | succ c ih =>
  intro i;unfold ia;have:=ih (i+1)
  split <;> omega
theorem Il(x y:dR):(([x.fW,x.fS]:gs) == [y.fW,y.fS])=decide (x=y):=by
 obtain ⟨a,b⟩:=x;obtain ⟨c,d⟩:=y;rw [zXg]; simp
theorem MV(hu:UB){b:gs}(hb:aw b)(hl:b.length<=1073741824)(s:dR){n:Nat}(h1:1<=n)(h2:n<=6):∀ (c k i:Nat),i+c=b.length+1 - n\/(c=0/\b.length+1 - n<=i)->i<=1073741824->c < k ->
  mX k b n i s=ac (ia b s n c i):=by
 intro c
 induction c with
 | zero =>
  intro k i h3 hi h4;obtain ⟨k,rfl⟩:∃ i,k=i+1:=⟨k - 1,by omega⟩;unfold mX;rw [rF al];have:¬ (((i+n:Nat):Int)<=(b.length:Int)):=by omega
  simp only [this,decide_false,cond_false,CY,ia]
 | succ c ih =>
  intro k i h3 hi h4;obtain ⟨k,rfl⟩:∃ i,k=i+1:=⟨k - 1,by omega⟩;unfold mX;rw [rF al];have h5:(((i+n:Nat):Int)<=(b.length:Int)):=by omega
  simp only [h5,decide_true,cond_true,r0];rw [ga al al];simp only [wk]
  change ((qf (M.win b i n)).bind _)=_
  rw [GF hu (i6 hb _ _) qiM];simp only [wk,Il,ia]
  by_cases h6:eo (M.win b i n)=s
  ·simp [h6]
  ·simp only [h6,decide_false,cond_false,if_false];rw [fa al];exact ih k (i+1) al al al
theorem TK(hu:UB){b:gs}(hb:aw b)(hl:b.length<=1073741823)(s:dR)(n:Int):Ad b s n=ac (ua b s n):=by
 unfold Ad ua;rw [c9];simp only [wk]
 cases h:aj n 1 6 with
 | false=>simp
 | true =>
  have h:=bC h;obtain ⟨n,rfl⟩:=zQK (show 0<=n by omega);simp only [zQY,cond_false,if_true,r0];exact MV hu hb al s al al (b.length+1 - n) u 0 al al al
theorem qcP{b:gs}(h:b.length<=6):(eo b).fW=dc b:=by
 unfold eo; rw [if_neg al]
theorem MW(hu:UB){b:gs}(hb:aw b)(hl:b.length<=1073741823)(s:dR){n:Nat}(h1:1<=n)(h2:n<=6):∀ (c k i:Nat),i+c=b.length+1 - n->c < k ->
  gQ k b n (wM b n) i s=ac (ia b s n c i):=by
 have hlen:(wM b n).length=b.length+1 - n:=by
  unfold wM
  split
  ·simp
  ·simp; omega
 intro c
 induction c with
 | zero =>
  intro k i h3 h4;obtain ⟨k,rfl⟩:∃ i,k=i+1:=⟨k - 1,by omega⟩;unfold gQ;have:¬ ((i:Int) < ((wM b n).length:Int)):=by omega
  simp only [this,decide_false,cond_false,yq,ia]
 | succ c ih =>
  intro k i h3 h4;obtain ⟨k,rfl⟩:∃ i,k=i+1:=⟨k - 1,by omega⟩;unfold gQ;have h5:((i:Int) < ((wM b n).length:Int)):=by omega
  have hx:(wM b n)[i]?=ac (dc (M.win b i n)):=by
   unfold wM;rw [if_pos al,zQV,zZw al]; rfl
  simp only [h5,decide_true,cond_true,cj,hx,wk];rw [rF al,ga al al];simp only [wk,r0]
  change (bif _ then ((jB (M.win b i n)).bind _) else _)=_
  rw [qr hu (i6 hb _ _) qiM];simp only [wk,Il,ia,pm,cond_false,fa (show i < 9223372036854775807 by omega),ih k (i+1) al al]
  by_cases h6:eo (M.win b i n)=s
  ·have h7:dc (M.win b i n)=s.fW:=by rw [<- h6,qcP qiM]
   simp [h6,h7]
  ·cases dc (M.win b i n) == s.fW <;> simp [h6]
theorem TL(hu:UB){b:gs}(hb:aw b)(hl:b.length<=1073741823)(s:dR)(n:Int):zW b s n=ac (ua b s n):=by
 unfold zW ua;rw [bJ];simp only [wk]
 cases h:aj n 1 6 with
 | false=>simp
 | true =>
  have h:=bC h;obtain ⟨n,rfl⟩:=zQK (show 0<=n by omega);simp only [zQY,cond_false,if_true,r0];rw [TJ hu hb al al al];exact MW hu hb al s al al (b.length+1 - n) u 0 al al
def eG(b:gs)(m:af)(i:Nat):Int:=match m.aI[i]? with
 | some s=>ua b s (cu m.au m.aT i).2
 | none=>-1
theorem TM(hu:UB){b:gs}(hb:aw b)(hl:b.length<=1073741823){m:af}(hm:m.aI.length<=1073741824)(i:Nat):v5 b m i=ac (eG b m i):=by
 unfold v5 eG;rw [rD];simp only [wk];rw [db al al,c9]
 by_cases h:i < m.aI.length
 ·have h1:aj (i:Int) 0 ((m.aI.length:Int) - 1)=true:=by simp [aj]; omega
  simp only [h1,wk,zQY,cond_false,cj,sX h,TK hu hb hl]
 ·have h1:aj (i:Int) 0 ((m.aI.length:Int) - 1)=false:=by simp [aj]; omega
  simp only [h1,wk,zZH,cond_true,zXK (show m.aI.length<=i by omega)]
theorem TN(hu:UB){b:gs}(hb:aw b)(hl:b.length<=1073741823){m:af}(hm:m.aI.length<=1073741824)(i:Nat):vU b m i=ac (eG b m i):=by
 unfold vU yr eG;rw [mt];simp only [wk,TL hu hb hl,cj]
 by_cases h:i < m.aI.length
 ·have h1:¬ ((i:Int)>=(m.aI.length:Int)):=by omega
  simp only [sX h,wk,h1,decide_false,cond_false,cond_true]
  by_cases h2:(cu m.au m.aT i).2=0
  ·have:ua b m.aI[i] 0=-1:=by simp [ua,aj]
   simp [h2,this]
  ·have:((cu m.au m.aT i).2 == 0)=false:=by simpa using h2
   simp [this]
 ·have h1:((i:Int)>=(m.aI.length:Int)):=by omega
  simp only [zXK (show m.aI.length<=i by omega),h1,decide_true,cond_true]
  cases ((cu m.au m.aT i).2 == 0) <;> simp
theorem Re{s:Nat}(h:s < 1099511627776):bB (s:Int)=true:=by simp [bB,aj]; omega
theorem TO{n:Nat}(h:n<=40):wg n=ac ((2 ^ n - 1:Nat):Int):=by
 unfold wg;have h1:aj (n:Int) 0 40=true:=by simp [aj]; omega
 rw [bJ,h1];simp only [wk,zQY,cond_false];have h2:(2:Nat) ^ n<=2 ^ 40:=zWZ al h;have h3:0 < (2:Nat) ^ n:=Nat.pow_pos al;rw [bp al,Hy al];generalize (2:Nat) ^ n=p at *;rw [db al al];simp only [wk]
 congr 1
 omega
theorem Hz(gen:Int)(b:gs)(size:Int):(dZ gen b size).aI.length<=40:=by
 unfold dZ
 split
 ·have:=blocks_range size b.length;simp [rG]; omega
 ·simp
theorem V2(gen:Int)(b:gs)(size:Int)(hb:aw b):wL (dZ gen b size):=by
 unfold dZ wL
 split
 ·intro s hs;simp only [rG,zYv] at hs;obtain ⟨i,_,rfl⟩:=hs;have h:=yd hb size (i:Int);unfold eo;rw [if_neg al];have:=VX (eV b size i).1 1 0 h.1 al BL;have h6:(256:Int) ^ (0+(eV b size i).1.length)<=281474976710656:=by
   have h7:=h.2;generalize (eV b size i).1.length=n at h7;rcases (show n=0\/n=1\/n=2\/n=3\/n=4\/n=5\/n=6 by omega) with rfl | rfl | rfl | rfl | rfl | rfl | rfl <;> decide
  dsimp only;omega
 ·intro s hs; simp at hs
theorem V3:∀ (l:List dR) (b:gs),(mO b l).length<=b.length+10*l.length:=by
 intro l
 induction l with
 | nil=>intro b; simp [mO]
 | cons s l ih =>
  intro b;have h1:=ih (b++dn 9 s.fS);have h2:=MR 9 s.fS;simp only [mO,zQw,zQH] at h1 ⊢;omega
def qgi(old:List aX):Prop:=∀ x∈old,aw x.fB/\x.fB.length<=1048576
theorem Yu(b:Bool):(bif b then ac gi else ac go)=ac b:=by cases b <;> rfl
def Im{α:Type}(f:α->α->Bool):List α->List α->Bool
 | x :: xs,y :: ys=>f x y && Im f xs ys
 | _,_=>gi
def M.same{α:Type}(f:α->α->Bool)(xs ys:List α):Bool:=(xs.length == ys.length) && Im f xs ys
theorem V4{α:Type}{fin:Unit->Option Bool}{body:α->Nat->Unit->(Unit->Option Bool)->Option Bool}(f:α->α->Bool){xs ys:List α}(h:xs.length=ys.length)(hb:∀ x y i k,xs[i]?=ac x->ys[i]?=ac y->body x i () k=bif f x y then k () else ac go) :
  bT fin body xs 0 ()=bif Im f xs ys then fin () else ac false:=by
 have:∀ (l m:List α) (i:Nat),l=xs.drop i->m=ys.drop i->bT fin body l i ()=bif Im f l m then fin () else ac false:=by
  intro l
  induction l with
  | nil=>intro m i _ _; simp [bT,Im]
  | cons x l ih =>
   intro m i h1 h2;have hlt:i < xs.length:=by have:=congrArg zZX h1; simp at this; omega
   cases m with
   | nil=>have:=congrArg zZX h2; simp at this; omega
   | cons y m =>
    have hx:xs[i]?=ac x:=by have:=congrArg zZq h1; simpa [zXh] using this.symm
    have hy:ys[i]?=ac y:=by have:=congrArg zZq h2; simpa [zXh] using this.symm
    have hl:l=xs.drop (i+1):=by have:=congrArg zZz h1; simpa [zYK] using this
    have hm:m=ys.drop (i+1):=by have:=congrArg zZz h2; simpa [zYK] using this
    simp only [bT,Im];rw [hb x y i _ hx hy,ih m (i+1) hl hm]
    cases f x y <;> simp
 exact this xs ys 0 ig ig
def mv(a b:gs):Bool:=(strOfNums a).toList == (strOfNums b).toList
theorem Ba(a b:gs):oo a b=ac (mv a b):=rfl
theorem O8(a b:gs):AI a b=ac (mv a b):=rfl
theorem qcQ(x y:ed):(([x.aR,x.bW,x.aT]:gs) == [y.aR,y.bW,y.aT])=decide (x=y):=by
 obtain ⟨a0,a1,a2⟩:=x;obtain ⟨b0,b1,b2⟩:=y;rw [zXg]; simp
theorem nP(hu:UB){a b:List dR}(ha:a.length<=1048576):ey a b=ac (M.same (λx y=>decide (x=y)) a b):=by
 unfold ey M.same
 by_cases h:a.length=b.length
 ·have h1:((a.length:Int) != (b.length:Int))=false:=by simp [h]
  simp only [h1,cond_false];rw [vZ a b () u al al,V4 (λx y=>decide (x=y)) h (λx y i k hx hy=>by unfold mz; rw [cj,hy]; simp only [wk,Il]; cases decide (x=y) <;> rfl)];simp only [h,beq_self_eq_true,zQh];exact Yu _
 ·have h1:((a.length:Int) != (b.length:Int))=true:=by simp; omega
  have h2:(a.length == b.length)=false:=by simpa using h
  simp [h1,h2]
theorem Fb(hu:UB){a b:List dR}(ha:a.length<=1048576):pk a b=ac (M.same (λx y=>decide (x=y)) a b):=by
 unfold pk M.same
 by_cases h:a.length=b.length
 ·have h1:((a.length:Int) != (b.length:Int))=false:=by simp [h]
  simp only [h1,cond_false];rw [Jq a b () u al al,V4 (λx y=>decide (x=y)) h (λx y i k hx hy=>by unfold Ck; rw [cj,hy]; simp only [wk,Il]; cases decide (x=y) <;> rfl)];simp only [h,beq_self_eq_true,zQh];exact Yu _
 ·have h1:((a.length:Int) != (b.length:Int))=true:=by simp; omega
  have h2:(a.length == b.length)=false:=by simpa using h
  simp [h1,h2]
def jN(a b:af):Bool:=(a.aR == b.aR) && (a.au == b.au) && (a.aT == b.aT) && M.same (λx y=>decide (x=y)) a.aI b.aI
theorem TP(hu:UB){a b:af}(ha:a.aI.length<=1048576):wz a b=ac (jN a b):=by
 unfold wz jN;rw [nP hu ha]
 cases a.aR == b.aR <;> cases a.au == b.au <;> cases a.aT == b.aT <;> simp
theorem yS(hu:UB){a b:af}(ha:a.aI.length<=1048576):nr a b=ac (jN a b):=by
 unfold nr jN;rw [Fb hu ha]
 cases a.aR == b.aR <;> cases a.au == b.au <;> cases a.aT == b.aT <;> simp
def qeV(l:List aD):Prop:=∀ x∈l,x.aH.aI.length<=1048576/\x.aZ.length<=1048576
theorem Uy(a b:Nat):((a:Int) == (b:Int))=(a == b):=by rw [zXg,beq_iff_eq,beq_iff_eq]; omega
def gu{α:Type}(f:α->Bool):List α->Nat->Int
 | [],_=>-1
 | x :: l,i=>if f x then i else gu f l (i+1)
theorem sq{α:Type}{fin:Unit->Option Int}{body:α->Nat->Unit->(Unit->Option Int)->Option Int}(f:α->Bool){xs:List α}(hf:fin ()=ac (-1))(hb:∀ x i k,x∈xs->body x i () k=bif f x then ac (i:Int) else k ()) :
  bT fin body xs 0 ()=ac (gu f xs 0):=by
 have:∀ (l:List α) (i:Nat),(∀ y∈l,y∈xs)->bT fin body l i ()=ac (gu f l i):=by
  intro l
  induction l with
  | nil=>intro i _; exact hf
  | cons x l ih =>
   intro i h;simp only [bT,gu];rw [hb x i _ (h x ig),ih (i+1) (λy hy=>h y (by simp [hy]))]
   cases f x <;> simp
 exact this xs 0 (λ_ h=>h)
theorem vJ{α:Type}(f:α->Bool):∀ (l:List α) (i:Nat),decide (gu f l i>=0)=l.any f:=by
 intro l
 induction l with
 | nil=>intro i; rfl
 | cons x l ih =>
  intro i;rw [zVx,<- ih (i+1),zXg];simp only [decide_eq_true_eq,Bool.or_eq_true]
  by_cases h:f x=gi
  ·simp [gu,h]
  ·simp [gu,h]
def gN(r:ed):Bool:=aj r.aR 0 1000000 && aj r.bW 0 1 && aj r.aT 0 240
theorem HA(r:ed):tM r=ac (gN r):=by
 unfold tM gN;simp only [bJ,wk]
 cases aj r.aR 0 1000000 <;> cases aj r.bW 0 1 <;> rfl
theorem Kd(n:Int):zG n=ac (aj n 0 1):=by
 unfold zG aj
 by_cases h0:n=0
 ·subst h0; rfl
 ·by_cases h1:n=1
  ·subst h1; rfl
  ·have e0:(n == 0)=false:=by simpa using h0
   have e1:(n == 1)=false:=by simpa using h1
   simp only [e0,e1,cond_false]
   by_cases h:0<=n
   ·have:¬ n<=1:=by omega
    simp [this]
   ·simp [h]
theorem HB(r:ed):tY r=ac (gN r):=by
 unfold tY Bw gN;simp only [c9,Kd,wk]
 cases aj r.aR 0 1000000 <;> cases aj r.bW 0 1 <;> rfl
def fV(d:ar)(n:Int):gs:=if n=0 then d.fA else d.fB
theorem Io(d:ar)(n:Int):hP d n=ac (fV d n):=by
 unfold hP fV
 by_cases h:n=0
 ·simp [h]
 ·have:(n == 0)=false:=by simpa using h
  simp [h,this]
theorem D9(d:ar){n:Int}(h:aj n 0 1=gi):sm d n=ac (fV d n):=by
 unfold sm fV;have:=bC h
 by_cases h0:n=0
 ·subst h0; rfl
 ·have:n=1:=by omega
  subst this; rfl
def gf(p:dv):Bool:=if p.fm=2 then (p.HV == 0) && (p.fB.length == 0) && gN p.fR else aj p.fm 0 1 && decide (p.fR=⟨0,0,0⟩) && aj p.HV 0 (240 - p.fB.length)
theorem So(x:ed):(([x.aR,x.bW,x.aT]:gs) == [0,0,0])=decide (x=⟨0,0,0⟩):=qcQ x ⟨0,0,0⟩
theorem XB{p:dv}(h:p.fB.length<=1048576):EP p=ac (gf p):=by
 unfold EP gf;rw [db al al];simp only [HB,Kd,c9,wk,So];have e:((p.fB.length:Int) == 0)=(p.fB.length == 0):=Uy _ 0
 by_cases h2:p.fm=2
 ·simp only [h2,beq_self_eq_true,cond_true,if_true,e]
  cases p.HV == 0 <;> cases p.fB.length == 0 <;> rfl
 ·have:(p.fm == 2)=false:=by simpa using h2
  simp only [this,cond_false,h2,if_false]
  cases aj p.fm 0 1 <;> cases decide (p.fR=⟨0,0,0⟩) <;> rfl
theorem LO{p:dv}(h:p.fB.length<=1048576):zf p=ac (gf p):=by
 unfold zf gf;simp only [HA,bJ,wk,So];have e:((p.fB.length:Int) == 0)=(p.fB.length == 0):=Uy _ 0
 by_cases h2:p.fm=2
 ·simp only [h2,beq_self_eq_true,cond_true,if_true,e]
  cases p.HV == 0 <;> cases p.fB.length == 0 <;> rfl
 ·have:(p.fm == 2)=false:=by simpa using h2
  simp only [this,cond_false,h2,if_false]
  cases h3:aj p.HV 0 240 with
  | false =>
   have h4:aj p.HV 0 (240 - p.fB.length)=false:=by
    have:=qba h3;simp [aj]; omega
   rw [h4]
   cases aj p.fm 0 1 <;> cases decide (p.fR=⟨0,0,0⟩) <;> rfl
  | true =>
   have h3:=bC h3;rw [db al al];have h4:aj p.HV 0 (240 - p.fB.length)=decide ((p.fB.length:Int)<=240 - p.HV):=by
    rw [zXg]; simp [aj]; omega
   rw [h4]
   cases aj p.fm 0 1 <;> cases decide (p.fR=⟨0,0,0⟩) <;> cases decide ((p.fB.length:Int)<=240 - p.HV) <;> rfl
def bZ(d:ar):Bool:=decide (d.fA.length<=240) && decide (d.fB.length<=240) && gN d.fR && decide (d.fR.aT<=(fV d d.fR.bW).length) && decide (d.fP.length<=200) && d.fP.all gf
structure M.DOk (d:ar):Prop where
 a:d.fA.length<=1048576
 b:d.fB.length<=1048576
 p:d.fP.length<=1048576
 puts:∀ x∈d.fP,x.fB.length<=1048576
theorem TQ(hu:UB){l:List dv}(hl:l.length<=1048576)(hp:∀ x∈l,x.fB.length<=1048576):cE l=ac (l.any λx=>!gf x):=by
 unfold cE dA;rw [mi l () u al al,sq (λx=>!gf x) rfl (λx i k hx=>by unfold gD xQ; rw [XB (hp x hx)]; rfl)];simp only [wk,vJ]
theorem Ke{α:Type}(f:α->Bool)(l:List α):(!(l.any λx=>!f x))=l.all f:=by
 induction l with
 | nil=>rfl
 | cons x l ih=>simp only [zVx,List.all_cons,Bool.not_or,Bool.not_not,ih]
theorem qgj(a b:Int):decide (a > b)=!decide (a<=b):=by
 by_cases h:a<=b
 ·have:¬ a > b:=by omega
  simp [h,this]
 ·have:a > b:=by omega
  simp [h,this]
theorem Rf(a b:Nat):decide ((a:Int)<=(b:Int))=decide (a<=b):=by rw [decide_eq_decide]; omega
theorem Fc(hu:UB){d:ar}(hd:M.DOk d):sn d=ac (bZ d):=by
 unfold sn rh bZ;simp only [HB,Io,TQ hu hd.p hd.puts,wk,Ke,qgj];have e1:decide ((d.fA.length:Int)<=240)=decide (d.fA.length<=240):=Rf _ 240;have e2:decide ((d.fB.length:Int)<=240)=decide (d.fB.length<=240):=Rf _ 240;have e3:decide ((d.fP.length:Int)<=200)=decide (d.fP.length<=200):=Rf _ 200;rw [e1,e2,e3]
 cases decide (d.fA.length<=240) <;> cases decide (d.fB.length<=240) <;> cases gN d.fR <;> cases decide (d.fR.aT<=(fV d d.fR.bW).length) <;> cases decide (d.fP.length<=200) <;> rfl
theorem Rg(hu:UB){d:ar}(hd:M.DOk d):oq u 0 d=ac (d.fP.all gf):=by
 have:=hd.p;rw [Qg d () u al al];have:∀ (l:List dv) (i:Nat),(∀ y∈l,y∈d.fP)->bT (GX d) (BB d) l i ()=ac (l.all gf):=by
  intro l
  induction l with
  | nil=>intro i _; rfl
  | cons x l ih =>
   intro i h;simp only [bT,BB,LO (hd.puts x (h x ig)),wk,List.all_cons];rw [ih (i+1) (λy hy=>h y (by simp [hy]))]
   cases gf x <;> rfl
 exact this _ 0 (λ_ h=>h)
theorem Cf{r:ed}(h:gN r=gi):aj r.bW 0 1=gi/\0<=r.aT/\r.aT<=240:=by
 unfold gN at h;simp only [sk] at h;exact ⟨h.1.2,(bC h.2).1,(bC h.2).2⟩
theorem oK(hu:UB){d:ar}(hd:M.DOk d):kV d=ac (bZ d):=by
 unfold kV ot bZ;have e1:decide ((d.fA.length:Int)<=240)=decide (d.fA.length<=240):=Rf _ 240;have e2:decide ((d.fB.length:Int)<=240)=decide (d.fB.length<=240):=Rf _ 240;have e3:decide ((d.fP.length:Int)<=200)=decide (d.fP.length<=200):=Rf _ 200;simp only [HA,Rg hu hd,wk,qgj,e1,e2,e3,cond_true]
 cases h:gN d.fR with
 | false=>cases decide (d.fA.length<=240) <;> cases decide (d.fB.length<=240) <;> rfl
 | true =>
  rw [D9 d (Cf h).1];simp only [wk]
  cases decide (d.fA.length<=240) <;> cases decide (d.fB.length<=240) <;> cases decide (d.fR.aT<=(fV d d.fR.bW).length) <;> cases decide (d.fP.length<=200) <;> rfl
def bX(d:ar):Int×gs:=if bZ d then (d.fR.aR,(fV d d.fR.bW).take d.fR.aT.toNat) else (0,[])
theorem sR{d:ar}(h:bZ d=gi):gN d.fR=gi/\d.fR.aT<=(fV d d.fR.bW).length/\d.fA.length<=240/\d.fB.length<=240/\d.fP.length<=200:=by
 unfold bZ at h;simp only [sk,decide_eq_true_eq] at h;obtain ⟨⟨⟨⟨⟨h1,h2⟩,h3⟩,h4⟩,h5⟩,h6⟩:=h;exact ⟨h3,h4,h1,h2,h5⟩
theorem Rh{d:ar}(h:bZ d=gi)(n:Int):(fV d n).length<=240:=by
 have:=sR h;unfold fV; split <;> omega
theorem TR(hu:UB){d:ar}(hd:M.DOk d):AH d=ac (bX d):=by
 unfold AH bX;rw [Fc hu hd,Io];simp only [wk]
 cases h:bZ d with
 | false=>rfl
 | true =>
  have h1:=sR h;have h2:=Cf h1.1;have h3:=Rh h d.fR.bW;obtain ⟨n,hn⟩:=zQK h2.2.1;simp only [zQY,cond_false,if_true];rw [hn] at h1 ⊢;rw [show (0:Int)=((0:Nat):Int) by rfl,ga al al];simp only [wk,r0,zVQ];rw [kH f6]; rfl
theorem I6(hu:UB){d:ar}(hd:M.DOk d):wm d=ac (bX d):=by
 unfold wm bX;rw [oK hu hd];simp only [wk]
 cases h:bZ d with
 | false=>rfl
 | true =>
  have h1:=sR h;have h2:=Cf h1.1;have h3:=Rh h d.fR.bW;obtain ⟨n,hn⟩:=zQK h2.2.1;rw [D9 d h2.1];simp only [zQY,cond_false,if_true,wk];rw [hn] at h1 ⊢;rw [show (0:Int)=((0:Nat):Int) by rfl,ga al al];simp only [wk,r0,zVQ];rw [bp f6]; rfl
def M.holds(d:ar)(gen:Int)(b:gs):Bool:=((bX d).1 == gen) && mv (bX d).2 b
theorem LP(hu:UB){d:ar}(hd:M.DOk d)(gen:Int)(b:gs):zh d gen b=ac (M.holds d gen b):=by
 unfold zh M.holds;rw [TR hu hd];simp only [wk,O8]
 cases (bX d).1 == gen <;> rfl
theorem Cg(hu:UB){d:ar}(hd:M.DOk d)(gen:Int)(b:gs):qo d gen b=ac (M.holds d gen b):=by
 unfold qo M.holds;rw [I6 hu hd];simp only [wk,Ba]
 cases (bX d).1 == gen <;> rfl
def KW:List bV->Int->Int
 | [],a=>a
 | k :: l,a=>KW l (if bB k.cO then DM .i64 a k.cO else a)
theorem XC(r:List bV):∀ (l:List bV) (i:Nat) (a:Int),l=r.drop i->bT (GZ r) (BC r) l i a=ac (KW l a):=by
 intro l
 induction l with
 | nil=>intro i a _; rfl
 | cons k l ih =>
  intro i a hd;have hx:r[i]?=ac k:=by have:=congrArg zZq hd; simpa [zXh] using this.symm
  have hl:l=r.drop (i+1):=by have:=congrArg zZz hd; simpa [zYK] using this
  simp only [bT,BC,q6,jp,wk,KW,cj,hx,ih (i+1) _ hl]
  cases bB k.cO <;> simp
theorem V5(hu:UB){l:List bV}(hl:l.length<=1048576):Cr l=ac (KW l 0):=by
 unfold Cr;rw [Qh l 0 u al al,XC l l 0 0 ig]
structure M.NdOk (w:World):Prop where
 new:aw w.bI
 newL:w.bI.length<=1048576
 old:w.bt.length<=1048576
 oldB:qgi w.bt
def p7(w:World):af:=dZ 1 w.bI w.fC.au
theorem LQ(hu:UB){w:World}(hw:M.NdOk w):BJ w=ac (p7 w):=by
 unfold BJ;have:=hw.newL;rw [LN hu hw.new al]; rfl
theorem LR(hu:UB){w:World}(hw:M.NdOk w):ki w=ac (p7 w):=by
 unfold ki;have:=hw.newL;rw [ye hu hw.new al]; rfl
def Kf(w:World)(k:Nat):Bool:=match w.fN[k]? with | some n=>n.fJ | none=>go
def GG(w:World):gs:=((zXW 0 w.fN.length).filter (Kf w)).map λ(k:Nat)=>(k:Int)
theorem KX{α ρ:Type}{fin:gs->Option ρ}{body:α->Nat->gs->(gs->Option ρ)->Option ρ}(g:Nat->Bool)(p:List α) :
  ∀ (l:List α) (i:Nat) (s:gs),l=p.drop i->s.length<=i->(∀ x i s k,p[i]?=ac x->s.length<=i->body x i s k=bif g i then k (s++[(i:Int)]) else k s)->bT fin body l i s=fin (s++((zXW i l.length).filter g).map λ(k:Nat)=>(k:Int)):=by
 intro l
 induction l with
 | nil=>intro i s _ _ _; simp [bT]
 | cons x l ih =>
  intro i s h1 h2 h3;have hx:p[i]?=ac x:=by have:=congrArg zZq h1; simpa [zXh] using this.symm
  have hl:l=p.drop (i+1):=by have:=congrArg zZz h1; simpa [zYK] using this
  simp only [bT,zQw,zYj];rw [h3 x i s _ hx h2]
  cases hg:g i with
  | true=>simp only [cond_true,List.filter_cons,hg,if_true,zXV]; rw [ih (i+1) _ hl f6 h3]; simp
  | false=>simp only [cond_false,List.filter_cons,hg,zWQ,if_false]; rw [ih (i+1) _ hl al h3]
theorem Uz{w:World}{i:Nat}{x:aD}(h:w.fN[i]?=ac x):Kf w i=x.fJ:=by unfold Kf; rw [h]
theorem F5{α:Type}{l:List α}{i:Nat}{x:α}(h:l[i]?=ac x):i < l.length:=by
 rcases Nat.lt_or_ge i l.length with h1 | h1
 ·exact h1
 ·rw [zXK h1] at h; cases h
theorem Ip(hu:UB){w:World}(hn:w.fN.length<=1048576):BK w=ac (GG w):=by
 unfold BK ie;rw [wC w _ u al al,KX (Kf w) w.fN w.fN 0 [] ig ig]
 ·simp [mM,gA,GG]
 ·intro x i s k hx hs;have:=F5 hx;unfold mN dT Cz;simp only [wk,Uz hx];rw [bp f6]; rfl
theorem ZG(hu:UB){w:World}(hn:w.fN.length<=1048576):Ha w=ac (GG w):=by
 unfold Ha;rw [UK w _ u al al,KX (Kf w) w.fN w.fN 0 [] ig ig]
 ·simp [Jt,DZ,GG]
 ·intro x i s k hx hs;have:=F5 hx;unfold Ju wE;simp only [Uz hx];rw [bp f6]; rfl
theorem qbg(w:World):(GG w).length<=w.fN.length:=by
 unfold GG;rw [zWw];have:=List.length_filter_le (Kf w) (zXW 0 w.fN.length);rwa [List.length_range'] at this
theorem V6(hu:UB){r:gs}(hr:r.length<=1048576)(k:Int):Co r k=ac (r.any λy=>y == k):=by
 unfold Co;rw [Qd r k () u al al];have:∀ (l:gs) (i:Nat),bT (GV r k) (Bz r k) l i ()=ac (l.any λy=>y == k):=by
  intro l
  induction l with
  | nil=>intro i; rfl
  | cons y l ih =>
   intro i;simp only [bT,Bz,zVx];rw [ih (i+1)]
   cases y == k <;> rfl
 exact this r 0
theorem De(hu:UB){r:gs}(hr:r.length<=1048576)(k:Int):iS r k=ac (r.any λy=>y == k):=by
 unfold iS nx;rw [DY r k () u al al,sq (λy=>k == y) rfl (λx i k hx=>by unfold ul; rfl)];simp only [wk,vJ]
 congr 2
 funext y
 exact Bool.eq_iff_iff.2 (by simp only [beq_iff_eq]; exact ⟨Eq.symm,Eq.symm⟩)
theorem Ri{ρ:Type}(J:gs->Option ρ)(n:Int)(hn:n<=1048576)(L:Nat->gs->Option ρ)(hL:∀ k x,L (k+1) x=bif decide ((x.length:Int) < n) then ((dW (decide ((x.length+([0]:gs).length)*1<=140737488355328))).bind λ_=>L k (x++[0])) else J x) :
  ∀ (m k:Nat) (x:gs),(x.length+m=n.toNat\/(m=0/\n<=x.length))->m < k->L k x=J (x++zQG m 0):=by
 intro m
 induction m with
 | zero =>
  intro k x h1 h2;obtain ⟨k,rfl⟩:∃ j,k=j+1:=⟨k - 1,by omega⟩;have e:¬ ((x.length:Int) < n):=by omega
  rw [hL]; simp [e]
 | succ m ih =>
  intro k x h1 h2;obtain ⟨k,rfl⟩:∃ j,k=j+1:=⟨k - 1,by omega⟩;have e:(x.length:Int) < n:=by omega
  rw [hL,bp f6];simp only [e,decide_true,cond_true,wk];rw [ih k _ f6 al,zQJ];rfl
theorem sS{α ρ:Type}{fin:List α->Option ρ}{body:α->Nat->List α->(List α->Option ρ)->Option ρ}(n:Nat)(p:List α)(hb:∀ x i s k,x∈p->s.length+1<=n->body x i s k=k (s++[x])) :
  ∀ (l:List α) (i:Nat) (s:List α),(∀ x∈l,x∈p)->s.length+l.length<=n->bT fin body l i s=fin (s++l):=by
 intro l
 induction l with
 | nil=>intro i s _ _; simp [bT]
 | cons x l ih =>
  intro i s h1 h2;simp only [zQw] at h2;simp only [bT];rw [hb x i s _ (h1 x ig) al,ih (i+1) _ (λy hy=>h1 y (by simp [hy])) f6];simp
theorem jq(hu:UB){d:ar}(hd:M.DOk d):f0 d=ac d:=by
 have h1:=hd.a;have h2:=hd.b;have h3:=hd.p;unfold f0;rw [bp f6,bp f6];simp only [wk];rw [P7 d _ u al al,sS 1048576 d.fP _ d.fP 0 [] (λ_ h=>h) f6]
 ·rfl
 ·intro x i s k hx hs;have h4:=hd.puts x hx;unfold GS jh;rw [bp f6];simp only [wk];rw [bp f6]; rfl
theorem HC(hu:UB){d:ar}(hd:M.DOk d):lN d=ac d:=by
 have h1:=hd.a;have h2:=hd.b;have h3:=hd.p;unfold lN;rw [kH (show d.fA.length<=1073741824 by omega),kH (show d.fB.length<=1073741824 by omega)];simp only [wk];rw [Mb d d.fA d.fB _ u al al,sS 1048576 d.fP _ d.fP 0 [] (λ_ h=>h) f6]
 ·rfl
 ·intro x i s k hx hs;have h4:=hd.puts x hx;unfold Ew sC;rw [kH (show x.fB.length<=1073741824 by omega)];simp only [wk];rw [bp f6]; rfl
def HD(b:gs)(a:Nat)(p:gs):gs:=xV (b++zQG (a+p.length - b.length) 0) p a
theorem Fd{x p:gs}{a:Nat}(h:a+p.length<=x.length):xV x p a=x.take a++p++x.drop (a+p.length):=by
 unfold xV;rw [zWj (l:=p) al,zXj al]
theorem MX(b:gs)(a:Nat)(p:gs):(HD b a p).length=max b.length (a+p.length):=by
 unfold HD;rw [Fd f6];simp;omega
theorem qjI(a:Nat)(p:gs)(ha:a<=1048576):∀ (l:gs) (i:Nat) (s:gs),a+i+l.length<=s.length->s.length<=4194304->bT (C0 a p) (C1 a p) l i s=ac (s.take (a+i)++l++s.drop (a+i+l.length)):=by
 intro l
 induction l with
 | nil=>intro i s _ _; simp [bT,C0,xH]
 | cons y l ih =>
  intro i s h1 h2;simp only [zQw] at h1;simp only [bT,C1];rw [dE al al,show (a:Int)+(i:Int)=((a+i:Nat):Int) by omega,cj,sX al,r0];simp only [wk];rw [ih (i+1) _ f6 f6];have e1:(s.set (a+i) y).take (a+(i+1))=s.take (a+i)++[y]:=by
   rw [show a+(i+1)=(a+i)+1 by omega,zVh,List.take_set_of_le (zWK _)];simp [show a+i < s.length by omega]
  have e2:(s.set (a+i) y).drop (a+(i+1)+l.length)=s.drop (a+i+(y :: l).length):=by
   rw [List.drop_set_of_lt al]; simp only [zQw]; congr 1; omega
  rw [e1,e2]; simp
theorem LS(hu:UB){b p:gs}{a:Nat}(hb:b.length<=1048576)(hp:a+p.length<=1048576):u5 b a p=ac (HD b a p):=by
 unfold u5;rw [bp f6];simp only [wk,zQj];have e:aS .i64 (a:Int) (p.length:Int)=((a+p.length:Nat):Int):=by rw [dE al al]; omega
 rw [Ri (λx=>xI a p x) ((a+p.length:Nat):Int) al (λk x=>qj k a p x) (λk x=>by rw [<- e]; rfl) (a+p.length - b.length) u b qiN al];unfold xI;rw [SM a p _ u al al,qjI a p al p 0 _ f6 f6];unfold HD;rw [Fd f6]; simp
def oL(d:ar)(p:dv):ar:=if p.fm=2 then ⟨d.fA,d.fB,p.fR,d.fP⟩ else if p.fm=0 then ⟨HD d.fA p.HV.toNat p.fB,d.fB,d.fR,d.fP⟩ else ⟨d.fA,HD d.fB p.HV.toNat p.fB,d.fR,d.fP⟩
theorem CH{p:dv}(h:gf p=gi):p.fm=2\/((p.fm=0\/p.fm=1)/\0<=p.HV/\p.HV+p.fB.length<=240):=by
 unfold gf at h
 by_cases h2:p.fm=2
 ·exact .inl h2
 ·rw [if_neg h2] at h;simp only [sk] at h;have h3:=bC h.1.1;have h4:=bC h.2;exact .inr ⟨by omega,by omega,by omega⟩
theorem HE{d:ar}{p:dv}(hd:M.DOk d)(h:gf p=gi):M.DOk (oL d p):=by
 have h1:=hd.a;have h2:=hd.b;unfold oL;rcases CH h with h | ⟨h3,h4,h5⟩
 ·rw [if_pos h]; exact ⟨hd.a,hd.b,hd.p,hd.puts⟩
 ·split
  ·exact ⟨hd.a,hd.b,hd.p,hd.puts⟩
  ·split
   ·exact ⟨by rw [MX]; omega,hd.b,hd.p,hd.puts⟩
   ·exact ⟨hd.a,by rw [MX]; omega,hd.p,hd.puts⟩
theorem Kh(hu:UB){d:ar}{p:dv}(hd:M.DOk d)(hp:p.fB.length<=1048576)(h:gf p=gi):mb d p=ac (oL d p):=by
 have h1:=hd.a;have h2:=hd.b;unfold mb oL;rw [jq hu hd,LO hp,h];simp only [wk,zQY,cond_false];rcases CH h with h | ⟨h3,h4,h5⟩
 ·rw [h]; rfl
 ·obtain ⟨a,ha⟩:=zQK h4;rcases h3 with h3 | h3
  ·rw [h3,ha,LS hu h1 al]; rfl
  ·rw [h3,ha,LS hu h2 al]; rfl
theorem qbh(b:gs)(a n:Nat):dW (Oy (a:Int) (((b++zQG (a+n - b.length) (0:Int)).length:Nat):Int))=ac ():=by
 have:Oy (a:Int) (((b++zQG (a+n - b.length) (0:Int)).length:Nat):Int)=true:=by
  simp only [Oy,sk,decide_eq_true_eq,zQH,zYz]; omega
 rw [this]; rfl
theorem TS(hu:UB){d:ar}{p:dv}(hd:M.DOk d)(h:gf p=gi):ly d p=ac (oL d p):=by
 have h1:=hd.a;have h2:=hd.b;unfold ly oL yK;rcases CH h with h | ⟨h3,h4,h5⟩
 ·rw [h]; rfl
 ·obtain ⟨a,ha⟩:=zQK h4;have e:aS .i64 (a:Int) (p.fB.length:Int)=((a+p.fB.length:Nat):Int):=by rw [dE al al]; omega
  rcases h3 with h3 | h3
  ·rw [h3,ha];show ja u p d.fA (0,d)=ac ⟨HD d.fA a p.fB,d.fB,d.fR,d.fP⟩;rw [Ri (λx=>oX p x (0,d)) ((a+p.fB.length:Nat):Int) al (λk x=>ja k p x (0,d)) (λk x=>by rw [<- e,<- ha]; rfl) (a+p.fB.length - d.fA.length) u d.fA qiN al];unfold oX;rw [ha,qbh d.fA a p.fB.length];rfl
  ·rw [h3,ha];show i9 u p (1,d) d.fB=ac ⟨d.fA,HD d.fB a p.fB,d.fR,d.fP⟩;rw [Ri (λx=>oV p (1,d) x) ((a+p.fB.length:Nat):Int) al (λk x=>i9 k p (1,d) x) (λk x=>by rw [<- e,<- ha]; rfl) (a+p.fB.length - d.fB.length) u d.fB qiN al];unfold oV;rw [ha,qbh d.fB a p.fB.length];rfl
def p8(s:Int):List dv->Nat->ar->ar
 | [],_,d=>⟨d.fA,d.fB,d.fR,[]⟩
 | p :: l,i,d=>p8 s l (i+1) (if dL s i then oL d p else d)
def M.fall(d:ar)(s:Int):ar:=if bZ d then p8 s d.fP 0 d else d
theorem qgk(s:Int):∀ (l:List dv) (i:Nat) (d:ar),(∀ p∈l,gf p=gi)->M.DOk d->M.DOk (p8 s l i d):=by
 intro l
 induction l with
 | nil=>intro i d _ hd; exact ⟨hd.a,hd.b,by simp [p8],by simp [p8]⟩
 | cons p l ih =>
  intro i d hp hd;refine ih (i+1) _ (λq hq=>hp q Y0) ?_
  split
  ·exact HE hd (hp p ig)
  ·exact hd
theorem zM{d:ar}(h:bZ d=gi):∀ p∈d.fP,gf p=true:=by
 unfold bZ at h;simp only [sk] at h;exact zm.1 h.2
theorem qhN{d:ar}(hd:M.DOk d)(s:Int):M.DOk (M.fall d s):=by
 unfold M.fall
 split
 ·rename_i h; exact qgk s _ 0 d (zM h) hd
 ·exact hd
def tup(d:ar):gs×gs×Int×Int×Int×List dv:=(d.fA,d.fB,d.fR.aR,d.fR.bW,d.fR.aT,d.fP)
theorem qbi(hu:UB)(s:Int){d0:ar}(h0:∀ p∈d0.fP,gf p=gi/\p.fB.length<=1048576):∀ (n i:Nat) (d:ar),i+n=d0.fP.length->M.DOk d->rr (Jr s d0) (EH s d0) n i (tup d)=ac (p8 s (d0.fP.drop i) i d):=by
 intro n
 induction n with
 | zero=>intro i d h1 _; rw [zXz al]; rfl
 | succ n ih =>
  intro i d h1 hd;have hx:=sX (l:=d0.fP) (i:=i) al;have h2:=h0 d0.fP[i] (zZY al);rw [zYZ al];simp only [rr,EH,wv,nO,cj,hx,wk,p8]
  cases hs:dL s i with
  | true =>
   simp only [cond_true,if_true];rw [show (ar.mk (tup d).1 (tup d).2.1 (ed.mk (tup d).2.2.1 (tup d).2.2.2.1 (tup d).2.2.2.2.1) (tup d).2.2.2.2.2)=d by rfl,Kh hu hd h2.2 h2.1];exact ih (i+1) _ al (HE hd h2.1)
  | false =>
   simp only [cond_false,zWQ,if_false];exact ih (i+1) _ al hd
theorem ZH(hu:UB){d:ar}(hd:M.DOk d)(s:Int):G3 d s=ac (M.fall d s):=by
 have h3:=hd.p;unfold G3 M.fall;rw [jq hu hd,oK hu hd];simp only [wk]
 cases h:bZ d with
 | false=>rfl
 | true =>
  simp only [zQY,cond_false,if_true];have e:=qbi hu s (d0:=d) (λp hp=>⟨zM h p hp,hd.puts p hp⟩) d.fP.length 0 d al hd;have e2:=UH s d (tup d) u al al;rw [r0,e] at e2;exact e2
def MY(d:ar)(a:gs)(g:Int)(b:gs):Bool:=M.holds d 0 a || M.holds d g b
theorem Rj(hu:UB){d:ar}(hd:M.DOk d)(a:gs)(g:Int)(b:gs):xR d a g b=ac (MY d a g b):=by
 unfold xR MY;rw [Cg hu hd,Cg hu hd]
 cases M.holds d 0 a <;> rfl
structure Cu (c:aL):Prop where
 i0:0<=c.fI
 n:c.fI<=(c.fB.length:Int)
 len:c.fB.length<=1048576
def Dr{α:Type}(r:Option (α×aL))(p:α->Prop):Prop:=∃ v c,r=ac (v,c)/\p v/\Cu c
theorem UA{α:Type}{r:Option (α×aL)}{p q:α->Prop}(h:Dr r p)(hpq:∀ v,p v->q v):Dr r q:=by
 obtain ⟨v,c,e,h1,h2⟩:=h;exact ⟨v,c,e,hpq v h1,h2⟩
theorem dg{α β:Type}{r:Option (α×aL)}{p:α->Prop}{f:α×aL->Option (β×aL)}{q:β->Prop}(h:Dr r p)(hf:∀ v c,p v->Cu c->Dr (f (v,c)) q):Dr (r.bind f) q:=by
 obtain ⟨v,c,e,h1,h2⟩:=h;rw [e];exact hf v c h1 h2
theorem d7{α:Type}{v:α}{c:aL}{p:α->Prop}(h:p v)(hc:Cu c):Dr (Option.some (v,c)) p:=⟨v,c,rfl,h,hc⟩
theorem qgl(a:Int):0<=iK .i64 a 255/\iK .i64 a 255<=255:=by
 unfold iK;have h:(lg 64 a &&& lg 64 255).toNat<=255:=by
  rw [BitVec.toNat_and];exact Nat.and_le_right
 have e:ld .i64 (((lg 64 a &&& lg 64 255).toNat:Nat):Int)=(((lg 64 a &&& lg 64 255).toNat:Nat):Int):=wrap_i64 al al;show 0<=ld .i64 (((lg 64 a &&& lg 64 255).toNat:Nat):Int)/\ld .i64 (((lg 64 a &&& lg 64 255).toNat:Nat):Int)<=255;rw [e];omega
theorem qgm(hu:UB){code:gs}(h:code.length<=1048576):∃ c,uL code=ac c/\Cu c:=by
 have key:∀ (m k i:Nat) (x:Int),i+m=code.length->m < k->∃ c,lK k code x (i:Int)=ac c/\Cu c:=by
  intro m
  induction m with
  | zero =>
   intro k i x hi hk;obtain ⟨k,rfl⟩:∃ j,k=j+1:=⟨k - 1,by omega⟩;unfold lK;have:¬ ((i:Int) < (code.length:Int)):=by omega
   simp only [this,decide_false,cond_false,xq,B2];exact ⟨_,rfl,⟨zYY 0,Int.natCast_nonneg _,h⟩⟩
  | succ m ih =>
   intro k i x hi hk;obtain ⟨k,rfl⟩:∃ j,k=j+1:=⟨k - 1,by omega⟩;unfold lK;have hlt:(i:Int) < (code.length:Int):=by omega
   simp only [hlt,decide_true,cond_true,xq]
   by_cases h4:(i:Int) < 4000
   ·simp only [h4,decide_true,cond_true,cj];obtain ⟨y,hy⟩:∃ y,code[i]?=ac y:=⟨code[i],sX al⟩;rw [hy];simp only [wk];rw [fa al];exact ih k (i+1) _ al al
   ·simp only [h4,decide_false,cond_false,B2];exact ⟨_,rfl,⟨zYY 0,Int.natCast_nonneg _,h⟩⟩
 exact key code.length u 0 _ al al
theorem HF{c:aL}(hc:Cu c):Dr (nz c) (λv=>0<=v/\v<=255):=by
 have h0:=hc.i0;have h1:=hc.n;have h2:=hc.len;unfold nz
 by_cases h:c.fI < (c.fB.length:Int)
 ·simp only [h,decide_true,cond_true];obtain ⟨i,hi⟩:∃ i:Nat,c.fI=(i:Int):=⟨c.fI.toNat,by omega⟩;rw [hi,cj,sX al];simp only [wk,uM];exact d7 (qgl _) ⟨by show 0<=aS .i64 (i:Int) 1; rw [fa al]; omega,by show aS .i64 (i:Int) 1<=(c.fB.length:Int); rw [fa al]; omega,h2⟩
 ·simp only [h,decide_false,cond_false,uM];exact d7 (qgl _) ⟨h0,h1,h2⟩
theorem dx{c:aL}(hc:Cu c)(n:Int):Dr (bd c n) (λv=>0<=v/\(0 < n->v < n)):=by
 unfold bd
 by_cases h:n<=0
 ·simp only [h,decide_true,cond_true];exact d7 ⟨zYY 0,λh'=>by omega⟩ hc
 ·have hn:(!(n == 0))=true:=by simp; omega
  have hr:∀ a:Int,0<=a->0<=rU .i64 a n/\(0 < n->rU .i64 a n < n):=λa ha=>by
   rw [ET ha];exact ⟨zVz _ al,λ_=>zVv _ al⟩
  simp only [h,decide_false,cond_false]
  by_cases h2:n<=256
  ·simp only [h2,decide_true,cond_true];refine dg (HF hc) λv c' hv hc'=>?_;rw [hn];exact d7 (hr v hv.1) hc'
  ·simp only [h2,decide_false,cond_false];refine dg (HF hc) λv c' hv hc'=>?_;refine dg (HF hc') λv2 c2 hv2 hc2=>?_;refine dg (HF hc2) λv3 c3 hv3 hc3=>?_;rw [hn];refine d7 (hr _ ?_) hc3;simp only;rw [mp al al,mp al al,dE (a:=v*65536) (b:=v2*256) al al,dE al al];omega
theorem Rk{c:aL}(hc:Cu c)(n:Int):Dr (ir c n) (λ_=>True):=by
 unfold ir;exact dg (dx hc n) λv c' _ hc'=>d7 trivial hc'
theorem tr{c:aL}(hc:Cu c){xs:gs}(hx:0 < xs.length):Dr (fo c xs) (λv=>v∈xs):=by
 unfold fo;refine dg (dx hc _) λv c' hv hc'=>?_;have hlt:=hv.2 al;obtain ⟨i,hi⟩:∃ i:Nat,v=(i:Int):=⟨v.toNat,by omega⟩;subst hi;have hi:i < xs.length:=by omega
 simp only [cj,sX hi,wk];exact d7 (zZY hi) hc'
theorem V7(hu:UB){c:aL}(hc:Cu c){n:Nat}(hn:n<=1000):Dr (js c (n:Int)) (λv=>v.length<=n):=by
 unfold js;rw [fa al];refine dg (dx hc _) λv c1 hv hc1=>?_;have hlt:=hv.2 al;obtain ⟨m,hm⟩:∃ m:Nat,v=(m:Int):=⟨v.toNat,by omega⟩;subst hm;have key:∀ (m k:Nat) (x:gs) (c:aL),m < k->Cu c->x.length+m<=1000->Dr (iD k x (m:Int) c.fB c.fI c.fH) (λv=>v.length<=x.length+m):=by
  intro m
  induction m with
  | zero =>
   intro k x c hk hc hx;obtain ⟨k,rfl⟩:∃ j,k=j+1:=⟨k - 1,by omega⟩;unfold iD;simp only [zVq,gt_iff_lt,Int.lt_irrefl,decide_false,cond_false,yk];exact d7 (zWK _) hc
  | succ m ih =>
   intro k x c hk hc hx;obtain ⟨k,rfl⟩:∃ j,k=j+1:=⟨k - 1,by omega⟩;unfold iD;have:((m+1:Nat):Int) > 0:=by omega
   simp only [this,decide_true,cond_true];refine dg (tr hc (xs:=[97,98,99,0,255]) ig) λv c2 hv hc2=>?_;rw [bp f6];simp only [wk];rw [db al al];have e:((m+1:Nat):Int) - 1=(m:Int):=by omega
   rw [e];refine UA (ih k _ c2 al hc2 f6) λv h=>?_;simp only [zQH,zQw,zXx] at h;omega
 refine UA (key m u [] c1 al hc1 f6) λv h=>?_;simp only [zXx] at h;omega
theorem Iq{d:ar}(h:bZ d=gi):M.DOk d:=by
 have h1:=sR h;refine ⟨by omega,by omega,by omega,λx hx=>?_⟩;have h2:=zM h x hx;rcases CH h2 with h3 | ⟨_,h3,h4⟩
 ·unfold gf at h2;rw [if_pos h3] at h2;simp only [sk,beq_iff_eq] at h2;omega
 ·omega
theorem Fe{g:Int}{b:gs}(h0:0<=g)(h1:g<=1000000)(hb:b.length<=240):ic g b=ac ⟨b,[],⟨g,0,b.length⟩,[]⟩/\bZ ⟨b,[],⟨g,0,b.length⟩,[]⟩=true:=by
 refine ⟨?_,?_⟩
 ·unfold ic;have hw:aj g 0 1000000=true:=by simp [aj,h0,h1]
  rw [bJ,hw];simp only [wk,zQY,cond_false];have:¬ ((b.length:Int) > 240):=by omega
  simp only [this,decide_false,ju,cond_false];rw [bp f6];simp
 ·simp [bZ,gN,aj,fV,h0,h1,hb];omega
def jO(d:ar)(p:dv):ar:=⟨d.fA,d.fB,d.fR,d.fP++[p]⟩
theorem ZI{p:dv}(h:p.fB.length<=1048576):jh p=ac p:=by
 unfold jh;rw [bp f6];simp
theorem KY{d:ar}{p:dv}(hd:M.DOk d)(hl:d.fP.length<=1048575)(hp:p.fB.length<=1048576):M.DOk (jO d p) :=
 ⟨hd.a,hd.b,by simp [jO]; omega,λx hx=>by
  rcases sa.1 hx with h | h
  ·exact hd.puts x h
  ·simp at h; subst h; exact hp⟩
theorem GH(hu:UB){d:ar}{p:dv}(hd:M.DOk d)(hl:d.fP.length<=1048575)(hp:p.fB.length<=1048576) :
  sG d p=ac (if bZ (jO d p) then (jO d p,gi) else (d,go)):=by
 have hap:=hd.p;unfold sG;rw [jq hu hd];simp only [wk];rw [ZI hp];simp only [wk];rw [bp f6];simp only [wk];have e:(ar.mk d.fA d.fB d.fR (d.fP++[p]))=jO d p:=rfl;rw [e,oK hu (KY hd hl hp)];simp only [wk]
 cases h:bZ (jO d p) <;> simp
def zo:List dv->ar->ar
 | [],d=>⟨d.fA,d.fB,d.fR,[]⟩
 | p :: l,d=>zo l (oL d p)
def M.sure(d:ar):ar:=if bZ d then zo d.fP d else d
theorem qdZ:∀ (l:List dv) (d:ar),(∀ p∈l,gf p=gi)->M.DOk d->M.DOk (zo l d)
 | [],d,_,hd=>⟨hd.a,hd.b,by simp [zo],by simp [zo]⟩
 | p :: l,d,hp,hd=>qdZ l _ (λq hq=>hp q Y0) (HE hd (hp p ig))
theorem qd0{d:ar}(hd:M.DOk d):M.DOk (M.sure d):=by
 unfold M.sure
 cases h:bZ d with
 | true=>exact qdZ _ _ (zM h) hd
 | false=>exact hd
theorem qbj(hu:UB)(d0:ar):∀ (l:List dv) (i:Nat) (d:ar),(∀ p∈l,gf p=gi/\p.fB.length<=1048576)->M.DOk d->bT (EE d0) (EF d0) l i (tup d)=ac (zo l d):=by
 intro l
 induction l with
 | nil=>intro i d _ _; rfl
 | cons p l ih =>
  intro i d hp hd;obtain ⟨h1,h2⟩:=hp p ig;show (mb d p).bind (λr25=>bT (EE d0) (EF d0) l (i+1) (tup r25))=_;rw [Kh hu hd h2 h1];exact ih (i+1) _ (λq hq=>hp q Y0) (HE hd h1)
theorem Is(hu:UB){d:ar}(hd:M.DOk d):tN d=ac (M.sure d):=by
 have h3:=hd.p;unfold tN M.sure;rw [jq hu hd,oK hu hd];simp only [wk]
 cases h:bZ d with
 | false=>rfl
 | true =>
  simp only [zQY,cond_false,if_true];have:=UG d (tup d) u al al;exact this.trans (qbj hu d d.fP 0 d (λp hp=>⟨zM h p hp,hd.puts p hp⟩) hd)
theorem qbk(hu:UB){c:aL}(hc:Cu c):Dr (xM c) (λp=>p.fB.length<=5):=by
 unfold xM;refine dg (Rk hc 4) λb c1 _ h1=>?_
 cases b with
 | true =>
  simp only [cond_true];refine dg (dx h1 4) λv2 c2 _ h2=>?_;refine dg (dx h2 2) λv3 c3 _ h3=>?_;refine dg (dx h3 6) λv4 c4 _ h4=>?_;exact d7 ig h4
 | false =>
  simp only [cond_false];refine dg (dx h1 2) λv2 c2 _ h2=>?_;refine dg (dx h2 9) λv3 c3 _ h3=>?_;refine dg (V7 hu h3 (n:=5) al) λv4 c4 hv h4=>?_;exact d7 hv h4
theorem qeW(hu:UB){c:aL}(hc:Cu c):Dr (Ct c) (λd=>bZ d=gi):=by
 unfold Ct;refine dg (dx hc 3) λg c1 hg h1=>?_;refine dg (V7 hu h1 (n:=9) al) λb c2 hb h2=>?_;have hg2:=hg.2 al;obtain ⟨e1,e2⟩:=Fe hg.1 al (b:=b) al;simp only [e1,wk];refine dg (dx h2 5) λn c3 hn h3=>?_;obtain ⟨m,hm⟩:∃ m:Nat,n=(m:Int):=⟨n.toNat,by omega⟩;subst hm;have hm5:=hn.2 al;have key:∀ (m k:Nat) (d:ar) (c:aL),m < k->m<=5->bZ d=true->Cu c->Dr (jj k (m:Int) d.fA d.fB d.fR.aR d.fR.bW d.fR.aT d.fP c.fB c.fI c.fH) (λd=>bZ d=gi):=by
  intro m
  induction m with
  | zero =>
   intro k d c hk _ hd hc;obtain ⟨k,rfl⟩:∃ j,k=j+1:=⟨k - 1,by omega⟩;unfold jj;simp only [zVq,gt_iff_lt,Int.lt_irrefl,decide_false,cond_false,EI];exact d7 hd hc
  | succ m ih =>
   intro k d c hk hm hd hc;obtain ⟨k,rfl⟩:∃ j,k=j+1:=⟨k - 1,by omega⟩;unfold jj;have:((m+1:Nat):Int) > 0:=by omega
   simp only [this,decide_true,cond_true];refine dg (qbk hu hc) λp c1 hp h1=>?_;have hD:=Iq hd;have hpl:=sR hd;have e:(ar.mk d.fA d.fB (ed.mk d.fR.aR d.fR.bW d.fR.aT) d.fP)=d:=rfl;rw [e,GH hu hD (p:=p) al al];simp only [wk];obtain ⟨d',b',hd',hif⟩:∃ d' b',bZ d'=gi/\(if bZ (jO d p)=gi then (jO d p,gi) else (d,go))=(d',b'):=by
    cases h:bZ (jO d p) with
    | true=>exact ⟨_,gi,h,rfl⟩
    | false=>exact ⟨_,go,hd,rfl⟩
   rw [hif];simp only;rw [Is hu (Iq hd')];simp only [wk];refine dg (Rk h1 5) λo c2 _ h2=>?_;have hs:(ew .i64 ((m+1:Nat):Int) 1)=(m:Int):=by rw [db al al]; omega
   cases o with
   | true =>
    simp only [cond_true];rw [oK hu (qd0 (Iq hd'))];simp only [wk,vg,ve,hs]
    cases hx:bZ (M.sure d') with
    | true=>exact ih k _ c2 al al hx h2
    | false=>exact ih k _ c2 al al hd' h2
   | false =>
    simp only [cond_false,vg,ve,hs];exact ih k _ c2 al al hd' h2
 exact key m u _ c3 al al e2 h3
theorem qgn(hu:UB){c:aL}(hc:Cu c):Dr (BD c) (λd=>M.DOk d/\d.fP.length<=201):=by
 unfold BD;refine dg (qeW hu hc) λd c1 hd h1=>?_;have hD:=Iq hd;have hl:=sR hd;have hok:∀ r,M.DOk ⟨d.fA,d.fB,r,d.fP⟩/\d.fP.length<=201:=λr=>⟨⟨hD.a,hD.b,hD.p,hD.puts⟩,by omega⟩;refine dg (dx h1 12) λn c2 _ h2=>?_;simp only
 cases n == 0 with
 | true =>
  simp only [cond_true];refine dg (tr h2 ig) λx c3 _ h3=>?_;exact d7 (hok _) h3
 | false =>
  simp only [cond_false]
  cases n == 1 with
  | true =>
   simp only [cond_true];refine dg (tr h2 ig) λx c3 _ h3=>?_;exact d7 (hok _) h3
  | false =>
   simp only [cond_false]
   cases n == 2 with
   | true =>
    simp only [cond_true];refine dg (tr h2 ig) λx c3 _ h3=>?_;exact d7 (hok _) h3
   | false =>
    simp only [cond_false]
    cases n == 3 with
    | true =>
     simp only [cond_true];refine dg (tr h2 ig) λx c3 _ h3=>?_;refine dg (tr h3 ig) λy c4 _ h4=>?_;rw [bp f6];simp only [wk,ql];refine d7 ⟨KY hD al (p:=⟨x,y,[1],⟨0,0,0⟩⟩) ig,by simp; omega⟩ h4
    | false=>exact d7 (hok _) h2
theorem oM(hu:UB){a:gs}(h:a.length<=1048576):mF a a=ac true:=by
 unfold mF;simp only [bne_self_eq_false,cond_false];rw [UJ a a () u al al,t6 (λx i k hx=>by unfold Js; rw [cj,hx]; simp only [wk,bne_self_eq_false,cond_false]) a 0 rfl];rfl
theorem MZ(hu:UB){d:ar}(h:M.DOk d):tU d d=ac true:=by
 have hp:=h.p;unfold tU;rw [oM hu h.a,oM hu h.b];simp only [wk,zQY,cond_false,beq_self_eq_true,bne_self_eq_false,nX];rw [Mo d d () u al al,t6 (λx i k hx=>by
  unfold EN;rw [cj,hx];have hb:=h.puts x (zQQ hx);simp only [wk,bne_self_eq_false,beq_self_eq_true,zQY,cond_false,gZ,oM hu hb]) d.fP 0 rfl]
 rfl
theorem Yv(s:Int):∀ (l:List dv) (i:Nat) (d:ar),(p8 s l i d).fP=[]
 | [],i,d=>rfl
 | p :: l,i,d=>Yv s l (i+1) _
theorem qgo{d:ar}(h:bZ d=gi)(s:Int):(M.fall d s).fP=[]:=by
 unfold M.fall;rw [h];exact Yv s d.fP 0 d
theorem LT{b:gs}{s:dR}{n:Nat}:∀ (c i j:Nat),i<=j->j < i+c->eo (M.win b j n)=s->0<=ia b s n c i
 | 0,i,j,h1,h2,_=>by omega
 | c+1,i,j,h1,h2,h3=>by
  unfold ia
  split
  ·omega
  ·rename_i hne;have:i≠j:=λh=>hne (h ▸ h3);exact LT c (i+1) j al al h3
theorem qeX(n:Int):0<=ld .u8 n/\ld .u8 n<=255:=by
 show 0<=n % 256/\n % 256<=255;omega
theorem Rl(n:Int):aw [ld .u8 n]:=λx hx=>by
 simp only [zQq] at hx;subst hx;exact qeX n
theorem Em{a b:gs}(ha:aw a)(hb:aw b):aw (a++b):=λx hx=>(sa.1 hx).elim (ha x) (hb x)
theorem KZ{a:gs}(ha:aw a)(i:Nat){v:Int}(hv:0<=v/\v<=255):aw (a.set i v):=λx hx=>by
 rcases zXw hx with h | h
 ·exact ha x h
 ·subst h; exact hv
theorem It{a:gs}(ha:aw a)(n:Nat):aw (a.take n):=λx hx=>ha x (zWJ hx)
theorem Iu{a:gs}(ha:aw a)(n:Nat):aw (a.drop n):=λx hx=>ha x (zWh hx)
theorem Yw:aw []:=λx hx=>by cases hx
def M.img(n:Nat)(b:gs):Prop:=b.length<=n/\aw b
theorem F6(hu:UB){c:aL}(hc:Cu c){n:Nat}(hn:n<=1000):Dr (js c (n:Int)) (M.img n):=by
 unfold js;rw [fa al];refine dg (dx hc _) λv c1 hv hc1=>?_;have hlt:=hv.2 al;obtain ⟨m,hm⟩:∃ m:Nat,v=(m:Int):=⟨v.toNat,by omega⟩;subst hm;have key:∀ (m k:Nat) (x:gs) (c:aL),m < k->Cu c->x.length+m<=1000->aw x->Dr (iD k x (m:Int) c.fB c.fI c.fH) (M.img (x.length+m)):=by
  intro m
  induction m with
  | zero =>
   intro k x c hk hc hx hb;obtain ⟨k,rfl⟩:∃ j,k=j+1:=⟨k - 1,by omega⟩;unfold iD;simp only [zVq,gt_iff_lt,Int.lt_irrefl,decide_false,cond_false,yk];exact d7 ⟨zWK _,hb⟩ hc
  | succ m ih =>
   intro k x c hk hc hx hb;obtain ⟨k,rfl⟩:∃ j,k=j+1:=⟨k - 1,by omega⟩;unfold iD;have:((m+1:Nat):Int) > 0:=by omega
   simp only [this,decide_true,cond_true];refine dg (tr hc (xs:=[97,98,99,0,255]) ig) λv c2 hv hc2=>?_;rw [bp f6];simp only [wk];rw [db al al];have e:((m+1:Nat):Int) - 1=(m:Int):=by omega
   rw [e];refine UA (ih k _ c2 al hc2 f6 (Em hb (Rl _))) λv h=>?_;have h1:=h.1;simp only [zQH,zQw,zXx] at h1;exact ⟨by omega,h.2⟩
 refine UA (key m u [] c1 al hc1 f6 Yw) λv h=>?_;have h1:=h.1;simp only [zXx] at h1;exact ⟨by omega,h.2⟩
theorem V8(hu:UB){c:aL}(hc:Cu c):Dr (pJ c) (M.img 16):=by
 unfold pJ;exact dg (F6 hu hc (n:=16) al) λv c1 hv hc1=>d7 hv hc1
theorem qcR{c:aL}(hc:Cu c){b:gs}(hb:b.length<=200)(hB:aw b):Dr (rX c b) (M.img 201):=by
 unfold rX;rw [bp f6];simp only [wk,zQj];have hlt:∀ {v:Int},0<=v->v < (b.length:Int)->∃ y,cM b v=ac y:=λ{v} h0 h1=>by
  obtain ⟨i,rfl⟩:∃ i:Nat,v=(i:Int):=⟨v.toNat,by omega⟩;exact ⟨b[i]'al,by rw [cj]; exact sX al⟩
 have self:M.img 201 b:=⟨by omega,hB⟩;refine dg (dx hc 6) λn c1 _ h1=>?_;simp only
 cases n == 0 with
 | true =>
  simp only [cond_true]
  by_cases hl:(b.length:Int) > 0
  ·simp only [hl,decide_true,cond_true];refine dg (dx h1 _) λv c2 hv h2=>?_;refine dg (dx h2 256) λw c3 _ h3=>?_;obtain ⟨y,hy⟩:=hlt hv.1 (hv.2 hl);simp only [hy,wk,c7];exact d7 ⟨by rw [zXk]; omega,KZ hB _ (qeX _)⟩ h3
  ·simp only [hl,decide_false,cond_false,c7];exact d7 self h1
 | false =>
  simp only [cond_false]
  cases n == 1 with
  | true =>
   simp only [cond_true];rw [fa al];refine dg (dx h1 _) λv c2 hv h2=>?_;have h3:=hv.2 al;have hs:cR 0 v (b.length:Int)=true:=by simp [cR]; omega
   simp only [hs,Hf,wk,c7];exact d7 ⟨by rw [zYx,zQk]; omega,Iu (It hB _) _⟩ h2
  | false =>
   simp only [cond_false]
   cases n == 2 with
   | true =>
    simp only [cond_true];refine dg (tr h1 ig) λv c2 _ h2=>?_;rw [bp f6];simp only [wk,c7];exact d7 ⟨by rw [zQH,zYJ]; omega,Em hB (Rl _)⟩ h2
   | false =>
    simp only [cond_false]
    cases n == 3 with
    | true =>
     simp only [cond_true]
     by_cases hl:(b.length:Int) > 0
     ·simp only [hl,decide_true,cond_true];refine dg (dx h1 _) λv c2 hv h2=>?_;obtain ⟨y,hy⟩:=hlt hv.1 (hv.2 hl);simp only [hy,wk];refine dg (dx h2 8) λw c3 hw h3=>?_;have hw0:=hw.1;simp only [hy];rw [bp hw0];simp only [wk,c7];exact d7 ⟨by rw [zXk]; omega,KZ hB _ (by unfold Zd; exact qeX _)⟩ h3
     ·simp only [hl,decide_false,cond_false,c7];exact d7 self h1
    | false =>
     simp only [cond_false,c7];exact d7 self h1
theorem qeY(hu:UB){c:aL}(hc:Cu c){b:gs}(hb:b.length<=200)(hB:aw b):Dr (uN c b) (M.img 240):=by
 unfold uN;refine dg (dx hc 5) λn c1 _ h1=>?_;simp only
 cases n == 0 with
 | true =>
  simp only [cond_true];exact dg (F6 hu h1 (n:=16) al) λv c2 hv h2=>d7 ⟨zXQ hv.1 al,hv.2⟩ h2
 | false =>
  simp only [cond_false]
  cases n == 1 with
  | true =>
   simp only [cond_true];rw [bp f6];simp only [wk,zQj];exact d7 ⟨by omega,hB⟩ h1
  | false =>
   simp only [cond_false]
   cases n == 2 with
   | true =>
    simp only [cond_true];rw [fa al];refine dg (dx h1 _) λv c2 hv h2=>?_;have h3:=hv.2 al;have h0:=hv.1;have s1:cR v (b.length:Int) (b.length:Int)=true:=by simp [cR]; omega
    have s2:cR 0 v (b.length:Int)=true:=by simp [cR]; omega
    simp only [s1,s2,Hf,wk];rw [bp f6];simp only [wk];rw [bp f6];simp only [wk];refine d7 ⟨by simp; omega,Em (Em (λx hx=>?_) (Iu (It hB _) _)) (Iu (It hB _) _)⟩ h2;simp only [zQq] at hx;omega
   | false =>
    simp only [cond_false]
    cases n == 3 with
    | true =>
     simp only [cond_true];exact d7 ⟨by simp,Yw⟩ h1
    | false =>
     simp only [cond_false];refine dg (F6 hu h1 (n:=3) al) λv c2 hv h2=>?_;refine dg (qcR h2 hb hB) λw c3 hw h3=>?_;have hv1:=hv.1;have hw1:=hw.1;simp only;rw [bp al];simp only [wk];exact d7 ⟨by rw [zQH]; omega,Em hv.2 hw.2⟩ h3
theorem kI{α:Type}(l:List α)(k:Nat){v:α}(h:l[k]?=ac v):cM l (k:Int)=ac v:=by
 unfold cM;simp [h]
def V9(c:Int):Option (Int×Nat)->Option (Int×Nat)
 | some (v,n)=>ac (v*128+(c - 128),n+1)
 | none=>cl
def M.rd:Nat->Bool->gs->Option (Int×Nat)
 | 0,_,_=>cl
 | _+1,_,[]=>cl
 | k+1,f,c :: l=>if c < 128 then (if f || decide (0 < c) then ac (c,1) else cl) else V9 c (M.rd k go l)
theorem qi3:∀ (k:Nat) (f:Bool) (l:gs) (w:Int) (j:Nat),aw l->M.rd k f l=ac (w,j)->0<=w/\(f=false->0 < w)/\j<=l.length/\1<=j/\w < 128 ^ k/\∀ K,k<=K+1->l.take j=dn K w:=by
 intro k
 induction k with
 | zero=>intro f l w j _ h; simp [M.rd] at h
 | succ k ih =>
  intro f l w j hb h
  cases l with
  | nil=>simp [M.rd] at h
  | cons c l =>
   have hc:=hb c ig;unfold M.rd at h
   by_cases hc1:c < 128
   ·rw [if_pos hc1] at h
    split at h
    ·rename_i hf;simp only [Option.some.injEq,Prod.mk.injEq] at h;obtain ⟨rfl,rfl⟩:=h;have hp:(128:Int)<=128 ^ (k+1):=by
      rw [zYH]; have:(0:Int) < 128 ^ k:=Int.pow_pos BL; omega
     refine ⟨hc.1,λh0=>by subst h0; simpa using hf,by simp,by omega,by omega,λK _=>?_⟩
     cases K with
     | zero=>simp [dn]; omega
     | succ K=>unfold dn; rw [if_pos al]; simp; omega
    ·cases h
   ·rw [if_neg hc1] at h
    cases hr:M.rd k go l with
    | none=>rw [hr] at h; cases h
    | some q =>
     obtain ⟨v,n⟩:=q;rw [hr] at h;simp only [V9,Option.some.injEq,Prod.mk.injEq] at h;obtain ⟨rfl,rfl⟩:=h;obtain ⟨h1,h2,h3,h4,h5,h6⟩:=ih go l v n (λx hx=>hb x wz6) hr;have h2:=h2 rfl;have hk:k≠0:=by intro h0; subst h0; simp [M.rd] at hr
     refine ⟨by omega,λ_=>by omega,by simp; omega,by omega,by rw [zYH]; omega,λK hK=>?_⟩;obtain ⟨K,rfl⟩:∃ K',K=K'+1:=⟨K - 1,by omega⟩;unfold dn;rw [if_neg al,List.take_succ_cons,h6 K al]
     congr 1
     ·omega
     ·congr 1; omega
theorem qcS:∀ (k K:Nat) (f:Bool) (n:Int) (t:gs),1<=k->0<=n->(f=false->0 < n)->n < 128 ^ k->k<=K+1->M.rd k f (dn K n++t)=ac (n,(dn K n).length):=by
 intro k
 induction k with
 | zero=>intro K f n t h0; omega
 | succ k ih =>
  intro K f n t h0 h1 h2 h3 h4
  by_cases h:n<=127
  ·have e:dn K n=[n]:=by
    cases K with
    | zero=>simp [dn]; omega
    | succ K=>unfold dn; rw [if_pos h]; simp; omega
   rw [e];simp only [List.singleton_append,M.rd,zYJ];rw [if_pos al,if_pos (by cases f <;> simp; exact h2 rfl)]
  ·have hk:k≠0:=by
    intro h0; subst h0;rw [show (128:Int) ^ (0+1)=128 by rfl] at h3; omega
   obtain ⟨K,rfl⟩:∃ K',K=K'+1:=⟨K - 1,by omega⟩;unfold dn;rw [if_neg h];simp only [List.cons_append,M.rd];rw [if_neg al,ih K go (n / 128) t al al (λ_=>by omega) (by rw [zYH] at h3; omega) al];simp only [V9,zQw,Option.some.injEq,Prod.mk.injEq,and_true];omega
theorem Wa{a n:Nat}(hn:n<=62)(h:a*2 ^ n < 9223372036854775808):mm .i64 (a:Int) (n:Int)=((a*2 ^ n:Nat):Int):=by
 unfold mm;rw [show min (sY (n:Int)) (IntKind.bits .i64)=n by simp [IntKind.bits]; omega];have e:(a:Int)*2 ^ n=((a*2 ^ n:Nat):Int):=by simp
 rw [e];exact wrap_i64 al al
theorem qgp{v a n:Nat}(hv:v < 2 ^ n):v ||| a*2 ^ n=v+a*2 ^ n:=by
 have h:=Nat.shiftLeft_add_eq_or_of_lt hv a;rw [Nat.shiftLeft_eq] at h;rw [Nat.or_comm,<- h,Nat.add_comm]
theorem qgq{v i:Nat}{c:Int}(hi:i<=7)(hv:v < 2 ^ (7*i))(h1:0<=c)(h2:c<=255):DM .i64 (v:Int) (mm .i64 (iK .i64 (ld .i64 c) 127) (jD .i64 7 (i:Int)))=((v+(c % 128).toNat*2 ^ (7*i):Nat):Int)/\v+(c % 128).toNat*2 ^ (7*i) < 2 ^ (7*(i+1)):=by
 have hp:(2:Nat) ^ (7*i)<=2 ^ 49:=zWZ al al;have hq:(2:Nat) ^ (7*(i+1))=128*2 ^ (7*i):=by rw [Nat.mul_add,Nat.pow_add,Nat.mul_comm]
 have hc:(c % 128).toNat < 128:=by omega
 have hm:(c % 128).toNat*2 ^ (7*i)<=127*2 ^ (7*i):=zWH _ al;rw [wrap_i64 al al,ZC,mp al al,show (7:Int)*(i:Int)=((7*i:Nat):Int) by omega,show c % 128=(((c % 128).toNat:Nat):Int) by omega];rw [show (((c % 128).toNat:Nat):Int).toNat=(c % 128).toNat by omega];have hp2:(2:Nat) ^ 49=562949953421312:=by decide
 rw [Wa al al,F4 al al,qgp hv];exact ⟨rfl,by omega⟩
def Ea(o:Option (Int×Nat))(v i a:Nat)(r:Int×Int×Bool):Prop:=match o with
 | some (w,j)=>r=((v:Int)+w*2 ^ (7*i),((a+j:Nat):Int),gi)
 | none=>r.2.2=go
theorem qcT{o:Option (Int×Nat)}{v i a x:Nat}{c:Int}{r:Int×Int×Bool}(hx:(x:Int)=c - 128)(h:Ea o (v+x*2 ^ (7*i)) (i+1) (a+1) r):Ea (V9 c o) v i a r:=by
 cases o with
 | none=>exact h
 | some q =>
  obtain ⟨w,j⟩:=q;unfold Ea at h;unfold Ea V9;dsimp only at h ⊢;rw [h];refine Prod.ext ?_ (Prod.ext ?_ rfl)
  ·dsimp only;rw [show 7*(i+1)=7*i+7 by omega,Int.pow_add,<- hx];have:((v+x*2 ^ (7*i):Nat):Int)=(v:Int)+(x:Int)*2 ^ (7*i):=by simp
   rw [this];generalize (2:Int) ^ (7*i)=p;rw [show (2:Int) ^ 7=128 by rfl,zVV,Int.mul_assoc w 128 p,zVG p 128];omega
  ·dsimp only; omega
theorem qbl{α:Type}{b:List α}{a:Nat}(h:a < b.length):b.drop a=b[a] :: b.drop (a+1):=zYZ h
def Df(n:Nat)(b:gs)(a:Int):Option (Int×Int):=if 0<=a then match M.rd n gi (b.drop a.toNat) with
  | some (v,j)=>ac (v,a+j)
  | none=>cl
 else cl
def bU(b:gs)(a:Int):Int×Int×Bool:=match Df 6 b a with
 | some (v,e)=>if v<=1000000000000 then (v,e,gi) else (0,0,go)
 | none=>(0,0,go)
theorem qcU{b:gs}(hb:aw b)(hl:b.length<=1048576)(a:Nat):∀ (m i k v:Nat),i+m=8->m < k->v < 2 ^ (7*i)->∃ r,iN k b a v i=ac r/\Ea (M.rd m (i == 0) (b.drop (a+i))) v i (a+i) r:=by
 intro m
 induction m with
 | zero =>
  intro i k v h1 h2 h3;obtain ⟨k,rfl⟩:∃ j,k=j+1:=⟨k - 1,by omega⟩;have e:¬ ((i:Int) < 8):=by omega
  refine ⟨(0,0,go),?_,rfl⟩;unfold iN wa;simp only [e,decide_false,cond_false]
 | succ m ih =>
  intro i k v h1 h2 h3;obtain ⟨k,rfl⟩:∃ j,k=j+1:=⟨k - 1,by omega⟩;have e:(i:Int) < 8:=by omega
  unfold iN;simp only [e,decide_true,cond_true];rw [db (a:=(b.length:Int)) al al]
  by_cases ha:a+i < b.length
  ·have e0:¬ ((a:Int)>=(b.length:Int) - (i:Int)):=by omega
   rw [qbl ha,dE (a:=(a:Int)) al al,show (a:Int)+(i:Int)=((a+i:Nat):Int) by omega,cj,sX ha];have hc:=hb b[a+i] (zZY ha);obtain ⟨e1,e2⟩:=qgq (i:=i) al h3 hc.1 hc.2;simp only [e0,decide_false,cond_false,wk];rw [e1,mp al al,bp al,wrap_i64 al al,dE (a:=((a+i:Nat):Int)) al al,fa al];simp only [wk,M.rd]
   by_cases hc1:b[a+i] < 128
   ·simp only [hc1,decide_true,cond_true,if_true];have hv:((v+(b[a+i] % 128).toNat*2 ^ (7*i):Nat):Int)=(v:Int)+b[a+i]*2 ^ (7*i):=by
     have:((v+(b[a+i] % 128).toNat*2 ^ (7*i):Nat):Int)=(v:Int)+(((b[a+i] % 128).toNat:Nat):Int)*2 ^ (7*i):=by simp
     rw [this,show (((b[a+i] % 128).toNat:Nat):Int)=b[a+i] by omega]
    rw [hv]
    by_cases hc2:0 < b[a+i]
    ·have hc3:b[a+i] > 0:=hc2;simp only [hc2,hc3,decide_true,cond_true,Bool.or_true,if_true,Ea];refine ⟨_,rfl,Prod.ext rfl (Prod.ext ?_ rfl)⟩;dsimp only; omega
    ·have hc3:¬ b[a+i] > 0:=hc2;simp only [hc2,hc3,decide_false,cond_false,Bool.or_false];refine ⟨_,rfl,?_⟩
     by_cases h0:i=0
     ·subst h0; simp [Ea]
     ·have e4:(i == 0)=false:=by simpa using h0
      simp only [e4,zWQ,if_false,Ea];simp; omega
   ·simp only [hc1,decide_false,cond_false,if_false];obtain ⟨r,g1,g2⟩:=ih (i+1) k _ al al e2;refine ⟨r,g1,qcT (x:=(b[a+i] % 128).toNat) al ?_⟩;rw [show (i+1 == 0)=go by rfl] at g2;exact g2
  ·have e0:(a:Int)>=(b.length:Int) - (i:Int):=by omega
   simp only [e0,decide_true,cond_true];rw [zXz al];exact ⟨(0,0,go),rfl,rfl⟩
theorem Sp(hu:UB){b:gs}(hb:aw b)(hl:b.length<=1048576){a:Int}(ha:0<=a):∃ r,xD b a=ac r/\(match Df 8 b a with | some (v,e)=>r=(v,e,gi) | none=>r.2.2=go):=by
 unfold xD Df;obtain ⟨a,rfl⟩:=zQK ha;obtain ⟨r,g1,g2⟩:=qcU hb hl a 8 0 u 0 al al ig;refine ⟨r,g1,?_⟩;rw [if_pos ha,r0];rw [zYV] at g2;unfold Ea at g2
 cases hr:M.rd 8 gi (b.drop a) with
 | none=>rw [show ((0 == 0:Bool))=gi by rfl,hr] at g2; exact g2
 | some q=>obtain ⟨w,j⟩:=q; rw [show ((0 == 0:Bool))=gi by rfl,hr] at g2; simpa using g2
def qbm(o:Option (Int×Nat))(v i a:Nat):Int×Int×Bool:=match o with
 | some (w,j)=>if (v:Int)+w*2 ^ (7*i)<=1000000000000 then ((v:Int)+w*2 ^ (7*i),((a+j:Nat):Int),gi) else (0,0,go)
 | none=>(0,0,go)
theorem qhO(o:Option (Int×Nat))(v i a x:Nat)(c:Int)(hx:(x:Int)=c - 128):qbm (V9 c o) v i a=qbm o (v+x*2 ^ (7*i)) (i+1) (a+1):=by
 cases o with
 | none=>rfl
 | some q =>
  obtain ⟨w,j⟩:=q;unfold qbm V9;dsimp only;have e:(v:Int)+(w*128+(c - 128))*2 ^ (7*i)=((v+x*2 ^ (7*i):Nat):Int)+w*2 ^ (7*(i+1)):=by
   rw [show 7*(i+1)=7*i+7 by omega,Int.pow_add,<- hx];have:((v+x*2 ^ (7*i):Nat):Int)=(v:Int)+(x:Int)*2 ^ (7*i):=by simp
   rw [this];generalize (2:Int) ^ (7*i)=p;rw [show (2:Int) ^ 7=128 by rfl,zVV,Int.mul_assoc w 128 p,zVG p 128];omega
  rw [e,show a+(j+1)=a+1+j by omega]
theorem XD{b:gs}(hb:aw b)(hl:b.length<=1048576)(a:Nat):∀ (m i k v:Nat),i+m=6->m < k->v < 2 ^ (7*i)->fy k b a v i=ac (qbm (M.rd m (i == 0) (b.drop (a+i))) v i (a+i)):=by
 intro m
 induction m with
 | zero =>
  intro i k v h1 h2 h3;obtain ⟨k,rfl⟩:∃ j,k=j+1:=⟨k - 1,by omega⟩;have e:¬ ((i:Int) < 6):=by omega
  unfold fy Al;simp only [e,decide_false,cond_false]; rfl
 | succ m ih =>
  intro i k v h1 h2 h3;obtain ⟨k,rfl⟩:∃ j,k=j+1:=⟨k - 1,by omega⟩;have e:(i:Int) < 6:=by omega
  have en:¬ ((a:Int) < 0):=by omega
  unfold fy oj;simp only [e,en,decide_true,decide_false,cond_true,cond_false];rw [db (a:=(b.length:Int)) al al]
  by_cases ha:a+i < b.length
  ·have e0:¬ ((a:Int)>=(b.length:Int) - (i:Int)):=by omega
   rw [qbl ha,dE (a:=(a:Int)) al al,show (a:Int)+(i:Int)=((a+i:Nat):Int) by omega,cj,sX ha];have hc:=hb b[a+i] (zZY ha);obtain ⟨e1,e2⟩:=qgq (i:=i) al h3 hc.1 hc.2;simp only [e0,decide_false,cond_false,wk];unfold uX;rw [e1,mp al al,bp al,wrap_i64 al al,dE (a:=(a:Int)) (b:=(i:Int)) al al,dE (a:=(a:Int)+(i:Int)) al al,fa al];simp only [wk,M.rd]
   by_cases hc1:b[a+i] < 128
   ·simp only [hc1,decide_true,cond_true,if_true];have hv:((v+(b[a+i] % 128).toNat*2 ^ (7*i):Nat):Int)=(v:Int)+b[a+i]*2 ^ (7*i):=by
     have:((v+(b[a+i] % 128).toNat*2 ^ (7*i):Nat):Int)=(v:Int)+(((b[a+i] % 128).toNat:Nat):Int)*2 ^ (7*i):=by simp
     rw [this,show (((b[a+i] % 128).toNat:Nat):Int)=b[a+i] by omega]
    rw [hv];have hgt:∀ x:Int,decide (x > 1000000000000)=!decide (x<=1000000000000):=λx=>by rw [<- decide_not,decide_eq_decide]; omega
    have hs:((a:Int)+(i:Int)+1)=((a+i+1:Nat):Int):=by omega
    rw [hs]
    by_cases hc2:b[a+i]=0
    ·have e5:¬ (0 < b[a+i]):=by omega
     have e6:(b[a+i] == 0)=true:=by simpa using hc2
     by_cases h0:i=0
     ·subst h0;have hv0:v=0:=by simpa using h3
      subst hv0;simp only [e6,cond_true,hgt,qbm];rw [hc2];rfl
     ·have e4:(i == 0)=false:=by simpa using h0
      have e7:(i:Int) > 0:=by omega
      simp only [e4,e5,e6,e7,decide_true,decide_false,cond_true,Bool.or_false,zWQ,if_false,qbm]
    ·have e5:0 < b[a+i]:=by omega
     have e6:(b[a+i] == 0)=false:=by simpa using hc2
     simp only [e5,e6,decide_true,cond_false,Bool.or_true,if_true,hgt,qbm]
     by_cases hq:(v:Int)+b[a+i]*2 ^ (7*i)<=1000000000000
     ·simp [hq]
     ·simp [hq]
   ·simp only [hc1,decide_false,cond_false,if_false];rw [ih (i+1) k _ al al e2,show (i+1 == 0)=go by rfl,qhO _ v i (a+i) (b[a+i] % 128).toNat _ al];rfl
  ·have e0:(a:Int)>=(b.length:Int) - (i:Int):=by omega
   simp only [e0,decide_true,cond_true];rw [zXz al]; rfl
theorem mw(hu:UB){b:gs}(hb:aw b)(hl:b.length<=1048576)(a:Int):i4 b a=ac (bU b a):=by
 unfold i4 bU Df
 by_cases ha:0<=a
 ·obtain ⟨a,rfl⟩:=zQK ha;have h:=XD hb hl a 6 0 u 0 al al ig;rw [zYV] at h;rw [show fy u b (a:Int) 0 0=_ from h,if_pos ha,r0,show (0 == 0:Bool)=gi by rfl];unfold qbm
  cases M.rd 6 gi (b.drop a) with
  | none=>rfl
  | some q=>obtain ⟨w,j⟩:=q; simp
 ·obtain ⟨u,hz⟩:∃ j,u=j+1:=⟨u - 1,by omega⟩;rw [hz];rw [if_neg ha];unfold fy oj;have e:a < 0:=by omega
  simp [e]
theorem LU{α:Type}(b:List α)(a j:Nat):b.take (a+j)=b.take a++(b.drop a).take j:=List.take_add
theorem O9{n:Nat}{b:gs}{a v e:Int}(hb:aw b)(h:Df n b a=ac (v,e))(hn:n<=10):0<=a/\a < e/\e<=b.length/\0<=v/\v < 128 ^ n/\b.take e.toNat=b.take a.toNat++dn 9 v:=by
 unfold Df at h
 by_cases ha:0<=a
 ·rw [if_pos ha] at h
  cases hr:M.rd n gi (b.drop a.toNat) with
  | none=>rw [hr] at h; cases h
  | some q =>
   obtain ⟨w,j⟩:=q;rw [hr] at h;simp only [Option.some.injEq,Prod.mk.injEq] at h;obtain ⟨rfl,rfl⟩:=h;obtain ⟨h1,h2,h3,h4,h5,h6⟩:=qi3 n gi _ w j (λx hx=>hb x (zWh hx)) hr;rw [zYx] at h3;refine ⟨ha,by omega,by omega,h1,h5,?_⟩;rw [show (a+(j:Int)).toNat=a.toNat+j by omega,LU,h6 9 al]
 ·rw [if_neg ha] at h; cases h
theorem gO{b:gs}{a v e:Int}(hb:aw b)(h:bU b a=(v,e,gi)):0<=a/\a < e/\e<=b.length/\0<=v/\v<=1000000000000/\b.take e.toNat=b.take a.toNat++dn 9 v:=by
 unfold bU at h
 cases hr:Df 6 b a with
 | none=>rw [hr] at h; cases h
 | some q =>
  obtain ⟨w,e'⟩:=q;rw [hr] at h;dsimp only at h
  split at h
  ·simp only [Prod.mk.injEq,and_true] at h;obtain ⟨rfl,rfl⟩:=h;have:=O9 hb hr al;exact ⟨this.1,this.2.1,this.2.2.1,this.2.2.2.1,by assumption,this.2.2.2.2.2⟩
  ·cases h
theorem eH(b:gs)(a:Int):(∃ v e,bU b a=(v,e,gi))\/bU b a=(0,0,go):=by
 unfold bU
 split
 ·split
  ·exact .inl ⟨_,_,rfl⟩
  ·exact .inr rfl
 ·exact .inr rfl
theorem M0{p:gs}{n:Int}(t:gs)(h0:0<=n)(h1:n<=1000000000000):bU (p++dn 9 n++t) p.length=(n,((p.length+(dn 9 n).length:Nat):Int),gi):=by
 unfold bU Df;rw [if_pos al,r0,zQJ,List.drop_left,qcS 6 9 gi n t al h0 (λh=>by cases h) (by rw [show (128:Int) ^ 6=4398046511104 by decide]; omega) al];simp [h1]
def n5(m:af):Bool:=(m.aR == 0) && (m.au == 0) && (m.aT == 0) && (m.aI.length == 0)
theorem F7(m:af):l7 m=ac (n5 m):=by
 unfold l7 n5;rw [show ((m.aI.length:Int) == 0)=(m.aI.length == 0) from Uy _ 0]
 cases m.aR == 0 <;> cases m.au == 0 <;> cases m.aT == 0 <;> rfl
theorem Pa(m:af):jN m ⟨0,0,0,[]⟩=n5 m:=by
 unfold jN n5 M.same
 cases h:m.aI with
 | nil=>simp [Im]
 | cons s l=>simp
def iQ(m:jc):Bool :=
 if m.bH=1 then (m.aR == 0) && (m.aH.aR != 0) && cG m.aH && ((m.cW == 0) && (m.cO == 0) && (m.fI == 0) && (m.fB.length == 0))
 else if m.bH=2 then aj m.aR 0 1000000 && n5 m.aH && bB m.cW && bB m.cO && (m.fI == 0) && (m.fB.length == 0)
 else if m.bH=3 then aj m.aR 1 1000000 && n5 m.aH && (m.cW == 0) && (m.cO == 0) && aj m.fI 0 39 && aj m.fB.length 1 6
 else if m.bH=4 then aj m.aR 0 1000000 && n5 m.aH && ((m.cW == 0) && (m.cO == 0) && (m.fI == 0) && (m.fB.length == 0))
 else go
theorem GI(hu:UB){m:jc}(hs:m.aH.aI.length<=1048576):Bx m=ac (iQ m):=by
 unfold Bx iQ tK;simp only [yS hu hs,Pa,jn hu m.aH (show m.aH.aI.length<=1073741824 by omega),jp,bJ,wk];rw [show ((m.fB.length:Int) == 0)=(m.fB.length == 0) from Uy _ 0];generalize cG m.aH=x1;generalize n5 m.aH=x2;generalize bB m.cW=x3;generalize bB m.cO=x4;generalize aj m.aR 0 1000000=x5;generalize aj m.aR 1 1000000=x6;generalize aj m.fI 0 39=x7;generalize aj m.fB.length 1 6=x8;generalize (m.fB.length == 0)=x9;generalize (m.aH.aR != 0)=x10;generalize (m.aR == 0)=x11;generalize (m.cW == 0)=x12;generalize (m.cO == 0)=x13;generalize (m.fI == 0)=x14
 by_cases h1:m.bH=1
 ·simp only [h1,beq_self_eq_true,cond_true,if_true]
  cases x1 <;> cases x10 <;> cases x11 <;> cases x12 <;> cases x13 <;> cases x14 <;> cases x9 <;> rfl
 ·have e1:(m.bH == 1)=false:=by simpa using h1
  by_cases h2:m.bH=2
  ·simp only [h2,e1,beq_self_eq_true,cond_true,if_true]
   cases x5 <;> cases x2 <;> cases x3 <;> cases x4 <;> cases x14 <;> cases x9 <;> cases x12 <;> cases x13 <;> rfl
  ·have e2:(m.bH == 2)=false:=by simpa using h2
   by_cases h3:m.bH=3
   ·simp only [h3,beq_self_eq_true,cond_true,if_true]
    cases x6 <;> cases x2 <;> cases x12 <;> cases x13 <;> cases x7 <;> cases x8 <;> cases x14 <;> cases x9 <;> rfl
   ·have e3:(m.bH == 3)=false:=by simpa using h3
    by_cases h4:m.bH=4
    ·simp only [h4,beq_self_eq_true,cond_true,if_true]
     cases x5 <;> cases x2 <;> cases x12 <;> cases x13 <;> cases x14 <;> cases x9 <;> rfl
    ·have e4:(m.bH == 4)=false:=by simpa using h4
     simp only [e1,e2,e3,e4,h1,h2,h3,h4,cond_false,if_false]
     cases x12 <;> cases x13 <;> cases x14 <;> rfl
def Ch:af×Int×Bool:=(⟨0,0,0,[]⟩,0,go)
def ub:Nat->gs->Int->List dR->Option (List dR×Int)
 | 0,_,a,acc=>ac (acc,a)
 | n+1,b,a,acc=>match Df 8 b a with
  | some (v,e)=>if (cr v).2 then ub n b e (acc++[eo (cr v).1]) else cl
  | none=>cl
def Bb(g s l:Int):Option (List dR×Int)->af×Int×Bool
 | some (ss,e)=>if cG ⟨g,s,l,ss⟩ then (⟨g,s,l,ss⟩,e,gi) else Ch
 | none=>Ch
theorem qcV(size len:Int):∀ (l:List dR) (i:Nat),jM size len l i=true->∀ s∈l,(cr s.fS).2=true:=by
 intro l
 induction l with
 | nil=>intro i _ s hs; simp at hs
 | cons x l ih =>
  intro i h s hs;simp only [jM,rE,sk] at h;rcases Ir.1 hs with rfl | hs
  ·exact h.1.1.1
  ·exact ih (i+1) h.2 s hs
theorem Yx{g s l:Int}{ss:List dR}(h:∃ x∈ss,(cr x.fS).2=go):cG ⟨g,s,l,ss⟩=false:=by
 obtain ⟨x,hx,hb⟩:=h
 cases hm:cG ⟨g,s,l,ss⟩ with
 | false=>rfl
 | true =>
  unfold cG at hm;dsimp only at hm
  split at hm
  ·simp only [sk,beq_iff_eq,List.length_eq_zero_iff] at hm;rw [hm.2] at hx; simp at hx
  ·simp only [sk] at hm;have:=qcV _ _ _ _ hm.2 x hx;rw [this] at hb; cases hb
theorem TT(hu:UB){b:gs}(hb:aw b)(hl:b.length<=1048576)(r1 r2 r3:Int×Int×Bool):∀ (m i k:Nat) (a:Int) (acc:List dR),i+m=(bu r2.1 r3.1).toNat\/(m=0/\(bu r2.1 r3.1).toNat<=i)->m < k->acc.length+m<=1000->0<=a->(∃ x∈acc,(cr x.fS).2=go)->er k b r1 r2 r3 a i acc=ac Ch:=by
 have hk:=blocks_range r2.1 r3.1;intro m
 induction m with
 | zero =>
  intro i k a acc h1 h2 h3 h4 h5;obtain ⟨k,rfl⟩:∃ j,k=j+1:=⟨k - 1,by omega⟩;have e:¬ ((i:Int) < bu r2.1 r3.1):=by omega
  unfold er kt om;simp only [jm,wk,e,decide_false,cond_false];rw [jn hu _ (show acc.length<=1073741824 by omega),Yx h5]; rfl
 | succ m ih =>
  intro i k a acc h1 h2 h3 h4 h5;obtain ⟨k,rfl⟩:∃ j,k=j+1:=⟨k - 1,by omega⟩;have e:(i:Int) < bu r2.1 r3.1:=by omega
  obtain ⟨r,g1,g2⟩:=Sp hu hb hl h4;unfold er kt om;simp only [jm,wk,e,decide_true,cond_true,g1,Dd hu]
  by_cases hg:r1.1 > 0
  ·simp only [hg,decide_true,cond_true]
   cases hr:Df 8 b a with
   | none=>rw [hr] at g2; rw [g2]; rfl
   | some q =>
    obtain ⟨v,e'⟩:=q;rw [hr] at g2;rw [g2];have hv:=Cc v;have hp:=O9 hb hr al;dsimp only;simp only [zQY,cond_false];rw [qr hu hv.1 al];simp only [wk];rw [bp f6,fa al];obtain ⟨x,hx,hbx⟩:=h5;exact ih (i+1) k e' _ al al f6 al ⟨x,by simp [hx],hbx⟩
  ·simp only [hg,decide_false,cond_false];rw [jn hu _ (show acc.length<=1073741824 by omega),Yx h5]; rfl
theorem XE(hu:UB){b:gs}(hb:aw b)(hl:b.length<=1048576){r1 r2 r3:Int×Int×Bool}(hg:0 < r1.1):∀ (m i k:Nat) (a:Int) (acc:List dR),i+m=(bu r2.1 r3.1).toNat->m < k->acc.length+m<=1000->0<=a->er k b r1 r2 r3 a i acc=ac (Bb r1.1 r2.1 r3.1 (ub m b a acc)):=by
 have hk:=blocks_range r2.1 r3.1;intro m
 induction m with
 | zero =>
  intro i k a acc h1 h2 h3 h4;obtain ⟨k,rfl⟩:∃ j,k=j+1:=⟨k - 1,by omega⟩;have e:¬ ((i:Int) < bu r2.1 r3.1):=by omega
  unfold er kt om;simp only [jm,wk,e,decide_false,cond_false];rw [jn hu _ (show acc.length<=1073741824 by omega)];simp only [wk,ub,Bb,Ch]
  cases cG ⟨r1.1,r2.1,r3.1,acc⟩ <;> rfl
 | succ m ih =>
  intro i k a acc h1 h2 h3 h4;obtain ⟨k,rfl⟩:∃ j,k=j+1:=⟨k - 1,by omega⟩;have e:(i:Int) < bu r2.1 r3.1:=by omega
  have hg':r1.1 > 0:=hg;obtain ⟨r,g1,g2⟩:=Sp hu hb hl h4;unfold er kt;simp only [jm,wk,e,hg',decide_true,cond_true,g1,Dd hu,ub]
  cases hr:Df 8 b a with
  | none=>rw [hr] at g2; rw [g2]; rfl
  | some q =>
   obtain ⟨v,e'⟩:=q;rw [hr] at g2;rw [g2];have hv:=Cc v;have hp:=O9 hb hr al;dsimp only;simp only [zQY,cond_false];rw [qr hu hv.1 al];simp only [wk];rw [bp f6,fa al];simp only [wk]
   cases h:(cr v).2 with
   | false =>
    simp only [zWQ,if_false];exact TT hu hb hl r1 r2 r3 m (i+1) k e' _ al al f6 al ⟨_,List.mem_append_right _ (List.mem_singleton.2 rfl),h⟩
   | true =>
    simp only [if_true];have hs:eo (cr v).1=⟨(eo (cr v).1).fW,v⟩:=by
     have:=GD (s:=v) (b:=(cr v).1) (by rw [<- h]);rw [this]
    rw [<- hs];exact ih (i+1) k e' _ al al f6 al
theorem Rm(hu:UB)(b:gs){r1 r2 r3:Int×Int×Bool}(hg:r1.1=0)(k:Nat)(a:Int):er (k+1) b r1 r2 r3 a 0 []=ac (Bb r1.1 r2.1 r3.1 (ac ([],a))):=by
 have hg':¬ r1.1 > 0:=by omega
 unfold er kt om;simp only [jm,wk,hg',decide_false];have:∀ c:Bool,(bif c then (kj ⟨r1.1,r2.1,r3.1,[]⟩).bind λr22=>bif !r22 then ac ((⟨0,0,0,[]⟩,0,go):af×Int×Bool) else ac (⟨r1.1,r2.1,r3.1,[]⟩,a,gi) else (kj ⟨r1.1,r2.1,r3.1,[]⟩).bind λr22=>bif !r22 then ac ((⟨0,0,0,[]⟩,0,go):af×Int×Bool) else ac (⟨r1.1,r2.1,r3.1,[]⟩,a,gi))=ac (Bb r1.1 r2.1 r3.1 (ac ([],a))):=by
  intro c;rw [jn hu _ (show ([]:List dR).length<=1073741824 by simp)];simp only [wk,Bb,Ch]
  cases c <;> cases cG ⟨r1.1,r2.1,r3.1,[]⟩ <;> rfl
 exact this _
def tu(b:gs)(a:Int):af×Int×Bool :=
 let g1:=bU b a
 let g2:=bU b g1.2.1
 let g3:=bU b g2.2.1
 if g1.2.2 && g2.2.2 && g3.2.2 then Bb g1.1 g2.1 g3.1 (ub (bu g2.1 g3.1).toNat b g3.2.1 []) else Ch
theorem Sq{s l:Int}{ss:List dR}{e:Int}(h:bu s l≠0):Bb 0 s l (ac (ss,e))=Ch:=by
 unfold Bb cG;dsimp only;have hz:¬ (s=0):=by
  intro h0; subst h0
  apply h
  unfold bu cF aj;simp
 simp [hz]
theorem Wb(hu:UB){b:gs}(hb:aw b)(hl:b.length<=1048576)(a:Int):uY b a=ac (tu b a):=by
 unfold uY tu qT;simp only [mw hu hb hl,wk];rcases eH b a with ⟨v1,e1,h1⟩ | h1
 ·rw [h1];rcases eH b e1 with ⟨v2,e2,h2⟩ | h2
  ·dsimp only;rw [h2];rcases eH b e2 with ⟨v3,e3,h3⟩ | h3
   ·dsimp only;rw [h3];have p1:=gO hb h1;have p3:=gO hb h3;have hk:=blocks_range v2 v3;simp only [zQY,cond_false,zXG,if_true]
    by_cases hg:0 < v1
    ·exact XE hu hb hl (r1:=(v1,e1,gi)) (r2:=(v2,e2,gi)) (r3:=(v3,e3,gi)) hg (bu v2 v3).toNat 0 u e3 [] ig al f6 al
    ·have h0:v1=0:=by omega
     subst h0;obtain ⟨u',hz⟩:∃ j,u=j+1:=⟨u - 1,by omega⟩;rw [hz];rw [Rm (r1:=(0,e1,gi)) (r2:=(v2,e2,gi)) (r3:=(v3,e3,gi)) hu b rfl u' e3];dsimp only
     by_cases hn:bu v2 v3=0
     ·rw [hn]; rfl
     ·rw [Sq hn]
      cases hs:ub (bu v2 v3).toNat b e3 [] with
      | none=>rfl
      | some q=>obtain ⟨ss,e⟩:=q; rw [Sq hn]
   ·dsimp only;rw [h3]; rfl
  ·dsimp only;rw [h2]; simp;rfl
 ·rw [h1]; simp;rfl
theorem Wc(xs:gs):(strOfNums xs).toList=xs.map λn=>UInt8.ofNat n.toNat:=by
 rw [ByteArray.toList_eq,strOfNums_data]
theorem qi4{a b:Int}(h1:0<=a)(h2:a<=255)(h3:0<=b)(h4:b<=255)(h:UInt8.ofNat a.toNat=UInt8.ofNat b.toNat):a=b:=by
 have:=congrArg UInt8.toNat h;simp only [UInt8.toNat_ofNat'] at this;omega
theorem ZJ{a b:gs}(ha:aw a)(hb:aw b):mv a b=decide (a=b):=by
 unfold mv;rw [zXg,beq_iff_eq,decide_eq_true_eq,Wc,Wc];constructor
 ·intro h
  revert b
  induction a with
  | nil=>intro b _ h; cases b with
   | nil=>rfl
   | cons y b=>simp at h
  | cons x a ih =>
   intro b hb h
   cases b with
   | nil=>simp at h
   | cons y b =>
    simp only [zXV,List.cons.injEq] at h;have hx:=ha x ig;have hy:=hb y ig;rw [qi4 hx.1 hx.2 hy.1 hy.2 h.1,ih (λz hz=>ha z W8) (λz hz=>hb z W8) h.2]
 ·intro h; rw [h]
def BY(b:gs)(a:Int):gs×Int×Bool :=
 let g:=bU b a
 if g.2.2 && decide (g.1<=6) && decide (g.1<=b.length - g.2.1) then (M.win b g.2.1.toNat g.1.toNat,g.2.1+g.1,gi) else ([],0,go)
theorem TU(hu:UB){b:gs}(hb:aw b)(hl:b.length<=1048576)(a:Int):sE b a 6=ac (BY b a):=by
 unfold sE BY pt;simp only [mw hu hb hl,wk];rcases eH b a with ⟨v,e,h⟩ | h
 ·rw [h];have p:=gO hb h;dsimp only
  by_cases h6:v<=6
  ·have h7:¬ v > 6:=by omega
   simp only [h6,h7,decide_true,decide_false,zQY,cond_false,zQh];obtain ⟨v,rfl⟩:=zQK p.2.2.2.1;obtain ⟨e,rfl⟩:=zQK (show 0<=e by omega);rw [db al al]
   by_cases hv:(v:Int)<=(b.length:Int) - (e:Int)
   ·have hv':¬ ((v:Int) > (b.length:Int) - (e:Int)):=by omega
    simp only [hv,hv',decide_true,decide_false,cond_false,if_true];rw [rF al,ga al al,bp f6];simp only [wk,r0,zQj];rw [show ((e+v:Nat):Int)=(e:Int)+(v:Int) by omega]; rfl
   ·have hv':(v:Int) > (b.length:Int) - (e:Int):=by omega
    simp [hv,hv']
  ·have h7:v > 6:=by omega
   simp [h6,h7]
 ·rw [h]; simp
theorem qbn{b p:gs}{a e:Int}(hb:aw b)(h:BY b a=(p,e,gi)):0<=a/\a < e/\e<=b.length/\aw p/\p.length<=6/\b.take e.toNat=(b.take a.toNat++dn 9 p.length)++p:=by
 unfold BY at h;rcases eH b a with ⟨v,e',g⟩ | g
 ·rw [g] at h;have q:=gO hb g;dsimp only at h
  split at h
  ·rename_i hc;simp only [zQh,sk,decide_eq_true_eq] at hc;simp only [Prod.mk.injEq,and_true] at h;obtain ⟨rfl,rfl⟩:=h;obtain ⟨v,rfl⟩:=zQK q.2.2.2.1;obtain ⟨e',rfl⟩:=zQK (show 0<=e' by omega);simp only [r0] at q ⊢;have hw:(M.win b e' v).length=v:=by unfold M.win; rw [zYx,zQk]; omega
   refine ⟨q.1,by omega,by omega,i6 hb _ _,by omega,?_⟩;rw [show ((e':Int)+(v:Int)).toNat=e'+v by omega,LU,q.2.2.2.2.2,hw,VZ]
  ·cases h
 ·rw [g] at h; cases h
def yf(c:gs)(s:Int):gs:=aY (aY c (iK .i64 s 1048575)) (ng .i64 s 20)
def ep(m:jc):gs :=
 if m.bH=1 then vI (aY [] m.bH) m.aH
 else if m.bH=2 then yf (yf (aY (aY [] m.bH) m.aR) m.cW) m.cO
 else if m.bH=3 then aY (aY (aY (aY [] m.bH) m.aR) m.fI) m.fB.length++m.fB
 else if m.bH=4 then aY (aY [] m.bH) m.aR
 else aY [] m.bH
def dQ(m:jc):gs:=if iQ m then aY (ep m) (dc (ep m)) else []
structure M.MsgWf (m:jc):Prop where
 sums:m.aH.aI.length<=1048576
 wf:wL m.aH
 b:aw m.fB
 len:m.fB.length<=1048576
theorem jz{b:gs}(h:aw b)(n:Int):aw (aY b n):=by
 unfold aY
 split
 ·exact F3 h (Yt 9 n)
 ·exact h
theorem XF:∀ (l:List dR) (b:gs),aw b->aw (mO b l):=by
 intro l
 induction l with
 | nil=>intro b h; exact h
 | cons s l ih=>intro b h; exact ih _ (F3 h (Yt 9 s.fS))
theorem ZK{b:gs}(h:aw b)(m:af):aw (vI b m):=by
 unfold vI
 split
 ·exact XF _ _ (jz (jz (jz h _) _) _)
 ·exact h
theorem LV(b:gs)(m:af):(vI b m).length<=b.length+430:=by
 unfold vI
 split
 ·rename_i h;have h0:=BX h;have h1:=ci b m.aR;have h2:=ci (aY b m.aR) m.au;have h3:=ci (aY (aY b m.aR) m.au) m.aT;have h4:=V3 m.aI (aY (aY (aY b m.aR) m.au) m.aT);omega
 ·omega
theorem mP:aw []:=λx hx=>by simp at hx
theorem We{m:jc}(hm:M.MsgWf m):aw (ep m)/\(ep m).length<=1049600:=by
 have k:=ci [] m.bH;have kb:=jz mP m.bH;have g:=ci (aY [] m.bH) m.aR;have gb:=jz kb m.aR;simp only [zXx] at k;unfold ep yf
 split
 ·exact ⟨ZK kb _,by have:=LV (aY [] m.bH) m.aH; omega⟩
 ·split
  ·refine ⟨jz (jz (jz (jz gb _) _) _) _,?_⟩;have h1:=ci (aY (aY [] m.bH) m.aR) (iK .i64 m.cW 1048575);have h2:=ci (aY (aY (aY [] m.bH) m.aR) (iK .i64 m.cW 1048575)) (ng .i64 m.cW 20);have h3:=ci (aY (aY (aY (aY [] m.bH) m.aR) (iK .i64 m.cW 1048575)) (ng .i64 m.cW 20)) (iK .i64 m.cO 1048575);have h4:=ci (aY (aY (aY (aY (aY [] m.bH) m.aR) (iK .i64 m.cW 1048575)) (ng .i64 m.cW 20)) (iK .i64 m.cO 1048575)) (ng .i64 m.cO 20);omega
  ·split
   ·refine ⟨F3 (jz (jz gb _) _) hm.b,?_⟩;have h1:=ci (aY (aY [] m.bH) m.aR) m.fI;have h2:=ci (aY (aY (aY [] m.bH) m.aR) m.fI) m.fB.length;have h3:=hm.len;rw [zQH]; omega
   ·split
    ·exact ⟨gb,by omega⟩
    ·exact ⟨kb,by omega⟩
theorem gF{c:gs}{n:Int}(h0:0<=n)(h1:n<=1000000000000):aY c n=c++dn 9 n:=by
 unfold aY;rw [if_pos (by simp [aj]; omega)]
theorem qbo{b:gs}(hb:aw b):∀ (n:Nat) (a:Int) (acc l:List dR) (e:Int),ub n b a acc=ac (l,e)->0<=a->a<=b.length->∃ l',l=acc++l'/\a<=e/\e<=b.length/\b.take e.toNat=mO (b.take a.toNat) l'/\∀ s∈l',s.fS<=9223372036854775807:=by
 intro n
 induction n with
 | zero =>
  intro a acc l e h h0 h1;simp only [ub,Option.some.injEq,Prod.mk.injEq] at h;obtain ⟨rfl,rfl⟩:=h;exact ⟨[],by simp,by omega,h1,rfl,by simp⟩
 | succ n ih =>
  intro a acc l e h h0 h1;unfold ub at h
  cases hr:Df 8 b a with
  | none=>rw [hr] at h; cases h
  | some q =>
   obtain ⟨v,e1⟩:=q;rw [hr] at h;dsimp only at h;have p:=O9 hb hr al
   split at h
   ·rename_i hv;obtain ⟨l',g1,g2,g3,g4,g5⟩:=ih e1 _ l e h al p.2.2.1;have hs:(eo (cr v).1).fS=v:=by
     have:=GD (s:=v) (b:=(cr v).1) (by rw [<- hv]);rw [this]
    have hp:(128:Int) ^ 8=72057594037927936:=by decide
    refine ⟨eo (cr v).1 :: l',by rw [g1]; simp,by omega,g3,?_,?_⟩
    ·rw [g4,p.2.2.2.2.2,mO,hs]
    ·intro s hs';rcases Ir.1 hs' with rfl | hs'
     ·rw [hs]; omega
     ·exact g5 s hs'
   ·cases h
theorem qcW{b:gs}(hb:aw b){a e:Int}{m:af}(h:tu b a=(m,e,gi)):0<=a/\a<=e/\e<=b.length/\cG m=gi/\wL m/\b.take e.toNat=vI (b.take a.toNat) m:=by
 unfold tu at h;rcases eH b a with ⟨v1,e1,h1⟩ | h1
 ·rw [h1] at h;dsimp only at h;rcases eH b e1 with ⟨v2,e2,h2⟩ | h2
  ·rw [h2] at h;dsimp only at h;rcases eH b e2 with ⟨v3,e3,h3⟩ | h3
   ·rw [h3] at h;simp only [zXG,if_true] at h;have p1:=gO hb h1;have p2:=gO hb h2;have p3:=gO hb h3
    cases hs:ub (bu v2 v3).toNat b e3 [] with
    | none=>rw [hs] at h; cases h
    | some q =>
     obtain ⟨ss,e'⟩:=q;rw [hs] at h;unfold Bb at h;dsimp only at h
     split at h
     ·rename_i hm;simp only [Prod.mk.injEq,and_true] at h;obtain ⟨rfl,rfl⟩:=h;obtain ⟨l',g1,g2,g3,g4,g5⟩:=qbo hb _ e3 [] ss e' hs al p3.2.2.1;rw [zQj] at g1;subst g1;refine ⟨p1.1,by omega,g3,hm,g5,?_⟩;unfold vI;rw [if_pos hm,gF p1.2.2.2.1 p1.2.2.2.2.1,gF p2.2.2.2.1 p2.2.2.2.2.1,gF p3.2.2.2.1 p3.2.2.2.2.1,g4,p3.2.2.2.2.2,p2.2.2.2.2.2,p1.2.2.2.2.2]
     ·cases h
   ·rw [h3] at h; simp [Ch] at h
  ·rw [h2] at h; simp [Ch] at h
 ·rw [h1] at h; simp [Ch] at h
def DQ(n:Int):Bool:=decide (n < 1048576)
def TV:af:=⟨0,0,0,[]⟩
def HG(b:gs)(a:Int):Option (jc×Int) :=
 let g0:=bU b a
 let g1:=bU b g0.2.1
 let g2:=bU b g1.2.1
 let g3:=bU b g2.2.1
 let g4:=bU b g3.2.1
 if g0.2.2 && ((g1.2.2 && DQ g1.1) && ((g2.2.2 && DQ g2.1) && ((g3.2.2 && DQ g3.1) && (g4.2.2 && DQ g4.1)))) then ac (⟨2,g0.1,TV,g1.1+g2.1*1048576,g3.1+g4.1*1048576,0,[]⟩,g4.2.1) else cl
def Ki(b:gs)(a:Int):Option (jc×Int) :=
 let g0:=bU b a
 let g1:=bU b g0.2.1
 let g2:=BY b g1.2.1
 if g0.2.2 && g1.2.2 && g2.2.2 then ac (⟨3,g0.1,TV,0,0,g1.1,g2.1⟩,g2.2.1) else cl
theorem Ci{b:gs}(hb:aw b)(a:Int):0<=(bU b a).1:=by
 rcases eH b a with ⟨v,e,h⟩ | h
 ·rw [h]; exact (gO hb h).2.2.2.1
 ·rw [h]; exact zYY 0
theorem qgr(hu:UB){b:gs}(hb:aw b)(hl:b.length<=1048576)(k:Nat)(a:Int)(acc:gs)(i:Nat)(hi:i < 4)(hacc:acc.length<=4)(p2:Int)(r2:Int×Int×Bool) :
  dp (k+1) b a acc i p2 r2=if (bU b a).2.2 && DQ (bU b a).1 then dp k b (bU b a).2.1 (acc++[(bU b a).1]) ((i+1:Nat):Int) p2 r2 else ac (⟨p2,r2.1,TV,0,0,0,[]⟩,0,go):=by
 have e:(i:Int) < 4:=by omega
 rw [dp];simp only [e,decide_true,cond_true,mw hu hb hl,wk];unfold mY DQ;rw [bp f6,fa al]
 cases h:(bU b a).2.2 with
 | false=>rfl
 | true =>
  by_cases hq:(bU b a).1 < 1048576
  ·have hq':¬ (bU b a).1>=1048576:=by omega
   simp [hq,hq']
  ·have hq':(bU b a).1>=1048576:=by omega
   simp [hq,hq',TV]
theorem Pb{x y:Int}(h1:0<=x)(h2:x < 1048576)(h3:0<=y)(h4:y < 1048576):aS .i64 x (mm .i64 y 20)=x+y*1048576/\DM .i64 x (mm .i64 y 20)=x+y*1048576/\iK .i64 (x+y*1048576) 1048575=x/\ng .i64 (x+y*1048576) 20=y:=by
 obtain ⟨a,rfl⟩:=zQK h1;obtain ⟨c,rfl⟩:=zQK h3;have hp:(2:Nat) ^ 20=1048576:=by decide
 have e:=Wa (a:=c) (n:=20) al (by rw [hp]; omega);rw [hp] at e;rw [show ((20:Nat):Int)=20 by rfl] at e;rw [e];refine ⟨by rw [dE al al]; omega,?_,?_,?_⟩
 ·have h:=qgp (v:=a) (a:=c) (n:=20) (by rw [hp]; omega);rw [hp] at h;rw [F4 al al,h]; omega
 ·rw [show (a:Int)+(c:Int)*1048576=((a+c*1048576:Nat):Int) by omega,show (1048575:Int)=((1048575:Nat):Int) by rfl,qbd al al,show (1048575:Nat)=2 ^ 20 - 1 by decide,zZg,hp]; omega
 ·rw [show (a:Int)+(c:Int)*1048576=((a+c*1048576:Nat):Int) by omega,show (20:Int)=((20:Nat):Int) by rfl,qbe al,hp]; omega
theorem qcX(hu:UB){b:gs}(hb:aw b)(hl:b.length<=1048576)(a:Int):∃ r,gI b a 2=ac r/\(match HG b a with | some (m,e)=>r=(m,e,gi) | none=>r.2.2=go):=by
 obtain ⟨u',hu'⟩:∃ j,u=j+5:=⟨u - 5,by omega⟩;unfold gI HG;rw [show ((2:Int) == 1)=go by rfl,show ((2:Int) == 2)=gi by rfl];simp only [cond_false,cond_true,mw hu hb hl,wk]
 cases h0:(bU b a).2.2 with
 | false=>exact ⟨_,rfl,rfl⟩
 | true =>
  simp only [zQY,cond_false,zQh];have st:∀ (k:Nat) (a:Int) (acc:gs) (i:Nat),i < 4->acc.length<=4->∀ r2:Int×Int×Bool,dp (k+1) b a acc i 2 r2=if (bU b a).2.2 && DQ (bU b a).1 then dp k b (bU b a).2.1 (acc++[(bU b a).1]) ((i+1:Nat):Int) 2 r2 else ac (⟨2,r2.1,TV,0,0,0,[]⟩,0,go):=λk a acc i h1 h2 r2=>qgr hu hb hl k a acc i h1 h2 2 r2
  generalize hv:bU b a=g0;rw [show dp u b g0.2.1 [] 0 2 g0=dp (u'+4+1) b g0.2.1 [] ((0:Nat):Int) 2 g0 by rw [<- hu']; rfl,st _ _ _ 0 al ig]
  cases h1:((bU b g0.2.1).2.2 && DQ (bU b g0.2.1).1) with
  | false=>exact ⟨_,rfl,rfl⟩
  | true =>
   simp only [if_true,zQh,zQj];rw [show u'+4=u'+3+1 by omega,st _ _ _ 1 al ig];generalize hv1:bU b g0.2.1=g1
   cases h2:((bU b g1.2.1).2.2 && DQ (bU b g1.2.1).1) with
   | false=>exact ⟨_,rfl,rfl⟩
   | true =>
    simp only [if_true,zQh];rw [show u'+3=u'+2+1 by omega,st _ _ _ 2 al ig];generalize hv2:bU b g1.2.1=g2
    cases h3:((bU b g2.2.1).2.2 && DQ (bU b g2.2.1).1) with
    | false=>exact ⟨_,rfl,rfl⟩
    | true =>
     simp only [if_true,zQh];rw [show u'+2=u'+1+1 by omega,st _ _ _ 3 al ig];generalize hv3:bU b g2.2.1=g3
     cases h4:((bU b g3.2.1).2.2 && DQ (bU b g3.2.1).1) with
     | false=>exact ⟨_,rfl,rfl⟩
     | true =>
      simp only [if_true];rw [dp];have e:¬ (((3+1:Nat):Int) < 4):=by omega
      simp only [e,decide_false,cond_false];unfold te td;rw [show (0:Int)=((0:Nat):Int) by rfl,show (1:Int)=((1:Nat):Int) by rfl,show (2:Int)=((2:Nat):Int) by rfl,show (3:Int)=((3:Nat):Int) by rfl];simp only [cj,zQj,List.cons_append,zQJ,zQz,List.getElem?_cons_succ,wk];refine ⟨_,rfl,?_⟩;have r1:0<=g1.1/\g1.1 < 1048576:=by
       rw [<- hv1]; refine ⟨Ci hb _,?_⟩;simp only [sk,DQ,decide_eq_true_eq] at h1; exact h1.2
      have r2:0<=g2.1/\g2.1 < 1048576:=by
       rw [<- hv2]; refine ⟨Ci hb _,?_⟩;simp only [sk,DQ,decide_eq_true_eq] at h2; exact h2.2
      have r3:0<=g3.1/\g3.1 < 1048576:=by
       rw [<- hv3]; refine ⟨Ci hb _,?_⟩;simp only [sk,DQ,decide_eq_true_eq] at h3; exact h3.2
      have r4:0<=(bU b g3.2.1).1/\(bU b g3.2.1).1 < 1048576:=by
       refine ⟨Ci hb _,?_⟩;simp only [sk,DQ,decide_eq_true_eq] at h4; exact h4.2
      rw [(Pb r1.1 r1.2 r2.1 r2.2).1,(Pb r3.1 r3.2 r4.1 r4.2).1];rfl
theorem Iv{k:Int}(h0:0<=k)(h1:k<=1000000000000):aY [] k=dn 9 k:=by rw [gF h0 h1]; rfl
theorem Pc(k g w d i:Int){p:gs}(hp:aw p)(hl:p.length<=1048576):M.MsgWf ⟨k,g,TV,w,d,i,p⟩:=⟨by simp [TV],by intro s hs; simp [TV] at hs,hp,hl⟩
theorem qj4{b:gs}(hb:aw b){a e:Int}{m:jc}(ha:b.take a.toNat=dn 9 2)(h:HG b a=ac (m,e)):M.MsgWf m/\0<=e/\e<=b.length/\ep m=b.take e.toNat:=by
 unfold HG at h;dsimp only at h
 split at h
 ·rename_i hc;simp only [sk,DQ,decide_eq_true_eq] at hc;obtain ⟨k0,⟨k1,l1⟩,⟨k2,l2⟩,⟨k3,l3⟩,k4,l4⟩:=hc;simp only [Option.some.injEq,Prod.mk.injEq] at h;obtain ⟨rfl,rfl⟩:=h;rcases (eH b a).symm with h0 | ⟨v0,e0,h0⟩
  ·simp [h0] at k0
  simp only [h0] at k0 k1 l1 k2 l2 k3 l3 k4 l4 ⊢;rcases (eH b e0).symm with h1 | ⟨v1,e1,h1⟩
  ·simp [h1] at k1
  simp only [h1] at k0 k1 l1 k2 l2 k3 l3 k4 l4 ⊢;rcases (eH b e1).symm with h2 | ⟨v2,e2,h2⟩
  ·simp [h2] at k2
  simp only [h2] at k0 k1 l1 k2 l2 k3 l3 k4 l4 ⊢;rcases (eH b e2).symm with h3 | ⟨v3,e3,h3⟩
  ·simp [h3] at k3
  simp only [h3] at k0 k1 l1 k2 l2 k3 l3 k4 l4 ⊢;rcases (eH b e3).symm with h4 | ⟨v4,e4,h4⟩
  ·simp [h4] at k4
  simp only [h4] at k0 k1 l1 k2 l2 k3 l3 k4 l4 ⊢;have p0:=gO hb h0;have p1:=gO hb h1;have p2:=gO hb h2;have p3:=gO hb h3;have p4:=gO hb h4;have s1:=Pb p1.2.2.2.1 l1 p2.2.2.2.1 l2;have s2:=Pb p3.2.2.2.1 l3 p4.2.2.2.1 l4;refine ⟨Pc _ _ _ _ _ mP ig,by omega,p4.2.2.1,?_⟩;show yf (yf (aY (aY [] 2) v0) (v1+v2*1048576)) (v3+v4*1048576)=b.take e4.toNat;unfold yf;rw [s1.2.2.1,s1.2.2.2,s2.2.2.1,s2.2.2.2,Iv al al,gF p0.2.2.2.1 p0.2.2.2.2.1,gF p1.2.2.2.1 p1.2.2.2.2.1,gF p2.2.2.2.1 p2.2.2.2.2.1,gF p3.2.2.2.1 p3.2.2.2.2.1,gF p4.2.2.2.1 p4.2.2.2.2.1];rw [p4.2.2.2.2.2,p3.2.2.2.2.2,p2.2.2.2.2.2,p1.2.2.2.2.2,p0.2.2.2.2.2,ha]
 ·cases h
def Iw(r:jc×Int×Bool)(o:Option (jc×Int)):Prop:=match o with
 | some (m,e)=>r=(m,e,gi)
 | none=>r.2.2=go\/(r.1.aH.aI.length<=1048576/\iQ r.1=go)
def M.puts(b:gs)(o:Option (jc×Int)):Prop:=∀ m e,o=ac (m,e)->M.MsgWf m/\0<=e/\e<=b.length/\ep m=b.take e.toNat
theorem Yy{α:Type}(r:α×Int×Bool)(h:r.2.2=gi):r=(r.1,r.2.1,gi):=by rw [<- h]
def Kj(b:gs)(a:Int):Option (jc×Int):=if (tu b a).2.2 then ac (⟨1,0,(tu b a).1,0,0,0,[]⟩,(tu b a).2.1) else cl
def Kk(b:gs)(a:Int):Option (jc×Int):=if (bU b a).2.2 then ac (⟨4,(bU b a).1,TV,0,0,0,[]⟩,(bU b a).2.1) else cl
theorem qcY(hu:UB){b:gs}(hb:aw b)(hl:b.length<=1048576)(a:Int):∃ r,gI b a 1=ac r/\Iw r (Kj b a):=by
 refine ⟨(⟨1,0,(tu b a).1,0,0,0,[]⟩,(tu b a).2.1,(tu b a).2.2),?_,?_⟩
 ·unfold gI;rw [Wb hu hb hl]; rfl
 ·unfold Kj Iw
  cases h:(tu b a).2.2 with
  | false=>exact .inl rfl
  | true=>rfl
theorem qj5{b:gs}(hb:aw b){a:Int}(ha:b.take a.toNat=dn 9 1):M.puts b (Kj b a):=by
 intro m e h;unfold Kj at h
 split at h
 ·rename_i hc;simp only [Option.some.injEq,Prod.mk.injEq] at h;obtain ⟨rfl,rfl⟩:=h;have p:=qcW hb (Yy _ hc);refine ⟨⟨by have:=BX p.2.2.2.1; show (tu b a).1.aI.length<=_; omega,p.2.2.2.2.1,mP,by simp⟩,by omega,p.2.2.1,?_⟩;rw [p.2.2.2.2.2,ha,<- Iv al al];rfl
 ·cases h
theorem qcZ(hu:UB){b:gs}(hb:aw b)(hl:b.length<=1048576)(a:Int):∃ r,gI b a 3=ac r/\Iw r (Ki b a):=by
 unfold gI Ki;rw [show ((3:Int) == 1)=go by rfl,show ((3:Int) == 2)=go by rfl,show ((3:Int) == 3)=gi by rfl];simp only [cond_false,cond_true,mw hu hb hl,TU hu hb hl,wk];rcases eH b a with ⟨v0,e0,h0⟩ | h0
 ·rw [h0];dsimp only;rcases eH b e0 with ⟨v1,e1,h1⟩ | h1
  ·rw [h1];dsimp only
   cases h2:(BY b e1).2.2 with
   | false=>exact ⟨_,rfl,.inl rfl⟩
   | true=>exact ⟨_,rfl,rfl⟩
  ·rw [h1]; exact ⟨_,rfl,.inl rfl⟩
 ·rw [h0]; exact ⟨_,rfl,.inl rfl⟩
theorem qj6{b:gs}(hb:aw b){a:Int}(ha:b.take a.toNat=dn 9 3):M.puts b (Ki b a):=by
 intro m e h;unfold Ki at h;dsimp only at h
 split at h
 ·rename_i hc;simp only [sk] at hc;obtain ⟨⟨k0,k1⟩,k2⟩:=hc;simp only [Option.some.injEq,Prod.mk.injEq] at h;obtain ⟨rfl,rfl⟩:=h;have p0:=gO hb (Yy _ k0);have p1:=gO hb (Yy _ k1);have p2:=qbn hb (Yy _ k2);generalize bU b a=g0 at *;generalize bU b g0.2.1=g1 at *;generalize BY b g1.2.1=g2 at *;refine ⟨Pc _ _ _ _ _ p2.2.2.2.1 al,by omega,p2.2.2.1,?_⟩;show aY (aY (aY (aY [] 3) g0.1) g1.1) g2.1.length++g2.1=b.take g2.2.1.toNat;rw [Iv al al,gF p0.2.2.2.1 p0.2.2.2.2.1,gF p1.2.2.2.1 p1.2.2.2.2.1,gF al al,p2.2.2.2.2.2,p1.2.2.2.2.2,p0.2.2.2.2.2,ha]
 ·cases h
theorem qc0(hu:UB){b:gs}(hb:aw b)(hl:b.length<=1048576)(a:Int):∃ r,gI b a 4=ac r/\Iw r (Kk b a):=by
 unfold gI Kk;rw [show ((4:Int) == 1)=go by rfl,show ((4:Int) == 2)=go by rfl,show ((4:Int) == 3)=go by rfl];simp only [cond_false,cond_true,mw hu hb hl,wk];rcases eH b a with ⟨v0,e0,h0⟩ | h0
 ·rw [h0]; exact ⟨_,rfl,rfl⟩
 ·rw [h0]; exact ⟨_,rfl,.inl rfl⟩
theorem qj7{b:gs}(hb:aw b){a:Int}(ha:b.take a.toNat=dn 9 4):M.puts b (Kk b a):=by
 intro m e h;unfold Kk at h
 split at h
 ·rename_i k0;simp only [Option.some.injEq,Prod.mk.injEq] at h;obtain ⟨rfl,rfl⟩:=h;have p0:=gO hb (Yy _ k0);generalize bU b a=g0 at *;refine ⟨Pc _ _ _ _ _ mP ig,by omega,p0.2.2.1,?_⟩;show aY (aY [] 4) g0.1=b.take g0.2.1.toNat;rw [Iv al al,gF p0.2.2.2.1 p0.2.2.2.2.1,p0.2.2.2.2.2,ha]
 ·cases h
def M1(b:gs)(kind a:Int):Option (jc×Int):=if kind=1 then Kj b a else if kind=2 then HG b a else if kind=3 then Ki b a else if kind=4 then Kk b a else cl
theorem Wf{m:jc}(h1:m.bH≠1)(h2:m.bH≠2)(h3:m.bH≠3)(h4:m.bH≠4):iQ m=false:=by
 unfold iQ; rw [if_neg h1,if_neg h2,if_neg h3,if_neg h4]
theorem qeZ(hu:UB){b:gs}(hb:aw b)(hl:b.length<=1048576)(k a:Int):∃ r,gI b a k=ac r/\Iw r (M1 b k a):=by
 unfold M1
 by_cases h1:k=1
 ·subst h1; exact qcY hu hb hl a
 ·rw [if_neg h1]
  by_cases h2:k=2
  ·subst h2;obtain ⟨r,g1,g2⟩:=qcX hu hb hl a;refine ⟨r,g1,?_⟩;rw [if_pos rfl];unfold Iw
   cases hp:HG b a with
   | none=>rw [hp] at g2; exact .inl g2
   | some q=>rw [hp] at g2; exact g2
  ·rw [if_neg h2]
   by_cases h3:k=3
   ·subst h3; exact qcZ hu hb hl a
   ·rw [if_neg h3]
    by_cases h4:k=4
    ·subst h4; exact qc0 hu hb hl a
    ·rw [if_neg h4];have e1:(k == 1)=false:=by simpa using h1
     have e2:(k == 2)=false:=by simpa using h2
     have e3:(k == 3)=false:=by simpa using h3
     unfold gI;rw [e1,e2,e3];simp only [cond_false,mw hu hb hl,wk];rcases eH b a with ⟨v0,e0,h0⟩ | h0
     ·rw [h0];exact ⟨(⟨k,v0,⟨0,0,0,[]⟩,0,0,0,[]⟩,e0,gi),rfl,.inr ⟨by simp,Wf h1 h2 h3 h4⟩⟩
     ·rw [h0]; exact ⟨_,rfl,.inl rfl⟩
theorem Yz{b:gs}(hb:aw b){k a:Int}(ha:b.take a.toNat=dn 9 k):M.puts b (M1 b k a):=by
 unfold M1
 by_cases h1:k=1
 ·subst h1; exact qj5 hb ha
 ·rw [if_neg h1]
  by_cases h2:k=2
  ·subst h2; exact λm e h=>qj4 hb ha h
  ·rw [if_neg h2]
   by_cases h3:k=3
   ·subst h3; exact qj6 hb ha
   ·rw [if_neg h3]
    by_cases h4:k=4
    ·subst h4; exact qj7 hb ha
    ·rw [if_neg h4]; intro m e h; cases h
def F8:jc×Bool:=(⟨0,0,⟨0,0,0,[]⟩,0,0,0,[]⟩,go)
def dj(b:gs):jc×Bool:=if (bU b 0).2.2 && decide (b.length<=400) then match M1 b (bU b 0).1 (bU b 0).2.1 with
  | some (m,e)=>if iQ m && decide (dQ m=b) then (m,gi) else F8
  | none=>F8
 else F8
theorem Pd{m:jc}(h:M.MsgWf m):aw (dQ m):=by
 unfold dQ
 split
 ·exact jz (We h).1 _
 ·exact mP
theorem qi5{b:gs}(hb:aw b){m:jc}{e:Int}(h0:0<=e)(h1:e<=b.length)(hp:ep m=b.take e.toNat)(hm:iQ m=gi):dQ m=b↔bU b e=(dc (b.take e.toNat),(b.length:Int),gi):=by
 have hw:=O5 (b.take e.toNat);unfold dQ;rw [if_pos hm,hp,gF hw.1 al];have hlen:(b.take e.toNat).length=e.toNat:=by rw [zQk]; omega
 constructor
 ·intro h;have g:=M0 (p:=b.take e.toNat) (n:=dc (b.take e.toNat)) [] hw.1 al;rw [zWV,h,hlen,show ((e.toNat:Nat):Int)=e by omega] at g;rw [g];refine Prod.ext rfl (Prod.ext ?_ rfl);have:=congrArg zZX h;rw [zQH,hlen] at this;dsimp only; omega
 ·intro h;have p:=gO hb h;rw [<- p.2.2.2.2.2,r0,List.take_length]
theorem Ff(hu:UB){b:gs}(hb:aw b)(hl:b.length<=1048576):nE b=ac (dj b):=by
 unfold nE dj u3 uZ qU;simp only [mw hu hb hl,wk];rcases eH b 0 with ⟨k,a,h0⟩ | h0
 ·rw [h0];have p:=gO hb h0;have ha:b.take a.toNat=dn 9 k:=by rw [p.2.2.2.2.2]; rfl
  by_cases h4:b.length<=400
  ·have h4':¬ ((b.length:Int) > 400):=by omega
   simp only [h4,h4',decide_true,decide_false,zXG,if_true,zQY,cond_false];obtain ⟨r,g1,g2⟩:=qeZ hu hb hl k a;rw [g1];simp only [wk]
   cases hr:M1 b k a with
   | none =>
    rw [hr] at g2;rcases g2 with g2 | ⟨g2,g3⟩
    ·rw [g2]; rfl
    ·cases hf:r.2.2 with
     | false=>rfl
     | true =>
      rw [GI hu g2,g3]; rfl
   | some q =>
    obtain ⟨m,e⟩:=q;rw [hr] at g2;have w:=Yz hb ha m e hr;unfold Iw at g2;dsimp only at g2;rw [g2];dsimp only;rw [GI hu w.1.sums];simp only [zQY,cond_false,wk]
    cases hm:iQ m with
    | false=>rfl
    | true =>
     have hs:=qi5 hb w.2.1 w.2.2.1 w.2.2.2 hm;obtain ⟨e,rfl⟩:=zQK w.2.1;simp only [zQY,cond_false,r0] at hs ⊢;rw [show (0:Int)=((0:Nat):Int) by rfl,ga al (by have:=w.2.2.1; omega)];simp only [wk,r0,zVQ];rw [A8 hu (λx hx=>hb x (zWJ hx)) (by rw [zQk]; omega)];simp only [wk];rcases eH b e with ⟨v,e',h5⟩ | h5
     ·rw [h5] at hs ⊢;simp only [zQY,cond_false]
      by_cases he:e'=(b.length:Int)
      ·by_cases hv:v=dc (b.take e)
       ·have:dQ m=b:=hs.2 (by rw [he,hv]);simp [he,hv,this]
       ·have:¬ dQ m=b:=λh=>hv (by have:=hs.1 h; simp only [Prod.mk.injEq] at this; exact this.1);have hv':(v != dc (b.take e))=true:=by simpa using hv
        simp [he,this,F8];rw [hv']; rfl
      ·have:¬ dQ m=b:=λh=>he (by have:=hs.1 h; simp only [Prod.mk.injEq] at this; exact this.2.1);have he':(e' != (b.length:Int))=true:=by simpa using he
       simp [this,F8];rw [he']; rfl
     ·rw [h5] at hs ⊢;have:¬ dQ m=b:=λh=>by have:=hs.1 h; simp at this
      simp [this,F8]
  ·have h4':(b.length:Int) > 400:=by omega
   simp [h4,h4',F8]
 ·rw [h0]; simp [F8]
theorem M2(hu:UB){w:World}(hl:w.bj.length<=1048576)(ev:du):iO u 0 w ev=ac (w.bj.any λp=>mv p.fB ev.fP.fB):=by
 rw [Mg w ev () u al al];have:∀ (l:List ak) (i:Nat),bT (Ez w ev) (ze w ev) l i ()=ac (l.any λp=>mv p.fB ev.fP.fB):=by
  intro l
  induction l with
  | nil=>intro i; rfl
  | cons x l ih =>
   intro i;simp only [bT,ze,Ba,wk,zVx];rw [ih (i+1)]
   cases mv x.fB ev.fP.fB <;> rfl
 exact this _ 0
def Km(w:World)(i:Nat):Bool:=match w.fN[i]? with | some x=>x.aG == 5 | none=>go
def CI(w:World):gs:=((zXW 0 w.fN.length).filter (Km w)).map λ(k:Nat)=>(k:Int)
theorem Rn{w:World}{i:Nat}{x:aD}(h:w.fN[i]?=ac x):Km w i=(x.aG == 5):=by unfold Km; rw [h]
theorem Kn(hu:UB){w:World}(hn:w.fN.length<=1048576):zI w=ac (CI w):=by
 unfold zI gJ;rw [uJ w _ u al al,KX (Km w) w.fN w.fN 0 [] ig ig]
 ·simp [lH,fL,CI]
 ·intro x i s k hx hs;have:=F5 hx;unfold lI dB xS;simp only [wk,Rn hx];rw [bp f6]; rfl
theorem Wg(hu:UB){w:World}(hn:w.fN.length<=1048576):CA w=ac (CI w):=by
 unfold CA;rw [Qo w _ u al al,KX (Km w) w.fN w.fN 0 [] ig ig]
 ·simp [Hb,AL,CI]
 ·intro x i s k hx hs;have:=F5 hx;unfold Hc rm;simp only [Rn hx];rw [bp f6]; rfl
theorem qgs(hu:UB){c:aL}(hc:Cu c):Dr (BE c) (λm=>m.aI.length<=41/\wL m):=by
 unfold BE sg;obtain ⟨b,c1,e1,hb,h1⟩:=V8 hu hc;obtain ⟨n,c2,e2,_,h2⟩:=dx h1 5;obtain ⟨s,c3,e3,_,h3⟩:=dx h2 5;have hb1:=hb.1;rw [e1];simp only [wk,e2,e3];rw [ye hu hb.2 al];simp only [wk];generalize hm:dZ (aS .i64 1 n) b (aS .i64 2 s)=m;have hl:m.aI.length<=40:=hm ▸ Hz _ _ _;have hw:wL m:=hm ▸ V2 _ b _ hb.2;refine dg (dx h3 10) λv c4 _ h4=>?_;simp only
 cases v == 0 with
 | true =>
  simp only [cond_true];exact dg (tr h4 ig) λx c5 _ h5=>d7 ⟨by show m.aI.length<=41; omega,hw⟩ h5
 | false =>
  simp only [cond_false]
  cases v == 1 with
  | true =>
   simp only [cond_true];exact dg (tr h4 ig) λx c5 _ h5=>d7 ⟨by show m.aI.length<=41; omega,hw⟩ h5
  | false =>
   simp only [cond_false]
   cases v == 2 with
   | true=>exact d7 ⟨by show m.aI.length<=41; omega,hw⟩ h4
   | false =>
    simp only [cond_false]
    cases v == 3 with
    | true =>
     simp only [cond_true];rw [bp f6];simp only [wk];refine d7 ⟨by show (m.aI++[dR.mk 1 257]).length<=41; simp; omega,λx hx=>?_⟩ h4;rcases sa.1 hx with h | h
     ·exact hw x h
     ·simp only [zQq] at h;subst h;show (257:Int)<=9223372036854775807;omega
    | false =>
     simp only [cond_false]
     cases v == 4 with
     | false=>exact d7 ⟨by show m.aI.length<=41; omega,hw⟩ h4
     | true =>
      simp only [cond_true]
      by_cases hp:(m.aI.length:Int) > 0
      ·simp only [hp,decide_true,cond_true];have hlt:0 < m.aI.length:=by omega
       have e0:cM m.aI 0=ac (m.aI[0]'hlt):=kI m.aI 0 (sX hlt);simp only [e0,wk];refine d7 ⟨?_,λx hx=>?_⟩ h4
       ·show (m.aI.set _ _).length<=41;rw [zXk]; omega
       ·rcases zXw hx with h | h
        ·exact hw x h
        ·subst h;have hq:=hw _ (zZY hlt);exact hq
      ·simp only [hp,decide_false,cond_false];exact d7 ⟨by show m.aI.length<=41; omega,hw⟩ h4
theorem qbp(hu:UB)(d0:ar):∀ (l:List dv) (i:Nat) (d:ar),(∀ p∈l,gf p=gi)->M.DOk d->bT (na d0) (iW d0) l i (tup d)=ac (zo l d):=by
 intro l
 induction l with
 | nil=>intro i d _ _; rfl
 | cons p l ih =>
  intro i d hp hd;have h0:=hp p ig;simp only [bT,iW,ef,Cy,wk,cond_true,zo];rw [show (ar.mk (tup d).1 (tup d).2.1 (ed.mk (tup d).2.2.1 (tup d).2.2.2.1 (tup d).2.2.2.2.1) (tup d).2.2.2.2.2)=d by rfl,TS hu hd h0];exact ih (i+1) _ (λq hq=>hp q Y0) (HE hd h0)
theorem ZL(hu:UB){d:ar}(hd:M.DOk d):G7 d=ac (M.sure d):=by
 have h3:=hd.p;unfold G7 iq M.sure;rw [HC hu hd,Fc hu hd];simp only [wk]
 cases h:bZ d with
 | false=>rfl
 | true =>
  simp only [zQY,cond_false,if_true];have e:=qbp hu d d.fP 0 d (zM h) hd;rw [<- xd d (tup d) u al al] at e;rw [show ct u d 0 d.fA d.fB d.fR.aR d.fR.bW d.fR.aT d.fP=_ from e]; rfl
theorem ZM(g:Int){b:gs}(hb:b.length<=1048576):∃ e,v6 g b=ac e/\ic g b=ac e/\M.DOk e:=by
 unfold v6 ic Bw;rw [c9,bJ];simp only [wk];have h0:(0:Int)<=(b.length:Int):=Int.natCast_nonneg _;have key:∀ x:Bool,∃ e,s9 g b x=ac e/\ju g b x=ac e/\M.DOk e:=by
  intro x;unfold s9 ju fZ
  cases x with
  | true=>exact ⟨_,rfl,rfl,⟨by simp,by simp,by simp,by simp⟩⟩
  | false =>
   simp only [cond_false,h0,decide_true,beq_self_eq_true,Bool.true_or,zXG,Hf,wk];rw [bp f6,wk,bp f6,bp f6];exact ⟨⟨b,[],⟨g,0,b.length⟩,[]⟩,by simp,by simp,⟨hb,by simp,by simp,by simp⟩⟩
 cases aj g 0 1000000 with
 | true=>simp only [zQY,cond_false]; exact key _
 | false=>simp only [zZH,cond_true]; exact key _
theorem TW{n:Nat}(h:n<=40):wy n=ac ((2 ^ n - 1:Nat):Int):=by
 unfold wy;have h1:aj (n:Int) 0 40=true:=by simp [aj]; omega
 rw [c9,h1];simp only [wk,zQY,cond_false];have h2:(2:Nat) ^ n<=2 ^ 40:=zWZ al h;have h3:0 < (2:Nat) ^ n:=Nat.pow_pos al;rw [bp al,Hy al];generalize (2:Nat) ^ n=p at *;rw [db al al];simp only [wk]
 congr 1
 omega
theorem qc1{n i:Nat}(hn:n<=40)(hi:i < n):dL ((2 ^ n - 1:Nat):Int) (i:Int)=true:=by
 unfold dL;have h2:(2:Nat) ^ n<=2 ^ 40:=zWZ al hn;have h3:0 < (2:Nat) ^ n:=Nat.pow_pos al;have ha:bB ((2 ^ n - 1:Nat):Int)=true:=by
  simp only [bB,aj,sk,decide_eq_true_eq];omega
 have hb:fu (i:Int)=true:=by simp only [fu,aj,sk,decide_eq_true_eq]; omega
 rw [ha,hb,r0,r0,zYg];simp [hi]
theorem qc2(i:Int):dL 0 i=false:=by simp [dL]
theorem qbq:∀ (l:List dv) (d:ar),(zo l d).fP=[]
 | [],d=>rfl
 | p :: l,d=>qbq l _
def fY{α:Type}(f:α->Nat->Bool):List α->Nat->Bool
 | [],_=>gi
 | x :: l,i=>f x i && fY f l (i+1)
theorem oN{α:Type}{fin:Unit->Option Bool}{body:α->Nat->Unit->(Unit->Option Bool)->Option Bool}(f:α->Nat->Bool){xs:List α}{b:Bool}(hf:fin ()=ac b)(i0:Nat)(hb:∀ x i k,i0<=i->xs[i]?=ac x->body x i () k=bif f x i then k () else ac go) :
  ∀ (l:List α) (i:Nat),i0<=i->l=xs.drop i->bT fin body l i ()=ac (fY f l i && b):=by
 intro l
 induction l with
 | nil=>intro i _ _; simp [bT,fY,hf]
 | cons x l ih =>
  intro i h0 h;have hx:xs[i]?=ac x:=by
   have:=congrArg zZq h
   simpa [zXh] using this.symm
  have hl:l=xs.drop (i+1):=by
   have:=congrArg zZz h
   simpa [zYK] using this
  simp only [bT,fY];rw [hb x i _ h0 hx,ih (i+1) al hl]
  cases f x i <;> simp
def Dg(x:Int)(i:Nat):Bool:=if i=0 then x == -1 else aj x 0 ((i:Int) - 1)
def dm(t:bD):Bool:=fY Dg t.bl 0 && aj t.bl.length 1 7
theorem vK(hu:UB){t:bD}(hl:t.bl.length<=1073741824):se t=ac (dm t):=by
 unfold se dm;rw [P2 t () u al al];refine oN Dg (by simp [GN,Aa,c9]) 0 (λx i k _ hx=>?_) _ 0 (zWK _) rfl;have hi:i < t.bl.length:=(ln.1 hx).1;unfold GO gR Dg
 by_cases h0:i=0
 ·subst h0
  by_cases h1:x=-1
  ·subst h1; simp
  ·have:(x == -1)=false:=by simpa using h1
   simp [this,bne]
 ·have e0:((i:Int) == 0)=false:=by simpa using h0
  have e1:decide ((i:Int) > 0)=true:=by simp; omega
  simp (disch:=omega) only [e0,e1,h0,cond_true,cond_false,db,c9,wk,↓reduceIte]
  cases aj x 0 ((i:Int) - 1) <;> rfl
theorem oO(hu:UB){t:bD}(hl:t.bl.length<=1073741824):pK t=ac (dm t):=by
 unfold pK dm zR;simp only [bJ,wk]
 cases hw:aj t.bl.length 1 7 with
 | false=>simp
 | true =>
  have:=bC hw
  match hup:t.bl with
  | []=>rw [hup] at this; simp at this
  | x :: l =>
   have h1:cM (x :: l) 0=ac x:=rfl;simp only [zQY,cond_false,h1,wk,fY,Dg,↓reduceIte,zXH]
   by_cases hx:x=-1
   ·subst hx;simp only [bne_self_eq_false,cond_false,beq_self_eq_true,zQh];have h:=qaU (fin:=GL t) (body:=λy i s k=>Bp t y i s k) (xs:=t.bl) (λk s i=>lX k i t) al (λ_ _ _=>rfl) (t.bl.drop 1) u 1 () rfl f6;have h2:lX u 1 t=ac (fY Dg (t.bl.drop 1) 1 && gi):=by
     rw [show ((1:Int))=((1:Nat):Int) from rfl,h];refine oN Dg rfl 1 (λy i k h0 hy=>?_) _ 1 (zWK _) rfl;have hi:i < t.bl.length:=(ln.1 hy).1;have e0:i≠0:=by omega
     unfold Bp Dg;simp (disch:=omega) only [e0,db,bJ,wk,↓reduceIte]
     cases aj y 0 ((i:Int) - 1) <;> rfl
    rw [h2,hup];simp
   ·have:(x == -1)=false:=by simpa using hx
    simp [this,bne]
def eY(up:gs):Nat->Int->gs
 | 0,_=>[]
 | n+1,k=>if aj k 0 ((up.length:Int) - 1) then k :: eY up n ((up[k.toNat]?).getD 0) else []
def Bc(t:bD)(k:Int):gs:=eY t.bl t.bl.length k
theorem Ix(up:gs):∀ (n:Nat) (k:Int),(eY up n k).length<=n
 | 0,_=>by simp [eY]
 | n+1,k=>by
  unfold eY
  split
  ·have:=Ix up n ((up[k.toNat]?).getD 0);simp; omega
  ·simp
theorem Fg{up:gs}{k:Int}(h:aj k 0 ((up.length:Int) - 1)=gi):cM up k=ac ((up[k.toNat]?).getD 0):=by
 have:=bC h;have h1:k.toNat < up.length:=by omega
 simp [cM,this.1,h1]
theorem rH{t:bD}(hl:t.bl.length<=1048576)(k:Int):gz t k=ac (aj k 0 ((t.bl.length:Int) - 1)):=by
 unfold gz;simp (disch:=omega) only [db,c9,wk]
theorem Wh(hu:UB){t:bD}(hl:t.bl.length<=1048576)(k:Int):Cn t k=ac (Bc t k):=by
 have main:∀ (n f:Nat) (k:Int) (o:gs),o.length+n=t.bl.length->n < f->ku f k o t=ac (o++eY t.bl n k):=by
  intro n
  induction n with
  | zero =>
   intro f k o h1 h2;obtain ⟨f,rfl⟩:∃ j,f=j+1:=⟨f - 1,by omega⟩;have e:decide ((o.length:Int) < (t.bl.length:Int))=false:=by simp; omega
   unfold ku u4 Am;simp (disch:=omega) only [db,bJ,wk,e,cond_false,eY,zWV]
   cases aj k 0 ((t.bl.length:Int) - 1) <;> rfl
  | succ n ih =>
   intro f k o h1 h2;obtain ⟨f,rfl⟩:∃ j,f=j+1:=⟨f - 1,by omega⟩;have e:decide ((o.length:Int) < (t.bl.length:Int))=true:=by simp; omega
   unfold ku u4 Am;simp (disch:=omega) only [db,bJ,wk,e,eY]
   cases hw:aj k 0 ((t.bl.length:Int) - 1) with
   | false=>simp
   | true =>
    have e2:dW (decide ((o.length+([k]).length)*8<=140737488355328))=ac ():=bp f6;have e2':dW (decide ((o.length+([(0:Int)]).length)*8<=140737488355328))=ac ():=bp f6;simp only [cond_true,Fg hw,wk,e2,↓reduceIte];rw [ih f _ (o++[k]) f6 al,zQJ,List.singleton_append]
 unfold Cn Bc;rw [main t.bl.length u k [] ig al,zQj]
theorem Wi(hu:UB){t:bD}(hl:t.bl.length<=1048576)(k:Int):Cw t k=ac (Bc t k):=by
 have main:∀ (n f:Nat) (k:Int) (o:gs),o.length+n=t.bl.length->n < f->kv f k o t=ac (o++eY t.bl n k):=by
  intro n
  induction n with
  | zero =>
   intro f k o h1 h2;obtain ⟨f,rfl⟩:∃ j,f=j+1:=⟨f - 1,by omega⟩;have e:decide ((o.length:Int) < (t.bl.length:Int))=false:=by simp; omega
   unfold kv vk AA;simp (disch:=omega) only [rH,wk,e,cond_false,eY,zWV]
   cases aj k 0 ((t.bl.length:Int) - 1) <;> rfl
  | succ n ih =>
   intro f k o h1 h2;obtain ⟨f,rfl⟩:∃ j,f=j+1:=⟨f - 1,by omega⟩;have e:decide ((o.length:Int) < (t.bl.length:Int))=true:=by simp; omega
   unfold kv vk AA;simp (disch:=omega) only [rH,wk,e,eY]
   cases hw:aj k 0 ((t.bl.length:Int) - 1) with
   | false=>simp
   | true =>
    have e2:dW (decide ((o.length+([k]).length)*8<=140737488355328))=ac ():=bp f6;simp only [cond_true,Fg hw,wk,e2,↓reduceIte];rw [ih f _ (o++[k]) f6 al,zQJ,List.singleton_append]
 unfold Cw Bc;rw [main t.bl.length u k [] ig al,zQj]
def zN(t:bD)(a k:Int):Bool:=(a != k) && (Bc t k).any λy=>y == a
theorem HH(hu:UB){t:bD}(hl:t.bl.length<=1048576)(a k:Int):qh t a k=ac (zN t a k):=by
 have:=Ix t.bl t.bl.length k;unfold qh zN;rw [Wh hu hl];simp only [wk];rw [V6 hu (by unfold Bc; omega)]
 cases a != k <;> rfl
theorem Ro(hu:UB){t:bD}(hl:t.bl.length<=1048576)(a k:Int):tW t a k=ac (zN t a k):=by
 have:=Ix t.bl t.bl.length k;unfold tW zN;rw [Wi hu hl];simp only [wk];rw [De hu (by unfold Bc; omega)]
 cases a != k <;> rfl
def zp(t:bD)(k b:Int):Int:=if dm t && aj k 1 ((t.bl.length:Int) - 1) then (if zN t b k && decide (0 < b) then (t.bl[b.toNat]?).getD 0 else (t.bl[k.toNat]?).getD 0) else -1
theorem Sr{up:gs}:∀ {n:Nat} {k a:Int},a∈eY up n k->aj a 0 ((up.length:Int) - 1)=gi
 | 0,_,_,h=>by simp [eY] at h
 | n+1,k,a,h=>by
  unfold eY at h
  split at h
  ·rename_i hk;rcases Ir.1 h with rfl | h
   ·exact hk
   ·exact Sr h
  ·simp at h
theorem qc3{t:bD}{a k:Int}(h:zN t a k=gi):aj a 0 ((t.bl.length:Int) - 1)=true:=by
 unfold zN at h;simp only [sk,List.any_eq_true,beq_iff_eq] at h;obtain ⟨_,y,hy,rfl⟩:=h;exact Sr hy
theorem Rp(hu:UB){t:bD}(hl:t.bl.length<=1048576)(k b:Int):xE t k b=ac (zp t k b):=by
 unfold xE we wd zp;simp (disch:=omega) only [oO hu (show t.bl.length<=1073741824 by omega),bJ,db,HH hu hl,wk]
 cases dm t with
 | false=>rfl
 | true =>
  cases hw:aj k 1 ((t.bl.length:Int) - 1) with
  | false=>rfl
  | true =>
   have:=bC hw;have hk:aj k 0 ((t.bl.length:Int) - 1)=true:=by unfold aj; simp; omega
   by_cases hb:b<=0
   ·have h1:¬ (0 < b):=by omega
    simp [hb,h1,Fg hk]
   ·have h1:0 < b:=by omega
    cases ha:zN t b k with
    | false=>simp [hb,Fg hk]
    | true=>simp [hb,h1,Fg (qc3 ha)]
theorem Cj{α:Type}(f:α->Bool):∀ (l:List α) (i:Nat),(gu f l i=-1/\∀ x∈l,f x=go)\/∃ (j:Nat) (x:α),gu f l i=((i+j:Nat):Int)/\l[j]?=ac x/\f x=gi
 | [],i=>.inl ⟨rfl,by simp⟩
 | y :: l,i=>by
  cases hy:f y with
  | true=>exact .inr ⟨0,y,by simp [gu,hy],rfl,hy⟩
  | false =>
   rcases Cj f l (i+1) with ⟨h1,h2⟩ | ⟨j,x,h1,h2,h3⟩
   ·exact .inl ⟨by simp [gu,hy,h1],by simp [hy]; exact h2⟩
   ·exact .inr ⟨j+1,x,by simp [gu,hy,h1]; omega,by simpa using h2,h3⟩
def Eb(l:List bV)(id:Int):Int:=gu (λx=>x.jW == id) l 0
theorem GJ(hu:UB){l:List bV}(hl:l.length<=1048577)(id:Int):zg l id=ac (Eb l id):=by
 unfold zg;rw [SP l id () u al al];exact sq (λ(x:bV)=>x.jW == id) rfl (λx i k _=>rfl)
def Bd(l:List bV)(x:bV)(i:Nat):Bool :=
 aj x.jW 0 6 && bB x.cW && bB x.cO && bB x.kM && !decide (x.pg < 0) && (if i=0 then gi else match l[i - 1]? with | some y=>!decide (x.jW<=y.jW) | none=>gi)
def nh(l:List bV):Bool:=fY (Bd l) l 0
theorem qbr{α:Type}{l:List α}{i:Nat}(h:i < l.length)(h0:i≠0)(hl:l.length<=1048577):∃ y,l[i - 1]?=ac y/\cM l (ew .i64 (i:Int) 1)=ac y:=by
 have h1:i - 1 < l.length:=by omega
 refine ⟨l[i - 1],by simp [h1],?_⟩;rw [db al al,show (i:Int) - 1=((i - 1:Nat):Int) by omega,cj];simp [h1]
theorem Wj(hu:UB){l:List bV}(hl:l.length<=1048576):so l=ac (nh l):=by
 unfold so nh;rw [Ql l () u al al,oN (Bd l) (xs:=l) (b:=gi) rfl 0 (λx i k _ hx=>?_) l 0 (zWK _) rfl,zXH];have hi:i < l.length:=(ln.1 hx).1;unfold G8 c8 Bd;simp only [bJ,jp,cj,hx,wk]
 by_cases h0:i=0
 ·subst h0;have e:decide (((0:Nat):Int) > 0)=false:=by simp
  simp only [e,cond_false,↓reduceIte,zXH]
  cases aj x.jW 0 6 <;> cases bB x.cW <;> cases bB x.cO <;> cases bB x.kM <;> cases decide (x.pg < 0) <;> rfl
 ·have e:decide ((i:Int) > 0)=true:=by simp; omega
  obtain ⟨y,h1,h2⟩:=qbr hi h0 al;simp only [e,cond_true,h0,h1,h2,↓reduceIte,wk]
  cases aj x.jW 0 6 <;> cases bB x.cW <;> cases bB x.cO <;> cases bB x.kM <;> cases decide (x.pg < 0) <;> cases decide (x.jW<=y.jW) <;> rfl
theorem Wk(hu:UB){l:List bV}(hl:l.length<=1048576):Cx l=ac (nh l):=by
 unfold Cx nh;rw [Qj l () u al al,oN (Bd l) (xs:=l) (b:=gi) rfl 0 (λx i k _ hx=>?_) l 0 (zWK _) rfl,zXH];have hi:i < l.length:=(ln.1 hx).1;unfold G6 eS G5 Bd;simp only [c9,Ce,wk]
 by_cases h0:i=0
 ·subst h0;have e:decide (((0:Nat):Int) > 0)=false:=by simp
  simp only [e,cond_false,↓reduceIte,zXH]
  cases aj x.jW 0 6 <;> cases bB x.cW <;> cases bB x.cO <;> cases bB x.kM <;> cases decide (x.pg < 0) <;> rfl
 ·have e:decide ((i:Int) > 0)=true:=by simp; omega
  obtain ⟨y,h1,h2⟩:=qbr hi h0 al;simp only [e,cond_true,h0,h1,h2,↓reduceIte,wk]
  cases aj x.jW 0 6 <;> cases bB x.cW <;> cases bB x.cO <;> cases bB x.kM <;> cases decide (x.pg < 0) <;> cases decide (x.jW<=y.jW) <;> rfl
theorem Wl{α β ρ:Type}{fin:List β->Option ρ}{body:α->Nat->List β->(List β->Option ρ)->Option ρ}(f:α->Bool)(g:α->β){xs:List α}(hb:∀ x i s k,xs[i]?=ac x->i < xs.length->s.length<=i->body x i s k=bif f x then k (s++[g x]) else k s) :
  ∀ (l:List α) (i:Nat) (s:List β),l=xs.drop i->s.length<=i->bT fin body l i s=fin (s++(l.filter f).map g):=by
 intro l
 induction l with
 | nil=>intro i s _ _; simp [bT]
 | cons x l ih =>
  intro i s h hs;have hx:xs[i]?=ac x:=by
   have:=congrArg zZq h
   simpa [zXh] using this.symm
  have hl:l=xs.drop (i+1):=by
   have:=congrArg zZz h
   simpa [zYK] using this
  have hi:i < xs.length:=(ln.1 hx).1;simp only [bT];rw [hb x i s _ hx hi hs]
  cases hf:f x with
  | true=>rw [cond_true,ih (i+1) _ hl f6]; simp [hf]
  | false=>rw [cond_false,ih (i+1) _ hl al]; simp [hf]
def qgt(x:bV):bV:=⟨x.jW,x.cW,x.cO,aS .i64 x.pg 1,0⟩
def ni(l:List bV)(forget:Int):List bV:=(l.filter λx=>decide (x.pg < forget)).map qgt
theorem Wm(hu:UB){l:List bV}(hl:l.length<=1048576)(n:Int):Cm l n=ac (ni l n):=by
 unfold Cm;rw [Qc l n [] u al al,Wl (λx=>decide (x.pg < n)) qgt (λx i s k _ hi hs=>?_) l 0 [] rfl ig]
 ·rfl
 ·unfold GU qW;have e:dW (decide ((s.length+([(bV.mk x.jW x.cW x.cO (aS .i64 x.pg 1) 0)]).length)*40<=140737488355328))=ac ():=bp f6
  by_cases h:x.pg < n
  ·have h2:¬ (x.pg>=n):=by omega
   simp only [h,h2,decide_true,decide_false,cond_true,cond_false,e,wk]; rfl
  ·have h2:x.pg>=n:=by omega
   simp only [h,h2,decide_true,decide_false,cond_true,cond_false]
theorem su(l:List bV)(id:Int):(Eb l id=-1/\∀ x∈l,x.jW≠id)\/∃ (j:Nat) (x:bV),Eb l id=(j:Int)/\l[j]?=ac x/\x.jW=id:=by
 rcases Cj (λ(x:bV)=>x.jW == id) l 0 with ⟨h1,h2⟩ | ⟨j,x,h1,h2,h3⟩
 ·exact .inl ⟨h1,λx hx=>by simpa using h2 x hx⟩
 ·exact .inr ⟨j,x,by unfold Eb; rw [h1]; simp,h2,by simpa using h3⟩
def tv(l:List bV)(id have_:Int):Int:=match cM l (Eb l id) with
 | some x=>if bB have_ && bB x.cW && bB x.kM then yN .i64 (iK .i64 x.cW have_) x.kM else 0
 | none=>0
theorem Ko(hu:UB){l:List bV}(hl:l.length<=1048577)(id s:Int):zD l id s=ac (tv l id s):=by
 unfold zD q7 tv;simp only [GJ hu hl,jp,wk];rcases su l id with ⟨h1,_⟩ | ⟨j,x,h1,h2,_⟩
 ·rw [h1]; rfl
 ·have e:decide ((j:Int) < 0)=false:=by simp
  simp only [h1,e,cond_false,cj,h2,wk]
  cases bB s <;> cases bB x.cW <;> cases bB x.kM <;> rfl
def oP(l:List bV)(id s:Int):List bV:=match cM l (Eb l id) with
 | some x=>if bB s && bB x.kM then l.set (Eb l id).toNat ⟨x.jW,x.cW,x.cO,x.pg,DM .i64 x.kM s⟩ else l
 | none=>l
theorem Pe{l:List bV}(hl:l.length<=1048577):dW (decide (((([]:List bV)).length+l.length)*40<=140737488355328))=ac ():=bp f6
theorem Pf{l:List bV}(hl:l.length<=1048577):ez l=ac l:=by
 unfold ez;rw [Pe hl]; rfl
theorem HI(hu:UB){l:List bV}(hl:l.length<=1048577)(id s:Int):tP l id s=ac (oP l id s):=by
 unfold tP q8 oP;simp only [Pe hl,GJ hu hl,jp,wk,zQj];rcases su l id with ⟨h1,_⟩ | ⟨j,x,h1,h2,_⟩
 ·rw [h1]; rfl
 ·have e:decide ((j:Int) < 0)=false:=by simp
  simp only [h1,e,cond_false,cj,h2,wk]
  cases bB s <;> cases bB x.kM <;> rfl
theorem Pg(l:List bV)(id s:Int):(oP l id s).length=l.length:=by
 unfold oP
 split
 ·split <;> simp
 ·rfl
def yh(l:List bV)(id:Int):Nat:=if gu (λ(x:bV)=>decide (x.jW > id)) l 0 < 0 then l.length else (gu (λ(x:bV)=>decide (x.jW > id)) l 0).toNat
def rI(l:List bV)(id want done:Int):List bV :=
 if aj id 0 6 && bB want && bB done then match cM l (Eb l id) with
  | some x=>l.set (Eb l id).toNat ⟨x.jW,want,DM .i64 x.cO done,0,x.kM⟩
  | none=>l.take (yh l id)++[⟨id,want,done,0,0⟩]++l.drop (yh l id)
 else l
theorem YA(l:List bV)(id:Int):yh l id<=l.length:=by
 unfold yh;rcases Cj (λ(x:bV)=>decide (x.jW > id)) l 0 with ⟨h1,_⟩ | ⟨j,x,h1,h2,_⟩
 ·rw [h1]; simp
 ·have:=(ln.1 h2).1;rw [h1]; split <;> omega
theorem TX{l:List bV}(hl:l.length<=1048576)(id w d:Int):∀ (ys:List bV) (f i:Nat),ys=l.drop i->i<=l.length->ys.length < f ->
  nv f id w d l (i:Int)=DW id w d l (if gu (λ(x:bV)=>decide (x.jW > id)) ys i < 0 then (l.length:Int) else gu (λ(x:bV)=>decide (x.jW > id)) ys i):=by
 intro ys
 induction ys with
 | nil =>
  intro f i h hi hf;obtain ⟨f,rfl⟩:∃ j,f=j+1:=⟨f - 1,by omega⟩;have h1:i=l.length:=by
   have:=congrArg zZX h;simp at this;omega
  subst h1;unfold nv Aq;simp only [zQj,Int.lt_irrefl,decide_false,cond_false,gu];rfl
 | cons y ys ih =>
  intro f i h hi hf;obtain ⟨f,rfl⟩:∃ j,f=j+1:=⟨f - 1,by omega⟩;have hx:l[i]?=ac y:=by
   have:=congrArg zZq h
   simpa [zXh] using this.symm
  have hy:ys=l.drop (i+1):=by
   have:=congrArg zZz h
   simpa [zYK] using this
  have hlt:i < l.length:=(ln.1 hx).1;have e:decide ((i:Int) < (l.length:Int))=true:=by simp; omega
  unfold nv Aq;simp only [zQj,e,cond_true,cj,hx,wk,gu]
  by_cases hc:y.jW<=id
  ·have hc2:¬ (y.jW > id):=by omega
   simp only [hc,hc2,decide_true,decide_false,cond_true,zWQ,↓reduceIte];rw [fa al];simp only [zQw] at hf;exact ih f (i+1) hy al al
  ·have hc2:y.jW > id:=by omega
   have:¬ ((i:Int) < 0):=by omega
   simp only [hc,hc2,decide_true,decide_false,cond_false,this,↓reduceIte]
theorem ZN(hu:UB){l:List bV}(hl:l.length<=1048576)(id w d:Int):G1 l id w d=ac (rI l id w d):=by
 unfold G1 Ar rI;simp only [Pe (show l.length<=1048577 by omega),bJ,jp,GJ hu (show l.length<=1048577 by omega),wk,zQj]
 cases h1:aj id 0 6 with
 | false=>rfl
 | true=>cases h2:bB w with
  | false=>rfl
  | true=>cases h3:bB d with
   | false=>rfl
   | true =>
    simp only [zQY,cond_false,zXG,↓reduceIte];rcases su l id with ⟨h4,_⟩ | ⟨j,x,h4,h5,_⟩
    ·have e:cM l (-1)=none:=by simp [cM]
     rw [h4,e,show decide ((-1:Int) < 0)=gi from rfl,cond_true,show ((0:Int))=((0:Nat):Int) from rfl,TX hl id w d l u 0 rfl al al];have hp:=YA l id;have e2:(if gu (λ(x:bV)=>decide (x.jW > id)) l 0 < 0 then (l.length:Int) else gu (λ(x:bV)=>decide (x.jW > id)) l 0)=((yh l id:Nat):Int):=by
      unfold yh; split <;> omega
     rw [e2];generalize yh l id=q at hp;unfold DW;simp only [zQj];have c1:=ga (a:=0) (b:=q) (n:=l.length) al hp;have c2:=ga (a:=q) (b:=l.length) (n:=l.length) hp al;rw [show ((0:Nat):Int)=0 from rfl] at c1;rw [c1,c2];simp only [wk];rw [bp f6,bp f6,bp f6];simp
    ·have e:decide ((j:Int) < 0)=false:=by simp
     simp only [h4,e,cond_false,cj,h5,wk]
theorem qbs(l:List bV)(id w d:Int):(rI l id w d).length<=l.length+1:=by
 unfold rI
 split
 ·split
  ·simp
  ·have:=YA l id;simp; omega
 ·omega
theorem YB{α:Type}{fin:Unit->Option Bool}{body:Nat->Unit->(Unit->Option Bool)->Option Bool}(f:α->Nat->Bool){xs:List α}{b:Bool}(hf:fin ()=ac b)(hb:∀ x i k,xs[i]?=ac x->body i () k=bif f x i then k () else ac go) :
  ∀ (l:List α) (i:Nat),l=xs.drop i->rr fin body l.length i ()=ac (fY f l i && b):=by
 intro l
 induction l with
 | nil=>intro i _; simp [rr,fY,hf]
 | cons x l ih =>
  intro i h;have hx:xs[i]?=ac x:=by
   have:=congrArg zZq h
   simpa [zXh] using this.symm
  have hl:l=xs.drop (i+1):=by
   have:=congrArg zZz h
   simpa [zYK] using this
  simp only [zQw,rr,fY];rw [hb x i _ hx,ih (i+1) hl]
  cases f x i <;> simp
def jb(n:Nat):Int:=if n<=40 then ((2 ^ n - 1:Nat):Int) else 0
theorem HJ{m:af}:tX m=ac (jb m.aI.length):=by
 unfold tX jb
 by_cases h:m.aI.length<=40
 ·rw [TW h]; simp [h]
 ·have h1:aj (m.aI.length:Int) 0 40=false:=by
   unfold aj; simp; omega
  unfold wy;rw [c9,h1];simp [h]
theorem HK{m:af}:tL m=ac (jb m.aI.length):=by
 unfold tL jb
 by_cases h:m.aI.length<=40
 ·rw [TO h]; simp [h]
 ·have h1:aj (m.aI.length:Int) 0 40=false:=by
   unfold aj; simp; omega
  unfold wg;rw [bJ,h1];simp [h]
theorem M3(n:Nat):bB (jb n)=true:=by
 unfold jb bB aj
 split
 ·rename_i h;have h2:(2:Nat) ^ n<=2 ^ 40:=zWZ al h;simp; omega
 ·rfl
def n6(a b:Int):Int:=if bB a && bB b then yN .i64 a b else 0
theorem TY(a b:Int):AE a b=ac (n6 a b):=by
 unfold AE yJ n6;simp only [Ce,wk]
 cases bB a <;> cases bB b <;> rfl
theorem I7(a b:Int):wi a b=ac (n6 a b):=by
 unfold wi yx n6;simp only [jp,wk]
 cases bB a <;> cases bB b <;> rfl
def rJ(m:af)(x:aW):Int:=n6 (jb m.aI.length) x.bc
theorem TZ(m:af)(x:aW):AF m x=ac (rJ m x):=by
 unfold AF rJ;simp only [HJ,TY,wk]
theorem I8(m:af)(x:aW):wj m x=ac (rJ m x):=by
 unfold wj rJ;simp only [HK,I7,wk]
def M.at_(m:af)(i:Int):Nat:=(cu m.au m.aT i).1.toNat
def qs(m:af)(i:Int):Nat:=(cu m.au m.aT i).2.toNat
def oY(m:af)(x:aW)(i:Int):gs:=M.win x.bE (M.at_ m i) (qs m i)
theorem Wn{m:af}{b:gs}(hb:(b.length:Int)=m.aT)(hl:b.length<=1048576)(i:Int) :
  dW (cR (cu m.au m.aT i).1 (aS .i64 (cu m.au m.aT i).1 (cu m.au m.aT i).2) b.length)=ac () /\
  (b.take (sY (aS .i64 (cu m.au m.aT i).1 (cu m.au m.aT i).2))).drop (sY (cu m.au m.aT i).1)=M.win b (M.at_ m i) (qs m i) /\
  M.at_ m i+qs m i<=b.length/\qs m i<=6:=by
 obtain ⟨h1,h2,h3,h4⟩:=sQ (size:=m.au) (n:=m.aT) (i:=i) al;unfold M.at_ qs;generalize cu m.au m.aT i=s at *;obtain ⟨a,c⟩:=s;dsimp only at *;obtain ⟨a,rfl⟩:∃ n:Nat,a=n:=⟨a.toNat,by omega⟩;obtain ⟨c,rfl⟩:∃ n:Nat,c=n:=⟨c.toNat,by omega⟩;simp only [r0] at *;rw [rF al,ga al al];exact ⟨rfl,rfl,by omega,by omega⟩
def qt(m:af)(x:aW)(s:dR)(i:Nat):Bool :=
 if dL x.bc i then decide (eo (oY m x i)=s) else (oY m x i).all λc=>c == 0
def fO(m:af)(x:aW):Bool :=
 cG m && bB x.bc && (n6 x.bc (jb m.aI.length) == 0) && ((x.bE.length:Int) == m.aT) && fY (qt m x) m.aI 0
theorem Wq(hu:UB){b:gs}(hl:b.length<=1048576):sj b=ac (b.all λc=>c == 0):=by
 unfold sj;rw [Qf b () u al al,oN (λ(c:Int) _=>c == 0) (xs:=b) (b:=gi) rfl 0 (λx i k _ hx=>?_) b 0 (zWK _) rfl,zXH]
 ·congr 1
  have:∀ (l:gs) (i:Nat),fY (λ(c:Int) _=>c == 0) l i=l.all λc=>c == 0:=by
   intro l
   induction l with
   | nil=>intro i; rfl
   | cons x l ih=>intro i; simp [fY,ih]
  exact this b 0
 ·unfold GW;rw [Ik]
  cases x == 0 <;> rfl
theorem qbt(hu:UB){b:gs}(hl:b.length<=1048576):bP b=ac (b.any λc=>c != 0):=by
 unfold bP eA;rw [o7 b () u al al,sq (λ(c:Int)=>c != 0) rfl (λx i k _=>rfl)];simp only [wk,vJ]
theorem qhP(b:gs):(b.any λc=>c != 0)=!(b.all λc=>c == 0):=by
 rw [List.not_all_eq_any_not]; rfl
structure M.BldWf (x:aW):Prop where
 b:aw x.bE
 l:x.bE.length<=1048576
theorem K2{b:gs}(h:aw b)(hl:b.length<=1048576)(i n:Nat):aw (M.win b i n)/\(M.win b i n).length<=1048576:=by
 refine ⟨i6 h i n,?_⟩;have:(M.win b i n).length<=b.length:=by unfold M.win; simp; omega
 omega
theorem yT(hu:UB){m:af}(hm:m.aI.length<=1048576){x:aW}(hx:M.BldWf x):pU m x=ac (fO m x):=by
 unfold pU pv fO;simp only [jn hu m (show m.aI.length<=1073741824 by omega),jp,HK,I7,wk]
 cases cG m with
 | false=>rfl
 | true=>cases bB x.bc with
  | false=>rfl
  | true =>
   rw [Ik,Ik]
   cases n6 x.bc (jb m.aI.length) == 0 with
   | false=>rfl
   | true =>
    by_cases hb:(x.bE.length:Int)=m.aT
    ·have e:((x.bE.length:Int) == m.aT)=true:=by simpa using hb
     simp only [e,zQY,cond_false,zXG,zQh];have hl:=hx.l;rw [NO m x () u al al,r0,YB (qt m x) (xs:=m.aI) (b:=gi) rfl (λs i k hs=>?_) m.aI 0 rfl,zXH];obtain ⟨c1,c2,c3,c4⟩:=Wn hb hl i;obtain ⟨b1,b2⟩:=K2 hx.b hl (M.at_ m i) (qs m i);unfold FA gj qt oY;simp only [mt,nO,cj,hs,wk,c1,c2,qr hu b1 (show _<=1073741824 by omega),Wq hu b2,Il]
     cases dL x.bc i with
     | true=>simp only [cond_true,↓reduceIte,zQY,cond_false]; cases decide (eo (M.win x.bE (M.at_ m i) (qs m i))=s) <;> rfl
     | false=>simp only [cond_false,zZH,cond_true,zWQ,↓reduceIte]; cases (M.win x.bE (M.at_ m i) (qs m i)).all λc=>c == 0 <;> rfl
    ·have e:((x.bE.length:Int) == m.aT)=false:=by simpa using hb
     simp [e]
theorem M4{a b:Int}(ha:bB a=gi)(hb:bB b=gi):n6 a b=yN .i64 a b:=by simp [n6,ha,hb]
theorem XG{m:af}{x:aW}(hx:M.BldWf x)(hb:(x.bE.length:Int)=m.aT)(i:Int):mK x m i=ac (oY m x i):=by
 obtain ⟨c1,c2,c3,c4⟩:=Wn hb hx.l i;unfold mK oY;simp only [rD,wk,c1,c2]
theorem T0(hu:UB){m:af}(hm:m.aI.length<=1048576){x:aW}(hx:M.BldWf x):AD m x=ac (fO m x):=by
 unfold AD pB fO;simp only [Cd hu m (show m.aI.length<=1073741824 by omega),Ce,HJ,wk]
 cases cG m with
 | false=>rfl
 | true=>cases hs:bB x.bc with
  | false=>rfl
  | true =>
   rw [Ik,Ik,M4 hs (M3 _)]
   cases yN .i64 x.bc (jb m.aI.length) == 0 with
   | false=>rfl
   | true =>
    by_cases hb:(x.bE.length:Int)=m.aT
    ·have e:((x.bE.length:Int) == m.aT)=true:=by simpa using hb
     simp only [e,zQY,cond_false,zXG,zQh];have hl:=hx.l;rw [NT m x () u al al,oN (qt m x) (xs:=m.aI) (b:=gi) rfl 0 (λs i k _ hs=>?_) m.aI 0 (zWK _) rfl,zXH];obtain ⟨b1,b2⟩:=K2 hx.b hl (M.at_ m i) (qs m i);have b3:aw (oY m x i)/\(oY m x i).length<=1048576:=⟨b1,b2⟩;unfold FD gk qt;simp only [XG hx hb,Xz,wk,GF hu b3.1 (show _<=1073741824 by omega),qbt hu b3.2,Il,qhP]
     cases dL x.bc i with
     | true=>simp only [cond_true,↓reduceIte,zQY,cond_false]; cases decide (eo (oY m x i)=s) <;> rfl
     | false=>simp only [cond_false,zZH,cond_true,zWQ,↓reduceIte]; cases (oY m x i).all λc=>c == 0 <;> rfl
    ·have e:((x.bE.length:Int) == m.aT)=false:=by simpa using hb
     simp [e]
def oZ(m:af)(x:aW):Bool:=(m.aR != 0) && fO m x && (rJ m x == 0)
theorem LW(hu:UB){m:af}(hm:m.aI.length<=1048576){x:aW}(hx:M.BldWf x):BA m x=ac (oZ m x):=by
 unfold BA oZ;simp only [yT hu hm hx,I8,wk]
 cases m.aR != 0 <;> cases fO m x <;> rfl
def jg(m:af)(b:gs):Bool:=((b.length:Int) == m.aT) && M.same (λx y=>decide (x=y)) (rG b m.au) m.aI
theorem LX(hu:UB)(m:af){b:gs}(hb:aw b)(hl:b.length<=1048576):Bt m b=ac (jg m b):=by
 unfold Bt jg;rw [Kc hu hb al];simp only [wk];rw [Fb hu qjo]
 cases (b.length:Int) == m.aT <;> rfl
theorem XH(hu:UB)(m:af){b:gs}(hb:aw b)(hl:b.length<=1048576):Eu m b=ac (jg m b):=by
 unfold Eu jg;rw [Kb hu hb al];simp only [wk];rw [nP hu qjo]
 cases (b.length:Int) == m.aT <;> rfl
theorem Ph{b:gs}(hl:b.length<=1048576):dW (decide (((([]:gs)).length+b.length)*1<=140737488355328))=ac ():=bp f6
theorem Fh{m:af}(hm:m.aI.length<=1048576):pN m=ac m:=by
 unfold pN;rw [bp f6]; rfl
theorem Kp{x:aW}(hl:x.bE.length<=1048576):sf x=ac x:=by
 unfold sf;rw [Ph hl]; rfl
theorem I9{m:af}(hm:m.aI.length<=1048576):pR m=ac m:=by
 unfold pR fv;rw [bp f6]; rfl
theorem Pi{x:aW}(hl:x.bE.length<=1048576):uV x=ac x:=by
 unfold uV;rw [kH al]; rfl
structure M.NodWf (n:aD):Prop where
 s:n.aH.aI.length<=1048576
 b:M.BldWf n.bi
 k:n.aZ.length<=1048577
 w:wL n.aH
theorem iJ{n:aD}(h:M.NodWf n):ff n=ac n:=by
 unfold ff;rw [Fh h.s,Kp h.b.l,wk,wk,Pe (by have:=h.k; omega)]; rfl
theorem Rq{n:aD}(h:M.NodWf n):tJ n=ac n:=by
 unfold tJ;rw [I9 h.s,Pi h.b.l,Pf (by have:=h.k; omega)]; rfl
def kO(m:af)(x:aW)(i:Int):gs×Bool:=if fO m x && dL x.bc i then (oY m x i,gi) else ([],go)
theorem F9{m:af}{x:aW}(h:fO m x=gi):(x.bE.length:Int)=m.aT:=by
 unfold fO at h;simp only [sk,beq_iff_eq] at h;exact h.1.2
theorem Ja(hu:UB){m:af}(hm:m.aI.length<=1048576){x:aW}(hx:M.BldWf x)(i:Int):sH m x i=ac (kO m x i):=by
 unfold sH yC kO;simp only [yT hu hm hx,nO,wk]
 cases hb:fO m x with
 | false=>rfl
 | true=>cases dL x.bc i with
  | false=>rfl
  | true =>
   obtain ⟨c1,c2,c3,c4⟩:=Wn (F9 hb) hx.l i;have c5:=(K2 hx.b hx.l (M.at_ m i) (qs m i)).2;simp only [zQY,cond_false,mt,wk,c1,c2,Ph c5,zXG,↓reduceIte,zQj];rfl
theorem Ws:∀ (b:gs) (s:Int) (n:Nat),aw b->(256:Int) ^ n<=s->(256:Int) ^ (n+b.length)<=jV b s:=by
 intro b
 induction b with
 | nil=>intro s n _ h; exact h
 | cons c b ih =>
  intro s n hb h;have hc:=hb c ig;have:=ih (256*s+c) (n+1) (λz hz=>hb z W8) qhd;simp only [zQw,jV];rwa [show n+(b.length+1)=n+1+b.length by omega]
theorem Ss{a b:Nat}(h:a<=b):(256:Int) ^ a<=256 ^ b:=by
 induction h with
 | refl=>exact zYY _
 | step h ih =>
  rename_i c;have:(0:Int) < 256 ^ c:=Int.pow_pos al;rw [zYH]; omega
theorem YC{b:gs}{s:dR}{size len:Int}{i:Nat}(hb:aw b)(h:eo b=s)(hf:rE size len i s=gi):(b.length:Int)=(cu size len i).2/\b.length<=6:=by
 unfold rE at hf;simp only [sk,beq_iff_eq] at hf;obtain ⟨⟨h1,h2⟩,_⟩:=hf;have h3:cr s.fS=((cr s.fS).1,gi):=by rw [<- h1]
 obtain ⟨h4,h5,_,h6⟩:=D8 h3;generalize (cr s.fS).1=c at *;unfold eo at h
 split at h
 ·rw [<- h] at h4; simp at h4
 ·rename_i hl;have hs:s.fS=jV b 1:=by rw [<- h]
  have h7:=(VX b 1 0 hb al al).2;have h8:=Ws b 1 0 hb ig;simp only [zWY] at h7 h8;rw [hs] at h5;have hp:(0:Int) < 256 ^ c.length:=Int.pow_pos al;have h9:256 ^ c.length<=jV b 1:=by
   have:=Int.mul_ediv_self_le (x:=jV b 1) (k:=256 ^ c.length) al;rw [h5] at this; omega
  have h10:jV b 1 < 256 ^ c.length*2:=by
   have:=Int.lt_mul_ediv_self_add (x:=jV b 1) hp;rw [h5] at this; omega
  have:b.length=c.length:=by
   rcases Nat.lt_trichotomy b.length c.length with h | h | h
   ·have:=Ss (show b.length+1<=c.length by omega);rw [zYH] at this; omega
   ·exact h
   ·have:=Ss (show c.length+1<=b.length by omega);rw [zYH] at this; omega
  omega
theorem Kr{size len:Int}:∀ {l:List dR} {i j:Nat} {s:dR},jM size len l i=true->l[j]?=ac s->rE size len (i+j) s=gi
 | [],_,_,_,_,h=>by simp at h
 | x :: l,i,0,s,h,hs=>by
  simp only [jM,sk] at h;simp at hs; subst hs; exact h.1
 | x :: l,i,j+1,s,h,hs=>by
  simp only [jM,sk] at h;have:=Kr h.2 (by simpa using hs);rwa [show i+1+j=i+(j+1) by omega] at this
theorem YD{m:af}(hm:cG m=gi){i:Nat}{s:dR}(hs:m.aI[i]?=ac s):rE m.au m.aT i s=true:=by
 unfold cG at hm
 split at hm
 ·simp only [sk,beq_iff_eq] at hm;have:=(ln.1 hs).1;omega
 ·simp only [sk] at hm;have:=Kr hm.2 hs
  simpa using this
theorem M5{m:af}(hm:cG m=gi):0<=m.aT/\m.aT<=240:=by
 unfold cG at hm
 split at hm
 ·simp only [sk,beq_iff_eq] at hm; omega
 ·simp only [sk] at hm;have:=vH hm.1.1.2;omega
def M.put(m:af)(x:aW)(i:Int)(b:gs):aW:=⟨DM .i64 x.bc (mm .i64 1 i),xV x.bE b (M.at_ m i)⟩
def yU(m:af)(x:aW)(i:Int)(b:gs):Bool×aW :=
 if aj i 0 ((m.aI.length:Int) - 1) && !dL x.bc i && (match m.aI[i.toNat]? with | some s=>decide (eo b=s) | none=>go) then (gi,M.put m x i b) else (go,x)
theorem qgu(m:af)(x:aW)(i:Int)(b:gs):yU m x i b=(gi,M.put m x i b)\/yU m x i b=(go,x):=by
 unfold yU;generalize (aj i 0 ((m.aI.length:Int) - 1) && !dL x.bc i && (match m.aI[i.toNat]? with | some s=>decide (eo b=s) | none=>go))=c
 cases c
 ·exact .inr rfl
 ·exact .inl rfl
theorem qj8(p2:Int)(p3:gs)(r6:Int×Int)(x:aW)(a:Nat)(ha:r6.1=(a:Int))(hal:a<=1048576):∀ (l:gs) (i:Nat) (s:gs),a+i+l.length<=s.length->s.length<=4194304 ->
  bT (CS p2 p3 r6 x) (CT p2 p3 r6 x) l i s=(ke x.bc p2).bind λq=>ac (gi,⟨q,s.take (a+i)++l++s.drop (a+i+l.length)⟩):=by
 intro l
 induction l with
 | nil=>intro i s _ _; simp [bT,CS,B3]
 | cons y l ih =>
  intro i s h1 h2;simp only [zQw] at h1;simp only [bT,CT];rw [ha,dE al al,show (a:Int)+(i:Int)=((a+i:Nat):Int) by omega,cj,sX al,r0];simp only [wk];rw [ih (i+1) _ f6 f6];have e1:(s.set (a+i) y).take (a+(i+1))=s.take (a+i)++[y]:=by
   rw [show a+(i+1)=(a+i)+1 by omega,zVh,List.take_set_of_le (zWK _)];simp [show a+i < s.length by omega]
  have e2:(s.set (a+i) y).drop (a+(i+1)+l.length)=s.drop (a+i+(y :: l).length):=by
   rw [List.drop_set_of_lt al]; simp only [zQw]; congr 1; omega
  rw [e1,e2]; simp
theorem Fi{m:af}{b:gs}(hb:(b.length:Int)=m.aT)(i:Int):(cu m.au m.aT i).1=(M.at_ m i:Int)/\(cu m.au m.aT i).2=(qs m i:Int)/\M.at_ m i+qs m i<=b.length:=by
 obtain ⟨h1,h2,h3,h4⟩:=sQ (size:=m.au) (n:=m.aT) (i:=i) al;unfold M.at_ qs;omega
theorem qc4{i:Int}{n:Nat}(h:aj i 0 ((n:Int) - 1)=gi)(hn:n<=40):fu i=gi/\0<=i:=by
 have:=bC h;unfold fu aj;simp; omega
theorem HL{s i:Int}(hs:bB s=gi)(hi:fu i=gi):ke s i=ac (DM .i64 s (mm .i64 1 i)):=by
 have:=bC hi;unfold ke qI;rw [jp,hs];simp only [wk,zQY,cond_false];rw [bJ,show aj i 0 39=gi from hi];simp only [wk,zQY,cond_false];rw [bp al]; rfl
theorem LY(hu:UB){m:af}(hm:cG m=gi){x:aW}(hx:(x.bE.length:Int)=m.aT)(hs:bB x.bc=gi)(i:Int){b:gs}(hb:aw b)(hl:b.length<=1048576) :
  zb m x i b=ac (yU m x i b):=by
 have h40:=BX hm;have h240:=M5 hm;unfold zb tE yU;simp (disch:=omega) only [db,bJ,nO,qr hu hb (show b.length<=1073741824 by omega),wk,Il]
 cases hw:aj i 0 ((m.aI.length:Int) - 1) with
 | false=>simp
 | true=>cases dL x.bc i with
  | true=>simp
  | false =>
   have hw':=bC hw;obtain ⟨n,rfl⟩:∃ n:Nat,i=n:=⟨i.toNat,by omega⟩;have hn:n < m.aI.length:=by omega
   obtain ⟨s,hs'⟩:∃ s,m.aI[n]?=ac s:=⟨_,sX hn⟩;simp only [zQY,zZH,cond_false,cj,hs',wk,r0,zQh]
   by_cases hq:eo b=s
   ·obtain ⟨h1,h2⟩:=YC hb hq (YD hm hs');have h3:decide ((b.length:Int) > 6)=false:=by simp; omega
    obtain ⟨e1,e2,e3⟩:=Fi (b:=x.bE) hx n;have h4:b.length=qs m n:=by omega
    simp only [hq,decide_true,zQY,cond_false,h3,mt,wk,↓reduceIte];rw [SJ n b _ x x.bE u al al,qj8 n b _ x (M.at_ m n) e1 al b 0 x.bE al al,HL hs (qc4 hw al).1];unfold M.put;rw [Fd al];rfl
   ·simp [hq]
theorem qbu{m:af}{x:aW}(hx:(x.bE.length:Int)=m.aT)(n:Nat){b:gs}(hl:b.length<=qs m n)(hxl:x.bE.length<=1048576):pq x m n b=ac (M.put m x n b):=by
 obtain ⟨e1,e2,e3⟩:=Fi (b:=x.bE) hx n;unfold pq pS M.put;rw [rD];simp only [wk];rw [e1,e2,rF al,ga al e3];simp only [wk];have h1:qcy (M.at_ m n:Int) ((M.at_ m n+qs m n:Nat):Int) (x.bE.length:Int) (b.length:Int)=true:=by unfold qcy; simp; omega
 rw [h1,bp al,r0];rfl
def kJ(m:af)(x:aW)(i:Int)(b:gs):aW×Bool:=if fO m x && (yU m x i b).1 then (M.put m x i b,gi) else (x,go)
theorem Ks{m:af}{x:aW}(h:fO m x=gi):cG m=gi/\bB x.bc=true:=by
 unfold fO at h;simp only [sk] at h;exact ⟨h.1.1.1.1,h.1.1.1.2⟩
theorem Rr(hu:UB){m:af}(hm:m.aI.length<=1048576){x:aW}(hx:M.BldWf x)(i:Int){b:gs}(hb:aw b)(hl:b.length<=1048576):xJ m x i b=ac (kJ m x i b):=by
 unfold xJ wq kJ;simp only [Kp hx.l,yT hu hm hx,wk]
 cases hk:fO m x with
 | false=>rfl
 | true =>
  obtain ⟨h1,h2⟩:=Ks hk;simp only [zQY,cond_false,LY hu h1 (F9 hk) h2 i hb hl,wk,zQh];rcases qgu m x i b with h | h <;> rw [h] <;> rfl
def yV(m:af)(old:gs):Nat->Nat->aW->aW
 | 0,_,x=>x
 | n+1,i,x=>yV m old n (i+1) (if 0<=eG old m i then M.put m x i (M.win old (eG old m i).toNat (qs m i)) else x)
def iz(m:af):aW:=if cG m then ⟨0,zQG m.aT.toNat 0⟩ else ⟨0,[]⟩
def d8(m:af)(old:gs):aW:=if cG m then yV m old m.aI.length 0 (iz m) else ⟨0,[]⟩
theorem Pj{m:af}(hm:cG m=gi):dW (decide (0<=m.aT) && (m.aT == 0 || m.aT == m.aT))=ac ()/\dW (decide (sY m.aT*1<=140737488355328))=ac ():=by
 have:=M5 hm;refine ⟨by simp [dW]; omega,bp al⟩
theorem Rs(hu:UB){m:af}(hm:m.aI.length<=1048576):xv m=ac (iz m):=by
 unfold xv iz;simp only [jn hu m (show m.aI.length<=1073741824 by omega),wk]
 cases h:cG m with
 | false=>rfl
 | true=>obtain ⟨h1,h2⟩:=Pj h; rw [h1,h2]; rfl
theorem Rt(hu:UB){m:af}(hm:m.aI.length<=1048576):xA m=ac (iz m):=by
 unfold xA iz;simp only [Cd hu m (show m.aI.length<=1073741824 by omega),wk]
 cases h:cG m with
 | false=>rfl
 | true=>obtain ⟨h1,h2⟩:=Pj h; rw [h1,h2]; rfl
theorem Pk{b:gs}{s:dR}{n:Nat}:∀ (c i:Nat),0<=ia b s n c i->eo (M.win b (ia b s n c i).toNat n)=s
 | 0,_,h=>by simp [ia] at h
 | c+1,i,h=>by
  unfold ia at h ⊢
  split
  ·rename_i hq; simpa using hq
  ·rename_i hq;rw [if_neg hq] at h;exact Pk c (i+1) h
theorem Fj{old:gs}{m:af}{i:Nat}(h:0<=eG old m i):∃ s,m.aI[i]?=ac s/\0<=(cu m.au m.aT i).2/\eo (M.win old (eG old m i).toNat (qs m i))=s/\(eG old m i).toNat+qs m i<=old.length:=by
 unfold eG at h ⊢
 split at h
 ·rename_i s hs;simp only [hs];unfold ua at h ⊢
  split at h
  ·rename_i hw;have:=bC hw;rw [if_pos hw];have h1:=Pk _ _ h;have h2:=V1 old s (cu m.au m.aT i).2.toNat (old.length+1 - (cu m.au m.aT i).2.toNat) 0;refine ⟨s,rfl,by omega,h1,?_⟩;unfold qs;omega
  ·omega
 ·omega
structure M.Part (m:af) (i:Nat) (x:aW):Prop where
 b:M.BldWf x
 l:(x.bE.length:Int)=m.aT
 h:∃ n:Nat,x.bc=n/\n < 2 ^ i
theorem Ga{x p:gs}{a:Nat}(h:a+p.length<=x.length)(hx:aw x)(hp:aw p):aw (xV x p a)/\(xV x p a).length=x.length:=by
 rw [Fd h];refine ⟨λz hz=>?_,by simp; omega⟩;simp only [zWv] at hz;rcases hz with (hz | hz) | hz
 ·exact hx z (zWJ hz)
 ·exact hp z hz
 ·exact hx z (zWh hz)
theorem Wt{m:af}{i:Nat}{x:aW}(hp:M.Part m i x)(hi:i<=39){b:gs}(hb:aw b)(hl:b.length=qs m i):M.Part m (i+1) (M.put m x i b):=by
 obtain ⟨e1,e2,e3⟩:=Fi (b:=x.bE) hp.l i;obtain ⟨h1,h2⟩:=Ga (x:=x.bE) (p:=b) (a:=M.at_ m i) al hp.b.b hb;obtain ⟨n,h3,h4⟩:=hp.h;have h5:(2:Nat) ^ i<=2 ^ 39:=zWZ al hi;refine ⟨⟨h1,by unfold M.put; dsimp only; rw [h2]; exact hp.b.l⟩,by unfold M.put; dsimp only; rw [h2]; exact hp.l,n ||| 2 ^ i,?_,?_⟩
 ·unfold M.put;dsimp only;rw [h3,Hy al,F4 al al]
 ·exact zZk (by rw [Nat.pow_succ]; omega) (by rw [Nat.pow_succ]; have:0 < 2 ^ i:=Nat.pow_pos al; omega)
theorem HM{m:af}{i j:Nat}{x:aW}(hp:M.Part m i x)(h:i<=j):M.Part m j x:=by
 obtain ⟨n,h3,h4⟩:=hp.h;exact ⟨hp.b,hp.l,n,h3,zWW h4 (zWZ al h)⟩
theorem UC{m:af}{i:Nat}{x:aW}(hp:M.Part m i x)(hi:i<=40):bB x.bc=gi/\dL x.bc i=false:=by
 obtain ⟨n,h3,h4⟩:=hp.h;have h5:(2:Nat) ^ i<=2 ^ 40:=zWZ al hi;constructor
 ·rw [h3]; unfold bB aj; simp; omega
 ·unfold dL;rw [h3,r0,r0,Nat.testBit_lt_two_pow h4,Bool.and_false]
theorem qd1{old:gs}(hl:old.length<=1048576){p:Int}{n:Nat}(h0:0<=p)(h:p.toNat+n<=old.length):dW (cR p (aS .i64 p (n:Int)) old.length)=ac ()/\(old.take (sY (aS .i64 p (n:Int)))).drop (sY p)=M.win old p.toNat n:=by
 obtain ⟨q,rfl⟩:∃ q:Nat,p=q:=⟨p.toNat,by omega⟩;simp only [r0] at h ⊢;rw [rF al,ga al al];exact ⟨rfl,rfl⟩
theorem qe0{m:af}(hm:cG m=gi){old:gs}(ho:aw old):∀ (n i:Nat) (x:aW),i+n=m.aI.length->M.Part m i x->M.Part m (i+n) (yV m old n i x):=by
 have h40:=BX hm;intro n
 induction n with
 | zero=>intro i x _ hp; exact hp
 | succ n ih =>
  intro i x h hp;simp only [yV]
  by_cases hq:0<=eG old m i
  ·obtain ⟨s,g1,g2,g3,g4⟩:=Fj hq;have hb:=i6 ho (eG old m i).toNat (qs m i);have hbl:(M.win old (eG old m i).toNat (qs m i)).length=qs m i:=m5 g4;have hput:=Wt hp al hb hbl;have k3:=ih (i+1) _ al hput;rw [if_pos hq];rwa [show i+1+n=i+(n+1) by omega] at k3
  ·have k3:=ih (i+1) x al (HM hp al);rw [if_neg hq];rwa [show i+1+n=i+(n+1) by omega] at k3
end Go.Tm.Pu
