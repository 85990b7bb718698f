/- Plain laws of the functions. -/
import Derived.Test.YtdcoelkflgpfgaaGreatCFnSafesP1
set_option linter.unusedVariables false
set_option linter.unusedSimpArgs false
open Bool renaming and_eq_true->sk,and_self->zXV,false_eq_true->zWW,not_true->zQK,true_and->zWk
open Int renaming add_mul->zZx,toNat->sY,toNat_natCast->rg
open List renaming all_cons->zYh,all_eq_true->zYx,append_assoc->zQZ,append_cancel_left->zZH,append_nil->zWQ,drop_drop->zZK,drop_eq_getElem_cons->zXy,drop_of_length_le->zXv,eq_nil_of_length_eq_zero->r0,foldl_cons->zYK,getElem?_append_left->zQQ,getElem?_append_right->zQW,getElem?_cons_zero->zWJ,getElem?_eq_getElem->sX,getElem?_map->zQX,getElem?_range->zYj,getElem?_set->zYQ,head?->zZQ,head?_drop->zXj,length->zYq,length_append->zQV,length_cons->zQG,length_drop->zYV,length_map->zXQ,length_nil->zXZ,length_set->zXJ,length_singleton->zYw,length_take->zQz,map_cons->zWh,map_map->zZq,mem_append->zWw,mem_cons->zYY,mem_map->zYZ,mem_of_getElem?->zQY,mem_of_mem_drop->zWg,mem_of_mem_take->zWX,mem_or_eq_of_mem_set->zXz,mem_singleton->zQH,nil_append->zQy,not_mem_nil->zZv,range->zXW,range'->zWY,range'_succ->zXh,range_eq_range'->zXx,replicate->zQk,tail->zZV,tail_drop->zYX,take_append_drop->zXK,take_of_length_le->zXk
open Nat renaming add_zero->zXg,le_refl->zWy,le_trans->zWx,min_eq_left->zXH,pow_le_pow_right->zWz,succ_mul->zYz,zero_add->zWZ
open Option renaming bind_some->wk,getD_some->zYy
namespace Go.Tm.Pu
open Go.Tm
theorem Cr{d:am}(h:M.DB d):aB (c6 d).2/\(c6 d).2.length<=240:=by
 unfold c6
 split
 ·rename_i hd;have:=Gt hd d.fR.bQ;exact ⟨No (Np h _) _,by simp only [zQz]; omega⟩
 ·exact ⟨jJ,by simp⟩
theorem MB{b:List Int}(hb:aB b):M.MsgWf (cM b).1:=by
 unfold cM
 split
 ·rename_i h;simp only [sk] at h;have g:=eH hb (Mt _ h.1);have p:=Mu hb (k:=(bN b 0).1) (a:=(bN b 0).2.1) (by simpa using g.2.2.2.2.2)
  cases hr:Db b (bN b 0).1 (bN b 0).2.1 with
  | none=>exact EN _ _ _ _ _ jJ (by simp)
  | some x =>
   obtain ⟨m,e⟩:=x;have q:=p m e hr;dsimp only
   split
   ·exact q.1
   ·exact EN _ _ _ _ _ jJ (by simp)
 ·exact EN _ _ _ _ _ jJ (by simp)
def M.drop(n:aC):aC:=⟨n.fL,n.bR,n.bG,n.ay,n.bB,n.bc,n.bi,bd .i64 n.bw 1⟩
theorem u9(u:Nat){n:aC}(h:M.NodWf n):kd u n=some (M.drop n):=by
 unfold kd;rw [fJ u h]; rfl
def m7(n:aC)(d:am)(m:al):aC :=
 if n.bc=0 then
  (if dd m && (m.aM != 0) then ⟨n.fL,n.bR,n.bG,m,kE m (c6 d).2,if ((c6 d).1 == m.aM) && M.tells m (c6 d).2 then 5 else 1,n.bi,n.bw⟩ else n)
 else if vS n.ay m then n else M.drop n
theorem Is{u:Nat}(hu:1099511627776<=u){n:aC}(hn:M.NodWf n){d:am}(hd:M.DOk d)(hb:M.DB d){m:al}(hm:m.aO.length<=1048576):sH u n d m=some (m7 n d m):=by
 obtain ⟨rb,rl⟩:=Cr hb;unfold sH m7 q5 qZ qY;simp only [fJ u hn,Av hu hn.s,u9 u hn,gF hu m (show m.aO.length<=1073741824 by omega),Aw hu hd,wQ u hm,xD hu hm rb (show _<=1048576 by omega),Cn hu m rb (show _<=1048576 by omega),wk]
 by_cases h:n.bc=0
 ·have e:(n.bc != 0)=false:=by simp [h]
  rw [if_pos h];simp only [e,cond_false];rw [show (m.aM != 0)=!(m.aM == 0) from rfl]
  cases dd m <;> cases (m.aM == 0) <;> cases ((c6 d).1 == m.aM) <;> cases M.tells m (c6 d).2 <;> rfl
 ·have e:(n.bc != 0)=true:=by simpa using h
  simp only [e,h,cond_true,if_false]
  cases vS n.ay m <;> rfl
def zh(n:aC)(x:bI):aC:=⟨n.fL,n.bR,n.bG,n.ay,x,n.bc,n.bi,n.bw⟩
def ft(n:aC)(me:Int)(m:fc):Act :=
 if n.bc=0\/m.aM≠n.ay.aM then ⟨M.drop n,[]⟩
 else if ef n.bB.bq m.fI then ⟨n,[]⟩
 else if (mx n.ay n.bB m.fI m.fB).2 then ff (zh n (mx n.ay n.bB m.fI m.fB).1) me m.fI
 else ⟨M.drop n,[]⟩
theorem Uy{m:al}{x:bI}{i:Int}{b:List Int}(h:(th m x i b).1=true):au i 0 ((m.aO.length:Int) - 1)=true/\(match m.aO[i.toNat]? with | some s=>decide (dX b=s) | none=>false)=true:=by
 unfold th at h;generalize hc:(au i 0 ((m.aO.length:Int) - 1) && !ef x.bq i && (match m.aO[i.toNat]? with | some s=>decide (dX b=s) | none=>false))=c at h
 cases c with
 | false=>cases h
 | true=>simp only [sk] at hc; exact ⟨hc.1.1,hc.2⟩
theorem Hq{m:al}{x:bI}(hx:M.BldWf x)(i:Int){b:List Int}(hb:aB b):M.BldWf (mx m x i b).1:=by
 unfold mx
 by_cases h:(jK m x && (th m x i b).1)=true
 ·rw [if_pos h];simp only [sk] at h;obtain ⟨hbo,h2⟩:=h;obtain ⟨hm,hs⟩:=Bv hbo;have hl:=xC hbo;obtain ⟨h4,h6⟩:=Uy h2;have h7:=cd h4;obtain ⟨n,rfl⟩:∃ n:Nat,i=n:=⟨i.toNat,by omega⟩;rw [rg] at h6
  cases hg:m.aO[n]? with
  | none=>rw [hg] at h6; cases h6
  | some s =>
   rw [hg] at h6;have h8:=Mx hb (of_decide_eq_true h6) (My hm hg);obtain ⟨e1,e2,e3⟩:=EU (b:=x.b9) hl n;obtain ⟨g1,g2⟩:=Bw (x:=x.b9) (p:=b) (a:=M.at_ m n) (by omega) hx.b hb;exact ⟨g1,by show (Ae _ _ _).length<=_; rw [g2]; exact hx.l⟩
 ·rw [if_neg h]; exact hx
theorem KF{n:aC}(hn:M.NodWf n){x:bI}(hx:M.BldWf x):M.NodWf (zh n x):=⟨hn.s,hx,hn.k,hn.w⟩
theorem GN{u:Nat}(hu:1099511627776<=u){n:aC}(hn:M.NodWf n)(me:Int){m:fc}(hm:M.MsgWf m):qu u n me m=some (ft n me m):=by
 unfold qu ft pO;simp only [fJ u hn,u9 u hn,kD,GH hu hn.s hn.b m.fI hm.b hm.len,wk];rw [show (aC.mk n.fL n.bR n.bG n.ay (mx n.ay n.bB m.fI m.fB).1 n.bc n.bi n.bw)=zh n (mx n.ay n.bB m.fI m.fB).1 from rfl,Ir hu (KF hn (Hq hn.b m.fI hm.b)) me m.fI];simp only [wk]
 by_cases h1:n.bc=0
 ·simp [h1]
 ·by_cases h2:m.aM=n.ay.aM
  ·have e:(n.bc == 0)=false:=by simpa using h1
   simp only [h1,h2,e,cond_false,bne_self_eq_false,ne_eq,not_true_eq_false,or_self,if_false]
   cases ef n.bB.bq m.fI <;> cases (mx n.ay n.bB m.fI m.fB).2 <;> rfl
  ·have e:(n.bc == 0)=false:=by simpa using h1
   have e2:(m.aM != n.ay.aM)=true:=by simpa using h2
   simp [h1,h2,e,e2]
def BA(n:aC):aC:=⟨n.fL,n.bR,0,n.ay,n.bB,n.bc,n.bi,n.bw⟩
theorem BW{n:aC}(hn:M.NodWf n):M.NodWf (BA n):=⟨hn.s,hn.b,hn.k,hn.w⟩
def iw(n:aC)(me:Int)(d:am)(m:fc):Act :=
 if m.br=1 then ⟨m7 (BA n) d m.ay,[]⟩
 else if m.br=3 then ft (BA n) me m
 else if m.br=2 then ⟨M.drop (BA n),[]⟩
 else ⟨BA n,[]⟩
theorem Vy{α:Type}(k:Int)(a b c e:α):(bif k == 1 then a else (bif k == 3 then b else (bif k == 2 then c else e)))=if k=1 then a else if k=3 then b else if k=2 then c else e:=by
 by_cases h1:k=1
 ·subst h1; rfl
 ·by_cases h2:k=3
  ·subst h2; rfl
  ·by_cases h3:k=2
   ·subst h3; rfl
   ·have e1:(k == 1)=false:=by simpa using h1
    have e2:(k == 3)=false:=by simpa using h2
    have e3:(k == 2)=false:=by simpa using h3
    simp [h1,h2,h3,e1,e2,e3]
theorem Ty{α:Type}(p q r:Prop)[Decidable p][Decidable q][Decidable r](a b c e:α):(if p then some a else if q then some b else if r then some c else some e)=some (if p then a else if q then b else if r then c else e):=by
 by_cases hp:p <;> by_cases hq:q <;> by_cases hr:r <;> simp [hp,hq,hr]
theorem GO{u:Nat}(hu:1099511627776<=u){n:aC}(hn:M.NodWf n)(me:Int){d:am}(hd:M.DOk d)(hb:M.DB d){m:fc}(hm:M.MsgWf m):qv u n me d m=some (iw n me d m):=by
 unfold qv iw mT;simp only [fJ u hn,wk];rw [show (aC.mk n.fL n.bR 0 n.ay n.bB n.bc n.bi n.bw)=BA n from rfl,Is hu (BW hn) hd hb hm.sums,GN hu (BW hn) me hm,Vy];exact Ty _ _ _ _ _ _ _
def M.take(t:cX)(me:Int)(n:aC)(d:am)(p:ai):Act :=
 if !n.fL then ⟨n,[]⟩
 else if (cM p.fB).2 && au p.dt 0 ((t.ca.length:Int) - 1) && (p.dt != me) then
  (if (cM p.fB).1.br=2 then df n me p.dt (cM p.fB).1
   else if p.dt=n.bR then iw n me d (cM p.fB).1 else ⟨M.drop n,[]⟩)
 else ⟨M.drop n,[]⟩
theorem Nq{u:Nat}(hu:1099511627776<=u){t:cX}(ht:t.ca.length<=1048576)(me:Int){n:aC}(hn:M.NodWf n)(hk:n.bi.length<=1048576){d:am}(hd:M.DOk d)(hb:M.DB d){p:ai}(hp:aB p.fB)(hl:p.fB.length<=1048576):yx u t me n d p=some (M.take t me n d p):=by
 have w:=MB hp;have eb:ez .i64 ((t.ca.length:Int)) 1=(t.ca.length:Int) - 1:=dD (by omega) (by omega);unfold yx M.take sJ;simp only [fJ u hn,u9 u hn,wN hu hp hl,bL,eb,Dh hu hn hk,GO hu hn me hd hb w,wk]
 by_cases h1:(cM p.fB).1.br=2
 ·simp only [h1,beq_self_eq_true,cond_true,if_true];rw [show (p.dt != me)=!(p.dt == me) from rfl]
  cases n.fL <;> cases (cM p.fB).2 <;> cases au p.dt 0 ((t.ca.length:Int) - 1) <;> cases (p.dt == me) <;> rfl
 ·have e1:((cM p.fB).1.br == 2)=false:=by simpa using h1
  simp only [e1,h1,cond_false,if_false];rw [show (p.dt != me)=!(p.dt == me) from rfl]
  by_cases h2:p.dt=n.bR
  ·have e2:(p.dt == n.bR)=true:=by simpa using h2
   simp only [e2,cond_true,if_pos h2]
   cases n.fL <;> cases (cM p.fB).2 <;> cases au p.dt 0 ((t.ca.length:Int) - 1) <;> cases (p.dt == me) <;> rfl
  ·have e2:(p.dt == n.bR)=false:=by simpa using h2
   simp only [e2,cond_false,if_neg h2]
   cases n.fL <;> cases (cM p.fB).2 <;> cases au p.dt 0 ((t.ca.length:Int) - 1) <;> cases (p.dt == me) <;> rfl
def zi:List Int->Int->Int->Int
 | [],_,a=>a
 | y :: ys,n,a=>if n < 1 then a else zi ys (ez .i64 n 1) (xO .i64 a (jF .i64 1 y))
def GP(s n:Int):Int:=zi (lO s) n 0
theorem Qq(s:Int):lO s=((zWY 0 40).filter λ(i:Nat)=>ef s (i:Int)).map λ(i:Nat)=>(i:Int):=by
 unfold lO;rw [<- zXx]
 cases h:cq s with
 | false=>simp [ef,h]
 | true =>
  simp only [if_true]
  congr 1
  apply List.filter_congr
  intro i hi;have hi:i < 40:=by simpa using hi
  have:fe (i:Int)=true:=by simp [fe,au]; omega
  simp [ef,h,this]
theorem Sb:∀ (l:List Int) (n a:Int),n < 1->zi l n a=a:=by
 intro l n a h
 cases l with
 | nil=>rfl
 | cons y ys=>simp only [zi,h,if_true]
theorem Nr(u:Nat)(s:Int):∀ (m i f:Nat) (n a:Int),i+m=40->m < f ->
  fF u f s n a (i:Int)=some (zi (((zWY i m).filter λ(i:Nat)=>ef s (i:Int)).map λ(i:Nat)=>(i:Int)) n a):=by
 intro m
 induction m with
 | zero =>
  intro i f n a h hf;obtain ⟨f,rfl⟩:∃ f',f=f'+1:=⟨f - 1,by omega⟩;have e:decide ((i:Int) < 40)=false:=by simp; omega
  simp only [fF,e,cond_false,nQ,qT]; rfl
 | succ m ih =>
  intro i f n a h hf;obtain ⟨f,rfl⟩:∃ f',f=f'+1:=⟨f - 1,by omega⟩;have e:decide ((i:Int) < 40)=true:=by simp; omega
  have hi:dC (decide ((0:Int)<=(i:Int)))=some ():=bD (by omega);have hb:bd .i64 (i:Int) 1=((i+1:Nat):Int):=td (a:=i) (b:=1) (by omega);simp only [fF,e,cond_true,nQ,qU,qT,kD,wk,hi,hb]
  by_cases hn:n > 0
  ·have hn2:¬ n < 1:=by omega
   simp only [hn,decide_true,cond_true];rw [zXh,List.filter_cons]
   cases hs:ef s (i:Int) with
   | true =>
    simp only [cond_true,if_true,zWh,zi,hn2,if_false];exact ih (i+1) f _ _ (by omega) (by omega)
   | false =>
    simp only [cond_false,zWW,if_false];exact ih (i+1) f _ _ (by omega) (by omega)
  ·simp only [hn,decide_false,cond_false];rw [Sb _ _ _ (by omega)]
theorem It{u:Nat}(hu:1099511627776<=u)(s n:Int):sB u s n=some (GP s n):=by
 unfold sB GP;rw [Qq];exact Nr u s 40 0 u n 0 rfl (by omega)
def KG(n:aC):Int:=if n.bc=0 then 0 else zf n.ay n.bB
theorem KH{u:Nat}(hu:1099511627776<=u){n:aC}(hn:M.NodWf n):uv u n=some (KG n):=by
 unfold uv KG;rw [AA u]
 by_cases h:n.bc=0
 ·simp [h]
 ·have e:(n.bc == 0)=false:=by simpa using h
  simp [h,e]
def O7(n:aC)(w:Int):Int:=GP (KG n) w
theorem KI{u:Nat}(hu:1099511627776<=u){n:aC}(hn:M.NodWf n)(w:Int):uw u n w=some (O7 n w):=by
 unfold uw;simp only [KH hu hn,It hu,wk]; rfl
def Di(s i:Int):Int:=if cq s && fe i then xO .i64 s (jF .i64 1 i) else s
theorem Iu(u:Nat)(s i:Int):ib u s i=some (Di s i):=by
 unfold ib mD Di;simp only [ie,bL,wk]
 cases cq s with
 | false=>rfl
 | true =>
  cases h:fe i with
  | false=>rw [show au i 0 39=false from h]; rfl
  | true =>
   have:=cd h;rw [show au i 0 39=true from h,bD (by omega)]; rfl
def GQ(n:aC)(k:Int):Int:=if n.bc=5 then Di (BQ n.bi 0) k else BQ n.bi 0
theorem Iv{u:Nat}(hu:1099511627776<=u){n:aC}(hk:n.bi.length<=1048576)(k:Int):sC u n k=some (GQ n k):=by
 unfold sC qV GQ;simp only [Kk hu hk,Iu,wk]
 by_cases h:n.bc=5
 ·simp [h]
 ·have e:(n.bc == 5)=false:=by simpa using h
  simp [h,e]
def zj(g w d:Int):fc:=⟨2,g,Ip,w,d,0,[]⟩
theorem Dj(g w d:Int):M.MsgWf (zj g w d):=EN _ _ _ _ _ jJ (by simp)
def tX(c:ig)(n:aC)(d:am)(b q:Int):aC:=⟨n.fL,b,q,n.ay,n.bB,(eg d n.ay n.bB n.bc).2,lv n.bi c.aP,n.bw⟩
def tY(c:ig)(k:Int)(n:aC)(d:am)(b q:Int):Fl :=
 ⟨tX c n d b q,(eg d n.ay n.bB n.bc).1,[iZ k b (zj n.ay.aM (O7 (tX c n d b q) c.aT) (GQ (tX c n d b q) k))]⟩
def M.tick(t:cX)(c:ig)(k:Int)(n:aC)(d:am):Fl :=
 if !n.fL then ⟨n,d,[]⟩
 else if k=0 then ⟨jU n (lv n.bi c.aP),d,[]⟩
 else if c.aF<=n.bG then tY c k n d (wP t k n.bR) 0
 else tY c k n d n.bR (bd .i64 n.bG 1)
theorem Dk(l:List bS)(f:Int):(lv l f).length<=l.length:=by
 unfold lv;rw [zXQ];exact List.length_filter_le _ _
theorem Hr{n:aC}(hn:M.NodWf n)(c:ig)(d:am)(b q:Int):M.NodWf (tX c n d b q):=⟨hn.s,hn.b,zWx (Dk _ _) hn.k,hn.w⟩
theorem Iw{u:Nat}(hu:1099511627776<=u){c:ig}{k:Int}{n:aC}(hn:M.NodWf n)(hk:n.bi.length<=1048576){d:am}(hd:M.DOk d)(hl:d.fP.length<=1048575)(b q:Int):sD u k c d n b q (lv n.bi c.aP) d=some (tY c k n d b q):=by
 unfold sD tY;have ha:=Dk n.bi c.aP;rw [Df hu hd hl hn.s hn.b,wk];rw [show (aC.mk n.fL b q n.ay n.bB (eg d n.ay n.bB n.bc).2 (lv n.bi c.aP) n.bw)=tX c n d b q from rfl];rw [KI hu (Hr hn c d b q),wk,Iv hu (show (tX c n d b q).bi.length<=1048576 from zWx ha hk),wk];unfold sn;rw [wk,show (∀ w x,fc.mk 2 n.ay.aM (al.mk 0 0 0 []) w x 0 []=zj n.ay.aM w x) from λ_ _=>rfl,kQ hu _ _ (Dj _ _ _),wk,Nn];rfl
theorem Ns{u:Nat}(hu:1099511627776<=u){t:cX}(ht:t.ca.length<=1048576)(c:ig)(k:Int){n:aC}(hn:M.NodWf n)(hk:n.bi.length<=1048576){d:am}(hd:M.DOk d)(hl:d.fP.length<=1048575):yu u t c k n d=some (M.tick t c k n d):=by
 unfold yu M.tick;simp only [fJ u hn,gG hu hd,Kz hu hk,GF hu ht,wk,Iw hu hn hk hd hl];rw [show (aC.mk n.fL n.bR n.bG n.ay n.bB n.bc (lv n.bi c.aP) n.bw)=jU n (lv n.bi c.aP) from rfl]
 cases n.fL with
 | false=>rfl
 | true =>
  by_cases h:k=0
  ·subst h; rfl
  ·have e:(k == 0)=false:=by simpa using h
   by_cases h2:c.aF<=n.bG
   ·have e2:decide (n.bG>=c.aF)=true:=by simpa using h2
    simp [h,e,e2,h2]
   ·have e2:decide (n.bG>=c.aF)=false:=by simp; omega
    simp [h,e,e2,h2]
theorem Dl(m:fc):(cL m).length<=1000:=by
 unfold cL
 split
 ·rename_i hok;have k:=bT [] m.br;have g:=bT (aZ [] m.br) m.aM;have l:=bT (c7 m) (cF (c7 m));simp only [zXZ] at k
  suffices h:(c7 m).length<=600 by omega
  unfold c7 qJ
  split
  ·have:=Cm (aZ [] m.br) m.ay; omega
  ·rename_i n1
   split
   ·have h1:=bT (aZ (aZ [] m.br) m.aM) (fK .i64 m.cn 1048575);have h2:=bT (aZ (aZ (aZ [] m.br) m.aM) (fK .i64 m.cn 1048575)) (nD .i64 m.cn 20);have h3:=bT (aZ (aZ (aZ (aZ [] m.br) m.aM) (fK .i64 m.cn 1048575)) (nD .i64 m.cn 20)) (fK .i64 m.ci 1048575);have h4:=bT (aZ (aZ (aZ (aZ (aZ [] m.br) m.aM) (fK .i64 m.cn 1048575)) (nD .i64 m.cn 20)) (fK .i64 m.ci 1048575)) (nD .i64 m.ci 20);omega
   ·rename_i n2
    split
    ·rename_i n3;have h1:=bT (aZ (aZ [] m.br) m.aM) m.fI;have h2:=bT (aZ (aZ (aZ [] m.br) m.aM) m.fI) m.fB.length;have h3:m.fB.length<=6:=by
      unfold gk at hok;simp only [n1,n2,n3] at hok;have h4:au m.fB.length 1 6=true:=by
       revert hok
       cases au (m.fB.length:Int) 1 6 <;> simp
      have:=cd h4;omega
     rw [zQV]; omega
    ·split <;> omega
 ·simp
def ye(p:ai):Prop:=aB p.fB/\p.fB.length<=1048576
theorem Hs(f t:Int){m:fc}(hm:M.MsgWf m):ye (iZ f t m):=⟨EO hm,by have:=Dl m; show (cL m).length<=_; omega⟩
def cW(s:List ai×List cH×Int)(p:ai):List ai×List cH×Int :=
 if 400<=s.1.length then (s.1,s.2.1,bd .i64 s.2.2 1)
 else (s.1++[p],if (cM p.fB).2 && ((cM p.fB).1.br == 3) && decide (s.2.1.length < 3000) then s.2.1++[⟨p.dt,p.tl,(cM p.fB).1.fI⟩] else s.2.1,s.2.2)
def GR(w:World)(out:List ai):World :=
 ⟨w.fC,w.fT,w.bK,w.bA,w.fN,w.fD,(out.foldl cW (w.bn,w.cN,w.bl)).1,(out.foldl cW (w.bn,w.cN,w.bl)).2.1,(out.foldl cW (w.bn,w.cN,w.bl)).2.2⟩
theorem O8{u:Nat}(hu:1099511627776<=u)(w:World)(out:List ai)(ho:∀ p∈out,ye p)(hl:out.length<=1048576):∀ (l:List ai) (k j:Nat) (s:List ai×List cH×Int),l=out.drop j->l.length < k ->
  cf u k out (j:Int) w s.1 s.2.1 s.2.2=some ⟨w.fC,w.fT,w.bK,w.bA,w.fN,w.fD,(l.foldl cW s).1,(l.foldl cW s).2.1,(l.foldl cW s).2.2⟩:=by
 intro l
 induction l with
 | nil =>
  intro k j s h hf;obtain ⟨k,rfl⟩:∃ k',k=k'+1:=⟨k - 1,by simp at hf; omega⟩;have hj:out.length<=j:=by
   have:=congrArg zYq h; simp at this; omega
  have e:decide ((j:Int) < (out.length:Int))=false:=by simp; omega
  simp only [cf,e,cond_false];rfl
 | cons x l ih =>
  intro k j s h hf;obtain ⟨k,rfl⟩:∃ k',k=k'+1:=⟨k - 1,by simp at hf; omega⟩;have hx:out[j]?=some x:=by
   have:=congrArg zZQ h
   simpa [zXj] using this.symm
  have hl2:l=out.drop (j+1):=by
   have:=congrArg zZV h
   simpa [zYX] using this
  have hj:=(List.getElem?_eq_some_iff.1 hx).1;have e:decide ((j:Int) < (out.length:Int))=true:=by simp; omega
  have hb:bd .i64 (j:Int) 1=((j+1:Nat):Int):=td (a:=j) (b:=1) (by omega);have px:=ho x (zQY hx);have r:=ih k (j+1) (cW s x) hl2 (by simp at hf; omega);simp only [zYK,<- r];simp only [cf,e,cond_true,dc,hx,wk,ET px.2,wN hu px.1 px.2,eL,fG,hb]
  by_cases h4:400<=s.1.length
  ·have e4:decide (((s.1.length:Int))>=400)=true:=by simp; omega
   simp only [e4,cond_true,cW,h4,if_true]
  ·have e4:decide (((s.1.length:Int))>=400)=false:=by simp; omega
   simp only [e4,cond_false,Qo (show s.1.length<=1048576 by omega),wk,cW,h4,if_false,zQy]
   cases h5:(cM x.fB).2 with
   | false=>simp
   | true =>
    cases h6:((cM x.fB).1.br == 3) with
    | false=>simp
    | true =>
     by_cases h7:s.2.1.length < 3000
     ·have e7:decide ((s.2.1.length:Int) < 3000)=true:=by simp; omega
      have e8:dC (decide ((s.2.1.length + [cH.mk x.dt x.tl (cM x.fB).1.fI].length)*24<=140737488355328))=some ():=bD (by simp; omega);simp only [e7,e8,h7,cond_true,wk,decide_true,zXV,if_true]
     ·have e7:decide ((s.2.1.length:Int) < 3000)=false:=by simp; omega
      simp [e7,h7]
theorem AC{u:Nat}(hu:1099511627776<=u)(w:World){out:List ai}(ho:∀ p∈out,ye p)(hl:out.length<=1048576):mb u w out=some (GR w out) :=
 O8 hu w out ho hl out u 0 (w.bn,w.cN,w.bl) rfl (by omega)
theorem MC{b p:List Int}(hb:aB b)(hp:aB p)(a:Nat):aB (yX b a p):=by
 unfold yX;have hx:aB (b++zQk (a+p.length - b.length) 0):=xy hb (λx hx=>by have:=List.eq_of_mem_replicate hx; omega);exact (Bw (by simp; omega) hx hp).1
theorem MD{d:am}(hd:M.DB d){p:ct}(hp:aB p.fB):M.DB (gZ d p):=⟨hd.a,hd.b,λx hx=>by
 simp only [gZ,zWw,zQH] at hx;rcases hx with hx | rfl
 ·exact hd.p x hx
 ·exact hp⟩
theorem O9{d:am}(hd:M.DB d)(s a:Int){b:List Int}(hb:aB b):M.DB (iY d s a b).1:=by
 rcases Hm d s a b with ⟨h1,_⟩ | h1
 ·rw [h1]; exact MD hd hb
 ·rw [h1]; exact hd
theorem E3{d0:am}(h0:M.DB d0){b:List Int}(hb:aB b){size:Int}:∀ (n i:Nat) (d:am),M.DB d->M.DB (jC d0 b size n i d).1
 | 0,i,d,hd=>hd
 | n+1,i,d,hd=>by
  unfold jC
  split
  ·exact E3 h0 hb n (i+1) _ (O9 hd _ _ (ug hb size i).1)
  ·exact h0
theorem ME{d:am}(hd:M.DB d){p:ct}(hp:aB p.fB):M.DB (ml d p):=by
 unfold ml
 split
 ·exact ⟨hd.a,hd.b,hd.p⟩
 ·split
  ·exact ⟨MC hd.a hp _,hd.b,hd.p⟩
  ·exact ⟨hd.a,MC hd.b hp _,hd.p⟩
theorem Rb:∀ (l:List ct) (d:am),(∀ p∈l,aB p.fB)->M.DB d->M.DB (wM l d)
 | [],d,_,hd=>⟨hd.a,hd.b,by simp [wM]⟩
 | p :: l,d,hp,hd=>Rb l _ (λq hq=>hp q (by simp [hq])) (ME hd (hp p (by simp)))
theorem Rc{d:am}(hd:M.DB d):M.DB (M.sure d):=by
 unfold M.sure
 split
 ·exact Rb _ _ hd.p hd
 ·exact hd
theorem LJ{d:am}(hd:M.DB d){m:al}{x:bI}(hx:M.BldWf x)(ph:Int):M.DB (eg d m x ph).1:=by
 have hst:M.DB (lw d x.b9 m.aw).1:=by
  unfold lw
  split
  ·exact E3 hd hx.b _ _ _ hd
  ·exact hd
 have hr:M.DB (gl d ⟨m.aM,jj d,m.aW⟩).1:=by
  unfold gl;rcases Nm d ⟨2,0,[],⟨m.aM,jj d,m.aW⟩⟩ with ⟨h1,h2⟩ | h1
  ·rw [h1]; exact MD hd jJ
  ·rw [h1]; exact hd
 unfold eg
 split
 ·split
  ·exact hst
  ·exact hd
 ·split
  ·exact Rc hd
  ·split
   ·split
    ·exact hr
    ·exact hd
   ·split
    ·exact Rc hd
    ·exact hd
structure M.ActWf (n:aC) (out:List ai):Prop where
 n:M.NodWf n
 o:∀ p∈out,ye p
 l:out.length<=1048576
theorem GS{n:aC}(hn:M.NodWf n):M.ActWf n []:=⟨hn,λp hp=>by simp at hp,by simp⟩
theorem Uz{n:aC}(hn:M.NodWf n)(f t:Int){m:fc}(hm:M.MsgWf m):M.ActWf n [iZ f t m]:=⟨hn,λp hp=>by
 simp only [zQH] at hp;rw [hp]; exact Hs f t hm,by simp⟩
theorem Ct{n:aC}(hn:M.NodWf n)(f t i:Int):ye (vH n f t i):=by
 have w:=Dg n.ay hn.b i;exact Hs f t (zS _ _ w.1 w.2)
theorem BX{n:aC}(hn:M.NodWf n):M.NodWf (M.drop n):=⟨hn.s,hn.b,hn.k,hn.w⟩
theorem Nt{n:aC}(hn:M.NodWf n)(f t:Int):M.ActWf (fq n f t).fN (fq n f t).kj:=by
 refine ⟨⟨hn.s,hn.b,?_,hn.w⟩,λp hp=>?_,zWx (LH n f t) (by omega)⟩
 ·show (nE _ _ _).length<=_;rw [ER]; exact hn.k
 ·unfold fq at hp;simp only [zYZ] at hp;obtain ⟨i,_,rfl⟩:=hp;exact Ct hn f t i
theorem LK{n:aC}(hn:M.NodWf n)(hk:n.bi.length<=1048576)(me f:Int)(m:fc):M.ActWf (df n me f m).fN (df n me f m).kj:=by
 have hl:=OZ n.bi f m.cn m.ci;have hw:M.NodWf (jU n (qc n.bi f m.cn m.ci)):=xE hn (by omega);have hs:=Nt hw me f;unfold df
 split
 ·exact GS hn
 ·split
  ·exact Uz hw _ _ (BV 0)
  ·split
   ·dsimp only
    split
    ·exact Uz hs.n _ _ (BV _)
    ·exact hs
   ·exact Uz hw _ _ (Mz hn.s hn.w)
theorem UA{n:aC}(hn:M.NodWf n)(me i:Int):∀ (l:List bS) (s:List bS×List ai),(∀ p∈s.2,ye p)->∀ p∈(l.foldl (eC n me i) s).2,ye p:=by
 intro l
 induction l with
 | nil=>intro s h; exact h
 | cons x l ih =>
  intro s h;refine ih _ λp hp=>?_;unfold eC at hp
  split at hp
  ·simp only [zWw,zQH] at hp;rcases hp with hp | rfl
   ·exact h p hp
   ·exact Ct hn _ _ _
  ·exact h p hp
theorem Qr{n:aC}(hn:M.NodWf n)(hk:n.bi.length<=1048576)(me i:Int):M.ActWf (ff n me i).fN (ff n me i).kj:=by
 have h:=Ux n me i n.bi (n.bi,[]);unfold ff
 split
 ·refine ⟨xE hn ?_,UA hn me i _ _ (λp hp=>by simp at hp),?_⟩
  ·have:=h.1; unfold E2; dsimp only at this ⊢; omega
  ·have:=h.2; unfold E2; simp only [zXZ] at this; dsimp only; omega
 ·exact GS hn
theorem Qs{n:aC}(hn:M.NodWf n){d:am}(hb:M.DB d){m:al}(hs:m.aO.length<=1048576)(hw:pW m):M.NodWf (m7 n d m):=by
 obtain ⟨rb,rl⟩:=Cr hb;unfold m7
 split
 ·split
  ·rename_i h;simp only [sk] at h;exact ⟨hs,(Bx h.1 rb (by omega)).b,hn.k,hw⟩
  ·exact hn
 ·split
  ·exact hn
  ·exact BX hn
theorem Pa{n:aC}(hn:M.NodWf n)(hk:n.bi.length<=1048576)(me:Int){m:fc}(hm:M.MsgWf m):M.ActWf (ft n me m).fN (ft n me m).kj:=by
 unfold ft
 split
 ·exact GS (BX hn)
 ·split
  ·exact GS hn
  ·split
   ·exact Qr (KF hn (Hq hn.b m.fI hm.b)) hk me m.fI
   ·exact GS (BX hn)
theorem Pb{n:aC}(hn:M.NodWf n)(hk:n.bi.length<=1048576)(me:Int){d:am}(hb:M.DB d){m:fc}(hm:M.MsgWf m):M.ActWf (iw n me d m).fN (iw n me d m).kj:=by
 unfold iw
 split
 ·exact GS (Qs (BW hn) hb hm.sums hm.wf)
 ·split
  ·exact Pa (BW hn) hk me hm
  ·split
   ·exact GS (BX (BW hn))
   ·exact GS (BW hn)
theorem UB(t:cX)(me:Int){n:aC}(hn:M.NodWf n)(hk:n.bi.length<=1048576){d:am}(hb:M.DB d){p:ai}(hp:aB p.fB):M.ActWf (M.take t me n d p).fN (M.take t me n d p).kj:=by
 have w:=MB hp;unfold M.take
 split
 ·exact GS hn
 ·split
  ·split
   ·exact LK hn hk me _ _
   ·split
    ·exact Pb hn hk me hb w
    ·exact GS (BX hn)
  ·exact GS (BX hn)
structure M.BeatWf (b:Fl):Prop where
 a:M.ActWf b.fN b.kj
 d:M.DOk b.fD
 l:b.fD.fP.length<=200
 b:M.DB b.fD
theorem Ht(c:ig)(k:Int){n:aC}(hn:M.NodWf n){d:am}(hd:M.DOk d)(hl:d.fP.length<=200)(hb:M.DB d)(b q:Int):M.BeatWf (tY c k n d b q):=by
 have h:=KE hd hl (m:=n.ay) hn.b n.bc;exact ⟨Uz (Hr hn c d b q) _ _ (Dj _ _ _),h.1,h.2,LJ hb hn.b _⟩
theorem UC(t:cX)(c:ig)(k:Int){n:aC}(hn:M.NodWf n){d:am}(hd:M.DOk d)(hl:d.fP.length<=200)(hb:M.DB d):M.BeatWf (M.tick t c k n d):=by
 unfold M.tick
 split
 ·exact ⟨GS hn,hd,hl,hb⟩
 ·split
  ·exact ⟨GS (xE hn (zWx (Dk _ _) hn.k)),hd,hl,hb⟩
  ·split
   ·exact Ht c k hn hd hl hb _ _
   ·exact Ht c k hn hd hl hb _ _
def dT(l:List bS):List Int:=l.map λx=>x.oK
structure M.IdsOk (s:List Int):Prop where
 r:∀ x∈s,0<=x/\x<=6
 p:s.Pairwise (· < ·)
def nF(l:List bS):Prop:=M.IdsOk (dT l)
theorem Tz:∀ (s:List Int) (a:Int),a<=7->(∀ x∈s,a<=x/\x<=6)->s.Pairwise (· < ·)->(s.length:Int)<=7 - a
 | [],a,ha,_,_=>by simp; omega
 | x :: s,a,ha,h,p=>by
  rw [List.pairwise_cons] at p;have hx:=h x (by simp);have:=Tz s (x+1) (by omega) (λy hy=>⟨by have:=p.1 y hy; omega,(h y (by simp [hy])).2⟩) p.2;simp only [zQG];omega
theorem Sc{l:List bS}(h:nF l):l.length<=7:=by
 have:=Tz (dT l) 0 (by omega) h.r h.p;simp only [dT,zXQ] at this;omega
theorem Nu{l:List bS}{j:Nat}{x y:bS}(h:l[j]?=some x)(hi:y.oK=x.oK):dT (l.set j y)=dT l:=by
 unfold dT
 apply List.ext_getElem?
 intro i;simp only [zQX,zYQ]
 by_cases e:j=i
 ·subst e;obtain ⟨hj,hx⟩:=List.getElem?_eq_some_iff.1 h;simp [hj,hx,hi]
 ·simp [e]
theorem E4(l:List bS)(id s:Int):dT (nE l id s)=dT l:=by
 unfold nE;rcases rN l id with ⟨h1,_⟩ | ⟨j,x,h1,h2,_⟩
 ·rw [h1]; rfl
 ·rw [h1];simp only [dc,h2,rg]
  split
  ·exact Nu h2 rfl
  ·rfl
theorem Nv{l:List bS}(h:nF l)(f:Int):nF (lv l f):=by
 have e:dT (lv l f)=dT (l.filter λx=>decide (x.wT < f)):=by
  unfold dT lv;rw [zZq]; rfl
 have sub:(dT (l.filter λx=>decide (x.wT < f))).Sublist (dT l):=List.Sublist.map _ List.filter_sublist;unfold nF;rw [e];exact ⟨λx hx=>h.r x (sub.subset hx),h.p.sublist sub⟩
theorem Hu{α:Type}(f:α->Bool):∀ (l:List α) (i j:Nat),er f l i=((i+j:Nat):Int)->∀ x∈l.take j,f x=false
 | [],i,j,_=>by simp
 | y :: l,i,0,_=>by simp
 | y :: l,i,j+1,h=>by
  unfold er at h
  split at h
  ·omega
  ·rename_i hy;intro x hx;simp only [List.take_succ_cons,zYY] at hx;rcases hx with rfl | hx
   ·simpa using hy
   ·exact Hu f l (i+1) j (by rw [h]; congr 1; omega) x hx
theorem KJ{l:List bS}(h:nF l){k:Nat}{y:bS}(hy:0<=y.oK/\y.oK<=6)(h1:∀ x∈l.take k,x.oK < y.oK)(h2:∀ x∈l.drop k,y.oK < x.oK):nF (l.take k++[y]++l.drop k):=by
 have e:dT l=dT (l.take k)++dT (l.drop k):=by unfold dT; rw [<- List.map_append,zXK]
 have hp:=h.p;rw [e,List.pairwise_append] at hp;have e2:dT (l.take k++[y]++l.drop k)=dT (l.take k)++([y.oK]++dT (l.drop k)):=by unfold dT; simp
 unfold nF;rw [e2];constructor
 ·intro z hz;simp only [zWw,zQH] at hz;rcases hz with hz | rfl | hz
  ·exact h.r z (by rw [e]; simp [hz])
  ·exact hy
  ·exact h.r z (by rw [e]; simp [hz])
 ·rw [List.pairwise_append];refine ⟨hp.1,?_,?_⟩
  ·rw [List.singleton_append,List.pairwise_cons];refine ⟨λz hz=>?_,hp.2.1⟩;unfold dT at hz;rw [zYZ] at hz;obtain ⟨x,hx,rfl⟩:=hz;exact h2 x hx
  ·intro a ha b hb;simp only [zWw,zQH] at hb;rcases hb with rfl | hb
   ·unfold dT at ha;rw [zYZ] at ha;obtain ⟨x,hx,rfl⟩:=ha;exact h1 x hx
   ·exact hp.2.2 a ha b hb
theorem Qt{l:List bS}(h:nF l)(id w d:Int):nF (qc l id w d):=by
 unfold qc
 split
 ·rename_i hc;simp only [sk] at hc;have hid:=cd hc.1.1;rcases rN l id with ⟨h1,hno⟩ | ⟨j,x,h1,h2,_⟩
  ·rw [h1];have e:dG l (-1)=none:=by unfold dG; simp
   rw [e];dsimp only;unfold uI;rcases uj (λ(x:bS)=>decide (x.oK > id)) l 0 with ⟨g1,g2⟩ | ⟨j,x,g1,g2,g3⟩
   ·rw [g1,if_pos (by omega)];refine KJ h hid (λx hx=>?_) (λx hx=>by simp at hx);have hx:=zWX hx;have a:=g2 x hx;have b:=hno x hx;simp only [decide_eq_false_iff_not] at a;show x.oK < id;omega
   ·rw [g1,if_neg (by omega)];have hj:=Hu (λ(x:bS)=>decide (x.oK > id)) l 0 j g1;rw [show (((0+j:Nat):Int)).toNat=j by omega];refine KJ h hid (λx hx=>?_) (λy hy=>?_)
    ·have a:=hj x hx;have b:=hno x (zWX hx);simp only [decide_eq_false_iff_not] at a;show x.oK < id;omega
    ·have lt:=(List.getElem?_eq_some_iff.1 g2).1;have e:l.drop j=x :: l.drop (j+1):=by
      rw [zXy lt,(List.getElem?_eq_some_iff.1 g2).2]
     have gx:id < x.oK:=by simpa using g3
     have hs:(dT (l.drop j)).Pairwise (· < ·):=h.p.sublist (List.Sublist.map _ (List.drop_sublist j l));rw [e] at hs hy;unfold dT at hs;rw [zWh,List.pairwise_cons] at hs;simp only [zYY] at hy;show id < y.oK;rcases hy with rfl | hy
     ·exact gx
     ·have:=hs.1 y.oK (List.mem_map.2 ⟨y,hy,rfl⟩);omega
  ·rw [h1];simp only [dc,h2,rg];unfold nF;rw [Nu (y:=⟨x.oK,w,xO .i64 x.ci d,0,x.oI⟩) h2 rfl];exact h
 ·exact h
theorem KK{α:Type}{f:α->Nat->Bool}:∀ {l:List α} {i:Nat},lD f l i=true->∀ (j:Nat) (x:α),l[j]?=some x->f x (i+j)=true
 | [],i,_,j,x,h=>by simp at h
 | y :: l,i,h,j,x,hx=>by
  unfold lD at h;simp only [sk] at h
  cases j with
  | zero =>
   simp only [zWJ,Option.some.injEq] at hx;subst hx; exact h.1
  | succ j =>
   have:=KK h.2 j x (by simpa using hx);rw [show i+(j+1)=i+1+j by omega]; exact this
theorem TA{l:List bS}(id w d:Int):∀ z∈dT (qc l id w d),z∈dT l\/z=id:=by
 unfold qc
 split
 ·rcases rN l id with ⟨h1,hno⟩ | ⟨j,x,h1,h2,_⟩
  ·rw [h1];have e:dG l (-1)=none:=by unfold dG; simp
   rw [e];dsimp only;intro z hz;unfold dT at hz ⊢;simp only [List.map_append,zWw,zWh,List.map_nil,zQH,zYZ] at hz ⊢;rcases hz with (⟨x,hx,rfl⟩ | rfl) | ⟨x,hx,rfl⟩
   ·exact .inl ⟨x,zWX hx,rfl⟩
   ·exact .inr rfl
   ·exact .inl ⟨x,zWg hx,rfl⟩
  ·rw [h1];simp only [dc,h2,rg];rw [Nu (y:=⟨x.oK,w,xO .i64 x.ci d,0,x.oI⟩) h2 rfl];exact λz hz=>.inl hz
 ·exact λz hz=>.inl hz
structure M.KidsTo (S:Int->Prop) (l m:List bS):Prop where
 s:nF l->nF m
 i:∀ z∈dT m,z∈dT l\/S z
theorem KL{S:Int->Prop}{l m:List bS}(h:dT m=dT l):M.KidsTo S l m:=⟨λhl=>by unfold nF at hl ⊢; rw [h]; exact hl,λz hz=>.inl (h ▸ hz)⟩
theorem wR{S:Int->Prop}(l:List bS):M.KidsTo S l l:=KL rfl
theorem Se{S:Int->Prop}{l m k:List bS}(a:M.KidsTo S l m)(h:dT k=dT m):M.KidsTo S l k:=⟨λhl=>by have:=a.s hl; unfold nF at this ⊢; rw [h]; exact this,λz hz=>a.i z (h ▸ hz)⟩
theorem UD{S:Int->Prop}{l:List bS}{id:Int}(hs:S id)(w d:Int):M.KidsTo S l (qc l id w d):=⟨λh=>Qt h id w d,λz hz=>by
 rcases TA id w d z hz with h | h
 ·exact .inl h
 ·rw [h]; exact .inr hs⟩
theorem LL(n:aC)(f t:Int):dT (fq n f t).fN.bi=dT n.bi:=E4 _ _ _
theorem Ix{S:Int->Prop}{n:aC}{me f:Int}(hs:S f)(m:fc):M.KidsTo S n.bi (df n me f m).fN.bi:=by
 have h:M.KidsTo S n.bi (qc n.bi f m.cn m.ci):=UD hs _ _;have g:M.KidsTo S n.bi (fq (jU n (qc n.bi f m.cn m.ci)) me f).fN.bi:=Se h (LL _ me f);unfold df
 split
 ·exact wR _
 ·split
  ·exact h
  ·split
   ·dsimp only
    split
    ·exact g
    ·exact g
   ·exact h
theorem UE(n:aC)(me i:Int):∀ (l:List bS) (s:List bS×List ai),dT (l.foldl (eC n me i) s).1=dT s.1:=by
 intro l
 induction l with
 | nil=>intro s; rfl
 | cons x l ih =>
  intro s;rw [zYK,ih];unfold eC
  split
  ·exact E4 _ _ _
  ·rfl
theorem Pc(n:aC)(me i:Int):dT (ff n me i).fN.bi=dT n.bi:=by
 unfold ff
 split
 ·exact UE n me i _ _
 ·rfl
theorem Nw(n:aC)(d:am)(m:al):(m7 n d m).bi=n.bi:=by
 unfold m7
 split
 ·split <;> rfl
 ·split <;> rfl
theorem Nx(n:aC)(me:Int)(m:fc):dT (ft n me m).fN.bi=dT n.bi:=by
 unfold ft
 split
 ·rfl
 ·split
  ·rfl
  ·split
   ·exact Pc _ _ _
   ·rfl
theorem Ny(n:aC)(me:Int)(d:am)(m:fc):dT (iw n me d m).fN.bi=dT n.bi:=by
 unfold iw
 split
 ·show dT (m7 _ _ _).bi=_;rw [Nw]; rfl
 ·split
  ·exact Nx _ _ _
  ·split <;> rfl
def gH(t:cX)(z:Int):Prop:=au z 0 ((t.ca.length:Int) - 1)=true
theorem Sf(t:cX)(me:Int)(n:aC)(d:am)(p:ai):M.KidsTo (gH t) n.bi (M.take t me n d p).fN.bi:=by
 unfold M.take
 split
 ·exact wR _
 ·split
  ·rename_i h;simp only [sk] at h
   split
   ·exact Ix h.1.2 _
   ·split
    ·exact KL (Ny _ _ _ _)
    ·exact wR _
  ·exact wR _
def p5(me:Int)(S:Int->Prop)(out:List ai):Prop:=∀ q∈out,q.dt=me/\S q.tl
theorem ti(me:Int)(S:Int->Prop):p5 me S []:=λq hq=>by simp at hq
theorem KM{me t:Int}{S:Int->Prop}(h:S t)(m:fc):p5 me S [iZ me t m]:=λq hq=>by
 simp only [zQH] at hq;subst hq; exact ⟨rfl,h⟩
theorem Nz{S:Int->Prop}{n:aC}{me f:Int}(h:S f):p5 me S (fq n me f).kj:=λq hq=>by
 unfold fq at hq;simp only [zYZ] at hq;obtain ⟨i,_,rfl⟩:=hq;exact ⟨rfl,h⟩
theorem LM{S:Int->Prop}{n:aC}{me f:Int}(h:S f)(m:fc):p5 me S (df n me f m).kj:=by
 unfold df
 split
 ·exact ti _ _
 ·split
  ·exact KM h _
  ·split
   ·dsimp only
    split
    ·exact KM h _
    ·exact Nz h
   ·exact KM h _
theorem Vz{S:Int->Prop}{n:aC}{me i:Int}:∀ (l:List bS) (s:List bS×List ai),(∀ x∈l,S x.oK)->p5 me S s.2->p5 me S (l.foldl (eC n me i) s).2:=by
 intro l
 induction l with
 | nil=>intro s _ h; exact h
 | cons x l ih =>
  intro s hl h;refine ih _ (λy hy=>hl y (by simp [hy])) λq hq=>?_;unfold eC at hq
  split at hq
  ·simp only [zWw,zQH] at hq;rcases hq with hq | rfl
   ·exact h q hq
   ·exact ⟨rfl,hl x (by simp)⟩
  ·exact h q hq
theorem Qu{S:Int->Prop}{n:aC}{me i:Int}(h:∀ x∈n.bi,S x.oK):p5 me S (ff n me i).kj:=by
 unfold ff
 split
 ·exact Vz _ _ h (ti _ _)
 ·exact ti _ _
theorem UF{t:cX}{me:Int}{n:aC}(h:∀ x∈n.bi,gH t x.oK)(d:am)(p:ai):p5 me (gH t) (M.take t me n d p).kj:=by
 unfold M.take
 split
 ·exact ti _ _
 ·split
  ·rename_i hc;simp only [sk] at hc
   split
   ·exact LM hc.1.2 _
   ·split
    ·unfold iw
     split
     ·exact ti _ _
     ·split
      ·unfold ft
       split
       ·exact ti _ _
       ·split
        ·exact ti _ _
        ·split
         ·exact Qu (n:=zh (BA n) _) h
         ·exact ti _ _
      ·first | exact ti _ _ | (split <;> exact ti _ _)
    ·exact ti _ _
  ·exact ti _ _
theorem MF{t:cX}(h:jB t=true){j:Nat}(h0:0 < j){x:Int}(hx:t.ca[j]?=some x):0<=x/\x < j:=by
 unfold jB at h;simp only [sk] at h;have:=KK h.1 j x hx;rw [zWZ] at this;unfold Br at this;rw [if_neg (by omega)] at this;have:=cd this;omega
theorem Hv{t:cX}(h:jB t=true){k:Nat}(h0:0 < k)(hk:k < t.ca.length)(b:Int):gH t (wP t k b):=by
 have get:∀ j:Nat,0 < j->j < t.ca.length->gH t ((t.ca[j]?).getD 0):=λj h0 hj=>by
  have e:=sX hj;have:=MF h h0 e;rw [e];unfold gH;simp only [zYy,au,sk,decide_eq_true_eq];omega
 have hw:au (k:Int) 1 ((t.ca.length:Int) - 1)=true:=by simp [au]; omega
 unfold wP;rw [h,hw];simp only [zXV,if_true]
 split
 ·rename_i hc;simp only [sk,decide_eq_true_eq] at hc;have:=cd (Tv hc.1);exact get b.toNat (by omega) (by omega)
 ·exact get _ (by simp; omega) (by simp; omega)
theorem UG{t:cX}(h:jB t=true)(c:ig){k:Nat}(hk:k < t.ca.length){n:aC}(hb:k≠0->gH t n.bR)(d:am):p5 k (gH t) (M.tick t c k n d).kj/\(k≠0->gH t (M.tick t c k n d).fN.bR):=by
 unfold M.tick
 split
 ·exact ⟨ti _ _,hb⟩
 ·split
  ·exact ⟨ti _ _,hb⟩
  ·rename_i h1;have h0:0 < k:=by omega
   split
   ·exact ⟨KM (Hv h h0 hk _) _,λ_=>Hv h h0 hk _⟩
   ·exact ⟨KM (hb (by omega)) _,λg=>hb g⟩
theorem Qv(l:List bS)(f:Int):∀ z∈dT (lv l f),z∈dT l:=λz hz=>by
 unfold dT lv at *;simp only [zZq,zYZ,List.mem_filter] at hz ⊢;obtain ⟨x,hx,rfl⟩:=hz;exact ⟨x,hx.1,rfl⟩
theorem Sg(S:Int->Prop)(t:cX)(c:ig)(k:Int)(n:aC)(d:am):M.KidsTo S n.bi (M.tick t c k n d).fN.bi:=by
 have h:M.KidsTo S n.bi (lv n.bi c.aP):=⟨λhl=>Nv hl _,λz hz=>.inl (Qv _ _ z hz)⟩;unfold M.tick
 split
 ·exact wR _
 ·split
  ·exact h
  ·split <;> exact h
theorem NA(n:aC)(d:am)(m:al):(m7 n d m).bR=n.bR:=by
 unfold m7
 split
 ·split <;> rfl
 ·split <;> rfl
theorem Iy(n:aC)(me f:Int)(m:fc):(df n me f m).fN.bR=n.bR:=by
 unfold df
 split
 ·rfl
 ·split
  ·rfl
  ·split
   ·dsimp only
    split <;> rfl
   ·rfl
theorem NB(n:aC)(me i:Int):(ff n me i).fN.bR=n.bR:=by
 unfold ff
 split <;> rfl
theorem LN(n:aC)(me:Int)(d:am)(m:fc):(iw n me d m).fN.bR=n.bR:=by
 unfold iw
 split
 ·exact NA _ _ _
 ·split
  ·unfold ft
   split
   ·rfl
   ·split
    ·rfl
    ·split
     ·exact NB _ _ _
     ·rfl
  ·split <;> rfl
theorem Si(t:cX)(me:Int)(n:aC)(d:am)(p:ai):(M.take t me n d p).fN.bR=n.bR:=by
 unfold M.take
 split
 ·rfl
 ·split
  ·split
   ·exact Iy _ _ _ _
   ·split
    ·exact LN _ _ _ _
    ·rfl
  ·rfl
structure M.NodeIn (t:cX) (j:Nat) (n:aC):Prop where
 w:M.NodWf n
 s:nF n.bi
 k:∀ z∈dT n.bi,gH t z
 b:j≠0->gH t n.bR
structure M.DiskIn (d:am):Prop where
 o:M.DOk d
 b:M.DB d
 l:d.fP.length<=200
structure M.PkIn (t:cX) (p:ai):Prop where
 w:ye p
 f:gH t p.dt
 t:gH t p.tl
structure M.WWf (w:World):Prop where
 t:jB w.fT=true
 nl:w.fN.length=w.fT.ca.length
 dl:w.fD.length=w.fT.ca.length
 nodes:∀ (j:Nat) (n:aC),w.fN[j]?=some n->M.NodeIn w.fT j n
 disks:∀ (j:Nat) (d:am),w.fD[j]?=some d->M.DiskIn d
 net:∀ p∈w.bn,M.PkIn w.fT p
 len:w.bn.length<=400
theorem xF{t:cX}{j:Nat}{n:aC}(h:M.NodeIn t j n):n.bi.length<=1048576:=by
 have:=Sc h.s; omega
theorem BB{w:World}(h:M.WWf w):1<=w.fT.ca.length/\w.fT.ca.length<=7:=by
 have:=h.t;unfold jB at this;simp only [sk] at this;have:=cd this.2;omega
theorem KN{t:cX}{z:Int}(h:gH t z):∃ j:Nat,z=j/\j < t.ca.length:=by
 have:=cd h;exact ⟨z.toNat,by omega,by omega⟩
theorem TB{t:cX}:∀ (out:List ai) (s:List ai×List cH×Int),(∀ p∈s.1,M.PkIn t p)->s.1.length<=400->(∀ p∈out,M.PkIn t p) ->
  (∀ p∈(out.foldl cW s).1,M.PkIn t p)/\(out.foldl cW s).1.length<=400:=by
 intro out
 induction out with
 | nil=>intro s h l _; exact ⟨h,l⟩
 | cons x out ih =>
  intro s h l ho;rw [zYK];refine ih _ ?_ ?_ (λp hp=>ho p (by simp [hp]))
  ·unfold cW
   split
   ·exact h
   ·intro p hp;simp only [zWw,zQH] at hp;rcases hp with hp | rfl
    ·exact h p hp
    ·exact ho p (by simp)
  ·unfold cW
   split
   ·exact l
   ·simp only [zQV,zYw]; omega
theorem TC{w:World}(h:M.WWf w){out:List ai}(ho:∀ p∈out,M.PkIn w.fT p):M.WWf (GR w out):=by
 have:=TB out (w.bn,w.cN,w.bl) h.net h.len ho;exact ⟨h.t,h.nl,h.dl,h.nodes,h.disks,this.1,this.2⟩
theorem E5{α:Type}{P:Nat->α->Prop}{l:List α}(h:∀ (j:Nat) (x:α),l[j]?=some x->P j x){k:Nat}{y:α}(hy:P k y):∀ (j:Nat) (x:α),(l.set k y)[j]?=some x->P j x:=by
 intro j x hx;rw [zYQ] at hx
 split at hx
 ·rename_i e
  split at hx
  ·simp only [Option.some.injEq] at hx;rw [<- hx,<- e]; exact hy
  ·cases hx
 ·exact h j x hx
def rP(w:World)(k:Nat)(n:aC)(d:am):World:=⟨w.fC,w.fT,w.bK,w.bA,w.fN.set k n,w.fD.set k d,w.bn,w.cN,w.bl⟩
theorem Pd{w:World}(h:M.WWf w){k:Nat}{n:aC}{d:am}(hn:M.NodeIn w.fT k n)(hd:M.DiskIn d):M.WWf (rP w k n d) :=
 ⟨h.t,by simp [rP,h.nl],by simp [rP,h.dl],E5 h.nodes hn,E5 (P:=λ_ d=>M.DiskIn d) h.disks hd,h.net,h.len⟩
def rQ(w:World)(k:Nat):World:=match w.fN[k]?,w.fD[k]? with
 | some n,some d=>GR (rP w k (M.tick w.fT w.fC k n d).fN (M.tick w.fT w.fC k n d).fD) (M.tick w.fT w.fC k n d).kj
 | _,_=>w
theorem Re{t:cX}(ht:jB t=true)(c:ig){k:Nat}(hk:k < t.ca.length){n:aC}(hn:M.NodeIn t k n){d:am}(hd:M.DiskIn d) :
  M.NodeIn t k (M.tick t c k n d).fN/\M.DiskIn (M.tick t c k n d).fD/\(∀ p∈(M.tick t c k n d).kj,M.PkIn t p)/\(M.tick t c k n d).kj.length<=1048576:=by
 have w:=UC t c k hn.w hd.o hd.l hd.b;have kk:=Sg (gH t) t c k n d;have to:=UG ht c hk hn.b d;have hkk:gH t (k:Int):=by unfold gH; simp [au]; omega
 refine ⟨⟨w.a.n,kk.s hn.s,λz hz=>?_,to.2⟩,⟨w.d,w.b,w.l⟩,λp hp=>⟨w.a.o p hp,?_,(to.1 p hp).2⟩,w.a.l⟩
 ·rcases kk.i z hz with h | h
  ·exact hn.k z h
  ·exact h
 ·rw [(to.1 p hp).1]; exact hkk
theorem Iz{u:Nat}(hu:1099511627776<=u){w:World}(h:M.WWf w){k:Nat}(hk:k < w.fT.ca.length):kc u w k=some (rQ w k):=by
 have up:=BB h;have hn:w.fN[k]?=some (w.fN[k]'(by rw [h.nl]; exact hk)):=sX _;have hd:w.fD[k]?=some (w.fD[k]'(by rw [h.dl]; exact hk)):=sX _;generalize w.fN[k]'(by rw [h.nl]; exact hk)=n at hn;generalize w.fD[k]'(by rw [h.dl]; exact hk)=d at hd;have a:=h.nodes k n hn;have b:=h.disks k d hd;have g:=Re h.t w.fC hk a b;unfold kc rQ;simp only [dc,hn,hd,wk,Ns hu (show w.fT.ca.length<=1048576 by omega) w.fC k a.w (xF a) b.o (show d.fP.length<=1048575 by have:=b.l; omega),rg];rw [show (World.mk w.fC w.fT w.bK w.bA (w.fN.set k (M.tick w.fT w.fC k n d).fN) (w.fD.set k (M.tick w.fT w.fC k n d).fD) w.bn w.cN w.bl)=rP w k (M.tick w.fT w.fC k n d).fN (M.tick w.fT w.fC k n d).fD from rfl,AC hu _ (λp hp=>(g.2.2.1 p hp).w) g.2.2.2];rfl
def zT(w:World)(k:Nat):World:=⟨w.fC,w.fT,w.bK,w.bA,w.fN,w.fD,w.bn.take k++w.bn.drop (k+1),w.cN,w.bl⟩
theorem TD{w:World}(h:M.WWf w)(k:Nat):M.WWf (zT w k) :=
 ⟨h.t,h.nl,h.dl,h.nodes,h.disks,λp hp=>by
  simp only [zT,zWw] at hp;rcases hp with hp | hp
  ·exact h.net p (zWX hp)
  ·exact h.net p (zWg hp),by
  have:=h.len;simp only [zT,zQV,zQz,zYV]; omega⟩
def GT(w:World)(k:Nat)(n:aC):World:=⟨w.fC,w.fT,w.bK,w.bA,w.fN.set k n,w.fD,w.bn,w.cN,w.bl⟩
theorem TE{w:World}(h:M.WWf w){k:Nat}{n:aC}(hn:M.NodeIn w.fT k n):M.WWf (GT w k n) :=
 ⟨h.t,by simp [GT,h.nl],h.dl,E5 h.nodes hn,h.disks,h.net,h.len⟩
def E6(w:World)(p:ai):World:=match w.fN[p.tl.toNat]?,w.fD[p.tl.toNat]? with
 | some n,some d=>GR (GT w p.tl.toNat (M.take w.fT p.tl n d p).fN) (M.take w.fT p.tl n d p).kj
 | _,_=>w
def rS(w:World)(k:Nat):World:=match w.bn[k]? with
 | some p=>E6 (zT w k) p
 | none=>w
theorem Rf{t:cX}{n:aC}{k:Nat}(hk:k < t.ca.length)(hn:M.NodeIn t k n){d:am}(hd:M.DiskIn d){p:ai}(hp:M.PkIn t p) :
  M.NodeIn t k (M.take t k n d p).fN/\(∀ q∈(M.take t k n d p).kj,M.PkIn t q)/\(M.take t k n d p).kj.length<=1048576:=by
 have w:=UB t k hn.w (xF hn) hd.b hp.w.1;have kk:=Sf t k n d p;have to:=UF (me:=(k:Int)) (λx hx=>hn.k x.oK (List.mem_map.2 ⟨x,hx,rfl⟩)) d p;have hkk:gH t (k:Int):=by unfold gH; simp [au]; omega
 refine ⟨⟨w.n,kk.s hn.s,λz hz=>?_,λh0=>by rw [Si]; exact hn.b h0⟩,λq hq=>⟨w.o q hq,?_,(to q hq).2⟩,w.l⟩
 ·rcases kk.i z hz with h | h
  ·exact hn.k z h
  ·exact h
 ·rw [(to q hq).1]; exact hkk
theorem IA{u:Nat}(hu:1099511627776<=u){w:World}(h:M.WWf w){k:Nat}(hk:k < w.bn.length):kh u w k=some (rS w k):=by
 have up:=BB h;have hl:=h.len;have hp:w.bn[k]?=some w.bn[k]:=sX hk;generalize w.bn[k]=p at hp;have pin:=h.net p (zQY hp);obtain ⟨j,e,hj⟩:=KN pin.t;have hn:w.fN[j]?=some (w.fN[j]'(by rw [h.nl]; exact hj)):=sX _;have hd:w.fD[j]?=some (w.fD[j]'(by rw [h.dl]; exact hj)):=sX _;generalize w.fN[j]'(by rw [h.nl]; exact hj)=n at hn;generalize w.fD[j]'(by rw [h.dl]; exact hj)=d at hd;have a:=h.nodes j n hn;have b:=h.disks j d hd;have g:=Rf hj a b pin;have hb:bd .i64 (k:Int) 1=((k+1:Nat):Int):=td (a:=k) (b:=1) (by omega);have c1:dC (cO 0 (k:Int) w.bn.length)=some ():=by
  rw [show (0:Int)=((0:Nat):Int) from rfl,gY (by omega) (by omega)]
 have c2:dC (cO ((k+1:Nat):Int) ((w.bn.length:Nat):Int) w.bn.length)=some ():=by
  rw [gY (by omega) (by omega)]
 unfold kh rS;rw [hp];unfold E6;simp only [dc,hp,wk,hb,c1,c2,rg,show sY 0=0 from rfl,List.drop_zero,zQy,List.take_length];rw [bD (by simp; omega),wk,bD (by simp; omega),wk];simp only [e,rg,dc];simp only [zT,hn,hd,wk,Nq hu (show w.fT.ca.length<=1048576 by omega) (j:Int) a.w (xF a) b.o b.b pin.w.1 pin.w.2];rw [AC hu _ (λp hp=>(g.2.1 p hp).w) g.2.2];rfl
theorem Pe{α:Type}(g:α->Bool):∀ (l:List α) (i:Nat),lD (λx _=>g x) l i=l.all g
 | [],_=>rfl
 | x :: l,i=>by simp only [lD,zYh,Pe g l]
def wS(c:ig):Bool:=au c.aw 2 6 && au c.aT 1 40 && au c.aF 1 5 && au c.aP 2 8
theorem KO(u:Nat)(c:ig):ul u c=some (wS c):=by
 unfold ul wS;simp only [bL,wk]
 cases au c.aw 2 6 <;> cases au c.aT 1 40 <;> cases au c.aF 1 5 <;> rfl
def E7(l:List aY)(n:Int):Bool:=(l.all λx=>!decide ((x.fB.length:Int) > 240)) && ((l.length:Int) == n)
theorem IB{u:Nat}(hu:1099511627776<=u){l:List aY}(hl:l.length<=1048576)(n:Int):rX u l n=some (E7 l n):=by
 unfold rX E7;rw [Du u l n () u (by omega) (by omega),Dd (λ(x:aY) _=>!decide ((x.fB.length:Int) > 240)) (xs:=l) (b:=(l.length:Int) == n) rfl 0 (λx i f _ hx=>?_) l 0 (zWy _) rfl,Pe];unfold wW
 cases decide ((x.fB.length:Int) > 240) <;> rfl
theorem Pf:∀ (n:Nat) (b:List Int),aB b->b.length<=n->nX n (iJ b 1)=some b:=by
 intro n
 induction n with
 | zero =>
  intro b _ hl;have:b=[]:=r0 (by omega);subst this;rfl
 | succ n ih =>
  intro b hb hl;rcases List.eq_nil_or_concat b with rfl | ⟨c,x,hbx⟩
  ·rfl
  ·rw [List.concat_eq_append] at hbx;subst hbx;have hx:=hb x (by simp);have hc:aB c:=λz hz=>hb z (by simp [hz]);have h1:=KC c 1 0 hc (by simp);have hp:(0:Int) < 256 ^ (0+c.length):=Int.pow_pos (by omega);have e:iJ (c++[x]) 1=256*iJ c 1+x:=by rw [OI]; rfl
   unfold nX;rw [e,if_neg (by omega),if_neg (by omega),show (256*iJ c 1+x) / 256=iJ c 1 by omega,show (256*iJ c 1+x) % 256=x by omega,ih c hc (by simp at hl; omega)];rfl
theorem zU{b:List Int}(hb:aB b)(hl:b.length<=6):ce (iJ b 1)=(b,true):=by
 have h1:=KC b 1 0 hb (by simp);have hp:(0:Int) < 256 ^ (0+b.length):=Int.pow_pos (by omega);unfold ce;rw [if_neg (by omega),Pf 6 b hb hl]
theorem Sj{a b:List Int}(ha:aB a)(hb:aB b)(la:a.length<=6)(lb:b.length<=6)(h:dX a=dX b):a=b:=by
 unfold dX at h;rw [if_neg (by omega),if_neg (by omega)] at h;have h2:iJ a 1=iJ b 1:=congrArg cS.fS h;have h3:=zU ha la;rw [h2,zU hb lb] at h3;exact (congrArg Prod.fst h3).symm
theorem MG{size n i:Int}(h:au i 0 (bJ size n - 1)=true):(ch size n i).1=i*size/\1<=(ch size n i).2:=by
 have ⟨h1,h2,h3⟩:=BP h;have h4:=qI h1;have h5:=(cd h).2;unfold ch;rw [if_pos h];unfold bJ at h5;rw [if_pos h1] at h5;have h8:i+1<=(n+size - 1) / size:=by omega
 have h9:(i+1)*size<=n+size - 1:=(Int.le_ediv_iff_mul_le (by omega)).1 h8;rw [zZx] at h9;refine ⟨rfl,?_⟩;dsimp only;omega
theorem KP{b:List Int}{size i:Int}(h:au i 0 (bJ size b.length - 1)=true):((dK b size i).1.length:Int)=(ch size b.length i).2/\(dK b size i).1=M.win b (ch size b.length i).1.toNat (ch size b.length i).2.toNat:=by
 have h1:=MG h;have h2:=pX (size:=size) (n:=b.length) (i:=i) (by omega);unfold dK;dsimp only;rw [if_neg (by omega)];refine ⟨?_,rfl⟩;unfold M.win;simp;omega
theorem NC{b:List Int}(hb:aB b){size:Int}{i:Nat}(h:au (i:Int) 0 (bJ size b.length - 1)=true):po size b.length i (dX (dK b size i).1)=true:=by
 have h1:=KP h;have h2:=ug hb size i;unfold po dX;rw [if_neg (by omega)];simp only [zU h2.1 h2.2,h1.1];simp
theorem Cv{b:List Int}(hb:aB b){size:Int}:∀ (n i:Nat),((i+n:Nat):Int)<=bJ size b.length->iW size b.length ((zWY i n).map λ(i:Nat)=>dX (dK b size i).1) i=true
 | 0,i,_=>rfl
 | n+1,i,h=>by
  have hw:au (i:Int) 0 (bJ size b.length - 1)=true:=by unfold au; simp; omega
  simp only [zXh,zWh,iW];rw [NC hb hw,zWk];exact Cv hb n (i+1) (by omega)
theorem Hw(g:Int){b:List Int}(hb:aB b)(size:Int):dd (gj g b size)=true:=by
 unfold gj
 cases h1:au g 1 1000000 with
 | false=>rfl
 | true =>
  cases h2:dn size b.length with
  | false=>rfl
  | true =>
   have hg:=cd h1;have hr:=dA size b.length;simp only [zXV,if_true];unfold dd;simp only;rw [if_neg (by omega),h1,h2];simp only [zWk,sk,beq_iff_eq];unfold nY;refine ⟨by simp; omega,?_⟩;rw [zXx];exact Cv hb _ 0 (by omega)
theorem Sk{α:Type}{f:α->α->Bool}(hf:∀ x,f x x=true)(l:List α):M.same f l l=true:=by
 unfold M.same;have:zK f l l=true:=by
  induction l with
  | nil=>rfl
  | cons x l ih=>simp [zK,hf,ih]
 simp [this]
theorem Hx{g size:Int}{b:List Int}(h:dn size b.length=true)(hg:au g 1 1000000=true):M.tells (gj g b size) b=true:=by
 unfold M.tells gj;rw [hg,h];simp [Sk]
def Ev{β:Type}(r:Option β)(p:β->Prop):Prop:=∃ v,r=some v/\p v
theorem bF{β γ:Type}{r:Option β}{p:β->Prop}{f:β->Option γ}{q:γ->Prop}(h:Ev r p)(hf:∀ v,p v->Ev (f v) q):Ev (r.bind f) q:=by
 obtain ⟨v,e,h1⟩:=h;rw [e];exact hf v h1
theorem cD{β:Type}{v:β}{p:β->Prop}(h:p v):Ev (some v) p:=⟨v,rfl,h⟩
theorem TF{β:Type}{r:Option β}{v:β}{p:β->Prop}(e:r=some v)(h:p v):Ev r p:=⟨v,e,h⟩
theorem Rg{β:Type}{r:Option β}{p q:β->Prop}(h:Ev r p)(hpq:∀ v,p v->q v):Ev r q:=by
 obtain ⟨v,e,h1⟩:=h;exact ⟨v,e,hpq v h1⟩
theorem g9{β γ:Type}{r:Option β}{v:β}{f:β->Option γ}{q:γ->Prop}(e:r=some v)(hf:Ev (f v) q):Ev (r.bind f) q:=by
 rw [e];exact hf
theorem my{γ:Type}{b:Bool}{f:Unit->Option γ}{q:γ->Prop}(hb:b=true)(hf:Ev (f ()) q):Ev ((dC b).bind f) q:=by
 subst hb;exact hf
theorem E8{α:Type}{r:Option (α×aH)}{p:α->Prop}(h:Dr r p):Ev r λv=>p v.1/\Cu v.2:=by
 obtain ⟨v,c,e,h1,h2⟩:=h;exact ⟨_,e,h1,h2⟩
theorem dg(u:Nat){c:aH}(hc:Cu c)(n:Int):Ev (be u c n) λv=>(0<=v.1/\(0 < n->v.1 < n))/\Cu v.2:=E8 (cG u hc n)
theorem I1(u:Nat){c:aH}(hc:Cu c)(n:Int):Ev (jk u c n) λv=>Cu v.2:=Rg (E8 (GB u hc n)) λ_ h=>h.2
theorem BC(u:Nat){c:aH}(hc:Cu c){xs:List Int}(hx:0 < xs.length):Ev (dE u c xs) λv=>v.1∈xs/\Cu v.2:=E8 (n4 u hc hx)
theorem cm{γ:Type}{b:Bool}{x y:Option γ}{q:γ->Prop}(h1:b=true->Ev x q)(h2:b=false->Ev y q):Ev (bif b then x else y) q:=by
 cases b with
 | true=>exact h1 rfl
 | false=>exact h2 rfl
theorem zV{c:aH}(h:Cu c):Cu (aH.mk c.fB c.fI c.fH):=h
theorem MH{α:Type}{f:α->Nat->Bool}:∀ (l:List α) (i:Nat) (x:α),lD f (l++[x]) i=(lD f l i && f x (i+l.length))
 | [],i,x=>by simp [lD]
 | y :: l,i,x=>by
  simp only [List.cons_append,lD,MH l (i+1) x,zQG,Bool.and_assoc];rw [show i+1+l.length=i+(l.length+1) by omega]
def E9(t:cX):Prop:=jB t=true/\1<=t.ca.length/\t.ca.length<=7
theorem KQ(u:Nat)(hu:1099511627776<=u){c:aH}(hc:Cu c):Ev (pt u c) λv=>E9 v.1/\Cu v.2:=by
 have key:∀ (m k n:Nat) (up:List Int) (c:aH),n+m=7->m < k->1<=n->up.length=n->lD Br up 0=true->Cu c ->
   Ev (fv u k (n:Int) up c.fB c.fI c.fH) λv=>E9 v.1/\Cu v.2:=by
  intro m
  induction m with
  | zero =>
   intro k n up c hn hk h1 hl ho hc;obtain ⟨k,rfl⟩:∃ j,k=j+1:=⟨k - 1,by omega⟩;unfold fv;refine bF (dg u (zV hc) 7) λr hr=>?_;have hr1:=hr.1.1;have hr2:=hr.1.2 (by omega);rw [dy (by omega) (by omega)];have:¬ (n:Int) < 1+r.1:=by omega
   simp only [this,decide_false,cond_false,qK];exact cD ⟨⟨by unfold jB; rw [ho]; simp [au]; omega,by show 1<=up.length; omega,by show up.length<=7; omega⟩,hr.2⟩
  | succ m ih =>
   intro k n up c hn hk h1 hl ho hc;obtain ⟨k,rfl⟩:∃ j,k=j+1:=⟨k - 1,by omega⟩;unfold fv;refine bF (dg u (zV hc) 7) λr hr=>?_;have hr1:=hr.1.1;have hr2:=hr.1.2 (by omega);rw [dy (by omega) (by omega)];have next:∀ (x:Int) (c:aH),0<=x->x < n->Cu c->Ev (nI u (λz0 z1 z2 z3 z4=>fv u k z0 z1 z2 z3 z4) (n:Int) x up c.fB c.fI c.fH) λv=>E9 v.1/\Cu v.2:=by
    intro x c h0 hx hc;unfold nI;refine my (by simp; omega) ?_;rw [dy (by omega) (by omega),show (n:Int)+1=((n+1:Nat):Int) by omega];refine ih k (n+1) _ c (by omega) (by omega) (by omega) (by simp; omega) ?_ hc;rw [MH,ho,zWk];unfold Br;rw [if_neg (by omega)];simp [au]; omega
   refine cm (λhlt=>?_) (λ_=>?_)
   ·refine bF (I1 u hr.2 2) λo ho2=>?_;refine cm (λ_=>?_) (λ_=>?_)
    ·refine bF (dg u ho2 _) λx hx=>?_;exact next _ _ hx.1.1 (hx.1.2 (by omega)) hx.2
    ·rw [dD (by omega) (by omega)];exact next _ _ (by omega) (by omega) ho2
   ·unfold qK;exact cD ⟨⟨by unfold jB; rw [ho]; simp [au]; omega,by show 1<=up.length; omega,by show up.length<=7; omega⟩,hr.2⟩
 unfold pt;exact key 6 u 1 _ c (by omega) (by omega) (by omega) rfl rfl hc
theorem Sl(u:Nat)(hu:1099511627776<=u){c:aH}(hc:Cu c):Ev (uA u c) λv=>v.1.ca.length<=7/\Cu v.2:=by
 unfold uA;refine bF (KQ u hu hc) λt ht=>?_;have hl:=ht.1.2;refine bF (dg u ht.2 8) λn hn=>?_;refine cm (λ_=>?_) (λ_=>cm (λ_=>?_) (λ_=>?_))
 ·refine bF (dg u hn.2 _) λi hi=>?_;refine bF (BC u hi.2 (by simp)) λx hx=>?_;have h0:=hi.1.1;have h1:=hi.1.2 (by omega);obtain ⟨j,hj⟩:∃ j:Nat,i.1=(j:Int):=⟨i.1.toNat,by omega⟩;rw [hj,dc,sX (by omega)];exact cD ⟨by show (t.1.ca.set _ _).length<=7; rw [zXJ]; omega,hx.2⟩
 ·exact cD ⟨by simp,hn.2⟩
 ·exact cD ⟨by show t.1.ca.length<=7; omega,hn.2⟩
theorem TG(u:Nat){c:aH}(hc:Cu c):Ev (vX u c) λv=>Cu v.2:=by
 unfold vX;refine bF (I1 u hc 3) λo ho=>cm (λ_=>?_) (λ_=>?_)
 ·exact bF (BC u ho (by simp)) λx hx=>cD hx.2
 ·refine bF (dg u ho _) λx hx=>bF (dg u hx.2 _) λy hy=>my ?_ (cD hy.2);have:=hy.1.1
  simpa using this
theorem Qw{u:Nat}(hu:1099511627776<=u){c:aH}(hc:Cu c):Ev (lT u c) λv=>m6 16 v.1/\Cu v.2:=E8 (Kp hu hc)
theorem VA{u:Nat}(hu:1099511627776<=u){c:aH}(hc:Cu c){b:List Int}(hb:m6 200 b):Ev (rj u c b) λv=>m6 240 v.1/\Cu v.2:=E8 (R5 hu hc hb.1 hb.2)
theorem VB{u:Nat}(hu:1099511627776<=u){c:aH}(hc:Cu c):Ev (tH u c) λv=>(v.1.aO.length<=41/\pW v.1)/\Cu v.2:=E8 (Tu hu hc)
theorem KR{n m:Nat}{b:List Int}(h:m6 n b)(hn:n<=m):m6 m b:=⟨zWx h.1 hn,h.2⟩
structure M.DrMan (m:al) (b:List Int):Prop where
 i:m6 16 b
 o:dd m=true
 n:m.aO.length<=40
 w:pW m
 l:0<=m.aW/\m.aW<=16
theorem Sm{u:Nat}(hu:1099511627776<=u){c:aH}(hc:Cu c):Ev (oO u c) λv=>M.DrMan v.1 v.2.1/\Cu v.2.2:=by
 unfold oO;refine bF (Qw hu hc) λb hb=>bF (dg u hb.2 _) λx hx=>bF (dg u hx.2 _) λy hy=>?_;have h1:=hb.1.1;refine g9 (xU hu hb.1.2 (by omega) _ _) (cD ⟨⟨hb.1,Hw _ hb.1.2 _,Gq _ _ _,Kh _ _ _ hb.1.2,?_⟩,hy.2⟩);unfold gj
 split
 ·exact ⟨by simp,by simp; omega⟩
 ·simp
structure M.DrNode (n:aC):Prop where
 w:M.NodWf n
 b:n.bB.b9.length<=16
 k:n.bi.length<=10
theorem Qx:pW ⟨0,0,0,[]⟩:=λx hx=>by simp at hx
theorem Sn{m:al}{b:List Int}(hm:M.DrMan m b){x:bI}(hp:M.Part m 40 x){l:List bS}(hl:l.length<=10)(o:Bool)(i q ph dr:Int):M.DrNode ⟨o,i,q,m,x,ph,l,dr⟩:=by
 have h1:=hm.n;have h2:=hm.l;have h3:=hp.l;exact ⟨⟨by show m.aO.length<=1048576; omega,hp.b,by show l.length<=1048577; omega,hm.w⟩,by show x.b9.length<=16; omega,hl⟩
theorem TH{u:Nat}(hu:1099511627776<=u){code:List Int}(h:code.length<=1048576):Ev (tp u code) Cu:=by
 obtain ⟨c,e,hc⟩:=To hu h;exact TF e hc
def jV(t:cX)(k:Int):aC:=if jB t && au k 1 ((t.ca.length:Int) - 1) then ⟨true,(t.ca[k.toNat]?).getD 0,0,⟨0,0,0,[]⟩,⟨0,[]⟩,0,[],0⟩ else ⟨false,0,0,⟨0,0,0,[]⟩,⟨0,[]⟩,0,[],0⟩
theorem UH{t:cX}{k:Int}(h:au k 1 ((t.ca.length:Int) - 1)=true):dG t.ca k=some ((t.ca[k.toNat]?).getD 0):=by
 have:=cd h;obtain ⟨j,rfl⟩:∃ j:Nat,k=j:=⟨k.toNat,by omega⟩;rw [dc,rg,sX (by omega)];rfl
theorem zk{u:Nat}(hu:1099511627776<=u){t:cX}(ht:t.ca.length<=1048576)(k:Int):mn u t k=some (jV t k):=by
 unfold mn jV;rw [wO hu (by omega),dD (by omega) (by omega),bL];simp only [wk];unfold pv
 cases jB t with
 | false=>rfl
 | true =>
  cases h:au k 1 ((t.ca.length:Int) - 1) with
  | false=>rfl
  | true=>simp only [zQK,cond_false,UH h,wk,rY]; rfl
theorem VC{g:Int}{b:List Int}(hb:m6 240 b):M.DiskIn ⟨b,[],⟨g,0,b.length⟩,[]⟩:=by
 have:=hb.1;exact ⟨⟨by show b.length<=1048576; omega,by simp,by simp,by simp⟩,⟨hb.2,by simp [aB],by simp⟩,by simp⟩
theorem KT(u:Nat){c:aH}(hc:Cu c):Ev (pu u c) λv=>wS v.1=true/\Cu v.2:=by
 unfold pu;refine bF (dg u hc _) λa ha=>bF (BC u ha.2 (by simp)) λw hw=>bF (dg u hw.2 _) λs hs=>bF (dg u hs.2 _) λf hf=>cD ⟨?_,hf.2⟩;have a1:=ha.1.1;have a2:=ha.1.2 (by omega);have s1:=hs.1.1;have s2:=hs.1.2 (by omega);have f1:=hf.1.1;have f2:=hf.1.2 (by omega);have w1:1<=w.1/\w.1<=40:=by
  have:=hw.1;simp only [zYY,zZv,or_false] at this;rcases this with h | h | h | h | h <;> omega
 unfold wS au;simp only [dy (show -9223372036854775808<=2+a.1 by omega) (show 2+a.1<=9223372036854775807 by omega),dy (show -9223372036854775808<=1+s.1 by omega) (show 1+s.1<=9223372036854775807 by omega),dy (show -9223372036854775808<=2+f.1 by omega) (show 2+f.1<=9223372036854775807 by omega),sk,decide_eq_true_eq];omega
theorem So(u:Nat){c:aH}(hc:Cu c):Ev (uy u c) λv=>Cu v.2:=by
 unfold uy;refine bF (KT u hc) λr hr=>bF (dg u hr.2 _) λk hk=>?_;refine cm (λ_=>bF (BC u hk.2 (by simp)) λx hx=>cD hx.2) (λ_=>?_);refine cm (λ_=>bF (BC u hk.2 (by simp)) λx hx=>cD hx.2) (λ_=>?_);refine cm (λ_=>bF (BC u hk.2 (by simp)) λx hx=>cD hx.2) (λ_=>?_);exact cm (λ_=>bF (BC u hk.2 (by simp)) λx hx=>cD hx.2) (λ_=>cD hk.2)
structure M.DrD (d:am):Prop where
 o:M.DOk d
 l:d.fP.length<=201
theorem TI{u:Nat}(hu:1099511627776<=u){c:aH}(hc:Cu c):Ev (tG u c) λv=>M.DrD v.1/\Cu v.2:=by
 obtain ⟨d,c',e,h,h2⟩:=Tp hu hc;exact TF e ⟨⟨h.1,h.2⟩,h2⟩
def M.man(g:Int)(b:List Int)(size:Int):al:=⟨g,size,b.length,nY b size⟩
theorem GU{g:Int}{b:List Int}{size:Int}(hs:dn size b.length=true)(hg:au g 1 1000000=true):gj g b size=M.man g b size:=by
 unfold gj M.man;rw [hs,hg]; rfl
structure M.Blk (b:List Int) (size:Int) (z i:Nat):Prop where
 z2:2<=z/\z<=6
 w:au (i:Int) 0 (bJ size b.length - 1)=true
 s:ch size b.length (i:Int)=(((i*z:Nat):Int),((min z (b.length - i*z):Nat):Int))
 p:i*z < b.length
theorem ND{b:List Int}{size:Int}(hs:dn size b.length=true){i:Nat}(hi:i < (bJ size b.length).toNat):M.Blk b size size.toNat i:=by
 have h1:=qI hs;have hw:au (i:Int) 0 (bJ size b.length - 1)=true:=by unfold au; simp; omega
 obtain ⟨z,rfl⟩:∃ z:Nat,size=z:=⟨size.toNat,by omega⟩;have h2:=MG hw;have h3:=pX (size:=(z:Int)) (n:=b.length) (i:=i) (by omega);have e:ch (z:Int) b.length i=((i:Int)*z,min (z:Int) (b.length - (i:Int)*z)):=by unfold ch; rw [if_pos hw]
 rw [rg];have hlt:i*z < b.length:=by
  have h5:=h2.1;have h6:=h3.2.2.2;have h7:=h2.2;rw [h5] at h6;have:((i*z:Nat):Int)=(i:Int)*z:=by simp
  omega
 refine ⟨by omega,hw,?_,hlt⟩;rw [e];have h8:(i:Int)*z=((i*z:Nat):Int):=by simp
 rw [h8]
 congr 1
 omega
theorem TJ{b:List Int}{size g:Int}{z i:Nat}(h:M.Blk b size z i):M.at_ (M.man g b size) i=i*z/\tg (M.man g b size) i=min z (b.length - i*z):=by
 unfold M.at_ tg;show (ch size b.length i).1.toNat=_/\(ch size b.length i).2.toNat=_;rw [h.s];exact ⟨rg _,rg _⟩
theorem Rh{b:List Int}{size:Int}{z i:Nat}(h:M.Blk b size z i):(dK b size i).1=M.win b (i*z) (min z (b.length - i*z)):=by
 have h1:=(KP h.w).2;rw [h.s] at h1;rw [h1];simp only [rg]
theorem TK{b:List Int}{size g:Int}{i:Nat}(hi:i < (bJ size b.length).toNat):(M.man g b size).aO[i]?=some (dX (dK b size i).1):=by
 show (nY b size)[i]?=_;unfold nY;rw [zQX,zYj hi]; rfl
theorem TL(g:Int)(b:List Int)(size:Int):(M.man g b size).aO.length=(bJ size b.length).toNat:=by
 show (nY b size).length=_;unfold nY;simp
theorem Pg{b:List Int}{z i:Nat}(hp:i*z < b.length):b.take (i*z)++M.win b (i*z) (min z (b.length - i*z))=b.take ((i+1)*z):=by
 have e:b.take (i*z)=(b.take (i*z+min z (b.length - i*z))).take (i*z):=by rw [List.take_take]; congr 1; omega
 unfold M.win;rw [e,zXK,zYz]
 by_cases h:z<=b.length - i*z
 ·rw [zXH h]
 ·rw [Nat.min_eq_right (by omega),zXk (by omega),zXk (by omega)]
theorem KU{b:List Int}{size:Int}(hs:dn size b.length=true):b.length<=(bJ size b.length).toNat*size.toNat:=by
 have h1:=qI hs;have h2:bJ size b.length=(b.length+size - 1) / size:=by unfold bJ; rw [if_pos hs]
 have h3:=dA size b.length;have h4:=Int.lt_ediv_add_one_mul_self ((b.length:Int)+size - 1) (show 0 < size by omega);rw [<- h2,zZx] at h4;have h5:(((bJ size b.length).toNat*size.toNat:Nat):Int)=bJ size b.length*size:=by
  rw [Int.natCast_mul,Int.toNat_of_nonneg h3.1,Int.toNat_of_nonneg (by omega)]
 omega
theorem dk{a b:List Int}{r:cT}{p:List ct}(ha:a.length<=240)(hb:b.length<=240)(hr:fp r=true)(hs:r.aW<=(iv ⟨a,b,r,p⟩ r.bQ).length)(hp:p.length<=200)(hq:∀ x∈p,eR x=true):b7 ⟨a,b,r,p⟩=true:=by
 unfold b7;simp only [sk,decide_eq_true_eq,zYx];exact ⟨⟨⟨⟨⟨ha,hb⟩,hr⟩,hs⟩,hp⟩,hq⟩
structure M.K0 (old:List Int) (d:am):Prop where
 a:d.fA=old
 r:d.fR=⟨0,0,old.length⟩
 b:d.fB.length<=240
theorem Wi{old:List Int}(h:old.length<=240):fp ⟨0,0,old.length⟩=true:=by
 unfold fp au;simp;omega
theorem KV{old:List Int}(h:old.length<=240){d:am}(hk:M.K0 old d)(hp:d.fP.length<=200)(hq:∀ x∈d.fP,eR x=true):b7 d=true/\c6 d=(0,old):=by
 obtain ⟨a,b,r,p⟩:=d;obtain ⟨h1,h2,h3⟩:=hk;have h1:a=old:=h1;have h2:r=⟨0,0,old.length⟩:=h2;subst h1 h2;have e:b7 ⟨a,b,⟨0,0,a.length⟩,p⟩=true:=dk h h3 (Wi h) (by simp [iv]) hp hq;refine ⟨e,?_⟩;unfold c6;rw [e,if_pos rfl];simp [iv]
theorem Fa{d:am}{g:Int}{b:List Int}(h:c6 d=(g,b)):M.holds d g b=true:=by
 unfold M.holds mj;rw [h];simp
theorem Qy{d:am}{a b:List Int}{g:Int}(h:c6 d=(0,a)):f6 d a g b=true:=by
 unfold f6;rw [Fa h]; rfl
theorem Qz{d:am}{a b:List Int}{g:Int}(h:c6 d=(g,b)):f6 d a g b=true:=by
 unfold f6;rw [Fa h,Bool.or_true]
theorem VD{old:List Int}{d:am}(hk:M.K0 old d){p:ct}(h1:p.gq=1)(hp:eR p=true):M.K0 old (ml d p):=by
 have hw:p.gq≠2:=by omega
 have hw0:p.gq≠0:=by omega
 unfold ml;rw [if_neg hw,if_neg hw0];refine ⟨hk.a,hk.r,?_⟩;have hb:=hk.b;rcases uH hp with h | ⟨_,h3,h4⟩
 ·omega
 ·rw [C9]; omega
theorem Ph{old:List Int}(s:Int):∀ (l:List ct) (i:Nat) (d:am),M.K0 old d->(∀ p∈l,p.gq=1/\eR p=true)->M.K0 old (ki s l i d)/\(ki s l i d).fP=[]
 | [],i,d,h,_=>⟨⟨h.a,h.r,h.b⟩,rfl⟩
 | p :: l,i,d,h,hp=>by
  unfold ki;refine Ph s l (i+1) _ ?_ λq hq=>hp q (by simp [hq])
  split
  ·exact VD h (hp p (by simp)).1 (hp p (by simp)).2
  ·exact h
def zW(b:List Int)(z i:Nat):ct:=⟨1,((i*z:Nat):Int),M.win b (i*z) (min z (b.length - i*z)),⟨0,0,0⟩⟩
def mm(b:List Int)(z i:Nat):List ct:=(zXW i).map (zW b z)
def uJ(old b:List Int)(p:List ct):am:=⟨old,b,⟨0,0,old.length⟩,p⟩
theorem UI{b:List Int}(hl:b.length<=16){size:Int}{z i:Nat}(h:M.Blk b size z i):(zW b z i).gq=1/\eR (zW b z i)=true:=by
 refine ⟨rfl,?_⟩;have hz:=h.z2;have hp:=h.p;have hw:(M.win b (i*z) (min z (b.length - i*z))).length=min z (b.length - i*z):=rC (by omega);unfold eR zW;simp only [hw];have e:au ((i*z:Nat):Int) 0 (240 - (min z (b.length - i*z):Nat))=true:=by simp only [au,sk,decide_eq_true_eq]; omega
 rw [if_neg (by omega),e];rfl
theorem KW{b:List Int}(hl:b.length<=16){size:Int}(hs:dn size b.length=true){i:Nat}(hi:i<=(bJ size b.length).toNat):∀ p∈mm b size.toNat i,p.gq=1/\eR p=true:=by
 intro p hp;obtain ⟨j,hj,rfl⟩:=List.mem_map.1 hp;have:=List.mem_range.1 hj;exact UI hl (ND hs (by omega))
theorem QA(b:List Int)(z i:Nat):mm b z i++[zW b z i]=mm b z (i+1):=by
 unfold mm;rw [List.range_succ,List.map_append]; rfl
theorem MI(b:List Int)(z i:Nat):(mm b z i).length=i:=by simp [mm]
theorem xG{u:Nat}(hu:1099511627776<=u){l:List aY}(hl:l.length<=1048576)(hb:∀ x∈l,x.fB.length<=1048576):gy u l=some l:=by
 unfold gy;rw [BZ u l _ u (by omega) (by omega),wL 1048576 l _ l 0 [] (λ_ h=>h) (by simp; omega)]
 ·rfl
 ·intro x i s k hx hs;have h4:=hb x hx;unfold vd;rw [bD (by simp; omega)];simp only [wk];rw [bD (by simp; omega)]; rfl
theorem Pi{α ρ:Type}{fin:List α->Option ρ}{body:α->Nat->List α->(List α->Option ρ)->Option ρ}(n:Nat)(p:List α)(hb:∀ x i s k,p[i]?=some x->s.length+1<=n->body x i s k=k (s++[x])) :
  ∀ (l:List α) (i:Nat) (s:List α),l=p.drop i->s.length+l.length<=n->cA fin body l i s=fin (s++l):=by
 intro l
 induction l with
 | nil=>intro i s _ _; simp [cA]
 | cons x l ih =>
  intro i s h1 h2;simp only [zQG] at h2;have h3:p[i]?=some x:=by
   have:=congrArg (λl=>l[0]?) h1
   simpa using this.symm
  have h4:l=p.drop (i+1):=by
   have:=congrArg (List.drop 1) h1
   simpa using this
  simp only [cA];rw [hb x i s _ h3 (by omega),ih (i+1) _ h4 (by simp; omega)];simp
theorem zX{u:Nat}(hu:1099511627776<=u){l:List ai}(hl:l.length<=1048576)(hb:∀ x∈l,x.fB.length<=1048576):f0 u l=some l:=by
 unfold f0;rw [xJ u l _ u (by omega) (by omega),Pi 1048576 l _ l 0 [] (by simp) (by simp; omega)]
 ·rfl
 ·intro x i s k hx hs;have h4:=hb x (zQY hx);unfold qk;rw [ji l i hx];simp only [wk];rw [bD (by simp; omega)];simp only [wk];rw [bD (by simp; omega)]; rfl
structure M.WCp (w:World):Prop where
 t:w.fT.ca.length<=1048576
 new:w.bK.length<=1048576
 ol:w.bA.length<=1048576
 old:∀ x∈w.bA,x.fB.length<=1048576
 nl:w.fN.length<=1048576
 n:∀ x∈w.fN,M.NodWf x
 dl:w.fD.length<=1048576
 d:∀ x∈w.fD,M.DOk x
 pl:w.bn.length<=1048576
 p:∀ x∈w.bn,ye x
 ll:w.cN.length<=1048576
theorem IC{u:Nat}(hu:1099511627776<=u){w:World}(h:M.WCp w):nq u w=some w:=by
 have h1:=h.t;have h2:=h.new;have h3:=h.nl;have h4:=h.dl;have h5:=h.ll;unfold nq;rw [bD (by simp; omega),bD (by simp; omega)];simp only [wk];rw [xG hu h.ol h.old];simp only [wk];rw [DA u w _ _ u (by omega) (by omega),wL 1048576 w.fN _ w.fN 0 [] (λ_ h=>h) (by simp; omega)]
 ·unfold wZ nM;rw [Dz u w _ _ _ u (by omega) (by omega),wL 1048576 w.fD _ w.fD 0 [] (λ_ h=>h) (by simp; omega)]
  ·unfold wX nL;rw [zX hu h.pl λx hx=>(h.p x hx).2];simp only [wk];rw [bD (by simp; omega)];rfl
  ·intro x i s k hx hs;unfold wY;rw [gG hu (h.d x hx)];simp only [wk];rw [bD (by simp; omega)]; rfl
 ·intro x i s k hx hs;unfold w4;rw [fJ u (h.n x hx)];simp only [wk];rw [bD (by simp; omega)]; rfl
structure M.DrW (w:World):Prop where
 wf:M.WWf w
 ol:w.bA.length=w.fT.ca.length
 old:∀ x∈w.bA,m6 240 x.fB
 new:m6 16 w.bK
 log:w.cN.length<=3000
structure M.NewW (w:World):Prop where
 d:M.DrW w
 net:w.bn=[]
 lost:w.bl=0
 log:w.cN=[]
 c:wS w.fC=true
 s:dn w.fC.aw w.bK.length=true
 root:∀ n,w.fN[0]?=some n->n=⟨true,-1,0,gj 1 w.bK w.fC.aw,kE (gj 1 w.bK w.fC.aw) w.bK,6,[],0⟩
 node:∀ (j:Nat) (n:aC),j≠0->w.fN[j]?=some n->n=jV w.fT j
 disk:∀ (j:Nat) (d:am) (o:aY),w.fD[j]?=some d->w.bA[j]?=some o->d=⟨o.fB,[],⟨0,0,o.fB.length⟩,[]⟩
theorem TM{w:World}(h:M.DrW w):M.WCp w:=by
 have h0:=BB h.wf;have h1:=h.wf.nl;have h2:=h.wf.dl;have h3:=h.wf.len;have h4:=h.ol;have h5:=h.log;have h6:=h.new.1;refine ⟨by omega,by omega,by omega,λx hx=>by have:=(h.old x hx).1; omega,by omega,λx hx=>?_,by omega,λx hx=>?_,by omega,λx hx=>(h.wf.net x hx).w,by omega⟩
 ·obtain ⟨j,hj⟩:=List.mem_iff_getElem?.1 hx;exact (h.wf.nodes j x hj).w
 ·obtain ⟨j,hj⟩:=List.mem_iff_getElem?.1 hx;exact (h.wf.disks j x hj).o
theorem Ri{t:cX}(ht:jB t=true){k:Nat}(h0:0 < k)(hk:k < t.ca.length):M.NodeIn t k (jV t k):=by
 have hw:au (k:Int) 1 ((t.ca.length:Int) - 1)=true:=by unfold au; simp; omega
 unfold jV;simp only [ht,hw,zXV,if_true];refine ⟨⟨by simp,⟨by simp [aB],by simp⟩,by simp,Qx⟩,⟨by simp [dT],by simp [dT]⟩,λz hz=>by simp [dT] at hz,λ_=>?_⟩
 ·rw [rg,sX hk];have:=MF ht h0 (sX hk);unfold gH au;simp;omega
theorem Pj{u:Nat}(hu:1099511627776<=u)(t:cX){m:al}{b:List Int}(hm:M.DrMan m b)(hg:m.aM≠0)(ht:M.tells m b=true):oa u m b=some ⟨true,-1,0,m,kE m b,6,[],0⟩/\M.NodeIn t 0 ⟨true,-1,0,m,kE m b,6,[],0⟩:=by
 have h1:=hm.n;have h2:=hm.i.1;have mk:∀ n:aC,M.DrNode n->n.bi=[]->M.NodeIn t 0 n:=λn hn hk=>⟨hn.w,by rw [hk]; exact ⟨by simp [dT],by simp [dT]⟩,λz hz=>by rw [hk] at hz; simp [dT] at hz,λh=>absurd rfl h⟩;refine ⟨?_,mk _ (Sn hm (GJ (Bx hm.o hm.i.2 (by omega)) h1) (by simp) _ _ _ _ _) rfl⟩;have e0:(m.aM == 0)=false:=by simpa using hg
 unfold oa;rw [e0,gF hu m (by omega),hm.o];simp only [cond_false,wk,zQK,Cn hu m hm.i.2 (show b.length<=1048576 by omega),ht];unfold mF;simp only [cond_false,wQ u (show m.aO.length<=1048576 by omega),wk,xD hu (show m.aO.length<=1048576 by omega) hm.i.2 (show b.length<=1048576 by omega)]
theorem TN{u:Nat}{b:List Int}(hb:m6 16 b)(g s:Int):M.DrMan (gj g b s) b:=by
 have h1:=hb.1;refine ⟨hb,Hw _ hb.2 _,Gq _ _ _,Kh _ _ _ hb.2,?_⟩;unfold gj
 split
 ·exact ⟨by simp,by simp; omega⟩
 ·simp
theorem Pk{u:Nat}(hu:1099511627776<=u){c:ig}(hc:wS c=true){t:cX}(ht:E9 t){b:List Int}(hb:m6 16 b){old:List aY}(ho:old.length=t.ca.length)(hol:∀ x∈old,m6 240 x.fB):Ev (qj u c t b old) M.NewW:=by
 have t1:=ht.2.1;have t2:=ht.2.2;have b1:=hb.1;have hs:dn c.aw (b.length:Int)=true:=by
  unfold wS at hc;simp only [sk] at hc;have:=cd hc.1.1.1;unfold dn;simp only [hc.1.1.1,zWk];unfold au;simp;omega
 have hoo:E7 old (t.ca.length:Int)=true:=by
  unfold E7;simp only [sk];refine ⟨List.all_eq_true.2 λx hx=>?_,by simp [ho]⟩;have:=(hol x hx).1;simp;omega
 have ht1:M.tells (gj 1 b c.aw) b=true:=Hx hs (by decide);have hg1:(gj 1 b c.aw).aM≠0:=by rw [GU hs (by decide)]; show (1:Int)≠0; decide
 obtain ⟨hr1,hr2⟩:=Pj hu t (TN (u:=u) hb 1 c.aw) hg1 ht1;have loop:∀ (m k i:Nat) (ns:List aC) (ds:List am),i+m=t.ca.length->m < k->ns.length=i->ds.length=i ->
   (∀ (j:Nat) (n:aC),ns[j]?=some n->n=if j=0 then ⟨true,-1,0,gj 1 b c.aw,kE (gj 1 b c.aw) b,6,[],0⟩ else jV t j)->(∀ (j:Nat) (d:am),ds[j]?=some d->∃ o,old[j]?=some o/\d=⟨o.fB,[],⟨0,0,o.fB.length⟩,[]⟩) ->
   Ev (dI u k b old (i:Int) c t old ns ds) M.NewW:=by
  intro m
  induction m with
  | zero =>
   intro k i ns ds hi hk h1 h2 h3 h4;obtain ⟨k,rfl⟩:∃ j,k=j+1:=⟨k - 1,by omega⟩;unfold dI;have:¬ (i:Int) < (t.ca.length:Int):=by omega
   simp only [this,decide_false,cond_false,pB];refine cD ⟨⟨⟨ht.1,by show ns.length=t.ca.length; omega,by show ds.length=t.ca.length; omega,λj n hn=>?_,λj d hd=>?_,λp hp=>by simp at hp,by simp⟩,ho,hol,by simpa using hb,by simp⟩,rfl,rfl,rfl,hc,by simpa using hs,λn hn=>by simpa using h3 0 n hn,λj n h0 hn=>(h3 j n hn).trans (if_neg h0),λj d o hd ho'=>?_⟩
   ·have e:=h3 j n hn
    by_cases h0:j=0
    ·subst h0;rw [e,if_pos rfl];exact hr2
    ·rw [e,if_neg h0];exact Ri ht.1 (by omega) (by have:=(List.getElem?_eq_some_iff.1 hn).1; have:j < ns.length:=this; omega)
   ·obtain ⟨o,h5,h6⟩:=h4 j d hd;rw [h6];exact VC (hol o (zQY h5))
   ·obtain ⟨o',h5,h6⟩:=h4 j d hd;have ho':old[j]?=some o:=ho';rw [h5] at ho'
    cases ho'
    exact h6
  | succ m ih =>
   intro k i ns ds hi hk h1 h2 h3 h4;obtain ⟨k,rfl⟩:∃ j,k=j+1:=⟨k - 1,by omega⟩;unfold dI;have hlt:(i:Int) < (t.ca.length:Int):=by omega
   simp only [hlt,decide_true,cond_true];have step:∀ n:aC,(n=if i=0 then ⟨true,-1,0,gj 1 b c.aw,kE (gj 1 b c.aw) b,6,[],0⟩ else jV t i)->Ev (iO u (λz0 z1 z2 z3 z4 z5 z6 z7=>dI u k z0 z1 z2 z3 z4 z5 z6 z7) b old (i:Int) c t old ns ds n.fL n.bR n.bG n.ay.aM n.ay.aw n.ay.aW n.ay.aO n.bB.bq n.bB.b9 n.bc n.bi n.bw) M.NewW:=by
    intro n hn;unfold iO;obtain ⟨x,hx⟩:∃ x,old[i]?=some x:=⟨_,sX (by omega)⟩;have hxl:=(hol x (zQY hx)).1;refine my (by simp; omega) (g9 (ji old i hx) (g9 (Ko u (g:=0) (by decide) (by decide) hxl).1 (my (by simp; omega) ?_)));rw [dB (show i < 9223372036854775807 by omega)];refine ih k (i+1) _ _ (by omega) (by omega) (by simp [h1]) (by simp [h2]) (λj n' hj=>?_) (λj d' hj=>?_)
    ·by_cases hji:j < ns.length
     ·rw [zQQ hji] at hj;exact h3 j n' hj
     ·rw [zQW (by omega)] at hj
      cases hq:j - ns.length with
      | zero =>
       rw [hq] at hj;simp only [zWJ,Option.some.injEq] at hj;have:j=i:=by omega
       subst this hj;exact hn
      | succ q=>rw [hq] at hj; simp at hj
    ·by_cases hji:j < ds.length
     ·rw [zQQ hji] at hj;exact h4 j d' hj
     ·rw [zQW (by omega)] at hj
      cases hq:j - ds.length with
      | zero =>
       rw [hq] at hj;simp only [zWJ,Option.some.injEq] at hj;have:j=i:=by omega
       subst this;exact ⟨x,hx,hj.symm⟩
      | succ q=>rw [hq] at hj; simp at hj
   refine g9 (zk hu (by omega) _) ?_
   cases i with
   | zero =>
    refine cm (λ_=>?_) (λe=>by simp at e);refine g9 (r:=tv u _) (v:=gj 1 b c.aw) ?_ (g9 hr1 (step _ rfl));unfold tv;simp only [zQy];rw [xU hu hb.2 (by omega)];rfl
   | succ i =>
    refine cm (λe=>?_) (λ_=>step _ (by simp));simp at e;omega
 unfold qj;refine g9 (KO u c) ?_;rw [hc];refine cm (λe=>by cases e) λ_=>g9 (wO hu (by omega)) ?_;rw [ht.1];refine cm (λe=>by cases e) λ_=>g9 (pm u _ _) ?_;rw [hs];refine cm (λe=>by cases e) λ_=>g9 (IB hu (by omega) _) ?_;rw [hoo];unfold kF;refine cm (λe=>by cases e) λ_=>my (by simp; omega) (my (by simp; omega) (g9 (xG hu (by omega) λx hx=>by have:=(hol x hx).1; omega) ?_));exact loop t.ca.length u 0 [] [] (by omega) (by omega) rfl rfl (λj n h=>by simp at h) (λj n h=>by simp at h)
theorem Sp{u:Nat}(hu:1099511627776<=u){c:aH}(hc:Cu c):Ev (un u c) λv=>M.NewW v.1/\Cu v.2:=by
 unfold un;refine bF (KQ u hu hc) λr1 hr1=>bF (Qw hu hr1.2) λr2 hr2=>?_;have t1:=hr1.1.2.1;have t2:=hr1.1.2.2;have loop:∀ (m k i:Nat) (xs:List aY) (c:aH),i+m=r1.1.ca.length->m < k->xs.length=i->(∀ x∈xs,m6 240 x.fB)->Cu c->Ev (ij u k r2 xs (i:Int) r1 c.fB c.fI c.fH) λv=>M.NewW v.1/\Cu v.2:=by
  intro m
  induction m with
  | zero =>
   intro k i xs c hi hk h1 h2 hc;obtain ⟨k,rfl⟩:∃ j,k=j+1:=⟨k - 1,by omega⟩;unfold ij;have:¬ (i:Int) < (r1.1.ca.length:Int):=by omega
   simp only [this,decide_false,cond_false,sj];exact bF (KT u (zV hc)) λq hq=>bF (Pk hu hq.1 hr1.1 hr2.1 (by omega) h2) λw hw=>cD ⟨hw,hq.2⟩
  | succ m ih =>
   intro k i xs c hi hk h1 h2 hc;obtain ⟨k,rfl⟩:∃ j,k=j+1:=⟨k - 1,by omega⟩;unfold ij;have hlt:(i:Int) < (r1.1.ca.length:Int):=by omega
   simp only [hlt,decide_true,cond_true];refine bF (VA hu (zV hc) (KR hr2.1 (by omega))) λq hq=>my (by simp; omega) ?_;rw [dB (show i < 9223372036854775807 by omega)];refine ih k (i+1) _ q.2 (by omega) (by omega) (by simp [h1]) (λx hx=>?_) hq.2;rcases List.mem_append.1 hx with hx | hx
   ·exact h2 x hx
   ·simp only [zYY,zZv,or_false] at hx;subst hx;exact hq.1
 exact loop r1.1.ca.length u 0 [] r2.2 (by omega) (by omega) rfl (by simp) hr2.2
theorem QB(u:Nat){c:aH}(hc:Cu c){b:List Int}{N:Nat}(hN:N<=1000000)(hb:b.length<=N)(hB:aB b):Dr (m9 u c b) (m6 (N+1)):=by
 unfold m9;rw [bD (by simp; omega)];simp only [wk,zQy];have hlt:∀ {v:Int},0<=v->v < (b.length:Int)->∃ y,dG b v=some y:=λ{v} h0 h1=>by
  obtain ⟨i,rfl⟩:∃ i:Nat,v=(i:Int):=⟨v.toNat,by omega⟩;exact ⟨b[i]'(by omega),by rw [dc]; exact sX (by omega)⟩
 have self:m6 (N+1) b:=⟨by omega,hB⟩;refine cz (cG u hc 6) λn c1 _ h1=>?_;simp only
 cases n == 0 with
 | true =>
  simp only [cond_true]
  by_cases hl:(b.length:Int) > 0
  ·simp only [hl,decide_true,cond_true];refine cz (cG u h1 _) λv c2 hv h2=>?_;refine cz (cG u h2 256) λw c3 _ h3=>?_;obtain ⟨y,hy⟩:=hlt hv.1 (hv.2 hl);simp only [hy,wk,co];exact cR ⟨by rw [zXJ]; omega,BS hB _ (R4 _)⟩ h3
  ·simp only [hl,decide_false,cond_false,co];exact cR self h1
 | false =>
  simp only [cond_false]
  cases n == 1 with
  | true =>
   simp only [cond_true];rw [dB (by omega)];refine cz (cG u h1 _) λv c2 hv h2=>?_;have h3:=hv.2 (by omega);have hs:cO 0 v (b.length:Int)=true:=by simp [cO]; omega
   simp only [hs,Eg,wk,co];exact cR ⟨by rw [zYV,zQz]; omega,zN (zM hB _) _⟩ h2
  | false =>
   simp only [cond_false]
   cases n == 2 with
   | true =>
    simp only [cond_true];refine cz (n4 u h1 (by simp)) λv c2 _ h2=>?_;rw [bD (by simp; omega)];simp only [wk,co];exact cR ⟨by rw [zQV,zYw]; omega,vT hB (GC _)⟩ h2
   | false =>
    simp only [cond_false]
    cases n == 3 with
    | true =>
     simp only [cond_true]
     by_cases hl:(b.length:Int) > 0
     ·simp only [hl,decide_true,cond_true];refine cz (cG u h1 _) λv c2 hv h2=>?_;obtain ⟨y,hy⟩:=hlt hv.1 (hv.2 hl);simp only [hy,wk];refine cz (cG u h2 8) λw c3 hw h3=>?_;have hw0:=hw.1;simp only [hy];rw [bD hw0];simp only [wk,co];exact cR ⟨by rw [zXJ]; omega,BS hB _ (by unfold MV; exact R4 _)⟩ h3
     ·simp only [hl,decide_false,cond_false,co];exact cR self h1
    | false =>
     simp only [cond_false,co];exact cR self h1
def ID(out:List ai):Prop:=∀ q∈out,q.fB.length<=1000
theorem Rj:ID []:=λq hq=>by simp at hq
theorem Wj(me t:Int)(m:fc):(iZ me t m).fB.length<=1000:=by
 have:=Dl m;show (cL m).length<=1000;omega
theorem V2{me t:Int}(m:fc):ID [iZ me t m]:=λq hq=>by
 simp only [zQH] at hq;subst hq; exact Wj _ _ _
theorem NE{n:aC}{me f:Int}:ID (fq n me f).kj:=λq hq=>by
 unfold fq at hq;simp only [zYZ] at hq;obtain ⟨i,_,rfl⟩:=hq;exact Wj _ _ _
theorem LO{n:aC}{me f:Int}(m:fc):ID (df n me f m).kj:=by
 unfold df
 split
 ·exact Rj
 ·split
  ·exact V2 _
  ·split
   ·dsimp only
    split
    ·exact V2 _
    ·exact NE
   ·exact V2 _
theorem VE{n:aC}{me i:Int}:∀ (l:List bS) (s:List bS×List ai),ID s.2->ID (l.foldl (eC n me i) s).2:=by
 intro l
 induction l with
 | nil=>intro s h; exact h
 | cons x l ih =>
  intro s h;refine ih _ λq hq=>?_;unfold eC at hq
  split at hq
  ·simp only [zWw,zQH] at hq;rcases hq with hq | rfl
   ·exact h q hq
   ·exact Wj _ _ _
  ·exact h q hq
theorem QC{n:aC}{me i:Int}:ID (ff n me i).kj:=by
 unfold ff
 split
 ·exact VE _ _ Rj
 ·exact Rj
theorem UJ{t:cX}{me:Int}{n:aC}(d:am)(p:ai):ID (M.take t me n d p).kj:=by
 unfold M.take
 split
 ·exact Rj
 ·split
  ·split
   ·exact LO _
   ·split
    ·unfold iw
     split
     ·exact Rj
     ·split
      ·unfold ft
       split
       ·exact Rj
       ·split
        ·exact Rj
        ·split
         ·exact QC
         ·exact Rj
      ·first | exact Rj | (split <;> exact Rj)
    ·exact Rj
  ·exact Rj
theorem UK{t:cX}(c:ig){k:Int}{n:aC}(d:am):ID (M.tick t c k n d).kj:=by
 unfold M.tick
 split
 ·exact Rj
 ·split
  ·exact Rj
  ·split
   ·exact V2 _
   ·exact V2 _
structure M.DrN (n:Nat) (w:World):Prop where
 d:M.DrW w
 len:∀ p∈w.bn,p.fB.length<=1000+n
 l0:0<=w.bl
 l1:w.bl<=n*1048577
theorem Rk{w:World}(h:M.DrW w)(h0:w.bn=[])(h1:w.bl=0):M.DrN 0 w:=⟨h,λp hp=>by rw [h0] at hp; simp at hp,by omega,by omega⟩
theorem Dm{n:Nat}{w:World}(h:M.DrN n w):M.DrN (n+1) w:=⟨h.d,λp hp=>by have:=h.len p hp; omega,h.l0,by have:=h.l1; omega⟩
theorem QD{N K:Nat}(hN:1000<=N):∀ (out:List ai) (s:List ai×List cH×Int),ID out->(∀ p∈s.1,p.fB.length<=N)->s.2.1.length<=3000->0<=s.2.2->s.2.2<=K->K+out.length<=4611686018427387904 ->
  (∀ p∈(out.foldl cW s).1,p.fB.length<=N)/\(out.foldl cW s).2.1.length<=3000/\0<=(out.foldl cW s).2.2/\(out.foldl cW s).2.2<=K+out.length:=by
 intro out
 induction out generalizing K with
 | nil=>intro s _ h1 h2 h3 h4 _; exact ⟨h1,h2,h3,by simpa using h4⟩
 | cons x out ih =>
  intro s hs h1 h2 h3 h4 h5;simp only [zQG] at h5;rw [zYK];have hx:=hs x (by simp);have hs':ID out:=λq hq=>hs q (by simp [hq])
  by_cases hl:400<=s.1.length
  ·have e:cW s x=(s.1,s.2.1,bd .i64 s.2.2 1):=by unfold cW; rw [if_pos hl]
   rw [e,dy (by omega) (by omega)];obtain ⟨a,b,c,d⟩:=ih (K:=K+1) (s.1,s.2.1,s.2.2+1) hs' h1 h2 (by show 0<=s.2.2+1; omega) (by show s.2.2+1<=((K+1:Nat):Int); omega) (by omega);exact ⟨a,b,c,by simp only [zQG]; omega⟩
  ·have e:(cW s x).1=s.1++[x]/\(cW s x).2.2=s.2.2/\(cW s x).2.1.length<=3000:=by
    unfold cW;rw [if_neg hl];refine ⟨rfl,rfl,?_⟩;dsimp only
    split
    ·rename_i hc;simp only [sk,decide_eq_true_eq] at hc;simp only [zQV,zYw];omega
    ·exact h2
   obtain ⟨a,b,c,d⟩:=ih (K:=K) (cW s x) hs' (λp hp=>by
    rw [e.1] at hp;rcases List.mem_append.1 hp with hp | hp
    ·exact h1 p hp
    ·simp only [zQH] at hp;subst hp;omega) e.2.2 (by rw [e.2.1]; exact h3) (by rw [e.2.1]; exact h4) (by omega)
   exact ⟨a,b,c,by simp only [zQG]; omega⟩
theorem Pl{n:Nat}{w:World}(hn:n<=1000)(h:M.DrN n w){out:List ai}(ho:∀ p∈out,M.PkIn w.fT p)(hs:ID out)(hl:out.length<=1048576):M.DrN (n+1) (GR w out):=by
 have l1:=h.l1;obtain ⟨a,b,c,d⟩:=QD (N:=1000+n) (K:=n*1048577) (by omega) out (w.bn,w.cN,w.bl) hs h.len h.d.log h.l0 (by show w.bl<=((n*1048577:Nat):Int); omega) (by omega);exact ⟨⟨TC h.d.wf ho,h.d.ol,h.d.old,h.d.new,b⟩,λp hp=>by have:=a p hp; omega,c,by show (out.foldl cW (w.bn,w.cN,w.bl)).2.2<=_; omega⟩
theorem Pm(s:Int):∀ (l:List ct) (i:Nat) (d:am),(∀ p∈l,aB p.fB)->M.DB d->M.DB (ki s l i d)
 | [],i,d,_,hd=>⟨hd.a,hd.b,by simp [ki]⟩
 | p :: l,i,d,h,hd=>by
  unfold ki;refine Pm s l (i+1) _ (λq hq=>h q (by simp [hq])) ?_
  split
  ·exact ME hd (h p (by simp))
  ·exact hd
theorem UL{d:am}(hd:M.DiskIn d)(s:Int):M.DiskIn (M.fall d s):=by
 refine ⟨Q8 hd.o s,?_,?_⟩
 ·unfold M.fall
  split
  ·exact Pm s _ _ _ (λp hp=>hd.b.p p hp) hd.b
  ·exact hd.b
 ·cases h:b7 d with
  | true=>rw [Tq h]; simp
  | false=>unfold M.fall; rw [h]; exact hd.l
theorem Pn{n:Nat}{w:World}(h:M.DrN n w){k:Nat}{x:aC}{d:am}(hn:M.NodeIn w.fT k x)(hd:M.DiskIn d):M.DrN n (rP w k x d):=⟨⟨Pd h.d.wf hn hd,h.d.ol,h.d.old,h.d.new,h.d.log⟩,h.len,h.l0,h.l1⟩
theorem U7{n:Nat}{w:World}(h:M.DrN n w){k:Nat}{x:aC}(hn:M.NodeIn w.fT k x):M.DrN n (GT w k x):=⟨⟨TE h.d.wf hn,h.d.ol,h.d.old,h.d.new,h.d.log⟩,h.len,h.l0,h.l1⟩
theorem LP{n:Nat}{w:World}(hn:n<=1000)(h:M.DrN n w){k:Nat}(hk:k < w.fT.ca.length):M.DrN (n+1) (rQ w k):=by
 unfold rQ
 split
 ·rename_i x d hx hd;have g:=Re h.d.wf.t w.fC hk (h.d.wf.nodes k x hx) (h.d.wf.disks k d hd);exact Pl hn (Pn h g.1 g.2.1) g.2.2.1 (UK _ _) g.2.2.2
 ·exact Dm h
theorem TO{n:Nat}{w:World}(h:M.DrN n w)(k:Nat):M.DrN n (zT w k):=by
 refine ⟨⟨TD h.d.wf k,h.d.ol,h.d.old,h.d.new,h.d.log⟩,λp hp=>?_,h.l0,h.l1⟩;rcases List.mem_append.1 hp with hp | hp
 ·exact h.len p (zWX hp)
 ·exact h.len p (zWg hp)
theorem LQ{n:Nat}{w:World}(hn:n<=1000)(h:M.DrN n w)(k:Nat):M.DrN (n+1) (rS w k):=by
 unfold rS
 split
 ·rename_i p hp;have hpi:=h.d.wf.net p (zQY hp);obtain ⟨j,e,hj⟩:=KN hpi.t;have hpl:=TO h k;unfold E6
  split
  ·rename_i x d hx hd;rw [e,rg] at hx hd ⊢;have g:=Rf (p:=p) hj (hpl.d.wf.nodes j x hx) (hpl.d.wf.disks j d hd) hpi;exact Pl hn (U7 hpl g.1) g.2.1 (UJ _ _) g.2.2
  ·exact Dm hpl
 ·exact Dm h
theorem TP{n:Nat}{w:World}(h:M.DrN n w)(hl:w.bn.length < 400){p:ai}(hp:M.PkIn w.fT p)(hb:p.fB.length<=1000+(n+1)):M.DrN (n+1) ⟨w.fC,w.fT,w.bK,w.bA,w.fN,w.fD,w.bn++[p],w.cN,w.bl⟩:=by
 refine ⟨⟨⟨h.d.wf.t,h.d.wf.nl,h.d.wf.dl,h.d.wf.nodes,h.d.wf.disks,λq hq=>?_,by simp; omega⟩,h.d.ol,h.d.old,h.d.new,h.d.log⟩,λq hq=>?_,h.l0,by have:=h.l1; show w.bl<=_; omega⟩
 ·rcases List.mem_append.1 hq with hq | hq
  ·exact h.d.wf.net q hq
  ·simp only [zQH] at hq;subst hq;exact hp
 ·rcases List.mem_append.1 hq with hq | hq
  ·have:=h.len q hq;omega
  ·simp only [zQH] at hq;subst hq;exact hb
theorem pr{z:Int}{m:Nat}(h:au z 0 ((m:Int) - 1)=true):∃ j:Nat,z=j/\j < m:=by
 have:=cd h;exact ⟨z.toNat,by omega,by omega⟩
def nG:aC:=⟨false,0,0,⟨0,0,0,[]⟩,⟨0,[]⟩,0,[],0⟩
inductive M.Step (w:World) (e:cu):World->Prop
 | no:M.Step w e w
 | tick (j:Nat) (hj:j < w.fT.ca.length):M.Step w e (rQ w j)
 | take (j:Nat) (hj:j < w.bn.length):M.Step w e (rS w j)
 | lose (l:List ai) (hs:∀ p∈l,p∈w.bn) (hl:l.length<=w.bn.length):M.Step w e ⟨w.fC,w.fT,w.bK,w.bA,w.fN,w.fD,l,w.cN,w.bl+1⟩
 | push (p:ai) (hl:w.bn.length < 400) (hi:M.PkIn w.fT p) (hf:(∃ q∈w.bn,q.fB=p.fB)\/e.br=7/\p.fB=e.fP.fB):M.Step w e ⟨w.fC,w.fT,w.bK,w.bA,w.fN,w.fD,w.bn++[p],w.cN,w.bl⟩
 | fall (j:Nat) (d:am) (hj:j < w.fT.ca.length) (h0:j≠0) (hd:w.fD[j]?=some d) (s:Int):M.Step w e (rP w j nG (M.fall d s))
 | rise (j:Nat) (n:aC) (hj:j < w.fT.ca.length) (h0:0 < j) (hn:w.fN[j]?=some n) (ho:n.fL=false):M.Step w e (GT w j (jV w.fT j))
theorem UM{u:Nat}(hu:1099511627776<=u){w:World}(h:M.WWf w)(l0:0<=w.bl)(l1:w.bl<=1099511627776){e:cu}(hb:aB e.fP.fB)(hl:e.fP.fB.length<=1048576):Ev (nz u w e) λv=>M.Step w e v.2:=by
 have up:=BB h;have nl:=h.nl;have dl:=h.dl;have pl:=h.len;have get:∀ {j:Nat},j < w.fT.ca.length->∃ x d,w.fN[j]?=some x/\w.fD[j]?=some d:=λ{j} hj=>⟨_,_,sX (by omega),sX (by omega)⟩;have none_:Ev (some (false,w)) λv=>M.Step w e v.2:=cD .no;unfold nz;rw [dD (by omega) (by omega),dD (by omega) (by omega)];refine g9 (bL u e.fN 0 _) (g9 (bL u e.fN 0 _) ?_);refine cm (λ_=>cm (λe1=>?_) (λ_=>?_)) (λ_=>?_)
 ·obtain ⟨j,ej,hj⟩:=pr e1;rw [ej];refine g9 (Iz hu h (by omega)) ?_;unfold oj;exact cD (.tick j (by omega))
 ·unfold oj;exact cD .no
 refine cm (λ_=>cm (λe1=>?_) (λ_=>?_)) (λ_=>?_)
 ·obtain ⟨j,ej,hj⟩:=pr e1;rw [ej];refine g9 (IA hu h hj) ?_;unfold om;exact cD (.take j hj)
 ·unfold om;exact cD .no
 refine cm (λ_=>cm (λe1=>?_) (λ_=>?_)) (λ_=>?_)
 ·obtain ⟨j,ej,hj⟩:=pr e1;rw [ej];rw [dB (show j < 9223372036854775807 by omega),dy (show -9223372036854775808<=w.bl+1 by omega) (show w.bl+1<=9223372036854775807 by omega)];refine my (by simp [cO]; omega) (my (by simp; omega) (my (by simp [cO]; omega) (my (by simp; omega) ?_)));unfold oo;refine cD (.lose _ (λp hp=>?_) ?_)
  ·simp only [zQy,zWw] at hp;rcases hp with hp | hp
   ·exact zWX (zWg hp)
   ·exact zWX (zWg hp)
  ·simp;omega
 ·unfold oo;exact cD .no
 refine cm (λ_=>?_) (λ_=>?_)
 ·have j4:∀ x:Bool,(x=false->w.bn.length < 400/\au e.fN 0 ((w.bn.length:Int) - 1)=true)->Ev (kw u x e w) λv=>M.Step w e v.2:=by
   intro x hx;unfold kw;refine cm (λ_=>none_) (λe2=>?_);obtain ⟨a1,a2⟩:=hx e2;obtain ⟨j,ej,hj⟩:=pr a2;rw [ej];have hp:=sX hj;have hpi:=h.net _ (zQY hp);have hpb:=hpi.w.2;refine g9 (ji _ j hp) (my (by simp; omega) (my (by simp; omega) (cD ?_)));exact .push _ a1 ⟨by simpa [ye] using hpi.w,hpi.f,hpi.t⟩ (.inl ⟨_,zQY hp,by simp⟩)
  refine cm (λ_=>j4 _ (λe=>by cases e)) (λe1=>j4 _ λe2=>⟨?_,by simpa using e1⟩);simp at e2;omega
 refine cm (λ_=>?_) (λ_=>?_)
 ·have j5:∀ x:Bool,(x=false->au e.fN 0 ((w.fN.length:Int) - 1)=true/\e.fN≠0)->Ev (jc u x e w) λv=>M.Step w e v.2:=by
   intro x hx;unfold jc;refine cm (λ_=>none_) (λe2=>?_);obtain ⟨j,ej,hj⟩:=pr (hx e2).1;have h0:j≠0:=by have:=(hx e2).2; omega
   rw [ej];obtain ⟨y,d,hy,hd⟩:=get (j:=j) (by omega);refine g9 (ji _ j hy) (g9 rfl (g9 (ji _ j hy) (g9 (ji _ j hd) (g9 (r:=yy u d e.fS) (v:=M.fall d e.fS) ?_ (g9 (ji _ j hd) (cD ?_))))))
   ·unfold yy;rw [EI hu (h.disks j d hd).o];rfl
   ·rw [rg];exact .fall j d (by omega) h0 hd _
  refine cm (λ_=>j5 _ (λe=>by cases e)) (λe1=>cm (λ_=>j5 _ (λe=>by cases e)) (λe0=>?_));have e1:au e.fN 0 ((w.fN.length:Int) - 1)=true:=by simpa using e1
  obtain ⟨j,ej,hj⟩:=pr e1;obtain ⟨y,d,hy,hd⟩:=get (j:=j) (by omega);rw [show dG w.fN e.fN=some y by rw [ej]; exact ji _ j hy];exact j5 _ λ_=>⟨e1,by simpa using e0⟩
 refine cm (λ_=>?_) (λ_=>?_)
 ·have j6:∀ x:Bool,(x=false->au e.fN 0 ((w.fN.length:Int) - 1)=true/\e.fN≠0/\∀ y,dG w.fN e.fN=some y->y.fL=false)->Ev (jd u x e w) λv=>M.Step w e v.2:=by
   intro x hx;unfold jd;refine cm (λ_=>none_) (λe2=>?_);obtain ⟨j,ej,hj⟩:=pr (hx e2).1;have h0:0 < j:=by have:=(hx e2).2.1; omega
   have hon:=(hx e2).2.2;rw [ej] at hon ⊢;obtain ⟨y,d,hy,hd⟩:=get (j:=j) (by omega);refine g9 (zk hu (by omega) _) (g9 (ji _ j hy) (cD ?_));rw [rg];exact .rise j y (by omega) h0 hy (hon y (ji _ j hy))
  refine cm (λ_=>j6 _ (λe=>by cases e)) (λe1=>cm (λ_=>j6 _ (λe=>by cases e)) (λe0=>?_));have e1:au e.fN 0 ((w.fN.length:Int) - 1)=true:=by simpa using e1
  obtain ⟨j,ej,hj⟩:=pr e1;obtain ⟨y,d,hy,hd⟩:=get (j:=j) (by omega);have hi:dG w.fN e.fN=some y:=by rw [ej]; exact ji _ j hy
  rw [hi];exact j6 _ λe2=>⟨e1,by simpa using e0,λz hz=>by rw [hi] at hz; cases hz; exact e2⟩
 refine cm (λe7=>?_) (λ_=>none_);have j7:∀ x:Bool,(x=false->w.bn.length < 400/\au e.fP.dt 0 ((w.fN.length:Int) - 1)=true/\au e.fP.tl 0 ((w.fN.length:Int) - 1)=true)->Ev (kx u x e w) λv=>M.Step w e v.2:=by
  intro x hx;unfold kx;refine cm (λ_=>none_) (λe2=>?_);obtain ⟨a1,a2,a3⟩:=hx e2;refine my (by simp; omega) (my (by simp; omega) (cD ?_));rw [nl] at a2 a3;exact .push _ a1 ⟨⟨by simpa using hb,by simp; omega⟩,a2,a3⟩ (.inr ⟨by simpa using e7,by simp⟩)
 have nodes:ms u w e.fP=some (au e.fP.dt 0 ((w.fN.length:Int) - 1) && au e.fP.tl 0 ((w.fN.length:Int) - 1)):=by
  unfold ms;rw [dD (by omega) (by omega),bL,bL];simp only [wk]
  cases au e.fP.dt 0 ((w.fN.length:Int) - 1) <;> rfl
 refine g9 nodes (cm (λ_=>j7 _ (λe=>by cases e)) (λe1=>j7 _ λe2=>?_));simp only [Bool.not_eq_false',sk] at e1;simp at e2;exact ⟨by omega,e1.1,e1.2⟩
theorem Po{n:Nat}(hn:n<=1000){w w':World}(h:M.DrN n w){e:cu}(hl:e.fP.fB.length<=1000+(n+1))(hs:M.Step w e w'):M.DrN (n+1) w':=by
 have up:=BB h.d.wf;have nl:=h.d.wf.nl;have dl:=h.d.wf.dl;have pl:=h.d.wf.len
 cases hs with
 | no=>exact Dm h
 | tick j hj=>exact LP hn h hj
 | take j hj=>exact LQ hn h j
 | lose l hs hl =>
  have l1:=h.l1;have l0:=h.l0;exact ⟨⟨⟨h.d.wf.t,nl,dl,h.d.wf.nodes,h.d.wf.disks,λp hp=>h.d.wf.net p (hs p hp),zWx hl pl⟩,h.d.ol,h.d.old,h.d.new,h.d.log⟩,λp hp=>by have:=h.len p (hs p hp); omega,by show 0<=w.bl+1; omega,by show w.bl+1<=_; omega⟩
 | push p hl' hi hf =>
  refine TP h hl' hi ?_;rcases hf with ⟨q,hq,he⟩ | ⟨_,he⟩
  ·have:=h.len q hq;rw [<- he]; omega
  ·rw [he]; exact hl
 | fall j d hj h0 hd s =>
  exact Dm (Pn h ⟨⟨by simp [nG],⟨by simp [nG,aB],by simp [nG]⟩,by simp [nG],Qx⟩,⟨by simp [dT,nG],by simp [dT,nG]⟩,λz hz=>by simp [dT,nG] at hz,λ_=>by unfold gH au nG; simp; omega⟩ (UL (h.d.wf.disks j d hd) _))
 | rise j n hj h0 hn ho=>exact Dm (U7 h (Ri h.d.wf.t h0 hj))
theorem QE{u:Nat}(hu:1099511627776<=u){c:aH}(hc:Cu c):Ev (so u c) λv=>M.MsgWf v.1/\Cu v.2:=by
 unfold so;refine bF (dg u hc _) λr hr=>cm (λ_=>?_) (λ_=>cm (λ_=>?_) (λ_=>cm (λ_=>?_) (λ_=>?_)))
 ·exact bF (Sm hu hr.2) λq hq=>cD ⟨⟨by have:=hq.1.n; show q.1.aO.length<=_; omega,hq.1.w,by simp [aB],by simp⟩,hq.2⟩
 ·exact bF (TG u hr.2) λa ha=>bF (dg u ha _) λb hb=>bF (dg u hb.2 _) λd hd=>g9 rfl (cD ⟨Dj _ _ _,hd.2⟩)
 ·refine bF (E8 (xA hu hr.2 (n:=5) (by omega))) λa ha=>my (by have:=ha.1.1; simp; omega) (bF (dg u ha.2 _) λb hb=>bF (dg u hb.2 _) λd hd=>?_);have h1:=ha.1.1;refine g9 (u7 u _ _ (by simp; omega)) (cD ⟨zS _ _ ?_ (by simp; omega),hd.2⟩);intro x hx;rcases List.mem_append.1 hx with hx | hx
  ·simp only [zYY,zZv,or_false] at hx;subst hx;omega
  ·exact ha.1.2 x hx
 ·exact bF (dg u hr.2 _) λb hb=>cD ⟨⟨by simp,Qx,by simp [aB],by simp⟩,hb.2⟩
theorem QF{u:Nat}(hu:1099511627776<=u){c:aH}(hc:Cu c){n:Nat}(hn:n<=100):Ev (vt u c n) λv=>m6 n v.1/\Cu v.2:=by
 have loop:∀ (m k i:Nat) (xs:List Int) (c:aH),i+m=n->m < k->xs.length=i->aB xs->Cu c->Ev (gK u k n xs (i:Int) c.fB c.fI c.fH) λv=>m6 n v.1/\Cu v.2:=by
  intro m
  induction m with
  | zero =>
   intro k i xs c hi hk h1 h2 hc;obtain ⟨k,rfl⟩:∃ j,k=j+1:=⟨k - 1,by omega⟩;unfold gK;have:¬ (i:Int) < (n:Int):=by omega
   simp only [this,decide_false,cond_false,qR];exact cD ⟨⟨by show xs.length<=n; omega,h2⟩,hc⟩
  | succ m ih =>
   intro k i xs c hi hk h1 h2 hc;obtain ⟨k,rfl⟩:∃ j,k=j+1:=⟨k - 1,by omega⟩;unfold gK;have hlt:(i:Int) < (n:Int):=by omega
   simp only [hlt,decide_true,cond_true];refine bF (E8 (za u (zV hc))) λq hq=>my (by simp; omega) ?_;rw [dB (show i < 9223372036854775807 by omega)];refine ih k (i+1) _ q.2 (by omega) (by omega) (by simp [h1]) ?_ hq.2;intro x hx;rcases List.mem_append.1 hx with hx | hx
   ·exact h2 x hx
   ·simp only [zYY,zZv,or_false] at hx;subst hx;exact R4 _
 exact loop n u 0 [] c (by omega) (by omega) rfl (by simp [aB]) hc
def Dn(w:World)(b:List Int):Prop:=(cM b).2=false\/(cM b).1.br=4\/(cM b).1.br=3\/∃ q∈w.bn,q.fB=b
theorem Hy{u:Nat}(hu:1099511627776<=u){w:World}(hw:M.WWf w){e:cu}(hb:aB e.fP.fB)(hn:e.fP.fB.length<=1048576):Ev (kt u w e) λr=>r=true->e.br=7->Dn w e.fP.fB:=by
 have hl:=hw.len;unfold kt;have j1:∀ x:Bool,(x=true->Dn w e.fP.fB)->Ev (iQ u x w e) λr=>r=true->e.br=7->Dn w e.fP.fB:=by
  intro x hx;unfold iQ;refine cm (λe1=>cD λ_ _=>hx e1) (λ_=>TF (Dc hu (by omega) e) λh _=>?_);obtain ⟨q,hq,e2⟩:=List.any_eq_true.1 h;rw [Ni (hw.net q hq).w.1 hb] at e2;exact .inr (.inr (.inr ⟨q,hq,of_decide_eq_true e2⟩))
 refine cm (λe1=>cD λ_ e2=>by simp [e2] at e1) (λ_=>g9 (wN hu hb hn) (cm (λe1=>j1 _ λ_=>.inl (by simpa using e1)) (λ_=>cm (λe1=>j1 _ λ_=>.inr (.inl (by simpa using e1))) (λ_=>j1 _ λe1=>.inr (.inr (.inl (by simpa using e1)))))))
def Fb(n:Nat)(w:World)(e:cu):Prop:=(aB e.fP.fB/\e.fP.fB.length<=1000+(n+1))/\(e.br=7->Dn w e.fP.fB)
theorem Pp(w:World):Dn w []:=.inl rfl
theorem Pq{u:Nat}(hu:1099511627776<=u){n:Nat}(hn:n<=1000){w:World}(h:M.DrN n w){c:aH}(hc:Cu c):Ev (mp u c w) λv=>Fb n w v.1/\Cu v.2:=by
 have pl:=h.d.wf.len;unfold mp;refine bF (dg u hc _) λr1 h1=>bF (dg u h1.2 _) λr2 h2=>bF (QE hu h2.2) λr3 h3=>g9 (By hu h3.1) ?_;have pb:=EO h3.1;have pn:=Dl r3.1;have j3:∀ (b:List Int) (c:aH),m6 (1000+(n+1)) b->Dn w b->Cu c->Ev (mK u c.fB c.fI c.fH r1 r2 b) λv=>Fb n w v.1/\Cu v.2:=λb c hb hm hc=>cD ⟨⟨⟨hb.2,hb.1⟩,λ_=>hm⟩,hc⟩;have nil_:m6 (1000+(n+1)) ([]:List Int):=⟨by simp,by simp [aB]⟩;have j2:∀ (b:List Int) (c:aH),m6 (1000+(n+1)) b->Cu c->Ev (kG u r1 r2 b w c.fB c.fI c.fH) λv=>Fb n w v.1/\Cu v.2:=λb c hb hc=>by
  have:=hb.1;unfold kG;exact bF (Hy hu h.d.wf (e:=cu.mk 7 0 0 (ai.mk r1.1 r2.1 b)) hb.2 (by show b.length<=_; omega)) λq hq=>cm (λ_=>j3 _ _ nil_ (Pp w) hc) (λe=>j3 _ _ hb (hq (by simpa using e) rfl) hc)
 have j1:∀ (b:List Int) (c:aH),m6 (1000+(n+1)) b->Cu c->Ev (kH u r1 r2 b w c.fB c.fI c.fH) λv=>Fb n w v.1/\Cu v.2:=λb c hb hc=>by
  have:=hb.1;unfold kH;exact bF (Hy hu h.d.wf (e:=cu.mk 7 0 0 (ai.mk r1.1 r2.1 b)) hb.2 (by show b.length<=_; omega)) λq _=>cm (λ_=>bF (QF hu (zV hc) (n:=3) (by omega)) λx hx=>j2 _ _ (KR hx.1 (by omega)) hx.2) (λ_=>j2 _ _ hb hc)
 have j4:∀ (x:Bool) (c:aH),(x=true->0 < w.bn.length)->Cu c->Ev (kI u x r1 r2 (cL r3.1) w c.fB c.fI c.fH) λv=>Fb n w v.1/\Cu v.2:=λx c hx hc=>by
  unfold kI;refine cm (λe=>?_) (λ_=>j1 _ _ ⟨by omega,pb⟩ hc);have h0:=hx e;refine bF (dg u (zV hc) _) λq hq=>?_;have hq1:=hq.1.2 (by omega);have hq0:=hq.1.1;obtain ⟨j,ej,hj⟩:∃ j:Nat,q.1=j/\j < w.bn.length:=⟨q.1.toNat,by omega,by omega⟩;rw [ej];have hp:=sX hj;have hpi:=h.d.wf.net _ (zQY hp);have hpl:=h.len _ (zQY hp);exact g9 (ji _ j hp) (bF (E8 (QB u hq.2 (N:=1000+n) (by omega) hpl hpi.w.1)) λz hz=>j1 _ _ (KR hz.1 (by omega)) hz.2)
 refine cm (λe=>bF (I1 u h3.2 2) λq hq=>j4 _ _ (λ_=>by simp at e; omega) hq) (λ_=>j4 _ _ (λe=>by cases e) h3.2)
theorem QG{u:Nat}(hu:1099511627776<=u){n:Nat}(hn:n<=1000){w:World}(h:M.DrN n w){c:aH}(hc:Cu c):Ev (nt u c w) λv=>Fb n w v.1/\Cu v.2:=by
 have nil_:∀ a b s,Fb n w (cu.mk a b s (ai.mk 0 0 [])):=λa b s=>⟨⟨by simp [aB],by simp⟩,λ_=>Pp w⟩;unfold nt;refine bF (dg u hc _) λr1 h1=>bF (dg u h1.2 _) λr2 h2=>cm (λ_=>bF (BC u h2.2 (by simp)) λq hq=>cD ⟨nil_ _ _ _,hq.2⟩) (λ_=>cm (λ_=>cD ⟨nil_ _ _ _,h2.2⟩) (λ_=>cm (λ_=>bF (Pq hu hn h h2.2) λq hq=>cD hq) (λ_=>?_)));have j1:∀ (x:Bool) (c:aH),Cu c->Ev (lJ u r1 x w c.fB c.fI c.fH) λv=>Fb n w v.1/\Cu v.2:=λx c hc=>by
  unfold lJ;refine cm (λ_=>g9 (xR u _ _) (bF (dg u (zV hc) _) λa ha=>bF (dg u ha.2 _) λb hb=>cm (λ_=>cD ⟨nil_ _ _ _,hb.2⟩) (λ_=>cm (λ_=>cD ⟨nil_ _ _ _,hb.2⟩) (λ_=>cD ⟨nil_ _ _ _,hb.2⟩)))) (λ_=>cD ⟨nil_ _ _ _,hc⟩)
 exact cm (λ_=>bF (I1 u h2.2 3) λq hq=>j1 _ _ hq) (λ_=>j1 _ _ h2.2)
structure M.Inv (I:Nat->World->Prop):Prop where
 d:∀ n w,I n w->M.DrN n w
 new:∀ w,M.NewW w->I 0 w
 step:∀ n w e w',n<=1000->I n w->Fb n w e->M.Step w e w'->I (n+1) w'
theorem UN:M.Inv M.DrN:=⟨λ_ _ h=>h,λw h=>Rk h.d h.net h.lost,λn w e w' hn h hb hs=>Po hn h hb.1.2 hs⟩
theorem NF{I:Nat->World->Prop}(hI:M.Inv I){u:Nat}(hu:1099511627776<=u){r1:World×aH}:∀ (m k:Nat) (l:List cu) (b:Int) (c:aH) (w:World),l.length+m=400->m < k->I l.length w->Cu c ->
  Ev (c9 u k l b c.fB c.fI c.fH w.fC.aw w.fC.aT w.fC.aF w.fC.aP w.fT.ca w.bK w.bA w.fN w.fD w.bn w.cN w.bl r1) λv=>(∃ n,n<=400/\I n v.2.2.1)/\Cu v.2.2.2:=by
 intro m
 induction m with
 | zero =>
  intro k l b c w hl hk h hc;obtain ⟨k,rfl⟩:∃ j,k=j+1:=⟨k - 1,by omega⟩;unfold c9;have j3:∀ x:Bool,x=false->Ev (gA u (λz0 z1 z2 z3 z4 z5 z6 z7 z8 z9 z10 z11 z12 z13 z14 z15 z16 z17=>c9 u k z0 z1 z2 z3 z4 z5 z6 z7 z8 z9 z10 z11 z12 z13 z14 z15 z16 z17) l b x c.fB c.fI c.fH w.fC.aw w.fC.aT w.fC.aF w.fC.aP w.fT.ca w.bK w.bA w.fN w.fD w.bn w.cN w.bl r1) λv=>(∃ n,n<=400/\I n v.2.2.1)/\Cu v.2.2.2:=by
   intro x hx;unfold gA oZ;exact cm (λe=>by rw [hx] at e; cases e) (λ_=>cD ⟨⟨l.length,by omega,h⟩,hc⟩)
  exact cm (λ_=>j3 _ (by simp; omega)) (λ_=>j3 _ rfl)
 | succ m ih =>
  intro k l b c w hl hk h hc;obtain ⟨k,rfl⟩:∃ j,k=j+1:=⟨k - 1,by omega⟩;unfold c9;have j3:∀ x:Bool,Ev (gA u (λz0 z1 z2 z3 z4 z5 z6 z7 z8 z9 z10 z11 z12 z13 z14 z15 z16 z17=>c9 u k z0 z1 z2 z3 z4 z5 z6 z7 z8 z9 z10 z11 z12 z13 z14 z15 z16 z17) l b x c.fB c.fI c.fH w.fC.aw w.fC.aT w.fC.aF w.fC.aP w.fT.ca w.bK w.bA w.fN w.fD w.bn w.cN w.bl r1) λv=>(∃ n,n<=400/\I n v.2.2.1)/\Cu v.2.2.2:=by
   intro x;unfold gA oZ;refine cm (λe=>?_) (λ_=>cD ⟨⟨l.length,by omega,h⟩,hc⟩);have hd:=hI.d _ _ h;have l1:=hd.l1;refine bF (QG hu (by omega) (w:=w) hd (zV hc)) λq hq=>my (by simp; omega) (bF (UM hu (w:=w) hd.d.wf hd.l0 (by omega) (e:=q.1) hq.1.1.1 (by have:=hq.1.1.2; omega)) λv hv=>?_);exact ih k (l++[q.1]) _ q.2 v.2 (by simp; omega) (by omega) (by simpa using hI.step _ _ _ _ (by omega) h hq.1 hv) hq.2
  exact cm (λ_=>j3 _) (λ_=>j3 _)
theorem Sq{I:Nat->World->Prop}(hI:M.Inv I){u:Nat}(hu:1099511627776<=u){c:aH}(hc:Cu c)(n:Int):Ev (o3 u c n) λv=>(∃ n,n<=400/\I n v.2.2.1)/\Cu v.2.2.2:=by
 unfold o3;refine bF (Sp hu hc) λr1 h1=>g9 (IC hu (TM h1.1.d)) (bF (dg u h1.2 _) λr3 h3=>?_);exact NF hI hu 400 u [] _ r3.2 r1.1 (by simp) (by omega) (hI.new _ h1.1) h3.2
theorem Fc{I:Nat->World->Prop}(hI:M.Inv I){u:Nat}(hu:1099511627776<=u){c:aH}(hc:Cu c)(n:Int):Ev (je u c n) λv=>(∃ n,n<=400/\I n v.1)/\Cu v.2:=by
 unfold je;exact bF (Sq hI hu hc n) λr hr=>cD hr
theorem Pr{u:Nat}(hu:1099511627776<=u){c:aH}(hc:Cu c)(n:Int):Ev (je u c n) λv=>M.DrN 400 v.1/\Cu v.2:=by
 have up:∀ (j n:Nat) {w:World},n+j=400->M.DrN n w->M.DrN 400 w:=λj=>by
  induction j with
  | zero=>intro n w h hd; exact (show n=400 by omega) ▸ hd
  | succ j ih=>intro n w h hd; exact ih (n+1) (by omega) (Dm hd)
 exact Rg (Fc UN hu hc n) λv hv=>by
  obtain ⟨⟨m,hm,h⟩,hc⟩:=hv;exact ⟨up (400 - m) m (by omega) h,hc⟩
structure M.AnyW (w:World):Prop where
 cp:M.WCp w
 t:w.fT.ca.length<=7
 nl:w.fN.length<=7
 dl:w.fD.length<=7
 ol:w.bA.length<=7
 pl:w.bn.length<=401
 ll:w.cN.length<=3000
 l0:-1<=w.bl
 l1:w.bl<=419430800
 nb:aB w.bK
 ob:∀ x∈w.bA,aB x.fB
 nk:RZ w.fN
theorem UO{w:World}(h:M.DrN 400 w):M.AnyW w:=by
 have up:=BB h.d.wf;have:=h.d.wf.nl;have:=h.d.wf.dl;have:=h.d.ol;have:=h.d.wf.len;have:=h.l0;have:=h.l1;exact ⟨TM h.d,by omega,by omega,by omega,by omega,by omega,h.d.log,by omega,by omega,h.d.new.2,λx hx=>(h.d.old x hx).2,λx hx=>by
  obtain ⟨j,hj⟩:=List.mem_iff_getElem?.1 hx;exact ⟨(h.d.wf.nodes j x hj).w.s,xF (h.d.wf.nodes j x hj)⟩⟩
theorem Fd{w:World}(h:M.AnyW w){x:aC}(hx:M.NodWf x)(hk:x.bi.length<=1048576)(k:Nat):M.AnyW ⟨w.fC,w.fT,w.bK,w.bA,w.fN.set k x,w.fD,w.bn,w.cN,w.bl⟩ :=
 ⟨⟨h.cp.t,h.cp.new,h.cp.ol,h.cp.old,by simpa using h.cp.nl,λy hy=>by
  rcases zXz hy with hy | rfl
  ·exact h.cp.n y hy
  ·exact hx,h.cp.dl,h.cp.d,h.cp.pl,h.cp.p,h.cp.ll⟩,h.t,by simpa using h.nl,h.dl,h.ol,h.pl,h.ll,h.l0,h.l1,h.nb,h.ob,λy hy=>by
  rcases zXz hy with hy | rfl
  ·exact h.nk y hy
  ·exact ⟨hx.s,hk⟩⟩
theorem Sr{u:Nat}(hu:1099511627776<=u){c:aH}(hc:Cu c)(n:Int):Ev (rG u c n) λv=>M.AnyW v.1/\Cu v.2:=by
 unfold rG;refine bF (Pr hu hc n) λr1 h1=>bF (dg u h1.2 _) λr2 h2=>bF (dg u h2.2 _) λr3 h3=>?_;have hw:=UO h1.1;have up:=BB h1.1.d.wf;have nl:=h1.1.d.wf.nl;have dl:=h1.1.d.wf.dl;have ol:=h1.1.d.ol;have a0:=h2.1.1;have a1:=h2.1.2 (by omega);obtain ⟨j,ej,hj⟩:∃ j:Nat,r2.1=j/\j < r1.1.fT.ca.length:=⟨r2.1.toNat,by omega,by omega⟩;have hn:=sX (l:=r1.1.fN) (i:=j) (by omega);have hd:=sX (l:=r1.1.fD) (i:=j) (by omega);have ho:=sX (l:=r1.1.bA) (i:=j) (by omega);have hnw:=hw.cp.n _ (zQY hn);have hnk:=(hw.nk _ (zQY hn)).2;have hob:=hw.cp.old _ (zQY ho);have hol:=(h1.1.d.old _ (zQY ho)).1;have pl:=h1.1.d.wf.len;have fin:∀ (c:aH) (w:World),w.cN=r1.1.cN->M.AnyW w->Cu c->Ev (dm u c.fB c.fI c.fH w.fC.aw w.fC.aT w.fC.aF w.fC.aP w.fT.ca w.bK w.bA w.fN w.fD w.bn r1 w.bl) λv=>M.AnyW v.1/\Cu v.2:=λc w hl h hc=>by
  unfold dm;rw [<- hl];exact cD ⟨h,hc⟩
 rw [ej];refine cm (λ_=>bF (So u h3.2) λq hq=>fin q.2 ⟨q.1,r1.1.fT,r1.1.bK,r1.1.bA,r1.1.fN,r1.1.fD,r1.1.bn,r1.1.cN,r1.1.bl⟩ rfl ⟨⟨hw.cp.t,hw.cp.new,hw.cp.ol,hw.cp.old,hw.cp.nl,hw.cp.n,hw.cp.dl,hw.cp.d,hw.cp.pl,hw.cp.p,hw.cp.ll⟩,hw.t,hw.nl,hw.dl,hw.ol,hw.pl,hw.ll,hw.l0,hw.l1,hw.nb,hw.ob,hw.nk⟩ hq) (λ_=>?_);refine cm (λ_=>bF (Sl u hu h3.2) λq hq=>fin q.2 ⟨r1.1.fC,q.1,r1.1.bK,r1.1.bA,r1.1.fN,r1.1.fD,r1.1.bn,r1.1.cN,r1.1.bl⟩ rfl ⟨⟨by show q.1.ca.length<=_; omega,hw.cp.new,hw.cp.ol,hw.cp.old,hw.cp.nl,hw.cp.n,hw.cp.dl,hw.cp.d,hw.cp.pl,hw.cp.p,hw.cp.ll⟩,hq.1,hw.nl,hw.dl,hw.ol,hw.pl,hw.ll,hw.l0,hw.l1,hw.nb,hw.ob,hw.nk⟩ hq.2) (λ_=>?_);refine cm (λ_=>bF (Qw hu h3.2) λq hq=>fin q.2 ⟨r1.1.fC,r1.1.fT,q.1,r1.1.bA,r1.1.fN,r1.1.fD,r1.1.bn,r1.1.cN,r1.1.bl⟩ rfl ⟨⟨hw.cp.t,by have:=hq.1.1; show q.1.length<=_; omega,hw.cp.ol,hw.cp.old,hw.cp.nl,hw.cp.n,hw.cp.dl,hw.cp.d,hw.cp.pl,hw.cp.p,hw.cp.ll⟩,hw.t,hw.nl,hw.dl,hw.ol,hw.pl,hw.ll,hw.l0,hw.l1,hq.1.2,hw.ob,hw.nk⟩ hq.2) (λ_=>?_);refine cm (λ_=>bF (dg u h3.2 _) λq hq=>g9 (ji _ j hn) ?_) (λ_=>?_)
 ·exact fin q.2 ⟨r1.1.fC,r1.1.fT,r1.1.bK,r1.1.bA,r1.1.fN.set (sY (j:Int)) (aC.mk (r1.1.fN[j].fL) (r1.1.fN[j].bR) r1.1.fN[j].bG (r1.1.fN[j].ay) r1.1.fN[j].bB (q.1) r1.1.fN[j].bi r1.1.fN[j].bw),r1.1.fD,r1.1.bn,r1.1.cN,r1.1.bl⟩ rfl (Fd (x:=aC.mk (r1.1.fN[j].fL) (r1.1.fN[j].bR) r1.1.fN[j].bG (r1.1.fN[j].ay) r1.1.fN[j].bB (q.1) r1.1.fN[j].bi r1.1.fN[j].bw) hw ⟨hnw.s,hnw.b,hnw.k,hnw.w⟩ hnk _) hq.2
 refine cm (λ_=>bF (dg u h3.2 _) λq hq=>g9 (ji _ j hn) ?_) (λ_=>?_)
 ·exact fin q.2 ⟨r1.1.fC,r1.1.fT,r1.1.bK,r1.1.bA,r1.1.fN.set (sY (j:Int)) (aC.mk (r1.1.fN[j].fL) (ez .i64 q.1 1) r1.1.fN[j].bG (r1.1.fN[j].ay) r1.1.fN[j].bB (r1.1.fN[j].bc) r1.1.fN[j].bi r1.1.fN[j].bw),r1.1.fD,r1.1.bn,r1.1.cN,r1.1.bl⟩ rfl (Fd (x:=aC.mk (r1.1.fN[j].fL) (ez .i64 q.1 1) r1.1.fN[j].bG (r1.1.fN[j].ay) r1.1.fN[j].bB (r1.1.fN[j].bc) r1.1.fN[j].bi r1.1.fN[j].bw) hw ⟨hnw.s,hnw.b,hnw.k,hnw.w⟩ hnk _) hq.2
 refine cm (λ_=>bF (TI hu h3.2) λq hq=>g9 (ji _ j hd) ?_) (λ_=>?_)
 ·refine fin q.2 ⟨r1.1.fC,r1.1.fT,r1.1.bK,r1.1.bA,r1.1.fN,r1.1.fD.set (sY (j:Int)) q.1,r1.1.bn,r1.1.cN,r1.1.bl⟩ rfl ⟨⟨hw.cp.t,hw.cp.new,hw.cp.ol,hw.cp.old,hw.cp.nl,hw.cp.n,by simpa using hw.cp.dl,λy hy=>?_,hw.cp.pl,hw.cp.p,hw.cp.ll⟩,hw.t,hw.nl,by simpa using hw.dl,hw.ol,hw.pl,hw.ll,hw.l0,hw.l1,hw.nb,hw.ob,hw.nk⟩ hq.2;rcases zXz hy with hy | rfl
  ·exact hw.cp.d y hy
  ·exact hq.1.o
 refine cm (λ_=>bF (VB hu h3.2) λq hq=>g9 (ji _ j hn) ?_) (λ_=>?_)
 ·have:=hq.1.1;exact fin q.2 ⟨r1.1.fC,r1.1.fT,r1.1.bK,r1.1.bA,r1.1.fN.set (sY (j:Int)) (aC.mk (r1.1.fN[j].fL) (r1.1.fN[j].bR) r1.1.fN[j].bG (q.1) r1.1.fN[j].bB (r1.1.fN[j].bc) r1.1.fN[j].bi r1.1.fN[j].bw),r1.1.fD,r1.1.bn,r1.1.cN,r1.1.bl⟩ rfl (Fd (x:=aC.mk (r1.1.fN[j].fL) (r1.1.fN[j].bR) r1.1.fN[j].bG (q.1) r1.1.fN[j].bB (r1.1.fN[j].bc) r1.1.fN[j].bi r1.1.fN[j].bw) hw ⟨by show q.1.aO.length<=_; omega,hnw.b,hnw.k,hq.1.2⟩ hnk _) hq.2
 refine cm (λ_=>bF (dg u h3.2 _) λq hq=>bF (dg u hq.2 _) λz hz=>my (by simp; omega) ?_) (λ_=>?_)
 ·refine fin z.2 ⟨r1.1.fC,r1.1.fT,r1.1.bK,r1.1.bA,r1.1.fN,r1.1.fD,r1.1.bn++[ai.mk (ez .i64 q.1 1) (ez .i64 z.1 1) []],r1.1.cN,r1.1.bl⟩ rfl ⟨⟨hw.cp.t,hw.cp.new,hw.cp.ol,hw.cp.old,hw.cp.nl,hw.cp.n,hw.cp.dl,hw.cp.d,by simp; omega,λy hy=>?_,hw.cp.ll⟩,hw.t,hw.nl,hw.dl,hw.ol,by simp; omega,hw.ll,hw.l0,hw.l1,hw.nb,hw.ob,hw.nk⟩ hz.2;rcases List.mem_append.1 hy with hy | hy
  ·exact hw.cp.p y hy
  ·simp only [zQH] at hy;subst hy;exact ⟨by simp [aB],by simp⟩
 refine cm (λ_=>fin r3.2 ⟨r1.1.fC,r1.1.fT,r1.1.bK,r1.1.bA,r1.1.fN,r1.1.fD,r1.1.bn,r1.1.cN,-1⟩ rfl ⟨⟨hw.cp.t,hw.cp.new,hw.cp.ol,hw.cp.old,hw.cp.nl,hw.cp.n,hw.cp.dl,hw.cp.d,hw.cp.pl,hw.cp.p,hw.cp.ll⟩,hw.t,hw.nl,hw.dl,hw.ol,hw.pl,hw.ll,by simp,by simp,hw.nb,hw.ob,hw.nk⟩ h3.2) (λ_=>?_);refine cm (λ_=>my (by simp [cO]; omega) ?_) (λ_=>?_)
 ·refine fin r3.2 ⟨r1.1.fC,r1.1.fT,r1.1.bK,r1.1.bA,r1.1.fN,(r1.1.fD.take (sY (r1.1.fD.length:Int))).drop (sY 1),r1.1.bn,r1.1.cN,r1.1.bl⟩ rfl ⟨⟨hw.cp.t,hw.cp.new,hw.cp.ol,hw.cp.old,hw.cp.nl,hw.cp.n,by simp; omega,λy hy=>hw.cp.d y (zWX (zWg hy)),hw.cp.pl,hw.cp.p,hw.cp.ll⟩,hw.t,hw.nl,by simp; omega,hw.ol,hw.pl,hw.ll,hw.l0,hw.l1,hw.nb,hw.ob,hw.nk⟩ h3.2
 refine cm (λ_=>g9 (ji _ j hn) (g9 (ji _ j hn) ?_)) (λ_=>?_)
 ·exact fin r3.2 ⟨r1.1.fC,r1.1.fT,r1.1.bK,r1.1.bA,r1.1.fN.set (sY (j:Int)) (aC.mk (!r1.1.fN[j].fL) (r1.1.fN[j].bR) r1.1.fN[j].bG (r1.1.fN[j].ay) r1.1.fN[j].bB (r1.1.fN[j].bc) r1.1.fN[j].bi r1.1.fN[j].bw),r1.1.fD,r1.1.bn,r1.1.cN,r1.1.bl⟩ rfl (Fd (x:=aC.mk (!r1.1.fN[j].fL) (r1.1.fN[j].bR) r1.1.fN[j].bG (r1.1.fN[j].ay) r1.1.fN[j].bB (r1.1.fN[j].bc) r1.1.fN[j].bi r1.1.fN[j].bw) hw ⟨hnw.s,hnw.b,hnw.k,hnw.w⟩ hnk _) h3.2
 refine cm (λ_=>g9 (ji _ j ho) (my (by simp; omega) (g9 (ji _ j ho) ?_))) (λ_=>fin r3.2 r1.1 rfl hw h3.2);refine fin r3.2 ⟨r1.1.fC,r1.1.fT,r1.1.bK,r1.1.bA.set (sY (j:Int)) (aY.mk (r1.1.bA[j].fB++[1])),r1.1.fN,r1.1.fD,r1.1.bn,r1.1.cN,r1.1.bl⟩ rfl ⟨⟨hw.cp.t,hw.cp.new,by simpa using hw.cp.ol,λy hy=>?_,hw.cp.nl,hw.cp.n,hw.cp.dl,hw.cp.d,hw.cp.pl,hw.cp.p,hw.cp.ll⟩,hw.t,hw.nl,hw.dl,by simpa using hw.ol,hw.pl,hw.ll,hw.l0,hw.l1,hw.nb,λy hy=>?_,hw.nk⟩ h3.2
 ·rcases zXz hy with hy | rfl
  ·exact hw.cp.old y hy
  ·simp;omega
 ·rcases zXz hy with hy | rfl
  ·exact hw.ob y hy
  ·intro z hz;rcases List.mem_append.1 hz with hz | hz
   ·exact hw.ob _ (zQY ho) z hz
   ·simp only [zYY,zZv,or_false] at hz;subst hz;omega
theorem Do{u:Nat}(hu:1099511627776<=u){a:List Int}(h:a.length<=1048576):qC u a a=some true:=by
 unfold qC;simp only [bne_self_eq_false,cond_false];rw [CH u a a () u (by omega) (by omega),Mm (λx i k hx=>by unfold wy; rw [dc,hx]; simp only [wk,bne_self_eq_false,cond_false]) a 0 rfl];rfl
theorem KX{u:Nat}(hu:1099511627776<=u){code:List Int}(h:code.length<=1048576)(n:Int):Ev (pQ u code n) λv=>M.AnyW v.2/\Cu v.1:=by
 unfold pQ;exact bF (TH hu h) λc hc=>bF (Sr hu hc n) λq hq=>cD ⟨hq.1,hq.2⟩
structure M.K1 (new:List Int) (d:am):Prop where
 a:d.fA.length<=240
 r:d.fR=⟨1,1,new.length⟩
 b:d.fB.length<=240
 n:d.fB.take new.length=new
 p:d.fP=[]
theorem V3{new:List Int}(h:new.length<=240):fp ⟨1,1,new.length⟩=true:=by
 unfold fp au;simp;omega
theorem TQ{a b:List Int}(h:a.take b.length=b):b.length<=a.length:=by
 have:=congrArg zYq h;rw [zQz] at this;omega
theorem KY{new:List Int}(h:new.length<=240){d:am}(hk:M.K1 new d):b7 d=true/\c6 d=(1,new):=by
 obtain ⟨a,b,r,p⟩:=d;obtain ⟨h1,h2,h3,h4,h5⟩:=hk;have h2:r=⟨1,1,new.length⟩:=h2;have h5:p=[]:=h5;have h4:b.take new.length=new:=h4;subst h2 h5;have hl:=TQ h4;have e:b7 ⟨a,b,⟨1,1,new.length⟩,[]⟩=true:=dk h1 h3 (V3 h) (by simp [iv]; omega) (by simp) (by simp);refine ⟨e,?_⟩;unfold c6;rw [e,if_pos rfl];simp [iv,h4]
theorem U8{old:List Int}{d:am}(hk:M.K0 old d){p:List ct}(hp:d.fP=p):d=uJ old d.fB p:=by
 obtain ⟨a,b,r,q⟩:=d;obtain ⟨h1,h2,h3⟩:=hk;have h1:a=old:=h1;have h2:r=⟨0,0,old.length⟩:=h2;have hp:q=p:=hp;subst h1 h2 hp;rfl
theorem MJ{old s b:List Int}(ho:old.length<=240)(hs':s.length<=240)(hl:b.length<=16){size:Int}(hs:dn size b.length=true):∀ (n i:Nat),i+n=(bJ size b.length).toNat ->
  jC (uJ old s []) b size n i (uJ old s (mm b size.toNat i))=(uJ old s (mm b size.toNat (i+n)),true)
 | 0,i,_=>rfl
 | n+1,i,h=>by
  have hr:=dA size b.length;have hi:i < (bJ size b.length).toNat:=by omega
  have hk:=ND hs hi;have hz:=hk.z2;have e:iY (uJ old s (mm b size.toNat i)) (jj (uJ old s [])) ((i:Int)*size) (dK b size i).1=(uJ old s (mm b size.toNat (i+1)),true):=by
   rw [Rh hk,show jj (uJ old s [])=1 from rfl];have e1:(i:Int)*size=((i*size.toNat:Nat):Int):=by rw [Int.natCast_mul,Int.toNat_of_nonneg (by omega)]
   rw [e1];have e2:gZ (uJ old s (mm b size.toNat i)) (zW b size.toNat i)=uJ old s (mm b size.toNat (i+1)):=by
    unfold gZ uJ;rw [QA]
   have e3:b7 (uJ old s (mm b size.toNat (i+1)))=true:=(KV ho ⟨rfl,rfl,hs'⟩ (by show (mm b size.toNat (i+1)).length<=200; rw [MI]; omega) λx hx=>(KW hl hs (by omega) x hx).2).1;unfold iY;rw [if_pos (show au 1 0 1=true from rfl)];show M.add _ (zW b size.toNat i)=_;unfold M.add;rw [e2,if_pos e3]
  unfold jC;rw [e,if_pos rfl,MJ ho hs' hl hs n (i+1) (by omega)];rw [show i+1+n=i+(n+1) by omega]
theorem TR{b s:List Int}{a m:Nat}(h:a+m<=b.length):yX (b.take a++s.drop a) a (M.win b a m)=b.take (a+m)++s.drop (a+m):=by
 have hw:(M.win b a m).length=m:=rC h;have ht:(b.take a).length=a:=by rw [zQz]; omega
 unfold yX;rw [Bm (by simp only [zQV,List.length_replicate,hw]; omega),hw,zQZ (b.take a) (s.drop a),List.take_left' ht];have e1:b.take a++M.win b a m=b.take (a+m):=by
  unfold M.win;have h2:b.take a=(b.take (a+m)).take a:=by rw [List.take_take,zXH (by omega)]
  rw [h2,zXK]
 rw [<- zQZ,e1]
 congr 1
 have h3:(b.take a++s.drop a).length=max a s.length:=by rw [zQV,ht,zYV]; omega
 by_cases hs:a+m<=s.length
 ·rw [h3,show a+m - max a s.length=0 by omega];simp only [List.replicate_zero,zWQ];rw [<- zZK,List.drop_left' ht,zZK]
 ·have h4:s.drop (a+m)=[]:=zXv (by omega);rw [h4];refine zXv ?_;rw [zQV,zQV,ht,zYV,List.length_replicate];omega
theorem Ps{old s b:List Int}{size:Int}(hs:dn size b.length=true)(R:List ct):∀ (n i:Nat),i+n=(bJ size b.length).toNat ->
  wM ((zWY i n).map (zW b size.toNat)) (uJ old (b.take (min (i*size.toNat) b.length)++s.drop (min (i*size.toNat) b.length)) R)=uJ old (b++s.drop b.length) []
 | 0,i,h=>by
  have:=KU hs;rw [<- h,zXg] at this;rw [Nat.min_eq_right this,List.take_length];rfl
 | n+1,i,h=>by
  have hk:=ND hs (show i < (bJ size b.length).toNat by omega);have hp:=hk.p;have hz:=hk.z2;rw [zXh,zWh];unfold wM;rw [zXH (Nat.le_of_lt hp)];have e1:i*size.toNat+min size.toNat (b.length - i*size.toNat)=min ((i+1)*size.toNat) b.length:=by
   rw [zYz]; omega
  have e:ml (uJ old (b.take (i*size.toNat)++s.drop (i*size.toNat)) R) (zW b size.toNat i)=uJ old (b.take (min ((i+1)*size.toNat) b.length)++s.drop (min ((i+1)*size.toNat) b.length)) R:=by
   show (⟨old,yX (b.take (i*size.toNat)++s.drop (i*size.toNat)) ((i*size.toNat:Nat):Int).toNat (M.win b (i*size.toNat) (min size.toNat (b.length - i*size.toNat))),⟨0,0,old.length⟩,R⟩:am)=_;rw [rg,TR (by omega),e1];rfl
  rw [e];exact Ps hs R n (i+1) (by omega)
inductive M.DS (new old:List Int) (size:Int):Int->am->Prop
 | idle {d:am} (k:M.K0 old d) (p:d.fP=[]):M.DS new old size 0 d
 | idleN {d:am} (k:M.K1 new d):M.DS new old size 0 d
 | gather {d:am} (k:M.K0 old d) (p:d.fP=[]):M.DS new old size 1 d
 | staged {d:am} (k:M.K0 old d) (p:d.fP=mm new size.toNat (bJ size new.length).toNat):M.DS new old size 2 d
 | sure {d:am} (k:M.K0 old d) (p:d.fP=[]) (n:d.fB.take new.length=new):M.DS new old size 3 d
 | meant {d:am} (k:M.K0 old d) (p:d.fP=[⟨2,0,[],⟨1,1,new.length⟩⟩]) (n:d.fB.take new.length=new):M.DS new old size 4 d
 | done {d:am} (k:M.K1 new d):M.DS new old size 5 d
theorem I2{new old:List Int}{size:Int}(ho:old.length<=240)(hn:new.length<=16)(hs:dn size new.length=true){ph:Int}{d:am}(h:M.DS new old size ph d):b7 d=true/\((M.K0 old d/\c6 d=(0,old)/\ph≠5)\/(M.K1 new d/\c6 d=(1,new)/\(ph=0\/ph=5))):=by
 have hr:=dA size new.length;have nil:∀ {d:am},M.K0 old d->d.fP=[]->b7 d=true/\c6 d=(0,old):=λk p=>KV ho k (by rw [p]; simp) (by rw [p]; simp)
 cases h with
 | idle k p=>exact ⟨(nil k p).1,.inl ⟨k,(nil k p).2,by decide⟩⟩
 | idleN k=>exact ⟨(KY (by omega) k).1,.inr ⟨k,(KY (by omega) k).2,.inl rfl⟩⟩
 | gather k p=>exact ⟨(nil k p).1,.inl ⟨k,(nil k p).2,by decide⟩⟩
 | staged k p =>
  have:=KV ho k (by rw [p,MI]; omega) (by rw [p]; exact λx hx=>(KW hn hs (zWy _) x hx).2);exact ⟨this.1,.inl ⟨k,this.2,by decide⟩⟩
 | sure k p _=>exact ⟨(nil k p).1,.inl ⟨k,(nil k p).2,by decide⟩⟩
 | meant k p _ =>
  have:=KV ho k (by rw [p]; simp) (by rw [p]; intro x hx; simp only [zQH] at hx; subst hx; have:=V3 (show new.length<=240 by omega); simp [eR,this]);exact ⟨this.1,.inl ⟨k,this.2,by decide⟩⟩
 | done k=>exact ⟨(KY (by omega) k).1,.inr ⟨k,(KY (by omega) k).2,.inr rfl⟩⟩
theorem Rl{new old:List Int}{size:Int}(ho:old.length<=240)(hn:new.length<=16)(hs:dn size new.length=true){ph:Int}{d:am}(h:M.DS new old size ph d)(s:Int):M.DS new old size 0 (M.fall d s):=by
 have hok:=(I2 ho hn hs h).1;have hr:=dA size new.length;have nil:∀ {d:am},d.fP=[]->b7 d=true->M.fall d s=d:=λ{d} p hd=>by
  unfold M.fall;rw [if_pos hd,p];unfold ki;rw [<- p]
 cases h with
 | idle k p=>rw [nil p hok]; exact .idle k p
 | idleN k=>rw [nil k.p hok]; exact .idleN k
 | gather k p=>rw [nil p hok]; exact .idle k p
 | staged k p =>
  unfold M.fall;rw [if_pos hok];obtain ⟨h3,h4⟩:=Ph s d.fP 0 d k (by rw [p]; exact λx hx=>KW hn hs (zWy _) x hx);exact .idle h3 h4
 | sure k p _=>rw [nil p hok]; exact .idle k p
 | meant k p n =>
  unfold M.fall;rw [if_pos hok,p];unfold ki ki
  split
  ·exact .idleN ⟨by rw [show (ml d ⟨2,0,[],⟨1,1,new.length⟩⟩).fA=d.fA from rfl,k.a]; exact ho,rfl,k.b,n,rfl⟩
  ·exact .idle ⟨k.a,k.r,k.b⟩ rfl
 | done k=>rw [nil k.p hok]; exact .idleN k
theorem UP{new old:List Int}{size:Int}(ho:old.length<=240)(hn:new.length<=16)(hs:dn size new.length=true){ph:Int}{d:am}(h:M.DS new old size ph d){m:al}(hm:ph≠0->m=M.man 1 new size){x:bI}(hx:ph=1->BT m x=true->x.b9=new):M.DS new old size (eg d m x ph).2 (eg d m x ph).1:=by
 have hok:=(I2 ho hn hs h).1;have hr:=dA size new.length
 cases h with
 | idle k p=>exact .idle k p
 | idleN k=>exact .idleN k
 | gather k p =>
  unfold eg;rw [if_pos rfl]
  split
  ·rename_i hc;simp only [sk] at hc;have e:=hx rfl hc.1;have em:=hm (by decide);subst em;have hz:(M.man 1 new size).aw=size:=rfl;have:lw d x.b9 (M.man 1 new size).aw=(uJ old d.fB (mm new size.toNat (bJ size new.length).toNat),true):=by
    unfold lw;rw [e,hz,hok,hs,p];simp only [zXZ,decide_true,zXV,if_true];have:=MJ (s:=d.fB) ho k.b hn hs (bJ size new.length).toNat 0 (by omega);rw [zWZ] at this;rw [U8 k p];exact this
   rw [this];exact .staged ⟨rfl,rfl,k.b⟩ rfl
  ·exact .gather k p
 | staged k p =>
  show M.DS new old size 3 (M.sure d);unfold M.sure;rw [if_pos hok,p];have e:=Ps (old:=old) (s:=d.fB) hs d.fP (bJ size new.length).toNat 0 (by omega);rw [Nat.zero_mul,Nat.zero_min,List.take_zero,List.drop_zero,zQy,<- U8 k rfl] at e;unfold mm;rw [zXx,e];refine .sure ⟨rfl,rfl,?_⟩ rfl (List.take_left' rfl);show (new++d.fB.drop new.length).length<=240;have:=k.b;simp only [zQV,zYV];omega
 | sure k p n =>
  have em:=hm (by decide);subst em;show M.DS new old size (if (gl d ⟨(M.man 1 new size).aM,jj d,(M.man 1 new size).aW⟩).2 then ((gl d ⟨(M.man 1 new size).aM,jj d,(M.man 1 new size).aW⟩).1,4) else (d,3)).2 (if (gl d ⟨(M.man 1 new size).aM,jj d,(M.man 1 new size).aW⟩).2 then ((gl d ⟨(M.man 1 new size).aM,jj d,(M.man 1 new size).aW⟩).1,(4:Int)) else (d,3)).1;have es:jj d=1:=by unfold jj; rw [k.r]; rfl
  rw [es];unfold gl;rcases Nm d ⟨2,0,[],⟨(M.man 1 new size).aM,1,(M.man 1 new size).aW⟩⟩ with ⟨e,_⟩ | e
  ·rw [e];refine .meant ⟨k.a,k.r,k.b⟩ ?_ n;show d.fP++[_]=_;rw [p];rfl
  ·rw [e];exact .sure k p n
 | meant k p n =>
  show M.DS new old size 5 (M.sure d);unfold M.sure;rw [if_pos hok,p];refine .done ⟨?_,rfl,k.b,n,rfl⟩;show d.fA.length<=240;rw [k.a]; exact ho
 | done k=>exact .done k
theorem QH{n:Nat}(hn:n<=40){x:Int}(hx:cq x=true)(h:rO (oA n) x=0){i:Nat}(hi:i < n):ef x i=true:=by
 have h40:(2:Nat) ^ n<=2 ^ 40:=zWz (by omega) hn;have hs:0<=x/\x < 1099511627776:=by unfold cq au at hx; simp at hx; omega
 obtain ⟨a,rfl⟩:∃ a:Nat,x=a:=⟨x.toNat,by omega⟩;rw [Ql (Qk n) hx] at h;have hf:oA n=((2 ^ n - 1:Nat):Int):=by unfold oA; rw [if_pos hn]
 rw [hf] at h;rw [OM (n:=40) (by omega) (by omega) (by omega)] at h;have h0:uf 40 (λi=>(2 ^ n - 1).testBit i && !a.testBit i)=0:=by omega
 have h1:=Ci (λi=>(2 ^ n - 1).testBit i && !a.testBit i) 40 i;rw [h0,Nat.zero_testBit] at h1;have h2:decide (i < 40)=true:=by simp; omega
 rw [h2,Nat.testBit_two_pow_sub_one,decide_eq_true hi] at h1;have hp:fe (i:Int)=true:=by unfold fe au; simp; omega
 unfold ef;rw [hx,hp,rg,rg]
 simpa using h1
theorem Ss{new:List Int}(hb:aB new){size:Int}(hs:dn size new.length=true){x:bI}(hx:M.BldWf x)(h:BT (M.man 1 new size) x=true):x.b9=new:=by
 have hr:=dA size new.length;have hall:=KU hs;unfold BT at h;simp only [sk,beq_iff_eq] at h;obtain ⟨⟨_,hk⟩,hm⟩:=h;have hset:=(Bv hk).2;have hl:=xC hk;have hl:x.b9.length=new.length:=by have:(x.b9.length:Int)=new.length:=hl; omega
 unfold jK at hk;simp only [sk] at hk;have hfit:=hk.2;unfold zf at hm;rw [TL] at hm;have step:∀ i:Nat,i<=(bJ size new.length).toNat->x.b9.take (i*size.toNat)=new.take (i*size.toNat):=by
  intro i
  induction i with
  | zero=>intro _; simp
  | succ i ih =>
   intro hi;have kb:=ND hs (show i < (bJ size new.length).toNat by omega);have kp:=kb.p;have kz:=kb.z2;have g:=KK hfit i _ (TK (g:=1) (show i < (bJ size new.length).toNat by omega));rw [zWZ] at g;unfold zR at g;rw [if_pos (QH (by omega) hset hm (by omega))] at g;unfold ES at g;rw [(TJ kb).1,(TJ kb).2,Rh kb] at g;simp only [decide_eq_true_eq] at g;have w1:(M.win x.b9 (i*size.toNat) (min size.toNat (new.length - i*size.toNat))).length=min size.toNat (new.length - i*size.toNat):=rC (by omega);have w2:(M.win new (i*size.toNat) (min size.toNat (new.length - i*size.toNat))).length=min size.toNat (new.length - i*size.toNat):=rC (by omega);have e:=Sj (mi hx.b _ _) (mi hb _ _) (by omega) (by omega) g;have p1:=Pg (b:=x.b9) (z:=size.toNat) (i:=i) (by omega);have p2:=Pg (b:=new) (z:=size.toNat) (i:=i) kp;rw [hl] at p1;rw [<- p1,<- p2,ih (by omega),e]
 have:=step _ (zWy _);rwa [zXk (by omega),zXk hall] at this
theorem QI{b:List Int}(h:(cM b).2=true):gk (cM b).1=true/\cL (cM b).1=b:=by
 unfold cM at h ⊢
 split at h
 ·rename_i hc;rw [if_pos hc]
  split at h
  ·rename_i m e hr
   split at h
   ·rename_i hq;rw [if_pos hq]
    simpa using hq
   ·cases h
  ·cases h
 ·cases h
theorem UQ(n:Int):1<=(cB 9 n).length:=by
 unfold cB
 split <;> simp
theorem tj{a b:Int}{s t:List Int}(a0:0<=a)(a1:a<=1000000000000)(b0:0<=b)(b1:b<=1000000000000)(h:cB 9 a++s=cB 9 b++t):a=b/\s=t:=by
 have h1:=Da (p:=[]) s a0 a1;have h2:=Da (p:=[]) t b0 b1;simp only [zQy] at h1 h2;rw [h,h2] at h1;have e:b=a:=congrArg (λx=>x.1) h1;subst e;exact ⟨rfl,zZH h⟩
theorem zY{m:fc}(h:gk m=true):∃ t,cL m=cB 9 m.br++t/\1<=m.br/\m.br<=4:=by
 have hk:1<=m.br/\m.br<=4:=by
  unfold gk at h
  split at h
  ·omega
  split at h
  ·omega
  split at h
  ·omega
  split at h
  ·omega
  cases h
 have pre:∀ (c:List Int) (n:Int),∃ t,aZ c n=c++t:=λc n=>by
  unfold aZ
  split
  ·exact ⟨_,rfl⟩
  ·exact ⟨[],(zWQ _).symm⟩
 have k0:aZ [] m.br=cB 9 m.br:=zO (by omega) (by omega);have sums:∀ (l:List cS) (c:List Int),∃ t,jI c l=c++t:=λl=>by
  induction l with
  | nil=>intro c; exact ⟨[],(zWQ _).symm⟩
  | cons s l ih =>
   intro c;obtain ⟨t,ht⟩:=ih (c++cB 9 s.fS);exact ⟨cB 9 s.fS++t,by simp only [jI]; rw [ht,zQZ]⟩
 have body:∃ t,c7 m=cB 9 m.br++t:=by
  unfold c7 pp qJ;rw [k0]
  split
  ·split
   ·obtain ⟨t1,e1⟩:=pre (cB 9 m.br) m.ay.aM;obtain ⟨t2,e2⟩:=pre (cB 9 m.br++t1) m.ay.aw;obtain ⟨t3,e3⟩:=pre (cB 9 m.br++t1++t2) m.ay.aW;obtain ⟨t4,e4⟩:=sums m.ay.aO (cB 9 m.br++t1++t2++t3);exact ⟨t1++t2++t3++t4,by rw [e1,e2,e3,e4]; simp only [zQZ]⟩
   ·exact ⟨[],(zWQ _).symm⟩
  ·split
   ·obtain ⟨t1,e1⟩:=pre (cB 9 m.br) m.aM;obtain ⟨t2,e2⟩:=pre (cB 9 m.br++t1) (fK .i64 m.cn 1048575);obtain ⟨t3,e3⟩:=pre (cB 9 m.br++t1++t2) (nD .i64 m.cn 20);obtain ⟨t4,e4⟩:=pre (cB 9 m.br++t1++t2++t3) (fK .i64 m.ci 1048575);obtain ⟨t5,e5⟩:=pre (cB 9 m.br++t1++t2++t3++t4) (nD .i64 m.ci 20);exact ⟨t1++t2++t3++t4++t5,by rw [e1,e2,e3,e4,e5]; simp only [zQZ]⟩
   ·split
    ·obtain ⟨t1,e1⟩:=pre (cB 9 m.br) m.aM;obtain ⟨t2,e2⟩:=pre (cB 9 m.br++t1) m.fI;obtain ⟨t3,e3⟩:=pre (cB 9 m.br++t1++t2) m.fB.length;exact ⟨t1++t2++t3++m.fB,by rw [e1,e2,e3]; simp only [zQZ]⟩
    ·split
     ·exact pre _ _
     ·exact ⟨[],(zWQ _).symm⟩
 obtain ⟨t,ht⟩:=body;obtain ⟨t2,h2⟩:=pre (c7 m) (cF (c7 m));exact ⟨t++t2,by unfold cL; rw [if_pos h,h2,ht,zQZ],hk⟩
theorem KZ{m k:fc}(hm:gk m=true)(hk:gk k=true)(h:cL m=cL k):m.br=k.br:=by
 obtain ⟨s,e1,a,b⟩:=zY hm;obtain ⟨t,e2,c,d⟩:=zY hk;rw [e1,e2] at h;exact (tj (by omega) (by omega) (by omega) (by omega) h).1
def M.flat(l:List cS):List Int:=l.flatMap λs=>cB 9 s.fS
theorem Fe:∀ (l:List cS) (c:List Int),jI c l=c++M.flat l
 | [],c=>(zWQ _).symm
 | s :: l,c=>by
  simp only [jI,M.flat,List.flatMap_cons];rw [Fe l,zQZ];rfl
theorem Su{a b:Int}{s t:List Int}(a0:1<=a)(a1:a<=562949953421311)(b0:1<=b)(b1:b<=562949953421311)(h:cB 9 a++s=cB 9 b++t):a=b/\s=t:=by
 have h1:=Qb 10 9 true a s (by omega) (by omega) (λe=>by cases e) (by omega) (by omega);have h2:=Qb 10 9 true b t (by omega) (by omega) (λe=>by cases e) (by omega) (by omega);rw [h,h2] at h1;have e:b=a:=congrArg (λx=>x.1) (Option.some.inj h1);subst e;exact ⟨rfl,zZH h⟩
theorem U9{size len:Int}{i:Nat}{s:cS}(h:po size len i s=true):1<=s.fS/\s.fS<=562949953421311/\s.fW=cF (ce s.fS).1:=by
 unfold po at h;simp only [sk,beq_iff_eq] at h;refine ⟨(vE (b:=(ce s.fS).1) (by rw [<- h.1.1])).1,?_,h.2.symm⟩;rcases Int.lt_or_le 562949953421311 s.fS with hb | hb
 ·have:=Hc hb;rw [this] at h
  cases h.1.1
 ·exact hb
theorem Pt{size len:Int}:∀ (l k:List cS) (i:Nat) (s t:List Int),l.length=k.length->iW size len l i=true->iW size len k i=true->M.flat l++s=M.flat k++t->l=k
 | [],[],_,_,_,_,_,_,_=>rfl
 | [],_ :: _,_,_,_,h,_,_,_=>by cases h
 | _ :: _,[],_,_,_,h,_,_,_=>by cases h
 | x :: l,y :: k,i,s,t,hl,h1,h2,h=>by
  unfold iW at h1 h2;simp only [sk] at h1 h2;obtain ⟨a1,a2,a3⟩:=U9 h1.1;obtain ⟨b1,b2,b3⟩:=U9 h2.1;simp only [M.flat,List.flatMap_cons,zQZ] at h;obtain ⟨e1,e2⟩:=Su a1 a2 b1 b2 h;have e3:x=y:=by
   obtain ⟨xw,xs⟩:=x;obtain ⟨yw,ys⟩:=y;simp only at e1 a3 b3;subst e1;rw [a3,b3]
  rw [e3,Pt l k (i+1) s t (by simpa using hl) h1.2 h2.2 e2]
theorem BD{m:al}(h:dd m=true)(h0:m.aM≠0):(1<=m.aM/\m.aM<=1000000)/\(2<=m.aw/\m.aw<=6)/\(0<=m.aW/\m.aW<=240)/\(m.aO.length:Int)=bJ m.aw m.aW/\iW m.aw m.aW m.aO 0=true:=by
 unfold dd at h;rw [if_neg h0] at h;simp only [sk,beq_iff_eq] at h;have h1:=cd h.1.1.1;have h2:=qI h.1.1.2;exact ⟨h1,⟨h2.1,h2.2.1⟩,⟨h2.2.2.1,by omega⟩,h.1.2,h.2⟩
theorem Rm{m:fc}(h:gk m=true)(hk:m.br=1):dd m.ay=true/\m.ay.aM≠0/\∃ t,cL m=cB 9 1++(cB 9 m.ay.aM++(cB 9 m.ay.aw++(cB 9 m.ay.aW++(M.flat m.ay.aO++t)))):=by
 have h':=h;unfold gk at h';rw [if_pos hk] at h';simp only [sk,bne_iff_ne,ne_eq] at h';obtain ⟨⟨⟨_,g0⟩,mo⟩,_⟩:=h';obtain ⟨a,b,c,_,_⟩:=BD mo g0;refine ⟨mo,g0,?_⟩;have body:c7 m=cB 9 1++(cB 9 m.ay.aM++(cB 9 m.ay.aw++(cB 9 m.ay.aW++M.flat m.ay.aO))):=by
  unfold c7 pp;rw [if_pos hk,if_pos mo,hk,zO (by omega) (by omega),eB (by omega) (by omega),eB (by omega) (by omega),eB (by omega) (by omega),Fe];simp only [zQZ]
 have pre:∃ t,aZ (c7 m) (cF (c7 m))=c7 m++t:=by
  unfold aZ
  split
  ·exact ⟨_,rfl⟩
  ·exact ⟨[],(zWQ _).symm⟩
 obtain ⟨t,ht⟩:=pre;exact ⟨t,by unfold cL; rw [if_pos h,ht,body]; simp only [zQZ]⟩
theorem UR{m k:fc}(hm:gk m=true)(hk:gk k=true)(h1:m.br=1)(h:cL m=cL k):m.ay=k.ay:=by
 have k1:k.br=1:=(KZ hm hk h).symm.trans h1;obtain ⟨mo,mg,s,e1⟩:=Rm hm h1;obtain ⟨ko,kg,t,e2⟩:=Rm hk k1;obtain ⟨a1,a2,a3,a4,a5⟩:=BD mo mg;obtain ⟨b1,b2,b3,b4,b5⟩:=BD ko kg;rw [e1,e2] at h;obtain ⟨g1,hA⟩:=tj (by omega) (by omega) (by omega) (by omega) (zZH h);obtain ⟨g2,hB⟩:=tj (by omega) (by omega) (by omega) (by omega) hA;obtain ⟨g3,hC⟩:=tj (by omega) (by omega) (by omega) (by omega) hB
 clear h hA hB
 generalize m.ay=x at *;generalize k.ay=y at *;obtain ⟨xg,xs,xl,xm⟩:=x;obtain ⟨yg,ys,yl,ym⟩:=y;simp only at g1 g2 g3 a4 a5 b4 b5 hC;subst g1 g2 g3;rw [Pt xm ym 0 s t (by omega) a5 b5 hC]
theorem vV{w:Int}(h:cq w=true):0<=fK .i64 w 1048575/\fK .i64 w 1048575 < 1048576/\0<=nD .i64 w 20/\nD .i64 w 20 < 1048576/\w=fK .i64 w 1048575+nD .i64 w 20*1048576:=by
 have h0:0<=w/\w < 1099511627776:=by unfold cq au at h; simp at h; omega
 obtain ⟨_,_,e1,e2⟩:=EM (x:=w % 1048576) (y:=w / 1048576) (by omega) (by omega) (by omega) (by omega);rw [show w % 1048576+w / 1048576*1048576=w by omega] at e1 e2;rw [e1,e2];omega
theorem Va{m:fc}(h:gk m=true)(hk:m.br=2):cq m.cn=true/\cq m.ci=true/\(0<=m.aM/\m.aM<=1000000)/\∃ t,cL m=cB 9 2++(cB 9 m.aM++(cB 9 (fK .i64 m.cn 1048575)++(cB 9 (nD .i64 m.cn 20)++(cB 9 (fK .i64 m.ci 1048575)++(cB 9 (nD .i64 m.ci 20)++t))))):=by
 have h':=h;unfold gk at h';rw [if_neg (by omega),if_pos hk] at h';simp only [sk] at h';have hg:=cd h'.1.1.1.1.1;have sw:=h'.1.1.1.2;have sd:=h'.1.1.2;refine ⟨sw,sd,hg,?_⟩;have pw:=vV sw;have pd:=vV sd;have body:c7 m=cB 9 2++(cB 9 m.aM++(cB 9 (fK .i64 m.cn 1048575)++(cB 9 (nD .i64 m.cn 20)++(cB 9 (fK .i64 m.ci 1048575)++cB 9 (nD .i64 m.ci 20))))):=by
  unfold c7 qJ;rw [if_neg (by omega),if_pos hk,hk,zO (by omega) (by omega),eB (by omega) (by omega),eB (by omega) (by omega),eB (by omega) (by omega),eB (by omega) (by omega),eB (by omega) (by omega)];simp only [zQZ]
 have pre:∃ t,aZ (c7 m) (cF (c7 m))=c7 m++t:=by
  unfold aZ
  split
  ·exact ⟨_,rfl⟩
  ·exact ⟨[],(zWQ _).symm⟩
 obtain ⟨t,ht⟩:=pre;exact ⟨t,by unfold cL; rw [if_pos h,ht,body]; simp only [zQZ]⟩
theorem TS{m k:fc}(hm:gk m=true)(hk:gk k=true)(h1:m.br=2)(h:cL m=cL k):m.ci=k.ci:=by
 have k1:k.br=2:=(KZ hm hk h).symm.trans h1;obtain ⟨a1,a2,a3,s,e1⟩:=Va hm h1;obtain ⟨b1,b2,b3,t,e2⟩:=Va hk k1;have p1:=vV a1;have p2:=vV a2;have q1:=vV b1;have q2:=vV b2;rw [e1,e2] at h;have h:=zZH h;obtain ⟨_,h⟩:=tj (by omega) (by omega) (by omega) (by omega) h;obtain ⟨_,h⟩:=tj (by omega) (by omega) (by omega) (by omega) h;obtain ⟨_,h⟩:=tj (by omega) (by omega) (by omega) (by omega) h;obtain ⟨g1,h⟩:=tj (by omega) (by omega) (by omega) (by omega) h;obtain ⟨g2,_⟩:=tj (by omega) (by omega) (by omega) (by omega) h;omega
theorem TT{k:fc}(h:(cM (cL k)).2=true):(cM (cL k)).1.br=k.br/\((cM (cL k)).1.br=1->(cM (cL k)).1.ay=k.ay)/\((cM (cL k)).1.br=2->(cM (cL k)).1.ci=k.ci):=by
 obtain ⟨a,b⟩:=QI h;have hk:gk k=true:=by
  cases hq:gk k with
  | true=>rfl
  | false =>
   exfalso;obtain ⟨t,e,_,_⟩:=zY a;rw [e] at b;have:cL k=[]:=by unfold cL; rw [hq]; rfl
   rw [this] at b;have l1:=congrArg zYq b;have l2:=UQ (cM []).1.br;rw [zQV,zXZ] at l1;omega
 exact ⟨KZ a hk b,λe=>UR a hk e b,λe=>TS a hk e b⟩
def NG(m:al)(b:List Int):Prop:=(cM b).2=true->(cM b).1.br=1->(cM b).1.ay=m
theorem K2{m:al}(f t:Int)(k:fc)(h:k.br=1->k.ay=m):NG m (iZ f t k).fB:=λh2 h1=>by
 obtain ⟨e1,e2,_⟩:=TT (k:=k) h2;exact (e2 h1).trans (h (e1.symm.trans h1))
structure M.Sa (w:World):Prop where
 s:dn w.fC.aw w.bK.length=true
 off:∀ (j:Nat) (n:aC),w.fN[j]?=some n->n.fL=false->n.bc=0
 man:∀ (j:Nat) (n:aC),w.fN[j]?=some n->n.bc≠0->n.ay=M.man 1 w.bK w.fC.aw
 disk:∀ (j:Nat) (n:aC) (d:am) (o:aY),j≠0->w.fN[j]?=some n->w.fD[j]?=some d->w.bA[j]?=some o->M.DS w.bK o.fB w.fC.aw n.bc d
 msg:∀ p∈w.bn,NG (M.man 1 w.bK w.fC.aw) p.fB
structure M.Keeps (m:al) (d:am) (n x:aC):Prop where
 on:x.fL=n.fL
 c:(x.bc=n.bc/\x.ay=n.ay)\/(n.fL=true/\n.bc=0/\x.ay=m/\x.bc=if ((c6 d).1 == m.aM) && M.tells m (c6 d).2 then 5 else 1)
theorem rT{m:al}{d:am}{n x:aC}(h:x.fL=n.fL)(h1:x.bc=n.bc)(h2:x.ay=n.ay):M.Keeps m d n x:=⟨h,.inl ⟨h1,h2⟩⟩
theorem LR(n:aC)(me i:Int):(ff n me i).fN.fL=n.fL/\(ff n me i).fN.bc=n.bc/\(ff n me i).fN.ay=n.ay:=by
 unfold ff
 split <;> exact ⟨rfl,rfl,rfl⟩
theorem GV(n:aC)(me f:Int)(m:fc):(df n me f m).fN.fL=n.fL/\(df n me f m).fN.bc=n.bc/\(df n me f m).fN.ay=n.ay:=by
 unfold df
 split
 ·exact ⟨rfl,rfl,rfl⟩
 dsimp only
 split
 ·exact ⟨rfl,rfl,rfl⟩
 split
 ·split <;> exact ⟨rfl,rfl,rfl⟩
 ·exact ⟨rfl,rfl,rfl⟩
theorem K3(n:aC)(me:Int)(m:fc):(ft n me m).fN.fL=n.fL/\(ft n me m).fN.bc=n.bc/\(ft n me m).fN.ay=n.ay:=by
 unfold ft
 split
 ·exact ⟨rfl,rfl,rfl⟩
 split
 ·exact ⟨rfl,rfl,rfl⟩
 split
 ·obtain ⟨a,b,c⟩:=LR (zh n (mx n.ay n.bB m.fI m.fB).1) me m.fI;exact ⟨a,b,c⟩
 ·exact ⟨rfl,rfl,rfl⟩
theorem QJ{t:cX}{me:Int}{n:aC}{d:am}{p:ai}{m:al}(h:NG m p.fB):M.Keeps m d n (M.take t me n d p).fN:=by
 unfold M.take
 split
 ·exact rT rfl rfl rfl
 rename_i hon
 split
 ·rename_i hc;simp only [sk] at hc
  split
  ·obtain ⟨a,b,c⟩:=GV n me p.dt (cM p.fB).1;exact rT a b c
  split
  ·unfold iw
   split
   ·rename_i hk;have hm:=h hc.1.1 hk;unfold m7
    split
    ·rename_i hp
     split
     ·rw [hm];exact ⟨rfl,.inr ⟨by simpa using hon,hp,rfl,rfl⟩⟩
     ·exact rT rfl rfl rfl
    split <;> exact rT rfl rfl rfl
   split
   ·obtain ⟨a,b,c⟩:=K3 (BA n) me (cM p.fB).1;exact rT a b c
   exact rT rfl rfl rfl
  ·exact rT rfl rfl rfl
 ·exact rT rfl rfl rfl
def tk(m:al)(out:List ai):Prop:=∀ p∈out,NG m p.fB
theorem tZ(m:al):tk m []:=λp hp=>by simp at hp
theorem K4{m:al}{f t:Int}{k:fc}(h:k.br=1->k.ay=m):tk m [iZ f t k]:=λp hp=>by
 simp only [zQH] at hp;subst hp;exact K2 f t k h
theorem K5(m:al)(n:aC)(f t:Int):tk m (fq n f t).kj:=λp hp=>by
 obtain ⟨i,_,rfl⟩:=List.mem_map.1 hp;exact K2 _ _ _ (λe=>by exact absurd e (by show (3:Int)≠1; decide))
theorem Pv(m:al)(n:aC)(me i:Int):∀ (l:List bS) (s:List bS×List ai),tk m s.2->tk m (l.foldl (eC n me i) s).2
 | [],s,h=>h
 | x :: l,s,h=>by
  rw [zYK];refine Pv m n me i l _ ?_;unfold eC
  split
  ·intro p hp;rcases List.mem_append.1 hp with hp | hp
   ·exact h p hp
   ·simp only [zQH] at hp;subst hp;exact K2 _ _ _ (λe=>by exact absurd e (by show (3:Int)≠1; decide))
  ·exact h
theorem NH(m:al)(n:aC)(me i:Int):tk m (ff n me i).kj:=by
 unfold ff
 split
 ·exact Pv m n me i _ _ (tZ m)
 ·exact tZ m
theorem IE{m:al}{n:aC}(h:n.bc≠0->n.ay=m)(me f:Int)(k:fc):tk m (df n me f k).kj:=by
 unfold df
 split
 ·exact tZ m
 dsimp only
 split
 ·exact K4 λe=>by exact absurd e (by show (4:Int)≠1; decide)
 rename_i hp
 split
 ·split
  ·exact K4 λe=>by exact absurd e (by show (4:Int)≠1; decide)
  ·exact K5 m _ _ _
 ·exact K4 λ_=>h hp
theorem LS(m:al)(n:aC)(me:Int)(k:fc):tk m (ft n me k).kj:=by
 unfold ft
 split
 ·exact tZ m
 split
 ·exact tZ m
 split
 ·exact NH m _ _ _
 ·exact tZ m
theorem Sv{m:al}{t:cX}{me:Int}{n:aC}(h:n.bc≠0->n.ay=m)(d:am)(p:ai):tk m (M.take t me n d p).kj:=by
 unfold M.take
 split
 ·exact tZ m
 split
 ·split
  ·exact IE h _ _ _
  split
  ·unfold iw
   split
   ·exact tZ m
   split
   ·exact LS m _ _ _
   exact tZ m
  ·exact tZ m
 ·exact tZ m
theorem Sw(m:al)(t:cX)(c:ig)(k:Int)(n:aC)(d:am):tk m (M.tick t c k n d).kj:=by
 unfold M.tick tY;have w:∀ g w d,(zj g w d).br=1->(zj g w d).ay=m:=λg w d e=>by exact absurd e (by show (2:Int)≠1; decide)
 split
 ·exact tZ m
 split
 ·exact tZ m
 split
 ·exact K4 (w _ _ _)
 ·exact K4 (w _ _ _)
theorem Pw:∀ (out:List ai) (s:List ai×List cH×Int),∀ p∈(out.foldl cW s).1,p∈s.1\/p∈out
 | [],s,p,h=>.inl h
 | x :: out,s,p,h=>by
  rw [zYK] at h;rcases Pw out _ p h with h | h
  ·unfold cW at h
   split at h
   ·exact .inl h
   ·rcases List.mem_append.1 h with h | h
    ·exact .inl h
    ·exact .inr (by simp only [zQH] at h; simp [h])
  ·exact .inr (by simp [h])
theorem Rn{w:World}(h:M.Sa w){out:List ai}(ho:tk (M.man 1 w.bK w.fC.aw) out):M.Sa (GR w out) :=
 ⟨h.s,h.off,h.man,h.disk,λp hp=>by
  rcases Pw out _ p hp with hp | hp
  ·exact h.msg p hp
  ·exact ho p hp⟩
theorem NI{w:World}(h:M.Sa w){k:Nat}{x:aC}{e:am}{D:List am}(hD:∀ (j:Nat) (d:am),D[j]?=some d->(j=k/\d=e)\/(j≠k/\w.fD[j]?=some d))(h1:x.fL=false->x.bc=0)(h2:x.bc≠0->x.ay=M.man 1 w.bK w.fC.aw)(h3:∀ o,k≠0->w.bA[k]?=some o->M.DS w.bK o.fB w.fC.aw x.bc e):M.Sa ⟨w.fC,w.fT,w.bK,w.bA,w.fN.set k x,D,w.bn,w.cN,w.bl⟩:=by
 refine ⟨h.s,E5 h.off h1,E5 h.man h2,λj n d o h0 hn hd ho=>?_,h.msg⟩;rcases hD j d hd with ⟨e1,e2⟩ | ⟨e1,e2⟩
 ·subst e1 e2;have hn:(w.fN.set j x)[j]?=some n:=hn;rw [List.getElem?_set_self (by have:=(List.getElem?_eq_some_iff.1 hn).1; simpa using this)] at hn
  cases hn
  exact h3 o h0 ho
 ·have hn:(w.fN.set k x)[j]?=some n:=hn;rw [List.getElem?_set_ne (by omega)] at hn;exact h.disk j n d o h0 hn e2 ho
theorem Vb{D:List am}{k:Nat}{e:am}:∀ (j:Nat) (d:am),(D.set k e)[j]?=some d->(j=k/\d=e)\/(j≠k/\D[j]?=some d):=λj d hd=>by
 by_cases hj:j=k
 ·subst hj;rw [List.getElem?_set_self (by have:=(List.getElem?_eq_some_iff.1 hd).1; simpa using this)] at hd
  cases hd
  exact .inl ⟨rfl,rfl⟩
 ·rw [List.getElem?_set_ne (by omega)] at hd;exact .inr ⟨hj,hd⟩
theorem TU{D:List am}{k:Nat}{e:am}(h:D[k]?=some e):∀ (j:Nat) (d:am),D[j]?=some d->(j=k/\d=e)\/(j≠k/\D[j]?=some d):=λj d hd=>by
 by_cases hj:j=k
 ·subst hj;rw [h] at hd
  cases hd
  exact .inl ⟨rfl,rfl⟩
 ·exact .inr ⟨hj,hd⟩
theorem US{new old:List Int}{size:Int}(ho:old.length<=240)(hn:new.length<=16)(hs:dn size new.length=true){d:am}(h:M.DS new old size 0 d):M.DS new old size (if ((c6 d).1 == (M.man 1 new size).aM) && M.tells (M.man 1 new size) (c6 d).2 then 5 else 1) d:=by
 cases h with
 | idle k p =>
  have:=(KV ho k (by rw [p]; simp) (by rw [p]; simp)).2;rw [this];exact .gather k p
 | idleN k =>
  have:=(KY (by omega) k).2;have ht:=Hx (g:=1) hs (by decide);rw [GU hs (by decide)] at ht;rw [this,ht];exact .done k
theorem UT{w w':World}(h:M.Sa w)(hw:M.DrW w){e:cu}(he:e.br=7->Dn w e.fP.fB)(hs:M.Step w e w'):M.Sa w':=by
 have hnew:=hw.new.1;have hold:∀ {j:Nat} {o:aY},w.bA[j]?=some o->o.fB.length<=240:=λh=>(hw.old _ (zQY h)).1
 cases hs with
 | no=>exact h
 | tick j hj =>
  unfold rQ
  split
  ·rename_i n d hn hd;refine Rn (w:=rP w j _ _) ?_ (Sw _ _ _ _ _ _);have hk:(M.tick w.fT w.fC j n d).fN.fL=n.fL/\(M.tick w.fT w.fC j n d).fN.ay=n.ay/\(((M.tick w.fT w.fC j n d).fN.bc=n.bc/\(M.tick w.fT w.fC j n d).fD=d)\/(n.fL=true/\(M.tick w.fT w.fC j n d).fN.bc=(eg d n.ay n.bB n.bc).2/\(M.tick w.fT w.fC j n d).fD=(eg d n.ay n.bB n.bc).1)):=by
    unfold M.tick
    split
    ·exact ⟨rfl,rfl,.inl ⟨rfl,rfl⟩⟩
    rename_i hon
    split
    ·exact ⟨rfl,rfl,.inl ⟨rfl,rfl⟩⟩
    split <;> exact ⟨rfl,rfl,.inr ⟨by simpa using hon,rfl,rfl⟩⟩
   obtain ⟨k1,k2,k3⟩:=hk;have ph0:n.bc=0->(eg d n.ay n.bB n.bc).2=0:=λe=>by rw [e]; rfl
   refine NI h Vb (λho=>?_) (λhp=>?_) (λo h0 ho=>?_)
   ·rw [k1] at ho;rcases k3 with ⟨a,_⟩ | ⟨a,_⟩
    ·rw [a]; exact h.off j n hn ho
    ·rw [ho] at a; cases a
   ·rw [k2];refine h.man j n hn λe=>hp ?_;rcases k3 with ⟨a,_⟩ | ⟨_,a,_⟩
    ·rw [a]; exact e
    ·rw [a]; exact ph0 e
   ·have hds:=h.disk j n d o h0 hn hd ho;rcases k3 with ⟨a,b⟩ | ⟨_,a,b⟩
    ·rw [a,b]; exact hds
    ·rw [a,b];refine UP (hold ho) hnew h.s hds (λhp=>h.man j n hn hp) (λhp hwh=>?_);rw [h.man j n hn (by omega)] at hwh;exact Ss hw.new.2 h.s (hw.wf.nodes j n hn).w.b hwh
  ·exact h
 | take j hj =>
  unfold rS
  split
  ·rename_i p hp;have hpn:=zQY hp;have hpull:M.Sa (zT w j):=⟨h.s,h.off,h.man,h.disk,λq hq=>by
    rcases List.mem_append.1 hq with hq | hq
    ·exact h.msg q (zWX hq)
    ·exact h.msg q (zWg hq)⟩
   unfold E6
   split
   ·rename_i n d hn hd;refine Rn (w:=GT (zT w j) _ _) ?_ (Sv (λe=>h.man _ n hn e) _ _);obtain ⟨k1,k2⟩:=QJ (t:=(zT w j).fT) (me:=p.tl) (n:=n) (d:=d) (h.msg p hpn);refine NI hpull (TU hd) (λho=>?_) (λhph=>?_) (λo h0 ho=>?_)
    ·rw [k1] at ho;rcases k2 with ⟨a,_⟩ | ⟨a,_⟩
     ·rw [a]; exact h.off _ n hn ho
     ·rw [ho] at a; cases a
    ·rcases k2 with ⟨a,b⟩ | ⟨_,_,b,_⟩
     ·rw [b]; exact h.man _ n hn (by rw [<- a]; exact hph)
     ·exact b
    ·have hds:=h.disk _ n d o h0 hn hd ho;rcases k2 with ⟨a,_⟩ | ⟨_,a,_,b⟩
     ·rw [a]; exact hds
     ·rw [b];rw [a] at hds;exact US (hold ho) hnew h.s hds
   ·exact hpull
  ·exact h
 | lose l hs hl=>exact ⟨h.s,h.off,h.man,h.disk,λp hp=>h.msg p (hs p hp)⟩
 | push p hl hi hf =>
  refine ⟨h.s,h.off,h.man,h.disk,λq hq=>?_⟩;rcases List.mem_append.1 hq with hq | hq
  ·exact h.msg q hq
  ·simp only [zQH] at hq;subst hq;rcases hf with ⟨z,hz,e1⟩ | ⟨e7,e1⟩
   ·rw [<- e1]; exact h.msg z hz
   ·rw [e1];intro h2 h1;rcases he e7 with a | a | a | ⟨z,hz,a⟩
    ·rw [a] at h2; cases h2
    ·omega
    ·omega
    ·rw [<- a] at h1 h2 ⊢;exact h.msg z hz h2 h1
 | fall j d hj h0 hd s =>
  refine NI h Vb (λ_=>rfl) (λhp=>absurd rfl hp) (λo _ ho=>?_);obtain ⟨n,hn⟩:∃ n,w.fN[j]?=some n:=⟨_,sX (by rw [hw.wf.nl]; exact hj)⟩;exact Rl (hold ho) hnew h.s (h.disk j n d o h0 hn hd ho) s
 | rise j n hj h0 hn ho =>
  have hph:(jV w.fT j).bc=0:=by unfold jV; split <;> rfl
  obtain ⟨d,hd⟩:∃ d,w.fD[j]?=some d:=⟨_,sX (by rw [hw.wf.dl]; exact hj)⟩;refine NI h (TU hd) (λ_=>hph) (λhp=>absurd hph hp) (λo _ hoo=>?_);rw [hph];have:=h.disk j n d o (by omega) hn hd hoo;rw [h.off j n hn ho] at this;exact this
theorem VF{w:World}(h:M.NewW w):M.Sa w:=by
 have hm:gj 1 w.bK w.fC.aw=M.man 1 w.bK w.fC.aw:=GU h.s (by decide);have rp:∀ k:Int,(jV w.fT k).bc=0:=λk=>by unfold jV; split <;> rfl
 refine ⟨h.s,λj n hn ho=>?_,λj n hn hp=>?_,λj n d o h0 hn hd ho=>?_,λp hp=>by rw [h.net] at hp; simp at hp⟩
 ·cases j with
  | zero=>rw [h.root n hn] at ho; cases ho
  | succ j=>rw [h.node _ n (by omega) hn]; exact rp _
 ·cases j with
  | zero=>rw [h.root n hn]; exact hm
  | succ j=>rw [h.node _ n (by omega) hn] at hp; exact absurd (rp _) hp
 ·rw [h.node j n h0 hn,rp,h.disk j d o hd ho];exact .idle ⟨rfl,rfl,by simp⟩ rfl
def V4(n:Nat)(w:World):Prop:=M.DrN n w/\M.Sa w
theorem VG:M.Inv V4:=⟨λ_ _ h=>h.1,λw h=>⟨Rk h.d h.net h.lost,VF h⟩,λn w e w' hn h hb hs=>⟨Po hn h.1 hb.1.2 hs,UT h.2 h.1.d hb.2 hs⟩⟩
theorem NJ{w:World}(h:M.AnyW w):M.DsOk w:=⟨h.cp.dl,h.cp.ol,h.cp.d⟩
theorem NK{I:Nat->World->Prop}(hI:M.Inv I){u:Nat}(hu:1099511627776<=u){code:List Int}(h:code.length<=1048576):Ev (o4 u code) λv=>∃ n,n<=400/\I n v:=by
 have hs:∃ s,uk u code 120=some s:=by
  unfold uk
  cases decide (bd .i64 3 (Oi .i64 (code.length:Int) 12) > 120) <;> exact ⟨_,rfl⟩
 obtain ⟨s,hs⟩:=hs;unfold o4;exact bF (TH hu h) λc hc=>g9 hs (bF (Fc hI hu hc _) λq hq=>cD hq.1)
theorem K6{u:Nat}(hu:1099511627776<=u){w:World}(hw:M.DsOk w):w8 u w=some ((zWY 1 (min w.bA.length w.fD.length - 1)).all (nZ w))/\uD u w=some ((zWY 1 (min w.bA.length w.fD.length - 1)).all (nZ w)):=by
 have h1:=hw.d;have h2:=hw.old;exact ⟨LC hu hw (min w.bA.length w.fD.length - 1) 1 u (by omega) (by omega),LB hu hw (min w.bA.length w.fD.length - 1) 1 u (by omega) (by omega)⟩
theorem Px{w:World}(ha:M.Sa w)(hw:M.DrW w){j:Nat}(h0:j≠0)(hj:j < w.fT.ca.length):(lP w j=0\/lP w j=1)/\nZ w j=true:=by
 have nl:=hw.wf.nl;have dl:=hw.wf.dl;have ol:=hw.ol;have hn:=sX (l:=w.fN) (i:=j) (by omega);have hd:=sX (l:=w.fD) (i:=j) (by omega);have ho:=sX (l:=w.bA) (i:=j) (by omega);have hnew:=hw.new.1;have hold:=(hw.old _ (zQY ho)).1;have hds:=ha.disk j _ _ _ h0 hn hd ho;obtain ⟨hok,hr⟩:=I2 hold hnew ha.s hds;constructor
 ·unfold lP;have e1:au (j:Int) 0 ((w.fD.length:Int) - 1)=true:=by unfold au; simp; omega
  have e2:au (j:Int) 0 ((w.bA.length:Int) - 1)=true:=by unfold au; simp; omega
  rw [e1,e2,rg,hd,ho];simp only [zXV,if_true];rcases hr with ⟨_,hr,_⟩ | ⟨_,hr,_⟩
  ·rw [Fa hr,if_pos rfl]; exact .inl rfl
  ·rw [Fa (g:=1) hr]
   split
   ·exact .inl rfl
   ·exact .inr rfl
 ·have e:nZ w j=lr w.fD[j] w.bA[j].fB 1 w.bK:=by unfold nZ; rw [hd,ho]
  rw [e];unfold lr mw;have any:∀ {ph:Int} {d:am},M.DS w.bK w.bA[j].fB w.fC.aw ph d->f6 d w.bA[j].fB 1 w.bK=true:=λh=>by
   rcases (I2 hold hnew ha.s h).2 with ⟨_,hr,_⟩ | ⟨_,hr,_⟩
   ·exact Qy hr
   ·exact Qz hr
  rw [any hds,zWk,zYx];intro x hx;obtain ⟨k,_,rfl⟩:=List.mem_map.1 hx;exact any (Rl hold hnew ha.s hds k)
theorem QK{w:World}(hn:w.fN.length<=1048576){i:Nat}{y:Int}(h:(m5 w)[i]?=some y):y=lP w ((i+1:Nat):Int)/\i+1 < w.fN.length:=by
 unfold m5 at h;rw [zQX] at h;obtain ⟨k,hk,e⟩:=Option.map_eq_some_iff.1 h;have hlt:=(List.getElem?_eq_some_iff.1 hk).1;rw [List.length_range'] at hlt;rw [List.getElem?_range' hlt] at hk;simp only [Option.some.injEq] at hk;have hk:k=i+1:=by omega
 subst hk;exact ⟨e.symm,by omega⟩
theorem Py{u:Nat}(hu:1099511627776<=u)(code:List Int):pS u code=some true:=by
 unfold pS Ds;simp only [wk]
 cases hbig:decide ((code.length:Int) > 1048576) with
 | true=>rfl
 | false =>
  have hl:code.length<=1048576:=by simp at hbig; omega
  simp only [cond_false];obtain ⟨w,e2,n,hn,hdn,hsa⟩:=NK VG hu hl;obtain ⟨v,e3,hv⟩:Ev (nS u code) λv=>M.AnyW v:=by
   unfold nS;exact bF (KX hu hl 100) λr h=>cD h.1
  obtain ⟨⟨x,k⟩,e4,hx⟩:Ev (mV u code) λv=>M.AnyW v.1:=by
   unfold mV;exact bF (KX hu hl 120) λr h=>bF (dg u h.2 _) λq hq=>cD h.1
  have hx:M.AnyW x:=hx;have hw:=hdn.d;have up:=BB hw.wf;have nl:=hw.wf.nl;have dl:=hw.wf.dl;have ol:=hw.ol;have wd:M.DsOk w:=⟨by omega,by omega,λd hd=>by obtain ⟨j,hj⟩:=List.mem_iff_getElem?.1 hd; exact (hw.wf.disks j d hj).o⟩;have wst:M.StOk w:=⟨wd,by omega⟩;have xst:M.StOk x:=⟨NJ hx,by have:=hx.nl; omega⟩;obtain ⟨s1,s2⟩:=K6 hu (NJ hv);obtain ⟨_,s3⟩:=K6 hu wd;have xl:=Lz x;have xn:=hx.nl;have safe:((zWY 1 (min w.bA.length w.fD.length - 1)).all (nZ w))=true:=by
   rw [zYx];intro j hj;have:=List.mem_range'_1.1 hj;exact (Px hsa hw (j:=j) (by omega) (by omega)).2
  have len:((m5 w).length:Int)=(w.fN.length:Int) - 1:=by
   unfold m5;rw [zXQ,List.length_range'];omega
  simp only [e2,e3,e4,wk,Bl hu wst,s1,s2,beq_self_eq_true,zQK,cond_false,u4 hu (NJ hx),Ax hu (NJ hx),bne_self_eq_false,Bl hu xst,Kj hu xst,Do hu (show (m5 x).length<=1048576 by omega),s3,safe];rw [dD (by omega) (by omega),len,bne_self_eq_false];unfold jS;simp only [cond_false];rw [DM u _ w () u (by omega) (by omega),Mm (λy i k hy=>by
   have hy:(m5 w)[i]?=some y:=hy;obtain ⟨ey,hlt⟩:=QK (by omega) hy;have hst:=(Px hsa hw (j:=i+1) (by omega) (by omega)).1;unfold w9;rw [dc,hy,dB (show i < 9223372036854775807 by omega),u4 hu wd];simp only [wk,<- ey,bne_self_eq_false,iD,cond_false];rw [<- ey] at hst;rcases hst with rfl | rfl <;> rfl) (m5 w) 0 rfl]
  rfl
theorem Pz(p0:List Int)(h:Jw (jw .u8) p0/\True):pS 1099511627776 p0=some true:=Py (zWy _) p0
end Go.Tm.Pu
