/- Plain laws of the functions. -/
import Derived.Test.YtdcoelkflgpfgaaGreatCFnSoundsP1
set_option linter.unusedVariables false
set_option linter.unusedSimpArgs false
open Bool renaming and_eq_true->sk,and_self->zXz,false_eq_true->zWW,not_true->zQJ,true_and->zWk
open Int renaming add_mul->zZz,toNat->sY,toNat_natCast->rg
open List renaming all_eq_true->zYh,append_assoc->zQZ,append_cancel_left->zZG,append_nil->zWY,drop_drop->zZJ,drop_eq_getElem_cons->zXv,drop_of_length_le->zXk,eq_nil_of_length_eq_zero->r0,filter_cons->zZj,foldl_cons->zXh,getElem?_append_left->zQW,getElem?_append_right->zQX,getElem?_cons_zero->zWQ,getElem?_eq_getElem->sX,getElem?_map->zQY,getElem?_range->zYk,getElem?_set->zYW,getElem?_set_ne->zXX,getElem?_set_self->zWy,head?->zYz,head?_drop->zXw,length->zYH,length_append->zQK,length_cons->zQH,length_drop->zYK,length_filter_le->zZW,length_map->zYZ,length_nil->zXK,length_set->zXG,length_singleton->zYG,length_take->zQz,map_cons->zWv,map_map->zZw,mem_append->zWH,mem_cons->zYY,mem_map->zYJ,mem_of_getElem?->zQQ,mem_of_mem_drop->zWq,mem_of_mem_take->zQg,mem_or_eq_of_mem_set->zWg,mem_singleton->zQV,nil_append->zQy,not_mem_nil->zZh,range->zXQ,range'->zWh,range'_succ->zYw,range_eq_range'->zXJ,replicate->zQh,tail->zZX,tail_drop->zXg,take_append_drop->zXH,take_of_length_le->zXj
open Nat renaming add_zero->zYQ,le_refl->zWj,le_trans->zWx,min_eq_left->zXq,pow_le_pow_right->zWz,succ_mul->zYx,zero_add->zWZ
open Option renaming bind_some->wk,getD_some->zYq
namespace Go.Tm.Pu
open Go.Tm
theorem ME{u:Nat}(hu:1099511627776<=u){t:cS}(ht:t.b9.length<=1048576)(me:Int){n:aA}(hn:M.NodWf n)(hk:n.bd.length<=1048576){d:ar}(hd:M.DOk d)(hb:M.DB d){p:ah}(hp:ay p.fB)(hl:p.fB.length<=1048576):xA u t me n d p=some (M.take t me n d p):=by
 have w:=LP hp;have eb:eH .i64 ((t.b9.length:Int)) 1=(t.b9.length:Int) - 1:=dP (by omega) (by omega);unfold xA M.take rL;simp only [fF u hn,uy u hn,vV hu hp hl,bH,eb,CH hu hn hk,FZ hu hn me hd hb w,wk]
 by_cases h1:(bR p.fB).1.bl=2
 ·simp only [h1,beq_self_eq_true,cond_true,if_true];rw [show (p.dn != me)=!(p.dn == me) from rfl]
  cases n.fq <;> cases (bR p.fB).2 <;> cases au p.dn 0 ((t.b9.length:Int) - 1) <;> cases (p.dn == me) <;> rfl
 ·have e1:((bR p.fB).1.bl == 2)=false:=by simpa using h1
  simp only [e1,h1,cond_false,if_false];rw [show (p.dn != me)=!(p.dn == me) from rfl]
  by_cases h2:p.dn=n.bP
  ·have e2:(p.dn == n.bP)=true:=by simpa using h2
   simp only [e2,cond_true,if_pos h2]
   cases n.fq <;> cases (bR p.fB).2 <;> cases au p.dn 0 ((t.b9.length:Int) - 1) <;> cases (p.dn == me) <;> rfl
  ·have e2:(p.dn == n.bP)=false:=by simpa using h2
   simp only [e2,cond_false,if_neg h2]
   cases n.fq <;> cases (bR p.fB).2 <;> cases au p.dn 0 ((t.b9.length:Int) - 1) <;> cases (p.dn == me) <;> rfl
def yj:List Int->Int->Int->Int
 | [],_,a=>a
 | y :: ys,n,a=>if n < 1 then a else yj ys (eH .i64 n 1) (u3 .i64 a (lI .i64 1 y))
def F1(s n:Int):Int:=yj (gS s) n 0
theorem JO(s:Int):gS s=((zWh 0 40).filter λ(i:Nat)=>cT s (i:Int)).map λ(i:Nat)=>(i:Int):=by
 unfold gS;rw [<- zXJ]
 cases h:bV s with
 | false=>simp [cT,h]
 | true =>
  simp only [if_true]
  congr 1
  apply List.filter_congr
  intro i hi;have hi:i < 40:=by simpa using hi
  have:eB (i:Int)=true:=by simp [eB,au]; omega
  simp [cT,h,this]
theorem Rj:∀ (l:List Int) (n a:Int),n < 1->yj l n a=a:=by
 intro l n a h
 cases l with
 | nil=>rfl
 | cons y ys=>simp only [yj,h,if_true]
theorem MF(u:Nat)(s:Int):∀ (m i f:Nat) (n a:Int),i+m=40->m < f ->
  fy u f s n a (i:Int)=some (yj (((zWh i m).filter λ(i:Nat)=>cT s (i:Int)).map λ(i:Nat)=>(i:Int)) n a):=by
 intro m
 induction m with
 | zero =>
  intro i f n a h hf;obtain ⟨f,rfl⟩:∃ f',f=f'+1:=⟨f - 1,by omega⟩;have e:decide ((i:Int) < 40)=false:=by simp; omega
  simp only [fy,e,cond_false,np,qu]; rfl
 | succ m ih =>
  intro i f n a h hf;obtain ⟨f,rfl⟩:∃ f',f=f'+1:=⟨f - 1,by omega⟩;have e:decide ((i:Int) < 40)=true:=by simp; omega
  have hi:ed (decide ((0:Int)<=(i:Int)))=some ():=bD (by omega);have hb:be .i64 (i:Int) 1=((i+1:Nat):Int):=sB (a:=i) (b:=1) (by omega);simp only [fy,e,cond_true,np,qv,qu,ke,wk,hi,hb]
  by_cases hn:n > 0
  ·have hn2:¬ n < 1:=by omega
   simp only [hn,decide_true,cond_true];rw [zYw,zZj]
   cases hs:cT s (i:Int) with
   | true =>
    simp only [cond_true,if_true,zWv,yj,hn2,if_false];exact ih (i+1) f _ _ (by omega) (by omega)
   | false =>
    simp only [cond_false,zWW,if_false];exact ih (i+1) f _ _ (by omega) (by omega)
  ·simp only [hn,decide_false,cond_false];rw [Rj _ _ _ (by omega)]
theorem HA{u:Nat}(hu:1099511627776<=u)(s n:Int):rE u s n=some (F1 s n):=by
 unfold rE F1;rw [JO];exact MF u s 40 0 u n 0 rfl (by omega)
def JP(n:aA):Int:=if n.aY=0 then 0 else yh n.aw n.bu
theorem JQ{u:Nat}(hu:1099511627776<=u){n:aA}(hn:M.NodWf n):tN u n=some (JP n):=by
 unfold tN JP;rw [zK u]
 by_cases h:n.aY=0
 ·simp [h]
 ·have e:(n.aY == 0)=false:=by simpa using h
  simp [h,e]
def Og(n:aA)(w:Int):Int:=F1 (JP n) w
theorem JR{u:Nat}(hu:1099511627776<=u){n:aA}(hn:M.NodWf n)(w:Int):tO u n w=some (Og n w):=by
 unfold tO;simp only [JQ hu hn,HA hu,wk]; rfl
def vZ(s i:Int):Int:=if bV s && eB i then u3 .i64 s (lI .i64 1 i) else s
theorem HB(u:Nat)(s i:Int):hH u s i=some (vZ s i):=by
 unfold hH md vZ;simp only [hP,bH,wk]
 cases bV s with
 | false=>rfl
 | true =>
  cases h:eB i with
  | false=>rw [show au i 0 39=false from h]; rfl
  | true =>
   have:=ce h;rw [show au i 0 39=true from h,bD (by omega)]; rfl
def yk(n:aA)(k:Int):Int:=if n.aY=5 then vZ (qK n.bd 0) k else qK n.bd 0
theorem HC{u:Nat}(hu:1099511627776<=u){n:aA}(hk:n.bd.length<=1048576)(k:Int):rF u n k=some (yk n k):=by
 unfold rF qw yk;simp only [AH hu hk,HB,wk]
 by_cases h:n.aY=5
 ·simp [h]
 ·have e:(n.aY == 5)=false:=by simpa using h
  simp [h,e]
def yn(g w d:Int):fe:=⟨2,g,Hw,w,d,0,[]⟩
theorem CI(g w d:Int):M.MsgWf (yn g w d):=D7 _ _ _ _ _ jw (by simp)
def m8(c:hZ)(n:aA)(d:ar)(b q:Int):aA:=⟨n.fq,b,q,n.aw,n.bu,(du d n.aw n.bu n.aY).2,jp n.bd c.aN,n.bx⟩
def im(c:hZ)(k:Int)(n:aA)(d:ar)(b q:Int):EH :=
 ⟨m8 c n d b q,(du d n.aw n.bu n.aY).1,[eK k b (yn n.aw.aP (Og (m8 c n d b q) c.aQ) (yk (m8 c n d b q) k))]⟩
def M.tick(t:cS)(c:hZ)(k:Int)(n:aA)(d:ar):EH :=
 if !n.fq then ⟨n,d,[]⟩
 else if k=0 then ⟨jI n (jp n.bd c.aN),d,[]⟩
 else if c.aE<=n.bC then im c k n d (vX t k n.bP) 0
 else im c k n d n.bP (be .i64 n.bC 1)
theorem CJ(l:List bM)(f:Int):(jp l f).length<=l.length:=by
 unfold jp;rw [zYZ];exact zZW _ _
theorem GB{n:aA}(hn:M.NodWf n)(c:hZ)(d:ar)(b q:Int):M.NodWf (m8 c n d b q):=⟨hn.s,hn.b,zWx (CJ _ _) hn.k,hn.w⟩
theorem HD{u:Nat}(hu:1099511627776<=u){c:hZ}{k:Int}{n:aA}(hn:M.NodWf n)(hk:n.bd.length<=1048576){d:ar}(hd:M.DOk d)(hl:d.fP.length<=1048575)(b q:Int):rG u k c d n b q (jp n.bd c.aN) d=some (im c k n d b q):=by
 unfold rG im;have ha:=CJ n.bd c.aN;rw [CF hu hd hl hn.s hn.b,wk];rw [show (aA.mk n.fq b q n.aw n.bu (du d n.aw n.bu n.aY).2 (jp n.bd c.aN) n.bx)=m8 c n d b q from rfl];rw [JR hu (GB hn c d b q),wk,HC hu (show (m8 c n d b q).bd.length<=1048576 from zWx ha hk),wk];unfold ry;rw [wk,show (∀ w x,fe.mk 2 n.aw.aP (ai.mk 0 0 0 []) w x 0 []=yn n.aw.aP w x) from λ_ _=>rfl,kw hu _ _ (CI _ _ _),wk,MB];rfl
theorem MG{u:Nat}(hu:1099511627776<=u){t:cS}(ht:t.b9.length<=1048576)(c:hZ)(k:Int){n:aA}(hn:M.NodWf n)(hk:n.bd.length<=1048576){d:ar}(hd:M.DOk d)(hl:d.fP.length<=1048575):xy u t c k n d=some (M.tick t c k n d):=by
 unfold xy M.tick;simp only [fF u hn,gB hu hd,JH hu hk,FQ hu ht,wk,HD hu hn hk hd hl];rw [show (aA.mk n.fq n.bP n.bC n.aw n.bu n.aY (jp n.bd c.aN) n.bx)=jI n (jp n.bd c.aN) from rfl]
 cases n.fq with
 | false=>rfl
 | true =>
  by_cases h:k=0
  ·subst h; rfl
  ·have e:(k == 0)=false:=by simpa using h
   by_cases h2:c.aE<=n.bC
   ·have e2:decide (n.bC>=c.aE)=true:=by simpa using h2
    simp [h,e,e2,h2]
   ·have e2:decide (n.bC>=c.aE)=false:=by simp; omega
    simp [h,e,e2,h2]
theorem CK(m:fe):(cN m).length<=1000:=by
 unfold cN
 split
 ·rename_i hok;have k:=bQ [] m.bl;have g:=bQ (aZ [] m.bl) m.aP;have l:=bQ (cZ m) (cG (cZ m));simp only [zXK] at k
  suffices h:(cZ m).length<=600 by omega
  unfold cZ qk
  split
  ·have:=BT (aZ [] m.bl) m.aw; omega
  ·rename_i n1
   split
   ·have h1:=bQ (aZ (aZ [] m.bl) m.aP) (fG .i64 m.ck 1048575);have h2:=bQ (aZ (aZ (aZ [] m.bl) m.aP) (fG .i64 m.ck 1048575)) (m7 .i64 m.ck 20);have h3:=bQ (aZ (aZ (aZ (aZ [] m.bl) m.aP) (fG .i64 m.ck 1048575)) (m7 .i64 m.ck 20)) (fG .i64 m.bY 1048575);have h4:=bQ (aZ (aZ (aZ (aZ (aZ [] m.bl) m.aP) (fG .i64 m.ck 1048575)) (m7 .i64 m.ck 20)) (fG .i64 m.bY 1048575)) (m7 .i64 m.bY 20);omega
   ·rename_i n2
    split
    ·rename_i n3;have h1:=bQ (aZ (aZ [] m.bl) m.aP) m.fI;have h2:=bQ (aZ (aZ (aZ [] m.bl) m.aP) m.fI) m.fB.length;have h3:m.fB.length<=6:=by
      unfold gc at hok;simp only [n1,n2,n3] at hok;have h4:au m.fB.length 1 6=true:=by
       revert hok
       cases au (m.fB.length:Int) 1 6 <;> simp
      have:=ce h4;omega
     rw [zQK]; omega
    ·split <;> omega
 ·simp
def xi(p:ah):Prop:=ay p.fB/\p.fB.length<=1048576
theorem GC(f t:Int){m:fe}(hm:M.MsgWf m):xi (eK f t m):=⟨D8 hm,by have:=CK m; show (cN m).length<=_; omega⟩
def cW(s:List ah×List cE×Int)(p:ah):List ah×List cE×Int :=
 if 400<=s.1.length then (s.1,s.2.1,be .i64 s.2.2 1)
 else (s.1++[p],if (bR p.fB).2 && ((bR p.fB).1.bl == 3) && decide (s.2.1.length < 3000) then s.2.1++[⟨p.dn,p.qL,(bR p.fB).1.fI⟩] else s.2.1,s.2.2)
def uA(w:World)(out:List ah):World :=
 ⟨w.fC,w.fT,w.bN,w.bI,w.fN,w.fD,(out.foldl cW (w.bk,w.cL,w.bj)).1,(out.foldl cW (w.bk,w.cL,w.bj)).2.1,(out.foldl cW (w.bk,w.cL,w.bj)).2.2⟩
theorem Oh{u:Nat}(hu:1099511627776<=u)(w:World)(out:List ah)(ho:∀ p∈out,xi p)(hl:out.length<=1048576):∀ (l:List ah) (k j:Nat) (s:List ah×List cE×Int),l=out.drop j->l.length < k ->
  ch u k out (j:Int) w s.1 s.2.1 s.2.2=some ⟨w.fC,w.fT,w.bN,w.bI,w.fN,w.fD,(l.foldl cW s).1,(l.foldl cW s).2.1,(l.foldl cW s).2.2⟩:=by
 intro l
 induction l with
 | nil =>
  intro k j s h hf;obtain ⟨k,rfl⟩:∃ k',k=k'+1:=⟨k - 1,by simp at hf; omega⟩;have hj:out.length<=j:=by
   have:=congrArg zYH h; simp at this; omega
  have e:decide ((j:Int) < (out.length:Int))=false:=by simp; omega
  simp only [ch,e,cond_false];rfl
 | cons x l ih =>
  intro k j s h hf;obtain ⟨k,rfl⟩:∃ k',k=k'+1:=⟨k - 1,by simp at hf; omega⟩;have hx:out[j]?=some x:=by
   have:=congrArg zYz h
   simpa [zXw] using this.symm
  have hl2:l=out.drop (j+1):=by
   have:=congrArg zZX h
   simpa [zXg] using this
  have hj:=(List.getElem?_eq_some_iff.1 hx).1;have e:decide ((j:Int) < (out.length:Int))=true:=by simp; omega
  have hb:be .i64 (j:Int) 1=((j+1:Nat):Int):=sB (a:=j) (b:=1) (by omega);have px:=ho x (zQQ hx);have r:=ih k (j+1) (cW s x) hl2 (by simp at hf; omega);simp only [zXh,<- r];simp only [ch,e,cond_true,dg,hx,wk,Ed px.2,vV hu px.1 px.2,eP,fE,hb]
  by_cases h4:400<=s.1.length
  ·have e4:decide (((s.1.length:Int))>=400)=true:=by simp; omega
   simp only [e4,cond_true,cW,h4,if_true]
  ·have e4:decide (((s.1.length:Int))>=400)=false:=by simp; omega
   simp only [e4,cond_false,PF (show s.1.length<=1048576 by omega),wk,cW,h4,if_false,zQy]
   cases h5:(bR x.fB).2 with
   | false=>simp
   | true =>
    cases h6:((bR x.fB).1.bl == 3) with
    | false=>simp
    | true =>
     by_cases h7:s.2.1.length < 3000
     ·have e7:decide ((s.2.1.length:Int) < 3000)=true:=by simp; omega
      have e8:ed (decide ((s.2.1.length + [cE.mk x.dn x.qL (bR x.fB).1.fI].length)*24<=140737488355328))=some ():=bD (by simp; omega);simp only [e7,e8,h7,cond_true,wk,decide_true,zXz,if_true]
     ·have e7:decide ((s.2.1.length:Int) < 3000)=false:=by simp; omega
      simp [e7,h7]
theorem zM{u:Nat}(hu:1099511627776<=u)(w:World){out:List ah}(ho:∀ p∈out,xi p)(hl:out.length<=1048576):lC u w out=some (uA w out) :=
 Oh hu w out ho hl out u 0 (w.bk,w.cL,w.bj) rfl (by omega)
theorem LQ{b p:List Int}(hb:ay b)(hp:ay p)(a:Nat):ay (AI b a p):=by
 unfold AI;have hx:ay (b++zQh (a+p.length - b.length) 0):=wK hb (λx hx=>by have:=List.eq_of_mem_replicate hx; omega);exact (AT (by simp; omega) hx hp).1
theorem LR{d:ar}(hd:M.DB d){p:c8}(hp:ay p.fB):M.DB (gU d p):=⟨hd.a,hd.b,λx hx=>by
 simp only [gU,zWH,zQV] at hx;rcases hx with hx | rfl
 ·exact hd.p x hx
 ·exact hp⟩
theorem Oi{d:ar}(hd:M.DB d)(s a:Int){b:List Int}(hb:ay b):M.DB (iN d s a b).1:=by
 rcases Gw d s a b with ⟨h1,_⟩ | h1
 ·rw [h1]; exact LR hd hb
 ·rw [h1]; exact hd
theorem El{d0:ar}(h0:M.DB d0){b:List Int}(hb:ay b){size:Int}:∀ (n i:Nat) (d:ar),M.DB d->M.DB (jq d0 b size n i d).1
 | 0,i,d,hd=>hd
 | n+1,i,d,hd=>by
  unfold jq
  split
  ·exact El h0 hb n (i+1) _ (Oi hd _ _ (tA hb size i).1)
  ·exact h0
theorem LS{d:ar}(hd:M.DB d){p:c8}(hp:ay p.fB):M.DB (nw d p):=by
 unfold nw
 split
 ·exact ⟨hd.a,hd.b,hd.p⟩
 ·split
  ·exact ⟨LQ hd.a hp _,hd.b,hd.p⟩
  ·exact ⟨hd.a,LQ hd.b hp _,hd.p⟩
theorem Qn:∀ (l:List c8) (d:ar),(∀ p∈l,ay p.fB)->M.DB d->M.DB (vU l d)
 | [],d,_,hd=>⟨hd.a,hd.b,by simp [vU]⟩
 | p :: l,d,hp,hd=>Qn l _ (λq hq=>hp q (by simp [hq])) (LS hd (hp p (by simp)))
theorem Qo{d:ar}(hd:M.DB d):M.DB (M.sure d):=by
 unfold M.sure
 split
 ·exact Qn _ _ hd.p hd
 ·exact hd
theorem KU{d:ar}(hd:M.DB d){m:ai}{x:bF}(hx:M.BldWf x)(ph:Int):M.DB (du d m x ph).1:=by
 have hst:M.DB (kS d x.ca m.av).1:=by
  unfold kS
  split
  ·exact El hd hx.b _ _ _ hd
  ·exact hd
 have hr:M.DB (gf d ⟨m.aP,i7 d,m.aX⟩).1:=by
  unfold gf;rcases Mz d ⟨2,0,[],⟨m.aP,i7 d,m.aX⟩⟩ with ⟨h1,h2⟩ | h1
  ·rw [h1]; exact LR hd jw
  ·rw [h1]; exact hd
 unfold du
 split
 ·split
  ·exact hst
  ·exact hd
 ·split
  ·exact Qo hd
  ·split
   ·split
    ·exact hr
    ·exact hd
   ·split
    ·exact Qo hd
    ·exact hd
structure M.ActWf (n:aA) (out:List ah):Prop where
 n:M.NodWf n
 o:∀ p∈out,xi p
 l:out.length<=1048576
theorem F2{n:aA}(hn:M.NodWf n):M.ActWf n []:=⟨hn,λp hp=>by simp at hp,by simp⟩
theorem TU{n:aA}(hn:M.NodWf n)(f t:Int){m:fe}(hm:M.MsgWf m):M.ActWf n [eK f t m]:=⟨hn,λp hp=>by
 simp only [zQV] at hp;rw [hp]; exact GC f t hm,by simp⟩
theorem BZ{n:aA}(hn:M.NodWf n)(f t i:Int):xi (uW n f t i):=by
 have w:=CG n.aw hn.b i;exact GC f t (yX _ _ w.1 w.2)
theorem Bo{n:aA}(hn:M.NodWf n):M.NodWf (M.drop n):=⟨hn.s,hn.b,hn.k,hn.w⟩
theorem MH{n:aA}(hn:M.NodWf n)(f t:Int):M.ActWf (eV n f t).fN (eV n f t).iB:=by
 refine ⟨⟨hn.s,hn.b,?_,hn.w⟩,λp hp=>?_,zWx (KQ n f t) (by omega)⟩
 ·show (kR _ _ _).length<=_;rw [Eb]; exact hn.k
 ·unfold eV at hp;simp only [zYJ] at hp;obtain ⟨i,_,rfl⟩:=hp;exact BZ hn f t i
theorem KV{n:aA}(hn:M.NodWf n)(hk:n.bd.length<=1048576)(me f:Int)(m:fe):M.ActWf (cP n me f m).fN (cP n me f m).iB:=by
 have hl:=Ob n.bd f m.ck m.bY;have hw:M.NodWf (jI n (nV n.bd f m.ck m.bY)):=wR hn (by omega);have hs:=MH hw me f;unfold cP
 split
 ·exact F2 hn
 ·split
  ·exact TU hw _ _ (Bm 0)
  ·split
   ·dsimp only
    split
    ·exact TU hs.n _ _ (Bm _)
    ·exact hs
   ·exact TU hw _ _ (LO hn.s hn.w)
theorem TV{n:aA}(hn:M.NodWf n)(me i:Int):∀ (l:List bM) (s:List bM×List ah),(∀ p∈s.2,xi p)->∀ p∈(l.foldl (dC n me i) s).2,xi p:=by
 intro l
 induction l with
 | nil=>intro s h; exact h
 | cons x l ih =>
  intro s h;refine ih _ λp hp=>?_;unfold dC at hp
  split at hp
  ·simp only [zWH,zQV] at hp;rcases hp with hp | rfl
   ·exact h p hp
   ·exact BZ hn _ _ _
  ·exact h p hp
theorem PH{n:aA}(hn:M.NodWf n)(hk:n.bd.length<=1048576)(me i:Int):M.ActWf (d7 n me i).fN (d7 n me i).iB:=by
 have h:=TS n me i n.bd (n.bd,[]);unfold d7
 split
 ·refine ⟨wR hn ?_,TV hn me i _ _ (λp hp=>by simp at hp),?_⟩
  ·have:=h.1; unfold Ek; dsimp only at this ⊢; omega
  ·have:=h.2; unfold Ek; simp only [zXK] at this; dsimp only; omega
 ·exact F2 hn
theorem PI{n:aA}(hn:M.NodWf n){d:ar}(hb:M.DB d){m:ai}(hs:m.aO.length<=1048576)(hw:pB m):M.NodWf (mJ n d m):=by
 obtain ⟨rb,rl⟩:=BY hb;unfold mJ
 split
 ·split
  ·rename_i h;simp only [sk] at h;exact ⟨hs,(AU h.1 rb (by omega)).b,hn.k,hw⟩
  ·exact hn
 ·split
  ·exact hn
  ·exact Bo hn
theorem Oj{n:aA}(hn:M.NodWf n)(hk:n.bd.length<=1048576)(me:Int){m:fe}(hm:M.MsgWf m):M.ActWf (eL n me m).fN (eL n me m).iB:=by
 unfold eL
 split
 ·exact F2 (Bo hn)
 ·split
  ·exact F2 hn
  ·split
   ·exact PH (JN hn (GA hn.b m.fI hm.b)) hk me m.fI
   ·exact F2 (Bo hn)
theorem Ok{n:aA}(hn:M.NodWf n)(hk:n.bd.length<=1048576)(me:Int){d:ar}(hb:M.DB d){m:fe}(hm:M.MsgWf m):M.ActWf (fY n me d m).fN (fY n me d m).iB:=by
 unfold fY
 split
 ·exact F2 (PI (Bn hn) hb hm.sums hm.wf)
 ·split
  ·exact Oj (Bn hn) hk me hm
  ·split
   ·exact F2 (Bo (Bn hn))
   ·exact F2 (Bn hn)
theorem TW(t:cS)(me:Int){n:aA}(hn:M.NodWf n)(hk:n.bd.length<=1048576){d:ar}(hb:M.DB d){p:ah}(hp:ay p.fB):M.ActWf (M.take t me n d p).fN (M.take t me n d p).iB:=by
 have w:=LP hp;unfold M.take
 split
 ·exact F2 hn
 ·split
  ·split
   ·exact KV hn hk me _ _
   ·split
    ·exact Ok hn hk me hb w
    ·exact F2 (Bo hn)
  ·exact F2 (Bo hn)
structure M.BeatWf (b:EH):Prop where
 a:M.ActWf b.fN b.iB
 d:M.DOk b.fD
 l:b.fD.fP.length<=200
 b:M.DB b.fD
theorem GD(c:hZ)(k:Int){n:aA}(hn:M.NodWf n){d:ar}(hd:M.DOk d)(hl:d.fP.length<=200)(hb:M.DB d)(b q:Int):M.BeatWf (im c k n d b q):=by
 have h:=JM hd hl (m:=n.aw) hn.b n.aY;exact ⟨TU (GB hn c d b q) _ _ (CI _ _ _),h.1,h.2,KU hb hn.b _⟩
theorem TX(t:cS)(c:hZ)(k:Int){n:aA}(hn:M.NodWf n){d:ar}(hd:M.DOk d)(hl:d.fP.length<=200)(hb:M.DB d):M.BeatWf (M.tick t c k n d):=by
 unfold M.tick
 split
 ·exact ⟨F2 hn,hd,hl,hb⟩
 ·split
  ·exact ⟨F2 (wR hn (zWx (CJ _ _) hn.k)),hd,hl,hb⟩
  ·split
   ·exact GD c k hn hd hl hb _ _
   ·exact GD c k hn hd hl hb _ _
def dT(l:List bM):List Int:=l.map λx=>x.oa
structure M.IdsOk (s:List Int):Prop where
 r:∀ x∈s,0<=x/\x<=6
 p:s.Pairwise (· < ·)
def m9(l:List bM):Prop:=M.IdsOk (dT l)
theorem SK:∀ (s:List Int) (a:Int),a<=7->(∀ x∈s,a<=x/\x<=6)->s.Pairwise (· < ·)->(s.length:Int)<=7 - a
 | [],a,ha,_,_=>by simp; omega
 | x :: s,a,ha,h,p=>by
  rw [List.pairwise_cons] at p;have hx:=h x (by simp);have:=SK s (x+1) (by omega) (λy hy=>⟨by have:=p.1 y hy; omega,(h y (by simp [hy])).2⟩) p.2;simp only [zQH];omega
theorem Rk{l:List bM}(h:m9 l):l.length<=7:=by
 have:=SK (dT l) 0 (by omega) h.r h.p;simp only [dT,zYZ] at this;omega
theorem MI{l:List bM}{j:Nat}{x y:bM}(h:l[j]?=some x)(hi:y.oa=x.oa):dT (l.set j y)=dT l:=by
 unfold dT
 apply List.ext_getElem?
 intro i;simp only [zQY,zYW]
 by_cases e:j=i
 ·subst e;obtain ⟨hj,hx⟩:=List.getElem?_eq_some_iff.1 h;simp [hj,hx,hi]
 ·simp [e]
theorem Em(l:List bM)(id s:Int):dT (kR l id s)=dT l:=by
 unfold kR;rcases rf l id with ⟨h1,_⟩ | ⟨j,x,h1,h2,_⟩
 ·rw [h1]; rfl
 ·rw [h1];simp only [dg,h2,rg]
  split
  ·exact MI h2 rfl
  ·rfl
theorem MJ{l:List bM}(h:m9 l)(f:Int):m9 (jp l f):=by
 have e:dT (jp l f)=dT (l.filter λx=>decide (x.we < f)):=by
  unfold dT jp;rw [zZw]; rfl
 have sub:(dT (l.filter λx=>decide (x.we < f))).Sublist (dT l):=List.Sublist.map _ List.filter_sublist;unfold m9;rw [e];exact ⟨λx hx=>h.r x (sub.subset hx),h.p.sublist sub⟩
theorem GE{α:Type}(f:α->Bool):∀ (l:List α) (i j:Nat),eu f l i=((i+j:Nat):Int)->∀ x∈l.take j,f x=false
 | [],i,j,_=>by simp
 | y :: l,i,0,_=>by simp
 | y :: l,i,j+1,h=>by
  unfold eu at h
  split at h
  ·omega
  ·rename_i hy;intro x hx;simp only [List.take_succ_cons,zYY] at hx;rcases hx with rfl | hx
   ·simpa using hy
   ·exact GE f l (i+1) j (by rw [h]; congr 1; omega) x hx
theorem JS{l:List bM}(h:m9 l){k:Nat}{y:bM}(hy:0<=y.oa/\y.oa<=6)(h1:∀ x∈l.take k,x.oa < y.oa)(h2:∀ x∈l.drop k,y.oa < x.oa):m9 (l.take k++[y]++l.drop k):=by
 have e:dT l=dT (l.take k)++dT (l.drop k):=by unfold dT; rw [<- List.map_append,zXH]
 have hp:=h.p;rw [e,List.pairwise_append] at hp;have e2:dT (l.take k++[y]++l.drop k)=dT (l.take k)++([y.oa]++dT (l.drop k)):=by unfold dT; simp
 unfold m9;rw [e2];constructor
 ·intro z hz;simp only [zWH,zQV] at hz;rcases hz with hz | rfl | hz
  ·exact h.r z (by rw [e]; simp [hz])
  ·exact hy
  ·exact h.r z (by rw [e]; simp [hz])
 ·rw [List.pairwise_append];refine ⟨hp.1,?_,?_⟩
  ·rw [List.singleton_append,List.pairwise_cons];refine ⟨λz hz=>?_,hp.2.1⟩;unfold dT at hz;rw [zYJ] at hz;obtain ⟨x,hx,rfl⟩:=hz;exact h2 x hx
  ·intro a ha b hb;simp only [zWH,zQV] at hb;rcases hb with rfl | hb
   ·unfold dT at ha;rw [zYJ] at ha;obtain ⟨x,hx,rfl⟩:=ha;exact h1 x hx
   ·exact hp.2.2 a ha b hb
theorem PJ{l:List bM}(h:m9 l)(id w d:Int):m9 (nV l id w d):=by
 unfold nV
 split
 ·rename_i hc;simp only [sk] at hc;have hid:=ce hc.1.1;rcases rf l id with ⟨h1,hno⟩ | ⟨j,x,h1,h2,_⟩
  ·rw [h1];have e:dV l (-1)=none:=by unfold dV; simp
   rw [e];dsimp only;unfold t7;rcases tE (λ(x:bM)=>decide (x.oa > id)) l 0 with ⟨g1,g2⟩ | ⟨j,x,g1,g2,g3⟩
   ·rw [g1,if_pos (by omega)];refine JS h hid (λx hx=>?_) (λx hx=>by simp at hx);have hx:=zQg hx;have a:=g2 x hx;have b:=hno x hx;simp only [decide_eq_false_iff_not] at a;show x.oa < id;omega
   ·rw [g1,if_neg (by omega)];have hj:=GE (λ(x:bM)=>decide (x.oa > id)) l 0 j g1;rw [show (((0+j:Nat):Int)).toNat=j by omega];refine JS h hid (λx hx=>?_) (λy hy=>?_)
    ·have a:=hj x hx;have b:=hno x (zQg hx);simp only [decide_eq_false_iff_not] at a;show x.oa < id;omega
    ·have lt:=(List.getElem?_eq_some_iff.1 g2).1;have e:l.drop j=x :: l.drop (j+1):=by
      rw [zXv lt,(List.getElem?_eq_some_iff.1 g2).2]
     have gx:id < x.oa:=by simpa using g3
     have hs:(dT (l.drop j)).Pairwise (· < ·):=h.p.sublist (List.Sublist.map _ (List.drop_sublist j l));rw [e] at hs hy;unfold dT at hs;rw [zWv,List.pairwise_cons] at hs;simp only [zYY] at hy;show id < y.oa;rcases hy with rfl | hy
     ·exact gx
     ·have:=hs.1 y.oa (List.mem_map.2 ⟨y,hy,rfl⟩);omega
  ·rw [h1];simp only [dg,h2,rg];unfold m9;rw [MI (y:=⟨x.oa,w,u3 .i64 x.bY d,0,x.n7⟩) h2 rfl];exact h
 ·exact h
theorem JT{α:Type}{f:α->Nat->Bool}:∀ {l:List α} {i:Nat},kY f l i=true->∀ (j:Nat) (x:α),l[j]?=some x->f x (i+j)=true
 | [],i,_,j,x,h=>by simp at h
 | y :: l,i,h,j,x,hx=>by
  unfold kY at h;simp only [sk] at h
  cases j with
  | zero =>
   simp only [zWQ,Option.some.injEq] at hx;subst hx; exact h.1
  | succ j =>
   have:=JT h.2 j x (by simpa using hx);rw [show i+(j+1)=i+1+j by omega]; exact this
theorem SL{l:List bM}(id w d:Int):∀ z∈dT (nV l id w d),z∈dT l\/z=id:=by
 unfold nV
 split
 ·rcases rf l id with ⟨h1,hno⟩ | ⟨j,x,h1,h2,_⟩
  ·rw [h1];have e:dV l (-1)=none:=by unfold dV; simp
   rw [e];dsimp only;intro z hz;unfold dT at hz ⊢;simp only [List.map_append,zWH,zWv,List.map_nil,zQV,zYJ] at hz ⊢;rcases hz with (⟨x,hx,rfl⟩ | rfl) | ⟨x,hx,rfl⟩
   ·exact .inl ⟨x,zQg hx,rfl⟩
   ·exact .inr rfl
   ·exact .inl ⟨x,zWq hx,rfl⟩
  ·rw [h1];simp only [dg,h2,rg];rw [MI (y:=⟨x.oa,w,u3 .i64 x.bY d,0,x.n7⟩) h2 rfl];exact λz hz=>.inl hz
 ·exact λz hz=>.inl hz
structure M.KidsTo (S:Int->Prop) (l m:List bM):Prop where
 s:m9 l->m9 m
 i:∀ z∈dT m,z∈dT l\/S z
theorem JU{S:Int->Prop}{l m:List bM}(h:dT m=dT l):M.KidsTo S l m:=⟨λhl=>by unfold m9 at hl ⊢; rw [h]; exact hl,λz hz=>.inl (h ▸ hz)⟩
theorem wa{S:Int->Prop}(l:List bM):M.KidsTo S l l:=JU rfl
theorem Rl{S:Int->Prop}{l m k:List bM}(a:M.KidsTo S l m)(h:dT k=dT m):M.KidsTo S l k:=⟨λhl=>by have:=a.s hl; unfold m9 at this ⊢; rw [h]; exact this,λz hz=>a.i z (h ▸ hz)⟩
theorem TY{S:Int->Prop}{l:List bM}{id:Int}(hs:S id)(w d:Int):M.KidsTo S l (nV l id w d):=⟨λh=>PJ h id w d,λz hz=>by
 rcases SL id w d z hz with h | h
 ·exact .inl h
 ·rw [h]; exact .inr hs⟩
theorem KW(n:aA)(f t:Int):dT (eV n f t).fN.bd=dT n.bd:=Em _ _ _
theorem HE{S:Int->Prop}{n:aA}{me f:Int}(hs:S f)(m:fe):M.KidsTo S n.bd (cP n me f m).fN.bd:=by
 have h:M.KidsTo S n.bd (nV n.bd f m.ck m.bY):=TY hs _ _;have g:M.KidsTo S n.bd (eV (jI n (nV n.bd f m.ck m.bY)) me f).fN.bd:=Rl h (KW _ me f);unfold cP
 split
 ·exact wa _
 ·split
  ·exact h
  ·split
   ·dsimp only
    split
    ·exact g
    ·exact g
   ·exact h
theorem TZ(n:aA)(me i:Int):∀ (l:List bM) (s:List bM×List ah),dT (l.foldl (dC n me i) s).1=dT s.1:=by
 intro l
 induction l with
 | nil=>intro s; rfl
 | cons x l ih =>
  intro s;rw [zXh,ih];unfold dC
  split
  ·exact Em _ _ _
  ·rfl
theorem Ol(n:aA)(me i:Int):dT (d7 n me i).fN.bd=dT n.bd:=by
 unfold d7
 split
 ·exact TZ n me i _ _
 ·rfl
theorem Eo(n:aA)(d:ar)(m:ai):(mJ n d m).bd=n.bd:=by
 unfold mJ
 split
 ·split <;> rfl
 ·split <;> rfl
theorem MK(n:aA)(me:Int)(m:fe):dT (eL n me m).fN.bd=dT n.bd:=by
 unfold eL
 split
 ·rfl
 ·split
  ·rfl
  ·split
   ·exact Ol _ _ _
   ·rfl
theorem ML(n:aA)(me:Int)(d:ar)(m:fe):dT (fY n me d m).fN.bd=dT n.bd:=by
 unfold fY
 split
 ·show dT (mJ _ _ _).bd=_;rw [Eo]; rfl
 ·split
  ·exact MK _ _ _
  ·split <;> rfl
def gC(t:cS)(z:Int):Prop:=au z 0 ((t.b9.length:Int) - 1)=true
theorem Rm(t:cS)(me:Int)(n:aA)(d:ar)(p:ah):M.KidsTo (gC t) n.bd (M.take t me n d p).fN.bd:=by
 unfold M.take
 split
 ·exact wa _
 ·split
  ·rename_i h;simp only [sk] at h
   split
   ·exact HE h.1.2 _
   ·split
    ·exact JU (ML _ _ _ _)
    ·exact wa _
  ·exact wa _
def pF(me:Int)(S:Int->Prop)(out:List ah):Prop:=∀ q∈out,q.dn=me/\S q.qL
theorem sF(me:Int)(S:Int->Prop):pF me S []:=λq hq=>by simp at hq
theorem JV{me t:Int}{S:Int->Prop}(h:S t)(m:fe):pF me S [eK me t m]:=λq hq=>by
 simp only [zQV] at hq;subst hq; exact ⟨rfl,h⟩
theorem MM{S:Int->Prop}{n:aA}{me f:Int}(h:S f):pF me S (eV n me f).iB:=λq hq=>by
 unfold eV at hq;simp only [zYJ] at hq;obtain ⟨i,_,rfl⟩:=hq;exact ⟨rfl,h⟩
theorem KX{S:Int->Prop}{n:aA}{me f:Int}(h:S f)(m:fe):pF me S (cP n me f m).iB:=by
 unfold cP
 split
 ·exact sF _ _
 ·split
  ·exact JV h _
  ·split
   ·dsimp only
    split
    ·exact JV h _
    ·exact MM h
   ·exact JV h _
theorem UU{S:Int->Prop}{n:aA}{me i:Int}:∀ (l:List bM) (s:List bM×List ah),(∀ x∈l,S x.oa)->pF me S s.2->pF me S (l.foldl (dC n me i) s).2:=by
 intro l
 induction l with
 | nil=>intro s _ h; exact h
 | cons x l ih =>
  intro s hl h;refine ih _ (λy hy=>hl y (by simp [hy])) λq hq=>?_;unfold dC at hq
  split at hq
  ·simp only [zWH,zQV] at hq;rcases hq with hq | rfl
   ·exact h q hq
   ·exact ⟨rfl,hl x (by simp)⟩
  ·exact h q hq
theorem PK{S:Int->Prop}{n:aA}{me i:Int}(h:∀ x∈n.bd,S x.oa):pF me S (d7 n me i).iB:=by
 unfold d7
 split
 ·exact UU _ _ h (sF _ _)
 ·exact sF _ _
theorem T0{t:cS}{me:Int}{n:aA}(h:∀ x∈n.bd,gC t x.oa)(d:ar)(p:ah):pF me (gC t) (M.take t me n d p).iB:=by
 unfold M.take
 split
 ·exact sF _ _
 ·split
  ·rename_i hc;simp only [sk] at hc
   split
   ·exact KX hc.1.2 _
   ·split
    ·unfold fY
     split
     ·exact sF _ _
     ·split
      ·unfold eL
       split
       ·exact sF _ _
       ·split
        ·exact sF _ _
        ·split
         ·exact PK (n:=ve (yY n) _) h
         ·exact sF _ _
      ·first | exact sF _ _ | (split <;> exact sF _ _)
    ·exact sF _ _
  ·exact sF _ _
theorem LT{t:cS}(h:jo t=true){j:Nat}(h0:0 < j){x:Int}(hx:t.b9[j]?=some x):0<=x/\x < j:=by
 unfold jo at h;simp only [sk] at h;have:=JT h.1 j x hx;rw [zWZ] at this;unfold AP at this;rw [if_neg (by omega)] at this;have:=ce this;omega
theorem GF{t:cS}(h:jo t=true){k:Nat}(h0:0 < k)(hk:k < t.b9.length)(b:Int):gC t (vX t k b):=by
 have get:∀ j:Nat,0 < j->j < t.b9.length->gC t ((t.b9[j]?).getD 0):=λj h0 hj=>by
  have e:=sX hj;have:=LT h h0 e;rw [e];unfold gC;simp only [zYq,au,sk,decide_eq_true_eq];omega
 have hw:au (k:Int) 1 ((t.b9.length:Int) - 1)=true:=by simp [au]; omega
 unfold vX;rw [h,hw];simp only [zXz,if_true]
 split
 ·rename_i hc;simp only [sk,decide_eq_true_eq] at hc;have:=ce (SG hc.1);exact get b.toNat (by omega) (by omega)
 ·exact get _ (by simp; omega) (by simp; omega)
theorem T1{t:cS}(h:jo t=true)(c:hZ){k:Nat}(hk:k < t.b9.length){n:aA}(hb:k≠0->gC t n.bP)(d:ar):pF k (gC t) (M.tick t c k n d).iB/\(k≠0->gC t (M.tick t c k n d).fN.bP):=by
 unfold M.tick
 split
 ·exact ⟨sF _ _,hb⟩
 ·split
  ·exact ⟨sF _ _,hb⟩
  ·rename_i h1;have h0:0 < k:=by omega
   split
   ·exact ⟨JV (GF h h0 hk _) _,λ_=>GF h h0 hk _⟩
   ·exact ⟨JV (hb (by omega)) _,λg=>hb g⟩
theorem PL(l:List bM)(f:Int):∀ z∈dT (jp l f),z∈dT l:=λz hz=>by
 unfold dT jp at *;simp only [zZw,zYJ,List.mem_filter] at hz ⊢;obtain ⟨x,hx,rfl⟩:=hz;exact ⟨x,hx.1,rfl⟩
theorem Rn(S:Int->Prop)(t:cS)(c:hZ)(k:Int)(n:aA)(d:ar):M.KidsTo S n.bd (M.tick t c k n d).fN.bd:=by
 have h:M.KidsTo S n.bd (jp n.bd c.aN):=⟨λhl=>MJ hl _,λz hz=>.inl (PL _ _ z hz)⟩;unfold M.tick
 split
 ·exact wa _
 ·split
  ·exact h
  ·split <;> exact h
theorem MN(n:aA)(d:ar)(m:ai):(mJ n d m).bP=n.bP:=by
 unfold mJ
 split
 ·split <;> rfl
 ·split <;> rfl
theorem HF(n:aA)(me f:Int)(m:fe):(cP n me f m).fN.bP=n.bP:=by
 unfold cP
 split
 ·rfl
 ·split
  ·rfl
  ·split
   ·dsimp only
    split <;> rfl
   ·rfl
theorem MO(n:aA)(me i:Int):(d7 n me i).fN.bP=n.bP:=by
 unfold d7
 split <;> rfl
theorem KY(n:aA)(me:Int)(d:ar)(m:fe):(fY n me d m).fN.bP=n.bP:=by
 unfold fY
 split
 ·exact MN _ _ _
 ·split
  ·unfold eL
   split
   ·rfl
   ·split
    ·rfl
    ·split
     ·exact MO _ _ _
     ·rfl
  ·split <;> rfl
theorem Ro(t:cS)(me:Int)(n:aA)(d:ar)(p:ah):(M.take t me n d p).fN.bP=n.bP:=by
 unfold M.take
 split
 ·rfl
 ·split
  ·split
   ·exact HF _ _ _ _
   ·split
    ·exact KY _ _ _ _
    ·rfl
  ·rfl
structure M.NodeIn (t:cS) (j:Nat) (n:aA):Prop where
 w:M.NodWf n
 s:m9 n.bd
 k:∀ z∈dT n.bd,gC t z
 b:j≠0->gC t n.bP
structure M.DiskIn (d:ar):Prop where
 o:M.DOk d
 b:M.DB d
 l:d.fP.length<=200
structure M.PkIn (t:cS) (p:ah):Prop where
 w:xi p
 f:gC t p.dn
 t:gC t p.qL
structure M.WWf (w:World):Prop where
 t:jo w.fT=true
 nl:w.fN.length=w.fT.b9.length
 dl:w.fD.length=w.fT.b9.length
 nodes:∀ (j:Nat) (n:aA),w.fN[j]?=some n->M.NodeIn w.fT j n
 disks:∀ (j:Nat) (d:ar),w.fD[j]?=some d->M.DiskIn d
 net:∀ p∈w.bk,M.PkIn w.fT p
 len:w.bk.length<=400
theorem t8{t:cS}{j:Nat}{n:aA}(h:M.NodeIn t j n):n.bd.length<=1048576:=by
 have:=Rk h.s; omega
theorem AX{w:World}(h:M.WWf w):1<=w.fT.b9.length/\w.fT.b9.length<=7:=by
 have:=h.t;unfold jo at this;simp only [sk] at this;have:=ce this.2;omega
theorem JW{t:cS}{z:Int}(h:gC t z):∃ j:Nat,z=j/\j < t.b9.length:=by
 have:=ce h;exact ⟨z.toNat,by omega,by omega⟩
theorem SM{t:cS}:∀ (out:List ah) (s:List ah×List cE×Int),(∀ p∈s.1,M.PkIn t p)->s.1.length<=400->(∀ p∈out,M.PkIn t p) ->
  (∀ p∈(out.foldl cW s).1,M.PkIn t p)/\(out.foldl cW s).1.length<=400:=by
 intro out
 induction out with
 | nil=>intro s h l _; exact ⟨h,l⟩
 | cons x out ih =>
  intro s h l ho;rw [zXh];refine ih _ ?_ ?_ (λp hp=>ho p (by simp [hp]))
  ·unfold cW
   split
   ·exact h
   ·intro p hp;simp only [zWH,zQV] at hp;rcases hp with hp | rfl
    ·exact h p hp
    ·exact ho p (by simp)
  ·unfold cW
   split
   ·exact l
   ·simp only [zQK,zYG]; omega
theorem SN{w:World}(h:M.WWf w){out:List ah}(ho:∀ p∈out,M.PkIn w.fT p):M.WWf (uA w out):=by
 have:=SM out (w.bk,w.cL,w.bj) h.net h.len ho;exact ⟨h.t,h.nl,h.dl,h.nodes,h.disks,this.1,this.2⟩
theorem Ep{α:Type}{P:Nat->α->Prop}{l:List α}(h:∀ (j:Nat) (x:α),l[j]?=some x->P j x){k:Nat}{y:α}(hy:P k y):∀ (j:Nat) (x:α),(l.set k y)[j]?=some x->P j x:=by
 intro j x hx;rw [zYW] at hx
 split at hx
 ·rename_i e
  split at hx
  ·simp only [Option.some.injEq] at hx;rw [<- hx,<- e]; exact hy
  ·cases hx
 ·exact h j x hx
def jy(w:World)(k:Nat)(n:aA)(d:ar):World:=⟨w.fC,w.fT,w.bN,w.bI,w.fN.set k n,w.fD.set k d,w.bk,w.cL,w.bj⟩
theorem Om{w:World}(h:M.WWf w){k:Nat}{n:aA}{d:ar}(hn:M.NodeIn w.fT k n)(hd:M.DiskIn d):M.WWf (jy w k n d) :=
 ⟨h.t,by simp [jy,h.nl],by simp [jy,h.dl],Ep h.nodes hn,Ep (P:=λ_ d=>M.DiskIn d) h.disks hd,h.net,h.len⟩
def oQ(w:World)(k:Nat):World:=match w.fN[k]?,w.fD[k]? with
 | some n,some d=>uA (jy w k (M.tick w.fT w.fC k n d).fN (M.tick w.fT w.fC k n d).fD) (M.tick w.fT w.fC k n d).iB
 | _,_=>w
theorem Qp{t:cS}(ht:jo t=true)(c:hZ){k:Nat}(hk:k < t.b9.length){n:aA}(hn:M.NodeIn t k n){d:ar}(hd:M.DiskIn d) :
  M.NodeIn t k (M.tick t c k n d).fN/\M.DiskIn (M.tick t c k n d).fD/\(∀ p∈(M.tick t c k n d).iB,M.PkIn t p)/\(M.tick t c k n d).iB.length<=1048576:=by
 have w:=TX t c k hn.w hd.o hd.l hd.b;have kk:=Rn (gC t) t c k n d;have to:=T1 ht c hk hn.b d;have hkk:gC t (k:Int):=by unfold gC; simp [au]; omega
 refine ⟨⟨w.a.n,kk.s hn.s,λz hz=>?_,to.2⟩,⟨w.d,w.b,w.l⟩,λp hp=>⟨w.a.o p hp,?_,(to.1 p hp).2⟩,w.a.l⟩
 ·rcases kk.i z hz with h | h
  ·exact hn.k z h
  ·exact h
 ·rw [(to.1 p hp).1]; exact hkk
theorem HG{u:Nat}(hu:1099511627776<=u){w:World}(h:M.WWf w){k:Nat}(hk:k < w.fT.b9.length):jN u w k=some (oQ w k):=by
 have up:=AX h;have hn:w.fN[k]?=some (w.fN[k]'(by rw [h.nl]; exact hk)):=sX _;have hd:w.fD[k]?=some (w.fD[k]'(by rw [h.dl]; exact hk)):=sX _;generalize w.fN[k]'(by rw [h.nl]; exact hk)=n at hn;generalize w.fD[k]'(by rw [h.dl]; exact hk)=d at hd;have a:=h.nodes k n hn;have b:=h.disks k d hd;have g:=Qp h.t w.fC hk a b;unfold jN oQ;simp only [dg,hn,hd,wk,MG hu (show w.fT.b9.length<=1048576 by omega) w.fC k a.w (t8 a) b.o (show d.fP.length<=1048575 by have:=b.l; omega),rg];rw [show (World.mk w.fC w.fT w.bN w.bI (w.fN.set k (M.tick w.fT w.fC k n d).fN) (w.fD.set k (M.tick w.fT w.fC k n d).fD) w.bk w.cL w.bj)=jy w k (M.tick w.fT w.fC k n d).fN (M.tick w.fT w.fC k n d).fD from rfl,zM hu _ (λp hp=>(g.2.2.1 p hp).w) g.2.2.2];rfl
def wb(w:World)(k:Nat):World:=⟨w.fC,w.fT,w.bN,w.bI,w.fN,w.fD,w.bk.take k++w.bk.drop (k+1),w.cL,w.bj⟩
theorem SO{w:World}(h:M.WWf w)(k:Nat):M.WWf (wb w k) :=
 ⟨h.t,h.nl,h.dl,h.nodes,h.disks,λp hp=>by
  simp only [wb,zWH] at hp;rcases hp with hp | hp
  ·exact h.net p (zQg hp)
  ·exact h.net p (zWq hp),by
  have:=h.len;simp only [wb,zQK,zQz,zYK]; omega⟩
def CL(w:World)(k:Nat)(n:aA):World:=⟨w.fC,w.fT,w.bN,w.bI,w.fN.set k n,w.fD,w.bk,w.cL,w.bj⟩
theorem SP{w:World}(h:M.WWf w){k:Nat}{n:aA}(hn:M.NodeIn w.fT k n):M.WWf (CL w k n) :=
 ⟨h.t,by simp [CL,h.nl],h.dl,Ep h.nodes hn,h.disks,h.net,h.len⟩
def AY(w:World)(p:ah):World:=match w.fN[p.qL.toNat]?,w.fD[p.qL.toNat]? with
 | some n,some d=>uA (CL w p.qL.toNat (M.take w.fT p.qL n d p).fN) (M.take w.fT p.qL n d p).iB
 | _,_=>w
def oS(w:World)(k:Nat):World:=match w.bk[k]? with
 | some p=>AY (wb w k) p
 | none=>w
theorem Qq{t:cS}{n:aA}{k:Nat}(hk:k < t.b9.length)(hn:M.NodeIn t k n){d:ar}(hd:M.DiskIn d){p:ah}(hp:M.PkIn t p) :
  M.NodeIn t k (M.take t k n d p).fN/\(∀ q∈(M.take t k n d p).iB,M.PkIn t q)/\(M.take t k n d p).iB.length<=1048576:=by
 have w:=TW t k hn.w (t8 hn) hd.b hp.w.1;have kk:=Rm t k n d p;have to:=T0 (me:=(k:Int)) (λx hx=>hn.k x.oa (List.mem_map.2 ⟨x,hx,rfl⟩)) d p;have hkk:gC t (k:Int):=by unfold gC; simp [au]; omega
 refine ⟨⟨w.n,kk.s hn.s,λz hz=>?_,λh0=>by rw [Ro]; exact hn.b h0⟩,λq hq=>⟨w.o q hq,?_,(to q hq).2⟩,w.l⟩
 ·rcases kk.i z hz with h | h
  ·exact hn.k z h
  ·exact h
 ·rw [(to q hq).1]; exact hkk
theorem HH{u:Nat}(hu:1099511627776<=u){w:World}(h:M.WWf w){k:Nat}(hk:k < w.bk.length):jQ u w k=some (oS w k):=by
 have up:=AX h;have hl:=h.len;have hp:w.bk[k]?=some w.bk[k]:=sX hk;generalize w.bk[k]=p at hp;have pin:=h.net p (zQQ hp);obtain ⟨j,e,hj⟩:=JW pin.t;have hn:w.fN[j]?=some (w.fN[j]'(by rw [h.nl]; exact hj)):=sX _;have hd:w.fD[j]?=some (w.fD[j]'(by rw [h.dl]; exact hj)):=sX _;generalize w.fN[j]'(by rw [h.nl]; exact hj)=n at hn;generalize w.fD[j]'(by rw [h.dl]; exact hj)=d at hd;have a:=h.nodes j n hn;have b:=h.disks j d hd;have g:=Qq hj a b pin;have hb:be .i64 (k:Int) 1=((k+1:Nat):Int):=sB (a:=k) (b:=1) (by omega);have c1:ed (cO 0 (k:Int) w.bk.length)=some ():=by
  rw [show (0:Int)=((0:Nat):Int) from rfl,gT (by omega) (by omega)]
 have c2:ed (cO ((k+1:Nat):Int) ((w.bk.length:Nat):Int) w.bk.length)=some ():=by
  rw [gT (by omega) (by omega)]
 unfold jQ oS;rw [hp];unfold AY;simp only [dg,hp,wk,hb,c1,c2,rg,show sY 0=0 from rfl,List.drop_zero,zQy,List.take_length];rw [bD (by simp; omega),wk,bD (by simp; omega),wk];simp only [e,rg,dg];simp only [wb,hn,hd,wk,ME hu (show w.fT.b9.length<=1048576 by omega) (j:Int) a.w (t8 a) b.o b.b pin.w.1 pin.w.2];rw [zM hu _ (λp hp=>(g.2.1 p hp).w) g.2.2];rfl
theorem Oo{α:Type}(g:α->Bool):∀ (l:List α) (i:Nat),kY (λx _=>g x) l i=l.all g
 | [],_=>rfl
 | x :: l,i=>by simp only [kY,List.all_cons,Oo g l]
def wc(c:hZ):Bool:=au c.av 2 6 && au c.aQ 1 40 && au c.aE 1 5 && au c.aN 2 8
theorem JX(u:Nat)(c:hZ):tG u c=some (wc c):=by
 unfold tG wc;simp only [bH,wk]
 cases au c.av 2 6 <;> cases au c.aQ 1 40 <;> cases au c.aE 1 5 <;> rfl
def Er(l:List aW)(n:Int):Bool:=(l.all λx=>!decide ((x.fB.length:Int) > 240)) && ((l.length:Int) == n)
theorem HI{u:Nat}(hu:1099511627776<=u){l:List aW}(hl:l.length<=1048576)(n:Int):rm u l n=some (Er l n):=by
 unfold rm Er;rw [CU u l n () u (by omega) (by omega),CD (λ(x:aW) _=>!decide ((x.fB.length:Int) > 240)) (xs:=l) (b:=(l.length:Int) == n) rfl 0 (λx i f _ hx=>?_) l 0 (zWj _) rfl,Oo];unfold wj
 cases decide ((x.fB.length:Int) > 240) <;> rfl
theorem Oq:∀ (n:Nat) (b:List Int),ay b->b.length<=n->nu n (iw b 1)=some b:=by
 intro n
 induction n with
 | zero =>
  intro b _ hl;have:b=[]:=r0 (by omega);subst this;rfl
 | succ n ih =>
  intro b hb hl;rcases List.eq_nil_or_concat b with rfl | ⟨c,x,hbx⟩
  ·rfl
  ·rw [List.concat_eq_append] at hbx;subst hbx;have hx:=hb x (by simp);have hc:ay c:=λz hz=>hb z (by simp [hz]);have h1:=JK c 1 0 hc (by simp);have hp:(0:Int) < 256 ^ (0+c.length):=Int.pow_pos (by omega);have e:iw (c++[x]) 1=256*iw c 1+x:=by rw [NW]; rfl
   unfold nu;rw [e,if_neg (by omega),if_neg (by omega),show (256*iw c 1+x) / 256=iw c 1 by omega,show (256*iw c 1+x) % 256=x by omega,ih c hc (by simp at hl; omega)];rfl
theorem yZ{b:List Int}(hb:ay b)(hl:b.length<=6):cg (iw b 1)=(b,true):=by
 have h1:=JK b 1 0 hb (by simp);have hp:(0:Int) < 256 ^ (0+b.length):=Int.pow_pos (by omega);unfold cg;rw [if_neg (by omega),Oq 6 b hb hl]
theorem Rp{a b:List Int}(ha:ay a)(hb:ay b)(la:a.length<=6)(lb:b.length<=6)(h:dZ a=dZ b):a=b:=by
 unfold dZ at h;rw [if_neg (by omega),if_neg (by omega)] at h;have h2:iw a 1=iw b 1:=congrArg cV.fS h;have h3:=yZ ha la;rw [h2,yZ hb lb] at h3;exact (congrArg Prod.fst h3).symm
theorem LU{size n i:Int}(h:au i 0 (bG size n - 1)=true):(cj size n i).1=i*size/\1<=(cj size n i).2:=by
 have ⟨h1,h2,h3⟩:=Bg h;have h4:=qj h1;have h5:=(ce h).2;unfold cj;rw [if_pos h];unfold bG at h5;rw [if_pos h1] at h5;have h8:i+1<=(n+size - 1) / size:=by omega
 have h9:(i+1)*size<=n+size - 1:=(Int.le_ediv_iff_mul_le (by omega)).1 h8;rw [zZz] at h9;refine ⟨rfl,?_⟩;dsimp only;omega
theorem JY{b:List Int}{size i:Int}(h:au i 0 (bG size b.length - 1)=true):((dI b size i).1.length:Int)=(cj size b.length i).2/\(dI b size i).1=M.win b (cj size b.length i).1.toNat (cj size b.length i).2.toNat:=by
 have h1:=LU h;have h2:=pC (size:=size) (n:=b.length) (i:=i) (by omega);unfold dI;dsimp only;rw [if_neg (by omega)];refine ⟨?_,rfl⟩;unfold M.win;simp;omega
theorem MP{b:List Int}(hb:ay b){size:Int}{i:Nat}(h:au (i:Int) 0 (bG size b.length - 1)=true):oN size b.length i (dZ (dI b size i).1)=true:=by
 have h1:=JY h;have h2:=tA hb size i;unfold oN dZ;rw [if_neg (by omega)];simp only [yZ h2.1 h2.2,h1.1];simp
theorem B0{b:List Int}(hb:ay b){size:Int}:∀ (n i:Nat),((i+n:Nat):Int)<=bG size b.length->iK size b.length ((zWh i n).map λ(i:Nat)=>dZ (dI b size i).1) i=true
 | 0,i,_=>rfl
 | n+1,i,h=>by
  have hw:au (i:Int) 0 (bG size b.length - 1)=true:=by unfold au; simp; omega
  simp only [zYw,zWv,iK];rw [MP hb hw,zWk];exact B0 hb n (i+1) (by omega)
theorem GG(g:Int){b:List Int}(hb:ay b)(size:Int):da (ga g b size)=true:=by
 unfold ga
 cases h1:au g 1 1000000 with
 | false=>rfl
 | true =>
  cases h2:dj size b.length with
  | false=>rfl
  | true =>
   have hg:=ce h1;have hr:=dB size b.length;simp only [zXz,if_true];unfold da;simp only;rw [if_neg (by omega),h1,h2];simp only [zWk,sk,beq_iff_eq];unfold nv;refine ⟨by simp; omega,?_⟩;rw [zXJ];exact B0 hb _ 0 (by omega)
theorem Rq{α:Type}{f:α->α->Bool}(hf:∀ x,f x x=true)(l:List α):M.same f l l=true:=by
 unfold M.same;have:yO f l l=true:=by
  induction l with
  | nil=>rfl
  | cons x l ih=>simp [yO,hf,ih]
 simp [this]
theorem GH{g size:Int}{b:List Int}(h:dj size b.length=true)(hg:au g 1 1000000=true):M.tells (ga g b size) b=true:=by
 unfold M.tells ga;rw [hg,h];simp [Rq]
def Ev{β:Type}(r:Option β)(p:β->Prop):Prop:=∃ v,r=some v/\p v
theorem bE{β γ:Type}{r:Option β}{p:β->Prop}{f:β->Option γ}{q:γ->Prop}(h:Ev r p)(hf:∀ v,p v->Ev (f v) q):Ev (r.bind f) q:=by
 obtain ⟨v,e,h1⟩:=h;rw [e];exact hf v h1
theorem cC{β:Type}{v:β}{p:β->Prop}(h:p v):Ev (some v) p:=⟨v,rfl,h⟩
theorem SQ{β:Type}{r:Option β}{v:β}{p:β->Prop}(e:r=some v)(h:p v):Ev r p:=⟨v,e,h⟩
theorem Qr{β:Type}{r:Option β}{p q:β->Prop}(h:Ev r p)(hpq:∀ v,p v->q v):Ev r q:=by
 obtain ⟨v,e,h1⟩:=h;exact ⟨v,e,hpq v h1⟩
theorem gV{β γ:Type}{r:Option β}{v:β}{f:β->Option γ}{q:γ->Prop}(e:r=some v)(hf:Ev (f v) q):Ev (r.bind f) q:=by
 rw [e];exact hf
theorem lW{γ:Type}{b:Bool}{f:Unit->Option γ}{q:γ->Prop}(hb:b=true)(hf:Ev (f ()) q):Ev ((ed b).bind f) q:=by
 subst hb;exact hf
theorem Es{α:Type}{r:Option (α×aG)}{p:α->Prop}(h:Dr r p):Ev r λv=>p v.1/\Cu v.2:=by
 obtain ⟨v,c,e,h1,h2⟩:=h;exact ⟨_,e,h1,h2⟩
theorem dm(u:Nat){c:aG}(hc:Cu c)(n:Int):Ev (bc u c n) λv=>(0<=v.1/\(0 < n->v.1 < n))/\Cu v.2:=Es (cH u hc n)
theorem H8(u:Nat){c:aG}(hc:Cu c)(n:Int):Ev (i8 u c n) λv=>Cu v.2:=Qr (Es (FM u hc n)) λ_ h=>h.2
theorem AZ(u:Nat){c:aG}(hc:Cu c){xs:List Int}(hx:0 < xs.length):Ev (dG u c xs) λv=>v.1∈xs/\Cu v.2:=Es (nx u hc hx)
theorem cm{γ:Type}{b:Bool}{x y:Option γ}{q:γ->Prop}(h1:b=true->Ev x q)(h2:b=false->Ev y q):Ev (bif b then x else y) q:=by
 cases b with
 | true=>exact h1 rfl
 | false=>exact h2 rfl
theorem y0{c:aG}(h:Cu c):Cu (aG.mk c.fB c.fI c.fH):=h
theorem LV{α:Type}{f:α->Nat->Bool}:∀ (l:List α) (i:Nat) (x:α),kY f (l++[x]) i=(kY f l i && f x (i+l.length))
 | [],i,x=>by simp [kY]
 | y :: l,i,x=>by
  simp only [List.cons_append,kY,LV l (i+1) x,zQH,Bool.and_assoc];rw [show i+1+l.length=i+(l.length+1) by omega]
def Et(t:cS):Prop:=jo t=true/\1<=t.b9.length/\t.b9.length<=7
theorem JZ(u:Nat)(hu:1099511627776<=u){c:aG}(hc:Cu c):Ev (oU u c) λv=>Et v.1/\Cu v.2:=by
 have key:∀ (m k n:Nat) (up:List Int) (c:aG),n+m=7->m < k->1<=n->up.length=n->kY AP up 0=true->Cu c ->
   Ev (ft u k (n:Int) up c.fB c.fI c.fH) λv=>Et v.1/\Cu v.2:=by
  intro m
  induction m with
  | zero =>
   intro k n up c hn hk h1 hl ho hc;obtain ⟨k,rfl⟩:∃ j,k=j+1:=⟨k - 1,by omega⟩;unfold ft;refine bE (dm u (y0 hc) 7) λr hr=>?_;have hr1:=hr.1.1;have hr2:=hr.1.2 (by omega);rw [dE (by omega) (by omega)];have:¬ (n:Int) < 1+r.1:=by omega
   simp only [this,decide_false,cond_false,ql];exact cC ⟨⟨by unfold jo; rw [ho]; simp [au]; omega,by show 1<=up.length; omega,by show up.length<=7; omega⟩,hr.2⟩
  | succ m ih =>
   intro k n up c hn hk h1 hl ho hc;obtain ⟨k,rfl⟩:∃ j,k=j+1:=⟨k - 1,by omega⟩;unfold ft;refine bE (dm u (y0 hc) 7) λr hr=>?_;have hr1:=hr.1.1;have hr2:=hr.1.2 (by omega);rw [dE (by omega) (by omega)];have next:∀ (x:Int) (c:aG),0<=x->x < n->Cu c->Ev (na u (λz0 z1 z2 z3 z4=>ft u k z0 z1 z2 z3 z4) (n:Int) x up c.fB c.fI c.fH) λv=>Et v.1/\Cu v.2:=by
    intro x c h0 hx hc;unfold na;refine lW (by simp; omega) ?_;rw [dE (by omega) (by omega),show (n:Int)+1=((n+1:Nat):Int) by omega];refine ih k (n+1) _ c (by omega) (by omega) (by omega) (by simp; omega) ?_ hc;rw [LV,ho,zWk];unfold AP;rw [if_neg (by omega)];simp [au]; omega
   refine cm (λhlt=>?_) (λ_=>?_)
   ·refine bE (H8 u hr.2 2) λo ho2=>?_;refine cm (λ_=>?_) (λ_=>?_)
    ·refine bE (dm u ho2 _) λx hx=>?_;exact next _ _ hx.1.1 (hx.1.2 (by omega)) hx.2
    ·rw [dP (by omega) (by omega)];exact next _ _ (by omega) (by omega) ho2
   ·unfold ql;exact cC ⟨⟨by unfold jo; rw [ho]; simp [au]; omega,by show 1<=up.length; omega,by show up.length<=7; omega⟩,hr.2⟩
 unfold oU;exact key 6 u 1 _ c (by omega) (by omega) (by omega) rfl rfl hc
theorem Rr(u:Nat)(hu:1099511627776<=u){c:aG}(hc:Cu c):Ev (tQ u c) λv=>v.1.b9.length<=7/\Cu v.2:=by
 unfold tQ;refine bE (JZ u hu hc) λt ht=>?_;have hl:=ht.1.2;refine bE (dm u ht.2 8) λn hn=>?_;refine cm (λ_=>?_) (λ_=>cm (λ_=>?_) (λ_=>?_))
 ·refine bE (dm u hn.2 _) λi hi=>?_;refine bE (AZ u hi.2 (by simp)) λx hx=>?_;have h0:=hi.1.1;have h1:=hi.1.2 (by omega);obtain ⟨j,hj⟩:∃ j:Nat,i.1=(j:Int):=⟨i.1.toNat,by omega⟩;rw [hj,dg,sX (by omega)];exact cC ⟨by show (t.1.b9.set _ _).length<=7; rw [zXG]; omega,hx.2⟩
 ·exact cC ⟨by simp,hn.2⟩
 ·exact cC ⟨by show t.1.b9.length<=7; omega,hn.2⟩
theorem SR(u:Nat){c:aG}(hc:Cu c):Ev (vk u c) λv=>Cu v.2:=by
 unfold vk;refine bE (H8 u hc 3) λo ho=>cm (λ_=>?_) (λ_=>?_)
 ·exact bE (AZ u ho (by simp)) λx hx=>cC hx.2
 ·refine bE (dm u ho _) λx hx=>bE (dm u hx.2 _) λy hy=>lW ?_ (cC hy.2);have:=hy.1.1
  simpa using this
theorem PM{u:Nat}(hu:1099511627776<=u){c:aG}(hc:Cu c):Ev (lu u c) λv=>mI 16 v.1/\Cu v.2:=Es (Jx hu hc)
theorem UV{u:Nat}(hu:1099511627776<=u){c:aG}(hc:Cu c){b:List Int}(hb:mI 200 b):Ev (qN u c b) λv=>mI 240 v.1/\Cu v.2:=Es (Re hu hc hb.1 hb.2)
theorem UW{u:Nat}(hu:1099511627776<=u){c:aG}(hc:Cu c):Ev (s0 u c) λv=>(v.1.aO.length<=41/\pB v.1)/\Cu v.2:=Es (SF hu hc)
theorem J0{n m:Nat}{b:List Int}(h:mI n b)(hn:n<=m):mI m b:=⟨zWx h.1 hn,h.2⟩
structure M.DrMan (m:ai) (b:List Int):Prop where
 i:mI 16 b
 o:da m=true
 n:m.aO.length<=40
 w:pB m
 l:0<=m.aX/\m.aX<=16
theorem Rs{u:Nat}(hu:1099511627776<=u){c:aG}(hc:Cu c):Ev (og u c) λv=>M.DrMan v.1 v.2.1/\Cu v.2.2:=by
 unfold og;refine bE (PM hu hc) λb hb=>bE (dm u hb.2 _) λx hx=>bE (dm u hx.2 _) λy hy=>?_;have h1:=hb.1.1;refine gV (w9 hu hb.1.2 (by omega) _ _) (cC ⟨⟨hb.1,GG _ hb.1.2 _,FI _ _ _,Jq _ _ _ hb.1.2,?_⟩,hy.2⟩);unfold ga
 split
 ·exact ⟨by simp,by simp; omega⟩
 ·simp
structure M.DrNode (n:aA):Prop where
 w:M.NodWf n
 b:n.bu.ca.length<=16
 k:n.bd.length<=10
theorem PN:pB ⟨0,0,0,[]⟩:=λx hx=>by simp at hx
theorem Rt{m:ai}{b:List Int}(hm:M.DrMan m b){x:bF}(hp:M.Part m 40 x){l:List bM}(hl:l.length<=10)(o:Bool)(i q ph dr:Int):M.DrNode ⟨o,i,q,m,x,ph,l,dr⟩:=by
 have h1:=hm.n;have h2:=hm.l;have h3:=hp.l;exact ⟨⟨by show m.aO.length<=1048576; omega,hp.b,by show l.length<=1048577; omega,hm.w⟩,by show x.ca.length<=16; omega,hl⟩
theorem SS{u:Nat}(hu:1099511627776<=u){code:List Int}(h:code.length<=1048576):Ev (sK u code) Cu:=by
 obtain ⟨c,e,hc⟩:=Sz hu h;exact SQ e hc
def gP(t:cS)(k:Int):aA:=if jo t && au k 1 ((t.b9.length:Int) - 1) then ⟨true,(t.b9[k.toNat]?).getD 0,0,⟨0,0,0,[]⟩,⟨0,[]⟩,0,[],0⟩ else ⟨false,0,0,⟨0,0,0,[]⟩,⟨0,[]⟩,0,[],0⟩
theorem T2{t:cS}{k:Int}(h:au k 1 ((t.b9.length:Int) - 1)=true):dV t.b9 k=some ((t.b9[k.toNat]?).getD 0):=by
 have:=ce h;obtain ⟨j,rfl⟩:∃ j:Nat,k=j:=⟨k.toNat,by omega⟩;rw [dg,rg,sX (by omega)];rfl
theorem yo{u:Nat}(hu:1099511627776<=u){t:cS}(ht:t.b9.length<=1048576)(k:Int):lO u t k=some (gP t k):=by
 unfold lO gP;rw [vW hu (by omega),dP (by omega) (by omega),bH];simp only [wk];unfold oX
 cases jo t with
 | false=>rfl
 | true =>
  cases h:au k 1 ((t.b9.length:Int) - 1) with
  | false=>rfl
  | true=>simp only [zQJ,cond_false,T2 h,wk,rn]; rfl
theorem UX{g:Int}{b:List Int}(hb:mI 240 b):M.DiskIn ⟨b,[],⟨g,0,b.length⟩,[]⟩:=by
 have:=hb.1;exact ⟨⟨by show b.length<=1048576; omega,by simp,by simp,by simp⟩,⟨hb.2,by simp [ay],by simp⟩,by simp⟩
theorem J1(u:Nat){c:aG}(hc:Cu c):Ev (oV u c) λv=>wc v.1=true/\Cu v.2:=by
 unfold oV;refine bE (dm u hc _) λa ha=>bE (AZ u ha.2 (by simp)) λw hw=>bE (dm u hw.2 _) λs hs=>bE (dm u hs.2 _) λf hf=>cC ⟨?_,hf.2⟩;have a1:=ha.1.1;have a2:=ha.1.2 (by omega);have s1:=hs.1.1;have s2:=hs.1.2 (by omega);have f1:=hf.1.1;have f2:=hf.1.2 (by omega);have w1:1<=w.1/\w.1<=40:=by
  have:=hw.1;simp only [zYY,zZh,or_false] at this;rcases this with h | h | h | h | h <;> omega
 unfold wc au;simp only [dE (show -9223372036854775808<=2+a.1 by omega) (show 2+a.1<=9223372036854775807 by omega),dE (show -9223372036854775808<=1+s.1 by omega) (show 1+s.1<=9223372036854775807 by omega),dE (show -9223372036854775808<=2+f.1 by omega) (show 2+f.1<=9223372036854775807 by omega),sk,decide_eq_true_eq];omega
theorem Ru(u:Nat){c:aG}(hc:Cu c):Ev (tP u c) λv=>Cu v.2:=by
 unfold tP;refine bE (J1 u hc) λr hr=>bE (dm u hr.2 _) λk hk=>?_;refine cm (λ_=>bE (AZ u hk.2 (by simp)) λx hx=>cC hx.2) (λ_=>?_);refine cm (λ_=>bE (AZ u hk.2 (by simp)) λx hx=>cC hx.2) (λ_=>?_);refine cm (λ_=>bE (AZ u hk.2 (by simp)) λx hx=>cC hx.2) (λ_=>?_);exact cm (λ_=>bE (AZ u hk.2 (by simp)) λx hx=>cC hx.2) (λ_=>cC hk.2)
structure M.DrD (d:ar):Prop where
 o:M.DOk d
 l:d.fP.length<=201
theorem ST{u:Nat}(hu:1099511627776<=u){c:aG}(hc:Cu c):Ev (sZ u c) λv=>M.DrD v.1/\Cu v.2:=by
 obtain ⟨d,c',e,h,h2⟩:=SA hu hc;exact SQ e ⟨⟨h.1,h.2⟩,h2⟩
def M.man(g:Int)(b:List Int)(size:Int):ai:=⟨g,size,b.length,nv b size⟩
theorem F3{g:Int}{b:List Int}{size:Int}(hs:dj size b.length=true)(hg:au g 1 1000000=true):ga g b size=M.man g b size:=by
 unfold ga M.man;rw [hs,hg]; rfl
structure M.Blk (b:List Int) (size:Int) (z i:Nat):Prop where
 z2:2<=z/\z<=6
 w:au (i:Int) 0 (bG size b.length - 1)=true
 s:cj size b.length (i:Int)=(((i*z:Nat):Int),((min z (b.length - i*z):Nat):Int))
 p:i*z < b.length
theorem MQ{b:List Int}{size:Int}(hs:dj size b.length=true){i:Nat}(hi:i < (bG size b.length).toNat):M.Blk b size size.toNat i:=by
 have h1:=qj hs;have hw:au (i:Int) 0 (bG size b.length - 1)=true:=by unfold au; simp; omega
 obtain ⟨z,rfl⟩:∃ z:Nat,size=z:=⟨size.toNat,by omega⟩;have h2:=LU hw;have h3:=pC (size:=(z:Int)) (n:=b.length) (i:=i) (by omega);have e:cj (z:Int) b.length i=((i:Int)*z,min (z:Int) (b.length - (i:Int)*z)):=by unfold cj; rw [if_pos hw]
 rw [rg];have hlt:i*z < b.length:=by
  have h5:=h2.1;have h6:=h3.2.2.2;have h7:=h2.2;rw [h5] at h6;have:((i*z:Nat):Int)=(i:Int)*z:=by simp
  omega
 refine ⟨by omega,hw,?_,hlt⟩;rw [e];have h8:(i:Int)*z=((i*z:Nat):Int):=by simp
 rw [h8]
 congr 1
 omega
theorem SU{b:List Int}{size g:Int}{z i:Nat}(h:M.Blk b size z i):M.at_ (M.man g b size) i=i*z/\sD (M.man g b size) i=min z (b.length - i*z):=by
 unfold M.at_ sD;show (cj size b.length i).1.toNat=_/\(cj size b.length i).2.toNat=_;rw [h.s];exact ⟨rg _,rg _⟩
theorem Qs{b:List Int}{size:Int}{z i:Nat}(h:M.Blk b size z i):(dI b size i).1=M.win b (i*z) (min z (b.length - i*z)):=by
 have h1:=(JY h.w).2;rw [h.s] at h1;rw [h1];simp only [rg]
theorem SV{b:List Int}{size g:Int}{i:Nat}(hi:i < (bG size b.length).toNat):(M.man g b size).aO[i]?=some (dZ (dI b size i).1):=by
 show (nv b size)[i]?=_;unfold nv;rw [zQY,zYk hi]; rfl
theorem SW(g:Int)(b:List Int)(size:Int):(M.man g b size).aO.length=(bG size b.length).toNat:=by
 show (nv b size).length=_;unfold nv;simp
theorem Ot{b:List Int}{z i:Nat}(hp:i*z < b.length):b.take (i*z)++M.win b (i*z) (min z (b.length - i*z))=b.take ((i+1)*z):=by
 have e:b.take (i*z)=(b.take (i*z+min z (b.length - i*z))).take (i*z):=by rw [List.take_take]; congr 1; omega
 unfold M.win;rw [e,zXH,zYx]
 by_cases h:z<=b.length - i*z
 ·rw [zXq h]
 ·rw [Nat.min_eq_right (by omega),zXj (by omega),zXj (by omega)]
theorem J2{b:List Int}{size:Int}(hs:dj size b.length=true):b.length<=(bG size b.length).toNat*size.toNat:=by
 have h1:=qj hs;have h2:bG size b.length=(b.length+size - 1) / size:=by unfold bG; rw [if_pos hs]
 have h3:=dB size b.length;have h4:=Int.lt_ediv_add_one_mul_self ((b.length:Int)+size - 1) (show 0 < size by omega);rw [<- h2,zZz] at h4;have h5:(((bG size b.length).toNat*size.toNat:Nat):Int)=bG size b.length*size:=by
  rw [Int.natCast_mul,Int.toNat_of_nonneg h3.1,Int.toNat_of_nonneg (by omega)]
 omega
theorem dk{a b:List Int}{r:dc}{p:List c8}(ha:a.length<=240)(hb:b.length<=240)(hr:fo r=true)(hs:r.aX<=(il ⟨a,b,r,p⟩ r.bX).length)(hp:p.length<=200)(hq:∀ x∈p,fk x=true):cd ⟨a,b,r,p⟩=true:=by
 unfold cd;simp only [sk,decide_eq_true_eq,zYh];exact ⟨⟨⟨⟨⟨ha,hb⟩,hr⟩,hs⟩,hp⟩,hq⟩
structure M.K0 (old:List Int) (d:ar):Prop where
 a:d.fA=old
 r:d.fR=⟨0,0,old.length⟩
 b:d.fB.length<=240
theorem VE{old:List Int}(h:old.length<=240):fo ⟨0,0,old.length⟩=true:=by
 unfold fo au;simp;omega
theorem J3{old:List Int}(h:old.length<=240){d:ar}(hk:M.K0 old d)(hp:d.fP.length<=200)(hq:∀ x∈d.fP,fk x=true):cd d=true/\cY d=(0,old):=by
 obtain ⟨a,b,r,p⟩:=d;obtain ⟨h1,h2,h3⟩:=hk;have h1:a=old:=h1;have h2:r=⟨0,0,old.length⟩:=h2;subst h1 h2;have e:cd ⟨a,b,⟨0,0,a.length⟩,p⟩=true:=dk h h3 (VE h) (by simp [il]) hp hq;refine ⟨e,?_⟩;unfold cY;rw [e,if_pos rfl];simp [il]
theorem SX{d:ar}{g:Int}{b:List Int}(h:cY d=(g,b)):M.holds d g b=true:=by
 unfold M.holds lL;rw [h];simp
theorem UY{old:List Int}{d:ar}(hk:M.K0 old d){p:c8}(h1:p.iA=1)(hp:fk p=true):M.K0 old (nw d p):=by
 have hw:p.iA≠2:=by omega
 have hw0:p.iA≠0:=by omega
 unfold nw;rw [if_neg hw,if_neg hw0];refine ⟨hk.a,hk.r,?_⟩;have hb:=hk.b;rcases wM hp with h | ⟨_,h3,h4⟩
 ·omega
 ·rw [Cz]; omega
theorem Ou{old:List Int}(s:Int):∀ (l:List c8) (i:Nat) (d:ar),M.K0 old d->(∀ p∈l,p.iA=1/\fk p=true)->M.K0 old (kU s l i d)/\(kU s l i d).fP=[]
 | [],i,d,h,_=>⟨⟨h.a,h.r,h.b⟩,rfl⟩
 | p :: l,i,d,h,hp=>by
  unfold kU;refine Ou s l (i+1) _ ?_ λq hq=>hp q (by simp [hq])
  split
  ·exact UY h (hp p (by simp)).1 (hp p (by simp)).2
  ·exact h
def za(b:List Int)(z i:Nat):c8:=⟨1,((i*z:Nat):Int),M.win b (i*z) (min z (b.length - i*z)),⟨0,0,0⟩⟩
def lM(b:List Int)(z i:Nat):List c8:=(zXQ i).map (za b z)
def t9(old b:List Int)(p:List c8):ar:=⟨old,b,⟨0,0,old.length⟩,p⟩
theorem T3{b:List Int}(hl:b.length<=16){size:Int}{z i:Nat}(h:M.Blk b size z i):(za b z i).iA=1/\fk (za b z i)=true:=by
 refine ⟨rfl,?_⟩;have hz:=h.z2;have hp:=h.p;have hw:(M.win b (i*z) (min z (b.length - i*z))).length=min z (b.length - i*z):=qZ (by omega);unfold fk za;simp only [hw];have e:au ((i*z:Nat):Int) 0 (240 - (min z (b.length - i*z):Nat))=true:=by simp only [au,sk,decide_eq_true_eq]; omega
 rw [if_neg (by omega),e];rfl
theorem J4{b:List Int}(hl:b.length<=16){size:Int}(hs:dj size b.length=true){i:Nat}(hi:i<=(bG size b.length).toNat):∀ p∈lM b size.toNat i,p.iA=1/\fk p=true:=by
 intro p hp;obtain ⟨j,hj,rfl⟩:=List.mem_map.1 hp;have:=List.mem_range.1 hj;exact T3 hl (MQ hs (by omega))
theorem PO(b:List Int)(z i:Nat):lM b z i++[za b z i]=lM b z (i+1):=by
 unfold lM;rw [List.range_succ,List.map_append]; rfl
theorem LW(b:List Int)(z i:Nat):(lM b z i).length=i:=by simp [lM]
theorem wS{u:Nat}(hu:1099511627776<=u){l:List aW}(hl:l.length<=1048576)(hb:∀ x∈l,x.fB.length<=1048576):gp u l=some l:=by
 unfold gp;rw [Bq u l _ u (by omega) (by omega),yP 1048576 l _ l 0 [] (λ_ h=>h) (by simp; omega)]
 ·rfl
 ·intro x i s k hx hs;have h4:=hb x hx;unfold uB;rw [bD (by simp; omega)];simp only [wk];rw [bD (by simp; omega)]; rfl
theorem Ov{α ρ:Type}{fin:List α->Option ρ}{body:α->Nat->List α->(List α->Option ρ)->Option ρ}(n:Nat)(p:List α)(hb:∀ x i s k,p[i]?=some x->s.length+1<=n->body x i s k=k (s++[x])) :
  ∀ (l:List α) (i:Nat) (s:List α),l=p.drop i->s.length+l.length<=n->cy fin body l i s=fin (s++l):=by
 intro l
 induction l with
 | nil=>intro i s _ _; simp [cy]
 | cons x l ih =>
  intro i s h1 h2;simp only [zQH] at h2;have h3:p[i]?=some x:=by
   have:=congrArg (λl=>l[0]?) h1
   simpa using this.symm
  have h4:l=p.drop (i+1):=by
   have:=congrArg (List.drop 1) h1
   simpa using this
  simp only [cy];rw [hb x i s _ h3 (by omega),ih (i+1) _ h4 (by simp; omega)];simp
theorem zb{u:Nat}(hu:1099511627776<=u){l:List ah}(hl:l.length<=1048576)(hb:∀ x∈l,x.fB.length<=1048576):fX u l=some l:=by
 unfold fX;rw [wV u l _ u (by omega) (by omega),Ov 1048576 l _ l 0 [] (by simp) (by simp; omega)]
 ·rfl
 ·intro x i s k hx hs;have h4:=hb x (zQQ hx);unfold pS;rw [i6 l i hx];simp only [wk];rw [bD (by simp; omega)];simp only [wk];rw [bD (by simp; omega)]; rfl
structure M.WCp (w:World):Prop where
 t:w.fT.b9.length<=1048576
 new:w.bN.length<=1048576
 ol:w.bI.length<=1048576
 old:∀ x∈w.bI,x.fB.length<=1048576
 nl:w.fN.length<=1048576
 n:∀ x∈w.fN,M.NodWf x
 dl:w.fD.length<=1048576
 d:∀ x∈w.fD,M.DOk x
 pl:w.bk.length<=1048576
 p:∀ x∈w.bk,xi x
 ll:w.cL.length<=1048576
theorem HJ{u:Nat}(hu:1099511627776<=u){w:World}(h:M.WCp w):mV u w=some w:=by
 have h1:=h.t;have h2:=h.new;have h3:=h.nl;have h4:=h.dl;have h5:=h.ll;unfold mV;rw [bD (by simp; omega),bD (by simp; omega)];simp only [wk];rw [wS hu h.ol h.old];simp only [wk];rw [C1 u w _ _ u (by omega) (by omega),yP 1048576 w.fN _ w.fN 0 [] (λ_ h=>h) (by simp; omega)]
 ·unfold wo nh;rw [C0 u w _ _ _ u (by omega) (by omega),yP 1048576 w.fD _ w.fD 0 [] (λ_ h=>h) (by simp; omega)]
  ·unfold wl ng;rw [zb hu h.pl λx hx=>(h.p x hx).2];simp only [wk];rw [bD (by simp; omega)];rfl
  ·intro x i s k hx hs;unfold wm;rw [gB hu (h.d x hx)];simp only [wk];rw [bD (by simp; omega)]; rfl
 ·intro x i s k hx hs;unfold wq;rw [fF u (h.n x hx)];simp only [wk];rw [bD (by simp; omega)]; rfl
structure M.DrW (w:World):Prop where
 wf:M.WWf w
 ol:w.bI.length=w.fT.b9.length
 old:∀ x∈w.bI,mI 240 x.fB
 new:mI 16 w.bN
 log:w.cL.length<=3000
structure M.NewW (w:World):Prop where
 d:M.DrW w
 net:w.bk=[]
 lost:w.bj=0
 log:w.cL=[]
 c:wc w.fC=true
 s:dj w.fC.av w.bN.length=true
 root:∀ n,w.fN[0]?=some n->n=⟨true,-1,0,ga 1 w.bN w.fC.av,kh (ga 1 w.bN w.fC.av) w.bN,6,[],0⟩
 node:∀ (j:Nat) (n:aA),j≠0->w.fN[j]?=some n->n=gP w.fT j
 disk:∀ (j:Nat) (d:ar) (o:aW),w.fD[j]?=some d->w.bI[j]?=some o->d=⟨o.fB,[],⟨0,0,o.fB.length⟩,[]⟩
theorem SY{w:World}(h:M.DrW w):M.WCp w:=by
 have h0:=AX h.wf;have h1:=h.wf.nl;have h2:=h.wf.dl;have h3:=h.wf.len;have h4:=h.ol;have h5:=h.log;have h6:=h.new.1;refine ⟨by omega,by omega,by omega,λx hx=>by have:=(h.old x hx).1; omega,by omega,λx hx=>?_,by omega,λx hx=>?_,by omega,λx hx=>(h.wf.net x hx).w,by omega⟩
 ·obtain ⟨j,hj⟩:=List.mem_iff_getElem?.1 hx;exact (h.wf.nodes j x hj).w
 ·obtain ⟨j,hj⟩:=List.mem_iff_getElem?.1 hx;exact (h.wf.disks j x hj).o
theorem Qt{t:cS}(ht:jo t=true){k:Nat}(h0:0 < k)(hk:k < t.b9.length):M.NodeIn t k (gP t k):=by
 have hw:au (k:Int) 1 ((t.b9.length:Int) - 1)=true:=by unfold au; simp; omega
 unfold gP;simp only [ht,hw,zXz,if_true];refine ⟨⟨by simp,⟨by simp [ay],by simp⟩,by simp,PN⟩,⟨by simp [dT],by simp [dT]⟩,λz hz=>by simp [dT] at hz,λ_=>?_⟩
 ·rw [rg,sX hk];have:=LT ht h0 (sX hk);unfold gC au;simp;omega
theorem Ow{u:Nat}(hu:1099511627776<=u)(t:cS){m:ai}{b:List Int}(hm:M.DrMan m b)(hg:m.aP≠0)(ht:M.tells m b=true):nD u m b=some ⟨true,-1,0,m,kh m b,6,[],0⟩/\M.NodeIn t 0 ⟨true,-1,0,m,kh m b,6,[],0⟩:=by
 have h1:=hm.n;have h2:=hm.i.1;have mk:∀ n:aA,M.DrNode n->n.bd=[]->M.NodeIn t 0 n:=λn hn hk=>⟨hn.w,by rw [hk]; exact ⟨by simp [dT],by simp [dT]⟩,λz hz=>by rw [hk] at hz; simp [dT] at hz,λh=>absurd rfl h⟩;refine ⟨?_,mk _ (Rt hm (FU (AU hm.o hm.i.2 (by omega)) h1) (by simp) _ _ _ _ _) rfl⟩;have e0:(m.aP == 0)=false:=by simpa using hg
 unfold nD;rw [e0,gA hu m (by omega),hm.o];simp only [cond_false,wk,zQJ,BU hu m hm.i.2 (show b.length<=1048576 by omega),ht];unfold mh;simp only [cond_false,vY u (show m.aO.length<=1048576 by omega),wk,wQ hu (show m.aO.length<=1048576 by omega) hm.i.2 (show b.length<=1048576 by omega)]
theorem SZ{u:Nat}{b:List Int}(hb:mI 16 b)(g s:Int):M.DrMan (ga g b s) b:=by
 have h1:=hb.1;refine ⟨hb,GG _ hb.2 _,FI _ _ _,Jq _ _ _ hb.2,?_⟩;unfold ga
 split
 ·exact ⟨by simp,by simp; omega⟩
 ·simp
theorem Ox{u:Nat}(hu:1099511627776<=u){c:hZ}(hc:wc c=true){t:cS}(ht:Et t){b:List Int}(hb:mI 16 b){old:List aW}(ho:old.length=t.b9.length)(hol:∀ x∈old,mI 240 x.fB):Ev (pR u c t b old) M.NewW:=by
 have t1:=ht.2.1;have t2:=ht.2.2;have b1:=hb.1;have hs:dj c.av (b.length:Int)=true:=by
  unfold wc at hc;simp only [sk] at hc;have:=ce hc.1.1.1;unfold dj;simp only [hc.1.1.1,zWk];unfold au;simp;omega
 have hoo:Er old (t.b9.length:Int)=true:=by
  unfold Er;simp only [sk];refine ⟨List.all_eq_true.2 λx hx=>?_,by simp [ho]⟩;have:=(hol x hx).1;simp;omega
 have ht1:M.tells (ga 1 b c.av) b=true:=GH hs (by decide);have hg1:(ga 1 b c.av).aP≠0:=by rw [F3 hs (by decide)]; show (1:Int)≠0; decide
 obtain ⟨hr1,hr2⟩:=Ow hu t (SZ (u:=u) hb 1 c.av) hg1 ht1;have loop:∀ (m k i:Nat) (ns:List aA) (ds:List ar),i+m=t.b9.length->m < k->ns.length=i->ds.length=i ->
   (∀ (j:Nat) (n:aA),ns[j]?=some n->n=if j=0 then ⟨true,-1,0,ga 1 b c.av,kh (ga 1 b c.av) b,6,[],0⟩ else gP t j)->(∀ (j:Nat) (d:ar),ds[j]?=some d->∃ o,old[j]?=some o/\d=⟨o.fB,[],⟨0,0,o.fB.length⟩,[]⟩) ->
   Ev (dH u k b old (i:Int) c t old ns ds) M.NewW:=by
  intro m
  induction m with
  | zero =>
   intro k i ns ds hi hk h1 h2 h3 h4;obtain ⟨k,rfl⟩:∃ j,k=j+1:=⟨k - 1,by omega⟩;unfold dH;have:¬ (i:Int) < (t.b9.length:Int):=by omega
   simp only [this,decide_false,cond_false,o3];refine cC ⟨⟨⟨ht.1,by show ns.length=t.b9.length; omega,by show ds.length=t.b9.length; omega,λj n hn=>?_,λj d hd=>?_,λp hp=>by simp at hp,by simp⟩,ho,hol,by simpa using hb,by simp⟩,rfl,rfl,rfl,hc,by simpa using hs,λn hn=>by simpa using h3 0 n hn,λj n h0 hn=>(h3 j n hn).trans (if_neg h0),λj d o hd ho'=>?_⟩
   ·have e:=h3 j n hn
    by_cases h0:j=0
    ·subst h0;rw [e,if_pos rfl];exact hr2
    ·rw [e,if_neg h0];exact Qt ht.1 (by omega) (by have:=(List.getElem?_eq_some_iff.1 hn).1; have:j < ns.length:=this; omega)
   ·obtain ⟨o,h5,h6⟩:=h4 j d hd;rw [h6];exact UX (hol o (zQQ h5))
   ·obtain ⟨o',h5,h6⟩:=h4 j d hd;have ho':old[j]?=some o:=ho';rw [h5] at ho'
    cases ho'
    exact h6
  | succ m ih =>
   intro k i ns ds hi hk h1 h2 h3 h4;obtain ⟨k,rfl⟩:∃ j,k=j+1:=⟨k - 1,by omega⟩;unfold dH;have hlt:(i:Int) < (t.b9.length:Int):=by omega
   simp only [hlt,decide_true,cond_true];have step:∀ n:aA,(n=if i=0 then ⟨true,-1,0,ga 1 b c.av,kh (ga 1 b c.av) b,6,[],0⟩ else gP t i)->Ev (iD u (λz0 z1 z2 z3 z4 z5 z6 z7=>dH u k z0 z1 z2 z3 z4 z5 z6 z7) b old (i:Int) c t old ns ds n.fq n.bP n.bC n.aw.aP n.aw.av n.aw.aX n.aw.aO n.bu.bn n.bu.ca n.aY n.bd n.bx) M.NewW:=by
    intro n hn;unfold iD;obtain ⟨x,hx⟩:∃ x,old[i]?=some x:=⟨_,sX (by omega)⟩;have hxl:=(hol x (zQQ hx)).1;refine lW (by simp; omega) (gV (i6 old i hx) (gV (Jw u (g:=0) (by decide) (by decide) hxl).1 (lW (by simp; omega) ?_)));rw [ep (show i < 9223372036854775807 by omega)];refine ih k (i+1) _ _ (by omega) (by omega) (by simp [h1]) (by simp [h2]) (λj n' hj=>?_) (λj d' hj=>?_)
    ·by_cases hji:j < ns.length
     ·rw [zQW hji] at hj;exact h3 j n' hj
     ·rw [zQX (by omega)] at hj
      cases hq:j - ns.length with
      | zero =>
       rw [hq] at hj;simp only [zWQ,Option.some.injEq] at hj;have:j=i:=by omega
       subst this hj;exact hn
      | succ q=>rw [hq] at hj; simp at hj
    ·by_cases hji:j < ds.length
     ·rw [zQW hji] at hj;exact h4 j d' hj
     ·rw [zQX (by omega)] at hj
      cases hq:j - ds.length with
      | zero =>
       rw [hq] at hj;simp only [zWQ,Option.some.injEq] at hj;have:j=i:=by omega
       subst this;exact ⟨x,hx,hj.symm⟩
      | succ q=>rw [hq] at hj; simp at hj
   refine gV (yo hu (by omega) _) ?_
   cases i with
   | zero =>
    refine cm (λ_=>?_) (λe=>by simp at e);refine gV (r:=sP u _) (v:=ga 1 b c.av) ?_ (gV hr1 (step _ rfl));unfold sP;simp only [zQy];rw [w9 hu hb.2 (by omega)];rfl
   | succ i =>
    refine cm (λe=>?_) (λ_=>step _ (by simp));simp at e;omega
 unfold pR;refine gV (JX u c) ?_;rw [hc];refine cm (λe=>by cases e) λ_=>gV (vW hu (by omega)) ?_;rw [ht.1];refine cm (λe=>by cases e) λ_=>gV (oM u _ _) ?_;rw [hs];refine cm (λe=>by cases e) λ_=>gV (HI hu (by omega) _) ?_;rw [hoo];unfold ki;refine cm (λe=>by cases e) λ_=>lW (by simp; omega) (lW (by simp; omega) (gV (wS hu (by omega) λx hx=>by have:=(hol x hx).1; omega) ?_));exact loop t.b9.length u 0 [] [] (by omega) (by omega) rfl rfl (λj n h=>by simp at h) (λj n h=>by simp at h)
theorem Rv{u:Nat}(hu:1099511627776<=u){c:aG}(hc:Cu c):Ev (tI u c) λv=>M.NewW v.1/\Cu v.2:=by
 unfold tI;refine bE (JZ u hu hc) λr1 hr1=>bE (PM hu hr1.2) λr2 hr2=>?_;have t1:=hr1.1.2.1;have t2:=hr1.1.2.2;have loop:∀ (m k i:Nat) (xs:List aW) (c:aG),i+m=r1.1.b9.length->m < k->xs.length=i->(∀ x∈xs,mI 240 x.fB)->Cu c->Ev (ib u k r2 xs (i:Int) r1 c.fB c.fI c.fH) λv=>M.NewW v.1/\Cu v.2:=by
  intro m
  induction m with
  | zero =>
   intro k i xs c hi hk h1 h2 hc;obtain ⟨k,rfl⟩:∃ j,k=j+1:=⟨k - 1,by omega⟩;unfold ib;have:¬ (i:Int) < (r1.1.b9.length:Int):=by omega
   simp only [this,decide_false,cond_false,rv];exact bE (J1 u (y0 hc)) λq hq=>bE (Ox hu hq.1 hr1.1 hr2.1 (by omega) h2) λw hw=>cC ⟨hw,hq.2⟩
  | succ m ih =>
   intro k i xs c hi hk h1 h2 hc;obtain ⟨k,rfl⟩:∃ j,k=j+1:=⟨k - 1,by omega⟩;unfold ib;have hlt:(i:Int) < (r1.1.b9.length:Int):=by omega
   simp only [hlt,decide_true,cond_true];refine bE (UV hu (y0 hc) (J0 hr2.1 (by omega))) λq hq=>lW (by simp; omega) ?_;rw [ep (show i < 9223372036854775807 by omega)];refine ih k (i+1) _ q.2 (by omega) (by omega) (by simp [h1]) (λx hx=>?_) hq.2;rcases List.mem_append.1 hx with hx | hx
   ·exact h2 x hx
   ·simp only [zYY,zZh,or_false] at hx;subst hx;exact hq.1
 exact loop r1.1.b9.length u 0 [] r2.2 (by omega) (by omega) rfl (by simp) hr2.2
theorem PP(u:Nat){c:aG}(hc:Cu c){b:List Int}{N:Nat}(hN:N<=1000000)(hb:b.length<=N)(hB:ay b):Dr (mN u c b) (mI (N+1)):=by
 unfold mN;rw [bD (by simp; omega)];simp only [wk,zQy];have hlt:∀ {v:Int},0<=v->v < (b.length:Int)->∃ y,dV b v=some y:=λ{v} h0 h1=>by
  obtain ⟨i,rfl⟩:∃ i:Nat,v=(i:Int):=⟨v.toNat,by omega⟩;exact ⟨b[i]'(by omega),by rw [dg]; exact sX (by omega)⟩
 have self:mI (N+1) b:=⟨by omega,hB⟩;refine cz (cH u hc 6) λn c1 _ h1=>?_;simp only
 cases n == 0 with
 | true =>
  simp only [cond_true]
  by_cases hl:(b.length:Int) > 0
  ·simp only [hl,decide_true,cond_true];refine cz (cH u h1 _) λv c2 hv h2=>?_;refine cz (cH u h2 256) λw c3 _ h3=>?_;obtain ⟨y,hy⟩:=hlt hv.1 (hv.2 hl);simp only [hy,wk,cn];exact cU ⟨by rw [zXG]; omega,Bj hB _ (Rc _)⟩ h3
  ·simp only [hl,decide_false,cond_false,cn];exact cU self h1
 | false =>
  simp only [cond_false]
  cases n == 1 with
  | true =>
   simp only [cond_true];rw [ep (by omega)];refine cz (cH u h1 _) λv c2 hv h2=>?_;have h3:=hv.2 (by omega);have hs:cO 0 v (b.length:Int)=true:=by simp [cO]; omega
   simp only [hs,DA,wk,cn];exact cU ⟨by rw [zYK,zQz]; omega,yS (yR hB _) _⟩ h2
  | false =>
   simp only [cond_false]
   cases n == 2 with
   | true =>
    simp only [cond_true];refine cz (nx u h1 (by simp)) λv c2 _ h2=>?_;rw [bD (by simp; omega)];simp only [wk,cn];exact cU ⟨by rw [zQK,zYG]; omega,u9 hB (FN _)⟩ h2
   | false =>
    simp only [cond_false]
    cases n == 3 with
    | true =>
     simp only [cond_true]
     by_cases hl:(b.length:Int) > 0
     ·simp only [hl,decide_true,cond_true];refine cz (cH u h1 _) λv c2 hv h2=>?_;obtain ⟨y,hy⟩:=hlt hv.1 (hv.2 hl);simp only [hy,wk];refine cz (cH u h2 8) λw c3 hw h3=>?_;have hw0:=hw.1;simp only [hy];rw [bD hw0];simp only [wk,cn];exact cU ⟨by rw [zXG]; omega,Bj hB _ (by unfold Mb; exact Rc _)⟩ h3
     ·simp only [hl,decide_false,cond_false,cn];exact cU self h1
    | false =>
     simp only [cond_false,cn];exact cU self h1
def HK(out:List ah):Prop:=∀ q∈out,q.fB.length<=1000
theorem Qu:HK []:=λq hq=>by simp at hq
theorem VF(me t:Int)(m:fe):(eK me t m).fB.length<=1000:=by
 have:=CK m;show (cN m).length<=1000;omega
theorem Vp{me t:Int}(m:fe):HK [eK me t m]:=λq hq=>by
 simp only [zQV] at hq;subst hq; exact VF _ _ _
theorem MR{n:aA}{me f:Int}:HK (eV n me f).iB:=λq hq=>by
 unfold eV at hq;simp only [zYJ] at hq;obtain ⟨i,_,rfl⟩:=hq;exact VF _ _ _
theorem KZ{n:aA}{me f:Int}(m:fe):HK (cP n me f m).iB:=by
 unfold cP
 split
 ·exact Qu
 ·split
  ·exact Vp _
  ·split
   ·dsimp only
    split
    ·exact Vp _
    ·exact MR
   ·exact Vp _
theorem UZ{n:aA}{me i:Int}:∀ (l:List bM) (s:List bM×List ah),HK s.2->HK (l.foldl (dC n me i) s).2:=by
 intro l
 induction l with
 | nil=>intro s h; exact h
 | cons x l ih =>
  intro s h;refine ih _ λq hq=>?_;unfold dC at hq
  split at hq
  ·simp only [zWH,zQV] at hq;rcases hq with hq | rfl
   ·exact h q hq
   ·exact VF _ _ _
  ·exact h q hq
theorem PQ{n:aA}{me i:Int}:HK (d7 n me i).iB:=by
 unfold d7
 split
 ·exact UZ _ _ Qu
 ·exact Qu
theorem T4{t:cS}{me:Int}{n:aA}(d:ar)(p:ah):HK (M.take t me n d p).iB:=by
 unfold M.take
 split
 ·exact Qu
 ·split
  ·split
   ·exact KZ _
   ·split
    ·unfold fY
     split
     ·exact Qu
     ·split
      ·unfold eL
       split
       ·exact Qu
       ·split
        ·exact Qu
        ·split
         ·exact PQ
         ·exact Qu
      ·first | exact Qu | (split <;> exact Qu)
    ·exact Qu
  ·exact Qu
theorem T5{t:cS}(c:hZ){k:Int}{n:aA}(d:ar):HK (M.tick t c k n d).iB:=by
 unfold M.tick
 split
 ·exact Qu
 ·split
  ·exact Qu
  ·split
   ·exact Vp _
   ·exact Vp _
structure M.DrN (n:Nat) (w:World):Prop where
 d:M.DrW w
 len:∀ p∈w.bk,p.fB.length<=1000+n
 l0:0<=w.bj
 l1:w.bj<=n*1048577
theorem Qv{w:World}(h:M.DrW w)(h0:w.bk=[])(h1:w.bj=0):M.DrN 0 w:=⟨h,λp hp=>by rw [h0] at hp; simp at hp,by omega,by omega⟩
theorem CM{n:Nat}{w:World}(h:M.DrN n w):M.DrN (n+1) w:=⟨h.d,λp hp=>by have:=h.len p hp; omega,h.l0,by have:=h.l1; omega⟩
theorem PS{N K:Nat}(hN:1000<=N):∀ (out:List ah) (s:List ah×List cE×Int),HK out->(∀ p∈s.1,p.fB.length<=N)->s.2.1.length<=3000->0<=s.2.2->s.2.2<=K->K+out.length<=4611686018427387904 ->
  (∀ p∈(out.foldl cW s).1,p.fB.length<=N)/\(out.foldl cW s).2.1.length<=3000/\0<=(out.foldl cW s).2.2/\(out.foldl cW s).2.2<=K+out.length:=by
 intro out
 induction out generalizing K with
 | nil=>intro s _ h1 h2 h3 h4 _; exact ⟨h1,h2,h3,by simpa using h4⟩
 | cons x out ih =>
  intro s hs h1 h2 h3 h4 h5;simp only [zQH] at h5;rw [zXh];have hx:=hs x (by simp);have hs':HK out:=λq hq=>hs q (by simp [hq])
  by_cases hl:400<=s.1.length
  ·have e:cW s x=(s.1,s.2.1,be .i64 s.2.2 1):=by unfold cW; rw [if_pos hl]
   rw [e,dE (by omega) (by omega)];obtain ⟨a,b,c,d⟩:=ih (K:=K+1) (s.1,s.2.1,s.2.2+1) hs' h1 h2 (by show 0<=s.2.2+1; omega) (by show s.2.2+1<=((K+1:Nat):Int); omega) (by omega);exact ⟨a,b,c,by simp only [zQH]; omega⟩
  ·have e:(cW s x).1=s.1++[x]/\(cW s x).2.2=s.2.2/\(cW s x).2.1.length<=3000:=by
    unfold cW;rw [if_neg hl];refine ⟨rfl,rfl,?_⟩;dsimp only
    split
    ·rename_i hc;simp only [sk,decide_eq_true_eq] at hc;simp only [zQK,zYG];omega
    ·exact h2
   obtain ⟨a,b,c,d⟩:=ih (K:=K) (cW s x) hs' (λp hp=>by
    rw [e.1] at hp;rcases List.mem_append.1 hp with hp | hp
    ·exact h1 p hp
    ·simp only [zQV] at hp;subst hp;omega) e.2.2 (by rw [e.2.1]; exact h3) (by rw [e.2.1]; exact h4) (by omega)
   exact ⟨a,b,c,by simp only [zQH]; omega⟩
theorem Oy{n:Nat}{w:World}(hn:n<=1000)(h:M.DrN n w){out:List ah}(ho:∀ p∈out,M.PkIn w.fT p)(hs:HK out)(hl:out.length<=1048576):M.DrN (n+1) (uA w out):=by
 have l1:=h.l1;obtain ⟨a,b,c,d⟩:=PS (N:=1000+n) (K:=n*1048577) (by omega) out (w.bk,w.cL,w.bj) hs h.len h.d.log h.l0 (by show w.bj<=((n*1048577:Nat):Int); omega) (by omega);exact ⟨⟨SN h.d.wf ho,h.d.ol,h.d.old,h.d.new,b⟩,λp hp=>by have:=a p hp; omega,c,by show (out.foldl cW (w.bk,w.cL,w.bj)).2.2<=_; omega⟩
theorem Oz(s:Int):∀ (l:List c8) (i:Nat) (d:ar),(∀ p∈l,ay p.fB)->M.DB d->M.DB (kU s l i d)
 | [],i,d,_,hd=>⟨hd.a,hd.b,by simp [kU]⟩
 | p :: l,i,d,h,hd=>by
  unfold kU;refine Oz s l (i+1) _ (λq hq=>h q (by simp [hq])) ?_
  split
  ·exact LS hd (h p (by simp))
  ·exact hd
theorem T6{d:ar}(hd:M.DiskIn d)(s:Int):M.DiskIn (M.fall d s):=by
 refine ⟨TN hd.o s,?_,?_⟩
 ·unfold M.fall
  split
  ·exact Oz s _ _ _ (λp hp=>hd.b.p p hp) hd.b
  ·exact hd.b
 ·cases h:cd d with
  | true=>rw [SB h]; simp
  | false=>unfold M.fall; rw [h]; exact hd.l
theorem OA{n:Nat}{w:World}(h:M.DrN n w){k:Nat}{x:aA}{d:ar}(hn:M.NodeIn w.fT k x)(hd:M.DiskIn d):M.DrN n (jy w k x d):=⟨⟨Om h.d.wf hn hd,h.d.ol,h.d.old,h.d.new,h.d.log⟩,h.len,h.l0,h.l1⟩
theorem Uu{n:Nat}{w:World}(h:M.DrN n w){k:Nat}{x:aA}(hn:M.NodeIn w.fT k x):M.DrN n (CL w k x):=⟨⟨SP h.d.wf hn,h.d.ol,h.d.old,h.d.new,h.d.log⟩,h.len,h.l0,h.l1⟩
theorem K2{n:Nat}{w:World}(hn:n<=1000)(h:M.DrN n w){k:Nat}(hk:k < w.fT.b9.length):M.DrN (n+1) (oQ w k):=by
 unfold oQ
 split
 ·rename_i x d hx hd;have g:=Qp h.d.wf.t w.fC hk (h.d.wf.nodes k x hx) (h.d.wf.disks k d hd);exact Oy hn (OA h g.1 g.2.1) g.2.2.1 (T5 _ _) g.2.2.2
 ·exact CM h
theorem S0{n:Nat}{w:World}(h:M.DrN n w)(k:Nat):M.DrN n (wb w k):=by
 refine ⟨⟨SO h.d.wf k,h.d.ol,h.d.old,h.d.new,h.d.log⟩,λp hp=>?_,h.l0,h.l1⟩;rcases List.mem_append.1 hp with hp | hp
 ·exact h.len p (zQg hp)
 ·exact h.len p (zWq hp)
theorem K3{n:Nat}{w:World}(hn:n<=1000)(h:M.DrN n w)(k:Nat):M.DrN (n+1) (oS w k):=by
 unfold oS
 split
 ·rename_i p hp;have hpi:=h.d.wf.net p (zQQ hp);obtain ⟨j,e,hj⟩:=JW hpi.t;have hpl:=S0 h k;unfold AY
  split
  ·rename_i x d hx hd;rw [e,rg] at hx hd ⊢;have g:=Qq (p:=p) hj (hpl.d.wf.nodes j x hx) (hpl.d.wf.disks j d hd) hpi;exact Oy hn (Uu hpl g.1) g.2.1 (T4 _ _) g.2.2
  ·exact CM hpl
 ·exact CM h
theorem S1{n:Nat}{w:World}(h:M.DrN n w)(hl:w.bk.length < 400){p:ah}(hp:M.PkIn w.fT p)(hb:p.fB.length<=1000+(n+1)):M.DrN (n+1) ⟨w.fC,w.fT,w.bN,w.bI,w.fN,w.fD,w.bk++[p],w.cL,w.bj⟩:=by
 refine ⟨⟨⟨h.d.wf.t,h.d.wf.nl,h.d.wf.dl,h.d.wf.nodes,h.d.wf.disks,λq hq=>?_,by simp; omega⟩,h.d.ol,h.d.old,h.d.new,h.d.log⟩,λq hq=>?_,h.l0,by have:=h.l1; show w.bj<=_; omega⟩
 ·rcases List.mem_append.1 hq with hq | hq
  ·exact h.d.wf.net q hq
  ·simp only [zQV] at hq;subst hq;exact hp
 ·rcases List.mem_append.1 hq with hq | hq
  ·have:=h.len q hq;omega
  ·simp only [zQV] at hq;subst hq;exact hb
theorem oT{z:Int}{m:Nat}(h:au z 0 ((m:Int) - 1)=true):∃ j:Nat,z=j/\j < m:=by
 have:=ce h;exact ⟨z.toNat,by omega,by omega⟩
def jJ:aA:=⟨false,0,0,⟨0,0,0,[]⟩,⟨0,[]⟩,0,[],0⟩
inductive M.Step (w:World) (e:cq):World->Prop
 | no:M.Step w e w
 | tick (j:Nat) (hj:j < w.fT.b9.length):M.Step w e (oQ w j)
 | take (j:Nat) (hj:j < w.bk.length):M.Step w e (oS w j)
 | lose (l:List ah) (hs:∀ p∈l,p∈w.bk) (hl:l.length<=w.bk.length):M.Step w e ⟨w.fC,w.fT,w.bN,w.bI,w.fN,w.fD,l,w.cL,w.bj+1⟩
 | push (p:ah) (hl:w.bk.length < 400) (hi:M.PkIn w.fT p) (hf:(∃ q∈w.bk,q.fB=p.fB)\/e.bl=7/\p.fB=e.fP.fB):M.Step w e ⟨w.fC,w.fT,w.bN,w.bI,w.fN,w.fD,w.bk++[p],w.cL,w.bj⟩
 | fall (j:Nat) (d:ar) (hj:j < w.fT.b9.length) (h0:j≠0) (hd:w.fD[j]?=some d) (s:Int):M.Step w e (jy w j jJ (M.fall d s))
 | rise (j:Nat) (n:aA) (hj:j < w.fT.b9.length) (h0:0 < j) (hn:w.fN[j]?=some n) (ho:n.fq=false):M.Step w e (CL w j (gP w.fT j))
theorem T7{u:Nat}(hu:1099511627776<=u){w:World}(h:M.WWf w)(l0:0<=w.bj)(l1:w.bj<=1099511627776){e:cq}(hb:ay e.fP.fB)(hl:e.fP.fB.length<=1048576):Ev (m4 u w e) λv=>M.Step w e v.2:=by
 have up:=AX h;have nl:=h.nl;have dl:=h.dl;have pl:=h.len;have get:∀ {j:Nat},j < w.fT.b9.length->∃ x d,w.fN[j]?=some x/\w.fD[j]?=some d:=λ{j} hj=>⟨_,_,sX (by omega),sX (by omega)⟩;have none_:Ev (some (false,w)) λv=>M.Step w e v.2:=cC .no;unfold m4;rw [dP (by omega) (by omega),dP (by omega) (by omega)];refine gV (bH u e.fN 0 _) (gV (bH u e.fN 0 _) ?_);refine cm (λ_=>cm (λe1=>?_) (λ_=>?_)) (λ_=>?_)
 ·obtain ⟨j,ej,hj⟩:=oT e1;rw [ej];refine gV (HG hu h (by omega)) ?_;unfold nJ;exact cC (.tick j (by omega))
 ·unfold nJ;exact cC .no
 refine cm (λ_=>cm (λe1=>?_) (λ_=>?_)) (λ_=>?_)
 ·obtain ⟨j,ej,hj⟩:=oT e1;rw [ej];refine gV (HH hu h hj) ?_;unfold nK;exact cC (.take j hj)
 ·unfold nK;exact cC .no
 refine cm (λ_=>cm (λe1=>?_) (λ_=>?_)) (λ_=>?_)
 ·obtain ⟨j,ej,hj⟩:=oT e1;rw [ej];rw [ep (show j < 9223372036854775807 by omega),dE (show -9223372036854775808<=w.bj+1 by omega) (show w.bj+1<=9223372036854775807 by omega)];refine lW (by simp [cO]; omega) (lW (by simp; omega) (lW (by simp [cO]; omega) (lW (by simp; omega) ?_)));unfold nL;refine cC (.lose _ (λp hp=>?_) ?_)
  ·simp only [zQy,zWH] at hp;rcases hp with hp | hp
   ·exact zQg (zWq hp)
   ·exact zQg (zWq hp)
  ·simp;omega
 ·unfold nL;exact cC .no
 refine cm (λ_=>?_) (λ_=>?_)
 ·have j4:∀ x:Bool,(x=false->w.bk.length < 400/\au e.fN 0 ((w.bk.length:Int) - 1)=true)->Ev (jX u x e w) λv=>M.Step w e v.2:=by
   intro x hx;unfold jX;refine cm (λ_=>none_) (λe2=>?_);obtain ⟨a1,a2⟩:=hx e2;obtain ⟨j,ej,hj⟩:=oT a2;rw [ej];have hp:=sX hj;have hpi:=h.net _ (zQQ hp);have hpb:=hpi.w.2;refine gV (i6 _ j hp) (lW (by simp; omega) (lW (by simp; omega) (cC ?_)));exact .push _ a1 ⟨by simpa [xi] using hpi.w,hpi.f,hpi.t⟩ (.inl ⟨_,zQQ hp,by simp⟩)
  refine cm (λ_=>j4 _ (λe=>by cases e)) (λe1=>j4 _ λe2=>⟨?_,by simpa using e1⟩);simp at e2;omega
 refine cm (λ_=>?_) (λ_=>?_)
 ·have j5:∀ x:Bool,(x=false->au e.fN 0 ((w.fN.length:Int) - 1)=true/\e.fN≠0)->Ev (iZ u x e w) λv=>M.Step w e v.2:=by
   intro x hx;unfold iZ;refine cm (λ_=>none_) (λe2=>?_);obtain ⟨j,ej,hj⟩:=oT (hx e2).1;have h0:j≠0:=by have:=(hx e2).2; omega
   rw [ej];obtain ⟨y,d,hy,hd⟩:=get (j:=j) (by omega);refine gV (i6 _ j hy) (gV rfl (gV (i6 _ j hy) (gV (i6 _ j hd) (gV (r:=xC u d e.fS) (v:=M.fall d e.fS) ?_ (gV (i6 _ j hd) (cC ?_))))))
   ·unfold xC;rw [Ms hu (h.disks j d hd).o];rfl
   ·rw [rg];exact .fall j d (by omega) h0 hd _
  refine cm (λ_=>j5 _ (λe=>by cases e)) (λe1=>cm (λ_=>j5 _ (λe=>by cases e)) (λe0=>?_));have e1:au e.fN 0 ((w.fN.length:Int) - 1)=true:=by simpa using e1
  obtain ⟨j,ej,hj⟩:=oT e1;obtain ⟨y,d,hy,hd⟩:=get (j:=j) (by omega);rw [show dV w.fN e.fN=some y by rw [ej]; exact i6 _ j hy];exact j5 _ λ_=>⟨e1,by simpa using e0⟩
 refine cm (λ_=>?_) (λ_=>?_)
 ·have j6:∀ x:Bool,(x=false->au e.fN 0 ((w.fN.length:Int) - 1)=true/\e.fN≠0/\∀ y,dV w.fN e.fN=some y->y.fq=false)->Ev (i1 u x e w) λv=>M.Step w e v.2:=by
   intro x hx;unfold i1;refine cm (λ_=>none_) (λe2=>?_);obtain ⟨j,ej,hj⟩:=oT (hx e2).1;have h0:0 < j:=by have:=(hx e2).2.1; omega
   have hon:=(hx e2).2.2;rw [ej] at hon ⊢;obtain ⟨y,d,hy,hd⟩:=get (j:=j) (by omega);refine gV (yo hu (by omega) _) (gV (i6 _ j hy) (cC ?_));rw [rg];exact .rise j y (by omega) h0 hy (hon y (i6 _ j hy))
  refine cm (λ_=>j6 _ (λe=>by cases e)) (λe1=>cm (λ_=>j6 _ (λe=>by cases e)) (λe0=>?_));have e1:au e.fN 0 ((w.fN.length:Int) - 1)=true:=by simpa using e1
  obtain ⟨j,ej,hj⟩:=oT e1;obtain ⟨y,d,hy,hd⟩:=get (j:=j) (by omega);have hi:dV w.fN e.fN=some y:=by rw [ej]; exact i6 _ j hy
  rw [hi];exact j6 _ λe2=>⟨e1,by simpa using e0,λz hz=>by rw [hi] at hz; cases hz; exact e2⟩
 refine cm (λe7=>?_) (λ_=>none_);have j7:∀ x:Bool,(x=false->w.bk.length < 400/\au e.fP.dn 0 ((w.fN.length:Int) - 1)=true/\au e.fP.qL 0 ((w.fN.length:Int) - 1)=true)->Ev (jY u x e w) λv=>M.Step w e v.2:=by
  intro x hx;unfold jY;refine cm (λ_=>none_) (λe2=>?_);obtain ⟨a1,a2,a3⟩:=hx e2;refine lW (by simp; omega) (lW (by simp; omega) (cC ?_));rw [nl] at a2 a3;exact .push _ a1 ⟨⟨by simpa using hb,by simp; omega⟩,a2,a3⟩ (.inr ⟨by simpa using e7,by simp⟩)
 have nodes:lR u w e.fP=some (au e.fP.dn 0 ((w.fN.length:Int) - 1) && au e.fP.qL 0 ((w.fN.length:Int) - 1)):=by
  unfold lR;rw [dP (by omega) (by omega),bH,bH];simp only [wk]
  cases au e.fP.dn 0 ((w.fN.length:Int) - 1) <;> rfl
 refine gV nodes (cm (λ_=>j7 _ (λe=>by cases e)) (λe1=>j7 _ λe2=>?_));simp only [Bool.not_eq_false',sk] at e1;simp at e2;exact ⟨by omega,e1.1,e1.2⟩
theorem OB{n:Nat}(hn:n<=1000){w w':World}(h:M.DrN n w){e:cq}(hl:e.fP.fB.length<=1000+(n+1))(hs:M.Step w e w'):M.DrN (n+1) w':=by
 have up:=AX h.d.wf;have nl:=h.d.wf.nl;have dl:=h.d.wf.dl;have pl:=h.d.wf.len
 cases hs with
 | no=>exact CM h
 | tick j hj=>exact K2 hn h hj
 | take j hj=>exact K3 hn h j
 | lose l hs hl =>
  have l1:=h.l1;have l0:=h.l0;exact ⟨⟨⟨h.d.wf.t,nl,dl,h.d.wf.nodes,h.d.wf.disks,λp hp=>h.d.wf.net p (hs p hp),zWx hl pl⟩,h.d.ol,h.d.old,h.d.new,h.d.log⟩,λp hp=>by have:=h.len p (hs p hp); omega,by show 0<=w.bj+1; omega,by show w.bj+1<=_; omega⟩
 | push p hl' hi hf =>
  refine S1 h hl' hi ?_;rcases hf with ⟨q,hq,he⟩ | ⟨_,he⟩
  ·have:=h.len q hq;rw [<- he]; omega
  ·rw [he]; exact hl
 | fall j d hj h0 hd s =>
  exact CM (OA h ⟨⟨by simp [jJ],⟨by simp [jJ,ay],by simp [jJ]⟩,by simp [jJ],PN⟩,⟨by simp [dT,jJ],by simp [dT,jJ]⟩,λz hz=>by simp [dT,jJ] at hz,λ_=>by unfold gC au jJ; simp; omega⟩ (T6 (h.d.wf.disks j d hd) _))
 | rise j n hj h0 hn ho=>exact CM (Uu h (Qt h.d.wf.t h0 hj))
theorem PT{u:Nat}(hu:1099511627776<=u){c:aG}(hc:Cu c):Ev (rz u c) λv=>M.MsgWf v.1/\Cu v.2:=by
 unfold rz;refine bE (dm u hc _) λr hr=>cm (λ_=>?_) (λ_=>cm (λ_=>?_) (λ_=>cm (λ_=>?_) (λ_=>?_)))
 ·exact bE (Rs hu hr.2) λq hq=>cC ⟨⟨by have:=hq.1.n; show q.1.aO.length<=_; omega,hq.1.w,by simp [ay],by simp⟩,hq.2⟩
 ·exact bE (SR u hr.2) λa ha=>bE (dm u ha _) λb hb=>bE (dm u hb.2 _) λd hd=>gV rfl (cC ⟨CI _ _ _,hd.2⟩)
 ·refine bE (Es (wN hu hr.2 (n:=5) (by omega))) λa ha=>lW (by have:=ha.1.1; simp; omega) (bE (dm u ha.2 _) λb hb=>bE (dm u hb.2 _) λd hd=>?_);have h1:=ha.1.1;refine gV (ux u _ _ (by simp; omega)) (cC ⟨yX _ _ ?_ (by simp; omega),hd.2⟩);intro x hx;rcases List.mem_append.1 hx with hx | hx
  ·simp only [zYY,zZh,or_false] at hx;subst hx;omega
  ·exact ha.1.2 x hx
 ·exact bE (dm u hr.2 _) λb hb=>cC ⟨⟨by simp,PN,by simp [ay],by simp⟩,hb.2⟩
theorem PU{u:Nat}(hu:1099511627776<=u){c:aG}(hc:Cu c){n:Nat}(hn:n<=100):Ev (uM u c n) λv=>mI n v.1/\Cu v.2:=by
 have loop:∀ (m k i:Nat) (xs:List Int) (c:aG),i+m=n->m < k->xs.length=i->ay xs->Cu c->Ev (gF u k n xs (i:Int) c.fB c.fI c.fH) λv=>mI n v.1/\Cu v.2:=by
  intro m
  induction m with
  | zero =>
   intro k i xs c hi hk h1 h2 hc;obtain ⟨k,rfl⟩:∃ j,k=j+1:=⟨k - 1,by omega⟩;unfold gF;have:¬ (i:Int) < (n:Int):=by omega
   simp only [this,decide_false,cond_false,qs];exact cC ⟨⟨by show xs.length<=n; omega,h2⟩,hc⟩
  | succ m ih =>
   intro k i xs c hi hk h1 h2 hc;obtain ⟨k,rfl⟩:∃ j,k=j+1:=⟨k - 1,by omega⟩;unfold gF;have hlt:(i:Int) < (n:Int):=by omega
   simp only [hlt,decide_true,cond_true];refine bE (Es (xZ u (y0 hc))) λq hq=>lW (by simp; omega) ?_;rw [ep (show i < 9223372036854775807 by omega)];refine ih k (i+1) _ q.2 (by omega) (by omega) (by simp [h1]) ?_ hq.2;intro x hx;rcases List.mem_append.1 hx with hx | hx
   ·exact h2 x hx
   ·simp only [zYY,zZh,or_false] at hx;subst hx;exact Rc _
 exact loop n u 0 [] c (by omega) (by omega) rfl (by simp [ay]) hc
def A0(w:World)(b:List Int):Prop:=(bR b).2=false\/(bR b).1.bl=4\/(bR b).1.bl=3\/∃ q∈w.bk,q.fB=b
theorem GI{u:Nat}(hu:1099511627776<=u){w:World}(hw:M.WWf w){e:cq}(hb:ay e.fP.fB)(hn:e.fP.fB.length<=1048576):Ev (jU u w e) λr=>r=true->e.bl=7->A0 w e.fP.fB:=by
 have hl:=hw.len;unfold jU;have j1:∀ x:Bool,(x=true->A0 w e.fP.fB)->Ev (iF u x w e) λr=>r=true->e.bl=7->A0 w e.fP.fB:=by
  intro x hx;unfold iF;refine cm (λe1=>cC λ_ _=>hx e1) (λ_=>SQ (CC hu (by omega) e) λh _=>?_);obtain ⟨q,hq,e2⟩:=List.any_eq_true.1 h;rw [Mv (hw.net q hq).w.1 hb] at e2;exact .inr (.inr (.inr ⟨q,hq,of_decide_eq_true e2⟩))
 refine cm (λe1=>cC λ_ e2=>by simp [e2] at e1) (λ_=>gV (vV hu hb hn) (cm (λe1=>j1 _ λ_=>.inl (by simpa using e1)) (λ_=>cm (λe1=>j1 _ λ_=>.inr (.inl (by simpa using e1))) (λ_=>j1 _ λe1=>.inr (.inr (.inl (by simpa using e1)))))))
def Eu(n:Nat)(w:World)(e:cq):Prop:=(ay e.fP.fB/\e.fP.fB.length<=1000+(n+1))/\(e.bl=7->A0 w e.fP.fB)
theorem OC(w:World):A0 w []:=.inl rfl
theorem OD{u:Nat}(hu:1099511627776<=u){n:Nat}(hn:n<=1000){w:World}(h:M.DrN n w){c:aG}(hc:Cu c):Ev (lP u c w) λv=>Eu n w v.1/\Cu v.2:=by
 have pl:=h.d.wf.len;unfold lP;refine bE (dm u hc _) λr1 h1=>bE (dm u h1.2 _) λr2 h2=>bE (PT hu h2.2) λr3 h3=>gV (AV hu h3.1) ?_;have pb:=D8 h3.1;have pn:=CK r3.1;have j3:∀ (b:List Int) (c:aG),mI (1000+(n+1)) b->A0 w b->Cu c->Ev (mn u c.fB c.fI c.fH r1 r2 b) λv=>Eu n w v.1/\Cu v.2:=λb c hb hm hc=>cC ⟨⟨⟨hb.2,hb.1⟩,λ_=>hm⟩,hc⟩;have nil_:mI (1000+(n+1)) ([]:List Int):=⟨by simp,by simp [ay]⟩;have j2:∀ (b:List Int) (c:aG),mI (1000+(n+1)) b->Cu c->Ev (kj u r1 r2 b w c.fB c.fI c.fH) λv=>Eu n w v.1/\Cu v.2:=λb c hb hc=>by
  have:=hb.1;unfold kj;exact bE (GI hu h.d.wf (e:=cq.mk 7 0 0 (ah.mk r1.1 r2.1 b)) hb.2 (by show b.length<=_; omega)) λq hq=>cm (λ_=>j3 _ _ nil_ (OC w) hc) (λe=>j3 _ _ hb (hq (by simpa using e) rfl) hc)
 have j1:∀ (b:List Int) (c:aG),mI (1000+(n+1)) b->Cu c->Ev (kl u r1 r2 b w c.fB c.fI c.fH) λv=>Eu n w v.1/\Cu v.2:=λb c hb hc=>by
  have:=hb.1;unfold kl;exact bE (GI hu h.d.wf (e:=cq.mk 7 0 0 (ah.mk r1.1 r2.1 b)) hb.2 (by show b.length<=_; omega)) λq _=>cm (λ_=>bE (PU hu (y0 hc) (n:=3) (by omega)) λx hx=>j2 _ _ (J0 hx.1 (by omega)) hx.2) (λ_=>j2 _ _ hb hc)
 have j4:∀ (x:Bool) (c:aG),(x=true->0 < w.bk.length)->Cu c->Ev (km u x r1 r2 (cN r3.1) w c.fB c.fI c.fH) λv=>Eu n w v.1/\Cu v.2:=λx c hx hc=>by
  unfold km;refine cm (λe=>?_) (λ_=>j1 _ _ ⟨by omega,pb⟩ hc);have h0:=hx e;refine bE (dm u (y0 hc) _) λq hq=>?_;have hq1:=hq.1.2 (by omega);have hq0:=hq.1.1;obtain ⟨j,ej,hj⟩:∃ j:Nat,q.1=j/\j < w.bk.length:=⟨q.1.toNat,by omega,by omega⟩;rw [ej];have hp:=sX hj;have hpi:=h.d.wf.net _ (zQQ hp);have hpl:=h.len _ (zQQ hp);exact gV (i6 _ j hp) (bE (Es (PP u hq.2 (N:=1000+n) (by omega) hpl hpi.w.1)) λz hz=>j1 _ _ (J0 hz.1 (by omega)) hz.2)
 refine cm (λe=>bE (H8 u h3.2 2) λq hq=>j4 _ _ (λ_=>by simp at e; omega) hq) (λ_=>j4 _ _ (λe=>by cases e) h3.2)
theorem PV{u:Nat}(hu:1099511627776<=u){n:Nat}(hn:n<=1000){w:World}(h:M.DrN n w){c:aG}(hc:Cu c):Ev (mX u c w) λv=>Eu n w v.1/\Cu v.2:=by
 have nil_:∀ a b s,Eu n w (cq.mk a b s (ah.mk 0 0 [])):=λa b s=>⟨⟨by simp [ay],by simp⟩,λ_=>OC w⟩;unfold mX;refine bE (dm u hc _) λr1 h1=>bE (dm u h1.2 _) λr2 h2=>cm (λ_=>bE (AZ u h2.2 (by simp)) λq hq=>cC ⟨nil_ _ _ _,hq.2⟩) (λ_=>cm (λ_=>cC ⟨nil_ _ _ _,h2.2⟩) (λ_=>cm (λ_=>bE (OD hu hn h h2.2) λq hq=>cC hq) (λ_=>?_)));have j1:∀ (x:Bool) (c:aG),Cu c->Ev (lc u r1 x w c.fB c.fI c.fH) λv=>Eu n w v.1/\Cu v.2:=λx c hc=>by
  unfold lc;refine cm (λ_=>gV (BL u _ _) (bE (dm u (y0 hc) _) λa ha=>bE (dm u ha.2 _) λb hb=>cm (λ_=>cC ⟨nil_ _ _ _,hb.2⟩) (λ_=>cm (λ_=>cC ⟨nil_ _ _ _,hb.2⟩) (λ_=>cC ⟨nil_ _ _ _,hb.2⟩)))) (λ_=>cC ⟨nil_ _ _ _,hc⟩)
 exact cm (λ_=>bE (H8 u h2.2 3) λq hq=>j1 _ _ hq) (λ_=>j1 _ _ h2.2)
structure M.Inv (I:Nat->World->Prop):Prop where
 d:∀ n w,I n w->M.DrN n w
 new:∀ w,M.NewW w->I 0 w
 step:∀ n w e w',n<=1000->I n w->Eu n w e->M.Step w e w'->I (n+1) w'
theorem T8:M.Inv M.DrN:=⟨λ_ _ h=>h,λw h=>Qv h.d h.net h.lost,λn w e w' hn h hb hs=>OB hn h hb.1.2 hs⟩
theorem MS{I:Nat->World->Prop}(hI:M.Inv I){u:Nat}(hu:1099511627776<=u){r1:World×aG}:∀ (m k:Nat) (l:List cq) (b:Int) (c:aG) (w:World),l.length+m=400->m < k->I l.length w->Cu c ->
  Ev (c7 u k l b c.fB c.fI c.fH w.fC.av w.fC.aQ w.fC.aE w.fC.aN w.fT.b9 w.bN w.bI w.fN w.fD w.bk w.cL w.bj r1) λv=>(∃ n,n<=400/\I n v.2.2.1)/\Cu v.2.2.2:=by
 intro m
 induction m with
 | zero =>
  intro k l b c w hl hk h hc;obtain ⟨k,rfl⟩:∃ j,k=j+1:=⟨k - 1,by omega⟩;unfold c7;have j3:∀ x:Bool,x=false->Ev (gr u (λz0 z1 z2 z3 z4 z5 z6 z7 z8 z9 z10 z11 z12 z13 z14 z15 z16 z17=>c7 u k z0 z1 z2 z3 z4 z5 z6 z7 z8 z9 z10 z11 z12 z13 z14 z15 z16 z17) l b x c.fB c.fI c.fH w.fC.av w.fC.aQ w.fC.aE w.fC.aN w.fT.b9 w.bN w.bI w.fN w.fD w.bk w.cL w.bj r1) λv=>(∃ n,n<=400/\I n v.2.2.1)/\Cu v.2.2.2:=by
   intro x hx;unfold gr oz;exact cm (λe=>by rw [hx] at e; cases e) (λ_=>cC ⟨⟨l.length,by omega,h⟩,hc⟩)
  exact cm (λ_=>j3 _ (by simp; omega)) (λ_=>j3 _ rfl)
 | succ m ih =>
  intro k l b c w hl hk h hc;obtain ⟨k,rfl⟩:∃ j,k=j+1:=⟨k - 1,by omega⟩;unfold c7;have j3:∀ x:Bool,Ev (gr u (λz0 z1 z2 z3 z4 z5 z6 z7 z8 z9 z10 z11 z12 z13 z14 z15 z16 z17=>c7 u k z0 z1 z2 z3 z4 z5 z6 z7 z8 z9 z10 z11 z12 z13 z14 z15 z16 z17) l b x c.fB c.fI c.fH w.fC.av w.fC.aQ w.fC.aE w.fC.aN w.fT.b9 w.bN w.bI w.fN w.fD w.bk w.cL w.bj r1) λv=>(∃ n,n<=400/\I n v.2.2.1)/\Cu v.2.2.2:=by
   intro x;unfold gr oz;refine cm (λe=>?_) (λ_=>cC ⟨⟨l.length,by omega,h⟩,hc⟩);have hd:=hI.d _ _ h;have l1:=hd.l1;refine bE (PV hu (by omega) (w:=w) hd (y0 hc)) λq hq=>lW (by simp; omega) (bE (T7 hu (w:=w) hd.d.wf hd.l0 (by omega) (e:=q.1) hq.1.1.1 (by have:=hq.1.1.2; omega)) λv hv=>?_);exact ih k (l++[q.1]) _ q.2 v.2 (by simp; omega) (by omega) (by simpa using hI.step _ _ _ _ (by omega) h hq.1 hv) hq.2
  exact cm (λ_=>j3 _) (λ_=>j3 _)
theorem Rw{I:Nat->World->Prop}(hI:M.Inv I){u:Nat}(hu:1099511627776<=u){c:aG}(hc:Cu c)(n:Int):Ev (oA u c n) λv=>(∃ n,n<=400/\I n v.2.2.1)/\Cu v.2.2.2:=by
 unfold oA;refine bE (Rv hu hc) λr1 h1=>gV (HJ hu (SY h1.1.d)) (bE (dm u h1.2 _) λr3 h3=>?_);exact MS hI hu 400 u [] _ r3.2 r1.1 (by simp) (by omega) (hI.new _ h1.1) h3.2
theorem Ew{I:Nat->World->Prop}(hI:M.Inv I){u:Nat}(hu:1099511627776<=u){c:aG}(hc:Cu c)(n:Int):Ev (i2 u c n) λv=>(∃ n,n<=400/\I n v.1)/\Cu v.2:=by
 unfold i2;exact bE (Rw hI hu hc n) λr hr=>cC hr
theorem OE{u:Nat}(hu:1099511627776<=u){c:aG}(hc:Cu c)(n:Int):Ev (i2 u c n) λv=>M.DrN 400 v.1/\Cu v.2:=by
 have up:∀ (j n:Nat) {w:World},n+j=400->M.DrN n w->M.DrN 400 w:=λj=>by
  induction j with
  | zero=>intro n w h hd; exact (show n=400 by omega) ▸ hd
  | succ j ih=>intro n w h hd; exact ih (n+1) (by omega) (CM hd)
 exact Qr (Ew T8 hu hc n) λv hv=>by
  obtain ⟨⟨m,hm,h⟩,hc⟩:=hv;exact ⟨up (400 - m) m (by omega) h,hc⟩
structure M.AnyW (w:World):Prop where
 cp:M.WCp w
 t:w.fT.b9.length<=7
 nl:w.fN.length<=7
 dl:w.fD.length<=7
 ol:w.bI.length<=7
 pl:w.bk.length<=401
 ll:w.cL.length<=3000
 l0:-1<=w.bj
 l1:w.bj<=419430800
 nb:ay w.bN
 ob:∀ x∈w.bI,ay x.fB
 nk:u7 w.fN
theorem T9{w:World}(h:M.DrN 400 w):M.AnyW w:=by
 have up:=AX h.d.wf;have:=h.d.wf.nl;have:=h.d.wf.dl;have:=h.d.ol;have:=h.d.wf.len;have:=h.l0;have:=h.l1;exact ⟨SY h.d,by omega,by omega,by omega,by omega,by omega,h.d.log,by omega,by omega,h.d.new.2,λx hx=>(h.d.old x hx).2,λx hx=>by
  obtain ⟨j,hj⟩:=List.mem_iff_getElem?.1 hx;exact ⟨(h.d.wf.nodes j x hj).w.s,t8 (h.d.wf.nodes j x hj)⟩⟩
theorem Ex{w:World}(h:M.AnyW w){x:aA}(hx:M.NodWf x)(hk:x.bd.length<=1048576)(k:Nat):M.AnyW ⟨w.fC,w.fT,w.bN,w.bI,w.fN.set k x,w.fD,w.bk,w.cL,w.bj⟩ :=
 ⟨⟨h.cp.t,h.cp.new,h.cp.ol,h.cp.old,by simpa using h.cp.nl,λy hy=>by
  rcases zWg hy with hy | rfl
  ·exact h.cp.n y hy
  ·exact hx,h.cp.dl,h.cp.d,h.cp.pl,h.cp.p,h.cp.ll⟩,h.t,by simpa using h.nl,h.dl,h.ol,h.pl,h.ll,h.l0,h.l1,h.nb,h.ob,λy hy=>by
  rcases zWg hy with hy | rfl
  ·exact h.nk y hy
  ·exact ⟨hx.s,hk⟩⟩
theorem Rx{u:Nat}(hu:1099511627776<=u){c:aG}(hc:Cu c)(n:Int):Ev (q9 u c n) λv=>M.AnyW v.1/\Cu v.2:=by
 unfold q9;refine bE (OE hu hc n) λr1 h1=>bE (dm u h1.2 _) λr2 h2=>bE (dm u h2.2 _) λr3 h3=>?_;have hw:=T9 h1.1;have up:=AX h1.1.d.wf;have nl:=h1.1.d.wf.nl;have dl:=h1.1.d.wf.dl;have ol:=h1.1.d.ol;have a0:=h2.1.1;have a1:=h2.1.2 (by omega);obtain ⟨j,ej,hj⟩:∃ j:Nat,r2.1=j/\j < r1.1.fT.b9.length:=⟨r2.1.toNat,by omega,by omega⟩;have hn:=sX (l:=r1.1.fN) (i:=j) (by omega);have hd:=sX (l:=r1.1.fD) (i:=j) (by omega);have ho:=sX (l:=r1.1.bI) (i:=j) (by omega);have hnw:=hw.cp.n _ (zQQ hn);have hnk:=(hw.nk _ (zQQ hn)).2;have hob:=hw.cp.old _ (zQQ ho);have hol:=(h1.1.d.old _ (zQQ ho)).1;have pl:=h1.1.d.wf.len;have fin:∀ (c:aG) (w:World),w.cL=r1.1.cL->M.AnyW w->Cu c->Ev (di u c.fB c.fI c.fH w.fC.av w.fC.aQ w.fC.aE w.fC.aN w.fT.b9 w.bN w.bI w.fN w.fD w.bk r1 w.bj) λv=>M.AnyW v.1/\Cu v.2:=λc w hl h hc=>by
  unfold di;rw [<- hl];exact cC ⟨h,hc⟩
 rw [ej];refine cm (λ_=>bE (Ru u h3.2) λq hq=>fin q.2 ⟨q.1,r1.1.fT,r1.1.bN,r1.1.bI,r1.1.fN,r1.1.fD,r1.1.bk,r1.1.cL,r1.1.bj⟩ rfl ⟨⟨hw.cp.t,hw.cp.new,hw.cp.ol,hw.cp.old,hw.cp.nl,hw.cp.n,hw.cp.dl,hw.cp.d,hw.cp.pl,hw.cp.p,hw.cp.ll⟩,hw.t,hw.nl,hw.dl,hw.ol,hw.pl,hw.ll,hw.l0,hw.l1,hw.nb,hw.ob,hw.nk⟩ hq) (λ_=>?_);refine cm (λ_=>bE (Rr u hu h3.2) λq hq=>fin q.2 ⟨r1.1.fC,q.1,r1.1.bN,r1.1.bI,r1.1.fN,r1.1.fD,r1.1.bk,r1.1.cL,r1.1.bj⟩ rfl ⟨⟨by show q.1.b9.length<=_; omega,hw.cp.new,hw.cp.ol,hw.cp.old,hw.cp.nl,hw.cp.n,hw.cp.dl,hw.cp.d,hw.cp.pl,hw.cp.p,hw.cp.ll⟩,hq.1,hw.nl,hw.dl,hw.ol,hw.pl,hw.ll,hw.l0,hw.l1,hw.nb,hw.ob,hw.nk⟩ hq.2) (λ_=>?_);refine cm (λ_=>bE (PM hu h3.2) λq hq=>fin q.2 ⟨r1.1.fC,r1.1.fT,q.1,r1.1.bI,r1.1.fN,r1.1.fD,r1.1.bk,r1.1.cL,r1.1.bj⟩ rfl ⟨⟨hw.cp.t,by have:=hq.1.1; show q.1.length<=_; omega,hw.cp.ol,hw.cp.old,hw.cp.nl,hw.cp.n,hw.cp.dl,hw.cp.d,hw.cp.pl,hw.cp.p,hw.cp.ll⟩,hw.t,hw.nl,hw.dl,hw.ol,hw.pl,hw.ll,hw.l0,hw.l1,hq.1.2,hw.ob,hw.nk⟩ hq.2) (λ_=>?_);refine cm (λ_=>bE (dm u h3.2 _) λq hq=>gV (i6 _ j hn) ?_) (λ_=>?_)
 ·exact fin q.2 ⟨r1.1.fC,r1.1.fT,r1.1.bN,r1.1.bI,r1.1.fN.set (sY (j:Int)) (aA.mk (r1.1.fN[j].fq) (r1.1.fN[j].bP) r1.1.fN[j].bC (r1.1.fN[j].aw) r1.1.fN[j].bu (q.1) r1.1.fN[j].bd r1.1.fN[j].bx),r1.1.fD,r1.1.bk,r1.1.cL,r1.1.bj⟩ rfl (Ex (x:=aA.mk (r1.1.fN[j].fq) (r1.1.fN[j].bP) r1.1.fN[j].bC (r1.1.fN[j].aw) r1.1.fN[j].bu (q.1) r1.1.fN[j].bd r1.1.fN[j].bx) hw ⟨hnw.s,hnw.b,hnw.k,hnw.w⟩ hnk _) hq.2
 refine cm (λ_=>bE (dm u h3.2 _) λq hq=>gV (i6 _ j hn) ?_) (λ_=>?_)
 ·exact fin q.2 ⟨r1.1.fC,r1.1.fT,r1.1.bN,r1.1.bI,r1.1.fN.set (sY (j:Int)) (aA.mk (r1.1.fN[j].fq) (eH .i64 q.1 1) r1.1.fN[j].bC (r1.1.fN[j].aw) r1.1.fN[j].bu (r1.1.fN[j].aY) r1.1.fN[j].bd r1.1.fN[j].bx),r1.1.fD,r1.1.bk,r1.1.cL,r1.1.bj⟩ rfl (Ex (x:=aA.mk (r1.1.fN[j].fq) (eH .i64 q.1 1) r1.1.fN[j].bC (r1.1.fN[j].aw) r1.1.fN[j].bu (r1.1.fN[j].aY) r1.1.fN[j].bd r1.1.fN[j].bx) hw ⟨hnw.s,hnw.b,hnw.k,hnw.w⟩ hnk _) hq.2
 refine cm (λ_=>bE (ST hu h3.2) λq hq=>gV (i6 _ j hd) ?_) (λ_=>?_)
 ·refine fin q.2 ⟨r1.1.fC,r1.1.fT,r1.1.bN,r1.1.bI,r1.1.fN,r1.1.fD.set (sY (j:Int)) q.1,r1.1.bk,r1.1.cL,r1.1.bj⟩ rfl ⟨⟨hw.cp.t,hw.cp.new,hw.cp.ol,hw.cp.old,hw.cp.nl,hw.cp.n,by simpa using hw.cp.dl,λy hy=>?_,hw.cp.pl,hw.cp.p,hw.cp.ll⟩,hw.t,hw.nl,by simpa using hw.dl,hw.ol,hw.pl,hw.ll,hw.l0,hw.l1,hw.nb,hw.ob,hw.nk⟩ hq.2;rcases zWg hy with hy | rfl
  ·exact hw.cp.d y hy
  ·exact hq.1.o
 refine cm (λ_=>bE (UW hu h3.2) λq hq=>gV (i6 _ j hn) ?_) (λ_=>?_)
 ·have:=hq.1.1;exact fin q.2 ⟨r1.1.fC,r1.1.fT,r1.1.bN,r1.1.bI,r1.1.fN.set (sY (j:Int)) (aA.mk (r1.1.fN[j].fq) (r1.1.fN[j].bP) r1.1.fN[j].bC (q.1) r1.1.fN[j].bu (r1.1.fN[j].aY) r1.1.fN[j].bd r1.1.fN[j].bx),r1.1.fD,r1.1.bk,r1.1.cL,r1.1.bj⟩ rfl (Ex (x:=aA.mk (r1.1.fN[j].fq) (r1.1.fN[j].bP) r1.1.fN[j].bC (q.1) r1.1.fN[j].bu (r1.1.fN[j].aY) r1.1.fN[j].bd r1.1.fN[j].bx) hw ⟨by show q.1.aO.length<=_; omega,hnw.b,hnw.k,hq.1.2⟩ hnk _) hq.2
 refine cm (λ_=>bE (dm u h3.2 _) λq hq=>bE (dm u hq.2 _) λz hz=>lW (by simp; omega) ?_) (λ_=>?_)
 ·refine fin z.2 ⟨r1.1.fC,r1.1.fT,r1.1.bN,r1.1.bI,r1.1.fN,r1.1.fD,r1.1.bk++[ah.mk (eH .i64 q.1 1) (eH .i64 z.1 1) []],r1.1.cL,r1.1.bj⟩ rfl ⟨⟨hw.cp.t,hw.cp.new,hw.cp.ol,hw.cp.old,hw.cp.nl,hw.cp.n,hw.cp.dl,hw.cp.d,by simp; omega,λy hy=>?_,hw.cp.ll⟩,hw.t,hw.nl,hw.dl,hw.ol,by simp; omega,hw.ll,hw.l0,hw.l1,hw.nb,hw.ob,hw.nk⟩ hz.2;rcases List.mem_append.1 hy with hy | hy
  ·exact hw.cp.p y hy
  ·simp only [zQV] at hy;subst hy;exact ⟨by simp [ay],by simp⟩
 refine cm (λ_=>fin r3.2 ⟨r1.1.fC,r1.1.fT,r1.1.bN,r1.1.bI,r1.1.fN,r1.1.fD,r1.1.bk,r1.1.cL,-1⟩ rfl ⟨⟨hw.cp.t,hw.cp.new,hw.cp.ol,hw.cp.old,hw.cp.nl,hw.cp.n,hw.cp.dl,hw.cp.d,hw.cp.pl,hw.cp.p,hw.cp.ll⟩,hw.t,hw.nl,hw.dl,hw.ol,hw.pl,hw.ll,by simp,by simp,hw.nb,hw.ob,hw.nk⟩ h3.2) (λ_=>?_);refine cm (λ_=>lW (by simp [cO]; omega) ?_) (λ_=>?_)
 ·refine fin r3.2 ⟨r1.1.fC,r1.1.fT,r1.1.bN,r1.1.bI,r1.1.fN,(r1.1.fD.take (sY (r1.1.fD.length:Int))).drop (sY 1),r1.1.bk,r1.1.cL,r1.1.bj⟩ rfl ⟨⟨hw.cp.t,hw.cp.new,hw.cp.ol,hw.cp.old,hw.cp.nl,hw.cp.n,by simp; omega,λy hy=>hw.cp.d y (zQg (zWq hy)),hw.cp.pl,hw.cp.p,hw.cp.ll⟩,hw.t,hw.nl,by simp; omega,hw.ol,hw.pl,hw.ll,hw.l0,hw.l1,hw.nb,hw.ob,hw.nk⟩ h3.2
 refine cm (λ_=>gV (i6 _ j hn) (gV (i6 _ j hn) ?_)) (λ_=>?_)
 ·exact fin r3.2 ⟨r1.1.fC,r1.1.fT,r1.1.bN,r1.1.bI,r1.1.fN.set (sY (j:Int)) (aA.mk (!r1.1.fN[j].fq) (r1.1.fN[j].bP) r1.1.fN[j].bC (r1.1.fN[j].aw) r1.1.fN[j].bu (r1.1.fN[j].aY) r1.1.fN[j].bd r1.1.fN[j].bx),r1.1.fD,r1.1.bk,r1.1.cL,r1.1.bj⟩ rfl (Ex (x:=aA.mk (!r1.1.fN[j].fq) (r1.1.fN[j].bP) r1.1.fN[j].bC (r1.1.fN[j].aw) r1.1.fN[j].bu (r1.1.fN[j].aY) r1.1.fN[j].bd r1.1.fN[j].bx) hw ⟨hnw.s,hnw.b,hnw.k,hnw.w⟩ hnk _) h3.2
 refine cm (λ_=>gV (i6 _ j ho) (lW (by simp; omega) (gV (i6 _ j ho) ?_))) (λ_=>fin r3.2 r1.1 rfl hw h3.2);refine fin r3.2 ⟨r1.1.fC,r1.1.fT,r1.1.bN,r1.1.bI.set (sY (j:Int)) (aW.mk (r1.1.bI[j].fB++[1])),r1.1.fN,r1.1.fD,r1.1.bk,r1.1.cL,r1.1.bj⟩ rfl ⟨⟨hw.cp.t,hw.cp.new,by simpa using hw.cp.ol,λy hy=>?_,hw.cp.nl,hw.cp.n,hw.cp.dl,hw.cp.d,hw.cp.pl,hw.cp.p,hw.cp.ll⟩,hw.t,hw.nl,hw.dl,by simpa using hw.ol,hw.pl,hw.ll,hw.l0,hw.l1,hw.nb,λy hy=>?_,hw.nk⟩ h3.2
 ·rcases zWg hy with hy | rfl
  ·exact hw.cp.old y hy
  ·simp;omega
 ·rcases zWg hy with hy | rfl
  ·exact hw.ob y hy
  ·intro z hz;rcases List.mem_append.1 hz with hz | hz
   ·exact hw.ob _ (zQQ ho) z hz
   ·simp only [zYY,zZh,or_false] at hz;subst hz;omega
theorem CN{u:Nat}(hu:1099511627776<=u){a:List Int}(h:a.length<=1048576):qd u a a=some true:=by
 unfold qd;simp only [bne_self_eq_false,cond_false];rw [B7 u a a () u (by omega) (by omega),Ly (λx i k hx=>by unfold vG; rw [dg,hx]; simp only [wk,bne_self_eq_false,cond_false]) a 0 rfl];rfl
theorem J5{u:Nat}(hu:1099511627776<=u){code:List Int}(h:code.length<=1048576)(n:Int):Ev (po u code n) λv=>M.AnyW v.2/\Cu v.1:=by
 unfold po;exact bE (SS hu h) λc hc=>bE (Rx hu hc n) λq hq=>cC ⟨hq.1,hq.2⟩
structure M.K1 (new:List Int) (d:ar):Prop where
 a:d.fA.length<=240
 r:d.fR=⟨1,1,new.length⟩
 b:d.fB.length<=240
 n:d.fB.take new.length=new
 p:d.fP=[]
theorem Vq{new:List Int}(h:new.length<=240):fo ⟨1,1,new.length⟩=true:=by
 unfold fo au;simp;omega
theorem S2{a b:List Int}(h:a.take b.length=b):b.length<=a.length:=by
 have:=congrArg zYH h;rw [zQz] at this;omega
theorem J6{new:List Int}(h:new.length<=240){d:ar}(hk:M.K1 new d):cd d=true/\cY d=(1,new):=by
 obtain ⟨a,b,r,p⟩:=d;obtain ⟨h1,h2,h3,h4,h5⟩:=hk;have h2:r=⟨1,1,new.length⟩:=h2;have h5:p=[]:=h5;have h4:b.take new.length=new:=h4;subst h2 h5;have hl:=S2 h4;have e:cd ⟨a,b,⟨1,1,new.length⟩,[]⟩=true:=dk h1 h3 (Vq h) (by simp [il]; omega) (by simp) (by simp);refine ⟨e,?_⟩;unfold cY;rw [e,if_pos rfl];simp [il,h4]
theorem Uv{old:List Int}{d:ar}(hk:M.K0 old d){p:List c8}(hp:d.fP=p):d=t9 old d.fB p:=by
 obtain ⟨a,b,r,q⟩:=d;obtain ⟨h1,h2,h3⟩:=hk;have h1:a=old:=h1;have h2:r=⟨0,0,old.length⟩:=h2;have hp:q=p:=hp;subst h1 h2 hp;rfl
theorem LX{old s b:List Int}(ho:old.length<=240)(hs':s.length<=240)(hl:b.length<=16){size:Int}(hs:dj size b.length=true):∀ (n i:Nat),i+n=(bG size b.length).toNat ->
  jq (t9 old s []) b size n i (t9 old s (lM b size.toNat i))=(t9 old s (lM b size.toNat (i+n)),true)
 | 0,i,_=>rfl
 | n+1,i,h=>by
  have hr:=dB size b.length;have hi:i < (bG size b.length).toNat:=by omega
  have hk:=MQ hs hi;have hz:=hk.z2;have e:iN (t9 old s (lM b size.toNat i)) (i7 (t9 old s [])) ((i:Int)*size) (dI b size i).1=(t9 old s (lM b size.toNat (i+1)),true):=by
   rw [Qs hk,show i7 (t9 old s [])=1 from rfl];have e1:(i:Int)*size=((i*size.toNat:Nat):Int):=by rw [Int.natCast_mul,Int.toNat_of_nonneg (by omega)]
   rw [e1];have e2:gU (t9 old s (lM b size.toNat i)) (za b size.toNat i)=t9 old s (lM b size.toNat (i+1)):=by
    unfold gU t9;rw [PO]
   have e3:cd (t9 old s (lM b size.toNat (i+1)))=true:=(J3 ho ⟨rfl,rfl,hs'⟩ (by show (lM b size.toNat (i+1)).length<=200; rw [LW]; omega) λx hx=>(J4 hl hs (by omega) x hx).2).1;unfold iN;rw [if_pos (show au 1 0 1=true from rfl)];show M.add _ (za b size.toNat i)=_;unfold M.add;rw [e2,if_pos e3]
  unfold jq;rw [e,if_pos rfl,LX ho hs' hl hs n (i+1) (by omega)];rw [show i+1+n=i+(n+1) by omega]
theorem S3{b s:List Int}{a m:Nat}(h:a+m<=b.length):AI (b.take a++s.drop a) a (M.win b a m)=b.take (a+m)++s.drop (a+m):=by
 have hw:(M.win b a m).length=m:=qZ h;have ht:(b.take a).length=a:=by rw [zQz]; omega
 unfold AI;rw [AJ (by simp only [zQK,List.length_replicate,hw]; omega),hw,zQZ (b.take a) (s.drop a),List.take_left' ht];have e1:b.take a++M.win b a m=b.take (a+m):=by
  unfold M.win;have h2:b.take a=(b.take (a+m)).take a:=by rw [List.take_take,zXq (by omega)]
  rw [h2,zXH]
 rw [<- zQZ,e1]
 congr 1
 have h3:(b.take a++s.drop a).length=max a s.length:=by rw [zQK,ht,zYK]; omega
 by_cases hs:a+m<=s.length
 ·rw [h3,show a+m - max a s.length=0 by omega];simp only [List.replicate_zero,zWY];rw [<- zZJ,List.drop_left' ht,zZJ]
 ·have h4:s.drop (a+m)=[]:=zXk (by omega);rw [h4];refine zXk ?_;rw [zQK,zQK,ht,zYK,List.length_replicate];omega
theorem OF{old s b:List Int}{size:Int}(hs:dj size b.length=true)(R:List c8):∀ (n i:Nat),i+n=(bG size b.length).toNat ->
  vU ((zWh i n).map (za b size.toNat)) (t9 old (b.take (min (i*size.toNat) b.length)++s.drop (min (i*size.toNat) b.length)) R)=t9 old (b++s.drop b.length) []
 | 0,i,h=>by
  have:=J2 hs;rw [<- h,zYQ] at this;rw [Nat.min_eq_right this,List.take_length];rfl
 | n+1,i,h=>by
  have hk:=MQ hs (show i < (bG size b.length).toNat by omega);have hp:=hk.p;have hz:=hk.z2;rw [zYw,zWv];unfold vU;rw [zXq (Nat.le_of_lt hp)];have e1:i*size.toNat+min size.toNat (b.length - i*size.toNat)=min ((i+1)*size.toNat) b.length:=by
   rw [zYx]; omega
  have e:nw (t9 old (b.take (i*size.toNat)++s.drop (i*size.toNat)) R) (za b size.toNat i)=t9 old (b.take (min ((i+1)*size.toNat) b.length)++s.drop (min ((i+1)*size.toNat) b.length)) R:=by
   show (⟨old,AI (b.take (i*size.toNat)++s.drop (i*size.toNat)) ((i*size.toNat:Nat):Int).toNat (M.win b (i*size.toNat) (min size.toNat (b.length - i*size.toNat))),⟨0,0,old.length⟩,R⟩:ar)=_;rw [rg,S3 (by omega),e1];rfl
  rw [e];exact OF hs R n (i+1) (by omega)
inductive M.DS (new old:List Int) (size:Int):Int->ar->Prop
 | idle {d:ar} (k:M.K0 old d) (p:d.fP=[]):M.DS new old size 0 d
 | idleN {d:ar} (k:M.K1 new d):M.DS new old size 0 d
 | gather {d:ar} (k:M.K0 old d) (p:d.fP=[]):M.DS new old size 1 d
 | staged {d:ar} (k:M.K0 old d) (p:d.fP=lM new size.toNat (bG size new.length).toNat):M.DS new old size 2 d
 | sure {d:ar} (k:M.K0 old d) (p:d.fP=[]) (n:d.fB.take new.length=new):M.DS new old size 3 d
 | meant {d:ar} (k:M.K0 old d) (p:d.fP=[⟨2,0,[],⟨1,1,new.length⟩⟩]) (n:d.fB.take new.length=new):M.DS new old size 4 d
 | done {d:ar} (k:M.K1 new d):M.DS new old size 5 d
theorem Ey{new old:List Int}{size:Int}(ho:old.length<=240)(hn:new.length<=16)(hs:dj size new.length=true){ph:Int}{d:ar}(h:M.DS new old size ph d):cd d=true/\((M.K0 old d/\cY d=(0,old)/\ph≠5)\/(M.K1 new d/\cY d=(1,new)/\(ph=0\/ph=5))):=by
 have hr:=dB size new.length;have nil:∀ {d:ar},M.K0 old d->d.fP=[]->cd d=true/\cY d=(0,old):=λk p=>J3 ho k (by rw [p]; simp) (by rw [p]; simp)
 cases h with
 | idle k p=>exact ⟨(nil k p).1,.inl ⟨k,(nil k p).2,by decide⟩⟩
 | idleN k=>exact ⟨(J6 (by omega) k).1,.inr ⟨k,(J6 (by omega) k).2,.inl rfl⟩⟩
 | gather k p=>exact ⟨(nil k p).1,.inl ⟨k,(nil k p).2,by decide⟩⟩
 | staged k p =>
  have:=J3 ho k (by rw [p,LW]; omega) (by rw [p]; exact λx hx=>(J4 hn hs (zWj _) x hx).2);exact ⟨this.1,.inl ⟨k,this.2,by decide⟩⟩
 | sure k p _=>exact ⟨(nil k p).1,.inl ⟨k,(nil k p).2,by decide⟩⟩
 | meant k p _ =>
  have:=J3 ho k (by rw [p]; simp) (by rw [p]; intro x hx; simp only [zQV] at hx; subst hx; have:=Vq (show new.length<=240 by omega); simp [fk,this]);exact ⟨this.1,.inl ⟨k,this.2,by decide⟩⟩
 | done k=>exact ⟨(J6 (by omega) k).1,.inr ⟨k,(J6 (by omega) k).2,.inr rfl⟩⟩
theorem Ua{new old:List Int}{size:Int}(ho:old.length<=240)(hn:new.length<=16)(hs:dj size new.length=true){ph:Int}{d:ar}(h:M.DS new old size ph d)(s:Int):M.DS new old size 0 (M.fall d s):=by
 have hok:=(Ey ho hn hs h).1;have hr:=dB size new.length;have nil:∀ {d:ar},d.fP=[]->cd d=true->M.fall d s=d:=λ{d} p hd=>by
  unfold M.fall;rw [if_pos hd,p];unfold kU;rw [<- p]
 cases h with
 | idle k p=>rw [nil p hok]; exact .idle k p
 | idleN k=>rw [nil k.p hok]; exact .idleN k
 | gather k p=>rw [nil p hok]; exact .idle k p
 | staged k p =>
  unfold M.fall;rw [if_pos hok];obtain ⟨h3,h4⟩:=Ou s d.fP 0 d k (by rw [p]; exact λx hx=>J4 hn hs (zWj _) x hx);exact .idle h3 h4
 | sure k p _=>rw [nil p hok]; exact .idle k p
 | meant k p n =>
  unfold M.fall;rw [if_pos hok,p];unfold kU kU
  split
  ·exact .idleN ⟨by rw [show (nw d ⟨2,0,[],⟨1,1,new.length⟩⟩).fA=d.fA from rfl,k.a]; exact ho,rfl,k.b,n,rfl⟩
  ·exact .idle ⟨k.a,k.r,k.b⟩ rfl
 | done k=>rw [nil k.p hok]; exact .idleN k
theorem Qw{new old:List Int}{size:Int}(ho:old.length<=240)(hn:new.length<=16)(hs:dj size new.length=true){ph:Int}{d:ar}(h:M.DS new old size ph d){m:ai}(hm:ph≠0->m=M.man 1 new size){x:bF}(hx:ph=1->Bk m x=true->x.ca=new):M.DS new old size (du d m x ph).2 (du d m x ph).1:=by
 have hok:=(Ey ho hn hs h).1;have hr:=dB size new.length
 cases h with
 | idle k p=>exact .idle k p
 | idleN k=>exact .idleN k
 | gather k p =>
  unfold du;rw [if_pos rfl]
  split
  ·rename_i hc;simp only [sk] at hc;have e:=hx rfl hc.1;have em:=hm (by decide);subst em;have hz:(M.man 1 new size).av=size:=rfl;have:kS d x.ca (M.man 1 new size).av=(t9 old d.fB (lM new size.toNat (bG size new.length).toNat),true):=by
    unfold kS;rw [e,hz,hok,hs,p];simp only [zXK,decide_true,zXz,if_true];have:=LX (s:=d.fB) ho k.b hn hs (bG size new.length).toNat 0 (by omega);rw [zWZ] at this;rw [Uv k p];exact this
   rw [this];exact .staged ⟨rfl,rfl,k.b⟩ rfl
  ·exact .gather k p
 | staged k p =>
  show M.DS new old size 3 (M.sure d);unfold M.sure;rw [if_pos hok,p];have e:=OF (old:=old) (s:=d.fB) hs d.fP (bG size new.length).toNat 0 (by omega);rw [Nat.zero_mul,Nat.zero_min,List.take_zero,List.drop_zero,zQy,<- Uv k rfl] at e;unfold lM;rw [zXJ,e];refine .sure ⟨rfl,rfl,?_⟩ rfl (List.take_left' rfl);show (new++d.fB.drop new.length).length<=240;have:=k.b;simp only [zQK,zYK];omega
 | sure k p n =>
  have em:=hm (by decide);subst em;show M.DS new old size (if (gf d ⟨(M.man 1 new size).aP,i7 d,(M.man 1 new size).aX⟩).2 then ((gf d ⟨(M.man 1 new size).aP,i7 d,(M.man 1 new size).aX⟩).1,4) else (d,3)).2 (if (gf d ⟨(M.man 1 new size).aP,i7 d,(M.man 1 new size).aX⟩).2 then ((gf d ⟨(M.man 1 new size).aP,i7 d,(M.man 1 new size).aX⟩).1,(4:Int)) else (d,3)).1;have es:i7 d=1:=by unfold i7; rw [k.r]; rfl
  rw [es];unfold gf;rcases Mz d ⟨2,0,[],⟨(M.man 1 new size).aP,1,(M.man 1 new size).aX⟩⟩ with ⟨e,_⟩ | e
  ·rw [e];refine .meant ⟨k.a,k.r,k.b⟩ ?_ n;show d.fP++[_]=_;rw [p];rfl
  ·rw [e];exact .sure k p n
 | meant k p n =>
  show M.DS new old size 5 (M.sure d);unfold M.sure;rw [if_pos hok,p];refine .done ⟨?_,rfl,k.b,n,rfl⟩;show d.fA.length<=240;rw [k.a]; exact ho
 | done k=>exact .done k
theorem PW{n:Nat}(hn:n<=40){x:Int}(hx:bV x=true)(h:rh (nU n) x=0){i:Nat}(hi:i < n):cT x i=true:=by
 have h40:(2:Nat) ^ n<=2 ^ 40:=zWz (by omega) hn;have hs:0<=x/\x < 1099511627776:=by unfold bV au at hx; simp at hx; omega
 obtain ⟨a,rfl⟩:∃ a:Nat,x=a:=⟨x.toNat,by omega⟩;rw [PC (PB n) hx] at h;have hf:nU n=((2 ^ n - 1:Nat):Int):=by unfold nU; rw [if_pos hn]
 rw [hf] at h;rw [N0 (n:=40) (by omega) (by omega) (by omega)] at h;have h0:tz 40 (λi=>(2 ^ n - 1).testBit i && !a.testBit i)=0:=by omega
 have h1:=BN (λi=>(2 ^ n - 1).testBit i && !a.testBit i) 40 i;rw [h0,Nat.zero_testBit] at h1;have h2:decide (i < 40)=true:=by simp; omega
 rw [h2,Nat.testBit_two_pow_sub_one,decide_eq_true hi] at h1;have hp:eB (i:Int)=true:=by unfold eB au; simp; omega
 unfold cT;rw [hx,hp,rg,rg]
 simpa using h1
theorem LY{new:List Int}(hb:ay new){size:Int}(hs:dj size new.length=true){x:bF}(hx:M.BldWf x)(h:Bk (M.man 1 new size) x=true):x.ca=new:=by
 have hr:=dB size new.length;have hall:=J2 hs;unfold Bk at h;simp only [sk,beq_iff_eq] at h;obtain ⟨⟨_,hk⟩,hm⟩:=h;have hset:=(AS hk).2;have hl:=wP hk;have hl:x.ca.length=new.length:=by have:(x.ca.length:Int)=new.length:=hl; omega
 unfold jx at hk;simp only [sk] at hk;have hfit:=hk.2;unfold yh at hm;rw [SW] at hm;have step:∀ i:Nat,i<=(bG size new.length).toNat->x.ca.take (i*size.toNat)=new.take (i*size.toNat):=by
  intro i
  induction i with
  | zero=>intro _; simp
  | succ i ih =>
   intro hi;have kb:=MQ hs (show i < (bG size new.length).toNat by omega);have kp:=kb.p;have kz:=kb.z2;have g:=JT hfit i _ (SV (g:=1) (show i < (bG size new.length).toNat by omega));rw [zWZ] at g;unfold yW at g;rw [if_pos (PW (by omega) hset hm (by omega))] at g;unfold Ec at g;rw [(SU kb).1,(SU kb).2,Qs kb] at g;simp only [decide_eq_true_eq] at g;have w1:(M.win x.ca (i*size.toNat) (min size.toNat (new.length - i*size.toNat))).length=min size.toNat (new.length - i*size.toNat):=qZ (by omega);have w2:(M.win new (i*size.toNat) (min size.toNat (new.length - i*size.toNat))).length=min size.toNat (new.length - i*size.toNat):=qZ (by omega);have e:=Rp (lK hx.b _ _) (lK hb _ _) (by omega) (by omega) g;have p1:=Ot (b:=x.ca) (z:=size.toNat) (i:=i) (by omega);have p2:=Ot (b:=new) (z:=size.toNat) (i:=i) kp;rw [hl] at p1;rw [<- p1,<- p2,ih (by omega),e]
 have:=step _ (zWj _);rwa [zXj (by omega),zXj hall] at this
theorem PX{b:List Int}(h:(bR b).2=true):gc (bR b).1=true/\cN (bR b).1=b:=by
 unfold bR at h ⊢
 split at h
 ·rename_i hc;rw [if_pos hc]
  split at h
  ·rename_i m e hr
   split at h
   ·rename_i hq;rw [if_pos hq]
    simpa using hq
   ·cases h
  ·cases h
 ·cases h
theorem Ub(n:Int):1<=(cA 9 n).length:=by
 unfold cA
 split <;> simp
theorem sG{a b:Int}{s t:List Int}(a0:0<=a)(a1:a<=1000000000000)(b0:0<=b)(b1:b<=1000000000000)(h:cA 9 a++s=cA 9 b++t):a=b/\s=t:=by
 have h1:=CA (p:=[]) s a0 a1;have h2:=CA (p:=[]) t b0 b1;simp only [zQy] at h1 h2;rw [h,h2] at h1;have e:b=a:=congrArg (λx=>x.1) h1;subst e;exact ⟨rfl,zZG h⟩
theorem zd{m:fe}(h:gc m=true):∃ t,cN m=cA 9 m.bl++t/\1<=m.bl/\m.bl<=4:=by
 have hk:1<=m.bl/\m.bl<=4:=by
  unfold gc at h
  split at h
  ·omega
  split at h
  ·omega
  split at h
  ·omega
  split at h
  ·omega
  cases h
 have pre:∀ (c:List Int) (n:Int),∃ t,aZ c n=c++t:=λc n=>by
  unfold aZ
  split
  ·exact ⟨_,rfl⟩
  ·exact ⟨[],(zWY _).symm⟩
 have k0:aZ [] m.bl=cA 9 m.bl:=yT (by omega) (by omega);have sums:∀ (l:List cV) (c:List Int),∃ t,jv c l=c++t:=λl=>by
  induction l with
  | nil=>intro c; exact ⟨[],(zWY _).symm⟩
  | cons s l ih =>
   intro c;obtain ⟨t,ht⟩:=ih (c++cA 9 s.fS);exact ⟨cA 9 s.fS++t,by simp only [jv]; rw [ht,zQZ]⟩
 have body:∃ t,cZ m=cA 9 m.bl++t:=by
  unfold cZ oO qk;rw [k0]
  split
  ·split
   ·obtain ⟨t1,e1⟩:=pre (cA 9 m.bl) m.aw.aP;obtain ⟨t2,e2⟩:=pre (cA 9 m.bl++t1) m.aw.av;obtain ⟨t3,e3⟩:=pre (cA 9 m.bl++t1++t2) m.aw.aX;obtain ⟨t4,e4⟩:=sums m.aw.aO (cA 9 m.bl++t1++t2++t3);exact ⟨t1++t2++t3++t4,by rw [e1,e2,e3,e4]; simp only [zQZ]⟩
   ·exact ⟨[],(zWY _).symm⟩
  ·split
   ·obtain ⟨t1,e1⟩:=pre (cA 9 m.bl) m.aP;obtain ⟨t2,e2⟩:=pre (cA 9 m.bl++t1) (fG .i64 m.ck 1048575);obtain ⟨t3,e3⟩:=pre (cA 9 m.bl++t1++t2) (m7 .i64 m.ck 20);obtain ⟨t4,e4⟩:=pre (cA 9 m.bl++t1++t2++t3) (fG .i64 m.bY 1048575);obtain ⟨t5,e5⟩:=pre (cA 9 m.bl++t1++t2++t3++t4) (m7 .i64 m.bY 20);exact ⟨t1++t2++t3++t4++t5,by rw [e1,e2,e3,e4,e5]; simp only [zQZ]⟩
   ·split
    ·obtain ⟨t1,e1⟩:=pre (cA 9 m.bl) m.aP;obtain ⟨t2,e2⟩:=pre (cA 9 m.bl++t1) m.fI;obtain ⟨t3,e3⟩:=pre (cA 9 m.bl++t1++t2) m.fB.length;exact ⟨t1++t2++t3++m.fB,by rw [e1,e2,e3]; simp only [zQZ]⟩
    ·split
     ·exact pre _ _
     ·exact ⟨[],(zWY _).symm⟩
 obtain ⟨t,ht⟩:=body;obtain ⟨t2,h2⟩:=pre (cZ m) (cG (cZ m));exact ⟨t++t2,by unfold cN; rw [if_pos h,h2,ht,zQZ],hk⟩
theorem J7{m k:fe}(hm:gc m=true)(hk:gc k=true)(h:cN m=cN k):m.bl=k.bl:=by
 obtain ⟨s,e1,a,b⟩:=zd hm;obtain ⟨t,e2,c,d⟩:=zd hk;rw [e1,e2] at h;exact (sG (by omega) (by omega) (by omega) (by omega) h).1
def M.flat(l:List cV):List Int:=l.flatMap λs=>cA 9 s.fS
theorem Ez:∀ (l:List cV) (c:List Int),jv c l=c++M.flat l
 | [],c=>(zWY _).symm
 | s :: l,c=>by
  simp only [jv,M.flat,List.flatMap_cons];rw [Ez l,zQZ];rfl
theorem Ry{a b:Int}{s t:List Int}(a0:1<=a)(a1:a<=562949953421311)(b0:1<=b)(b1:b<=562949953421311)(h:cA 9 a++s=cA 9 b++t):a=b/\s=t:=by
 have h1:=Pq 10 9 true a s (by omega) (by omega) (λe=>by cases e) (by omega) (by omega);have h2:=Pq 10 9 true b t (by omega) (by omega) (λe=>by cases e) (by omega) (by omega);rw [h,h2] at h1;have e:b=a:=congrArg (λx=>x.1) (Option.some.inj h1);subst e;exact ⟨rfl,zZG h⟩
theorem Uw{size len:Int}{i:Nat}{s:cV}(h:oN size len i s=true):1<=s.fS/\s.fS<=562949953421311/\s.fW=cG (cg s.fS).1:=by
 unfold oN at h;simp only [sk,beq_iff_eq] at h;refine ⟨(uT (b:=(cg s.fS).1) (by rw [<- h.1.1])).1,?_,h.2.symm⟩;rcases Int.lt_or_le 562949953421311 s.fS with hb | hb
 ·have:=Gk hb;rw [this] at h
  cases h.1.1
 ·exact hb
theorem OG{size len:Int}:∀ (l k:List cV) (i:Nat) (s t:List Int),l.length=k.length->iK size len l i=true->iK size len k i=true->M.flat l++s=M.flat k++t->l=k
 | [],[],_,_,_,_,_,_,_=>rfl
 | [],_ :: _,_,_,_,h,_,_,_=>by cases h
 | _ :: _,[],_,_,_,h,_,_,_=>by cases h
 | x :: l,y :: k,i,s,t,hl,h1,h2,h=>by
  unfold iK at h1 h2;simp only [sk] at h1 h2;obtain ⟨a1,a2,a3⟩:=Uw h1.1;obtain ⟨b1,b2,b3⟩:=Uw h2.1;simp only [M.flat,List.flatMap_cons,zQZ] at h;obtain ⟨e1,e2⟩:=Ry a1 a2 b1 b2 h;have e3:x=y:=by
   obtain ⟨xw,xs⟩:=x;obtain ⟨yw,ys⟩:=y;simp only at e1 a3 b3;subst e1;rw [a3,b3]
  rw [e3,OG l k (i+1) s t (by simpa using hl) h1.2 h2.2 e2]
theorem A2{m:ai}(h:da m=true)(h0:m.aP≠0):(1<=m.aP/\m.aP<=1000000)/\(2<=m.av/\m.av<=6)/\(0<=m.aX/\m.aX<=240)/\(m.aO.length:Int)=bG m.av m.aX/\iK m.av m.aX m.aO 0=true:=by
 unfold da at h;rw [if_neg h0] at h;simp only [sk,beq_iff_eq] at h;have h1:=ce h.1.1.1;have h2:=qj h.1.1.2;exact ⟨h1,⟨h2.1,h2.2.1⟩,⟨h2.2.2.1,by omega⟩,h.1.2,h.2⟩
theorem Qx{m:fe}(h:gc m=true)(hk:m.bl=1):da m.aw=true/\m.aw.aP≠0/\∃ t,cN m=cA 9 1++(cA 9 m.aw.aP++(cA 9 m.aw.av++(cA 9 m.aw.aX++(M.flat m.aw.aO++t)))):=by
 have h':=h;unfold gc at h';rw [if_pos hk] at h';simp only [sk,bne_iff_ne,ne_eq] at h';obtain ⟨⟨⟨_,g0⟩,mo⟩,_⟩:=h';obtain ⟨a,b,c,_,_⟩:=A2 mo g0;refine ⟨mo,g0,?_⟩;have body:cZ m=cA 9 1++(cA 9 m.aw.aP++(cA 9 m.aw.av++(cA 9 m.aw.aX++M.flat m.aw.aO))):=by
  unfold cZ oO;rw [if_pos hk,if_pos mo,hk,yT (by omega) (by omega),eC (by omega) (by omega),eC (by omega) (by omega),eC (by omega) (by omega),Ez];simp only [zQZ]
 have pre:∃ t,aZ (cZ m) (cG (cZ m))=cZ m++t:=by
  unfold aZ
  split
  ·exact ⟨_,rfl⟩
  ·exact ⟨[],(zWY _).symm⟩
 obtain ⟨t,ht⟩:=pre;exact ⟨t,by unfold cN; rw [if_pos h,ht,body]; simp only [zQZ]⟩
theorem Uc{m k:fe}(hm:gc m=true)(hk:gc k=true)(h1:m.bl=1)(h:cN m=cN k):m.aw=k.aw:=by
 have k1:k.bl=1:=(J7 hm hk h).symm.trans h1;obtain ⟨mo,mg,s,e1⟩:=Qx hm h1;obtain ⟨ko,kg,t,e2⟩:=Qx hk k1;obtain ⟨a1,a2,a3,a4,a5⟩:=A2 mo mg;obtain ⟨b1,b2,b3,b4,b5⟩:=A2 ko kg;rw [e1,e2] at h;obtain ⟨g1,hA⟩:=sG (by omega) (by omega) (by omega) (by omega) (zZG h);obtain ⟨g2,hB⟩:=sG (by omega) (by omega) (by omega) (by omega) hA;obtain ⟨g3,hC⟩:=sG (by omega) (by omega) (by omega) (by omega) hB
 clear h hA hB
 generalize m.aw=x at *;generalize k.aw=y at *;obtain ⟨xg,xs,xl,xm⟩:=x;obtain ⟨yg,ys,yl,ym⟩:=y;simp only at g1 g2 g3 a4 a5 b4 b5 hC;subst g1 g2 g3;rw [OG xm ym 0 s t (by omega) a5 b5 hC]
theorem vg{w:Int}(h:bV w=true):0<=fG .i64 w 1048575/\fG .i64 w 1048575 < 1048576/\0<=m7 .i64 w 20/\m7 .i64 w 20 < 1048576/\w=fG .i64 w 1048575+m7 .i64 w 20*1048576:=by
 have h0:0<=w/\w < 1099511627776:=by unfold bV au at h; simp at h; omega
 obtain ⟨_,_,e1,e2⟩:=D6 (x:=w % 1048576) (y:=w / 1048576) (by omega) (by omega) (by omega) (by omega);rw [show w % 1048576+w / 1048576*1048576=w by omega] at e1 e2;rw [e1,e2];omega
theorem Ux{m:fe}(h:gc m=true)(hk:m.bl=2):bV m.ck=true/\bV m.bY=true/\(0<=m.aP/\m.aP<=1000000)/\∃ t,cN m=cA 9 2++(cA 9 m.aP++(cA 9 (fG .i64 m.ck 1048575)++(cA 9 (m7 .i64 m.ck 20)++(cA 9 (fG .i64 m.bY 1048575)++(cA 9 (m7 .i64 m.bY 20)++t))))):=by
 have h':=h;unfold gc at h';rw [if_neg (by omega),if_pos hk] at h';simp only [sk] at h';have hg:=ce h'.1.1.1.1.1;have sw:=h'.1.1.1.2;have sd:=h'.1.1.2;refine ⟨sw,sd,hg,?_⟩;have pw:=vg sw;have pd:=vg sd;have body:cZ m=cA 9 2++(cA 9 m.aP++(cA 9 (fG .i64 m.ck 1048575)++(cA 9 (m7 .i64 m.ck 20)++(cA 9 (fG .i64 m.bY 1048575)++cA 9 (m7 .i64 m.bY 20))))):=by
  unfold cZ qk;rw [if_neg (by omega),if_pos hk,hk,yT (by omega) (by omega),eC (by omega) (by omega),eC (by omega) (by omega),eC (by omega) (by omega),eC (by omega) (by omega),eC (by omega) (by omega)];simp only [zQZ]
 have pre:∃ t,aZ (cZ m) (cG (cZ m))=cZ m++t:=by
  unfold aZ
  split
  ·exact ⟨_,rfl⟩
  ·exact ⟨[],(zWY _).symm⟩
 obtain ⟨t,ht⟩:=pre;exact ⟨t,by unfold cN; rw [if_pos h,ht,body]; simp only [zQZ]⟩
theorem S4{m k:fe}(hm:gc m=true)(hk:gc k=true)(h1:m.bl=2)(h:cN m=cN k):m.bY=k.bY:=by
 have k1:k.bl=2:=(J7 hm hk h).symm.trans h1;obtain ⟨a1,a2,a3,s,e1⟩:=Ux hm h1;obtain ⟨b1,b2,b3,t,e2⟩:=Ux hk k1;have p1:=vg a1;have p2:=vg a2;have q1:=vg b1;have q2:=vg b2;rw [e1,e2] at h;have h:=zZG h;obtain ⟨_,h⟩:=sG (by omega) (by omega) (by omega) (by omega) h;obtain ⟨_,h⟩:=sG (by omega) (by omega) (by omega) (by omega) h;obtain ⟨_,h⟩:=sG (by omega) (by omega) (by omega) (by omega) h;obtain ⟨g1,h⟩:=sG (by omega) (by omega) (by omega) (by omega) h;obtain ⟨g2,_⟩:=sG (by omega) (by omega) (by omega) (by omega) h;omega
theorem OH{k:fe}(h:(bR (cN k)).2=true):(bR (cN k)).1.bl=k.bl/\((bR (cN k)).1.bl=1->(bR (cN k)).1.aw=k.aw)/\((bR (cN k)).1.bl=2->(bR (cN k)).1.bY=k.bY):=by
 obtain ⟨a,b⟩:=PX h;have hk:gc k=true:=by
  cases hq:gc k with
  | true=>rfl
  | false =>
   exfalso;obtain ⟨t,e,_,_⟩:=zd a;rw [e] at b;have:cN k=[]:=by unfold cN; rw [hq]; rfl
   rw [this] at b;have l1:=congrArg zYH b;have l2:=Ub (bR []).1.bl;rw [zQK,zXK] at l1;omega
 exact ⟨J7 a hk b,λe=>Uc a hk e b,λe=>S4 a hk e b⟩
def MT(m:ai)(b:List Int):Prop:=(bR b).2=true->(bR b).1.bl=1->(bR b).1.aw=m
theorem J8{m:ai}(f t:Int)(k:fe)(h:k.bl=1->k.aw=m):MT m (eK f t k).fB:=λh2 h1=>by
 obtain ⟨e1,e2,_⟩:=OH (k:=k) h2;exact (e2 h1).trans (h (e1.symm.trans h1))
structure M.Sa (w:World):Prop where
 s:dj w.fC.av w.bN.length=true
 off:∀ (j:Nat) (n:aA),w.fN[j]?=some n->n.fq=false->n.aY=0
 man:∀ (j:Nat) (n:aA),w.fN[j]?=some n->n.aY≠0->n.aw=M.man 1 w.bN w.fC.av
 disk:∀ (j:Nat) (n:aA) (d:ar) (o:aW),j≠0->w.fN[j]?=some n->w.fD[j]?=some d->w.bI[j]?=some o->M.DS w.bN o.fB w.fC.av n.aY d
 msg:∀ p∈w.bk,MT (M.man 1 w.bN w.fC.av) p.fB
structure M.Keeps (m:ai) (d:ar) (n x:aA):Prop where
 on:x.fq=n.fq
 c:(x.aY=n.aY/\x.aw=n.aw)\/(n.fq=true/\n.aY=0/\x.aw=m/\x.aY=if ((cY d).1 == m.aP) && M.tells m (cY d).2 then 5 else 1)
theorem ri{m:ai}{d:ar}{n x:aA}(h:x.fq=n.fq)(h1:x.aY=n.aY)(h2:x.aw=n.aw):M.Keeps m d n x:=⟨h,.inl ⟨h1,h2⟩⟩
theorem K4(n:aA)(me i:Int):(d7 n me i).fN.fq=n.fq/\(d7 n me i).fN.aY=n.aY/\(d7 n me i).fN.aw=n.aw:=by
 unfold d7
 split <;> exact ⟨rfl,rfl,rfl⟩
theorem F4(n:aA)(me f:Int)(m:fe):(cP n me f m).fN.fq=n.fq/\(cP n me f m).fN.aY=n.aY/\(cP n me f m).fN.aw=n.aw:=by
 unfold cP
 split
 ·exact ⟨rfl,rfl,rfl⟩
 dsimp only
 split
 ·exact ⟨rfl,rfl,rfl⟩
 split
 ·split <;> exact ⟨rfl,rfl,rfl⟩
 ·exact ⟨rfl,rfl,rfl⟩
theorem J9(n:aA)(me:Int)(m:fe):(eL n me m).fN.fq=n.fq/\(eL n me m).fN.aY=n.aY/\(eL n me m).fN.aw=n.aw:=by
 unfold eL
 split
 ·exact ⟨rfl,rfl,rfl⟩
 split
 ·exact ⟨rfl,rfl,rfl⟩
 split
 ·obtain ⟨a,b,c⟩:=K4 (ve n (lV n.aw n.bu m.fI m.fB).1) me m.fI;exact ⟨a,b,c⟩
 ·exact ⟨rfl,rfl,rfl⟩
theorem Ka{t:cS}{me:Int}{n:aA}{d:ar}{p:ah}{m:ai}(h:MT m p.fB):M.Keeps m d n (M.take t me n d p).fN:=by
 unfold M.take
 split
 ·exact ri rfl rfl rfl
 rename_i hon
 split
 ·rename_i hc;simp only [sk] at hc
  split
  ·obtain ⟨a,b,c⟩:=F4 n me p.dn (bR p.fB).1;exact ri a b c
  split
  ·unfold fY
   split
   ·rename_i hk;have hm:=h hc.1.1 hk;unfold mJ
    split
    ·rename_i hp
     split
     ·rw [hm];exact ⟨rfl,.inr ⟨by simpa using hon,hp,rfl,rfl⟩⟩
     ·exact ri rfl rfl rfl
    split <;> exact ri rfl rfl rfl
   split
   ·obtain ⟨a,b,c⟩:=J9 (yY n) me (bR p.fB).1;exact ri a b c
   exact ri rfl rfl rfl
  ·exact ri rfl rfl rfl
 ·exact ri rfl rfl rfl
def sH(m:ai)(out:List ah):Prop:=∀ p∈out,MT m p.fB
theorem tn(m:ai):sH m []:=λp hp=>by simp at hp
theorem Kb{m:ai}{f t:Int}{k:fe}(h:k.bl=1->k.aw=m):sH m [eK f t k]:=λp hp=>by
 simp only [zQV] at hp;subst hp;exact J8 f t k h
theorem Kc(m:ai)(n:aA)(f t:Int):sH m (eV n f t).iB:=λp hp=>by
 obtain ⟨i,_,rfl⟩:=List.mem_map.1 hp;exact J8 _ _ _ (λe=>by exact absurd e (by show (3:Int)≠1; decide))
theorem OI(m:ai)(n:aA)(me i:Int):∀ (l:List bM) (s:List bM×List ah),sH m s.2->sH m (l.foldl (dC n me i) s).2
 | [],s,h=>h
 | x :: l,s,h=>by
  rw [zXh];refine OI m n me i l _ ?_;unfold dC
  split
  ·intro p hp;rcases List.mem_append.1 hp with hp | hp
   ·exact h p hp
   ·simp only [zQV] at hp;subst hp;exact J8 _ _ _ (λe=>by exact absurd e (by show (3:Int)≠1; decide))
  ·exact h
theorem MU(m:ai)(n:aA)(me i:Int):sH m (d7 n me i).iB:=by
 unfold d7
 split
 ·exact OI m n me i _ _ (tn m)
 ·exact tn m
theorem HL{m:ai}{n:aA}(h:n.aY≠0->n.aw=m)(me f:Int)(k:fe):sH m (cP n me f k).iB:=by
 unfold cP
 split
 ·exact tn m
 dsimp only
 split
 ·exact Kb λe=>by exact absurd e (by show (4:Int)≠1; decide)
 rename_i hp
 split
 ·split
  ·exact Kb λe=>by exact absurd e (by show (4:Int)≠1; decide)
  ·exact Kc m _ _ _
 ·exact Kb λ_=>h hp
theorem K5(m:ai)(n:aA)(me:Int)(k:fe):sH m (eL n me k).iB:=by
 unfold eL
 split
 ·exact tn m
 split
 ·exact tn m
 split
 ·exact MU m _ _ _
 ·exact tn m
theorem Rz{m:ai}{t:cS}{me:Int}{n:aA}(h:n.aY≠0->n.aw=m)(d:ar)(p:ah):sH m (M.take t me n d p).iB:=by
 unfold M.take
 split
 ·exact tn m
 split
 ·split
  ·exact HL h _ _ _
  split
  ·unfold fY
   split
   ·exact tn m
   split
   ·exact K5 m _ _ _
   exact tn m
  ·exact tn m
 ·exact tn m
theorem RA(m:ai)(t:cS)(c:hZ)(k:Int)(n:aA)(d:ar):sH m (M.tick t c k n d).iB:=by
 unfold M.tick im;have w:∀ g w d,(yn g w d).bl=1->(yn g w d).aw=m:=λg w d e=>by exact absurd e (by show (2:Int)≠1; decide)
 split
 ·exact tn m
 split
 ·exact tn m
 split
 ·exact Kb (w _ _ _)
 ·exact Kb (w _ _ _)
theorem EA:∀ (out:List ah) (s:List ah×List cE×Int),∀ p∈(out.foldl cW s).1,p∈s.1\/p∈out
 | [],s,p,h=>.inl h
 | x :: out,s,p,h=>by
  rw [zXh] at h;rcases EA out _ p h with h | h
  ·unfold cW at h
   split at h
   ·exact .inl h
   ·rcases List.mem_append.1 h with h | h
    ·exact .inl h
    ·exact .inr (by simp only [zQV] at h; simp [h])
  ·exact .inr (by simp [h])
theorem Qy{w:World}(h:M.Sa w){out:List ah}(ho:sH (M.man 1 w.bN w.fC.av) out):M.Sa (uA w out) :=
 ⟨h.s,h.off,h.man,h.disk,λp hp=>by
  rcases EA out _ p hp with hp | hp
  ·exact h.msg p hp
  ·exact ho p hp⟩
theorem MV{w:World}(h:M.Sa w){k:Nat}{x:aA}{e:ar}{D:List ar}(hD:∀ (j:Nat) (d:ar),D[j]?=some d->(j=k/\d=e)\/(j≠k/\w.fD[j]?=some d))(h1:x.fq=false->x.aY=0)(h2:x.aY≠0->x.aw=M.man 1 w.bN w.fC.av)(h3:∀ o,k≠0->w.bI[k]?=some o->M.DS w.bN o.fB w.fC.av x.aY e):M.Sa ⟨w.fC,w.fT,w.bN,w.bI,w.fN.set k x,D,w.bk,w.cL,w.bj⟩:=by
 refine ⟨h.s,Ep h.off h1,Ep h.man h2,λj n d o h0 hn hd ho=>?_,h.msg⟩;rcases hD j d hd with ⟨e1,e2⟩ | ⟨e1,e2⟩
 ·subst e1 e2;have hn:(w.fN.set j x)[j]?=some n:=hn;rw [zWy (by have:=(List.getElem?_eq_some_iff.1 hn).1; simpa using this)] at hn
  cases hn
  exact h3 o h0 ho
 ·have hn:(w.fN.set k x)[j]?=some n:=hn;rw [zXX (by omega)] at hn;exact h.disk j n d o h0 hn e2 ho
theorem Uy{D:List ar}{k:Nat}{e:ar}:∀ (j:Nat) (d:ar),(D.set k e)[j]?=some d->(j=k/\d=e)\/(j≠k/\D[j]?=some d):=λj d hd=>by
 by_cases hj:j=k
 ·subst hj;rw [zWy (by have:=(List.getElem?_eq_some_iff.1 hd).1; simpa using this)] at hd
  cases hd
  exact .inl ⟨rfl,rfl⟩
 ·rw [zXX (by omega)] at hd;exact .inr ⟨hj,hd⟩
theorem S5{D:List ar}{k:Nat}{e:ar}(h:D[k]?=some e):∀ (j:Nat) (d:ar),D[j]?=some d->(j=k/\d=e)\/(j≠k/\D[j]?=some d):=λj d hd=>by
 by_cases hj:j=k
 ·subst hj;rw [h] at hd
  cases hd
  exact .inl ⟨rfl,rfl⟩
 ·exact .inr ⟨hj,hd⟩
theorem Ud{new old:List Int}{size:Int}(ho:old.length<=240)(hn:new.length<=16)(hs:dj size new.length=true){d:ar}(h:M.DS new old size 0 d):M.DS new old size (if ((cY d).1 == (M.man 1 new size).aP) && M.tells (M.man 1 new size) (cY d).2 then 5 else 1) d:=by
 cases h with
 | idle k p =>
  have:=(J3 ho k (by rw [p]; simp) (by rw [p]; simp)).2;rw [this];exact .gather k p
 | idleN k =>
  have:=(J6 (by omega) k).2;have ht:=GH (g:=1) hs (by decide);rw [F3 hs (by decide)] at ht;rw [this,ht];exact .done k
theorem Ue{w w':World}(h:M.Sa w)(hw:M.DrW w){e:cq}(he:e.bl=7->A0 w e.fP.fB)(hs:M.Step w e w'):M.Sa w':=by
 have hnew:=hw.new.1;have hold:∀ {j:Nat} {o:aW},w.bI[j]?=some o->o.fB.length<=240:=λh=>(hw.old _ (zQQ h)).1
 cases hs with
 | no=>exact h
 | tick j hj =>
  unfold oQ
  split
  ·rename_i n d hn hd;refine Qy (w:=jy w j _ _) ?_ (RA _ _ _ _ _ _);have hk:(M.tick w.fT w.fC j n d).fN.fq=n.fq/\(M.tick w.fT w.fC j n d).fN.aw=n.aw/\(((M.tick w.fT w.fC j n d).fN.aY=n.aY/\(M.tick w.fT w.fC j n d).fD=d)\/(n.fq=true/\(M.tick w.fT w.fC j n d).fN.aY=(du d n.aw n.bu n.aY).2/\(M.tick w.fT w.fC j n d).fD=(du d n.aw n.bu n.aY).1)):=by
    unfold M.tick
    split
    ·exact ⟨rfl,rfl,.inl ⟨rfl,rfl⟩⟩
    rename_i hon
    split
    ·exact ⟨rfl,rfl,.inl ⟨rfl,rfl⟩⟩
    split <;> exact ⟨rfl,rfl,.inr ⟨by simpa using hon,rfl,rfl⟩⟩
   obtain ⟨k1,k2,k3⟩:=hk;have ph0:n.aY=0->(du d n.aw n.bu n.aY).2=0:=λe=>by rw [e]; rfl
   refine MV h Uy (λho=>?_) (λhp=>?_) (λo h0 ho=>?_)
   ·rw [k1] at ho;rcases k3 with ⟨a,_⟩ | ⟨a,_⟩
    ·rw [a]; exact h.off j n hn ho
    ·rw [ho] at a; cases a
   ·rw [k2];refine h.man j n hn λe=>hp ?_;rcases k3 with ⟨a,_⟩ | ⟨_,a,_⟩
    ·rw [a]; exact e
    ·rw [a]; exact ph0 e
   ·have hds:=h.disk j n d o h0 hn hd ho;rcases k3 with ⟨a,b⟩ | ⟨_,a,b⟩
    ·rw [a,b]; exact hds
    ·rw [a,b];refine Qw (hold ho) hnew h.s hds (λhp=>h.man j n hn hp) (λhp hwh=>?_);rw [h.man j n hn (by omega)] at hwh;exact LY hw.new.2 h.s (hw.wf.nodes j n hn).w.b hwh
  ·exact h
 | take j hj =>
  unfold oS
  split
  ·rename_i p hp;have hpn:=zQQ hp;have hpull:M.Sa (wb w j):=⟨h.s,h.off,h.man,h.disk,λq hq=>by
    rcases List.mem_append.1 hq with hq | hq
    ·exact h.msg q (zQg hq)
    ·exact h.msg q (zWq hq)⟩
   unfold AY
   split
   ·rename_i n d hn hd;refine Qy (w:=CL (wb w j) _ _) ?_ (Rz (λe=>h.man _ n hn e) _ _);obtain ⟨k1,k2⟩:=Ka (t:=(wb w j).fT) (me:=p.qL) (n:=n) (d:=d) (h.msg p hpn);refine MV hpull (S5 hd) (λho=>?_) (λhph=>?_) (λo h0 ho=>?_)
    ·rw [k1] at ho;rcases k2 with ⟨a,_⟩ | ⟨a,_⟩
     ·rw [a]; exact h.off _ n hn ho
     ·rw [ho] at a; cases a
    ·rcases k2 with ⟨a,b⟩ | ⟨_,_,b,_⟩
     ·rw [b]; exact h.man _ n hn (by rw [<- a]; exact hph)
     ·exact b
    ·have hds:=h.disk _ n d o h0 hn hd ho;rcases k2 with ⟨a,_⟩ | ⟨_,a,_,b⟩
     ·rw [a]; exact hds
     ·rw [b];rw [a] at hds;exact Ud (hold ho) hnew h.s hds
   ·exact hpull
  ·exact h
 | lose l hs hl=>exact ⟨h.s,h.off,h.man,h.disk,λp hp=>h.msg p (hs p hp)⟩
 | push p hl hi hf =>
  refine ⟨h.s,h.off,h.man,h.disk,λq hq=>?_⟩;rcases List.mem_append.1 hq with hq | hq
  ·exact h.msg q hq
  ·simp only [zQV] at hq;subst hq;rcases hf with ⟨z,hz,e1⟩ | ⟨e7,e1⟩
   ·rw [<- e1]; exact h.msg z hz
   ·rw [e1];intro h2 h1;rcases he e7 with a | a | a | ⟨z,hz,a⟩
    ·rw [a] at h2; cases h2
    ·omega
    ·omega
    ·rw [<- a] at h1 h2 ⊢;exact h.msg z hz h2 h1
 | fall j d hj h0 hd s =>
  refine MV h Uy (λ_=>rfl) (λhp=>absurd rfl hp) (λo _ ho=>?_);obtain ⟨n,hn⟩:∃ n,w.fN[j]?=some n:=⟨_,sX (by rw [hw.wf.nl]; exact hj)⟩;exact Ua (hold ho) hnew h.s (h.disk j n d o h0 hn hd ho) s
 | rise j n hj h0 hn ho =>
  have hph:(gP w.fT j).aY=0:=by unfold gP; split <;> rfl
  obtain ⟨d,hd⟩:∃ d,w.fD[j]?=some d:=⟨_,sX (by rw [hw.wf.dl]; exact hj)⟩;refine MV h (S5 hd) (λ_=>hph) (λhp=>absurd hph hp) (λo _ hoo=>?_);rw [hph];have:=h.disk j n d o (by omega) hn hd hoo;rw [h.off j n hn ho] at this;exact this
theorem U0{w:World}(h:M.NewW w):M.Sa w:=by
 have hm:ga 1 w.bN w.fC.av=M.man 1 w.bN w.fC.av:=F3 h.s (by decide);have rp:∀ k:Int,(gP w.fT k).aY=0:=λk=>by unfold gP; split <;> rfl
 refine ⟨h.s,λj n hn ho=>?_,λj n hn hp=>?_,λj n d o h0 hn hd ho=>?_,λp hp=>by rw [h.net] at hp; simp at hp⟩
 ·cases j with
  | zero=>rw [h.root n hn] at ho; cases ho
  | succ j=>rw [h.node _ n (by omega) hn]; exact rp _
 ·cases j with
  | zero=>rw [h.root n hn]; exact hm
  | succ j=>rw [h.node _ n (by omega) hn] at hp; exact absurd (rp _) hp
 ·rw [h.node j n h0 hn,rp,h.disk j d o hd ho];exact .idle ⟨rfl,rfl,by simp⟩ rfl
theorem S6{w:World}(h:M.AnyW w):M.DsOk w:=⟨h.cp.dl,h.cp.ol,h.cp.d⟩
theorem MW{I:Nat->World->Prop}(hI:M.Inv I){u:Nat}(hu:1099511627776<=u){code:List Int}(h:code.length<=1048576):Ev (oB u code) λv=>∃ n,n<=400/\I n v:=by
 have hs:∃ s,tF u code 120=some s:=by
  unfold tF
  cases decide (be .i64 3 (NA .i64 (code.length:Int) 12) > 120) <;> exact ⟨_,rfl⟩
 obtain ⟨s,hs⟩:=hs;unfold oB;exact bE (SS hu h) λc hc=>gV hs (bE (Ew hI hu hc _) λq hq=>cC hq.1)
def lN(w:World)(i:Nat):Prop:=∃ d,w.fD[i]?=some d/\cY d=(1,w.bN)
def mK(w:World)(s:Int):Prop:=bV s=true/\∀ i:Nat,cT s i=true->lN w i
theorem Qz{s:Int}(h:bV s=true):∃ n:Nat,s=n/\n < 1099511627776:=by
 unfold bV au at h;simp at h;exact ⟨s.toNat,by omega,by omega⟩
theorem U1{a b:Int}(ha:bV a=true)(hb:bV b=true):bV (u3 .i64 a b)=true/\∀ i:Nat,cT (u3 .i64 a b) i=true->cT a i=true\/cT b i=true:=by
 obtain ⟨x,rfl,hx⟩:=Qz ha;obtain ⟨y,rfl,hy⟩:=Qz hb;rw [DY (by omega) (by omega)];have h:x ||| y < 2 ^ 40:=Nat.or_lt_two_pow (by omega) (by omega)
 have hs:bV ((x ||| y:Nat):Int)=true:=LD (by omega);refine ⟨hs,λi hi=>?_⟩;unfold cT at hi ⊢;rw [hs,rg,rg,Nat.testBit_or] at hi;rw [ha,hb,rg,rg,rg];simp only [zWk,sk,Bool.or_eq_true] at hi ⊢;rcases hi.2 with h | h
 ·exact .inl ⟨hi.1,h⟩
 ·exact .inr ⟨hi.1,h⟩
theorem MX{w:World}{a b:Int}(ha:mK w a)(hb:mK w b):mK w (u3 .i64 a b):=by
 obtain ⟨h1,h2⟩:=U1 ha.1 hb.1;exact ⟨h1,λi hi=>(h2 i hi).elim (ha.2 i) (hb.2 i)⟩
theorem S7(w:World):mK w 0:=⟨rfl,λi h=>by rw [PA] at h; cases h⟩
theorem CO{w:World}:∀ (l:List bM) (a:Int),(∀ x∈l,mK w x.bY)->mK w a->mK w (qK l a)
 | [],a,_,h=>h
 | x :: l,a,hl,h=>by
  have hx:=hl x (by simp);unfold qK;rw [if_pos hx.1];exact CO l _ (λy hy=>hl y (by simp [hy])) (MX h hx)
theorem RB{w:World}{s:Int}(h:mK w s){k:Nat}(hk:lN w k):mK w (vZ s k):=by
 unfold vZ
 split
 ·rename_i hc;simp only [sk] at hc;have h39:=ce hc.2;rw [FH (by omega)];have h2:(2:Nat) ^ k<=2 ^ 39:=zWz (by omega) (by omega);refine MX h ⟨LD (by omega),λi hi=>?_⟩;unfold cT at hi;simp only [rg,sk] at hi;rw [Nat.testBit_two_pow] at hi;have:=of_decide_eq_true hi.2;subst this;exact hk
 ·exact h
def Bx(w:World)(l:List bM):Prop:=∀ x∈l,mK w x.bY
theorem Uf{w:World}{l:List bM}(h:Bx w l)(id want:Int){done:Int}(hd:mK w done):Bx w (nV l id want done):=by
 unfold nV
 split
 ·split
  ·rename_i x hx;intro y hy;rcases zWg hy with hy | rfl
   ·exact h y hy
   ·have hm:x∈l:=by
     unfold dV at hx
     split at hx
     ·exact zQQ hx
     ·cases hx
    exact MX (h x hm) hd
  ·intro y hy;simp only [zWH,zQV] at hy;rcases hy with (hy | rfl) | hy
   ·exact h y (zQg hy)
   ·exact hd
   ·exact h y (zWq hy)
 ·exact h
theorem QA{w:World}{l:List bM}(h:Bx w l)(id s:Int):Bx w (kR l id s):=by
 unfold kR
 split
 ·rename_i x hx
  split
  ·intro y hy;rcases zWg hy with hy | rfl
   ·exact h y hy
   ·have hm:x∈l:=by
     unfold dV at hx
     split at hx
     ·exact zQQ hx
     ·cases hx
    exact h x hm
  ·exact h
 ·exact h
theorem S8{w:World}{l:List bM}(h:Bx w l)(f:Int):Bx w (jp l f):=λy hy=>by
 obtain ⟨x,hx,rfl⟩:=List.mem_map.1 hy;exact h x (List.mem_filter.1 hx).1
theorem S9{w:World}(n:aA)(me i:Int):∀ (l:List bM) (s:List bM×List ah),Bx w s.1->Bx w (l.foldl (dC n me i) s).1
 | [],s,h=>h
 | x :: l,s,h=>by
  rw [zXh];refine S9 n me i l _ ?_;unfold dC
  split
  ·exact QA h _ _
  ·exact h
theorem PY{w:World}{n:aA}(h:Bx w n.bd)(me i:Int):Bx w (d7 n me i).fN.bd:=by
 unfold d7
 split
 ·exact S9 n me i _ _ h
 ·exact h
theorem Ug{w:World}{t:cS}{me:Int}{n:aA}(h:Bx w n.bd)(d:ar){p:ah}(hp:(bR p.fB).2=true->(bR p.fB).1.bl=2->mK w (bR p.fB).1.bY):Bx w (M.take t me n d p).fN.bd:=by
 unfold M.take
 split
 ·exact h
 split
 ·rename_i hc;simp only [sk] at hc
  split
  ·rename_i hk;have hh:=Uf h p.dn (bR p.fB).1.ck (hp hc.1.1 hk);unfold cP
   split
   ·exact h
   dsimp only
   split
   ·exact hh
   split
   ·split <;> exact QA hh _ _
   ·exact hh
  split
  ·unfold fY
   split
   ·rw [Eo]; exact h
   split
   ·unfold eL
    split
    ·exact h
    split
    ·exact h
    split
    ·exact PY (n:=ve (yY n) _) h _ _
    ·exact h
   exact h
  ·exact h
 ·exact h
structure M.So (w:World):Prop where
 root:∀ n,w.fN[0]?=some n->n.aY=6
 kid:∀ (j:Nat) (n:aA),w.fN[j]?=some n->Bx w n.bd
 msg:∀ p∈w.bk,(bR p.fB).2=true->(bR p.fB).1.bl=2->mK w (bR p.fB).1.bY
theorem vh{w w':World}(h:∀ i,lN w i->lN w' i){s:Int}(hs:mK w s):mK w' s:=⟨hs.1,λi hi=>h i (hs.2 i hi)⟩
theorem OJ{w:World}(f t:Int)(k:fe)(h:k.bl=2->mK w k.bY):(bR (eK f t k).fB).2=true->(bR (eK f t k).fB).1.bl=2->mK w (bR (eK f t k).fB).1.bY:=λh2 h1=>by
 obtain ⟨e1,_,e3⟩:=OH (k:=k) h2;rw [show (bR (eK f t k).fB).1.bY=k.bY from e3 h1];exact h (e1.symm.trans h1)
def CP(out:List ah):Prop:=∀ p∈out,∃ f t k,p=eK f t k/\k.bl≠2
theorem A3:CP []:=λp hp=>by simp at hp
theorem Ta(f t:Int){k:fe}(h:k.bl≠2):CP [eK f t k]:=λp hp=>by
 simp only [zQV] at hp;exact ⟨f,t,k,hp,h⟩
theorem OK(n:aA)(me i:Int):∀ (l:List bM) (s:List bM×List ah),CP s.2->CP (l.foldl (dC n me i) s).2
 | [],s,h=>h
 | x :: l,s,h=>by
  rw [zXh];refine OK n me i l _ ?_;unfold dC
  split
  ·intro p hp;rcases List.mem_append.1 hp with hp | hp
   ·exact h p hp
   ·simp only [zQV] at hp;exact ⟨_,_,_,hp,by show (3:Int)≠2; decide⟩
  ·exact h
theorem Kd(n:aA)(f t:Int):CP (eV n f t).iB:=λp hp=>by
 obtain ⟨i,_,rfl⟩:=List.mem_map.1 hp;exact ⟨_,_,_,rfl,by show (3:Int)≠2; decide⟩
theorem MY(n:aA)(me i:Int):CP (d7 n me i).iB:=by
 unfold d7
 split
 ·exact OK n me i _ _ A3
 ·exact A3
theorem RC(t:cS)(me:Int)(n:aA)(d:ar)(p:ah):CP (M.take t me n d p).iB:=by
 unfold M.take
 split
 ·exact A3
 split
 ·split
  ·unfold cP
   split
   ·exact A3
   dsimp only
   split
   ·exact Ta _ _ (by show (4:Int)≠2; decide)
   split
   ·split
    ·exact Ta _ _ (by show (4:Int)≠2; decide)
    ·exact Kd _ _ _
   ·exact Ta _ _ (by show (1:Int)≠2; decide)
  split
  ·unfold fY
   split
   ·exact A3
   split
   ·unfold eL
    split
    ·exact A3
    split
    ·exact A3
    split
    ·exact MY _ _ _
    ·exact A3
   exact A3
  ·exact A3
 ·exact A3
theorem Ke{w w':World}(h:M.So w)(hn:∀ i,lN w i->lN w' i){k:Nat}{x:aA}(hN:w'.fN=w.fN.set k x)(h1:k=0->x.aY=6)(h2:Bx w' x.bd)(hm:∀ p∈w'.bk,p∈w.bk\/((bR p.fB).2=true->(bR p.fB).1.bl=2->mK w' (bR p.fB).1.bY)):M.So w':=by
 refine ⟨λn h0=>?_,λj n hj y hy=>?_,λp hp a b=>?_⟩
 ·rw [hN] at h0
  by_cases hk:k=0
  ·subst hk;rw [zWy (by have:=(List.getElem?_eq_some_iff.1 h0).1; simpa using this)] at h0
   cases h0
   exact h1 rfl
  ·rw [zXX (by omega)] at h0;exact h.root n h0
 ·rw [hN] at hj
  by_cases hk:k=j
  ·subst hk;rw [zWy (by have:=(List.getElem?_eq_some_iff.1 hj).1; simpa using this)] at hj
   cases hj
   exact h2 y hy
  ·rw [zXX hk] at hj;exact vh hn (h.kid j n hj y hy)
 ·rcases hm p hp with hp | hp
  ·exact vh hn (h.msg p hp a b)
  ·exact hp a b
theorem MZ{w w':World}(h:M.So w)(hn:∀ i,lN w i->lN w' i)(hN:w'.fN=w.fN)(hm:∀ p∈w'.bk,p∈w.bk\/((bR p.fB).2=true->(bR p.fB).1.bl=2->mK w' (bR p.fB).1.bY)):M.So w':=by
 refine ⟨λn h0=>h.root n (hN ▸ h0),λj n hj y hy=>vh hn (h.kid j n (hN ▸ hj) y hy),λp hp a b=>?_⟩;rcases hm p hp with hp | hp
 ·exact vh hn (h.msg p hp a b)
 ·exact hp a b
theorem Uh{w w':World}(ha:M.Sa w)(h:M.So w)(hw:M.DrW w){e:cq}(he:e.bl=7->A0 w e.fP.fB)(hs:M.Step w e w'):M.So w':=by
 have hnew:=hw.new.1;have hold:∀ {j:Nat} {o:aW},w.bI[j]?=some o->o.fB.length<=240:=λh=>(hw.old _ (zQQ h)).1;have old:∀ j,j < w.fT.b9.length->∃ o,w.bI[j]?=some o:=λj hj=>⟨_,sX (by rw [hw.ol]; exact hj)⟩
 -- what is new stays so
 have stay:∀ {j:Nat} {n:aA} {d:ar},j≠0->w.fN[j]?=some n->w.fD[j]?=some d->cY d=(1,w.bN)->M.K1 w.bN d/\(n.aY=0\/n.aY=5):=λ{j n d} h0 hn hd hr=>by
  obtain ⟨o,ho⟩:=old j (by have:=(List.getElem?_eq_some_iff.1 hn).1; rw [hw.wf.nl] at this; exact this);rcases (Ey (hold ho) hnew ha.s (ha.disk j n d o h0 hn hd ho)).2 with ⟨_,h2,_⟩ | ⟨h1,_,h3⟩
  ·rw [hr] at h2;have:=congrArg Prod.fst h2;simp at this
  ·exact ⟨h1,h3⟩
 cases hs with
 | no=>exact h
 | tick j hj =>
  unfold oQ
  split
  ·rename_i n d hn hd;have up:=hj
   by_cases hon:n.fq=true/\j≠0
   ·obtain ⟨hon,h0⟩:=hon;have h0':((j:Nat):Int)≠0:=by omega
    obtain ⟨b,q,et⟩:∃ b q,M.tick w.fT w.fC j n d=im w.fC j n d b q:=by
     unfold M.tick;rw [hon];simp only [zQJ,zWW,if_false,h0']
     split <;> exact ⟨_,_,rfl⟩
    rw [et];have hmono:∀ i,lN w i->lN (uA (jy w j (im w.fC j n d b q).fN (im w.fC j n d b q).fD) (im w.fC j n d b q).iB) i:=λi ⟨x,hx,hr⟩=>by
     by_cases hij:i=j
     ·subst hij;rw [hd] at hx
      cases hx
      obtain ⟨k1,hp⟩:=stay h0 hn hd hr;refine ⟨(du d n.aw n.bu n.aY).1,zWy (by rw [hw.wf.dl]; exact hj),?_⟩;have:(du d n.aw n.bu n.aY).1=d:=by rcases hp with hp | hp <;> rw [hp] <;> rfl
      rw [this];exact hr
     ·exact ⟨x,(zXX (by omega)).trans hx,hr⟩
    have hkids:Bx (uA (jy w j (im w.fC j n d b q).fN (im w.fC j n d b q).fD) (im w.fC j n d b q).iB) (m8 w.fC n d b q).bd:=S8 (λx hx=>vh hmono (h.kid j n hn x hx)) _;refine Ke h hmono (k:=j) (x:=m8 w.fC n d b q) rfl (λe=>absurd e h0) hkids (λp hp=>?_);rcases EA _ _ p hp with hp | hp
    ·exact .inl hp
    ·simp only [im,zQV] at hp;subst hp;refine .inr (OJ _ _ _ λ_=>?_);show mK _ (yk (m8 w.fC n d b q) j);unfold yk;have hd0:=CO _ 0 hkids (S7 _)
     split
     ·rename_i h5;refine RB hd0 ?_;obtain ⟨o,ho⟩:=old j hj;have hds:=Qw (hold ho) hnew ha.s (ha.disk j n d o h0 hn hd ho) (m:=n.aw) (x:=n.bu) (λhp=>ha.man j n hn hp) (λhp hwh=>by
       rw [ha.man j n hn (by omega)] at hwh;exact LY hw.new.2 ha.s (hw.wf.nodes j n hn).w.b hwh)
      have h5:(du d n.aw n.bu n.aY).2=5:=h5;rcases (Ey (hold ho) hnew ha.s hds).2 with ⟨_,_,h6⟩ | ⟨_,h6,_⟩
      ·exact absurd h5 h6
      ·exact ⟨_,zWy (by rw [hw.wf.dl]; exact hj),h6⟩
     ·exact hd0
   ·have et:(M.tick w.fT w.fC j n d).fD=d/\(M.tick w.fT w.fC j n d).iB=[]/\(M.tick w.fT w.fC j n d).fN.aY=n.aY/\((M.tick w.fT w.fC j n d).fN.bd=n.bd\/(M.tick w.fT w.fC j n d).fN.bd=jp n.bd w.fC.aN):=by
     unfold M.tick
     split
     ·exact ⟨rfl,rfl,rfl,.inl rfl⟩
     rename_i ho;have ho:n.fq=true:=by simpa using ho
     have:((j:Nat):Int)=0:=by
      by_cases e:j=0
      ·omega
      ·exact absurd ⟨ho,e⟩ hon
     rw [if_pos this];exact ⟨rfl,rfl,rfl,.inr rfl⟩
    obtain ⟨e1,e2,e3,e4⟩:=et;rw [e1,e2];have hD:(uA (jy w j (M.tick w.fT w.fC j n d).fN d) []).fD=w.fD:=by
     show w.fD.set j d=w.fD;exact List.ext_getElem? λi=>by
      by_cases hij:i=j
      ·subst hij; rw [zWy (by rw [hw.wf.dl]; exact hj),hd]
      ·rw [zXX (by omega)]
    have hmono:∀ i,lN w i->lN (uA (jy w j (M.tick w.fT w.fC j n d).fN d) []) i:=λi ⟨x,hx,hr⟩=>⟨x,by rw [hD]; exact hx,hr⟩;refine Ke h hmono (k:=j) (x:=(M.tick w.fT w.fC j n d).fN) rfl (λe0=>?_) ?_ (λp hp=>.inl hp)
    ·subst e0; rw [e3]; exact h.root n hn
    ·have hk:Bx (uA (jy w j (M.tick w.fT w.fC j n d).fN d) []) n.bd:=λx hx=>vh hmono (h.kid j n hn x hx);rcases e4 with e4 | e4
     ·rw [e4]; exact hk
     ·rw [e4]; exact S8 hk _
  ·exact h
 | take j hj =>
  unfold oS
  split
  ·rename_i p hp;have hpn:=zQQ hp;have hpl:∀ q∈(wb w j).bk,q∈w.bk:=λq hq=>by
    rcases List.mem_append.1 hq with hq | hq
    ·exact zQg hq
    ·exact zWq hq
   unfold AY
   split
   ·rename_i n d hn hd;have hmono:∀ i,lN w i->lN (uA (CL (wb w j) p.qL.toNat (M.take w.fT p.qL n d p).fN) (M.take w.fT p.qL n d p).iB) i:=λi h=>h;refine Ke h hmono (k:=p.qL.toNat) (x:=(M.take w.fT p.qL n d p).fN) rfl (λe0=>?_) ?_ (λq hq=>?_)
    ·have h6:=h.root n (e0 ▸ hn);rcases (Ka (t:=w.fT) (me:=p.qL) (n:=n) (d:=d) (ha.msg p hpn)).c with ⟨a,_⟩ | ⟨_,a,_⟩
     ·exact a.trans h6
     ·omega
    ·exact Ug (h.kid _ n hn) d (h.msg p hpn)
    ·rcases EA _ _ q hq with hq | hq
     ·exact .inl (hpl q hq)
     ·obtain ⟨f,t,k,rfl,hk⟩:=RC _ _ _ _ _ q hq;exact .inr (OJ _ _ _ λe=>absurd e hk)
   ·exact MZ h (λi h=>h) rfl (λq hq=>.inl (hpl q hq))
  ·exact h
 | lose l hs hl=>exact MZ h (λi h=>h) rfl (λq hq=>.inl (hs q hq))
 | push p hl hi hf =>
  refine MZ h (λi h=>h) rfl (λq hq=>?_);rcases List.mem_append.1 hq with hq | hq
  ·exact .inl hq
  ·simp only [zQV] at hq;subst hq;refine .inr ?_;rcases hf with ⟨z,hz,e1⟩ | ⟨e7,e1⟩
   ·rw [<- e1]; exact h.msg z hz
   ·rw [e1];intro h2 h1;rcases he e7 with a | a | a | ⟨z,hz,a⟩
    ·rw [a] at h2; cases h2
    ·omega
    ·omega
    ·rw [<- a] at h1 h2 ⊢;exact h.msg z hz h2 h1
 | fall j d hj h0 hd s =>
  obtain ⟨n,hn⟩:∃ n,w.fN[j]?=some n:=⟨_,sX (by rw [hw.wf.nl]; exact hj)⟩;have hmono:∀ i,lN w i->lN (jy w j jJ (M.fall d s)) i:=λi ⟨x,hx,hr⟩=>by
   by_cases hij:i=j
   ·subst hij;rw [hd] at hx
    cases hx
    obtain ⟨k1,_⟩:=stay h0 hn hd hr;refine ⟨M.fall d s,zWy (by rw [hw.wf.dl]; exact hj),?_⟩;have:M.fall d s=d:=by
     unfold M.fall
     split
     ·rw [k1.p];unfold kU;rw [<- k1.p]
     ·rfl
    rw [this];exact hr
   ·exact ⟨x,(zXX (by omega)).trans hx,hr⟩
  exact Ke h hmono (k:=j) (x:=jJ) rfl (λe=>absurd e h0) (λx hx=>by simp [jJ] at hx) (λp hp=>.inl hp)
 | rise j n hj h0 hn ho =>
  refine Ke h (λi h=>h) (k:=j) (x:=gP w.fT j) rfl (λe=>by omega) (λx hx=>?_) (λp hp=>.inl hp);unfold gP at hx
  split at hx <;> simp at hx
theorem U2{w:World}(h:M.NewW w):M.So w:=by
 refine ⟨λn hn=>by rw [h.root n hn],λj n hn x hx=>?_,λp hp=>by rw [h.net] at hp; simp at hp⟩
 cases j with
 | zero=>rw [h.root n hn] at hx; simp at hx
 | succ j =>
  rw [h.node _ n (by omega) hn] at hx;unfold gP at hx
  split at hx <;> simp at hx
def Vr(n:Nat)(w:World):Prop:=M.DrN n w/\M.Sa w/\M.So w
theorem U3:M.Inv Vr:=⟨λ_ _ h=>h.1,λw h=>⟨Qv h.d h.net h.lost,U0 h,U2 h⟩,λn w e w' hn h hb hs=>⟨OB hn h.1 hb.1.2 hs,Ue h.2.1 h.1.d hb.2 hs,Uh h.2.1 h.2.2 h.1.d hb.2 hs⟩⟩
theorem LZ{w:World}(hw:M.DrW w){i:Nat}(h:lN w i):lj w i=1:=by
 obtain ⟨d,hd,hr⟩:=h;have dl:=hw.wf.dl;have ol:=hw.ol;have hlt:=(List.getElem?_eq_some_iff.1 hd).1;have ho:=sX (l:=w.bI) (i:=i) (by omega);unfold lj;have e1:au (i:Int) 0 ((w.fD.length:Int) - 1)=true:=by unfold au; simp; omega
 have e2:au (i:Int) 0 ((w.bI.length:Int) - 1)=true:=by unfold au; simp; omega
 rw [e1,e2,rg,hd,ho];simp only [zXz,if_true];rw [SX (g:=1) hr];have:M.holds d 0 w.bI[i].fB=false:=by unfold M.holds; rw [hr]; rfl
 rw [this];rfl
theorem M0{u:Nat}(hu:1099511627776<=u)(code:List Int):nQ u code=some true:=by
 unfold nQ CS;simp only [wk]
 cases hbig:decide ((code.length:Int) > 1048576) with
 | true=>rfl
 | false =>
  have hl:code.length<=1048576:=by simp at hbig; omega
  simp only [cond_false];obtain ⟨w,e2,n,hn,hdn,hsa,hso⟩:=MW U3 hu hl;obtain ⟨v,e3,hv⟩:Ev (oE u code) λv=>M.AnyW v:=by
   unfold oE;exact bE (J5 hu hl 150) λr h=>cC h.1
  obtain ⟨x,e4,hx⟩:Ev (lE u code) λv=>M.AnyW v:=by
   unfold lE;exact bE (J5 hu hl 150) λr h=>cC h.1
  have hw:=hdn.d;have up:=AX hw.wf;have nl:=hw.wf.nl;have dl:=hw.wf.dl;have ol:=hw.ol;have wd:M.DsOk w:=⟨by omega,by omega,λd hd=>by obtain ⟨j,hj⟩:=List.mem_iff_getElem?.1 hd; exact (hw.wf.disks j d hj).o⟩;have wn:u7 w.fN:=λy hy=>by
   obtain ⟨j,hj⟩:=List.mem_iff_getElem?.1 hy;exact ⟨(hw.wf.nodes j y hj).w.s,t8 (hw.wf.nodes j y hj)⟩
  have rl:=ut x;have sound:((iM w).all λk=>lj w k == 1)=true:=by
   rw [zYh];intro z hz;unfold iM at hz
   split at hz
   ·simp at hz
   ·rename_i n l hl;rw [JO] at hz;obtain ⟨i,hi,rfl⟩:=List.mem_map.1 hz;have hin:=(List.mem_filter.1 hi).2;have hk:=hso.kid 0 n (by rw [hl]; rfl);have:=(CO n.bd 0 hk (S7 w)).2 i hin;rw [LZ hw this];rfl
  have dlen:(yd w).length<=1048576:=by
   unfold yd;have:=zZW (AO w) (zWh 0 w.fN.length);rw [zYZ];rw [List.length_range'] at this;omega
  simp only [e2,e3,e4,wk,JE hu (show w.fN.length<=1048576 by omega)];rw [B8 u _ w v x () u (by omega) (by omega),Ly (λy i k hy=>by
   have hy:(yd w)[i]?=some y:=hy;obtain ⟨j,hj,rfl⟩:=List.mem_map.1 (zQQ hy);have h5:=(List.mem_filter.1 hj).2;have hr:=List.mem_range'_1.1 (List.mem_filter.1 hj).1;obtain ⟨m,hm⟩:∃ m,w.fN[j]?=some m:=⟨_,sX (by omega)⟩;rw [LJ hm] at h5;have h5:m.aY=5:=by simpa using h5
   have h0:j≠0:=λe=>by
    subst e;have:=hso.root m hm;omega
   have hd:=sX (l:=w.fD) (i:=j) (by omega);have ho:=sX (l:=w.bI) (i:=j) (by omega);have hds:=hsa.disk j _ _ _ h0 hm hd ho;rcases (Ey (hw.old _ (zQQ ho)).1 hw.new.1 hsa.s hds).2 with ⟨_,_,h6⟩ | ⟨_,h6,_⟩
   ·exact absurd h5 h6
   ·unfold vI;rw [zI hu wd,LZ hw ⟨_,hd,h6⟩];rfl) (yd w) 0 rfl]
  unfold vH pq;simp only [BQ hu (S6 hv) hv.nk,KL hu (S6 hv) hv.nk,wk,beq_self_eq_true,cond_true,xX hu hx.nk,xY hu hx.nk,CN hu (show (iM x).length<=1048576 by omega),BQ hu wd wn,sound]
theorem M1(p0:List Int)(h:IF (jj .u8) p0/\True):nQ 1099511627776 p0=some true:=M0 (zWj _) p0
end Go.Tm.Pu
