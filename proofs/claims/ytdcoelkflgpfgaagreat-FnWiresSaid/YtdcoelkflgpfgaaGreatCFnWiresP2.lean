/- Plain laws of the functions. -/
import Derived.Test.YtdcoelkflgpfgaaGreatCFnWiresP1
set_option linter.unusedVariables false
set_option linter.unusedSimpArgs false
open Bool renaming and_eq_true->sk,and_self->zXH,false_eq_true->zQk,not_true->zQW,true_and->zWG
open Int renaming add_mul->zZx,toNat->sY,toNat_natCast->zQQ
open List renaming cons_append->zXk,drop_eq_getElem_cons->zXG,eq_nil_of_length_eq_zero->rg,foldl_cons->zXz,getElem?_append_left->r0,getElem?_append_right->zQY,getElem?_cons_zero->zWW,getElem?_eq_getElem->sX,getElem?_map->zQZ,getElem?_set->zXx,head?->zYG,head?_drop->zXV,length->zYK,length_append->zQJ,length_cons->zQV,length_drop->zYy,length_filter_le->zZv,length_map->zYY,length_nil->zXW,length_set->zXZ,length_singleton->zYV,length_take->zQh,map_cons->zWg,map_map->zZV,mem_append->zWJ,mem_cons->zXh,mem_map->zXg,mem_of_getElem?->zQX,mem_of_mem_drop->zWw,mem_of_mem_take->zWQ,mem_or_eq_of_mem_set->zYZ,mem_singleton->zQx,nil_append->zQy,not_mem_nil->zZj,range'->zXX,range_eq_range'->zXy,replicate->zQH,tail->zYk,tail_drop->zXq,take_append_drop->zXj
open Nat renaming add_zero->zXY,le_refl->zWq,le_trans->zWx,pow_le_pow_right->zYX,zero_add->zWV
open Option renaming bind_some->wk
namespace Go.Tm.Pu
open Go.Tm
theorem Ry{u:Nat}(hu:1099511627776<=u){d0:aB}(h0:M.DOk d0){b:List Int}(hb:b.length<=1048576){size:Int}:∀ (n i f:Nat) (d:aB),i+n=(ch size b.length).toNat->n < f->M.DOk d->d.fP.length<=200 ->
  iN u f b size i d.fA d.fB d.fR.aO d.fR.b7 d.fR.aY d.fP d0=some (mm d0 b size n i d):=by
 have hr:=eS size b.length;intro n
 induction n with
 | zero =>
  intro i f d h hf hd hl;obtain ⟨f,rfl⟩:∃ j,f=j+1:=⟨f - 1,by omega⟩;have e:decide ((i:Int) < ch size b.length)=false:=by simp; omega
  unfold iN;rw [gq];simp only [wk,e,cond_false];exact rfl
 | succ n ih =>
  intro i f d h hf hd hl;obtain ⟨f,rfl⟩:∃ j,f=j+1:=⟨f - 1,by omega⟩;have e:decide ((i:Int) < ch size b.length)=true:=by simp; omega
  have hw:ar (i:Int) 0 (ch size b.length - 1)=true:=by unfold ar; simp; omega
  obtain ⟨k1,k2,k3⟩:=Ae hw;have k4:=vw k1;have k5:=CJ (s:=size) (i:=i) (by omega) (by omega) k2 k3;have e1:(cm size b.length i).1=(i:Int)*size:=by unfold cm; rw [if_pos hw]
  have hbl:=Iy b size i;have hde:aB.mk d.fA d.fB (dp.mk d.fR.aO d.fR.b7 d.fR.aY) d.fP=d:=rfl;unfold iN mm;rw [gq,jt,Bh u (by omega),DC];simp only [wk,e,cond_true,e1,hde];rw [HZ hu hd (by omega) _ _ (by omega),gw hu h0];simp only [wk];obtain ⟨g1,g2⟩:=Gn hd hl (qz d0) ((i:Int)*size) (b:=(ei b size i).1) (by omega);have m1:=ih (i+1) f _ (by omega) (by omega) g1 g2;rw [db (by omega)]
  cases (lu d (qz d0) ((i:Int)*size) (ei b size i).1).2 with
  | true=>exact m1
  | false=>exact rfl
theorem H0{u:Nat}(hu:1099511627776<=u){d:aB}(hd:M.DOk d){b:List Int}(hb:b.length<=1048576)(size:Int):q8 u d b size=some (nK d b size):=by
 have hr:=eS size b.length;unfold q8 mO nK;simp only [gw hu hd,m7 hu hd,pN,wk]
 cases cQ d with
 | false=>rfl
 | true =>
  by_cases hp:d.fP.length=0
  ·have e:decide ((d.fP.length:Int) > 0)=false:=decide_eq_false (by omega);simp only [e,hp,decide_true,zQW,cond_false,zWG,zXH]
   cases fk size b.length with
   | false=>rfl
   | true=>exact Ry hu hd hb (size:=size) (ch size b.length).toNat 0 u d (by omega) (by omega) hd (by omega)
  ·have e:decide ((d.fP.length:Int) > 0)=true:=by simp; omega
   simp only [e,hp,cond_true,zQW,cond_false,decide_false,Bool.and_false,Bool.false_and,zQk,↓reduceIte]
theorem DD{d0:aB}(h0:M.DOk d0)(hp:d0.fP.length<=200){b:List Int}(hb:b.length<=1048576){size:Int}:∀ (n i:Nat) (d:aB),M.DOk d->d.fP.length<=200->M.DOk (mm d0 b size n i d).1/\(mm d0 b size n i d).1.fP.length<=200
 | 0,i,d,hd,hl=>⟨hd,hl⟩
 | n+1,i,d,hd,hl=>by
  unfold mm;have hbl:=Iy b size i;obtain ⟨g1,g2⟩:=Gn hd hl (qz d0) ((i:Int)*size) (b:=(ei b size i).1) (by omega)
  split
  ·exact DD h0 hp hb n (i+1) _ g1 g2
  ·exact ⟨h0,hp⟩
def jg(d:aB)(m:ah)(x:bI)(ph:Int):aB×Int :=
 if ph=1 then (if Oy m x && (nK d x.bZ m.aC).2 then ((nK d x.bZ m.aC).1,2) else (d,ph))
 else if ph=2 then (vY d,3)
 else if ph=3 then (if (ml d ⟨m.aO,qz d,m.aY⟩).2 then ((ml d ⟨m.aO,qz d,m.aY⟩).1,4) else (d,ph))
 else if ph=4 then (vY d,5)
 else (d,ph)
theorem Wb{α:Type}(ph:Int)(a b c e f:α):(bif ph == 1 then a else bif ph == 2 then b else bif ph == 3 then c else bif ph == 4 then e else f)=if ph=1 then a else if ph=2 then b else if ph=3 then c else if ph=4 then e else f:=by
 by_cases h1:ph=1
 ·simp [h1]
 ·by_cases h2:ph=2
  ·simp [h2]
  ·by_cases h3:ph=3
   ·simp [h3]
   ·by_cases h4:ph=4
    ·simp [h4]
    ·have e1:(ph == 1)=false:=by simpa using h1
     have e2:(ph == 2)=false:=by simpa using h2
     have e3:(ph == 3)=false:=by simpa using h3
     have e4:(ph == 4)=false:=by simpa using h4
     simp [e1,e2,e3,e4,h1,h2,h3,h4]
theorem Kh{α:Type}(p:Prop)[Decidable p](a b:α):(if p then some a else some b)=some (if p then a else b):=by split <;> rfl
theorem WI(w s:Bool)(a b c:aB×Int)(hb:b=c):(bif w then (bif s then some a else some b) else some c)=some (if (w && s)=true then a else c):=by subst hb; cases w <;> cases s <;> rfl
theorem WJ(s:Bool)(a b:aB×Int):(bif s then some a else some b)=some (if s=true then a else b):=by cases s <;> rfl
theorem EE{u:Nat}(hu:1099511627776<=u){d:aB}(hd:M.DOk d)(hl:d.fP.length<=1048575){m:ah}(hm:m.aJ.length<=1048576){x:bI}(hx:M.BldWf x)(ph:Int):nU u d m x ph=some (jg d m x ph):=by
 unfold nU iO jg;simp only [MR hu hm hx,H0 hu hd hx.l,F6 hu hd,DC,Gm hu hd hl,gw hu hd,wk,Wb];rw [WI _ _ _ _ _ rfl,WJ,Kh,Kh,Kh,Kh]
theorem L4{d:aB}(hd:M.DOk d)(hl:d.fP.length<=200){m:ah}{x:bI}(hx:M.BldWf x)(ph:Int):M.DOk (jg d m x ph).1/\(jg d m x ph).1.fP.length<=200:=by
 have hs:M.DOk (vY d)/\(vY d).fP.length<=200:=by
  refine ⟨Sk hd,?_⟩;unfold vY
  split
  ·rw [Qa]; simp
  ·exact hl
 have hst:M.DOk (nK d x.bZ m.aC).1/\(nK d x.bZ m.aC).1.fP.length<=200:=by
  unfold nK
  split
  ·exact DD hd hl hx.l _ _ _ hd hl
  ·exact ⟨hd,hl⟩
 have hr:M.DOk (ml d ⟨m.aO,qz d,m.aY⟩).1/\(ml d ⟨m.aO,qz d,m.aY⟩).1.fP.length<=200:=by
  unfold ml;rcases Rx d ⟨2,0,[],⟨m.aO,qz d,m.aY⟩⟩ with ⟨h1,h2⟩ | h1
  ·rw [h1]; exact ⟨CM hd (by omega) (by simp),Qf h2⟩
  ·rw [h1]; exact ⟨hd,hl⟩
 unfold jg
 split
 ·split
  ·exact hst
  ·exact ⟨hd,hl⟩
 ·split
  ·exact hs
  ·split
   ·split
    ·exact hr
    ·exact ⟨hd,hl⟩
   ·split
    ·exact hs
    ·exact ⟨hd,hl⟩
theorem Cr{u:Nat}(hu:1099511627776<=u){m:dY}(hm:M.MsgWf m):ni u m=some (fm m):=by
 have k:=bA [] m.bt;have g:=bA (aU [] m.bt) m.aO;simp only [zXW] at k;have hl:=hm.len;obtain ⟨hb,hbl⟩:=Ez hm;unfold ni fm;rw [zk hu hm.sums];simp only [wk]
 cases hok:kh m with
 | false=>rfl
 | true =>
  simp only [zQW,cond_false,if_true];rw [dE hu (by simp)];simp only [wk];have tail:jl u (ek m)=some (aU (ek m) (ct (ek m))):=by
   unfold jl;rw [tU hu hb (by omega)];simp only [wk];rw [dE hu (by omega)]; rfl
  rw [<- tail]
  clear tail hbl hb
  unfold ek oc
  by_cases h1:m.bt=1
  ·simp only [h1,beq_self_eq_true,cond_true,if_true];rw [h1] at k;rw [LC hu (by omega) (by have:=hm.sums; omega) hm.wf]; rfl
  ·have e1:(m.bt == 1)=false:=by simpa using h1
   by_cases h2:m.bt=2
   ·rw [h2] at k g;have h3:=bA (aU (aU [] 2) m.aO) (eH .i64 m.bQ 1048575);have h4:=bA (aU (aU (aU [] 2) m.aO) (eH .i64 m.bQ 1048575)) (lB .i64 m.bQ 20);have h5:=bA (aU (aU (aU (aU [] 2) m.aO) (eH .i64 m.bQ 1048575)) (lB .i64 m.bQ 20)) (eH .i64 m.bV 1048575);simp only [h2,beq_self_eq_true,cond_true,if_true,s7];rw [dE hu (by omega)]; simp only [wk];rw [dE hu (by omega)]; simp only [wk];rw [dE hu (by omega)]; simp only [wk];rw [dE hu (by omega)]; simp only [wk];rw [dE hu (by omega)]; rfl
   ·have e2:(m.bt == 2)=false:=by simpa using h2
    by_cases h3:m.bt=3
    ·rw [h3] at k g;have h4:=bA (aU (aU [] 3) m.aO) m.fI;have h5:=bA (aU (aU (aU [] 3) m.aO) m.fI) m.fB.length;simp only [h3,beq_self_eq_true,cond_true,if_true,wD];rw [dE hu (by omega)]; simp only [wk];rw [dE hu (by omega)]; simp only [wk];rw [dE hu (by omega)]; simp only [wk];rw [bl (by omega)]; rfl
    ·have e3:(m.bt == 3)=false:=by simpa using h3
     by_cases h4:m.bt=4
     ·rw [h4] at k;simp only [h4,beq_self_eq_true,cond_true,if_true];rw [dE hu (by omega)]; rfl
     ·have e4:(m.bt == 4)=false:=by simpa using h4
      rw [LX h1 h2 h3 h4] at hok; cases hok
def iW(f t:Int)(m:dY):ag:=⟨f,t,fm m⟩
def H1(g i:Int)(b:List Int):dY:=⟨3,g,Db,0,0,i,b⟩
theorem AT(g i:Int){b:List Int}(hb:aq b)(hl:b.length<=1048576):M.MsgWf (H1 g i b):=Dy _ _ _ _ _ hb hl
theorem iX{u:Nat}(hu:1099511627776<=u)(f t:Int){m:dY}(hm:M.MsgWf m):ed u f t m=some (iW f t m):=by
 unfold ed;rw [Cr hu hm]; rfl
theorem wa(u:Nat)(g i:Int){b:List Int}(hl:b.length<=1048576):mf u g i b=some (H1 g i b):=by
 unfold mf;rw [Gi hl]; rfl
theorem EF(m:ah){x:bI}(hx:M.BldWf x)(i:Int):aq (il m x i).1/\(il m x i).1.length<=1048576:=by
 unfold il
 split
 ·exact HU hx.b hx.l _ _
 ·exact ⟨iV,by simp⟩
def wQ(n:aH)(f t i:Int):ag:=iW f t (H1 n.aD.aO i (il n.aD n.bD i).1)
def f9(n:aH)(f t:Int):Act :=
 ⟨⟨n.gW,n.bP,n.bJ,n.aD,n.bD,n.bp,nI n.bj t (od n.bj t n.bD.bq),n.bB⟩,((lT (od n.bj t n.bD.bq)).filter λi=>(il n.aD n.bD i).2).map (wQ n f t)⟩
theorem Iz(s:Int):(lT s).length<=40:=by
 unfold lT
 split
 ·rw [zYY];exact zWx (zZv _ _) (by simp)
 ·simp
theorem OA{s:List ag}(hl:s.length<=1048576)(p:ag):c9 (decide ((s.length + [p].length)*40<=140737488355328))=some ():=bl (by simp; omega)
theorem Gp{u:Nat}(hu:1099511627776<=u){n:aH}(hn:M.NodWf n)(f t:Int):pm u n f t=some (f9 n f t):=by
 have hp:=Iz (od n.bj t n.bD.bq);unfold pm sH;simp only [fF u hn,Cm hu hn.k,Jw hu,wk];rw [CY u _ _ _ _ _ _ _ u (by omega) (by omega),LZ (xs:=lT (od n.bj t n.bD.bq)) (λi=>(il n.aD n.bD i).2) (wQ n f t) (λx i s k hx hi hs=>?_) (lT (od n.bj t n.bD.bq)) 0 [] rfl (by simp)]
 ·unfold wg oM;rw [Ah hu hn.k]; rfl
 ·unfold wh jB;have w:=EF n.aD hn.b x;rw [Bl hu hn.s hn.b];simp only [wk]
  cases (il n.aD n.bD x).2 with
  | false=>rfl
  | true =>
   have e:cN (lT (od n.bj t n.bD.bq)) (i:Int)=some x:=by rw [b9]; exact hx
   simp only [cond_true,e,wk,wa u _ _ w.2,iX hu _ _ (AT _ _ w.1 w.2),OA (show s.length<=1048576 by omega)];rfl
theorem MS(n:aH)(f t:Int):(f9 n f t).nc.length<=40:=by
 have hp:=Iz (od n.bj t n.bD.bq);unfold f9;have:=zZv (λi=>(il n.aD n.bD i).2) (lT (od n.bj t n.bD.bq));simp only [zYY];omega
def jW(n:aH)(l:List bM):aH:=⟨n.gW,n.bP,n.bJ,n.aD,n.bD,n.bp,l,n.bB⟩
def Ct(g:Int):dY:=⟨4,g,Db,0,0,0,[]⟩
def Gq(m:ah):dY:=⟨1,0,m,0,0,0,[]⟩
theorem CQ(g:Int):M.MsgWf (Ct g):=Dy _ _ _ _ _ iV (by simp)
theorem NH{m:ah}(hs:m.aJ.length<=1048576)(hw:oY m):M.MsgWf (Gq m):=⟨hs,hw,iV,by simp [Gq]⟩
def eT(n:aH)(me f:Int)(m:dY):Act :=
 if f=me then ⟨n,[]⟩ else
 let l:=qO n.bj f m.bQ m.bV
 if n.bp=0 then ⟨jW n l,[iW me f (Ct 0)]⟩
 else if m.aO=n.aD.aO then
  (let a:=f9 (jW n l) me f; if a.nc.length=0 then ⟨a.fN,[iW me f (Ct n.aD.aO)]⟩ else a)
 else ⟨jW n l,[iW me f (Gq n.aD)]⟩
theorem yQ{n:aH}(hn:M.NodWf n){l:List bM}(hl:l.length<=1048577):M.NodWf (jW n l):=⟨hn.s,hn.b,hl,hn.w⟩
theorem OB(p:ag):c9 (decide (((([]:List ag)).length + [p].length)*40<=140737488355328))=some ():=bl (by simp)
theorem EG{u:Nat}(hu:1099511627776<=u){n:aH}(hn:M.NodWf n)(hk:n.bj.length<=1048576)(me f:Int)(m:dY):nW u n me f m=some (eT n me f m):=by
 unfold nW eT nz nA;simp only [fF u hn,wk]
 by_cases h1:f=me
 ·simp only [h1,beq_self_eq_true,cond_true,if_true]
 ·have e1:(f == me)=false:=by simpa using h1
  have hl:=Qb n.bj f m.bQ m.bV;simp only [e1,h1,cond_false,if_false,Ox hu hk,wk]
  by_cases h2:n.bp=0
  ·simp only [h2,beq_self_eq_true,cond_true,if_true];rw [show (dY.mk 4 0 (ah.mk 0 0 0 []) 0 0 0 [])=Ct 0 from rfl,iX hu me f (CQ 0)];simp only [wk,OB,zQy,<- h2]; rfl
  ·have e2:(n.bp == 0)=false:=by simpa using h2
   simp only [e2,h2,cond_false,if_false]
   by_cases h3:m.aO=n.aD.aO
   ·simp only [h3,bne_self_eq_false,cond_false,if_true];rw [show (aH.mk n.gW n.bP n.bJ n.aD n.bD n.bp (qO n.bj f m.bQ m.bV) n.bB)=jW n (qO n.bj f m.bQ m.bV) from rfl,Gp hu (yQ hn (by omega)) me f];simp only [wk]
    cases ha:f9 (jW n (qO n.bj f m.bQ m.bV)) me f with
    | mk an ao =>
     cases ao with
     | nil =>
      rw [show (dY.mk 4 n.aD.aO (ah.mk 0 0 0 []) 0 0 0 [])=Ct n.aD.aO from rfl,iX hu me f (CQ _)];simp only [wk,OB]; rfl
     | cons p ps =>
      have e3:(((p :: ps).length:Int) == 0)=false:=by simp; omega
      simp only [e3,cond_false]; simp
   ·have e3:(m.aO != n.aD.aO)=true:=by simpa using h3
    simp only [e3,h3,cond_true,if_false];rw [show (dY.mk 1 0 n.aD 0 0 0 [])=Gq n.aD from rfl,iX hu me f (NH hn.s hn.w)];simp only [wk,OB]; rfl
theorem U9{i:Int}(hi:iT i=true):qP .i64 0 (gl .i64 1 i)=gl .i64 1 i:=by
 have h:=cd hi;obtain ⟨n,rfl⟩:∃ n:Nat,i=n:=⟨i.toNat,by omega⟩;have hp:2 ^ n<=2 ^ 39:=zYX (by omega) (by omega);have e:=LO (a:=1) (n:=n) (by omega) (by omega);have e2:gl .i64 1 (n:Int)=((1*2 ^ n:Nat):Int):=e;rw [e2];have:=F1 (a:=0) (b:=1*2 ^ n) (by omega) (by omega)
 simpa using this
theorem MT{m:ah}{x:bI}{i:Int}(h:(il m x i).2=true):iT i=true:=by
 unfold il at h
 split at h
 ·rename_i h1;simp only [sk,ff] at h1;exact h1.2.1.2
 ·cases h
def fc(n:aH)(me i:Int)(s:List bM×List ag)(x:bM):List bM×List ag :=
 if ff (od s.1 x.oJ n.bD.bq) i then (nI s.1 x.oJ (gl .i64 1 i),s.2++[wQ n me x.oJ i]) else s
def Gr(n:aH)(me i:Int):List bM×List ag:=n.bj.foldl (fc n me i) (n.bj,[])
def jL(n:aH)(me i:Int):Act:=if (il n.aD n.bD i).2 then ⟨jW n (Gr n me i).1,(Gr n me i).2⟩ else ⟨n,[]⟩
theorem IA(n:aH)(me i:Int)(s:List bM×List ag)(x:bM):(fc n me i s x).1.length=s.1.length/\(fc n me i s x).2.length<=s.2.length+1:=by
 unfold fc
 split
 ·exact ⟨Gg _ _ _,by simp⟩
 ·exact ⟨rfl,by omega⟩
theorem Va(n:aH)(me i:Int):∀ (l:List bM) (s:List bM×List ag),(l.foldl (fc n me i) s).1.length=s.1.length/\(l.foldl (fc n me i) s).2.length<=s.2.length+l.length:=by
 intro l
 induction l with
 | nil=>intro s; exact ⟨rfl,by simp⟩
 | cons x l ih =>
  intro s;have h:=ih (fc n me i s x);have g:=IA n me i s x;simp only [zXz,zQV];omega
theorem Rz{u:Nat}(hu:1099511627776<=u){n:aH}(hn:M.NodWf n)(me i:Int)(h:(il n.aD n.bD i).2=true):∀ (l:List bM) (k j:Nat) (s:List bM×List ag),l=n.bj.drop j->l.length < k->s.1.length<=1048577->s.2.length<=j ->
  ez u k me i (il n.aD n.bD i) (j:Int) n n s.1 s.2=some ⟨jW n (l.foldl (fc n me i) s).1,(l.foldl (fc n me i) s).2⟩:=by
 have w:=EF n.aD hn.b i;have pl:=MT h;have hk:=hn.k;intro l
 induction l with
 | nil =>
  intro k j s hl hf h1 h2;obtain ⟨k,rfl⟩:∃ k',k=k'+1:=⟨k - 1,by simp at hf; omega⟩;have hj:n.bj.length<=j:=by
   have:=congrArg zYK hl; simp at this; omega
  have e:decide ((j:Int) < (n.bj.length:Int))=false:=by simp; omega
  simp only [ez,e,cond_false,lO,rX];rfl
 | cons x l ih =>
  intro k j s hl hf h1 h2;obtain ⟨k,rfl⟩:∃ k',k=k'+1:=⟨k - 1,by simp at hf; omega⟩;have hx:n.bj[j]?=some x:=by
   have:=congrArg zYG hl
   simpa [zXV] using this.symm
  have hl2:l=n.bj.drop (j+1):=by
   have:=congrArg zYk hl
   simpa [zXq] using this
  have hj:=(List.getElem?_eq_some_iff.1 hx).1;have e:decide ((j:Int) < (n.bj.length:Int))=true:=by simp; omega
  have g:=IA n me i s x;have r:=ih k (j+1) (fc n me i s x) hl2 (by simp at hf; omega) (by omega) (by omega);simp only [zXz,<- r];simp only [ez,e,cond_true,lO,h,rY,b9,hx,sH,wk,Cm hu h1,kB];rw [pQ (a:=j) (b:=1) (by omega) |> (λ(e:aW .i64 (j:Int) ((1:Nat):Int)=_)=>show aW .i64 (j:Int) 1=((j+1:Nat):Int) from e)]
  cases hs:ff (od s.1 x.oJ n.bD.bq) i with
  | false =>
   simp only [cond_false,fc,hs,zQk,if_false]
  | true =>
   simp only [cond_true,wa u _ _ w.2,wk,iX hu _ _ (AT _ _ w.1 w.2),OA (show s.2.length<=1048576 by omega),Al u (s:=0) rfl pl,U9 pl,Ah hu h1];simp only [fc,hs,if_true];rfl
theorem JI{u:Nat}(hu:1099511627776<=u){n:aH}(hn:M.NodWf n)(me i:Int):tl u n me i=some (jL n me i):=by
 unfold tl jL;simp only [fF u hn,Bl hu hn.s hn.b,wk];have hk:=hn.k
 cases h:(il n.aD n.bD i).2 with
 | true =>
  have:=Rz hu hn me i h n.bj u 0 (n.bj,[]) rfl (by omega) hk (by simp);exact this
 | false =>
  obtain ⟨k,rfl⟩:∃ k,u=k+1:=⟨u - 1,by omega⟩;simp only [ez,lO,h,cond_false,rX]
  cases decide ((0:Int) < (n.bj.length:Int)) <;> simp
structure M.DB (d:aB):Prop where
 a:aq d.fA
 b:aq d.fB
 p:∀ x∈d.fP,aq x.fB
theorem OC{l:List Int}(h:aq l)(n:Nat):aq (l.take n):=λx hx=>h x (zWQ hx)
theorem OD{d:aB}(h:M.DB d)(n:Int):aq (pS d n):=by
 unfold pS; split
 ·exact h.a
 ·exact h.b
theorem DE{d:aB}(h:M.DB d):aq (oG d).2/\(oG d).2.length<=240:=by
 unfold oG
 split
 ·rename_i hd;have:=Ny hd d.fR.b7;exact ⟨OC (OD h _) _,by simp only [zQh]; omega⟩
 ·exact ⟨iV,by simp⟩
theorem NI{b:List Int}(hb:aq b):M.MsgWf (dR b).1:=by
 unfold dR
 split
 ·rename_i h;simp only [sk] at h;have g:=cD hb (NC _ h.1);have p:=HR hb (k:=(bf b 0).1) (a:=(bf b 0).2.1) (by simpa using g.2.2.2.2.2)
  cases hr:zn b (bf b 0).1 (bf b 0).2.1 with
  | none=>exact Dy _ _ _ _ _ iV (by simp)
  | some x =>
   obtain ⟨m,e⟩:=x;have q:=p m e hr;dsimp only
   split
   ·exact q.1
   ·exact Dy _ _ _ _ _ iV (by simp)
 ·exact Dy _ _ _ _ _ iV (by simp)
def M.drop(n:aH):aH:=⟨n.gW,n.bP,n.bJ,n.aD,n.bD,n.bp,n.bj,aW .i64 n.bB 1⟩
theorem wb(u:Nat){n:aH}(h:M.NodWf n):ke u n=some (M.drop n):=by
 unfold ke;rw [fF u h]; rfl
def oI(n:aH)(d:aB)(m:ah):aH :=
 if n.bp=0 then
  (if cS m && (m.aO != 0) then ⟨n.gW,n.bP,n.bJ,m,vD m (oG d).2,if ((oG d).1 == m.aO) && M.tells m (oG d).2 then 5 else 1,n.bj,n.bB⟩ else n)
 else if wX n.aD m then n else M.drop n
theorem JJ{u:Nat}(hu:1099511627776<=u){n:aH}(hn:M.NodWf n){d:aB}(hd:M.DOk d)(hb:M.DB d){m:ah}(hm:m.aJ.length<=1048576):tk u n d m=some (oI n d m):=by
 obtain ⟨rb,rl⟩:=DE hb;unfold tk oI rV rU rT;simp only [fF u hn,Bi hu hn.s,wb u hn,gr hu m (show m.aJ.length<=1073741824 by omega),JC hu hd,xV u hm,yP hu hm rb (show _<=1048576 by omega),Dz hu m rb (show _<=1048576 by omega),wk]
 by_cases h:n.bp=0
 ·have e:(n.bp != 0)=false:=by simp [h]
  rw [if_pos h];simp only [e,cond_false];rw [show (m.aO != 0)=!(m.aO == 0) from rfl]
  cases cS m <;> cases (m.aO == 0) <;> cases ((oG d).1 == m.aO) <;> cases M.tells m (oG d).2 <;> rfl
 ·have e:(n.bp != 0)=true:=by simpa using h
  simp only [e,h,cond_true,if_false]
  cases wX n.aD m <;> rfl
def CR(n:aH)(x:bI):aH:=⟨n.gW,n.bP,n.bJ,n.aD,x,n.bp,n.bj,n.bB⟩
def lv(n:aH)(me:Int)(m:dY):Act :=
 if n.bp=0\/m.aO≠n.aD.aO then ⟨M.drop n,[]⟩
 else if ff n.bD.bq m.fI then ⟨n,[]⟩
 else if (nJ n.aD n.bD m.fI m.fB).2 then jL (CR n (nJ n.aD n.bD m.fI m.fB).1) me m.fI
 else ⟨M.drop n,[]⟩
theorem Vb{m:ah}{x:bI}{i:Int}{b:List Int}(h:(t5 m x i b).1=true):ar i 0 ((m.aJ.length:Int) - 1)=true/\(match m.aJ[i.toNat]? with | some s=>decide (ef b=s) | none=>false)=true:=by
 unfold t5 at h;generalize hc:(ar i 0 ((m.aJ.length:Int) - 1) && !ff x.bq i && (match m.aJ[i.toNat]? with | some s=>decide (ef b=s) | none=>false))=c at h
 cases c with
 | false=>cases h
 | true=>simp only [sk] at hc; exact ⟨hc.1.1,hc.2⟩
theorem IB{m:ah}{x:bI}(hx:M.BldWf x)(i:Int){b:List Int}(hb:aq b):M.BldWf (nJ m x i b).1:=by
 unfold nJ
 by_cases h:(kP m x && (t5 m x i b).1)=true
 ·rw [if_pos h];simp only [sk] at h;obtain ⟨hbo,h2⟩:=h;obtain ⟨hm,hs⟩:=Iw hbo;have hl:=Co hbo;obtain ⟨h4,h6⟩:=Vb h2;have h7:=cd h4;obtain ⟨n,rfl⟩:∃ n:Nat,i=n:=⟨i.toNat,by omega⟩;rw [zQQ] at h6
  cases hg:m.aJ[n]? with
  | none=>rw [hg] at h6; cases h6
  | some s =>
   rw [hg] at h6;have h8:=NF hb (of_decide_eq_true h6) (NG hm hg);obtain ⟨e1,e2,e3⟩:=Gk (b:=x.bZ) hl n;obtain ⟨g1,g2⟩:=Cp (x:=x.bZ) (p:=b) (a:=M.at_ m n) (by omega) hx.b hb;exact ⟨g1,by show (KU _ _ _).length<=_; rw [g2]; exact hx.l⟩
 ·rw [if_neg h]; exact hx
theorem L5{n:aH}(hn:M.NodWf n){x:bI}(hx:M.BldWf x):M.NodWf (CR n x):=⟨hn.s,hx,hn.k,hn.w⟩
theorem H2{u:Nat}(hu:1099511627776<=u){n:aH}(hn:M.NodWf n)(me:Int){m:dY}(hm:M.MsgWf m):re u n me m=some (lv n me m):=by
 unfold re lv qk;simp only [fF u hn,wb u hn,kB,HW hu hn.s hn.b m.fI hm.b hm.len,wk];rw [show (aH.mk n.gW n.bP n.bJ n.aD (nJ n.aD n.bD m.fI m.fB).1 n.bp n.bj n.bB)=CR n (nJ n.aD n.bD m.fI m.fB).1 from rfl,JI hu (L5 hn (IB hn.b m.fI hm.b)) me m.fI];simp only [wk]
 by_cases h1:n.bp=0
 ·simp [h1]
 ·by_cases h2:m.aO=n.aD.aO
  ·have e:(n.bp == 0)=false:=by simpa using h1
   simp only [h1,h2,e,cond_false,bne_self_eq_false,ne_eq,not_true_eq_false,or_self,if_false]
   cases ff n.bD.bq m.fI <;> cases (nJ n.aD n.bD m.fI m.fB).2 <;> rfl
  ·have e:(n.bp == 0)=false:=by simpa using h1
   have e2:(m.aO != n.aD.aO)=true:=by simpa using h2
   simp [h1,h2,e,e2]
def EH(n:aH):aH:=⟨n.gW,n.bP,0,n.aD,n.bD,n.bp,n.bj,n.bB⟩
theorem CS{n:aH}(hn:M.NodWf n):M.NodWf (EH n):=⟨hn.s,hn.b,hn.k,hn.w⟩
def jX(n:aH)(me:Int)(d:aB)(m:dY):Act :=
 if m.bt=1 then ⟨oI (EH n) d m.aD,[]⟩
 else if m.bt=3 then lv (EH n) me m
 else if m.bt=2 then ⟨M.drop (EH n),[]⟩
 else ⟨EH n,[]⟩
theorem Wc{α:Type}(k:Int)(a b c e:α):(bif k == 1 then a else (bif k == 3 then b else (bif k == 2 then c else e)))=if k=1 then a else if k=3 then b else if k=2 then c else e:=by
 by_cases h1:k=1
 ·subst h1; rfl
 ·by_cases h2:k=3
  ·subst h2; rfl
  ·by_cases h3:k=2
   ·subst h3; rfl
   ·have e1:(k == 1)=false:=by simpa using h1
    have e2:(k == 3)=false:=by simpa using h2
    have e3:(k == 2)=false:=by simpa using h3
    simp [h1,h2,h3,e1,e2,e3]
theorem Ul{α:Type}(p q r:Prop)[Decidable p][Decidable q][Decidable r](a b c e:α):(if p then some a else if q then some b else if r then some c else some e)=some (if p then a else if q then b else if r then c else e):=by
 by_cases hp:p <;> by_cases hq:q <;> by_cases hr:r <;> simp [hp,hq,hr]
theorem H3{u:Nat}(hu:1099511627776<=u){n:aH}(hn:M.NodWf n)(me:Int){d:aB}(hd:M.DOk d)(hb:M.DB d){m:dY}(hm:M.MsgWf m):rf u n me d m=some (jX n me d m):=by
 unfold rf jX mT;simp only [fF u hn,wk];rw [show (aH.mk n.gW n.bP 0 n.aD n.bD n.bp n.bj n.bB)=EH n from rfl,JJ hu (CS hn) hd hb hm.sums,H2 hu (CS hn) me hm,Wc];exact Ul _ _ _ _ _ _ _
def M.take(t:cT)(me:Int)(n:aH)(d:aB)(p:ag):Act :=
 if !n.gW then ⟨n,[]⟩
 else if (dR p.fB).2 && ar p.cB 0 ((t.cf.length:Int) - 1) && (p.cB != me) then
  (if (dR p.fB).1.bt=2 then eT n me p.cB (dR p.fB).1
   else if p.cB=n.bP then jX n me d (dR p.fB).1 else ⟨M.drop n,[]⟩)
 else ⟨M.drop n,[]⟩
theorem OE{u:Nat}(hu:1099511627776<=u){t:cT}(ht:t.cf.length<=1048576)(me:Int){n:aH}(hn:M.NodWf n)(hk:n.bj.length<=1048576){d:aB}(hd:M.DOk d)(hb:M.DB d){p:ag}(hp:aq p.fB)(hl:p.fB.length<=1048576):zG u t me n d p=some (M.take t me n d p):=by
 have w:=NI hp;have eb:cW .i64 ((t.cf.length:Int)) 1=(t.cf.length:Int) - 1:=cJ (by omega) (by omega);unfold zG M.take tn;simp only [fF u hn,wb u hn,xS hu hp hl,bL,eb,EG hu hn hk,H3 hu hn me hd hb w,wk]
 by_cases h1:(dR p.fB).1.bt=2
 ·simp only [h1,beq_self_eq_true,cond_true,if_true];rw [show (p.cB != me)=!(p.cB == me) from rfl]
  cases n.gW <;> cases (dR p.fB).2 <;> cases ar p.cB 0 ((t.cf.length:Int) - 1) <;> cases (p.cB == me) <;> rfl
 ·have e1:((dR p.fB).1.bt == 2)=false:=by simpa using h1
  simp only [e1,h1,cond_false,if_false];rw [show (p.cB != me)=!(p.cB == me) from rfl]
  by_cases h2:p.cB=n.bP
  ·have e2:(p.cB == n.bP)=true:=by simpa using h2
   simp only [e2,cond_true,if_pos h2]
   cases n.gW <;> cases (dR p.fB).2 <;> cases ar p.cB 0 ((t.cf.length:Int) - 1) <;> cases (p.cB == me) <;> rfl
  ·have e2:(p.cB == n.bP)=false:=by simpa using h2
   simp only [e2,cond_false,if_neg h2]
   cases n.gW <;> cases (dR p.fB).2 <;> cases ar p.cB 0 ((t.cf.length:Int) - 1) <;> cases (p.cB == me) <;> rfl
def Am:List Int->Int->Int->Int
 | [],_,a=>a
 | y :: ys,n,a=>if n < 1 then a else Am ys (cW .i64 n 1) (qP .i64 a (gl .i64 1 y))
def H4(s n:Int):Int:=Am (lT s) n 0
theorem RA(s:Int):lT s=((zXX 0 40).filter λ(i:Nat)=>ff s (i:Int)).map λ(i:Nat)=>(i:Int):=by
 unfold lT;rw [<- zXy]
 cases h:cG s with
 | false=>simp [ff,h]
 | true =>
  simp only [if_true]
  congr 1
  apply List.filter_congr
  intro i hi;have hi:i < 40:=by simpa using hi
  have:iT (i:Int)=true:=by simp [iT,ar]; omega
  simp [ff,h,this]
theorem Tc:∀ (l:List Int) (n a:Int),n < 1->Am l n a=a:=by
 intro l n a h
 cases l with
 | nil=>rfl
 | cons y ys=>simp only [Am,h,if_true]
theorem OF(u:Nat)(s:Int):∀ (m i f:Nat) (n a:Int),i+m=40->m < f ->
  fv u f s n a (i:Int)=some (Am (((zXX i m).filter λ(i:Nat)=>ff s (i:Int)).map λ(i:Nat)=>(i:Int)) n a):=by
 intro m
 induction m with
 | zero =>
  intro i f n a h hf;obtain ⟨f,rfl⟩:∃ f',f=f'+1:=⟨f - 1,by omega⟩;have e:decide ((i:Int) < 40)=false:=by simp; omega
  simp only [fv,e,cond_false,nV,rN]; rfl
 | succ m ih =>
  intro i f n a h hf;obtain ⟨f,rfl⟩:∃ f',f=f'+1:=⟨f - 1,by omega⟩;have e:decide ((i:Int) < 40)=true:=by simp; omega
  have hi:c9 (decide ((0:Int)<=(i:Int)))=some ():=bl (by omega);have hb:aW .i64 (i:Int) 1=((i+1:Nat):Int):=pQ (a:=i) (b:=1) (by omega);simp only [fv,e,cond_true,nV,rO,rN,kB,wk,hi,hb]
  by_cases hn:n > 0
  ·have hn2:¬ n < 1:=by omega
   simp only [hn,decide_true,cond_true];rw [List.range'_succ,List.filter_cons]
   cases hs:ff s (i:Int) with
   | true =>
    simp only [cond_true,if_true,zWg,Am,hn2,if_false];exact ih (i+1) f _ _ (by omega) (by omega)
   | false =>
    simp only [cond_false,zQk,if_false];exact ih (i+1) f _ _ (by omega) (by omega)
  ·simp only [hn,decide_false,cond_false];rw [Tc _ _ _ (by omega)]
theorem JK{u:Nat}(hu:1099511627776<=u)(s n:Int):tc u s n=some (H4 s n):=by
 unfold tc H4;rw [RA];exact OF u s 40 0 u n 0 rfl (by omega)
def L6(n:aH):Int:=if n.bp=0 then 0 else CO n.aD n.bD
theorem L7{u:Nat}(hu:1099511627776<=u){n:aH}(hn:M.NodWf n):vg u n=some (L6 n):=by
 unfold vg L6;rw [Bk u]
 by_cases h:n.bp=0
 ·simp [h]
 ·have e:(n.bp == 0)=false:=by simpa using h
  simp [h,e]
def Qg(n:aH)(w:Int):Int:=H4 (L6 n) w
theorem L8{u:Nat}(hu:1099511627776<=u){n:aH}(hn:M.NodWf n)(w:Int):vh u n w=some (Qg n w):=by
 unfold vh;simp only [L7 hu hn,JK hu,wk]; rfl
def EI(s i:Int):Int:=if cG s && iT i then qP .i64 s (gl .i64 1 i) else s
theorem JL(u:Nat)(s i:Int):gX u s i=some (EI s i):=by
 unfold gX mD EI;simp only [gZ,bL,wk]
 cases cG s with
 | false=>rfl
 | true =>
  cases h:iT i with
  | false=>rw [show ar i 0 39=false from h]; rfl
  | true =>
   have:=cd h;rw [show ar i 0 39=true from h,bl (by omega)]; rfl
def H5(n:aH)(k:Int):Int:=if n.bp=5 then EI (CK n.bj 0) k else CK n.bj 0
theorem JM{u:Nat}(hu:1099511627776<=u){n:aH}(hk:n.bj.length<=1048576)(k:Int):td u n k=some (H5 n k):=by
 unfold td rP H5;simp only [LI hu hk,JL,wk]
 by_cases h:n.bp=5
 ·simp [h]
 ·have e:(n.bp == 5)=false:=by simpa using h
  simp [h,e]
def H6(g w d:Int):dY:=⟨2,g,Db,w,d,0,[]⟩
theorem EJ(g w d:Int):M.MsgWf (H6 g w d):=Dy _ _ _ _ _ iV (by simp)
def uN(c:iE)(n:aH)(d:aB)(b q:Int):aH:=⟨n.gW,b,q,n.aD,n.bD,(jg d n.aD n.bD n.bp).2,lr n.bj c.aX,n.bB⟩
def xW(c:iE)(k:Int)(n:aH)(d:aB)(b q:Int):GI :=
 ⟨uN c n d b q,(jg d n.aD n.bD n.bp).1,[iW k b (H6 n.aD.aO (Qg (uN c n d b q) c.aZ) (H5 (uN c n d b q) k))]⟩
def lF(t:cT)(c:iE)(k:Int)(n:aH)(d:aB):GI :=
 if !n.gW then ⟨n,d,[]⟩
 else if k=0 then ⟨jW n (lr n.bj c.aX),d,[]⟩
 else if c.aQ<=n.bJ then xW c k n d (xU t k n.bP) 0
 else xW c k n d n.bP (aW .i64 n.bJ 1)
theorem EK(l:List bM)(f:Int):(lr l f).length<=l.length:=by
 unfold lr;rw [zYY];exact zZv _ _
theorem IC{n:aH}(hn:M.NodWf n)(c:iE)(d:aB)(b q:Int):M.NodWf (uN c n d b q):=⟨hn.s,hn.b,zWx (EK _ _) hn.k,hn.w⟩
theorem JN{u:Nat}(hu:1099511627776<=u){c:iE}{k:Int}{n:aH}(hn:M.NodWf n)(hk:n.bj.length<=1048576){d:aB}(hd:M.DOk d)(hl:d.fP.length<=1048575)(b q:Int):te u k c d n b q (lr n.bj c.aX) d=some (xW c k n d b q):=by
 unfold te xW;have ha:=EK n.bj c.aX;rw [EE hu hd hl hn.s hn.b,wk];rw [show (aH.mk n.gW b q n.aD n.bD (jg d n.aD n.bD n.bp).2 (lr n.bj c.aX) n.bB)=uN c n d b q from rfl];rw [L8 hu (IC hn c d b q),wk,JM hu (show (uN c n d b q).bj.length<=1048576 from zWx ha hk),wk];unfold s5;rw [wk,show (∀ w x,dY.mk 2 n.aD.aO (ah.mk 0 0 0 []) w x 0 []=H6 n.aD.aO w x) from λ_ _=>rfl,iX hu _ _ (EJ _ _ _),wk,OB];rfl
theorem OG{u:Nat}(hu:1099511627776<=u){t:cT}(ht:t.cf.length<=1048576)(c:iE)(k:Int){n:aH}(hn:M.NodWf n)(hk:n.bj.length<=1048576){d:aB}(hd:M.DOk d)(hl:d.fP.length<=1048575):zE u t c k n d=some (lF t c k n d):=by
 unfold zE lF;simp only [fF u hn,gw hu hd,L0 hu hk,HT hu ht,wk,JN hu hn hk hd hl];rw [show (aH.mk n.gW n.bP n.bJ n.aD n.bD n.bp (lr n.bj c.aX) n.bB)=jW n (lr n.bj c.aX) from rfl]
 cases n.gW with
 | false=>rfl
 | true =>
  by_cases h:k=0
  ·subst h; rfl
  ·have e:(k == 0)=false:=by simpa using h
   by_cases h2:c.aQ<=n.bJ
   ·have e2:decide (n.bJ>=c.aQ)=true:=by simpa using h2
    simp [h,e,e2,h2]
   ·have e2:decide (n.bJ>=c.aQ)=false:=by simp; omega
    simp [h,e,e2,h2]
theorem EM(m:dY):(fm m).length<=1000:=by
 unfold fm
 split
 ·rename_i hok;have k:=bA [] m.bt;have g:=bA (aU [] m.bt) m.aO;have l:=bA (ek m) (ct (ek m));simp only [zXW] at k
  suffices h:(ek m).length<=600 by omega
  unfold ek oc
  split
  ·have:=Dx (aU [] m.bt) m.aD; omega
  ·rename_i n1
   split
   ·have h1:=bA (aU (aU [] m.bt) m.aO) (eH .i64 m.bQ 1048575);have h2:=bA (aU (aU (aU [] m.bt) m.aO) (eH .i64 m.bQ 1048575)) (lB .i64 m.bQ 20);have h3:=bA (aU (aU (aU (aU [] m.bt) m.aO) (eH .i64 m.bQ 1048575)) (lB .i64 m.bQ 20)) (eH .i64 m.bV 1048575);have h4:=bA (aU (aU (aU (aU (aU [] m.bt) m.aO) (eH .i64 m.bQ 1048575)) (lB .i64 m.bQ 20)) (eH .i64 m.bV 1048575)) (lB .i64 m.bV 20);omega
   ·rename_i n2
    split
    ·rename_i n3;have h1:=bA (aU (aU [] m.bt) m.aO) m.fI;have h2:=bA (aU (aU (aU [] m.bt) m.aO) m.fI) m.fB.length;have h3:m.fB.length<=6:=by
      unfold kh at hok;simp only [n1,n2,n3] at hok;have h4:ar m.fB.length 1 6=true:=by
       revert hok
       cases ar (m.fB.length:Int) 1 6 <;> simp
      have:=cd h4;omega
     rw [zQJ]; omega
    ·split <;> omega
 ·simp
def lG(p:ag):Prop:=aq p.fB/\p.fB.length<=1048576
theorem Cv(f t:Int){m:dY}(hm:M.MsgWf m):lG (iW f t m):=⟨wO hm,by have:=EM m; show (fm m).length<=_; omega⟩
def bu(s:List ag×List bR×Int)(p:ag):List ag×List bR×Int :=
 if 400<=s.1.length then (s.1,s.2.1,aW .i64 s.2.2 1)
 else (s.1++[p],if (dR p.fB).2 && ((dR p.fB).1.bt == 3) && decide (s.2.1.length < 3000) then s.2.1++[⟨p.cB,p.pW,(dR p.fB).1.fI⟩] else s.2.1,s.2.2)
def lH(w:World)(out:List ag):World :=
 ⟨w.fC,w.fT,w.ce,w.bX,w.fN,w.fD,(out.foldl bu (w.bx,w.cu,w.bn)).1,(out.foldl bu (w.bx,w.cu,w.bn)).2.1,(out.foldl bu (w.bx,w.cu,w.bn)).2.2⟩
theorem xX(u:Nat){p:ag}(h:lG p):iB u p=some p:=by
 unfold iB;rw [gu u (by have:=h.2; omega)]; rfl
theorem Qh{u:Nat}(hu:1099511627776<=u)(w:World)(out:List ag)(ho:∀ p∈out,lG p)(hl:out.length<=1048576):∀ (l:List ag) (k j:Nat) (s:List ag×List bR×Int),l=out.drop j->l.length < k ->
  b8 u k out (j:Int) w s.1 s.2.1 s.2.2=some ⟨w.fC,w.fT,w.ce,w.bX,w.fN,w.fD,(l.foldl bu s).1,(l.foldl bu s).2.1,(l.foldl bu s).2.2⟩:=by
 intro l
 induction l with
 | nil =>
  intro k j s h hf;obtain ⟨k,rfl⟩:∃ k',k=k'+1:=⟨k - 1,by simp at hf; omega⟩;have hj:out.length<=j:=by
   have:=congrArg zYK h; simp at this; omega
  have e:decide ((j:Int) < (out.length:Int))=false:=by simp; omega
  simp only [b8,e,cond_false];rfl
 | cons x l ih =>
  intro k j s h hf;obtain ⟨k,rfl⟩:∃ k',k=k'+1:=⟨k - 1,by simp at hf; omega⟩;have hx:out[j]?=some x:=by
   have:=congrArg zYG h
   simpa [zXV] using this.symm
  have hl2:l=out.drop (j+1):=by
   have:=congrArg zYk h
   simpa [zXq] using this
  have hj:=(List.getElem?_eq_some_iff.1 hx).1;have e:decide ((j:Int) < (out.length:Int))=true:=by simp; omega
  have hb:aW .i64 (j:Int) 1=((j+1:Nat):Int):=pQ (a:=j) (b:=1) (by omega);have px:=ho x (zQX hx);have r:=ih k (j+1) (bu s x) hl2 (by simp at hf; omega);simp only [zXz,<- r];simp only [b8,e,cond_true,b9,hx,wk,Gi px.2,xS hu px.1 px.2,ey,fw,hb]
  by_cases h4:400<=s.1.length
  ·have e4:decide (((s.1.length:Int))>=400)=true:=by simp; omega
   simp only [e4,cond_true,bu,h4,if_true]
  ·have e4:decide (((s.1.length:Int))>=400)=false:=by simp; omega
   simp only [e4,cond_false,OA (show s.1.length<=1048576 by omega),wk,bu,h4,if_false,zQy]
   cases h5:(dR x.fB).2 with
   | false=>simp
   | true =>
    cases h6:((dR x.fB).1.bt == 3) with
    | false=>simp
    | true =>
     by_cases h7:s.2.1.length < 3000
     ·have e7:decide ((s.2.1.length:Int) < 3000)=true:=by simp; omega
      have e8:c9 (decide ((s.2.1.length + [bR.mk x.cB x.pW (dR x.fB).1.fI].length)*24<=140737488355328))=some ():=bl (by simp; omega);simp only [e7,e8,h7,cond_true,wk,decide_true,zXH,if_true]
     ·have e7:decide ((s.2.1.length:Int) < 3000)=false:=by simp; omega
      simp [e7,h7]
theorem wc{u:Nat}(hu:1099511627776<=u)(w:World){out:List ag}(ho:∀ p∈out,lG p)(hl:out.length<=1048576):kd u w out=some (lH w out) :=
 Qh hu w out ho hl out u 0 (w.bx,w.cu,w.bn) rfl (by omega)
theorem Qi{u:Nat}(hu:1099511627776<=u)(w:World)(out:List ag)(ho:∀ p∈out,lG p)(hl:out.length<=1048576):∀ (l:List ag) (k j:Nat) (s:List ag×List bR×Int),l=out.drop j->l.length < k ->
  cy u k out (j:Int) w s.1 s.2.1 s.2.2=some ⟨w.fC,w.fT,w.ce,w.bX,w.fN,w.fD,(l.foldl bu s).1,(l.foldl bu s).2.1,(l.foldl bu s).2.2⟩:=by
 intro l
 induction l with
 | nil =>
  intro k j s h hf;obtain ⟨k,rfl⟩:∃ k',k=k'+1:=⟨k - 1,by simp at hf; omega⟩;have hj:out.length<=j:=by
   have:=congrArg zYK h; simp at this; omega
  have e:decide ((j:Int) < (out.length:Int))=false:=by simp; omega
  simp only [cy,e,cond_false];rfl
 | cons x l ih =>
  intro k j s h hf;obtain ⟨k,rfl⟩:∃ k',k=k'+1:=⟨k - 1,by simp at hf; omega⟩;have hx:out[j]?=some x:=by
   have:=congrArg zYG h
   simpa [zXV] using this.symm
  have hl2:l=out.drop (j+1):=by
   have:=congrArg zYk h
   simpa [zXq] using this
  have hj:=(List.getElem?_eq_some_iff.1 hx).1;have e:decide ((j:Int) < (out.length:Int))=true:=by simp; omega
  have hb:aW .i64 (j:Int) 1=((j+1:Nat):Int):=pQ (a:=j) (b:=1) (by omega);have px:=ho x (zQX hx);have r:=ih k (j+1) (bu s x) hl2 (by simp at hf; omega);simp only [zXz,<- r];simp only [cy,e,cond_true,b9,hx,wk,xX u px,Ck hu px.1 px.2,eK,ij,hb]
  by_cases h4:400<=s.1.length
  ·have e4:decide (((s.1.length:Int))>=400)=true:=by simp; omega
   simp only [e4,cond_true,bu,h4,if_true]
  ·have e4:decide (((s.1.length:Int))>=400)=false:=by simp; omega
   simp only [e4,cond_false,OA (show s.1.length<=1048576 by omega),wk,bu,h4,if_false,zQy]
   cases h5:(dR x.fB).2 with
   | false=>simp
   | true =>
    cases h6:((dR x.fB).1.bt == 3) with
    | false=>simp
    | true =>
     by_cases h7:s.2.1.length < 3000
     ·have e7:decide ((s.2.1.length:Int) < 3000)=true:=by simp; omega
      have e8:c9 (decide ((s.2.1.length + [bR.mk x.cB x.pW (dR x.fB).1.fI].length)*24<=140737488355328))=some ():=bl (by simp; omega);simp only [e7,e8,h7,cond_true,wk,decide_true,zXH,if_true]
     ·have e7:decide ((s.2.1.length:Int) < 3000)=false:=by simp; omega
      simp [e7,h7]
theorem OH{u:Nat}(hu:1099511627776<=u)(w:World){out:List ag}(ho:∀ p∈out,lG p)(hl:out.length<=1048576):qm u w out=some (lH w out) :=
 Qi hu w out ho hl out u 0 (w.bx,w.cu,w.bn) rfl (by omega)
theorem NJ{b p:List Int}(hb:aq b)(hp:aq p)(a:Nat):aq (Ip b a p):=by
 unfold Ip;have hx:aq (b++zQH (a+p.length - b.length) 0):=yL hb (λx hx=>by have:=List.eq_of_mem_replicate hx; omega);exact (Cp (by simp; omega) hx hp).1
theorem NK{d:aB}(hd:M.DB d){p:dd}(hp:aq p.fB):M.DB (iI d p):=⟨hd.a,hd.b,λx hx=>by
 simp only [iI,zWJ,zQx] at hx;rcases hx with hx | rfl
 ·exact hd.p x hx
 ·exact hp⟩
theorem Qj{d:aB}(hd:M.DB d)(s a:Int){b:List Int}(hb:aq b):M.DB (lu d s a b).1:=by
 rcases Ix d s a b with ⟨h1,_⟩ | h1
 ·rw [h1]; exact NK hd hb
 ·rw [h1]; exact hd
theorem Gs{d0:aB}(h0:M.DB d0){b:List Int}(hb:aq b){size:Int}:∀ (n i:Nat) (d:aB),M.DB d->M.DB (mm d0 b size n i d).1
 | 0,i,d,hd=>hd
 | n+1,i,d,hd=>by
  unfold mm
  split
  ·exact Gs h0 hb n (i+1) _ (Qj hd _ _ (uY hb size i).1)
  ·exact h0
theorem NL{d:aB}(hd:M.DB d){p:dd}(hp:aq p.fB):M.DB (vz d p):=by
 unfold vz
 split
 ·exact ⟨hd.a,hd.b,hd.p⟩
 ·split
  ·exact ⟨NJ hd.a hp _,hd.b,hd.p⟩
  ·exact ⟨hd.a,NJ hd.b hp _,hd.p⟩
theorem Sm:∀ (l:List dd) (d:aB),(∀ p∈l,aq p.fB)->M.DB d->M.DB (AM l d)
 | [],d,_,hd=>⟨hd.a,hd.b,by simp [AM]⟩
 | p :: l,d,hp,hd=>Sm l _ (λq hq=>hp q (by simp [hq])) (NL hd (hp p (by simp)))
theorem Sn{d:aB}(hd:M.DB d):M.DB (vY d):=by
 unfold vY
 split
 ·exact Sm _ _ hd.p hd
 ·exact hd
theorem MU{d:aB}(hd:M.DB d){m:ah}{x:bI}(hx:M.BldWf x)(ph:Int):M.DB (jg d m x ph).1:=by
 have hst:M.DB (nK d x.bZ m.aC).1:=by
  unfold nK
  split
  ·exact Gs hd hx.b _ _ _ hd
  ·exact hd
 have hr:M.DB (ml d ⟨m.aO,qz d,m.aY⟩).1:=by
  unfold ml;rcases Rx d ⟨2,0,[],⟨m.aO,qz d,m.aY⟩⟩ with ⟨h1,h2⟩ | h1
  ·rw [h1]; exact NK hd iV
  ·rw [h1]; exact hd
 unfold jg
 split
 ·split
  ·exact hst
  ·exact hd
 ·split
  ·exact Sn hd
  ·split
   ·split
    ·exact hr
    ·exact hd
   ·split
    ·exact Sn hd
    ·exact hd
structure M.ActWf (n:aH) (out:List ag):Prop where
 n:M.NodWf n
 o:∀ p∈out,lG p
 l:out.length<=1048576
theorem H7{n:aH}(hn:M.NodWf n):M.ActWf n []:=⟨hn,λp hp=>by simp at hp,by simp⟩
theorem Vc{n:aH}(hn:M.NodWf n)(f t:Int){m:dY}(hm:M.MsgWf m):M.ActWf n [iW f t m]:=⟨hn,λp hp=>by
 simp only [zQx] at hp;rw [hp]; exact Cv f t hm,by simp⟩
theorem DF{n:aH}(hn:M.NodWf n)(f t i:Int):lG (wQ n f t i):=by
 have w:=EF n.aD hn.b i;exact Cv f t (AT _ _ w.1 w.2)
theorem CT{n:aH}(hn:M.NodWf n):M.NodWf (M.drop n):=⟨hn.s,hn.b,hn.k,hn.w⟩
theorem OI{n:aH}(hn:M.NodWf n)(f t:Int):M.ActWf (f9 n f t).fN (f9 n f t).nc:=by
 refine ⟨⟨hn.s,hn.b,?_,hn.w⟩,λp hp=>?_,zWx (MS n f t) (by omega)⟩
 ·show (nI _ _ _).length<=_;rw [Gg]; exact hn.k
 ·unfold f9 at hp;simp only [zXg] at hp;obtain ⟨i,_,rfl⟩:=hp;exact DF hn f t i
theorem MV{n:aH}(hn:M.NodWf n)(hk:n.bj.length<=1048576)(me f:Int)(m:dY):M.ActWf (eT n me f m).fN (eT n me f m).nc:=by
 have hl:=Qb n.bj f m.bQ m.bV;have hw:M.NodWf (jW n (qO n.bj f m.bQ m.bV)):=yQ hn (by omega);have hs:=OI hw me f;unfold eT
 split
 ·exact H7 hn
 ·split
  ·exact Vc hw _ _ (CQ 0)
  ·split
   ·dsimp only
    split
    ·exact Vc hs.n _ _ (CQ _)
    ·exact hs
   ·exact Vc hw _ _ (NH hn.s hn.w)
theorem Vd{n:aH}(hn:M.NodWf n)(me i:Int):∀ (l:List bM) (s:List bM×List ag),(∀ p∈s.2,lG p)->∀ p∈(l.foldl (fc n me i) s).2,lG p:=by
 intro l
 induction l with
 | nil=>intro s h; exact h
 | cons x l ih =>
  intro s h;refine ih _ λp hp=>?_;unfold fc at hp
  split at hp
  ·simp only [zWJ,zQx] at hp;rcases hp with hp | rfl
   ·exact h p hp
   ·exact DF hn _ _ _
  ·exact h p hp
theorem RB{n:aH}(hn:M.NodWf n)(hk:n.bj.length<=1048576)(me i:Int):M.ActWf (jL n me i).fN (jL n me i).nc:=by
 have h:=Va n me i n.bj (n.bj,[]);unfold jL
 split
 ·refine ⟨yQ hn ?_,Vd hn me i _ _ (λp hp=>by simp at hp),?_⟩
  ·have:=h.1; unfold Gr; dsimp only at this ⊢; omega
  ·have:=h.2; unfold Gr; simp only [zXW] at this; dsimp only; omega
 ·exact H7 hn
theorem RC{n:aH}(hn:M.NodWf n){d:aB}(hb:M.DB d){m:ah}(hs:m.aJ.length<=1048576)(hw:oY m):M.NodWf (oI n d m):=by
 obtain ⟨rb,rl⟩:=DE hb;unfold oI
 split
 ·split
  ·rename_i h;simp only [sk] at h;exact ⟨hs,(Cq h.1 rb (by omega)).b,hn.k,hw⟩
  ·exact hn
 ·split
  ·exact hn
  ·exact CT hn
theorem Qk{n:aH}(hn:M.NodWf n)(hk:n.bj.length<=1048576)(me:Int){m:dY}(hm:M.MsgWf m):M.ActWf (lv n me m).fN (lv n me m).nc:=by
 unfold lv
 split
 ·exact H7 (CT hn)
 ·split
  ·exact H7 hn
  ·split
   ·exact RB (L5 hn (IB hn.b m.fI hm.b)) hk me m.fI
   ·exact H7 (CT hn)
theorem Ql{n:aH}(hn:M.NodWf n)(hk:n.bj.length<=1048576)(me:Int){d:aB}(hb:M.DB d){m:dY}(hm:M.MsgWf m):M.ActWf (jX n me d m).fN (jX n me d m).nc:=by
 unfold jX
 split
 ·exact H7 (RC (CS hn) hb hm.sums hm.wf)
 ·split
  ·exact Qk (CS hn) hk me hm
  ·split
   ·exact H7 (CT (CS hn))
   ·exact H7 (CS hn)
theorem Ve(t:cT)(me:Int){n:aH}(hn:M.NodWf n)(hk:n.bj.length<=1048576){d:aB}(hb:M.DB d){p:ag}(hp:aq p.fB):M.ActWf (M.take t me n d p).fN (M.take t me n d p).nc:=by
 have w:=NI hp;unfold M.take
 split
 ·exact H7 hn
 ·split
  ·split
   ·exact MV hn hk me _ _
   ·split
    ·exact Ql hn hk me hb w
    ·exact H7 (CT hn)
  ·exact H7 (CT hn)
structure M.BeatWf (b:GI):Prop where
 a:M.ActWf b.fN b.nc
 d:M.DOk b.fD
 l:b.fD.fP.length<=200
 b:M.DB b.fD
theorem ID(c:iE)(k:Int){n:aH}(hn:M.NodWf n){d:aB}(hd:M.DOk d)(hl:d.fP.length<=200)(hb:M.DB d)(b q:Int):M.BeatWf (xW c k n d b q):=by
 have h:=L4 hd hl (m:=n.aD) hn.b n.bp;exact ⟨Vc (IC hn c d b q) _ _ (EJ _ _ _),h.1,h.2,MU hb hn.b _⟩
theorem Vf(t:cT)(c:iE)(k:Int){n:aH}(hn:M.NodWf n){d:aB}(hd:M.DOk d)(hl:d.fP.length<=200)(hb:M.DB d):M.BeatWf (lF t c k n d):=by
 unfold lF
 split
 ·exact ⟨H7 hn,hd,hl,hb⟩
 ·split
  ·exact ⟨H7 (yQ hn (zWx (EK _ _) hn.k)),hd,hl,hb⟩
  ·split
   ·exact ID c k hn hd hl hb _ _
   ·exact ID c k hn hd hl hb _ _
def dH(l:List bM):List Int:=l.map λx=>x.oJ
structure M.IdsOk (s:List Int):Prop where
 r:∀ x∈s,0<=x/\x<=6
 p:s.Pairwise (· < ·)
def nL(l:List bM):Prop:=M.IdsOk (dH l)
theorem Um:∀ (s:List Int) (a:Int),a<=7->(∀ x∈s,a<=x/\x<=6)->s.Pairwise (· < ·)->(s.length:Int)<=7 - a
 | [],a,ha,_,_=>by simp; omega
 | x :: s,a,ha,h,p=>by
  rw [List.pairwise_cons] at p;have hx:=h x (by simp);have:=Um s (x+1) (by omega) (λy hy=>⟨by have:=p.1 y hy; omega,(h y (by simp [hy])).2⟩) p.2;simp only [zQV];omega
theorem Td{l:List bM}(h:nL l):l.length<=7:=by
 have:=Um (dH l) 0 (by omega) h.r h.p;simp only [dH,zYY] at this;omega
theorem OJ{l:List bM}{j:Nat}{x y:bM}(h:l[j]?=some x)(hi:y.oJ=x.oJ):dH (l.set j y)=dH l:=by
 unfold dH
 apply List.ext_getElem?
 intro i;simp only [zQZ,zXx]
 by_cases e:j=i
 ·subst e;obtain ⟨hj,hx⟩:=List.getElem?_eq_some_iff.1 h;simp [hj,hx,hi]
 ·simp [e]
theorem Gt(l:List bM)(id s:Int):dH (nI l id s)=dH l:=by
 unfold nI;rcases sO l id with ⟨h1,_⟩ | ⟨j,x,h1,h2,_⟩
 ·rw [h1]; rfl
 ·rw [h1];simp only [b9,h2,zQQ]
  split
  ·exact OJ h2 rfl
  ·rfl
theorem OK{l:List bM}(h:nL l)(f:Int):nL (lr l f):=by
 have e:dH (lr l f)=dH (l.filter λx=>decide (x.uO < f)):=by
  unfold dH lr;rw [zZV]; rfl
 have sub:(dH (l.filter λx=>decide (x.uO < f))).Sublist (dH l):=List.Sublist.map _ List.filter_sublist;unfold nL;rw [e];exact ⟨λx hx=>h.r x (sub.subset hx),h.p.sublist sub⟩
theorem IE{α:Type}(f:α->Bool):∀ (l:List α) (i j:Nat),fa f l i=((i+j:Nat):Int)->∀ x∈l.take j,f x=false
 | [],i,j,_=>by simp
 | y :: l,i,0,_=>by simp
 | y :: l,i,j+1,h=>by
  unfold fa at h
  split at h
  ·omega
  ·rename_i hy;intro x hx;simp only [List.take_succ_cons,zXh] at hx;rcases hx with rfl | hx
   ·simpa using hy
   ·exact IE f l (i+1) j (by rw [h]; congr 1; omega) x hx
theorem L9{l:List bM}(h:nL l){k:Nat}{y:bM}(hy:0<=y.oJ/\y.oJ<=6)(h1:∀ x∈l.take k,x.oJ < y.oJ)(h2:∀ x∈l.drop k,y.oJ < x.oJ):nL (l.take k++[y]++l.drop k):=by
 have e:dH l=dH (l.take k)++dH (l.drop k):=by unfold dH; rw [<- List.map_append,zXj]
 have hp:=h.p;rw [e,List.pairwise_append] at hp;have e2:dH (l.take k++[y]++l.drop k)=dH (l.take k)++([y.oJ]++dH (l.drop k)):=by unfold dH; simp
 unfold nL;rw [e2];constructor
 ·intro z hz;simp only [zWJ,zQx] at hz;rcases hz with hz | rfl | hz
  ·exact h.r z (by rw [e]; simp [hz])
  ·exact hy
  ·exact h.r z (by rw [e]; simp [hz])
 ·rw [List.pairwise_append];refine ⟨hp.1,?_,?_⟩
  ·rw [List.singleton_append,List.pairwise_cons];refine ⟨λz hz=>?_,hp.2.1⟩;unfold dH at hz;rw [zXg] at hz;obtain ⟨x,hx,rfl⟩:=hz;exact h2 x hx
  ·intro a ha b hb;simp only [zWJ,zQx] at hb;rcases hb with rfl | hb
   ·unfold dH at ha;rw [zXg] at ha;obtain ⟨x,hx,rfl⟩:=ha;exact h1 x hx
   ·exact hp.2.2 a ha b hb
theorem RD{l:List bM}(h:nL l)(id w d:Int):nL (qO l id w d):=by
 unfold qO
 split
 ·rename_i hc;simp only [sk] at hc;have hid:=cd hc.1.1;rcases sO l id with ⟨h1,hno⟩ | ⟨j,x,h1,h2,_⟩
  ·rw [h1];have e:cN l (-1)=none:=by unfold cN; simp
   rw [e];dsimp only;unfold vC;rcases u3 (λ(x:bM)=>decide (x.oJ > id)) l 0 with ⟨g1,g2⟩ | ⟨j,x,g1,g2,g3⟩
   ·rw [g1,if_pos (by omega)];refine L9 h hid (λx hx=>?_) (λx hx=>by simp at hx);have hx:=zWQ hx;have a:=g2 x hx;have b:=hno x hx;simp only [decide_eq_false_iff_not] at a;show x.oJ < id;omega
   ·rw [g1,if_neg (by omega)];have hj:=IE (λ(x:bM)=>decide (x.oJ > id)) l 0 j g1;rw [show (((0+j:Nat):Int)).toNat=j by omega];refine L9 h hid (λx hx=>?_) (λy hy=>?_)
    ·have a:=hj x hx;have b:=hno x (zWQ hx);simp only [decide_eq_false_iff_not] at a;show x.oJ < id;omega
    ·have lt:=(List.getElem?_eq_some_iff.1 g2).1;have e:l.drop j=x :: l.drop (j+1):=by
      rw [zXG lt,(List.getElem?_eq_some_iff.1 g2).2]
     have gx:id < x.oJ:=by simpa using g3
     have hs:(dH (l.drop j)).Pairwise (· < ·):=h.p.sublist (List.Sublist.map _ (List.drop_sublist j l));rw [e] at hs hy;unfold dH at hs;rw [zWg,List.pairwise_cons] at hs;simp only [zXh] at hy;show id < y.oJ;rcases hy with rfl | hy
     ·exact gx
     ·have:=hs.1 y.oJ (List.mem_map.2 ⟨y,hy,rfl⟩);omega
  ·rw [h1];simp only [b9,h2,zQQ];unfold nL;rw [OJ (y:=⟨x.oJ,w,qP .i64 x.bV d,0,x.mx⟩) h2 rfl];exact h
 ·exact h
theorem Qm{α:Type}{f:α->Nat->Bool}:∀ {l:List α} {i:Nat},lE f l i=true->∀ (j:Nat) (x:α),l[j]?=some x->f x (i+j)=true
 | [],i,_,j,x,h=>by simp at h
 | y :: l,i,h,j,x,hx=>by
  unfold lE at h;simp only [sk] at h
  cases j with
  | zero =>
   simp only [zWW,Option.some.injEq] at hx;subst hx; exact h.1
  | succ j =>
   have:=Qm h.2 j x (by simpa using hx);rw [show i+(j+1)=i+1+j by omega]; exact this
theorem Un{l:List bM}(id w d:Int):∀ z∈dH (qO l id w d),z∈dH l\/z=id:=by
 unfold qO
 split
 ·rcases sO l id with ⟨h1,hno⟩ | ⟨j,x,h1,h2,_⟩
  ·rw [h1];have e:cN l (-1)=none:=by unfold cN; simp
   rw [e];dsimp only;intro z hz;unfold dH at hz ⊢;simp only [List.map_append,zWJ,zWg,List.map_nil,zQx,zXg] at hz ⊢;rcases hz with (⟨x,hx,rfl⟩ | rfl) | ⟨x,hx,rfl⟩
   ·exact .inl ⟨x,zWQ hx,rfl⟩
   ·exact .inr rfl
   ·exact .inl ⟨x,zWw hx,rfl⟩
  ·rw [h1];simp only [b9,h2,zQQ];rw [OJ (y:=⟨x.oJ,w,qP .i64 x.bV d,0,x.mx⟩) h2 rfl];exact λz hz=>.inl hz
 ·exact λz hz=>.inl hz
structure M.KidsTo (S:Int->Prop) (l m:List bM):Prop where
 s:nL l->nL m
 i:∀ z∈dH m,z∈dH l\/S z
theorem Ma{S:Int->Prop}{l m:List bM}(h:dH m=dH l):M.KidsTo S l m:=⟨λhl=>by unfold nL at hl ⊢; rw [h]; exact hl,λz hz=>.inl (h ▸ hz)⟩
theorem xY{S:Int->Prop}(l:List bM):M.KidsTo S l l:=Ma rfl
theorem Te{S:Int->Prop}{l m k:List bM}(a:M.KidsTo S l m)(h:dH k=dH m):M.KidsTo S l k:=⟨λhl=>by have:=a.s hl; unfold nL at this ⊢; rw [h]; exact this,λz hz=>a.i z (h ▸ hz)⟩
theorem Vg{S:Int->Prop}{l:List bM}{id:Int}(hs:S id)(w d:Int):M.KidsTo S l (qO l id w d):=⟨λh=>RD h id w d,λz hz=>by
 rcases Un id w d z hz with h | h
 ·exact .inl h
 ·rw [h]; exact .inr hs⟩
theorem MW(n:aH)(f t:Int):dH (f9 n f t).fN.bj=dH n.bj:=Gt _ _ _
theorem JO{S:Int->Prop}{n:aH}{me f:Int}(hs:S f)(m:dY):M.KidsTo S n.bj (eT n me f m).fN.bj:=by
 have h:M.KidsTo S n.bj (qO n.bj f m.bQ m.bV):=Vg hs _ _;have g:M.KidsTo S n.bj (f9 (jW n (qO n.bj f m.bQ m.bV)) me f).fN.bj:=Te h (MW _ me f);unfold eT
 split
 ·exact xY _
 ·split
  ·exact h
  ·split
   ·dsimp only
    split
    ·exact g
    ·exact g
   ·exact h
theorem Vh(n:aH)(me i:Int):∀ (l:List bM) (s:List bM×List ag),dH (l.foldl (fc n me i) s).1=dH s.1:=by
 intro l
 induction l with
 | nil=>intro s; rfl
 | cons x l ih =>
  intro s;rw [zXz,ih];unfold fc
  split
  ·exact Gt _ _ _
  ·rfl
theorem Qn(n:aH)(me i:Int):dH (jL n me i).fN.bj=dH n.bj:=by
 unfold jL
 split
 ·exact Vh n me i _ _
 ·rfl
theorem OL(n:aH)(d:aB)(m:ah):(oI n d m).bj=n.bj:=by
 unfold oI
 split
 ·split <;> rfl
 ·split <;> rfl
theorem OM(n:aH)(me:Int)(m:dY):dH (lv n me m).fN.bj=dH n.bj:=by
 unfold lv
 split
 ·rfl
 ·split
  ·rfl
  ·split
   ·exact Qn _ _ _
   ·rfl
theorem ON(n:aH)(me:Int)(d:aB)(m:dY):dH (jX n me d m).fN.bj=dH n.bj:=by
 unfold jX
 split
 ·show dH (oI _ _ _).bj=_;rw [OL]; rfl
 ·split
  ·exact OM _ _ _
  ·split <;> rfl
def gy(t:cT)(z:Int):Prop:=ar z 0 ((t.cf.length:Int) - 1)=true
theorem Tf(t:cT)(me:Int)(n:aH)(d:aB)(p:ag):M.KidsTo (gy t) n.bj (M.take t me n d p).fN.bj:=by
 unfold M.take
 split
 ·exact xY _
 ·split
  ·rename_i h;simp only [sk] at h
   split
   ·exact JO h.1.2 _
   ·split
    ·exact Ma (ON _ _ _ _)
    ·exact xY _
  ·exact xY _
def qA(me:Int)(S:Int->Prop)(out:List ag):Prop:=∀ q∈out,q.cB=me/\S q.pW
theorem t6(me:Int)(S:Int->Prop):qA me S []:=λq hq=>by simp at hq
theorem Mb{me t:Int}{S:Int->Prop}(h:S t)(m:dY):qA me S [iW me t m]:=λq hq=>by
 simp only [zQx] at hq;subst hq; exact ⟨rfl,h⟩
theorem OO{S:Int->Prop}{n:aH}{me f:Int}(h:S f):qA me S (f9 n me f).nc:=λq hq=>by
 unfold f9 at hq;simp only [zXg] at hq;obtain ⟨i,_,rfl⟩:=hq;exact ⟨rfl,h⟩
theorem MX{S:Int->Prop}{n:aH}{me f:Int}(h:S f)(m:dY):qA me S (eT n me f m).nc:=by
 unfold eT
 split
 ·exact t6 _ _
 ·split
  ·exact Mb h _
  ·split
   ·dsimp only
    split
    ·exact Mb h _
    ·exact OO h
   ·exact Mb h _
theorem We{S:Int->Prop}{n:aH}{me i:Int}:∀ (l:List bM) (s:List bM×List ag),(∀ x∈l,S x.oJ)->qA me S s.2->qA me S (l.foldl (fc n me i) s).2:=by
 intro l
 induction l with
 | nil=>intro s _ h; exact h
 | cons x l ih =>
  intro s hl h;refine ih _ (λy hy=>hl y (by simp [hy])) λq hq=>?_;unfold fc at hq
  split at hq
  ·simp only [zWJ,zQx] at hq;rcases hq with hq | rfl
   ·exact h q hq
   ·exact ⟨rfl,hl x (by simp)⟩
  ·exact h q hq
theorem RE{S:Int->Prop}{n:aH}{me i:Int}(h:∀ x∈n.bj,S x.oJ):qA me S (jL n me i).nc:=by
 unfold jL
 split
 ·exact We _ _ h (t6 _ _)
 ·exact t6 _ _
theorem Vi{t:cT}{me:Int}{n:aH}(h:∀ x∈n.bj,gy t x.oJ)(d:aB)(p:ag):qA me (gy t) (M.take t me n d p).nc:=by
 unfold M.take
 split
 ·exact t6 _ _
 ·split
  ·rename_i hc;simp only [sk] at hc
   split
   ·exact MX hc.1.2 _
   ·split
    ·unfold jX
     split
     ·exact t6 _ _
     ·split
      ·unfold lv
       split
       ·exact t6 _ _
       ·split
        ·exact t6 _ _
        ·split
         ·exact RE (n:=CR (EH n) _) h
         ·exact t6 _ _
      ·first | exact t6 _ _ | (split <;> exact t6 _ _)
    ·exact t6 _ _
  ·exact t6 _ _
theorem NM{t:cT}(h:jx t=true){j:Nat}(h0:0 < j){x:Int}(hx:t.cf[j]?=some x):0<=x/\x < j:=by
 unfold jx at h;simp only [sk] at h;have:=Qm h.1 j x hx;rw [zWV] at this;unfold Cl at this;rw [if_neg (by omega)] at this;have:=cd this;omega
theorem IF{t:cT}(h:jx t=true){k:Nat}(h0:0 < k)(hk:k < t.cf.length)(b:Int):gy t (xU t k b):=by
 have get:∀ j:Nat,0 < j->j < t.cf.length->gy t ((t.cf[j]?).getD 0):=λj h0 hj=>by
  have e:=sX hj;have:=NM h h0 e;rw [e];unfold gy;simp only [Option.getD_some,ar,sk,decide_eq_true_eq];omega
 have hw:ar (k:Int) 1 ((t.cf.length:Int) - 1)=true:=by simp [ar]; omega
 unfold xU;rw [h,hw];simp only [zXH,if_true]
 split
 ·rename_i hc;simp only [sk,decide_eq_true_eq] at hc;have:=cd (Ui hc.1);exact get b.toNat (by omega) (by omega)
 ·exact get _ (by simp; omega) (by simp; omega)
theorem Vj{t:cT}(h:jx t=true)(c:iE){k:Nat}(hk:k < t.cf.length){n:aH}(hb:k≠0->gy t n.bP)(d:aB):qA k (gy t) (lF t c k n d).nc/\(k≠0->gy t (lF t c k n d).fN.bP):=by
 unfold lF
 split
 ·exact ⟨t6 _ _,hb⟩
 ·split
  ·exact ⟨t6 _ _,hb⟩
  ·rename_i h1;have h0:0 < k:=by omega
   split
   ·exact ⟨Mb (IF h h0 hk _) _,λ_=>IF h h0 hk _⟩
   ·exact ⟨Mb (hb (by omega)) _,λg=>hb g⟩
theorem RF(l:List bM)(f:Int):∀ z∈dH (lr l f),z∈dH l:=λz hz=>by
 unfold dH lr at *;simp only [zZV,zXg,List.mem_filter] at hz ⊢;obtain ⟨x,hx,rfl⟩:=hz;exact ⟨x,hx.1,rfl⟩
theorem Tg(S:Int->Prop)(t:cT)(c:iE)(k:Int)(n:aH)(d:aB):M.KidsTo S n.bj (lF t c k n d).fN.bj:=by
 have h:M.KidsTo S n.bj (lr n.bj c.aX):=⟨λhl=>OK hl _,λz hz=>.inl (RF _ _ z hz)⟩;unfold lF
 split
 ·exact xY _
 ·split
  ·exact h
  ·split <;> exact h
theorem OP(n:aH)(d:aB)(m:ah):(oI n d m).bP=n.bP:=by
 unfold oI
 split
 ·split <;> rfl
 ·split <;> rfl
theorem JP(n:aH)(me f:Int)(m:dY):(eT n me f m).fN.bP=n.bP:=by
 unfold eT
 split
 ·rfl
 ·split
  ·rfl
  ·split
   ·dsimp only
    split <;> rfl
   ·rfl
theorem OQ(n:aH)(me i:Int):(jL n me i).fN.bP=n.bP:=by
 unfold jL
 split <;> rfl
theorem MY(n:aH)(me:Int)(d:aB)(m:dY):(jX n me d m).fN.bP=n.bP:=by
 unfold jX
 split
 ·exact OP _ _ _
 ·split
  ·unfold lv
   split
   ·rfl
   ·split
    ·rfl
    ·split
     ·exact OQ _ _ _
     ·rfl
  ·split <;> rfl
theorem Th(t:cT)(me:Int)(n:aH)(d:aB)(p:ag):(M.take t me n d p).fN.bP=n.bP:=by
 unfold M.take
 split
 ·rfl
 ·split
  ·split
   ·exact JP _ _ _ _
   ·split
    ·exact MY _ _ _ _
    ·rfl
  ·rfl
structure M.NodeIn (t:cT) (j:Nat) (n:aH):Prop where
 w:M.NodWf n
 s:nL n.bj
 k:∀ z∈dH n.bj,gy t z
 b:j≠0->gy t n.bP
structure M.DiskIn (d:aB):Prop where
 o:M.DOk d
 b:M.DB d
 l:d.fP.length<=200
structure M.PkIn (t:cT) (p:ag):Prop where
 w:lG p
 f:gy t p.cB
 t:gy t p.pW
structure M.WWf (w:World):Prop where
 t:jx w.fT=true
 nl:w.fN.length=w.fT.cf.length
 dl:w.fD.length=w.fT.cf.length
 nodes:∀ (j:Nat) (n:aH),w.fN[j]?=some n->M.NodeIn w.fT j n
 disks:∀ (j:Nat) (d:aB),w.fD[j]?=some d->M.DiskIn d
 net:∀ p∈w.bx,M.PkIn w.fT p
 len:w.bx.length<=400
theorem Cw{t:cT}{j:Nat}{n:aH}(h:M.NodeIn t j n):n.bj.length<=1048576:=by
 have:=Td h.s; omega
theorem H8{w:World}(h:M.WWf w):1<=w.fT.cf.length/\w.fT.cf.length<=7:=by
 have:=h.t;unfold jx at this;simp only [sk] at this;have:=cd this.2;omega
theorem Mc{t:cT}{z:Int}(h:gy t z):∃ j:Nat,z=j/\j < t.cf.length:=by
 have:=cd h;exact ⟨z.toNat,by omega,by omega⟩
theorem Uo{t:cT}:∀ (out:List ag) (s:List ag×List bR×Int),(∀ p∈s.1,M.PkIn t p)->s.1.length<=400->(∀ p∈out,M.PkIn t p) ->
  (∀ p∈(out.foldl bu s).1,M.PkIn t p)/\(out.foldl bu s).1.length<=400:=by
 intro out
 induction out with
 | nil=>intro s h l _; exact ⟨h,l⟩
 | cons x out ih =>
  intro s h l ho;rw [zXz];refine ih _ ?_ ?_ (λp hp=>ho p (by simp [hp]))
  ·unfold bu
   split
   ·exact h
   ·intro p hp;simp only [zWJ,zQx] at hp;rcases hp with hp | rfl
    ·exact h p hp
    ·exact ho p (by simp)
  ·unfold bu
   split
   ·exact l
   ·simp only [zQJ,zYV]; omega
theorem Up{w:World}(h:M.WWf w){out:List ag}(ho:∀ p∈out,M.PkIn w.fT p):M.WWf (lH w out):=by
 have:=Uo out (w.bx,w.cu,w.bn) h.net h.len ho;exact ⟨h.t,h.nl,h.dl,h.nodes,h.disks,this.1,this.2⟩
theorem OR{α:Type}{P:Nat->α->Prop}{l:List α}(h:∀ (j:Nat) (x:α),l[j]?=some x->P j x){k:Nat}{y:α}(hy:P k y):∀ (j:Nat) (x:α),(l.set k y)[j]?=some x->P j x:=by
 intro j x hx;rw [zXx] at hx
 split at hx
 ·rename_i e
  split at hx
  ·simp only [Option.some.injEq] at hx;rw [<- hx,<- e]; exact hy
  ·cases hx
 ·exact h j x hx
def wZ(w:World)(k:Nat)(n:aH)(d:aB):World:=⟨w.fC,w.fT,w.ce,w.bX,w.fN.set k n,w.fD.set k d,w.bx,w.cu,w.bn⟩
theorem Qo{w:World}(h:M.WWf w){k:Nat}{n:aH}{d:aB}(hn:M.NodeIn w.fT k n)(hd:M.DiskIn d):M.WWf (wZ w k n d) :=
 ⟨h.t,by simp [wZ,h.nl],by simp [wZ,h.dl],OR h.nodes hn,OR (P:=λ_ d=>M.DiskIn d) h.disks hd,h.net,h.len⟩
def yR(w:World)(k:Nat):World:=match w.fN[k]?,w.fD[k]? with
 | some n,some d=>lH (wZ w k (lF w.fT w.fC k n d).fN (lF w.fT w.fC k n d).fD) (lF w.fT w.fC k n d).nc
 | _,_=>w
theorem So{t:cT}(ht:jx t=true)(c:iE){k:Nat}(hk:k < t.cf.length){n:aH}(hn:M.NodeIn t k n){d:aB}(hd:M.DiskIn d) :
  M.NodeIn t k (lF t c k n d).fN/\M.DiskIn (lF t c k n d).fD/\(∀ p∈(lF t c k n d).nc,M.PkIn t p)/\(lF t c k n d).nc.length<=1048576:=by
 have w:=Vf t c k hn.w hd.o hd.l hd.b;have kk:=Tg (gy t) t c k n d;have to:=Vj ht c hk hn.b d;have hkk:gy t (k:Int):=by unfold gy; simp [ar]; omega
 refine ⟨⟨w.a.n,kk.s hn.s,λz hz=>?_,to.2⟩,⟨w.d,w.b,w.l⟩,λp hp=>⟨w.a.o p hp,?_,(to.1 p hp).2⟩,w.a.l⟩
 ·rcases kk.i z hz with h | h
  ·exact hn.k z h
  ·exact h
 ·rw [(to.1 p hp).1]; exact hkk
theorem JQ{u:Nat}(hu:1099511627776<=u){w:World}(h:M.WWf w){k:Nat}(hk:k < w.fT.cf.length):nx u w k=some (yR w k):=by
 have up:=H8 h;have hn:w.fN[k]?=some (w.fN[k]'(by rw [h.nl]; exact hk)):=sX _;have hd:w.fD[k]?=some (w.fD[k]'(by rw [h.dl]; exact hk)):=sX _;generalize w.fN[k]'(by rw [h.nl]; exact hk)=n at hn;generalize w.fD[k]'(by rw [h.dl]; exact hk)=d at hd;have a:=h.nodes k n hn;have b:=h.disks k d hd;have g:=So h.t w.fC hk a b;unfold nx yR;simp only [b9,hn,hd,wk,OG hu (show w.fT.cf.length<=1048576 by omega) w.fC k a.w (Cw a) b.o (show d.fP.length<=1048575 by have:=b.l; omega),zQQ];rw [show (World.mk w.fC w.fT w.ce w.bX (w.fN.set k (lF w.fT w.fC k n d).fN) (w.fD.set k (lF w.fT w.fC k n d).fD) w.bx w.cu w.bn)=wZ w k (lF w.fT w.fC k n d).fN (lF w.fT w.fC k n d).fD from rfl,wc hu _ (λp hp=>(g.2.2.1 p hp).w) g.2.2.2];rfl
def H9(w:World)(k:Nat):World:=⟨w.fC,w.fT,w.ce,w.bX,w.fN,w.fD,w.bx.take k++w.bx.drop (k+1),w.cu,w.bn⟩
theorem Uq{w:World}(h:M.WWf w)(k:Nat):M.WWf (H9 w k) :=
 ⟨h.t,h.nl,h.dl,h.nodes,h.disks,λp hp=>by
  simp only [H9,zWJ] at hp;rcases hp with hp | hp
  ·exact h.net p (zWQ hp)
  ·exact h.net p (zWw hp),by
  have:=h.len;simp only [H9,zQJ,zQh,zYy]; omega⟩
def OS(w:World)(k:Nat)(n:aH):World:=⟨w.fC,w.fT,w.ce,w.bX,w.fN.set k n,w.fD,w.bx,w.cu,w.bn⟩
theorem Ur{w:World}(h:M.WWf w){k:Nat}{n:aH}(hn:M.NodeIn w.fT k n):M.WWf (OS w k n) :=
 ⟨h.t,by simp [OS,h.nl],h.dl,OR h.nodes hn,h.disks,h.net,h.len⟩
def Md(w:World)(p:ag):World:=match w.fN[p.pW.toNat]?,w.fD[p.pW.toNat]? with
 | some n,some d=>lH (OS w p.pW.toNat (M.take w.fT p.pW n d p).fN) (M.take w.fT p.pW n d p).nc
 | _,_=>w
def yS(w:World)(k:Nat):World:=match w.bx[k]? with
 | some p=>Md (H9 w k) p
 | none=>w
theorem Sp{t:cT}{n:aH}{k:Nat}(hk:k < t.cf.length)(hn:M.NodeIn t k n){d:aB}(hd:M.DiskIn d){p:ag}(hp:M.PkIn t p) :
  M.NodeIn t k (M.take t k n d p).fN/\(∀ q∈(M.take t k n d p).nc,M.PkIn t q)/\(M.take t k n d p).nc.length<=1048576:=by
 have w:=Ve t k hn.w (Cw hn) hd.b hp.w.1;have kk:=Tf t k n d p;have to:=Vi (me:=(k:Int)) (λx hx=>hn.k x.oJ (List.mem_map.2 ⟨x,hx,rfl⟩)) d p;have hkk:gy t (k:Int):=by unfold gy; simp [ar]; omega
 refine ⟨⟨w.n,kk.s hn.s,λz hz=>?_,λh0=>by rw [Th]; exact hn.b h0⟩,λq hq=>⟨w.o q hq,?_,(to q hq).2⟩,w.l⟩
 ·rcases kk.i z hz with h | h
  ·exact hn.k z h
  ·exact h
 ·rw [(to q hq).1]; exact hkk
theorem JR{u:Nat}(hu:1099511627776<=u){w:World}(h:M.WWf w){k:Nat}(hk:k < w.bx.length):nB u w k=some (yS w k):=by
 have up:=H8 h;have hl:=h.len;have hp:w.bx[k]?=some w.bx[k]:=sX hk;generalize w.bx[k]=p at hp;have pin:=h.net p (zQX hp);obtain ⟨j,e,hj⟩:=Mc pin.t;have hn:w.fN[j]?=some (w.fN[j]'(by rw [h.nl]; exact hj)):=sX _;have hd:w.fD[j]?=some (w.fD[j]'(by rw [h.dl]; exact hj)):=sX _;generalize w.fN[j]'(by rw [h.nl]; exact hj)=n at hn;generalize w.fD[j]'(by rw [h.dl]; exact hj)=d at hd;have a:=h.nodes j n hn;have b:=h.disks j d hd;have g:=Sp hj a b pin;have hb:aW .i64 (k:Int) 1=((k+1:Nat):Int):=pQ (a:=k) (b:=1) (by omega);have c1:c9 (cE 0 (k:Int) w.bx.length)=some ():=by
  rw [show (0:Int)=((0:Nat):Int) from rfl,gN (by omega) (by omega)]
 have c2:c9 (cE ((k+1:Nat):Int) ((w.bx.length:Nat):Int) w.bx.length)=some ():=by
  rw [gN (by omega) (by omega)]
 unfold nB yS;rw [hp];unfold Md;simp only [b9,hp,wk,hb,c1,c2,zQQ,show sY 0=0 from rfl,List.drop_zero,zQy,List.take_length];rw [bl (by simp; omega),wk,bl (by simp; omega),wk];simp only [e,zQQ,b9];simp only [H9,hn,hd,wk,OE hu (show w.fT.cf.length<=1048576 by omega) (j:Int) a.w (Cw a) b.o b.b pin.w.1 pin.w.2];rw [wc hu _ (λp hp=>(g.2.1 p hp).w) g.2.2];rfl
theorem Qp{α:Type}(g:α->Bool):∀ (l:List α) (i:Nat),lE (λx _=>g x) l i=l.all g
 | [],_=>rfl
 | x :: l,i=>by simp only [lE,List.all_cons,Qp g l]
def An(c:iE):Bool:=ar c.aC 2 6 && ar c.aZ 1 40 && ar c.aQ 1 5 && ar c.aX 2 8
theorem Me(u:Nat)(c:iE):u4 u c=some (An c):=by
 unfold u4 An;simp only [bL,wk]
 cases ar c.aC 2 6 <;> cases ar c.aZ 1 40 <;> cases ar c.aQ 1 5 <;> rfl
def Gu(l:List a9)(n:Int):Bool:=(l.all λx=>!decide ((x.fB.length:Int) > 240)) && ((l.length:Int) == n)
theorem JS{u:Nat}(hu:1099511627776<=u){l:List a9}(hl:l.length<=1048576)(n:Int):sR u l n=some (Gu l n):=by
 unfold sR Gu;rw [EW u l n () u (by omega) (by omega),EB (λ(x:a9) _=>!decide ((x.fB.length:Int) > 240)) (xs:=l) (b:=(l.length:Int) == n) rfl 0 (λx i f _ hx=>?_) l 0 (zWq _) rfl,Qp];unfold yg
 cases decide ((x.fB.length:Int) > 240) <;> rfl
theorem Qq:∀ (n:Nat) (b:List Int),aq b->b.length<=n->n9 n (iS b 1)=some b:=by
 intro n
 induction n with
 | zero =>
  intro b _ hl;have:b=[]:=rg (by omega);subst this;rfl
 | succ n ih =>
  intro b hb hl;rcases List.eq_nil_or_concat b with rfl | ⟨c,x,hbx⟩
  ·rfl
  ·rw [List.concat_eq_append] at hbx;subst hbx;have hx:=hb x (by simp);have hc:aq c:=λz hz=>hb z (by simp [hz]);have h1:=L2 c 1 0 hc (by simp);have hp:(0:Int) < 256 ^ (0+c.length):=Int.pow_pos (by omega);have e:iS (c++[x]) 1=256*iS c 1+x:=by rw [PW]; rfl
   unfold n9;rw [e,if_neg (by omega),if_neg (by omega),show (256*iS c 1+x) / 256=iS c 1 by omega,show (256*iS c 1+x) % 256=x by omega,ih c hc (by simp at hl; omega)];rfl
theorem OT{b:List Int}(hb:aq b)(hl:b.length<=6):bW (iS b 1)=(b,true):=by
 have h1:=L2 b 1 0 hb (by simp);have hp:(0:Int) < 256 ^ (0+b.length):=Int.pow_pos (by omega);unfold bW;rw [if_neg (by omega),Qq 6 b hb hl]
theorem Ti{size n i:Int}(h:ar i 0 (ch size n - 1)=true):(cm size n i).1=i*size/\1<=(cm size n i).2:=by
 have ⟨h1,h2,h3⟩:=Ae h;have h4:=vw h1;have h5:=(cd h).2;unfold cm;rw [if_pos h];unfold ch at h5;rw [if_pos h1] at h5;have h8:i+1<=(n+size - 1) / size:=by omega
 have h9:(i+1)*size<=n+size - 1:=(Int.le_ediv_iff_mul_le (by omega)).1 h8;rw [zZx] at h9;refine ⟨rfl,?_⟩;dsimp only;omega
theorem RG{b:List Int}{size i:Int}(h:ar i 0 (ch size b.length - 1)=true):((ei b size i).1.length:Int)=(cm size b.length i).2/\(ei b size i).1=M.win b (cm size b.length i).1.toNat (cm size b.length i).2.toNat:=by
 have h1:=Ti h;have h2:=tW (size:=size) (n:=b.length) (i:=i) (by omega);unfold ei;dsimp only;rw [if_neg (by omega)];refine ⟨?_,rfl⟩;unfold M.win;simp;omega
theorem OU{b:List Int}(hb:aq b){size:Int}{i:Nat}(h:ar (i:Int) 0 (ch size b.length - 1)=true):rD size b.length i (ef (ei b size i).1)=true:=by
 have h1:=RG h;have h2:=uY hb size i;unfold rD ef;rw [if_neg (by omega)];simp only [OT h2.1 h2.2,h1.1];simp
theorem DG{b:List Int}(hb:aq b){size:Int}:∀ (n i:Nat),((i+n:Nat):Int)<=ch size b.length->kN size b.length ((zXX i n).map λ(i:Nat)=>ef (ei b size i).1) i=true
 | 0,i,_=>rfl
 | n+1,i,h=>by
  have hw:ar (i:Int) 0 (ch size b.length - 1)=true:=by unfold ar; simp; omega
  simp only [List.range'_succ,zWg,kN];rw [OU hb hw,zWG];exact DG hb n (i+1) (by omega)
theorem IG(g:Int){b:List Int}(hb:aq b)(size:Int):cS (qw g b size)=true:=by
 unfold qw
 cases h1:ar g 1 1000000 with
 | false=>rfl
 | true =>
  cases h2:fk size b.length with
  | false=>rfl
  | true =>
   have hg:=cd h1;have hr:=eS size b.length;simp only [zXH,if_true];unfold cS;simp only;rw [if_neg (by omega),h1,h2];simp only [zWG,sk,beq_iff_eq];unfold xN;refine ⟨by simp; omega,?_⟩;rw [zXy];exact DG hb _ 0 (by omega)
def Ev{β:Type}(r:Option β)(p:β->Prop):Prop:=∃ v,r=some v/\p v
theorem bE{β γ:Type}{r:Option β}{p:β->Prop}{f:β->Option γ}{q:γ->Prop}(h:Ev r p)(hf:∀ v,p v->Ev (f v) q):Ev (r.bind f) q:=by
 obtain ⟨v,e,h1⟩:=h;rw [e];exact hf v h1
theorem cn{β:Type}{v:β}{p:β->Prop}(h:p v):Ev (some v) p:=⟨v,rfl,h⟩
theorem Us{β:Type}{r:Option β}{v:β}{p:β->Prop}(e:r=some v)(h:p v):Ev r p:=⟨v,e,h⟩
theorem Vk{β:Type}{r:Option β}{p q:β->Prop}(h:Ev r p)(hpq:∀ v,p v->q v):Ev r q:=by
 obtain ⟨v,e,h1⟩:=h;exact ⟨v,e,hpq v h1⟩
theorem ga{β γ:Type}{r:Option β}{v:β}{f:β->Option γ}{q:γ->Prop}(e:r=some v)(hf:Ev (f v) q):Ev (r.bind f) q:=by
 rw [e];exact hf
theorem lw{γ:Type}{b:Bool}{f:Unit->Option γ}{q:γ->Prop}(hb:b=true)(hf:Ev (f ()) q):Ev ((c9 b).bind f) q:=by
 subst hb;exact hf
theorem DH{α:Type}{r:Option (α×aK)}{p:α->Prop}(h:Dr r p):Ev r λv=>p v.1/\Cu v.2:=by
 obtain ⟨v,c,e,h1,h2⟩:=h;exact ⟨_,e,h1,h2⟩
theorem cR(u:Nat){c:aK}(hc:Cu c)(n:Int):Ev (ba u c n) λv=>(0<=v.1/\(0 < n->v.1 < n))/\Cu v.2:=DH (cC u hc n)
theorem Gw(u:Nat){c:aK}(hc:Cu c)(n:Int):Ev (iz u c n) λv=>Cu v.2:=Vk (DH (HO u hc n)) λ_ h=>h.2
theorem Cx(u:Nat){c:aK}(hc:Cu c){xs:List Int}(hx:0 < xs.length):Ev (dq u c xs) λv=>v.1∈xs/\Cu v.2:=DH (oa u hc hx)
theorem b5{γ:Type}{b:Bool}{x y:Option γ}{q:γ->Prop}(h1:b=true->Ev x q)(h2:b=false->Ev y q):Ev (bif b then x else y) q:=by
 cases b with
 | true=>exact h1 rfl
 | false=>exact h2 rfl
theorem zp{c:aK}(h:Cu c):Cu (aK.mk c.fB c.fI c.fH):=h
theorem NN{α:Type}{f:α->Nat->Bool}:∀ (l:List α) (i:Nat) (x:α),lE f (l++[x]) i=(lE f l i && f x (i+l.length))
 | [],i,x=>by simp [lE]
 | y :: l,i,x=>by
  simp only [zXk,lE,NN l (i+1) x,zQV,Bool.and_assoc];rw [show i+1+l.length=i+(l.length+1) by omega]
def Gx(t:cT):Prop:=jx t=true/\1<=t.cf.length/\t.cf.length<=7
theorem Mf(u:Nat)(hu:1099511627776<=u){c:aK}(hc:Cu c):Ev (pX u c) λv=>Gx v.1/\Cu v.2:=by
 have key:∀ (m k n:Nat) (up:List Int) (c:aK),n+m=7->m < k->1<=n->up.length=n->lE Cl up 0=true->Cu c ->
   Ev (fp u k (n:Int) up c.fB c.fI c.fH) λv=>Gx v.1/\Cu v.2:=by
  intro m
  induction m with
  | zero =>
   intro k n up c hn hk h1 hl ho hc;obtain ⟨k,rfl⟩:∃ j,k=j+1:=⟨k - 1,by omega⟩;unfold fp;refine bE (cR u (zp hc) 7) λr hr=>?_;have hr1:=hr.1.1;have hr2:=hr.1.2 (by omega);rw [cq (by omega) (by omega)];have:¬ (n:Int) < 1+r.1:=by omega
   simp only [this,decide_false,cond_false,rE];exact cn ⟨⟨by unfold jx; rw [ho]; simp [ar]; omega,by show 1<=up.length; omega,by show up.length<=7; omega⟩,hr.2⟩
  | succ m ih =>
   intro k n up c hn hk h1 hl ho hc;obtain ⟨k,rfl⟩:∃ j,k=j+1:=⟨k - 1,by omega⟩;unfold fp;refine bE (cR u (zp hc) 7) λr hr=>?_;have hr1:=hr.1.1;have hr2:=hr.1.2 (by omega);rw [cq (by omega) (by omega)];have next:∀ (x:Int) (c:aK),0<=x->x < n->Cu c->Ev (nN u (λz0 z1 z2 z3 z4=>fp u k z0 z1 z2 z3 z4) (n:Int) x up c.fB c.fI c.fH) λv=>Gx v.1/\Cu v.2:=by
    intro x c h0 hx hc;unfold nN;refine lw (by simp; omega) ?_;rw [cq (by omega) (by omega),show (n:Int)+1=((n+1:Nat):Int) by omega];refine ih k (n+1) _ c (by omega) (by omega) (by omega) (by simp; omega) ?_ hc;rw [NN,ho,zWG];unfold Cl;rw [if_neg (by omega)];simp [ar]; omega
   refine b5 (λhlt=>?_) (λ_=>?_)
   ·refine bE (Gw u hr.2 2) λo ho2=>?_;refine b5 (λ_=>?_) (λ_=>?_)
    ·refine bE (cR u ho2 _) λx hx=>?_;exact next _ _ hx.1.1 (hx.1.2 (by omega)) hx.2
    ·rw [cJ (by omega) (by omega)];exact next _ _ (by omega) (by omega) ho2
   ·unfold rE;exact cn ⟨⟨by unfold jx; rw [ho]; simp [ar]; omega,by show 1<=up.length; omega,by show up.length<=7; omega⟩,hr.2⟩
 unfold pX;exact key 6 u 1 _ c (by omega) (by omega) (by omega) rfl rfl hc
theorem Tj(u:Nat)(hu:1099511627776<=u){c:aK}(hc:Cu c):Ev (vn u c) λv=>v.1.cf.length<=7/\Cu v.2:=by
 unfold vn;refine bE (Mf u hu hc) λt ht=>?_;have hl:=ht.1.2;refine bE (cR u ht.2 8) λn hn=>?_;refine b5 (λ_=>?_) (λ_=>b5 (λ_=>?_) (λ_=>?_))
 ·refine bE (cR u hn.2 _) λi hi=>?_;refine bE (Cx u hi.2 (by simp)) λx hx=>?_;have h0:=hi.1.1;have h1:=hi.1.2 (by omega);obtain ⟨j,hj⟩:∃ j:Nat,i.1=(j:Int):=⟨i.1.toNat,by omega⟩;rw [hj,b9,sX (by omega)];exact cn ⟨by show (t.1.cf.set _ _).length<=7; rw [zXZ]; omega,hx.2⟩
 ·exact cn ⟨by simp,hn.2⟩
 ·exact cn ⟨by show t.1.cf.length<=7; omega,hn.2⟩
theorem Ut(u:Nat){c:aK}(hc:Cu c):Ev (w6 u c) λv=>Cu v.2:=by
 unfold w6;refine bE (Gw u hc 3) λo ho=>b5 (λ_=>?_) (λ_=>?_)
 ·exact bE (Cx u ho (by simp)) λx hx=>cn hx.2
 ·refine bE (cR u ho _) λx hx=>bE (cR u hx.2 _) λy hy=>lw ?_ (cn hy.2);have:=hy.1.1
  simpa using this
theorem RH{u:Nat}(hu:1099511627776<=u){c:aK}(hc:Cu c):Ev (lY u c) λv=>m8 16 v.1/\Cu v.2:=DH (LM hu hc)
theorem Wf{u:Nat}(hu:1099511627776<=u){c:aK}(hc:Cu c){b:List Int}(hb:m8 200 b):Ev (sm u c b) λv=>m8 240 v.1/\Cu v.2:=DH (S4 hu hc hb.1 hb.2)
theorem Wg{u:Nat}(hu:1099511627776<=u){c:aK}(hc:Cu c):Ev (uq u c) λv=>(v.1.aJ.length<=41/\oY v.1)/\Cu v.2:=DH (Uh hu hc)
theorem Gy{n m:Nat}{b:List Int}(h:m8 n b)(hn:n<=m):m8 m b:=⟨zWx h.1 hn,h.2⟩
structure M.DrMan (m:ah) (b:List Int):Prop where
 i:m8 16 b
 o:cS m=true
 n:m.aJ.length<=40
 w:oY m
 l:0<=m.aY/\m.aY<=16
theorem Tl{u:Nat}(hu:1099511627776<=u){c:aK}(hc:Cu c):Ev (pa u c) λv=>M.DrMan v.1 v.2.1/\Cu v.2.2:=by
 unfold pa;refine bE (RH hu hc) λb hb=>bE (cR u hb.2 _) λx hx=>bE (cR u hx.2 _) λy hy=>?_;have h1:=hb.1.1;refine ga (zg hu hb.1.2 (by omega) _ _) (cn ⟨⟨hb.1,IG _ hb.1.2 _,HL _ _ _,LG _ _ _ hb.1.2,?_⟩,hy.2⟩);unfold qw
 split
 ·exact ⟨by simp,by simp; omega⟩
 ·simp
structure M.DrNode (n:aH):Prop where
 w:M.NodWf n
 b:n.bD.bZ.length<=16
 k:n.bj.length<=10
theorem OV:oY ⟨0,0,0,[]⟩:=λx hx=>by simp at hx
theorem WK(b:Bool)(i:Int)(q:Int:=0):M.DrNode ⟨b,i,q,⟨0,0,0,[]⟩,⟨0,[]⟩,0,[],0⟩:=⟨⟨by simp,⟨by simp [aq],by simp⟩,by simp,OV⟩,by simp,by simp⟩
theorem Tn{m:ah}{b:List Int}(hm:M.DrMan m b){x:bI}(hp:M.Part m 40 x){l:List bM}(hl:l.length<=10)(o:Bool)(i q ph dr:Int):M.DrNode ⟨o,i,q,m,x,ph,l,dr⟩:=by
 have h1:=hm.n;have h2:=hm.l;have h3:=hp.l;exact ⟨⟨by show m.aJ.length<=1048576; omega,hp.b,by show l.length<=1048577; omega,hm.w⟩,by show x.bZ.length<=16; omega,hl⟩
theorem Vl:M.DiskIn ⟨[],[],⟨0,0,0⟩,[]⟩:=⟨⟨by simp,by simp,by simp,by simp⟩,⟨by simp [aq],by simp [aq],by simp⟩,by simp⟩
theorem RI{u:Nat}(g:Int){b:List Int}(hb:m8 1048576 b):Ev (jb u g b) M.DiskIn:=by
 have hl:=hb.1;unfold jb;refine ga (bL u g 0 1000000) ?_;have key:∀ x:Bool,Ev (jT u g b x) M.DiskIn:=by
  intro x;unfold jT;refine b5 (λ_=>cn Vl) (λ_=>lw (by simp; omega) (cn ?_));exact ⟨⟨by simpa using hl,by simp,by simp,by simp⟩,⟨by simpa using hb.2,by simp [aq],by simp⟩,by simp⟩
 exact b5 (λ_=>key _) (λ_=>key _)
theorem Wh{u:Nat}(hu:1099511627776<=u){code:List Int}(h:code.length<=1048576):Ev (w4 u code) Cu:=by
 obtain ⟨c,e,hc⟩:=Uc hu h;exact Us e hc
def AU(t:cT)(k:Int):aH:=if jx t && ar k 1 ((t.cf.length:Int) - 1) then ⟨true,(t.cf[k.toNat]?).getD 0,0,⟨0,0,0,[]⟩,⟨0,[]⟩,0,[],0⟩ else ⟨false,0,0,⟨0,0,0,[]⟩,⟨0,[]⟩,0,[],0⟩
theorem Vm{t:cT}{k:Int}(h:ar k 1 ((t.cf.length:Int) - 1)=true):cN t.cf k=some ((t.cf[k.toNat]?).getD 0):=by
 have:=cd h;obtain ⟨j,rfl⟩:∃ j:Nat,k=j:=⟨k.toNat,by omega⟩;rw [b9,zQQ,sX (by omega)];rfl
theorem Ao{u:Nat}(hu:1099511627776<=u){t:cT}(ht:t.cf.length<=1048576)(k:Int):mn u t k=some (AU t k):=by
 unfold mn AU;rw [xT hu (by omega),cJ (by omega) (by omega),bL];simp only [wk];unfold pZ
 cases jx t with
 | false=>rfl
 | true =>
  cases h:ar k 1 ((t.cf.length:Int) - 1) with
  | false=>rfl
  | true=>simp only [zQW,cond_false,Vm h,wk,sS]; rfl
theorem EN{u:Nat}(hu:1099511627776<=u){a:List b4}(h:a.length<=1048577):rt u a a=some true:=by
 unfold rt;simp only [bne_self_eq_false,cond_false];rw [DU u a a () u (by omega) (by omega),oF (λx i k hx=>by unfold xu; rw [b9,hx]; simp only [wk,beq_self_eq_true,zQW,cond_false]) a 0 rfl];rfl
theorem EO{u:Nat}(hu:1099511627776<=u){a:List bM}(h:a.length<=1048577):ru u a a=some true:=by
 unfold ru;simp only [bne_self_eq_false,cond_false];rw [DW u a a () u (by omega) (by omega),oF (λx i k hx=>by unfold xv; rw [b9,hx]; simp only [wk,beq_self_eq_true,zQW,cond_false]) a 0 rfl];rfl
theorem Gz{u:Nat}(hu:1099511627776<=u){m:ah}(h:m.aJ.length<=1048577):tz u m m=some true:=by
 unfold tz;simp only [beq_self_eq_true,cond_true,EN hu h,wk]
theorem EP{u:Nat}(hu:1099511627776<=u){n:aH}(h:M.NodWf n):oD u n n=some true:=by
 unfold oD tA;simp only [beq_self_eq_true,cond_true,Gz hu (show n.aD.aJ.length<=1048577 by have:=h.s; omega),lp hu h.b.l,EO hu h.k,wk]
theorem ua{u:Nat}(hu:1099511627776<=u){a:List ag}(h:a.length<=1048577)(hb:∀ p∈a,p.fB.length<=1048576):kH u a a=some true:=by
 unfold kH;simp only [bne_self_eq_false,cond_false];rw [Bu u a a () u (by omega) (by omega),oF (λx i k hx=>by
  unfold t8 eL;simp only [b9,hx,wk,bne_self_eq_false,zQW,cond_false,lp hu (hb x (zQX hx))]) a 0 rfl]
 rfl
theorem Mg(u:Nat){c:aK}(hc:Cu c):Ev (pY u c) λv=>An v.1=true/\Cu v.2:=by
 unfold pY;refine bE (cR u hc _) λa ha=>bE (Cx u ha.2 (by simp)) λw hw=>bE (cR u hw.2 _) λs hs=>bE (cR u hs.2 _) λf hf=>cn ⟨?_,hf.2⟩;have a1:=ha.1.1;have a2:=ha.1.2 (by omega);have s1:=hs.1.1;have s2:=hs.1.2 (by omega);have f1:=hf.1.1;have f2:=hf.1.2 (by omega);have w1:1<=w.1/\w.1<=40:=by
  have:=hw.1;simp only [zXh,zZj,or_false] at this;rcases this with h | h | h | h | h <;> omega
 unfold An ar;simp only [cq (show -9223372036854775808<=2+a.1 by omega) (show 2+a.1<=9223372036854775807 by omega),cq (show -9223372036854775808<=1+s.1 by omega) (show 1+s.1<=9223372036854775807 by omega),cq (show -9223372036854775808<=2+f.1 by omega) (show 2+f.1<=9223372036854775807 by omega),sk,decide_eq_true_eq];omega
theorem To(u:Nat){c:aK}(hc:Cu c):Ev (vm u c) λv=>Cu v.2:=by
 unfold vm;refine bE (Mg u hc) λr hr=>bE (cR u hr.2 _) λk hk=>?_;refine b5 (λ_=>bE (Cx u hk.2 (by simp)) λx hx=>cn hx.2) (λ_=>?_);refine b5 (λ_=>bE (Cx u hk.2 (by simp)) λx hx=>cn hx.2) (λ_=>?_);refine b5 (λ_=>bE (Cx u hk.2 (by simp)) λx hx=>cn hx.2) (λ_=>?_);exact b5 (λ_=>bE (Cx u hk.2 (by simp)) λx hx=>cn hx.2) (λ_=>cn hk.2)
structure M.DrD (d:aB):Prop where
 o:M.DOk d
 l:d.fP.length<=201
theorem Uu{u:Nat}(hu:1099511627776<=u){c:aK}(hc:Cu c):Ev (uo u c) λv=>M.DrD v.1/\Cu v.2:=by
 obtain ⟨d,c',e,h,h2⟩:=Ud hu hc;exact Us e ⟨⟨h.1,h.2⟩,h2⟩
theorem yT{u:Nat}(hu:1099511627776<=u){l:List a9}(hl:l.length<=1048576)(hb:∀ x∈l,x.fB.length<=1048576):ji u l=some l:=by
 unfold ji;rw [CW u l _ u (by omega) (by omega),nH 1048576 l _ l 0 [] (λ_ h=>h) (by simp; omega)]
 ·rfl
 ·intro x i s k hx hs;have h4:=hb x hx;unfold wd;rw [bl (by simp; omega)];simp only [wk];rw [bl (by simp; omega)]; rfl
theorem Qr{α ρ:Type}{fin:List α->Option ρ}{body:α->Nat->List α->(List α->Option ρ)->Option ρ}(n:Nat)(p:List α)(hb:∀ x i s k,p[i]?=some x->s.length+1<=n->body x i s k=k (s++[x])) :
  ∀ (l:List α) (i:Nat) (s:List α),l=p.drop i->s.length+l.length<=n->bU fin body l i s=fin (s++l):=by
 intro l
 induction l with
 | nil=>intro i s _ _; simp [bU]
 | cons x l ih =>
  intro i s h1 h2;simp only [zQV] at h2;have h3:p[i]?=some x:=by
   have:=congrArg (λl=>l[0]?) h1
   simpa using this.symm
  have h4:l=p.drop (i+1):=by
   have:=congrArg (List.drop 1) h1
   simpa using this
  simp only [bU];rw [hb x i s _ h3 (by omega),ih (i+1) _ h4 (by simp; omega)];simp
theorem AV{u:Nat}(hu:1099511627776<=u){l:List ag}(hl:l.length<=1048576)(hb:∀ x∈l,x.fB.length<=1048576):jY u l=some l:=by
 unfold jY;rw [yW u l _ u (by omega) (by omega),Qr 1048576 l _ l 0 [] (by simp) (by simp; omega)]
 ·rfl
 ·intro x i s k hx hs;have h4:=hb x (zQX hx);unfold qW;rw [jK l i hx];simp only [wk];rw [bl (by simp; omega)];simp only [wk];rw [bl (by simp; omega)]; rfl
structure M.WCp (w:World):Prop where
 t:w.fT.cf.length<=1048576
 new:w.ce.length<=1048576
 ol:w.bX.length<=1048576
 old:∀ x∈w.bX,x.fB.length<=1048576
 nl:w.fN.length<=1048576
 n:∀ x∈w.fN,M.NodWf x
 dl:w.fD.length<=1048576
 d:∀ x∈w.fD,M.DOk x
 pl:w.bx.length<=1048576
 p:∀ x∈w.bx,lG x
 ll:w.cu.length<=1048576
theorem Bm{u:Nat}(hu:1099511627776<=u){w:World}(h:M.WCp w):md u w=some w:=by
 have h1:=h.t;have h2:=h.new;have h3:=h.nl;have h4:=h.dl;have h5:=h.ll;unfold md;rw [bl (by simp; omega),bl (by simp; omega)];simp only [wk];rw [yT hu h.ol h.old];simp only [wk];rw [E4 u w _ _ u (by omega) (by omega),nH 1048576 w.fN _ w.fN 0 [] (λ_ h=>h) (by simp; omega)]
 ·unfold yj nQ;rw [E3 u w _ _ _ u (by omega) (by omega),nH 1048576 w.fD _ w.fD 0 [] (λ_ h=>h) (by simp; omega)]
  ·unfold yh nP;rw [AV hu h.pl λx hx=>(h.p x hx).2];simp only [wk];rw [bl (by simp; omega)];rfl
  ·intro x i s k hx hs;unfold yi;rw [gw hu (h.d x hx)];simp only [wk];rw [bl (by simp; omega)]; rfl
 ·intro x i s k hx hs;unfold yk;rw [fF u (h.n x hx)];simp only [wk];rw [bl (by simp; omega)]; rfl
structure M.DrW (w:World):Prop where
 wf:M.WWf w
 ol:w.bX.length=w.fT.cf.length
 old:∀ x∈w.bX,m8 240 x.fB
 new:m8 16 w.ce
 log:w.cu.length<=3000
structure M.NewW (w:World):Prop where
 d:M.DrW w
 net:w.bx=[]
 lost:w.bn=0
theorem Uv{w:World}(h:M.DrW w):M.WCp w:=by
 have h0:=H8 h.wf;have h1:=h.wf.nl;have h2:=h.wf.dl;have h3:=h.wf.len;have h4:=h.ol;have h5:=h.log;have h6:=h.new.1;refine ⟨by omega,by omega,by omega,λx hx=>by have:=(h.old x hx).1; omega,by omega,λx hx=>?_,by omega,λx hx=>?_,by omega,λx hx=>(h.wf.net x hx).w,by omega⟩
 ·obtain ⟨j,hj⟩:=List.mem_iff_getElem?.1 hx;exact (h.wf.nodes j x hj).w
 ·obtain ⟨j,hj⟩:=List.mem_iff_getElem?.1 hx;exact (h.wf.disks j x hj).o
theorem Sq{t:cT}(ht:jx t=true){k:Nat}(h0:0 < k)(hk:k < t.cf.length):M.NodeIn t k (AU t k):=by
 have hw:ar (k:Int) 1 ((t.cf.length:Int) - 1)=true:=by unfold ar; simp; omega
 unfold AU;simp only [ht,hw,zXH,if_true];refine ⟨⟨by simp,⟨by simp [aq],by simp⟩,by simp,OV⟩,⟨by simp [dH],by simp [dH]⟩,λz hz=>by simp [dH] at hz,λ_=>?_⟩
 ·rw [zQQ,sX hk];have:=NM ht h0 (sX hk);unfold gy ar;simp;omega
theorem Vn{u:Nat}(hu:1099511627776<=u){t:cT}{m:ah}{b:List Int}(hm:M.DrMan m b):Ev (oj u m b) λn=>M.NodeIn t 0 n:=by
 have h1:=hm.n;have h2:=hm.i.1;have mk:∀ n:aH,M.DrNode n->n.bj=[]->M.NodeIn t 0 n:=λn hn hk=>⟨hn.w,by rw [hk]; exact ⟨by simp [dH],by simp [dH]⟩,λz hz=>by rw [hk] at hz; simp [dH] at hz,λh=>absurd rfl h⟩;have key:∀ x:Bool,Ev (kC u b x m) λn=>M.NodeIn t 0 n:=by
  intro x;unfold kC;refine b5 (λ_=>cn (mk _ (WK _ _) rfl)) (λ_=>?_);refine ga (xV u (by omega)) (ga (yP hu (by omega) hm.i.2 (by omega)) (cn (mk _ ?_ rfl)));exact Tn hm (HY (Cq hm.o hm.i.2 (by omega)) h1) (by simp) _ _ _ _ _
 unfold oj;refine b5 (λ_=>key _) (λ_=>ga (gr hu m (by omega)) (b5 (λ_=>key _) (λ_=>ga (Dz hu m hm.i.2 (by omega)) (key _))))
theorem Uw{u:Nat}{b:List Int}(hb:m8 16 b)(g s:Int):M.DrMan (qw g b s) b:=by
 have h1:=hb.1;refine ⟨hb,IG _ hb.2 _,HL _ _ _,LG _ _ _ hb.2,?_⟩;unfold qw
 split
 ·exact ⟨by simp,by simp; omega⟩
 ·simp
theorem Qs{u:Nat}(hu:1099511627776<=u){c:iE}(hc:An c=true){t:cT}(ht:Gx t){b:List Int}(hb:m8 16 b){old:List a9}(ho:old.length=t.cf.length)(hol:∀ x∈old,m8 240 x.fB):Ev (qV u c t b old) M.NewW:=by
 have t1:=ht.2.1;have t2:=ht.2.2;have b1:=hb.1;have hs:fk c.aC (b.length:Int)=true:=by
  unfold An at hc;simp only [sk] at hc;have:=cd hc.1.1.1;unfold fk;simp only [hc.1.1.1,zWG];unfold ar;simp;omega
 have hoo:Gu old (t.cf.length:Int)=true:=by
  unfold Gu;simp only [sk];refine ⟨List.all_eq_true.2 λx hx=>?_,by simp [ho]⟩;have:=(hol x hx).1;simp;omega
 have loop:∀ (m k i:Nat) (ns:List aH) (ds:List aB),i+m=t.cf.length->m < k->ns.length=i->ds.length=i->(∀ (j:Nat) (n:aH),ns[j]?=some n->M.NodeIn t j n)->(∀ (j:Nat) (d:aB),ds[j]?=some d->M.DiskIn d) ->
   Ev (dt u k b old (i:Int) c t old ns ds) M.NewW:=by
  intro m
  induction m with
  | zero =>
   intro k i ns ds hi hk h1 h2 h3 h4;obtain ⟨k,rfl⟩:∃ j,k=j+1:=⟨k - 1,by omega⟩;unfold dt;have:¬ (i:Int) < (t.cf.length:Int):=by omega
   simp only [this,decide_false,cond_false,p7];exact cn ⟨⟨⟨ht.1,by show ns.length=t.cf.length; omega,by show ds.length=t.cf.length; omega,h3,h4,λp hp=>by simp at hp,by simp⟩,ho,hol,by simpa using hb,by simp⟩,rfl,rfl⟩
  | succ m ih =>
   intro k i ns ds hi hk h1 h2 h3 h4;obtain ⟨k,rfl⟩:∃ j,k=j+1:=⟨k - 1,by omega⟩;unfold dt;have hlt:(i:Int) < (t.cf.length:Int):=by omega
   simp only [hlt,decide_true,cond_true];have step:∀ n:aH,M.NodeIn t i n->Ev (iK u (λz0 z1 z2 z3 z4 z5 z6 z7=>dt u k z0 z1 z2 z3 z4 z5 z6 z7) b old (i:Int) c t old ns ds n.gW n.bP n.bJ n.aD.aO n.aD.aC n.aD.aY n.aD.aJ n.bD.bq n.bD.bZ n.bp n.bj n.bB) M.NewW:=by
    intro n hn;unfold iK;obtain ⟨x,hx⟩:∃ x,old[i]?=some x:=⟨_,sX (by omega)⟩;refine lw (by simp; omega) (ga (jK old i hx) (bE (RI 0 (Gy (hol x (zQX hx)) (by omega))) λd hd=>lw (by simp; omega) ?_));rw [db (show i < 9223372036854775807 by omega)];refine ih k (i+1) _ _ (by omega) (by omega) (by simp [h1]) (by simp [h2]) (λj n' hj=>?_) (λj d' hj=>?_)
    ·by_cases hji:j < ns.length
     ·rw [r0 hji] at hj;exact h3 j n' hj
     ·rw [zQY (by omega)] at hj
      cases hq:j - ns.length with
      | zero =>
       rw [hq] at hj;simp only [zWW,Option.some.injEq] at hj;have:j=i:=by omega
       subst this hj;exact hn
      | succ q=>rw [hq] at hj; simp at hj
    ·by_cases hji:j < ds.length
     ·rw [r0 hji] at hj;exact h4 j d' hj
     ·rw [zQY (by omega)] at hj
      cases hq:j - ds.length with
      | zero =>
       rw [hq] at hj;simp only [zWW,Option.some.injEq] at hj;exact hj ▸ hd
      | succ q=>rw [hq] at hj; simp at hj
   refine ga (Ao hu (by omega) _) ?_
   cases i with
   | zero =>
    refine b5 (λ_=>?_) (λe=>by simp at e);refine ga (r:=uf u _) (v:=qw 1 b c.aC) ?_ (bE (Vn (t:=t) hu (Uw (u:=u) hb 1 c.aC)) λn hn=>step n hn);unfold uf;simp only [zQy];rw [zg hu hb.2 (by omega)];rfl
   | succ i =>
    refine b5 (λe=>?_) (λ_=>step _ (Sq ht.1 (by omega) (by omega)));simp at e;omega
 unfold qV;refine ga (Me u c) ?_;rw [hc];refine b5 (λe=>by cases e) λ_=>ga (xT hu (by omega)) ?_;rw [ht.1];refine b5 (λe=>by cases e) λ_=>ga (pN u _ _) ?_;rw [hs];refine b5 (λe=>by cases e) λ_=>ga (JS hu (by omega) _) ?_;rw [hoo];unfold kD;refine b5 (λe=>by cases e) λ_=>lw (by simp; omega) (lw (by simp; omega) (ga (yT hu (by omega) λx hx=>by have:=(hol x hx).1; omega) ?_));exact loop t.cf.length u 0 [] [] (by omega) (by omega) rfl rfl (λj n h=>by simp at h) (λj n h=>by simp at h)
theorem Tp{u:Nat}(hu:1099511627776<=u){c:aK}(hc:Cu c):Ev (u6 u c) λv=>M.NewW v.1/\Cu v.2:=by
 unfold u6;refine bE (Mf u hu hc) λr1 hr1=>bE (RH hu hr1.2) λr2 hr2=>?_;have t1:=hr1.1.2.1;have t2:=hr1.1.2.2;have loop:∀ (m k i:Nat) (xs:List a9) (c:aK),i+m=r1.1.cf.length->m < k->xs.length=i->(∀ x∈xs,m8 240 x.fB)->Cu c->Ev (g9 u k r2 xs (i:Int) r1 c.fB c.fI c.fH) λv=>M.NewW v.1/\Cu v.2:=by
  intro m
  induction m with
  | zero =>
   intro k i xs c hi hk h1 h2 hc;obtain ⟨k,rfl⟩:∃ j,k=j+1:=⟨k - 1,by omega⟩;unfold g9;have:¬ (i:Int) < (r1.1.cf.length:Int):=by omega
   simp only [this,decide_false,cond_false,s0];exact bE (Mg u (zp hc)) λq hq=>bE (Qs hu hq.1 hr1.1 hr2.1 (by omega) h2) λw hw=>cn ⟨hw,hq.2⟩
  | succ m ih =>
   intro k i xs c hi hk h1 h2 hc;obtain ⟨k,rfl⟩:∃ j,k=j+1:=⟨k - 1,by omega⟩;unfold g9;have hlt:(i:Int) < (r1.1.cf.length:Int):=by omega
   simp only [hlt,decide_true,cond_true];refine bE (Wf hu (zp hc) (Gy hr2.1 (by omega))) λq hq=>lw (by simp; omega) ?_;rw [db (show i < 9223372036854775807 by omega)];refine ih k (i+1) _ q.2 (by omega) (by omega) (by simp [h1]) (λx hx=>?_) hq.2;rcases List.mem_append.1 hx with hx | hx
   ·exact h2 x hx
   ·simp only [zXh,zZj,or_false] at hx;subst hx;exact hq.1
 exact loop r1.1.cf.length u 0 [] r2.2 (by omega) (by omega) rfl (by simp) hr2.2
theorem Mh(u:Nat){c:aK}(hc:Cu c){b:List Int}{N:Nat}(hN:N<=1000000)(hb:b.length<=N)(hB:aq b):Dr (lZ u c b) (m8 (N+1)):=by
 unfold lZ;rw [bl (by simp; omega)];simp only [wk,zQy];have hlt:∀ {v:Int},0<=v->v < (b.length:Int)->∃ y,cN b v=some y:=λ{v} h0 h1=>by
  obtain ⟨i,rfl⟩:∃ i:Nat,v=(i:Int):=⟨v.toNat,by omega⟩;exact ⟨b[i]'(by omega),by rw [b9]; exact sX (by omega)⟩
 have self:m8 (N+1) b:=⟨by omega,hB⟩;refine co (cC u hc 6) λn c1 _ h1=>?_;simp only
 cases n == 0 with
 | true =>
  simp only [cond_true]
  by_cases hl:(b.length:Int) > 0
  ·simp only [hl,decide_true,cond_true];refine co (cC u h1 _) λv c2 hv h2=>?_;refine co (cC u h2 256) λw c3 _ h3=>?_;obtain ⟨y,hy⟩:=hlt hv.1 (hv.2 hl);simp only [hy,wk,cg];exact cP ⟨by rw [zXZ]; omega,CN hB _ (S3 _)⟩ h3
  ·simp only [hl,decide_false,cond_false,cg];exact cP self h1
 | false =>
  simp only [cond_false]
  cases n == 1 with
  | true =>
   simp only [cond_true];rw [db (by omega)];refine co (cC u h1 _) λv c2 hv h2=>?_;have h3:=hv.2 (by omega);have hs:cE 0 v (b.length:Int)=true:=by simp [cE]; omega
   simp only [hs,zR,wk,cg];exact cP ⟨by rw [zYy,zQh]; omega,AO (AN hB _) _⟩ h2
  | false =>
   simp only [cond_false]
   cases n == 2 with
   | true =>
    simp only [cond_true];refine co (oa u h1 (by simp)) λv c2 _ h2=>?_;rw [bl (by simp; omega)];simp only [wk,cg];exact cP ⟨by rw [zQJ,zYV]; omega,wY hB (HP _)⟩ h2
   | false =>
    simp only [cond_false]
    cases n == 3 with
    | true =>
     simp only [cond_true]
     by_cases hl:(b.length:Int) > 0
     ·simp only [hl,decide_true,cond_true];refine co (cC u h1 _) λv c2 hv h2=>?_;obtain ⟨y,hy⟩:=hlt hv.1 (hv.2 hl);simp only [hy,wk];refine co (cC u h2 8) λw c3 hw h3=>?_;have hw0:=hw.1;simp only [hy];rw [bl hw0];simp only [wk,cg];exact cP ⟨by rw [zXZ]; omega,CN hB _ (by unfold NZ; exact S3 _)⟩ h3
     ·simp only [hl,decide_false,cond_false,cg];exact cP self h1
    | false =>
     simp only [cond_false,cg];exact cP self h1
def JT(out:List ag):Prop:=∀ q∈out,q.fB.length<=1000
theorem Sr:JT []:=λq hq=>by simp at hq
theorem WR(me t:Int)(m:dY):(iW me t m).fB.length<=1000:=by
 have:=EM m;show (fm m).length<=1000;omega
theorem WL{me t:Int}(m:dY):JT [iW me t m]:=λq hq=>by
 simp only [zQx] at hq;subst hq; exact WR _ _ _
theorem OW{n:aH}{me f:Int}:JT (f9 n me f).nc:=λq hq=>by
 unfold f9 at hq;simp only [zXg] at hq;obtain ⟨i,_,rfl⟩:=hq;exact WR _ _ _
theorem MZ{n:aH}{me f:Int}(m:dY):JT (eT n me f m).nc:=by
 unfold eT
 split
 ·exact Sr
 ·split
  ·exact WL _
  ·split
   ·dsimp only
    split
    ·exact WL _
    ·exact OW
   ·exact WL _
theorem Wi{n:aH}{me i:Int}:∀ (l:List bM) (s:List bM×List ag),JT s.2->JT (l.foldl (fc n me i) s).2:=by
 intro l
 induction l with
 | nil=>intro s h; exact h
 | cons x l ih =>
  intro s h;refine ih _ λq hq=>?_;unfold fc at hq
  split at hq
  ·simp only [zWJ,zQx] at hq;rcases hq with hq | rfl
   ·exact h q hq
   ·exact WR _ _ _
  ·exact h q hq
theorem RJ{n:aH}{me i:Int}:JT (jL n me i).nc:=by
 unfold jL
 split
 ·exact Wi _ _ Sr
 ·exact Sr
theorem Vo{t:cT}{me:Int}{n:aH}(d:aB)(p:ag):JT (M.take t me n d p).nc:=by
 unfold M.take
 split
 ·exact Sr
 ·split
  ·split
   ·exact MZ _
   ·split
    ·unfold jX
     split
     ·exact Sr
     ·split
      ·unfold lv
       split
       ·exact Sr
       ·split
        ·exact Sr
        ·split
         ·exact RJ
         ·exact Sr
      ·first | exact Sr | (split <;> exact Sr)
    ·exact Sr
  ·exact Sr
theorem Vp{t:cT}(c:iE){k:Int}{n:aH}(d:aB):JT (lF t c k n d).nc:=by
 unfold lF
 split
 ·exact Sr
 ·split
  ·exact Sr
  ·split
   ·exact WL _
   ·exact WL _
structure M.DrN (n:Nat) (w:World):Prop where
 d:M.DrW w
 len:∀ p∈w.bx,p.fB.length<=1000+n
 l0:0<=w.bn
 l1:w.bn<=n*1048577
theorem Vq{w:World}(h:M.DrW w)(h0:w.bx=[])(h1:w.bn=0):M.DrN 0 w:=⟨h,λp hp=>by rw [h0] at hp; simp at hp,by omega,by omega⟩
theorem zq{n:Nat}{w:World}(h:M.DrN n w):M.DrN (n+1) w:=⟨h.d,λp hp=>by have:=h.len p hp; omega,h.l0,by have:=h.l1; omega⟩
theorem RK{N K:Nat}(hN:1000<=N):∀ (out:List ag) (s:List ag×List bR×Int),JT out->(∀ p∈s.1,p.fB.length<=N)->s.2.1.length<=3000->0<=s.2.2->s.2.2<=K->K+out.length<=4611686018427387904 ->
  (∀ p∈(out.foldl bu s).1,p.fB.length<=N)/\(out.foldl bu s).2.1.length<=3000/\0<=(out.foldl bu s).2.2/\(out.foldl bu s).2.2<=K+out.length:=by
 intro out
 induction out generalizing K with
 | nil=>intro s _ h1 h2 h3 h4 _; exact ⟨h1,h2,h3,by simpa using h4⟩
 | cons x out ih =>
  intro s hs h1 h2 h3 h4 h5;simp only [zQV] at h5;rw [zXz];have hx:=hs x (by simp);have hs':JT out:=λq hq=>hs q (by simp [hq])
  by_cases hl:400<=s.1.length
  ·have e:bu s x=(s.1,s.2.1,aW .i64 s.2.2 1):=by unfold bu; rw [if_pos hl]
   rw [e,cq (by omega) (by omega)];obtain ⟨a,b,c,d⟩:=ih (K:=K+1) (s.1,s.2.1,s.2.2+1) hs' h1 h2 (by show 0<=s.2.2+1; omega) (by show s.2.2+1<=((K+1:Nat):Int); omega) (by omega);exact ⟨a,b,c,by simp only [zQV]; omega⟩
  ·have e:(bu s x).1=s.1++[x]/\(bu s x).2.2=s.2.2/\(bu s x).2.1.length<=3000:=by
    unfold bu;rw [if_neg hl];refine ⟨rfl,rfl,?_⟩;dsimp only
    split
    ·rename_i hc;simp only [sk,decide_eq_true_eq] at hc;simp only [zQJ,zYV];omega
    ·exact h2
   obtain ⟨a,b,c,d⟩:=ih (K:=K) (bu s x) hs' (λp hp=>by
    rw [e.1] at hp;rcases List.mem_append.1 hp with hp | hp
    ·exact h1 p hp
    ·simp only [zQx] at hp;subst hp;omega) e.2.2 (by rw [e.2.1]; exact h3) (by rw [e.2.1]; exact h4) (by omega)
   exact ⟨a,b,c,by simp only [zQV]; omega⟩
theorem Qt{n:Nat}{w:World}(hn:n<=1000)(h:M.DrN n w){out:List ag}(ho:∀ p∈out,M.PkIn w.fT p)(hs:JT out)(hl:out.length<=1048576):M.DrN (n+1) (lH w out):=by
 have l1:=h.l1;obtain ⟨a,b,c,d⟩:=RK (N:=1000+n) (K:=n*1048577) (by omega) out (w.bx,w.cu,w.bn) hs h.len h.d.log h.l0 (by show w.bn<=((n*1048577:Nat):Int); omega) (by omega);exact ⟨⟨Up h.d.wf ho,h.d.ol,h.d.old,h.d.new,b⟩,λp hp=>by have:=a p hp; omega,c,by show (out.foldl bu (w.bx,w.cu,w.bn)).2.2<=_; omega⟩
theorem Qu(s:Int):∀ (l:List dd) (i:Nat) (d:aB),(∀ p∈l,aq p.fB)->M.DB d->M.DB (tY s l i d)
 | [],i,d,_,hd=>⟨hd.a,hd.b,by simp [tY]⟩
 | p :: l,i,d,h,hd=>by
  unfold tY;refine Qu s l (i+1) _ (λq hq=>h q (by simp [hq])) ?_
  split
  ·exact NL hd (h p (by simp))
  ·exact hd
theorem Vr{d:aB}(hd:M.DiskIn d)(s:Int):M.DiskIn (zh d s):=by
 refine ⟨U4 hd.o s,?_,?_⟩
 ·unfold zh
  split
  ·exact Qu s _ _ _ (λp hp=>hd.b.p p hp) hd.b
  ·exact hd.b
 ·cases h:cQ d with
  | true=>rw [Ue h]; simp
  | false=>unfold zh; rw [h]; exact hd.l
theorem Qv{n:Nat}{w:World}(h:M.DrN n w){k:Nat}{x:aH}{d:aB}(hn:M.NodeIn w.fT k x)(hd:M.DiskIn d):M.DrN n (wZ w k x d):=⟨⟨Qo h.d.wf hn hd,h.d.ol,h.d.old,h.d.new,h.d.log⟩,h.len,h.l0,h.l1⟩
theorem VG{n:Nat}{w:World}(h:M.DrN n w){k:Nat}{x:aH}(hn:M.NodeIn w.fT k x):M.DrN n (OS w k x):=⟨⟨Ur h.d.wf hn,h.d.ol,h.d.old,h.d.new,h.d.log⟩,h.len,h.l0,h.l1⟩
theorem M0{n:Nat}{w:World}(hn:n<=1000)(h:M.DrN n w){k:Nat}(hk:k < w.fT.cf.length):M.DrN (n+1) (yR w k):=by
 unfold yR
 split
 ·rename_i x d hx hd;have g:=So h.d.wf.t w.fC hk (h.d.wf.nodes k x hx) (h.d.wf.disks k d hd);exact Qt hn (Qv h g.1 g.2.1) g.2.2.1 (Vp _ _) g.2.2.2
 ·exact zq h
theorem Qw{n:Nat}{w:World}(h:M.DrN n w)(k:Nat):M.DrN n (H9 w k):=by
 refine ⟨⟨Uq h.d.wf k,h.d.ol,h.d.old,h.d.new,h.d.log⟩,λp hp=>?_,h.l0,h.l1⟩;rcases List.mem_append.1 hp with hp | hp
 ·exact h.len p (zWQ hp)
 ·exact h.len p (zWw hp)
theorem M1{n:Nat}{w:World}(hn:n<=1000)(h:M.DrN n w)(k:Nat):M.DrN (n+1) (yS w k):=by
 unfold yS
 split
 ·rename_i p hp;have hpi:=h.d.wf.net p (zQX hp);obtain ⟨j,e,hj⟩:=Mc hpi.t;have hpl:=Qw h k;unfold Md
  split
  ·rename_i x d hx hd;rw [e,zQQ] at hx hd ⊢;have g:=Sp (p:=p) hj (hpl.d.wf.nodes j x hx) (hpl.d.wf.disks j d hd) hpi;exact Qt hn (VG hpl g.1) g.2.1 (Vo _ _) g.2.2
  ·exact zq hpl
 ·exact zq h
theorem Qx{n:Nat}{w:World}(h:M.DrN n w)(hl:w.bx.length < 400){p:ag}(hp:M.PkIn w.fT p)(hb:p.fB.length<=1000+(n+1)):M.DrN (n+1) ⟨w.fC,w.fT,w.ce,w.bX,w.fN,w.fD,w.bx++[p],w.cu,w.bn⟩:=by
 refine ⟨⟨⟨h.d.wf.t,h.d.wf.nl,h.d.wf.dl,h.d.wf.nodes,h.d.wf.disks,λq hq=>?_,by simp; omega⟩,h.d.ol,h.d.old,h.d.new,h.d.log⟩,λq hq=>?_,h.l0,by have:=h.l1; show w.bn<=_; omega⟩
 ·rcases List.mem_append.1 hq with hq | hq
  ·exact h.d.wf.net q hq
  ·simp only [zQx] at hq;subst hq;exact hp
 ·rcases List.mem_append.1 hq with hq | hq
  ·have:=h.len q hq;omega
  ·simp only [zQx] at hq;subst hq;exact hb
theorem pV{z:Int}{m:Nat}(h:ar z 0 ((m:Int) - 1)=true):∃ j:Nat,z=j/\j < m:=by
 have:=cd h;exact ⟨z.toNat,by omega,by omega⟩
theorem WM{u:Nat}(hu:1099511627776<=u){n:Nat}(hn:n<=1000){w:World}(h:M.DrN n w){e:cX}(hb:aq e.fP.fB)(hl:e.fP.fB.length<=1000+(n+1)):Ev (sA u w e) λv=>M.DrN (n+1) v.2:=by
 have up:=H8 h.d.wf;have nl:=h.d.wf.nl;have dl:=h.d.wf.dl;have pl:=h.d.wf.len;have get:∀ {j:Nat},j < w.fT.cf.length->∃ x d,w.fN[j]?=some x/\w.fD[j]?=some d:=λ{j} hj=>⟨_,_,sX (by omega),sX (by omega)⟩;have none_:Ev (some (false,w)) λv=>M.DrN (n+1) v.2:=cn (zq h);unfold sA;rw [cJ (by omega) (by omega),cJ (by omega) (by omega)];refine ga (bL u e.fN 0 _) (ga (bL u e.fN 0 _) ?_);refine b5 (λ_=>b5 (λe1=>?_) (λ_=>?_)) (λ_=>?_)
 ·obtain ⟨j,ej,hj⟩:=pV e1;rw [ej];refine ga (JQ hu h.d.wf (by omega)) ?_;unfold ri;exact cn (M0 hn h (k:=j) (by omega))
 ·unfold ri;exact cn (zq h)
 refine b5 (λ_=>b5 (λe1=>?_) (λ_=>?_)) (λ_=>?_)
 ·obtain ⟨j,ej,hj⟩:=pV e1;rw [ej];refine ga (JR hu h.d.wf hj) ?_;unfold rj;exact cn (M1 hn h j)
 ·unfold rj;exact cn (zq h)
 refine b5 (λ_=>b5 (λe1=>?_) (λ_=>?_)) (λ_=>?_)
 ·obtain ⟨j,ej,hj⟩:=pV e1;rw [ej];have l1:=h.l1;have l0:=h.l0;rw [db (show j < 9223372036854775807 by omega),cq (show -9223372036854775808<=w.bn+1 by omega) (show w.bn+1<=9223372036854775807 by omega)];refine lw (by simp [cE]; omega) (lw (by simp; omega) (lw (by simp [cE]; omega) (lw (by simp; omega) ?_)));unfold rk;refine cn ?_;have hp:=Qw h j;refine ⟨⟨⟨h.d.wf.t,nl,dl,h.d.wf.nodes,h.d.wf.disks,λp hp=>?_,?_⟩,h.d.ol,h.d.old,h.d.new,h.d.log⟩,λp hp=>?_,by show 0<=w.bn+1; omega,by show w.bn+1<=_; omega⟩
  ·simp only [zQy,zWJ] at hp;rcases hp with hp | hp
   ·exact h.d.wf.net p (zWQ (zWw hp))
   ·exact h.d.wf.net p (zWQ (zWw hp))
  ·simp;omega
  ·simp only [zQy,zWJ] at hp;have:p∈w.bx:=by
    rcases hp with hp | hp
    ·exact zWQ (zWw hp)
    ·exact zWQ (zWw hp)
   have:=h.len p this;omega
 ·unfold rk;exact cn (zq h)
 refine b5 (λ_=>?_) (λ_=>?_)
 ·have j4:∀ x:Bool,(x=false->w.bx.length < 400/\ar e.fN 0 ((w.bx.length:Int) - 1)=true)->Ev (mq u x e w) λv=>M.DrN (n+1) v.2:=by
   intro x hx;unfold mq;refine b5 (λ_=>none_) (λe2=>?_);obtain ⟨a1,a2⟩:=hx e2;obtain ⟨j,ej,hj⟩:=pV a2;rw [ej];have hp:=sX hj;have hpi:=h.d.wf.net _ (zQX hp);have hpb:=hpi.w.2;have hpl:=h.len _ (zQX hp);refine ga (jK _ j hp) (lw (by simp; omega) (lw (by simp; omega) (cn ?_)));exact Qx h a1 ⟨by simpa [lG] using hpi.w,hpi.f,hpi.t⟩ (by simp; omega)
  refine b5 (λ_=>j4 _ (λe=>by cases e)) (λe1=>j4 _ λe2=>⟨?_,by simpa using e1⟩);simp at e2;omega
 refine b5 (λ_=>?_) (λ_=>?_)
 ·have j5:∀ x:Bool,(x=false->ar e.fN 0 ((w.fN.length:Int) - 1)=true)->Ev (ko u x e w) λv=>M.DrN (n+1) v.2:=by
   intro x hx;unfold ko;refine b5 (λ_=>none_) (λe2=>?_);obtain ⟨j,ej,hj⟩:=pV (hx e2);rw [ej];obtain ⟨y,d,hy,hd⟩:=get (j:=j) (by omega);refine ga (jK _ j hy) (ga rfl (ga (jK _ j hy) (ga (jK _ j hd) (ga (r:=zI u d e.fS) (v:=zh d e.fS) ?_ (ga (jK _ j hd) (cn ?_))))))
   ·unfold zI;rw [Ot hu (h.d.wf.disks j d hd).o];rfl
   ·rw [zQQ];exact zq (Qv h ⟨⟨by simp,⟨by simp [aq],by simp⟩,by simp,OV⟩,⟨by simp [dH],by simp [dH]⟩,λz hz=>by simp [dH] at hz,λ_=>by unfold gy ar; simp; omega⟩ (Vr (h.d.wf.disks j d hd) _))
  refine b5 (λ_=>j5 _ (λe=>by cases e)) (λe1=>b5 (λ_=>j5 _ (λe=>by cases e)) (λ_=>?_));have e1:ar e.fN 0 ((w.fN.length:Int) - 1)=true:=by simpa using e1
  obtain ⟨j,ej,hj⟩:=pV e1;obtain ⟨y,d,hy,hd⟩:=get (j:=j) (by omega);rw [show cN w.fN e.fN=some y by rw [ej]; exact jK _ j hy];exact j5 _ λ_=>e1
 refine b5 (λ_=>?_) (λ_=>?_)
 ·have j6:∀ x:Bool,(x=false->ar e.fN 0 ((w.fN.length:Int) - 1)=true/\e.fN≠0)->Ev (kp u x e w) λv=>M.DrN (n+1) v.2:=by
   intro x hx;unfold kp;refine b5 (λ_=>none_) (λe2=>?_);obtain ⟨j,ej,hj⟩:=pV (hx e2).1;have h0:0 < j:=by have:=(hx e2).2; omega
   rw [ej];obtain ⟨y,d,hy,hd⟩:=get (j:=j) (by omega);refine ga (Ao hu (by omega) _) (ga (jK _ j hy) (cn ?_));rw [zQQ];exact zq (VG h (Sq h.d.wf.t h0 (by omega)))
  refine b5 (λ_=>j6 _ (λe=>by cases e)) (λe1=>b5 (λ_=>j6 _ (λe=>by cases e)) (λe0=>?_));have e1:ar e.fN 0 ((w.fN.length:Int) - 1)=true:=by simpa using e1
  obtain ⟨j,ej,hj⟩:=pV e1;obtain ⟨y,d,hy,hd⟩:=get (j:=j) (by omega);rw [show cN w.fN e.fN=some y by rw [ej]; exact jK _ j hy];exact j6 _ λ_=>⟨e1,by simpa using e0⟩
 refine b5 (λ_=>?_) (λ_=>none_);have j7:∀ x:Bool,(x=false->w.bx.length < 400/\ar e.fP.cB 0 ((w.fN.length:Int) - 1)=true/\ar e.fP.pW 0 ((w.fN.length:Int) - 1)=true)->Ev (ms u x e w) λv=>M.DrN (n+1) v.2:=by
  intro x hx;unfold ms;refine b5 (λ_=>none_) (λe2=>?_);obtain ⟨a1,a2,a3⟩:=hx e2;refine lw (by simp; omega) (lw (by simp; omega) (cn ?_));rw [nl] at a2 a3;exact Qx h a1 ⟨⟨by simpa using hb,by simp; omega⟩,a2,a3⟩ (by simp; omega)
 have nodes:rh u w e.fP=some (ar e.fP.cB 0 ((w.fN.length:Int) - 1) && ar e.fP.pW 0 ((w.fN.length:Int) - 1)):=by
  unfold rh;rw [cJ (by omega) (by omega),bL,bL];simp only [wk]
  cases ar e.fP.cB 0 ((w.fN.length:Int) - 1) <;> rfl
 refine ga nodes (b5 (λ_=>j7 _ (λe=>by cases e)) (λe1=>j7 _ λe2=>?_));simp only [Bool.not_eq_false',sk] at e1;simp at e2;exact ⟨by omega,e1.1,e1.2⟩
theorem Mi{u:Nat}(hu:1099511627776<=u){c:aK}(hc:Cu c):Ev (p8 u c) λv=>M.MsgWf v.1/\Cu v.2:=by
 unfold p8;refine bE (cR u hc _) λr hr=>b5 (λ_=>?_) (λ_=>b5 (λ_=>?_) (λ_=>b5 (λ_=>?_) (λ_=>?_)))
 ·exact bE (Tl hu hr.2) λq hq=>cn ⟨⟨by have:=hq.1.n; show q.1.aJ.length<=_; omega,hq.1.w,by simp [aq],by simp⟩,hq.2⟩
 ·exact bE (Ut u hr.2) λa ha=>bE (cR u ha _) λb hb=>bE (cR u hb.2 _) λd hd=>ga rfl (cn ⟨EJ _ _ _,hd.2⟩)
 ·refine bE (DH (yO hu hr.2 (n:=5) (by omega))) λa ha=>lw (by have:=ha.1.1; simp; omega) (bE (cR u ha.2 _) λb hb=>bE (cR u hb.2 _) λd hd=>?_);have h1:=ha.1.1;refine ga (wa u _ _ (by simp; omega)) (cn ⟨AT _ _ ?_ (by simp; omega),hd.2⟩);intro x hx;rcases List.mem_append.1 hx with hx | hx
  ·simp only [zXh,zZj,or_false] at hx;subst hx;omega
  ·exact ha.1.2 x hx
 ·exact bE (cR u hr.2 _) λb hb=>cn ⟨⟨by simp,OV,by simp [aq],by simp⟩,hb.2⟩
theorem RL{u:Nat}(hu:1099511627776<=u){c:aK}(hc:Cu c){n:Nat}(hn:n<=100):Ev (wE u c n) λv=>m8 n v.1/\Cu v.2:=by
 have loop:∀ (m k i:Nat) (xs:List Int) (c:aK),i+m=n->m < k->xs.length=i->aq xs->Cu c->Ev (gB u k n xs (i:Int) c.fB c.fI c.fH) λv=>m8 n v.1/\Cu v.2:=by
  intro m
  induction m with
  | zero =>
   intro k i xs c hi hk h1 h2 hc;obtain ⟨k,rfl⟩:∃ j,k=j+1:=⟨k - 1,by omega⟩;unfold gB;have:¬ (i:Int) < (n:Int):=by omega
   simp only [this,decide_false,cond_false,rL];exact cn ⟨⟨by show xs.length<=n; omega,h2⟩,hc⟩
  | succ m ih =>
   intro k i xs c hi hk h1 h2 hc;obtain ⟨k,rfl⟩:∃ j,k=j+1:=⟨k - 1,by omega⟩;unfold gB;have hlt:(i:Int) < (n:Int):=by omega
   simp only [hlt,decide_true,cond_true];refine bE (DH (Ag u (zp hc))) λq hq=>lw (by simp; omega) ?_;rw [db (show i < 9223372036854775807 by omega)];refine ih k (i+1) _ q.2 (by omega) (by omega) (by simp [h1]) ?_ hq.2;intro x hx;rcases List.mem_append.1 hx with hx | hx
   ·exact h2 x hx
   ·simp only [zXh,zZj,or_false] at hx;subst hx;exact S3 _
 exact loop n u 0 [] c (by omega) (by omega) rfl (by simp [aq]) hc
theorem IH{u:Nat}(hu:1099511627776<=u){w:World}(hl:w.bx.length<=1048576){e:cX}(hb:aq e.fP.fB)(hn:e.fP.fB.length<=1048576):Ev (oo u w e) λ_=>True:=by
 unfold oo;have j1:∀ x:Bool,Ev (kE u x w e) λ_=>True:=by
  intro x;unfold kE;exact b5 (λ_=>cn trivial) (λ_=>Us (EA hu hl e) trivial)
 exact b5 (λ_=>cn trivial) (λ_=>ga (xS hu hb hn) (b5 (λ_=>j1 _) (λ_=>b5 (λ_=>j1 _) (λ_=>j1 _))))
def II(n:Nat)(e:cX):Prop:=aq e.fP.fB/\e.fP.fB.length<=1000+(n+1)
theorem Qy{u:Nat}(hu:1099511627776<=u){n:Nat}(hn:n<=1000){w:World}(h:M.DrN n w){c:aK}(hc:Cu c):Ev (qZ u c w) λv=>II n v.1/\Cu v.2:=by
 have pl:=h.d.wf.len;unfold qZ;refine bE (cR u hc _) λr1 h1=>bE (cR u h1.2 _) λr2 h2=>bE (Mi hu h2.2) λr3 h3=>ga (Cr hu h3.1) ?_;have pb:=wO h3.1;have pn:=EM r3.1;have j3:∀ (b:List Int) (c:aK),m8 (1000+(n+1)) b->Cu c->Ev (qc u c.fB c.fI c.fH r1 r2 b) λv=>II n v.1/\Cu v.2:=λb c hb hc=>cn ⟨⟨hb.2,hb.1⟩,hc⟩;have nil_:m8 (1000+(n+1)) ([]:List Int):=⟨by simp,by simp [aq]⟩;have j2:∀ (b:List Int) (c:aK),m8 (1000+(n+1)) b->Cu c->Ev (mI u r1 r2 b w c.fB c.fI c.fH) λv=>II n v.1/\Cu v.2:=λb c hb hc=>by
  have:=hb.1;unfold mI;exact bE (IH hu (by omega) (e:=cX.mk 7 0 0 (ag.mk r1.1 r2.1 b)) hb.2 (by show b.length<=_; omega)) λq _=>b5 (λ_=>j3 _ _ nil_ hc) (λ_=>j3 _ _ hb hc)
 have j1:∀ (b:List Int) (c:aK),m8 (1000+(n+1)) b->Cu c->Ev (mJ u r1 r2 b w c.fB c.fI c.fH) λv=>II n v.1/\Cu v.2:=λb c hb hc=>by
  have:=hb.1;unfold mJ;exact bE (IH hu (by omega) (e:=cX.mk 7 0 0 (ag.mk r1.1 r2.1 b)) hb.2 (by show b.length<=_; omega)) λq _=>b5 (λ_=>bE (RL hu (zp hc) (n:=3) (by omega)) λx hx=>j2 _ _ (Gy hx.1 (by omega)) hx.2) (λ_=>j2 _ _ hb hc)
 have j4:∀ (x:Bool) (c:aK),(x=true->0 < w.bx.length)->Cu c->Ev (mK u x r1 r2 (fm r3.1) w c.fB c.fI c.fH) λv=>II n v.1/\Cu v.2:=λx c hx hc=>by
  unfold mK;refine b5 (λe=>?_) (λ_=>j1 _ _ ⟨by omega,pb⟩ hc);have h0:=hx e;refine bE (cR u (zp hc) _) λq hq=>?_;have hq1:=hq.1.2 (by omega);have hq0:=hq.1.1;obtain ⟨j,ej,hj⟩:∃ j:Nat,q.1=j/\j < w.bx.length:=⟨q.1.toNat,by omega,by omega⟩;rw [ej];have hp:=sX hj;have hpi:=h.d.wf.net _ (zQX hp);have hpl:=h.len _ (zQX hp);exact ga (jK _ j hp) (bE (DH (Mh u hq.2 (N:=1000+n) (by omega) hpl hpi.w.1)) λz hz=>j1 _ _ (Gy hz.1 (by omega)) hz.2)
 refine b5 (λe=>bE (Gw u h3.2 2) λq hq=>j4 _ _ (λ_=>by simp at e; omega) hq) (λ_=>j4 _ _ (λe=>by cases e) h3.2)
theorem RM{u:Nat}(hu:1099511627776<=u){n:Nat}(hn:n<=1000){w:World}(h:M.DrN n w){c:aK}(hc:Cu c):Ev (s9 u c w) λv=>II n v.1/\Cu v.2:=by
 have nil_:∀ a b s,II n (cX.mk a b s (ag.mk 0 0 [])):=λa b s=>⟨by simp [aq],by simp⟩;unfold s9;refine bE (cR u hc _) λr1 h1=>bE (cR u h1.2 _) λr2 h2=>b5 (λ_=>bE (Cx u h2.2 (by simp)) λq hq=>cn ⟨nil_ _ _ _,hq.2⟩) (λ_=>b5 (λ_=>cn ⟨nil_ _ _ _,h2.2⟩) (λ_=>b5 (λ_=>bE (Qy hu hn h h2.2) λq hq=>cn hq) (λ_=>?_)));have j1:∀ (x:Bool) (c:aK),Cu c->Ev (nT u r1 x w c.fB c.fI c.fH) λv=>II n v.1/\Cu v.2:=λx c hc=>by
  unfold nT;refine b5 (λ_=>ga (Ds u _ _) (bE (cR u (zp hc) _) λa ha=>bE (cR u ha.2 _) λb hb=>b5 (λ_=>cn ⟨nil_ _ _ _,hb.2⟩) (λ_=>b5 (λ_=>cn ⟨nil_ _ _ _,hb.2⟩) (λ_=>cn ⟨nil_ _ _ _,hb.2⟩)))) (λ_=>cn ⟨nil_ _ _ _,hc⟩)
 exact b5 (λ_=>bE (Gw u h2.2 3) λq hq=>j1 _ _ hq) (λ_=>j1 _ _ h2.2)
theorem OX{u:Nat}(hu:1099511627776<=u){r1:World×aK}:∀ (m k:Nat) (l:List cX) (b:Int) (c:aK) (w:World),l.length+m=400->m < k->M.DrN l.length w->Cu c ->
  Ev (dy u k l b c.fB c.fI c.fH w.fC.aC w.fC.aZ w.fC.aQ w.fC.aX w.fT.cf w.ce w.bX w.fN w.fD w.bx w.cu w.bn r1) λv=>M.DrN 400 v.2.2.1/\Cu v.2.2.2:=by
 have up:∀ (j n:Nat) {w:World},n+j=400->M.DrN n w->M.DrN 400 w:=λj=>by
  induction j with
  | zero=>intro n w h hd; exact (show n=400 by omega) ▸ hd
  | succ j ih=>intro n w h hd; exact ih (n+1) (by omega) (zq hd)
 intro m
 induction m with
 | zero =>
  intro k l b c w hl hk h hc;obtain ⟨k,rfl⟩:∃ j,k=j+1:=⟨k - 1,by omega⟩;unfold dy;have j3:∀ x:Bool,x=false->Ev (hP u (λz0 z1 z2 z3 z4 z5 z6 z7 z8 z9 z10 z11 z12 z13 z14 z15 z16 z17=>dy u k z0 z1 z2 z3 z4 z5 z6 z7 z8 z9 z10 z11 z12 z13 z14 z15 z16 z17) l b x c.fB c.fI c.fH w.fC.aC w.fC.aZ w.fC.aQ w.fC.aX w.fT.cf w.ce w.bX w.fN w.fD w.bx w.cu w.bn r1) λv=>M.DrN 400 v.2.2.1/\Cu v.2.2.2:=by
   intro x hx;unfold hP tp;exact b5 (λe=>by rw [hx] at e; cases e) (λ_=>cn ⟨up _ _ hl h,hc⟩)
  exact b5 (λ_=>j3 _ (by simp; omega)) (λ_=>j3 _ rfl)
 | succ m ih =>
  intro k l b c w hl hk h hc;obtain ⟨k,rfl⟩:∃ j,k=j+1:=⟨k - 1,by omega⟩;unfold dy;have j3:∀ x:Bool,Ev (hP u (λz0 z1 z2 z3 z4 z5 z6 z7 z8 z9 z10 z11 z12 z13 z14 z15 z16 z17=>dy u k z0 z1 z2 z3 z4 z5 z6 z7 z8 z9 z10 z11 z12 z13 z14 z15 z16 z17) l b x c.fB c.fI c.fH w.fC.aC w.fC.aZ w.fC.aQ w.fC.aX w.fT.cf w.ce w.bX w.fN w.fD w.bx w.cu w.bn r1) λv=>M.DrN 400 v.2.2.1/\Cu v.2.2.2:=by
   intro x;unfold hP tp;refine b5 (λe=>?_) (λ_=>cn ⟨up _ _ hl h,hc⟩);refine bE (RM hu (by omega) (w:=w) h (zp hc)) λq hq=>lw (by simp; omega) (bE (WM hu (by omega) (w:=w) h (e:=q.1) hq.1.1 hq.1.2) λv hv=>?_);exact ih k (l++[q.1]) _ q.2 v.2 (by simp; omega) (by omega) (by simpa using hv) hq.2
  exact b5 (λ_=>j3 _) (λ_=>j3 _)
theorem Tq{u:Nat}(hu:1099511627776<=u){c:aK}(hc:Cu c)(n:Int):Ev (vk u c n) λv=>M.DrN 400 v.2.2.1/\Cu v.2.2.2:=by
 unfold vk;refine bE (Tp hu hc) λr1 h1=>ga (Bm hu (Uv h1.1.d)) (bE (cR u h1.2 _) λr3 h3=>?_);exact OX hu 400 u [] _ r3.2 r1.1 (by simp) (by omega) (Vq h1.1.d h1.1.net h1.1.lost) h3.2
theorem Qz{u:Nat}(hu:1099511627776<=u){c:aK}(hc:Cu c)(n:Int):Ev (rm u c n) λv=>M.DrN 400 v.1/\Cu v.2:=by
 unfold rm;exact bE (Tq hu hc n) λr hr=>cn hr
structure M.AnyW (w:World):Prop where
 cp:M.WCp w
 t:w.fT.cf.length<=7
 nl:w.fN.length<=7
 dl:w.fD.length<=7
 ol:w.bX.length<=7
 pl:w.bx.length<=401
 ll:w.cu.length<=3000
 l0:-1<=w.bn
 l1:w.bn<=419430800
theorem Vs{w:World}(h:M.DrN 400 w):M.AnyW w:=by
 have up:=H8 h.d.wf;have:=h.d.wf.nl;have:=h.d.wf.dl;have:=h.d.ol;have:=h.d.wf.len;have:=h.l0;have:=h.l1;exact ⟨Uv h.d,by omega,by omega,by omega,by omega,by omega,h.d.log,by omega,by omega⟩
theorem GA{w:World}(h:M.AnyW w){x:aH}(hx:M.NodWf x)(k:Nat):M.AnyW ⟨w.fC,w.fT,w.ce,w.bX,w.fN.set k x,w.fD,w.bx,w.cu,w.bn⟩ :=
 ⟨⟨h.cp.t,h.cp.new,h.cp.ol,h.cp.old,by simpa using h.cp.nl,λy hy=>by
  rcases zYZ hy with hy | rfl
  ·exact h.cp.n y hy
  ·exact hx,h.cp.dl,h.cp.d,h.cp.pl,h.cp.p,h.cp.ll⟩,h.t,by simpa using h.nl,h.dl,h.ol,h.pl,h.ll,h.l0,h.l1⟩
theorem Tr{u:Nat}(hu:1099511627776<=u){c:aK}(hc:Cu c)(n:Int):Ev (sJ u c n) λv=>M.AnyW v.1/\Cu v.2:=by
 unfold sJ;refine bE (Qz hu hc n) λr1 h1=>bE (cR u h1.2 _) λr2 h2=>bE (cR u h2.2 _) λr3 h3=>?_;have hw:=Vs h1.1;have up:=H8 h1.1.d.wf;have nl:=h1.1.d.wf.nl;have dl:=h1.1.d.wf.dl;have ol:=h1.1.d.ol;have a0:=h2.1.1;have a1:=h2.1.2 (by omega);obtain ⟨j,ej,hj⟩:∃ j:Nat,r2.1=j/\j < r1.1.fT.cf.length:=⟨r2.1.toNat,by omega,by omega⟩;have hn:=sX (l:=r1.1.fN) (i:=j) (by omega);have hd:=sX (l:=r1.1.fD) (i:=j) (by omega);have ho:=sX (l:=r1.1.bX) (i:=j) (by omega);have hnw:=hw.cp.n _ (zQX hn);have hob:=hw.cp.old _ (zQX ho);have hol:=(h1.1.d.old _ (zQX ho)).1;have pl:=h1.1.d.wf.len;have fin:∀ (c:aK) (w:World),w.cu=r1.1.cu->M.AnyW w->Cu c->Ev (da u c.fB c.fI c.fH w.fC.aC w.fC.aZ w.fC.aQ w.fC.aX w.fT.cf w.ce w.bX w.fN w.fD w.bx r1 w.bn) λv=>M.AnyW v.1/\Cu v.2:=λc w hl h hc=>by
  unfold da;rw [<- hl];exact cn ⟨h,hc⟩
 rw [ej];refine b5 (λ_=>bE (To u h3.2) λq hq=>fin q.2 ⟨q.1,r1.1.fT,r1.1.ce,r1.1.bX,r1.1.fN,r1.1.fD,r1.1.bx,r1.1.cu,r1.1.bn⟩ rfl ⟨⟨hw.cp.t,hw.cp.new,hw.cp.ol,hw.cp.old,hw.cp.nl,hw.cp.n,hw.cp.dl,hw.cp.d,hw.cp.pl,hw.cp.p,hw.cp.ll⟩,hw.t,hw.nl,hw.dl,hw.ol,hw.pl,hw.ll,hw.l0,hw.l1⟩ hq) (λ_=>?_);refine b5 (λ_=>bE (Tj u hu h3.2) λq hq=>fin q.2 ⟨r1.1.fC,q.1,r1.1.ce,r1.1.bX,r1.1.fN,r1.1.fD,r1.1.bx,r1.1.cu,r1.1.bn⟩ rfl ⟨⟨by show q.1.cf.length<=_; omega,hw.cp.new,hw.cp.ol,hw.cp.old,hw.cp.nl,hw.cp.n,hw.cp.dl,hw.cp.d,hw.cp.pl,hw.cp.p,hw.cp.ll⟩,hq.1,hw.nl,hw.dl,hw.ol,hw.pl,hw.ll,hw.l0,hw.l1⟩ hq.2) (λ_=>?_);refine b5 (λ_=>bE (RH hu h3.2) λq hq=>fin q.2 ⟨r1.1.fC,r1.1.fT,q.1,r1.1.bX,r1.1.fN,r1.1.fD,r1.1.bx,r1.1.cu,r1.1.bn⟩ rfl ⟨⟨hw.cp.t,by have:=hq.1.1; show q.1.length<=_; omega,hw.cp.ol,hw.cp.old,hw.cp.nl,hw.cp.n,hw.cp.dl,hw.cp.d,hw.cp.pl,hw.cp.p,hw.cp.ll⟩,hw.t,hw.nl,hw.dl,hw.ol,hw.pl,hw.ll,hw.l0,hw.l1⟩ hq.2) (λ_=>?_);refine b5 (λ_=>bE (cR u h3.2 _) λq hq=>ga (jK _ j hn) ?_) (λ_=>?_)
 ·exact fin q.2 ⟨r1.1.fC,r1.1.fT,r1.1.ce,r1.1.bX,r1.1.fN.set (sY (j:Int)) (aH.mk (r1.1.fN[j].gW) (r1.1.fN[j].bP) r1.1.fN[j].bJ (r1.1.fN[j].aD) r1.1.fN[j].bD (q.1) r1.1.fN[j].bj r1.1.fN[j].bB),r1.1.fD,r1.1.bx,r1.1.cu,r1.1.bn⟩ rfl (GA (x:=aH.mk (r1.1.fN[j].gW) (r1.1.fN[j].bP) r1.1.fN[j].bJ (r1.1.fN[j].aD) r1.1.fN[j].bD (q.1) r1.1.fN[j].bj r1.1.fN[j].bB) hw ⟨hnw.s,hnw.b,hnw.k,hnw.w⟩ _) hq.2
 refine b5 (λ_=>bE (cR u h3.2 _) λq hq=>ga (jK _ j hn) ?_) (λ_=>?_)
 ·exact fin q.2 ⟨r1.1.fC,r1.1.fT,r1.1.ce,r1.1.bX,r1.1.fN.set (sY (j:Int)) (aH.mk (r1.1.fN[j].gW) (cW .i64 q.1 1) r1.1.fN[j].bJ (r1.1.fN[j].aD) r1.1.fN[j].bD (r1.1.fN[j].bp) r1.1.fN[j].bj r1.1.fN[j].bB),r1.1.fD,r1.1.bx,r1.1.cu,r1.1.bn⟩ rfl (GA (x:=aH.mk (r1.1.fN[j].gW) (cW .i64 q.1 1) r1.1.fN[j].bJ (r1.1.fN[j].aD) r1.1.fN[j].bD (r1.1.fN[j].bp) r1.1.fN[j].bj r1.1.fN[j].bB) hw ⟨hnw.s,hnw.b,hnw.k,hnw.w⟩ _) hq.2
 refine b5 (λ_=>bE (Uu hu h3.2) λq hq=>ga (jK _ j hd) ?_) (λ_=>?_)
 ·refine fin q.2 ⟨r1.1.fC,r1.1.fT,r1.1.ce,r1.1.bX,r1.1.fN,r1.1.fD.set (sY (j:Int)) q.1,r1.1.bx,r1.1.cu,r1.1.bn⟩ rfl ⟨⟨hw.cp.t,hw.cp.new,hw.cp.ol,hw.cp.old,hw.cp.nl,hw.cp.n,by simpa using hw.cp.dl,λy hy=>?_,hw.cp.pl,hw.cp.p,hw.cp.ll⟩,hw.t,hw.nl,by simpa using hw.dl,hw.ol,hw.pl,hw.ll,hw.l0,hw.l1⟩ hq.2;rcases zYZ hy with hy | rfl
  ·exact hw.cp.d y hy
  ·exact hq.1.o
 refine b5 (λ_=>bE (Wg hu h3.2) λq hq=>ga (jK _ j hn) ?_) (λ_=>?_)
 ·have:=hq.1.1;exact fin q.2 ⟨r1.1.fC,r1.1.fT,r1.1.ce,r1.1.bX,r1.1.fN.set (sY (j:Int)) (aH.mk (r1.1.fN[j].gW) (r1.1.fN[j].bP) r1.1.fN[j].bJ (q.1) r1.1.fN[j].bD (r1.1.fN[j].bp) r1.1.fN[j].bj r1.1.fN[j].bB),r1.1.fD,r1.1.bx,r1.1.cu,r1.1.bn⟩ rfl (GA (x:=aH.mk (r1.1.fN[j].gW) (r1.1.fN[j].bP) r1.1.fN[j].bJ (q.1) r1.1.fN[j].bD (r1.1.fN[j].bp) r1.1.fN[j].bj r1.1.fN[j].bB) hw ⟨by show q.1.aJ.length<=_; omega,hnw.b,hnw.k,hq.1.2⟩ _) hq.2
 refine b5 (λ_=>bE (cR u h3.2 _) λq hq=>bE (cR u hq.2 _) λz hz=>lw (by simp; omega) ?_) (λ_=>?_)
 ·refine fin z.2 ⟨r1.1.fC,r1.1.fT,r1.1.ce,r1.1.bX,r1.1.fN,r1.1.fD,r1.1.bx++[ag.mk (cW .i64 q.1 1) (cW .i64 z.1 1) []],r1.1.cu,r1.1.bn⟩ rfl ⟨⟨hw.cp.t,hw.cp.new,hw.cp.ol,hw.cp.old,hw.cp.nl,hw.cp.n,hw.cp.dl,hw.cp.d,by simp; omega,λy hy=>?_,hw.cp.ll⟩,hw.t,hw.nl,hw.dl,hw.ol,by simp; omega,hw.ll,hw.l0,hw.l1⟩ hz.2;rcases List.mem_append.1 hy with hy | hy
  ·exact hw.cp.p y hy
  ·simp only [zQx] at hy;subst hy;exact ⟨by simp [aq],by simp⟩
 refine b5 (λ_=>fin r3.2 ⟨r1.1.fC,r1.1.fT,r1.1.ce,r1.1.bX,r1.1.fN,r1.1.fD,r1.1.bx,r1.1.cu,-1⟩ rfl ⟨⟨hw.cp.t,hw.cp.new,hw.cp.ol,hw.cp.old,hw.cp.nl,hw.cp.n,hw.cp.dl,hw.cp.d,hw.cp.pl,hw.cp.p,hw.cp.ll⟩,hw.t,hw.nl,hw.dl,hw.ol,hw.pl,hw.ll,by simp,by simp⟩ h3.2) (λ_=>?_);refine b5 (λ_=>lw (by simp [cE]; omega) ?_) (λ_=>?_)
 ·refine fin r3.2 ⟨r1.1.fC,r1.1.fT,r1.1.ce,r1.1.bX,r1.1.fN,(r1.1.fD.take (sY (r1.1.fD.length:Int))).drop (sY 1),r1.1.bx,r1.1.cu,r1.1.bn⟩ rfl ⟨⟨hw.cp.t,hw.cp.new,hw.cp.ol,hw.cp.old,hw.cp.nl,hw.cp.n,by simp; omega,λy hy=>hw.cp.d y (zWQ (zWw hy)),hw.cp.pl,hw.cp.p,hw.cp.ll⟩,hw.t,hw.nl,by simp; omega,hw.ol,hw.pl,hw.ll,hw.l0,hw.l1⟩ h3.2
 refine b5 (λ_=>ga (jK _ j hn) (ga (jK _ j hn) ?_)) (λ_=>?_)
 ·exact fin r3.2 ⟨r1.1.fC,r1.1.fT,r1.1.ce,r1.1.bX,r1.1.fN.set (sY (j:Int)) (aH.mk (!r1.1.fN[j].gW) (r1.1.fN[j].bP) r1.1.fN[j].bJ (r1.1.fN[j].aD) r1.1.fN[j].bD (r1.1.fN[j].bp) r1.1.fN[j].bj r1.1.fN[j].bB),r1.1.fD,r1.1.bx,r1.1.cu,r1.1.bn⟩ rfl (GA (x:=aH.mk (!r1.1.fN[j].gW) (r1.1.fN[j].bP) r1.1.fN[j].bJ (r1.1.fN[j].aD) r1.1.fN[j].bD (r1.1.fN[j].bp) r1.1.fN[j].bj r1.1.fN[j].bB) hw ⟨hnw.s,hnw.b,hnw.k,hnw.w⟩ _) h3.2
 refine b5 (λ_=>ga (jK _ j ho) (lw (by simp; omega) (ga (jK _ j ho) ?_))) (λ_=>fin r3.2 r1.1 rfl hw h3.2);refine fin r3.2 ⟨r1.1.fC,r1.1.fT,r1.1.ce,r1.1.bX.set (sY (j:Int)) (a9.mk (r1.1.bX[j].fB++[1])),r1.1.fN,r1.1.fD,r1.1.bx,r1.1.cu,r1.1.bn⟩ rfl ⟨⟨hw.cp.t,hw.cp.new,by simpa using hw.cp.ol,λy hy=>?_,hw.cp.nl,hw.cp.n,hw.cp.dl,hw.cp.d,hw.cp.pl,hw.cp.p,hw.cp.ll⟩,hw.t,hw.nl,hw.dl,by simpa using hw.ol,hw.pl,hw.ll,hw.l0,hw.l1⟩ h3.2;rcases zYZ hy with hy | rfl
 ·exact hw.cp.old y hy
 ·simp;omega
theorem M2{u:Nat}(hu:1099511627776<=u){c:aK}(hc:Cu c):Ev (nX u c) λv=>(v.1.length<=4/\∀ p∈v.1,lG p)/\Cu v.2:=by
 unfold nX;refine bE (cR u hc _) λr hr=>?_;have a0:=hr.1.1;have a1:=hr.1.2 (by omega);have loop:∀ (m k:Nat) (xs:List ag) (c:aK),xs.length+m<=4->m < k->(∀ p∈xs,lG p)->Cu c->Ev (dI u k xs (m:Int) c.fB c.fI c.fH) λv=>(v.1.length<=4/\∀ p∈v.1,lG p)/\Cu v.2:=by
  intro m
  induction m with
  | zero =>
   intro k xs c hi hk h2 hc;obtain ⟨k,rfl⟩:∃ j,k=j+1:=⟨k - 1,by omega⟩;unfold dI;have:¬ ((0:Nat):Int) > 0:=by omega
   simp only [this,decide_false,cond_false,sB];exact cn ⟨⟨by show xs.length<=4; omega,h2⟩,hc⟩
  | succ m ih =>
   intro k xs c hi hk h2 hc;obtain ⟨k,rfl⟩:∃ j,k=j+1:=⟨k - 1,by omega⟩;unfold dI;have hlt:((m+1:Nat):Int) > 0:=by omega
   simp only [hlt,decide_true,cond_true];refine bE (Mi hu (zp hc)) λq hq=>bE (cR u hq.2 _) λa ha=>bE (cR u ha.2 _) λb hb=>ga (iX hu _ _ hq.1) (bE (Gw u hb.2 6) λo ho=>?_);have pw:=Cv a.1 b.1 hq.1;have pn:(iW a.1 b.1 q.1).fB.length<=1000:=WR _ _ _;have j3:∀ (z:List Int) (c:aK),aq z->z.length<=1048576->Cu c->Ev (lc u (λz0 z1 z2 z3 z4=>dI u k z0 z1 z2 z3 z4) xs ((m+1:Nat):Int) c.fB c.fI c.fH (iW a.1 b.1 q.1) z) λv=>(v.1.length<=4/\∀ p∈v.1,lG p)/\Cu v.2:=by
    intro z c hz hl hc;unfold lc;refine lw (by simp; omega) ?_;rw [cJ (by omega) (by omega),show ((m+1:Nat):Int) - 1=(m:Int) by omega];refine ih k _ c (by simp; omega) (by omega) (λp hp=>?_) hc;rcases List.mem_append.1 hp with hp | hp
    ·exact h2 p hp
    ·simp only [zQx] at hp;subst hp;exact ⟨hz,hl⟩
   exact b5 (λ_=>bE (DH (Mh u ho (N:=1000) (by omega) pn pw.1)) λz hz=>j3 _ _ hz.1.2 (by have:=hz.1.1; omega) hz.2) (λ_=>j3 _ _ pw.1 pw.2 ho)
 have e:r.1=((r.1.toNat:Nat):Int):=by omega
 rw [e];exact loop r.1.toNat u [] r.2 (by simp; omega) (by omega) (by simp) hr.2
theorem QA{u:Nat}(hu:1099511627776<=u){code:List Int}(h:code.length<=1048576):Ev (ro u code) λv=>M.AnyW v.1/\v.2.length<=4/\∀ p∈v.2,lG p:=by
 unfold ro wH;refine bE (bE (Wh hu h) λc hc=>bE (Tr hu hc 40) λq hq=>cn (p:=λv:aK×World=>M.AnyW v.2/\Cu v.1) ⟨hq.1,hq.2⟩) λr hr=>bE (M2 hu hr.2) λq hq=>cn ⟨hr.1,hq.1⟩
theorem Dc{u:Nat}(hu:1099511627776<=u){l:List ag}(hl:l.length<=1048576)(hb:∀ x∈l,lG x):mV u l=some l:=by
 unfold mV;rw [Bp u l _ u (by omega) (by omega),nH 1048576 l _ l 0 [] (λ_ h=>h) (by simp; omega)]
 ·rfl
 ·intro x i s k hx hs;unfold t7;rw [xX u (hb x hx)];simp only [wk];rw [bl (by simp; omega)]; rfl
theorem GB{u:Nat}(hu:1099511627776<=u){w:World}(h:M.WCp w):pr u w=some w:=by
 have h1:=h.t;have h2:=h.new;have h3:=h.nl;have h4:=h.dl;have h5:=h.ll;have h6:=h.ol;unfold pr hZ di;rw [bl (by simp; omega)];simp only [wk];rw [gu u (by omega),wk,Dc hu h.pl h.p,wk,bl (by simp; omega)];simp only [wk];rw [C2 u w _ _ _ _ _ u (by omega) (by omega),nH 1048576 w.bX _ w.bX 0 [] (λ_ h=>h) (by simp; omega)]
 ·unfold wm oO;rw [C1 u w _ _ _ _ _ _ u (by omega) (by omega),nH 1048576 w.fN _ w.fN 0 [] (λ_ h=>h) (by simp; omega)]
  ·unfold wj oN;rw [C0 u w _ _ _ _ _ _ _ u (by omega) (by omega),nH 1048576 w.fD _ w.fD 0 [] (λ_ h=>h) (by simp; omega)]
   ·rfl
   ·intro x i s k hx hs;unfold wi;rw [HN hu (h.d x hx)];simp only [wk];rw [bl (by simp; omega)]; rfl
  ·intro x i s k hx hs;unfold wl;rw [HV u (h.n x hx)];simp only [wk];rw [bl (by simp; omega)]; rfl
 ·intro x i s k hx hs;have:=h.old x hx;unfold wn;rw [gu u (by omega)];simp only [wk];rw [bl (by simp; omega)]; rfl
theorem EQ{u:Nat}(hu:1099511627776<=u){a:List Int}(h:a.length<=1048576):rr u a a=some true:=by
 unfold rr;simp only [bne_self_eq_false,cond_false];rw [DS u a a () u (by omega) (by omega),oF (λx i k hx=>by unfold xt; rw [b9,hx]; simp only [wk,bne_self_eq_false,cond_false]) a 0 rfl];rfl
theorem Dd{u:Nat}(hu:1099511627776<=u){w:World}(h:M.WCp w):pD u w w=some true:=by
 have h1:=h.t;have h2:=h.new;have h3:=h.nl;have h4:=h.dl;have h5:=h.ll;have h6:=h.ol;have h7:=h.pl;unfold pD;simp only [beq_self_eq_true,bne_self_eq_false,zQW,cond_false,EQ hu h1,lp hu h2,ua hu (show w.bx.length<=1048577 by omega) (λp hp=>(h.p p hp).2),wk,dB];rw [C7 u w w () u (by omega) (by omega),oF (λx i k hx=>by
  unfold ww;simp only [b9,hx,wk,lp hu (h.old x (zQX hx)),zQW,cond_false]) w.bX 0 rfl]
 unfold wv oT;rw [C6 u w w () u (by omega) (by omega),oF (λx i k hx=>by
  unfold wu;simp only [b9,hx,wk,EP hu (h.n x (zQX hx)),zQW,cond_false]) w.fN 0 rfl]
 unfold wt oS;rw [C5 u w w () u (by omega) (by omega),oF (λx i k hx=>by
  unfold ws;simp only [b9,hx,wk,Ey hu (h.d x (zQX hx)),zQW,cond_false]) w.fD 0 rfl]
 unfold wq oQ;rw [C4 u w w () u (by omega) (by omega),oF (λx i k hx=>by
  unfold wo;simp only [b9,hx,wk,beq_self_eq_true,zQW,cond_false]) w.cu 0 rfl]
 rfl
def m9(p:ag):Bool:=(dR p.fB).2 && ((dR p.fB).1.bt == 3)
theorem Mj{u:Nat}(hu:1099511627776<=u){l:List ag}(hl:l.length<=1048576)(hp:∀ p∈l,lG p):m2 u l=some (l.countP m9:Int):=by
 unfold m2;rw [Bv u l 0 u (by omega) (by omega)];have:∀ (xs:List ag) (i n:Nat),(∀ p∈xs,lG p)->n+xs.length<=1048576->bU (t9 u l) (oK u l) xs i (n:Int)=some ((n+xs.countP m9:Nat):Int):=by
  intro xs
  induction xs with
  | nil=>intro i n _ _; rfl
  | cons x xs ih =>
   intro i n hx hn;simp only [zQV] at hn;have hq:=hx x (by simp);have hr:∀ p∈xs,lG p:=λp h=>hx p (by simp [h]);simp only [bU,oK,Ck hu hq.1 hq.2,wk,ik,my];rw [List.countP_cons,db (show n < 9223372036854775807 by omega)];unfold m9
   cases (dR x.fB).2 with
   | false =>
    simp only [cond_false,Bool.false_and,zQk,if_false,zXY];exact ih (i+1) n hr (by omega)
   | true =>
    cases (dR x.fB).1.bt == 3 with
    | false =>
     simp only [cond_true,cond_false,Bool.and_false,zQk,if_false,zXY];exact ih (i+1) n hr (by omega)
    | true =>
     simp only [cond_true,zXH,if_true];have:=ih (i+1) (n+1) hr (by omega);rw [this];have:n+1+List.countP m9 xs=n+(List.countP m9 xs+1):=by omega
     rw [this];rfl
 have:=this l 0 0 hp (by omega)
 simpa using this
theorem RN:∀ (l:List ag) (s:List ag×List bR×Int),-1<=s.2.2->s.2.2<=1099511627776->l.length<=1048576 ->
  (∃ t,(l.foldl bu s).1=s.1++t/\∀ p∈t,p∈l)/\((l.foldl bu s).1.length:Int)+(l.foldl bu s).2.2=s.1.length+s.2.2+l.length/\s.2.1.length<=(l.foldl bu s).2.1.length/\(l.foldl bu s).2.1.length<=s.2.1.length+l.countP m9:=by
 suffices h:∀ (l:List ag) (s:List ag×List bR×Int),-1<=s.2.2->s.2.2+l.length<=2199023255552 ->
   (∃ t,(l.foldl bu s).1=s.1++t/\∀ p∈t,p∈l)/\((l.foldl bu s).1.length:Int)+(l.foldl bu s).2.2=s.1.length+s.2.2+l.length/\s.2.1.length<=(l.foldl bu s).2.1.length/\(l.foldl bu s).2.1.length<=s.2.1.length+l.countP m9 from λl s h1 h2 h3=>h l s h1 (by omega)
 intro l
 induction l with
 | nil=>intro s _ _; exact ⟨⟨[],by simp,by simp⟩,by simp,zWq _,by simp⟩
 | cons x l ih =>
  intro s h1 h2;simp only [zQV] at h2;rw [zXz,List.countP_cons]
  by_cases hl:400<=s.1.length
  ·have e:bu s x=(s.1,s.2.1,aW .i64 s.2.2 1):=by unfold bu; rw [if_pos hl]
   rw [e,cq (by omega) (by omega)];obtain ⟨⟨t,a,a'⟩,b,c,d⟩:=ih (s.1,s.2.1,s.2.2+1) (by show -1<=s.2.2+1; omega) (by show s.2.2+1+_<=_; omega);refine ⟨⟨t,a,λp hp=>by simp [a' p hp]⟩,?_,c,by have d:_<=s.2.1.length+_:=d; omega⟩;simp only [zQV];have b:_=(s.1.length:Int)+(s.2.2+1)+_:=b;omega
  ·have e1:(bu s x).1=s.1++[x]:=by unfold bu; rw [if_neg hl]
   have e2:(bu s x).2.2=s.2.2:=by unfold bu; rw [if_neg hl]
   have e3:s.2.1.length<=(bu s x).2.1.length/\(bu s x).2.1.length<=s.2.1.length+(if m9 x=true then 1 else 0):=by
    unfold bu;rw [if_neg hl];dsimp only
    split
    ·rename_i hc;simp only [sk] at hc;have hp:m9 x=true:=by unfold m9; simp [hc.1.1,hc.1.2]
     rw [if_pos hp];simp
    ·exact ⟨zWq _,by omega⟩
   obtain ⟨⟨t,a,a'⟩,b,c,d⟩:=ih (bu s x) (by rw [e2]; exact h1) (by rw [e2]; omega);rw [e1] at a b;rw [e2] at b;refine ⟨⟨x :: t,by rw [a]; simp,λp hp=>?_⟩,?_,by omega,by omega⟩
   ·rcases List.mem_cons.1 hp with rfl | hp
    ·simp
    ·simp [a' p hp]
   ·simp only [zQJ,zQV,zXW] at b ⊢;omega
theorem Ts:∀ (l:List ag) (s:List ag×List bR×Int),-1<=s.2.2->s.2.2<=1099511627776->l.length<=1048576->s.2.2<=(l.foldl bu s).2.2:=by
 suffices h:∀ (l:List ag) (s:List ag×List bR×Int),-1<=s.2.2->s.2.2+l.length<=2199023255552->s.2.2<=(l.foldl bu s).2.2 from λl s h1 h2 h3=>h l s h1 (by omega)
 intro l
 induction l with
 | nil=>intro s h _; exact Int.le_refl _
 | cons x l ih =>
  intro s h1 h2;simp only [zQV] at h2;rw [zXz]
  by_cases hl:400<=s.1.length
  ·have e:bu s x=(s.1,s.2.1,aW .i64 s.2.2 1):=by unfold bu; rw [if_pos hl]
   rw [e,cq (by omega) (by omega)];have:=ih (s.1,s.2.1,s.2.2+1) (by show -1<=s.2.2+1; omega) (by show s.2.2+1+_<=_; omega);have:s.2.2+1<=_:=this;omega
  ·have e2:(bu s x).2.2=s.2.2:=by unfold bu; rw [if_neg hl]
   have:=ih (bu s x) (by rw [e2]; exact h1) (by rw [e2]; omega);rw [e2] at this;exact this
theorem QB{u:Nat}(hu:1099511627776<=u)(code:List Int):qo u code=some true:=by
 unfold qo EU;simp only [wk]
 cases hbig:decide ((code.length:Int) > 1048576) with
 | true=>rfl
 | false =>
  have hl:code.length<=1048576:=by simp at hbig; omega
  simp only [cond_false];obtain ⟨⟨w,l⟩,e,hw,hl4,hp⟩:=QA hu hl;dsimp only at hw hl4 hp;rw [e];simp only [wk];have cp:=hw.cp;have e1:zM u w l=some (lH w l):=by
   unfold zM;rw [GB hu cp,wk,OH hu w hp (by omega)];rfl
  have e2:zN u w l=some (lH w l):=by
   unfold zN;rw [Bm hu cp,wk,wc hu w hp (by omega)];rfl
  have l0:=hw.l0;have l1:=hw.l1;have pl:=hw.pl;have ll:=hw.ll;obtain ⟨⟨t,a,a'⟩,b,c,d⟩:=RN l (w.bx,w.cu,w.bn) l0 (by show w.bn<=_; omega) (by omega);have a:(lH w l).bx=w.bx++t:=a;have b:((lH w l).bx.length:Int)+(lH w l).bn=w.bx.length+w.bn+l.length:=b;have c:w.cu.length<=(lH w l).cu.length:=c;have d:(lH w l).cu.length<=w.cu.length+l.countP m9:=d;have hcnt:l.countP m9<=l.length:=List.countP_le_length;have htl:t.length<=405:=by
   have:w.bn<=(lH w l).bn:=by
    have:=Ts l (w.bx,w.cu,w.bn) l0 (by show w.bn<=_; omega) (by omega);exact this
   rw [a] at b;simp only [zQJ] at b;omega
  have cpx:M.WCp (lH w l):=by
   refine ⟨cp.t,cp.new,cp.ol,cp.old,cp.nl,cp.n,cp.dl,cp.d,?_,λp h=>?_,by omega⟩
   ·rw [a,zQJ]; omega
   ·rw [a] at h;rcases List.mem_append.1 h with h | h
    ·exact cp.p p h
    ·exact hp p (a' p h)
  rw [e1,e2];simp only [wk];rw [Dd hu cpx];simp only [wk,zQW,cond_false];have hnet:(lH w l).bx.length=w.bx.length+t.length:=by rw [a,zQJ]
  rw [cq (show -9223372036854775808<=((lH w l).bx.length:Int)+(lH w l).bn by omega) (by omega),cq (show -9223372036854775808<=(w.bx.length:Int)+w.bn by omega) (by omega),cq (by omega) (by omega),b];simp only [beq_self_eq_true,cond_true];rw [show cE 0 (w.bx.length:Int) (lH w l).bx.length=true by simp [cE]; omega];simp only [zR,wk];rw [show ((lH w l).bx.take (sY (w.bx.length:Int))).drop (sY 0)=w.bx by rw [a]; simp,ua hu (by omega) λp hp=>(cp.p p hp).2];simp only [wk,cond_true];rw [show decide (((lH w l).cu.length:Int)>=(w.cu.length:Int))=true by simp; omega,Mj hu (by omega) hp,cJ (by omega) (by omega)];simp only [wk,cond_true];rw [show decide (((lH w l).cu.length:Int) - (w.cu.length:Int)<=(l.countP m9:Int))=true by simp; omega]
theorem QC(p0:List Int)(h:KR (jq .u8) p0/\True):qo 1099511627776 p0=some true:=QB (zWq _) p0
end Go.Tm.Pu
