/- Plain laws of the functions. -/
import Derived.Test.YtdcoelkflgpfgaaGreatCFnWorldsP2
set_option linter.unusedVariables false
set_option linter.unusedSimpArgs false
open Bool renaming and_eq_true->sk,and_self->zXG,and_true->zXH,false_eq_true->zWQ,not_true->zQY,true_and->zQh
open Int renaming eq_ofNat_of_zero_le->zQK,le_refl->zYY,natCast_zero->zVq,toNat_natCast->r0
open List renaming all_eq_true->zXZ,append_assoc->zQJ,ext_getElem?->zYy,foldl_cons->zYG,getElem?_append_left->zQW,getElem?_append_right->zQX,getElem?_cons_zero->zQz,getElem?_drop->zQx,getElem?_eq_getElem->sX,getElem?_eq_none->zXK,getElem?_set->zXy,getElem?_set_ne->zZK,getElem?_set_self->zZW,getElem?_take->zQy,length_cons->zQw,length_map->zWw,length_replicate->zYz,length_take->zQk,mem_append->zWv,mem_cons_of_mem->zQv,mem_cons_self->zWX,mem_of_getElem?->zQQ,mem_of_mem_drop->zWh,mem_of_mem_take->zWJ,mem_singleton->zQq,nil_append->zQj,range'->zXW,range'_succ->zYj,replicate->zQG
open Nat renaming add_zero->zYV,le_trans->zXQ,lt_of_lt_of_le->zWW,mul_le_mul_right->zWH,or_lt_two_pow->zZk,pow_le_pow_right->zWZ,succ_mul->zYw,testBit_two_pow_sub_one->zYg,zero_add->zWY,zero_le->zZv
open Option renaming bind_some->wk,getD_some->zXX
open List renaming getElem?_eq_some_iff->ln
open List renaming mem_append->sa
open List renaming all_eq_true->zm
open List renaming mem_cons->Ir
open List renaming mem_iff_getElem?->Sh
open Option renaming some->ac
open Bool renaming true->gi
open Bool renaming false->go
namespace Go.Tm.Pu
open Go.Tm
theorem qfe(m:af)(t:bD)(c:fq)(k:Int)(n:aD)(d:ar):Bk m (M.tick t c k n d).m9:=by
 unfold M.tick zr;have w:∀ g w d,(HO g w d).bH=1->(HO g w d).aH=m:=λg w d e=>by exact absurd e (by show (2:Int)≠1; decide)
 split
 ·exact B1 m
 split
 ·exact B1 m
 split
 ·exact WX (w _ _ _)
 ·exact WX (w _ _ _)
theorem qbV:∀ (out:List ak) (s:List ak×List eJ×Int),∀ p∈(out.foldl eh s).1,p∈s.1\/p∈out
 | [],s,p,h=>.inl h
 | x :: out,s,p,h=>by
  rw [zYG] at h;rcases qbV out _ p h with h | h
  ·unfold eh at h
   split at h
   ·exact .inl h
   ·rcases sa.1 h with h | h
    ·exact .inl h
    ·exact .inr (by simp only [zQq] at h; simp [h])
  ·exact .inr (by simp [h])
theorem qec{w:World}(h:M.Sa w){out:List ak}(ho:Bk (M.man 1 w.bI w.fC.au) out):M.Sa (Kw w out) :=
 ⟨h.s,h.off,h.man,h.disk,λp hp=>by
  rcases qbV out _ p hp with hp | hp
  ·exact h.msg p hp
  ·exact ho p hp⟩
theorem qab{w:World}(h:M.Sa w){k:Nat}{x:aD}{e:ar}{D:List ar}(hD:∀ (j:Nat) (d:ar),D[j]?=ac d->(j=k/\d=e)\/(j≠k/\w.fD[j]?=ac d))(h1:x.fJ=false->x.aG=0)(h2:x.aG≠0->x.aH=M.man 1 w.bI w.fC.au)(h3:∀ o,k≠0->w.bt[k]?=ac o->M.DS w.bI o.fB w.fC.au x.aG e):M.Sa ⟨w.fC,w.fT,w.bI,w.bt,w.fN.set k x,D,w.bj,w.cY,w.bk⟩:=by
 refine ⟨h.s,Pv h.off h1,Pv h.man h2,λj n d o h0 hn hd ho=>?_,h.msg⟩;rcases hD j d hd with ⟨e1,e2⟩ | ⟨e1,e2⟩
 ·subst e1 e2;have hn:(w.fN.set j x)[j]?=ac n:=hn;rw [zZW (by have:=(ln.1 hn).1; simpa using this)] at hn
  cases hn
  exact h3 o h0 ho
 ·have hn:(w.fN.set k x)[j]?=ac n:=hn;rw [zZK al] at hn;exact h.disk j n d o h0 hn e2 ho
theorem qiG{D:List ar}{k:Nat}{e:ar}:∀ (j:Nat) (d:ar),(D.set k e)[j]?=ac d->(j=k/\d=e)\/(j≠k/\D[j]?=ac d):=λj d hd=>by
 by_cases hj:j=k
 ·subst hj;rw [zZW (by have:=(ln.1 hd).1; simpa using this)] at hd
  cases hd
  exact .inl ⟨rfl,rfl⟩
 ·rw [zZK al] at hd;exact .inr ⟨hj,hd⟩
theorem qgO{D:List ar}{k:Nat}{e:ar}(h:D[k]?=ac e):∀ (j:Nat) (d:ar),D[j]?=ac d->(j=k/\d=e)\/(j≠k/\D[j]?=ac d):=λj d hd=>by
 by_cases hj:j=k
 ·subst hj;rw [h] at hd
  cases hd
  exact .inl ⟨rfl,rfl⟩
 ·exact .inr ⟨hj,hd⟩
theorem qii{new old:gs}{size:Int}(ho:old.length<=240)(hn:new.length<=16)(hs:cF size new.length=gi){d:ar}(h:M.DS new old size 0 d):M.DS new old size (if ((bX d).1 == (M.man 1 new size).aR) && jg (M.man 1 new size) (bX d).2 then 5 else 1) d:=by
 cases h with
 | idle k p =>
  have:=(KD ho k qfw qfw).2;rw [this];exact .gather k p
 | idleN k =>
  have:=(Ns al k).2;have ht:=Gi (g:=1) hs BL;rw [zP hs BL] at ht;rw [this,ht];exact .done k
theorem qij{w w':World}(h:M.Sa w)(hw:M.DrW w){e:du}(he:e.bH=7->Nr w e.fP.fB)(hs:M.Step w e w'):M.Sa w':=by
 have hnew:=hw.new.1;have hold:∀ {j:Nat} {o:aX},w.bt[j]?=ac o->o.fB.length<=240:=λh=>(hw.old _ (zQQ h)).1
 cases hs with
 | no=>exact h
 | tick j hj =>
  unfold sv
  split
  ·rename_i n d hn hd;refine qec (w:=wP w j _ _) ?_ (qfe _ _ _ _ _ _);have hk:(M.tick w.fT w.fC j n d).fN.fJ=n.fJ/\(M.tick w.fT w.fC j n d).fN.aH=n.aH/\(((M.tick w.fT w.fC j n d).fN.aG=n.aG/\(M.tick w.fT w.fC j n d).fD=d)\/(n.fJ=gi/\(M.tick w.fT w.fC j n d).fN.aG=(cK d n.aH n.bi n.aG).2/\(M.tick w.fT w.fC j n d).fD=(cK d n.aH n.bi n.aG).1)):=by
    unfold M.tick
    split
    ·exact ⟨rfl,rfl,.inl ⟨rfl,rfl⟩⟩
    rename_i hon
    split
    ·exact ⟨rfl,rfl,.inl ⟨rfl,rfl⟩⟩
    split <;> exact ⟨rfl,rfl,.inr ⟨by simpa using hon,rfl,rfl⟩⟩
   obtain ⟨k1,k2,k3⟩:=hk;have ph0:n.aG=0->(cK d n.aH n.bi n.aG).2=0:=λe=>by rw [e]; rfl
   refine qab h qiG (λho=>?_) (λhp=>?_) (λo h0 ho=>?_)
   ·rw [k1] at ho;rcases k3 with ⟨a,_⟩ | ⟨a,_⟩
    ·rw [a]; exact h.off j n hn ho
    ·rw [ho] at a; cases a
   ·rw [k2];refine h.man j n hn λe=>hp ?_;rcases k3 with ⟨a,_⟩ | ⟨_,a,_⟩
    ·rw [a]; exact e
    ·rw [a]; exact ph0 e
   ·have hds:=h.disk j n d o h0 hn hd ho;rcases k3 with ⟨a,b⟩ | ⟨_,a,b⟩
    ·rw [a,b]; exact hds
    ·rw [a,b];refine qea (hold ho) hnew h.s hds (λhp=>h.man j n hn hp) (λhp hwh=>?_);rw [h.man j n hn al] at hwh;exact YU hw.new.2 h.s (hw.wf.nodes j n hn).w.b hwh
  ·exact h
 | take j hj =>
  unfold sA
  split
  ·rename_i p hp;have hpn:=zQQ hp;have hpull:M.Sa (Dk w j):=⟨h.s,h.off,h.man,h.disk,λq hq=>by
    rcases sa.1 hq with hq | hq
    ·exact h.msg q (zWJ hq)
    ·exact h.msg q (zWh hq)⟩
   unfold Kx
   split
   ·rename_i n d hn hd;refine qec (w:=Nd (Dk w j) _ _) ?_ (qfd (λe=>h.man _ n hn e) _ _);obtain ⟨k1,k2⟩:=WW (t:=(Dk w j).fT) (me:=p.s4) (n:=n) (d:=d) (h.msg p hpn);refine qab hpull (qgO hd) (λho=>?_) (λhph=>?_) (λo h0 ho=>?_)
    ·rw [k1] at ho;rcases k2 with ⟨a,_⟩ | ⟨a,_⟩
     ·rw [a]; exact h.off _ n hn ho
     ·rw [ho] at a; cases a
    ·rcases k2 with ⟨a,b⟩ | ⟨_,_,b,_⟩
     ·rw [b]; exact h.man _ n hn (by rw [<- a]; exact hph)
     ·exact b
    ·have hds:=h.disk _ n d o h0 hn hd ho;rcases k2 with ⟨a,_⟩ | ⟨_,a,_,b⟩
     ·rw [a]; exact hds
     ·rw [b];rw [a] at hds;exact qii (hold ho) hnew h.s hds
   ·exact hpull
  ·exact h
 | lose l hs hl=>exact ⟨h.s,h.off,h.man,h.disk,λp hp=>h.msg p (hs p hp)⟩
 | push p hl hi hf =>
  refine ⟨h.s,h.off,h.man,h.disk,λq hq=>?_⟩;rcases sa.1 hq with hq | hq
  ·exact h.msg q hq
  ·simp only [zQq] at hq;subst hq;rcases hf with ⟨z,hz,e1⟩ | ⟨e7,e1⟩
   ·rw [<- e1]; exact h.msg z hz
   ·rw [e1];intro h2 h1;rcases he e7 with a | a | a | ⟨z,hz,a⟩
    ·rw [a] at h2; cases h2
    ·omega
    ·omega
    ·rw [<- a] at h1 h2 ⊢;exact h.msg z hz h2 h1
 | fall j d hj h0 hd s =>
  refine qab h qiG (λ_=>rfl) (λhp=>absurd rfl hp) (λo _ ho=>?_);obtain ⟨n,hn⟩:∃ n,w.fN[j]?=ac n:=⟨_,sX (by rw [hw.wf.nl]; exact hj)⟩;exact qif (hold ho) hnew h.s (h.disk j n d o h0 hn hd ho) s
 | rise j n hj h0 hn ho =>
  have hph:(eP w.fT j).aG=0:=by unfold eP; split <;> rfl
  obtain ⟨d,hd⟩:∃ d,w.fD[j]?=ac d:=⟨_,sX (by rw [hw.wf.dl]; exact hj)⟩;refine qab h (qgO hd) (λ_=>hph) (λhp=>absurd hph hp) (λo _ hoo=>?_);rw [hph];have:=h.disk j n d o al hn hd hoo;rw [h.off j n hn ho] at this;exact this
theorem qgP{w:World}(h:M.NewW w):M.Sa w:=by
 have hm:dZ 1 w.bI w.fC.au=M.man 1 w.bI w.fC.au:=zP h.s BL;have rp:∀ k:Int,(eP w.fT k).aG=0:=λk=>by unfold eP; split <;> rfl
 refine ⟨h.s,λj n hn ho=>?_,λj n hn hp=>?_,λj n d o h0 hn hd ho=>?_,λp hp=>by rw [h.net] at hp; simp at hp⟩
 ·cases j with
  | zero=>rw [h.root n hn] at ho; cases ho
  | succ j=>rw [h.node _ n al hn]; exact rp _
 ·cases j with
  | zero=>rw [h.root n hn]; exact hm
  | succ j=>rw [h.node _ n al hn] at hp; exact absurd (rp _) hp
 ·rw [h.node j n h0 hn,rp,h.disk j d o hd ho];exact .idle ⟨rfl,rfl,by simp⟩ rfl
def qgQ(n:Nat)(w:World):Prop:=M.DrN n w/\M.Sa w
theorem qje:M.Inv qgQ:=⟨λ_ _ h=>h.1,λw h=>⟨Z8 h,qgP h⟩,λn w e w' hn h hb hs=>⟨qbN hn h.1 hb.1.2 hs,qij h.2 h.1.d hb.2 hs⟩⟩
theorem qac{I:Nat->World->Prop}(hI:M.Inv I)(hu:UB){code:gs}(h:code.length<=1048576):Ev (vh code) λv=>∃ n,n<=400/\I n v:=by
 have hs:∃ s,Cv code 120=ac s:=by
  unfold Cv
  cases decide (aS .i64 3 (Xf .i64 (code.length:Int) 12) > 120) <;> exact ⟨_,rfl⟩
 obtain ⟨s,hs⟩:=hs;unfold vh;exact bx (Z5 hu h) λc hc=>fc hs (bx (PH hI hu hc _) λq hq=>cU hq.1)
def qbW(t:bD)(k:Nat):Nat:=((t.bl[k]?).getD 0).toNat
theorem WZ{t:bD}(h:dm t=gi){k:Nat}(h1:1<=k)(hk:k < t.bl.length):qbW t k < k/\t.bl[k]?=ac (qbW t k:Int):=by
 unfold dm at h;simp only [sk] at h;have hg:t.bl[k]?=ac t.bl[k]:=sX hk;have h2:=HP h.1 k _ hg;rw [zWY] at h2;unfold Dg at h2;rw [if_neg al] at h2;have h3:=bC h2;unfold qbW;rw [hg];simp only [zXX,Option.some.injEq];omega
theorem CM{t:bD}(h:dm t=gi):1<=t.bl.length/\t.bl.length<=7:=by
 unfold dm at h;simp only [sk] at h;have:=bC h.2;omega
theorem qbX{s:Int}(h:bB s=gi):∃ n:Nat,s=n/\n < 1099511627776:=by
 unfold bB aj at h;simp at h;exact ⟨s.toNat,by omega,by omega⟩
theorem qiH{a b:Int}(ha:bB a=gi)(hb:bB b=gi):bB (DM .i64 a b)=gi/\∀ i:Nat,(dL a i=gi\/dL b i=gi)->dL (DM .i64 a b) i=true:=by
 obtain ⟨x,rfl,hx⟩:=qbX ha;obtain ⟨y,rfl,hy⟩:=qbX hb;rw [F4 al al];have h:x ||| y < 2 ^ 40:=zZk al al
 have hs:bB ((x ||| y:Nat):Int)=true:=Re al;refine ⟨hs,λi hi=>?_⟩;unfold dL at hi ⊢;rw [ha,hb,r0,r0,r0] at hi;rw [hs,r0,r0,Nat.testBit_or];simp only [zQh,sk,Bool.or_eq_true] at hi ⊢;rcases hi with h | h
 ·exact ⟨h.1,.inl h.2⟩
 ·exact ⟨h.1,.inr h.2⟩
theorem qgR{α:Type}(l:List α):cM l (-1)=none:=rfl
theorem qdv(l:List bV){c:Nat}(hc:c<=6){want d:Int}(hw:bB want=gi)(hd:bB d=gi) :
  (∃ (i:Nat) (x:bV),l[i]?=ac x/\x.jW=(c:Int)/\rI l c want d=l.set i ⟨x.jW,want,DM .i64 x.cO d,0,x.kM⟩) \/
  ((∀ x∈l,x.jW≠(c:Int))/\rI l c want d=l.take (yh l c)++[⟨c,want,d,0,0⟩]++l.drop (yh l c)):=by
 have hin:aj (c:Int) 0 6=true:=by unfold aj; simp; omega
 unfold rI;rw [hin,hw,hd];simp only [zXG,if_true];rcases su l c with ⟨h1,h2⟩ | ⟨j,x,h1,h2,h3⟩
 ·exact .inr ⟨h2,by rw [h1,qgR]⟩
 ·exact .inl ⟨j,x,h2,h3,by rw [h1,cj,h2]; rfl⟩
theorem YV{α:Type}{l:List α}{i:Nat}{v y:α}(h:y∈l.set i v):y=v\/∃ j,j≠i/\l[j]?=ac y:=by
 obtain ⟨j,hj⟩:=Sh.1 h;rw [zXy] at hj
 split at hj
 ·split at hj
  ·exact .inl (Option.some.inj hj).symm
  ·cases hj
 ·exact .inr ⟨j,by omega,hj⟩
theorem qdw{cf:fq}(h:ii cf=gi):1<=cf.aK/\cf.aK<=5/\2<=cf.aN/\1<=cf.aP/\cf.aP<=40:=by
 unfold ii at h;simp only [sk] at h;have h1:=bC h.1.1.2;have h2:=bC h.1.2;have h3:=bC h.2;omega
theorem AU{α:Type}{l:List α}{k j:Nat}{v x:α}(h:(l.set k v)[j]?=ac x):(j=k/\x=v)\/(j≠k/\l[j]?=ac x):=by
 rw [zXy] at h
 split at h
 ·split at h
  ·cases h; exact .inl ⟨by omega,rfl⟩
  ·cases h
 ·exact .inr ⟨by omega,h⟩
theorem PM(m:af):jN m m=true:=by
 unfold jN;simp [RH]
theorem qdx{t:bD}(h:dm t=gi){k:Nat}(h1:1<=k)(hk:k < t.bl.length):zN t (qbW t k:Int) k=true:=by
 obtain ⟨p1,p2⟩:=WZ h h1 hk;have w1:aj (k:Int) 0 ((t.bl.length:Int) - 1)=true:=by unfold aj; simp; omega
 have w2:aj (qbW t k:Int) 0 ((t.bl.length:Int) - 1)=true:=by unfold aj; simp; omega
 unfold zN Bc;obtain ⟨m,hm⟩:∃ m,t.bl.length=m+2:=⟨t.bl.length - 2,by omega⟩;have hne:((qbW t k:Int) != (k:Int))=true:=by simp; omega
 rw [hne,hm];unfold eY;rw [w1,if_pos rfl];unfold eY;rw [r0,p2,zXX,w2,if_pos rfl];simp
theorem W0{t:bD}(h:dm t=gi){k:Nat}(h1:1<=k)(hk:k < t.bl.length):eP t k=⟨gi,(qbW t k:Int),0,⟨0,0,0,[]⟩,⟨0,[]⟩,0,[],0⟩:=by
 have w1:aj (k:Int) 1 ((t.bl.length:Int) - 1)=true:=by unfold aj; simp; omega
 unfold eP;rw [h,w1,r0,(WZ h h1 hk).2];rfl
theorem qik{w:World}(h:M.NewW w):zO w=true:=by
 have ht:=h.d.wf.t;have h7:=CM ht;have hn:=h.d.wf.nl;have hd:=h.d.wf.dl;have ho:=h.d.ol;have olds:iU w.bt w.fT.bl.length=true:=by
  unfold iU;simp only [sk,zXZ];refine ⟨λx hx=>?_,by simp [ho]⟩;have:=(h.d.old x hx).1;simp; omega
 have nodes:fY (rM w) w.fN 0=true:=by
  have:∀ (l:List aD) (i:Nat),l=w.fN.drop i->fY (rM w) l i=true:=by
   intro l
   induction l with
   | nil=>intro i _; rfl
   | cons n l ih =>
    intro i hl;have hi:w.fN[i]?=ac n:=by
     have:=congrArg (λl=>l[0]?) hl
     simpa using this.symm
    have hlt:=(ln.1 hi).1;have hl2:l=w.fN.drop (i+1):=by
     have:=congrArg (List.drop 1) hl
     simpa using this
    unfold fY;rw [ih (i+1) hl2,zXH];have hdi:w.fD[i]?=ac (w.fD[i]'al):=sX _;have hoi:w.bt[i]?=ac (w.bt[i]'al):=sX _;generalize w.fD[i]'al=d at hdi;generalize w.bt[i]'al=o at hoi;have hdd:=h.disk i d o hdi hoi;have hol:=(h.d.old o (zQQ hoi)).1;have k0:M.K0 o.fB d:=by rw [hdd]; exact ⟨rfl,rfl,by simp⟩
    have kr:=KD hol k0 (by rw [hdd]; simp) (by rw [hdd]; simp);have kp:d.fP=[]:=by rw [hdd]
    have w1:aj (i:Int) 0 ((w.fT.bl.length:Int) - 1)=true:=by unfold aj; simp; omega
    have hh:=tx kr.2;unfold rM;rw [hdi,hoi];dsimp only;rw [kr.1,zXH]
    by_cases h0:i=0
    ·subst h0;have e:=h.root n hi;have hs:=h.s;have mo:=CJ 1 h.d.new.2 w.fC.au;have hw:oZ (dZ 1 w.bI w.fC.au) (d8 (dZ 1 w.bI w.fC.au) w.bI)=true:=by
      rw [zP hs rfl] at mo ⊢;rw [Fn h.d.new.2 hs mo];exact Np h.d.new.2 hs rfl mo
     subst e;unfold nj RD Dl tw p7;simp only [ht,w1,hh,kp,hw,if_true,zXH,zQh];simp [nh,fY,aj,PM]
    ·have e:=h.node i n h0 hi;rw [W0 ht al al] at e;have ha:=qdx ht (k:=i) al al;subst e;have hi0:¬ ((i:Int)=0):=by omega
     unfold nj RD Dl rL;simp only [ht,w1,hh,kp,ha,if_true,zXH,zQh,if_neg hi0,if_neg h0];simp [nh,fY,M.idle,n5,h0]
  exact this w.fN 0 ig
 unfold zO;rw [h.c,ht,h.s,olds,nodes,h.net,h.log,h.lost,hn,hd];simp
theorem qad(l:gs)(c n k:Nat):(M.win l c n)[k]?=if k < n then l[c+k]? else none:=by
 unfold M.win;rw [zQx,zQy]
 by_cases h:k < n
 ·rw [if_pos h,if_pos al]
 ·rw [if_neg h,if_neg al]
theorem qbY{x p:gs}{a:Nat}(h:a+p.length<=x.length)(k:Nat):(xV x p a)[k]?=if a<=k/\k < a+p.length then p[k - a]? else x[k]?:=by
 have ha:(x.take a).length=a:=by rw [zQk]; omega
 rw [Fd h]
 by_cases h1:k < a
 ·rw [if_neg al,zQJ,zQW al,List.getElem?_take_of_lt h1]
 ·by_cases h2:k < a+p.length
  ·rw [if_pos ⟨by omega,h2⟩,zQJ,zQX al,ha,zQW al]
  ·rw [if_neg al,zQX f6,zQx]
   congr 1
   simp; omega
theorem qae{x p:gs}{a c n:Nat}(h:a+p.length<=x.length)(hd:c+n<=a\/a+p.length<=c):M.win (xV x p a) c n=M.win x c n:=by
 apply zYy
 intro k;rw [qad,qad]
 by_cases hk:k < n
 ·rw [if_pos hk,if_pos hk,qbY h,if_neg al]
 ·rw [if_neg hk,if_neg hk]
theorem qbZ{x p:gs}{a:Nat}(h:a+p.length<=x.length):M.win (xV x p a) a p.length=p:=by
 apply zYy
 intro k;rw [qad]
 by_cases hk:k < p.length
 ·rw [if_pos hk,qbY h,if_pos al,show a+k - a=k by omega]
 ·rw [if_neg hk,zXK al]
structure M.Good (m:af) (x:aW):Prop where
 ok:cG m=gi
 p:M.Part m m.aI.length x
 f:∀ (j:Nat) (s:dR),m.aI[j]?=ac s->qt m x s j=gi
theorem qgS{m:af}(h:cG m=gi):m.aI.length<=40:=by
 unfold cG at h
 split at h
 ·simp only [sk,beq_iff_eq] at h;have:=h.2;omega
 ·have:=blocks_range m.au m.aT;simp only [sk,beq_iff_eq] at h;omega
theorem qed{m:af}{x:aW}(h:M.Good m x):fO m x=true:=by
 have hn:=qgS h.ok;obtain ⟨hs,_⟩:=UC h.p hn;obtain ⟨a,h1,h2⟩:=h.p.h;have h40:(2:Nat) ^ m.aI.length<=2 ^ 40:=zWZ al hn;have hp:0 < (2:Nat) ^ m.aI.length:=Nat.pow_pos al;have hw:n6 x.bc (jb m.aI.length)=0:=by
  rw [M4 hs (M3 _),h1];have hf:jb m.aI.length=((2 ^ m.aI.length - 1:Nat):Int):=by unfold jb; rw [if_pos hn]
  rw [hf,Sm (n:=40) al al al];have h0:A9 40 (λi=>a.testBit i && !(2 ^ m.aI.length - 1).testBit i)=0:=by
   apply Nat.eq_of_testBit_eq
   intro i;rw [GE,Nat.zero_testBit,zYg]
   by_cases hi:i < m.aI.length
   ·simp [hi]
   ·have:a.testBit i=false:=Nat.testBit_lt_two_pow (zWW h2 (zWZ al al));simp [this]
  rw [h0];rfl
 unfold fO;rw [h.ok,hs,hw,PF m.aI 0 λj s hj=>by rw [zWY]; exact h.f j s hj];simp [h.p.l]
theorem qgT{m:af}(h:cG m=gi){j:Nat}(hj:j < m.aI.length):M.at_ m j=j*m.au.toNat/\qs m j=min m.au.toNat (m.aT.toNat - j*m.au.toNat)/\j*m.au.toNat < m.aT.toNat/\2<=m.au.toNat:=by
 have h0:m.aR≠0:=λe=>by
  unfold cG at h;rw [if_pos e] at h;simp only [sk,beq_iff_eq] at h;have:=h.2;omega
 obtain ⟨_,h2,h3,h4,_⟩:=CL h h0;unfold cG at h;rw [if_neg h0] at h;simp only [sk,beq_iff_eq] at h;have hs:=h.1.1.2;obtain ⟨b,hb⟩:∃ b:gs,(b.length:Int)=m.aT:=⟨zQG m.aT.toNat 0,by rw [zYz]; omega⟩;rw [<- hb] at hs h4;have k:=Nn hs (i:=j) al;have ks:=k.s;have kp:=k.p;have kz:=k.z2;unfold M.at_ qs;rw [<- hb,ks];simp only [r0];exact ⟨trivial,trivial,by omega,kz.1⟩
theorem qdy{m:af}(h:cG m=gi){i j:Nat}(hi:i < m.aI.length)(hj:j < m.aI.length)(hij:i≠j):M.at_ m i+qs m i<=M.at_ m j\/M.at_ m j+qs m j<=M.at_ m i:=by
 obtain ⟨a1,a2,a3,a4⟩:=qgT h hi;obtain ⟨b1,b2,b3,_⟩:=qgT h hj;rw [a1,a2,b1,b2];rcases Nat.lt_or_ge i j with hlt | hge
 ·left
  have:(i+1)*m.au.toNat<=j*m.au.toNat:=zWH _ hlt;rw [zYw] at this;omega
 ·right
  have:(j+1)*m.au.toNat<=i*m.au.toNat:=zWH _ al;rw [zYw] at this;omega
theorem qjf{a i j:Nat}(ha:a < 2 ^ 40)(hi:i<=39):dL (((a ||| 2 ^ i:Nat):Int)) (j:Int)=(fu (j:Int) && (a.testBit j || decide (i=j))):=by
 have h2:(2:Nat) ^ i<=2 ^ 39:=zWZ al hi;have h:=zZk ha (show 2 ^ i < 2 ^ 40 by omega);unfold dL;rw [Re al,r0,r0,Nat.testBit_or,Nat.testBit_two_pow];simp
theorem qb0{m:af}{x:aW}(h:M.Good m x){i:Nat}(hi:i < m.aI.length){b:gs}(hb:aw b)(hl:b.length=qs m i)(hs:m.aI[i]?=ac (eo b)):M.Good m (M.put m x i b):=by
 have hn:=qgS h.ok;obtain ⟨a,h1,h2⟩:=h.p.h;have h40:(2:Nat) ^ m.aI.length<=2 ^ 40:=zWZ al hn;have hi2:(2:Nat) ^ i < 2 ^ m.aI.length:=Nat.pow_lt_pow_right al hi;obtain ⟨e1,e2,e3⟩:=Fi (b:=x.bE) h.p.l i;have hfit:M.at_ m i+b.length<=x.bE.length:=by omega
 have hhave:(M.put m x i b).bc=((a ||| 2 ^ i:Nat):Int):=by
  unfold M.put;dsimp only;rw [h1,Hy al,F4 al al]
 obtain ⟨o1,o2⟩:=Ga (x:=x.bE) (p:=b) (a:=M.at_ m i) hfit h.p.b.b hb;refine ⟨h.ok,⟨⟨o1,by show (xV x.bE b (M.at_ m i)).length<=_; rw [o2]; exact h.p.b.l⟩,by show ((xV x.bE b (M.at_ m i)).length:Int)=_; rw [o2]; exact h.p.l,_,hhave,zZk h2 hi2⟩,λj s hj=>?_⟩;have hjn:=(ln.1 hj).1;have hf:=h.f j s hj;unfold qt at hf ⊢;have hpl:fu (j:Int)=true:=by unfold fu aj; simp; omega
 rw [hhave,qjf al al,hpl,zQh]
 by_cases hij:i=j
 ·subst hij;rw [hj] at hs
  cases hs
  have:oY m (M.put m x i b) i=b:=by
   unfold oY M.put;dsimp only;rw [<- hl];exact qbZ hfit
  simp [this]
 ·have:oY m (M.put m x i b) j=oY m x j:=by
   unfold oY M.put;dsimp only;refine qae hfit ?_;rw [hl];rcases qdy h.ok hi hjn hij with h3 | h3
   ·exact .inr h3
   ·exact .inl h3
  rw [this];have hx:dL x.bc (j:Int)=a.testBit j:=by
   unfold dL;rw [h1,Re al,hpl,r0,r0];rfl
  rw [hx] at hf
  simpa [hij] using hf
theorem qgU{m:af}(h:cG m=gi):M.Good m (iz m):=by
 refine ⟨h,HM (Pl h) (zZv _),λj s hj=>?_⟩;unfold qt iz;rw [if_pos h];dsimp only;rw [qc2];simp only [zWQ,if_false];unfold oY M.win;rw [zXZ];intro c hc;have:=zWJ (zWh hc);rw [(List.mem_replicate.1 this).2];rfl
theorem YW{m:af}(hm:cG m=gi){old:gs}(ho:aw old):∀ (n i:Nat) (x:aW),i+n=m.aI.length->M.Good m x->M.Good m (yV m old n i x)
 | 0,_,_,_,h=>h
 | n+1,i,x,hn,h=>by
  unfold yV;refine YW hm ho n (i+1) _ al ?_
  split
  ·rename_i hp;obtain ⟨s,h1,h2,h3,h4⟩:=Fj hp;refine qb0 h al (i6 ho _ _) ?_ (by rw [h1,h3]);exact m5 al
  ·exact h
theorem KF{m:af}(hm:cG m=gi){old:gs}(ho:aw old):M.Good m (d8 m old):=by
 unfold d8;rw [if_pos hm];exact YW hm ho _ 0 _ al (qgU hm)
theorem qdz{m:af}{x:aW}(h:M.Good m x)(i:Int){b:gs}(hb:aw b)(hl:b.length<=6)(hp:(kJ m x i b).2=gi):M.Good m (kJ m x i b).1/\rJ m x≠0:=by
 have hok:=qed h;unfold kJ at hp ⊢;rw [hok,zQh] at hp ⊢
 split at hp
 ·rename_i hc;rw [if_pos hc];unfold yU at hc;generalize hq:(aj i 0 ((m.aI.length:Int) - 1) && !dL x.bc i && (match m.aI[i.toNat]? with | some s=>decide (eo b=s) | none=>go))=c at hc
  cases c with
  | false=>cases hc
  | true =>
   simp only [sk,Bool.not_eq_true'] at hq;obtain ⟨⟨hw,hin⟩,hm⟩:=hq;have hw:=bC hw;obtain ⟨j,rfl⟩:=zQK hw.1;have hj:j < m.aI.length:=by omega
   rw [r0] at hm
   cases hs:m.aI[j]? with
   | none=>rw [hs] at hm; cases hm
   | some s =>
    rw [hs] at hm;have hm:=of_decide_eq_true hm;have hn:=qgS h.ok;have h0:m.aR≠0:=λe=>by
     have hk:=h.ok;unfold cG at hk;rw [if_pos e] at hk;simp only [sk,beq_iff_eq] at hk;have:=hk.2;omega
    have hfit:=Kr (CL h.ok h0).2.2.2.2 hs;rw [zWY] at hfit;unfold rE at hfit;simp only [sk,beq_iff_eq] at hfit;have hlen:b.length=qs m j:=by
     have e1:s.fS=jV b 1:=by rw [<- hm]; unfold eo; rw [if_neg al]
     have e2:=hfit.1.2;rw [e1,Ed hb hl] at e2;unfold qs;have e2:((b.length:Nat):Int)=(cu m.au m.aT j).2:=e2;omega
    refine ⟨qb0 h hj hb hlen (by rw [hs,hm]),λhmis=>?_⟩;unfold rJ at hmis;obtain ⟨hset,_⟩:=UC h.p hn;have:=WQ hn hset hmis hj;rw [hin] at this
    cases this
 ·cases hp
structure M.Kg (t:bD) (j:Nat) (x:bV):Prop where
 w:bB x.cW=gi
 d:bB x.cO=gi
 s:bB x.kM=gi
 a0:0<=x.pg
 a1:x.pg<=9
 i:x.jW≠(j:Int)
 t':gX t x.jW
def W1(t:bD)(j:Nat)(l:List bV):Prop:=∀ x∈l,M.Kg t j x
structure M.NOk (t:bD) (b j:Nat) (n:aD):Prop where
 off:n.fJ=false->n=lC
 boss:n.fJ=true->if j=0 then n.bG=-1 else zN t n.bG j=gi
 q:0<=n.bn/\n.bn<=9
 dr:0<=n.be/\n.be<=b
 root:n.fJ=true->(n.aG=6↔j=0)
 kids:W1 t j n.aZ
 img:n.aG≠0->M.Good n.aH n.bi/\n.aH.aR≠0
 idle:n.aG=0->n.aH=⟨0,0,0,[]⟩/\n.bi=⟨0,[]⟩
 wh:2<=n.aG->oZ n.aH n.bi=gi
 rg:0<=n.aG/\n.aG<=6
theorem qff{l:List bV}(hS:o3 l){t:bD}{j:Nat}(h:W1 t j l):nh l=true:=by
 unfold nh;refine PF l 0 λi x hx=>?_;rw [zWY];have k:=h x (zQQ hx);have hr:=hS.r x.jW (List.mem_map.2 ⟨x,zQQ hx,rfl⟩);have hi:aj x.jW 0 6=true:=by unfold aj; simp; omega
 have ha:decide (x.pg < 0)=false:=by have:=k.a0; simp; omega
 unfold Bd;rw [hi,k.w,k.d,k.s,ha]
 by_cases h0:i=0
 ·rw [if_pos h0]; rfl
 ·rw [if_neg h0];have hl:=(ln.1 hx).1;have hp:=hS.p;unfold fk at hp;rw [List.pairwise_map,List.pairwise_iff_getElem] at hp;have:=hp (i - 1) i al hl al;have hx':=(ln.1 hx).2;rw [hx'] at this;rw [sX (show i - 1 < l.length by omega)];dsimp only;have e:decide (x.jW<=(l[i - 1]'al).jW)=false:=by simp; omega
  rw [e];rfl
theorem qjg{t:bD}(ht:dm t=gi){b j:Nat}{n:aD}(h:M.NOk t b j n)(hj:j < t.bl.length)(hS:o3 n.aZ):nj t j n=true:=by
 have w1:aj (j:Int) 0 ((t.bl.length:Int) - 1)=true:=by unfold aj; simp; omega
 unfold nj;rw [ht,w1]
 cases ho:n.fJ with
 | false =>
  rw [h.off ho];rfl
 | true =>
  have hq:decide (n.bn < 0)=false:=by have:=h.q.1; simp; omega
  have hd:decide (n.be < 0)=false:=by have:=h.dr.1; simp; omega
  have hk:=qff hS h.kids;have hf:n.aZ.all (rK t j)=true:=by
   rw [zXZ];intro x hx;have k:=h.kids x hx;have h1:=bC k.t';have h2:=k.i;unfold rK;simp;omega
  have hroot:((n.aG == 6) == ((j:Int) == 0))=true:=by
   have:=h.root ho
   by_cases h0:j=0
   ·have h6:=this.2 h0;rw [h6,h0]; rfl
   ·have h6:n.aG≠6:=λe=>h0 (this.1 e);have e1:(n.aG == 6)=false:=by simpa using h6
    have e2:(((j:Int)) == 0)=false:=by simp; omega
    rw [e1,e2]; rfl
  have hb:(if (j:Int)=0 then n.bG == -1 else zN t n.bG j)=true:=by
   have:=h.boss ho
   by_cases h0:j=0
   ·rw [if_pos h0] at this;rw [if_pos al,this]; rfl
   ·rw [if_neg h0] at this;rw [if_neg al,this]
  have hi:Dl n=true:=by
   unfold Dl
   by_cases h0:n.aG=0
   ·obtain ⟨e1,e2⟩:=h.idle h0;rw [if_pos h0];unfold M.idle;rw [e1,e2]; rfl
   ·obtain ⟨g1,g2⟩:=h.img h0;rw [if_neg h0]
    by_cases h1:n.aG=1
    ·rw [if_pos h1,qed g1]
     simpa using g2
    ·have:=h.rg;have w2:aj n.aG 2 6=true:=by unfold aj; simp; omega
     rw [if_neg h1,w2,h.wh al];rfl
  unfold RD;rw [hb,hq,hd,hroot,hk,hf,hi];rfl
theorem qgV{t:bD}{j:Nat}{l:List bV}(h:W1 t j l){f:Int}(hf:f<=8):W1 t j (ni l f):=λx hx=>by
 obtain ⟨y,hy,rfl⟩:=List.mem_map.1 hx;obtain ⟨hy,hc⟩:=List.mem_filter.1 hy;have hc:=of_decide_eq_true hc;have k:=h y hy;have e:aS .i64 y.pg 1=y.pg+1:=dE (by have:=k.a0; omega) al;exact ⟨k.w,k.d,rfl,by show 0<=aS .i64 y.pg 1; rw [e]; have:=k.a0; omega,by show aS .i64 y.pg 1<=9; rw [e]; omega,k.i,k.t'⟩
theorem qil{t:bD}{j c:Nat}{l:List bV}(h:W1 t j l)(hc:c<=6)(hcj:c≠j)(hct:gX t c){want d:Int}(hw:bB want=gi)(hd:bB d=gi):W1 t j (rI l c want d):=λx hx=>by
 rcases qdv l hc hw hd with ⟨i,y,h1,h2,h3⟩ | ⟨h2,h3⟩
 ·rw [h3] at hx;have k:=h y (zQQ h1);rcases YV hx with rfl | ⟨i',_,hg⟩
  ·exact ⟨hw,(qiH k.d hd).1,k.s,zYY _,show (0:Int)<=9 by decide,k.i,k.t'⟩
  ·exact h x (zQQ hg)
 ·rw [h3] at hx;simp only [zWv,zQq] at hx;rcases hx with (hx | rfl) | hx
  ·exact h x (zWJ hx)
  ·exact ⟨hw,hd,rfl,zYY _,show (0:Int)<=9 by decide,by show (c:Int)≠j; omega,hct⟩
  ·exact h x (zWh hx)
theorem qaf{t:bD}{j:Nat}{l:List bV}(h:W1 t j l)(id s:Int):W1 t j (oP l id s):=by
 unfold oP;rcases su l id with ⟨h1,_⟩ | ⟨i,x,h1,h2,h3⟩
 ·rw [h1,qgR]; exact h
 ·rw [h1,cj,h2];dsimp only
  split
  ·rename_i hc;simp only [sk] at hc;rw [r0];intro y hy;have k:=h x (zQQ h2);rcases YV hy with rfl | ⟨i',_,hg⟩
   ·exact ⟨k.w,k.d,(qiH hc.2 hc.1).1,k.a0,k.a1,k.i,k.t'⟩
   ·exact h y (zQQ hg)
  ·exact h
theorem qgW{t:bD}{j:Nat}(n:aD)(me i:Int):∀ (l:List bV) (s:List bV×List ak),W1 t j s.1->W1 t j (l.foldl (fQ n me i) s).1
 | [],s,h=>h
 | x :: l,s,h=>by
  rw [zYG];refine qgW n me i l _ ?_;unfold fQ
  split
  ·exact qaf h _ _
  ·exact h
theorem HS{t:bD}{b j:Nat}{n:aD}(h:M.NOk t b j n){l:List bV}(hl:W1 t j l)(ho:n.fJ=gi):M.NOk t b j (lB n l) :=
 ⟨λe=>absurd (ho.symm.trans e) BL,h.boss,h.q,h.dr,h.root,hl,h.img,h.idle,h.wh,h.rg⟩
theorem W3{t:bD}{b b' j:Nat}{n:aD}(h:M.NOk t b j n)(hb:b<=b'):M.NOk t b' j n :=
 ⟨h.off,h.boss,h.q,⟨h.dr.1,by have:=h.dr.2; omega⟩,h.root,h.kids,h.img,h.idle,h.wh,h.rg⟩
theorem W4{t:bD}{b j:Nat}(hb:b<=1000000){n:aD}(h:M.NOk t b j n)(ho:n.fJ=gi):M.NOk t (b+1) j (M.drop n):=by
 have hd:=h.dr;have e:aS .i64 n.be 1=n.be+1:=dE al al;exact ⟨λe=>absurd (ho.symm.trans e) BL,h.boss,h.q,by show 0<=aS .i64 n.be 1/\aS .i64 n.be 1<=_; rw [e]; omega,h.root,h.kids,h.img,h.idle,h.wh,h.rg⟩
theorem qb1{t:bD}{b j:Nat}{n:aD}(h:M.NOk t b j n)(ho:n.fJ=gi):M.NOk t b j (BZ n) :=
 ⟨λe=>absurd (ho.symm.trans e) BL,h.boss,⟨zYY _,by show (0:Int)<=9; decide⟩,h.dr,h.root,h.kids,h.img,h.idle,h.wh,h.rg⟩
theorem qfg(d:ar)(m:af)(x:aW){ph:Int}(h:0<=ph/\ph<=6):(cK d m x ph).2=ph\/(1<=ph/\ph < 5/\(cK d m x ph).2=ph+1/\(ph=1->oZ m x=gi)):=by
 unfold cK
 by_cases h1:ph=1
 ·rw [if_pos h1]
  split
  ·rename_i hc;simp only [sk] at hc;exact .inr ⟨by omega,by omega,by rw [h1]; rfl,λ_=>hc.1⟩
  ·exact .inl rfl
 rw [if_neg h1]
 by_cases h2:ph=2
 ·rw [if_pos h2]; exact .inr ⟨by omega,by omega,by rw [h2]; rfl,λe=>absurd e h1⟩
 rw [if_neg h2]
 by_cases h3:ph=3
 ·rw [if_pos h3]
  split
  ·exact .inr ⟨by omega,by omega,by rw [h3]; rfl,λe=>absurd e h1⟩
  ·exact .inl rfl
 rw [if_neg h3]
 by_cases h4:ph=4
 ·rw [if_pos h4]; exact .inr ⟨by omega,by omega,by rw [h4]; rfl,λe=>absurd e h1⟩
 ·rw [if_neg h4]; exact .inl rfl
theorem PN{t:bD}{cf:fq}(hc:ii cf=gi){b j:Nat}(hj:j≠0){n:aD}(h:M.NOk t b j n)(ho:n.fJ=gi)(d:ar){bs q:Int}(hbs:zN t bs j=gi)(hq:0<=q/\q<=9):M.NOk t b j (zq cf n d bs q):=by
 have hf:cf.aN<=8:=by
  unfold ii at hc;simp only [sk] at hc;have:=bC hc.2;omega
 have hrg:=h.rg;have hr:=h.root ho;have hcom:=qfg d n.aH n.bi hrg;have hp6:n.aG≠6:=λe=>hj (hr.1 e);refine ⟨λe=>absurd (ho.symm.trans e) BL,λ_=>by rw [if_neg hj]; exact hbs,hq,h.dr,λ_=>⟨λe=>?_,λe=>absurd e hj⟩,qgV h.kids hf,λe=>?_,λe=>?_,λe=>?_,?_⟩
 ·have e:(cK d n.aH n.bi n.aG).2=6:=e;rcases hcom with h1 | ⟨h1,h2,h3,_⟩
  ·rw [h1] at e; exact absurd e hp6
  ·omega
 ·have e:(cK d n.aH n.bi n.aG).2≠0:=e;refine h.img λe0=>e ?_;rw [e0]; rfl
 ·have e:(cK d n.aH n.bi n.aG).2=0:=e;refine h.idle ?_;rcases hcom with h1 | ⟨h1,h2,h3,_⟩
  ·rw [<- h1]; exact e
  ·omega
 ·have e:2<=(cK d n.aH n.bi n.aG).2:=e;show oZ n.aH n.bi=gi;rcases hcom with h1 | ⟨h1,h2,h3,h4⟩
  ·exact h.wh al
  ·by_cases h5:n.aG=1
   ·exact h4 h5
   ·exact h.wh al
 ·show 0<=(cK d n.aH n.bi n.aG).2/\(cK d n.aH n.bi n.aG).2<=6;rcases hcom with h1 | ⟨h1,h2,h3,_⟩ <;> omega
theorem qb2{up:gs}:∀ f:Nat,eY up f (-1)=[]
 | 0=>rfl
 | f+1=>by
  unfold eY;rw [if_neg];unfold aj;simp
theorem qee{up:gs}(hz:up[0]?=ac (-1))(hu:∀ i:Nat,1<=i->i < up.length->∃ p:Nat,up[i]?=ac (p:Int)/\p < i):∀ (f k:Nat) (a:Int),a∈eY up f k->a<=k
 | 0,k,a,h=>by cases h
 | f+1,k,a,h=>by
  unfold eY at h
  split at h
  ·rename_i hw;have hw':=bC hw;rcases Ir.1 h with e | h
   ·omega
   ·by_cases hk:k=0
    ·subst hk;rw [r0,hz,zXX,qb2] at h
     cases h
    ·obtain ⟨p,hp1,hp2⟩:=hu k al al;rw [r0,hp1,zXX] at h;have:=qee hz hu f p a h;omega
  ·cases h
theorem qb3{up:gs}(hz:up[0]?=ac (-1))(hu:∀ i:Nat,1<=i->i < up.length->∃ p:Nat,up[i]?=ac (p:Int)/\p < i):∀ (f k:Nat) (a:Nat),(a:Int)∈eY up f k->1<=a->k < f->a < up.length->(((up[a]?).getD 0))∈eY up f k
 | 0,k,a,h,_,hf,_=>by omega
 | f+1,k,a,h,ha,hf,hl=>by
  unfold eY at h ⊢
  split at h
  ·rename_i hw;rw [if_pos hw];have hw':=bC hw;rcases Ir.1 h with e | h
   ·have e:a=k:=by omega
    subst e;obtain ⟨p,hp1,hp2⟩:=hu a ha hl;rw [r0,hp1,zXX];refine zQv _ ?_;obtain ⟨f,rfl⟩:∃ g,f=g+1:=⟨f - 1,by omega⟩;have w2:aj (p:Int) 0 ((up.length:Int) - 1)=true:=by unfold aj; simp; omega
    unfold eY;rw [w2,if_pos rfl];exact zWX ..
   ·refine zQv _ ?_
    by_cases hk:k=0
    ·subst hk;rw [r0,hz,zXX,qb2] at h
     cases h
    ·obtain ⟨p,hp1,hp2⟩:=hu k al al;rw [r0,hp1,zXX] at h ⊢;exact qb3 hz hu f p a h ha al hl
  ·cases h
theorem qfh{t:bD}(ht:dm t=gi){a j:Nat}(hj:j < t.bl.length)(h:zN t (a:Int) (j:Int)=gi)(ha:1<=a):zN t (qbW t a:Int) (j:Int)=true:=by
 have hz:t.bl[0]?=ac (-1):=by
  unfold dm at ht;simp only [sk] at ht;have hg:t.bl[0]?=ac t.bl[0]:=sX al;have h2:=HP ht.1 0 _ hg;unfold Dg at h2;simp only [zYV,if_true,beq_iff_eq] at h2;rw [hg,h2]
 have hu:∀ i:Nat,1<=i->i < t.bl.length->∃ p:Nat,t.bl[i]?=ac (p:Int)/\p < i:=λi h1 h2=>⟨_,(WZ ht h1 h2).2,(WZ ht h1 h2).1⟩;unfold zN at h ⊢;simp only [sk,bne_iff_ne,ne_eq,List.any_eq_true,beq_iff_eq] at h ⊢;obtain ⟨hne,y,hy,e⟩:=h;subst e;unfold Bc at hy ⊢;have hle:=qee hz hu _ j _ hy;have hal:a < t.bl.length:=by omega
 have hp:=WZ ht ha hal;have hm:=qb3 hz hu _ j a hy ha hj hal;rw [hp.2,zXX] at hm;exact ⟨by omega,_,hm,rfl⟩
theorem qag{t:bD}(ht:dm t=gi){j:Nat}(h1:1<=j)(hj:j < t.bl.length){b:Int}:zN t (zp t j b) j=true:=by
 have w1:aj (j:Int) 1 ((t.bl.length:Int) - 1)=true:=by unfold aj; simp; omega
 unfold zp;rw [ht,w1];simp only [zXG,if_true]
 split
 ·rename_i hc;simp only [sk,decide_eq_true_eq] at hc;have hb:=bC (qc3 hc.1);obtain ⟨a,rfl⟩:=zQK hb.1;have:=qfh ht hj hc.1 al;rw [r0,(WZ ht (k:=a) al al).2];exact this
 ·rw [r0,(WZ ht h1 hj).2];exact qdx ht h1 hj
theorem qgX{t:bD}(ht:dm t=gi){cf:fq}(hc:ii cf=gi){b j:Nat}(hj:j < t.bl.length){n:aD}(h:M.NOk t b j n)(d:ar):M.NOk t b j (M.tick t cf j n d).fN:=by
 have hp:=qdw hc;have hf:cf.aN<=8:=by
  unfold ii at hc;simp only [sk] at hc;have:=bC hc.2;omega
 unfold M.tick
 cases ho:n.fJ with
 | false=>simpa [ho] using h
 | true =>
  simp only [zQY,zWQ,if_false]
  by_cases h0:j=0
  ·rw [if_pos al];exact HS h (qgV h.kids hf) ho
  ·rw [if_neg al]
   split
   ·exact PN hc h0 h ho d (qag ht al hj) ⟨zYY _,by decide⟩
   ·rename_i hq;have hb:=h.boss ho;rw [if_neg h0] at hb;have hqq:=h.q;have e:aS .i64 n.bn 1=n.bn+1:=dE al al;exact PN hc h0 h ho d hb (by rw [e]; omega)
theorem qgY{t:bD}(ht:dm t=gi){b j:Nat}(hb:b<=1000000)(hj:j < t.bl.length){n:aD}(h:M.NOk t b j n){d:ar}{p:ak}(hp:M.PkIn t p){new:gs}(hn:aw new){size:Int}(hs:cF size new.length=gi)(hF:WT (M.man 1 new size) p.fB)
  (hd:aw (bX d).2) (hr:(bX d).1=1->(bX d).2=new) (hm:n.aG≠0->n.aH=M.man 1 new size):M.NOk t (b+1) j (M.take t j n d p).fN:=by
 have h7:=CM ht;have hup:=W3 h (Nat.le_succ b);unfold M.take
 cases ho:n.fJ with
 | false=>simpa [ho] using hup
 | true =>
  simp only [zQY,zWQ,if_false]
  split
  ·rename_i hc;simp only [sk,bne_iff_ne,ne_eq] at hc;obtain ⟨⟨hok,hfr⟩,hne⟩:=hc;have hfr':=bC hfr;obtain ⟨c,hcc⟩:=zQK hfr'.1;obtain ⟨mok,_⟩:=WR hok
   split
   ·rename_i hk;have hmsg:=qgL mok hk;have hh:=qil (c:=c) h.kids al al (by rw [<- hcc]; exact hfr) hmsg.1 hmsg.2.1;unfold dV;rw [if_neg hne];dsimp only;rw [hcc]
    split
    ·exact HS hup hh ho
    split
    ·split
     ·exact HS hup (qaf hh _ _) ho
     ·exact HS hup (qaf hh _ _) ho
    ·exact HS hup hh ho
   split
   ·rename_i hbs;have hj0:j≠0:=λe=>by
     have:=h.boss ho;rw [if_pos e] at this;omega
    have hH:=qb1 hup ho;have hoH:(BZ n).fJ=true:=ho;have hD:=W4 hb (qb1 h ho) hoH;unfold iX
    split
    ·rename_i hk;have hman:=hF hok hk;unfold n8
     split
     ·rename_i hp0
      split
      ·rename_i hg;simp only [sk,bne_iff_ne,ne_eq] at hg;rw [hman] at hg ⊢;have hgood:=KF hg.1 hd;refine ⟨λe=>absurd (ho.symm.trans e) BL,hH.boss,hH.q,hH.dr,λ_=>⟨λe=>?_,λe=>absurd e hj0⟩,hH.kids,λ_=>⟨hgood,hg.2⟩,λe=>?_,λe=>?_,?_⟩
       ·have e:(if ((bX d).1 == (M.man 1 new size).aR) && jg (M.man 1 new size) (bX d).2 then (5:Int) else 1)=6:=e
        split at e <;> omega
       ·have e:(if ((bX d).1 == (M.man 1 new size).aR) && jg (M.man 1 new size) (bX d).2 then (5:Int) else 1)=0:=e
        split at e <;> omega
       ·have e:2<=(if ((bX d).1 == (M.man 1 new size).aR) && jg (M.man 1 new size) (bX d).2 then (5:Int) else 1):=e
        split at e
        ·rename_i hcur;simp only [sk,beq_iff_eq] at hcur;have e2:=hr hcur.1;show oZ (M.man 1 new size) (d8 (M.man 1 new size) (bX d).2)=gi;rw [e2,Fn hn hs hg.1];exact Np hn hs rfl hg.1
        ·omega
       ·show 0<=(if ((bX d).1 == (M.man 1 new size).aR) && jg (M.man 1 new size) (bX d).2 then (5:Int) else 1)/\(if ((bX d).1 == (M.man 1 new size).aR) && jg (M.man 1 new size) (bX d).2 then (5:Int) else 1)<=6
        split <;> omega
      ·exact hH
     ·split
      ·exact hH
      ·exact hD
    split
    ·rename_i hk;unfold gP
     split
     ·exact hD
     rename_i hph
     split
     ·exact hH
     split
     ·rename_i hput;have hp0:n.aG≠0:=λe=>hph (.inl e);obtain ⟨g1,g2⟩:=h.img hp0;have hbl:aw (dj p.fB).1.fB/\(dj p.fB).1.fB.length<=6:=by
       refine ⟨(Rx hp.w.1).b,?_⟩;unfold iQ at mok;rw [if_neg al,if_neg al,if_pos hk] at mok;simp only [sk] at mok;have:=bC mok.2;omega
      obtain ⟨q1,q2⟩:=qdz g1 (dj p.fB).1.fI hbl.1 hbl.2 hput;have hlow:¬ 2<=n.aG:=λe=>by
       have:=h.wh e;unfold oZ at this;simp only [sk,beq_iff_eq] at this;exact q2 this.2
      have hB:M.NOk t (b+1) j (Eo (BZ n) (kJ (BZ n).aH (BZ n).bi (dj p.fB).1.fI (dj p.fB).1.fB).1) :=
       ⟨λe=>absurd (ho.symm.trans e) BL,hH.boss,hH.q,hH.dr,hH.root,hH.kids,λ_=>⟨q1,g2⟩,λe=>absurd e hp0,λe=>absurd e hlow,hH.rg⟩
      unfold gG
      split
      ·exact HS hB (qgW _ _ _ _ _ hB.kids) ho
      ·exact hB
     ·exact hD
    ·exact hH
   ·exact W4 hb h ho
  ·exact W4 hb h ho
structure M.Wo (n:Nat) (w:World):Prop where
 s:qgQ n w
 c:ii w.fC=gi
 nok:∀ (j:Nat) (x:aD),w.fN[j]?=ac x->M.NOk w.fT n j x
 rd:∀ (d:ar) (o:aX),w.fD[0]?=ac d->w.bt[0]?=ac o->M.K0 o.fB d/\d.fP=[]
 ron:∀ x:aD,w.fN[0]?=ac x->x.fJ=gi
theorem qgZ(t:bD)(b j:Nat):M.NOk t b j lC :=
 ⟨λ_=>rfl,λe=>absurd e BL,⟨zYY _,by decide⟩,⟨zYY _,by show (0:Int)<=b; omega⟩,λe=>absurd e BL,λx hx=>qcg,λe=>absurd rfl e,λ_=>⟨rfl,rfl⟩,λe=>absurd e BL,⟨zYY _,by decide⟩⟩
theorem qb4{t:bD}(ht:dm t=gi)(b:Nat){j:Nat}(h1:1<=j)(hj:j < t.bl.length):M.NOk t b j (eP t j):=by
 rw [W0 ht h1 hj];refine ⟨λe=>(by cases e),λ_=>?_,⟨zYY _,show (0:Int)<=9 by decide⟩,⟨zYY _,by show (0:Int)<=b; omega⟩,λ_=>⟨λe=>absurd e (show ¬ (0:Int)=6 by decide),λe=>by omega⟩,λx hx=>qcg,λe=>absurd rfl e,λ_=>⟨rfl,rfl⟩,λe=>absurd e (show ¬ (2:Int)<=0 by decide),⟨zYY _,show (0:Int)<=6 by decide⟩⟩;rw [if_neg al];exact qdx ht h1 hj
theorem qjh{w:World}(h:M.NewW w):M.Wo 0 w:=by
 have ht:=h.d.wf.t;have hn:=h.d.wf.nl;refine ⟨⟨Z8 h,qgP h⟩,h.c,λj x hx=>?_,λd o hd ho=>?_,λx hx=>by rw [h.root x hx]⟩
 ·have hlt:=(ln.1 hx).1
  by_cases h0:j=0
  ·subst h0;have e:=h.root x hx;have mo:=CJ 1 h.d.new.2 w.fC.au;rw [zP h.s rfl] at mo e;have hw:oZ (M.man 1 w.bI w.fC.au) (d8 (M.man 1 w.bI w.fC.au) w.bI)=true:=by
    rw [Fn h.d.new.2 h.s mo];exact Np h.d.new.2 h.s rfl mo
   subst e;exact ⟨λe=>(by cases e),λ_=>by rw [if_pos rfl],⟨zYY _,show (0:Int)<=9 by decide⟩,⟨zYY _,by show (0:Int)<=(0:Nat); decide⟩,λ_=>⟨λ_=>rfl,λ_=>rfl⟩,λx hx=>qcg,λ_=>⟨KF mo h.d.new.2,show (1:Int)≠0 by decide⟩,λe=>absurd e (show ¬ (6:Int)=0 by decide),λ_=>hw,⟨show (0:Int)<=6 by decide,zYY _⟩⟩
  ·rw [h.node j x h0 hx];exact qb4 ht 0 al al
 ·have e:=h.disk 0 d o hd ho;subst e;exact ⟨⟨rfl,rfl,by simp⟩,rfl⟩
theorem qim{n:Nat}{w:World}{e:du}{w':World}(hn:n<=1000)(h:M.Wo n w)(he:L6 n w e)(hs:M.Step w e w'):M.Wo (n+1) w':=by
 have hS:qgQ (n+1) w':=qje.step n w e w' hn h.s he hs;have hD:=h.s.1.d;have hA:=h.s.2;have ht:=hD.wf.t;have h7:=CM ht;have nl:=hD.wf.nl;have dl:=hD.wf.dl;have ol:=hD.ol;have up:∀ (j:Nat) (x:aD),w.fN[j]?=ac x->M.NOk w.fT (n+1) j x:=λj x hx=>W3 (h.nok j x hx) (Nat.le_succ n)
 cases hs with
 | no=>exact ⟨hS,h.c,up,h.rd,h.ron⟩
 | tick j hj =>
  have hx:w.fN[j]?=ac (w.fN[j]'al):=sX _;have hd:w.fD[j]?=ac (w.fD[j]'al):=sX _;generalize w.fN[j]'al=x at hx;generalize w.fD[j]'al=d at hd;have e:sv w j=Kw (wP w j (M.tick w.fT w.fC j x d).fN (M.tick w.fT w.fC j x d).fD) (M.tick w.fT w.fC j x d).m9:=by unfold sv; rw [hx,hd]
  rw [e] at hS ⊢;refine ⟨hS,h.c,λk y hy=>?_,λd' o hd' ho=>?_,λy hy=>?_⟩
  ·have hy:(w.fN.set j (M.tick w.fT w.fC j x d).fN)[k]?=ac y:=hy;rcases AU hy with ⟨e1,rfl⟩ | ⟨_,hy⟩
   ·subst e1;exact W3 (qgX ht h.c hj (h.nok k x hx) d) (Nat.le_succ n)
   ·exact up k y hy
  ·have hd':(w.fD.set j (M.tick w.fT w.fC j x d).fD)[0]?=ac d':=hd';rcases AU hd' with ⟨e1,rfl⟩ | ⟨_,hd'⟩
   ·subst e1;have hon:=h.ron x hx;have:(M.tick w.fT w.fC (0:Nat) x d).fD=d:=by
     unfold M.tick;rw [hon,if_neg ig,if_pos (show ((0:Nat):Int)=0 from rfl)]
    rw [this];exact h.rd d o hd ho
   ·exact h.rd d' o hd' ho
  ·have hy:(w.fN.set j (M.tick w.fT w.fC j x d).fN)[0]?=ac y:=hy;rcases AU hy with ⟨e1,rfl⟩ | ⟨_,hy⟩
   ·subst e1;have hon:=h.ron x hx;unfold M.tick;rw [hon,if_neg ig,if_pos (show ((0:Nat):Int)=0 from rfl)];exact hon
   ·exact h.ron y hy
 | take j hj =>
  have hp:w.bj[j]?=ac (w.bj[j]'hj):=sX _;generalize w.bj[j]'hj=p at hp;have hpn:=zQQ hp;have hpi:=hD.wf.net p hpn;have hto:=bC hpi.t;obtain ⟨k,hk⟩:=zQK hto.1;have hx:w.fN[k]?=ac (w.fN[k]'al):=sX _;have hd:w.fD[k]?=ac (w.fD[k]'al):=sX _;have hoo:w.bt[k]?=ac (w.bt[k]'al):=sX _;generalize w.fN[k]'al=x at hx;generalize w.fD[k]'al=d at hd;generalize w.bt[k]'al=o at hoo;have e:sA w j=Kw (Nd (Dk w j) k (M.take w.fT p.s4 x d p).fN) (M.take w.fT p.s4 x d p).m9:=by
   unfold sA;rw [hp];dsimp only;unfold Kx;have hk':p.s4.toNat=k:=by rw [hk]; rfl
   rw [hk'];have hx':(Dk w j).fN[k]?=ac x:=hx;have hd':(Dk w j).fD[k]?=ac d:=hd;rw [hx',hd'];rfl
  have hol:=hD.old o (zQQ hoo);have hrec:aw (bX d).2/\((bX d).1=1->(bX d).2=w.bI):=by
   have key:bX d=(0,o.fB)\/bX d=(1,w.bI):=by
    by_cases h0:k=0
    ·subst h0;obtain ⟨k0,kp⟩:=h.rd d o hd hoo;exact .inl (KD hol.1 k0 (by rw [kp]; simp) (by rw [kp]; simp)).2
    ·rcases (PK hol.1 hD.new.1 hA.s (hA.disk k x d o h0 hx hd hoo)).2 with ⟨_,e1,_⟩ | ⟨_,e1,_⟩
     ·exact .inl e1
     ·exact .inr e1
   rcases key with e1 | e1
   ·rw [e1]; exact ⟨hol.2,λe=>absurd e (show ¬ (0:Int)=1 by decide)⟩
   ·rw [e1]; exact ⟨hD.new.2,λ_=>rfl⟩
  have hnk:=qgY ht al (show k < w.fT.bl.length by omega) (h.nok k x hx) hpi hD.new.2 hA.s (hA.msg p hpn) hrec.1 hrec.2 (hA.man k x hx);rw [<- hk] at hnk;have hkeep:=(WW (t:=w.fT) (me:=p.s4) (n:=x) (d:=d) (hA.msg p hpn)).on;rw [e] at hS ⊢;refine ⟨hS,h.c,λi y hy=>?_,h.rd,λy hy=>?_⟩
  ·have hy:(w.fN.set k (M.take w.fT p.s4 x d p).fN)[i]?=ac y:=hy;rcases AU hy with ⟨e1,rfl⟩ | ⟨_,hy⟩
   ·subst e1; exact hnk
   ·exact up i y hy
  ·have hy:(w.fN.set k (M.take w.fT p.s4 x d p).fN)[0]?=ac y:=hy;rcases AU hy with ⟨e1,rfl⟩ | ⟨_,hy⟩
   ·subst e1;rw [hkeep];exact h.ron x hx
   ·exact h.ron y hy
 | lose l hs hl=>exact ⟨hS,h.c,up,h.rd,h.ron⟩
 | push p hl hi hf=>exact ⟨hS,h.c,up,h.rd,h.ron⟩
 | fall j d hj h0 hd s =>
  refine ⟨hS,h.c,λk y hy=>?_,λd' o hd' ho=>?_,λy hy=>?_⟩
  ·have hy:(w.fN.set j lC)[k]?=ac y:=hy;rcases AU hy with ⟨e1,rfl⟩ | ⟨_,hy⟩
   ·exact qgZ _ _ _
   ·exact up k y hy
  ·have hd':(w.fD.set j (M.fall d s))[0]?=ac d':=hd';rcases AU hd' with ⟨e1,_⟩ | ⟨_,hd'⟩
   ·omega
   ·exact h.rd d' o hd' ho
  ·have hy:(w.fN.set j lC)[0]?=ac y:=hy;rcases AU hy with ⟨e1,_⟩ | ⟨_,hy⟩
   ·omega
   ·exact h.ron y hy
 | rise j x hj h0 hx ho =>
  refine ⟨hS,h.c,λk y hy=>?_,h.rd,λy hy=>?_⟩
  ·have hy:(w.fN.set j (eP w.fT j))[k]?=ac y:=hy;rcases AU hy with ⟨e1,rfl⟩ | ⟨_,hy⟩
   ·subst e1;exact qb4 ht _ al hj
   ·exact up k y hy
  ·have hy:(w.fN.set j (eP w.fT j))[0]?=ac y:=hy;rcases AU hy with ⟨e1,_⟩ | ⟨_,hy⟩
   ·omega
   ·exact h.ron y hy
theorem qji:M.Inv M.Wo:=⟨λ_ _ h=>h.s.1,λw h=>qjh h,λn w e w' hn h hb hs=>qim hn h hb hs⟩
theorem KG{a b:gs}(h:a.take b.length=b):oQ a b=true:=by
 unfold oQ mv;rw [h];have:=qbR h;simp [RH,this]
theorem qfi{new:gs}(hb:aw new)(hn:new.length<=16){size:Int}(hs:cF size new.length=gi){old:gs}(ho:old.length<=240){n:aD}{d:ar}(h:M.DS new old size n.aG d)(hm:n.aG≠0->n.aH=M.man 1 new size)(hw:2<=n.aG->oZ n.aH n.bi=gi)(hB:M.BldWf n.bi):rL new old n d=true:=by
 obtain ⟨hok,hrec⟩:=PK ho hn hs h;have hbuf:2<=n.aG->n.bi.bE=new:=λe=>by
  have:=hw e;rw [hm al] at this;exact YU hb hs hB this
 have h0:n.aG≠5->bX d=(0,old)->M.holds d 0 old=true:=λ_ e=>tx e;have kr:∀ {d:ar},M.K0 old d->bX d=(0,old)->M.holds d 0 old=true:=λ_ e=>tx e;unfold rL;generalize hph:n.aG=ph at *
 cases h with
 | idle k p =>
  rw [if_pos rfl,p];rcases hrec with ⟨_,e,_⟩ | ⟨_,e,_⟩
  ·rw [tx e]; rfl
  ·rw [tx e]; simp
 | idleN k =>
  rw [if_pos rfl,k.p,tx (Ns al k).2];simp
 | gather k p =>
  rw [if_neg BL,if_pos rfl,p];rcases hrec with ⟨_,e,_⟩ | ⟨_,_,e⟩
  ·rw [tx e]; rfl
  ·omega
 | staged k p =>
  have hr:bX d=(0,old):=by
   rcases hrec with ⟨_,e,_⟩ | ⟨_,_,e⟩
   ·exact e
   ·omega
  rw [if_neg BL,if_neg BL,if_neg BL,tx hr];have es:cP d=1:=by unfold cP; rw [k.r]; rfl
  have e1:(d.fP.all λp=>p.fm == cP d)=true:=by
   rw [zXZ,p,es];intro x hx;obtain ⟨i,_,rfl⟩:=List.mem_map.1 hx;rfl
  have e2:oQ (fV (M.sure d) (cP d)) new=true:=by
   rw [es];have hsd:=qea ho hn hs (M.DS.staged k p) (m:=M.man 1 new size) (λ_=>rfl) (x:=⟨0,[]⟩) (λe=>absurd e BL);have:M.DS new old size 3 (M.sure d):=hsd;generalize hp3:(3:Int)=q at this
   cases this <;> first | omega | (rename_i _ _ nn; exact KG nn)
  unfold nQ;rw [if_pos rfl,hbuf BL,e1,e2];rfl
 | sure k p nn =>
  have hr:bX d=(0,old):=by
   rcases hrec with ⟨_,e,_⟩ | ⟨_,_,e⟩
   ·exact e
   ·omega
  rw [if_neg BL,if_neg BL,if_neg BL,tx hr];have es:cP d=1:=by unfold cP; rw [k.r]; rfl
  have e2:oQ (fV d (cP d)) new=true:=by rw [es]; exact KG nn
  unfold nQ;rw [if_neg BL,if_pos rfl,hbuf BL,e2,p];rfl
 | meant k p nn =>
  have hr:bX d=(0,old):=by
   rcases hrec with ⟨_,e,_⟩ | ⟨_,_,e⟩
   ·exact e
   ·omega
  rw [if_neg BL,if_neg BL,if_neg BL,tx hr];have es:cP d=1:=by unfold cP; rw [k.r]; rfl
  have e2:oQ (fV d (cP d)) new=true:=by rw [es]; exact KG nn
  unfold nQ;rw [if_neg BL,if_neg BL,if_pos rfl,hbuf BL,hm BL,e2,p,es];unfold K6 M.man;simp
 | done k =>
  rw [if_neg BL,if_neg BL,if_pos rfl,k.p,tx (Ns al k).2];rfl
theorem qjP{n:Nat}{w:World}(h:M.Wo n w):zO w=true:=by
 have hD:=h.s.1.d;have hA:=h.s.2;have ht:=hD.wf.t;have h7:=CM ht;have nl:=hD.wf.nl;have dl:=hD.wf.dl;have ol:=hD.ol;have olds:iU w.bt w.fT.bl.length=true:=by
  unfold iU;simp only [sk,zXZ];refine ⟨λx hx=>?_,by simp [ol]⟩;have:=(hD.old x hx).1;simp; omega
 have nodes:fY (rM w) w.fN 0=true:=by
  refine PF w.fN 0 λj x hx=>?_;rw [zWY];have hlt:=(ln.1 hx).1;have hd:w.fD[j]?=ac (w.fD[j]'al):=sX _;have hoo:w.bt[j]?=ac (w.bt[j]'al):=sX _;generalize w.fD[j]'al=d at hd;generalize w.bt[j]'al=o at hoo;have hol:=hD.old o (zQQ hoo);have nk:=h.nok j x hx;have hin:=hD.wf.nodes j x hx;have e1:=qjg ht nk al hin.s;have e3:((x.aG == 0) || jN x.aH (p7 w))=true:=by
   by_cases h0:x.aG=0
   ·rw [h0]; rfl
   ·rw [hA.man j x hx h0];unfold p7;rw [zP hA.s rfl,PM];simp
  unfold rM;rw [hd,hoo];dsimp only;rw [e1,e3]
  by_cases h0:j=0
  ·subst h0;obtain ⟨k0,kp⟩:=h.rd d o hd hoo;have kr:=KD hol.1 k0 (by rw [kp]; simp) (by rw [kp]; simp);unfold tw;rw [if_pos rfl,kr.1,h.ron x hx,tx kr.2,kp];rfl
  ·have hds:=hA.disk j x d o h0 hx hd hoo;rw [if_neg h0,(PK hol.1 hD.new.1 hA.s hds).1,qfi hD.new.2 hD.new.1 hA.s hol.1 hds (hA.man j x hx) nk.wh hin.w.b];rfl
 have ends:w.bj.all (p9 w.fT)=true:=by
  rw [zXZ];intro p hp;have:=hD.wf.net p hp;unfold p9;have e1:aj p.dy 0 ((w.fT.bl.length:Int) - 1)=true:=this.f;have e2:aj p.s4 0 ((w.fT.bl.length:Int) - 1)=true:=this.t;rw [e1,e2]; rfl
 have hl:=hD.wf.len;have hlog:=hD.log;have hlost:=h.s.1.l0;unfold zO;rw [h.c,ht,hA.s,olds,nodes,ends,nl,dl];simp;omega
def Nt(d:ar):Prop:=aj d.fR.bW 0 1=gi/\∀ p∈d.fP,gf p=gi
structure M.DiskS (d:ar):Prop where
 i:M.DiskIn d
 s:Nt d
theorem qb5{d:ar}(h:bZ d=gi):Nt d:=by
 unfold bZ at h;simp only [sk,zXZ] at h;obtain ⟨⟨⟨⟨_,hr⟩,_⟩,_⟩,hp⟩:=h;unfold gN at hr;simp only [sk] at hr;exact ⟨hr.1.2,hp⟩
theorem qg0{d:ar}(h:Nt d)(p:dv):Nt (M.add d p).1:=by
 rcases Wu d p with ⟨e,e2⟩ | e
 ·rw [e]; exact qb5 e2
 ·rw [e]; exact h
theorem qg1{d:ar}(h:Nt d)(s a:Int)(b:gs):Nt (jE d s a b).1:=by
 unfold jE
 split
 ·exact qg0 h _
 ·exact h
theorem qb6{d0:ar}(h0:Nt d0)(b:gs)(size:Int):∀ (n i:Nat) (d:ar),Nt d->Nt (jP d0 b size n i d).1
 | 0,_,_,h=>h
 | n+1,i,d,h=>by
  unfold jP
  split
  ·exact qb6 h0 b size n (i+1) _ (qg1 h _ _ _)
  ·exact h0
theorem qef:∀ (l:List dv) (d:ar),(∀ p∈l,gf p=gi)->aj d.fR.bW 0 1=true->Nt (zo l d)
 | [],d,_,h=>⟨h,λp hp=>by cases hp⟩
 | p :: l,d,hl,h=>by
  unfold zo;refine qef l _ (λq hq=>hl q (zQv _ hq)) ?_;have hp:=hl p (zWX ..);unfold oL
  split
  ·rename_i h2;unfold gf at hp;rw [if_pos h2] at hp;simp only [sk] at hp;have:=hp.2;unfold gN at this;simp only [sk] at this;exact this.1.2
  ·split <;> exact h
theorem qeg{d:ar}(h:Nt d):Nt (M.sure d):=by
 unfold M.sure
 split
 ·exact qef _ _ h.2 h.1
 ·exact h
theorem qin{d:ar}(h:Nt d)(m:af)(x:aW)(ph:Int):Nt (cK d m x ph).1:=by
 unfold cK
 split
 ·split
  ·unfold m6
   split
   ·exact qb6 h _ _ _ _ _ h
   ·exact h
  ·exact h
 split
 ·exact qeg h
 split
 ·split
  ·exact qg0 h _
  ·exact h
 split
 ·exact qeg h
 ·exact h
theorem qah{d:ar}(hd:M.DiskS d){m:af}{x:aW}(hx:M.BldWf x)(ph:Int):M.DiskS (cK d m x ph).1:=⟨XP hd.i hx ph,qin hd.s m x ph⟩
theorem qfj{b:gs}(hb:M.img 240 b):Ev (ic 0 b) M.DiskS:=by
 obtain ⟨d,e,hd⟩:=qdj 0 (HR hb al);refine ⟨d,e,hd,?_⟩;obtain ⟨e1,e2⟩:=Fe (g:=0) BL BL hb.1;rw [e1] at e
 cases e
 exact qb5 e2
theorem qg2{d:ar}(h:Nt d):aj (cP d) 0 1=true:=by
 have:=bC h.1;unfold cP;rw [db al al];unfold aj;simp; omega
theorem qb7(hu:UB){c:aL}(hc:Cu c):Ev (Ax c) λv=>M.DiskS v.1/\M.DrMan v.2.1 v.2.2.2.2.2.1/\M.BldWf v.2.2.1/\M.img 240 v.2.2.2.2.1/\Cu v.2.2.2.2.2.2:=by
 unfold Ax;refine bx (YP hu hc) λr hr=>bx (qgF hu hr.2 (HR hr.1.i al)) λo ho=>?_;have hn:=hr.1.n;have hb1:=hr.1.i.1;have ho1:=ho.1.1;have key:∀ (m k:Nat) (ph:Int) (d:ar) (x:aW) (q:Int×aL),m < k->m<=1000->M.DiskS d->M.BldWf x->Cu q.2 ->
   Ev (m0 k r o ph (m:Int) q d.fA d.fB d.fR.aR d.fR.bW d.fR.aT d.fP x.bc x.bE) λv=>M.DiskS v.1/\M.DrMan v.2.1 v.2.2.2.2.2.1/\M.BldWf v.2.2.1/\M.img 240 v.2.2.2.2.1/\Cu v.2.2.2.2.2.2:=by
  intro m
  induction m with
  | zero =>
   intro k ph d x q hk _ hd hx hq;obtain ⟨k,rfl⟩:∃ j,k=j+1:=⟨k - 1,by omega⟩;unfold m0;simp only [zVq,gt_iff_lt,Int.lt_irrefl,decide_false,cond_false,C2];exact cU ⟨hd,hr.1,hx,ho.1,hq⟩
  | succ m ih =>
   intro k ph d x q hk hm hd hx hq;obtain ⟨k,rfl⟩:∃ j,k=j+1:=⟨k - 1,by omega⟩;unfold m0;have:((m+1:Nat):Int) > 0:=by omega
   simp only [this,decide_true,cond_true];rw [db al al,show ((m+1:Nat):Int) - 1=(m:Int) by omega];have hl:=hd.i.l;refine fc (Fk hu (d:=d) hd.i.o al (m:=r.1) al (x:=x) hx ph) ?_;exact ih k _ _ x q al al (qah hd hx ph) hx hq
 have j1:∀ (p:Bool×aL) (d:ar) (x:aW),Cu p.2->M.DiskS d->M.BldWf x->Ev (ti r o p d x.bc x.bE) λv=>M.DiskS v.1/\M.DrMan v.2.1 v.2.2.2.2.2.1/\M.BldWf v.2.2.1/\M.img 240 v.2.2.2.2.1/\Cu v.2.2.2.2.2.2:=by
  intro p d x hp hd hx;unfold ti;refine bx (eu hp _) λn hnn=>?_;have h1:=hnn.1.1;have h2:=hnn.1.2 al;obtain ⟨j,hj⟩:∃ j:Nat,n.1=(j:Int):=⟨n.1.toNat,by omega⟩;have:=key j u 1 d x n al al hd hx hnn.2;rw [hj];exact this
 refine bx (qfj (HR ho.1 al)) λd hd=>fc (uv hu al hr.1.i.2 al) (bx (Gj ho.2 5) λp hp=>cg (λ_=>?_) (λ_=>?_))
 ·refine fc (uv hu al ho.1.2 al) (j1 p d _ hp hd (Be hr.1.o ho.1.2 al).b)
 ·exact j1 p d _ hp hd (Be hr.1.o hr.1.i.2 al).b
theorem qeh{w:World}(h:M.DrW w):M.WIn w:=by
 have h7:=GK h.wf;have hn:=h.wf.nl;have hd:=h.wf.dl;have hl:=h.wf.len;have ho:=h.ol;have hnew:=h.new.1;refine ⟨⟨h.new.2,by omega,by omega,λx hx=>⟨(h.old x hx).2,by have:=(h.old x hx).1; omega⟩⟩,by omega,by omega,by omega,by omega,λn hx=>?_,λd hx=>?_⟩
 ·obtain ⟨j,hj⟩:=Sh.1 hx;have g:=h.wf.nodes j n hj;exact ⟨g.w.s,g.w.b,by have:=YI g.s; omega⟩
 ·obtain ⟨j,hj⟩:=Sh.1 hx;exact (h.wf.disks j d hj).o
theorem qfk(hu:UB){m:af}{b:gs}(hb:M.img 16 b)(mo:cG m=gi)(hs:m.aI.length<=40)(hg:m.aR≠0)(ht:jg m b=gi):tI m b=ac ⟨gi,-1,0,m,d8 m b,6,[],0⟩:=by
 have hl:=hb.1;have e:(m.aR == 0)=false:=by simpa using hg
 unfold tI qQ;rw [e,Cd hu m al,mo,XH hu m hb.2 al,ht,I9 al,Pm hu al hb.2 al];rfl
theorem RN(hu:UB){c:fq}(hc:ii c=gi){t:bD}(ht:HQ t){b:gs}(hb:M.img 16 b)(hs:cF c.au (b.length:Int)=gi){old:List aX}(ho:old.length=t.bl.length)(hol:∀ x∈old,M.img 240 x.fB):Ev (nD c t b old) λw=>M.NewW w/\w.bt=old/\w.bI=b/\w.fC=c/\w.fT=t:=by
 have t1:=ht.2.1;have t2:=ht.2.2;have b1:=hb.1;have hoo:iU old (t.bl.length:Int)=true:=by
  unfold iU;simp only [sk];refine ⟨zm.2 λx hx=>?_,by simp [ho]⟩;have:=(hol x hx).1;simp;omega
 have ht1:jg (dZ 1 b c.au) b=true:=Gi hs BL;have hg1:(dZ 1 b c.au).aR≠0:=by rw [zP hs BL]; show (1:Int)≠0; decide
 have hr1:=qfk hu hb (CJ 1 hb.2 c.au) (Hz 1 b c.au) hg1 ht1;obtain ⟨_,hr2⟩:=KE hu t (WP hb 1 c.au) hg1 ht1;have loop:∀ (m k i:Nat) (ns:List aD) (ds:List ar),i+m=t.bl.length->m < k->ns.length=i->ds.length=i ->
   (∀ (j:Nat) (n:aD),ns[j]?=ac n->n=if j=0 then ⟨gi,-1,0,dZ 1 b c.au,d8 (dZ 1 b c.au) b,6,[],0⟩ else eP t j)->(∀ (j:Nat) (d:ar),ds[j]?=ac d->∃ o,old[j]?=ac o/\d=⟨o.fB,[],⟨0,0,o.fB.length⟩,[]⟩) ->
   Ev (ft k b old t (i:Int) c ns ds) λw=>M.NewW w/\w.bt=old/\w.bI=b/\w.fC=c/\w.fT=t:=by
  intro m
  induction m with
  | zero =>
   intro k i ns ds hi hk h1 h2 h3 h4;obtain ⟨k,rfl⟩:∃ j,k=j+1:=⟨k - 1,by omega⟩;unfold ft;have:¬ (i:Int) < (t.bl.length:Int):=by omega
   simp only [this,decide_false,cond_false,v8];have hN:M.NewW ⟨c,t,b,old,ns,ds,[],[],0⟩:=by
    refine ⟨⟨⟨ht.1,by show ns.length=t.bl.length; omega,by show ds.length=t.bl.length; omega,λj n hn=>?_,λj d hd=>?_,λp hp=>by simp at hp,by simp⟩,ho,hol,hb,by simp⟩,rfl,rfl,rfl,hc,hs,λn hn=>by simpa using h3 0 n hn,λj n h0 hn=>(h3 j n hn).trans (if_neg h0),λj d o hd ho'=>?_⟩
    ·have e:=h3 j n hn
     by_cases h0:j=0
     ·subst h0;rw [e,if_pos rfl];exact hr2
     ·rw [e,if_neg h0];exact PG ht.1 al (by have:=(ln.1 hn).1; have:j < ns.length:=this; omega)
    ·obtain ⟨o,h5,h6⟩:=h4 j d hd;rw [h6];exact qdk (hol o (zQQ h5))
    ·obtain ⟨o',h5,h6⟩:=h4 j d hd;have ho':old[j]?=ac o:=ho';rw [h5] at ho'
     cases ho'
     exact h6
   rw [PJ hu (Z6 hN.d)];exact ⟨_,rfl,hN,rfl,rfl,rfl,rfl⟩
  | succ m ih =>
   intro k i ns ds hi hk h1 h2 h3 h4;obtain ⟨k,rfl⟩:∃ j,k=j+1:=⟨k - 1,by omega⟩;unfold ft;have hlt:(i:Int) < (t.bl.length:Int):=by omega
   simp only [hlt,decide_true,cond_true];have step:∀ n:aD,(n=if i=0 then ⟨gi,-1,0,dZ 1 b c.au,d8 (dZ 1 b c.au) b,6,[],0⟩ else eP t i)->Ev (lq (λz0 z1 z2 z3 z4 z5 z6=>ft k z0 z1 z2 z3 z4 z5 z6) b old (i:Int) t c ns ds n.fJ n.bG n.bn n.aH.aR n.aH.au n.aH.aT n.aH.aI n.bi.bc n.bi.bE n.aG n.aZ n.be) λw=>M.NewW w/\w.bt=old/\w.bI=b/\w.fC=c/\w.fT=t:=by
    intro n hn;unfold lq;obtain ⟨x,hx⟩:∃ x,old[i]?=ac x:=⟨_,sX al⟩;have hxl:=(hol x (zQQ hx)).1;refine k6 f6 (fc (kI old i hx) (fc (Uf (g:=0) BL BL hxl) (k6 f6 ?_)));rw [fa (show i < 9223372036854775807 by omega)];refine ih k (i+1) _ _ al al (by simp [h1]) (by simp [h2]) (λj n' hj=>?_) (λj d' hj=>?_)
    ·by_cases hji:j < ns.length
     ·rw [zQW hji] at hj;exact h3 j n' hj
     ·rw [zQX al] at hj
      cases hq:j - ns.length with
      | zero =>
       rw [hq] at hj;simp only [zQz,Option.some.injEq] at hj;have:j=i:=by omega
       subst this hj;exact hn
      | succ q=>rw [hq] at hj; simp at hj
    ·by_cases hji:j < ds.length
     ·rw [zQW hji] at hj;exact h4 j d' hj
     ·rw [zQX al] at hj
      cases hq:j - ds.length with
      | zero =>
       rw [hq] at hj;simp only [zQz,Option.some.injEq] at hj;have:j=i:=by omega
       subst this;exact ⟨x,hx,hj.symm⟩
      | succ q=>rw [hq] at hj; simp at hj
   refine fc (RI hu al _) ?_
   cases i with
   | zero =>
    refine cg (λ_=>?_) (λe=>by simp at e);exact fc (LN hu hb.2 al 1 c.au) (fc hr1 (step _ rfl))
   | succ i =>
    refine cg (λe=>?_) (λ_=>step _ ig);simp at e;omega
 unfold nD;refine fc (Fm c) ?_;rw [hc];refine cg (λe=>by cases e) λ_=>fc (vK hu al) ?_;rw [ht.1];refine cg (λe=>by cases e) λ_=>fc (rC _ _) ?_;rw [hs];refine cg (λe=>by cases e) λ_=>fc (Bh hu al _) ?_;rw [hoo];unfold lr;refine cg (λe=>by cases e) λ_=>?_;exact loop t.bl.length u 0 [] [] al al rfl rfl (λj n h=>by simp at h) (λj n h=>by simp at h)
theorem qio{w v:World}(h:M.NewW w)(k:M.NewW v)(e1:w.fC=v.fC)(e2:w.fT=v.fT)(e3:w.bI=v.bI)(e4:w.bt=v.bt):w=v:=by
 have hn:=h.d.wf.nl;have hd:=h.d.wf.dl;have ho:=h.d.ol;have kn:=k.d.wf.nl;have kd:=k.d.wf.dl;have eN:w.fN=v.fN:=by
  apply zYy
  intro j
  by_cases hj:j < w.fT.bl.length
  ·have a:w.fN[j]?=ac (w.fN[j]'al):=sX _;have b:v.fN[j]?=ac (v.fN[j]'(by rw [kn,<- e2]; exact hj)):=sX _;generalize w.fN[j]'al=x at a;generalize v.fN[j]'(by rw [kn,<- e2]; exact hj)=y at b;rw [a,b]
   by_cases h0:j=0
   ·subst h0;rw [h.root x a,k.root y b,e3,e1]
   ·rw [h.node j x h0 a,k.node j y h0 b,e2]
  ·rw [zXK al,zXK (by rw [kn,<- e2]; omega)]
 have eD:w.fD=v.fD:=by
  apply zYy
  intro j
  by_cases hj:j < w.fT.bl.length
  ·have a:w.fD[j]?=ac (w.fD[j]'al):=sX _;have b:v.fD[j]?=ac (v.fD[j]'(by rw [kd,<- e2]; exact hj)):=sX _;have o:w.bt[j]?=ac (w.bt[j]'al):=sX _;generalize w.fD[j]'al=x at a;generalize v.fD[j]'(by rw [kd,<- e2]; exact hj)=y at b;generalize w.bt[j]'al=z at o;rw [a,b,h.disk j x z a o,k.disk j y z b (by rw [<- e4]; exact o)]
  ·rw [zXK al,zXK (by rw [kd,<- e2]; omega)]
 have a1:=h.net;have a2:=h.log;have a3:=h.lost;have b1:=k.net;have b2:=k.log;have b3:=k.lost;obtain ⟨wc,wt,wn,wo,wN,wD,wp,wl,ws⟩:=w;obtain ⟨vc,vt,vn,vo,vN,vD,vp,vl,vs⟩:=v;simp only at e1 e2 e3 e4 eN eD a1 a2 a3 b1 b2 b3;subst e1 e2 e3 e4 eN eD a1 a2 a3 b1 b2 b3;rfl
def M.w0:World:=⟨⟨0,0,0,0⟩,⟨[]⟩,[],[],[],[],[],[],0⟩
def UF(c:fq)(t:bD)(b:gs)(old:List aX):Bool:=ii c && dm t && cF c.au b.length && iU old t.bl.length
theorem qip(hu:UB){c:fq}{t:bD}(ht:t.bl.length<=7){b:gs}{old:List aX}(ho:old.length<=1048576)(h:UF c t b old=go):nD c t b old=ac M.w0/\je c t b old=ac M.w0:=by
 unfold nD lr je jG;rw [Fm,vK hu al,rC,Bh hu ho,Bg,oO hu al,ms,yW hu ho];simp only [wk];unfold UF at h
 cases h1:ii c with
 | false=>exact ⟨rfl,rfl⟩
 | true =>
  cases h2:dm t with
  | false=>exact ⟨rfl,rfl⟩
  | true =>
   cases h3:cF c.au b.length with
   | false=>exact ⟨rfl,rfl⟩
   | true =>
    cases h4:iU old t.bl.length with
    | false=>exact ⟨rfl,rfl⟩
    | true=>rw [h1,h2,h3,h4] at h; cases h
def qdA(c:fq)(t:bD)(b:gs)(old:List aX)(w:World):Prop:=M.NewW w/\w.fC=c/\w.fT=t/\w.bI=b/\w.bt=old
theorem qai(hu:UB){c:fq}(hc:ii c=gi){t:bD}(ht:HQ t){b:gs}(hb:M.img 16 b){old:List aX}(ho:old.length=t.bl.length)(hol:∀ x∈old,M.img 240 x.fB):Ev (je c t b old) (qdA c t b old):=by
 have t1:=ht.2.1;have t2:=ht.2.2;have b1:=hb.1;have hs:cF c.au (b.length:Int)=true:=by
  unfold ii at hc;simp only [sk] at hc;have:=bC hc.1.1.1;unfold cF;simp only [hc.1.1.1,zQh];unfold aj;simp;omega
 have hoo:iU old (t.bl.length:Int)=true:=by
  unfold iU;simp only [sk];refine ⟨zm.2 λx hx=>?_,by simp [ho]⟩;have:=(hol x hx).1;simp;omega
 have ht1:jg (dZ 1 b c.au) b=true:=Gi hs BL;have hg1:(dZ 1 b c.au).aR≠0:=by rw [zP hs BL]; show (1:Int)≠0; decide
 obtain ⟨hr1,hr2⟩:=KE hu t (WP hb 1 c.au) hg1 ht1;have loop:∀ (m k i:Nat) (ns:List aD) (ds:List ar),i+m=t.bl.length->m < k->ns.length=i->ds.length=i ->
   (∀ (j:Nat) (n:aD),ns[j]?=ac n->n=if j=0 then ⟨gi,-1,0,dZ 1 b c.au,d8 (dZ 1 b c.au) b,6,[],0⟩ else eP t j)->(∀ (j:Nat) (d:ar),ds[j]?=ac d->∃ o,old[j]?=ac o/\d=⟨o.fB,[],⟨0,0,o.fB.length⟩,[]⟩) ->
   Ev (dG k b old (i:Int) c t old ns ds) (qdA c t b old):=by
  intro m
  induction m with
  | zero =>
   intro k i ns ds hi hk h1 h2 h3 h4;obtain ⟨k,rfl⟩:∃ j,k=j+1:=⟨k - 1,by omega⟩;unfold dG;have:¬ (i:Int) < (t.bl.length:Int):=by omega
   simp only [this,decide_false,cond_false,qK];refine cU ⟨?_,rfl,rfl,by simp,rfl⟩;refine ⟨⟨⟨ht.1,by show ns.length=t.bl.length; omega,by show ds.length=t.bl.length; omega,λj n hn=>?_,λj d hd=>?_,λp hp=>by simp at hp,by simp⟩,ho,hol,by simpa using hb,by simp⟩,rfl,rfl,rfl,hc,by simpa using hs,λn hn=>by simpa using h3 0 n hn,λj n h0 hn=>(h3 j n hn).trans (if_neg h0),λj d o hd ho'=>?_⟩
   ·have e:=h3 j n hn
    by_cases h0:j=0
    ·subst h0;rw [e,if_pos rfl];exact hr2
    ·rw [e,if_neg h0];exact PG ht.1 al (by have:=(ln.1 hn).1; have:j < ns.length:=this; omega)
   ·obtain ⟨o,h5,h6⟩:=h4 j d hd;rw [h6];exact qdk (hol o (zQQ h5))
   ·obtain ⟨o',h5,h6⟩:=h4 j d hd;have ho':old[j]?=ac o:=ho';rw [h5] at ho'
    cases ho'
    exact h6
  | succ m ih =>
   intro k i ns ds hi hk h1 h2 h3 h4;obtain ⟨k,rfl⟩:∃ j,k=j+1:=⟨k - 1,by omega⟩;unfold dG;have hlt:(i:Int) < (t.bl.length:Int):=by omega
   simp only [hlt,decide_true,cond_true];have step:∀ n:aD,(n=if i=0 then ⟨gi,-1,0,dZ 1 b c.au,d8 (dZ 1 b c.au) b,6,[],0⟩ else eP t i)->Ev (iM (λz0 z1 z2 z3 z4 z5 z6 z7=>dG k z0 z1 z2 z3 z4 z5 z6 z7) b old (i:Int) c t old ns ds n.fJ n.bG n.bn n.aH.aR n.aH.au n.aH.aT n.aH.aI n.bi.bc n.bi.bE n.aG n.aZ n.be) (qdA c t b old):=by
    intro n hn;unfold iM;obtain ⟨x,hx⟩:∃ x,old[i]?=ac x:=⟨_,sX al⟩;have hxl:=(hol x (zQQ hx)).1;refine k6 f6 (fc (kI old i hx) (fc (Fe (g:=0) BL BL hxl).1 (k6 f6 ?_)));rw [fa (show i < 9223372036854775807 by omega)];refine ih k (i+1) _ _ al al (by simp [h1]) (by simp [h2]) (λj n' hj=>?_) (λj d' hj=>?_)
    ·by_cases hji:j < ns.length
     ·rw [zQW hji] at hj;exact h3 j n' hj
     ·rw [zQX al] at hj
      cases hq:j - ns.length with
      | zero =>
       rw [hq] at hj;simp only [zQz,Option.some.injEq] at hj;have:j=i:=by omega
       subst this hj;exact hn
      | succ q=>rw [hq] at hj; simp at hj
    ·by_cases hji:j < ds.length
     ·rw [zQW hji] at hj;exact h4 j d' hj
     ·rw [zQX al] at hj
      cases hq:j - ds.length with
      | zero =>
       rw [hq] at hj;simp only [zQz,Option.some.injEq] at hj;have:j=i:=by omega
       subst this;exact ⟨x,hx,hj.symm⟩
      | succ q=>rw [hq] at hj; simp at hj
   refine fc (B0 hu al _) ?_
   cases i with
   | zero =>
    refine cg (λ_=>?_) (λe=>by simp at e);refine fc (r:=ki _) (v:=dZ 1 b c.au) ?_ (fc hr1 (step _ rfl));unfold ki;simp only [zQj];rw [ye hu hb.2 al];rfl
   | succ i =>
    refine cg (λe=>?_) (λ_=>step _ ig);simp at e;omega
 unfold je;refine fc (Bg c) ?_;rw [hc];refine cg (λe=>by cases e) λ_=>fc (oO hu al) ?_;rw [ht.1];refine cg (λe=>by cases e) λ_=>fc (ms _ _) ?_;rw [hs];refine cg (λe=>by cases e) λ_=>fc (yW hu al _) ?_;rw [hoo];unfold jG;refine cg (λe=>by cases e) λ_=>k6 f6 (k6 f6 (fc (Bi hu al λx hx=>by have:=(hol x hx).1; omega) ?_));exact loop t.bl.length u 0 [] [] al al rfl rfl (λj n h=>by simp at h) (λj n h=>by simp at h)
theorem qjj:M.WCp M.w0:=⟨by decide,by decide,by decide,λx hx=>qcg,by decide,λx hx=>qcg,by decide,λx hx=>qcg,by decide,λx hx=>qcg,by decide⟩
theorem qg3(hu:UB){c:fq}{t:bD}(ht:t.bl.length<=7){b:gs}(hb:M.img 16 b){old:List aX}(ho:old.length<=7)(hol:∀ x∈old,M.img 240 x.fB):∃ w,nD c t b old=ac w/\je c t b old=ac w/\M.WCp w/\(w.fN=[]\/M.NewW w):=by
 cases h:UF c t b old with
 | false =>
  obtain ⟨e1,e2⟩:=qip hu ht al h;exact ⟨_,e1,e2,qjj,.inl rfl⟩
 | true =>
  unfold UF at h;simp only [sk] at h;obtain ⟨⟨⟨h1,h2⟩,h3⟩,h4⟩:=h;have h7:=CM h2;have hl:old.length=t.bl.length:=by
   unfold iU at h4;simp only [sk,beq_iff_eq] at h4;have:=h4.2;omega
  obtain ⟨w,e1,a1,a2,a3,a4,a5⟩:=RN hu h1 (t:=t) ⟨h2,h7.1,h7.2⟩ hb h3 hl hol;obtain ⟨v,e2,b1,b2,b3,b4,b5⟩:=qai hu h1 (t:=t) ⟨h2,h7.1,h7.2⟩ hb hl hol;have:w=v:=qio a1 b1 (a4.trans b2.symm) (a5.trans b3.symm) (a3.trans b4.symm) (a2.trans b5.symm);subst this;exact ⟨w,e1,e2,Z6 a1.d,.inr a1⟩
theorem qiq{w:World}(h:M.AnyW w):M.WIn w:=by
 have h1:=h.t;have h2:=h.nl;have h3:=h.dl;have h4:=h.pl;exact ⟨qdt h,by omega,by omega,by omega,by omega,λn hn=>⟨(h.nk n hn).1,(h.cp.n n hn).b,(h.nk n hn).2⟩,h.cp.d⟩
theorem qg4{w:World}(h:∀ (j:Nat) (n:aD),w.fN[j]?=ac n->n.fJ=gi):(GG w).length=w.fN.length:=by
 unfold GG;rw [zWw,List.filter_eq_self.2,List.length_range'];intro k hk;have:=List.mem_range'_1.1 hk;rw [Uz (sX (show k < w.fN.length by omega))];exact h k _ (sX _)
theorem qb8{w:World}(h:∀ (j:Nat) (n:aD),w.fN[j]?=ac n->n.aG≠5):CI w=[]:=by
 unfold CI;rw [List.map_eq_nil_iff,List.filter_eq_nil_iff];intro k hk;have:=List.mem_range'_1.1 hk;rw [Rn (sX (show k < w.fN.length by omega))];have:=h k _ (sX (show k < w.fN.length by omega))
 simpa using this
theorem qfl{w:World}(h:M.NewW w):(∀ (j:Nat) (n:aD),w.fN[j]?=ac n->n.fJ=gi)/\∀ (j:Nat) (n:aD),w.fN[j]?=ac n->n.aG≠5:=by
 have key:∀ (j:Nat) (n:aD),w.fN[j]?=ac n->n.fJ=gi/\n.aG≠5:=λj n hn=>by
  have hlt:=(ln.1 hn).1;have hnl:=h.d.wf.nl
  by_cases h0:j=0
  ·subst h0;rw [h.root n hn];exact ⟨rfl,show (6:Int)≠5 by decide⟩
  ·rw [h.node j n h0 hn,W0 h.d.wf.t al al];exact ⟨rfl,show (0:Int)≠5 by decide⟩
 exact ⟨λj n hn=>(key j n hn).1,λj n hn=>(key j n hn).2⟩
theorem qir(hu:UB){l:gs}:N0 (0 :: l) 0=ac true:=by
 obtain ⟨k,hz⟩:∃ j,u=j+1:=⟨u - 1,by omega⟩;unfold N0;rw [hz];unfold zi;have e:decide ((0:Int) < ((0 :: l:gs).length:Int))=true:=by simp only [zQw,decide_eq_true_eq]; omega
 rw [e];rfl
theorem qdB(hu:UB){code:gs}(hl:code.length<=1048576):Ev (pP code) λv=>v.2.1.bl.length<=7/\M.img 16 v.2.2.1/\v.2.2.2.length<=7/\∀ x∈v.2.2.2,M.img 240 x.fB:=by
 unfold pP;refine bx (Z5 hu hl) λc hc=>bx (YS hu hc) λr2 h2=>?_;have h7:=CM h2.1.d.wf.t;have hol:=h2.1.d.ol;have j2:∀ (a b d e:Int) (up:gs),up.length<=7->Ev (pO a b d e up r2) λv=>v.2.1.bl.length<=7/\M.img 16 v.2.2.1/\v.2.2.2.length<=7/\∀ x∈v.2.2.2,M.img 240 x.fB:=λa b d e up hup=>cU ⟨hup,h2.1.d.new,show r2.1.bt.length<=7 by omega,h2.1.d.old⟩;have j1:∀ (a b d e:Int) (c:aL),Cu c->Ev (l5 a b d e c.fB c.fI c.fH r2) λv=>v.2.1.bl.length<=7/\M.img 16 v.2.2.1/\v.2.2.2.length<=7/\∀ x∈v.2.2.2,M.img 240 x.fB:=λa b d e c hc=>by
  unfold l5;exact bx (Gj hc 6) λr hr=>cg (λ_=>bx (YO hu hr) λt ht=>j2 _ _ _ _ _ ht.1) λ_=>j2 _ _ _ _ _ al
 exact bx (Gj h2.2 4) λr hr=>cg (λ_=>bx (YQ hr) λq hq=>j1 _ _ _ _ _ hq) λ_=>j1 _ _ _ _ _ hr
theorem qdC(hu:UB){code:gs}(hl:code.length<=1048576):Ev (ou code) λv=>M.DiskS v.1:=by
 unfold ou;refine bx (Z5 hu hl) λc hc=>bx (qb7 hu hc) λr h=>?_;refine bx (Gj h.2.2.2.2 4) λq hq=>cg (λ_=>bx (eu hq 8) λz hz=>cU h.1) λ_=>cU h.1
theorem qaj(hu:UB)(code:gs):tZ code=ac true:=by
 unfold tZ Ny;simp only [wk]
 cases hbig:decide ((code.length:Int) > 1048576) with
 | true=>rfl
 | false =>
  have hl:code.length<=1048576:=by simp at hbig; omega
  simp only [cond_false];obtain ⟨r,e2,n1,n2,n3,n4⟩:=qdB hu hl;obtain ⟨w,e3,e7,hcp,hw⟩:=qg3 hu (c:=r.1) n1 n2 n3 n4;obtain ⟨v,e4,hv⟩:Ev (rc code) λv=>M.AnyW v:=by
   unfold rc;exact bx (qdu hu hl 80) λr h=>cU h.1
  obtain ⟨x,e5,n,hn,hx⟩:=qac qji hu hl;obtain ⟨q,e6,hq⟩:=qdC hu hl;have hvi:=qiq hv;have hxi:=qeh hx.s.1.d;have hvn:=hv.nl;have hvl1:=qbg v;have hvd:(CI v).length<=v.fN.length:=by
   unfold CI;rw [zWw];exact zXQ (List.length_filter_le _ _) ig
  have hml:=Hz 1 v.bI v.fC.au;have hmi:(p7 v).aI.length<=1048577:=by unfold p7; omega
  have hspare:=qg2 hq.s;rw [e2];simp only [wk];rw [e3];simp only [wk];rw [e4,wk,e5,wk,e6,wk,e7,wk,Lw hu hcp,wk,Dm hu hvi,wk,Ue hu hvi,wk,Dm hu hxi,wk,qjP hx,
   Gg hu hq.i.o hspare,wk,Gf hu hq.i.o hspare,wk,Ip hu al,wk,ZG hu al,wk,zt hu al,wk,
   Kn hu al,wk,Wg hu al,wk,zt hu al,wk,LQ hu (qdt hv),wk,LR hu (qdt hv),wk,Gk hu hmi,wk]
  clear hxi hvi
  simp only [zQY,cond_false,beq_self_eq_true];unfold iP;simp only [cond_false];rcases hw with hw | hw
  ·rw [hw]; rfl
  ·obtain ⟨k1,k2⟩:=qfl hw;have h7:=CM hw.d.wf.t;have hwn:=hw.d.wf.nl;have hxn:=hx.s.1.d.wf.nl;have hx7:=CM hx.s.1.d.wf.t;have e0:(((w.fN.length:Int)) == 0)=false:=beq_eq_false_iff_ne.2 al;have eup:GG x=0 :: ((zXW 1 (x.fN.length - 1)).filter (Kf x)).map λ(k:Nat)=>(k:Int):=by
    unfold GG;obtain ⟨m,hm⟩:∃ m,x.fN.length=m+1:=⟨x.fN.length - 1,by omega⟩;have hon:Kf x 0=true:=by
     rw [Uz (sX (show 0 < x.fN.length by omega))];exact hx.ron _ (sX _)
    rw [hm,zYj,List.filter_cons,hon];rfl
   rw [e0,Dm hu (qeh hw.d),qik hw,Ip hu al,Kn hu al,Ip hu al];simp only [wk,cond_false,cond_true];rw [qg4 k1,qb8 k2,eup,qir hu];simp
theorem qak(p0:gs)(h:Ve (mn .u8) p0/\True):tZ p0=ac true:=qaj (Classical.choose_spec u0) p0
end Go.Tm.Pu
