/- Plain laws of the functions. -/
import Derived.Test.YtdcoelkflgpfgaaGreatCFnWorldsP1
set_option linter.unusedVariables false
set_option linter.unusedSimpArgs false
open Bool renaming and_eq_true->sk,and_self->zXG,and_true->zXH,eq_iff_iff->zXg,false_and->zVK,false_eq_true->zWQ,not_false->zZH,not_true->zQY,true_and->zQh
open Int renaming add_mul->zVV,toNat->sY,toNat_natCast->r0
open List renaming all_eq_true->zXZ,any_cons->zVx,append_assoc->zQJ,append_cancel_left->zVW,append_nil->zWV,drop_drop->zZJ,drop_eq_getElem_cons->zYZ,drop_of_length_le->zXz,drop_zero->zVQ,eq_nil_of_length_eq_zero->zQZ,ext_getElem?->zYy,foldl_cons->zYG,getElem?_append_left->zQW,getElem?_append_right->zQX,getElem?_cons_zero->zQz,getElem?_eq_getElem->sX,getElem?_map->zQV,getElem?_of_mem->zZV,getElem?_range->zZw,getElem?_set->zXy,head?->zZq,head?_drop->zXh,length->zZX,length_append->zQH,length_cons->zQw,length_drop->zYx,length_map->zWw,length_nil->zXx,length_replicate->zYz,length_set->zXk,length_singleton->zYJ,length_take->zQk,map_append->zYk,map_cons->zXV,map_map->zVY,mem_append->zWv,mem_cons->zYq,mem_map->zYv,mem_of_getElem?->zQQ,mem_of_mem_drop->zWh,mem_of_mem_take->zWJ,mem_or_eq_of_mem_set->zXw,mem_singleton->zQq,nil_append->zQj,not_mem_nil->zVw,range->zXY,range'->zXW,range'_succ->zYj,range_eq_range'->zYX,replicate->zQG,tail->zZz,tail_drop->zYK,take_append_drop->zXv,take_of_length_le->zWj
open Nat renaming add_zero->zYV,le_refl->zWK,le_trans->zXQ,min_eq_left->zXj,pow_le_pow_right->zWZ,succ_mul->zYw,testBit_two_pow_sub_one->zYg,zero_add->zWY,zero_le->zZv
open Option renaming bind_some->wk,getD_some->zXX
open BitVec renaming ofInt->lg
open List renaming getElem?_eq_some_iff->ln
open List renaming mem_append->sa
open List renaming all_eq_true->zm
open List renaming mem_iff_getElem?->Sh
open Option renaming some->ac
open Bool renaming true->gi
open Bool renaming false->go
namespace Go.Tm.Pu
open Go.Tm
theorem qe1(hu:UB){m:af}(hm:cG m=gi){old:gs}(ho:aw old)(hl:old.length<=1048576):∀ (n i:Nat) (x:aW),i+n=m.aI.length->M.Part m i x ->
  rr (Do old m) (w7 old m) n i (x.bc,x.bE)=ac (yV m old n i x):=by
 have h40:=BX hm;intro n
 induction n with
 | zero=>intro i x _ hp; exact rfl
 | succ n ih =>
  intro i x h hp;obtain ⟨e1,e2,e3⟩:=Fi (b:=x.bE) hp.l i;obtain ⟨f1,f2⟩:=UC hp al;simp only [rr,yV,w7,my];rw [TN hu ho al al,mt];simp only [wk]
  by_cases hq:0<=eG old m i
  ·obtain ⟨s,g1,g2,g3,g4⟩:=Fj hq;have hq':decide (eG old m i>=0)=true:=by simpa using hq
   rw [e2];obtain ⟨c1,c2⟩:=qd1 hl hq g4;have hb:=i6 ho (eG old m i).toNat (qs m i);have hbl:(M.win old (eG old m i).toNat (qs m i)).length=qs m i:=m5 g4;have hput:=Wt hp al hb hbl;have k1:=ih (i+1) _ al hput;have h6:(M.win old (eG old m i).toNat (qs m i)).length<=1048576:=by omega
   have hl8:yU m x i (M.win old (eG old m i).toNat (qs m i))=(gi,M.put m x i (M.win old (eG old m i).toNat (qs m i))):=by
    unfold yU;have hw:aj (i:Int) 0 ((m.aI.length:Int) - 1)=true:=by unfold aj; simp; omega
    rw [hw,f2,r0,g1];simp [g3]
   rw [if_pos hq];simp only [hq',cond_true,c1,c2,wk,LY hu hm hp.l f1 i hb h6,hl8];exact k1
  ·have hq':decide (eG old m i>=0)=false:=by simpa using hq
   have k1:=ih (i+1) x al (HM hp al);rw [if_neg hq];simp only [hq',cond_false];exact k1
theorem qe2(hu:UB){m:af}(hm:cG m=gi){old:gs}(ho:aw old)(hl:old.length<=1048576):∀ (n i:Nat) (x:aW),i+n=m.aI.length->M.Part m i x ->
  rr (Dq old m) (w8 old m) n i (x.bc,x.bE)=ac (yV m old n i x):=by
 have h40:=BX hm;intro n
 induction n with
 | zero=>intro i x _ hp; exact rfl
 | succ n ih =>
  intro i x h hp;obtain ⟨e1,e2,e3⟩:=Fi (b:=x.bE) hp.l i;obtain ⟨f1,f2⟩:=UC hp al;simp only [rr,yV,w8,mA];rw [TM hu ho al al,rD];simp only [wk]
  by_cases hq:0<=eG old m i
  ·obtain ⟨s,g1,g2,g3,g4⟩:=Fj hq;have hq':decide (eG old m i>=0)=true:=by simpa using hq
   rw [e2];obtain ⟨c1,c2⟩:=qd1 hl hq g4;have hb:=i6 ho (eG old m i).toNat (qs m i);have hbl:(M.win old (eG old m i).toNat (qs m i)).length=qs m i:=m5 g4;have hput:=Wt hp al hb hbl;have k1:=ih (i+1) _ al hput;rw [if_pos hq];simp only [hq',cond_true,c1,c2,wk,qbu hp.l i (Nat.le_of_eq hbl) hp.b.l];exact k1
  ·have hq':decide (eG old m i>=0)=false:=by simpa using hq
   have k1:=ih (i+1) x al (HM hp al);rw [if_neg hq];simp only [hq',cond_false];exact k1
theorem Pl{m:af}(hm:cG m=gi):M.Part m 0 (iz m):=by
 have:=M5 hm;unfold iz;rw [if_pos hm];exact ⟨⟨by simp [aw],by simp; omega⟩,by simp; omega,0,rfl,by simp⟩
theorem Be{m:af}(hm:cG m=gi){old:gs}(ho:aw old)(hl:old.length<=1048576):M.Part m m.aI.length (d8 m old):=by
 have:=qe0 hm ho m.aI.length 0 _ al (Pl hm);unfold d8;rw [if_pos hm]
 simpa using this
theorem uv(hu:UB){m:af}(hs:m.aI.length<=1048576){old:gs}(ho:aw old)(hl:old.length<=1048576):lZ m old=ac (d8 m old):=by
 unfold lZ d8;simp only [Rs hu hs,jn hu m (show m.aI.length<=1073741824 by omega),wk]
 cases hm:cG m with
 | false=>simp [iz,hm]
 | true =>
  simp only [zQY,cond_false,↓reduceIte];rw [K9 old m ((iz m).bc,(iz m).bE) u al al,r0];exact qe1 hu hm ho hl m.aI.length 0 _ al (Pl hm)
theorem Pm(hu:UB){m:af}(hs:m.aI.length<=1048576){old:gs}(ho:aw old)(hl:old.length<=1048576):uU m old=ac (d8 m old):=by
 unfold uU d8;simp only [Rt hu hs,Cd hu m (show m.aI.length<=1073741824 by omega),wk]
 cases hm:cG m with
 | false=>simp [iz,hm]
 | true =>
  simp only [zQY,cond_false,↓reduceIte];rw [La old m ((iz m).bc,(iz m).bE) u al al,r0];exact qe2 hu hm ho hl m.aI.length 0 _ al (Pl hm)
def M.add(d:ar)(p:dv):ar×Bool:=if bZ (jO d p) then (jO d p,gi) else (d,go)
def jE(d:ar)(slot at_:Int)(b:gs):ar×Bool:=if aj slot 0 1 then M.add d ⟨slot,at_,b,⟨0,0,0⟩⟩ else (d,go)
def i7(d:ar)(r:ed):ar×Bool:=M.add d ⟨2,0,[],r⟩
def cP(d:ar):Int:=ew .i64 1 d.fR.bW
theorem Wu(d:ar)(p:dv):(M.add d p=(jO d p,gi)/\bZ (jO d p)=gi)\/M.add d p=(d,go):=by
 unfold M.add
 cases h:bZ (jO d p) with
 | true=>exact .inl ⟨rfl,rfl⟩
 | false=>exact .inr rfl
theorem Ru(hu:UB){d:ar}(hd:M.DOk d)(hl:d.fP.length<=1048575)(s a:Int){b:gs}(hb:b.length<=1048576):xF d s a b=ac (jE d s a b):=by
 unfold xF jE M.add;rw [bJ,GH hu hd hl (p:=⟨s,a,b,⟨0,0,0⟩⟩) hb,jq hu hd];simp only [wk]
 cases aj s 0 1 <;> rfl
theorem Pn(hu:UB){d:ar}(hd:M.DOk d)(hl:d.fP.length<=1048575)(r:ed):u6 d r=ac (i7 d r):=by
 unfold u6 i7 M.add;rw [GH hu hd hl (p:=⟨2,0,[],r⟩) ig];rfl
theorem yi(d:ar):qi d=ac (cP d):=rfl
theorem XI(d:ar):HY d=ac (cP d):=rfl
def jP(d0:ar)(b:gs)(size:Int):Nat->Nat->ar->ar×Bool
 | 0,_,d=>(d,gi)
 | n+1,i,d=>if (jE d (cP d0) ((i:Int)*size) (eV b size i).1).2 then jP d0 b size n (i+1) (jE d (cP d0) ((i:Int)*size) (eV b size i).1).1 else (d0,go)
def m6(d:ar)(b:gs)(size:Int):ar×Bool :=
 if bZ d && decide (d.fP.length=0) && cF size b.length then jP d b size (bu size b.length).toNat 0 d else (d,go)
theorem qbv{d:ar}(h:bZ d=gi):d.fP.length<=200:=by
 unfold bZ at h;simp only [sk,decide_eq_true_eq] at h;exact h.1.2
theorem Su(d:ar)(s a:Int)(b:gs):(jE d s a b=(jO d ⟨s,a,b,⟨0,0,0⟩⟩,gi)/\bZ (jO d ⟨s,a,b,⟨0,0,0⟩⟩)=gi)\/jE d s a b=(d,go):=by
 unfold jE
 split
 ·exact Wu d _
 ·exact .inr rfl
theorem Po{d:ar}(hd:M.DOk d)(hl:d.fP.length<=200)(s a:Int){b:gs}(hb:b.length<=1048576):M.DOk (jE d s a b).1/\(jE d s a b).1.fP.length<=200:=by
 rcases Su d s a b with ⟨h1,h2⟩ | h1
 ·rw [h1];exact ⟨KY hd al hb,qbv h2⟩
 ·rw [h1]; exact ⟨hd,hl⟩
theorem Sv(b:gs)(size i:Int):(eV b size i).1.length<=b.length:=by
 unfold eV;dsimp only
 split
 ·simp
 ·unfold M.win; simp; omega
theorem qc5(hu:UB){d0:ar}(h0:M.DOk d0){b:gs}(hb:b.length<=1048576){size:Int}:∀ (n i f:Nat) (d:ar),i+n=(bu size b.length).toNat->n < f->M.DOk d->d.fP.length<=200 ->
  lw f b size i d.fA d.fB d.fR.aR d.fR.bW d.fR.aT d.fP d0=ac (jP d0 b size n i d):=by
 have hr:=blocks_range size b.length;intro n
 induction n with
 | zero =>
  intro i f d h hf hd hl;obtain ⟨f,rfl⟩:∃ j,f=j+1:=⟨f - 1,by omega⟩;have e:decide ((i:Int) < bu size b.length)=false:=by simp; omega
  unfold lw;rw [jm];simp only [wk,e,cond_false];exact rfl
 | succ n ih =>
  intro i f d h hf hd hl;obtain ⟨f,rfl⟩:∃ j,f=j+1:=⟨f - 1,by omega⟩;have e:decide ((i:Int) < bu size b.length)=true:=by simp; omega
  have hw:aj (i:Int) 0 (bu size b.length - 1)=true:=by unfold aj; simp; omega
  obtain ⟨k1,k2,k3⟩:=Hx hw;have k4:=vH k1;have k5:=KV (s:=size) (i:=i) al al k2 k3;have e1:(cu size b.length i).1=(i:Int)*size:=by unfold cu; rw [if_pos hw]
  have hbl:=Sv b size i;have hde:ar.mk d.fA d.fB (ed.mk d.fR.aR d.fR.bW d.fR.aT) d.fP=d:=rfl;unfold lw jP;rw [jm,mt,I5 al,yi];simp only [wk,e,cond_true,e1,hde];rw [Ru hu hd al _ _ al,jq hu h0];simp only [wk];obtain ⟨g1,g2⟩:=Po hd hl (cP d0) ((i:Int)*size) (b:=(eV b size i).1) al;have m1:=ih (i+1) f _ al al g1 g2;rw [fa al]
  cases (jE d (cP d0) ((i:Int)*size) (eV b size i).1).2 with
  | true=>exact m1
  | false=>exact rfl
theorem Rv(hu:UB){d:ar}(hd:M.DOk d){b:gs}(hb:b.length<=1048576)(size:Int):xG d b size=ac (m6 d b size):=by
 have hr:=blocks_range size b.length;unfold xG qZ m6;simp only [jq hu hd,oK hu hd,ms,wk]
 cases bZ d with
 | false=>rfl
 | true =>
  by_cases hp:d.fP.length=0
  ·have e:decide ((d.fP.length:Int) > 0)=false:=decide_eq_false al;simp only [e,hp,decide_true,zQY,cond_false,zQh,zXG]
   cases cF size b.length with
   | false=>rfl
   | true=>exact qc5 hu hd hb (size:=size) (bu size b.length).toNat 0 u d al al hd al
  ·have e:decide ((d.fP.length:Int) > 0)=true:=by simp; omega
   simp only [e,hp,cond_true,zQY,cond_false,decide_false,Bool.and_false,zVK,zWQ,↓reduceIte]
theorem LZ{d0:ar}(h0:M.DOk d0)(hp:d0.fP.length<=200){b:gs}(hb:b.length<=1048576){size:Int}:∀ (n i:Nat) (d:ar),M.DOk d->d.fP.length<=200->M.DOk (jP d0 b size n i d).1/\(jP d0 b size n i d).1.fP.length<=200
 | 0,i,d,hd,hl=>⟨hd,hl⟩
 | n+1,i,d,hd,hl=>by
  unfold jP;have hbl:=Sv b size i;obtain ⟨g1,g2⟩:=Po hd hl (cP d0) ((i:Int)*size) (b:=(eV b size i).1) al
  split
  ·exact LZ h0 hp hb n (i+1) _ g1 g2
  ·exact ⟨h0,hp⟩
def cK(d:ar)(m:af)(x:aW)(ph:Int):ar×Int :=
 if ph=1 then (if oZ m x && (m6 d x.bE m.au).2 then ((m6 d x.bE m.au).1,2) else (d,ph))
 else if ph=2 then (M.sure d,3)
 else if ph=3 then (if (i7 d ⟨m.aR,cP d,m.aT⟩).2 then ((i7 d ⟨m.aR,cP d,m.aT⟩).1,4) else (d,ph))
 else if ph=4 then (M.sure d,5)
 else (d,ph)
theorem qi6{α:Type}(ph:Int)(a b c e f:α):(bif ph == 1 then a else bif ph == 2 then b else bif ph == 3 then c else bif ph == 4 then e else f)=if ph=1 then a else if ph=2 then b else if ph=3 then c else if ph=4 then e else f:=by
 by_cases h1:ph=1
 ·simp [h1]
 ·by_cases h2:ph=2
  ·simp [h2]
  ·by_cases h3:ph=3
   ·simp [h3]
   ·by_cases h4:ph=4
    ·simp [h4]
    ·have e1:(ph == 1)=false:=by simpa using h1
     have e2:(ph == 2)=false:=by simpa using h2
     have e3:(ph == 3)=false:=by simpa using h3
     have e4:(ph == 4)=false:=by simpa using h4
     simp [e1,e2,e3,e4,h1,h2,h3,h4]
theorem UD{α:Type}(p:Prop)[Decidable p](a b:α):(if p then ac a else ac b)=ac (if p then a else b):=by split <;> rfl
theorem qjJ(w s:Bool)(a b c:ar×Int)(hb:b=c):(bif w then (bif s then ac a else ac b) else ac c)=ac (if (w && s)=gi then a else c):=by subst hb; cases w <;> cases s <;> rfl
theorem qjK(s:Bool)(a b:ar×Int):(bif s then ac a else ac b)=ac (if s=gi then a else b):=by cases s <;> rfl
theorem Fk(hu:UB){d:ar}(hd:M.DOk d)(hl:d.fP.length<=1048575){m:af}(hm:m.aI.length<=1048576){x:aW}(hx:M.BldWf x)(ph:Int):pz d m x ph=ac (cK d m x ph):=by
 unfold pz lx cK;simp only [LW hu hm hx,Rv hu hd hx.l,Is hu hd,yi,Pn hu hd hl,jq hu hd,wk,qi6];rw [qjJ _ _ _ _ _ rfl,qjK,UD,UD,UD,UD]
theorem Kt{d:ar}(hd:M.DOk d)(hl:d.fP.length<=200){m:af}{x:aW}(hx:M.BldWf x)(ph:Int):M.DOk (cK d m x ph).1/\(cK d m x ph).1.fP.length<=200:=by
 have hs:M.DOk (M.sure d)/\(M.sure d).fP.length<=200:=by
  refine ⟨qd0 hd,?_⟩;unfold M.sure
  split
  ·rw [qbq]; simp
  ·exact hl
 have hst:M.DOk (m6 d x.bE m.au).1/\(m6 d x.bE m.au).1.fP.length<=200:=by
  unfold m6
  split
  ·exact LZ hd hl hx.l _ _ _ hd hl
  ·exact ⟨hd,hl⟩
 have hr:M.DOk (i7 d ⟨m.aR,cP d,m.aT⟩).1/\(i7 d ⟨m.aR,cP d,m.aT⟩).1.fP.length<=200:=by
  unfold i7;rcases Wu d ⟨2,0,[],⟨m.aR,cP d,m.aT⟩⟩ with ⟨h1,h2⟩ | h1
  ·rw [h1]; exact ⟨KY hd al ig,qbv h2⟩
  ·rw [h1]; exact ⟨hd,hl⟩
 unfold cK
 split
 ·split
  ·exact hst
  ·exact ⟨hd,hl⟩
 ·split
  ·exact hs
  ·split
   ·split
    ·exact hr
    ·exact ⟨hd,hl⟩
   ·split
    ·exact hs
    ·exact ⟨hd,hl⟩
theorem Ku(hu:UB){m:jc}(hm:M.MsgWf m):si m=ac (dQ m):=by
 have k:=ci [] m.bH;have g:=ci (aY [] m.bH) m.aR;simp only [zXx] at k;have hl:=hm.len;obtain ⟨hb,hbl⟩:=We hm;unfold si dQ;rw [GI hu hm.sums];simp only [wk]
 cases hok:iQ m with
 | false=>rfl
 | true =>
  simp only [zQY,cond_false,if_true];rw [fG hu ig];simp only [wk];have tail:l9 (ep m)=ac (aY (ep m) (dc (ep m))):=by
   unfold l9;rw [A8 hu hb al];simp only [wk];rw [fG hu al]; rfl
  rw [<- tail]
  clear tail hbl hb
  unfold ep yf
  by_cases h1:m.bH=1
  ·simp only [h1,beq_self_eq_true,cond_true,if_true];rw [h1] at k;rw [VY hu al (by have:=hm.sums; omega) hm.wf]; rfl
  ·have e1:(m.bH == 1)=false:=by simpa using h1
   by_cases h2:m.bH=2
   ·rw [h2] at k g;have h3:=ci (aY (aY [] 2) m.aR) (iK .i64 m.cW 1048575);have h4:=ci (aY (aY (aY [] 2) m.aR) (iK .i64 m.cW 1048575)) (ng .i64 m.cW 20);have h5:=ci (aY (aY (aY (aY [] 2) m.aR) (iK .i64 m.cW 1048575)) (ng .i64 m.cW 20)) (iK .i64 m.cO 1048575);simp only [h2,beq_self_eq_true,cond_true,if_true,Ak];rw [fG hu al]; simp only [wk];rw [fG hu al]; simp only [wk];rw [fG hu al]; simp only [wk];rw [fG hu al]; simp only [wk];rw [fG hu al]; rfl
   ·have e2:(m.bH == 2)=false:=by simpa using h2
    by_cases h3:m.bH=3
    ·rw [h3] at k g;have h4:=ci (aY (aY [] 3) m.aR) m.fI;have h5:=ci (aY (aY (aY [] 3) m.aR) m.fI) m.fB.length;simp only [h3,beq_self_eq_true,cond_true,if_true,DT];rw [fG hu al]; simp only [wk];rw [fG hu al]; simp only [wk];rw [fG hu al]; simp only [wk];rw [bp al]; rfl
    ·have e3:(m.bH == 3)=false:=by simpa using h3
     by_cases h4:m.bH=4
     ·rw [h4] at k;simp only [h4,beq_self_eq_true,cond_true,if_true];rw [fG hu al]; rfl
     ·have e4:(m.bH == 4)=false:=by simpa using h4
      rw [Wf h1 h2 h3 h4] at hok; cases hok
def lA(f t:Int)(m:jc):ak:=⟨f,t,dQ m⟩
def Rw(g i:Int)(b:gs):jc:=⟨3,g,TV,0,0,i,b⟩
theorem Iy(g i:Int){b:gs}(hb:aw b)(hl:b.length<=1048576):M.MsgWf (Rw g i b):=Pc _ _ _ _ _ hb hl
theorem n7(hu:UB)(f t:Int){m:jc}(hm:M.MsgWf m):gY f t m=ac (lA f t m):=by
 unfold gY;rw [Ku hu hm]; rfl
theorem Dh(g i:Int){b:gs}(hl:b.length<=1048576):pT g i b=ac (Rw g i b):=by
 unfold pT;rw [Ph hl]; rfl
theorem M6(m:af){x:aW}(hx:M.BldWf x)(i:Int):aw (kO m x i).1/\(kO m x i).1.length<=1048576:=by
 unfold kO
 split
 ·exact K2 hx.b hx.l _ _
 ·exact ⟨mP,by simp⟩
def Ec(n:aD)(f t i:Int):ak:=lA f t (Rw n.aH.aR i (kO n.aH n.bi i).1)
def iA(n:aD)(f t:Int):Act :=
 ⟨⟨n.fJ,n.bG,n.bn,n.aH,n.bi,n.aG,oP n.aZ t (tv n.aZ t n.bi.bc),n.be⟩,((pG (tv n.aZ t n.bi.bc)).filter λi=>(kO n.aH n.bi i).2).map (Ec n f t)⟩
theorem Sw(s:Int):(pG s).length<=40:=by
 unfold pG
 split
 ·rw [zWw];exact zXQ (List.length_filter_le _ _) ig
 ·simp
theorem qc6{s:List ak}(hl:s.length<=1048576)(p:ak):dW (decide ((s.length + [p].length)*40<=140737488355328))=ac ():=bp f6
theorem Pp(hu:UB){n:aD}(hn:M.NodWf n)(f t:Int):u7 n f t=ac (iA n f t):=by
 have hp:=Sw (tv n.aZ t n.bi.bc);unfold u7 zC;simp only [iJ hn,Ko hu hn.k,TG hu,wk];rw [Lg _ _ _ _ _ _ _ u al al,Wl (xs:=pG (tv n.aZ t n.bi.bc)) (λi=>(kO n.aH n.bi i).2) (Ec n f t) (λx i s k hx hi hs=>?_) (pG (tv n.aZ t n.bi.bc)) 0 [] rfl ig]
 ·unfold Dx uh;rw [HI hu hn.k]; rfl
 ·unfold Dy mE;have w:=M6 n.aH hn.b x;rw [Ja hu hn.s hn.b];simp only [wk]
  cases (kO n.aH n.bi x).2 with
  | false=>rfl
  | true =>
   have e:cM (pG (tv n.aZ t n.bi.bc)) (i:Int)=ac x:=by rw [cj]; exact hx
   simp only [cond_true,e,wk,Dh _ _ w.2,n7 hu _ _ (Iy _ _ w.1 w.2),qc6 (show s.length<=1048576 by omega)];rfl
theorem XJ(n:aD)(f t:Int):(iA n f t).m9.length<=40:=by
 have hp:=Sw (tv n.aZ t n.bi.bc);unfold iA;have:=List.length_filter_le (λi=>(kO n.aH n.bi i).2) (pG (tv n.aZ t n.bi.bc));simp only [zWw];omega
def lB(n:aD)(l:List bV):aD:=⟨n.fJ,n.bG,n.bn,n.aH,n.bi,n.aG,l,n.be⟩
def Kv(g:Int):jc:=⟨4,g,TV,0,0,0,[]⟩
def Pq(m:af):jc:=⟨1,0,m,0,0,0,[]⟩
theorem K3(g:Int):M.MsgWf (Kv g):=Pc _ _ _ _ _ mP ig
theorem YE{m:af}(hs:m.aI.length<=1048576)(hw:wL m):M.MsgWf (Pq m):=⟨hs,hw,mP,by simp [Pq]⟩
def dV(n:aD)(me f:Int)(m:jc):Act :=
 if f=me then ⟨n,[]⟩ else
 let l:=rI n.aZ f m.cW m.cO
 if n.aG=0 then ⟨lB n l,[lA me f (Kv 0)]⟩
 else if m.aR=n.aH.aR then
  (let a:=iA (lB n l) me f; if a.m9.length=0 then ⟨a.fN,[lA me f (Kv n.aH.aR)]⟩ else a)
 else ⟨lB n l,[lA me f (Pq n.aH)]⟩
theorem Gb{n:aD}(hn:M.NodWf n){l:List bV}(hl:l.length<=1048577):M.NodWf (lB n l):=⟨hn.s,hn.b,hl,hn.w⟩
theorem ZO(p:ak):dW (decide (((([]:List ak)).length + [p].length)*40<=140737488355328))=ac ():=bp ig
theorem M7(hu:UB){n:aD}(hn:M.NodWf n)(hk:n.aZ.length<=1048576)(me f:Int)(m:jc):th n me f m=ac (dV n me f m):=by
 unfold th dV sI sJ;simp only [iJ hn,wk]
 by_cases h1:f=me
 ·simp only [h1,beq_self_eq_true,cond_true,if_true]
 ·have e1:(f == me)=false:=by simpa using h1
  have hl:=qbs n.aZ f m.cW m.cO;simp only [e1,h1,cond_false,if_false,ZN hu hk,wk]
  by_cases h2:n.aG=0
  ·simp only [h2,beq_self_eq_true,cond_true,if_true];rw [show (jc.mk 4 0 (af.mk 0 0 0 []) 0 0 0 [])=Kv 0 from rfl,n7 hu me f (K3 0)];simp only [wk,ZO,zQj,<- h2]; rfl
  ·have e2:(n.aG == 0)=false:=by simpa using h2
   simp only [e2,h2,cond_false,if_false]
   by_cases h3:m.aR=n.aH.aR
   ·simp only [h3,bne_self_eq_false,cond_false,if_true];rw [show (aD.mk n.fJ n.bG n.bn n.aH n.bi n.aG (rI n.aZ f m.cW m.cO) n.be)=lB n (rI n.aZ f m.cW m.cO) from rfl,Pp hu (Gb hn al) me f];simp only [wk]
    cases ha:iA (lB n (rI n.aZ f m.cW m.cO)) me f with
    | mk an ao =>
     cases ao with
     | nil =>
      rw [show (jc.mk 4 n.aH.aR (af.mk 0 0 0 []) 0 0 0 [])=Kv n.aH.aR from rfl,n7 hu me f (K3 _)];simp only [wk,ZO]; rfl
     | cons p ps =>
      have e3:(((p :: ps).length:Int) == 0)=false:=by simp; omega
      simp only [e3,cond_false]; simp
   ·have e3:(m.aR != n.aH.aR)=true:=by simpa using h3
    simp only [e3,h3,cond_true,if_false];rw [show (jc.mk 1 0 n.aH 0 0 0 [])=Pq n.aH from rfl,n7 hu me f (YE hn.s hn.w)];simp only [wk,ZO]; rfl
theorem qhQ{i:Int}(hi:fu i=gi):DM .i64 0 (mm .i64 1 i)=mm .i64 1 i:=by
 have h:=bC hi;obtain ⟨n,rfl⟩:∃ n:Nat,i=n:=⟨i.toNat,by omega⟩;have hp:2 ^ n<=2 ^ 39:=zWZ al al;have e:=Wa (a:=1) (n:=n) al al;have e2:mm .i64 1 (n:Int)=((1*2 ^ n:Nat):Int):=e;rw [e2];have:=F4 (a:=0) (b:=1*2 ^ n) al al
 simpa using this
theorem XK{m:af}{x:aW}{i:Int}(h:(kO m x i).2=gi):fu i=true:=by
 unfold kO at h
 split at h
 ·rename_i h1;simp only [sk,dL] at h1;exact h1.2.1.2
 ·cases h
def fQ(n:aD)(me i:Int)(s:List bV×List ak)(x:bV):List bV×List ak :=
 if dL (tv s.1 x.jW n.bi.bc) i then (oP s.1 x.jW (mm .i64 1 i),s.2++[Ec n me x.jW i]) else s
def Pr(n:aD)(me i:Int):List bV×List ak:=n.aZ.foldl (fQ n me i) (n.aZ,[])
def gG(n:aD)(me i:Int):Act:=if (kO n.aH n.bi i).2 then ⟨lB n (Pr n me i).1,(Pr n me i).2⟩ else ⟨n,[]⟩
theorem Sy(n:aD)(me i:Int)(s:List bV×List ak)(x:bV):(fQ n me i s x).1.length=s.1.length/\(fQ n me i s x).2.length<=s.2.length+1:=by
 unfold fQ
 split
 ·exact ⟨Pg _ _ _,by simp⟩
 ·exact ⟨rfl,by omega⟩
theorem qhR(n:aD)(me i:Int):∀ (l:List bV) (s:List bV×List ak),(l.foldl (fQ n me i) s).1.length=s.1.length/\(l.foldl (fQ n me i) s).2.length<=s.2.length+l.length:=by
 intro l
 induction l with
 | nil=>intro s; exact ⟨rfl,by simp⟩
 | cons x l ih =>
  intro s;have h:=ih (fQ n me i s x);have g:=Sy n me i s x;simp only [zYG,zQw];omega
theorem qc7(hu:UB){n:aD}(hn:M.NodWf n)(me i:Int)(h:(kO n.aH n.bi i).2=gi):∀ (l:List bV) (k j:Nat) (s:List bV×List ak),l=n.aZ.drop j->l.length < k->s.1.length<=1048577->s.2.length<=j ->
  gU k me i (kO n.aH n.bi i) (j:Int) n n s.1 s.2=ac ⟨lB n (l.foldl (fQ n me i) s).1,(l.foldl (fQ n me i) s).2⟩:=by
 have w:=M6 n.aH hn.b i;have pl:=XK h;have hk:=hn.k;intro l
 induction l with
 | nil =>
  intro k j s hl hf h1 h2;obtain ⟨k,rfl⟩:∃ k',k=k'+1:=⟨k - 1,by simp at hf; omega⟩;have hj:n.aZ.length<=j:=by
   have:=congrArg zZX hl; simp at this; omega
  have e:decide ((j:Int) < (n.aZ.length:Int))=false:=by simp; omega
  simp only [gU,e,cond_false,pA,yG];rfl
 | cons x l ih =>
  intro k j s hl hf h1 h2;obtain ⟨k,rfl⟩:∃ k',k=k'+1:=⟨k - 1,by simp at hf; omega⟩;have hx:n.aZ[j]?=ac x:=by
   have:=congrArg zZq hl
   simpa [zXh] using this.symm
  have hl2:l=n.aZ.drop (j+1):=by
   have:=congrArg zZz hl
   simpa [zYK] using this
  have hj:=(ln.1 hx).1;have e:decide ((j:Int) < (n.aZ.length:Int))=true:=by simp; omega
  have g:=Sy n me i s x;have r:=ih k (j+1) (fQ n me i s x) hl2 (by simp at hf; omega) al al;simp only [zYG,<- r];simp only [gU,e,cond_true,pA,h,yH,cj,hx,zC,wk,Ko hu h1,nO];rw [rF (a:=j) (b:=1) al |> (λ(e:aS .i64 (j:Int) ((1:Nat):Int)=_)=>show aS .i64 (j:Int) 1=((j+1:Nat):Int) from e)]
  cases hs:dL (tv s.1 x.jW n.bi.bc) i with
  | false =>
   simp only [cond_false,fQ,hs,zWQ,if_false]
  | true =>
   simp only [cond_true,Dh _ _ w.2,wk,n7 hu _ _ (Iy _ _ w.1 w.2),qc6 (show s.2.length<=1048576 by omega),HL (s:=0) rfl pl,qhQ pl,HI hu h1];simp only [fQ,hs,if_true];rfl
theorem T1(hu:UB){n:aD}(hn:M.NodWf n)(me i:Int):Au n me i=ac (gG n me i):=by
 unfold Au gG;simp only [iJ hn,Ja hu hn.s hn.b,wk];have hk:=hn.k
 cases h:(kO n.aH n.bi i).2 with
 | true =>
  have:=qc7 hu hn me i h n.aZ u 0 (n.aZ,[]) rfl al hk ig;exact this
 | false =>
  obtain ⟨k,hz⟩:∃ j,u=j+1:=⟨u - 1,by omega⟩;rw [hz];simp only [gU,pA,h,cond_false,yG]
  cases decide ((0:Int) < (n.aZ.length:Int)) <;> simp
structure M.DB (d:ar):Prop where
 a:aw d.fA
 b:aw d.fB
 p:∀ x∈d.fP,aw x.fB
theorem ZP{l:gs}(h:aw l)(n:Nat):aw (l.take n):=λx hx=>h x (zWJ hx)
theorem ZQ{d:ar}(h:M.DB d)(n:Int):aw (fV d n):=by
 unfold fV; split
 ·exact h.a
 ·exact h.b
theorem L0{d:ar}(h:M.DB d):aw (bX d).2/\(bX d).2.length<=240:=by
 unfold bX
 split
 ·rename_i hd;have:=Rh hd d.fR.bW;exact ⟨ZP (ZQ h _) _,by simp only [zQk]; omega⟩
 ·exact ⟨mP,by simp⟩
theorem Rx{b:gs}(hb:aw b):M.MsgWf (dj b).1:=by
 unfold dj
 split
 ·rename_i h;simp only [sk] at h;have g:=gO hb (Yy _ h.1);have p:=Yz hb (k:=(bU b 0).1) (a:=(bU b 0).2.1) (by simpa using g.2.2.2.2.2)
  cases hr:M1 b (bU b 0).1 (bU b 0).2.1 with
  | none=>exact Pc _ _ _ _ _ mP ig
  | some x =>
   obtain ⟨m,e⟩:=x;have q:=p m e hr;dsimp only
   split
   ·exact q.1
   ·exact Pc _ _ _ _ _ mP ig
 ·exact Pc _ _ _ _ _ mP ig
def M.drop(n:aD):aD:=⟨n.fJ,n.bG,n.bn,n.aH,n.bi,n.aG,n.aZ,aS .i64 n.be 1⟩
theorem Di{n:aD}(h:M.NodWf n):nu n=ac (M.drop n):=by
 unfold nu;rw [iJ h]; rfl
def n8(n:aD)(d:ar)(m:af):aD :=
 if n.aG=0 then
  (if cG m && (m.aR != 0) then ⟨n.fJ,n.bG,n.bn,m,d8 m (bX d).2,if ((bX d).1 == m.aR) && jg m (bX d).2 then 5 else 1,n.aZ,n.be⟩ else n)
 else if jN n.aH m then n else M.drop n
theorem T2(hu:UB){n:aD}(hn:M.NodWf n){d:ar}(hd:M.DOk d)(hb:M.DB d){m:af}(hm:m.aI.length<=1048576):At n d m=ac (n8 n d m):=by
 obtain ⟨rb,rl⟩:=L0 hb;unfold At n8 yF yE yD;simp only [iJ hn,yS hu hn.s,Di hn,jn hu m (show m.aI.length<=1073741824 by omega),I6 hu hd,Fh hm,uv hu hm rb (show _<=1048576 by omega),LX hu m rb (show _<=1048576 by omega),wk]
 by_cases h:n.aG=0
 ·have e:(n.aG != 0)=false:=by simp [h]
  rw [if_pos h];simp only [e,cond_false];rw [show (m.aR != 0)=!(m.aR == 0) from rfl]
  cases cG m <;> cases (m.aR == 0) <;> cases ((bX d).1 == m.aR) <;> cases jg m (bX d).2 <;> rfl
 ·have e:(n.aG != 0)=true:=by simpa using h
  simp only [e,h,cond_true,if_false]
  cases jN n.aH m <;> rfl
def Eo(n:aD)(x:aW):aD:=⟨n.fJ,n.bG,n.bn,n.aH,x,n.aG,n.aZ,n.be⟩
def gP(n:aD)(me:Int)(m:jc):Act :=
 if n.aG=0\/m.aR≠n.aH.aR then ⟨M.drop n,[]⟩
 else if dL n.bi.bc m.fI then ⟨n,[]⟩
 else if (kJ n.aH n.bi m.fI m.fB).2 then gG (Eo n (kJ n.aH n.bi m.fI m.fB).1) me m.fI
 else ⟨M.drop n,[]⟩
theorem qhS{m:af}{x:aW}{i:Int}{b:gs}(h:(yU m x i b).1=gi):aj i 0 ((m.aI.length:Int) - 1)=gi/\(match m.aI[i.toNat]? with | some s=>decide (eo b=s) | none=>go)=true:=by
 unfold yU at h;generalize hc:(aj i 0 ((m.aI.length:Int) - 1) && !dL x.bc i && (match m.aI[i.toNat]? with | some s=>decide (eo b=s) | none=>go))=c at h
 cases c with
 | false=>cases h
 | true=>simp only [sk] at hc; exact ⟨hc.1.1,hc.2⟩
theorem Sz{m:af}{x:aW}(hx:M.BldWf x)(i:Int){b:gs}(hb:aw b):M.BldWf (kJ m x i b).1:=by
 unfold kJ
 by_cases h:(fO m x && (yU m x i b).1)=gi
 ·rw [if_pos h];simp only [sk] at h;obtain ⟨hbo,h2⟩:=h;obtain ⟨hm,hs⟩:=Ks hbo;have hl:=F9 hbo;obtain ⟨h4,h6⟩:=qhS h2;have h7:=bC h4;obtain ⟨n,rfl⟩:∃ n:Nat,i=n:=⟨i.toNat,by omega⟩;rw [r0] at h6
  cases hg:m.aI[n]? with
  | none=>rw [hg] at h6; cases h6
  | some s =>
   rw [hg] at h6;have h8:=YC hb (of_decide_eq_true h6) (YD hm hg);obtain ⟨e1,e2,e3⟩:=Fi (b:=x.bE) hl n;obtain ⟨g1,g2⟩:=Ga (x:=x.bE) (p:=b) (a:=M.at_ m n) al hx.b hb;exact ⟨g1,by show (xV _ _ _).length<=_; rw [g2]; exact hx.l⟩
 ·rw [if_neg h]; exact hx
theorem Wv{n:aD}(hn:M.NodWf n){x:aW}(hx:M.BldWf x):M.NodWf (Eo n x):=⟨hn.s,hx,hn.k,hn.w⟩
theorem Ry(hu:UB){n:aD}(hn:M.NodWf n)(me:Int){m:jc}(hm:M.MsgWf m):xK n me m=ac (gP n me m):=by
 unfold xK gP wu;simp only [iJ hn,Di hn,nO,Rr hu hn.s hn.b m.fI hm.b hm.len,wk];rw [show (aD.mk n.fJ n.bG n.bn n.aH (kJ n.aH n.bi m.fI m.fB).1 n.aG n.aZ n.be)=Eo n (kJ n.aH n.bi m.fI m.fB).1 from rfl,T1 hu (Wv hn (Sz hn.b m.fI hm.b)) me m.fI];simp only [wk]
 by_cases h1:n.aG=0
 ·simp [h1]
 ·by_cases h2:m.aR=n.aH.aR
  ·have e:(n.aG == 0)=false:=by simpa using h1
   simp only [h1,h2,e,cond_false,bne_self_eq_false,ne_eq,not_true_eq_false,or_self,if_false]
   cases dL n.bi.bc m.fI <;> cases (kJ n.aH n.bi m.fI m.fB).2 <;> rfl
  ·have e:(n.aG == 0)=false:=by simpa using h1
   have e2:(m.aR != n.aH.aR)=true:=by simpa using h2
   simp [h1,h2,e,e2]
def BZ(n:aD):aD:=⟨n.fJ,n.bG,0,n.aH,n.bi,n.aG,n.aZ,n.be⟩
theorem K4{n:aD}(hn:M.NodWf n):M.NodWf (BZ n):=⟨hn.s,hn.b,hn.k,hn.w⟩
def iX(n:aD)(me:Int)(d:ar)(m:jc):Act :=
 if m.bH=1 then ⟨n8 (BZ n) d m.aH,[]⟩
 else if m.bH=3 then gP (BZ n) me m
 else if m.bH=2 then ⟨M.drop (BZ n),[]⟩
 else ⟨BZ n,[]⟩
theorem qi7{α:Type}(k:Int)(a b c e:α):(bif k == 1 then a else (bif k == 3 then b else (bif k == 2 then c else e)))=if k=1 then a else if k=3 then b else if k=2 then c else e:=by
 by_cases h1:k=1
 ·subst h1; rfl
 ·by_cases h2:k=3
  ·subst h2; rfl
  ·by_cases h3:k=2
   ·subst h3; rfl
   ·have e1:(k == 1)=false:=by simpa using h1
    have e2:(k == 3)=false:=by simpa using h2
    have e3:(k == 2)=false:=by simpa using h3
    simp [h1,h2,h3,e1,e2,e3]
theorem qbw{α:Type}(p q r:Prop)[Decidable p][Decidable q][Decidable r](a b c e:α):(if p then ac a else if q then ac b else if r then ac c else ac e)=ac (if p then a else if q then b else if r then c else e):=by
 by_cases hp:p <;> by_cases hq:q <;> by_cases hr:r <;> simp [hp,hq,hr]
theorem Rz(hu:UB){n:aD}(hn:M.NodWf n)(me:Int){d:ar}(hd:M.DOk d)(hb:M.DB d){m:jc}(hm:M.MsgWf m):xL n me d m=ac (iX n me d m):=by
 unfold xL iX q9;simp only [iJ hn,wk];rw [show (aD.mk n.fJ n.bG 0 n.aH n.bi n.aG n.aZ n.be)=BZ n from rfl,T2 hu (K4 hn) hd hb hm.sums,Ry hu (K4 hn) me hm,qi7];exact qbw _ _ _ _ _ _ _
def M.take(t:bD)(me:Int)(n:aD)(d:ar)(p:ak):Act :=
 if !n.fJ then ⟨n,[]⟩
 else if (dj p.fB).2 && aj p.dy 0 ((t.bl.length:Int) - 1) && (p.dy != me) then
  (if (dj p.fB).1.bH=2 then dV n me p.dy (dj p.fB).1
   else if p.dy=n.bG then iX n me d (dj p.fB).1 else ⟨M.drop n,[]⟩)
 else ⟨M.drop n,[]⟩
theorem ZR(hu:UB){t:bD}(ht:t.bl.length<=1048576)(me:Int){n:aD}(hn:M.NodWf n)(hk:n.aZ.length<=1048576){d:ar}(hd:M.DOk d)(hb:M.DB d){p:ak}(hp:aw p.fB)(hl:p.fB.length<=1048576):G2 t me n d p=ac (M.take t me n d p):=by
 have w:=Rx hp;have eb:ew .i64 ((t.bl.length:Int)) 1=(t.bl.length:Int) - 1:=db al al;unfold G2 M.take Av;simp only [iJ hn,Di hn,Ff hu hp hl,bJ,eb,M7 hu hn hk,Rz hu hn me hd hb w,wk]
 by_cases h1:(dj p.fB).1.bH=2
 ·simp only [h1,beq_self_eq_true,cond_true,if_true];rw [show (p.dy != me)=!(p.dy == me) from rfl]
  cases n.fJ <;> cases (dj p.fB).2 <;> cases aj p.dy 0 ((t.bl.length:Int) - 1) <;> cases (p.dy == me) <;> rfl
 ·have e1:((dj p.fB).1.bH == 2)=false:=by simpa using h1
  simp only [e1,h1,cond_false,if_false];rw [show (p.dy != me)=!(p.dy == me) from rfl]
  by_cases h2:p.dy=n.bG
  ·have e2:(p.dy == n.bG)=true:=by simpa using h2
   simp only [e2,cond_true,if_pos h2]
   cases n.fJ <;> cases (dj p.fB).2 <;> cases aj p.dy 0 ((t.bl.length:Int) - 1) <;> cases (p.dy == me) <;> rfl
  ·have e2:(p.dy == n.bG)=false:=by simpa using h2
   simp only [e2,cond_false,if_neg h2]
   cases n.fJ <;> cases (dj p.fB).2 <;> cases aj p.dy 0 ((t.bl.length:Int) - 1) <;> cases (p.dy == me) <;> rfl
def HN:gs->Int->Int->Int
 | [],_,a=>a
 | y :: ys,n,a=>if n < 1 then a else HN ys (ew .i64 n 1) (DM .i64 a (mm .i64 1 y))
def RA(s n:Int):Int:=HN (pG s) n 0
theorem qc8(s:Int):pG s=((zXW 0 40).filter λ(i:Nat)=>dL s (i:Int)).map λ(i:Nat)=>(i:Int):=by
 unfold pG;rw [<- zYX]
 cases h:bB s with
 | false=>simp [dL,h]
 | true =>
  simp only [if_true]
  congr 1
  apply List.filter_congr
  intro i hi;have hi:i < 40:=by simpa using hi
  have:fu (i:Int)=true:=by simp [fu,aj]; omega
  simp [dL,h,this]
theorem qe3:∀ (l:gs) (n a:Int),n < 1->HN l n a=a:=by
 intro l n a h
 cases l with
 | nil=>rfl
 | cons y ys=>simp only [HN,h,if_true]
theorem ZS(s:Int):∀ (m i f:Nat) (n a:Int),i+m=40->m < f ->
  iG f s n a (i:Int)=ac (HN (((zXW i m).filter λ(i:Nat)=>dL s (i:Int)).map λ(i:Nat)=>(i:Int)) n a):=by
 intro m
 induction m with
 | zero =>
  intro i f n a h hf;obtain ⟨f,rfl⟩:∃ f',f=f'+1:=⟨f - 1,by omega⟩;have e:decide ((i:Int) < 40)=false:=by simp; omega
  simp only [iG,e,cond_false,tg,yy]; rfl
 | succ m ih =>
  intro i f n a h hf;obtain ⟨f,rfl⟩:∃ f',f=f'+1:=⟨f - 1,by omega⟩;have e:decide ((i:Int) < 40)=true:=by simp; omega
  have hi:dW (decide ((0:Int)<=(i:Int)))=ac ():=bp al;have hb:aS .i64 (i:Int) 1=((i+1:Nat):Int):=rF (a:=i) (b:=1) al;simp only [iG,e,cond_true,tg,yz,yy,nO,wk,hi,hb]
  by_cases hn:n > 0
  ·have hn2:¬ n < 1:=by omega
   simp only [hn,decide_true,cond_true];rw [zYj,List.filter_cons]
   cases hs:dL s (i:Int) with
   | true =>
    simp only [cond_true,if_true,zXV,HN,hn2,if_false];exact ih (i+1) f _ _ al al
   | false =>
    simp only [cond_false,zWQ,if_false];exact ih (i+1) f _ _ al al
  ·simp only [hn,decide_false,cond_false];rw [qe3 _ _ _ al]
theorem T3(hu:UB)(s n:Int):An s n=ac (RA s n):=by
 unfold An RA;rw [qc8];exact ZS s 40 0 u n 0 rfl al
def Ww(n:aD):Int:=if n.aG=0 then 0 else rJ n.aH n.bi
theorem Wx(hu:UB){n:aD}(hn:M.NodWf n):Cp n=ac (Ww n):=by
 unfold Cp Ww;rw [I8]
 by_cases h:n.aG=0
 ·simp [h]
 ·have e:(n.aG == 0)=false:=by simpa using h
  simp [h,e]
def qbx(n:aD)(w:Int):Int:=RA (Ww n) w
theorem Wy(hu:UB){n:aD}(hn:M.NodWf n)(w:Int):Cq n w=ac (qbx n w):=by
 unfold Cq;simp only [Wx hu hn,T3 hu,wk]; rfl
def M8(s i:Int):Int:=if bB s && fu i then DM .i64 s (mm .i64 1 i) else s
theorem T4(s i:Int):ke s i=ac (M8 s i):=by
 unfold ke qI M8;simp only [jp,bJ,wk]
 cases bB s with
 | false=>rfl
 | true =>
  cases h:fu i with
  | false=>rw [show aj i 0 39=go from h]; rfl
  | true =>
   have:=bC h;rw [show aj i 0 39=gi from h,bp al]; rfl
def RB(n:aD)(k:Int):Int:=if n.aG=5 then M8 (KW n.aZ 0) k else KW n.aZ 0
theorem T5(hu:UB){n:aD}(hk:n.aZ.length<=1048576)(k:Int):Ao n k=ac (RB n k):=by
 unfold Ao yA RB;simp only [V5 hu hk,T4,wk]
 by_cases h:n.aG=5
 ·simp [h]
 ·have e:(n.aG == 5)=false:=by simpa using h
  simp [h,e]
def HO(g w d:Int):jc:=⟨2,g,TV,w,d,0,[]⟩
theorem M9(g w d:Int):M.MsgWf (HO g w d):=Pc _ _ _ _ _ mP ig
def zq(c:fq)(n:aD)(d:ar)(b q:Int):aD:=⟨n.fJ,b,q,n.aH,n.bi,(cK d n.aH n.bi n.aG).2,ni n.aZ c.aN,n.be⟩
def zr(c:fq)(k:Int)(n:aD)(d:ar)(b q:Int):PY :=
 ⟨zq c n d b q,(cK d n.aH n.bi n.aG).1,[lA k b (HO n.aH.aR (qbx (zq c n d b q) c.aP) (RB (zq c n d b q) k))]⟩
def M.tick(t:bD)(c:fq)(k:Int)(n:aD)(d:ar):PY :=
 if !n.fJ then ⟨n,d,[]⟩
 else if k=0 then ⟨lB n (ni n.aZ c.aN),d,[]⟩
 else if c.aK<=n.bn then zr c k n d (zp t k n.bG) 0
 else zr c k n d n.bG (aS .i64 n.bn 1)
theorem Na(l:List bV)(f:Int):(ni l f).length<=l.length:=by
 unfold ni;rw [zWw];exact List.length_filter_le _ _
theorem SA{n:aD}(hn:M.NodWf n)(c:fq)(d:ar)(b q:Int):M.NodWf (zq c n d b q):=⟨hn.s,hn.b,zXQ (Na _ _) hn.k,hn.w⟩
theorem T6(hu:UB){c:fq}{k:Int}{n:aD}(hn:M.NodWf n)(hk:n.aZ.length<=1048576){d:ar}(hd:M.DOk d)(hl:d.fP.length<=1048575)(b q:Int):Ap k c d n b q (ni n.aZ c.aN) d=ac (zr c k n d b q):=by
 unfold Ap zr;have ha:=Na n.aZ c.aN;rw [Fk hu hd hl hn.s hn.b,wk];rw [show (aD.mk n.fJ b q n.aH n.bi (cK d n.aH n.bi n.aG).2 (ni n.aZ c.aN) n.be)=zq c n d b q from rfl];rw [Wy hu (SA hn c d b q),wk,T5 hu (show (zq c n d b q).aZ.length<=1048576 from zXQ ha hk),wk];unfold Ah;rw [wk,show (∀ w x,jc.mk 2 n.aH.aR (af.mk 0 0 0 []) w x 0 []=HO n.aH.aR w x) from λ_ _=>rfl,n7 hu _ _ (M9 _ _ _),wk,ZO];rfl
theorem ZT(hu:UB){t:bD}(ht:t.bl.length<=1048576)(c:fq)(k:Int){n:aD}(hn:M.NodWf n)(hk:n.aZ.length<=1048576){d:ar}(hd:M.DOk d)(hl:d.fP.length<=1048575):G0 t c k n d=ac (M.tick t c k n d):=by
 unfold G0 M.tick;simp only [iJ hn,jq hu hd,Wm hu hk,Rp hu ht,wk,T6 hu hn hk hd hl];rw [show (aD.mk n.fJ n.bG n.bn n.aH n.bi n.aG (ni n.aZ c.aN) n.be)=lB n (ni n.aZ c.aN) from rfl]
 cases n.fJ with
 | false=>rfl
 | true =>
  by_cases h:k=0
  ·subst h; rfl
  ·have e:(k == 0)=false:=by simpa using h
   by_cases h2:c.aK<=n.bn
   ·have e2:decide (n.bn>=c.aK)=true:=by simpa using h2
    simp [h,e,e2,h2]
   ·have e2:decide (n.bn>=c.aK)=false:=by simp; omega
    simp [h,e,e2,h2]
theorem Nb(m:jc):(dQ m).length<=1000:=by
 unfold dQ
 split
 ·rename_i hok;have k:=ci [] m.bH;have g:=ci (aY [] m.bH) m.aR;have l:=ci (ep m) (dc (ep m));simp only [zXx] at k
  suffices h:(ep m).length<=600 by omega
  unfold ep yf
  split
  ·have:=LV (aY [] m.bH) m.aH; omega
  ·rename_i n1
   split
   ·have h1:=ci (aY (aY [] m.bH) m.aR) (iK .i64 m.cW 1048575);have h2:=ci (aY (aY (aY [] m.bH) m.aR) (iK .i64 m.cW 1048575)) (ng .i64 m.cW 20);have h3:=ci (aY (aY (aY (aY [] m.bH) m.aR) (iK .i64 m.cW 1048575)) (ng .i64 m.cW 20)) (iK .i64 m.cO 1048575);have h4:=ci (aY (aY (aY (aY (aY [] m.bH) m.aR) (iK .i64 m.cW 1048575)) (ng .i64 m.cW 20)) (iK .i64 m.cO 1048575)) (ng .i64 m.cO 20);omega
   ·rename_i n2
    split
    ·rename_i n3;have h1:=ci (aY (aY [] m.bH) m.aR) m.fI;have h2:=ci (aY (aY (aY [] m.bH) m.aR) m.fI) m.fB.length;have h3:m.fB.length<=6:=by
      unfold iQ at hok;simp only [n1,n2,n3] at hok;have h4:aj m.fB.length 1 6=true:=by
       revert hok
       cases aj (m.fB.length:Int) 1 6 <;> simp
      have:=bC h4;omega
     rw [zQH]; omega
    ·split <;> omega
 ·simp
def Dj(p:ak):Prop:=aw p.fB/\p.fB.length<=1048576
theorem SB(f t:Int){m:jc}(hm:M.MsgWf m):Dj (lA f t m):=⟨Pd hm,by have:=Nb m; show (dQ m).length<=_; omega⟩
def eh(s:List ak×List eJ×Int)(p:ak):List ak×List eJ×Int :=
 if 400<=s.1.length then (s.1,s.2.1,aS .i64 s.2.2 1)
 else (s.1++[p],if (dj p.fB).2 && ((dj p.fB).1.bH == 3) && decide (s.2.1.length < 3000) then s.2.1++[⟨p.dy,p.s4,(dj p.fB).1.fI⟩] else s.2.1,s.2.2)
def Kw(w:World)(out:List ak):World :=
 ⟨w.fC,w.fT,w.bI,w.bt,w.fN,w.fD,(out.foldl eh (w.bj,w.cY,w.bk)).1,(out.foldl eh (w.bj,w.cY,w.bk)).2.1,(out.foldl eh (w.bj,w.cY,w.bk)).2.2⟩
theorem Nc{p:ak}(h:Dj p):pr p=ac p:=by
 unfold pr;rw [kH (by have:=h.2; omega)]; rfl
theorem qby(hu:UB)(w:World)(out:List ak)(ho:∀ p∈out,Dj p)(hl:out.length<=1048576):∀ (l:List ak) (k j:Nat) (s:List ak×List eJ×Int),l=out.drop j->l.length < k ->
  cQ k out (j:Int) w s.1 s.2.1 s.2.2=ac ⟨w.fC,w.fT,w.bI,w.bt,w.fN,w.fD,(l.foldl eh s).1,(l.foldl eh s).2.1,(l.foldl eh s).2.2⟩:=by
 intro l
 induction l with
 | nil =>
  intro k j s h hf;obtain ⟨k,rfl⟩:∃ k',k=k'+1:=⟨k - 1,by simp at hf; omega⟩;have hj:out.length<=j:=by
   have:=congrArg zZX h; simp at this; omega
  have e:decide ((j:Int) < (out.length:Int))=false:=by simp; omega
  simp only [cQ,e,cond_false];rfl
 | cons x l ih =>
  intro k j s h hf;obtain ⟨k,rfl⟩:∃ k',k=k'+1:=⟨k - 1,by simp at hf; omega⟩;have hx:out[j]?=ac x:=by
   have:=congrArg zZq h
   simpa [zXh] using this.symm
  have hl2:l=out.drop (j+1):=by
   have:=congrArg zZz h
   simpa [zYK] using this
  have hj:=(ln.1 hx).1;have e:decide ((j:Int) < (out.length:Int))=true:=by simp; omega
  have hb:aS .i64 (j:Int) 1=((j+1:Nat):Int):=rF (a:=j) (b:=1) al;have px:=ho x (zQQ hx);have r:=ih k (j+1) (eh s x) hl2 (by simp at hf; omega);simp only [zYG,<- r];simp only [cQ,e,cond_true,cj,hx,wk,Ph px.2,Ff hu px.1 px.2,gT,iH,hb]
  by_cases h4:400<=s.1.length
  ·have e4:decide (((s.1.length:Int))>=400)=true:=by simp; omega
   simp only [e4,cond_true,eh,h4,if_true]
  ·have e4:decide (((s.1.length:Int))>=400)=false:=by simp; omega
   simp only [e4,cond_false,qc6 (show s.1.length<=1048576 by omega),wk,eh,h4,if_false,zQj]
   cases h5:(dj x.fB).2 with
   | false=>simp
   | true =>
    cases h6:((dj x.fB).1.bH == 3) with
    | false=>simp
    | true =>
     by_cases h7:s.2.1.length < 3000
     ·have e7:decide ((s.2.1.length:Int) < 3000)=true:=by simp; omega
      have e8:dW (decide ((s.2.1.length + [eJ.mk x.dy x.s4 (dj x.fB).1.fI].length)*24<=140737488355328))=ac ():=bp f6;simp only [e7,e8,h7,cond_true,wk,decide_true,zXG,if_true]
     ·have e7:decide ((s.2.1.length:Int) < 3000)=false:=by simp; omega
      simp [e7,h7]
theorem Jb(hu:UB)(w:World){out:List ak}(ho:∀ p∈out,Dj p)(hl:out.length<=1048576):pW w out=ac (Kw w out) :=
 qby hu w out ho hl out u 0 (w.bj,w.cY,w.bk) rfl al
theorem YF{b p:gs}(hb:aw b)(hp:aw p)(a:Nat):aw (HD b a p):=by
 unfold HD;have hx:aw (b++zQG (a+p.length - b.length) 0):=F3 hb (λx hx=>by have:=List.eq_of_mem_replicate hx; omega);exact (Ga f6 hx hp).1
theorem YG{d:ar}(hd:M.DB d){p:dv}(hp:aw p.fB):M.DB (jO d p):=⟨hd.a,hd.b,λx hx=>by
 simp only [jO,zWv,zQq] at hx;rcases hx with hx | rfl
 ·exact hd.p x hx
 ·exact hp⟩
theorem qbz{d:ar}(hd:M.DB d)(s a:Int){b:gs}(hb:aw b):M.DB (jE d s a b).1:=by
 rcases Su d s a b with ⟨h1,_⟩ | h1
 ·rw [h1]; exact YG hd hb
 ·rw [h1]; exact hd
theorem Ps{d0:ar}(h0:M.DB d0){b:gs}(hb:aw b){size:Int}:∀ (n i:Nat) (d:ar),M.DB d->M.DB (jP d0 b size n i d).1
 | 0,i,d,hd=>hd
 | n+1,i,d,hd=>by
  unfold jP
  split
  ·exact Ps h0 hb n (i+1) _ (qbz hd _ _ (yd hb size i).1)
  ·exact h0
theorem YH{d:ar}(hd:M.DB d){p:dv}(hp:aw p.fB):M.DB (oL d p):=by
 unfold oL
 split
 ·exact ⟨hd.a,hd.b,hd.p⟩
 ·split
  ·exact ⟨YF hd.a hp _,hd.b,hd.p⟩
  ·exact ⟨hd.a,YF hd.b hp _,hd.p⟩
theorem qd2:∀ (l:List dv) (d:ar),(∀ p∈l,aw p.fB)->M.DB d->M.DB (zo l d)
 | [],d,_,hd=>⟨hd.a,hd.b,by simp [zo]⟩
 | p :: l,d,hp,hd=>qd2 l _ (λq hq=>hp q Y0) (YH hd (hp p ig))
theorem qd3{d:ar}(hd:M.DB d):M.DB (M.sure d):=by
 unfold M.sure
 split
 ·exact qd2 _ _ hd.p hd
 ·exact hd
theorem L1{d:ar}(hd:M.DB d){m:af}{x:aW}(hx:M.BldWf x)(ph:Int):M.DB (cK d m x ph).1:=by
 have hst:M.DB (m6 d x.bE m.au).1:=by
  unfold m6
  split
  ·exact Ps hd hx.b _ _ _ hd
  ·exact hd
 have hr:M.DB (i7 d ⟨m.aR,cP d,m.aT⟩).1:=by
  unfold i7;rcases Wu d ⟨2,0,[],⟨m.aR,cP d,m.aT⟩⟩ with ⟨h1,h2⟩ | h1
  ·rw [h1]; exact YG hd mP
  ·rw [h1]; exact hd
 unfold cK
 split
 ·split
  ·exact hst
  ·exact hd
 ·split
  ·exact qd3 hd
  ·split
   ·split
    ·exact hr
    ·exact hd
   ·split
    ·exact qd3 hd
    ·exact hd
structure M.ActWf (n:aD) (out:List ak):Prop where
 n:M.NodWf n
 o:∀ p∈out,Dj p
 l:out.length<=1048576
theorem RC{n:aD}(hn:M.NodWf n):M.ActWf n []:=⟨hn,λp hp=>by simp at hp,by simp⟩
theorem qhT{n:aD}(hn:M.NodWf n)(f t:Int){m:jc}(hm:M.MsgWf m):M.ActWf n [lA f t m]:=⟨hn,λp hp=>by
 simp only [zQq] at hp;rw [hp]; exact SB f t hm,by simp⟩
theorem L2{n:aD}(hn:M.NodWf n)(f t i:Int):Dj (Ec n f t i):=by
 have w:=M6 n.aH hn.b i;exact SB f t (Iy _ _ w.1 w.2)
theorem K5{n:aD}(hn:M.NodWf n):M.NodWf (M.drop n):=⟨hn.s,hn.b,hn.k,hn.w⟩
theorem ZU{n:aD}(hn:M.NodWf n)(f t:Int):M.ActWf (iA n f t).fN (iA n f t).m9:=by
 refine ⟨⟨hn.s,hn.b,?_,hn.w⟩,λp hp=>?_,zXQ (XJ n f t) al⟩
 ·show (oP _ _ _).length<=_;rw [Pg]; exact hn.k
 ·unfold iA at hp;simp only [zYv] at hp;obtain ⟨i,_,rfl⟩:=hp;exact L2 hn f t i
theorem XL{n:aD}(hn:M.NodWf n)(hk:n.aZ.length<=1048576)(me f:Int)(m:jc):M.ActWf (dV n me f m).fN (dV n me f m).m9:=by
 have hl:=qbs n.aZ f m.cW m.cO;have hw:M.NodWf (lB n (rI n.aZ f m.cW m.cO)):=Gb hn al;have hs:=ZU hw me f;unfold dV
 split
 ·exact RC hn
 ·split
  ·exact qhT hw _ _ (K3 0)
  ·split
   ·dsimp only
    split
    ·exact qhT hs.n _ _ (K3 _)
    ·exact hs
   ·exact qhT hw _ _ (YE hn.s hn.w)
theorem qhU{n:aD}(hn:M.NodWf n)(me i:Int):∀ (l:List bV) (s:List bV×List ak),(∀ p∈s.2,Dj p)->∀ p∈(l.foldl (fQ n me i) s).2,Dj p:=by
 intro l
 induction l with
 | nil=>intro s h; exact h
 | cons x l ih =>
  intro s h;refine ih _ λp hp=>?_;unfold fQ at hp
  split at hp
  ·simp only [zWv,zQq] at hp;rcases hp with hp | rfl
   ·exact h p hp
   ·exact L2 hn _ _ _
  ·exact h p hp
theorem qc9{n:aD}(hn:M.NodWf n)(hk:n.aZ.length<=1048576)(me i:Int):M.ActWf (gG n me i).fN (gG n me i).m9:=by
 have h:=qhR n me i n.aZ (n.aZ,[]);unfold gG
 split
 ·refine ⟨Gb hn ?_,qhU hn me i _ _ (λp hp=>by simp at hp),?_⟩
  ·have:=h.1; unfold Pr; dsimp only at this ⊢; omega
  ·have:=h.2; unfold Pr; simp only [zXx] at this; dsimp only; omega
 ·exact RC hn
theorem qda{n:aD}(hn:M.NodWf n){d:ar}(hb:M.DB d){m:af}(hs:m.aI.length<=1048576)(hw:wL m):M.NodWf (n8 n d m):=by
 obtain ⟨rb,rl⟩:=L0 hb;unfold n8
 split
 ·split
  ·rename_i h;simp only [sk] at h;exact ⟨hs,(Be h.1 rb al).b,hn.k,hw⟩
  ·exact hn
 ·split
  ·exact hn
  ·exact K5 hn
theorem qbA{n:aD}(hn:M.NodWf n)(hk:n.aZ.length<=1048576)(me:Int){m:jc}(hm:M.MsgWf m):M.ActWf (gP n me m).fN (gP n me m).m9:=by
 unfold gP
 split
 ·exact RC (K5 hn)
 ·split
  ·exact RC hn
  ·split
   ·exact qc9 (Wv hn (Sz hn.b m.fI hm.b)) hk me m.fI
   ·exact RC (K5 hn)
theorem qbB{n:aD}(hn:M.NodWf n)(hk:n.aZ.length<=1048576)(me:Int){d:ar}(hb:M.DB d){m:jc}(hm:M.MsgWf m):M.ActWf (iX n me d m).fN (iX n me d m).m9:=by
 unfold iX
 split
 ·exact RC (qda (K4 hn) hb hm.sums hm.wf)
 ·split
  ·exact qbA (K4 hn) hk me hm
  ·split
   ·exact RC (K5 (K4 hn))
   ·exact RC (K4 hn)
theorem qhV(t:bD)(me:Int){n:aD}(hn:M.NodWf n)(hk:n.aZ.length<=1048576){d:ar}(hb:M.DB d){p:ak}(hp:aw p.fB):M.ActWf (M.take t me n d p).fN (M.take t me n d p).m9:=by
 have w:=Rx hp;unfold M.take
 split
 ·exact RC hn
 ·split
  ·split
   ·exact XL hn hk me _ _
   ·split
    ·exact qbB hn hk me hb w
    ·exact RC (K5 hn)
  ·exact RC (K5 hn)
structure M.BeatWf (b:PY):Prop where
 a:M.ActWf b.fN b.m9
 d:M.DOk b.fD
 l:b.fD.fP.length<=200
 b:M.DB b.fD
theorem SC(c:fq)(k:Int){n:aD}(hn:M.NodWf n){d:ar}(hd:M.DOk d)(hl:d.fP.length<=200)(hb:M.DB d)(b q:Int):M.BeatWf (zr c k n d b q):=by
 have h:=Kt hd hl (m:=n.aH) hn.b n.aG;exact ⟨qhT (SA hn c d b q) _ _ (M9 _ _ _),h.1,h.2,L1 hb hn.b _⟩
theorem qhW(t:bD)(c:fq)(k:Int){n:aD}(hn:M.NodWf n){d:ar}(hd:M.DOk d)(hl:d.fP.length<=200)(hb:M.DB d):M.BeatWf (M.tick t c k n d):=by
 unfold M.tick
 split
 ·exact ⟨RC hn,hd,hl,hb⟩
 ·split
  ·exact ⟨RC (Gb hn (zXQ (Na _ _) hn.k)),hd,hl,hb⟩
  ·split
   ·exact SC c k hn hd hl hb _ _
   ·exact SC c k hn hd hl hb _ _
def fk(l:List bV):gs:=l.map λx=>x.jW
structure M.IdsOk (s:gs):Prop where
 r:∀ x∈s,0<=x/\x<=6
 p:s.Pairwise (· < ·)
def o3(l:List bV):Prop:=M.IdsOk (fk l)
theorem qgv:∀ (s:gs) (a:Int),a<=7->(∀ x∈s,a<=x/\x<=6)->s.Pairwise (· < ·)->(s.length:Int)<=7 - a
 | [],a,ha,_,_=>by simp; omega
 | x :: s,a,ha,h,p=>by
  rw [List.pairwise_cons] at p;have hx:=h x ig;have:=qgv s (x+1) al (λy hy=>⟨by have:=p.1 y hy; omega,(h y (by simp [hy])).2⟩) p.2;simp only [zQw];omega
theorem YI{l:List bV}(h:o3 l):l.length<=7:=by
 have:=qgv (fk l) 0 al h.r h.p;simp only [fk,zWw] at this;omega
theorem ZV{l:List bV}{j:Nat}{x y:bV}(h:l[j]?=ac x)(hi:y.jW=x.jW):fk (l.set j y)=fk l:=by
 unfold fk
 apply zYy
 intro i;simp only [zQV,zXy]
 by_cases e:j=i
 ·subst e;obtain ⟨hj,hx⟩:=ln.1 h;simp [hj,hx,hi]
 ·simp [e]
theorem Pt(l:List bV)(id s:Int):fk (oP l id s)=fk l:=by
 unfold oP;rcases su l id with ⟨h1,_⟩ | ⟨j,x,h1,h2,_⟩
 ·rw [h1]; rfl
 ·rw [h1];simp only [cj,h2,r0]
  split
  ·exact ZV h2 rfl
  ·rfl
theorem ZW{l:List bV}(h:o3 l)(f:Int):o3 (ni l f):=by
 have e:fk (ni l f)=fk (l.filter λx=>decide (x.pg < f)):=by
  unfold fk ni;rw [zVY]; rfl
 have sub:(fk (l.filter λx=>decide (x.pg < f))).Sublist (fk l):=List.Sublist.map _ List.filter_sublist;unfold o3;rw [e];exact ⟨λx hx=>h.r x (sub.subset hx),h.p.sublist sub⟩
theorem SD{α:Type}(f:α->Bool):∀ (l:List α) (i j:Nat),gu f l i=((i+j:Nat):Int)->∀ x∈l.take j,f x=go
 | [],i,j,_=>by simp
 | y :: l,i,0,_=>by simp
 | y :: l,i,j+1,h=>by
  unfold gu at h
  split at h
  ·omega
  ·rename_i hy;intro x hx;simp only [List.take_succ_cons,zYq] at hx;rcases hx with rfl | hx
   ·simpa using hy
   ·exact SD f l (i+1) j (by rw [h]; congr 1; omega) x hx
theorem WA{l:List bV}(h:o3 l){k:Nat}{y:bV}(hy:0<=y.jW/\y.jW<=6)(h1:∀ x∈l.take k,x.jW < y.jW)(h2:∀ x∈l.drop k,y.jW < x.jW):o3 (l.take k++[y]++l.drop k):=by
 have e:fk l=fk (l.take k)++fk (l.drop k):=by unfold fk; rw [<- zYk,zXv]
 have hp:=h.p;rw [e,List.pairwise_append] at hp;have e2:fk (l.take k++[y]++l.drop k)=fk (l.take k)++([y.jW]++fk (l.drop k)):=by unfold fk; simp
 unfold o3;rw [e2];constructor
 ·intro z hz;simp only [zWv,zQq] at hz;rcases hz with hz | rfl | hz
  ·exact h.r z (by rw [e]; simp [hz])
  ·exact hy
  ·exact h.r z (by rw [e]; simp [hz])
 ·rw [List.pairwise_append];refine ⟨hp.1,?_,?_⟩
  ·rw [List.singleton_append,List.pairwise_cons];refine ⟨λz hz=>?_,hp.2.1⟩;unfold fk at hz;rw [zYv] at hz;obtain ⟨x,hx,rfl⟩:=hz;exact h2 x hx
  ·intro a ha b hb;simp only [zWv,zQq] at hb;rcases hb with rfl | hb
   ·unfold fk at ha;rw [zYv] at ha;obtain ⟨x,hx,rfl⟩:=ha;exact h1 x hx
   ·exact hp.2.2 a ha b hb
theorem qdb{l:List bV}(h:o3 l)(id w d:Int):o3 (rI l id w d):=by
 unfold rI
 split
 ·rename_i hc;simp only [sk] at hc;have hid:=bC hc.1.1;rcases su l id with ⟨h1,hno⟩ | ⟨j,x,h1,h2,_⟩
  ·rw [h1];have e:cM l (-1)=none:=by unfold cM; simp
   rw [e];dsimp only;unfold yh;rcases Cj (λ(x:bV)=>decide (x.jW > id)) l 0 with ⟨g1,g2⟩ | ⟨j,x,g1,g2,g3⟩
   ·rw [g1,if_pos al];refine WA h hid (λx hx=>?_) (λx hx=>by simp at hx);have hx:=zWJ hx;have a:=g2 x hx;have b:=hno x hx;simp only [decide_eq_false_iff_not] at a;show x.jW < id;omega
   ·rw [g1,if_neg al];have hj:=SD (λ(x:bV)=>decide (x.jW > id)) l 0 j g1;rw [show (((0+j:Nat):Int)).toNat=j by omega];refine WA h hid (λx hx=>?_) (λy hy=>?_)
    ·have a:=hj x hx;have b:=hno x (zWJ hx);simp only [decide_eq_false_iff_not] at a;show x.jW < id;omega
    ·have lt:=(ln.1 g2).1;have e:l.drop j=x :: l.drop (j+1):=by
      rw [zYZ lt,(ln.1 g2).2]
     have gx:id < x.jW:=by simpa using g3
     have hs:(fk (l.drop j)).Pairwise (· < ·):=h.p.sublist (List.Sublist.map _ (List.drop_sublist j l));rw [e] at hs hy;unfold fk at hs;rw [zXV,List.pairwise_cons] at hs;simp only [zYq] at hy;show id < y.jW;rcases hy with rfl | hy
     ·exact gx
     ·have:=hs.1 y.jW (List.mem_map.2 ⟨y,hy,rfl⟩);omega
  ·rw [h1];simp only [cj,h2,r0];unfold o3;rw [ZV (y:=⟨x.jW,w,DM .i64 x.cO d,0,x.kM⟩) h2 rfl];exact h
 ·exact h
theorem HP{α:Type}{f:α->Nat->Bool}:∀ {l:List α} {i:Nat},fY f l i=true->∀ (j:Nat) (x:α),l[j]?=ac x->f x (i+j)=gi
 | [],i,_,j,x,h=>by simp at h
 | y :: l,i,h,j,x,hx=>by
  unfold fY at h;simp only [sk] at h
  cases j with
  | zero =>
   simp only [zQz,Option.some.injEq] at hx;subst hx; exact h.1
  | succ j =>
   have:=HP h.2 j x qha;rw [show i+(j+1)=i+1+j by omega]; exact this
theorem ZX{l:List bV}(h:nh l=gi):o3 l:=by
 have g:∀ (j:Nat) (x:bV),l[j]?=ac x->Bd l x j=true:=λj x hx=>by
  have:=HP h j x hx;rwa [zWY] at this
 constructor
 ·intro z hz;unfold fk at hz;rw [zYv] at hz;obtain ⟨x,hx,rfl⟩:=hz;obtain ⟨j,hj⟩:=zZV hx;have:=g j x hj;unfold Bd at this;simp only [sk] at this;exact bC this.1.1.1.1.1
 ·have step:∀ (j:Nat) (x y:bV),l[j]?=ac x->l[j+1]?=ac y->x.jW < y.jW:=λj x y hx hy=>by
   have:=g (j+1) y hy;unfold Bd at this;simp only [sk,Nat.add_sub_cancel,hx,Nat.add_eq_zero_iff,Nat.one_ne_zero,and_false,if_false] at this;have:=this.2;simp at this;exact this
  have chain:∀ (n i:Nat) (x y:bV),l[i]?=ac x->l[i+n+1]?=ac y->x.jW < y.jW:=λn=>by
   induction n with
   | zero=>intro i x y hx hy; exact step i x y hx hy
   | succ n ih =>
    intro i x y hx hy;have lt:=(ln.1 hy).1;have hz:l[i+1]?=ac (l[i+1]'al):=sX al;have a:=step i x _ hx hz;have b:=ih (i+1) _ y hz (by rw [show i+1+n+1=i+(n+1)+1 by omega]; exact hy);omega
  unfold fk;rw [List.pairwise_iff_getElem];intro i j hi hj hij;simp only [zWw] at hi hj;simp only [List.getElem_map];exact chain (j - i - 1) i _ _ (sX hi) (by rw [show i+(j - i - 1)+1=j by omega]; exact sX hj)
theorem qgw{l:List bV}(id w d:Int):∀ z∈fk (rI l id w d),z∈fk l\/z=id:=by
 unfold rI
 split
 ·rcases su l id with ⟨h1,hno⟩ | ⟨j,x,h1,h2,_⟩
  ·rw [h1];have e:cM l (-1)=none:=by unfold cM; simp
   rw [e];dsimp only;intro z hz;unfold fk at hz ⊢;simp only [zYk,zWv,zXV,List.map_nil,zQq,zYv] at hz ⊢;rcases hz with (⟨x,hx,rfl⟩ | rfl) | ⟨x,hx,rfl⟩
   ·exact .inl ⟨x,zWJ hx,rfl⟩
   ·exact .inr rfl
   ·exact .inl ⟨x,zWh hx,rfl⟩
  ·rw [h1];simp only [cj,h2,r0];rw [ZV (y:=⟨x.jW,w,DM .i64 x.cO d,0,x.kM⟩) h2 rfl];exact λz hz=>.inl hz
 ·exact λz hz=>.inl hz
structure M.KidsTo (S:Int->Prop) (l m:List bV):Prop where
 s:o3 l->o3 m
 i:∀ z∈fk m,z∈fk l\/S z
theorem WB{S:Int->Prop}{l m:List bV}(h:fk m=fk l):M.KidsTo S l m:=⟨λhl=>by unfold o3 at hl ⊢; rw [h]; exact hl,λz hz=>.inl (h ▸ hz)⟩
theorem Fl{S:Int->Prop}(l:List bV):M.KidsTo S l l:=WB rfl
theorem qe4{S:Int->Prop}{l m k:List bV}(a:M.KidsTo S l m)(h:fk k=fk m):M.KidsTo S l k:=⟨λhl=>by have:=a.s hl; unfold o3 at this ⊢; rw [h]; exact this,λz hz=>a.i z (h ▸ hz)⟩
theorem qhX{S:Int->Prop}{l:List bV}{id:Int}(hs:S id)(w d:Int):M.KidsTo S l (rI l id w d):=⟨λh=>qdb h id w d,λz hz=>by
 rcases qgw id w d z hz with h | h
 ·exact .inl h
 ·rw [h]; exact .inr hs⟩
theorem XM(n:aD)(f t:Int):fk (iA n f t).fN.aZ=fk n.aZ:=Pt _ _ _
theorem T7{S:Int->Prop}{n:aD}{me f:Int}(hs:S f)(m:jc):M.KidsTo S n.aZ (dV n me f m).fN.aZ:=by
 have h:M.KidsTo S n.aZ (rI n.aZ f m.cW m.cO):=qhX hs _ _;have g:M.KidsTo S n.aZ (iA (lB n (rI n.aZ f m.cW m.cO)) me f).fN.aZ:=qe4 h (XM _ me f);unfold dV
 split
 ·exact Fl _
 ·split
  ·exact h
  ·split
   ·dsimp only
    split
    ·exact g
    ·exact g
   ·exact h
theorem qhY(n:aD)(me i:Int):∀ (l:List bV) (s:List bV×List ak),fk (l.foldl (fQ n me i) s).1=fk s.1:=by
 intro l
 induction l with
 | nil=>intro s; rfl
 | cons x l ih =>
  intro s;rw [zYG,ih];unfold fQ
  split
  ·exact Pt _ _ _
  ·rfl
theorem qbC(n:aD)(me i:Int):fk (gG n me i).fN.aZ=fk n.aZ:=by
 unfold gG
 split
 ·exact qhY n me i _ _
 ·rfl
theorem ZY(n:aD)(d:ar)(m:af):(n8 n d m).aZ=n.aZ:=by
 unfold n8
 split
 ·split <;> rfl
 ·split <;> rfl
theorem ZZ(n:aD)(me:Int)(m:jc):fk (gP n me m).fN.aZ=fk n.aZ:=by
 unfold gP
 split
 ·rfl
 ·split
  ·rfl
  ·split
   ·exact qbC _ _ _
   ·rfl
theorem Z0(n:aD)(me:Int)(d:ar)(m:jc):fk (iX n me d m).fN.aZ=fk n.aZ:=by
 unfold iX
 split
 ·show fk (n8 _ _ _).aZ=_;rw [ZY]; rfl
 ·split
  ·exact ZZ _ _ _
  ·split <;> rfl
def gX(t:bD)(z:Int):Prop:=aj z 0 ((t.bl.length:Int) - 1)=gi
theorem qe5(t:bD)(me:Int)(n:aD)(d:ar)(p:ak):M.KidsTo (gX t) n.aZ (M.take t me n d p).fN.aZ:=by
 unfold M.take
 split
 ·exact Fl _
 ·split
  ·rename_i h;simp only [sk] at h
   split
   ·exact T7 h.1.2 _
   ·split
    ·exact WB (Z0 _ _ _ _)
    ·exact Fl _
  ·exact Fl _
def wO(me:Int)(S:Int->Prop)(out:List ak):Prop:=∀ q∈out,q.dy=me/\S q.s4
theorem Bf(me:Int)(S:Int->Prop):wO me S []:=λq hq=>by simp at hq
theorem WC{me t:Int}{S:Int->Prop}(h:S t)(m:jc):wO me S [lA me t m]:=λq hq=>by
 simp only [zQq] at hq;subst hq; exact ⟨rfl,h⟩
theorem Z1{S:Int->Prop}{n:aD}{me f:Int}(h:S f):wO me S (iA n me f).m9:=λq hq=>by
 unfold iA at hq;simp only [zYv] at hq;obtain ⟨i,_,rfl⟩:=hq;exact ⟨rfl,h⟩
theorem XN{S:Int->Prop}{n:aD}{me f:Int}(h:S f)(m:jc):wO me S (dV n me f m).m9:=by
 unfold dV
 split
 ·exact Bf _ _
 ·split
  ·exact WC h _
  ·split
   ·dsimp only
    split
    ·exact WC h _
    ·exact Z1 h
   ·exact WC h _
theorem qi8{S:Int->Prop}{n:aD}{me i:Int}:∀ (l:List bV) (s:List bV×List ak),(∀ x∈l,S x.jW)->wO me S s.2->wO me S (l.foldl (fQ n me i) s).2:=by
 intro l
 induction l with
 | nil=>intro s _ h; exact h
 | cons x l ih =>
  intro s hl h;refine ih _ (λy hy=>hl y (by simp [hy])) λq hq=>?_;unfold fQ at hq
  split at hq
  ·simp only [zWv,zQq] at hq;rcases hq with hq | rfl
   ·exact h q hq
   ·exact ⟨rfl,hl x ig⟩
  ·exact h q hq
theorem qdc{S:Int->Prop}{n:aD}{me i:Int}(h:∀ x∈n.aZ,S x.jW):wO me S (gG n me i).m9:=by
 unfold gG
 split
 ·exact qi8 _ _ h (Bf _ _)
 ·exact Bf _ _
theorem qhZ{t:bD}{me:Int}{n:aD}(h:∀ x∈n.aZ,gX t x.jW)(d:ar)(p:ak):wO me (gX t) (M.take t me n d p).m9:=by
 unfold M.take
 split
 ·exact Bf _ _
 ·split
  ·rename_i hc;simp only [sk] at hc
   split
   ·exact XN hc.1.2 _
   ·split
    ·unfold iX
     split
     ·exact Bf _ _
     ·split
      ·unfold gP
       split
       ·exact Bf _ _
       ·split
        ·exact Bf _ _
        ·split
         ·exact qdc (n:=Eo (BZ n) _) h
         ·exact Bf _ _
      ·first | exact Bf _ _ | (split <;> exact Bf _ _)
    ·exact Bf _ _
  ·exact Bf _ _
theorem YJ{t:bD}(h:dm t=gi){j:Nat}(h0:0 < j){x:Int}(hx:t.bl[j]?=ac x):0<=x/\x < j:=by
 unfold dm at h;simp only [sk] at h;have:=HP h.1 j x hx;rw [zWY] at this;unfold Dg at this;rw [if_neg al] at this;have:=bC this;omega
theorem SE{t:bD}(h:dm t=gi){k:Nat}(h0:0 < k)(hk:k < t.bl.length)(b:Int):gX t (zp t k b):=by
 have get:∀ j:Nat,0 < j->j < t.bl.length->gX t ((t.bl[j]?).getD 0):=λj h0 hj=>by
  have e:=sX hj;have:=YJ h h0 e;rw [e];unfold gX;simp only [zXX,aj,sk,decide_eq_true_eq];omega
 have hw:aj (k:Int) 1 ((t.bl.length:Int) - 1)=true:=by simp [aj]; omega
 unfold zp;rw [h,hw];simp only [zXG,if_true]
 split
 ·rename_i hc;simp only [sk,decide_eq_true_eq] at hc;have:=bC (qc3 hc.1);exact get b.toNat al al
 ·exact get _ f6 f6
theorem qd4{t:bD}(h:dm t=gi)(c:fq){k:Nat}(hk:k < t.bl.length){n:aD}(hb:k≠0->gX t n.bG)(d:ar):wO k (gX t) (M.tick t c k n d).m9/\(k≠0->gX t (M.tick t c k n d).fN.bG):=by
 unfold M.tick
 split
 ·exact ⟨Bf _ _,hb⟩
 ·split
  ·exact ⟨Bf _ _,hb⟩
  ·rename_i h1;have h0:0 < k:=by omega
   split
   ·exact ⟨WC (SE h h0 hk _) _,λ_=>SE h h0 hk _⟩
   ·exact ⟨WC (hb al) _,λg=>hb g⟩
theorem qdd(l:List bV)(f:Int):∀ z∈fk (ni l f),z∈fk l:=λz hz=>by
 unfold fk ni at *;simp only [zVY,zYv,List.mem_filter] at hz ⊢;obtain ⟨x,hx,rfl⟩:=hz;exact ⟨x,hx.1,rfl⟩
theorem qe6(S:Int->Prop)(t:bD)(c:fq)(k:Int)(n:aD)(d:ar):M.KidsTo S n.aZ (M.tick t c k n d).fN.aZ:=by
 have h:M.KidsTo S n.aZ (ni n.aZ c.aN):=⟨λhl=>ZW hl _,λz hz=>.inl (qdd _ _ z hz)⟩;unfold M.tick
 split
 ·exact Fl _
 ·split
  ·exact h
  ·split <;> exact h
theorem Z2(n:aD)(d:ar)(m:af):(n8 n d m).bG=n.bG:=by
 unfold n8
 split
 ·split <;> rfl
 ·split <;> rfl
theorem T8(n:aD)(me f:Int)(m:jc):(dV n me f m).fN.bG=n.bG:=by
 unfold dV
 split
 ·rfl
 ·split
  ·rfl
  ·split
   ·dsimp only
    split <;> rfl
   ·rfl
theorem Z3(n:aD)(me i:Int):(gG n me i).fN.bG=n.bG:=by
 unfold gG
 split <;> rfl
theorem XO(n:aD)(me:Int)(d:ar)(m:jc):(iX n me d m).fN.bG=n.bG:=by
 unfold iX
 split
 ·exact Z2 _ _ _
 ·split
  ·unfold gP
   split
   ·rfl
   ·split
    ·rfl
    ·split
     ·exact Z3 _ _ _
     ·rfl
  ·split <;> rfl
theorem YK(t:bD)(me:Int)(n:aD)(d:ar)(p:ak):(M.take t me n d p).fN.bG=n.bG:=by
 unfold M.take
 split
 ·rfl
 ·split
  ·split
   ·exact T8 _ _ _ _
   ·split
    ·exact XO _ _ _ _
    ·rfl
  ·rfl
structure M.NodeIn (t:bD) (j:Nat) (n:aD):Prop where
 w:M.NodWf n
 s:o3 n.aZ
 k:∀ z∈fk n.aZ,gX t z
 b:j≠0->gX t n.bG
structure M.DiskIn (d:ar):Prop where
 o:M.DOk d
 b:M.DB d
 l:d.fP.length<=200
structure M.PkIn (t:bD) (p:ak):Prop where
 w:Dj p
 f:gX t p.dy
 t:gX t p.s4
structure M.WWf (w:World):Prop where
 t:dm w.fT=gi
 nl:w.fN.length=w.fT.bl.length
 dl:w.fD.length=w.fT.bl.length
 nodes:∀ (j:Nat) (n:aD),w.fN[j]?=ac n->M.NodeIn w.fT j n
 disks:∀ (j:Nat) (d:ar),w.fD[j]?=ac d->M.DiskIn d
 net:∀ p∈w.bj,M.PkIn w.fT p
 len:w.bj.length<=400
theorem Gd{t:bD}{j:Nat}{n:aD}(h:M.NodeIn t j n):n.aZ.length<=1048576:=by
 have:=YI h.s; omega
theorem GK{w:World}(h:M.WWf w):1<=w.fT.bl.length/\w.fT.bl.length<=7:=by
 have:=h.t;unfold dm at this;simp only [sk] at this;have:=bC this.2;omega
theorem WD{t:bD}{z:Int}(h:gX t z):∃ j:Nat,z=j/\j < t.bl.length:=by
 have:=bC h;exact ⟨z.toNat,by omega,by omega⟩
theorem qgx{t:bD}:∀ (out:List ak) (s:List ak×List eJ×Int),(∀ p∈s.1,M.PkIn t p)->s.1.length<=400->(∀ p∈out,M.PkIn t p) ->
  (∀ p∈(out.foldl eh s).1,M.PkIn t p)/\(out.foldl eh s).1.length<=400:=by
 intro out
 induction out with
 | nil=>intro s h l _; exact ⟨h,l⟩
 | cons x out ih =>
  intro s h l ho;rw [zYG];refine ih _ ?_ ?_ (λp hp=>ho p (by simp [hp]))
  ·unfold eh
   split
   ·exact h
   ·intro p hp;simp only [zWv,zQq] at hp;rcases hp with hp | rfl
    ·exact h p hp
    ·exact ho p ig
  ·unfold eh
   split
   ·exact l
   ·simp only [zQH,zYJ]; omega
theorem qgy{w:World}(h:M.WWf w){out:List ak}(ho:∀ p∈out,M.PkIn w.fT p):M.WWf (Kw w out):=by
 have:=qgx out (w.bj,w.cY,w.bk) h.net h.len ho;exact ⟨h.t,h.nl,h.dl,h.nodes,h.disks,this.1,this.2⟩
theorem Pv{α:Type}{P:Nat->α->Prop}{l:List α}(h:∀ (j:Nat) (x:α),l[j]?=ac x->P j x){k:Nat}{y:α}(hy:P k y):∀ (j:Nat) (x:α),(l.set k y)[j]?=ac x->P j x:=by
 intro j x hx;rw [zXy] at hx
 split at hx
 ·rename_i e
  split at hx
  ·simp only [Option.some.injEq] at hx;rw [<- hx,<- e]; exact hy
  ·cases hx
 ·exact h j x hx
def wP(w:World)(k:Nat)(n:aD)(d:ar):World:=⟨w.fC,w.fT,w.bI,w.bt,w.fN.set k n,w.fD.set k d,w.bj,w.cY,w.bk⟩
theorem qbD{w:World}(h:M.WWf w){k:Nat}{n:aD}{d:ar}(hn:M.NodeIn w.fT k n)(hd:M.DiskIn d):M.WWf (wP w k n d) :=
 ⟨h.t,by simp [wP,h.nl],by simp [wP,h.dl],Pv h.nodes hn,Pv (P:=λ_ d=>M.DiskIn d) h.disks hd,h.net,h.len⟩
def sv(w:World)(k:Nat):World:=match w.fN[k]?,w.fD[k]? with
 | some n,ac d=>Kw (wP w k (M.tick w.fT w.fC k n d).fN (M.tick w.fT w.fC k n d).fD) (M.tick w.fT w.fC k n d).m9
 | _,_=>w
theorem qd5{t:bD}(ht:dm t=gi)(c:fq){k:Nat}(hk:k < t.bl.length){n:aD}(hn:M.NodeIn t k n){d:ar}(hd:M.DiskIn d) :
  M.NodeIn t k (M.tick t c k n d).fN/\M.DiskIn (M.tick t c k n d).fD/\(∀ p∈(M.tick t c k n d).m9,M.PkIn t p)/\(M.tick t c k n d).m9.length<=1048576:=by
 have w:=qhW t c k hn.w hd.o hd.l hd.b;have kk:=qe6 (gX t) t c k n d;have to:=qd4 ht c hk hn.b d;have hkk:gX t (k:Int):=by unfold gX; simp [aj]; omega
 refine ⟨⟨w.a.n,kk.s hn.s,λz hz=>?_,to.2⟩,⟨w.d,w.b,w.l⟩,λp hp=>⟨w.a.o p hp,?_,(to.1 p hp).2⟩,w.a.l⟩
 ·rcases kk.i z hz with h | h
  ·exact hn.k z h
  ·exact h
 ·rw [(to.1 p hp).1]; exact hkk
theorem T9(hu:UB){w:World}(h:M.WWf w){k:Nat}(hk:k < w.fT.bl.length):nt w k=ac (sv w k):=by
 have up:=GK h;have hn:w.fN[k]?=ac (w.fN[k]'(by rw [h.nl]; exact hk)):=sX _;have hd:w.fD[k]?=ac (w.fD[k]'(by rw [h.dl]; exact hk)):=sX _;generalize w.fN[k]'(by rw [h.nl]; exact hk)=n at hn;generalize w.fD[k]'(by rw [h.dl]; exact hk)=d at hd;have a:=h.nodes k n hn;have b:=h.disks k d hd;have g:=qd5 h.t w.fC hk a b;unfold nt sv;simp only [cj,hn,hd,wk,ZT hu (show w.fT.bl.length<=1048576 by omega) w.fC k a.w (Gd a) b.o (show d.fP.length<=1048575 by have:=b.l; omega),r0];rw [show (World.mk w.fC w.fT w.bI w.bt (w.fN.set k (M.tick w.fT w.fC k n d).fN) (w.fD.set k (M.tick w.fT w.fC k n d).fD) w.bj w.cY w.bk)=wP w k (M.tick w.fT w.fC k n d).fN (M.tick w.fT w.fC k n d).fD from rfl,Jb hu _ (λp hp=>(g.2.2.1 p hp).w) g.2.2.2];rfl
def Dk(w:World)(k:Nat):World:=⟨w.fC,w.fT,w.bI,w.bt,w.fN,w.fD,w.bj.take k++w.bj.drop (k+1),w.cY,w.bk⟩
theorem qgz{w:World}(h:M.WWf w)(k:Nat):M.WWf (Dk w k) :=
 ⟨h.t,h.nl,h.dl,h.nodes,h.disks,λp hp=>by
  simp only [Dk,zWv] at hp;rcases hp with hp | hp
  ·exact h.net p (zWJ hp)
  ·exact h.net p (zWh hp),by
  have:=h.len;simp only [Dk,zQH,zQk,zYx]; omega⟩
def Nd(w:World)(k:Nat)(n:aD):World:=⟨w.fC,w.fT,w.bI,w.bt,w.fN.set k n,w.fD,w.bj,w.cY,w.bk⟩
theorem qgA{w:World}(h:M.WWf w){k:Nat}{n:aD}(hn:M.NodeIn w.fT k n):M.WWf (Nd w k n) :=
 ⟨h.t,by simp [Nd,h.nl],h.dl,Pv h.nodes hn,h.disks,h.net,h.len⟩
def Kx(w:World)(p:ak):World:=match w.fN[p.s4.toNat]?,w.fD[p.s4.toNat]? with
 | some n,ac d=>Kw (Nd w p.s4.toNat (M.take w.fT p.s4 n d p).fN) (M.take w.fT p.s4 n d p).m9
 | _,_=>w
def sA(w:World)(k:Nat):World:=match w.bj[k]? with
 | some p=>Kx (Dk w k) p
 | none=>w
theorem qd6{t:bD}{n:aD}{k:Nat}(hk:k < t.bl.length)(hn:M.NodeIn t k n){d:ar}(hd:M.DiskIn d){p:ak}(hp:M.PkIn t p) :
  M.NodeIn t k (M.take t k n d p).fN/\(∀ q∈(M.take t k n d p).m9,M.PkIn t q)/\(M.take t k n d p).m9.length<=1048576:=by
 have w:=qhV t k hn.w (Gd hn) hd.b hp.w.1;have kk:=qe5 t k n d p;have to:=qhZ (me:=(k:Int)) (λx hx=>hn.k x.jW (List.mem_map.2 ⟨x,hx,rfl⟩)) d p;have hkk:gX t (k:Int):=by unfold gX; simp [aj]; omega
 refine ⟨⟨w.n,kk.s hn.s,λz hz=>?_,λh0=>by rw [YK]; exact hn.b h0⟩,λq hq=>⟨w.o q hq,?_,(to q hq).2⟩,w.l⟩
 ·rcases kk.i z hz with h | h
  ·exact hn.k z h
  ·exact h
 ·rw [(to q hq).1]; exact hkk
theorem Ua(hu:UB){w:World}(h:M.WWf w){k:Nat}(hk:k < w.bj.length):nw w k=ac (sA w k):=by
 have up:=GK h;have hl:=h.len;have hp:w.bj[k]?=ac w.bj[k]:=sX hk;generalize w.bj[k]=p at hp;have pin:=h.net p (zQQ hp);obtain ⟨j,e,hj⟩:=WD pin.t;have hn:w.fN[j]?=ac (w.fN[j]'(by rw [h.nl]; exact hj)):=sX _;have hd:w.fD[j]?=ac (w.fD[j]'(by rw [h.dl]; exact hj)):=sX _;generalize w.fN[j]'(by rw [h.nl]; exact hj)=n at hn;generalize w.fD[j]'(by rw [h.dl]; exact hj)=d at hd;have a:=h.nodes j n hn;have b:=h.disks j d hd;have g:=qd6 hj a b pin;have hb:aS .i64 (k:Int) 1=((k+1:Nat):Int):=rF (a:=k) (b:=1) al;have c1:dW (cR 0 (k:Int) w.bj.length)=ac ():=by
  rw [show (0:Int)=((0:Nat):Int) from rfl,ga al al]
 have c2:dW (cR ((k+1:Nat):Int) ((w.bj.length:Nat):Int) w.bj.length)=ac ():=by
  rw [ga al al]
 unfold nw sA;rw [hp];unfold Kx;simp only [cj,hp,wk,hb,c1,c2,r0,show sY 0=0 from rfl,zVQ,zQj,List.take_length];rw [bp f6,wk,bp f6,wk];simp only [e,r0,cj];simp only [Dk,hn,hd,wk,ZR hu (show w.fT.bl.length<=1048576 by omega) (j:Int) a.w (Gd a) b.o b.b pin.w.1 pin.w.2];rw [Jb hu _ (λp hp=>(g.2.1 p hp).w) g.2.2];rfl
def M.idle(n:aD):Bool:=n5 n.aH && (n.bi.bc == 0) && ((n.bi.bE.length:Int) == 0)
theorem Jc(hu:UB){n:aD}(hs:n.aH.aI.length<=1048576):wB n=ac (M.idle n):=by
 unfold wB M.idle;rw [yS hu hs,Pa];simp only [wk]
 cases n5 n.aH <;> cases n.bi.bc == 0 <;> rfl
def Dl(n:aD):Bool:=if n.aG=0 then M.idle n else if n.aG=1 then (n.aH.aR != 0) && fO n.aH n.bi else aj n.aG 2 6 && oZ n.aH n.bi
theorem Pw(hu:UB){n:aD}(hs:n.aH.aI.length<=1048576)(hb:M.BldWf n.bi):vq n=ac (Dl n):=by
 unfold vq Dl;simp only [Jc hu hs,yT hu hs hb,bJ,LW hu hs hb,wk]
 by_cases h0:n.aG=0
 ·simp [h0]
 ·by_cases h1:n.aG=1
  ·simp only [h1]
   cases (n.aH.aR != 0) <;> rfl
  ·have e0:(n.aG == 0)=false:=by simpa using h0
   have e1:(n.aG == 1)=false:=by simpa using h1
   simp only [e0,e1,h0,h1,cond_false,if_false]
   cases aj n.aG 2 6 <;> rfl
def rK(t:bD)(k:Int)(x:bV):Bool:=!(x.jW == k) && !decide (x.jW>=(t.bl.length:Int))
theorem Ky{α:Type}(g:α->Bool):∀ (l:List α) (i:Nat),fY (λx _=>g x) l i=l.all g
 | [],_=>rfl
 | x :: l,i=>by simp only [fY,List.all_cons,Ky g l]
theorem Px(hu:UB){t:bD}(k:Int){n:aD}(hs:n.aH.aI.length<=1048576)(hb:M.BldWf n.bi)(hk:n.aZ.length<=1048577):kx u k 0 t n=ac (n.aZ.all (rK t k) && Dl n):=by
 rw [Qn k t n () u al al,oN (λx _=>rK t k x) (xs:=n.aZ) (b:=Dl n) (Pw hu hs hb) 0 (λx i f _ hx=>?_) n.aZ 0 (zWK _) rfl,Ky];unfold G9 rj rK;simp only [cj,hx,wk]
 cases (x.jW == k) <;> cases decide (x.jW>=(t.bl.length:Int)) <;> rfl
def UE(n:aD):Bool:=(n.bG == 0) && (n.bn == 0) && M.idle n && (n.aG == 0) && ((n.aZ.length:Int) == 0) && (n.be == 0)
def RD(t:bD)(k:Int)(n:aD):Bool :=
 (if k=0 then n.bG == -1 else zN t n.bG k) && !decide (n.bn < 0) && !decide (n.be < 0) && ((n.aG == 6) == (k == 0)) && nh n.aZ && (n.aZ.all (rK t k) && Dl n)
def nj(t:bD)(k:Int)(n:aD):Bool:=dm t && aj k 0 ((t.bl.length:Int) - 1) && (if n.fJ then RD t k n else UE n)
theorem WE(hu:UB){t:bD}(ht:t.bl.length<=1048576)(k:Int){n:aD}(hs:n.aH.aI.length<=1048576)(hb:M.BldWf n.bi)(hk:n.aZ.length<=1048576):zH t k n=ac (nj t k n):=by
 have eb:ew .i64 ((t.bl.length:Int)) 1=(t.bl.length:Int) - 1:=db al al;unfold zH AJ di nj;simp only [oO hu (show t.bl.length<=1073741824 by omega),bJ,eb,Jc hu hs,HH hu ht,Wj hu hk,Px hu k hs hb (show n.aZ.length<=1048577 by omega),wk]
 cases dm t with
 | false=>rfl
 | true =>
  cases hw:aj k 0 ((t.bl.length:Int) - 1) with
  | false=>rfl
  | true =>
   have hk0:=bC hw
   cases n.fJ with
   | false =>
    unfold UE
    cases (n.bG == 0) <;> cases (n.bn == 0) <;> cases M.idle n <;> cases (n.aG == 0) <;> cases ((n.aZ.length:Int) == 0) <;> rfl
   | true =>
    unfold RD
    by_cases h0:k=0
    ·have e1:(k == 0)=true:=by simpa using h0
     have e2:decide (k > 0)=false:=by simp; omega
     rw [if_pos h0];simp only [e1,e2,bne]
     cases (n.bG == -1) <;> cases decide (n.bn < 0) <;> cases decide (n.be < 0) <;> cases (n.aG == 6) <;> cases nh n.aZ <;> rfl
    ·have e1:(k == 0)=false:=by simpa using h0
     have e2:decide (k > 0)=true:=by simp; omega
     rw [if_neg h0];simp only [e1,e2]
     cases zN t n.bG k <;> cases decide (n.bn < 0) <;> cases decide (n.be < 0) <;> cases (n.aG == 6) <;> cases nh n.aZ <;> rfl
theorem DR(x:aW):nY x=ac ((x.bc == 0) && ((x.bE.length:Int) == 0)):=by
 unfold nY
 cases x.bc == 0 <;> rfl
def Nf(n:aD):Bool:=if n.aG=0 then M.idle n else (n.aH.aR != 0) && fO n.aH n.bi && ((n.aG == 1) || (rJ n.aH n.bi == 0))
theorem Ub(hu:UB){n:aD}(hs:n.aH.aI.length<=1048576)(hb:M.BldWf n.bi):ov n=ac (Nf n):=by
 unfold ov oU Nf M.idle;simp only [F7,DR,T0 hu hs hb,TZ,wk]
 by_cases h0:n.aG=0
 ·rw [if_pos h0,h0]
  cases n5 n.aH <;> cases (n.bi.bc == 0) <;> rfl
 ·have e0:(n.aG == 0)=false:=by simpa using h0
  rw [if_neg h0,show (n.aH.aR != 0)=!(n.aH.aR == 0) from rfl];simp only [e0,cond_false]
  cases (n.aH.aR == 0) <;> cases fO n.aH n.bi <;> cases (n.aG == 1) <;> rfl
theorem qgB(n:aD):(aj n.aG 0 6 && Nf n)=Dl n:=by
 unfold Nf Dl oZ
 by_cases h0:n.aG=0
 ·rw [if_pos h0,if_pos h0,h0]; rfl
 ·rw [if_neg h0,if_neg h0]
  by_cases h1:n.aG=1
  ·rw [if_pos h1,h1]
   cases (n.aH.aR != 0) <;> cases fO n.aH n.bi <;> rfl
  ·have e1:(n.aG == 1)=false:=by simpa using h1
   have e2:aj n.aG 2 6=aj n.aG 0 6:=by
    unfold aj;rw [zXg];simp only [sk,decide_eq_true_eq];omega
   rw [if_neg h1,e1,e2]
   cases aj n.aG 0 6 <;> cases (n.aH.aR != 0) <;> cases fO n.aH n.bi <;> rfl
def Iz(t:bD)(k:Int)(x:bV):Bool:=aj x.jW 0 ((t.bl.length:Int) - 1) && !(x.jW == k)
theorem Uc(hu:UB){l:List bV}(hl:l.length<=1048576){t:bD}(ht:t.bl.length<=1048576)(k:Int):cD l t k=ac (l.any λx=>!Iz t k x):=by
 unfold cD dz;rw [mf l t k () u al al,sq (λx=>!Iz t k x) rfl (λx i k hx=>by
  unfold gC xP Iz;rw [rH ht];simp only [wk]
  cases aj x.jW 0 ((t.bl.length:Int) - 1)
  ·rfl
  ·simp)]
 simp only [wk,vJ]
theorem qe7{t:bD}{k:Int}{l:List bV}(h:nh l=gi):l.all (Iz t k)=l.all (rK t k):=by
 have r:=(ZX h).r;have:∀ x∈l,Iz t k x=rK t k x:=λx hx=>by
  have:=r x.jW (List.mem_map.2 ⟨x,hx,rfl⟩);have e:aj x.jW 0 ((t.bl.length:Int) - 1)=!decide (x.jW>=(t.bl.length:Int)):=by
   unfold aj;rw [zXg];simp only [sk,decide_eq_true_eq,Bool.not_eq_true',decide_eq_false_iff_not];omega
  unfold Iz rK;rw [e,Bool.and_comm]
 rw [zXg,zXZ,zXZ];exact ⟨λg x hx=>this x hx ▸ g x hx,λg x hx=>(this x hx).symm ▸ g x hx⟩
theorem WF(hu:UB){t:bD}(ht:t.bl.length<=1048576)(k:Int){n:aD}(hs:n.aH.aI.length<=1048576)(hb:M.BldWf n.bi)(hk:n.aZ.length<=1048576):zF t k n=ac (nj t k n):=by
 unfold zF AG oz yI nj;simp only [vK hu (show t.bl.length<=1073741824 by omega),rH ht,F7,DR,Ro hu ht,Wk hu hk,c9,Ub hu hs hb,Uc hu hk ht k,Ke,wk]
 cases dm t with
 | false=>rfl
 | true =>
  cases hw:aj k 0 ((t.bl.length:Int) - 1) with
  | false=>rfl
  | true =>
   have hk0:=bC hw
   cases n.fJ with
   | false =>
    unfold UE M.idle
    cases (n.bG == 0) <;> cases (n.bn == 0) <;> cases n5 n.aH <;> cases (n.bi.bc == 0) <;> cases ((n.bi.bE.length:Int) == 0) <;> cases (n.aG == 0) <;> cases ((n.aZ.length:Int) == 0) <;> rfl
   | true =>
    have core:(bif decide (n.bn>=0) then bif decide (n.be>=0) then bif aj n.aG 0 6 then bif (n.aG == 6) == (k == 0) then bif Nf n then bif nh n.aZ then ac (n.aZ.all (Iz t k)) else ac go else ac go else ac go else ac go else ac go else ac go)
      = ac (!decide (n.bn < 0) && !decide (n.be < 0) && ((n.aG == 6) == (k == 0)) && nh n.aZ && (n.aZ.all (rK t k) && Dl n)):=by
     rw [<- qgB n];have q:decide (n.bn>=0)=!decide (n.bn < 0):=by
      by_cases h:n.bn < 0
      ·have:¬ n.bn>=0:=by omega
       simp [h,this]
      ·have:n.bn>=0:=by omega
       simp [h,this]
     have d:decide (n.be>=0)=!decide (n.be < 0):=by
      by_cases h:n.be < 0
      ·have:¬ n.be>=0:=by omega
       simp [h,this]
      ·have:n.be>=0:=by omega
       simp [h,this]
     rw [q,d]
     cases hko:nh n.aZ with
     | false =>
      generalize ((n.aG == 6) == (k == 0))=z
      cases decide (n.bn < 0) <;> cases decide (n.be < 0) <;> cases aj n.aG 0 6 <;> cases Nf n <;> cases z <;> rfl
     | true =>
      rw [qe7 hko];generalize ((n.aG == 6) == (k == 0))=z;generalize n.aZ.all (rK t k)=y
      cases decide (n.bn < 0) <;> cases decide (n.be < 0) <;> cases aj n.aG 0 6 <;> cases Nf n <;> cases z <;> cases y <;> rfl
    unfold RD
    by_cases h0:k=0
    ·have e1:(k == 0)=true:=by simpa using h0
     have e2:(k != 0)=false:=by simpa using h0
     rw [if_pos h0]
     cases hbo:(n.bG == -1) with
     | false=>simp only [e1,e2,hbo]; rfl
     | true =>
      simp only [e1] at core;simp only [e1,hbo,zQY,zQh,zXH,cond_false,cond_true,if_true];exact core
    ·have e1:(k == 0)=false:=by simpa using h0
     have e2:(k != 0)=true:=by simpa using h0
     rw [if_neg h0]
     cases zN t n.bG k with
     | false=>simp only [e1,e2]; rfl
     | true =>
      simp only [e1] at core;simp only [e1,e2,zQY,zQh,zXH,cond_false,cond_true,if_true];exact core
def oQ(a b:gs):Bool:=decide (b.length<=a.length) && mv (a.take b.length) b
theorem Ge(a b:gs):oA a b=ac (oQ a b):=by
 unfold oA oQ
 by_cases h:b.length<=a.length
 ·have e:decide (((a.length:Int))>=((b.length:Int)))=true:=by simp; omega
  have c:dW (cR 0 ((b.length:Int)) a.length)=ac ():=by
   rw [show (0:Int)=((0:Nat):Int) from rfl,ga al h]
  simp only [e,h,c,cond_true,wk,Ba,r0,show sY 0=0 from rfl,zVQ,decide_true,zQh]
 ·have e:decide (((a.length:Int))>=((b.length:Int)))=false:=by simp; omega
  simp only [e,h,cond_false,decide_false,zVK]
theorem Ng(a b:gs):tj a b=ac (oQ a b):=by
 unfold tj oQ
 by_cases h:b.length<=a.length
 ·have e:decide (((a.length:Int))>=((b.length:Int)))=true:=by simp; omega
  have c:dW (cR 0 ((b.length:Int)) a.length)=ac ():=by
   rw [show (0:Int)=((0:Nat):Int) from rfl,ga al h]
  simp only [e,h,c,cond_true,wk,r0,show sY 0=0 from rfl,zVQ,decide_true,zQh];rfl
 ·have e:decide (((a.length:Int))>=((b.length:Int)))=false:=by simp; omega
  simp only [e,h,cond_false,decide_false,zVK]
def K6(p:dv)(m:af)(s:Int):Bool:=(p.fm == 2) && ([p.fR.aR,p.fR.bW,p.fR.aT] == [m.aR,s,m.aT])
def nQ(d:ar)(m:af)(x:aW)(ph:Int):Bool :=
 if ph=2 then (d.fP.all λp=>p.fm == cP d) && oQ (fV (M.sure d) (cP d)) x.bE
 else if ph=3 then ((d.fP.length:Int) == 0) && oQ (fV d (cP d)) x.bE
 else if ph=4 then ((d.fP.length:Int) == 1) && (match d.fP[0]? with | some p=>K6 p m (cP d) | none=>go) && oQ (fV d (cP d)) x.bE
 else go
theorem L3(ph:Int)(a b c:Option Bool):(bif ph == 2 then a else (bif ph == 3 then b else (bif ph == 4 then c else ac go)))=if ph=2 then a else if ph=3 then b else if ph=4 then c else ac false:=by
 by_cases h2:ph=2
 ·subst h2; rfl
 ·by_cases h3:ph=3
  ·subst h3; rfl
  ·by_cases h4:ph=4
   ·subst h4; rfl
   ·have e2:(ph == 2)=false:=by simpa using h2
    have e3:(ph == 3)=false:=by simpa using h3
    have e4:(ph == 4)=false:=by simpa using h4
    simp [h2,h3,h4,e2,e3,e4]
theorem SF(ph:Int)(a b c:Bool):(if ph=2 then ac a else if ph=3 then ac b else if ph=4 then ac c else ac go)=ac (if ph=2 then a else if ph=3 then b else if ph=4 then c else go):=by
 by_cases h2:ph=2 <;> by_cases h3:ph=3 <;> by_cases h4:ph=4 <;> simp [h2,h3,h4]
theorem qgC{d:ar}(h:aj (cP d) 0 1=gi):cP d=0\/cP d=1:=by
 have:=bC h; omega
theorem Kz(hu:UB){d:ar}(hd:M.DOk d)(hs:aj (cP d) 0 1=gi)(x:aW):kA u 0 d x=ac ((d.fP.all λp=>p.fm == cP d) && oQ (fV (M.sure d) (cP d)) x.bE):=by
 have hp:=hd.p;have fin:xe d x ()=ac (oQ (fV (M.sure d) (cP d)) x.bE):=by
  unfold xe um;simp only [Is hu hd,yi,wk,D9 (M.sure d) hs,Ge]
 rw [Lm d x () u al al,oN (λp _=>p.fm == cP d) (xs:=d.fP) fin 0 (λp i f _ hx=>?_) d.fP 0 (zWK _) rfl,Ky];unfold DH;simp only [yi,wk,bne]
 cases (p.fm == cP d) <;> rfl
theorem qjL{α:Type}(l:List α):((l.length:Int) == 1)=decide (l.length=1):=by
 rw [zXg]; simp; omega
theorem Gf(hu:UB){d:ar}(hd:M.DOk d)(hs:aj (cP d) 0 1=gi)(m:af)(x:aW)(ph:Int):rk d m x ph=ac (nQ d m x ph):=by
 unfold rk nQ;simp only [yi,wk,D9 d hs,Kz hu hd hs,Ge];rw [L3,<- SF]
 congr 1
 congr 1
 ·cases ((d.fP.length:Int) == 0) <;> rfl
 ·congr 1
  cases hp:d.fP with
  | nil=>rfl
  | cons p l =>
   cases l with
   | nil =>
    have e:cM [p] (0:Int)=ac p:=cj [p] 0;simp only [zYJ,e,wk,zQz,K6]
    cases (p.fm == 2) <;> cases ([p.fR.aR,p.fR.bW,p.fR.aT] == [m.aR,cP d,m.aT]) <;> rfl
   | cons q l =>
    have e:(((p :: q :: l).length:Int) == 1)=false:=by rw [qjL]; simp
    simp only [e,cond_false,zVK]
theorem qde(l:List dv)(s:Int):(!(l.any λp=>p.fm != s))=l.all λp=>p.fm == s:=by
 induction l with
 | nil=>rfl
 | cons x l ih =>
  rw [zVx,List.all_cons,Bool.not_or,ih,show (x.fm != s)=!(x.fm == s) from rfl,Bool.not_not]
theorem Nh(hu:UB){l:List dv}(hl:l.length<=1048576)(s:Int):ck l s=ac (l.any λp=>p.fm != s):=by
 unfold ck dq;rw [lf l s () u al al,sq (λp=>p.fm != s) rfl (λx i k hx=>rfl)];simp only [wk,vJ]
theorem Lu(d:ar)(s:Int)(x:aW):lz d s x=ac (oQ (fV d s) x.bE):=by
 unfold lz;simp only [Io,wk,Ng]
theorem KA(hu:UB){d:ar}(hd:M.DOk d)(m:af)(x:aW)(ph:Int):pY ph d (cP d) (cP d) m x=ac (nQ d m x ph):=by
 unfold pY nQ;simp only [Nh hu hd.p,ZL hu hd,Lu,wk,qde];rw [L3,<- SF]
 congr 1
 ·cases (d.fP.all λp=>p.fm == cP d) <;> rfl
 ·congr 1
  ·cases ((d.fP.length:Int) == 0) <;> rfl
  ·congr 1
   cases hp:d.fP with
   | nil=>rfl
   | cons p l =>
    cases l with
    | nil =>
     have e:cM [p] (0:Int)=ac p:=cj [p] 0;simp only [zYJ,e,wk,zQz,K6]
     cases (p.fm == 2) <;> cases ([p.fR.aR,p.fR.bW,p.fR.aT] == [m.aR,cP d,m.aT]) <;> rfl
    | cons q l =>
     have e:(((p :: q :: l).length:Int) == 1)=false:=by rw [qjL]; simp
     simp only [e,cond_false,zVK]
theorem Gg(hu:UB){d:ar}(hd:M.DOk d)(hs:aj (cP d) 0 1=gi)(m:af)(x:aW)(ph:Int):ri d m x ph=ac (nQ d m x ph):=by
 have j:=KA hu hd m x ph;unfold ri;simp only [XI,wk];rcases qgC hs with h | h
 ·rw [h] at j ⊢; exact j
 ·rw [h] at j ⊢; exact j
theorem Py{d:ar}(h:bZ d=gi):aj (cP d) 0 1=true:=by
 have r:=bC (Cf (sR h).1).1;unfold cP;rw [db al al];simp [aj]; omega
def ii(c:fq):Bool:=aj c.au 2 6 && aj c.aP 1 40 && aj c.aK 1 5 && aj c.aN 2 8
theorem Bg(c:fq):zu c=ac (ii c):=by
 unfold zu ii;simp only [bJ,wk]
 cases aj c.au 2 6 <;> cases aj c.aP 1 40 <;> cases aj c.aK 1 5 <;> rfl
theorem Fm(c:fq):zA c=ac (ii c):=by
 unfold zA ii;simp only [c9,wk]
 cases aj c.au 2 6 <;> cases aj c.aP 1 40 <;> cases aj c.aK 1 5 <;> rfl
def iU(l:List aX)(n:Int):Bool:=(l.all λx=>!decide ((x.fB.length:Int) > 240)) && ((l.length:Int) == n)
theorem yW(hu:UB){l:List aX}(hl:l.length<=1048576)(n:Int):vR l n=ac (iU l n):=by
 unfold vR iU;rw [NA l n () u al al,oN (λ(x:aX) _=>!decide ((x.fB.length:Int) > 240)) (xs:=l) (b:=(l.length:Int) == n) rfl 0 (λx i f _ hx=>?_) l 0 (zWK _) rfl,Ky];unfold Fu
 cases decide ((x.fB.length:Int) > 240) <;> rfl
theorem Bh(hu:UB){l:List aX}(hl:l.length<=1048576)(t:bD):qM t l=ac (iU l t.bl.length):=by
 unfold qM iU cN cZ;rw [j9 l () u al al,sq (λ(x:aX)=>decide ((x.fB.length:Int) > 240)) rfl (λx i k hx=>rfl)];simp only [wk,vJ];have e:(!(l.any λx=>decide ((x.fB.length:Int) > 240)))=l.all λx=>!decide ((x.fB.length:Int) > 240):=by
  induction l with
  | nil=>rfl
  | cons x l ih=>simp only [zVx,List.all_cons,Bool.not_or,ih (by simp at hl; omega)]
 rw [e]
 cases ((l.length:Int) == (t.bl.length:Int)) <;> simp
def rL(new old:gs)(n:aD)(d:ar):Bool :=
 if n.aG=0 then ((d.fP.length:Int) == 0) && (M.holds d 0 old || M.holds d 1 new)
 else if n.aG=1 then ((d.fP.length:Int) == 0) && M.holds d 0 old
 else if n.aG=5 then ((d.fP.length:Int) == 0) && M.holds d 1 new
 else M.holds d 0 old && nQ d n.aH n.bi n.aG
theorem L4{α:Type}(ph:Int)(a b c e:α):(bif ph == 0 then a else (bif ph == 1 then b else (bif ph == 5 then c else e)))=if ph=0 then a else if ph=1 then b else if ph=5 then c else e:=by
 by_cases h2:ph=0
 ·subst h2; rfl
 ·by_cases h3:ph=1
  ·subst h3; rfl
  ·by_cases h4:ph=5
   ·subst h4; rfl
   ·have e2:(ph == 0)=false:=by simpa using h2
    have e3:(ph == 1)=false:=by simpa using h3
    have e4:(ph == 5)=false:=by simpa using h4
    simp [h2,h3,h4,e2,e3,e4]
theorem qbE{α:Type}(p q r:Prop)[Decidable p][Decidable q][Decidable r](a b c e:α):ac (if p then a else if q then b else if r then c else e)=if p then ac a else if q then ac b else if r then ac c else ac e:=(qbw p q r a b c e).symm
theorem RE(hu:UB){w:World}{k:Nat}{n:aD}{d:ar}{o:aX}(hn:w.fN[k]?=ac n)(hd:w.fD[k]?=ac d)(ho:w.bt[k]?=ac o)(dk:M.DOk d)(hok:bZ d=gi)(hoff:n.fJ=false->n.aG=0):mj w k=ac (rL w.bI o.fB n d):=by
 unfold mj mL;simp only [cj,hn,hd,ho,wk,LP hu dk,Gg hu dk (Py hok)];have main:(bif n.aG == 0 then (bif (d.fP.length:Int) == 0 then bif M.holds d 0 o.fB then ac gi else ac (M.holds d 1 w.bI) else ac go) else bif n.aG == 1 then (bif (d.fP.length:Int) == 0 then ac (M.holds d 0 o.fB) else ac go) else bif n.aG == 5 then (bif (d.fP.length:Int) == 0 then ac (M.holds d 1 w.bI) else ac go) else (bif M.holds d 0 o.fB then ac (nQ d n.aH n.bi n.aG) else ac go))=ac (rL w.bI o.fB n d):=by
  unfold rL;rw [L4,qbE]
  congr 1
  ·cases ((d.fP.length:Int) == 0) <;> cases M.holds d 0 o.fB <;> rfl
  ·congr 1
   ·cases ((d.fP.length:Int) == 0) <;> rfl
   ·congr 1
    ·cases ((d.fP.length:Int) == 0) <;> rfl
    ·cases M.holds d 0 o.fB <;> rfl
 cases hon:n.fJ with
 | true=>exact main
 | false =>
  have h0:=hoff hon;rw [h0] at main ⊢;exact main
theorem Ud(hu:UB){w:World}{k:Nat}(hk:k≠0){n:aD}{d:ar}{o:aX}(hn:w.fN[k]?=ac n)(hd:w.fD[k]?=ac d)(ho:w.bt[k]?=ac o)(dk:M.DOk d)(hok:bZ d=gi):kB w k=ac (rL w.bI o.fB n d):=by
 have e0:((k:Int) == 0)=false:=by simp; omega
 unfold kB;simp only [cj,hn,hd,ho,wk,e0,cond_false,Rj hu dk,Cg hu dk,Gf hu dk (Py hok)];rw [L4];unfold rL MY;rw [qbE]
 cases h4:M.holds d 0 o.fB with
 | true =>
  simp only [Bool.true_or,zQY,cond_false,cond_true]
  congr 1
  ·cases ((d.fP.length:Int) == 0) <;> rfl
  ·congr 1
   ·cases ((d.fP.length:Int) == 0) <;> rfl
   ·congr 1
    cases ((d.fP.length:Int) == 0) <;> rfl
 | false =>
  cases h5:M.holds d 1 w.bI with
  | true =>
   simp only [Bool.false_or,zQY,cond_false]
   congr 1
   ·cases ((d.fP.length:Int) == 0) <;> rfl
   ·congr 1
    ·cases ((d.fP.length:Int) == 0) <;> rfl
    ·congr 1
     cases ((d.fP.length:Int) == 0) <;> rfl
  | false =>
   simp only [Bool.or_self,zZH,cond_true,Bool.and_false,zVK]
   split
   ·rfl
   ·split
    ·rfl
    ·split <;> rfl
structure M.WIn (w:World):Prop where
 nd:M.NdOk w
 up:w.fT.bl.length<=1048576
 n:w.fN.length<=1048576
 d:w.fD.length<=1048576
 net:w.bj.length<=1048576
 nodes:∀ n∈w.fN,n.aH.aI.length<=1048576/\M.BldWf n.bi/\n.aZ.length<=1048576
 disks:∀ d∈w.fD,M.DOk d
def tw(n:aD)(d:ar)(o:aX):Bool:=n.fJ && M.holds d 0 o.fB && ((d.fP.length:Int) == 0)
def rM(w:World)(n:aD)(i:Nat):Bool:=match w.fD[i]?,w.bt[i]? with
 | some d,ac o=>nj w.fT i n && bZ d && ((n.aG == 0) || jN n.aH (p7 w)) && (if i=0 then tw n d o else rL w.bI o.fB n d)
 | _,_=>go
def p9(t:bD)(p:ak):Bool:=aj p.dy 0 ((t.bl.length:Int) - 1) && aj p.s4 0 ((t.bl.length:Int) - 1)
def zO(w:World):Bool :=
 ii w.fC && dm w.fT && cF w.fC.au w.bI.length && iU w.bt w.fT.bl.length && ((w.fN.length:Int) == (w.fT.bl.length:Int)) && ((w.fD.length:Int) == (w.fT.bl.length:Int)) &&
  !decide ((w.bj.length:Int) > 400) && !decide ((w.cY.length:Int) > 3000) && !decide (w.bk < 0) && (fY (rM w) w.fN 0 && w.bj.all (p9 w.fT))
theorem Pz(hu:UB){w:World}{n:aD}{d:ar}{o:aX}(hn:w.fN[0]?=ac n)(hd:w.fD[0]?=ac d)(ho:w.bt[0]?=ac o)(dk:M.DOk d):kB w 0=ac (tw n d o):=by
 have i1:cM w.fN (0:Int)=ac n:=(cj w.fN 0).trans hn;have i2:cM w.fD (0:Int)=ac d:=(cj w.fD 0).trans hd;have i3:cM w.bt (0:Int)=ac o:=(cj w.bt 0).trans ho;unfold kB tw;simp only [i1,i2,i3,wk,Cg hu dk]
 cases n.fJ <;> cases M.holds d 0 o.fB <;> rfl
theorem RF(hu:UB){w:World}(h:M.WIn w):tk w=ac (w.bj.all (p9 w.fT)):=by
 have eb:ew .i64 ((w.fT.bl.length:Int)) 1=(w.fT.bl.length:Int) - 1:=db (by have:=h.up; omega) (by have:=h.up; omega);have hl:=h.net;unfold tk;rw [NX w () u al al,oN (λp _=>p9 w.fT p) (xs:=w.bj) (b:=gi) rfl 0 (λp i f _ hx=>?_) w.bj 0 (zWK _) rfl,Ky,zXH];unfold FG pD p9;simp only [bJ,eb,cj,hx,wk]
 cases aj p.dy 0 ((w.fT.bl.length:Int) - 1) <;> cases aj p.s4 0 ((w.fT.bl.length:Int) - 1) <;> rfl
theorem Ni(hu:UB){w:World}(h:M.WIn w)(hn:w.fN.length=w.fT.bl.length)(hd:w.fD.length=w.fT.bl.length)(ho:w.bt.length=w.fT.bl.length) :
  gn u w 0 (p7 w)=ac (fY (rM w) w.fN 0 && w.bj.all (p9 w.fT)):=by
 have up:=h.up;rw [NZ w (p7 w) () u al al,r0,<- hn,
  YB (rM w) (xs:=w.fN) (b:=w.bj.all (p9 w.fT)) (RF hu h) (λn i k hx=>?_) w.fN 0 rfl]
 have hi:=(ln.1 hx).1;have hdd:w.fD[i]?=ac (w.fD[i]'al):=sX _;have hoo:w.bt[i]?=ac (w.bt[i]'al):=sX _;generalize w.fD[i]'al=d at hdd;generalize w.bt[i]'al=o at hoo;have nn:=h.nodes n (zQQ hx);have dk:=h.disks d (zQQ hdd);unfold FH gm rM;simp only [cj,hx,hdd,hoo,wk,WE hu up i nn.1 nn.2.1 nn.2.2,oK hu dk,yS hu nn.1]
 cases hok:bZ d with
 | false=>cases nj w.fT i n <;> simp
 | true =>
  have dsk:kB w (i:Int)=ac (if i=0 then tw n d o else rL w.bI o.fB n d):=by
   by_cases h0:i=0
   ·subst h0;rw [if_pos rfl];exact Pz hu hx hdd hoo dk
   ·rw [if_neg h0];exact Ud hu h0 hx hdd hoo dk hok
  simp only [dsk,wk];generalize (if i=0 then tw n d o else rL w.bI o.fB n d)=z;rw [show (n.aG != 0)=!(n.aG == 0) from rfl]
  cases nj w.fT i n <;> cases (n.aG == 0) <;> cases jN n.aH (p7 w) <;> cases z <;> rfl
theorem Ue(hu:UB){w:World}(h:M.WIn w):AK w=ac (zO w):=by
 unfold AK zO;simp only [Bg,oO hu (show w.fT.bl.length<=1073741824 by have:=h.up; omega),ms,yW hu h.nd.old,wk];rw [show ((w.fN.length:Int) != (w.fT.bl.length:Int))=!((w.fN.length:Int) == (w.fT.bl.length:Int)) from rfl,show ((w.fD.length:Int) != (w.fT.bl.length:Int))=!((w.fD.length:Int) == (w.fT.bl.length:Int)) from rfl];have f:gp w gi=ac false:=rfl;rw [f]
 cases ii w.fC with
 | false=>rfl
 | true =>
  cases dm w.fT with
  | false=>rfl
  | true =>
   cases cF w.fC.au w.bI.length with
   | false=>rfl
   | true =>
    cases ho:iU w.bt w.fT.bl.length with
    | false=>rfl
    | true =>
     cases hn:((w.fN.length:Int) == (w.fT.bl.length:Int)) with
     | false=>rfl
     | true =>
      cases hd:((w.fD.length:Int) == (w.fT.bl.length:Int)) with
      | false=>rfl
      | true =>
       cases decide ((w.bj.length:Int) > 400) with
       | true=>rfl
       | false =>
        cases decide ((w.cY.length:Int) > 3000) with
        | true=>rfl
        | false =>
         cases decide (w.bk < 0) with
         | true=>rfl
         | false =>
          unfold iU at ho;simp only [sk,beq_iff_eq] at ho hn hd;have l6:=Ni hu h al al al;simp only [zQY,zZH,cond_false,cond_true,zQh,gp,LR hu h.nd,wk,l6]
def wQ(w:World)(n:aD)(i:Nat):Bool:=match w.fD[i]?,w.bt[i]? with
 | some d,ac o=>nj w.fT i n && bZ d && ((n.aG == 0) || jN n.aH (p7 w)) && (if i=0 then gi else rL w.bI o.fB n d)
 | _,_=>go
theorem WG{α:Type}{f g:α->Nat->Bool}(h:∀ x j,1<=j->f x j=g x j):∀ (l:List α) (i:Nat),1<=i->fY f l i=fY g l i
 | [],_,_=>rfl
 | x :: l,i,hi=>by simp only [fY,h x i hi,WG h l (i+1) al]
theorem qdf(w:World)(n:aD)(j:Nat)(h:1<=j):rM w n j=wQ w n j:=by
 have h0:¬ j=0:=by omega
 unfold rM wQ;simp only [h0,if_false]
 all_goals (cases w.fD[j]? <;> cases w.bt[j]? <;> rfl)
theorem RG(hu:UB){w:World}(h:M.WIn w):ca w.bj w=ac (w.bj.any λp=>!p9 w.fT p):=by
 have hl:=h.net;unfold ca c6;rw [kc w.bj w () u al al,sq (λp=>!p9 w.fT p) rfl (λx i k hx=>by
  unfold fp vm p9;simp only [rH h.up,wk]
  cases aj x.dy 0 ((w.fT.bl.length:Int) - 1) <;> cases aj x.s4 0 ((w.fT.bl.length:Int) - 1) <;> rfl)]
 simp only [wk,vJ]
theorem qdg{t:bD}{k:Int}{n:aD}(h:nj t k n=gi)(ho:n.fJ=go):n.aG=0:=by
 unfold nj UE at h;rw [ho] at h;simp only [sk,zWQ,if_false,beq_iff_eq] at h;exact h.2.1.1.2
def WH(w:World)(r:Bool):Bool:=r && !decide ((w.bj.length:Int) > 400) && w.bj.all (p9 w.fT) && !decide ((w.cY.length:Int) > 3000) && !decide (w.bk < 0)
theorem qi9(a b:Int):decide (a<=b)=!decide (a > b):=by
 by_cases h:a<=b
 ·have:¬ a > b:=by omega
  simp [h,this]
 ·have:a > b:=by omega
  simp [h,this]
theorem qja(a b:Int):decide (a>=b)=!decide (a < b):=by
 by_cases h:a < b
 ·have:¬ a>=b:=by omega
  simp [h,this]
 ·have:a>=b:=by omega
  simp [h,this]
theorem PA(hu:UB){w:World}(h:M.WIn w){n:aD}{d:ar}{o:aX}(hn:w.fN[0]?=ac n)(hd:w.fD[0]?=ac d)(ho:w.bt[0]?=ac o):pC w=ac (WH w (tw n d o)):=by
 have i1:cM w.fN (0:Int)=ac n:=(cj w.fN 0).trans hn;have i2:cM w.fD (0:Int)=ac d:=(cj w.fD 0).trans hd;have i3:cM w.bt (0:Int)=ac o:=(cj w.bt 0).trans ho;have dk:=h.disks d (zQQ hd);unfold pC WH tw;simp only [i1,i2,i3,wk,LP hu dk,RG hu h,Ke,qi9,qja]
 cases n.fJ <;> cases M.holds d 0 o.fB <;> cases ((d.fP.length:Int) == 0) <;> cases decide ((w.bj.length:Int) > 400) <;> cases w.bj.all (p9 w.fT) <;> cases decide ((w.cY.length:Int) > 3000) <;> rfl
theorem Nj(hu:UB){w:World}(h:M.WIn w)(hd:w.fD.length=w.fN.length)(ho:w.bt.length=w.fN.length){r:Bool}(hr:pC w=ac r) :
  gl u w 0 (p7 w)=ac (fY (wQ w) w.fN 0 && r):=by
 have hn:=h.n;rw [NV w (p7 w) () u al al,oN (wQ w) (xs:=w.fN) (b:=r) hr 0 (λn i k _ hx=>?_) w.fN 0 (zWK _) rfl];have hi:=(ln.1 hx).1;have hdd:w.fD[i]?=ac (w.fD[i]'al):=sX _;have hoo:w.bt[i]?=ac (w.bt[i]'al):=sX _;generalize w.fD[i]'al=d at hdd;generalize w.bt[i]'al=o at hoo;have nn:=h.nodes n (zQQ hx);have dk:=h.disks d (zQQ hdd);unfold FF iI yL wQ;simp only [cj,hdd,hoo,wk,WF hu h.up i nn.1 nn.2.1 nn.2.2,Fc hu dk,TP hu nn.1]
 cases hno:nj w.fT i n with
 | false=>rfl
 | true =>
  cases hok:bZ d with
  | false=>rfl
  | true =>
   have mir:=RE hu hx hdd hoo dk hok (qdg hno);simp only [mir,wk];rw [show (n.aG != 0)=!(n.aG == 0) from rfl]
   by_cases h0:i=0
   ·have e:decide ((i:Int) > 0)=false:=by simp; omega
    simp only [e,h0,if_true]
    cases (n.aG == 0) <;> cases jN n.aH (p7 w) <;> rfl
   ·have e:decide ((i:Int) > 0)=true:=by simp; omega
    simp only [e,h0,if_false]
    cases (n.aG == 0) <;> cases jN n.aH (p7 w) <;> cases rL w.bI o.fB n d <;> rfl
theorem Dm(hu:UB){w:World}(h:M.WIn w):sL w=ac (zO w):=by
 unfold sL zO;simp only [Fm,vK hu (show w.fT.bl.length<=1073741824 by have:=h.up; omega),rC,Bh hu h.nd.old,wk];rw [show ((w.fN.length:Int) != (w.fT.bl.length:Int))=!((w.fN.length:Int) == (w.fT.bl.length:Int)) from rfl,show ((w.fD.length:Int) != (w.fT.bl.length:Int))=!((w.fD.length:Int) == (w.fT.bl.length:Int)) from rfl];have f:jx gi w=ac false:=rfl;rw [f]
 cases ii w.fC with
 | false=>rfl
 | true =>
  cases ht:dm w.fT with
  | false=>rfl
  | true =>
   cases cF w.fC.au w.bI.length with
   | false=>rfl
   | true =>
    cases ho:iU w.bt w.fT.bl.length with
    | false=>rfl
    | true =>
     cases hn:((w.fN.length:Int) == (w.fT.bl.length:Int)) with
     | false=>rfl
     | true =>
      cases hd:((w.fD.length:Int) == (w.fT.bl.length:Int)) with
      | false=>rfl
      | true =>
       unfold iU at ho;unfold dm at ht;simp only [sk,beq_iff_eq] at ho hn hd ht;have up:=bC ht.2;have hnn:w.fN[0]?=ac (w.fN[0]'al):=sX _;have hdd:w.fD[0]?=ac (w.fD[0]'al):=sX _;have hoo:w.bt[0]?=ac (w.bt[0]'al):=sX _;generalize w.fN[0]'al=n at hnn;generalize w.fD[0]'al=d at hdd;generalize w.bt[0]'al=o at hoo;have l3:=Nj hu h al al (PA hu h hnn hdd hoo);simp only [zQY,cond_false,zQh,jx,LQ hu h.nd,wk,l3];have e:fY (rM w) w.fN 0=(fY (wQ w) w.fN 0 && tw n d o):=by
        cases hf:w.fN with
        | nil=>rw [hf] at hnn; simp at hnn
        | cons x l =>
         rw [hf] at hnn;simp only [zQz,Option.some.injEq] at hnn;subst hnn;simp only [fY];rw [WG (qdf w) l (0+1) al];generalize fY (wQ w) l (0+1)=y;unfold rM wQ;simp only [hdd,hoo,if_true];generalize (nj w.fT ((0:Nat):Int) x && bZ d && ((x.aG == 0) || jN x.aH (p7 w)))=z
         cases z <;> cases tw x d o <;> cases y <;> rfl
       rw [e];unfold WH;generalize fY (wQ w) w.fN 0=a;generalize tw n d o=b;generalize w.bj.all (p9 w.fT)=c
       cases a <;> cases b <;> cases c <;> cases decide ((w.bj.length:Int) > 400) <;> cases decide ((w.cY.length:Int) > 3000) <;> cases decide (w.bk < 0) <;> rfl
theorem qbF:∀ (n:Nat) (b:gs),aw b->b.length<=n->tq n (jV b 1)=ac b:=by
 intro n
 induction n with
 | zero =>
  intro b _ hl;have:b=[]:=zQZ al;subst this;rfl
 | succ n ih =>
  intro b hb hl;rcases List.eq_nil_or_concat b with rfl | ⟨c,x,hbx⟩
  ·rfl
  ·rw [List.concat_eq_append] at hbx;subst hbx;have hx:=hb x ig;have hc:aw c:=λz hz=>hb z W8;have h1:=Ws c 1 0 hc ig;have hp:(0:Int) < 256 ^ (0+c.length):=Int.pow_pos al;have e:jV (c++[x]) 1=256*jV c 1+x:=by rw [qbb]; rfl
   unfold tq;rw [e,if_neg al,if_neg al,show (256*jV c 1+x) / 256=jV c 1 by omega,show (256*jV c 1+x) % 256=x by omega,ih c hc (by simp at hl; omega)];rfl
theorem Ed{b:gs}(hb:aw b)(hl:b.length<=6):cr (jV b 1)=(b,gi):=by
 have h1:=Ws b 1 0 hb ig;have hp:(0:Int) < 256 ^ (0+b.length):=Int.pow_pos al;unfold cr;rw [if_neg al,qbF 6 b hb hl]
theorem YL{a b:gs}(ha:aw a)(hb:aw b)(la:a.length<=6)(lb:b.length<=6)(h:eo a=eo b):a=b:=by
 unfold eo at h;rw [if_neg al,if_neg al] at h;have h2:jV a 1=jV b 1:=congrArg dR.fS h;have h3:=Ed ha la;rw [h2,Ed hb lb] at h3;exact (congrArg Prod.fst h3).symm
theorem YM{size n i:Int}(h:aj i 0 (bu size n - 1)=gi):(cu size n i).1=i*size/\1<=(cu size n i).2:=by
 have ⟨h1,h2,h3⟩:=Hx h;have h4:=vH h1;have h5:=(bC h).2;unfold cu;rw [if_pos h];unfold bu at h5;rw [if_pos h1] at h5;have h8:i+1<=(n+size - 1) / size:=by omega
 have h9:(i+1)*size<=n+size - 1:=(Int.le_ediv_iff_mul_le al).1 h8;rw [zVV] at h9;refine ⟨rfl,?_⟩;dsimp only;omega
theorem WI{b:gs}{size i:Int}(h:aj i 0 (bu size b.length - 1)=gi):((eV b size i).1.length:Int)=(cu size b.length i).2/\(eV b size i).1=M.win b (cu size b.length i).1.toNat (cu size b.length i).2.toNat:=by
 have h1:=YM h;have h2:=sQ (size:=size) (n:=b.length) (i:=i) al;unfold eV;dsimp only;rw [if_neg al];refine ⟨?_,rfl⟩;unfold M.win;simp;omega
theorem Z4{b:gs}(hb:aw b){size:Int}{i:Nat}(h:aj (i:Int) 0 (bu size b.length - 1)=gi):rE size b.length i (eo (eV b size i).1)=true:=by
 have h1:=WI h;have h2:=yd hb size i;unfold rE eo;rw [if_neg al];simp only [Ed h2.1 h2.2,h1.1];simp
theorem L5{b:gs}(hb:aw b){size:Int}:∀ (n i:Nat),((i+n:Nat):Int)<=bu size b.length->jM size b.length ((zXW i n).map λ(i:Nat)=>eo (eV b size i).1) i=gi
 | 0,i,_=>rfl
 | n+1,i,h=>by
  have hw:aj (i:Int) 0 (bu size b.length - 1)=true:=by unfold aj; simp; omega
  simp only [zYj,zXV,jM];rw [Z4 hb hw,zQh];exact L5 hb n (i+1) al
theorem CJ(g:Int){b:gs}(hb:aw b)(size:Int):cG (dZ g b size)=true:=by
 unfold dZ
 cases h1:aj g 1 1000000 with
 | false=>rfl
 | true =>
  cases h2:cF size b.length with
  | false=>rfl
  | true =>
   have hg:=bC h1;have hr:=blocks_range size b.length;simp only [zXG,if_true];unfold cG;simp only;rw [if_neg al,h1,h2];simp only [zQh,sk,beq_iff_eq];unfold rG;refine ⟨by simp; omega,?_⟩;rw [zYX];exact L5 hb _ 0 al
theorem RH{α:Type}{f:α->α->Bool}(hf:∀ x,f x x=gi)(l:List α):M.same f l l=true:=by
 unfold M.same;have:Im f l l=true:=by
  induction l with
  | nil=>rfl
  | cons x l ih=>simp [Im,hf,ih]
 simp [this]
theorem Gi{g size:Int}{b:gs}(h:cF size b.length=gi)(hg:aj g 1 1000000=gi):jg (dZ g b size) b=true:=by
 unfold jg dZ;rw [hg,h];simp [RH]
def Ev{β:Type}(r:Option β)(p:β->Prop):Prop:=∃ v,r=ac v/\p v
theorem bx{β γ:Type}{r:Option β}{p:β->Prop}{f:β->Option γ}{q:γ->Prop}(h:Ev r p)(hf:∀ v,p v->Ev (f v) q):Ev (r.bind f) q:=by
 obtain ⟨v,e,h1⟩:=h;rw [e];exact hf v h1
theorem cU{β:Type}{v:β}{p:β->Prop}(h:p v):Ev (ac v) p:=⟨v,rfl,h⟩
theorem qgD{β:Type}{r:Option β}{v:β}{p:β->Prop}(e:r=ac v)(h:p v):Ev r p:=⟨v,e,h⟩
theorem qd7{β:Type}{r:Option β}{p q:β->Prop}(h:Ev r p)(hpq:∀ v,p v->q v):Ev r q:=by
 obtain ⟨v,e,h1⟩:=h;exact ⟨v,e,hpq v h1⟩
theorem fc{β γ:Type}{r:Option β}{v:β}{f:β->Option γ}{q:γ->Prop}(e:r=ac v)(hf:Ev (f v) q):Ev (r.bind f) q:=by
 rw [e];exact hf
theorem k6{γ:Type}{b:Bool}{f:Unit->Option γ}{q:γ->Prop}(hb:b=gi)(hf:Ev (f ()) q):Ev ((dW b).bind f) q:=by
 subst hb;exact hf
theorem PB{α:Type}{r:Option (α×aL)}{p:α->Prop}(h:Dr r p):Ev r λv=>p v.1/\Cu v.2:=by
 obtain ⟨v,c,e,h1,h2⟩:=h;exact ⟨_,e,h1,h2⟩
theorem eu{c:aL}(hc:Cu c)(n:Int):Ev (bd c n) λv=>(0<=v.1/\(0 < n->v.1 < n))/\Cu v.2:=PB (dx hc n)
theorem Gj{c:aL}(hc:Cu c)(n:Int):Ev (ir c n) λv=>Cu v.2:=qd7 (PB (Rk hc n)) λ_ h=>h.2
theorem KB{c:aL}(hc:Cu c){xs:gs}(hx:0 < xs.length):Ev (fo c xs) λv=>v.1∈xs/\Cu v.2:=PB (tr hc hx)
theorem cg{γ:Type}{b:Bool}{x y:Option γ}{q:γ->Prop}(h1:b=true->Ev x q)(h2:b=false->Ev y q):Ev (bif b then x else y) q:=by
 cases b with
 | true=>exact h1 rfl
 | false=>exact h2 rfl
theorem IA{c:aL}(h:Cu c):Cu (aL.mk c.fB c.fI c.fH):=h
theorem YN{α:Type}{f:α->Nat->Bool}:∀ (l:List α) (i:Nat) (x:α),fY f (l++[x]) i=(fY f l i && f x (i+l.length))
 | [],i,x=>by simp [fY]
 | y :: l,i,x=>by
  simp only [List.cons_append,fY,YN l (i+1) x,zQw,Bool.and_assoc];rw [show i+1+l.length=i+(l.length+1) by omega]
def HQ(t:bD):Prop:=dm t=gi/\1<=t.bl.length/\t.bl.length<=7
theorem WJ(hu:UB){c:aL}(hc:Cu c):Ev (vP c) λv=>HQ v.1/\Cu v.2:=by
 have key:∀ (m k n:Nat) (up:gs) (c:aL),n+m=7->m < k->1<=n->up.length=n->fY Dg up 0=true->Cu c ->
   Ev (iC k (n:Int) up c.fB c.fI c.fH) λv=>HQ v.1/\Cu v.2:=by
  intro m
  induction m with
  | zero =>
   intro k n up c hn hk h1 hl ho hc;obtain ⟨k,rfl⟩:∃ j,k=j+1:=⟨k - 1,by omega⟩;unfold iC;refine bx (eu (IA hc) 7) λr hr=>?_;have hr1:=hr.1.1;have hr2:=hr.1.2 al;rw [dE al al];have:¬ (n:Int) < 1+r.1:=by omega
   simp only [this,decide_false,cond_false,yj];exact cU ⟨⟨by unfold dm; rw [ho]; simp [aj]; omega,by show 1<=up.length; omega,by show up.length<=7; omega⟩,hr.2⟩
  | succ m ih =>
   intro k n up c hn hk h1 hl ho hc;obtain ⟨k,rfl⟩:∃ j,k=j+1:=⟨k - 1,by omega⟩;unfold iC;refine bx (eu (IA hc) 7) λr hr=>?_;have hr1:=hr.1.1;have hr2:=hr.1.2 al;rw [dE al al];have next:∀ (x:Int) (c:aL),0<=x->x < n->Cu c->Ev (s5 (λz0 z1 z2 z3 z4=>iC k z0 z1 z2 z3 z4) (n:Int) x up c.fB c.fI c.fH) λv=>HQ v.1/\Cu v.2:=by
    intro x c h0 hx hc;unfold s5;refine k6 f6 ?_;rw [dE al al,show (n:Int)+1=((n+1:Nat):Int) by omega];refine ih k (n+1) _ c al al al f6 ?_ hc;rw [YN,ho,zQh];unfold Dg;rw [if_neg al];simp [aj]; omega
   refine cg (λhlt=>?_) (λ_=>?_)
   ·refine bx (Gj hr.2 2) λo ho2=>?_;refine cg (λ_=>?_) (λ_=>?_)
    ·refine bx (eu ho2 _) λx hx=>?_;exact next _ _ hx.1.1 (hx.1.2 al) hx.2
    ·rw [db al al];exact next _ _ al al ho2
   ·unfold yj;exact cU ⟨⟨by unfold dm; rw [ho]; simp [aj]; omega,by show 1<=up.length; omega,by show up.length<=7; omega⟩,hr.2⟩
 unfold vP;exact key 6 u 1 _ c al al al rfl rfl hc
theorem YO(hu:UB){c:aL}(hc:Cu c):Ev (zy c) λv=>v.1.bl.length<=7/\Cu v.2:=by
 unfold zy;refine bx (WJ hu hc) λt ht=>?_;have hl:=ht.1.2;refine bx (eu ht.2 8) λn hn=>?_;refine cg (λ_=>?_) (λ_=>cg (λ_=>?_) (λ_=>?_))
 ·refine bx (eu hn.2 _) λi hi=>?_;refine bx (KB hi.2 ig) λx hx=>?_;have h0:=hi.1.1;have h1:=hi.1.2 al;obtain ⟨j,hj⟩:∃ j:Nat,i.1=(j:Int):=⟨i.1.toNat,by omega⟩;rw [hj,cj,sX al];exact cU ⟨by show (t.1.bl.set _ _).length<=7; rw [zXk]; omega,hx.2⟩
 ·exact cU ⟨by simp,hn.2⟩
 ·exact cU ⟨by show t.1.bl.length<=7; omega,hn.2⟩
theorem qgE{c:aL}(hc:Cu c):Ev (Ex c) λv=>Cu v.2:=by
 unfold Ex;refine bx (Gj hc 3) λo ho=>cg (λ_=>?_) (λ_=>?_)
 ·exact bx (KB ho ig) λx hx=>cU hx.2
 ·refine bx (eu ho _) λx hx=>bx (eu hx.2 _) λy hy=>k6 ?_ (cU hy.2);have:=hy.1.1
  simpa using this
theorem qdh(hu:UB){c:aL}(hc:Cu c):Ev (pJ c) λv=>M.img 16 v.1/\Cu v.2:=PB (V8 hu hc)
theorem qgF(hu:UB){c:aL}(hc:Cu c){b:gs}(hb:M.img 200 b):Ev (uN c b) λv=>M.img 240 v.1/\Cu v.2:=PB (qeY hu hc hb.1 hb.2)
theorem qjb(hu:UB){c:aL}(hc:Cu c):Ev (BE c) λv=>(v.1.aI.length<=41/\wL v.1)/\Cu v.2:=PB (qgs hu hc)
theorem HR{n m:Nat}{b:gs}(h:M.img n b)(hn:n<=m):M.img m b:=⟨zXQ h.1 hn,h.2⟩
structure M.DrMan (m:af) (b:gs):Prop where
 i:M.img 16 b
 o:cG m=gi
 n:m.aI.length<=40
 w:wL m
 l:0<=m.aT/\m.aT<=16
theorem YP(hu:UB){c:aL}(hc:Cu c):Ev (sg c) λv=>M.DrMan v.1 v.2.1/\Cu v.2.2:=by
 unfold sg;refine bx (qdh hu hc) λb hb=>bx (eu hb.2 _) λx hx=>bx (eu hx.2 _) λy hy=>?_;have h1:=hb.1.1;refine fc (ye hu hb.1.2 al _ _) (cU ⟨⟨hb.1,CJ _ hb.1.2 _,Hz _ _ _,V2 _ _ _ hb.1.2,?_⟩,hy.2⟩);unfold dZ
 split
 ·exact ⟨by simp,by simp; omega⟩
 ·simp
structure M.DrNode (n:aD):Prop where
 w:M.NodWf n
 b:n.bi.bE.length<=16
 k:n.aZ.length<=10
theorem qdi:wL ⟨0,0,0,[]⟩:=λx hx=>by simp at hx
theorem qe8{m:af}{b:gs}(hm:M.DrMan m b){x:aW}(hp:M.Part m 40 x){l:List bV}(hl:l.length<=10)(o:Bool)(i q ph dr:Int):M.DrNode ⟨o,i,q,m,x,ph,l,dr⟩:=by
 have h1:=hm.n;have h2:=hm.l;have h3:=hp.l;exact ⟨⟨by show m.aI.length<=1048576; omega,hp.b,by show l.length<=1048577; omega,hm.w⟩,by show x.bE.length<=16; omega,hl⟩
theorem qh0:M.DiskIn ⟨[],[],⟨0,0,0⟩,[]⟩:=⟨⟨by simp,by simp,by simp,by simp⟩,⟨by simp [aw],by simp [aw],by simp⟩,by simp⟩
theorem qdj(g:Int){b:gs}(hb:M.img 1048576 b):Ev (ic g b) M.DiskIn:=by
 have hl:=hb.1;unfold ic;refine fc (bJ g 0 1000000) ?_;have key:∀ x:Bool,Ev (ju g b x) M.DiskIn:=by
  intro x;unfold ju;refine cg (λ_=>cU qh0) (λ_=>k6 f6 (cU ?_));exact ⟨⟨by simpa using hl,by simp,by simp,by simp⟩,⟨by simpa using hb.2,by simp [aw],by simp⟩,by simp⟩
 exact cg (λ_=>key _) (λ_=>key _)
theorem XP{d:ar}(hd:M.DiskIn d){m:af}{x:aW}(hx:M.BldWf x)(ph:Int):M.DiskIn (cK d m x ph).1:=by
 have h:=Kt hd.o hd.l (m:=m) hx ph;exact ⟨h.1,L1 hd.b hx ph,h.2⟩
theorem Z5(hu:UB){code:gs}(h:code.length<=1048576):Ev (uL code) Cu:=by
 obtain ⟨c,e,hc⟩:=qgm hu h;exact qgD e hc
def eP(t:bD)(k:Int):aD:=if dm t && aj k 1 ((t.bl.length:Int) - 1) then ⟨gi,(t.bl[k.toNat]?).getD 0,0,⟨0,0,0,[]⟩,⟨0,[]⟩,0,[],0⟩ else ⟨go,0,0,⟨0,0,0,[]⟩,⟨0,[]⟩,0,[],0⟩
theorem qd8{t:bD}{k:Int}(h:aj k 1 ((t.bl.length:Int) - 1)=gi):cM t.bl k=ac ((t.bl[k.toNat]?).getD 0):=by
 have:=bC h;obtain ⟨j,rfl⟩:∃ j:Nat,k=j:=⟨k.toNat,by omega⟩;rw [cj,r0,sX al];rfl
theorem B0(hu:UB){t:bD}(ht:t.bl.length<=1048576)(k:Int):qe t k=ac (eP t k):=by
 unfold qe eP;rw [oO hu al,db al al,bJ];simp only [wk];unfold vS
 cases dm t with
 | false=>rfl
 | true =>
  cases h:aj k 1 ((t.bl.length:Int) - 1) with
  | false=>rfl
  | true=>simp only [zQY,cond_false,qd8 h,wk,zS]; rfl
theorem RI(hu:UB){t:bD}(ht:t.bl.length<=1048576)(k:Int):tG t k=ac (eP t k):=by
 unfold tG eP;rw [vK hu al,rH ht];simp only [wk];unfold qN
 cases dm t with
 | false=>rfl
 | true =>
  by_cases h0:k=0
  ·subst h0;have:aj 0 1 ((t.bl.length:Int) - 1)=false:=by simp [aj]
   rw [this]; rfl
  ·have e0:(k == 0)=false:=by simpa using h0
   have e1:aj k 0 ((t.bl.length:Int) - 1)=aj k 1 ((t.bl.length:Int) - 1):=by
    unfold aj;rw [show decide (0<=k)=decide (1<=k) from by simp; omega]
   rw [e0,e1]
   cases h:aj k 1 ((t.bl.length:Int) - 1) with
   | false=>rfl
   | true=>simp only [zQY,cond_false,qd8 h,wk,Ab]; rfl
theorem Uf{g:Int}{b:gs}(h0:0<=g)(h1:g<=1000000)(hb:b.length<=240):v6 g b=ac ⟨b,[],⟨g,0,b.length⟩,[]⟩:=by
 obtain ⟨e,h2,h3,_⟩:=ZM g (b:=b) al;rw [(Fe h0 h1 hb).1] at h3;rw [h2,h3]
theorem qdk{g:Int}{b:gs}(hb:M.img 240 b):M.DiskIn ⟨b,[],⟨g,0,b.length⟩,[]⟩:=by
 have:=hb.1;exact ⟨⟨by show b.length<=1048576; omega,by simp,by simp,by simp⟩,⟨hb.2,by simp [aw],by simp⟩,by simp⟩
theorem Nk(hu:UB){a:List dR}(h:a.length<=1048577):xN a a=ac true:=by
 unfold xN;simp only [bne_self_eq_false,cond_false];rw [Mk a a () u al al,t6 (λx i k hx=>by unfold EK; rw [cj,hx]; simp only [wk,beq_self_eq_true,zQY,cond_false]) a 0 rfl];rfl
theorem Nl(hu:UB){a:List bV}(h:a.length<=1048577):xO a a=ac true:=by
 unfold xO;simp only [bne_self_eq_false,cond_false];rw [Mm a a () u al al,t6 (λx i k hx=>by unfold EM; rw [cj,hx]; simp only [wk,beq_self_eq_true,zQY,cond_false]) a 0 rfl];rfl
theorem Gk(hu:UB){m:af}(h:m.aI.length<=1048577):wx m m=ac true:=by
 unfold wx;simp only [beq_self_eq_true,cond_true,Nk hu h,wk]
theorem Nm(hu:UB){n:aD}(h:M.NodWf n):tT n n=ac true:=by
 unfold tT Ay;simp only [beq_self_eq_true,cond_true,Gk hu (show n.aH.aI.length<=1048577 by have:=h.s; omega),oM hu h.b.l,Nl hu h.k,wk]
theorem Jn(hu:UB){a:List ak}(h:a.length<=1048577)(hb:∀ p∈a,p.fB.length<=1048576):rf a a=ac true:=by
 unfold rf;simp only [bne_self_eq_false,cond_false];rw [Jg a a () u al al,t6 (λx i k hx=>by
  unfold Bn hJ;simp only [cj,hx,wk,bne_self_eq_false,zQY,cond_false,oM hu (hb x (zQQ hx))]) a 0 rfl]
 rfl
theorem WK{c:aL}(hc:Cu c):Ev (vQ c) λv=>ii v.1=gi/\Cu v.2:=by
 unfold vQ;refine bx (eu hc _) λa ha=>bx (KB ha.2 ig) λw hw=>bx (eu hw.2 _) λs hs=>bx (eu hs.2 _) λf hf=>cU ⟨?_,hf.2⟩;have a1:=ha.1.1;have a2:=ha.1.2 al;have s1:=hs.1.1;have s2:=hs.1.2 al;have f1:=hf.1.1;have f2:=hf.1.2 al;have w1:1<=w.1/\w.1<=40:=by
  have:=hw.1;simp only [zYq,zVw,or_false] at this;rcases this with h | h | h | h | h <;> omega
 unfold ii aj;simp only [dE (show -9223372036854775808<=2+a.1 by omega) (show 2+a.1<=9223372036854775807 by omega),dE (show -9223372036854775808<=1+s.1 by omega) (show 1+s.1<=9223372036854775807 by omega),dE (show -9223372036854775808<=2+f.1 by omega) (show 2+f.1<=9223372036854775807 by omega),sk,decide_eq_true_eq];omega
theorem YQ{c:aL}(hc:Cu c):Ev (zx c) λv=>Cu v.2:=by
 unfold zx;refine bx (WK hc) λr hr=>bx (eu hr.2 _) λk hk=>?_;refine cg (λ_=>bx (KB hk.2 ig) λx hx=>cU hx.2) (λ_=>?_);refine cg (λ_=>bx (KB hk.2 ig) λx hx=>cU hx.2) (λ_=>?_);refine cg (λ_=>bx (KB hk.2 ig) λx hx=>cU hx.2) (λ_=>?_);exact cg (λ_=>bx (KB hk.2 ig) λx hx=>cU hx.2) (λ_=>cU hk.2)
structure M.DrD (d:ar):Prop where
 o:M.DOk d
 l:d.fP.length<=201
theorem qgG(hu:UB){c:aL}(hc:Cu c):Ev (BD c) λv=>M.DrD v.1/\Cu v.2:=by
 obtain ⟨d,c',e,h,h2⟩:=qgn hu hc;exact qgD e ⟨⟨h.1,h.2⟩,h2⟩
def M.man(g:Int)(b:gs)(size:Int):af:=⟨g,size,b.length,rG b size⟩
theorem zP{g:Int}{b:gs}{size:Int}(hs:cF size b.length=gi)(hg:aj g 1 1000000=gi):dZ g b size=M.man g b size:=by
 unfold dZ M.man;rw [hs,hg]; rfl
structure M.Blk (b:gs) (size:Int) (z i:Nat):Prop where
 z2:2<=z/\z<=6
 w:aj (i:Int) 0 (bu size b.length - 1)=gi
 s:cu size b.length (i:Int)=(((i*z:Nat):Int),((min z (b.length - i*z):Nat):Int))
 p:i*z < b.length
theorem Nn{b:gs}{size:Int}(hs:cF size b.length=gi){i:Nat}(hi:i < (bu size b.length).toNat):M.Blk b size size.toNat i:=by
 have h1:=vH hs;have hw:aj (i:Int) 0 (bu size b.length - 1)=true:=by unfold aj; simp; omega
 obtain ⟨z,rfl⟩:∃ z:Nat,size=z:=⟨size.toNat,by omega⟩;have h2:=YM hw;have h3:=sQ (size:=(z:Int)) (n:=b.length) (i:=i) al;have e:cu (z:Int) b.length i=((i:Int)*z,min (z:Int) (b.length - (i:Int)*z)):=by unfold cu; rw [if_pos hw]
 rw [r0];have hlt:i*z < b.length:=by
  have h5:=h2.1;have h6:=h3.2.2.2;have h7:=h2.2;rw [h5] at h6;have:((i*z:Nat):Int)=(i:Int)*z:=by simp
  omega
 refine ⟨by omega,hw,?_,hlt⟩;rw [e];have h8:(i:Int)*z=((i*z:Nat):Int):=by simp
 rw [h8]
 congr 1
 omega
theorem RJ{b:gs}{size g:Int}{z i:Nat}(h:M.Blk b size z i):M.at_ (M.man g b size) i=i*z/\qs (M.man g b size) i=min z (b.length - i*z):=by
 unfold M.at_ qs;show (cu size b.length i).1.toNat=_/\(cu size b.length i).2.toNat=_;rw [h.s];exact ⟨r0 _,r0 _⟩
theorem PC{b:gs}{size:Int}{z i:Nat}(h:M.Blk b size z i):(eV b size i).1=M.win b (i*z) (min z (b.length - i*z)):=by
 have h1:=(WI h.w).2;rw [h.s] at h1;rw [h1];simp only [r0]
theorem PD{b:gs}{size g:Int}{i:Nat}(hi:i < (bu size b.length).toNat):(M.man g b size).aI[i]?=ac (eo (eV b size i).1):=by
 show (rG b size)[i]?=_;unfold rG;rw [zQV,zZw hi]; rfl
theorem PE(g:Int)(b:gs)(size:Int):(M.man g b size).aI.length=(bu size b.length).toNat:=by
 show (rG b size).length=_;unfold rG;simp
theorem WL{b:gs}{size g:Int}{z i:Nat}(h:M.Blk b size z i)(hi:i < (bu size b.length).toNat):0<=eG b (M.man g b size) i:=by
 unfold eG;rw [PD hi];show 0<=ua b _ (cu size b.length i).2;rw [h.s];have hp:=h.p;have hz:=h.z2;unfold ua;have hn:aj ((min z (b.length - i*z):Nat):Int) 1 6=true:=by simp [aj]; omega
 simp only;rw [if_pos hn,r0];refine LT _ 0 (i*z) (zZv _) al ?_;rw [PC h]
theorem qe9{b:gs}(hb:aw b){size g:Int}{z i:Nat}(h:M.Blk b size z i)(hi:i < (bu size b.length).toNat):M.win b (eG b (M.man g b size) i).toNat (qs (M.man g b size) i)=M.win b (i*z) (min z (b.length - i*z)):=by
 obtain ⟨s,h1,_,h2,h3⟩:=Fj (WL (g:=g) h hi);rw [PD hi] at h1
 cases h1
 have hz:=h.z2;rw [PC h] at h2;rw [(RJ h).2] at h2 h3 ⊢;refine YL (i6 hb _ _) (i6 hb _ _) ?_ ?_ h2
 ·rw [m5 h3]; omega
 ·rw [m5 (by have:=h.p; omega)]; omega
theorem WM{b:gs}{z i:Nat}(hp:i*z < b.length):b.take (i*z)++M.win b (i*z) (min z (b.length - i*z))=b.take ((i+1)*z):=by
 have e:b.take (i*z)=(b.take (i*z+min z (b.length - i*z))).take (i*z):=by rw [List.take_take]; congr 1; omega
 unfold M.win;rw [e,zXv,zYw]
 by_cases h:z<=b.length - i*z
 ·rw [zXj h]
 ·rw [Nat.min_eq_right al,zWj al,zWj al]
theorem qh1{b:gs}{z i:Nat}(hp:i*z < b.length):(b.take ((i+1)*z)).length=i*z+min z (b.length - i*z):=by
 rw [zQk,zYw]; omega
theorem qh2{i:Nat}:(2 ^ i - 1) ||| 2 ^ i=2 ^ (i+1) - 1:=by
 apply Nat.eq_of_testBit_eq
 intro j;rw [Nat.testBit_or,zYg,Nat.testBit_two_pow,zYg]
 by_cases h1:j < i <;> by_cases h2:i=j <;> simp [h1,h2] <;> omega
def KC(b:gs)(z i:Nat):aW:=⟨((2 ^ i - 1:Nat):Int),b.take (i*z)++zQG (b.length - (b.take (i*z)).length) 0⟩
theorem qgH{b:gs}{size g:Int}{z i:Nat}(h:M.Blk b size z i)(hi:i<=39):M.put (M.man g b size) (KC b z i) i (M.win b (i*z) (min z (b.length - i*z)))=KC b z (i+1):=by
 have hp:=h.p;have ha:=(RJ (g:=g) h).1;have h2:(2:Nat) ^ i<=2 ^ 39:=zWZ al hi;have h3:0 < (2:Nat) ^ i:=Nat.pow_pos al;have hw:(M.win b (i*z) (min z (b.length - i*z))).length=min z (b.length - i*z):=m5 al;have hl:(b.take (i*z)).length=i*z:=by rw [zQk]; omega
 unfold M.put KC;rw [ha]
 congr 1
 ·rw [Hy al,F4 al al,qh2]
 ·rw [Fd (by rw [hw,zQH,hl,zYz]; omega),hw,qh1 hp,<- WM hp]
  congr 1
  ·rw [List.take_append_of_le_length al,zWj al]
  ·rw [List.drop_append,zXz al,zQj,List.drop_replicate]
   congr 1
   omega
theorem WN{b:gs}(hb:aw b){size g:Int}(hs:cF size b.length=gi):∀ (n i:Nat),i+n=(bu size b.length).toNat->yV (M.man g b size) b n i (KC b size.toNat i)=KC b size.toNat (i+n)
 | 0,i,_=>rfl
 | n+1,i,h=>by
  have hi:i < (bu size b.length).toNat:=by omega
  have hk:=Nn hs hi;have hr:=blocks_range size b.length;unfold yV;rw [if_pos (WL hk hi),qe9 hb hk hi,qgH hk al,WN hb hs n (i+1) al]
  congr 1
  omega
theorem No{b:gs}{size:Int}(hs:cF size b.length=gi):b.length<=(bu size b.length).toNat*size.toNat:=by
 have h1:=vH hs;have h2:bu size b.length=(b.length+size - 1) / size:=by unfold bu; rw [if_pos hs]
 have h3:=blocks_range size b.length;have h4:=Int.lt_ediv_add_one_mul_self ((b.length:Int)+size - 1) (show 0 < size by omega);rw [<- h2,zVV] at h4;have h5:(((bu size b.length).toNat*size.toNat:Nat):Int)=bu size b.length*size:=by
  rw [Int.natCast_mul,Int.toNat_of_nonneg h3.1,Int.toNat_of_nonneg al]
 omega
theorem Fn{b:gs}(hb:aw b){size g:Int}(hs:cF size b.length=gi)(hm:cG (M.man g b size)=gi):d8 (M.man g b size) b=⟨((2 ^ (bu size b.length).toNat - 1:Nat):Int),b⟩:=by
 unfold d8;rw [if_pos hm,PE];have e:iz (M.man g b size)=KC b size.toNat 0:=by
  unfold iz KC;rw [if_pos hm];simp [M.man]
 rw [e,WN hb hs _ 0 al,zWY];unfold KC;rw [zWj (No hs)];simp
theorem qbG(x:Int):yN .i64 x x=0:=by
 unfold yN;have e:lg IntKind.i64.bits x &&& ~~~lg IntKind.i64.bits x=0:=by
  show lg 64 x &&& ~~~lg 64 x=0
  apply BitVec.eq_of_getLsbD_eq
  intro i hi;simp
 rw [e];rfl
theorem PF{α:Type}{f:α->Nat->Bool}:∀ (l:List α) (i:Nat),(∀ (j:Nat) (x:α),l[j]?=ac x->f x (i+j)=gi)->fY f l i=gi
 | [],i,_=>rfl
 | x :: l,i,h=>by
  unfold fY;rw [show f x i=gi from h 0 x rfl,zQh];exact PF l (i+1) λj y hj=>by
   have:=h (j+1) y wz9;rwa [show i+1+j=i+(j+1) by omega]
theorem Np{b:gs}(hb:aw b){size g:Int}(hs:cF size b.length=gi)(hg:aj g 1 1000000=gi)(hm:cG (M.man g b size)=gi):oZ (M.man g b size) ⟨((2 ^ (bu size b.length).toNat - 1:Nat):Int),b⟩=true:=by
 have hr:=blocks_range size b.length;have hn:(bu size b.length).toNat<=40:=by omega
 have h2:(2:Nat) ^ (bu size b.length).toNat<=2 ^ 40:=zWZ al hn;have hset:bB ((2 ^ (bu size b.length).toNat - 1:Nat):Int)=true:=by unfold bB aj; simp; omega
 have hfull:jb (M.man g b size).aI.length=((2 ^ (bu size b.length).toNat - 1:Nat):Int):=by rw [PE]; unfold jb; rw [if_pos hn]
 have hwo:n6 ((2 ^ (bu size b.length).toNat - 1:Nat):Int) ((2 ^ (bu size b.length).toNat - 1:Nat):Int)=0:=by
  unfold n6;rw [hset];exact qbG _
 have hg1:=bC hg;unfold oZ rJ fO;rw [hm,hfull];simp only [hset,hwo,zQh,sk,beq_iff_eq,bne_iff_ne,ne_eq,and_true,true_and,decide_eq_true_eq];refine ⟨by show g≠0; omega,rfl,PF _ 0 λi s hi=>?_⟩;have hlt:i < (bu size b.length).toNat:=by have:=(ln.1 hi).1; rw [PE] at this; exact this
 have hk:=Nn hs hlt;rw [PD hlt] at hi
 cases hi
 unfold qt;rw [zWY,qc1 hn hlt,if_pos rfl];unfold oY;rw [(RJ hk).1,(RJ hk).2,PC hk];simp
theorem dk{a b:gs}{r:ed}{p:List dv}(ha:a.length<=240)(hb:b.length<=240)(hr:gN r=gi)(hs:r.aT<=(fV ⟨a,b,r,p⟩ r.bW).length)(hp:p.length<=200)(hq:∀ x∈p,gf x=gi):bZ ⟨a,b,r,p⟩=true:=by
 unfold bZ;simp only [sk,decide_eq_true_eq,zXZ];exact ⟨⟨⟨⟨⟨ha,hb⟩,hr⟩,hs⟩,hp⟩,hq⟩
structure M.K0 (old:gs) (d:ar):Prop where
 a:d.fA=old
 r:d.fR=⟨0,0,old.length⟩
 b:d.fB.length<=240
theorem qj9{old:gs}(h:old.length<=240):gN ⟨0,0,old.length⟩=true:=by
 unfold gN aj;simp;omega
theorem KD{old:gs}(h:old.length<=240){d:ar}(hk:M.K0 old d)(hp:d.fP.length<=200)(hq:∀ x∈d.fP,gf x=gi):bZ d=gi/\bX d=(0,old):=by
 obtain ⟨a,b,r,p⟩:=d;obtain ⟨h1,h2,h3⟩:=hk;have h1:a=old:=h1;have h2:r=⟨0,0,old.length⟩:=h2;subst h1 h2;have e:bZ ⟨a,b,⟨0,0,a.length⟩,p⟩=true:=dk h h3 (qj9 h) (by simp [fV]) hp hq;refine ⟨e,?_⟩;unfold bX;rw [e,if_pos rfl];simp [fV]
theorem tx{d:ar}{g:Int}{b:gs}(h:bX d=(g,b)):M.holds d g b=true:=by
 unfold M.holds mv;rw [h];simp
theorem qjc{old:gs}{d:ar}(hk:M.K0 old d){p:dv}(h1:p.fm=1)(hp:gf p=gi):M.K0 old (oL d p):=by
 have hw:p.fm≠2:=by omega
 have hw0:p.fm≠0:=by omega
 unfold oL;rw [if_neg hw,if_neg hw0];refine ⟨hk.a,hk.r,?_⟩;have hb:=hk.b;rcases CH hp with h | ⟨_,h3,h4⟩
 ·omega
 ·rw [MX]; omega
theorem qbH{old:gs}(s:Int):∀ (l:List dv) (i:Nat) (d:ar),M.K0 old d->(∀ p∈l,p.fm=1/\gf p=gi)->M.K0 old (p8 s l i d)/\(p8 s l i d).fP=[]
 | [],i,d,h,_=>⟨⟨h.a,h.r,h.b⟩,rfl⟩
 | p :: l,i,d,h,hp=>by
  unfold p8;refine qbH s l (i+1) _ ?_ λq hq=>hp q Y0
  split
  ·exact qjc h (hp p ig).1 (hp p ig).2
  ·exact h
def IB(b:gs)(z i:Nat):dv:=⟨1,((i*z:Nat):Int),M.win b (i*z) (min z (b.length - i*z)),⟨0,0,0⟩⟩
def qa(b:gs)(z i:Nat):List dv:=(zXY i).map (IB b z)
def CK(old b:gs)(p:List dv):ar:=⟨old,b,⟨0,0,old.length⟩,p⟩
theorem qh3{b:gs}(hl:b.length<=16){size:Int}{z i:Nat}(h:M.Blk b size z i):(IB b z i).fm=1/\gf (IB b z i)=true:=by
 refine ⟨rfl,?_⟩;have hz:=h.z2;have hp:=h.p;have hw:(M.win b (i*z) (min z (b.length - i*z))).length=min z (b.length - i*z):=m5 al;unfold gf IB;simp only [hw];have e:aj ((i*z:Nat):Int) 0 (240 - (min z (b.length - i*z):Nat))=true:=by simp only [aj,sk,decide_eq_true_eq]; omega
 rw [if_neg al,e];rfl
theorem WO{b:gs}(hl:b.length<=16){size:Int}(hs:cF size b.length=gi){i:Nat}(hi:i<=(bu size b.length).toNat):∀ p∈qa b size.toNat i,p.fm=1/\gf p=true:=by
 intro p hp;obtain ⟨j,hj,rfl⟩:=List.mem_map.1 hp;have:=List.mem_range.1 hj;exact qh3 hl (Nn hs al)
theorem qdl(b:gs)(z i:Nat):qa b z i++[IB b z i]=qa b z (i+1):=by
 unfold qa;rw [List.range_succ,zYk]; rfl
theorem YR(b:gs)(z i:Nat):(qa b z i).length=i:=by simp [qa]
theorem Bi(hu:UB){l:List aX}(hl:l.length<=1048576)(hb:∀ x∈l,x.fB.length<=1048576):jd l=ac l:=by
 unfold jd;rw [K8 l _ u al al,sS 1048576 l _ l 0 [] (λ_ h=>h) f6]
 ·rfl
 ·intro x i s k hx hs;have h4:=hb x hx;unfold Dn;rw [bp f6];simp only [wk];rw [bp f6]; rfl
theorem qbI{α ρ:Type}{fin:List α->Option ρ}{body:α->Nat->List α->(List α->Option ρ)->Option ρ}(n:Nat)(p:List α)(hb:∀ x i s k,p[i]?=ac x->s.length+1<=n->body x i s k=k (s++[x])) :
  ∀ (l:List α) (i:Nat) (s:List α),l=p.drop i->s.length+l.length<=n->bT fin body l i s=fin (s++l):=by
 intro l
 induction l with
 | nil=>intro i s _ _; simp [bT]
 | cons x l ih =>
  intro i s h1 h2;simp only [zQw] at h2;have h3:p[i]?=ac x:=by
   have:=congrArg (λl=>l[0]?) h1
   simpa using this.symm
  have h4:l=p.drop (i+1):=by
   have:=congrArg (List.drop 1) h1
   simpa using this
  simp only [bT];rw [hb x i s _ h3 al,ih (i+1) _ h4 f6];simp
theorem IC(hu:UB){l:List ak}(hl:l.length<=1048576)(hb:∀ x∈l,x.fB.length<=1048576):iV l=ac l:=by
 unfold iV;rw [Gp l _ u al al,qbI 1048576 l _ l 0 [] ig f6]
 ·rfl
 ·intro x i s k hx hs;have h4:=hb x (zQQ hx);unfold xB;rw [kI l i hx];simp only [wk];rw [bp f6];simp only [wk];rw [bp f6]; rfl
structure M.WCp (w:World):Prop where
 t:w.fT.bl.length<=1048576
 new:w.bI.length<=1048576
 ol:w.bt.length<=1048576
 old:∀ x∈w.bt,x.fB.length<=1048576
 nl:w.fN.length<=1048576
 n:∀ x∈w.fN,M.NodWf x
 dl:w.fD.length<=1048576
 d:∀ x∈w.fD,M.DOk x
 pl:w.bj.length<=1048576
 p:∀ x∈w.bj,Dj x
 ll:w.cY.length<=1048576
theorem Ug(hu:UB){w:World}(h:M.WCp w):sD w=ac w:=by
 have h1:=h.t;have h2:=h.new;have h3:=h.nl;have h4:=h.dl;have h5:=h.ll;unfold sD;rw [bp f6,bp f6];simp only [wk];rw [Bi hu h.ol h.old];simp only [wk];rw [NI w _ _ u al al,sS 1048576 w.fN _ w.fN 0 [] (λ_ h=>h) f6]
 ·unfold Fy tc;rw [NH w _ _ _ u al al,sS 1048576 w.fD _ w.fD 0 [] (λ_ h=>h) f6]
  ·unfold Fw ta;rw [IC hu h.pl λx hx=>(h.p x hx).2];simp only [wk];rw [bp f6];rfl
  ·intro x i s k hx hs;unfold Fx;rw [jq hu (h.d x hx)];simp only [wk];rw [bp f6]; rfl
 ·intro x i s k hx hs;unfold Fz;rw [iJ (h.n x hx)];simp only [wk];rw [bp f6]; rfl
structure M.DrW (w:World):Prop where
 wf:M.WWf w
 ol:w.bt.length=w.fT.bl.length
 old:∀ x∈w.bt,M.img 240 x.fB
 new:M.img 16 w.bI
 log:w.cY.length<=3000
structure M.NewW (w:World):Prop where
 d:M.DrW w
 net:w.bj=[]
 lost:w.bk=0
 log:w.cY=[]
 c:ii w.fC=gi
 s:cF w.fC.au w.bI.length=gi
 root:∀ n,w.fN[0]?=ac n->n=⟨gi,-1,0,dZ 1 w.bI w.fC.au,d8 (dZ 1 w.bI w.fC.au) w.bI,6,[],0⟩
 node:∀ (j:Nat) (n:aD),j≠0->w.fN[j]?=ac n->n=eP w.fT j
 disk:∀ (j:Nat) (d:ar) (o:aX),w.fD[j]?=ac d->w.bt[j]?=ac o->d=⟨o.fB,[],⟨0,0,o.fB.length⟩,[]⟩
theorem Z6{w:World}(h:M.DrW w):M.WCp w:=by
 have h0:=GK h.wf;have h1:=h.wf.nl;have h2:=h.wf.dl;have h3:=h.wf.len;have h4:=h.ol;have h5:=h.log;have h6:=h.new.1;refine ⟨by omega,by omega,by omega,λx hx=>by have:=(h.old x hx).1; omega,by omega,λx hx=>?_,by omega,λx hx=>?_,by omega,λx hx=>(h.wf.net x hx).w,by omega⟩
 ·obtain ⟨j,hj⟩:=Sh.1 hx;exact (h.wf.nodes j x hj).w
 ·obtain ⟨j,hj⟩:=Sh.1 hx;exact (h.wf.disks j x hj).o
theorem PG{t:bD}(ht:dm t=gi){k:Nat}(h0:0 < k)(hk:k < t.bl.length):M.NodeIn t k (eP t k):=by
 have hw:aj (k:Int) 1 ((t.bl.length:Int) - 1)=true:=by unfold aj; simp; omega
 unfold eP;simp only [ht,hw,zXG,if_true];refine ⟨⟨by simp,⟨by simp [aw],by simp⟩,by simp,qdi⟩,⟨by simp [fk],by simp [fk]⟩,λz hz=>by simp [fk] at hz,λ_=>?_⟩
 ·rw [r0,sX hk];have:=YJ ht h0 (sX hk);unfold gX aj;simp;omega
theorem KE(hu:UB)(t:bD){m:af}{b:gs}(hm:M.DrMan m b)(hg:m.aR≠0)(ht:jg m b=gi):tF m b=ac ⟨gi,-1,0,m,d8 m b,6,[],0⟩/\M.NodeIn t 0 ⟨gi,-1,0,m,d8 m b,6,[],0⟩:=by
 have h1:=hm.n;have h2:=hm.i.1;have mk:∀ n:aD,M.DrNode n->n.aZ=[]->M.NodeIn t 0 n:=λn hn hk=>⟨hn.w,by rw [hk]; exact ⟨by simp [fk],by simp [fk]⟩,λz hz=>by rw [hk] at hz; simp [fk] at hz,λh=>absurd rfl h⟩;refine ⟨?_,mk _ (qe8 hm (HM (Be hm.o hm.i.2 al) h1) ig _ _ _ _ _) rfl⟩;have e0:(m.aR == 0)=false:=by simpa using hg
 unfold tF;rw [e0,jn hu m al,hm.o];simp only [cond_false,wk,zQY,LX hu m hm.i.2 (show b.length<=1048576 by omega),ht];unfold qJ;simp only [cond_false,Fh (show m.aI.length<=1048576 by omega),wk,uv hu (show m.aI.length<=1048576 by omega) hm.i.2 (show b.length<=1048576 by omega)]
theorem WP{b:gs}(hb:M.img 16 b)(g s:Int):M.DrMan (dZ g b s) b:=by
 have h1:=hb.1;refine ⟨hb,CJ _ hb.2 _,Hz _ _ _,V2 _ _ _ hb.2,?_⟩;unfold dZ
 split
 ·exact ⟨by simp,by simp; omega⟩
 ·simp
theorem qbJ(hu:UB){c:fq}(hc:ii c=gi){t:bD}(ht:HQ t){b:gs}(hb:M.img 16 b){old:List aX}(ho:old.length=t.bl.length)(hol:∀ x∈old,M.img 240 x.fB):Ev (je c t b old) M.NewW:=by
 have t1:=ht.2.1;have t2:=ht.2.2;have b1:=hb.1;have hs:cF c.au (b.length:Int)=true:=by
  unfold ii at hc;simp only [sk] at hc;have:=bC hc.1.1.1;unfold cF;simp only [hc.1.1.1,zQh];unfold aj;simp;omega
 have hoo:iU old (t.bl.length:Int)=true:=by
  unfold iU;simp only [sk];refine ⟨zm.2 λx hx=>?_,by simp [ho]⟩;have:=(hol x hx).1;simp;omega
 have ht1:jg (dZ 1 b c.au) b=true:=Gi hs BL;have hg1:(dZ 1 b c.au).aR≠0:=by rw [zP hs BL]; show (1:Int)≠0; decide
 obtain ⟨hr1,hr2⟩:=KE hu t (WP hb 1 c.au) hg1 ht1;have loop:∀ (m k i:Nat) (ns:List aD) (ds:List ar),i+m=t.bl.length->m < k->ns.length=i->ds.length=i ->
   (∀ (j:Nat) (n:aD),ns[j]?=ac n->n=if j=0 then ⟨gi,-1,0,dZ 1 b c.au,d8 (dZ 1 b c.au) b,6,[],0⟩ else eP t j)->(∀ (j:Nat) (d:ar),ds[j]?=ac d->∃ o,old[j]?=ac o/\d=⟨o.fB,[],⟨0,0,o.fB.length⟩,[]⟩) ->
   Ev (dG k b old (i:Int) c t old ns ds) M.NewW:=by
  intro m
  induction m with
  | zero =>
   intro k i ns ds hi hk h1 h2 h3 h4;obtain ⟨k,rfl⟩:∃ j,k=j+1:=⟨k - 1,by omega⟩;unfold dG;have:¬ (i:Int) < (t.bl.length:Int):=by omega
   simp only [this,decide_false,cond_false,qK];refine cU ⟨⟨⟨ht.1,by show ns.length=t.bl.length; omega,by show ds.length=t.bl.length; omega,λj n hn=>?_,λj d hd=>?_,λp hp=>by simp at hp,by simp⟩,ho,hol,by simpa using hb,by simp⟩,rfl,rfl,rfl,hc,by simpa using hs,λn hn=>by simpa using h3 0 n hn,λj n h0 hn=>(h3 j n hn).trans (if_neg h0),λj d o hd ho'=>?_⟩
   ·have e:=h3 j n hn
    by_cases h0:j=0
    ·subst h0;rw [e,if_pos rfl];exact hr2
    ·rw [e,if_neg h0];exact PG ht.1 al (by have:=(ln.1 hn).1; have:j < ns.length:=this; omega)
   ·obtain ⟨o,h5,h6⟩:=h4 j d hd;rw [h6];exact qdk (hol o (zQQ h5))
   ·obtain ⟨o',h5,h6⟩:=h4 j d hd;have ho':old[j]?=ac o:=ho';rw [h5] at ho'
    cases ho'
    exact h6
  | succ m ih =>
   intro k i ns ds hi hk h1 h2 h3 h4;obtain ⟨k,rfl⟩:∃ j,k=j+1:=⟨k - 1,by omega⟩;unfold dG;have hlt:(i:Int) < (t.bl.length:Int):=by omega
   simp only [hlt,decide_true,cond_true];have step:∀ n:aD,(n=if i=0 then ⟨gi,-1,0,dZ 1 b c.au,d8 (dZ 1 b c.au) b,6,[],0⟩ else eP t i)->Ev (iM (λz0 z1 z2 z3 z4 z5 z6 z7=>dG k z0 z1 z2 z3 z4 z5 z6 z7) b old (i:Int) c t old ns ds n.fJ n.bG n.bn n.aH.aR n.aH.au n.aH.aT n.aH.aI n.bi.bc n.bi.bE n.aG n.aZ n.be) M.NewW:=by
    intro n hn;unfold iM;obtain ⟨x,hx⟩:∃ x,old[i]?=ac x:=⟨_,sX al⟩;have hxl:=(hol x (zQQ hx)).1;refine k6 f6 (fc (kI old i hx) (fc (Fe (g:=0) BL BL hxl).1 (k6 f6 ?_)));rw [fa (show i < 9223372036854775807 by omega)];refine ih k (i+1) _ _ al al (by simp [h1]) (by simp [h2]) (λj n' hj=>?_) (λj d' hj=>?_)
    ·by_cases hji:j < ns.length
     ·rw [zQW hji] at hj;exact h3 j n' hj
     ·rw [zQX al] at hj
      cases hq:j - ns.length with
      | zero =>
       rw [hq] at hj;simp only [zQz,Option.some.injEq] at hj;have:j=i:=by omega
       subst this hj;exact hn
      | succ q=>rw [hq] at hj; simp at hj
    ·by_cases hji:j < ds.length
     ·rw [zQW hji] at hj;exact h4 j d' hj
     ·rw [zQX al] at hj
      cases hq:j - ds.length with
      | zero =>
       rw [hq] at hj;simp only [zQz,Option.some.injEq] at hj;have:j=i:=by omega
       subst this;exact ⟨x,hx,hj.symm⟩
      | succ q=>rw [hq] at hj; simp at hj
   refine fc (B0 hu al _) ?_
   cases i with
   | zero =>
    refine cg (λ_=>?_) (λe=>by simp at e);refine fc (r:=ki _) (v:=dZ 1 b c.au) ?_ (fc hr1 (step _ rfl));unfold ki;simp only [zQj];rw [ye hu hb.2 al];rfl
   | succ i =>
    refine cg (λe=>?_) (λ_=>step _ ig);simp at e;omega
 unfold je;refine fc (Bg c) ?_;rw [hc];refine cg (λe=>by cases e) λ_=>fc (oO hu al) ?_;rw [ht.1];refine cg (λe=>by cases e) λ_=>fc (ms _ _) ?_;rw [hs];refine cg (λe=>by cases e) λ_=>fc (yW hu al _) ?_;rw [hoo];unfold jG;refine cg (λe=>by cases e) λ_=>k6 f6 (k6 f6 (fc (Bi hu al λx hx=>by have:=(hol x hx).1; omega) ?_));exact loop t.bl.length u 0 [] [] al al rfl rfl (λj n h=>by simp at h) (λj n h=>by simp at h)
theorem YS(hu:UB){c:aL}(hc:Cu c):Ev (zw c) λv=>M.NewW v.1/\Cu v.2:=by
 unfold zw;refine bx (WJ hu hc) λr1 hr1=>bx (qdh hu hr1.2) λr2 hr2=>?_;have t1:=hr1.1.2.1;have t2:=hr1.1.2.2;have loop:∀ (m k i:Nat) (xs:List aX) (c:aL),i+m=r1.1.bl.length->m < k->xs.length=i->(∀ x∈xs,M.img 240 x.fB)->Cu c->Ev (kl k r2 xs (i:Int) r1 c.fB c.fI c.fH) λv=>M.NewW v.1/\Cu v.2:=by
  intro m
  induction m with
  | zero =>
   intro k i xs c hi hk h1 h2 hc;obtain ⟨k,rfl⟩:∃ j,k=j+1:=⟨k - 1,by omega⟩;unfold kl;have:¬ (i:Int) < (r1.1.bl.length:Int):=by omega
   simp only [this,decide_false,cond_false,zY];exact bx (WK (IA hc)) λq hq=>bx (qbJ hu hq.1 hr1.1 hr2.1 al h2) λw hw=>cU ⟨hw,hq.2⟩
  | succ m ih =>
   intro k i xs c hi hk h1 h2 hc;obtain ⟨k,rfl⟩:∃ j,k=j+1:=⟨k - 1,by omega⟩;unfold kl;have hlt:(i:Int) < (r1.1.bl.length:Int):=by omega
   simp only [hlt,decide_true,cond_true];refine bx (qgF hu (IA hc) (HR hr2.1 al)) λq hq=>k6 f6 ?_;rw [fa (show i < 9223372036854775807 by omega)];refine ih k (i+1) _ q.2 al al (by simp [h1]) (λx hx=>?_) hq.2;rcases sa.1 hx with hx | hx
   ·exact h2 x hx
   ·simp only [zYq,zVw,or_false] at hx;subst hx;exact hq.1
 exact loop r1.1.bl.length u 0 [] r2.2 al al rfl ig hr2.2
theorem qdm{c:aL}(hc:Cu c){b:gs}{N:Nat}(hN:N<=1000000)(hb:b.length<=N)(hB:aw b):Dr (rX c b) (M.img (N+1)):=by
 unfold rX;rw [bp f6];simp only [wk,zQj];have hlt:∀ {v:Int},0<=v->v < (b.length:Int)->∃ y,cM b v=ac y:=λ{v} h0 h1=>by
  obtain ⟨i,rfl⟩:∃ i:Nat,v=(i:Int):=⟨v.toNat,by omega⟩;exact ⟨b[i]'al,by rw [cj]; exact sX al⟩
 have self:M.img (N+1) b:=⟨by omega,hB⟩;refine dg (dx hc 6) λn c1 _ h1=>?_;simp only
 cases n == 0 with
 | true =>
  simp only [cond_true]
  by_cases hl:(b.length:Int) > 0
  ·simp only [hl,decide_true,cond_true];refine dg (dx h1 _) λv c2 hv h2=>?_;refine dg (dx h2 256) λw c3 _ h3=>?_;obtain ⟨y,hy⟩:=hlt hv.1 (hv.2 hl);simp only [hy,wk,c7];exact d7 ⟨by rw [zXk]; omega,KZ hB _ (qeX _)⟩ h3
  ·simp only [hl,decide_false,cond_false,c7];exact d7 self h1
 | false =>
  simp only [cond_false]
  cases n == 1 with
  | true =>
   simp only [cond_true];rw [fa al];refine dg (dx h1 _) λv c2 hv h2=>?_;have h3:=hv.2 al;have hs:cR 0 v (b.length:Int)=true:=by simp [cR]; omega
   simp only [hs,Hf,wk,c7];exact d7 ⟨by rw [zYx,zQk]; omega,Iu (It hB _) _⟩ h2
  | false =>
   simp only [cond_false]
   cases n == 2 with
   | true =>
    simp only [cond_true];refine dg (tr h1 ig) λv c2 _ h2=>?_;rw [bp f6];simp only [wk,c7];exact d7 ⟨by rw [zQH,zYJ]; omega,Em hB (Rl _)⟩ h2
   | false =>
    simp only [cond_false]
    cases n == 3 with
    | true =>
     simp only [cond_true]
     by_cases hl:(b.length:Int) > 0
     ·simp only [hl,decide_true,cond_true];refine dg (dx h1 _) λv c2 hv h2=>?_;obtain ⟨y,hy⟩:=hlt hv.1 (hv.2 hl);simp only [hy,wk];refine dg (dx h2 8) λw c3 hw h3=>?_;have hw0:=hw.1;simp only [hy];rw [bp hw0];simp only [wk,c7];exact d7 ⟨by rw [zXk]; omega,KZ hB _ (by unfold Zd; exact qeX _)⟩ h3
     ·simp only [hl,decide_false,cond_false,c7];exact d7 self h1
    | false =>
     simp only [cond_false,c7];exact d7 self h1
def Uh(out:List ak):Prop:=∀ q∈out,q.fB.length<=1000
theorem sh0:Uh []:=λq hq=>by simp at hq
theorem shP(me t:Int)(m:jc):(lA me t m).fB.length<=1000:=by
 have:=Nb m;show (dQ m).length<=1000;omega
theorem sh1{me t:Int}(m:jc):Uh [lA me t m]:=λq hq=>by
 simp only [zQq] at hq;subst hq; exact shP _ _ _
theorem Z7{n:aD}{me f:Int}:Uh (iA n me f).m9:=λq hq=>by
 unfold iA at hq;simp only [zYv] at hq;obtain ⟨i,_,rfl⟩:=hq;exact shP _ _ _
theorem XQ{n:aD}{me f:Int}(m:jc):Uh (dV n me f m).m9:=by
 unfold dV
 split
 ·exact sh0
 ·split
  ·exact sh1 _
  ·split
   ·dsimp only
    split
    ·exact sh1 _
    ·exact Z7
   ·exact sh1 _
theorem qjd{n:aD}{me i:Int}:∀ (l:List bV) (s:List bV×List ak),Uh s.2->Uh (l.foldl (fQ n me i) s).2:=by
 intro l
 induction l with
 | nil=>intro s h; exact h
 | cons x l ih =>
  intro s h;refine ih _ λq hq=>?_;unfold fQ at hq
  split at hq
  ·simp only [zWv,zQq] at hq;rcases hq with hq | rfl
   ·exact h q hq
   ·exact shP _ _ _
  ·exact h q hq
theorem qdn{n:aD}{me i:Int}:Uh (gG n me i).m9:=by
 unfold gG
 split
 ·exact qjd _ _ sh0
 ·exact sh0
theorem qh4{t:bD}{me:Int}{n:aD}(d:ar)(p:ak):Uh (M.take t me n d p).m9:=by
 unfold M.take
 split
 ·exact sh0
 ·split
  ·split
   ·exact XQ _
   ·split
    ·unfold iX
     split
     ·exact sh0
     ·split
      ·unfold gP
       split
       ·exact sh0
       ·split
        ·exact sh0
        ·split
         ·exact qdn
         ·exact sh0
      ·first | exact sh0 | (split <;> exact sh0)
    ·exact sh0
  ·exact sh0
theorem qh5{t:bD}(c:fq){k:Int}{n:aD}(d:ar):Uh (M.tick t c k n d).m9:=by
 unfold M.tick
 split
 ·exact sh0
 ·split
  ·exact sh0
  ·split
   ·exact sh1 _
   ·exact sh1 _
def RK(x:aD):Prop:=(-9223372036854775808<=x.bG/\x.bG<=9223372036854775807)/\-9223372036854775808<=x.be/\x.be<=9223372036854775807
structure M.DrN (n:Nat) (w:World):Prop where
 d:M.DrW w
 len:∀ p∈w.bj,p.fB.length<=1000+n
 l0:0<=w.bk
 l1:w.bk<=n*1048577
 rg:∀ x∈w.fN,RK x
theorem rg0:-9223372036854775808<=(0:Int)/\(0:Int)<=9223372036854775807:=by decide
theorem rgm:-9223372036854775808<=(-1:Int)/\(-1:Int)<=9223372036854775807:=by decide
theorem RL{t:bD}(ht:t.bl.length<=7){z:Int}(h:gX t z):-9223372036854775808<=z/\z<=9223372036854775807:=by
 have:=bC h;omega
theorem Z8{w:World}(hw:M.NewW w):M.DrN 0 w:=by
 have h0:=hw.net;have h1:=hw.lost;have up:=GK hw.d.wf;refine ⟨hw.d,λp hp=>by rw [h0] at hp; simp at hp,by omega,by omega,λx hx=>?_⟩;obtain ⟨j,hj⟩:=Sh.1 hx
 by_cases e:j=0
 ·subst e;rw [hw.root x hj];exact ⟨rgm,rg0⟩
 ·have e1:=hw.node j x e hj;refine ⟨RL up.2 ((hw.d.wf.nodes j x hj).b e),?_⟩;rw [e1];unfold eP
  split <;> exact rg0
theorem Nq{n:Nat}{w:World}(h:M.DrN n w):M.DrN (n+1) w:=⟨h.d,λp hp=>by have:=h.len p hp; omega,h.l0,by have:=h.l1; omega,h.rg⟩
theorem qdo{N K:Nat}(hN:1000<=N):∀ (out:List ak) (s:List ak×List eJ×Int),Uh out->(∀ p∈s.1,p.fB.length<=N)->s.2.1.length<=3000->0<=s.2.2->s.2.2<=K->K+out.length<=4611686018427387904 ->
  (∀ p∈(out.foldl eh s).1,p.fB.length<=N)/\(out.foldl eh s).2.1.length<=3000/\0<=(out.foldl eh s).2.2/\(out.foldl eh s).2.2<=K+out.length:=by
 intro out
 induction out generalizing K with
 | nil=>intro s _ h1 h2 h3 h4 _; exact ⟨h1,h2,h3,by simpa using h4⟩
 | cons x out ih =>
  intro s hs h1 h2 h3 h4 h5;simp only [zQw] at h5;rw [zYG];have hx:=hs x ig;have hs':Uh out:=λq hq=>hs q Y0
  by_cases hl:400<=s.1.length
  ·have e:eh s x=(s.1,s.2.1,aS .i64 s.2.2 1):=by unfold eh; rw [if_pos hl]
   rw [e,dE al al];obtain ⟨a,b,c,d⟩:=ih (K:=K+1) (s.1,s.2.1,s.2.2+1) hs' h1 h2 (by show 0<=s.2.2+1; omega) (by show s.2.2+1<=((K+1:Nat):Int); omega) al;exact ⟨a,b,c,by simp only [zQw]; omega⟩
  ·have e:(eh s x).1=s.1++[x]/\(eh s x).2.2=s.2.2/\(eh s x).2.1.length<=3000:=by
    unfold eh;rw [if_neg hl];refine ⟨rfl,rfl,?_⟩;dsimp only
    split
    ·rename_i hc;simp only [sk,decide_eq_true_eq] at hc;simp only [zQH,zYJ];omega
    ·exact h2
   obtain ⟨a,b,c,d⟩:=ih (K:=K) (eh s x) hs' (λp hp=>by
    rw [e.1] at hp;rcases sa.1 hp with hp | hp
    ·exact h1 p hp
    ·simp only [zQq] at hp;subst hp;omega) e.2.2 (by rw [e.2.1]; exact h3) (by rw [e.2.1]; exact h4) al
   exact ⟨a,b,c,by simp only [zQw]; omega⟩
theorem qbK{n:Nat}{w:World}(hn:n<=1000)(h:M.DrN n w){out:List ak}(ho:∀ p∈out,M.PkIn w.fT p)(hs:Uh out)(hl:out.length<=1048576):M.DrN (n+1) (Kw w out):=by
 have l1:=h.l1;obtain ⟨a,b,c,d⟩:=qdo (N:=1000+n) (K:=n*1048577) al out (w.bj,w.cY,w.bk) hs h.len h.d.log h.l0 (by show w.bk<=((n*1048577:Nat):Int); omega) al;exact ⟨⟨qgy h.d.wf ho,h.d.ol,h.d.old,h.d.new,b⟩,λp hp=>by have:=a p hp; omega,c,by show (out.foldl eh (w.bj,w.cY,w.bk)).2.2<=_; omega,h.rg⟩
theorem qbL(s:Int):∀ (l:List dv) (i:Nat) (d:ar),(∀ p∈l,aw p.fB)->M.DB d->M.DB (p8 s l i d)
 | [],i,d,_,hd=>⟨hd.a,hd.b,by simp [p8]⟩
 | p :: l,i,d,h,hd=>by
  unfold p8;refine qbL s l (i+1) _ (λq hq=>h q Y0) ?_
  split
  ·exact YH hd (h p ig)
  ·exact hd
theorem qh6{d:ar}(hd:M.DiskIn d)(s:Int):M.DiskIn (M.fall d s):=by
 refine ⟨qhN hd.o s,?_,?_⟩
 ·unfold M.fall
  split
  ·exact qbL s _ _ _ (λp hp=>hd.b.p p hp) hd.b
  ·exact hd.b
 ·cases h:bZ d with
  | true=>rw [qgo h]; simp
  | false=>unfold M.fall; rw [h]; exact hd.l
theorem qdp{l:List aD}(h:∀ x∈l,RK x){k:Nat}{y:aD}(hy:RK y):∀ x∈l.set k y,RK x:=λx hx=>by
 rcases zXw hx with hx | rfl
 ·exact h x hx
 ·exact hy
theorem qbM{n:Nat}{w:World}(h:M.DrN n w){k:Nat}{x:aD}{d:ar}(hn:M.NodeIn w.fT k x)(hd:M.DiskIn d)(hr:RK x):M.DrN n (wP w k x d):=⟨⟨qbD h.d.wf hn hd,h.d.ol,h.d.old,h.d.new,h.d.log⟩,h.len,h.l0,h.l1,qdp h.rg hr⟩
theorem qiD{n:Nat}{w:World}(h:M.DrN n w){k:Nat}{x:aD}(hn:M.NodeIn w.fT k x)(hr:RK x):M.DrN n (Nd w k x):=⟨⟨qgA h.d.wf hn,h.d.ol,h.d.old,h.d.new,h.d.log⟩,h.len,h.l0,h.l1,qdp h.rg hr⟩
theorem qh7(a b:Int):-9223372036854775808<=aS .i64 a b/\aS .i64 a b<=9223372036854775807:=by
 unfold aS;rw [IntKind.wrap_i64];omega
theorem qh8(a b:Int):-9223372036854775808<=ew .i64 a b/\ew .i64 a b<=9223372036854775807:=by
 unfold ew;rw [IntKind.wrap_i64];omega
def qkb(n x:aD):Prop:=x.be=n.be\/∃ z,x.be=aS .i64 z 1
theorem qh9(t:bD)(me:Int)(n:aD)(d:ar)(p:ak):qkb n (M.take t me n d p).fN:=by
 unfold M.take
 split
 ·exact .inl rfl
 split
 ·split
  ·unfold dV
   split
   ·exact .inl rfl
   dsimp only
   split
   ·exact .inl rfl
   split
   ·split <;> exact .inl rfl
   ·exact .inl rfl
  split
  ·unfold iX
   split
   ·unfold n8
    split
    ·split <;> exact .inl rfl
    split
    ·exact .inl rfl
    ·exact .inr ⟨_,rfl⟩
   split
   ·unfold gP
    split
    ·exact .inr ⟨_,rfl⟩
    split
    ·exact .inl rfl
    split
    ·unfold gG
     split <;> exact .inl rfl
    ·exact .inr ⟨_,rfl⟩
   first
    | exact .inl rfl
    | (split <;> first | exact .inl rfl | exact .inr ⟨_,rfl⟩)
  ·exact .inr ⟨_,rfl⟩
 ·exact .inr ⟨_,rfl⟩
theorem qia{t:bD}{me:Int}{n:aD}(h:RK n)(d:ar)(p:ak):RK (M.take t me n d p).fN:=by
 unfold RK;rw [YK];refine ⟨h.1,?_⟩;rcases qh9 t me n d p with e | ⟨z,e⟩
 ·rw [e]; exact h.2
 ·rw [e]; exact qh7 _ _
theorem qib{t:bD}(ht:dm t=gi)(h7:t.bl.length<=7)(c:fq){k:Nat}(hk:k < t.bl.length){n:aD}(hb:k≠0->gX t n.bG)(h:RK n)(d:ar):RK (M.tick t c k n d).fN:=by
 have e:(M.tick t c k n d).fN.be=n.be:=by
  unfold M.tick zr
  split
  ·rfl
  split
  ·rfl
  split <;> rfl
 refine ⟨?_,by rw [e]; exact h.2⟩
 by_cases h0:k=0
 ·subst h0;have:(M.tick t c (0:Nat) n d).fN.bG=n.bG:=by
   unfold M.tick
   split
   ·rfl
   ·rw [if_pos (show ((0:Nat):Int)=0 from rfl)]; rfl
  rw [this];exact h.1
 ·exact RL h7 ((qd4 ht c hk hb d).2 h0)
theorem XR{n:Nat}{w:World}(hn:n<=1000)(h:M.DrN n w){k:Nat}(hk:k < w.fT.bl.length):M.DrN (n+1) (sv w k):=by
 unfold sv
 split
 ·rename_i x d hx hd;have g:=qd5 h.d.wf.t w.fC hk (h.d.wf.nodes k x hx) (h.d.wf.disks k d hd);have up:=GK h.d.wf;exact qbK hn (qbM h g.1 g.2.1 (qib h.d.wf.t up.2 w.fC hk (h.d.wf.nodes k x hx).b (h.rg x (zQQ hx)) d)) g.2.2.1 (qh5 _ _) g.2.2.2
 ·exact Nq h
theorem qgI{n:Nat}{w:World}(h:M.DrN n w)(k:Nat):M.DrN n (Dk w k):=by
 refine ⟨⟨qgz h.d.wf k,h.d.ol,h.d.old,h.d.new,h.d.log⟩,λp hp=>?_,h.l0,h.l1,h.rg⟩;rcases sa.1 hp with hp | hp
 ·exact h.len p (zWJ hp)
 ·exact h.len p (zWh hp)
theorem XS{n:Nat}{w:World}(hn:n<=1000)(h:M.DrN n w)(k:Nat):M.DrN (n+1) (sA w k):=by
 unfold sA
 split
 ·rename_i p hp;have hpi:=h.d.wf.net p (zQQ hp);obtain ⟨j,e,hj⟩:=WD hpi.t;have hpl:=qgI h k;unfold Kx
  split
  ·rename_i x d hx hd;rw [e,r0] at hx hd ⊢;have g:=qd6 (p:=p) hj (hpl.d.wf.nodes j x hx) (hpl.d.wf.disks j d hd) hpi;exact qbK hn (qiD hpl g.1 (qia (h.rg x (zQQ hx)) d p)) g.2.1 (qh4 _ _) g.2.2
  ·exact Nq hpl
 ·exact Nq h
theorem qgJ{n:Nat}{w:World}(h:M.DrN n w)(hl:w.bj.length < 400){p:ak}(hp:M.PkIn w.fT p)(hb:p.fB.length<=1000+(n+1)):M.DrN (n+1) ⟨w.fC,w.fT,w.bI,w.bt,w.fN,w.fD,w.bj++[p],w.cY,w.bk⟩:=by
 refine ⟨⟨⟨h.d.wf.t,h.d.wf.nl,h.d.wf.dl,h.d.wf.nodes,h.d.wf.disks,λq hq=>?_,by simp; omega⟩,h.d.ol,h.d.old,h.d.new,h.d.log⟩,λq hq=>?_,h.l0,by have:=h.l1; show w.bk<=_; omega,h.rg⟩
 ·rcases sa.1 hq with hq | hq
  ·exact h.d.wf.net q hq
  ·simp only [zQq] at hq;subst hq;exact hp
 ·rcases sa.1 hq with hq | hq
  ·have:=h.len q hq;omega
  ·simp only [zQq] at hq;subst hq;exact hb
theorem vL{z:Int}{m:Nat}(h:aj z 0 ((m:Int) - 1)=gi):∃ j:Nat,z=j/\j < m:=by
 have:=bC h;exact ⟨z.toNat,by omega,by omega⟩
def lC:aD:=⟨go,0,0,⟨0,0,0,[]⟩,⟨0,[]⟩,0,[],0⟩
inductive M.Step (w:World) (e:du):World->Prop
 | no:M.Step w e w
 | tick (j:Nat) (hj:j < w.fT.bl.length):M.Step w e (sv w j)
 | take (j:Nat) (hj:j < w.bj.length):M.Step w e (sA w j)
 | lose (l:List ak) (hs:∀ p∈l,p∈w.bj) (hl:l.length<=w.bj.length):M.Step w e ⟨w.fC,w.fT,w.bI,w.bt,w.fN,w.fD,l,w.cY,w.bk+1⟩
 | push (p:ak) (hl:w.bj.length < 400) (hi:M.PkIn w.fT p) (hf:(∃ q∈w.bj,q.fB=p.fB)\/e.bH=7/\p.fB=e.fP.fB):M.Step w e ⟨w.fC,w.fT,w.bI,w.bt,w.fN,w.fD,w.bj++[p],w.cY,w.bk⟩
 | fall (j:Nat) (d:ar) (hj:j < w.fT.bl.length) (h0:j≠0) (hd:w.fD[j]?=ac d) (s:Int):M.Step w e (wP w j lC (M.fall d s))
 | rise (j:Nat) (n:aD) (hj:j < w.fT.bl.length) (h0:0 < j) (hn:w.fN[j]?=ac n) (ho:n.fJ=go):M.Step w e (Nd w j (eP w.fT j))
theorem qic(hu:UB){w:World}(h:M.WWf w)(l0:0<=w.bk)(l1:w.bk<=1099511627776){e:du}(hb:aw e.fP.fB)(hl:e.fP.fB.length<=1048576):Ev (sK w e) λv=>M.Step w e v.2:=by
 have up:=GK h;have nl:=h.nl;have dl:=h.dl;have pl:=h.len;have get:∀ {j:Nat},j < w.fT.bl.length->∃ x d,w.fN[j]?=ac x/\w.fD[j]?=ac d:=λ{j} hj=>⟨_,_,sX al,sX al⟩;have none_:Ev (ac (go,w)) λv=>M.Step w e v.2:=cU .no;unfold sK;rw [db al al,db al al];refine fc (bJ e.fN 0 _) (fc (bJ e.fN 0 _) ?_);refine cg (λ_=>cg (λe1=>?_) (λ_=>?_)) (λ_=>?_)
 ·obtain ⟨j,ej,hj⟩:=vL e1;rw [ej];refine fc (T9 hu h al) ?_;unfold tQ;exact cU (.tick j al)
 ·unfold tQ;exact cU .no
 refine cg (λ_=>cg (λe1=>?_) (λ_=>?_)) (λ_=>?_)
 ·obtain ⟨j,ej,hj⟩:=vL e1;rw [ej];refine fc (Ua hu h hj) ?_;unfold tR;exact cU (.take j hj)
 ·unfold tR;exact cU .no
 refine cg (λ_=>cg (λe1=>?_) (λ_=>?_)) (λ_=>?_)
 ·obtain ⟨j,ej,hj⟩:=vL e1;rw [ej];rw [fa (show j < 9223372036854775807 by omega),dE (show -9223372036854775808<=w.bk+1 by omega) (show w.bk+1<=9223372036854775807 by omega)];refine k6 (by simp [cR]; omega) (k6 f6 (k6 (by simp [cR]; omega) (k6 f6 ?_)));unfold tS;refine cU (.lose _ (λp hp=>?_) ?_)
  ·simp only [zQj,zWv] at hp;rcases hp with hp | hp
   ·exact zWJ (zWh hp)
   ·exact zWJ (zWh hp)
  ·simp;omega
 ·unfold tS;exact cU .no
 refine cg (λ_=>?_) (λ_=>?_)
 ·have j4:∀ x:Bool,(x=false->w.bj.length < 400/\aj e.fN 0 ((w.bj.length:Int) - 1)=gi)->Ev (nH x e w) λv=>M.Step w e v.2:=by
   intro x hx;unfold nH;refine cg (λ_=>none_) (λe2=>?_);obtain ⟨a1,a2⟩:=hx e2;obtain ⟨j,ej,hj⟩:=vL a2;rw [ej];have hp:=sX hj;have hpi:=h.net _ (zQQ hp);have hpb:=hpi.w.2;refine fc (kI _ j hp) (k6 f6 (k6 f6 (cU ?_)));exact .push _ a1 ⟨by simpa [Dj] using hpi.w,hpi.f,hpi.t⟩ (.inl ⟨_,zQQ hp,by simp⟩)
  refine cg (λ_=>j4 _ (λe=>by cases e)) (λe1=>j4 _ λe2=>⟨?_,by simpa using e1⟩);simp at e2;omega
 refine cg (λ_=>?_) (λ_=>?_)
 ·have j5:∀ x:Bool,(x=false->aj e.fN 0 ((w.fN.length:Int) - 1)=gi/\e.fN≠0)->Ev (lO x e w) λv=>M.Step w e v.2:=by
   intro x hx;unfold lO;refine cg (λ_=>none_) (λe2=>?_);obtain ⟨j,ej,hj⟩:=vL (hx e2).1;have h0:j≠0:=by have:=(hx e2).2; omega
   rw [ej];obtain ⟨y,d,hy,hd⟩:=get (j:=j) al;refine fc (kI _ j hy) (fc rfl (fc (kI _ j hy) (fc (kI _ j hd) (fc (r:=G4 d e.fS) (v:=M.fall d e.fS) ?_ (fc (kI _ j hd) (cU ?_))))))
   ·unfold G4;rw [ZH hu (h.disks j d hd).o];rfl
   ·rw [r0];exact .fall j d al h0 hd _
  refine cg (λ_=>j5 _ (λe=>by cases e)) (λe1=>cg (λ_=>j5 _ (λe=>by cases e)) (λe0=>?_));have e1:aj e.fN 0 ((w.fN.length:Int) - 1)=true:=by simpa using e1
  obtain ⟨j,ej,hj⟩:=vL e1;obtain ⟨y,d,hy,hd⟩:=get (j:=j) al;rw [show cM w.fN e.fN=ac y by rw [ej]; exact kI _ j hy];exact j5 _ λ_=>⟨e1,by simpa using e0⟩
 refine cg (λ_=>?_) (λ_=>?_)
 ·have j6:∀ x:Bool,(x=false->aj e.fN 0 ((w.fN.length:Int) - 1)=gi/\e.fN≠0/\∀ y,cM w.fN e.fN=ac y->y.fJ=go)->Ev (lP x e w) λv=>M.Step w e v.2:=by
   intro x hx;unfold lP;refine cg (λ_=>none_) (λe2=>?_);obtain ⟨j,ej,hj⟩:=vL (hx e2).1;have h0:0 < j:=by have:=(hx e2).2.1; omega
   have hon:=(hx e2).2.2;rw [ej] at hon ⊢;obtain ⟨y,d,hy,hd⟩:=get (j:=j) al;refine fc (B0 hu al _) (fc (kI _ j hy) (cU ?_));rw [r0];exact .rise j y al h0 hy (hon y (kI _ j hy))
  refine cg (λ_=>j6 _ (λe=>by cases e)) (λe1=>cg (λ_=>j6 _ (λe=>by cases e)) (λe0=>?_));have e1:aj e.fN 0 ((w.fN.length:Int) - 1)=true:=by simpa using e1
  obtain ⟨j,ej,hj⟩:=vL e1;obtain ⟨y,d,hy,hd⟩:=get (j:=j) al;have hi:cM w.fN e.fN=ac y:=by rw [ej]; exact kI _ j hy
  rw [hi];exact j6 _ λe2=>⟨e1,by simpa using e0,λz hz=>by rw [hi] at hz; cases hz; exact e2⟩
 refine cg (λe7=>?_) (λ_=>none_);have j7:∀ x:Bool,(x=false->w.bj.length < 400/\aj e.fP.dy 0 ((w.fN.length:Int) - 1)=gi/\aj e.fP.s4 0 ((w.fN.length:Int) - 1)=gi)->Ev (nI x e w) λv=>M.Step w e v.2:=by
  intro x hx;unfold nI;refine cg (λ_=>none_) (λe2=>?_);obtain ⟨a1,a2,a3⟩:=hx e2;refine k6 f6 (k6 f6 (cU ?_));rw [nl] at a2 a3;exact .push _ a1 ⟨⟨by simpa using hb,by simp; omega⟩,a2,a3⟩ (.inr ⟨by simpa using e7,by simp⟩)
 have nodes:qk w e.fP=ac (aj e.fP.dy 0 ((w.fN.length:Int) - 1) && aj e.fP.s4 0 ((w.fN.length:Int) - 1)):=by
  unfold qk;rw [db al al,bJ,bJ];simp only [wk]
  cases aj e.fP.dy 0 ((w.fN.length:Int) - 1) <;> rfl
 refine fc nodes (cg (λ_=>j7 _ (λe=>by cases e)) (λe1=>j7 _ λe2=>?_));simp only [Bool.not_eq_false',sk] at e1;simp at e2;exact ⟨by omega,e1.1,e1.2⟩
theorem qbN{n:Nat}(hn:n<=1000){w w':World}(h:M.DrN n w){e:du}(hl:e.fP.fB.length<=1000+(n+1))(hs:M.Step w e w'):M.DrN (n+1) w':=by
 have up:=GK h.d.wf;have nl:=h.d.wf.nl;have dl:=h.d.wf.dl;have pl:=h.d.wf.len
 cases hs with
 | no=>exact Nq h
 | tick j hj=>exact XR hn h hj
 | take j hj=>exact XS hn h j
 | lose l hs hl =>
  have l1:=h.l1;have l0:=h.l0;exact ⟨⟨⟨h.d.wf.t,nl,dl,h.d.wf.nodes,h.d.wf.disks,λp hp=>h.d.wf.net p (hs p hp),zXQ hl pl⟩,h.d.ol,h.d.old,h.d.new,h.d.log⟩,λp hp=>by have:=h.len p (hs p hp); omega,by show 0<=w.bk+1; omega,by show w.bk+1<=_; omega,h.rg⟩
 | push p hl' hi hf =>
  refine qgJ h hl' hi ?_;rcases hf with ⟨q,hq,he⟩ | ⟨_,he⟩
  ·have:=h.len q hq;rw [<- he]; omega
  ·rw [he]; exact hl
 | fall j d hj h0 hd s =>
  exact Nq (qbM h ⟨⟨by simp [lC],⟨by simp [lC,aw],by simp [lC]⟩,by simp [lC],qdi⟩,⟨by simp [fk,lC],by simp [fk,lC]⟩,λz hz=>by simp [fk,lC] at hz,λ_=>by unfold gX aj lC; simp; omega⟩ (qh6 (h.d.wf.disks j d hd) _) ⟨rg0,rg0⟩)
 | rise j n hj h0 hn ho =>
  refine Nq (qiD h (PG h.d.wf.t h0 hj) ⟨RL up.2 ((PG h.d.wf.t h0 hj).b al),?_⟩);unfold eP
  split <;> exact rg0
theorem qdq(hu:UB){c:aL}(hc:Cu c):Ev (Ai c) λv=>M.MsgWf v.1/\Cu v.2:=by
 unfold Ai;refine bx (eu hc _) λr hr=>cg (λ_=>?_) (λ_=>cg (λ_=>?_) (λ_=>cg (λ_=>?_) (λ_=>?_)))
 ·exact bx (YP hu hr.2) λq hq=>cU ⟨⟨by have:=hq.1.n; show q.1.aI.length<=_; omega,hq.1.w,by simp [aw],by simp⟩,hq.2⟩
 ·exact bx (qgE hr.2) λa ha=>bx (eu ha _) λb hb=>bx (eu hb.2 _) λd hd=>fc rfl (cU ⟨M9 _ _ _,hd.2⟩)
 ·refine bx (PB (F6 hu hr.2 (n:=5) al)) λa ha=>k6 (by have:=ha.1.1; simp; omega) (bx (eu ha.2 _) λb hb=>bx (eu hb.2 _) λd hd=>?_);have h1:=ha.1.1;refine fc (Dh _ _ f6) (cU ⟨Iy _ _ ?_ f6,hd.2⟩);intro x hx;rcases sa.1 hx with hx | hx
  ·simp only [zYq,zVw,or_false] at hx;subst hx;omega
  ·exact ha.1.2 x hx
 ·exact bx (eu hr.2 _) λb hb=>cU ⟨⟨by simp,qdi,by simp [aw],by simp⟩,hb.2⟩
theorem qdr(hu:UB){c:aL}(hc:Cu c){n:Nat}(hn:n<=100):Ev (DU c n) λv=>M.img n v.1/\Cu v.2:=by
 have loop:∀ (m k i:Nat) (xs:gs) (c:aL),i+m=n->m < k->xs.length=i->aw xs->Cu c->Ev (jw k n xs (i:Int) c.fB c.fI c.fH) λv=>M.img n v.1/\Cu v.2:=by
  intro m
  induction m with
  | zero =>
   intro k i xs c hi hk h1 h2 hc;obtain ⟨k,rfl⟩:∃ j,k=j+1:=⟨k - 1,by omega⟩;unfold jw;have:¬ (i:Int) < (n:Int):=by omega
   simp only [this,decide_false,cond_false,yv];exact cU ⟨⟨by show xs.length<=n; omega,h2⟩,hc⟩
  | succ m ih =>
   intro k i xs c hi hk h1 h2 hc;obtain ⟨k,rfl⟩:∃ j,k=j+1:=⟨k - 1,by omega⟩;unfold jw;have hlt:(i:Int) < (n:Int):=by omega
   simp only [hlt,decide_true,cond_true];refine bx (PB (HF (IA hc))) λq hq=>k6 f6 ?_;rw [fa (show i < 9223372036854775807 by omega)];refine ih k (i+1) _ q.2 al al (by simp [h1]) ?_ hq.2;intro x hx;rcases sa.1 hx with hx | hx
   ·exact h2 x hx
   ·simp only [zYq,zVw,or_false] at hx;subst hx;exact qeX _
 exact loop n u 0 [] c al al rfl (by simp [aw]) hc
def Nr(w:World)(b:gs):Prop:=(dj b).2=go\/(dj b).1.bH=4\/(dj b).1.bH=3\/∃ q∈w.bj,q.fB=b
theorem SG(hu:UB){w:World}(hw:M.WWf w){e:du}(hb:aw e.fP.fB)(hn:e.fP.fB.length<=1048576):Ev (nF w e) λr=>r=true->e.bH=7->Nr w e.fP.fB:=by
 have hl:=hw.len;unfold nF;have j1:∀ x:Bool,(x=true->Nr w e.fP.fB)->Ev (lv x w e) λr=>r=true->e.bH=7->Nr w e.fP.fB:=by
  intro x hx;unfold lv;refine cg (λe1=>cU λ_ _=>hx e1) (λ_=>qgD (M2 hu al e) λh _=>?_);obtain ⟨q,hq,e2⟩:=List.any_eq_true.1 h;rw [ZJ (hw.net q hq).w.1 hb] at e2;exact .inr (.inr (.inr ⟨q,hq,of_decide_eq_true e2⟩))
 refine cg (λe1=>cU λ_ e2=>by simp [e2] at e1) (λ_=>fc (Ff hu hb hn) (cg (λe1=>j1 _ λ_=>.inl (by simpa using e1)) (λ_=>cg (λe1=>j1 _ λ_=>.inr (.inl (by simpa using e1))) (λ_=>j1 _ λe1=>.inr (.inr (.inl (by simpa using e1)))))))
def L6(n:Nat)(w:World)(e:du):Prop:=(aw e.fP.fB/\e.fP.fB.length<=1000+(n+1))/\(e.bH=7->Nr w e.fP.fB)
theorem qbO(w:World):Nr w []:=.inl rfl
theorem qbP(hu:UB){n:Nat}(hn:n<=1000){w:World}(h:M.DrN n w){c:aL}(hc:Cu c):Ev (qg c w) λv=>L6 n w v.1/\Cu v.2:=by
 have pl:=h.d.wf.len;unfold qg;refine bx (eu hc _) λr1 h1=>bx (eu h1.2 _) λr2 h2=>bx (qdq hu h2.2) λr3 h3=>fc (Ku hu h3.1) ?_;have pb:=Pd h3.1;have pn:=Nb r3.1;have j3:∀ (b:gs) (c:aL),M.img (1000+(n+1)) b->Nr w b->Cu c->Ev (qV c.fB c.fI c.fH r1 r2 b) λv=>L6 n w v.1/\Cu v.2:=λb c hb hm hc=>cU ⟨⟨⟨hb.2,hb.1⟩,λ_=>hm⟩,hc⟩;have nil_:M.img (1000+(n+1)) ([]:gs):=⟨by simp,by simp [aw]⟩;have j2:∀ (b:gs) (c:aL),M.img (1000+(n+1)) b->Cu c->Ev (nR r1 r2 b w c.fB c.fI c.fH) λv=>L6 n w v.1/\Cu v.2:=λb c hb hc=>by
  have:=hb.1;unfold nR;exact bx (SG hu h.d.wf (e:=du.mk 7 0 0 (ak.mk r1.1 r2.1 b)) hb.2 (by show b.length<=_; omega)) λq hq=>cg (λ_=>j3 _ _ nil_ (qbO w) hc) (λe=>j3 _ _ hb (hq (by simpa using e) rfl) hc)
 have j1:∀ (b:gs) (c:aL),M.img (1000+(n+1)) b->Cu c->Ev (nS r1 r2 b w c.fB c.fI c.fH) λv=>L6 n w v.1/\Cu v.2:=λb c hb hc=>by
  have:=hb.1;unfold nS;exact bx (SG hu h.d.wf (e:=du.mk 7 0 0 (ak.mk r1.1 r2.1 b)) hb.2 (by show b.length<=_; omega)) λq _=>cg (λ_=>bx (qdr hu (IA hc) (n:=3) al) λx hx=>j2 _ _ (HR hx.1 al) hx.2) (λ_=>j2 _ _ hb hc)
 have j4:∀ (x:Bool) (c:aL),(x=true->0 < w.bj.length)->Cu c->Ev (nT x r1 r2 (dQ r3.1) w c.fB c.fI c.fH) λv=>L6 n w v.1/\Cu v.2:=λx c hx hc=>by
  unfold nT;refine cg (λe=>?_) (λ_=>j1 _ _ ⟨by omega,pb⟩ hc);have h0:=hx e;refine bx (eu (IA hc) _) λq hq=>?_;have hq1:=hq.1.2 al;have hq0:=hq.1.1;obtain ⟨j,ej,hj⟩:∃ j:Nat,q.1=j/\j < w.bj.length:=⟨q.1.toNat,by omega,by omega⟩;rw [ej];have hp:=sX hj;have hpi:=h.d.wf.net _ (zQQ hp);have hpl:=h.len _ (zQQ hp);exact fc (kI _ j hp) (bx (PB (qdm hq.2 (N:=1000+n) al hpl hpi.w.1)) λz hz=>j1 _ _ (HR hz.1 al) hz.2)
 refine cg (λe=>bx (Gj h3.2 2) λq hq=>j4 _ _ (λ_=>by simp at e; omega) hq) (λ_=>j4 _ _ (λe=>by cases e) h3.2)
theorem qds(hu:UB){n:Nat}(hn:n<=1000){w:World}(h:M.DrN n w){c:aL}(hc:Cu c):Ev (sF c w) λv=>L6 n w v.1/\Cu v.2:=by
 have nil_:∀ a b s,L6 n w (du.mk a b s (ak.mk 0 0 [])):=λa b s=>⟨⟨by simp [aw],by simp⟩,λ_=>qbO w⟩;unfold sF;refine bx (eu hc _) λr1 h1=>bx (eu h1.2 _) λr2 h2=>cg (λ_=>bx (KB h2.2 ig) λq hq=>cU ⟨nil_ _ _ _,hq.2⟩) (λ_=>cg (λ_=>cU ⟨nil_ _ _ _,h2.2⟩) (λ_=>cg (λ_=>bx (qbP hu hn h h2.2) λq hq=>cU hq) (λ_=>?_)));have j1:∀ (x:Bool) (c:aL),Cu c->Ev (pu r1 x w c.fB c.fI c.fH) λv=>L6 n w v.1/\Cu v.2:=λx c hc=>by
  unfold pu;refine cg (λ_=>fc (LM _ _) (bx (eu (IA hc) _) λa ha=>bx (eu ha.2 _) λb hb=>cg (λ_=>cU ⟨nil_ _ _ _,hb.2⟩) (λ_=>cg (λ_=>cU ⟨nil_ _ _ _,hb.2⟩) (λ_=>cU ⟨nil_ _ _ _,hb.2⟩)))) (λ_=>cU ⟨nil_ _ _ _,hc⟩)
 exact cg (λ_=>bx (Gj h2.2 3) λq hq=>j1 _ _ hq) (λ_=>j1 _ _ h2.2)
structure M.Inv (I:Nat->World->Prop):Prop where
 d:∀ n w,I n w->M.DrN n w
 new:∀ w,M.NewW w->I 0 w
 step:∀ n w e w',n<=1000->I n w->L6 n w e->M.Step w e w'->I (n+1) w'
theorem qid:M.Inv M.DrN:=⟨λ_ _ h=>h,λw h=>Z8 h,λn w e w' hn h hb hs=>qbN hn h hb.1.2 hs⟩
theorem Z9{I:Nat->World->Prop}(hI:M.Inv I)(hu:UB){r1:World×aL}:∀ (m k:Nat) (l:List du) (b:Int) (c:aL) (w:World),l.length+m=400->m < k->I l.length w->Cu c ->
  Ev (et k l b c.fB c.fI c.fH w.fC.au w.fC.aP w.fC.aK w.fC.aN w.fT.bl w.bI w.bt w.fN w.fD w.bj w.cY w.bk r1) λv=>(∃ n,n<=400/\I n v.2.2.1)/\Cu v.2.2.2:=by
 intro m
 induction m with
 | zero =>
  intro k l b c w hl hk h hc;obtain ⟨k,rfl⟩:∃ j,k=j+1:=⟨k - 1,by omega⟩;unfold et;have j3:∀ x:Bool,x=false->Ev (ji (λz0 z1 z2 z3 z4 z5 z6 z7 z8 z9 z10 z11 z12 z13 z14 z15 z16 z17=>et k z0 z1 z2 z3 z4 z5 z6 z7 z8 z9 z10 z11 z12 z13 z14 z15 z16 z17) l b x c.fB c.fI c.fH w.fC.au w.fC.aP w.fC.aK w.fC.aN w.fT.bl w.bI w.bt w.fN w.fD w.bj w.cY w.bk r1) λv=>(∃ n,n<=400/\I n v.2.2.1)/\Cu v.2.2.2:=by
   intro x hx;unfold ji u9;exact cg (λe=>by rw [hx] at e; cases e) (λ_=>cU ⟨⟨l.length,by omega,h⟩,hc⟩)
  exact cg (λ_=>j3 _ f6) (λ_=>j3 _ rfl)
 | succ m ih =>
  intro k l b c w hl hk h hc;obtain ⟨k,rfl⟩:∃ j,k=j+1:=⟨k - 1,by omega⟩;unfold et;have j3:∀ x:Bool,Ev (ji (λz0 z1 z2 z3 z4 z5 z6 z7 z8 z9 z10 z11 z12 z13 z14 z15 z16 z17=>et k z0 z1 z2 z3 z4 z5 z6 z7 z8 z9 z10 z11 z12 z13 z14 z15 z16 z17) l b x c.fB c.fI c.fH w.fC.au w.fC.aP w.fC.aK w.fC.aN w.fT.bl w.bI w.bt w.fN w.fD w.bj w.cY w.bk r1) λv=>(∃ n,n<=400/\I n v.2.2.1)/\Cu v.2.2.2:=by
   intro x;unfold ji u9;refine cg (λe=>?_) (λ_=>cU ⟨⟨l.length,by omega,h⟩,hc⟩);have hd:=hI.d _ _ h;have l1:=hd.l1;refine bx (qds hu al (w:=w) hd (IA hc)) λq hq=>k6 f6 (bx (qic hu (w:=w) hd.d.wf hd.l0 al (e:=q.1) hq.1.1.1 (by have:=hq.1.1.2; omega)) λv hv=>?_);exact ih k (l++[q.1]) _ q.2 v.2 f6 al (by simpa using hI.step _ _ _ _ al h hq.1 hv) hq.2
  exact cg (λ_=>j3 _) (λ_=>j3 _)
theorem qfa{I:Nat->World->Prop}(hI:M.Inv I)(hu:UB){c:aL}(hc:Cu c)(n:Int):Ev (vd c n) λv=>(∃ n,n<=400/\I n v.2.2.1)/\Cu v.2.2.2:=by
 unfold vd;refine bx (YS hu hc) λr1 h1=>fc (Ug hu (Z6 h1.1.d)) (bx (eu h1.2 _) λr3 h3=>?_);exact Z9 hI hu 400 u [] _ r3.2 r1.1 ig al (hI.new _ h1.1) h3.2
theorem PH{I:Nat->World->Prop}(hI:M.Inv I)(hu:UB){c:aL}(hc:Cu c)(n:Int):Ev (lQ c n) λv=>(∃ n,n<=400/\I n v.1)/\Cu v.2:=by
 unfold lQ;exact bx (qfa hI hu hc n) λr hr=>cU hr
theorem qbQ(hu:UB){c:aL}(hc:Cu c)(n:Int):Ev (lQ c n) λv=>M.DrN 400 v.1/\Cu v.2:=by
 have up:∀ (j n:Nat) {w:World},n+j=400->M.DrN n w->M.DrN 400 w:=λj=>by
  induction j with
  | zero=>intro n w h hd; exact (show n=400 by omega) ▸ hd
  | succ j ih=>intro n w h hd; exact ih (n+1) al (Nq hd)
 exact qd7 (PH qid hu hc n) λv hv=>by
  obtain ⟨⟨m,hm,h⟩,hc⟩:=hv;exact ⟨up (400 - m) m al h,hc⟩
structure M.AnyW (w:World):Prop where
 cp:M.WCp w
 t:w.fT.bl.length<=7
 nl:w.fN.length<=7
 dl:w.fD.length<=7
 ol:w.bt.length<=7
 pl:w.bj.length<=401
 ll:w.cY.length<=3000
 l0:-1<=w.bk
 l1:w.bk<=419430800
 nb:aw w.bI
 ob:∀ x∈w.bt,aw x.fB
 nk:qeV w.fN
 rg:∀ x∈w.fN,RK x
 pe:∀ p∈w.bj,(-1<=p.dy/\p.dy<=7)/\-1<=p.s4/\p.s4<=7
theorem qie{w:World}(h:M.DrN 400 w):M.AnyW w:=by
 have up:=GK h.d.wf;have:=h.d.wf.nl;have:=h.d.wf.dl;have:=h.d.ol;have:=h.d.wf.len;have:=h.l0;have:=h.l1;exact ⟨Z6 h.d,by omega,by omega,by omega,by omega,by omega,h.d.log,by omega,by omega,h.d.new.2,λx hx=>(h.d.old x hx).2,λx hx=>by
  obtain ⟨j,hj⟩:=Sh.1 hx;exact ⟨(h.d.wf.nodes j x hj).w.s,Gd (h.d.wf.nodes j x hj)⟩,h.rg,λp hp=>by
  have:=bC (h.d.wf.net p hp).f;have:=bC (h.d.wf.net p hp).t;omega⟩
theorem PI{w:World}(h:M.AnyW w){x:aD}(hx:M.NodWf x)(hk:x.aZ.length<=1048576)(hr:RK x)(k:Nat):M.AnyW ⟨w.fC,w.fT,w.bI,w.bt,w.fN.set k x,w.fD,w.bj,w.cY,w.bk⟩ :=
 ⟨⟨h.cp.t,h.cp.new,h.cp.ol,h.cp.old,by simpa using h.cp.nl,λy hy=>by
  rcases zXw hy with hy | rfl
  ·exact h.cp.n y hy
  ·exact hx,h.cp.dl,h.cp.d,h.cp.pl,h.cp.p,h.cp.ll⟩,h.t,by simpa using h.nl,h.dl,h.ol,h.pl,h.ll,h.l0,h.l1,h.nb,h.ob,λy hy=>by
  rcases zXw hy with hy | rfl
  ·exact h.nk y hy
  ·exact ⟨hx.s,hk⟩,qdp h.rg hr,h.pe⟩
theorem qfb(hu:UB){c:aL}(hc:Cu c)(n:Int):Ev (zE c n) λv=>M.AnyW v.1/\Cu v.2:=by
 unfold zE;refine bx (qbQ hu hc n) λr1 h1=>bx (eu h1.2 _) λr2 h2=>bx (eu h2.2 _) λr3 h3=>?_;have hw:=qie h1.1;have up:=GK h1.1.d.wf;have nl:=h1.1.d.wf.nl;have dl:=h1.1.d.wf.dl;have ol:=h1.1.d.ol;have a0:=h2.1.1;have a1:=h2.1.2 al;obtain ⟨j,ej,hj⟩:∃ j:Nat,r2.1=j/\j < r1.1.fT.bl.length:=⟨r2.1.toNat,by omega,by omega⟩;have hn:=sX (l:=r1.1.fN) (i:=j) al;have hd:=sX (l:=r1.1.fD) (i:=j) al;have ho:=sX (l:=r1.1.bt) (i:=j) al;have hnw:=hw.cp.n _ (zQQ hn);have hnk:=(hw.nk _ (zQQ hn)).2;have hir:=hw.rg _ (zQQ hn);have hob:=hw.cp.old _ (zQQ ho);have hol:=(h1.1.d.old _ (zQQ ho)).1;have pl:=h1.1.d.wf.len;have fin:∀ (c:aL) (w:World),w.cY=r1.1.cY->M.AnyW w->Cu c->Ev (eR c.fB c.fI c.fH w.fC.au w.fC.aP w.fC.aK w.fC.aN w.fT.bl w.bI w.bt w.fN w.fD w.bj r1 w.bk) λv=>M.AnyW v.1/\Cu v.2:=λc w hl h hc=>by
  unfold eR;rw [<- hl];exact cU ⟨h,hc⟩
 rw [ej];refine cg (λ_=>bx (YQ h3.2) λq hq=>fin q.2 ⟨q.1,r1.1.fT,r1.1.bI,r1.1.bt,r1.1.fN,r1.1.fD,r1.1.bj,r1.1.cY,r1.1.bk⟩ rfl ⟨⟨hw.cp.t,hw.cp.new,hw.cp.ol,hw.cp.old,hw.cp.nl,hw.cp.n,hw.cp.dl,hw.cp.d,hw.cp.pl,hw.cp.p,hw.cp.ll⟩,hw.t,hw.nl,hw.dl,hw.ol,hw.pl,hw.ll,hw.l0,hw.l1,hw.nb,hw.ob,hw.nk,hw.rg,hw.pe⟩ hq) (λ_=>?_);refine cg (λ_=>bx (YO hu h3.2) λq hq=>fin q.2 ⟨r1.1.fC,q.1,r1.1.bI,r1.1.bt,r1.1.fN,r1.1.fD,r1.1.bj,r1.1.cY,r1.1.bk⟩ rfl ⟨⟨by show q.1.bl.length<=_; omega,hw.cp.new,hw.cp.ol,hw.cp.old,hw.cp.nl,hw.cp.n,hw.cp.dl,hw.cp.d,hw.cp.pl,hw.cp.p,hw.cp.ll⟩,hq.1,hw.nl,hw.dl,hw.ol,hw.pl,hw.ll,hw.l0,hw.l1,hw.nb,hw.ob,hw.nk,hw.rg,hw.pe⟩ hq.2) (λ_=>?_);refine cg (λ_=>bx (qdh hu h3.2) λq hq=>fin q.2 ⟨r1.1.fC,r1.1.fT,q.1,r1.1.bt,r1.1.fN,r1.1.fD,r1.1.bj,r1.1.cY,r1.1.bk⟩ rfl ⟨⟨hw.cp.t,by have:=hq.1.1; show q.1.length<=_; omega,hw.cp.ol,hw.cp.old,hw.cp.nl,hw.cp.n,hw.cp.dl,hw.cp.d,hw.cp.pl,hw.cp.p,hw.cp.ll⟩,hw.t,hw.nl,hw.dl,hw.ol,hw.pl,hw.ll,hw.l0,hw.l1,hq.1.2,hw.ob,hw.nk,hw.rg,hw.pe⟩ hq.2) (λ_=>?_);refine cg (λ_=>bx (eu h3.2 _) λq hq=>fc (kI _ j hn) ?_) (λ_=>?_)
 ·exact fin q.2 ⟨r1.1.fC,r1.1.fT,r1.1.bI,r1.1.bt,r1.1.fN.set (sY (j:Int)) (aD.mk (r1.1.fN[j].fJ) (r1.1.fN[j].bG) r1.1.fN[j].bn (r1.1.fN[j].aH) r1.1.fN[j].bi (q.1) r1.1.fN[j].aZ r1.1.fN[j].be),r1.1.fD,r1.1.bj,r1.1.cY,r1.1.bk⟩ rfl (PI (x:=aD.mk (r1.1.fN[j].fJ) (r1.1.fN[j].bG) r1.1.fN[j].bn (r1.1.fN[j].aH) r1.1.fN[j].bi (q.1) r1.1.fN[j].aZ r1.1.fN[j].be) hw ⟨hnw.s,hnw.b,hnw.k,hnw.w⟩ hnk hir _) hq.2
 refine cg (λ_=>bx (eu h3.2 _) λq hq=>fc (kI _ j hn) ?_) (λ_=>?_)
 ·exact fin q.2 ⟨r1.1.fC,r1.1.fT,r1.1.bI,r1.1.bt,r1.1.fN.set (sY (j:Int)) (aD.mk (r1.1.fN[j].fJ) (ew .i64 q.1 1) r1.1.fN[j].bn (r1.1.fN[j].aH) r1.1.fN[j].bi (r1.1.fN[j].aG) r1.1.fN[j].aZ r1.1.fN[j].be),r1.1.fD,r1.1.bj,r1.1.cY,r1.1.bk⟩ rfl (PI (x:=aD.mk (r1.1.fN[j].fJ) (ew .i64 q.1 1) r1.1.fN[j].bn (r1.1.fN[j].aH) r1.1.fN[j].bi (r1.1.fN[j].aG) r1.1.fN[j].aZ r1.1.fN[j].be) hw ⟨hnw.s,hnw.b,hnw.k,hnw.w⟩ hnk ⟨qh8 _ _,hir.2⟩ _) hq.2
 refine cg (λ_=>bx (qgG hu h3.2) λq hq=>fc (kI _ j hd) ?_) (λ_=>?_)
 ·refine fin q.2 ⟨r1.1.fC,r1.1.fT,r1.1.bI,r1.1.bt,r1.1.fN,r1.1.fD.set (sY (j:Int)) q.1,r1.1.bj,r1.1.cY,r1.1.bk⟩ rfl ⟨⟨hw.cp.t,hw.cp.new,hw.cp.ol,hw.cp.old,hw.cp.nl,hw.cp.n,by simpa using hw.cp.dl,λy hy=>?_,hw.cp.pl,hw.cp.p,hw.cp.ll⟩,hw.t,hw.nl,by simpa using hw.dl,hw.ol,hw.pl,hw.ll,hw.l0,hw.l1,hw.nb,hw.ob,hw.nk,hw.rg,hw.pe⟩ hq.2;rcases zXw hy with hy | rfl
  ·exact hw.cp.d y hy
  ·exact hq.1.o
 refine cg (λ_=>bx (qjb hu h3.2) λq hq=>fc (kI _ j hn) ?_) (λ_=>?_)
 ·have:=hq.1.1;exact fin q.2 ⟨r1.1.fC,r1.1.fT,r1.1.bI,r1.1.bt,r1.1.fN.set (sY (j:Int)) (aD.mk (r1.1.fN[j].fJ) (r1.1.fN[j].bG) r1.1.fN[j].bn (q.1) r1.1.fN[j].bi (r1.1.fN[j].aG) r1.1.fN[j].aZ r1.1.fN[j].be),r1.1.fD,r1.1.bj,r1.1.cY,r1.1.bk⟩ rfl (PI (x:=aD.mk (r1.1.fN[j].fJ) (r1.1.fN[j].bG) r1.1.fN[j].bn (q.1) r1.1.fN[j].bi (r1.1.fN[j].aG) r1.1.fN[j].aZ r1.1.fN[j].be) hw ⟨by show q.1.aI.length<=_; omega,hnw.b,hnw.k,hq.1.2⟩ hnk hir _) hq.2
 refine cg (λ_=>bx (eu h3.2 _) λq hq=>bx (eu hq.2 _) λz hz=>k6 f6 ?_) (λ_=>?_)
 ·refine fin z.2 ⟨r1.1.fC,r1.1.fT,r1.1.bI,r1.1.bt,r1.1.fN,r1.1.fD,r1.1.bj++[ak.mk (ew .i64 q.1 1) (ew .i64 z.1 1) []],r1.1.cY,r1.1.bk⟩ rfl ⟨⟨hw.cp.t,hw.cp.new,hw.cp.ol,hw.cp.old,hw.cp.nl,hw.cp.n,hw.cp.dl,hw.cp.d,by simp; omega,λy hy=>?_,hw.cp.ll⟩,hw.t,hw.nl,hw.dl,hw.ol,by simp; omega,hw.ll,hw.l0,hw.l1,hw.nb,hw.ob,hw.nk,hw.rg,λy hy=>by
   rcases sa.1 hy with hy | hy
   ·exact hw.pe y hy
   ·simp only [zQq] at hy;subst hy;have q0:=hq.1.1;have q1:=hq.1.2 al;have z0:=hz.1.1;have z1:=hz.1.2 al;rw [db al al,db al al];dsimp only;omega⟩ hz.2
  rcases sa.1 hy with hy | hy
  ·exact hw.cp.p y hy
  ·simp only [zQq] at hy;subst hy;exact ⟨by simp [aw],by simp⟩
 refine cg (λ_=>fin r3.2 ⟨r1.1.fC,r1.1.fT,r1.1.bI,r1.1.bt,r1.1.fN,r1.1.fD,r1.1.bj,r1.1.cY,-1⟩ rfl ⟨⟨hw.cp.t,hw.cp.new,hw.cp.ol,hw.cp.old,hw.cp.nl,hw.cp.n,hw.cp.dl,hw.cp.d,hw.cp.pl,hw.cp.p,hw.cp.ll⟩,hw.t,hw.nl,hw.dl,hw.ol,hw.pl,hw.ll,by simp,by simp,hw.nb,hw.ob,hw.nk,hw.rg,hw.pe⟩ h3.2) (λ_=>?_);refine cg (λ_=>k6 (by simp [cR]; omega) ?_) (λ_=>?_)
 ·refine fin r3.2 ⟨r1.1.fC,r1.1.fT,r1.1.bI,r1.1.bt,r1.1.fN,(r1.1.fD.take (sY (r1.1.fD.length:Int))).drop (sY 1),r1.1.bj,r1.1.cY,r1.1.bk⟩ rfl ⟨⟨hw.cp.t,hw.cp.new,hw.cp.ol,hw.cp.old,hw.cp.nl,hw.cp.n,by simp; omega,λy hy=>hw.cp.d y (zWJ (zWh hy)),hw.cp.pl,hw.cp.p,hw.cp.ll⟩,hw.t,hw.nl,by simp; omega,hw.ol,hw.pl,hw.ll,hw.l0,hw.l1,hw.nb,hw.ob,hw.nk,hw.rg,hw.pe⟩ h3.2
 refine cg (λ_=>fc (kI _ j hn) (fc (kI _ j hn) ?_)) (λ_=>?_)
 ·exact fin r3.2 ⟨r1.1.fC,r1.1.fT,r1.1.bI,r1.1.bt,r1.1.fN.set (sY (j:Int)) (aD.mk (!r1.1.fN[j].fJ) (r1.1.fN[j].bG) r1.1.fN[j].bn (r1.1.fN[j].aH) r1.1.fN[j].bi (r1.1.fN[j].aG) r1.1.fN[j].aZ r1.1.fN[j].be),r1.1.fD,r1.1.bj,r1.1.cY,r1.1.bk⟩ rfl (PI (x:=aD.mk (!r1.1.fN[j].fJ) (r1.1.fN[j].bG) r1.1.fN[j].bn (r1.1.fN[j].aH) r1.1.fN[j].bi (r1.1.fN[j].aG) r1.1.fN[j].aZ r1.1.fN[j].be) hw ⟨hnw.s,hnw.b,hnw.k,hnw.w⟩ hnk hir _) h3.2
 refine cg (λ_=>fc (kI _ j ho) (k6 f6 (fc (kI _ j ho) ?_))) (λ_=>fin r3.2 r1.1 rfl hw h3.2);refine fin r3.2 ⟨r1.1.fC,r1.1.fT,r1.1.bI,r1.1.bt.set (sY (j:Int)) (aX.mk (r1.1.bt[j].fB++[1])),r1.1.fN,r1.1.fD,r1.1.bj,r1.1.cY,r1.1.bk⟩ rfl ⟨⟨hw.cp.t,hw.cp.new,by simpa using hw.cp.ol,λy hy=>?_,hw.cp.nl,hw.cp.n,hw.cp.dl,hw.cp.d,hw.cp.pl,hw.cp.p,hw.cp.ll⟩,hw.t,hw.nl,hw.dl,by simpa using hw.ol,hw.pl,hw.ll,hw.l0,hw.l1,hw.nb,λy hy=>?_,hw.nk,hw.rg,hw.pe⟩ h3.2
 ·rcases zXw hy with hy | rfl
  ·exact hw.cp.old y hy
  ·simp;omega
 ·rcases zXw hy with hy | rfl
  ·exact hw.ob y hy
  ·intro z hz;rcases sa.1 hz with hz | hz
   ·exact hw.ob _ (zQQ ho) z hz
   ·simp only [zYq,zVw,or_false] at hz;subst hz;omega
theorem Lv(hu:UB){l:List ak}(hl:l.length<=1048576)(hb:∀ x∈l,Dj x):qR l=ac l:=by
 unfold qR;rw [Je l _ u al al,sS 1048576 l _ l 0 [] (λ_ h=>h) f6]
 ·rfl
 ·intro x i s k hx hs;unfold Bm;rw [Nc (hb x hx)];simp only [wk];rw [bp f6]; rfl
theorem PJ(hu:UB){w:World}(h:M.WCp w):uW w=ac w:=by
 have h1:=h.t;have h2:=h.new;have h3:=h.nl;have h4:=h.dl;have h5:=h.ll;have h6:=h.ol;unfold uW km fe;rw [bp f6];simp only [wk];rw [kH al,wk,Lv hu h.pl h.p,wk,bp f6];simp only [wk];rw [Lf w _ _ _ _ _ u al al,sS 1048576 w.bt _ w.bt 0 [] (λ_ h=>h) f6]
 ·unfold Dv ug;rw [Ld w _ _ _ _ _ _ u al al,sS 1048576 w.fN _ w.fN 0 [] (λ_ h=>h) f6]
  ·unfold Dt uf;rw [Lc w _ _ _ _ _ _ _ u al al,sS 1048576 w.fD _ w.fD 0 [] (λ_ h=>h) f6]
   ·rfl
   ·intro x i s k hx hs;unfold Ds;rw [HC hu (h.d x hx)];simp only [wk];rw [bp f6]; rfl
  ·intro x i s k hx hs;unfold Du;rw [Rq (h.n x hx)];simp only [wk];rw [bp f6]; rfl
 ·intro x i s k hx hs;have:=h.old x hx;unfold Dw;rw [kH al];simp only [wk];rw [bp f6]; rfl
theorem zt(hu:UB){a:gs}(h:a.length<=1048576):qm a a=ac true:=by
 unfold qm;simp only [bne_self_eq_false,cond_false];rw [Mi a a () u al al,t6 (λx i k hx=>by unfold EJ; rw [cj,hx]; simp only [wk,bne_self_eq_false,cond_false]) a 0 rfl];rfl
theorem Lw(hu:UB){w:World}(h:M.WCp w):vj w w=ac true:=by
 have h1:=h.t;have h2:=h.new;have h3:=h.nl;have h4:=h.dl;have h5:=h.ll;have h6:=h.ol;have h7:=h.pl;unfold vj;simp only [beq_self_eq_true,bne_self_eq_false,zQY,cond_false,zt hu h1,oM hu h2,Jn hu (show w.bj.length<=1048577 by omega) (λp hp=>(h.p p hp).2),wk,fE];rw [Ll w w () u al al,t6 (λx i k hx=>by
  unfold DG;simp only [cj,hx,wk,oM hu (h.old x (zQQ hx)),zQY,cond_false]) w.bt 0 rfl]
 unfold DF uk;rw [Lk w w () u al al,t6 (λx i k hx=>by
  unfold DE;simp only [cj,hx,wk,Nm hu (h.n x (zQQ hx)),zQY,cond_false]) w.fN 0 rfl]
 unfold DD uj;rw [Lj w w () u al al,t6 (λx i k hx=>by
  unfold DC;simp only [cj,hx,wk,MZ hu (h.d x (zQQ hx)),zQY,cond_false]) w.fD 0 rfl]
 unfold DA ui;rw [Li w w () u al al,t6 (λx i k hx=>by
  unfold Dz;simp only [cj,hx,wk,beq_self_eq_true,zQY,cond_false]) w.cY 0 rfl]
 rfl
theorem qdt{w:World}(h:M.AnyW w):M.NdOk w:=⟨h.nb,h.cp.new,h.cp.ol,λx hx=>⟨h.ob x hx,h.cp.old x hx⟩⟩
theorem qdu(hu:UB){code:gs}(h:code.length<=1048576)(n:Int):Ev (Aw code n) λv=>M.AnyW v.2/\Cu v.1:=by
 unfold Aw;exact bx (Z5 hu h) λc hc=>bx (qfb hu hc n) λq hq=>cU ⟨hq.1,hq.2⟩
structure M.K1 (new:gs) (d:ar):Prop where
 a:d.fA.length<=240
 r:d.fR=⟨1,1,new.length⟩
 b:d.fB.length<=240
 n:d.fB.take new.length=new
 p:d.fP=[]
theorem qjO{new:gs}(h:new.length<=240):gN ⟨1,1,new.length⟩=true:=by
 unfold gN aj;simp;omega
theorem qbR{a b:gs}(h:a.take b.length=b):b.length<=a.length:=by
 have:=congrArg zZX h;rw [zQk] at this;omega
theorem Ns{new:gs}(h:new.length<=240){d:ar}(hk:M.K1 new d):bZ d=gi/\bX d=(1,new):=by
 obtain ⟨a,b,r,p⟩:=d;obtain ⟨h1,h2,h3,h4,h5⟩:=hk;have h2:r=⟨1,1,new.length⟩:=h2;have h5:p=[]:=h5;have h4:b.take new.length=new:=h4;subst h2 h5;have hl:=qbR h4;have e:bZ ⟨a,b,⟨1,1,new.length⟩,[]⟩=true:=dk h1 h3 (qjO h) (by simp [fV]; omega) ig ig;refine ⟨e,?_⟩;unfold bX;rw [e,if_pos rfl];simp [fV,h4]
theorem qiE{old:gs}{d:ar}(hk:M.K0 old d){p:List dv}(hp:d.fP=p):d=CK old d.fB p:=by
 obtain ⟨a,b,r,q⟩:=d;obtain ⟨h1,h2,h3⟩:=hk;have h1:a=old:=h1;have h2:r=⟨0,0,old.length⟩:=h2;have hp:q=p:=hp;subst h1 h2 hp;rfl
theorem YT{old s b:gs}(ho:old.length<=240)(hs':s.length<=240)(hl:b.length<=16){size:Int}(hs:cF size b.length=gi):∀ (n i:Nat),i+n=(bu size b.length).toNat ->
  jP (CK old s []) b size n i (CK old s (qa b size.toNat i))=(CK old s (qa b size.toNat (i+n)),gi)
 | 0,i,_=>rfl
 | n+1,i,h=>by
  have hr:=blocks_range size b.length;have hi:i < (bu size b.length).toNat:=by omega
  have hk:=Nn hs hi;have hz:=hk.z2;have e:jE (CK old s (qa b size.toNat i)) (cP (CK old s [])) ((i:Int)*size) (eV b size i).1=(CK old s (qa b size.toNat (i+1)),gi):=by
   rw [PC hk,show cP (CK old s [])=1 from rfl];have e1:(i:Int)*size=((i*size.toNat:Nat):Int):=by rw [Int.natCast_mul,Int.toNat_of_nonneg al]
   rw [e1];have e2:jO (CK old s (qa b size.toNat i)) (IB b size.toNat i)=CK old s (qa b size.toNat (i+1)):=by
    unfold jO CK;rw [qdl]
   have e3:bZ (CK old s (qa b size.toNat (i+1)))=true:=(KD ho ⟨rfl,rfl,hs'⟩ (by show (qa b size.toNat (i+1)).length<=200; rw [YR]; omega) λx hx=>(WO hl hs al x hx).2).1;unfold jE;rw [if_pos (show aj 1 0 1=gi from rfl)];show M.add _ (IB b size.toNat i)=_;unfold M.add;rw [e2,if_pos e3]
  unfold jP;rw [e,if_pos rfl,YT ho hs' hl hs n (i+1) al];rw [show i+1+n=i+(n+1) by omega]
theorem qgK{b s:gs}{a m:Nat}(h:a+m<=b.length):HD (b.take a++s.drop a) a (M.win b a m)=b.take (a+m)++s.drop (a+m):=by
 have hw:(M.win b a m).length=m:=m5 h;have ht:(b.take a).length=a:=by rw [zQk]; omega
 unfold HD;rw [Fd (by simp only [zQH,zYz,hw]; omega),hw,zQJ (b.take a) (s.drop a),List.take_left' ht];have e1:b.take a++M.win b a m=b.take (a+m):=by
  unfold M.win;have h2:b.take a=(b.take (a+m)).take a:=by rw [List.take_take,zXj al]
  rw [h2,zXv]
 rw [<- zQJ,e1]
 congr 1
 have h3:(b.take a++s.drop a).length=max a s.length:=by rw [zQH,ht,zYx]; omega
 by_cases hs:a+m<=s.length
 ·rw [h3,show a+m - max a s.length=0 by omega];simp only [List.replicate_zero,zWV];rw [<- zZJ,List.drop_left' ht,zZJ]
 ·have h4:s.drop (a+m)=[]:=zXz al;rw [h4];refine zXz ?_;rw [zQH,zQH,ht,zYx,zYz];omega
theorem qbS{old s b:gs}{size:Int}(hs:cF size b.length=gi)(R:List dv):∀ (n i:Nat),i+n=(bu size b.length).toNat ->
  zo ((zXW i n).map (IB b size.toNat)) (CK old (b.take (min (i*size.toNat) b.length)++s.drop (min (i*size.toNat) b.length)) R)=CK old (b++s.drop b.length) []
 | 0,i,h=>by
  have:=No hs;rw [<- h,zYV] at this;rw [Nat.min_eq_right this,List.take_length];rfl
 | n+1,i,h=>by
  have hk:=Nn hs (show i < (bu size b.length).toNat by omega);have hp:=hk.p;have hz:=hk.z2;rw [zYj,zXV];unfold zo;rw [zXj (Nat.le_of_lt hp)];have e1:i*size.toNat+min size.toNat (b.length - i*size.toNat)=min ((i+1)*size.toNat) b.length:=by
   rw [zYw]; omega
  have e:oL (CK old (b.take (i*size.toNat)++s.drop (i*size.toNat)) R) (IB b size.toNat i)=CK old (b.take (min ((i+1)*size.toNat) b.length)++s.drop (min ((i+1)*size.toNat) b.length)) R:=by
   show (⟨old,HD (b.take (i*size.toNat)++s.drop (i*size.toNat)) ((i*size.toNat:Nat):Int).toNat (M.win b (i*size.toNat) (min size.toNat (b.length - i*size.toNat))),⟨0,0,old.length⟩,R⟩:ar)=_;rw [r0,qgK al,e1];rfl
  rw [e];exact qbS hs R n (i+1) al
inductive M.DS (new old:gs) (size:Int):Int->ar->Prop
 | idle {d:ar} (k:M.K0 old d) (p:d.fP=[]):M.DS new old size 0 d
 | idleN {d:ar} (k:M.K1 new d):M.DS new old size 0 d
 | gather {d:ar} (k:M.K0 old d) (p:d.fP=[]):M.DS new old size 1 d
 | staged {d:ar} (k:M.K0 old d) (p:d.fP=qa new size.toNat (bu size new.length).toNat):M.DS new old size 2 d
 | sure {d:ar} (k:M.K0 old d) (p:d.fP=[]) (n:d.fB.take new.length=new):M.DS new old size 3 d
 | meant {d:ar} (k:M.K0 old d) (p:d.fP=[⟨2,0,[],⟨1,1,new.length⟩⟩]) (n:d.fB.take new.length=new):M.DS new old size 4 d
 | done {d:ar} (k:M.K1 new d):M.DS new old size 5 d
theorem PK{new old:gs}{size:Int}(ho:old.length<=240)(hn:new.length<=16)(hs:cF size new.length=gi){ph:Int}{d:ar}(h:M.DS new old size ph d):bZ d=gi/\((M.K0 old d/\bX d=(0,old)/\ph≠5)\/(M.K1 new d/\bX d=(1,new)/\(ph=0\/ph=5))):=by
 have hr:=blocks_range size new.length;have nil:∀ {d:ar},M.K0 old d->d.fP=[]->bZ d=gi/\bX d=(0,old):=λk p=>KD ho k qfw qfw
 cases h with
 | idle k p=>exact ⟨(nil k p).1,.inl ⟨k,(nil k p).2,by decide⟩⟩
 | idleN k=>exact ⟨(Ns al k).1,.inr ⟨k,(Ns al k).2,.inl rfl⟩⟩
 | gather k p=>exact ⟨(nil k p).1,.inl ⟨k,(nil k p).2,by decide⟩⟩
 | staged k p =>
  have:=KD ho k (by rw [p,YR]; omega) (by rw [p]; exact λx hx=>(WO hn hs (zWK _) x hx).2);exact ⟨this.1,.inl ⟨k,this.2,by decide⟩⟩
 | sure k p _=>exact ⟨(nil k p).1,.inl ⟨k,(nil k p).2,by decide⟩⟩
 | meant k p _ =>
  have:=KD ho k qfw (by rw [p]; intro x hx; simp only [zQq] at hx; subst hx; have:=qjO (show new.length<=240 by omega); simp [gf,this]);exact ⟨this.1,.inl ⟨k,this.2,by decide⟩⟩
 | done k=>exact ⟨(Ns al k).1,.inr ⟨k,(Ns al k).2,.inr rfl⟩⟩
theorem qif{new old:gs}{size:Int}(ho:old.length<=240)(hn:new.length<=16)(hs:cF size new.length=gi){ph:Int}{d:ar}(h:M.DS new old size ph d)(s:Int):M.DS new old size 0 (M.fall d s):=by
 have hok:=(PK ho hn hs h).1;have hr:=blocks_range size new.length;have nil:∀ {d:ar},d.fP=[]->bZ d=true->M.fall d s=d:=λ{d} p hd=>by
  unfold M.fall;rw [if_pos hd,p];unfold p8;rw [<- p]
 cases h with
 | idle k p=>rw [nil p hok]; exact .idle k p
 | idleN k=>rw [nil k.p hok]; exact .idleN k
 | gather k p=>rw [nil p hok]; exact .idle k p
 | staged k p =>
  unfold M.fall;rw [if_pos hok];obtain ⟨h3,h4⟩:=qbH s d.fP 0 d k (by rw [p]; exact λx hx=>WO hn hs (zWK _) x hx);exact .idle h3 h4
 | sure k p _=>rw [nil p hok]; exact .idle k p
 | meant k p n =>
  unfold M.fall;rw [if_pos hok,p];unfold p8 p8
  split
  ·exact .idleN ⟨by rw [show (oL d ⟨2,0,[],⟨1,1,new.length⟩⟩).fA=d.fA from rfl,k.a]; exact ho,rfl,k.b,n,rfl⟩
  ·exact .idle ⟨k.a,k.r,k.b⟩ rfl
 | done k=>rw [nil k.p hok]; exact .idleN k
theorem qea{new old:gs}{size:Int}(ho:old.length<=240)(hn:new.length<=16)(hs:cF size new.length=gi){ph:Int}{d:ar}(h:M.DS new old size ph d){m:af}(hm:ph≠0->m=M.man 1 new size){x:aW}(hx:ph=1->oZ m x=true->x.bE=new):M.DS new old size (cK d m x ph).2 (cK d m x ph).1:=by
 have hok:=(PK ho hn hs h).1;have hr:=blocks_range size new.length
 cases h with
 | idle k p=>exact .idle k p
 | idleN k=>exact .idleN k
 | gather k p =>
  unfold cK;rw [if_pos rfl]
  split
  ·rename_i hc;simp only [sk] at hc;have e:=hx rfl hc.1;have em:=hm BL;subst em;have hz:(M.man 1 new size).au=size:=rfl;have:m6 d x.bE (M.man 1 new size).au=(CK old d.fB (qa new size.toNat (bu size new.length).toNat),gi):=by
    unfold m6;rw [e,hz,hok,hs,p];simp only [zXx,decide_true,zXG,if_true];have:=YT (s:=d.fB) ho k.b hn hs (bu size new.length).toNat 0 al;rw [zWY] at this;rw [qiE k p];exact this
   rw [this];exact .staged ⟨rfl,rfl,k.b⟩ rfl
  ·exact .gather k p
 | staged k p =>
  show M.DS new old size 3 (M.sure d);unfold M.sure;rw [if_pos hok,p];have e:=qbS (old:=old) (s:=d.fB) hs d.fP (bu size new.length).toNat 0 al;rw [Nat.zero_mul,Nat.zero_min,List.take_zero,zVQ,zQj,<- qiE k rfl] at e;unfold qa;rw [zYX,e];refine .sure ⟨rfl,rfl,?_⟩ rfl (List.take_left' rfl);show (new++d.fB.drop new.length).length<=240;have:=k.b;simp only [zQH,zYx];omega
 | sure k p n =>
  have em:=hm BL;subst em;show M.DS new old size (if (i7 d ⟨(M.man 1 new size).aR,cP d,(M.man 1 new size).aT⟩).2 then ((i7 d ⟨(M.man 1 new size).aR,cP d,(M.man 1 new size).aT⟩).1,4) else (d,3)).2 (if (i7 d ⟨(M.man 1 new size).aR,cP d,(M.man 1 new size).aT⟩).2 then ((i7 d ⟨(M.man 1 new size).aR,cP d,(M.man 1 new size).aT⟩).1,(4:Int)) else (d,3)).1;have es:cP d=1:=by unfold cP; rw [k.r]; rfl
  rw [es];unfold i7;rcases Wu d ⟨2,0,[],⟨(M.man 1 new size).aR,1,(M.man 1 new size).aT⟩⟩ with ⟨e,_⟩ | e
  ·rw [e];refine .meant ⟨k.a,k.r,k.b⟩ ?_ n;show d.fP++[_]=_;rw [p];rfl
  ·rw [e];exact .sure k p n
 | meant k p n =>
  show M.DS new old size 5 (M.sure d);unfold M.sure;rw [if_pos hok,p];refine .done ⟨?_,rfl,k.b,n,rfl⟩;show d.fA.length<=240;rw [k.a]; exact ho
 | done k=>exact .done k
theorem WQ{n:Nat}(hn:n<=40){x:Int}(hx:bB x=gi)(h:n6 (jb n) x=0){i:Nat}(hi:i < n):dL x i=true:=by
 have h40:(2:Nat) ^ n<=2 ^ 40:=zWZ al hn;have hs:0<=x/\x < 1099511627776:=by unfold bB aj at hx; simp at hx; omega
 obtain ⟨a,rfl⟩:∃ a:Nat,x=a:=⟨x.toNat,by omega⟩;rw [M4 (M3 n) hx] at h;have hf:jb n=((2 ^ n - 1:Nat):Int):=by unfold jb; rw [if_pos hn]
 rw [hf] at h;rw [Sm (n:=40) al al al] at h;have h0:A9 40 (λi=>(2 ^ n - 1).testBit i && !a.testBit i)=0:=by omega
 have h1:=GE (λi=>(2 ^ n - 1).testBit i && !a.testBit i) 40 i;rw [h0,Nat.zero_testBit] at h1;have h2:decide (i < 40)=true:=by simp; omega
 rw [h2,zYg,decide_eq_true hi] at h1;have hp:fu (i:Int)=true:=by unfold fu aj; simp; omega
 unfold dL;rw [hx,hp,r0,r0]
 simpa using h1
theorem YU{new:gs}(hb:aw new){size:Int}(hs:cF size new.length=gi){x:aW}(hx:M.BldWf x)(h:oZ (M.man 1 new size) x=gi):x.bE=new:=by
 have hr:=blocks_range size new.length;have hall:=No hs;unfold oZ at h;simp only [sk,beq_iff_eq] at h;obtain ⟨⟨_,hk⟩,hm⟩:=h;have hset:=(Ks hk).2;have hl:=F9 hk;have hl:x.bE.length=new.length:=by have:(x.bE.length:Int)=new.length:=hl; omega
 unfold fO at hk;simp only [sk] at hk;have hfit:=hk.2;unfold rJ at hm;rw [PE] at hm;have step:∀ i:Nat,i<=(bu size new.length).toNat->x.bE.take (i*size.toNat)=new.take (i*size.toNat):=by
  intro i
  induction i with
  | zero=>intro _; simp
  | succ i ih =>
   intro hi;have kb:=Nn hs (show i < (bu size new.length).toNat by omega);have kp:=kb.p;have kz:=kb.z2;have g:=HP hfit i _ (PD (g:=1) (show i < (bu size new.length).toNat by omega));rw [zWY] at g;unfold qt at g;rw [if_pos (WQ al hset hm al)] at g;unfold oY at g;rw [(RJ kb).1,(RJ kb).2,PC kb] at g;simp only [decide_eq_true_eq] at g;have w1:(M.win x.bE (i*size.toNat) (min size.toNat (new.length - i*size.toNat))).length=min size.toNat (new.length - i*size.toNat):=m5 al;have w2:(M.win new (i*size.toNat) (min size.toNat (new.length - i*size.toNat))).length=min size.toNat (new.length - i*size.toNat):=m5 al;have e:=YL (i6 hx.b _ _) (i6 hb _ _) al al g;have p1:=WM (b:=x.bE) (z:=size.toNat) (i:=i) al;have p2:=WM (b:=new) (z:=size.toNat) (i:=i) kp;rw [hl] at p1;rw [<- p1,<- p2,ih al,e]
 have:=step _ (zWK _);rwa [zWj al,zWj hall] at this
theorem WR{b:gs}(h:(dj b).2=gi):iQ (dj b).1=gi/\dQ (dj b).1=b:=by
 unfold dj at h ⊢
 split at h
 ·rename_i hc;rw [if_pos hc]
  split at h
  ·rename_i m e hr
   split at h
   ·rename_i hq;rw [if_pos hq]
    simpa using hq
   ·cases h
  ·cases h
 ·cases h
theorem qig(n:Int):1<=(dn 9 n).length:=by
 unfold dn
 split <;> simp
theorem Bj{a b:Int}{s t:gs}(a0:0<=a)(a1:a<=1000000000000)(b0:0<=b)(b1:b<=1000000000000)(h:dn 9 a++s=dn 9 b++t):a=b/\s=t:=by
 have h1:=M0 (p:=[]) s a0 a1;have h2:=M0 (p:=[]) t b0 b1;simp only [zQj] at h1 h2;rw [h,h2] at h1;have e:b=a:=congrArg (λx=>x.1) h1;subst e;exact ⟨rfl,zVW h⟩
theorem ID{m:jc}(h:iQ m=gi):∃ t,dQ m=dn 9 m.bH++t/\1<=m.bH/\m.bH<=4:=by
 have hk:1<=m.bH/\m.bH<=4:=by
  unfold iQ at h
  split at h
  ·omega
  split at h
  ·omega
  split at h
  ·omega
  split at h
  ·omega
  cases h
 have pre:∀ (c:gs) (n:Int),∃ t,aY c n=c++t:=λc n=>by
  unfold aY
  split
  ·exact ⟨_,rfl⟩
  ·exact ⟨[],(zWV _).symm⟩
 have k0:aY [] m.bH=dn 9 m.bH:=Iv al al;have sums:∀ (l:List dR) (c:gs),∃ t,mO c l=c++t:=λl=>by
  induction l with
  | nil=>intro c; exact ⟨[],(zWV _).symm⟩
  | cons s l ih =>
   intro c;obtain ⟨t,ht⟩:=ih (c++dn 9 s.fS);exact ⟨dn 9 s.fS++t,by simp only [mO]; rw [ht,zQJ]⟩
 have body:∃ t,ep m=dn 9 m.bH++t:=by
  unfold ep vI yf;rw [k0]
  split
  ·split
   ·obtain ⟨t1,e1⟩:=pre (dn 9 m.bH) m.aH.aR;obtain ⟨t2,e2⟩:=pre (dn 9 m.bH++t1) m.aH.au;obtain ⟨t3,e3⟩:=pre (dn 9 m.bH++t1++t2) m.aH.aT;obtain ⟨t4,e4⟩:=sums m.aH.aI (dn 9 m.bH++t1++t2++t3);exact ⟨t1++t2++t3++t4,by rw [e1,e2,e3,e4]; simp only [zQJ]⟩
   ·exact ⟨[],(zWV _).symm⟩
  ·split
   ·obtain ⟨t1,e1⟩:=pre (dn 9 m.bH) m.aR;obtain ⟨t2,e2⟩:=pre (dn 9 m.bH++t1) (iK .i64 m.cW 1048575);obtain ⟨t3,e3⟩:=pre (dn 9 m.bH++t1++t2) (ng .i64 m.cW 20);obtain ⟨t4,e4⟩:=pre (dn 9 m.bH++t1++t2++t3) (iK .i64 m.cO 1048575);obtain ⟨t5,e5⟩:=pre (dn 9 m.bH++t1++t2++t3++t4) (ng .i64 m.cO 20);exact ⟨t1++t2++t3++t4++t5,by rw [e1,e2,e3,e4,e5]; simp only [zQJ]⟩
   ·split
    ·obtain ⟨t1,e1⟩:=pre (dn 9 m.bH) m.aR;obtain ⟨t2,e2⟩:=pre (dn 9 m.bH++t1) m.fI;obtain ⟨t3,e3⟩:=pre (dn 9 m.bH++t1++t2) m.fB.length;exact ⟨t1++t2++t3++m.fB,by rw [e1,e2,e3]; simp only [zQJ]⟩
    ·split
     ·exact pre _ _
     ·exact ⟨[],(zWV _).symm⟩
 obtain ⟨t,ht⟩:=body;obtain ⟨t2,h2⟩:=pre (ep m) (dc (ep m));exact ⟨t++t2,by unfold dQ; rw [if_pos h,h2,ht,zQJ],hk⟩
theorem WS{m k:jc}(hm:iQ m=gi)(hk:iQ k=gi)(h:dQ m=dQ k):m.bH=k.bH:=by
 obtain ⟨s,e1,a,b⟩:=ID hm;obtain ⟨t,e2,c,d⟩:=ID hk;rw [e1,e2] at h;exact (Bj al al al al h).1
def M.flat(l:List dR):gs:=l.flatMap λs=>dn 9 s.fS
theorem PL:∀ (l:List dR) (c:gs),mO c l=c++M.flat l
 | [],c=>(zWV _).symm
 | s :: l,c=>by
  simp only [mO,M.flat,List.flatMap_cons];rw [PL l,zQJ];rfl
theorem qfc{a b:Int}{s t:gs}(a0:1<=a)(a1:a<=562949953421311)(b0:1<=b)(b1:b<=562949953421311)(h:dn 9 a++s=dn 9 b++t):a=b/\s=t:=by
 have h1:=qcS 10 9 gi a s al al (λe=>by cases e) al al;have h2:=qcS 10 9 gi b t al al (λe=>by cases e) al al;rw [h,h2] at h1;have e:b=a:=congrArg (λx=>x.1) (Option.some.inj h1);subst e;exact ⟨rfl,zVW h⟩
theorem qiF{size len:Int}{i:Nat}{s:dR}(h:rE size len i s=gi):1<=s.fS/\s.fS<=562949953421311/\s.fW=dc (cr s.fS).1:=by
 unfold rE at h;simp only [sk,beq_iff_eq] at h;refine ⟨(D8 (b:=(cr s.fS).1) (by rw [<- h.1.1])).1,?_,h.2.symm⟩;rcases Int.lt_or_le 562949953421311 s.fS with hb | hb
 ·have:=Sk hb;rw [this] at h
  cases h.1.1
 ·exact hb
theorem qbT{size len:Int}:∀ (l k:List dR) (i:Nat) (s t:gs),l.length=k.length->jM size len l i=true->jM size len k i=true->M.flat l++s=M.flat k++t->l=k
 | [],[],_,_,_,_,_,_,_=>rfl
 | [],_ :: _,_,_,_,h,_,_,_=>by cases h
 | _ :: _,[],_,_,_,h,_,_,_=>by cases h
 | x :: l,y :: k,i,s,t,hl,h1,h2,h=>by
  unfold jM at h1 h2;simp only [sk] at h1 h2;obtain ⟨a1,a2,a3⟩:=qiF h1.1;obtain ⟨b1,b2,b3⟩:=qiF h2.1;simp only [M.flat,List.flatMap_cons,zQJ] at h;obtain ⟨e1,e2⟩:=qfc a1 a2 b1 b2 h;have e3:x=y:=by
   obtain ⟨xw,xs⟩:=x;obtain ⟨yw,ys⟩:=y;simp only at e1 a3 b3;subst e1;rw [a3,b3]
  rw [e3,qbT l k (i+1) s t wz5 h1.2 h2.2 e2]
theorem CL{m:af}(h:cG m=gi)(h0:m.aR≠0):(1<=m.aR/\m.aR<=1000000)/\(2<=m.au/\m.au<=6)/\(0<=m.aT/\m.aT<=240)/\(m.aI.length:Int)=bu m.au m.aT/\jM m.au m.aT m.aI 0=true:=by
 unfold cG at h;rw [if_neg h0] at h;simp only [sk,beq_iff_eq] at h;have h1:=bC h.1.1.1;have h2:=vH h.1.1.2;exact ⟨h1,⟨h2.1,h2.2.1⟩,⟨h2.2.2.1,by omega⟩,h.1.2,h.2⟩
theorem qeb{m:jc}(h:iQ m=gi)(hk:m.bH=1):cG m.aH=gi/\m.aH.aR≠0/\∃ t,dQ m=dn 9 1++(dn 9 m.aH.aR++(dn 9 m.aH.au++(dn 9 m.aH.aT++(M.flat m.aH.aI++t)))):=by
 have h':=h;unfold iQ at h';rw [if_pos hk] at h';simp only [sk,bne_iff_ne,ne_eq] at h';obtain ⟨⟨⟨_,g0⟩,mo⟩,_⟩:=h';obtain ⟨a,b,c,_,_⟩:=CL mo g0;refine ⟨mo,g0,?_⟩;have body:ep m=dn 9 1++(dn 9 m.aH.aR++(dn 9 m.aH.au++(dn 9 m.aH.aT++M.flat m.aH.aI))):=by
  unfold ep vI;rw [if_pos hk,if_pos mo,hk,Iv al al,gF al al,gF al al,gF al al,PL];simp only [zQJ]
 have pre:∃ t,aY (ep m) (dc (ep m))=ep m++t:=by
  unfold aY
  split
  ·exact ⟨_,rfl⟩
  ·exact ⟨[],(zWV _).symm⟩
 obtain ⟨t,ht⟩:=pre;exact ⟨t,by unfold dQ; rw [if_pos h,ht,body]; simp only [zQJ]⟩
theorem qih{m k:jc}(hm:iQ m=gi)(hk:iQ k=gi)(h1:m.bH=1)(h:dQ m=dQ k):m.aH=k.aH:=by
 have k1:k.bH=1:=(WS hm hk h).symm.trans h1;obtain ⟨mo,mg,s,e1⟩:=qeb hm h1;obtain ⟨ko,kg,t,e2⟩:=qeb hk k1;obtain ⟨a1,a2,a3,a4,a5⟩:=CL mo mg;obtain ⟨b1,b2,b3,b4,b5⟩:=CL ko kg;rw [e1,e2] at h;obtain ⟨g1,hA⟩:=Bj al al al al (zVW h);obtain ⟨g2,hB⟩:=Bj al al al al hA;obtain ⟨g3,hC⟩:=Bj al al al al hB
 clear h hA hB
 generalize m.aH=x at *;generalize k.aH=y at *;obtain ⟨xg,xs,xl,xm⟩:=x;obtain ⟨yg,ys,yl,ym⟩:=y;simp only at g1 g2 g3 a4 a5 b4 b5 hC;subst g1 g2 g3;rw [qbT xm ym 0 s t al a5 b5 hC]
theorem Ep{w:Int}(h:bB w=gi):0<=iK .i64 w 1048575/\iK .i64 w 1048575 < 1048576/\0<=ng .i64 w 20/\ng .i64 w 20 < 1048576/\w=iK .i64 w 1048575+ng .i64 w 20*1048576:=by
 have h0:0<=w/\w < 1099511627776:=by unfold bB aj at h; simp at h; omega
 obtain ⟨_,_,e1,e2⟩:=Pb (x:=w % 1048576) (y:=w / 1048576) al al al al;rw [show w % 1048576+w / 1048576*1048576=w by omega] at e1 e2;rw [e1,e2];omega
theorem qgL{m:jc}(h:iQ m=gi)(hk:m.bH=2):bB m.cW=gi/\bB m.cO=gi/\(0<=m.aR/\m.aR<=1000000)/\∃ t,dQ m=dn 9 2++(dn 9 m.aR++(dn 9 (iK .i64 m.cW 1048575)++(dn 9 (ng .i64 m.cW 20)++(dn 9 (iK .i64 m.cO 1048575)++(dn 9 (ng .i64 m.cO 20)++t))))):=by
 have h':=h;unfold iQ at h';rw [if_neg al,if_pos hk] at h';simp only [sk] at h';have hg:=bC h'.1.1.1.1.1;have sw:=h'.1.1.1.2;have sd:=h'.1.1.2;refine ⟨sw,sd,hg,?_⟩;have pw:=Ep sw;have pd:=Ep sd;have body:ep m=dn 9 2++(dn 9 m.aR++(dn 9 (iK .i64 m.cW 1048575)++(dn 9 (ng .i64 m.cW 20)++(dn 9 (iK .i64 m.cO 1048575)++dn 9 (ng .i64 m.cO 20))))):=by
  unfold ep yf;rw [if_neg al,if_pos hk,hk,Iv al al,gF al al,gF al al,gF al al,gF al al,gF al al];simp only [zQJ]
 have pre:∃ t,aY (ep m) (dc (ep m))=ep m++t:=by
  unfold aY
  split
  ·exact ⟨_,rfl⟩
  ·exact ⟨[],(zWV _).symm⟩
 obtain ⟨t,ht⟩:=pre;exact ⟨t,by unfold dQ; rw [if_pos h,ht,body]; simp only [zQJ]⟩
theorem qgM{m k:jc}(hm:iQ m=gi)(hk:iQ k=gi)(h1:m.bH=2)(h:dQ m=dQ k):m.cO=k.cO:=by
 have k1:k.bH=2:=(WS hm hk h).symm.trans h1;obtain ⟨a1,a2,a3,s,e1⟩:=qgL hm h1;obtain ⟨b1,b2,b3,t,e2⟩:=qgL hk k1;have p1:=Ep a1;have p2:=Ep a2;have q1:=Ep b1;have q2:=Ep b2;rw [e1,e2] at h;have h:=zVW h;obtain ⟨_,h⟩:=Bj al al al al h;obtain ⟨_,h⟩:=Bj al al al al h;obtain ⟨_,h⟩:=Bj al al al al h;obtain ⟨g1,h⟩:=Bj al al al al h;obtain ⟨g2,_⟩:=Bj al al al al h;omega
theorem qgN{k:jc}(h:(dj (dQ k)).2=gi):(dj (dQ k)).1.bH=k.bH/\((dj (dQ k)).1.bH=1->(dj (dQ k)).1.aH=k.aH)/\((dj (dQ k)).1.bH=2->(dj (dQ k)).1.cO=k.cO):=by
 obtain ⟨a,b⟩:=WR h;have hk:iQ k=true:=by
  cases hq:iQ k with
  | true=>rfl
  | false =>
   exfalso;obtain ⟨t,e,_,_⟩:=ID a;rw [e] at b;have:dQ k=[]:=by unfold dQ; rw [hq]; rfl
   rw [this] at b;have l1:=congrArg zZX b;have l2:=qig (dj []).1.bH;rw [zQH,zXx] at l1;omega
 exact ⟨WS a hk b,λe=>qih a hk e b,λe=>qgM a hk e b⟩
def WT(m:af)(b:gs):Prop:=(dj b).2=true->(dj b).1.bH=1->(dj b).1.aH=m
theorem WU{m:af}(f t:Int)(k:jc)(h:k.bH=1->k.aH=m):WT m (lA f t k).fB:=λh2 h1=>by
 obtain ⟨e1,e2,_⟩:=qgN (k:=k) h2;exact (e2 h1).trans (h (e1.symm.trans h1))
structure M.Sa (w:World):Prop where
 s:cF w.fC.au w.bI.length=gi
 off:∀ (j:Nat) (n:aD),w.fN[j]?=ac n->n.fJ=false->n.aG=0
 man:∀ (j:Nat) (n:aD),w.fN[j]?=ac n->n.aG≠0->n.aH=M.man 1 w.bI w.fC.au
 disk:∀ (j:Nat) (n:aD) (d:ar) (o:aX),j≠0->w.fN[j]?=ac n->w.fD[j]?=ac d->w.bt[j]?=ac o->M.DS w.bI o.fB w.fC.au n.aG d
 msg:∀ p∈w.bj,WT (M.man 1 w.bI w.fC.au) p.fB
structure M.Keeps (m:af) (d:ar) (n x:aD):Prop where
 on:x.fJ=n.fJ
 c:(x.aG=n.aG/\x.aH=n.aH)\/(n.fJ=gi/\n.aG=0/\x.aH=m/\x.aG=if ((bX d).1 == m.aR) && jg m (bX d).2 then 5 else 1)
theorem zQ{m:af}{d:ar}{n x:aD}(h:x.fJ=n.fJ)(h1:x.aG=n.aG)(h2:x.aH=n.aH):M.Keeps m d n x:=⟨h,.inl ⟨h1,h2⟩⟩
theorem XU(n:aD)(me i:Int):(gG n me i).fN.fJ=n.fJ/\(gG n me i).fN.aG=n.aG/\(gG n me i).fN.aH=n.aH:=by
 unfold gG
 split <;> exact ⟨rfl,rfl,rfl⟩
theorem RM(n:aD)(me f:Int)(m:jc):(dV n me f m).fN.fJ=n.fJ/\(dV n me f m).fN.aG=n.aG/\(dV n me f m).fN.aH=n.aH:=by
 unfold dV
 split
 ·exact ⟨rfl,rfl,rfl⟩
 dsimp only
 split
 ·exact ⟨rfl,rfl,rfl⟩
 split
 ·split <;> exact ⟨rfl,rfl,rfl⟩
 ·exact ⟨rfl,rfl,rfl⟩
theorem WV(n:aD)(me:Int)(m:jc):(gP n me m).fN.fJ=n.fJ/\(gP n me m).fN.aG=n.aG/\(gP n me m).fN.aH=n.aH:=by
 unfold gP
 split
 ·exact ⟨rfl,rfl,rfl⟩
 split
 ·exact ⟨rfl,rfl,rfl⟩
 split
 ·obtain ⟨a,b,c⟩:=XU (Eo n (kJ n.aH n.bi m.fI m.fB).1) me m.fI;exact ⟨a,b,c⟩
 ·exact ⟨rfl,rfl,rfl⟩
theorem WW{t:bD}{me:Int}{n:aD}{d:ar}{p:ak}{m:af}(h:WT m p.fB):M.Keeps m d n (M.take t me n d p).fN:=by
 unfold M.take
 split
 ·exact zQ rfl rfl rfl
 rename_i hon
 split
 ·rename_i hc;simp only [sk] at hc
  split
  ·obtain ⟨a,b,c⟩:=RM n me p.dy (dj p.fB).1;exact zQ a b c
  split
  ·unfold iX
   split
   ·rename_i hk;have hm:=h hc.1.1 hk;unfold n8
    split
    ·rename_i hp
     split
     ·rw [hm];exact ⟨rfl,.inr ⟨by simpa using hon,hp,rfl,rfl⟩⟩
     ·exact zQ rfl rfl rfl
    split <;> exact zQ rfl rfl rfl
   split
   ·obtain ⟨a,b,c⟩:=WV (BZ n) me (dj p.fB).1;exact zQ a b c
   exact zQ rfl rfl rfl
  ·exact zQ rfl rfl rfl
 ·exact zQ rfl rfl rfl
def Bk(m:af)(out:List ak):Prop:=∀ p∈out,WT m p.fB
theorem B1(m:af):Bk m []:=λp hp=>by simp at hp
theorem WX{m:af}{f t:Int}{k:jc}(h:k.bH=1->k.aH=m):Bk m [lA f t k]:=λp hp=>by
 simp only [zQq] at hp;subst hp;exact WU f t k h
theorem WY(m:af)(n:aD)(f t:Int):Bk m (iA n f t).m9:=λp hp=>by
 obtain ⟨i,_,rfl⟩:=List.mem_map.1 hp;exact WU _ _ _ (λe=>by exact absurd e (by show (3:Int)≠1; decide))
theorem qbU(m:af)(n:aD)(me i:Int):∀ (l:List bV) (s:List bV×List ak),Bk m s.2->Bk m (l.foldl (fQ n me i) s).2
 | [],s,h=>h
 | x :: l,s,h=>by
  rw [zYG];refine qbU m n me i l _ ?_;unfold fQ
  split
  ·intro p hp;rcases sa.1 hp with hp | hp
   ·exact h p hp
   ·simp only [zQq] at hp;subst hp;exact WU _ _ _ (λe=>by exact absurd e (by show (3:Int)≠1; decide))
  ·exact h
theorem qaa(m:af)(n:aD)(me i:Int):Bk m (gG n me i).m9:=by
 unfold gG
 split
 ·exact qbU m n me i _ _ (B1 m)
 ·exact B1 m
theorem Ui{m:af}{n:aD}(h:n.aG≠0->n.aH=m)(me f:Int)(k:jc):Bk m (dV n me f k).m9:=by
 unfold dV
 split
 ·exact B1 m
 dsimp only
 split
 ·exact WX λe=>by exact absurd e (by show (4:Int)≠1; decide)
 rename_i hp
 split
 ·split
  ·exact WX λe=>by exact absurd e (by show (4:Int)≠1; decide)
  ·exact WY m _ _ _
 ·exact WX λ_=>h hp
theorem XV(m:af)(n:aD)(me:Int)(k:jc):Bk m (gP n me k).m9:=by
 unfold gP
 split
 ·exact B1 m
 split
 ·exact B1 m
 split
 ·exact qaa m _ _ _
 ·exact B1 m
theorem qfd{m:af}{t:bD}{me:Int}{n:aD}(h:n.aG≠0->n.aH=m)(d:ar)(p:ak):Bk m (M.take t me n d p).m9:=by
 unfold M.take
 split
 ·exact B1 m
 split
 ·split
  ·exact Ui h _ _ _
  split
  ·unfold iX
   split
   ·exact B1 m
   split
   ·exact XV m _ _ _
   exact B1 m
  ·exact B1 m
 ·exact B1 m
end Go.Tm.Pu
