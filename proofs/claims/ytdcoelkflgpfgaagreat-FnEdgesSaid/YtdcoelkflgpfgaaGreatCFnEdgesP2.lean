/- Plain laws of the functions. -/
import Derived.Test.YtdcoelkflgpfgaaGreatCFnEdgesP1
set_option linter.unusedVariables false
set_option linter.unusedSimpArgs false
open Bool renaming and_eq_true->sY,and_self->zYW,eq_iff_iff->zYQ,false_eq_true->zQz,not_true->zQV,or_eq_true->zYk,true_and->zWx
open Int renaming add_mul->zZv,toNat->sX,toNat_natCast->r0
open List renaming drop_eq_getElem_cons->zXH,eq_nil_of_length_eq_zero->sk,filter_cons->zZZ,foldl_cons->zYH,getElem?_append_left->rg,getElem?_append_right->zQQ,getElem?_cons_zero->zWV,getElem?_eq_getElem->tw,getElem?_map->zQX,getElem?_set->zXz,head?->zYV,head?_drop->zXW,length_append->zQw,length_cons->zQW,length_drop->zYx,length_filter_le->zYv,length_map->zXx,length_nil->zXw,length_set->zXZ,length_singleton->zYY,length_take->zQh,map_cons->zWq,map_map->zZK,mem_append->zWK,mem_cons->zXy,mem_map->zXh,mem_of_getElem?->zQY,mem_of_mem_drop->zXX,mem_of_mem_take->zWZ,mem_or_eq_of_mem_set->zXG,mem_singleton->zQq,nil_append->zQy,not_mem_nil->zZw,range'->zWz,range'_succ->zYw,range_eq_range'->zWk,replicate->zQg,tail->zYq,tail_drop->zXK,take_append_drop->zXj
open Nat renaming le_refl->zWj,le_trans->zWW,pow_le_pow_right->zWG,zero_add->zWJ
open Option renaming bind_some->wk,getD_some->zYZ
namespace Go.Tm.Pu
open Go.Tm
theorem Hw(s:Int):(fy s).length<=40:=by
 unfold fy
 split
 ·rw [zXx];exact zWW (zYv _ _) (by simp)
 ·simp
theorem QU{s:List ak}(hl:s.length<=1048576)(p:ak):c9 (decide ((s.length + [p].length)*40<=140737488355328))=some ():=bu (by simp; omega)
theorem Fi{u:Nat}(hu:1099511627776<=u){n:aK}(hn:M.NodWf n)(f t:Int):oM u n f t=some (fm n f t):=by
 have hp:=Hw (nL n.bf t n.bw.bj);unfold oM ry;simp only [eS u hn,BF hu hn.k,Av hu,wk];rw [Ce u _ _ _ _ _ _ _ u (by omega) (by omega),K0 (xs:=fy (nL n.bf t n.bw.bj)) (λi=>(gV n.aD n.bw i).2) (vO n f t) (λx i s k hx hi hs=>?_) (fy (nL n.bf t n.bw.bj)) 0 [] rfl (by simp)]
 ·unfold vq n9;rw [za hu hn.k]; rfl
 ·unfold vt i9;have w:=DD n.aD hn.b x;rw [AD hu hn.s hn.b];simp only [wk]
  cases (gV n.aD n.bw x).2 with
  | false=>rfl
  | true =>
   have e:c6 (fy (nL n.bf t n.bw.bj)) (i:Int)=some x:=by rw [cM]; exact hx
   simp only [cond_true,e,wk,vm u _ _ w.2,kg hu _ _ (zY _ _ w.1 w.2),QU (show s.length<=1048576 by omega)];rfl
theorem L5(n:aK)(f t:Int):(fm n f t).mL.length<=40:=by
 have hp:=Hw (nL n.bf t n.bw.bj);unfold fm;have:=zYv (λi=>(gV n.aD n.bw i).2) (fy (nL n.bf t n.bw.bj));simp only [zXx];omega
def jx(n:aK)(l:List bO):aK:=⟨n.gS,n.bM,n.bF,n.aD,n.bw,n.bi,l,n.br⟩
def BL(g:Int):fz:=⟨4,g,IG,0,0,0,[]⟩
def Fj(m:ag):fz:=⟨1,0,m,0,0,0,[]⟩
theorem B7(g:Int):M.MsgWf (BL g):=E8 _ _ _ _ _ jf (by simp)
theorem MV{m:ag}(hs:m.aC.length<=1048576)(hw:pP m):M.MsgWf (Fj m):=⟨hs,hw,jf,by simp [Fj]⟩
def ew(n:aK)(me f:Int)(m:fz):Act :=
 if f=me then ⟨n,[]⟩ else
 let l:=p8 n.bf f m.ck m.cq
 if n.bi=0 then ⟨jx n l,[kM me f (BL 0)]⟩
 else if m.aS=n.aD.aS then
  (let a:=fm (jx n l) me f; if a.mL.length=0 then ⟨a.fN,[kM me f (BL n.aD.aS)]⟩ else a)
 else ⟨jx n l,[kM me f (Fj n.aD)]⟩
theorem xL{n:aK}(hn:M.NodWf n){l:List bO}(hl:l.length<=1048577):M.NodWf (jx n l):=⟨hn.s,hn.b,hl,hn.w⟩
theorem NK(p:ak):c9 (decide (((([]:List ak)).length + [p].length)*40<=140737488355328))=some ():=bu (by simp)
theorem DE{u:Nat}(hu:1099511627776<=u){n:aK}(hn:M.NodWf n)(hk:n.bf.length<=1048576)(me f:Int)(m:fz):nB u n me f m=some (ew n me f m):=by
 unfold nB ew m4 m5;simp only [eS u hn,wk]
 by_cases h1:f=me
 ·simp only [h1,beq_self_eq_true,cond_true,if_true]
 ·have e1:(f == me)=false:=by simpa using h1
  have hl:=Ps n.bf f m.ck m.cq;simp only [e1,h1,cond_false,if_false,NH hu hk,wk]
  by_cases h2:n.bi=0
  ·simp only [h2,beq_self_eq_true,cond_true,if_true];rw [show (fz.mk 4 0 (ag.mk 0 0 0 []) 0 0 0 [])=BL 0 from rfl,kg hu me f (B7 0)];simp only [wk,NK,zQy,<- h2]; rfl
  ·have e2:(n.bi == 0)=false:=by simpa using h2
   simp only [e2,h2,cond_false,if_false]
   by_cases h3:m.aS=n.aD.aS
   ·simp only [h3,bne_self_eq_false,cond_false,if_true];rw [show (aK.mk n.gS n.bM n.bF n.aD n.bw n.bi (p8 n.bf f m.ck m.cq) n.br)=jx n (p8 n.bf f m.ck m.cq) from rfl,Fi hu (xL hn (by omega)) me f];simp only [wk]
    cases ha:fm (jx n (p8 n.bf f m.ck m.cq)) me f with
    | mk an ao =>
     cases ao with
     | nil =>
      rw [show (fz.mk 4 n.aD.aS (ag.mk 0 0 0 []) 0 0 0 [])=BL n.aD.aS from rfl,kg hu me f (B7 _)];simp only [wk,NK]; rfl
     | cons p ps =>
      have e3:(((p :: ps).length:Int) == 0)=false:=by simp; omega
      simp only [e3,cond_false]; simp
   ·have e3:(m.aS != n.aD.aS)=true:=by simpa using h3
    simp only [e3,h3,cond_true,if_false];rw [show (fz.mk 1 0 n.aD 0 0 0 [])=Fj n.aD from rfl,kg hu me f (MV hn.s hn.w)];simp only [wk,NK]; rfl
theorem UX{i:Int}(hi:eA i=true):vL .i64 0 (iT .i64 1 i)=iT .i64 1 i:=by
 have h:=bX hi;obtain ⟨n,rfl⟩:∃ n:Nat,i=n:=⟨i.toNat,by omega⟩;have hp:2 ^ n<=2 ^ 39:=zWG (by omega) (by omega);have e:=KU (a:=1) (n:=n) (by omega) (by omega);have e2:iT .i64 1 (n:Int)=((1*2 ^ n:Nat):Int):=e;rw [e2];have:=B0 (a:=0) (b:=1*2 ^ n) (by omega) (by omega)
 simpa using this
theorem L6{m:ag}{x:bD}{i:Int}(h:(gV m x i).2=true):eA i=true:=by
 unfold gV at h
 split at h
 ·rename_i h1;simp only [sY,dv] at h1;exact h1.2.1.2
 ·cases h
def eC(n:aK)(me i:Int)(s:List bO×List ak)(x:bO):List bO×List ak :=
 if dv (nL s.1 x.ov n.bw.bj) i then (nh s.1 x.ov (iT .i64 1 i),s.2++[vO n me x.ov i]) else s
def Fk(n:aK)(me i:Int):List bO×List ak:=n.bf.foldl (eC n me i) (n.bf,[])
def jh(n:aK)(me i:Int):Act:=if (gV n.aD n.bw i).2 then ⟨jx n (Fk n me i).1,(Fk n me i).2⟩ else ⟨n,[]⟩
theorem Hx(n:aK)(me i:Int)(s:List bO×List ak)(x:bO):(eC n me i s x).1.length=s.1.length/\(eC n me i s x).2.length<=s.2.length+1:=by
 unfold eC
 split
 ·exact ⟨Fc _ _ _,by simp⟩
 ·exact ⟨rfl,by omega⟩
theorem UY(n:aK)(me i:Int):∀ (l:List bO) (s:List bO×List ak),(l.foldl (eC n me i) s).1.length=s.1.length/\(l.foldl (eC n me i) s).2.length<=s.2.length+l.length:=by
 intro l
 induction l with
 | nil=>intro s; exact ⟨rfl,by simp⟩
 | cons x l ih =>
  intro s;have h:=ih (eC n me i s x);have g:=Hx n me i s x;simp only [zYH,zQW];omega
theorem QV{u:Nat}(hu:1099511627776<=u){n:aK}(hn:M.NodWf n)(me i:Int)(h:(gV n.aD n.bw i).2=true):∀ (l:List bO) (k j:Nat) (s:List bO×List ak),l=n.bf.drop j->l.length < k->s.1.length<=1048577->s.2.length<=j ->
  dY u k me i (gV n.aD n.bw i) (j:Int) n n s.1 s.2=some ⟨jx n (l.foldl (eC n me i) s).1,(l.foldl (eC n me i) s).2⟩:=by
 have w:=DD n.aD hn.b i;have pl:=L6 h;have hk:=hn.k;intro l
 induction l with
 | nil =>
  intro k j s hl hf h1 h2;obtain ⟨k,rfl⟩:∃ k',k=k'+1:=⟨k - 1,by simp at hf; omega⟩;have hj:n.bf.length<=j:=by
   have:=congrArg List.length hl; simp at this; omega
  have e:decide ((j:Int) < (n.bf.length:Int))=false:=by simp; omega
  simp only [dY,e,cond_false,kX,qZ];rfl
 | cons x l ih =>
  intro k j s hl hf h1 h2;obtain ⟨k,rfl⟩:∃ k',k=k'+1:=⟨k - 1,by simp at hf; omega⟩;have hx:n.bf[j]?=some x:=by
   have:=congrArg zYV hl
   simpa [zXW] using this.symm
  have hl2:l=n.bf.drop (j+1):=by
   have:=congrArg zYq hl
   simpa [zXK] using this
  have hj:=(List.getElem?_eq_some_iff.1 hx).1;have e:decide ((j:Int) < (n.bf.length:Int))=true:=by simp; omega
  have g:=Hx n me i s x;have r:=ih k (j+1) (eC n me i s x) hl2 (by simp at hf; omega) (by omega) (by omega);simp only [zYH,<- r];simp only [dY,e,cond_true,kX,h,q5,cM,hx,ry,wk,BF hu h1,jU];rw [mG (a:=j) (b:=1) (by omega) |> (λ(e:aQ .i64 (j:Int) ((1:Nat):Int)=_)=>show aQ .i64 (j:Int) 1=((j+1:Nat):Int) from e)]
  cases hs:dv (nL s.1 x.ov n.bw.bj) i with
  | false =>
   simp only [cond_false,eC,hs,zQz,if_false]
  | true =>
   simp only [cond_true,vm u _ _ w.2,wk,kg hu _ _ (zY _ _ w.1 w.2),QU (show s.2.length<=1048576 by omega),zf u (s:=0) rfl pl,UX pl,za hu h1];simp only [eC,hs,if_true];rfl
theorem II{u:Nat}(hu:1099511627776<=u){n:aK}(hn:M.NodWf n)(me i:Int):sB u n me i=some (jh n me i):=by
 unfold sB jh;simp only [eS u hn,AD hu hn.s hn.b,wk];have hk:=hn.k
 cases h:(gV n.aD n.bw i).2 with
 | true =>
  have:=QV hu hn me i h n.bf u 0 (n.bf,[]) rfl (by omega) hk (by simp);exact this
 | false =>
  obtain ⟨k,rfl⟩:∃ k,u=k+1:=⟨u - 1,by omega⟩;simp only [dY,kX,h,cond_false,qZ]
  cases decide ((0:Int) < (n.bf.length:Int)) <;> simp
structure M.DB (d:aA):Prop where
 a:aq d.fA
 b:aq d.fB
 p:∀ x∈d.fP,aq x.fB
theorem NL{l:List Int}(h:aq l)(n:Nat):aq (l.take n):=λx hx=>h x (zWZ hx)
theorem NM{d:aA}(h:M.DB d)(n:Int):aq (o7 d n):=by
 unfold o7; split
 ·exact h.a
 ·exact h.b
theorem CS{d:aA}(h:M.DB d):aq (n5 d).2/\(n5 d).2.length<=240:=by
 unfold n5
 split
 ·rename_i hd;have:=ML hd d.fR.ch;exact ⟨NL (NM h _) _,by simp only [zQh]; omega⟩
 ·exact ⟨jf,by simp⟩
theorem MW{b:List Int}(hb:aq b):M.MsgWf (fd b).1:=by
 unfold fd
 split
 ·rename_i h;simp only [sY] at h;have g:=dU hb (MP _ h.1);have p:=MQ hb (k:=(bH b 0).1) (a:=(bH b 0).2.1) (by simpa using g.2.2.2.2.2)
  cases hr:Dw b (bH b 0).1 (bH b 0).2.1 with
  | none=>exact E8 _ _ _ _ _ jf (by simp)
  | some x =>
   obtain ⟨m,e⟩:=x;have q:=p m e hr;dsimp only
   split
   ·exact q.1
   ·exact E8 _ _ _ _ _ jf (by simp)
 ·exact E8 _ _ _ _ _ jf (by simp)
def M.drop(n:aK):aK:=⟨n.gS,n.bM,n.bF,n.aD,n.bw,n.bi,n.bf,aQ .i64 n.br 1⟩
theorem vn(u:Nat){n:aK}(h:M.NodWf n):jE u n=some (M.drop n):=by
 unfold jE;rw [eS u h]; rfl
def n7(n:aK)(d:aA)(m:ag):aK :=
 if n.bi=0 then
  (if cV m && (m.aS != 0) then ⟨n.gS,n.bM,n.bF,m,jW m (n5 d).2,if ((n5 d).1 == m.aS) && M.tells m (n5 d).2 then 5 else 1,n.bf,n.br⟩ else n)
 else if vX n.aD m then n else M.drop n
theorem IJ{u:Nat}(hu:1099511627776<=u){n:aK}(hn:M.NodWf n){d:aA}(hd:M.DOk d)(hb:M.DB d){m:ag}(hm:m.aC.length<=1048576):sA u n d m=some (n7 n d m):=by
 obtain ⟨rb,rl⟩:=CS hb;unfold sA n7 qY qX qW;simp only [eS u hn,AA hu hn.s,vn u hn,fL hu m (show m.aC.length<=1073741824 by omega),ID hu hd,wR u hm,xK hu hm rb (show _<=1048576 by omega),CO hu m rb (show _<=1048576 by omega),wk]
 by_cases h:n.bi=0
 ·have e:(n.bi != 0)=false:=by simp [h]
  rw [if_pos h];simp only [e,cond_false];rw [show (m.aS != 0)=!(m.aS == 0) from rfl]
  cases cV m <;> cases (m.aS == 0) <;> cases ((n5 d).1 == m.aS) <;> cases M.tells m (n5 d).2 <;> rfl
 ·have e:(n.bi != 0)=true:=by simpa using h
  simp only [e,h,cond_true,if_false]
  cases vX n.aD m <;> rfl
def B8(n:aK)(x:bD):aK:=⟨n.gS,n.bM,n.bF,n.aD,x,n.bi,n.bf,n.br⟩
def kN(n:aK)(me:Int)(m:fz):Act :=
 if n.bi=0\/m.aS≠n.aD.aS then ⟨M.drop n,[]⟩
 else if dv n.bw.bj m.fI then ⟨n,[]⟩
 else if (ni n.aD n.bw m.fI m.fB).2 then jh (B8 n (ni n.aD n.bw m.fI m.fB).1) me m.fI
 else ⟨M.drop n,[]⟩
theorem UZ{m:ag}{x:bD}{i:Int}{b:List Int}(h:(tz m x i b).1=true):am i 0 ((m.aC.length:Int) - 1)=true/\(match m.aC[i.toNat]? with | some s=>decide (du b=s) | none=>false)=true:=by
 unfold tz at h;generalize hc:(am i 0 ((m.aC.length:Int) - 1) && !dv x.bj i && (match m.aC[i.toNat]? with | some s=>decide (du b=s) | none=>false))=c at h
 cases c with
 | false=>cases h
 | true=>simp only [sY] at hc; exact ⟨hc.1.1,hc.2⟩
theorem Hy{m:ag}{x:bD}(hx:M.BldWf x)(i:Int){b:List Int}(hb:aq b):M.BldWf (ni m x i b).1:=by
 unfold ni
 by_cases h:(ke m x && (tz m x i b).1)=true
 ·rw [if_pos h];simp only [sY] at h;obtain ⟨hbo,h2⟩:=h;obtain ⟨hm,hs⟩:=Ht hbo;have hl:=BH hbo;obtain ⟨h4,h6⟩:=UZ h2;have h7:=bX h4;obtain ⟨n,rfl⟩:∃ n:Nat,i=n:=⟨i.toNat,by omega⟩;rw [r0] at h6
  cases hg:m.aC[n]? with
  | none=>rw [hg] at h6; cases h6
  | some s =>
   rw [hg] at h6;have h8:=MT hb (of_decide_eq_true h6) (MU hm hg);obtain ⟨e1,e2,e3⟩:=Fe (b:=x.b4) hl n;obtain ⟨g1,g2⟩:=BI (x:=x.b4) (p:=b) (a:=M.at_ m n) (by omega) hx.b hb;exact ⟨g1,by show (JO _ _ _).length<=_; rw [g2]; exact hx.l⟩
 ·rw [if_neg h]; exact hx
theorem K7{n:aK}(hn:M.NodWf n){x:bD}(hx:M.BldWf x):M.NodWf (B8 n x):=⟨hn.s,hx,hn.k,hn.w⟩
theorem GU{u:Nat}(hu:1099511627776<=u){n:aK}(hn:M.NodWf n)(me:Int){m:fz}(hm:M.MsgWf m):qs u n me m=some (kN n me m):=by
 unfold qs kN pB;simp only [eS u hn,vn u hn,jU,GO hu hn.s hn.b m.fI hm.b hm.len,wk];rw [show (aK.mk n.gS n.bM n.bF n.aD (ni n.aD n.bw m.fI m.fB).1 n.bi n.bf n.br)=B8 n (ni n.aD n.bw m.fI m.fB).1 from rfl,II hu (K7 hn (Hy hn.b m.fI hm.b)) me m.fI];simp only [wk]
 by_cases h1:n.bi=0
 ·simp [h1]
 ·by_cases h2:m.aS=n.aD.aS
  ·have e:(n.bi == 0)=false:=by simpa using h1
   simp only [h1,h2,e,cond_false,bne_self_eq_false,ne_eq,not_true_eq_false,or_self,if_false]
   cases dv n.bw.bj m.fI <;> cases (ni n.aD n.bw m.fI m.fB).2 <;> rfl
  ·have e:(n.bi == 0)=false:=by simpa using h1
   have e2:(m.aS != n.aD.aS)=true:=by simpa using h2
   simp [h1,h2,e,e2]
def DF(n:aK):aK:=⟨n.gS,n.bM,0,n.aD,n.bw,n.bi,n.bf,n.br⟩
theorem B9{n:aK}(hn:M.NodWf n):M.NodWf (DF n):=⟨hn.s,hn.b,hn.k,hn.w⟩
def jy(n:aK)(me:Int)(d:aA)(m:fz):Act :=
 if m.bK=1 then ⟨n7 (DF n) d m.aD,[]⟩
 else if m.bK=3 then kN (DF n) me m
 else if m.bK=2 then ⟨M.drop (DF n),[]⟩
 else ⟨DF n,[]⟩
theorem VW{α:Type}(k:Int)(a b c e:α):(bif k == 1 then a else (bif k == 3 then b else (bif k == 2 then c else e)))=if k=1 then a else if k=3 then b else if k=2 then c else e:=by
 by_cases h1:k=1
 ·subst h1; rfl
 ·by_cases h2:k=3
  ·subst h2; rfl
  ·by_cases h3:k=2
   ·subst h3; rfl
   ·have e1:(k == 1)=false:=by simpa using h1
    have e2:(k == 3)=false:=by simpa using h2
    have e3:(k == 2)=false:=by simpa using h3
    simp [h1,h2,h3,e1,e2,e3]
theorem T4{α:Type}(p q r:Prop)[Decidable p][Decidable q][Decidable r](a b c e:α):(if p then some a else if q then some b else if r then some c else some e)=some (if p then a else if q then b else if r then c else e):=by
 by_cases hp:p <;> by_cases hq:q <;> by_cases hr:r <;> simp [hp,hq,hr]
theorem GV{u:Nat}(hu:1099511627776<=u){n:aK}(hn:M.NodWf n)(me:Int){d:aA}(hd:M.DOk d)(hb:M.DB d){m:fz}(hm:M.MsgWf m):qt u n me d m=some (jy n me d m):=by
 unfold qt jy ms;simp only [eS u hn,wk];rw [show (aK.mk n.gS n.bM 0 n.aD n.bw n.bi n.bf n.br)=DF n from rfl,IJ hu (B9 hn) hd hb hm.sums,GU hu (B9 hn) me hm,VW];exact T4 _ _ _ _ _ _ _
def M.take(t:cF)(me:Int)(n:aK)(d:aA)(p:ak):Act :=
 if !n.gS then ⟨n,[]⟩
 else if (fd p.fB).2 && am p.cm 0 ((t.cf.length:Int) - 1) && (p.cm != me) then
  (if (fd p.fB).1.bK=2 then ew n me p.cm (fd p.fB).1
   else if p.cm=n.bM then jy n me d (fd p.fB).1 else ⟨M.drop n,[]⟩)
 else ⟨M.drop n,[]⟩
theorem NN{u:Nat}(hu:1099511627776<=u){t:cF}(ht:t.cf.length<=1048576)(me:Int){n:aK}(hn:M.NodWf n)(hk:n.bf.length<=1048576){d:aA}(hd:M.DOk d)(hb:M.DB d){p:ak}(hp:aq p.fB)(hl:p.fB.length<=1048576):yw u t me n d p=some (M.take t me n d p):=by
 have w:=MW hp;have eb:dM .i64 ((t.cf.length:Int)) 1=(t.cf.length:Int) - 1:=cU (by omega) (by omega);unfold yw M.take sC;simp only [eS u hn,vn u hn,wO hu hp hl,bC,eb,DE hu hn hk,GV hu hn me hd hb w,wk]
 by_cases h1:(fd p.fB).1.bK=2
 ·simp only [h1,beq_self_eq_true,cond_true,if_true];rw [show (p.cm != me)=!(p.cm == me) from rfl]
  cases n.gS <;> cases (fd p.fB).2 <;> cases am p.cm 0 ((t.cf.length:Int) - 1) <;> cases (p.cm == me) <;> rfl
 ·have e1:((fd p.fB).1.bK == 2)=false:=by simpa using h1
  simp only [e1,h1,cond_false,if_false];rw [show (p.cm != me)=!(p.cm == me) from rfl]
  by_cases h2:p.cm=n.bM
  ·have e2:(p.cm == n.bM)=true:=by simpa using h2
   simp only [e2,cond_true,if_pos h2]
   cases n.gS <;> cases (fd p.fB).2 <;> cases am p.cm 0 ((t.cf.length:Int) - 1) <;> cases (p.cm == me) <;> rfl
  ·have e2:(p.cm == n.bM)=false:=by simpa using h2
   simp only [e2,cond_false,if_neg h2]
   cases n.gS <;> cases (fd p.fB).2 <;> cases am p.cm 0 ((t.cf.length:Int) - 1) <;> cases (p.cm == me) <;> rfl
def zg:List Int->Int->Int->Int
 | [],_,a=>a
 | y :: ys,n,a=>if n < 1 then a else zg ys (dM .i64 n 1) (vL .i64 a (iT .i64 1 y))
def GW(s n:Int):Int:=zg (fy s) n 0
theorem QW(s:Int):fy s=((zWz 0 40).filter λ(i:Nat)=>dv s (i:Int)).map λ(i:Nat)=>(i:Int):=by
 unfold fy;rw [<- zWk]
 cases h:ct s with
 | false=>simp [dv,h]
 | true =>
  simp only [if_true]
  congr 1
  apply List.filter_congr
  intro i hi;have hi:i < 40:=by simpa using hi
  have:eA (i:Int)=true:=by simp [eA,am]; omega
  simp [dv,h,this]
theorem SJ:∀ (l:List Int) (n a:Int),n < 1->zg l n a=a:=by
 intro l n a h
 cases l with
 | nil=>rfl
 | cons y ys=>simp only [zg,h,if_true]
theorem NO(u:Nat)(s:Int):∀ (m i f:Nat) (n a:Int),i+m=40->m < f ->
  eN u f s n a (i:Int)=some (zg (((zWz i m).filter λ(i:Nat)=>dv s (i:Int)).map λ(i:Nat)=>(i:Int)) n a):=by
 intro m
 induction m with
 | zero =>
  intro i f n a h hf;obtain ⟨f,rfl⟩:∃ f',f=f'+1:=⟨f - 1,by omega⟩;have e:decide ((i:Int) < 40)=false:=by simp; omega
  simp only [eN,e,cond_false,nA,qR]; rfl
 | succ m ih =>
  intro i f n a h hf;obtain ⟨f,rfl⟩:∃ f',f=f'+1:=⟨f - 1,by omega⟩;have e:decide ((i:Int) < 40)=true:=by simp; omega
  have hi:c9 (decide ((0:Int)<=(i:Int)))=some ():=bu (by omega);have hb:aQ .i64 (i:Int) 1=((i+1:Nat):Int):=mG (a:=i) (b:=1) (by omega);simp only [eN,e,cond_true,nA,qS,qR,jU,wk,hi,hb]
  by_cases hn:n > 0
  ·have hn2:¬ n < 1:=by omega
   simp only [hn,decide_true,cond_true];rw [zYw,zZZ]
   cases hs:dv s (i:Int) with
   | true =>
    simp only [cond_true,if_true,zWq,zg,hn2,if_false];exact ih (i+1) f _ _ (by omega) (by omega)
   | false =>
    simp only [cond_false,zQz,if_false];exact ih (i+1) f _ _ (by omega) (by omega)
  ·simp only [hn,decide_false,cond_false];rw [SJ _ _ _ (by omega)]
theorem IK{u:Nat}(hu:1099511627776<=u)(s n:Int):sm u s n=some (GW s n):=by
 unfold sm GW;rw [QW];exact NO u s 40 0 u n 0 rfl (by omega)
def K8(n:aK):Int:=if n.bi=0 then 0 else B5 n.aD n.bw
theorem K9{u:Nat}(hu:1099511627776<=u){n:aK}(hn:M.NodWf n):uv u n=some (K8 n):=by
 unfold uv K8;rw [AC u]
 by_cases h:n.bi=0
 ·simp [h]
 ·have e:(n.bi == 0)=false:=by simpa using h
  simp [h,e]
def Py(n:aK)(w:Int):Int:=GW (K8 n) w
theorem La{u:Nat}(hu:1099511627776<=u){n:aK}(hn:M.NodWf n)(w:Int):uw u n w=some (Py n w):=by
 unfold uw;simp only [K9 hu hn,IK hu,wk]; rfl
def DG(s i:Int):Int:=if ct s && eA i then vL .i64 s (iT .i64 1 i) else s
theorem IL(u:Nat)(s i:Int):d8 u s i=some (DG s i):=by
 unfold d8 jX DG;simp only [eR,bC,wk]
 cases ct s with
 | false=>rfl
 | true =>
  cases h:eA i with
  | false=>rw [show am i 0 39=false from h]; rfl
  | true =>
   have:=bX h;rw [show am i 0 39=true from h,bu (by omega)]; rfl
def GX(n:aK)(k:Int):Int:=if n.bi=5 then DG (B1 n.bf 0) k else B1 n.bf 0
theorem IM{u:Nat}(hu:1099511627776<=u){n:aK}(hk:n.bf.length<=1048576)(k:Int):sn u n k=some (GX n k):=by
 unfold sn qT GX;simp only [KK hu hk,IL,wk]
 by_cases h:n.bi=5
 ·simp [h]
 ·have e:(n.bi == 5)=false:=by simpa using h
  simp [h,e]
def GY(g w d:Int):fz:=⟨2,g,IG,w,d,0,[]⟩
theorem DH(g w d:Int):M.MsgWf (GY g w d):=E8 _ _ _ _ _ jf (by simp)
def t5(c:ia)(n:aK)(d:aA)(b q:Int):aK:=⟨n.gS,b,q,n.aD,n.bw,(iH d n.aD n.bw n.bi).2,kK n.bf c.a9,n.br⟩
def wS(c:ia)(k:Int)(n:aK)(d:aA)(b q:Int):FB :=
 ⟨t5 c n d b q,(iH d n.aD n.bw n.bi).1,[kM k b (GY n.aD.aS (Py (t5 c n d b q) c.bd) (GX (t5 c n d b q) k))]⟩
def M.tick(t:cF)(c:ia)(k:Int)(n:aK)(d:aA):FB :=
 if !n.gS then ⟨n,d,[]⟩
 else if k=0 then ⟨jx n (kK n.bf c.a9),d,[]⟩
 else if c.aT<=n.bF then wS c k n d (wQ t k n.bM) 0
 else wS c k n d n.bM (aQ .i64 n.bF 1)
theorem DI(l:List bO)(f:Int):(kK l f).length<=l.length:=by
 unfold kK;rw [zXx];exact zYv _ _
theorem Hz{n:aK}(hn:M.NodWf n)(c:ia)(d:aA)(b q:Int):M.NodWf (t5 c n d b q):=⟨hn.s,hn.b,zWW (DI _ _) hn.k,hn.w⟩
theorem IN{u:Nat}(hu:1099511627776<=u){c:ia}{k:Int}{n:aK}(hn:M.NodWf n)(hk:n.bf.length<=1048576){d:aA}(hd:M.DOk d)(hl:d.fP.length<=1048575)(b q:Int):so u k c d n b q (kK n.bf c.a9) d=some (wS c k n d b q):=by
 unfold so wS;have ha:=DI n.bf c.a9;rw [DC hu hd hl hn.s hn.b,wk];rw [show (aK.mk n.gS b q n.aD n.bw (iH d n.aD n.bw n.bi).2 (kK n.bf c.a9) n.br)=t5 c n d b q from rfl];rw [La hu (Hz hn c d b q),wk,IM hu (show (t5 c n d b q).bf.length<=1048576 from zWW ha hk),wk];unfold rY;rw [wk,show (∀ w x,fz.mk 2 n.aD.aS (ag.mk 0 0 0 []) w x 0 []=GY n.aD.aS w x) from λ_ _=>rfl,kg hu _ _ (DH _ _ _),wk,NK];rfl
theorem NP{u:Nat}(hu:1099511627776<=u){t:cF}(ht:t.cf.length<=1048576)(c:ia)(k:Int){n:aK}(hn:M.NodWf n)(hk:n.bf.length<=1048576){d:aA}(hd:M.DOk d)(hl:d.fP.length<=1048575):yu u t c k n d=some (M.tick t c k n d):=by
 unfold yu M.tick;simp only [eS u hn,fM hu hd,K1 hu hk,GM hu ht,wk,IN hu hn hk hd hl];rw [show (aK.mk n.gS n.bM n.bF n.aD n.bw n.bi (kK n.bf c.a9) n.br)=jx n (kK n.bf c.a9) from rfl]
 cases n.gS with
 | false=>rfl
 | true =>
  by_cases h:k=0
  ·subst h; rfl
  ·have e:(k == 0)=false:=by simpa using h
   by_cases h2:c.aT<=n.bF
   ·have e2:decide (n.bF>=c.aT)=true:=by simpa using h2
    simp [h,e,e2,h2]
   ·have e2:decide (n.bF>=c.aT)=false:=by simp; omega
    simp [h,e,e2,h2]
theorem DJ(m:fz):(iY m).length<=1000:=by
 unfold iY
 split
 ·rename_i hok;have k:=bN [] m.bK;have g:=bN (aZ [] m.bK) m.aS;have l:=bN (gU m) (cr (gU m));simp only [zXw] at k
  suffices h:(gU m).length<=600 by omega
  unfold gU uM
  split
  ·have:=CN (aZ [] m.bK) m.aD; omega
  ·rename_i n1
   split
   ·have h1:=bN (aZ (aZ [] m.bK) m.aS) (gE .i64 m.ck 1048575);have h2:=bN (aZ (aZ (aZ [] m.bK) m.aS) (gE .i64 m.ck 1048575)) (rJ .i64 m.ck 20);have h3:=bN (aZ (aZ (aZ (aZ [] m.bK) m.aS) (gE .i64 m.ck 1048575)) (rJ .i64 m.ck 20)) (gE .i64 m.cq 1048575);have h4:=bN (aZ (aZ (aZ (aZ (aZ [] m.bK) m.aS) (gE .i64 m.ck 1048575)) (rJ .i64 m.ck 20)) (gE .i64 m.cq 1048575)) (rJ .i64 m.cq 20);omega
   ·rename_i n2
    split
    ·rename_i n3;have h1:=bN (aZ (aZ [] m.bK) m.aS) m.fI;have h2:=bN (aZ (aZ (aZ [] m.bK) m.aS) m.fI) m.fB.length;have h3:m.fB.length<=6:=by
      unfold tv at hok;simp only [n1,n2,n3] at hok;have h4:am m.fB.length 1 6=true:=by
       revert hok
       cases am (m.fB.length:Int) 1 6 <;> simp
      have:=bX h4;omega
     rw [zQw]; omega
    ·split <;> omega
 ·simp
def yg(p:ak):Prop:=aq p.fB/\p.fB.length<=1048576
theorem HA(f t:Int){m:fz}(hm:M.MsgWf m):yg (kM f t m):=⟨E9 hm,by have:=DJ m; show (iY m).length<=_; omega⟩
def cP(s:List ak×List cg×Int)(p:ak):List ak×List cg×Int :=
 if 400<=s.1.length then (s.1,s.2.1,aQ .i64 s.2.2 1)
 else (s.1++[p],if (fd p.fB).2 && ((fd p.fB).1.bK == 3) && decide (s.2.1.length < 3000) then s.2.1++[⟨p.cm,p.mK,(fd p.fB).1.fI⟩] else s.2.1,s.2.2)
def Lb(w:World)(out:List ak):World :=
 ⟨w.fC,w.fT,w.b5,w.bS,w.fN,w.fD,(out.foldl cP (w.bE,w.bq,w.bB)).1,(out.foldl cP (w.bE,w.bq,w.bB)).2.1,(out.foldl cP (w.bE,w.bq,w.bB)).2.2⟩
theorem Pz{u:Nat}(hu:1099511627776<=u)(w:World)(out:List ak)(ho:∀ p∈out,yg p)(hl:out.length<=1048576):∀ (l:List ak) (k j:Nat) (s:List ak×List cg×Int),l=out.drop j->l.length < k ->
  cz u k out (j:Int) w s.1 s.2.1 s.2.2=some ⟨w.fC,w.fT,w.b5,w.bS,w.fN,w.fD,(l.foldl cP s).1,(l.foldl cP s).2.1,(l.foldl cP s).2.2⟩:=by
 intro l
 induction l with
 | nil =>
  intro k j s h hf;obtain ⟨k,rfl⟩:∃ k',k=k'+1:=⟨k - 1,by simp at hf; omega⟩;have hj:out.length<=j:=by
   have:=congrArg List.length h; simp at this; omega
  have e:decide ((j:Int) < (out.length:Int))=false:=by simp; omega
  simp only [cz,e,cond_false];rfl
 | cons x l ih =>
  intro k j s h hf;obtain ⟨k,rfl⟩:∃ k',k=k'+1:=⟨k - 1,by simp at hf; omega⟩;have hx:out[j]?=some x:=by
   have:=congrArg zYV h
   simpa [zXW] using this.symm
  have hl2:l=out.drop (j+1):=by
   have:=congrArg zYq h
   simpa [zXK] using this
  have hj:=(List.getElem?_eq_some_iff.1 hx).1;have e:decide ((j:Int) < (out.length:Int))=true:=by simp; omega
  have hb:aQ .i64 (j:Int) 1=((j+1:Nat):Int):=mG (a:=j) (b:=1) (by omega);have px:=ho x (zQY hx);have r:=ih k (j+1) (cP s x) hl2 (by simp at hf; omega);simp only [zYH,<- r];simp only [cz,e,cond_true,cM,hx,wk,Fd px.2,wO hu px.1 px.2,eO,fX,hb]
  by_cases h4:400<=s.1.length
  ·have e4:decide (((s.1.length:Int))>=400)=true:=by simp; omega
   simp only [e4,cond_true,cP,h4,if_true]
  ·have e4:decide (((s.1.length:Int))>=400)=false:=by simp; omega
   simp only [e4,cond_false,QU (show s.1.length<=1048576 by omega),wk,cP,h4,if_false,zQy]
   cases h5:(fd x.fB).2 with
   | false=>simp
   | true =>
    cases h6:((fd x.fB).1.bK == 3) with
    | false=>simp
    | true =>
     by_cases h7:s.2.1.length < 3000
     ·have e7:decide ((s.2.1.length:Int) < 3000)=true:=by simp; omega
      have e8:c9 (decide ((s.2.1.length + [cg.mk x.cm x.mK (fd x.fB).1.fI].length)*24<=140737488355328))=some ():=bu (by simp; omega);simp only [e7,e8,h7,cond_true,wk,decide_true,zYW,if_true]
     ·have e7:decide ((s.2.1.length:Int) < 3000)=false:=by simp; omega
      simp [e7,h7]
theorem AE{u:Nat}(hu:1099511627776<=u)(w:World){out:List ak}(ho:∀ p∈out,yg p)(hl:out.length<=1048576):pw u w out=some (Lb w out) :=
 Pz hu w out ho hl out u 0 (w.bE,w.bq,w.bB) rfl (by omega)
theorem MX{b p:List Int}(hb:aq b)(hp:aq p)(a:Nat):aq (Hn b a p):=by
 unfold Hn;have hx:aq (b++zQg (a+p.length - b.length) 0):=xG hb (λx hx=>by have:=List.eq_of_mem_replicate hx; omega);exact (BI (by simp; omega) hx hp).1
theorem MY{d:aA}(hd:M.DB d){p:dA}(hp:aq p.fB):M.DB (ii d p):=⟨hd.a,hd.b,λx hx=>by
 simp only [ii,zWK,zQq] at hx;rcases hx with hx | rfl
 ·exact hd.p x hx
 ·exact hp⟩
theorem PA{d:aA}(hd:M.DB d)(s a:Int){b:List Int}(hb:aq b):M.DB (kL d s a b).1:=by
 rcases Hu d s a b with ⟨h1,_⟩ | h1
 ·rw [h1]; exact MY hd hb
 ·rw [h1]; exact hd
theorem Fl{d0:aA}(h0:M.DB d0){b:List Int}(hb:aq b){size:Int}:∀ (n i:Nat) (d:aA),M.DB d->M.DB (lK d0 b size n i d).1
 | 0,i,d,hd=>hd
 | n+1,i,d,hd=>by
  unfold lK
  split
  ·exact Fl h0 hb n (i+1) _ (PA hd _ _ (qG hb size i).1)
  ·exact h0
theorem MZ{d:aA}(hd:M.DB d){p:dA}(hp:aq p.fB):M.DB (uK d p):=by
 unfold uK
 split
 ·exact ⟨hd.a,hd.b,hd.p⟩
 ·split
  ·exact ⟨MX hd.a hp _,hd.b,hd.p⟩
  ·exact ⟨hd.a,MX hd.b hp _,hd.p⟩
theorem RL:∀ (l:List dA) (d:aA),(∀ p∈l,aq p.fB)->M.DB d->M.DB (zT l d)
 | [],d,_,hd=>⟨hd.a,hd.b,by simp [zT]⟩
 | p :: l,d,hp,hd=>RL l _ (λq hq=>hp q (by simp [hq])) (MZ hd (hp p (by simp)))
theorem RM{d:aA}(hd:M.DB d):M.DB (vh d):=by
 unfold vh
 split
 ·exact RL _ _ hd.p hd
 ·exact hd
theorem L7{d:aA}(hd:M.DB d){m:ag}{x:bD}(hx:M.BldWf x)(ph:Int):M.DB (iH d m x ph).1:=by
 have hst:M.DB (nj d x.b4 m.aw).1:=by
  unfold nj
  split
  ·exact Fl hd hx.b _ _ _ hd
  ·exact hd
 have hr:M.DB (lJ d ⟨m.aS,pR d,m.aY⟩).1:=by
  unfold lJ;rcases QS d ⟨2,0,[],⟨m.aS,pR d,m.aY⟩⟩ with ⟨h1,h2⟩ | h1
  ·rw [h1]; exact MY hd jf
  ·rw [h1]; exact hd
 unfold iH
 split
 ·split
  ·exact hst
  ·exact hd
 ·split
  ·exact RM hd
  ·split
   ·split
    ·exact hr
    ·exact hd
   ·split
    ·exact RM hd
    ·exact hd
structure M.ActWf (n:aK) (out:List ak):Prop where
 n:M.NodWf n
 o:∀ p∈out,yg p
 l:out.length<=1048576
theorem GZ{n:aK}(hn:M.NodWf n):M.ActWf n []:=⟨hn,λp hp=>by simp at hp,by simp⟩
theorem U0{n:aK}(hn:M.NodWf n)(f t:Int){m:fz}(hm:M.MsgWf m):M.ActWf n [kM f t m]:=⟨hn,λp hp=>by
 simp only [zQq] at hp;rw [hp]; exact HA f t hm,by simp⟩
theorem CT{n:aK}(hn:M.NodWf n)(f t i:Int):yg (vO n f t i):=by
 have w:=DD n.aD hn.b i;exact HA f t (zY _ _ w.1 w.2)
theorem Ca{n:aK}(hn:M.NodWf n):M.NodWf (M.drop n):=⟨hn.s,hn.b,hn.k,hn.w⟩
theorem NQ{n:aK}(hn:M.NodWf n)(f t:Int):M.ActWf (fm n f t).fN (fm n f t).mL:=by
 refine ⟨⟨hn.s,hn.b,?_,hn.w⟩,λp hp=>?_,zWW (L5 n f t) (by omega)⟩
 ·show (nh _ _ _).length<=_;rw [Fc]; exact hn.k
 ·unfold fm at hp;simp only [zXh] at hp;obtain ⟨i,_,rfl⟩:=hp;exact CT hn f t i
theorem L8{n:aK}(hn:M.NodWf n)(hk:n.bf.length<=1048576)(me f:Int)(m:fz):M.ActWf (ew n me f m).fN (ew n me f m).mL:=by
 have hl:=Ps n.bf f m.ck m.cq;have hw:M.NodWf (jx n (p8 n.bf f m.ck m.cq)):=xL hn (by omega);have hs:=NQ hw me f;unfold ew
 split
 ·exact GZ hn
 ·split
  ·exact U0 hw _ _ (B7 0)
  ·split
   ·dsimp only
    split
    ·exact U0 hs.n _ _ (B7 _)
    ·exact hs
   ·exact U0 hw _ _ (MV hn.s hn.w)
theorem U1{n:aK}(hn:M.NodWf n)(me i:Int):∀ (l:List bO) (s:List bO×List ak),(∀ p∈s.2,yg p)->∀ p∈(l.foldl (eC n me i) s).2,yg p:=by
 intro l
 induction l with
 | nil=>intro s h; exact h
 | cons x l ih =>
  intro s h;refine ih _ λp hp=>?_;unfold eC at hp
  split at hp
  ·simp only [zWK,zQq] at hp;rcases hp with hp | rfl
   ·exact h p hp
   ·exact CT hn _ _ _
  ·exact h p hp
theorem QX{n:aK}(hn:M.NodWf n)(hk:n.bf.length<=1048576)(me i:Int):M.ActWf (jh n me i).fN (jh n me i).mL:=by
 have h:=UY n me i n.bf (n.bf,[]);unfold jh
 split
 ·refine ⟨xL hn ?_,U1 hn me i _ _ (λp hp=>by simp at hp),?_⟩
  ·have:=h.1; unfold Fk; dsimp only at this ⊢; omega
  ·have:=h.2; unfold Fk; simp only [zXw] at this; dsimp only; omega
 ·exact GZ hn
theorem QY{n:aK}(hn:M.NodWf n){d:aA}(hb:M.DB d){m:ag}(hs:m.aC.length<=1048576)(hw:pP m):M.NodWf (n7 n d m):=by
 obtain ⟨rb,rl⟩:=CS hb;unfold n7
 split
 ·split
  ·rename_i h;simp only [sY] at h;exact ⟨hs,(BJ h.1 rb (by omega)).b,hn.k,hw⟩
  ·exact hn
 ·split
  ·exact hn
  ·exact Ca hn
theorem PB{n:aK}(hn:M.NodWf n)(hk:n.bf.length<=1048576)(me:Int){m:fz}(hm:M.MsgWf m):M.ActWf (kN n me m).fN (kN n me m).mL:=by
 unfold kN
 split
 ·exact GZ (Ca hn)
 ·split
  ·exact GZ hn
  ·split
   ·exact QX (K7 hn (Hy hn.b m.fI hm.b)) hk me m.fI
   ·exact GZ (Ca hn)
theorem PC{n:aK}(hn:M.NodWf n)(hk:n.bf.length<=1048576)(me:Int){d:aA}(hb:M.DB d){m:fz}(hm:M.MsgWf m):M.ActWf (jy n me d m).fN (jy n me d m).mL:=by
 unfold jy
 split
 ·exact GZ (QY (B9 hn) hb hm.sums hm.wf)
 ·split
  ·exact PB (B9 hn) hk me hm
  ·split
   ·exact GZ (Ca (B9 hn))
   ·exact GZ (B9 hn)
theorem U2(t:cF)(me:Int){n:aK}(hn:M.NodWf n)(hk:n.bf.length<=1048576){d:aA}(hb:M.DB d){p:ak}(hp:aq p.fB):M.ActWf (M.take t me n d p).fN (M.take t me n d p).mL:=by
 have w:=MW hp;unfold M.take
 split
 ·exact GZ hn
 ·split
  ·split
   ·exact L8 hn hk me _ _
   ·split
    ·exact PC hn hk me hb w
    ·exact GZ (Ca hn)
  ·exact GZ (Ca hn)
structure M.BeatWf (b:FB):Prop where
 a:M.ActWf b.fN b.mL
 d:M.DOk b.fD
 l:b.fD.fP.length<=200
 b:M.DB b.fD
theorem HB(c:ia)(k:Int){n:aK}(hn:M.NodWf n){d:aA}(hd:M.DOk d)(hl:d.fP.length<=200)(hb:M.DB d)(b q:Int):M.BeatWf (wS c k n d b q):=by
 have h:=K6 hd hl (m:=n.aD) hn.b n.bi;exact ⟨U0 (Hz hn c d b q) _ _ (DH _ _ _),h.1,h.2,L7 hb hn.b _⟩
theorem U3(t:cF)(c:ia)(k:Int){n:aK}(hn:M.NodWf n){d:aA}(hd:M.DOk d)(hl:d.fP.length<=200)(hb:M.DB d):M.BeatWf (M.tick t c k n d):=by
 unfold M.tick
 split
 ·exact ⟨GZ hn,hd,hl,hb⟩
 ·split
  ·exact ⟨GZ (xL hn (zWW (DI _ _) hn.k)),hd,hl,hb⟩
  ·split
   ·exact HB c k hn hd hl hb _ _
   ·exact HB c k hn hd hl hb _ _
def dp(l:List bO):List Int:=l.map λx=>x.ov
structure M.IdsOk (s:List Int):Prop where
 r:∀ x∈s,0<=x/\x<=6
 p:s.Pairwise (· < ·)
def nm(l:List bO):Prop:=M.IdsOk (dp l)
theorem T5:∀ (s:List Int) (a:Int),a<=7->(∀ x∈s,a<=x/\x<=6)->s.Pairwise (· < ·)->(s.length:Int)<=7 - a
 | [],a,ha,_,_=>by simp; omega
 | x :: s,a,ha,h,p=>by
  rw [List.pairwise_cons] at p;have hx:=h x (by simp);have:=T5 s (x+1) (by omega) (λy hy=>⟨by have:=p.1 y hy; omega,(h y (by simp [hy])).2⟩) p.2;simp only [zQW];omega
theorem SK{l:List bO}(h:nm l):l.length<=7:=by
 have:=T5 (dp l) 0 (by omega) h.r h.p;simp only [dp,zXx] at this;omega
theorem NR{l:List bO}{j:Nat}{x y:bO}(h:l[j]?=some x)(hi:y.ov=x.ov):dp (l.set j y)=dp l:=by
 unfold dp
 apply List.ext_getElem?
 intro i;simp only [zQX,zXz]
 by_cases e:j=i
 ·subst e;obtain ⟨hj,hx⟩:=List.getElem?_eq_some_iff.1 h;simp [hj,hx,hi]
 ·simp [e]
theorem Fm(l:List bO)(id s:Int):dp (nh l id s)=dp l:=by
 unfold nh;rcases rI l id with ⟨h1,_⟩ | ⟨j,x,h1,h2,_⟩
 ·rw [h1]; rfl
 ·rw [h1];simp only [cM,h2,r0]
  split
  ·exact NR h2 rfl
  ·rfl
theorem NS{l:List bO}(h:nm l)(f:Int):nm (kK l f):=by
 have e:dp (kK l f)=dp (l.filter λx=>decide (x.wW < f)):=by
  unfold dp kK;rw [zZK]; rfl
 have sub:(dp (l.filter λx=>decide (x.wW < f))).Sublist (dp l):=List.Sublist.map _ List.filter_sublist;unfold nm;rw [e];exact ⟨λx hx=>h.r x (sub.subset hx),h.p.sublist sub⟩
theorem HC{α:Type}(f:α->Bool):∀ (l:List α) (i j:Nat),eB f l i=((i+j:Nat):Int)->∀ x∈l.take j,f x=false
 | [],i,j,_=>by simp
 | y :: l,i,0,_=>by simp
 | y :: l,i,j+1,h=>by
  unfold eB at h
  split at h
  ·omega
  ·rename_i hy;intro x hx;simp only [List.take_succ_cons,zXy] at hx;rcases hx with rfl | hx
   ·simpa using hy
   ·exact HC f l (i+1) j (by rw [h]; congr 1; omega) x hx
theorem Lc{l:List bO}(h:nm l){k:Nat}{y:bO}(hy:0<=y.ov/\y.ov<=6)(h1:∀ x∈l.take k,x.ov < y.ov)(h2:∀ x∈l.drop k,y.ov < x.ov):nm (l.take k++[y]++l.drop k):=by
 have e:dp l=dp (l.take k)++dp (l.drop k):=by unfold dp; rw [<- List.map_append,zXj]
 have hp:=h.p;rw [e,List.pairwise_append] at hp;have e2:dp (l.take k++[y]++l.drop k)=dp (l.take k)++([y.ov]++dp (l.drop k)):=by unfold dp; simp
 unfold nm;rw [e2];constructor
 ·intro z hz;simp only [zWK,zQq] at hz;rcases hz with hz | rfl | hz
  ·exact h.r z (by rw [e]; simp [hz])
  ·exact hy
  ·exact h.r z (by rw [e]; simp [hz])
 ·rw [List.pairwise_append];refine ⟨hp.1,?_,?_⟩
  ·rw [List.singleton_append,List.pairwise_cons];refine ⟨λz hz=>?_,hp.2.1⟩;unfold dp at hz;rw [zXh] at hz;obtain ⟨x,hx,rfl⟩:=hz;exact h2 x hx
  ·intro a ha b hb;simp only [zWK,zQq] at hb;rcases hb with rfl | hb
   ·unfold dp at ha;rw [zXh] at ha;obtain ⟨x,hx,rfl⟩:=ha;exact h1 x hx
   ·exact hp.2.2 a ha b hb
theorem QZ{l:List bO}(h:nm l)(id w d:Int):nm (p8 l id w d):=by
 unfold p8
 split
 ·rename_i hc;simp only [sY] at hc;have hid:=bX hc.1.1;rcases rI l id with ⟨h1,hno⟩ | ⟨j,x,h1,h2,_⟩
  ·rw [h1];have e:c6 l (-1)=none:=by unfold c6; simp
   rw [e];dsimp only;unfold uN;rcases uk (λ(x:bO)=>decide (x.ov > id)) l 0 with ⟨g1,g2⟩ | ⟨j,x,g1,g2,g3⟩
   ·rw [g1,if_pos (by omega)];refine Lc h hid (λx hx=>?_) (λx hx=>by simp at hx);have hx:=zWZ hx;have a:=g2 x hx;have b:=hno x hx;simp only [decide_eq_false_iff_not] at a;show x.ov < id;omega
   ·rw [g1,if_neg (by omega)];have hj:=HC (λ(x:bO)=>decide (x.ov > id)) l 0 j g1;rw [show (((0+j:Nat):Int)).toNat=j by omega];refine Lc h hid (λx hx=>?_) (λy hy=>?_)
    ·have a:=hj x hx;have b:=hno x (zWZ hx);simp only [decide_eq_false_iff_not] at a;show x.ov < id;omega
    ·have lt:=(List.getElem?_eq_some_iff.1 g2).1;have e:l.drop j=x :: l.drop (j+1):=by
      rw [zXH lt,(List.getElem?_eq_some_iff.1 g2).2]
     have gx:id < x.ov:=by simpa using g3
     have hs:(dp (l.drop j)).Pairwise (· < ·):=h.p.sublist (List.Sublist.map _ (List.drop_sublist j l));rw [e] at hs hy;unfold dp at hs;rw [zWq,List.pairwise_cons] at hs;simp only [zXy] at hy;show id < y.ov;rcases hy with rfl | hy
     ·exact gx
     ·have:=hs.1 y.ov (List.mem_map.2 ⟨y,hy,rfl⟩);omega
  ·rw [h1];simp only [cM,h2,r0];unfold nm;rw [NR (y:=⟨x.ov,w,vL .i64 x.cq d,0,x.ou⟩) h2 rfl];exact h
 ·exact h
theorem PD{α:Type}{f:α->Nat->Bool}:∀ {l:List α} {i:Nat},kQ f l i=true->∀ (j:Nat) (x:α),l[j]?=some x->f x (i+j)=true
 | [],i,_,j,x,h=>by simp at h
 | y :: l,i,h,j,x,hx=>by
  unfold kQ at h;simp only [sY] at h
  cases j with
  | zero =>
   simp only [zWV,Option.some.injEq] at hx;subst hx; exact h.1
  | succ j =>
   have:=PD h.2 j x (by simpa using hx);rw [show i+(j+1)=i+1+j by omega]; exact this
theorem T6{l:List bO}(id w d:Int):∀ z∈dp (p8 l id w d),z∈dp l\/z=id:=by
 unfold p8
 split
 ·rcases rI l id with ⟨h1,hno⟩ | ⟨j,x,h1,h2,_⟩
  ·rw [h1];have e:c6 l (-1)=none:=by unfold c6; simp
   rw [e];dsimp only;intro z hz;unfold dp at hz ⊢;simp only [List.map_append,zWK,zWq,List.map_nil,zQq,zXh] at hz ⊢;rcases hz with (⟨x,hx,rfl⟩ | rfl) | ⟨x,hx,rfl⟩
   ·exact .inl ⟨x,zWZ hx,rfl⟩
   ·exact .inr rfl
   ·exact .inl ⟨x,zXX hx,rfl⟩
  ·rw [h1];simp only [cM,h2,r0];rw [NR (y:=⟨x.ov,w,vL .i64 x.cq d,0,x.ou⟩) h2 rfl];exact λz hz=>.inl hz
 ·exact λz hz=>.inl hz
structure M.KidsTo (S:Int->Prop) (l m:List bO):Prop where
 s:nm l->nm m
 i:∀ z∈dp m,z∈dp l\/S z
theorem Ld{S:Int->Prop}{l m:List bO}(h:dp m=dp l):M.KidsTo S l m:=⟨λhl=>by unfold nm at hl ⊢; rw [h]; exact hl,λz hz=>.inl (h ▸ hz)⟩
theorem wT{S:Int->Prop}(l:List bO):M.KidsTo S l l:=Ld rfl
theorem SL{S:Int->Prop}{l m k:List bO}(a:M.KidsTo S l m)(h:dp k=dp m):M.KidsTo S l k:=⟨λhl=>by have:=a.s hl; unfold nm at this ⊢; rw [h]; exact this,λz hz=>a.i z (h ▸ hz)⟩
theorem U4{S:Int->Prop}{l:List bO}{id:Int}(hs:S id)(w d:Int):M.KidsTo S l (p8 l id w d):=⟨λh=>QZ h id w d,λz hz=>by
 rcases T6 id w d z hz with h | h
 ·exact .inl h
 ·rw [h]; exact .inr hs⟩
theorem L9(n:aK)(f t:Int):dp (fm n f t).fN.bf=dp n.bf:=Fm _ _ _
theorem IP{S:Int->Prop}{n:aK}{me f:Int}(hs:S f)(m:fz):M.KidsTo S n.bf (ew n me f m).fN.bf:=by
 have h:M.KidsTo S n.bf (p8 n.bf f m.ck m.cq):=U4 hs _ _;have g:M.KidsTo S n.bf (fm (jx n (p8 n.bf f m.ck m.cq)) me f).fN.bf:=SL h (L9 _ me f);unfold ew
 split
 ·exact wT _
 ·split
  ·exact h
  ·split
   ·dsimp only
    split
    ·exact g
    ·exact g
   ·exact h
theorem U5(n:aK)(me i:Int):∀ (l:List bO) (s:List bO×List ak),dp (l.foldl (eC n me i) s).1=dp s.1:=by
 intro l
 induction l with
 | nil=>intro s; rfl
 | cons x l ih =>
  intro s;rw [zYH,ih];unfold eC
  split
  ·exact Fm _ _ _
  ·rfl
theorem PE(n:aK)(me i:Int):dp (jh n me i).fN.bf=dp n.bf:=by
 unfold jh
 split
 ·exact U5 n me i _ _
 ·rfl
theorem NT(n:aK)(d:aA)(m:ag):(n7 n d m).bf=n.bf:=by
 unfold n7
 split
 ·split <;> rfl
 ·split <;> rfl
theorem NU(n:aK)(me:Int)(m:fz):dp (kN n me m).fN.bf=dp n.bf:=by
 unfold kN
 split
 ·rfl
 ·split
  ·rfl
  ·split
   ·exact PE _ _ _
   ·rfl
theorem NV(n:aK)(me:Int)(d:aA)(m:fz):dp (jy n me d m).fN.bf=dp n.bf:=by
 unfold jy
 split
 ·show dp (n7 _ _ _).bf=_;rw [NT]; rfl
 ·split
  ·exact NU _ _ _
  ·split <;> rfl
def fO(t:cF)(z:Int):Prop:=am z 0 ((t.cf.length:Int) - 1)=true
theorem SM(t:cF)(me:Int)(n:aK)(d:aA)(p:ak):M.KidsTo (fO t) n.bf (M.take t me n d p).fN.bf:=by
 unfold M.take
 split
 ·exact wT _
 ·split
  ·rename_i h;simp only [sY] at h
   split
   ·exact IP h.1.2 _
   ·split
    ·exact Ld (NV _ _ _ _)
    ·exact wT _
  ·exact wT _
def pS(me:Int)(S:Int->Prop)(out:List ak):Prop:=∀ q∈out,q.cm=me/\S q.mK
theorem tA(me:Int)(S:Int->Prop):pS me S []:=λq hq=>by simp at hq
theorem Lf{me t:Int}{S:Int->Prop}(h:S t)(m:fz):pS me S [kM me t m]:=λq hq=>by
 simp only [zQq] at hq;subst hq; exact ⟨rfl,h⟩
theorem NW{S:Int->Prop}{n:aK}{me f:Int}(h:S f):pS me S (fm n me f).mL:=λq hq=>by
 unfold fm at hq;simp only [zXh] at hq;obtain ⟨i,_,rfl⟩:=hq;exact ⟨rfl,h⟩
theorem Ma{S:Int->Prop}{n:aK}{me f:Int}(h:S f)(m:fz):pS me S (ew n me f m).mL:=by
 unfold ew
 split
 ·exact tA _ _
 ·split
  ·exact Lf h _
  ·split
   ·dsimp only
    split
    ·exact Lf h _
    ·exact NW h
   ·exact Lf h _
theorem VX{S:Int->Prop}{n:aK}{me i:Int}:∀ (l:List bO) (s:List bO×List ak),(∀ x∈l,S x.ov)->pS me S s.2->pS me S (l.foldl (eC n me i) s).2:=by
 intro l
 induction l with
 | nil=>intro s _ h; exact h
 | cons x l ih =>
  intro s hl h;refine ih _ (λy hy=>hl y (by simp [hy])) λq hq=>?_;unfold eC at hq
  split at hq
  ·simp only [zWK,zQq] at hq;rcases hq with hq | rfl
   ·exact h q hq
   ·exact ⟨rfl,hl x (by simp)⟩
  ·exact h q hq
theorem Q0{S:Int->Prop}{n:aK}{me i:Int}(h:∀ x∈n.bf,S x.ov):pS me S (jh n me i).mL:=by
 unfold jh
 split
 ·exact VX _ _ h (tA _ _)
 ·exact tA _ _
theorem U6{t:cF}{me:Int}{n:aK}(h:∀ x∈n.bf,fO t x.ov)(d:aA)(p:ak):pS me (fO t) (M.take t me n d p).mL:=by
 unfold M.take
 split
 ·exact tA _ _
 ·split
  ·rename_i hc;simp only [sY] at hc
   split
   ·exact Ma hc.1.2 _
   ·split
    ·unfold jy
     split
     ·exact tA _ _
     ·split
      ·unfold kN
       split
       ·exact tA _ _
       ·split
        ·exact tA _ _
        ·split
         ·exact Q0 (n:=B8 (DF n) _) h
         ·exact tA _ _
      ·first | exact tA _ _ | (split <;> exact tA _ _)
    ·exact tA _ _
  ·exact tA _ _
theorem M0{t:cF}(h:iZ t=true){j:Nat}(h0:0 < j){x:Int}(hx:t.cf[j]?=some x):0<=x/\x < j:=by
 unfold iZ at h;simp only [sY] at h;have:=PD h.1 j x hx;rw [zWJ] at this;unfold BE at this;rw [if_neg (by omega)] at this;have:=bX this;omega
theorem HD{t:cF}(h:iZ t=true){k:Nat}(h0:0 < k)(hk:k < t.cf.length)(b:Int):fO t (wQ t k b):=by
 have get:∀ j:Nat,0 < j->j < t.cf.length->fO t ((t.cf[j]?).getD 0):=λj h0 hj=>by
  have e:=tw hj;have:=M0 h h0 e;rw [e];unfold fO;simp only [zYZ,am,sY,decide_eq_true_eq];omega
 have hw:am (k:Int) 1 ((t.cf.length:Int) - 1)=true:=by simp [am]; omega
 unfold wQ;rw [h,hw];simp only [zYW,if_true]
 split
 ·rename_i hc;simp only [sY,decide_eq_true_eq] at hc;have:=bX (T1 hc.1);exact get b.toNat (by omega) (by omega)
 ·exact get _ (by simp; omega) (by simp; omega)
theorem U7{t:cF}(h:iZ t=true)(c:ia){k:Nat}(hk:k < t.cf.length){n:aK}(hb:k≠0->fO t n.bM)(d:aA):pS k (fO t) (M.tick t c k n d).mL/\(k≠0->fO t (M.tick t c k n d).fN.bM):=by
 unfold M.tick
 split
 ·exact ⟨tA _ _,hb⟩
 ·split
  ·exact ⟨tA _ _,hb⟩
  ·rename_i h1;have h0:0 < k:=by omega
   split
   ·exact ⟨Lf (HD h h0 hk _) _,λ_=>HD h h0 hk _⟩
   ·exact ⟨Lf (hb (by omega)) _,λg=>hb g⟩
theorem Q1(l:List bO)(f:Int):∀ z∈dp (kK l f),z∈dp l:=λz hz=>by
 unfold dp kK at *;simp only [zZK,zXh,List.mem_filter] at hz ⊢;obtain ⟨x,hx,rfl⟩:=hz;exact ⟨x,hx.1,rfl⟩
theorem SN(S:Int->Prop)(t:cF)(c:ia)(k:Int)(n:aK)(d:aA):M.KidsTo S n.bf (M.tick t c k n d).fN.bf:=by
 have h:M.KidsTo S n.bf (kK n.bf c.a9):=⟨λhl=>NS hl _,λz hz=>.inl (Q1 _ _ z hz)⟩;unfold M.tick
 split
 ·exact wT _
 ·split
  ·exact h
  ·split <;> exact h
theorem NX(n:aK)(d:aA)(m:ag):(n7 n d m).bM=n.bM:=by
 unfold n7
 split
 ·split <;> rfl
 ·split <;> rfl
theorem IQ(n:aK)(me f:Int)(m:fz):(ew n me f m).fN.bM=n.bM:=by
 unfold ew
 split
 ·rfl
 ·split
  ·rfl
  ·split
   ·dsimp only
    split <;> rfl
   ·rfl
theorem NY(n:aK)(me i:Int):(jh n me i).fN.bM=n.bM:=by
 unfold jh
 split <;> rfl
theorem Mb(n:aK)(me:Int)(d:aA)(m:fz):(jy n me d m).fN.bM=n.bM:=by
 unfold jy
 split
 ·exact NX _ _ _
 ·split
  ·unfold kN
   split
   ·rfl
   ·split
    ·rfl
    ·split
     ·exact NY _ _ _
     ·rfl
  ·split <;> rfl
theorem SO(t:cF)(me:Int)(n:aK)(d:aA)(p:ak):(M.take t me n d p).fN.bM=n.bM:=by
 unfold M.take
 split
 ·rfl
 ·split
  ·split
   ·exact IQ _ _ _ _
   ·split
    ·exact Mb _ _ _ _
    ·rfl
  ·rfl
structure M.NodeIn (t:cF) (j:Nat) (n:aK):Prop where
 w:M.NodWf n
 s:nm n.bf
 k:∀ z∈dp n.bf,fO t z
 b:j≠0->fO t n.bM
structure M.DiskIn (d:aA):Prop where
 o:M.DOk d
 b:M.DB d
 l:d.fP.length<=200
structure M.PkIn (t:cF) (p:ak):Prop where
 w:yg p
 f:fO t p.cm
 t:fO t p.mK
structure M.WWf (w:World):Prop where
 t:iZ w.fT=true
 nl:w.fN.length=w.fT.cf.length
 dl:w.fD.length=w.fT.cf.length
 nodes:∀ (j:Nat) (n:aK),w.fN[j]?=some n->M.NodeIn w.fT j n
 disks:∀ (j:Nat) (d:aA),w.fD[j]?=some d->M.DiskIn d
 net:∀ p∈w.bE,M.PkIn w.fT p
 len:w.bE.length<=400
theorem xM{t:cF}{j:Nat}{n:aK}(h:M.NodeIn t j n):n.bf.length<=1048576:=by
 have:=SK h.s; omega
theorem DK{w:World}(h:M.WWf w):1<=w.fT.cf.length/\w.fT.cf.length<=7:=by
 have:=h.t;unfold iZ at this;simp only [sY] at this;have:=bX this.2;omega
theorem Lg{t:cF}{z:Int}(h:fO t z):∃ j:Nat,z=j/\j < t.cf.length:=by
 have:=bX h;exact ⟨z.toNat,by omega,by omega⟩
theorem T7{t:cF}:∀ (out:List ak) (s:List ak×List cg×Int),(∀ p∈s.1,M.PkIn t p)->s.1.length<=400->(∀ p∈out,M.PkIn t p) ->
  (∀ p∈(out.foldl cP s).1,M.PkIn t p)/\(out.foldl cP s).1.length<=400:=by
 intro out
 induction out with
 | nil=>intro s h l _; exact ⟨h,l⟩
 | cons x out ih =>
  intro s h l ho;rw [zYH];refine ih _ ?_ ?_ (λp hp=>ho p (by simp [hp]))
  ·unfold cP
   split
   ·exact h
   ·intro p hp;simp only [zWK,zQq] at hp;rcases hp with hp | rfl
    ·exact h p hp
    ·exact ho p (by simp)
  ·unfold cP
   split
   ·exact l
   ·simp only [zQw,zYY]; omega
theorem T8{w:World}(h:M.WWf w){out:List ak}(ho:∀ p∈out,M.PkIn w.fT p):M.WWf (Lb w out):=by
 have:=T7 out (w.bE,w.bq,w.bB) h.net h.len ho;exact ⟨h.t,h.nl,h.dl,h.nodes,h.disks,this.1,this.2⟩
theorem NZ{α:Type}{P:Nat->α->Prop}{l:List α}(h:∀ (j:Nat) (x:α),l[j]?=some x->P j x){k:Nat}{y:α}(hy:P k y):∀ (j:Nat) (x:α),(l.set k y)[j]?=some x->P j x:=by
 intro j x hx;rw [zXz] at hx
 split at hx
 ·rename_i e
  split at hx
  ·simp only [Option.some.injEq] at hx;rw [<- hx,<- e]; exact hy
  ·cases hx
 ·exact h j x hx
def t6(w:World)(k:Nat)(n:aK)(d:aA):World:=⟨w.fC,w.fT,w.b5,w.bS,w.fN.set k n,w.fD.set k d,w.bE,w.bq,w.bB⟩
theorem PF{w:World}(h:M.WWf w){k:Nat}{n:aK}{d:aA}(hn:M.NodeIn w.fT k n)(hd:M.DiskIn d):M.WWf (t6 w k n d) :=
 ⟨h.t,by simp [t6,h.nl],by simp [t6,h.dl],NZ h.nodes hn,NZ (P:=λ_ d=>M.DiskIn d) h.disks hd,h.net,h.len⟩
def uO(w:World)(k:Nat):World:=match w.fN[k]?,w.fD[k]? with
 | some n,some d=>Lb (t6 w k (M.tick w.fT w.fC k n d).fN (M.tick w.fT w.fC k n d).fD) (M.tick w.fT w.fC k n d).mL
 | _,_=>w
theorem RN{t:cF}(ht:iZ t=true)(c:ia){k:Nat}(hk:k < t.cf.length){n:aK}(hn:M.NodeIn t k n){d:aA}(hd:M.DiskIn d) :
  M.NodeIn t k (M.tick t c k n d).fN/\M.DiskIn (M.tick t c k n d).fD/\(∀ p∈(M.tick t c k n d).mL,M.PkIn t p)/\(M.tick t c k n d).mL.length<=1048576:=by
 have w:=U3 t c k hn.w hd.o hd.l hd.b;have kk:=SN (fO t) t c k n d;have to:=U7 ht c hk hn.b d;have hkk:fO t (k:Int):=by unfold fO; simp [am]; omega
 refine ⟨⟨w.a.n,kk.s hn.s,λz hz=>?_,to.2⟩,⟨w.d,w.b,w.l⟩,λp hp=>⟨w.a.o p hp,?_,(to.1 p hp).2⟩,w.a.l⟩
 ·rcases kk.i z hz with h | h
  ·exact hn.k z h
  ·exact h
 ·rw [(to.1 p hp).1]; exact hkk
theorem IR{u:Nat}(hu:1099511627776<=u){w:World}(h:M.WWf w){k:Nat}(hk:k < w.fT.cf.length):m2 u w k=some (uO w k):=by
 have up:=DK h;have hn:w.fN[k]?=some (w.fN[k]'(by rw [h.nl]; exact hk)):=tw _;have hd:w.fD[k]?=some (w.fD[k]'(by rw [h.dl]; exact hk)):=tw _;generalize w.fN[k]'(by rw [h.nl]; exact hk)=n at hn;generalize w.fD[k]'(by rw [h.dl]; exact hk)=d at hd;have a:=h.nodes k n hn;have b:=h.disks k d hd;have g:=RN h.t w.fC hk a b;unfold m2 uO;simp only [cM,hn,hd,wk,NP hu (show w.fT.cf.length<=1048576 by omega) w.fC k a.w (xM a) b.o (show d.fP.length<=1048575 by have:=b.l; omega),r0];rw [show (World.mk w.fC w.fT w.b5 w.bS (w.fN.set k (M.tick w.fT w.fC k n d).fN) (w.fD.set k (M.tick w.fT w.fC k n d).fD) w.bE w.bq w.bB)=t6 w k (M.tick w.fT w.fC k n d).fN (M.tick w.fT w.fC k n d).fD from rfl,AE hu _ (λp hp=>(g.2.2.1 p hp).w) g.2.2.2];rfl
def G0(w:World)(k:Nat):World:=⟨w.fC,w.fT,w.b5,w.bS,w.fN,w.fD,w.bE.take k++w.bE.drop (k+1),w.bq,w.bB⟩
theorem T9{w:World}(h:M.WWf w)(k:Nat):M.WWf (G0 w k) :=
 ⟨h.t,h.nl,h.dl,h.nodes,h.disks,λp hp=>by
  simp only [G0,zWK] at hp;rcases hp with hp | hp
  ·exact h.net p (zWZ hp)
  ·exact h.net p (zXX hp),by
  have:=h.len;simp only [G0,zQw,zQh,zYx]; omega⟩
def Lh(w:World)(k:Nat)(n:aK):World:=⟨w.fC,w.fT,w.b5,w.bS,w.fN.set k n,w.fD,w.bE,w.bq,w.bB⟩
theorem Ua{w:World}(h:M.WWf w){k:Nat}{n:aK}(hn:M.NodeIn w.fT k n):M.WWf (Lh w k n) :=
 ⟨h.t,by simp [Lh,h.nl],h.dl,NZ h.nodes hn,h.disks,h.net,h.len⟩
def Li(w:World)(p:ak):World:=match w.fN[p.mK.toNat]?,w.fD[p.mK.toNat]? with
 | some n,some d=>Lb (Lh w p.mK.toNat (M.take w.fT p.mK n d p).fN) (M.take w.fT p.mK n d p).mL
 | _,_=>w
def uP(w:World)(k:Nat):World:=match w.bE[k]? with
 | some p=>Li (G0 w k) p
 | none=>w
theorem RO{t:cF}{n:aK}{k:Nat}(hk:k < t.cf.length)(hn:M.NodeIn t k n){d:aA}(hd:M.DiskIn d){p:ak}(hp:M.PkIn t p) :
  M.NodeIn t k (M.take t k n d p).fN/\(∀ q∈(M.take t k n d p).mL,M.PkIn t q)/\(M.take t k n d p).mL.length<=1048576:=by
 have w:=U2 t k hn.w (xM hn) hd.b hp.w.1;have kk:=SM t k n d p;have to:=U6 (me:=(k:Int)) (λx hx=>hn.k x.ov (List.mem_map.2 ⟨x,hx,rfl⟩)) d p;have hkk:fO t (k:Int):=by unfold fO; simp [am]; omega
 refine ⟨⟨w.n,kk.s hn.s,λz hz=>?_,λh0=>by rw [SO]; exact hn.b h0⟩,λq hq=>⟨w.o q hq,?_,(to q hq).2⟩,w.l⟩
 ·rcases kk.i z hz with h | h
  ·exact hn.k z h
  ·exact h
 ·rw [(to q hq).1]; exact hkk
theorem IS{u:Nat}(hu:1099511627776<=u){w:World}(h:M.WWf w){k:Nat}(hk:k < w.bE.length):m6 u w k=some (uP w k):=by
 have up:=DK h;have hl:=h.len;have hp:w.bE[k]?=some w.bE[k]:=tw hk;generalize w.bE[k]=p at hp;have pin:=h.net p (zQY hp);obtain ⟨j,e,hj⟩:=Lg pin.t;have hn:w.fN[j]?=some (w.fN[j]'(by rw [h.nl]; exact hj)):=tw _;have hd:w.fD[j]?=some (w.fD[j]'(by rw [h.dl]; exact hj)):=tw _;generalize w.fN[j]'(by rw [h.nl]; exact hj)=n at hn;generalize w.fD[j]'(by rw [h.dl]; exact hj)=d at hd;have a:=h.nodes j n hn;have b:=h.disks j d hd;have g:=RO hj a b pin;have hb:aQ .i64 (k:Int) 1=((k+1:Nat):Int):=mG (a:=k) (b:=1) (by omega);have c1:c9 (cy 0 (k:Int) w.bE.length)=some ():=by
  rw [show (0:Int)=((0:Nat):Int) from rfl,fk (by omega) (by omega)]
 have c2:c9 (cy ((k+1:Nat):Int) ((w.bE.length:Nat):Int) w.bE.length)=some ():=by
  rw [fk (by omega) (by omega)]
 unfold m6 uP;rw [hp];unfold Li;simp only [cM,hp,wk,hb,c1,c2,r0,show sX 0=0 from rfl,List.drop_zero,zQy,List.take_length];rw [bu (by simp; omega),wk,bu (by simp; omega),wk];simp only [e,r0,cM];simp only [G0,hn,hd,wk,NN hu (show w.fT.cf.length<=1048576 by omega) (j:Int) a.w (xM a) b.o b.b pin.w.1 pin.w.2];rw [AE hu _ (λp hp=>(g.2.1 p hp).w) g.2.2];rfl
theorem PG{α:Type}(g:α->Bool):∀ (l:List α) (i:Nat),kQ (λx _=>g x) l i=l.all g
 | [],_=>rfl
 | x :: l,i=>by simp only [kQ,List.all_cons,PG g l]
def wU(c:ia):Bool:=am c.aw 2 6 && am c.bd 1 40 && am c.aT 1 5 && am c.a9 2 8
theorem Lj(u:Nat)(c:ia):ul u c=some (wU c):=by
 unfold ul wU;simp only [bC,wk]
 cases am c.aw 2 6 <;> cases am c.bd 1 40 <;> cases am c.aT 1 5 <;> rfl
def Fn(l:List bg)(n:Int):Bool:=(l.all λx=>!decide ((x.fB.length:Int) > 240)) && ((l.length:Int) == n)
theorem IT{u:Nat}(hu:1099511627776<=u){l:List bg}(hl:l.length<=1048576)(n:Int):rM u l n=some (Fn l n):=by
 unfold rM Fn;rw [DR u l n () u (by omega) (by omega),Dy (λ(x:bg) _=>!decide ((x.fB.length:Int) > 240)) (xs:=l) (b:=(l.length:Int) == n) rfl 0 (λx i f _ hx=>?_) l 0 (zWj _) rfl,PG];unfold w4
 cases decide ((x.fB.length:Int) > 240) <;> rfl
theorem PH:∀ (n:Nat) (b:List Int),aq b->b.length<=n->nI n (iq b 1)=some b:=by
 intro n
 induction n with
 | zero =>
  intro b _ hl;have:b=[]:=sk (by omega);subst this;rfl
 | succ n ih =>
  intro b hb hl;rcases List.eq_nil_or_concat b with rfl | ⟨c,x,hbx⟩
  ·rfl
  ·rw [List.concat_eq_append] at hbx;subst hbx;have hx:=hb x (by simp);have hc:aq c:=λz hz=>hb z (by simp [hz]);have h1:=K4 c 1 0 hc (by simp);have hp:(0:Int) < 256 ^ (0+c.length):=Int.pow_pos (by omega);have e:iq (c++[x]) 1=256*iq c 1+x:=by rw [O9]; rfl
   unfold nI;rw [e,if_neg (by omega),if_neg (by omega),show (256*iq c 1+x) / 256=iq c 1 by omega,show (256*iq c 1+x) % 256=x by omega,ih c hc (by simp at hl; omega)];rfl
theorem N0{b:List Int}(hb:aq b)(hl:b.length<=6):b9 (iq b 1)=(b,true):=by
 have h1:=K4 b 1 0 hb (by simp);have hp:(0:Int) < 256 ^ (0+b.length):=Int.pow_pos (by omega);unfold b9;rw [if_neg (by omega),PH 6 b hb hl]
theorem SP{size n i:Int}(h:am i 0 (ce size n - 1)=true):(bW size n i).1=i*size/\1<=(bW size n i).2:=by
 have ⟨h1,h2,h3⟩:=vV h;have h4:=tg h1;have h5:=(bX h).2;unfold bW;rw [if_pos h];unfold ce at h5;rw [if_pos h1] at h5;have h8:i+1<=(n+size - 1) / size:=by omega
 have h9:(i+1)*size<=n+size - 1:=(Int.le_ediv_iff_mul_le (by omega)).1 h8;rw [zZv] at h9;refine ⟨rfl,?_⟩;dsimp only;omega
theorem Q3{b:List Int}{size i:Int}(h:am i 0 (ce size b.length - 1)=true):((db b size i).1.length:Int)=(bW size b.length i).2/\(db b size i).1=M.win b (bW size b.length i).1.toNat (bW size b.length i).2.toNat:=by
 have h1:=SP h;have h2:=nd (size:=size) (n:=b.length) (i:=i) (by omega);unfold db;dsimp only;rw [if_neg (by omega)];refine ⟨?_,rfl⟩;unfold M.win;simp;omega
theorem N1{b:List Int}(hb:aq b){size:Int}{i:Nat}(h:am (i:Int) 0 (ce size b.length - 1)=true):tj size b.length i (du (db b size i).1)=true:=by
 have h1:=Q3 h;have h2:=qG hb size i;unfold tj du;rw [if_neg (by omega)];simp only [N0 h2.1 h2.2,h1.1];simp
theorem CU{b:List Int}(hb:aq b){size:Int}:∀ (n i:Nat),((i+n:Nat):Int)<=ce size b.length->mF size b.length ((zWz i n).map λ(i:Nat)=>du (db b size i).1) i=true
 | 0,i,_=>rfl
 | n+1,i,h=>by
  have hw:am (i:Int) 0 (ce size b.length - 1)=true:=by unfold am; simp; omega
  simp only [zYw,zWq,mF];rw [N1 hb hw,zWx];exact CU hb n (i+1) (by omega)
theorem HE(g:Int){b:List Int}(hb:aq b)(size:Int):cV (eG g b size)=true:=by
 unfold eG
 cases h1:am g 1 1000000 with
 | false=>rfl
 | true =>
  cases h2:dP size b.length with
  | false=>rfl
  | true =>
   have hg:=bX h1;have hr:=eu size b.length;simp only [zYW,if_true];unfold cV;simp only;rw [if_neg (by omega),h1,h2];simp only [zWx,sY,beq_iff_eq];unfold tn;refine ⟨by simp; omega,?_⟩;rw [zWk];exact CU hb _ 0 (by omega)
theorem SQ{α:Type}{f:α->α->Bool}(hf:∀ x,f x x=true)(l:List α):M.same f l l=true:=by
 unfold M.same;have:zP f l l=true:=by
  induction l with
  | nil=>rfl
  | cons x l ih=>simp [zP,hf,ih]
 simp [this]
theorem PI{g size:Int}{b:List Int}(h:dP size b.length=true)(hg:am g 1 1000000=true):M.tells (eG g b size) b=true:=by
 unfold M.tells eG;rw [hg,h];simp [SQ]
def Ev{β:Type}(r:Option β)(p:β->Prop):Prop:=∃ v,r=some v/\p v
theorem bn{β γ:Type}{r:Option β}{p:β->Prop}{f:β->Option γ}{q:γ->Prop}(h:Ev r p)(hf:∀ v,p v->Ev (f v) q):Ev (r.bind f) q:=by
 obtain ⟨v,e,h1⟩:=h;rw [e];exact hf v h1
theorem b7{β:Type}{v:β}{p:β->Prop}(h:p v):Ev (some v) p:=⟨v,rfl,h⟩
theorem Ub{β:Type}{r:Option β}{v:β}{p:β->Prop}(e:r=some v)(h:p v):Ev r p:=⟨v,e,h⟩
theorem RP{β:Type}{r:Option β}{p q:β->Prop}(h:Ev r p)(hpq:∀ v,p v->q v):Ev r q:=by
 obtain ⟨v,e,h1⟩:=h;exact ⟨v,e,hpq v h1⟩
theorem gq{β γ:Type}{r:Option β}{v:β}{f:β->Option γ}{q:γ->Prop}(e:r=some v)(hf:Ev (f v) q):Ev (r.bind f) q:=by
 rw [e];exact hf
theorem lR{γ:Type}{b:Bool}{f:Unit->Option γ}{q:γ->Prop}(hb:b=true)(hf:Ev (f ()) q):Ev ((c9 b).bind f) q:=by
 subst hb;exact hf
theorem Fo{α:Type}{r:Option (α×aG)}{p:α->Prop}(h:Dr r p):Ev r λv=>p v.1/\Cu v.2:=by
 obtain ⟨v,c,e,h1,h2⟩:=h;exact ⟨_,e,h1,h2⟩
theorem cB(u:Nat){c:aG}(hc:Cu c)(n:Int):Ev (aX u c n) λv=>(0<=v.1/\(0 < n->v.1 < n))/\Cu v.2:=Fo (co u hc n)
theorem Fq(u:Nat){c:aG}(hc:Cu c)(n:Int):Ev (gZ u c n) λv=>Cu v.2:=RP (Fo (GI u hc n)) λ_ h=>h.2
theorem BM(u:Nat){c:aG}(hc:Cu c){xs:List Int}(hx:0 < xs.length):Ev (c8 u c xs) λv=>v.1∈xs/\Cu v.2:=Fo (nJ u hc hx)
theorem bY{γ:Type}{b:Bool}{x y:Option γ}{q:γ->Prop}(h1:b=true->Ev x q)(h2:b=false->Ev y q):Ev (bif b then x else y) q:=by
 cases b with
 | true=>exact h1 rfl
 | false=>exact h2 rfl
theorem wV{c:aG}(h:Cu c):Cu (aG.mk c.fB c.fI c.fH):=h
theorem M1{α:Type}{f:α->Nat->Bool}:∀ (l:List α) (i:Nat) (x:α),kQ f (l++[x]) i=(kQ f l i && f x (i+l.length))
 | [],i,x=>by simp [kQ]
 | y :: l,i,x=>by
  simp only [List.cons_append,kQ,M1 l (i+1) x,zQW,Bool.and_assoc];rw [show i+1+l.length=i+(l.length+1) by omega]
def Fs(t:cF):Prop:=iZ t=true/\1<=t.cf.length/\t.cf.length<=7
theorem Lk(u:Nat)(hu:1099511627776<=u){c:aG}(hc:Cu c):Ev (pf u c) λv=>Fs v.1/\Cu v.2:=by
 have key:∀ (m k n:Nat) (up:List Int) (c:aG),n+m=7->m < k->1<=n->up.length=n->kQ BE up 0=true->Cu c ->
   Ev (eL u k (n:Int) up c.fB c.fI c.fH) λv=>Fs v.1/\Cu v.2:=by
  intro m
  induction m with
  | zero =>
   intro k n up c hn hk h1 hl ho hc;obtain ⟨k,rfl⟩:∃ j,k=j+1:=⟨k - 1,by omega⟩;unfold eL;refine bn (cB u (wV hc) 7) λr hr=>?_;have hr1:=hr.1.1;have hr2:=hr.1.2 (by omega);rw [cd (by omega) (by omega)];have:¬ (n:Int) < 1+r.1:=by omega
   simp only [this,decide_false,cond_false,qH];exact b7 ⟨⟨by unfold iZ; rw [ho]; simp [am]; omega,by show 1<=up.length; omega,by show up.length<=7; omega⟩,hr.2⟩
  | succ m ih =>
   intro k n up c hn hk h1 hl ho hc;obtain ⟨k,rfl⟩:∃ j,k=j+1:=⟨k - 1,by omega⟩;unfold eL;refine bn (cB u (wV hc) 7) λr hr=>?_;have hr1:=hr.1.1;have hr2:=hr.1.2 (by omega);rw [cd (by omega) (by omega)];have next:∀ (x:Int) (c:aG),0<=x->x < n->Cu c->Ev (nr u (λz0 z1 z2 z3 z4=>eL u k z0 z1 z2 z3 z4) (n:Int) x up c.fB c.fI c.fH) λv=>Fs v.1/\Cu v.2:=by
    intro x c h0 hx hc;unfold nr;refine lR (by simp; omega) ?_;rw [cd (by omega) (by omega),show (n:Int)+1=((n+1:Nat):Int) by omega];refine ih k (n+1) _ c (by omega) (by omega) (by omega) (by simp; omega) ?_ hc;rw [M1,ho,zWx];unfold BE;rw [if_neg (by omega)];simp [am]; omega
   refine bY (λhlt=>?_) (λ_=>?_)
   ·refine bn (Fq u hr.2 2) λo ho2=>?_;refine bY (λ_=>?_) (λ_=>?_)
    ·refine bn (cB u ho2 _) λx hx=>?_;exact next _ _ hx.1.1 (hx.1.2 (by omega)) hx.2
    ·rw [cU (by omega) (by omega)];exact next _ _ (by omega) (by omega) ho2
   ·unfold qH;exact b7 ⟨⟨by unfold iZ; rw [ho]; simp [am]; omega,by show 1<=up.length; omega,by show up.length<=7; omega⟩,hr.2⟩
 unfold pf;exact key 6 u 1 _ c (by omega) (by omega) (by omega) rfl rfl hc
theorem SR(u:Nat)(hu:1099511627776<=u){c:aG}(hc:Cu c):Ev (uB u c) λv=>v.1.cf.length<=7/\Cu v.2:=by
 unfold uB;refine bn (Lk u hu hc) λt ht=>?_;have hl:=ht.1.2;refine bn (cB u ht.2 8) λn hn=>?_;refine bY (λ_=>?_) (λ_=>bY (λ_=>?_) (λ_=>?_))
 ·refine bn (cB u hn.2 _) λi hi=>?_;refine bn (BM u hi.2 (by simp)) λx hx=>?_;have h0:=hi.1.1;have h1:=hi.1.2 (by omega);obtain ⟨j,hj⟩:∃ j:Nat,i.1=(j:Int):=⟨i.1.toNat,by omega⟩;rw [hj,cM,tw (by omega)];exact b7 ⟨by show (t.1.cf.set _ _).length<=7; rw [zXZ]; omega,hx.2⟩
 ·exact b7 ⟨by simp,hn.2⟩
 ·exact b7 ⟨by show t.1.cf.length<=7; omega,hn.2⟩
theorem Uc(u:Nat){c:aG}(hc:Cu c):Ev (wc u c) λv=>Cu v.2:=by
 unfold wc;refine bn (Fq u hc 3) λo ho=>bY (λ_=>?_) (λ_=>?_)
 ·exact bn (BM u ho (by simp)) λx hx=>b7 hx.2
 ·refine bn (cB u ho _) λx hx=>bn (cB u hx.2 _) λy hy=>lR ?_ (b7 hy.2);have:=hy.1.1
  simpa using this
theorem Q4{u:Nat}(hu:1099511627776<=u){c:aG}(hc:Cu c):Ev (k9 u c) λv=>mI 16 v.1/\Cu v.2:=Fo (KR hu hc)
theorem VY{u:Nat}(hu:1099511627776<=u){c:aG}(hc:Cu c){b:List Int}(hb:mI 200 b):Ev (rj u c b) λv=>mI 240 v.1/\Cu v.2:=Fo (SE hu hc hb.1 hb.2)
theorem VZ{u:Nat}(hu:1099511627776<=u){c:aG}(hc:Cu c):Ev (tN u c) λv=>(v.1.aC.length<=41/\pP v.1)/\Cu v.2:=Fo (T0 hu hc)
theorem Ll{n m:Nat}{b:List Int}(h:mI n b)(hn:n<=m):mI m b:=⟨zWW h.1 hn,h.2⟩
structure M.DrMan (m:ag) (b:List Int):Prop where
 i:mI 16 b
 o:cV m=true
 n:m.aC.length<=40
 w:pP m
 l:0<=m.aY/\m.aY<=16
theorem SS{u:Nat}(hu:1099511627776<=u){c:aG}(hc:Cu c):Ev (oD u c) λv=>M.DrMan v.1 v.2.1/\Cu v.2.2:=by
 unfold oD;refine bn (Q4 hu hc) λb hb=>bn (cB u hb.2 _) λx hx=>bn (cB u hx.2 _) λy hy=>?_;have h1:=hb.1.1;refine gq (uf hu hb.1.2 (by omega) _ _) (b7 ⟨⟨hb.1,HE _ hb.1.2 _,yW _ _ _,KI _ _ _ hb.1.2,?_⟩,hy.2⟩);unfold eG
 split
 ·exact ⟨by simp,by simp; omega⟩
 ·simp
structure M.DrNode (n:aK):Prop where
 w:M.NodWf n
 b:n.bw.b4.length<=16
 k:n.bf.length<=10
theorem Q5:pP ⟨0,0,0,[]⟩:=λx hx=>by simp at hx
theorem ST{m:ag}{b:List Int}(hm:M.DrMan m b){x:bD}(hp:M.Part m 40 x){l:List bO}(hl:l.length<=10)(o:Bool)(i q ph dr:Int):M.DrNode ⟨o,i,q,m,x,ph,l,dr⟩:=by
 have h1:=hm.n;have h2:=hm.l;have h3:=hp.l;exact ⟨⟨by show m.aC.length<=1048576; omega,hp.b,by show l.length<=1048577; omega,hm.w⟩,by show x.b4.length<=16; omega,hl⟩
theorem V0{u:Nat}(hu:1099511627776<=u){code:List Int}(h:code.length<=1048576):Ev (wa u code) Cu:=by
 obtain ⟨c,e,hc⟩:=TU hu h;exact Ub e hc
def o9(t:cF)(k:Int):aK:=if iZ t && am k 1 ((t.cf.length:Int) - 1) then ⟨true,(t.cf[k.toNat]?).getD 0,0,⟨0,0,0,[]⟩,⟨0,[]⟩,0,[],0⟩ else ⟨false,0,0,⟨0,0,0,[]⟩,⟨0,[]⟩,0,[],0⟩
theorem U8{t:cF}{k:Int}(h:am k 1 ((t.cf.length:Int) - 1)=true):c6 t.cf k=some ((t.cf[k.toNat]?).getD 0):=by
 have:=bX h;obtain ⟨j,rfl⟩:∃ j:Nat,k=j:=⟨k.toNat,by omega⟩;rw [cM,r0,tw (by omega)];rfl
theorem zh{u:Nat}(hu:1099511627776<=u){t:cF}(ht:t.cf.length<=1048576)(k:Int):lL u t k=some (o9 t k):=by
 unfold lL o9;rw [wP hu (by omega),cU (by omega) (by omega),bC];simp only [wk];unfold pi
 cases iZ t with
 | false=>rfl
 | true =>
  cases h:am k 1 ((t.cf.length:Int) - 1) with
  | false=>rfl
  | true=>simp only [zQV,cond_false,U8 h,wk,rN]; rfl
theorem V1{g:Int}{b:List Int}(hb:mI 240 b):M.DiskIn ⟨b,[],⟨g,0,b.length⟩,[]⟩:=by
 have:=hb.1;exact ⟨⟨by show b.length<=1048576; omega,by simp,by simp,by simp⟩,⟨hb.2,by simp [aq],by simp⟩,by simp⟩
theorem Lm(u:Nat){c:aG}(hc:Cu c):Ev (pg u c) λv=>wU v.1=true/\Cu v.2:=by
 unfold pg;refine bn (cB u hc _) λa ha=>bn (BM u ha.2 (by simp)) λw hw=>bn (cB u hw.2 _) λs hs=>bn (cB u hs.2 _) λf hf=>b7 ⟨?_,hf.2⟩;have a1:=ha.1.1;have a2:=ha.1.2 (by omega);have s1:=hs.1.1;have s2:=hs.1.2 (by omega);have f1:=hf.1.1;have f2:=hf.1.2 (by omega);have w1:1<=w.1/\w.1<=40:=by
  have:=hw.1;simp only [zXy,zZw,or_false] at this;rcases this with h | h | h | h | h <;> omega
 unfold wU am;simp only [cd (show -9223372036854775808<=2+a.1 by omega) (show 2+a.1<=9223372036854775807 by omega),cd (show -9223372036854775808<=1+s.1 by omega) (show 1+s.1<=9223372036854775807 by omega),cd (show -9223372036854775808<=2+f.1 by omega) (show 2+f.1<=9223372036854775807 by omega),sY,decide_eq_true_eq];omega
theorem SU(u:Nat){c:aG}(hc:Cu c):Ev (uA u c) λv=>Cu v.2:=by
 unfold uA;refine bn (Lm u hc) λr hr=>bn (cB u hr.2 _) λk hk=>?_;refine bY (λ_=>bn (BM u hk.2 (by simp)) λx hx=>b7 hx.2) (λ_=>?_);refine bY (λ_=>bn (BM u hk.2 (by simp)) λx hx=>b7 hx.2) (λ_=>?_);refine bY (λ_=>bn (BM u hk.2 (by simp)) λx hx=>b7 hx.2) (λ_=>?_);exact bY (λ_=>bn (BM u hk.2 (by simp)) λx hx=>b7 hx.2) (λ_=>b7 hk.2)
structure M.DrD (d:aA):Prop where
 o:M.DOk d
 l:d.fP.length<=201
theorem Ud{u:Nat}(hu:1099511627776<=u){c:aG}(hc:Cu c):Ev (tM u c) λv=>M.DrD v.1/\Cu v.2:=by
 obtain ⟨d,c',e,h,h2⟩:=TV hu hc;exact Ub e ⟨⟨h.1,h.2⟩,h2⟩
def Vu(g:Int)(b:List Int)(size:Int):ag:=⟨g,size,b.length,tn b size⟩
theorem SV{g:Int}{b:List Int}{size:Int}(hs:dP size b.length=true)(hg:am g 1 1000000=true):eG g b size=Vu g b size:=by
 unfold eG Vu;rw [hs,hg]; rfl
def SW(L:List cg):Nat->Nat->Int->Int
 | 0,_,n=>n
 | d+1,i,n=>SW L d (i+1) (if ((L.take i).map gB).contains ((L[i]?.map gB).getD []) then aQ .i64 n 1 else n)
theorem RQ{L:List cg}{d i:Nat}{n:Int}(hi:i < L.length):SW L (d+1) i n=SW L d (i+1) (if ((L.take i).map gB).contains (gB L[i]) then aQ .i64 n 1 else n):=by
 rw [SW,tw hi]; rfl
theorem Q6{α:Type}{L:List α}{i:Nat}(hi:i < L.length):c6 L (i:Int)=some L[i]:=by simp [c6,hi]
theorem U9(ks:List (List Int))(y x:List Int):(JP ks y).contains x=(ks.contains x || x == y):=by
 unfold JP
 by_cases h:ks.contains y=true
 ·rw [if_pos h]
  by_cases hx:x=y
  ·subst hx; rw [h]; simp
  ·have:(x == y)=false:=by simpa using hx
   rw [this,Bool.or_false]
 ·rw [if_neg h];rw [zYQ];simp
theorem PJ(L:List cg){i:Nat}(hi:i < L.length)(x:List Int):((L.take (i+1)).map gB).contains x=(((L.take i).map gB).contains x || x == gB L[i]):=by
 rw [List.take_succ_eq_append_getElem hi,List.map_append,zYQ];simp
theorem RR{u:Nat}(p0:World)(hl:p0.bq.length<=1048576):∀ (d i k:Nat) (n:Int) (ks:List (List Int)),i+d=p0.bq.length->d < k->(∀ x,ks.contains x=((p0.bq.take i).map gB).contains x) ->
  gO u k n ks p0 (i:Int)=some (SW p0.bq d i n)
 | 0,i,k,n,ks,hi,hk,h=>by
  obtain ⟨k,rfl⟩:∃ j,k=j+1:=⟨k - 1,by omega⟩;unfold gO;have:¬ ((i:Int) < (p0.bq.length:Int)):=by omega
  simp only [this,decide_false,cond_false];rfl
 | d+1,i,k,n,ks,hi,hk,h=>by
  obtain ⟨k,rfl⟩:∃ j,k=j+1:=⟨k - 1,by omega⟩;unfold gO;have hlt:i < p0.bq.length:=by omega
  have:((i:Int) < (p0.bq.length:Int)):=by omega
  simp only [this,decide_true,cond_true,Q6 hlt,wk];rw [cu (show i < 9223372036854775807 by omega),RR p0 hl d (i+1) k _ _ (by omega) (by omega) λx=>by rw [U9,PJ _ hlt,h]];rw [h,RQ hlt,Bool.cond_eq_ite]
theorem N3{u:Nat}(p0:World)(hl:p0.bq.length<=1048576)(c:Int->Int->World->Option Int)(n:Int)(i:Nat)(hi:i < p0.bq.length):∀ (d j k:Nat) (s:Bool),j+d=i->d < k->s=((p0.bq.take j).map gB).contains (gB p0.bq[i]) ->
  df u c k n (i:Int) s (j:Int) p0=lq u c n (i:Int) (((p0.bq.take i).map gB).contains (gB p0.bq[i])) p0
 | 0,j,k,s,hj,hk,hs=>by
  obtain ⟨k,rfl⟩:∃ j,k=j+1:=⟨k - 1,by omega⟩;obtain rfl:j=i:=by omega
  unfold df;have:¬ ((j:Int) < (j:Int)):=by omega
  simp only [this,decide_false,cond_false];rw [hs]
 | d+1,j,k,s,hj,hk,hs=>by
  obtain ⟨k,rfl⟩:∃ j,k=j+1:=⟨k - 1,by omega⟩;have hlt:j < p0.bq.length:=by omega
  have:((j:Int) < (i:Int)):=by omega
  have ht:=PJ p0.bq hlt (gB p0.bq[i]);unfold df;simp only [this,decide_true,cond_true]
  cases hq:s with
  | true =>
   simp only [cond_true];unfold gP;rw [cu (show j < 9223372036854775807 by omega)];exact N3 p0 hl c n i hi d (j+1) k true (by omega) (by omega) (by rw [ht,<- hs,hq]; rfl)
  | false =>
   simp only [cond_false,Q6 hlt,Q6 hi,wk];unfold gP;rw [cu (show j < 9223372036854775807 by omega)];refine N3 p0 hl c n i hi d (j+1) k _ (by omega) (by omega) ?_;rw [ht,<- hs,hq,Bool.false_or];show (gB p0.bq[j] == gB p0.bq[i])=_;exact BEq.comm
theorem N4{u:Nat}(hu:1099511627776<=u)(p0:World)(hl:p0.bq.length<=1048576):∀ (d i k:Nat) (n:Int),i+d=p0.bq.length->d < k->cK u k n (i:Int) p0=some (SW p0.bq d i n)
 | 0,i,k,n,hi,hk=>by
  obtain ⟨k,rfl⟩:∃ j,k=j+1:=⟨k - 1,by omega⟩;unfold cK;have:¬ ((i:Int) < (p0.bq.length:Int)):=by omega
  simp only [this,decide_false,cond_false];rfl
 | d+1,i,k,n,hi,hk=>by
  obtain ⟨k,rfl⟩:∃ j,k=j+1:=⟨k - 1,by omega⟩;unfold cK;have hlt:i < p0.bq.length:=by omega
  have:((i:Int) < (p0.bq.length:Int)):=by omega
  simp only [this,decide_true,cond_true];have e:=N3 (u:=u) p0 hl (λz0 z1 z2=>cK u k z0 z1 z2) n i hlt i 0 u false (by omega) (by omega) (by simp);rw [show ((0:Nat):Int)=0 from rfl] at e;rw [e];unfold lq og;rw [RQ hlt,cu (show i < 9223372036854775807 by omega),Bool.cond_eq_ite]
  split
  ·exact N4 hu p0 hl d (i+1) k _ (by omega) (by omega)
  ·exact N4 hu p0 hl d (i+1) k _ (by omega) (by omega)
theorem xN{u:Nat}(hu:1099511627776<=u){l:List bg}(hl:l.length<=1048576)(hb:∀ x∈l,x.fB.length<=1048576):iK u l=some l:=by
 unfold iK;rw [Cc u l _ u (by omega) (by omega),zR 1048576 l _ l 0 [] (λ_ h=>h) (by simp; omega)]
 ·rfl
 ·intro x i s k hx hs;have h4:=hb x hx;unfold vo;rw [bu (by simp; omega)];simp only [wk];rw [bu (by simp; omega)]; rfl
theorem PK{α ρ:Type}{fin:List α->Option ρ}{body:α->Nat->List α->(List α->Option ρ)->Option ρ}(n:Nat)(p:List α)(hb:∀ x i s k,p[i]?=some x->s.length+1<=n->body x i s k=k (s++[x])) :
  ∀ (l:List α) (i:Nat) (s:List α),l=p.drop i->s.length+l.length<=n->bP fin body l i s=fin (s++l):=by
 intro l
 induction l with
 | nil=>intro i s _ _; simp [bP]
 | cons x l ih =>
  intro i s h1 h2;simp only [zQW] at h2;have h3:p[i]?=some x:=by
   have:=congrArg (λl=>l[0]?) h1
   simpa using this.symm
  have h4:l=p.drop (i+1):=by
   have:=congrArg (List.drop 1) h1
   simpa using this
  simp only [bP];rw [hb x i s _ h3 (by omega),ih (i+1) _ h4 (by simp; omega)];simp
theorem zZ{u:Nat}(hu:1099511627776<=u){l:List ak}(hl:l.length<=1048576)(hb:∀ x∈l,x.fB.length<=1048576):jz u l=some l:=by
 unfold jz;rw [xQ u l _ u (by omega) (by omega),PK 1048576 l _ l 0 [] (by simp) (by simp; omega)]
 ·rfl
 ·intro x i s k hx hs;have h4:=hb x (zQY hx);unfold qh;rw [ic l i hx];simp only [wk];rw [bu (by simp; omega)];simp only [wk];rw [bu (by simp; omega)]; rfl
structure M.WCp (w:World):Prop where
 t:w.fT.cf.length<=1048576
 new:w.b5.length<=1048576
 ol:w.bS.length<=1048576
 old:∀ x∈w.bS,x.fB.length<=1048576
 nl:w.fN.length<=1048576
 n:∀ x∈w.fN,M.NodWf x
 dl:w.fD.length<=1048576
 d:∀ x∈w.fD,M.DOk x
 pl:w.bE.length<=1048576
 p:∀ x∈w.bE,yg x
 ll:w.bq.length<=1048576
theorem IU{u:Nat}(hu:1099511627776<=u){w:World}(h:M.WCp w):rX u w=some w:=by
 have h1:=h.t;have h2:=h.new;have h3:=h.nl;have h4:=h.dl;have h5:=h.ll;unfold rX;rw [bu (by simp; omega),bu (by simp; omega)];simp only [wk];rw [xN hu h.ol h.old];simp only [wk];rw [DX u w _ _ u (by omega) (by omega),zR 1048576 w.fN _ w.fN 0 [] (λ_ h=>h) (by simp; omega)]
 ·unfold w7 qP;rw [DW u w _ _ _ u (by omega) (by omega),zR 1048576 w.fD _ w.fD 0 [] (λ_ h=>h) (by simp; omega)]
  ·unfold w5 qO;rw [zZ hu h.pl λx hx=>(h.p x hx).2];simp only [wk];rw [bu (by simp; omega)];rfl
  ·intro x i s k hx hs;unfold w6;rw [fM hu (h.d x hx)];simp only [wk];rw [bu (by simp; omega)]; rfl
 ·intro x i s k hx hs;unfold w8;rw [eS u (h.n x hx)];simp only [wk];rw [bu (by simp; omega)]; rfl
structure M.DrW (w:World):Prop where
 wf:M.WWf w
 ol:w.bS.length=w.fT.cf.length
 old:∀ x∈w.bS,mI 240 x.fB
 new:mI 16 w.b5
 log:w.bq.length<=3000
structure M.NewW (w:World):Prop where
 d:M.DrW w
 net:w.bE=[]
 lost:w.bB=0
 log:w.bq=[]
 c:wU w.fC=true
 s:dP w.fC.aw w.b5.length=true
 root:∀ n,w.fN[0]?=some n->n=⟨true,-1,0,eG 1 w.b5 w.fC.aw,jW (eG 1 w.b5 w.fC.aw) w.b5,6,[],0⟩
 node:∀ (j:Nat) (n:aK),j≠0->w.fN[j]?=some n->n=o9 w.fT j
 disk:∀ (j:Nat) (d:aA) (o:bg),w.fD[j]?=some d->w.bS[j]?=some o->d=⟨o.fB,[],⟨0,0,o.fB.length⟩,[]⟩
theorem Ue{w:World}(h:M.DrW w):M.WCp w:=by
 have h0:=DK h.wf;have h1:=h.wf.nl;have h2:=h.wf.dl;have h3:=h.wf.len;have h4:=h.ol;have h5:=h.log;have h6:=h.new.1;refine ⟨by omega,by omega,by omega,λx hx=>by have:=(h.old x hx).1; omega,by omega,λx hx=>?_,by omega,λx hx=>?_,by omega,λx hx=>(h.wf.net x hx).w,by omega⟩
 ·obtain ⟨j,hj⟩:=List.mem_iff_getElem?.1 hx;exact (h.wf.nodes j x hj).w
 ·obtain ⟨j,hj⟩:=List.mem_iff_getElem?.1 hx;exact (h.wf.disks j x hj).o
theorem RS{t:cF}(ht:iZ t=true){k:Nat}(h0:0 < k)(hk:k < t.cf.length):M.NodeIn t k (o9 t k):=by
 have hw:am (k:Int) 1 ((t.cf.length:Int) - 1)=true:=by unfold am; simp; omega
 unfold o9;simp only [ht,hw,zYW,if_true];refine ⟨⟨by simp,⟨by simp [aq],by simp⟩,by simp,Q5⟩,⟨by simp [dp],by simp [dp]⟩,λz hz=>by simp [dp] at hz,λ_=>?_⟩
 ·rw [r0,tw hk];have:=M0 ht h0 (tw hk);unfold fO am;simp;omega
theorem PL{u:Nat}(hu:1099511627776<=u)(t:cF){m:ag}{b:List Int}(hm:M.DrMan m b)(hg:m.aS≠0)(ht:M.tells m b=true):nQ u m b=some ⟨true,-1,0,m,jW m b,6,[],0⟩/\M.NodeIn t 0 ⟨true,-1,0,m,jW m b,6,[],0⟩:=by
 have h1:=hm.n;have h2:=hm.i.1;have mk:∀ n:aK,M.DrNode n->n.bf=[]->M.NodeIn t 0 n:=λn hn hk=>⟨hn.w,by rw [hk]; exact ⟨by simp [dp],by simp [dp]⟩,λz hz=>by rw [hk] at hz; simp [dp] at hz,λh=>absurd rfl h⟩;refine ⟨?_,mk _ (ST hm (GQ (BJ hm.o hm.i.2 (by omega)) h1) (by simp) _ _ _ _ _) rfl⟩;have e0:(m.aS == 0)=false:=by simpa using hg
 unfold nQ;rw [e0,fL hu m (by omega),hm.o];simp only [cond_false,wk,zQV,CO hu m hm.i.2 (show b.length<=1048576 by omega),ht];unfold lZ;simp only [cond_false,wR u (show m.aC.length<=1048576 by omega),wk,xK hu (show m.aC.length<=1048576 by omega) hm.i.2 (show b.length<=1048576 by omega)]
theorem Uf{u:Nat}{b:List Int}(hb:mI 16 b)(g s:Int):M.DrMan (eG g b s) b:=by
 have h1:=hb.1;refine ⟨hb,HE _ hb.2 _,yW _ _ _,KI _ _ _ hb.2,?_⟩;unfold eG
 split
 ·exact ⟨by simp,by simp; omega⟩
 ·simp
theorem PM{u:Nat}(hu:1099511627776<=u){c:ia}(hc:wU c=true){t:cF}(ht:Fs t){b:List Int}(hb:mI 16 b){old:List bg}(ho:old.length=t.cf.length)(hol:∀ x∈old,mI 240 x.fB):Ev (qg u c t b old) M.NewW:=by
 have t1:=ht.2.1;have t2:=ht.2.2;have b1:=hb.1;have hs:dP c.aw (b.length:Int)=true:=by
  unfold wU at hc;simp only [sY] at hc;have:=bX hc.1.1.1;unfold dP;simp only [hc.1.1.1,zWx];unfold am;simp;omega
 have hoo:Fn old (t.cf.length:Int)=true:=by
  unfold Fn;simp only [sY];refine ⟨List.all_eq_true.2 λx hx=>?_,by simp [ho]⟩;have:=(hol x hx).1;simp;omega
 have ht1:M.tells (eG 1 b c.aw) b=true:=PI hs (by decide);have hg1:(eG 1 b c.aw).aS≠0:=by rw [SV hs (by decide)]; show (1:Int)≠0; decide
 obtain ⟨hr1,hr2⟩:=PL hu t (Uf (u:=u) hb 1 c.aw) hg1 ht1;have loop:∀ (m k i:Nat) (ns:List aK) (ds:List aA),i+m=t.cf.length->m < k->ns.length=i->ds.length=i ->
   (∀ (j:Nat) (n:aK),ns[j]?=some n->n=if j=0 then ⟨true,-1,0,eG 1 b c.aw,jW (eG 1 b c.aw) b,6,[],0⟩ else o9 t j)->(∀ (j:Nat) (d:aA),ds[j]?=some d->∃ o,old[j]?=some o/\d=⟨o.fB,[],⟨0,0,o.fB.length⟩,[]⟩) ->
   Ev (da u k b old (i:Int) c t old ns ds) M.NewW:=by
  intro m
  induction m with
  | zero =>
   intro k i ns ds hi hk h1 h2 h3 h4;obtain ⟨k,rfl⟩:∃ j,k=j+1:=⟨k - 1,by omega⟩;unfold da;have:¬ (i:Int) < (t.cf.length:Int):=by omega
   simp only [this,decide_false,cond_false,pk];refine b7 ⟨⟨⟨ht.1,by show ns.length=t.cf.length; omega,by show ds.length=t.cf.length; omega,λj n hn=>?_,λj d hd=>?_,λp hp=>by simp at hp,by simp⟩,ho,hol,by simpa using hb,by simp⟩,rfl,rfl,rfl,hc,by simpa using hs,λn hn=>by simpa using h3 0 n hn,λj n h0 hn=>(h3 j n hn).trans (if_neg h0),λj d o hd ho'=>?_⟩
   ·have e:=h3 j n hn
    by_cases h0:j=0
    ·subst h0;rw [e,if_pos rfl];exact hr2
    ·rw [e,if_neg h0];exact RS ht.1 (by omega) (by have:=(List.getElem?_eq_some_iff.1 hn).1; have:j < ns.length:=this; omega)
   ·obtain ⟨o,h5,h6⟩:=h4 j d hd;rw [h6];exact V1 (hol o (zQY h5))
   ·obtain ⟨o',h5,h6⟩:=h4 j d hd;have ho':old[j]?=some o:=ho';rw [h5] at ho'
    cases ho'
    exact h6
  | succ m ih =>
   intro k i ns ds hi hk h1 h2 h3 h4;obtain ⟨k,rfl⟩:∃ j,k=j+1:=⟨k - 1,by omega⟩;unfold da;have hlt:(i:Int) < (t.cf.length:Int):=by omega
   simp only [hlt,decide_true,cond_true];have step:∀ n:aK,(n=if i=0 then ⟨true,-1,0,eG 1 b c.aw,jW (eG 1 b c.aw) b,6,[],0⟩ else o9 t i)->Ev (ik u (λz0 z1 z2 z3 z4 z5 z6 z7=>da u k z0 z1 z2 z3 z4 z5 z6 z7) b old (i:Int) c t old ns ds n.gS n.bM n.bF n.aD.aS n.aD.aw n.aD.aY n.aD.aC n.bw.bj n.bw.b4 n.bi n.bf n.br) M.NewW:=by
    intro n hn;unfold ik;obtain ⟨x,hx⟩:∃ x,old[i]?=some x:=⟨_,tw (by omega)⟩;have hxl:=(hol x (zQY hx)).1;refine lR (by simp; omega) (gq (ic old i hx) (gq (KQ u (g:=0) (by decide) (by decide) hxl).1 (lR (by simp; omega) ?_)));rw [cu (show i < 9223372036854775807 by omega)];refine ih k (i+1) _ _ (by omega) (by omega) (by simp [h1]) (by simp [h2]) (λj n' hj=>?_) (λj d' hj=>?_)
    ·by_cases hji:j < ns.length
     ·rw [rg hji] at hj;exact h3 j n' hj
     ·rw [zQQ (by omega)] at hj
      cases hq:j - ns.length with
      | zero =>
       rw [hq] at hj;simp only [zWV,Option.some.injEq] at hj;have:j=i:=by omega
       subst this hj;exact hn
      | succ q=>rw [hq] at hj; simp at hj
    ·by_cases hji:j < ds.length
     ·rw [rg hji] at hj;exact h4 j d' hj
     ·rw [zQQ (by omega)] at hj
      cases hq:j - ds.length with
      | zero =>
       rw [hq] at hj;simp only [zWV,Option.some.injEq] at hj;have:j=i:=by omega
       subst this;exact ⟨x,hx,hj.symm⟩
      | succ q=>rw [hq] at hj; simp at hj
   refine gq (zh hu (by omega) _) ?_
   cases i with
   | zero =>
    refine bY (λ_=>?_) (λe=>by simp at e);refine gq (r:=kv u _) (v:=eG 1 b c.aw) ?_ (gq hr1 (step _ rfl));unfold kv;simp only [zQy];rw [uf hu hb.2 (by omega)];rfl
   | succ i =>
    refine bY (λe=>?_) (λ_=>step _ (by simp));simp at e;omega
 unfold qg;refine gq (Lj u c) ?_;rw [hc];refine bY (λe=>by cases e) λ_=>gq (wP hu (by omega)) ?_;rw [ht.1];refine bY (λe=>by cases e) λ_=>gq (o6 u _ _) ?_;rw [hs];refine bY (λe=>by cases e) λ_=>gq (IT hu (by omega) _) ?_;rw [hoo];unfold jY;refine bY (λe=>by cases e) λ_=>lR (by simp; omega) (lR (by simp; omega) (gq (xN hu (by omega) λx hx=>by have:=(hol x hx).1; omega) ?_));exact loop t.cf.length u 0 [] [] (by omega) (by omega) rfl rfl (λj n h=>by simp at h) (λj n h=>by simp at h)
theorem SX{u:Nat}(hu:1099511627776<=u){c:aG}(hc:Cu c):Ev (un u c) λv=>M.NewW v.1/\Cu v.2:=by
 unfold un;refine bn (Lk u hu hc) λr1 hr1=>bn (Q4 hu hr1.2) λr2 hr2=>?_;have t1:=hr1.1.2.1;have t2:=hr1.1.2.2;have loop:∀ (m k i:Nat) (xs:List bg) (c:aG),i+m=r1.1.cf.length->m < k->xs.length=i->(∀ x∈xs,mI 240 x.fB)->Cu c->Ev (gJ u k r2 xs (i:Int) r1 c.fB c.fI c.fH) λv=>M.NewW v.1/\Cu v.2:=by
  intro m
  induction m with
  | zero =>
   intro k i xs c hi hk h1 h2 hc;obtain ⟨k,rfl⟩:∃ j,k=j+1:=⟨k - 1,by omega⟩;unfold gJ;have:¬ (i:Int) < (r1.1.cf.length:Int):=by omega
   simp only [this,decide_false,cond_false,rU];exact bn (Lm u (wV hc)) λq hq=>bn (PM hu hq.1 hr1.1 hr2.1 (by omega) h2) λw hw=>b7 ⟨hw,hq.2⟩
  | succ m ih =>
   intro k i xs c hi hk h1 h2 hc;obtain ⟨k,rfl⟩:∃ j,k=j+1:=⟨k - 1,by omega⟩;unfold gJ;have hlt:(i:Int) < (r1.1.cf.length:Int):=by omega
   simp only [hlt,decide_true,cond_true];refine bn (VY hu (wV hc) (Ll hr2.1 (by omega))) λq hq=>lR (by simp; omega) ?_;rw [cu (show i < 9223372036854775807 by omega)];refine ih k (i+1) _ q.2 (by omega) (by omega) (by simp [h1]) (λx hx=>?_) hq.2;rcases List.mem_append.1 hx with hx | hx
   ·exact h2 x hx
   ·simp only [zXy,zZw,or_false] at hx;subst hx;exact hq.1
 exact loop r1.1.cf.length u 0 [] r2.2 (by omega) (by omega) rfl (by simp) hr2.2
theorem Q7(u:Nat){c:aG}(hc:Cu c){b:List Int}{N:Nat}(hN:N<=1000000)(hb:b.length<=N)(hB:aq b):Dr (mM u c b) (mI (N+1)):=by
 unfold mM;rw [bu (by simp; omega)];simp only [wk,zQy];have hlt:∀ {v:Int},0<=v->v < (b.length:Int)->∃ y,c6 b v=some y:=λ{v} h0 h1=>by
  obtain ⟨i,rfl⟩:∃ i:Nat,v=(i:Int):=⟨v.toNat,by omega⟩;exact ⟨b[i]'(by omega),by rw [cM]; exact tw (by omega)⟩
 have self:mI (N+1) b:=⟨by omega,hB⟩;refine cc (co u hc 6) λn c1 _ h1=>?_;simp only
 cases n == 0 with
 | true =>
  simp only [cond_true]
  by_cases hl:(b.length:Int) > 0
  ·simp only [hl,decide_true,cond_true];refine cc (co u h1 _) λv c2 hv h2=>?_;refine cc (co u h2 256) λw c3 _ h3=>?_;obtain ⟨y,hy⟩:=hlt hv.1 (hv.2 hl);simp only [hy,wk,b6];exact cD ⟨by rw [zXZ]; omega,B4 hB _ (SD _)⟩ h3
  ·simp only [hl,decide_false,cond_false,b6];exact cD self h1
 | false =>
  simp only [cond_false]
  cases n == 1 with
  | true =>
   simp only [cond_true];rw [cu (by omega)];refine cc (co u h1 _) λv c2 hv h2=>?_;have h3:=hv.2 (by omega);have hs:cy 0 v (b.length:Int)=true:=by simp [cy]; omega
   simp only [hs,A4,wk,b6];exact cD ⟨by rw [zYx,zQh]; omega,zV (zU hB _) _⟩ h2
  | false =>
   simp only [cond_false]
   cases n == 2 with
   | true =>
    simp only [cond_true];refine cc (nJ u h1 (by simp)) λv c2 _ h2=>?_;rw [bu (by simp; omega)];simp only [wk,b6];exact cD ⟨by rw [zQw,zYY]; omega,vY hB (GJ _)⟩ h2
   | false =>
    simp only [cond_false]
    cases n == 3 with
    | true =>
     simp only [cond_true]
     by_cases hl:(b.length:Int) > 0
     ·simp only [hl,decide_true,cond_true];refine cc (co u h1 _) λv c2 hv h2=>?_;obtain ⟨y,hy⟩:=hlt hv.1 (hv.2 hl);simp only [hy,wk];refine cc (co u h2 8) λw c3 hw h3=>?_;have hw0:=hw.1;simp only [hy];rw [bu hw0];simp only [wk,b6];exact cD ⟨by rw [zXZ]; omega,B4 hB _ (by unfold Nf; exact SD _)⟩ h3
     ·simp only [hl,decide_false,cond_false,b6];exact cD self h1
    | false =>
     simp only [cond_false,b6];exact cD self h1
def IV(out:List ak):Prop:=∀ q∈out,q.fB.length<=1000
theorem RT:IV []:=λq hq=>by simp at hq
theorem WK(me t:Int)(m:fz):(kM me t m).fB.length<=1000:=by
 have:=DJ m;show (iY m).length<=1000;omega
theorem Wv{me t:Int}(m:fz):IV [kM me t m]:=λq hq=>by
 simp only [zQq] at hq;subst hq; exact WK _ _ _
theorem N5{n:aK}{me f:Int}:IV (fm n me f).mL:=λq hq=>by
 unfold fm at hq;simp only [zXh] at hq;obtain ⟨i,_,rfl⟩:=hq;exact WK _ _ _
theorem Mc{n:aK}{me f:Int}(m:fz):IV (ew n me f m).mL:=by
 unfold ew
 split
 ·exact RT
 ·split
  ·exact Wv _
  ·split
   ·dsimp only
    split
    ·exact Wv _
    ·exact N5
   ·exact Wv _
theorem V2{n:aK}{me i:Int}:∀ (l:List bO) (s:List bO×List ak),IV s.2->IV (l.foldl (eC n me i) s).2:=by
 intro l
 induction l with
 | nil=>intro s h; exact h
 | cons x l ih =>
  intro s h;refine ih _ λq hq=>?_;unfold eC at hq
  split at hq
  ·simp only [zWK,zQq] at hq;rcases hq with hq | rfl
   ·exact h q hq
   ·exact WK _ _ _
  ·exact h q hq
theorem Q8{n:aK}{me i:Int}:IV (jh n me i).mL:=by
 unfold jh
 split
 ·exact V2 _ _ RT
 ·exact RT
theorem Va{t:cF}{me:Int}{n:aK}(d:aA)(p:ak):IV (M.take t me n d p).mL:=by
 unfold M.take
 split
 ·exact RT
 ·split
  ·split
   ·exact Mc _
   ·split
    ·unfold jy
     split
     ·exact RT
     ·split
      ·unfold kN
       split
       ·exact RT
       ·split
        ·exact RT
        ·split
         ·exact Q8
         ·exact RT
      ·first | exact RT | (split <;> exact RT)
    ·exact RT
  ·exact RT
theorem Vb{t:cF}(c:ia){k:Int}{n:aK}(d:aA):IV (M.tick t c k n d).mL:=by
 unfold M.tick
 split
 ·exact RT
 ·split
  ·exact RT
  ·split
   ·exact Wv _
   ·exact Wv _
structure M.DrN (n:Nat) (w:World):Prop where
 d:M.DrW w
 len:∀ p∈w.bE,p.fB.length<=1000+n
 l0:0<=w.bB
 l1:w.bB<=n*1048577
theorem Vc{w:World}(h:M.DrW w)(h0:w.bE=[])(h1:w.bB=0):M.DrN 0 w:=⟨h,λp hp=>by rw [h0] at hp; simp at hp,by omega,by omega⟩
theorem DL{n:Nat}{w:World}(h:M.DrN n w):M.DrN (n+1) w:=⟨h.d,λp hp=>by have:=h.len p hp; omega,h.l0,by have:=h.l1; omega⟩
theorem Q9{N K:Nat}(hN:1000<=N):∀ (out:List ak) (s:List ak×List cg×Int),IV out->(∀ p∈s.1,p.fB.length<=N)->s.2.1.length<=3000->0<=s.2.2->s.2.2<=K->K+out.length<=4611686018427387904 ->
  (∀ p∈(out.foldl cP s).1,p.fB.length<=N)/\(out.foldl cP s).2.1.length<=3000/\0<=(out.foldl cP s).2.2/\(out.foldl cP s).2.2<=K+out.length:=by
 intro out
 induction out generalizing K with
 | nil=>intro s _ h1 h2 h3 h4 _; exact ⟨h1,h2,h3,by simpa using h4⟩
 | cons x out ih =>
  intro s hs h1 h2 h3 h4 h5;simp only [zQW] at h5;rw [zYH];have hx:=hs x (by simp);have hs':IV out:=λq hq=>hs q (by simp [hq])
  by_cases hl:400<=s.1.length
  ·have e:cP s x=(s.1,s.2.1,aQ .i64 s.2.2 1):=by unfold cP; rw [if_pos hl]
   rw [e,cd (by omega) (by omega)];obtain ⟨a,b,c,d⟩:=ih (K:=K+1) (s.1,s.2.1,s.2.2+1) hs' h1 h2 (by show 0<=s.2.2+1; omega) (by show s.2.2+1<=((K+1:Nat):Int); omega) (by omega);exact ⟨a,b,c,by simp only [zQW]; omega⟩
  ·have e:(cP s x).1=s.1++[x]/\(cP s x).2.2=s.2.2/\(cP s x).2.1.length<=3000:=by
    unfold cP;rw [if_neg hl];refine ⟨rfl,rfl,?_⟩;dsimp only
    split
    ·rename_i hc;simp only [sY,decide_eq_true_eq] at hc;simp only [zQw,zYY];omega
    ·exact h2
   obtain ⟨a,b,c,d⟩:=ih (K:=K) (cP s x) hs' (λp hp=>by
    rw [e.1] at hp;rcases List.mem_append.1 hp with hp | hp
    ·exact h1 p hp
    ·simp only [zQq] at hp;subst hp;omega) e.2.2 (by rw [e.2.1]; exact h3) (by rw [e.2.1]; exact h4) (by omega)
   exact ⟨a,b,c,by simp only [zQW]; omega⟩
theorem PN{n:Nat}{w:World}(hn:n<=1000)(h:M.DrN n w){out:List ak}(ho:∀ p∈out,M.PkIn w.fT p)(hs:IV out)(hl:out.length<=1048576):M.DrN (n+1) (Lb w out):=by
 have l1:=h.l1;obtain ⟨a,b,c,d⟩:=Q9 (N:=1000+n) (K:=n*1048577) (by omega) out (w.bE,w.bq,w.bB) hs h.len h.d.log h.l0 (by show w.bB<=((n*1048577:Nat):Int); omega) (by omega);exact ⟨⟨T8 h.d.wf ho,h.d.ol,h.d.old,h.d.new,b⟩,λp hp=>by have:=a p hp; omega,c,by show (out.foldl cP (w.bE,w.bq,w.bB)).2.2<=_; omega⟩
theorem PO(s:Int):∀ (l:List dA) (i:Nat) (d:aA),(∀ p∈l,aq p.fB)->M.DB d->M.DB (tu s l i d)
 | [],i,d,_,hd=>⟨hd.a,hd.b,by simp [tu]⟩
 | p :: l,i,d,h,hd=>by
  unfold tu;refine PO s l (i+1) _ (λq hq=>h q (by simp [hq])) ?_
  split
  ·exact MZ hd (h p (by simp))
  ·exact hd
theorem Vd{d:aA}(hd:M.DiskIn d)(s:Int):M.DiskIn (M.fall d s):=by
 refine ⟨UT hd.o s,?_,?_⟩
 ·unfold M.fall
  split
  ·exact PO s _ _ _ (λp hp=>hd.b.p p hp) hd.b
  ·exact hd.b
 ·cases h:cE d with
  | true=>rw [TW h]; simp
  | false=>unfold M.fall; rw [h]; exact hd.l
theorem PP{n:Nat}{w:World}(h:M.DrN n w){k:Nat}{x:aK}{d:aA}(hn:M.NodeIn w.fT k x)(hd:M.DiskIn d):M.DrN n (t6 w k x d):=⟨⟨PF h.d.wf hn hd,h.d.ol,h.d.old,h.d.new,h.d.log⟩,h.len,h.l0,h.l1⟩
theorem Vv{n:Nat}{w:World}(h:M.DrN n w){k:Nat}{x:aK}(hn:M.NodeIn w.fT k x):M.DrN n (Lh w k x):=⟨⟨Ua h.d.wf hn,h.d.ol,h.d.old,h.d.new,h.d.log⟩,h.len,h.l0,h.l1⟩
theorem Md{n:Nat}{w:World}(hn:n<=1000)(h:M.DrN n w){k:Nat}(hk:k < w.fT.cf.length):M.DrN (n+1) (uO w k):=by
 unfold uO
 split
 ·rename_i x d hx hd;have g:=RN h.d.wf.t w.fC hk (h.d.wf.nodes k x hx) (h.d.wf.disks k d hd);exact PN hn (PP h g.1 g.2.1) g.2.2.1 (Vb _ _) g.2.2.2
 ·exact DL h
theorem Ug{n:Nat}{w:World}(h:M.DrN n w)(k:Nat):M.DrN n (G0 w k):=by
 refine ⟨⟨T9 h.d.wf k,h.d.ol,h.d.old,h.d.new,h.d.log⟩,λp hp=>?_,h.l0,h.l1⟩;rcases List.mem_append.1 hp with hp | hp
 ·exact h.len p (zWZ hp)
 ·exact h.len p (zXX hp)
theorem Me{n:Nat}{w:World}(hn:n<=1000)(h:M.DrN n w)(k:Nat):M.DrN (n+1) (uP w k):=by
 unfold uP
 split
 ·rename_i p hp;have hpi:=h.d.wf.net p (zQY hp);obtain ⟨j,e,hj⟩:=Lg hpi.t;have hpl:=Ug h k;unfold Li
  split
  ·rename_i x d hx hd;rw [e,r0] at hx hd ⊢;have g:=RO (p:=p) hj (hpl.d.wf.nodes j x hx) (hpl.d.wf.disks j d hd) hpi;exact PN hn (Vv hpl g.1) g.2.1 (Va _ _) g.2.2
  ·exact DL hpl
 ·exact DL h
theorem Uh{n:Nat}{w:World}(h:M.DrN n w)(hl:w.bE.length < 400){p:ak}(hp:M.PkIn w.fT p)(hb:p.fB.length<=1000+(n+1)):M.DrN (n+1) ⟨w.fC,w.fT,w.b5,w.bS,w.fN,w.fD,w.bE++[p],w.bq,w.bB⟩:=by
 refine ⟨⟨⟨h.d.wf.t,h.d.wf.nl,h.d.wf.dl,h.d.wf.nodes,h.d.wf.disks,λq hq=>?_,by simp; omega⟩,h.d.ol,h.d.old,h.d.new,h.d.log⟩,λq hq=>?_,h.l0,by have:=h.l1; show w.bB<=_; omega⟩
 ·rcases List.mem_append.1 hq with hq | hq
  ·exact h.d.wf.net q hq
  ·simp only [zQq] at hq;subst hq;exact hp
 ·rcases List.mem_append.1 hq with hq | hq
  ·have:=h.len q hq;omega
  ·simp only [zQq] at hq;subst hq;exact hb
theorem pa{z:Int}{m:Nat}(h:am z 0 ((m:Int) - 1)=true):∃ j:Nat,z=j/\j < m:=by
 have:=bX h;exact ⟨z.toNat,by omega,by omega⟩
def np:aK:=⟨false,0,0,⟨0,0,0,[]⟩,⟨0,[]⟩,0,[],0⟩
inductive M.Step (w:World) (e:cG):World->Prop
 | no:M.Step w e w
 | tick (j:Nat) (hj:j < w.fT.cf.length):M.Step w e (uO w j)
 | take (j:Nat) (hj:j < w.bE.length):M.Step w e (uP w j)
 | lose (l:List ak) (hs:∀ p∈l,p∈w.bE) (hl:l.length<=w.bE.length):M.Step w e ⟨w.fC,w.fT,w.b5,w.bS,w.fN,w.fD,l,w.bq,w.bB+1⟩
 | push (p:ak) (hl:w.bE.length < 400) (hi:M.PkIn w.fT p) (hf:(∃ q∈w.bE,q.fB=p.fB)\/e.bK=7/\p.fB=e.fP.fB):M.Step w e ⟨w.fC,w.fT,w.b5,w.bS,w.fN,w.fD,w.bE++[p],w.bq,w.bB⟩
 | fall (j:Nat) (d:aA) (hj:j < w.fT.cf.length) (h0:j≠0) (hd:w.fD[j]?=some d) (s:Int):M.Step w e (t6 w j np (M.fall d s))
 | rise (j:Nat) (n:aK) (hj:j < w.fT.cf.length) (h0:0 < j) (hn:w.fN[j]?=some n) (ho:n.gS=false):M.Step w e (Lh w j (o9 w.fT j))
theorem Ve{u:Nat}(hu:1099511627776<=u){w:World}(h:M.WWf w)(l0:0<=w.bB)(l1:w.bB<=1099511627776){e:cG}(hb:aq e.fP.fB)(hl:e.fP.fB.length<=1048576):Ev (rr u w e) λv=>M.Step w e v.2:=by
 have up:=DK h;have nl:=h.nl;have dl:=h.dl;have pl:=h.len;have get:∀ {j:Nat},j < w.fT.cf.length->∃ x d,w.fN[j]?=some x/\w.fD[j]?=some d:=λ{j} hj=>⟨_,_,tw (by omega),tw (by omega)⟩;have none_:Ev (some (false,w)) λv=>M.Step w e v.2:=b7 .no;unfold rr;rw [cU (by omega) (by omega),cU (by omega) (by omega)];refine gq (bC u e.fN 0 _) (gq (bC u e.fN 0 _) ?_);refine bY (λ_=>bY (λe1=>?_) (λ_=>?_)) (λ_=>?_)
 ·obtain ⟨j,ej,hj⟩:=pa e1;rw [ej];refine gq (IR hu h (by omega)) ?_;unfold qv;exact b7 (.tick j (by omega))
 ·unfold qv;exact b7 .no
 refine bY (λ_=>bY (λe1=>?_) (λ_=>?_)) (λ_=>?_)
 ·obtain ⟨j,ej,hj⟩:=pa e1;rw [ej];refine gq (IS hu h hj) ?_;unfold qw;exact b7 (.take j hj)
 ·unfold qw;exact b7 .no
 refine bY (λ_=>bY (λe1=>?_) (λ_=>?_)) (λ_=>?_)
 ·obtain ⟨j,ej,hj⟩:=pa e1;rw [ej];rw [cu (show j < 9223372036854775807 by omega),cd (show -9223372036854775808<=w.bB+1 by omega) (show w.bB+1<=9223372036854775807 by omega)];refine lR (by simp [cy]; omega) (lR (by simp; omega) (lR (by simp [cy]; omega) (lR (by simp; omega) ?_)));unfold qx;refine b7 (.lose _ (λp hp=>?_) ?_)
  ·simp only [zQy,zWK] at hp;rcases hp with hp | hp
   ·exact zWZ (zXX hp)
   ·exact zWZ (zXX hp)
  ·simp;omega
 ·unfold qx;exact b7 .no
 refine bY (λ_=>?_) (λ_=>?_)
 ·have j4:∀ x:Bool,(x=false->w.bE.length < 400/\am e.fN 0 ((w.bE.length:Int) - 1)=true)->Ev (lN u x e w) λv=>M.Step w e v.2:=by
   intro x hx;unfold lN;refine bY (λ_=>none_) (λe2=>?_);obtain ⟨a1,a2⟩:=hx e2;obtain ⟨j,ej,hj⟩:=pa a2;rw [ej];have hp:=tw hj;have hpi:=h.net _ (zQY hp);have hpb:=hpi.w.2;refine gq (ic _ j hp) (lR (by simp; omega) (lR (by simp; omega) (b7 ?_)));exact .push _ a1 ⟨by simpa [yg] using hpi.w,hpi.f,hpi.t⟩ (.inl ⟨_,zQY hp,by simp⟩)
  refine bY (λ_=>j4 _ (λe=>by cases e)) (λe1=>j4 _ λe2=>⟨?_,by simpa using e1⟩);simp at e2;omega
 refine bY (λ_=>?_) (λ_=>?_)
 ·have j5:∀ x:Bool,(x=false->am e.fN 0 ((w.fN.length:Int) - 1)=true/\e.fN≠0)->Ev (jL u x e w) λv=>M.Step w e v.2:=by
   intro x hx;unfold jL;refine bY (λ_=>none_) (λe2=>?_);obtain ⟨j,ej,hj⟩:=pa (hx e2).1;have h0:j≠0:=by have:=(hx e2).2; omega
   rw [ej];obtain ⟨y,d,hy,hd⟩:=get (j:=j) (by omega);refine gq (ic _ j hy) (gq rfl (gq (ic _ j hy) (gq (ic _ j hd) (gq (r:=yy u d e.fS) (v:=M.fall d e.fS) ?_ (gq (ic _ j hd) (b7 ?_))))))
   ·unfold yy;rw [NC hu (h.disks j d hd).o];rfl
   ·rw [r0];exact .fall j d (by omega) h0 hd _
  refine bY (λ_=>j5 _ (λe=>by cases e)) (λe1=>bY (λ_=>j5 _ (λe=>by cases e)) (λe0=>?_));have e1:am e.fN 0 ((w.fN.length:Int) - 1)=true:=by simpa using e1
  obtain ⟨j,ej,hj⟩:=pa e1;obtain ⟨y,d,hy,hd⟩:=get (j:=j) (by omega);rw [show c6 w.fN e.fN=some y by rw [ej]; exact ic _ j hy];exact j5 _ λ_=>⟨e1,by simpa using e0⟩
 refine bY (λ_=>?_) (λ_=>?_)
 ·have j6:∀ x:Bool,(x=false->am e.fN 0 ((w.fN.length:Int) - 1)=true/\e.fN≠0/\∀ y,c6 w.fN e.fN=some y->y.gS=false)->Ev (jM u x e w) λv=>M.Step w e v.2:=by
   intro x hx;unfold jM;refine bY (λ_=>none_) (λe2=>?_);obtain ⟨j,ej,hj⟩:=pa (hx e2).1;have h0:0 < j:=by have:=(hx e2).2.1; omega
   have hon:=(hx e2).2.2;rw [ej] at hon ⊢;obtain ⟨y,d,hy,hd⟩:=get (j:=j) (by omega);refine gq (zh hu (by omega) _) (gq (ic _ j hy) (b7 ?_));rw [r0];exact .rise j y (by omega) h0 hy (hon y (ic _ j hy))
  refine bY (λ_=>j6 _ (λe=>by cases e)) (λe1=>bY (λ_=>j6 _ (λe=>by cases e)) (λe0=>?_));have e1:am e.fN 0 ((w.fN.length:Int) - 1)=true:=by simpa using e1
  obtain ⟨j,ej,hj⟩:=pa e1;obtain ⟨y,d,hy,hd⟩:=get (j:=j) (by omega);have hi:c6 w.fN e.fN=some y:=by rw [ej]; exact ic _ j hy
  rw [hi];exact j6 _ λe2=>⟨e1,by simpa using e0,λz hz=>by rw [hi] at hz; cases hz; exact e2⟩
 refine bY (λe7=>?_) (λ_=>none_);have j7:∀ x:Bool,(x=false->w.bE.length < 400/\am e.fP.cm 0 ((w.fN.length:Int) - 1)=true/\am e.fP.mK 0 ((w.fN.length:Int) - 1)=true)->Ev (lO u x e w) λv=>M.Step w e v.2:=by
  intro x hx;unfold lO;refine bY (λ_=>none_) (λe2=>?_);obtain ⟨a1,a2,a3⟩:=hx e2;refine lR (by simp; omega) (lR (by simp; omega) (b7 ?_));rw [nl] at a2 a3;exact .push _ a1 ⟨⟨by simpa using hb,by simp; omega⟩,a2,a3⟩ (.inr ⟨by simpa using e7,by simp⟩)
 have nodes:qu u w e.fP=some (am e.fP.cm 0 ((w.fN.length:Int) - 1) && am e.fP.mK 0 ((w.fN.length:Int) - 1)):=by
  unfold qu;rw [cU (by omega) (by omega),bC,bC];simp only [wk]
  cases am e.fP.cm 0 ((w.fN.length:Int) - 1) <;> rfl
 refine gq nodes (bY (λ_=>j7 _ (λe=>by cases e)) (λe1=>j7 _ λe2=>?_));simp only [Bool.not_eq_false',sY] at e1;simp at e2;exact ⟨by omega,e1.1,e1.2⟩
theorem Ui{n:Nat}(hn:n<=1000){w w':World}(h:M.DrN n w){e:cG}(hl:e.fP.fB.length<=1000+(n+1))(hs:M.Step w e w'):M.DrN (n+1) w':=by
 have up:=DK h.d.wf;have nl:=h.d.wf.nl;have dl:=h.d.wf.dl;have pl:=h.d.wf.len
 cases hs with
 | no=>exact DL h
 | tick j hj=>exact Md hn h hj
 | take j hj=>exact Me hn h j
 | lose l hs hl =>
  have l1:=h.l1;have l0:=h.l0;exact ⟨⟨⟨h.d.wf.t,nl,dl,h.d.wf.nodes,h.d.wf.disks,λp hp=>h.d.wf.net p (hs p hp),zWW hl pl⟩,h.d.ol,h.d.old,h.d.new,h.d.log⟩,λp hp=>by have:=h.len p (hs p hp); omega,by show 0<=w.bB+1; omega,by show w.bB+1<=_; omega⟩
 | push p hl' hi hf =>
  refine Uh h hl' hi ?_;rcases hf with ⟨q,hq,he⟩ | ⟨_,he⟩
  ·have:=h.len q hq;rw [<- he]; omega
  ·rw [he]; exact hl
 | fall j d hj h0 hd s =>
  exact DL (PP h ⟨⟨by simp [np],⟨by simp [np,aq],by simp [np]⟩,by simp [np],Q5⟩,⟨by simp [dp,np],by simp [dp,np]⟩,λz hz=>by simp [dp,np] at hz,λ_=>by unfold fO am np; simp; omega⟩ (Vd (h.d.wf.disks j d hd) _))
 | rise j n hj h0 hn ho=>exact DL (Vv h (RS h.d.wf.t h0 hj))
theorem Ra{u:Nat}(hu:1099511627776<=u){c:aG}(hc:Cu c):Ev (rZ u c) λv=>M.MsgWf v.1/\Cu v.2:=by
 unfold rZ;refine bn (cB u hc _) λr hr=>bY (λ_=>?_) (λ_=>bY (λ_=>?_) (λ_=>bY (λ_=>?_) (λ_=>?_)))
 ·exact bn (SS hu hr.2) λq hq=>b7 ⟨⟨by have:=hq.1.n; show q.1.aC.length<=_; omega,hq.1.w,by simp [aq],by simp⟩,hq.2⟩
 ·exact bn (Uc u hr.2) λa ha=>bn (cB u ha _) λb hb=>bn (cB u hb.2 _) λd hd=>gq rfl (b7 ⟨DH _ _ _,hd.2⟩)
 ·refine bn (Fo (xI hu hr.2 (n:=5) (by omega))) λa ha=>lR (by have:=ha.1.1; simp; omega) (bn (cB u ha.2 _) λb hb=>bn (cB u hb.2 _) λd hd=>?_);have h1:=ha.1.1;refine gq (vm u _ _ (by simp; omega)) (b7 ⟨zY _ _ ?_ (by simp; omega),hd.2⟩);intro x hx;rcases List.mem_append.1 hx with hx | hx
  ·simp only [zXy,zZw,or_false] at hx;subst hx;omega
  ·exact ha.1.2 x hx
 ·exact bn (cB u hr.2 _) λb hb=>b7 ⟨⟨by simp,Q5,by simp [aq],by simp⟩,hb.2⟩
theorem Rb{u:Nat}(hu:1099511627776<=u){c:aG}(hc:Cu c){n:Nat}(hn:n<=100):Ev (vF u c n) λv=>mI n v.1/\Cu v.2:=by
 have loop:∀ (m k i:Nat) (xs:List Int) (c:aG),i+m=n->m < k->xs.length=i->aq xs->Cu c->Ev (fV u k n xs (i:Int) c.fB c.fI c.fH) λv=>mI n v.1/\Cu v.2:=by
  intro m
  induction m with
  | zero =>
   intro k i xs c hi hk h1 h2 hc;obtain ⟨k,rfl⟩:∃ j,k=j+1:=⟨k - 1,by omega⟩;unfold fV;have:¬ (i:Int) < (n:Int):=by omega
   simp only [this,decide_false,cond_false,qQ];exact b7 ⟨⟨by show xs.length<=n; omega,h2⟩,hc⟩
  | succ m ih =>
   intro k i xs c hi hk h1 h2 hc;obtain ⟨k,rfl⟩:∃ j,k=j+1:=⟨k - 1,by omega⟩;unfold fV;have hlt:(i:Int) < (n:Int):=by omega
   simp only [hlt,decide_true,cond_true];refine bn (Fo (yZ u (wV hc))) λq hq=>lR (by simp; omega) ?_;rw [cu (show i < 9223372036854775807 by omega)];refine ih k (i+1) _ q.2 (by omega) (by omega) (by simp [h1]) ?_ hq.2;intro x hx;rcases List.mem_append.1 hx with hx | hx
   ·exact h2 x hx
   ·simp only [zXy,zZw,or_false] at hx;subst hx;exact SD _
 exact loop n u 0 [] c (by omega) (by omega) rfl (by simp [aq]) hc
def G1(w:World)(b:List Int):Prop:=(fd b).2=false\/(fd b).1.bK=4\/(fd b).1.bK=3\/∃ q∈w.bE,q.fB=b
theorem HF{u:Nat}(hu:1099511627776<=u){w:World}(hw:M.WWf w){e:cG}(hb:aq e.fP.fB)(hn:e.fP.fB.length<=1048576):Ev (nS u w e) λr=>r=true->e.bK=7->G1 w e.fP.fB:=by
 have hl:=hw.len;unfold nS;have j1:∀ x:Bool,(x=true->G1 w e.fP.fB)->Ev (jZ u x w e) λr=>r=true->e.bK=7->G1 w e.fP.fB:=by
  intro x hx;unfold jZ;refine bY (λe1=>b7 λ_ _=>hx e1) (λ_=>Ub (Dx hu (by omega) e) λh _=>?_);obtain ⟨q,hq,e2⟩:=List.any_eq_true.1 h;rw [NF (hw.net q hq).w.1 hb] at e2;exact .inr (.inr (.inr ⟨q,hq,of_decide_eq_true e2⟩))
 refine bY (λe1=>b7 λ_ e2=>by simp [e2] at e1) (λ_=>gq (wO hu hb hn) (bY (λe1=>j1 _ λ_=>.inl (by simpa using e1)) (λ_=>bY (λe1=>j1 _ λ_=>.inr (.inl (by simpa using e1))) (λ_=>j1 _ λe1=>.inr (.inr (.inl (by simpa using e1)))))))
def Ft(n:Nat)(w:World)(e:cG):Prop:=(aq e.fP.fB/\e.fP.fB.length<=1000+(n+1))/\(e.bK=7->G1 w e.fP.fB)
theorem PQ(w:World):G1 w []:=.inl rfl
theorem PS{u:Nat}(hu:1099511627776<=u){n:Nat}(hn:n<=1000){w:World}(h:M.DrN n w){c:aG}(hc:Cu c):Ev (qk u c w) λv=>Ft n w v.1/\Cu v.2:=by
 have pl:=h.d.wf.len;unfold qk;refine bn (cB u hc _) λr1 h1=>bn (cB u h1.2 _) λr2 h2=>bn (Ra hu h2.2) λr3 h3=>gq (BK hu h3.1) ?_;have pb:=E9 h3.1;have pn:=DJ r3.1;have j3:∀ (b:List Int) (c:aG),mI (1000+(n+1)) b->G1 w b->Cu c->Ev (pq u c.fB c.fI c.fH r1 r2 b) λv=>Ft n w v.1/\Cu v.2:=λb c hb hm hc=>b7 ⟨⟨⟨hb.2,hb.1⟩,λ_=>hm⟩,hc⟩;have nil_:mI (1000+(n+1)) ([]:List Int):=⟨by simp,by simp [aq]⟩;have j2:∀ (b:List Int) (c:aG),mI (1000+(n+1)) b->Cu c->Ev (md u r1 r2 b w c.fB c.fI c.fH) λv=>Ft n w v.1/\Cu v.2:=λb c hb hc=>by
  have:=hb.1;unfold md;exact bn (HF hu h.d.wf (e:=cG.mk 7 0 0 (ak.mk r1.1 r2.1 b)) hb.2 (by show b.length<=_; omega)) λq hq=>bY (λ_=>j3 _ _ nil_ (PQ w) hc) (λe=>j3 _ _ hb (hq (by simpa using e) rfl) hc)
 have j1:∀ (b:List Int) (c:aG),mI (1000+(n+1)) b->Cu c->Ev (mf u r1 r2 b w c.fB c.fI c.fH) λv=>Ft n w v.1/\Cu v.2:=λb c hb hc=>by
  have:=hb.1;unfold mf;exact bn (HF hu h.d.wf (e:=cG.mk 7 0 0 (ak.mk r1.1 r2.1 b)) hb.2 (by show b.length<=_; omega)) λq _=>bY (λ_=>bn (Rb hu (wV hc) (n:=3) (by omega)) λx hx=>j2 _ _ (Ll hx.1 (by omega)) hx.2) (λ_=>j2 _ _ hb hc)
 have j4:∀ (x:Bool) (c:aG),(x=true->0 < w.bE.length)->Cu c->Ev (mg u x r1 r2 (iY r3.1) w c.fB c.fI c.fH) λv=>Ft n w v.1/\Cu v.2:=λx c hx hc=>by
  unfold mg;refine bY (λe=>?_) (λ_=>j1 _ _ ⟨by omega,pb⟩ hc);have h0:=hx e;refine bn (cB u (wV hc) _) λq hq=>?_;have hq1:=hq.1.2 (by omega);have hq0:=hq.1.1;obtain ⟨j,ej,hj⟩:∃ j:Nat,q.1=j/\j < w.bE.length:=⟨q.1.toNat,by omega,by omega⟩;rw [ej];have hp:=tw hj;have hpi:=h.d.wf.net _ (zQY hp);have hpl:=h.len _ (zQY hp);exact gq (ic _ j hp) (bn (Fo (Q7 u hq.2 (N:=1000+n) (by omega) hpl hpi.w.1)) λz hz=>j1 _ _ (Ll hz.1 (by omega)) hz.2)
 refine bY (λe=>bn (Fq u h3.2 2) λq hq=>j4 _ _ (λ_=>by simp at e; omega) hq) (λ_=>j4 _ _ (λe=>by cases e) h3.2)
theorem Rc{u:Nat}(hu:1099511627776<=u){n:Nat}(hn:n<=1000){w:World}(h:M.DrN n w){c:aG}(hc:Cu c):Ev (si u c w) λv=>Ft n w v.1/\Cu v.2:=by
 have nil_:∀ a b s,Ft n w (cG.mk a b s (ak.mk 0 0 [])):=λa b s=>⟨⟨by simp [aq],by simp⟩,λ_=>PQ w⟩;unfold si;refine bn (cB u hc _) λr1 h1=>bn (cB u h1.2 _) λr2 h2=>bY (λ_=>bn (BM u h2.2 (by simp)) λq hq=>b7 ⟨nil_ _ _ _,hq.2⟩) (λ_=>bY (λ_=>b7 ⟨nil_ _ _ _,h2.2⟩) (λ_=>bY (λ_=>bn (PS hu hn h h2.2) λq hq=>b7 hq) (λ_=>?_)));have j1:∀ (x:Bool) (c:aG),Cu c->Ev (nx u r1 x w c.fB c.fI c.fH) λv=>Ft n w v.1/\Cu v.2:=λx c hc=>by
  unfold nx;refine bY (λ_=>gq (xY u _ _) (bn (cB u (wV hc) _) λa ha=>bn (cB u ha.2 _) λb hb=>bY (λ_=>b7 ⟨nil_ _ _ _,hb.2⟩) (λ_=>bY (λ_=>b7 ⟨nil_ _ _ _,hb.2⟩) (λ_=>b7 ⟨nil_ _ _ _,hb.2⟩)))) (λ_=>b7 ⟨nil_ _ _ _,hc⟩)
 exact bY (λ_=>bn (Fq u h2.2 3) λq hq=>j1 _ _ hq) (λ_=>j1 _ _ h2.2)
structure M.Inv (I:Nat->World->Prop):Prop where
 d:∀ n w,I n w->M.DrN n w
 new:∀ w,M.NewW w->I 0 w
 step:∀ n w e w',n<=1000->I n w->Ft n w e->M.Step w e w'->I (n+1) w'
theorem Vf:M.Inv M.DrN:=⟨λ_ _ h=>h,λw h=>Vc h.d h.net h.lost,λn w e w' hn h hb hs=>Ui hn h hb.1.2 hs⟩
theorem N6{I:Nat->World->Prop}(hI:M.Inv I){u:Nat}(hu:1099511627776<=u){r1:World×aG}:∀ (m k:Nat) (l:List cG) (b:Int) (c:aG) (w:World),l.length+m=400->m < k->I l.length w->Cu c ->
  Ev (de u k l b c.fB c.fI c.fH w.fC.aw w.fC.bd w.fC.aT w.fC.a9 w.fT.cf w.b5 w.bS w.fN w.fD w.bE w.bq w.bB r1) λv=>(∃ n,n<=400/\I n v.2.2.1)/\Cu v.2.2.2:=by
 intro m
 induction m with
 | zero =>
  intro k l b c w hl hk h hc;obtain ⟨k,rfl⟩:∃ j,k=j+1:=⟨k - 1,by omega⟩;unfold de;have j3:∀ x:Bool,x=false->Ev (gN u (λz0 z1 z2 z3 z4 z5 z6 z7 z8 z9 z10 z11 z12 z13 z14 z15 z16 z17=>de u k z0 z1 z2 z3 z4 z5 z6 z7 z8 z9 z10 z11 z12 z13 z14 z15 z16 z17) l b x c.fB c.fI c.fH w.fC.aw w.fC.bd w.fC.aT w.fC.a9 w.fT.cf w.b5 w.bS w.fN w.fD w.bE w.bq w.bB r1) λv=>(∃ n,n<=400/\I n v.2.2.1)/\Cu v.2.2.2:=by
   intro x hx;unfold gN sD;exact bY (λe=>by rw [hx] at e; cases e) (λ_=>b7 ⟨⟨l.length,by omega,h⟩,hc⟩)
  exact bY (λ_=>j3 _ (by simp; omega)) (λ_=>j3 _ rfl)
 | succ m ih =>
  intro k l b c w hl hk h hc;obtain ⟨k,rfl⟩:∃ j,k=j+1:=⟨k - 1,by omega⟩;unfold de;have j3:∀ x:Bool,Ev (gN u (λz0 z1 z2 z3 z4 z5 z6 z7 z8 z9 z10 z11 z12 z13 z14 z15 z16 z17=>de u k z0 z1 z2 z3 z4 z5 z6 z7 z8 z9 z10 z11 z12 z13 z14 z15 z16 z17) l b x c.fB c.fI c.fH w.fC.aw w.fC.bd w.fC.aT w.fC.a9 w.fT.cf w.b5 w.bS w.fN w.fD w.bE w.bq w.bB r1) λv=>(∃ n,n<=400/\I n v.2.2.1)/\Cu v.2.2.2:=by
   intro x;unfold gN sD;refine bY (λe=>?_) (λ_=>b7 ⟨⟨l.length,by omega,h⟩,hc⟩);have hd:=hI.d _ _ h;have l1:=hd.l1;refine bn (Rc hu (by omega) (w:=w) hd (wV hc)) λq hq=>lR (by simp; omega) (bn (Ve hu (w:=w) hd.d.wf hd.l0 (by omega) (e:=q.1) hq.1.1.1 (by have:=hq.1.1.2; omega)) λv hv=>?_);exact ih k (l++[q.1]) _ q.2 v.2 (by simp; omega) (by omega) (by simpa using hI.step _ _ _ _ (by omega) h hq.1 hv) hq.2
  exact bY (λ_=>j3 _) (λ_=>j3 _)
theorem SY{I:Nat->World->Prop}(hI:M.Inv I){u:Nat}(hu:1099511627776<=u){c:aG}(hc:Cu c)(n:Int):Ev (uy u c n) λv=>(∃ n,n<=400/\I n v.2.2.1)/\Cu v.2.2.2:=by
 unfold uy;refine bn (SX hu hc) λr1 h1=>gq (IU hu (Ue h1.1.d)) (bn (cB u h1.2 _) λr3 h3=>?_);exact N6 hI hu 400 u [] _ r3.2 r1.1 (by simp) (by omega) (hI.new _ h1.1) h3.2
theorem N7{I:Nat->World->Prop}(hI:M.Inv I){u:Nat}(hu:1099511627776<=u){c:aG}(hc:Cu c)(n:Int):Ev (nX u c n) λv=>(∃ n,n<=400/\I n v.1)/\Cu v.2:=by
 unfold nX;exact bn (SY hI hu hc n) λr hr=>b7 hr
theorem PT{u:Nat}(hu:1099511627776<=u){c:aG}(hc:Cu c)(n:Int):Ev (nX u c n) λv=>M.DrN 400 v.1/\Cu v.2:=by
 have up:∀ (j n:Nat) {w:World},n+j=400->M.DrN n w->M.DrN 400 w:=λj=>by
  induction j with
  | zero=>intro n w h hd; exact (show n=400 by omega) ▸ hd
  | succ j ih=>intro n w h hd; exact ih (n+1) (by omega) (DL hd)
 exact RP (N7 Vf hu hc n) λv hv=>by
  obtain ⟨⟨m,hm,h⟩,hc⟩:=hv;exact ⟨up (400 - m) m (by omega) h,hc⟩
structure M.AnyW (w:World):Prop where
 cp:M.WCp w
 t:w.fT.cf.length<=7
 nl:w.fN.length<=7
 dl:w.fD.length<=7
 ol:w.bS.length<=7
 pl:w.bE.length<=401
 ll:w.bq.length<=3000
 l0:-1<=w.bB
 l1:w.bB<=419430800
 nb:aq w.b5
 ob:∀ x∈w.bS,aq x.fB
 nk:SA w.fN
theorem Vg{w:World}(h:M.DrN 400 w):M.AnyW w:=by
 have up:=DK h.d.wf;have:=h.d.wf.nl;have:=h.d.wf.dl;have:=h.d.ol;have:=h.d.wf.len;have:=h.l0;have:=h.l1;exact ⟨Ue h.d,by omega,by omega,by omega,by omega,by omega,h.d.log,by omega,by omega,h.d.new.2,λx hx=>(h.d.old x hx).2,λx hx=>by
  obtain ⟨j,hj⟩:=List.mem_iff_getElem?.1 hx;exact ⟨(h.d.wf.nodes j x hj).w.s,xM (h.d.wf.nodes j x hj)⟩⟩
theorem Fu{w:World}(h:M.AnyW w){x:aK}(hx:M.NodWf x)(hk:x.bf.length<=1048576)(k:Nat):M.AnyW ⟨w.fC,w.fT,w.b5,w.bS,w.fN.set k x,w.fD,w.bE,w.bq,w.bB⟩ :=
 ⟨⟨h.cp.t,h.cp.new,h.cp.ol,h.cp.old,by simpa using h.cp.nl,λy hy=>by
  rcases zXG hy with hy | rfl
  ·exact h.cp.n y hy
  ·exact hx,h.cp.dl,h.cp.d,h.cp.pl,h.cp.p,h.cp.ll⟩,h.t,by simpa using h.nl,h.dl,h.ol,h.pl,h.ll,h.l0,h.l1,h.nb,h.ob,λy hy=>by
  rcases zXG hy with hy | rfl
  ·exact h.nk y hy
  ·exact ⟨hx.s,hk⟩⟩
theorem SZ{u:Nat}(hu:1099511627776<=u){c:aG}(hc:Cu c)(n:Int):Ev (rA u c n) λv=>M.AnyW v.1/\Cu v.2:=by
 unfold rA;refine bn (PT hu hc n) λr1 h1=>bn (cB u h1.2 _) λr2 h2=>bn (cB u h2.2 _) λr3 h3=>?_;have hw:=Vg h1.1;have up:=DK h1.1.d.wf;have nl:=h1.1.d.wf.nl;have dl:=h1.1.d.wf.dl;have ol:=h1.1.d.ol;have a0:=h2.1.1;have a1:=h2.1.2 (by omega);obtain ⟨j,ej,hj⟩:∃ j:Nat,r2.1=j/\j < r1.1.fT.cf.length:=⟨r2.1.toNat,by omega,by omega⟩;have hn:=tw (l:=r1.1.fN) (i:=j) (by omega);have hd:=tw (l:=r1.1.fD) (i:=j) (by omega);have ho:=tw (l:=r1.1.bS) (i:=j) (by omega);have hnw:=hw.cp.n _ (zQY hn);have hnk:=(hw.nk _ (zQY hn)).2;have hob:=hw.cp.old _ (zQY ho);have hol:=(h1.1.d.old _ (zQY ho)).1;have pl:=h1.1.d.wf.len;have fin:∀ (c:aG) (w:World),w.bq=r1.1.bq->M.AnyW w->Cu c->Ev (cQ u c.fB c.fI c.fH w.fC.aw w.fC.bd w.fC.aT w.fC.a9 w.fT.cf w.b5 w.bS w.fN w.fD w.bE r1 w.bB) λv=>M.AnyW v.1/\Cu v.2:=λc w hl h hc=>by
  unfold cQ;rw [<- hl];exact b7 ⟨h,hc⟩
 rw [ej];refine bY (λ_=>bn (SU u h3.2) λq hq=>fin q.2 ⟨q.1,r1.1.fT,r1.1.b5,r1.1.bS,r1.1.fN,r1.1.fD,r1.1.bE,r1.1.bq,r1.1.bB⟩ rfl ⟨⟨hw.cp.t,hw.cp.new,hw.cp.ol,hw.cp.old,hw.cp.nl,hw.cp.n,hw.cp.dl,hw.cp.d,hw.cp.pl,hw.cp.p,hw.cp.ll⟩,hw.t,hw.nl,hw.dl,hw.ol,hw.pl,hw.ll,hw.l0,hw.l1,hw.nb,hw.ob,hw.nk⟩ hq) (λ_=>?_);refine bY (λ_=>bn (SR u hu h3.2) λq hq=>fin q.2 ⟨r1.1.fC,q.1,r1.1.b5,r1.1.bS,r1.1.fN,r1.1.fD,r1.1.bE,r1.1.bq,r1.1.bB⟩ rfl ⟨⟨by show q.1.cf.length<=_; omega,hw.cp.new,hw.cp.ol,hw.cp.old,hw.cp.nl,hw.cp.n,hw.cp.dl,hw.cp.d,hw.cp.pl,hw.cp.p,hw.cp.ll⟩,hq.1,hw.nl,hw.dl,hw.ol,hw.pl,hw.ll,hw.l0,hw.l1,hw.nb,hw.ob,hw.nk⟩ hq.2) (λ_=>?_);refine bY (λ_=>bn (Q4 hu h3.2) λq hq=>fin q.2 ⟨r1.1.fC,r1.1.fT,q.1,r1.1.bS,r1.1.fN,r1.1.fD,r1.1.bE,r1.1.bq,r1.1.bB⟩ rfl ⟨⟨hw.cp.t,by have:=hq.1.1; show q.1.length<=_; omega,hw.cp.ol,hw.cp.old,hw.cp.nl,hw.cp.n,hw.cp.dl,hw.cp.d,hw.cp.pl,hw.cp.p,hw.cp.ll⟩,hw.t,hw.nl,hw.dl,hw.ol,hw.pl,hw.ll,hw.l0,hw.l1,hq.1.2,hw.ob,hw.nk⟩ hq.2) (λ_=>?_);refine bY (λ_=>bn (cB u h3.2 _) λq hq=>gq (ic _ j hn) ?_) (λ_=>?_)
 ·exact fin q.2 ⟨r1.1.fC,r1.1.fT,r1.1.b5,r1.1.bS,r1.1.fN.set (sX (j:Int)) (aK.mk (r1.1.fN[j].gS) (r1.1.fN[j].bM) r1.1.fN[j].bF (r1.1.fN[j].aD) r1.1.fN[j].bw (q.1) r1.1.fN[j].bf r1.1.fN[j].br),r1.1.fD,r1.1.bE,r1.1.bq,r1.1.bB⟩ rfl (Fu (x:=aK.mk (r1.1.fN[j].gS) (r1.1.fN[j].bM) r1.1.fN[j].bF (r1.1.fN[j].aD) r1.1.fN[j].bw (q.1) r1.1.fN[j].bf r1.1.fN[j].br) hw ⟨hnw.s,hnw.b,hnw.k,hnw.w⟩ hnk _) hq.2
 refine bY (λ_=>bn (cB u h3.2 _) λq hq=>gq (ic _ j hn) ?_) (λ_=>?_)
 ·exact fin q.2 ⟨r1.1.fC,r1.1.fT,r1.1.b5,r1.1.bS,r1.1.fN.set (sX (j:Int)) (aK.mk (r1.1.fN[j].gS) (dM .i64 q.1 1) r1.1.fN[j].bF (r1.1.fN[j].aD) r1.1.fN[j].bw (r1.1.fN[j].bi) r1.1.fN[j].bf r1.1.fN[j].br),r1.1.fD,r1.1.bE,r1.1.bq,r1.1.bB⟩ rfl (Fu (x:=aK.mk (r1.1.fN[j].gS) (dM .i64 q.1 1) r1.1.fN[j].bF (r1.1.fN[j].aD) r1.1.fN[j].bw (r1.1.fN[j].bi) r1.1.fN[j].bf r1.1.fN[j].br) hw ⟨hnw.s,hnw.b,hnw.k,hnw.w⟩ hnk _) hq.2
 refine bY (λ_=>bn (Ud hu h3.2) λq hq=>gq (ic _ j hd) ?_) (λ_=>?_)
 ·refine fin q.2 ⟨r1.1.fC,r1.1.fT,r1.1.b5,r1.1.bS,r1.1.fN,r1.1.fD.set (sX (j:Int)) q.1,r1.1.bE,r1.1.bq,r1.1.bB⟩ rfl ⟨⟨hw.cp.t,hw.cp.new,hw.cp.ol,hw.cp.old,hw.cp.nl,hw.cp.n,by simpa using hw.cp.dl,λy hy=>?_,hw.cp.pl,hw.cp.p,hw.cp.ll⟩,hw.t,hw.nl,by simpa using hw.dl,hw.ol,hw.pl,hw.ll,hw.l0,hw.l1,hw.nb,hw.ob,hw.nk⟩ hq.2;rcases zXG hy with hy | rfl
  ·exact hw.cp.d y hy
  ·exact hq.1.o
 refine bY (λ_=>bn (VZ hu h3.2) λq hq=>gq (ic _ j hn) ?_) (λ_=>?_)
 ·have:=hq.1.1;exact fin q.2 ⟨r1.1.fC,r1.1.fT,r1.1.b5,r1.1.bS,r1.1.fN.set (sX (j:Int)) (aK.mk (r1.1.fN[j].gS) (r1.1.fN[j].bM) r1.1.fN[j].bF (q.1) r1.1.fN[j].bw (r1.1.fN[j].bi) r1.1.fN[j].bf r1.1.fN[j].br),r1.1.fD,r1.1.bE,r1.1.bq,r1.1.bB⟩ rfl (Fu (x:=aK.mk (r1.1.fN[j].gS) (r1.1.fN[j].bM) r1.1.fN[j].bF (q.1) r1.1.fN[j].bw (r1.1.fN[j].bi) r1.1.fN[j].bf r1.1.fN[j].br) hw ⟨by show q.1.aC.length<=_; omega,hnw.b,hnw.k,hq.1.2⟩ hnk _) hq.2
 refine bY (λ_=>bn (cB u h3.2 _) λq hq=>bn (cB u hq.2 _) λz hz=>lR (by simp; omega) ?_) (λ_=>?_)
 ·refine fin z.2 ⟨r1.1.fC,r1.1.fT,r1.1.b5,r1.1.bS,r1.1.fN,r1.1.fD,r1.1.bE++[ak.mk (dM .i64 q.1 1) (dM .i64 z.1 1) []],r1.1.bq,r1.1.bB⟩ rfl ⟨⟨hw.cp.t,hw.cp.new,hw.cp.ol,hw.cp.old,hw.cp.nl,hw.cp.n,hw.cp.dl,hw.cp.d,by simp; omega,λy hy=>?_,hw.cp.ll⟩,hw.t,hw.nl,hw.dl,hw.ol,by simp; omega,hw.ll,hw.l0,hw.l1,hw.nb,hw.ob,hw.nk⟩ hz.2;rcases List.mem_append.1 hy with hy | hy
  ·exact hw.cp.p y hy
  ·simp only [zQq] at hy;subst hy;exact ⟨by simp [aq],by simp⟩
 refine bY (λ_=>fin r3.2 ⟨r1.1.fC,r1.1.fT,r1.1.b5,r1.1.bS,r1.1.fN,r1.1.fD,r1.1.bE,r1.1.bq,-1⟩ rfl ⟨⟨hw.cp.t,hw.cp.new,hw.cp.ol,hw.cp.old,hw.cp.nl,hw.cp.n,hw.cp.dl,hw.cp.d,hw.cp.pl,hw.cp.p,hw.cp.ll⟩,hw.t,hw.nl,hw.dl,hw.ol,hw.pl,hw.ll,by simp,by simp,hw.nb,hw.ob,hw.nk⟩ h3.2) (λ_=>?_);refine bY (λ_=>lR (by simp [cy]; omega) ?_) (λ_=>?_)
 ·refine fin r3.2 ⟨r1.1.fC,r1.1.fT,r1.1.b5,r1.1.bS,r1.1.fN,(r1.1.fD.take (sX (r1.1.fD.length:Int))).drop (sX 1),r1.1.bE,r1.1.bq,r1.1.bB⟩ rfl ⟨⟨hw.cp.t,hw.cp.new,hw.cp.ol,hw.cp.old,hw.cp.nl,hw.cp.n,by simp; omega,λy hy=>hw.cp.d y (zWZ (zXX hy)),hw.cp.pl,hw.cp.p,hw.cp.ll⟩,hw.t,hw.nl,by simp; omega,hw.ol,hw.pl,hw.ll,hw.l0,hw.l1,hw.nb,hw.ob,hw.nk⟩ h3.2
 refine bY (λ_=>gq (ic _ j hn) (gq (ic _ j hn) ?_)) (λ_=>?_)
 ·exact fin r3.2 ⟨r1.1.fC,r1.1.fT,r1.1.b5,r1.1.bS,r1.1.fN.set (sX (j:Int)) (aK.mk (!r1.1.fN[j].gS) (r1.1.fN[j].bM) r1.1.fN[j].bF (r1.1.fN[j].aD) r1.1.fN[j].bw (r1.1.fN[j].bi) r1.1.fN[j].bf r1.1.fN[j].br),r1.1.fD,r1.1.bE,r1.1.bq,r1.1.bB⟩ rfl (Fu (x:=aK.mk (!r1.1.fN[j].gS) (r1.1.fN[j].bM) r1.1.fN[j].bF (r1.1.fN[j].aD) r1.1.fN[j].bw (r1.1.fN[j].bi) r1.1.fN[j].bf r1.1.fN[j].br) hw ⟨hnw.s,hnw.b,hnw.k,hnw.w⟩ hnk _) h3.2
 refine bY (λ_=>gq (ic _ j ho) (lR (by simp; omega) (gq (ic _ j ho) ?_))) (λ_=>fin r3.2 r1.1 rfl hw h3.2);refine fin r3.2 ⟨r1.1.fC,r1.1.fT,r1.1.b5,r1.1.bS.set (sX (j:Int)) (bg.mk (r1.1.bS[j].fB++[1])),r1.1.fN,r1.1.fD,r1.1.bE,r1.1.bq,r1.1.bB⟩ rfl ⟨⟨hw.cp.t,hw.cp.new,by simpa using hw.cp.ol,λy hy=>?_,hw.cp.nl,hw.cp.n,hw.cp.dl,hw.cp.d,hw.cp.pl,hw.cp.p,hw.cp.ll⟩,hw.t,hw.nl,hw.dl,by simpa using hw.ol,hw.pl,hw.ll,hw.l0,hw.l1,hw.nb,λy hy=>?_,hw.nk⟩ h3.2
 ·rcases zXG hy with hy | rfl
  ·exact hw.cp.old y hy
  ·simp;omega
 ·rcases zXG hy with hy | rfl
  ·exact hw.ob y hy
  ·intro z hz;rcases List.mem_append.1 hz with hz | hz
   ·exact hw.ob _ (zQY ho) z hz
   ·simp only [zXy,zZw,or_false] at hz;subst hz;omega
theorem DM{u:Nat}(hu:1099511627776<=u){a:List Int}(h:a.length<=1048576):qA u a a=some true:=by
 unfold qA;simp only [bne_self_eq_false,cond_false];rw [C3 u a a () u (by omega) (by omega),Sw (λx i k hx=>by unfold wu; rw [cM,hx]; simp only [wk,bne_self_eq_false,cond_false]) a 0 rfl];rfl
theorem Re{w:World}(h:M.AnyW w):M.NdOk w:=⟨h.nb,h.cp.new,h.cp.ol,λx hx=>⟨h.ob x hx,h.cp.old x hx⟩⟩
theorem PU(w:World)(i:Int):0<=tY w i:=(nd (size:=w.fC.aw) (n:=w.b5.length) (i:=i) (by omega)).2.1
theorem Vh(w:World)(a b:Int):∀ (l:List cg) (x y:Int),x<=y->tq w ((l.filter λs=>s.cm == a && s.mK == b).map cg.fI) x<=uh w b l y:=by
 intro l
 induction l with
 | nil=>intro x y h; exact h
 | cons s l ih =>
  intro x y h;have hp:=PU w s.fI;simp only [zZZ,uh]
  by_cases h1:s.mK=b
  ·rw [if_pos h1]
   split
   ·exact ih _ _ (by omega)
   ·exact ih _ _ (by omega)
  ·rw [if_neg h1];have h2:(s.cm == a && s.mK == b)=false:=by simp [h1]
   rw [h2];exact ih _ _ h
def iI(i j:Nat)(s:cg):Bool:=(decide (0<=s.cm) && decide (s.cm < i) && decide (0<=s.mK) && decide (s.mK < 7)) || (s.cm == (i:Int) && decide (0<=s.mK) && decide (s.mK < j))
theorem S0(i j:Nat)(l:List cg):l.countP (iI i j)+(l.filter λs=>s.cm == (i:Int) && s.mK == (j:Int)).length=l.countP (iI i (j+1)):=by
 rw [<- List.countP_eq_length_filter]
 induction l with
 | nil=>rfl
 | cons s l ih =>
  simp only [List.countP_cons];have:(if iI i j s=true then 1 else 0)+(if (s.cm == (i:Int) && s.mK == (j:Int))=true then 1 else 0)=if iI i (j+1) s=true then 1 else 0:=by
   unfold iI;simp only [zYk,sY,decide_eq_true_eq,beq_iff_eq]
   split <;> split <;> split <;> omega
  omega
theorem Uj(i:Nat):iI i 7=iI (i+1) 0:=by
 funext s
 rw [zYQ];unfold iI;simp only [zYk,sY,decide_eq_true_eq,beq_iff_eq];omega
theorem Uk{u:Nat}(hu:1099511627776<=u)(C:(World×Int×Int)->Int->Int->Option Bool){r2:World×Int×Int}(hl:r2.1.bq.length<=1048576){i:Nat}(hi:i < 7):∀ (m j f:Nat),j+m=7->m < f ->
  fY u C f r2 (r2.1.bq.countP (iI i j):Nat) (i:Int) (j:Int)=C r2 (r2.1.bq.countP (iI (i+1) 0):Nat) ((i+1:Nat):Int):=by
 intro m
 induction m with
 | zero =>
  intro j f h hf;obtain ⟨f,rfl⟩:∃ q,f=q+1:=⟨f - 1,by omega⟩;have hj:j=7:=by omega
  subst hj;unfold fY ra;rw [Uj,cu (show i < 9223372036854775807 by omega)];rfl
 | succ m ih =>
  intro j f h hf;obtain ⟨f,rfl⟩:∃ q,f=q+1:=⟨f - 1,by omega⟩;unfold fY;have e:decide ((j:Int) < 7)=true:=by simp; omega
  have hc:=List.countP_le_length (p:=iI i j) (l:=r2.1.bq);have hp:=tZ r2.1 i j;have hs:=S0 i j r2.1.bq;simp only [e,cond_true,tp hu hl,wk];rw [mG (by omega),cu (show j < 9223372036854775807 by omega)];have:r2.1.bq.countP (iI i j)+(jV r2.1 i j).length=r2.1.bq.countP (iI i (j+1)):=by
   unfold jV;rw [zXx];exact hs
  rw [this];exact ih (j+1) f (by omega) (by omega)
theorem Ul{u:Nat}(hu:1099511627776<=u){r2:World×Int×Int}(hl:r2.1.bq.length<=1048576):∀ (m i f:Nat),i+m=7->m < f ->
  dZ u f r2 (r2.1.bq.countP (iI i 0):Nat) (i:Int)=nD u r2 (r2.1.bq.countP (iI 7 0):Nat):=by
 intro m
 induction m with
 | zero =>
  intro i f h hf;obtain ⟨f,rfl⟩:∃ q,f=q+1:=⟨f - 1,by omega⟩;have hj:i=7:=by omega
  subst hj;unfold dZ;rfl
 | succ m ih =>
  intro i f h hf;obtain ⟨f,rfl⟩:∃ q,f=q+1:=⟨f - 1,by omega⟩;unfold dZ;have e:decide ((i:Int) < 7)=true:=by simp; omega
  simp only [e,cond_true];have:=Uk hu (λz0 z1 z2=>dZ u f z0 z1 z2) hl (show i < 7 by omega) 7 0 u (by omega) (by omega);exact this.trans (ih (i+1) f (by omega) (by omega))
theorem Aa{u:Nat}(hu:1099511627776<=u){code:List Int}(h:code.length<=1048576)(n:Int):Ev (lp u code n) λv=>M.AnyW v.2/\Cu v.1:=by
 unfold lp;exact bn (V0 hu h) λc hc=>bn (SZ hu hc n) λq hq=>b7 ⟨hq.1,hq.2⟩
theorem PV{u:Nat}(hu:1099511627776<=u){code:List Int}(h:code.length<=1048576):Ev (kC u code) λv=>M.AnyW v.1:=by
 unfold kC vI;refine bn (p:=λv:World×Int×Int=>M.AnyW v.1) (bn (Aa hu h 120) λr1 h1=>?_) λr1 h1=>b7 h1;have ll:=h1.1.ll;have j1:∀ (x:Bool) (c:aG),(x=true->0 < r1.2.bq.length)->Cu c->Ev (nC u x c.fB c.fI c.fH r1) λv=>M.AnyW v.1:=λx c hx hc=>by
  unfold nC;refine bY (λe=>bn (cB u (wV hc) _) λq hq=>?_) (λ_=>bn (cB u (wV hc) _) λq hq=>bn (cB u hq.2 _) λz hz=>b7 h1.1);have h0:=hx e;have q1:=hq.1.2 (by omega);have q0:=hq.1.1;obtain ⟨j,ej,hj⟩:∃ j:Nat,q.1=j/\j < r1.2.bq.length:=⟨q.1.toNat,by omega,by omega⟩;rw [ej];exact gq (ic _ j (tw hj)) (b7 h1.1)
 exact bY (λe=>bn (Fq u h1.2 2) λq hq=>j1 _ _ (λ_=>by simp at e; omega) hq) (λ_=>j1 _ _ (λe=>by cases e) h1.2)
theorem PW{u:Nat}(hu:1099511627776<=u){code:List Int}(h:code.length<=1048576):Ev (qz u code) λv=>M.AnyW v.1:=by
 unfold qz xe;exact bn (p:=λv:World×Int=>M.AnyW v.1) (bn (Aa hu h 60) λr1 h1=>bn (cB u h1.2 _) λq hq=>b7 h1.1) λr1 h1=>b7 h1
theorem Um{u:Nat}(hu:1099511627776<=u){w:World}(hl:w.bq.length<=1048576):∃ v,sG u w=some v/\sF u w=some v :=
 ⟨_,N4 hu w hl w.bq.length 0 u 0 (by omega) (by omega),RR w hl w.bq.length 0 u 0 [] (by omega) (by omega) (by simp)⟩
theorem Mf{u:Nat}(hu:1099511627776<=u){w:World}(hl:w.bq.length<=1048576)(a b:Int):oP u w a b=some (tq w (jV w a b) 0)/\mw u w a b=some (tq w (jV w a b) 0):=by
 have h2:=tZ w a b;unfold oP mw;rw [xH hu hl,tp hu hl];simp only [wk];rw [Ck u _ w 0 u (by omega) (by omega),Cj u _ w 0 u (by omega) (by omega),GG u w _ _ 0 0 (by omega) (by omega),GF u w _ _ 0 0 (by omega) (by omega)];exact ⟨rfl,rfl⟩
theorem PX{u:Nat}(hu:1099511627776<=u){w:World}(hl:w.bq.length<=1048576)(k:Int):yz u w k=some (uh w k w.bq 0)/\vR u w k=some (uh w k w.bq 0):=by
 unfold yz vR;rw [Ji u k w 0 u (by omega) (by omega),Jh u k w 0 u (by omega) (by omega),Ph u w k _ 0 0 (by simp) (by omega) (by omega),Pg u w k _ 0 0 (by omega) (by omega)];exact ⟨rfl,rfl⟩
theorem PY{u:Nat}(hu:1099511627776<=u){w:World}(hw:M.NdOk w):∃ v,sQ u w=some v/\sP u w=some v:=by
 have ho:=hw.old;unfold sQ sP
 cases h:w.bS.length with
 | zero =>
  obtain ⟨k,rfl⟩:∃ j,u=j+1:=⟨u - 1,by omega⟩;have e:¬ ((1:Int) < (w.bS.length:Int)):=by omega
  unfold eQ eP;simp only [e,decide_false,cond_false];exact ⟨_,rfl,rfl⟩
 | succ n=>exact ⟨_,KN hu hw n 1 u 0 (by omega) (by omega) (by omega) (by omega),KM hu hw n 1 u 0 (by omega) (by omega) (by omega) (by omega)⟩
theorem PZ{u:Nat}(hu:1099511627776<=u)(code:List Int):pH u code=some true:=by
 unfold pH DP;simp only [wk]
 cases hbig:decide ((code.length:Int) > 1048576) with
 | true=>rfl
 | false =>
  have hl:code.length<=1048576:=by simp at hbig; omega
  simp only [cond_false];obtain ⟨⟨w,a,b⟩,e2,hw⟩:=PV hu hl;obtain ⟨v,e3,hv⟩:Ev (kD u code) λv=>M.AnyW v:=by
   unfold kD;exact bn (Aa hu hl 150) λr h=>b7 h.1
  obtain ⟨⟨x,k⟩,e4,hx⟩:=PW hu hl;obtain ⟨t,e5,ht⟩:Ev (mu u code) λv=>M.AnyW v:=by
   unfold mu;exact bn (Aa hu hl 30) λr h=>b7 h.1
  have hw:M.AnyW w:=hw;have hx:M.AnyW x:=hx;have lw:=hw.ll;have lv:=hv.ll;have lx:=hx.ll;obtain ⟨n,f1,f2⟩:=Um hu (w:=v) (by omega);obtain ⟨g1,g2⟩:=Mf hu (w:=w) (by omega) a b;obtain ⟨i1,i2⟩:=PX hu (w:=x) (by omega) k;obtain ⟨_,i4⟩:=PX hu (w:=w) (by omega) b;obtain ⟨q,n1,n2⟩:=PY hu (Re ht);have pl:=tZ w a b;simp only [e2,e3,e4,e5,wk,tp hu (show w.bq.length<=1048576 by omega),xH hu (show w.bq.length<=1048576 by omega),DM hu (show (jV w a b).length<=1048576 by omega),zQV,cond_false,f1,f2,bne_self_eq_false,g1,g2,i1,i2,Bx hu (Re hx),By hu (Re hx),n1,n2];unfold hP;simp only [cond_false];have h0:w.bq.countP (iI 0 0)=0:=by
   rw [List.countP_eq_zero];intro s _;unfold iI;simp;omega
  have:=Ul hu (r2:=(w,a,b)) (show w.bq.length<=1048576 by omega) 7 0 u (by omega) (by omega);have this:dZ u u (w,a,b) (w.bq.countP (iI 0 0):Nat) ((0:Nat):Int)=nD u (w,a,b) (w.bq.countP (iI 7 0):Nat):=this;rw [h0] at this;refine Eq.trans this ?_;unfold nD;have hc:=List.countP_le_length (p:=iI 7 0) (l:=w.bq);have hle:=Vh w a b w.bq 0 0 (Int.le_refl _);have d1:decide (((w.bq.countP (iI 7 0):Nat):Int)<=(w.bq.length:Int))=true:=by simp; omega
  simp only [d1,cond_true,g2,i4,wk];rw [decide_eq_true (show tq w (jV w a b) 0<=uh w b w.bq 0 from hle)]
theorem P0(p0:List Int)(h:JM (iU .u8) p0/\True):pH 1099511627776 p0=some true:=PZ (zWj _) p0
end Go.Tm.Pu
