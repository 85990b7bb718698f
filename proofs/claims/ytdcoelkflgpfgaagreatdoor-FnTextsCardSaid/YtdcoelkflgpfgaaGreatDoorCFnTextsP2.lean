/- Plain laws of the functions. -/
import Derived.Test.YtdcoelkflgpfgaaGreatDoorCFnTextsP1
set_option linter.unusedVariables false
set_option linter.unusedSimpArgs false
open Array renaming length_toList->zQx
open Bool renaming and_eq_true->sk,and_self->zXK,false_eq_true->zQj,not_false->zZK,not_true->zQX,true_and->zWz
open Int renaming add_mul->zVV,pow_pos->zVZ,pow_succ->zYQ,toNat->sY,toNat_natCast->r0
open List renaming append_assoc->zQv,append_nil->zXH,cons_append->zYX,drop_eq_getElem_cons->zXY,drop_zero->zZH,eq_nil_of_length_eq_zero->zQQ,filter_cons->zZg,foldl_cons->zYw,getElem?_append_left->zQW,getElem?_append_right->zQV,getElem?_cons_zero->zWX,getElem?_eq_getElem->sX,getElem?_map->zQZ,getElem?_set->zXk,getElem_mem->zXG,head?->zYj,head?_drop->zXx,length_append->zQG,length_cons->zQK,length_drop->zYz,length_filter_le->zYh,length_map->zWg,length_nil->zXQ,length_set->zXJ,length_singleton->zXz,length_take->zWQ,map_cons->zWy,map_map->zZx,mem_append->zWw,mem_cons->zXy,mem_map->zYK,mem_of_getElem?->zQY,mem_of_mem_drop->zXV,mem_of_mem_take->zWJ,mem_or_eq_of_mem_set->zXZ,mem_singleton->zQy,nil_append->zQz,not_mem_nil->zZG,range'->zWx,range'_succ->zYZ,range_eq_range'->zXj,replicate->zQq,tail->zZV,tail_drop->zXh,take_append_drop->zYY
open Nat renaming le_refl->zWk,le_trans->zWH,lt_of_lt_of_le->zQh,pow_le_pow_right->zYV,pow_succ->zVW,zero_add->zWY,zero_le->zYG
open Option renaming bind_some->wk,getD_some->zYH,map_eq_some_iff->zWZ
open ByteArray renaming mk->zm
open ByteArray renaming size_append->Dp
open List renaming getElem?_eq_some_iff->aaa
open List renaming mem_append->aac
open List renaming all_eq_true->aae
open List renaming mem_cons->aag
open List renaming mem_iff_getElem?->aai
namespace Go.Tm.Pu
open Go.Tm
theorem Tr(sep:ByteArray){B:Nat}(hs:sep.size<=2):∀ (ts:List ByteArray) (i:Nat) (s:ByteArray),(∀ t∈ts,t.size<=B)->(D8 sep i s ts).size<=s.size+ts.length*(B+2)
 | [],i,s,_=>by simp [D8]
 | t :: ts,i,s,h=>by
  have h1:=Tr sep hs ts (i+1) ((if i > 0 then s++sep else s)++t) (λt ht=>h t (by simp [ht]));have h2:=h t eH;rw [Dp] at h1;have h3:(if i > 0 then s++sep else s).size<=s.size+2:=Tq hs;rw [D8,zQK,Nat.add_mul];omega
theorem Zz{sep:ByteArray}{B:Nat}(hs:sep.size<=2){ts:List ByteArray}(h:∀ t∈ts,t.size<=B):(H5 sep ts).size<=ts.length*(B+2):=by
 rw [<- RA];have:=Tr sep hs ts 0 (zm #[]) h;rw [show (zm #[]).size=0 by rfl] at this;omega
theorem RB{u:Nat}{sep:ByteArray}{B:Nat}(hs:sep.size<=2){ts:List ByteArray}(h:∀ t∈ts,t.size<=B)(hl:ts.length<=2097152)(hB:B<=1000):strings_Join u ts sep=some (H5 sep ts):=by
 have h1:=Zz hs h;have h2:ts.length*(B+2)<=2097152*1002:=Nat.mul_le_mul hl ar;have h3:(Lib.join (ts.map (·.data.toList)) sep.data.toList).length<=140737488355328:=by
  have e:(H5 sep ts).size=(Lib.join (ts.map (·.data.toList)) sep.data.toList).length:=by simp [H5,ByteArray.size]
  omega
 unfold strings_Join;rw [decide_eq_true h3,decide_eq_true (show ts.length<=140737488355328 by omega)];rfl
theorem H6{ρ:Type}{f:ByteArray->Option ρ}{b:Nat->ByteArray->(ByteArray->Option ρ)->Option ρ}{ts:List ByteArray}{sep:ByteArray}{B:Nat}(hs:sep.size<=2)(h:∀ t∈ts,t.size<=B)(hl:ts.length<=2097152)(hB:B<=1000)
  (hb:∀ (i:Nat) (s:ByteArray) (k:ByteArray->Option ρ) (t:ByteArray),ts[i]?=some t->t.size<=1000->s.size<=4611686018427387904->b i s k=k ((if i > 0 then s++sep else s)++t)) :
  ∀ (n i:Nat) (s:ByteArray),i+n=ts.length->s.size<=i*1002->gX f b n i s=f (D8 sep i s (ts.drop i))
 | 0,i,s,hi,hz=>by rw [List.drop_eq_nil_of_le ar]; rfl
 | n+1,i,s,hi,hz=>by
  have hlt:i < ts.length:=by omega
  have ht:=h ts[i] (zXG hlt);rw [zXY hlt,gX,hb i s _ ts[i] (sX hlt) ar ar,D8];refine H6 hs h hl hB hb n (i+1) _ ar ?_;rw [Dp];have h3:(if i > 0 then s++sep else s).size<=s.size+2:=Tq hs;omega
theorem EE{α ρ:Type}{f:List ByteArray->Option ρ}{b:α->Nat->List ByteArray->(List ByteArray->Option ρ)->Option ρ}{g:α->ByteArray}:∀ (l:List α) (i:Nat) (s:List ByteArray),
  (∀ y∈l,∀ (i:Nat) (s:List ByteArray) (k:List ByteArray->Option ρ),s.length<=2097152->b y i s k=k (s++[g y]))->s.length+l.length<=2097152->bZ f b l i s=f (s++l.map g)
 | [],i,s,_,_=>by simp [bZ]
 | y :: l,i,s,h,hl=>by
  rw [zQK] at hl;rw [bZ,h y eH i s _ ar,EE l (i+1) _ (λy hy=>h y V3) (by rw [zQG,zXz]; omega)];simp
theorem RC(s:List ByteArray)(t:ByteArray)(h:s.length<=2097152):cd (decide ((s.length+([t]).length)*16<=140737488355328))=some ():=tO (by rw [zXz]; omega)
def RD(l:List Int):Prop:=∀ n∈l,-9223372036854775808<=n/\n<=9223372036854775807
def Gn(l:List Int):ByteArray:=H5 (zm #[32]) (l.map ez)
theorem VL{l:List Int}(h:RD l):∀ t∈l.map ez,t.size<=21:=λt ht=>by
 obtain ⟨n,hn,rfl⟩:=List.mem_map.1 ht;exact io (h n hn).1 (h n hn).2
theorem sz2(a b:UInt8):(zm #[a,b]).size=2:=rfl
theorem Oz{u:Nat}(hu:1099511627776<=u){l:List Int}(h:RD l)(hl:l.length<=2097152):w4 u l=some (Gn l):=by
 unfold w4;rw [IV u l _ u ar ar,EE (g:=ez) l 0 []]
 ·unfold Bk uR;rw [RB (B:=21) Xl (by simpa using VL h) QH ar];simp [Gn]
 ·intro y hy i s k hs;unfold Bl;rw [kQ (h y hy).1 (h y hy).2,wk,RC s _ hs];rfl
 ·simpa using hl
theorem LQ{u:Nat}(hu:1099511627776<=u){l:List Int}(h:RD l)(hl:l.length<=2097152):uT u l=some (Gn l):=by
 unfold uT;rw [G5 u l _ u ar ar,r0,
  H6 (ts:=l.map ez) (sep:=zm #[32]) (B:=21) Xl (VL h) QH ar ?_ l.length 0 _ eH (zYG _),zZH,RA]
 ·rfl
 ·intro i s k t ht h1 h2;rw [zQZ,zWZ] at ht;obtain ⟨n,hn,rfl⟩:=ht;have hb:=h n (zQY hn);have hj:∀ s:ByteArray,s.size<=4611686018427387906->kM u (λz0 z1 z2=>k z1) l s (i:Int)=k (s++ez n):=λs hs=>by
   unfold kM;rw [fY l i hn,wk,fJ hu hb.1 hb.2,wk,tO ar];rfl
  unfold zZ
  by_cases hi:i > 0
  ·have hi':(i:Int) > 0:=by omega
   rw [decide_eq_true hi',cond_true,if_pos hi,tO Xl,wk,hj _ (by rw [Dp,sz1]; omega)]
  ·have hi':¬ (i:Int) > 0:=by omega
   rw [decide_eq_false hi',cond_false,if_neg hi,hj _ ar]
theorem PH(w:World):(xg w).length<=w.fN.length:=by
 unfold xg;rw [zWg];exact zWH (zYh _ _) eH
theorem Ts{u:Nat}(hu:1099511627776<=u){p0:World}(hn:p0.fN.length<=1048576)(h3:p0.br.length<=1048576)(h4:p0.dB.length<=1048576)(h5:-9223372036854775808<=p0.bC/\p0.bC<=9223372036854775807):∃ v,qi u p0=some v/\qh u p0=some v:=by
 unfold qi qh zY zX;rw [Rt hu hn,Rs hu hn];simp only [wk];rw [Oy hu hn,Ox hu hn];simp only [wk];have h1:(D1 p0).length<=1048576:=zWH (Te p0) hn;have h2:(xg p0).length<=1048576:=zWH (PH p0) hn;have hi:RD [(p0.br.length:Int),(p0.dB.length:Int),p0.bC,((D1 p0).length:Int),((xg p0).length:Int)]:=by
  obtain ⟨l0,l1⟩:=h5;intro n hn;simp only [zXy,zZG,or_false] at hn;rcases hn with rfl | rfl | rfl | rfl | rfl <;> omega
 rw [LQ hu hi eH,Oz hu hi eH];exact ⟨_,rfl,rfl⟩
def Fv:List ByteArray:=[(zm #[105,100,108,101]),(zm #[103,97,116,104,101,114]),(zm #[115,116,97,103,101,100]),(zm #[115,117,114,101]),(zm #[109,101,97,110,116]),(zm #[100,111,110,101]),(zm #[114,111,111,116])]
def nY(n:Int):ByteArray:=if aq n 0 6 then (Fv[n.toNat]?).getD (zm #[]) else zm #[]
theorem Yl:∀ k:Fin 7,((Fv[k.val]?).getD (zm #[])).size<=10:=by decide
theorem D9(n:Int):(nY n).size<=10:=by
 unfold nY
 by_cases h:aq n 0 6=true
 ·rw [if_pos h];have:=bM h;exact Yl ⟨n.toNat,by omega⟩
 ·rw [if_neg h]; exact zYG _
theorem Ym{n:Int}(h:aq n 0 6=true):dm Fv n=some (nY n):=by
 have h1:=bM h;obtain ⟨k,rfl⟩:∃ k:Nat,n=k:=⟨n.toNat,by omega⟩;have hk:k < Fv.length:=by show k < 7; omega
 rw [fY Fv k (sX hk)];unfold nY;rw [if_pos h,r0,sX hk];rfl
theorem OA(u:Nat)(n:Int):wR u n=some (nY n):=by
 unfold wR;rw [cY,wk]
 cases h:aq n 0 6 with
 | false =>
  have:nY n=zm #[]:=by unfold nY; rw [h]; rfl
  rw [this]; rfl
 | true =>
  simp only [zQX,cond_false];have h2:=Ym h;unfold Fv at h2;rw [h2];rfl
theorem OB(u:Nat)(n:Int):wS u n=some (nY n):=by
 unfold wS;have e:cG .i64 ((Fv.length:Int)) 1=6:=by
  rw [show Fv.length=7 by rfl,cm] <;> omega
 unfold Fv at e;rw [e,bG,wk]
 cases h:aq n 0 6 with
 | false =>
  have:nY n=zm #[]:=by unfold nY; rw [h]; rfl
  rw [this]; rfl
 | true =>
  simp only [zQX,cond_false];have h2:=Ym h;unfold Fv at h2;rw [h2];rfl
def Gp:ByteArray:=zm #[32]
theorem sp_size:Gp.size=1:=rfl
def mc(x:aG):ByteArray:=if x.ia then nY x.bh++(Gp++ez x.bD)++(Gp++ez (M.cs x.bw.bl))++(Gp++ez x.aZ.length)++(Gp++ez x.bg) else zm #[111,102,102]
structure M.NodeWf (x:aG):Prop where
 boss:-9223372036854775808<=x.bD/\x.bD<=9223372036854775807
 drops:-9223372036854775808<=x.bg/\x.bg<=9223372036854775807
 kids:x.aZ.length<=1048576
theorem Kw{p:Prop}[Decidable p]{b:ByteArray}{k:Unit->Option ByteArray}(h:p)(hk:∃ w,k ()=some w/\w=b):∃ w,(cd (decide p)).bind k=some w/\w=b:=by
 rw [tO h]; exact hk
theorem PI{x:aG}(h:M.NodeWf x):(mc x).size<=200:=by
 unfold mc
 split
 ·have h0:=D9 x.bh;have h1:=io h.boss.1 h.boss.2;have hc:=Yk x.bw.bl;have h2:=io (n:=M.cs x.bw.bl) ar ar;have hk:=h.kids;have h3:=io (n:=(x.aZ.length:Int)) ar ar;have h4:=io h.drops.1 h.drops.2;simp only [Dp,sp_size];omega
 ·show 3<=200; omega
theorem JM{u:Nat}(hu:1099511627776<=u){x:aG}(h:M.NodeWf x):pu u x=some (mc x):=by
 unfold pu mc
 cases ho:x.ia with
 | false=>rfl
 | true =>
  have h0:=D9 x.bh;have h1:=io h.boss.1 h.boss.2;have hc:=Yk x.bw.bl;have h2:=io (n:=M.cs x.bw.bl) ar ar;have hk:=h.kids;have h3:=io (n:=(x.aZ.length:Int)) ar ar;have h4:=io h.drops.1 h.drops.2;simp only [zQX,cond_false,OA,BN,wk,if_true];rw [FK u x _ _ u eH eF];have step:∀ (i:Nat) (s:ByteArray) (k:ByteArray->Option ByteArray) (n:Int),[x.bD,M.cs x.bw.bl,(x.aZ.length:Int),x.bg][i]?=some n->-9223372036854775808<=n/\n<=9223372036854775807->s.size<=1000 ->
    tI u x (M.cs x.bw.bl) i s k=k (s++(Gp++ez n)):=λi s k n hi hn hs=>by
   have hz:=io hn.1 hn.2;unfold tI;rw [fY _ i hi,wk,kQ hn.1 hn.2,wk,tO Xl,wk,tO (by rw [Dp,sz1]; omega),wk];rfl
  rw [show sY (([x.bD,M.cs x.bw.bl,(x.aZ.length:Int),x.bg].length:Nat):Int)=4 by rfl];simp only [gX];rw [step 0 _ _ x.bD rfl h.boss ar,step 1 _ _ (M.cs x.bw.bl) rfl ar qak,step 2 _ _ (x.aZ.length:Int) rfl ar qak,step 3 _ _ x.bg rfl h.drops qak];rfl
theorem JN{u:Nat}(hu:1099511627776<=u){x:aG}(h:M.NodeWf x):sj u x=some (mc x):=by
 unfold sj mc
 cases ho:x.ia with
 | false=>rfl
 | true =>
  have h0:=D9 x.bh;have h1:=io h.boss.1 h.boss.2;have hc:=Yk x.bw.bl;have h2:=io (n:=M.cs x.bw.bl) ar ar;have hk:=h.kids;have h3:=io (n:=(x.aZ.length:Int)) ar ar;have h4:=io h.drops.1 h.drops.2;simp only [zQX,cond_false,OB,BM hu,wk,if_true,fJ hu h.boss.1 h.boss.2,fJ hu h.drops.1 h.drops.2,fJ hu (n:=M.cs x.bw.bl) ar ar,fJ hu (n:=(x.aZ.length:Int)) ar ar];have e:∀ v,(∃ w,v=some w/\w=nY x.bh++(Gp++ez x.bD)++(Gp++ez (M.cs x.bw.bl))++(Gp++ez x.aZ.length)++(Gp++ez x.bg))->v=some (nY x.bh++(Gp++ez x.bD)++(Gp++ez (M.cs x.bw.bl))++(Gp++ez x.aZ.length)++(Gp++ez x.bg)):=λv ⟨w,h1,h2⟩=>by rw [h1,h2]
  refine e _ ?_;refine Kw Xf ?_;refine Kw Xf ?_;refine Kw Xf ?_;refine Kw Xf ?_;refine Kw Xf ?_;refine Kw Xf ?_;refine Kw Xf ?_;refine Kw Xf ?_;exact ⟨_,rfl,by simp only [Gp,ByteArray.append_assoc]⟩
def OC:ByteArray:=zm #[59,32]
theorem Tt{α:Type}{l:List α}{g:α->ByteArray}{B:Nat}(h:∀ x∈l,(g x).size<=B):∀ t∈l.map g,t.size<=B:=λt ht=>by
 obtain ⟨x,hx,rfl⟩:=List.mem_map.1 ht;exact h x hx
theorem Tu{u:Nat}(hu:1099511627776<=u){p0:World}(hn:p0.fN.length<=1048576)(hw:∀ x∈p0.fN,M.NodeWf x):∃ v,qc u p0=some v/\qb u p0=some v:=by
 have hsz:=Tt (g:=mc) (B:=200) (λx hx=>PI (hw x hx));refine ⟨H5 OC (p0.fN.map mc),?_,?_⟩
 ·unfold qc;rw [EV u p0 _ u ar ar,r0,
   H6 (ts:=p0.fN.map mc) (sep:=OC) (B:=200) (zWk 2) hsz YR ar ?_ p0.fN.length 0 _ eH (zYG _),zZH,RA]
  ·rfl
  ·intro i s k t ht h1 h2;rw [zQZ,zWZ] at ht;obtain ⟨n,hn,rfl⟩:=ht;have hj:∀ s:ByteArray,s.size<=4611686018427387906->iJ u (λz0 z1 z2=>k z0) s (i:Int) p0=k (s++mc n):=λs hs=>by
    unfold iJ;rw [fY p0.fN i hn,wk,JN hu (hw n (zQY hn)),wk,tO ar];rfl
   unfold xU
   by_cases hi:i > 0
   ·have hi':(i:Int) > 0:=by omega
    rw [decide_eq_true hi',cond_true,if_pos hi,tO YS,wk,hj _ (by rw [Dp,sz2]; omega)];rfl
   ·have hi':¬ (i:Int) > 0:=by omega
    rw [decide_eq_false hi',cond_false,if_neg hi,hj _ ar]
 ·unfold qb;rw [ET u p0 _ u ar ar,EE (g:=mc) p0.fN 0 []]
  ·unfold xS pB;rw [zQz,RB (B:=200) YS hsz YR ar];rfl
  ·intro y hy i s k hs;unfold xT;rw [JM hu (hw y hy),wk,RC s _ hs];rfl
  ·simp only [zXQ]; omega
def nh(u:Nat)(x:ak):ByteArray:=(gW u x).getD (zm #[])
theorem WP{u:Nat}(hu:1099511627776<=u){p0:World}(hn:p0.br.length<=1048576)(hw:∀ x∈p0.br,(gW u x=some (nh u x)/\gV u x=some (nh u x))/\(nh u x).size<=300):uQ u p0=some (if p0.br.length=0 then zm #[45] else H5 OC (p0.br.map (nh u)))/\qZ u p0=some (if p0.br.length=0 then zm #[45] else H5 OC (p0.br.map (nh u))):=by
 have hsz:=Tt (g:=nh u) (B:=300) (λx hx=>(hw x hx).2);refine ⟨?_,?_⟩
 ·unfold uQ;rw [G3 u p0 _ u ar ar,r0,
   H6 (ts:=p0.br.map (nh u)) (sep:=OC) (B:=300) (zWk 2) hsz YR ar ?_ p0.br.length 0 _ eH (zYG _),zZH,RA]
  ·unfold zV ti;rw [show ((p0.br.length:Int) == 0)=(p0.br.length == 0) from Cj _ 0]
   by_cases h:p0.br.length=0
   ·rw [if_pos h,beq_iff_eq.2 h]; rfl
   ·rw [if_neg h,beq_eq_false_iff_ne.2 h]; rfl
  ·intro i s k t ht h1 h2;rw [zQZ,zWZ] at ht;obtain ⟨n,hn,rfl⟩:=ht;have hj:∀ s:ByteArray,s.size<=4611686018427387906->kL u (λz0 z1 z2=>k z0) s (i:Int) p0=k (s++nh u n):=λs hs=>by
    unfold kL;rw [fY p0.br i hn,wk,(hw n (zQY hn)).1.1,wk,tO ar];rfl
   unfold zW
   by_cases hi:i > 0
   ·have hi':(i:Int) > 0:=by omega
    rw [decide_eq_true hi',cond_true,if_pos hi,tO YS,wk,hj _ (by rw [Dp,sz2]; omega)];rfl
   ·have hi':¬ (i:Int) > 0:=by omega
    rw [decide_eq_false hi',cond_false,if_neg hi,hj _ ar]
 ·unfold qZ;rw [show ((p0.br.length:Int) == 0)=(p0.br.length == 0) from Cj _ 0]
  by_cases h:p0.br.length=0
  ·rw [if_pos h,beq_iff_eq.2 h]; rfl
  rw [if_neg h,beq_eq_false_iff_ne.2 h,cond_false,G2 u p0 _ u ar ar,EE (g:=nh u) p0.br 0 []]
  ·unfold zT th;rw [zQz,RB (B:=300) YS hsz YR ar];rfl
  ·intro y hy i s k hs;unfold zU;rw [(hw y hy).1.2,wk,RC s _ hs];rfl
  ·simp only [zXQ]; omega
theorem Yn{u:Nat}(hu:1099511627776<=u){c:aJ}(hc:Cu c):Dr (tF u c) (λm=>m.aI.length<=41/\oH m):=by
 unfold tF pR;obtain ⟨b,c1,e1,hb,h1⟩:=Oe hu hc;obtain ⟨n,c2,e2,_,h2⟩:=cJ u h1 5;obtain ⟨s,c3,e3,_,h3⟩:=cJ u h2 5;have hb1:=hb.1;rw [e1];simp only [wk,e2,e3];rw [AS hu hb.2 ar];simp only [wk];generalize hm:gZ (aL .i64 1 n) b (aL .i64 2 s)=m;have hl:m.aI.length<=40:=hm ▸ JA _ _ _;have hw:oH m:=hm ▸ N4 _ b _ hb.2;refine cA (cJ u h3 10) λv c4 _ h4=>?_;simp only
 cases v == 0 with
 | true =>
  simp only [cond_true];exact cA (o9 u h4 eH) λx c5 _ h5=>c8 ⟨by show m.aI.length<=41; omega,hw⟩ h5
 | false =>
  simp only [cond_false]
  cases v == 1 with
  | true =>
   simp only [cond_true];exact cA (o9 u h4 eH) λx c5 _ h5=>c8 ⟨by show m.aI.length<=41; omega,hw⟩ h5
  | false =>
   simp only [cond_false]
   cases v == 2 with
   | true=>exact c8 ⟨by show m.aI.length<=41; omega,hw⟩ h4
   | false =>
    simp only [cond_false]
    cases v == 3 with
    | true =>
     simp only [cond_true];rw [bq eF];simp only [wk];refine c8 ⟨by show (m.aI++[cC.mk 1 257]).length<=41; simp; omega,λx hx=>?_⟩ h4;rcases aac.1 hx with h | h
     ·exact hw x h
     ·simp only [zQy] at h;subst h;show (257:Int)<=9223372036854775807;omega
    | false =>
     simp only [cond_false]
     cases v == 4 with
     | false=>exact c8 ⟨by show m.aI.length<=41; omega,hw⟩ h4
     | true =>
      simp only [cond_true]
      by_cases hp:(m.aI.length:Int) > 0
      ·simp only [hp,decide_true,cond_true];have hlt:0 < m.aI.length:=by omega
       have e0:dm m.aI 0=some (m.aI[0]'hlt):=fY m.aI 0 (sX hlt);simp only [e0,wk];refine c8 ⟨?_,λx hx=>?_⟩ h4
       ·show (m.aI.set _ _).length<=41;rw [zXJ]; omega
       ·rcases zXZ hx with h | h
        ·exact hw x h
        ·subst h;have hq:=hw _ (zXG hlt);exact hq
      ·simp only [hp,decide_false,cond_false];exact c8 ⟨by show m.aI.length<=41; omega,hw⟩ h4
theorem Tv:∀ (l:List dv) (d:aC),(Cm l d).fP=[]
 | [],d=>rfl
 | p :: l,d=>Tv l _
def mp{α:Type}(f:α->Nat->Bool):List α->Nat->Bool
 | [],_=>true
 | x :: l,i=>f x i && mp f l (i+1)
theorem Gq{α:Type}{fin:Unit->Option Bool}{body:α->Nat->Unit->(Unit->Option Bool)->Option Bool}(f:α->Nat->Bool){xs:List α}{b:Bool}(hf:fin ()=some b)(i0:Nat)(hb:∀ x i k,i0<=i->xs[i]?=some x->body x i () k=bif f x i then k () else some false) :
  ∀ (l:List α) (i:Nat),i0<=i->l=xs.drop i->bZ fin body l i ()=some (mp f l i && b):=by
 intro l
 induction l with
 | nil=>intro i _ _; simp [bZ,mp,hf]
 | cons x l ih =>
  intro i h0 h;have hx:xs[i]?=some x:=by
   have:=congrArg zYj h
   simpa [zXx] using this.symm
  have hl:l=xs.drop (i+1):=by
   have:=congrArg zZV h
   simpa [zXh] using this
  simp only [bZ,mp];rw [hb x i _ h0 hx,ih (i+1) ar hl]
  cases f x i <;> simp
def Ea(x:Int)(i:Nat):Bool:=if i=0 then x == -1 else aq x 0 ((i:Int) - 1)
def jf(t:c9):Bool:=mp Ea t.cy 0 && aq t.cy.length 1 7
theorem zx{u:Nat}(hu:1099511627776<=u){t:c9}(hl:t.cy.length<=1073741824):pP u t=some (jf t):=by
 unfold pP jf ua;simp only [bG,wk]
 cases hw:aq t.cy.length 1 7 with
 | false=>simp
 | true =>
  have:=bM hw
  match hup:t.cy with
  | []=>rw [hup] at this; simp at this
  | x :: l =>
   have h1:dm (x :: l) 0=some x:=rfl;simp only [zQX,cond_false,h1,wk,mp,Ea,↓reduceIte,Bool.and_true]
   by_cases hx:x=-1
   ·subst hx;simp only [bne_self_eq_false,cond_false,beq_self_eq_true,zWz];have h:=SN (fin:=AZ u t) (body:=λy i s k=>vu u t y i s k) (xs:=t.cy) (λk s i=>jP u k i t) ar (λ_ _ _=>rfl) (t.cy.drop 1) u 1 () rfl eF;have h2:jP u u 1 t=some (mp Ea (t.cy.drop 1) 1 && true):=by
     rw [show ((1:Int))=((1:Nat):Int) from rfl,h];refine Gq Ea rfl 1 (λy i k h0 hy=>?_) _ 1 (zWk _) rfl;have hi:i < t.cy.length:=(aaa.1 hy).1;have e0:i≠0:=by omega
     unfold vu Ea;simp (disch:=omega) only [e0,cm,bG,wk,↓reduceIte]
     cases aq y 0 ((i:Int) - 1) <;> rfl
    rw [h2,hup];simp
   ·have:(x == -1)=false:=by simpa using hx
    simp [this,bne]
def md(up:List Int):Nat->Int->List Int
 | 0,_=>[]
 | n+1,k=>if aq k 0 ((up.length:Int) - 1) then k :: md up n ((up[k.toNat]?).getD 0) else []
def H7(t:c9)(k:Int):List Int:=md t.cy t.cy.length k
theorem H8(up:List Int):∀ (n:Nat) (k:Int),(md up n k).length<=n
 | 0,_=>by simp [md]
 | n+1,k=>by
  unfold md
  split
  ·have:=H8 up n ((up[k.toNat]?).getD 0);simp; omega
  ·simp
theorem Cv{up:List Int}{k:Int}(h:aq k 0 ((up.length:Int) - 1)=true):dm up k=some ((up[k.toNat]?).getD 0):=by
 have:=bM h;have h1:k.toNat < up.length:=by omega
 simp [dm,this.1,h1]
theorem OD{u:Nat}(hu:1099511627776<=u){t:c9}(hl:t.cy.length<=1048576)(k:Int):wD u t k=some (H7 t k):=by
 have main:∀ (n f:Nat) (k:Int) (o:List Int),o.length+n=t.cy.length->n < f->iH u f k o t=some (o++md t.cy n k):=by
  intro n
  induction n with
  | zero =>
   intro f k o h1 h2;obtain ⟨f,rfl⟩:∃ j,f=j+1:=⟨f - 1,by omega⟩;have e:decide ((o.length:Int) < (t.cy.length:Int))=false:=by simp; omega
   unfold iH pW ur;simp (disch:=omega) only [cm,bG,wk,e,cond_false,md,zXH]
   cases aq k 0 ((t.cy.length:Int) - 1) <;> rfl
  | succ n ih =>
   intro f k o h1 h2;obtain ⟨f,rfl⟩:∃ j,f=j+1:=⟨f - 1,by omega⟩;have e:decide ((o.length:Int) < (t.cy.length:Int))=true:=by simp; omega
   unfold iH pW ur;simp (disch:=omega) only [cm,bG,wk,e,md]
   cases hw:aq k 0 ((t.cy.length:Int) - 1) with
   | false=>simp
   | true =>
    have e2:cd (decide ((o.length+([k]).length)*8<=140737488355328))=some ():=bq eF;have e2':cd (decide ((o.length+([(0:Int)]).length)*8<=140737488355328))=some ():=bq eF;simp only [cond_true,Cv hw,wk,e2,↓reduceIte];rw [ih f _ (o++[k]) eF ar,zQv,List.singleton_append]
 unfold wD H7;rw [main t.cy.length u k [] eH ar,zQz]
def Qv(t:c9)(a k:Int):Bool:=(a != k) && (H7 t k).any λy=>y == a
theorem JO{u:Nat}(hu:1099511627776<=u){t:c9}(hl:t.cy.length<=1048576)(a k:Int):rM u t a k=some (Qv t a k):=by
 have:=H8 t.cy t.cy.length k;unfold rM Qv;rw [OD hu hl];simp only [wk];rw [Oa hu (by unfold H7; omega)]
 cases a != k <;> rfl
def zy(t:c9)(k b:Int):Int:=if jf t && aq k 1 ((t.cy.length:Int) - 1) then (if Qv t b k && decide (0 < b) then (t.cy[b.toNat]?).getD 0 else (t.cy[k.toNat]?).getD 0) else -1
theorem Kx{up:List Int}:∀ {n:Nat} {k a:Int},a∈md up n k->aq a 0 ((up.length:Int) - 1)=true
 | 0,_,_,h=>by simp [md] at h
 | n+1,k,a,h=>by
  unfold md at h
  split at h
  ·rename_i hk;rcases aag.1 h with rfl | h
   ·exact hk
   ·exact Kx h
  ·simp at h
theorem Yo{t:c9}{a k:Int}(h:Qv t a k=true):aq a 0 ((t.cy.length:Int) - 1)=true:=by
 unfold Qv at h;simp only [sk,List.any_eq_true,beq_iff_eq] at h;obtain ⟨_,y,hy,rfl⟩:=h;exact Kx hy
theorem JP{u:Nat}(hu:1099511627776<=u){t:c9}(hl:t.cy.length<=1048576)(k b:Int):rN u t k b=some (zy t k b):=by
 unfold rN qM qL zy;simp (disch:=omega) only [zx hu (show t.cy.length<=1073741824 by omega),bG,cm,JO hu hl,wk]
 cases jf t with
 | false=>rfl
 | true =>
  cases hw:aq k 1 ((t.cy.length:Int) - 1) with
  | false=>rfl
  | true =>
   have:=bM hw;have hk:aq k 0 ((t.cy.length:Int) - 1)=true:=by unfold aq; simp; omega
   by_cases hb:b<=0
   ·have h1:¬ (0 < b):=by omega
    simp [hb,h1,Cv hk]
   ·have h1:0 < b:=by omega
    cases ha:Qv t b k with
    | false=>simp [hb,Cv hk]
    | true=>simp [hb,h1,Cv (Yo ha)]
theorem wx{α:Type}(f:α->Bool):∀ (l:List α) (i:Nat),(eo f l i=-1/\∀ x∈l,f x=false)\/∃ (j:Nat) (x:α),eo f l i=((i+j:Nat):Int)/\l[j]?=some x/\f x=true
 | [],i=>.inl ⟨rfl,by simp⟩
 | y :: l,i=>by
  cases hy:f y with
  | true=>exact .inr ⟨0,y,by simp [eo,hy],rfl,hy⟩
  | false =>
   rcases wx f l (i+1) with ⟨h1,h2⟩ | ⟨j,x,h1,h2,h3⟩
   ·exact .inl ⟨by simp [eo,hy,h1],by simp [hy]; exact h2⟩
   ·exact .inr ⟨j+1,x,by simp [eo,hy,h1]; omega,by simpa using h2,h3⟩
def yo(l:List bS)(id:Int):Int:=eo (λx=>x.pN == id) l 0
theorem AY{u:Nat}(hu:1099511627776<=u){l:List bS}(hl:l.length<=1048577)(id:Int):tD u l id=some (yo l id):=by
 unfold tD;rw [KT u l id () u ar ar];exact Ko (λ(x:bS)=>x.pN == id) rfl (λx i k _=>rfl)
theorem OE{α β ρ:Type}{fin:List β->Option ρ}{body:α->Nat->List β->(List β->Option ρ)->Option ρ}(f:α->Bool)(g:α->β){xs:List α}(hb:∀ x i s k,xs[i]?=some x->i < xs.length->s.length<=i->body x i s k=bif f x then k (s++[g x]) else k s) :
  ∀ (l:List α) (i:Nat) (s:List β),l=xs.drop i->s.length<=i->bZ fin body l i s=fin (s++(l.filter f).map g):=by
 intro l
 induction l with
 | nil=>intro i s _ _; simp [bZ]
 | cons x l ih =>
  intro i s h hs;have hx:xs[i]?=some x:=by
   have:=congrArg zYj h
   simpa [zXx] using this.symm
  have hl:l=xs.drop (i+1):=by
   have:=congrArg zZV h
   simpa [zXh] using this
  have hi:i < xs.length:=(aaa.1 hx).1;simp only [bZ];rw [hb x i s _ hx hi hs]
  cases hf:f x with
  | true=>rw [cond_true,ih (i+1) _ hl eF]; simp [hf]
  | false=>rw [cond_false,ih (i+1) _ hl ar]; simp [hf]
def Yp(x:bS):bS:=⟨x.pN,x.bQ,x.bW,aL .i64 x.zF 1,0⟩
def mf(l:List bS)(forget:Int):List bS:=(l.filter λx=>decide (x.zF < forget)).map Yp
theorem OF{u:Nat}(hu:1099511627776<=u){l:List bS}(hl:l.length<=1048576)(n:Int):wC u l n=some (mf l n):=by
 unfold wC;rw [IJ u l n [] u ar ar,OE (λx=>decide (x.zF < n)) Yp (λx i s k _ hi hs=>?_) l 0 [] rfl eH]
 ·rfl
 ·unfold A4 ny;have e:cd (decide ((s.length+([(bS.mk x.pN x.bQ x.bW (aL .i64 x.zF 1) 0)]).length)*40<=140737488355328))=some ():=bq eF
  by_cases h:x.zF < n
  ·have h2:¬ (x.zF>=n):=by omega
   simp only [h,h2,decide_true,decide_false,cond_true,cond_false,e,wk]; rfl
  ·have h2:x.zF>=n:=by omega
   simp only [h,h2,decide_true,decide_false,cond_true,cond_false]
theorem t7(l:List bS)(id:Int):(yo l id=-1/\∀ x∈l,x.pN≠id)\/∃ (j:Nat) (x:bS),yo l id=(j:Int)/\l[j]?=some x/\x.pN=id:=by
 rcases wx (λ(x:bS)=>x.pN == id) l 0 with ⟨h1,h2⟩ | ⟨j,x,h1,h2,h3⟩
 ·exact .inl ⟨h1,λx hx=>by simpa using h2 x hx⟩
 ·exact .inr ⟨j,x,by unfold yo; rw [h1]; simp,h2,by simpa using h3⟩
def pc(l:List bS)(id have_:Int):Int:=match dm l (yo l id) with
 | some x=>if co have_ && co x.bQ && co x.pK then Mm .i64 (bJ .i64 x.bQ have_) x.pK else 0
 | none=>0
theorem Eb{u:Nat}(hu:1099511627776<=u){l:List bS}(hl:l.length<=1048577)(id s:Int):tR u l id s=some (pc l id s):=by
 unfold tR nE pc;simp only [AY hu hl,iC,wk];rcases t7 l id with ⟨h1,_⟩ | ⟨j,x,h1,h2,_⟩
 ·rw [h1]; rfl
 ·have e:decide ((j:Int) < 0)=false:=by simp
  simp only [h1,e,cond_false,cO,h2,wk]
  cases co s <;> cases co x.bQ <;> cases co x.pK <;> rfl
def oI(l:List bS)(id s:Int):List bS:=match dm l (yo l id) with
 | some x=>if co s && co x.pK then l.set (yo l id).toNat ⟨x.pN,x.bQ,x.bW,x.zF,tZ .i64 x.pK s⟩ else l
 | none=>l
theorem OG{l:List bS}(hl:l.length<=1048577):cd (decide (((([]:List bS)).length+l.length)*40<=140737488355328))=some ():=bq eF
theorem BO{u:Nat}(hu:1099511627776<=u){l:List bS}(hl:l.length<=1048577)(id s:Int):pq u l id s=some (oI l id s):=by
 unfold pq nF oI;simp only [OG hl,AY hu hl,iC,wk,zQz];rcases t7 l id with ⟨h1,_⟩ | ⟨j,x,h1,h2,_⟩
 ·rw [h1]; rfl
 ·have e:decide ((j:Int) < 0)=false:=by simp
  simp only [h1,e,cond_false,cO,h2,wk]
  cases co s <;> cases co x.pK <;> rfl
theorem H9(l:List bS)(id s:Int):(oI l id s).length=l.length:=by
 unfold oI
 split
 ·split <;> simp
 ·rfl
def xh(l:List bS)(id:Int):Nat:=if eo (λ(x:bS)=>decide (x.pN > id)) l 0 < 0 then l.length else (eo (λ(x:bS)=>decide (x.pN > id)) l 0).toNat
def rA(l:List bS)(id want done:Int):List bS :=
 if aq id 0 6 && co want && co done then match dm l (yo l id) with
  | some x=>l.set (yo l id).toNat ⟨x.pN,want,tZ .i64 x.bW done,0,x.pK⟩
  | none=>l.take (xh l id)++[⟨id,want,done,0,0⟩]++l.drop (xh l id)
 else l
theorem Qw(l:List bS)(id:Int):xh l id<=l.length:=by
 unfold xh;rcases wx (λ(x:bS)=>decide (x.pN > id)) l 0 with ⟨h1,_⟩ | ⟨j,x,h1,h2,_⟩
 ·rw [h1]; simp
 ·have:=(aaa.1 h2).1;rw [h1]; split <;> omega
theorem LR{u:Nat}{l:List bS}(hl:l.length<=1048576)(id w d:Int):∀ (ys:List bS) (f i:Nat),ys=l.drop i->i<=l.length->ys.length < f ->
  kY u f id w d l (i:Int)=ye u id w d l (if eo (λ(x:bS)=>decide (x.pN > id)) ys i < 0 then (l.length:Int) else eo (λ(x:bS)=>decide (x.pN > id)) ys i):=by
 intro ys
 induction ys with
 | nil =>
  intro f i h hi hf;obtain ⟨f,rfl⟩:∃ j,f=j+1:=⟨f - 1,by omega⟩;have h1:i=l.length:=by
   have:=congrArg List.length h;simp at this;omega
  subst h1;unfold kY ux;simp only [zQz,Int.lt_irrefl,decide_false,cond_false,eo];rfl
 | cons y ys ih =>
  intro f i h hi hf;obtain ⟨f,rfl⟩:∃ j,f=j+1:=⟨f - 1,by omega⟩;have hx:l[i]?=some y:=by
   have:=congrArg zYj h
   simpa [zXx] using this.symm
  have hy:ys=l.drop (i+1):=by
   have:=congrArg zZV h
   simpa [zXh] using this
  have hlt:i < l.length:=(aaa.1 hx).1;have e:decide ((i:Int) < (l.length:Int))=true:=by simp; omega
  unfold kY ux;simp only [zQz,e,cond_true,cO,hx,wk,eo]
  by_cases hc:y.pN<=id
  ·have hc2:¬ (y.pN > id):=by omega
   simp only [hc,hc2,decide_true,decide_false,cond_true,zQj,↓reduceIte];rw [dy ar];simp only [zQK] at hf;exact ih f (i+1) hy ar ar
  ·have hc2:y.pN > id:=by omega
   have:¬ ((i:Int) < 0):=by omega
   simp only [hc,hc2,decide_true,decide_false,cond_false,this,↓reduceIte]
theorem RE{u:Nat}(hu:1099511627776<=u){l:List bS}(hl:l.length<=1048576)(id w d:Int):Bb u l id w d=some (rA l id w d):=by
 unfold Bb uy rA;simp only [OG (show l.length<=1048577 by omega),bG,iC,AY hu (show l.length<=1048577 by omega),wk,zQz]
 cases h1:aq id 0 6 with
 | false=>rfl
 | true=>cases h2:co w with
  | false=>rfl
  | true=>cases h3:co d with
   | false=>rfl
   | true =>
    simp only [zQX,cond_false,zXK,↓reduceIte];rcases t7 l id with ⟨h4,_⟩ | ⟨j,x,h4,h5,_⟩
    ·have e:dm l (-1)=none:=by simp [dm]
     rw [h4,e,show decide ((-1:Int) < 0)=true from rfl,cond_true,show ((0:Int))=((0:Nat):Int) from rfl,LR hl id w d l u 0 rfl ar ar];have hp:=Qw l id;have e2:(if eo (λ(x:bS)=>decide (x.pN > id)) l 0 < 0 then (l.length:Int) else eo (λ(x:bS)=>decide (x.pN > id)) l 0)=((xh l id:Nat):Int):=by
      unfold xh; split <;> omega
     rw [e2];generalize xh l id=q at hp;unfold ye;simp only [zQz];have c1:=gw (a:=0) (b:=q) (n:=l.length) ar hp;have c2:=gw (a:=q) (b:=l.length) (n:=l.length) hp ar;rw [show ((0:Nat):Int)=0 from rfl] at c1;rw [c1,c2];simp only [wk];rw [bq eF,bq eF,bq eF];simp
    ·have e:decide ((j:Int) < 0)=false:=by simp
     simp only [h4,e,cond_false,cO,h5,wk]
theorem Tw(l:List bS)(id w d:Int):(rA l id w d).length<=l.length+1:=by
 unfold rA
 split
 ·split
  ·simp
  ·have:=Qw l id;simp; omega
 ·omega
theorem WQ{α:Type}{fin:Unit->Option Bool}{body:Nat->Unit->(Unit->Option Bool)->Option Bool}(f:α->Nat->Bool){xs:List α}{b:Bool}(hf:fin ()=some b)(hb:∀ x i k,xs[i]?=some x->body i () k=bif f x i then k () else some false) :
  ∀ (l:List α) (i:Nat),l=xs.drop i->gX fin body l.length i ()=some (mp f l i && b):=by
 intro l
 induction l with
 | nil=>intro i _; simp [gX,mp,hf]
 | cons x l ih =>
  intro i h;have hx:xs[i]?=some x:=by
   have:=congrArg zYj h
   simpa [zXx] using this.symm
  have hl:l=xs.drop (i+1):=by
   have:=congrArg zZV h
   simpa [zXh] using this
  simp only [zQK,gX,mp];rw [hb x i _ hx,ih (i+1) hl]
  cases f x i <;> simp
def BP(n:Nat):Int:=if n<=40 then ((2 ^ n - 1:Nat):Int) else 0
theorem BQ(u:Nat){m:af}:pm u m=some (BP m.aI.length):=by
 unfold pm BP
 by_cases h:m.aI.length<=40
 ·rw [LI u h]; simp [h]
 ·have h1:aq (m.aI.length:Int) 0 40=false:=by
   unfold aq; simp; omega
  unfold qN;rw [bG,h1];simp [h]
def BR(a b:Int):Int:=if co a && co b then Mm .i64 a b else 0
theorem C6(u:Nat)(a b:Int):qO u a b=some (BR a b):=by
 unfold qO sT BR;simp only [iC,wk]
 cases co a <;> cases co b <;> rfl
def EF(m:af)(x:bH):Int:=BR (BP m.aI.length) x.bl
theorem C7(u:Nat)(m:af)(x:bH):qP u m x=some (EF m x):=by
 unfold qP EF;simp only [BQ,C6,wk]
def M.at_(m:af)(i:Int):Nat:=(cz m.aB m.aT i).1.toNat
def we(m:af)(i:Int):Nat:=(cz m.aB m.aT i).2.toNat
def Ms(m:af)(x:bH)(i:Int):List Int:=M.win x.cj (M.at_ m i) (we m i)
theorem Tx{m:af}{b:List Int}(hb:(b.length:Int)=m.aT)(hl:b.length<=1048576)(i:Int) :
  cd (cS (cz m.aB m.aT i).1 (aL .i64 (cz m.aB m.aT i).1 (cz m.aB m.aT i).2) b.length)=some () /\
  (b.take (sY (aL .i64 (cz m.aB m.aT i).1 (cz m.aB m.aT i).2))).drop (sY (cz m.aB m.aT i).1)=M.win b (M.at_ m i) (we m i) /\
  M.at_ m i+we m i<=b.length/\we m i<=6:=by
 obtain ⟨h1,h2,h3,h4⟩:=vg (size:=m.aB) (n:=m.aT) (i:=i) ar;unfold M.at_ we;generalize cz m.aB m.aT i=s at *;obtain ⟨a,c⟩:=s;dsimp only at *;obtain ⟨a,rfl⟩:∃ n:Nat,a=n:=⟨a.toNat,by omega⟩;obtain ⟨c,rfl⟩:∃ n:Nat,c=n:=⟨c.toNat,by omega⟩;simp only [r0] at *;rw [sI ar,gw ar ar];exact ⟨rfl,rfl,by omega,by omega⟩
def Gr(m:af)(x:bH)(s:cC)(i:Nat):Bool :=
 if eu x.bl i then decide (et (Ms m x i)=s) else (Ms m x i).all λc=>c == 0
def lB(m:af)(x:bH):Bool :=
 c7 m && co x.bl && (BR x.bl (BP m.aI.length) == 0) && ((x.cj.length:Int) == m.aT) && mp (Gr m x) m.aI 0
theorem OH{u:Nat}(hu:1099511627776<=u){b:List Int}(hl:b.length<=1048576):od u b=some (b.all λc=>c == 0):=by
 unfold od;rw [IM u b () u ar ar,Gq (λ(c:Int) _=>c == 0) (xs:=b) (b:=true) rfl 0 (λx i k _ hx=>?_) b 0 (zWk _) rfl,Bool.and_true]
 ·congr 1
  have:∀ (l:List Int) (i:Nat),mp (λ(c:Int) _=>c == 0) l i=l.all λc=>c == 0:=by
   intro l
   induction l with
   | nil=>intro i; rfl
   | cons x l ih=>intro i; simp [mp,ih]
  exact this b 0
 ·unfold A6;rw [Gd]
  cases x == 0 <;> rfl
structure M.BldWf (x:bH):Prop where
 b:av x.cj
 l:x.cj.length<=1048576
theorem JQ{b:List Int}(h:av b)(hl:b.length<=1048576)(i n:Nat):av (M.win b i n)/\(M.win b i n).length<=1048576:=by
 refine ⟨qw h i n,?_⟩;have:(M.win b i n).length<=b.length:=by unfold M.win; simp; omega
 omega
theorem xJ{u:Nat}(hu:1099511627776<=u){m:af}(hm:m.aI.length<=1048576){x:bH}(hx:M.BldWf x):ou u m x=some (lB m x):=by
 unfold ou mw lB;simp only [gP hu m (show m.aI.length<=1073741824 by omega),iC,BQ,C6,wk]
 cases c7 m with
 | false=>rfl
 | true=>cases co x.bl with
  | false=>rfl
  | true =>
   rw [Gd,Gd]
   cases BR x.bl (BP m.aI.length) == 0 with
   | false=>rfl
   | true =>
    by_cases hb:(x.cj.length:Int)=m.aT
    ·have e:((x.cj.length:Int) == m.aT)=true:=by simpa using hb
     simp only [e,zQX,cond_false,zXK,zWz];have hl:=hx.l;rw [GU u m x () u ar ar,r0,WQ (Gr m x) (xs:=m.aI) (b:=true) rfl (λs i k hs=>?_) m.aI 0 rfl,Bool.and_true];obtain ⟨c1,c2,c3,c4⟩:=Tx hb hl i;obtain ⟨b1,b2⟩:=JQ hx.b hl (M.at_ m i) (we m i);unfold zP ei Gr Ms;simp only [kg,iD,cO,hs,wk,c1,c2,m6 hu b1 (show _<=1073741824 by omega),OH hu b2,Mq]
     cases eu x.bl i with
     | true=>simp only [cond_true,↓reduceIte,zQX,cond_false]; cases decide (et (M.win x.cj (M.at_ m i) (we m i))=s) <;> rfl
     | false=>simp only [cond_false,zZK,cond_true,zQj,↓reduceIte]; cases (M.win x.cj (M.at_ m i) (we m i)).all λc=>c == 0 <;> rfl
    ·have e:((x.cj.length:Int) == m.aT)=false:=by simpa using hb
     simp [e]
def RF(m:af)(x:bH):Bool:=(m.aH != 0) && lB m x && (EF m x == 0)
theorem PJ{u:Nat}(hu:1099511627776<=u){m:af}(hm:m.aI.length<=1048576){x:bH}(hx:M.BldWf x):yG u m x=some (RF m x):=by
 unfold yG RF;simp only [xJ hu hm hx,C7,wk]
 cases m.aH != 0 <;> cases lB m x <;> rfl
def sa(m:af)(b:List Int):Bool:=((b.length:Int) == m.aT) && M.same (λx y=>decide (x=y)) (w8 b m.aB) m.aI
theorem Fw{u:Nat}(hu:1099511627776<=u)(m:af){b:List Int}(hb:av b)(hl:b.length<=1048576):vC u m b=some (sa m b):=by
 unfold vC sa;rw [DY hu hb ar];simp only [wk];rw [zn hu (by unfold w8; have:=fb m.aB b.length; simp; omega)]
 cases (b.length:Int) == m.aT <;> rfl
theorem Ia{b:List Int}(hl:b.length<=1048576):cd (decide (((([]:List Int)).length+b.length)*1<=140737488355328))=some ():=bq eF
theorem zA(u:Nat){m:af}(hm:m.aI.length<=1048576):mL u m=some m:=by
 unfold mL;rw [bq eF]; rfl
theorem Ec(u:Nat){x:bH}(hl:x.cj.length<=1048576):oa u x=some x:=by
 unfold oa;rw [Ia hl]; rfl
structure M.NodWf (n:aG):Prop where
 s:n.ay.aI.length<=1048576
 b:M.BldWf n.bw
 k:n.aZ.length<=1048577
 w:oH n.ay
theorem fK(u:Nat){n:aG}(h:M.NodWf n):dC u n=some n:=by
 unfold dC;rw [zA u h.s,Ec u h.b.l,wk,wk,OG (by have:=h.k; omega)]; rfl
def iS(m:af)(x:bH)(i:Int):List Int×Bool:=if lB m x && eu x.bl i then (Ms m x i,true) else ([],false)
theorem Ed{m:af}{x:bH}(h:lB m x=true):(x.cj.length:Int)=m.aT:=by
 unfold lB at h;simp only [sk,beq_iff_eq] at h;exact h.1.2
theorem C8{u:Nat}(hu:1099511627776<=u){m:af}(hm:m.aI.length<=1048576){x:bH}(hx:M.BldWf x)(i:Int):oA u m x i=some (iS m x i):=by
 unfold oA s4 iS;simp only [xJ hu hm hx,iD,wk]
 cases hb:lB m x with
 | false=>rfl
 | true=>cases eu x.bl i with
  | false=>rfl
  | true =>
   obtain ⟨c1,c2,c3,c4⟩:=Tx (Ed hb) hx.l i;have c5:=(JQ hx.b hx.l (M.at_ m i) (we m i)).2;simp only [zQX,cond_false,kg,wk,c1,c2,Ia c5,zXK,↓reduceIte,zQz];rfl
theorem OI:∀ (b:List Int) (s:Int) (n:Nat),av b->(256:Int) ^ n<=s->(256:Int) ^ (n+b.length)<=jt b s:=by
 intro b
 induction b with
 | nil=>intro s n _ h; exact h
 | cons c b ih =>
  intro s n hb h;have hc:=hb c eH;have:=ih (256*s+c) (n+1) (λz hz=>hb z Xe) YQ;simp only [zQK,jt];rwa [show n+(b.length+1)=n+1+b.length by omega]
theorem Ky{a b:Nat}(h:a<=b):(256:Int) ^ a<=256 ^ b:=by
 induction h with
 | refl=>exact Int.le_refl _
 | step h ih =>
  rename_i c;have:(0:Int) < 256 ^ c:=zVZ ar;rw [zYQ]; omega
theorem Qx{b:List Int}{s:cC}{size len:Int}{i:Nat}(hb:av b)(h:et b=s)(hf:sH size len i s=true):(b.length:Int)=(cz size len i).2/\b.length<=6:=by
 unfold sH at hf;simp only [sk,beq_iff_eq] at hf;obtain ⟨⟨h1,h2⟩,_⟩:=hf;have h3:b4 s.fS=((b4 s.fS).1,true):=by rw [<- h1]
 obtain ⟨h4,h5,_,h6⟩:=Cg h3;generalize (b4 s.fS).1=c at *;unfold et at h
 split at h
 ·rw [<- h] at h4; simp at h4
 ·rename_i hl;have hs:s.fS=jt b 1:=by rw [<- h]
  have h7:=(NW b 1 0 hb ar ar).2;have h8:=OI b 1 0 hb eH;simp only [zWY] at h7 h8;rw [hs] at h5;have hp:(0:Int) < 256 ^ c.length:=zVZ ar;have h9:256 ^ c.length<=jt b 1:=by
   have:=Int.mul_ediv_self_le (x:=jt b 1) (k:=256 ^ c.length) ar;rw [h5] at this; omega
  have h10:jt b 1 < 256 ^ c.length*2:=by
   have:=Int.lt_mul_ediv_self_add (x:=jt b 1) hp;rw [h5] at this; omega
  have:b.length=c.length:=by
   rcases Nat.lt_trichotomy b.length c.length with h | h | h
   ·have:=Ky (show b.length+1<=c.length by omega);rw [zYQ] at this; omega
   ·exact h
   ·have:=Ky (show c.length+1<=b.length by omega);rw [zYQ] at this; omega
  omega
theorem Kz{size len:Int}:∀ {l:List cC} {i j:Nat} {s:cC},lz size len l i=true->l[j]?=some s->sH size len (i+j) s=true
 | [],_,_,_,_,h=>by simp at h
 | x :: l,i,0,s,h,hs=>by
  simp only [lz,sk] at h;simp at hs; subst hs; exact h.1
 | x :: l,i,j+1,s,h,hs=>by
  simp only [lz,sk] at h;have:=Kz h.2 (by simpa using hs);rwa [show i+1+j=i+(j+1) by omega] at this
theorem Qy{m:af}(hm:c7 m=true){i:Nat}{s:cC}(hs:m.aI[i]?=some s):sH m.aB m.aT i s=true:=by
 unfold c7 at hm
 split at hm
 ·simp only [sk,beq_iff_eq] at hm;have:=(aaa.1 hs).1;omega
 ·simp only [sk] at hm;have:=Kz hm.2 hs
  simpa using this
theorem Gs{m:af}(hm:c7 m=true):0<=m.aT/\m.aT<=240:=by
 unfold c7 at hm
 split at hm
 ·simp only [sk,beq_iff_eq] at hm; omega
 ·simp only [sk] at hm;have:=w7 hm.1.1.2;omega
def M.put(m:af)(x:bH)(i:Int)(b:List Int):bH:=⟨tZ .i64 x.bl (il .i64 1 i),M3 x.cj b (M.at_ m i)⟩
def vq(m:af)(x:bH)(i:Int)(b:List Int):Bool×bH :=
 if aq i 0 ((m.aI.length:Int) - 1) && !eu x.bl i && (match m.aI[i.toNat]? with | some s=>decide (et b=s) | none=>false) then (true,M.put m x i b) else (false,x)
theorem Yq(m:af)(x:bH)(i:Int)(b:List Int):vq m x i b=(true,M.put m x i b)\/vq m x i b=(false,x):=by
 unfold vq;generalize (aq i 0 ((m.aI.length:Int) - 1) && !eu x.bl i && (match m.aI[i.toNat]? with | some s=>decide (et b=s) | none=>false))=c
 cases c
 ·exact .inr rfl
 ·exact .inl rfl
theorem qb0(u:Nat)(p2:Int)(p3:List Int)(r6:Int×Int)(x:bH)(a:Nat)(ha:r6.1=(a:Int))(hal:a<=1048576):∀ (l:List Int) (i:Nat) (s:List Int),a+i+l.length<=s.length->s.length<=4194304 ->
  bZ (xq u p2 p3 r6 x) (xr u p2 p3 r6 x) l i s=(iB u x.bl p2).bind λq=>some (true,⟨q,s.take (a+i)++l++s.drop (a+i+l.length)⟩):=by
 intro l
 induction l with
 | nil=>intro i s _ _; simp [bZ,xq,wm]
 | cons y l ih =>
  intro i s h1 h2;simp only [zQK] at h1;simp only [bZ,xr];rw [ha,cN ar ar,show (a:Int)+(i:Int)=((a+i:Nat):Int) by omega,cO,sX ar,r0];simp only [wk];rw [ih (i+1) _ eF eF];have e1:(s.set (a+i) y).take (a+(i+1))=s.take (a+i)++[y]:=by
   rw [show a+(i+1)=(a+i)+1 by omega,List.take_add_one,List.take_set_of_le (zWk _)];simp [show a+i < s.length by omega]
  have e2:(s.set (a+i) y).drop (a+(i+1)+l.length)=s.drop (a+i+(y :: l).length):=by
   rw [List.drop_set_of_lt ar]; simp only [zQK]; congr 1; omega
  rw [e1,e2]; simp
theorem Ib{m:af}{b:List Int}(hb:(b.length:Int)=m.aT)(i:Int):(cz m.aB m.aT i).1=(M.at_ m i:Int)/\(cz m.aB m.aT i).2=(we m i:Int)/\M.at_ m i+we m i<=b.length:=by
 obtain ⟨h1,h2,h3,h4⟩:=vg (size:=m.aB) (n:=m.aT) (i:=i) ar;unfold M.at_ we;omega
theorem UW{i:Int}{n:Nat}(h:aq i 0 ((n:Int) - 1)=true)(hn:n<=40):im i=true/\0<=i:=by
 have:=bM h;unfold im aq;simp; omega
theorem BS(u:Nat){s i:Int}(hs:co s=true)(hi:im i=true):iB u s i=some (tZ .i64 s (il .i64 1 i)):=by
 have:=bM hi;unfold iB nj;rw [iC,hs];simp only [wk,zQX,cond_false];rw [bG,show aq i 0 39=true from hi];simp only [wk,zQX,cond_false];rw [bq ar]; rfl
theorem Fx{u:Nat}(hu:1099511627776<=u){m:af}(hm:c7 m=true){x:bH}(hx:(x.cj.length:Int)=m.aT)(hs:co x.bl=true)(i:Int){b:List Int}(hb:av b)(hl:b.length<=1048576) :
  tx u m x i b=some (vq m x i b):=by
 have h40:=wc hm;have h240:=Gs hm;unfold tx pg vq;simp (disch:=omega) only [cm,bG,iD,m6 hu hb (show b.length<=1073741824 by omega),wk,Mq]
 cases hw:aq i 0 ((m.aI.length:Int) - 1) with
 | false=>simp
 | true=>cases eu x.bl i with
  | true=>simp
  | false =>
   have hw':=bM hw;obtain ⟨n,rfl⟩:∃ n:Nat,i=n:=⟨i.toNat,by omega⟩;have hn:n < m.aI.length:=by omega
   obtain ⟨s,hs'⟩:∃ s,m.aI[n]?=some s:=⟨_,sX hn⟩;simp only [zQX,zZK,cond_false,cO,hs',wk,r0,zWz]
   by_cases hq:et b=s
   ·obtain ⟨h1,h2⟩:=Qx hb hq (Qy hm hs');have h3:decide ((b.length:Int) > 6)=false:=by simp; omega
    obtain ⟨e1,e2,e3⟩:=Ib (b:=x.cj) hx n;have h4:b.length=we m n:=by omega
    simp only [hq,decide_true,zQX,cond_false,h3,kg,wk,↓reduceIte];rw [KO u n b _ x x.cj u ar ar,qb0 u n b _ x (M.at_ m n) e1 ar b 0 x.cj ar ar,BS u hs (UW hw ar).1];unfold M.put;rw [HU ar];rfl
   ·simp [hq]
def oJ(m:af)(x:bH)(i:Int)(b:List Int):bH×Bool:=if lB m x && (vq m x i b).1 then (M.put m x i b,true) else (x,false)
theorem KA{m:af}{x:bH}(h:lB m x=true):c7 m=true/\co x.bl=true:=by
 unfold lB at h;simp only [sk] at h;exact ⟨h.1.1.1.1,h.1.1.1.2⟩
theorem JR{u:Nat}(hu:1099511627776<=u){m:af}(hm:m.aI.length<=1048576){x:bH}(hx:M.BldWf x)(i:Int){b:List Int}(hb:av b)(hl:b.length<=1048576):rT u m x i b=some (oJ m x i b):=by
 unfold rT qT oJ;simp only [Ec u hx.l,xJ hu hm hx,wk]
 cases hk:lB m x with
 | false=>rfl
 | true =>
  obtain ⟨h1,h2⟩:=KA hk;simp only [zQX,cond_false,Fx hu h1 (Ed hk) h2 i hb hl,wk,zWz];rcases Yq m x i b with h | h <;> rw [h] <;> rfl
def EG(m:af)(old:List Int):Nat->Nat->bH->bH
 | 0,_,x=>x
 | n+1,i,x=>EG m old n (i+1) (if 0<=fX old m i then M.put m x i (M.win old (fX old m i).toNat (we m i)) else x)
def qy(m:af):bH:=if c7 m then ⟨0,zQq m.aT.toNat 0⟩ else ⟨0,[]⟩
def lr(m:af)(old:List Int):bH:=if c7 m then EG m old m.aI.length 0 (qy m) else ⟨0,[]⟩
theorem RG{m:af}(hm:c7 m=true):cd (decide (0<=m.aT) && (m.aT == 0 || m.aT == m.aT))=some ()/\cd (decide (sY m.aT*1<=140737488355328))=some ():=by
 have:=Gs hm;refine ⟨by simp [cd]; omega,bq ar⟩
theorem JS{u:Nat}(hu:1099511627776<=u){m:af}(hm:m.aI.length<=1048576):rG u m=some (qy m):=by
 unfold rG qy;simp only [gP hu m (show m.aI.length<=1073741824 by omega),wk]
 cases h:c7 m with
 | false=>rfl
 | true=>obtain ⟨h1,h2⟩:=RG h; rw [h1,h2]; rfl
theorem Ic{b:List Int}{s:cC}{n:Nat}:∀ (c i:Nat),0<=ju b s n c i->et (M.win b (ju b s n c i).toNat n)=s
 | 0,_,h=>by simp [ju] at h
 | c+1,i,h=>by
  unfold ju at h ⊢
  split
  ·rename_i hq; simpa using hq
  ·rename_i hq;rw [if_neg hq] at h;exact Ic c (i+1) h
theorem OJ{old:List Int}{m:af}{i:Nat}(h:0<=fX old m i):∃ s,m.aI[i]?=some s/\0<=(cz m.aB m.aT i).2/\et (M.win old (fX old m i).toNat (we m i))=s/\(fX old m i).toNat+we m i<=old.length:=by
 unfold fX at h ⊢
 split at h
 ·rename_i s hs;simp only [hs];unfold yx at h ⊢
  split at h
  ·rename_i hw;have:=bM hw;rw [if_pos hw];have h1:=Ic _ _ h;have h2:=N3 old s (cz m.aB m.aT i).2.toNat (old.length+1 - (cz m.aB m.aT i).2.toNat) 0;refine ⟨s,rfl,by omega,h1,?_⟩;unfold we;omega
  ·omega
 ·omega
structure M.Part (m:af) (i:Nat) (x:bH):Prop where
 b:M.BldWf x
 l:(x.cj.length:Int)=m.aT
 h:∃ n:Nat,x.bl=n/\n < 2 ^ i
theorem Ee{x p:List Int}{a:Nat}(h:a+p.length<=x.length)(hx:av x)(hp:av p):av (M3 x p a)/\(M3 x p a).length=x.length:=by
 rw [HU h];refine ⟨λz hz=>?_,by simp; omega⟩;simp only [zWw] at hz;rcases hz with (hz | hz) | hz
 ·exact hx z (zWJ hz)
 ·exact hp z hz
 ·exact hx z (zXV hz)
theorem Ty{m:af}{i:Nat}{x:bH}(hp:M.Part m i x)(hi:i<=39){b:List Int}(hb:av b)(hl:b.length=we m i):M.Part m (i+1) (M.put m x i b):=by
 obtain ⟨e1,e2,e3⟩:=Ib (b:=x.cj) hp.l i;obtain ⟨h1,h2⟩:=Ee (x:=x.cj) (p:=b) (a:=M.at_ m i) ar hp.b.b hb;obtain ⟨n,h3,h4⟩:=hp.h;have h5:(2:Nat) ^ i<=2 ^ 39:=zYV ar hi;refine ⟨⟨h1,by unfold M.put; dsimp only; rw [h2]; exact hp.b.l⟩,by unfold M.put; dsimp only; rw [h2]; exact hp.l,n ||| 2 ^ i,?_,?_⟩
 ·unfold M.put;dsimp only;rw [h3,Qo ar,HQ ar ar]
 ·exact Nat.or_lt_two_pow (by rw [zVW]; omega) (by rw [zVW]; have:0 < 2 ^ i:=Nat.pow_pos ar; omega)
theorem JT{m:af}{i j:Nat}{x:bH}(hp:M.Part m i x)(h:i<=j):M.Part m j x:=by
 obtain ⟨n,h3,h4⟩:=hp.h;exact ⟨hp.b,hp.l,n,h3,zQh h4 (zYV ar h)⟩
theorem ZA{m:af}{i:Nat}{x:bH}(hp:M.Part m i x)(hi:i<=40):co x.bl=true/\eu x.bl i=false:=by
 obtain ⟨n,h3,h4⟩:=hp.h;have h5:(2:Nat) ^ i<=2 ^ 40:=zYV ar hi;constructor
 ·rw [h3]; unfold co aq; simp; omega
 ·unfold eu;rw [h3,r0,r0,Nat.testBit_lt_two_pow h4,Bool.and_false]
theorem ZB{old:List Int}(hl:old.length<=1048576){p:Int}{n:Nat}(h0:0<=p)(h:p.toNat+n<=old.length):cd (cS p (aL .i64 p (n:Int)) old.length)=some ()/\(old.take (sY (aL .i64 p (n:Int)))).drop (sY p)=M.win old p.toNat n:=by
 obtain ⟨q,rfl⟩:∃ q:Nat,p=q:=⟨p.toNat,by omega⟩;simp only [r0] at h ⊢;rw [sI ar,gw ar ar];exact ⟨rfl,rfl⟩
theorem WR{m:af}(hm:c7 m=true){old:List Int}(ho:av old):∀ (n i:Nat) (x:bH),i+n=m.aI.length->M.Part m i x->M.Part m (i+n) (EG m old n i x):=by
 have h40:=wc hm;intro n
 induction n with
 | zero=>intro i x _ hp; exact hp
 | succ n ih =>
  intro i x h hp;simp only [EG]
  by_cases hq:0<=fX old m i
  ·obtain ⟨s,g1,g2,g3,g4⟩:=OJ hq;have hb:=qw ho (fX old m i).toNat (we m i);have hbl:(M.win old (fX old m i).toNat (we m i)).length=we m i:=Ge g4;have hput:=Ty hp ar hb hbl;have k3:=ih (i+1) _ ar hput;rw [if_pos hq];rwa [show i+1+n=i+(n+1) by omega] at k3
  ·have k3:=ih (i+1) x ar (JT hp ar);rw [if_neg hq];rwa [show i+1+n=i+(n+1) by omega] at k3
theorem WS{u:Nat}(hu:1099511627776<=u){m:af}(hm:c7 m=true){old:List Int}(ho:av old)(hl:old.length<=1048576):∀ (n i:Nat) (x:bH),i+n=m.aI.length->M.Part m i x ->
  gX (xN u old m) (rp u old m) n i (x.bl,x.cj)=some (EG m old n i x):=by
 have h40:=wc hm;intro n
 induction n with
 | zero=>intro i x _ hp; exact rfl
 | succ n ih =>
  intro i x h hp;obtain ⟨e1,e2,e3⟩:=Ib (b:=x.cj) hp.l i;obtain ⟨f1,f2⟩:=ZA hp ar;simp only [gX,EG,rp,ko];rw [LH hu ho ar ar,kg];simp only [wk]
  by_cases hq:0<=fX old m i
  ·obtain ⟨s,g1,g2,g3,g4⟩:=OJ hq;have hq':decide (fX old m i>=0)=true:=by simpa using hq
   rw [e2];obtain ⟨c1,c2⟩:=ZB hl hq g4;have hb:=qw ho (fX old m i).toNat (we m i);have hbl:(M.win old (fX old m i).toNat (we m i)).length=we m i:=Ge g4;have hput:=Ty hp ar hb hbl;have k1:=ih (i+1) _ ar hput;have h6:(M.win old (fX old m i).toNat (we m i)).length<=1048576:=by omega
   have hl8:vq m x i (M.win old (fX old m i).toNat (we m i))=(true,M.put m x i (M.win old (fX old m i).toNat (we m i))):=by
    unfold vq;have hw:aq (i:Int) 0 ((m.aI.length:Int) - 1)=true:=by unfold aq; simp; omega
    rw [hw,f2,r0,g1];simp [g3]
   rw [if_pos hq];simp only [hq',cond_true,c1,c2,wk,Fx hu hm hp.l f1 i hb h6,hl8];exact k1
  ·have hq':decide (fX old m i>=0)=false:=by simpa using hq
   have k1:=ih (i+1) x ar (JT hp ar);rw [if_neg hq];simp only [hq',cond_false];exact k1
theorem Tz{m:af}(hm:c7 m=true):M.Part m 0 (qy m):=by
 have:=Gs hm;unfold qy;rw [if_pos hm];exact ⟨⟨by simp [av],by simp; omega⟩,by simp; omega,0,rfl,by simp⟩
theorem Ef{m:af}(hm:c7 m=true){old:List Int}(ho:av old)(hl:old.length<=1048576):M.Part m m.aI.length (lr m old):=by
 have:=WR hm ho m.aI.length 0 _ ar (Tz hm);unfold lr;rw [if_pos hm]
 simpa using this
theorem Aw{u:Nat}(hu:1099511627776<=u){m:af}(hs:m.aI.length<=1048576){old:List Int}(ho:av old)(hl:old.length<=1048576):nm u m old=some (lr m old):=by
 unfold nm lr;simp only [JS hu hs,gP hu m (show m.aI.length<=1073741824 by omega),wk]
 cases hm:c7 m with
 | false=>simp [qy,hm]
 | true =>
  simp only [zQX,cond_false,↓reduceIte];rw [EP u old m ((qy m).bl,(qy m).cj) u ar ar,r0];exact WS hu hm ho hl m.aI.length 0 _ ar (Tz hm)
def M.add(d:aC)(p:dv):aC×Bool:=if cP (je d p) then (je d p,true) else (d,false)
def mg(d:aC)(slot at_:Int)(b:List Int):aC×Bool:=if aq slot 0 1 then M.add d ⟨slot,at_,b,⟨0,0,0⟩⟩ else (d,false)
def mX(d:aC)(r:dq):aC×Bool:=M.add d ⟨2,0,[],r⟩
def rk(d:aC):Int:=cG .i64 1 d.fR.b8
theorem UX(d:aC)(p:dv):(M.add d p=(je d p,true)/\cP (je d p)=true)\/M.add d p=(d,false):=by
 unfold M.add
 cases h:cP (je d p) with
 | true=>exact .inl ⟨rfl,rfl⟩
 | false=>exact .inr rfl
theorem JU{u:Nat}(hu:1099511627776<=u){d:aC}(hd:M.DOk d)(hl:d.fP.length<=1048575)(s a:Int){b:List Int}(hb:b.length<=1048576):rO u d s a b=some (mg d s a b):=by
 unfold rO mg M.add;rw [bG,AU hu hd hl (p:=⟨s,a,b,⟨0,0,0⟩⟩) hb,gQ hu hd];simp only [wk]
 cases aq s 0 1 <;> rfl
theorem Id{u:Nat}(hu:1099511627776<=u){d:aC}(hd:M.DOk d)(hl:d.fP.length<=1048575)(r:dq):pY u d r=some (mX d r):=by
 unfold pY mX M.add;rw [AU hu hd hl (p:=⟨2,0,[],r⟩) eH];rfl
theorem Fy(u:Nat)(d:aC):yI u d=some (rk d):=rfl
def mY(d0:aC)(b:List Int)(size:Int):Nat->Nat->aC->aC×Bool
 | 0,_,d=>(d,true)
 | n+1,i,d=>if (mg d (rk d0) ((i:Int)*size) (eB b size i).1).2 then mY d0 b size n (i+1) (mg d (rk d0) ((i:Int)*size) (eB b size i).1).1 else (d0,false)
def oK(d:aC)(b:List Int)(size:Int):aC×Bool :=
 if cP d && decide (d.fP.length=0) && ey size b.length then mY d b size (cr size b.length).toNat 0 d else (d,false)
theorem TA{d:aC}(h:cP d=true):d.fP.length<=200:=by
 unfold cP at h;simp only [sk,decide_eq_true_eq] at h;exact h.1.2
theorem KB(d:aC)(s a:Int)(b:List Int):(mg d s a b=(je d ⟨s,a,b,⟨0,0,0⟩⟩,true)/\cP (je d ⟨s,a,b,⟨0,0,0⟩⟩)=true)\/mg d s a b=(d,false):=by
 unfold mg
 split
 ·exact UX d _
 ·exact .inr rfl
theorem Ie{d:aC}(hd:M.DOk d)(hl:d.fP.length<=200)(s a:Int){b:List Int}(hb:b.length<=1048576):M.DOk (mg d s a b).1/\(mg d s a b).1.fP.length<=200:=by
 rcases KB d s a b with ⟨h1,h2⟩ | h1
 ·rw [h1];exact ⟨EB hd ar hb,TA h2⟩
 ·rw [h1]; exact ⟨hd,hl⟩
theorem KC(b:List Int)(size i:Int):(eB b size i).1.length<=b.length:=by
 unfold eB;dsimp only
 split
 ·simp
 ·unfold M.win; simp; omega
theorem UY{u:Nat}(hu:1099511627776<=u){d0:aC}(h0:M.DOk d0){b:List Int}(hb:b.length<=1048576){size:Int}:∀ (n i f:Nat) (d:aC),i+n=(cr size b.length).toNat->n < f->M.DOk d->d.fP.length<=200 ->
  jk u f b size i d.fA d.fB d.fR.aH d.fR.b8 d.fR.aT d.fP d0=some (mY d0 b size n i d):=by
 have hr:=fb size b.length;intro n
 induction n with
 | zero =>
  intro i f d h hf hd hl;obtain ⟨f,rfl⟩:∃ j,f=j+1:=⟨f - 1,by omega⟩;have e:decide ((i:Int) < cr size b.length)=false:=by simp; omega
  unfold jk;rw [gO];simp only [wk,e,cond_false];exact rfl
 | succ n ih =>
  intro i f d h hf hd hl;obtain ⟨f,rfl⟩:∃ j,f=j+1:=⟨f - 1,by omega⟩;have e:decide ((i:Int) < cr size b.length)=true:=by simp; omega
  have hw:aq (i:Int) 0 (cr size b.length - 1)=true:=by unfold aq; simp; omega
  obtain ⟨k1,k2,k3⟩:=BF hw;have k4:=w7 k1;have k5:=Ex (s:=size) (i:=i) ar ar k2 k3;have e1:(cz size b.length i).1=(i:Int)*size:=by unfold cz; rw [if_pos hw]
  have hbl:=KC b size i;have hde:aC.mk d.fA d.fB (dq.mk d.fR.aH d.fR.b8 d.fR.aT) d.fP=d:=rfl;unfold jk mY;rw [gO,kg,C3 u ar,Fy];simp only [wk,e,cond_true,e1,hde];rw [JU hu hd ar _ _ ar,gQ hu h0];simp only [wk];obtain ⟨g1,g2⟩:=Ie hd hl (rk d0) ((i:Int)*size) (b:=(eB b size i).1) ar;have m1:=ih (i+1) f _ ar ar g1 g2;rw [dy ar]
  cases (mg d (rk d0) ((i:Int)*size) (eB b size i).1).2 with
  | true=>exact m1
  | false=>exact rfl
theorem JV{u:Nat}(hu:1099511627776<=u){d:aC}(hd:M.DOk d){b:List Int}(hb:b.length<=1048576)(size:Int):rP u d b size=some (oK d b size):=by
 have hr:=fb size b.length;unfold rP nB oK;simp only [gQ hu hd,nW hu hd,qu,wk]
 cases cP d with
 | false=>rfl
 | true =>
  by_cases hp:d.fP.length=0
  ·have e:decide ((d.fP.length:Int) > 0)=false:=decide_eq_false ar;simp only [e,hp,decide_true,zQX,cond_false,zWz,zXK]
   cases ey size b.length with
   | false=>rfl
   | true=>exact UY hu hd hb (size:=size) (cr size b.length).toNat 0 u d ar ar hd ar
  ·have e:decide ((d.fP.length:Int) > 0)=true:=by simp; omega
   simp only [e,hp,cond_true,zQX,cond_false,decide_false,Bool.and_false,Bool.false_and,zQj,↓reduceIte]
theorem Fz{d0:aC}(h0:M.DOk d0)(hp:d0.fP.length<=200){b:List Int}(hb:b.length<=1048576){size:Int}:∀ (n i:Nat) (d:aC),M.DOk d->d.fP.length<=200->M.DOk (mY d0 b size n i d).1/\(mY d0 b size n i d).1.fP.length<=200
 | 0,i,d,hd,hl=>⟨hd,hl⟩
 | n+1,i,d,hd,hl=>by
  unfold mY;have hbl:=KC b size i;obtain ⟨g1,g2⟩:=Ie hd hl (rk d0) ((i:Int)*size) (b:=(eB b size i).1) ar
  split
  ·exact Fz h0 hp hb n (i+1) _ g1 g2
  ·exact ⟨h0,hp⟩
def jO(d:aC)(m:af)(x:bH)(ph:Int):aC×Int :=
 if ph=1 then (if RF m x && (oK d x.cj m.aB).2 then ((oK d x.cj m.aB).1,2) else (d,ph))
 else if ph=2 then (xH d,3)
 else if ph=3 then (if (mX d ⟨m.aH,rk d,m.aT⟩).2 then ((mX d ⟨m.aH,rk d,m.aT⟩).1,4) else (d,ph))
 else if ph=4 then (xH d,5)
 else (d,ph)
theorem qaJ{α:Type}(ph:Int)(a b c e f:α):(bif ph == 1 then a else bif ph == 2 then b else bif ph == 3 then c else bif ph == 4 then e else f)=if ph=1 then a else if ph=2 then b else if ph=3 then c else if ph=4 then e else f:=by
 by_cases h1:ph=1
 ·simp [h1]
 ·by_cases h2:ph=2
  ·simp [h2]
  ·by_cases h3:ph=3
   ·simp [h3]
   ·by_cases h4:ph=4
    ·simp [h4]
    ·have e1:(ph == 1)=false:=by simpa using h1
     have e2:(ph == 2)=false:=by simpa using h2
     have e3:(ph == 3)=false:=by simpa using h3
     have e4:(ph == 4)=false:=by simpa using h4
     simp [e1,e2,e3,e4,h1,h2,h3,h4]
theorem Mt{α:Type}(p:Prop)[Decidable p](a b:α):(if p then some a else some b)=some (if p then a else b):=by split <;> rfl
theorem qbx(w s:Bool)(a b c:aC×Int)(hb:b=c):(bif w then (bif s then some a else some b) else some c)=some (if (w && s)=true then a else c):=by subst hb; cases w <;> cases s <;> rfl
theorem qby(s:Bool)(a b:aC×Int):(bif s then some a else some b)=some (if s=true then a else b):=by cases s <;> rfl
theorem Gt{u:Nat}(hu:1099511627776<=u){d:aC}(hd:M.DOk d)(hl:d.fP.length<=1048575){m:af}(hm:m.aI.length<=1048576){x:bH}(hx:M.BldWf x)(ph:Int):oV u d m x ph=some (jO d m x ph):=by
 unfold oV jl jO;simp only [PJ hu hm hx,JV hu hd hx.l,HV hu hd,Fy,Id hu hd hl,gQ hu hd,wk,qaJ];rw [qbx _ _ _ _ _ rfl,qby,Mt,Mt,Mt,Mt]
theorem OK{d:aC}(hd:M.DOk d)(hl:d.fP.length<=200){m:af}{x:bH}(hx:M.BldWf x)(ph:Int):M.DOk (jO d m x ph).1/\(jO d m x ph).1.fP.length<=200:=by
 have hs:M.DOk (xH d)/\(xH d).fP.length<=200:=by
  refine ⟨VI hd,?_⟩;unfold xH
  split
  ·rw [Tv]; simp
  ·exact hl
 have hst:M.DOk (oK d x.cj m.aB).1/\(oK d x.cj m.aB).1.fP.length<=200:=by
  unfold oK
  split
  ·exact Fz hd hl hx.l _ _ _ hd hl
  ·exact ⟨hd,hl⟩
 have hr:M.DOk (mX d ⟨m.aH,rk d,m.aT⟩).1/\(mX d ⟨m.aH,rk d,m.aT⟩).1.fP.length<=200:=by
  unfold mX;rcases UX d ⟨2,0,[],⟨m.aH,rk d,m.aT⟩⟩ with ⟨h1,h2⟩ | h1
  ·rw [h1]; exact ⟨EB hd ar eH,TA h2⟩
  ·rw [h1]; exact ⟨hd,hl⟩
 unfold jO
 split
 ·split
  ·exact hst
  ·exact ⟨hd,hl⟩
 ·split
  ·exact hs
  ·split
   ·split
    ·exact hr
    ·exact ⟨hd,hl⟩
   ·split
    ·exact hs
    ·exact ⟨hd,hl⟩
theorem Eg{u:Nat}(hu:1099511627776<=u){m:dW}(hm:M.MsgWf m):oc u m=some (fc m):=by
 have k:=bx [] m.ba;have g:=bx (aR [] m.ba) m.aH;simp only [zXQ] at k;have hl:=hm.len;obtain ⟨hb,hbl⟩:=Gk hm;unfold oc fc;rw [wu hu hm.sums];simp only [wk]
 cases hok:iO m with
 | false=>rfl
 | true =>
  simp only [zQX,cond_false,if_true];rw [dM hu eH];simp only [wk];have tail:jT u (eC m)=some (aR (eC m) (cE (eC m))):=by
   unfold jT;rw [vd hu hb ar];simp only [wk];rw [dM hu ar]; rfl
  rw [<- tail]
  clear tail hbl hb
  unfold eC pa
  by_cases h1:m.ba=1
  ·simp only [h1,beq_self_eq_true,cond_true,if_true];rw [h1] at k;rw [NY hu ar (by have:=hm.sums; omega) hm.wf]; rfl
  ·have e1:(m.ba == 1)=false:=by simpa using h1
   by_cases h2:m.ba=2
   ·rw [h2] at k g;have h3:=bx (aR (aR [] 2) m.aH) (bJ .i64 m.bQ 1048575);have h4:=bx (aR (aR (aR [] 2) m.aH) (bJ .i64 m.bQ 1048575)) (cU .i64 m.bQ 20);have h5:=bx (aR (aR (aR (aR [] 2) m.aH) (bJ .i64 m.bQ 1048575)) (cU .i64 m.bQ 20)) (bJ .i64 m.bW 1048575);simp only [h2,beq_self_eq_true,cond_true,if_true,un];rw [dM hu ar]; simp only [wk];rw [dM hu ar]; simp only [wk];rw [dM hu ar]; simp only [wk];rw [dM hu ar]; simp only [wk];rw [dM hu ar]; rfl
   ·have e2:(m.ba == 2)=false:=by simpa using h2
    by_cases h3:m.ba=3
    ·rw [h3] at k g;have h4:=bx (aR (aR [] 3) m.aH) m.fI;have h5:=bx (aR (aR (aR [] 3) m.aH) m.fI) m.fB.length;simp only [h3,beq_self_eq_true,cond_true,if_true,xZ];rw [dM hu ar]; simp only [wk];rw [dM hu ar]; simp only [wk];rw [dM hu ar]; simp only [wk];rw [bq ar]; rfl
    ·have e3:(m.ba == 3)=false:=by simpa using h3
     by_cases h4:m.ba=4
     ·rw [h4] at k;simp only [h4,beq_self_eq_true,cond_true,if_true];rw [dM hu ar]; rfl
     ·have e4:(m.ba == 4)=false:=by simpa using h4
      rw [Ov h1 h2 h3 h4] at hok; cases hok
def mh(f t:Int)(m:dW):ak:=⟨f,t,fc m⟩
def JW(g i:Int)(b:List Int):dW:=⟨3,g,E3,0,0,i,b⟩
theorem Cw(g i:Int){b:List Int}(hb:av b)(hl:b.length<=1048576):M.MsgWf (JW g i b):=Ft _ _ _ _ _ hb hl
theorem jw{u:Nat}(hu:1099511627776<=u)(f t:Int){m:dW}(hm:M.MsgWf m):ep u f t m=some (mh f t m):=by
 unfold ep;rw [Eg hu hm]; rfl
theorem xK(u:Nat)(g i:Int){b:List Int}(hl:b.length<=1048576):mN u g i b=some (JW g i b):=by
 unfold mN;rw [Ia hl]; rfl
theorem Gu(m:af){x:bH}(hx:M.BldWf x)(i:Int):av (iS m x i).1/\(iS m x i).1.length<=1048576:=by
 unfold iS
 split
 ·exact JQ hx.b hx.l _ _
 ·exact ⟨jv,by simp⟩
def yp(n:aG)(f t i:Int):ak:=mh f t (JW n.ay.aH i (iS n.ay n.bw i).1)
def gy(n:aG)(f t:Int):Act :=
 ⟨⟨n.ia,n.bD,n.bI,n.ay,n.bw,n.bh,oI n.aZ t (pc n.aZ t n.bw.bl),n.bg⟩,((mD (pc n.aZ t n.bw.bl)).filter λi=>(iS n.ay n.bw i).2).map (yp n f t)⟩
theorem KD(s:Int):(mD s).length<=40:=by
 unfold mD
 split
 ·rw [zWg];exact zWH (zYh _ _) eH
 ·simp
theorem UZ{s:List ak}(hl:s.length<=1048576)(p:ak):cd (decide ((s.length + [p].length)*40<=140737488355328))=some ():=bq eF
theorem If{u:Nat}(hu:1099511627776<=u){n:aG}(hn:M.NodWf n)(f t:Int):pZ u n f t=some (gy n f t):=by
 have hp:=KD (pc n.aZ t n.bw.bl);unfold pZ tQ;simp only [fK u hn,Eb hu hn.k,LD hu,wk];rw [EQ u _ _ _ _ _ _ _ u ar ar,OE (xs:=mD (pc n.aZ t n.bw.bl)) (λi=>(iS n.ay n.bw i).2) (yp n f t) (λx i s k hx hi hs=>?_) (mD (pc n.aZ t n.bw.bl)) 0 [] rfl eH]
 ·unfold xO pA;rw [BO hu hn.k]; rfl
 ·unfold xP kp;have w:=Gu n.ay hn.b x;rw [C8 hu hn.s hn.b];simp only [wk]
  cases (iS n.ay n.bw x).2 with
  | false=>rfl
  | true =>
   have e:dm (mD (pc n.aZ t n.bw.bl)) (i:Int)=some x:=by rw [cO]; exact hx
   simp only [cond_true,e,wk,xK u _ _ w.2,jw hu _ _ (Cw _ _ w.1 w.2),UZ (show s.length<=1048576 by omega)];rfl
theorem PK(n:aG)(f t:Int):(gy n f t).n5.length<=40:=by
 have hp:=KD (pc n.aZ t n.bw.bl);unfold gy;have:=zYh (λi=>(iS n.ay n.bw i).2) (mD (pc n.aZ t n.bw.bl));simp only [zWg];omega
def kR(n:aG)(l:List bS):aG:=⟨n.ia,n.bD,n.bI,n.ay,n.bw,n.bh,l,n.bg⟩
def Eh(g:Int):dW:=⟨4,g,E3,0,0,0,[]⟩
def Ig(m:af):dW:=⟨1,0,m,0,0,0,[]⟩
theorem EH(g:Int):M.MsgWf (Eh g):=Ft _ _ _ _ _ jv eH
theorem Qz{m:af}(hs:m.aI.length<=1048576)(hw:oH m):M.MsgWf (Ig m):=⟨hs,hw,jv,by simp [Ig]⟩
def eG(n:aG)(me f:Int)(m:dW):Act :=
 if f=me then ⟨n,[]⟩ else
 let l:=rA n.aZ f m.bQ m.bW
 if n.bh=0 then ⟨kR n l,[mh me f (Eh 0)]⟩
 else if m.aH=n.ay.aH then
  (let a:=gy (kR n l) me f; if a.n5.length=0 then ⟨a.fN,[mh me f (Eh n.ay.aH)]⟩ else a)
 else ⟨kR n l,[mh me f (Ig n.ay)]⟩
theorem Ax{n:aG}(hn:M.NodWf n){l:List bS}(hl:l.length<=1048577):M.NodWf (kR n l):=⟨hn.s,hn.b,hl,hn.w⟩
theorem RH(p:ak):cd (decide (((([]:List ak)).length + [p].length)*40<=140737488355328))=some ():=bq eH
theorem Gw{u:Nat}(hu:1099511627776<=u){n:aG}(hn:M.NodWf n)(hk:n.aZ.length<=1048576)(me f:Int)(m:dW):oY u n me f m=some (eG n me f m):=by
 unfold oY eG oB oC;simp only [fK u hn,wk]
 by_cases h1:f=me
 ·simp only [h1,beq_self_eq_true,cond_true,if_true]
 ·have e1:(f == me)=false:=by simpa using h1
  have hl:=Tw n.aZ f m.bQ m.bW;simp only [e1,h1,cond_false,if_false,RE hu hk,wk]
  by_cases h2:n.bh=0
  ·simp only [h2,beq_self_eq_true,cond_true,if_true];rw [show (dW.mk 4 0 (af.mk 0 0 0 []) 0 0 0 [])=Eh 0 from rfl,jw hu me f (EH 0)];simp only [wk,RH,zQz,<- h2]; rfl
  ·have e2:(n.bh == 0)=false:=by simpa using h2
   simp only [e2,h2,cond_false,if_false]
   by_cases h3:m.aH=n.ay.aH
   ·simp only [h3,bne_self_eq_false,cond_false,if_true];rw [show (aG.mk n.ia n.bD n.bI n.ay n.bw n.bh (rA n.aZ f m.bQ m.bW) n.bg)=kR n (rA n.aZ f m.bQ m.bW) from rfl,If hu (Ax hn ar) me f];simp only [wk]
    cases ha:gy (kR n (rA n.aZ f m.bQ m.bW)) me f with
    | mk an ao =>
     cases ao with
     | nil =>
      rw [show (dW.mk 4 n.ay.aH (af.mk 0 0 0 []) 0 0 0 [])=Eh n.ay.aH from rfl,jw hu me f (EH _)];simp only [wk,RH]; rfl
     | cons p ps =>
      have e3:(((p :: ps).length:Int) == 0)=false:=by simp; omega
      simp only [e3,cond_false]; simp
   ·have e3:(m.aH != n.ay.aH)=true:=by simpa using h3
    simp only [e3,h3,cond_true,if_false];rw [show (dW.mk 1 0 n.ay 0 0 0 [])=Ig n.ay from rfl,jw hu me f (Qz hn.s hn.w)];simp only [wk,RH]; rfl
theorem ZC{i:Int}(hi:im i=true):tZ .i64 0 (il .i64 1 i)=il .i64 1 i:=by
 have h:=bM hi;obtain ⟨n,rfl⟩:∃ n:Nat,i=n:=⟨i.toNat,by omega⟩;have hp:2 ^ n<=2 ^ 39:=zYV ar ar;have e:=Oi (a:=1) (n:=n) ar ar;have e2:il .i64 1 (n:Int)=((1*2 ^ n:Nat):Int):=e;rw [e2];have:=HQ (a:=0) (b:=1*2 ^ n) ar ar
 simpa using this
theorem PL{m:af}{x:bH}{i:Int}(h:(iS m x i).2=true):im i=true:=by
 unfold iS at h
 split at h
 ·rename_i h1;simp only [sk,eu] at h1;exact h1.2.1.2
 ·cases h
def fk(n:aG)(me i:Int)(s:List bS×List ak)(x:bS):List bS×List ak :=
 if eu (pc s.1 x.pN n.bw.bl) i then (oI s.1 x.pN (il .i64 1 i),s.2++[yp n me x.pN i]) else s
def Ih(n:aG)(me i:Int):List bS×List ak:=n.aZ.foldl (fk n me i) (n.aZ,[])
def jx(n:aG)(me i:Int):Act:=if (iS n.ay n.bw i).2 then ⟨kR n (Ih n me i).1,(Ih n me i).2⟩ else ⟨n,[]⟩
theorem KE(n:aG)(me i:Int)(s:List bS×List ak)(x:bS):(fk n me i s x).1.length=s.1.length/\(fk n me i s x).2.length<=s.2.length+1:=by
 unfold fk
 split
 ·exact ⟨H9 _ _ _,by simp⟩
 ·exact ⟨rfl,by omega⟩
theorem ZD(n:aG)(me i:Int):∀ (l:List bS) (s:List bS×List ak),(l.foldl (fk n me i) s).1.length=s.1.length/\(l.foldl (fk n me i) s).2.length<=s.2.length+l.length:=by
 intro l
 induction l with
 | nil=>intro s; exact ⟨rfl,by simp⟩
 | cons x l ih =>
  intro s;have h:=ih (fk n me i s x);have g:=KE n me i s x;simp only [zYw,zQK];omega
theorem U0{u:Nat}(hu:1099511627776<=u){n:aG}(hn:M.NodWf n)(me i:Int)(h:(iS n.ay n.bw i).2=true):∀ (l:List bS) (k j:Nat) (s:List bS×List ak),l=n.aZ.drop j->l.length < k->s.1.length<=1048577->s.2.length<=j ->
  eL u k me i (iS n.ay n.bw i) (j:Int) n n s.1 s.2=some ⟨kR n (l.foldl (fk n me i) s).1,(l.foldl (fk n me i) s).2⟩:=by
 have w:=Gu n.ay hn.b i;have pl:=PL h;have hk:=hn.k;intro l
 induction l with
 | nil =>
  intro k j s hl hf h1 h2;obtain ⟨k,rfl⟩:∃ k',k=k'+1:=⟨k - 1,by simp at hf; omega⟩;have hj:n.aZ.length<=j:=by
   have:=congrArg List.length hl; simp at this; omega
  have e:decide ((j:Int) < (n.aZ.length:Int))=false:=by simp; omega
  simp only [eL,e,cond_false,mx,s8];rfl
 | cons x l ih =>
  intro k j s hl hf h1 h2;obtain ⟨k,rfl⟩:∃ k',k=k'+1:=⟨k - 1,by simp at hf; omega⟩;have hx:n.aZ[j]?=some x:=by
   have:=congrArg zYj hl
   simpa [zXx] using this.symm
  have hl2:l=n.aZ.drop (j+1):=by
   have:=congrArg zZV hl
   simpa [zXh] using this
  have hj:=(aaa.1 hx).1;have e:decide ((j:Int) < (n.aZ.length:Int))=true:=by simp; omega
  have g:=KE n me i s x;have r:=ih k (j+1) (fk n me i s x) hl2 (by simp at hf; omega) ar ar;simp only [zYw,<- r];simp only [eL,e,cond_true,mx,h,s9,cO,hx,tQ,wk,Eb hu h1,iD];rw [sI (a:=j) (b:=1) ar |> (λ(e:aL .i64 (j:Int) ((1:Nat):Int)=_)=>show aL .i64 (j:Int) 1=((j+1:Nat):Int) from e)]
  cases hs:eu (pc s.1 x.pN n.bw.bl) i with
  | false =>
   simp only [cond_false,fk,hs,zQj,if_false]
  | true =>
   simp only [cond_true,xK u _ _ w.2,wk,jw hu _ _ (Cw _ _ w.1 w.2),UZ (show s.2.length<=1048576 by omega),BS u (s:=0) rfl pl,ZC pl,BO hu h1];simp only [fk,hs,if_true];rfl
theorem LS{u:Nat}(hu:1099511627776<=u){n:aG}(hn:M.NodWf n)(me i:Int):uC u n me i=some (jx n me i):=by
 unfold uC jx;simp only [fK u hn,C8 hu hn.s hn.b,wk];have hk:=hn.k
 cases h:(iS n.ay n.bw i).2 with
 | true =>
  have:=U0 hu hn me i h n.aZ u 0 (n.aZ,[]) rfl ar hk eH;exact this
 | false =>
  obtain ⟨k,rfl⟩:∃ k,u=k+1:=⟨u - 1,by omega⟩;simp only [eL,mx,h,cond_false,s8]
  cases decide ((0:Int) < (n.aZ.length:Int)) <;> simp
structure M.DB (d:aC):Prop where
 a:av d.fA
 b:av d.fB
 p:∀ x∈d.fP,av x.fB
theorem RI{l:List Int}(h:av l)(n:Nat):av (l.take n):=λx hx=>h x (zWJ hx)
theorem RJ{d:aC}(h:M.DB d)(n:Int):av (mV d n):=by
 unfold mV; split
 ·exact h.a
 ·exact h.b
theorem FA{d:aC}(h:M.DB d):av (iR d).2/\(iR d).2.length<=240:=by
 unfold iR
 split
 ·rename_i hd;have:=JD hd d.fR.b8;exact ⟨RI (RJ h _) _,by simp only [zWQ]; omega⟩
 ·exact ⟨jv,by simp⟩
theorem QA{b:List Int}(hb:av b):M.MsgWf (dO b).1:=by
 unfold dO
 split
 ·rename_i h;simp only [sk] at h;have g:=cF hb (Qs _ h.1);have p:=ED hb (k:=(bd b 0).1) (a:=(bd b 0).2.1) (by simpa using g.2.2.2.2.2)
  cases hr:zt b (bd b 0).1 (bd b 0).2.1 with
  | none=>exact Ft _ _ _ _ _ jv eH
  | some x =>
   obtain ⟨m,e⟩:=x;have q:=p m e hr;dsimp only
   split
   ·exact q.1
   ·exact Ft _ _ _ _ _ jv eH
 ·exact Ft _ _ _ _ _ jv eH
def M.drop(n:aG):aG:=⟨n.ia,n.bD,n.bI,n.ay,n.bw,n.bh,n.aZ,aL .i64 n.bg 1⟩
theorem xL(u:Nat){n:aG}(h:M.NodWf n):kX u n=some (M.drop n):=by
 unfold kX;rw [fK u h]; rfl
def nZ(n:aG)(d:aC)(m:af):aG :=
 if n.bh=0 then
  (if c7 m && (m.aH != 0) then ⟨n.ia,n.bD,n.bI,m,lr m (iR d).2,if ((iR d).1 == m.aH) && sa m (iR d).2 then 5 else 1,n.aZ,n.bg⟩ else n)
 else if yy n.ay m then n else M.drop n
theorem LT{u:Nat}(hu:1099511627776<=u){n:aG}(hn:M.NodWf n){d:aC}(hd:M.DOk d)(hb:M.DB d){m:af}(hm:m.aI.length<=1048576):uB u n d m=some (nZ n d m):=by
 obtain ⟨rb,rl⟩:=FA hb;unfold uB nZ s7 s6 s5;simp only [fK u hn,C4 hu hn.s,xL u hn,gP hu m (show m.aI.length<=1073741824 by omega),C5 hu hd,zA u hm,Aw hu hm rb (show _<=1048576 by omega),Fw hu m rb (show _<=1048576 by omega),wk]
 by_cases h:n.bh=0
 ·have e:(n.bh != 0)=false:=by simp [h]
  rw [if_pos h];simp only [e,cond_false];rw [show (m.aH != 0)=!(m.aH == 0) from rfl]
  cases c7 m <;> cases (m.aH == 0) <;> cases ((iR d).1 == m.aH) <;> cases sa m (iR d).2 <;> rfl
 ·have e:(n.bh != 0)=true:=by simpa using h
  simp only [e,h,cond_true,if_false]
  cases yy n.ay m <;> rfl
def EI(n:aG)(x:bH):aG:=⟨n.ia,n.bD,n.bI,n.ay,x,n.bh,n.aZ,n.bg⟩
def kS(n:aG)(me:Int)(m:dW):Act :=
 if n.bh=0\/m.aH≠n.ay.aH then ⟨M.drop n,[]⟩
 else if eu n.bw.bl m.fI then ⟨n,[]⟩
 else if (oJ n.ay n.bw m.fI m.fB).2 then jx (EI n (oJ n.ay n.bw m.fI m.fB).1) me m.fI
 else ⟨M.drop n,[]⟩
theorem ZE{m:af}{x:bH}{i:Int}{b:List Int}(h:(vq m x i b).1=true):aq i 0 ((m.aI.length:Int) - 1)=true/\(match m.aI[i.toNat]? with | some s=>decide (et b=s) | none=>false)=true:=by
 unfold vq at h;generalize hc:(aq i 0 ((m.aI.length:Int) - 1) && !eu x.bl i && (match m.aI[i.toNat]? with | some s=>decide (et b=s) | none=>false))=c at h
 cases c with
 | false=>cases h
 | true=>simp only [sk] at hc; exact ⟨hc.1.1,hc.2⟩
theorem KF{m:af}{x:bH}(hx:M.BldWf x)(i:Int){b:List Int}(hb:av b):M.BldWf (oJ m x i b).1:=by
 unfold oJ
 by_cases h:(lB m x && (vq m x i b).1)=true
 ·rw [if_pos h];simp only [sk] at h;obtain ⟨hbo,h2⟩:=h;obtain ⟨hm,hs⟩:=KA hbo;have hl:=Ed hbo;obtain ⟨h4,h6⟩:=ZE h2;have h7:=bM h4;obtain ⟨n,rfl⟩:∃ n:Nat,i=n:=⟨i.toNat,by omega⟩;rw [r0] at h6
  cases hg:m.aI[n]? with
  | none=>rw [hg] at h6; cases h6
  | some s =>
   rw [hg] at h6;have h8:=Qx hb (of_decide_eq_true h6) (Qy hm hg);obtain ⟨e1,e2,e3⟩:=Ib (b:=x.cj) hl n;obtain ⟨g1,g2⟩:=Ee (x:=x.cj) (p:=b) (a:=M.at_ m n) ar hx.b hb;exact ⟨g1,by show (M3 _ _ _).length<=_; rw [g2]; exact hx.l⟩
 ·rw [if_neg h]; exact hx
theorem OL{n:aG}(hn:M.NodWf n){x:bH}(hx:M.BldWf x):M.NodWf (EI n x):=⟨hn.s,hx,hn.k,hn.w⟩
theorem JX{u:Nat}(hu:1099511627776<=u){n:aG}(hn:M.NodWf n)(me:Int){m:dW}(hm:M.MsgWf m):rU u n me m=some (kS n me m):=by
 unfold rU kS qU;simp only [fK u hn,xL u hn,iD,JR hu hn.s hn.b m.fI hm.b hm.len,wk];rw [show (aG.mk n.ia n.bD n.bI n.ay (oJ n.ay n.bw m.fI m.fB).1 n.bh n.aZ n.bg)=EI n (oJ n.ay n.bw m.fI m.fB).1 from rfl,LS hu (OL hn (KF hn.b m.fI hm.b)) me m.fI];simp only [wk]
 by_cases h1:n.bh=0
 ·simp [h1]
 ·by_cases h2:m.aH=n.ay.aH
  ·have e:(n.bh == 0)=false:=by simpa using h1
   simp only [h1,h2,e,cond_false,bne_self_eq_false,ne_eq,not_true_eq_false,or_self,if_false]
   cases eu n.bw.bl m.fI <;> cases (oJ n.ay n.bw m.fI m.fB).2 <;> rfl
  ·have e:(n.bh == 0)=false:=by simpa using h1
   have e2:(m.aH != n.ay.aH)=true:=by simpa using h2
   simp [h1,h2,e,e2]
def Gx(n:aG):aG:=⟨n.ia,n.bD,0,n.ay,n.bw,n.bh,n.aZ,n.bg⟩
theorem EJ{n:aG}(hn:M.NodWf n):M.NodWf (Gx n):=⟨hn.s,hn.b,hn.k,hn.w⟩
def jy(n:aG)(me:Int)(d:aC)(m:dW):Act :=
 if m.ba=1 then ⟨nZ (Gx n) d m.ay,[]⟩
 else if m.ba=3 then kS (Gx n) me m
 else if m.ba=2 then ⟨M.drop (Gx n),[]⟩
 else ⟨Gx n,[]⟩
theorem qaK{α:Type}(k:Int)(a b c e:α):(bif k == 1 then a else (bif k == 3 then b else (bif k == 2 then c else e)))=if k=1 then a else if k=3 then b else if k=2 then c else e:=by
 by_cases h1:k=1
 ·subst h1; rfl
 ·by_cases h2:k=3
  ·subst h2; rfl
  ·by_cases h3:k=2
   ·subst h3; rfl
   ·have e1:(k == 1)=false:=by simpa using h1
    have e2:(k == 3)=false:=by simpa using h2
    have e3:(k == 2)=false:=by simpa using h3
    simp [h1,h2,h3,e1,e2,e3]
theorem Yr{α:Type}(p q r:Prop)[Decidable p][Decidable q][Decidable r](a b c e:α):(if p then some a else if q then some b else if r then some c else some e)=some (if p then a else if q then b else if r then c else e):=by
 by_cases hp:p <;> by_cases hq:q <;> by_cases hr:r <;> simp [hp,hq,hr]
theorem JY{u:Nat}(hu:1099511627776<=u){n:aG}(hn:M.NodWf n)(me:Int){d:aC}(hd:M.DOk d)(hb:M.DB d){m:dW}(hm:M.MsgWf m):rV u n me d m=some (jy n me d m):=by
 unfold rV jy nG;simp only [fK u hn,wk];rw [show (aG.mk n.ia n.bD 0 n.ay n.bw n.bh n.aZ n.bg)=Gx n from rfl,LT hu (EJ hn) hd hb hm.sums,JX hu (EJ hn) me hm,qaK];exact Yr _ _ _ _ _ _ _
def M.take(t:c9)(me:Int)(n:aG)(d:aC)(p:ak):Act :=
 if !n.ia then ⟨n,[]⟩
 else if (dO p.fB).2 && aq p.cQ 0 ((t.cy.length:Int) - 1) && (p.cQ != me) then
  (if (dO p.fB).1.ba=2 then eG n me p.cQ (dO p.fB).1
   else if p.cQ=n.bD then jy n me d (dO p.fB).1 else ⟨M.drop n,[]⟩)
 else ⟨M.drop n,[]⟩
theorem RK{u:Nat}(hu:1099511627776<=u){t:c9}(ht:t.cy.length<=1048576)(me:Int){n:aG}(hn:M.NodWf n)(hk:n.aZ.length<=1048576){d:aC}(hd:M.DOk d)(hb:M.DB d){p:ak}(hp:av p.fB)(hl:p.fB.length<=1048576):Bc u t me n d p=some (M.take t me n d p):=by
 have w:=QA hp;have eb:cG .i64 ((t.cy.length:Int)) 1=(t.cy.length:Int) - 1:=cm ar ar;unfold Bc M.take uD;simp only [fK u hn,xL u hn,vp hu hp hl,bG,eb,Gw hu hn hk,JY hu hn me hd hb w,wk]
 by_cases h1:(dO p.fB).1.ba=2
 ·simp only [h1,beq_self_eq_true,cond_true,if_true];rw [show (p.cQ != me)=!(p.cQ == me) from rfl]
  cases n.ia <;> cases (dO p.fB).2 <;> cases aq p.cQ 0 ((t.cy.length:Int) - 1) <;> cases (p.cQ == me) <;> rfl
 ·have e1:((dO p.fB).1.ba == 2)=false:=by simpa using h1
  simp only [e1,h1,cond_false,if_false];rw [show (p.cQ != me)=!(p.cQ == me) from rfl]
  by_cases h2:p.cQ=n.bD
  ·have e2:(p.cQ == n.bD)=true:=by simpa using h2
   simp only [e2,cond_true,if_pos h2]
   cases n.ia <;> cases (dO p.fB).2 <;> cases aq p.cQ 0 ((t.cy.length:Int) - 1) <;> cases (p.cQ == me) <;> rfl
  ·have e2:(p.cQ == n.bD)=false:=by simpa using h2
   simp only [e2,cond_false,if_neg h2]
   cases n.ia <;> cases (dO p.fB).2 <;> cases aq p.cQ 0 ((t.cy.length:Int) - 1) <;> cases (p.cQ == me) <;> rfl
def BT:List Int->Int->Int->Int
 | [],_,a=>a
 | y :: ys,n,a=>if n < 1 then a else BT ys (cG .i64 n 1) (tZ .i64 a (il .i64 1 y))
def JZ(s n:Int):Int:=BT (mD s) n 0
theorem U1(s:Int):mD s=((zWx 0 40).filter λ(i:Nat)=>eu s (i:Int)).map λ(i:Nat)=>(i:Int):=by
 unfold mD;rw [<- zXj]
 cases h:co s with
 | false=>simp [eu,h]
 | true =>
  simp only [if_true]
  congr 1
  apply List.filter_congr
  intro i hi;have hi:i < 40:=by simpa using hi
  have:im (i:Int)=true:=by simp [im,aq]; omega
  simp [eu,h,this]
theorem WT:∀ (l:List Int) (n a:Int),n < 1->BT l n a=a:=by
 intro l n a h
 cases l with
 | nil=>rfl
 | cons y ys=>simp only [BT,h,if_true]
theorem RL(u:Nat)(s:Int):∀ (m i f:Nat) (n a:Int),i+m=40->m < f ->
  fE u f s n a (i:Int)=some (BT (((zWx i m).filter λ(i:Nat)=>eu s (i:Int)).map λ(i:Nat)=>(i:Int)) n a):=by
 intro m
 induction m with
 | zero =>
  intro i f n a h hf;obtain ⟨f,rfl⟩:∃ f',f=f'+1:=⟨f - 1,by omega⟩;have e:decide ((i:Int) < 40)=false:=by simp; omega
  simp only [fE,e,cond_false,oX,sU]; rfl
 | succ m ih =>
  intro i f n a h hf;obtain ⟨f,rfl⟩:∃ f',f=f'+1:=⟨f - 1,by omega⟩;have e:decide ((i:Int) < 40)=true:=by simp; omega
  have hi:cd (decide ((0:Int)<=(i:Int)))=some ():=bq ar;have hb:aL .i64 (i:Int) 1=((i+1:Nat):Int):=sI (a:=i) (b:=1) ar;simp only [fE,e,cond_true,oX,sV,sU,iD,wk,hi,hb]
  by_cases hn:n > 0
  ·have hn2:¬ n < 1:=by omega
   simp only [hn,decide_true,cond_true];rw [zYZ,zZg]
   cases hs:eu s (i:Int) with
   | true =>
    simp only [cond_true,if_true,zWy,BT,hn2,if_false];exact ih (i+1) f _ _ ar ar
   | false =>
    simp only [cond_false,zQj,if_false];exact ih (i+1) f _ _ ar ar
  ·simp only [hn,decide_false,cond_false];rw [WT _ _ _ ar]
theorem LU{u:Nat}(hu:1099511627776<=u)(s n:Int):ut u s n=some (JZ s n):=by
 unfold ut JZ;rw [U1];exact RL u s 40 0 u n 0 rfl ar
def OM(n:aG):Int:=if n.bh=0 then 0 else EF n.ay n.bw
theorem ON{u:Nat}(hu:1099511627776<=u){n:aG}(hn:M.NodWf n):wF u n=some (OM n):=by
 unfold wF OM;rw [C7 u]
 by_cases h:n.bh=0
 ·simp [h]
 ·have e:(n.bh == 0)=false:=by simpa using h
  simp [h,e]
def TB(n:aG)(w:Int):Int:=JZ (OM n) w
theorem OO{u:Nat}(hu:1099511627776<=u){n:aG}(hn:M.NodWf n)(w:Int):wG u n w=some (TB n w):=by
 unfold wG;simp only [ON hu hn,LU hu,wk]; rfl
def Gy(s i:Int):Int:=if co s && im i then tZ .i64 s (il .i64 1 i) else s
theorem LV(u:Nat)(s i:Int):iB u s i=some (Gy s i):=by
 unfold iB nj Gy;simp only [iC,bG,wk]
 cases co s with
 | false=>rfl
 | true =>
  cases h:im i with
  | false=>rw [show aq i 0 39=false from h]; rfl
  | true =>
   have:=bM h;rw [show aq i 0 39=true from h,bq ar]; rfl
def J0(n:aG)(k:Int):Int:=if n.bh=5 then Gy (Ey n.aZ 0) k else Ey n.aZ 0
theorem LW{u:Nat}(hu:1099511627776<=u){n:aG}(hk:n.aZ.length<=1048576)(k:Int):uv u n k=some (J0 n k):=by
 unfold uv sW J0;simp only [N9 hu hk,LV,wk]
 by_cases h:n.bh=5
 ·simp [h]
 ·have e:(n.bh == 5)=false:=by simpa using h
  simp [h,e]
def J1(g w d:Int):dW:=⟨2,g,E3,w,d,0,[]⟩
theorem Gz(g w d:Int):M.MsgWf (J1 g w d):=Ft _ _ _ _ _ jv eH
def wg(c:iW)(n:aG)(d:aC)(b q:Int):aG:=⟨n.ia,b,q,n.ay,n.bw,(jO d n.ay n.bw n.bh).2,mf n.aZ c.aY,n.bg⟩
def wh(c:iW)(k:Int)(n:aG)(d:aC)(b q:Int):Iz :=
 ⟨wg c n d b q,(jO d n.ay n.bw n.bh).1,[mh k b (J1 n.ay.aH (TB (wg c n d b q) c.bc) (J0 (wg c n d b q) k))]⟩
def M.tick(t:c9)(c:iW)(k:Int)(n:aG)(d:aC):Iz :=
 if !n.ia then ⟨n,d,[]⟩
 else if k=0 then ⟨kR n (mf n.aZ c.aY),d,[]⟩
 else if c.aU<=n.bI then wh c k n d (zy t k n.bD) 0
 else wh c k n d n.bD (aL .i64 n.bI 1)
theorem GA(l:List bS)(f:Int):(mf l f).length<=l.length:=by
 unfold mf;rw [zWg];exact zYh _ _
theorem KG{n:aG}(hn:M.NodWf n)(c:iW)(d:aC)(b q:Int):M.NodWf (wg c n d b q):=⟨hn.s,hn.b,zWH (GA _ _) hn.k,hn.w⟩
theorem LX{u:Nat}(hu:1099511627776<=u){c:iW}{k:Int}{n:aG}(hn:M.NodWf n)(hk:n.aZ.length<=1048576){d:aC}(hd:M.DOk d)(hl:d.fP.length<=1048575)(b q:Int):uw u k c d n b q (mf n.aZ c.aY) d=some (wh c k n d b q):=by
 unfold uw wh;have ha:=GA n.aZ c.aY;rw [Gt hu hd hl hn.s hn.b,wk];rw [show (aG.mk n.ia b q n.ay n.bw (jO d n.ay n.bw n.bh).2 (mf n.aZ c.aY) n.bg)=wg c n d b q from rfl];rw [OO hu (KG hn c d b q),wk,LW hu (show (wg c n d b q).aZ.length<=1048576 from zWH ha hk),wk];unfold ul;rw [wk,show (∀ w x,dW.mk 2 n.ay.aH (af.mk 0 0 0 []) w x 0 []=J1 n.ay.aH w x) from λ_ _=>rfl,jw hu _ _ (Gz _ _ _),wk,RH];rfl
theorem RM{u:Nat}(hu:1099511627776<=u){t:c9}(ht:t.cy.length<=1048576)(c:iW)(k:Int){n:aG}(hn:M.NodWf n)(hk:n.aZ.length<=1048576){d:aC}(hd:M.DOk d)(hl:d.fP.length<=1048575):Ba u t c k n d=some (M.tick t c k n d):=by
 unfold Ba M.tick;simp only [fK u hn,gQ hu hd,OF hu hk,JP hu ht,wk,LX hu hn hk hd hl];rw [show (aG.mk n.ia n.bD n.bI n.ay n.bw n.bh (mf n.aZ c.aY) n.bg)=kR n (mf n.aZ c.aY) from rfl]
 cases n.ia with
 | false=>rfl
 | true =>
  by_cases h:k=0
  ·subst h; rfl
  ·have e:(k == 0)=false:=by simpa using h
   by_cases h2:c.aU<=n.bI
   ·have e2:decide (n.bI>=c.aU)=true:=by simpa using h2
    simp [h,e,e2,h2]
   ·have e2:decide (n.bI>=c.aU)=false:=by simp; omega
    simp [h,e,e2,h2]
theorem GB(m:dW):(fc m).length<=1000:=by
 unfold fc
 split
 ·rename_i hok;have k:=bx [] m.ba;have g:=bx (aR [] m.ba) m.aH;have l:=bx (eC m) (cE (eC m));simp only [zXQ] at k
  suffices h:(eC m).length<=600 by omega
  unfold eC pa
  split
  ·have:=Fs (aR [] m.ba) m.ay; omega
  ·rename_i n1
   split
   ·have h1:=bx (aR (aR [] m.ba) m.aH) (bJ .i64 m.bQ 1048575);have h2:=bx (aR (aR (aR [] m.ba) m.aH) (bJ .i64 m.bQ 1048575)) (cU .i64 m.bQ 20);have h3:=bx (aR (aR (aR (aR [] m.ba) m.aH) (bJ .i64 m.bQ 1048575)) (cU .i64 m.bQ 20)) (bJ .i64 m.bW 1048575);have h4:=bx (aR (aR (aR (aR (aR [] m.ba) m.aH) (bJ .i64 m.bQ 1048575)) (cU .i64 m.bQ 20)) (bJ .i64 m.bW 1048575)) (cU .i64 m.bW 20);omega
   ·rename_i n2
    split
    ·rename_i n3;have h1:=bx (aR (aR [] m.ba) m.aH) m.fI;have h2:=bx (aR (aR (aR [] m.ba) m.aH) m.fI) m.fB.length;have h3:m.fB.length<=6:=by
      unfold iO at hok;simp only [n1,n2,n3] at hok;have h4:aq m.fB.length 1 6=true:=by
       revert hok
       cases aq (m.fB.length:Int) 1 6 <;> simp
      have:=bM h4;omega
     rw [zQG]; omega
    ·split <;> omega
 ·simp
def zB(p:ak):Prop:=av p.fB/\p.fB.length<=1048576
theorem Ei(f t:Int){m:dW}(hm:M.MsgWf m):zB (mh f t m):=⟨yn hm,by have:=GB m; show (fc m).length<=_; omega⟩
def dp(s:List ak×List dZ×Int)(p:ak):List ak×List dZ×Int :=
 if 400<=s.1.length then (s.1,s.2.1,aL .i64 s.2.2 1)
 else (s.1++[p],if (dO p.fB).2 && ((dO p.fB).1.ba == 3) && decide (s.2.1.length < 3000) then s.2.1++[⟨p.cQ,p.rB,(dO p.fB).1.fI⟩] else s.2.1,s.2.2)
def OP(w:World)(out:List ak):World :=
 ⟨w.fC,w.fT,w.ct,w.ca,w.fN,w.fD,(out.foldl dp (w.br,w.dB,w.bC)).1,(out.foldl dp (w.br,w.dB,w.bC)).2.1,(out.foldl dp (w.br,w.dB,w.bC)).2.2⟩
theorem TC{u:Nat}(hu:1099511627776<=u)(w:World)(out:List ak)(ho:∀ p∈out,zB p)(hl:out.length<=1048576):∀ (l:List ak) (k j:Nat) (s:List ak×List dZ×Int),l=out.drop j->l.length < k ->
  cT u k out (j:Int) w s.1 s.2.1 s.2.2=some ⟨w.fC,w.fT,w.ct,w.ca,w.fN,w.fD,(l.foldl dp s).1,(l.foldl dp s).2.1,(l.foldl dp s).2.2⟩:=by
 intro l
 induction l with
 | nil =>
  intro k j s h hf;obtain ⟨k,rfl⟩:∃ k',k=k'+1:=⟨k - 1,by simp at hf; omega⟩;have hj:out.length<=j:=by
   have:=congrArg List.length h; simp at this; omega
  have e:decide ((j:Int) < (out.length:Int))=false:=by simp; omega
  simp only [cT,e,cond_false];rfl
 | cons x l ih =>
  intro k j s h hf;obtain ⟨k,rfl⟩:∃ k',k=k'+1:=⟨k - 1,by simp at hf; omega⟩;have hx:out[j]?=some x:=by
   have:=congrArg zYj h
   simpa [zXx] using this.symm
  have hl2:l=out.drop (j+1):=by
   have:=congrArg zZV h
   simpa [zXh] using this
  have hj:=(aaa.1 hx).1;have e:decide ((j:Int) < (out.length:Int))=true:=by simp; omega
  have hb:aL .i64 (j:Int) 1=((j+1:Nat):Int):=sI (a:=j) (b:=1) ar;have px:=ho x (zQY hx);have r:=ih k (j+1) (dp s x) hl2 (by simp at hf; omega);simp only [zYw,<- r];simp only [cT,e,cond_true,cO,hx,wk,Ia px.2,vp hu px.1 px.2,fF,gT,hb]
  by_cases h4:400<=s.1.length
  ·have e4:decide (((s.1.length:Int))>=400)=true:=by simp; omega
   simp only [e4,cond_true,dp,h4,if_true]
  ·have e4:decide (((s.1.length:Int))>=400)=false:=by simp; omega
   simp only [e4,cond_false,UZ (show s.1.length<=1048576 by omega),wk,dp,h4,if_false,zQz]
   cases h5:(dO x.fB).2 with
   | false=>simp
   | true =>
    cases h6:((dO x.fB).1.ba == 3) with
    | false=>simp
    | true =>
     by_cases h7:s.2.1.length < 3000
     ·have e7:decide ((s.2.1.length:Int) < 3000)=true:=by simp; omega
      have e8:cd (decide ((s.2.1.length + [dZ.mk x.cQ x.rB (dO x.fB).1.fI].length)*24<=140737488355328))=some ():=bq eF;simp only [e7,e8,h7,cond_true,wk,decide_true,zXK,if_true]
     ·have e7:decide ((s.2.1.length:Int) < 3000)=false:=by simp; omega
      simp [e7,h7]
theorem C9{u:Nat}(hu:1099511627776<=u)(w:World){out:List ak}(ho:∀ p∈out,zB p)(hl:out.length<=1048576):qR u w out=some (OP w out) :=
 TC hu w out ho hl out u 0 (w.br,w.dB,w.bC) rfl ar
theorem QB{b p:List Int}(hb:av b)(hp:av p)(a:Nat):av (Ks b a p):=by
 unfold Ks;have hx:av (b++zQq (a+p.length - b.length) 0):=As hb (λx hx=>by have:=List.eq_of_mem_replicate hx; omega);exact (Ee eF hx hp).1
theorem QC{d:aC}(hd:M.DB d){p:dv}(hp:av p.fB):M.DB (je d p):=⟨hd.a,hd.b,λx hx=>by
 simp only [je,zWw,zQy] at hx;rcases hx with hx | rfl
 ·exact hd.p x hx
 ·exact hp⟩
theorem TD{d:aC}(hd:M.DB d)(s a:Int){b:List Int}(hb:av b):M.DB (mg d s a b).1:=by
 rcases KB d s a b with ⟨h1,_⟩ | h1
 ·rw [h1]; exact QC hd hb
 ·rw [h1]; exact hd
theorem Ii{d0:aC}(h0:M.DB d0){b:List Int}(hb:av b){size:Int}:∀ (n i:Nat) (d:aC),M.DB d->M.DB (mY d0 b size n i d).1
 | 0,i,d,hd=>hd
 | n+1,i,d,hd=>by
  unfold mY
  split
  ·exact Ii h0 hb n (i+1) _ (TD hd _ _ (ws hb size i).1)
  ·exact h0
theorem QD{d:aC}(hd:M.DB d){p:dv}(hp:av p.fB):M.DB (w9 d p):=by
 unfold w9
 split
 ·exact ⟨hd.a,hd.b,hd.p⟩
 ·split
  ·exact ⟨QB hd.a hp _,hd.b,hd.p⟩
  ·exact ⟨hd.a,QB hd.b hp _,hd.p⟩
theorem VM:∀ (l:List dv) (d:aC),(∀ p∈l,av p.fB)->M.DB d->M.DB (Cm l d)
 | [],d,_,hd=>⟨hd.a,hd.b,by simp [Cm]⟩
 | p :: l,d,hp,hd=>VM l _ (λq hq=>hp q T5) (QD hd (hp p eH))
theorem VN{d:aC}(hd:M.DB d):M.DB (xH d):=by
 unfold xH
 split
 ·exact VM _ _ hd.p hd
 ·exact hd
theorem PM{d:aC}(hd:M.DB d){m:af}{x:bH}(hx:M.BldWf x)(ph:Int):M.DB (jO d m x ph).1:=by
 have hst:M.DB (oK d x.cj m.aB).1:=by
  unfold oK
  split
  ·exact Ii hd hx.b _ _ _ hd
  ·exact hd
 have hr:M.DB (mX d ⟨m.aH,rk d,m.aT⟩).1:=by
  unfold mX;rcases UX d ⟨2,0,[],⟨m.aH,rk d,m.aT⟩⟩ with ⟨h1,h2⟩ | h1
  ·rw [h1]; exact QC hd jv
  ·rw [h1]; exact hd
 unfold jO
 split
 ·split
  ·exact hst
  ·exact hd
 ·split
  ·exact VN hd
  ·split
   ·split
    ·exact hr
    ·exact hd
   ·split
    ·exact VN hd
    ·exact hd
structure M.ActWf (n:aG) (out:List ak):Prop where
 n:M.NodWf n
 o:∀ p∈out,zB p
 l:out.length<=1048576
theorem J2{n:aG}(hn:M.NodWf n):M.ActWf n []:=⟨hn,λp hp=>by simp at hp,by simp⟩
theorem ZF{n:aG}(hn:M.NodWf n)(f t:Int){m:dW}(hm:M.MsgWf m):M.ActWf n [mh f t m]:=⟨hn,λp hp=>by
 simp only [zQy] at hp;rw [hp]; exact Ei f t hm,by simp⟩
theorem FB{n:aG}(hn:M.NodWf n)(f t i:Int):zB (yp n f t i):=by
 have w:=Gu n.ay hn.b i;exact Ei f t (Cw _ _ w.1 w.2)
theorem EK{n:aG}(hn:M.NodWf n):M.NodWf (M.drop n):=⟨hn.s,hn.b,hn.k,hn.w⟩
theorem RN{n:aG}(hn:M.NodWf n)(f t:Int):M.ActWf (gy n f t).fN (gy n f t).n5:=by
 refine ⟨⟨hn.s,hn.b,?_,hn.w⟩,λp hp=>?_,zWH (PK n f t) ar⟩
 ·show (oI _ _ _).length<=_;rw [H9]; exact hn.k
 ·unfold gy at hp;simp only [zYK] at hp;obtain ⟨i,_,rfl⟩:=hp;exact FB hn f t i
theorem PN{n:aG}(hn:M.NodWf n)(hk:n.aZ.length<=1048576)(me f:Int)(m:dW):M.ActWf (eG n me f m).fN (eG n me f m).n5:=by
 have hl:=Tw n.aZ f m.bQ m.bW;have hw:M.NodWf (kR n (rA n.aZ f m.bQ m.bW)):=Ax hn ar;have hs:=RN hw me f;unfold eG
 split
 ·exact J2 hn
 ·split
  ·exact ZF hw _ _ (EH 0)
  ·split
   ·dsimp only
    split
    ·exact ZF hs.n _ _ (EH _)
    ·exact hs
   ·exact ZF hw _ _ (Qz hn.s hn.w)
theorem ZG{n:aG}(hn:M.NodWf n)(me i:Int):∀ (l:List bS) (s:List bS×List ak),(∀ p∈s.2,zB p)->∀ p∈(l.foldl (fk n me i) s).2,zB p:=by
 intro l
 induction l with
 | nil=>intro s h; exact h
 | cons x l ih =>
  intro s h;refine ih _ λp hp=>?_;unfold fk at hp
  split at hp
  ·simp only [zWw,zQy] at hp;rcases hp with hp | rfl
   ·exact h p hp
   ·exact FB hn _ _ _
  ·exact h p hp
theorem U2{n:aG}(hn:M.NodWf n)(hk:n.aZ.length<=1048576)(me i:Int):M.ActWf (jx n me i).fN (jx n me i).n5:=by
 have h:=ZD n me i n.aZ (n.aZ,[]);unfold jx
 split
 ·refine ⟨Ax hn ?_,ZG hn me i _ _ (λp hp=>by simp at hp),?_⟩
  ·have:=h.1; unfold Ih; dsimp only at this ⊢; omega
  ·have:=h.2; unfold Ih; simp only [zXQ] at this; dsimp only; omega
 ·exact J2 hn
theorem U3{n:aG}(hn:M.NodWf n){d:aC}(hb:M.DB d){m:af}(hs:m.aI.length<=1048576)(hw:oH m):M.NodWf (nZ n d m):=by
 obtain ⟨rb,rl⟩:=FA hb;unfold nZ
 split
 ·split
  ·rename_i h;simp only [sk] at h;exact ⟨hs,(Ef h.1 rb ar).b,hn.k,hw⟩
  ·exact hn
 ·split
  ·exact hn
  ·exact EK hn
theorem TE{n:aG}(hn:M.NodWf n)(hk:n.aZ.length<=1048576)(me:Int){m:dW}(hm:M.MsgWf m):M.ActWf (kS n me m).fN (kS n me m).n5:=by
 unfold kS
 split
 ·exact J2 (EK hn)
 ·split
  ·exact J2 hn
  ·split
   ·exact U2 (OL hn (KF hn.b m.fI hm.b)) hk me m.fI
   ·exact J2 (EK hn)
theorem TF{n:aG}(hn:M.NodWf n)(hk:n.aZ.length<=1048576)(me:Int){d:aC}(hb:M.DB d){m:dW}(hm:M.MsgWf m):M.ActWf (jy n me d m).fN (jy n me d m).n5:=by
 unfold jy
 split
 ·exact J2 (U3 (EJ hn) hb hm.sums hm.wf)
 ·split
  ·exact TE (EJ hn) hk me hm
  ·split
   ·exact J2 (EK (EJ hn))
   ·exact J2 (EJ hn)
theorem ZH(t:c9)(me:Int){n:aG}(hn:M.NodWf n)(hk:n.aZ.length<=1048576){d:aC}(hb:M.DB d){p:ak}(hp:av p.fB):M.ActWf (M.take t me n d p).fN (M.take t me n d p).n5:=by
 have w:=QA hp;unfold M.take
 split
 ·exact J2 hn
 ·split
  ·split
   ·exact PN hn hk me _ _
   ·split
    ·exact TF hn hk me hb w
    ·exact J2 (EK hn)
  ·exact J2 (EK hn)
structure M.BeatWf (b:Iz):Prop where
 a:M.ActWf b.fN b.n5
 d:M.DOk b.fD
 l:b.fD.fP.length<=200
 b:M.DB b.fD
theorem KH(c:iW)(k:Int){n:aG}(hn:M.NodWf n){d:aC}(hd:M.DOk d)(hl:d.fP.length<=200)(hb:M.DB d)(b q:Int):M.BeatWf (wh c k n d b q):=by
 have h:=OK hd hl (m:=n.ay) hn.b n.bh;exact ⟨ZF (KG hn c d b q) _ _ (Gz _ _ _),h.1,h.2,PM hb hn.b _⟩
theorem ZI(t:c9)(c:iW)(k:Int){n:aG}(hn:M.NodWf n){d:aC}(hd:M.DOk d)(hl:d.fP.length<=200)(hb:M.DB d):M.BeatWf (M.tick t c k n d):=by
 unfold M.tick
 split
 ·exact ⟨J2 hn,hd,hl,hb⟩
 ·split
  ·exact ⟨J2 (Ax hn (zWH (GA _ _) hn.k)),hd,hl,hb⟩
  ·split
   ·exact KH c k hn hd hl hb _ _
   ·exact KH c k hn hd hl hb _ _
def dS(l:List bS):List Int:=l.map λx=>x.pN
structure M.IdsOk (s:List Int):Prop where
 r:∀ x∈s,0<=x/\x<=6
 p:s.Pairwise (· < ·)
def oL(l:List bS):Prop:=M.IdsOk (dS l)
theorem Ys:∀ (s:List Int) (a:Int),a<=7->(∀ x∈s,a<=x/\x<=6)->s.Pairwise (· < ·)->(s.length:Int)<=7 - a
 | [],a,ha,_,_=>by simp; omega
 | x :: s,a,ha,h,p=>by
  rw [List.pairwise_cons] at p;have hx:=h x eH;have:=Ys s (x+1) ar (λy hy=>⟨by have:=p.1 y hy; omega,(h y V3).2⟩) p.2;simp only [zQK];omega
theorem WU{l:List bS}(h:oL l):l.length<=7:=by
 have:=Ys (dS l) 0 ar h.r h.p;simp only [dS,zWg] at this;omega
theorem RO{l:List bS}{j:Nat}{x y:bS}(h:l[j]?=some x)(hi:y.pN=x.pN):dS (l.set j y)=dS l:=by
 unfold dS
 apply List.ext_getElem?
 intro i;simp only [zQZ,zXk]
 by_cases e:j=i
 ·subst e;obtain ⟨hj,hx⟩:=aaa.1 h;simp [hj,hx,hi]
 ·simp [e]
theorem Ij(l:List bS)(id s:Int):dS (oI l id s)=dS l:=by
 unfold oI;rcases t7 l id with ⟨h1,_⟩ | ⟨j,x,h1,h2,_⟩
 ·rw [h1]; rfl
 ·rw [h1];simp only [cO,h2,r0]
  split
  ·exact RO h2 rfl
  ·rfl
theorem RP{l:List bS}(h:oL l)(f:Int):oL (mf l f):=by
 have e:dS (mf l f)=dS (l.filter λx=>decide (x.zF < f)):=by
  unfold dS mf;rw [zZx]; rfl
 have sub:(dS (l.filter λx=>decide (x.zF < f))).Sublist (dS l):=List.Sublist.map _ List.filter_sublist;unfold oL;rw [e];exact ⟨λx hx=>h.r x (sub.subset hx),h.p.sublist sub⟩
theorem KI{α:Type}(f:α->Bool):∀ (l:List α) (i j:Nat),eo f l i=((i+j:Nat):Int)->∀ x∈l.take j,f x=false
 | [],i,j,_=>by simp
 | y :: l,i,0,_=>by simp
 | y :: l,i,j+1,h=>by
  unfold eo at h
  split at h
  ·omega
  ·rename_i hy;intro x hx;simp only [List.take_succ_cons,zXy] at hx;rcases hx with rfl | hx
   ·simpa using hy
   ·exact KI f l (i+1) j (by rw [h]; congr 1; omega) x hx
theorem OQ{l:List bS}(h:oL l){k:Nat}{y:bS}(hy:0<=y.pN/\y.pN<=6)(h1:∀ x∈l.take k,x.pN < y.pN)(h2:∀ x∈l.drop k,y.pN < x.pN):oL (l.take k++[y]++l.drop k):=by
 have e:dS l=dS (l.take k)++dS (l.drop k):=by unfold dS; rw [<- List.map_append,zYY]
 have hp:=h.p;rw [e,List.pairwise_append] at hp;have e2:dS (l.take k++[y]++l.drop k)=dS (l.take k)++([y.pN]++dS (l.drop k)):=by unfold dS; simp
 unfold oL;rw [e2];constructor
 ·intro z hz;simp only [zWw,zQy] at hz;rcases hz with hz | rfl | hz
  ·exact h.r z (by rw [e]; simp [hz])
  ·exact hy
  ·exact h.r z (by rw [e]; simp [hz])
 ·rw [List.pairwise_append];refine ⟨hp.1,?_,?_⟩
  ·rw [List.singleton_append,List.pairwise_cons];refine ⟨λz hz=>?_,hp.2.1⟩;unfold dS at hz;rw [zYK] at hz;obtain ⟨x,hx,rfl⟩:=hz;exact h2 x hx
  ·intro a ha b hb;simp only [zWw,zQy] at hb;rcases hb with rfl | hb
   ·unfold dS at ha;rw [zYK] at ha;obtain ⟨x,hx,rfl⟩:=ha;exact h1 x hx
   ·exact hp.2.2 a ha b hb
theorem U4{l:List bS}(h:oL l)(id w d:Int):oL (rA l id w d):=by
 unfold rA
 split
 ·rename_i hc;simp only [sk] at hc;have hid:=bM hc.1.1;rcases t7 l id with ⟨h1,hno⟩ | ⟨j,x,h1,h2,_⟩
  ·rw [h1];have e:dm l (-1)=none:=by unfold dm; simp
   rw [e];dsimp only;unfold xh;rcases wx (λ(x:bS)=>decide (x.pN > id)) l 0 with ⟨g1,g2⟩ | ⟨j,x,g1,g2,g3⟩
   ·rw [g1,if_pos ar];refine OQ h hid (λx hx=>?_) (λx hx=>by simp at hx);have hx:=zWJ hx;have a:=g2 x hx;have b:=hno x hx;simp only [decide_eq_false_iff_not] at a;show x.pN < id;omega
   ·rw [g1,if_neg ar];have hj:=KI (λ(x:bS)=>decide (x.pN > id)) l 0 j g1;rw [show (((0+j:Nat):Int)).toNat=j by omega];refine OQ h hid (λx hx=>?_) (λy hy=>?_)
    ·have a:=hj x hx;have b:=hno x (zWJ hx);simp only [decide_eq_false_iff_not] at a;show x.pN < id;omega
    ·have lt:=(aaa.1 g2).1;have e:l.drop j=x :: l.drop (j+1):=by
      rw [zXY lt,(aaa.1 g2).2]
     have gx:id < x.pN:=by simpa using g3
     have hs:(dS (l.drop j)).Pairwise (· < ·):=h.p.sublist (List.Sublist.map _ (List.drop_sublist j l));rw [e] at hs hy;unfold dS at hs;rw [zWy,List.pairwise_cons] at hs;simp only [zXy] at hy;show id < y.pN;rcases hy with rfl | hy
     ·exact gx
     ·have:=hs.1 y.pN (List.mem_map.2 ⟨y,hy,rfl⟩);omega
  ·rw [h1];simp only [cO,h2,r0];unfold oL;rw [RO (y:=⟨x.pN,w,tZ .i64 x.bW d,0,x.pK⟩) h2 rfl];exact h
 ·exact h
theorem TG{α:Type}{f:α->Nat->Bool}:∀ {l:List α} {i:Nat},mp f l i=true->∀ (j:Nat) (x:α),l[j]?=some x->f x (i+j)=true
 | [],i,_,j,x,h=>by simp at h
 | y :: l,i,h,j,x,hx=>by
  unfold mp at h;simp only [sk] at h
  cases j with
  | zero =>
   simp only [zWX,Option.some.injEq] at hx;subst hx; exact h.1
  | succ j =>
   have:=TG h.2 j x YO;rw [show i+(j+1)=i+1+j by omega]; exact this
theorem Yt{l:List bS}(id w d:Int):∀ z∈dS (rA l id w d),z∈dS l\/z=id:=by
 unfold rA
 split
 ·rcases t7 l id with ⟨h1,hno⟩ | ⟨j,x,h1,h2,_⟩
  ·rw [h1];have e:dm l (-1)=none:=by unfold dm; simp
   rw [e];dsimp only;intro z hz;unfold dS at hz ⊢;simp only [List.map_append,zWw,zWy,List.map_nil,zQy,zYK] at hz ⊢;rcases hz with (⟨x,hx,rfl⟩ | rfl) | ⟨x,hx,rfl⟩
   ·exact .inl ⟨x,zWJ hx,rfl⟩
   ·exact .inr rfl
   ·exact .inl ⟨x,zXV hx,rfl⟩
  ·rw [h1];simp only [cO,h2,r0];rw [RO (y:=⟨x.pN,w,tZ .i64 x.bW d,0,x.pK⟩) h2 rfl];exact λz hz=>.inl hz
 ·exact λz hz=>.inl hz
structure M.KidsTo (S:Int->Prop) (l m:List bS):Prop where
 s:oL l->oL m
 i:∀ z∈dS m,z∈dS l\/S z
theorem OR{S:Int->Prop}{l m:List bS}(h:dS m=dS l):M.KidsTo S l m:=⟨λhl=>by unfold oL at hl ⊢; rw [h]; exact hl,λz hz=>.inl (h ▸ hz)⟩
theorem zC{S:Int->Prop}(l:List bS):M.KidsTo S l l:=OR rfl
theorem WV{S:Int->Prop}{l m k:List bS}(a:M.KidsTo S l m)(h:dS k=dS m):M.KidsTo S l k:=⟨λhl=>by have:=a.s hl; unfold oL at this ⊢; rw [h]; exact this,λz hz=>a.i z (h ▸ hz)⟩
theorem ZJ{S:Int->Prop}{l:List bS}{id:Int}(hs:S id)(w d:Int):M.KidsTo S l (rA l id w d):=⟨λh=>U4 h id w d,λz hz=>by
 rcases Yt id w d z hz with h | h
 ·exact .inl h
 ·rw [h]; exact .inr hs⟩
theorem PO(n:aG)(f t:Int):dS (gy n f t).fN.aZ=dS n.aZ:=Ij _ _ _
theorem LY{S:Int->Prop}{n:aG}{me f:Int}(hs:S f)(m:dW):M.KidsTo S n.aZ (eG n me f m).fN.aZ:=by
 have h:M.KidsTo S n.aZ (rA n.aZ f m.bQ m.bW):=ZJ hs _ _;have g:M.KidsTo S n.aZ (gy (kR n (rA n.aZ f m.bQ m.bW)) me f).fN.aZ:=WV h (PO _ me f);unfold eG
 split
 ·exact zC _
 ·split
  ·exact h
  ·split
   ·dsimp only
    split
    ·exact g
    ·exact g
   ·exact h
theorem ZK(n:aG)(me i:Int):∀ (l:List bS) (s:List bS×List ak),dS (l.foldl (fk n me i) s).1=dS s.1:=by
 intro l
 induction l with
 | nil=>intro s; rfl
 | cons x l ih =>
  intro s;rw [zYw,ih];unfold fk
  split
  ·exact Ij _ _ _
  ·rfl
theorem TH(n:aG)(me i:Int):dS (jx n me i).fN.aZ=dS n.aZ:=by
 unfold jx
 split
 ·exact ZK n me i _ _
 ·rfl
theorem RQ(n:aG)(d:aC)(m:af):(nZ n d m).aZ=n.aZ:=by
 unfold nZ
 split
 ·split <;> rfl
 ·split <;> rfl
theorem RR(n:aG)(me:Int)(m:dW):dS (kS n me m).fN.aZ=dS n.aZ:=by
 unfold kS
 split
 ·rfl
 ·split
  ·rfl
  ·split
   ·exact TH _ _ _
   ·rfl
theorem RS(n:aG)(me:Int)(d:aC)(m:dW):dS (jy n me d m).fN.aZ=dS n.aZ:=by
 unfold jy
 split
 ·show dS (nZ _ _ _).aZ=_;rw [RQ]; rfl
 ·split
  ·exact RR _ _ _
  ·split <;> rfl
def ft(t:c9)(z:Int):Prop:=aq z 0 ((t.cy.length:Int) - 1)=true
theorem WW(t:c9)(me:Int)(n:aG)(d:aC)(p:ak):M.KidsTo (ft t) n.aZ (M.take t me n d p).fN.aZ:=by
 unfold M.take
 split
 ·exact zC _
 ·split
  ·rename_i h;simp only [sk] at h
   split
   ·exact LY h.1.2 _
   ·split
    ·exact OR (RS _ _ _ _)
    ·exact zC _
  ·exact zC _
def rm(me:Int)(S:Int->Prop)(out:List ak):Prop:=∀ q∈out,q.cQ=me/\S q.rB
theorem vt(me:Int)(S:Int->Prop):rm me S []:=λq hq=>by simp at hq
theorem OS{me t:Int}{S:Int->Prop}(h:S t)(m:dW):rm me S [mh me t m]:=λq hq=>by
 simp only [zQy] at hq;subst hq; exact ⟨rfl,h⟩
theorem RT{S:Int->Prop}{n:aG}{me f:Int}(h:S f):rm me S (gy n me f).n5:=λq hq=>by
 unfold gy at hq;simp only [zYK] at hq;obtain ⟨i,_,rfl⟩:=hq;exact ⟨rfl,h⟩
theorem PP{S:Int->Prop}{n:aG}{me f:Int}(h:S f)(m:dW):rm me S (eG n me f m).n5:=by
 unfold eG
 split
 ·exact vt _ _
 ·split
  ·exact OS h _
  ·split
   ·dsimp only
    split
    ·exact OS h _
    ·exact RT h
   ·exact OS h _
theorem qaL{S:Int->Prop}{n:aG}{me i:Int}:∀ (l:List bS) (s:List bS×List ak),(∀ x∈l,S x.pN)->rm me S s.2->rm me S (l.foldl (fk n me i) s).2:=by
 intro l
 induction l with
 | nil=>intro s _ h; exact h
 | cons x l ih =>
  intro s hl h;refine ih _ (λy hy=>hl y V3) λq hq=>?_;unfold fk at hq
  split at hq
  ·simp only [zWw,zQy] at hq;rcases hq with hq | rfl
   ·exact h q hq
   ·exact ⟨rfl,hl x eH⟩
  ·exact h q hq
theorem U5{S:Int->Prop}{n:aG}{me i:Int}(h:∀ x∈n.aZ,S x.pN):rm me S (jx n me i).n5:=by
 unfold jx
 split
 ·exact qaL _ _ h (vt _ _)
 ·exact vt _ _
theorem ZL{t:c9}{me:Int}{n:aG}(h:∀ x∈n.aZ,ft t x.pN)(d:aC)(p:ak):rm me (ft t) (M.take t me n d p).n5:=by
 unfold M.take
 split
 ·exact vt _ _
 ·split
  ·rename_i hc;simp only [sk] at hc
   split
   ·exact PP hc.1.2 _
   ·split
    ·unfold jy
     split
     ·exact vt _ _
     ·split
      ·unfold kS
       split
       ·exact vt _ _
       ·split
        ·exact vt _ _
        ·split
         ·exact U5 (n:=EI (Gx n) _) h
         ·exact vt _ _
      ·first | exact vt _ _ | (split <;> exact vt _ _)
    ·exact vt _ _
  ·exact vt _ _
theorem QE{t:c9}(h:jf t=true){j:Nat}(h0:0 < j){x:Int}(hx:t.cy[j]?=some x):0<=x/\x < j:=by
 unfold jf at h;simp only [sk] at h;have:=TG h.1 j x hx;rw [zWY] at this;unfold Ea at this;rw [if_neg ar] at this;have:=bM this;omega
theorem KJ{t:c9}(h:jf t=true){k:Nat}(h0:0 < k)(hk:k < t.cy.length)(b:Int):ft t (zy t k b):=by
 have get:∀ j:Nat,0 < j->j < t.cy.length->ft t ((t.cy[j]?).getD 0):=λj h0 hj=>by
  have e:=sX hj;have:=QE h h0 e;rw [e];unfold ft;simp only [zYH,aq,sk,decide_eq_true_eq];omega
 have hw:aq (k:Int) 1 ((t.cy.length:Int) - 1)=true:=by simp [aq]; omega
 unfold zy;rw [h,hw];simp only [zXK,if_true]
 split
 ·rename_i hc;simp only [sk,decide_eq_true_eq] at hc;have:=bM (Yo hc.1);exact get b.toNat ar ar
 ·exact get _ eF eF
theorem VO{t:c9}(h:jf t=true)(c:iW){k:Nat}(hk:k < t.cy.length){n:aG}(hb:k≠0->ft t n.bD)(d:aC):rm k (ft t) (M.tick t c k n d).n5/\(k≠0->ft t (M.tick t c k n d).fN.bD):=by
 unfold M.tick
 split
 ·exact ⟨vt _ _,hb⟩
 ·split
  ·exact ⟨vt _ _,hb⟩
  ·rename_i h1;have h0:0 < k:=by omega
   split
   ·exact ⟨OS (KJ h h0 hk _) _,λ_=>KJ h h0 hk _⟩
   ·exact ⟨OS (hb ar) _,λg=>hb g⟩
theorem U6(l:List bS)(f:Int):∀ z∈dS (mf l f),z∈dS l:=λz hz=>by
 unfold dS mf at *;simp only [zZx,zYK,List.mem_filter] at hz ⊢;obtain ⟨x,hx,rfl⟩:=hz;exact ⟨x,hx.1,rfl⟩
theorem WX(S:Int->Prop)(t:c9)(c:iW)(k:Int)(n:aG)(d:aC):M.KidsTo S n.aZ (M.tick t c k n d).fN.aZ:=by
 have h:M.KidsTo S n.aZ (mf n.aZ c.aY):=⟨λhl=>RP hl _,λz hz=>.inl (U6 _ _ z hz)⟩;unfold M.tick
 split
 ·exact zC _
 ·split
  ·exact h
  ·split <;> exact h
theorem RU(n:aG)(d:aC)(m:af):(nZ n d m).bD=n.bD:=by
 unfold nZ
 split
 ·split <;> rfl
 ·split <;> rfl
theorem LZ(n:aG)(me f:Int)(m:dW):(eG n me f m).fN.bD=n.bD:=by
 unfold eG
 split
 ·rfl
 ·split
  ·rfl
  ·split
   ·dsimp only
    split <;> rfl
   ·rfl
theorem RV(n:aG)(me i:Int):(jx n me i).fN.bD=n.bD:=by
 unfold jx
 split <;> rfl
theorem PQ(n:aG)(me:Int)(d:aC)(m:dW):(jy n me d m).fN.bD=n.bD:=by
 unfold jy
 split
 ·exact RU _ _ _
 ·split
  ·unfold kS
   split
   ·rfl
   ·split
    ·rfl
    ·split
     ·exact RV _ _ _
     ·rfl
  ·split <;> rfl
theorem QF(t:c9)(me:Int)(n:aG)(d:aC)(p:ak):(M.take t me n d p).fN.bD=n.bD:=by
 unfold M.take
 split
 ·rfl
 ·split
  ·split
   ·exact LZ _ _ _ _
   ·split
    ·exact PQ _ _ _ _
    ·rfl
  ·rfl
structure M.NodeIn (t:c9) (j:Nat) (n:aG):Prop where
 w:M.NodWf n
 s:oL n.aZ
 k:∀ z∈dS n.aZ,ft t z
 b:j≠0->ft t n.bD
structure M.DiskIn (d:aC):Prop where
 o:M.DOk d
 b:M.DB d
 l:d.fP.length<=200
structure M.PkIn (t:c9) (p:ak):Prop where
 w:zB p
 f:ft t p.cQ
 t:ft t p.rB
structure M.WWf (w:World):Prop where
 t:jf w.fT=true
 nl:w.fN.length=w.fT.cy.length
 dl:w.fD.length=w.fT.cy.length
 nodes:∀ (j:Nat) (n:aG),w.fN[j]?=some n->M.NodeIn w.fT j n
 disks:∀ (j:Nat) (d:aC),w.fD[j]?=some d->M.DiskIn d
 net:∀ p∈w.br,M.PkIn w.fT p
 len:w.br.length<=400
theorem Ay{t:c9}{j:Nat}{n:aG}(h:M.NodeIn t j n):n.aZ.length<=1048576:=by
 have:=WU h.s; omega
theorem Cx{w:World}(h:M.WWf w):1<=w.fT.cy.length/\w.fT.cy.length<=7:=by
 have:=h.t;unfold jf at this;simp only [sk] at this;have:=bM this.2;omega
theorem OT{t:c9}{z:Int}(h:ft t z):∃ j:Nat,z=j/\j < t.cy.length:=by
 have:=bM h;exact ⟨z.toNat,by omega,by omega⟩
theorem Yu{t:c9}:∀ (out:List ak) (s:List ak×List dZ×Int),(∀ p∈s.1,M.PkIn t p)->s.1.length<=400->(∀ p∈out,M.PkIn t p) ->
  (∀ p∈(out.foldl dp s).1,M.PkIn t p)/\(out.foldl dp s).1.length<=400:=by
 intro out
 induction out with
 | nil=>intro s h l _; exact ⟨h,l⟩
 | cons x out ih =>
  intro s h l ho;rw [zYw];refine ih _ ?_ ?_ (λp hp=>ho p (by simp [hp]))
  ·unfold dp
   split
   ·exact h
   ·intro p hp;simp only [zWw,zQy] at hp;rcases hp with hp | rfl
    ·exact h p hp
    ·exact ho p eH
  ·unfold dp
   split
   ·exact l
   ·simp only [zQG,zXz]; omega
theorem Yv{w:World}(h:M.WWf w){out:List ak}(ho:∀ p∈out,M.PkIn w.fT p):M.WWf (OP w out):=by
 have:=Yu out (w.br,w.dB,w.bC) h.net h.len ho;exact ⟨h.t,h.nl,h.dl,h.nodes,h.disks,this.1,this.2⟩
theorem RW{α:Type}{P:Nat->α->Prop}{l:List α}(h:∀ (j:Nat) (x:α),l[j]?=some x->P j x){k:Nat}{y:α}(hy:P k y):∀ (j:Nat) (x:α),(l.set k y)[j]?=some x->P j x:=by
 intro j x hx;rw [zXk] at hx
 split at hx
 ·rename_i e
  split at hx
  ·simp only [Option.some.injEq] at hx;rw [<- hx,<- e]; exact hy
  ·cases hx
 ·exact h j x hx
def wi(w:World)(k:Nat)(n:aG)(d:aC):World:=⟨w.fC,w.fT,w.ct,w.ca,w.fN.set k n,w.fD.set k d,w.br,w.dB,w.bC⟩
theorem TI{w:World}(h:M.WWf w){k:Nat}{n:aG}{d:aC}(hn:M.NodeIn w.fT k n)(hd:M.DiskIn d):M.WWf (wi w k n d) :=
 ⟨h.t,by simp [wi,h.nl],by simp [wi,h.dl],RW h.nodes hn,RW (P:=λ_ d=>M.DiskIn d) h.disks hd,h.net,h.len⟩
def xi(w:World)(k:Nat):World:=match w.fN[k]?,w.fD[k]? with
 | some n,some d=>OP (wi w k (M.tick w.fT w.fC k n d).fN (M.tick w.fT w.fC k n d).fD) (M.tick w.fT w.fC k n d).n5
 | _,_=>w
theorem VP{t:c9}(ht:jf t=true)(c:iW){k:Nat}(hk:k < t.cy.length){n:aG}(hn:M.NodeIn t k n){d:aC}(hd:M.DiskIn d) :
  M.NodeIn t k (M.tick t c k n d).fN/\M.DiskIn (M.tick t c k n d).fD/\(∀ p∈(M.tick t c k n d).n5,M.PkIn t p)/\(M.tick t c k n d).n5.length<=1048576:=by
 have w:=ZI t c k hn.w hd.o hd.l hd.b;have kk:=WX (ft t) t c k n d;have to:=VO ht c hk hn.b d;have hkk:ft t (k:Int):=by unfold ft; simp [aq]; omega
 refine ⟨⟨w.a.n,kk.s hn.s,λz hz=>?_,to.2⟩,⟨w.d,w.b,w.l⟩,λp hp=>⟨w.a.o p hp,?_,(to.1 p hp).2⟩,w.a.l⟩
 ·rcases kk.i z hz with h | h
  ·exact hn.k z h
  ·exact h
 ·rw [(to.1 p hp).1]; exact hkk
theorem L0{u:Nat}(hu:1099511627776<=u){w:World}(h:M.WWf w){k:Nat}(hk:k < w.fT.cy.length):oz u w k=some (xi w k):=by
 have up:=Cx h;have hn:w.fN[k]?=some (w.fN[k]'(by rw [h.nl]; exact hk)):=sX _;have hd:w.fD[k]?=some (w.fD[k]'(by rw [h.dl]; exact hk)):=sX _;generalize w.fN[k]'(by rw [h.nl]; exact hk)=n at hn;generalize w.fD[k]'(by rw [h.dl]; exact hk)=d at hd;have a:=h.nodes k n hn;have b:=h.disks k d hd;have g:=VP h.t w.fC hk a b;unfold oz xi;simp only [cO,hn,hd,wk,RM hu (show w.fT.cy.length<=1048576 by omega) w.fC k a.w (Ay a) b.o (show d.fP.length<=1048575 by have:=b.l; omega),r0];rw [show (World.mk w.fC w.fT w.ct w.ca (w.fN.set k (M.tick w.fT w.fC k n d).fN) (w.fD.set k (M.tick w.fT w.fC k n d).fD) w.br w.dB w.bC)=wi w k (M.tick w.fT w.fC k n d).fN (M.tick w.fT w.fC k n d).fD from rfl,C9 hu _ (λp hp=>(g.2.2.1 p hp).w) g.2.2.2];rfl
def J3(w:World)(k:Nat):World:=⟨w.fC,w.fT,w.ct,w.ca,w.fN,w.fD,w.br.take k++w.br.drop (k+1),w.dB,w.bC⟩
theorem Yw{w:World}(h:M.WWf w)(k:Nat):M.WWf (J3 w k) :=
 ⟨h.t,h.nl,h.dl,h.nodes,h.disks,λp hp=>by
  simp only [J3,zWw] at hp;rcases hp with hp | hp
  ·exact h.net p (zWJ hp)
  ·exact h.net p (zXV hp),by
  have:=h.len;simp only [J3,zQG,zWQ,zYz]; omega⟩
def OU(w:World)(k:Nat)(n:aG):World:=⟨w.fC,w.fT,w.ct,w.ca,w.fN.set k n,w.fD,w.br,w.dB,w.bC⟩
theorem Yx{w:World}(h:M.WWf w){k:Nat}{n:aG}(hn:M.NodeIn w.fT k n):M.WWf (OU w k n) :=
 ⟨h.t,by simp [OU,h.nl],h.dl,RW h.nodes hn,h.disks,h.net,h.len⟩
def OV(w:World)(p:ak):World:=match w.fN[p.rB.toNat]?,w.fD[p.rB.toNat]? with
 | some n,some d=>OP (OU w p.rB.toNat (M.take w.fT p.rB n d p).fN) (M.take w.fT p.rB n d p).n5
 | _,_=>w
def xj(w:World)(k:Nat):World:=match w.br[k]? with
 | some p=>OV (J3 w k) p
 | none=>w
theorem VQ{t:c9}{n:aG}{k:Nat}(hk:k < t.cy.length)(hn:M.NodeIn t k n){d:aC}(hd:M.DiskIn d){p:ak}(hp:M.PkIn t p) :
  M.NodeIn t k (M.take t k n d p).fN/\(∀ q∈(M.take t k n d p).n5,M.PkIn t q)/\(M.take t k n d p).n5.length<=1048576:=by
 have w:=ZH t k hn.w (Ay hn) hd.b hp.w.1;have kk:=WW t k n d p;have to:=ZL (me:=(k:Int)) (λx hx=>hn.k x.pN (List.mem_map.2 ⟨x,hx,rfl⟩)) d p;have hkk:ft t (k:Int):=by unfold ft; simp [aq]; omega
 refine ⟨⟨w.n,kk.s hn.s,λz hz=>?_,λh0=>by rw [QF]; exact hn.b h0⟩,λq hq=>⟨w.o q hq,?_,(to q hq).2⟩,w.l⟩
 ·rcases kk.i z hz with h | h
  ·exact hn.k z h
  ·exact h
 ·rw [(to q hq).1]; exact hkk
theorem L1{u:Nat}(hu:1099511627776<=u){w:World}(h:M.WWf w){k:Nat}(hk:k < w.br.length):oD u w k=some (xj w k):=by
 have up:=Cx h;have hl:=h.len;have hp:w.br[k]?=some w.br[k]:=sX hk;generalize w.br[k]=p at hp;have pin:=h.net p (zQY hp);obtain ⟨j,e,hj⟩:=OT pin.t;have hn:w.fN[j]?=some (w.fN[j]'(by rw [h.nl]; exact hj)):=sX _;have hd:w.fD[j]?=some (w.fD[j]'(by rw [h.dl]; exact hj)):=sX _;generalize w.fN[j]'(by rw [h.nl]; exact hj)=n at hn;generalize w.fD[j]'(by rw [h.dl]; exact hj)=d at hd;have a:=h.nodes j n hn;have b:=h.disks j d hd;have g:=VQ hj a b pin;have hb:aL .i64 (k:Int) 1=((k+1:Nat):Int):=sI (a:=k) (b:=1) ar;have c1:cd (cS 0 (k:Int) w.br.length)=some ():=by
  rw [show (0:Int)=((0:Nat):Int) from rfl,gw ar ar]
 have c2:cd (cS ((k+1:Nat):Int) ((w.br.length:Nat):Int) w.br.length)=some ():=by
  rw [gw ar ar]
 unfold oD xj;rw [hp];unfold OV;simp only [cO,hp,wk,hb,c1,c2,r0,show sY 0=0 from rfl,zZH,zQz,List.take_length];rw [bq eF,wk,bq eF,wk];simp only [e,r0,cO];simp only [J3,hn,hd,wk,RK hu (show w.fT.cy.length<=1048576 by omega) (j:Int) a.w (Ay a) b.o b.b pin.w.1 pin.w.2];rw [C9 hu _ (λp hp=>(g.2.1 p hp).w) g.2.2];rfl
theorem TJ{α:Type}(g:α->Bool):∀ (l:List α) (i:Nat),mp (λx _=>g x) l i=l.all g
 | [],_=>rfl
 | x :: l,i=>by simp only [mp,List.all_cons,TJ g l]
def zD(c:iW):Bool:=aq c.aB 2 6 && aq c.bc 1 40 && aq c.aU 1 5 && aq c.aY 2 8
theorem OW(u:Nat)(c:iW):wy u c=some (zD c):=by
 unfold wy zD;simp only [bG,wk]
 cases aq c.aB 2 6 <;> cases aq c.bc 1 40 <;> cases aq c.aU 1 5 <;> rfl
def Ik(l:List bp)(n:Int):Bool:=(l.all λx=>!decide ((x.fB.length:Int) > 240)) && ((l.length:Int) == n)
theorem L2{u:Nat}(hu:1099511627776<=u){l:List bp}(hl:l.length<=1048576)(n:Int):ub u l n=some (Ik l n):=by
 unfold ub Ik;rw [GI u l n () u ar ar,Gq (λ(x:bp) _=>!decide ((x.fB.length:Int) > 240)) (xs:=l) (b:=(l.length:Int) == n) rfl 0 (λx i f _ hx=>?_) l 0 (zWk _) rfl,TJ];unfold zK
 cases decide ((x.fB.length:Int) > 240) <;> rfl
theorem TK:∀ (n:Nat) (b:List Int),av b->b.length<=n->o8 n (jt b 1)=some b:=by
 intro n
 induction n with
 | zero =>
  intro b _ hl;have:b=[]:=zQQ ar;subst this;rfl
 | succ n ih =>
  intro b hb hl;rcases List.eq_nil_or_concat b with rfl | ⟨c,x,hbx⟩
  ·rfl
  ·rw [List.concat_eq_append] at hbx;subst hbx;have hx:=hb x eH;have hc:av c:=λz hz=>hb z Xe;have h1:=OI c 1 0 hc eH;have hp:(0:Int) < 256 ^ (0+c.length):=zVZ ar;have e:jt (c++[x]) 1=256*jt c 1+x:=by rw [S3]; rfl
   unfold o8;rw [e,if_neg ar,if_neg ar,show (256*jt c 1+x) / 256=jt c 1 by omega,show (256*jt c 1+x) % 256=x by omega,ih c hc (by simp at hl; omega)];rfl
theorem RX{b:List Int}(hb:av b)(hl:b.length<=6):b4 (jt b 1)=(b,true):=by
 have h1:=OI b 1 0 hb eH;have hp:(0:Int) < 256 ^ (0+b.length):=zVZ ar;unfold b4;rw [if_neg ar,TK 6 b hb hl]
theorem WY{size n i:Int}(h:aq i 0 (cr size n - 1)=true):(cz size n i).1=i*size/\1<=(cz size n i).2:=by
 have ⟨h1,h2,h3⟩:=BF h;have h4:=w7 h1;have h5:=(bM h).2;unfold cz;rw [if_pos h];unfold cr at h5;rw [if_pos h1] at h5;have h8:i+1<=(n+size - 1) / size:=by omega
 have h9:(i+1)*size<=n+size - 1:=(Int.le_ediv_iff_mul_le ar).1 h8;rw [zVV] at h9;refine ⟨rfl,?_⟩;dsimp only;omega
theorem U7{b:List Int}{size i:Int}(h:aq i 0 (cr size b.length - 1)=true):((eB b size i).1.length:Int)=(cz size b.length i).2/\(eB b size i).1=M.win b (cz size b.length i).1.toNat (cz size b.length i).2.toNat:=by
 have h1:=WY h;have h2:=vg (size:=size) (n:=b.length) (i:=i) ar;unfold eB;dsimp only;rw [if_neg ar];refine ⟨?_,rfl⟩;unfold M.win;simp;omega
theorem RY{b:List Int}(hb:av b){size:Int}{i:Nat}(h:aq (i:Int) 0 (cr size b.length - 1)=true):sH size b.length i (et (eB b size i).1)=true:=by
 have h1:=U7 h;have h2:=ws hb size i;unfold sH et;rw [if_neg ar];simp only [RX h2.1 h2.2,h1.1];simp
theorem FC{b:List Int}(hb:av b){size:Int}:∀ (n i:Nat),((i+n:Nat):Int)<=cr size b.length->lz size b.length ((zWx i n).map λ(i:Nat)=>et (eB b size i).1) i=true
 | 0,i,_=>rfl
 | n+1,i,h=>by
  have hw:aq (i:Int) 0 (cr size b.length - 1)=true:=by unfold aq; simp; omega
  simp only [zYZ,zWy,lz];rw [RY hb hw,zWz];exact FC hb n (i+1) ar
theorem KK(g:Int){b:List Int}(hb:av b)(size:Int):c7 (gZ g b size)=true:=by
 unfold gZ
 cases h1:aq g 1 1000000 with
 | false=>rfl
 | true =>
  cases h2:ey size b.length with
  | false=>rfl
  | true =>
   have hg:=bM h1;have hr:=fb size b.length;simp only [zXK,if_true];unfold c7;simp only;rw [if_neg ar,h1,h2];simp only [zWz,sk,beq_iff_eq];unfold w8;refine ⟨by simp; omega,?_⟩;rw [zXj];exact FC hb _ 0 ar
theorem WZ{α:Type}{f:α->α->Bool}(hf:∀ x,f x x=true)(l:List α):M.same f l l=true:=by
 unfold M.same;have:Ci f l l=true:=by
  induction l with
  | nil=>rfl
  | cons x l ih=>simp [Ci,hf,ih]
 simp [this]
theorem TL{g size:Int}{b:List Int}(h:ey size b.length=true)(hg:aq g 1 1000000=true):sa (gZ g b size) b=true:=by
 unfold sa gZ;rw [hg,h];simp [WZ]
def Ev{β:Type}(r:Option β)(p:β->Prop):Prop:=∃ v,r=some v/\p v
theorem bj{β γ:Type}{r:Option β}{p:β->Prop}{f:β->Option γ}{q:γ->Prop}(h:Ev r p)(hf:∀ v,p v->Ev (f v) q):Ev (r.bind f) q:=by
 obtain ⟨v,e,h1⟩:=h;rw [e];exact hf v h1
theorem cf{β:Type}{v:β}{p:β->Prop}(h:p v):Ev (some v) p:=⟨v,rfl,h⟩
theorem Yy{β:Type}{r:Option β}{v:β}{p:β->Prop}(e:r=some v)(h:p v):Ev r p:=⟨v,e,h⟩
theorem VS{β:Type}{r:Option β}{p q:β->Prop}(h:Ev r p)(hpq:∀ v,p v->q v):Ev r q:=by
 obtain ⟨v,e,h1⟩:=h;exact ⟨v,e,hpq v h1⟩
theorem ip{β γ:Type}{r:Option β}{v:β}{f:β->Option γ}{q:γ->Prop}(e:r=some v)(hf:Ev (f v) q):Ev (r.bind f) q:=by
 rw [e];exact hf
theorem m7{γ:Type}{b:Bool}{f:Unit->Option γ}{q:γ->Prop}(hb:b=true)(hf:Ev (f ()) q):Ev ((cd b).bind f) q:=by
 subst hb;exact hf
theorem FD{α:Type}{r:Option (α×aJ)}{p:α->Prop}(h:Dr r p):Ev r λv=>p v.1/\Cu v.2:=by
 obtain ⟨v,c,e,h1,h2⟩:=h;exact ⟨_,e,h1,h2⟩
theorem cI(u:Nat){c:aJ}(hc:Cu c)(n:Int):Ev (aW u c n) λv=>(0<=v.1/\(0 < n->v.1 < n))/\Cu v.2:=FD (cJ u hc n)
theorem EM(u:Nat){c:aJ}(hc:Cu c)(n:Int):Ev (ie u c n) λv=>Cu v.2:=VS (FD (JH u hc n)) λ_ h=>h.2
theorem zE(u:Nat){c:aJ}(hc:Cu c){xs:List Int}(hx:0 < xs.length):Ev (di u c xs) λv=>v.1∈xs/\Cu v.2:=FD (o9 u hc hx)
theorem b7{γ:Type}{b:Bool}{x y:Option γ}{q:γ->Prop}(h1:b=true->Ev x q)(h2:b=false->Ev y q):Ev (bif b then x else y) q:=by
 cases b with
 | true=>exact h1 rfl
 | false=>exact h2 rfl
theorem Cy{c:aJ}(h:Cu c):Cu (aJ.mk c.fB c.fI c.fH):=h
theorem QG{α:Type}{f:α->Nat->Bool}:∀ (l:List α) (i:Nat) (x:α),mp f (l++[x]) i=(mp f l i && f x (i+l.length))
 | [],i,x=>by simp [mp]
 | y :: l,i,x=>by
  simp only [zYX,mp,QG l (i+1) x,zQK,Bool.and_assoc];rw [show i+1+l.length=i+(l.length+1) by omega]
def Il(t:c9):Prop:=jf t=true/\1<=t.cy.length/\t.cy.length<=7
theorem OX(u:Nat)(hu:1099511627776<=u){c:aJ}(hc:Cu c):Ev (qA u c) λv=>Il v.1/\Cu v.2:=by
 have key:∀ (m k n:Nat) (up:List Int) (c:aJ),n+m=7->m < k->1<=n->up.length=n->mp Ea up 0=true->Cu c ->
   Ev (fw u k (n:Int) up c.fB c.fI c.fH) λv=>Il v.1/\Cu v.2:=by
  intro m
  induction m with
  | zero =>
   intro k n up c hn hk h1 hl ho hc;obtain ⟨k,rfl⟩:∃ j,k=j+1:=⟨k - 1,by omega⟩;unfold fw;refine bj (cI u (Cy hc) 7) λr hr=>?_;have hr1:=hr.1.1;have hr2:=hr.1.2 ar;rw [cN ar ar];have:¬ (n:Int) < 1+r.1:=by omega
   simp only [this,decide_false,cond_false,sJ];exact cf ⟨⟨by unfold jf; rw [ho]; simp [aq]; omega,by show 1<=up.length; omega,by show up.length<=7; omega⟩,hr.2⟩
  | succ m ih =>
   intro k n up c hn hk h1 hl ho hc;obtain ⟨k,rfl⟩:∃ j,k=j+1:=⟨k - 1,by omega⟩;unfold fw;refine bj (cI u (Cy hc) 7) λr hr=>?_;have hr1:=hr.1.1;have hr2:=hr.1.2 ar;rw [cN ar ar];have next:∀ (x:Int) (c:aJ),0<=x->x < n->Cu c->Ev (oO u (λz0 z1 z2 z3 z4=>fw u k z0 z1 z2 z3 z4) (n:Int) x up c.fB c.fI c.fH) λv=>Il v.1/\Cu v.2:=by
    intro x c h0 hx hc;unfold oO;refine m7 eF ?_;rw [cN ar ar,show (n:Int)+1=((n+1:Nat):Int) by omega];refine ih k (n+1) _ c ar ar ar eF ?_ hc;rw [QG,ho,zWz];unfold Ea;rw [if_neg ar];simp [aq]; omega
   refine b7 (λhlt=>?_) (λ_=>?_)
   ·refine bj (EM u hr.2 2) λo ho2=>?_;refine b7 (λ_=>?_) (λ_=>?_)
    ·refine bj (cI u ho2 _) λx hx=>?_;exact next _ _ hx.1.1 (hx.1.2 ar) hx.2
    ·rw [cm ar ar];exact next _ _ ar ar ho2
   ·unfold sJ;exact cf ⟨⟨by unfold jf; rw [ho]; simp [aq]; omega,by show 1<=up.length; omega,by show up.length<=7; omega⟩,hr.2⟩
 unfold qA;exact key 6 u 1 _ c ar ar ar rfl rfl hc
theorem W0(u:Nat)(hu:1099511627776<=u){c:aJ}(hc:Cu c):Ev (wK u c) λv=>v.1.cy.length<=7/\Cu v.2:=by
 unfold wK;refine bj (OX u hu hc) λt ht=>?_;have hl:=ht.1.2;refine bj (cI u ht.2 8) λn hn=>?_;refine b7 (λ_=>?_) (λ_=>b7 (λ_=>?_) (λ_=>?_))
 ·refine bj (cI u hn.2 _) λi hi=>?_;refine bj (zE u hi.2 eH) λx hx=>?_;have h0:=hi.1.1;have h1:=hi.1.2 ar;obtain ⟨j,hj⟩:∃ j:Nat,i.1=(j:Int):=⟨i.1.toNat,by omega⟩;rw [hj,cO,sX ar];exact cf ⟨by show (t.1.cy.set _ _).length<=7; rw [zXJ]; omega,hx.2⟩
 ·exact cf ⟨by simp,hn.2⟩
 ·exact cf ⟨by show t.1.cy.length<=7; omega,hn.2⟩
theorem TM(u:Nat){c:aJ}(hc:Cu c):Ev (vE u c) λv=>Cu v.2:=by
 unfold vE;refine bj (EM u hc 3) λo ho=>b7 (λ_=>?_) (λ_=>?_)
 ·exact bj (zE u ho eH) λx hx=>cf hx.2
 ·refine bj (cI u ho _) λx hx=>bj (cI u hx.2 _) λy hy=>m7 ?_ (cf hy.2);have:=hy.1.1
  simpa using this
theorem Yz(u:Nat){c:aJ}(hc:Cu c):Ev (yO u c) λv=>Cu v.2:=by
 unfold yO;refine bj (EM u hc 8) λo ho=>b7 (λ_=>?_) (λ_=>?_)
 ·exact bj (zE u ho eH) λx hx=>cf hx.2
 ·exact bj (TM u ho) λx hx=>cf hx
theorem U8{u:Nat}(hu:1099511627776<=u){c:aJ}(hc:Cu c):Ev (mI u c) λv=>nX 16 v.1/\Cu v.2:=FD (Oe hu hc)
theorem qaM{u:Nat}(hu:1099511627776<=u){c:aJ}(hc:Cu c){b:List Int}(hb:nX 200 b):Ev (tv u c b) λv=>nX 240 v.1/\Cu v.2:=FD (WK hu hc hb.1 hb.2)
theorem YA{u:Nat}(hu:1099511627776<=u){c:aJ}(hc:Cu c):Ev (tF u c) λv=>(v.1.aI.length<=41/\oH v.1)/\Cu v.2:=FD (Yn hu hc)
theorem OY{n m:Nat}{b:List Int}(h:nX n b)(hn:n<=m):nX m b:=⟨zWH h.1 hn,h.2⟩
structure M.DrMan (m:af) (b:List Int):Prop where
 i:nX 16 b
 o:c7 m=true
 n:m.aI.length<=40
 w:oH m
 l:0<=m.aT/\m.aT<=16
theorem W1{u:Nat}(hu:1099511627776<=u){c:aJ}(hc:Cu c):Ev (pR u c) λv=>M.DrMan v.1 v.2.1/\Cu v.2.2:=by
 unfold pR;refine bj (U8 hu hc) λb hb=>bj (cI u hb.2 _) λx hx=>bj (cI u hx.2 _) λy hy=>?_;have h1:=hb.1.1;refine ip (AS hu hb.1.2 ar _ _) (cf ⟨⟨hb.1,KK _ hb.1.2 _,JA _ _ _,N4 _ _ _ hb.1.2,?_⟩,hy.2⟩);unfold gZ
 split
 ·exact ⟨by simp,by simp; omega⟩
 ·simp
structure M.DrNode (n:aG):Prop where
 w:M.NodWf n
 b:n.bw.cj.length<=16
 k:n.aZ.length<=10
theorem U9:oH ⟨0,0,0,[]⟩:=λx hx=>by simp at hx
theorem W3{m:af}{b:List Int}(hm:M.DrMan m b){x:bH}(hp:M.Part m 40 x){l:List bS}(hl:l.length<=10)(o:Bool)(i q ph dr:Int):M.DrNode ⟨o,i,q,m,x,ph,l,dr⟩:=by
 have h1:=hm.n;have h2:=hm.l;have h3:=hp.l;exact ⟨⟨by show m.aI.length<=1048576; omega,hp.b,by show l.length<=1048577; omega,hm.w⟩,by show x.cj.length<=16; omega,hl⟩
theorem Va{u:Nat}(hu:1099511627776<=u){code:List Int}(h:code.length<=1048576):Ev (tu u code) Cu:=by
 obtain ⟨c,e,hc⟩:=X6 hu h;exact Yy e hc
def m8(t:c9)(k:Int):aG:=if jf t && aq k 1 ((t.cy.length:Int) - 1) then ⟨true,(t.cy[k.toNat]?).getD 0,0,⟨0,0,0,[]⟩,⟨0,[]⟩,0,[],0⟩ else ⟨false,0,0,⟨0,0,0,[]⟩,⟨0,[]⟩,0,[],0⟩
theorem ZM{t:c9}{k:Int}(h:aq k 1 ((t.cy.length:Int) - 1)=true):dm t.cy k=some ((t.cy[k.toNat]?).getD 0):=by
 have:=bM h;obtain ⟨j,rfl⟩:∃ j:Nat,k=j:=⟨k.toNat,by omega⟩;rw [cO,r0,sX ar];rfl
theorem BU{u:Nat}(hu:1099511627776<=u){t:c9}(ht:t.cy.length<=1048576)(k:Int):mZ u t k=some (m8 t k):=by
 unfold mZ m8;rw [zx hu ar,cm ar ar,bG];simp only [wk];unfold qC
 cases jf t with
 | false=>rfl
 | true =>
  cases h:aq k 1 ((t.cy.length:Int) - 1) with
  | false=>rfl
  | true=>simp only [zQX,cond_false,ZM h,wk,uc]; rfl
theorem qaN{g:Int}{b:List Int}(hb:nX 240 b):M.DiskIn ⟨b,[],⟨g,0,b.length⟩,[]⟩:=by
 have:=hb.1;exact ⟨⟨by show b.length<=1048576; omega,by simp,by simp,by simp⟩,⟨hb.2,by simp [av],by simp⟩,by simp⟩
theorem OZ(u:Nat){c:aJ}(hc:Cu c):Ev (qB u c) λv=>zD v.1=true/\Cu v.2:=by
 unfold qB;refine bj (cI u hc _) λa ha=>bj (zE u ha.2 eH) λw hw=>bj (cI u hw.2 _) λs hs=>bj (cI u hs.2 _) λf hf=>cf ⟨?_,hf.2⟩;have a1:=ha.1.1;have a2:=ha.1.2 ar;have s1:=hs.1.1;have s2:=hs.1.2 ar;have f1:=hf.1.1;have f2:=hf.1.2 ar;have w1:1<=w.1/\w.1<=40:=by
  have:=hw.1;simp only [zXy,zZG,or_false] at this;rcases this with h | h | h | h | h <;> omega
 unfold zD aq;simp only [cN (show -9223372036854775808<=2+a.1 by omega) (show 2+a.1<=9223372036854775807 by omega),cN (show -9223372036854775808<=1+s.1 by omega) (show 1+s.1<=9223372036854775807 by omega),cN (show -9223372036854775808<=2+f.1 by omega) (show 2+f.1<=9223372036854775807 by omega),sk,decide_eq_true_eq];omega
theorem W4(u:Nat){c:aJ}(hc:Cu c):Ev (wJ u c) λv=>Cu v.2:=by
 unfold wJ;refine bj (OZ u hc) λr hr=>bj (cI u hr.2 _) λk hk=>?_;refine b7 (λ_=>bj (zE u hk.2 eH) λx hx=>cf hx.2) (λ_=>?_);refine b7 (λ_=>bj (zE u hk.2 eH) λx hx=>cf hx.2) (λ_=>?_);refine b7 (λ_=>bj (zE u hk.2 eH) λx hx=>cf hx.2) (λ_=>?_);exact b7 (λ_=>bj (zE u hk.2 eH) λx hx=>cf hx.2) (λ_=>cf hk.2)
structure M.DrD (d:aC):Prop where
 o:M.DOk d
 l:d.fP.length<=201
theorem YB{u:Nat}(hu:1099511627776<=u){c:aJ}(hc:Cu c):Ev (vK u c) λv=>M.DrD v.1/\Cu v.2:=by
 obtain ⟨d,c',e,h,h2⟩:=X7 hu hc;exact Yy e ⟨⟨h.1,h.2⟩,h2⟩
def qad(g:Int)(b:List Int)(size:Int):af:=⟨g,size,b.length,w8 b size⟩
theorem W5{g:Int}{b:List Int}{size:Int}(hs:ey size b.length=true)(hg:aq g 1 1000000=true):gZ g b size=qad g b size:=by
 unfold gZ qad;rw [hs,hg]; rfl
theorem Az{u:Nat}(hu:1099511627776<=u){l:List bp}(hl:l.length<=1048576)(hb:∀ x∈l,x.fB.length<=1048576):jQ u l=some l:=by
 unfold jQ;rw [EO u l _ u ar ar,Ck 1048576 l _ l 0 [] (λ_ h=>h) eF]
 ·rfl
 ·intro x i s k hx hs;have h4:=hb x hx;unfold xM;rw [bq eF];simp only [wk];rw [bq eF]; rfl
theorem TN{α ρ:Type}{fin:List α->Option ρ}{body:α->Nat->List α->(List α->Option ρ)->Option ρ}(n:Nat)(p:List α)(hb:∀ x i s k,p[i]?=some x->s.length+1<=n->body x i s k=k (s++[x])) :
  ∀ (l:List α) (i:Nat) (s:List α),l=p.drop i->s.length+l.length<=n->bZ fin body l i s=fin (s++l):=by
 intro l
 induction l with
 | nil=>intro i s _ _; simp [bZ]
 | cons x l ih =>
  intro i s h1 h2;simp only [zQK] at h2;have h3:p[i]?=some x:=by
   have:=congrArg (λl=>l[0]?) h1
   simpa using this.symm
  have h4:l=p.drop (i+1):=by
   have:=congrArg (List.drop 1) h1
   simpa using this
  simp only [bZ];rw [hb x i s _ h3 ar,ih (i+1) _ h4 eF];simp
theorem Cz{u:Nat}(hu:1099511627776<=u){l:List ak}(hl:l.length<=1048576)(hb:∀ x∈l,x.fB.length<=1048576):kT u l=some l:=by
 unfold kT;rw [AC u l _ u ar ar,TN 1048576 l _ l 0 [] eH eF]
 ·rfl
 ·intro x i s k hx hs;have h4:=hb x (zQY hx);unfold rI;rw [fY l i hx];simp only [wk];rw [bq eF];simp only [wk];rw [bq eF]; rfl
structure M.WCp (w:World):Prop where
 t:w.fT.cy.length<=1048576
 new:w.ct.length<=1048576
 ol:w.ca.length<=1048576
 old:∀ x∈w.ca,x.fB.length<=1048576
 nl:w.fN.length<=1048576
 n:∀ x∈w.fN,M.NodWf x
 dl:w.fD.length<=1048576
 d:∀ x∈w.fD,M.DOk x
 pl:w.br.length<=1048576
 p:∀ x∈w.br,zB x
 ll:w.dB.length<=1048576
theorem L3{u:Nat}(hu:1099511627776<=u){w:World}(h:M.WCp w):uk u w=some w:=by
 have h1:=h.t;have h2:=h.new;have h3:=h.nl;have h4:=h.dl;have h5:=h.ll;unfold uk;rw [bq eF,bq eF];simp only [wk];rw [Az hu h.ol h.old];simp only [wk];rw [GO u w _ _ u ar ar,Ck 1048576 w.fN _ w.fN 0 [] (λ_ h=>h) eF]
 ·unfold zN sR;rw [GN u w _ _ _ u ar ar,Ck 1048576 w.fD _ w.fD 0 [] (λ_ h=>h) eF]
  ·unfold zL sQ;rw [Cz hu h.pl λx hx=>(h.p x hx).2];simp only [wk];rw [bq eF];rfl
  ·intro x i s k hx hs;unfold zM;rw [gQ hu (h.d x hx)];simp only [wk];rw [bq eF]; rfl
 ·intro x i s k hx hs;unfold zO;rw [fK u (h.n x hx)];simp only [wk];rw [bq eF]; rfl
structure M.DrW (w:World):Prop where
 wf:M.WWf w
 ol:w.ca.length=w.fT.cy.length
 old:∀ x∈w.ca,nX 240 x.fB
 new:nX 16 w.ct
 log:w.dB.length<=3000
structure M.NewW (w:World):Prop where
 d:M.DrW w
 net:w.br=[]
 lost:w.bC=0
 log:w.dB=[]
 c:zD w.fC=true
 s:ey w.fC.aB w.ct.length=true
 root:∀ n,w.fN[0]?=some n->n=⟨true,-1,0,gZ 1 w.ct w.fC.aB,lr (gZ 1 w.ct w.fC.aB) w.ct,6,[],0⟩
 node:∀ (j:Nat) (n:aG),j≠0->w.fN[j]?=some n->n=m8 w.fT j
 disk:∀ (j:Nat) (d:aC) (o:bp),w.fD[j]?=some d->w.ca[j]?=some o->d=⟨o.fB,[],⟨0,0,o.fB.length⟩,[]⟩
theorem YC{w:World}(h:M.DrW w):M.WCp w:=by
 have h0:=Cx h.wf;have h1:=h.wf.nl;have h2:=h.wf.dl;have h3:=h.wf.len;have h4:=h.ol;have h5:=h.log;have h6:=h.new.1;refine ⟨by omega,by omega,by omega,λx hx=>by have:=(h.old x hx).1; omega,by omega,λx hx=>?_,by omega,λx hx=>?_,by omega,λx hx=>(h.wf.net x hx).w,by omega⟩
 ·obtain ⟨j,hj⟩:=aai.1 hx;exact (h.wf.nodes j x hj).w
 ·obtain ⟨j,hj⟩:=aai.1 hx;exact (h.wf.disks j x hj).o
theorem RZ{t:c9}(ht:jf t=true){k:Nat}(h0:0 < k)(hk:k < t.cy.length):M.NodeIn t k (m8 t k):=by
 have hw:aq (k:Int) 1 ((t.cy.length:Int) - 1)=true:=by unfold aq; simp; omega
 unfold m8;simp only [ht,hw,zXK,if_true];refine ⟨⟨by simp,⟨by simp [av],by simp⟩,by simp,U9⟩,⟨by simp [dS],by simp [dS]⟩,λz hz=>by simp [dS] at hz,λ_=>?_⟩
 ·rw [r0,sX hk];have:=QE ht h0 (sX hk);unfold ft aq;simp;omega
theorem TO{u:Nat}(hu:1099511627776<=u)(t:c9){m:af}{b:List Int}(hm:M.DrMan m b)(hg:m.aH≠0)(ht:sa m b=true):pi u m b=some ⟨true,-1,0,m,lr m b,6,[],0⟩/\M.NodeIn t 0 ⟨true,-1,0,m,lr m b,6,[],0⟩:=by
 have h1:=hm.n;have h2:=hm.i.1;have mk:∀ n:aG,M.DrNode n->n.aZ=[]->M.NodeIn t 0 n:=λn hn hk=>⟨hn.w,by rw [hk]; exact ⟨by simp [dS],by simp [dS]⟩,λz hz=>by rw [hk] at hz; simp [dS] at hz,λh=>absurd rfl h⟩;refine ⟨?_,mk _ (W3 hm (JT (Ef hm.o hm.i.2 ar) h1) eH _ _ _ _ _) rfl⟩;have e0:(m.aH == 0)=false:=by simpa using hg
 unfold pi;rw [e0,gP hu m ar,hm.o];simp only [cond_false,wk,zQX,Fw hu m hm.i.2 (show b.length<=1048576 by omega),ht];unfold np;simp only [cond_false,zA u (show m.aI.length<=1048576 by omega),wk,Aw hu (show m.aI.length<=1048576 by omega) hm.i.2 (show b.length<=1048576 by omega)]
theorem YD{u:Nat}{b:List Int}(hb:nX 16 b)(g s:Int):M.DrMan (gZ g b s) b:=by
 have h1:=hb.1;refine ⟨hb,KK _ hb.2 _,JA _ _ _,N4 _ _ _ hb.2,?_⟩;unfold gZ
 split
 ·exact ⟨by simp,by simp; omega⟩
 ·simp
theorem TP{u:Nat}(hu:1099511627776<=u){c:iW}(hc:zD c=true){t:c9}(ht:Il t){b:List Int}(hb:nX 16 b){old:List bp}(ho:old.length=t.cy.length)(hol:∀ x∈old,nX 240 x.fB):Ev (rH u c t b old) M.NewW:=by
 have t1:=ht.2.1;have t2:=ht.2.2;have b1:=hb.1;have hs:ey c.aB (b.length:Int)=true:=by
  unfold zD at hc;simp only [sk] at hc;have:=bM hc.1.1.1;unfold ey;simp only [hc.1.1.1,zWz];unfold aq;simp;omega
 have hoo:Ik old (t.cy.length:Int)=true:=by
  unfold Ik;simp only [sk];refine ⟨aae.2 λx hx=>?_,by simp [ho]⟩;have:=(hol x hx).1;simp;omega
 have ht1:sa (gZ 1 b c.aB) b=true:=TL hs V0;have hg1:(gZ 1 b c.aB).aH≠0:=by rw [W5 hs V0]; show (1:Int)≠0; decide
 obtain ⟨hr1,hr2⟩:=TO hu t (YD (u:=u) hb 1 c.aB) hg1 ht1;have loop:∀ (m k i:Nat) (ns:List aG) (ds:List aC),i+m=t.cy.length->m < k->ns.length=i->ds.length=i ->
   (∀ (j:Nat) (n:aG),ns[j]?=some n->n=if j=0 then ⟨true,-1,0,gZ 1 b c.aB,lr (gZ 1 b c.aB) b,6,[],0⟩ else m8 t j)->(∀ (j:Nat) (d:aC),ds[j]?=some d->∃ o,old[j]?=some o/\d=⟨o.fB,[],⟨0,0,o.fB.length⟩,[]⟩) ->
   Ev (dE u k b old (i:Int) c t old ns ds) M.NewW:=by
  intro m
  induction m with
  | zero =>
   intro k i ns ds hi hk h1 h2 h3 h4;obtain ⟨k,rfl⟩:∃ j,k=j+1:=⟨k - 1,by omega⟩;unfold dE;have:¬ (i:Int) < (t.cy.length:Int):=by omega
   simp only [this,decide_false,cond_false,qF];refine cf ⟨⟨⟨ht.1,by show ns.length=t.cy.length; omega,by show ds.length=t.cy.length; omega,λj n hn=>?_,λj d hd=>?_,λp hp=>by simp at hp,by simp⟩,ho,hol,by simpa using hb,by simp⟩,rfl,rfl,rfl,hc,by simpa using hs,λn hn=>by simpa using h3 0 n hn,λj n h0 hn=>(h3 j n hn).trans (if_neg h0),λj d o hd ho'=>?_⟩
   ·have e:=h3 j n hn
    by_cases h0:j=0
    ·subst h0;rw [e,if_pos rfl];exact hr2
    ·rw [e,if_neg h0];exact RZ ht.1 ar (by have:=(aaa.1 hn).1; have:j < ns.length:=this; omega)
   ·obtain ⟨o,h5,h6⟩:=h4 j d hd;rw [h6];exact qaN (hol o (zQY h5))
   ·obtain ⟨o',h5,h6⟩:=h4 j d hd;have ho':old[j]?=some o:=ho';rw [h5] at ho'
    cases ho'
    exact h6
  | succ m ih =>
   intro k i ns ds hi hk h1 h2 h3 h4;obtain ⟨k,rfl⟩:∃ j,k=j+1:=⟨k - 1,by omega⟩;unfold dE;have hlt:(i:Int) < (t.cy.length:Int):=by omega
   simp only [hlt,decide_true,cond_true];have step:∀ n:aG,(n=if i=0 then ⟨true,-1,0,gZ 1 b c.aB,lr (gZ 1 b c.aB) b,6,[],0⟩ else m8 t i)->Ev (jh u (λz0 z1 z2 z3 z4 z5 z6 z7=>dE u k z0 z1 z2 z3 z4 z5 z6 z7) b old (i:Int) c t old ns ds n.ia n.bD n.bI n.ay.aH n.ay.aB n.ay.aT n.ay.aI n.bw.bl n.bw.cj n.bh n.aZ n.bg) M.NewW:=by
    intro n hn;unfold jh;obtain ⟨x,hx⟩:∃ x,old[i]?=some x:=⟨_,sX ar⟩;have hxl:=(hol x (zQY hx)).1;refine m7 eF (ip (fY old i hx) (ip (Od u (g:=0) V0 V0 hxl).1 (m7 eF ?_)));rw [dy (show i < 9223372036854775807 by omega)];refine ih k (i+1) _ _ ar ar (by simp [h1]) (by simp [h2]) (λj n' hj=>?_) (λj d' hj=>?_)
    ·by_cases hji:j < ns.length
     ·rw [zQW hji] at hj;exact h3 j n' hj
     ·rw [zQV ar] at hj
      cases hq:j - ns.length with
      | zero =>
       rw [hq] at hj;simp only [zWX,Option.some.injEq] at hj;have:j=i:=by omega
       subst this hj;exact hn
      | succ q=>rw [hq] at hj; simp at hj
    ·by_cases hji:j < ds.length
     ·rw [zQW hji] at hj;exact h4 j d' hj
     ·rw [zQV ar] at hj
      cases hq:j - ds.length with
      | zero =>
       rw [hq] at hj;simp only [zWX,Option.some.injEq] at hj;have:j=i:=by omega
       subst this;exact ⟨x,hx,hj.symm⟩
      | succ q=>rw [hq] at hj; simp at hj
   refine ip (BU hu ar _) ?_
   cases i with
   | zero =>
    refine b7 (λ_=>?_) (λe=>by simp at e);refine ip (r:=vB u _) (v:=gZ 1 b c.aB) ?_ (ip hr1 (step _ rfl));unfold vB;simp only [zQz];rw [AS hu hb.2 ar];rfl
   | succ i =>
    refine b7 (λe=>?_) (λ_=>step _ eH);simp at e;omega
 unfold rH;refine ip (OW u c) ?_;rw [hc];refine b7 (λe=>by cases e) λ_=>ip (zx hu ar) ?_;rw [ht.1];refine b7 (λe=>by cases e) λ_=>ip (qu u _ _) ?_;rw [hs];refine b7 (λe=>by cases e) λ_=>ip (L2 hu ar _) ?_;rw [hoo];unfold lu;refine b7 (λe=>by cases e) λ_=>m7 eF (m7 eF (ip (Az hu ar λx hx=>by have:=(hol x hx).1; omega) ?_));exact loop t.cy.length u 0 [] [] ar ar rfl rfl (λj n h=>by simp at h) (λj n h=>by simp at h)
theorem W6{u:Nat}(hu:1099511627776<=u){c:aJ}(hc:Cu c):Ev (wA u c) λv=>M.NewW v.1/\Cu v.2:=by
 unfold wA;refine bj (OX u hu hc) λr1 hr1=>bj (U8 hu hr1.2) λr2 hr2=>?_;have t1:=hr1.1.2.1;have t2:=hr1.1.2.2;have loop:∀ (m k i:Nat) (xs:List bp) (c:aJ),i+m=r1.1.cy.length->m < k->xs.length=i->(∀ x∈xs,nX 240 x.fB)->Cu c->Ev (iF u k r2 xs (i:Int) r1 c.fB c.fI c.fH) λv=>M.NewW v.1/\Cu v.2:=by
  intro m
  induction m with
  | zero =>
   intro k i xs c hi hk h1 h2 hc;obtain ⟨k,rfl⟩:∃ j,k=j+1:=⟨k - 1,by omega⟩;unfold iF;have:¬ (i:Int) < (r1.1.cy.length:Int):=by omega
   simp only [this,decide_false,cond_false,ui];exact bj (OZ u (Cy hc)) λq hq=>bj (TP hu hq.1 hr1.1 hr2.1 ar h2) λw hw=>cf ⟨hw,hq.2⟩
  | succ m ih =>
   intro k i xs c hi hk h1 h2 hc;obtain ⟨k,rfl⟩:∃ j,k=j+1:=⟨k - 1,by omega⟩;unfold iF;have hlt:(i:Int) < (r1.1.cy.length:Int):=by omega
   simp only [hlt,decide_true,cond_true];refine bj (qaM hu (Cy hc) (OY hr2.1 ar)) λq hq=>m7 eF ?_;rw [dy (show i < 9223372036854775807 by omega)];refine ih k (i+1) _ q.2 ar ar (by simp [h1]) (λx hx=>?_) hq.2;rcases aac.1 hx with hx | hx
   ·exact h2 x hx
   ·simp only [zXy,zZG,or_false] at hx;subst hx;exact hq.1
 exact loop r1.1.cy.length u 0 [] r2.2 ar ar rfl eH hr2.2
theorem Vb(u:Nat){c:aJ}(hc:Cu c){b:List Int}{N:Nat}(hN:N<=1000000)(hb:b.length<=N)(hB:av b):Dr (n7 u c b) (nX (N+1)):=by
 unfold n7;rw [bq eF];simp only [wk,zQz];have hlt:∀ {v:Int},0<=v->v < (b.length:Int)->∃ y,dm b v=some y:=λ{v} h0 h1=>by
  obtain ⟨i,rfl⟩:∃ i:Nat,v=(i:Int):=⟨v.toNat,by omega⟩;exact ⟨b[i]'ar,by rw [cO]; exact sX ar⟩
 have self:nX (N+1) b:=⟨by omega,hB⟩;refine cA (cJ u hc 6) λn c1 _ h1=>?_;simp only
 cases n == 0 with
 | true =>
  simp only [cond_true]
  by_cases hl:(b.length:Int) > 0
  ·simp only [hl,decide_true,cond_true];refine cA (cJ u h1 _) λv c2 hv h2=>?_;refine cA (cJ u h2 256) λw c3 _ h3=>?_;obtain ⟨y,hy⟩:=hlt hv.1 (hv.2 hl);simp only [hy,wk,cq];exact c8 ⟨by rw [zXJ]; omega,EC hB _ (WJ _)⟩ h3
  ·simp only [hl,decide_false,cond_false,cq];exact c8 self h1
 | false =>
  simp only [cond_false]
  cases n == 1 with
  | true =>
   simp only [cond_true];rw [dy ar];refine cA (cJ u h1 _) λv c2 hv h2=>?_;have h3:=hv.2 ar;have hs:cS 0 v (b.length:Int)=true:=by simp [cS]; omega
   simp only [hs,DH,wk,cq];exact c8 ⟨by rw [zYz,zWQ]; omega,Co (Cn hB _) _⟩ h2
  | false =>
   simp only [cond_false]
   cases n == 2 with
   | true =>
    simp only [cond_true];refine cA (o9 u h1 eH) λv c2 _ h2=>?_;rw [bq eF];simp only [wk,cq];exact c8 ⟨by rw [zQG,zXz]; omega,yz hB (JI _)⟩ h2
   | false =>
    simp only [cond_false]
    cases n == 3 with
    | true =>
     simp only [cond_true]
     by_cases hl:(b.length:Int) > 0
     ·simp only [hl,decide_true,cond_true];refine cA (cJ u h1 _) λv c2 hv h2=>?_;obtain ⟨y,hy⟩:=hlt hv.1 (hv.2 hl);simp only [hy,wk];refine cA (cJ u h2 8) λw c3 hw h3=>?_;have hw0:=hw.1;simp only [hy];rw [bq hw0];simp only [wk,cq];exact c8 ⟨by rw [zXJ]; omega,EC hB _ (by unfold QT; exact WJ _)⟩ h3
     ·simp only [hl,decide_false,cond_false,cq];exact c8 self h1
    | false =>
     simp only [cond_false,cq];exact c8 self h1
def L4(out:List ak):Prop:=∀ q∈out,q.fB.length<=1000
theorem VT:L4 []:=λq hq=>by simp at hq
theorem shP(me t:Int)(m:dW):(mh me t m).fB.length<=1000:=by
 have:=GB m;show (fc m).length<=1000;omega
theorem sh1{me t:Int}(m:dW):L4 [mh me t m]:=λq hq=>by
 simp only [zQy] at hq;subst hq; exact shP _ _ _
theorem R0{n:aG}{me f:Int}:L4 (gy n me f).n5:=λq hq=>by
 unfold gy at hq;simp only [zYK] at hq;obtain ⟨i,_,rfl⟩:=hq;exact shP _ _ _
theorem PS{n:aG}{me f:Int}(m:dW):L4 (eG n me f m).n5:=by
 unfold eG
 split
 ·exact VT
 ·split
  ·exact sh1 _
  ·split
   ·dsimp only
    split
    ·exact sh1 _
    ·exact R0
   ·exact sh1 _
theorem qaO{n:aG}{me i:Int}:∀ (l:List bS) (s:List bS×List ak),L4 s.2->L4 (l.foldl (fk n me i) s).2:=by
 intro l
 induction l with
 | nil=>intro s h; exact h
 | cons x l ih =>
  intro s h;refine ih _ λq hq=>?_;unfold fk at hq
  split at hq
  ·simp only [zWw,zQy] at hq;rcases hq with hq | rfl
   ·exact h q hq
   ·exact shP _ _ _
  ·exact h q hq
theorem Vc{n:aG}{me i:Int}:L4 (jx n me i).n5:=by
 unfold jx
 split
 ·exact qaO _ _ VT
 ·exact VT
theorem ZN{t:c9}{me:Int}{n:aG}(d:aC)(p:ak):L4 (M.take t me n d p).n5:=by
 unfold M.take
 split
 ·exact VT
 ·split
  ·split
   ·exact PS _
   ·split
    ·unfold jy
     split
     ·exact VT
     ·split
      ·unfold kS
       split
       ·exact VT
       ·split
        ·exact VT
        ·split
         ·exact Vc
         ·exact VT
      ·first | exact VT | (split <;> exact VT)
    ·exact VT
  ·exact VT
theorem ZO{t:c9}(c:iW){k:Int}{n:aG}(d:aC):L4 (M.tick t c k n d).n5:=by
 unfold M.tick
 split
 ·exact VT
 ·split
  ·exact VT
  ·split
   ·exact sh1 _
   ·exact sh1 _
def J4(x:aG):Prop:=(-9223372036854775808<=x.bD/\x.bD<=9223372036854775807)/\-9223372036854775808<=x.bg/\x.bg<=9223372036854775807
structure M.DrN (n:Nat) (w:World):Prop where
 d:M.DrW w
 len:∀ p∈w.br,p.fB.length<=1000+n
 l0:0<=w.bC
 l1:w.bC<=n*1048577
 rg:∀ x∈w.fN,J4 x
theorem rg0:-9223372036854775808<=(0:Int)/\(0:Int)<=9223372036854775807:=by decide
theorem rgm:-9223372036854775808<=(-1:Int)/\(-1:Int)<=9223372036854775807:=by decide
theorem J5{t:c9}(ht:t.cy.length<=7){z:Int}(h:ft t z):-9223372036854775808<=z/\z<=9223372036854775807:=by
 have:=bM h;omega
theorem ZP{w:World}(hw:M.NewW w):M.DrN 0 w:=by
 have h0:=hw.net;have h1:=hw.lost;have up:=Cx hw.d.wf;refine ⟨hw.d,λp hp=>by rw [h0] at hp; simp at hp,by omega,by omega,λx hx=>?_⟩;obtain ⟨j,hj⟩:=aai.1 hx
 by_cases e:j=0
 ·subst e;rw [hw.root x hj];exact ⟨rgm,rg0⟩
 ·have e1:=hw.node j x e hj;refine ⟨J5 up.2 ((hw.d.wf.nodes j x hj).b e),?_⟩;rw [e1];unfold m8
  split <;> exact rg0
theorem GC{n:Nat}{w:World}(h:M.DrN n w):M.DrN (n+1) w:=⟨h.d,λp hp=>by have:=h.len p hp; omega,h.l0,by have:=h.l1; omega,h.rg⟩
theorem Vd{N K:Nat}(hN:1000<=N):∀ (out:List ak) (s:List ak×List dZ×Int),L4 out->(∀ p∈s.1,p.fB.length<=N)->s.2.1.length<=3000->0<=s.2.2->s.2.2<=K->K+out.length<=4611686018427387904 ->
  (∀ p∈(out.foldl dp s).1,p.fB.length<=N)/\(out.foldl dp s).2.1.length<=3000/\0<=(out.foldl dp s).2.2/\(out.foldl dp s).2.2<=K+out.length:=by
 intro out
 induction out generalizing K with
 | nil=>intro s _ h1 h2 h3 h4 _; exact ⟨h1,h2,h3,by simpa using h4⟩
 | cons x out ih =>
  intro s hs h1 h2 h3 h4 h5;simp only [zQK] at h5;rw [zYw];have hx:=hs x eH;have hs':L4 out:=λq hq=>hs q T5
  by_cases hl:400<=s.1.length
  ·have e:dp s x=(s.1,s.2.1,aL .i64 s.2.2 1):=by unfold dp; rw [if_pos hl]
   rw [e,cN ar ar];obtain ⟨a,b,c,d⟩:=ih (K:=K+1) (s.1,s.2.1,s.2.2+1) hs' h1 h2 (by show 0<=s.2.2+1; omega) (by show s.2.2+1<=((K+1:Nat):Int); omega) ar;exact ⟨a,b,c,by simp only [zQK]; omega⟩
  ·have e:(dp s x).1=s.1++[x]/\(dp s x).2.2=s.2.2/\(dp s x).2.1.length<=3000:=by
    unfold dp;rw [if_neg hl];refine ⟨rfl,rfl,?_⟩;dsimp only
    split
    ·rename_i hc;simp only [sk,decide_eq_true_eq] at hc;simp only [zQG,zXz];omega
    ·exact h2
   obtain ⟨a,b,c,d⟩:=ih (K:=K) (dp s x) hs' (λp hp=>by
    rw [e.1] at hp;rcases aac.1 hp with hp | hp
    ·exact h1 p hp
    ·simp only [zQy] at hp;subst hp;omega) e.2.2 (by rw [e.2.1]; exact h3) (by rw [e.2.1]; exact h4) ar
   exact ⟨a,b,c,by simp only [zQK]; omega⟩
theorem TQ{n:Nat}{w:World}(hn:n<=1000)(h:M.DrN n w){out:List ak}(ho:∀ p∈out,M.PkIn w.fT p)(hs:L4 out)(hl:out.length<=1048576):M.DrN (n+1) (OP w out):=by
 have l1:=h.l1;obtain ⟨a,b,c,d⟩:=Vd (N:=1000+n) (K:=n*1048577) ar out (w.br,w.dB,w.bC) hs h.len h.d.log h.l0 (by show w.bC<=((n*1048577:Nat):Int); omega) ar;exact ⟨⟨Yv h.d.wf ho,h.d.ol,h.d.old,h.d.new,b⟩,λp hp=>by have:=a p hp; omega,c,by show (out.foldl dp (w.br,w.dB,w.bC)).2.2<=_; omega,h.rg⟩
theorem TR(s:Int):∀ (l:List dv) (i:Nat) (d:aC),(∀ p∈l,av p.fB)->M.DB d->M.DB (vk s l i d)
 | [],i,d,_,hd=>⟨hd.a,hd.b,by simp [vk]⟩
 | p :: l,i,d,h,hd=>by
  unfold vk;refine TR s l (i+1) _ (λq hq=>h q T5) ?_
  split
  ·exact QD hd (h p eH)
  ·exact hd
theorem ZQ{d:aC}(hd:M.DiskIn d)(s:Int):M.DiskIn (M.fall d s):=by
 refine ⟨Zt hd.o s,?_,?_⟩
 ·unfold M.fall
  split
  ·exact TR s _ _ _ (λp hp=>hd.b.p p hp) hd.b
  ·exact hd.b
 ·cases h:cP d with
  | true=>rw [X8 h]; simp
  | false=>unfold M.fall; rw [h]; exact hd.l
theorem Ve{l:List aG}(h:∀ x∈l,J4 x){k:Nat}{y:aG}(hy:J4 y):∀ x∈l.set k y,J4 x:=λx hx=>by
 rcases zXZ hx with hx | rfl
 ·exact h x hx
 ·exact hy
theorem TS{n:Nat}{w:World}(h:M.DrN n w){k:Nat}{x:aG}{d:aC}(hn:M.NodeIn w.fT k x)(hd:M.DiskIn d)(hr:J4 x):M.DrN n (wi w k x d):=⟨⟨TI h.d.wf hn hd,h.d.ol,h.d.old,h.d.new,h.d.log⟩,h.len,h.l0,h.l1,Ve h.rg hr⟩
theorem qae{n:Nat}{w:World}(h:M.DrN n w){k:Nat}{x:aG}(hn:M.NodeIn w.fT k x)(hr:J4 x):M.DrN n (OU w k x):=⟨⟨Yx h.d.wf hn,h.d.ol,h.d.old,h.d.new,h.d.log⟩,h.len,h.l0,h.l1,Ve h.rg hr⟩
theorem ZR(a b:Int):-9223372036854775808<=aL .i64 a b/\aL .i64 a b<=9223372036854775807:=by
 unfold aL;rw [IntKind.wrap_i64];omega
theorem ZS(a b:Int):-9223372036854775808<=cG .i64 a b/\cG .i64 a b<=9223372036854775807:=by
 unfold cG;rw [IntKind.wrap_i64];omega
def qb2(n x:aG):Prop:=x.bg=n.bg\/∃ z,x.bg=aL .i64 z 1
theorem ZT(t:c9)(me:Int)(n:aG)(d:aC)(p:ak):qb2 n (M.take t me n d p).fN:=by
 unfold M.take
 split
 ·exact .inl rfl
 split
 ·split
  ·unfold eG
   split
   ·exact .inl rfl
   dsimp only
   split
   ·exact .inl rfl
   split
   ·split <;> exact .inl rfl
   ·exact .inl rfl
  split
  ·unfold jy
   split
   ·unfold nZ
    split
    ·split <;> exact .inl rfl
    split
    ·exact .inl rfl
    ·exact .inr ⟨_,rfl⟩
   split
   ·unfold kS
    split
    ·exact .inr ⟨_,rfl⟩
    split
    ·exact .inl rfl
    split
    ·unfold jx
     split <;> exact .inl rfl
    ·exact .inr ⟨_,rfl⟩
   first
    | exact .inl rfl
    | (split <;> first | exact .inl rfl | exact .inr ⟨_,rfl⟩)
  ·exact .inr ⟨_,rfl⟩
 ·exact .inr ⟨_,rfl⟩
theorem ZU{t:c9}{me:Int}{n:aG}(h:J4 n)(d:aC)(p:ak):J4 (M.take t me n d p).fN:=by
 unfold J4;rw [QF];refine ⟨h.1,?_⟩;rcases ZT t me n d p with e | ⟨z,e⟩
 ·rw [e]; exact h.2
 ·rw [e]; exact ZR _ _
theorem ZV{t:c9}(ht:jf t=true)(h7:t.cy.length<=7)(c:iW){k:Nat}(hk:k < t.cy.length){n:aG}(hb:k≠0->ft t n.bD)(h:J4 n)(d:aC):J4 (M.tick t c k n d).fN:=by
 have e:(M.tick t c k n d).fN.bg=n.bg:=by
  unfold M.tick wh
  split
  ·rfl
  split
  ·rfl
  split <;> rfl
 refine ⟨?_,by rw [e]; exact h.2⟩
 by_cases h0:k=0
 ·subst h0;have:(M.tick t c (0:Nat) n d).fN.bD=n.bD:=by
   unfold M.tick
   split
   ·rfl
   ·rw [if_pos (show ((0:Nat):Int)=0 from rfl)]; rfl
  rw [this];exact h.1
 ·exact J5 h7 ((VO ht c hk hb d).2 h0)
theorem PT{n:Nat}{w:World}(hn:n<=1000)(h:M.DrN n w){k:Nat}(hk:k < w.fT.cy.length):M.DrN (n+1) (xi w k):=by
 unfold xi
 split
 ·rename_i x d hx hd;have g:=VP h.d.wf.t w.fC hk (h.d.wf.nodes k x hx) (h.d.wf.disks k d hd);have up:=Cx h.d.wf;exact TQ hn (TS h g.1 g.2.1 (ZV h.d.wf.t up.2 w.fC hk (h.d.wf.nodes k x hx).b (h.rg x (zQY hx)) d)) g.2.2.1 (ZO _ _) g.2.2.2
 ·exact GC h
theorem YE{n:Nat}{w:World}(h:M.DrN n w)(k:Nat):M.DrN n (J3 w k):=by
 refine ⟨⟨Yw h.d.wf k,h.d.ol,h.d.old,h.d.new,h.d.log⟩,λp hp=>?_,h.l0,h.l1,h.rg⟩;rcases aac.1 hp with hp | hp
 ·exact h.len p (zWJ hp)
 ·exact h.len p (zXV hp)
theorem PU{n:Nat}{w:World}(hn:n<=1000)(h:M.DrN n w)(k:Nat):M.DrN (n+1) (xj w k):=by
 unfold xj
 split
 ·rename_i p hp;have hpi:=h.d.wf.net p (zQY hp);obtain ⟨j,e,hj⟩:=OT hpi.t;have hpl:=YE h k;unfold OV
  split
  ·rename_i x d hx hd;rw [e,r0] at hx hd ⊢;have g:=VQ (p:=p) hj (hpl.d.wf.nodes j x hx) (hpl.d.wf.disks j d hd) hpi;exact TQ hn (qae hpl g.1 (ZU (h.rg x (zQY hx)) d p)) g.2.1 (ZN _ _) g.2.2
  ·exact GC hpl
 ·exact GC h
theorem YF{n:Nat}{w:World}(h:M.DrN n w)(hl:w.br.length < 400){p:ak}(hp:M.PkIn w.fT p)(hb:p.fB.length<=1000+(n+1)):M.DrN (n+1) ⟨w.fC,w.fT,w.ct,w.ca,w.fN,w.fD,w.br++[p],w.dB,w.bC⟩:=by
 refine ⟨⟨⟨h.d.wf.t,h.d.wf.nl,h.d.wf.dl,h.d.wf.nodes,h.d.wf.disks,λq hq=>?_,by simp; omega⟩,h.d.ol,h.d.old,h.d.new,h.d.log⟩,λq hq=>?_,h.l0,by have:=h.l1; show w.bC<=_; omega,h.rg⟩
 ·rcases aac.1 hq with hq | hq
  ·exact h.d.wf.net q hq
  ·simp only [zQy] at hq;subst hq;exact hp
 ·rcases aac.1 hq with hq | hq
  ·have:=h.len q hq;omega
  ·simp only [zQy] at hq;subst hq;exact hb
theorem qz{z:Int}{m:Nat}(h:aq z 0 ((m:Int) - 1)=true):∃ j:Nat,z=j/\j < m:=by
 have:=bM h;exact ⟨z.toNat,by omega,by omega⟩
def oM:aG:=⟨false,0,0,⟨0,0,0,[]⟩,⟨0,[]⟩,0,[],0⟩
inductive M.Step (w:World) (e:cK):World->Prop
 | no:M.Step w e w
 | tick (j:Nat) (hj:j < w.fT.cy.length):M.Step w e (xi w j)
 | take (j:Nat) (hj:j < w.br.length):M.Step w e (xj w j)
 | lose (l:List ak) (hs:∀ p∈l,p∈w.br) (hl:l.length<=w.br.length):M.Step w e ⟨w.fC,w.fT,w.ct,w.ca,w.fN,w.fD,l,w.dB,w.bC+1⟩
 | push (p:ak) (hl:w.br.length < 400) (hi:M.PkIn w.fT p) (hf:(∃ q∈w.br,q.fB=p.fB)\/e.ba=7/\p.fB=e.fP.fB):M.Step w e ⟨w.fC,w.fT,w.ct,w.ca,w.fN,w.fD,w.br++[p],w.dB,w.bC⟩
 | fall (j:Nat) (d:aC) (hj:j < w.fT.cy.length) (h0:j≠0) (hd:w.fD[j]?=some d) (s:Int):M.Step w e (wi w j oM (M.fall d s))
 | rise (j:Nat) (n:aG) (hj:j < w.fT.cy.length) (h0:0 < j) (hn:w.fN[j]?=some n) (ho:n.ia=false):M.Step w e (OU w j (m8 w.fT j))
theorem ZW{u:Nat}(hu:1099511627776<=u){w:World}(h:M.WWf w)(l0:0<=w.bC)(l1:w.bC<=1099511627776){e:cK}(hb:av e.fP.fB)(hl:e.fP.fB.length<=1048576):Ev (tE u w e) λv=>M.Step w e v.2:=by
 have up:=Cx h;have nl:=h.nl;have dl:=h.dl;have pl:=h.len;have get:∀ {j:Nat},j < w.fT.cy.length->∃ x d,w.fN[j]?=some x/\w.fD[j]?=some d:=λ{j} hj=>⟨_,_,sX ar,sX ar⟩;have none_:Ev (some (false,w)) λv=>M.Step w e v.2:=cf .no;unfold tE;rw [cm ar ar,cm ar ar];refine ip (bG u e.fN 0 _) (ip (bG u e.fN 0 _) ?_);refine b7 (λ_=>b7 (λe1=>?_) (λ_=>?_)) (λ_=>?_)
 ·obtain ⟨j,ej,hj⟩:=qz e1;rw [ej];refine ip (L0 hu h ar) ?_;unfold rY;exact cf (.tick j ar)
 ·unfold rY;exact cf .no
 refine b7 (λ_=>b7 (λe1=>?_) (λ_=>?_)) (λ_=>?_)
 ·obtain ⟨j,ej,hj⟩:=qz e1;rw [ej];refine ip (L1 hu h hj) ?_;unfold rZ;exact cf (.take j hj)
 ·unfold rZ;exact cf .no
 refine b7 (λ_=>b7 (λe1=>?_) (λ_=>?_)) (λ_=>?_)
 ·obtain ⟨j,ej,hj⟩:=qz e1;rw [ej];rw [dy (show j < 9223372036854775807 by omega),cN (show -9223372036854775808<=w.bC+1 by omega) (show w.bC+1<=9223372036854775807 by omega)];refine m7 (by simp [cS]; omega) (m7 eF (m7 (by simp [cS]; omega) (m7 eF ?_)));unfold se;refine cf (.lose _ (λp hp=>?_) ?_)
  ·simp only [zQz,zWw] at hp;rcases hp with hp | hp
   ·exact zWJ (zXV hp)
   ·exact zWJ (zXV hp)
  ·simp;omega
 ·unfold se;exact cf .no
 refine b7 (λ_=>?_) (λ_=>?_)
 ·have j4:∀ x:Bool,(x=false->w.br.length < 400/\aq e.fN 0 ((w.br.length:Int) - 1)=true)->Ev (m2 u x e w) λv=>M.Step w e v.2:=by
   intro x hx;unfold m2;refine b7 (λ_=>none_) (λe2=>?_);obtain ⟨a1,a2⟩:=hx e2;obtain ⟨j,ej,hj⟩:=qz a2;rw [ej];have hp:=sX hj;have hpi:=h.net _ (zQY hp);have hpb:=hpi.w.2;refine ip (fY _ j hp) (m7 eF (m7 eF (cf ?_)));exact .push _ a1 ⟨by simpa [zB] using hpi.w,hpi.f,hpi.t⟩ (.inl ⟨_,zQY hp,by simp⟩)
  refine b7 (λ_=>j4 _ (λe=>by cases e)) (λe1=>j4 _ λe2=>⟨?_,by simpa using e1⟩);simp at e2;omega
 refine b7 (λ_=>?_) (λ_=>?_)
 ·have j5:∀ x:Bool,(x=false->aq e.fN 0 ((w.fN.length:Int) - 1)=true/\e.fN≠0)->Ev (la u x e w) λv=>M.Step w e v.2:=by
   intro x hx;unfold la;refine b7 (λ_=>none_) (λe2=>?_);obtain ⟨j,ej,hj⟩:=qz (hx e2).1;have h0:j≠0:=by have:=(hx e2).2; omega
   rw [ej];obtain ⟨y,d,hy,hd⟩:=get (j:=j) ar;refine ip (fY _ j hy) (ip rfl (ip (fY _ j hy) (ip (fY _ j hd) (ip (r:=Be u d e.fS) (v:=M.fall d e.fS) ?_ (ip (fY _ j hd) (cf ?_))))))
   ·unfold Be;rw [Ru hu (h.disks j d hd).o];rfl
   ·rw [r0];exact .fall j d ar h0 hd _
  refine b7 (λ_=>j5 _ (λe=>by cases e)) (λe1=>b7 (λ_=>j5 _ (λe=>by cases e)) (λe0=>?_));have e1:aq e.fN 0 ((w.fN.length:Int) - 1)=true:=by simpa using e1
  obtain ⟨j,ej,hj⟩:=qz e1;obtain ⟨y,d,hy,hd⟩:=get (j:=j) ar;rw [show dm w.fN e.fN=some y by rw [ej]; exact fY _ j hy];exact j5 _ λ_=>⟨e1,by simpa using e0⟩
 refine b7 (λ_=>?_) (λ_=>?_)
 ·have j6:∀ x:Bool,(x=false->aq e.fN 0 ((w.fN.length:Int) - 1)=true/\e.fN≠0/\∀ y,dm w.fN e.fN=some y->y.ia=false)->Ev (lc u x e w) λv=>M.Step w e v.2:=by
   intro x hx;unfold lc;refine b7 (λ_=>none_) (λe2=>?_);obtain ⟨j,ej,hj⟩:=qz (hx e2).1;have h0:0 < j:=by have:=(hx e2).2.1; omega
   have hon:=(hx e2).2.2;rw [ej] at hon ⊢;obtain ⟨y,d,hy,hd⟩:=get (j:=j) ar;refine ip (BU hu ar _) (ip (fY _ j hy) (cf ?_));rw [r0];exact .rise j y ar h0 hy (hon y (fY _ j hy))
  refine b7 (λ_=>j6 _ (λe=>by cases e)) (λe1=>b7 (λ_=>j6 _ (λe=>by cases e)) (λe0=>?_));have e1:aq e.fN 0 ((w.fN.length:Int) - 1)=true:=by simpa using e1
  obtain ⟨j,ej,hj⟩:=qz e1;obtain ⟨y,d,hy,hd⟩:=get (j:=j) ar;have hi:dm w.fN e.fN=some y:=by rw [ej]; exact fY _ j hy
  rw [hi];exact j6 _ λe2=>⟨e1,by simpa using e0,λz hz=>by rw [hi] at hz; cases hz; exact e2⟩
 refine b7 (λe7=>?_) (λ_=>none_);have j7:∀ x:Bool,(x=false->w.br.length < 400/\aq e.fP.cQ 0 ((w.fN.length:Int) - 1)=true/\aq e.fP.rB 0 ((w.fN.length:Int) - 1)=true)->Ev (m3 u x e w) λv=>M.Step w e v.2:=by
  intro x hx;unfold m3;refine b7 (λ_=>none_) (λe2=>?_);obtain ⟨a1,a2,a3⟩:=hx e2;refine m7 eF (m7 eF (cf ?_));rw [nl] at a2 a3;exact .push _ a1 ⟨⟨by simpa using hb,by simp; omega⟩,a2,a3⟩ (.inr ⟨by simpa using e7,by simp⟩)
 have nodes:rX u w e.fP=some (aq e.fP.cQ 0 ((w.fN.length:Int) - 1) && aq e.fP.rB 0 ((w.fN.length:Int) - 1)):=by
  unfold rX;rw [cm ar ar,bG,bG];simp only [wk]
  cases aq e.fP.cQ 0 ((w.fN.length:Int) - 1) <;> rfl
 refine ip nodes (b7 (λ_=>j7 _ (λe=>by cases e)) (λe1=>j7 _ λe2=>?_));simp only [Bool.not_eq_false',sk] at e1;simp at e2;exact ⟨by omega,e1.1,e1.2⟩
theorem YG{n:Nat}(hn:n<=1000){w w':World}(h:M.DrN n w){e:cK}(hl:e.fP.fB.length<=1000+(n+1))(hs:M.Step w e w'):M.DrN (n+1) w':=by
 have up:=Cx h.d.wf;have nl:=h.d.wf.nl;have dl:=h.d.wf.dl;have pl:=h.d.wf.len
 cases hs with
 | no=>exact GC h
 | tick j hj=>exact PT hn h hj
 | take j hj=>exact PU hn h j
 | lose l hs hl =>
  have l1:=h.l1;have l0:=h.l0;exact ⟨⟨⟨h.d.wf.t,nl,dl,h.d.wf.nodes,h.d.wf.disks,λp hp=>h.d.wf.net p (hs p hp),zWH hl pl⟩,h.d.ol,h.d.old,h.d.new,h.d.log⟩,λp hp=>by have:=h.len p (hs p hp); omega,by show 0<=w.bC+1; omega,by show w.bC+1<=_; omega,h.rg⟩
 | push p hl' hi hf =>
  refine YF h hl' hi ?_;rcases hf with ⟨q,hq,he⟩ | ⟨_,he⟩
  ·have:=h.len q hq;rw [<- he]; omega
  ·rw [he]; exact hl
 | fall j d hj h0 hd s =>
  exact GC (TS h ⟨⟨by simp [oM],⟨by simp [oM,av],by simp [oM]⟩,by simp [oM],U9⟩,⟨by simp [dS,oM],by simp [dS,oM]⟩,λz hz=>by simp [dS,oM] at hz,λ_=>by unfold ft aq oM; simp; omega⟩ (ZQ (h.d.wf.disks j d hd) _) ⟨rg0,rg0⟩)
 | rise j n hj h0 hn ho =>
  refine GC (qae h (RZ h.d.wf.t h0 hj) ⟨J5 up.2 ((RZ h.d.wf.t h0 hj).b ar),?_⟩);unfold m8
  split <;> exact rg0
theorem O0{u:Nat}(hu:1099511627776<=u){c:aJ}(hc:Cu c):Ev (qG u c) λv=>M.MsgWf v.1/\Cu v.2:=by
 unfold qG;refine bj (cI u hc _) λr hr=>b7 (λ_=>?_) (λ_=>b7 (λ_=>?_) (λ_=>b7 (λ_=>?_) (λ_=>?_)))
 ·exact bj (W1 hu hr.2) λq hq=>cf ⟨⟨by have:=hq.1.n; show q.1.aI.length<=_; omega,hq.1.w,by simp [av],by simp⟩,hq.2⟩
 ·exact bj (TM u hr.2) λa ha=>bj (cI u ha _) λb hb=>bj (cI u hb.2 _) λd hd=>ip rfl (cf ⟨Gz _ _ _,hd.2⟩)
 ·refine bj (FD (xd hu hr.2 (n:=5) ar)) λa ha=>m7 (by have:=ha.1.1; simp; omega) (bj (cI u ha.2 _) λb hb=>bj (cI u hb.2 _) λd hd=>?_);have h1:=ha.1.1;refine ip (xK u _ _ eF) (cf ⟨Cw _ _ ?_ eF,hd.2⟩);intro x hx;rcases aac.1 hx with hx | hx
  ·simp only [zXy,zZG,or_false] at hx;subst hx;omega
  ·exact ha.1.2 x hx
 ·exact bj (cI u hr.2 _) λb hb=>cf ⟨⟨by simp,U9,by simp [av],by simp⟩,hb.2⟩
theorem Vf{u:Nat}(hu:1099511627776<=u){c:aJ}(hc:Cu c){n:Nat}(hn:n<=100):Ev (yb u c n) λv=>nX n v.1/\Cu v.2:=by
 have loop:∀ (m k i:Nat) (xs:List Int) (c:aJ),i+m=n->m < k->xs.length=i->av xs->Cu c->Ev (gS u k n xs (i:Int) c.fB c.fI c.fH) λv=>nX n v.1/\Cu v.2:=by
  intro m
  induction m with
  | zero =>
   intro k i xs c hi hk h1 h2 hc;obtain ⟨k,rfl⟩:∃ j,k=j+1:=⟨k - 1,by omega⟩;unfold gS;have:¬ (i:Int) < (n:Int):=by omega
   simp only [this,decide_false,cond_false,sS];exact cf ⟨⟨by show xs.length<=n; omega,h2⟩,hc⟩
  | succ m ih =>
   intro k i xs c hi hk h1 h2 hc;obtain ⟨k,rfl⟩:∃ j,k=j+1:=⟨k - 1,by omega⟩;unfold gS;have hlt:(i:Int) < (n:Int):=by omega
   simp only [hlt,decide_true,cond_true];refine bj (FD (BJ u (Cy hc))) λq hq=>m7 eF ?_;rw [dy (show i < 9223372036854775807 by omega)];refine ih k (i+1) _ q.2 ar ar (by simp [h1]) ?_ hq.2;intro x hx;rcases aac.1 hx with hx | hx
   ·exact h2 x hx
   ·simp only [zXy,zZG,or_false] at hx;subst hx;exact WJ _
 exact loop n u 0 [] c ar ar rfl (by simp [av]) hc
def J6(w:World)(b:List Int):Prop:=(dO b).2=false\/(dO b).1.ba=4\/(dO b).1.ba=3\/∃ q∈w.br,q.fB=b
theorem KL{u:Nat}(hu:1099511627776<=u){w:World}(hw:M.WWf w){e:cK}(hb:av e.fP.fB)(hn:e.fP.fB.length<=1048576):Ev (pk u w e) λr=>r=true->e.ba=7->J6 w e.fP.fB:=by
 have hl:=hw.len;unfold pk;have j1:∀ x:Bool,(x=true->J6 w e.fP.fB)->Ev (lv u x w e) λr=>r=true->e.ba=7->J6 w e.fP.fB:=by
  intro x hx;unfold lv;refine b7 (λe1=>cf λ_ _=>hx e1) (λ_=>Yy (Gl hu ar e) λh _=>?_);obtain ⟨q,hq,e2⟩:=List.any_eq_true.1 h;rw [Cp (hw.net q hq).w.1 hb] at e2;exact .inr (.inr (.inr ⟨q,hq,of_decide_eq_true e2⟩))
 refine b7 (λe1=>cf λ_ e2=>by simp [e2] at e1) (λ_=>ip (vp hu hb hn) (b7 (λe1=>j1 _ λ_=>.inl (by simpa using e1)) (λ_=>b7 (λe1=>j1 _ λ_=>.inr (.inl (by simpa using e1))) (λ_=>j1 _ λe1=>.inr (.inr (.inl (by simpa using e1)))))))
def Im(n:Nat)(w:World)(e:cK):Prop:=(av e.fP.fB/\e.fP.fB.length<=1000+(n+1))/\(e.ba=7->J6 w e.fP.fB)
theorem TT(w:World):J6 w []:=.inl rfl
theorem TU{u:Nat}(hu:1099511627776<=u){n:Nat}(hn:n<=1000){w:World}(h:M.DrN n w){c:aJ}(hc:Cu c):Ev (rL u c w) λv=>Im n w v.1/\Cu v.2:=by
 have pl:=h.d.wf.len;unfold rL;refine bj (cI u hc _) λr1 h1=>bj (cI u h1.2 _) λr2 h2=>bj (O0 hu h2.2) λr3 h3=>ip (Eg hu h3.1) ?_;have pb:=yn h3.1;have pn:=GB r3.1;have j3:∀ (b:List Int) (c:aJ),nX (1000+(n+1)) b->J6 w b->Cu c->Ev (qK u c.fB c.fI c.fH r1 r2 b) λv=>Im n w v.1/\Cu v.2:=λb c hb hm hc=>cf ⟨⟨⟨hb.2,hb.1⟩,λ_=>hm⟩,hc⟩;have nil_:nX (1000+(n+1)) ([]:List Int):=⟨by simp,by simp [av]⟩;have j2:∀ (b:List Int) (c:aJ),nX (1000+(n+1)) b->Cu c->Ev (nv u r1 r2 b w c.fB c.fI c.fH) λv=>Im n w v.1/\Cu v.2:=λb c hb hc=>by
  have:=hb.1;unfold nv;exact bj (KL hu h.d.wf (e:=cK.mk 7 0 0 (ak.mk r1.1 r2.1 b)) hb.2 (by show b.length<=_; omega)) λq hq=>b7 (λ_=>j3 _ _ nil_ (TT w) hc) (λe=>j3 _ _ hb (hq (by simpa using e) rfl) hc)
 have j1:∀ (b:List Int) (c:aJ),nX (1000+(n+1)) b->Cu c->Ev (nw u r1 r2 b w c.fB c.fI c.fH) λv=>Im n w v.1/\Cu v.2:=λb c hb hc=>by
  have:=hb.1;unfold nw;exact bj (KL hu h.d.wf (e:=cK.mk 7 0 0 (ak.mk r1.1 r2.1 b)) hb.2 (by show b.length<=_; omega)) λq _=>b7 (λ_=>bj (Vf hu (Cy hc) (n:=3) ar) λx hx=>j2 _ _ (OY hx.1 ar) hx.2) (λ_=>j2 _ _ hb hc)
 have j4:∀ (x:Bool) (c:aJ),(x=true->0 < w.br.length)->Cu c->Ev (nx u x r1 r2 (fc r3.1) w c.fB c.fI c.fH) λv=>Im n w v.1/\Cu v.2:=λx c hx hc=>by
  unfold nx;refine b7 (λe=>?_) (λ_=>j1 _ _ ⟨by omega,pb⟩ hc);have h0:=hx e;refine bj (cI u (Cy hc) _) λq hq=>?_;have hq1:=hq.1.2 ar;have hq0:=hq.1.1;obtain ⟨j,ej,hj⟩:∃ j:Nat,q.1=j/\j < w.br.length:=⟨q.1.toNat,by omega,by omega⟩;rw [ej];have hp:=sX hj;have hpi:=h.d.wf.net _ (zQY hp);have hpl:=h.len _ (zQY hp);exact ip (fY _ j hp) (bj (FD (Vb u hq.2 (N:=1000+n) ar hpl hpi.w.1)) λz hz=>j1 _ _ (OY hz.1 ar) hz.2)
 refine b7 (λe=>bj (EM u h3.2 2) λq hq=>j4 _ _ (λ_=>by simp at e; omega) hq) (λ_=>j4 _ _ (λe=>by cases e) h3.2)
theorem Vg{u:Nat}(hu:1099511627776<=u){n:Nat}(hn:n<=1000){w:World}(h:M.DrN n w){c:aJ}(hc:Cu c):Ev (uq u c w) λv=>Im n w v.1/\Cu v.2:=by
 have nil_:∀ a b s,Im n w (cK.mk a b s (ak.mk 0 0 [])):=λa b s=>⟨⟨by simp [av],by simp⟩,λ_=>TT w⟩;unfold uq;refine bj (cI u hc _) λr1 h1=>bj (cI u h1.2 _) λr2 h2=>b7 (λ_=>bj (zE u h2.2 eH) λq hq=>cf ⟨nil_ _ _ _,hq.2⟩) (λ_=>b7 (λ_=>cf ⟨nil_ _ _ _,h2.2⟩) (λ_=>b7 (λ_=>bj (TU hu hn h h2.2) λq hq=>cf hq) (λ_=>?_)));have j1:∀ (x:Bool) (c:aJ),Cu c->Ev (oU u r1 x w c.fB c.fI c.fH) λv=>Im n w v.1/\Cu v.2:=λx c hc=>by
  unfold oU;refine b7 (λ_=>ip (Fl u _ _) (bj (cI u (Cy hc) _) λa ha=>bj (cI u ha.2 _) λb hb=>b7 (λ_=>cf ⟨nil_ _ _ _,hb.2⟩) (λ_=>b7 (λ_=>cf ⟨nil_ _ _ _,hb.2⟩) (λ_=>cf ⟨nil_ _ _ _,hb.2⟩)))) (λ_=>cf ⟨nil_ _ _ _,hc⟩)
 exact b7 (λ_=>bj (EM u h2.2 3) λq hq=>j1 _ _ hq) (λ_=>j1 _ _ h2.2)
structure M.Inv (I:Nat->World->Prop):Prop where
 d:∀ n w,I n w->M.DrN n w
 new:∀ w,M.NewW w->I 0 w
 step:∀ n w e w',n<=1000->I n w->Im n w e->M.Step w e w'->I (n+1) w'
theorem ZX:M.Inv M.DrN:=⟨λ_ _ h=>h,λw h=>ZP h,λn w e w' hn h hb hs=>YG hn h hb.1.2 hs⟩
theorem R4{I:Nat->World->Prop}(hI:M.Inv I){u:Nat}(hu:1099511627776<=u){r1:World×aJ}:∀ (m k:Nat) (l:List cK) (b:Int) (c:aJ) (w:World),l.length+m=400->m < k->I l.length w->Cu c ->
  Ev (dJ u k l b c.fB c.fI c.fH w.fC.aB w.fC.bc w.fC.aU w.fC.aY w.fT.cy w.ct w.ca w.fN w.fD w.br w.dB w.bC r1) λv=>(∃ n,n<=400/\I n v.2.2.1)/\Cu v.2.2.2:=by
 intro m
 induction m with
 | zero =>
  intro k l b c w hl hk h hc;obtain ⟨k,rfl⟩:∃ j,k=j+1:=⟨k - 1,by omega⟩;unfold dJ;have j3:∀ x:Bool,x=false->Ev (iI u (λz0 z1 z2 z3 z4 z5 z6 z7 z8 z9 z10 z11 z12 z13 z14 z15 z16 z17=>dJ u k z0 z1 z2 z3 z4 z5 z6 z7 z8 z9 z10 z11 z12 z13 z14 z15 z16 z17) l b x c.fB c.fI c.fH w.fC.aB w.fC.bc w.fC.aU w.fC.aY w.fT.cy w.ct w.ca w.fN w.fD w.br w.dB w.bC r1) λv=>(∃ n,n<=400/\I n v.2.2.1)/\Cu v.2.2.2:=by
   intro x hx;unfold iI uE;exact b7 (λe=>by rw [hx] at e; cases e) (λ_=>cf ⟨⟨l.length,by omega,h⟩,hc⟩)
  exact b7 (λ_=>j3 _ eF) (λ_=>j3 _ rfl)
 | succ m ih =>
  intro k l b c w hl hk h hc;obtain ⟨k,rfl⟩:∃ j,k=j+1:=⟨k - 1,by omega⟩;unfold dJ;have j3:∀ x:Bool,Ev (iI u (λz0 z1 z2 z3 z4 z5 z6 z7 z8 z9 z10 z11 z12 z13 z14 z15 z16 z17=>dJ u k z0 z1 z2 z3 z4 z5 z6 z7 z8 z9 z10 z11 z12 z13 z14 z15 z16 z17) l b x c.fB c.fI c.fH w.fC.aB w.fC.bc w.fC.aU w.fC.aY w.fT.cy w.ct w.ca w.fN w.fD w.br w.dB w.bC r1) λv=>(∃ n,n<=400/\I n v.2.2.1)/\Cu v.2.2.2:=by
   intro x;unfold iI uE;refine b7 (λe=>?_) (λ_=>cf ⟨⟨l.length,by omega,h⟩,hc⟩);have hd:=hI.d _ _ h;have l1:=hd.l1;refine bj (Vg hu ar (w:=w) hd (Cy hc)) λq hq=>m7 eF (bj (ZW hu (w:=w) hd.d.wf hd.l0 ar (e:=q.1) hq.1.1.1 (by have:=hq.1.1.2; omega)) λv hv=>?_);exact ih k (l++[q.1]) _ q.2 v.2 eF ar (by simpa using hI.step _ _ _ _ ar h hq.1 hv) hq.2
  exact b7 (λ_=>j3 _) (λ_=>j3 _)
theorem W7{I:Nat->World->Prop}(hI:M.Inv I){u:Nat}(hu:1099511627776<=u){c:aJ}(hc:Cu c)(n:Int):Ev (wI u c n) λv=>(∃ n,n<=400/\I n v.2.2.1)/\Cu v.2.2.2:=by
 unfold wI;refine bj (W6 hu hc) λr1 h1=>ip (L3 hu (YC h1.1.d)) (bj (cI u h1.2 _) λr3 h3=>?_);exact R4 hI hu 400 u [] _ r3.2 r1.1 eH ar (hI.new _ h1.1) h3.2
theorem R5{I:Nat->World->Prop}(hI:M.Inv I){u:Nat}(hu:1099511627776<=u){c:aJ}(hc:Cu c)(n:Int):Ev (pr u c n) λv=>(∃ n,n<=400/\I n v.1)/\Cu v.2:=by
 unfold pr;exact bj (W7 hI hu hc n) λr hr=>cf hr
theorem TV{u:Nat}(hu:1099511627776<=u){c:aJ}(hc:Cu c)(n:Int):Ev (pr u c n) λv=>M.DrN 400 v.1/\Cu v.2:=by
 have up:∀ (j n:Nat) {w:World},n+j=400->M.DrN n w->M.DrN 400 w:=λj=>by
  induction j with
  | zero=>intro n w h hd; exact (show n=400 by omega) ▸ hd
  | succ j ih=>intro n w h hd; exact ih (n+1) ar (GC hd)
 exact VS (R5 ZX hu hc n) λv hv=>by
  obtain ⟨⟨m,hm,h⟩,hc⟩:=hv;exact ⟨up (400 - m) m ar h,hc⟩
structure M.AnyW (w:World):Prop where
 cp:M.WCp w
 t:w.fT.cy.length<=7
 nl:w.fN.length<=7
 dl:w.fD.length<=7
 ol:w.ca.length<=7
 pl:w.br.length<=401
 ll:w.dB.length<=3000
 l0:-1<=w.bC
 l1:w.bC<=419430800
 nb:av w.ct
 ob:∀ x∈w.ca,av x.fB
 nk:WG w.fN
 rg:∀ x∈w.fN,J4 x
 pe:∀ p∈w.br,(-1<=p.cQ/\p.cQ<=7)/\-1<=p.rB/\p.rB<=7
theorem ZY{w:World}(h:M.DrN 400 w):M.AnyW w:=by
 have up:=Cx h.d.wf;have:=h.d.wf.nl;have:=h.d.wf.dl;have:=h.d.ol;have:=h.d.wf.len;have:=h.l0;have:=h.l1;exact ⟨YC h.d,by omega,by omega,by omega,by omega,by omega,h.d.log,by omega,by omega,h.d.new.2,λx hx=>(h.d.old x hx).2,λx hx=>by
  obtain ⟨j,hj⟩:=aai.1 hx;exact ⟨(h.d.wf.nodes j x hj).w.s,Ay (h.d.wf.nodes j x hj)⟩,h.rg,λp hp=>by
  have:=bM (h.d.wf.net p hp).f;have:=bM (h.d.wf.net p hp).t;omega⟩
theorem Io{w:World}(h:M.AnyW w){x:aG}(hx:M.NodWf x)(hk:x.aZ.length<=1048576)(hr:J4 x)(k:Nat):M.AnyW ⟨w.fC,w.fT,w.ct,w.ca,w.fN.set k x,w.fD,w.br,w.dB,w.bC⟩ :=
 ⟨⟨h.cp.t,h.cp.new,h.cp.ol,h.cp.old,by simpa using h.cp.nl,λy hy=>by
  rcases zXZ hy with hy | rfl
  ·exact h.cp.n y hy
  ·exact hx,h.cp.dl,h.cp.d,h.cp.pl,h.cp.p,h.cp.ll⟩,h.t,by simpa using h.nl,h.dl,h.ol,h.pl,h.ll,h.l0,h.l1,h.nb,h.ob,λy hy=>by
  rcases zXZ hy with hy | rfl
  ·exact h.nk y hy
  ·exact ⟨hx.s,hk⟩,Ve h.rg hr,h.pe⟩
theorem W8{u:Nat}(hu:1099511627776<=u){c:aJ}(hc:Cu c)(n:Int):Ev (tS u c n) λv=>M.AnyW v.1/\Cu v.2:=by
 unfold tS;refine bj (TV hu hc n) λr1 h1=>bj (cI u h1.2 _) λr2 h2=>bj (cI u h2.2 _) λr3 h3=>?_;have hw:=ZY h1.1;have up:=Cx h1.1.d.wf;have nl:=h1.1.d.wf.nl;have dl:=h1.1.d.wf.dl;have ol:=h1.1.d.ol;have a0:=h2.1.1;have a1:=h2.1.2 ar;obtain ⟨j,ej,hj⟩:∃ j:Nat,r2.1=j/\j < r1.1.fT.cy.length:=⟨r2.1.toNat,by omega,by omega⟩;have hn:=sX (l:=r1.1.fN) (i:=j) ar;have hd:=sX (l:=r1.1.fD) (i:=j) ar;have ho:=sX (l:=r1.1.ca) (i:=j) ar;have hnw:=hw.cp.n _ (zQY hn);have hnk:=(hw.nk _ (zQY hn)).2;have hir:=hw.rg _ (zQY hn);have hob:=hw.cp.old _ (zQY ho);have hol:=(h1.1.d.old _ (zQY ho)).1;have pl:=h1.1.d.wf.len;have fin:∀ (c:aJ) (w:World),w.dB=r1.1.dB->M.AnyW w->Cu c->Ev (dt u c.fB c.fI c.fH w.fC.aB w.fC.bc w.fC.aU w.fC.aY w.fT.cy w.ct w.ca w.fN w.fD w.br r1 w.bC) λv=>M.AnyW v.1/\Cu v.2:=λc w hl h hc=>by
  unfold dt;rw [<- hl];exact cf ⟨h,hc⟩
 rw [ej];refine b7 (λ_=>bj (W4 u h3.2) λq hq=>fin q.2 ⟨q.1,r1.1.fT,r1.1.ct,r1.1.ca,r1.1.fN,r1.1.fD,r1.1.br,r1.1.dB,r1.1.bC⟩ rfl ⟨⟨hw.cp.t,hw.cp.new,hw.cp.ol,hw.cp.old,hw.cp.nl,hw.cp.n,hw.cp.dl,hw.cp.d,hw.cp.pl,hw.cp.p,hw.cp.ll⟩,hw.t,hw.nl,hw.dl,hw.ol,hw.pl,hw.ll,hw.l0,hw.l1,hw.nb,hw.ob,hw.nk,hw.rg,hw.pe⟩ hq) (λ_=>?_);refine b7 (λ_=>bj (W0 u hu h3.2) λq hq=>fin q.2 ⟨r1.1.fC,q.1,r1.1.ct,r1.1.ca,r1.1.fN,r1.1.fD,r1.1.br,r1.1.dB,r1.1.bC⟩ rfl ⟨⟨by show q.1.cy.length<=_; omega,hw.cp.new,hw.cp.ol,hw.cp.old,hw.cp.nl,hw.cp.n,hw.cp.dl,hw.cp.d,hw.cp.pl,hw.cp.p,hw.cp.ll⟩,hq.1,hw.nl,hw.dl,hw.ol,hw.pl,hw.ll,hw.l0,hw.l1,hw.nb,hw.ob,hw.nk,hw.rg,hw.pe⟩ hq.2) (λ_=>?_);refine b7 (λ_=>bj (U8 hu h3.2) λq hq=>fin q.2 ⟨r1.1.fC,r1.1.fT,q.1,r1.1.ca,r1.1.fN,r1.1.fD,r1.1.br,r1.1.dB,r1.1.bC⟩ rfl ⟨⟨hw.cp.t,by have:=hq.1.1; show q.1.length<=_; omega,hw.cp.ol,hw.cp.old,hw.cp.nl,hw.cp.n,hw.cp.dl,hw.cp.d,hw.cp.pl,hw.cp.p,hw.cp.ll⟩,hw.t,hw.nl,hw.dl,hw.ol,hw.pl,hw.ll,hw.l0,hw.l1,hq.1.2,hw.ob,hw.nk,hw.rg,hw.pe⟩ hq.2) (λ_=>?_);refine b7 (λ_=>bj (cI u h3.2 _) λq hq=>ip (fY _ j hn) ?_) (λ_=>?_)
 ·exact fin q.2 ⟨r1.1.fC,r1.1.fT,r1.1.ct,r1.1.ca,r1.1.fN.set (sY (j:Int)) (aG.mk (r1.1.fN[j].ia) (r1.1.fN[j].bD) r1.1.fN[j].bI (r1.1.fN[j].ay) r1.1.fN[j].bw (q.1) r1.1.fN[j].aZ r1.1.fN[j].bg),r1.1.fD,r1.1.br,r1.1.dB,r1.1.bC⟩ rfl (Io (x:=aG.mk (r1.1.fN[j].ia) (r1.1.fN[j].bD) r1.1.fN[j].bI (r1.1.fN[j].ay) r1.1.fN[j].bw (q.1) r1.1.fN[j].aZ r1.1.fN[j].bg) hw ⟨hnw.s,hnw.b,hnw.k,hnw.w⟩ hnk hir _) hq.2
 refine b7 (λ_=>bj (cI u h3.2 _) λq hq=>ip (fY _ j hn) ?_) (λ_=>?_)
 ·exact fin q.2 ⟨r1.1.fC,r1.1.fT,r1.1.ct,r1.1.ca,r1.1.fN.set (sY (j:Int)) (aG.mk (r1.1.fN[j].ia) (cG .i64 q.1 1) r1.1.fN[j].bI (r1.1.fN[j].ay) r1.1.fN[j].bw (r1.1.fN[j].bh) r1.1.fN[j].aZ r1.1.fN[j].bg),r1.1.fD,r1.1.br,r1.1.dB,r1.1.bC⟩ rfl (Io (x:=aG.mk (r1.1.fN[j].ia) (cG .i64 q.1 1) r1.1.fN[j].bI (r1.1.fN[j].ay) r1.1.fN[j].bw (r1.1.fN[j].bh) r1.1.fN[j].aZ r1.1.fN[j].bg) hw ⟨hnw.s,hnw.b,hnw.k,hnw.w⟩ hnk ⟨ZS _ _,hir.2⟩ _) hq.2
 refine b7 (λ_=>bj (YB hu h3.2) λq hq=>ip (fY _ j hd) ?_) (λ_=>?_)
 ·refine fin q.2 ⟨r1.1.fC,r1.1.fT,r1.1.ct,r1.1.ca,r1.1.fN,r1.1.fD.set (sY (j:Int)) q.1,r1.1.br,r1.1.dB,r1.1.bC⟩ rfl ⟨⟨hw.cp.t,hw.cp.new,hw.cp.ol,hw.cp.old,hw.cp.nl,hw.cp.n,by simpa using hw.cp.dl,λy hy=>?_,hw.cp.pl,hw.cp.p,hw.cp.ll⟩,hw.t,hw.nl,by simpa using hw.dl,hw.ol,hw.pl,hw.ll,hw.l0,hw.l1,hw.nb,hw.ob,hw.nk,hw.rg,hw.pe⟩ hq.2;rcases zXZ hy with hy | rfl
  ·exact hw.cp.d y hy
  ·exact hq.1.o
 refine b7 (λ_=>bj (YA hu h3.2) λq hq=>ip (fY _ j hn) ?_) (λ_=>?_)
 ·have:=hq.1.1;exact fin q.2 ⟨r1.1.fC,r1.1.fT,r1.1.ct,r1.1.ca,r1.1.fN.set (sY (j:Int)) (aG.mk (r1.1.fN[j].ia) (r1.1.fN[j].bD) r1.1.fN[j].bI (q.1) r1.1.fN[j].bw (r1.1.fN[j].bh) r1.1.fN[j].aZ r1.1.fN[j].bg),r1.1.fD,r1.1.br,r1.1.dB,r1.1.bC⟩ rfl (Io (x:=aG.mk (r1.1.fN[j].ia) (r1.1.fN[j].bD) r1.1.fN[j].bI (q.1) r1.1.fN[j].bw (r1.1.fN[j].bh) r1.1.fN[j].aZ r1.1.fN[j].bg) hw ⟨by show q.1.aI.length<=_; omega,hnw.b,hnw.k,hq.1.2⟩ hnk hir _) hq.2
 refine b7 (λ_=>bj (cI u h3.2 _) λq hq=>bj (cI u hq.2 _) λz hz=>m7 eF ?_) (λ_=>?_)
 ·refine fin z.2 ⟨r1.1.fC,r1.1.fT,r1.1.ct,r1.1.ca,r1.1.fN,r1.1.fD,r1.1.br++[ak.mk (cG .i64 q.1 1) (cG .i64 z.1 1) []],r1.1.dB,r1.1.bC⟩ rfl ⟨⟨hw.cp.t,hw.cp.new,hw.cp.ol,hw.cp.old,hw.cp.nl,hw.cp.n,hw.cp.dl,hw.cp.d,by simp; omega,λy hy=>?_,hw.cp.ll⟩,hw.t,hw.nl,hw.dl,hw.ol,by simp; omega,hw.ll,hw.l0,hw.l1,hw.nb,hw.ob,hw.nk,hw.rg,λy hy=>by
   rcases aac.1 hy with hy | hy
   ·exact hw.pe y hy
   ·simp only [zQy] at hy;subst hy;have q0:=hq.1.1;have q1:=hq.1.2 ar;have z0:=hz.1.1;have z1:=hz.1.2 ar;rw [cm ar ar,cm ar ar];dsimp only;omega⟩ hz.2
  rcases aac.1 hy with hy | hy
  ·exact hw.cp.p y hy
  ·simp only [zQy] at hy;subst hy;exact ⟨by simp [av],by simp⟩
 refine b7 (λ_=>fin r3.2 ⟨r1.1.fC,r1.1.fT,r1.1.ct,r1.1.ca,r1.1.fN,r1.1.fD,r1.1.br,r1.1.dB,-1⟩ rfl ⟨⟨hw.cp.t,hw.cp.new,hw.cp.ol,hw.cp.old,hw.cp.nl,hw.cp.n,hw.cp.dl,hw.cp.d,hw.cp.pl,hw.cp.p,hw.cp.ll⟩,hw.t,hw.nl,hw.dl,hw.ol,hw.pl,hw.ll,by simp,by simp,hw.nb,hw.ob,hw.nk,hw.rg,hw.pe⟩ h3.2) (λ_=>?_);refine b7 (λ_=>m7 (by simp [cS]; omega) ?_) (λ_=>?_)
 ·refine fin r3.2 ⟨r1.1.fC,r1.1.fT,r1.1.ct,r1.1.ca,r1.1.fN,(r1.1.fD.take (sY (r1.1.fD.length:Int))).drop (sY 1),r1.1.br,r1.1.dB,r1.1.bC⟩ rfl ⟨⟨hw.cp.t,hw.cp.new,hw.cp.ol,hw.cp.old,hw.cp.nl,hw.cp.n,by simp; omega,λy hy=>hw.cp.d y (zWJ (zXV hy)),hw.cp.pl,hw.cp.p,hw.cp.ll⟩,hw.t,hw.nl,by simp; omega,hw.ol,hw.pl,hw.ll,hw.l0,hw.l1,hw.nb,hw.ob,hw.nk,hw.rg,hw.pe⟩ h3.2
 refine b7 (λ_=>ip (fY _ j hn) (ip (fY _ j hn) ?_)) (λ_=>?_)
 ·exact fin r3.2 ⟨r1.1.fC,r1.1.fT,r1.1.ct,r1.1.ca,r1.1.fN.set (sY (j:Int)) (aG.mk (!r1.1.fN[j].ia) (r1.1.fN[j].bD) r1.1.fN[j].bI (r1.1.fN[j].ay) r1.1.fN[j].bw (r1.1.fN[j].bh) r1.1.fN[j].aZ r1.1.fN[j].bg),r1.1.fD,r1.1.br,r1.1.dB,r1.1.bC⟩ rfl (Io (x:=aG.mk (!r1.1.fN[j].ia) (r1.1.fN[j].bD) r1.1.fN[j].bI (r1.1.fN[j].ay) r1.1.fN[j].bw (r1.1.fN[j].bh) r1.1.fN[j].aZ r1.1.fN[j].bg) hw ⟨hnw.s,hnw.b,hnw.k,hnw.w⟩ hnk hir _) h3.2
 refine b7 (λ_=>ip (fY _ j ho) (m7 eF (ip (fY _ j ho) ?_))) (λ_=>fin r3.2 r1.1 rfl hw h3.2);refine fin r3.2 ⟨r1.1.fC,r1.1.fT,r1.1.ct,r1.1.ca.set (sY (j:Int)) (bp.mk (r1.1.ca[j].fB++[1])),r1.1.fN,r1.1.fD,r1.1.br,r1.1.dB,r1.1.bC⟩ rfl ⟨⟨hw.cp.t,hw.cp.new,by simpa using hw.cp.ol,λy hy=>?_,hw.cp.nl,hw.cp.n,hw.cp.dl,hw.cp.d,hw.cp.pl,hw.cp.p,hw.cp.ll⟩,hw.t,hw.nl,hw.dl,by simpa using hw.ol,hw.pl,hw.ll,hw.l0,hw.l1,hw.nb,λy hy=>?_,hw.nk,hw.rg,hw.pe⟩ h3.2
 ·rcases zXZ hy with hy | rfl
  ·exact hw.cp.old y hy
  ·simp;omega
 ·rcases zXZ hy with hy | rfl
  ·exact hw.ob y hy
  ·intro z hz;rcases aac.1 hz with hz | hz
   ·exact hw.ob _ (zQY ho) z hz
   ·simp only [zXy,zZG,or_false] at hz;subst hz;omega
theorem CA{u:Nat}(hu:1099511627776<=u){code:List Int}(h:code.length<=1048576)(n:Int):Ev (mQ u code n) λv=>M.AnyW v.2/\Cu v.1:=by
 unfold mQ;exact bj (Va hu h) λc hc=>bj (W8 hu hc n) λq hq=>cf ⟨hq.1,hq.2⟩
theorem ZZ{w:World}(h:M.AnyW w):∀ x∈w.fN,M.NodeWf x:=λx hx=>⟨(h.rg x hx).1,(h.rg x hx).2,(h.nk x hx).2⟩
theorem YH{u:Nat}(hu:1099511627776<=u){w:World}(h:M.AnyW w):∀ x∈w.br,((gW u x=some (nh u x)/\gV u x=some (nh u x))/\(nh u x).size<=300)/\1<=(nh u x).size:=λx hx=>by
 have hp:=h.cp.p x hx;have he:=h.pe x hx;obtain ⟨v,⟨h1,h2⟩,h3,h4⟩:=H4 hu (p0:=x) ar ar hp.1 hp.2;unfold nh;rw [h1];exact ⟨⟨⟨rfl,h2⟩,h3⟩,h4⟩
theorem qaP{sep:ByteArray}{t:ByteArray}{ts:List ByteArray}(h:1<=t.size):1<=(H5 sep (t :: ts)).size:=by
 unfold H5;rw [zWy,Lib.join_cons];show 1<=(List.toArray _).size;rw [List.size_toArray,zQG];have:t.data.toList.length=t.size:=by rw [zQx]; rfl
 omega
theorem W9(u:Nat){c:aJ}(hc:Cu c):Ev (wM u c) λv=>Cu v.2:=by
 unfold wM;exact bj (EM u hc 8) λo ho=>b7 (λ_=>bj (zE u ho eH) λx hx=>cf hx.2) (λ_=>bj (cI u ho _) λx hx=>cf hx.2)
theorem Xa{u:Nat}(hu:1099511627776<=u){c:aJ}(hc:Cu c):Ev (wN u c) λv=>M.MsgWf v.1/\Cu v.2:=by
 unfold wN;refine bj (O0 hu hc) λr hr=>bj (cI u hr.2 _) λq hq=>?_;have hw:=hr.1;have j1:∀ (k g w i:Int) (m:af) (b:List Int) (c:aJ),m.aI.length<=1048576->oH m->av b->b.length<=1048576->Cu c->Ev (gJ u k g m.aH m.aB m.aT m.aI w r i b c.fB c.fI c.fH) λv=>M.MsgWf v.1/\Cu v.2:=λk g w i m b c h1 h2 h3 h4 hc=>by
  unfold gJ;exact cf ⟨⟨h1,h2,h3,h4⟩,hc⟩
 refine b7 (λ_=>bj (cI u hq.2 _) λx hx=>j1 _ _ _ _ r.1.ay _ _ hw.sums hw.wf hw.b hw.len hx.2) (λ_=>?_);refine b7 (λ_=>bj (zE u hq.2 eH) λx hx=>j1 _ _ _ _ r.1.ay _ _ hw.sums hw.wf hw.b hw.len hx.2) (λ_=>?_);refine b7 (λ_=>bj (Yz u hq.2) λx hx=>j1 _ _ _ _ r.1.ay _ _ hw.sums hw.wf hw.b hw.len hx) (λ_=>?_);refine b7 (λ_=>bj (W9 u hq.2) λx hx=>j1 _ _ _ _ r.1.ay _ _ hw.sums hw.wf hw.b hw.len hx) (λ_=>?_);refine b7 (λ_=>bj (FD (xd hu hq.2 (n:=8) ar)) λx hx=>j1 _ _ _ _ r.1.ay _ _ hw.sums hw.wf hx.1.2 (by have:=hx.1.1; omega) hx.2) (λ_=>?_);refine b7 (λ_=>bj (YA hu hq.2) λx hx=>j1 _ _ _ _ x.1 _ _ (by have:=hx.1.1; omega) hx.1.2 hw.b hw.len hx.2) (λ_=>j1 _ _ _ _ r.1.ay _ _ hw.sums hw.wf hw.b hw.len hq.2)
theorem TW{u:Nat}(hu:1099511627776<=u)(code:List Int):q7 u code=some true:=by
 unfold q7 GG;simp only [wk]
 cases hbig:decide ((code.length:Int) > 1048576) with
 | true=>rfl
 | false =>
  have hl:code.length<=1048576:=by simp at hbig; omega
  simp only [cond_false];obtain ⟨a,e1,ha⟩:Ev (lT u code) λv=>M.AnyW v:=by
   unfold lT;exact bj (CA hu hl 120) λr h=>cf h.1
  obtain ⟨b,e2,hb⟩:Ev (lU u code) λv=>M.AnyW v:=by
   unfold lU;exact bj (CA hu hl 60) λr h=>cf h.1
  obtain ⟨c,e3,hc⟩:Ev (nI u code) λv=>M.AnyW v:=by
   unfold nI;exact bj (CA hu hl 40) λr h=>cf h.1
  obtain ⟨d,e4,hd⟩:Ev (lV u code) λv=>M.AnyW v:=by
   unfold lV;exact bj (CA hu hl 60) λr h=>cf h.1
  obtain ⟨e,e5,he⟩:Ev (lW u code) λv=>(0<=v.fN/\v.fN<=100)/\0<=v.fS/\v.fS<=100:=by
   unfold lW;exact bj (Va hu hl) λc hc=>bj (cI u hc _) λx hx=>bj (cI u hx.2 _) λy hy=>bj (cI u hy.2 _) λz hz=>cf ⟨⟨hy.1.1,by have:=hy.1.2 ar; show y.1<=100; omega⟩,hz.1.1,by have:=hz.1.2 ar; show z.1<=100; omega⟩
  obtain ⟨p,e6,hp⟩:Ev (kU u code) λv=>((0<=v.cQ/\v.cQ<=100)/\0<=v.rB/\v.rB<=100)/\zB v:=by
   unfold kU;exact bj (Va hu hl) λc hc=>bj (Xa hu hc) λm hm=>bj (cI u hm.2 _) λx hx=>bj (cI u hx.2 _) λy hy=>ip (jw hu _ _ hm.1) (cf ⟨⟨⟨hx.1.1,by have:=hx.1.2 ar; show x.1<=100; omega⟩,hy.1.1,by have:=hy.1.2 ar; show y.1<=100; omega⟩,Ei x.1 y.1 hm.1⟩)
  have an:=ha.nl;have cn:=hc.pl;have bn:=hb.nl;have d1:=hd.nl;have d2:=hd.pl;have d3:=hd.ll;have d4:=hd.l0;have d5:=hd.l1;obtain ⟨s,s1,s2,s3⟩:=Td hu (p0:=a) ⟨⟨ha.cp.dl,ha.cp.ol,ha.cp.d⟩,by omega⟩;obtain ⟨t,t1,t2⟩:=Tu hu (p0:=b) ar (ZZ hb);obtain ⟨n1,n2⟩:=WP hu (p0:=c) ar (λx hx=>(YH hu hc x hx).1);obtain ⟨g,g1,g2⟩:=Ts hu (p0:=d) ar ar ar ar;obtain ⟨k,k1,k2⟩:=Ti hu (p0:=e) ar ar;obtain ⟨q,⟨q1,q2⟩,_⟩:=H4 hu (p0:=p) ar ar hp.2.1 hp.2.2;have npos:1<=(if c.br.length=0 then zm #[45] else H5 OC (c.br.map (nh u))).size:=by
   split
   ·exact zWk 1
   ·rename_i h
    cases hcn:c.br with
    | nil=>rw [hcn] at h; exact absurd rfl h
    | cons x l =>
     rw [zWy];exact qaP (YH hu hc x (by rw [hcn]; simp)).2
  simp only [e1,e2,e3,e4,e5,e6,s1,s2,t1,t2,n1,n2,g1,g2,k1,k2,q1,q2,wk,beq_self_eq_true,zQX,cond_false];unfold i7 Ej;have sl:((vj a).length:Int)=if (a.fN.length:Int) - 1 > 0 then (a.fN.length:Int) - 1 else 0:=by
   unfold vj;rw [zWg,List.length_range']
   split <;> omega
  rw [cm ar ar,s3];simp only [cond_false,wk,sl,beq_self_eq_true,cond_true,n2];rw [decide_eq_true (show ((if c.br.length=0 then zm #[45] else H5 OC (c.br.map (nh u))).size:Int) > 0 by omega)]
theorem TX(p0:List Int)(h:M1 (kc .u8) p0/\True):q7 1099511627776 p0=some true:=TW (zWk _) p0
end Go.Tm.Pu
