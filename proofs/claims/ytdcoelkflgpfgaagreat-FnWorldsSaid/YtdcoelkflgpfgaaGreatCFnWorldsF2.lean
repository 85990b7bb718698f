/- The abstract machine tells the truth of the translated code. -/
import Derived.Orders
import Derived.ChangeOld
import Derived.ChangeArms
import Derived.Carry
import Derived.OpenShut
import Derived.IntWalk
import Derived.Test.YtdcoelkflgpfgaaGreatCFnWorldsF1
set_option linter.unusedVariables false
set_option linter.unusedSimpArgs false
open List renaming size_toArray->zVk
open Array renaming getElem?_append_left->zZQ,getElem?_append_right->zYh,getElem?_eq_getElem->zXq,getElem?_replicate->zZZ,replicate->zZy,toArray_toList->zWy
open Bool renaming and_eq_true->sk,and_self->zXG,and_true->zXH,false_eq_true->zWQ,true_and->zQh
open Int renaming tmod_eq_emod_of_nonneg->zYQ,toNat->sY
open List renaming all_eq_true->zXZ,append_nil->zWV,drop_eq_getElem_cons->zYZ,eq_nil_of_length_eq_zero->zQZ,foldl_cons->zYG,getElem?_append->zWx,getElem?_append_left->zQW,getElem?_append_right->zQX,getElem?_cons_zero->zQz,getElem?_drop->zQx,getElem?_eq_getElem->sX,getElem?_eq_none->zXK,getElem?_map->zQV,getElem?_of_mem->zZV,getElem?_set_ne->zZK,getElem?_set_self->zZW,getElem?_take->zQy,head?->zZq,head?_drop->zXh,head?_eq_getElem?->zVj,length->zZX,length_append->zQH,length_cons->zQw,length_map->zWw,map_append->zYk,map_congr_left->zXJ,map_cons->zXV,mem_append_left->zKQ,mem_cons_of_mem->zQv,mem_cons_self->zWX,mem_map->zYv,mem_of_getElem?->zQQ,mem_singleton->zQq,nil_append->zQj,nodup_append->zYW,range->zXY,range'->zXW,range_eq_range'->zYX,replicate->zQG,tail->zZz,tail_drop->zYK,take_append_drop->zXv
open Nat renaming add_assoc->zZj,beq->zWg,beq_refl->zVH,ble->zVy,blt->zKX,eq_of_beq_eq_true->zWq,le_refl->zWK,le_trans->zXQ,lt_of_lt_of_le->zWW,zero_add->zWY,zero_le->zZv
open Option renaming bind_some->wk,getD_some->zXX,map_eq_some_iff->zWk,map_some->zWG
open Go.IntKind renaming wrap->ld
open BitVec renaming ofInt->lg
open List renaming getElem?_eq_some_iff->ln
open Option renaming map_eq_some_iff->pa
open List renaming mem_append->sa
open Option renaming isSome_iff_exists->sr
open List renaming all_eq_true->zm
open Array renaming getElem?_eq_some_iff->Dp
open List renaming mem_cons->Ir
open List renaming getElem?_eq_none_iff->KL
open Option renaming some->ac
open Option renaming none->cl
open Bool renaming true->gi
open Bool renaming false->go
namespace Go.Tm
open Go.RowKit
section
variable {P:Program} {E:En} [Tb P E] {g:Gh} {st st':St} {a:Act} {w:World}
def Gh.all(g:Gh)(st:St)(b:Nat):Prop:=g.F b\/(∃ r,st.L r/\(g.rw r).ownBlock=ac b)\/(g.sh=go/\g.D b)
theorem io.all_lt(hM:io E g st w){b:Nat}(hb:g.all st b):b < w.heap.size:=by
 rcases hb with hb | ⟨r,hL,hb⟩ | ⟨_,hb⟩
 ·exact (hM.F b hb).1
 ·exact hM.row_lt hL hb
 ·exact zWW (hM.dep b hb).2.1 hM.sizes
theorem X8{α:Type}{x:A}{k:T->MA α}{y:α}{v:Value}(hM:io E g st w)(hv:VR w g st.O st.R x v)(h:(x.peekT k).run st=ac (y,st')):∃ t,(k t).run st=ac (y,st')/\Rd w (g.all st) t v:=by
 cases hv with
 | t x v h1=>exact ⟨x,h,h1.mono (λ_ _=>rfl) (λ_ h=>.inl h)⟩
 | ext s x v hs h1 =>
  cases s with
  | true=>simp [A.peekT,MA.run] at h
  | false=>exact ⟨x,h,h1.rd (hM.now hs) (λ_ h=>.inr (.inr ⟨hs,h⟩))⟩
 | nil=>exact ⟨_,h,.sl0 _ _ _ (by first | assumption | exact λ_=>rfl | (intro h; cases h))⟩
 | own r hr =>
  simp only [A.peekT,MA.run] at h
  cases hx:st.rw r with
  | none=>simp [hx,MA.run] at h
  | some x =>
   cases x with
   | live e sz rows =>
    simp only [hx] at h;exact ⟨_,h,(hM.row r _ hx).rd _ (λ_ h=>.inl h) (λb hb=>.inr (.inl ⟨r,⟨e,sz,rows,hx⟩,hb⟩))⟩
   | frz sz rows =>
    simp only [hx] at h;exact ⟨_,h,Rd.mono (hM.row r _ hx) (λ_ _=>rfl) (λ_ h=>.inl h)⟩
   | gone=>simp [hx,MA.run] at h
 | _=>simp [A.peekT,MA.run] at h
theorem UX{α:Type}:∀ {l:Os} {k:Or->MA α} {y:α} {vs:List Value},io E g st w->vs.length=l.length->(∀ (j:Nat) (x:A),l[j]?=ac x->∃ u,vs[j]?=ac u/\VR w g st.O st.R x u)->(Of l k).run st=ac (y,st') ->
  ∃ ts,(k ts).run st=ac (y,st')/\SS w (g.all st) (ts.map .t) vs []
 | [],k,y,vs,hM,hl,hv,h=>by
  have:vs=[]:=zQZ hl;subst this;exact ⟨[],h,.nil⟩
 | x :: l,k,y,vs,hM,hl,hv,h=>by
  obtain ⟨v,vs,rfl⟩:∃ v vs',vs=v :: vs':=by
   cases vs with
   | nil=>simp at hl
   | cons v vs=>exact ⟨v,vs,rfl⟩
  obtain ⟨u,hu,hx⟩:=hv 0 x rfl;simp at hu;subst hu;obtain ⟨t,h1,hr⟩:=X8 hM hx h;obtain ⟨ts,h2,hc⟩:=UX hM wz5 (λj y hy=>by
   obtain ⟨u,hu,hx⟩:=hv (j+1) y qcd;exact ⟨u,by simpa using hu,hx⟩) h1
  exact ⟨t :: ts,h2,.cons _ _ [] _ _ [] (.t _ _ hr) hc⟩
mutual
theorem qew{α:Type}:∀ (x:A) {k:V->MA α} {y:α} {v:Value},io E g st w->VR w g st.O st.R x v->(k7 x k).run st=ac (y,st')->∃ c,(k c).run st=ac (y,st')/\VV w (g.all st) c v []:=by
 intro x k y v hM hv h;unfold k7 at h
 split at h
 ·rename_i l
  cases hv with
  | agg l vs hl hx =>
   obtain ⟨ts,h1,hc⟩:=UX hM hl.symm (λj x hj=>⟨_,sX (by rw [<- hl]; exact (ln.1 hj).1),hx j x _ hj (sX (by rw [<- hl]; exact (ln.1 hj).1))⟩) h;exact ⟨_,h1,.agg _ vs [] hc⟩
 ·rename_i ts
  cases hv with
  | fadr cells b off u hF hx hr=>exact ⟨_,h,.fptr ts b off u (.inl hF) hx (λj x hj=>(hr j x hj).mono (λ_ _=>rfl) (λ_ h=>.inl h))⟩
 ·rename_i f caps
  cases hv with
  | clo f caps vs hl hx =>
   obtain ⟨cs,h1,hc⟩:=BP caps hM hl.symm (λj x hj=>⟨_,sX (by rw [<- hl]; exact (ln.1 hj).1),hx j x _ hj (sX (by rw [<- hl]; exact (ln.1 hj).1))⟩) h;exact ⟨_,h1,.clo f cs vs [] hc⟩
 ·obtain ⟨t,h1,hr⟩:=X8 hM hv h;exact ⟨_,h1,.one _ v [] (.t _ _ hr)⟩
theorem BP{α:Type}:∀ (l:Os) {k:List V->MA α} {y:α} {vs:List Value},io E g st w->vs.length=l.length->(∀ (j:Nat) (x:A),l[j]?=ac x->∃ u,vs[j]?=ac u/\VR w g st.O st.R x u)->(fj l k).run st=ac (y,st')->∃ cs,(k cs).run st=ac (y,st')/\IJ w (g.all st) cs vs []
 | [],k,y,vs,hM,hl,hv,h=>by
  have:vs=[]:=zQZ hl;subst this;unfold fj at h;exact ⟨[],h,.nil⟩
 | x :: l,k,y,vs,hM,hl,hv,h=>by
  obtain ⟨v,vs,rfl⟩:∃ v vs',vs=v :: vs':=by
   cases vs with
   | nil=>simp at hl
   | cons v vs=>exact ⟨v,vs,rfl⟩
  obtain ⟨u,hu,hx⟩:=hv 0 x rfl;simp at hu;subst hu;unfold fj at h;obtain ⟨c,h1,hc⟩:=qew x hM hx h;obtain ⟨cs,h2,hcs⟩:=BP l hM wz5 (λj y hy=>by
   obtain ⟨u,hu,hx⟩:=hv (j+1) y qcd;exact ⟨u,by simpa using hu,hx⟩) h1
  exact ⟨c :: cs,h2,.cons _ _ [] _ _ [] hc hcs⟩
end
theorem Rd.sc{F F':Nat->Prop}{x:T}{v:Value}(h:Rd w F x v)(hx:x.sc=gi):Rd w F' x v:=by
 cases h with
 | int k n=>exact .int k n
 | bool b=>exact .bool b
 | str s=>exact .str s
 | nilf=>exact .nilf
 | hdr a n c=>exact .hdr a n c
 | sl0 | sl=>cases hx
theorem CV.plain{F F':Nat->Prop}{c:C}{v:Value}{bs:IO}(h:CV w F c v bs)(hc:c.plain):CV w F' c v bs:=by
 cases h with
 | t x v h=>exact .t x v (h.sc hc)
 | nil=>exact .nil
 | ow e sz rows v inner ho hr =>
  exact .ow e sz rows v inner ho ⟨hr.size,hr.len,λi row j x hi hj=>by
   obtain ⟨u,hu,h1,h2⟩:=hr.rd i row j x hi hj;exact ⟨u,hu,h1,h2.sc (hc row (zQQ hi) x (zQQ hj))⟩⟩
theorem SS.plain{F F':Nat->Prop}{cs:List C}{vs:List Value}{bs:IO}(h:SS w F cs vs bs)(hc:∀ c∈cs,c.plain):SS w F' cs vs bs:=by
 induction h with
 | nil=>exact .nil
 | cons c v b cs vs bs h hs ih=>exact .cons c v b cs vs bs (h.plain (hc c ig)) (ih (λc h=>hc c (by simp [h])))
mutual
theorem VV.plain{F F':Nat->Prop}:∀ {x:V} {v:Value} {bs:IO},VV w F x v bs->x.plain->VV w F' x v bs
 | _,_,_,.one c v bs h,hp=>.one c v bs (h.plain qiK)
 | _,_,_,.agg l vs bs h,hp=>.agg l vs bs (h.plain qiK)
 | _,_,_,.tup l vs bs h,hp=>.tup l vs bs (h.plain qiK)
 | _,_,_,.ptr cells b arr e vs bs h1 h2 h3 h,hp=>by unfold V.plain at hp; exact hp.elim
 | _,_,_,.fptr cells b off u h1 h2 h3,hp=>by unfold V.plain at hp; exact hp.elim
 | _,_,_,.clo f caps vs bs h,hp=>by unfold V.plain at hp; exact hp.elim
theorem IJ.plain{F F':Nat->Prop}:∀ {l:List V} {vs:List Value} {bs:IO},IJ w F l vs bs->AP l->IJ w F' l vs bs
 | _,_,_,.nil,hp=>.nil
 | _,_,_,.cons x v b l vs bs h hs,hp=>.cons x v b l vs bs (h.plain (by unfold AP at hp; exact hp.1)) (hs.plain (by unfold AP at hp; exact hp.2))
end
theorem qaB{n d f:Nat}{o:Oper}{xf:Operand}{args:Array Operand}{ts:Array TypeId}{caps jo:Os}{vs:List V}{res:V}{x:A}
  (hS:lj E g n st a w) (ho:o.op=.call { callee:=.value xf,args,argTypes:=ts }) (hf:st.eval xf=ac (.clo f caps)) (oC:eQ (args.toList.map st.eval)=ac jo)
  (hp:(fj (jo++caps) MA.ret).run st=ac (vs,st)) (hc:aB P f vs res []) (hpl:res.plain) (hr:(V.toA d (ip d 0) res MA.ret).run st=ac (x,st')) :
  D3 P o a w λv w'=>∃ g',D1 E g st w x st' v g' w':=by
 have hM:=hS.mem;obtain ⟨hcl,hcc⟩:=hc;have hvf:=cm hS hf;generalize hvv:a.eval xf=vf at hvf
 cases hvf with
 | clo f caps vcaps hl hx =>
  refine lR ho hvv hcl ?_;obtain ⟨ha1,ha2⟩:=Gs hS oC;obtain ⟨cs,h1,hVV⟩:=BP (vs:=args.toList.map a.eval++vcaps) (jo++caps) hM qfu (λj y hj=>by
   rw [zWx] at hj
   split at hj
   ·rename_i hlt;have hlt':j < (args.toList.map a.eval).length:=by rw [<- ha1]; exact hlt
    exact ⟨_,by rw [zQW hlt']; exact sX hlt',ha2 j y _ hj (sX hlt')⟩
   ·rename_i hge;have hlt:j - jo.length < vcaps.length:=by rw [<- hl]; exact (ln.1 hj).1
    exact ⟨_,by rw [zQX qel,<- ha1]; exact sX hlt,hx _ y _ hj (sX hlt)⟩) hp
  obtain ⟨rfl,_⟩:=gK h1;refine (hcc w (g.all st) _ [] (λb hb=>?_) hVV List.nodup_nil ig (hM.tbW λb _ _ _ h=>by cases h)).mono λe w' ⟨v,F',bv,bo,he,hcalm,hsame,hFF,hF',hvr,hO,hnd,hex⟩=>⟨v,he,?_⟩
  ·exact hM.all_lt hb
  obtain ⟨hM2,hE2⟩:=hM.grow hcalm (λb hb=>hsame b hb ig);have hbv:∀ b∈bv,w.heap.size<=b:=λb hb=>((hex b (by simp [hb])).2).resolve_right ig;obtain ⟨x',st3,g3,hG,h7,hvx⟩:=BO (w:=w') res hM2 (hvr.plain (F':=g.F) hpl) (List.nodup_append.1 hnd).1 (λb hb=>by
   obtain ⟨h8,h9,h10⟩:=AN hM (hbv b hb);exact ⟨h8,h9,h10,.inl (zXQ hM.sizes (hbv b hb))⟩) hr
  obtain ⟨rfl,rfl⟩:=gK h7;exact ⟨g3,hG.mem,hvx,hE2.trans hG.ext,hG.tm⟩
def zj(P:Program)(f:FuncId)(args:List V)(off:Nat)(outs:List (List C)):Prop :=
 AO P f/\∀ (w:World) (F:Nat->Prop) (vs:List Value) (bs:IO),(∀ b,F b->b < w.heap.size)->IJ w F args vs bs->bs.Nodup->(∀ b∈bs,¬ F b)->W9 P w (λb=>b∈bs) ->
  Calls P f vs.toArray w λe w'=>∃ v F' bo b0,e=.returned v/\vs.head?=ac (.pointer (ac ⟨b0,0,cl⟩))/\v=.pointer (ac ⟨b0,off,cl⟩)/\vu w w'/\(∀ b,b < w.heap.size->b∉bs->w'.heap[b]?=w.heap[b]?)/\(∀ b,F b->F' b) /\
   (∀ b,F' b->b < w'.heap.size/\(b < w.heap.size->F b\/b∈bs)/\(F b\/Wr w' b))/\ud w' F' args vs outs bo/\bo.Nodup/\∀ b∈bo,¬ F' b/\(w.heap.size<=b\/b∈bs)
theorem qaC{n d f:Nat}{m:Bool}{p:Nat->Bool}{o:Oper}{xf:Operand}{args:Array Operand}{ts:Array TypeId}{caps jo:Os}{vs:List V}{st1:St}{outs:List (List C)}{x:A}{s off:Nat}
  (hS:lj E g n st a w) (ho:o.op=.call { callee:=.value xf,args,argTypes:=ts }) (hf:st.eval xf=ac (.clo f caps)) (oC:eQ (args.toList.map st.eval)=ac jo)
  (hp:(jY m p (jo++caps) MA.ret).run st=ac (vs,st1)) (hc:zj P f vs off outs) (hhd:(jo++caps).head?=ac (.obj s 0)) (hr:(eC d (fh (jo++caps)) outs (MA.ret (.obj s off))).run st1=ac (x,st')) :
  D3 P o a w λv w'=>∃ g',D1 E g st w x st' v g' w':=by
 have hM:=hS.mem;obtain ⟨hcl,hcc⟩:=hc;have hvf:=cm hS hf;generalize hvv:a.eval xf=vf at hvf
 cases hvf with
 | clo f caps vcaps hl hx =>
  refine lR ho hvv hcl ?_;obtain ⟨ha1,ha2⟩:=Gs hS oC;have hus:∀ (j:Nat) (y:A),(jo++caps)[j]?=ac y->∃ v,(args.toList.map a.eval++vcaps)[j]?=ac v/\VR w g st.O st.R y v:=by
   intro j y hj;rw [zWx] at hj
   split at hj
   ·rename_i hlt;have hlt':j < (args.toList.map a.eval).length:=by rw [<- ha1]; exact hlt
    exact ⟨_,by rw [zQW hlt']; exact sX hlt',ha2 j y _ hj (sX hlt')⟩
   ·rename_i hge;have hlt:j - jo.length < vcaps.length:=by rw [<- hl]; exact (ln.1 hj).1
    exact ⟨_,by rw [zQX qel,<- ha1]; exact sX hlt,hx _ y _ hj (sX hlt)⟩
  obtain ⟨cs,st1',g1,bs,hM1,hE1,hL1,h1,hVV,hT,hA,hsl⟩:=BN (vs:=args.toList.map a.eval++vcaps) (jo++caps) hM qfu hus hp;obtain ⟨rfl,rfl⟩:=gK h1;have hbsX:∀ b∈bs,b < E.w0.heap.size->E.X b:=λb hb hlt=>by
   rcases hT.of b hb with ⟨r,h2,_,h4⟩ | ⟨s,⟨c,cs,h2⟩,_,h4⟩
   ·rcases (hM.row_nf h2 h4).2 with h5 | h5
    ·omega
    ·exact h5
   ·rcases (hM.ob_nf (s:=s) wz7).2 with h5 | h5
    ·omega
    ·exact h4 ▸ h5
  refine (hcc w g1.F _ bs (λb hb=>(hM1.F b hb).1) hVV hT.nodup hT.nf (hM.tbW λb h1 h2 _ h3=>h2 (hbsX b h3 h1))).mono λe w' ⟨v,F',bo,b0,he,hhead,hveq,hcalm,hsame,hFF,hF',hO,hnd0,hex0⟩=>⟨v,he,?_⟩;obtain ⟨bv,hbv⟩:∃ bv:IO,bv=[]:=⟨[],rfl⟩;have hnd:(bv++bo).Nodup:=by rw [hbv]; exact hnd0
  have hex:∀ b∈bv++bo,¬ F' b/\(w.heap.size<=b\/b∈bs):=by rw [hbv]; exact hex0
  -- the caller's memory behind the call
  have hbsrow:∀ b∈bs,∀ r,st1.L r->(g1.rw r).ownBlock≠ac b:=λb hb r hr he=>by
   rw [hL1.rw] at he;rcases hT.of b hb with ⟨r',h2,h3,h4⟩ | ⟨s,⟨c,cs,h2⟩,_,h4⟩
   ·exact h3 (hM.rowne r r' b (hL1.L r hr) h2 he h4 ▸ hr)
   ·exact hM.rowob r s (hL1.L r hr) wz7 (h4 ▸ he)
  have hbsob:∀ b∈bs,∀ s,st1.O s->g1.ob s=b->st1.ob s=ac []/\s∈fh (jo++caps):=λb hb s hs he=>by
   rw [hL1.ob] at he;have hs':st.O s:=(hL1.O s).1 hs;rcases hT.of b hb with ⟨r',h2,h3,h4⟩ | ⟨s',⟨c,cs,h2⟩,h3,h4⟩
   ·exact absurd (he ▸ h4) (hM.rowob r' s h2 hs')
   ·have:=hM.obne s s' hs' wz7 (he.trans h4.symm);subst this;exact ⟨h3,hsl s qg6⟩
  have hF0:∀ b,b < w.heap.size->F' b->g1.F b\/b∈bs:=λb h2 h3=>(hF' b h3).2.1 h2;have hA1:vw g1 (jo++caps) vs (args.toList.map a.eval++vcaps):=hA.congr' hL1.ob;have hexF:∀ b∈bs,F' b->False\/True:=λ_ _ _=>.inr trivial;have hlentF:∀ s,s∈fh (jo++caps)->g1.ob s∈bo:=ud.mem hA1 hO;obtain ⟨hM2,hE2⟩:=hM1.step (w':=w') (g':={ g1 with F:=F' }) (st':=st1) hcalm (λb=>b∈bs) (λb h2 h3=>hsame b h2 h3) (λb hb=>hT.nf b hb) (λb h2 h3=>hbsX b h3 h2) hFF
   (λb h2 h3=>⟨(hF' b h2).1,λhlt=>(hF0 b (zWW hlt hM1.sizes) h2).elim (λh4=>absurd h4 h3) (λh4=>.inr (hbsX b h4 hlt)),.inr ((hF' b h2).2.2.resolve_left h3)⟩) (λ_ h=>⟨h,rfl⟩) (λ_ h=>⟨h,rfl⟩)
   (λs cells hs=>by
    have hOs:st1.O s:=by simp [St.O,hs]
    by_cases hb:g1.ob s∈bs
    ·obtain ⟨h5,h6⟩:=hbsob _ hb s hOs rfl;rw [hs] at h5
     cases h5
     obtain ⟨arr,e,hh⟩:=KJ hA1 hO s h6;refine .inr ⟨arr,e,hh,by simp,by simp,?_,(hM1.ob_nf hOs).2⟩;exact (hex _ (sa.2 (.inr (hlentF s h6)))).1
    ·refine .inl ⟨hs,hb,λhf=>?_⟩;rcases hF0 _ (hM1.ob_lt hOs) hf with h5 | h5
     ·exact (hM1.ob_nf hOs).1 h5
     ·exact hb h5) hM1.obne
   (λr x hr=>.inl ⟨hr,λhL b hb=>⟨λhm=>hbsrow b hm r hL hb,λhf=>by
    rcases hF0 b (hM1.row_lt hL hb) hf with h5 | h5
    ·exact (hM1.row_nf hL hb).1 h5
    ·exact hbsrow b h5 r hL hb⟩⟩) hM1.rowne hM1.rowob
  have hI:Inv E { g1 with F:=F' } st1 (fh (jo++caps)) (bo++bv):=by
   have hm:∀ x,x∈bo++bv->x∈bv++bo:=λx hx=>by
    rcases sa.1 hx with h | h <;> simp [h]
   refine ⟨?_,λb hb=>(hex b (hm b hb)).1,λb hb=>?_,λb hb r hr he=>?_,λb hb s hs he=>?_⟩
   ·rw [zYW] at hnd ⊢;exact ⟨hnd.2.1,hnd.1,λx hx y hy h=>hnd.2.2 y hy x hx h.symm⟩
   ·rcases (hex b (hm b hb)).2 with h5 | h5
    ·exact .inl (zXQ hM1.sizes h5)
    ·by_cases hlt:b < E.w0.heap.size
     ·exact .inr (hbsX b h5 hlt)
     ·exact .inl al
   ·rcases (hex b (hm b hb)).2 with h5 | h5
    ·exact absurd (hM1.row_lt hr he) al
    ·exact hbsrow b h5 r hr he
   ·rcases (hex b (hm b hb)).2 with h5 | h5
    ·exact absurd (hM1.ob_lt hs) qg7
    ·exact (hbsob b h5 s hs he).2
  have hA2:vw { g1 with F:=F' } (jo++caps) vs (args.toList.map a.eval++vcaps):=hA1.congr' (g:=g1) (g1:={ g1 with F:=F' }) rfl;obtain ⟨st2,g2,hM3,hE3,hF3,ht3,h6,hI3⟩:=wF (w:=w') hM2 hA2 hO hI hr;obtain ⟨rfl,rfl⟩:=gK h6;have hext:=(hE1.trans hE2).trans hE3;have hobj:st.O s/\(args.toList.map a.eval++vcaps)[0]?=ac (.pointer (ac ⟨g.ob s,0,cl⟩)):=by
   obtain ⟨u,hu1,hu2⟩:=hus 0 (.obj s 0) (by rw [<- zVj]; exact hhd)
   cases hu2 with
   | obj _ _ hs=>exact ⟨hs,hu1⟩
  have hb0:g.ob s=b0:=by
   rw [zVj,hobj.2] at hhead;injection hhead with h; injection h with h; injection h with h; injection h
  obtain ⟨hO2,hob2⟩:=hext.O s hobj.1;refine ⟨g2,hM3,?_,hext,ht3.trans hL1.tm⟩;rw [hveq,<- hb0,<- hob2];exact .obj s off hO2
def mx(P:Program)(f:FuncId)(args:List V)(res:V):Prop :=
 AO P f/\∀ (w:World) (D:Nat->Prop) (vs:List Value),(∀ b,D b->b < w.heap.size)->IJ w D args vs []->W9 P w (λ_=>False) ->
  Calls P f vs.toArray w λe w'=>∃ v F' bv,e=.returned v/\vu w w'/\(∀ b,b < w.heap.size->w'.heap[b]?=w.heap[b]?) /\
   (∀ b,F' b->b < w'.heap.size/\w.heap.size<=b/\Wr w' b)/\VV w' F' res v bv/\bv.Nodup/\∀ b∈bv,¬ F' b/\w.heap.size<=b
theorem qaD{n d f:Nat}{o:Oper}{xf:Operand}{args:Array Operand}{ts:Array TypeId}{caps jo:Os}{vs:List V}{res:V}{x:A}
  (hS:lj E g n st a w) (ho:o.op=.call { callee:=.value xf,args,argTypes:=ts }) (hf:st.eval xf=ac (.clo f caps)) (oC:eQ (args.toList.map st.eval)=ac jo)
  (hp:(fj (jo++caps) MA.ret).run st=ac (vs,st)) (hc:mx P f vs res) (hr:(V.toA d (ip d 0) res MA.ret).run st=ac (x,st')) :
  D3 P o a w λv w'=>∃ g',D1 E g st w x st' v g' w':=by
 have hM:=hS.mem;obtain ⟨hcl,hcc⟩:=hc;have hvf:=cm hS hf;generalize hvv:a.eval xf=vf at hvf
 cases hvf with
 | clo f caps vcaps hl hx =>
  refine lR ho hvv hcl ?_;obtain ⟨ha1,ha2⟩:=Gs hS oC;obtain ⟨cs,h1,hVV⟩:=BP (vs:=args.toList.map a.eval++vcaps) (jo++caps) hM qfu (λj y hj=>by
   rw [zWx] at hj
   split at hj
   ·rename_i hlt;have hlt':j < (args.toList.map a.eval).length:=by rw [<- ha1]; exact hlt
    exact ⟨_,by rw [zQW hlt']; exact sX hlt',ha2 j y _ hj (sX hlt')⟩
   ·rename_i hge;have hlt:j - jo.length < vcaps.length:=by rw [<- hl]; exact (ln.1 hj).1
    exact ⟨_,by rw [zQX qel,<- ha1]; exact sX hlt,hx _ y _ hj (sX hlt)⟩) hp
  obtain ⟨rfl,_⟩:=gK h1;refine (hcc w (g.all st) _ (λb hb=>hM.all_lt hb) hVV (hM.tbW λ_ _ _ _ h=>h)).mono λe w' ⟨v,F',bv,he,hcalm,hsame,hF',hvr,hnd,hex⟩=>⟨v,he,?_⟩;obtain ⟨hM2,hE2⟩:=hM.step (w':=w') (g':={ g with F:=λb=>g.F b\/F' b }) (st':=st) hcalm (λ_=>False) (λb h1 _=>hsame b h1) (λ_ h=>h.elim) (λ_ _ h=>h.elim) (λ_ h=>.inl h)
   (λb h1 h2=>by
    obtain ⟨h3,h4,h5⟩:=hF' b (h1.resolve_left h2);exact ⟨h3,λhlt=>(by have:=hM.sizes; omega),.inr h5⟩) (λ_ h=>⟨h,rfl⟩) (λ_ h=>⟨h,rfl⟩)
   (λs cells hs=>.inl ⟨hs,id,λhf=>by
    have hs':st.O s:=by simp [St.O,hs]
    rcases hf with hf | hf
    ·exact (hM.ob_nf hs').1 hf
    ·have:=hM.ob_lt hs'; have:=(hF' _ hf).2.1; omega⟩) hM.obne
   (λr x hr=>.inl ⟨hr,λhL b hb'=>⟨id,λhf=>by
    rcases hf with hf | hf
    ·exact (hM.row_nf hL hb').1 hf
    ·have:=hM.row_lt hL hb'; have:=(hF' _ hf).2.1; omega⟩⟩) hM.rowne hM.rowob
  obtain ⟨x',st3,g3,hG,h7,hvx⟩:=BO (w:=w') res hM2 (hvr.mono (λ_ _=>rfl) (λ_ h=>.inr h) (λ_ _=>rfl)) hnd (λb hb=>by
   obtain ⟨h8,h9,h10⟩:=AN hM (hex b hb).2;exact ⟨λh=>h.elim h8 (hex b hb).1,h9,h10,.inl (zXQ hM.sizes (hex b hb).2)⟩) hr
  obtain ⟨rfl,rfl⟩:=gK h7;exact ⟨g3,hG.mem,hvx,hE2.trans hG.ext,hG.tm⟩
def ST:Nat->Prop:=λ_=>False
def gM(w:World)(D:Nat->Prop):Gh:={ F:=ST,ob:=λ_=>0,rw:=λ_=>.nilFunc,D:=D,dw:=w,sh:=gi }
def A.mk1:A->Bool
 | .t x=>x.sc
 | .ext gi _=>gi
 | .undef=>gi
 | _=>go
def A.mk:A->Bool
 | .agg l=>l.all A.mk1
 | a=>a.mk1
def A.isX:A->Bool
 | .ext gi _=>gi
 | _=>go
def A.hasX:A->Bool
 | .agg l=>l.any A.isX
 | a=>a.isX
def MOK(P:Program)(f:FuncId)(jo:Os)(n:T):Prop :=
 n.sc=gi/\AO P f/\∀ (w:World) (D:Nat->Prop) (vs:List Value),(∀ b,D b->b < w.heap.size/\Wr w b)->vs.length=jo.length ->
  (∀ (j:Nat) (x:A),jo[j]?=ac x->∃ u,vs[j]?=ac u/\VR w (gM w D) ST ST x u)->W9 P w D ->
  Calls P f vs.toArray w λe w'=>∃ v,e=.returned v/\Rd w' ST n v/\vu w w'/\(∀ b,b < w.heap.size->¬ D b->w'.heap[b]?=w.heap[b]?)/\∀ b,D b->KS w w' b
theorem qfG{O R:Nat->Prop}{x:A}{v:Value}(hM:io E g st w)(hs:g.sh=gi)(h:VR w g O R x v)(hk:x.mk1=gi):VR w (gM w g.D) ST ST x v:=by
 cases h with
 | t x v h=>exact .t x v (h.sc hk)
 | ext s x v hs' h =>
  rw [hs] at hs';subst hs';exact .ext gi x v rfl (h.ks λb hb=>hM.nowK hs hb)
 | undef v=>exact .undef v
 | _=>simp [A.mk1] at hk
theorem qjr{O R:Nat->Prop}{x:A}{v:Value}(hM:io E g st w)(hs:g.sh=gi)(h:VR w g O R x v)(hk:x.mk=gi):VR w (gM w g.D) ST ST x v:=by
 cases x with
 | agg l =>
  cases h with
  | agg l vs hl h=>exact .agg l vs hl λi x v hi hv=>qfG hM hs (h i x v hi hv) (zm.1 hk x (zQQ hi))
 | _=>exact qfG hM hs h hk
theorem qhn{O R:Nat->Prop}{x:A}{v:Value}(h:VR w g O R x v)(hk:x.hasX=gi):g.sh=true:=by
 have key:∀ {x:A} {v:Value},VR w g O R x v->x.isX=true->g.sh=true:=by
  intro x v h hk
  cases h with
  | ext s x v hs' h=>cases s with
   | true=>exact hs'
   | false=>cases hk
  | _=>cases hk
 cases x with
 | agg l =>
  cases h with
  | agg l vs hl h =>
   obtain ⟨x,hx,hk⟩:=List.any_eq_true.1 hk;obtain ⟨i,hi⟩:=zZV hx;have hlt:i < vs.length:=by rw [<- hl]; exact (ln.1 hi).1
   exact key (h i x _ hi (sX hlt)) hk
 | _=>exact key h hk
theorem qaE{n f:Nat}{o:Oper}{xf:Operand}{args:Array Operand}{ts:Array TypeId}{jo:Os}{r:T}
  (hS:lj E g n st a w) (ho:o.op=.call { callee:=.value xf,args,argTypes:=ts }) (hf:st.eval xf=ac (.clo f [])) (oC:eQ (args.toList.map st.eval)=ac jo)
  (hk:jo.all A.mk=gi) (hx:jo.any A.hasX=gi) (hc:MOK P f jo r):D3 P o a w λv w'=>∃ g',D1 E g st w (.t r) st v g' w':=by
 have hM:=hS.mem;obtain ⟨hsc,hcl,hcc⟩:=hc;have hvf:=cm hS hf;generalize hvv:a.eval xf=vf at hvf;obtain ⟨ha1,ha2⟩:=Gs hS oC;have hsh:g.sh=true:=by
  obtain ⟨x,hxm,hxx⟩:=List.any_eq_true.1 hx;obtain ⟨i,hi⟩:=zZV hxm;have hlt:i < (args.toList.map a.eval).length:=by rw [<- ha1]; exact (ln.1 hi).1
  exact qhn (ha2 i x _ hi (sX hlt)) hxx
 cases hvf with
 | clo f caps vcaps hl hx' =>
  have:vcaps=[]:=zQZ hl.symm;subst this;refine lR ho hvv hcl ?_;rw [zWV];refine (hcc w g.D (args.toList.map a.eval) (λb hb=>?_) ha1.symm (λj x hj=>?_) (hM.tbW λb _ _ h h2=>h (by obtain ⟨h5,_,h6⟩:=hM.dep0.1; exact ⟨h6 ▸ hsh,h5 ▸ h2⟩))).mono λe w' ⟨v,he,hr,hcalm,hsame,hks⟩=>⟨v,he,?_⟩
  ·exact ⟨zWW (hM.dep b hb).2.1 hM.sizes,(hM.nowK hsh hb).wr⟩
  ·have hlt:j < (args.toList.map a.eval).length:=by rw [<- ha1]; exact (ln.1 hj).1
   exact ⟨_,sX hlt,qjr hM hsh (ha2 j x _ hj (sX hlt)) (zm.1 hk x (zQQ hj))⟩
  obtain ⟨hM2,hE2⟩:=hM.stepD hsh hcalm hsame hks;exact ⟨g,hM2,.t _ _ (hr.sc hsc),hE2,rfl⟩
def ROK(P:Program)(f:FuncId)(e sz:Nat)(rows:it)(args:List V)(res:T)(rows':it):Prop :=
 res.sc=gi/\AO P f/\∀ (w:World) (F:Nat->Prop) (v:Value) (vs:List Value) (inner:List Value),(∀ b,F b->b < w.heap.size)->w.ownsRow 0 e sz v rows.length inner->HT w F sz rows inner ->
  (∀ b,v.ownBlock=ac b->¬ F b)->IJ w F args vs []->W9 P w (λb=>v.ownBlock=ac b) ->
  Calls P f (v :: vs).toArray w λex w'=>∃ u inner',ex=.returned u/\Rd w' ST res u/\vu w w'/\(∀ b,b < w.heap.size->v.ownBlock≠ac b->w'.heap[b]?=w.heap[b]?) /\
   w'.ownsRow 0 e sz v rows'.length inner'/\HT w' F sz rows' inner'
theorem qaF{n f r e sz:Nat}{rows rows':it}{o:Oper}{xf:Operand}{args:Array Operand}{ts:Array TypeId}{jo:Os}{vs:List V}{res:T}
  (hS:lj E g n st a w) (ho:o.op=.call { callee:=.value xf,args,argTypes:=ts }) (hf:st.eval xf=ac (.clo f [])) (oC:eQ (args.toList.map st.eval)=ac (.own r :: jo))
  (hrw:st.rw r=ac (.live e sz rows)) (hp:(fj jo MA.ret).run st=ac (vs,st)) (hpl:AP vs) (hc:ROK P f e sz rows vs res rows') :
  D3 P o a w λv w'=>∃ g',D1 E g st w (.t res) { st with rw:=gB st.rw r (ac (.live e sz rows')) } v g' w':=by
 have hM:=hS.mem;obtain ⟨hsc,hcl,hcc⟩:=hc;have hvf:=cm hS hf;generalize hvv:a.eval xf=vf at hvf;obtain ⟨ha1,ha2⟩:=Gs hS oC;have hL:st.L r:=⟨e,sz,rows,hrw⟩
 cases hvf with
 | clo f caps vcaps hl hx' =>
  have:vcaps=[]:=zQZ hl.symm;subst this;refine lR ho hvv hcl ?_;rw [zWV];generalize args.toList.map a.eval=us at ha1 ha2
  match us,ha1 with
  | u0 :: us,ha1 =>
   have h0:=ha2 0 (.own r) u0 rfl rfl
   cases h0 with
   | own _ hR =>
   obtain ⟨cs,h1,hVV⟩:=BP (vs:=us) jo hM (by simpa using ha1.symm) (λj y hj=>by
    have hlt:j < us.length:=by
     have:=(ln.1 hj).1;simp at ha1; omega
    exact ⟨_,sX hlt,ha2 (j+1) y _ wz9 ig⟩) hp
   obtain ⟨rfl,_⟩:=gK h1;obtain ⟨inner,hown,hRC,_⟩:=(hM.row r _ hrw).rcs;refine (hcc w g.F (g.rw r) us inner (λb hb=>(hM.F b hb).1) hown hRC (λb hb=>(hM.row_nf hL hb).1) (hVV.plain hpl) (hM.tbW λb h1 h2 _ h3=>(hM.row_nf hL h3).2.elim (λh=>absurd h1 (Nat.not_lt.2 h)) h2)).mono λex w' ⟨u,inner',he,hu,hcalm,hsame,hown',hRC'⟩=>⟨u,he,?_⟩;obtain ⟨hM2,hE2⟩:=hM.set_row hcalm r _ e sz rows' hrw hL hsame (hRC'.rowAt (E:=E) (g:=g) hown' (λb hb=>hM.row_nf hL hb));exact ⟨g,hM2,.t _ _ (hu.sc hsc),hE2,rfl⟩
end
section
variable {P:Program} {E:En} [Tb P E] {g:Gh} {st st':St} {a:Act} {w:World}
def Y4(P:Program)(f:FuncId)(args xs:List V)(res:V)(outs:List (List C)):Prop :=
 AO P f/\∀ (w:World) (F D:Nat->Prop) (vs us:List Value) (bs:IO),(∀ b,F b->b < w.heap.size)->(∀ b,D b->b < w.heap.size/\b∉bs)->IJ w F args vs bs->IJ w D xs us []->bs.Nodup->(∀ b∈bs,¬ F b)->W9 P w (λb=>b∈bs) ->
  Calls P f (vs++us).toArray w λe w'=>∃ v F' bv bo,e=.returned v/\vu w w'/\(∀ b,b < w.heap.size->b∉bs->w'.heap[b]?=w.heap[b]?)/\(∀ b,F b->F' b) /\
   (∀ b,F' b->b < w'.heap.size/\(b < w.heap.size->F b\/b∈bs)/\(F b\/Wr w' b))/\VV w' F' res v bv/\ud w' F' args vs outs bo/\(bv++bo).Nodup/\∀ b∈bv++bo,¬ F' b/\(w.heap.size<=b\/b∈bs)
theorem qaG{n d f:Nat}{m:Bool}{p:Nat->Bool}{o:Oper}{xf:Operand}{args:Array Operand}{ts:Array TypeId}{az caps jo xs:Os}{vs us:List V}{st1:St}{res:V}{outs:List (List C)}{x:A}
  (hS:lj E g n st a w) (ho:o.op=.call { callee:=.value xf,args,argTypes:=ts }) (hf:st.eval xf=ac (.clo f caps)) (oC:eQ (args.toList.map st.eval)=ac az) (hcat:az++caps=jo++xs)
  (hp:(jY m p jo MA.ret).run st=ac (vs,st1)) (hq:(fj xs MA.ret).run st1=ac (us,st1)) (hc:Y4 P f vs us res outs) (hr:(eC d (fh jo) outs (V.toA d (ip d 0) res MA.ret)).run st1=ac (x,st')) :
  D3 P o a w λv w'=>∃ g',D1 E g st w x st' v g' w':=by
 have hM:=hS.mem;obtain ⟨hcl,hcc⟩:=hc;have hvf:=cm hS hf;generalize hvv:a.eval xf=vf at hvf
 cases hvf with
 | clo f caps vcaps hl hx =>
  refine lR ho hvv hcl ?_;obtain ⟨ha1,ha2⟩:=Gs hS oC;generalize hval:args.toList.map a.eval++vcaps=vals;have hv:∀ (j:Nat) (y:A),(jo++xs)[j]?=ac y->∃ u,vals[j]?=ac u/\VR w g st.O st.R y u:=λj y hj=>by
   rw [<- hcat,zWx] at hj;rw [<- hval]
   split at hj
   ·rename_i hlt;have hlt':j < (args.toList.map a.eval).length:=by rw [<- ha1]; exact hlt
    exact ⟨_,by rw [zQW hlt']; exact sX hlt',ha2 j y _ hj (sX hlt')⟩
   ·rename_i hge;have hlt:j - az.length < vcaps.length:=by rw [<- hl]; exact (ln.1 hj).1
    exact ⟨_,by rw [zQX qel,<- ha1]; exact sX hlt,hx _ y _ hj (sX hlt)⟩
  have hvl:vals.length=jo.length+xs.length:=by
   rw [<- hval,zQH,<- ha1,<- hl,<- zQH,hcat,zQH]
  rw [<- zXv jo.length vals];obtain ⟨cs,st1',g1,bs,hM1,hE1,hL1,h1,hVV,hT,hA,hsl⟩:=BN (vs:=vals.take jo.length) jo hM (by simp [hvl]) (λj y hj=>by
   have hlt:j < jo.length:=(ln.1 hj).1;obtain ⟨u,h5,h6⟩:=hv j y (by rw [zQW hlt]; exact hj);exact ⟨u,by rw [zQy,if_pos hlt]; exact h5,h6⟩) hp
  obtain ⟨rfl,rfl⟩:=gK h1;have hbsX:∀ b∈bs,b < E.w0.heap.size->E.X b:=λb hb hlt=>by
   rcases hT.of b hb with ⟨r,h2,_,h4⟩ | ⟨s,⟨c,cs,h2⟩,_,h4⟩
   ·rcases (hM.row_nf h2 h4).2 with h5 | h5
    ·omega
    ·exact h5
   ·rcases (hM.ob_nf (s:=s) wz7).2 with h5 | h5
    ·omega
    ·exact h4 ▸ h5
  have hbsrow:∀ b∈bs,∀ r,st1.L r->(g1.rw r).ownBlock≠ac b:=λb hb r hr he=>by
   rw [hL1.rw] at he;rcases hT.of b hb with ⟨r',h2,h3,h4⟩ | ⟨s,⟨c,cs,h2⟩,_,h4⟩
   ·exact h3 (hM.rowne r r' b (hL1.L r hr) h2 he h4 ▸ hr)
   ·exact hM.rowob r s (hL1.L r hr) wz7 (h4 ▸ he)
  have hbsob:∀ b∈bs,∀ s,st1.O s->g1.ob s=b->st1.ob s=ac []/\s∈fh jo:=λb hb s hs he=>by
   rw [hL1.ob] at he;have hs':st.O s:=(hL1.O s).1 hs;rcases hT.of b hb with ⟨r',h2,h3,h4⟩ | ⟨s',⟨c,cs,h2⟩,h3,h4⟩
   ·exact absurd (he ▸ h4) (hM.rowob r' s h2 hs')
   ·have:=hM.obne s s' hs' wz7 (he.trans h4.symm);subst this;exact ⟨h3,hsl s qg6⟩
  obtain ⟨us',h9,hUU⟩:=BP (vs:=vals.drop jo.length) xs hM1 (by simp [hvl]) (λj y hj=>by
   obtain ⟨u,h5,h6⟩:=hv (jo.length+j) y (by rw [zQX al]; simpa using hj);exact ⟨u,by rw [zQx]; exact h5,h6.mono hE1⟩) hq
  obtain ⟨rfl,_⟩:=gK h9;have hall:∀ b,g1.all st1 b->b < w.heap.size/\b∉bs:=λb hb=>⟨hM1.all_lt hb,λhbs=>by
   rcases hb with h5 | ⟨r,h5,h6⟩ | ⟨_,h5⟩
   ·exact hT.nf b hbs h5
   ·exact hbsrow b hbs r h5 h6
   ·obtain ⟨_,h6,h7,_⟩:=hM1.dep b h5;exact h7 (hbsX b hbs h6)⟩
  refine (hcc w g1.F (g1.all st1) _ _ bs (λb hb=>(hM1.F b hb).1) hall hVV hUU hT.nodup hT.nf (hM.tbW λb h1 h2 _ h3=>h2 (hbsX b h3 h1))).mono λe w' ⟨v,F',bv,bo,he,hcalm,hsame,hFF,hF',hvr,hO,hnd,hex⟩=>⟨v,he,?_⟩
  -- the caller's memory behind the call
  have hF0:∀ b,b < w.heap.size->F' b->g1.F b\/b∈bs:=λb h2 h3=>(hF' b h3).2.1 h2;have hA1:vw g1 jo vs (vals.take jo.length):=hA.congr' hL1.ob;have hexF:∀ b∈bs,F' b->False\/True:=λ_ _ _=>.inr trivial;have hlentF:∀ s,s∈fh jo->g1.ob s∈bo:=ud.mem hA1 hO;obtain ⟨hM2,hE2⟩:=hM1.step (w':=w') (g':={ g1 with F:=F' }) (st':=st1) hcalm (λb=>b∈bs) (λb h2 h3=>hsame b h2 h3) (λb hb=>hT.nf b hb) (λb h2 h3=>hbsX b h3 h2) hFF
   (λb h2 h3=>⟨(hF' b h2).1,λhlt=>(hF0 b (zWW hlt hM1.sizes) h2).elim (λh4=>absurd h4 h3) (λh4=>.inr (hbsX b h4 hlt)),.inr ((hF' b h2).2.2.resolve_left h3)⟩) (λ_ h=>⟨h,rfl⟩) (λ_ h=>⟨h,rfl⟩)
   (λs cells hs=>by
    have hOs:st1.O s:=by simp [St.O,hs]
    by_cases hb:g1.ob s∈bs
    ·obtain ⟨h5,h6⟩:=hbsob _ hb s hOs rfl;rw [hs] at h5
     cases h5
     obtain ⟨arr,e,hh⟩:=KJ hA1 hO s h6;refine .inr ⟨arr,e,hh,by simp,by simp,?_,(hM1.ob_nf hOs).2⟩;exact (hex _ (sa.2 (.inr (hlentF s h6)))).1
    ·refine .inl ⟨hs,hb,λhf=>?_⟩;rcases hF0 _ (hM1.ob_lt hOs) hf with h5 | h5
     ·exact (hM1.ob_nf hOs).1 h5
     ·exact hb h5) hM1.obne
   (λr x hr=>.inl ⟨hr,λhL b hb=>⟨λhm=>hbsrow b hm r hL hb,λhf=>by
    rcases hF0 b (hM1.row_lt hL hb) hf with h5 | h5
    ·exact (hM1.row_nf hL hb).1 h5
    ·exact hbsrow b h5 r hL hb⟩⟩) hM1.rowne hM1.rowob
  have hI:Inv E { g1 with F:=F' } st1 (fh jo) (bo++bv):=by
   have hm:∀ x,x∈bo++bv->x∈bv++bo:=λx hx=>by
    rcases sa.1 hx with h | h <;> simp [h]
   refine ⟨?_,λb hb=>(hex b (hm b hb)).1,λb hb=>?_,λb hb r hr he=>?_,λb hb s hs he=>?_⟩
   ·rw [zYW] at hnd ⊢;exact ⟨hnd.2.1,hnd.1,λx hx y hy h=>hnd.2.2 y hy x hx h.symm⟩
   ·rcases (hex b (hm b hb)).2 with h5 | h5
    ·exact .inl (zXQ hM1.sizes h5)
    ·by_cases hlt:b < E.w0.heap.size
     ·exact .inr (hbsX b h5 hlt)
     ·exact .inl al
   ·rcases (hex b (hm b hb)).2 with h5 | h5
    ·exact absurd (hM1.row_lt hr he) al
    ·exact hbsrow b h5 r hr he
   ·rcases (hex b (hm b hb)).2 with h5 | h5
    ·exact absurd (hM1.ob_lt hs) qg7
    ·exact (hbsob b h5 s hs he).2
  have hA2:vw { g1 with F:=F' } jo vs (vals.take jo.length):=hA1.congr' (g:=g1) (g1:={ g1 with F:=F' }) rfl;obtain ⟨st2,g2,hM3,hE3,hF3,ht3,h6,hI3⟩:=wF (w:=w') hM2 hA2 hO hI hr;obtain ⟨x',st3,g3,hG,h7,hvx⟩:=BO (w:=w') res hM3 (by rw [hF3]; exact hvr) hI3.nodup (λb hb=>⟨hI3.F b hb,λs hs he=>by have:=hI3.ob b hb s hs he; simp at this,hI3.row b hb,hI3.X b hb⟩) h6;obtain ⟨rfl,rfl⟩:=gK h7;exact ⟨g3,hG.mem,hvx,((hE1.trans hE2).trans hE3).trans hG.ext,hG.tm.trans (ht3.trans hL1.tm)⟩
end
def A.tC:A->Option C
 | .t x=>ac (.t x)
 | _=>cl
def X9:Os->Option (List C)
 | []=>ac []
 | a :: r=>match a.tC,X9 r with | some c,ac cs=>ac (c :: cs) | _,_=>cl
def A.tV:A->Option V
 | .t x=>ac (.one (.t x))
 | .agg l=>(X9 l).map .agg
 | _=>cl
def LA:Os->Option (List V)
 | []=>ac []
 | a :: r=>match a.tV,LA r with | some c,ac cs=>ac (c :: cs) | _,_=>cl
section
variable {w:World} {g:Gh} {O R:Nat->Prop}
theorem qjs{a:A}{c:C}{u:Value}(h:a.tC=ac c)(hv:VR w g O R a u):CV w g.F c u []:=by
 cases a <;> simp only [A.tC,Option.some.injEq,reduceCtorEq] at h
 subst h
 cases hv with
 | t _ _ h=>exact .t _ _ h
theorem qfH:∀ {l:Os} {cs:List C} {us:List Value},X9 l=ac cs->l.length=us.length->(∀ (j:Nat) (x:A) (u:Value),l[j]?=ac x->us[j]?=ac u->VR w g O R x u)->SS w g.F cs us []
 | [],cs,us,h,hl,_=>by
  cases h
  have:us=[]:=zQZ hl.symm;subst this;exact .nil
 | a :: l,cs,us,h,hl,hv=>by
  unfold X9 at h
  split at h
  ·rename_i c cs' h1 h2
   cases h
   cases us with
   | nil=>simp at hl
   | cons u us =>
    exact .cons c u [] cs' us [] (qjs h1 (hv 0 a u rfl rfl)) (qfH h2 wz5 λj x u h3 h4=>hv (j+1) x u (by simpa using h3) (by simpa using h4))
  ·cases h
theorem qjt{a:A}{c:V}{u:Value}(h:a.tV=ac c)(hv:VR w g O R a u):VV w g.F c u []:=by
 cases a <;> simp only [A.tV,Option.some.injEq,zWk,reduceCtorEq] at h
 ·subst h
  cases hv with
  | t _ _ h=>exact .one _ _ [] (.t _ _ h)
 ·obtain ⟨cs,h1,rfl⟩:=h
  cases hv with
  | agg l vs hl hx=>exact .agg cs vs [] (qfH h1 hl hx)
theorem qfI:∀ {l:Os} {cs:List V} {us:List Value},LA l=ac cs->l.length=us.length->(∀ (j:Nat) (x:A) (u:Value),l[j]?=ac x->us[j]?=ac u->VR w g O R x u)->IJ w g.F cs us []
 | [],cs,us,h,hl,_=>by
  cases h
  have:us=[]:=zQZ hl.symm;subst this;exact .nil
 | a :: l,cs,us,h,hl,hv=>by
  unfold LA at h
  split at h
  ·rename_i c cs' h1 h2
   cases h
   cases us with
   | nil=>simp at hl
   | cons u us =>
    exact .cons c u [] cs' us [] (qjt h1 (hv 0 a u rfl rfl)) (qfI h2 wz5 λj x u h3 h4=>hv (j+1) x u (by simpa using h3) (by simpa using h4))
  ·cases h
theorem qiu{a:A}{c:C}{u:Value}{bs:IO}(h:a.tC=ac c)(hv:CV w g.F c u bs):VR w g O R a u:=by
 cases a <;> simp only [A.tC,Option.some.injEq,reduceCtorEq] at h
 subst h
 cases hv with
 | t _ _ h=>exact .t _ _ h
theorem qfJ:∀ {l:Os} {cs:List C} {us:List Value} {bs:IO},X9 l=ac cs->SS w g.F cs us bs->l.length=us.length/\∀ (j:Nat) (x:A) (u:Value),l[j]?=ac x->us[j]?=ac u->VR w g O R x u
 | [],cs,us,bs,h,hv=>by
  cases h
  cases hv
  exact ⟨rfl,λj x u h=>by simp at h⟩
 | a :: l,cs,us,bs,h,hv=>by
  unfold X9 at h
  split at h
  ·rename_i c cs' h1 h2
   cases h
   cases hv with
   | cons _ u b _ us bs h3 h4 =>
    obtain ⟨h5,h6⟩:=qfJ h2 h4;refine ⟨by simp [h5],λj x u' h7 h8=>?_⟩
    cases j with
    | zero=>simp at h7 h8; subst h7 h8; exact qiu h1 h3
    | succ j=>exact h6 j x u' (by simpa using h7) (by simpa using h8)
  ·cases h
theorem qju{a:A}{c:V}{u:Value}{bs:IO}(h:a.tV=ac c)(hv:VV w g.F c u bs):VR w g O R a u:=by
 cases a <;> simp only [A.tV,Option.some.injEq,zWk,reduceCtorEq] at h
 ·subst h
  cases hv with
  | one _ v _ h=>exact qiu rfl h
 ·obtain ⟨cs,h1,rfl⟩:=h
  cases hv with
  | agg _ vs _ h =>
   obtain ⟨h2,h3⟩:=qfJ (O:=O) (R:=R) h1 h;exact .agg _ vs h2 h3
theorem qfK:∀ {l:Os} {cs:List V} {us:List Value} {bs:IO},LA l=ac cs->IJ w g.F cs us bs->l.length=us.length/\∀ (j:Nat) (x:A) (u:Value),l[j]?=ac x->us[j]?=ac u->VR w g O R x u
 | [],cs,us,bs,h,hv=>by
  cases h
  cases hv
  exact ⟨rfl,λj x u h=>by simp at h⟩
 | a :: l,cs,us,bs,h,hv=>by
  unfold LA at h
  split at h
  ·rename_i c cs' h1 h2
   cases h
   cases hv with
   | cons _ u b _ us bs h3 h4 =>
    obtain ⟨h5,h6⟩:=qfK h2 h4;refine ⟨by simp [h5],λj x u' h7 h8=>?_⟩
    cases j with
    | zero=>simp at h7 h8; subst h7 h8; exact qju h1 h3
    | succ j=>exact h6 j x u' (by simpa using h7) (by simpa using h8)
  ·cases h
end
section
variable {P:Program} {E:En} [Tb P E] {g:Gh} {st st':St} {a:Act} {w:World}
def R6(P:Program)(f:FuncId)(e:TypeId)(ts:Or)(rows:it)(args:List V)(lo m:Nat):Prop :=
 AO P f/\∀ (w:World) (F:Nat->Prop) (v:Value) (us vs inner:List Value),(∀ b,F b->b < w.heap.size)->w.ownsRow 0 e 1 v rows.length inner->HT w F 1 rows inner->(∀ b,v.ownBlock=ac b->¬ F b) ->
  us.length=ts.length->(∀ (j:Nat) (x:T) (u:Value),ts[j]?=ac x->us[j]?=ac u->Rd w F x u)->IJ w F args vs []->W9 P w (λb=>v.ownBlock=ac b) ->
  Calls P f (Value.agg (us++[v]).toArray :: vs).toArray w λex w'=>∃ ad n c a' c' inner',v=.slice ad n c/\ex=.returned (.slice a' m c')/\lo+m<=n/\(0 < m->∃ b,ad=ac ⟨b,0,cl⟩/\a'=ac ⟨b,lo,cl⟩)/\vu w w' /\
   (∀ b,b < w.heap.size->v.ownBlock≠ac b->w'.heap[b]?=w.heap[b]?)/\w'.ownsRow 0 e 1 v rows.length inner'/\HT w' F 1 rows inner'
theorem qaH{n f r e lo m:Nat}{ts:Or}{rows:it}{o:Oper}{xf:Operand}{args:Array Operand}{tys:Array TypeId}{jo:Os}{vs:List V}
  (hS:lj E g n st a w) (ho:o.op=.call { callee:=.value xf,args,argTypes:=tys }) (hf:st.eval xf=ac (.clo f [])) (oC:eQ (args.toList.map st.eval)=ac (.agg (ts.map A.t++[.own r]) :: jo))
  (hrw:st.rw r=ac (.live e 1 rows)) (hp:LA jo=ac vs) (hc:R6 P f e ts rows vs lo m) :
  D3 P o a w λv w'=>∃ g',D1 E g st w (.win r lo m) st v g' w':=by
 have hM:=hS.mem;obtain ⟨hcl,hcc⟩:=hc;have hvf:=cm hS hf;generalize hvv:a.eval xf=vf at hvf;obtain ⟨ha1,ha2⟩:=Gs hS oC;have hL:st.L r:=⟨e,1,rows,hrw⟩
 cases hvf with
 | clo f caps vcaps hl hx' =>
  have:vcaps=[]:=zQZ hl.symm;subst this;refine lR ho hvv hcl ?_;rw [zWV];generalize args.toList.map a.eval=us at ha1 ha2
  match us,ha1 with
  | u0 :: us,ha1 =>
   have h0:=ha2 0 _ u0 rfl rfl
   cases h0 with
   | agg _ cells hcl hcx =>
    have hlen:cells.length=ts.length+1:=by rw [<- hcl]; simp
    obtain ⟨us0,v,hcells,hus⟩:∃ us0 v,cells=us0++[v]/\us0.length=ts.length:=⟨cells.take ts.length,cells[ts.length]'al,by
     rw [show [cells[ts.length]'al]=cells.drop ts.length by rw [zYZ al]; simp [List.drop_eq_nil_of_le (show cells.length<=ts.length+1 by omega)],zXv],by simp; omega⟩
    subst hcells;have hv:=hcx ts.length (.own r) v ig (by rw [<- hus]; simp)
    cases hv with
    | own _ hR =>
    have hVV:IJ w g.F vs us []:=qfI hp (by simpa using ha1) λj x u h3 h4=>ha2 (j+1) x u (by simpa using h3) (by simpa using h4);have hts:∀ (j:Nat) (x:T) (u:Value),ts[j]?=ac x->us0[j]?=ac u->Rd w g.F x u:=λj x u h3 h4=>by
     have hlt:j < ts.length:=(ln.1 h3).1;have:=hcx j (.t x) u (by rw [zQW YZ]; simp [h3]) (by rw [zQW al]; exact h4)
     cases this with
     | t _ _ h=>exact h
    obtain ⟨inner,hown,hRC,_⟩:=(hM.row r _ hrw).rcs;refine (hcc w g.F (g.rw r) us0 us inner (λb hb=>(hM.F b hb).1) hown hRC (λb hb=>(hM.row_nf hL hb).1) hus hts hVV (hM.tbW λb h1 h2 _ h3=>(hM.row_nf hL h3).2.elim (λh=>absurd h1 (Nat.not_lt.2 h)) h2)).mono λex w' ⟨ad,n',c,a',c',inner',hv,he,hm,hpp,hcalm,hsame,hown',hRC'⟩=>⟨_,he,?_⟩;obtain ⟨hM2,hE2⟩:=hM.set_row hcalm r _ e 1 rows hrw hL hsame (hRC'.rowAt (E:=E) (g:=g) hown' (λb hb=>hM.row_nf hL hb));rw [Un hrw] at hM2 hE2;exact ⟨g,hM2,.win r lo m n' c c' ad a' hR hv hm hpp,hE2,rfl⟩
end
structure Dom where
 oR:Nat->Prop
 oW:Nat->Prop
 rR:Nat->Prop
 rW:Nat->Prop
def MA.In{α:Type}(D:Dom):MA α->Prop
 | .ret _=>True
 | .fail=>True
 | .getOb s k=>D.oR s/\∀ x,(k x).In D
 | .getRw r k=>D.rR r/\∀ x,(k x).In D
 | .setOb s _ k=>D.oW s/\k.In D
 | .setRw r _ k=>D.rW r/\k.In D
structure Off (D:Dom) (st st':St):Prop where
 tm:st'.tm=st.tm
 ob:∀ s,¬ D.oW s->st'.ob s=st.ob s
 rw:∀ r,¬ D.rW r->st'.rw r=st.rw r
structure On (D:Dom) (st st':St):Prop where
 ob:∀ s,D.oR s->st'.ob s=st.ob s
 rw:∀ r,D.rR r->st'.rw r=st.rw r
structure Dom.ok (D:Dom):Prop where
 ob:∀ s,D.oW s->D.oR s
 rw:∀ s,D.rW s->D.rR s
theorem Off.refl(D:Dom)(st:St):Off D st st:=⟨rfl,λ_ _=>rfl,λ_ _=>rfl⟩
theorem Off.trans{D:Dom}{a b c:St}(h:Off D a b)(h':Off D b c):Off D a c :=
 ⟨h'.tm.trans h.tm,λs hs=>(h'.ob s hs).trans (h.ob s hs),λs hs=>(h'.rw s hs).trans (h.rw s hs)⟩
theorem qco{α:Type}{f g:Nat->α}{k j:Nat}{c:α}(h:f j=g j):gB f k c j=gB g k c j:=by
 simp only [gB,h]
theorem ro{α:Type}{D:Dom}:∀ (m:MA α) {st st':St} {x:α},m.In D->m.run st=ac (x,st') ->
  Off D st st'/\∀ st2,On D st st2->∃ st2',m.run st2=ac (x,st2')/\Off D st2 st2'/\On D st' st2'
 | .ret v,st,st',x,_,h=>by
  obtain ⟨rfl,rfl⟩:=gK h;exact ⟨Off.refl _ _,λst2 h2=>⟨st2,rfl,Off.refl _ _,h2⟩⟩
 | .fail,st,st',x,_,h=>(aQ h).elim
 | .getOb s k,st,st',x,hi,h=>by
  obtain ⟨h1,h2⟩:=ro (k (st.ob s)) (hi.2 _) h;refine ⟨h1,λst2 ho=>?_⟩;simp only [MA.run,ho.ob s hi.1];exact h2 st2 ho
 | .getRw s k,st,st',x,hi,h=>by
  obtain ⟨h1,h2⟩:=ro (k (st.rw s)) (hi.2 _) h;refine ⟨h1,λst2 ho=>?_⟩;simp only [MA.run,ho.rw s hi.1];exact h2 st2 ho
 | .setOb s c k,st,st',x,hi,h=>by
  simp only [MA.run] at h;obtain ⟨h1,h2⟩:=ro k hi.2 h;refine ⟨⟨h1.tm,λs' hs'=>?_,h1.rw⟩,λst2 ho=>?_⟩
  ·rw [h1.ob s' hs'];exact cX _ _ _ _ (λhe=>hs' (he ▸ hi.1))
  ·obtain ⟨st2',h3,h4,h5⟩:=h2 { st2 with ob:=gB st2.ob s (ac c) } ⟨λs' hs'=>qco (ho.ob s' hs'),ho.rw⟩;refine ⟨st2',h3,⟨h4.tm,λs' hs'=>?_,h4.rw⟩,h5⟩;rw [h4.ob s' hs'];exact cX _ _ _ _ (λhe=>hs' (he ▸ hi.1))
 | .setRw s c k,st,st',x,hi,h=>by
  simp only [MA.run] at h;obtain ⟨h1,h2⟩:=ro k hi.2 h;refine ⟨⟨h1.tm,h1.ob,λs' hs'=>?_⟩,λst2 ho=>?_⟩
  ·rw [h1.rw s' hs'];exact cX _ _ _ _ (λhe=>hs' (he ▸ hi.1))
  ·obtain ⟨st2',h3,h4,h5⟩:=h2 { st2 with rw:=gB st2.rw s (ac c) } ⟨ho.ob,λs' hs'=>qco (ho.rw s' hs')⟩;refine ⟨st2',h3,⟨h4.tm,h4.ob,λs' hs'=>?_⟩,h5⟩;rw [h4.rw s' hs'];exact cX _ _ _ _ (λhe=>hs' (he ▸ hi.1))
mutual
def A.inR(Q:Nat->Prop):A->Prop
 | .own r=>Q r
 | .elem r _ _ _=>Q r
 | .sub r _ _=>Q r
 | .win r _ _=>Q r
 | .agg l=>hZ Q l
 | .tup l=>hZ Q l
 | .clo _ l=>hZ Q l
 | _=>True
def hZ(Q:Nat->Prop):Os->Prop
 | []=>True
 | a :: r=>a.inR Q/\hZ Q r
end
mutual
theorem KK{Q:Nat->Prop}(h:∀ r,Q r):∀ a:A,a.inR Q
 | .own r=>by unfold A.inR; exact h r
 | .elem r _ _ _=>by unfold A.inR; exact h r
 | .sub r _ _=>by unfold A.inR; exact h r
 | .win r _ _=>by unfold A.inR; exact h r
 | .agg l=>by unfold A.inR; exact vz h l
 | .tup l=>by unfold A.inR; exact vz h l
 | .clo _ l=>by unfold A.inR; exact vz h l
 | .t _ | .nil | .obj _ _ | .fadr _ | .nn _ _ | .undef | .raw _ | .osl _ _ _ _ | .ext _ _ | .exa _ _ | .shp _=>by unfold A.inR; trivial
theorem vz{Q:Nat->Prop}(h:∀ r,Q r):∀ l:Os,hZ Q l
 | []=>by unfold hZ; trivial
 | a :: r=>by unfold hZ; exact ⟨KK h a,vz h r⟩
end
theorem UY{Q:Nat->Prop}:∀ {l:Os},hZ Q l->∀ a∈l,a.inR Q
 | [],_,a,h=>by simp at h
 | x :: l,hl,a,h=>by
  unfold hZ at hl;rcases Ir.1 h with rfl | h
  ·exact hl.1
  ·exact UY hl.2 a h
theorem wG{Q:Nat->Prop}:∀ {l:Os},(∀ a∈l,a.inR Q)->hZ Q l
 | [],_=>by unfold hZ; trivial
 | x :: l,h=>by unfold hZ; exact ⟨h x ig,wG (λa ha=>h a (by simp [ha]))⟩
theorem H5{Q:Nat->Prop}{a:A}(h:a.inR Q):hZ Q a.cells:=by
 cases a <;> simp only [A.cells] <;> first | (unfold A.inR at h; exact h) | (unfold hZ; exact ⟨h,by unfold hZ; trivial⟩)
section
variable {D:Dom} {α:Type}
theorem qcp{a:A}{k:T->MA α}(ha:a.inR λr=>D.rR r/\D.rW r)(hk:∀ x,(k x).In D):(a.toT k).In D:=by
 cases a <;> simp only [A.toT,MA.In] <;> first | exact hk _ | trivial | skip
 unfold A.inR at ha;refine ⟨ha.1,λx=>?_⟩;rcases x with _ | (_ | _ | _) <;> simp only [MA.In] <;> first | exact hk _ | exact ⟨ha.2,hk _⟩
theorem KM:∀ {l:Os} {k:Or->MA α},hZ (λr=>D.rR r/\D.rW r) l->(∀ x,(k x).In D)->(fg l k).In D
 | [],k,_,hk=>hk []
 | a :: l,k,hl,hk=>by
  unfold hZ at hl;exact qcp hl.1 λx=>KM hl.2 λxs=>hk _
theorem Og{Q:Nat->Prop}{lb:IO}{l:Os}(h:hZ Q l):hZ Q (oB lb l) :=
 wG λa ha=>by
  obtain ⟨j,hj⟩:=zZV ha;obtain ⟨y,h1,h2⟩:=Qs lb l j a hj;rcases h2 with rfl | ⟨_,n,rfl⟩
  ·exact UY h _ (zQQ h1)
  ·unfold A.inR; trivial
theorem qaI{lb:IO}{sz:Nat}:∀ {ps:List (Nat×A)} {rows:it} {k:it->MA α},(∀ q∈ps,q.2.inR λr=>D.rR r/\D.rW r)->(∀ x,(k x).In D)->(UM lb sz rows ps k).In D
 | [],rows,k,_,hk=>hk _
 | (i,x) :: r,rows,k,hl,hk=>by
  unfold UM
  split
  ·exact KM (Og (H5 (hl (i,x) ig))) λts=>qaI (λq hq=>hl q Y0) hk
  ·trivial
theorem Oh{a:A}{k:Nat->it->MA α}(ha:a.inR D.rR)(hk:∀ n x,(k n x).In D):(a.rows k).In D:=by
 unfold A.rows
 split <;> first | exact hk _ _ | trivial | skip
 ·split <;> first | exact hk _ _ | trivial
 ·unfold A.inR at ha;refine ⟨ha,λx=>?_⟩;rcases x with _ | (_ | _ | _) <;> first | exact hk _ _ | trivial
theorem Oi{r e sz:Nat}{rows:it}(h:D.rR r/\D.rW r):(DI r e sz rows).In D:=by
 refine ⟨h.1,λx=>?_⟩
 cases x <;> first | exact ⟨h.2,trivial⟩ | trivial
theorem qdM{d:Nat}{cells:Os}(h:D.oR d/\D.oW d):(qao d cells).In D:=by
 refine ⟨h.1,λx=>?_⟩
 cases x <;> simp only
 ·split <;> first | exact ⟨h.2,trivial⟩ | trivial
 ·trivial
theorem zk{m:Bool}{a:A}{k:C->MA α}(ha:a.inR λr=>D.rR r/\D.rW r)(hk:∀ x,(k x).In D):(a.toC m k).In D:=by
 unfold A.toC
 split
 ·unfold A.inR at ha;refine ⟨ha.1,λx=>?_⟩;rcases x with _ | (_ | _ | _) <;> first | exact hk _ | exact ⟨ha.2,hk _⟩ | trivial
 ·exact hk _
 ·exact qcp ha λx=>hk _
theorem Y5{m:Bool}:∀ {l:Os} {k:List C->MA α},hZ (λr=>D.rR r/\D.rW r) l->(∀ x,(k x).In D)->(Mv m l k).In D
 | [],k,_,hk=>hk []
 | a :: l,k,hl,hk=>by
  unfold hZ at hl;exact zk hl.1 λx=>Y5 hl.2 λxs=>hk _
mutual
theorem qfL{m:Bool}:∀ {a:A} {k:V->MA α},a.inR (λr=>D.rR r/\D.rW r)->(∀ x,(k x).In D)->(un m a k).In D
 | .agg l,k,ha,hk=>by unfold A.inR at ha; unfold un; exact Y5 ha λ_=>hk _
 | .fadr l,k,ha,hk=>by unfold un; exact hk _
 | .clo f l,k,ha,hk=>by unfold A.inR at ha; unfold un; exact Y6 ha λ_=>hk _
 | .tup l,k,ha,hk=>by unfold A.inR at ha; unfold un; exact Y6 ha λ_=>hk _
 | .t x,k,ha,hk=>by unfold un; exact zk ha λ_=>hk _
 | .nn _ _,k,ha,hk=>by unfold un; exact zk ha λ_=>hk _
 | .nil,k,ha,hk=>by unfold un; exact zk ha λ_=>hk _
 | .own x,k,ha,hk=>by unfold un; exact zk ha λ_=>hk _
 | .obj _ _,k,ha,hk=>by unfold un; exact zk ha λ_=>hk _
 | .elem _ _ _ _,k,ha,hk=>by unfold un; exact zk ha λ_=>hk _
 | .win _ _ _,k,ha,hk=>by unfold un; exact zk ha λ_=>hk _
 | .sub _ _ _,k,ha,hk=>by unfold un; exact zk ha λ_=>hk _
 | .undef,k,ha,hk=>by unfold un; exact zk ha λ_=>hk _
 | .raw _,k,ha,hk=>by unfold un; exact zk ha λ_=>hk _
 | .osl _ _ _ _,k,ha,hk=>by unfold un; exact zk ha λ_=>hk _
 | .ext _ _,k,ha,hk=>by unfold un; exact zk ha λ_=>hk _
 | .exa _ _,k,ha,hk=>by unfold un; exact zk ha λ_=>hk _
 | .shp _,k,ha,hk=>by unfold un; exact zk ha λ_=>hk _
theorem Y6{m:Bool}:∀ {l:Os} {k:List V->MA α},hZ (λr=>D.rR r/\D.rW r) l->(∀ x,(k x).In D)->(H1 m l k).In D
 | [],k,_,hk=>by unfold H1; exact hk _
 | a :: l,k,hl,hk=>by unfold hZ at hl; unfold H1; exact qfL hl.1 λx=>Y6 hl.2 λxs=>hk _
end
theorem qex{s:Nat}{k:List C->MA α}(ho:D.oR s/\D.oW s)(ha:∀ r,D.rR r/\D.rW r)(hk:∀ x,(k x).In D):(JA s k).In D:=by
 refine ⟨ho.1,λx=>?_⟩;rcases x with _ | (_ | ⟨c,cells⟩) <;> simp only <;> first | exact Y5 (vz ha _) λx=>⟨ho.2,hk _⟩ | trivial
theorem qcq{s:Nat}{k:List C->MA α}(ho:D.oR s/\D.oW s)(hk:∀ x,(k x).In D):(Oe s k).In D:=by
 refine ⟨ho.1,λx=>?_⟩;rcases x with _ | (_ | ⟨c,cells⟩) <;> simp only <;> first | trivial | skip
 split <;> first | exact ⟨ho.2,hk _⟩ | trivial
def A.argIn(D:Dom)(p:Nat->Bool):A->Prop
 | .obj s 0=>(D.oR s/\D.oW s)/\(p s=false->∀ r,D.rR r/\D.rW r)
 | a=>a.inR λr=>D.rR r/\D.rW r
theorem Oj{m:Bool}{p:Nat->Bool}:∀ {l:Os} {k:List V->MA α},(∀ a∈l,a.argIn D p)->(∀ x,(k x).In D)->(jY m p l k).In D
 | [],k,_,hk=>by unfold jY; exact hk _
 | a :: l,k,hl,hk=>by
  have h0:=hl a ig;have ih:∀ {k:List V->MA α},(∀ x,(k x).In D)->(jY m p l k).In D:=λh=>Oj (λa ha=>hl a (by simp [ha])) h;unfold jY
  split
  ·rename_i heq; cases heq
  ·rename_i heq;injection heq with h1 h2
   subst h1 h2;unfold A.argIn at h0
   split
   ·exact qcq h0.1 λx=>ih λ_=>hk _
   ·rename_i hp;exact qex h0.1 (h0.2 (by simpa using hp)) λx=>ih λ_=>hk _
  ·rename_i hna heq;injection heq with h1 h2
   subst h1 h2;refine qfL ?_ λx=>ih λ_=>hk _;unfold A.argIn at h0
   split at h0
   ·exact absurd rfl (hna _)
   ·exact h0
theorem nc{a:A}{k:T->MA α}(ha:a.inR D.rR)(hk:∀ x,(k x).In D):(a.peekT k).In D:=by
 unfold A.peekT
 split <;> first | exact hk _ | trivial | skip
 unfold A.inR at ha;refine ⟨ha,λx=>?_⟩;rcases x with _ | (_ | _ | _) <;> first | exact hk _ | trivial
theorem Ya:∀ {l:Os} {k:Or->MA α},hZ D.rR l->(∀ x,(k x).In D)->(Of l k).In D
 | [],k,_,hk=>hk []
 | a :: l,k,hl,hk=>by
  unfold hZ at hl;exact nc hl.1 λx=>Ya hl.2 λxs=>hk _
mutual
theorem qfM:∀ {a:A} {k:V->MA α},a.inR D.rR->(∀ x,(k x).In D)->(k7 a k).In D
 | .agg l,k,ha,hk=>by unfold A.inR at ha; unfold k7; exact Ya ha λ_=>hk _
 | .fadr l,k,ha,hk=>by unfold k7; exact hk _
 | .clo f l,k,ha,hk=>by unfold A.inR at ha; unfold k7; exact wH ha λ_=>hk _
 | .tup l,k,ha,hk=>by unfold k7; exact nc ha λ_=>hk _
 | .t x,k,ha,hk=>by unfold k7; exact nc ha λ_=>hk _
 | .nn _ _,k,ha,hk=>by unfold k7; exact nc ha λ_=>hk _
 | .nil,k,ha,hk=>by unfold k7; exact nc ha λ_=>hk _
 | .own x,k,ha,hk=>by unfold k7; exact nc ha λ_=>hk _
 | .obj _ _,k,ha,hk=>by unfold k7; exact nc ha λ_=>hk _
 | .elem _ _ _ _,k,ha,hk=>by unfold k7; exact nc ha λ_=>hk _
 | .win _ _ _,k,ha,hk=>by unfold k7; exact nc ha λ_=>hk _
 | .sub _ _ _,k,ha,hk=>by unfold k7; exact nc ha λ_=>hk _
 | .undef,k,ha,hk=>by unfold k7; exact nc ha λ_=>hk _
 | .raw _,k,ha,hk=>by unfold k7; exact nc ha λ_=>hk _
 | .osl _ _ _ _,k,ha,hk=>by unfold k7; exact nc ha λ_=>hk _
 | .ext _ _,k,ha,hk=>by unfold k7; exact nc ha λ_=>hk _
 | .exa _ _,k,ha,hk=>by unfold k7; exact nc ha λ_=>hk _
 | .shp _,k,ha,hk=>by unfold k7; exact nc ha λ_=>hk _
theorem wH:∀ {l:Os} {k:List V->MA α},hZ D.rR l->(∀ x,(k x).In D)->(fj l k).In D
 | [],k,_,hk=>by unfold fj; exact hk _
 | a :: l,k,hl,hk=>by unfold hZ at hl; unfold fj; exact qfM hl.1 λx=>wH hl.2 λxs=>hk _
end
variable {d:Nat}
theorem qfN{id:Nat}{c:C}{k:A->MA α}(hd:∀ r,r / 65536=d->D.rR r/\D.rW r)(hk:∀ x,(k x).In D):(c.toA d id k).In D:=by
 cases c <;> simp only [C.toA] <;> first | exact hk _ | skip
 split
 ·rename_i h;refine ⟨(hd _ h).1,λx=>?_⟩
  cases x <;> first | exact ⟨(hd _ h).2,hk _⟩ | trivial
 ·trivial
theorem Uo(hd:∀ r,r / 65536=d->D.rR r/\D.rW r):∀ {l:List C} {id:Nat} {k:Os->MA α},(∀ x,(k x).In D)->(Qu d id l k).In D
 | [],id,k,hk=>hk []
 | a :: l,id,k,hk=>qfN hd λx=>Uo hd λxs=>hk _
mutual
theorem Ok(hd:∀ r,r / 65536=d->D.rR r/\D.rW r)(ho:D.oR d/\D.oW d):∀ {v:V} {id:Nat} {k:A->MA α},(∀ x,(k x).In D)->(V.toA d id v k).In D
 | .one c,id,k,hk=>by unfold V.toA; exact qfN hd hk
 | .agg l,id,k,hk=>by unfold V.toA; exact Uo hd λ_=>hk _
 | .tup l,id,k,hk=>by unfold V.toA; exact UZ hd ho λ_=>hk _
 | .ptr l,id,k,hk=>by
  unfold V.toA;refine Uo hd λ_=>⟨ho.1,λx=>?_⟩
  cases x <;> first | exact ⟨ho.2,hk _⟩ | trivial
 | .fptr l,id,k,hk=>by unfold V.toA; exact hk _
 | .clo f l,id,k,hk=>by unfold V.toA; exact UZ hd ho λ_=>hk _
theorem UZ(hd:∀ r,r / 65536=d->D.rR r/\D.rW r)(ho:D.oR d/\D.oW d):∀ {l:List V} {id:Nat} {k:Os->MA α},(∀ x,(k x).In D)->(H2 d id l k).In D
 | [],id,k,hk=>by unfold H2; exact hk _
 | a :: l,id,k,hk=>by unfold H2; exact Ok hd ho λx=>UZ hd ho λxs=>hk _
end
theorem FK(hd:∀ r,r / 65536=d->D.rR r/\D.rW r):∀ {ss:IO} {os:List (List C)} {k:MA α},(∀ s∈ss,D.oR s/\D.oW s)->k.In D->(eC d ss os k).In D
 | [],[],k,_,hk=>hk
 | s :: ss,c :: cs,k,hs,hk=>by
  unfold eC;refine Uo hd λx=>⟨(hs s ig).1,λy=>?_⟩
  cases y <;> first | exact ⟨(hs s ig).2,FK hd (λs h=>hs s (by simp [h])) hk⟩ | trivial
 | [],_ :: _,k,_,hk=>trivial
 | _ :: _,[],k,_,hk=>trivial
theorem JB{p:Nat->Bool}:∀ {l:Os},(∀ a∈l,a.argIn D p)->∀ s∈fh l,D.oR s/\D.oW s
 | [],_,s,h=>by simp [fh] at h
 | a :: l,hl,s,h=>by
  have h0:=hl a ig;unfold fh at h
  split at h
  ·rename_i heq; cases heq
  ·rename_i heq;injection heq with h1 h2
   subst h1 h2;rcases Ir.1 h with rfl | h
   ·exact h0.1
   ·exact JB (λa ha=>hl a (by simp [ha])) s h
  ·rename_i heq;injection heq with h1 h2
   subst h1 h2;exact JB (λa ha=>hl a (by simp [ha])) s h
end
def oC(l:Option IO)(k:Nat):Prop:=match l with | none=>True | some l=>k∈l
def Nx(a b:Option IO):Option IO:=match a,b with | some a,ac b=>ac (a++b) | _,_=>cl
def Ln:List (Option IO)->Option IO
 | []=>ac []
 | a :: r=>Nx a (Ln r)
theorem qy{a b:Option IO}{k:Nat}:oC (Nx a b) k↔oC a k\/oC b k:=by
 cases a <;> cases b <;> simp [Nx,oC]
theorem U0{l:List (Option IO)}{k:Nat}:∀ {x},x∈l->oC x k->oC (Ln l) k:=by
 induction l with
 | nil=>intro x h; simp at h
 | cons y l ih =>
  intro x h hx;unfold Ln;rcases Ir.1 h with rfl | h
  ·exact qy.2 (.inl hx)
  ·exact qy.2 (.inr (ih h hx))
def fi.rows:fi->Option IO
 | .frz | .obj _=>ac []
 | .own d=>ac [d]
 | .el d=>ac [d]
 | .win d=>ac [d]
 | _=>cl
def fi.objs:fi->Option IO
 | .obj s=>ac [s]
 | .any=>cl
 | _=>ac []
def Fo(ρ:Nat->fi):Operand->fi
 | .tmp t=>ρ t
 | _=>.frz
structure Fp where
 oR:Option IO
 oW:Option IO
 rR:Option IO
 rW:Option IO
def Fp.dom(f:Fp):Dom:=⟨oC f.oR,oC f.oW,λr=>oC f.rR (r / 65536),λr=>oC f.rW (r / 65536)⟩
def fi.isObj:fi->Bool
 | .obj _=>gi
 | _=>go
def B6(p:Nat->Bool):fi->Option IO
 | .obj s=>if p s then ac [] else cl
 | r=>r.rows
def oD:Option Nat->Option IO
 | some d=>ac [d]
 | none=>ac []
def da(ρ:Nat->fi)(o:Oper):Option IO:=Ln (o.op.operands.toList.map λx=>(Fo ρ x).rows)
def eW(p:Nat->Bool)(ρ:Nat->fi)(o:Oper):Fp :=
 match o.op with
 | .alloc _=>⟨oD o.dst,oD o.dst,ac [],ac []⟩
 | .box ..=>⟨oD o.dst,oD o.dst,da ρ o,da ρ o⟩
 | .buildSlice .. | .makeSlice ..=>⟨ac [],ac [],Nx (da ρ o) (oD o.dst),Nx (da ρ o) (oD o.dst)⟩
 | .load _ a=>⟨(Fo ρ a).objs,ac [],(Fo ρ a).rows,ac []⟩
 | .store _ a _=>if (Fo ρ a).isObj then ⟨(Fo ρ a).objs,(Fo ρ a).objs,ac [],ac []⟩ else ⟨(Fo ρ a).objs,(Fo ρ a).objs,da ρ o,da ρ o⟩
 | .slice ..=>⟨ac [],ac [],Nx (da ρ o) (oD o.dst),Nx (da ρ o) (oD o.dst)⟩
 | .call { callee:=.builtin .copy,.. } | .call { callee:=.builtin .clear,.. }=>⟨ac [],ac [],da ρ o,da ρ o⟩
 | .indexAddr .. | .convert .. | .call { callee:=.builtin .len,.. }=>⟨ac [],ac [],da ρ o,ac []⟩
 | .call { callee:=.builtin .append,.. }=>⟨ac [],ac [],Nx (da ρ o) (oD o.dst),Nx (da ρ o) (oD o.dst)⟩
 | .call { callee:=.value _,.. } =>
  ⟨Nx (Ln (o.op.operands.toList.map λx=>(Fo ρ x).objs)) (oD o.dst),Nx (Ln (o.op.operands.toList.map λx=>(Fo ρ x).objs)) (oD o.dst),
   Nx (Ln (o.op.operands.toList.map λx=>B6 p (Fo ρ x))) (oD o.dst),Nx (Ln (o.op.operands.toList.map λx=>B6 p (Fo ρ x))) (oD o.dst)⟩
 | _=>⟨ac [],ac [],ac [],ac []⟩
theorem Up(p:Nat->Bool)(ρ:Nat->fi)(o:Oper):(eW p ρ o).dom.ok:=by
 unfold eW
 split
 all_goals first | exact ⟨λ_ h=>h,λ_ h=>h⟩ | (split <;> exact ⟨λ_ h=>h,λ_ h=>h⟩) | exact ⟨λ_ h=>by simp [Fp.dom,oC] at h,λ_ h=>by simp [Fp.dom,oC] at h⟩
structure Cls (ρ:Nat->fi) (x:Operand) (a:A):Prop where
 rows:a.inR λr=>oC (Fo ρ x).rows (r / 65536)
 objs:∀ s off,a=.obj s off->oC (Fo ρ x).objs s
 isob:(Fo ρ x).isObj=true->∃ s off,a=.obj s off
theorem qey{r:fi}{a:A}(h:r.fits a=gi)(hr:r.isObj=gi):∃ s off,a=.obj s off:=by
 cases r <;> cases a <;> simp [fi.fits,fi.isObj] at h hr ⊢
theorem Yb{Q:Nat->Prop}{a:A}(h:a.leafy=gi):a.inR Q:=by
 cases a <;> first | (unfold A.inR; trivial) | (simp [A.leafy] at h)
theorem qaJ{r:fi}{a:A}(h:r.fits a=gi):(a.inR λi=>oC r.rows (i / 65536))/\∀ s off,a=.obj s off->oC r.objs s:=by
 by_cases hag:∃ l,r=.frz/\a=.agg l
 ·obtain ⟨l,rfl,rfl⟩:=hag;refine ⟨?_,λs off h=>by cases h⟩;unfold A.inR;exact wG λx hx=>Yb (zm.1 h x hx)
 by_cases hag2:∃ d l,r=.own d/\a=.agg l
 ·obtain ⟨d,l,rfl,rfl⟩:=hag2;refine ⟨?_,λs off h=>by cases h⟩;unfold A.inR;refine wG λx hx=>?_;have:=zm.1 h x hx
  cases x with
  | own r=>unfold A.inR; simpa [fi.rows,oC] using this
  | _=>exact Yb this
 cases r <;> cases a <;> (try simp [fi.fits,fi.rows,fi.objs,oC] at h hag ⊢) <;> (try exact absurd ⟨_,_,rfl,rfl⟩ hag2) <;>
  first
   | exact KK (λ_=>trivial) _
   | (unfold A.inR; first | trivial | simp [h])
   | (refine ⟨by unfold A.inR; trivial,?_⟩; intro s off h1 h2; simp [<- h1,h])
   | skip
theorem LB{Q:Nat->Prop}:∀ {l:List (Option A)} {r:Os},(∀ y∈l,∀ a,y=ac a->a.inR Q)->eQ l=ac r->hZ Q r:=by
 intro l r hl h;have:=Oa h;subst this;exact wG λa ha=>hl (ac a) (List.mem_map.2 ⟨a,ha,rfl⟩) a rfl
theorem H6{Q:Nat->Prop}{v:Value}{a:A}(h:sM v=ac a):a.inR Q:=by
 unfold sM at h
 split at h <;> cases h <;> (unfold A.inR; trivial)
theorem JC{Q:Nat->Prop}{v:Value}{a:A}(h:A.ofValue v=ac a):(a.inR Q)/\∀ s off,a≠.obj s off:=by
 unfold A.ofValue at h
 split at h
 ·split at h
  ·rename_i l hl
   cases h
   refine ⟨?_,λ_ _ h=>by cases h⟩;unfold A.inR;exact LB (λy hy a he=>by
    obtain ⟨v,_,hv⟩:=List.mem_map.1 hy;exact H6 (hv.trans he)) hl
  ·cases h
 ·cases h
  exact ⟨by unfold A.inR; trivial,λs off he=>by cases he⟩
 ·refine ⟨H6 h,λs off he=>?_⟩;subst he;unfold sM at h
  split at h <;> cases h
theorem Yc{P:Program}{Q:Nat->Prop}{t:TypeId}{z:Os}(h:AM P t=ac z):hZ Q z:=by
 unfold AM at h
 split at h
 ·exact LB (λy hy a he=>by
   obtain ⟨v,_,hv⟩:=List.mem_map.1 hy;exact H6 (hv.trans he)) h
 ·cases h
theorem qfO{ρ:Nat->fi}{st:St}{o:Oper}(hf:fX ρ st o=gi){x:Operand}{a:A}(hx:x∈o.op.operands.toList)(h:st.eval x=ac a):Cls ρ x a:=by
 cases x with
 | tmp t =>
  simp only [St.eval,Option.some.injEq] at h;subst h;have:=zm.1 hf _ hx;exact ⟨(qaJ this).1,(qaJ this).2,λh=>qey this h⟩
 | const v=>exact ⟨(JC h).1,λs off he=>absurd he ((JC (Q:=λ_=>True) h).2 s off),λh=>by simp [Fo,fi.isObj] at h⟩
 | func f =>
  simp only [St.eval,Option.some.injEq] at h;subst h;exact ⟨by unfold A.inR; unfold hZ; trivial,λs off he=>(by cases he),λh=>by simp [Fo,fi.isObj] at h⟩
 | global _=>cases h
mutual
theorem kC{Q Q':Nat->Prop}(h:∀ r,Q r->Q' r):∀ {a:A},a.inR Q->a.inR Q'
 | .own r,hq=>by unfold A.inR at hq ⊢; exact h _ hq
 | .elem r _ _ _,hq=>by unfold A.inR at hq ⊢; exact h _ hq
 | .sub r _ _,hq=>by unfold A.inR at hq ⊢; exact h _ hq
 | .win r _ _,hq=>by unfold A.inR at hq ⊢; exact h _ hq
 | .agg l,hq=>by unfold A.inR at hq ⊢; exact KN h hq
 | .tup l,hq=>by unfold A.inR at hq ⊢; exact KN h hq
 | .clo _ l,hq=>by unfold A.inR at hq ⊢; exact KN h hq
 | .t _,_ | .nil,_ | .obj _ _,_ | .fadr _,_ | .nn _ _,_ | .undef,_ | .raw _,_ | .osl _ _ _ _,_ | .ext _ _,_ | .exa _ _,_ | .shp _,_=>by unfold A.inR; trivial
theorem KN{Q Q':Nat->Prop}(h:∀ r,Q r->Q' r):∀ {l:Os},hZ Q l->hZ Q' l
 | [],_=>by unfold hZ; trivial
 | a :: r,hq=>by unfold hZ at hq ⊢; exact ⟨kC h hq.1,KN h hq.2⟩
end
end Go.Tm
set_option maxHeartbeats 1000000
namespace Go.Tm
open Go.RowKit
section
variable {D:Dom} {P:Program} {ρ:Nat->fi}
theorem fK{o:Oper}{x:Operand}{k:Nat}(hx:x∈o.op.operands.toList)(h:oC (Fo ρ x).rows k):oC (da ρ o) k :=
 U0 (List.mem_map.2 ⟨x,hx,rfl⟩) h
theorem qho{t:TypeId}{a:A}(ho:∀ s off,a=.obj s off->D.oR s)(hr:a.inR D.rR):(Qp P t a).In D:=by
 unfold Qp
 split <;> try trivial
 split <;> try trivial
 ·refine ⟨ho _ _ rfl,λx=>?_⟩
  cases x <;> simp only [MA.In]
  split <;> trivial
 ·unfold A.inR at hr;refine ⟨hr,λx=>?_⟩;rcases x with _ | (_ | _ | _) <;> (try dsimp only) <;> (try trivial)
  all_goals
   split <;> try trivial
   split <;> try trivial
   split <;> trivial
 ·split <;> trivial
 ·split <;> trivial
theorem qaK{t:TypeId}{a x:A}(ho:∀ s off,a=.obj s off->D.oR s/\D.oW s)(hr:(∃ s off,a=.obj s off)\/((a.inR λr=>D.rR r/\D.rW r)/\x.inR λr=>D.rR r/\D.rW r)):(HZ P t a x).In D:=by
 unfold HZ
 split <;> try trivial
 split <;> try trivial
 split <;> try trivial
 ·refine ⟨(ho _ _ rfl).1,λx=>?_⟩
  cases x <;> simp only [MA.In]
  split <;> first | trivial | exact ⟨(ho _ _ rfl).2,trivial⟩
 ·rcases hr with ⟨s,off,h⟩ | ⟨h1,h2⟩
  ·cases h
  refine KM (Og (H5 h2)) λts=>?_;unfold A.inR at h1;refine ⟨h1.1,λx=>?_⟩;rcases x with _ | (_ | _ | _) <;> (try dsimp only) <;> (try trivial)
  split <;> try trivial
  split <;> try trivial
  split <;> first | trivial | exact ⟨h1.2,trivial⟩
 ·split <;> trivial
theorem qez{a:A}{off:Nat}:(UO a off).In D:=by
 unfold UO
 split <;> trivial
theorem U1{n:Nat}{i:Int}{sz:Nat}{rows:it}:(H0 n i sz rows).In D:=by
 unfold H0
 split <;> try trivial
 split <;> trivial
theorem Y7{t:TypeId}{x i:A}(hr:x.inR D.rR):(nK P t x i).In D:=by
 unfold nK
 split <;> try trivial
 split <;> try trivial
 split <;> try trivial
 ·exact U1
 ·unfold N6
  split <;> try trivial
  split <;> trivial
 ·split <;> trivial
 ·unfold A.inR at hr;refine ⟨hr,λx=>?_⟩;rcases x with _ | (_ | _ | _) <;> (try dsimp only) <;> (try trivial)
  ·split <;> trivial
  ·exact U1
theorem qfP{d:Option Nat}{t:TypeId}{x:A}{hi:Option A}(hr:x.inR λr=>D.rR r/\D.rW r)(hd:∀ d',d=ac d'->D.rR (ip d' 0)/\D.rW (ip d' 0)):(N7 P d t x hi).In D:=by
 unfold N7
 split <;> try trivial
 split <;> try trivial
 unfold A.inR at hr;refine ⟨hr.1,λx=>?_⟩;rcases x with _ | (_ | _ | _) <;> (try dsimp only) <;> (try trivial)
 split <;> first | trivial | exact ⟨hr.2,Oi (hd _ rfl)⟩
theorem qfQ{t:TypeId}{x:A}{lo hi:Option A}(hr:x.inR λr=>D.rR r/\D.rW r):(FI P t x lo hi).In D:=by
 unfold FI
 split <;> try trivial
 ·split <;> try trivial
  split <;> trivial
 ·split <;> try trivial
  split <;> trivial
 ·split <;> try trivial
  refine qcp hr λy=>?_
  split <;> try trivial
  split <;> try trivial
  split <;> try trivial
  split <;> trivial
theorem qhp{d:Option Nat}{t:TypeId}{l c:A}(hd:∀ d',d=ac d'->∀ r,r / 65536=d'->D.rR r/\D.rW r):(UP P d t l c).In D:=by
 unfold UP
 split <;> try trivial
 split <;> try trivial
 rename_i hz
 split <;> try trivial
 refine KM (Og (Yc hz)) λts=>?_;exact Oi (hd _ rfl _ qg8)
theorem qcr{d:Nat}{ts:List TypeId}{x y:A}(hd:∀ r,r / 65536=d->D.rR r/\D.rW r)(hx:x.inR λr=>D.rR r/\D.rW r)(hy:y.inR D.rR):(CB P (ac d) ts x y).In D:=by
 have hm:∀ {e n:Nat} {rows:it},(DI (ip d 0) e n rows).In D:=λ{e n rows}=>Oi (hd _ qg8);unfold CB
 split <;> try trivial
 rename_i d' hdd;injection hdd with hdd
 subst hdd
 split <;> try trivial
 split <;> try trivial
 split <;> try trivial
 split <;> try trivial
 refine Oh hy λn ys=>?_
 split <;> try trivial
 split <;> try trivial
 ·split <;> first | trivial | exact hm
 ·unfold A.inR at hx;refine ⟨hx.1,λx=>?_⟩;rcases x with _ | (_ | _ | _) <;> (try dsimp only) <;> (try trivial)
  split <;> first | trivial | exact ⟨hx.2,hm⟩
theorem qeA{d:Option Nat}{ts:List TypeId}{x y:A}(hd:∀ d',d=ac d'->∀ r,r / 65536=d'->D.rR r/\D.rW r)(hx:x.inR λr=>D.rR r/\D.rW r)(hy:y.inR D.rR):(CB P d ts x y).In D:=by
 cases d with
 | some d=>exact qcr (hd d rfl) hx hy
 | none =>
  unfold CB
  split <;> first | trivial | (rename_i h; cases h)
theorem qiR{t:TypeId}{x:A}{lo:Option A}(hr:x.inR λr=>D.rR r/\D.rW r):(XX P t x lo).In D:=by
 unfold XX
 split <;> try trivial
 split <;> try trivial
 unfold A.inR at hr;refine ⟨hr.1,λx=>?_⟩;rcases x with _ | (_ | _ | _) <;> (try dsimp only) <;> (try trivial)
 split <;> trivial
theorem qiS{t:TypeId}{x:A}{lo hi:Option A}(hr:x.inR λr=>D.rR r/\D.rW r):(XY P t x lo hi).In D:=by
 unfold XY
 split <;> try trivial
 split <;> try trivial
 unfold A.inR at hr;refine ⟨hr.1,λx=>?_⟩;rcases x with _ | (_ | _ | _) <;> (try dsimp only) <;> (try trivial)
 split <;> try trivial
 split <;> trivial
theorem qhq{ts:List TypeId}{x y:A}(hx:x.inR λr=>D.rR r/\D.rW r)(hy:y.inR D.rR):(Mr P ts x y).In D:=by
 unfold Mr
 split
 ·unfold N8
  split <;> try trivial
  split <;> try trivial
  refine Oh hy λm ys=>?_
  split <;> try trivial
  unfold A.inR at hx;refine ⟨hx.1,λx=>?_⟩;rcases x with _ | (_ | _ | _) <;> (try dsimp only) <;> (try trivial)
  split <;> first | trivial | exact ⟨hx.2,trivial⟩
 rotate_left
 ·trivial
 split <;> try trivial
 split <;> try trivial
 refine Oh hy λn ys=>?_
 split <;> try trivial
 unfold A.inR at hx;refine ⟨hx.1,λx=>?_⟩;rcases x with _ | (_ | _ | _) <;> (try dsimp only) <;> (try trivial)
 split <;> first | trivial | exact ⟨hx.2,trivial⟩
theorem qfR{ts:List TypeId}{x:A}(hx:x.inR λr=>D.rR r/\D.rW r):(N9 P ts x).In D:=by
 unfold N9
 split <;> try trivial
 split <;> try trivial
 split <;> try trivial
 split <;> try trivial
 unfold A.inR at hx;refine ⟨hx.1,λx=>?_⟩;rcases x with _ | (_ | _ | _) <;> (try dsimp only) <;> (try trivial)
 split <;> first | trivial | exact ⟨hx.2,trivial⟩
theorem qiT{t:TypeId}{x:A}(hr:x.inR D.rR):(R0 P t x).In D:=by
 unfold R0
 split <;> try trivial
 exact Oh hr λ_ _=>trivial
end
theorem qhr{P:Program}{p:Nat->Bool}{ρ:Nat->fi}{st:St}{o:Oper}(h:∀ x∈o.op.operands.toList,∀ a,st.eval x=ac a->Cls ρ x a):(tl P ρ st.eval o).In (eW p ρ o).dom:=by
 have hdst:∀ {d:Nat} {r:Nat},o.dst=ac d->r / 65536=d->oC (Nx (da ρ o) (oD o.dst)) (r / 65536):=λh h'=>qy.2 (.inr (by rw [h]; simp [oD,oC,h']));unfold tl
 split <;> try (split <;> trivial)
 ·-- alloc
  rename_i e ho
  split <;> try trivial
  rename_i d z hd hz;have hf:eW p ρ o=⟨oD o.dst,oD o.dst,ac [],ac []⟩:=by simp only [eW,ho]
  rw [hf];exact qdM ⟨by simp [Fp.dom,oD,oC,hd],by simp [Fp.dom,oD,oC,hd]⟩
 ·-- box
  rename_i e x ho
  split <;> try trivial
  rename_i d v hd hv;have hx:x∈o.op.operands.toList:=by rw [ho]; simp [Op.operands]
  have hf:eW p ρ o=⟨oD o.dst,oD o.dst,da ρ o,da ρ o⟩:=by simp only [eW,ho]
  rw [hf]
  split
  ·refine KM (H5 (kC (λr hr=>?_) (h x hx v hv).rows)) λ_=>trivial;exact ⟨fK hx hr,fK hx hr⟩
  ·exact qdM ⟨by simp [Fp.dom,oD,oC,hd],by simp [Fp.dom,oD,oC,hd]⟩
 ·-- build
  rename_i t parts ho
  split <;> try trivial
  split <;> trivial
 ·-- buildSlice
  rename_i t n parts ho
  split <;> try trivial
  rename_i e d ps ht hd hp
  split <;> try trivial
  rename_i sz z hsz hz
  split <;> try trivial
  have hf:eW p ρ o=⟨ac [],ac [],Nx (da ρ o) (oD o.dst),Nx (da ρ o) (oD o.dst)⟩:=by simp only [eW,ho]
  rw [hf];refine KM (Og (Yc hz)) λts=>qaI (λq hq=>?_) λrows=>Oi ⟨hdst hd qg8,hdst hd qg8⟩;obtain ⟨hl,hg⟩:=zJ hp;obtain ⟨i,hi⟩:=zZV hq;obtain ⟨⟨j,x⟩,hx,he⟩:=hg i q hi;have hxm:x∈o.op.operands.toList:=by
   rw [ho];simp only [Op.operands,zYv];exact ⟨(j,x),zQQ hx,rfl⟩
  simp only [zWk] at he;obtain ⟨v,hv,rfl⟩:=he;exact kC (λr hr=>⟨qy.2 (.inl (fK hxm hr)),qy.2 (.inl (fK hxm hr))⟩) (h x hxm v hv).rows
 ·-- load
  rename_i t x ho
  split <;> try trivial
  rename_i a ha;have hx:x∈o.op.operands.toList:=by rw [ho]; simp [Op.operands]
  have hf:eW p ρ o=⟨(Fo ρ x).objs,ac [],(Fo ρ x).rows,ac []⟩:=by simp only [eW,ho]
  rw [hf];exact qho (h x hx a ha).objs (h x hx a ha).rows
 ·-- store
  rename_i t x y ho
  split <;> try trivial
  rename_i a b ha hb;have hx:x∈o.op.operands.toList:=by rw [ho]; simp [Op.operands]
  have hy:y∈o.op.operands.toList:=by rw [ho]; simp [Op.operands]
  have hf:eW p ρ o=if (Fo ρ x).isObj then ⟨(Fo ρ x).objs,(Fo ρ x).objs,ac [],ac []⟩ else ⟨(Fo ρ x).objs,(Fo ρ x).objs,da ρ o,da ρ o⟩:=by simp only [eW,ho]
  rw [hf]
  split
  ·rename_i hio;exact qaK (λs off he=>⟨(h x hx a ha).objs s off he,(h x hx a ha).objs s off he⟩) (.inl ((h x hx a ha).isob hio))
  ·exact qaK (λs off he=>⟨(h x hx a ha).objs s off he,(h x hx a ha).objs s off he⟩)
    (.inr ⟨kC (λr hr=>⟨fK hx hr,fK hx hr⟩) (h x hx a ha).rows,kC (λr hr=>⟨fK hy hr,fK hy hr⟩) (h y hy b hb).rows⟩)
 ·-- binOp
  split <;> try trivial
  ·split <;> trivial
  ·split <;> first | trivial | (split <;> trivial)
  ·split <;> trivial
  ·split <;> trivial
 ·-- convert
  rename_i s t x ho;have hx:x∈o.op.operands.toList:=by rw [ho]; simp [Op.operands]
  have hf:eW p ρ o=⟨ac [],ac [],da ρ o,ac []⟩:=by simp only [eW,ho]
  rw [hf]
  split <;> try trivial
  rename_i a _ _ ha
  split <;> try trivial
  refine Oh (kC (λr hr=>fK hx hr) (h x hx _ ha).rows) λ_ _=>?_
  split <;> trivial
 ·-- makeSlice
  rename_i t l c ho;have hf:eW p ρ o=⟨ac [],ac [],Nx (da ρ o) (oD o.dst),Nx (da ρ o) (oD o.dst)⟩:=by simp only [eW,ho]
  rw [hf]
  split <;> try trivial
  exact qhp λd hd r hr=>⟨hdst hd hr,hdst hd hr⟩
 ·-- slice
  rename_i t x lo hi ho;have hx:x∈o.op.operands.toList:=by rw [ho]; simp [Op.operands]
  have hf:eW p ρ o=⟨ac [],ac [],Nx (da ρ o) (oD o.dst),Nx (da ρ o) (oD o.dst)⟩:=by simp only [eW,ho]
  rw [hf]
  split <;> try trivial
  rename_i a _ _ ha _ _;have hq:a.inR λr=>(⟨ac [],ac [],Nx (da ρ o) (oD o.dst),Nx (da ρ o) (oD o.dst)⟩:Fp).dom.rR r/\(⟨ac [],ac [],Nx (da ρ o) (oD o.dst),Nx (da ρ o) (oD o.dst)⟩:Fp).dom.rW r :=
   kC (λr hr=>⟨qy.2 (.inl (fK hx hr)),qy.2 (.inl (fK hx hr))⟩) (h x hx _ ha).rows
  split
  ·split
   ·split
    ·exact qiR hq
    ·exact qiS hq
   ·exact qfP hq λd hd=>⟨qy.2 (.inr qjm),qy.2 (.inr qjm)⟩
  ·exact qfQ hq
 ·-- fieldAddr
  split <;> first | trivial | exact qez
 ·-- field
  split <;> try trivial
  split <;> try trivial
  split <;> trivial
 ·-- indexAddr
  rename_i t x i ho;have hx:x∈o.op.operands.toList:=by rw [ho]; simp [Op.operands]
  have hf:eW p ρ o=⟨ac [],ac [],da ρ o,ac []⟩:=by simp only [eW,ho]
  rw [hf]
  split <;> try trivial
  rename_i ha _;exact Y7 (kC (λr hr=>fK hx hr) (h x hx _ ha).rows)
 ·-- index
  split <;> try trivial
  split <;> try trivial
  split <;> trivial
 ·-- extract
  split <;> try trivial
  split <;> trivial
 ·-- len
  rename_i args ats ho
  split <;> try trivial
  rename_i x t hxs hts;have hx:x∈o.op.operands.toList:=by rw [ho]; simp [Op.operands,Call.operands,hxs]
  have hf:eW p ρ o=⟨ac [],ac [],da ρ o,ac []⟩:=by simp only [eW,ho]
  rw [hf]
  split <;> try trivial
  rename_i ha;exact qiT (kC (λr hr=>fK hx hr) (h x hx _ ha).rows)
 ·-- append
  rename_i args ats ho
  split <;> try trivial
  rename_i x y hxs;have hx:x∈o.op.operands.toList:=by rw [ho]; simp [Op.operands,Call.operands,hxs]
  have hy:y∈o.op.operands.toList:=by rw [ho]; simp [Op.operands,Call.operands,hxs]
  have hf:eW p ρ o=⟨ac [],ac [],Nx (da ρ o) (oD o.dst),Nx (da ρ o) (oD o.dst)⟩:=by simp only [eW,ho]
  rw [hf]
  split <;> try trivial
  rename_i ha hb;exact qeA (λd hd r hr=>⟨hdst hd hr,hdst hd hr⟩) (kC (λr hr=>⟨qy.2 (.inl (fK hx hr)),qy.2 (.inl (fK hx hr))⟩) (h x hx _ ha).rows)
   (kC (λr hr=>qy.2 (.inl (fK hy hr))) (h y hy _ hb).rows)
 ·-- copy
  rename_i args ats ho
  split <;> try trivial
  rename_i x y hxs;have hx:x∈o.op.operands.toList:=by rw [ho]; simp [Op.operands,Call.operands,hxs]
  have hy:y∈o.op.operands.toList:=by rw [ho]; simp [Op.operands,Call.operands,hxs]
  have hf:eW p ρ o=⟨ac [],ac [],da ρ o,da ρ o⟩:=by simp only [eW,ho]
  rw [hf]
  split <;> try trivial
  rename_i ha hb;exact qhq (kC (λr hr=>⟨fK hx hr,fK hx hr⟩) (h x hx _ ha).rows) (kC (λr hr=>fK hy hr) (h y hy _ hb).rows)
 ·-- clear
  rename_i args ats ho
  split <;> try trivial
  rename_i x hxs;have hx:x∈o.op.operands.toList:=by rw [ho]; simp [Op.operands,Call.operands,hxs]
  have hf:eW p ρ o=⟨ac [],ac [],da ρ o,da ρ o⟩:=by simp only [eW,ho]
  rw [hf]
  split <;> try trivial
  rename_i ha;exact qfR (kC (λr hr=>⟨fK hx hr,fK hx hr⟩) (h x hx _ ha).rows)
 ·split <;> try trivial
  split <;> trivial
 ·split <;> try trivial
  split <;> trivial
 ·trivial
end Go.Tm
set_option maxHeartbeats 1000000
namespace Go.Tm
open Go.RowKit
theorem qcs{P:Program}{ρ:Nat->fi}{ev ev':Operand->Option A}{o:Oper}(h:∀ x∈o.op.operands.toList,ev x=ev' x):tl P ρ ev o=tl P ρ ev' o:=by
 obtain ⟨dst,op,ty,pos,aft,gd⟩:=o
 cases op
 case call c =>
  obtain ⟨cal,args,ts⟩:=c
  cases cal with
  | value f=>simp only [tl]
  | invoke r m=>simp only [tl]
  | builtin b =>
   have h':∀ x∈args.toList,ev x=ev' x:=λx hx=>h x (by simp [Op.operands,Call.operands] at hx ⊢; exact hx)
   cases b <;> simp only [tl]
   all_goals
    split <;> try rfl
    first | (rename_i hl; rw [hl] at h') | (rename_i hl _; rw [hl] at h')
    try rw [h' _ (zWX ..)]
    try rw [h' _ (zQv _ (zWX ..))]
 case build t parts =>
  have:(parts.toList.map λ(i,x)=>(ev x).map λv=>(i,v))=parts.toList.map λ(i,x)=>(ev' x).map λv=>(i,v) :=
   zXJ λq hq=>by
    have:=h q.2 qjn;simp only [this]
  simp only [tl,this]
 case buildSlice t n parts =>
  have:(parts.toList.map λ(i,x)=>(ev x).map λv=>(i,v))=parts.toList.map λ(i,x)=>(ev' x).map λv=>(i,v) :=
   zXJ λq hq=>by
    have:=h q.2 qjn;simp only [this]
  simp only [tl,this]
 case makeFunc f first caps =>
  cases f <;> simp only [tl]
  have:caps.toList.map ev=caps.toList.map ev':=zXJ λx hx=>h x (by simp [Op.operands] at hx ⊢; exact .inr hx);rw [this]
 case slice t x lo hi m =>
  cases m <;> simp only [tl]
  have h1:ev x=ev' x:=h x (by simp [Op.operands]);have h2:Qq ev lo=Qq ev' lo:=by
   cases lo with
   | none=>rfl
   | some l=>simp only [Qq]; rw [h l (by simp [Op.operands])]
  have h3:Qq ev hi=Qq ev' hi:=by
   cases hi with
   | none=>rfl
   | some l=>simp only [Qq]; rw [h l (by simp [Op.operands])]
  rw [h1,h2,h3]
 all_goals
  simp [Op.operands] at h;simp only [tl]
  try simp only [h]
inductive qeB (P:Program) (p:Nat->Bool) (ρ:Nat->fi) (st:St) (o:Oper) (x:A) (st':St):Prop
 | plain (h:(tl P ρ st.eval o).run st=ac (x,st'))
 | call (m:Bool) (d f:Nat) (xf:Operand) (args:Array Operand) (ts:Array TypeId) (caps jo:Os) (vs:List V) (st1:St) (res:V) (outs:List (List C))
   (ho:o.op=.call { callee:=.value xf,args,argTypes:=ts }) (hd:o.dst=ac d) (hf:st.eval xf=ac (.clo f caps)) (oC:eQ (args.toList.map st.eval)=ac jo)
   (hp:(jY m p (jo++caps) MA.ret).run st=ac (vs,st1)) (hc:aB P f vs res outs) (hr:(eC d (fh (jo++caps)) outs (V.toA d (ip d 0) res MA.ret)).run st1=ac (x,st'))
 | callB (d f:Nat) (xf:Operand) (args:Array Operand) (ts:Array TypeId) (caps jo:Os) (vs:List V) (res:V)
   (ho:o.op=.call { callee:=.value xf,args,argTypes:=ts }) (hd:o.dst=ac d) (hf:st.eval xf=ac (.clo f caps)) (oC:eQ (args.toList.map st.eval)=ac jo)
   (hp:(fj (jo++caps) MA.ret).run st=ac (vs,st)) (hc:aB P f vs res []) (hpl:res.plain) (hr:(V.toA d (ip d 0) res MA.ret).run st=ac (x,st'))
 | callI (m:Bool) (d f:Nat) (xf:Operand) (args:Array Operand) (ts:Array TypeId) (caps jo:Os) (vs:List V) (st1:St) (outs:List (List C)) (s off:Nat)
   (ho:o.op=.call { callee:=.value xf,args,argTypes:=ts }) (hd:o.dst=ac d) (hf:st.eval xf=ac (.clo f caps)) (oC:eQ (args.toList.map st.eval)=ac jo)
   (hp:(jY m p (jo++caps) MA.ret).run st=ac (vs,st1)) (hc:zj P f vs off outs) (hhd:(jo++caps).head?=ac (.obj s 0)) (hr:(eC d (fh (jo++caps)) outs (MA.ret (.obj s off))).run st1=ac (x,st'))
 | callD (d f:Nat) (xf:Operand) (args:Array Operand) (ts:Array TypeId) (caps jo:Os) (vs:List V) (res:V)
   (ho:o.op=.call { callee:=.value xf,args,argTypes:=ts }) (hd:o.dst=ac d) (hf:st.eval xf=ac (.clo f caps)) (oC:eQ (args.toList.map st.eval)=ac jo)
   (hp:(fj (jo++caps) MA.ret).run st=ac (vs,st)) (hc:mx P f vs res) (hr:(V.toA d (ip d 0) res MA.ret).run st=ac (x,st'))
 | callX (m:Bool) (d f:Nat) (xf:Operand) (args:Array Operand) (ts:Array TypeId) (az caps jo xs:Os) (vs us:List V) (st1:St) (res:V) (outs:List (List C))
   (ho:o.op=.call { callee:=.value xf,args,argTypes:=ts }) (hd:o.dst=ac d) (hf:st.eval xf=ac (.clo f caps)) (oC:eQ (args.toList.map st.eval)=ac az) (hcat:az++caps=jo++xs)
   (hp:(jY m p jo MA.ret).run st=ac (vs,st1)) (hq:(fj xs MA.ret).run st1=ac (us,st1)) (hc:Y4 P f vs us res outs) (hr:(eC d (fh jo) outs (V.toA d (ip d 0) res MA.ret)).run st1=ac (x,st'))
 | callW (d f r e lo m:Nat) (ts:Or) (rows:it) (xf:Operand) (args:Array Operand) (tys:Array TypeId) (jo:Os) (vs:List V)
   (ho:o.op=.call { callee:=.value xf,args,argTypes:=tys }) (hd:o.dst=ac d) (hf:st.eval xf=ac (.clo f [])) (oC:eQ (args.toList.map st.eval)=ac (.agg (ts.map A.t++[.own r]) :: jo))
   (hrw:st.rw r=ac (.live e 1 rows)) (hp:LA jo=ac vs) (hc:R6 P f e ts rows vs lo m) (hr:x=.win r lo m) (hst:st'=st)
 | callM (f:Nat) (xf:Operand) (args:Array Operand) (ts:Array TypeId) (jo:Os) (r:T)
   (ho:o.op=.call { callee:=.value xf,args,argTypes:=ts }) (hf:st.eval xf=ac (.clo f [])) (oC:eQ (args.toList.map st.eval)=ac jo)
   (hk:jo.all A.mk=gi) (hx:jo.any A.hasX=gi) (hc:MOK P f jo r) (hr:x=.t r) (hst:st'=st)
 | callR (d f r e sz:Nat) (rows rows':it) (xf:Operand) (args:Array Operand) (ts:Array TypeId) (jo:Os) (vs:List V) (res:T)
   (ho:o.op=.call { callee:=.value xf,args,argTypes:=ts }) (hd:o.dst=ac d) (hf:st.eval xf=ac (.clo f [])) (oC:eQ (args.toList.map st.eval)=ac (.own r :: jo))
   (hrw:st.rw r=ac (.live e sz rows)) (hp:(fj jo MA.ret).run st=ac (vs,st)) (hpl:AP vs) (hc:ROK P f e sz rows vs res rows')
   (hr:x=.t res) (hst:st'={ st with rw:=gB st.rw r (ac (.live e sz rows')) })
section
variable {P:Program} {E:En} [Tb P E] {g:Gh} {st st':St} {a:Act} {w:World} {p:Nat->Bool} {ρ:Nat->fi} {o:Oper} {x:A}
theorem qeB.sound{n:Nat}(hS:lj E g n st a w)(h:qeB P p ρ st o x st'):D3 P o a w λv w'=>∃ g',D1 E g st w x st' v g' w':=by
 cases h with
 | plain h =>
  obtain ⟨u,g',w',h1,h2⟩:=qcl hS h;exact qaA ⟨u,w',h1,g',h2⟩
 | call m d f xf args ts caps jo vs st1 res outs ho hd hf oC hp hc hr=>exact qcm hS ho hf oC hp hc hr
 | callB d f xf args ts caps jo vs res ho hd hf oC hp hc hpl hr=>exact qaB hS ho hf oC hp hc hpl hr
 | callI m d f xf args ts caps jo vs st1 outs s off ho hd hf oC hp hc hhd hr=>exact qaC hS ho hf oC hp hc hhd hr
 | callD d f xf args ts caps jo vs res ho hd hf oC hp hc hr=>exact qaD hS ho hf oC hp hc hr
 | callX m d f xf args ts az caps jo xs vs us st1 res outs ho hd hf oC hcat hp hq hc hr=>exact qaG hS ho hf oC hcat hp hq hc hr
 | callW d f r e lo m ts rows xf args tys jo vs ho hd hf oC hrw hp hc hr hst=>subst hr hst; exact qaH hS ho hf oC hrw hp hc
 | callM f xf args ts jo r ho hf oC hk hx hc hr hst=>subst hr hst; exact qaE hS ho hf oC hk hx hc
 | callR d f r e sz rows rows' xf args ts jo vs res ho hd hf oC hrw hp hpl hc hr hst=>subst hr hst; exact qaF hS ho hf oC hrw hp hpl hc
theorem AQ{st st2:St}{o:Oper}(h:∀ t,.tmp t∈o.op.operands.toList->st2.tm t=st.tm t):∀ y∈o.op.operands.toList,st2.eval y=st.eval y:=by
 intro y hy
 cases y with
 | tmp t=>simp only [St.eval]; rw [h t hy]
 | _=>rfl
theorem St.ext{s t:St}(h1:s.tm=t.tm)(h2:s.ob=t.ob)(h3:s.rw=t.rw):s=t:=by
 cases s; cases t; cases h1; cases h2; cases h3; rfl
theorem qeC{D:Dom}{a:A}(ho:∀ s,D.oR s/\D.oW s)(hr:∀ r,D.rR r/\D.rW r):a.argIn D p:=by
 unfold A.argIn
 split
 ·exact ⟨ho _,λ_=>hr⟩
 ·exact KK hr _
theorem qhs{D:Dom}{y:Operand}{a:A}(hc:Cls ρ y a)(ho:∀ s,oC (Fo ρ y).objs s->D.oR s/\D.oW s)(hr:∀ r,oC (B6 p (Fo ρ y)) (r / 65536)->D.rR r/\D.rW r)(hfit:∀ s off,a=.obj s off->Fo ρ y=.obj s\/Fo ρ y=.any) :
  (a.argIn D p)/\a.inR λr=>D.rR r/\D.rW r:=by
 have h2:a.inR λr=>D.rR r/\D.rW r:=by
  by_cases hob:(Fo ρ y).isObj=gi
  ·obtain ⟨s,off,rfl⟩:=hc.isob hob;unfold A.inR; trivial
  ·refine kC (λr h=>hr r ?_) hc.rows
   revert h hob
   cases Fo ρ y <;> simp [B6,fi.isObj]
 refine ⟨?_,h2⟩;unfold A.argIn
 split
 ·rename_i s;refine ⟨ho s (hc.objs s 0 rfl),λhp r=>hr r ?_⟩;rcases hfit s 0 rfl with h | h <;> rw [h] <;> simp [B6,hp,oC,fi.rows]
 ·exact h2
theorem qht{y:Operand}{s off:Nat}(hf:fX ρ st o=gi)(hy:y∈o.op.operands.toList)(h:st.eval y=ac (.obj s off)):Fo ρ y=.obj s\/Fo ρ y=.any:=by
 cases y with
 | tmp t =>
  simp only [St.eval,Option.some.injEq] at h;have:=zm.1 hf _ hy;simp only [h] at this;simp only [Fo]
  revert this
  cases ρ t <;> simp [fi.fits]
 | const v=>exact absurd rfl ((JC (Q:=λ_=>True) h).2 s off)
 | func f=>simp [St.eval] at h
 | global=>cases h
theorem qhu{y:Operand}{f:FuncId}{caps:Os}(hf:fX ρ st o=gi)(hy:y∈o.op.operands.toList)(h:st.eval y=ac (.clo f caps)):caps=[]\/Fo ρ y=.any:=by
 cases y with
 | tmp t =>
  simp only [St.eval,Option.some.injEq] at h;have:=zm.1 hf _ hy;simp only [h] at this;simp only [Fo]
  revert this
  cases ρ t <;> simp [fi.fits]
 | const v =>
  simp only [St.eval] at h;unfold A.ofValue at h
  split at h
  ·split at h <;> cases h
  ·cases h
  ·unfold sM at h
   split at h <;> cases h
 | func f'=>simp only [St.eval,Option.some.injEq,A.clo.injEq] at h; exact .inl h.2.symm
 | global=>cases h
theorem qeB.loc(hf:fX ρ st o=gi)(h:qeB P p ρ st o x st'):Off (eW p ρ o).dom st st' /\
  ∀ st2,(∀ t,.tmp t∈o.op.operands.toList->st2.tm t=st.tm t)->On (eW p ρ o).dom st st2->∃ st2',qeB P p ρ st2 o x st2'/\Off (eW p ρ o).dom st2 st2'/\On (eW p ρ o).dom st' st2':=by
 have hcls:∀ x∈o.op.operands.toList,∀ a,st.eval x=ac a->Cls ρ x a:=λx hx a h=>qfO hf hx h
 -- a call's parts
 have hcall:∀ {d f:Nat} {xf:Operand} {args:Array Operand} {ts:Array TypeId} {jo caps:Os},o.op=.call { callee:=.value xf,args,argTypes:=ts }->o.dst=ac d->st.eval xf=ac (.clo f caps)->eQ (args.toList.map st.eval)=ac jo ->
   (∀ y∈xf :: args.toList,y∈o.op.operands.toList)/\(∀ r,r / 65536=d->(eW p ρ o).dom.rR r/\(eW p ρ o).dom.rW r)/\((eW p ρ o).dom.oR d/\(eW p ρ o).dom.oW d) /\
   ∀ a∈jo++caps,a.argIn (eW p ρ o).dom p/\a.inR λr=>(eW p ρ o).dom.rR r/\(eW p ρ o).dom.rW r:=by
  intro d f xf args ts jo caps ho hd hxf hass;have hf':eW p ρ o=⟨Nx (Ln (o.op.operands.toList.map λx=>(Fo ρ x).objs)) (oD o.dst),Nx (Ln (o.op.operands.toList.map λx=>(Fo ρ x).objs)) (oD o.dst),
   Nx (Ln (o.op.operands.toList.map λx=>B6 p (Fo ρ x))) (oD o.dst),Nx (Ln (o.op.operands.toList.map λx=>B6 p (Fo ρ x))) (oD o.dst)⟩:=by simp only [eW,ho]
  have hops:∀ y∈xf :: args.toList,y∈o.op.operands.toList:=λy hy=>by
   rw [ho];simp only [Op.operands,Call.operands]
   simpa using hy
  have hO:∀ y∈o.op.operands.toList,∀ s,oC (Fo ρ y).objs s->(eW p ρ o).dom.oR s/\(eW p ρ o).dom.oW s:=λy hy s hs=>by
   rw [hf'];have:=qy (a:=Ln (o.op.operands.toList.map λx=>(Fo ρ x).objs)) (b:=oD o.dst) |>.2 (.inl (U0 (List.mem_map.2 ⟨y,hy,rfl⟩) hs))
   exact ⟨this,this⟩
  have hR:∀ y∈o.op.operands.toList,∀ r,oC (B6 p (Fo ρ y)) (r / 65536)->(eW p ρ o).dom.rR r/\(eW p ρ o).dom.rW r:=λy hy r hs=>by
   rw [hf'];have:=qy (a:=Ln (o.op.operands.toList.map λx=>B6 p (Fo ρ x))) (b:=oD o.dst) |>.2 (.inl (U0 (List.mem_map.2 ⟨y,hy,rfl⟩) hs))
   exact ⟨this,this⟩
  refine ⟨hops,λr hr=>?_,?_,λa ha=>?_⟩
  ·rw [hf'];have:=qy (k:=r / 65536) (a:=Ln (o.op.operands.toList.map λx=>B6 p (Fo ρ x))) (b:=oD o.dst) |>.2 (.inr (by rw [hd]; simp [oD,oC,hr]))
   exact ⟨this,this⟩
  ·rw [hf'];have:=qy (k:=d) (a:=Ln (o.op.operands.toList.map λx=>(Fo ρ x).objs)) (b:=oD o.dst) |>.2 (.inr (by rw [hd]; simp [oD,oC]))
   exact ⟨this,this⟩
  ·rcases sa.1 ha with ha | ha
   ·obtain ⟨hl,hg⟩:=zJ hass;obtain ⟨i,hi⟩:=zZV ha;obtain ⟨y,hy,he⟩:=hg i a hi;have hym:=hops y (zQv _ (zQQ hy));exact qhs (hcls y hym a he) (hO y hym) (hR y hym) (λs off h=>qht hf hym (h ▸ he))
   ·have hxm:=hops xf (zWX ..);rcases qhu hf hxm hxf with h | h
    ·subst h; simp at ha
    ·have hOa:∀ s,(eW p ρ o).dom.oR s/\(eW p ρ o).dom.oW s:=λs=>hO xf hxm s (by rw [h]; trivial);have hRa:∀ r,(eW p ρ o).dom.rR r/\(eW p ρ o).dom.rW r:=λr=>hR xf hxm r (by rw [h]; trivial);exact ⟨qeC hOa hRa,KK hRa a⟩
 cases h with
 | plain h =>
  obtain ⟨h1,h2⟩:=ro (tl P ρ st.eval o) (qhr hcls) h;refine ⟨h1,λst2 ht hon=>?_⟩;obtain ⟨st2',h3,h4,h5⟩:=h2 st2 hon;refine ⟨st2',.plain ?_,h4,h5⟩;rw [qcs (AQ ht)];exact h3
 | call m d f xf args ts caps jo vs st1 res outs ho hd hxf hass hp hc hr =>
  obtain ⟨hops,hdr,hdo,hin⟩:=hcall ho hd hxf hass;obtain ⟨h1,h2⟩:=ro (jY m p (jo++caps) MA.ret) (Oj (D:=(eW p ρ o).dom) (λa ha=>(hin a ha).1) (λ_=>trivial)) hp;obtain ⟨h3,h4⟩:=ro (eC d (fh (jo++caps)) outs (V.toA d (ip d 0) res MA.ret)) (FK (D:=(eW p ρ o).dom) hdr (λs hs=>JB (λa ha=>(hin a ha).1) s hs) (Ok hdr hdo λ_=>trivial)) hr;refine ⟨h1.trans h3,λst2 ht hon=>?_⟩;obtain ⟨st3,h5,h6,h7⟩:=h2 st2 hon;obtain ⟨st4,h8,h9,h10⟩:=h4 st3 h7;have hev:=AQ ht;refine ⟨st4,.call m d f xf args ts caps jo vs st3 res outs ho hd ((hev xf (hops xf (zWX ..))).trans hxf) ?_ h5 hc h8,h6.trans h9,h10⟩;rw [<- hass]
  congr 1
  exact zXJ λy hy=>hev y (hops y (zQv _ hy))
 | callI m d f xf args ts caps jo vs st1 outs s off ho hd hxf hass hp hc hhd hr =>
  obtain ⟨hops,hdr,hdo,hin⟩:=hcall ho hd hxf hass;obtain ⟨h1,h2⟩:=ro (jY m p (jo++caps) MA.ret) (Oj (D:=(eW p ρ o).dom) (λa ha=>(hin a ha).1) (λ_=>trivial)) hp;obtain ⟨h3,h4⟩:=ro (eC d (fh (jo++caps)) outs (MA.ret (A.obj s off))) (FK (D:=(eW p ρ o).dom) hdr (λs hs=>JB (λa ha=>(hin a ha).1) s hs) trivial) hr;refine ⟨h1.trans h3,λst2 ht hon=>?_⟩;obtain ⟨st3,h5,h6,h7⟩:=h2 st2 hon;obtain ⟨st4,h8,h9,h10⟩:=h4 st3 h7;have hev:=AQ ht;refine ⟨st4,.callI m d f xf args ts caps jo vs st3 outs s off ho hd ((hev xf (hops xf (zWX ..))).trans hxf) ?_ h5 hc hhd h8,h6.trans h9,h10⟩;rw [<- hass]
  congr 1
  exact zXJ λy hy=>hev y (hops y (zQv _ hy))
 | callB d f xf args ts caps jo vs res ho hd hxf hass hp hc hpl hr =>
  obtain ⟨hops,hdr,hdo,hin⟩:=hcall ho hd hxf hass;obtain ⟨h1,h2⟩:=ro (fj (jo++caps) MA.ret) (wH (D:=⟨(eW p ρ o).dom.oR,λ_=>False,(eW p ρ o).dom.rR,λ_=>False⟩) (wG λa ha=>kC (λr h=>h.1) (hin a ha).2) (λ_=>trivial)) hp;obtain ⟨h3,h4⟩:=ro (V.toA d (ip d 0) res MA.ret) (Ok (D:=(eW p ρ o).dom) hdr hdo λ_=>trivial) hr;refine ⟨h3,λst2 ht hon=>?_⟩;obtain ⟨st3,h5,h6,h7⟩:=h2 st2 ⟨hon.ob,hon.rw⟩;have h32:st3=st2:=St.ext h6.tm (funext λs=>h6.ob s (λh=>h)) (funext λs=>h6.rw s (λh=>h));subst h32;obtain ⟨st4,h8,h9,h10⟩:=h4 st3 hon;have hev:=AQ ht;refine ⟨st4,.callB d f xf args ts caps jo vs res ho hd ((hev xf (hops xf (zWX ..))).trans hxf) ?_ h5 hc hpl h8,h9,h10⟩;rw [<- hass]
  congr 1
  exact zXJ λy hy=>hev y (hops y (zQv _ hy))
 | callD d f xf args ts caps jo vs res ho hd hxf hass hp hc hr =>
  obtain ⟨hops,hdr,hdo,hin⟩:=hcall ho hd hxf hass;obtain ⟨h1,h2⟩:=ro (fj (jo++caps) MA.ret) (wH (D:=⟨(eW p ρ o).dom.oR,λ_=>False,(eW p ρ o).dom.rR,λ_=>False⟩) (wG λa ha=>kC (λr h=>h.1) (hin a ha).2) (λ_=>trivial)) hp;obtain ⟨h3,h4⟩:=ro (V.toA d (ip d 0) res MA.ret) (Ok (D:=(eW p ρ o).dom) hdr hdo λ_=>trivial) hr;refine ⟨h3,λst2 ht hon=>?_⟩;obtain ⟨st3,h5,h6,h7⟩:=h2 st2 ⟨hon.ob,hon.rw⟩;have h32:st3=st2:=St.ext h6.tm (funext λs=>h6.ob s (λh=>h)) (funext λs=>h6.rw s (λh=>h));subst h32;obtain ⟨st4,h8,h9,h10⟩:=h4 st3 hon;have hev:=AQ ht;refine ⟨st4,.callD d f xf args ts caps jo vs res ho hd ((hev xf (hops xf (zWX ..))).trans hxf) ?_ h5 hc h8,h9,h10⟩;rw [<- hass]
  congr 1
  exact zXJ λy hy=>hev y (hops y (zQv _ hy))
 | callX m d f xf args ts az caps jo xs vs us st1 res outs ho hd hxf hass hcat hp hq hc hr =>
  obtain ⟨hops,hdr,hdo,hin⟩:=hcall ho hd hxf hass;rw [hcat] at hin;obtain ⟨h1,h2⟩:=ro (jY m p jo MA.ret) (Oj (D:=(eW p ρ o).dom) (λa ha=>(hin a (zKQ _ ha)).1) (λ_=>trivial)) hp;obtain ⟨g1,g2⟩:=ro (fj xs MA.ret) (wH (D:=⟨(eW p ρ o).dom.oR,λ_=>False,(eW p ρ o).dom.rR,λ_=>False⟩) (wG λa ha=>kC (λr h=>h.1) (hin a (List.mem_append_right _ ha)).2) (λ_=>trivial)) hq;obtain ⟨h3,h4⟩:=ro (eC d (fh jo) outs (V.toA d (ip d 0) res MA.ret)) (FK (D:=(eW p ρ o).dom) hdr (λs hs=>JB (λa ha=>(hin a (zKQ _ ha)).1) s hs) (Ok hdr hdo λ_=>trivial)) hr;refine ⟨h1.trans h3,λst2 ht hon=>?_⟩;obtain ⟨st3,h5,h6,h7⟩:=h2 st2 hon;obtain ⟨st5,g5,g6,g7⟩:=g2 st3 ⟨h7.ob,h7.rw⟩;have h53:st5=st3:=St.ext g6.tm (funext λs=>g6.ob s (λh=>h)) (funext λs=>g6.rw s (λh=>h));subst h53;obtain ⟨st4,h8,h9,h10⟩:=h4 st5 h7;have hev:=AQ ht;refine ⟨st4,.callX m d f xf args ts az caps jo xs vs us st5 res outs ho hd ((hev xf (hops xf (zWX ..))).trans hxf) ?_ hcat h5 g5 hc h8,h6.trans h9,h10⟩;rw [<- hass]
  congr 1
  exact zXJ λy hy=>hev y (hops y (zQv _ hy))
 | callW d f r e lo m ts rows xf args tys jo vs ho hd hxf hass hrw hp hc hr hst =>
  subst hr hst;obtain ⟨hops,hdr,hdo,hin⟩:=hcall (caps:=[]) ho hd hxf hass;have hr0:=(hin (.agg (ts.map A.t++[.own r])) ig).2;unfold A.inR at hr0;have hr1:(eW p ρ o).dom.rR r/\(eW p ρ o).dom.rW r:=by
   have key:∀ l:Or,hZ (λr=>(eW p ρ o).dom.rR r/\(eW p ρ o).dom.rW r) (l.map A.t++[.own r])->(eW p ρ o).dom.rR r/\(eW p ρ o).dom.rW r:=by
    intro l
    induction l with
    | nil=>intro h; simp only [List.map_nil,zQj] at h; unfold hZ at h; have:=h.1; unfold A.inR at this; exact this
    | cons x l ih=>intro h; simp only [zXV,List.cons_append] at h; unfold hZ at h; exact ih h.2
   exact key ts hr0
  refine ⟨Off.refl _ _,λst2 ht hon=>⟨st2,?_,Off.refl _ _,hon⟩⟩;have hev:=AQ ht;refine .callW d f r e lo m ts rows xf args tys jo vs ho hd ((hev xf (hops xf (zWX ..))).trans hxf) ?_ ((hon.rw r hr1.1).trans hrw) hp hc rfl rfl;rw [<- hass]
  congr 1
  exact zXJ λy hy=>hev y (hops y (zQv _ hy))
 | callM f xf args ts jo r ho hxf hass hk hx hc hr hst =>
  subst hr hst;refine ⟨Off.refl _ _,λst2 ht hon=>⟨st2,?_,Off.refl _ _,hon⟩⟩;have hev:=AQ ht;have hops:∀ y∈xf :: args.toList,y∈o.op.operands.toList:=λy hy=>by
   rw [ho];simp only [Op.operands,Call.operands]
   simpa using hy
  refine .callM f xf args ts jo r ho ((hev xf (hops xf (zWX ..))).trans hxf) ?_ hk hx hc rfl rfl;rw [<- hass]
  congr 1
  exact zXJ λy hy=>hev y (hops y (zQv _ hy))
 | callR d f r e sz rows rows' xf args ts jo vs res ho hd hxf hass hrw hp hpl hc hr hst =>
  subst hr hst;obtain ⟨hops,hdr,hdo,hin⟩:=hcall (caps:=[]) ho hd hxf hass;have hr0:=(hin (.own r) ig).2;unfold A.inR at hr0;obtain ⟨h1,h2⟩:=ro (fj jo MA.ret) (wH (D:=⟨(eW p ρ o).dom.oR,λ_=>False,(eW p ρ o).dom.rR,λ_=>False⟩) (wG λa ha=>kC (λr h=>h.1) (hin a (by simp [ha])).2) (λ_=>trivial)) hp;refine ⟨⟨rfl,λ_ _=>rfl,λi hi=>cX _ _ _ _ (λhe=>hi (he ▸ hr0.2))⟩,λst2 ht hon=>?_⟩;obtain ⟨st3,h5,h6,h7⟩:=h2 st2 ⟨hon.ob,hon.rw⟩;have h32:st3=st2:=St.ext h6.tm (funext λs=>h6.ob s (λh=>h)) (funext λs=>h6.rw s (λh=>h));subst h32;have hev:=AQ ht;refine ⟨_,.callR d f r e sz rows rows' xf args ts jo vs res ho hd ((hev xf (hops xf (zWX ..))).trans hxf) ?_ ((hon.rw r hr0.1).trans hrw) h5 hpl hc rfl rfl,⟨rfl,λ_ _=>rfl,λi hi=>cX _ _ _ _ (λhe=>hi (he ▸ hr0.2))⟩,⟨hon.ob,λi hi=>qco (hon.rw i hi)⟩⟩;rw [<- hass]
  congr 1
  exact zXJ λy hy=>hev y (hops y (zQv _ hy))
end
def jI(ops:Array Oper)(st:St)(o:Oper):Option Bool:=match o.guard with
 | none=>ac gi
 | some (j,want)=>match (ops[j]?).bind (·.dst) with
  | none=>ac go
  | some d=>match st.tm d with
   | .t (.bool b)=>ac (b == want)
   | .tup []=>ac go
   | _=>cl
def qhv(ops:Array Oper)(o:Oper):IO:=match o.guard with
 | none=>[]
 | some (j,_)=>((ops[j]?).bind (·.dst)).toList
inductive FL (P:Program) (p:Nat->Bool) (ρ:Nat->fi) (ops:Array Oper) (o:Oper) (st:St):St->Prop
 | run (x:A) (st1:St) (hg:jI ops st o=ac gi) (hf:fX ρ st o=gi) (h:qeB P p ρ st o x st1):FL P p ρ ops o st (st1.put o.dst x)
 | skip (hg:jI ops st o=ac go):FL P p ρ ops o st (st.put o.dst (.tup []))
section
variable {P:Program} {E:En} [Tb P E] {g:Gh} {st st':St} {a:Act} {w:World} {p:Nat->Bool} {ρ:Nat->fi} {o:Oper} {x:A} {ops:Array Oper}
theorem R7{st2:St}(h:∀ d∈qhv ops o,st2.tm d=st.tm d):jI ops st2 o=jI ops st o:=by
 unfold jI qhv at *
 split
 ·rfl
 ·rename_i j want hg;simp only [hg] at h
  split
  ·rfl
  ·rename_i d hd;simp only [hd,Option.toList] at h;rw [h d ig]
theorem Y8{st2:St}(h:∀ t,.tmp t∈o.op.operands.toList->st2.tm t=st.tm t):fX ρ st2 o=fX ρ st o:=by
 unfold fX
 revert h
 generalize o.op.operands.toList=l;intro h
 induction l with
 | nil=>rfl
 | cons y l ih =>
  simp only [List.all_cons];rw [ih λt ht=>h t (zQv _ ht)]
  cases y with
  | tmp t=>simp only [h t (zWX ..)]
  | _=>rfl
def qdN(D:Dom)(dst:Option Nat)(st st':St):Prop:=(∀ t,dst≠ac t->st'.tm t=st.tm t)/\(∀ s,¬ D.oW s->st'.ob s=st.ob s)/\∀ r,¬ D.rW r->st'.rw r=st.rw r
theorem U2{d:Option Nat}{v:A}{t:Nat}(h:d≠ac t):(st.put d v).tm t=st.tm t:=by
 cases d with
 | none=>rfl
 | some d=>exact cX _ _ _ _ (λhe=>h (he ▸ rfl))
theorem KO{d:Nat}{v:A}:(st.put (ac d) v).tm d=v:=eM _ _ _
theorem H7{d:Option Nat}{v:A}:(st.put d v).ob=st.ob:=by cases d <;> rfl
theorem H8{d:Option Nat}{v:A}:(st.put d v).rw=st.rw:=by cases d <;> rfl
theorem FL.loc(h:FL P p ρ ops o st st'):qdN (eW p ρ o).dom o.dst st st' /\
  ∀ st2,(∀ t,.tmp t∈o.op.operands.toList->st2.tm t=st.tm t)->(∀ d∈qhv ops o,st2.tm d=st.tm d)->On (eW p ρ o).dom st st2 ->
   ∃ st2',FL P p ρ ops o st2 st2'/\(∀ t,o.dst=ac t->st2'.tm t=st'.tm t)/\qdN (eW p ρ o).dom o.dst st2 st2'/\On (eW p ρ o).dom st' st2':=by
 cases h with
 | run x st1 hg hf h =>
  obtain ⟨h1,h2⟩:=h.loc hf;refine ⟨⟨λt ht=>by rw [U2 ht,h1.tm],λs hs=>by rw [H7]; exact h1.ob s hs,λs hs=>by rw [H8]; exact h1.rw s hs⟩,λst2 ht hd hon=>?_⟩;obtain ⟨st2',h3,h4,h5⟩:=h2 st2 ht hon;refine ⟨_,.run x st2' ((R7 hd).trans hg) ((Y8 ht).trans hf) h3,λt he=>?_,⟨λt ht=>by rw [U2 ht,h4.tm],λs hs=>by rw [H7]; exact h4.ob s hs,λs hs=>by rw [H8]; exact h4.rw s hs⟩,⟨λs hs=>by rw [H7,H7]; exact h5.ob s hs,λs hs=>by rw [H8,H8]; exact h5.rw s hs⟩⟩;rw [he,KO,KO]
 | skip hg =>
  refine ⟨⟨λt ht=>U2 ht,λs hs=>by rw [H7],λs hs=>by rw [H8]⟩,λst2 ht hd hon=>?_⟩;refine ⟨_,.skip ((R7 hd).trans hg),λt he=>by rw [he,KO,KO],⟨λt ht=>U2 ht,λs hs=>by rw [H7],λs hs=>by rw [H8]⟩,⟨λs hs=>by rw [H7,H7]; exact hon.ob s hs,λs hs=>by rw [H8,H8]; exact hon.rw s hs⟩⟩
def qeD(a b:Option IO):Bool:=match a,b with
 | some [],_=>gi
 | _,ac []=>gi
 | some a,ac b=>a.all λx=>!b.contains x
 | _,_=>go
theorem KP{a b:Option IO}(h:qeD a b=gi){k:Nat}(ha:oC a k):¬ oC b k:=by
 intro hb;unfold qeD at h
 split at h
 ·simp [oC] at ha
 ·simp [oC] at hb
 ·have:=zm.1 h k ha;simp at this;exact this hb
 ·cases h
def H9(ops:Array Oper)(o:Oper):IO:=qhv ops o++o.op.operands.toList.filterMap λ| .tmp t=>ac t | _=>cl
def U3(d:Option Nat)(l:IO):Bool:=match d with | some d=>l.contains d | none=>go
def qaL(p:Nat->Bool)(ρ:Nat->fi)(ops:Array Oper)(o1 o2:Oper):Bool :=
 !U3 o1.dst (o2.dst.toList++H9 ops o2) && !U3 o2.dst (H9 ops o1) && qeD (eW p ρ o1).oW (eW p ρ o2).oR && qeD (eW p ρ o2).oW (eW p ρ o1).oR &&
  qeD (eW p ρ o1).rW (eW p ρ o2).rR && qeD (eW p ρ o2).rW (eW p ρ o1).rR
theorem Ol{t:Nat}(h:.tmp t∈o.op.operands.toList):t∈H9 ops o:=by
 unfold H9;exact sa.2 (.inr (List.mem_filterMap.2 ⟨_,h,rfl⟩))
theorem qhw{o1 o2:Oper}{b:St}{c:St}(hi:qaL p ρ ops o1 o2=gi)(h2:FL P p ρ ops o2 st b)(h1:FL P p ρ ops o1 b c):∃ b',FL P p ρ ops o1 st b'/\FL P p ρ ops o2 b' c:=by
 simp only [qaL,sk,Bool.not_eq_true'] at hi;obtain ⟨⟨⟨⟨⟨hd1,hd2⟩,ho12⟩,ho21⟩,hr12⟩,hr21⟩:=hi;have hn1:∀ t,o1.dst=ac t->t∉o2.dst.toList/\t∉H9 ops o2:=λt ht=>by
  rw [ht] at hd1;simp [U3] at hd1;exact ⟨by simpa using hd1.1,hd1.2⟩
 have hn2:∀ t,o2.dst=ac t->t∉H9 ops o1:=λt ht=>by
  rw [ht] at hd2
  simpa [U3] using hd2
 obtain ⟨a1,a2⟩:=h2.loc;obtain ⟨b1,b2⟩:=h1.loc;have e1:=Up p ρ o1;have e2:=Up p ρ o2;have hO12:∀ s,(eW p ρ o1).dom.oW s->¬ (eW p ρ o2).dom.oR s:=λs=>KP ho12;have hO21:∀ s,(eW p ρ o2).dom.oW s->¬ (eW p ρ o1).dom.oR s:=λs=>KP ho21;have hR12:∀ r,(eW p ρ o1).dom.rW r->¬ (eW p ρ o2).dom.rR r:=λs=>KP hr12;have hR21:∀ r,(eW p ρ o2).dom.rW r->¬ (eW p ρ o1).dom.rR r:=λs=>KP hr21;obtain ⟨b',c1,c2,c3,c4⟩:=b2 st (λt ht=>(a1.1 t (λhe=>hn2 t he (Ol ht))).symm) (λt ht=>(a1.1 t (λhe=>hn2 t he (sa.2 (.inl ht)))).symm)
  ⟨λs hs=>(a1.2.1 s (λhw=>hO21 s hw hs)).symm,λs hs=>(a1.2.2 s (λhw=>hR21 s hw hs)).symm⟩
 obtain ⟨c',f1,f2,f3,f4⟩:=a2 b' (λt ht=>c3.1 t (λhe=>(hn1 t he).2 (Ol ht))) (λt ht=>c3.1 t (λhe=>(hn1 t he).2 (sa.2 (.inl ht))))
  ⟨λs hs=>c3.2.1 s (λhw=>hO12 s hw hs),λs hs=>c3.2.2 s (λhw=>hR12 s hw hs)⟩
 have hcc:c'=c:=by
  refine St.ext (funext λt=>?_) (funext λs=>?_) (funext λr=>?_)
  ·by_cases h2t:o2.dst=ac t
   ·rw [f2 t h2t];exact (b1.1 t (λhe=>(hn1 t he).1 (by rw [h2t]; simp))).symm
   ·by_cases h1t:o1.dst=ac t
    ·rw [f3.1 t h2t,c2 t h1t]
    ·rw [f3.1 t h2t,c3.1 t h1t,b1.1 t h1t,a1.1 t h2t]
  ·by_cases h2s:(eW p ρ o2).dom.oW s
   ·rw [f4.ob s (e2.ob s h2s)];exact (b1.2.1 s (λhw=>hO12 s hw (e2.ob s h2s))).symm
   ·by_cases h1s:(eW p ρ o1).dom.oW s
    ·rw [f3.2.1 s h2s,c4.ob s (e1.ob s h1s)]
    ·rw [f3.2.1 s h2s,c3.2.1 s h1s,b1.2.1 s h1s,a1.2.1 s h2s]
  ·by_cases h2s:(eW p ρ o2).dom.rW r
   ·rw [f4.rw r (e2.rw r h2s)];exact (b1.2.2 r (λhw=>hR12 r hw (e2.rw r h2s))).symm
   ·by_cases h1s:(eW p ρ o1).dom.rW r
    ·rw [f3.2.2 r h2s,c4.rw r (e1.rw r h1s)]
    ·rw [f3.2.2 r h2s,c3.2.2 r h1s,b1.2.2 r h1s,a1.2.2 r h2s]
 exact ⟨b',c1,hcc ▸ f1⟩
def xU(P:Program)(p:Nat->Bool)(ρ:Nat->fi)(ops:Array Oper)(i:Nat)(st st':St):Prop:=match ops[i]? with
 | some o=>FL P p ρ ops o st st'
 | none=>st'=st
def U4(P:Program)(p:Nat->Bool)(ρ:Nat->fi)(ops:Array Oper):IO->St->St->Prop
 | [],st,st'=>st'=st
 | i :: l,st,st'=>∃ b,xU P p ρ ops i st b/\U4 P p ρ ops l b st'
def AR(p:Nat->Bool)(ρ:Nat->fi)(ops:Array Oper)(i j:Nat):Bool:=match ops[i]?,ops[j]? with
 | some a,ac b=>qaL p ρ ops a b
 | _,_=>gi
theorem Om{i j:Nat}{b c:St}(hi:AR p ρ ops i j=gi)(h2:xU P p ρ ops j st b)(h1:xU P p ρ ops i b c):∃ b',xU P p ρ ops i st b'/\xU P p ρ ops j b' c:=by
 unfold xU AR at *
 revert h1 h2 hi
 cases ops[i]? <;> cases ops[j]? <;> simp only [] <;> intro hi h2 h1
 ·exact ⟨st,rfl,by rw [h1,h2]⟩
 ·exact ⟨st,rfl,by rw [h1]; exact h2⟩
 ·exact ⟨c,h2 ▸ h1,rfl⟩
 ·exact qhw hi h2 h1
theorem pull{i:Nat}:∀ {l:IO} {st st':St},i∈l->(∀ l1 l2,l=l1++i :: l2->i∉l1->∀ j∈l1,AR p ρ ops i j=gi)->U4 P p ρ ops l st st'->∃ b,xU P p ρ ops i st b/\U4 P p ρ ops (l.erase i) b st'
 | [],st,st',h,_,_=>by simp at h
 | j :: l,st,st',h,hind,hr=>by
  by_cases he:i=j
  ·subst he;rw [List.erase_cons_head];exact hr
  ·obtain ⟨b,h1,h2⟩:=hr;have him:i∈l:=(Ir.1 h).resolve_left he;obtain ⟨c,h3,h4⟩:=pull him (λl1 l2 hl hni j' hj'=>hind (j :: l1) l2 (by rw [hl]; rfl) (by simp [he,hni]) j' (zQv _ hj')) h2;have hij:AR p ρ ops i j=true:=by
    obtain ⟨l1,l2,hl,hni⟩:=List.eq_append_cons_of_mem him;exact hind (j :: l1) l2 (by rw [hl]; rfl) (by simp [he,hni]) j (zWX ..)
   obtain ⟨d,h5,h6⟩:=Om hij h1 h3;refine ⟨d,h5,?_⟩;rw [List.erase_cons_tail (by simpa using λh=>he h.symm)];exact ⟨c,h6,h4⟩
end
section
variable {P:Program} {E:En} [Tb P E] {g:Gh} {st st':St} {a:Act} {w:World} {p:Nat->Bool} {ρ:Nat->fi} {o:Oper} {x:A} {ops:Array Oper} {n:Nat}
theorem io.put(h:io E g st w)(d:Option Nat)(v:A):io E g (st.put d v) w:=by
 cases d with
 | none=>exact h
 | some d=>exact ⟨h.ob,h.obne,h.row,h.rowne,h.rowob,h.F,h.os,h.tape,h.output,h.sizes,h.frame,h.shp,h.dep0⟩
theorem lj.put{v:Value}{g':Gh}{w':World}{st1:St}{d:Option Nat}(hS:lj E g n st a w)(h:D1 E g st w x st1 v g' w')(hd:∀ t,d=ac t->t < n):lj E g' n (st1.put d x) (a.put d v) w':=by
 refine ⟨h.mem.put d x,?_,?_,λi hi=>?_,λi hi=>?_,λs b hs=>?_,λv' hv'=>by
  obtain ⟨h1,h2⟩:=hS.pin v' hv';exact ⟨by unfold St.R; rw [H8]; exact (h.ext.R _ h1).1,(h.ext.R _ h1).2.trans h2⟩⟩
 ·cases d <;> simp [Act.put,hS.size]
 ·cases d <;> simp [Act.put,hS.defers]
 ·cases d with
  | none =>
   obtain ⟨u,h1,h2⟩:=hS.tm i hi;exact ⟨u,h1,by show VR w' g' st1.O st1.R (st1.tm i) u; rw [h.tm]; exact h2.mono h.ext⟩
  | some d =>
   by_cases he:d=i
   ·subst he;exact ⟨v,by simp [Act.put,hS.size,hi],by show VR w' g' st1.O st1.R (gB st1.tm d x d) v; rw [eM]; exact h.vr⟩
   ·obtain ⟨u,h1,h2⟩:=hS.tm i hi;refine ⟨u,by simp only [Act.put]; rw [Array.getElem?_setIfInBounds_ne he]; exact h1,?_⟩;show VR w' g' st1.O st1.R (gB st1.tm d x i) u;rw [cX _ _ _ _ (λh=>he h.symm),h.tm];exact h2.mono h.ext
 ·rw [U2 (λhe=>by have:=hd i he; omega),h.tm];exact hS.und i hi
 ·obtain ⟨h1,h2⟩:=hS.lent s b hs;refine ⟨?_,(h.ext.O s h1).2.trans h2⟩;unfold St.O;rw [H7];exact (h.ext.O s h1).1
theorem lj.skip{d:Option Nat}(hS:lj E g n st a w)(hd:∀ t,d=ac t->t < n):lj E g n (st.put d (.tup [])) (a.put d undef) w:=by
 refine hS.put ⟨hS.mem,?_,vO.refl _ _ _ _,rfl⟩ hd;exact .tup [] [] rfl (λi x u h=>by simp at h)
theorem lj.drew(hS:lj E g n st a w):lj E g n st a { w with drawn:=w.drawn+1 }:=by
 have hsame:ER g.F w { w with drawn:=w.drawn+1 }:=λ_ _=>rfl;obtain ⟨⟨h1,h2,h3,h4,h5,h6,h7,h8,h9,h10,h11,hsp,hd0⟩,h12,h13,h14,h15,h16,h17⟩:=hS;have hE:vO w { w with drawn:=w.drawn+1 } g g st.O st.R st.O st.R:=⟨hsame,λ_ h=>h,λ_ h=>⟨h,rfl⟩,λ_ h=>⟨h,rfl⟩,⟨rfl,rfl,rfl⟩,rfl,rfl⟩;refine ⟨⟨λs cells hs=>?_,h2,λr x hr=>(h3 r x hr).mono hsame (λ_ h=>h) (λ_ b hb=>⟨rfl,λh=>h⟩),h4,h5,h6,h7,h8,h9,h10,h11,hsp,hd0⟩,h12,h13,λi hi=>?_,h15,h16,h17⟩
 ·obtain ⟨arr,e,q1,q2,q3,q4⟩:=h1 s cells hs;exact ⟨arr,e,q1,q2,λj x hj=>by obtain ⟨r1,v,r2,r3⟩:=q3 j x hj; exact ⟨r1,v,r2,r3.mono hE⟩,q4⟩
 ·obtain ⟨v,q1,q2⟩:=h14 i hi;exact ⟨v,q1,q2.mono hE⟩
theorem Yd{b:Bool}(hS:lj E g n st a w)(h:jI ops st o=ac b):Region.wanted o (yielded ops a.tmps)=b:=by
 unfold jI at h;unfold Region.wanted
 split at h
 ·rename_i hg
  cases h
  simp only [hg]
 ·rename_i j want hg;simp only [hg]
  split at h
  ·rename_i hd
   cases h
   simp [yielded,hd]
  ·rename_i d hd;have hlt:d < n:=by
    rcases Nat.lt_or_ge d n with hlt | hge
    ·exact hlt
    ·rw [hS.und d hge] at h; cases h
   obtain ⟨v,h1,h2⟩:=hS.tm d hlt
   split at h
   ·rename_i b' hb
    cases h
    rw [hb] at h2
    cases h2 with
    | t x v h3 =>
     cases h3
     simp [yielded,hd,h1]
   ·rename_i hb
    cases h
    rw [hb] at h2
    cases h2 with
    | tup l vs hl hx =>
     have:vs=[]:=zQZ (by simpa using hl.symm);subst this;simp [yielded,hd,h1]
   ·cases h
def rq(n:Nat)(o:Oper):Bool:=match o.dst with | some d=>zKX d n | none=>gi
theorem U5(h:rq n o=gi):∀ t,o.dst=ac t->t < n:=by
 intro t ht;rw [rq,ht] at h
 simpa using h
theorem ES{i:Nat}{K:Act->World->Prop}{Q:Exit->Act->World->Prop}(hS:lj E g n st a w)(hd:∀ o,ops[i]?=ac o->rq n o=gi)(h:xU P p ρ ops i st st')
  (hK:∀ g' a' w',lj E g' n st' a' w'->K a' w'):wpOp P ops Q i K a w:=by
 unfold wpOp;unfold xU at h
 split
 ·rename_i ho;rw [ho] at h;simp only at h;subst h;exact hK g a w hS
 ·rename_i o ho;rw [ho] at h;simp only at h;have hdo:=U5 (hd o ho)
  cases h with
  | run x st1 hg hf he =>
   rw [Yd hS hg,if_pos rfl];exact .inl (he.sound hS K Q λv w' ⟨g',hA⟩=>hK g' _ _ (hS.put hA hdo))
  | skip hg =>
   rw [Yd hS hg,if_neg ig];exact hK g _ _ (hS.skip hdo)
theorem Ye{Q:Exit->Act->World->Prop}(hd:∀ (i:Nat) (o:Oper),ops[i]?=ac o->rq n o=gi)(hQ:∀ g a w,lj E g n st' a w->Q .normal a w):∀ {l:IO} {st:St} {g:Gh} {a:Act} {w:World},lj E g n st a w->U4 P p ρ ops l st st'->wpOps P ops Q l a w
 | [],st,g,a,w,hS,h=>hQ g a w (by have h:st'=st:=h; rw [h]; exact hS)
 | i :: l,st,g,a,w,hS,⟨b,h1,h2⟩=>by
  rw [wpOps_cons];exact ES hS (hd i) h1 λg' a' w' hS'=>Ye hd hQ hS' h2
def qfS(D:Array Nat)(o:Oper):Nat:=o.after.toList.foldl (λs e=>if Region.binds .any e then s ||| 2 ^ e.on ||| D.getD e.on 0 else s) 0
def U6(p:Nat->Bool)(ρ:Nat->fi)(n:Nat)(ops:Array Oper):Bool :=
 let D:=Region.before ops
 (zXY ops.size).all λi=>match ops[i]? with
  | none=>gi
  | some o=>rq n o && (o.after.toList.all λe=>!Region.binds .any e || zKX e.on i) && zWg (D.getD i 0) (qfS D o) && (zXY i).all λj=>(D.getD i 0).testBit j || AR p ρ ops i j
theorem Yf{D:Array Nat}{j:Nat}:∀ {l:List Edge} {s:Nat},(l.foldl (λs e=>if Region.binds .any e then s ||| 2 ^ e.on ||| D.getD e.on 0 else s) s).testBit j=true->s.testBit j=gi\/∃ e∈l,Region.binds .any e=gi/\(e.on=j\/(D.getD e.on 0).testBit j=gi)
 | [],s,h=>.inl h
 | e :: l,s,h=>by
  simp only [zYG] at h;rcases Yf h with h | ⟨e',he',h⟩
  ·split at h
   ·rename_i hb;simp only [Nat.testBit_or,Bool.or_eq_true] at h;rcases h with (h | h) | h
    ·exact .inl h
    ·rw [Nat.testBit_two_pow] at h;exact .inr ⟨e,zWX ..,hb,.inl (by simpa using h)⟩
    ·exact .inr ⟨e,zWX ..,hb,.inr h⟩
   ·exact .inl h
  ·exact .inr ⟨e',zQv _ he',h⟩
structure Oo (p:Nat->Bool) (ρ:Nat->fi) (n:Nat) (ops:Array Oper) (D:Array Nat):Prop where
 dst:∀ (i:Nat) (o:Oper),ops[i]?=ac o->rq n o=gi
 back:∀ (i:Nat) (o:Oper),ops[i]?=ac o->∀ e∈o.after,Region.binds .any e=true->e.on < i
 dep:∀ (i:Nat) (o:Oper),ops[i]?=ac o->∀ j,(D.getD i 0).testBit j=true->∃ e∈o.after,Region.binds .any e=gi/\(e.on=j\/(D.getD e.on 0).testBit j=gi)
 ind:∀ (i j:Nat) (o:Oper),ops[i]?=ac o->j < i->(D.getD i 0).testBit j=gi\/AR p ρ ops i j=gi
theorem U7(h:U6 p ρ n ops=gi):Oo p ρ n ops (Region.before ops):=by
 have hh:∀ (i:Nat) (o:Oper),ops[i]?=ac o->((rq n o=gi/\(o.after.toList.all λe=>!Region.binds .any e || zKX e.on i)=gi)/\zWg ((Region.before ops).getD i 0) (qfS (Region.before ops) o)=gi)/\((zXY i).all λj=>((Region.before ops).getD i 0).testBit j || AR p ρ ops i j)=true:=λi o hi=>by
  have hlt:i < ops.size:=(Dp.1 hi).1;have:=zm.1 h i (List.mem_range.2 hlt);rw [hi] at this
  simpa only [sk] using this
 refine ⟨λi o hi=>(hh i o hi).1.1.1,λi o hi e he hb=>?_,λi o hi j hj=>?_,λi j o hi hj=>?_⟩
 ·have:=zm.1 (hh i o hi).1.1.2 e (by simpa using he);rw [hb] at this
  simpa using this
 ·rw [zWq (hh i o hi).1.2] at hj;rcases Yf hj with h | ⟨e,he,h⟩
  ·simp at h
  ·exact ⟨e,by simpa using he,h⟩
 ·have:=zm.1 (hh i o hi).2 j (List.mem_range.2 hj)
  simpa only [Bool.or_eq_true] using this
def qiU(ops:Array Oper)(listed:Array Bool):Prop:=∀ (k:Nat) (o:Oper),listed.getD k go=true->ops[k]?=ac o->∀ e∈o.after,Region.binds .any e=true->listed.getD e.on go=gi
theorem closed{D:Array Nat}{listed:Array Bool}(hF:Oo p ρ n ops D)(hd:qiU ops listed):∀ (i:Nat) (o:Oper),ops[i]?=ac o->(∀ e∈o.after,Region.binds .any e=true->listed.getD e.on go=gi)->∀ j,(D.getD i 0).testBit j=true->listed.getD j go=true:=by
 intro i
 induction i using Nat.strongRecOn with
 | _ i ih =>
  intro o ho hall j hj;obtain ⟨e,he,hb,h⟩:=hF.dep i o ho j hj;rcases h with rfl | h
  ·exact hall e he hb
  ·have hlt:e.on < i:=hF.back i o ho e he hb;have hlt2:e.on < ops.size:=Nat.lt_trans hlt (Dp.1 ho).1;exact ih e.on hlt _ (zXq hlt2) (hd e.on _ (hall e he hb) (zXq hlt2)) j h
def rem(ops:Array Oper)(listed:Array Bool):IO:=(zXY ops.size).filter λi=>!listed.getD i gi
theorem yM{listed:Array Bool}{i:Nat}:i∈rem ops listed↔i < ops.size/\listed.getD i gi=false:=by
 simp [rem]
theorem Uq{listed:Array Bool}{i:Nat}(hs:listed.size=ops.size)(hi:i∈rem ops listed):rem ops (listed.setIfInBounds i gi)=(rem ops listed).erase i:=by
 have hnd:(rem ops listed).Nodup:=List.Pairwise.filter _ List.nodup_range;rw [hnd.erase_eq_filter];unfold rem;rw [List.filter_filter];refine List.filter_congr λj hj=>?_
 by_cases he:i=j
 ·subst he;have:i < listed.size:=by rw [hs]; exact List.mem_range.1 hj
  simp [this]
 ·rw [getD_set_ne gi he];have hji:(j != i)=true:=by simpa using λh:j=i=>he h.symm
  simp only [hji,zQh,zXH]
theorem Ur{listed:Array Bool}{k:Nat}(hlt:k < listed.size):listed.getD k gi=listed.getD k false:=by
 simp [hlt]
theorem qeE{D:Array Nat}{Q:Exit->Act->World->Prop}(hF:Oo p ρ n ops D)(hQ:∀ g a w,lj E g n st' a w->Q .normal a w) :
  ∀ (fuel:Nat) (listed:Array Bool) (st:St) (g:Gh) (a:Act) (w:World),listed.size=ops.size->qiU ops listed->(rem ops listed).length=fuel->U4 P p ρ ops (rem ops listed) st st'->lj E g n st a w->wpAny P .any ops Q fuel listed a w:=by
 intro fuel
 induction fuel with
 | zero =>
  intro listed st g a w hs hd hl hr hS;have h0:rem ops listed=[]:=zQZ hl;rw [h0] at hr;have hr:st'=st:=hr;refine ⟨?_,hQ g a w (hr ▸ hS)⟩;refine List.eq_nil_iff_forall_not_mem.2 λj hj=>?_;obtain ⟨h1,o,ho,_⟩:=mem_ready.1 hj;have:j∈rem ops listed:=yM.2 ⟨(Dp.1 ho).1,h1⟩;rw [h0] at this;simp at this
 | succ fuel ih =>
  intro listed st g a w hs hd hl hr hS;have hsorted:(rem ops listed).Pairwise (· < ·):=List.Pairwise.filter _ List.pairwise_lt_range;refine ⟨λhnil=>?_,λi hi=>?_⟩
  ·exfalso
   cases hrem:rem ops listed with
   | nil=>rw [hrem] at hl; cases hl
   | cons i l =>
    have him:i∈rem ops listed:=by rw [hrem]; simp
    obtain ⟨hlt,hun⟩:=yM.1 him;have:i∈Region.ready .any ops listed:=by
     refine mem_ready.2 ⟨hun,_,zXq hlt,λe he hb=>?_⟩;have hlt2:=hF.back i _ (zXq hlt) e he hb;have hlt3:e.on < listed.size:=by omega
     cases hee:listed.getD e.on go with
     | true=>rfl
     | false =>
      have hm:e.on∈rem ops listed:=yM.2 ⟨by omega,by rw [Ur hlt3]; exact hee⟩;rw [hrem] at hm hsorted;rcases Ir.1 hm with h | h
      ·omega
      ·have:=(List.pairwise_cons.1 hsorted).1 _ h;omega
    rw [hnil] at this;simp at this
  ·obtain ⟨hun,o,ho,hall⟩:=mem_ready.1 hi;have hlt:i < ops.size:=(Dp.1 ho).1;have him:i∈rem ops listed:=yM.2 ⟨hlt,hun⟩;obtain ⟨b,h1,h2⟩:=pull him (λl1 l2 hsplit hni j hj=>by
    have hjm:j∈rem ops listed:=by rw [hsplit]; exact sa.2 (.inl hj)
    have hji:j < i:=by
     rw [hsplit] at hsorted;exact (List.pairwise_append.1 hsorted).2.2 j hj i (zWX ..)
    rcases hF.ind i j o ho hji with h | h
    ·have h3:=closed hF hd i o ho hall j h;have h4:=(yM.1 hjm).2;rw [Ur (by rw [hs]; exact (yM.1 hjm).1),h3] at h4
     cases h4
    ·exact h) hr
   refine ES hS (hF.dst i) h1 λg' a' w' hS'=>ih (listed.setIfInBounds i gi) b g' a' w' (by simp [hs]) ?_ ?_ ?_ hS'
   ·intro k o' hk ho' e he hb
    by_cases hik:i=k
    ·subst hik;rw [ho] at ho';injection ho' with ho'
     subst ho';exact getD_set_true (hall e he hb)
    ·rw [getD_set_ne go hik] at hk;exact getD_set_true (hd k o' hk ho' e he hb)
   ·rw [Uq hs him,List.length_erase_of_mem him,hl];rfl
   ·rw [Uq hs him];exact h2
def Jj(P:Program)(p:Nat->Bool)(ρ:Nat->fi)(ops:Array Oper):W2->St->St->Prop
 | [],st,st'=>st'=st
 | o :: l,st,st'=>∃ b,FL P p ρ ops o st b/\Jj P p ρ ops l b st'
theorem D4:∀ {l:W2} {k:Nat} {st:St},(∀ j,l[j]?=ops[k+j]?)->Jj P p ρ ops l st st'->U4 P p ρ ops (zXW k l.length) st st'
 | [],k,st,_,h=>h
 | o :: l,k,st,hl,⟨b,h1,h2⟩=>by
  refine ⟨b,?_,D4 (k:=k+1) (λj=>by have:=hl (j+1); simpa [zZj,Nat.add_comm 1 j] using this) h2⟩;have:=hl 0;simp at this;unfold xU;rw [<- this];exact h1
theorem Y9{Q:Exit->Act->World->Prop}{id:Nat}{draw:Bool}(hm:draw=true->P.follows .mixedOrders=gi)(hok:if draw then U6 p ρ n ops=gi else ops.toList.all (rq n)=gi)
  (hS:lj E g n st a w) (hr:Jj P p ρ ops ops.toList st st') (hQ:∀ g a w,lj E g n st' a w->Q .normal a w):(Code.region id ops draw).wp P Q a w:=by
 have hrI:U4 P p ρ ops (zXY ops.size) st st':=by
  have:=D4 (k:=0) (l:=ops.toList) ig hr;rw [zYX]
  simpa using this
 cases draw with
 | false =>
  refine wp_region (Ye (λi o ho=>?_) hQ hS hrI);exact zm.1 (show ops.toList.all (rq n)=gi from hok) o (by simpa using Array.mem_of_getElem? ho)
 | true =>
  have hF:=U7 (by simpa using hok);have hrem:rem ops (zZy ops.size go)=zXY ops.size:=by
   unfold rem;refine List.filter_eq_self.2 λi hi=>?_;have:i < ops.size:=List.mem_range.1 hi;simp [this]
  refine wp_region_any (hm rfl) (qeE hF hQ _ _ st g a _ ig (λk o hk=>?_) (by rw [hrem]; simp) (by rw [hrem]; exact hrI) hS.drew)
  by_cases hlt:k < ops.size <;> simp [hlt] at hk
end
def EL(E:En)(ls:IO):Prop:=∃ fl,ls=E.lent.map Prod.fst++fl/\(∀ q∈E.lent,900<=q.1)/\(∀ v,E.pin=ac v->0∈fl)/\(1∈fl->∀ b,¬ E.F0 b/\¬ E.X b)
theorem EL.mem{E:En}{ls:IO}(h:EL E ls){i b:Nat}(hi:(i,b)∈E.lent):i∈ls/\900<=i:=by
 obtain ⟨fl,rfl,h2,_⟩:=h;exact ⟨zKQ _ (List.mem_map.2 ⟨_,hi,rfl⟩),h2 _ hi⟩
theorem EL.pin{E:En}{ls:IO}(h:EL E ls){v:Value}(hv:E.pin=ac v):0∈ls:=by
 obtain ⟨fl,rfl,_,h2,_⟩:=h;exact List.mem_append_right _ (h2 v hv)
def ELp(P:Program)(E:En)(ls:IO):Prop:=EL E ls/\Tb P E
def Wp(P:Program)(n:Nat)(ls:IO)(c:Code)(Q:Exit->St->Prop)(st:St):Prop :=
 ∀ (E:En) (g:Gh) (a:Act) (w:World),ELp P E ls->lj E g n st a w->c.wp P (λe a' w'=>∃ g' st',lj E g' n st' a' w'/\Q e st') a w
def Bo(N:St->Prop)(Q:Exit->St->Prop):Exit->St->Prop
 | .normal,st=>N st
 | e,st=>Q e st
def qeF(id:Nat)(Q:Exit->St->Prop):Exit->St->Prop
 | .exit id',st=>bif zWg id' id then Q .normal st else Q (.exit id') st
 | e,st=>Q e st
def Le(n:Nat)(ls:IO)(st st1:St):Prop:=∀ (E:En) (g:Gh) (a:Act) (w:World),EL E ls->lj E g n st a w->∃ g',lj E g' n st1 a w
section
variable {P:Program} {n:Nat} {ls:IO} {Q:Exit->St->Prop} {st st':St} {x y c:Code}
theorem eO(h:Q .normal st):Wp P n ls .skip Q st:=λE g a w hE hS=>wp_skip ⟨g,st,hS,h⟩
theorem Wp.ret(h:Q .ret st):Wp P n ls .ret Q st:=λE g a w hE hS=>wp_ret ⟨g,st,hS,h⟩
theorem Wp.exit{id:Nat}(h:Q (.exit id) st):Wp P n ls (.exit id) Q st:=λE g a w hE hS=>wp_exit ⟨g,st,hS,h⟩
theorem Wp.mono{Q':Exit->St->Prop}(h:Wp P n ls c Q st)(hq:∀ e st,Q e st->Q' e st):Wp P n ls c Q' st :=
 λE g a w hE hS=>wp_mono (h E g a w hE hS) λe a' w' ⟨g',st',h1,h2⟩=>⟨g',st',h1,hq e st' h2⟩
theorem ap(h:Wp P n ls x (Bo (Wp P n ls y Q) Q) st):Wp P n ls (.seq x y) Q st :=
 λE g a w hE hS=>wp_seq (wp_mono (h E g a w hE hS) λe a' w' ⟨g',st',h1,h2⟩=>by
  cases e with
  | normal=>exact h2 E g' a' w' hE h1
  | _=>exact ⟨g',st',h1,h2⟩)
theorem Wp.cond{o:Operand}{b:Bool}(ho:st.eval o=ac (.t (.bool b)))(h:Wp P n ls (if b then x else y) Q st):Wp P n ls (.cond o x y) Q st :=
 λE g a w hE hS=>by
  have hv:=cm hS ho;generalize hva:a.eval o=v at hv
  cases hv with
  | t x v hr =>
   cases hr
   exact wp_cond hva (h E g a w hE hS)
theorem qfT{o:Operand}{b:Bool}(ho:st.eval o=ac (.t (.bool b)))(ht:b=true->Wp P n ls x Q st)(hf:b=false->Wp P n ls y Q st):Wp P n ls (.cond o x y) Q st :=
 Wp.cond ho (by
  cases b with
  | true=>exact ht rfl
  | false=>exact hf rfl)
theorem cd{id:Nat}(h:Wp P n ls c (qeF id Q) st):Wp P n ls (.block id c) Q st :=
 λE g a w hE hS=>wp_block (wp_mono (h E g a w hE hS) λe a' w' ⟨g',st',h1,h2⟩=>by
  cases e with
  | exit id' =>
   simp only [Exit.inBlock];simp only [qeF] at h2
   split
   ·rename_i he;subst he;rw [zVH] at h2;exact ⟨g',st',h1,h2⟩
   ·rename_i he;have:zWg id' id=false:=by
     cases hb:zWg id' id
     ·rfl
     ·exact absurd (zWq hb) he
    rw [this] at h2;exact ⟨g',st',h1,h2⟩
  | _=>exact ⟨g',st',h1,h2⟩)
def qiv(P:Program)(n:Nat)(ls:IO)(c:Code)(Q:Exit->St->Prop):Nat->St->Prop
 | 0,_=>False
 | k+1,st=>Wp P n ls c (Bo (qiv P n ls c Q k) Q) st
def IL(P:Program)(c:Code)(Q:Exit->Act->World->Prop):Nat->Act->World->Prop
 | 0,_,_=>False
 | k+1,a,w=>c.wp P (Exit.then (IL P c Q k) Q) a w
theorem qaM{c:Code}{Q:Exit->Act->World->Prop}{a:Act}{w:World}{k:Nat}(h:IL P c Q k a w):(Code.loop c).wp P Q a w:=by
 classical
 have key:∀ a w,(∃ k,IL P c Q k a w)->∃ k,IL P c Q k a w/\∀ j,IL P c Q j a w->k<=j:=by
  intro a w ⟨k,hk⟩
  induction k using Nat.strongRecOn with
  | _ k ih =>
   by_cases hm:∀ j,IL P c Q j a w->k<=j
   ·exact ⟨k,hk,hm⟩
   ·obtain ⟨j,hj⟩:=Classical.not_forall.1 hm;obtain ⟨hj1,hj2⟩:=Classical.not_imp.1 hj;exact ih j al hj1
 let μ:Act->World->Nat:=λa w=>if h:∃ k,IL P c Q k a w then Classical.choose (key a w h) else 0
 have hμ:∀ a w (h:∃ k,IL P c Q k a w),IL P c Q (μ a w) a w/\∀ j,IL P c Q j a w->μ a w<=j:=by
  intro a w h;have:μ a w=Classical.choose (key a w h):=by simp only [μ,h,dite_true]
  rw [this];exact Classical.choose_spec (key a w h)
 refine wp_loop (λa w=>∃ k,IL P c Q k a w) μ ⟨k,h⟩ λa w hI=>?_;obtain ⟨h1,h2⟩:=hμ a w hI
 cases hm:μ a w with
 | zero=>rw [hm] at h1; exact h1.elim
 | succ m =>
  rw [hm] at h1;refine wp_mono h1 λe a' w' hq=>?_
  cases e with
  | normal =>
   have hI':∃ k,IL P c Q k a' w':=⟨m,hq⟩;exact ⟨hI',by have:=(hμ a' w' hI').2 m hq; omega⟩
  | _=>exact hq
theorem Wp.loop{k:Nat}(h:qiv P n ls c Q k st):Wp P n ls (.loop c) Q st:=by
 intro E g a w hE hS;refine qaM (k:=k) ?_
 induction k generalizing st g a w with
 | zero=>exact h.elim
 | succ k ih =>
  refine wp_mono (h E g a w hE hS) λe a' w' ⟨g',st',h1,h2⟩=>?_
  cases e with
  | normal=>exact ih h2 g' a' w' h1
  | _=>exact ⟨g',st',h1,h2⟩
theorem Wp.le{st1:St}(hl:Le n ls st st1)(h:Wp P n ls c Q st1):Wp P n ls c Q st:=λE g a w hE hS=>by
 obtain ⟨g',hS'⟩:=hl E g a w hE.1 hS;exact h E g' a w hE hS'
def ab(P:Program)(p:Nat->Bool)(ρ:Nat->fi)(ops:Array Oper)(l:W2)(st:St)(K:St->Prop):Prop:=∃ st',Jj P p ρ ops l st st'/\K st'
theorem Wp.region{p:Nat->Bool}{ρ:Nat->fi}{ops:Array Oper}{id:Nat}{draw:Bool}(hm:draw=true->P.follows .mixedOrders=gi)(hok:if draw then U6 p ρ n ops=gi else ops.toList.all (rq n)=gi)
  (h:ab P p ρ ops ops.toList st (Q .normal)):Wp P n ls (.region id ops draw) Q st:=λE g a w hE hS=>by
 obtain ⟨st',h1,h2⟩:=h;have:=hE.2;exact Y9 hm hok hS h1 λg a w hS'=>⟨g,st',hS',h2⟩
section
variable {p:Nat->Bool} {ρ:Nat->fi} {ops:Array Oper} {l:W2} {K:St->Prop} {o:Oper}
theorem ab.step{b:St}(h:FL P p ρ ops o st b)(hr:ab P p ρ ops l b K):ab P p ρ ops (o :: l) st K:=by
 obtain ⟨st',h1,h2⟩:=hr;exact ⟨st',⟨b,h,h1⟩,h2⟩
theorem ab.op{x:A}{st1:St}(hg:jI ops st o=ac gi)(hf:fX ρ st o=gi)(h:(tl P ρ st.eval o).run st=ac (x,st1))(hr:ab P p ρ ops l (st1.put o.dst x) K):ab P p ρ ops (o :: l) st K :=
 ab.step (.run x st1 hg hf (.plain h)) hr
end
end
mutual
def A.ren(φo φr:Nat->Nat):A->A
 | .own r=>.own (φr r)
 | .obj s off=>.obj (φo s) off
 | .elem r sz i off=>.elem (φr r) sz i off
 | .sub r sz lo=>.sub (φr r) sz lo
 | .win r lo m=>.win (φr r) lo m
 | .agg l=>.agg (xh φo φr l)
 | .tup l=>.tup (xh φo φr l)
 | .clo f l=>.clo f (xh φo φr l)
 | .t x=>.t x
 | .nil=>.nil
 | .fadr c=>.fadr c
 | .nn sz rows=>.nn sz rows
 | .undef=>.undef
 | .raw v=>.raw v
 | .osl s a n c=>.osl (φo s) a n c
 | .ext s x=>.ext s x
 | .exa s c=>.exa s c
 | .shp x=>.shp x
def xh(φo φr:Nat->Nat):Os->Os
 | []=>[]
 | a :: r=>a.ren φo φr :: xh φo φr r
end
mutual
def A.known(O R:Nat->Bool):A->Bool
 | .own r=>R r
 | .obj s _=>O s
 | .osl s _ _ _=>O s
 | .elem r _ _ _=>R r
 | .sub r _ _=>R r
 | .win r _ _=>R r
 | .agg l=>AS O R l
 | .tup l=>AS O R l
 | .clo _ l=>AS O R l
 | _=>gi
def AS(O R:Nat->Bool):Os->Bool
 | []=>gi
 | a :: r=>a.known O R && AS O R r
end
def JD{β:Type}:List (Nat×β)->Nat->Option β
 | [],_=>cl
 | (k,v) :: r,i=>bif zWg k i then ac v else JD r i
theorem vA{β:Type}:∀ {l:List (Nat×β)} {i:Nat} {v:β},JD l i=ac v->(i,v)∈l
 | [],i,v,h=>by cases h
 | (k,u) :: r,i,v,h=>by
  unfold JD at h
  cases hk:zWg k i with
  | true =>
   rw [hk] at h
   cases h
   rw [zWq hk];exact zWX ..
  | false =>
   rw [hk] at h;exact zQv _ (vA h)
structure Sx where
 tm:List (Nat×A)
 ob:List (Nat×Os)
 rw:List (Nat×RZ)
def Sx.st(s:Sx):St:=⟨λi=>match JD s.tm i with | some a=>a | none=>.undef,JD s.ob,JD s.rw⟩
theorem JE{φo φr:Nat->Nat}:∀ (l:Os),(xh φo φr l).length=l.length
 | []=>rfl
 | a :: r=>by simp [xh,JE r]
theorem U8{φo φr:Nat->Nat}:∀ (l:Os) (j:Nat),(xh φo φr l)[j]?=l[j]?.map (A.ren φo φr)
 | [],j=>by simp [xh]
 | a :: r,0=>by simp [xh]
 | a :: r,j+1=>by simp [xh,U8 r j]
theorem Mx{O R:Nat->Bool}:∀ {l:Os},AS O R l=true->∀ (j:Nat) (a:A),l[j]?=ac a->a.known O R=gi
 | [],_,j,a,h=>by simp at h
 | x :: r,hk,j,a,h=>by
  unfold AS at hk;simp only [sk] at hk
  cases j with
  | zero=>simp at h; exact h ▸ hk.1
  | succ j=>exact Mx hk.2 j a (by simpa using h)
theorem qfU{w:World}{g:Gh}{O R:Nat->Prop}{φo φr:Nat->Nat}{O' R':Nat->Bool}:∀ (a:A) {v:Value},VR w g O R (a.ren φo φr) v->a.known O' R'=gi ->
  VR w { g with ob:=λs=>g.ob (φo s),rw:=λr=>g.rw (φr r) } (λs=>O' s=gi) (λr=>R' r=gi) a v:=by
 have main:∀ (k:Nat) (a:A),SizeOf.sizeOf a < k->∀ {v:Value},VR w g O R (a.ren φo φr) v->a.known O' R'=gi ->
   VR w { g with ob:=λs=>g.ob (φo s),rw:=λr=>g.rw (φr r) } (λs=>O' s=gi) (λr=>R' r=gi) a v:=by
  intro k
  induction k with
  | zero=>intro a h; omega
  | succ k ih =>
   intro a hk v h hn;have hl:∀ (l:Os) (vs:List Value),SizeOf.sizeOf l<=k->(∀ (j:Nat) (x:A) (u:Value),(xh φo φr l)[j]?=ac x->vs[j]?=ac u->VR w g O R x u)->AS O' R' l=gi ->
     ∀ (j:Nat) (x:A) (u:Value),l[j]?=ac x->vs[j]?=ac u->VR w { g with ob:=λs=>g.ob (φo s),rw:=λr=>g.rw (φr r) } (λs=>O' s=gi) (λr=>R' r=gi) x u:=λl vs hs hx hkn j x u hj hu=>by
    have:=List.sizeOf_lt_of_mem (zQQ hj);exact ih x al (hx j _ u (by rw [U8,hj]; rfl) hu) (Mx hkn j x hj)
   cases a with
   | t x=>unfold A.ren at h; cases h with | t x v h=>exact .t x v h
   | nil=>unfold A.ren at h; cases h; exact .nil
   | own r =>
    unfold A.ren at h;unfold A.known at hn
    cases h with | own _ hr=>exact .own (g:={ g with ob:=λs=>g.ob (φo s),rw:=λr=>g.rw (φr r) }) r hn
   | agg l =>
    unfold A.ren at h;unfold A.known at hn
    cases h with | agg _ vs h1 h2=>exact .agg l vs ((JE l).symm.trans h1) (hl l vs qg9 h2 hn)
   | tup l =>
    unfold A.ren at h;unfold A.known at hn
    cases h with | tup _ vs h1 h2=>exact .tup l vs ((JE l).symm.trans h1) (hl l vs qg9 h2 hn)
   | obj s off =>
    unfold A.ren at h;unfold A.known at hn
    cases h with | obj _ _ hs=>exact .obj (g:={ g with ob:=λs=>g.ob (φo s),rw:=λr=>g.rw (φr r) }) s off hn
   | elem r sz i off =>
    unfold A.ren at h;unfold A.known at hn
    cases h with | elem _ _ _ _ b n c hr he=>exact .elem r sz i off b n c hn he
   | win r lo m =>
    unfold A.ren at h;unfold A.known at hn
    cases h with | win _ _ _ n c c' ad a' hr he hm hp=>exact .win r lo m n c c' ad a' hn he hm hp
   | sub r sz lo =>
    unfold A.ren at h;unfold A.known at hn
    cases h with | sub _ _ _ n c c' ad a' hr he hp=>exact .sub r sz lo n c c' ad a' hn he hp
   | fadr c =>
    unfold A.ren at h
    cases h with | fadr _ b off u hF hx hr=>exact .fadr c b off u hF hx hr
   | nn sz rows =>
    unfold A.ren at h
    cases h with | nn _ _ _ hr hv=>exact .nn sz rows _ hr hv
   | clo f l =>
    unfold A.ren at h;unfold A.known at hn
    cases h with | clo _ _ vs h1 h2=>exact .clo f l vs ((JE l).symm.trans h1) (hl l vs qg9 h2 hn)
   | undef=>exact .undef v
   | raw u =>
    unfold A.ren at h
    cases h with | raw=>exact .raw _
   | osl s a n c =>
    unfold A.ren at h;unfold A.known at hn
    cases h with | osl _ _ _ _ h1 h2=>exact VR.osl (g:={ g with ob:=λs=>g.ob (φo s),rw:=λr=>g.rw (φr r) }) s a n c hn h2
   | ext s x =>
    unfold A.ren at h
    cases h with | ext _ _ _ hs h=>exact .ext s x _ hs h
   | shp x =>
    unfold A.ren at h
    cases h with | shp _ _ h=>exact .shp x _ h
   | exa s c =>
    unfold A.ren at h
    cases h with | exa _ _ b off u hs hD hx hr=>exact .exa s c b off u hs hD hx hr
 intro a v;exact main (SizeOf.sizeOf a+1) a al
def Gt(m:List (Nat×Nat))(i:Nat):Nat:=match JD m i with | some j=>j | none=>i
def qaN:IO->Bool
 | []=>gi
 | x :: r=>!r.contains x && qaN r
theorem My:∀ {l:IO},qaN l=true->l.Nodup
 | [],_=>List.nodup_nil
 | x :: r,h=>by
  unfold qaN at h;simp only [sk,Bool.not_eq_true'] at h;refine List.nodup_cons.2 ⟨λhm=>?_,My h.2⟩;have:=h.1;simp at this;exact this hm
def Sx.O(s:Sx)(i:Nat):Bool:=(JD s.ob i).isSome
def Sx.R(s:Sx)(i:Nat):Bool:=(JD s.rw i).isSome
def Us(O R:Nat->Bool):List (Nat×Os)->Bool
 | []=>gi
 | (_,l) :: r=>AS O R l && Us O R r
def Ut(O R:Nat->Bool)(n:Nat):List (Nat×A)->Bool
 | []=>gi
 | (k,a) :: r=>zKX k n && a.known O R && Ut O R n r
theorem R8{O R:Nat->Bool}:∀ {l:List (Nat×Os)},Us O R l=true->∀ q∈l,AS O R q.2=gi
 | [],_,q,h=>by simp at h
 | (k,x) :: r,hk,q,h=>by
  unfold Us at hk;simp only [sk] at hk;rcases Ir.1 h with rfl | h
  ·exact hk.1
  ·exact R8 hk.2 q h
theorem JF{O R:Nat->Bool}{n:Nat}:∀ {l:List (Nat×A)},Ut O R n l=true->∀ q∈l,q.1 < n/\q.2.known O R=gi
 | [],_,q,h=>by simp at h
 | (k,x) :: r,hk,q,h=>by
  unfold Ut at hk;simp only [sk] at hk;rcases Ir.1 h with rfl | h
  ·exact ⟨by simpa using hk.1.1,hk.1.2⟩
  ·exact JF hk.2 q h
def Sx.ok(s:Sx)(n:Nat)(ls:IO)(mo mr:List (Nat×Nat)):Bool :=
 qaN (s.ob.map λq=>Gt mo q.1) && qaN (s.rw.map λq=>Gt mr q.1) && Us s.O s.R s.ob && Ut s.O s.R n s.tm && ls.all λi=>match i with | 0=>s.R PR && zWg (Gt mr PR) PR | 1=>gi | i=>s.O i && zWg (Gt mo i) i
theorem Qv{β:Type}{φ:Nat->Nat}:∀ {l:List (Nat×β)},(l.map λq=>φ q.1).Nodup->∀ {q q':Nat×β},q∈l->q'∈l->φ q.1=φ q'.1->q=q'
 | [],_,q,q',h,_,_=>by simp at h
 | x :: r,hn,q,q',h,h',he=>by
  simp only [zXV,List.nodup_cons,zYv,not_exists,not_and] at hn;rcases Ir.1 h with h1 | h1
  ·rcases Ir.1 h' with h2 | h2
   ·rw [h1,h2]
   ·subst h1; exact absurd he.symm (hn.1 q' h2)
  ·rcases Ir.1 h' with h2 | h2
   ·subst h2; exact absurd he (hn.1 q h1)
   ·exact Qv hn.2 h1 h2 he
theorem Uu{α β:Type}{f g:α->β}:∀ {l:List α},l.map f=l.map g->∀ x∈l,f x=g x
 | [],_,x,h=>by simp at h
 | y :: r,he,x,h=>by
  simp only [zXV,List.cons.injEq] at he;rcases Ir.1 h with rfl | h
  ·exact he.1
  ·exact Uu he.2 x h
theorem Le.of{n:Nat}{ls:IO}{st:St}{s:Sx}{mo mr:List (Nat×Nat)}(hok:s.ok n ls mo mr=gi)(ht:s.tm.map (λq=>st.tm q.1)=s.tm.map (λq=>q.2.ren (Gt mo) (Gt mr)))
  (ho:s.ob.map (λq=>st.ob (Gt mo q.1))=s.ob.map (λq=>ac (xh (Gt mo) (Gt mr) q.2))) (hr:s.rw.map (λq=>st.rw (Gt mr q.1))=s.rw.map (λq=>ac q.2)):Le n ls st s.st:=by
 simp only [Sx.ok,sk] at hok;obtain ⟨⟨⟨⟨hno,hnr⟩,hkl⟩,hkt⟩,hls⟩:=hok;intro E g a w hE hS;have hM:=hS.mem;have hob:∀ {i:Nat} {l:Os},JD s.ob i=ac l->st.ob (Gt mo i)=ac (xh (Gt mo) (Gt mr) l):=λ{i l} h=>Uu ho (i,l) (vA h);have hrw:∀ {i:Nat} {x:RZ},JD s.rw i=ac x->st.rw (Gt mr i)=ac x:=λ{i x} h=>Uu hr (i,x) (vA h);have hOe:(λi=>s.O i=gi)=s.st.O:=rfl;have hRe:(λi=>s.R i=gi)=s.st.R:=rfl;have hL:∀ {r},s.st.L r->st.L (Gt mr r):=λ{r} ⟨e,sz,rows,h⟩=>⟨e,sz,rows,hrw h⟩;have hvr:∀ {x:A} {v:Value},VR w g st.O st.R (x.ren (Gt mo) (Gt mr)) v->x.known s.O s.R=true->VR w { g with ob:=λs=>g.ob (Gt mo s),rw:=λr=>g.rw (Gt mr r) } s.st.O s.st.R x v:=λ{x v} h hk=>by
  rw [<- hOe,<- hRe];exact qfU x h hk
 refine ⟨{ g with ob:=λs=>g.ob (Gt mo s),rw:=λr=>g.rw (Gt mr r) },⟨⟨λi cells h=>?_,λi i' h h' he=>?_,λi x h=>hM.row _ x (hrw h),λr r' b h h' he he'=>?_,λr i h h'=>?_,hM.F,hM.os,hM.tape,hM.output,hM.sizes,hM.frame,hM.shp,hM.dep0⟩,hS.size,hS.defers,λi hi=>?_,λi hi=>?_,λi b hib=>?_,λv hv=>?_⟩⟩
 ·have h:JD s.ob i=ac cells:=h;obtain ⟨arr,e,h1,h2,h3,h4,h5⟩:=hM.ob _ _ (hob h);rw [JE] at h2;refine ⟨arr,e,h1,h2,λj x hj=>?_,h4,h5⟩;obtain ⟨h6,v,h7,h8⟩:=h3 j (x.ren (Gt mo) (Gt mr)) (by rw [U8,hj]; rfl);refine ⟨?_,v,h7,hvr h8 (Mx (R8 hkl _ (vA h)) j x hj)⟩
  cases x <;> first | rfl | (simp [A.ren,A.one] at h6)
 ·obtain ⟨l,hl⟩:=sr.1 h;obtain ⟨l',hl'⟩:=sr.1 h';have:=hM.obne _ _ (show st.O _ by unfold St.O; rw [hob hl]; rfl) (show st.O _ by unfold St.O; rw [hob hl']; rfl) he;exact congrArg Prod.fst (Qv (My hno) (vA hl) (vA hl') this)
 ·have:=hM.rowne _ _ b (hL h) (hL h') he he';obtain ⟨e,sz,rows,hx⟩:=h;obtain ⟨e',sz',rows',hx'⟩:=h';exact congrArg Prod.fst (Qv (My hnr) (vA hx) (vA hx') this)
 ·obtain ⟨l,hl⟩:=sr.1 h';exact hM.rowob _ _ (hL h) (show st.O _ by unfold St.O; rw [hob hl]; rfl)
 ·obtain ⟨v,h1,h2⟩:=hS.tm i hi;refine ⟨v,h1,?_⟩;show VR w _ s.st.O s.st.R (match JD s.tm i with | some a=>a | none=>.undef) v
  cases hl:JD s.tm i with
  | none=>exact .undef v
  | some x =>
   have:=Uu ht (i,x) (vA hl);simp only at this;rw [this] at h2;exact hvr h2 (JF hkt _ (vA hl)).2
 ·show (match JD s.tm i with | some a=>a | none=>.undef)=A.undef
  cases hl:JD s.tm i with
  | none=>rfl
  | some x =>
   have:=(JF hkt _ (vA hl)).1;simp only at this;omega
 ·obtain ⟨hi,h9⟩:=hE.mem hib;have:=zm.1 hls i hi;obtain ⟨k,rfl⟩:∃ k,i=k+2:=⟨i - 2,by omega⟩;simp only [sk] at this;refine ⟨this.1,?_⟩;show g.ob (Gt mo (k+2))=b;rw [zWq this.2];exact (hS.lent (k+2) b hib).2
 ·have:=zm.1 hls 0 (hE.pin hv);simp only [sk] at this;refine ⟨this.1,?_⟩;show g.rw (Gt mr PR)=v;rw [zWq this.2];exact (hS.pin v hv).2
def DK(P:Program)(st:St):List ResultVar->Option Os
 | []=>ac []
 | .tmp t :: r=>match DK P st r with | some l=>ac (st.tm t :: l) | none=>cl
 | .cell a t :: r=>match st.tm a with
  | .obj s off=>match st.ob s with
   | some cells=>match qan P t,jX P t with
    | some g,ac n=>match Mq g n cells off,DK P st r with | some x,ac l=>ac (x :: l) | _,_=>cl
    | _,_=>cl
   | none=>cl
  | _=>cl
def qct:Os->A
 | [x]=>x
 | l=>.tup l
def FM{α:Type}:Nat->List V->(List (List C)->MA α)->MA α
 | _,[],k=>k []
 | i,.ptr _ :: r,k=>JA (900+i) λc=>FM (i+1) r λos=>k (c :: os)
 | i,_ :: r,k=>FM (i+1) r k
def gr:Nat->List V->IO
 | _,[]=>[]
 | i,.ptr _ :: r=>(900+i) :: gr (i+1) r
 | i,_ :: r=>gr (i+1) r
def oE:Nat->List V->List Value->List (Nat×Nat)
 | i,.ptr _ :: r,.pointer (ac a) :: vs=>(900+i,a.block) :: oE (i+1) r vs
 | i,.ptr _ :: r,_ :: vs=>(900+i,0) :: oE (i+1) r vs
 | i,_ :: r,_ :: vs=>oE (i+1) r vs
 | i,.ptr _ :: r,[]=>(900+i,0) :: oE (i+1) r []
 | i,_ :: r,[]=>oE (i+1) r []
 | _,[],_=>[]
def jk:Nat->List V->Os->Bool
 | _,[],_=>gi
 | i,.ptr _ :: r,.obj s 0 :: jo=>zWg s (900+i) && jk (i+1) r jo
 | i,.ptr _ :: r,_=>go
 | i,_ :: r,_ :: jo=>jk (i+1) r jo
 | i,_ :: r,[]=>go
section
variable {P:Program} {E:En} {g:Gh} {st st':St} {a:Act} {w:World} {n:Nat}
theorem sN:∀ (l:List V) (i:Nat) (vs:List Value),(oE i l vs).map Prod.fst=gr i l
 | [],i,vs=>by cases vs <;> rfl
 | x :: l,i,[]=>by cases x <;> simp [oE,gr,sN l]
 | x :: l,i,v :: vs=>by
  cases x <;> simp only [gr] <;> try (simp only [oE]; exact sN l _ _)
  cases v <;> try (simp only [oE,zXV,List.cons.injEq,true_and]; exact sN l _ _)
  rename_i o
  cases o <;> (simp only [oE,zXV,List.cons.injEq,true_and]; exact sN l _ _)
theorem Ia:∀ (l:List V) (i:Nat),∀ q∈gr i l,900<=q
 | [],i,q,h=>by simp [gr] at h
 | x :: l,i,q,h=>by
  cases x <;> simp only [gr] at h <;> try exact Ia l _ q h
  rcases Ir.1 h with rfl | h
  ·omega
  ·exact Ia l _ q h
theorem KQ(l:List V)(i:Nat)(vs:List Value):∀ q∈oE i l vs,900<=q.1:=λq hq =>
 Ia l i q.1 (by rw [<- sN l i vs]; exact List.mem_map.2 ⟨q,hq,rfl⟩)
theorem Qw:∀ {rs:List ResultVar} {l:Os},lj E g n st a w->DK P st rs=ac l->(∀ t,.tmp t∈rs->t < n)->∃ vs:List Value,l.length=vs.length/\(∀ (j:Nat) (x:A) (u:Value),l[j]?=ac x->vs[j]?=ac u->VR w g st.O st.R x u) /\
  ∀ (f:ResultVar->Sem Value) (_:∀ u,f (.tmp u)=pure (a.tmps.getD u undef)) (_:∀ p t,f (.cell p t)=(do loadVar t (<- asAddr (a.tmps.getD p undef)))),(rs.mapM f).run P w=.ok vs w
 | [],l,hS,h,_=>by
  cases h
  exact ⟨[],rfl,by simp,λf _ _=>by simp⟩
 | .tmp t :: r,l,hS,h,ht=>by
  unfold DK at h
  split at h
  ·rename_i l' hl'
   cases h
   obtain ⟨vs,h1,h2,h3⟩:=Qw hS hl' (λt h=>ht t (by simp [h]));obtain ⟨v,h4,h5⟩:=hS.tm t (ht t ig);refine ⟨v :: vs,by simp [h1],λj x u hx hu=>?_,λf hf hc=>?_⟩
   ·cases j with
    | zero=>simp at hx hu; subst hx hu; exact h5
    | succ j=>exact h2 j x u qha (by simpa using hu)
   ·have:a.tmps.getD t undef=v:=by simp [h4]
    simp [List.mapM_cons,hf,h3 f hf hc,h4]
  ·cases h
 | .cell p t :: r,l,hS,h,ht=>by
  unfold DK at h
  split at h <;> try (cases h; done)
  rename_i s off hp
  split at h <;> try (cases h; done)
  rename_i cells hc
  split at h <;> try (cases h; done)
  rename_i gg nn hg hn
  split at h <;> try (cases h; done)
  rename_i x l' hx hl'
  cases h
  obtain ⟨vs,h1,h2,h3⟩:=Qw hS hl' (λt h=>ht t (by simp [h]));have hlt:p < n:=by
   rcases Nat.lt_or_ge p n with h | h
   ·exact h
   ·rw [hS.und p h] at hp; cases hp
  obtain ⟨v,h4,h5⟩:=hS.tm p hlt;rw [hp] at h5
  cases h5 with
  | obj s off hs =>
   obtain ⟨arr,e,hh,hl,hv,_⟩:=hS.mem.ob s cells hc;obtain ⟨u,hu,hr⟩:=Jy (P:=P) (w:=w) (g:=g) (st:=st) (b:=g.ob s) (o:=0) hg hn hx (λj y hy=>by
    obtain ⟨_,u,hu,hr⟩:=hv j y hy;exact ⟨u,by rw [zWY]; simp [World.cell?,hh,hu],hr⟩)
   rw [zWY] at hu;refine ⟨u :: vs,by simp [h1],λj x u hx hu=>?_,λf hf hcc=>?_⟩
   ·cases j with
    | zero=>simp at hx hu; subst hx hu; exact hr
    | succ j=>exact h2 j x u qha (by simpa using hu)
   ·simp [List.mapM_cons,hcc,h4,asAddr,hu,h3 f hf hcc]
theorem Ib{fn:Func}{l:Os}(hS:lj E g n st a w)(h:DK P st fn.results.toList=ac l)(ht:(fn.results.toList.all λ| .tmp t=>zKX t n | _=>gi)=gi):∃ v,(results fn a.tmps).run P w=.ok v w/\VR w g st.O st.R (qct l) v:=by
 obtain ⟨vs,h1,h2,h3⟩:=Qw hS h (λt h=>by simpa using zm.1 ht _ h);have hres:fn.results=fn.results.toList.toArray:=by simp
 have hr:(results fn a.tmps).run P w=.ok (if h:vs.toArray.size=1 then vs.toArray[0] else .tuple vs.toArray) w:=by
  unfold results;rw [hres,List.mapM_toArray];simp only [Sem.run_bind,Sem.run_map];rw [h3 _ (λ_=>rfl) (λ_ _=>rfl)];simp only [Result.andThen_ok,Sem.run_pure]
 refine ⟨_,hr,?_⟩
 clear hr h3
 match vs,l,h1,h2 with
 | [],[],_,_=>exact .tup [] [] rfl (λi x v h=>by simp at h)
 | [v],[x],_,h2=>exact h2 0 x v rfl rfl
 | v :: v' :: vs,x :: x' :: l,h1,h2=>exact .tup _ _ h1 h2
theorem IJ.len{w:World}{F:Nat->Prop}:∀ {l:List V} {vs:List Value} {bs:IO},IJ w F l vs bs->l.length=vs.length
 | _,_,_,.nil=>rfl
 | _,_,_,.cons _ _ _ _ _ _ _ hs=>by simp [hs.len]
theorem ud.mono{F F':Nat->Prop}(hF:∀ b,F b->F' b){l:List V}{us:List Value}{os:List (List C)}{bo:IO}(h:ud w F l us os bo):ud w F' l us os bo:=by
 induction h with
 | nil=>exact .nil
 | ptr c c' v bs l vs os bo h hs ih=>exact .ptr c c' v bs l vs os bo (h.mono (λ_ _=>rfl) hF (λ_ _=>rfl)) ih
 | skip x v l vs os bo hx hs ih=>exact .skip x v l vs os bo hx ih
theorem Ej{α:Type}{st':St}:∀ (l:List V) {i:Nat} {us:List Value} {g:Gh} {st:St} {k:List (List C)->MA α} {y:α},io E g st w->us.length=l.length->(∀ (j:Nat) (c:List C),l[j]?=ac (.ptr c)->us[j]?=ac (.pointer (ac ⟨g.ob (900+(i+j)),0,cl⟩)))->(FM i l k).run st=ac (y,st') ->
  ∃ os st1 g1 bo,io E g1 st1 w/\vO w w g g1 st.O st.R st1.O st1.R/\Xd g st g1 st1/\(k os).run st1=ac (y,st')/\ud w g1.F l us os bo/\Tk g st g1 st1 bo
 | [],i,us,g,st,k,y,hM,hl,hp,h=>by
  have:us=[]:=zQZ wz5;subst this;exact ⟨[],st,g,[],hM,vO.refl _ _ _ _,Xd.refl _ _,h,.nil,Tk.nil _ _ _ _⟩
 | x :: l,i,us,g,st,k,y,hM,hl,hp,h=>by
  obtain ⟨u,us,rfl⟩:∃ u us',us=u :: us':=by
   cases us with
   | nil=>simp at hl
   | cons u us=>exact ⟨u,us,rfl⟩
  have hp':∀ (j:Nat) (c:List C),l[j]?=ac (.ptr c)->us[j]?=ac (.pointer (ac ⟨g.ob (900+(i+1+j)),0,cl⟩)):=λj c hj=>by
   have:=hp (j+1) c wz9;rw [show i+1+j=i+(j+1) by omega]
   simpa using this
  have hoth:(∀ c,x≠.ptr c)->(FM (i+1) l k).run st=ac (y,st')->∃ os st1 g1 bo,io E g1 st1 w/\vO w w g g1 st.O st.R st1.O st1.R/\Xd g st g1 st1/\(k os).run st1=ac (y,st')/\ud w g1.F (x :: l) (u :: us) os bo/\Tk g st g1 st1 bo:=λhx h=>by
   obtain ⟨os,st1,g1,bo,h1,h2,h3,h4,h5,h6⟩:=Ej l hM wz5 hp' h;exact ⟨os,st1,g1,bo,h1,h2,h3,h4,.skip x u l us os bo hx h5,h6⟩
  cases x with
  | ptr c =>
   unfold FM at h;have hu:=hp 0 c rfl;simp at hu;subst hu;obtain ⟨cs,st1,g1,b1,hM1,hE1,hL1,h1,hv1,ht1,_⟩:=H3 hM h;obtain ⟨os,st2,g2,bo,h2,h3,h4,h5,h6,h7⟩:=Ej l hM1 wz5 (by rw [hL1.ob]; exact hp') h1;exact ⟨cs :: os,st2,g2,b1++bo,h2,hE1.trans h3,hL1.trans h4,h5,.ptr c cs _ b1 l us os bo (hv1.mono h3.same h3.F (λ_ _=>rfl)) h6,ht1.app hM hL1 h7 h4⟩
  | _=>exact hoth (λc h=>by cases h) (by unfold FM at h; exact h)
theorem Za{i:Nat}{c:List C}{r:List V}{jo:Os}(h:jk i (.ptr c :: r) jo=gi):∃ as',jo=.obj (900+i) 0 :: as'/\jk (i+1) r as'=true:=by
 cases jo with
 | nil=>simp [jk] at h
 | cons a jo =>
  cases a with
  | obj s off =>
   cases off with
   | zero =>
    simp only [jk,sk] at h;have:=zWq h.1;subst this;exact ⟨jo,rfl,h.2⟩
   | succ off=>simp [jk] at h
  | _=>simp [jk] at h
theorem Ek{F:Nat->Prop}{O R:Nat->Prop}:∀ {l:List V} {i:Nat} {us:List Value} {jo:Os} {bs:IO},jk i l jo=true->IJ w F l us bs->jo.length=us.length->(∀ (j:Nat) (x:A),jo[j]?=ac x->∃ u,us[j]?=ac u/\VR w g O R x u) ->
  (∀ s b,(s,b)∈oE i l us->O s/\g.ob s=b)/\∀ (j:Nat) (c:List C),l[j]?=ac (.ptr c)->∃ b,us[j]?=ac (.pointer (ac ⟨b,0,cl⟩))/\(900+(i+j),b)∈oE i l us
 | [],i,us,jo,bs,hl,hV,hlen,hx=>by
  cases hV
  exact ⟨λs b h=>by simp [oE] at h,λj c h=>by simp at h⟩
 | x :: l,i,us,jo,bs,hl,hV,hlen,hx=>by
  cases hV with
  | cons x v b l vs bs' h1 h2 =>
   obtain ⟨a,jo,rfl⟩:∃ a as',jo=a :: as':=by
    cases jo with
    | nil=>simp at hlen
    | cons a jo=>exact ⟨a,jo,rfl⟩
   obtain ⟨u,hu,hr⟩:=hx 0 a rfl;simp at hu;subst hu;have hx':∀ (j:Nat) (x:A),jo[j]?=ac x->∃ u,vs[j]?=ac u/\VR w g O R x u:=λj x hj=>by simpa using hx (j+1) x wz9
   have hoth:(∀ c,x≠.ptr c)->oE i (x :: l) (v :: vs)=oE (i+1) l vs->jk (i+1) l jo=gi ->
     (∀ s b,(s,b)∈oE i (x :: l) (v :: vs)->O s/\g.ob s=b)/\∀ (j:Nat) (c:List C),(x :: l)[j]?=ac (.ptr c)->∃ b,(v :: vs)[j]?=ac (.pointer (ac ⟨b,0,cl⟩))/\(900+(i+j),b)∈oE i (x :: l) (v :: vs):=λhnp he hla=>by
    obtain ⟨h3,h4⟩:=Ek hla h2 (by simpa using hlen) hx';rw [he];refine ⟨h3,λj c hj=>?_⟩
    cases j with
    | zero=>simp at hj; exact absurd hj (hnp c)
    | succ j =>
     obtain ⟨b,h5,h6⟩:=h4 j c wz9;exact ⟨b,by simpa using h5,by rw [show i+(j+1)=i+1+j by omega]; exact h6⟩
   cases x with
   | ptr c =>
    obtain ⟨as',he,hla⟩:=Za hl;injection he with e1 e2
    subst e1 e2
    cases h1 with
    | ptr cells bb arr e vals bs1 q1 q2 q3 q4 =>
      obtain ⟨h3,h4⟩:=Ek hla h2 (by simpa using hlen) hx'
      cases hr with
      | obj _ _ hO =>
       simp only [oE];refine ⟨λs b hm=>?_,λj c hj=>?_⟩
       ·rcases Ir.1 hm with hm | hm
        ·cases hm; exact ⟨hO,rfl⟩
        ·exact h3 s b hm
       ·cases j with
        | zero=>exact ⟨_,rfl,zWX ..⟩
        | succ j =>
         obtain ⟨b,h5,h6⟩:=h4 j c wz9;exact ⟨b,by simpa using h5,zQv _ (by rw [show i+(j+1)=i+1+j by omega]; exact h6)⟩
   | _=>exact hoth (λc h=>by cases h) (by cases v <;> rfl) (by unfold jk at hl; exact hl)
end
inductive Gu {α β:Type} (R:α->β->Prop):List α->List β->Prop
 | nil:Gu R [] []
 | cons {a:α} {b:β} {l:List α} {l':List β} (h:R a b) (hs:Gu R l l'):Gu R (a :: l) (b :: l')
inductive Zb:C->C->Prop
 | refl (c:C):Zb c c
 | nilT (sz:Nat):Zb .nil (.t (.sl sz []))
 | nilO (e sz:Nat):Zb .nil (.ow e sz [])
 | sz (s s':Nat):Zb (.t (.sl s [])) (.t (.sl s' []))
mutual
inductive VLe:V->V->Prop
 | refl (v:V):VLe v v
 | one {c c':C} (h:Zb c c'):VLe (.one c) (.one c')
 | agg {l l':List C} (h:Gu Zb l l'):VLe (.agg l) (.agg l')
 | tup {l l':List V} (h:Jk l l'):VLe (.tup l) (.tup l')
 | cut (l r:Or):VLe (.fptr (l++r)) (.fptr l)
inductive Jk:List V->List V->Prop
 | nil:Jk [] []
 | cons {v v':V} {l l':List V} (h:VLe v v') (hs:Jk l l'):Jk (v :: l) (v' :: l')
end
theorem Zb.cv{w:World}{F:Nat->Prop}{c c':C}{v:Value}{bs:IO}(h:Zb c c')(hv:CV w F c v bs):CV w F c' v bs:=by
 cases h with
 | refl=>exact hv
 | nilT sz=>cases hv; exact .t _ _ (.sl0 _ _ _ (by first | assumption | exact λ_=>rfl | (intro h; cases h)))
 | nilO e sz =>
  cases hv
  exact .ow e sz [] (.slice cl 0 0) [] ⟨by simp,.inl ⟨rfl,rfl⟩⟩ ⟨by simp,λi row h=>by simp at h,λi row j x h=>by simp at h⟩
 | sz s s' =>
  cases hv with
  | t _ _ h =>
   cases h with
   | sl0 _ _ _ ha=>exact .t _ _ (.sl0 _ _ _ (by first | assumption | exact λ_=>rfl | (intro h; cases h)))
   | sl=>exact .t _ _ (.sl0 _ _ _ (by first | assumption | exact λ_=>rfl | (intro h; cases h)))
theorem qcv{w:World}{F:Nat->Prop}:∀ {l l':List C} {vs:List Value} {bs:IO},Gu Zb l l'->SS w F l vs bs->SS w F l' vs bs
 | _,_,_,_,.nil,.nil=>.nil
 | _,_,_,_,.cons h hs,.cons _ _ _ _ _ _ hc hcs=>.cons _ _ _ _ _ _ (h.cv hc) (qcv hs hcs)
mutual
theorem VLe.vv{w:World}{F:Nat->Prop}:∀ {x x':V} {v:Value} {bs:IO},VLe x x'->VV w F x v bs->VV w F x' v bs
 | _,_,_,_,.refl _,hv=>hv
 | _,_,_,_,.one h,.one _ _ _ hc=>.one _ _ _ (h.cv hc)
 | _,_,_,_,.agg h,.agg _ vs _ hc=>.agg _ vs _ (qcv h hc)
 | _,_,_,_,.tup h,.tup _ vs _ hc=>.tup _ vs _ (Qx h hc)
 | _,_,_,_,.cut l r,.fptr _ b off u hF hx hr=>.fptr l b off u hF
   (λj x hj=>hx j x (by rw [zQW (ln.1 hj).1]; exact hj)) (λj x hj=>hr j x (by rw [zQW (ln.1 hj).1]; exact hj))
theorem Qx{w:World}{F:Nat->Prop}:∀ {l l':List V} {vs:List Value} {bs:IO},Jk l l'->IJ w F l vs bs->IJ w F l' vs bs
 | _,_,_,_,.nil,.nil=>.nil
 | _,_,_,_,.cons h hs,.cons _ _ _ _ _ _ hc hcs=>.cons _ _ _ _ _ _ (h.vv hc) (Qx hs hcs)
end
theorem VLe.ptr{x:V}{c:List C}(h:VLe x (.ptr c)):x=.ptr c:=by cases h; rfl
theorem VLe.nptr{x x':V}(h:VLe x x')(hx:∀ c,x'≠.ptr c):∀ c,x≠.ptr c:=by
 cases h <;> first | exact hx | (intro c hc; cases hc)
theorem qdP{w:World}{F:Nat->Prop}{l':List V}{us:List Value}{os:List (List C)}{bo:IO}(ho:ud w F l' us os bo):∀ {l:List V},Jk l l'->ud w F l us os bo:=by
 induction ho with
 | nil=>intro l h; cases h; exact .nil
 | ptr c c' v bs l vs os bo hv ho ih =>
  intro l h
  cases h with
  | cons h hs =>
   have:=h.ptr;subst this;exact .ptr c c' v bs _ vs os bo hv (ih hs)
 | skip x v l vs os bo hx ho ih =>
  intro l h
  cases h with
  | cons h hs=>exact .skip _ v _ vs os bo (h.nptr hx) (ih hs)
theorem Oq{w:World}{F:Nat->Prop}{l:List V}{us:List Value}{os:List (List C)}{bo:IO}(ho:ud w F l us os bo):∀ {os':List (List C)},Gu (Gu Zb) os os'->ud w F l us os' bo:=by
 induction ho with
 | nil=>intro os' h; cases h; exact .nil
 | ptr c c' v bs l vs os bo hv ho ih =>
  intro os' h
  cases h with
  | cons h hs =>
   refine .ptr c _ v bs l vs _ bo ?_ (ih hs)
   cases hv with
   | ptr _ b arr e vals bs' h1 h2 h3 h4=>exact .ptr _ b arr e vals bs' h1 h2 h3 (qcv h h4)
 | skip x v l vs os bo hx ho ih=>intro os' h; exact .skip x v l vs _ bo hx (ih h)
def dP:St:=⟨λ_=>.undef,λ_=>cl,λ_=>cl⟩
def eE(jo:Os)(st:St):St:=⟨λi=>match jo[i]? with | some a=>a | none=>.undef,st.ob,st.rw⟩
def qeG{α:Type}(m:Bool):A->(V->MA α)->MA α
 | .obj s 0,k=>JA s λcs=>k (.ptr cs)
 | .tup l,k=>jY m (λ_=>go) l λvs=>k (.tup vs)
 | a,k=>un m a k
theorem JG{E:En}{w:World}{α:Type}{st':St}{m:Bool}{x:A}{st:St}{g:Gh}{k:V->MA α}{y:α}{v:Value}(hM:io E g st w)(hv:VR w g st.O st.R x v)(h:(qeG m x k).run st=ac (y,st')) :
  ∃ c st1 g1 bs,io E g1 st1 w/\vO w w g g1 st.O st.R st1.O st1.R/\Xd g st g1 st1/\(k c).run st1=ac (y,st')/\VV w g1.F c v bs/\Tk g st g1 st1 bs:=by
 unfold qeG at h
 split at h
 ·rename_i s k'
  cases hv with
  | obj _ _ hs =>
   obtain ⟨cs,st1,g1,bs,h1,h2,h3,h4,h5,h6,_⟩:=H3 hM h;exact ⟨_,st1,g1,bs,h1,h2,h3,h4,h5,h6⟩
 ·rename_i l
  cases hv with
  | tup l vs hl hx =>
   obtain ⟨cs,st1,g1,bs,hM1,hE1,hL1,h1,hc,ht,_⟩:=BN l hM hl.symm (λj x hj=>⟨_,sX (by rw [<- hl]; exact (ln.1 hj).1),hx j x _ hj (sX (by rw [<- hl]; exact (ln.1 hj).1))⟩) h;exact ⟨_,st1,g1,bs,hM1,hE1,hL1,h1,.tup cs vs bs hc,ht⟩
 ·obtain ⟨c,st1,g1,bs,h1,h2,h3,h4,h5,h6,_⟩:=Y3 _ hM hv h;exact ⟨c,st1,g1,bs,h1,h2,h3.lnd,h4,h5,h6⟩
def DL(P:Program)(m:Bool)(fn:Func)(args:List V)(res:V)(outs:List (List C))(e:Exit)(st:St):Prop :=
 (e=.ret\/e=.normal)/\∃ l st1 res0 outs0,DK P st fn.results.toList=ac l/\(FM 0 args λos=>qeG m (qct l) λv=>MA.ret (v,os)).run st=ac ((res0,outs0),st1)/\VLe res0 res/\Gu (Gu Zb) outs0 outs
def sO(n:Nat)(fn:Func):Bool:=fn.results.toList.all λ| .tmp t=>zKX t n | _=>gi
def Wz(P:Program)(n:Nat)(ls:IO)(c:Code)(Q:Exit->St->Prop)(st:St):Prop :=
 ∀ (E:En) (g:Gh) (a:Act) (w:World),ELp P E ls->E.sh=false->E.pin=none->lj E g n st a w->c.wp P (λe a' w'=>∃ g' st',lj E g' n st' a' w'/\Q e st') a w
theorem SU{P:Program}{fn:Func}{c:Code}{f:FuncId}{args:List V}{jo:Os}{st0:St}{m:Bool}{res:V}{outs:List (List C)}
  (hf:P.funcs[f]?=ac fn) (hb:fn.body=ac c) (hnm:(fn.name == "runtime.NumGoroutine")=go) (hle:jo.length<=fn.ntmps) (ht:sO fn.ntmps fn=gi)
  (ha:(rn 0 args MA.ret).run dP=ac (jo,st0)) (hl:jk 0 args jo=gi)
  (h:Wz P fn.ntmps (gr 0 args) c (DL P m fn args res outs) (eE jo st0)):aB P f args res outs:=by
 refine ⟨⟨fn,hf,by simp [hb],hnm⟩,λw F vs bs hF hVV hnd hnf htb=>?_⟩
 let E:En:={ w0:=w,X:=λb=>b∈bs,F0:=F,lent:=oE 0 args vs }
 let g0:Gh:={ F:=F,ob:=λ_=>0,rw:=λ_=>.nilFunc,dw:=w }
 have hM0:io E g0 dP w:=⟨λs cells h=>Fq,λs s' h=>Fq,λr x h=>Fq,λr r' b h=>wz8,λr s h=>wz8,
  λb hb=>⟨hF b hb,λ_=>.inl hb,.inl hb⟩,rfl,rfl,rfl,zWK _,λ_ _ _=>.inl rfl,λ_ h=>h.elim,⟨rfl,rfl,rfl⟩,λ_ h=>h.elim⟩
 obtain ⟨as',st1,g1,hG,h1,hlen,hx⟩:=Hd args hM0 hVV hnd (λb hb=>⟨hnf b hb,λs hs=>(by cases hs),λr hr=>qhb,.inr hb⟩) ha;obtain ⟨rfl,rfl⟩:=gK h1;have hM1:io E g1 (eE jo st0) w:=⟨hG.mem.ob,hG.mem.obne,hG.mem.row,hG.mem.rowne,hG.mem.rowob,hG.mem.F,hG.mem.os,hG.mem.tape,hG.mem.output,hG.mem.sizes,hG.mem.frame,hG.mem.shp,hG.mem.dep0⟩;obtain ⟨hl1,hl2⟩:=Ek hl hVV hlen hx;have hS:lj E g1 fn.ntmps (eE jo st0) { tmps:=vs.toArray++zZy (fn.ntmps - vs.toArray.size) undef,defers:=[] } w:=by
  refine ⟨hM1,by simp; omega,rfl,λi hi=>?_,λi hi=>?_,hl1,λ_ h=>Fq⟩
  ·show ∃ v,_/\VR w g1 st0.O st0.R (match jo[i]? with | some a=>a | none=>.undef) v
   cases hai:jo[i]? with
   | some a =>
    obtain ⟨u,hu,hr⟩:=hx i a hai;have hlt:i < vs.length:=(ln.1 hu).1;exact ⟨u,by rw [zZQ YZ]; simpa using hu,hr⟩
   | none =>
    have hge:jo.length<=i:=KL.1 hai;refine ⟨undef,?_,.undef _⟩;rw [zYh qiL];rw [zZZ,if_pos qfv]
  ·show (match jo[i]? with | some a=>a | none=>.undef)=A.undef;rw [KL.2 al]
 refine calls_of_wp hf hb (wp_mono (h E g1 _ w ⟨⟨[],by rw [zWV]; exact (sN _ _ _).symm,KQ _ _ _,λ_ h=>Fq,λh=>Fq⟩,⟨htb.mono λb h=>h.elim id λh=>qcf⟩⟩ rfl rfl hS) λe a' w' ⟨g',st',hS',hR⟩=>?_);obtain ⟨he,l,st2,res0,outs0,hres,hrun,hvle,hole⟩:=hR;have hfin:a'.defers=[]/\∃ v,(results fn a'.tmps).run P w'=.ok v w'/\(λe w'=>∃ v F' bv bo,e=Ending.returned v/\vu w w'/\(∀ b,b < w.heap.size->b∉bs->w'.heap[b]?=w.heap[b]?)/\(∀ b,F b->F' b) /\
   (∀ b,F' b->b < w'.heap.size/\(b < w.heap.size->F b\/b∈bs)/\(F b\/Wr w' b))/\VV w' F' res v bv/\ud w' F' args vs outs bo/\(bv++bo).Nodup/\∀ b∈bv++bo,¬ F' b/\(w.heap.size<=b\/b∈bs)) (.returned v) w':=by
  refine ⟨hS'.defers,?_⟩;obtain ⟨v,hrv,hvv⟩:=Ib hS' hres ht;refine ⟨v,hrv,?_⟩;have hM':=hS'.mem;obtain ⟨os,st3,g3,bo,hM3,hE3,hL3,h3,hO,hT3⟩:=Ej (w:=w') args hM' (us:=vs) (hVV.len.symm) (λj c hj=>by
   obtain ⟨b,h5,h6⟩:=hl2 j c hj;rw [(hS'.lent _ _ h6).2];exact h5) hrun
  obtain ⟨c',st4,g4,bv,hM4,hE4,hL4,h4,hv4,hT4⟩:=JG hM3 (hvv.mono hE3) h3;obtain ⟨h5,rfl⟩:=gK h4;injection h5 with h5 h6
  subst h5 h6;have hT:=hT3.app hM' hL3 hT4 hL4;have hof:∀ b∈bo++bv,w.heap.size<=b\/b∈bs:=λb hb=>by
   rcases hT.of b hb with ⟨r,⟨e,sz,rows,h7⟩,_,h8⟩ | ⟨s,⟨c,cs,h7⟩,_,h8⟩
   ·obtain ⟨_,_,_,_,h9⟩:=hM'.row r _ h7;exact (h9 b h8).2
   ·obtain ⟨_,_,_,_,_,_,h9⟩:=hM'.ob s _ h7;rw [h8] at h9;exact h9
  have hnF:∀ b∈bo++bv,¬ (g4.F b\/F b):=λb hb h=>by
   rcases h with h | h
   ·exact hT.nf b hb h
   ·rcases hof b hb with h7 | h7
    ·have:=hF b h; omega
    ·exact hnf b h7 h
  have hmem:∀ b,b∈bv++bo->b∈bo++bv:=λb hb=>by
   rcases sa.1 hb with h | h <;> simp [h]
  refine ⟨v,λb=>g4.F b\/F b,bv,bo,rfl,⟨hM4.os,hM4.tape,hM4.output,hM4.sizes⟩,λb hb hbs=>hM4.frm rfl b hb hbs,λb h=>.inr h,λb h=>?_,hvle.vv (hv4.mono (λ_ _=>rfl) (λ_ h=>.inl h) (λ_ _=>rfl)),Oq (hO.mono (λb h=>.inl (hE4.F b h))) hole,?_,λb hb=>⟨hnF b (hmem b hb),hof b (hmem b hb)⟩⟩
  ·rcases h with h | h
   ·exact hM4.F b h
   ·exact ⟨zWW (hF b h) hM4.sizes,λ_=>.inl h,.inl h⟩
  ·have:=hT.nodup;rw [zYW] at this ⊢;exact ⟨this.2.1,this.1,λx hx y hy he=>this.2.2 y hy x hx he.symm⟩
 rcases he with rfl | rfl
 ·exact hfin
 ·exact hfin
theorem U9{P:Program}{fn:Func}{c:Code}{f:FuncId}{args:List V}{jo:Os}{st0:St}{m:Bool}{res:V}{outs:List (List C)}
  (hf:P.funcs[f]?=ac fn) (hb:fn.body=ac c) (hnm:(fn.name == "runtime.NumGoroutine")=go) (hle:jo.length<=fn.ntmps) (ht:sO fn.ntmps fn=gi)
  (ha:(rn 0 args MA.ret).run dP=ac (jo,st0)) (hl:jk 0 args jo=gi)
  (h:Wp P fn.ntmps (gr 0 args) c (DL P m fn args res outs) (eE jo st0)):aB P f args res outs:=SU hf hb hnm hle ht ha hl λE g a w hE _ _ hS=>h E g a w hE hS
theorem Qy{E:En}{g:Gh}{st0:St}{w:World}{n:Nat}{jo:Os}{vs:List Value}(hM:io E g (eE jo st0) w)(hlen:vs.length=jo.length)(hle:jo.length<=n)
  (hx:∀ (j:Nat) (x:A),jo[j]?=ac x->∃ u,vs[j]?=ac u/\VR w g st0.O st0.R x u) (hl:E.lent=[]) (hp:∀ v,E.pin=ac v->(eE jo st0).R PR/\g.rw PR=v) :
  lj E g n (eE jo st0) { tmps:=vs.toArray++zZy (n - vs.toArray.size) undef,defers:=[] } w:=by
 refine ⟨hM,by simp; omega,rfl,λi hi=>?_,λi hi=>?_,λs b h=>(by rw [hl] at h; cases h),hp⟩
 ·show ∃ v,_/\VR w g st0.O st0.R (match jo[i]? with | some a=>a | none=>.undef) v
  cases hai:jo[i]? with
  | some a =>
   obtain ⟨u,hu,hr⟩:=hx i a hai;have hlt:i < vs.length:=(ln.1 hu).1;exact ⟨u,by rw [zZQ YZ]; simpa using hu,hr⟩
  | none =>
   have hge:jo.length<=i:=KL.1 hai;refine ⟨undef,?_,.undef _⟩;rw [zYh (by simpa [hlen] using hge)];rw [zZZ,if_pos qfv]
 ·show (match jo[i]? with | some a=>a | none=>.undef)=A.undef;rw [KL.2 al]
def C.toX:C->A
 | .t x=>qhf go x
 | _=>.undef
def V.toX:V->A
 | .one c=>c.toX
 | .agg l=>.agg (l.map C.toX)
 | .fptr cells=>.exa go cells
 | _=>.undef
theorem CV.toX{w:World}{D:Nat->Prop}{g:Gh}{c:C}{v:Value}{bs:IO}(h:CV w D c v bs)(h1:g.D=D)(h2:g.dw=w)(h3:g.sh=go):VR w g ST ST c.toX v:=by
 cases h with
 | t x v h =>
  cases x with
  | sl sz rows=>exact .ext go _ v h3 (by rw [h1,h2]; exact h.sd)
  | int k n=>exact .t _ v (h.sc rfl)
  | bool b=>exact .t _ v (h.sc rfl)
  | str s=>exact .t _ v (h.sc rfl)
  | nilf=>exact .t _ v (h.sc rfl)
  | hdr a n c=>exact .t _ v (h.sc rfl)
 | nil=>exact .undef _
 | ow=>exact .undef _
theorem SS.toX{w:World}{D:Nat->Prop}{g:Gh}{l:List C}{vs:List Value}{bs:IO}(h:SS w D l vs bs)(h1:g.D=D)(h2:g.dw=w)(h3:g.sh=go) :
  l.length=vs.length/\∀ (i:Nat) (x:A) (v:Value),(l.map C.toX)[i]?=ac x->vs[i]?=ac v->VR w g ST ST x v:=by
 induction h with
 | nil=>exact ⟨rfl,λi x v h=>by simp at h⟩
 | cons c v b cs vs bs h hs ih =>
  refine ⟨by simp [ih.1],λi x u hx hu=>?_⟩
  cases i with
  | zero=>simp at hx hu; subst hx hu; exact h.toX h1 h2 h3
  | succ i=>exact ih.2 i x u qha (by simpa using hu)
theorem VV.toX{w:World}{D:Nat->Prop}{g:Gh}{x:V}{v:Value}{bs:IO}(h:VV w D x v bs)(h1:g.D=D)(h2:g.dw=w)(h3:g.sh=go):VR w g ST ST x.toX v:=by
 cases h with
 | one c v bs h=>exact h.toX h1 h2 h3
 | agg l vs bs h =>
  obtain ⟨h4,h5⟩:=h.toX h1 h2 h3;exact .agg _ vs (by simp [h4]) h5
 | fptr cells b off u hF hx hr=>exact .exa go cells b off u h3 (by rw [h1]; exact hF) (by rw [h2]; exact hx) (λj x hj=>by rw [h1,h2]; exact (hr j x hj).sd)
 | _=>exact .undef _
theorem IJ.toX{w:World}{D:Nat->Prop}{g:Gh}(h1:g.D=D)(h2:g.dw=w)(h3:g.sh=go):∀ {l:List V} {vs:List Value} {bs:IO},IJ w D l vs bs ->
  vs.length=l.length/\∀ (j:Nat) (x:A),(l.map V.toX)[j]?=ac x->∃ u,vs[j]?=ac u/\VR w g ST ST x u
 | _,_,_,.nil=>⟨rfl,λj x h=>by simp at h⟩
 | _,_,_,.cons x v b l vs bs h hs=>by
  obtain ⟨h4,h5⟩:=IJ.toX h1 h2 h3 hs;refine ⟨by simp [h4],λj y hy=>?_⟩
  cases j with
  | zero=>simp at hy; subst hy; exact ⟨v,rfl,h.toX h1 h2 h3⟩
  | succ j=>exact h5 j y qcd |>.imp λu hu=>⟨by simpa using hu.1,hu.2⟩
theorem qjX{E:En}{g:Gh}{jo:Os}{w:World}(h1:∀ b,¬ g.F b)(hS0:∀ b,¬ g.S b:=by exact λ_ h=>h)(hw:E.w0=w)(hd:g.D=E.D/\g.dw=E.w0/\g.sh=E.sh)(hD:∀ b,E.D b->b < E.w0.heap.size/\¬ E.X b/\(E.sh=true->¬ E.F0 b/\Wr E.w0 b)):io E g (eE jo dP) w:=by
 subst hw;exact ⟨λs cells h=>Fq,λs s' h=>Fq,λr x h=>Fq,λr r' b h=>wz8,λr s h=>wz8,
  λb hb=>(h1 b hb).elim,rfl,rfl,rfl,zWK _,λ_ _ _=>.inl rfl,λb h=>(hS0 b h).elim,hd,hD⟩
theorem qaO{P:Program}{fn:Func}{c:Code}{f:FuncId}{args:List V}{m:Bool}{res:V}
  (hf:P.funcs[f]?=ac fn) (hb:fn.body=ac c) (hnm:(fn.name == "runtime.NumGoroutine")=go) (hle:args.length<=fn.ntmps) (ht:sO fn.ntmps fn=gi)
  (h:Wp P fn.ntmps [1] c (DL P m fn [] res []) (eE (args.map V.toX) dP)):mx P f args res:=by
 refine ⟨⟨fn,hf,by simp [hb],hnm⟩,λw D vs hD hVV htb=>?_⟩
 let E:En:={ w0:=w,X:=ST,F0:=ST,lent:=[],D:=D }
 let g0:Gh:={ F:=ST,ob:=λ_=>0,rw:=λ_=>.nilFunc,D:=D,dw:=w }
 have hM0:io E g0 (eE (args.map V.toX) dP) w:=qjX (λ_ h=>h) (hw:=rfl) (hd:=⟨rfl,rfl,rfl⟩) (hD:=λb hb=>⟨hD b hb,λh=>h,λh=>Fq⟩);obtain ⟨hlen,hx⟩:=IJ.toX (g:=g0) rfl rfl rfl hVV;have hS:=Qy (n:=fn.ntmps) hM0 (by simpa using hlen) qce (λj x hj=>by
  obtain ⟨u,h1,h2⟩:=hx j x hj;exact ⟨u,h1,h2.mono ⟨λ_ _=>rfl,λ_ h=>h,λ_ h=>h.elim,λ_ h=>h.elim,⟨rfl,rfl,rfl⟩,rfl,rfl⟩⟩) rfl (λv h=>Fq)
 refine calls_of_wp hf hb (wp_mono (h E g0 _ w ⟨⟨[1],rfl,λ_ h=>Fq,λ_ h=>Fq,λ_ b=>⟨λh=>h,λh=>h⟩⟩,⟨htb.mono λb h=>h.elim id λh=>qcf⟩⟩ hS) λe a' w' ⟨g',st',hS',hR⟩=>?_);obtain ⟨he,l,st2,res0,outs0,hres,hrun,hvle,hole⟩:=hR;have hfin:a'.defers=[]/\∃ v,(results fn a'.tmps).run P w'=.ok v w'/\(λe w'=>∃ v F' bv,e=Ending.returned v/\vu w w'/\(∀ b,b < w.heap.size->w'.heap[b]?=w.heap[b]?) /\
   (∀ b,F' b->b < w'.heap.size/\w.heap.size<=b/\Wr w' b)/\VV w' F' res v bv/\bv.Nodup/\∀ b∈bv,¬ F' b/\w.heap.size<=b) (.returned v) w':=by
  refine ⟨hS'.defers,?_⟩;obtain ⟨v,hrv,hvv⟩:=Ib hS' hres ht;refine ⟨v,hrv,?_⟩;have hM':=hS'.mem;simp only [FM] at hrun;obtain ⟨c',st4,g4,bv,hM4,hE4,hL4,h4,hv4,hT4⟩:=JG hM' hvv hrun;obtain ⟨h5,rfl⟩:=gK h4;injection h5 with h5 h6
  subst h5 h6;have hof:∀ b∈bv,w.heap.size<=b:=λb hb=>by
   rcases hT4.of b hb with ⟨r,⟨e,sz,rows,h7⟩,_,h8⟩ | ⟨s,⟨c,cs,h7⟩,_,h8⟩
   ·obtain ⟨_,_,_,_,h9⟩:=hM'.row r _ h7;exact (h9 b h8).2.resolve_right (λh=>h)
   ·obtain ⟨_,_,_,_,_,_,h9⟩:=hM'.ob s _ h7;rw [h8] at h9;exact h9.resolve_right (λh=>h)
  refine ⟨v,g4.F,bv,rfl,⟨hM4.os,hM4.tape,hM4.output,hM4.sizes⟩,λb hb=>hM4.frm rfl b hb (λh=>h),λb h=>?_,hvle.vv hv4,hT4.nodup,λb hb=>⟨hT4.nf b hb,hof b hb⟩⟩;obtain ⟨h7,h8,h9⟩:=hM4.F b h;refine ⟨h7,Nat.le_of_not_lt λhlt=>?_,h9.resolve_left (λh=>h)⟩;rcases h8 hlt with h | h <;> exact h
 rcases he with rfl | rfl
 ·exact hfin
 ·exact hfin
def Ic(e sz:Nat)(rows:it):St:=⟨λ_=>.undef,λ_=>cl,λr=>bif zWg r PR then ac (.live e sz rows) else cl⟩
theorem qaP{e sz r:Nat}{rows:it}{x:RZ}(h:(Ic e sz rows).rw r=ac x):r=PR/\x=.live e sz rows:=by
 unfold Ic at h;simp only at h
 cases hb:zWg r PR with
 | true=>rw [hb] at h; cases h; exact ⟨zWq hb,rfl⟩
 | false=>rw [hb] at h; cases h
theorem qaQ{P:Program}{fn:Func}{c:Code}{f:FuncId}{args xs:List V}{jo:Os}{st0:St}{m:Bool}{res:V}{outs:List (List C)}
  (hf:P.funcs[f]?=ac fn) (hb:fn.body=ac c) (hnm:(fn.name == "runtime.NumGoroutine")=go) (hle:(jo++xs.map V.toX).length<=fn.ntmps) (ht:sO fn.ntmps fn=gi)
  (ha:(rn 0 args MA.ret).run dP=ac (jo,st0)) (hl:jk 0 args jo=gi)
  (h:Wp P fn.ntmps (gr 0 args) c (DL P m fn args res outs) (eE (jo++xs.map V.toX) st0)):Y4 P f args xs res outs:=by
 refine ⟨⟨fn,hf,by simp [hb],hnm⟩,λw F D vs us bs hF hD hVV hUU hnd hnf htb=>?_⟩
 let E:En:={ w0:=w,X:=λb=>b∈bs,F0:=F,lent:=oE 0 args vs,D:=D }
 let g0:Gh:={ F:=F,ob:=λ_=>0,rw:=λ_=>.nilFunc,D:=D,dw:=w }
 have hM0:io E g0 dP w:=⟨λs cells h=>Fq,λs s' h=>Fq,λr x h=>Fq,λr r' b h=>wz8,λr s h=>wz8,
  λb hb=>⟨hF b hb,λ_=>.inl hb,.inl hb⟩,rfl,rfl,rfl,zWK _,λ_ _ _=>.inl rfl,λ_ h=>h.elim,⟨rfl,rfl,rfl⟩,λb hb=>⟨(hD b hb).1,(hD b hb).2,λh=>Fq⟩⟩
 obtain ⟨as',st1,g1,hG,h1,hlen,hx⟩:=Hd args hM0 hVV hnd (λb hb=>⟨hnf b hb,λs hs=>(by cases hs),λr hr=>qhb,.inr hb⟩) ha;obtain ⟨rfl,rfl⟩:=gK h1;have hM1:io E g1 (eE (jo++xs.map V.toX) st0) w:=⟨hG.mem.ob,hG.mem.obne,hG.mem.row,hG.mem.rowne,hG.mem.rowob,hG.mem.F,hG.mem.os,hG.mem.tape,hG.mem.output,hG.mem.sizes,hG.mem.frame,hG.mem.shp,hG.mem.dep0⟩;obtain ⟨hl1,hl2⟩:=Ek hl hVV hlen hx;obtain ⟨hd1,hd2,hd3⟩:=hG.mem.dep0.1;obtain ⟨hul,hux⟩:=IJ.toX (g:=g1) (by rw [hd1]) (by rw [hd2]) (by rw [hd3]) hUU;have hx2:∀ (j:Nat) (x:A),(jo++xs.map V.toX)[j]?=ac x->∃ u,(vs++us)[j]?=ac u/\VR w g1 st0.O st0.R x u:=λj x hj=>by
  rw [zWx] at hj
  split at hj
  ·rename_i hlt;obtain ⟨u,h5,h6⟩:=hx j x hj;exact ⟨u,by rw [zQW al]; exact h5,h6⟩
  ·rename_i hge;obtain ⟨u,h5,h6⟩:=hux _ x hj;exact ⟨u,by rw [zQX al,<- hlen]; exact h5,h6.mono ⟨λ_ _=>rfl,λ_ h=>h,λ_ h=>h.elim,λ_ h=>h.elim,⟨rfl,rfl,rfl⟩,rfl,rfl⟩⟩
 have hlen2:(jo++xs.map V.toX).length=(vs++us).length:=by simp [hlen,hul]
 have hle2:jo.length+xs.length<=fn.ntmps:=by simpa using hle
 have hvl:(vs++us).length=vs.length+us.length:=zQH;have hS:lj E g1 fn.ntmps (eE (jo++xs.map V.toX) st0) { tmps:=(vs++us).toArray++zZy (fn.ntmps - (vs++us).toArray.size) undef,defers:=[] } w:=by
  refine ⟨hM1,by simp; omega,rfl,λi hi=>?_,λi hi=>?_,hl1,λ_ h=>Fq⟩
  ·show ∃ v,_/\VR w g1 st0.O st0.R (match (jo++xs.map V.toX)[i]? with | some a=>a | none=>.undef) v
   cases hai:(jo++xs.map V.toX)[i]? with
   | some a =>
    obtain ⟨u,hu,hr⟩:=hx2 i a hai;have hlt:i < (vs++us).length:=(ln.1 hu).1;exact ⟨u,by rw [zZQ YZ]; simpa using hu,hr⟩
   | none =>
    have hge:(jo++xs.map V.toX).length<=i:=KL.1 hai;refine ⟨undef,?_,.undef _⟩;rw [zYh (by simpa [<- hlen2] using hge)];rw [zZZ,if_pos qfv]
  ·show (match (jo++xs.map V.toX)[i]? with | some a=>a | none=>.undef)=A.undef;rw [KL.2 al]
 refine calls_of_wp hf hb (wp_mono (h E g1 _ w ⟨⟨[],by rw [zWV]; exact (sN _ _ _).symm,KQ _ _ _,λ_ h=>Fq,λh=>Fq⟩,⟨htb.mono λb h=>h.elim id λh=>qcf⟩⟩ hS) λe a' w' ⟨g',st',hS',hR⟩=>?_);obtain ⟨he,l,st2,res0,outs0,hres,hrun,hvle,hole⟩:=hR;have hfin:a'.defers=[]/\∃ v,(results fn a'.tmps).run P w'=.ok v w'/\(λe w'=>∃ v F' bv bo,e=Ending.returned v/\vu w w'/\(∀ b,b < w.heap.size->b∉bs->w'.heap[b]?=w.heap[b]?)/\(∀ b,F b->F' b) /\
   (∀ b,F' b->b < w'.heap.size/\(b < w.heap.size->F b\/b∈bs)/\(F b\/Wr w' b))/\VV w' F' res v bv/\ud w' F' args vs outs bo/\(bv++bo).Nodup/\∀ b∈bv++bo,¬ F' b/\(w.heap.size<=b\/b∈bs)) (.returned v) w':=by
  refine ⟨hS'.defers,?_⟩;obtain ⟨v,hrv,hvv⟩:=Ib hS' hres ht;refine ⟨v,hrv,?_⟩;have hM':=hS'.mem;obtain ⟨os,st3,g3,bo,hM3,hE3,hL3,h3,hO,hT3⟩:=Ej (w:=w') args hM' (us:=vs) (hVV.len.symm) (λj c hj=>by
   obtain ⟨b,h5,h6⟩:=hl2 j c hj;rw [(hS'.lent _ _ h6).2];exact h5) hrun
  obtain ⟨c',st4,g4,bv,hM4,hE4,hL4,h4,hv4,hT4⟩:=JG hM3 (hvv.mono hE3) h3;obtain ⟨h5,rfl⟩:=gK h4;injection h5 with h5 h6
  subst h5 h6;have hT:=hT3.app hM' hL3 hT4 hL4;have hof:∀ b∈bo++bv,w.heap.size<=b\/b∈bs:=λb hb=>by
   rcases hT.of b hb with ⟨r,⟨e,sz,rows,h7⟩,_,h8⟩ | ⟨s,⟨c,cs,h7⟩,_,h8⟩
   ·obtain ⟨_,_,_,_,h9⟩:=hM'.row r _ h7;exact (h9 b h8).2
   ·obtain ⟨_,_,_,_,_,_,h9⟩:=hM'.ob s _ h7;rw [h8] at h9;exact h9
  have hnF:∀ b∈bo++bv,¬ (g4.F b\/F b):=λb hb h=>by
   rcases h with h | h
   ·exact hT.nf b hb h
   ·rcases hof b hb with h7 | h7
    ·have:=hF b h; omega
    ·exact hnf b h7 h
  have hmem:∀ b,b∈bv++bo->b∈bo++bv:=λb hb=>by
   rcases sa.1 hb with h | h <;> simp [h]
  refine ⟨v,λb=>g4.F b\/F b,bv,bo,rfl,⟨hM4.os,hM4.tape,hM4.output,hM4.sizes⟩,λb hb hbs=>hM4.frm rfl b hb hbs,λb h=>.inr h,λb h=>?_,hvle.vv (hv4.mono (λ_ _=>rfl) (λ_ h=>.inl h) (λ_ _=>rfl)),Oq (hO.mono (λb h=>.inl (hE4.F b h))) hole,?_,λb hb=>⟨hnF b (hmem b hb),hof b (hmem b hb)⟩⟩
  ·rcases h with h | h
   ·exact hM4.F b h
   ·exact ⟨zWW (hF b h) hM4.sizes,λ_=>.inl h,.inl h⟩
  ·have:=hT.nodup;rw [zYW] at this ⊢;exact ⟨this.2.1,this.1,λx hx y hy he=>this.2.2 y hy x hx he.symm⟩
 rcases he with rfl | rfl
 ·exact hfin
 ·exact hfin
def qiV(P:Program)(fn:Func)(lo m e:Nat)(rows:it)(ex:Exit)(st:St):Prop :=
 (ex=.ret\/ex=.normal)/\(∃ l,DK P st fn.results.toList=ac l/\qct l=.win PR lo m)/\st.rw PR=ac (.live e 1 rows)
theorem Xe{P:Program}{fn:Func}{c:Code}{f:FuncId}{e lo m:Nat}{rows:it}{ts:Or}{jo:Os}{args:List V}
  (hf:P.funcs[f]?=ac fn) (hb:fn.body=ac c) (hnm:(fn.name == "runtime.NumGoroutine")=go) (hle:jo.length+1<=fn.ntmps) (ht:sO fn.ntmps fn=gi) (ha:LA jo=ac args) (hrs:∀ row∈rows,∀ x∈row,T.sc x=gi)
  (h:Wp P fn.ntmps [0] c (qiV P fn lo m e rows) (eE (.agg (ts.map A.t++[.own PR]) :: jo) (Ic e 1 rows))):R6 P f e ts rows args lo m:=by
 refine ⟨⟨fn,hf,by simp [hb],hnm⟩,λw F v us vs inner hF hown hRC hnf hus hts hVV htb=>?_⟩
 let E:En:={ w0:=w,X:=λb=>v.ownBlock=ac b,F0:=F,lent:=[],pin:=ac v }
 let g0:Gh:={ F:=F,ob:=λ_=>0,rw:=λ_=>v,dw:=w }
 have hrow:p5 w w E.X F v (.live e 1 rows):=hRC.rowAt (E:=E) (g:=g0) hown (λb hb=>⟨hnf b hb,.inr hb⟩);have hL:∀ {r},(eE (.agg (ts.map A.t++[.own PR]) :: jo) (Ic e 1 rows)).L r->r=PR:=λ⟨_,_,_,h⟩=>(qaP h).1;have hM0:io E g0 (eE (.agg (ts.map A.t++[.own PR]) :: jo) (Ic e 1 rows)) w:=⟨λs cells h=>Fq,λs s' h=>Fq,λr x h=>(by obtain ⟨_,rfl⟩:=qaP h; exact hrow),λr r' b h h' _ _=>(hL h).trans (hL h').symm,λr s h hs=>(by cases hs),
  λb hb=>⟨hF b hb,λ_=>.inl hb,.inl hb⟩,rfl,rfl,rfl,zWK _,λ_ _ _=>.inl rfl,λ_ h=>h.elim,⟨rfl,rfl,rfl⟩,λ_ h=>h.elim⟩
 have hR:(eE (.agg (ts.map A.t++[.own PR]) :: jo) (Ic e 1 rows)).R PR:=rfl;obtain ⟨hlen,hx⟩:=qfK (g:=g0) (O:=ST) (R:=ST) ha hVV;have hS:=Qy (vs:=Value.agg (us++[v]).toArray :: vs) (n:=fn.ntmps) hM0 (by simp [hlen]) qce (λj x hj=>by
  cases j with
  | zero =>
   simp at hj; subst hj;refine ⟨_,rfl,.agg _ (us++[v]) (by simp [hus]) λj x u h1 h2=>?_⟩;rw [zWx] at h1 h2;simp only [zWw] at h1
   split at h1
   ·rename_i hlt;rw [if_pos al] at h2;rw [zQV,zWk] at h1;obtain ⟨y,h3,rfl⟩:=h1;exact .t _ _ (hts j y u h3 h2)
   ·rename_i hge;rw [if_neg al] at h2;have h3:j - ts.length=0:=by have:=(ln.1 h1).1; simp at this; omega
    rw [h3] at h1;rw [hus,h3] at h2;simp at h1 h2;subst h1 h2;exact .own (g:=g0) PR hR
  | succ j =>
   have hj':jo[j]?=ac x:=by simpa using hj
   have hlt:j < vs.length:=by rw [<- hlen]; exact (ln.1 hj').1
   exact ⟨vs[j],by simp [hlt],(hx j x vs[j] hj' (sX hlt)).mono ⟨λ_ _=>rfl,λ_ h=>h,λ_ h=>h.elim,λ_ h=>h.elim,⟨rfl,rfl,rfl⟩,rfl,rfl⟩⟩) rfl (λv' h=>by cases h; exact ⟨hR,rfl⟩)
 refine calls_of_wp hf hb (wp_mono (h E g0 _ w ⟨⟨[0],rfl,λ_ h=>Fq,λ_ _=>by simp,λh=>by simp at h⟩,⟨htb.mono λb h=>h.elim id λh=>qcf⟩⟩ hS) λex a' w' ⟨g',st',hS',hR'⟩=>?_);obtain ⟨he,⟨l,hres,hl⟩,hrw⟩:=hR';have hfin:a'.defers=[]/\∃ v',(results fn a'.tmps).run P w'=.ok v' w'/\(λex w'=>∃ ad n c a' c' inner',v=.slice ad n c/\ex=Ending.returned (.slice a' m c')/\lo+m<=n/\(0 < m->∃ b,ad=ac ⟨b,0,cl⟩/\a'=ac ⟨b,lo,cl⟩)/\vu w w' /\
   (∀ b,b < w.heap.size->v.ownBlock≠ac b->w'.heap[b]?=w.heap[b]?)/\w'.ownsRow 0 e 1 v rows.length inner'/\HT w' F 1 rows inner') (.returned v') w':=by
  refine ⟨hS'.defers,?_⟩;obtain ⟨u,hrv,hvv⟩:=Ib hS' hres ht;refine ⟨u,hrv,?_⟩;have hM':=hS'.mem;rw [hl] at hvv;have hpin:=(hS'.pin v rfl).2;obtain ⟨inner',ho',hC,_⟩:=(hM'.row PR _ hrw).rcs;rw [hpin] at ho'
  cases hvv with
  | win _ _ _ n c c' ad a2 hr he2 hm hp =>
   rw [hpin] at he2;refine ⟨ad,n,c,a2,c',inner',he2,rfl,hm,hp,⟨hM'.os,hM'.tape,hM'.output,hM'.sizes⟩,λb h1 h2=>hM'.frm rfl b h1 h2,ho',hC.size,hC.len,λi row j x hi hj=>?_⟩;obtain ⟨q,hq,ho,hr⟩:=hC.rd i row j x hi hj;exact ⟨q,hq,ho,hr.sc (hrs row (zQQ hi) x (zQQ hj))⟩
 rcases he with rfl | rfl
 ·exact hfin
 ·exact hfin
def qv(P:Program)(ρ:Nat->fi)(ops:Array Oper):W2->St->Option St
 | [],st=>ac st
 | o :: l,st=>match jI ops st o with
  | some gi=>if fX ρ st o then match (tl P ρ st.eval o).run st with | some (x,st1)=>qv P ρ ops l (st1.put o.dst x) | none=>cl else cl
  | some go=>qv P ρ ops l (st.put o.dst (.tup []))
  | none=>cl
def St.or(x:Option St):St:=match x with | some s=>s | none=>dP
section
variable {P:Program} {n:Nat} {Q:Exit->St->Prop} {st st':St} {p:Nat->Bool} {ρ:Nat->fi} {ops:Array Oper} {l:W2} {K:St->Prop} {o:Oper}
theorem He:∀ {l:W2} {st st1:St},qv P ρ ops l st=ac st1->Jj P p ρ ops l st st1
 | [],st,st1,h=>by cases h; rfl
 | o :: l,st,st1,h=>by
  unfold qv at h
  split at h
  ·rename_i hg
   split at h
   ·rename_i hf
    split at h
    ·rename_i x st2 hx;exact ⟨_,.run x st2 hg hf (.plain hx),He h⟩
    ·cases h
   ·cases h
  ·rename_i hg;exact ⟨_,.skip hg,He h⟩
  ·cases h
theorem Jj.app:∀ {l l':W2} {st b c:St},Jj P p ρ ops l st b->Jj P p ρ ops l' b c->Jj P p ρ ops (l++l') st c
 | [],l',st,b,c,h,h'=>by have h:b=st:=h; subst h; exact h'
 | o :: l,l',st,b,c,⟨d,h1,h2⟩,h'=>⟨d,h1,Jj.app h2 h'⟩
theorem am(k:Nat)(h:(qv P ρ ops (l.take k) st).isSome=gi)(hr:ab P p ρ ops (l.drop k) (St.or (qv P ρ ops (l.take k) st)) K):ab P p ρ ops l st K:=by
 obtain ⟨st1,h1⟩:=sr.1 h;rw [h1] at hr;obtain ⟨st',h2,h3⟩:=hr;refine ⟨st',?_,h3⟩;have:=Jj.app (He h1) h2;rwa [zXv] at this
theorem ab.all(h:(qv P ρ ops l st).isSome=gi)(hr:K (St.or (qv P ρ ops l st))):ab P p ρ ops l st K:=by
 obtain ⟨st1,h1⟩:=sr.1 h;rw [h1] at hr;exact ⟨st1,He h1,hr⟩
theorem ab.call{m:Bool}{d f:Nat}{xf:Operand}{args:Array Operand}{ts:Array TypeId}{caps jo:Os}{vs:List V}{st1:St}{res:V}{outs:List (List C)}{x:A}
  (hg:jI ops st o=ac gi) (hf:fX ρ st o=gi) (ho:o.op=.call { callee:=.value xf,args,argTypes:=ts }) (hd:o.dst=ac d) (hxf:st.eval xf=ac (.clo f caps)) (oC:eQ (args.toList.map st.eval)=ac jo)
  (hp:(jY m p (jo++caps) MA.ret).run st=ac (vs,st1)) (hc:aB P f vs res outs) (hr:(eC d (fh (jo++caps)) outs (V.toA d (ip d 0) res MA.ret)).run st1=ac (x,st'))
  (hk:ab P p ρ ops l (st'.put o.dst x) K):ab P p ρ ops (o :: l) st K :=
 ab.step (.run x st' hg hf (.call m d f xf args ts caps jo vs st1 res outs ho hd hxf oC hp hc hr)) hk
theorem ab.callB{d f:Nat}{xf:Operand}{args:Array Operand}{ts:Array TypeId}{caps jo:Os}{vs:List V}{res:V}{x:A}
  (hg:jI ops st o=ac gi) (hf:fX ρ st o=gi) (ho:o.op=.call { callee:=.value xf,args,argTypes:=ts }) (hd:o.dst=ac d) (hxf:st.eval xf=ac (.clo f caps)) (oC:eQ (args.toList.map st.eval)=ac jo)
  (hp:(fj (jo++caps) MA.ret).run st=ac (vs,st)) (hc:aB P f vs res []) (hpl:res.plain) (hr:(V.toA d (ip d 0) res MA.ret).run st=ac (x,st'))
  (hk:ab P p ρ ops l (st'.put o.dst x) K):ab P p ρ ops (o :: l) st K :=
 ab.step (.run x st' hg hf (.callB d f xf args ts caps jo vs res ho hd hxf oC hp hc hpl hr)) hk
theorem qjv{α:Type}{t e:TypeId}{f:α->Or}{xs:List α}{y:α}{sz:Nat}{kk:IntKind}{i:Int}(hu:P.underlying t=ac (.slice e))(hs:jX P e=ac sz)(h0:0<=i)(h:xs[i.toNat]?=ac y) :
  (nK P t (.t (.sl sz (xs.map f))) (.t (.int kk i))).run st=ac (.fadr (f y),st):=by
 unfold nK;simp only [hu,hs,H0,h0,and_self,↓reduceIte,zQV,h,zWG,true_and,MA.run]
theorem qhx{α:Type}{t e:TypeId}{f:α->Or}{xs:List α}{y:α}{sz r:Nat}{kk:IntKind}{i:Int}{e':TypeId}(hu:P.underlying t=ac (.slice e))(hs:jX P e=ac sz)(hr:st.rw r=ac (.live e' sz (xs.map f)))(h0:0<=i)(h:xs[i.toNat]?=ac y) :
  (nK P t (.own r) (.t (.int kk i))).run st=ac (.elem r sz i.toNat 0,st):=by
 have:i.toNat < xs.length:=(ln.1 h).1;unfold nK;simp only [hu,hs,MA.run,hr,h0,zWw,this,and_self,↓reduceIte,true_and]
end
section
variable {P:Program} {n:Nat} {ls:IO} {st st1:St}
theorem Le.trans{st2:St}(h:Le n ls st st1)(k:Le n ls st1 st2):Le n ls st st2:=λE g a w hE hS=>by
 obtain ⟨g1,h1⟩:=h E g a w hE hS;exact k E g1 a w hE h1
theorem Zc{t:Nat}{x:A}(htm:st1.tm=st.tm)(h:∀ (E:En) (g:Gh) (w:World) (v:Value),io E g st w->VR w g st.O st.R (st.tm t) v->∃ g1,io E g1 st1 w/\vO w w g g1 st.O st.R st1.O st1.R/\VR w g1 st1.O st1.R x v)(ht:t < n) :
  Le n ls st (st1.put (ac t) x):=λE g a w hE hS=>by
 obtain ⟨v,h1,h2⟩:=hS.tm t ht;obtain ⟨g1,h3,h4,h5⟩:=h E g w v hS.mem h2;refine ⟨g1,h3.put _ _,hS.size,hS.defers,λi hi=>?_,λi hi=>?_,λs b hs=>?_,λv' hv'=>⟨(h4.R _ (hS.pin v' hv').1).1,(h4.R _ (hS.pin v' hv').1).2.trans (hS.pin v' hv').2⟩⟩
 ·show ∃ u,_/\VR w g1 st1.O st1.R (gB st1.tm t x i) u
  by_cases he:i=t
  ·subst he;exact ⟨v,h1,by rw [eM]; exact h5⟩
  ·obtain ⟨u,h6,h7⟩:=hS.tm i hi;exact ⟨u,h6,by rw [cX _ _ _ _ he,htm]; exact h7.mono h4⟩
 ·show gB st1.tm t x i=A.undef;rw [cX _ _ _ _ al,htm];exact hS.und i hi
 ·obtain ⟨h6,h7⟩:=hS.lent s b hs;exact ⟨(h4.O s h6).1,(h4.O s h6).2.trans h7⟩
theorem io.nilrow{E:En}{g:Gh}{w:World}{r:Nat}(h:io E g st w)(hr:st.rw r=cl)(e sz:Nat) :
  io E { g with rw:=gB g.rw r (.slice cl 0 0) } { st with rw:=gB st.rw r (ac (.live e sz [])) } w /\
   vO w w g { g with rw:=gB g.rw r (.slice cl 0 0) } st.O st.R ({ st with rw:=gB st.rw r (ac (.live e sz [])) }:St).O ({ st with rw:=gB st.rw r (ac (.live e sz [])) }:St).R :=
 h.new_row (vu.refl w) r hr (.slice cl 0 0) e sz [] (λ_=>False) (λ_ _ _=>rfl) (λb h=>by cases h) (λ_ _ h=>h.elim) (λ_ h=>h.elim)
  ⟨[],⟨by simp,.inl ⟨rfl,rfl⟩⟩,λi row h=>by simp at h,λi row j x h=>by simp at h,λb h=>by cases h⟩
theorem Le.frz(t r e sz:Nat)(rows:it)(ht:st.tm t=.own r)(hr:st.rw r=ac (.live e sz rows))(hlt:zKX t n=gi) :
  Le n ls st (({ st with rw:=gB st.rw r (ac (.frz sz rows)) }:St).put (ac t) (.t (.sl sz rows))) :=
 Zc rfl (λE g w v hM hv=>by
  rw [ht] at hv
  cases hv with
  | own _ hR =>
   obtain ⟨h1,h2⟩:=hM.frz_row r e sz rows hr;have h3:Rd w _ (.sl sz rows) (g.rw r):=h1.row r (.frz sz rows) (by simp [eM]);exact ⟨_,h1,h2,.t _ _ h3⟩) YZ
theorem io.reob{E:En}{g:Gh}{w:World}{s:Nat}{cells cells':Os}(h:io E g st w)(hs:st.ob s=ac cells)(hl:cells'.length<=cells.length)
  (hx:∀ (j:Nat) (x':A),cells'[j]?=ac x'->∃ x,cells[j]?=ac x/\∀ v,x.one=true->VR w g st.O st.R x v->x'.one=gi/\VR w g st.O st.R x' v):io E g { st with ob:=gB st.ob s (ac cells') } w:=by
 have hO:({ st with ob:=gB st.ob s (ac cells') }:St).O=st.O:=by
  funext i
  unfold St.O;simp only [gB]
  split
  ·rename_i he;rw [he,hs];rfl
  ·rfl
 have hR:({ st with ob:=gB st.ob s (ac cells') }:St).R=st.R:=rfl;have hL:({ st with ob:=gB st.ob s (ac cells') }:St).L=st.L:=rfl;refine ⟨λi c hi=>?_,by rw [hO]; exact h.obne,h.row,h.rowne,by rw [hO,hL]; exact h.rowob,h.F,h.os,h.tape,h.output,h.sizes,h.frame,h.shp,h.dep0⟩;rw [hO,hR]
 by_cases he:i=s
 ·subst he;have hc:c=cells':=by simpa [eM] using hi.symm
  subst hc;obtain ⟨arr,e,h1,h2,h3,h4⟩:=h.ob i cells hs;refine ⟨arr,e,h1,by omega,λj x' hj=>?_,h4⟩;obtain ⟨x,hxj,hxx⟩:=hx j x' hj;obtain ⟨h5,v,h6,h7⟩:=h3 j x hxj;exact ⟨(hxx v h5 h7).1,v,h6,(hxx v h5 h7).2⟩
 ·exact h.ob i c (by simpa [gB,he] using hi)
theorem Le.mem(htm:st1.tm=st.tm)(h:∀ (E:En) (g:Gh) (w:World),io E g st w->∃ g1,io E g1 st1 w/\vO w w g g1 st.O st.R st1.O st1.R):Le n ls st st1:=λE g a w hE hS=>by
 obtain ⟨g1,h3,h4⟩:=h E g w hS.mem;refine ⟨g1,h3,hS.size,hS.defers,λi hi=>?_,λi hi=>?_,λs b hs=>?_,λv' hv'=>⟨(h4.R _ (hS.pin v' hv').1).1,(h4.R _ (hS.pin v' hv').1).2.trans (hS.pin v' hv').2⟩⟩
 ·obtain ⟨u,h6,h7⟩:=hS.tm i hi;exact ⟨u,h6,by rw [htm]; exact h7.mono h4⟩
 ·rw [htm];exact hS.und i hi
 ·obtain ⟨h6,h7⟩:=hS.lent s b hs;exact ⟨(h4.O s h6).1,(h4.O s h6).2.trans h7⟩
theorem Va{s:Nat}{cells cells':Os}(hs:st.ob s=ac cells):({ st with ob:=gB st.ob s (ac cells') }:St).O=st.O:=by
 funext i
 unfold St.O;simp only [gB]
 split
 ·rename_i he;rw [he,hs];rfl
 ·rfl
theorem qeH(s j r e sz:Nat)(cells:Os)(hs:st.ob s=ac cells)(hj:cells[j]?=ac .nil)(hr:st.rw r=cl) :
  Le n ls st { tm:=st.tm,ob:=gB st.ob s (ac (cells.set j (.own r))),rw:=gB st.rw r (ac (.live e sz [])) } :=
 Le.mem rfl λE g w hM=>by
  obtain ⟨h1,h2⟩:=hM.nilrow hr e sz;have h3:({ g with rw:=gB g.rw r (.slice cl 0 0) }:Gh).rw r=Value.slice cl 0 0:=eM _ _ _;have h4:=VR.own (w:=w) (g:={ g with rw:=gB g.rw r (.slice cl 0 0) }) (O:=({ st with rw:=gB st.rw r (ac (.live e sz [])) }:St).O) (R:=({ st with rw:=gB st.rw r (ac (.live e sz [])) }:St).R) r (by simp [St.R,eM]);rw [h3] at h4;have hs':({ st with rw:=gB st.rw r (ac (.live e sz [])) }:St).ob s=ac cells:=hs;have hO:=Va (cells':=cells.set j (.own r)) hs';refine ⟨_,h1.reob hs' (cells':=cells.set j (.own r)) ig (λi x' hi=>?_),⟨h2.same,h2.F,λs hs=>?_,h2.R,h2.d,h2.s⟩⟩
  ·by_cases he:j=i
   ·subst he;refine ⟨.nil,hj,λv _ hv=>?_⟩;have hlt:j < cells.length:=(ln.1 hj).1;rw [zZW hlt] at hi
    cases hi
    cases hv
    exact ⟨rfl,h4⟩
   ·rw [zZK he] at hi;exact ⟨x',hi,λv h1 h2=>⟨h1,h2⟩⟩
  ·have:=h2.O s hs;exact ⟨by rw [<- hO] at this; exact this.1,this.2⟩
end
end Go.Tm
namespace Go.Tm
section
variable {P:Program} {n:Nat} {ls:IO} {st st1:St}
theorem bY(s j r e sz:Nat)(cells:Os)(rows:it)(hs:st.ob s=ac cells)(hj:cells[j]?=ac (.own r))(hr:st.rw r=ac (.live e sz rows)) :
  Le n ls st { tm:=st.tm,ob:=gB st.ob s (ac (cells.set j (.t (.sl sz rows)))),rw:=gB st.rw r (ac (.frz sz rows)) } :=
 Le.mem rfl λE g w hM=>by
  obtain ⟨h1,h2⟩:=hM.frz_row r e sz rows hr;have h3:Rd w _ (.sl sz rows) (g.rw r):=h1.row r (.frz sz rows) (by simp [eM]);have hs':({ st with rw:=gB st.rw r (ac (.frz sz rows)) }:St).ob s=ac cells:=hs;have hO:=Va (cells':=cells.set j (.t (.sl sz rows))) hs';refine ⟨_,h1.reob hs' (cells':=cells.set j (.t (.sl sz rows))) ig (λi x' hi=>?_),⟨h2.same,h2.F,λs hs=>?_,h2.R,h2.d,h2.s⟩⟩
  ·by_cases he:j=i
   ·subst he;refine ⟨.own r,hj,λv _ hv=>?_⟩;have hlt:j < cells.length:=(ln.1 hj).1;rw [zZW hlt] at hi
    cases hi
    cases hv
    exact ⟨rfl,.t _ _ h3⟩
   ·rw [zZK he] at hi;exact ⟨x',hi,λv h1 h2=>⟨h1,h2⟩⟩
  ·have:=h2.O s hs;exact ⟨by rw [<- hO] at this; exact this.1,this.2⟩
end
end Go.Tm
namespace Go.Tm
open Go.RowKit
def cM{α:Type}(xs:List α)(i:Int):Option α:=if 0<=i then xs[i.toNat]? else cl
theorem bL{α:Type}{xs:List α}{i:Int}{x:α}(h:cM xs i=ac x):0<=i/\xs[i.toNat]?=ac x:=by
 unfold cM at h
 split at h
 ·exact ⟨by assumption,h⟩
 ·cases h
def dW(b:Bool):Option Unit:=if b then ac () else cl
theorem ba{b:Bool}{u:Unit}(h:dW b=ac u):b=true:=by
 unfold dW at h
 split at h
 ·assumption
 ·cases h
theorem aae{α β:Type}{x:Option α}{f:α->Option β}{r:β}(h:x.bind f=ac r):∃ a,x=ac a/\f a=ac r:=by
 cases x with
 | none=>cases h
 | some a=>exact ⟨a,rfl,h⟩
def Mz{β:Type}(x:Option (β×St)):St:=match x with | some q=>q.2 | none=>dP
def orA(x:Option (A×St)):A:=match x with | some q=>q.1 | none=>.undef
section
variable {P:Program} {n:Nat} {ls:IO} {Q:Exit->St->Prop} {st st':St} {p:Nat->Bool} {ρ:Nat->fi} {ops:Array Oper} {l:W2} {K:St->Prop} {o:Oper}
theorem qcw{id:Nat}(p:Nat->Bool)(ρ:Nat->fi)(hm:P.follows .mixedOrders=gi)(hok:U6 p ρ n ops=gi)(h:ab P p ρ ops ops.toList st (Q .normal)):Wp P n ls (.region id ops gi) Q st :=
 Wp.region (λ_=>hm) hok h
theorem Id{id:Nat}(p:Nat->Bool)(ρ:Nat->fi)(hok:ops.toList.all (rq n)=gi)(h:ab P p ρ ops ops.toList st (Q .normal)):Wp P n ls (.region id ops go) Q st :=
 Wp.region (λh=>by cases h) hok h
theorem ab.known(d:Nat){e v:Bool}(h:st.tm d=.t (.bool e))(hv:e=v)(hr:ab P p ρ ops l (st.put (ac d) (.t (.bool v))) K):ab P p ρ ops l st K:=by
 have:st.put (ac d) (.t (.bool v))=st:=by
  refine St.ext (funext λi=>?_) rfl rfl;show gB st.tm d (.t (.bool v)) i=st.tm i;unfold gB
  split
  ·rename_i he;rw [he,h,hv]
  ·rfl
 rwa [this] at hr
theorem ab.pure{x:A}(hg:jI ops st o=ac gi)(hf:fX ρ st o=gi)(h:(tl P ρ st.eval o).run st=ac (x,st))(hr:ab P p ρ ops l (st.put o.dst x) K):ab P p ρ ops (o :: l) st K:=ab.op hg hf h hr
theorem qeI{α:Type}(f:α->Or)(xs:List α)(i:Int){y:α}{t e:TypeId}{a b:Operand}{sz:Nat}{kk:IntKind}(ho:o.op=.indexAddr t a b)(hg:jI ops st o=ac gi)(hf:fX ρ st o=gi)
  (ha:st.eval a=ac (.t (.sl sz (xs.map f)))) (hb:st.eval b=ac (.t (.int kk i))) (hu:P.underlying t=ac (.slice e)) (hs:jX P e=ac sz) (h:cM xs i=ac y) (hk:ab P p ρ ops l (st.put o.dst (.fadr (f y))) K):ab P p ρ ops (o :: l) st K:=by
 obtain ⟨h0,h1⟩:=bL h;refine ab.pure (x:=.fadr (f y)) hg hf ?_ hk;simp only [tl,ho,ha,hb];exact qjv hu hs h0 h1
theorem qeJ{α:Type}(f:α->Or)(xs:List α)(i:Int)(r:Nat){y:α}{t e e':TypeId}{a b:Operand}{sz:Nat}{kk:IntKind}(ho:o.op=.indexAddr t a b)(hg:jI ops st o=ac gi)(hf:fX ρ st o=gi)
  (ha:st.eval a=ac (.own r)) (hr:st.rw r=ac (.live e' sz (xs.map f))) (hb:st.eval b=ac (.t (.int kk i))) (hu:P.underlying t=ac (.slice e)) (hs:jX P e=ac sz) (h:cM xs i=ac y) (hk:ab P p ρ ops l (st.put o.dst (.elem r sz i.toNat 0)) K):ab P p ρ ops (o :: l) st K:=by
 obtain ⟨h0,h1⟩:=bL h;refine ab.pure (x:=.elem r sz i.toNat 0) hg hf ?_ hk;simp only [tl,ho,ha,hb];exact qhx hu hs hr h0 h1
theorem qcx{α:Type}(f:α->Or)(xs:List α)(r i off:Nat){y:α}{t:TypeId}{a:Operand}{sz m:Nat}{e':TypeId}{gg:Bool}(x:A)(ho:o.op=.load t a)(hg:jI ops st o=ac gi)(hf:fX ρ st o=gi)
  (ha:st.eval a=ac (.elem r sz i off)) (hr:st.rw r=ac (.live e' sz (xs.map f))) (hgg:qan P t=ac gg) (hm:jX P t=ac m) (h:xs[i]?=ac y) (hc:Mq gg m ((f y).map A.t) off=ac x) (hk:ab P p ρ ops l (st.put o.dst x) K):ab P p ρ ops (o :: l) st K:=by
 refine ab.pure (x:=x) hg hf ?_ hk;simp only [tl,ho,ha,Qp,hgg,hm,MA.run,hr,↓reduceIte,zQV,h,zWG,hc]
def KR(P:Program)(t:TypeId):Option (TypeId×Nat×Nat):=match P.underlying t with
 | some (.slice e)=>match II P e,AM P e with
  | some (ac _,n,by_),ac z=>if z.length=n/\0 < n/\0 < by_ then ac (e,n,by_) else cl
  | _,_=>cl
 | _=>cl
theorem Ot{t e:TypeId}{n by_:Nat}(h:KR P t=ac (e,n,by_)):∃ z z0,P.underlying t=ac (.slice e)/\II P e=ac (ac z0,n,by_)/\AM P e=ac z/\z.length=n/\0 < n/\0 < by_:=by
 unfold KR at h
 split at h
 ·rename_i e' hu
  split at h
  ·rename_i z0 n' by' z hi hz
   split at h
   ·rename_i hc
    cases h
    exact ⟨z,z0,hu,hi,hz,hc.1,hc.2.1,hc.2.2⟩
   ·cases h
  ·cases h
 ·cases h
theorem qfV{k:IntKind}{m:Nat}{xs:gs}{f:Int->Or}(hf:∀ n,(f n).all T.sc=gi):(((A.ext go (.sl m (xs.map f))).rows λm rows=>MA.ret (m,rows)).run st).map Prod.fst=ac (m,xs.map f):=by
 have:UN (xs.map f)=true:=by
  unfold UN;rw [zXZ];intro r hr;obtain ⟨n,_,rfl⟩:=List.mem_map.1 hr;exact hf n
 simp [A.rows,this,MA.run]
theorem Ou{β:Type}{y:A}{m:Nat}{ys:it}(hy:((y.rows λm rows=>MA.ret (m,rows)).run st).map Prod.fst=ac (m,ys)):∀ k:Nat->it->MA β,(y.rows k).run st=(k m ys).run st:=by
 intro k;unfold A.rows at hy ⊢
 split at hy <;> simp only [MA.run] at hy ⊢ <;> try (simp at hy; done)
 ·simp at hy; obtain ⟨rfl,rfl⟩:=hy; rfl
 ·split at hy
  ·rename_i h; rw [if_pos h]; simp [MA.run] at hy; obtain ⟨rfl,rfl⟩:=hy; rfl
  ·simp [MA.run] at hy
 ·simp at hy; obtain ⟨rfl,rfl⟩:=hy; rfl
 ·rename_i r
  revert hy
  rcases st.rw r with _ | (_ | _ | _) <;> simp only [MA.run,zWG,Option.some.injEq,Prod.mk.injEq,Option.map_none,reduceCtorEq,false_implies]
  ·rintro ⟨rfl,rfl⟩; rfl
  ·rintro ⟨rfl,rfl⟩; rfl
theorem qeK(d m e nn by_ r:Nat)(xs ys:it){t:TypeId}{ts:Array TypeId}{args:Array Operand}{a b:Operand}{y:A}(ho:o.op=.call { callee:=.builtin .append,args,argTypes:=ts })(hargs:args.toList=[a,b])(hts:ts.toList=[t,t])(hd:o.dst=ac d)(hg:jI ops st o=ac gi)(hf:fX ρ st o=gi)
  (ha:st.eval a=ac (.own r)) (hr:st.rw r=ac (.live e nn xs)) (hb:st.eval b=ac y) (hy:((y.rows λm rows=>MA.ret (m,rows)).run st).map Prod.fst=ac (m,ys)) (hm:m=nn\/ys=[]) (hi:KR P t=ac (e,nn,by_)) (hsz:(xs.length+ys.length)*by_<=140737488355328) (hne:zWg (ip d 0) r=go) (hfree:st.rw (ip d 0)=cl)
  (hk:ab P p ρ ops l (({ st with rw:=gB (gB st.rw r (ac .gone)) (ip d 0) (ac (.live e nn (xs++ys))) }:St).put o.dst (.own (ip d 0))) K):ab P p ρ ops (o :: l) st K:=by
 obtain ⟨z,z0,hu,hti,hz,h1,h2,h3⟩:=Ot hi;have hne':ip d 0≠r:=λh=>by rw [h,zVH] at hne; cases hne
 refine ab.op (x:=.own (ip d 0)) hg hf ?_ hk;have hrow:=Ou (β:=A) hy;have hfr:gB st.rw r (ac RZ.gone) (ip d 0)=none:=by rw [cX _ _ _ _ hne',hfree]
 simp only [tl,ho,hargs,ha,hb,CB,hts,hd,↓reduceIte,hu,hti,hz,h1,h2,h3,and_self,hrow,hm,MA.run,hr,hsz,DI,hfr]
end
section
variable {P:Program} {n:Nat} {ls:IO} {Q:Exit->St->Prop} {st st':St} {p:Nat->Bool} {ρ:Nat->fi} {ops:Array Oper} {l:W2} {K:St->Prop} {o:Oper}
theorem qjw{m:Bool}{fn:Func}{args:List V}{res:V}{outs:List (List C)}(l:Os)(res0:V)(outs0:List (List C))(hres:DK P st fn.results.toList=ac l)(h:((FM 0 args λos=>qeG m (qct l) λv=>MA.ret (v,os)).run st).map Prod.fst=ac (res0,outs0))(hv:VLe res0 res)(ho:Gu (Gu Zb) outs0 outs):DL P m fn args res outs .ret st:=by
 obtain ⟨⟨x,st1⟩,h1,h2⟩:=pa.1 h
 cases h2
 exact ⟨.inl rfl,l,st1,res0,outs0,hres,h1,hv,ho⟩
theorem eF{α:Type}(f:α->Or)(d m e nn by_ r:Nat)(xs ys:List α){t:TypeId}{ts:Array TypeId}{args:Array Operand}{a b:Operand}{y:A}(ho:o.op=.call { callee:=.builtin .append,args,argTypes:=ts })(hargs:args.toList=[a,b])(hts:ts.toList=[t,t])(hd:o.dst=ac d)(hg:jI ops st o=ac gi)(hf:fX ρ st o=gi)
  (ha:st.eval a=ac (.own r)) (hr:st.rw r=ac (.live e nn (xs.map f))) (hb:st.eval b=ac y) (hy:((y.rows λm rows=>MA.ret (m,rows)).run st).map Prod.fst=ac (m,ys.map f)) (hm:m=nn\/ys.map f=[]) (hi:KR P t=ac (e,nn,by_)) (hsz:(xs.length+ys.length)*by_<=140737488355328) (hne:zWg (ip d 0) r=go) (hfree:st.rw (ip d 0)=cl)
  (hk:ab P p ρ ops l (({ st with rw:=gB (gB st.rw r (ac .gone)) (ip d 0) (ac (.live e nn ((xs++ys).map f))) }:St).put o.dst (.own (ip d 0))) K):ab P p ρ ops (o :: l) st K :=
 qeK d m e nn by_ r (xs.map f) (ys.map f) ho hargs hts hd hg hf ha hr hb hy hm hi (by simpa using hsz) hne hfree (by rw [<- zYk]; exact hk)
theorem iT(op:BinOp)(a b:T)(z:T){t u:TypeId}{x y:Operand}(ho:o.op=.binOp op t x y u)(hg:jI ops st o=ac gi)(hf:fX ρ st o=gi)(hx:st.eval x=ac (.t a))(hy:st.eval y=ac (.t b))
  (h:Jh (isB P t) op a b=ac z) (hk:ab P p ρ ops l (st.put o.dst (.t z)) K):ab P p ρ ops (o :: l) st K:=by
 refine ab.pure (x:=.t z) hg hf ?_ hk;simp only [tl,ho,hx,hy,h,MA.run]
theorem qdQ(tb:Bool)(k:IntKind)(a b:Int)(h:(b == 0)=go):Jh tb .quo (.int k a) (.int k b)=ac (.int k (k.wrap (a.tdiv b))):=by
 have:b≠0:=by simpa using h
 simp [Jh,this]
theorem KT(tb:Bool)(k:IntKind)(a b:Int)(h:(b == 0)=go):Jh tb .rem (.int k a) (.int k b)=ac (.int k (a.tmod b)):=by
 have:b≠0:=by simpa using h
 simp [Jh,this]
theorem D5(tb:Bool)(k k':IntKind)(a b:Int)(h:decide (0<=b)=gi):Jh tb .shl (.int k a) (.int k' b)=ac (.int k (k.wrap (a*2 ^ min b.toNat k.bits))):=by
 have:0<=b:=by simpa using h
 simp [Jh,this]
theorem Ov(tb:Bool)(k k':IntKind)(a b:Int)(h:decide (0<=b)=gi):Jh tb .shr (.int k a) (.int k' b)=ac (.int k (a.fdiv (2 ^ min b.toNat k.bits))):=by
 have:0<=b:=by simpa using h
 simp [Jh,this]
def cR(l h n:Int):Bool:=decide (0<=l) && decide (l<=h) && decide (h<=n)
theorem Ie{l h n:Int}(hh:cR l h n=gi):0<=l/\l<=h/\h<=n:=by
 simp only [cR,sk,decide_eq_true_eq] at hh;exact ⟨hh.1.1,hh.1.2,hh.2⟩
theorem eg{α:Type}(f:α->Or)(xs:List α)(sz:Nat)(i j:Int){t e:TypeId}{x:Operand}{ax:A}{lo hi:Option Operand}{alo ahi:Option A}(ho:o.op=.slice t x lo hi cl)(hg:jI ops st o=ac gi)(hf:fX ρ st o=gi)(hx:st.eval x=ac ax)(hr:((ax.toT MA.ret).run st).map Prod.fst=ac (.sl sz (xs.map f)))
  (hlo:Qq st.eval lo=ac alo) (hhi:Qq st.eval hi=ac ahi) (hl:C5 0 alo=ac i) (hh:C5 xs.length ahi=ac j) (hu:P.underlying t=ac (.slice e)) (hs:jX P e=ac sz) (hw:qem ρ o.dst alo ahi=go) (h:cR i j xs.length=gi)
  (hk:ab P p ρ ops l ((Mz ((ax.toT MA.ret).run st)).put o.dst (.t (.sl sz (((xs.take j.toNat).drop i.toNat).map f)))) K):ab P p ρ ops (o :: l) st K:=by
 have h':=Ie h;obtain ⟨⟨y,st1⟩,h1,h2⟩:=pa.1 hr
 cases h2
 rw [h1] at hk;refine ab.op (x:=.t (.sl sz (((xs.take j.toNat).drop i.toNat).map f))) (st1:=st1) hg hf ?_ hk;have key:∀ k:T->MA A,(ax.toT k).run st=(k (.sl sz (xs.map f))).run st1:=by
  intro k
  cases ax <;> simp only [A.toT,MA.run,Option.some.injEq,Prod.mk.injEq,reduceCtorEq] at h1 ⊢
  ·obtain ⟨h1,rfl⟩:=h1; rw [h1]
  ·obtain ⟨h1,rfl⟩:=h1; rw [h1]
  ·rename_i r
   revert h1
   rcases st.rw r with _ | (_ | _ | _) <;> simp only [MA.run,Option.some.injEq,Prod.mk.injEq,reduceCtorEq,false_implies]
   ·rintro ⟨h1,rfl⟩; rw [h1]
   ·rintro ⟨h1,rfl⟩; rw [h1]
 have hne:FI P t ax alo ahi=ax.toT fun
   | .sl sz' rows=>match C5 0 alo,C5 rows.length ahi with
    | some l,ac h=>if sz'=sz\/rows=[] then if 0<=l/\l<=h/\h<=rows.length then .ret (.t (.sl sz' ((rows.take h.toNat).drop l.toNat))) else .fail else .fail
    | _,_=>.fail
   | _=>.fail:=by
  unfold FI;rw [hu];have h9:∀ q:Option Nat,q=ac sz->(match q with
   | some n=>(ax.toT λy=>match y with
    | .sl sz rows=>match C5 0 alo,C5 rows.length ahi with
     | some l,ac h=>if sz=n\/rows=[] then if 0<=l/\l<=h/\h<=rows.length then (MA.ret (.t (.sl sz ((rows.take h.toNat).drop l.toNat))):MA A) else .fail else .fail
     | _,_=>.fail
    | _=>.fail)
   | none=>.fail)=ax.toT fun
   | .sl sz' rows=>match C5 0 alo,C5 rows.length ahi with
    | some l,ac h=>if sz'=sz\/rows=[] then if 0<=l/\l<=h/\h<=rows.length then .ret (.t (.sl sz' ((rows.take h.toNat).drop l.toNat))) else .fail else .fail
    | _,_=>.fail
   | _=>.fail:=λq hq=>by subst hq; rfl
  cases ax <;> first | exact h9 _ hs | (exfalso; simp [A.toT,MA.run] at h1; done)
 simp only [tl,ho,hx,hlo,hhi,hw,zWQ,hne,key,hl,zWw,hh,h'.1,h'.2.1,h'.2.2,and_self,↓reduceIte,MA.run,true_or,<- List.map_take,<- List.map_drop]
theorem zK{α:Type}(s:Bool)(f:α->Or)(xs:List α)(sz:Nat)(i j:Int){t e:TypeId}{x:Operand}{lo hi:Option Operand}{alo ahi:Option A}(ho:o.op=.slice t x lo hi cl)(hg:jI ops st o=ac gi)(hf:fX ρ st o=gi)(hx:st.eval x=ac (.ext s (.sl sz (xs.map f))))
  (hlo:Qq st.eval lo=ac alo) (hhi:Qq st.eval hi=ac ahi) (hl:C5 0 alo=ac i) (hh:C5 xs.length ahi=ac j) (hu:P.underlying t=ac (.slice e)) (hs:jX P e=ac sz) (hw:qem ρ o.dst alo ahi=go) (h:cR i j xs.length=gi)
  (hk:ab P p ρ ops l (st.put o.dst (.ext s (.sl sz (((xs.take j.toNat).drop i.toNat).map f)))) K):ab P p ρ ops (o :: l) st K:=by
 have h':=Ie h;refine ab.pure (x:=.ext s (.sl sz (((xs.take j.toNat).drop i.toNat).map f))) hg hf ?_ hk;simp only [tl,ho,hx,hlo,hhi,hw,zWQ,FI,hu,hs,hl,zWw,hh,h'.1,h'.2.1,h'.2.2,and_self,true_and,↓reduceIte,MA.run,<- List.map_take,<- List.map_drop]
theorem Vb{α:Type}:∀ (ts:Or) (k:Or->MA α),fg (ts.map A.t) k=k ts
 | [],k=>rfl
 | t :: ts,k=>by
  simp only [zXV,fg,A.toT];exact Vb ts _
theorem JH{α:Type}(f:α->Or)(y:α)(d e nn by_:Nat)(i c:Int){t:TypeId}{x1 x2:Operand}(ho:o.op=.makeSlice t x1 x2)(hd:o.dst=ac d)(hg:jI ops st o=ac gi)(hf:fX ρ st o=gi)(h1:st.eval x1=ac (.t (.int .i64 i)))(h2:st.eval x2=ac (.t (.int .i64 c)))
  (hi:KR P t=ac (e,nn,by_)) (hz:(AM P e).map (oB (N3 P e))=ac ((f y).map A.t))
  (h0:(decide (0<=c) && (i == 0 || i == c))=gi) (hsz:c.toNat*by_<=140737488355328) (hfree:st.rw (ip d 0)=cl)
  (hk:ab P p ρ ops l (({ st with rw:=gB st.rw (ip d 0) (ac (.live e nn ((zQG i.toNat y).map f))) }:St).put o.dst (.own (ip d 0))) K):ab P p ρ ops (o :: l) st K:=by
 obtain ⟨z,z0,hu,hti,hzz,q1,q2,q3⟩:=Ot hi;simp only [sk,decide_eq_true_eq,Bool.or_eq_true,beq_iff_eq] at h0;refine ab.op (x:=.own (ip d 0)) hg hf ?_ hk;have hc:c<=9223372036854775807:=by
  have:c.toNat<=c.toNat*by_:=Nat.le_mul_of_pos_right _ q3;omega
 rw [hzz] at hz;have hz':oB (N3 P e) z=(f y).map A.t:=by simpa using hz
 simp only [tl,ho,h1,h2,UP,hu,hd,hti,hzz,q1,q2,h0.1,h0.2,hsz,hc,and_self,↓reduceIte,hz',Vb,List.map_replicate,DI,MA.run,hfree]
theorem iw{α:Type}(f:α->Or)(xs:List α)(r i off:Nat){y:α}(y':α){t e:TypeId}{x1 x2:Operand}(v:A){sz m:Nat}(ts:Or)(ho:o.op=.store t x1 x2)(hg:jI ops st o=ac gi)(hf:fX ρ st o=gi)
  (h1:st.eval x1=ac (.elem r sz i off)) (h2:st.eval x2=ac v) (hm:jX P t=ac m) (hv:(zWg v.cells.length m && v.cells.all A.one)=gi) (hz:oB (N3 P t) v.cells=ts.map A.t)
  (hr:st.rw r=ac (.live e sz (xs.map f))) (h:xs[i]?=ac y) (hle:zVy (off+m) (f y).length=gi) (hy:spl (f y) off ts=f y')
  (hk:ab P p ρ ops l ((({ st with rw:=gB st.rw r (ac (.live e sz ((xs.set i y').map f))) }:St)).put o.dst .undef) K):ab P p ρ ops (o :: l) st K:=by
 simp only [sk] at hv;have hv1:=zWq hv.1;have hle':off+m<=(f y).length:=by simpa using hle
 refine ab.op (x:=.undef) hg hf ?_ hk;simp only [tl,ho,h1,h2,HZ,hm,hv1,hv.2,and_self,↓reduceIte,hz,Vb,MA.run,hr,zQV,h,zWG,hle',hy,List.map_set]
end
theorem Vc{β:Type}{e:Bool}{x y:β}{r:β}(h:(bif e then x else y)=r)(hc:e=gi):x=r:=by rw [hc] at h; exact h
theorem Vd{β:Type}{e:Bool}{x y:β}{r:β}(h:(bif e then x else y)=r)(hc:e=go):y=r:=by rw [hc] at h; exact h
def aS(k:IntKind)(a b:Int):Int:=k.wrap (a+b)
def ew(k:IntKind)(a b:Int):Int:=k.wrap (a - b)
def jD(k:IntKind)(a b:Int):Int:=k.wrap (a*b)
def Xf(k:IntKind)(a b:Int):Int:=k.wrap (a.tdiv b)
def rU(k:IntKind)(a b:Int):Int:=a.tmod b
def iK(k:IntKind)(a b:Int):Int:=k.wrap (lg k.bits a &&& lg k.bits b).toNat
def DM(k:IntKind)(a b:Int):Int:=k.wrap (lg k.bits a ||| lg k.bits b).toNat
def Zd(k:IntKind)(a b:Int):Int:=k.wrap (lg k.bits a ^^^ lg k.bits b).toNat
def yN(k:IntKind)(a b:Int):Int:=k.wrap (lg k.bits a &&& ~~~ lg k.bits b).toNat
def mm(k:IntKind)(a b:Int):Int:=k.wrap (a*2 ^ min b.toNat k.bits)
def ng(k:IntKind)(a b:Int):Int:=a.fdiv (2 ^ min b.toNat k.bits)
theorem tf(b:Bool):b=gi\/b=false:=by cases b <;> simp
def aJ(k:IntKind)(n:Int):Or:=[.int k n]
def eSl{α:Type}(sz:Nat)(f:α->Or)(xs:List α):Or:=[.sl sz (xs.map f)]
theorem aB.le{P:Program}{f:FuncId}{l l':List V}{res:V}{outs:List (List C)}(h:aB P f l' res outs)(hl:Jk l l'):aB P f l res outs:=by
 refine ⟨h.1,λw F vs bs hF hV hn hb htb=>(h.2 w F vs bs hF (Qx hl hV) hn hb htb).mono λe w' hh=>?_⟩;obtain ⟨v,F',bv,bo,h1,h2,h3,h4,h5,h6,h7,h8,h9⟩:=hh;exact ⟨v,F',bv,bo,h1,h2,h3,h4,h5,h6,qdP h7 hl,h8,h9⟩
section
variable {P:Program} {n:Nat} {ls:IO} {Q:Exit->St->Prop} {N:St->Prop} {st st':St} {p:Nat->Bool} {ρ:Nat->fi} {ops:Array Oper} {l:W2} {K:St->Prop} {o:Oper}
theorem cq(h:N st):Bo N Q .normal st:=h
theorem CC{id:Nat}(h:Q (.exit id) st):Bo N Q (.exit id) st:=h
theorem qiw(h:Q .ret st):Bo N Q .ret st:=h
theorem eZ{id:Nat}(h:Q .normal st):qeF id Q .normal st:=h
theorem Xg{id:Nat}(h:Q .normal st):qeF id Q (.exit id) st:=by
 show bif zWg id id then Q .normal st else Q (.exit id) st
 rw [zVH];exact h
theorem Ow{o:Operand}{x y:Code}(ho:st.eval o=ac (.t (.bool gi)))(h:Wp P n ls x Q st):Wp P n ls (.cond o x y) Q st:=Wp.cond ho h
theorem Ox{o:Operand}{x y:Code}(ho:st.eval o=ac (.t (.bool go)))(h:Wp P n ls y Q st):Wp P n ls (.cond o x y) Q st:=Wp.cond ho h
theorem SV{fn:Func}{c:Code}{f:FuncId}{args:List V}{m:Bool}{res:V}{outs:List (List C)}(jo:Os)
  (hf:P.funcs[f]?=ac fn) (hb:fn.body=ac c) (hnm:(fn.name == "runtime.NumGoroutine")=go) (hle:zVy jo.length fn.ntmps=gi) (ht:sO fn.ntmps fn=gi)
  (ha:((rn 0 args MA.ret).run dP).map Prod.fst=ac jo) (hl:jk 0 args jo=gi)
  (h:Wp P fn.ntmps (gr 0 args) c (DL P m fn args res outs) (eE jo (Mz ((rn 0 args MA.ret).run dP)))):aB P f args res outs:=by
 obtain ⟨⟨as',st0⟩,h1,h2⟩:=pa.1 ha
 cases h2
 rw [h1] at h;exact U9 hf hb hnm qce ht h1 hl h
theorem qeL{α:Type}(f:α->Or)(xs:List α)(m:Nat){y:A}{x:Operand}{t e:TypeId}{args:Array Operand}{ts:Array TypeId}(ho:o.op=.call { callee:=.builtin .len,args,argTypes:=ts })(hargs:args.toList=[x])(hts:ts.toList=[t])(hg:jI ops st o=ac gi)(hf:fX ρ st o=gi)
  (hx:st.eval x=ac y) (hy:((y.rows λm rows=>MA.ret (m,rows)).run st).map Prod.fst=ac (m,xs.map f)) (hu:P.underlying t=ac (.slice e)) (hk:ab P p ρ ops l (st.put o.dst (.t (.int .i64 xs.length))) K):ab P p ρ ops (o :: l) st K:=by
 refine ab.pure (x:=.t (.int .i64 xs.length)) hg hf ?_ hk;have hl:(R0 P t y).run st=(MA.ret (.t (.int .i64 xs.length)):MA A).run st:=by
  unfold R0;rw [hu]
  split <;> rename_i h1 <;> first | (cases h1; done) | skip
  ·rename_i s z rs
   cases s with
   | true=>cases hy
   | false =>
    simp only [A.rows] at hy
    split at hy
    ·simp [MA.run] at hy; rw [hy.2]; simp
    ·simp [MA.run] at hy
  ·rw [Ou hy]; simp
  ·rename_i h2 _; exact absurd rfl (h2 _)
 simp only [tl,ho,hargs,hx,hts];rw [hl]; rfl
theorem cC{α:Type}(f:α->Or)(xs:List α)(s:Bool)(m:Nat){x:Operand}{t e:TypeId}{args:Array Operand}{ts:Array TypeId}(ho:o.op=.call { callee:=.builtin .len,args:=args,argTypes:=ts })(hargs:args.toList=[x])(hts:ts.toList=[t])(hg:jI ops st o=ac gi)(hf:fX ρ st o=gi)
  (hx:st.eval x=ac (.ext s (.sl m (xs.map f)))) (hu:P.underlying t=ac (.slice e)) (hk:ab P p ρ ops l (st.put o.dst (.t (.int .i64 xs.length))) K):ab P p ρ ops (o :: l) st K:=by
 refine ab.pure (x:=.t (.int .i64 xs.length)) hg hf ?_ hk;simp only [tl,ho,hargs,hx,hts,R0,hu,MA.run,zWw]
def lh(l:List (Nat×fi))(t:Nat):fi:=match JD l t with | some r=>r | none=>.any
def SW(l:IO)(s:Nat):Bool:=l.contains s
end
end Go.Tm
namespace Go.Tm
open Go.RowKit Go.ChangeShapes
inductive RdL (w:World) (F:Nat->Prop):Or->List Value->Prop
 | nil:RdL w F [] []
 | cons (x:T) (v:Value) (xs:Or) (vs:List Value) (h:Rd w F x v) (hs:RdL w F xs vs):RdL w F (x :: xs) (v :: vs)
theorem RdL.get{w:World}{F:Nat->Prop}{xs:Or}{vs:List Value}(h:RdL w F xs vs):∀ (j:Nat) (x:T),xs[j]?=ac x->∃ v,vs[j]?=ac v/\Rd w F x v:=by
 induction h with
 | nil=>intro j x hx; simp at hx
 | cons x v xs vs h hs ih =>
  intro j y hy
  cases j with
  | zero=>simp only [zQz,Option.some.injEq] at hy ⊢; subst hy; exact ⟨v,rfl,h⟩
  | succ j=>simp only [List.getElem?_cons_succ] at hy ⊢; exact ih j y hy
abbrev Old(w:World):Nat->Prop:=λb=>b < w.heap.size
def qaR{α:Type}(P:Program)(t:TypeId)(n:Nat)(wf:α->Prop)(enc:α->Or):Prop :=
 P.cellsOf t=n/\(∀ x,(enc x).length=n)/\∀ {H:Type} (ec:TypeId×Value->H) (w:World) (sp:Nat->Bool) (held:Bool) (k:Nat) (cs:List Value) (d:DataW H×List MemPlace),
  DataW.trod ec P w 0 sp held k t cs=ac d->∃ x,wf x/\RdL w (Old w) (enc x) cs
def mn(k:IntKind)(n:Int):Prop:=k.min<=n/\n<=k.max
def Ve{α:Type}(wf:α->Prop)(xs:List α):Prop:=xs.length<=maxLen/\∀ x∈xs,wf x
theorem qaR.int{P:Program}{t:TypeId}{k:IntKind}(hu:P.underlying t=ac (.int k))(hc:P.cellsOf t=1):qaR P t 1 (mn k) (aJ k):=by
 refine ⟨hc,λ_=>rfl,λec w sp held m cs d h=>?_⟩;obtain ⟨n,rfl,_,hw⟩:=DataW.trod_int hu h;simp [Lit.wf] at hw;exact ⟨n,hw,.cons _ _ _ _ (.int _ _) .nil⟩
theorem Vf{α:Type}{g:Nat->Option α}{n:Nat}{r:List α}(h:(zXY n).mapM g=ac r){i:Nat}(hi:i < n):∃ x,g i=ac x/\r[i]?=ac x:=by
 have h1:=mapM_some_get h i i (by simp [hi]);have h2:=mapM_some_length h;simp only [List.length_range] at h2;rw [h1];exact ⟨r[i]'al,by simp,by simp⟩
theorem Yg{w:World}{a:Addr}{n:Nat}{cs:List Value}(h:w.cells? 0 a n=ac cs):cs.length=n/\∀ j,j < n->∃ v,w.cell? (a.add j)=ac v/\cs[j]?=ac v:=by
 unfold World.cells? at h;simp only [zZv,if_true] at h;exact ⟨by have:=mapM_some_length h; simpa using this,λj hj=>Vf h hj⟩
theorem qeM{w:World}{a:Addr}{v:Value}(h:w.cell? a=ac v):a.spot=cl/\a.block < w.heap.size:=by
 unfold World.cell? at h
 split at h
 ·rename_i c u fr e
  split at h
  ·cases h
  ·rename_i hs;refine ⟨by cases a with | mk b o s=>cases s <;> simp_all,?_⟩;have:=e; rw [Dp] at this; exact this.1
 ·cases h
theorem qaR.slice{α:Type}{P:Program}{t e:TypeId}{n:Nat}{wf:α->Prop}{enc:α->Or}(hu:P.underlying t=ac (.slice e))(hc:P.cellsOf t=1)(he:qaR P e (n+1) wf enc):qaR P t 1 (Ve wf) (eSl (n+1) enc):=by
 refine ⟨hc,λ_=>rfl,λ{H} ec w sp held m cs d h=>?_⟩;rcases DataW.trod_slice hu h with ⟨rfl,_⟩ | ⟨a,len,cap,elems,rest,m',rfl,rfl,_,_,hlc,hcap,hel,hm,_,_⟩
 ·exact ⟨[],⟨by simp,by simp⟩,.cons _ _ _ _ (.sl0 _ _ _ (by first | assumption | exact λ_=>rfl | (intro h; cases h))) .nil⟩
 ·have hex:∀ i,i < len->∃ x:α,∃ cs:List Value,w.cells? 0 (a.add (i*(n+1))) (n+1)=ac cs/\wf x/\RdL w (Old w) (enc x) cs:=by
   intro i hi;have hy:=hm i hi;rw [he.1,sX al] at hy
   cases hcs:w.cells? 0 (a.add (i*(n+1))) (n+1) with
   | none=>rw [hcs] at hy; cases hy
   | some cs =>
    rw [hcs] at hy;obtain ⟨x,hx,hr⟩:=he.2.2 ec w sp held m' cs _ hy;exact ⟨x,cs,rfl,hx,hr⟩
  rcases Nat.eq_zero_or_pos len with h0 | hpos
  ·subst h0; exact ⟨[],⟨by simp,by simp⟩,.cons _ _ _ _ (.sl0 _ _ _ (by first | assumption | exact λ_=>rfl | (intro h; cases h))) .nil⟩
  ·have hsp:a.spot=cl/\a.block < w.heap.size:=by
    obtain ⟨x,cs,hcs,_,_⟩:=hex 0 hpos;obtain ⟨v,hv,_⟩:=(Yg hcs).2 0 al;have:=qeM hv
    simpa [Addr.add] using this
   obtain ⟨b,off,s⟩:=a;simp only at hsp;obtain ⟨rfl,hb⟩:=hsp;have hcell:∀ i j,(Addr.add ((⟨b,off,cl⟩:Addr).add (i*(n+1))) j)=⟨b,off+i*(n+1)+j,cl⟩:=by
    intro i j;unfold Addr.add
    split <;> split <;> simp_all
   -- the elements, chosen
   have hch:∀ k,k<=len->∃ ys:List α,ys.length=k/\(∀ y∈ys,wf y)/\∀ i y,ys[i]?=ac y->∃ cs,w.cells? 0 ((⟨b,off,cl⟩:Addr).add (i*(n+1))) (n+1)=ac cs/\RdL w (Old w) (enc y) cs:=by
    intro k
    induction k with
    | zero=>intro _; exact ⟨[],rfl,by simp,by simp⟩
    | succ k ih =>
     intro hk;obtain ⟨ys,h1,h2,h3⟩:=ih al;obtain ⟨x,cs,h4,h5,h6⟩:=hex k al;refine ⟨ys++[x],by simp [h1],?_,?_⟩
     ·intro y hy;rcases sa.1 hy with h | h
      ·exact h2 y h
      ·simp only [zQq] at h; subst h; exact h5
     ·intro i y hy
      by_cases hi:i < ys.length
      ·rw [zQW hi] at hy; exact h3 i y hy
      ·rw [zQX al] at hy;have:i=ys.length:=by
        rcases Nat.lt_or_ge (i - ys.length) 1 with h | h
        ·omega
        ·rw [zXK (by simpa using h)] at hy; cases hy
       subst this;simp only [Nat.sub_self,zQz,Option.some.injEq] at hy;subst hy;rw [h1];exact ⟨cs,h4,h6⟩
   obtain ⟨ys,h1,h2,h3⟩:=hch len (zWK _);refine ⟨ys,⟨by omega,h2⟩,.cons _ _ _ _ ?_ .nil⟩;have hl:(ys.map enc).length=len:=by simpa using h1
   have key:∀ (i:Nat) (row:Or) (j:Nat) (x:T),(ys.map enc)[i]?=ac row->row[j]?=ac x->∃ v,w.cell? ⟨b,off+i*(n+1)+j,cl⟩=ac v/\Rd w (Old w) x v:=by
    intro i row j x hi hj;rw [zQV] at hi
    cases hy:ys[i]? with
    | none=>rw [hy] at hi; cases hi
    | some y =>
     rw [hy] at hi;simp only [zWG,Option.some.injEq] at hi;subst hi;obtain ⟨cs,hcs,hrd⟩:=h3 i y hy;obtain ⟨v,hv,hr⟩:=hrd.get j x hj;have hjn:j < n+1:=by
      have:=he.2.1 y;rcases Nat.lt_or_ge j (n+1) with h | h
      ·exact h
      ·rw [zXK al] at hj; cases hj
     obtain ⟨v',hv',hc'⟩:=(Yg hcs).2 j hjn;rw [hv] at hc'
     cases hc'
     rw [hcell] at hv';exact ⟨v,hv',hr⟩
   have hfun:∃ u:Nat->Nat->Value,∀ (i:Nat) (row:Or) (j:Nat) (x:T),(ys.map enc)[i]?=ac row->row[j]?=ac x->w.cell? ⟨b,off+i*(n+1)+j,cl⟩=ac (u i j)/\Rd w (Old w) x (u i j):=by
    refine ⟨λi j=>(w.cell? ⟨b,off+i*(n+1)+j,cl⟩).getD (.bool go),λi row j x hi hj=>?_⟩;obtain ⟨v,hv,hr⟩:=key i row j x hi hj;simp only [hv,zXX];exact ⟨trivial,hr⟩
   obtain ⟨u,hu'⟩:=hfun;have:=Rd.sl (w:=w) (F:=Old w) (n+1) (ys.map enc) b off cap u al hb (λi row hi=>by
    rw [zQV] at hi
    cases hy:ys[i]? with
    | none=>rw [hy] at hi; cases hi
    | some y=>rw [hy] at hi; simp only [zWG,Option.some.injEq] at hi; subst hi; exact he.2.1 y) (λi row j x hi hj=>(hu' i row j x hi hj).1) (λi row j x hi hj=>(hu' i row j x hi hj).2)
   rw [hl] at this;exact this
def RdV{α:Type}(P:Program)(t:TypeId)(wf:α->Prop)(ev:α->V):Prop :=
 ∀ {H:Type} (ec:TypeId×Value->H) (W:World) (base:Nat) (v:Value) (d:DataW H) (p:List MemPlace),DataW.Trod ec P W 0 (λ_=>gi) gi t v d p->Value.okWide P W .any base t v->∃ x,wf x/\VV W (Old W) (ev x) v []
def qfW(P:Program)(t:TypeId):Bool:=match P.underlying t with | some (.struct _) | some (.array ..)=>go | _=>gi
theorem qaS{P:Program}{t:TypeId}(hn:qfW P t=gi){W:World}{base:Nat}{v:Value}(h:Value.okWide P W .any base t v):v.cells=#[v]:=by
 cases v with
 | agg cs =>
  exfalso;unfold qfW at hn;unfold Value.okWide at h
  cases hu:P.underlying t with
  | none=>simp [hu,Cell.okWide,Cell.ok] at h
  | some u=>cases u <;> simp_all [Cell.okWide,Cell.ok]
 | _=>rfl
theorem RdV.one{α:Type}{P:Program}{t:TypeId}{wf:α->Prop}{enc:α->Or}(h:qaR P t 1 wf enc)(hn:qfW P t=gi):RdV P t wf (λx=>.one (.t ((enc x).headD .nilf))):=by
 intro H ec W base v d p ⟨k,hd⟩ hv;obtain ⟨x,hx,hr⟩:=h.2.2 ec W _ _ k _ _ hd;have hc:=qaS hn hv;rw [hc] at hr;have hl:=h.2.1 x;refine ⟨x,hx,.one _ _ _ ?_⟩
 match he:enc x,hl with
 | [y],_ =>
  rw [he] at hr
  cases hr with
  | cons _ _ _ _ h1 _=>exact .t _ _ h1
def R9{α:Type}(P:Program)(ts:List TypeId)(wf:α->Prop)(ea:α->List V):Prop :=
 ∀ {H:Type} (ec:TypeId×Value->H) (W:World) (base:Nat) (vs:List Value) (ds:List (DataW H)) (p:List MemPlace),DataW.TrodAll ec P W 0 (λ_=>gi) gi ts vs ds p ->
  (∀ (j:Nat) (t:TypeId) (v:Value),ts[j]?=ac t->vs[j]?=ac v->Value.okWide P W .any base t v)->∃ x,wf x/\IJ W (Old W) (ea x) vs []
theorem R9.nil{P:Program}:R9 P [] (λ_:Unit=>True) (λ_=>[]):=by
 intro H ec W base vs ds p h hv;obtain ⟨rfl,_,_⟩:=trodAll_nil h;exact ⟨(),trivial,.nil⟩
theorem R9.cons{α β:Type}{P:Program}{t:TypeId}{ts:List TypeId}{wf:α->Prop}{ev:α->V}{wf':β->Prop}{ea:β->List V}(h:RdV P t wf ev)(hs:R9 P ts wf' ea) :
  R9 P (t :: ts) (λx:α×β=>wf x.1/\wf' x.2) (λx=>ev x.1 :: ea x.2):=by
 intro H ec W base vs ds p hT hv;obtain ⟨v,vs',d,ds',p1,p2,rfl,rfl,rfl,h1,h2⟩:=trodAll_cons hT;obtain ⟨x,hx,hr⟩:=h ec W base v d p1 h1 (hv 0 t v rfl rfl);obtain ⟨y,hy,hr'⟩:=hs ec W base vs' ds' p2 h2 (λj t v ht hj=>hv (j+1) t v ht hj);exact ⟨(x,y),⟨hx,hy⟩,.cons _ _ [] _ _ [] hr hr'⟩
theorem LC{P:Program}{H:Type}{ec:TypeId×Value->H}(hl:laidOutB P=gi){W W':World}(hb:Below W.heap.size W W'):∀ {ts:List TypeId} {vs:List Value} {ds:List (DataW H)} {p:List MemPlace},
  ts.all (λt=>P.readableRec t && decide (t < P.types.size))=true->DataW.TrodAll ec P W 0 (λ_=>gi) gi ts vs ds p ->
  DataW.TrodAll ec P W' 0 (λb=>decide (b < W.heap.size)) gi ts vs ds p
 | [],vs,ds,p,_,h=>by
  obtain ⟨rfl,rfl,rfl⟩:=trodAll_nil h;exact trodAll_mk0
 | t :: ts,vs,ds,p,ht,h=>by
  obtain ⟨v,vs',d,ds',p1,p2,rfl,rfl,rfl,h1,h2⟩:=trodAll_cons h;simp only [List.all_cons,sk,decide_eq_true_eq] at ht;refine trodAll_cons_mk (Below.trod hl ht.1.1 ht.1.2 h1 hb ?_) (LC hl hb (by simpa using ht.2) h2);obtain ⟨k,hk⟩:=h1;exact DataW.trod_lt k _ _ _ hk
theorem qeN{α:Type}{P:Program}{f:FuncId}{ts:List TypeId}{wf:α->Prop}{ea:α->List V}(hr:R9 P ts wf ea)(hl:laidOutB P=gi)(hts:ts.all (λt=>P.readableRec t && decide (t < P.types.size))=gi)
  (law:∀ x,wf x->aB P f (ea x) (.one (.t (.bool gi))) []) {H:Type} (ec:TypeId×Value->H) (W:World) (base:Nat) (args:Array Value) (ds:List (DataW H)) (p:List MemPlace)
  (hT:DataW.TrodAll ec P W 0 (λ_=>gi) gi ts args.toList ds p) (hv:∀ (j:Nat) (t:TypeId) (v:Value),ts[j]?=ac t->args[j]?=ac v->Value.okWide P W .any base t v)
  (htb:W9 P W λ_=>False):Calls P f args W λe W'=>e=.returned (.bool gi)/\Below W.heap.size W W'/\DataW.TrodAll ec P W' 0 (λb=>decide (b < W.heap.size)) gi ts args.toList ds p:=by
 obtain ⟨x,hx,hV⟩:=hr ec W base args.toList ds p hT (λj t v h1 h2=>hv j t v h1 (by simpa using h2));have:=(law x hx).2 W (Old W) args.toList [] (λ_ h=>h) hV .nil ig (htb.mono λ_ h=>by cases h);simp only [zWy] at this;refine this.mono λe W' ⟨v,F',bv,bo,h1,h2,h3,h4,h5,h6,h7,h8,h9⟩=>?_;have hbel:Below W.heap.size W W':=⟨h2.os,h2.tape,h2.output,h2.size,λk hk=>h3 k hk ig⟩;refine ⟨?_,hbel,LC hl hbel hts hT⟩
 cases h6 with
 | one _ _ _ h =>
  cases h with
  | t _ _ h =>
   cases h
   exact h1
end Go.Tm
namespace Go.Tm
open Go.RowKit
mutual
def A.fz(s:Nat)(cs:Or):A->A
 | .obj s' off=>bif zWg s' s then .fadr (cs.drop off) else .obj s' off
 | .agg l=>.agg (JI s cs l)
 | .tup l=>.tup (JI s cs l)
 | .clo f l=>.clo f (JI s cs l)
 | .osl q a n c=>bif zWg q s then .t (.hdr a n c) else .osl q a n c
 | a=>a
def JI(s:Nat)(cs:Or):Os->Os
 | []=>[]
 | a :: r=>a.fz s cs :: JI s cs r
end
theorem Ze(s:Nat)(cs:Or):∀ l:Os,JI s cs l=l.map (A.fz s cs)
 | []=>by rw [JI]; rfl
 | a :: r=>by rw [JI,Ze s cs r]; rfl
def St.fz(st:St)(s:Nat)(cs:Or):St:=⟨λt=>(st.tm t).fz s cs,λi=>if i=s then cl else (st.ob i).map λl=>JI s cs l,st.rw⟩
theorem qiW(s:Nat)(cs:Or)(a:A):(a.fz s cs).one=a.one:=by
 cases a with
 | obj s' off=>unfold A.fz; cases zWg s' s <;> rfl
 | osl q a n c=>unfold A.fz; cases zWg q s <;> rfl
 | _=>unfold A.fz <;> rfl
section
variable {E:En} {g:Gh} {st:St} {w:World} {s:Nat} {cs:Or}
theorem VR.fz{O:Nat->Prop}{R:Nat->Prop}{O':Nat->Prop}{F':Nat->Prop}(hF:∀ b,g.F b->F' b)(hO:∀ i,O i->i≠s->O' i)(hb:F' (g.ob s)){arr:Array Value}{e:TypeId}(hh:w.heap[g.ob s]?=ac (.cells arr e (0,0)))
  (hc:∀ (j:Nat) (x:T),cs[j]?=ac x->∃ v,arr[j]?=ac v/\Rd w g.F x v) {a:A} {v:Value} (h:VR w g O R a v):VR w { g with F:=F' } O' R (a.fz s cs) v:=by
 have hl:∀ (l:Os) (vs:List Value),l.length=vs.length->(∀ (i:Nat) (x:A) (v:Value),l[i]?=ac x->vs[i]?=ac v->VR w { g with F:=F' } O' R (x.fz s cs) v) ->
   (JI s cs l).length=vs.length/\∀ (i:Nat) (x:A) (v:Value),(JI s cs l)[i]?=ac x->vs[i]?=ac v->VR w { g with F:=F' } O' R x v:=by
  intro l vs hl ih;rw [Ze];refine ⟨by simp [hl],λi x v hx hv=>?_⟩;rw [zQV] at hx
  cases hy:l[i]? with
  | none=>rw [hy] at hx; cases hx
  | some y =>
   rw [hy] at hx;simp only [zWG,Option.some.injEq] at hx;subst hx;exact ih i y v hy hv
 have hs:ER g.F w w:=λ_ _=>rfl
 induction h with
 | t x v h=>unfold A.fz; exact .t x v (h.mono hs hF)
 | nil=>unfold A.fz; exact .nil
 | own r hr=>unfold A.fz; exact VR.own (g:={ g with F:=F' }) r hr
 | agg l vs hl' h ih=>unfold A.fz; obtain ⟨h1,h2⟩:=hl l vs hl' ih; exact .agg _ vs h1 h2
 | tup l vs hl' h ih=>unfold A.fz; obtain ⟨h1,h2⟩:=hl l vs hl' ih; exact .tup _ vs h1 h2
 | obj s' off hs' =>
  unfold A.fz
  cases he:zWg s' s with
  | false =>
   have:s'≠s:=λh=>by rw [h,zVH] at he; cases he
   exact VR.obj (g:={ g with F:=F' }) s' off (hO s' hs' this)
  | true =>
   have:=zWq he;subst this;simp only [cond_true];have hcell:∀ j,w.cell? ⟨g.ob s',off+j,cl⟩=arr[off+j]?:=λj=>by
    unfold World.cell?;simp only [hh]; rfl
   refine VR.fadr (g:={ g with F:=F' }) _ _ off (λj=>(arr[off+j]?).getD (.bool go)) hb (λj x hx=>?_) (λj x hx=>?_)
   ·rw [zQx] at hx;obtain ⟨u,h1,_⟩:=hc _ x hx;rw [hcell,h1]; rfl
   ·rw [zQx] at hx;obtain ⟨u,h1,h2⟩:=hc _ x hx;simp only [h1,zXX];exact h2.mono hs hF
 | elem r sz i off b n c hr he=>unfold A.fz; exact VR.elem (g:={ g with F:=F' }) r sz i off b n c hr he
 | win r lo m n c c' ad a' hr he hm hp=>unfold A.fz; exact VR.win (g:={ g with F:=F' }) r lo m n c c' ad a' hr he hm hp
 | sub r sz lo n c c' ad a' hr he hp=>unfold A.fz; exact VR.sub (g:={ g with F:=F' }) r sz lo n c c' ad a' hr he hp
 | fadr cells b off u hF' hx hr=>unfold A.fz; exact VR.fadr (g:={ g with F:=F' }) cells b off u (hF _ hF') hx (λj x h=>(hr j x h).mono hs hF)
 | nn sz rows v h hv=>unfold A.fz; exact VR.nn (g:={ g with F:=F' }) sz rows v (h.mono hs hF) hv
 | ext s x v hs' h=>unfold A.fz; exact VR.ext (g:={ g with F:=F' }) s x v hs' h
 | shp x v h=>unfold A.fz; exact VR.shp (g:={ g with F:=F' }) x v h
 | exa s cells b off u hs' hD hx hr=>unfold A.fz; exact VR.exa (g:={ g with F:=F' }) s cells b off u hs' hD hx hr
 | clo f l vs hl' h ih=>unfold A.fz; obtain ⟨h1,h2⟩:=hl l vs hl' ih; exact .clo f _ vs h1 h2
 | undef v=>unfold A.fz; exact .undef v
 | raw v=>unfold A.fz; exact .raw v
 | osl q a n c hs ha =>
  unfold A.fz
  cases hq:zWg q s with
  | true=>exact .t _ _ (.hdr _ _ _)
  | false=>exact VR.osl (g:={ g with F:=F' }) q a n c (hO q hs (λh=>by subst h; simp at hq)) ha
end
theorem AT{n:Nat}{ls:IO}{st:St}(s:Nat)(cs:Or)(hs:st.ob s=ac (cs.map .t))(hl:ls.contains s=go):Le n ls st (st.fz s cs):=by
 intro E g a w hE hS;have hM:=hS.mem;obtain ⟨arr,e,h1,h2,h3,h4,h5⟩:=hM.ob s _ hs;have hOs:st.O s:=by simp [St.O,hs]
 have hc:∀ (j:Nat) (x:T),cs[j]?=ac x->∃ v,arr[j]?=ac v/\Rd w g.F x v:=by
  intro j x hx;obtain ⟨_,v,h6,h7⟩:=h3 j (.t x) (by rw [zQV,hx]; rfl)
  cases h7 with
  | t _ _ h=>exact ⟨v,h6,h⟩
 have hO:∀ i,(st.fz s cs).O i↔st.O i/\i≠s:=by
  intro i;unfold St.O St.fz
  by_cases h:i=s <;> simp [h]
 have hv:∀ {a:A} {v:Value},VR w g st.O st.R a v->VR w { g with F:=λb=>g.F b\/b=g.ob s } (st.fz s cs).O st.R (a.fz s cs) v:=λh =>
  VR.fz (s:=s) (cs:=cs) (λ_ h=>.inl h) (λi hi hne=>(hO i).2 ⟨hi,hne⟩) (.inr rfl) h1 hc h
 refine ⟨{ g with F:=λb=>g.F b\/b=g.ob s },⟨λi c hi=>?_,λi j hi hj he=>hM.obne i j ((hO i).1 hi).1 ((hO j).1 hj).1 he,λr x hr=>?_,hM.rowne,λr i hr hi=>hM.rowob r i hr ((hO i).1 hi).1,λb hb=>?_,hM.os,hM.tape,hM.output,hM.sizes,hM.frame,λb hb=>⟨.inl (hM.shp b hb).1,(hM.shp b hb).2⟩,hM.dep0⟩,
  hS.size,hS.defers,λi hi=>?_,λi hi=>?_,λi b hb=>?_,hS.pin⟩
 ·have hne:i≠s:=λh=>by subst h; simp [St.fz] at hi
  have:∃ c0,st.ob i=ac c0/\c=JI s cs c0:=by
   simp only [St.fz,hne,if_false] at hi
   cases h:st.ob i with
   | none=>rw [h] at hi; cases hi
   | some c0=>rw [h] at hi; simp at hi; exact ⟨c0,rfl,hi.symm⟩
  obtain ⟨c0,h6,rfl⟩:=this;obtain ⟨arr',e',g1,g2,g3,g4,g5⟩:=hM.ob i c0 h6;refine ⟨arr',e',g1,by rw [Ze]; simpa using g2,λj x hx=>?_,λhf=>hf.elim g4 (λhe=>hne (hM.obne i s (by simp [St.O,h6]) hOs he)),g5⟩;rw [Ze,zQV] at hx
  cases hy:c0[j]? with
  | none=>rw [hy] at hx; cases hx
  | some y =>
   rw [hy] at hx;simp only [zWG,Option.some.injEq] at hx;subst hx;obtain ⟨g6,v,g7,g8⟩:=g3 j y hy;exact ⟨by rw [qiW]; exact g6,v,g7,hv g8⟩
 ·have:=hM.row r x hr;refine this.mono (λ_ _=>rfl) (λ_ h=>.inl h) (λ⟨e,sz,rows,hx⟩ b hb'=>?_);subst hx;have hL:st.L r:=⟨e,sz,rows,hr⟩;exact ⟨rfl,λhf=>hf.elim id (λhe=>(hM.rowob r s hL hOs (he ▸ hb')).elim)⟩
 ·rcases hb with hb | hb
  ·exact hM.F b hb
  ·subst hb;exact ⟨Um h1,λhlt=>h5.elim (λh=>absurd hlt al) .inr,.inr ⟨arr,e,h1⟩⟩
 ·obtain ⟨v,h6,h7⟩:=hS.tm i hi;exact ⟨v,h6,hv h7⟩
 ·show (st.tm i).fz s cs=.undef;rw [hS.und i hi]; unfold A.fz; rfl
 ·obtain ⟨h6,h7⟩:=hS.lent i b hb;refine ⟨(hO i).2 ⟨h6,λhe=>?_⟩,h7⟩;subst he;have:i∈ls:=(hE.mem hb).1;have h8:ls.contains i=true:=by simpa using this
  rw [hl] at h8; cases h8
theorem qaT{α:Type}(a:A)(k:T->MA α)(st:St):(a.toT k).run st=((a.toT MA.ret).run st).bind λp=>(k p.1).run p.2:=by
 cases a with
 | t y=>rfl
 | nil=>rfl
 | own r =>
  simp only [A.toT,MA.run]
  cases hr:st.rw r with
  | none=>rfl
  | some row=>cases row <;> rfl
 | _=>rfl
theorem MB{α:Type}:∀ (l:Os) (k:Or->MA α) (st:St),(fg l k).run st=((fg l MA.ret).run st).bind λp=>(k p.1).run p.2
 | [],k,st=>rfl
 | a :: r,k,st=>by
  simp only [fg];rw [qaT a,qaT a (λx=>fg r λxs=>MA.ret (x :: xs)),Option.bind_assoc]
  congr 1
  funext p
  rw [MB r,MB r (λxs=>MA.ret (p.1 :: xs)),Option.bind_assoc];rfl
theorem qeO{α:Type}(l:Os){k:Or->MA α}{st st1:St}{xs:Or}(h:(fg l MA.ret).run st=ac (xs,st1)):(fg l k).run st=(k xs).run st1:=by
 rw [MB,h]; rfl
section
variable {P:Program} {n:Nat} {ls:IO} {st st':St} {p:Nat->Bool} {ρ:Nat->fi} {ops:Array Oper} {l:W2} {K:St->Prop} {o:Oper}
theorem jJ{α:Type}(f:α->Or)(xs:List α)(r i off:Nat){y:α}(y':α){t e:TypeId}{x1 x2:Operand}(v:A){sz m:Nat}(ts:Or)(ho:o.op=.store t x1 x2)(hg:jI ops st o=ac gi)(hf:fX ρ st o=gi)
  (h1:st.eval x1=ac (.elem r sz i off)) (h2:st.eval x2=ac v) (hm:jX P t=ac m) (hv:(zWg v.cells.length m && v.cells.all A.one)=gi) (hz:((fg (oB (N3 P t) v.cells) MA.ret).run st).map Prod.fst=ac ts)
  (hr:(Mz ((fg (oB (N3 P t) v.cells) MA.ret).run st)).rw r=ac (.live e sz (xs.map f))) (h:xs[i]?=ac y) (hle:zVy (off+m) (f y).length=gi) (hy:spl (f y) off ts=f y')
  (hk:ab P p ρ ops l ((({ Mz ((fg (oB (N3 P t) v.cells) MA.ret).run st) with rw:=gB (Mz ((fg (oB (N3 P t) v.cells) MA.ret).run st)).rw r (ac (.live e sz ((xs.set i y').map f))) }:St)).put o.dst .undef) K):ab P p ρ ops (o :: l) st K:=by
 simp only [sk] at hv;have hv1:=zWq hv.1;have hle':off+m<=(f y).length:=by simpa using hle
 obtain ⟨⟨ts',st1⟩,h5,h6⟩:=pa.1 hz
 cases h6
 rw [h5] at hr hk;refine ab.op (x:=.undef) hg hf ?_ hk;simp only [tl,ho,h1,h2,HZ,hm,hv1,hv.2,and_self,↓reduceIte];rw [qeO _ h5];have hr':st1.rw r=ac (.live e sz (xs.map f)):=hr;simp only [MA.run,hr',zQV,h,zWG,hle',↓reduceIte,hy,List.map_set,Mz]
theorem MC:∀ xs:gs,Jv (xs.map (aJ .u8))=ac xs
 | []=>rfl
 | x :: xs=>by simp only [zXV,aJ,Jv,MC xs]
theorem B7(xs:gs)(m:Nat){y:A}{s t e:TypeId}{x:Operand}(ho:o.op=.convert s t x)(hg:jI ops st o=ac gi)(hf:fX ρ st o=gi)
  (hx:st.eval x=ac y) (hy:((y.rows λm rows=>MA.ret (m,rows)).run st).map Prod.fst=ac (m,xs.map (aJ .u8))) (hs:P.underlying s=ac (.slice e)) (he:P.underlying e=ac (.int .u8)) (ht:P.underlying t=ac .string)
  (hk:ab P p ρ ops l (st.put o.dst (.t (.str (strOfNums xs)))) K):ab P p ρ ops (o :: l) st K:=by
 refine ab.pure (x:=.t (.str (strOfNums xs))) hg hf ?_ hk
 cases y with
 | t z =>
  cases z with
  | sl sz rows =>
   simp only [A.rows,MA.run,zWG,Option.some.injEq,Prod.mk.injEq] at hy;obtain ⟨rfl,rfl⟩:=hy;simp only [tl,ho,hx,hs,ht,he,A.rows,MC,MA.run]
  | _=>simp [A.rows,MA.run] at hy
 | _ =>
  simp only [tl,ho,hx,hs,ht,he,Ou hy,MC,MA.run]
end
section
variable {P:Program} {n:Nat} {ls:IO} {st st':St} {p:Nat->Bool} {ρ:Nat->fi} {ops:Array Oper} {l:W2} {K:St->Prop} {o:Oper}
theorem Sb(m:Bool)(d f:Nat)(caps jo:Os)(vs:List V)(s off:Nat)(outs:List (List C)){xf:Operand}{args:Array Operand}{ts:Array TypeId}
  (ho:o.op=.call { callee:=.value xf,args,argTypes:=ts }) (hd:o.dst=ac d) (hg:jI ops st o=ac gi) (hf:fX ρ st o=gi) (hxf:st.eval xf=ac (.clo f caps)) (oC:eQ (args.toList.map st.eval)=ac jo)
  (hp:((jY m p (jo++caps) MA.ret).run st).map Prod.fst=ac vs) (hc:zj P f vs off outs) (hhd:(jo++caps).head?=ac (.obj s 0)) (hr:((eC d (fh (jo++caps)) outs (MA.ret (A.obj s off))).run (Mz ((jY m p (jo++caps) MA.ret).run st))).isSome=gi)
  (hk:ab P p ρ ops l ((Mz ((eC d (fh (jo++caps)) outs (MA.ret (A.obj s off))).run (Mz ((jY m p (jo++caps) MA.ret).run st)))).put o.dst (orA ((eC d (fh (jo++caps)) outs (MA.ret (A.obj s off))).run (Mz ((jY m p (jo++caps) MA.ret).run st))))) K):ab P p ρ ops (o :: l) st K:=by
 obtain ⟨⟨vs',st1⟩,h1,h2⟩:=pa.1 hp
 cases h2
 rw [h1] at hr hk;obtain ⟨⟨x,st2⟩,h3⟩:=sr.1 hr;rw [h3] at hk;exact ab.step (.run x st2 hg hf (.callI m d f xf args ts caps jo vs' st1 outs s off ho hd hxf oC h1 hc hhd h3)) hk
end
def Zf(P:Program)(fn:Func)(args:List V)(off:Nat)(outs:List (List C))(e:Exit)(st:St):Prop :=
 (e=.ret\/e=.normal)/\∃ st1 outs0,DK P st fn.results.toList=ac [.obj 900 off]/\(FM 0 args λos=>MA.ret os).run st=ac (outs0,st1)/\Gu (Gu Zb) outs0 outs
theorem Vg{P:Program}{fn:Func}{c:Code}{f:FuncId}{args:List V}{jo:Os}{st0:St}{c0:List C}{off:Nat}{outs:List (List C)}
  (hf:P.funcs[f]?=ac fn) (hb:fn.body=ac c) (hnm:(fn.name == "runtime.NumGoroutine")=go) (hle:jo.length<=fn.ntmps) (ht:sO fn.ntmps fn=gi)
  (ha:(rn 0 args MA.ret).run dP=ac (jo,st0)) (hl:jk 0 args jo=gi) (h0:args[0]?=ac (.ptr c0))
  (h:Wp P fn.ntmps (gr 0 args) c (Zf P fn args off outs) (eE jo st0)):zj P f args off outs:=by
 refine ⟨⟨fn,hf,by simp [hb],hnm⟩,λw F vs bs hF hVV hnd hnf htb=>?_⟩
 let E:En:={ w0:=w,X:=λb=>b∈bs,F0:=F,lent:=oE 0 args vs }
 let g0:Gh:={ F:=F,ob:=λ_=>0,rw:=λ_=>.nilFunc,dw:=w }
 have hM0:io E g0 dP w:=⟨λs cells h=>Fq,λs s' h=>Fq,λr x h=>Fq,λr r' b h=>wz8,λr s h=>wz8,
  λb hb=>⟨hF b hb,λ_=>.inl hb,.inl hb⟩,rfl,rfl,rfl,zWK _,λ_ _ _=>.inl rfl,λ_ h=>h.elim,⟨rfl,rfl,rfl⟩,λ_ h=>h.elim⟩
 obtain ⟨as',st1,g1,hG,h1,hlen,hx⟩:=Hd args hM0 hVV hnd (λb hb=>⟨hnf b hb,λs hs=>(by cases hs),λr hr=>qhb,.inr hb⟩) ha;obtain ⟨rfl,rfl⟩:=gK h1;have hM1:io E g1 (eE jo st0) w:=⟨hG.mem.ob,hG.mem.obne,hG.mem.row,hG.mem.rowne,hG.mem.rowob,hG.mem.F,hG.mem.os,hG.mem.tape,hG.mem.output,hG.mem.sizes,hG.mem.frame,hG.mem.shp,hG.mem.dep0⟩;obtain ⟨hl1,hl2⟩:=Ek hl hVV hlen hx;have hS:lj E g1 fn.ntmps (eE jo st0) { tmps:=vs.toArray++zZy (fn.ntmps - vs.toArray.size) undef,defers:=[] } w:=by
  refine ⟨hM1,by simp; omega,rfl,λi hi=>?_,λi hi=>?_,hl1,λ_ h=>Fq⟩
  ·show ∃ v,_/\VR w g1 st0.O st0.R (match jo[i]? with | some a=>a | none=>.undef) v
   cases hai:jo[i]? with
   | some a =>
    obtain ⟨u,hu,hr⟩:=hx i a hai;have hlt:i < vs.length:=(ln.1 hu).1;exact ⟨u,by rw [zZQ YZ]; simpa using hu,hr⟩
   | none =>
    have hge:jo.length<=i:=KL.1 hai;refine ⟨undef,?_,.undef _⟩;rw [zYh qiL];rw [zZZ,if_pos qfv]
  ·show (match jo[i]? with | some a=>a | none=>.undef)=A.undef;rw [KL.2 al]
 refine calls_of_wp hf hb (wp_mono (h E g1 _ w ⟨⟨[],by rw [zWV]; exact (sN _ _ _).symm,KQ _ _ _,λ_ h=>Fq,λh=>Fq⟩,⟨htb.mono λb h=>h.elim id λh=>qcf⟩⟩ hS) λe a' w' ⟨g',st',hS',hR⟩=>?_);obtain ⟨he,st2,outs0,hres,hrun,hole⟩:=hR;have hfin:a'.defers=[]/\∃ v,(results fn a'.tmps).run P w'=.ok v w'/\(λe w'=>∃ v F' bo b0,e=Ending.returned v/\vs.head?=ac (.pointer (ac ⟨b0,0,cl⟩))/\v=.pointer (ac ⟨b0,off,cl⟩)/\vu w w'/\(∀ b,b < w.heap.size->b∉bs->w'.heap[b]?=w.heap[b]?)/\(∀ b,F b->F' b) /\
   (∀ b,F' b->b < w'.heap.size/\(b < w.heap.size->F b\/b∈bs)/\(F b\/Wr w' b))/\ud w' F' args vs outs bo/\bo.Nodup/\∀ b∈bo,¬ F' b/\(w.heap.size<=b\/b∈bs)) (.returned v) w':=by
  refine ⟨hS'.defers,?_⟩;obtain ⟨v,hrv,hvv⟩:=Ib hS' hres ht;refine ⟨v,hrv,?_⟩;have hM':=hS'.mem;obtain ⟨b0,hh0,hl0⟩:=hl2 0 c0 h0;have hob:=(hS'.lent _ _ hl0).2;obtain ⟨os,st3,g3,bo,hM3,hE3,hL3,h3,hO,hT3⟩:=Ej (w:=w') args hM' (us:=vs) (hVV.len.symm) (λj c hj=>by
   obtain ⟨b,h5,h6⟩:=hl2 j c hj;rw [(hS'.lent _ _ h6).2];exact h5) hrun
  obtain ⟨rfl,rfl⟩:=gK h3;have hof:∀ b∈bo,w.heap.size<=b\/b∈bs:=λb hb=>by
   rcases hT3.of b hb with ⟨r,⟨e,sz,rows,h7⟩,_,h8⟩ | ⟨s,⟨c,cs,h7⟩,_,h8⟩
   ·obtain ⟨_,_,_,_,h9⟩:=hM'.row r _ h7;exact (h9 b h8).2
   ·obtain ⟨_,_,_,_,_,_,h9⟩:=hM'.ob s _ h7;rw [h8] at h9;exact h9
  have hnF:∀ b∈bo,¬ (g3.F b\/F b):=λb hb h=>by
   rcases h with h | h
   ·exact hT3.nf b hb h
   ·rcases hof b hb with h7 | h7
    ·have:=hF b h; omega
    ·exact hnf b h7 h
  have hv:v=.pointer (ac ⟨b0,off,cl⟩):=by
   have hvv':VR w' g' st'.O st'.R (.obj 900 off) v:=hvv
   cases hvv' with
   | obj _ _ hs=>rw [hob]
  refine ⟨v,λb=>g3.F b\/F b,bo,b0,rfl,by rw [zVj]; exact hh0,hv,⟨hM3.os,hM3.tape,hM3.output,hM3.sizes⟩,λb hb hbs=>hM3.frm rfl b hb hbs,λb h=>.inr h,λb h=>?_,Oq (hO.mono (λb h=>.inl h)) hole,hT3.nodup,λb hb=>⟨hnF b hb,hof b hb⟩⟩;rcases h with h | h
  ·exact hM3.F b h
  ·exact ⟨zWW (hF b h) hM3.sizes,λ_=>.inl h,.inl h⟩
 rcases he with rfl | rfl
 ·exact hfin
 ·exact hfin
theorem SX{P:Program}{fn:Func}{c:Code}{f:FuncId}{args:List V}{c0:List C}{off:Nat}{outs:List (List C)}(jo:Os)
  (hf:P.funcs[f]?=ac fn) (hb:fn.body=ac c) (hnm:(fn.name == "runtime.NumGoroutine")=go) (hle:zVy jo.length fn.ntmps=gi) (ht:sO fn.ntmps fn=gi)
  (ha:((rn 0 args MA.ret).run dP).map Prod.fst=ac jo) (hl:jk 0 args jo=gi) (h0:args[0]?=ac (.ptr c0))
  (h:Wp P fn.ntmps (gr 0 args) c (Zf P fn args off outs) (eE jo (Mz ((rn 0 args MA.ret).run dP)))):zj P f args off outs:=by
 obtain ⟨⟨as',st0⟩,h1,h2⟩:=pa.1 ha
 cases h2
 rw [h1] at h;exact Vg hf hb hnm qce ht h1 hl h0 h
theorem qiy{P:Program}{fn:Func}{args:List V}{off:Nat}{outs:List (List C)}{st:St}(outs0:List (List C))(hres:DK P st fn.results.toList=ac [.obj 900 off])
  (ho:((FM 0 args λos=>MA.ret os).run st).map Prod.fst=ac outs0) (hle:Gu (Gu Zb) outs0 outs):Zf P fn args off outs .ret st:=by
 obtain ⟨⟨os,st1⟩,h1,h2⟩:=pa.1 ho
 cases h2
 exact ⟨.inl rfl,st1,_,hres,h1,hle⟩
def xV{α:Type}(xs ys:List α)(lo:Nat):List α:=xs.take lo++ys.take (xs.length - lo)++xs.drop (lo+min ys.length (xs.length - lo))
theorem qeP{α:Type}(f:α->Or)(xs ys:List α)(lo:Nat):qap (xs.map f) (ys.map f) lo=(xV xs ys lo).map f:=by
 simp only [qap,xV,zYk,List.map_take,List.map_drop,zWw]
def Oy(i n:Int):Bool:=decide (0<=i) && decide (i<=n)
theorem qfX{i:Int}{n:Nat}(h:Oy i n=gi):i.toNat<=n:=by
 simp only [Oy,sk,decide_eq_true_eq] at h; omega
section
variable {P:Program} {n:Nat} {ls:IO} {st st':St} {p:Nat->Bool} {ρ:Nat->fi} {ops:Array Oper} {l:W2} {K:St->Prop} {o:Oper}
theorem Yh{α:Type}(f:α->Or)(xs:List α)(r sz:Nat)(i:Int){t e e':TypeId}{x:Operand}{lo:Option Operand}{alo:Option A}(ho:o.op=.slice t x lo cl cl)(hg:jI ops st o=ac gi)(hf:fX ρ st o=gi)(hx:st.eval x=ac (.own r))
  (hlo:Qq st.eval lo=ac alo) (hl:C5 0 alo=ac i) (hr:st.rw r=ac (.live e' sz (xs.map f))) (hu:P.underlying t=ac (.slice e)) (hs:jX P e=ac sz) (hw:qdI ρ o.dst=gi) (h:Oy i xs.length=gi)
  (hk:ab P p ρ ops l (st.put o.dst (.sub r sz i.toNat)) K):ab P p ρ ops (o :: l) st K:=by
 simp only [Oy,sk,decide_eq_true_eq] at h;refine ab.pure (x:=.sub r sz i.toNat) hg hf ?_ hk;have hhi:Qq st.eval (none:Option Operand)=ac none:=rfl;simp only [tl,ho,hx,hlo,hhi,qem,hw,Option.isNone_none,zXG,Bool.true_or,XX,hu,hl,hs,MA.run,hr,zWw,h.1,h.2,and_self,↓reduceIte]
theorem Vh{α:Type}(f:α->Or)(xs ys:List α)(r lo m:Nat){t t' e e':TypeId}{a b:Operand}{y:A}{args:Array Operand}{ts:Array TypeId}(ho:o.op=.call { callee:=.builtin .copy,args,argTypes:=ts })(hargs:args.toList=[a,b])(hts:ts.toList=[t,t'])(hg:jI ops st o=ac gi)(hf:fX ρ st o=gi)
  (ha:st.eval a=ac (.sub r 1 lo)) (hb:st.eval b=ac y) (hy:((y.rows λm rows=>MA.ret (m,rows)).run st).map Prod.fst=ac (m,ys.map f)) (hm:m=1\/ys.map f=[]) (hr:st.rw r=ac (.live e' 1 (xs.map f))) (hu:P.underlying t=ac (.slice e)) (hs:jX P e=ac 1) (h:lo<=xs.length)
  (hk:ab P p ρ ops l ((({ st with rw:=gB st.rw r (ac (.live e' 1 ((xV xs ys lo).map f))) }:St)).put o.dst (.t (.int .i64 (min ys.length (xs.length - lo):Nat)))) K):ab P p ρ ops (o :: l) st K:=by
 refine ab.op (x:=.t (.int .i64 (min ys.length (xs.length - lo):Nat))) hg hf ?_ hk;simp only [tl,ho,hargs,ha,hb,hts,Mr,hu,hs,and_self,↓reduceIte];rw [Ou hy];simp only [hm,↓reduceIte,MA.run,hr,zWw,h,and_self,qeP]
end
end Go.Tm
namespace Go.Tm.Pu
theorem wrap_i64{n:Int}(h1:-9223372036854775808<=n)(h2:n<=9223372036854775807):ld .i64 n=n:=Go.IntWalk.i64_in n ⟨h1,h2⟩
theorem FN(n:Int):ld .u8 n=n % 256:=by simp [ld,IntKind.bits,IntKind.signed]
theorem dE{a b:Int}(h1:-9223372036854775808<=a+b)(h2:a+b<=9223372036854775807):aS .i64 a b=a+b:=wrap_i64 h1 h2
theorem db{a b:Int}(h1:-9223372036854775808<=a - b)(h2:a - b<=9223372036854775807):ew .i64 a b=a - b:=wrap_i64 h1 h2
theorem mp{a b:Int}(h1:-9223372036854775808<=a*b)(h2:a*b<=9223372036854775807):jD .i64 a b=a*b:=wrap_i64 h1 h2
theorem fa{i:Nat}(h:i < 9223372036854775807):aS .i64 (i:Int) 1=((i+1:Nat):Int):=by
 rw [dE al al]; simp
theorem ET{a b:Int}(h:0<=a):rU .i64 a b=a % b:=by
 unfold rU; exact zYQ h
theorem Vi{a b:Int}(h:0<=a)(hb:0 < b)(h2:a<=9223372036854775807):Xf .i64 a b=a / b:=by
 unfold Xf;rw [Int.tdiv_eq_ediv_of_nonneg h];have h3:0<=a / b:=Int.ediv_nonneg h al;have h4:a / b<=a:=Int.ediv_le_self b h;exact wrap_i64 al al
theorem Zg(k:IntKind)(a:Int)(n:Nat)(h:n<=k.bits):ng k a (n:Int)=a / 2 ^ n:=by
 unfold ng;rw [show min (sY (n:Int)) k.bits=n by simp; omega];exact Int.fdiv_eq_ediv_of_nonneg a (by exact_mod_cast zZv (2 ^ n))
theorem qiz(a:Int):ng .i64 a 7=a / 128:=Zg .i64 a 7 BL
theorem qjx(a:Int):ng .i64 a 8=a / 256:=Zg .i64 a 8 BL
theorem bp{p:Prop}[Decidable p](h:p):dW (decide p)=ac ():=by simp [dW,h]
theorem Hf:dW gi=ac ():=rfl
theorem cj{α:Type}(xs:List α)(i:Nat):cM xs (i:Int)=xs[i]?:=by simp [cM]
def rr{σ ρ:Type}(fin:σ->Option ρ)(body:Nat->σ->(σ->Option ρ)->Option ρ):Nat->Nat->σ->Option ρ
 | 0,_,s=>fin s
 | n+1,i,s=>body i s (rr fin body n (i+1))
theorem qhA{σ ρ:Type}{fin:σ->Option ρ}{body:Nat->σ->(σ->Option ρ)->Option ρ}{n:Int}(L:Nat->σ->Int->Option ρ)(hn:n<=9223372036854775807)
  (hL:∀ (k:Nat) (s:σ) (i:Nat),L (k+1) s (i:Int)=bif decide ((i:Int) < n) then body i s (λs'=>L k s' (aS .i64 (i:Int) 1)) else fin s) :
  ∀ (m k i:Nat) (s:σ),i+m=n.toNat\/(m=0/\n<=i)->m < k->L k s (i:Int)=rr fin body m i s:=by
 intro m
 induction m with
 | zero =>
  intro k i s hi hk;obtain ⟨k,rfl⟩:∃ j,k=j+1:=⟨k - 1,by omega⟩;rw [hL];have:¬ ((i:Int) < n):=by omega
  simp [this,rr]
 | succ m ih =>
  intro k i s hi hk;obtain ⟨k,rfl⟩:∃ j,k=j+1:=⟨k - 1,by omega⟩;rw [hL];have:(i:Int) < n:=by omega
  simp only [this,decide_true,cond_true];show body i s _=body i s (rr fin body m (i+1))
  congr 1
  funext s'
  rw [fa al];exact ih k (i+1) s' al al
theorem ue{σ ρ:Type}{fin:σ->Option ρ}{body:Nat->σ->(σ->Option ρ)->Option ρ}{n:Int}(L:Nat->σ->Int->Option ρ)(hn:n<=9223372036854775807)
  (hL:∀ (k:Nat) (s:σ) (i:Nat),L (k+1) s (i:Int)=bif decide ((i:Int) < n) then body i s (λs'=>L k s' (aS .i64 (i:Int) 1)) else fin s)
  {k:Nat} (s:σ) (hk:n.toNat < k):L k s 0=rr fin body n.toNat 0 s:=by
 have:=qhA L hn hL n.toNat k 0 s al hk
 simpa using this
def bT{α σ ρ:Type}(fin:σ->Option ρ)(body:α->Nat->σ->(σ->Option ρ)->Option ρ):List α->Nat->σ->Option ρ
 | [],_,s=>fin s
 | x :: xs,i,s=>body x i s (bT fin body xs (i+1))
theorem qaU{α σ ρ:Type}{fin:σ->Option ρ}{body:α->Nat->σ->(σ->Option ρ)->Option ρ}{xs:List α}(L:Nat->σ->Int->Option ρ)(hn:xs.length<=9223372036854775807)
  (hL:∀ (k:Nat) (s:σ) (i:Nat),L (k+1) s (i:Int)=bif decide ((i:Int) < (xs.length:Int)) then (cM xs (i:Int)).bind λx=>body x i s (λs'=>L k s' (aS .i64 (i:Int) 1)) else fin s) :
  ∀ (ys:List α) (k i:Nat) (s:σ),ys=xs.drop i->ys.length < k->L k s (i:Int)=bT fin body ys i s:=by
 intro ys
 induction ys with
 | nil =>
  intro k i s hi hk;obtain ⟨k,rfl⟩:∃ j,k=j+1:=⟨k - 1,by omega⟩;rw [hL];have:¬ ((i:Int) < (xs.length:Int)):=by
   have:=congrArg zZX hi;simp at this;omega
  simp [this,bT]
 | cons y ys ih =>
  intro k i s hi hk;obtain ⟨k,rfl⟩:∃ j,k=j+1:=⟨k - 1,by omega⟩;rw [hL];have hlt:i < xs.length:=by
   have:=congrArg zZX hi;simp at this;omega
  have hx:xs[i]?=ac y:=by
   have:=congrArg zZq hi
   simpa [zXh] using this.symm
  have hys:ys=xs.drop (i+1):=by
   have:=congrArg zZz hi
   simpa [zYK] using this
  have:(i:Int) < (xs.length:Int):=by omega
  simp only [this,decide_true,cond_true,cj,hx,wk];show body y i s _=body y i s (bT fin body ys (i+1))
  congr 1
  funext s'
  rw [fa al];simp only [zQw] at hk;exact ih k (i+1) s' hys al
theorem cn{α σ ρ:Type}{fin:σ->Option ρ}{body:α->Nat->σ->(σ->Option ρ)->Option ρ}{xs:List α}(L:Nat->σ->Int->Option ρ)(hn:xs.length<=9223372036854775807)
  (hL:∀ (k:Nat) (s:σ) (i:Nat),L (k+1) s (i:Int)=bif decide ((i:Int) < (xs.length:Int)) then (cM xs (i:Int)).bind λx=>body x i s (λs'=>L k s' (aS .i64 (i:Int) 1)) else fin s)
  {k:Nat} (s:σ) (hk:xs.length < k):L k s 0=bT fin body xs 0 s:=by
 have:=qaU L hn hL xs k 0 s ig hk
 simpa using this
end Go.Tm.Pu
namespace Go.Tm
def qcy(i j n m:Int):Bool:=decide (0<=i) && decide (i<=j) && decide (j<=n) && decide (m<=j - i)
theorem qjY{i j:Int}{n m:Nat}(h:qcy i j n m=gi):sY i+sY (j - i)<=n:=by
 simp only [qcy,sk,decide_eq_true_eq] at h;omega
theorem qjZ{i j:Int}{n m:Nat}(h:qcy i j n m=gi):m<=sY (j - i):=by
 simp only [qcy,sk,decide_eq_true_eq] at h;omega
end Go.Tm
namespace Go.Tm
open Go
theorem oi{α:Type}{a b:α}(h:ac a=ac b):a=b:=Option.some.inj h
theorem kr{p:Prop}(h:p:=by kernel_rfl):p:=h
section
variable {P:Program} {n:Nat} {ls:IO} {Q:Exit->St->Prop} {N:St->Prop} {st st':St} {c x y:Code} {p:Nat->Bool} {ρ:Nat->fi} {ops:Array Oper} {l:W2} {K:St->Prop} {o:Oper}
theorem kD(s:Sx)(h:Wp P n ls c Q s.st)(hok:s.ok n ls [] []=true:=by kernel_rfl)(ht:s.tm.map (λq=>st.tm q.1)=s.tm.map (λq=>q.2.ren (Gt []) (Gt [])):=by kernel_rfl)
  (ho:s.ob.map (λq=>st.ob (Gt [] q.1))=s.ob.map (λq=>ac (xh (Gt []) (Gt []) q.2)):=by kernel_rfl) (hr:s.rw.map (λq=>st.rw (Gt [] q.1))=s.rw.map (λq=>ac q.2):=by kernel_rfl):Wp P n ls c Q st :=
 Wp.le (Le.of (s:=s) (mo:=[]) (mr:=[]) hok ht ho hr) h
theorem cz{id:Nat}(p:IO)(ρ:List (Nat×fi))(h:ab P (SW p) (lh ρ) ops ops.toList st (Q .normal))(hok:ops.toList.all (rq n)=true:=by kernel_rfl):Wp P n ls (.region id ops go) Q st :=
 Id (SW p) (lh ρ) hok h
theorem Zh{id:Nat}(p:IO)(ρ:List (Nat×fi))(h:ab P (SW p) (lh ρ) ops ops.toList st (Bo (Wp P n ls y Q) Q .normal))(hok:ops.toList.all (rq n)=true:=by kernel_rfl):Wp P n ls (.seq (.region id ops go) y) Q st :=
 ap (Id (SW p) (lh ρ) hok h)
theorem ae(hr:N (St.or (qv P ρ ops l st)))(h:(qv P ρ ops l st).isSome=true:=by kernel_rfl):ab P p ρ ops l st (Bo N Q .normal) :=
 ab.all h (cq hr)
theorem ag{id:Nat}(h:Wp P n ls y Q (St.or (qv P (lh []) ops ops.toList st)))(h1:(qv P (lh []) ops ops.toList st).isSome=true:=by kernel_rfl)(hd:ops.toList.all (rq n)=true:=by kernel_rfl):Wp P n ls (.seq (.region id ops go) y) Q st :=
 Zh [] [] (ae h h1) hd
theorem aq{α:Type}{o:Operand}{b:Bool}{e1 e2 r:α}(h:(bif b then e1 else e2)=r)(ht:e1=r->Wp P n ls x Q st)(hf:e2=r->Wp P n ls y Q st)(ho:st.eval o=ac (.t (.bool b)):=by kernel_rfl):Wp P n ls (.cond o x y) Q st :=
 qfT ho (λhc=>ht (Vc h hc)) (λhc=>hf (Vd h hc))
theorem aM(h:N st){Q:Exit->St->Prop}:Wp P n ls .skip (Bo N Q) st:=eO (cq h)
end
abbrev A.s(x:gs):A:=.t (.sl 1 (x.map (aJ .u8)))
abbrev C.s(x:gs):C:=.t (.sl 1 (x.map (aJ .u8)))
abbrev A.i(n:Int):A:=.t (.int .i64 n)
abbrev A.b(b:Bool):A:=.t (.bool b)
abbrev C.i(n:Int):C:=.t (.int .i64 n)
end Go.Tm
namespace Go.Tm
open Go.RowKit
section
variable {P:Program} {n:Nat} {ls:IO} {st st1:St}
theorem qcz(t r sz:Nat)(rows:it)(ht:st.tm t=.own r)(hr:st.rw r=ac (.frz sz rows))(hlt:zKX t n=gi) :
  Le n ls st (st.put (ac t) (.t (.sl sz rows))) :=
 Zc rfl (λE g w v hM hv=>by
  rw [ht] at hv
  cases hv with
  | own _ hR =>
   have h3:Rd w _ (.sl sz rows) (g.rw r):=hM.row r (.frz sz rows) hr;exact ⟨g,hM,vO.refl _ _ _ _,.t _ _ h3⟩) YZ
theorem Zi(s j r sz:Nat)(cells:Os)(rows:it)(hs:st.ob s=ac cells)(hj:cells[j]?=ac (.own r))(hr:st.rw r=ac (.frz sz rows)) :
  Le n ls st { tm:=st.tm,ob:=gB st.ob s (ac (cells.set j (.t (.sl sz rows)))),rw:=st.rw } :=
 Le.mem rfl λE g w hM=>by
  have h3:Rd w _ (.sl sz rows) (g.rw r):=hM.row r (.frz sz rows) hr;have hO:=Va (cells':=cells.set j (.t (.sl sz rows))) hs;refine ⟨g,hM.reob hs (cells':=cells.set j (.t (.sl sz rows))) ig (λi x' hi=>?_),?_⟩
  ·by_cases he:j=i
   ·subst he;refine ⟨.own r,hj,λv _ hv=>?_⟩;have hlt:j < cells.length:=(ln.1 hj).1;rw [zZW hlt] at hi
    cases hi
    cases hv
    exact ⟨rfl,.t _ _ h3⟩
   ·rw [zZK he] at hi;exact ⟨x',hi,λv h1 h2=>⟨h1,h2⟩⟩
  ·have h2:=vO.refl w g st.O st.R;refine ⟨h2.same,h2.F,λs hs=>?_,h2.R,h2.d,h2.s⟩;have:=h2.O s hs;exact ⟨by rw [<- hO] at this; exact this.1,this.2⟩
end
section
variable {P:Program} {n:Nat} {ls:IO} {st st1:St}
theorem Uv(t sz:Nat)(rows:it)(ht:st.tm t=.nn sz rows)(hlt:zKX t n=gi):Le n ls st (st.put (ac t) (.t (.sl sz rows))) :=
 Zc rfl (λE g w v hM hv=>by
  rw [ht] at hv
  cases hv with
  | nn _ _ _ hr _=>exact ⟨g,hM,vO.refl _ _ _ _,.t _ _ hr⟩) YZ
end
theorem B8{P:Program}{fn:Func}{c:Code}{f:FuncId}{sz:Nat}{rows:it}{m:Bool}{res:V}
  (hf:P.funcs[f]?=ac fn) (hb:fn.body=ac c) (hnm:(fn.name == "runtime.NumGoroutine")=go) (hle:1<=fn.ntmps) (ht:sO fn.ntmps fn=gi)
  (hN:rows=[]->Wp P fn.ntmps [] c (DL P m fn [] res []) (eE [.nil] dP)) (hS:Wp P fn.ntmps [] c (DL P m fn [] res []) (eE [.nn sz rows] dP)):aB P f [.one (.t (.sl sz rows))] res []:=by
 refine ⟨⟨fn,hf,by simp [hb],hnm⟩,λw F vs bs hF hVV hnd hnf htb=>?_⟩
 cases hVV with
 | cons _ v b _ vs bs h1 hs =>
  cases hs
  cases h1 with
  | one _ _ _ h1=>cases h1 with
   | t _ _ h1 =>
    let E:En:={ w0:=w,X:=ST,F0:=F,lent:=[] }
    let g0:Gh:={ F:=F,ob:=λ_=>0,rw:=λ_=>.nilFunc,dw:=w }
    have main:∀ x:A,VR w g0 ST ST x v->Wp P fn.ntmps [] c (DL P m fn [] res []) (eE [x] dP)->Calls P f #[v] w λe w'=>∃ v' F' bv bo,e=.returned v'/\vu w w'/\(∀ b,b < w.heap.size->b∉([]:IO)->w'.heap[b]?=w.heap[b]?)/\(∀ b,F b->F' b) /\
      (∀ b,F' b->b < w'.heap.size/\(b < w.heap.size->F b\/b∈([]:IO))/\(F b\/Wr w' b))/\VV w' F' res v' bv/\ud w' F' [.one (.t (.sl sz rows))] [v] [] bo/\(bv++bo).Nodup/\∀ b∈bv++bo,¬ F' b/\(w.heap.size<=b\/b∈([]:IO)):=by
     intro x hx hW;have hM0:io E g0 (eE [x] dP) w:=⟨λs cells h=>Fq,λs s' h=>Fq,λr x h=>Fq,λr r' b h=>wz8,λr s h=>wz8,
      λb hb=>⟨hF b hb,λ_=>.inl hb,.inl hb⟩,rfl,rfl,rfl,zWK _,λ_ _ _=>.inl rfl,λ_ h=>h.elim,⟨rfl,rfl,rfl⟩,λ_ h=>h.elim⟩
     have hSim:=Qy (vs:=[v]) (n:=fn.ntmps) hM0 rfl qce (λj y hj=>by
      cases j with
      | zero=>simp at hj; subst hj; exact ⟨v,rfl,hx.mono ⟨λ_ _=>rfl,λ_ h=>h,λ_ h=>h.elim,λ_ h=>h.elim,⟨rfl,rfl,rfl⟩,rfl,rfl⟩⟩
      | succ j=>simp at hj) rfl (λv h=>Fq)
     refine calls_of_wp hf hb (wp_mono (hW E g0 _ w ⟨⟨[],rfl,λ_ h=>Fq,λ_ h=>Fq,λh=>Fq⟩,⟨htb.mono λb h=>h.elim (λh=>h.elim) λh=>qcf⟩⟩ hSim) λe a' w' ⟨g',st',hS',hR⟩=>?_);obtain ⟨he,l,st2,res0,outs0,hres,hrun,hvle,hole⟩:=hR;have hfin:a'.defers=[]/\∃ v',(results fn a'.tmps).run P w'=.ok v' w'/\(λe w'=>∃ v' F' bv bo,e=Ending.returned v'/\vu w w'/\(∀ b,b < w.heap.size->b∉([]:IO)->w'.heap[b]?=w.heap[b]?)/\(∀ b,F b->F' b) /\
       (∀ b,F' b->b < w'.heap.size/\(b < w.heap.size->F b\/b∈([]:IO))/\(F b\/Wr w' b))/\VV w' F' res v' bv/\ud w' F' [.one (.t (.sl sz rows))] [v] [] bo/\(bv++bo).Nodup/\∀ b∈bv++bo,¬ F' b/\(w.heap.size<=b\/b∈([]:IO))) (.returned v') w':=by
      refine ⟨hS'.defers,?_⟩;obtain ⟨v',hrv,hvv⟩:=Ib hS' hres ht;refine ⟨v',hrv,?_⟩;have hM':=hS'.mem;simp only [FM] at hrun;obtain ⟨c',st4,g4,bv,hM4,hE4,hL4,h4,hv4,hT4⟩:=JG hM' hvv hrun;obtain ⟨h5,rfl⟩:=gK h4;injection h5 with h5 h6
      subst h5 h6;have hof:∀ b∈bv,w.heap.size<=b:=λb hb=>by
       rcases hT4.of b hb with ⟨r,⟨e,sz,rows,h7⟩,_,h8⟩ | ⟨s,⟨c,cs,h7⟩,_,h8⟩
       ·obtain ⟨_,_,_,_,h9⟩:=hM'.row r _ h7;exact (h9 b h8).2.resolve_right (λh=>h)
       ·obtain ⟨_,_,_,_,_,_,h9⟩:=hM'.ob s _ h7;rw [h8] at h9;exact h9.resolve_right (λh=>h)
      refine ⟨v',λb=>g4.F b\/F b,bv,[],rfl,⟨hM4.os,hM4.tape,hM4.output,hM4.sizes⟩,λb hb _=>hM4.frm rfl b hb (λh=>h),λb h=>.inr h,λb h=>?_,hvle.vv (hv4.mono (λ_ _=>rfl) (λ_ h=>.inl h) (λ_ _=>rfl)),.skip _ _ _ _ _ _ (λc h=>by cases h) .nil,by rw [zWV]; exact hT4.nodup,λb hb=>?_⟩
      ·rcases h with h | h
       ·obtain ⟨h7,h8,h9⟩:=hM4.F b h;exact ⟨h7,λhlt=>.inl ((h8 hlt).elim id (λh=>h.elim)),h9⟩
       ·exact ⟨zWW (hF b h) hM4.sizes,λ_=>.inl h,.inl h⟩
      ·rw [zWV] at hb;refine ⟨λh=>?_,.inl (hof b hb)⟩;rcases h with h | h
       ·exact hT4.nf b hb h
       ·have:=hF b h; have:=hof b hb; omega
     rcases he with rfl | rfl
     ·exact hfin
     ·exact hfin
    generalize hq:rows=q at h1
    cases h1 with
    | sl0 sz a cc ha =>
     cases a with
     | none =>
      subst hq;have hcc:=ha rfl;subst hcc;exact main .nil .nil (hN rfl)
     | some a =>
      subst hq;exact main (.nn sz []) (.nn sz [] _ (.sl0 sz (ac a) cc ha) ⟨a,0,cc,rfl⟩) hS
    | sl sz rows b off cc u h2 h3 h4 h5 h6 =>
     subst hq;exact main (.nn sz rows) (.nn sz rows _ (.sl sz rows b off cc u h2 h3 h4 h5 h6) ⟨_,_,_,rfl⟩) hS
section
variable {P:Program} {n:Nat} {ls:IO} {Q:Exit->St->Prop} {st st':St} {p:Nat->Bool} {ρ:Nat->fi} {ops:Array Oper} {l:W2} {K:St->Prop} {o:Oper}
theorem Sc(d f:Nat)(caps jo:Os)(vs:List V)(res:V){xf:Operand}{args:Array Operand}{ts:Array TypeId}
  (ho:o.op=.call { callee:=.value xf,args,argTypes:=ts }) (hd:o.dst=ac d) (hg:jI ops st o=ac gi) (hf:fX ρ st o=gi) (hxf:st.eval xf=ac (.clo f caps)) (oC:eQ (args.toList.map st.eval)=ac jo)
  (hp:((fj (jo++caps) MA.ret).run st).map Prod.fst=ac vs) (hc:mx P f vs res) (hr:((V.toA d (ip d 0) res MA.ret).run st).isSome=gi)
  (hk:ab P p ρ ops l ((Mz ((V.toA d (ip d 0) res MA.ret).run st)).put o.dst (orA ((V.toA d (ip d 0) res MA.ret).run st))) K):ab P p ρ ops (o :: l) st K:=by
 obtain ⟨⟨vs',st1⟩,h1,h2⟩:=pa.1 hp
 cases h2
 have hst:st1=st:=by
  have:=(ro (fj (jo++caps) MA.ret) (wH (D:=⟨λ_=>True,λ_=>False,λ_=>True,λ_=>False⟩) (vz (λ_=>trivial) _) (λ_=>trivial)) h1).1;exact St.ext this.tm (funext λs=>this.ob s (λh=>h)) (funext λs=>this.rw s (λh=>h))
 subst hst;obtain ⟨⟨x,st2⟩,h3⟩:=sr.1 hr;rw [h3] at hk;exact ab.step (.run x st2 hg hf (.callD d f xf args ts caps jo vs' res ho hd hxf oC h1 hc h3)) hk
theorem dU{α:Type}(f:α->Or)(xs:List α)(i:Int)(s:Bool){y:α}{t e:TypeId}{a b:Operand}{sz:Nat}{kk:IntKind}(ho:o.op=.indexAddr t a b)(hg:jI ops st o=ac gi)(hf:fX ρ st o=gi)
  (ha:st.eval a=ac (.ext s (.sl sz (xs.map f)))) (hb:st.eval b=ac (.t (.int kk i))) (hu:P.underlying t=ac (.slice e)) (hs:jX P e=ac sz) (h:cM xs i=ac y) (hk:ab P p ρ ops l (st.put o.dst (.exa s (f y))) K):ab P p ρ ops (o :: l) st K:=by
 obtain ⟨h0,h1⟩:=bL h;refine ab.pure (x:=.exa s (f y)) hg hf ?_ hk;simp only [tl,ho,ha,hb];unfold nK;simp only [hu,hs,N6,h0,and_self,↓reduceIte,zQV,h1,zWG,true_and,MA.run]
theorem fM(k:IntKind)(m:Nat)(xs:gs):(((A.ext go (.sl m (xs.map (aJ k)))).rows λm rows=>MA.ret (m,rows)).run st).map Prod.fst=ac (m,xs.map (aJ k)):=qfV (k:=k) (f:=aJ k) λ_=>rfl
end
section
variable {P:Program} {E:En} {g:Gh} {st st':St} {a:Act} {w w':World} {n:Nat}
variable {p:Nat->Bool} {ρ:Nat->fi} {ops:Array Oper} {o:Oper} {ls:IO} {Q:Exit->St->Prop}
theorem qhB(k:IntKind)(xs:gs):∀ row∈xs.map (aJ k),∀ x∈row,T.sc x=true:=by
 intro row hr x hx;obtain ⟨n,_,rfl⟩:=List.mem_map.1 hr;simp [aJ] at hx;subst hx;rfl
theorem bM{fn:Func}{c:Code}{f:FuncId}{args:List V}{m:Bool}{res:V}
  (hf:P.funcs[f]?=ac fn) (hb:fn.body=ac c) (hnm:(fn.name == "runtime.NumGoroutine")=go) (hle:zVy args.length fn.ntmps=gi) (ht:sO fn.ntmps fn=gi)
  (h:Wp P fn.ntmps [1] c (DL P m fn [] res []) (eE (args.map V.toX) dP)):mx P f args res:=qaO hf hb hnm qce ht h
end
end Go.Tm
