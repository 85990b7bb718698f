/- The abstract machine over data trees, and that it tells the truth of the translated code. -/
import Derived.Orders
import Derived.ChangeOld
import Derived.ChangeArms
import Derived.Carry
import Derived.OpenShut
import Derived.IntWalk
import Derived.JoinedOf
import Derived.Test.YtdcoelkflgpfgaaGreatCFnWiresF1
set_option linter.unusedVariables false
set_option linter.unusedSimpArgs false
open Array renaming getElem?_append_left->zYv,getElem?_append_right->zYx,getElem?_eq_getElem->zXQ,getElem?_replicate->zZQ,getElem?_toList->zWK,replicate->zZK,toArray_toList->zWZ
open Bool renaming and_eq_true->sk,false_eq_true->zQk,true_and->zWG
open Int renaming tmod_eq_emod_of_nonneg->zXK,toNat->sY
open List renaming append_nil->zWj,cons_append->zXk,drop_eq_getElem_cons->zXG,eq_nil_of_length_eq_zero->rg,foldl_cons->zXz,getElem?_append->zWH,getElem?_append_left->r0,getElem?_append_right->zQY,getElem?_cons_zero->zWW,getElem?_drop->zQw,getElem?_eq_getElem->sX,getElem?_map->zQZ,getElem?_of_mem->zYh,getElem?_take->zQq,head?->zYG,head?_drop->zXV,length->zYK,length_append->zQJ,length_cons->zQV,length_map->zYY,map_congr_left->zWv,map_cons->zWg,mem_append_left->zZh,mem_cons_of_mem->zQv,mem_cons_self->zQj,mem_map->zXg,mem_of_getElem?->zQX,mem_singleton->zQx,nil_append->zQy,nodup_append->zXJ,range->zWz,range'->zXX,range_eq_range'->zXy,replicate->zQH,size_toArray->zYJ,tail->zYk,tail_drop->zXq,take_append_drop->zXj
open Nat renaming add_assoc->zYg,beq->zXw,eq_of_beq_eq_true->zWy,le_refl->zWq,le_trans->zWx,lt_of_lt_of_le->zQg,zero_add->zWV,zero_le->zZJ
open Option renaming bind_some->wk,map_eq_some_iff->zWk,map_some->zWX
namespace Go.Tm
open Go.RowKit
section
variable {P:Program} {E:En} [Tb P E] {g:Gh} {st st':St} {a:Act} {w:World}
def Gh.all(g:Gh)(st:St)(b:Nat):Prop:=g.F b\/(∃ r,st.L r/\(g.rw r).ownBlock=some b)\/(g.sh=false/\g.D b)
theorem fe.all_lt(hM:fe E g st w){b:Nat}(hb:g.all st b):b < w.heap.size:=by
 rcases hb with hb | ⟨r,hL,hb⟩ | ⟨_,hb⟩
 ·exact (hM.F b hb).1
 ·exact hM.row_lt hL hb
 ·exact zQg (hM.dep b hb).2.1 hM.sizes
theorem Nc{α:Type}{x:A}{k:T->MA α}{y:α}{v:Value}(hM:fe E g st w)(hv:VR w g st.O st.R x v)(h:(x.peekT k).run st=some (y,st')):∃ t,(k t).run st=some (y,st')/\Rd w (g.all st) t v:=by
 cases hv with
 | t x v h1=>exact ⟨x,h,h1.mono (λ_ _=>rfl) (λ_ h=>.inl h)⟩
 | ext s x v hs h1 =>
  cases s with
  | true=>simp [A.peekT,MA.run] at h
  | false=>exact ⟨x,h,h1.rd (hM.now hs) (λ_ h=>.inr (.inr ⟨hs,h⟩))⟩
 | nil=>exact ⟨_,h,.sl0 _ _ _ (by first | assumption | exact λ_=>rfl | (intro h; cases h))⟩
 | own r hr =>
  simp only [A.peekT,MA.run] at h
  cases hx:st.rw r with
  | none=>simp [hx,MA.run] at h
  | some x =>
   cases x with
   | live e sz rows =>
    simp only [hx] at h;exact ⟨_,h,(hM.row r _ hx).rd _ (λ_ h=>.inl h) (λb hb=>.inr (.inl ⟨r,⟨e,sz,rows,hx⟩,hb⟩))⟩
   | frz sz rows =>
    simp only [hx] at h;exact ⟨_,h,Rd.mono (hM.row r _ hx) (λ_ _=>rfl) (λ_ h=>.inl h)⟩
   | gone=>simp [hx,MA.run] at h
 | _=>simp [A.peekT,MA.run] at h
theorem KC{α:Type}:∀ {l:List A} {k:List T->MA α} {y:α} {vs:List Value},fe E g st w->vs.length=l.length->(∀ (j:Nat) (x:A),l[j]?=some x->∃ u,vs[j]?=some u/\VR w g st.O st.R x u)->(Fv l k).run st=some (y,st') ->
  ∃ ts,(k ts).run st=some (y,st')/\JZ w (g.all st) (ts.map .t) vs []
 | [],k,y,vs,hM,hl,hv,h=>by
  have:vs=[]:=rg hl;subst this;exact ⟨[],h,.nil⟩
 | x :: l,k,y,vs,hM,hl,hv,h=>by
  obtain ⟨v,vs,rfl⟩:∃ v vs',vs=v :: vs':=by
   cases vs with
   | nil=>simp at hl
   | cons v vs=>exact ⟨v,vs,rfl⟩
  obtain ⟨u,hu,hx⟩:=hv 0 x rfl;simp at hu;subst hu;obtain ⟨t,h1,hr⟩:=Nc hM hx h;obtain ⟨ts,h2,hc⟩:=KC hM (by simpa using hl) (λj y hy=>by
   obtain ⟨u,hu,hx⟩:=hv (j+1) y (by simpa using hy);exact ⟨u,by simpa using hu,hx⟩) h1
  exact ⟨t :: ts,h2,.cons _ _ [] _ _ [] (.t _ _ hr) hc⟩
mutual
theorem SH{α:Type}:∀ (x:A) {k:V->MA α} {y:α} {v:Value},fe E g st w->VR w g st.O st.R x v->(iF x k).run st=some (y,st')->∃ c,(k c).run st=some (y,st')/\VV w (g.all st) c v []:=by
 intro x k y v hM hv h;unfold iF at h
 split at h
 ·rename_i l
  cases hv with
  | agg l vs hl hx =>
   obtain ⟨ts,h1,hc⟩:=KC hM hl.symm (λj x hj=>⟨_,sX (by rw [<- hl]; exact (List.getElem?_eq_some_iff.1 hj).1),hx j x _ hj (sX (by rw [<- hl]; exact (List.getElem?_eq_some_iff.1 hj).1))⟩) h;exact ⟨_,h1,.agg _ vs [] hc⟩
 ·rename_i ts
  cases hv with
  | fadr cells b off u hF hx hr=>exact ⟨_,h,.fptr ts b off u (.inl hF) hx (λj x hj=>(hr j x hj).mono (λ_ _=>rfl) (λ_ h=>.inl h))⟩
 ·rename_i f caps
  cases hv with
  | clo f caps vs hl hx =>
   obtain ⟨cs,h1,hc⟩:=uG caps hM hl.symm (λj x hj=>⟨_,sX (by rw [<- hl]; exact (List.getElem?_eq_some_iff.1 hj).1),hx j x _ hj (sX (by rw [<- hl]; exact (List.getElem?_eq_some_iff.1 hj).1))⟩) h;exact ⟨_,h1,.clo f cs vs [] hc⟩
 ·obtain ⟨t,h1,hr⟩:=Nc hM hv h;exact ⟨_,h1,.one _ v [] (.t _ _ hr)⟩
theorem uG{α:Type}:∀ (l:List A) {k:List V->MA α} {y:α} {vs:List Value},fe E g st w->vs.length=l.length->(∀ (j:Nat) (x:A),l[j]?=some x->∃ u,vs[j]?=some u/\VR w g st.O st.R x u)->(dQ l k).run st=some (y,st')->∃ cs,(k cs).run st=some (y,st')/\By w (g.all st) cs vs []
 | [],k,y,vs,hM,hl,hv,h=>by
  have:vs=[]:=rg hl;subst this;unfold dQ at h;exact ⟨[],h,.nil⟩
 | x :: l,k,y,vs,hM,hl,hv,h=>by
  obtain ⟨v,vs,rfl⟩:∃ v vs',vs=v :: vs':=by
   cases vs with
   | nil=>simp at hl
   | cons v vs=>exact ⟨v,vs,rfl⟩
  obtain ⟨u,hu,hx⟩:=hv 0 x rfl;simp at hu;subst hu;unfold dQ at h;obtain ⟨c,h1,hc⟩:=SH x hM hx h;obtain ⟨cs,h2,hcs⟩:=uG l hM (by simpa using hl) (λj y hy=>by
   obtain ⟨u,hu,hx⟩:=hv (j+1) y (by simpa using hy);exact ⟨u,by simpa using hu,hx⟩) h1
  exact ⟨c :: cs,h2,.cons _ _ [] _ _ [] hc hcs⟩
end
theorem Rd.sc{F F':Nat->Prop}{x:T}{v:Value}(h:Rd w F x v)(hx:x.sc=true):Rd w F' x v:=by
 cases h with
 | int k n=>exact .int k n
 | bool b=>exact .bool b
 | str s=>exact .str s
 | nilf=>exact .nilf
 | hdr a n c=>exact .hdr a n c
 | sl0 | sl=>cases hx
theorem CV.plain{F F':Nat->Prop}{c:C}{v:Value}{bs:List Nat}(h:CV w F c v bs)(hc:c.plain):CV w F' c v bs:=by
 cases h with
 | t x v h=>exact .t x v (h.sc hc)
 | nil=>exact .nil
 | ow e sz rows v inner ho hr =>
  exact .ow e sz rows v inner ho ⟨hr.size,hr.len,λi row j x hi hj=>by
   obtain ⟨u,hu,h1,h2⟩:=hr.rd i row j x hi hj;exact ⟨u,hu,h1,h2.sc (hc row (zQX hi) x (zQX hj))⟩⟩
theorem JZ.plain{F F':Nat->Prop}{cs:List C}{vs:List Value}{bs:List Nat}(h:JZ w F cs vs bs)(hc:∀ c∈cs,c.plain):JZ w F' cs vs bs:=by
 induction h with
 | nil=>exact .nil
 | cons c v b cs vs bs h hs ih=>exact .cons c v b cs vs bs (h.plain (hc c (by simp))) (ih (λc h=>hc c (by simp [h])))
mutual
theorem VV.plain{F F':Nat->Prop}:∀ {x:V} {v:Value} {bs:List Nat},VV w F x v bs->x.plain->VV w F' x v bs
 | _,_,_,.one c v bs h,hp=>.one c v bs (h.plain (by unfold V.plain at hp; exact hp))
 | _,_,_,.agg l vs bs h,hp=>.agg l vs bs (h.plain (by unfold V.plain at hp; exact hp))
 | _,_,_,.tup l vs bs h,hp=>.tup l vs bs (h.plain (by unfold V.plain at hp; exact hp))
 | _,_,_,.ptr cells b arr e vs bs h1 h2 h3 h,hp=>by unfold V.plain at hp; exact hp.elim
 | _,_,_,.fptr cells b off u h1 h2 h3,hp=>by unfold V.plain at hp; exact hp.elim
 | _,_,_,.clo f caps vs bs h,hp=>by unfold V.plain at hp; exact hp.elim
theorem By.plain{F F':Nat->Prop}:∀ {l:List V} {vs:List Value} {bs:List Nat},By w F l vs bs->tG l->By w F' l vs bs
 | _,_,_,.nil,hp=>.nil
 | _,_,_,.cons x v b l vs bs h hs,hp=>.cons x v b l vs bs (h.plain (by unfold tG at hp; exact hp.1)) (hs.plain (by unfold tG at hp; exact hp.2))
end
theorem Ph{n d f:Nat}{o:Oper}{xf:Operand}{args:Array Operand}{ts:Array TypeId}{caps as:List A}{vs:List V}{res:V}{x:A}
  (hS:iQ E g n st a w) (ho:o.op=.call { callee:=.value xf,args,argTypes:=ts }) (hf:st.eval xf=some (.clo f caps)) (ly:de (args.toList.map st.eval)=some as)
  (hp:(dQ (as++caps) MA.ret).run st=some (vs,st)) (hc:aL P f vs res []) (hpl:res.plain) (hr:(V.toA d (fd d 0) res MA.ret).run st=some (x,st')) :
  wM P o a w λv w'=>∃ g',wK E g st w x st' v g' w':=by
 have hM:=hS.mem;obtain ⟨hcl,hcc⟩:=hc;have hvf:=bS hS hf;generalize hvv:a.eval xf=vf at hvf
 cases hvf with
 | clo f caps vcaps hl hx =>
  refine je ho hvv hcl ?_;obtain ⟨ha1,ha2⟩:=y0 hS ly;obtain ⟨cs,h1,hVV⟩:=uG (vs:=args.toList.map a.eval++vcaps) (as++caps) hM (by simp [<- ha1,hl]) (λj y hj=>by
   rw [zWH] at hj
   split at hj
   ·rename_i hlt;have hlt':j < (args.toList.map a.eval).length:=by rw [<- ha1]; exact hlt
    exact ⟨_,by rw [r0 hlt']; exact sX hlt',ha2 j y _ hj (sX hlt')⟩
   ·rename_i hge;have hlt:j - as.length < vcaps.length:=by rw [<- hl]; exact (List.getElem?_eq_some_iff.1 hj).1
    exact ⟨_,by rw [zQY (by rw [<- ha1]; omega),<- ha1]; exact sX hlt,hx _ y _ hj (sX hlt)⟩) hp
  obtain ⟨rfl,_⟩:=eR h1;refine (hcc w (g.all st) _ [] (λb hb=>?_) hVV List.nodup_nil (by simp) (hM.tbW λb _ _ _ h=>by cases h)).mono λe w' ⟨v,F',bv,bo,he,hcalm,hsame,hFF,hF',hvr,hO,hnd,hex⟩=>⟨v,he,?_⟩
  ·exact hM.all_lt hb
  obtain ⟨hM2,hE2⟩:=hM.grow hcalm (λb hb=>hsame b hb (by simp));have hbv:∀ b∈bv,w.heap.size<=b:=λb hb=>((hex b (by simp [hb])).2).resolve_right (by simp);obtain ⟨x',st3,g3,hG,h7,hvx⟩:=uF (w:=w') res hM2 (hvr.plain (F':=g.F) hpl) (List.nodup_append.1 hnd).1 (λb hb=>by
   obtain ⟨h8,h9,h10⟩:=tE hM (hbv b hb);exact ⟨h8,h9,h10,.inl (zWx hM.sizes (hbv b hb))⟩) hr
  obtain ⟨rfl,rfl⟩:=eR h7;exact ⟨g3,hG.mem,hvx,hE2.trans hG.ext,hG.tm⟩
def TE(P:Program)(f:FuncId)(args:List V)(off:Nat)(cA:List (List C)):Prop :=
 tF P f/\∀ (w:World) (F:Nat->Prop) (vs:List Value) (bs:List Nat),(∀ b,F b->b < w.heap.size)->By w F args vs bs->bs.Nodup->(∀ b∈bs,¬ F b)->Mm P w (λb=>b∈bs) ->
  Calls P f vs.toArray w λe w'=>∃ v F' bo b0,e=.returned v/\vs.head?=some (.pointer (some ⟨b0,0,none⟩))/\v=.pointer (some ⟨b0,off,none⟩)/\qI w w'/\(∀ b,b < w.heap.size->b∉bs->w'.heap[b]?=w.heap[b]?)/\(∀ b,F b->F' b) /\
   (∀ b,F' b->b < w'.heap.size/\(b < w.heap.size->F b\/b∈bs)/\(F b\/Wr w' b))/\o6 w' F' args vs cA bo/\bo.Nodup/\∀ b∈bo,¬ F' b/\(w.heap.size<=b\/b∈bs)
theorem Pi{n d f:Nat}{m:Bool}{p:Nat->Bool}{o:Oper}{xf:Operand}{args:Array Operand}{ts:Array TypeId}{caps as:List A}{vs:List V}{st1:St}{cA:List (List C)}{x:A}{s off:Nat}
  (hS:iQ E g n st a w) (ho:o.op=.call { callee:=.value xf,args,argTypes:=ts }) (hf:st.eval xf=some (.clo f caps)) (ly:de (args.toList.map st.eval)=some as)
  (hp:(kx m p (as++caps) MA.ret).run st=some (vs,st1)) (hc:TE P f vs off cA) (hhd:(as++caps).head?=some (.obj s 0)) (hr:(dC d (dP (as++caps)) cA (MA.ret (.obj s off))).run st1=some (x,st')) :
  wM P o a w λv w'=>∃ g',wK E g st w x st' v g' w':=by
 have hM:=hS.mem;obtain ⟨hcl,hcc⟩:=hc;have hvf:=bS hS hf;generalize hvv:a.eval xf=vf at hvf
 cases hvf with
 | clo f caps vcaps hl hx =>
  refine je ho hvv hcl ?_;obtain ⟨ha1,ha2⟩:=y0 hS ly;have hus:∀ (j:Nat) (y:A),(as++caps)[j]?=some y->∃ v,(args.toList.map a.eval++vcaps)[j]?=some v/\VR w g st.O st.R y v:=by
   intro j y hj;rw [zWH] at hj
   split at hj
   ·rename_i hlt;have hlt':j < (args.toList.map a.eval).length:=by rw [<- ha1]; exact hlt
    exact ⟨_,by rw [r0 hlt']; exact sX hlt',ha2 j y _ hj (sX hlt')⟩
   ·rename_i hge;have hlt:j - as.length < vcaps.length:=by rw [<- hl]; exact (List.getElem?_eq_some_iff.1 hj).1
    exact ⟨_,by rw [zQY (by rw [<- ha1]; omega),<- ha1]; exact sX hlt,hx _ y _ hj (sX hlt)⟩
  obtain ⟨cs,st1',g1,bs,hM1,hE1,hL1,h1,hVV,hT,hA,hsl⟩:=uE (vs:=args.toList.map a.eval++vcaps) (as++caps) hM (by simp [<- ha1,hl]) hus hp;obtain ⟨rfl,rfl⟩:=eR h1;have hbsX:∀ b∈bs,b < E.w0.heap.size->E.X b:=λb hb hlt=>by
   rcases hT.of b hb with ⟨r,h2,_,h4⟩ | ⟨s,⟨c,cs,h2⟩,_,h4⟩
   ·rcases (hM.row_nf h2 h4).2 with h5 | h5
    ·omega
    ·exact h5
   ·rcases (hM.ob_nf (s:=s) (by simp [St.O,h2])).2 with h5 | h5
    ·omega
    ·exact h4 ▸ h5
  refine (hcc w g1.F _ bs (λb hb=>(hM1.F b hb).1) hVV hT.nodup hT.nf (hM.tbW λb h1 h2 _ h3=>h2 (hbsX b h3 h1))).mono λe w' ⟨v,F',bo,b0,he,hhead,hveq,hcalm,hsame,hFF,hF',hO,hnd0,hex0⟩=>⟨v,he,?_⟩;obtain ⟨bv,hbv⟩:∃ bv:List Nat,bv=[]:=⟨[],rfl⟩;have hnd:(bv++bo).Nodup:=by rw [hbv]; exact hnd0
  have hex:∀ b∈bv++bo,¬ F' b/\(w.heap.size<=b\/b∈bs):=by rw [hbv]; exact hex0
  -- the caller's memory behind the call
  have hbsrow:∀ b∈bs,∀ r,st1.L r->(g1.rw r).ownBlock≠some b:=λb hb r hr he=>by
   rw [hL1.rw] at he;rcases hT.of b hb with ⟨r',h2,h3,h4⟩ | ⟨s,⟨c,cs,h2⟩,_,h4⟩
   ·exact h3 (hM.rowne r r' b (hL1.L r hr) h2 he h4 ▸ hr)
   ·exact hM.rowob r s (hL1.L r hr) (by simp [St.O,h2]) (h4 ▸ he)
  have hbsob:∀ b∈bs,∀ s,st1.O s->g1.ob s=b->st1.ob s=some []/\s∈dP (as++caps):=λb hb s hs he=>by
   rw [hL1.ob] at he;have hs':st.O s:=(hL1.O s).1 hs;rcases hT.of b hb with ⟨r',h2,h3,h4⟩ | ⟨s',⟨c,cs,h2⟩,h3,h4⟩
   ·exact absurd (he ▸ h4) (hM.rowob r' s h2 hs')
   ·have:=hM.obne s s' hs' (by simp [St.O,h2]) (he.trans h4.symm);subst this;exact ⟨h3,hsl s (by rw [h3,h2]; simp)⟩
  have hF0:∀ b,b < w.heap.size->F' b->g1.F b\/b∈bs:=λb h2 h3=>(hF' b h3).2.1 h2;have hA1:pE g1 (as++caps) vs (args.toList.map a.eval++vcaps):=hA.congr' hL1.ob;have hexF:∀ b∈bs,F' b->False\/True:=λ_ _ _=>.inr trivial;have hlentF:∀ s,s∈dP (as++caps)->g1.ob s∈bo:=o6.mem hA1 hO;obtain ⟨hM2,hE2⟩:=hM1.step (w':=w') (g':={ g1 with F:=F' }) (st':=st1) hcalm (λb=>b∈bs) (λb h2 h3=>hsame b h2 h3) (λb hb=>hT.nf b hb) (λb h2 h3=>hbsX b h3 h2) hFF
   (λb h2 h3=>⟨(hF' b h2).1,λhlt=>(hF0 b (zQg hlt hM1.sizes) h2).elim (λh4=>absurd h4 h3) (λh4=>.inr (hbsX b h4 hlt)),.inr ((hF' b h2).2.2.resolve_left h3)⟩) (λ_ h=>⟨h,rfl⟩) (λ_ h=>⟨h,rfl⟩)
   (λs cells hs=>by
    have hOs:st1.O s:=by simp [St.O,hs]
    by_cases hb:g1.ob s∈bs
    ·obtain ⟨h5,h6⟩:=hbsob _ hb s hOs rfl;rw [hs] at h5
     cases h5
     obtain ⟨arr,e,hh⟩:=CB hA1 hO s h6;refine .inr ⟨arr,e,hh,by simp,by simp,?_,(hM1.ob_nf hOs).2⟩;exact (hex _ (List.mem_append.2 (.inr (hlentF s h6)))).1
    ·refine .inl ⟨hs,hb,λhf=>?_⟩;rcases hF0 _ (hM1.ob_lt hOs) hf with h5 | h5
     ·exact (hM1.ob_nf hOs).1 h5
     ·exact hb h5) hM1.obne
   (λr x hr=>.inl ⟨hr,λhL b hb=>⟨λhm=>hbsrow b hm r hL hb,λhf=>by
    rcases hF0 b (hM1.row_lt hL hb) hf with h5 | h5
    ·exact (hM1.row_nf hL hb).1 h5
    ·exact hbsrow b h5 r hL hb⟩⟩) hM1.rowne hM1.rowob
  have hI:VK E { g1 with F:=F' } st1 (dP (as++caps)) (bo++bv):=by
   have hm:∀ x,x∈bo++bv->x∈bv++bo:=λx hx=>by
    rcases List.mem_append.1 hx with h | h <;> simp [h]
   refine ⟨?_,λb hb=>(hex b (hm b hb)).1,λb hb=>?_,λb hb r hr he=>?_,λb hb s hs he=>?_⟩
   ·rw [zXJ] at hnd ⊢;exact ⟨hnd.2.1,hnd.1,λx hx y hy h=>hnd.2.2 y hy x hx h.symm⟩
   ·rcases (hex b (hm b hb)).2 with h5 | h5
    ·exact .inl (zWx hM1.sizes h5)
    ·by_cases hlt:b < E.w0.heap.size
     ·exact .inr (hbsX b h5 hlt)
     ·exact .inl (by omega)
   ·rcases (hex b (hm b hb)).2 with h5 | h5
    ·exact absurd (hM1.row_lt hr he) (by omega)
    ·exact hbsrow b h5 r hr he
   ·rcases (hex b (hm b hb)).2 with h5 | h5
    ·exact absurd (hM1.ob_lt hs) (by have:g1.ob s=b:=he; omega)
    ·exact (hbsob b h5 s hs he).2
  have hA2:pE { g1 with F:=F' } (as++caps) vs (args.toList.map a.eval++vcaps):=hA1.congr' (g:=g1) (g1:={ g1 with F:=F' }) rfl;obtain ⟨st2,g2,hM3,hE3,hF3,ht3,h6,hI3⟩:=qq (w:=w') hM2 hA2 hO hI hr;obtain ⟨rfl,rfl⟩:=eR h6;have hext:=(hE1.trans hE2).trans hE3;have hobj:st.O s/\(args.toList.map a.eval++vcaps)[0]?=some (.pointer (some ⟨g.ob s,0,none⟩)):=by
   obtain ⟨u,hu1,hu2⟩:=hus 0 (.obj s 0) (by rw [<- List.head?_eq_getElem?]; exact hhd)
   cases hu2 with
   | obj _ _ hs=>exact ⟨hs,hu1⟩
  have hb0:g.ob s=b0:=by
   rw [List.head?_eq_getElem?,hobj.2] at hhead;injection hhead with h; injection h with h; injection h with h; injection h
  obtain ⟨hO2,hob2⟩:=hext.O s hobj.1;refine ⟨g2,hM3,?_,hext,ht3.trans hL1.tm⟩;rw [hveq,<- hb0,<- hob2];exact .obj s off hO2
def gT(P:Program)(f:FuncId)(args:List V)(res:V):Prop :=
 tF P f/\∀ (w:World) (D:Nat->Prop) (vs:List Value),(∀ b,D b->b < w.heap.size)->By w D args vs []->Mm P w (λ_=>False) ->
  Calls P f vs.toArray w λe w'=>∃ v F' bv,e=.returned v/\qI w w'/\(∀ b,b < w.heap.size->w'.heap[b]?=w.heap[b]?) /\
   (∀ b,F' b->b < w'.heap.size/\w.heap.size<=b/\Wr w' b)/\VV w' F' res v bv/\bv.Nodup/\∀ b∈bv,¬ F' b/\w.heap.size<=b
theorem Pj{n d f:Nat}{o:Oper}{xf:Operand}{args:Array Operand}{ts:Array TypeId}{caps as:List A}{vs:List V}{res:V}{x:A}
  (hS:iQ E g n st a w) (ho:o.op=.call { callee:=.value xf,args,argTypes:=ts }) (hf:st.eval xf=some (.clo f caps)) (ly:de (args.toList.map st.eval)=some as)
  (hp:(dQ (as++caps) MA.ret).run st=some (vs,st)) (hc:gT P f vs res) (hr:(V.toA d (fd d 0) res MA.ret).run st=some (x,st')) :
  wM P o a w λv w'=>∃ g',wK E g st w x st' v g' w':=by
 have hM:=hS.mem;obtain ⟨hcl,hcc⟩:=hc;have hvf:=bS hS hf;generalize hvv:a.eval xf=vf at hvf
 cases hvf with
 | clo f caps vcaps hl hx =>
  refine je ho hvv hcl ?_;obtain ⟨ha1,ha2⟩:=y0 hS ly;obtain ⟨cs,h1,hVV⟩:=uG (vs:=args.toList.map a.eval++vcaps) (as++caps) hM (by simp [<- ha1,hl]) (λj y hj=>by
   rw [zWH] at hj
   split at hj
   ·rename_i hlt;have hlt':j < (args.toList.map a.eval).length:=by rw [<- ha1]; exact hlt
    exact ⟨_,by rw [r0 hlt']; exact sX hlt',ha2 j y _ hj (sX hlt')⟩
   ·rename_i hge;have hlt:j - as.length < vcaps.length:=by rw [<- hl]; exact (List.getElem?_eq_some_iff.1 hj).1
    exact ⟨_,by rw [zQY (by rw [<- ha1]; omega),<- ha1]; exact sX hlt,hx _ y _ hj (sX hlt)⟩) hp
  obtain ⟨rfl,_⟩:=eR h1;refine (hcc w (g.all st) _ (λb hb=>hM.all_lt hb) hVV (hM.tbW λ_ _ _ _ h=>h)).mono λe w' ⟨v,F',bv,he,hcalm,hsame,hF',hvr,hnd,hex⟩=>⟨v,he,?_⟩;obtain ⟨hM2,hE2⟩:=hM.step (w':=w') (g':={ g with F:=λb=>g.F b\/F' b }) (st':=st) hcalm (λ_=>False) (λb h1 _=>hsame b h1) (λ_ h=>h.elim) (λ_ _ h=>h.elim) (λ_ h=>.inl h)
   (λb h1 h2=>by
    obtain ⟨h3,h4,h5⟩:=hF' b (h1.resolve_left h2);exact ⟨h3,λhlt=>(by have:=hM.sizes; omega),.inr h5⟩) (λ_ h=>⟨h,rfl⟩) (λ_ h=>⟨h,rfl⟩)
   (λs cells hs=>.inl ⟨hs,id,λhf=>by
    have hs':st.O s:=by simp [St.O,hs]
    rcases hf with hf | hf
    ·exact (hM.ob_nf hs').1 hf
    ·have:=hM.ob_lt hs'; have:=(hF' _ hf).2.1; omega⟩) hM.obne
   (λr x hr=>.inl ⟨hr,λhL b hb'=>⟨id,λhf=>by
    rcases hf with hf | hf
    ·exact (hM.row_nf hL hb').1 hf
    ·have:=hM.row_lt hL hb'; have:=(hF' _ hf).2.1; omega⟩⟩) hM.rowne hM.rowob
  obtain ⟨x',st3,g3,hG,h7,hvx⟩:=uF (w:=w') res hM2 (hvr.mono (λ_ _=>rfl) (λ_ h=>.inr h) (λ_ _=>rfl)) hnd (λb hb=>by
   obtain ⟨h8,h9,h10⟩:=tE hM (hex b hb).2;exact ⟨λh=>h.elim h8 (hex b hb).1,h9,h10,.inl (zWx hM.sizes (hex b hb).2)⟩) hr
  obtain ⟨rfl,rfl⟩:=eR h7;exact ⟨g3,hG.mem,hvx,hE2.trans hG.ext,hG.tm⟩
def KD:Nat->Prop:=λ_=>False
def gM(w:World)(D:Nat->Prop):Gh:={ F:=KD,ob:=λ_=>0,rw:=λ_=>.nilFunc,D:=D,dw:=w,sh:=true }
def A.mk1:A->Bool
 | .t x=>x.sc
 | .ext true _=>true
 | .undef=>true
 | _=>false
def A.mk:A->Bool
 | .agg l=>l.all A.mk1
 | a=>a.mk1
def A.isX:A->Bool
 | .ext true _=>true
 | _=>false
def A.hasX:A->Bool
 | .agg l=>l.any A.isX
 | a=>a.isX
def W1(P:Program)(f:FuncId)(as:List A)(n:T):Prop :=
 n.sc=true/\tF P f/\∀ (w:World) (D:Nat->Prop) (vs:List Value),(∀ b,D b->b < w.heap.size/\Wr w b)->vs.length=as.length ->
  (∀ (j:Nat) (x:A),as[j]?=some x->∃ u,vs[j]?=some u/\VR w (gM w D) KD KD x u)->Mm P w D ->
  Calls P f vs.toArray w λe w'=>∃ v,e=.returned v/\Rd w' KD n v/\qI w w'/\(∀ b,b < w.heap.size->¬ D b->w'.heap[b]?=w.heap[b]?)/\∀ b,D b->KS w w' b
theorem TF{O R:Nat->Prop}{x:A}{v:Value}(hM:fe E g st w)(hs:g.sh=true)(h:VR w g O R x v)(hk:x.mk1=true):VR w (gM w g.D) KD KD x v:=by
 cases h with
 | t x v h=>exact .t x v (h.sc hk)
 | ext s x v hs' h =>
  rw [hs] at hs';subst hs';exact .ext true x v rfl (h.ks λb hb=>hM.nowK hs hb)
 | undef v=>exact .undef v
 | _=>simp [A.mk1] at hk
theorem Wm{O R:Nat->Prop}{x:A}{v:Value}(hM:fe E g st w)(hs:g.sh=true)(h:VR w g O R x v)(hk:x.mk=true):VR w (gM w g.D) KD KD x v:=by
 cases x with
 | agg l =>
  cases h with
  | agg l vs hl h=>exact .agg l vs hl λi x v hi hv=>TF hM hs (h i x v hi hv) (List.all_eq_true.1 hk x (zQX hi))
 | _=>exact TF hM hs h hk
theorem UH{O R:Nat->Prop}{x:A}{v:Value}(h:VR w g O R x v)(hk:x.hasX=true):g.sh=true:=by
 have key:∀ {x:A} {v:Value},VR w g O R x v->x.isX=true->g.sh=true:=by
  intro x v h hk
  cases h with
  | ext s x v hs' h=>cases s with
   | true=>exact hs'
   | false=>cases hk
  | _=>cases hk
 cases x with
 | agg l =>
  cases h with
  | agg l vs hl h =>
   obtain ⟨x,hx,hk⟩:=List.any_eq_true.1 hk;obtain ⟨i,hi⟩:=zYh hx;have hlt:i < vs.length:=by rw [<- hl]; exact (List.getElem?_eq_some_iff.1 hi).1
   exact key (h i x _ hi (sX hlt)) hk
 | _=>exact key h hk
theorem Pk{n f:Nat}{o:Oper}{xf:Operand}{args:Array Operand}{ts:Array TypeId}{as:List A}{r:T}
  (hS:iQ E g n st a w) (ho:o.op=.call { callee:=.value xf,args,argTypes:=ts }) (hf:st.eval xf=some (.clo f [])) (ly:de (args.toList.map st.eval)=some as)
  (hk:as.all A.mk=true) (hx:as.any A.hasX=true) (hc:W1 P f as r):wM P o a w λv w'=>∃ g',wK E g st w (.t r) st v g' w':=by
 have hM:=hS.mem;obtain ⟨hsc,hcl,hcc⟩:=hc;have hvf:=bS hS hf;generalize hvv:a.eval xf=vf at hvf;obtain ⟨ha1,ha2⟩:=y0 hS ly;have hsh:g.sh=true:=by
  obtain ⟨x,hxm,hxx⟩:=List.any_eq_true.1 hx;obtain ⟨i,hi⟩:=zYh hxm;have hlt:i < (args.toList.map a.eval).length:=by rw [<- ha1]; exact (List.getElem?_eq_some_iff.1 hi).1
  exact UH (ha2 i x _ hi (sX hlt)) hxx
 cases hvf with
 | clo f caps vcaps hl hx' =>
  have:vcaps=[]:=rg hl.symm;subst this;refine je ho hvv hcl ?_;rw [zWj];refine (hcc w g.D (args.toList.map a.eval) (λb hb=>?_) ha1.symm (λj x hj=>?_) (hM.tbW λb _ _ h h2=>h (by obtain ⟨h5,_,h6⟩:=hM.dep0.1; exact ⟨h6 ▸ hsh,h5 ▸ h2⟩))).mono λe w' ⟨v,he,hr,hcalm,hsame,hks⟩=>⟨v,he,?_⟩
  ·exact ⟨zQg (hM.dep b hb).2.1 hM.sizes,(hM.nowK hsh hb).wr⟩
  ·have hlt:j < (args.toList.map a.eval).length:=by rw [<- ha1]; exact (List.getElem?_eq_some_iff.1 hj).1
   exact ⟨_,sX hlt,Wm hM hsh (ha2 j x _ hj (sX hlt)) (List.all_eq_true.1 hk x (zQX hj))⟩
  obtain ⟨hM2,hE2⟩:=hM.stepD hsh hcalm hsame hks;exact ⟨g,hM2,.t _ _ (hr.sc hsc),hE2,rfl⟩
def W3(P:Program)(f:FuncId)(e sz:Nat)(rows:List (List T))(args:List V)(res:T)(rows':List (List T)):Prop :=
 res.sc=true/\tF P f/\∀ (w:World) (F:Nat->Prop) (v:Value) (vs:List Value) (inner:List Value),(∀ b,F b->b < w.heap.size)->w.ownsRow 0 e sz v rows.length inner->Au w F sz rows inner ->
  (∀ b,v.ownBlock=some b->¬ F b)->By w F args vs []->Mm P w (λb=>v.ownBlock=some b) ->
  Calls P f (v :: vs).toArray w λex w'=>∃ u inner',ex=.returned u/\Rd w' KD res u/\qI w w'/\(∀ b,b < w.heap.size->v.ownBlock≠some b->w'.heap[b]?=w.heap[b]?) /\
   w'.ownsRow 0 e sz v rows'.length inner'/\Au w' F sz rows' inner'
theorem Pl{n f r e sz:Nat}{rows rows':List (List T)}{o:Oper}{xf:Operand}{args:Array Operand}{ts:Array TypeId}{as:List A}{vs:List V}{res:T}
  (hS:iQ E g n st a w) (ho:o.op=.call { callee:=.value xf,args,argTypes:=ts }) (hf:st.eval xf=some (.clo f [])) (ly:de (args.toList.map st.eval)=some (.own r :: as))
  (hrw:st.rw r=some (.live e sz rows)) (hp:(dQ as MA.ret).run st=some (vs,st)) (hpl:tG vs) (hc:W3 P f e sz rows vs res rows') :
  wM P o a w λv w'=>∃ g',wK E g st w (.t res) { st with rw:=et st.rw r (some (.live e sz rows')) } v g' w':=by
 have hM:=hS.mem;obtain ⟨hsc,hcl,hcc⟩:=hc;have hvf:=bS hS hf;generalize hvv:a.eval xf=vf at hvf;obtain ⟨ha1,ha2⟩:=y0 hS ly;have hL:st.L r:=⟨e,sz,rows,hrw⟩
 cases hvf with
 | clo f caps vcaps hl hx' =>
  have:vcaps=[]:=rg hl.symm;subst this;refine je ho hvv hcl ?_;rw [zWj];generalize args.toList.map a.eval=us at ha1 ha2
  match us,ha1 with
  | u0 :: us,ha1 =>
   have h0:=ha2 0 (.own r) u0 rfl rfl
   cases h0 with
   | own _ hR =>
   obtain ⟨cs,h1,hVV⟩:=uG (vs:=us) as hM (by simpa using ha1.symm) (λj y hj=>by
    have hlt:j < us.length:=by
     have:=(List.getElem?_eq_some_iff.1 hj).1;simp at ha1; omega
    exact ⟨_,sX hlt,ha2 (j+1) y _ (by simpa using hj) (by simp)⟩) hp
   obtain ⟨rfl,_⟩:=eR h1;obtain ⟨inner,hown,hRC,_⟩:=(hM.row r _ hrw).rcs;refine (hcc w g.F (g.rw r) us inner (λb hb=>(hM.F b hb).1) hown hRC (λb hb=>(hM.row_nf hL hb).1) (hVV.plain hpl) (hM.tbW λb h1 h2 _ h3=>(hM.row_nf hL h3).2.elim (λh=>absurd h1 (Nat.not_lt.2 h)) h2)).mono λex w' ⟨u,inner',he,hu,hcalm,hsame,hown',hRC'⟩=>⟨u,he,?_⟩;obtain ⟨hM2,hE2⟩:=hM.set_row hcalm r _ e sz rows' hrw hL hsame (hRC'.rowAt (E:=E) (g:=g) hown' (λb hb=>hM.row_nf hL hb));exact ⟨g,hM2,.t _ _ (hu.sc hsc),hE2,rfl⟩
end
section
variable {P:Program} {E:En} [Tb P E] {g:Gh} {st st':St} {a:Act} {w:World}
def Pm(P:Program)(f:FuncId)(args xs:List V)(res:V)(cA:List (List C)):Prop :=
 tF P f/\∀ (w:World) (F D:Nat->Prop) (vs us:List Value) (bs:List Nat),(∀ b,F b->b < w.heap.size)->(∀ b,D b->b < w.heap.size/\b∉bs)->By w F args vs bs->By w D xs us []->bs.Nodup->(∀ b∈bs,¬ F b)->Mm P w (λb=>b∈bs) ->
  Calls P f (vs++us).toArray w λe w'=>∃ v F' bv bo,e=.returned v/\qI w w'/\(∀ b,b < w.heap.size->b∉bs->w'.heap[b]?=w.heap[b]?)/\(∀ b,F b->F' b) /\
   (∀ b,F' b->b < w'.heap.size/\(b < w.heap.size->F b\/b∈bs)/\(F b\/Wr w' b))/\VV w' F' res v bv/\o6 w' F' args vs cA bo/\(bv++bo).Nodup/\∀ b∈bv++bo,¬ F' b/\(w.heap.size<=b\/b∈bs)
theorem Pn{n d f:Nat}{m:Bool}{p:Nat->Bool}{o:Oper}{xf:Operand}{args:Array Operand}{ts:Array TypeId}{az caps as xs:List A}{vs us:List V}{st1:St}{res:V}{cA:List (List C)}{x:A}
  (hS:iQ E g n st a w) (ho:o.op=.call { callee:=.value xf,args,argTypes:=ts }) (hf:st.eval xf=some (.clo f caps)) (ly:de (args.toList.map st.eval)=some az) (hcat:az++caps=as++xs)
  (hp:(kx m p as MA.ret).run st=some (vs,st1)) (hq:(dQ xs MA.ret).run st1=some (us,st1)) (hc:Pm P f vs us res cA) (hr:(dC d (dP as) cA (V.toA d (fd d 0) res MA.ret)).run st1=some (x,st')) :
  wM P o a w λv w'=>∃ g',wK E g st w x st' v g' w':=by
 have hM:=hS.mem;obtain ⟨hcl,hcc⟩:=hc;have hvf:=bS hS hf;generalize hvv:a.eval xf=vf at hvf
 cases hvf with
 | clo f caps vcaps hl hx =>
  refine je ho hvv hcl ?_;obtain ⟨ha1,ha2⟩:=y0 hS ly;generalize hval:args.toList.map a.eval++vcaps=vals;have hv:∀ (j:Nat) (y:A),(as++xs)[j]?=some y->∃ u,vals[j]?=some u/\VR w g st.O st.R y u:=λj y hj=>by
   rw [<- hcat,zWH] at hj;rw [<- hval]
   split at hj
   ·rename_i hlt;have hlt':j < (args.toList.map a.eval).length:=by rw [<- ha1]; exact hlt
    exact ⟨_,by rw [r0 hlt']; exact sX hlt',ha2 j y _ hj (sX hlt')⟩
   ·rename_i hge;have hlt:j - az.length < vcaps.length:=by rw [<- hl]; exact (List.getElem?_eq_some_iff.1 hj).1
    exact ⟨_,by rw [zQY (by rw [<- ha1]; omega),<- ha1]; exact sX hlt,hx _ y _ hj (sX hlt)⟩
  have hvl:vals.length=as.length+xs.length:=by
   rw [<- hval,zQJ,<- ha1,<- hl,<- zQJ,hcat,zQJ]
  rw [<- zXj as.length vals];obtain ⟨cs,st1',g1,bs,hM1,hE1,hL1,h1,hVV,hT,hA,hsl⟩:=uE (vs:=vals.take as.length) as hM (by simp [hvl]) (λj y hj=>by
   have hlt:j < as.length:=(List.getElem?_eq_some_iff.1 hj).1;obtain ⟨u,h5,h6⟩:=hv j y (by rw [r0 hlt]; exact hj);exact ⟨u,by rw [zQq,if_pos hlt]; exact h5,h6⟩) hp
  obtain ⟨rfl,rfl⟩:=eR h1;have hbsX:∀ b∈bs,b < E.w0.heap.size->E.X b:=λb hb hlt=>by
   rcases hT.of b hb with ⟨r,h2,_,h4⟩ | ⟨s,⟨c,cs,h2⟩,_,h4⟩
   ·rcases (hM.row_nf h2 h4).2 with h5 | h5
    ·omega
    ·exact h5
   ·rcases (hM.ob_nf (s:=s) (by simp [St.O,h2])).2 with h5 | h5
    ·omega
    ·exact h4 ▸ h5
  have hbsrow:∀ b∈bs,∀ r,st1.L r->(g1.rw r).ownBlock≠some b:=λb hb r hr he=>by
   rw [hL1.rw] at he;rcases hT.of b hb with ⟨r',h2,h3,h4⟩ | ⟨s,⟨c,cs,h2⟩,_,h4⟩
   ·exact h3 (hM.rowne r r' b (hL1.L r hr) h2 he h4 ▸ hr)
   ·exact hM.rowob r s (hL1.L r hr) (by simp [St.O,h2]) (h4 ▸ he)
  have hbsob:∀ b∈bs,∀ s,st1.O s->g1.ob s=b->st1.ob s=some []/\s∈dP as:=λb hb s hs he=>by
   rw [hL1.ob] at he;have hs':st.O s:=(hL1.O s).1 hs;rcases hT.of b hb with ⟨r',h2,h3,h4⟩ | ⟨s',⟨c,cs,h2⟩,h3,h4⟩
   ·exact absurd (he ▸ h4) (hM.rowob r' s h2 hs')
   ·have:=hM.obne s s' hs' (by simp [St.O,h2]) (he.trans h4.symm);subst this;exact ⟨h3,hsl s (by rw [h3,h2]; simp)⟩
  obtain ⟨us',h9,hUU⟩:=uG (vs:=vals.drop as.length) xs hM1 (by simp [hvl]) (λj y hj=>by
   obtain ⟨u,h5,h6⟩:=hv (as.length+j) y (by rw [zQY (by omega)]; simpa using hj);exact ⟨u,by rw [zQw]; exact h5,h6.mono hE1⟩) hq
  obtain ⟨rfl,_⟩:=eR h9;have hall:∀ b,g1.all st1 b->b < w.heap.size/\b∉bs:=λb hb=>⟨hM1.all_lt hb,λhbs=>by
   rcases hb with h5 | ⟨r,h5,h6⟩ | ⟨_,h5⟩
   ·exact hT.nf b hbs h5
   ·exact hbsrow b hbs r h5 h6
   ·obtain ⟨_,h6,h7,_⟩:=hM1.dep b h5;exact h7 (hbsX b hbs h6)⟩
  refine (hcc w g1.F (g1.all st1) _ _ bs (λb hb=>(hM1.F b hb).1) hall hVV hUU hT.nodup hT.nf (hM.tbW λb h1 h2 _ h3=>h2 (hbsX b h3 h1))).mono λe w' ⟨v,F',bv,bo,he,hcalm,hsame,hFF,hF',hvr,hO,hnd,hex⟩=>⟨v,he,?_⟩
  -- the caller's memory behind the call
  have hF0:∀ b,b < w.heap.size->F' b->g1.F b\/b∈bs:=λb h2 h3=>(hF' b h3).2.1 h2;have hA1:pE g1 as vs (vals.take as.length):=hA.congr' hL1.ob;have hexF:∀ b∈bs,F' b->False\/True:=λ_ _ _=>.inr trivial;have hlentF:∀ s,s∈dP as->g1.ob s∈bo:=o6.mem hA1 hO;obtain ⟨hM2,hE2⟩:=hM1.step (w':=w') (g':={ g1 with F:=F' }) (st':=st1) hcalm (λb=>b∈bs) (λb h2 h3=>hsame b h2 h3) (λb hb=>hT.nf b hb) (λb h2 h3=>hbsX b h3 h2) hFF
   (λb h2 h3=>⟨(hF' b h2).1,λhlt=>(hF0 b (zQg hlt hM1.sizes) h2).elim (λh4=>absurd h4 h3) (λh4=>.inr (hbsX b h4 hlt)),.inr ((hF' b h2).2.2.resolve_left h3)⟩) (λ_ h=>⟨h,rfl⟩) (λ_ h=>⟨h,rfl⟩)
   (λs cells hs=>by
    have hOs:st1.O s:=by simp [St.O,hs]
    by_cases hb:g1.ob s∈bs
    ·obtain ⟨h5,h6⟩:=hbsob _ hb s hOs rfl;rw [hs] at h5
     cases h5
     obtain ⟨arr,e,hh⟩:=CB hA1 hO s h6;refine .inr ⟨arr,e,hh,by simp,by simp,?_,(hM1.ob_nf hOs).2⟩;exact (hex _ (List.mem_append.2 (.inr (hlentF s h6)))).1
    ·refine .inl ⟨hs,hb,λhf=>?_⟩;rcases hF0 _ (hM1.ob_lt hOs) hf with h5 | h5
     ·exact (hM1.ob_nf hOs).1 h5
     ·exact hb h5) hM1.obne
   (λr x hr=>.inl ⟨hr,λhL b hb=>⟨λhm=>hbsrow b hm r hL hb,λhf=>by
    rcases hF0 b (hM1.row_lt hL hb) hf with h5 | h5
    ·exact (hM1.row_nf hL hb).1 h5
    ·exact hbsrow b h5 r hL hb⟩⟩) hM1.rowne hM1.rowob
  have hI:VK E { g1 with F:=F' } st1 (dP as) (bo++bv):=by
   have hm:∀ x,x∈bo++bv->x∈bv++bo:=λx hx=>by
    rcases List.mem_append.1 hx with h | h <;> simp [h]
   refine ⟨?_,λb hb=>(hex b (hm b hb)).1,λb hb=>?_,λb hb r hr he=>?_,λb hb s hs he=>?_⟩
   ·rw [zXJ] at hnd ⊢;exact ⟨hnd.2.1,hnd.1,λx hx y hy h=>hnd.2.2 y hy x hx h.symm⟩
   ·rcases (hex b (hm b hb)).2 with h5 | h5
    ·exact .inl (zWx hM1.sizes h5)
    ·by_cases hlt:b < E.w0.heap.size
     ·exact .inr (hbsX b h5 hlt)
     ·exact .inl (by omega)
   ·rcases (hex b (hm b hb)).2 with h5 | h5
    ·exact absurd (hM1.row_lt hr he) (by omega)
    ·exact hbsrow b h5 r hr he
   ·rcases (hex b (hm b hb)).2 with h5 | h5
    ·exact absurd (hM1.ob_lt hs) (by have:g1.ob s=b:=he; omega)
    ·exact (hbsob b h5 s hs he).2
  have hA2:pE { g1 with F:=F' } as vs (vals.take as.length):=hA1.congr' (g:=g1) (g1:={ g1 with F:=F' }) rfl;obtain ⟨st2,g2,hM3,hE3,hF3,ht3,h6,hI3⟩:=qq (w:=w') hM2 hA2 hO hI hr;obtain ⟨x',st3,g3,hG,h7,hvx⟩:=uF (w:=w') res hM3 (by rw [hF3]; exact hvr) hI3.nodup (λb hb=>⟨hI3.F b hb,λs hs he=>by have:=hI3.ob b hb s hs he; simp at this,hI3.row b hb,hI3.X b hb⟩) h6;obtain ⟨rfl,rfl⟩:=eR h7;exact ⟨g3,hG.mem,hvx,((hE1.trans hE2).trans hE3).trans hG.ext,hG.tm.trans (ht3.trans hL1.tm)⟩
end
def A.tC:A->Option C
 | .t x=>some (.t x)
 | _=>none
def RY:List A->Option (List C)
 | []=>some []
 | a :: r=>match a.tC,RY r with | some c,some cs=>some (c :: cs) | _,_=>none
def A.tV:A->Option V
 | .t x=>some (.one (.t x))
 | .agg l=>(RY l).map .agg
 | _=>none
def Po:List A->Option (List V)
 | []=>some []
 | a :: r=>match a.tV,Po r with | some c,some cs=>some (c :: cs) | _,_=>none
section
variable {w:World} {g:Gh} {O R:Nat->Prop}
theorem Wn{a:A}{c:C}{u:Value}(h:a.tC=some c)(hv:VR w g O R a u):CV w g.F c u []:=by
 cases a <;> simp only [A.tC,Option.some.injEq,reduceCtorEq] at h
 subst h
 cases hv with
 | t _ _ h=>exact .t _ _ h
theorem TG:∀ {l:List A} {cs:List C} {us:List Value},RY l=some cs->l.length=us.length->(∀ (j:Nat) (x:A) (u:Value),l[j]?=some x->us[j]?=some u->VR w g O R x u)->JZ w g.F cs us []
 | [],cs,us,h,hl,_=>by
  cases h
  have:us=[]:=rg hl.symm;subst this;exact .nil
 | a :: l,cs,us,h,hl,hv=>by
  unfold RY at h
  split at h
  ·rename_i c cs' h1 h2
   cases h
   cases us with
   | nil=>simp at hl
   | cons u us =>
    exact .cons c u [] cs' us [] (Wn h1 (hv 0 a u rfl rfl)) (TG h2 (by simpa using hl) λj x u h3 h4=>hv (j+1) x u (by simpa using h3) (by simpa using h4))
  ·cases h
theorem Wo{a:A}{c:V}{u:Value}(h:a.tV=some c)(hv:VR w g O R a u):VV w g.F c u []:=by
 cases a <;> simp only [A.tV,Option.some.injEq,zWk,reduceCtorEq] at h
 ·subst h
  cases hv with
  | t _ _ h=>exact .one _ _ [] (.t _ _ h)
 ·obtain ⟨cs,h1,rfl⟩:=h
  cases hv with
  | agg l vs hl hx=>exact .agg cs vs [] (TG h1 hl hx)
theorem TH:∀ {l:List A} {cs:List V} {us:List Value},Po l=some cs->l.length=us.length->(∀ (j:Nat) (x:A) (u:Value),l[j]?=some x->us[j]?=some u->VR w g O R x u)->By w g.F cs us []
 | [],cs,us,h,hl,_=>by
  cases h
  have:us=[]:=rg hl.symm;subst this;exact .nil
 | a :: l,cs,us,h,hl,hv=>by
  unfold Po at h
  split at h
  ·rename_i c cs' h1 h2
   cases h
   cases us with
   | nil=>simp at hl
   | cons u us =>
    exact .cons c u [] cs' us [] (Wo h1 (hv 0 a u rfl rfl)) (TH h2 (by simpa using hl) λj x u h3 h4=>hv (j+1) x u (by simpa using h3) (by simpa using h4))
  ·cases h
end
section
variable {P:Program} {E:En} [Tb P E] {g:Gh} {st st':St} {a:Act} {w:World}
def Vw(P:Program)(f:FuncId)(e:TypeId)(ts:List T)(rows:List (List T))(args:List V)(lo m:Nat):Prop :=
 tF P f/\∀ (w:World) (F:Nat->Prop) (v:Value) (us vs inner:List Value),(∀ b,F b->b < w.heap.size)->w.ownsRow 0 e 1 v rows.length inner->Au w F 1 rows inner->(∀ b,v.ownBlock=some b->¬ F b) ->
  us.length=ts.length->(∀ (j:Nat) (x:T) (u:Value),ts[j]?=some x->us[j]?=some u->Rd w F x u)->By w F args vs []->Mm P w (λb=>v.ownBlock=some b) ->
  Calls P f (Value.agg (us++[v]).toArray :: vs).toArray w λex w'=>∃ ad n c a' c' inner',v=.slice ad n c/\ex=.returned (.slice a' m c')/\lo+m<=n/\(0 < m->∃ b,ad=some ⟨b,0,none⟩/\a'=some ⟨b,lo,none⟩)/\qI w w' /\
   (∀ b,b < w.heap.size->v.ownBlock≠some b->w'.heap[b]?=w.heap[b]?)/\w'.ownsRow 0 e 1 v rows.length inner'/\Au w' F 1 rows inner'
theorem Pp{n f r e lo m:Nat}{ts:List T}{rows:List (List T)}{o:Oper}{xf:Operand}{args:Array Operand}{tys:Array TypeId}{as:List A}{vs:List V}
  (hS:iQ E g n st a w) (ho:o.op=.call { callee:=.value xf,args,argTypes:=tys }) (hf:st.eval xf=some (.clo f [])) (ly:de (args.toList.map st.eval)=some (.agg (ts.map A.t++[.own r]) :: as))
  (hrw:st.rw r=some (.live e 1 rows)) (hp:Po as=some vs) (hc:Vw P f e ts rows vs lo m) :
  wM P o a w λv w'=>∃ g',wK E g st w (.win r lo m) st v g' w':=by
 have hM:=hS.mem;obtain ⟨hcl,hcc⟩:=hc;have hvf:=bS hS hf;generalize hvv:a.eval xf=vf at hvf;obtain ⟨ha1,ha2⟩:=y0 hS ly;have hL:st.L r:=⟨e,1,rows,hrw⟩
 cases hvf with
 | clo f caps vcaps hl hx' =>
  have:vcaps=[]:=rg hl.symm;subst this;refine je ho hvv hcl ?_;rw [zWj];generalize args.toList.map a.eval=us at ha1 ha2
  match us,ha1 with
  | u0 :: us,ha1 =>
   have h0:=ha2 0 _ u0 rfl rfl
   cases h0 with
   | agg _ cells hcl hcx =>
    have hlen:cells.length=ts.length+1:=by rw [<- hcl]; simp
    obtain ⟨us0,v,hcells,hus⟩:∃ us0 v,cells=us0++[v]/\us0.length=ts.length:=⟨cells.take ts.length,cells[ts.length]'(by omega),by
     rw [show [cells[ts.length]'(by omega)]=cells.drop ts.length by rw [zXG (by omega)]; simp [List.drop_eq_nil_of_le (show cells.length<=ts.length+1 by omega)],zXj],by simp; omega⟩
    subst hcells;have hv:=hcx ts.length (.own r) v (by simp) (by rw [<- hus]; simp)
    cases hv with
    | own _ hR =>
    have hVV:By w g.F vs us []:=TH hp (by simpa using ha1) λj x u h3 h4=>ha2 (j+1) x u (by simpa using h3) (by simpa using h4);have hts:∀ (j:Nat) (x:T) (u:Value),ts[j]?=some x->us0[j]?=some u->Rd w g.F x u:=λj x u h3 h4=>by
     have hlt:j < ts.length:=(List.getElem?_eq_some_iff.1 h3).1;have:=hcx j (.t x) u (by rw [r0 (by simpa using hlt)]; simp [h3]) (by rw [r0 (by omega)]; exact h4)
     cases this with
     | t _ _ h=>exact h
    obtain ⟨inner,hown,hRC,_⟩:=(hM.row r _ hrw).rcs;refine (hcc w g.F (g.rw r) us0 us inner (λb hb=>(hM.F b hb).1) hown hRC (λb hb=>(hM.row_nf hL hb).1) hus hts hVV (hM.tbW λb h1 h2 _ h3=>(hM.row_nf hL h3).2.elim (λh=>absurd h1 (Nat.not_lt.2 h)) h2)).mono λex w' ⟨ad,n',c,a',c',inner',hv,he,hm,hpp,hcalm,hsame,hown',hRC'⟩=>⟨_,he,?_⟩;obtain ⟨hM2,hE2⟩:=hM.set_row hcalm r _ e 1 rows hrw hL hsame (hRC'.rowAt (E:=E) (g:=g) hown' (λb hb=>hM.row_nf hL hb));rw [JY hrw] at hM2 hE2;exact ⟨g,hM2,.win r lo m n' c c' ad a' hR hv hm hpp,hE2,rfl⟩
end
end Go.Tm
namespace Go.Tm
open Go.RowKit
structure QO where
 oR:Nat->Prop
 oW:Nat->Prop
 rR:Nat->Prop
 rW:Nat->Prop
def MA.In{α:Type}(D:QO):MA α->Prop
 | .ret _=>True
 | .fail=>True
 | .getOb s k=>D.oR s/\∀ x,(k x).In D
 | .getRw r k=>D.rR r/\∀ x,(k x).In D
 | .setOb s _ k=>D.oW s/\k.In D
 | .setRw r _ k=>D.rW r/\k.In D
structure QD (D:QO) (st st':St):Prop where
 tm:st'.tm=st.tm
 ob:∀ s,¬ D.oW s->st'.ob s=st.ob s
 rw:∀ r,¬ D.rW r->st'.rw r=st.rw r
structure On (D:QO) (st st':St):Prop where
 ob:∀ s,D.oR s->st'.ob s=st.ob s
 rw:∀ r,D.rR r->st'.rw r=st.rw r
structure QO.ok (D:QO):Prop where
 ob:∀ s,D.oW s->D.oR s
 rw:∀ s,D.rW s->D.rR s
theorem QD.refl(D:QO)(st:St):QD D st st:=⟨rfl,λ_ _=>rfl,λ_ _=>rfl⟩
theorem QD.trans{D:QO}{a b c:St}(h:QD D a b)(h':QD D b c):QD D a c :=
 ⟨h'.tm.trans h.tm,λs hs=>(h'.ob s hs).trans (h.ob s hs),λs hs=>(h'.rw s hs).trans (h.rw s hs)⟩
theorem QP{α:Type}{f g:Nat->α}{k j:Nat}{c:α}(h:f j=g j):et f k c j=et g k c j:=by
 simp only [et,h]
theorem m3{α:Type}{D:QO}:∀ (m:MA α) {st st':St} {x:α},m.In D->m.run st=some (x,st') ->
  QD D st st'/\∀ st2,On D st st2->∃ st2',m.run st2=some (x,st2')/\QD D st2 st2'/\On D st' st2'
 | .ret v,st,st',x,_,h=>by
  obtain ⟨rfl,rfl⟩:=eR h;exact ⟨QD.refl _ _,λst2 h2=>⟨st2,rfl,QD.refl _ _,h2⟩⟩
 | .fail,st,st',x,_,h=>(aP h).elim
 | .getOb s k,st,st',x,hi,h=>by
  obtain ⟨h1,h2⟩:=m3 (k (st.ob s)) (hi.2 _) h;refine ⟨h1,λst2 ho=>?_⟩;simp only [MA.run,ho.ob s hi.1];exact h2 st2 ho
 | .getRw s k,st,st',x,hi,h=>by
  obtain ⟨h1,h2⟩:=m3 (k (st.rw s)) (hi.2 _) h;refine ⟨h1,λst2 ho=>?_⟩;simp only [MA.run,ho.rw s hi.1];exact h2 st2 ho
 | .setOb s c k,st,st',x,hi,h=>by
  simp only [MA.run] at h;obtain ⟨h1,h2⟩:=m3 k hi.2 h;refine ⟨⟨h1.tm,λs' hs'=>?_,h1.rw⟩,λst2 ho=>?_⟩
  ·rw [h1.ob s' hs'];exact ca _ _ _ _ (λhe=>hs' (he ▸ hi.1))
  ·obtain ⟨st2',h3,h4,h5⟩:=h2 { st2 with ob:=et st2.ob s (some c) } ⟨λs' hs'=>QP (ho.ob s' hs'),ho.rw⟩;refine ⟨st2',h3,⟨h4.tm,λs' hs'=>?_,h4.rw⟩,h5⟩;rw [h4.ob s' hs'];exact ca _ _ _ _ (λhe=>hs' (he ▸ hi.1))
 | .setRw s c k,st,st',x,hi,h=>by
  simp only [MA.run] at h;obtain ⟨h1,h2⟩:=m3 k hi.2 h;refine ⟨⟨h1.tm,h1.ob,λs' hs'=>?_⟩,λst2 ho=>?_⟩
  ·rw [h1.rw s' hs'];exact ca _ _ _ _ (λhe=>hs' (he ▸ hi.1))
  ·obtain ⟨st2',h3,h4,h5⟩:=h2 { st2 with rw:=et st2.rw s (some c) } ⟨ho.ob,λs' hs'=>QP (ho.rw s' hs')⟩;refine ⟨st2',h3,⟨h4.tm,h4.ob,λs' hs'=>?_⟩,h5⟩;rw [h4.rw s' hs'];exact ca _ _ _ _ (λhe=>hs' (he ▸ hi.1))
mutual
def A.inR(Q:Nat->Prop):A->Prop
 | .own r=>Q r
 | .elem r _ _ _=>Q r
 | .sub r _ _=>Q r
 | .win r _ _=>Q r
 | .agg l=>eP Q l
 | .tup l=>eP Q l
 | .clo _ l=>eP Q l
 | _=>True
def eP(Q:Nat->Prop):List A->Prop
 | []=>True
 | a :: r=>a.inR Q/\eP Q r
end
mutual
theorem CC{Q:Nat->Prop}(h:∀ r,Q r):∀ a:A,a.inR Q
 | .own r=>by unfold A.inR; exact h r
 | .elem r _ _ _=>by unfold A.inR; exact h r
 | .sub r _ _=>by unfold A.inR; exact h r
 | .win r _ _=>by unfold A.inR; exact h r
 | .agg l=>by unfold A.inR; exact pF h l
 | .tup l=>by unfold A.inR; exact pF h l
 | .clo _ l=>by unfold A.inR; exact pF h l
 | .t _ | .nil | .obj _ _ | .fadr _ | .nn _ _ | .undef | .raw _ | .osl _ _ _ _ | .ext _ _ | .exa _ _ | .shp _=>by unfold A.inR; trivial
theorem pF{Q:Nat->Prop}(h:∀ r,Q r):∀ l:List A,eP Q l
 | []=>by unfold eP; trivial
 | a :: r=>by unfold eP; exact ⟨CC h a,pF h r⟩
end
theorem KE{Q:Nat->Prop}:∀ {l:List A},eP Q l->∀ a∈l,a.inR Q
 | [],_,a,h=>by simp at h
 | x :: l,hl,a,h=>by
  unfold eP at hl;rcases List.mem_cons.1 h with rfl | h
  ·exact hl.1
  ·exact KE hl.2 a h
theorem qr{Q:Nat->Prop}:∀ {l:List A},(∀ a∈l,a.inR Q)->eP Q l
 | [],_=>by unfold eP; trivial
 | x :: l,h=>by unfold eP; exact ⟨h x (by simp),qr (λa ha=>h a (by simp [ha]))⟩
theorem Az{Q:Nat->Prop}{a:A}(h:a.inR Q):eP Q a.cells:=by
 cases a <;> simp only [A.cells] <;> first | (unfold A.inR at h; exact h) | (unfold eP; exact ⟨h,by unfold eP; trivial⟩)
section
variable {D:QO} {α:Type}
theorem QQ{a:A}{k:T->MA α}(ha:a.inR λr=>D.rR r/\D.rW r)(hk:∀ x,(k x).In D):(a.toT k).In D:=by
 cases a <;> simp only [A.toT,MA.In] <;> first | exact hk _ | trivial | skip
 unfold A.inR at ha;refine ⟨ha.1,λx=>?_⟩;rcases x with _ | (_ | _ | _) <;> simp only [MA.In] <;> first | exact hk _ | exact ⟨ha.2,hk _⟩
theorem CD:∀ {l:List A} {k:List T->MA α},eP (λr=>D.rR r/\D.rW r) l->(∀ x,(k x).In D)->(A.toTs l k).In D
 | [],k,_,hk=>hk []
 | a :: l,k,hl,hk=>by
  unfold eP at hl;exact QQ hl.1 λx=>CD hl.2 λxs=>hk _
theorem Fw{Q:Nat->Prop}{lb:List Nat}{l:List A}(h:eP Q l):eP Q (lh lb l) :=
 qr λa ha=>by
  obtain ⟨j,hj⟩:=zYh ha;obtain ⟨y,h1,h2⟩:=G4 lb l j a hj;rcases h2 with rfl | ⟨_,n,rfl⟩
  ·exact KE h _ (zQX h1)
  ·unfold A.inR; trivial
theorem Pq{lb:List Nat}{sz:Nat}:∀ {ps:List (Nat×A)} {rows:List (List T)} {k:List (List T)->MA α},(∀ q∈ps,q.2.inR λr=>D.rR r/\D.rW r)->(∀ x,(k x).In D)->(Ko lb sz rows ps k).In D
 | [],rows,k,_,hk=>hk _
 | (i,x) :: r,rows,k,hl,hk=>by
  unfold Ko
  split
  ·exact CD (Fw (Az (hl (i,x) (by simp)))) λts=>Pq (λq hq=>hl q (by simp [hq])) hk
  ·trivial
theorem Fx{a:A}{k:Nat->List (List T)->MA α}(ha:a.inR D.rR)(hk:∀ n x,(k n x).In D):(a.rows k).In D:=by
 unfold A.rows
 split <;> first | exact hk _ _ | trivial | skip
 ·split <;> first | exact hk _ _ | trivial
 ·unfold A.inR at ha;refine ⟨ha,λx=>?_⟩;rcases x with _ | (_ | _ | _) <;> first | exact hk _ _ | trivial
theorem Fy{r e sz:Nat}{rows:List (List T)}(h:D.rR r/\D.rW r):(wx r e sz rows).In D:=by
 refine ⟨h.1,λx=>?_⟩
 cases x <;> first | exact ⟨h.2,trivial⟩ | trivial
theorem RZ{d:Nat}{cells:List A}(h:D.oR d/\D.oW d):(O0 d cells).In D:=by
 refine ⟨h.1,λx=>?_⟩
 cases x <;> simp only
 ·split <;> first | exact ⟨h.2,trivial⟩ | trivial
 ·trivial
theorem sD{m:Bool}{a:A}{k:C->MA α}(ha:a.inR λr=>D.rR r/\D.rW r)(hk:∀ x,(k x).In D):(a.toC m k).In D:=by
 unfold A.toC
 split
 ·unfold A.inR at ha;refine ⟨ha.1,λx=>?_⟩;rcases x with _ | (_ | _ | _) <;> first | exact hk _ | exact ⟨ha.2,hk _⟩ | trivial
 ·exact hk _
 ·exact QQ ha λx=>hk _
theorem NS{m:Bool}:∀ {l:List A} {k:List C->MA α},eP (λr=>D.rR r/\D.rW r) l->(∀ x,(k x).In D)->(D4 m l k).In D
 | [],k,_,hk=>hk []
 | a :: l,k,hl,hk=>by
  unfold eP at hl;exact sD hl.1 λx=>NS hl.2 λxs=>hk _
mutual
theorem TI{m:Bool}:∀ {a:A} {k:V->MA α},a.inR (λr=>D.rR r/\D.rW r)->(∀ x,(k x).In D)->(oU m a k).In D
 | .agg l,k,ha,hk=>by unfold A.inR at ha; unfold oU; exact NS ha λ_=>hk _
 | .fadr l,k,ha,hk=>by unfold oU; exact hk _
 | .clo f l,k,ha,hk=>by unfold A.inR at ha; unfold oU; exact NT ha λ_=>hk _
 | .tup l,k,ha,hk=>by unfold A.inR at ha; unfold oU; exact NT ha λ_=>hk _
 | .t x,k,ha,hk=>by unfold oU; exact sD ha λ_=>hk _
 | .nn _ _,k,ha,hk=>by unfold oU; exact sD ha λ_=>hk _
 | .nil,k,ha,hk=>by unfold oU; exact sD ha λ_=>hk _
 | .own x,k,ha,hk=>by unfold oU; exact sD ha λ_=>hk _
 | .obj _ _,k,ha,hk=>by unfold oU; exact sD ha λ_=>hk _
 | .elem _ _ _ _,k,ha,hk=>by unfold oU; exact sD ha λ_=>hk _
 | .win _ _ _,k,ha,hk=>by unfold oU; exact sD ha λ_=>hk _
 | .sub _ _ _,k,ha,hk=>by unfold oU; exact sD ha λ_=>hk _
 | .undef,k,ha,hk=>by unfold oU; exact sD ha λ_=>hk _
 | .raw _,k,ha,hk=>by unfold oU; exact sD ha λ_=>hk _
 | .osl _ _ _ _,k,ha,hk=>by unfold oU; exact sD ha λ_=>hk _
 | .ext _ _,k,ha,hk=>by unfold oU; exact sD ha λ_=>hk _
 | .exa _ _,k,ha,hk=>by unfold oU; exact sD ha λ_=>hk _
 | .shp _,k,ha,hk=>by unfold oU; exact sD ha λ_=>hk _
theorem NT{m:Bool}:∀ {l:List A} {k:List V->MA α},eP (λr=>D.rR r/\D.rW r) l->(∀ x,(k x).In D)->(Av m l k).In D
 | [],k,_,hk=>by unfold Av; exact hk _
 | a :: l,k,hl,hk=>by unfold eP at hl; unfold Av; exact TI hl.1 λx=>NT hl.2 λxs=>hk _
end
theorem SI{s:Nat}{k:List C->MA α}(ho:D.oR s/\D.oW s)(ha:∀ r,D.rR r/\D.rW r)(hk:∀ x,(k x).In D):(BM s k).In D:=by
 refine ⟨ho.1,λx=>?_⟩;rcases x with _ | (_ | ⟨c,cells⟩) <;> simp only <;> first | exact NS (pF ha _) λx=>⟨ho.2,hk _⟩ | trivial
theorem QR{s:Nat}{k:List C->MA α}(ho:D.oR s/\D.oW s)(hk:∀ x,(k x).In D):(Fu s k).In D:=by
 refine ⟨ho.1,λx=>?_⟩;rcases x with _ | (_ | ⟨c,cells⟩) <;> simp only <;> first | trivial | skip
 split <;> first | exact ⟨ho.2,hk _⟩ | trivial
def A.argIn(D:QO)(p:Nat->Bool):A->Prop
 | .obj s 0=>(D.oR s/\D.oW s)/\(p s=false->∀ r,D.rR r/\D.rW r)
 | a=>a.inR λr=>D.rR r/\D.rW r
theorem Fz{m:Bool}{p:Nat->Bool}:∀ {l:List A} {k:List V->MA α},(∀ a∈l,a.argIn D p)->(∀ x,(k x).In D)->(kx m p l k).In D
 | [],k,_,hk=>by unfold kx; exact hk _
 | a :: l,k,hl,hk=>by
  have h0:=hl a (by simp);have ih:∀ {k:List V->MA α},(∀ x,(k x).In D)->(kx m p l k).In D:=λh=>Fz (λa ha=>hl a (by simp [ha])) h;unfold kx
  split
  ·rename_i heq; cases heq
  ·rename_i heq;injection heq with h1 h2
   subst h1 h2;unfold A.argIn at h0
   split
   ·exact QR h0.1 λx=>ih λ_=>hk _
   ·rename_i hp;exact SI h0.1 (h0.2 (by simpa using hp)) λx=>ih λ_=>hk _
  ·rename_i hna heq;injection heq with h1 h2
   subst h1 h2;refine TI ?_ λx=>ih λ_=>hk _;unfold A.argIn at h0
   split at h0
   ·exact absurd rfl (hna _)
   ·exact h0
theorem jZ{a:A}{k:T->MA α}(ha:a.inR D.rR)(hk:∀ x,(k x).In D):(a.peekT k).In D:=by
 unfold A.peekT
 split <;> first | exact hk _ | trivial | skip
 unfold A.inR at ha;refine ⟨ha,λx=>?_⟩;rcases x with _ | (_ | _ | _) <;> first | exact hk _ | trivial
theorem Nd:∀ {l:List A} {k:List T->MA α},eP D.rR l->(∀ x,(k x).In D)->(Fv l k).In D
 | [],k,_,hk=>hk []
 | a :: l,k,hl,hk=>by
  unfold eP at hl;exact jZ hl.1 λx=>Nd hl.2 λxs=>hk _
mutual
theorem TJ:∀ {a:A} {k:V->MA α},a.inR D.rR->(∀ x,(k x).In D)->(iF a k).In D
 | .agg l,k,ha,hk=>by unfold A.inR at ha; unfold iF; exact Nd ha λ_=>hk _
 | .fadr l,k,ha,hk=>by unfold iF; exact hk _
 | .clo f l,k,ha,hk=>by unfold A.inR at ha; unfold iF; exact qs ha λ_=>hk _
 | .tup l,k,ha,hk=>by unfold iF; exact jZ ha λ_=>hk _
 | .t x,k,ha,hk=>by unfold iF; exact jZ ha λ_=>hk _
 | .nn _ _,k,ha,hk=>by unfold iF; exact jZ ha λ_=>hk _
 | .nil,k,ha,hk=>by unfold iF; exact jZ ha λ_=>hk _
 | .own x,k,ha,hk=>by unfold iF; exact jZ ha λ_=>hk _
 | .obj _ _,k,ha,hk=>by unfold iF; exact jZ ha λ_=>hk _
 | .elem _ _ _ _,k,ha,hk=>by unfold iF; exact jZ ha λ_=>hk _
 | .win _ _ _,k,ha,hk=>by unfold iF; exact jZ ha λ_=>hk _
 | .sub _ _ _,k,ha,hk=>by unfold iF; exact jZ ha λ_=>hk _
 | .undef,k,ha,hk=>by unfold iF; exact jZ ha λ_=>hk _
 | .raw _,k,ha,hk=>by unfold iF; exact jZ ha λ_=>hk _
 | .osl _ _ _ _,k,ha,hk=>by unfold iF; exact jZ ha λ_=>hk _
 | .ext _ _,k,ha,hk=>by unfold iF; exact jZ ha λ_=>hk _
 | .exa _ _,k,ha,hk=>by unfold iF; exact jZ ha λ_=>hk _
 | .shp _,k,ha,hk=>by unfold iF; exact jZ ha λ_=>hk _
theorem qs:∀ {l:List A} {k:List V->MA α},eP D.rR l->(∀ x,(k x).In D)->(dQ l k).In D
 | [],k,_,hk=>by unfold dQ; exact hk _
 | a :: l,k,hl,hk=>by unfold eP at hl; unfold dQ; exact TJ hl.1 λx=>qs hl.2 λxs=>hk _
end
variable {d:Nat}
theorem TK{id:Nat}{c:C}{k:A->MA α}(hd:∀ r,r / 65536=d->D.rR r/\D.rW r)(hk:∀ x,(k x).In D):(c.toA d id k).In D:=by
 cases c <;> simp only [C.toA] <;> first | exact hk _ | skip
 split
 ·rename_i h;refine ⟨(hd _ h).1,λx=>?_⟩
  cases x <;> first | exact ⟨(hd _ h).2,hk _⟩ | trivial
 ·trivial
theorem J0(hd:∀ r,r / 65536=d->D.rR r/\D.rW r):∀ {l:List C} {id:Nat} {k:List A->MA α},(∀ x,(k x).In D)->(G6 d id l k).In D
 | [],id,k,hk=>hk []
 | a :: l,id,k,hk=>TK hd λx=>J0 hd λxs=>hk _
mutual
theorem FA(hd:∀ r,r / 65536=d->D.rR r/\D.rW r)(ho:D.oR d/\D.oW d):∀ {v:V} {id:Nat} {k:A->MA α},(∀ x,(k x).In D)->(V.toA d id v k).In D
 | .one c,id,k,hk=>by unfold V.toA; exact TK hd hk
 | .agg l,id,k,hk=>by unfold V.toA; exact J0 hd λ_=>hk _
 | .tup l,id,k,hk=>by unfold V.toA; exact KF hd ho λ_=>hk _
 | .ptr l,id,k,hk=>by
  unfold V.toA;refine J0 hd λ_=>⟨ho.1,λx=>?_⟩
  cases x <;> first | exact ⟨ho.2,hk _⟩ | trivial
 | .fptr l,id,k,hk=>by unfold V.toA; exact hk _
 | .clo f l,id,k,hk=>by unfold V.toA; exact KF hd ho λ_=>hk _
theorem KF(hd:∀ r,r / 65536=d->D.rR r/\D.rW r)(ho:D.oR d/\D.oW d):∀ {l:List V} {id:Nat} {k:List A->MA α},(∀ x,(k x).In D)->(Aw d id l k).In D
 | [],id,k,hk=>by unfold Aw; exact hk _
 | a :: l,id,k,hk=>by unfold Aw; exact FA hd ho λx=>KF hd ho λxs=>hk _
end
theorem yu(hd:∀ r,r / 65536=d->D.rR r/\D.rW r):∀ {ss:List Nat} {os:List (List C)} {k:MA α},(∀ s∈ss,D.oR s/\D.oW s)->k.In D->(dC d ss os k).In D
 | [],[],k,_,hk=>hk
 | s :: ss,c :: cs,k,hs,hk=>by
  unfold dC;refine J0 hd λx=>⟨(hs s (by simp)).1,λy=>?_⟩
  cases y <;> first | exact ⟨(hs s (by simp)).2,yu hd (λs h=>hs s (by simp [h])) hk⟩ | trivial
 | [],_ :: _,k,_,hk=>trivial
 | _ :: _,[],k,_,hk=>trivial
theorem BN{p:Nat->Bool}:∀ {l:List A},(∀ a∈l,a.argIn D p)->∀ s∈dP l,D.oR s/\D.oW s
 | [],_,s,h=>by simp [dP] at h
 | a :: l,hl,s,h=>by
  have h0:=hl a (by simp);unfold dP at h
  split at h
  ·rename_i heq; cases heq
  ·rename_i heq;injection heq with h1 h2
   subst h1 h2;rcases List.mem_cons.1 h with rfl | h
   ·exact h0.1
   ·exact BN (λa ha=>hl a (by simp [ha])) s h
  ·rename_i heq;injection heq with h1 h2
   subst h1 h2;exact BN (λa ha=>hl a (by simp [ha])) s h
end
end Go.Tm
namespace Go.Tm
open Go.RowKit
def ly(l:Option (List Nat))(k:Nat):Prop:=match l with | none=>True | some l=>k∈l
def ET(a b:Option (List Nat)):Option (List Nat):=match a,b with | some a,some b=>some (a++b) | _,_=>none
def C8:List (Option (List Nat))->Option (List Nat)
 | []=>some []
 | a :: r=>ET a (C8 r)
theorem mz{a b:Option (List Nat)}{k:Nat}:ly (ET a b) k↔ly a k\/ly b k:=by
 cases a <;> cases b <;> simp [ET,ly]
theorem KG{l:List (Option (List Nat))}{k:Nat}:∀ {x},x∈l->ly x k->ly (C8 l) k:=by
 induction l with
 | nil=>intro x h; simp at h
 | cons y l ih =>
  intro x h hx;unfold C8;rcases List.mem_cons.1 h with rfl | h
  ·exact mz.2 (.inl hx)
  ·exact mz.2 (.inr (ih h hx))
def dX.rows:dX->Option (List Nat)
 | .frz | .obj _=>some []
 | .own d=>some [d]
 | .el d=>some [d]
 | .win d=>some [d]
 | _=>none
def dX.objs:dX->Option (List Nat)
 | .obj s=>some [s]
 | .any=>none
 | _=>some []
def xZ(ρ:Nat->dX):Operand->dX
 | .tmp t=>ρ t
 | _=>.frz
structure Fp where
 oR:Option (List Nat)
 oW:Option (List Nat)
 rR:Option (List Nat)
 rW:Option (List Nat)
def Fp.dom(f:Fp):QO:=⟨ly f.oR,ly f.oW,λr=>ly f.rR (r / 65536),λr=>ly f.rW (r / 65536)⟩
def dX.isObj:dX->Bool
 | .obj _=>true
 | _=>false
def uS(p:Nat->Bool):dX->Option (List Nat)
 | .obj s=>if p s then some [] else none
 | r=>r.rows
def kM:Option Nat->Option (List Nat)
 | some d=>some [d]
 | none=>some []
def ci(ρ:Nat->dX)(o:Oper):Option (List Nat):=C8 (o.op.operands.toList.map λx=>(xZ ρ x).rows)
def dc(p:Nat->Bool)(ρ:Nat->dX)(o:Oper):Fp :=
 match o.op with
 | .alloc _=>⟨kM o.dst,kM o.dst,some [],some []⟩
 | .box ..=>⟨kM o.dst,kM o.dst,ci ρ o,ci ρ o⟩
 | .buildSlice .. | .makeSlice ..=>⟨some [],some [],ET (ci ρ o) (kM o.dst),ET (ci ρ o) (kM o.dst)⟩
 | .load _ a=>⟨(xZ ρ a).objs,some [],(xZ ρ a).rows,some []⟩
 | .store _ a _=>if (xZ ρ a).isObj then ⟨(xZ ρ a).objs,(xZ ρ a).objs,some [],some []⟩ else ⟨(xZ ρ a).objs,(xZ ρ a).objs,ci ρ o,ci ρ o⟩
 | .slice ..=>⟨some [],some [],ET (ci ρ o) (kM o.dst),ET (ci ρ o) (kM o.dst)⟩
 | .call { callee:=.builtin .copy,.. } | .call { callee:=.builtin .clear,.. }=>⟨some [],some [],ci ρ o,ci ρ o⟩
 | .indexAddr .. | .convert .. | .call { callee:=.builtin .len,.. }=>⟨some [],some [],ci ρ o,some []⟩
 | .call { callee:=.builtin .append,.. }=>⟨some [],some [],ET (ci ρ o) (kM o.dst),ET (ci ρ o) (kM o.dst)⟩
 | .call { callee:=.value _,.. } =>
  ⟨ET (C8 (o.op.operands.toList.map λx=>(xZ ρ x).objs)) (kM o.dst),ET (C8 (o.op.operands.toList.map λx=>(xZ ρ x).objs)) (kM o.dst),
   ET (C8 (o.op.operands.toList.map λx=>uS p (xZ ρ x))) (kM o.dst),ET (C8 (o.op.operands.toList.map λx=>uS p (xZ ρ x))) (kM o.dst)⟩
 | _=>⟨some [],some [],some [],some []⟩
theorem J1(p:Nat->Bool)(ρ:Nat->dX)(o:Oper):(dc p ρ o).dom.ok:=by
 unfold dc
 split
 all_goals first | exact ⟨λ_ h=>h,λ_ h=>h⟩ | (split <;> exact ⟨λ_ h=>h,λ_ h=>h⟩) | exact ⟨λ_ h=>by simp [Fp.dom,ly] at h,λ_ h=>by simp [Fp.dom,ly] at h⟩
structure WO (ρ:Nat->dX) (x:Operand) (a:A):Prop where
 rows:a.inR λr=>ly (xZ ρ x).rows (r / 65536)
 objs:∀ s off,a=.obj s off->ly (xZ ρ x).objs s
 isob:(xZ ρ x).isObj=true->∃ s off,a=.obj s off
theorem SJ{r:dX}{a:A}(h:r.fits a=true)(hr:r.isObj=true):∃ s off,a=.obj s off:=by
 cases r <;> cases a <;> simp [dX.fits,dX.isObj] at h hr ⊢
theorem Ne{Q:Nat->Prop}{a:A}(h:a.leafy=true):a.inR Q:=by
 cases a <;> first | (unfold A.inR; trivial) | (simp [A.leafy] at h)
theorem Pr{r:dX}{a:A}(h:r.fits a=true):(a.inR λi=>ly r.rows (i / 65536))/\∀ s off,a=.obj s off->ly r.objs s:=by
 by_cases hag:∃ l,r=.frz/\a=.agg l
 ·obtain ⟨l,rfl,rfl⟩:=hag;refine ⟨?_,λs off h=>by cases h⟩;unfold A.inR;exact qr λx hx=>Ne (List.all_eq_true.1 h x hx)
 by_cases hag2:∃ d l,r=.own d/\a=.agg l
 ·obtain ⟨d,l,rfl,rfl⟩:=hag2;refine ⟨?_,λs off h=>by cases h⟩;unfold A.inR;refine qr λx hx=>?_;have:=List.all_eq_true.1 h x hx
  cases x with
  | own r=>unfold A.inR; simpa [dX.rows,ly] using this
  | _=>exact Ne this
 cases r <;> cases a <;> (try simp [dX.fits,dX.rows,dX.objs,ly] at h hag ⊢) <;> (try exact absurd ⟨_,_,rfl,rfl⟩ hag2) <;>
  first
   | exact CC (λ_=>trivial) _
   | (unfold A.inR; first | trivial | simp [h])
   | (refine ⟨by unfold A.inR; trivial,?_⟩; intro s off h1 h2; simp [<- h1,h])
   | skip
theorem Dg{Q:Nat->Prop}:∀ {l:List (Option A)} {r:List A},(∀ y∈l,∀ a,y=some a->a.inR Q)->de l=some r->eP Q r:=by
 intro l r hl h;have:=Fo h;subst this;exact qr λa ha=>hl (some a) (List.mem_map.2 ⟨a,ha,rfl⟩) a rfl
theorem AA{Q:Nat->Prop}{v:Value}{a:A}(h:nE v=some a):a.inR Q:=by
 unfold nE at h
 split at h <;> cases h <;> (unfold A.inR; trivial)
theorem BO{Q:Nat->Prop}{v:Value}{a:A}(h:A.ofValue v=some a):(a.inR Q)/\∀ s off,a≠.obj s off:=by
 unfold A.ofValue at h
 split at h
 ·split at h
  ·rename_i l hl
   cases h
   refine ⟨?_,λ_ _ h=>by cases h⟩;unfold A.inR;exact Dg (λy hy a he=>by
    obtain ⟨v,_,hv⟩:=List.mem_map.1 hy;exact AA (hv.trans he)) hl
  ·cases h
 ·cases h
  exact ⟨by unfold A.inR; trivial,λs off he=>by cases he⟩
 ·refine ⟨AA h,λs off he=>?_⟩;subst he;unfold nE at h
  split at h <;> cases h
theorem Nf{P:Program}{Q:Nat->Prop}{t:TypeId}{z:List A}(h:tD P t=some z):eP Q z:=by
 unfold tD at h
 split at h
 ·exact Dg (λy hy a he=>by
   obtain ⟨v,_,hv⟩:=List.mem_map.1 hy;exact AA (hv.trans he)) h
 ·cases h
theorem TL{ρ:Nat->dX}{st:St}{o:Oper}(hf:eO ρ st o=true){x:Operand}{a:A}(hx:x∈o.op.operands.toList)(h:st.eval x=some a):WO ρ x a:=by
 cases x with
 | tmp t =>
  simp only [St.eval,Option.some.injEq] at h;subst h;have:=List.all_eq_true.1 hf _ hx;exact ⟨(Pr this).1,(Pr this).2,λh=>SJ this h⟩
 | const v=>exact ⟨(BO h).1,λs off he=>absurd he ((BO (Q:=λ_=>True) h).2 s off),λh=>by simp [xZ,dX.isObj] at h⟩
 | func f =>
  simp only [St.eval,Option.some.injEq] at h;subst h;exact ⟨by unfold A.inR; unfold eP; trivial,λs off he=>(by cases he),λh=>by simp [xZ,dX.isObj] at h⟩
 | global _=>cases h
mutual
theorem ib{Q Q':Nat->Prop}(h:∀ r,Q r->Q' r):∀ {a:A},a.inR Q->a.inR Q'
 | .own r,hq=>by unfold A.inR at hq ⊢; exact h _ hq
 | .elem r _ _ _,hq=>by unfold A.inR at hq ⊢; exact h _ hq
 | .sub r _ _,hq=>by unfold A.inR at hq ⊢; exact h _ hq
 | .win r _ _,hq=>by unfold A.inR at hq ⊢; exact h _ hq
 | .agg l,hq=>by unfold A.inR at hq ⊢; exact CE h hq
 | .tup l,hq=>by unfold A.inR at hq ⊢; exact CE h hq
 | .clo _ l,hq=>by unfold A.inR at hq ⊢; exact CE h hq
 | .t _,_ | .nil,_ | .obj _ _,_ | .fadr _,_ | .nn _ _,_ | .undef,_ | .raw _,_ | .osl _ _ _ _,_ | .ext _ _,_ | .exa _ _,_ | .shp _,_=>by unfold A.inR; trivial
theorem CE{Q Q':Nat->Prop}(h:∀ r,Q r->Q' r):∀ {l:List A},eP Q l->eP Q' l
 | [],_=>by unfold eP; trivial
 | a :: r,hq=>by unfold eP at hq ⊢; exact ⟨ib h hq.1,CE h hq.2⟩
end
end Go.Tm
set_option maxHeartbeats 1000000
namespace Go.Tm
open Go.RowKit
section
variable {D:QO} {P:Program} {ρ:Nat->dX}
theorem dJ{o:Oper}{x:Operand}{k:Nat}(hx:x∈o.op.operands.toList)(h:ly (xZ ρ x).rows k):ly (ci ρ o) k :=
 KG (List.mem_map.2 ⟨x,hx,rfl⟩) h
theorem UI{t:TypeId}{a:A}(ho:∀ s off,a=.obj s off->D.oR s)(hr:a.inR D.rR):(G2 P t a).In D:=by
 unfold G2
 split <;> try trivial
 split <;> try trivial
 ·refine ⟨ho _ _ rfl,λx=>?_⟩
  cases x <;> simp only [MA.In]
  split <;> trivial
 ·unfold A.inR at hr;refine ⟨hr,λx=>?_⟩;rcases x with _ | (_ | _ | _) <;> (try dsimp only) <;> (try trivial)
  all_goals
   split <;> try trivial
   split <;> try trivial
   split <;> trivial
 ·split <;> trivial
 ·split <;> trivial
theorem Ps{t:TypeId}{a x:A}(ho:∀ s off,a=.obj s off->D.oR s/\D.oW s)(hr:(∃ s off,a=.obj s off)\/((a.inR λr=>D.rR r/\D.rW r)/\x.inR λr=>D.rR r/\D.rW r)):(As P t a x).In D:=by
 unfold As
 split <;> try trivial
 split <;> try trivial
 split <;> try trivial
 ·refine ⟨(ho _ _ rfl).1,λx=>?_⟩
  cases x <;> simp only [MA.In]
  split <;> first | trivial | exact ⟨(ho _ _ rfl).2,trivial⟩
 ·rcases hr with ⟨s,off,h⟩ | ⟨h1,h2⟩
  ·cases h
  refine CD (Fw (Az h2)) λts=>?_;unfold A.inR at h1;refine ⟨h1.1,λx=>?_⟩;rcases x with _ | (_ | _ | _) <;> (try dsimp only) <;> (try trivial)
  split <;> try trivial
  split <;> try trivial
  split <;> first | trivial | exact ⟨h1.2,trivial⟩
 ·split <;> trivial
theorem SK{a:A}{off:Nat}:(Kr a off).In D:=by
 unfold Kr
 split <;> trivial
theorem KH{n:Nat}{i:Int}{sz:Nat}{rows:List (List T)}:(At n i sz rows).In D:=by
 unfold At
 split <;> try trivial
 split <;> trivial
theorem NU{t:TypeId}{x i:A}(hr:x.inR D.rR):(kw P t x i).In D:=by
 unfold kw
 split <;> try trivial
 split <;> try trivial
 split <;> try trivial
 ·exact KH
 ·unfold Fl
  split <;> try trivial
  split <;> trivial
 ·split <;> trivial
 ·unfold A.inR at hr;refine ⟨hr,λx=>?_⟩;rcases x with _ | (_ | _ | _) <;> (try dsimp only) <;> (try trivial)
  ·split <;> trivial
  ·exact KH
theorem TM{d:Option Nat}{t:TypeId}{x:A}{hi:Option A}(hr:x.inR λr=>D.rR r/\D.rW r)(hd:∀ d',d=some d'->D.rR (fd d' 0)/\D.rW (fd d' 0)):(Fm P d t x hi).In D:=by
 unfold Fm
 split <;> try trivial
 split <;> try trivial
 unfold A.inR at hr;refine ⟨hr.1,λx=>?_⟩;rcases x with _ | (_ | _ | _) <;> (try dsimp only) <;> (try trivial)
 split <;> first | trivial | exact ⟨hr.2,Fy (hd _ rfl)⟩
theorem TN{t:TypeId}{x:A}{lo hi:Option A}(hr:x.inR λr=>D.rR r/\D.rW r):(yq P t x lo hi).In D:=by
 unfold yq
 split <;> try trivial
 ·split <;> try trivial
  split <;> trivial
 ·split <;> try trivial
  split <;> trivial
 ·split <;> try trivial
  refine QQ hr λy=>?_
  split <;> try trivial
  split <;> try trivial
  split <;> try trivial
  split <;> trivial
theorem UJ{d:Option Nat}{t:TypeId}{l c:A}(hd:∀ d',d=some d'->∀ r,r / 65536=d'->D.rR r/\D.rW r):(Ku P d t l c).In D:=by
 unfold Ku
 split <;> try trivial
 split <;> try trivial
 rename_i hz
 split <;> try trivial
 refine CD (Fw (Nf hz)) λts=>?_;exact Fy (hd _ rfl _ (by unfold fd; omega))
theorem QS{d:Nat}{ts:List TypeId}{x y:A}(hd:∀ r,r / 65536=d->D.rR r/\D.rW r)(hx:x.inR λr=>D.rR r/\D.rW r)(hy:y.inR D.rR):(vu P (some d) ts x y).In D:=by
 have hm:∀ {e n:Nat} {rows:List (List T)},(wx (fd d 0) e n rows).In D:=λ{e n rows}=>Fy (hd _ (by unfold fd; omega));unfold vu
 split <;> try trivial
 rename_i d' hdd;injection hdd with hdd
 subst hdd
 split <;> try trivial
 split <;> try trivial
 split <;> try trivial
 split <;> try trivial
 refine Fx hy λn ys=>?_
 split <;> try trivial
 split <;> try trivial
 ·split <;> first | trivial | exact hm
 ·unfold A.inR at hx;refine ⟨hx.1,λx=>?_⟩;rcases x with _ | (_ | _ | _) <;> (try dsimp only) <;> (try trivial)
  split <;> first | trivial | exact ⟨hx.2,hm⟩
theorem SL{d:Option Nat}{ts:List TypeId}{x y:A}(hd:∀ d',d=some d'->∀ r,r / 65536=d'->D.rR r/\D.rW r)(hx:x.inR λr=>D.rR r/\D.rW r)(hy:y.inR D.rR):(vu P d ts x y).In D:=by
 cases d with
 | some d=>exact QS (hd d rfl) hx hy
 | none =>
  unfold vu
  split <;> first | trivial | (rename_i h; cases h)
theorem VL{t:TypeId}{x:A}{lo:Option A}(hr:x.inR λr=>D.rR r/\D.rW r):(O4 P t x lo).In D:=by
 unfold O4
 split <;> try trivial
 split <;> try trivial
 unfold A.inR at hr;refine ⟨hr.1,λx=>?_⟩;rcases x with _ | (_ | _ | _) <;> (try dsimp only) <;> (try trivial)
 split <;> trivial
theorem VM{t:TypeId}{x:A}{lo hi:Option A}(hr:x.inR λr=>D.rR r/\D.rW r):(O5 P t x lo hi).In D:=by
 unfold O5
 split <;> try trivial
 split <;> try trivial
 unfold A.inR at hr;refine ⟨hr.1,λx=>?_⟩;rcases x with _ | (_ | _ | _) <;> (try dsimp only) <;> (try trivial)
 split <;> try trivial
 split <;> trivial
theorem UK{ts:List TypeId}{x y:A}(hx:x.inR λr=>D.rR r/\D.rW r)(hy:y.inR D.rR):(Kt P ts x y).In D:=by
 unfold Kt
 split
 ·unfold JX
  split <;> try trivial
  split <;> try trivial
  refine Fx hy λm ys=>?_
  split <;> try trivial
  unfold A.inR at hx;refine ⟨hx.1,λx=>?_⟩;rcases x with _ | (_ | _ | _) <;> (try dsimp only) <;> (try trivial)
  split <;> first | trivial | exact ⟨hx.2,trivial⟩
 rotate_left
 ·trivial
 split <;> try trivial
 split <;> try trivial
 refine Fx hy λn ys=>?_
 split <;> try trivial
 unfold A.inR at hx;refine ⟨hx.1,λx=>?_⟩;rcases x with _ | (_ | _ | _) <;> (try dsimp only) <;> (try trivial)
 split <;> first | trivial | exact ⟨hx.2,trivial⟩
theorem TO{ts:List TypeId}{x:A}(hx:x.inR λr=>D.rR r/\D.rW r):(Fn P ts x).In D:=by
 unfold Fn
 split <;> try trivial
 split <;> try trivial
 split <;> try trivial
 split <;> try trivial
 unfold A.inR at hx;refine ⟨hx.1,λx=>?_⟩;rcases x with _ | (_ | _ | _) <;> (try dsimp only) <;> (try trivial)
 split <;> first | trivial | exact ⟨hx.2,trivial⟩
theorem VN{t:TypeId}{x:A}(hr:x.inR D.rR):(Ig P t x).In D:=by
 unfold Ig
 split <;> try trivial
 exact Fx hr λ_ _=>trivial
end
theorem UL{P:Program}{p:Nat->Bool}{ρ:Nat->dX}{st:St}{o:Oper}(h:∀ x∈o.op.operands.toList,∀ a,st.eval x=some a->WO ρ x a):(qp P ρ st.eval o).In (dc p ρ o).dom:=by
 have hdst:∀ {d:Nat} {r:Nat},o.dst=some d->r / 65536=d->ly (ET (ci ρ o) (kM o.dst)) (r / 65536):=λh h'=>mz.2 (.inr (by rw [h]; simp [kM,ly,h']));unfold qp
 split <;> try (split <;> trivial)
 ·-- alloc
  rename_i e ho
  split <;> try trivial
  rename_i d z hd hz;have hf:dc p ρ o=⟨kM o.dst,kM o.dst,some [],some []⟩:=by simp only [dc,ho]
  rw [hf];exact RZ ⟨by simp [Fp.dom,kM,ly,hd],by simp [Fp.dom,kM,ly,hd]⟩
 ·-- box
  rename_i e x ho
  split <;> try trivial
  rename_i d v hd hv;have hx:x∈o.op.operands.toList:=by rw [ho]; simp [Op.operands]
  have hf:dc p ρ o=⟨kM o.dst,kM o.dst,ci ρ o,ci ρ o⟩:=by simp only [dc,ho]
  rw [hf]
  split
  ·refine CD (Az (ib (λr hr=>?_) (h x hx v hv).rows)) λ_=>trivial;exact ⟨dJ hx hr,dJ hx hr⟩
  ·exact RZ ⟨by simp [Fp.dom,kM,ly,hd],by simp [Fp.dom,kM,ly,hd]⟩
 ·-- build
  rename_i t parts ho
  split <;> try trivial
  split <;> trivial
 ·-- buildSlice
  rename_i t n parts ho
  split <;> try trivial
  rename_i e d ps ht hd hp
  split <;> try trivial
  rename_i sz z hsz hz
  split <;> try trivial
  have hf:dc p ρ o=⟨some [],some [],ET (ci ρ o) (kM o.dst),ET (ci ρ o) (kM o.dst)⟩:=by simp only [dc,ho]
  rw [hf];refine CD (Fw (Nf hz)) λts=>Pq (λq hq=>?_) λrows=>Fy ⟨hdst hd (by unfold fd; omega),hdst hd (by unfold fd; omega)⟩;obtain ⟨hl,hg⟩:=sM hp;obtain ⟨i,hi⟩:=zYh hq;obtain ⟨⟨j,x⟩,hx,he⟩:=hg i q hi;have hxm:x∈o.op.operands.toList:=by
   rw [ho];simp only [Op.operands,zXg];exact ⟨(j,x),zQX hx,rfl⟩
  simp only [zWk] at he;obtain ⟨v,hv,rfl⟩:=he;exact ib (λr hr=>⟨mz.2 (.inl (dJ hxm hr)),mz.2 (.inl (dJ hxm hr))⟩) (h x hxm v hv).rows
 ·-- load
  rename_i t x ho
  split <;> try trivial
  rename_i a ha;have hx:x∈o.op.operands.toList:=by rw [ho]; simp [Op.operands]
  have hf:dc p ρ o=⟨(xZ ρ x).objs,some [],(xZ ρ x).rows,some []⟩:=by simp only [dc,ho]
  rw [hf];exact UI (h x hx a ha).objs (h x hx a ha).rows
 ·-- store
  rename_i t x y ho
  split <;> try trivial
  rename_i a b ha hb;have hx:x∈o.op.operands.toList:=by rw [ho]; simp [Op.operands]
  have hy:y∈o.op.operands.toList:=by rw [ho]; simp [Op.operands]
  have hf:dc p ρ o=if (xZ ρ x).isObj then ⟨(xZ ρ x).objs,(xZ ρ x).objs,some [],some []⟩ else ⟨(xZ ρ x).objs,(xZ ρ x).objs,ci ρ o,ci ρ o⟩:=by simp only [dc,ho]
  rw [hf]
  split
  ·rename_i hio;exact Ps (λs off he=>⟨(h x hx a ha).objs s off he,(h x hx a ha).objs s off he⟩) (.inl ((h x hx a ha).isob hio))
  ·exact Ps (λs off he=>⟨(h x hx a ha).objs s off he,(h x hx a ha).objs s off he⟩)
    (.inr ⟨ib (λr hr=>⟨dJ hx hr,dJ hx hr⟩) (h x hx a ha).rows,ib (λr hr=>⟨dJ hy hr,dJ hy hr⟩) (h y hy b hb).rows⟩)
 ·-- binOp
  split <;> try trivial
  ·split <;> trivial
  ·split <;> first | trivial | (split <;> trivial)
  ·split <;> trivial
  ·split <;> trivial
 ·-- convert
  rename_i s t x ho;have hx:x∈o.op.operands.toList:=by rw [ho]; simp [Op.operands]
  have hf:dc p ρ o=⟨some [],some [],ci ρ o,some []⟩:=by simp only [dc,ho]
  rw [hf]
  split <;> try trivial
  rename_i a _ _ ha
  split <;> try trivial
  refine Fx (ib (λr hr=>dJ hx hr) (h x hx _ ha).rows) λ_ _=>?_
  split <;> trivial
 ·-- makeSlice
  rename_i t l c ho;have hf:dc p ρ o=⟨some [],some [],ET (ci ρ o) (kM o.dst),ET (ci ρ o) (kM o.dst)⟩:=by simp only [dc,ho]
  rw [hf]
  split <;> try trivial
  exact UJ λd hd r hr=>⟨hdst hd hr,hdst hd hr⟩
 ·-- slice
  rename_i t x lo hi ho;have hx:x∈o.op.operands.toList:=by rw [ho]; simp [Op.operands]
  have hf:dc p ρ o=⟨some [],some [],ET (ci ρ o) (kM o.dst),ET (ci ρ o) (kM o.dst)⟩:=by simp only [dc,ho]
  rw [hf]
  split <;> try trivial
  rename_i a _ _ ha _ _;have hq:a.inR λr=>(⟨some [],some [],ET (ci ρ o) (kM o.dst),ET (ci ρ o) (kM o.dst)⟩:Fp).dom.rR r/\(⟨some [],some [],ET (ci ρ o) (kM o.dst),ET (ci ρ o) (kM o.dst)⟩:Fp).dom.rW r :=
   ib (λr hr=>⟨mz.2 (.inl (dJ hx hr)),mz.2 (.inl (dJ hx hr))⟩) (h x hx _ ha).rows
  split
  ·split
   ·split
    ·exact VL hq
    ·exact VM hq
   ·exact TM hq λd hd=>⟨mz.2 (.inr (by rw [hd]; simp [kM,ly,fd,Nat.mul_div_cancel])),mz.2 (.inr (by rw [hd]; simp [kM,ly,fd,Nat.mul_div_cancel]))⟩
  ·exact TN hq
 ·-- fieldAddr
  split <;> first | trivial | exact SK
 ·-- field
  split <;> try trivial
  split <;> try trivial
  split <;> trivial
 ·-- indexAddr
  rename_i t x i ho;have hx:x∈o.op.operands.toList:=by rw [ho]; simp [Op.operands]
  have hf:dc p ρ o=⟨some [],some [],ci ρ o,some []⟩:=by simp only [dc,ho]
  rw [hf]
  split <;> try trivial
  rename_i ha _;exact NU (ib (λr hr=>dJ hx hr) (h x hx _ ha).rows)
 ·-- index
  split <;> try trivial
  split <;> try trivial
  split <;> trivial
 ·-- extract
  split <;> try trivial
  split <;> trivial
 ·-- len
  rename_i args ats ho
  split <;> try trivial
  rename_i x t hxs hts;have hx:x∈o.op.operands.toList:=by rw [ho]; simp [Op.operands,Call.operands,hxs]
  have hf:dc p ρ o=⟨some [],some [],ci ρ o,some []⟩:=by simp only [dc,ho]
  rw [hf]
  split <;> try trivial
  rename_i ha;exact VN (ib (λr hr=>dJ hx hr) (h x hx _ ha).rows)
 ·-- append
  rename_i args ats ho
  split <;> try trivial
  rename_i x y hxs;have hx:x∈o.op.operands.toList:=by rw [ho]; simp [Op.operands,Call.operands,hxs]
  have hy:y∈o.op.operands.toList:=by rw [ho]; simp [Op.operands,Call.operands,hxs]
  have hf:dc p ρ o=⟨some [],some [],ET (ci ρ o) (kM o.dst),ET (ci ρ o) (kM o.dst)⟩:=by simp only [dc,ho]
  rw [hf]
  split <;> try trivial
  rename_i ha hb;exact SL (λd hd r hr=>⟨hdst hd hr,hdst hd hr⟩) (ib (λr hr=>⟨mz.2 (.inl (dJ hx hr)),mz.2 (.inl (dJ hx hr))⟩) (h x hx _ ha).rows)
   (ib (λr hr=>mz.2 (.inl (dJ hy hr))) (h y hy _ hb).rows)
 ·-- copy
  rename_i args ats ho
  split <;> try trivial
  rename_i x y hxs;have hx:x∈o.op.operands.toList:=by rw [ho]; simp [Op.operands,Call.operands,hxs]
  have hy:y∈o.op.operands.toList:=by rw [ho]; simp [Op.operands,Call.operands,hxs]
  have hf:dc p ρ o=⟨some [],some [],ci ρ o,ci ρ o⟩:=by simp only [dc,ho]
  rw [hf]
  split <;> try trivial
  rename_i ha hb;exact UK (ib (λr hr=>⟨dJ hx hr,dJ hx hr⟩) (h x hx _ ha).rows) (ib (λr hr=>dJ hy hr) (h y hy _ hb).rows)
 ·-- clear
  rename_i args ats ho
  split <;> try trivial
  rename_i x hxs;have hx:x∈o.op.operands.toList:=by rw [ho]; simp [Op.operands,Call.operands,hxs]
  have hf:dc p ρ o=⟨some [],some [],ci ρ o,ci ρ o⟩:=by simp only [dc,ho]
  rw [hf]
  split <;> try trivial
  rename_i ha;exact TO (ib (λr hr=>⟨dJ hx hr,dJ hx hr⟩) (h x hx _ ha).rows)
 ·split <;> try trivial
  split <;> trivial
 ·split <;> try trivial
  split <;> trivial
 ·trivial
end Go.Tm
set_option maxHeartbeats 1000000
namespace Go.Tm
open Go.RowKit
theorem QT{P:Program}{ρ:Nat->dX}{ev ev':Operand->Option A}{o:Oper}(h:∀ x∈o.op.operands.toList,ev x=ev' x):qp P ρ ev o=qp P ρ ev' o:=by
 obtain ⟨dst,op,ty,pos,aft,gd⟩:=o
 cases op
 case call c =>
  obtain ⟨cal,args,ts⟩:=c
  cases cal with
  | value f=>simp only [qp]
  | invoke r m=>simp only [qp]
  | builtin b =>
   have h':∀ x∈args.toList,ev x=ev' x:=λx hx=>h x (by simp [Op.operands,Call.operands] at hx ⊢; exact hx)
   cases b <;> simp only [qp]
   all_goals
    split <;> try rfl
    first | (rename_i hl; rw [hl] at h') | (rename_i hl _; rw [hl] at h')
    try rw [h' _ (zQj ..)]
    try rw [h' _ (zQv _ (zQj ..))]
 case build t parts =>
  have:(parts.toList.map λ(i,x)=>(ev x).map λv=>(i,v))=parts.toList.map λ(i,x)=>(ev' x).map λv=>(i,v) :=
   zWv λq hq=>by
    have:=h q.2 (by simp only [Op.operands,zXg]; exact ⟨q,hq,rfl⟩);simp only [this]
  simp only [qp,this]
 case buildSlice t n parts =>
  have:(parts.toList.map λ(i,x)=>(ev x).map λv=>(i,v))=parts.toList.map λ(i,x)=>(ev' x).map λv=>(i,v) :=
   zWv λq hq=>by
    have:=h q.2 (by simp only [Op.operands,zXg]; exact ⟨q,hq,rfl⟩);simp only [this]
  simp only [qp,this]
 case makeFunc f first caps =>
  cases f <;> simp only [qp]
  have:caps.toList.map ev=caps.toList.map ev':=zWv λx hx=>h x (by simp [Op.operands] at hx ⊢; exact .inr hx);rw [this]
 case slice t x lo hi m =>
  cases m <;> simp only [qp]
  have h1:ev x=ev' x:=h x (by simp [Op.operands]);have h2:Ks ev lo=Ks ev' lo:=by
   cases lo with
   | none=>rfl
   | some l=>simp only [Ks]; rw [h l (by simp [Op.operands])]
  have h3:Ks ev hi=Ks ev' hi:=by
   cases hi with
   | none=>rfl
   | some l=>simp only [Ks]; rw [h l (by simp [Op.operands])]
  rw [h1,h2,h3]
 all_goals
  simp [Op.operands] at h;simp only [qp]
  try simp only [h]
inductive SM (P:Program) (p:Nat->Bool) (ρ:Nat->dX) (st:St) (o:Oper) (x:A) (st':St):Prop
 | plain (h:(qp P ρ st.eval o).run st=some (x,st'))
 | call (m:Bool) (d f:Nat) (xf:Operand) (args:Array Operand) (ts:Array TypeId) (caps as:List A) (vs:List V) (st1:St) (res:V) (cA:List (List C))
   (ho:o.op=.call { callee:=.value xf,args,argTypes:=ts }) (hd:o.dst=some d) (hf:st.eval xf=some (.clo f caps)) (ly:de (args.toList.map st.eval)=some as)
   (hp:(kx m p (as++caps) MA.ret).run st=some (vs,st1)) (hc:aL P f vs res cA) (hr:(dC d (dP (as++caps)) cA (V.toA d (fd d 0) res MA.ret)).run st1=some (x,st'))
 | callB (d f:Nat) (xf:Operand) (args:Array Operand) (ts:Array TypeId) (caps as:List A) (vs:List V) (res:V)
   (ho:o.op=.call { callee:=.value xf,args,argTypes:=ts }) (hd:o.dst=some d) (hf:st.eval xf=some (.clo f caps)) (ly:de (args.toList.map st.eval)=some as)
   (hp:(dQ (as++caps) MA.ret).run st=some (vs,st)) (hc:aL P f vs res []) (hpl:res.plain) (hr:(V.toA d (fd d 0) res MA.ret).run st=some (x,st'))
 | callI (m:Bool) (d f:Nat) (xf:Operand) (args:Array Operand) (ts:Array TypeId) (caps as:List A) (vs:List V) (st1:St) (cA:List (List C)) (s off:Nat)
   (ho:o.op=.call { callee:=.value xf,args,argTypes:=ts }) (hd:o.dst=some d) (hf:st.eval xf=some (.clo f caps)) (ly:de (args.toList.map st.eval)=some as)
   (hp:(kx m p (as++caps) MA.ret).run st=some (vs,st1)) (hc:TE P f vs off cA) (hhd:(as++caps).head?=some (.obj s 0)) (hr:(dC d (dP (as++caps)) cA (MA.ret (.obj s off))).run st1=some (x,st'))
 | callD (d f:Nat) (xf:Operand) (args:Array Operand) (ts:Array TypeId) (caps as:List A) (vs:List V) (res:V)
   (ho:o.op=.call { callee:=.value xf,args,argTypes:=ts }) (hd:o.dst=some d) (hf:st.eval xf=some (.clo f caps)) (ly:de (args.toList.map st.eval)=some as)
   (hp:(dQ (as++caps) MA.ret).run st=some (vs,st)) (hc:gT P f vs res) (hr:(V.toA d (fd d 0) res MA.ret).run st=some (x,st'))
 | callX (m:Bool) (d f:Nat) (xf:Operand) (args:Array Operand) (ts:Array TypeId) (az caps as xs:List A) (vs us:List V) (st1:St) (res:V) (cA:List (List C))
   (ho:o.op=.call { callee:=.value xf,args,argTypes:=ts }) (hd:o.dst=some d) (hf:st.eval xf=some (.clo f caps)) (ly:de (args.toList.map st.eval)=some az) (hcat:az++caps=as++xs)
   (hp:(kx m p as MA.ret).run st=some (vs,st1)) (hq:(dQ xs MA.ret).run st1=some (us,st1)) (hc:Pm P f vs us res cA) (hr:(dC d (dP as) cA (V.toA d (fd d 0) res MA.ret)).run st1=some (x,st'))
 | callW (d f r e lo m:Nat) (ts:List T) (rows:List (List T)) (xf:Operand) (args:Array Operand) (tys:Array TypeId) (as:List A) (vs:List V)
   (ho:o.op=.call { callee:=.value xf,args,argTypes:=tys }) (hd:o.dst=some d) (hf:st.eval xf=some (.clo f [])) (ly:de (args.toList.map st.eval)=some (.agg (ts.map A.t++[.own r]) :: as))
   (hrw:st.rw r=some (.live e 1 rows)) (hp:Po as=some vs) (hc:Vw P f e ts rows vs lo m) (hr:x=.win r lo m) (hst:st'=st)
 | callM (f:Nat) (xf:Operand) (args:Array Operand) (ts:Array TypeId) (as:List A) (r:T)
   (ho:o.op=.call { callee:=.value xf,args,argTypes:=ts }) (hf:st.eval xf=some (.clo f [])) (ly:de (args.toList.map st.eval)=some as)
   (hk:as.all A.mk=true) (hx:as.any A.hasX=true) (hc:W1 P f as r) (hr:x=.t r) (hst:st'=st)
 | callR (d f r e sz:Nat) (rows rows':List (List T)) (xf:Operand) (args:Array Operand) (ts:Array TypeId) (as:List A) (vs:List V) (res:T)
   (ho:o.op=.call { callee:=.value xf,args,argTypes:=ts }) (hd:o.dst=some d) (hf:st.eval xf=some (.clo f [])) (ly:de (args.toList.map st.eval)=some (.own r :: as))
   (hrw:st.rw r=some (.live e sz rows)) (hp:(dQ as MA.ret).run st=some (vs,st)) (hpl:tG vs) (hc:W3 P f e sz rows vs res rows')
   (hr:x=.t res) (hst:st'={ st with rw:=et st.rw r (some (.live e sz rows')) })
section
variable {P:Program} {E:En} [Tb P E] {g:Gh} {st st':St} {a:Act} {w:World} {p:Nat->Bool} {ρ:Nat->dX} {o:Oper} {x:A}
theorem SM.sound{n:Nat}(hS:iQ E g n st a w)(h:SM P p ρ st o x st'):wM P o a w λv w'=>∃ g',wK E g st w x st' v g' w':=by
 cases h with
 | plain h =>
  obtain ⟨u,g',w',h1,h2⟩:=QM hS h;exact Pg ⟨u,w',h1,g',h2⟩
 | call m d f xf args ts caps as vs st1 res cA ho hd hf ly hp hc hr=>exact QN hS ho hf ly hp hc hr
 | callB d f xf args ts caps as vs res ho hd hf ly hp hc hpl hr=>exact Ph hS ho hf ly hp hc hpl hr
 | callI m d f xf args ts caps as vs st1 cA s off ho hd hf ly hp hc hhd hr=>exact Pi hS ho hf ly hp hc hhd hr
 | callD d f xf args ts caps as vs res ho hd hf ly hp hc hr=>exact Pj hS ho hf ly hp hc hr
 | callX m d f xf args ts az caps as xs vs us st1 res cA ho hd hf ly hcat hp hq hc hr=>exact Pn hS ho hf ly hcat hp hq hc hr
 | callW d f r e lo m ts rows xf args tys as vs ho hd hf ly hrw hp hc hr hst=>subst hr hst; exact Pp hS ho hf ly hrw hp hc
 | callM f xf args ts as r ho hf ly hk hx hc hr hst=>subst hr hst; exact Pk hS ho hf ly hk hx hc
 | callR d f r e sz rows rows' xf args ts as vs res ho hd hf ly hrw hp hpl hc hr hst=>subst hr hst; exact Pl hS ho hf ly hrw hp hpl hc
theorem tH{st st2:St}{o:Oper}(h:∀ t,.tmp t∈o.op.operands.toList->st2.tm t=st.tm t):∀ y∈o.op.operands.toList,st2.eval y=st.eval y:=by
 intro y hy
 cases y with
 | tmp t=>simp only [St.eval]; rw [h t hy]
 | _=>rfl
theorem St.ext{s t:St}(h1:s.tm=t.tm)(h2:s.ob=t.ob)(h3:s.rw=t.rw):s=t:=by
 cases s; cases t; cases h1; cases h2; cases h3; rfl
theorem SN{D:QO}{a:A}(ho:∀ s,D.oR s/\D.oW s)(hr:∀ r,D.rR r/\D.rW r):a.argIn D p:=by
 unfold A.argIn
 split
 ·exact ⟨ho _,λ_=>hr⟩
 ·exact CC hr _
theorem UM{D:QO}{y:Operand}{a:A}(hc:WO ρ y a)(ho:∀ s,ly (xZ ρ y).objs s->D.oR s/\D.oW s)(hr:∀ r,ly (uS p (xZ ρ y)) (r / 65536)->D.rR r/\D.rW r)(hfit:∀ s off,a=.obj s off->xZ ρ y=.obj s\/xZ ρ y=.any) :
  (a.argIn D p)/\a.inR λr=>D.rR r/\D.rW r:=by
 have h2:a.inR λr=>D.rR r/\D.rW r:=by
  by_cases hob:(xZ ρ y).isObj=true
  ·obtain ⟨s,off,rfl⟩:=hc.isob hob;unfold A.inR; trivial
  ·refine ib (λr h=>hr r ?_) hc.rows
   revert h hob
   cases xZ ρ y <;> simp [uS,dX.isObj]
 refine ⟨?_,h2⟩;unfold A.argIn
 split
 ·rename_i s;refine ⟨ho s (hc.objs s 0 rfl),λhp r=>hr r ?_⟩;rcases hfit s 0 rfl with h | h <;> rw [h] <;> simp [uS,hp,ly,dX.rows]
 ·exact h2
theorem UN{y:Operand}{s off:Nat}(hf:eO ρ st o=true)(hy:y∈o.op.operands.toList)(h:st.eval y=some (.obj s off)):xZ ρ y=.obj s\/xZ ρ y=.any:=by
 cases y with
 | tmp t =>
  simp only [St.eval,Option.some.injEq] at h;have:=List.all_eq_true.1 hf _ hy;simp only [h] at this;simp only [xZ]
  revert this
  cases ρ t <;> simp [dX.fits]
 | const v=>exact absurd rfl ((BO (Q:=λ_=>True) h).2 s off)
 | func f=>simp [St.eval] at h
 | global=>cases h
theorem UO{y:Operand}{f:FuncId}{caps:List A}(hf:eO ρ st o=true)(hy:y∈o.op.operands.toList)(h:st.eval y=some (.clo f caps)):caps=[]\/xZ ρ y=.any:=by
 cases y with
 | tmp t =>
  simp only [St.eval,Option.some.injEq] at h;have:=List.all_eq_true.1 hf _ hy;simp only [h] at this;simp only [xZ]
  revert this
  cases ρ t <;> simp [dX.fits]
 | const v =>
  simp only [St.eval] at h;unfold A.ofValue at h
  split at h
  ·split at h <;> cases h
  ·cases h
  ·unfold nE at h
   split at h <;> cases h
 | func f'=>simp only [St.eval,Option.some.injEq,A.clo.injEq] at h; exact .inl h.2.symm
 | global=>cases h
theorem SM.loc(hf:eO ρ st o=true)(h:SM P p ρ st o x st'):QD (dc p ρ o).dom st st' /\
  ∀ st2,(∀ t,.tmp t∈o.op.operands.toList->st2.tm t=st.tm t)->On (dc p ρ o).dom st st2->∃ st2',SM P p ρ st2 o x st2'/\QD (dc p ρ o).dom st2 st2'/\On (dc p ρ o).dom st' st2':=by
 have hcls:∀ x∈o.op.operands.toList,∀ a,st.eval x=some a->WO ρ x a:=λx hx a h=>TL hf hx h
 -- a call's parts
 have hcall:∀ {d f:Nat} {xf:Operand} {args:Array Operand} {ts:Array TypeId} {as caps:List A},o.op=.call { callee:=.value xf,args,argTypes:=ts }->o.dst=some d->st.eval xf=some (.clo f caps)->de (args.toList.map st.eval)=some as ->
   (∀ y∈xf :: args.toList,y∈o.op.operands.toList)/\(∀ r,r / 65536=d->(dc p ρ o).dom.rR r/\(dc p ρ o).dom.rW r)/\((dc p ρ o).dom.oR d/\(dc p ρ o).dom.oW d) /\
   ∀ a∈as++caps,a.argIn (dc p ρ o).dom p/\a.inR λr=>(dc p ρ o).dom.rR r/\(dc p ρ o).dom.rW r:=by
  intro d f xf args ts as caps ho hd hxf hass;have hf':dc p ρ o=⟨ET (C8 (o.op.operands.toList.map λx=>(xZ ρ x).objs)) (kM o.dst),ET (C8 (o.op.operands.toList.map λx=>(xZ ρ x).objs)) (kM o.dst),
   ET (C8 (o.op.operands.toList.map λx=>uS p (xZ ρ x))) (kM o.dst),ET (C8 (o.op.operands.toList.map λx=>uS p (xZ ρ x))) (kM o.dst)⟩:=by simp only [dc,ho]
  have hops:∀ y∈xf :: args.toList,y∈o.op.operands.toList:=λy hy=>by
   rw [ho];simp only [Op.operands,Call.operands]
   simpa using hy
  have hO:∀ y∈o.op.operands.toList,∀ s,ly (xZ ρ y).objs s->(dc p ρ o).dom.oR s/\(dc p ρ o).dom.oW s:=λy hy s hs=>by
   rw [hf'];have:=mz (a:=C8 (o.op.operands.toList.map λx=>(xZ ρ x).objs)) (b:=kM o.dst) |>.2 (.inl (KG (List.mem_map.2 ⟨y,hy,rfl⟩) hs))
   exact ⟨this,this⟩
  have hR:∀ y∈o.op.operands.toList,∀ r,ly (uS p (xZ ρ y)) (r / 65536)->(dc p ρ o).dom.rR r/\(dc p ρ o).dom.rW r:=λy hy r hs=>by
   rw [hf'];have:=mz (a:=C8 (o.op.operands.toList.map λx=>uS p (xZ ρ x))) (b:=kM o.dst) |>.2 (.inl (KG (List.mem_map.2 ⟨y,hy,rfl⟩) hs))
   exact ⟨this,this⟩
  refine ⟨hops,λr hr=>?_,?_,λa ha=>?_⟩
  ·rw [hf'];have:=mz (k:=r / 65536) (a:=C8 (o.op.operands.toList.map λx=>uS p (xZ ρ x))) (b:=kM o.dst) |>.2 (.inr (by rw [hd]; simp [kM,ly,hr]))
   exact ⟨this,this⟩
  ·rw [hf'];have:=mz (k:=d) (a:=C8 (o.op.operands.toList.map λx=>(xZ ρ x).objs)) (b:=kM o.dst) |>.2 (.inr (by rw [hd]; simp [kM,ly]))
   exact ⟨this,this⟩
  ·rcases List.mem_append.1 ha with ha | ha
   ·obtain ⟨hl,hg⟩:=sM hass;obtain ⟨i,hi⟩:=zYh ha;obtain ⟨y,hy,he⟩:=hg i a hi;have hym:=hops y (zQv _ (zQX hy));exact UM (hcls y hym a he) (hO y hym) (hR y hym) (λs off h=>UN hf hym (h ▸ he))
   ·have hxm:=hops xf (zQj ..);rcases UO hf hxm hxf with h | h
    ·subst h; simp at ha
    ·have hOa:∀ s,(dc p ρ o).dom.oR s/\(dc p ρ o).dom.oW s:=λs=>hO xf hxm s (by rw [h]; trivial);have hRa:∀ r,(dc p ρ o).dom.rR r/\(dc p ρ o).dom.rW r:=λr=>hR xf hxm r (by rw [h]; trivial);exact ⟨SN hOa hRa,CC hRa a⟩
 cases h with
 | plain h =>
  obtain ⟨h1,h2⟩:=m3 (qp P ρ st.eval o) (UL hcls) h;refine ⟨h1,λst2 ht hon=>?_⟩;obtain ⟨st2',h3,h4,h5⟩:=h2 st2 hon;refine ⟨st2',.plain ?_,h4,h5⟩;rw [QT (tH ht)];exact h3
 | call m d f xf args ts caps as vs st1 res cA ho hd hxf hass hp hc hr =>
  obtain ⟨hops,hdr,hdo,hin⟩:=hcall ho hd hxf hass;obtain ⟨h1,h2⟩:=m3 (kx m p (as++caps) MA.ret) (Fz (D:=(dc p ρ o).dom) (λa ha=>(hin a ha).1) (λ_=>trivial)) hp;obtain ⟨h3,h4⟩:=m3 (dC d (dP (as++caps)) cA (V.toA d (fd d 0) res MA.ret)) (yu (D:=(dc p ρ o).dom) hdr (λs hs=>BN (λa ha=>(hin a ha).1) s hs) (FA hdr hdo λ_=>trivial)) hr;refine ⟨h1.trans h3,λst2 ht hon=>?_⟩;obtain ⟨st3,h5,h6,h7⟩:=h2 st2 hon;obtain ⟨st4,h8,h9,h10⟩:=h4 st3 h7;have hev:=tH ht;refine ⟨st4,.call m d f xf args ts caps as vs st3 res cA ho hd ((hev xf (hops xf (zQj ..))).trans hxf) ?_ h5 hc h8,h6.trans h9,h10⟩;rw [<- hass]
  congr 1
  exact zWv λy hy=>hev y (hops y (zQv _ hy))
 | callI m d f xf args ts caps as vs st1 cA s off ho hd hxf hass hp hc hhd hr =>
  obtain ⟨hops,hdr,hdo,hin⟩:=hcall ho hd hxf hass;obtain ⟨h1,h2⟩:=m3 (kx m p (as++caps) MA.ret) (Fz (D:=(dc p ρ o).dom) (λa ha=>(hin a ha).1) (λ_=>trivial)) hp;obtain ⟨h3,h4⟩:=m3 (dC d (dP (as++caps)) cA (MA.ret (A.obj s off))) (yu (D:=(dc p ρ o).dom) hdr (λs hs=>BN (λa ha=>(hin a ha).1) s hs) trivial) hr;refine ⟨h1.trans h3,λst2 ht hon=>?_⟩;obtain ⟨st3,h5,h6,h7⟩:=h2 st2 hon;obtain ⟨st4,h8,h9,h10⟩:=h4 st3 h7;have hev:=tH ht;refine ⟨st4,.callI m d f xf args ts caps as vs st3 cA s off ho hd ((hev xf (hops xf (zQj ..))).trans hxf) ?_ h5 hc hhd h8,h6.trans h9,h10⟩;rw [<- hass]
  congr 1
  exact zWv λy hy=>hev y (hops y (zQv _ hy))
 | callB d f xf args ts caps as vs res ho hd hxf hass hp hc hpl hr =>
  obtain ⟨hops,hdr,hdo,hin⟩:=hcall ho hd hxf hass;obtain ⟨h1,h2⟩:=m3 (dQ (as++caps) MA.ret) (qs (D:=⟨(dc p ρ o).dom.oR,λ_=>False,(dc p ρ o).dom.rR,λ_=>False⟩) (qr λa ha=>ib (λr h=>h.1) (hin a ha).2) (λ_=>trivial)) hp;obtain ⟨h3,h4⟩:=m3 (V.toA d (fd d 0) res MA.ret) (FA (D:=(dc p ρ o).dom) hdr hdo λ_=>trivial) hr;refine ⟨h3,λst2 ht hon=>?_⟩;obtain ⟨st3,h5,h6,h7⟩:=h2 st2 ⟨hon.ob,hon.rw⟩;have h32:st3=st2:=St.ext h6.tm (funext λs=>h6.ob s (λh=>h)) (funext λs=>h6.rw s (λh=>h));subst h32;obtain ⟨st4,h8,h9,h10⟩:=h4 st3 hon;have hev:=tH ht;refine ⟨st4,.callB d f xf args ts caps as vs res ho hd ((hev xf (hops xf (zQj ..))).trans hxf) ?_ h5 hc hpl h8,h9,h10⟩;rw [<- hass]
  congr 1
  exact zWv λy hy=>hev y (hops y (zQv _ hy))
 | callD d f xf args ts caps as vs res ho hd hxf hass hp hc hr =>
  obtain ⟨hops,hdr,hdo,hin⟩:=hcall ho hd hxf hass;obtain ⟨h1,h2⟩:=m3 (dQ (as++caps) MA.ret) (qs (D:=⟨(dc p ρ o).dom.oR,λ_=>False,(dc p ρ o).dom.rR,λ_=>False⟩) (qr λa ha=>ib (λr h=>h.1) (hin a ha).2) (λ_=>trivial)) hp;obtain ⟨h3,h4⟩:=m3 (V.toA d (fd d 0) res MA.ret) (FA (D:=(dc p ρ o).dom) hdr hdo λ_=>trivial) hr;refine ⟨h3,λst2 ht hon=>?_⟩;obtain ⟨st3,h5,h6,h7⟩:=h2 st2 ⟨hon.ob,hon.rw⟩;have h32:st3=st2:=St.ext h6.tm (funext λs=>h6.ob s (λh=>h)) (funext λs=>h6.rw s (λh=>h));subst h32;obtain ⟨st4,h8,h9,h10⟩:=h4 st3 hon;have hev:=tH ht;refine ⟨st4,.callD d f xf args ts caps as vs res ho hd ((hev xf (hops xf (zQj ..))).trans hxf) ?_ h5 hc h8,h9,h10⟩;rw [<- hass]
  congr 1
  exact zWv λy hy=>hev y (hops y (zQv _ hy))
 | callX m d f xf args ts az caps as xs vs us st1 res cA ho hd hxf hass hcat hp hq hc hr =>
  obtain ⟨hops,hdr,hdo,hin⟩:=hcall ho hd hxf hass;rw [hcat] at hin;obtain ⟨h1,h2⟩:=m3 (kx m p as MA.ret) (Fz (D:=(dc p ρ o).dom) (λa ha=>(hin a (zZh _ ha)).1) (λ_=>trivial)) hp;obtain ⟨g1,g2⟩:=m3 (dQ xs MA.ret) (qs (D:=⟨(dc p ρ o).dom.oR,λ_=>False,(dc p ρ o).dom.rR,λ_=>False⟩) (qr λa ha=>ib (λr h=>h.1) (hin a (List.mem_append_right _ ha)).2) (λ_=>trivial)) hq;obtain ⟨h3,h4⟩:=m3 (dC d (dP as) cA (V.toA d (fd d 0) res MA.ret)) (yu (D:=(dc p ρ o).dom) hdr (λs hs=>BN (λa ha=>(hin a (zZh _ ha)).1) s hs) (FA hdr hdo λ_=>trivial)) hr;refine ⟨h1.trans h3,λst2 ht hon=>?_⟩;obtain ⟨st3,h5,h6,h7⟩:=h2 st2 hon;obtain ⟨st5,g5,g6,g7⟩:=g2 st3 ⟨h7.ob,h7.rw⟩;have h53:st5=st3:=St.ext g6.tm (funext λs=>g6.ob s (λh=>h)) (funext λs=>g6.rw s (λh=>h));subst h53;obtain ⟨st4,h8,h9,h10⟩:=h4 st5 h7;have hev:=tH ht;refine ⟨st4,.callX m d f xf args ts az caps as xs vs us st5 res cA ho hd ((hev xf (hops xf (zQj ..))).trans hxf) ?_ hcat h5 g5 hc h8,h6.trans h9,h10⟩;rw [<- hass]
  congr 1
  exact zWv λy hy=>hev y (hops y (zQv _ hy))
 | callW d f r e lo m ts rows xf args tys as vs ho hd hxf hass hrw hp hc hr hst =>
  subst hr hst;obtain ⟨hops,hdr,hdo,hin⟩:=hcall (caps:=[]) ho hd hxf hass;have hr0:=(hin (.agg (ts.map A.t++[.own r])) (by simp)).2;unfold A.inR at hr0;have hr1:(dc p ρ o).dom.rR r/\(dc p ρ o).dom.rW r:=by
   have key:∀ l:List T,eP (λr=>(dc p ρ o).dom.rR r/\(dc p ρ o).dom.rW r) (l.map A.t++[.own r])->(dc p ρ o).dom.rR r/\(dc p ρ o).dom.rW r:=by
    intro l
    induction l with
    | nil=>intro h; simp only [List.map_nil,zQy] at h; unfold eP at h; have:=h.1; unfold A.inR at this; exact this
    | cons x l ih=>intro h; simp only [zWg,zXk] at h; unfold eP at h; exact ih h.2
   exact key ts hr0
  refine ⟨QD.refl _ _,λst2 ht hon=>⟨st2,?_,QD.refl _ _,hon⟩⟩;have hev:=tH ht;refine .callW d f r e lo m ts rows xf args tys as vs ho hd ((hev xf (hops xf (zQj ..))).trans hxf) ?_ ((hon.rw r hr1.1).trans hrw) hp hc rfl rfl;rw [<- hass]
  congr 1
  exact zWv λy hy=>hev y (hops y (zQv _ hy))
 | callM f xf args ts as r ho hxf hass hk hx hc hr hst =>
  subst hr hst;refine ⟨QD.refl _ _,λst2 ht hon=>⟨st2,?_,QD.refl _ _,hon⟩⟩;have hev:=tH ht;have hops:∀ y∈xf :: args.toList,y∈o.op.operands.toList:=λy hy=>by
   rw [ho];simp only [Op.operands,Call.operands]
   simpa using hy
  refine .callM f xf args ts as r ho ((hev xf (hops xf (zQj ..))).trans hxf) ?_ hk hx hc rfl rfl;rw [<- hass]
  congr 1
  exact zWv λy hy=>hev y (hops y (zQv _ hy))
 | callR d f r e sz rows rows' xf args ts as vs res ho hd hxf hass hrw hp hpl hc hr hst =>
  subst hr hst;obtain ⟨hops,hdr,hdo,hin⟩:=hcall (caps:=[]) ho hd hxf hass;have hr0:=(hin (.own r) (by simp)).2;unfold A.inR at hr0;obtain ⟨h1,h2⟩:=m3 (dQ as MA.ret) (qs (D:=⟨(dc p ρ o).dom.oR,λ_=>False,(dc p ρ o).dom.rR,λ_=>False⟩) (qr λa ha=>ib (λr h=>h.1) (hin a (by simp [ha])).2) (λ_=>trivial)) hp;refine ⟨⟨rfl,λ_ _=>rfl,λi hi=>ca _ _ _ _ (λhe=>hi (he ▸ hr0.2))⟩,λst2 ht hon=>?_⟩;obtain ⟨st3,h5,h6,h7⟩:=h2 st2 ⟨hon.ob,hon.rw⟩;have h32:st3=st2:=St.ext h6.tm (funext λs=>h6.ob s (λh=>h)) (funext λs=>h6.rw s (λh=>h));subst h32;have hev:=tH ht;refine ⟨_,.callR d f r e sz rows rows' xf args ts as vs res ho hd ((hev xf (hops xf (zQj ..))).trans hxf) ?_ ((hon.rw r hr0.1).trans hrw) h5 hpl hc rfl rfl,⟨rfl,λ_ _=>rfl,λi hi=>ca _ _ _ _ (λhe=>hi (he ▸ hr0.2))⟩,⟨hon.ob,λi hi=>QP (hon.rw i hi)⟩⟩;rw [<- hass]
  congr 1
  exact zWv λy hy=>hev y (hops y (zQv _ hy))
end
end Go.Tm
namespace Go.Tm
open Go.RowKit
def i8(ops:Array Oper)(st:St)(o:Oper):Option Bool:=match o.guard with
 | none=>some true
 | some (j,want)=>match (ops[j]?).bind (·.dst) with
  | none=>some false
  | some d=>match st.tm d with
   | .t (.bool b)=>some (b == want)
   | .tup []=>some false
   | _=>none
def UP(ops:Array Oper)(o:Oper):List Nat:=match o.guard with
 | none=>[]
 | some (j,_)=>((ops[j]?).bind (·.dst)).toList
inductive yv (P:Program) (p:Nat->Bool) (ρ:Nat->dX) (ops:Array Oper) (o:Oper) (st:St):St->Prop
 | run (x:A) (st1:St) (hg:i8 ops st o=some true) (hf:eO ρ st o=true) (h:SM P p ρ st o x st1):yv P p ρ ops o st (st1.put o.dst x)
 | skip (hg:i8 ops st o=some false):yv P p ρ ops o st (st.put o.dst (.tup []))
section
variable {P:Program} {E:En} [Tb P E] {g:Gh} {st st':St} {a:Act} {w:World} {p:Nat->Bool} {ρ:Nat->dX} {o:Oper} {x:A} {ops:Array Oper}
theorem Ij{st2:St}(h:∀ d∈UP ops o,st2.tm d=st.tm d):i8 ops st2 o=i8 ops st o:=by
 unfold i8 UP at *
 split
 ·rfl
 ·rename_i j want hg;simp only [hg] at h
  split
  ·rfl
  ·rename_i d hd;simp only [hd,Option.toList] at h;rw [h d (by simp)]
theorem NV{st2:St}(h:∀ t,.tmp t∈o.op.operands.toList->st2.tm t=st.tm t):eO ρ st2 o=eO ρ st o:=by
 unfold eO
 revert h
 generalize o.op.operands.toList=l;intro h
 induction l with
 | nil=>rfl
 | cons y l ih =>
  simp only [List.all_cons];rw [ih λt ht=>h t (zQv _ ht)]
  cases y with
  | tmp t=>simp only [h t (zQj ..)]
  | _=>rfl
def R0(D:QO)(dst:Option Nat)(st st':St):Prop:=(∀ t,dst≠some t->st'.tm t=st.tm t)/\(∀ s,¬ D.oW s->st'.ob s=st.ob s)/\∀ r,¬ D.rW r->st'.rw r=st.rw r
theorem KI{d:Option Nat}{v:A}{t:Nat}(h:d≠some t):(st.put d v).tm t=st.tm t:=by
 cases d with
 | none=>rfl
 | some d=>exact ca _ _ _ _ (λhe=>h (he ▸ rfl))
theorem CF{d:Nat}{v:A}:(st.put (some d) v).tm d=v:=c8 _ _ _
theorem AB{d:Option Nat}{v:A}:(st.put d v).ob=st.ob:=by cases d <;> rfl
theorem AC{d:Option Nat}{v:A}:(st.put d v).rw=st.rw:=by cases d <;> rfl
theorem yv.loc(h:yv P p ρ ops o st st'):R0 (dc p ρ o).dom o.dst st st' /\
  ∀ st2,(∀ t,.tmp t∈o.op.operands.toList->st2.tm t=st.tm t)->(∀ d∈UP ops o,st2.tm d=st.tm d)->On (dc p ρ o).dom st st2 ->
   ∃ st2',yv P p ρ ops o st2 st2'/\(∀ t,o.dst=some t->st2'.tm t=st'.tm t)/\R0 (dc p ρ o).dom o.dst st2 st2'/\On (dc p ρ o).dom st' st2':=by
 cases h with
 | run x st1 hg hf h =>
  obtain ⟨h1,h2⟩:=h.loc hf;refine ⟨⟨λt ht=>by rw [KI ht,h1.tm],λs hs=>by rw [AB]; exact h1.ob s hs,λs hs=>by rw [AC]; exact h1.rw s hs⟩,λst2 ht hd hon=>?_⟩;obtain ⟨st2',h3,h4,h5⟩:=h2 st2 ht hon;refine ⟨_,.run x st2' ((Ij hd).trans hg) ((NV ht).trans hf) h3,λt he=>?_,⟨λt ht=>by rw [KI ht,h4.tm],λs hs=>by rw [AB]; exact h4.ob s hs,λs hs=>by rw [AC]; exact h4.rw s hs⟩,⟨λs hs=>by rw [AB,AB]; exact h5.ob s hs,λs hs=>by rw [AC,AC]; exact h5.rw s hs⟩⟩;rw [he,CF,CF]
 | skip hg =>
  refine ⟨⟨λt ht=>KI ht,λs hs=>by rw [AB],λs hs=>by rw [AC]⟩,λst2 ht hd hon=>?_⟩;refine ⟨_,.skip ((Ij hd).trans hg),λt he=>by rw [he,CF,CF],⟨λt ht=>KI ht,λs hs=>by rw [AB],λs hs=>by rw [AC]⟩,⟨λs hs=>by rw [AB,AB]; exact hon.ob s hs,λs hs=>by rw [AC,AC]; exact hon.rw s hs⟩⟩
def SO(a b:Option (List Nat)):Bool:=match a,b with
 | some [],_=>true
 | _,some []=>true
 | some a,some b=>a.all λx=>!b.contains x
 | _,_=>false
theorem CG{a b:Option (List Nat)}(h:SO a b=true){k:Nat}(ha:ly a k):¬ ly b k:=by
 intro hb;unfold SO at h
 split at h
 ·simp [ly] at ha
 ·simp [ly] at hb
 ·have:=List.all_eq_true.1 h k ha;simp at this;exact this hb
 ·cases h
def AD(ops:Array Oper)(o:Oper):List Nat:=UP ops o++o.op.operands.toList.filterMap λ| .tmp t=>some t | _=>none
def KJ(d:Option Nat)(l:List Nat):Bool:=match d with | some d=>l.contains d | none=>false
def Pt(p:Nat->Bool)(ρ:Nat->dX)(ops:Array Oper)(o1 o2:Oper):Bool :=
 !KJ o1.dst (o2.dst.toList++AD ops o2) && !KJ o2.dst (AD ops o1) && SO (dc p ρ o1).oW (dc p ρ o2).oR && SO (dc p ρ o2).oW (dc p ρ o1).oR &&
  SO (dc p ρ o1).rW (dc p ρ o2).rR && SO (dc p ρ o2).rW (dc p ρ o1).rR
theorem FB{t:Nat}(h:.tmp t∈o.op.operands.toList):t∈AD ops o:=by
 unfold AD;exact List.mem_append.2 (.inr (List.mem_filterMap.2 ⟨_,h,rfl⟩))
theorem UQ{o1 o2:Oper}{b:St}{c:St}(hi:Pt p ρ ops o1 o2=true)(h2:yv P p ρ ops o2 st b)(h1:yv P p ρ ops o1 b c):∃ b',yv P p ρ ops o1 st b'/\yv P p ρ ops o2 b' c:=by
 simp only [Pt,sk,Bool.not_eq_true'] at hi;obtain ⟨⟨⟨⟨⟨hd1,hd2⟩,ho12⟩,ho21⟩,hr12⟩,hr21⟩:=hi;have hn1:∀ t,o1.dst=some t->t∉o2.dst.toList/\t∉AD ops o2:=λt ht=>by
  rw [ht] at hd1;simp [KJ] at hd1;exact ⟨by simpa using hd1.1,hd1.2⟩
 have hn2:∀ t,o2.dst=some t->t∉AD ops o1:=λt ht=>by
  rw [ht] at hd2
  simpa [KJ] using hd2
 obtain ⟨a1,a2⟩:=h2.loc;obtain ⟨b1,b2⟩:=h1.loc;have e1:=J1 p ρ o1;have e2:=J1 p ρ o2;have hO12:∀ s,(dc p ρ o1).dom.oW s->¬ (dc p ρ o2).dom.oR s:=λs=>CG ho12;have hO21:∀ s,(dc p ρ o2).dom.oW s->¬ (dc p ρ o1).dom.oR s:=λs=>CG ho21;have hR12:∀ r,(dc p ρ o1).dom.rW r->¬ (dc p ρ o2).dom.rR r:=λs=>CG hr12;have hR21:∀ r,(dc p ρ o2).dom.rW r->¬ (dc p ρ o1).dom.rR r:=λs=>CG hr21;obtain ⟨b',c1,c2,c3,c4⟩:=b2 st (λt ht=>(a1.1 t (λhe=>hn2 t he (FB ht))).symm) (λt ht=>(a1.1 t (λhe=>hn2 t he (List.mem_append.2 (.inl ht)))).symm)
  ⟨λs hs=>(a1.2.1 s (λhw=>hO21 s hw hs)).symm,λs hs=>(a1.2.2 s (λhw=>hR21 s hw hs)).symm⟩
 obtain ⟨c',f1,f2,f3,f4⟩:=a2 b' (λt ht=>c3.1 t (λhe=>(hn1 t he).2 (FB ht))) (λt ht=>c3.1 t (λhe=>(hn1 t he).2 (List.mem_append.2 (.inl ht))))
  ⟨λs hs=>c3.2.1 s (λhw=>hO12 s hw hs),λs hs=>c3.2.2 s (λhw=>hR12 s hw hs)⟩
 have hcc:c'=c:=by
  refine St.ext (funext λt=>?_) (funext λs=>?_) (funext λr=>?_)
  ·by_cases h2t:o2.dst=some t
   ·rw [f2 t h2t];exact (b1.1 t (λhe=>(hn1 t he).1 (by rw [h2t]; simp))).symm
   ·by_cases h1t:o1.dst=some t
    ·rw [f3.1 t h2t,c2 t h1t]
    ·rw [f3.1 t h2t,c3.1 t h1t,b1.1 t h1t,a1.1 t h2t]
  ·by_cases h2s:(dc p ρ o2).dom.oW s
   ·rw [f4.ob s (e2.ob s h2s)];exact (b1.2.1 s (λhw=>hO12 s hw (e2.ob s h2s))).symm
   ·by_cases h1s:(dc p ρ o1).dom.oW s
    ·rw [f3.2.1 s h2s,c4.ob s (e1.ob s h1s)]
    ·rw [f3.2.1 s h2s,c3.2.1 s h1s,b1.2.1 s h1s,a1.2.1 s h2s]
  ·by_cases h2s:(dc p ρ o2).dom.rW r
   ·rw [f4.rw r (e2.rw r h2s)];exact (b1.2.2 r (λhw=>hR12 r hw (e2.rw r h2s))).symm
   ·by_cases h1s:(dc p ρ o1).dom.rW r
    ·rw [f3.2.2 r h2s,c4.rw r (e1.rw r h1s)]
    ·rw [f3.2.2 r h2s,c3.2.2 r h1s,b1.2.2 r h1s,a1.2.2 r h2s]
 exact ⟨b',c1,hcc ▸ f1⟩
def rx(P:Program)(p:Nat->Bool)(ρ:Nat->dX)(ops:Array Oper)(i:Nat)(st st':St):Prop:=match ops[i]? with
 | some o=>yv P p ρ ops o st st'
 | none=>st'=st
def KK(P:Program)(p:Nat->Bool)(ρ:Nat->dX)(ops:Array Oper):List Nat->St->St->Prop
 | [],st,st'=>st'=st
 | i :: l,st,st'=>∃ b,rx P p ρ ops i st b/\KK P p ρ ops l b st'
def tI(p:Nat->Bool)(ρ:Nat->dX)(ops:Array Oper)(i j:Nat):Bool:=match ops[i]?,ops[j]? with
 | some a,some b=>Pt p ρ ops a b
 | _,_=>true
theorem FC{i j:Nat}{b c:St}(hi:tI p ρ ops i j=true)(h2:rx P p ρ ops j st b)(h1:rx P p ρ ops i b c):∃ b',rx P p ρ ops i st b'/\rx P p ρ ops j b' c:=by
 unfold rx tI at *
 revert h1 h2 hi
 cases ops[i]? <;> cases ops[j]? <;> simp only [] <;> intro hi h2 h1
 ·exact ⟨st,rfl,by rw [h1,h2]⟩
 ·exact ⟨st,rfl,by rw [h1]; exact h2⟩
 ·exact ⟨c,h2 ▸ h1,rfl⟩
 ·exact UQ hi h2 h1
theorem pull{i:Nat}:∀ {l:List Nat} {st st':St},i∈l->(∀ l1 l2,l=l1++i :: l2->i∉l1->∀ j∈l1,tI p ρ ops i j=true)->KK P p ρ ops l st st'->∃ b,rx P p ρ ops i st b/\KK P p ρ ops (l.erase i) b st'
 | [],st,st',h,_,_=>by simp at h
 | j :: l,st,st',h,hind,hr=>by
  by_cases he:i=j
  ·subst he;rw [List.erase_cons_head];exact hr
  ·obtain ⟨b,h1,h2⟩:=hr;have him:i∈l:=(List.mem_cons.1 h).resolve_left he;obtain ⟨c,h3,h4⟩:=pull him (λl1 l2 hl hni j' hj'=>hind (j :: l1) l2 (by rw [hl]; rfl) (by simp [he,hni]) j' (zQv _ hj')) h2;have hij:tI p ρ ops i j=true:=by
    obtain ⟨l1,l2,hl,hni⟩:=List.eq_append_cons_of_mem him;exact hind (j :: l1) l2 (by rw [hl]; rfl) (by simp [he,hni]) j (zQj ..)
   obtain ⟨d,h5,h6⟩:=FC hij h1 h3;refine ⟨d,h5,?_⟩;rw [List.erase_cons_tail (by simpa using λh=>he h.symm)];exact ⟨c,h6,h4⟩
end
end Go.Tm
namespace Go.Tm
open Go.RowKit
section
variable {P:Program} {E:En} [Tb P E] {g:Gh} {st st':St} {a:Act} {w:World} {p:Nat->Bool} {ρ:Nat->dX} {o:Oper} {x:A} {ops:Array Oper} {n:Nat}
theorem fe.put(h:fe E g st w)(d:Option Nat)(v:A):fe E g (st.put d v) w:=by
 cases d with
 | none=>exact h
 | some d=>exact ⟨h.ob,h.obne,h.row,h.rowne,h.rowob,h.F,h.os,h.tape,h.output,h.sizes,h.frame,h.shp,h.dep0⟩
theorem iQ.put{v:Value}{g':Gh}{w':World}{st1:St}{d:Option Nat}(hS:iQ E g n st a w)(h:wK E g st w x st1 v g' w')(hd:∀ t,d=some t->t < n):iQ E g' n (st1.put d x) (a.put d v) w':=by
 refine ⟨h.mem.put d x,?_,?_,λi hi=>?_,λi hi=>?_,λs b hs=>?_,λv' hv'=>by
  obtain ⟨h1,h2⟩:=hS.pin v' hv';exact ⟨by unfold St.R; rw [AC]; exact (h.ext.R _ h1).1,(h.ext.R _ h1).2.trans h2⟩⟩
 ·cases d <;> simp [Act.put,hS.size]
 ·cases d <;> simp [Act.put,hS.defers]
 ·cases d with
  | none =>
   obtain ⟨u,h1,h2⟩:=hS.tm i hi;exact ⟨u,h1,by show VR w' g' st1.O st1.R (st1.tm i) u; rw [h.tm]; exact h2.mono h.ext⟩
  | some d =>
   by_cases he:d=i
   ·subst he;exact ⟨v,by simp [Act.put,hS.size,hi],by show VR w' g' st1.O st1.R (et st1.tm d x d) v; rw [c8]; exact h.vr⟩
   ·obtain ⟨u,h1,h2⟩:=hS.tm i hi;refine ⟨u,by simp only [Act.put]; rw [Array.getElem?_setIfInBounds_ne he]; exact h1,?_⟩;show VR w' g' st1.O st1.R (et st1.tm d x i) u;rw [ca _ _ _ _ (λh=>he h.symm),h.tm];exact h2.mono h.ext
 ·rw [KI (λhe=>by have:=hd i he; omega),h.tm];exact hS.und i hi
 ·obtain ⟨h1,h2⟩:=hS.lent s b hs;refine ⟨?_,(h.ext.O s h1).2.trans h2⟩;unfold St.O;rw [AB];exact (h.ext.O s h1).1
theorem iQ.skip{d:Option Nat}(hS:iQ E g n st a w)(hd:∀ t,d=some t->t < n):iQ E g n (st.put d (.tup [])) (a.put d undef) w:=by
 refine hS.put ⟨hS.mem,?_,qC.refl _ _ _ _,rfl⟩ hd;exact .tup [] [] rfl (λi x u h=>by simp at h)
theorem iQ.drew(hS:iQ E g n st a w):iQ E g n st a { w with drawn:=w.drawn+1 }:=by
 have hsame:yd g.F w { w with drawn:=w.drawn+1 }:=λ_ _=>rfl;obtain ⟨⟨h1,h2,h3,h4,h5,h6,h7,h8,h9,h10,h11,hsp,hd0⟩,h12,h13,h14,h15,h16,h17⟩:=hS;have hE:qC w { w with drawn:=w.drawn+1 } g g st.O st.R st.O st.R:=⟨hsame,λ_ h=>h,λ_ h=>⟨h,rfl⟩,λ_ h=>⟨h,rfl⟩,⟨rfl,rfl,rfl⟩,rfl,rfl⟩;refine ⟨⟨λs cells hs=>?_,h2,λr x hr=>(h3 r x hr).mono hsame (λ_ h=>h) (λ_ b hb=>⟨rfl,λh=>h⟩),h4,h5,h6,h7,h8,h9,h10,h11,hsp,hd0⟩,h12,h13,λi hi=>?_,h15,h16,h17⟩
 ·obtain ⟨arr,e,q1,q2,q3,q4⟩:=h1 s cells hs;exact ⟨arr,e,q1,q2,λj x hj=>by obtain ⟨r1,v,r2,r3⟩:=q3 j x hj; exact ⟨r1,v,r2,r3.mono hE⟩,q4⟩
 ·obtain ⟨v,q1,q2⟩:=h14 i hi;exact ⟨v,q1,q2.mono hE⟩
theorem Ng{b:Bool}(hS:iQ E g n st a w)(h:i8 ops st o=some b):Region.wanted o (yielded ops a.tmps)=b:=by
 unfold i8 at h;unfold Region.wanted
 split at h
 ·rename_i hg
  cases h
  simp only [hg]
 ·rename_i j want hg;simp only [hg]
  split at h
  ·rename_i hd
   cases h
   simp [yielded,hd]
  ·rename_i d hd;have hlt:d < n:=by
    rcases Nat.lt_or_ge d n with hlt | hge
    ·exact hlt
    ·rw [hS.und d hge] at h; cases h
   obtain ⟨v,h1,h2⟩:=hS.tm d hlt
   split at h
   ·rename_i b' hb
    cases h
    rw [hb] at h2
    cases h2 with
    | t x v h3 =>
     cases h3
     simp [yielded,hd,h1]
   ·rename_i hb
    cases h
    rw [hb] at h2
    cases h2 with
    | tup l vs hl hx =>
     have:vs=[]:=rg (by simpa using hl.symm);subst this;simp [yielded,hd,h1]
   ·cases h
def nm(n:Nat)(o:Oper):Bool:=match o.dst with | some d=>Nat.blt d n | none=>true
theorem KL(h:nm n o=true):∀ t,o.dst=some t->t < n:=by
 intro t ht;rw [nm,ht] at h
 simpa using h
theorem xy{i:Nat}{K:Act->World->Prop}{Q:Exit->Act->World->Prop}(hS:iQ E g n st a w)(hd:∀ o,ops[i]?=some o->nm n o=true)(h:rx P p ρ ops i st st')
  (hK:∀ g' a' w',iQ E g' n st' a' w'->K a' w'):wpOp P ops Q i K a w:=by
 unfold wpOp;unfold rx at h
 split
 ·rename_i ho;rw [ho] at h;simp only at h;subst h;exact hK g a w hS
 ·rename_i o ho;rw [ho] at h;simp only at h;have hdo:=KL (hd o ho)
  cases h with
  | run x st1 hg hf he =>
   rw [Ng hS hg,if_pos rfl];exact .inl (he.sound hS K Q λv w' ⟨g',hA⟩=>hK g' _ _ (hS.put hA hdo))
  | skip hg =>
   rw [Ng hS hg,if_neg (by simp)];exact hK g _ _ (hS.skip hdo)
theorem Nh{Q:Exit->Act->World->Prop}(hd:∀ (i:Nat) (o:Oper),ops[i]?=some o->nm n o=true)(hQ:∀ g a w,iQ E g n st' a w->Q .normal a w):∀ {l:List Nat} {st:St} {g:Gh} {a:Act} {w:World},iQ E g n st a w->KK P p ρ ops l st st'->wpOps P ops Q l a w
 | [],st,g,a,w,hS,h=>hQ g a w (by have h:st'=st:=h; rw [h]; exact hS)
 | i :: l,st,g,a,w,hS,⟨b,h1,h2⟩=>by
  rw [wpOps_cons];exact xy hS (hd i) h1 λg' a' w' hS'=>Nh hd hQ hS' h2
def TP(D:Array Nat)(o:Oper):Nat:=o.after.toList.foldl (λs e=>if Region.binds .any e then s ||| 2 ^ e.on ||| D.getD e.on 0 else s) 0
def Ni(p:Nat->Bool)(ρ:Nat->dX)(n:Nat)(ops:Array Oper):Bool :=
 let D:=Region.before ops
 (zWz ops.size).all λi=>match ops[i]? with
  | none=>true
  | some o=>nm n o && (o.after.toList.all λe=>!Region.binds .any e || Nat.blt e.on i) && zXw (D.getD i 0) (TP D o) && (zWz i).all λj=>(D.getD i 0).testBit j || tI p ρ ops i j
theorem Nj{D:Array Nat}{j:Nat}:∀ {l:List Edge} {s:Nat},(l.foldl (λs e=>if Region.binds .any e then s ||| 2 ^ e.on ||| D.getD e.on 0 else s) s).testBit j=true->s.testBit j=true\/∃ e∈l,Region.binds .any e=true/\(e.on=j\/(D.getD e.on 0).testBit j=true)
 | [],s,h=>.inl h
 | e :: l,s,h=>by
  simp only [zXz] at h;rcases Nj h with h | ⟨e',he',h⟩
  ·split at h
   ·rename_i hb;simp only [Nat.testBit_or,Bool.or_eq_true] at h;rcases h with (h | h) | h
    ·exact .inl h
    ·rw [Nat.testBit_two_pow] at h;exact .inr ⟨e,zQj ..,hb,.inl (by simpa using h)⟩
    ·exact .inr ⟨e,zQj ..,hb,.inr h⟩
   ·exact .inl h
  ·exact .inr ⟨e',zQv _ he',h⟩
structure FD (p:Nat->Bool) (ρ:Nat->dX) (n:Nat) (ops:Array Oper) (D:Array Nat):Prop where
 dst:∀ (i:Nat) (o:Oper),ops[i]?=some o->nm n o=true
 back:∀ (i:Nat) (o:Oper),ops[i]?=some o->∀ e∈o.after,Region.binds .any e=true->e.on < i
 dep:∀ (i:Nat) (o:Oper),ops[i]?=some o->∀ j,(D.getD i 0).testBit j=true->∃ e∈o.after,Region.binds .any e=true/\(e.on=j\/(D.getD e.on 0).testBit j=true)
 ind:∀ (i j:Nat) (o:Oper),ops[i]?=some o->j < i->(D.getD i 0).testBit j=true\/tI p ρ ops i j=true
theorem KM(h:Ni p ρ n ops=true):FD p ρ n ops (Region.before ops):=by
 have hh:∀ (i:Nat) (o:Oper),ops[i]?=some o->((nm n o=true/\(o.after.toList.all λe=>!Region.binds .any e || Nat.blt e.on i)=true)/\zXw ((Region.before ops).getD i 0) (TP (Region.before ops) o)=true)/\((zWz i).all λj=>((Region.before ops).getD i 0).testBit j || tI p ρ ops i j)=true:=λi o hi=>by
  have hlt:i < ops.size:=(Array.getElem?_eq_some_iff.1 hi).1;have:=List.all_eq_true.1 h i (List.mem_range.2 hlt);rw [hi] at this
  simpa only [sk] using this
 refine ⟨λi o hi=>(hh i o hi).1.1.1,λi o hi e he hb=>?_,λi o hi j hj=>?_,λi j o hi hj=>?_⟩
 ·have:=List.all_eq_true.1 (hh i o hi).1.1.2 e (by simpa using he);rw [hb] at this
  simpa using this
 ·rw [zWy (hh i o hi).1.2] at hj;rcases Nj hj with h | ⟨e,he,h⟩
  ·simp at h
  ·exact ⟨e,by simpa using he,h⟩
 ·have:=List.all_eq_true.1 (hh i o hi).2 j (List.mem_range.2 hj)
  simpa only [Bool.or_eq_true] using this
def VO(ops:Array Oper)(listed:Array Bool):Prop:=∀ (k:Nat) (o:Oper),listed.getD k false=true->ops[k]?=some o->∀ e∈o.after,Region.binds .any e=true->listed.getD e.on false=true
theorem closed{D:Array Nat}{listed:Array Bool}(hF:FD p ρ n ops D)(hd:VO ops listed):∀ (i:Nat) (o:Oper),ops[i]?=some o->(∀ e∈o.after,Region.binds .any e=true->listed.getD e.on false=true)->∀ j,(D.getD i 0).testBit j=true->listed.getD j false=true:=by
 intro i
 induction i using Nat.strongRecOn with
 | _ i ih =>
  intro o ho hall j hj;obtain ⟨e,he,hb,h⟩:=hF.dep i o ho j hj;rcases h with rfl | h
  ·exact hall e he hb
  ·have hlt:e.on < i:=hF.back i o ho e he hb;have hlt2:e.on < ops.size:=Nat.lt_trans hlt (Array.getElem?_eq_some_iff.1 ho).1;exact ih e.on hlt _ (zXQ hlt2) (hd e.on _ (hall e he hb) (zXQ hlt2)) j h
def rem(ops:Array Oper)(listed:Array Bool):List Nat:=(zWz ops.size).filter λi=>!listed.getD i true
theorem sf{listed:Array Bool}{i:Nat}:i∈rem ops listed↔i < ops.size/\listed.getD i true=false:=by
 simp [rem]
theorem J2{listed:Array Bool}{i:Nat}(hs:listed.size=ops.size)(hi:i∈rem ops listed):rem ops (listed.setIfInBounds i true)=(rem ops listed).erase i:=by
 have hnd:(rem ops listed).Nodup:=List.Pairwise.filter _ List.nodup_range;rw [hnd.erase_eq_filter];unfold rem;rw [List.filter_filter];refine List.filter_congr λj hj=>?_
 by_cases he:i=j
 ·subst he;have:i < listed.size:=by rw [hs]; exact List.mem_range.1 hj
  simp [this]
 ·rw [getD_set_ne true he];have hji:(j != i)=true:=by simpa using λh:j=i=>he h.symm
  simp only [hji,zWG,Bool.and_true]
theorem J3{listed:Array Bool}{k:Nat}(hlt:k < listed.size):listed.getD k true=listed.getD k false:=by
 simp [hlt]
theorem SP{D:Array Nat}{Q:Exit->Act->World->Prop}(hF:FD p ρ n ops D)(hQ:∀ g a w,iQ E g n st' a w->Q .normal a w) :
  ∀ (fuel:Nat) (listed:Array Bool) (st:St) (g:Gh) (a:Act) (w:World),listed.size=ops.size->VO ops listed->(rem ops listed).length=fuel->KK P p ρ ops (rem ops listed) st st'->iQ E g n st a w->wpAny P .any ops Q fuel listed a w:=by
 intro fuel
 induction fuel with
 | zero =>
  intro listed st g a w hs hd hl hr hS;have h0:rem ops listed=[]:=rg hl;rw [h0] at hr;have hr:st'=st:=hr;refine ⟨?_,hQ g a w (hr ▸ hS)⟩;refine List.eq_nil_iff_forall_not_mem.2 λj hj=>?_;obtain ⟨h1,o,ho,_⟩:=mem_ready.1 hj;have:j∈rem ops listed:=sf.2 ⟨(Array.getElem?_eq_some_iff.1 ho).1,h1⟩;rw [h0] at this;simp at this
 | succ fuel ih =>
  intro listed st g a w hs hd hl hr hS;have hsorted:(rem ops listed).Pairwise (· < ·):=List.Pairwise.filter _ List.pairwise_lt_range;refine ⟨λhnil=>?_,λi hi=>?_⟩
  ·exfalso
   cases hrem:rem ops listed with
   | nil=>rw [hrem] at hl; cases hl
   | cons i l =>
    have him:i∈rem ops listed:=by rw [hrem]; simp
    obtain ⟨hlt,hun⟩:=sf.1 him;have:i∈Region.ready .any ops listed:=by
     refine mem_ready.2 ⟨hun,_,zXQ hlt,λe he hb=>?_⟩;have hlt2:=hF.back i _ (zXQ hlt) e he hb;have hlt3:e.on < listed.size:=by omega
     cases hee:listed.getD e.on false with
     | true=>rfl
     | false =>
      have hm:e.on∈rem ops listed:=sf.2 ⟨by omega,by rw [J3 hlt3]; exact hee⟩;rw [hrem] at hm hsorted;rcases List.mem_cons.1 hm with h | h
      ·omega
      ·have:=(List.pairwise_cons.1 hsorted).1 _ h;omega
    rw [hnil] at this;simp at this
  ·obtain ⟨hun,o,ho,hall⟩:=mem_ready.1 hi;have hlt:i < ops.size:=(Array.getElem?_eq_some_iff.1 ho).1;have him:i∈rem ops listed:=sf.2 ⟨hlt,hun⟩;obtain ⟨b,h1,h2⟩:=pull him (λl1 l2 hsplit hni j hj=>by
    have hjm:j∈rem ops listed:=by rw [hsplit]; exact List.mem_append.2 (.inl hj)
    have hji:j < i:=by
     rw [hsplit] at hsorted;exact (List.pairwise_append.1 hsorted).2.2 j hj i (zQj ..)
    rcases hF.ind i j o ho hji with h | h
    ·have h3:=closed hF hd i o ho hall j h;have h4:=(sf.1 hjm).2;rw [J3 (by rw [hs]; exact (sf.1 hjm).1),h3] at h4
     cases h4
    ·exact h) hr
   refine xy hS (hF.dst i) h1 λg' a' w' hS'=>ih (listed.setIfInBounds i true) b g' a' w' (by simp [hs]) ?_ ?_ ?_ hS'
   ·intro k o' hk ho' e he hb
    by_cases hik:i=k
    ·subst hik;rw [ho] at ho';injection ho' with ho'
     subst ho';exact getD_set_true (hall e he hb)
    ·rw [getD_set_ne false hik] at hk;exact getD_set_true (hd k o' hk ho' e he hb)
   ·rw [J2 hs him,List.length_erase_of_mem him,hl];rfl
   ·rw [J2 hs him];exact h2
def Bz(P:Program)(p:Nat->Bool)(ρ:Nat->dX)(ops:Array Oper):List Oper->St->St->Prop
 | [],st,st'=>st'=st
 | o :: l,st,st'=>∃ b,yv P p ρ ops o st b/\Bz P p ρ ops l b st'
theorem wN:∀ {l:List Oper} {k:Nat} {st:St},(∀ j,l[j]?=ops[k+j]?)->Bz P p ρ ops l st st'->KK P p ρ ops (zXX k l.length) st st'
 | [],k,st,_,h=>h
 | o :: l,k,st,hl,⟨b,h1,h2⟩=>by
  refine ⟨b,?_,wN (k:=k+1) (λj=>by have:=hl (j+1); simpa [zYg,Nat.add_comm 1 j] using this) h2⟩;have:=hl 0;simp at this;unfold rx;rw [<- this];exact h1
theorem NW{Q:Exit->Act->World->Prop}{id:Nat}{draw:Bool}(hm:draw=true->P.follows .mixedOrders=true)(hok:if draw then Ni p ρ n ops=true else ops.toList.all (nm n)=true)
  (hS:iQ E g n st a w) (hr:Bz P p ρ ops ops.toList st st') (hQ:∀ g a w,iQ E g n st' a w->Q .normal a w):(Code.region id ops draw).wp P Q a w:=by
 have hrI:KK P p ρ ops (zWz ops.size) st st':=by
  have:=wN (k:=0) (l:=ops.toList) (by simp) hr;rw [zXy]
  simpa using this
 cases draw with
 | false =>
  refine wp_region (Nh (λi o ho=>?_) hQ hS hrI);exact List.all_eq_true.1 (show ops.toList.all (nm n)=true from hok) o (by simpa using Array.mem_of_getElem? ho)
 | true =>
  have hF:=KM (by simpa using hok);have hrem:rem ops (zZK ops.size false)=zWz ops.size:=by
   unfold rem;refine List.filter_eq_self.2 λi hi=>?_;have:i < ops.size:=List.mem_range.1 hi;simp [this]
  refine wp_region_any (hm rfl) (SP hF hQ _ _ st g a _ (by simp) (λk o hk=>?_) (by rw [hrem]; simp) (by rw [hrem]; exact hrI) hS.drew)
  by_cases hlt:k < ops.size <;> simp [hlt] at hk
end
end Go.Tm
namespace Go.Tm
open Go.RowKit
def EL(E:En)(ls:List Nat):Prop:=∃ fl,ls=E.lent.map Prod.fst++fl/\(∀ q∈E.lent,900<=q.1)/\(∀ v,E.pin=some v->0∈fl)/\(1∈fl->∀ b,¬ E.F0 b/\¬ E.X b)
theorem EL.mem{E:En}{ls:List Nat}(h:EL E ls){i b:Nat}(hi:(i,b)∈E.lent):i∈ls/\900<=i:=by
 obtain ⟨fl,rfl,h2,_⟩:=h;exact ⟨zZh _ (List.mem_map.2 ⟨_,hi,rfl⟩),h2 _ hi⟩
theorem EL.pin{E:En}{ls:List Nat}(h:EL E ls){v:Value}(hv:E.pin=some v):0∈ls:=by
 obtain ⟨fl,rfl,_,h2,_⟩:=h;exact List.mem_append_right _ (h2 v hv)
def R4(P:Program)(E:En)(ls:List Nat):Prop:=EL E ls/\Tb P E
def Wp(P:Program)(n:Nat)(ls:List Nat)(c:Code)(Q:Exit->St->Prop)(st:St):Prop :=
 ∀ (E:En) (g:Gh) (a:Act) (w:World),R4 P E ls->iQ E g n st a w->c.wp P (λe a' w'=>∃ g' st',iQ E g' n st' a' w'/\Q e st') a w
def iG(N:St->Prop)(Q:Exit->St->Prop):Exit->St->Prop
 | .normal,st=>N st
 | e,st=>Q e st
def UR(id:Nat)(Q:Exit->St->Prop):Exit->St->Prop
 | .exit id',st=>bif zXw id' id then Q .normal st else Q (.exit id') st
 | e,st=>Q e st
def Le(n:Nat)(ls:List Nat)(st st1:St):Prop:=∀ (E:En) (g:Gh) (a:Act) (w:World),EL E ls->iQ E g n st a w->∃ g',iQ E g' n st1 a w
section
variable {P:Program} {n:Nat} {ls:List Nat} {Q:Exit->St->Prop} {st st':St} {x y c:Code}
theorem Wp.skip(h:Q .normal st):Wp P n ls .skip Q st:=λE g a w hE hS=>wp_skip ⟨g,st,hS,h⟩
theorem Wp.ret(h:Q .ret st):Wp P n ls .ret Q st:=λE g a w hE hS=>wp_ret ⟨g,st,hS,h⟩
theorem Wp.exit{id:Nat}(h:Q (.exit id) st):Wp P n ls (.exit id) Q st:=λE g a w hE hS=>wp_exit ⟨g,st,hS,h⟩
theorem Wp.mono{Q':Exit->St->Prop}(h:Wp P n ls c Q st)(hq:∀ e st,Q e st->Q' e st):Wp P n ls c Q' st :=
 λE g a w hE hS=>wp_mono (h E g a w hE hS) λe a' w' ⟨g',st',h1,h2⟩=>⟨g',st',h1,hq e st' h2⟩
theorem Wp.seq(h:Wp P n ls x (iG (Wp P n ls y Q) Q) st):Wp P n ls (.seq x y) Q st :=
 λE g a w hE hS=>wp_seq (wp_mono (h E g a w hE hS) λe a' w' ⟨g',st',h1,h2⟩=>by
  cases e with
  | normal=>exact h2 E g' a' w' hE h1
  | _=>exact ⟨g',st',h1,h2⟩)
theorem Wp.cond{o:Operand}{b:Bool}(ho:st.eval o=some (.t (.bool b)))(h:Wp P n ls (if b then x else y) Q st):Wp P n ls (.cond o x y) Q st :=
 λE g a w hE hS=>by
  have hv:=bS hS ho;generalize hva:a.eval o=v at hv
  cases hv with
  | t x v hr =>
   cases hr
   exact wp_cond hva (h E g a w hE hS)
theorem TQ{o:Operand}{b:Bool}(ho:st.eval o=some (.t (.bool b)))(ht:b=true->Wp P n ls x Q st)(hf:b=false->Wp P n ls y Q st):Wp P n ls (.cond o x y) Q st :=
 Wp.cond ho (by
  cases b with
  | true=>exact ht rfl
  | false=>exact hf rfl)
theorem Wp.block{id:Nat}(h:Wp P n ls c (UR id Q) st):Wp P n ls (.block id c) Q st :=
 λE g a w hE hS=>wp_block (wp_mono (h E g a w hE hS) λe a' w' ⟨g',st',h1,h2⟩=>by
  cases e with
  | exit id' =>
   simp only [Exit.inBlock];simp only [UR] at h2
   split
   ·rename_i he;subst he;rw [Nat.beq_refl] at h2;exact ⟨g',st',h1,h2⟩
   ·rename_i he;have:zXw id' id=false:=by
     cases hb:zXw id' id
     ·rfl
     ·exact absurd (zWy hb) he
    rw [this] at h2;exact ⟨g',st',h1,h2⟩
  | _=>exact ⟨g',st',h1,h2⟩)
def Vx(P:Program)(n:Nat)(ls:List Nat)(c:Code)(Q:Exit->St->Prop):Nat->St->Prop
 | 0,_=>False
 | k+1,st=>Wp P n ls c (iG (Vx P n ls c Q k) Q) st
def A3(P:Program)(c:Code)(Q:Exit->Act->World->Prop):Nat->Act->World->Prop
 | 0,_,_=>False
 | k+1,a,w=>c.wp P (Exit.then (A3 P c Q k) Q) a w
theorem Pv{c:Code}{Q:Exit->Act->World->Prop}{a:Act}{w:World}{k:Nat}(h:A3 P c Q k a w):(Code.loop c).wp P Q a w:=by
 classical
 have key:∀ a w,(∃ k,A3 P c Q k a w)->∃ k,A3 P c Q k a w/\∀ j,A3 P c Q j a w->k<=j:=by
  intro a w ⟨k,hk⟩
  induction k using Nat.strongRecOn with
  | _ k ih =>
   by_cases hm:∀ j,A3 P c Q j a w->k<=j
   ·exact ⟨k,hk,hm⟩
   ·obtain ⟨j,hj⟩:=Classical.not_forall.1 hm;obtain ⟨hj1,hj2⟩:=Classical.not_imp.1 hj;exact ih j (by omega) hj1
 let μ:Act->World->Nat:=λa w=>if h:∃ k,A3 P c Q k a w then Classical.choose (key a w h) else 0
 have hμ:∀ a w (h:∃ k,A3 P c Q k a w),A3 P c Q (μ a w) a w/\∀ j,A3 P c Q j a w->μ a w<=j:=by
  intro a w h;have:μ a w=Classical.choose (key a w h):=by simp only [μ,h,dite_true]
  rw [this];exact Classical.choose_spec (key a w h)
 refine wp_loop (λa w=>∃ k,A3 P c Q k a w) μ ⟨k,h⟩ λa w hI=>?_;obtain ⟨h1,h2⟩:=hμ a w hI
 cases hm:μ a w with
 | zero=>rw [hm] at h1; exact h1.elim
 | succ m =>
  rw [hm] at h1;refine wp_mono h1 λe a' w' hq=>?_
  cases e with
  | normal =>
   have hI':∃ k,A3 P c Q k a' w':=⟨m,hq⟩;exact ⟨hI',by have:=(hμ a' w' hI').2 m hq; omega⟩
  | _=>exact hq
theorem Wp.loop{k:Nat}(h:Vx P n ls c Q k st):Wp P n ls (.loop c) Q st:=by
 intro E g a w hE hS;refine Pv (k:=k) ?_
 induction k generalizing st g a w with
 | zero=>exact h.elim
 | succ k ih =>
  refine wp_mono (h E g a w hE hS) λe a' w' ⟨g',st',h1,h2⟩=>?_
  cases e with
  | normal=>exact ih h2 g' a' w' h1
  | _=>exact ⟨g',st',h1,h2⟩
theorem Wp.le{st1:St}(hl:Le n ls st st1)(h:Wp P n ls c Q st1):Wp P n ls c Q st:=λE g a w hE hS=>by
 obtain ⟨g',hS'⟩:=hl E g a w hE.1 hS;exact h E g' a w hE hS'
def ae(P:Program)(p:Nat->Bool)(ρ:Nat->dX)(ops:Array Oper)(l:List Oper)(st:St)(K:St->Prop):Prop:=∃ st',Bz P p ρ ops l st st'/\K st'
theorem Wp.region{p:Nat->Bool}{ρ:Nat->dX}{ops:Array Oper}{id:Nat}{draw:Bool}(hm:draw=true->P.follows .mixedOrders=true)(hok:if draw then Ni p ρ n ops=true else ops.toList.all (nm n)=true)
  (h:ae P p ρ ops ops.toList st (Q .normal)):Wp P n ls (.region id ops draw) Q st:=λE g a w hE hS=>by
 obtain ⟨st',h1,h2⟩:=h;have:=hE.2;exact NW hm hok hS h1 λg a w hS'=>⟨g,st',hS',h2⟩
section
variable {p:Nat->Bool} {ρ:Nat->dX} {ops:Array Oper} {l:List Oper} {K:St->Prop} {o:Oper}
theorem ae.step{b:St}(h:yv P p ρ ops o st b)(hr:ae P p ρ ops l b K):ae P p ρ ops (o :: l) st K:=by
 obtain ⟨st',h1,h2⟩:=hr;exact ⟨st',⟨b,h,h1⟩,h2⟩
theorem ae.op{x:A}{st1:St}(hg:i8 ops st o=some true)(hf:eO ρ st o=true)(h:(qp P ρ st.eval o).run st=some (x,st1))(hr:ae P p ρ ops l (st1.put o.dst x) K):ae P p ρ ops (o :: l) st K :=
 ae.step (.run x st1 hg hf (.plain h)) hr
end
end
end Go.Tm
namespace Go.Tm
open Go.RowKit
mutual
def A.ren(φo φr:Nat->Nat):A->A
 | .own r=>.own (φr r)
 | .obj s off=>.obj (φo s) off
 | .elem r sz i off=>.elem (φr r) sz i off
 | .sub r sz lo=>.sub (φr r) sz lo
 | .win r lo m=>.win (φr r) lo m
 | .agg l=>.agg (sE φo φr l)
 | .tup l=>.tup (sE φo φr l)
 | .clo f l=>.clo f (sE φo φr l)
 | .t x=>.t x
 | .nil=>.nil
 | .fadr c=>.fadr c
 | .nn sz rows=>.nn sz rows
 | .undef=>.undef
 | .raw v=>.raw v
 | .osl s a n c=>.osl (φo s) a n c
 | .ext s x=>.ext s x
 | .exa s c=>.exa s c
 | .shp x=>.shp x
def sE(φo φr:Nat->Nat):List A->List A
 | []=>[]
 | a :: r=>a.ren φo φr :: sE φo φr r
end
mutual
def A.known(O R:Nat->Bool):A->Bool
 | .own r=>R r
 | .obj s _=>O s
 | .osl s _ _ _=>O s
 | .elem r _ _ _=>R r
 | .sub r _ _=>R r
 | .win r _ _=>R r
 | .agg l=>tJ O R l
 | .tup l=>tJ O R l
 | .clo _ l=>tJ O R l
 | _=>true
def tJ(O R:Nat->Bool):List A->Bool
 | []=>true
 | a :: r=>a.known O R && tJ O R r
end
def BP{β:Type}:List (Nat×β)->Nat->Option β
 | [],_=>none
 | (k,v) :: r,i=>bif zXw k i then some v else BP r i
theorem pG{β:Type}:∀ {l:List (Nat×β)} {i:Nat} {v:β},BP l i=some v->(i,v)∈l
 | [],i,v,h=>by cases h
 | (k,u) :: r,i,v,h=>by
  unfold BP at h
  cases hk:zXw k i with
  | true =>
   rw [hk] at h
   cases h
   rw [zWy hk];exact zQj ..
  | false =>
   rw [hk] at h;exact zQv _ (pG h)
structure Sx where
 tm:List (Nat×A)
 ob:List (Nat×List A)
 rw:List (Nat×RU)
def Sx.st(s:Sx):St:=⟨λi=>match BP s.tm i with | some a=>a | none=>.undef,BP s.ob,BP s.rw⟩
theorem BQ{φo φr:Nat->Nat}:∀ (l:List A),(sE φo φr l).length=l.length
 | []=>rfl
 | a :: r=>by simp [sE,BQ r]
theorem KN{φo φr:Nat->Nat}:∀ (l:List A) (j:Nat),(sE φo φr l)[j]?=l[j]?.map (A.ren φo φr)
 | [],j=>by simp [sE]
 | a :: r,0=>by simp [sE]
 | a :: r,j+1=>by simp [sE,KN r j]
theorem D6{O R:Nat->Bool}:∀ {l:List A},tJ O R l=true->∀ (j:Nat) (a:A),l[j]?=some a->a.known O R=true
 | [],_,j,a,h=>by simp at h
 | x :: r,hk,j,a,h=>by
  unfold tJ at hk;simp only [sk] at hk
  cases j with
  | zero=>simp at h; exact h ▸ hk.1
  | succ j=>exact D6 hk.2 j a (by simpa using h)
theorem TR{w:World}{g:Gh}{O R:Nat->Prop}{φo φr:Nat->Nat}{O' R':Nat->Bool}:∀ (a:A) {v:Value},VR w g O R (a.ren φo φr) v->a.known O' R'=true ->
  VR w { g with ob:=λs=>g.ob (φo s),rw:=λr=>g.rw (φr r) } (λs=>O' s=true) (λr=>R' r=true) a v:=by
 have main:∀ (k:Nat) (a:A),SizeOf.sizeOf a < k->∀ {v:Value},VR w g O R (a.ren φo φr) v->a.known O' R'=true ->
   VR w { g with ob:=λs=>g.ob (φo s),rw:=λr=>g.rw (φr r) } (λs=>O' s=true) (λr=>R' r=true) a v:=by
  intro k
  induction k with
  | zero=>intro a h; omega
  | succ k ih =>
   intro a hk v h hn;have hl:∀ (l:List A) (vs:List Value),SizeOf.sizeOf l<=k->(∀ (j:Nat) (x:A) (u:Value),(sE φo φr l)[j]?=some x->vs[j]?=some u->VR w g O R x u)->tJ O' R' l=true ->
     ∀ (j:Nat) (x:A) (u:Value),l[j]?=some x->vs[j]?=some u->VR w { g with ob:=λs=>g.ob (φo s),rw:=λr=>g.rw (φr r) } (λs=>O' s=true) (λr=>R' r=true) x u:=λl vs hs hx hkn j x u hj hu=>by
    have:=List.sizeOf_lt_of_mem (zQX hj);exact ih x (by omega) (hx j _ u (by rw [KN,hj]; rfl) hu) (D6 hkn j x hj)
   cases a with
   | t x=>unfold A.ren at h; cases h with | t x v h=>exact .t x v h
   | nil=>unfold A.ren at h; cases h; exact .nil
   | own r =>
    unfold A.ren at h;unfold A.known at hn
    cases h with | own _ hr=>exact .own (g:={ g with ob:=λs=>g.ob (φo s),rw:=λr=>g.rw (φr r) }) r hn
   | agg l =>
    unfold A.ren at h;unfold A.known at hn
    cases h with | agg _ vs h1 h2=>exact .agg l vs ((BQ l).symm.trans h1) (hl l vs (by simp at hk; omega) h2 hn)
   | tup l =>
    unfold A.ren at h;unfold A.known at hn
    cases h with | tup _ vs h1 h2=>exact .tup l vs ((BQ l).symm.trans h1) (hl l vs (by simp at hk; omega) h2 hn)
   | obj s off =>
    unfold A.ren at h;unfold A.known at hn
    cases h with | obj _ _ hs=>exact .obj (g:={ g with ob:=λs=>g.ob (φo s),rw:=λr=>g.rw (φr r) }) s off hn
   | elem r sz i off =>
    unfold A.ren at h;unfold A.known at hn
    cases h with | elem _ _ _ _ b n c hr he=>exact .elem r sz i off b n c hn he
   | win r lo m =>
    unfold A.ren at h;unfold A.known at hn
    cases h with | win _ _ _ n c c' ad a' hr he hm hp=>exact .win r lo m n c c' ad a' hn he hm hp
   | sub r sz lo =>
    unfold A.ren at h;unfold A.known at hn
    cases h with | sub _ _ _ n c c' ad a' hr he hp=>exact .sub r sz lo n c c' ad a' hn he hp
   | fadr c =>
    unfold A.ren at h
    cases h with | fadr _ b off u hF hx hr=>exact .fadr c b off u hF hx hr
   | nn sz rows =>
    unfold A.ren at h
    cases h with | nn _ _ _ hr hv=>exact .nn sz rows _ hr hv
   | clo f l =>
    unfold A.ren at h;unfold A.known at hn
    cases h with | clo _ _ vs h1 h2=>exact .clo f l vs ((BQ l).symm.trans h1) (hl l vs (by simp at hk; omega) h2 hn)
   | undef=>exact .undef v
   | raw u =>
    unfold A.ren at h
    cases h with | raw=>exact .raw _
   | osl s a n c =>
    unfold A.ren at h;unfold A.known at hn
    cases h with | osl _ _ _ _ h1 h2=>exact VR.osl (g:={ g with ob:=λs=>g.ob (φo s),rw:=λr=>g.rw (φr r) }) s a n c hn h2
   | ext s x =>
    unfold A.ren at h
    cases h with | ext _ _ _ hs h=>exact .ext s x _ hs h
   | shp x =>
    unfold A.ren at h
    cases h with | shp _ _ h=>exact .shp x _ h
   | exa s c =>
    unfold A.ren at h
    cases h with | exa _ _ b off u hs hD hx hr=>exact .exa s c b off u hs hD hx hr
 intro a v;exact main (SizeOf.sizeOf a+1) a (by omega)
def BA(m:List (Nat×Nat))(i:Nat):Nat:=match BP m i with | some j=>j | none=>i
def Pw:List Nat->Bool
 | []=>true
 | x :: r=>!r.contains x && Pw r
theorem D7:∀ {l:List Nat},Pw l=true->l.Nodup
 | [],_=>List.nodup_nil
 | x :: r,h=>by
  unfold Pw at h;simp only [sk,Bool.not_eq_true'] at h;refine List.nodup_cons.2 ⟨λhm=>?_,D7 h.2⟩;have:=h.1;simp at this;exact this hm
def Sx.O(s:Sx)(i:Nat):Bool:=(BP s.ob i).isSome
def Sx.R(s:Sx)(i:Nat):Bool:=(BP s.rw i).isSome
def J4(O R:Nat->Bool):List (Nat×List A)->Bool
 | []=>true
 | (_,l) :: r=>tJ O R l && J4 O R r
def J5(O R:Nat->Bool)(n:Nat):List (Nat×A)->Bool
 | []=>true
 | (k,a) :: r=>Nat.blt k n && a.known O R && J5 O R n r
theorem Ik{O R:Nat->Bool}:∀ {l:List (Nat×List A)},J4 O R l=true->∀ q∈l,tJ O R q.2=true
 | [],_,q,h=>by simp at h
 | (k,x) :: r,hk,q,h=>by
  unfold J4 at hk;simp only [sk] at hk;rcases List.mem_cons.1 h with rfl | h
  ·exact hk.1
  ·exact Ik hk.2 q h
theorem BR{O R:Nat->Bool}{n:Nat}:∀ {l:List (Nat×A)},J5 O R n l=true->∀ q∈l,q.1 < n/\q.2.known O R=true
 | [],_,q,h=>by simp at h
 | (k,x) :: r,hk,q,h=>by
  unfold J5 at hk;simp only [sk] at hk;rcases List.mem_cons.1 h with rfl | h
  ·exact ⟨by simpa using hk.1.1,hk.1.2⟩
  ·exact BR hk.2 q h
def Sx.ok(s:Sx)(n:Nat)(ls:List Nat)(mo mr:List (Nat×Nat)):Bool :=
 Pw (s.ob.map λq=>BA mo q.1) && Pw (s.rw.map λq=>BA mr q.1) && J4 s.O s.R s.ob && J5 s.O s.R n s.tm && ls.all λi=>match i with | 0=>s.R PR && zXw (BA mr PR) PR | 1=>true | i=>s.O i && zXw (BA mo i) i
theorem G7{β:Type}{φ:Nat->Nat}:∀ {l:List (Nat×β)},(l.map λq=>φ q.1).Nodup->∀ {q q':Nat×β},q∈l->q'∈l->φ q.1=φ q'.1->q=q'
 | [],_,q,q',h,_,_=>by simp at h
 | x :: r,hn,q,q',h,h',he=>by
  simp only [zWg,List.nodup_cons,zXg,not_exists,not_and] at hn;rcases List.mem_cons.1 h with h1 | h1
  ·rcases List.mem_cons.1 h' with h2 | h2
   ·rw [h1,h2]
   ·subst h1; exact absurd he.symm (hn.1 q' h2)
  ·rcases List.mem_cons.1 h' with h2 | h2
   ·subst h2; exact absurd he (hn.1 q h1)
   ·exact G7 hn.2 h1 h2 he
theorem J6{α β:Type}{f g:α->β}:∀ {l:List α},l.map f=l.map g->∀ x∈l,f x=g x
 | [],_,x,h=>by simp at h
 | y :: r,he,x,h=>by
  simp only [zWg,List.cons.injEq] at he;rcases List.mem_cons.1 h with rfl | h
  ·exact he.1
  ·exact J6 he.2 x h
theorem Le.of{n:Nat}{ls:List Nat}{st:St}{s:Sx}{mo mr:List (Nat×Nat)}(hok:s.ok n ls mo mr=true)(ht:s.tm.map (λq=>st.tm q.1)=s.tm.map (λq=>q.2.ren (BA mo) (BA mr)))
  (ho:s.ob.map (λq=>st.ob (BA mo q.1))=s.ob.map (λq=>some (sE (BA mo) (BA mr) q.2))) (hr:s.rw.map (λq=>st.rw (BA mr q.1))=s.rw.map (λq=>some q.2)):Le n ls st s.st:=by
 simp only [Sx.ok,sk] at hok;obtain ⟨⟨⟨⟨hno,hnr⟩,hkl⟩,hkt⟩,hls⟩:=hok;intro E g a w hE hS;have hM:=hS.mem;have hob:∀ {i:Nat} {l:List A},BP s.ob i=some l->st.ob (BA mo i)=some (sE (BA mo) (BA mr) l):=λ{i l} h=>J6 ho (i,l) (pG h);have hrw:∀ {i:Nat} {x:RU},BP s.rw i=some x->st.rw (BA mr i)=some x:=λ{i x} h=>J6 hr (i,x) (pG h);have hOe:(λi=>s.O i=true)=s.st.O:=rfl;have hRe:(λi=>s.R i=true)=s.st.R:=rfl;have hL:∀ {r},s.st.L r->st.L (BA mr r):=λ{r} ⟨e,sz,rows,h⟩=>⟨e,sz,rows,hrw h⟩;have hvr:∀ {x:A} {v:Value},VR w g st.O st.R (x.ren (BA mo) (BA mr)) v->x.known s.O s.R=true->VR w { g with ob:=λs=>g.ob (BA mo s),rw:=λr=>g.rw (BA mr r) } s.st.O s.st.R x v:=λ{x v} h hk=>by
  rw [<- hOe,<- hRe];exact TR x h hk
 refine ⟨{ g with ob:=λs=>g.ob (BA mo s),rw:=λr=>g.rw (BA mr r) },⟨⟨λi cells h=>?_,λi i' h h' he=>?_,λi x h=>hM.row _ x (hrw h),λr r' b h h' he he'=>?_,λr i h h'=>?_,hM.F,hM.os,hM.tape,hM.output,hM.sizes,hM.frame,hM.shp,hM.dep0⟩,hS.size,hS.defers,λi hi=>?_,λi hi=>?_,λi b hib=>?_,λv hv=>?_⟩⟩
 ·have h:BP s.ob i=some cells:=h;obtain ⟨arr,e,h1,h2,h3,h4,h5⟩:=hM.ob _ _ (hob h);rw [BQ] at h2;refine ⟨arr,e,h1,h2,λj x hj=>?_,h4,h5⟩;obtain ⟨h6,v,h7,h8⟩:=h3 j (x.ren (BA mo) (BA mr)) (by rw [KN,hj]; rfl);refine ⟨?_,v,h7,hvr h8 (D6 (Ik hkl _ (pG h)) j x hj)⟩
  cases x <;> first | rfl | (simp [A.ren,A.one] at h6)
 ·obtain ⟨l,hl⟩:=Option.isSome_iff_exists.1 h;obtain ⟨l',hl'⟩:=Option.isSome_iff_exists.1 h';have:=hM.obne _ _ (show st.O _ by unfold St.O; rw [hob hl]; rfl) (show st.O _ by unfold St.O; rw [hob hl']; rfl) he;exact congrArg Prod.fst (G7 (D7 hno) (pG hl) (pG hl') this)
 ·have:=hM.rowne _ _ b (hL h) (hL h') he he';obtain ⟨e,sz,rows,hx⟩:=h;obtain ⟨e',sz',rows',hx'⟩:=h';exact congrArg Prod.fst (G7 (D7 hnr) (pG hx) (pG hx') this)
 ·obtain ⟨l,hl⟩:=Option.isSome_iff_exists.1 h';exact hM.rowob _ _ (hL h) (show st.O _ by unfold St.O; rw [hob hl]; rfl)
 ·obtain ⟨v,h1,h2⟩:=hS.tm i hi;refine ⟨v,h1,?_⟩;show VR w _ s.st.O s.st.R (match BP s.tm i with | some a=>a | none=>.undef) v
  cases hl:BP s.tm i with
  | none=>exact .undef v
  | some x =>
   have:=J6 ht (i,x) (pG hl);simp only at this;rw [this] at h2;exact hvr h2 (BR hkt _ (pG hl)).2
 ·show (match BP s.tm i with | some a=>a | none=>.undef)=A.undef
  cases hl:BP s.tm i with
  | none=>rfl
  | some x =>
   have:=(BR hkt _ (pG hl)).1;simp only at this;omega
 ·obtain ⟨hi,h9⟩:=hE.mem hib;have:=List.all_eq_true.1 hls i hi;obtain ⟨k,rfl⟩:∃ k,i=k+2:=⟨i - 2,by omega⟩;simp only [sk] at this;refine ⟨this.1,?_⟩;show g.ob (BA mo (k+2))=b;rw [zWy this.2];exact (hS.lent (k+2) b hib).2
 ·have:=List.all_eq_true.1 hls 0 (hE.pin hv);simp only [sk] at this;refine ⟨this.1,?_⟩;show g.rw (BA mr PR)=v;rw [zWy this.2];exact (hS.pin v hv).2
end Go.Tm
namespace Go.Tm
open Go.RowKit
def BS(P:Program)(st:St):List ResultVar->Option (List A)
 | []=>some []
 | .tmp t :: r=>match BS P st r with | some l=>some (st.tm t :: l) | none=>none
 | .cell a t :: r=>match st.tm a with
  | .obj s off=>match st.ob s with
   | some cells=>match OZ P t,i7 P t with
    | some g,some n=>match DZ g n cells off,BS P st r with | some x,some l=>some (x :: l) | _,_=>none
    | _,_=>none
   | none=>none
  | _=>none
def US:List A->A
 | [x]=>x
 | l=>.tup l
def BT{α:Type}:Nat->List V->(List (List C)->MA α)->MA α
 | _,[],k=>k []
 | i,.ptr _ :: r,k=>BM (900+i) λc=>BT (i+1) r λos=>k (c :: os)
 | i,_ :: r,k=>BT (i+1) r k
def eG:Nat->List V->List Nat
 | _,[]=>[]
 | i,.ptr _ :: r=>(900+i) :: eG (i+1) r
 | i,_ :: r=>eG (i+1) r
def lC:Nat->List V->List Value->List (Nat×Nat)
 | i,.ptr _ :: r,.pointer (some a) :: vs=>(900+i,a.block) :: lC (i+1) r vs
 | i,.ptr _ :: r,_ :: vs=>(900+i,0) :: lC (i+1) r vs
 | i,_ :: r,_ :: vs=>lC (i+1) r vs
 | i,.ptr _ :: r,[]=>(900+i,0) :: lC (i+1) r []
 | i,_ :: r,[]=>lC (i+1) r []
 | _,[],_=>[]
def ic:Nat->List V->List A->Bool
 | _,[],_=>true
 | i,.ptr _ :: r,.obj s 0 :: as=>zXw s (900+i) && ic (i+1) r as
 | i,.ptr _ :: r,_=>false
 | i,_ :: r,_ :: as=>ic (i+1) r as
 | i,_ :: r,[]=>false
section
variable {P:Program} {E:En} {g:Gh} {st st':St} {a:Act} {w:World} {n:Nat}
theorem pH:∀ (l:List V) (i:Nat) (vs:List Value),(lC i l vs).map Prod.fst=eG i l
 | [],i,vs=>by cases vs <;> rfl
 | x :: l,i,[]=>by cases x <;> simp [lC,eG,pH l]
 | x :: l,i,v :: vs=>by
  cases x <;> simp only [eG] <;> try (simp only [lC]; exact pH l _ _)
  cases v <;> try (simp only [lC,zWg,List.cons.injEq,true_and]; exact pH l _ _)
  rename_i o
  cases o <;> (simp only [lC,zWg,List.cons.injEq,true_and]; exact pH l _ _)
theorem AE:∀ (l:List V) (i:Nat),∀ q∈eG i l,900<=q
 | [],i,q,h=>by simp [eG] at h
 | x :: l,i,q,h=>by
  cases x <;> simp only [eG] at h <;> try exact AE l _ q h
  rcases List.mem_cons.1 h with rfl | h
  ·omega
  ·exact AE l _ q h
theorem G8(l:List V)(i:Nat)(vs:List Value):∀ q∈lC i l vs,900<=q.1:=λq hq =>
 AE l i q.1 (by rw [<- pH l i vs]; exact List.mem_map.2 ⟨q,hq,rfl⟩)
theorem G9:∀ {rs:List ResultVar} {l:List A},iQ E g n st a w->BS P st rs=some l->(∀ t,.tmp t∈rs->t < n)->∃ vs:List Value,l.length=vs.length/\(∀ (j:Nat) (x:A) (u:Value),l[j]?=some x->vs[j]?=some u->VR w g st.O st.R x u) /\
  ∀ (f:ResultVar->Sem Value) (_:∀ u,f (.tmp u)=pure (a.tmps.getD u undef)) (_:∀ p t,f (.cell p t)=(do loadVar t (<- asAddr (a.tmps.getD p undef)))),(rs.mapM f).run P w=.ok vs w
 | [],l,hS,h,_=>by
  cases h
  exact ⟨[],rfl,by simp,λf _ _=>by simp⟩
 | .tmp t :: r,l,hS,h,ht=>by
  unfold BS at h
  split at h
  ·rename_i l' hl'
   cases h
   obtain ⟨vs,h1,h2,h3⟩:=G9 hS hl' (λt h=>ht t (by simp [h]));obtain ⟨v,h4,h5⟩:=hS.tm t (ht t (by simp));refine ⟨v :: vs,by simp [h1],λj x u hx hu=>?_,λf hf hc=>?_⟩
   ·cases j with
    | zero=>simp at hx hu; subst hx hu; exact h5
    | succ j=>exact h2 j x u (by simpa using hx) (by simpa using hu)
   ·have:a.tmps.getD t undef=v:=by simp [h4]
    simp [List.mapM_cons,hf,h3 f hf hc,h4]
  ·cases h
 | .cell p t :: r,l,hS,h,ht=>by
  unfold BS at h
  split at h <;> try (cases h; done)
  rename_i s off hp
  split at h <;> try (cases h; done)
  rename_i cells hc
  split at h <;> try (cases h; done)
  rename_i gg nn hg hn
  split at h <;> try (cases h; done)
  rename_i x l' hx hl'
  cases h
  obtain ⟨vs,h1,h2,h3⟩:=G9 hS hl' (λt h=>ht t (by simp [h]));have hlt:p < n:=by
   rcases Nat.lt_or_ge p n with h | h
   ·exact h
   ·rw [hS.und p h] at hp; cases hp
  obtain ⟨v,h4,h5⟩:=hS.tm p hlt;rw [hp] at h5
  cases h5 with
  | obj s off hs =>
   obtain ⟨arr,e,hh,hl,hv,_⟩:=hS.mem.ob s cells hc;obtain ⟨u,hu,hr⟩:=BK (P:=P) (w:=w) (g:=g) (st:=st) (b:=g.ob s) (o:=0) hg hn hx (λj y hy=>by
    obtain ⟨_,u,hu,hr⟩:=hv j y hy;exact ⟨u,by rw [zWV]; simp [World.cell?,hh,hu],hr⟩)
   rw [zWV] at hu;refine ⟨u :: vs,by simp [h1],λj x u hx hu=>?_,λf hf hcc=>?_⟩
   ·cases j with
    | zero=>simp at hx hu; subst hx hu; exact hr
    | succ j=>exact h2 j x u (by simpa using hx) (by simpa using hu)
   ·simp [List.mapM_cons,hcc,h4,asAddr,hu,h3 f hf hcc]
theorem FE{fn:Func}{l:List A}(hS:iQ E g n st a w)(h:BS P st fn.results.toList=some l)(ht:(fn.results.toList.all λ| .tmp t=>Nat.blt t n | _=>true)=true):∃ v,(results fn a.tmps).run P w=.ok v w/\VR w g st.O st.R (US l) v:=by
 obtain ⟨vs,h1,h2,h3⟩:=G9 hS h (λt h=>by simpa using List.all_eq_true.1 ht _ h);have hres:fn.results=fn.results.toList.toArray:=by simp
 have hr:(results fn a.tmps).run P w=.ok (if h:vs.toArray.size=1 then vs.toArray[0] else .tuple vs.toArray) w:=by
  unfold results;rw [hres,List.mapM_toArray];simp only [Sem.run_bind,Sem.run_map];rw [h3 _ (λ_=>rfl) (λ_ _=>rfl)];simp only [Result.andThen_ok,Sem.run_pure]
 refine ⟨_,hr,?_⟩
 clear hr h3
 match vs,l,h1,h2 with
 | [],[],_,_=>exact .tup [] [] rfl (λi x v h=>by simp at h)
 | [v],[x],_,h2=>exact h2 0 x v rfl rfl
 | v :: v' :: vs,x :: x' :: l,h1,h2=>exact .tup _ _ h1 h2
theorem By.len{w:World}{F:Nat->Prop}:∀ {l:List V} {vs:List Value} {bs:List Nat},By w F l vs bs->l.length=vs.length
 | _,_,_,.nil=>rfl
 | _,_,_,.cons _ _ _ _ _ _ _ hs=>by simp [hs.len]
theorem o6.mono{F F':Nat->Prop}(hF:∀ b,F b->F' b){l:List V}{us:List Value}{os:List (List C)}{bo:List Nat}(h:o6 w F l us os bo):o6 w F' l us os bo:=by
 induction h with
 | nil=>exact .nil
 | ptr c c' v bs l vs os bo h hs ih=>exact .ptr c c' v bs l vs os bo (h.mono (λ_ _=>rfl) hF (λ_ _=>rfl)) ih
 | skip x v l vs os bo hx hs ih=>exact .skip x v l vs os bo hx ih
theorem zO{α:Type}{st':St}:∀ (l:List V) {i:Nat} {us:List Value} {g:Gh} {st:St} {k:List (List C)->MA α} {y:α},fe E g st w->us.length=l.length->(∀ (j:Nat) (c:List C),l[j]?=some (.ptr c)->us[j]?=some (.pointer (some ⟨g.ob (900+(i+j)),0,none⟩)))->(BT i l k).run st=some (y,st') ->
  ∃ os st1 g1 bo,fe E g1 st1 w/\qC w w g g1 st.O st.R st1.O st1.R/\Mq g st g1 st1/\(k os).run st1=some (y,st')/\o6 w g1.F l us os bo/\Tk g st g1 st1 bo
 | [],i,us,g,st,k,y,hM,hl,hp,h=>by
  have:us=[]:=rg (by simpa using hl);subst this;exact ⟨[],st,g,[],hM,qC.refl _ _ _ _,Mq.refl _ _,h,.nil,Tk.nil _ _ _ _⟩
 | x :: l,i,us,g,st,k,y,hM,hl,hp,h=>by
  obtain ⟨u,us,rfl⟩:∃ u us',us=u :: us':=by
   cases us with
   | nil=>simp at hl
   | cons u us=>exact ⟨u,us,rfl⟩
  have hp':∀ (j:Nat) (c:List C),l[j]?=some (.ptr c)->us[j]?=some (.pointer (some ⟨g.ob (900+(i+1+j)),0,none⟩)):=λj c hj=>by
   have:=hp (j+1) c (by simpa using hj);rw [show i+1+j=i+(j+1) by omega]
   simpa using this
  have hoth:(∀ c,x≠.ptr c)->(BT (i+1) l k).run st=some (y,st')->∃ os st1 g1 bo,fe E g1 st1 w/\qC w w g g1 st.O st.R st1.O st1.R/\Mq g st g1 st1/\(k os).run st1=some (y,st')/\o6 w g1.F (x :: l) (u :: us) os bo/\Tk g st g1 st1 bo:=λhx h=>by
   obtain ⟨os,st1,g1,bo,h1,h2,h3,h4,h5,h6⟩:=zO l hM (by simpa using hl) hp' h;exact ⟨os,st1,g1,bo,h1,h2,h3,h4,.skip x u l us os bo hx h5,h6⟩
  cases x with
  | ptr c =>
   unfold BT at h;have hu:=hp 0 c rfl;simp at hu;subst hu;obtain ⟨cs,st1,g1,b1,hM1,hE1,hL1,h1,hv1,ht1,_⟩:=Ax hM h;obtain ⟨os,st2,g2,bo,h2,h3,h4,h5,h6,h7⟩:=zO l hM1 (by simpa using hl) (by rw [hL1.ob]; exact hp') h1;exact ⟨cs :: os,st2,g2,b1++bo,h2,hE1.trans h3,hL1.trans h4,h5,.ptr c cs _ b1 l us os bo (hv1.mono h3.same h3.F (λ_ _=>rfl)) h6,ht1.app hM hL1 h7 h4⟩
  | _=>exact hoth (λc h=>by cases h) (by unfold BT at h; exact h)
theorem NX{i:Nat}{c:List C}{r:List V}{as:List A}(h:ic i (.ptr c :: r) as=true):∃ as',as=.obj (900+i) 0 :: as'/\ic (i+1) r as'=true:=by
 cases as with
 | nil=>simp [ic] at h
 | cons a as =>
  cases a with
  | obj s off =>
   cases off with
   | zero =>
    simp only [ic,sk] at h;have:=zWy h.1;subst this;exact ⟨as,rfl,h.2⟩
   | succ off=>simp [ic] at h
  | _=>simp [ic] at h
theorem zP{F:Nat->Prop}{O R:Nat->Prop}:∀ {l:List V} {i:Nat} {us:List Value} {as:List A} {bs:List Nat},ic i l as=true->By w F l us bs->as.length=us.length->(∀ (j:Nat) (x:A),as[j]?=some x->∃ u,us[j]?=some u/\VR w g O R x u) ->
  (∀ s b,(s,b)∈lC i l us->O s/\g.ob s=b)/\∀ (j:Nat) (c:List C),l[j]?=some (.ptr c)->∃ b,us[j]?=some (.pointer (some ⟨b,0,none⟩))/\(900+(i+j),b)∈lC i l us
 | [],i,us,as,bs,hl,hV,hlen,hx=>by
  cases hV
  exact ⟨λs b h=>by simp [lC] at h,λj c h=>by simp at h⟩
 | x :: l,i,us,as,bs,hl,hV,hlen,hx=>by
  cases hV with
  | cons x v b l vs bs' h1 h2 =>
   obtain ⟨a,as,rfl⟩:∃ a as',as=a :: as':=by
    cases as with
    | nil=>simp at hlen
    | cons a as=>exact ⟨a,as,rfl⟩
   obtain ⟨u,hu,hr⟩:=hx 0 a rfl;simp at hu;subst hu;have hx':∀ (j:Nat) (x:A),as[j]?=some x->∃ u,vs[j]?=some u/\VR w g O R x u:=λj x hj=>by simpa using hx (j+1) x (by simpa using hj)
   have hoth:(∀ c,x≠.ptr c)->lC i (x :: l) (v :: vs)=lC (i+1) l vs->ic (i+1) l as=true ->
     (∀ s b,(s,b)∈lC i (x :: l) (v :: vs)->O s/\g.ob s=b)/\∀ (j:Nat) (c:List C),(x :: l)[j]?=some (.ptr c)->∃ b,(v :: vs)[j]?=some (.pointer (some ⟨b,0,none⟩))/\(900+(i+j),b)∈lC i (x :: l) (v :: vs):=λhnp he hla=>by
    obtain ⟨h3,h4⟩:=zP hla h2 (by simpa using hlen) hx';rw [he];refine ⟨h3,λj c hj=>?_⟩
    cases j with
    | zero=>simp at hj; exact absurd hj (hnp c)
    | succ j =>
     obtain ⟨b,h5,h6⟩:=h4 j c (by simpa using hj);exact ⟨b,by simpa using h5,by rw [show i+(j+1)=i+1+j by omega]; exact h6⟩
   cases x with
   | ptr c =>
    obtain ⟨as',he,hla⟩:=NX hl;injection he with e1 e2
    subst e1 e2
    cases h1 with
    | ptr cells bb arr e vals bs1 q1 q2 q3 q4 =>
      obtain ⟨h3,h4⟩:=zP hla h2 (by simpa using hlen) hx'
      cases hr with
      | obj _ _ hO =>
       simp only [lC];refine ⟨λs b hm=>?_,λj c hj=>?_⟩
       ·rcases List.mem_cons.1 hm with hm | hm
        ·cases hm; exact ⟨hO,rfl⟩
        ·exact h3 s b hm
       ·cases j with
        | zero=>exact ⟨_,rfl,zQj ..⟩
        | succ j =>
         obtain ⟨b,h5,h6⟩:=h4 j c (by simpa using hj);exact ⟨b,by simpa using h5,zQv _ (by rw [show i+(j+1)=i+1+j by omega]; exact h6)⟩
   | _=>exact hoth (λc h=>by cases h) (by cases v <;> rfl) (by unfold ic at hl; exact hl)
end
inductive D8 {α β:Type} (R:α->β->Prop):List α->List β->Prop
 | nil:D8 R [] []
 | cons {a:α} {b:β} {l:List α} {l':List β} (h:R a b) (hs:D8 R l l'):D8 R (a :: l) (b :: l')
inductive QE:C->C->Prop
 | refl (c:C):QE c c
 | nilT (sz:Nat):QE .nil (.t (.sl sz []))
 | nilO (e sz:Nat):QE .nil (.ow e sz [])
 | sz (s s':Nat):QE (.t (.sl s [])) (.t (.sl s' []))
mutual
inductive R5:V->V->Prop
 | refl (v:V):R5 v v
 | one {c c':C} (h:QE c c'):R5 (.one c) (.one c')
 | agg {l l':List C} (h:D8 QE l l'):R5 (.agg l) (.agg l')
 | tup {l l':List V} (h:BU l l'):R5 (.tup l) (.tup l')
 | cut (l r:List T):R5 (.fptr (l++r)) (.fptr l)
inductive BU:List V->List V->Prop
 | nil:BU [] []
 | cons {v v':V} {l l':List V} (h:R5 v v') (hs:BU l l'):BU (v :: l) (v' :: l')
end
theorem QE.cv{w:World}{F:Nat->Prop}{c c':C}{v:Value}{bs:List Nat}(h:QE c c')(hv:CV w F c v bs):CV w F c' v bs:=by
 cases h with
 | refl=>exact hv
 | nilT sz=>cases hv; exact .t _ _ (.sl0 _ _ _ (by first | assumption | exact λ_=>rfl | (intro h; cases h)))
 | nilO e sz =>
  cases hv
  exact .ow e sz [] (.slice none 0 0) [] ⟨by simp,.inl ⟨rfl,rfl⟩⟩ ⟨by simp,λi row h=>by simp at h,λi row j x h=>by simp at h⟩
 | sz s s' =>
  cases hv with
  | t _ _ h =>
   cases h with
   | sl0 _ _ _ ha=>exact .t _ _ (.sl0 _ _ _ (by first | assumption | exact λ_=>rfl | (intro h; cases h)))
   | sl=>exact .t _ _ (.sl0 _ _ _ (by first | assumption | exact λ_=>rfl | (intro h; cases h)))
theorem QU{w:World}{F:Nat->Prop}:∀ {l l':List C} {vs:List Value} {bs:List Nat},D8 QE l l'->JZ w F l vs bs->JZ w F l' vs bs
 | _,_,_,_,.nil,.nil=>.nil
 | _,_,_,_,.cons h hs,.cons _ _ _ _ _ _ hc hcs=>.cons _ _ _ _ _ _ (h.cv hc) (QU hs hcs)
mutual
theorem R5.vv{w:World}{F:Nat->Prop}:∀ {x x':V} {v:Value} {bs:List Nat},R5 x x'->VV w F x v bs->VV w F x' v bs
 | _,_,_,_,.refl _,hv=>hv
 | _,_,_,_,.one h,.one _ _ _ hc=>.one _ _ _ (h.cv hc)
 | _,_,_,_,.agg h,.agg _ vs _ hc=>.agg _ vs _ (QU h hc)
 | _,_,_,_,.tup h,.tup _ vs _ hc=>.tup _ vs _ (Ha h hc)
 | _,_,_,_,.cut l r,.fptr _ b off u hF hx hr=>.fptr l b off u hF
   (λj x hj=>hx j x (by rw [r0 (List.getElem?_eq_some_iff.1 hj).1]; exact hj)) (λj x hj=>hr j x (by rw [r0 (List.getElem?_eq_some_iff.1 hj).1]; exact hj))
theorem Ha{w:World}{F:Nat->Prop}:∀ {l l':List V} {vs:List Value} {bs:List Nat},BU l l'->By w F l vs bs->By w F l' vs bs
 | _,_,_,_,.nil,.nil=>.nil
 | _,_,_,_,.cons h hs,.cons _ _ _ _ _ _ hc hcs=>.cons _ _ _ _ _ _ (h.vv hc) (Ha hs hcs)
end
theorem R5.ptr{x:V}{c:List C}(h:R5 x (.ptr c)):x=.ptr c:=by cases h; rfl
theorem R5.nptr{x x':V}(h:R5 x x')(hx:∀ c,x'≠.ptr c):∀ c,x≠.ptr c:=by
 cases h <;> first | exact hx | (intro c hc; cases hc)
theorem R6{w:World}{F:Nat->Prop}{l':List V}{us:List Value}{os:List (List C)}{bo:List Nat}(ho:o6 w F l' us os bo):∀ {l:List V},BU l l'->o6 w F l us os bo:=by
 induction ho with
 | nil=>intro l h; cases h; exact .nil
 | ptr c c' v bs l vs os bo hv ho ih =>
  intro l h
  cases h with
  | cons h hs =>
   have:=h.ptr;subst this;exact .ptr c c' v bs _ vs os bo hv (ih hs)
 | skip x v l vs os bo hx ho ih =>
  intro l h
  cases h with
  | cons h hs=>exact .skip _ v _ vs os bo (h.nptr hx) (ih hs)
theorem KO{w:World}{F:Nat->Prop}{l:List V}{us:List Value}{os:List (List C)}{bo:List Nat}(ho:o6 w F l us os bo):∀ {os':List (List C)},D8 (D8 QE) os os'->o6 w F l us os' bo:=by
 induction ho with
 | nil=>intro os' h; cases h; exact .nil
 | ptr c c' v bs l vs os bo hv ho ih =>
  intro os' h
  cases h with
  | cons h hs =>
   refine .ptr c _ v bs l vs _ bo ?_ (ih hs)
   cases hv with
   | ptr _ b arr e vals bs' h1 h2 h3 h4=>exact .ptr _ b arr e vals bs' h1 h2 h3 (QU h h4)
 | skip x v l vs os bo hx ho ih=>intro os' h; exact .skip x v l vs _ bo hx (ih h)
end Go.Tm
namespace Go.Tm
open Go.RowKit
def c7:St:=⟨λ_=>.undef,λ_=>none,λ_=>none⟩
def eA(as:List A)(st:St):St:=⟨λi=>match as[i]? with | some a=>a | none=>.undef,st.ob,st.rw⟩
def TS{α:Type}(m:Bool):A->(V->MA α)->MA α
 | .obj s 0,k=>BM s λcs=>k (.ptr cs)
 | .tup l,k=>kx m (λ_=>false) l λvs=>k (.tup vs)
 | a,k=>oU m a k
theorem BV{E:En}{w:World}{α:Type}{st':St}{m:Bool}{x:A}{st:St}{g:Gh}{k:V->MA α}{y:α}{v:Value}(hM:fe E g st w)(hv:VR w g st.O st.R x v)(h:(TS m x k).run st=some (y,st')) :
  ∃ c st1 g1 bs,fe E g1 st1 w/\qC w w g g1 st.O st.R st1.O st1.R/\Mq g st g1 st1/\(k c).run st1=some (y,st')/\VV w g1.F c v bs/\Tk g st g1 st1 bs:=by
 unfold TS at h
 split at h
 ·rename_i s k'
  cases hv with
  | obj _ _ hs =>
   obtain ⟨cs,st1,g1,bs,h1,h2,h3,h4,h5,h6,_⟩:=Ax hM h;exact ⟨_,st1,g1,bs,h1,h2,h3,h4,h5,h6⟩
 ·rename_i l
  cases hv with
  | tup l vs hl hx =>
   obtain ⟨cs,st1,g1,bs,hM1,hE1,hL1,h1,hc,ht,_⟩:=uE l hM hl.symm (λj x hj=>⟨_,sX (by rw [<- hl]; exact (List.getElem?_eq_some_iff.1 hj).1),hx j x _ hj (sX (by rw [<- hl]; exact (List.getElem?_eq_some_iff.1 hj).1))⟩) h;exact ⟨_,st1,g1,bs,hM1,hE1,hL1,h1,.tup cs vs bs hc,ht⟩
 ·obtain ⟨c,st1,g1,bs,h1,h2,h3,h4,h5,h6,_⟩:=NR _ hM hv h;exact ⟨c,st1,g1,bs,h1,h2,h3.lnd,h4,h5,h6⟩
def xz(P:Program)(m:Bool)(fn:Func)(args:List V)(res:V)(cA:List (List C))(e:Exit)(st:St):Prop :=
 (e=.ret\/e=.normal)/\∃ l st1 res0 outs0,BS P st fn.results.toList=some l/\(BT 0 args λos=>TS m (US l) λv=>MA.ret (v,os)).run st=some ((res0,outs0),st1)/\R5 res0 res/\D8 (D8 QE) outs0 cA
def tK(n:Nat)(fn:Func):Bool:=fn.results.toList.all λ| .tmp t=>Nat.blt t n | _=>true
def Wz(P:Program)(n:Nat)(ls:List Nat)(c:Code)(Q:Exit->St->Prop)(st:St):Prop :=
 ∀ (E:En) (g:Gh) (a:Act) (w:World),R4 P E ls->E.sh=false->E.pin=none->iQ E g n st a w->c.wp P (λe a' w'=>∃ g' st',iQ E g' n st' a' w'/\Q e st') a w
theorem IV{P:Program}{fn:Func}{c:Code}{f:FuncId}{args:List V}{as:List A}{st0:St}{m:Bool}{res:V}{cA:List (List C)}
  (hf:P.funcs[f]?=some fn) (hb:fn.body=some c) (hnm:(fn.name == "runtime.NumGoroutine")=false) (hle:as.length<=fn.ntmps) (ht:tK fn.ntmps fn=true)
  (ha:(oV 0 args MA.ret).run c7=some (as,st0)) (hl:ic 0 args as=true)
  (h:Wz P fn.ntmps (eG 0 args) c (xz P m fn args res cA) (eA as st0)):aL P f args res cA:=by
 refine ⟨⟨fn,hf,by simp [hb],hnm⟩,λw F vs bs hF hVV hnd hnf htb=>?_⟩
 let E:En:={ w0:=w,X:=λb=>b∈bs,F0:=F,lent:=lC 0 args vs }
 let g0:Gh:={ F:=F,ob:=λ_=>0,rw:=λ_=>.nilFunc,dw:=w }
 have hM0:fe E g0 c7 w:=⟨λs cells h=>(by cases h),λs s' h=>(by cases h),λr x h=>(by cases h),λr r' b h=>(by obtain ⟨_,_,_,h⟩:=h; cases h),λr s h=>(by obtain ⟨_,_,_,h⟩:=h; cases h),
  λb hb=>⟨hF b hb,λ_=>.inl hb,.inl hb⟩,rfl,rfl,rfl,zWq _,λ_ _ _=>.inl rfl,λ_ h=>h.elim,⟨rfl,rfl,rfl⟩,λ_ h=>h.elim⟩
 obtain ⟨as',st1,g1,hG,h1,hlen,hx⟩:=CA args hM0 hVV hnd (λb hb=>⟨hnf b hb,λs hs=>(by cases hs),λr hr=>(by obtain ⟨_,_,_,h⟩:=hr; cases h),.inr hb⟩) ha;obtain ⟨rfl,rfl⟩:=eR h1;have hM1:fe E g1 (eA as st0) w:=⟨hG.mem.ob,hG.mem.obne,hG.mem.row,hG.mem.rowne,hG.mem.rowob,hG.mem.F,hG.mem.os,hG.mem.tape,hG.mem.output,hG.mem.sizes,hG.mem.frame,hG.mem.shp,hG.mem.dep0⟩;obtain ⟨hl1,hl2⟩:=zP hl hVV hlen hx;have hS:iQ E g1 fn.ntmps (eA as st0) { tmps:=vs.toArray++zZK (fn.ntmps - vs.toArray.size) undef,defers:=[] } w:=by
  refine ⟨hM1,by simp; omega,rfl,λi hi=>?_,λi hi=>?_,hl1,λ_ h=>(by cases h)⟩
  ·show ∃ v,_/\VR w g1 st0.O st0.R (match as[i]? with | some a=>a | none=>.undef) v
   cases hai:as[i]? with
   | some a =>
    obtain ⟨u,hu,hr⟩:=hx i a hai;have hlt:i < vs.length:=(List.getElem?_eq_some_iff.1 hu).1;exact ⟨u,by rw [zYv (by simpa using hlt)]; simpa using hu,hr⟩
   | none =>
    have hge:as.length<=i:=List.getElem?_eq_none_iff.1 hai;refine ⟨undef,?_,.undef _⟩;rw [zYx (by simpa [<- hlen] using hge)];rw [zZQ,if_pos (by simp only [zYJ]; omega)]
  ·show (match as[i]? with | some a=>a | none=>.undef)=A.undef;rw [List.getElem?_eq_none_iff.2 (by omega)]
 refine calls_of_wp hf hb (wp_mono (h E g1 _ w ⟨⟨[],by rw [zWj]; exact (pH _ _ _).symm,G8 _ _ _,λ_ h=>(by cases h),λh=>(by cases h)⟩,⟨htb.mono λb h=>h.elim id λh=>(by cases h.1)⟩⟩ rfl rfl hS) λe a' w' ⟨g',st',hS',hR⟩=>?_);obtain ⟨he,l,st2,res0,outs0,hres,hrun,hvle,hole⟩:=hR;have hfin:a'.defers=[]/\∃ v,(results fn a'.tmps).run P w'=.ok v w'/\(λe w'=>∃ v F' bv bo,e=Ending.returned v/\qI w w'/\(∀ b,b < w.heap.size->b∉bs->w'.heap[b]?=w.heap[b]?)/\(∀ b,F b->F' b) /\
   (∀ b,F' b->b < w'.heap.size/\(b < w.heap.size->F b\/b∈bs)/\(F b\/Wr w' b))/\VV w' F' res v bv/\o6 w' F' args vs cA bo/\(bv++bo).Nodup/\∀ b∈bv++bo,¬ F' b/\(w.heap.size<=b\/b∈bs)) (.returned v) w':=by
  refine ⟨hS'.defers,?_⟩;obtain ⟨v,hrv,hvv⟩:=FE hS' hres ht;refine ⟨v,hrv,?_⟩;have hM':=hS'.mem;obtain ⟨os,st3,g3,bo,hM3,hE3,hL3,h3,hO,hT3⟩:=zO (w:=w') args hM' (us:=vs) (hVV.len.symm) (λj c hj=>by
   obtain ⟨b,h5,h6⟩:=hl2 j c hj;rw [(hS'.lent _ _ h6).2];exact h5) hrun
  obtain ⟨c',st4,g4,bv,hM4,hE4,hL4,h4,hv4,hT4⟩:=BV hM3 (hvv.mono hE3) h3;obtain ⟨h5,rfl⟩:=eR h4;injection h5 with h5 h6
  subst h5 h6;have hT:=hT3.app hM' hL3 hT4 hL4;have hof:∀ b∈bo++bv,w.heap.size<=b\/b∈bs:=λb hb=>by
   rcases hT.of b hb with ⟨r,⟨e,sz,rows,h7⟩,_,h8⟩ | ⟨s,⟨c,cs,h7⟩,_,h8⟩
   ·obtain ⟨_,_,_,_,h9⟩:=hM'.row r _ h7;exact (h9 b h8).2
   ·obtain ⟨_,_,_,_,_,_,h9⟩:=hM'.ob s _ h7;rw [h8] at h9;exact h9
  have hnF:∀ b∈bo++bv,¬ (g4.F b\/F b):=λb hb h=>by
   rcases h with h | h
   ·exact hT.nf b hb h
   ·rcases hof b hb with h7 | h7
    ·have:=hF b h; omega
    ·exact hnf b h7 h
  have hmem:∀ b,b∈bv++bo->b∈bo++bv:=λb hb=>by
   rcases List.mem_append.1 hb with h | h <;> simp [h]
  refine ⟨v,λb=>g4.F b\/F b,bv,bo,rfl,⟨hM4.os,hM4.tape,hM4.output,hM4.sizes⟩,λb hb hbs=>hM4.frm rfl b hb hbs,λb h=>.inr h,λb h=>?_,hvle.vv (hv4.mono (λ_ _=>rfl) (λ_ h=>.inl h) (λ_ _=>rfl)),KO (hO.mono (λb h=>.inl (hE4.F b h))) hole,?_,λb hb=>⟨hnF b (hmem b hb),hof b (hmem b hb)⟩⟩
  ·rcases h with h | h
   ·exact hM4.F b h
   ·exact ⟨zQg (hF b h) hM4.sizes,λ_=>.inl h,.inl h⟩
  ·have:=hT.nodup;rw [zXJ] at this ⊢;exact ⟨this.2.1,this.1,λx hx y hy he=>this.2.2 y hy x hx he.symm⟩
 rcases he with rfl | rfl
 ·exact hfin
 ·exact hfin
theorem KP{P:Program}{fn:Func}{c:Code}{f:FuncId}{args:List V}{as:List A}{st0:St}{m:Bool}{res:V}{cA:List (List C)}
  (hf:P.funcs[f]?=some fn) (hb:fn.body=some c) (hnm:(fn.name == "runtime.NumGoroutine")=false) (hle:as.length<=fn.ntmps) (ht:tK fn.ntmps fn=true)
  (ha:(oV 0 args MA.ret).run c7=some (as,st0)) (hl:ic 0 args as=true)
  (h:Wp P fn.ntmps (eG 0 args) c (xz P m fn args res cA) (eA as st0)):aL P f args res cA:=IV hf hb hnm hle ht ha hl λE g a w hE _ _ hS=>h E g a w hE hS
theorem Nk{E:En}{g:Gh}{st0:St}{w:World}{n:Nat}{as:List A}{vs:List Value}(hM:fe E g (eA as st0) w)(hlen:vs.length=as.length)(hle:as.length<=n)
  (hx:∀ (j:Nat) (x:A),as[j]?=some x->∃ u,vs[j]?=some u/\VR w g st0.O st0.R x u) (hl:E.lent=[]) (hp:∀ v,E.pin=some v->(eA as st0).R PR/\g.rw PR=v) :
  iQ E g n (eA as st0) { tmps:=vs.toArray++zZK (n - vs.toArray.size) undef,defers:=[] } w:=by
 refine ⟨hM,by simp; omega,rfl,λi hi=>?_,λi hi=>?_,λs b h=>(by rw [hl] at h; cases h),hp⟩
 ·show ∃ v,_/\VR w g st0.O st0.R (match as[i]? with | some a=>a | none=>.undef) v
  cases hai:as[i]? with
  | some a =>
   obtain ⟨u,hu,hr⟩:=hx i a hai;have hlt:i < vs.length:=(List.getElem?_eq_some_iff.1 hu).1;exact ⟨u,by rw [zYv (by simpa using hlt)]; simpa using hu,hr⟩
  | none =>
   have hge:as.length<=i:=List.getElem?_eq_none_iff.1 hai;refine ⟨undef,?_,.undef _⟩;rw [zYx (by simpa [hlen] using hge)];rw [zZQ,if_pos (by simp only [zYJ]; omega)]
 ·show (match as[i]? with | some a=>a | none=>.undef)=A.undef;rw [List.getElem?_eq_none_iff.2 (by omega)]
def C.toX:C->A
 | .t x=>Uy false x
 | _=>.undef
def V.toX:V->A
 | .one c=>c.toX
 | .agg l=>.agg (l.map C.toX)
 | .fptr cells=>.exa false cells
 | _=>.undef
theorem CV.toX{w:World}{D:Nat->Prop}{g:Gh}{c:C}{v:Value}{bs:List Nat}(h:CV w D c v bs)(h1:g.D=D)(h2:g.dw=w)(h3:g.sh=false):VR w g KD KD c.toX v:=by
 cases h with
 | t x v h =>
  cases x with
  | sl sz rows=>exact .ext false _ v h3 (by rw [h1,h2]; exact h.sd)
  | int k n=>exact .t _ v (h.sc rfl)
  | bool b=>exact .t _ v (h.sc rfl)
  | str s=>exact .t _ v (h.sc rfl)
  | nilf=>exact .t _ v (h.sc rfl)
  | hdr a n c=>exact .t _ v (h.sc rfl)
 | nil=>exact .undef _
 | ow=>exact .undef _
theorem JZ.toX{w:World}{D:Nat->Prop}{g:Gh}{l:List C}{vs:List Value}{bs:List Nat}(h:JZ w D l vs bs)(h1:g.D=D)(h2:g.dw=w)(h3:g.sh=false) :
  l.length=vs.length/\∀ (i:Nat) (x:A) (v:Value),(l.map C.toX)[i]?=some x->vs[i]?=some v->VR w g KD KD x v:=by
 induction h with
 | nil=>exact ⟨rfl,λi x v h=>by simp at h⟩
 | cons c v b cs vs bs h hs ih =>
  refine ⟨by simp [ih.1],λi x u hx hu=>?_⟩
  cases i with
  | zero=>simp at hx hu; subst hx hu; exact h.toX h1 h2 h3
  | succ i=>exact ih.2 i x u (by simpa using hx) (by simpa using hu)
theorem VV.toX{w:World}{D:Nat->Prop}{g:Gh}{x:V}{v:Value}{bs:List Nat}(h:VV w D x v bs)(h1:g.D=D)(h2:g.dw=w)(h3:g.sh=false):VR w g KD KD x.toX v:=by
 cases h with
 | one c v bs h=>exact h.toX h1 h2 h3
 | agg l vs bs h =>
  obtain ⟨h4,h5⟩:=h.toX h1 h2 h3;exact .agg _ vs (by simp [h4]) h5
 | fptr cells b off u hF hx hr=>exact .exa false cells b off u h3 (by rw [h1]; exact hF) (by rw [h2]; exact hx) (λj x hj=>by rw [h1,h2]; exact (hr j x hj).sd)
 | _=>exact .undef _
theorem By.toX{w:World}{D:Nat->Prop}{g:Gh}(h1:g.D=D)(h2:g.dw=w)(h3:g.sh=false):∀ {l:List V} {vs:List Value} {bs:List Nat},By w D l vs bs ->
  vs.length=l.length/\∀ (j:Nat) (x:A),(l.map V.toX)[j]?=some x->∃ u,vs[j]?=some u/\VR w g KD KD x u
 | _,_,_,.nil=>⟨rfl,λj x h=>by simp at h⟩
 | _,_,_,.cons x v b l vs bs h hs=>by
  obtain ⟨h4,h5⟩:=By.toX h1 h2 h3 hs;refine ⟨by simp [h4],λj y hy=>?_⟩
  cases j with
  | zero=>simp at hy; subst hy; exact ⟨v,rfl,h.toX h1 h2 h3⟩
  | succ j=>exact h5 j y (by simpa using hy) |>.imp λu hu=>⟨by simpa using hu.1,hu.2⟩
theorem WU{E:En}{g:Gh}{as:List A}{w:World}(h1:∀ b,¬ g.F b)(hS0:∀ b,¬ g.S b:=by exact λ_ h=>h)(hw:E.w0=w)(hd:g.D=E.D/\g.dw=E.w0/\g.sh=E.sh)(hD:∀ b,E.D b->b < E.w0.heap.size/\¬ E.X b/\(E.sh=true->¬ E.F0 b/\Wr E.w0 b)):fe E g (eA as c7) w:=by
 subst hw;exact ⟨λs cells h=>(by cases h),λs s' h=>(by cases h),λr x h=>(by cases h),λr r' b h=>(by obtain ⟨_,_,_,h⟩:=h; cases h),λr s h=>(by obtain ⟨_,_,_,h⟩:=h; cases h),
  λb hb=>(h1 b hb).elim,rfl,rfl,rfl,zWq _,λ_ _ _=>.inl rfl,λb h=>(hS0 b h).elim,hd,hD⟩
theorem Px{P:Program}{fn:Func}{c:Code}{f:FuncId}{args:List V}{m:Bool}{res:V}
  (hf:P.funcs[f]?=some fn) (hb:fn.body=some c) (hnm:(fn.name == "runtime.NumGoroutine")=false) (hle:args.length<=fn.ntmps) (ht:tK fn.ntmps fn=true)
  (h:Wp P fn.ntmps [1] c (xz P m fn [] res []) (eA (args.map V.toX) c7)):gT P f args res:=by
 refine ⟨⟨fn,hf,by simp [hb],hnm⟩,λw D vs hD hVV htb=>?_⟩
 let E:En:={ w0:=w,X:=KD,F0:=KD,lent:=[],D:=D }
 let g0:Gh:={ F:=KD,ob:=λ_=>0,rw:=λ_=>.nilFunc,D:=D,dw:=w }
 have hM0:fe E g0 (eA (args.map V.toX) c7) w:=WU (λ_ h=>h) (hw:=rfl) (hd:=⟨rfl,rfl,rfl⟩) (hD:=λb hb=>⟨hD b hb,λh=>h,λh=>(by cases h)⟩);obtain ⟨hlen,hx⟩:=By.toX (g:=g0) rfl rfl rfl hVV;have hS:=Nk (n:=fn.ntmps) hM0 (by simpa using hlen) (by simpa using hle) (λj x hj=>by
  obtain ⟨u,h1,h2⟩:=hx j x hj;exact ⟨u,h1,h2.mono ⟨λ_ _=>rfl,λ_ h=>h,λ_ h=>h.elim,λ_ h=>h.elim,⟨rfl,rfl,rfl⟩,rfl,rfl⟩⟩) rfl (λv h=>(by cases h))
 refine calls_of_wp hf hb (wp_mono (h E g0 _ w ⟨⟨[1],rfl,λ_ h=>(by cases h),λ_ h=>(by cases h),λ_ b=>⟨λh=>h,λh=>h⟩⟩,⟨htb.mono λb h=>h.elim id λh=>(by cases h.1)⟩⟩ hS) λe a' w' ⟨g',st',hS',hR⟩=>?_);obtain ⟨he,l,st2,res0,outs0,hres,hrun,hvle,hole⟩:=hR;have hfin:a'.defers=[]/\∃ v,(results fn a'.tmps).run P w'=.ok v w'/\(λe w'=>∃ v F' bv,e=Ending.returned v/\qI w w'/\(∀ b,b < w.heap.size->w'.heap[b]?=w.heap[b]?) /\
   (∀ b,F' b->b < w'.heap.size/\w.heap.size<=b/\Wr w' b)/\VV w' F' res v bv/\bv.Nodup/\∀ b∈bv,¬ F' b/\w.heap.size<=b) (.returned v) w':=by
  refine ⟨hS'.defers,?_⟩;obtain ⟨v,hrv,hvv⟩:=FE hS' hres ht;refine ⟨v,hrv,?_⟩;have hM':=hS'.mem;simp only [BT] at hrun;obtain ⟨c',st4,g4,bv,hM4,hE4,hL4,h4,hv4,hT4⟩:=BV hM' hvv hrun;obtain ⟨h5,rfl⟩:=eR h4;injection h5 with h5 h6
  subst h5 h6;have hof:∀ b∈bv,w.heap.size<=b:=λb hb=>by
   rcases hT4.of b hb with ⟨r,⟨e,sz,rows,h7⟩,_,h8⟩ | ⟨s,⟨c,cs,h7⟩,_,h8⟩
   ·obtain ⟨_,_,_,_,h9⟩:=hM'.row r _ h7;exact (h9 b h8).2.resolve_right (λh=>h)
   ·obtain ⟨_,_,_,_,_,_,h9⟩:=hM'.ob s _ h7;rw [h8] at h9;exact h9.resolve_right (λh=>h)
  refine ⟨v,g4.F,bv,rfl,⟨hM4.os,hM4.tape,hM4.output,hM4.sizes⟩,λb hb=>hM4.frm rfl b hb (λh=>h),λb h=>?_,hvle.vv hv4,hT4.nodup,λb hb=>⟨hT4.nf b hb,hof b hb⟩⟩;obtain ⟨h7,h8,h9⟩:=hM4.F b h;refine ⟨h7,Nat.le_of_not_lt λhlt=>?_,h9.resolve_left (λh=>h)⟩;rcases h8 hlt with h | h <;> exact h
 rcases he with rfl | rfl
 ·exact hfin
 ·exact hfin
theorem Py{P:Program}{fn:Func}{c:Code}{f:FuncId}{args xs:List V}{as:List A}{st0:St}{m:Bool}{res:V}{cA:List (List C)}
  (hf:P.funcs[f]?=some fn) (hb:fn.body=some c) (hnm:(fn.name == "runtime.NumGoroutine")=false) (hle:(as++xs.map V.toX).length<=fn.ntmps) (ht:tK fn.ntmps fn=true)
  (ha:(oV 0 args MA.ret).run c7=some (as,st0)) (hl:ic 0 args as=true)
  (h:Wp P fn.ntmps (eG 0 args) c (xz P m fn args res cA) (eA (as++xs.map V.toX) st0)):Pm P f args xs res cA:=by
 refine ⟨⟨fn,hf,by simp [hb],hnm⟩,λw F D vs us bs hF hD hVV hUU hnd hnf htb=>?_⟩
 let E:En:={ w0:=w,X:=λb=>b∈bs,F0:=F,lent:=lC 0 args vs,D:=D }
 let g0:Gh:={ F:=F,ob:=λ_=>0,rw:=λ_=>.nilFunc,D:=D,dw:=w }
 have hM0:fe E g0 c7 w:=⟨λs cells h=>(by cases h),λs s' h=>(by cases h),λr x h=>(by cases h),λr r' b h=>(by obtain ⟨_,_,_,h⟩:=h; cases h),λr s h=>(by obtain ⟨_,_,_,h⟩:=h; cases h),
  λb hb=>⟨hF b hb,λ_=>.inl hb,.inl hb⟩,rfl,rfl,rfl,zWq _,λ_ _ _=>.inl rfl,λ_ h=>h.elim,⟨rfl,rfl,rfl⟩,λb hb=>⟨(hD b hb).1,(hD b hb).2,λh=>(by cases h)⟩⟩
 obtain ⟨as',st1,g1,hG,h1,hlen,hx⟩:=CA args hM0 hVV hnd (λb hb=>⟨hnf b hb,λs hs=>(by cases hs),λr hr=>(by obtain ⟨_,_,_,h⟩:=hr; cases h),.inr hb⟩) ha;obtain ⟨rfl,rfl⟩:=eR h1;have hM1:fe E g1 (eA (as++xs.map V.toX) st0) w:=⟨hG.mem.ob,hG.mem.obne,hG.mem.row,hG.mem.rowne,hG.mem.rowob,hG.mem.F,hG.mem.os,hG.mem.tape,hG.mem.output,hG.mem.sizes,hG.mem.frame,hG.mem.shp,hG.mem.dep0⟩;obtain ⟨hl1,hl2⟩:=zP hl hVV hlen hx;obtain ⟨hd1,hd2,hd3⟩:=hG.mem.dep0.1;obtain ⟨hul,hux⟩:=By.toX (g:=g1) (by rw [hd1]) (by rw [hd2]) (by rw [hd3]) hUU;have hx2:∀ (j:Nat) (x:A),(as++xs.map V.toX)[j]?=some x->∃ u,(vs++us)[j]?=some u/\VR w g1 st0.O st0.R x u:=λj x hj=>by
  rw [zWH] at hj
  split at hj
  ·rename_i hlt;obtain ⟨u,h5,h6⟩:=hx j x hj;exact ⟨u,by rw [r0 (by omega)]; exact h5,h6⟩
  ·rename_i hge;obtain ⟨u,h5,h6⟩:=hux _ x hj;exact ⟨u,by rw [zQY (by omega),<- hlen]; exact h5,h6.mono ⟨λ_ _=>rfl,λ_ h=>h,λ_ h=>h.elim,λ_ h=>h.elim,⟨rfl,rfl,rfl⟩,rfl,rfl⟩⟩
 have hlen2:(as++xs.map V.toX).length=(vs++us).length:=by simp [hlen,hul]
 have hle2:as.length+xs.length<=fn.ntmps:=by simpa using hle
 have hvl:(vs++us).length=vs.length+us.length:=zQJ;have hS:iQ E g1 fn.ntmps (eA (as++xs.map V.toX) st0) { tmps:=(vs++us).toArray++zZK (fn.ntmps - (vs++us).toArray.size) undef,defers:=[] } w:=by
  refine ⟨hM1,by simp; omega,rfl,λi hi=>?_,λi hi=>?_,hl1,λ_ h=>(by cases h)⟩
  ·show ∃ v,_/\VR w g1 st0.O st0.R (match (as++xs.map V.toX)[i]? with | some a=>a | none=>.undef) v
   cases hai:(as++xs.map V.toX)[i]? with
   | some a =>
    obtain ⟨u,hu,hr⟩:=hx2 i a hai;have hlt:i < (vs++us).length:=(List.getElem?_eq_some_iff.1 hu).1;exact ⟨u,by rw [zYv (by simpa using hlt)]; simpa using hu,hr⟩
   | none =>
    have hge:(as++xs.map V.toX).length<=i:=List.getElem?_eq_none_iff.1 hai;refine ⟨undef,?_,.undef _⟩;rw [zYx (by simpa [<- hlen2] using hge)];rw [zZQ,if_pos (by simp only [zYJ]; omega)]
  ·show (match (as++xs.map V.toX)[i]? with | some a=>a | none=>.undef)=A.undef;rw [List.getElem?_eq_none_iff.2 (by omega)]
 refine calls_of_wp hf hb (wp_mono (h E g1 _ w ⟨⟨[],by rw [zWj]; exact (pH _ _ _).symm,G8 _ _ _,λ_ h=>(by cases h),λh=>(by cases h)⟩,⟨htb.mono λb h=>h.elim id λh=>(by cases h.1)⟩⟩ hS) λe a' w' ⟨g',st',hS',hR⟩=>?_);obtain ⟨he,l,st2,res0,outs0,hres,hrun,hvle,hole⟩:=hR;have hfin:a'.defers=[]/\∃ v,(results fn a'.tmps).run P w'=.ok v w'/\(λe w'=>∃ v F' bv bo,e=Ending.returned v/\qI w w'/\(∀ b,b < w.heap.size->b∉bs->w'.heap[b]?=w.heap[b]?)/\(∀ b,F b->F' b) /\
   (∀ b,F' b->b < w'.heap.size/\(b < w.heap.size->F b\/b∈bs)/\(F b\/Wr w' b))/\VV w' F' res v bv/\o6 w' F' args vs cA bo/\(bv++bo).Nodup/\∀ b∈bv++bo,¬ F' b/\(w.heap.size<=b\/b∈bs)) (.returned v) w':=by
  refine ⟨hS'.defers,?_⟩;obtain ⟨v,hrv,hvv⟩:=FE hS' hres ht;refine ⟨v,hrv,?_⟩;have hM':=hS'.mem;obtain ⟨os,st3,g3,bo,hM3,hE3,hL3,h3,hO,hT3⟩:=zO (w:=w') args hM' (us:=vs) (hVV.len.symm) (λj c hj=>by
   obtain ⟨b,h5,h6⟩:=hl2 j c hj;rw [(hS'.lent _ _ h6).2];exact h5) hrun
  obtain ⟨c',st4,g4,bv,hM4,hE4,hL4,h4,hv4,hT4⟩:=BV hM3 (hvv.mono hE3) h3;obtain ⟨h5,rfl⟩:=eR h4;injection h5 with h5 h6
  subst h5 h6;have hT:=hT3.app hM' hL3 hT4 hL4;have hof:∀ b∈bo++bv,w.heap.size<=b\/b∈bs:=λb hb=>by
   rcases hT.of b hb with ⟨r,⟨e,sz,rows,h7⟩,_,h8⟩ | ⟨s,⟨c,cs,h7⟩,_,h8⟩
   ·obtain ⟨_,_,_,_,h9⟩:=hM'.row r _ h7;exact (h9 b h8).2
   ·obtain ⟨_,_,_,_,_,_,h9⟩:=hM'.ob s _ h7;rw [h8] at h9;exact h9
  have hnF:∀ b∈bo++bv,¬ (g4.F b\/F b):=λb hb h=>by
   rcases h with h | h
   ·exact hT.nf b hb h
   ·rcases hof b hb with h7 | h7
    ·have:=hF b h; omega
    ·exact hnf b h7 h
  have hmem:∀ b,b∈bv++bo->b∈bo++bv:=λb hb=>by
   rcases List.mem_append.1 hb with h | h <;> simp [h]
  refine ⟨v,λb=>g4.F b\/F b,bv,bo,rfl,⟨hM4.os,hM4.tape,hM4.output,hM4.sizes⟩,λb hb hbs=>hM4.frm rfl b hb hbs,λb h=>.inr h,λb h=>?_,hvle.vv (hv4.mono (λ_ _=>rfl) (λ_ h=>.inl h) (λ_ _=>rfl)),KO (hO.mono (λb h=>.inl (hE4.F b h))) hole,?_,λb hb=>⟨hnF b (hmem b hb),hof b (hmem b hb)⟩⟩
  ·rcases h with h | h
   ·exact hM4.F b h
   ·exact ⟨zQg (hF b h) hM4.sizes,λ_=>.inl h,.inl h⟩
  ·have:=hT.nodup;rw [zXJ] at this ⊢;exact ⟨this.2.1,this.1,λx hx y hy he=>this.2.2 y hy x hx he.symm⟩
 rcases he with rfl | rfl
 ·exact hfin
 ·exact hfin
end Go.Tm
namespace Go.Tm
open Go.RowKit
def sF(P:Program)(ρ:Nat->dX)(ops:Array Oper):List Oper->St->Option St
 | [],st=>some st
 | o :: l,st=>match i8 ops st o with
  | some true=>if eO ρ st o then match (qp P ρ st.eval o).run st with | some (x,st1)=>sF P ρ ops l (st1.put o.dst x) | none=>none else none
  | some false=>sF P ρ ops l (st.put o.dst (.tup []))
  | none=>none
def St.or(x:Option St):St:=match x with | some s=>s | none=>c7
section
variable {P:Program} {n:Nat} {Q:Exit->St->Prop} {st st':St} {p:Nat->Bool} {ρ:Nat->dX} {ops:Array Oper} {l:List Oper} {K:St->Prop} {o:Oper}
theorem zQ:∀ {l:List Oper} {st st1:St},sF P ρ ops l st=some st1->Bz P p ρ ops l st st1
 | [],st,st1,h=>by cases h; rfl
 | o :: l,st,st1,h=>by
  unfold sF at h
  split at h
  ·rename_i hg
   split at h
   ·rename_i hf
    split at h
    ·rename_i x st2 hx;exact ⟨_,.run x st2 hg hf (.plain hx),zQ h⟩
    ·cases h
   ·cases h
  ·rename_i hg;exact ⟨_,.skip hg,zQ h⟩
  ·cases h
theorem Bz.app:∀ {l l':List Oper} {st b c:St},Bz P p ρ ops l st b->Bz P p ρ ops l' b c->Bz P p ρ ops (l++l') st c
 | [],l',st,b,c,h,h'=>by have h:b=st:=h; subst h; exact h'
 | o :: l,l',st,b,c,⟨d,h1,h2⟩,h'=>⟨d,h1,Bz.app h2 h'⟩
theorem aj(k:Nat)(h:(sF P ρ ops (l.take k) st).isSome=true)(hr:ae P p ρ ops (l.drop k) (St.or (sF P ρ ops (l.take k) st)) K):ae P p ρ ops l st K:=by
 obtain ⟨st1,h1⟩:=Option.isSome_iff_exists.1 h;rw [h1] at hr;obtain ⟨st',h2,h3⟩:=hr;refine ⟨st',?_,h3⟩;have:=Bz.app (zQ h1) h2;rwa [zXj] at this
theorem ae.all(h:(sF P ρ ops l st).isSome=true)(hr:K (St.or (sF P ρ ops l st))):ae P p ρ ops l st K:=by
 obtain ⟨st1,h1⟩:=Option.isSome_iff_exists.1 h;rw [h1] at hr;exact ⟨st1,zQ h1,hr⟩
theorem ae.call{m:Bool}{d f:Nat}{xf:Operand}{args:Array Operand}{ts:Array TypeId}{caps as:List A}{vs:List V}{st1:St}{res:V}{cA:List (List C)}{x:A}
  (hg:i8 ops st o=some true) (hf:eO ρ st o=true) (ho:o.op=.call { callee:=.value xf,args,argTypes:=ts }) (hd:o.dst=some d) (hxf:st.eval xf=some (.clo f caps)) (ly:de (args.toList.map st.eval)=some as)
  (hp:(kx m p (as++caps) MA.ret).run st=some (vs,st1)) (hc:aL P f vs res cA) (hr:(dC d (dP (as++caps)) cA (V.toA d (fd d 0) res MA.ret)).run st1=some (x,st'))
  (hk:ae P p ρ ops l (st'.put o.dst x) K):ae P p ρ ops (o :: l) st K :=
 ae.step (.run x st' hg hf (.call m d f xf args ts caps as vs st1 res cA ho hd hxf ly hp hc hr)) hk
theorem ae.callB{d f:Nat}{xf:Operand}{args:Array Operand}{ts:Array TypeId}{caps as:List A}{vs:List V}{res:V}{x:A}
  (hg:i8 ops st o=some true) (hf:eO ρ st o=true) (ho:o.op=.call { callee:=.value xf,args,argTypes:=ts }) (hd:o.dst=some d) (hxf:st.eval xf=some (.clo f caps)) (ly:de (args.toList.map st.eval)=some as)
  (hp:(dQ (as++caps) MA.ret).run st=some (vs,st)) (hc:aL P f vs res []) (hpl:res.plain) (hr:(V.toA d (fd d 0) res MA.ret).run st=some (x,st'))
  (hk:ae P p ρ ops l (st'.put o.dst x) K):ae P p ρ ops (o :: l) st K :=
 ae.step (.run x st' hg hf (.callB d f xf args ts caps as vs res ho hd hxf ly hp hc hpl hr)) hk
theorem Wq{α:Type}{t e:TypeId}{f:α->List T}{xs:List α}{y:α}{sz:Nat}{kk:IntKind}{i:Int}(hu:P.underlying t=some (.slice e))(hs:i7 P e=some sz)(h0:0<=i)(h:xs[i.toNat]?=some y) :
  (kw P t (.t (.sl sz (xs.map f))) (.t (.int kk i))).run st=some (.fadr (f y),st):=by
 unfold kw;simp only [hu,hs,At,h0,and_self,↓reduceIte,zQZ,h,zWX,true_and,MA.run]
theorem UT{α:Type}{t e:TypeId}{f:α->List T}{xs:List α}{y:α}{sz r:Nat}{kk:IntKind}{i:Int}{e':TypeId}(hu:P.underlying t=some (.slice e))(hs:i7 P e=some sz)(hr:st.rw r=some (.live e' sz (xs.map f)))(h0:0<=i)(h:xs[i.toNat]?=some y) :
  (kw P t (.own r) (.t (.int kk i))).run st=some (.elem r sz i.toNat 0,st):=by
 have:i.toNat < xs.length:=(List.getElem?_eq_some_iff.1 h).1;unfold kw;simp only [hu,hs,MA.run,hr,h0,zYY,this,and_self,↓reduceIte,true_and]
end
end Go.Tm
namespace Go.Tm
open Go.RowKit
section
variable {P:Program} {n:Nat} {ls:List Nat} {st st1:St}
theorem Le.trans{st2:St}(h:Le n ls st st1)(k:Le n ls st1 st2):Le n ls st st2:=λE g a w hE hS=>by
 obtain ⟨g1,h1⟩:=h E g a w hE hS;exact k E g1 a w hE h1
theorem R7{t:Nat}{x:A}(htm:st1.tm=st.tm)(h:∀ (E:En) (g:Gh) (w:World) (v:Value),fe E g st w->VR w g st.O st.R (st.tm t) v->∃ g1,fe E g1 st1 w/\qC w w g g1 st.O st.R st1.O st1.R/\VR w g1 st1.O st1.R x v)(ht:t < n) :
  Le n ls st (st1.put (some t) x):=λE g a w hE hS=>by
 obtain ⟨v,h1,h2⟩:=hS.tm t ht;obtain ⟨g1,h3,h4,h5⟩:=h E g w v hS.mem h2;refine ⟨g1,h3.put _ _,hS.size,hS.defers,λi hi=>?_,λi hi=>?_,λs b hs=>?_,λv' hv'=>⟨(h4.R _ (hS.pin v' hv').1).1,(h4.R _ (hS.pin v' hv').1).2.trans (hS.pin v' hv').2⟩⟩
 ·show ∃ u,_/\VR w g1 st1.O st1.R (et st1.tm t x i) u
  by_cases he:i=t
  ·subst he;exact ⟨v,h1,by rw [c8]; exact h5⟩
  ·obtain ⟨u,h6,h7⟩:=hS.tm i hi;exact ⟨u,h6,by rw [ca _ _ _ _ he,htm]; exact h7.mono h4⟩
 ·show et st1.tm t x i=A.undef;rw [ca _ _ _ _ (by omega),htm];exact hS.und i hi
 ·obtain ⟨h6,h7⟩:=hS.lent s b hs;exact ⟨(h4.O s h6).1,(h4.O s h6).2.trans h7⟩
theorem fe.nilrow{E:En}{g:Gh}{w:World}{r:Nat}(h:fe E g st w)(hr:st.rw r=none)(e sz:Nat) :
  fe E { g with rw:=et g.rw r (.slice none 0 0) } { st with rw:=et st.rw r (some (.live e sz [])) } w /\
   qC w w g { g with rw:=et g.rw r (.slice none 0 0) } st.O st.R ({ st with rw:=et st.rw r (some (.live e sz [])) }:St).O ({ st with rw:=et st.rw r (some (.live e sz [])) }:St).R :=
 h.new_row (qI.refl w) r hr (.slice none 0 0) e sz [] (λ_=>False) (λ_ _ _=>rfl) (λb h=>by cases h) (λ_ _ h=>h.elim) (λ_ h=>h.elim)
  ⟨[],⟨by simp,.inl ⟨rfl,rfl⟩⟩,λi row h=>by simp at h,λi row j x h=>by simp at h,λb h=>by cases h⟩
theorem Le.frz(t r e sz:Nat)(rows:List (List T))(ht:st.tm t=.own r)(hr:st.rw r=some (.live e sz rows))(hlt:Nat.blt t n=true) :
  Le n ls st (({ st with rw:=et st.rw r (some (.frz sz rows)) }:St).put (some t) (.t (.sl sz rows))) :=
 R7 rfl (λE g w v hM hv=>by
  rw [ht] at hv
  cases hv with
  | own _ hR =>
   obtain ⟨h1,h2⟩:=hM.frz_row r e sz rows hr;have h3:Rd w _ (.sl sz rows) (g.rw r):=h1.row r (.frz sz rows) (by simp [c8]);exact ⟨_,h1,h2,.t _ _ h3⟩) (by simpa using hlt)
theorem fe.reob{E:En}{g:Gh}{w:World}{s:Nat}{cells cells':List A}(h:fe E g st w)(hs:st.ob s=some cells)(hl:cells'.length<=cells.length)
  (hx:∀ (j:Nat) (x':A),cells'[j]?=some x'->∃ x,cells[j]?=some x/\∀ v,x.one=true->VR w g st.O st.R x v->x'.one=true/\VR w g st.O st.R x' v):fe E g { st with ob:=et st.ob s (some cells') } w:=by
 have hO:({ st with ob:=et st.ob s (some cells') }:St).O=st.O:=by
  funext i
  unfold St.O;simp only [et]
  split
  ·rename_i he;rw [he,hs];rfl
  ·rfl
 have hR:({ st with ob:=et st.ob s (some cells') }:St).R=st.R:=rfl;have hL:({ st with ob:=et st.ob s (some cells') }:St).L=st.L:=rfl;refine ⟨λi c hi=>?_,by rw [hO]; exact h.obne,h.row,h.rowne,by rw [hO,hL]; exact h.rowob,h.F,h.os,h.tape,h.output,h.sizes,h.frame,h.shp,h.dep0⟩;rw [hO,hR]
 by_cases he:i=s
 ·subst he;have hc:c=cells':=by simpa [c8] using hi.symm
  subst hc;obtain ⟨arr,e,h1,h2,h3,h4⟩:=h.ob i cells hs;refine ⟨arr,e,h1,by omega,λj x' hj=>?_,h4⟩;obtain ⟨x,hxj,hxx⟩:=hx j x' hj;obtain ⟨h5,v,h6,h7⟩:=h3 j x hxj;exact ⟨(hxx v h5 h7).1,v,h6,(hxx v h5 h7).2⟩
 ·exact h.ob i c (by simpa [et,he] using hi)
theorem Le.mem(htm:st1.tm=st.tm)(h:∀ (E:En) (g:Gh) (w:World),fe E g st w->∃ g1,fe E g1 st1 w/\qC w w g g1 st.O st.R st1.O st1.R):Le n ls st st1:=λE g a w hE hS=>by
 obtain ⟨g1,h3,h4⟩:=h E g w hS.mem;refine ⟨g1,h3,hS.size,hS.defers,λi hi=>?_,λi hi=>?_,λs b hs=>?_,λv' hv'=>⟨(h4.R _ (hS.pin v' hv').1).1,(h4.R _ (hS.pin v' hv').1).2.trans (hS.pin v' hv').2⟩⟩
 ·obtain ⟨u,h6,h7⟩:=hS.tm i hi;exact ⟨u,h6,by rw [htm]; exact h7.mono h4⟩
 ·rw [htm];exact hS.und i hi
 ·obtain ⟨h6,h7⟩:=hS.lent s b hs;exact ⟨(h4.O s h6).1,(h4.O s h6).2.trans h7⟩
theorem Pz{s:Nat}{cells cells':List A}(hs:st.ob s=some cells):({ st with ob:=et st.ob s (some cells') }:St).O=st.O:=by
 funext i
 unfold St.O;simp only [et]
 split
 ·rename_i he;rw [he,hs];rfl
 ·rfl
theorem dn(s j r e sz:Nat)(cells:List A)(hs:st.ob s=some cells)(hj:cells[j]?=some .nil)(hr:st.rw r=none) :
  Le n ls st { tm:=st.tm,ob:=et st.ob s (some (cells.set j (.own r))),rw:=et st.rw r (some (.live e sz [])) } :=
 Le.mem rfl λE g w hM=>by
  obtain ⟨h1,h2⟩:=hM.nilrow hr e sz;have h3:({ g with rw:=et g.rw r (.slice none 0 0) }:Gh).rw r=Value.slice none 0 0:=c8 _ _ _;have h4:=VR.own (w:=w) (g:={ g with rw:=et g.rw r (.slice none 0 0) }) (O:=({ st with rw:=et st.rw r (some (.live e sz [])) }:St).O) (R:=({ st with rw:=et st.rw r (some (.live e sz [])) }:St).R) r (by simp [St.R,c8]);rw [h3] at h4;have hs':({ st with rw:=et st.rw r (some (.live e sz [])) }:St).ob s=some cells:=hs;have hO:=Pz (cells':=cells.set j (.own r)) hs';refine ⟨_,h1.reob hs' (cells':=cells.set j (.own r)) (by simp) (λi x' hi=>?_),⟨h2.same,h2.F,λs hs=>?_,h2.R,h2.d,h2.s⟩⟩
  ·by_cases he:j=i
   ·subst he;refine ⟨.nil,hj,λv _ hv=>?_⟩;have hlt:j < cells.length:=(List.getElem?_eq_some_iff.1 hj).1;rw [List.getElem?_set_self hlt] at hi
    cases hi
    cases hv
    exact ⟨rfl,h4⟩
   ·rw [List.getElem?_set_ne he] at hi;exact ⟨x',hi,λv h1 h2=>⟨h1,h2⟩⟩
  ·have:=h2.O s hs;exact ⟨by rw [<- hO] at this; exact this.1,this.2⟩
end
end Go.Tm
namespace Go.Tm
section
variable {P:Program} {n:Nat} {ls:List Nat} {st st1:St}
theorem ck(s j r e sz:Nat)(cells:List A)(rows:List (List T))(hs:st.ob s=some cells)(hj:cells[j]?=some (.own r))(hr:st.rw r=some (.live e sz rows)) :
  Le n ls st { tm:=st.tm,ob:=et st.ob s (some (cells.set j (.t (.sl sz rows)))),rw:=et st.rw r (some (.frz sz rows)) } :=
 Le.mem rfl λE g w hM=>by
  obtain ⟨h1,h2⟩:=hM.frz_row r e sz rows hr;have h3:Rd w _ (.sl sz rows) (g.rw r):=h1.row r (.frz sz rows) (by simp [c8]);have hs':({ st with rw:=et st.rw r (some (.frz sz rows)) }:St).ob s=some cells:=hs;have hO:=Pz (cells':=cells.set j (.t (.sl sz rows))) hs';refine ⟨_,h1.reob hs' (cells':=cells.set j (.t (.sl sz rows))) (by simp) (λi x' hi=>?_),⟨h2.same,h2.F,λs hs=>?_,h2.R,h2.d,h2.s⟩⟩
  ·by_cases he:j=i
   ·subst he;refine ⟨.own r,hj,λv _ hv=>?_⟩;have hlt:j < cells.length:=(List.getElem?_eq_some_iff.1 hj).1;rw [List.getElem?_set_self hlt] at hi
    cases hi
    cases hv
    exact ⟨rfl,.t _ _ h3⟩
   ·rw [List.getElem?_set_ne he] at hi;exact ⟨x',hi,λv h1 h2=>⟨h1,h2⟩⟩
  ·have:=h2.O s hs;exact ⟨by rw [<- hO] at this; exact this.1,this.2⟩
end
end Go.Tm
namespace Go.Tm
open Go.RowKit
def cN{α:Type}(xs:List α)(i:Int):Option α:=if 0<=i then xs[i.toNat]? else none
theorem bC{α:Type}{xs:List α}{i:Int}{x:α}(h:cN xs i=some x):0<=i/\xs[i.toNat]?=some x:=by
 unfold cN at h
 split at h
 ·exact ⟨by assumption,h⟩
 ·cases h
def c9(b:Bool):Option Unit:=if b then some () else none
theorem br{b:Bool}{u:Unit}(h:c9 b=some u):b=true:=by
 unfold c9 at h
 split at h
 ·assumption
 ·cases h
theorem bind_some{α β:Type}{x:Option α}{f:α->Option β}{r:β}(h:x.bind f=some r):∃ a,x=some a/\f a=some r:=by
 cases x with
 | none=>cases h
 | some a=>exact ⟨a,rfl,h⟩
def J7{β:Type}(x:Option (β×St)):St:=match x with | some q=>q.2 | none=>c7
def Vy(x:Option (A×St)):A:=match x with | some q=>q.1 | none=>.undef
section
variable {P:Program} {n:Nat} {ls:List Nat} {Q:Exit->St->Prop} {st st':St} {p:Nat->Bool} {ρ:Nat->dX} {ops:Array Oper} {l:List Oper} {K:St->Prop} {o:Oper}
theorem aF{id:Nat}(p:Nat->Bool)(ρ:Nat->dX)(hm:P.follows .mixedOrders=true)(hok:Ni p ρ n ops=true)(h:ae P p ρ ops ops.toList st (Q .normal)):Wp P n ls (.region id ops true) Q st :=
 Wp.region (λ_=>hm) hok h
theorem AF{id:Nat}(p:Nat->Bool)(ρ:Nat->dX)(hok:ops.toList.all (nm n)=true)(h:ae P p ρ ops ops.toList st (Q .normal)):Wp P n ls (.region id ops false) Q st :=
 Wp.region (λh=>by cases h) hok h
theorem ae.known(d:Nat){e v:Bool}(h:st.tm d=.t (.bool e))(hv:e=v)(hr:ae P p ρ ops l (st.put (some d) (.t (.bool v))) K):ae P p ρ ops l st K:=by
 have:st.put (some d) (.t (.bool v))=st:=by
  refine St.ext (funext λi=>?_) rfl rfl;show et st.tm d (.t (.bool v)) i=st.tm i;unfold et
  split
  ·rename_i he;rw [he,h,hv]
  ·rfl
 rwa [this] at hr
theorem ae.pure{x:A}(hg:i8 ops st o=some true)(hf:eO ρ st o=true)(h:(qp P ρ st.eval o).run st=some (x,st))(hr:ae P p ρ ops l (st.put o.dst x) K):ae P p ρ ops (o :: l) st K:=ae.op hg hf h hr
theorem SQ{α:Type}(f:α->List T)(xs:List α)(i:Int){y:α}{t e:TypeId}{a b:Operand}{sz:Nat}{kk:IntKind}(ho:o.op=.indexAddr t a b)(hg:i8 ops st o=some true)(hf:eO ρ st o=true)
  (ha:st.eval a=some (.t (.sl sz (xs.map f)))) (hb:st.eval b=some (.t (.int kk i))) (hu:P.underlying t=some (.slice e)) (hs:i7 P e=some sz) (h:cN xs i=some y) (hk:ae P p ρ ops l (st.put o.dst (.fadr (f y))) K):ae P p ρ ops (o :: l) st K:=by
 obtain ⟨h0,h1⟩:=bC h;refine ae.pure (x:=.fadr (f y)) hg hf ?_ hk;simp only [qp,ho,ha,hb];exact Wq hu hs h0 h1
theorem SR{α:Type}(f:α->List T)(xs:List α)(i:Int)(r:Nat){y:α}{t e e':TypeId}{a b:Operand}{sz:Nat}{kk:IntKind}(ho:o.op=.indexAddr t a b)(hg:i8 ops st o=some true)(hf:eO ρ st o=true)
  (ha:st.eval a=some (.own r)) (hr:st.rw r=some (.live e' sz (xs.map f))) (hb:st.eval b=some (.t (.int kk i))) (hu:P.underlying t=some (.slice e)) (hs:i7 P e=some sz) (h:cN xs i=some y) (hk:ae P p ρ ops l (st.put o.dst (.elem r sz i.toNat 0)) K):ae P p ρ ops (o :: l) st K:=by
 obtain ⟨h0,h1⟩:=bC h;refine ae.pure (x:=.elem r sz i.toNat 0) hg hf ?_ hk;simp only [qp,ho,ha,hb];exact UT hu hs hr h0 h1
theorem QV{α:Type}(f:α->List T)(xs:List α)(r i off:Nat){y:α}{t:TypeId}{a:Operand}{sz m:Nat}{e':TypeId}{gg:Bool}(x:A)(ho:o.op=.load t a)(hg:i8 ops st o=some true)(hf:eO ρ st o=true)
  (ha:st.eval a=some (.elem r sz i off)) (hr:st.rw r=some (.live e' sz (xs.map f))) (hgg:OZ P t=some gg) (hm:i7 P t=some m) (h:xs[i]?=some y) (hc:DZ gg m ((f y).map A.t) off=some x) (hk:ae P p ρ ops l (st.put o.dst x) K):ae P p ρ ops (o :: l) st K:=by
 refine ae.pure (x:=x) hg hf ?_ hk;simp only [qp,ho,ha,G2,hgg,hm,MA.run,hr,↓reduceIte,zQZ,h,zWX,hc]
def CH(P:Program)(t:TypeId):Option (TypeId×Nat×Nat):=match P.underlying t with
 | some (.slice e)=>match A0 P e,tD P e with
  | some (some _,n,by_),some z=>if z.length=n/\0 < n/\0 < by_ then some (e,n,by_) else none
  | _,_=>none
 | _=>none
theorem FF{t e:TypeId}{n by_:Nat}(h:CH P t=some (e,n,by_)):∃ z z0,P.underlying t=some (.slice e)/\A0 P e=some (some z0,n,by_)/\tD P e=some z/\z.length=n/\0 < n/\0 < by_:=by
 unfold CH at h
 split at h
 ·rename_i e' hu
  split at h
  ·rename_i z0 n' by' z hi hz
   split at h
   ·rename_i hc
    cases h
    exact ⟨z,z0,hu,hi,hz,hc.1,hc.2.1,hc.2.2⟩
   ·cases h
  ·cases h
 ·cases h
theorem TT{k:IntKind}{m:Nat}{xs:List Int}{f:Int->List T}(hf:∀ n,(f n).all T.sc=true):(((A.ext false (.sl m (xs.map f))).rows λm rows=>MA.ret (m,rows)).run st).map Prod.fst=some (m,xs.map f):=by
 have:Kp (xs.map f)=true:=by
  unfold Kp;rw [List.all_eq_true];intro r hr;obtain ⟨n,_,rfl⟩:=List.mem_map.1 hr;exact hf n
 simp [A.rows,this,MA.run]
theorem NY{β:Type}{y:A}{m:Nat}{ys:List (List T)}(hy:((y.rows λm rows=>MA.ret (m,rows)).run st).map Prod.fst=some (m,ys)):∀ k:Nat->List (List T)->MA β,(y.rows k).run st=(k m ys).run st:=by
 intro k;unfold A.rows at hy ⊢
 split at hy <;> simp only [MA.run] at hy ⊢ <;> try (simp at hy; done)
 ·simp at hy; obtain ⟨rfl,rfl⟩:=hy; rfl
 ·split at hy
  ·rename_i h; rw [if_pos h]; simp [MA.run] at hy; obtain ⟨rfl,rfl⟩:=hy; rfl
  ·simp [MA.run] at hy
 ·simp at hy; obtain ⟨rfl,rfl⟩:=hy; rfl
 ·rename_i r
  revert hy
  rcases st.rw r with _ | (_ | _ | _) <;> simp only [MA.run,zWX,Option.some.injEq,Prod.mk.injEq,Option.map_none,reduceCtorEq,false_implies]
  ·rintro ⟨rfl,rfl⟩; rfl
  ·rintro ⟨rfl,rfl⟩; rfl
theorem SS(d m e nn by_ r:Nat)(xs ys:List (List T)){t:TypeId}{ts:Array TypeId}{args:Array Operand}{a b:Operand}{y:A}(ho:o.op=.call { callee:=.builtin .append,args,argTypes:=ts })(hargs:args.toList=[a,b])(hts:ts.toList=[t,t])(hd:o.dst=some d)(hg:i8 ops st o=some true)(hf:eO ρ st o=true)
  (ha:st.eval a=some (.own r)) (hr:st.rw r=some (.live e nn xs)) (hb:st.eval b=some y) (hy:((y.rows λm rows=>MA.ret (m,rows)).run st).map Prod.fst=some (m,ys)) (hm:m=nn\/ys=[]) (hi:CH P t=some (e,nn,by_)) (hsz:(xs.length+ys.length)*by_<=140737488355328) (hne:zXw (fd d 0) r=false) (hfree:st.rw (fd d 0)=none)
  (hk:ae P p ρ ops l (({ st with rw:=et (et st.rw r (some .gone)) (fd d 0) (some (.live e nn (xs++ys))) }:St).put o.dst (.own (fd d 0))) K):ae P p ρ ops (o :: l) st K:=by
 obtain ⟨z,z0,hu,hti,hz,h1,h2,h3⟩:=FF hi;have hne':fd d 0≠r:=λh=>by rw [h,Nat.beq_refl] at hne; cases hne
 refine ae.op (x:=.own (fd d 0)) hg hf ?_ hk;have hrow:=NY (β:=A) hy;have hfr:et st.rw r (some RU.gone) (fd d 0)=none:=by rw [ca _ _ _ _ hne',hfree]
 simp only [qp,ho,hargs,ha,hb,vu,hts,hd,↓reduceIte,hu,hti,hz,h1,h2,h3,and_self,hrow,hm,MA.run,hr,hsz,wx,hfr]
end
end Go.Tm
namespace Go.Tm
open Go.RowKit
section
variable {P:Program} {n:Nat} {ls:List Nat} {Q:Exit->St->Prop} {st st':St} {p:Nat->Bool} {ρ:Nat->dX} {ops:Array Oper} {l:List Oper} {K:St->Prop} {o:Oper}
theorem dO{α:Type}(f:α->List T)(d m e nn by_ r:Nat)(xs ys:List α){t:TypeId}{ts:Array TypeId}{args:Array Operand}{a b:Operand}{y:A}(ho:o.op=.call { callee:=.builtin .append,args,argTypes:=ts })(hargs:args.toList=[a,b])(hts:ts.toList=[t,t])(hd:o.dst=some d)(hg:i8 ops st o=some true)(hf:eO ρ st o=true)
  (ha:st.eval a=some (.own r)) (hr:st.rw r=some (.live e nn (xs.map f))) (hb:st.eval b=some y) (hy:((y.rows λm rows=>MA.ret (m,rows)).run st).map Prod.fst=some (m,ys.map f)) (hm:m=nn\/ys.map f=[]) (hi:CH P t=some (e,nn,by_)) (hsz:(xs.length+ys.length)*by_<=140737488355328) (hne:zXw (fd d 0) r=false) (hfree:st.rw (fd d 0)=none)
  (hk:ae P p ρ ops l (({ st with rw:=et (et st.rw r (some .gone)) (fd d 0) (some (.live e nn ((xs++ys).map f))) }:St).put o.dst (.own (fd d 0))) K):ae P p ρ ops (o :: l) st K :=
 SS d m e nn by_ r (xs.map f) (ys.map f) ho hargs hts hd hg hf ha hr hb hy hm hi (by simpa using hsz) hne hfree (by rw [<- List.map_append]; exact hk)
theorem gL(op:BinOp)(a b:T)(z:T){t u:TypeId}{x y:Operand}(ho:o.op=.binOp op t x y u)(hg:i8 ops st o=some true)(hf:eO ρ st o=true)(hx:st.eval x=some (.t a))(hy:st.eval y=some (.t b))
  (h:Bw (WN P t) op a b=some z) (hk:ae P p ρ ops l (st.put o.dst (.t z)) K):ae P p ρ ops (o :: l) st K:=by
 refine ae.pure (x:=.t z) hg hf ?_ hk;simp only [qp,ho,hx,hy,h,MA.run]
theorem R8(tb:Bool)(k:IntKind)(a b:Int)(h:(b == 0)=false):Bw tb .quo (.int k a) (.int k b)=some (.int k (k.wrap (a.tdiv b))):=by
 have:b≠0:=by simpa using h
 simp [Bw,this]
theorem CI(tb:Bool)(k:IntKind)(a b:Int)(h:(b == 0)=false):Bw tb .rem (.int k a) (.int k b)=some (.int k (a.tmod b)):=by
 have:b≠0:=by simpa using h
 simp [Bw,this]
theorem yw(tb:Bool)(k k':IntKind)(a b:Int)(h:decide (0<=b)=true):Bw tb .shl (.int k a) (.int k' b)=some (.int k (k.wrap (a*2 ^ min b.toNat k.bits))):=by
 have:0<=b:=by simpa using h
 simp [Bw,this]
theorem J8(tb:Bool)(k k':IntKind)(a b:Int)(h:decide (0<=b)=true):Bw tb .shr (.int k a) (.int k' b)=some (.int k (a.fdiv (2 ^ min b.toNat k.bits))):=by
 have:0<=b:=by simpa using h
 simp [Bw,this]
def cE(l h n:Int):Bool:=decide (0<=l) && decide (l<=h) && decide (h<=n)
theorem FG{l h n:Int}(hh:cE l h n=true):0<=l/\l<=h/\h<=n:=by
 simp only [cE,sk,decide_eq_true_eq] at hh;exact ⟨hh.1.1,hh.1.2,hh.2⟩
theorem eQ{α:Type}(f:α->List T)(xs:List α)(sz:Nat)(i j:Int){t e:TypeId}{x:Operand}{ax:A}{lo hi:Option Operand}{alo ahi:Option A}(ho:o.op=.slice t x lo hi none)(hg:i8 ops st o=some true)(hf:eO ρ st o=true)(hx:st.eval x=some ax)(hr:((ax.toT MA.ret).run st).map Prod.fst=some (.sl sz (xs.map f)))
  (hlo:Ks st.eval lo=some alo) (hhi:Ks st.eval hi=some ahi) (hl:yb 0 alo=some i) (hh:yb xs.length ahi=some j) (hu:P.underlying t=some (.slice e)) (hs:i7 P e=some sz) (hw:Uz ρ o.dst alo ahi=false) (h:cE i j xs.length=true)
  (hk:ae P p ρ ops l ((J7 ((ax.toT MA.ret).run st)).put o.dst (.t (.sl sz (((xs.take j.toNat).drop i.toNat).map f)))) K):ae P p ρ ops (o :: l) st K:=by
 have h':=FG h;obtain ⟨⟨y,st1⟩,h1,h2⟩:=Option.map_eq_some_iff.1 hr
 cases h2
 rw [h1] at hk;refine ae.op (x:=.t (.sl sz (((xs.take j.toNat).drop i.toNat).map f))) (st1:=st1) hg hf ?_ hk;have key:∀ k:T->MA A,(ax.toT k).run st=(k (.sl sz (xs.map f))).run st1:=by
  intro k
  cases ax <;> simp only [A.toT,MA.run,Option.some.injEq,Prod.mk.injEq,reduceCtorEq] at h1 ⊢
  ·obtain ⟨h1,rfl⟩:=h1; rw [h1]
  ·obtain ⟨h1,rfl⟩:=h1; rw [h1]
  ·rename_i r
   revert h1
   rcases st.rw r with _ | (_ | _ | _) <;> simp only [MA.run,Option.some.injEq,Prod.mk.injEq,reduceCtorEq,false_implies]
   ·rintro ⟨h1,rfl⟩; rw [h1]
   ·rintro ⟨h1,rfl⟩; rw [h1]
 have hne:yq P t ax alo ahi=ax.toT fun
   | .sl sz' rows=>match yb 0 alo,yb rows.length ahi with
    | some l,some h=>if sz'=sz\/rows=[] then if 0<=l/\l<=h/\h<=rows.length then .ret (.t (.sl sz' ((rows.take h.toNat).drop l.toNat))) else .fail else .fail
    | _,_=>.fail
   | _=>.fail:=by
  unfold yq;rw [hu];have h9:∀ q:Option Nat,q=some sz->(match q with
   | some n=>(ax.toT λy=>match y with
    | .sl sz rows=>match yb 0 alo,yb rows.length ahi with
     | some l,some h=>if sz=n\/rows=[] then if 0<=l/\l<=h/\h<=rows.length then (MA.ret (.t (.sl sz ((rows.take h.toNat).drop l.toNat))):MA A) else .fail else .fail
     | _,_=>.fail
    | _=>.fail)
   | none=>.fail)=ax.toT fun
   | .sl sz' rows=>match yb 0 alo,yb rows.length ahi with
    | some l,some h=>if sz'=sz\/rows=[] then if 0<=l/\l<=h/\h<=rows.length then .ret (.t (.sl sz' ((rows.take h.toNat).drop l.toNat))) else .fail else .fail
    | _,_=>.fail
   | _=>.fail:=λq hq=>by subst hq; rfl
  cases ax <;> first | exact h9 _ hs | (exfalso; simp [A.toT,MA.run] at h1; done)
 simp only [qp,ho,hx,hlo,hhi,hw,zQk,hne,key,hl,zYY,hh,h'.1,h'.2.1,h'.2.2,and_self,↓reduceIte,MA.run,true_or,<- List.map_take,<- List.map_drop]
theorem pI{α:Type}(s:Bool)(f:α->List T)(xs:List α)(sz:Nat)(i j:Int){t e:TypeId}{x:Operand}{lo hi:Option Operand}{alo ahi:Option A}(ho:o.op=.slice t x lo hi none)(hg:i8 ops st o=some true)(hf:eO ρ st o=true)(hx:st.eval x=some (.ext s (.sl sz (xs.map f))))
  (hlo:Ks st.eval lo=some alo) (hhi:Ks st.eval hi=some ahi) (hl:yb 0 alo=some i) (hh:yb xs.length ahi=some j) (hu:P.underlying t=some (.slice e)) (hs:i7 P e=some sz) (hw:Uz ρ o.dst alo ahi=false) (h:cE i j xs.length=true)
  (hk:ae P p ρ ops l (st.put o.dst (.ext s (.sl sz (((xs.take j.toNat).drop i.toNat).map f)))) K):ae P p ρ ops (o :: l) st K:=by
 have h':=FG h;refine ae.pure (x:=.ext s (.sl sz (((xs.take j.toNat).drop i.toNat).map f))) hg hf ?_ hk;simp only [qp,ho,hx,hlo,hhi,hw,zQk,yq,hu,hs,hl,zYY,hh,h'.1,h'.2.1,h'.2.2,and_self,true_and,↓reduceIte,MA.run,<- List.map_take,<- List.map_drop]
theorem KQ{α:Type}:∀ (ts:List T) (k:List T->MA α),A.toTs (ts.map A.t) k=k ts
 | [],k=>rfl
 | t :: ts,k=>by
  simp only [zWg,A.toTs,A.toT];exact KQ ts _
theorem FH{α:Type}(f:α->List T)(y:α)(d e nn by_:Nat)(i c:Int){t:TypeId}{x1 x2:Operand}(ho:o.op=.makeSlice t x1 x2)(hd:o.dst=some d)(hg:i8 ops st o=some true)(hf:eO ρ st o=true)(h1:st.eval x1=some (.t (.int .i64 i)))(h2:st.eval x2=some (.t (.int .i64 c)))
  (hi:CH P t=some (e,nn,by_)) (hz:(tD P e).map (lh (Fi P e))=some ((f y).map A.t))
  (h0:(decide (0<=c) && (i == 0 || i == c))=true) (hsz:c.toNat*by_<=140737488355328) (hfree:st.rw (fd d 0)=none)
  (hk:ae P p ρ ops l (({ st with rw:=et st.rw (fd d 0) (some (.live e nn ((zQH i.toNat y).map f))) }:St).put o.dst (.own (fd d 0))) K):ae P p ρ ops (o :: l) st K:=by
 obtain ⟨z,z0,hu,hti,hzz,q1,q2,q3⟩:=FF hi;simp only [sk,decide_eq_true_eq,Bool.or_eq_true,beq_iff_eq] at h0;refine ae.op (x:=.own (fd d 0)) hg hf ?_ hk;have hc:c<=9223372036854775807:=by
  have:c.toNat<=c.toNat*by_:=Nat.le_mul_of_pos_right _ q3;omega
 rw [hzz] at hz;have hz':lh (Fi P e) z=(f y).map A.t:=by simpa using hz
 simp only [qp,ho,h1,h2,Ku,hu,hd,hti,hzz,q1,q2,h0.1,h0.2,hsz,hc,and_self,↓reduceIte,hz',KQ,List.map_replicate,wx,MA.run,hfree]
theorem f0{α:Type}(f:α->List T)(xs:List α)(r i off:Nat){y:α}(y':α){t e:TypeId}{x1 x2:Operand}(v:A){sz m:Nat}(ts:List T)(ho:o.op=.store t x1 x2)(hg:i8 ops st o=some true)(hf:eO ρ st o=true)
  (h1:st.eval x1=some (.elem r sz i off)) (h2:st.eval x2=some v) (hm:i7 P t=some m) (hv:(zXw v.cells.length m && v.cells.all A.one)=true) (hz:lh (Fi P t) v.cells=ts.map A.t)
  (hr:st.rw r=some (.live e sz (xs.map f))) (h:xs[i]?=some y) (hle:Nat.ble (off+m) (f y).length=true) (hy:spl (f y) off ts=f y')
  (hk:ae P p ρ ops l ((({ st with rw:=et st.rw r (some (.live e sz ((xs.set i y').map f))) }:St)).put o.dst .undef) K):ae P p ρ ops (o :: l) st K:=by
 simp only [sk] at hv;have hv1:=zWy hv.1;have hle':off+m<=(f y).length:=by simpa using hle
 refine ae.op (x:=.undef) hg hf ?_ hk;simp only [qp,ho,h1,h2,As,hm,hv1,hv.2,and_self,↓reduceIte,hz,KQ,MA.run,hr,zQZ,h,zWX,hle',hy,List.map_set]
end
end Go.Tm
namespace Go.Tm
open Go.RowKit
theorem QW{β:Type}{e:Bool}{x y:β}{r:β}(h:(bif e then x else y)=r)(hc:e=true):x=r:=by rw [hc] at h; exact h
theorem QX{β:Type}{e:Bool}{x y:β}{r:β}(h:(bif e then x else y)=r)(hc:e=false):y=r:=by rw [hc] at h; exact h
def aW(k:IntKind)(a b:Int):Int:=k.wrap (a+b)
def cW(k:IntKind)(a b:Int):Int:=k.wrap (a - b)
def eB(k:IntKind)(a b:Int):Int:=k.wrap (a*b)
def QY(k:IntKind)(a b:Int):Int:=k.wrap (a.tdiv b)
def m4(k:IntKind)(a b:Int):Int:=a.tmod b
def eH(k:IntKind)(a b:Int):Int:=k.wrap (BitVec.ofInt k.bits a &&& BitVec.ofInt k.bits b).toNat
def qP(k:IntKind)(a b:Int):Int:=k.wrap (BitVec.ofInt k.bits a ||| BitVec.ofInt k.bits b).toNat
def NZ(k:IntKind)(a b:Int):Int:=k.wrap (BitVec.ofInt k.bits a ^^^ BitVec.ofInt k.bits b).toNat
def J9(k:IntKind)(a b:Int):Int:=k.wrap (BitVec.ofInt k.bits a &&& ~~~ BitVec.ofInt k.bits b).toNat
def gl(k:IntKind)(a b:Int):Int:=k.wrap (a*2 ^ min b.toNat k.bits)
def lB(k:IntKind)(a b:Int):Int:=a.fdiv (2 ^ min b.toNat k.bits)
theorem tf(b:Bool):b=true\/b=false:=by cases b <;> simp
def ai(k:IntKind)(n:Int):List T:=[.int k n]
def W7{α:Type}(sz:Nat)(f:α->List T)(xs:List α):List T:=[.sl sz (xs.map f)]
theorem aL.le{P:Program}{f:FuncId}{l l':List V}{res:V}{cA:List (List C)}(h:aL P f l' res cA)(hl:BU l l'):aL P f l res cA:=by
 refine ⟨h.1,λw F vs bs hF hV hn hb htb=>(h.2 w F vs bs hF (Ha hl hV) hn hb htb).mono λe w' hh=>?_⟩;obtain ⟨v,F',bv,bo,h1,h2,h3,h4,h5,h6,h7,h8,h9⟩:=hh;exact ⟨v,F',bv,bo,h1,h2,h3,h4,h5,h6,R6 h7 hl,h8,h9⟩
end Go.Tm
namespace Go.Tm
open Go.RowKit
section
variable {P:Program} {n:Nat} {ls:List Nat} {Q:Exit->St->Prop} {N:St->Prop} {st st':St} {p:Nat->Bool} {ρ:Nat->dX} {ops:Array Oper} {l:List Oper} {K:St->Prop} {o:Oper}
theorem aM(h:N st):iG N Q .normal st:=h
theorem bd{id:Nat}(h:Q (.exit id) st):iG N Q (.exit id) st:=h
theorem bO{id:Nat}(h:Q .normal st):UR id Q .normal st:=h
theorem dh{id:Nat}(h:Q .normal st):UR id Q (.exit id) st:=by
 show bif zXw id id then Q .normal st else Q (.exit id) st
 rw [Nat.beq_refl];exact h
theorem FI{o:Operand}{x y:Code}(ho:st.eval o=some (.t (.bool true)))(h:Wp P n ls x Q st):Wp P n ls (.cond o x y) Q st:=Wp.cond ho h
theorem FJ{o:Operand}{x y:Code}(ho:st.eval o=some (.t (.bool false)))(h:Wp P n ls y Q st):Wp P n ls (.cond o x y) Q st:=Wp.cond ho h
theorem IW{fn:Func}{c:Code}{f:FuncId}{args:List V}{m:Bool}{res:V}{cA:List (List C)}(as:List A)
  (hf:P.funcs[f]?=some fn) (hb:fn.body=some c) (hnm:(fn.name == "runtime.NumGoroutine")=false) (hle:Nat.ble as.length fn.ntmps=true) (ht:tK fn.ntmps fn=true)
  (ha:((oV 0 args MA.ret).run c7).map Prod.fst=some as) (hl:ic 0 args as=true)
  (h:Wp P fn.ntmps (eG 0 args) c (xz P m fn args res cA) (eA as (J7 ((oV 0 args MA.ret).run c7)))):aL P f args res cA:=by
 obtain ⟨⟨as',st0⟩,h1,h2⟩:=Option.map_eq_some_iff.1 ha
 cases h2
 rw [h1] at h;exact KP hf hb hnm (by simpa using hle) ht h1 hl h
theorem ST{α:Type}(f:α->List T)(xs:List α)(m:Nat){y:A}{x:Operand}{t e:TypeId}{args:Array Operand}{ts:Array TypeId}(ho:o.op=.call { callee:=.builtin .len,args,argTypes:=ts })(hargs:args.toList=[x])(hts:ts.toList=[t])(hg:i8 ops st o=some true)(hf:eO ρ st o=true)
  (hx:st.eval x=some y) (hy:((y.rows λm rows=>MA.ret (m,rows)).run st).map Prod.fst=some (m,xs.map f)) (hu:P.underlying t=some (.slice e)) (hk:ae P p ρ ops l (st.put o.dst (.t (.int .i64 xs.length))) K):ae P p ρ ops (o :: l) st K:=by
 refine ae.pure (x:=.t (.int .i64 xs.length)) hg hf ?_ hk;have hl:(Ig P t y).run st=(MA.ret (.t (.int .i64 xs.length)):MA A).run st:=by
  unfold Ig;rw [hu]
  split <;> rename_i h1 <;> first | (cases h1; done) | skip
  ·rename_i s z rs
   cases s with
   | true=>cases hy
   | false =>
    simp only [A.rows] at hy
    split at hy
    ·simp [MA.run] at hy; rw [hy.2]; simp
    ·simp [MA.run] at hy
  ·rw [NY hy]; simp
  ·rename_i h2 _; exact absurd rfl (h2 _)
 simp only [qp,ho,hargs,hx,hts];rw [hl]; rfl
theorem cj{α:Type}(f:α->List T)(xs:List α)(s:Bool)(m:Nat){x:Operand}{t e:TypeId}{args:Array Operand}{ts:Array TypeId}(ho:o.op=.call { callee:=.builtin .len,args:=args,argTypes:=ts })(hargs:args.toList=[x])(hts:ts.toList=[t])(hg:i8 ops st o=some true)(hf:eO ρ st o=true)
  (hx:st.eval x=some (.ext s (.sl m (xs.map f)))) (hu:P.underlying t=some (.slice e)) (hk:ae P p ρ ops l (st.put o.dst (.t (.int .i64 xs.length))) K):ae P p ρ ops (o :: l) st K:=by
 refine ae.pure (x:=.t (.int .i64 xs.length)) hg hf ?_ hk;simp only [qp,ho,hargs,hx,hts,Ig,hu,MA.run,zYY]
def bw(l:List (Nat×dX))(t:Nat):dX:=match BP l t with | some r=>r | none=>.any
def eY(l:List Nat)(s:Nat):Bool:=l.contains s
end
end Go.Tm
namespace Go.Tm
open Go.RowKit Go.ChangeShapes
inductive Vz (w:World) (F:Nat->Prop):List T->List Value->Prop
 | nil:Vz w F [] []
 | cons (x:T) (v:Value) (xs:List T) (vs:List Value) (h:Rd w F x v) (hs:Vz w F xs vs):Vz w F (x :: xs) (v :: vs)
theorem Vz.get{w:World}{F:Nat->Prop}{xs:List T}{vs:List Value}(h:Vz w F xs vs):∀ (j:Nat) (x:T),xs[j]?=some x->∃ v,vs[j]?=some v/\Rd w F x v:=by
 induction h with
 | nil=>intro j x hx; simp at hx
 | cons x v xs vs h hs ih =>
  intro j y hy
  cases j with
  | zero=>simp only [zWW,Option.some.injEq] at hy ⊢; subst hy; exact ⟨v,rfl,h⟩
  | succ j=>simp only [List.getElem?_cons_succ] at hy ⊢; exact ih j y hy
abbrev UU(w:World):Nat->Prop:=λb=>b < w.heap.size
def PA{α:Type}(P:Program)(t:TypeId)(n:Nat)(wf:α->Prop)(enc:α->List T):Prop :=
 P.cellsOf t=n/\(∀ x,(enc x).length=n)/\∀ {H:Type} (ec:TypeId×Value->H) (w:World) (sp:Nat->Bool) (held:Bool) (k:Nat) (cs:List Value) (d:DataW H×List MemPlace),
  DataW.trod ec P w 0 sp held k t cs=some d->∃ x,wf x/\Vz w (UU w) (enc x) cs
def jq(k:IntKind)(n:Int):Prop:=k.min<=n/\n<=k.max
def KR{α:Type}(wf:α->Prop)(xs:List α):Prop:=xs.length<=maxLen/\∀ x∈xs,wf x
theorem PA.int{P:Program}{t:TypeId}{k:IntKind}(hu:P.underlying t=some (.int k))(hc:P.cellsOf t=1):PA P t 1 (jq k) (ai k):=by
 refine ⟨hc,λ_=>rfl,λec w sp held m cs d h=>?_⟩;obtain ⟨n,rfl,_,hw⟩:=DataW.trod_int hu h;simp [Lit.wf] at hw;exact ⟨n,hw,.cons _ _ _ _ (.int _ _) .nil⟩
theorem KT{α:Type}{g:Nat->Option α}{n:Nat}{r:List α}(h:(zWz n).mapM g=some r){i:Nat}(hi:i < n):∃ x,g i=some x/\r[i]?=some x:=by
 have h1:=mapM_some_get h i i (by simp [hi]);have h2:=mapM_some_length h;simp only [List.length_range] at h2;rw [h1];exact ⟨r[i]'(by omega),by simp,by simp⟩
theorem Nl{w:World}{a:Addr}{n:Nat}{cs:List Value}(h:w.cells? 0 a n=some cs):cs.length=n/\∀ j,j < n->∃ v,w.cell? (a.add j)=some v/\cs[j]?=some v:=by
 unfold World.cells? at h;simp only [zZJ,if_true] at h;exact ⟨by have:=mapM_some_length h; simpa using this,λj hj=>KT h hj⟩
theorem SU{w:World}{a:Addr}{v:Value}(h:w.cell? a=some v):a.spot=none/\a.block < w.heap.size:=by
 unfold World.cell? at h
 split at h
 ·rename_i c u fr e
  split at h
  ·cases h
  ·rename_i hs;refine ⟨by cases a with | mk b o s=>cases s <;> simp_all,?_⟩;have:=e; rw [Array.getElem?_eq_some_iff] at this; exact this.1
 ·cases h
theorem PA.slice{α:Type}{P:Program}{t e:TypeId}{n:Nat}{wf:α->Prop}{enc:α->List T}(hu:P.underlying t=some (.slice e))(hc:P.cellsOf t=1)(he:PA P e (n+1) wf enc):PA P t 1 (KR wf) (W7 (n+1) enc):=by
 refine ⟨hc,λ_=>rfl,λ{H} ec w sp held m cs d h=>?_⟩;rcases DataW.trod_slice hu h with ⟨rfl,_⟩ | ⟨a,len,cap,elems,rest,m',rfl,rfl,_,_,hlc,hcap,hel,hm,_,_⟩
 ·exact ⟨[],⟨by simp,by simp⟩,.cons _ _ _ _ (.sl0 _ _ _ (by first | assumption | exact λ_=>rfl | (intro h; cases h))) .nil⟩
 ·have hex:∀ i,i < len->∃ x:α,∃ cs:List Value,w.cells? 0 (a.add (i*(n+1))) (n+1)=some cs/\wf x/\Vz w (UU w) (enc x) cs:=by
   intro i hi;have hy:=hm i hi;rw [he.1,sX (by omega)] at hy
   cases hcs:w.cells? 0 (a.add (i*(n+1))) (n+1) with
   | none=>rw [hcs] at hy; cases hy
   | some cs =>
    rw [hcs] at hy;obtain ⟨x,hx,hr⟩:=he.2.2 ec w sp held m' cs _ hy;exact ⟨x,cs,rfl,hx,hr⟩
  rcases Nat.eq_zero_or_pos len with h0 | hpos
  ·subst h0; exact ⟨[],⟨by simp,by simp⟩,.cons _ _ _ _ (.sl0 _ _ _ (by first | assumption | exact λ_=>rfl | (intro h; cases h))) .nil⟩
  ·have hsp:a.spot=none/\a.block < w.heap.size:=by
    obtain ⟨x,cs,hcs,_,_⟩:=hex 0 hpos;obtain ⟨v,hv,_⟩:=(Nl hcs).2 0 (by omega);have:=SU hv
    simpa [Addr.add] using this
   obtain ⟨b,off,s⟩:=a;simp only at hsp;obtain ⟨rfl,hb⟩:=hsp;have hcell:∀ i j,(Addr.add ((⟨b,off,none⟩:Addr).add (i*(n+1))) j)=⟨b,off+i*(n+1)+j,none⟩:=by
    intro i j;unfold Addr.add
    split <;> split <;> simp_all
   -- the elements, chosen
   have hch:∀ k,k<=len->∃ ys:List α,ys.length=k/\(∀ y∈ys,wf y)/\∀ i y,ys[i]?=some y->∃ cs,w.cells? 0 ((⟨b,off,none⟩:Addr).add (i*(n+1))) (n+1)=some cs/\Vz w (UU w) (enc y) cs:=by
    intro k
    induction k with
    | zero=>intro _; exact ⟨[],rfl,by simp,by simp⟩
    | succ k ih =>
     intro hk;obtain ⟨ys,h1,h2,h3⟩:=ih (by omega);obtain ⟨x,cs,h4,h5,h6⟩:=hex k (by omega);refine ⟨ys++[x],by simp [h1],?_,?_⟩
     ·intro y hy;rcases List.mem_append.1 hy with h | h
      ·exact h2 y h
      ·simp only [zQx] at h; subst h; exact h5
     ·intro i y hy
      by_cases hi:i < ys.length
      ·rw [r0 hi] at hy; exact h3 i y hy
      ·rw [zQY (by omega)] at hy;have:i=ys.length:=by
        rcases Nat.lt_or_ge (i - ys.length) 1 with h | h
        ·omega
        ·rw [List.getElem?_eq_none (by simpa using h)] at hy; cases hy
       subst this;simp only [Nat.sub_self,zWW,Option.some.injEq] at hy;subst hy;rw [h1];exact ⟨cs,h4,h6⟩
   obtain ⟨ys,h1,h2,h3⟩:=hch len (zWq _);refine ⟨ys,⟨by omega,h2⟩,.cons _ _ _ _ ?_ .nil⟩;have hl:(ys.map enc).length=len:=by simpa using h1
   have key:∀ (i:Nat) (row:List T) (j:Nat) (x:T),(ys.map enc)[i]?=some row->row[j]?=some x->∃ v,w.cell? ⟨b,off+i*(n+1)+j,none⟩=some v/\Rd w (UU w) x v:=by
    intro i row j x hi hj;rw [zQZ] at hi
    cases hy:ys[i]? with
    | none=>rw [hy] at hi; cases hi
    | some y =>
     rw [hy] at hi;simp only [zWX,Option.some.injEq] at hi;subst hi;obtain ⟨cs,hcs,hrd⟩:=h3 i y hy;obtain ⟨v,hv,hr⟩:=hrd.get j x hj;have hjn:j < n+1:=by
      have:=he.2.1 y;rcases Nat.lt_or_ge j (n+1) with h | h
      ·exact h
      ·rw [List.getElem?_eq_none (by omega)] at hj; cases hj
     obtain ⟨v',hv',hc'⟩:=(Nl hcs).2 j hjn;rw [hv] at hc'
     cases hc'
     rw [hcell] at hv';exact ⟨v,hv',hr⟩
   have hfun:∃ u:Nat->Nat->Value,∀ (i:Nat) (row:List T) (j:Nat) (x:T),(ys.map enc)[i]?=some row->row[j]?=some x->w.cell? ⟨b,off+i*(n+1)+j,none⟩=some (u i j)/\Rd w (UU w) x (u i j):=by
    refine ⟨λi j=>(w.cell? ⟨b,off+i*(n+1)+j,none⟩).getD (.bool false),λi row j x hi hj=>?_⟩;obtain ⟨v,hv,hr⟩:=key i row j x hi hj;simp only [hv,Option.getD_some];exact ⟨trivial,hr⟩
   obtain ⟨u,hu'⟩:=hfun;have:=Rd.sl (w:=w) (F:=UU w) (n+1) (ys.map enc) b off cap u (by omega) hb (λi row hi=>by
    rw [zQZ] at hi
    cases hy:ys[i]? with
    | none=>rw [hy] at hi; cases hi
    | some y=>rw [hy] at hi; simp only [zWX,Option.some.injEq] at hi; subst hi; exact he.2.1 y) (λi row j x hi hj=>(hu' i row j x hi hj).1) (λi row j x hi hj=>(hu' i row j x hi hj).2)
   rw [hl] at this;exact this
end Go.Tm
namespace Go.Tm
open Go.RowKit Go.ChangeShapes
def WP{α:Type}(P:Program)(t:TypeId)(wf:α->Prop)(ev:α->V):Prop :=
 ∀ {H:Type} (ec:TypeId×Value->H) (W:World) (base:Nat) (v:Value) (d:DataW H) (p:List MemPlace),DataW.Trod ec P W 0 (λ_=>true) true t v d p->Value.okWide P W .any base t v->∃ x,wf x/\VV W (UU W) (ev x) v []
def TU(P:Program)(t:TypeId):Bool:=match P.underlying t with | some (.struct _) | some (.array ..)=>false | _=>true
theorem PB{P:Program}{t:TypeId}(hn:TU P t=true){W:World}{base:Nat}{v:Value}(h:Value.okWide P W .any base t v):v.cells=#[v]:=by
 cases v with
 | agg cs =>
  exfalso;unfold TU at hn;unfold Value.okWide at h
  cases hu:P.underlying t with
  | none=>simp [hu,Cell.okWide,Cell.ok] at h
  | some u=>cases u <;> simp_all [Cell.okWide,Cell.ok]
 | _=>rfl
theorem WP.one{α:Type}{P:Program}{t:TypeId}{wf:α->Prop}{enc:α->List T}(h:PA P t 1 wf enc)(hn:TU P t=true):WP P t wf (λx=>.one (.t ((enc x).headD .nilf))):=by
 intro H ec W base v d p ⟨k,hd⟩ hv;obtain ⟨x,hx,hr⟩:=h.2.2 ec W _ _ k _ _ hd;have hc:=PB hn hv;rw [hc] at hr;have hl:=h.2.1 x;refine ⟨x,hx,.one _ _ _ ?_⟩
 match he:enc x,hl with
 | [y],_ =>
  rw [he] at hr
  cases hr with
  | cons _ _ _ _ h1 _=>exact .t _ _ h1
def Il{α:Type}(P:Program)(ts:List TypeId)(wf:α->Prop)(ea:α->List V):Prop :=
 ∀ {H:Type} (ec:TypeId×Value->H) (W:World) (base:Nat) (vs:List Value) (ds:List (DataW H)) (p:List MemPlace),DataW.TrodAll ec P W 0 (λ_=>true) true ts vs ds p ->
  (∀ (j:Nat) (t:TypeId) (v:Value),ts[j]?=some t->vs[j]?=some v->Value.okWide P W .any base t v)->∃ x,wf x/\By W (UU W) (ea x) vs []
theorem Il.nil{P:Program}:Il P [] (λ_:Unit=>True) (λ_=>[]):=by
 intro H ec W base vs ds p h hv;obtain ⟨rfl,_,_⟩:=trodAll_nil h;exact ⟨(),trivial,.nil⟩
theorem Il.cons{α β:Type}{P:Program}{t:TypeId}{ts:List TypeId}{wf:α->Prop}{ev:α->V}{wf':β->Prop}{ea:β->List V}(h:WP P t wf ev)(hs:Il P ts wf' ea) :
  Il P (t :: ts) (λx:α×β=>wf x.1/\wf' x.2) (λx=>ev x.1 :: ea x.2):=by
 intro H ec W base vs ds p hT hv;obtain ⟨v,vs',d,ds',p1,p2,rfl,rfl,rfl,h1,h2⟩:=trodAll_cons hT;obtain ⟨x,hx,hr⟩:=h ec W base v d p1 h1 (hv 0 t v rfl rfl);obtain ⟨y,hy,hr'⟩:=hs ec W base vs' ds' p2 h2 (λj t v ht hj=>hv (j+1) t v ht hj);exact ⟨(x,y),⟨hx,hy⟩,.cons _ _ [] _ _ [] hr hr'⟩
theorem Dh{P:Program}{H:Type}{ec:TypeId×Value->H}(hl:laidOutB P=true){W W':World}(hb:Below W.heap.size W W'):∀ {ts:List TypeId} {vs:List Value} {ds:List (DataW H)} {p:List MemPlace},
  ts.all (λt=>P.readableRec t && decide (t < P.types.size))=true->DataW.TrodAll ec P W 0 (λ_=>true) true ts vs ds p ->
  DataW.TrodAll ec P W' 0 (λb=>decide (b < W.heap.size)) true ts vs ds p
 | [],vs,ds,p,_,h=>by
  obtain ⟨rfl,rfl,rfl⟩:=trodAll_nil h;exact trodAll_mk0
 | t :: ts,vs,ds,p,ht,h=>by
  obtain ⟨v,vs',d,ds',p1,p2,rfl,rfl,rfl,h1,h2⟩:=trodAll_cons h;simp only [List.all_cons,sk,decide_eq_true_eq] at ht;refine trodAll_cons_mk (Below.trod hl ht.1.1 ht.1.2 h1 hb ?_) (Dh hl hb (by simpa using ht.2) h2);obtain ⟨k,hk⟩:=h1;exact DataW.trod_lt k _ _ _ hk
theorem SV{α:Type}{P:Program}{f:FuncId}{ts:List TypeId}{wf:α->Prop}{ea:α->List V}(hr:Il P ts wf ea)(hl:laidOutB P=true)(hts:ts.all (λt=>P.readableRec t && decide (t < P.types.size))=true)
  (law:∀ x,wf x->aL P f (ea x) (.one (.t (.bool true))) []) {H:Type} (ec:TypeId×Value->H) (W:World) (base:Nat) (args:Array Value) (ds:List (DataW H)) (p:List MemPlace)
  (hT:DataW.TrodAll ec P W 0 (λ_=>true) true ts args.toList ds p) (hv:∀ (j:Nat) (t:TypeId) (v:Value),ts[j]?=some t->args[j]?=some v->Value.okWide P W .any base t v)
  (htb:Mm P W λ_=>False):Calls P f args W λe W'=>e=.returned (.bool true)/\Below W.heap.size W W'/\DataW.TrodAll ec P W' 0 (λb=>decide (b < W.heap.size)) true ts args.toList ds p:=by
 obtain ⟨x,hx,hV⟩:=hr ec W base args.toList ds p hT (λj t v h1 h2=>hv j t v h1 (by simpa using h2));have:=(law x hx).2 W (UU W) args.toList [] (λ_ h=>h) hV .nil (by simp) (htb.mono λ_ h=>by cases h);simp only [zWZ] at this;refine this.mono λe W' ⟨v,F',bv,bo,h1,h2,h3,h4,h5,h6,h7,h8,h9⟩=>?_;have hbel:Below W.heap.size W W':=⟨h2.os,h2.tape,h2.output,h2.size,λk hk=>h3 k hk (by simp)⟩;refine ⟨?_,hbel,Dh hl hbel hts hT⟩
 cases h6 with
 | one _ _ _ h =>
  cases h with
  | t _ _ h =>
   cases h
   exact h1
end Go.Tm
namespace Go.Tm
open Go.RowKit
theorem PC{α:Type}(a:A)(k:T->MA α)(st:St):(a.toT k).run st=((a.toT MA.ret).run st).bind λp=>(k p.1).run p.2:=by
 cases a with
 | t y=>rfl
 | nil=>rfl
 | own r =>
  simp only [A.toT,MA.run]
  cases hr:st.rw r with
  | none=>rfl
  | some row=>cases row <;> rfl
 | _=>rfl
theorem D9{α:Type}:∀ (l:List A) (k:List T->MA α) (st:St),(A.toTs l k).run st=((A.toTs l MA.ret).run st).bind λp=>(k p.1).run p.2
 | [],k,st=>rfl
 | a :: r,k,st=>by
  simp only [A.toTs];rw [PC a,PC a (λx=>A.toTs r λxs=>MA.ret (x :: xs)),Option.bind_assoc]
  congr 1
  funext p
  rw [D9 r,D9 r (λxs=>MA.ret (p.1 :: xs)),Option.bind_assoc];rfl
theorem SW{α:Type}(l:List A){k:List T->MA α}{st st1:St}{xs:List T}(h:(A.toTs l MA.ret).run st=some (xs,st1)):(A.toTs l k).run st=(k xs).run st1:=by
 rw [D9,h]; rfl
section
variable {P:Program} {n:Nat} {ls:List Nat} {st st':St} {p:Nat->Bool} {ρ:Nat->dX} {ops:Array Oper} {l:List Oper} {K:St->Prop} {o:Oper}
theorem np{α:Type}(f:α->List T)(xs:List α)(r i off:Nat){y:α}(y':α){t e:TypeId}{x1 x2:Operand}(v:A){sz m:Nat}(ts:List T)(ho:o.op=.store t x1 x2)(hg:i8 ops st o=some true)(hf:eO ρ st o=true)
  (h1:st.eval x1=some (.elem r sz i off)) (h2:st.eval x2=some v) (hm:i7 P t=some m) (hv:(zXw v.cells.length m && v.cells.all A.one)=true) (hz:((A.toTs (lh (Fi P t) v.cells) MA.ret).run st).map Prod.fst=some ts)
  (hr:(J7 ((A.toTs (lh (Fi P t) v.cells) MA.ret).run st)).rw r=some (.live e sz (xs.map f))) (h:xs[i]?=some y) (hle:Nat.ble (off+m) (f y).length=true) (hy:spl (f y) off ts=f y')
  (hk:ae P p ρ ops l ((({ J7 ((A.toTs (lh (Fi P t) v.cells) MA.ret).run st) with rw:=et (J7 ((A.toTs (lh (Fi P t) v.cells) MA.ret).run st)).rw r (some (.live e sz ((xs.set i y').map f))) }:St)).put o.dst .undef) K):ae P p ρ ops (o :: l) st K:=by
 simp only [sk] at hv;have hv1:=zWy hv.1;have hle':off+m<=(f y).length:=by simpa using hle
 obtain ⟨⟨ts',st1⟩,h5,h6⟩:=Option.map_eq_some_iff.1 hz
 cases h6
 rw [h5] at hr hk;refine ae.op (x:=.undef) hg hf ?_ hk;simp only [qp,ho,h1,h2,As,hm,hv1,hv.2,and_self,↓reduceIte];rw [SW _ h5];have hr':st1.rw r=some (.live e sz (xs.map f)):=hr;simp only [MA.run,hr',zQZ,h,zWX,hle',↓reduceIte,hy,List.map_set,J7]
theorem Ea:∀ xs:List Int,BH (xs.map (ai .u8))=some xs
 | []=>rfl
 | x :: xs=>by simp only [zWg,ai,BH,Ea xs]
theorem uT(xs:List Int)(m:Nat){y:A}{s t e:TypeId}{x:Operand}(ho:o.op=.convert s t x)(hg:i8 ops st o=some true)(hf:eO ρ st o=true)
  (hx:st.eval x=some y) (hy:((y.rows λm rows=>MA.ret (m,rows)).run st).map Prod.fst=some (m,xs.map (ai .u8))) (hs:P.underlying s=some (.slice e)) (he:P.underlying e=some (.int .u8)) (ht:P.underlying t=some .string)
  (hk:ae P p ρ ops l (st.put o.dst (.t (.str (strOfNums xs)))) K):ae P p ρ ops (o :: l) st K:=by
 refine ae.pure (x:=.t (.str (strOfNums xs))) hg hf ?_ hk
 cases y with
 | t z =>
  cases z with
  | sl sz rows =>
   simp only [A.rows,MA.run,zWX,Option.some.injEq,Prod.mk.injEq] at hy;obtain ⟨rfl,rfl⟩:=hy;simp only [qp,ho,hx,hs,ht,he,A.rows,Ea,MA.run]
  | _=>simp [A.rows,MA.run] at hy
 | _ =>
  simp only [qp,ho,hx,hs,ht,he,NY hy,Ea,MA.run]
end
end Go.Tm
namespace Go.Tm
open Go.RowKit
def KU{α:Type}(xs ys:List α)(lo:Nat):List α:=xs.take lo++ys.take (xs.length - lo)++xs.drop (lo+min ys.length (xs.length - lo))
end Go.Tm
namespace Go.Tm.Pu
theorem fi{n:Int}(h1:-9223372036854775808<=n)(h2:n<=9223372036854775807):IntKind.wrap .i64 n=n:=Go.IntWalk.i64_in n ⟨h1,h2⟩
theorem sg(n:Int):IntKind.wrap .u8 n=n % 256:=by simp [IntKind.wrap,IntKind.bits,IntKind.signed]
theorem cq{a b:Int}(h1:-9223372036854775808<=a+b)(h2:a+b<=9223372036854775807):aW .i64 a b=a+b:=fi h1 h2
theorem cJ{a b:Int}(h1:-9223372036854775808<=a - b)(h2:a - b<=9223372036854775807):cW .i64 a b=a - b:=fi h1 h2
theorem iH{a b:Int}(h1:-9223372036854775808<=a*b)(h2:a*b<=9223372036854775807):eB .i64 a b=a*b:=fi h1 h2
theorem db{i:Nat}(h:i < 9223372036854775807):aW .i64 (i:Int) 1=((i+1:Nat):Int):=by
 rw [cq (by omega) (by omega)]; simp
theorem xA{a b:Int}(h:0<=a):m4 .i64 a b=a % b:=by
 unfold m4; exact zXK h
theorem KV{a b:Int}(h:0<=a)(hb:0 < b)(h2:a<=9223372036854775807):QY .i64 a b=a / b:=by
 unfold QY;rw [Int.tdiv_eq_ediv_of_nonneg h];have h3:0<=a / b:=Int.ediv_nonneg h (by omega);have h4:a / b<=a:=Int.ediv_le_self b h;exact fi (by omega) (by omega)
theorem N0(k:IntKind)(a:Int)(n:Nat)(h:n<=k.bits):lB k a (n:Int)=a / 2 ^ n:=by
 unfold lB;rw [show min (sY (n:Int)) k.bits=n by simp; omega];exact Int.fdiv_eq_ediv_of_nonneg a (by exact_mod_cast zZJ (2 ^ n))
theorem TV(a:Int):lB .i64 a 7=a / 128:=N0 .i64 a 7 (by decide)
theorem Ws(a:Int):lB .i64 a 8=a / 256:=N0 .i64 a 8 (by decide)
theorem bl{p:Prop}[Decidable p](h:p):c9 (decide p)=some ():=by simp [c9,h]
theorem zR:c9 true=some ():=rfl
theorem b9{α:Type}(xs:List α)(i:Nat):cN xs (i:Int)=xs[i]?:=by simp [cN]
def n5{σ ρ:Type}(fin:σ->Option ρ)(body:Nat->σ->(σ->Option ρ)->Option ρ):Nat->Nat->σ->Option ρ
 | 0,_,s=>fin s
 | n+1,i,s=>body i s (n5 fin body n (i+1))
theorem UV{σ ρ:Type}{fin:σ->Option ρ}{body:Nat->σ->(σ->Option ρ)->Option ρ}{n:Int}(L:Nat->σ->Int->Option ρ)(hn:n<=9223372036854775807)
  (hL:∀ (k:Nat) (s:σ) (i:Nat),L (k+1) s (i:Int)=bif decide ((i:Int) < n) then body i s (λs'=>L k s' (aW .i64 (i:Int) 1)) else fin s) :
  ∀ (m k i:Nat) (s:σ),i+m=n.toNat\/(m=0/\n<=i)->m < k->L k s (i:Int)=n5 fin body m i s:=by
 intro m
 induction m with
 | zero =>
  intro k i s hi hk;obtain ⟨k,rfl⟩:∃ j,k=j+1:=⟨k - 1,by omega⟩;rw [hL];have:¬ ((i:Int) < n):=by omega
  simp [this,n5]
 | succ m ih =>
  intro k i s hi hk;obtain ⟨k,rfl⟩:∃ j,k=j+1:=⟨k - 1,by omega⟩;rw [hL];have:(i:Int) < n:=by omega
  simp only [this,decide_true,cond_true];show body i s _=body i s (n5 fin body m (i+1))
  congr 1
  funext s'
  rw [db (by omega)];exact ih k (i+1) s' (by omega) (by omega)
theorem pJ{σ ρ:Type}{fin:σ->Option ρ}{body:Nat->σ->(σ->Option ρ)->Option ρ}{n:Int}(L:Nat->σ->Int->Option ρ)(hn:n<=9223372036854775807)
  (hL:∀ (k:Nat) (s:σ) (i:Nat),L (k+1) s (i:Int)=bif decide ((i:Int) < n) then body i s (λs'=>L k s' (aW .i64 (i:Int) 1)) else fin s)
  {k:Nat} (s:σ) (hk:n.toNat < k):L k s 0=n5 fin body n.toNat 0 s:=by
 have:=UV L hn hL n.toNat k 0 s (by omega) hk
 simpa using this
def bU{α σ ρ:Type}(fin:σ->Option ρ)(body:α->Nat->σ->(σ->Option ρ)->Option ρ):List α->Nat->σ->Option ρ
 | [],_,s=>fin s
 | x :: xs,i,s=>body x i s (bU fin body xs (i+1))
theorem PD{α σ ρ:Type}{fin:σ->Option ρ}{body:α->Nat->σ->(σ->Option ρ)->Option ρ}{xs:List α}(L:Nat->σ->Int->Option ρ)(hn:xs.length<=9223372036854775807)
  (hL:∀ (k:Nat) (s:σ) (i:Nat),L (k+1) s (i:Int)=bif decide ((i:Int) < (xs.length:Int)) then (cN xs (i:Int)).bind λx=>body x i s (λs'=>L k s' (aW .i64 (i:Int) 1)) else fin s) :
  ∀ (ys:List α) (k i:Nat) (s:σ),ys=xs.drop i->ys.length < k->L k s (i:Int)=bU fin body ys i s:=by
 intro ys
 induction ys with
 | nil =>
  intro k i s hi hk;obtain ⟨k,rfl⟩:∃ j,k=j+1:=⟨k - 1,by omega⟩;rw [hL];have:¬ ((i:Int) < (xs.length:Int)):=by
   have:=congrArg zYK hi;simp at this;omega
  simp [this,bU]
 | cons y ys ih =>
  intro k i s hi hk;obtain ⟨k,rfl⟩:∃ j,k=j+1:=⟨k - 1,by omega⟩;rw [hL];have hlt:i < xs.length:=by
   have:=congrArg zYK hi;simp at this;omega
  have hx:xs[i]?=some y:=by
   have:=congrArg zYG hi
   simpa [zXV] using this.symm
  have hys:ys=xs.drop (i+1):=by
   have:=congrArg zYk hi
   simpa [zXq] using this
  have:(i:Int) < (xs.length:Int):=by omega
  simp only [this,decide_true,cond_true,b9,hx,wk];show body y i s _=body y i s (bU fin body ys (i+1))
  congr 1
  funext s'
  rw [db (by omega)];simp only [zQV] at hk;exact ih k (i+1) s' hys (by omega)
theorem cK{α σ ρ:Type}{fin:σ->Option ρ}{body:α->Nat->σ->(σ->Option ρ)->Option ρ}{xs:List α}(L:Nat->σ->Int->Option ρ)(hn:xs.length<=9223372036854775807)
  (hL:∀ (k:Nat) (s:σ) (i:Nat),L (k+1) s (i:Int)=bif decide ((i:Int) < (xs.length:Int)) then (cN xs (i:Int)).bind λx=>body x i s (λs'=>L k s' (aW .i64 (i:Int) 1)) else fin s)
  {k:Nat} (s:σ) (hk:xs.length < k):L k s 0=bU fin body xs 0 s:=by
 have:=PD L hn hL xs k 0 s (by simp) hk
 simpa using this
end Go.Tm.Pu
namespace Go.Tm
end Go.Tm
namespace Go.Tm
open Go
theorem oi{α:Type}{a b:α}(h:some a=some b):a=b:=Option.some.inj h
theorem kr{p:Prop}(h:p:=by kernel_rfl):p:=h
section
variable {P:Program} {n:Nat} {ls:List Nat} {Q:Exit->St->Prop} {N:St->Prop} {st st':St} {c x y:Code} {p:Nat->Bool} {ρ:Nat->dX} {ops:Array Oper} {l:List Oper} {K:St->Prop} {o:Oper}
theorem gU(s:Sx)(h:Wp P n ls c Q s.st)(hok:s.ok n ls [] []=true:=by kernel_rfl)(ht:s.tm.map (λq=>st.tm q.1)=s.tm.map (λq=>q.2.ren (BA []) (BA [])):=by kernel_rfl)
  (ho:s.ob.map (λq=>st.ob (BA [] q.1))=s.ob.map (λq=>some (sE (BA []) (BA []) q.2)):=by kernel_rfl) (hr:s.rw.map (λq=>st.rw (BA [] q.1))=s.rw.map (λq=>some q.2):=by kernel_rfl):Wp P n ls c Q st :=
 Wp.le (Le.of (s:=s) (mo:=[]) (mr:=[]) hok ht ho hr) h
theorem aR{id:Nat}(p:List Nat)(ρ:List (Nat×dX))(h:ae P (eY p) (bw ρ) ops ops.toList st (Q .normal))(hok:ops.toList.all (nm n)=true:=by kernel_rfl):Wp P n ls (.region id ops false) Q st :=
 AF (eY p) (bw ρ) hok h
theorem QZ{id:Nat}(p:List Nat)(ρ:List (Nat×dX))(h:ae P (eY p) (bw ρ) ops ops.toList st (iG (Wp P n ls y Q) Q .normal))(hok:ops.toList.all (nm n)=true:=by kernel_rfl):Wp P n ls (.seq (.region id ops false) y) Q st :=
 Wp.seq (AF (eY p) (bw ρ) hok h)
theorem ab(hr:N (St.or (sF P ρ ops l st)))(h:(sF P ρ ops l st).isSome=true:=by kernel_rfl):ae P p ρ ops l st (iG N Q .normal) :=
 ae.all h (aM hr)
theorem af{id:Nat}(h:Wp P n ls y Q (St.or (sF P (bw []) ops ops.toList st)))(h1:(sF P (bw []) ops ops.toList st).isSome=true:=by kernel_rfl)(hd:ops.toList.all (nm n)=true:=by kernel_rfl):Wp P n ls (.seq (.region id ops false) y) Q st :=
 QZ [] [] (ab h h1) hd
theorem au{α:Type}{o:Operand}{b:Bool}{e1 e2 r:α}(h:(bif b then e1 else e2)=r)(ht:e1=r->Wp P n ls x Q st)(hf:e2=r->Wp P n ls y Q st)(ho:st.eval o=some (.t (.bool b)):=by kernel_rfl):Wp P n ls (.cond o x y) Q st :=
 TQ ho (λhc=>ht (QW h hc)) (λhc=>hf (QX h hc))
theorem aS(h:N st){Q:Exit->St->Prop}:Wp P n ls .skip (iG N Q) st:=Wp.skip (aM h)
end
abbrev A.s(x:List Int):A:=.t (.sl 1 (x.map (ai .u8)))
abbrev C.s(x:List Int):C:=.t (.sl 1 (x.map (ai .u8)))
abbrev A.i(n:Int):A:=.t (.int .i64 n)
abbrev A.b(b:Bool):A:=.t (.bool b)
abbrev C.i(n:Int):C:=.t (.int .i64 n)
abbrev C.b(b:Bool):C:=.t (.bool b)
end Go.Tm
namespace Go.Tm
open Go.RowKit
section
variable {P:Program} {n:Nat} {ls:List Nat} {st st1:St}
theorem Ka(t sz:Nat)(rows:List (List T))(ht:st.tm t=.nn sz rows)(hlt:Nat.blt t n=true):Le n ls st (st.put (some t) (.t (.sl sz rows))) :=
 R7 rfl (λE g w v hM hv=>by
  rw [ht] at hv
  cases hv with
  | nn _ _ _ hr _=>exact ⟨g,hM,qC.refl _ _ _ _,.t _ _ hr⟩) (by simpa using hlt)
end
end Go.Tm
namespace Go.Tm
open Go.RowKit
theorem uU{P:Program}{fn:Func}{c:Code}{f:FuncId}{sz:Nat}{rows:List (List T)}{m:Bool}{res:V}
  (hf:P.funcs[f]?=some fn) (hb:fn.body=some c) (hnm:(fn.name == "runtime.NumGoroutine")=false) (hle:1<=fn.ntmps) (ht:tK fn.ntmps fn=true)
  (hN:rows=[]->Wp P fn.ntmps [] c (xz P m fn [] res []) (eA [.nil] c7)) (hS:Wp P fn.ntmps [] c (xz P m fn [] res []) (eA [.nn sz rows] c7)):aL P f [.one (.t (.sl sz rows))] res []:=by
 refine ⟨⟨fn,hf,by simp [hb],hnm⟩,λw F vs bs hF hVV hnd hnf htb=>?_⟩
 cases hVV with
 | cons _ v b _ vs bs h1 hs =>
  cases hs
  cases h1 with
  | one _ _ _ h1=>cases h1 with
   | t _ _ h1 =>
    let E:En:={ w0:=w,X:=KD,F0:=F,lent:=[] }
    let g0:Gh:={ F:=F,ob:=λ_=>0,rw:=λ_=>.nilFunc,dw:=w }
    have main:∀ x:A,VR w g0 KD KD x v->Wp P fn.ntmps [] c (xz P m fn [] res []) (eA [x] c7)->Calls P f #[v] w λe w'=>∃ v' F' bv bo,e=.returned v'/\qI w w'/\(∀ b,b < w.heap.size->b∉([]:List Nat)->w'.heap[b]?=w.heap[b]?)/\(∀ b,F b->F' b) /\
      (∀ b,F' b->b < w'.heap.size/\(b < w.heap.size->F b\/b∈([]:List Nat))/\(F b\/Wr w' b))/\VV w' F' res v' bv/\o6 w' F' [.one (.t (.sl sz rows))] [v] [] bo/\(bv++bo).Nodup/\∀ b∈bv++bo,¬ F' b/\(w.heap.size<=b\/b∈([]:List Nat)):=by
     intro x hx hW;have hM0:fe E g0 (eA [x] c7) w:=⟨λs cells h=>(by cases h),λs s' h=>(by cases h),λr x h=>(by cases h),λr r' b h=>(by obtain ⟨_,_,_,h⟩:=h; cases h),λr s h=>(by obtain ⟨_,_,_,h⟩:=h; cases h),
      λb hb=>⟨hF b hb,λ_=>.inl hb,.inl hb⟩,rfl,rfl,rfl,zWq _,λ_ _ _=>.inl rfl,λ_ h=>h.elim,⟨rfl,rfl,rfl⟩,λ_ h=>h.elim⟩
     have hSim:=Nk (vs:=[v]) (n:=fn.ntmps) hM0 rfl (by simpa using hle) (λj y hj=>by
      cases j with
      | zero=>simp at hj; subst hj; exact ⟨v,rfl,hx.mono ⟨λ_ _=>rfl,λ_ h=>h,λ_ h=>h.elim,λ_ h=>h.elim,⟨rfl,rfl,rfl⟩,rfl,rfl⟩⟩
      | succ j=>simp at hj) rfl (λv h=>(by cases h))
     refine calls_of_wp hf hb (wp_mono (hW E g0 _ w ⟨⟨[],rfl,λ_ h=>(by cases h),λ_ h=>(by cases h),λh=>(by cases h)⟩,⟨htb.mono λb h=>h.elim (λh=>h.elim) λh=>(by cases h.1)⟩⟩ hSim) λe a' w' ⟨g',st',hS',hR⟩=>?_);obtain ⟨he,l,st2,res0,outs0,hres,hrun,hvle,hole⟩:=hR;have hfin:a'.defers=[]/\∃ v',(results fn a'.tmps).run P w'=.ok v' w'/\(λe w'=>∃ v' F' bv bo,e=Ending.returned v'/\qI w w'/\(∀ b,b < w.heap.size->b∉([]:List Nat)->w'.heap[b]?=w.heap[b]?)/\(∀ b,F b->F' b) /\
       (∀ b,F' b->b < w'.heap.size/\(b < w.heap.size->F b\/b∈([]:List Nat))/\(F b\/Wr w' b))/\VV w' F' res v' bv/\o6 w' F' [.one (.t (.sl sz rows))] [v] [] bo/\(bv++bo).Nodup/\∀ b∈bv++bo,¬ F' b/\(w.heap.size<=b\/b∈([]:List Nat))) (.returned v') w':=by
      refine ⟨hS'.defers,?_⟩;obtain ⟨v',hrv,hvv⟩:=FE hS' hres ht;refine ⟨v',hrv,?_⟩;have hM':=hS'.mem;simp only [BT] at hrun;obtain ⟨c',st4,g4,bv,hM4,hE4,hL4,h4,hv4,hT4⟩:=BV hM' hvv hrun;obtain ⟨h5,rfl⟩:=eR h4;injection h5 with h5 h6
      subst h5 h6;have hof:∀ b∈bv,w.heap.size<=b:=λb hb=>by
       rcases hT4.of b hb with ⟨r,⟨e,sz,rows,h7⟩,_,h8⟩ | ⟨s,⟨c,cs,h7⟩,_,h8⟩
       ·obtain ⟨_,_,_,_,h9⟩:=hM'.row r _ h7;exact (h9 b h8).2.resolve_right (λh=>h)
       ·obtain ⟨_,_,_,_,_,_,h9⟩:=hM'.ob s _ h7;rw [h8] at h9;exact h9.resolve_right (λh=>h)
      refine ⟨v',λb=>g4.F b\/F b,bv,[],rfl,⟨hM4.os,hM4.tape,hM4.output,hM4.sizes⟩,λb hb _=>hM4.frm rfl b hb (λh=>h),λb h=>.inr h,λb h=>?_,hvle.vv (hv4.mono (λ_ _=>rfl) (λ_ h=>.inl h) (λ_ _=>rfl)),.skip _ _ _ _ _ _ (λc h=>by cases h) .nil,by rw [zWj]; exact hT4.nodup,λb hb=>?_⟩
      ·rcases h with h | h
       ·obtain ⟨h7,h8,h9⟩:=hM4.F b h;exact ⟨h7,λhlt=>.inl ((h8 hlt).elim id (λh=>h.elim)),h9⟩
       ·exact ⟨zQg (hF b h) hM4.sizes,λ_=>.inl h,.inl h⟩
      ·rw [zWj] at hb;refine ⟨λh=>?_,.inl (hof b hb)⟩;rcases h with h | h
       ·exact hT4.nf b hb h
       ·have:=hF b h; have:=hof b hb; omega
     rcases he with rfl | rfl
     ·exact hfin
     ·exact hfin
    generalize hq:rows=q at h1
    cases h1 with
    | sl0 sz a cc ha =>
     cases a with
     | none =>
      subst hq;have hcc:=ha rfl;subst hcc;exact main .nil .nil (hN rfl)
     | some a =>
      subst hq;exact main (.nn sz []) (.nn sz [] _ (.sl0 sz (some a) cc ha) ⟨a,0,cc,rfl⟩) hS
    | sl sz rows b off cc u h2 h3 h4 h5 h6 =>
     subst hq;exact main (.nn sz rows) (.nn sz rows _ (.sl sz rows b off cc u h2 h3 h4 h5 h6) ⟨_,_,_,rfl⟩) hS
end Go.Tm
namespace Go.Tm
open Go.RowKit
section
variable {P:Program} {n:Nat} {ls:List Nat} {Q:Exit->St->Prop} {st st':St} {p:Nat->Bool} {ρ:Nat->dX} {ops:Array Oper} {l:List Oper} {K:St->Prop} {o:Oper}
theorem ay(d f:Nat)(caps as:List A)(vs:List V)(res:V){xf:Operand}{args:Array Operand}{ts:Array TypeId}
  (ho:o.op=.call { callee:=.value xf,args,argTypes:=ts }) (hd:o.dst=some d) (hg:i8 ops st o=some true) (hf:eO ρ st o=true) (hxf:st.eval xf=some (.clo f caps)) (ly:de (args.toList.map st.eval)=some as)
  (hp:((dQ (as++caps) MA.ret).run st).map Prod.fst=some vs) (hc:gT P f vs res) (hr:((V.toA d (fd d 0) res MA.ret).run st).isSome=true)
  (hk:ae P p ρ ops l ((J7 ((V.toA d (fd d 0) res MA.ret).run st)).put o.dst (Vy ((V.toA d (fd d 0) res MA.ret).run st))) K):ae P p ρ ops (o :: l) st K:=by
 obtain ⟨⟨vs',st1⟩,h1,h2⟩:=Option.map_eq_some_iff.1 hp
 cases h2
 have hst:st1=st:=by
  have:=(m3 (dQ (as++caps) MA.ret) (qs (D:=⟨λ_=>True,λ_=>False,λ_=>True,λ_=>False⟩) (pF (λ_=>trivial) _) (λ_=>trivial)) h1).1;exact St.ext this.tm (funext λs=>this.ob s (λh=>h)) (funext λs=>this.rw s (λh=>h))
 subst hst;obtain ⟨⟨x,st2⟩,h3⟩:=Option.isSome_iff_exists.1 hr;rw [h3] at hk;exact ae.step (.run x st2 hg hf (.callD d f xf args ts caps as vs' res ho hd hxf ly h1 hc h3)) hk
theorem eI{α:Type}(f:α->List T)(xs:List α)(i:Int)(s:Bool){y:α}{t e:TypeId}{a b:Operand}{sz:Nat}{kk:IntKind}(ho:o.op=.indexAddr t a b)(hg:i8 ops st o=some true)(hf:eO ρ st o=true)
  (ha:st.eval a=some (.ext s (.sl sz (xs.map f)))) (hb:st.eval b=some (.t (.int kk i))) (hu:P.underlying t=some (.slice e)) (hs:i7 P e=some sz) (h:cN xs i=some y) (hk:ae P p ρ ops l (st.put o.dst (.exa s (f y))) K):ae P p ρ ops (o :: l) st K:=by
 obtain ⟨h0,h1⟩:=bC h;refine ae.pure (x:=.exa s (f y)) hg hf ?_ hk;simp only [qp,ho,ha,hb];unfold kw;simp only [hu,hs,Fl,h0,and_self,↓reduceIte,zQZ,h1,zWX,true_and,MA.run]
theorem eZ(k:IntKind)(m:Nat)(xs:List Int):(((A.ext false (.sl m (xs.map (ai k)))).rows λm rows=>MA.ret (m,rows)).run st).map Prod.fst=some (m,xs.map (ai k)):=TT (k:=k) (f:=ai k) λ_=>rfl
end
section
variable {P:Program} {E:En} {g:Gh} {st st':St} {a:Act} {w w':World} {n:Nat}
variable {p:Nat->Bool} {ρ:Nat->dX} {ops:Array Oper} {o:Oper} {ls:List Nat} {Q:Exit->St->Prop}
theorem bk{fn:Func}{c:Code}{f:FuncId}{args:List V}{m:Bool}{res:V}
  (hf:P.funcs[f]?=some fn) (hb:fn.body=some c) (hnm:(fn.name == "runtime.NumGoroutine")=false) (hle:Nat.ble args.length fn.ntmps=true) (ht:tK fn.ntmps fn=true)
  (h:Wp P fn.ntmps [1] c (xz P m fn [] res []) (eA (args.map V.toX) c7)):gT P f args res:=Px hf hb hnm (by simpa using hle) ht h
end
end Go.Tm
namespace Go.Tm
open Go
def C.fix:C->C->C
 | .t (.sl s _),.nil=>.t (.sl s [])
 | .ow e s _,.nil=>.ow e s []
 | .t (.sl s _),.t (.sl 0 [])=>.t (.sl s [])
 | _,c=>c
theorem PE:∀ t c:C,QE c (C.fix t c):=λt c=>by
 unfold C.fix
 split
 ·exact .nilT _
 ·exact .nilO _ _
 ·exact .sz _ _
 ·exact .refl _
def R9:List C->List C->List C
 | t :: ts,c :: cs=>t.fix c :: R9 ts cs
 | _,cs=>cs
theorem KW:∀ cs:List C,D8 QE cs cs
 | []=>.nil
 | c :: cs=>.cons (.refl c) (KW cs)
theorem KX:∀ ts cs:List C,D8 QE cs (R9 ts cs)
 | t :: ts,c :: cs=>.cons (PE t c) (KX ts cs)
 | [],cs=>KW cs
 | _ :: _,[]=>.nil
def UW:List (List C)->List (List C)->List (List C)
 | t :: ts,c :: cs=>R9 t c :: UW ts cs
 | _,cs=>cs
theorem Nm:∀ cs:List (List C),D8 (D8 QE) cs cs
 | []=>.nil
 | c :: cs=>.cons (KW c) (Nm cs)
theorem Sa:∀ ts cs:List (List C),D8 (D8 QE) cs (UW ts cs)
 | t :: ts,c :: cs=>.cons (KX t c) (Sa ts cs)
 | [],cs=>Nm cs
 | _ :: _,[]=>.nil
mutual
def V.fix:V->V->V
 | .one t,.one c=>.one (t.fix c)
 | .agg ts,.agg cs=>.agg (R9 ts cs)
 | .tup ts,.tup vs=>.tup (zS ts vs)
 | _,v=>v
def zS:List V->List V->List V
 | t :: ts,v :: vs=>V.fix t v :: zS ts vs
 | _,vs=>vs
end
theorem Nn:∀ vs:List V,BU vs vs
 | []=>.nil
 | v :: vs=>.cons (.refl v) (Nn vs)
mutual
theorem PF:∀ t v:V,R5 v (V.fix t v)
 | .one t,.one c=>by unfold V.fix; exact .one (PE t c)
 | .agg ts,.agg cs=>by unfold V.fix; exact .agg (KX ts cs)
 | .tup ts,.tup vs=>by unfold V.fix; exact .tup (xB ts vs)
 | .one _,.agg _ | .one _,.tup _ | .one _,.ptr _ | .one _,.fptr _ | .one _,.clo ..=>by unfold V.fix; exact .refl _
 | .agg _,.one _ | .agg _,.tup _ | .agg _,.ptr _ | .agg _,.fptr _ | .agg _,.clo ..=>by unfold V.fix; exact .refl _
 | .tup _,.agg _ | .tup _,.one _ | .tup _,.ptr _ | .tup _,.fptr _ | .tup _,.clo ..=>by unfold V.fix; exact .refl _
 | .ptr _,v | .fptr _,v | .clo ..,v=>by unfold V.fix; exact .refl _
theorem xB:∀ ts vs:List V,BU vs (zS ts vs)
 | t :: ts,v :: vs=>by unfold zS; exact .cons (PF t v) (xB ts vs)
 | [],vs=>by unfold zS; exact Nn vs
 | _ :: _,[]=>by unfold zS; exact .nil
end
def Eb(P:Program)(ρ:Nat->dX)(ops:Array Oper)(st:St):List Oper->Option (Nat×List A×Nat)
 | o :: _=>match i8 ops st o with
  | some true=>if eO ρ st o then match o.op,o.dst with
   | .call { callee:=.value xf,args,.. },some d=>match st.eval xf,de (args.toList.map st.eval) with
    | some (.clo f caps),some az=>some (f,az++caps,d)
    | _,_=>none
   | _,_=>none
   else none
  | _=>none
 | []=>none
def V.pl:V->Bool
 | .one (.t x)=>x.sc
 | .agg l=>l.all λc=>match c with | .t x=>x.sc | _=>false
 | .tup l=>l.all λv=>match v with | .one (.t x)=>x.sc | _=>false
 | _=>false
theorem Q0{v:V}(h:v.pl=true):v.plain:=by
 unfold V.pl at h
 split at h
 ·unfold V.plain; exact h
 ·unfold V.plain;intro c hc;have:=List.all_eq_true.1 h c hc
  cases c with
  | t x=>exact this
  | _=>cases this
 ·rename_i l;unfold V.plain
  induction l with
  | nil=>unfold tG; trivial
  | cons v l ih =>
   simp only [List.all_cons,sk] at h;unfold tG;refine ⟨?_,ih h.2⟩;have h1:=h.1
   split at h1
   ·unfold V.plain; exact h1
   ·cases h1
 ·cases h
section
variable {P:Program} {n:Nat} {ls:List Nat} {Q:Exit->St->Prop} {N:St->Prop} {st:St} {p:Nat->Bool} {ρ:Nat->dX} {ops:Array Oper} {l:List Oper} {K:St->Prop} {y:Code}
abbrev sP(P:Program)(ρ:Nat->dX)(ops:Array Oper)(k:Nat)(l:List Oper)(st:St):St:=St.or (sF P ρ ops (l.take k) st)
theorem yx{c:Nat×List A×Nat}(h:Eb P ρ ops st l=some c):∃ o l' xf args ts az caps,l=o :: l'/\i8 ops st o=some true/\eO ρ st o=true/\o.op=.call { callee:=.value xf,args,argTypes:=ts }/\o.dst=some c.2.2/\st.eval xf=some (.clo c.1 caps)/\de (args.toList.map st.eval)=some az/\c.2.1=az++caps:=by
 unfold Eb at h
 split at h <;> try (cases h; done)
 rename_i o l'
 split at h <;> try (cases h; done)
 split at h <;> try (cases h; done)
 split at h <;> try (cases h; done)
 split at h <;> try (cases h; done)
 rename_i _ hg hf _ _ xf args ts d hop hd _ _ f caps az hxf ly
 cases h
 exact ⟨o,l',xf,args,ts,az,caps,rfl,hg,hf,hop,hd,hxf,ly,rfl⟩
abbrev VA(m:Bool)(p:Nat->Bool)(d:Nat)(az:List A)(res:V)(cA:List (List C))(st:St):St :=
 (J7 ((dC d (dP az) cA (V.toA d (fd d 0) res MA.ret)).run (J7 ((kx m p az MA.ret).run st)))).put (some d) (Vy ((dC d (dP az) cA (V.toA d (fd d 0) res MA.ret)).run (J7 ((kx m p az MA.ret).run st))))
abbrev W4(d:Nat)(res:V)(st:St):St:=(J7 ((V.toA d (fd d 0) res MA.ret).run st)).put (some d) (Vy ((V.toA d (fd d 0) res MA.ret).run st))
theorem al{α β:Type}{r:β}{x:Option α}{f:α->Option β}{fid:Nat}{vs:List V}{res:α->V}{cA:α->List (List C)}(m:Bool)(k d:Nat)(az:List A)(h:x.bind f=some r)(hc:∀ y,x=some y->aL P fid vs (res y) (cA y))
  (hk:∀ y,f y=some r->ae P p ρ ops (l.drop (k+1)) (VA m p d az (res y) (cA y) (sP P ρ ops k l st)) K)
  (h1:(sF P ρ ops (l.take k) st).isSome=true:=by kernel_rfl) (h2:Eb P ρ ops (sP P ρ ops k l st) (l.drop k)=some (fid,az,d):=by kernel_rfl)
  (h3:((kx m p az MA.ret).run (sP P ρ ops k l st)).map (λq=>zS vs q.1)=some vs:=by kernel_rfl)
  (h4:∀ y,((dC d (dP az) (cA y) (V.toA d (fd d 0) (res y) MA.ret)).run (J7 ((kx m p az MA.ret).run (sP P ρ ops k l st)))).isSome=true:=by intro y; kernel_rfl):ae P p ρ ops l st K:=by
 refine aj k h1 ?_
 cases x with
 | none=>cases h
 | some y =>
  have h5:=hc y rfl;have h6:=hk y h;have h7:=h4 y
  clear hc hk h4
  simp only [sP,VA] at h2 h3 h6 h7;generalize St.or (sF P ρ ops (l.take k) st)=st1 at *;obtain ⟨o,l',xf,args,ts,az',caps,e1,e2,e3,e4,e5,e6,e7,e8⟩:=yx h2;simp only at e5 e6 e8;subst e8;have e9:l.drop (k+1)=l':=by rw [<- List.drop_drop,e1]; rfl
  rw [e9] at h6;rw [e1];obtain ⟨⟨vs0,st2⟩,h8,h9⟩:=Option.map_eq_some_iff.1 h3;have h10:BU vs0 vs:=by rw [<- h9]; exact xB vs vs0
  rw [h8] at h6 h7;simp only [J7,Vy] at h6 h7
  cases h11:(dC d (dP (az'++caps)) (cA y) (V.toA d (fd d 0) (res y) MA.ret)).run st2 with
  | none=>rw [h11] at h7; cases h7
  | some q =>
   obtain ⟨z,st3⟩:=q;rw [h11] at h6;exact ae.call e2 e3 e4 e5 e6 e7 h8 (h5.le h10) h11 (by rw [e5]; exact h6)
theorem b6{α β:Type}{r:β}{x:Option α}{f:α->Option β}{fid:Nat}{vs:List V}{res:α->V}(k d:Nat)(az:List A)(h:x.bind f=some r)(hc:∀ y,x=some y->aL P fid vs (res y) [])
  (hk:∀ y,f y=some r->ae P p ρ ops (l.drop (k+1)) (W4 d (res y) (sP P ρ ops k l st)) K)
  (h1:(sF P ρ ops (l.take k) st).isSome=true:=by kernel_rfl) (h2:Eb P ρ ops (sP P ρ ops k l st) (l.drop k)=some (fid,az,d):=by kernel_rfl)
  (h3:((dQ az MA.ret).run (sP P ρ ops k l st)).map (λq=>zS vs q.1)=some vs:=by kernel_rfl)
  (h0:∀ y,(res y).pl=true:=by intro y; kernel_rfl)
  (h4:∀ y,((V.toA d (fd d 0) (res y) MA.ret).run (sP P ρ ops k l st)).isSome=true:=by intro y; kernel_rfl):ae P p ρ ops l st K:=by
 refine aj k h1 ?_
 cases x with
 | none=>cases h
 | some y =>
  have h5:=hc y rfl;have h6:=hk y h;have h7:=h4 y;have h0:=Q0 (h0 y)
  clear hc hk h4
  simp only [sP,W4] at h2 h3 h6 h7;generalize St.or (sF P ρ ops (l.take k) st)=st1 at *;obtain ⟨o,l',xf,args,ts,az',caps,e1,e2,e3,e4,e5,e6,e7,e8⟩:=yx h2;simp only at e5 e6 e8;subst e8;have e9:l.drop (k+1)=l':=by rw [<- List.drop_drop,e1]; rfl
  rw [e9] at h6;rw [e1];obtain ⟨⟨vs0,st2⟩,h8,h9⟩:=Option.map_eq_some_iff.1 h3;have h10:BU vs0 vs:=by rw [<- h9]; exact xB vs vs0
  have hst:st2=st1:=by
   have:=(m3 (dQ (az'++caps) MA.ret) (qs (D:=⟨λ_=>True,λ_=>False,λ_=>True,λ_=>False⟩) (pF (λ_=>trivial) _) (λ_=>trivial)) h8).1;exact St.ext this.tm (funext λs=>this.ob s (λh=>h)) (funext λs=>this.rw s (λh=>h))
  subst hst
  cases h11:(V.toA d (fd d 0) (res y) MA.ret).run st2 with
  | none=>rw [h11] at h7; cases h7
  | some q =>
   obtain ⟨z,st3⟩:=q;rw [h11] at h6;simp only [J7,Vy] at h6;exact ae.callB e2 e3 e4 e5 e6 e7 h8 (h5.le h10) h0 h11 (by rw [e5]; exact h6)
theorem aG{id:Nat}(h:ae P (eY []) (bw []) ops ops.toList st (iG (Wp P n ls y Q) Q .normal))(hd:ops.toList.all (nm n)=true:=by kernel_rfl):Wp P n ls (.seq (.region id ops false) y) Q st :=
 QZ [] [] h hd
theorem bc{α β:Type}{id:Nat}{r:β}{x:Option α}{f:α->Option β}{fid:Nat}{vs:List V}{res:α->V}{cA:α->List (List C)}(m:Bool)(k d:Nat)(az:List A)(h:x.bind f=some r)(hc:∀ y,x=some y->aL P fid vs (res y) (cA y))
  (hk:∀ z,f z=some r->Wp P n ls y Q (St.or (sF P (bw []) ops (ops.toList.drop (k+1)) (VA m (eY []) d az (res z) (cA z) (sP P (bw []) ops k ops.toList st)))))
  (h1:(sF P (bw []) ops (ops.toList.take k) st).isSome=true:=by kernel_rfl) (h2:Eb P (bw []) ops (sP P (bw []) ops k ops.toList st) (ops.toList.drop k)=some (fid,az,d):=by kernel_rfl)
  (h3:((kx m (eY []) az MA.ret).run (sP P (bw []) ops k ops.toList st)).map (λq=>zS vs q.1)=some vs:=by kernel_rfl)
  (h4:∀ z,((dC d (dP az) (cA z) (V.toA d (fd d 0) (res z) MA.ret)).run (J7 ((kx m (eY []) az MA.ret).run (sP P (bw []) ops k ops.toList st)))).isSome=true:=by intro z; kernel_rfl)
  (h5:∀ z,(sF P (bw []) ops (ops.toList.drop (k+1)) (VA m (eY []) d az (res z) (cA z) (sP P (bw []) ops k ops.toList st))).isSome=true:=by intro z; kernel_rfl)
  (hd:ops.toList.all (nm n)=true:=by kernel_rfl):Wp P n ls (.seq (.region id ops false) y) Q st :=
 QZ [] [] (al m k d az h hc (λz hz=>ab (hk z hz) (h5 z)) h1 h2 h3 h4) hd
theorem av{α:Type}(k d:Nat){b:Bool}{e1 e2 r:α}(h:(bif b then e1 else e2)=r)(ht:e1=r->ae P p ρ ops (l.drop k) ((sP P ρ ops k l st).put (some d) (.t (.bool true))) K)
  (hf:e2=r->ae P p ρ ops (l.drop k) ((sP P ρ ops k l st).put (some d) (.t (.bool false))) K) (h1:(sF P ρ ops (l.take k) st).isSome=true:=by kernel_rfl) (h2:(sP P ρ ops k l st).tm d=.t (.bool b):=by kernel_rfl):ae P p ρ ops l st K:=by
 refine aj k h1 ?_;rcases tf b with hc | hc
 ·exact ae.known d (v:=true) h2 hc (ht (QW h hc))
 ·exact ae.known d (v:=false) h2 hc (hf (QX h hc))
theorem aA{m:Bool}{fn:Func}{args:List V}{res:V}{cA:List (List C)}(h1:(BS P st fn.results.toList).isSome=true:=by kernel_rfl)
  (h2:((BT 0 args λos=>TS m (US ((BS P st fn.results.toList).getD [])) λv=>MA.ret (v,os)).run st).map (λq=>(V.fix res q.1.1,UW cA q.1.2))=some (res,cA):=by kernel_rfl):xz P m fn args res cA .ret st:=by
 obtain ⟨l,hl⟩:=Option.isSome_iff_exists.1 h1;rw [hl] at h2;obtain ⟨⟨⟨v,os⟩,st1⟩,h3,h4⟩:=Option.map_eq_some_iff.1 h2;simp only [Prod.mk.injEq] at h4;refine ⟨.inl rfl,l,st1,v,os,hl,h3,?_,?_⟩
 ·rw [<- h4.1]; exact PF _ _
 ·rw [<- h4.2]; exact Sa _ _
theorem PG{m:Bool}{fn:Func}{args:List V}{res:V}{cA:List (List C)}(h1:(BS P st fn.results.toList).isSome=true:=by kernel_rfl)
  (h2:((BT 0 args λos=>TS m (US ((BS P st fn.results.toList).getD [])) λv=>MA.ret (v,os)).run st).map (λq=>(V.fix res q.1.1,UW cA q.1.2))=some (res,cA):=by kernel_rfl):xz P m fn args res cA .normal st :=
 ⟨.inr rfl,(aA (m:=m) (args:=args) h1 h2).2⟩
theorem lo{s:Sx}(mr:List (Nat×Nat))(hok:s.ok n ls [] mr=true:=by kernel_rfl)(ht:s.tm.map (λq=>st.tm q.1)=s.tm.map (λq=>q.2.ren (BA []) (BA mr)):=by kernel_rfl)
  (ho:s.ob.map (λq=>st.ob (BA [] q.1))=s.ob.map (λq=>some (sE (BA []) (BA mr) q.2)):=by kernel_rfl) (hr:s.rw.map (λq=>st.rw (BA mr q.1))=s.rw.map (λq=>some q.2):=by kernel_rfl):Le n ls st s.st:=Le.of hok ht ho hr
theorem dK{f:FuncId}{c:Code}{args:List V}{res:V}{cA:List (List C)}(fn:Func)(m:Bool)
  (h:Wp P fn.ntmps (eG 0 args) c (xz P m fn args res cA) (eA ((((oV 0 args MA.ret).run c7).map Prod.fst).getD []) (J7 ((oV 0 args MA.ret).run c7))))
  (hb:fn.body=some c:=by rfl) (hf:P.funcs[f]?=some fn:=by kernel_rfl) (hnm:(fn.name == "runtime.NumGoroutine")=false:=by kernel_rfl) (hle:Nat.ble ((((oV 0 args MA.ret).run c7).map Prod.fst).getD []).length fn.ntmps=true:=by kernel_rfl) (ht:tK fn.ntmps fn=true:=by kernel_rfl)
  (ha:((oV 0 args MA.ret).run c7).isSome=true:=by kernel_rfl) (hl:ic 0 args ((((oV 0 args MA.ret).run c7).map Prod.fst).getD [])=true:=by kernel_rfl):aL P f args res cA:=by
 obtain ⟨⟨az,st0⟩,h1⟩:=Option.isSome_iff_exists.1 ha;refine IW (m:=m) az hf hb hnm (by simpa [h1] using hle) ht (by rw [h1]; rfl) (by simpa [h1] using hl) ?_
 simpa [h1] using h
end
end Go.Tm
namespace Go.Tm
open Go
section
variable {P:Program} {n:Nat} {ls:List Nat} {Q:Exit->St->Prop} {N:St->Prop} {st:St} {p:Nat->Bool} {ρ:Nat->dX} {ops:Array Oper} {l l':List Oper} {K:St->Prop} {y:Code} {o:Oper}
theorem Hb{α:Type}(f:α->List T)(m:Nat)(xs:List α)(hf:∀ n,(f n).all T.sc=true):(((A.ext false (.sl m (xs.map f))).rows λm rows=>MA.ret (m,rows)).run st).map Prod.fst=some (m,xs.map f):=by
 have:Kp (xs.map f)=true:=by
  unfold Kp;rw [List.all_eq_true];intro r hr;obtain ⟨n,_,rfl⟩:=List.mem_map.1 hr;exact hf n
 simp [A.rows,this,MA.run]
def Sb:Option A->Option Int
 | some (.t (.int _ i))=>some i
 | _=>none
theorem KY{a:Option A}{i:Int}(h:Sb a=some i):∃ k,a=some (.t (.int k i)):=by
 unfold Sb at h
 split at h
 ·rename_i k j; cases h; exact ⟨k,rfl⟩
 ·cases h
def TW(st:St):Option A->Option (List (List T))
 | some (.t (.sl _ rows))=>some rows
 | some .nil=>some []
 | some (.own r)=>match st.rw r with
  | some (.live _ _ rows)=>some rows
  | some (.frz _ rows)=>some rows
  | _=>none
 | _=>none
theorem Q1{a:Option A}{rows:List (List T)}(h:TW st a=some rows):∃ y m,a=some y/\((y.rows λm rows=>MA.ret (m,rows)).run st).map Prod.fst=some (m,rows):=by
 unfold TW at h
 split at h
 ·cases h; exact ⟨_,_,rfl,rfl⟩
 ·cases h; exact ⟨_,_,rfl,rfl⟩
 ·rename_i r
  split at h
  ·rename_i e sz rows hr; cases h; exact ⟨.own r,sz,rfl,by simp [A.rows,MA.run,hr]⟩
  ·rename_i sz rows hr; cases h; exact ⟨.own r,sz,rfl,by simp [A.rows,MA.run,hr]⟩
  ·cases h
 ·cases h
def Q2(nn:Nat)(st:St):Option A->Option (List (List T))
 | some (.t (.sl m rows))=>bif zXw m nn then some rows else none
 | some .nil=>some []
 | some (.own r)=>match st.rw r with
  | some (.live _ m rows)=>bif zXw m nn then some rows else none
  | some (.frz m rows)=>bif zXw m nn then some rows else none
  | _=>none
 | _=>none
theorem PH{nn:Nat}{a:Option A}{rows:List (List T)}(h:Q2 nn st a=some rows):∃ y m,a=some y/\((y.rows λm rows=>MA.ret (m,rows)).run st).map Prod.fst=some (m,rows)/\(m=nn\/rows=[]):=by
 have key:∀ {m:Nat} {rs:List (List T)},(bif zXw m nn then some rs else none)=some rows->m=nn/\rs=rows:=λ{m rs} h=>by
  cases hm:zXw m nn with
  | true=>rw [hm] at h; cases h; exact ⟨zWy hm,rfl⟩
  | false=>rw [hm] at h; cases h
 unfold Q2 at h
 split at h
 ·obtain ⟨rfl,rfl⟩:=key h; exact ⟨_,_,rfl,rfl,.inl rfl⟩
 ·cases h; exact ⟨_,0,rfl,rfl,.inr rfl⟩
 ·rename_i r
  split at h
  ·rename_i e m rs hr; obtain ⟨rfl,rfl⟩:=key h; exact ⟨.own r,m,rfl,by simp [A.rows,MA.run,hr],.inl rfl⟩
  ·rename_i m rs hr; obtain ⟨rfl,rfl⟩:=key h; exact ⟨.own r,m,rfl,by simp [A.rows,MA.run,hr],.inl rfl⟩
  ·cases h
 ·cases h
def No:List Oper->Option Nat
 | o :: _=>o.dst
 | []=>none
theorem BW{k:Nat}(h:l.drop k=o :: l'):l.drop (k+1)=l'/\No (l.drop k)=o.dst:=by
 have h1:=congrArg (List.drop 1) h;rw [List.drop_drop] at h1;exact ⟨h1,by rw [h]; rfl⟩
theorem bH{α β:Type}{r:β}{xs:List α}{i:Int}{g:α->Option β}(k e sz:Nat)(f:α->List T)(h:(cN xs i).bind g=some r){t:TypeId}{a b:Operand}
  (hk:∀ y,g y=some r->cN xs i=some y->ae P p ρ ops (l.drop (k+1)) ((sP P ρ ops k l st).put (No (l.drop k)) (.fadr (f y))) K) (hl:l.drop k=o :: l':=by rfl) (h1:(sF P ρ ops (l.take k) st).isSome=true:=by kernel_rfl)
  (ho:o.op=.indexAddr t a b:=by rfl) (hg:i8 ops (sP P ρ ops k l st) o=some true:=by kernel_rfl) (hf:eO ρ (sP P ρ ops k l st) o=true:=by kernel_rfl) (ha:(sP P ρ ops k l st).eval a=some (.t (.sl sz (xs.map f))):=by kernel_rfl)
  (hb:Sb ((sP P ρ ops k l st).eval b)=some i:=by kernel_rfl) (hu:P.underlying t=some (.slice e):=by kernel_rfl) (hs:i7 P e=some sz:=by kernel_rfl):ae P p ρ ops l st K:=by
 obtain ⟨e1,e2⟩:=BW hl;simp only [e1,e2] at hk;refine aj k h1 ?_;obtain ⟨y,h2,h3⟩:=bind_some h;obtain ⟨kk,hb⟩:=KY hb;rw [hl];exact SQ f xs i ho hg hf ha hb hu hs h2 (hk y h3 h2)
theorem bG{α β:Type}{r:β}{xs:List α}{i:Int}{g:α->Option β}(k e sz rw e':Nat)(f:α->List T)(h:(cN xs i).bind g=some r){t:TypeId}{a b:Operand}
  (hk:∀ y,g y=some r->cN xs i=some y->ae P p ρ ops (l.drop (k+1)) ((sP P ρ ops k l st).put (No (l.drop k)) (.elem rw sz i.toNat 0)) K) (hl:l.drop k=o :: l':=by rfl) (h1:(sF P ρ ops (l.take k) st).isSome=true:=by kernel_rfl)
  (ho:o.op=.indexAddr t a b:=by rfl) (hg:i8 ops (sP P ρ ops k l st) o=some true:=by kernel_rfl) (hf:eO ρ (sP P ρ ops k l st) o=true:=by kernel_rfl) (ha:(sP P ρ ops k l st).eval a=some (.own rw):=by kernel_rfl)
  (hr:(sP P ρ ops k l st).rw rw=some (.live e' sz (xs.map f)):=by kernel_rfl) (hb:Sb ((sP P ρ ops k l st).eval b)=some i:=by kernel_rfl) (hu:P.underlying t=some (.slice e):=by kernel_rfl) (hs:i7 P e=some sz:=by kernel_rfl):ae P p ρ ops l st K:=by
 obtain ⟨e1,e2⟩:=BW hl;simp only [e1,e2] at hk;refine aj k h1 ?_;obtain ⟨y,h2,h3⟩:=bind_some h;obtain ⟨kk,hb⟩:=KY hb;rw [hl];exact SR f xs i rw ho hg hf ha hr hb hu hs h2 (hk y h3 h2)
theorem aN{α:Type}(k e:Nat)(f:α->List T)(xs:List α){t:TypeId}{x:Operand}{args:Array Operand}{ts:Array TypeId}(hk:ae P p ρ ops (l.drop (k+1)) ((sP P ρ ops k l st).put (No (l.drop k)) (.t (.int .i64 xs.length))) K)(hl:l.drop k=o :: l':=by rfl)
  (h1:(sF P ρ ops (l.take k) st).isSome=true:=by kernel_rfl) (ho:o.op=.call { callee:=.builtin .len,args,argTypes:=ts }:=by rfl) (hargs:args.toList=[x]:=by rfl) (hts:ts.toList=[t]:=by rfl) (hg:i8 ops (sP P ρ ops k l st) o=some true:=by kernel_rfl)
  (hf:eO ρ (sP P ρ ops k l st) o=true:=by kernel_rfl) (hx:TW (sP P ρ ops k l st) ((sP P ρ ops k l st).eval x)=some (xs.map f):=by kernel_rfl) (hu:P.underlying t=some (.slice e):=by kernel_rfl):ae P p ρ ops l st K:=by
 obtain ⟨e1,e2⟩:=BW hl;simp only [e1,e2] at hk;refine aj k h1 ?_;obtain ⟨y,m,hx,hy⟩:=Q1 hx;rw [hl];exact ST f xs m ho hargs hts hg hf hx hy hu hk
theorem bh{α β:Type}{r:β}{xs ys:List α}{g:Unit->Option β}{by_:Nat}(k d e nn rw:Nat)(f:α->List T)(h:(c9 (decide ((xs.length+ys.length)*by_<=140737488355328))).bind g=some r){t:TypeId}{ts:Array TypeId}{args:Array Operand}{a b:Operand}
  (hk:g ()=some r->ae P p ρ ops (l.drop (k+1)) (({ sP P ρ ops k l st with rw:=et (et (sP P ρ ops k l st).rw rw (some .gone)) (fd d 0) (some (.live e nn ((xs++ys).map f))) }:St).put (No (l.drop k)) (.own (fd d 0))) K) (hl:l.drop k=o :: l':=by rfl) (h1:(sF P ρ ops (l.take k) st).isSome=true:=by kernel_rfl)
  (ho:o.op=.call { callee:=.builtin .append,args,argTypes:=ts }:=by rfl) (hargs:args.toList=[a,b]:=by rfl) (hts:ts.toList=[t,t]:=by rfl) (hd:o.dst=some d:=by rfl) (hg:i8 ops (sP P ρ ops k l st) o=some true:=by kernel_rfl) (hf:eO ρ (sP P ρ ops k l st) o=true:=by kernel_rfl)
  (ha:(sP P ρ ops k l st).eval a=some (.own rw):=by kernel_rfl) (hr:(sP P ρ ops k l st).rw rw=some (.live e nn (xs.map f)):=by kernel_rfl) (hy:Q2 nn (sP P ρ ops k l st) ((sP P ρ ops k l st).eval b)=some (ys.map f):=by kernel_rfl)
  (hi:CH P t=some (e,nn,by_):=by kernel_rfl) (hne:zXw (fd d 0) rw=false:=by kernel_rfl) (hfree:(sP P ρ ops k l st).rw (fd d 0)=none:=by kernel_rfl):ae P p ρ ops l st K:=by
 obtain ⟨e1,e2⟩:=BW hl;simp only [e1,e2] at hk;refine aj k h1 ?_;obtain ⟨_,h2,h3⟩:=bind_some h;obtain ⟨y,m,hb,hy,hm⟩:=PH hy;rw [hl];exact dO f d m e nn by_ rw xs ys ho hargs hts hd hg hf ha hr hb hy hm hi (of_decide_eq_true (br h2)) hne hfree (hk h3)
theorem cF{α:Type}{y:α}{xs:List α}{i:Nat}(k sz m rw off e':Nat)(gg:Bool)(f:α->List T)(h:xs[i]?=some y){t:TypeId}{a:Operand}(hk:ae P p ρ ops (l.drop (k+1)) ((sP P ρ ops k l st).put (No (l.drop k)) ((DZ gg m ((f y).map A.t) off).getD .undef)) K)(hl:l.drop k=o :: l':=by rfl)(h1:(sF P ρ ops (l.take k) st).isSome=true:=by kernel_rfl)
  (ho:o.op=.load t a:=by rfl) (hg:i8 ops (sP P ρ ops k l st) o=some true:=by kernel_rfl) (hf:eO ρ (sP P ρ ops k l st) o=true:=by kernel_rfl)
  (ha:(sP P ρ ops k l st).eval a=some (.elem rw sz i off):=by kernel_rfl) (hr:(sP P ρ ops k l st).rw rw=some (.live e' sz (xs.map f)):=by kernel_rfl) (hgg:OZ P t=some gg:=by kernel_rfl) (hm:i7 P t=some m:=by kernel_rfl) (hc:(DZ gg m ((f y).map A.t) off).isSome=true:=by kernel_rfl):ae P p ρ ops l st K:=by
 obtain ⟨e1,e2⟩:=BW hl;simp only [e1,e2] at hk;refine aj k h1 ?_;obtain ⟨x,hx⟩:=Option.isSome_iff_exists.1 hc;rw [hx] at hk;rw [hl];exact QV f xs rw i off x ho hg hf ha hr hgg hm h hx hk
end
abbrev V.i(n:Int):V:=.one (.t (.int .i64 n))
abbrev V.b(b:Bool):V:=.one (.t (.bool b))
abbrev fK(l:List T):V:=.agg (l.map .t)
def cw:List Nat->List T->List C
 | 0 :: es,x :: xs=>.t x :: cw es xs
 | (e+1) :: es,.sl sz rows :: xs=>.ow (e+1) sz rows :: cw es xs
 | _ :: es,x :: xs=>.t x :: cw es xs
 | [],xs=>xs.map .t
 | _ :: _,[]=>[]
def V.w(es:List Nat)(l:List T):V:=.agg (cw es l)
section
variable {P:Program} {st:St} {p:Nat->Bool} {ρ:Nat->dX} {ops:Array Oper} {l:List Oper} {K:St->Prop} {o:Oper}
theorem gT.le{f:Nat}{l l':List V}{res:V}(hl:BU l l')(h:gT P f l' res):gT P f l res:=⟨h.1,λw D vs hD hv ht=>h.2 w D vs hD (Ha hl hv) ht⟩
theorem PI(d f:Nat)(caps aa:List A)(vs:List V)(res:V){xf:Operand}{args:Array Operand}{ts:Array TypeId}
  (ho:o.op=.call { callee:=.value xf,args,argTypes:=ts }) (hd:o.dst=some d) (hg:i8 ops st o=some true) (hf:eO ρ st o=true) (hxf:st.eval xf=some (.clo f caps)) (ly:de (args.toList.map st.eval)=some aa)
  (hp:((dQ (aa++caps) MA.ret).run st).map (λq=>zS vs q.1)=some vs) (hc:gT P f vs res) (hr:((V.toA d (fd d 0) res MA.ret).run st).isSome=true)
  (hk:ae P p ρ ops l ((J7 ((V.toA d (fd d 0) res MA.ret).run st)).put o.dst (Vy ((V.toA d (fd d 0) res MA.ret).run st))) K):ae P p ρ ops (o :: l) st K:=by
 obtain ⟨⟨vs0,st1⟩,h1,h2⟩:=Option.map_eq_some_iff.1 hp;have hle:BU vs0 (zS vs vs0):=xB vs vs0;simp only at h2;rw [h2] at hle;exact ay d f caps aa vs0 res ho hd hg hf hxf ly (by rw [h1]; rfl) (hc.le hle) hr hk
end
section
variable {P:Program} {n:Nat} {ls:List Nat} {Q:Exit->St->Prop} {st:St} {p:Nat->Bool} {ρ:Nat->dX} {ops:Array Oper} {l:List Oper} {K:St->Prop} {y:Code}
theorem Pm.le{f:Nat}{v v' x x':List V}{res:V}{cA:List (List C)}(hv:BU v v')(hx:BU x x')(h:Pm P f v' x' res cA):Pm P f v x res cA :=
 ⟨h.1,λw F D vs us bs hF hD h1 h2 hn hf ht=>(h.2 w F D vs us bs hF hD (Ha hv h1) (Ha hx h2) hn hf ht).mono λe w' ⟨v,F',bv,bo,a1,a2,a3,a4,a5,a6,a7,a8⟩=>⟨v,F',bv,bo,a1,a2,a3,a4,a5,a6,R6 a7 hv,a8⟩⟩
theorem VP{f:FuncId}{c:Code}{args xs:List V}{res:V}{cA:List (List C)}(fn:Func)(m:Bool)
  (h:Wp P fn.ntmps (eG 0 args) c (xz P m fn args res cA) (eA (((((oV 0 args MA.ret).run c7).map Prod.fst).getD [])++xs.map V.toX) (J7 ((oV 0 args MA.ret).run c7))))
  (hb:fn.body=some c:=by rfl) (hf:P.funcs[f]?=some fn:=by kernel_rfl) (hnm:(fn.name == "runtime.NumGoroutine")=false:=by kernel_rfl) (hle:Nat.ble (((((oV 0 args MA.ret).run c7).map Prod.fst).getD [])++xs.map V.toX).length fn.ntmps=true:=by kernel_rfl) (ht:tK fn.ntmps fn=true:=by kernel_rfl)
  (ha:((oV 0 args MA.ret).run c7).isSome=true:=by kernel_rfl) (hl:ic 0 args ((((oV 0 args MA.ret).run c7).map Prod.fst).getD [])=true:=by kernel_rfl):Pm P f args xs res cA:=by
 obtain ⟨⟨az,st0⟩,h1⟩:=Option.isSome_iff_exists.1 ha;rw [h1] at h hle hl;exact Py hf hb hnm (Nat.le_of_ble_eq_true hle) ht h1 hl h
theorem f5{α β:Type}{r:β}{x:Option α}{f:α->Option β}{fid:Nat}{vs us:List V}{res:α->V}{cA:α->List (List C)}(m:Bool)(k d:Nat)(aa xs:List A)(h:x.bind f=some r)(hc:∀ y,x=some y->Pm P fid vs us (res y) (cA y))
  (hk:∀ y,f y=some r->ae P p ρ ops (l.drop (k+1)) (VA m p d aa (res y) (cA y) (sP P ρ ops k l st)) K)
  (h1:(sF P ρ ops (l.take k) st).isSome=true:=by kernel_rfl) (h2:Eb P ρ ops (sP P ρ ops k l st) (l.drop k)=some (fid,aa++xs,d):=by kernel_rfl)
  (h3:((kx m p aa MA.ret).run (sP P ρ ops k l st)).map (λq=>zS vs q.1)=some vs:=by kernel_rfl)
  (h0:((dQ xs MA.ret).run (J7 ((kx m p aa MA.ret).run (sP P ρ ops k l st)))).map (λq=>zS us q.1)=some us:=by kernel_rfl)
  (h4:∀ y,((dC d (dP aa) (cA y) (V.toA d (fd d 0) (res y) MA.ret)).run (J7 ((kx m p aa MA.ret).run (sP P ρ ops k l st)))).isSome=true:=by intro y; kernel_rfl):ae P p ρ ops l st K:=by
 refine aj k h1 ?_
 cases x with
 | none=>cases h
 | some y =>
  have h5:=hc y rfl;have h6:=hk y h;have h7:=h4 y
  clear hc hk h4
  simp only [sP,VA] at h2 h3 h6 h7 h0;generalize St.or (sF P ρ ops (l.take k) st)=st1 at *;obtain ⟨o,l',xf,args,ts,az',caps,e1,e2,e3,e4,e5,e6,e7,e8⟩:=yx h2;simp only at e5 e6 e8;have e9:l.drop (k+1)=l':=by rw [<- List.drop_drop,e1]; rfl
  rw [e9] at h6;rw [e1];obtain ⟨⟨vs0,st2⟩,h8,h9⟩:=Option.map_eq_some_iff.1 h3;have h10:BU vs0 vs:=by rw [<- h9]; exact xB vs vs0
  rw [h8] at h6 h7 h0;simp only [J7,Vy] at h6 h7 h0;obtain ⟨⟨us0,st4⟩,h12,h13⟩:=Option.map_eq_some_iff.1 h0;have h14:BU us0 us:=by rw [<- h13]; exact xB us us0
  have hst:st4=st2:=by
   have:=(m3 (dQ xs MA.ret) (qs (D:=⟨λ_=>True,λ_=>False,λ_=>True,λ_=>False⟩) (pF (λ_=>trivial) _) (λ_=>trivial)) h12).1;exact St.ext this.tm (funext λs=>this.ob s (λh=>h)) (funext λs=>this.rw s (λh=>h))
  subst hst
  cases h11:(dC d (dP aa) (cA y) (V.toA d (fd d 0) (res y) MA.ret)).run st4 with
  | none=>rw [h11] at h7; cases h7
  | some q =>
   obtain ⟨z,st3⟩:=q;rw [h11] at h6;exact ae.step (.run z st3 e2 e3 (.callX m d fid xf args ts az' caps aa xs vs0 us0 st4 (res y) (cA y) e4 e5 e6 e7 e8.symm h8 h12 (h5.le h10 h14) h11)) (by rw [e5]; exact h6)
end
end Go.Tm
namespace Go.Tm
open Go
section
variable {P:Program} {n:Nat} {ls:List Nat} {Q:Exit->St->Prop} {st:St} {x y:Code}
theorem BX(R:St->Prop)(J:∀ s,R s->Wp P n ls y Q s)(h:Wp P n ls x (iG R Q) st):Wp P n ls (.seq x y) Q st:=Wp.seq (h.mono λe s hq=>by
 cases e with
 | normal=>exact J s hq
 | _=>exact hq)
theorem Wp.L(R:Nat->St->Prop)(h0:∀ s,¬ R 0 s)(hs:∀ k s,R (k+1) s->Wp P n ls x (iG (R k) Q) s){k:Nat}(h:R k st):Wp P n ls (.loop x) Q st:=by
 refine Wp.loop (k:=k) ?_
 induction k generalizing st with
 | zero=>exact absurd h (h0 st)
 | succ k ih =>
  refine (hs k st h).mono λe s hq=>?_
  cases e with
  | normal=>exact ih hq
  | _=>exact hq
end
end Go.Tm
namespace Go.Tm
open Go
def N1(P:Program):Nat->List FuncId->List FuncId->Nat->List FuncId×List FuncId×Nat
 | 0,todo,seen,m=>(todo,seen,m)
 | n+1,[],seen,m=>([],seen,m)
 | n+1,f :: todo,seen,m=>if m.testBit f then N1 P n todo seen m else N1 P n ((P.funcs[f]?).elim [] P.leadsTo++todo) (f :: seen) (m ||| 2 ^ f)
def WV(seen:List FuncId)(m:Nat):Prop:=∀ f:Nat,seen.contains f=m.testBit f
theorem UX{seen:List FuncId}{m:Nat}(h:WV seen m)(f:Nat):WV (f :: seen) (m ||| 2 ^ f):=λg=>by
 rw [List.contains_cons,h g,Nat.testBit_or,Nat.testBit_two_pow,Bool.or_comm]
 congr 1
 by_cases hg:g=f
 ·simp [hg]
 ·have:¬ f=g:=λh=>hg h.symm;simp [hg,this]
theorem KZ(P:Program):∀ (a b:Nat) (todo seen:List FuncId) (m:Nat),WV seen m->P.closureVia (a+b) todo seen=P.closureVia b (N1 P a todo seen m).1 (N1 P a todo seen m).2.1
 | 0,b,todo,seen,m,h=>by rw [zWV]; rfl
 | a+1,b,[],seen,m,h=>by
  rw [show a+1+b=(a+b)+1 by omega];show seen.reverse=P.closureVia b [] seen
  cases b <;> rfl
 | a+1,b,f :: todo,seen,m,h=>by
  rw [show a+1+b=(a+b)+1 by omega];rw [show P.closureVia ((a+b)+1) (f :: todo) seen=if seen.contains f then P.closureVia (a+b) todo seen else P.closureVia (a+b) ((P.funcs[f]?).elim [] P.leadsTo++todo) (f :: seen) from rfl,
   show N1 P (a+1) (f :: todo) seen m=if m.testBit f then N1 P a todo seen m else N1 P a ((P.funcs[f]?).elim [] P.leadsTo++todo) (f :: seen) (m ||| 2 ^ f) from rfl,h f]
  cases m.testBit f with
  | true=>exact KZ P a b todo seen m h
  | false=>exact KZ P a b _ _ _ (UX h f)
def Np(P:Program):Nat:=1+(P.funcs.toList.map λg=>(P.leadsTo g).length+1).sum
theorem Q3{P:Program}{f:FuncId}{a m:Nat}{L:List FuncId}(h:N1 P a [f] [] 0=([],L.reverse,m))(hF:Nat.ble a (Np P)=true):P.closure f=L:=by
 have hle:=Nat.le_of_ble_eq_true hF;unfold Program.closure;show P.closureVia (Np P) [f] []=L;rw [show Np P=a+(Np P - a) by omega,KZ P a _ _ _ 0 (λg=>by simp),h]
 cases Np P - a <;> simp [Program.closureVia]
theorem Q4{P:Program}{f:FuncId}{L:List FuncId}{l:List String}(h:P.closure f=L)(h2:(L.filterMap λg=>(P.funcs[g]?).bind λfn=>if fn.ours || fn.body.isNone || fn.name == "runtime.NumGoroutine" then some fn.name else none)=l):P.inPlace f=l:=by
 unfold Program.inPlace; rw [h,h2]
theorem Mr{P:Program}{f:FuncId}{L:List FuncId}{b:Bool}(h:P.closure f=L)(h2:(L.any λg=>(P.funcs[g]?).any λfn=>match fn.body with | some c=>c.unfollowed | none=>entryCalls fn)=b):P.unfollowed f=b:=by
 unfold Program.unfollowed; rw [h]; exact h2
theorem N2{P:Program}{f:FuncId}{L:List FuncId}{l:List String}(h:P.closure f=L)(h2:((((L.flatMap λg=>((P.funcs[g]?).bind (·.body)).elim [] Code.globalsNamed).eraseDups).filterMap (λg=>(P.globals[g]?).map (·.name)) ++
  L.filterMap λg=>(P.funcs[g]?).bind λfn=>if fn.body.isNone then entryReads.lookup fn.name else none).eraseDups)=l):P.varsNamed f=l:=by
 unfold Program.varsNamed; rw [h,h2]
end Go.Tm
namespace Go.Tm
open Go.RowKit
section
variable {P:Program} {E:En} {g:Gh} {st st':St} {a:Act} {w w':World} {n:Nat}
theorem VR.dw{O R:Nat->Prop}{x:A}{v:Value}(h:VR w g O R x v)(hsh:g.sh=false)(hs:yd g.D g.dw w'):VR w { g with dw:=w' } O R x v:=by
 induction h with
 | t x v h=>exact .t x v h
 | nil=>exact .nil
 | own r hr=>exact VR.own (g:={ g with dw:=w' }) r hr
 | agg l vs hl h ih=>exact .agg l vs hl ih
 | tup l vs hl h ih=>exact .tup l vs hl ih
 | obj s off hs=>exact VR.obj (g:={ g with dw:=w' }) s off hs
 | elem r sz i off b n c hr he=>exact VR.elem (g:={ g with dw:=w' }) r sz i off b n c hr he
 | win r lo m n c c' ad a' hr he hm hp=>exact VR.win (g:={ g with dw:=w' }) r lo m n c c' ad a' hr he hm hp
 | sub r sz lo n c c' ad a' hr he hp=>exact VR.sub (g:={ g with dw:=w' }) r sz lo n c c' ad a' hr he hp
 | fadr cells b off u hF hx hr=>exact VR.fadr (g:={ g with dw:=w' }) cells b off u hF hx hr
 | nn sz rows v h hv=>exact VR.nn (g:={ g with dw:=w' }) sz rows v h hv
 | clo f caps vs hl h ih=>exact .clo f caps vs hl ih
 | undef v=>exact .undef v
 | raw v=>exact .raw v
 | osl s a n c hs ha=>exact VR.osl (g:={ g with dw:=w' }) s a n c hs ha
 | shp x v h=>exact VR.shp (g:={ g with dw:=w' }) x v h
 | ext s x v hs' h =>
  rw [hsh] at hs';subst hs';exact VR.ext (g:={ g with dw:=w' }) false x v hsh (h.rd hs λ_ h=>h).sd
 | exa s cells b off u hs' hD hx hr =>
  rw [hsh] at hs';subst hs';exact VR.exa (g:={ g with dw:=w' }) false cells b off u hsh hD (λj x h=>by rw [wU hs hD]; exact hx j x h) λj x h=>((hr j x h).rd hs λ_ h=>h).sd
structure W8 (E:En) (g:Gh) (st:St) (b:Nat):Prop where
 f:¬ g.F b
 o:∀ s,st.O s->g.ob s≠b
 r:∀ r,st.L r->(g.rw r).ownBlock≠some b
 d:¬ E.D b
theorem iQ.unk{b:Nat}(hS:iQ E g n st a w)(hb:b < E.w0.heap.size/\¬ E.X b/\¬ E.F0 b/\¬ E.D b):W8 E g st b:=by
 obtain ⟨h1,h2,h3,h4⟩:=hb;refine ⟨λh=>?_,λs hO he=>?_,λr hL he=>?_,h4⟩
 ·rcases (hS.mem.F b h).2.1 h1 with h | h
  ·exact h3 h
  ·exact h2 h
 ·obtain ⟨cells,hcells⟩:=Option.isSome_iff_exists.1 hO;obtain ⟨_,_,_,_,_,_,h5⟩:=hS.mem.ob s cells hcells;rw [he] at h5;rcases h5 with h5 | h5
  ·omega
  ·exact h2 h5
 ·obtain ⟨e,sz,rows,hL⟩:=hL;obtain ⟨_,_,_,_,h5⟩:=hS.mem.row r _ hL;rcases (h5 b he).2 with h5 | h5
  ·omega
  ·exact h2 h5
theorem iQ.still{k:Nat}(hS:iQ E g n st a w)(hsh:E.sh=false)(h1:k < E.w0.heap.size)(h2:¬ E.X k):w.heap[k]?=E.w0.heap[k]?:=by
 rcases hS.mem.frame k h1 h2 with h | ⟨h,_⟩
 ·exact h
 ·rw [hS.mem.dep0.1.2.2,hsh] at h; cases h
section
variable {w00:World} {X0 D0:Nat->Prop} {b m:Nat} {c x y:Code} {Q:Exit->St->List (List Int)->Prop} {ks:List (List Int)}
variable {p:Nat->Bool} {ρ:Nat->dX} {ops:Array Oper}
theorem Kb{Q:Exit->Act->World->Prop}[Tb P E]{l2:List Nat}(hd:∀ (i:Nat) (o:Oper),ops[i]?=some o->nm n o=true):∀ {l:List Nat} {st:St} {g:Gh} {a:Act} {w:World},iQ E g n st a w->KK P p ρ ops l st st' ->
  (∀ g a w,iQ E g n st' a w->wpOps P ops Q l2 a w)->wpOps P ops Q (l++l2) a w
 | [],st,g,a,w,hS,h,hQ=>hQ g a w (by have h:st'=st:=h; rw [h]; exact hS)
 | i :: l,st,g,a,w,hS,⟨b,h1,h2⟩,hQ=>by
  rw [zXk,wpOps_cons];exact xy hS (hd i) h1 λg' a' w' hS'=>Kb hd hS' h2 hQ
end
end
end Go.Tm
namespace Go.Tm
open Go.RowKit
section
variable {P:Program} {E:En} {g:Gh} {st st':St} {a:Act} {w w':World} {n:Nat} {w00:World} {X0 D0:Nat->Prop} {b m:Nat} {c x y:Code} {Q:Exit->St->List (List Int)->Prop} {ks:List (List Int)}
variable {p:Nat->Bool} {ρ:Nat->dX} {ops:Array Oper}
theorem UY{s:Nat}(hS:iQ E g n st a w)(hO:st.O s):g.ob s < w.heap.size/\(E.w0.heap.size<=g.ob s\/E.X (g.ob s)):=by
 obtain ⟨cells,hcells⟩:=Option.isSome_iff_exists.1 hO;obtain ⟨_,_,h1,_,_,_,h5⟩:=hS.mem.ob s cells hcells;exact ⟨(Array.getElem?_eq_some_iff.1 h1).1,h5⟩
theorem N3{r k:Nat}(hS:iQ E g n st a w)(hL:st.L r)(hk:(g.rw r).ownBlock=some k):k < w.heap.size/\(E.w0.heap.size<=k\/E.X k):=by
 obtain ⟨e,sz,rows,hL⟩:=hL;obtain ⟨_,ho,_,_,h5⟩:=hS.mem.row r _ hL;exact ⟨(ho.lt k hk).2,(h5 k hk).2⟩
theorem PJ{l:List Oper}{l2:List Oper}(hops:ops.toList=l++l2)(hr:Bz P p ρ ops l st st'):KK P p ρ ops (zXX 0 l.length) st st':=by
 have key:∀ (l:List Oper) (k:Nat) (st:St),(∀ j,j < l.length->l[j]?=ops[k+j]?)->Bz P p ρ ops l st st'->KK P p ρ ops (zXX k l.length) st st':=by
  intro l
  induction l with
  | nil=>intro k st _ h; exact h
  | cons o l ih =>
   intro k st hl ⟨q,h1,h2⟩;refine ⟨q,?_,ih (k+1) q (λj hj=>by have:=hl (j+1) (by simpa using hj); simpa [zYg,Nat.add_comm 1 j] using this) h2⟩;have:=hl 0 (by simp);simp at this;unfold rx;rw [<- this];exact h1
 refine key l 0 st (λj hj=>?_) hr;rw [zWV,<- zWK,hops,r0 hj]
theorem Kc(hd:ops.toList.all (nm n)=true):∀ (i:Nat) (o:Oper),ops[i]?=some o->nm n o=true:=λi o ho=>List.all_eq_true.1 hd o (by simpa using Array.mem_of_getElem? ho)
end
end Go.Tm
