/- The abstract machine over data trees, and that it tells the truth of the translated code. -/
import Derived.Orders
import Derived.ChangeOld
import Derived.ChangeArms
import Derived.Carry
import Derived.OpenShut
import Derived.IntWalk
import Derived.JoinedOf
import Derived.MapKept
import Derived.Test.YtdcoelkflgpfgaaGreatCFnEdgesF1
set_option linter.unusedVariables false
set_option linter.unusedSimpArgs false
open Array renaming getElem?_append_left->zYz,getElem?_append_right->zYG,getElem?_eq_getElem->zWg,getElem?_replicate->zZQ,getElem?_toList->zQj,replicate->zZJ,toArray_toList->zWY
open Bool renaming and_eq_true->sY,false_eq_true->zQz,not_eq_true'->zYJ,or_eq_true->zYk,true_and->zWx
open Int renaming tmod_eq_emod_of_nonneg->zXV,toNat->sX
open List renaming append_nil->zXQ,drop_eq_getElem_cons->zXH,eq_nil_of_length_eq_zero->sk,foldl_cons->zYH,getElem?_append->zWH,getElem?_append_left->rg,getElem?_append_right->zQQ,getElem?_cons_zero->zWV,getElem?_drop->zQG,getElem?_eq_getElem->tw,getElem?_map->zQX,getElem?_of_mem->zYh,getElem?_take->zQH,head?->zYV,head?_drop->zXW,length_append->zQw,length_cons->zQW,length_map->zXx,map_congr_left->zWh,map_cons->zWq,mem_append->zWK,mem_append_left->zZg,mem_cons->zXy,mem_cons_of_mem->zQx,mem_cons_self->zQv,mem_map->zXh,mem_of_getElem?->zQY,mem_singleton->zQq,nil_append->zQy,nodup_append->zXJ,range->zWy,range'->zWz,range_eq_range'->zWk,replicate->zQg,size_toArray->zYK,tail->zYq,tail_drop->zXK,take_append_drop->zXj
open Nat renaming add_assoc->zYg,beq->zXY,beq_refl->zZq,eq_of_beq_eq_true->zWw,le_refl->zWj,le_trans->zWW,lt_of_lt_of_le->zQK,zero_add->zWJ,zero_le->zZH
open Option renaming bind_some->wk,getD_some->zYZ,map_eq_some_iff->zWv,map_some->zWQ
namespace Go.Tm
open Go.RowKit
section
variable {P:Program} {E:En} [Tb P E] {g:Gh} {st st':St} {a:Act} {w:World}
def Gh.all(g:Gh)(st:St)(b:Nat):Prop:=g.F b\/(∃ r,st.L r/\(g.rw r).ownBlock=some b)\/(g.sh=false/\g.D b)
theorem eE.all_lt(hM:eE E g st w){b:Nat}(hb:g.all st b):b < w.heap.size:=by
 rcases hb with hb | ⟨r,hL,hb⟩ | ⟨_,hb⟩
 ·exact (hM.F b hb).1
 ·exact hM.row_lt hL hb
 ·exact zQK (hM.dep b hb).2.1 hM.sizes
theorem Mp{α:Type}{x:A}{k:T->MA α}{y:α}{v:Value}(hM:eE E g st w)(hv:VR w g st.O st.R x v)(h:(x.peekT k).run st=some (y,st')):∃ t,(k t).run st=some (y,st')/\Rd w (g.all st) t v:=by
 cases hv with
 | t x v h1=>exact ⟨x,h,h1.mono (λ_ _=>rfl) (λ_ h=>.inl h)⟩
 | ext s x v hs h1 =>
  cases s with
  | true=>simp [A.peekT,MA.run] at h
  | false=>exact ⟨x,h,h1.rd (hM.now hs) (λ_ h=>.inr (.inr ⟨hs,h⟩))⟩
 | nil=>exact ⟨_,h,.sl0 _ _ _ (by first | assumption | exact λ_=>rfl | (intro h; cases h))⟩
 | own r hr =>
  simp only [A.peekT,MA.run] at h
  cases hx:st.rw r with
  | none=>simp [hx,MA.run] at h
  | some x =>
   cases x with
   | live e sz rows =>
    simp only [hx] at h;exact ⟨_,h,(hM.row r _ hx).rd _ (λ_ h=>.inl h) (λb hb=>.inr (.inl ⟨r,⟨e,sz,rows,hx⟩,hb⟩))⟩
   | frz sz rows =>
    simp only [hx] at h;exact ⟨_,h,Rd.mono (hM.row r _ hx) (λ_ _=>rfl) (λ_ h=>.inl h)⟩
   | gone=>simp [hx,MA.run] at h
 | _=>simp [A.peekT,MA.run] at h
theorem Jz{α:Type}:∀ {l:List A} {k:List T->MA α} {y:α} {vs:List Value},eE E g st w->vs.length=l.length->(∀ (j:Nat) (x:A),l[j]?=some x->∃ u,vs[j]?=some u/\VR w g st.O st.R x u)->(Er l k).run st=some (y,st') ->
  ∃ ts,(k ts).run st=some (y,st')/\I0 w (g.all st) (ts.map .t) vs []
 | [],k,y,vs,hM,hl,hv,h=>by
  have:vs=[]:=sk hl;subst this;exact ⟨[],h,.nil⟩
 | x :: l,k,y,vs,hM,hl,hv,h=>by
  obtain ⟨v,vs,rfl⟩:∃ v vs',vs=v :: vs':=by
   cases vs with
   | nil=>simp at hl
   | cons v vs=>exact ⟨v,vs,rfl⟩
  obtain ⟨u,hu,hx⟩:=hv 0 x rfl;simp at hu;subst hu;obtain ⟨t,h1,hr⟩:=Mp hM hx h;obtain ⟨ts,h2,hc⟩:=Jz hM (by simpa using hl) (λj y hy=>by
   obtain ⟨u,hu,hx⟩:=hv (j+1) y (by simpa using hy);exact ⟨u,by simpa using hu,hx⟩) h1
  exact ⟨t :: ts,h2,.cons _ _ [] _ _ [] (.t _ _ hr) hc⟩
mutual
theorem Sa{α:Type}:∀ (x:A) {k:V->MA α} {y:α} {v:Value},eE E g st w->VR w g st.O st.R x v->(ib x k).run st=some (y,st')->∃ c,(k c).run st=some (y,st')/\VV w (g.all st) c v []:=by
 intro x k y v hM hv h;unfold ib at h
 split at h
 ·rename_i l
  cases hv with
  | agg l vs hl hx =>
   obtain ⟨ts,h1,hc⟩:=Jz hM hl.symm (λj x hj=>⟨_,tw (by rw [<- hl]; exact (List.getElem?_eq_some_iff.1 hj).1),hx j x _ hj (tw (by rw [<- hl]; exact (List.getElem?_eq_some_iff.1 hj).1))⟩) h;exact ⟨_,h1,.agg _ vs [] hc⟩
 ·rename_i ts
  cases hv with
  | fadr cells b off u hF hx hr=>exact ⟨_,h,.fptr ts b off u (.inl hF) hx (λj x hj=>(hr j x hj).mono (λ_ _=>rfl) (λ_ h=>.inl h))⟩
 ·rename_i f caps
  cases hv with
  | clo f caps vs hl hx =>
   obtain ⟨cs,h1,hc⟩:=tU caps hM hl.symm (λj x hj=>⟨_,tw (by rw [<- hl]; exact (List.getElem?_eq_some_iff.1 hj).1),hx j x _ hj (tw (by rw [<- hl]; exact (List.getElem?_eq_some_iff.1 hj).1))⟩) h;exact ⟨_,h1,.clo f cs vs [] hc⟩
 ·obtain ⟨t,h1,hr⟩:=Mp hM hv h;exact ⟨_,h1,.one _ v [] (.t _ _ hr)⟩
theorem tU{α:Type}:∀ (l:List A) {k:List V->MA α} {y:α} {vs:List Value},eE E g st w->vs.length=l.length->(∀ (j:Nat) (x:A),l[j]?=some x->∃ u,vs[j]?=some u/\VR w g st.O st.R x u)->(dz l k).run st=some (y,st')->∃ cs,(k cs).run st=some (y,st')/\AG w (g.all st) cs vs []
 | [],k,y,vs,hM,hl,hv,h=>by
  have:vs=[]:=sk hl;subst this;unfold dz at h;exact ⟨[],h,.nil⟩
 | x :: l,k,y,vs,hM,hl,hv,h=>by
  obtain ⟨v,vs,rfl⟩:∃ v vs',vs=v :: vs':=by
   cases vs with
   | nil=>simp at hl
   | cons v vs=>exact ⟨v,vs,rfl⟩
  obtain ⟨u,hu,hx⟩:=hv 0 x rfl;simp at hu;subst hu;unfold dz at h;obtain ⟨c,h1,hc⟩:=Sa x hM hx h;obtain ⟨cs,h2,hcs⟩:=tU l hM (by simpa using hl) (λj y hy=>by
   obtain ⟨u,hu,hx⟩:=hv (j+1) y (by simpa using hy);exact ⟨u,by simpa using hu,hx⟩) h1
  exact ⟨c :: cs,h2,.cons _ _ [] _ _ [] hc hcs⟩
end
theorem Rd.sc{F F':Nat->Prop}{x:T}{v:Value}(h:Rd w F x v)(hx:x.sc=true):Rd w F' x v:=by
 cases h with
 | int k n=>exact .int k n
 | bool b=>exact .bool b
 | str s=>exact .str s
 | nilf=>exact .nilf
 | hdr a n c=>exact .hdr a n c
 | sl0 | sl=>cases hx
theorem CV.plain{F F':Nat->Prop}{c:C}{v:Value}{bs:List Nat}(h:CV w F c v bs)(hc:c.plain):CV w F' c v bs:=by
 cases h with
 | t x v h=>exact .t x v (h.sc hc)
 | nil=>exact .nil
 | ow e sz rows v inner ho hr =>
  exact .ow e sz rows v inner ho ⟨hr.size,hr.len,λi row j x hi hj=>by
   obtain ⟨u,hu,h1,h2⟩:=hr.rd i row j x hi hj;exact ⟨u,hu,h1,h2.sc (hc row (zQY hi) x (zQY hj))⟩⟩
theorem I0.plain{F F':Nat->Prop}{cs:List C}{vs:List Value}{bs:List Nat}(h:I0 w F cs vs bs)(hc:∀ c∈cs,c.plain):I0 w F' cs vs bs:=by
 induction h with
 | nil=>exact .nil
 | cons c v b cs vs bs h hs ih=>exact .cons c v b cs vs bs (h.plain (hc c (by simp))) (ih (λc h=>hc c (by simp [h])))
mutual
theorem VV.plain{F F':Nat->Prop}:∀ {x:V} {v:Value} {bs:List Nat},VV w F x v bs->x.plain->VV w F' x v bs
 | _,_,_,.one c v bs h,hp=>.one c v bs (h.plain (by unfold V.plain at hp; exact hp))
 | _,_,_,.agg l vs bs h,hp=>.agg l vs bs (h.plain (by unfold V.plain at hp; exact hp))
 | _,_,_,.tup l vs bs h,hp=>.tup l vs bs (h.plain (by unfold V.plain at hp; exact hp))
 | _,_,_,.ptr cells b arr e vs bs h1 h2 h3 h,hp=>by unfold V.plain at hp; exact hp.elim
 | _,_,_,.fptr cells b off u h1 h2 h3,hp=>by unfold V.plain at hp; exact hp.elim
 | _,_,_,.clo f caps vs bs h,hp=>by unfold V.plain at hp; exact hp.elim
theorem AG.plain{F F':Nat->Prop}:∀ {l:List V} {vs:List Value} {bs:List Nat},AG w F l vs bs->sU l->AG w F' l vs bs
 | _,_,_,.nil,hp=>.nil
 | _,_,_,.cons x v b l vs bs h hs,hp=>.cons x v b l vs bs (h.plain (by unfold sU at hp; exact hp.1)) (hs.plain (by unfold sU at hp; exact hp.2))
end
theorem Ol{n d f:Nat}{o:Oper}{xf:Operand}{args:Array Operand}{ts:Array TypeId}{caps as:List A}{vs:List V}{res:V}{x:A}
  (hS:gF E g n st a w) (ho:o.op=.call { callee:=.value xf,args,argTypes:=ts }) (hf:st.eval xf=some (.clo f caps)) (has:cT (args.toList.map st.eval)=some as)
  (hp:(dz (as++caps) MA.ret).run st=some (vs,st)) (hc:aH P f vs res []) (hpl:res.plain) (hr:(V.toA d (eD d 0) res MA.ret).run st=some (x,st')) :
  u6 P o a w λv w'=>∃ g',u5 E g st w x st' v g' w':=by
 have hM:=hS.mem;obtain ⟨hcl,hcc⟩:=hc;have hvf:=bJ hS hf;generalize hvv:a.eval xf=vf at hvf
 cases hvf with
 | clo f caps vcaps hl hx =>
  refine iF ho hvv hcl ?_;obtain ⟨ha1,ha2⟩:=xU hS has;obtain ⟨cs,h1,hVV⟩:=tU (vs:=args.toList.map a.eval++vcaps) (as++caps) hM (by simp [<- ha1,hl]) (λj y hj=>by
   rw [zWH] at hj
   split at hj
   ·rename_i hlt;have hlt':j < (args.toList.map a.eval).length:=by rw [<- ha1]; exact hlt
    exact ⟨_,by rw [rg hlt']; exact tw hlt',ha2 j y _ hj (tw hlt')⟩
   ·rename_i hge;have hlt:j - as.length < vcaps.length:=by rw [<- hl]; exact (List.getElem?_eq_some_iff.1 hj).1
    exact ⟨_,by rw [zQQ (by rw [<- ha1]; omega),<- ha1]; exact tw hlt,hx _ y _ hj (tw hlt)⟩) hp
  obtain ⟨rfl,_⟩:=eF h1;refine (hcc w (g.all st) _ [] (λb hb=>?_) hVV List.nodup_nil (by simp) (hM.tbW λb _ _ _ h=>by cases h)).mono λe w' ⟨v,F',bv,bo,he,hcalm,hsame,hFF,hF',hvr,hO,hnd,hex⟩=>⟨v,he,?_⟩
  ·exact hM.all_lt hb
  obtain ⟨hM2,hE2⟩:=hM.grow hcalm (λb hb=>hsame b hb (by simp));have hbv:∀ b∈bv,w.heap.size<=b:=λb hb=>((hex b (by simp [hb])).2).resolve_right (by simp);obtain ⟨x',st3,g3,hG,h7,hvx⟩:=tT (w:=w') res hM2 (hvr.plain (F':=g.F) hpl) (List.nodup_append.1 hnd).1 (λb hb=>by
   obtain ⟨h8,h9,h10⟩:=sS hM (hbv b hb);exact ⟨h8,h9,h10,.inl (zWW hM.sizes (hbv b hb))⟩) hr
  obtain ⟨rfl,rfl⟩:=eF h7;exact ⟨g3,hG.mem,hvx,hE2.trans hG.ext,hG.tm⟩
def Td(P:Program)(f:FuncId)(args:List V)(off:Nat)(cj:List (List C)):Prop :=
 sT P f/\∀ (w:World) (F:Nat->Prop) (vs:List Value) (bs:List Nat),(∀ b,F b->b < w.heap.size)->AG w F args vs bs->bs.Nodup->(∀ b∈bs,¬ F b)->Jq P w (λb=>b∈bs) ->
  Calls P f vs.toArray w λe w'=>∃ v F' bo b0,e=.returned v/\vs.head?=some (.pointer (some ⟨b0,0,none⟩))/\v=.pointer (some ⟨b0,off,none⟩)/\oV w w'/\(∀ b,b < w.heap.size->b∉bs->w'.heap[b]?=w.heap[b]?)/\(∀ b,F b->F' b) /\
   (∀ b,F' b->b < w'.heap.size/\(b < w.heap.size->F b\/b∈bs)/\(F b\/Wr w' b))/\pJ w' F' args vs cj bo/\bo.Nodup/\∀ b∈bo,¬ F' b/\(w.heap.size<=b\/b∈bs)
theorem Om{n d f:Nat}{m:Bool}{p:Nat->Bool}{o:Oper}{xf:Operand}{args:Array Operand}{ts:Array TypeId}{caps as:List A}{vs:List V}{st1:St}{cj:List (List C)}{x:A}{s off:Nat}
  (hS:gF E g n st a w) (ho:o.op=.call { callee:=.value xf,args,argTypes:=ts }) (hf:st.eval xf=some (.clo f caps)) (has:cT (args.toList.map st.eval)=some as)
  (hp:(jQ m p (as++caps) MA.ret).run st=some (vs,st1)) (hc:Td P f vs off cj) (hhd:(as++caps).head?=some (.obj s 0)) (hr:(dg d (dy (as++caps)) cj (MA.ret (.obj s off))).run st1=some (x,st')) :
  u6 P o a w λv w'=>∃ g',u5 E g st w x st' v g' w':=by
 have hM:=hS.mem;obtain ⟨hcl,hcc⟩:=hc;have hvf:=bJ hS hf;generalize hvv:a.eval xf=vf at hvf
 cases hvf with
 | clo f caps vcaps hl hx =>
  refine iF ho hvv hcl ?_;obtain ⟨ha1,ha2⟩:=xU hS has;have hus:∀ (j:Nat) (y:A),(as++caps)[j]?=some y->∃ v,(args.toList.map a.eval++vcaps)[j]?=some v/\VR w g st.O st.R y v:=by
   intro j y hj;rw [zWH] at hj
   split at hj
   ·rename_i hlt;have hlt':j < (args.toList.map a.eval).length:=by rw [<- ha1]; exact hlt
    exact ⟨_,by rw [rg hlt']; exact tw hlt',ha2 j y _ hj (tw hlt')⟩
   ·rename_i hge;have hlt:j - as.length < vcaps.length:=by rw [<- hl]; exact (List.getElem?_eq_some_iff.1 hj).1
    exact ⟨_,by rw [zQQ (by rw [<- ha1]; omega),<- ha1]; exact tw hlt,hx _ y _ hj (tw hlt)⟩
  obtain ⟨cs,st1',g1,bs,hM1,hE1,hL1,h1,hVV,hT,hA,hsl⟩:=tS (vs:=args.toList.map a.eval++vcaps) (as++caps) hM (by simp [<- ha1,hl]) hus hp;obtain ⟨rfl,rfl⟩:=eF h1;have hbsX:∀ b∈bs,b < E.w0.heap.size->E.X b:=λb hb hlt=>by
   rcases hT.of b hb with ⟨r,h2,_,h4⟩ | ⟨s,⟨c,cs,h2⟩,_,h4⟩
   ·rcases (hM.row_nf h2 h4).2 with h5 | h5
    ·omega
    ·exact h5
   ·rcases (hM.ob_nf (s:=s) (by simp [St.O,h2])).2 with h5 | h5
    ·omega
    ·exact h4 ▸ h5
  refine (hcc w g1.F _ bs (λb hb=>(hM1.F b hb).1) hVV hT.nodup hT.nf (hM.tbW λb h1 h2 _ h3=>h2 (hbsX b h3 h1))).mono λe w' ⟨v,F',bo,b0,he,hhead,hveq,hcalm,hsame,hFF,hF',hO,hnd0,hex0⟩=>⟨v,he,?_⟩;obtain ⟨bv,hbv⟩:∃ bv:List Nat,bv=[]:=⟨[],rfl⟩;have hnd:(bv++bo).Nodup:=by rw [hbv]; exact hnd0
  have hex:∀ b∈bv++bo,¬ F' b/\(w.heap.size<=b\/b∈bs):=by rw [hbv]; exact hex0
  -- the caller's memory behind the call
  have hbsrow:∀ b∈bs,∀ r,st1.L r->(g1.rw r).ownBlock≠some b:=λb hb r hr he=>by
   rw [hL1.rw] at he;rcases hT.of b hb with ⟨r',h2,h3,h4⟩ | ⟨s,⟨c,cs,h2⟩,_,h4⟩
   ·exact h3 (hM.rowne r r' b (hL1.L r hr) h2 he h4 ▸ hr)
   ·exact hM.rowob r s (hL1.L r hr) (by simp [St.O,h2]) (h4 ▸ he)
  have hbsob:∀ b∈bs,∀ s,st1.O s->g1.ob s=b->st1.ob s=some []/\s∈dy (as++caps):=λb hb s hs he=>by
   rw [hL1.ob] at he;have hs':st.O s:=(hL1.O s).1 hs;rcases hT.of b hb with ⟨r',h2,h3,h4⟩ | ⟨s',⟨c,cs,h2⟩,h3,h4⟩
   ·exact absurd (he ▸ h4) (hM.rowob r' s h2 hs')
   ·have:=hM.obne s s' hs' (by simp [St.O,h2]) (he.trans h4.symm);subst this;exact ⟨h3,hsl s (by rw [h3,h2]; simp)⟩
  have hF0:∀ b,b < w.heap.size->F' b->g1.F b\/b∈bs:=λb h2 h3=>(hF' b h3).2.1 h2;have hA1:oX g1 (as++caps) vs (args.toList.map a.eval++vcaps):=hA.congr' hL1.ob;have hexF:∀ b∈bs,F' b->False\/True:=λ_ _ _=>.inr trivial;have hlentF:∀ s,s∈dy (as++caps)->g1.ob s∈bo:=pJ.mem hA1 hO;obtain ⟨hM2,hE2⟩:=hM1.step (w':=w') (g':={ g1 with F:=F' }) (st':=st1) hcalm (λb=>b∈bs) (λb h2 h3=>hsame b h2 h3) (λb hb=>hT.nf b hb) (λb h2 h3=>hbsX b h3 h2) hFF
   (λb h2 h3=>⟨(hF' b h2).1,λhlt=>(hF0 b (zQK hlt hM1.sizes) h2).elim (λh4=>absurd h4 h3) (λh4=>.inr (hbsX b h4 hlt)),.inr ((hF' b h2).2.2.resolve_left h3)⟩) (λ_ h=>⟨h,rfl⟩) (λ_ h=>⟨h,rfl⟩)
   (λs cells hs=>by
    have hOs:st1.O s:=by simp [St.O,hs]
    by_cases hb:g1.ob s∈bs
    ·obtain ⟨h5,h6⟩:=hbsob _ hb s hOs rfl;rw [hs] at h5
     cases h5
     obtain ⟨arr,e,hh⟩:=BP hA1 hO s h6;refine .inr ⟨arr,e,hh,by simp,by simp,?_,(hM1.ob_nf hOs).2⟩;exact (hex _ (List.mem_append.2 (.inr (hlentF s h6)))).1
    ·refine .inl ⟨hs,hb,λhf=>?_⟩;rcases hF0 _ (hM1.ob_lt hOs) hf with h5 | h5
     ·exact (hM1.ob_nf hOs).1 h5
     ·exact hb h5) hM1.obne
   (λr x hr=>.inl ⟨hr,λhL b hb=>⟨λhm=>hbsrow b hm r hL hb,λhf=>by
    rcases hF0 b (hM1.row_lt hL hb) hf with h5 | h5
    ·exact (hM1.row_nf hL hb).1 h5
    ·exact hbsrow b h5 r hL hb⟩⟩) hM1.rowne hM1.rowob
  have hI:Inv E { g1 with F:=F' } st1 (dy (as++caps)) (bo++bv):=by
   have hm:∀ x,x∈bo++bv->x∈bv++bo:=λx hx=>by
    rcases List.mem_append.1 hx with h | h <;> simp [h]
   refine ⟨?_,λb hb=>(hex b (hm b hb)).1,λb hb=>?_,λb hb r hr he=>?_,λb hb s hs he=>?_⟩
   ·rw [zXJ] at hnd ⊢;exact ⟨hnd.2.1,hnd.1,λx hx y hy h=>hnd.2.2 y hy x hx h.symm⟩
   ·rcases (hex b (hm b hb)).2 with h5 | h5
    ·exact .inl (zWW hM1.sizes h5)
    ·by_cases hlt:b < E.w0.heap.size
     ·exact .inr (hbsX b h5 hlt)
     ·exact .inl (by omega)
   ·rcases (hex b (hm b hb)).2 with h5 | h5
    ·exact absurd (hM1.row_lt hr he) (by omega)
    ·exact hbsrow b h5 r hr he
   ·rcases (hex b (hm b hb)).2 with h5 | h5
    ·exact absurd (hM1.ob_lt hs) (by have:g1.ob s=b:=he; omega)
    ·exact (hbsob b h5 s hs he).2
  have hA2:oX { g1 with F:=F' } (as++caps) vs (args.toList.map a.eval++vcaps):=hA1.congr' (g:=g1) (g1:={ g1 with F:=F' }) rfl;obtain ⟨st2,g2,hM3,hE3,hF3,ht3,h6,hI3⟩:=pK (w:=w') hM2 hA2 hO hI hr;obtain ⟨rfl,rfl⟩:=eF h6;have hext:=(hE1.trans hE2).trans hE3;have hobj:st.O s/\(args.toList.map a.eval++vcaps)[0]?=some (.pointer (some ⟨g.ob s,0,none⟩)):=by
   obtain ⟨u,hu1,hu2⟩:=hus 0 (.obj s 0) (by rw [<- List.head?_eq_getElem?]; exact hhd)
   cases hu2 with
   | obj _ _ hs=>exact ⟨hs,hu1⟩
  have hb0:g.ob s=b0:=by
   rw [List.head?_eq_getElem?,hobj.2] at hhead;injection hhead with h; injection h with h; injection h with h; injection h
  obtain ⟨hO2,hob2⟩:=hext.O s hobj.1;refine ⟨g2,hM3,?_,hext,ht3.trans hL1.tm⟩;rw [hveq,<- hb0,<- hob2];exact .obj s off hO2
def pe(P:Program)(f:FuncId)(args:List V)(res:V):Prop :=
 sT P f/\∀ (w:World) (D:Nat->Prop) (vs:List Value),(∀ b,D b->b < w.heap.size)->AG w D args vs []->Jq P w (λ_=>False) ->
  Calls P f vs.toArray w λe w'=>∃ v F' bv,e=.returned v/\oV w w'/\(∀ b,b < w.heap.size->w'.heap[b]?=w.heap[b]?) /\
   (∀ b,F' b->b < w'.heap.size/\w.heap.size<=b/\Wr w' b)/\VV w' F' res v bv/\bv.Nodup/\∀ b∈bv,¬ F' b/\w.heap.size<=b
theorem Oo{n d f:Nat}{o:Oper}{xf:Operand}{args:Array Operand}{ts:Array TypeId}{caps as:List A}{vs:List V}{res:V}{x:A}
  (hS:gF E g n st a w) (ho:o.op=.call { callee:=.value xf,args,argTypes:=ts }) (hf:st.eval xf=some (.clo f caps)) (has:cT (args.toList.map st.eval)=some as)
  (hp:(dz (as++caps) MA.ret).run st=some (vs,st)) (hc:pe P f vs res) (hr:(V.toA d (eD d 0) res MA.ret).run st=some (x,st')) :
  u6 P o a w λv w'=>∃ g',u5 E g st w x st' v g' w':=by
 have hM:=hS.mem;obtain ⟨hcl,hcc⟩:=hc;have hvf:=bJ hS hf;generalize hvv:a.eval xf=vf at hvf
 cases hvf with
 | clo f caps vcaps hl hx =>
  refine iF ho hvv hcl ?_;obtain ⟨ha1,ha2⟩:=xU hS has;obtain ⟨cs,h1,hVV⟩:=tU (vs:=args.toList.map a.eval++vcaps) (as++caps) hM (by simp [<- ha1,hl]) (λj y hj=>by
   rw [zWH] at hj
   split at hj
   ·rename_i hlt;have hlt':j < (args.toList.map a.eval).length:=by rw [<- ha1]; exact hlt
    exact ⟨_,by rw [rg hlt']; exact tw hlt',ha2 j y _ hj (tw hlt')⟩
   ·rename_i hge;have hlt:j - as.length < vcaps.length:=by rw [<- hl]; exact (List.getElem?_eq_some_iff.1 hj).1
    exact ⟨_,by rw [zQQ (by rw [<- ha1]; omega),<- ha1]; exact tw hlt,hx _ y _ hj (tw hlt)⟩) hp
  obtain ⟨rfl,_⟩:=eF h1;refine (hcc w (g.all st) _ (λb hb=>hM.all_lt hb) hVV (hM.tbW λ_ _ _ _ h=>h)).mono λe w' ⟨v,F',bv,he,hcalm,hsame,hF',hvr,hnd,hex⟩=>⟨v,he,?_⟩;obtain ⟨hM2,hE2⟩:=hM.step (w':=w') (g':={ g with F:=λb=>g.F b\/F' b }) (st':=st) hcalm (λ_=>False) (λb h1 _=>hsame b h1) (λ_ h=>h.elim) (λ_ _ h=>h.elim) (λ_ h=>.inl h)
   (λb h1 h2=>by
    obtain ⟨h3,h4,h5⟩:=hF' b (h1.resolve_left h2);exact ⟨h3,λhlt=>(by have:=hM.sizes; omega),.inr h5⟩) (λ_ h=>⟨h,rfl⟩) (λ_ h=>⟨h,rfl⟩)
   (λs cells hs=>.inl ⟨hs,id,λhf=>by
    have hs':st.O s:=by simp [St.O,hs]
    rcases hf with hf | hf
    ·exact (hM.ob_nf hs').1 hf
    ·have:=hM.ob_lt hs'; have:=(hF' _ hf).2.1; omega⟩) hM.obne
   (λr x hr=>.inl ⟨hr,λhL b hb'=>⟨id,λhf=>by
    rcases hf with hf | hf
    ·exact (hM.row_nf hL hb').1 hf
    ·have:=hM.row_lt hL hb'; have:=(hF' _ hf).2.1; omega⟩⟩) hM.rowne hM.rowob
  obtain ⟨x',st3,g3,hG,h7,hvx⟩:=tT (w:=w') res hM2 (hvr.mono (λ_ _=>rfl) (λ_ h=>.inr h) (λ_ _=>rfl)) hnd (λb hb=>by
   obtain ⟨h8,h9,h10⟩:=sS hM (hex b hb).2;exact ⟨λh=>h.elim h8 (hex b hb).1,h9,h10,.inl (zWW hM.sizes (hex b hb).2)⟩) hr
  obtain ⟨rfl,rfl⟩:=eF h7;exact ⟨g3,hG.mem,hvx,hE2.trans hG.ext,hG.tm⟩
def Lv:Nat->Prop:=λ_=>False
def gM(w:World)(D:Nat->Prop):Gh:={ F:=Lv,ob:=λ_=>0,rw:=λ_=>.nilFunc,D:=D,dw:=w,sh:=true }
def A.mk1:A->Bool
 | .t x=>x.sc
 | .ext true _=>true
 | .undef=>true
 | _=>false
def A.mk:A->Bool
 | .agg l=>l.all A.mk1
 | a=>a.mk1
def A.isX:A->Bool
 | .ext true _=>true
 | _=>false
def A.hasX:A->Bool
 | .agg l=>l.any A.isX
 | a=>a.isX
def WL(P:Program)(f:FuncId)(as:List A)(n:T):Prop :=
 n.sc=true/\sT P f/\∀ (w:World) (D:Nat->Prop) (vs:List Value),(∀ b,D b->b < w.heap.size/\Wr w b)->vs.length=as.length ->
  (∀ (j:Nat) (x:A),as[j]?=some x->∃ u,vs[j]?=some u/\VR w (gM w D) Lv Lv x u)->Jq P w D ->
  Calls P f vs.toArray w λe w'=>∃ v,e=.returned v/\Rd w' Lv n v/\oV w w'/\(∀ b,b < w.heap.size->¬ D b->w'.heap[b]?=w.heap[b]?)/\∀ b,D b->KS w w' b
theorem Te{O R:Nat->Prop}{x:A}{v:Value}(hM:eE E g st w)(hs:g.sh=true)(h:VR w g O R x v)(hk:x.mk1=true):VR w (gM w g.D) Lv Lv x v:=by
 cases h with
 | t x v h=>exact .t x v (h.sc hk)
 | ext s x v hs' h =>
  rw [hs] at hs';subst hs';exact .ext true x v rfl (h.ks λb hb=>hM.nowK hs hb)
 | undef v=>exact .undef v
 | _=>simp [A.mk1] at hk
theorem V7{O R:Nat->Prop}{x:A}{v:Value}(hM:eE E g st w)(hs:g.sh=true)(h:VR w g O R x v)(hk:x.mk=true):VR w (gM w g.D) Lv Lv x v:=by
 cases x with
 | agg l =>
  cases h with
  | agg l vs hl h=>exact .agg l vs hl λi x v hi hv=>Te hM hs (h i x v hi hv) (List.all_eq_true.1 hk x (zQY hi))
 | _=>exact Te hM hs h hk
theorem Uw{O R:Nat->Prop}{x:A}{v:Value}(h:VR w g O R x v)(hk:x.hasX=true):g.sh=true:=by
 have key:∀ {x:A} {v:Value},VR w g O R x v->x.isX=true->g.sh=true:=by
  intro x v h hk
  cases h with
  | ext s x v hs' h=>cases s with
   | true=>exact hs'
   | false=>cases hk
  | _=>cases hk
 cases x with
 | agg l =>
  cases h with
  | agg l vs hl h =>
   obtain ⟨x,hx,hk⟩:=List.any_eq_true.1 hk;obtain ⟨i,hi⟩:=zYh hx;have hlt:i < vs.length:=by rw [<- hl]; exact (List.getElem?_eq_some_iff.1 hi).1
   exact key (h i x _ hi (tw hlt)) hk
 | _=>exact key h hk
theorem Oq{n f:Nat}{o:Oper}{xf:Operand}{args:Array Operand}{ts:Array TypeId}{as:List A}{r:T}
  (hS:gF E g n st a w) (ho:o.op=.call { callee:=.value xf,args,argTypes:=ts }) (hf:st.eval xf=some (.clo f [])) (has:cT (args.toList.map st.eval)=some as)
  (hk:as.all A.mk=true) (hx:as.any A.hasX=true) (hc:WL P f as r):u6 P o a w λv w'=>∃ g',u5 E g st w (.t r) st v g' w':=by
 have hM:=hS.mem;obtain ⟨hsc,hcl,hcc⟩:=hc;have hvf:=bJ hS hf;generalize hvv:a.eval xf=vf at hvf;obtain ⟨ha1,ha2⟩:=xU hS has;have hsh:g.sh=true:=by
  obtain ⟨x,hxm,hxx⟩:=List.any_eq_true.1 hx;obtain ⟨i,hi⟩:=zYh hxm;have hlt:i < (args.toList.map a.eval).length:=by rw [<- ha1]; exact (List.getElem?_eq_some_iff.1 hi).1
  exact Uw (ha2 i x _ hi (tw hlt)) hxx
 cases hvf with
 | clo f caps vcaps hl hx' =>
  have:vcaps=[]:=sk hl.symm;subst this;refine iF ho hvv hcl ?_;rw [zXQ];refine (hcc w g.D (args.toList.map a.eval) (λb hb=>?_) ha1.symm (λj x hj=>?_) (hM.tbW λb _ _ h h2=>h (by obtain ⟨h5,_,h6⟩:=hM.dep0.1; exact ⟨h6 ▸ hsh,h5 ▸ h2⟩))).mono λe w' ⟨v,he,hr,hcalm,hsame,hks⟩=>⟨v,he,?_⟩
  ·exact ⟨zQK (hM.dep b hb).2.1 hM.sizes,(hM.nowK hsh hb).wr⟩
  ·have hlt:j < (args.toList.map a.eval).length:=by rw [<- ha1]; exact (List.getElem?_eq_some_iff.1 hj).1
   exact ⟨_,tw hlt,V7 hM hsh (ha2 j x _ hj (tw hlt)) (List.all_eq_true.1 hk x (zQY hj))⟩
  obtain ⟨hM2,hE2⟩:=hM.stepD hsh hcalm hsame hks;exact ⟨g,hM2,.t _ _ (hr.sc hsc),hE2,rfl⟩
def WM(P:Program)(f:FuncId)(e sz:Nat)(rows:List (List T))(args:List V)(res:T)(rows':List (List T)):Prop :=
 res.sc=true/\sT P f/\∀ (w:World) (F:Nat->Prop) (v:Value) (vs:List Value) (inner:List Value),(∀ b,F b->b < w.heap.size)->w.ownsRow 0 e sz v rows.length inner->zt w F sz rows inner ->
  (∀ b,v.ownBlock=some b->¬ F b)->AG w F args vs []->Jq P w (λb=>v.ownBlock=some b) ->
  Calls P f (v :: vs).toArray w λex w'=>∃ u inner',ex=.returned u/\Rd w' Lv res u/\oV w w'/\(∀ b,b < w.heap.size->v.ownBlock≠some b->w'.heap[b]?=w.heap[b]?) /\
   w'.ownsRow 0 e sz v rows'.length inner'/\zt w' F sz rows' inner'
theorem Ot{n f r e sz:Nat}{rows rows':List (List T)}{o:Oper}{xf:Operand}{args:Array Operand}{ts:Array TypeId}{as:List A}{vs:List V}{res:T}
  (hS:gF E g n st a w) (ho:o.op=.call { callee:=.value xf,args,argTypes:=ts }) (hf:st.eval xf=some (.clo f [])) (has:cT (args.toList.map st.eval)=some (.own r :: as))
  (hrw:st.rw r=some (.live e sz rows)) (hp:(dz as MA.ret).run st=some (vs,st)) (hpl:sU vs) (hc:WM P f e sz rows vs res rows') :
  u6 P o a w λv w'=>∃ g',u5 E g st w (.t res) { st with rw:=dV st.rw r (some (.live e sz rows')) } v g' w':=by
 have hM:=hS.mem;obtain ⟨hsc,hcl,hcc⟩:=hc;have hvf:=bJ hS hf;generalize hvv:a.eval xf=vf at hvf;obtain ⟨ha1,ha2⟩:=xU hS has;have hL:st.L r:=⟨e,sz,rows,hrw⟩
 cases hvf with
 | clo f caps vcaps hl hx' =>
  have:vcaps=[]:=sk hl.symm;subst this;refine iF ho hvv hcl ?_;rw [zXQ];generalize args.toList.map a.eval=us at ha1 ha2
  match us,ha1 with
  | u0 :: us,ha1 =>
   have h0:=ha2 0 (.own r) u0 rfl rfl
   cases h0 with
   | own _ hR =>
   obtain ⟨cs,h1,hVV⟩:=tU (vs:=us) as hM (by simpa using ha1.symm) (λj y hj=>by
    have hlt:j < us.length:=by
     have:=(List.getElem?_eq_some_iff.1 hj).1;simp at ha1; omega
    exact ⟨_,tw hlt,ha2 (j+1) y _ (by simpa using hj) (by simp)⟩) hp
   obtain ⟨rfl,_⟩:=eF h1;obtain ⟨inner,hown,hRC,_⟩:=(hM.row r _ hrw).rcs;refine (hcc w g.F (g.rw r) us inner (λb hb=>(hM.F b hb).1) hown hRC (λb hb=>(hM.row_nf hL hb).1) (hVV.plain hpl) (hM.tbW λb h1 h2 _ h3=>(hM.row_nf hL h3).2.elim (λh=>absurd h1 (Nat.not_lt.2 h)) h2)).mono λex w' ⟨u,inner',he,hu,hcalm,hsame,hown',hRC'⟩=>⟨u,he,?_⟩;obtain ⟨hM2,hE2⟩:=hM.set_row hcalm r _ e sz rows' hrw hL hsame (hRC'.rowAt (E:=E) (g:=g) hown' (λb hb=>hM.row_nf hL hb));exact ⟨g,hM2,.t _ _ (hu.sc hsc),hE2,rfl⟩
end
section
variable {P:Program} {E:En} [Tb P E] {g:Gh} {st st':St} {a:Act} {w:World}
def P2(P:Program)(f:FuncId)(args xs:List V)(res:V)(cj:List (List C)):Prop :=
 sT P f/\∀ (w:World) (F D:Nat->Prop) (vs us:List Value) (bs:List Nat),(∀ b,F b->b < w.heap.size)->(∀ b,D b->b < w.heap.size/\b∉bs)->AG w F args vs bs->AG w D xs us []->bs.Nodup->(∀ b∈bs,¬ F b)->Jq P w (λb=>b∈bs) ->
  Calls P f (vs++us).toArray w λe w'=>∃ v F' bv bo,e=.returned v/\oV w w'/\(∀ b,b < w.heap.size->b∉bs->w'.heap[b]?=w.heap[b]?)/\(∀ b,F b->F' b) /\
   (∀ b,F' b->b < w'.heap.size/\(b < w.heap.size->F b\/b∈bs)/\(F b\/Wr w' b))/\VV w' F' res v bv/\pJ w' F' args vs cj bo/\(bv++bo).Nodup/\∀ b∈bv++bo,¬ F' b/\(w.heap.size<=b\/b∈bs)
theorem Ou{n d f:Nat}{m:Bool}{p:Nat->Bool}{o:Oper}{xf:Operand}{args:Array Operand}{ts:Array TypeId}{az caps as xs:List A}{vs us:List V}{st1:St}{res:V}{cj:List (List C)}{x:A}
  (hS:gF E g n st a w) (ho:o.op=.call { callee:=.value xf,args,argTypes:=ts }) (hf:st.eval xf=some (.clo f caps)) (has:cT (args.toList.map st.eval)=some az) (hcat:az++caps=as++xs)
  (hp:(jQ m p as MA.ret).run st=some (vs,st1)) (hq:(dz xs MA.ret).run st1=some (us,st1)) (hc:P2 P f vs us res cj) (hr:(dg d (dy as) cj (V.toA d (eD d 0) res MA.ret)).run st1=some (x,st')) :
  u6 P o a w λv w'=>∃ g',u5 E g st w x st' v g' w':=by
 have hM:=hS.mem;obtain ⟨hcl,hcc⟩:=hc;have hvf:=bJ hS hf;generalize hvv:a.eval xf=vf at hvf
 cases hvf with
 | clo f caps vcaps hl hx =>
  refine iF ho hvv hcl ?_;obtain ⟨ha1,ha2⟩:=xU hS has;generalize hval:args.toList.map a.eval++vcaps=vals;have hv:∀ (j:Nat) (y:A),(as++xs)[j]?=some y->∃ u,vals[j]?=some u/\VR w g st.O st.R y u:=λj y hj=>by
   rw [<- hcat,zWH] at hj;rw [<- hval]
   split at hj
   ·rename_i hlt;have hlt':j < (args.toList.map a.eval).length:=by rw [<- ha1]; exact hlt
    exact ⟨_,by rw [rg hlt']; exact tw hlt',ha2 j y _ hj (tw hlt')⟩
   ·rename_i hge;have hlt:j - az.length < vcaps.length:=by rw [<- hl]; exact (List.getElem?_eq_some_iff.1 hj).1
    exact ⟨_,by rw [zQQ (by rw [<- ha1]; omega),<- ha1]; exact tw hlt,hx _ y _ hj (tw hlt)⟩
  have hvl:vals.length=as.length+xs.length:=by
   rw [<- hval,zQw,<- ha1,<- hl,<- zQw,hcat,zQw]
  rw [<- zXj as.length vals];obtain ⟨cs,st1',g1,bs,hM1,hE1,hL1,h1,hVV,hT,hA,hsl⟩:=tS (vs:=vals.take as.length) as hM (by simp [hvl]) (λj y hj=>by
   have hlt:j < as.length:=(List.getElem?_eq_some_iff.1 hj).1;obtain ⟨u,h5,h6⟩:=hv j y (by rw [rg hlt]; exact hj);exact ⟨u,by rw [zQH,if_pos hlt]; exact h5,h6⟩) hp
  obtain ⟨rfl,rfl⟩:=eF h1;have hbsX:∀ b∈bs,b < E.w0.heap.size->E.X b:=λb hb hlt=>by
   rcases hT.of b hb with ⟨r,h2,_,h4⟩ | ⟨s,⟨c,cs,h2⟩,_,h4⟩
   ·rcases (hM.row_nf h2 h4).2 with h5 | h5
    ·omega
    ·exact h5
   ·rcases (hM.ob_nf (s:=s) (by simp [St.O,h2])).2 with h5 | h5
    ·omega
    ·exact h4 ▸ h5
  have hbsrow:∀ b∈bs,∀ r,st1.L r->(g1.rw r).ownBlock≠some b:=λb hb r hr he=>by
   rw [hL1.rw] at he;rcases hT.of b hb with ⟨r',h2,h3,h4⟩ | ⟨s,⟨c,cs,h2⟩,_,h4⟩
   ·exact h3 (hM.rowne r r' b (hL1.L r hr) h2 he h4 ▸ hr)
   ·exact hM.rowob r s (hL1.L r hr) (by simp [St.O,h2]) (h4 ▸ he)
  have hbsob:∀ b∈bs,∀ s,st1.O s->g1.ob s=b->st1.ob s=some []/\s∈dy as:=λb hb s hs he=>by
   rw [hL1.ob] at he;have hs':st.O s:=(hL1.O s).1 hs;rcases hT.of b hb with ⟨r',h2,h3,h4⟩ | ⟨s',⟨c,cs,h2⟩,h3,h4⟩
   ·exact absurd (he ▸ h4) (hM.rowob r' s h2 hs')
   ·have:=hM.obne s s' hs' (by simp [St.O,h2]) (he.trans h4.symm);subst this;exact ⟨h3,hsl s (by rw [h3,h2]; simp)⟩
  obtain ⟨us',h9,hUU⟩:=tU (vs:=vals.drop as.length) xs hM1 (by simp [hvl]) (λj y hj=>by
   obtain ⟨u,h5,h6⟩:=hv (as.length+j) y (by rw [zQQ (by omega)]; simpa using hj);exact ⟨u,by rw [zQG]; exact h5,h6.mono hE1⟩) hq
  obtain ⟨rfl,_⟩:=eF h9;have hall:∀ b,g1.all st1 b->b < w.heap.size/\b∉bs:=λb hb=>⟨hM1.all_lt hb,λhbs=>by
   rcases hb with h5 | ⟨r,h5,h6⟩ | ⟨_,h5⟩
   ·exact hT.nf b hbs h5
   ·exact hbsrow b hbs r h5 h6
   ·obtain ⟨_,h6,h7,_⟩:=hM1.dep b h5;exact h7 (hbsX b hbs h6)⟩
  refine (hcc w g1.F (g1.all st1) _ _ bs (λb hb=>(hM1.F b hb).1) hall hVV hUU hT.nodup hT.nf (hM.tbW λb h1 h2 _ h3=>h2 (hbsX b h3 h1))).mono λe w' ⟨v,F',bv,bo,he,hcalm,hsame,hFF,hF',hvr,hO,hnd,hex⟩=>⟨v,he,?_⟩
  -- the caller's memory behind the call
  have hF0:∀ b,b < w.heap.size->F' b->g1.F b\/b∈bs:=λb h2 h3=>(hF' b h3).2.1 h2;have hA1:oX g1 as vs (vals.take as.length):=hA.congr' hL1.ob;have hexF:∀ b∈bs,F' b->False\/True:=λ_ _ _=>.inr trivial;have hlentF:∀ s,s∈dy as->g1.ob s∈bo:=pJ.mem hA1 hO;obtain ⟨hM2,hE2⟩:=hM1.step (w':=w') (g':={ g1 with F:=F' }) (st':=st1) hcalm (λb=>b∈bs) (λb h2 h3=>hsame b h2 h3) (λb hb=>hT.nf b hb) (λb h2 h3=>hbsX b h3 h2) hFF
   (λb h2 h3=>⟨(hF' b h2).1,λhlt=>(hF0 b (zQK hlt hM1.sizes) h2).elim (λh4=>absurd h4 h3) (λh4=>.inr (hbsX b h4 hlt)),.inr ((hF' b h2).2.2.resolve_left h3)⟩) (λ_ h=>⟨h,rfl⟩) (λ_ h=>⟨h,rfl⟩)
   (λs cells hs=>by
    have hOs:st1.O s:=by simp [St.O,hs]
    by_cases hb:g1.ob s∈bs
    ·obtain ⟨h5,h6⟩:=hbsob _ hb s hOs rfl;rw [hs] at h5
     cases h5
     obtain ⟨arr,e,hh⟩:=BP hA1 hO s h6;refine .inr ⟨arr,e,hh,by simp,by simp,?_,(hM1.ob_nf hOs).2⟩;exact (hex _ (List.mem_append.2 (.inr (hlentF s h6)))).1
    ·refine .inl ⟨hs,hb,λhf=>?_⟩;rcases hF0 _ (hM1.ob_lt hOs) hf with h5 | h5
     ·exact (hM1.ob_nf hOs).1 h5
     ·exact hb h5) hM1.obne
   (λr x hr=>.inl ⟨hr,λhL b hb=>⟨λhm=>hbsrow b hm r hL hb,λhf=>by
    rcases hF0 b (hM1.row_lt hL hb) hf with h5 | h5
    ·exact (hM1.row_nf hL hb).1 h5
    ·exact hbsrow b h5 r hL hb⟩⟩) hM1.rowne hM1.rowob
  have hI:Inv E { g1 with F:=F' } st1 (dy as) (bo++bv):=by
   have hm:∀ x,x∈bo++bv->x∈bv++bo:=λx hx=>by
    rcases List.mem_append.1 hx with h | h <;> simp [h]
   refine ⟨?_,λb hb=>(hex b (hm b hb)).1,λb hb=>?_,λb hb r hr he=>?_,λb hb s hs he=>?_⟩
   ·rw [zXJ] at hnd ⊢;exact ⟨hnd.2.1,hnd.1,λx hx y hy h=>hnd.2.2 y hy x hx h.symm⟩
   ·rcases (hex b (hm b hb)).2 with h5 | h5
    ·exact .inl (zWW hM1.sizes h5)
    ·by_cases hlt:b < E.w0.heap.size
     ·exact .inr (hbsX b h5 hlt)
     ·exact .inl (by omega)
   ·rcases (hex b (hm b hb)).2 with h5 | h5
    ·exact absurd (hM1.row_lt hr he) (by omega)
    ·exact hbsrow b h5 r hr he
   ·rcases (hex b (hm b hb)).2 with h5 | h5
    ·exact absurd (hM1.ob_lt hs) (by have:g1.ob s=b:=he; omega)
    ·exact (hbsob b h5 s hs he).2
  have hA2:oX { g1 with F:=F' } as vs (vals.take as.length):=hA1.congr' (g:=g1) (g1:={ g1 with F:=F' }) rfl;obtain ⟨st2,g2,hM3,hE3,hF3,ht3,h6,hI3⟩:=pK (w:=w') hM2 hA2 hO hI hr;obtain ⟨x',st3,g3,hG,h7,hvx⟩:=tT (w:=w') res hM3 (by rw [hF3]; exact hvr) hI3.nodup (λb hb=>⟨hI3.F b hb,λs hs he=>by have:=hI3.ob b hb s hs he; simp at this,hI3.row b hb,hI3.X b hb⟩) h6;obtain ⟨rfl,rfl⟩:=eF h7;exact ⟨g3,hG.mem,hvx,((hE1.trans hE2).trans hE3).trans hG.ext,hG.tm.trans (ht3.trans hL1.tm)⟩
end
def A.tC:A->Option C
 | .t x=>some (.t x)
 | _=>none
def Rr:List A->Option (List C)
 | []=>some []
 | a :: r=>match a.tC,Rr r with | some c,some cs=>some (c :: cs) | _,_=>none
def A.tV:A->Option V
 | .t x=>some (.one (.t x))
 | .agg l=>(Rr l).map .agg
 | _=>none
def Ov:List A->Option (List V)
 | []=>some []
 | a :: r=>match a.tV,Ov r with | some c,some cs=>some (c :: cs) | _,_=>none
section
variable {w:World} {g:Gh} {O R:Nat->Prop}
theorem V8{a:A}{c:C}{u:Value}(h:a.tC=some c)(hv:VR w g O R a u):CV w g.F c u []:=by
 cases a <;> simp only [A.tC,Option.some.injEq,reduceCtorEq] at h
 subst h
 cases hv with
 | t _ _ h=>exact .t _ _ h
theorem Tf:∀ {l:List A} {cs:List C} {us:List Value},Rr l=some cs->l.length=us.length->(∀ (j:Nat) (x:A) (u:Value),l[j]?=some x->us[j]?=some u->VR w g O R x u)->I0 w g.F cs us []
 | [],cs,us,h,hl,_=>by
  cases h
  have:us=[]:=sk hl.symm;subst this;exact .nil
 | a :: l,cs,us,h,hl,hv=>by
  unfold Rr at h
  split at h
  ·rename_i c cs' h1 h2
   cases h
   cases us with
   | nil=>simp at hl
   | cons u us =>
    exact .cons c u [] cs' us [] (V8 h1 (hv 0 a u rfl rfl)) (Tf h2 (by simpa using hl) λj x u h3 h4=>hv (j+1) x u (by simpa using h3) (by simpa using h4))
  ·cases h
theorem V9{a:A}{c:V}{u:Value}(h:a.tV=some c)(hv:VR w g O R a u):VV w g.F c u []:=by
 cases a <;> simp only [A.tV,Option.some.injEq,zWv,reduceCtorEq] at h
 ·subst h
  cases hv with
  | t _ _ h=>exact .one _ _ [] (.t _ _ h)
 ·obtain ⟨cs,h1,rfl⟩:=h
  cases hv with
  | agg l vs hl hx=>exact .agg cs vs [] (Tf h1 hl hx)
theorem Tg:∀ {l:List A} {cs:List V} {us:List Value},Ov l=some cs->l.length=us.length->(∀ (j:Nat) (x:A) (u:Value),l[j]?=some x->us[j]?=some u->VR w g O R x u)->AG w g.F cs us []
 | [],cs,us,h,hl,_=>by
  cases h
  have:us=[]:=sk hl.symm;subst this;exact .nil
 | a :: l,cs,us,h,hl,hv=>by
  unfold Ov at h
  split at h
  ·rename_i c cs' h1 h2
   cases h
   cases us with
   | nil=>simp at hl
   | cons u us =>
    exact .cons c u [] cs' us [] (V9 h1 (hv 0 a u rfl rfl)) (Tg h2 (by simpa using hl) λj x u h3 h4=>hv (j+1) x u (by simpa using h3) (by simpa using h4))
  ·cases h
end
section
variable {P:Program} {E:En} [Tb P E] {g:Gh} {st st':St} {a:Act} {w:World}
def Vl(P:Program)(f:FuncId)(e:TypeId)(ts:List T)(rows:List (List T))(args:List V)(lo m:Nat):Prop :=
 sT P f/\∀ (w:World) (F:Nat->Prop) (v:Value) (us vs inner:List Value),(∀ b,F b->b < w.heap.size)->w.ownsRow 0 e 1 v rows.length inner->zt w F 1 rows inner->(∀ b,v.ownBlock=some b->¬ F b) ->
  us.length=ts.length->(∀ (j:Nat) (x:T) (u:Value),ts[j]?=some x->us[j]?=some u->Rd w F x u)->AG w F args vs []->Jq P w (λb=>v.ownBlock=some b) ->
  Calls P f (Value.agg (us++[v]).toArray :: vs).toArray w λex w'=>∃ ad n c a' c' inner',v=.slice ad n c/\ex=.returned (.slice a' m c')/\lo+m<=n/\(0 < m->∃ b,ad=some ⟨b,0,none⟩/\a'=some ⟨b,lo,none⟩)/\oV w w' /\
   (∀ b,b < w.heap.size->v.ownBlock≠some b->w'.heap[b]?=w.heap[b]?)/\w'.ownsRow 0 e 1 v rows.length inner'/\zt w' F 1 rows inner'
theorem Ow{n f r e lo m:Nat}{ts:List T}{rows:List (List T)}{o:Oper}{xf:Operand}{args:Array Operand}{tys:Array TypeId}{as:List A}{vs:List V}
  (hS:gF E g n st a w) (ho:o.op=.call { callee:=.value xf,args,argTypes:=tys }) (hf:st.eval xf=some (.clo f [])) (has:cT (args.toList.map st.eval)=some (.agg (ts.map A.t++[.own r]) :: as))
  (hrw:st.rw r=some (.live e 1 rows)) (hp:Ov as=some vs) (hc:Vl P f e ts rows vs lo m) :
  u6 P o a w λv w'=>∃ g',u5 E g st w (.win r lo m) st v g' w':=by
 have hM:=hS.mem;obtain ⟨hcl,hcc⟩:=hc;have hvf:=bJ hS hf;generalize hvv:a.eval xf=vf at hvf;obtain ⟨ha1,ha2⟩:=xU hS has;have hL:st.L r:=⟨e,1,rows,hrw⟩
 cases hvf with
 | clo f caps vcaps hl hx' =>
  have:vcaps=[]:=sk hl.symm;subst this;refine iF ho hvv hcl ?_;rw [zXQ];generalize args.toList.map a.eval=us at ha1 ha2
  match us,ha1 with
  | u0 :: us,ha1 =>
   have h0:=ha2 0 _ u0 rfl rfl
   cases h0 with
   | agg _ cells hcl hcx =>
    have hlen:cells.length=ts.length+1:=by rw [<- hcl]; simp
    obtain ⟨us0,v,hcells,hus⟩:∃ us0 v,cells=us0++[v]/\us0.length=ts.length:=⟨cells.take ts.length,cells[ts.length]'(by omega),by
     rw [show [cells[ts.length]'(by omega)]=cells.drop ts.length by rw [zXH (by omega)]; simp [List.drop_eq_nil_of_le (show cells.length<=ts.length+1 by omega)],zXj],by simp; omega⟩
    subst hcells;have hv:=hcx ts.length (.own r) v (by simp) (by rw [<- hus]; simp)
    cases hv with
    | own _ hR =>
    have hVV:AG w g.F vs us []:=Tg hp (by simpa using ha1) λj x u h3 h4=>ha2 (j+1) x u (by simpa using h3) (by simpa using h4);have hts:∀ (j:Nat) (x:T) (u:Value),ts[j]?=some x->us0[j]?=some u->Rd w g.F x u:=λj x u h3 h4=>by
     have hlt:j < ts.length:=(List.getElem?_eq_some_iff.1 h3).1;have:=hcx j (.t x) u (by rw [rg (by simpa using hlt)]; simp [h3]) (by rw [rg (by omega)]; exact h4)
     cases this with
     | t _ _ h=>exact h
    obtain ⟨inner,hown,hRC,_⟩:=(hM.row r _ hrw).rcs;refine (hcc w g.F (g.rw r) us0 us inner (λb hb=>(hM.F b hb).1) hown hRC (λb hb=>(hM.row_nf hL hb).1) hus hts hVV (hM.tbW λb h1 h2 _ h3=>(hM.row_nf hL h3).2.elim (λh=>absurd h1 (Nat.not_lt.2 h)) h2)).mono λex w' ⟨ad,n',c,a',c',inner',hv,he,hm,hpp,hcalm,hsame,hown',hRC'⟩=>⟨_,he,?_⟩;obtain ⟨hM2,hE2⟩:=hM.set_row hcalm r _ e 1 rows hrw hL hsame (hRC'.rowAt (E:=E) (g:=g) hown' (λb hb=>hM.row_nf hL hb));rw [IZ hrw] at hM2 hE2;exact ⟨g,hM2,.win r lo m n' c c' ad a' hR hv hm hpp,hE2,rfl⟩
end
end Go.Tm
namespace Go.Tm
open Go.RowKit
structure Qc where
 oR:Nat->Prop
 oW:Nat->Prop
 rR:Nat->Prop
 rW:Nat->Prop
def MA.In{α:Type}(D:Qc):MA α->Prop
 | .ret _=>True
 | .fail=>True
 | .getOb s k=>D.oR s/\∀ x,(k x).In D
 | .getRw r k=>D.rR r/\∀ x,(k x).In D
 | .setOb s _ k=>D.oW s/\k.In D
 | .setRw r _ k=>D.rW r/\k.In D
structure P3 (D:Qc) (st st':St):Prop where
 tm:st'.tm=st.tm
 ob:∀ s,¬ D.oW s->st'.ob s=st.ob s
 rw:∀ r,¬ D.rW r->st'.rw r=st.rw r
structure On (D:Qc) (st st':St):Prop where
 ob:∀ s,D.oR s->st'.ob s=st.ob s
 rw:∀ r,D.rR r->st'.rw r=st.rw r
structure Qc.ok (D:Qc):Prop where
 ob:∀ s,D.oW s->D.oR s
 rw:∀ s,D.rW s->D.rR s
theorem P3.refl(D:Qc)(st:St):P3 D st st:=⟨rfl,λ_ _=>rfl,λ_ _=>rfl⟩
theorem P3.trans{D:Qc}{a b c:St}(h:P3 D a b)(h':P3 D b c):P3 D a c :=
 ⟨h'.tm.trans h.tm,λs hs=>(h'.ob s hs).trans (h.ob s hs),λs hs=>(h'.rw s hs).trans (h.rw s hs)⟩
theorem Qd{α:Type}{f g:Nat->α}{k j:Nat}{c:α}(h:f j=g j):dV f k c j=dV g k c j:=by
 simp only [dV,h]
theorem mz{α:Type}{D:Qc}:∀ (m:MA α) {st st':St} {x:α},m.In D->m.run st=some (x,st') ->
  P3 D st st'/\∀ st2,On D st st2->∃ st2',m.run st2=some (x,st2')/\P3 D st2 st2'/\On D st' st2'
 | .ret v,st,st',x,_,h=>by
  obtain ⟨rfl,rfl⟩:=eF h;exact ⟨P3.refl _ _,λst2 h2=>⟨st2,rfl,P3.refl _ _,h2⟩⟩
 | .fail,st,st',x,_,h=>(aL h).elim
 | .getOb s k,st,st',x,hi,h=>by
  obtain ⟨h1,h2⟩:=mz (k (st.ob s)) (hi.2 _) h;refine ⟨h1,λst2 ho=>?_⟩;simp only [MA.run,ho.ob s hi.1];exact h2 st2 ho
 | .getRw s k,st,st',x,hi,h=>by
  obtain ⟨h1,h2⟩:=mz (k (st.rw s)) (hi.2 _) h;refine ⟨h1,λst2 ho=>?_⟩;simp only [MA.run,ho.rw s hi.1];exact h2 st2 ho
 | .setOb s c k,st,st',x,hi,h=>by
  simp only [MA.run] at h;obtain ⟨h1,h2⟩:=mz k hi.2 h;refine ⟨⟨h1.tm,λs' hs'=>?_,h1.rw⟩,λst2 ho=>?_⟩
  ·rw [h1.ob s' hs'];exact bZ _ _ _ _ (λhe=>hs' (he ▸ hi.1))
  ·obtain ⟨st2',h3,h4,h5⟩:=h2 { st2 with ob:=dV st2.ob s (some c) } ⟨λs' hs'=>Qd (ho.ob s' hs'),ho.rw⟩;refine ⟨st2',h3,⟨h4.tm,λs' hs'=>?_,h4.rw⟩,h5⟩;rw [h4.ob s' hs'];exact bZ _ _ _ _ (λhe=>hs' (he ▸ hi.1))
 | .setRw s c k,st,st',x,hi,h=>by
  simp only [MA.run] at h;obtain ⟨h1,h2⟩:=mz k hi.2 h;refine ⟨⟨h1.tm,h1.ob,λs' hs'=>?_⟩,λst2 ho=>?_⟩
  ·rw [h1.rw s' hs'];exact bZ _ _ _ _ (λhe=>hs' (he ▸ hi.1))
  ·obtain ⟨st2',h3,h4,h5⟩:=h2 { st2 with rw:=dV st2.rw s (some c) } ⟨ho.ob,λs' hs'=>Qd (ho.rw s' hs')⟩;refine ⟨st2',h3,⟨h4.tm,h4.ob,λs' hs'=>?_⟩,h5⟩;rw [h4.rw s' hs'];exact bZ _ _ _ _ (λhe=>hs' (he ▸ hi.1))
mutual
def A.inR(Q:Nat->Prop):A->Prop
 | .own r=>Q r
 | .elem r _ _ _=>Q r
 | .sub r _ _=>Q r
 | .win r _ _=>Q r
 | .agg l=>eo Q l
 | .tup l=>eo Q l
 | .clo _ l=>eo Q l
 | _=>True
def eo(Q:Nat->Prop):List A->Prop
 | []=>True
 | a :: r=>a.inR Q/\eo Q r
end
mutual
theorem BQ{Q:Nat->Prop}(h:∀ r,Q r):∀ a:A,a.inR Q
 | .own r=>by unfold A.inR; exact h r
 | .elem r _ _ _=>by unfold A.inR; exact h r
 | .sub r _ _=>by unfold A.inR; exact h r
 | .win r _ _=>by unfold A.inR; exact h r
 | .agg l=>by unfold A.inR; exact oY h l
 | .tup l=>by unfold A.inR; exact oY h l
 | .clo _ l=>by unfold A.inR; exact oY h l
 | .t _ | .nil | .obj _ _ | .fadr _ | .nn _ _ | .undef | .raw _ | .osl _ _ _ _ | .ext _ _ | .exa _ _ | .shp _=>by unfold A.inR; trivial
theorem oY{Q:Nat->Prop}(h:∀ r,Q r):∀ l:List A,eo Q l
 | []=>by unfold eo; trivial
 | a :: r=>by unfold eo; exact ⟨BQ h a,oY h r⟩
end
theorem JA{Q:Nat->Prop}:∀ {l:List A},eo Q l->∀ a∈l,a.inR Q
 | [],_,a,h=>by simp at h
 | x :: l,hl,a,h=>by
  unfold eo at hl;rcases List.mem_cons.1 h with rfl | h
  ·exact hl.1
  ·exact JA hl.2 a h
theorem pL{Q:Nat->Prop}:∀ {l:List A},(∀ a∈l,a.inR Q)->eo Q l
 | [],_=>by unfold eo; trivial
 | x :: l,h=>by unfold eo; exact ⟨h x (by simp),pL (λa ha=>h a (by simp [ha]))⟩
theorem zA{Q:Nat->Prop}{a:A}(h:a.inR Q):eo Q a.cells:=by
 cases a <;> simp only [A.cells] <;> first | (unfold A.inR at h; exact h) | (unfold eo; exact ⟨h,by unfold eo; trivial⟩)
section
variable {D:Qc} {α:Type}
theorem Qe{a:A}{k:T->MA α}(ha:a.inR λr=>D.rR r/\D.rW r)(hk:∀ x,(k x).In D):(a.toT k).In D:=by
 cases a <;> simp only [A.toT,MA.In] <;> first | exact hk _ | trivial | skip
 unfold A.inR at ha;refine ⟨ha.1,λx=>?_⟩;rcases x with _ | (_ | _ | _) <;> simp only [MA.In] <;> first | exact hk _ | exact ⟨ha.2,hk _⟩
theorem BR:∀ {l:List A} {k:List T->MA α},eo (λr=>D.rR r/\D.rW r) l->(∀ x,(k x).In D)->(A.toTs l k).In D
 | [],k,_,hk=>hk []
 | a :: l,k,hl,hk=>by
  unfold eo at hl;exact Qe hl.1 λx=>BR hl.2 λxs=>hk _
theorem Es{Q:Nat->Prop}{lb:List Nat}{l:List A}(h:eo Q l):eo Q (kF lb l) :=
 pL λa ha=>by
  obtain ⟨j,hj⟩:=zYh ha;obtain ⟨y,h1,h2⟩:=FY lb l j a hj;rcases h2 with rfl | ⟨_,n,rfl⟩
  ·exact JA h _ (zQY h1)
  ·unfold A.inR; trivial
theorem Ox{lb:List Nat}{sz:Nat}:∀ {ps:List (Nat×A)} {rows:List (List T)} {k:List (List T)->MA α},(∀ q∈ps,q.2.inR λr=>D.rR r/\D.rW r)->(∀ x,(k x).In D)->(Jk lb sz rows ps k).In D
 | [],rows,k,_,hk=>hk _
 | (i,x) :: r,rows,k,hl,hk=>by
  unfold Jk
  split
  ·exact BR (Es (zA (hl (i,x) (by simp)))) λts=>Ox (λq hq=>hl q (by simp [hq])) hk
  ·trivial
theorem Et{a:A}{k:Nat->List (List T)->MA α}(ha:a.inR D.rR)(hk:∀ n x,(k n x).In D):(a.rows k).In D:=by
 unfold A.rows
 split <;> first | exact hk _ _ | trivial | skip
 ·split <;> first | exact hk _ _ | trivial
 ·unfold A.inR at ha;refine ⟨ha,λx=>?_⟩;rcases x with _ | (_ | _ | _) <;> first | exact hk _ _ | trivial
theorem Eu{r e sz:Nat}{rows:List (List T)}(h:D.rR r/\D.rW r):(vz r e sz rows).In D:=by
 refine ⟨h.1,λx=>?_⟩
 cases x <;> first | exact ⟨h.2,trivial⟩ | trivial
theorem Rs{d:Nat}{cells:List A}(h:D.oR d/\D.oW d):(N9 d cells).In D:=by
 refine ⟨h.1,λx=>?_⟩
 cases x <;> simp only
 ·split <;> first | exact ⟨h.2,trivial⟩ | trivial
 ·trivial
theorem rt{m:Bool}{a:A}{k:C->MA α}(ha:a.inR λr=>D.rR r/\D.rW r)(hk:∀ x,(k x).In D):(a.toC m k).In D:=by
 unfold A.toC
 split
 ·unfold A.inR at ha;refine ⟨ha.1,λx=>?_⟩;rcases x with _ | (_ | _ | _) <;> first | exact hk _ | exact ⟨ha.2,hk _⟩ | trivial
 ·exact hk _
 ·exact Qe ha λx=>hk _
theorem M7{m:Bool}:∀ {l:List A} {k:List C->MA α},eo (λr=>D.rR r/\D.rW r) l->(∀ x,(k x).In D)->(C8 m l k).In D
 | [],k,_,hk=>hk []
 | a :: l,k,hl,hk=>by
  unfold eo at hl;exact rt hl.1 λx=>M7 hl.2 λxs=>hk _
mutual
theorem Th{m:Bool}:∀ {a:A} {k:V->MA α},a.inR (λr=>D.rR r/\D.rW r)->(∀ x,(k x).In D)->(oh m a k).In D
 | .agg l,k,ha,hk=>by unfold A.inR at ha; unfold oh; exact M7 ha λ_=>hk _
 | .fadr l,k,ha,hk=>by unfold oh; exact hk _
 | .clo f l,k,ha,hk=>by unfold A.inR at ha; unfold oh; exact M8 ha λ_=>hk _
 | .tup l,k,ha,hk=>by unfold A.inR at ha; unfold oh; exact M8 ha λ_=>hk _
 | .t x,k,ha,hk=>by unfold oh; exact rt ha λ_=>hk _
 | .nn _ _,k,ha,hk=>by unfold oh; exact rt ha λ_=>hk _
 | .nil,k,ha,hk=>by unfold oh; exact rt ha λ_=>hk _
 | .own x,k,ha,hk=>by unfold oh; exact rt ha λ_=>hk _
 | .obj _ _,k,ha,hk=>by unfold oh; exact rt ha λ_=>hk _
 | .elem _ _ _ _,k,ha,hk=>by unfold oh; exact rt ha λ_=>hk _
 | .win _ _ _,k,ha,hk=>by unfold oh; exact rt ha λ_=>hk _
 | .sub _ _ _,k,ha,hk=>by unfold oh; exact rt ha λ_=>hk _
 | .undef,k,ha,hk=>by unfold oh; exact rt ha λ_=>hk _
 | .raw _,k,ha,hk=>by unfold oh; exact rt ha λ_=>hk _
 | .osl _ _ _ _,k,ha,hk=>by unfold oh; exact rt ha λ_=>hk _
 | .ext _ _,k,ha,hk=>by unfold oh; exact rt ha λ_=>hk _
 | .exa _ _,k,ha,hk=>by unfold oh; exact rt ha λ_=>hk _
 | .shp _,k,ha,hk=>by unfold oh; exact rt ha λ_=>hk _
theorem M8{m:Bool}:∀ {l:List A} {k:List V->MA α},eo (λr=>D.rR r/\D.rW r) l->(∀ x,(k x).In D)->(zu m l k).In D
 | [],k,_,hk=>by unfold zu; exact hk _
 | a :: l,k,hl,hk=>by unfold eo at hl; unfold zu; exact Th hl.1 λx=>M8 hl.2 λxs=>hk _
end
theorem Sb{s:Nat}{k:List C->MA α}(ho:D.oR s/\D.oW s)(ha:∀ r,D.rR r/\D.rW r)(hk:∀ x,(k x).In D):(AV s k).In D:=by
 refine ⟨ho.1,λx=>?_⟩;rcases x with _ | (_ | ⟨c,cells⟩) <;> simp only <;> first | exact M7 (oY ha _) λx=>⟨ho.2,hk _⟩ | trivial
theorem Qf{s:Nat}{k:List C->MA α}(ho:D.oR s/\D.oW s)(hk:∀ x,(k x).In D):(Ep s k).In D:=by
 refine ⟨ho.1,λx=>?_⟩;rcases x with _ | (_ | ⟨c,cells⟩) <;> simp only <;> first | trivial | skip
 split <;> first | exact ⟨ho.2,hk _⟩ | trivial
def A.argIn(D:Qc)(p:Nat->Bool):A->Prop
 | .obj s 0=>(D.oR s/\D.oW s)/\(p s=false->∀ r,D.rR r/\D.rW r)
 | a=>a.inR λr=>D.rR r/\D.rW r
theorem Ew{m:Bool}{p:Nat->Bool}:∀ {l:List A} {k:List V->MA α},(∀ a∈l,a.argIn D p)->(∀ x,(k x).In D)->(jQ m p l k).In D
 | [],k,_,hk=>by unfold jQ; exact hk _
 | a :: l,k,hl,hk=>by
  have h0:=hl a (by simp);have ih:∀ {k:List V->MA α},(∀ x,(k x).In D)->(jQ m p l k).In D:=λh=>Ew (λa ha=>hl a (by simp [ha])) h;unfold jQ
  split
  ·rename_i heq; cases heq
  ·rename_i heq;injection heq with h1 h2
   subst h1 h2;unfold A.argIn at h0
   split
   ·exact Qf h0.1 λx=>ih λ_=>hk _
   ·rename_i hp;exact Sb h0.1 (h0.2 (by simpa using hp)) λx=>ih λ_=>hk _
  ·rename_i hna heq;injection heq with h1 h2
   subst h1 h2;refine Th ?_ λx=>ih λ_=>hk _;unfold A.argIn at h0
   split at h0
   ·exact absurd rfl (hna _)
   ·exact h0
theorem jA{a:A}{k:T->MA α}(ha:a.inR D.rR)(hk:∀ x,(k x).In D):(a.peekT k).In D:=by
 unfold A.peekT
 split <;> first | exact hk _ | trivial | skip
 unfold A.inR at ha;refine ⟨ha,λx=>?_⟩;rcases x with _ | (_ | _ | _) <;> first | exact hk _ | trivial
theorem Mq:∀ {l:List A} {k:List T->MA α},eo D.rR l->(∀ x,(k x).In D)->(Er l k).In D
 | [],k,_,hk=>hk []
 | a :: l,k,hl,hk=>by
  unfold eo at hl;exact jA hl.1 λx=>Mq hl.2 λxs=>hk _
mutual
theorem Ti:∀ {a:A} {k:V->MA α},a.inR D.rR->(∀ x,(k x).In D)->(ib a k).In D
 | .agg l,k,ha,hk=>by unfold A.inR at ha; unfold ib; exact Mq ha λ_=>hk _
 | .fadr l,k,ha,hk=>by unfold ib; exact hk _
 | .clo f l,k,ha,hk=>by unfold A.inR at ha; unfold ib; exact pM ha λ_=>hk _
 | .tup l,k,ha,hk=>by unfold ib; exact jA ha λ_=>hk _
 | .t x,k,ha,hk=>by unfold ib; exact jA ha λ_=>hk _
 | .nn _ _,k,ha,hk=>by unfold ib; exact jA ha λ_=>hk _
 | .nil,k,ha,hk=>by unfold ib; exact jA ha λ_=>hk _
 | .own x,k,ha,hk=>by unfold ib; exact jA ha λ_=>hk _
 | .obj _ _,k,ha,hk=>by unfold ib; exact jA ha λ_=>hk _
 | .elem _ _ _ _,k,ha,hk=>by unfold ib; exact jA ha λ_=>hk _
 | .win _ _ _,k,ha,hk=>by unfold ib; exact jA ha λ_=>hk _
 | .sub _ _ _,k,ha,hk=>by unfold ib; exact jA ha λ_=>hk _
 | .undef,k,ha,hk=>by unfold ib; exact jA ha λ_=>hk _
 | .raw _,k,ha,hk=>by unfold ib; exact jA ha λ_=>hk _
 | .osl _ _ _ _,k,ha,hk=>by unfold ib; exact jA ha λ_=>hk _
 | .ext _ _,k,ha,hk=>by unfold ib; exact jA ha λ_=>hk _
 | .exa _ _,k,ha,hk=>by unfold ib; exact jA ha λ_=>hk _
 | .shp _,k,ha,hk=>by unfold ib; exact jA ha λ_=>hk _
theorem pM:∀ {l:List A} {k:List V->MA α},eo D.rR l->(∀ x,(k x).In D)->(dz l k).In D
 | [],k,_,hk=>by unfold dz; exact hk _
 | a :: l,k,hl,hk=>by unfold eo at hl; unfold dz; exact Ti hl.1 λx=>pM hl.2 λxs=>hk _
end
variable {d:Nat}
theorem Tj{id:Nat}{c:C}{k:A->MA α}(hd:∀ r,r / 65536=d->D.rR r/\D.rW r)(hk:∀ x,(k x).In D):(c.toA d id k).In D:=by
 cases c <;> simp only [C.toA] <;> first | exact hk _ | skip
 split
 ·rename_i h;refine ⟨(hd _ h).1,λx=>?_⟩
  cases x <;> first | exact ⟨(hd _ h).2,hk _⟩ | trivial
 ·trivial
theorem I1(hd:∀ r,r / 65536=d->D.rR r/\D.rW r):∀ {l:List C} {id:Nat} {k:List A->MA α},(∀ x,(k x).In D)->(F1 d id l k).In D
 | [],id,k,hk=>hk []
 | a :: l,id,k,hk=>Tj hd λx=>I1 hd λxs=>hk _
mutual
theorem Ex(hd:∀ r,r / 65536=d->D.rR r/\D.rW r)(ho:D.oR d/\D.oW d):∀ {v:V} {id:Nat} {k:A->MA α},(∀ x,(k x).In D)->(V.toA d id v k).In D
 | .one c,id,k,hk=>by unfold V.toA; exact Tj hd hk
 | .agg l,id,k,hk=>by unfold V.toA; exact I1 hd λ_=>hk _
 | .tup l,id,k,hk=>by unfold V.toA; exact JB hd ho λ_=>hk _
 | .ptr l,id,k,hk=>by
  unfold V.toA;refine I1 hd λ_=>⟨ho.1,λx=>?_⟩
  cases x <;> first | exact ⟨ho.2,hk _⟩ | trivial
 | .fptr l,id,k,hk=>by unfold V.toA; exact hk _
 | .clo f l,id,k,hk=>by unfold V.toA; exact JB hd ho λ_=>hk _
theorem JB(hd:∀ r,r / 65536=d->D.rR r/\D.rW r)(ho:D.oR d/\D.oW d):∀ {l:List V} {id:Nat} {k:List A->MA α},(∀ x,(k x).In D)->(zw d id l k).In D
 | [],id,k,hk=>by unfold zw; exact hk _
 | a :: l,id,k,hk=>by unfold zw; exact Ex hd ho λx=>JB hd ho λxs=>hk _
end
theorem xo(hd:∀ r,r / 65536=d->D.rR r/\D.rW r):∀ {ss:List Nat} {os:List (List C)} {k:MA α},(∀ s∈ss,D.oR s/\D.oW s)->k.In D->(dg d ss os k).In D
 | [],[],k,_,hk=>hk
 | s :: ss,c :: cs,k,hs,hk=>by
  unfold dg;refine I1 hd λx=>⟨(hs s (by simp)).1,λy=>?_⟩
  cases y <;> first | exact ⟨(hs s (by simp)).2,xo hd (λs h=>hs s (by simp [h])) hk⟩ | trivial
 | [],_ :: _,k,_,hk=>trivial
 | _ :: _,[],k,_,hk=>trivial
theorem AW{p:Nat->Bool}:∀ {l:List A},(∀ a∈l,a.argIn D p)->∀ s∈dy l,D.oR s/\D.oW s
 | [],_,s,h=>by simp [dy] at h
 | a :: l,hl,s,h=>by
  have h0:=hl a (by simp);unfold dy at h
  split at h
  ·rename_i heq; cases heq
  ·rename_i heq;injection heq with h1 h2
   subst h1 h2;rcases List.mem_cons.1 h with rfl | h
   ·exact h0.1
   ·exact AW (λa ha=>hl a (by simp [ha])) s h
  ·rename_i heq;injection heq with h1 h2
   subst h1 h2;exact AW (λa ha=>hl a (by simp [ha])) s h
end
end Go.Tm
namespace Go.Tm
open Go.RowKit
def has(l:Option (List Nat))(k:Nat):Prop:=match l with | none=>True | some l=>k∈l
def DO(a b:Option (List Nat)):Option (List Nat):=match a,b with | some a,some b=>some (a++b) | _,_=>none
def Cl:List (Option (List Nat))->Option (List Nat)
 | []=>some []
 | a :: r=>DO a (Cl r)
theorem lT{a b:Option (List Nat)}{k:Nat}:has (DO a b) k↔has a k\/has b k:=by
 cases a <;> cases b <;> simp [DO,has]
theorem JC{l:List (Option (List Nat))}{k:Nat}:∀ {x},x∈l->has x k->has (Cl l) k:=by
 induction l with
 | nil=>intro x h; simp at h
 | cons y l ih =>
  intro x h hx;unfold Cl;rcases List.mem_cons.1 h with rfl | h
  ·exact lT.2 (.inl hx)
  ·exact lT.2 (.inr (ih h hx))
def dG.rows:dG->Option (List Nat)
 | .frz | .obj _=>some []
 | .own d=>some [d]
 | .el d=>some [d]
 | .win d=>some [d]
 | _=>none
def dG.objs:dG->Option (List Nat)
 | .obj s=>some [s]
 | .any=>none
 | _=>some []
def wX(ρ:Nat->dG):Operand->dG
 | .tmp t=>ρ t
 | _=>.frz
structure Fp where
 oR:Option (List Nat)
 oW:Option (List Nat)
 rR:Option (List Nat)
 rW:Option (List Nat)
def Fp.dom(f:Fp):Qc:=⟨has f.oR,has f.oW,λr=>has f.rR (r / 65536),λr=>has f.rW (r / 65536)⟩
def dG.isObj:dG->Bool
 | .obj _=>true
 | _=>false
def uc(p:Nat->Bool):dG->Option (List Nat)
 | .obj s=>if p s then some [] else none
 | r=>r.rows
def kd:Option Nat->Option (List Nat)
 | some d=>some [d]
 | none=>some []
def b8(ρ:Nat->dG)(o:Oper):Option (List Nat):=Cl (o.op.operands.toList.map λx=>(wX ρ x).rows)
def cS(p:Nat->Bool)(ρ:Nat->dG)(o:Oper):Fp :=
 match o.op with
 | .alloc _=>⟨kd o.dst,kd o.dst,some [],some []⟩
 | .box ..=>⟨kd o.dst,kd o.dst,b8 ρ o,b8 ρ o⟩
 | .buildSlice .. | .makeSlice ..=>⟨some [],some [],DO (b8 ρ o) (kd o.dst),DO (b8 ρ o) (kd o.dst)⟩
 | .load _ a=>⟨(wX ρ a).objs,some [],(wX ρ a).rows,some []⟩
 | .store _ a _=>if (wX ρ a).isObj then ⟨(wX ρ a).objs,(wX ρ a).objs,some [],some []⟩ else ⟨(wX ρ a).objs,(wX ρ a).objs,b8 ρ o,b8 ρ o⟩
 | .slice ..=>⟨some [],some [],DO (b8 ρ o) (kd o.dst),DO (b8 ρ o) (kd o.dst)⟩
 | .call { callee:=.builtin .copy,.. } | .call { callee:=.builtin .clear,.. }=>⟨some [],some [],b8 ρ o,b8 ρ o⟩
 | .indexAddr .. | .convert .. | .call { callee:=.builtin .len,.. }=>⟨some [],some [],b8 ρ o,some []⟩
 | .call { callee:=.builtin .append,.. }=>⟨some [],some [],DO (b8 ρ o) (kd o.dst),DO (b8 ρ o) (kd o.dst)⟩
 | .call { callee:=.value _,.. } =>
  ⟨DO (Cl (o.op.operands.toList.map λx=>(wX ρ x).objs)) (kd o.dst),DO (Cl (o.op.operands.toList.map λx=>(wX ρ x).objs)) (kd o.dst),
   DO (Cl (o.op.operands.toList.map λx=>uc p (wX ρ x))) (kd o.dst),DO (Cl (o.op.operands.toList.map λx=>uc p (wX ρ x))) (kd o.dst)⟩
 | _=>⟨some [],some [],some [],some []⟩
theorem I2(p:Nat->Bool)(ρ:Nat->dG)(o:Oper):(cS p ρ o).dom.ok:=by
 unfold cS
 split
 all_goals first | exact ⟨λ_ h=>h,λ_ h=>h⟩ | (split <;> exact ⟨λ_ h=>h,λ_ h=>h⟩) | exact ⟨λ_ h=>by simp [Fp.dom,has] at h,λ_ h=>by simp [Fp.dom,has] at h⟩
structure Wx (ρ:Nat->dG) (x:Operand) (a:A):Prop where
 rows:a.inR λr=>has (wX ρ x).rows (r / 65536)
 objs:∀ s off,a=.obj s off->has (wX ρ x).objs s
 isob:(wX ρ x).isObj=true->∃ s off,a=.obj s off
theorem Sc{r:dG}{a:A}(h:r.fits a=true)(hr:r.isObj=true):∃ s off,a=.obj s off:=by
 cases r <;> cases a <;> simp [dG.fits,dG.isObj] at h hr ⊢
theorem Mr{Q:Nat->Prop}{a:A}(h:a.leafy=true):a.inR Q:=by
 cases a <;> first | (unfold A.inR; trivial) | (simp [A.leafy] at h)
theorem Oy{r:dG}{a:A}(h:r.fits a=true):(a.inR λi=>has r.rows (i / 65536))/\∀ s off,a=.obj s off->has r.objs s:=by
 by_cases hag:∃ l,r=.frz/\a=.agg l
 ·obtain ⟨l,rfl,rfl⟩:=hag;refine ⟨?_,λs off h=>by cases h⟩;unfold A.inR;exact pL λx hx=>Mr (List.all_eq_true.1 h x hx)
 by_cases hag2:∃ d l,r=.own d/\a=.agg l
 ·obtain ⟨d,l,rfl,rfl⟩:=hag2;refine ⟨?_,λs off h=>by cases h⟩;unfold A.inR;refine pL λx hx=>?_;have:=List.all_eq_true.1 h x hx
  cases x with
  | own r=>unfold A.inR; simpa [dG.rows,has] using this
  | _=>exact Mr this
 cases r <;> cases a <;> (try simp [dG.fits,dG.rows,dG.objs,has] at h hag ⊢) <;> (try exact absurd ⟨_,_,rfl,rfl⟩ hag2) <;>
  first
   | exact BQ (λ_=>trivial) _
   | (unfold A.inR; first | trivial | simp [h])
   | (refine ⟨by unfold A.inR; trivial,?_⟩; intro s off h1 h2; simp [<- h1,h])
   | skip
theorem Cw{Q:Nat->Prop}:∀ {l:List (Option A)} {r:List A},(∀ y∈l,∀ a,y=some a->a.inR Q)->cT l=some r->eo Q r:=by
 intro l r hl h;have:=El h;subst this;exact pL λa ha=>hl (some a) (List.mem_map.2 ⟨a,ha,rfl⟩) a rfl
theorem zB{Q:Nat->Prop}{v:Value}{a:A}(h:nc v=some a):a.inR Q:=by
 unfold nc at h
 split at h <;> cases h <;> (unfold A.inR; trivial)
theorem AX{Q:Nat->Prop}{v:Value}{a:A}(h:A.ofValue v=some a):(a.inR Q)/\∀ s off,a≠.obj s off:=by
 unfold A.ofValue at h
 split at h
 ·split at h
  ·rename_i l hl
   cases h
   refine ⟨?_,λ_ _ h=>by cases h⟩;unfold A.inR;exact Cw (λy hy a he=>by
    obtain ⟨v,_,hv⟩:=List.mem_map.1 hy;exact zB (hv.trans he)) hl
  ·cases h
 ·cases h
  exact ⟨by unfold A.inR; trivial,λs off he=>by cases he⟩
 ·refine ⟨zB h,λs off he=>?_⟩;subst he;unfold nc at h
  split at h <;> cases h
theorem Ms{P:Program}{Q:Nat->Prop}{t:TypeId}{z:List A}(h:sR P t=some z):eo Q z:=by
 unfold sR at h
 split at h
 ·exact Cw (λy hy a he=>by
   obtain ⟨v,_,hv⟩:=List.mem_map.1 hy;exact zB (hv.trans he)) h
 ·cases h
theorem Tl{ρ:Nat->dG}{st:St}{o:Oper}(hf:ek ρ st o=true){x:Operand}{a:A}(hx:x∈o.op.operands.toList)(h:st.eval x=some a):Wx ρ x a:=by
 cases x with
 | tmp t =>
  simp only [St.eval,Option.some.injEq] at h;subst h;have:=List.all_eq_true.1 hf _ hx;exact ⟨(Oy this).1,(Oy this).2,λh=>Sc this h⟩
 | const v=>exact ⟨(AX h).1,λs off he=>absurd he ((AX (Q:=λ_=>True) h).2 s off),λh=>by simp [wX,dG.isObj] at h⟩
 | func f =>
  simp only [St.eval,Option.some.injEq] at h;subst h;exact ⟨by unfold A.inR; unfold eo; trivial,λs off he=>(by cases he),λh=>by simp [wX,dG.isObj] at h⟩
 | global _=>cases h
mutual
theorem gQ{Q Q':Nat->Prop}(h:∀ r,Q r->Q' r):∀ {a:A},a.inR Q->a.inR Q'
 | .own r,hq=>by unfold A.inR at hq ⊢; exact h _ hq
 | .elem r _ _ _,hq=>by unfold A.inR at hq ⊢; exact h _ hq
 | .sub r _ _,hq=>by unfold A.inR at hq ⊢; exact h _ hq
 | .win r _ _,hq=>by unfold A.inR at hq ⊢; exact h _ hq
 | .agg l,hq=>by unfold A.inR at hq ⊢; exact BS h hq
 | .tup l,hq=>by unfold A.inR at hq ⊢; exact BS h hq
 | .clo _ l,hq=>by unfold A.inR at hq ⊢; exact BS h hq
 | .t _,_ | .nil,_ | .obj _ _,_ | .fadr _,_ | .nn _ _,_ | .undef,_ | .raw _,_ | .osl _ _ _ _,_ | .ext _ _,_ | .exa _ _,_ | .shp _,_=>by unfold A.inR; trivial
theorem BS{Q Q':Nat->Prop}(h:∀ r,Q r->Q' r):∀ {l:List A},eo Q l->eo Q' l
 | [],_=>by unfold eo; trivial
 | a :: r,hq=>by unfold eo at hq ⊢; exact ⟨gQ h hq.1,BS h hq.2⟩
end
end Go.Tm
set_option maxHeartbeats 1000000
namespace Go.Tm
open Go.RowKit
section
variable {D:Qc} {P:Program} {ρ:Nat->dG}
theorem dq{o:Oper}{x:Operand}{k:Nat}(hx:x∈o.op.operands.toList)(h:has (wX ρ x).rows k):has (b8 ρ o) k :=
 JC (List.mem_map.2 ⟨x,hx,rfl⟩) h
theorem Ux{t:TypeId}{a:A}(ho:∀ s off,a=.obj s off->D.oR s)(hr:a.inR D.rR):(FW P t a).In D:=by
 unfold FW
 split <;> try trivial
 split <;> try trivial
 ·refine ⟨ho _ _ rfl,λx=>?_⟩
  cases x <;> simp only [MA.In]
  split <;> trivial
 ·unfold A.inR at hr;refine ⟨hr,λx=>?_⟩;rcases x with _ | (_ | _ | _) <;> (try dsimp only) <;> (try trivial)
  all_goals
   split <;> try trivial
   split <;> try trivial
   split <;> trivial
 ·split <;> trivial
 ·split <;> trivial
theorem Oz{t:TypeId}{a x:A}(ho:∀ s off,a=.obj s off->D.oR s/\D.oW s)(hr:(∃ s off,a=.obj s off)\/((a.inR λr=>D.rR r/\D.rW r)/\x.inR λr=>D.rR r/\D.rW r)):(zq P t a x).In D:=by
 unfold zq
 split <;> try trivial
 split <;> try trivial
 split <;> try trivial
 ·refine ⟨(ho _ _ rfl).1,λx=>?_⟩
  cases x <;> simp only [MA.In]
  split <;> first | trivial | exact ⟨(ho _ _ rfl).2,trivial⟩
 ·rcases hr with ⟨s,off,h⟩ | ⟨h1,h2⟩
  ·cases h
  refine BR (Es (zA h2)) λts=>?_;unfold A.inR at h1;refine ⟨h1.1,λx=>?_⟩;rcases x with _ | (_ | _ | _) <;> (try dsimp only) <;> (try trivial)
  split <;> try trivial
  split <;> try trivial
  split <;> first | trivial | exact ⟨h1.2,trivial⟩
 ·split <;> trivial
theorem Se{a:A}{off:Nat}:(Jm a off).In D:=by
 unfold Jm
 split <;> trivial
theorem JD{n:Nat}{i:Int}{sz:Nat}{rows:List (List T)}:(zr n i sz rows).In D:=by
 unfold zr
 split <;> try trivial
 split <;> trivial
theorem M9{t:TypeId}{x i:A}(hr:x.inR D.rR):(jP P t x i).In D:=by
 unfold jP
 split <;> try trivial
 split <;> try trivial
 split <;> try trivial
 ·exact JD
 ·unfold Ei
  split <;> try trivial
  split <;> trivial
 ·split <;> trivial
 ·unfold A.inR at hr;refine ⟨hr,λx=>?_⟩;rcases x with _ | (_ | _ | _) <;> (try dsimp only) <;> (try trivial)
  ·split <;> trivial
  ·exact JD
theorem Tn{d:Option Nat}{t:TypeId}{x:A}{hi:Option A}(hr:x.inR λr=>D.rR r/\D.rW r)(hd:∀ d',d=some d'->D.rR (eD d' 0)/\D.rW (eD d' 0)):(Ej P d t x hi).In D:=by
 unfold Ej
 split <;> try trivial
 split <;> try trivial
 unfold A.inR at hr;refine ⟨hr.1,λx=>?_⟩;rcases x with _ | (_ | _ | _) <;> (try dsimp only) <;> (try trivial)
 split <;> first | trivial | exact ⟨hr.2,Eu (hd _ rfl)⟩
theorem To{t:TypeId}{x:A}{lo hi:Option A}(hr:x.inR λr=>D.rR r/\D.rW r):(xj P t x lo hi).In D:=by
 unfold xj
 split <;> try trivial
 ·split <;> try trivial
  split <;> trivial
 ·split <;> try trivial
  split <;> trivial
 ·split <;> try trivial
  refine Qe hr λy=>?_
  split <;> try trivial
  split <;> try trivial
  split <;> try trivial
  split <;> trivial
theorem Uy{d:Option Nat}{t:TypeId}{l c:A}(hd:∀ d',d=some d'->∀ r,r / 65536=d'->D.rR r/\D.rW r):(Jp P d t l c).In D:=by
 unfold Jp
 split <;> try trivial
 split <;> try trivial
 rename_i hz
 split <;> try trivial
 refine BR (Es (Ms hz)) λts=>?_;exact Eu (hd _ rfl _ (by unfold eD; omega))
theorem Qg{d:Nat}{ts:List TypeId}{x y:A}(hd:∀ r,r / 65536=d->D.rR r/\D.rW r)(hx:x.inR λr=>D.rR r/\D.rW r)(hy:y.inR D.rR):(uH P (some d) ts x y).In D:=by
 have hm:∀ {e n:Nat} {rows:List (List T)},(vz (eD d 0) e n rows).In D:=λ{e n rows}=>Eu (hd _ (by unfold eD; omega));unfold uH
 split <;> try trivial
 rename_i d' hdd;injection hdd with hdd
 subst hdd
 split <;> try trivial
 split <;> try trivial
 split <;> try trivial
 split <;> try trivial
 refine Et hy λn ys=>?_
 split <;> try trivial
 split <;> try trivial
 ·split <;> first | trivial | exact hm
 ·unfold A.inR at hx;refine ⟨hx.1,λx=>?_⟩;rcases x with _ | (_ | _ | _) <;> (try dsimp only) <;> (try trivial)
  split <;> first | trivial | exact ⟨hx.2,hm⟩
theorem Sf{d:Option Nat}{ts:List TypeId}{x y:A}(hd:∀ d',d=some d'->∀ r,r / 65536=d'->D.rR r/\D.rW r)(hx:x.inR λr=>D.rR r/\D.rW r)(hy:y.inR D.rR):(uH P d ts x y).In D:=by
 cases d with
 | some d=>exact Qg (hd d rfl) hx hy
 | none =>
  unfold uH
  split <;> first | trivial | (rename_i h; cases h)
theorem Vy{t:TypeId}{x:A}{lo:Option A}(hr:x.inR λr=>D.rR r/\D.rW r):(Oa P t x lo).In D:=by
 unfold Oa
 split <;> try trivial
 split <;> try trivial
 unfold A.inR at hr;refine ⟨hr.1,λx=>?_⟩;rcases x with _ | (_ | _ | _) <;> (try dsimp only) <;> (try trivial)
 split <;> trivial
theorem Vz{t:TypeId}{x:A}{lo hi:Option A}(hr:x.inR λr=>D.rR r/\D.rW r):(Ob P t x lo hi).In D:=by
 unfold Ob
 split <;> try trivial
 split <;> try trivial
 unfold A.inR at hr;refine ⟨hr.1,λx=>?_⟩;rcases x with _ | (_ | _ | _) <;> (try dsimp only) <;> (try trivial)
 split <;> try trivial
 split <;> trivial
theorem Uz{ts:List TypeId}{x y:A}(hx:x.inR λr=>D.rR r/\D.rW r)(hy:y.inR D.rR):(Jo P ts x y).In D:=by
 unfold Jo
 split
 ·unfold IY
  split <;> try trivial
  split <;> try trivial
  refine Et hy λm ys=>?_
  split <;> try trivial
  unfold A.inR at hx;refine ⟨hx.1,λx=>?_⟩;rcases x with _ | (_ | _ | _) <;> (try dsimp only) <;> (try trivial)
  split <;> first | trivial | exact ⟨hx.2,trivial⟩
 rotate_left
 ·trivial
 split <;> try trivial
 split <;> try trivial
 refine Et hy λn ys=>?_
 split <;> try trivial
 unfold A.inR at hx;refine ⟨hx.1,λx=>?_⟩;rcases x with _ | (_ | _ | _) <;> (try dsimp only) <;> (try trivial)
 split <;> first | trivial | exact ⟨hx.2,trivial⟩
theorem Tp{ts:List TypeId}{x:A}(hx:x.inR λr=>D.rR r/\D.rW r):(Ek P ts x).In D:=by
 unfold Ek
 split <;> try trivial
 split <;> try trivial
 split <;> try trivial
 split <;> try trivial
 unfold A.inR at hx;refine ⟨hx.1,λx=>?_⟩;rcases x with _ | (_ | _ | _) <;> (try dsimp only) <;> (try trivial)
 split <;> first | trivial | exact ⟨hx.2,trivial⟩
theorem VA{t:TypeId}{x:A}(hr:x.inR D.rR):(G8 P t x).In D:=by
 unfold G8
 split <;> try trivial
 exact Et hr λ_ _=>trivial
end
theorem UA{P:Program}{p:Nat->Bool}{ρ:Nat->dG}{st:St}{o:Oper}(h:∀ x∈o.op.operands.toList,∀ a,st.eval x=some a->Wx ρ x a):(pI P ρ st.eval o).In (cS p ρ o).dom:=by
 have hdst:∀ {d:Nat} {r:Nat},o.dst=some d->r / 65536=d->has (DO (b8 ρ o) (kd o.dst)) (r / 65536):=λh h'=>lT.2 (.inr (by rw [h]; simp [kd,has,h']));unfold pI
 split <;> try (split <;> trivial)
 ·-- alloc
  rename_i e ho
  split <;> try trivial
  rename_i d z hd hz;have hf:cS p ρ o=⟨kd o.dst,kd o.dst,some [],some []⟩:=by simp only [cS,ho]
  rw [hf];exact Rs ⟨by simp [Fp.dom,kd,has,hd],by simp [Fp.dom,kd,has,hd]⟩
 ·-- box
  rename_i e x ho
  split <;> try trivial
  rename_i d v hd hv;have hx:x∈o.op.operands.toList:=by rw [ho]; simp [Op.operands]
  have hf:cS p ρ o=⟨kd o.dst,kd o.dst,b8 ρ o,b8 ρ o⟩:=by simp only [cS,ho]
  rw [hf]
  split
  ·refine BR (zA (gQ (λr hr=>?_) (h x hx v hv).rows)) λ_=>trivial;exact ⟨dq hx hr,dq hx hr⟩
  ·exact Rs ⟨by simp [Fp.dom,kd,has,hd],by simp [Fp.dom,kd,has,hd]⟩
 ·-- build
  rename_i t parts ho
  split <;> try trivial
  split <;> trivial
 ·-- buildSlice
  rename_i t n parts ho
  split <;> try trivial
  rename_i e d ps ht hd hp
  split <;> try trivial
  rename_i sz z hsz hz
  split <;> try trivial
  have hf:cS p ρ o=⟨some [],some [],DO (b8 ρ o) (kd o.dst),DO (b8 ρ o) (kd o.dst)⟩:=by simp only [cS,ho]
  rw [hf];refine BR (Es (Ms hz)) λts=>Ox (λq hq=>?_) λrows=>Eu ⟨hdst hd (by unfold eD; omega),hdst hd (by unfold eD; omega)⟩;obtain ⟨hl,hg⟩:=rD hp;obtain ⟨i,hi⟩:=zYh hq;obtain ⟨⟨j,x⟩,hx,he⟩:=hg i q hi;have hxm:x∈o.op.operands.toList:=by
   rw [ho];simp only [Op.operands,zXh];exact ⟨(j,x),zQY hx,rfl⟩
  simp only [zWv] at he;obtain ⟨v,hv,rfl⟩:=he;exact gQ (λr hr=>⟨lT.2 (.inl (dq hxm hr)),lT.2 (.inl (dq hxm hr))⟩) (h x hxm v hv).rows
 ·-- load
  rename_i t x ho
  split <;> try trivial
  rename_i a ha;have hx:x∈o.op.operands.toList:=by rw [ho]; simp [Op.operands]
  have hf:cS p ρ o=⟨(wX ρ x).objs,some [],(wX ρ x).rows,some []⟩:=by simp only [cS,ho]
  rw [hf];exact Ux (h x hx a ha).objs (h x hx a ha).rows
 ·-- store
  rename_i t x y ho
  split <;> try trivial
  rename_i a b ha hb;have hx:x∈o.op.operands.toList:=by rw [ho]; simp [Op.operands]
  have hy:y∈o.op.operands.toList:=by rw [ho]; simp [Op.operands]
  have hf:cS p ρ o=if (wX ρ x).isObj then ⟨(wX ρ x).objs,(wX ρ x).objs,some [],some []⟩ else ⟨(wX ρ x).objs,(wX ρ x).objs,b8 ρ o,b8 ρ o⟩:=by simp only [cS,ho]
  rw [hf]
  split
  ·rename_i hio;exact Oz (λs off he=>⟨(h x hx a ha).objs s off he,(h x hx a ha).objs s off he⟩) (.inl ((h x hx a ha).isob hio))
  ·exact Oz (λs off he=>⟨(h x hx a ha).objs s off he,(h x hx a ha).objs s off he⟩)
    (.inr ⟨gQ (λr hr=>⟨dq hx hr,dq hx hr⟩) (h x hx a ha).rows,gQ (λr hr=>⟨dq hy hr,dq hy hr⟩) (h y hy b hb).rows⟩)
 ·-- binOp
  split <;> try trivial
  ·split <;> trivial
  ·split <;> first | trivial | (split <;> trivial)
  ·split <;> trivial
  ·split <;> trivial
 ·-- convert
  rename_i s t x ho;have hx:x∈o.op.operands.toList:=by rw [ho]; simp [Op.operands]
  have hf:cS p ρ o=⟨some [],some [],b8 ρ o,some []⟩:=by simp only [cS,ho]
  rw [hf]
  split <;> try trivial
  rename_i a _ _ ha
  split <;> try trivial
  refine Et (gQ (λr hr=>dq hx hr) (h x hx _ ha).rows) λ_ _=>?_
  split <;> trivial
 ·-- makeSlice
  rename_i t l c ho;have hf:cS p ρ o=⟨some [],some [],DO (b8 ρ o) (kd o.dst),DO (b8 ρ o) (kd o.dst)⟩:=by simp only [cS,ho]
  rw [hf]
  split <;> try trivial
  exact Uy λd hd r hr=>⟨hdst hd hr,hdst hd hr⟩
 ·-- slice
  rename_i t x lo hi ho;have hx:x∈o.op.operands.toList:=by rw [ho]; simp [Op.operands]
  have hf:cS p ρ o=⟨some [],some [],DO (b8 ρ o) (kd o.dst),DO (b8 ρ o) (kd o.dst)⟩:=by simp only [cS,ho]
  rw [hf]
  split <;> try trivial
  rename_i a _ _ ha _ _;have hq:a.inR λr=>(⟨some [],some [],DO (b8 ρ o) (kd o.dst),DO (b8 ρ o) (kd o.dst)⟩:Fp).dom.rR r/\(⟨some [],some [],DO (b8 ρ o) (kd o.dst),DO (b8 ρ o) (kd o.dst)⟩:Fp).dom.rW r :=
   gQ (λr hr=>⟨lT.2 (.inl (dq hx hr)),lT.2 (.inl (dq hx hr))⟩) (h x hx _ ha).rows
  split
  ·split
   ·split
    ·exact Vy hq
    ·exact Vz hq
   ·exact Tn hq λd hd=>⟨lT.2 (.inr (by rw [hd]; simp [kd,has,eD,Nat.mul_div_cancel])),lT.2 (.inr (by rw [hd]; simp [kd,has,eD,Nat.mul_div_cancel]))⟩
  ·exact To hq
 ·-- fieldAddr
  split <;> first | trivial | exact Se
 ·-- field
  split <;> try trivial
  split <;> try trivial
  split <;> trivial
 ·-- indexAddr
  rename_i t x i ho;have hx:x∈o.op.operands.toList:=by rw [ho]; simp [Op.operands]
  have hf:cS p ρ o=⟨some [],some [],b8 ρ o,some []⟩:=by simp only [cS,ho]
  rw [hf]
  split <;> try trivial
  rename_i ha _;exact M9 (gQ (λr hr=>dq hx hr) (h x hx _ ha).rows)
 ·-- index
  split <;> try trivial
  split <;> try trivial
  split <;> trivial
 ·-- extract
  split <;> try trivial
  split <;> trivial
 ·-- len
  rename_i args ats ho
  split <;> try trivial
  rename_i x t hxs hts;have hx:x∈o.op.operands.toList:=by rw [ho]; simp [Op.operands,Call.operands,hxs]
  have hf:cS p ρ o=⟨some [],some [],b8 ρ o,some []⟩:=by simp only [cS,ho]
  rw [hf]
  split <;> try trivial
  rename_i ha;exact VA (gQ (λr hr=>dq hx hr) (h x hx _ ha).rows)
 ·-- append
  rename_i args ats ho
  split <;> try trivial
  rename_i x y hxs;have hx:x∈o.op.operands.toList:=by rw [ho]; simp [Op.operands,Call.operands,hxs]
  have hy:y∈o.op.operands.toList:=by rw [ho]; simp [Op.operands,Call.operands,hxs]
  have hf:cS p ρ o=⟨some [],some [],DO (b8 ρ o) (kd o.dst),DO (b8 ρ o) (kd o.dst)⟩:=by simp only [cS,ho]
  rw [hf]
  split <;> try trivial
  rename_i ha hb;exact Sf (λd hd r hr=>⟨hdst hd hr,hdst hd hr⟩) (gQ (λr hr=>⟨lT.2 (.inl (dq hx hr)),lT.2 (.inl (dq hx hr))⟩) (h x hx _ ha).rows)
   (gQ (λr hr=>lT.2 (.inl (dq hy hr))) (h y hy _ hb).rows)
 ·-- copy
  rename_i args ats ho
  split <;> try trivial
  rename_i x y hxs;have hx:x∈o.op.operands.toList:=by rw [ho]; simp [Op.operands,Call.operands,hxs]
  have hy:y∈o.op.operands.toList:=by rw [ho]; simp [Op.operands,Call.operands,hxs]
  have hf:cS p ρ o=⟨some [],some [],b8 ρ o,b8 ρ o⟩:=by simp only [cS,ho]
  rw [hf]
  split <;> try trivial
  rename_i ha hb;exact Uz (gQ (λr hr=>⟨dq hx hr,dq hx hr⟩) (h x hx _ ha).rows) (gQ (λr hr=>dq hy hr) (h y hy _ hb).rows)
 ·-- clear
  rename_i args ats ho
  split <;> try trivial
  rename_i x hxs;have hx:x∈o.op.operands.toList:=by rw [ho]; simp [Op.operands,Call.operands,hxs]
  have hf:cS p ρ o=⟨some [],some [],b8 ρ o,b8 ρ o⟩:=by simp only [cS,ho]
  rw [hf]
  split <;> try trivial
  rename_i ha;exact Tp (gQ (λr hr=>⟨dq hx hr,dq hx hr⟩) (h x hx _ ha).rows)
 ·split <;> try trivial
  split <;> trivial
 ·split <;> try trivial
  split <;> trivial
 ·trivial
end Go.Tm
set_option maxHeartbeats 1000000
namespace Go.Tm
open Go.RowKit
theorem Qh{P:Program}{ρ:Nat->dG}{ev ev':Operand->Option A}{o:Oper}(h:∀ x∈o.op.operands.toList,ev x=ev' x):pI P ρ ev o=pI P ρ ev' o:=by
 obtain ⟨dst,op,ty,pos,aft,gd⟩:=o
 cases op
 case call c =>
  obtain ⟨cal,args,ts⟩:=c
  cases cal with
  | value f=>simp only [pI]
  | invoke r m=>simp only [pI]
  | builtin b =>
   have h':∀ x∈args.toList,ev x=ev' x:=λx hx=>h x (by simp [Op.operands,Call.operands] at hx ⊢; exact hx)
   cases b <;> simp only [pI]
   all_goals
    split <;> try rfl
    first | (rename_i hl; rw [hl] at h') | (rename_i hl _; rw [hl] at h')
    try rw [h' _ (zQv ..)]
    try rw [h' _ (zQx _ (zQv ..))]
 case build t parts =>
  have:(parts.toList.map λ(i,x)=>(ev x).map λv=>(i,v))=parts.toList.map λ(i,x)=>(ev' x).map λv=>(i,v) :=
   zWh λq hq=>by
    have:=h q.2 (by simp only [Op.operands,zXh]; exact ⟨q,hq,rfl⟩);simp only [this]
  simp only [pI,this]
 case buildSlice t n parts =>
  have:(parts.toList.map λ(i,x)=>(ev x).map λv=>(i,v))=parts.toList.map λ(i,x)=>(ev' x).map λv=>(i,v) :=
   zWh λq hq=>by
    have:=h q.2 (by simp only [Op.operands,zXh]; exact ⟨q,hq,rfl⟩);simp only [this]
  simp only [pI,this]
 case makeFunc f first caps =>
  cases f <;> simp only [pI]
  have:caps.toList.map ev=caps.toList.map ev':=zWh λx hx=>h x (by simp [Op.operands] at hx ⊢; exact .inr hx);rw [this]
 case slice t x lo hi m =>
  cases m <;> simp only [pI]
  have h1:ev x=ev' x:=h x (by simp [Op.operands]);have h2:Jn ev lo=Jn ev' lo:=by
   cases lo with
   | none=>rfl
   | some l=>simp only [Jn]; rw [h l (by simp [Op.operands])]
  have h3:Jn ev hi=Jn ev' hi:=by
   cases hi with
   | none=>rfl
   | some l=>simp only [Jn]; rw [h l (by simp [Op.operands])]
  rw [h1,h2,h3]
 all_goals
  simp [Op.operands] at h;simp only [pI]
  try simp only [h]
inductive Sg (P:Program) (p:Nat->Bool) (ρ:Nat->dG) (st:St) (o:Oper) (x:A) (st':St):Prop
 | plain (h:(pI P ρ st.eval o).run st=some (x,st'))
 | call (m:Bool) (d f:Nat) (xf:Operand) (args:Array Operand) (ts:Array TypeId) (caps as:List A) (vs:List V) (st1:St) (res:V) (cj:List (List C))
   (ho:o.op=.call { callee:=.value xf,args,argTypes:=ts }) (hd:o.dst=some d) (hf:st.eval xf=some (.clo f caps)) (has:cT (args.toList.map st.eval)=some as)
   (hp:(jQ m p (as++caps) MA.ret).run st=some (vs,st1)) (hc:aH P f vs res cj) (hr:(dg d (dy (as++caps)) cj (V.toA d (eD d 0) res MA.ret)).run st1=some (x,st'))
 | callB (d f:Nat) (xf:Operand) (args:Array Operand) (ts:Array TypeId) (caps as:List A) (vs:List V) (res:V)
   (ho:o.op=.call { callee:=.value xf,args,argTypes:=ts }) (hd:o.dst=some d) (hf:st.eval xf=some (.clo f caps)) (has:cT (args.toList.map st.eval)=some as)
   (hp:(dz (as++caps) MA.ret).run st=some (vs,st)) (hc:aH P f vs res []) (hpl:res.plain) (hr:(V.toA d (eD d 0) res MA.ret).run st=some (x,st'))
 | callI (m:Bool) (d f:Nat) (xf:Operand) (args:Array Operand) (ts:Array TypeId) (caps as:List A) (vs:List V) (st1:St) (cj:List (List C)) (s off:Nat)
   (ho:o.op=.call { callee:=.value xf,args,argTypes:=ts }) (hd:o.dst=some d) (hf:st.eval xf=some (.clo f caps)) (has:cT (args.toList.map st.eval)=some as)
   (hp:(jQ m p (as++caps) MA.ret).run st=some (vs,st1)) (hc:Td P f vs off cj) (hhd:(as++caps).head?=some (.obj s 0)) (hr:(dg d (dy (as++caps)) cj (MA.ret (.obj s off))).run st1=some (x,st'))
 | callD (d f:Nat) (xf:Operand) (args:Array Operand) (ts:Array TypeId) (caps as:List A) (vs:List V) (res:V)
   (ho:o.op=.call { callee:=.value xf,args,argTypes:=ts }) (hd:o.dst=some d) (hf:st.eval xf=some (.clo f caps)) (has:cT (args.toList.map st.eval)=some as)
   (hp:(dz (as++caps) MA.ret).run st=some (vs,st)) (hc:pe P f vs res) (hr:(V.toA d (eD d 0) res MA.ret).run st=some (x,st'))
 | callX (m:Bool) (d f:Nat) (xf:Operand) (args:Array Operand) (ts:Array TypeId) (az caps as xs:List A) (vs us:List V) (st1:St) (res:V) (cj:List (List C))
   (ho:o.op=.call { callee:=.value xf,args,argTypes:=ts }) (hd:o.dst=some d) (hf:st.eval xf=some (.clo f caps)) (has:cT (args.toList.map st.eval)=some az) (hcat:az++caps=as++xs)
   (hp:(jQ m p as MA.ret).run st=some (vs,st1)) (hq:(dz xs MA.ret).run st1=some (us,st1)) (hc:P2 P f vs us res cj) (hr:(dg d (dy as) cj (V.toA d (eD d 0) res MA.ret)).run st1=some (x,st'))
 | callW (d f r e lo m:Nat) (ts:List T) (rows:List (List T)) (xf:Operand) (args:Array Operand) (tys:Array TypeId) (as:List A) (vs:List V)
   (ho:o.op=.call { callee:=.value xf,args,argTypes:=tys }) (hd:o.dst=some d) (hf:st.eval xf=some (.clo f [])) (has:cT (args.toList.map st.eval)=some (.agg (ts.map A.t++[.own r]) :: as))
   (hrw:st.rw r=some (.live e 1 rows)) (hp:Ov as=some vs) (hc:Vl P f e ts rows vs lo m) (hr:x=.win r lo m) (hst:st'=st)
 | callM (f:Nat) (xf:Operand) (args:Array Operand) (ts:Array TypeId) (as:List A) (r:T)
   (ho:o.op=.call { callee:=.value xf,args,argTypes:=ts }) (hf:st.eval xf=some (.clo f [])) (has:cT (args.toList.map st.eval)=some as)
   (hk:as.all A.mk=true) (hx:as.any A.hasX=true) (hc:WL P f as r) (hr:x=.t r) (hst:st'=st)
 | callR (d f r e sz:Nat) (rows rows':List (List T)) (xf:Operand) (args:Array Operand) (ts:Array TypeId) (as:List A) (vs:List V) (res:T)
   (ho:o.op=.call { callee:=.value xf,args,argTypes:=ts }) (hd:o.dst=some d) (hf:st.eval xf=some (.clo f [])) (has:cT (args.toList.map st.eval)=some (.own r :: as))
   (hrw:st.rw r=some (.live e sz rows)) (hp:(dz as MA.ret).run st=some (vs,st)) (hpl:sU vs) (hc:WM P f e sz rows vs res rows')
   (hr:x=.t res) (hst:st'={ st with rw:=dV st.rw r (some (.live e sz rows')) })
section
variable {P:Program} {E:En} [Tb P E] {g:Gh} {st st':St} {a:Act} {w:World} {p:Nat->Bool} {ρ:Nat->dG} {o:Oper} {x:A}
theorem Sg.sound{n:Nat}(hS:gF E g n st a w)(h:Sg P p ρ st o x st'):u6 P o a w λv w'=>∃ g',u5 E g st w x st' v g' w':=by
 cases h with
 | plain h =>
  obtain ⟨u,g',w',h1,h2⟩:=Qa hS h;exact Hb ⟨u,w',h1,g',h2⟩
 | call m d f xf args ts caps as vs st1 res cj ho hd hf has hp hc hr=>exact Qb hS ho hf has hp hc hr
 | callB d f xf args ts caps as vs res ho hd hf has hp hc hpl hr=>exact Ol hS ho hf has hp hc hpl hr
 | callI m d f xf args ts caps as vs st1 cj s off ho hd hf has hp hc hhd hr=>exact Om hS ho hf has hp hc hhd hr
 | callD d f xf args ts caps as vs res ho hd hf has hp hc hr=>exact Oo hS ho hf has hp hc hr
 | callX m d f xf args ts az caps as xs vs us st1 res cj ho hd hf has hcat hp hq hc hr=>exact Ou hS ho hf has hcat hp hq hc hr
 | callW d f r e lo m ts rows xf args tys as vs ho hd hf has hrw hp hc hr hst=>subst hr hst; exact Ow hS ho hf has hrw hp hc
 | callM f xf args ts as r ho hf has hk hx hc hr hst=>subst hr hst; exact Oq hS ho hf has hk hx hc
 | callR d f r e sz rows rows' xf args ts as vs res ho hd hf has hrw hp hpl hc hr hst=>subst hr hst; exact Ot hS ho hf has hrw hp hpl hc
theorem sV{st st2:St}{o:Oper}(h:∀ t,.tmp t∈o.op.operands.toList->st2.tm t=st.tm t):∀ y∈o.op.operands.toList,st2.eval y=st.eval y:=by
 intro y hy
 cases y with
 | tmp t=>simp only [St.eval]; rw [h t hy]
 | _=>rfl
theorem St.ext{s t:St}(h1:s.tm=t.tm)(h2:s.ob=t.ob)(h3:s.rw=t.rw):s=t:=by
 cases s; cases t; cases h1; cases h2; cases h3; rfl
theorem Si{D:Qc}{a:A}(ho:∀ s,D.oR s/\D.oW s)(hr:∀ r,D.rR r/\D.rW r):a.argIn D p:=by
 unfold A.argIn
 split
 ·exact ⟨ho _,λ_=>hr⟩
 ·exact BQ hr _
theorem UB{D:Qc}{y:Operand}{a:A}(hc:Wx ρ y a)(ho:∀ s,has (wX ρ y).objs s->D.oR s/\D.oW s)(hr:∀ r,has (uc p (wX ρ y)) (r / 65536)->D.rR r/\D.rW r)(hfit:∀ s off,a=.obj s off->wX ρ y=.obj s\/wX ρ y=.any) :
  (a.argIn D p)/\a.inR λr=>D.rR r/\D.rW r:=by
 have h2:a.inR λr=>D.rR r/\D.rW r:=by
  by_cases hob:(wX ρ y).isObj=true
  ·obtain ⟨s,off,rfl⟩:=hc.isob hob;unfold A.inR; trivial
  ·refine gQ (λr h=>hr r ?_) hc.rows
   revert h hob
   cases wX ρ y <;> simp [uc,dG.isObj]
 refine ⟨?_,h2⟩;unfold A.argIn
 split
 ·rename_i s;refine ⟨ho s (hc.objs s 0 rfl),λhp r=>hr r ?_⟩;rcases hfit s 0 rfl with h | h <;> rw [h] <;> simp [uc,hp,has,dG.rows]
 ·exact h2
theorem UC{y:Operand}{s off:Nat}(hf:ek ρ st o=true)(hy:y∈o.op.operands.toList)(h:st.eval y=some (.obj s off)):wX ρ y=.obj s\/wX ρ y=.any:=by
 cases y with
 | tmp t =>
  simp only [St.eval,Option.some.injEq] at h;have:=List.all_eq_true.1 hf _ hy;simp only [h] at this;simp only [wX]
  revert this
  cases ρ t <;> simp [dG.fits]
 | const v=>exact absurd rfl ((AX (Q:=λ_=>True) h).2 s off)
 | func f=>simp [St.eval] at h
 | global=>cases h
theorem UD{y:Operand}{f:FuncId}{caps:List A}(hf:ek ρ st o=true)(hy:y∈o.op.operands.toList)(h:st.eval y=some (.clo f caps)):caps=[]\/wX ρ y=.any:=by
 cases y with
 | tmp t =>
  simp only [St.eval,Option.some.injEq] at h;have:=List.all_eq_true.1 hf _ hy;simp only [h] at this;simp only [wX]
  revert this
  cases ρ t <;> simp [dG.fits]
 | const v =>
  simp only [St.eval] at h;unfold A.ofValue at h
  split at h
  ·split at h <;> cases h
  ·cases h
  ·unfold nc at h
   split at h <;> cases h
 | func f'=>simp only [St.eval,Option.some.injEq,A.clo.injEq] at h; exact .inl h.2.symm
 | global=>cases h
theorem Sg.loc(hf:ek ρ st o=true)(h:Sg P p ρ st o x st'):P3 (cS p ρ o).dom st st' /\
  ∀ st2,(∀ t,.tmp t∈o.op.operands.toList->st2.tm t=st.tm t)->On (cS p ρ o).dom st st2->∃ st2',Sg P p ρ st2 o x st2'/\P3 (cS p ρ o).dom st2 st2'/\On (cS p ρ o).dom st' st2':=by
 have hcls:∀ x∈o.op.operands.toList,∀ a,st.eval x=some a->Wx ρ x a:=λx hx a h=>Tl hf hx h
 -- a call's parts
 have hcall:∀ {d f:Nat} {xf:Operand} {args:Array Operand} {ts:Array TypeId} {as caps:List A},o.op=.call { callee:=.value xf,args,argTypes:=ts }->o.dst=some d->st.eval xf=some (.clo f caps)->cT (args.toList.map st.eval)=some as ->
   (∀ y∈xf :: args.toList,y∈o.op.operands.toList)/\(∀ r,r / 65536=d->(cS p ρ o).dom.rR r/\(cS p ρ o).dom.rW r)/\((cS p ρ o).dom.oR d/\(cS p ρ o).dom.oW d) /\
   ∀ a∈as++caps,a.argIn (cS p ρ o).dom p/\a.inR λr=>(cS p ρ o).dom.rR r/\(cS p ρ o).dom.rW r:=by
  intro d f xf args ts as caps ho hd hxf hass;have hf':cS p ρ o=⟨DO (Cl (o.op.operands.toList.map λx=>(wX ρ x).objs)) (kd o.dst),DO (Cl (o.op.operands.toList.map λx=>(wX ρ x).objs)) (kd o.dst),
   DO (Cl (o.op.operands.toList.map λx=>uc p (wX ρ x))) (kd o.dst),DO (Cl (o.op.operands.toList.map λx=>uc p (wX ρ x))) (kd o.dst)⟩:=by simp only [cS,ho]
  have hops:∀ y∈xf :: args.toList,y∈o.op.operands.toList:=λy hy=>by
   rw [ho];simp only [Op.operands,Call.operands]
   simpa using hy
  have hO:∀ y∈o.op.operands.toList,∀ s,has (wX ρ y).objs s->(cS p ρ o).dom.oR s/\(cS p ρ o).dom.oW s:=λy hy s hs=>by
   rw [hf'];have:=lT (a:=Cl (o.op.operands.toList.map λx=>(wX ρ x).objs)) (b:=kd o.dst) |>.2 (.inl (JC (List.mem_map.2 ⟨y,hy,rfl⟩) hs))
   exact ⟨this,this⟩
  have hR:∀ y∈o.op.operands.toList,∀ r,has (uc p (wX ρ y)) (r / 65536)->(cS p ρ o).dom.rR r/\(cS p ρ o).dom.rW r:=λy hy r hs=>by
   rw [hf'];have:=lT (a:=Cl (o.op.operands.toList.map λx=>uc p (wX ρ x))) (b:=kd o.dst) |>.2 (.inl (JC (List.mem_map.2 ⟨y,hy,rfl⟩) hs))
   exact ⟨this,this⟩
  refine ⟨hops,λr hr=>?_,?_,λa ha=>?_⟩
  ·rw [hf'];have:=lT (k:=r / 65536) (a:=Cl (o.op.operands.toList.map λx=>uc p (wX ρ x))) (b:=kd o.dst) |>.2 (.inr (by rw [hd]; simp [kd,has,hr]))
   exact ⟨this,this⟩
  ·rw [hf'];have:=lT (k:=d) (a:=Cl (o.op.operands.toList.map λx=>(wX ρ x).objs)) (b:=kd o.dst) |>.2 (.inr (by rw [hd]; simp [kd,has]))
   exact ⟨this,this⟩
  ·rcases List.mem_append.1 ha with ha | ha
   ·obtain ⟨hl,hg⟩:=rD hass;obtain ⟨i,hi⟩:=zYh ha;obtain ⟨y,hy,he⟩:=hg i a hi;have hym:=hops y (zQx _ (zQY hy));exact UB (hcls y hym a he) (hO y hym) (hR y hym) (λs off h=>UC hf hym (h ▸ he))
   ·have hxm:=hops xf (zQv ..);rcases UD hf hxm hxf with h | h
    ·subst h; simp at ha
    ·have hOa:∀ s,(cS p ρ o).dom.oR s/\(cS p ρ o).dom.oW s:=λs=>hO xf hxm s (by rw [h]; trivial);have hRa:∀ r,(cS p ρ o).dom.rR r/\(cS p ρ o).dom.rW r:=λr=>hR xf hxm r (by rw [h]; trivial);exact ⟨Si hOa hRa,BQ hRa a⟩
 cases h with
 | plain h =>
  obtain ⟨h1,h2⟩:=mz (pI P ρ st.eval o) (UA hcls) h;refine ⟨h1,λst2 ht hon=>?_⟩;obtain ⟨st2',h3,h4,h5⟩:=h2 st2 hon;refine ⟨st2',.plain ?_,h4,h5⟩;rw [Qh (sV ht)];exact h3
 | call m d f xf args ts caps as vs st1 res cj ho hd hxf hass hp hc hr =>
  obtain ⟨hops,hdr,hdo,hin⟩:=hcall ho hd hxf hass;obtain ⟨h1,h2⟩:=mz (jQ m p (as++caps) MA.ret) (Ew (D:=(cS p ρ o).dom) (λa ha=>(hin a ha).1) (λ_=>trivial)) hp;obtain ⟨h3,h4⟩:=mz (dg d (dy (as++caps)) cj (V.toA d (eD d 0) res MA.ret)) (xo (D:=(cS p ρ o).dom) hdr (λs hs=>AW (λa ha=>(hin a ha).1) s hs) (Ex hdr hdo λ_=>trivial)) hr;refine ⟨h1.trans h3,λst2 ht hon=>?_⟩;obtain ⟨st3,h5,h6,h7⟩:=h2 st2 hon;obtain ⟨st4,h8,h9,h10⟩:=h4 st3 h7;have hev:=sV ht;refine ⟨st4,.call m d f xf args ts caps as vs st3 res cj ho hd ((hev xf (hops xf (zQv ..))).trans hxf) ?_ h5 hc h8,h6.trans h9,h10⟩;rw [<- hass]
  congr 1
  exact zWh λy hy=>hev y (hops y (zQx _ hy))
 | callI m d f xf args ts caps as vs st1 cj s off ho hd hxf hass hp hc hhd hr =>
  obtain ⟨hops,hdr,hdo,hin⟩:=hcall ho hd hxf hass;obtain ⟨h1,h2⟩:=mz (jQ m p (as++caps) MA.ret) (Ew (D:=(cS p ρ o).dom) (λa ha=>(hin a ha).1) (λ_=>trivial)) hp;obtain ⟨h3,h4⟩:=mz (dg d (dy (as++caps)) cj (MA.ret (A.obj s off))) (xo (D:=(cS p ρ o).dom) hdr (λs hs=>AW (λa ha=>(hin a ha).1) s hs) trivial) hr;refine ⟨h1.trans h3,λst2 ht hon=>?_⟩;obtain ⟨st3,h5,h6,h7⟩:=h2 st2 hon;obtain ⟨st4,h8,h9,h10⟩:=h4 st3 h7;have hev:=sV ht;refine ⟨st4,.callI m d f xf args ts caps as vs st3 cj s off ho hd ((hev xf (hops xf (zQv ..))).trans hxf) ?_ h5 hc hhd h8,h6.trans h9,h10⟩;rw [<- hass]
  congr 1
  exact zWh λy hy=>hev y (hops y (zQx _ hy))
 | callB d f xf args ts caps as vs res ho hd hxf hass hp hc hpl hr =>
  obtain ⟨hops,hdr,hdo,hin⟩:=hcall ho hd hxf hass;obtain ⟨h1,h2⟩:=mz (dz (as++caps) MA.ret) (pM (D:=⟨(cS p ρ o).dom.oR,λ_=>False,(cS p ρ o).dom.rR,λ_=>False⟩) (pL λa ha=>gQ (λr h=>h.1) (hin a ha).2) (λ_=>trivial)) hp;obtain ⟨h3,h4⟩:=mz (V.toA d (eD d 0) res MA.ret) (Ex (D:=(cS p ρ o).dom) hdr hdo λ_=>trivial) hr;refine ⟨h3,λst2 ht hon=>?_⟩;obtain ⟨st3,h5,h6,h7⟩:=h2 st2 ⟨hon.ob,hon.rw⟩;have h32:st3=st2:=St.ext h6.tm (funext λs=>h6.ob s (λh=>h)) (funext λs=>h6.rw s (λh=>h));subst h32;obtain ⟨st4,h8,h9,h10⟩:=h4 st3 hon;have hev:=sV ht;refine ⟨st4,.callB d f xf args ts caps as vs res ho hd ((hev xf (hops xf (zQv ..))).trans hxf) ?_ h5 hc hpl h8,h9,h10⟩;rw [<- hass]
  congr 1
  exact zWh λy hy=>hev y (hops y (zQx _ hy))
 | callD d f xf args ts caps as vs res ho hd hxf hass hp hc hr =>
  obtain ⟨hops,hdr,hdo,hin⟩:=hcall ho hd hxf hass;obtain ⟨h1,h2⟩:=mz (dz (as++caps) MA.ret) (pM (D:=⟨(cS p ρ o).dom.oR,λ_=>False,(cS p ρ o).dom.rR,λ_=>False⟩) (pL λa ha=>gQ (λr h=>h.1) (hin a ha).2) (λ_=>trivial)) hp;obtain ⟨h3,h4⟩:=mz (V.toA d (eD d 0) res MA.ret) (Ex (D:=(cS p ρ o).dom) hdr hdo λ_=>trivial) hr;refine ⟨h3,λst2 ht hon=>?_⟩;obtain ⟨st3,h5,h6,h7⟩:=h2 st2 ⟨hon.ob,hon.rw⟩;have h32:st3=st2:=St.ext h6.tm (funext λs=>h6.ob s (λh=>h)) (funext λs=>h6.rw s (λh=>h));subst h32;obtain ⟨st4,h8,h9,h10⟩:=h4 st3 hon;have hev:=sV ht;refine ⟨st4,.callD d f xf args ts caps as vs res ho hd ((hev xf (hops xf (zQv ..))).trans hxf) ?_ h5 hc h8,h9,h10⟩;rw [<- hass]
  congr 1
  exact zWh λy hy=>hev y (hops y (zQx _ hy))
 | callX m d f xf args ts az caps as xs vs us st1 res cj ho hd hxf hass hcat hp hq hc hr =>
  obtain ⟨hops,hdr,hdo,hin⟩:=hcall ho hd hxf hass;rw [hcat] at hin;obtain ⟨h1,h2⟩:=mz (jQ m p as MA.ret) (Ew (D:=(cS p ρ o).dom) (λa ha=>(hin a (zZg _ ha)).1) (λ_=>trivial)) hp;obtain ⟨g1,g2⟩:=mz (dz xs MA.ret) (pM (D:=⟨(cS p ρ o).dom.oR,λ_=>False,(cS p ρ o).dom.rR,λ_=>False⟩) (pL λa ha=>gQ (λr h=>h.1) (hin a (List.mem_append_right _ ha)).2) (λ_=>trivial)) hq;obtain ⟨h3,h4⟩:=mz (dg d (dy as) cj (V.toA d (eD d 0) res MA.ret)) (xo (D:=(cS p ρ o).dom) hdr (λs hs=>AW (λa ha=>(hin a (zZg _ ha)).1) s hs) (Ex hdr hdo λ_=>trivial)) hr;refine ⟨h1.trans h3,λst2 ht hon=>?_⟩;obtain ⟨st3,h5,h6,h7⟩:=h2 st2 hon;obtain ⟨st5,g5,g6,g7⟩:=g2 st3 ⟨h7.ob,h7.rw⟩;have h53:st5=st3:=St.ext g6.tm (funext λs=>g6.ob s (λh=>h)) (funext λs=>g6.rw s (λh=>h));subst h53;obtain ⟨st4,h8,h9,h10⟩:=h4 st5 h7;have hev:=sV ht;refine ⟨st4,.callX m d f xf args ts az caps as xs vs us st5 res cj ho hd ((hev xf (hops xf (zQv ..))).trans hxf) ?_ hcat h5 g5 hc h8,h6.trans h9,h10⟩;rw [<- hass]
  congr 1
  exact zWh λy hy=>hev y (hops y (zQx _ hy))
 | callW d f r e lo m ts rows xf args tys as vs ho hd hxf hass hrw hp hc hr hst =>
  subst hr hst;obtain ⟨hops,hdr,hdo,hin⟩:=hcall (caps:=[]) ho hd hxf hass;have hr0:=(hin (.agg (ts.map A.t++[.own r])) (by simp)).2;unfold A.inR at hr0;have hr1:(cS p ρ o).dom.rR r/\(cS p ρ o).dom.rW r:=by
   have key:∀ l:List T,eo (λr=>(cS p ρ o).dom.rR r/\(cS p ρ o).dom.rW r) (l.map A.t++[.own r])->(cS p ρ o).dom.rR r/\(cS p ρ o).dom.rW r:=by
    intro l
    induction l with
    | nil=>intro h; simp only [List.map_nil,zQy] at h; unfold eo at h; have:=h.1; unfold A.inR at this; exact this
    | cons x l ih=>intro h; simp only [zWq,List.cons_append] at h; unfold eo at h; exact ih h.2
   exact key ts hr0
  refine ⟨P3.refl _ _,λst2 ht hon=>⟨st2,?_,P3.refl _ _,hon⟩⟩;have hev:=sV ht;refine .callW d f r e lo m ts rows xf args tys as vs ho hd ((hev xf (hops xf (zQv ..))).trans hxf) ?_ ((hon.rw r hr1.1).trans hrw) hp hc rfl rfl;rw [<- hass]
  congr 1
  exact zWh λy hy=>hev y (hops y (zQx _ hy))
 | callM f xf args ts as r ho hxf hass hk hx hc hr hst =>
  subst hr hst;refine ⟨P3.refl _ _,λst2 ht hon=>⟨st2,?_,P3.refl _ _,hon⟩⟩;have hev:=sV ht;have hops:∀ y∈xf :: args.toList,y∈o.op.operands.toList:=λy hy=>by
   rw [ho];simp only [Op.operands,Call.operands]
   simpa using hy
  refine .callM f xf args ts as r ho ((hev xf (hops xf (zQv ..))).trans hxf) ?_ hk hx hc rfl rfl;rw [<- hass]
  congr 1
  exact zWh λy hy=>hev y (hops y (zQx _ hy))
 | callR d f r e sz rows rows' xf args ts as vs res ho hd hxf hass hrw hp hpl hc hr hst =>
  subst hr hst;obtain ⟨hops,hdr,hdo,hin⟩:=hcall (caps:=[]) ho hd hxf hass;have hr0:=(hin (.own r) (by simp)).2;unfold A.inR at hr0;obtain ⟨h1,h2⟩:=mz (dz as MA.ret) (pM (D:=⟨(cS p ρ o).dom.oR,λ_=>False,(cS p ρ o).dom.rR,λ_=>False⟩) (pL λa ha=>gQ (λr h=>h.1) (hin a (by simp [ha])).2) (λ_=>trivial)) hp;refine ⟨⟨rfl,λ_ _=>rfl,λi hi=>bZ _ _ _ _ (λhe=>hi (he ▸ hr0.2))⟩,λst2 ht hon=>?_⟩;obtain ⟨st3,h5,h6,h7⟩:=h2 st2 ⟨hon.ob,hon.rw⟩;have h32:st3=st2:=St.ext h6.tm (funext λs=>h6.ob s (λh=>h)) (funext λs=>h6.rw s (λh=>h));subst h32;have hev:=sV ht;refine ⟨_,.callR d f r e sz rows rows' xf args ts as vs res ho hd ((hev xf (hops xf (zQv ..))).trans hxf) ?_ ((hon.rw r hr0.1).trans hrw) h5 hpl hc rfl rfl,⟨rfl,λ_ _=>rfl,λi hi=>bZ _ _ _ _ (λhe=>hi (he ▸ hr0.2))⟩,⟨hon.ob,λi hi=>Qd (hon.rw i hi)⟩⟩;rw [<- hass]
  congr 1
  exact zWh λy hy=>hev y (hops y (zQx _ hy))
end
end Go.Tm
namespace Go.Tm
open Go.RowKit
def iB(ops:Array Oper)(st:St)(o:Oper):Option Bool:=match o.guard with
 | none=>some true
 | some (j,want)=>match (ops[j]?).bind (·.dst) with
  | none=>some false
  | some d=>match st.tm d with
   | .t (.bool b)=>some (b == want)
   | .tup []=>some false
   | _=>none
def UE(ops:Array Oper)(o:Oper):List Nat:=match o.guard with
 | none=>[]
 | some (j,_)=>((ops[j]?).bind (·.dst)).toList
inductive xp (P:Program) (p:Nat->Bool) (ρ:Nat->dG) (ops:Array Oper) (o:Oper) (st:St):St->Prop
 | run (x:A) (st1:St) (hg:iB ops st o=some true) (hf:ek ρ st o=true) (h:Sg P p ρ st o x st1):xp P p ρ ops o st (st1.put o.dst x)
 | skip (hg:iB ops st o=some false):xp P p ρ ops o st (st.put o.dst (.tup []))
section
variable {P:Program} {E:En} [Tb P E] {g:Gh} {st st':St} {a:Act} {w:World} {p:Nat->Bool} {ρ:Nat->dG} {o:Oper} {x:A} {ops:Array Oper}
theorem Hc{st2:St}(h:∀ d∈UE ops o,st2.tm d=st.tm d):iB ops st2 o=iB ops st o:=by
 unfold iB UE at *
 split
 ·rfl
 ·rename_i j want hg;simp only [hg] at h
  split
  ·rfl
  ·rename_i d hd;simp only [hd,Option.toList] at h;rw [h d (by simp)]
theorem Na{st2:St}(h:∀ t,.tmp t∈o.op.operands.toList->st2.tm t=st.tm t):ek ρ st2 o=ek ρ st o:=by
 unfold ek
 revert h
 generalize o.op.operands.toList=l;intro h
 induction l with
 | nil=>rfl
 | cons y l ih =>
  simp only [List.all_cons];rw [ih λt ht=>h t (zQx _ ht)]
  cases y with
  | tmp t=>simp only [h t (zQv ..)]
  | _=>rfl
def Rt(D:Qc)(dst:Option Nat)(st st':St):Prop:=(∀ t,dst≠some t->st'.tm t=st.tm t)/\(∀ s,¬ D.oW s->st'.ob s=st.ob s)/\∀ r,¬ D.rW r->st'.rw r=st.rw r
theorem JE{d:Option Nat}{v:A}{t:Nat}(h:d≠some t):(st.put d v).tm t=st.tm t:=by
 cases d with
 | none=>rfl
 | some d=>exact bZ _ _ _ _ (λhe=>h (he ▸ rfl))
theorem BT{d:Nat}{v:A}:(st.put (some d) v).tm d=v:=cO _ _ _
theorem zC{d:Option Nat}{v:A}:(st.put d v).ob=st.ob:=by cases d <;> rfl
theorem zD{d:Option Nat}{v:A}:(st.put d v).rw=st.rw:=by cases d <;> rfl
theorem xp.loc(h:xp P p ρ ops o st st'):Rt (cS p ρ o).dom o.dst st st' /\
  ∀ st2,(∀ t,.tmp t∈o.op.operands.toList->st2.tm t=st.tm t)->(∀ d∈UE ops o,st2.tm d=st.tm d)->On (cS p ρ o).dom st st2 ->
   ∃ st2',xp P p ρ ops o st2 st2'/\(∀ t,o.dst=some t->st2'.tm t=st'.tm t)/\Rt (cS p ρ o).dom o.dst st2 st2'/\On (cS p ρ o).dom st' st2':=by
 cases h with
 | run x st1 hg hf h =>
  obtain ⟨h1,h2⟩:=h.loc hf;refine ⟨⟨λt ht=>by rw [JE ht,h1.tm],λs hs=>by rw [zC]; exact h1.ob s hs,λs hs=>by rw [zD]; exact h1.rw s hs⟩,λst2 ht hd hon=>?_⟩;obtain ⟨st2',h3,h4,h5⟩:=h2 st2 ht hon;refine ⟨_,.run x st2' ((Hc hd).trans hg) ((Na ht).trans hf) h3,λt he=>?_,⟨λt ht=>by rw [JE ht,h4.tm],λs hs=>by rw [zC]; exact h4.ob s hs,λs hs=>by rw [zD]; exact h4.rw s hs⟩,⟨λs hs=>by rw [zC,zC]; exact h5.ob s hs,λs hs=>by rw [zD,zD]; exact h5.rw s hs⟩⟩;rw [he,BT,BT]
 | skip hg =>
  refine ⟨⟨λt ht=>JE ht,λs hs=>by rw [zC],λs hs=>by rw [zD]⟩,λst2 ht hd hon=>?_⟩;refine ⟨_,.skip ((Hc hd).trans hg),λt he=>by rw [he,BT,BT],⟨λt ht=>JE ht,λs hs=>by rw [zC],λs hs=>by rw [zD]⟩,⟨λs hs=>by rw [zC,zC]; exact hon.ob s hs,λs hs=>by rw [zD,zD]; exact hon.rw s hs⟩⟩
def Sj(a b:Option (List Nat)):Bool:=match a,b with
 | some [],_=>true
 | _,some []=>true
 | some a,some b=>a.all λx=>!b.contains x
 | _,_=>false
theorem BU{a b:Option (List Nat)}(h:Sj a b=true){k:Nat}(ha:has a k):¬ has b k:=by
 intro hb;unfold Sj at h
 split at h
 ·simp [has] at ha
 ·simp [has] at hb
 ·have:=List.all_eq_true.1 h k ha;simp at this;exact this hb
 ·cases h
def zE(ops:Array Oper)(o:Oper):List Nat:=UE ops o++o.op.operands.toList.filterMap λ| .tmp t=>some t | _=>none
def JF(d:Option Nat)(l:List Nat):Bool:=match d with | some d=>l.contains d | none=>false
def OA(p:Nat->Bool)(ρ:Nat->dG)(ops:Array Oper)(o1 o2:Oper):Bool :=
 !JF o1.dst (o2.dst.toList++zE ops o2) && !JF o2.dst (zE ops o1) && Sj (cS p ρ o1).oW (cS p ρ o2).oR && Sj (cS p ρ o2).oW (cS p ρ o1).oR &&
  Sj (cS p ρ o1).rW (cS p ρ o2).rR && Sj (cS p ρ o2).rW (cS p ρ o1).rR
theorem Ey{t:Nat}(h:.tmp t∈o.op.operands.toList):t∈zE ops o:=by
 unfold zE;exact List.mem_append.2 (.inr (List.mem_filterMap.2 ⟨_,h,rfl⟩))
theorem UF{o1 o2:Oper}{b:St}{c:St}(hi:OA p ρ ops o1 o2=true)(h2:xp P p ρ ops o2 st b)(h1:xp P p ρ ops o1 b c):∃ b',xp P p ρ ops o1 st b'/\xp P p ρ ops o2 b' c:=by
 simp only [OA,sY,zYJ] at hi;obtain ⟨⟨⟨⟨⟨hd1,hd2⟩,ho12⟩,ho21⟩,hr12⟩,hr21⟩:=hi;have hn1:∀ t,o1.dst=some t->t∉o2.dst.toList/\t∉zE ops o2:=λt ht=>by
  rw [ht] at hd1;simp [JF] at hd1;exact ⟨by simpa using hd1.1,hd1.2⟩
 have hn2:∀ t,o2.dst=some t->t∉zE ops o1:=λt ht=>by
  rw [ht] at hd2
  simpa [JF] using hd2
 obtain ⟨a1,a2⟩:=h2.loc;obtain ⟨b1,b2⟩:=h1.loc;have e1:=I2 p ρ o1;have e2:=I2 p ρ o2;have hO12:∀ s,(cS p ρ o1).dom.oW s->¬ (cS p ρ o2).dom.oR s:=λs=>BU ho12;have hO21:∀ s,(cS p ρ o2).dom.oW s->¬ (cS p ρ o1).dom.oR s:=λs=>BU ho21;have hR12:∀ r,(cS p ρ o1).dom.rW r->¬ (cS p ρ o2).dom.rR r:=λs=>BU hr12;have hR21:∀ r,(cS p ρ o2).dom.rW r->¬ (cS p ρ o1).dom.rR r:=λs=>BU hr21;obtain ⟨b',c1,c2,c3,c4⟩:=b2 st (λt ht=>(a1.1 t (λhe=>hn2 t he (Ey ht))).symm) (λt ht=>(a1.1 t (λhe=>hn2 t he (List.mem_append.2 (.inl ht)))).symm)
  ⟨λs hs=>(a1.2.1 s (λhw=>hO21 s hw hs)).symm,λs hs=>(a1.2.2 s (λhw=>hR21 s hw hs)).symm⟩
 obtain ⟨c',f1,f2,f3,f4⟩:=a2 b' (λt ht=>c3.1 t (λhe=>(hn1 t he).2 (Ey ht))) (λt ht=>c3.1 t (λhe=>(hn1 t he).2 (List.mem_append.2 (.inl ht))))
  ⟨λs hs=>c3.2.1 s (λhw=>hO12 s hw hs),λs hs=>c3.2.2 s (λhw=>hR12 s hw hs)⟩
 have hcc:c'=c:=by
  refine St.ext (funext λt=>?_) (funext λs=>?_) (funext λr=>?_)
  ·by_cases h2t:o2.dst=some t
   ·rw [f2 t h2t];exact (b1.1 t (λhe=>(hn1 t he).1 (by rw [h2t]; simp))).symm
   ·by_cases h1t:o1.dst=some t
    ·rw [f3.1 t h2t,c2 t h1t]
    ·rw [f3.1 t h2t,c3.1 t h1t,b1.1 t h1t,a1.1 t h2t]
  ·by_cases h2s:(cS p ρ o2).dom.oW s
   ·rw [f4.ob s (e2.ob s h2s)];exact (b1.2.1 s (λhw=>hO12 s hw (e2.ob s h2s))).symm
   ·by_cases h1s:(cS p ρ o1).dom.oW s
    ·rw [f3.2.1 s h2s,c4.ob s (e1.ob s h1s)]
    ·rw [f3.2.1 s h2s,c3.2.1 s h1s,b1.2.1 s h1s,a1.2.1 s h2s]
  ·by_cases h2s:(cS p ρ o2).dom.rW r
   ·rw [f4.rw r (e2.rw r h2s)];exact (b1.2.2 r (λhw=>hR12 r hw (e2.rw r h2s))).symm
   ·by_cases h1s:(cS p ρ o1).dom.rW r
    ·rw [f3.2.2 r h2s,c4.rw r (e1.rw r h1s)]
    ·rw [f3.2.2 r h2s,c3.2.2 r h1s,b1.2.2 r h1s,a1.2.2 r h2s]
 exact ⟨b',c1,hcc ▸ f1⟩
def qE(P:Program)(p:Nat->Bool)(ρ:Nat->dG)(ops:Array Oper)(i:Nat)(st st':St):Prop:=match ops[i]? with
 | some o=>xp P p ρ ops o st st'
 | none=>st'=st
def HR(P:Program)(p:Nat->Bool)(ρ:Nat->dG)(ops:Array Oper):List Nat->St->St->Prop
 | [],st,st'=>st'=st
 | i :: l,st,st'=>∃ b,qE P p ρ ops i st b/\HR P p ρ ops l b st'
def sW(p:Nat->Bool)(ρ:Nat->dG)(ops:Array Oper)(i j:Nat):Bool:=match ops[i]?,ops[j]? with
 | some a,some b=>OA p ρ ops a b
 | _,_=>true
theorem Ez{i j:Nat}{b c:St}(hi:sW p ρ ops i j=true)(h2:qE P p ρ ops j st b)(h1:qE P p ρ ops i b c):∃ b',qE P p ρ ops i st b'/\qE P p ρ ops j b' c:=by
 unfold qE sW at *
 revert h1 h2 hi
 cases ops[i]? <;> cases ops[j]? <;> simp only [] <;> intro hi h2 h1
 ·exact ⟨st,rfl,by rw [h1,h2]⟩
 ·exact ⟨st,rfl,by rw [h1]; exact h2⟩
 ·exact ⟨c,h2 ▸ h1,rfl⟩
 ·exact UF hi h2 h1
theorem pull{i:Nat}:∀ {l:List Nat} {st st':St},i∈l->(∀ l1 l2,l=l1++i :: l2->i∉l1->∀ j∈l1,sW p ρ ops i j=true)->HR P p ρ ops l st st'->∃ b,qE P p ρ ops i st b/\HR P p ρ ops (l.erase i) b st'
 | [],st,st',h,_,_=>by simp at h
 | j :: l,st,st',h,hind,hr=>by
  by_cases he:i=j
  ·subst he;rw [List.erase_cons_head];exact hr
  ·obtain ⟨b,h1,h2⟩:=hr;have him:i∈l:=(List.mem_cons.1 h).resolve_left he;obtain ⟨c,h3,h4⟩:=pull him (λl1 l2 hl hni j' hj'=>hind (j :: l1) l2 (by rw [hl]; rfl) (by simp [he,hni]) j' (zQx _ hj')) h2;have hij:sW p ρ ops i j=true:=by
    obtain ⟨l1,l2,hl,hni⟩:=List.eq_append_cons_of_mem him;exact hind (j :: l1) l2 (by rw [hl]; rfl) (by simp [he,hni]) j (zQv ..)
   obtain ⟨d,h5,h6⟩:=Ez hij h1 h3;refine ⟨d,h5,?_⟩;rw [List.erase_cons_tail (by simpa using λh=>he h.symm)];exact ⟨c,h6,h4⟩
end
end Go.Tm
namespace Go.Tm
open Go.RowKit
section
variable {P:Program} {E:En} [Tb P E] {g:Gh} {st st':St} {a:Act} {w:World} {p:Nat->Bool} {ρ:Nat->dG} {o:Oper} {x:A} {ops:Array Oper} {n:Nat}
theorem eE.put(h:eE E g st w)(d:Option Nat)(v:A):eE E g (st.put d v) w:=by
 cases d with
 | none=>exact h
 | some d=>exact ⟨h.ob,h.obne,h.row,h.rowne,h.rowob,h.F,h.os,h.tape,h.output,h.sizes,h.frame,h.shp,h.dep0⟩
theorem gF.put{v:Value}{g':Gh}{w':World}{st1:St}{d:Option Nat}(hS:gF E g n st a w)(h:u5 E g st w x st1 v g' w')(hd:∀ t,d=some t->t < n):gF E g' n (st1.put d x) (a.put d v) w':=by
 refine ⟨h.mem.put d x,?_,?_,λi hi=>?_,λi hi=>?_,λs b hs=>?_,λv' hv'=>by
  obtain ⟨h1,h2⟩:=hS.pin v' hv';exact ⟨by unfold St.R; rw [zD]; exact (h.ext.R _ h1).1,(h.ext.R _ h1).2.trans h2⟩⟩
 ·cases d <;> simp [Act.put,hS.size]
 ·cases d <;> simp [Act.put,hS.defers]
 ·cases d with
  | none =>
   obtain ⟨u,h1,h2⟩:=hS.tm i hi;exact ⟨u,h1,by show VR w' g' st1.O st1.R (st1.tm i) u; rw [h.tm]; exact h2.mono h.ext⟩
  | some d =>
   by_cases he:d=i
   ·subst he;exact ⟨v,by simp [Act.put,hS.size,hi],by show VR w' g' st1.O st1.R (dV st1.tm d x d) v; rw [cO]; exact h.vr⟩
   ·obtain ⟨u,h1,h2⟩:=hS.tm i hi;refine ⟨u,by simp only [Act.put]; rw [Array.getElem?_setIfInBounds_ne he]; exact h1,?_⟩;show VR w' g' st1.O st1.R (dV st1.tm d x i) u;rw [bZ _ _ _ _ (λh=>he h.symm),h.tm];exact h2.mono h.ext
 ·rw [JE (λhe=>by have:=hd i he; omega),h.tm];exact hS.und i hi
 ·obtain ⟨h1,h2⟩:=hS.lent s b hs;refine ⟨?_,(h.ext.O s h1).2.trans h2⟩;unfold St.O;rw [zC];exact (h.ext.O s h1).1
theorem gF.skip{d:Option Nat}(hS:gF E g n st a w)(hd:∀ t,d=some t->t < n):gF E g n (st.put d (.tup [])) (a.put d undef) w:=by
 refine hS.put ⟨hS.mem,?_,pd.refl _ _ _ _,rfl⟩ hd;exact .tup [] [] rfl (λi x u h=>by simp at h)
theorem gF.drew(hS:gF E g n st a w):gF E g n st a { w with drawn:=w.drawn+1 }:=by
 have hsame:vJ g.F w { w with drawn:=w.drawn+1 }:=λ_ _=>rfl;obtain ⟨⟨h1,h2,h3,h4,h5,h6,h7,h8,h9,h10,h11,hsp,hd0⟩,h12,h13,h14,h15,h16,h17⟩:=hS;have hE:pd w { w with drawn:=w.drawn+1 } g g st.O st.R st.O st.R:=⟨hsame,λ_ h=>h,λ_ h=>⟨h,rfl⟩,λ_ h=>⟨h,rfl⟩,⟨rfl,rfl,rfl⟩,rfl,rfl⟩;refine ⟨⟨λs cells hs=>?_,h2,λr x hr=>(h3 r x hr).mono hsame (λ_ h=>h) (λ_ b hb=>⟨rfl,λh=>h⟩),h4,h5,h6,h7,h8,h9,h10,h11,hsp,hd0⟩,h12,h13,λi hi=>?_,h15,h16,h17⟩
 ·obtain ⟨arr,e,q1,q2,q3,q4⟩:=h1 s cells hs;exact ⟨arr,e,q1,q2,λj x hj=>by obtain ⟨r1,v,r2,r3⟩:=q3 j x hj; exact ⟨r1,v,r2,r3.mono hE⟩,q4⟩
 ·obtain ⟨v,q1,q2⟩:=h14 i hi;exact ⟨v,q1,q2.mono hE⟩
theorem Mt{b:Bool}(hS:gF E g n st a w)(h:iB ops st o=some b):Region.wanted o (yielded ops a.tmps)=b:=by
 unfold iB at h;unfold Region.wanted
 split at h
 ·rename_i hg
  cases h
  simp only [hg]
 ·rename_i j want hg;simp only [hg]
  split at h
  ·rename_i hd
   cases h
   simp [yielded,hd]
  ·rename_i d hd;have hlt:d < n:=by
    rcases Nat.lt_or_ge d n with hlt | hge
    ·exact hlt
    ·rw [hS.und d hge] at h; cases h
   obtain ⟨v,h1,h2⟩:=hS.tm d hlt
   split at h
   ·rename_i b' hb
    cases h
    rw [hb] at h2
    cases h2 with
    | t x v h3 =>
     cases h3
     simp [yielded,hd,h1]
   ·rename_i hb
    cases h
    rw [hb] at h2
    cases h2 with
    | tup l vs hl hx =>
     have:vs=[]:=sk (by simpa using hl.symm);subst this;simp [yielded,hd,h1]
   ·cases h
def jB(n:Nat)(o:Oper):Bool:=match o.dst with | some d=>Nat.blt d n | none=>true
theorem zF(h:jB n o=true):∀ t,o.dst=some t->t < n:=by
 intro t ht;rw [jB,ht] at h
 simpa using h
theorem wD{i:Nat}{K:Act->World->Prop}{Q:Exit->Act->World->Prop}(hS:gF E g n st a w)(hd:∀ o,ops[i]?=some o->jB n o=true)(h:qE P p ρ ops i st st')
  (hK:∀ g' a' w',gF E g' n st' a' w'->K a' w'):wpOp P ops Q i K a w:=by
 unfold wpOp;unfold qE at h
 split
 ·rename_i ho;rw [ho] at h;simp only at h;subst h;exact hK g a w hS
 ·rename_i o ho;rw [ho] at h;simp only at h;have hdo:=zF (hd o ho)
  cases h with
  | run x st1 hg hf he =>
   rw [Mt hS hg,if_pos rfl];exact .inl (he.sound hS K Q λv w' ⟨g',hA⟩=>hK g' _ _ (hS.put hA hdo))
  | skip hg =>
   rw [Mt hS hg,if_neg (by simp)];exact hK g _ _ (hS.skip hdo)
theorem Mu{Q:Exit->Act->World->Prop}(hd:∀ (i:Nat) (o:Oper),ops[i]?=some o->jB n o=true)(hQ:∀ g a w,gF E g n st' a w->Q .normal a w):∀ {l:List Nat} {st:St} {g:Gh} {a:Act} {w:World},gF E g n st a w->HR P p ρ ops l st st'->wpOps P ops Q l a w
 | [],st,g,a,w,hS,h=>hQ g a w (by have h:st'=st:=h; rw [h]; exact hS)
 | i :: l,st,g,a,w,hS,⟨b,h1,h2⟩=>by
  rw [wpOps_cons];exact wD hS (hd i) h1 λg' a' w' hS'=>Mu hd hQ hS' h2
def Tq(D:Array Nat)(o:Oper):Nat:=o.after.toList.foldl (λs e=>if Region.binds .any e then s ||| 2 ^ e.on ||| D.getD e.on 0 else s) 0
def Mv(p:Nat->Bool)(ρ:Nat->dG)(n:Nat)(ops:Array Oper):Bool :=
 let D:=Region.before ops
 (zWy ops.size).all λi=>match ops[i]? with
  | none=>true
  | some o=>jB n o && (o.after.toList.all λe=>!Region.binds .any e || Nat.blt e.on i) && zXY (D.getD i 0) (Tq D o) && (zWy i).all λj=>(D.getD i 0).testBit j || sW p ρ ops i j
theorem Mw{D:Array Nat}{j:Nat}:∀ {l:List Edge} {s:Nat},(l.foldl (λs e=>if Region.binds .any e then s ||| 2 ^ e.on ||| D.getD e.on 0 else s) s).testBit j=true->s.testBit j=true\/∃ e∈l,Region.binds .any e=true/\(e.on=j\/(D.getD e.on 0).testBit j=true)
 | [],s,h=>.inl h
 | e :: l,s,h=>by
  simp only [zYH] at h;rcases Mw h with h | ⟨e',he',h⟩
  ·split at h
   ·rename_i hb;simp only [Nat.testBit_or,zYk] at h;rcases h with (h | h) | h
    ·exact .inl h
    ·rw [Nat.testBit_two_pow] at h;exact .inr ⟨e,zQv ..,hb,.inl (by simpa using h)⟩
    ·exact .inr ⟨e,zQv ..,hb,.inr h⟩
   ·exact .inl h
  ·exact .inr ⟨e',zQx _ he',h⟩
structure EA (p:Nat->Bool) (ρ:Nat->dG) (n:Nat) (ops:Array Oper) (D:Array Nat):Prop where
 dst:∀ (i:Nat) (o:Oper),ops[i]?=some o->jB n o=true
 back:∀ (i:Nat) (o:Oper),ops[i]?=some o->∀ e∈o.after,Region.binds .any e=true->e.on < i
 dep:∀ (i:Nat) (o:Oper),ops[i]?=some o->∀ j,(D.getD i 0).testBit j=true->∃ e∈o.after,Region.binds .any e=true/\(e.on=j\/(D.getD e.on 0).testBit j=true)
 ind:∀ (i j:Nat) (o:Oper),ops[i]?=some o->j < i->(D.getD i 0).testBit j=true\/sW p ρ ops i j=true
theorem JG(h:Mv p ρ n ops=true):EA p ρ n ops (Region.before ops):=by
 have hh:∀ (i:Nat) (o:Oper),ops[i]?=some o->((jB n o=true/\(o.after.toList.all λe=>!Region.binds .any e || Nat.blt e.on i)=true)/\zXY ((Region.before ops).getD i 0) (Tq (Region.before ops) o)=true)/\((zWy i).all λj=>((Region.before ops).getD i 0).testBit j || sW p ρ ops i j)=true:=λi o hi=>by
  have hlt:i < ops.size:=(Array.getElem?_eq_some_iff.1 hi).1;have:=List.all_eq_true.1 h i (List.mem_range.2 hlt);rw [hi] at this
  simpa only [sY] using this
 refine ⟨λi o hi=>(hh i o hi).1.1.1,λi o hi e he hb=>?_,λi o hi j hj=>?_,λi j o hi hj=>?_⟩
 ·have:=List.all_eq_true.1 (hh i o hi).1.1.2 e (by simpa using he);rw [hb] at this
  simpa using this
 ·rw [zWw (hh i o hi).1.2] at hj;rcases Mw hj with h | ⟨e,he,h⟩
  ·simp at h
  ·exact ⟨e,by simpa using he,h⟩
 ·have:=List.all_eq_true.1 (hh i o hi).2 j (List.mem_range.2 hj)
  simpa only [zYk] using this
def VB(ops:Array Oper)(listed:Array Bool):Prop:=∀ (k:Nat) (o:Oper),listed.getD k false=true->ops[k]?=some o->∀ e∈o.after,Region.binds .any e=true->listed.getD e.on false=true
theorem closed{D:Array Nat}{listed:Array Bool}(hF:EA p ρ n ops D)(hd:VB ops listed):∀ (i:Nat) (o:Oper),ops[i]?=some o->(∀ e∈o.after,Region.binds .any e=true->listed.getD e.on false=true)->∀ j,(D.getD i 0).testBit j=true->listed.getD j false=true:=by
 intro i
 induction i using Nat.strongRecOn with
 | _ i ih =>
  intro o ho hall j hj;obtain ⟨e,he,hb,h⟩:=hF.dep i o ho j hj;rcases h with rfl | h
  ·exact hall e he hb
  ·have hlt:e.on < i:=hF.back i o ho e he hb;have hlt2:e.on < ops.size:=Nat.lt_trans hlt (Array.getElem?_eq_some_iff.1 ho).1;exact ih e.on hlt _ (zWg hlt2) (hd e.on _ (hall e he hb) (zWg hlt2)) j h
def rem(ops:Array Oper)(listed:Array Bool):List Nat:=(zWy ops.size).filter λi=>!listed.getD i true
theorem rc{listed:Array Bool}{i:Nat}:i∈rem ops listed↔i < ops.size/\listed.getD i true=false:=by
 simp [rem]
theorem I3{listed:Array Bool}{i:Nat}(hs:listed.size=ops.size)(hi:i∈rem ops listed):rem ops (listed.setIfInBounds i true)=(rem ops listed).erase i:=by
 have hnd:(rem ops listed).Nodup:=List.Pairwise.filter _ List.nodup_range;rw [hnd.erase_eq_filter];unfold rem;rw [List.filter_filter];refine List.filter_congr λj hj=>?_
 by_cases he:i=j
 ·subst he;have:i < listed.size:=by rw [hs]; exact List.mem_range.1 hj
  simp [this]
 ·rw [getD_set_ne true he];have hji:(j != i)=true:=by simpa using λh:j=i=>he h.symm
  simp only [hji,zWx,Bool.and_true]
theorem I4{listed:Array Bool}{k:Nat}(hlt:k < listed.size):listed.getD k true=listed.getD k false:=by
 simp [hlt]
theorem Sk{D:Array Nat}{Q:Exit->Act->World->Prop}(hF:EA p ρ n ops D)(hQ:∀ g a w,gF E g n st' a w->Q .normal a w) :
  ∀ (fuel:Nat) (listed:Array Bool) (st:St) (g:Gh) (a:Act) (w:World),listed.size=ops.size->VB ops listed->(rem ops listed).length=fuel->HR P p ρ ops (rem ops listed) st st'->gF E g n st a w->wpAny P .any ops Q fuel listed a w:=by
 intro fuel
 induction fuel with
 | zero =>
  intro listed st g a w hs hd hl hr hS;have h0:rem ops listed=[]:=sk hl;rw [h0] at hr;have hr:st'=st:=hr;refine ⟨?_,hQ g a w (hr ▸ hS)⟩;refine List.eq_nil_iff_forall_not_mem.2 λj hj=>?_;obtain ⟨h1,o,ho,_⟩:=mem_ready.1 hj;have:j∈rem ops listed:=rc.2 ⟨(Array.getElem?_eq_some_iff.1 ho).1,h1⟩;rw [h0] at this;simp at this
 | succ fuel ih =>
  intro listed st g a w hs hd hl hr hS;have hsorted:(rem ops listed).Pairwise (· < ·):=List.Pairwise.filter _ List.pairwise_lt_range;refine ⟨λhnil=>?_,λi hi=>?_⟩
  ·exfalso
   cases hrem:rem ops listed with
   | nil=>rw [hrem] at hl; cases hl
   | cons i l =>
    have him:i∈rem ops listed:=by rw [hrem]; simp
    obtain ⟨hlt,hun⟩:=rc.1 him;have:i∈Region.ready .any ops listed:=by
     refine mem_ready.2 ⟨hun,_,zWg hlt,λe he hb=>?_⟩;have hlt2:=hF.back i _ (zWg hlt) e he hb;have hlt3:e.on < listed.size:=by omega
     cases hee:listed.getD e.on false with
     | true=>rfl
     | false =>
      have hm:e.on∈rem ops listed:=rc.2 ⟨by omega,by rw [I4 hlt3]; exact hee⟩;rw [hrem] at hm hsorted;rcases List.mem_cons.1 hm with h | h
      ·omega
      ·have:=(List.pairwise_cons.1 hsorted).1 _ h;omega
    rw [hnil] at this;simp at this
  ·obtain ⟨hun,o,ho,hall⟩:=mem_ready.1 hi;have hlt:i < ops.size:=(Array.getElem?_eq_some_iff.1 ho).1;have him:i∈rem ops listed:=rc.2 ⟨hlt,hun⟩;obtain ⟨b,h1,h2⟩:=pull him (λl1 l2 hsplit hni j hj=>by
    have hjm:j∈rem ops listed:=by rw [hsplit]; exact List.mem_append.2 (.inl hj)
    have hji:j < i:=by
     rw [hsplit] at hsorted;exact (List.pairwise_append.1 hsorted).2.2 j hj i (zQv ..)
    rcases hF.ind i j o ho hji with h | h
    ·have h3:=closed hF hd i o ho hall j h;have h4:=(rc.1 hjm).2;rw [I4 (by rw [hs]; exact (rc.1 hjm).1),h3] at h4
     cases h4
    ·exact h) hr
   refine wD hS (hF.dst i) h1 λg' a' w' hS'=>ih (listed.setIfInBounds i true) b g' a' w' (by simp [hs]) ?_ ?_ ?_ hS'
   ·intro k o' hk ho' e he hb
    by_cases hik:i=k
    ·subst hik;rw [ho] at ho';injection ho' with ho'
     subst ho';exact getD_set_true (hall e he hb)
    ·rw [getD_set_ne false hik] at hk;exact getD_set_true (hd k o' hk ho' e he hb)
   ·rw [I3 hs him,List.length_erase_of_mem him,hl];rfl
   ·rw [I3 hs him];exact h2
def AH(P:Program)(p:Nat->Bool)(ρ:Nat->dG)(ops:Array Oper):List Oper->St->St->Prop
 | [],st,st'=>st'=st
 | o :: l,st,st'=>∃ b,xp P p ρ ops o st b/\AH P p ρ ops l b st'
theorem sZ:∀ {l:List Oper} {k:Nat} {st:St},(∀ j,l[j]?=ops[k+j]?)->AH P p ρ ops l st st'->HR P p ρ ops (zWz k l.length) st st'
 | [],k,st,_,h=>h
 | o :: l,k,st,hl,⟨b,h1,h2⟩=>by
  refine ⟨b,?_,sZ (k:=k+1) (λj=>by have:=hl (j+1); simpa [zYg,Nat.add_comm 1 j] using this) h2⟩;have:=hl 0;simp at this;unfold qE;rw [<- this];exact h1
theorem Nb{Q:Exit->Act->World->Prop}{id:Nat}{draw:Bool}(hm:draw=true->P.follows .mixedOrders=true)(hok:if draw then Mv p ρ n ops=true else ops.toList.all (jB n)=true)
  (hS:gF E g n st a w) (hr:AH P p ρ ops ops.toList st st') (hQ:∀ g a w,gF E g n st' a w->Q .normal a w):(Code.region id ops draw).wp P Q a w:=by
 have hrI:HR P p ρ ops (zWy ops.size) st st':=by
  have:=sZ (k:=0) (l:=ops.toList) (by simp) hr;rw [zWk]
  simpa using this
 cases draw with
 | false =>
  refine wp_region (Mu (λi o ho=>?_) hQ hS hrI);exact List.all_eq_true.1 (show ops.toList.all (jB n)=true from hok) o (by simpa using Array.mem_of_getElem? ho)
 | true =>
  have hF:=JG (by simpa using hok);have hrem:rem ops (zZJ ops.size false)=zWy ops.size:=by
   unfold rem;refine List.filter_eq_self.2 λi hi=>?_;have:i < ops.size:=List.mem_range.1 hi;simp [this]
  refine wp_region_any (hm rfl) (Sk hF hQ _ _ st g a _ (by simp) (λk o hk=>?_) (by rw [hrem]; simp) (by rw [hrem]; exact hrI) hS.drew)
  by_cases hlt:k < ops.size <;> simp [hlt] at hk
end
end Go.Tm
namespace Go.Tm
open Go.RowKit
def EL(E:En)(ls:List Nat):Prop:=∃ fl,ls=E.lent.map Prod.fst++fl/\(∀ q∈E.lent,900<=q.1)/\(∀ v,E.pin=some v->0∈fl)/\(1∈fl->∀ b,¬ E.F0 b/\¬ E.X b)
theorem EL.mem{E:En}{ls:List Nat}(h:EL E ls){i b:Nat}(hi:(i,b)∈E.lent):i∈ls/\900<=i:=by
 obtain ⟨fl,rfl,h2,_⟩:=h;exact ⟨zZg _ (List.mem_map.2 ⟨_,hi,rfl⟩),h2 _ hi⟩
theorem EL.pin{E:En}{ls:List Nat}(h:EL E ls){v:Value}(hv:E.pin=some v):0∈ls:=by
 obtain ⟨fl,rfl,_,h2,_⟩:=h;exact List.mem_append_right _ (h2 v hv)
def Ru(P:Program)(E:En)(ls:List Nat):Prop:=EL E ls/\Tb P E
def Wp(P:Program)(n:Nat)(ls:List Nat)(c:Code)(Q:Exit->St->Prop)(st:St):Prop :=
 ∀ (E:En) (g:Gh) (a:Act) (w:World),Ru P E ls->gF E g n st a w->c.wp P (λe a' w'=>∃ g' st',gF E g' n st' a' w'/\Q e st') a w
def ie(N:St->Prop)(Q:Exit->St->Prop):Exit->St->Prop
 | .normal,st=>N st
 | e,st=>Q e st
def UG(id:Nat)(Q:Exit->St->Prop):Exit->St->Prop
 | .exit id',st=>bif zXY id' id then Q .normal st else Q (.exit id') st
 | e,st=>Q e st
def Le(n:Nat)(ls:List Nat)(st st1:St):Prop:=∀ (E:En) (g:Gh) (a:Act) (w:World),EL E ls->gF E g n st a w->∃ g',gF E g' n st1 a w
section
variable {P:Program} {n:Nat} {ls:List Nat} {Q:Exit->St->Prop} {st st':St} {x y c:Code}
theorem Wp.skip(h:Q .normal st):Wp P n ls .skip Q st:=λE g a w hE hS=>wp_skip ⟨g,st,hS,h⟩
theorem Wp.ret(h:Q .ret st):Wp P n ls .ret Q st:=λE g a w hE hS=>wp_ret ⟨g,st,hS,h⟩
theorem Wp.exit{id:Nat}(h:Q (.exit id) st):Wp P n ls (.exit id) Q st:=λE g a w hE hS=>wp_exit ⟨g,st,hS,h⟩
theorem Wp.mono{Q':Exit->St->Prop}(h:Wp P n ls c Q st)(hq:∀ e st,Q e st->Q' e st):Wp P n ls c Q' st :=
 λE g a w hE hS=>wp_mono (h E g a w hE hS) λe a' w' ⟨g',st',h1,h2⟩=>⟨g',st',h1,hq e st' h2⟩
theorem Wp.seq(h:Wp P n ls x (ie (Wp P n ls y Q) Q) st):Wp P n ls (.seq x y) Q st :=
 λE g a w hE hS=>wp_seq (wp_mono (h E g a w hE hS) λe a' w' ⟨g',st',h1,h2⟩=>by
  cases e with
  | normal=>exact h2 E g' a' w' hE h1
  | _=>exact ⟨g',st',h1,h2⟩)
theorem Wp.cond{o:Operand}{b:Bool}(ho:st.eval o=some (.t (.bool b)))(h:Wp P n ls (if b then x else y) Q st):Wp P n ls (.cond o x y) Q st :=
 λE g a w hE hS=>by
  have hv:=bJ hS ho;generalize hva:a.eval o=v at hv
  cases hv with
  | t x v hr =>
   cases hr
   exact wp_cond hva (h E g a w hE hS)
theorem Tr{o:Operand}{b:Bool}(ho:st.eval o=some (.t (.bool b)))(ht:b=true->Wp P n ls x Q st)(hf:b=false->Wp P n ls y Q st):Wp P n ls (.cond o x y) Q st :=
 Wp.cond ho (by
  cases b with
  | true=>exact ht rfl
  | false=>exact hf rfl)
theorem Wp.block{id:Nat}(h:Wp P n ls c (UG id Q) st):Wp P n ls (.block id c) Q st :=
 λE g a w hE hS=>wp_block (wp_mono (h E g a w hE hS) λe a' w' ⟨g',st',h1,h2⟩=>by
  cases e with
  | exit id' =>
   simp only [Exit.inBlock];simp only [UG] at h2
   split
   ·rename_i he;subst he;rw [zZq] at h2;exact ⟨g',st',h1,h2⟩
   ·rename_i he;have:zXY id' id=false:=by
     cases hb:zXY id' id
     ·rfl
     ·exact absurd (zWw hb) he
    rw [this] at h2;exact ⟨g',st',h1,h2⟩
  | _=>exact ⟨g',st',h1,h2⟩)
def Vm(P:Program)(n:Nat)(ls:List Nat)(c:Code)(Q:Exit->St->Prop):Nat->St->Prop
 | 0,_=>False
 | k+1,st=>Wp P n ls c (ie (Vm P n ls c Q k) Q) st
def Ag(P:Program)(c:Code)(Q:Exit->Act->World->Prop):Nat->Act->World->Prop
 | 0,_,_=>False
 | k+1,a,w=>c.wp P (Exit.then (Ag P c Q k) Q) a w
theorem JH{c:Code}{Q:Exit->Act->World->Prop}{a:Act}{w:World}{k:Nat}(h:Ag P c Q k a w):(Code.loop c).wp P Q a w:=by
 classical
 have key:∀ a w,(∃ k,Ag P c Q k a w)->∃ k,Ag P c Q k a w/\∀ j,Ag P c Q j a w->k<=j:=by
  intro a w ⟨k,hk⟩
  induction k using Nat.strongRecOn with
  | _ k ih =>
   by_cases hm:∀ j,Ag P c Q j a w->k<=j
   ·exact ⟨k,hk,hm⟩
   ·obtain ⟨j,hj⟩:=Classical.not_forall.1 hm;obtain ⟨hj1,hj2⟩:=Classical.not_imp.1 hj;exact ih j (by omega) hj1
 let μ:Act->World->Nat:=λa w=>if h:∃ k,Ag P c Q k a w then Classical.choose (key a w h) else 0
 have hμ:∀ a w (h:∃ k,Ag P c Q k a w),Ag P c Q (μ a w) a w/\∀ j,Ag P c Q j a w->μ a w<=j:=by
  intro a w h;have:μ a w=Classical.choose (key a w h):=by simp only [μ,h,dite_true]
  rw [this];exact Classical.choose_spec (key a w h)
 refine wp_loop (λa w=>∃ k,Ag P c Q k a w) μ ⟨k,h⟩ λa w hI=>?_;obtain ⟨h1,h2⟩:=hμ a w hI
 cases hm:μ a w with
 | zero=>rw [hm] at h1; exact h1.elim
 | succ m =>
  rw [hm] at h1;refine wp_mono h1 λe a' w' hq=>?_
  cases e with
  | normal =>
   have hI':∃ k,Ag P c Q k a' w':=⟨m,hq⟩;exact ⟨hI',by have:=(hμ a' w' hI').2 m hq; omega⟩
  | _=>exact hq
theorem Wp.loop{k:Nat}(h:Vm P n ls c Q k st):Wp P n ls (.loop c) Q st:=by
 intro E g a w hE hS;refine JH (k:=k) ?_
 induction k generalizing st g a w with
 | zero=>exact h.elim
 | succ k ih =>
  refine wp_mono (h E g a w hE hS) λe a' w' ⟨g',st',h1,h2⟩=>?_
  cases e with
  | normal=>exact ih h2 g' a' w' h1
  | _=>exact ⟨g',st',h1,h2⟩
theorem Wp.le{st1:St}(hl:Le n ls st st1)(h:Wp P n ls c Q st1):Wp P n ls c Q st:=λE g a w hE hS=>by
 obtain ⟨g',hS'⟩:=hl E g a w hE.1 hS;exact h E g' a w hE hS'
def ae(P:Program)(p:Nat->Bool)(ρ:Nat->dG)(ops:Array Oper)(l:List Oper)(st:St)(K:St->Prop):Prop:=∃ st',AH P p ρ ops l st st'/\K st'
theorem Wp.region{p:Nat->Bool}{ρ:Nat->dG}{ops:Array Oper}{id:Nat}{draw:Bool}(hm:draw=true->P.follows .mixedOrders=true)(hok:if draw then Mv p ρ n ops=true else ops.toList.all (jB n)=true)
  (h:ae P p ρ ops ops.toList st (Q .normal)):Wp P n ls (.region id ops draw) Q st:=λE g a w hE hS=>by
 obtain ⟨st',h1,h2⟩:=h;have:=hE.2;exact Nb hm hok hS h1 λg a w hS'=>⟨g,st',hS',h2⟩
section
variable {p:Nat->Bool} {ρ:Nat->dG} {ops:Array Oper} {l:List Oper} {K:St->Prop} {o:Oper}
theorem ae.step{b:St}(h:xp P p ρ ops o st b)(hr:ae P p ρ ops l b K):ae P p ρ ops (o :: l) st K:=by
 obtain ⟨st',h1,h2⟩:=hr;exact ⟨st',⟨b,h,h1⟩,h2⟩
theorem ae.op{x:A}{st1:St}(hg:iB ops st o=some true)(hf:ek ρ st o=true)(h:(pI P ρ st.eval o).run st=some (x,st1))(hr:ae P p ρ ops l (st1.put o.dst x) K):ae P p ρ ops (o :: l) st K :=
 ae.step (.run x st1 hg hf (.plain h)) hr
end
end
end Go.Tm
namespace Go.Tm
open Go.RowKit
mutual
def A.ren(φo φr:Nat->Nat):A->A
 | .own r=>.own (φr r)
 | .obj s off=>.obj (φo s) off
 | .elem r sz i off=>.elem (φr r) sz i off
 | .sub r sz lo=>.sub (φr r) sz lo
 | .win r lo m=>.win (φr r) lo m
 | .agg l=>.agg (ru φo φr l)
 | .tup l=>.tup (ru φo φr l)
 | .clo f l=>.clo f (ru φo φr l)
 | .t x=>.t x
 | .nil=>.nil
 | .fadr c=>.fadr c
 | .nn sz rows=>.nn sz rows
 | .undef=>.undef
 | .raw v=>.raw v
 | .osl s a n c=>.osl (φo s) a n c
 | .ext s x=>.ext s x
 | .exa s c=>.exa s c
 | .shp x=>.shp x
def ru(φo φr:Nat->Nat):List A->List A
 | []=>[]
 | a :: r=>a.ren φo φr :: ru φo φr r
end
mutual
def A.known(O R:Nat->Bool):A->Bool
 | .own r=>R r
 | .obj s _=>O s
 | .osl s _ _ _=>O s
 | .elem r _ _ _=>R r
 | .sub r _ _=>R r
 | .win r _ _=>R r
 | .agg l=>s0 O R l
 | .tup l=>s0 O R l
 | .clo _ l=>s0 O R l
 | _=>true
def s0(O R:Nat->Bool):List A->Bool
 | []=>true
 | a :: r=>a.known O R && s0 O R r
end
def AY{β:Type}:List (Nat×β)->Nat->Option β
 | [],_=>none
 | (k,v) :: r,i=>bif zXY k i then some v else AY r i
theorem oZ{β:Type}:∀ {l:List (Nat×β)} {i:Nat} {v:β},AY l i=some v->(i,v)∈l
 | [],i,v,h=>by cases h
 | (k,u) :: r,i,v,h=>by
  unfold AY at h
  cases hk:zXY k i with
  | true =>
   rw [hk] at h
   cases h
   rw [zWw hk];exact zQv ..
  | false =>
   rw [hk] at h;exact zQx _ (oZ h)
structure Sx where
 tm:List (Nat×A)
 ob:List (Nat×List A)
 rw:List (Nat×Rn)
def Sx.st(s:Sx):St:=⟨λi=>match AY s.tm i with | some a=>a | none=>.undef,AY s.ob,AY s.rw⟩
theorem AZ{φo φr:Nat->Nat}:∀ (l:List A),(ru φo φr l).length=l.length
 | []=>rfl
 | a :: r=>by simp [ru,AZ r]
theorem JI{φo φr:Nat->Nat}:∀ (l:List A) (j:Nat),(ru φo φr l)[j]?=l[j]?.map (A.ren φo φr)
 | [],j=>by simp [ru]
 | a :: r,0=>by simp [ru]
 | a :: r,j+1=>by simp [ru,JI r j]
theorem Da{O R:Nat->Bool}:∀ {l:List A},s0 O R l=true->∀ (j:Nat) (a:A),l[j]?=some a->a.known O R=true
 | [],_,j,a,h=>by simp at h
 | x :: r,hk,j,a,h=>by
  unfold s0 at hk;simp only [sY] at hk
  cases j with
  | zero=>simp at h; exact h ▸ hk.1
  | succ j=>exact Da hk.2 j a (by simpa using h)
theorem Ts{w:World}{g:Gh}{O R:Nat->Prop}{φo φr:Nat->Nat}{O' R':Nat->Bool}:∀ (a:A) {v:Value},VR w g O R (a.ren φo φr) v->a.known O' R'=true ->
  VR w { g with ob:=λs=>g.ob (φo s),rw:=λr=>g.rw (φr r) } (λs=>O' s=true) (λr=>R' r=true) a v:=by
 have main:∀ (k:Nat) (a:A),SizeOf.sizeOf a < k->∀ {v:Value},VR w g O R (a.ren φo φr) v->a.known O' R'=true ->
   VR w { g with ob:=λs=>g.ob (φo s),rw:=λr=>g.rw (φr r) } (λs=>O' s=true) (λr=>R' r=true) a v:=by
  intro k
  induction k with
  | zero=>intro a h; omega
  | succ k ih =>
   intro a hk v h hn;have hl:∀ (l:List A) (vs:List Value),SizeOf.sizeOf l<=k->(∀ (j:Nat) (x:A) (u:Value),(ru φo φr l)[j]?=some x->vs[j]?=some u->VR w g O R x u)->s0 O' R' l=true ->
     ∀ (j:Nat) (x:A) (u:Value),l[j]?=some x->vs[j]?=some u->VR w { g with ob:=λs=>g.ob (φo s),rw:=λr=>g.rw (φr r) } (λs=>O' s=true) (λr=>R' r=true) x u:=λl vs hs hx hkn j x u hj hu=>by
    have:=List.sizeOf_lt_of_mem (zQY hj);exact ih x (by omega) (hx j _ u (by rw [JI,hj]; rfl) hu) (Da hkn j x hj)
   cases a with
   | t x=>unfold A.ren at h; cases h with | t x v h=>exact .t x v h
   | nil=>unfold A.ren at h; cases h; exact .nil
   | own r =>
    unfold A.ren at h;unfold A.known at hn
    cases h with | own _ hr=>exact .own (g:={ g with ob:=λs=>g.ob (φo s),rw:=λr=>g.rw (φr r) }) r hn
   | agg l =>
    unfold A.ren at h;unfold A.known at hn
    cases h with | agg _ vs h1 h2=>exact .agg l vs ((AZ l).symm.trans h1) (hl l vs (by simp at hk; omega) h2 hn)
   | tup l =>
    unfold A.ren at h;unfold A.known at hn
    cases h with | tup _ vs h1 h2=>exact .tup l vs ((AZ l).symm.trans h1) (hl l vs (by simp at hk; omega) h2 hn)
   | obj s off =>
    unfold A.ren at h;unfold A.known at hn
    cases h with | obj _ _ hs=>exact .obj (g:={ g with ob:=λs=>g.ob (φo s),rw:=λr=>g.rw (φr r) }) s off hn
   | elem r sz i off =>
    unfold A.ren at h;unfold A.known at hn
    cases h with | elem _ _ _ _ b n c hr he=>exact .elem r sz i off b n c hn he
   | win r lo m =>
    unfold A.ren at h;unfold A.known at hn
    cases h with | win _ _ _ n c c' ad a' hr he hm hp=>exact .win r lo m n c c' ad a' hn he hm hp
   | sub r sz lo =>
    unfold A.ren at h;unfold A.known at hn
    cases h with | sub _ _ _ n c c' ad a' hr he hp=>exact .sub r sz lo n c c' ad a' hn he hp
   | fadr c =>
    unfold A.ren at h
    cases h with | fadr _ b off u hF hx hr=>exact .fadr c b off u hF hx hr
   | nn sz rows =>
    unfold A.ren at h
    cases h with | nn _ _ _ hr hv=>exact .nn sz rows _ hr hv
   | clo f l =>
    unfold A.ren at h;unfold A.known at hn
    cases h with | clo _ _ vs h1 h2=>exact .clo f l vs ((AZ l).symm.trans h1) (hl l vs (by simp at hk; omega) h2 hn)
   | undef=>exact .undef v
   | raw u =>
    unfold A.ren at h
    cases h with | raw=>exact .raw _
   | osl s a n c =>
    unfold A.ren at h;unfold A.known at hn
    cases h with | osl _ _ _ _ h1 h2=>exact VR.osl (g:={ g with ob:=λs=>g.ob (φo s),rw:=λr=>g.rw (φr r) }) s a n c hn h2
   | ext s x =>
    unfold A.ren at h
    cases h with | ext _ _ _ hs h=>exact .ext s x _ hs h
   | shp x =>
    unfold A.ren at h
    cases h with | shp _ _ h=>exact .shp x _ h
   | exa s c =>
    unfold A.ren at h
    cases h with | exa _ _ b off u hs hD hx hr=>exact .exa s c b off u hs hD hx hr
 intro a v;exact main (SizeOf.sizeOf a+1) a (by omega)
def AI(m:List (Nat×Nat))(i:Nat):Nat:=match AY m i with | some j=>j | none=>i
def OB:List Nat->Bool
 | []=>true
 | x :: r=>!r.contains x && OB r
theorem Db:∀ {l:List Nat},OB l=true->l.Nodup
 | [],_=>List.nodup_nil
 | x :: r,h=>by
  unfold OB at h;simp only [sY,zYJ] at h;refine List.nodup_cons.2 ⟨λhm=>?_,Db h.2⟩;have:=h.1;simp at this;exact this hm
def Sx.O(s:Sx)(i:Nat):Bool:=(AY s.ob i).isSome
def Sx.R(s:Sx)(i:Nat):Bool:=(AY s.rw i).isSome
def I5(O R:Nat->Bool):List (Nat×List A)->Bool
 | []=>true
 | (_,l) :: r=>s0 O R l && I5 O R r
def I6(O R:Nat->Bool)(n:Nat):List (Nat×A)->Bool
 | []=>true
 | (k,a) :: r=>Nat.blt k n && a.known O R && I6 O R n r
theorem Hd{O R:Nat->Bool}:∀ {l:List (Nat×List A)},I5 O R l=true->∀ q∈l,s0 O R q.2=true
 | [],_,q,h=>by simp at h
 | (k,x) :: r,hk,q,h=>by
  unfold I5 at hk;simp only [sY] at hk;rcases List.mem_cons.1 h with rfl | h
  ·exact hk.1
  ·exact Hd hk.2 q h
theorem A0{O R:Nat->Bool}{n:Nat}:∀ {l:List (Nat×A)},I6 O R n l=true->∀ q∈l,q.1 < n/\q.2.known O R=true
 | [],_,q,h=>by simp at h
 | (k,x) :: r,hk,q,h=>by
  unfold I6 at hk;simp only [sY] at hk;rcases List.mem_cons.1 h with rfl | h
  ·exact ⟨by simpa using hk.1.1,hk.1.2⟩
  ·exact A0 hk.2 q h
def Sx.ok(s:Sx)(n:Nat)(ls:List Nat)(mo mr:List (Nat×Nat)):Bool :=
 OB (s.ob.map λq=>AI mo q.1) && OB (s.rw.map λq=>AI mr q.1) && I5 s.O s.R s.ob && I6 s.O s.R n s.tm && ls.all λi=>match i with | 0=>s.R PR && zXY (AI mr PR) PR | 1=>true | i=>s.O i && zXY (AI mo i) i
theorem F2{β:Type}{φ:Nat->Nat}:∀ {l:List (Nat×β)},(l.map λq=>φ q.1).Nodup->∀ {q q':Nat×β},q∈l->q'∈l->φ q.1=φ q'.1->q=q'
 | [],_,q,q',h,_,_=>by simp at h
 | x :: r,hn,q,q',h,h',he=>by
  simp only [zWq,List.nodup_cons,zXh,not_exists,not_and] at hn;rcases List.mem_cons.1 h with h1 | h1
  ·rcases List.mem_cons.1 h' with h2 | h2
   ·rw [h1,h2]
   ·subst h1; exact absurd he.symm (hn.1 q' h2)
  ·rcases List.mem_cons.1 h' with h2 | h2
   ·subst h2; exact absurd he (hn.1 q h1)
   ·exact F2 hn.2 h1 h2 he
theorem I7{α β:Type}{f g:α->β}:∀ {l:List α},l.map f=l.map g->∀ x∈l,f x=g x
 | [],_,x,h=>by simp at h
 | y :: r,he,x,h=>by
  simp only [zWq,List.cons.injEq] at he;rcases List.mem_cons.1 h with rfl | h
  ·exact he.1
  ·exact I7 he.2 x h
theorem Le.of{n:Nat}{ls:List Nat}{st:St}{s:Sx}{mo mr:List (Nat×Nat)}(hok:s.ok n ls mo mr=true)(ht:s.tm.map (λq=>st.tm q.1)=s.tm.map (λq=>q.2.ren (AI mo) (AI mr)))
  (ho:s.ob.map (λq=>st.ob (AI mo q.1))=s.ob.map (λq=>some (ru (AI mo) (AI mr) q.2))) (hr:s.rw.map (λq=>st.rw (AI mr q.1))=s.rw.map (λq=>some q.2)):Le n ls st s.st:=by
 simp only [Sx.ok,sY] at hok;obtain ⟨⟨⟨⟨hno,hnr⟩,hkl⟩,hkt⟩,hls⟩:=hok;intro E g a w hE hS;have hM:=hS.mem;have hob:∀ {i:Nat} {l:List A},AY s.ob i=some l->st.ob (AI mo i)=some (ru (AI mo) (AI mr) l):=λ{i l} h=>I7 ho (i,l) (oZ h);have hrw:∀ {i:Nat} {x:Rn},AY s.rw i=some x->st.rw (AI mr i)=some x:=λ{i x} h=>I7 hr (i,x) (oZ h);have hOe:(λi=>s.O i=true)=s.st.O:=rfl;have hRe:(λi=>s.R i=true)=s.st.R:=rfl;have hL:∀ {r},s.st.L r->st.L (AI mr r):=λ{r} ⟨e,sz,rows,h⟩=>⟨e,sz,rows,hrw h⟩;have hvr:∀ {x:A} {v:Value},VR w g st.O st.R (x.ren (AI mo) (AI mr)) v->x.known s.O s.R=true->VR w { g with ob:=λs=>g.ob (AI mo s),rw:=λr=>g.rw (AI mr r) } s.st.O s.st.R x v:=λ{x v} h hk=>by
  rw [<- hOe,<- hRe];exact Ts x h hk
 refine ⟨{ g with ob:=λs=>g.ob (AI mo s),rw:=λr=>g.rw (AI mr r) },⟨⟨λi cells h=>?_,λi i' h h' he=>?_,λi x h=>hM.row _ x (hrw h),λr r' b h h' he he'=>?_,λr i h h'=>?_,hM.F,hM.os,hM.tape,hM.output,hM.sizes,hM.frame,hM.shp,hM.dep0⟩,hS.size,hS.defers,λi hi=>?_,λi hi=>?_,λi b hib=>?_,λv hv=>?_⟩⟩
 ·have h:AY s.ob i=some cells:=h;obtain ⟨arr,e,h1,h2,h3,h4,h5⟩:=hM.ob _ _ (hob h);rw [AZ] at h2;refine ⟨arr,e,h1,h2,λj x hj=>?_,h4,h5⟩;obtain ⟨h6,v,h7,h8⟩:=h3 j (x.ren (AI mo) (AI mr)) (by rw [JI,hj]; rfl);refine ⟨?_,v,h7,hvr h8 (Da (Hd hkl _ (oZ h)) j x hj)⟩
  cases x <;> first | rfl | (simp [A.ren,A.one] at h6)
 ·obtain ⟨l,hl⟩:=Option.isSome_iff_exists.1 h;obtain ⟨l',hl'⟩:=Option.isSome_iff_exists.1 h';have:=hM.obne _ _ (show st.O _ by unfold St.O; rw [hob hl]; rfl) (show st.O _ by unfold St.O; rw [hob hl']; rfl) he;exact congrArg Prod.fst (F2 (Db hno) (oZ hl) (oZ hl') this)
 ·have:=hM.rowne _ _ b (hL h) (hL h') he he';obtain ⟨e,sz,rows,hx⟩:=h;obtain ⟨e',sz',rows',hx'⟩:=h';exact congrArg Prod.fst (F2 (Db hnr) (oZ hx) (oZ hx') this)
 ·obtain ⟨l,hl⟩:=Option.isSome_iff_exists.1 h';exact hM.rowob _ _ (hL h) (show st.O _ by unfold St.O; rw [hob hl]; rfl)
 ·obtain ⟨v,h1,h2⟩:=hS.tm i hi;refine ⟨v,h1,?_⟩;show VR w _ s.st.O s.st.R (match AY s.tm i with | some a=>a | none=>.undef) v
  cases hl:AY s.tm i with
  | none=>exact .undef v
  | some x =>
   have:=I7 ht (i,x) (oZ hl);simp only at this;rw [this] at h2;exact hvr h2 (A0 hkt _ (oZ hl)).2
 ·show (match AY s.tm i with | some a=>a | none=>.undef)=A.undef
  cases hl:AY s.tm i with
  | none=>rfl
  | some x =>
   have:=(A0 hkt _ (oZ hl)).1;simp only at this;omega
 ·obtain ⟨hi,h9⟩:=hE.mem hib;have:=List.all_eq_true.1 hls i hi;obtain ⟨k,rfl⟩:∃ k,i=k+2:=⟨i - 2,by omega⟩;simp only [sY] at this;refine ⟨this.1,?_⟩;show g.ob (AI mo (k+2))=b;rw [zWw this.2];exact (hS.lent (k+2) b hib).2
 ·have:=List.all_eq_true.1 hls 0 (hE.pin hv);simp only [sY] at this;refine ⟨this.1,?_⟩;show g.rw (AI mr PR)=v;rw [zWw this.2];exact (hS.pin v hv).2
end Go.Tm
namespace Go.Tm
open Go.RowKit
def A2(P:Program)(st:St):List ResultVar->Option (List A)
 | []=>some []
 | .tmp t :: r=>match A2 P st r with | some l=>some (st.tm t :: l) | none=>none
 | .cell a t :: r=>match st.tm a with
  | .obj s off=>match st.ob s with
   | some cells=>match N8 P t,iA P t with
    | some g,some n=>match C4 g n cells off,A2 P st r with | some x,some l=>some (x :: l) | _,_=>none
    | _,_=>none
   | none=>none
  | _=>none
def UH:List A->A
 | [x]=>x
 | l=>.tup l
def Cx{α:Type}:Nat->List V->(List (List C)->MA α)->MA α
 | _,[],k=>k []
 | i,.ptr _ :: r,k=>AV (900+i) λc=>Cx (i+1) r λos=>k (c :: os)
 | i,_ :: r,k=>Cx (i+1) r k
def dQ:Nat->List V->List Nat
 | _,[]=>[]
 | i,.ptr _ :: r=>(900+i) :: dQ (i+1) r
 | i,_ :: r=>dQ (i+1) r
def kO:Nat->List V->List Value->List (Nat×Nat)
 | i,.ptr _ :: r,.pointer (some a) :: vs=>(900+i,a.block) :: kO (i+1) r vs
 | i,.ptr _ :: r,_ :: vs=>(900+i,0) :: kO (i+1) r vs
 | i,_ :: r,_ :: vs=>kO (i+1) r vs
 | i,.ptr _ :: r,[]=>(900+i,0) :: kO (i+1) r []
 | i,_ :: r,[]=>kO (i+1) r []
 | _,[],_=>[]
def gn:Nat->List V->List A->Bool
 | _,[],_=>true
 | i,.ptr _ :: r,.obj s 0 :: as=>zXY s (900+i) && gn (i+1) r as
 | i,.ptr _ :: r,_=>false
 | i,_ :: r,_ :: as=>gn (i+1) r as
 | i,_ :: r,[]=>false
section
variable {P:Program} {E:En} {g:Gh} {st st':St} {a:Act} {w:World} {n:Nat}
theorem o3:∀ (l:List V) (i:Nat) (vs:List Value),(kO i l vs).map Prod.fst=dQ i l
 | [],i,vs=>by cases vs <;> rfl
 | x :: l,i,[]=>by cases x <;> simp [kO,dQ,o3 l]
 | x :: l,i,v :: vs=>by
  cases x <;> simp only [dQ] <;> try (simp only [kO]; exact o3 l _ _)
  cases v <;> try (simp only [kO,zWq,List.cons.injEq,true_and]; exact o3 l _ _)
  rename_i o
  cases o <;> (simp only [kO,zWq,List.cons.injEq,true_and]; exact o3 l _ _)
theorem zG:∀ (l:List V) (i:Nat),∀ q∈dQ i l,900<=q
 | [],i,q,h=>by simp [dQ] at h
 | x :: l,i,q,h=>by
  cases x <;> simp only [dQ] at h <;> try exact zG l _ q h
  rcases List.mem_cons.1 h with rfl | h
  ·omega
  ·exact zG l _ q h
theorem F3(l:List V)(i:Nat)(vs:List Value):∀ q∈kO i l vs,900<=q.1:=λq hq =>
 zG l i q.1 (by rw [<- o3 l i vs]; exact List.mem_map.2 ⟨q,hq,rfl⟩)
theorem F4:∀ {rs:List ResultVar} {l:List A},gF E g n st a w->A2 P st rs=some l->(∀ t,.tmp t∈rs->t < n)->∃ vs:List Value,l.length=vs.length/\(∀ (j:Nat) (x:A) (u:Value),l[j]?=some x->vs[j]?=some u->VR w g st.O st.R x u) /\
  ∀ (f:ResultVar->Sem Value) (_:∀ u,f (.tmp u)=pure (a.tmps.getD u undef)) (_:∀ p t,f (.cell p t)=(do loadVar t (<- asAddr (a.tmps.getD p undef)))),(rs.mapM f).run P w=.ok vs w
 | [],l,hS,h,_=>by
  cases h
  exact ⟨[],rfl,by simp,λf _ _=>by simp⟩
 | .tmp t :: r,l,hS,h,ht=>by
  unfold A2 at h
  split at h
  ·rename_i l' hl'
   cases h
   obtain ⟨vs,h1,h2,h3⟩:=F4 hS hl' (λt h=>ht t (by simp [h]));obtain ⟨v,h4,h5⟩:=hS.tm t (ht t (by simp));refine ⟨v :: vs,by simp [h1],λj x u hx hu=>?_,λf hf hc=>?_⟩
   ·cases j with
    | zero=>simp at hx hu; subst hx hu; exact h5
    | succ j=>exact h2 j x u (by simpa using hx) (by simpa using hu)
   ·have:a.tmps.getD t undef=v:=by simp [h4]
    simp [List.mapM_cons,hf,h3 f hf hc,h4]
  ·cases h
 | .cell p t :: r,l,hS,h,ht=>by
  unfold A2 at h
  split at h <;> try (cases h; done)
  rename_i s off hp
  split at h <;> try (cases h; done)
  rename_i cells hc
  split at h <;> try (cases h; done)
  rename_i gg nn hg hn
  split at h <;> try (cases h; done)
  rename_i x l' hx hl'
  cases h
  obtain ⟨vs,h1,h2,h3⟩:=F4 hS hl' (λt h=>ht t (by simp [h]));have hlt:p < n:=by
   rcases Nat.lt_or_ge p n with h | h
   ·exact h
   ·rw [hS.und p h] at hp; cases hp
  obtain ⟨v,h4,h5⟩:=hS.tm p hlt;rw [hp] at h5
  cases h5 with
  | obj s off hs =>
   obtain ⟨arr,e,hh,hl,hv,_⟩:=hS.mem.ob s cells hc;obtain ⟨u,hu,hr⟩:=AT (P:=P) (w:=w) (g:=g) (st:=st) (b:=g.ob s) (o:=0) hg hn hx (λj y hy=>by
    obtain ⟨_,u,hu,hr⟩:=hv j y hy;exact ⟨u,by rw [zWJ]; simp [World.cell?,hh,hu],hr⟩)
   rw [zWJ] at hu;refine ⟨u :: vs,by simp [h1],λj x u hx hu=>?_,λf hf hcc=>?_⟩
   ·cases j with
    | zero=>simp at hx hu; subst hx hu; exact hr
    | succ j=>exact h2 j x u (by simpa using hx) (by simpa using hu)
   ·simp [List.mapM_cons,hcc,h4,asAddr,hu,h3 f hf hcc]
theorem I8{fn:Func}{l:List A}(hS:gF E g n st a w)(h:A2 P st fn.results.toList=some l)(ht:(fn.results.toList.all λ| .tmp t=>Nat.blt t n | _=>true)=true):∃ v,(results fn a.tmps).run P w=.ok v w/\VR w g st.O st.R (UH l) v:=by
 obtain ⟨vs,h1,h2,h3⟩:=F4 hS h (λt h=>by simpa using List.all_eq_true.1 ht _ h);have hres:fn.results=fn.results.toList.toArray:=by simp
 have hr:(results fn a.tmps).run P w=.ok (if h:vs.toArray.size=1 then vs.toArray[0] else .tuple vs.toArray) w:=by
  unfold results;rw [hres,List.mapM_toArray];simp only [Sem.run_bind,Sem.run_map];rw [h3 _ (λ_=>rfl) (λ_ _=>rfl)];simp only [Result.andThen_ok,Sem.run_pure]
 refine ⟨_,hr,?_⟩
 clear hr h3
 match vs,l,h1,h2 with
 | [],[],_,_=>exact .tup [] [] rfl (λi x v h=>by simp at h)
 | [v],[x],_,h2=>exact h2 0 x v rfl rfl
 | v :: v' :: vs,x :: x' :: l,h1,h2=>exact .tup _ _ h1 h2
theorem AG.len{w:World}{F:Nat->Prop}:∀ {l:List V} {vs:List Value} {bs:List Nat},AG w F l vs bs->l.length=vs.length
 | _,_,_,.nil=>rfl
 | _,_,_,.cons _ _ _ _ _ _ _ hs=>by simp [hs.len]
theorem pJ.mono{F F':Nat->Prop}(hF:∀ b,F b->F' b){l:List V}{us:List Value}{os:List (List C)}{bo:List Nat}(h:pJ w F l us os bo):pJ w F' l us os bo:=by
 induction h with
 | nil=>exact .nil
 | ptr c c' v bs l vs os bo h hs ih=>exact .ptr c c' v bs l vs os bo (h.mono (λ_ _=>rfl) hF (λ_ _=>rfl)) ih
 | skip x v l vs os bo hx hs ih=>exact .skip x v l vs os bo hx ih
theorem yG{α:Type}{st':St}:∀ (l:List V) {i:Nat} {us:List Value} {g:Gh} {st:St} {k:List (List C)->MA α} {y:α},eE E g st w->us.length=l.length->(∀ (j:Nat) (c:List C),l[j]?=some (.ptr c)->us[j]?=some (.pointer (some ⟨g.ob (900+(i+j)),0,none⟩)))->(Cx i l k).run st=some (y,st') ->
  ∃ os st1 g1 bo,eE E g1 st1 w/\pd w w g g1 st.O st.R st1.O st1.R/\Lu g st g1 st1/\(k os).run st1=some (y,st')/\pJ w g1.F l us os bo/\Tk g st g1 st1 bo
 | [],i,us,g,st,k,y,hM,hl,hp,h=>by
  have:us=[]:=sk (by simpa using hl);subst this;exact ⟨[],st,g,[],hM,pd.refl _ _ _ _,Lu.refl _ _,h,.nil,Tk.nil _ _ _ _⟩
 | x :: l,i,us,g,st,k,y,hM,hl,hp,h=>by
  obtain ⟨u,us,rfl⟩:∃ u us',us=u :: us':=by
   cases us with
   | nil=>simp at hl
   | cons u us=>exact ⟨u,us,rfl⟩
  have hp':∀ (j:Nat) (c:List C),l[j]?=some (.ptr c)->us[j]?=some (.pointer (some ⟨g.ob (900+(i+1+j)),0,none⟩)):=λj c hj=>by
   have:=hp (j+1) c (by simpa using hj);rw [show i+1+j=i+(j+1) by omega]
   simpa using this
  have hoth:(∀ c,x≠.ptr c)->(Cx (i+1) l k).run st=some (y,st')->∃ os st1 g1 bo,eE E g1 st1 w/\pd w w g g1 st.O st.R st1.O st1.R/\Lu g st g1 st1/\(k os).run st1=some (y,st')/\pJ w g1.F (x :: l) (u :: us) os bo/\Tk g st g1 st1 bo:=λhx h=>by
   obtain ⟨os,st1,g1,bo,h1,h2,h3,h4,h5,h6⟩:=yG l hM (by simpa using hl) hp' h;exact ⟨os,st1,g1,bo,h1,h2,h3,h4,.skip x u l us os bo hx h5,h6⟩
  cases x with
  | ptr c =>
   unfold Cx at h;have hu:=hp 0 c rfl;simp at hu;subst hu;obtain ⟨cs,st1,g1,b1,hM1,hE1,hL1,h1,hv1,ht1,_⟩:=zx hM h;obtain ⟨os,st2,g2,bo,h2,h3,h4,h5,h6,h7⟩:=yG l hM1 (by simpa using hl) (by rw [hL1.ob]; exact hp') h1;exact ⟨cs :: os,st2,g2,b1++bo,h2,hE1.trans h3,hL1.trans h4,h5,.ptr c cs _ b1 l us os bo (hv1.mono h3.same h3.F (λ_ _=>rfl)) h6,ht1.app hM hL1 h7 h4⟩
  | _=>exact hoth (λc h=>by cases h) (by unfold Cx at h; exact h)
theorem Nc{i:Nat}{c:List C}{r:List V}{as:List A}(h:gn i (.ptr c :: r) as=true):∃ as',as=.obj (900+i) 0 :: as'/\gn (i+1) r as'=true:=by
 cases as with
 | nil=>simp [gn] at h
 | cons a as =>
  cases a with
  | obj s off =>
   cases off with
   | zero =>
    simp only [gn,sY] at h;have:=zWw h.1;subst this;exact ⟨as,rfl,h.2⟩
   | succ off=>simp [gn] at h
  | _=>simp [gn] at h
theorem yH{F:Nat->Prop}{O R:Nat->Prop}:∀ {l:List V} {i:Nat} {us:List Value} {as:List A} {bs:List Nat},gn i l as=true->AG w F l us bs->as.length=us.length->(∀ (j:Nat) (x:A),as[j]?=some x->∃ u,us[j]?=some u/\VR w g O R x u) ->
  (∀ s b,(s,b)∈kO i l us->O s/\g.ob s=b)/\∀ (j:Nat) (c:List C),l[j]?=some (.ptr c)->∃ b,us[j]?=some (.pointer (some ⟨b,0,none⟩))/\(900+(i+j),b)∈kO i l us
 | [],i,us,as,bs,hl,hV,hlen,hx=>by
  cases hV
  exact ⟨λs b h=>by simp [kO] at h,λj c h=>by simp at h⟩
 | x :: l,i,us,as,bs,hl,hV,hlen,hx=>by
  cases hV with
  | cons x v b l vs bs' h1 h2 =>
   obtain ⟨a,as,rfl⟩:∃ a as',as=a :: as':=by
    cases as with
    | nil=>simp at hlen
    | cons a as=>exact ⟨a,as,rfl⟩
   obtain ⟨u,hu,hr⟩:=hx 0 a rfl;simp at hu;subst hu;have hx':∀ (j:Nat) (x:A),as[j]?=some x->∃ u,vs[j]?=some u/\VR w g O R x u:=λj x hj=>by simpa using hx (j+1) x (by simpa using hj)
   have hoth:(∀ c,x≠.ptr c)->kO i (x :: l) (v :: vs)=kO (i+1) l vs->gn (i+1) l as=true ->
     (∀ s b,(s,b)∈kO i (x :: l) (v :: vs)->O s/\g.ob s=b)/\∀ (j:Nat) (c:List C),(x :: l)[j]?=some (.ptr c)->∃ b,(v :: vs)[j]?=some (.pointer (some ⟨b,0,none⟩))/\(900+(i+j),b)∈kO i (x :: l) (v :: vs):=λhnp he hla=>by
    obtain ⟨h3,h4⟩:=yH hla h2 (by simpa using hlen) hx';rw [he];refine ⟨h3,λj c hj=>?_⟩
    cases j with
    | zero=>simp at hj; exact absurd hj (hnp c)
    | succ j =>
     obtain ⟨b,h5,h6⟩:=h4 j c (by simpa using hj);exact ⟨b,by simpa using h5,by rw [show i+(j+1)=i+1+j by omega]; exact h6⟩
   cases x with
   | ptr c =>
    obtain ⟨as',he,hla⟩:=Nc hl;injection he with e1 e2
    subst e1 e2
    cases h1 with
    | ptr cells bb arr e vals bs1 q1 q2 q3 q4 =>
      obtain ⟨h3,h4⟩:=yH hla h2 (by simpa using hlen) hx'
      cases hr with
      | obj _ _ hO =>
       simp only [kO];refine ⟨λs b hm=>?_,λj c hj=>?_⟩
       ·rcases List.mem_cons.1 hm with hm | hm
        ·cases hm; exact ⟨hO,rfl⟩
        ·exact h3 s b hm
       ·cases j with
        | zero=>exact ⟨_,rfl,zQv ..⟩
        | succ j =>
         obtain ⟨b,h5,h6⟩:=h4 j c (by simpa using hj);exact ⟨b,by simpa using h5,zQx _ (by rw [show i+(j+1)=i+1+j by omega]; exact h6)⟩
   | _=>exact hoth (λc h=>by cases h) (by cases v <;> rfl) (by unfold gn at hl; exact hl)
end
inductive Dc {α β:Type} (R:α->β->Prop):List α->List β->Prop
 | nil:Dc R [] []
 | cons {a:α} {b:β} {l:List α} {l':List β} (h:R a b) (hs:Dc R l l'):Dc R (a :: l) (b :: l')
inductive P4:C->C->Prop
 | refl (c:C):P4 c c
 | nilT (sz:Nat):P4 .nil (.t (.sl sz []))
 | nilO (e sz:Nat):P4 .nil (.ow e sz [])
 | sz (s s':Nat):P4 (.t (.sl s [])) (.t (.sl s' []))
mutual
inductive Rv:V->V->Prop
 | refl (v:V):Rv v v
 | one {c c':C} (h:P4 c c'):Rv (.one c) (.one c')
 | agg {l l':List C} (h:Dc P4 l l'):Rv (.agg l) (.agg l')
 | tup {l l':List V} (h:A3 l l'):Rv (.tup l) (.tup l')
 | cut (l r:List T):Rv (.fptr (l++r)) (.fptr l)
inductive A3:List V->List V->Prop
 | nil:A3 [] []
 | cons {v v':V} {l l':List V} (h:Rv v v') (hs:A3 l l'):A3 (v :: l) (v' :: l')
end
theorem P4.cv{w:World}{F:Nat->Prop}{c c':C}{v:Value}{bs:List Nat}(h:P4 c c')(hv:CV w F c v bs):CV w F c' v bs:=by
 cases h with
 | refl=>exact hv
 | nilT sz=>cases hv; exact .t _ _ (.sl0 _ _ _ (by first | assumption | exact λ_=>rfl | (intro h; cases h)))
 | nilO e sz =>
  cases hv
  exact .ow e sz [] (.slice none 0 0) [] ⟨by simp,.inl ⟨rfl,rfl⟩⟩ ⟨by simp,λi row h=>by simp at h,λi row j x h=>by simp at h⟩
 | sz s s' =>
  cases hv with
  | t _ _ h =>
   cases h with
   | sl0 _ _ _ ha=>exact .t _ _ (.sl0 _ _ _ (by first | assumption | exact λ_=>rfl | (intro h; cases h)))
   | sl=>exact .t _ _ (.sl0 _ _ _ (by first | assumption | exact λ_=>rfl | (intro h; cases h)))
theorem Qi{w:World}{F:Nat->Prop}:∀ {l l':List C} {vs:List Value} {bs:List Nat},Dc P4 l l'->I0 w F l vs bs->I0 w F l' vs bs
 | _,_,_,_,.nil,.nil=>.nil
 | _,_,_,_,.cons h hs,.cons _ _ _ _ _ _ hc hcs=>.cons _ _ _ _ _ _ (h.cv hc) (Qi hs hcs)
mutual
theorem Rv.vv{w:World}{F:Nat->Prop}:∀ {x x':V} {v:Value} {bs:List Nat},Rv x x'->VV w F x v bs->VV w F x' v bs
 | _,_,_,_,.refl _,hv=>hv
 | _,_,_,_,.one h,.one _ _ _ hc=>.one _ _ _ (h.cv hc)
 | _,_,_,_,.agg h,.agg _ vs _ hc=>.agg _ vs _ (Qi h hc)
 | _,_,_,_,.tup h,.tup _ vs _ hc=>.tup _ vs _ (F5 h hc)
 | _,_,_,_,.cut l r,.fptr _ b off u hF hx hr=>.fptr l b off u hF
   (λj x hj=>hx j x (by rw [rg (List.getElem?_eq_some_iff.1 hj).1]; exact hj)) (λj x hj=>hr j x (by rw [rg (List.getElem?_eq_some_iff.1 hj).1]; exact hj))
theorem F5{w:World}{F:Nat->Prop}:∀ {l l':List V} {vs:List Value} {bs:List Nat},A3 l l'->AG w F l vs bs->AG w F l' vs bs
 | _,_,_,_,.nil,.nil=>.nil
 | _,_,_,_,.cons h hs,.cons _ _ _ _ _ _ hc hcs=>.cons _ _ _ _ _ _ (h.vv hc) (F5 hs hcs)
end
theorem Rv.ptr{x:V}{c:List C}(h:Rv x (.ptr c)):x=.ptr c:=by cases h; rfl
theorem Rv.nptr{x x':V}(h:Rv x x')(hx:∀ c,x'≠.ptr c):∀ c,x≠.ptr c:=by
 cases h <;> first | exact hx | (intro c hc; cases hc)
theorem Rw{w:World}{F:Nat->Prop}{l':List V}{us:List Value}{os:List (List C)}{bo:List Nat}(ho:pJ w F l' us os bo):∀ {l:List V},A3 l l'->pJ w F l us os bo:=by
 induction ho with
 | nil=>intro l h; cases h; exact .nil
 | ptr c c' v bs l vs os bo hv ho ih =>
  intro l h
  cases h with
  | cons h hs =>
   have:=h.ptr;subst this;exact .ptr c c' v bs _ vs os bo hv (ih hs)
 | skip x v l vs os bo hx ho ih =>
  intro l h
  cases h with
  | cons h hs=>exact .skip _ v _ vs os bo (h.nptr hx) (ih hs)
theorem JJ{w:World}{F:Nat->Prop}{l:List V}{us:List Value}{os:List (List C)}{bo:List Nat}(ho:pJ w F l us os bo):∀ {os':List (List C)},Dc (Dc P4) os os'->pJ w F l us os' bo:=by
 induction ho with
 | nil=>intro os' h; cases h; exact .nil
 | ptr c c' v bs l vs os bo hv ho ih =>
  intro os' h
  cases h with
  | cons h hs =>
   refine .ptr c _ v bs l vs _ bo ?_ (ih hs)
   cases hv with
   | ptr _ b arr e vals bs' h1 h2 h3 h4=>exact .ptr _ b arr e vals bs' h1 h2 h3 (Qi h h4)
 | skip x v l vs os bo hx ho ih=>intro os' h; exact .skip x v l vs _ bo hx (ih h)
end Go.Tm
namespace Go.Tm
open Go.RowKit
def cI:St:=⟨λ_=>.undef,λ_=>none,λ_=>none⟩
def fc(as:List A)(st:St):St:=⟨λi=>match as[i]? with | some a=>a | none=>.undef,st.ob,st.rw⟩
def Tt{α:Type}(m:Bool):A->(V->MA α)->MA α
 | .obj s 0,k=>AV s λcs=>k (.ptr cs)
 | .tup l,k=>jQ m (λ_=>false) l λvs=>k (.tup vs)
 | a,k=>oh m a k
theorem EB{E:En}{w:World}{α:Type}{st':St}{m:Bool}{x:A}{st:St}{g:Gh}{k:V->MA α}{y:α}{v:Value}(hM:eE E g st w)(hv:VR w g st.O st.R x v)(h:(Tt m x k).run st=some (y,st')) :
  ∃ c st1 g1 bs,eE E g1 st1 w/\pd w w g g1 st.O st.R st1.O st1.R/\Lu g st g1 st1/\(k c).run st1=some (y,st')/\VV w g1.F c v bs/\Tk g st g1 st1 bs:=by
 unfold Tt at h
 split at h
 ·rename_i s k'
  cases hv with
  | obj _ _ hs =>
   obtain ⟨cs,st1,g1,bs,h1,h2,h3,h4,h5,h6,_⟩:=zx hM h;exact ⟨_,st1,g1,bs,h1,h2,h3,h4,h5,h6⟩
 ·rename_i l
  cases hv with
  | tup l vs hl hx =>
   obtain ⟨cs,st1,g1,bs,hM1,hE1,hL1,h1,hc,ht,_⟩:=tS l hM hl.symm (λj x hj=>⟨_,tw (by rw [<- hl]; exact (List.getElem?_eq_some_iff.1 hj).1),hx j x _ hj (tw (by rw [<- hl]; exact (List.getElem?_eq_some_iff.1 hj).1))⟩) h;exact ⟨_,st1,g1,bs,hM1,hE1,hL1,h1,.tup cs vs bs hc,ht⟩
 ·obtain ⟨c,st1,g1,bs,h1,h2,h3,h4,h5,h6,_⟩:=M6 _ hM hv h;exact ⟨c,st1,g1,bs,h1,h2,h3.lnd,h4,h5,h6⟩
def yI(P:Program)(m:Bool)(fn:Func)(args:List V)(res:V)(cj:List (List C))(e:Exit)(st:St):Prop :=
 (e=.ret\/e=.normal)/\∃ l st1 res0 outs0,A2 P st fn.results.toList=some l/\(Cx 0 args λos=>Tt m (UH l) λv=>MA.ret (v,os)).run st=some ((res0,outs0),st1)/\Rv res0 res/\Dc (Dc P4) outs0 cj
def s4(n:Nat)(fn:Func):Bool:=fn.results.toList.all λ| .tmp t=>Nat.blt t n | _=>true
def Wz(P:Program)(n:Nat)(ls:List Nat)(c:Code)(Q:Exit->St->Prop)(st:St):Prop :=
 ∀ (E:En) (g:Gh) (a:Act) (w:World),Ru P E ls->E.sh=false->E.pin=none->gF E g n st a w->c.wp P (λe a' w'=>∃ g' st',gF E g' n st' a' w'/\Q e st') a w
theorem Ah{P:Program}{fn:Func}{c:Code}{f:FuncId}{args:List V}{as:List A}{st0:St}{m:Bool}{res:V}{cj:List (List C)}
  (hf:P.funcs[f]?=some fn) (hb:fn.body=some c) (hnm:(fn.name == "runtime.NumGoroutine")=false) (hle:as.length<=fn.ntmps) (ht:s4 fn.ntmps fn=true)
  (ha:(lE 0 args MA.ret).run cI=some (as,st0)) (hl:gn 0 args as=true)
  (h:Wz P fn.ntmps (dQ 0 args) c (yI P m fn args res cj) (fc as st0)):aH P f args res cj:=by
 refine ⟨⟨fn,hf,by simp [hb],hnm⟩,λw F vs bs hF hVV hnd hnf htb=>?_⟩
 let E:En:={ w0:=w,X:=λb=>b∈bs,F0:=F,lent:=kO 0 args vs }
 let g0:Gh:={ F:=F,ob:=λ_=>0,rw:=λ_=>.nilFunc,dw:=w }
 have hM0:eE E g0 cI w:=⟨λs cells h=>(by cases h),λs s' h=>(by cases h),λr x h=>(by cases h),λr r' b h=>(by obtain ⟨_,_,_,h⟩:=h; cases h),λr s h=>(by obtain ⟨_,_,_,h⟩:=h; cases h),
  λb hb=>⟨hF b hb,λ_=>.inl hb,.inl hb⟩,rfl,rfl,rfl,zWj _,λ_ _ _=>.inl rfl,λ_ h=>h.elim,⟨rfl,rfl,rfl⟩,λ_ h=>h.elim⟩
 obtain ⟨as',st1,g1,hG,h1,hlen,hx⟩:=BO args hM0 hVV hnd (λb hb=>⟨hnf b hb,λs hs=>(by cases hs),λr hr=>(by obtain ⟨_,_,_,h⟩:=hr; cases h),.inr hb⟩) ha;obtain ⟨rfl,rfl⟩:=eF h1;have hM1:eE E g1 (fc as st0) w:=⟨hG.mem.ob,hG.mem.obne,hG.mem.row,hG.mem.rowne,hG.mem.rowob,hG.mem.F,hG.mem.os,hG.mem.tape,hG.mem.output,hG.mem.sizes,hG.mem.frame,hG.mem.shp,hG.mem.dep0⟩;obtain ⟨hl1,hl2⟩:=yH hl hVV hlen hx;have hS:gF E g1 fn.ntmps (fc as st0) { tmps:=vs.toArray++zZJ (fn.ntmps - vs.toArray.size) undef,defers:=[] } w:=by
  refine ⟨hM1,by simp; omega,rfl,λi hi=>?_,λi hi=>?_,hl1,λ_ h=>(by cases h)⟩
  ·show ∃ v,_/\VR w g1 st0.O st0.R (match as[i]? with | some a=>a | none=>.undef) v
   cases hai:as[i]? with
   | some a =>
    obtain ⟨u,hu,hr⟩:=hx i a hai;have hlt:i < vs.length:=(List.getElem?_eq_some_iff.1 hu).1;exact ⟨u,by rw [zYz (by simpa using hlt)]; simpa using hu,hr⟩
   | none =>
    have hge:as.length<=i:=List.getElem?_eq_none_iff.1 hai;refine ⟨undef,?_,.undef _⟩;rw [zYG (by simpa [<- hlen] using hge)];rw [zZQ,if_pos (by simp only [zYK]; omega)]
  ·show (match as[i]? with | some a=>a | none=>.undef)=A.undef;rw [List.getElem?_eq_none_iff.2 (by omega)]
 refine calls_of_wp hf hb (wp_mono (h E g1 _ w ⟨⟨[],by rw [zXQ]; exact (o3 _ _ _).symm,F3 _ _ _,λ_ h=>(by cases h),λh=>(by cases h)⟩,⟨htb.mono λb h=>h.elim id λh=>(by cases h.1)⟩⟩ rfl rfl hS) λe a' w' ⟨g',st',hS',hR⟩=>?_);obtain ⟨he,l,st2,res0,outs0,hres,hrun,hvle,hole⟩:=hR;have hfin:a'.defers=[]/\∃ v,(results fn a'.tmps).run P w'=.ok v w'/\(λe w'=>∃ v F' bv bo,e=Ending.returned v/\oV w w'/\(∀ b,b < w.heap.size->b∉bs->w'.heap[b]?=w.heap[b]?)/\(∀ b,F b->F' b) /\
   (∀ b,F' b->b < w'.heap.size/\(b < w.heap.size->F b\/b∈bs)/\(F b\/Wr w' b))/\VV w' F' res v bv/\pJ w' F' args vs cj bo/\(bv++bo).Nodup/\∀ b∈bv++bo,¬ F' b/\(w.heap.size<=b\/b∈bs)) (.returned v) w':=by
  refine ⟨hS'.defers,?_⟩;obtain ⟨v,hrv,hvv⟩:=I8 hS' hres ht;refine ⟨v,hrv,?_⟩;have hM':=hS'.mem;obtain ⟨os,st3,g3,bo,hM3,hE3,hL3,h3,hO,hT3⟩:=yG (w:=w') args hM' (us:=vs) (hVV.len.symm) (λj c hj=>by
   obtain ⟨b,h5,h6⟩:=hl2 j c hj;rw [(hS'.lent _ _ h6).2];exact h5) hrun
  obtain ⟨c',st4,g4,bv,hM4,hE4,hL4,h4,hv4,hT4⟩:=EB hM3 (hvv.mono hE3) h3;obtain ⟨h5,rfl⟩:=eF h4;injection h5 with h5 h6
  subst h5 h6;have hT:=hT3.app hM' hL3 hT4 hL4;have hof:∀ b∈bo++bv,w.heap.size<=b\/b∈bs:=λb hb=>by
   rcases hT.of b hb with ⟨r,⟨e,sz,rows,h7⟩,_,h8⟩ | ⟨s,⟨c,cs,h7⟩,_,h8⟩
   ·obtain ⟨_,_,_,_,h9⟩:=hM'.row r _ h7;exact (h9 b h8).2
   ·obtain ⟨_,_,_,_,_,_,h9⟩:=hM'.ob s _ h7;rw [h8] at h9;exact h9
  have hnF:∀ b∈bo++bv,¬ (g4.F b\/F b):=λb hb h=>by
   rcases h with h | h
   ·exact hT.nf b hb h
   ·rcases hof b hb with h7 | h7
    ·have:=hF b h; omega
    ·exact hnf b h7 h
  have hmem:∀ b,b∈bv++bo->b∈bo++bv:=λb hb=>by
   rcases List.mem_append.1 hb with h | h <;> simp [h]
  refine ⟨v,λb=>g4.F b\/F b,bv,bo,rfl,⟨hM4.os,hM4.tape,hM4.output,hM4.sizes⟩,λb hb hbs=>hM4.frm rfl b hb hbs,λb h=>.inr h,λb h=>?_,hvle.vv (hv4.mono (λ_ _=>rfl) (λ_ h=>.inl h) (λ_ _=>rfl)),JJ (hO.mono (λb h=>.inl (hE4.F b h))) hole,?_,λb hb=>⟨hnF b (hmem b hb),hof b (hmem b hb)⟩⟩
  ·rcases h with h | h
   ·exact hM4.F b h
   ·exact ⟨zQK (hF b h) hM4.sizes,λ_=>.inl h,.inl h⟩
  ·have:=hT.nodup;rw [zXJ] at this ⊢;exact ⟨this.2.1,this.1,λx hx y hy he=>this.2.2 y hy x hx he.symm⟩
 rcases he with rfl | rfl
 ·exact hfin
 ·exact hfin
theorem JK{P:Program}{fn:Func}{c:Code}{f:FuncId}{args:List V}{as:List A}{st0:St}{m:Bool}{res:V}{cj:List (List C)}
  (hf:P.funcs[f]?=some fn) (hb:fn.body=some c) (hnm:(fn.name == "runtime.NumGoroutine")=false) (hle:as.length<=fn.ntmps) (ht:s4 fn.ntmps fn=true)
  (ha:(lE 0 args MA.ret).run cI=some (as,st0)) (hl:gn 0 args as=true)
  (h:Wp P fn.ntmps (dQ 0 args) c (yI P m fn args res cj) (fc as st0)):aH P f args res cj:=Ah hf hb hnm hle ht ha hl λE g a w hE _ _ hS=>h E g a w hE hS
theorem Sl{E:En}{g:Gh}{st0:St}{w:World}{n:Nat}{as:List A}{vs:List Value}(hM:eE E g (fc as st0) w)(hlen:vs.length=as.length)(hle:as.length<=n)
  (hx:∀ (j:Nat) (x:A),as[j]?=some x->∃ u,vs[j]?=some u/\VR w g st0.O st0.R x u) (hl:E.lent=[]) (hp:∀ v,E.pin=some v->(fc as st0).R PR/\g.rw PR=v) :
  gF E g n (fc as st0) { tmps:=vs.toArray++zZJ (n - vs.toArray.size) undef,defers:=[] } w:=by
 refine ⟨hM,by simp; omega,rfl,λi hi=>?_,λi hi=>?_,λs b h=>(by rw [hl] at h; cases h),hp⟩
 ·show ∃ v,_/\VR w g st0.O st0.R (match as[i]? with | some a=>a | none=>.undef) v
  cases hai:as[i]? with
  | some a =>
   obtain ⟨u,hu,hr⟩:=hx i a hai;have hlt:i < vs.length:=(List.getElem?_eq_some_iff.1 hu).1;exact ⟨u,by rw [zYz (by simpa using hlt)]; simpa using hu,hr⟩
  | none =>
   have hge:as.length<=i:=List.getElem?_eq_none_iff.1 hai;refine ⟨undef,?_,.undef _⟩;rw [zYG (by simpa [hlen] using hge)];rw [zZQ,if_pos (by simp only [zYK]; omega)]
 ·show (match as[i]? with | some a=>a | none=>.undef)=A.undef;rw [List.getElem?_eq_none_iff.2 (by omega)]
def C.toX:C->A
 | .t x=>Un false x
 | _=>.undef
def V.toX:V->A
 | .one c=>c.toX
 | .agg l=>.agg (l.map C.toX)
 | .fptr cells=>.exa false cells
 | _=>.undef
theorem CV.toX{w:World}{D:Nat->Prop}{g:Gh}{c:C}{v:Value}{bs:List Nat}(h:CV w D c v bs)(h1:g.D=D)(h2:g.dw=w)(h3:g.sh=false):VR w g Lv Lv c.toX v:=by
 cases h with
 | t x v h =>
  cases x with
  | sl sz rows=>exact .ext false _ v h3 (by rw [h1,h2]; exact h.sd)
  | int k n=>exact .t _ v (h.sc rfl)
  | bool b=>exact .t _ v (h.sc rfl)
  | str s=>exact .t _ v (h.sc rfl)
  | nilf=>exact .t _ v (h.sc rfl)
  | hdr a n c=>exact .t _ v (h.sc rfl)
 | nil=>exact .undef _
 | ow=>exact .undef _
theorem I0.toX{w:World}{D:Nat->Prop}{g:Gh}{l:List C}{vs:List Value}{bs:List Nat}(h:I0 w D l vs bs)(h1:g.D=D)(h2:g.dw=w)(h3:g.sh=false) :
  l.length=vs.length/\∀ (i:Nat) (x:A) (v:Value),(l.map C.toX)[i]?=some x->vs[i]?=some v->VR w g Lv Lv x v:=by
 induction h with
 | nil=>exact ⟨rfl,λi x v h=>by simp at h⟩
 | cons c v b cs vs bs h hs ih =>
  refine ⟨by simp [ih.1],λi x u hx hu=>?_⟩
  cases i with
  | zero=>simp at hx hu; subst hx hu; exact h.toX h1 h2 h3
  | succ i=>exact ih.2 i x u (by simpa using hx) (by simpa using hu)
theorem VV.toX{w:World}{D:Nat->Prop}{g:Gh}{x:V}{v:Value}{bs:List Nat}(h:VV w D x v bs)(h1:g.D=D)(h2:g.dw=w)(h3:g.sh=false):VR w g Lv Lv x.toX v:=by
 cases h with
 | one c v bs h=>exact h.toX h1 h2 h3
 | agg l vs bs h =>
  obtain ⟨h4,h5⟩:=h.toX h1 h2 h3;exact .agg _ vs (by simp [h4]) h5
 | fptr cells b off u hF hx hr=>exact .exa false cells b off u h3 (by rw [h1]; exact hF) (by rw [h2]; exact hx) (λj x hj=>by rw [h1,h2]; exact (hr j x hj).sd)
 | _=>exact .undef _
theorem AG.toX{w:World}{D:Nat->Prop}{g:Gh}(h1:g.D=D)(h2:g.dw=w)(h3:g.sh=false):∀ {l:List V} {vs:List Value} {bs:List Nat},AG w D l vs bs ->
  vs.length=l.length/\∀ (j:Nat) (x:A),(l.map V.toX)[j]?=some x->∃ u,vs[j]?=some u/\VR w g Lv Lv x u
 | _,_,_,.nil=>⟨rfl,λj x h=>by simp at h⟩
 | _,_,_,.cons x v b l vs bs h hs=>by
  obtain ⟨h4,h5⟩:=AG.toX h1 h2 h3 hs;refine ⟨by simp [h4],λj y hy=>?_⟩
  cases j with
  | zero=>simp at hy; subst hy; exact ⟨v,rfl,h.toX h1 h2 h3⟩
  | succ j=>exact h5 j y (by simpa using hy) |>.imp λu hu=>⟨by simpa using hu.1,hu.2⟩
theorem WC{E:En}{g:Gh}{as:List A}{w:World}(h1:∀ b,¬ g.F b)(hS0:∀ b,¬ g.S b:=by exact λ_ h=>h)(hw:E.w0=w)(hd:g.D=E.D/\g.dw=E.w0/\g.sh=E.sh)(hD:∀ b,E.D b->b < E.w0.heap.size/\¬ E.X b/\(E.sh=true->¬ E.F0 b/\Wr E.w0 b)):eE E g (fc as cI) w:=by
 subst hw;exact ⟨λs cells h=>(by cases h),λs s' h=>(by cases h),λr x h=>(by cases h),λr r' b h=>(by obtain ⟨_,_,_,h⟩:=h; cases h),λr s h=>(by obtain ⟨_,_,_,h⟩:=h; cases h),
  λb hb=>(h1 b hb).elim,rfl,rfl,rfl,zWj _,λ_ _ _=>.inl rfl,λb h=>(hS0 b h).elim,hd,hD⟩
theorem OC{P:Program}{fn:Func}{c:Code}{f:FuncId}{args:List V}{m:Bool}{res:V}
  (hf:P.funcs[f]?=some fn) (hb:fn.body=some c) (hnm:(fn.name == "runtime.NumGoroutine")=false) (hle:args.length<=fn.ntmps) (ht:s4 fn.ntmps fn=true)
  (h:Wp P fn.ntmps [1] c (yI P m fn [] res []) (fc (args.map V.toX) cI)):pe P f args res:=by
 refine ⟨⟨fn,hf,by simp [hb],hnm⟩,λw D vs hD hVV htb=>?_⟩
 let E:En:={ w0:=w,X:=Lv,F0:=Lv,lent:=[],D:=D }
 let g0:Gh:={ F:=Lv,ob:=λ_=>0,rw:=λ_=>.nilFunc,D:=D,dw:=w }
 have hM0:eE E g0 (fc (args.map V.toX) cI) w:=WC (λ_ h=>h) (hw:=rfl) (hd:=⟨rfl,rfl,rfl⟩) (hD:=λb hb=>⟨hD b hb,λh=>h,λh=>(by cases h)⟩);obtain ⟨hlen,hx⟩:=AG.toX (g:=g0) rfl rfl rfl hVV;have hS:=Sl (n:=fn.ntmps) hM0 (by simpa using hlen) (by simpa using hle) (λj x hj=>by
  obtain ⟨u,h1,h2⟩:=hx j x hj;exact ⟨u,h1,h2.mono ⟨λ_ _=>rfl,λ_ h=>h,λ_ h=>h.elim,λ_ h=>h.elim,⟨rfl,rfl,rfl⟩,rfl,rfl⟩⟩) rfl (λv h=>(by cases h))
 refine calls_of_wp hf hb (wp_mono (h E g0 _ w ⟨⟨[1],rfl,λ_ h=>(by cases h),λ_ h=>(by cases h),λ_ b=>⟨λh=>h,λh=>h⟩⟩,⟨htb.mono λb h=>h.elim id λh=>(by cases h.1)⟩⟩ hS) λe a' w' ⟨g',st',hS',hR⟩=>?_);obtain ⟨he,l,st2,res0,outs0,hres,hrun,hvle,hole⟩:=hR;have hfin:a'.defers=[]/\∃ v,(results fn a'.tmps).run P w'=.ok v w'/\(λe w'=>∃ v F' bv,e=Ending.returned v/\oV w w'/\(∀ b,b < w.heap.size->w'.heap[b]?=w.heap[b]?) /\
   (∀ b,F' b->b < w'.heap.size/\w.heap.size<=b/\Wr w' b)/\VV w' F' res v bv/\bv.Nodup/\∀ b∈bv,¬ F' b/\w.heap.size<=b) (.returned v) w':=by
  refine ⟨hS'.defers,?_⟩;obtain ⟨v,hrv,hvv⟩:=I8 hS' hres ht;refine ⟨v,hrv,?_⟩;have hM':=hS'.mem;simp only [Cx] at hrun;obtain ⟨c',st4,g4,bv,hM4,hE4,hL4,h4,hv4,hT4⟩:=EB hM' hvv hrun;obtain ⟨h5,rfl⟩:=eF h4;injection h5 with h5 h6
  subst h5 h6;have hof:∀ b∈bv,w.heap.size<=b:=λb hb=>by
   rcases hT4.of b hb with ⟨r,⟨e,sz,rows,h7⟩,_,h8⟩ | ⟨s,⟨c,cs,h7⟩,_,h8⟩
   ·obtain ⟨_,_,_,_,h9⟩:=hM'.row r _ h7;exact (h9 b h8).2.resolve_right (λh=>h)
   ·obtain ⟨_,_,_,_,_,_,h9⟩:=hM'.ob s _ h7;rw [h8] at h9;exact h9.resolve_right (λh=>h)
  refine ⟨v,g4.F,bv,rfl,⟨hM4.os,hM4.tape,hM4.output,hM4.sizes⟩,λb hb=>hM4.frm rfl b hb (λh=>h),λb h=>?_,hvle.vv hv4,hT4.nodup,λb hb=>⟨hT4.nf b hb,hof b hb⟩⟩;obtain ⟨h7,h8,h9⟩:=hM4.F b h;refine ⟨h7,Nat.le_of_not_lt λhlt=>?_,h9.resolve_left (λh=>h)⟩;rcases h8 hlt with h | h <;> exact h
 rcases he with rfl | rfl
 ·exact hfin
 ·exact hfin
theorem OD{P:Program}{fn:Func}{c:Code}{f:FuncId}{args xs:List V}{as:List A}{st0:St}{m:Bool}{res:V}{cj:List (List C)}
  (hf:P.funcs[f]?=some fn) (hb:fn.body=some c) (hnm:(fn.name == "runtime.NumGoroutine")=false) (hle:(as++xs.map V.toX).length<=fn.ntmps) (ht:s4 fn.ntmps fn=true)
  (ha:(lE 0 args MA.ret).run cI=some (as,st0)) (hl:gn 0 args as=true)
  (h:Wp P fn.ntmps (dQ 0 args) c (yI P m fn args res cj) (fc (as++xs.map V.toX) st0)):P2 P f args xs res cj:=by
 refine ⟨⟨fn,hf,by simp [hb],hnm⟩,λw F D vs us bs hF hD hVV hUU hnd hnf htb=>?_⟩
 let E:En:={ w0:=w,X:=λb=>b∈bs,F0:=F,lent:=kO 0 args vs,D:=D }
 let g0:Gh:={ F:=F,ob:=λ_=>0,rw:=λ_=>.nilFunc,D:=D,dw:=w }
 have hM0:eE E g0 cI w:=⟨λs cells h=>(by cases h),λs s' h=>(by cases h),λr x h=>(by cases h),λr r' b h=>(by obtain ⟨_,_,_,h⟩:=h; cases h),λr s h=>(by obtain ⟨_,_,_,h⟩:=h; cases h),
  λb hb=>⟨hF b hb,λ_=>.inl hb,.inl hb⟩,rfl,rfl,rfl,zWj _,λ_ _ _=>.inl rfl,λ_ h=>h.elim,⟨rfl,rfl,rfl⟩,λb hb=>⟨(hD b hb).1,(hD b hb).2,λh=>(by cases h)⟩⟩
 obtain ⟨as',st1,g1,hG,h1,hlen,hx⟩:=BO args hM0 hVV hnd (λb hb=>⟨hnf b hb,λs hs=>(by cases hs),λr hr=>(by obtain ⟨_,_,_,h⟩:=hr; cases h),.inr hb⟩) ha;obtain ⟨rfl,rfl⟩:=eF h1;have hM1:eE E g1 (fc (as++xs.map V.toX) st0) w:=⟨hG.mem.ob,hG.mem.obne,hG.mem.row,hG.mem.rowne,hG.mem.rowob,hG.mem.F,hG.mem.os,hG.mem.tape,hG.mem.output,hG.mem.sizes,hG.mem.frame,hG.mem.shp,hG.mem.dep0⟩;obtain ⟨hl1,hl2⟩:=yH hl hVV hlen hx;obtain ⟨hd1,hd2,hd3⟩:=hG.mem.dep0.1;obtain ⟨hul,hux⟩:=AG.toX (g:=g1) (by rw [hd1]) (by rw [hd2]) (by rw [hd3]) hUU;have hx2:∀ (j:Nat) (x:A),(as++xs.map V.toX)[j]?=some x->∃ u,(vs++us)[j]?=some u/\VR w g1 st0.O st0.R x u:=λj x hj=>by
  rw [zWH] at hj
  split at hj
  ·rename_i hlt;obtain ⟨u,h5,h6⟩:=hx j x hj;exact ⟨u,by rw [rg (by omega)]; exact h5,h6⟩
  ·rename_i hge;obtain ⟨u,h5,h6⟩:=hux _ x hj;exact ⟨u,by rw [zQQ (by omega),<- hlen]; exact h5,h6.mono ⟨λ_ _=>rfl,λ_ h=>h,λ_ h=>h.elim,λ_ h=>h.elim,⟨rfl,rfl,rfl⟩,rfl,rfl⟩⟩
 have hlen2:(as++xs.map V.toX).length=(vs++us).length:=by simp [hlen,hul]
 have hle2:as.length+xs.length<=fn.ntmps:=by simpa using hle
 have hvl:(vs++us).length=vs.length+us.length:=zQw;have hS:gF E g1 fn.ntmps (fc (as++xs.map V.toX) st0) { tmps:=(vs++us).toArray++zZJ (fn.ntmps - (vs++us).toArray.size) undef,defers:=[] } w:=by
  refine ⟨hM1,by simp; omega,rfl,λi hi=>?_,λi hi=>?_,hl1,λ_ h=>(by cases h)⟩
  ·show ∃ v,_/\VR w g1 st0.O st0.R (match (as++xs.map V.toX)[i]? with | some a=>a | none=>.undef) v
   cases hai:(as++xs.map V.toX)[i]? with
   | some a =>
    obtain ⟨u,hu,hr⟩:=hx2 i a hai;have hlt:i < (vs++us).length:=(List.getElem?_eq_some_iff.1 hu).1;exact ⟨u,by rw [zYz (by simpa using hlt)]; simpa using hu,hr⟩
   | none =>
    have hge:(as++xs.map V.toX).length<=i:=List.getElem?_eq_none_iff.1 hai;refine ⟨undef,?_,.undef _⟩;rw [zYG (by simpa [<- hlen2] using hge)];rw [zZQ,if_pos (by simp only [zYK]; omega)]
  ·show (match (as++xs.map V.toX)[i]? with | some a=>a | none=>.undef)=A.undef;rw [List.getElem?_eq_none_iff.2 (by omega)]
 refine calls_of_wp hf hb (wp_mono (h E g1 _ w ⟨⟨[],by rw [zXQ]; exact (o3 _ _ _).symm,F3 _ _ _,λ_ h=>(by cases h),λh=>(by cases h)⟩,⟨htb.mono λb h=>h.elim id λh=>(by cases h.1)⟩⟩ hS) λe a' w' ⟨g',st',hS',hR⟩=>?_);obtain ⟨he,l,st2,res0,outs0,hres,hrun,hvle,hole⟩:=hR;have hfin:a'.defers=[]/\∃ v,(results fn a'.tmps).run P w'=.ok v w'/\(λe w'=>∃ v F' bv bo,e=Ending.returned v/\oV w w'/\(∀ b,b < w.heap.size->b∉bs->w'.heap[b]?=w.heap[b]?)/\(∀ b,F b->F' b) /\
   (∀ b,F' b->b < w'.heap.size/\(b < w.heap.size->F b\/b∈bs)/\(F b\/Wr w' b))/\VV w' F' res v bv/\pJ w' F' args vs cj bo/\(bv++bo).Nodup/\∀ b∈bv++bo,¬ F' b/\(w.heap.size<=b\/b∈bs)) (.returned v) w':=by
  refine ⟨hS'.defers,?_⟩;obtain ⟨v,hrv,hvv⟩:=I8 hS' hres ht;refine ⟨v,hrv,?_⟩;have hM':=hS'.mem;obtain ⟨os,st3,g3,bo,hM3,hE3,hL3,h3,hO,hT3⟩:=yG (w:=w') args hM' (us:=vs) (hVV.len.symm) (λj c hj=>by
   obtain ⟨b,h5,h6⟩:=hl2 j c hj;rw [(hS'.lent _ _ h6).2];exact h5) hrun
  obtain ⟨c',st4,g4,bv,hM4,hE4,hL4,h4,hv4,hT4⟩:=EB hM3 (hvv.mono hE3) h3;obtain ⟨h5,rfl⟩:=eF h4;injection h5 with h5 h6
  subst h5 h6;have hT:=hT3.app hM' hL3 hT4 hL4;have hof:∀ b∈bo++bv,w.heap.size<=b\/b∈bs:=λb hb=>by
   rcases hT.of b hb with ⟨r,⟨e,sz,rows,h7⟩,_,h8⟩ | ⟨s,⟨c,cs,h7⟩,_,h8⟩
   ·obtain ⟨_,_,_,_,h9⟩:=hM'.row r _ h7;exact (h9 b h8).2
   ·obtain ⟨_,_,_,_,_,_,h9⟩:=hM'.ob s _ h7;rw [h8] at h9;exact h9
  have hnF:∀ b∈bo++bv,¬ (g4.F b\/F b):=λb hb h=>by
   rcases h with h | h
   ·exact hT.nf b hb h
   ·rcases hof b hb with h7 | h7
    ·have:=hF b h; omega
    ·exact hnf b h7 h
  have hmem:∀ b,b∈bv++bo->b∈bo++bv:=λb hb=>by
   rcases List.mem_append.1 hb with h | h <;> simp [h]
  refine ⟨v,λb=>g4.F b\/F b,bv,bo,rfl,⟨hM4.os,hM4.tape,hM4.output,hM4.sizes⟩,λb hb hbs=>hM4.frm rfl b hb hbs,λb h=>.inr h,λb h=>?_,hvle.vv (hv4.mono (λ_ _=>rfl) (λ_ h=>.inl h) (λ_ _=>rfl)),JJ (hO.mono (λb h=>.inl (hE4.F b h))) hole,?_,λb hb=>⟨hnF b (hmem b hb),hof b (hmem b hb)⟩⟩
  ·rcases h with h | h
   ·exact hM4.F b h
   ·exact ⟨zQK (hF b h) hM4.sizes,λ_=>.inl h,.inl h⟩
  ·have:=hT.nodup;rw [zXJ] at this ⊢;exact ⟨this.2.1,this.1,λx hx y hy he=>this.2.2 y hy x hx he.symm⟩
 rcases he with rfl | rfl
 ·exact hfin
 ·exact hfin
end Go.Tm
namespace Go.Tm
open Go.RowKit
def o4(P:Program)(ρ:Nat->dG)(ops:Array Oper):List Oper->St->Option St
 | [],st=>some st
 | o :: l,st=>match iB ops st o with
  | some true=>if ek ρ st o then match (pI P ρ st.eval o).run st with | some (x,st1)=>o4 P ρ ops l (st1.put o.dst x) | none=>none else none
  | some false=>o4 P ρ ops l (st.put o.dst (.tup []))
  | none=>none
def St.or(x:Option St):St:=match x with | some s=>s | none=>cI
section
variable {P:Program} {n:Nat} {Q:Exit->St->Prop} {st st':St} {p:Nat->Bool} {ρ:Nat->dG} {ops:Array Oper} {l:List Oper} {K:St->Prop} {o:Oper}
theorem yJ:∀ {l:List Oper} {st st1:St},o4 P ρ ops l st=some st1->AH P p ρ ops l st st1
 | [],st,st1,h=>by cases h; rfl
 | o :: l,st,st1,h=>by
  unfold o4 at h
  split at h
  ·rename_i hg
   split at h
   ·rename_i hf
    split at h
    ·rename_i x st2 hx;exact ⟨_,.run x st2 hg hf (.plain hx),yJ h⟩
    ·cases h
   ·cases h
  ·rename_i hg;exact ⟨_,.skip hg,yJ h⟩
  ·cases h
theorem AH.app:∀ {l l':List Oper} {st b c:St},AH P p ρ ops l st b->AH P p ρ ops l' b c->AH P p ρ ops (l++l') st c
 | [],l',st,b,c,h,h'=>by have h:b=st:=h; subst h; exact h'
 | o :: l,l',st,b,c,⟨d,h1,h2⟩,h'=>⟨d,h1,AH.app h2 h'⟩
theorem aj(k:Nat)(h:(o4 P ρ ops (l.take k) st).isSome=true)(hr:ae P p ρ ops (l.drop k) (St.or (o4 P ρ ops (l.take k) st)) K):ae P p ρ ops l st K:=by
 obtain ⟨st1,h1⟩:=Option.isSome_iff_exists.1 h;rw [h1] at hr;obtain ⟨st',h2,h3⟩:=hr;refine ⟨st',?_,h3⟩;have:=AH.app (yJ h1) h2;rwa [zXj] at this
theorem ae.all(h:(o4 P ρ ops l st).isSome=true)(hr:K (St.or (o4 P ρ ops l st))):ae P p ρ ops l st K:=by
 obtain ⟨st1,h1⟩:=Option.isSome_iff_exists.1 h;rw [h1] at hr;exact ⟨st1,yJ h1,hr⟩
theorem ae.call{m:Bool}{d f:Nat}{xf:Operand}{args:Array Operand}{ts:Array TypeId}{caps as:List A}{vs:List V}{st1:St}{res:V}{cj:List (List C)}{x:A}
  (hg:iB ops st o=some true) (hf:ek ρ st o=true) (ho:o.op=.call { callee:=.value xf,args,argTypes:=ts }) (hd:o.dst=some d) (hxf:st.eval xf=some (.clo f caps)) (has:cT (args.toList.map st.eval)=some as)
  (hp:(jQ m p (as++caps) MA.ret).run st=some (vs,st1)) (hc:aH P f vs res cj) (hr:(dg d (dy (as++caps)) cj (V.toA d (eD d 0) res MA.ret)).run st1=some (x,st'))
  (hk:ae P p ρ ops l (st'.put o.dst x) K):ae P p ρ ops (o :: l) st K :=
 ae.step (.run x st' hg hf (.call m d f xf args ts caps as vs st1 res cj ho hd hxf has hp hc hr)) hk
theorem ae.callB{d f:Nat}{xf:Operand}{args:Array Operand}{ts:Array TypeId}{caps as:List A}{vs:List V}{res:V}{x:A}
  (hg:iB ops st o=some true) (hf:ek ρ st o=true) (ho:o.op=.call { callee:=.value xf,args,argTypes:=ts }) (hd:o.dst=some d) (hxf:st.eval xf=some (.clo f caps)) (has:cT (args.toList.map st.eval)=some as)
  (hp:(dz (as++caps) MA.ret).run st=some (vs,st)) (hc:aH P f vs res []) (hpl:res.plain) (hr:(V.toA d (eD d 0) res MA.ret).run st=some (x,st'))
  (hk:ae P p ρ ops l (st'.put o.dst x) K):ae P p ρ ops (o :: l) st K :=
 ae.step (.run x st' hg hf (.callB d f xf args ts caps as vs res ho hd hxf has hp hc hpl hr)) hk
theorem Wa{α:Type}{t e:TypeId}{f:α->List T}{xs:List α}{y:α}{sz:Nat}{kk:IntKind}{i:Int}(hu:P.underlying t=some (.slice e))(hs:iA P e=some sz)(h0:0<=i)(h:xs[i.toNat]?=some y) :
  (jP P t (.t (.sl sz (xs.map f))) (.t (.int kk i))).run st=some (.fadr (f y),st):=by
 unfold jP;simp only [hu,hs,zr,h0,and_self,↓reduceIte,zQX,h,zWQ,true_and,MA.run]
theorem UI{α:Type}{t e:TypeId}{f:α->List T}{xs:List α}{y:α}{sz r:Nat}{kk:IntKind}{i:Int}{e':TypeId}(hu:P.underlying t=some (.slice e))(hs:iA P e=some sz)(hr:st.rw r=some (.live e' sz (xs.map f)))(h0:0<=i)(h:xs[i.toNat]?=some y) :
  (jP P t (.own r) (.t (.int kk i))).run st=some (.elem r sz i.toNat 0,st):=by
 have:i.toNat < xs.length:=(List.getElem?_eq_some_iff.1 h).1;unfold jP;simp only [hu,hs,MA.run,hr,h0,zXx,this,and_self,↓reduceIte,true_and]
end
end Go.Tm
namespace Go.Tm
open Go.RowKit
section
variable {P:Program} {n:Nat} {ls:List Nat} {st st1:St}
theorem Le.trans{st2:St}(h:Le n ls st st1)(k:Le n ls st1 st2):Le n ls st st2:=λE g a w hE hS=>by
 obtain ⟨g1,h1⟩:=h E g a w hE hS;exact k E g1 a w hE h1
theorem UJ{t:Nat}{x:A}(htm:st1.tm=st.tm)(h:∀ (E:En) (g:Gh) (w:World) (v:Value),eE E g st w->VR w g st.O st.R (st.tm t) v->∃ g1,eE E g1 st1 w/\pd w w g g1 st.O st.R st1.O st1.R/\VR w g1 st1.O st1.R x v)(ht:t < n) :
  Le n ls st (st1.put (some t) x):=λE g a w hE hS=>by
 obtain ⟨v,h1,h2⟩:=hS.tm t ht;obtain ⟨g1,h3,h4,h5⟩:=h E g w v hS.mem h2;refine ⟨g1,h3.put _ _,hS.size,hS.defers,λi hi=>?_,λi hi=>?_,λs b hs=>?_,λv' hv'=>⟨(h4.R _ (hS.pin v' hv').1).1,(h4.R _ (hS.pin v' hv').1).2.trans (hS.pin v' hv').2⟩⟩
 ·show ∃ u,_/\VR w g1 st1.O st1.R (dV st1.tm t x i) u
  by_cases he:i=t
  ·subst he;exact ⟨v,h1,by rw [cO]; exact h5⟩
  ·obtain ⟨u,h6,h7⟩:=hS.tm i hi;exact ⟨u,h6,by rw [bZ _ _ _ _ he,htm]; exact h7.mono h4⟩
 ·show dV st1.tm t x i=A.undef;rw [bZ _ _ _ _ (by omega),htm];exact hS.und i hi
 ·obtain ⟨h6,h7⟩:=hS.lent s b hs;exact ⟨(h4.O s h6).1,(h4.O s h6).2.trans h7⟩
theorem eE.nilrow{E:En}{g:Gh}{w:World}{r:Nat}(h:eE E g st w)(hr:st.rw r=none)(e sz:Nat) :
  eE E { g with rw:=dV g.rw r (.slice none 0 0) } { st with rw:=dV st.rw r (some (.live e sz [])) } w /\
   pd w w g { g with rw:=dV g.rw r (.slice none 0 0) } st.O st.R ({ st with rw:=dV st.rw r (some (.live e sz [])) }:St).O ({ st with rw:=dV st.rw r (some (.live e sz [])) }:St).R :=
 h.new_row (oV.refl w) r hr (.slice none 0 0) e sz [] (λ_=>False) (λ_ _ _=>rfl) (λb h=>by cases h) (λ_ _ h=>h.elim) (λ_ h=>h.elim)
  ⟨[],⟨by simp,.inl ⟨rfl,rfl⟩⟩,λi row h=>by simp at h,λi row j x h=>by simp at h,λb h=>by cases h⟩
theorem Le.frz(t r e sz:Nat)(rows:List (List T))(ht:st.tm t=.own r)(hr:st.rw r=some (.live e sz rows))(hlt:Nat.blt t n=true) :
  Le n ls st (({ st with rw:=dV st.rw r (some (.frz sz rows)) }:St).put (some t) (.t (.sl sz rows))) :=
 UJ rfl (λE g w v hM hv=>by
  rw [ht] at hv
  cases hv with
  | own _ hR =>
   obtain ⟨h1,h2⟩:=hM.frz_row r e sz rows hr;have h3:Rd w _ (.sl sz rows) (g.rw r):=h1.row r (.frz sz rows) (by simp [cO]);exact ⟨_,h1,h2,.t _ _ h3⟩) (by simpa using hlt)
theorem eE.reob{E:En}{g:Gh}{w:World}{s:Nat}{cells cells':List A}(h:eE E g st w)(hs:st.ob s=some cells)(hl:cells'.length<=cells.length)
  (hx:∀ (j:Nat) (x':A),cells'[j]?=some x'->∃ x,cells[j]?=some x/\∀ v,x.one=true->VR w g st.O st.R x v->x'.one=true/\VR w g st.O st.R x' v):eE E g { st with ob:=dV st.ob s (some cells') } w:=by
 have hO:({ st with ob:=dV st.ob s (some cells') }:St).O=st.O:=by
  funext i
  unfold St.O;simp only [dV]
  split
  ·rename_i he;rw [he,hs];rfl
  ·rfl
 have hR:({ st with ob:=dV st.ob s (some cells') }:St).R=st.R:=rfl;have hL:({ st with ob:=dV st.ob s (some cells') }:St).L=st.L:=rfl;refine ⟨λi c hi=>?_,by rw [hO]; exact h.obne,h.row,h.rowne,by rw [hO,hL]; exact h.rowob,h.F,h.os,h.tape,h.output,h.sizes,h.frame,h.shp,h.dep0⟩;rw [hO,hR]
 by_cases he:i=s
 ·subst he;have hc:c=cells':=by simpa [cO] using hi.symm
  subst hc;obtain ⟨arr,e,h1,h2,h3,h4⟩:=h.ob i cells hs;refine ⟨arr,e,h1,by omega,λj x' hj=>?_,h4⟩;obtain ⟨x,hxj,hxx⟩:=hx j x' hj;obtain ⟨h5,v,h6,h7⟩:=h3 j x hxj;exact ⟨(hxx v h5 h7).1,v,h6,(hxx v h5 h7).2⟩
 ·exact h.ob i c (by simpa [dV,he] using hi)
theorem Le.mem(htm:st1.tm=st.tm)(h:∀ (E:En) (g:Gh) (w:World),eE E g st w->∃ g1,eE E g1 st1 w/\pd w w g g1 st.O st.R st1.O st1.R):Le n ls st st1:=λE g a w hE hS=>by
 obtain ⟨g1,h3,h4⟩:=h E g w hS.mem;refine ⟨g1,h3,hS.size,hS.defers,λi hi=>?_,λi hi=>?_,λs b hs=>?_,λv' hv'=>⟨(h4.R _ (hS.pin v' hv').1).1,(h4.R _ (hS.pin v' hv').1).2.trans (hS.pin v' hv').2⟩⟩
 ·obtain ⟨u,h6,h7⟩:=hS.tm i hi;exact ⟨u,h6,by rw [htm]; exact h7.mono h4⟩
 ·rw [htm];exact hS.und i hi
 ·obtain ⟨h6,h7⟩:=hS.lent s b hs;exact ⟨(h4.O s h6).1,(h4.O s h6).2.trans h7⟩
theorem OE{s:Nat}{cells cells':List A}(hs:st.ob s=some cells):({ st with ob:=dV st.ob s (some cells') }:St).O=st.O:=by
 funext i
 unfold St.O;simp only [dV]
 split
 ·rename_i he;rw [he,hs];rfl
 ·rfl
theorem BV(s j r e sz:Nat)(cells:List A)(hs:st.ob s=some cells)(hj:cells[j]?=some .nil)(hr:st.rw r=none) :
  Le n ls st { tm:=st.tm,ob:=dV st.ob s (some (cells.set j (.own r))),rw:=dV st.rw r (some (.live e sz [])) } :=
 Le.mem rfl λE g w hM=>by
  obtain ⟨h1,h2⟩:=hM.nilrow hr e sz;have h3:({ g with rw:=dV g.rw r (.slice none 0 0) }:Gh).rw r=Value.slice none 0 0:=cO _ _ _;have h4:=VR.own (w:=w) (g:={ g with rw:=dV g.rw r (.slice none 0 0) }) (O:=({ st with rw:=dV st.rw r (some (.live e sz [])) }:St).O) (R:=({ st with rw:=dV st.rw r (some (.live e sz [])) }:St).R) r (by simp [St.R,cO]);rw [h3] at h4;have hs':({ st with rw:=dV st.rw r (some (.live e sz [])) }:St).ob s=some cells:=hs;have hO:=OE (cells':=cells.set j (.own r)) hs';refine ⟨_,h1.reob hs' (cells':=cells.set j (.own r)) (by simp) (λi x' hi=>?_),⟨h2.same,h2.F,λs hs=>?_,h2.R,h2.d,h2.s⟩⟩
  ·by_cases he:j=i
   ·subst he;refine ⟨.nil,hj,λv _ hv=>?_⟩;have hlt:j < cells.length:=(List.getElem?_eq_some_iff.1 hj).1;rw [List.getElem?_set_self hlt] at hi
    cases hi
    cases hv
    exact ⟨rfl,h4⟩
   ·rw [List.getElem?_set_ne he] at hi;exact ⟨x',hi,λv h1 h2=>⟨h1,h2⟩⟩
  ·have:=h2.O s hs;exact ⟨by rw [<- hO] at this; exact this.1,this.2⟩
end
end Go.Tm
namespace Go.Tm
section
variable {P:Program} {n:Nat} {ls:List Nat} {st st1:St}
theorem ca(s j r e sz:Nat)(cells:List A)(rows:List (List T))(hs:st.ob s=some cells)(hj:cells[j]?=some (.own r))(hr:st.rw r=some (.live e sz rows)) :
  Le n ls st { tm:=st.tm,ob:=dV st.ob s (some (cells.set j (.t (.sl sz rows)))),rw:=dV st.rw r (some (.frz sz rows)) } :=
 Le.mem rfl λE g w hM=>by
  obtain ⟨h1,h2⟩:=hM.frz_row r e sz rows hr;have h3:Rd w _ (.sl sz rows) (g.rw r):=h1.row r (.frz sz rows) (by simp [cO]);have hs':({ st with rw:=dV st.rw r (some (.frz sz rows)) }:St).ob s=some cells:=hs;have hO:=OE (cells':=cells.set j (.t (.sl sz rows))) hs';refine ⟨_,h1.reob hs' (cells':=cells.set j (.t (.sl sz rows))) (by simp) (λi x' hi=>?_),⟨h2.same,h2.F,λs hs=>?_,h2.R,h2.d,h2.s⟩⟩
  ·by_cases he:j=i
   ·subst he;refine ⟨.own r,hj,λv _ hv=>?_⟩;have hlt:j < cells.length:=(List.getElem?_eq_some_iff.1 hj).1;rw [List.getElem?_set_self hlt] at hi
    cases hi
    cases hv
    exact ⟨rfl,.t _ _ h3⟩
   ·rw [List.getElem?_set_ne he] at hi;exact ⟨x',hi,λv h1 h2=>⟨h1,h2⟩⟩
  ·have:=h2.O s hs;exact ⟨by rw [<- hO] at this; exact this.1,this.2⟩
end
end Go.Tm
namespace Go.Tm
open Go.RowKit
def c6{α:Type}(xs:List α)(i:Int):Option α:=if 0<=i then xs[i.toNat]? else none
theorem bL{α:Type}{xs:List α}{i:Int}{x:α}(h:c6 xs i=some x):0<=i/\xs[i.toNat]?=some x:=by
 unfold c6 at h
 split at h
 ·exact ⟨by assumption,h⟩
 ·cases h
def c9(b:Bool):Option Unit:=if b then some () else none
theorem bt{b:Bool}{u:Unit}(h:c9 b=some u):b=true:=by
 unfold c9 at h
 split at h
 ·assumption
 ·cases h
theorem bind_some{α β:Type}{x:Option α}{f:α->Option β}{r:β}(h:x.bind f=some r):∃ a,x=some a/\f a=some r:=by
 cases x with
 | none=>cases h
 | some a=>exact ⟨a,rfl,h⟩
def HS{β:Type}(x:Option (β×St)):St:=match x with | some q=>q.2 | none=>cI
def Vn(x:Option (A×St)):A:=match x with | some q=>q.1 | none=>.undef
section
variable {P:Program} {n:Nat} {ls:List Nat} {Q:Exit->St->Prop} {st st':St} {p:Nat->Bool} {ρ:Nat->dG} {ops:Array Oper} {l:List Oper} {K:St->Prop} {o:Oper}
theorem aF{id:Nat}(p:Nat->Bool)(ρ:Nat->dG)(hm:P.follows .mixedOrders=true)(hok:Mv p ρ n ops=true)(h:ae P p ρ ops ops.toList st (Q .normal)):Wp P n ls (.region id ops true) Q st :=
 Wp.region (λ_=>hm) hok h
theorem rv{id:Nat}(p:Nat->Bool)(ρ:Nat->dG)(hok:ops.toList.all (jB n)=true)(h:ae P p ρ ops ops.toList st (Q .normal)):Wp P n ls (.region id ops false) Q st :=
 Wp.region (λh=>by cases h) hok h
theorem ae.known(d:Nat){e v:Bool}(h:st.tm d=.t (.bool e))(hv:e=v)(hr:ae P p ρ ops l (st.put (some d) (.t (.bool v))) K):ae P p ρ ops l st K:=by
 have:st.put (some d) (.t (.bool v))=st:=by
  refine St.ext (funext λi=>?_) rfl rfl;show dV st.tm d (.t (.bool v)) i=st.tm i;unfold dV
  split
  ·rename_i he;rw [he,h,hv]
  ·rfl
 rwa [this] at hr
theorem ae.pure{x:A}(hg:iB ops st o=some true)(hf:ek ρ st o=true)(h:(pI P ρ st.eval o).run st=some (x,st))(hr:ae P p ρ ops l (st.put o.dst x) K):ae P p ρ ops (o :: l) st K:=ae.op hg hf h hr
theorem Sm{α:Type}(f:α->List T)(xs:List α)(i:Int){y:α}{t e:TypeId}{a b:Operand}{sz:Nat}{kk:IntKind}(ho:o.op=.indexAddr t a b)(hg:iB ops st o=some true)(hf:ek ρ st o=true)
  (ha:st.eval a=some (.t (.sl sz (xs.map f)))) (hb:st.eval b=some (.t (.int kk i))) (hu:P.underlying t=some (.slice e)) (hs:iA P e=some sz) (h:c6 xs i=some y) (hk:ae P p ρ ops l (st.put o.dst (.fadr (f y))) K):ae P p ρ ops (o :: l) st K:=by
 obtain ⟨h0,h1⟩:=bL h;refine ae.pure (x:=.fadr (f y)) hg hf ?_ hk;simp only [pI,ho,ha,hb];exact Wa hu hs h0 h1
theorem Sn{α:Type}(f:α->List T)(xs:List α)(i:Int)(r:Nat){y:α}{t e e':TypeId}{a b:Operand}{sz:Nat}{kk:IntKind}(ho:o.op=.indexAddr t a b)(hg:iB ops st o=some true)(hf:ek ρ st o=true)
  (ha:st.eval a=some (.own r)) (hr:st.rw r=some (.live e' sz (xs.map f))) (hb:st.eval b=some (.t (.int kk i))) (hu:P.underlying t=some (.slice e)) (hs:iA P e=some sz) (h:c6 xs i=some y) (hk:ae P p ρ ops l (st.put o.dst (.elem r sz i.toNat 0)) K):ae P p ρ ops (o :: l) st K:=by
 obtain ⟨h0,h1⟩:=bL h;refine ae.pure (x:=.elem r sz i.toNat 0) hg hf ?_ hk;simp only [pI,ho,ha,hb];exact UI hu hs hr h0 h1
theorem Qj{α:Type}(f:α->List T)(xs:List α)(r i off:Nat){y:α}{t:TypeId}{a:Operand}{sz m:Nat}{e':TypeId}{gg:Bool}(x:A)(ho:o.op=.load t a)(hg:iB ops st o=some true)(hf:ek ρ st o=true)
  (ha:st.eval a=some (.elem r sz i off)) (hr:st.rw r=some (.live e' sz (xs.map f))) (hgg:N8 P t=some gg) (hm:iA P t=some m) (h:xs[i]?=some y) (hc:C4 gg m ((f y).map A.t) off=some x) (hk:ae P p ρ ops l (st.put o.dst x) K):ae P p ρ ops (o :: l) st K:=by
 refine ae.pure (x:=x) hg hf ?_ hk;simp only [pI,ho,ha,FW,hgg,hm,MA.run,hr,↓reduceIte,zQX,h,zWQ,hc]
def BW(P:Program)(t:TypeId):Option (TypeId×Nat×Nat):=match P.underlying t with
 | some (.slice e)=>match Ae P e,sR P e with
  | some (some _,n,by_),some z=>if z.length=n/\0 < n/\0 < by_ then some (e,n,by_) else none
  | _,_=>none
 | _=>none
theorem EC{t e:TypeId}{n by_:Nat}(h:BW P t=some (e,n,by_)):∃ z z0,P.underlying t=some (.slice e)/\Ae P e=some (some z0,n,by_)/\sR P e=some z/\z.length=n/\0 < n/\0 < by_:=by
 unfold BW at h
 split at h
 ·rename_i e' hu
  split at h
  ·rename_i z0 n' by' z hi hz
   split at h
   ·rename_i hc
    cases h
    exact ⟨z,z0,hu,hi,hz,hc.1,hc.2.1,hc.2.2⟩
   ·cases h
  ·cases h
 ·cases h
theorem Tu{k:IntKind}{m:Nat}{xs:List Int}{f:Int->List T}(hf:∀ n,(f n).all T.sc=true):(((A.ext false (.sl m (xs.map f))).rows λm rows=>MA.ret (m,rows)).run st).map Prod.fst=some (m,xs.map f):=by
 have:Jl (xs.map f)=true:=by
  unfold Jl;rw [List.all_eq_true];intro r hr;obtain ⟨n,_,rfl⟩:=List.mem_map.1 hr;exact hf n
 simp [A.rows,this,MA.run]
theorem Nd{β:Type}{y:A}{m:Nat}{ys:List (List T)}(hy:((y.rows λm rows=>MA.ret (m,rows)).run st).map Prod.fst=some (m,ys)):∀ k:Nat->List (List T)->MA β,(y.rows k).run st=(k m ys).run st:=by
 intro k;unfold A.rows at hy ⊢
 split at hy <;> simp only [MA.run] at hy ⊢ <;> try (simp at hy; done)
 ·simp at hy; obtain ⟨rfl,rfl⟩:=hy; rfl
 ·split at hy
  ·rename_i h; rw [if_pos h]; simp [MA.run] at hy; obtain ⟨rfl,rfl⟩:=hy; rfl
  ·simp [MA.run] at hy
 ·simp at hy; obtain ⟨rfl,rfl⟩:=hy; rfl
 ·rename_i r
  revert hy
  rcases st.rw r with _ | (_ | _ | _) <;> simp only [MA.run,zWQ,Option.some.injEq,Prod.mk.injEq,Option.map_none,reduceCtorEq,false_implies]
  ·rintro ⟨rfl,rfl⟩; rfl
  ·rintro ⟨rfl,rfl⟩; rfl
theorem So(d m e nn by_ r:Nat)(xs ys:List (List T)){t:TypeId}{ts:Array TypeId}{args:Array Operand}{a b:Operand}{y:A}(ho:o.op=.call { callee:=.builtin .append,args,argTypes:=ts })(hargs:args.toList=[a,b])(hts:ts.toList=[t,t])(hd:o.dst=some d)(hg:iB ops st o=some true)(hf:ek ρ st o=true)
  (ha:st.eval a=some (.own r)) (hr:st.rw r=some (.live e nn xs)) (hb:st.eval b=some y) (hy:((y.rows λm rows=>MA.ret (m,rows)).run st).map Prod.fst=some (m,ys)) (hm:m=nn\/ys=[]) (hi:BW P t=some (e,nn,by_)) (hsz:(xs.length+ys.length)*by_<=140737488355328) (hne:zXY (eD d 0) r=false) (hfree:st.rw (eD d 0)=none)
  (hk:ae P p ρ ops l (({ st with rw:=dV (dV st.rw r (some .gone)) (eD d 0) (some (.live e nn (xs++ys))) }:St).put o.dst (.own (eD d 0))) K):ae P p ρ ops (o :: l) st K:=by
 obtain ⟨z,z0,hu,hti,hz,h1,h2,h3⟩:=EC hi;have hne':eD d 0≠r:=λh=>by rw [h,zZq] at hne; cases hne
 refine ae.op (x:=.own (eD d 0)) hg hf ?_ hk;have hrow:=Nd (β:=A) hy;have hfr:dV st.rw r (some Rn.gone) (eD d 0)=none:=by rw [bZ _ _ _ _ hne',hfree]
 simp only [pI,ho,hargs,ha,hb,uH,hts,hd,↓reduceIte,hu,hti,hz,h1,h2,h3,and_self,hrow,hm,MA.run,hr,hsz,vz,hfr]
end
end Go.Tm
namespace Go.Tm
open Go.RowKit
section
variable {P:Program} {n:Nat} {ls:List Nat} {Q:Exit->St->Prop} {st st':St} {p:Nat->Bool} {ρ:Nat->dG} {ops:Array Oper} {l:List Oper} {K:St->Prop} {o:Oper}
theorem dR{α:Type}(f:α->List T)(d m e nn by_ r:Nat)(xs ys:List α){t:TypeId}{ts:Array TypeId}{args:Array Operand}{a b:Operand}{y:A}(ho:o.op=.call { callee:=.builtin .append,args,argTypes:=ts })(hargs:args.toList=[a,b])(hts:ts.toList=[t,t])(hd:o.dst=some d)(hg:iB ops st o=some true)(hf:ek ρ st o=true)
  (ha:st.eval a=some (.own r)) (hr:st.rw r=some (.live e nn (xs.map f))) (hb:st.eval b=some y) (hy:((y.rows λm rows=>MA.ret (m,rows)).run st).map Prod.fst=some (m,ys.map f)) (hm:m=nn\/ys.map f=[]) (hi:BW P t=some (e,nn,by_)) (hsz:(xs.length+ys.length)*by_<=140737488355328) (hne:zXY (eD d 0) r=false) (hfree:st.rw (eD d 0)=none)
  (hk:ae P p ρ ops l (({ st with rw:=dV (dV st.rw r (some .gone)) (eD d 0) (some (.live e nn ((xs++ys).map f))) }:St).put o.dst (.own (eD d 0))) K):ae P p ρ ops (o :: l) st K :=
 So d m e nn by_ r (xs.map f) (ys.map f) ho hargs hts hd hg hf ha hr hb hy hm hi (by simpa using hsz) hne hfree (by rw [<- List.map_append]; exact hk)
theorem ig(op:BinOp)(a b:T)(z:T){t u:TypeId}{x y:Operand}(ho:o.op=.binOp op t x y u)(hg:iB ops st o=some true)(hf:ek ρ st o=true)(hx:st.eval x=some (.t a))(hy:st.eval y=some (.t b))
  (h:AF (Ww P t) op a b=some z) (hk:ae P p ρ ops l (st.put o.dst (.t z)) K):ae P p ρ ops (o :: l) st K:=by
 refine ae.pure (x:=.t z) hg hf ?_ hk;simp only [pI,ho,hx,hy,h,MA.run]
theorem Rx(tb:Bool)(k:IntKind)(a b:Int)(h:(b == 0)=false):AF tb .quo (.int k a) (.int k b)=some (.int k (k.wrap (a.tdiv b))):=by
 have:b≠0:=by simpa using h
 simp [AF,this]
theorem BX(tb:Bool)(k:IntKind)(a b:Int)(h:(b == 0)=false):AF tb .rem (.int k a) (.int k b)=some (.int k (a.tmod b)):=by
 have:b≠0:=by simpa using h
 simp [AF,this]
theorem xq(tb:Bool)(k k':IntKind)(a b:Int)(h:decide (0<=b)=true):AF tb .shl (.int k a) (.int k' b)=some (.int k (k.wrap (a*2 ^ min b.toNat k.bits))):=by
 have:0<=b:=by simpa using h
 simp [AF,this]
theorem Ry(tb:Bool)(k k':IntKind)(a b:Int)(h:decide (0<=b)=true):AF tb .shr (.int k a) (.int k' b)=some (.int k (a.fdiv (2 ^ min b.toNat k.bits))):=by
 have:0<=b:=by simpa using h
 simp [AF,this]
def cy(l h n:Int):Bool:=decide (0<=l) && decide (l<=h) && decide (h<=n)
theorem ED{l h n:Int}(hh:cy l h n=true):0<=l/\l<=h/\h<=n:=by
 simp only [cy,sY,decide_eq_true_eq] at hh;exact ⟨hh.1.1,hh.1.2,hh.2⟩
theorem ep{α:Type}(f:α->List T)(xs:List α)(sz:Nat)(i j:Int){t e:TypeId}{x:Operand}{ax:A}{lo hi:Option Operand}{alo ahi:Option A}(ho:o.op=.slice t x lo hi none)(hg:iB ops st o=some true)(hf:ek ρ st o=true)(hx:st.eval x=some ax)(hr:((ax.toT MA.ret).run st).map Prod.fst=some (.sl sz (xs.map f)))
  (hlo:Jn st.eval lo=some alo) (hhi:Jn st.eval hi=some ahi) (hl:wY 0 alo=some i) (hh:wY xs.length ahi=some j) (hu:P.underlying t=some (.slice e)) (hs:iA P e=some sz) (hw:Uo ρ o.dst alo ahi=false) (h:cy i j xs.length=true)
  (hk:ae P p ρ ops l ((HS ((ax.toT MA.ret).run st)).put o.dst (.t (.sl sz (((xs.take j.toNat).drop i.toNat).map f)))) K):ae P p ρ ops (o :: l) st K:=by
 have h':=ED h;obtain ⟨⟨y,st1⟩,h1,h2⟩:=Option.map_eq_some_iff.1 hr
 cases h2
 rw [h1] at hk;refine ae.op (x:=.t (.sl sz (((xs.take j.toNat).drop i.toNat).map f))) (st1:=st1) hg hf ?_ hk;have key:∀ k:T->MA A,(ax.toT k).run st=(k (.sl sz (xs.map f))).run st1:=by
  intro k
  cases ax <;> simp only [A.toT,MA.run,Option.some.injEq,Prod.mk.injEq,reduceCtorEq] at h1 ⊢
  ·obtain ⟨h1,rfl⟩:=h1; rw [h1]
  ·obtain ⟨h1,rfl⟩:=h1; rw [h1]
  ·rename_i r
   revert h1
   rcases st.rw r with _ | (_ | _ | _) <;> simp only [MA.run,Option.some.injEq,Prod.mk.injEq,reduceCtorEq,false_implies]
   ·rintro ⟨h1,rfl⟩; rw [h1]
   ·rintro ⟨h1,rfl⟩; rw [h1]
 have hne:xj P t ax alo ahi=ax.toT fun
   | .sl sz' rows=>match wY 0 alo,wY rows.length ahi with
    | some l,some h=>if sz'=sz\/rows=[] then if 0<=l/\l<=h/\h<=rows.length then .ret (.t (.sl sz' ((rows.take h.toNat).drop l.toNat))) else .fail else .fail
    | _,_=>.fail
   | _=>.fail:=by
  unfold xj;rw [hu];have h9:∀ q:Option Nat,q=some sz->(match q with
   | some n=>(ax.toT λy=>match y with
    | .sl sz rows=>match wY 0 alo,wY rows.length ahi with
     | some l,some h=>if sz=n\/rows=[] then if 0<=l/\l<=h/\h<=rows.length then (MA.ret (.t (.sl sz ((rows.take h.toNat).drop l.toNat))):MA A) else .fail else .fail
     | _,_=>.fail
    | _=>.fail)
   | none=>.fail)=ax.toT fun
   | .sl sz' rows=>match wY 0 alo,wY rows.length ahi with
    | some l,some h=>if sz'=sz\/rows=[] then if 0<=l/\l<=h/\h<=rows.length then .ret (.t (.sl sz' ((rows.take h.toNat).drop l.toNat))) else .fail else .fail
    | _,_=>.fail
   | _=>.fail:=λq hq=>by subst hq; rfl
  cases ax <;> first | exact h9 _ hs | (exfalso; simp [A.toT,MA.run] at h1; done)
 simp only [pI,ho,hx,hlo,hhi,hw,zQz,hne,key,hl,zXx,hh,h'.1,h'.2.1,h'.2.2,and_self,↓reduceIte,MA.run,true_or,<- List.map_take,<- List.map_drop]
theorem rE{α:Type}(s:Bool)(f:α->List T)(xs:List α)(sz:Nat)(i j:Int){t e:TypeId}{x:Operand}{lo hi:Option Operand}{alo ahi:Option A}(ho:o.op=.slice t x lo hi none)(hg:iB ops st o=some true)(hf:ek ρ st o=true)(hx:st.eval x=some (.ext s (.sl sz (xs.map f))))
  (hlo:Jn st.eval lo=some alo) (hhi:Jn st.eval hi=some ahi) (hl:wY 0 alo=some i) (hh:wY xs.length ahi=some j) (hu:P.underlying t=some (.slice e)) (hs:iA P e=some sz) (hw:Uo ρ o.dst alo ahi=false) (h:cy i j xs.length=true)
  (hk:ae P p ρ ops l (st.put o.dst (.ext s (.sl sz (((xs.take j.toNat).drop i.toNat).map f)))) K):ae P p ρ ops (o :: l) st K:=by
 have h':=ED h;refine ae.pure (x:=.ext s (.sl sz (((xs.take j.toNat).drop i.toNat).map f))) hg hf ?_ hk;simp only [pI,ho,hx,hlo,hhi,hw,zQz,xj,hu,hs,hl,zXx,hh,h'.1,h'.2.1,h'.2.2,and_self,true_and,↓reduceIte,MA.run,<- List.map_take,<- List.map_drop]
theorem JL{α:Type}:∀ (ts:List T) (k:List T->MA α),A.toTs (ts.map A.t) k=k ts
 | [],k=>rfl
 | t :: ts,k=>by
  simp only [zWq,A.toTs,A.toT];exact JL ts _
theorem OF{α:Type}(f:α->List T)(y:α)(d e nn by_:Nat)(i c:Int){t:TypeId}{x1 x2:Operand}(ho:o.op=.makeSlice t x1 x2)(hd:o.dst=some d)(hg:iB ops st o=some true)(hf:ek ρ st o=true)(h1:st.eval x1=some (.t (.int .i64 i)))(h2:st.eval x2=some (.t (.int .i64 c)))
  (hi:BW P t=some (e,nn,by_)) (hz:(sR P e).map (kF (Ef P e))=some ((f y).map A.t))
  (h0:(decide (0<=c) && (i == 0 || i == c))=true) (hsz:c.toNat*by_<=140737488355328) (hfree:st.rw (eD d 0)=none)
  (hk:ae P p ρ ops l (({ st with rw:=dV st.rw (eD d 0) (some (.live e nn ((zQg i.toNat y).map f))) }:St).put o.dst (.own (eD d 0))) K):ae P p ρ ops (o :: l) st K:=by
 obtain ⟨z,z0,hu,hti,hzz,q1,q2,q3⟩:=EC hi;simp only [sY,decide_eq_true_eq,zYk,beq_iff_eq] at h0;refine ae.op (x:=.own (eD d 0)) hg hf ?_ hk;have hc:c<=9223372036854775807:=by
  have:c.toNat<=c.toNat*by_:=Nat.le_mul_of_pos_right _ q3;omega
 rw [hzz] at hz;have hz':kF (Ef P e) z=(f y).map A.t:=by simpa using hz
 simp only [pI,ho,h1,h2,Jp,hu,hd,hti,hzz,q1,q2,h0.1,h0.2,hsz,hc,and_self,↓reduceIte,hz',JL,List.map_replicate,vz,MA.run,hfree]
theorem gp{α:Type}(f:α->List T)(xs:List α)(r i off:Nat){y:α}(y':α){t e:TypeId}{x1 x2:Operand}(v:A){sz m:Nat}(ts:List T)(ho:o.op=.store t x1 x2)(hg:iB ops st o=some true)(hf:ek ρ st o=true)
  (h1:st.eval x1=some (.elem r sz i off)) (h2:st.eval x2=some v) (hm:iA P t=some m) (hv:(zXY v.cells.length m && v.cells.all A.one)=true) (hz:kF (Ef P t) v.cells=ts.map A.t)
  (hr:st.rw r=some (.live e sz (xs.map f))) (h:xs[i]?=some y) (hle:Nat.ble (off+m) (f y).length=true) (hy:spl (f y) off ts=f y')
  (hk:ae P p ρ ops l ((({ st with rw:=dV st.rw r (some (.live e sz ((xs.set i y').map f))) }:St)).put o.dst .undef) K):ae P p ρ ops (o :: l) st K:=by
 simp only [sY] at hv;have hv1:=zWw hv.1;have hle':off+m<=(f y).length:=by simpa using hle
 refine ae.op (x:=.undef) hg hf ?_ hk;simp only [pI,ho,h1,h2,zq,hm,hv1,hv.2,and_self,↓reduceIte,hz,JL,MA.run,hr,zQX,h,zWQ,hle',hy,List.map_set]
end
end Go.Tm
namespace Go.Tm
open Go.RowKit
theorem Qk{β:Type}{e:Bool}{x y:β}{r:β}(h:(bif e then x else y)=r)(hc:e=true):x=r:=by rw [hc] at h; exact h
theorem Ql{β:Type}{e:Bool}{x y:β}{r:β}(h:(bif e then x else y)=r)(hc:e=false):y=r:=by rw [hc] at h; exact h
def aQ(k:IntKind)(a b:Int):Int:=k.wrap (a+b)
def dM(k:IntKind)(a b:Int):Int:=k.wrap (a - b)
def jC(k:IntKind)(a b:Int):Int:=k.wrap (a*b)
def Qn(k:IntKind)(a b:Int):Int:=k.wrap (a.tdiv b)
def mA(k:IntKind)(a b:Int):Int:=a.tmod b
def gE(k:IntKind)(a b:Int):Int:=k.wrap (BitVec.ofInt k.bits a &&& BitVec.ofInt k.bits b).toNat
def vL(k:IntKind)(a b:Int):Int:=k.wrap (BitVec.ofInt k.bits a ||| BitVec.ofInt k.bits b).toNat
def Nf(k:IntKind)(a b:Int):Int:=k.wrap (BitVec.ofInt k.bits a ^^^ BitVec.ofInt k.bits b).toNat
def BY(k:IntKind)(a b:Int):Int:=k.wrap (BitVec.ofInt k.bits a &&& ~~~ BitVec.ofInt k.bits b).toNat
def iT(k:IntKind)(a b:Int):Int:=k.wrap (a*2 ^ min b.toNat k.bits)
def rJ(k:IntKind)(a b:Int):Int:=a.fdiv (2 ^ min b.toNat k.bits)
theorem tf(b:Bool):b=true\/b=false:=by cases b <;> simp
def ah(k:IntKind)(n:Int):List T:=[.int k n]
def WQ{α:Type}(sz:Nat)(f:α->List T)(xs:List α):List T:=[.sl sz (xs.map f)]
theorem aH.le{P:Program}{f:FuncId}{l l':List V}{res:V}{cj:List (List C)}(h:aH P f l' res cj)(hl:A3 l l'):aH P f l res cj:=by
 refine ⟨h.1,λw F vs bs hF hV hn hb htb=>(h.2 w F vs bs hF (F5 hl hV) hn hb htb).mono λe w' hh=>?_⟩;obtain ⟨v,F',bv,bo,h1,h2,h3,h4,h5,h6,h7,h8,h9⟩:=hh;exact ⟨v,F',bv,bo,h1,h2,h3,h4,h5,h6,Rw h7 hl,h8,h9⟩
end Go.Tm
namespace Go.Tm
open Go.RowKit
section
variable {P:Program} {n:Nat} {ls:List Nat} {Q:Exit->St->Prop} {N:St->Prop} {st st':St} {p:Nat->Bool} {ρ:Nat->dG} {ops:Array Oper} {l:List Oper} {K:St->Prop} {o:Oper}
theorem aN(h:N st):ie N Q .normal st:=h
theorem bh{id:Nat}(h:Q (.exit id) st):ie N Q (.exit id) st:=h
theorem bR{id:Nat}(h:Q .normal st):UG id Q .normal st:=h
theorem dO{id:Nat}(h:Q .normal st):UG id Q (.exit id) st:=by
 show bif zXY id id then Q .normal st else Q (.exit id) st
 rw [zZq];exact h
theorem HT{fn:Func}{c:Code}{f:FuncId}{args:List V}{m:Bool}{res:V}{cj:List (List C)}(as:List A)
  (hf:P.funcs[f]?=some fn) (hb:fn.body=some c) (hnm:(fn.name == "runtime.NumGoroutine")=false) (hle:Nat.ble as.length fn.ntmps=true) (ht:s4 fn.ntmps fn=true)
  (ha:((lE 0 args MA.ret).run cI).map Prod.fst=some as) (hl:gn 0 args as=true)
  (h:Wp P fn.ntmps (dQ 0 args) c (yI P m fn args res cj) (fc as (HS ((lE 0 args MA.ret).run cI)))):aH P f args res cj:=by
 obtain ⟨⟨as',st0⟩,h1,h2⟩:=Option.map_eq_some_iff.1 ha
 cases h2
 rw [h1] at h;exact JK hf hb hnm (by simpa using hle) ht h1 hl h
theorem Sp{α:Type}(f:α->List T)(xs:List α)(m:Nat){y:A}{x:Operand}{t e:TypeId}{args:Array Operand}{ts:Array TypeId}(ho:o.op=.call { callee:=.builtin .len,args,argTypes:=ts })(hargs:args.toList=[x])(hts:ts.toList=[t])(hg:iB ops st o=some true)(hf:ek ρ st o=true)
  (hx:st.eval x=some y) (hy:((y.rows λm rows=>MA.ret (m,rows)).run st).map Prod.fst=some (m,xs.map f)) (hu:P.underlying t=some (.slice e)) (hk:ae P p ρ ops l (st.put o.dst (.t (.int .i64 xs.length))) K):ae P p ρ ops (o :: l) st K:=by
 refine ae.pure (x:=.t (.int .i64 xs.length)) hg hf ?_ hk;have hl:(G8 P t y).run st=(MA.ret (.t (.int .i64 xs.length)):MA A).run st:=by
  unfold G8;rw [hu]
  split <;> rename_i h1 <;> first | (cases h1; done) | skip
  ·rename_i s z rs
   cases s with
   | true=>cases hy
   | false =>
    simp only [A.rows] at hy
    split at hy
    ·simp [MA.run] at hy; rw [hy.2]; simp
    ·simp [MA.run] at hy
  ·rw [Nd hy]; simp
  ·rename_i h2 _; exact absurd rfl (h2 _)
 simp only [pI,ho,hargs,hx,hts];rw [hl]; rfl
theorem cZ{α:Type}(f:α->List T)(xs:List α)(s:Bool)(m:Nat){x:Operand}{t e:TypeId}{args:Array Operand}{ts:Array TypeId}(ho:o.op=.call { callee:=.builtin .len,args:=args,argTypes:=ts })(hargs:args.toList=[x])(hts:ts.toList=[t])(hg:iB ops st o=some true)(hf:ek ρ st o=true)
  (hx:st.eval x=some (.ext s (.sl m (xs.map f)))) (hu:P.underlying t=some (.slice e)) (hk:ae P p ρ ops l (st.put o.dst (.t (.int .i64 xs.length))) K):ae P p ρ ops (o :: l) st K:=by
 refine ae.pure (x:=.t (.int .i64 xs.length)) hg hf ?_ hk;simp only [pI,ho,hargs,hx,hts,G8,hu,MA.run,zXx]
def bl(l:List (Nat×dG))(t:Nat):dG:=match AY l t with | some r=>r | none=>.any
def fv(l:List Nat)(s:Nat):Bool:=l.contains s
end
end Go.Tm
namespace Go.Tm
open Go.RowKit Go.ChangeShapes
inductive Vo (w:World) (F:Nat->Prop):List T->List Value->Prop
 | nil:Vo w F [] []
 | cons (x:T) (v:Value) (xs:List T) (vs:List Value) (h:Rd w F x v) (hs:Vo w F xs vs):Vo w F (x :: xs) (v :: vs)
theorem Vo.get{w:World}{F:Nat->Prop}{xs:List T}{vs:List Value}(h:Vo w F xs vs):∀ (j:Nat) (x:T),xs[j]?=some x->∃ v,vs[j]?=some v/\Rd w F x v:=by
 induction h with
 | nil=>intro j x hx; simp at hx
 | cons x v xs vs h hs ih =>
  intro j y hy
  cases j with
  | zero=>simp only [zWV,Option.some.injEq] at hy ⊢; subst hy; exact ⟨v,rfl,h⟩
  | succ j=>simp only [List.getElem?_cons_succ] at hy ⊢; exact ih j y hy
abbrev UK(w:World):Nat->Prop:=λb=>b < w.heap.size
def OG{α:Type}(P:Program)(t:TypeId)(n:Nat)(wf:α->Prop)(enc:α->List T):Prop :=
 P.cellsOf t=n/\(∀ x,(enc x).length=n)/\∀ {H:Type} (ec:TypeId×Value->H) (w:World) (sp:Nat->Bool) (held:Bool) (k:Nat) (cs:List Value) (d:DataW H×List MemPlace),
  DataW.trod ec P w 0 sp held k t cs=some d->∃ x,wf x/\Vo w (UK w) (enc x) cs
def iU(k:IntKind)(n:Int):Prop:=k.min<=n/\n<=k.max
def JM{α:Type}(wf:α->Prop)(xs:List α):Prop:=xs.length<=maxLen/\∀ x∈xs,wf x
theorem OG.int{P:Program}{t:TypeId}{k:IntKind}(hu:P.underlying t=some (.int k))(hc:P.cellsOf t=1):OG P t 1 (iU k) (ah k):=by
 refine ⟨hc,λ_=>rfl,λec w sp held m cs d h=>?_⟩;obtain ⟨n,rfl,_,hw⟩:=DataW.trod_int hu h;simp [Lit.wf] at hw;exact ⟨n,hw,.cons _ _ _ _ (.int _ _) .nil⟩
theorem JN{α:Type}{g:Nat->Option α}{n:Nat}{r:List α}(h:(zWy n).mapM g=some r){i:Nat}(hi:i < n):∃ x,g i=some x/\r[i]?=some x:=by
 have h1:=mapM_some_get h i i (by simp [hi]);have h2:=mapM_some_length h;simp only [List.length_range] at h2;rw [h1];exact ⟨r[i]'(by omega),by simp,by simp⟩
theorem Mx{w:World}{a:Addr}{n:Nat}{cs:List Value}(h:w.cells? 0 a n=some cs):cs.length=n/\∀ j,j < n->∃ v,w.cell? (a.add j)=some v/\cs[j]?=some v:=by
 unfold World.cells? at h;simp only [zZH,if_true] at h;exact ⟨by have:=mapM_some_length h; simpa using this,λj hj=>JN h hj⟩
theorem Sq{w:World}{a:Addr}{v:Value}(h:w.cell? a=some v):a.spot=none/\a.block < w.heap.size:=by
 unfold World.cell? at h
 split at h
 ·rename_i c u fr e
  split at h
  ·cases h
  ·rename_i hs;refine ⟨by cases a with | mk b o s=>cases s <;> simp_all,?_⟩;have:=e; rw [Array.getElem?_eq_some_iff] at this; exact this.1
 ·cases h
theorem OG.slice{α:Type}{P:Program}{t e:TypeId}{n:Nat}{wf:α->Prop}{enc:α->List T}(hu:P.underlying t=some (.slice e))(hc:P.cellsOf t=1)(he:OG P e (n+1) wf enc):OG P t 1 (JM wf) (WQ (n+1) enc):=by
 refine ⟨hc,λ_=>rfl,λ{H} ec w sp held m cs d h=>?_⟩;rcases DataW.trod_slice hu h with ⟨rfl,_⟩ | ⟨a,len,cap,elems,rest,m',rfl,rfl,_,_,hlc,hcap,hel,hm,_,_⟩
 ·exact ⟨[],⟨by simp,by simp⟩,.cons _ _ _ _ (.sl0 _ _ _ (by first | assumption | exact λ_=>rfl | (intro h; cases h))) .nil⟩
 ·have hex:∀ i,i < len->∃ x:α,∃ cs:List Value,w.cells? 0 (a.add (i*(n+1))) (n+1)=some cs/\wf x/\Vo w (UK w) (enc x) cs:=by
   intro i hi;have hy:=hm i hi;rw [he.1,tw (by omega)] at hy
   cases hcs:w.cells? 0 (a.add (i*(n+1))) (n+1) with
   | none=>rw [hcs] at hy; cases hy
   | some cs =>
    rw [hcs] at hy;obtain ⟨x,hx,hr⟩:=he.2.2 ec w sp held m' cs _ hy;exact ⟨x,cs,rfl,hx,hr⟩
  rcases Nat.eq_zero_or_pos len with h0 | hpos
  ·subst h0; exact ⟨[],⟨by simp,by simp⟩,.cons _ _ _ _ (.sl0 _ _ _ (by first | assumption | exact λ_=>rfl | (intro h; cases h))) .nil⟩
  ·have hsp:a.spot=none/\a.block < w.heap.size:=by
    obtain ⟨x,cs,hcs,_,_⟩:=hex 0 hpos;obtain ⟨v,hv,_⟩:=(Mx hcs).2 0 (by omega);have:=Sq hv
    simpa [Addr.add] using this
   obtain ⟨b,off,s⟩:=a;simp only at hsp;obtain ⟨rfl,hb⟩:=hsp;have hcell:∀ i j,(Addr.add ((⟨b,off,none⟩:Addr).add (i*(n+1))) j)=⟨b,off+i*(n+1)+j,none⟩:=by
    intro i j;unfold Addr.add
    split <;> split <;> simp_all
   -- the elements, chosen
   have hch:∀ k,k<=len->∃ ys:List α,ys.length=k/\(∀ y∈ys,wf y)/\∀ i y,ys[i]?=some y->∃ cs,w.cells? 0 ((⟨b,off,none⟩:Addr).add (i*(n+1))) (n+1)=some cs/\Vo w (UK w) (enc y) cs:=by
    intro k
    induction k with
    | zero=>intro _; exact ⟨[],rfl,by simp,by simp⟩
    | succ k ih =>
     intro hk;obtain ⟨ys,h1,h2,h3⟩:=ih (by omega);obtain ⟨x,cs,h4,h5,h6⟩:=hex k (by omega);refine ⟨ys++[x],by simp [h1],?_,?_⟩
     ·intro y hy;rcases List.mem_append.1 hy with h | h
      ·exact h2 y h
      ·simp only [zQq] at h; subst h; exact h5
     ·intro i y hy
      by_cases hi:i < ys.length
      ·rw [rg hi] at hy; exact h3 i y hy
      ·rw [zQQ (by omega)] at hy;have:i=ys.length:=by
        rcases Nat.lt_or_ge (i - ys.length) 1 with h | h
        ·omega
        ·rw [List.getElem?_eq_none (by simpa using h)] at hy; cases hy
       subst this;simp only [Nat.sub_self,zWV,Option.some.injEq] at hy;subst hy;rw [h1];exact ⟨cs,h4,h6⟩
   obtain ⟨ys,h1,h2,h3⟩:=hch len (zWj _);refine ⟨ys,⟨by omega,h2⟩,.cons _ _ _ _ ?_ .nil⟩;have hl:(ys.map enc).length=len:=by simpa using h1
   have key:∀ (i:Nat) (row:List T) (j:Nat) (x:T),(ys.map enc)[i]?=some row->row[j]?=some x->∃ v,w.cell? ⟨b,off+i*(n+1)+j,none⟩=some v/\Rd w (UK w) x v:=by
    intro i row j x hi hj;rw [zQX] at hi
    cases hy:ys[i]? with
    | none=>rw [hy] at hi; cases hi
    | some y =>
     rw [hy] at hi;simp only [zWQ,Option.some.injEq] at hi;subst hi;obtain ⟨cs,hcs,hrd⟩:=h3 i y hy;obtain ⟨v,hv,hr⟩:=hrd.get j x hj;have hjn:j < n+1:=by
      have:=he.2.1 y;rcases Nat.lt_or_ge j (n+1) with h | h
      ·exact h
      ·rw [List.getElem?_eq_none (by omega)] at hj; cases hj
     obtain ⟨v',hv',hc'⟩:=(Mx hcs).2 j hjn;rw [hv] at hc'
     cases hc'
     rw [hcell] at hv';exact ⟨v,hv',hr⟩
   have hfun:∃ u:Nat->Nat->Value,∀ (i:Nat) (row:List T) (j:Nat) (x:T),(ys.map enc)[i]?=some row->row[j]?=some x->w.cell? ⟨b,off+i*(n+1)+j,none⟩=some (u i j)/\Rd w (UK w) x (u i j):=by
    refine ⟨λi j=>(w.cell? ⟨b,off+i*(n+1)+j,none⟩).getD (.bool false),λi row j x hi hj=>?_⟩;obtain ⟨v,hv,hr⟩:=key i row j x hi hj;simp only [hv,zYZ];exact ⟨trivial,hr⟩
   obtain ⟨u,hu'⟩:=hfun;have:=Rd.sl (w:=w) (F:=UK w) (n+1) (ys.map enc) b off cap u (by omega) hb (λi row hi=>by
    rw [zQX] at hi
    cases hy:ys[i]? with
    | none=>rw [hy] at hi; cases hi
    | some y=>rw [hy] at hi; simp only [zWQ,Option.some.injEq] at hi; subst hi; exact he.2.1 y) (λi row j x hi hj=>(hu' i row j x hi hj).1) (λi row j x hi hj=>(hu' i row j x hi hj).2)
   rw [hl] at this;exact this
end Go.Tm
namespace Go.Tm
open Go.RowKit Go.ChangeShapes
def Wy{α:Type}(P:Program)(t:TypeId)(wf:α->Prop)(ev:α->V):Prop :=
 ∀ {H:Type} (ec:TypeId×Value->H) (W:World) (base:Nat) (v:Value) (d:DataW H) (p:List MemPlace),DataW.Trod ec P W 0 (λ_=>true) true t v d p->Value.okWide P W .any base t v->∃ x,wf x/\VV W (UK W) (ev x) v []
def Tv(P:Program)(t:TypeId):Bool:=match P.underlying t with | some (.struct _) | some (.array ..)=>false | _=>true
theorem OH{P:Program}{t:TypeId}(hn:Tv P t=true){W:World}{base:Nat}{v:Value}(h:Value.okWide P W .any base t v):v.cells=#[v]:=by
 cases v with
 | agg cs =>
  exfalso;unfold Tv at hn;unfold Value.okWide at h
  cases hu:P.underlying t with
  | none=>simp [hu,Cell.okWide,Cell.ok] at h
  | some u=>cases u <;> simp_all [Cell.okWide,Cell.ok]
 | _=>rfl
theorem Wy.one{α:Type}{P:Program}{t:TypeId}{wf:α->Prop}{enc:α->List T}(h:OG P t 1 wf enc)(hn:Tv P t=true):Wy P t wf (λx=>.one (.t ((enc x).headD .nilf))):=by
 intro H ec W base v d p ⟨k,hd⟩ hv;obtain ⟨x,hx,hr⟩:=h.2.2 ec W _ _ k _ _ hd;have hc:=OH hn hv;rw [hc] at hr;have hl:=h.2.1 x;refine ⟨x,hx,.one _ _ _ ?_⟩
 match he:enc x,hl with
 | [y],_ =>
  rw [he] at hr
  cases hr with
  | cons _ _ _ _ h1 _=>exact .t _ _ h1
def He{α:Type}(P:Program)(ts:List TypeId)(wf:α->Prop)(ea:α->List V):Prop :=
 ∀ {H:Type} (ec:TypeId×Value->H) (W:World) (base:Nat) (vs:List Value) (ds:List (DataW H)) (p:List MemPlace),DataW.TrodAll ec P W 0 (λ_=>true) true ts vs ds p ->
  (∀ (j:Nat) (t:TypeId) (v:Value),ts[j]?=some t->vs[j]?=some v->Value.okWide P W .any base t v)->∃ x,wf x/\AG W (UK W) (ea x) vs []
theorem He.nil{P:Program}:He P [] (λ_:Unit=>True) (λ_=>[]):=by
 intro H ec W base vs ds p h hv;obtain ⟨rfl,_,_⟩:=trodAll_nil h;exact ⟨(),trivial,.nil⟩
theorem He.cons{α β:Type}{P:Program}{t:TypeId}{ts:List TypeId}{wf:α->Prop}{ev:α->V}{wf':β->Prop}{ea:β->List V}(h:Wy P t wf ev)(hs:He P ts wf' ea) :
  He P (t :: ts) (λx:α×β=>wf x.1/\wf' x.2) (λx=>ev x.1 :: ea x.2):=by
 intro H ec W base vs ds p hT hv;obtain ⟨v,vs',d,ds',p1,p2,rfl,rfl,rfl,h1,h2⟩:=trodAll_cons hT;obtain ⟨x,hx,hr⟩:=h ec W base v d p1 h1 (hv 0 t v rfl rfl);obtain ⟨y,hy,hr'⟩:=hs ec W base vs' ds' p2 h2 (λj t v ht hj=>hv (j+1) t v ht hj);exact ⟨(x,y),⟨hx,hy⟩,.cons _ _ [] _ _ [] hr hr'⟩
theorem Cy{P:Program}{H:Type}{ec:TypeId×Value->H}(hl:laidOutB P=true){W W':World}(hb:Below W.heap.size W W'):∀ {ts:List TypeId} {vs:List Value} {ds:List (DataW H)} {p:List MemPlace},
  ts.all (λt=>P.readableRec t && decide (t < P.types.size))=true->DataW.TrodAll ec P W 0 (λ_=>true) true ts vs ds p ->
  DataW.TrodAll ec P W' 0 (λb=>decide (b < W.heap.size)) true ts vs ds p
 | [],vs,ds,p,_,h=>by
  obtain ⟨rfl,rfl,rfl⟩:=trodAll_nil h;exact trodAll_mk0
 | t :: ts,vs,ds,p,ht,h=>by
  obtain ⟨v,vs',d,ds',p1,p2,rfl,rfl,rfl,h1,h2⟩:=trodAll_cons h;simp only [List.all_cons,sY,decide_eq_true_eq] at ht;refine trodAll_cons_mk (Below.trod hl ht.1.1 ht.1.2 h1 hb ?_) (Cy hl hb (by simpa using ht.2) h2);obtain ⟨k,hk⟩:=h1;exact DataW.trod_lt k _ _ _ hk
theorem Sr{α:Type}{P:Program}{f:FuncId}{ts:List TypeId}{wf:α->Prop}{ea:α->List V}(hr:He P ts wf ea)(hl:laidOutB P=true)(hts:ts.all (λt=>P.readableRec t && decide (t < P.types.size))=true)
  (law:∀ x,wf x->aH P f (ea x) (.one (.t (.bool true))) []) {H:Type} (ec:TypeId×Value->H) (W:World) (base:Nat) (args:Array Value) (ds:List (DataW H)) (p:List MemPlace)
  (hT:DataW.TrodAll ec P W 0 (λ_=>true) true ts args.toList ds p) (hv:∀ (j:Nat) (t:TypeId) (v:Value),ts[j]?=some t->args[j]?=some v->Value.okWide P W .any base t v)
  (htb:Jq P W λ_=>False):Calls P f args W λe W'=>e=.returned (.bool true)/\Below W.heap.size W W'/\DataW.TrodAll ec P W' 0 (λb=>decide (b < W.heap.size)) true ts args.toList ds p:=by
 obtain ⟨x,hx,hV⟩:=hr ec W base args.toList ds p hT (λj t v h1 h2=>hv j t v h1 (by simpa using h2));have:=(law x hx).2 W (UK W) args.toList [] (λ_ h=>h) hV .nil (by simp) (htb.mono λ_ h=>by cases h);simp only [zWY] at this;refine this.mono λe W' ⟨v,F',bv,bo,h1,h2,h3,h4,h5,h6,h7,h8,h9⟩=>?_;have hbel:Below W.heap.size W W':=⟨h2.os,h2.tape,h2.output,h2.size,λk hk=>h3 k hk (by simp)⟩;refine ⟨?_,hbel,Cy hl hbel hts hT⟩
 cases h6 with
 | one _ _ _ h =>
  cases h with
  | t _ _ h =>
   cases h
   exact h1
end Go.Tm
namespace Go.Tm
open Go.RowKit
theorem OI{α:Type}(a:A)(k:T->MA α)(st:St):(a.toT k).run st=((a.toT MA.ret).run st).bind λp=>(k p.1).run p.2:=by
 cases a with
 | t y=>rfl
 | nil=>rfl
 | own r =>
  simp only [A.toT,MA.run]
  cases hr:st.rw r with
  | none=>rfl
  | some row=>cases row <;> rfl
 | _=>rfl
theorem Dd{α:Type}:∀ (l:List A) (k:List T->MA α) (st:St),(A.toTs l k).run st=((A.toTs l MA.ret).run st).bind λp=>(k p.1).run p.2
 | [],k,st=>rfl
 | a :: r,k,st=>by
  simp only [A.toTs];rw [OI a,OI a (λx=>A.toTs r λxs=>MA.ret (x :: xs)),Option.bind_assoc]
  congr 1
  funext p
  rw [Dd r,Dd r (λxs=>MA.ret (p.1 :: xs)),Option.bind_assoc];rfl
theorem Ss{α:Type}(l:List A){k:List T->MA α}{st st1:St}{xs:List T}(h:(A.toTs l MA.ret).run st=some (xs,st1)):(A.toTs l k).run st=(k xs).run st1:=by
 rw [Dd,h]; rfl
section
variable {P:Program} {n:Nat} {ls:List Nat} {st st':St} {p:Nat->Bool} {ρ:Nat->dG} {ops:Array Oper} {l:List Oper} {K:St->Prop} {o:Oper}
theorem mS{α:Type}(f:α->List T)(xs:List α)(r i off:Nat){y:α}(y':α){t e:TypeId}{x1 x2:Operand}(v:A){sz m:Nat}(ts:List T)(ho:o.op=.store t x1 x2)(hg:iB ops st o=some true)(hf:ek ρ st o=true)
  (h1:st.eval x1=some (.elem r sz i off)) (h2:st.eval x2=some v) (hm:iA P t=some m) (hv:(zXY v.cells.length m && v.cells.all A.one)=true) (hz:((A.toTs (kF (Ef P t) v.cells) MA.ret).run st).map Prod.fst=some ts)
  (hr:(HS ((A.toTs (kF (Ef P t) v.cells) MA.ret).run st)).rw r=some (.live e sz (xs.map f))) (h:xs[i]?=some y) (hle:Nat.ble (off+m) (f y).length=true) (hy:spl (f y) off ts=f y')
  (hk:ae P p ρ ops l ((({ HS ((A.toTs (kF (Ef P t) v.cells) MA.ret).run st) with rw:=dV (HS ((A.toTs (kF (Ef P t) v.cells) MA.ret).run st)).rw r (some (.live e sz ((xs.set i y').map f))) }:St)).put o.dst .undef) K):ae P p ρ ops (o :: l) st K:=by
 simp only [sY] at hv;have hv1:=zWw hv.1;have hle':off+m<=(f y).length:=by simpa using hle
 obtain ⟨⟨ts',st1⟩,h5,h6⟩:=Option.map_eq_some_iff.1 hz
 cases h6
 rw [h5] at hr hk;refine ae.op (x:=.undef) hg hf ?_ hk;simp only [pI,ho,h1,h2,zq,hm,hv1,hv.2,and_self,↓reduceIte];rw [Ss _ h5];have hr':st1.rw r=some (.live e sz (xs.map f)):=hr;simp only [MA.run,hr',zQX,h,zWQ,hle',↓reduceIte,hy,List.map_set,HS]
theorem De:∀ xs:List Int,AQ (xs.map (ah .u8))=some xs
 | []=>rfl
 | x :: xs=>by simp only [zWq,ah,AQ,De xs]
theorem Cz(xs:List Int)(m:Nat){y:A}{s t e:TypeId}{x:Operand}(ho:o.op=.convert s t x)(hg:iB ops st o=some true)(hf:ek ρ st o=true)
  (hx:st.eval x=some y) (hy:((y.rows λm rows=>MA.ret (m,rows)).run st).map Prod.fst=some (m,xs.map (ah .u8))) (hs:P.underlying s=some (.slice e)) (he:P.underlying e=some (.int .u8)) (ht:P.underlying t=some .string)
  (hk:ae P p ρ ops l (st.put o.dst (.t (.str (strOfNums xs)))) K):ae P p ρ ops (o :: l) st K:=by
 refine ae.pure (x:=.t (.str (strOfNums xs))) hg hf ?_ hk
 cases y with
 | t z =>
  cases z with
  | sl sz rows =>
   simp only [A.rows,MA.run,zWQ,Option.some.injEq,Prod.mk.injEq] at hy;obtain ⟨rfl,rfl⟩:=hy;simp only [pI,ho,hx,hs,ht,he,A.rows,De,MA.run]
  | _=>simp [A.rows,MA.run] at hy
 | _ =>
  simp only [pI,ho,hx,hs,ht,he,Nd hy,De,MA.run]
end
end Go.Tm
namespace Go.Tm
open Go.RowKit
def JO{α:Type}(xs ys:List α)(lo:Nat):List α:=xs.take lo++ys.take (xs.length - lo)++xs.drop (lo+min ys.length (xs.length - lo))
def JP(ks:List (List Int))(xs:List Int):List (List Int):=if ks.contains xs then ks else ks++[xs]
end Go.Tm
namespace Go.Tm.Pu
theorem eH{n:Int}(h1:-9223372036854775808<=n)(h2:n<=9223372036854775807):IntKind.wrap .i64 n=n:=Go.IntWalk.i64_in n ⟨h1,h2⟩
theorem zH(n:Int):IntKind.wrap .u8 n=n % 256:=by simp [IntKind.wrap,IntKind.bits,IntKind.signed]
theorem cd{a b:Int}(h1:-9223372036854775808<=a+b)(h2:a+b<=9223372036854775807):aQ .i64 a b=a+b:=eH h1 h2
theorem cU{a b:Int}(h1:-9223372036854775808<=a - b)(h2:a - b<=9223372036854775807):dM .i64 a b=a - b:=eH h1 h2
theorem lG{a b:Int}(h1:-9223372036854775808<=a*b)(h2:a*b<=9223372036854775807):jC .i64 a b=a*b:=eH h1 h2
theorem cu{i:Nat}(h:i < 9223372036854775807):aQ .i64 (i:Int) 1=((i+1:Nat):Int):=by
 rw [cd (by omega) (by omega)]; simp
theorem wE{a b:Int}(h:0<=a):mA .i64 a b=a % b:=by
 unfold mA; exact zXV h
theorem JQ{a b:Int}(h:0<=a)(hb:0 < b)(h2:a<=9223372036854775807):Qn .i64 a b=a / b:=by
 unfold Qn;rw [Int.tdiv_eq_ediv_of_nonneg h];have h3:0<=a / b:=Int.ediv_nonneg h (by omega);have h4:a / b<=a:=Int.ediv_le_self b h;exact eH (by omega) (by omega)
theorem Qo(k:IntKind)(a:Int)(n:Nat)(h:n<=k.bits):rJ k a (n:Int)=a / 2 ^ n:=by
 unfold rJ;rw [show min (sX (n:Int)) k.bits=n by simp; omega];exact Int.fdiv_eq_ediv_of_nonneg a (by exact_mod_cast zZH (2 ^ n))
theorem Vp(a:Int):rJ .i64 a 7=a / 128:=Qo .i64 a 7 (by decide)
theorem Wb(a:Int):rJ .i64 a 8=a / 256:=Qo .i64 a 8 (by decide)
theorem bu{p:Prop}[Decidable p](h:p):c9 (decide p)=some ():=by simp [c9,h]
theorem A4:c9 true=some ():=rfl
theorem cM{α:Type}(xs:List α)(i:Nat):c6 xs (i:Int)=xs[i]?:=by simp [c6]
def lS{σ ρ:Type}(fin:σ->Option ρ)(body:Nat->σ->(σ->Option ρ)->Option ρ):Nat->Nat->σ->Option ρ
 | 0,_,s=>fin s
 | n+1,i,s=>body i s (lS fin body n (i+1))
theorem UL{σ ρ:Type}{fin:σ->Option ρ}{body:Nat->σ->(σ->Option ρ)->Option ρ}{n:Int}(L:Nat->σ->Int->Option ρ)(hn:n<=9223372036854775807)
  (hL:∀ (k:Nat) (s:σ) (i:Nat),L (k+1) s (i:Int)=bif decide ((i:Int) < n) then body i s (λs'=>L k s' (aQ .i64 (i:Int) 1)) else fin s) :
  ∀ (m k i:Nat) (s:σ),i+m=n.toNat\/(m=0/\n<=i)->m < k->L k s (i:Int)=lS fin body m i s:=by
 intro m
 induction m with
 | zero =>
  intro k i s hi hk;obtain ⟨k,rfl⟩:∃ j,k=j+1:=⟨k - 1,by omega⟩;rw [hL];have:¬ ((i:Int) < n):=by omega
  simp [this,lS]
 | succ m ih =>
  intro k i s hi hk;obtain ⟨k,rfl⟩:∃ j,k=j+1:=⟨k - 1,by omega⟩;rw [hL];have:(i:Int) < n:=by omega
  simp only [this,decide_true,cond_true];show body i s _=body i s (lS fin body m (i+1))
  congr 1
  funext s'
  rw [cu (by omega)];exact ih k (i+1) s' (by omega) (by omega)
theorem mB{σ ρ:Type}{fin:σ->Option ρ}{body:Nat->σ->(σ->Option ρ)->Option ρ}{n:Int}(L:Nat->σ->Int->Option ρ)(hn:n<=9223372036854775807)
  (hL:∀ (k:Nat) (s:σ) (i:Nat),L (k+1) s (i:Int)=bif decide ((i:Int) < n) then body i s (λs'=>L k s' (aQ .i64 (i:Int) 1)) else fin s)
  {k:Nat} (s:σ) (hk:n.toNat < k):L k s 0=lS fin body n.toNat 0 s:=by
 have:=UL L hn hL n.toNat k 0 s (by omega) hk
 simpa using this
def bP{α σ ρ:Type}(fin:σ->Option ρ)(body:α->Nat->σ->(σ->Option ρ)->Option ρ):List α->Nat->σ->Option ρ
 | [],_,s=>fin s
 | x :: xs,i,s=>body x i s (bP fin body xs (i+1))
theorem OJ{α σ ρ:Type}{fin:σ->Option ρ}{body:α->Nat->σ->(σ->Option ρ)->Option ρ}{xs:List α}(L:Nat->σ->Int->Option ρ)(hn:xs.length<=9223372036854775807)
  (hL:∀ (k:Nat) (s:σ) (i:Nat),L (k+1) s (i:Int)=bif decide ((i:Int) < (xs.length:Int)) then (c6 xs (i:Int)).bind λx=>body x i s (λs'=>L k s' (aQ .i64 (i:Int) 1)) else fin s) :
  ∀ (ys:List α) (k i:Nat) (s:σ),ys=xs.drop i->ys.length < k->L k s (i:Int)=bP fin body ys i s:=by
 intro ys
 induction ys with
 | nil =>
  intro k i s hi hk;obtain ⟨k,rfl⟩:∃ j,k=j+1:=⟨k - 1,by omega⟩;rw [hL];have:¬ ((i:Int) < (xs.length:Int)):=by
   have:=congrArg List.length hi;simp at this;omega
  simp [this,bP]
 | cons y ys ih =>
  intro k i s hi hk;obtain ⟨k,rfl⟩:∃ j,k=j+1:=⟨k - 1,by omega⟩;rw [hL];have hlt:i < xs.length:=by
   have:=congrArg List.length hi;simp at this;omega
  have hx:xs[i]?=some y:=by
   have:=congrArg zYV hi
   simpa [zXW] using this.symm
  have hys:ys=xs.drop (i+1):=by
   have:=congrArg zYq hi
   simpa [zXK] using this
  have:(i:Int) < (xs.length:Int):=by omega
  simp only [this,decide_true,cond_true,cM,hx,wk];show body y i s _=body y i s (bP fin body ys (i+1))
  congr 1
  funext s'
  rw [cu (by omega)];simp only [zQW] at hk;exact ih k (i+1) s' hys (by omega)
theorem dh{α σ ρ:Type}{fin:σ->Option ρ}{body:α->Nat->σ->(σ->Option ρ)->Option ρ}{xs:List α}(L:Nat->σ->Int->Option ρ)(hn:xs.length<=9223372036854775807)
  (hL:∀ (k:Nat) (s:σ) (i:Nat),L (k+1) s (i:Int)=bif decide ((i:Int) < (xs.length:Int)) then (c6 xs (i:Int)).bind λx=>body x i s (λs'=>L k s' (aQ .i64 (i:Int) 1)) else fin s)
  {k:Nat} (s:σ) (hk:xs.length < k):L k s 0=bP fin body xs 0 s:=by
 have:=OJ L hn hL xs k 0 s (by simp) hk
 simpa using this
end Go.Tm.Pu
namespace Go.Tm
end Go.Tm
namespace Go.Tm
open Go
theorem oi{α:Type}{a b:α}(h:some a=some b):a=b:=Option.some.inj h
theorem kr{p:Prop}(h:p:=by kernel_rfl):p:=h
section
variable {P:Program} {n:Nat} {ls:List Nat} {Q:Exit->St->Prop} {N:St->Prop} {st st':St} {c x y:Code} {p:Nat->Bool} {ρ:Nat->dG} {ops:Array Oper} {l:List Oper} {K:St->Prop} {o:Oper}
theorem JR(s:Sx)(h:Wp P n ls c Q s.st)(hok:s.ok n ls [] []=true:=by kernel_rfl)(ht:s.tm.map (λq=>st.tm q.1)=s.tm.map (λq=>q.2.ren (AI []) (AI [])):=by kernel_rfl)
  (ho:s.ob.map (λq=>st.ob (AI [] q.1))=s.ob.map (λq=>some (ru (AI []) (AI []) q.2)):=by kernel_rfl) (hr:s.rw.map (λq=>st.rw (AI [] q.1))=s.rw.map (λq=>some q.2):=by kernel_rfl):Wp P n ls c Q st :=
 Wp.le (Le.of (s:=s) (mo:=[]) (mr:=[]) hok ht ho hr) h
theorem aP{id:Nat}(p:List Nat)(ρ:List (Nat×dG))(h:ae P (fv p) (bl ρ) ops ops.toList st (Q .normal))(hok:ops.toList.all (jB n)=true:=by kernel_rfl):Wp P n ls (.region id ops false) Q st :=
 rv (fv p) (bl ρ) hok h
theorem Qp{id:Nat}(p:List Nat)(ρ:List (Nat×dG))(h:ae P (fv p) (bl ρ) ops ops.toList st (ie (Wp P n ls y Q) Q .normal))(hok:ops.toList.all (jB n)=true:=by kernel_rfl):Wp P n ls (.seq (.region id ops false) y) Q st :=
 Wp.seq (rv (fv p) (bl ρ) hok h)
theorem ab(hr:N (St.or (o4 P ρ ops l st)))(h:(o4 P ρ ops l st).isSome=true:=by kernel_rfl):ae P p ρ ops l st (ie N Q .normal) :=
 ae.all h (aN hr)
theorem af{id:Nat}(h:Wp P n ls y Q (St.or (o4 P (bl []) ops ops.toList st)))(h1:(o4 P (bl []) ops ops.toList st).isSome=true:=by kernel_rfl)(hd:ops.toList.all (jB n)=true:=by kernel_rfl):Wp P n ls (.seq (.region id ops false) y) Q st :=
 Qp [] [] (ab h h1) hd
theorem ay{α:Type}{o:Operand}{b:Bool}{e1 e2 r:α}(h:(bif b then e1 else e2)=r)(ht:e1=r->Wp P n ls x Q st)(hf:e2=r->Wp P n ls y Q st)(ho:st.eval o=some (.t (.bool b)):=by kernel_rfl):Wp P n ls (.cond o x y) Q st :=
 Tr ho (λhc=>ht (Qk h hc)) (λhc=>hf (Ql h hc))
theorem aV(h:N st){Q:Exit->St->Prop}:Wp P n ls .skip (ie N Q) st:=Wp.skip (aN h)
end
abbrev A.s(x:List Int):A:=.t (.sl 1 (x.map (ah .u8)))
abbrev C.s(x:List Int):C:=.t (.sl 1 (x.map (ah .u8)))
abbrev A.i(n:Int):A:=.t (.int .i64 n)
abbrev A.b(b:Bool):A:=.t (.bool b)
abbrev C.i(n:Int):C:=.t (.int .i64 n)
abbrev C.b(b:Bool):C:=.t (.bool b)
end Go.Tm
namespace Go.Tm
open Go.RowKit
section
variable {P:Program} {n:Nat} {ls:List Nat} {Q:Exit->St->Prop} {st st':St} {p:Nat->Bool} {ρ:Nat->dG} {ops:Array Oper} {l:List Oper} {K:St->Prop} {o:Oper}
theorem aU(d f:Nat)(caps as:List A)(vs:List V)(res:V){xf:Operand}{args:Array Operand}{ts:Array TypeId}
  (ho:o.op=.call { callee:=.value xf,args,argTypes:=ts }) (hd:o.dst=some d) (hg:iB ops st o=some true) (hf:ek ρ st o=true) (hxf:st.eval xf=some (.clo f caps)) (has:cT (args.toList.map st.eval)=some as)
  (hp:((dz (as++caps) MA.ret).run st).map Prod.fst=some vs) (hc:pe P f vs res) (hr:((V.toA d (eD d 0) res MA.ret).run st).isSome=true)
  (hk:ae P p ρ ops l ((HS ((V.toA d (eD d 0) res MA.ret).run st)).put o.dst (Vn ((V.toA d (eD d 0) res MA.ret).run st))) K):ae P p ρ ops (o :: l) st K:=by
 obtain ⟨⟨vs',st1⟩,h1,h2⟩:=Option.map_eq_some_iff.1 hp
 cases h2
 have hst:st1=st:=by
  have:=(mz (dz (as++caps) MA.ret) (pM (D:=⟨λ_=>True,λ_=>False,λ_=>True,λ_=>False⟩) (oY (λ_=>trivial) _) (λ_=>trivial)) h1).1;exact St.ext this.tm (funext λs=>this.ob s (λh=>h)) (funext λs=>this.rw s (λh=>h))
 subst hst;obtain ⟨⟨x,st2⟩,h3⟩:=Option.isSome_iff_exists.1 hr;rw [h3] at hk;exact ae.step (.run x st2 hg hf (.callD d f xf args ts caps as vs' res ho hd hxf has h1 hc h3)) hk
theorem je{α:Type}(f:α->List T)(xs:List α)(i:Int)(s:Bool){y:α}{t e:TypeId}{a b:Operand}{sz:Nat}{kk:IntKind}(ho:o.op=.indexAddr t a b)(hg:iB ops st o=some true)(hf:ek ρ st o=true)
  (ha:st.eval a=some (.ext s (.sl sz (xs.map f)))) (hb:st.eval b=some (.t (.int kk i))) (hu:P.underlying t=some (.slice e)) (hs:iA P e=some sz) (h:c6 xs i=some y) (hk:ae P p ρ ops l (st.put o.dst (.exa s (f y))) K):ae P p ρ ops (o :: l) st K:=by
 obtain ⟨h0,h1⟩:=bL h;refine ae.pure (x:=.exa s (f y)) hg hf ?_ hk;simp only [pI,ho,ha,hb];unfold jP;simp only [hu,hs,Ei,h0,and_self,↓reduceIte,zQX,h1,zWQ,true_and,MA.run]
theorem fw(k:IntKind)(m:Nat)(xs:List Int):(((A.ext false (.sl m (xs.map (ah k)))).rows λm rows=>MA.ret (m,rows)).run st).map Prod.fst=some (m,xs.map (ah k)):=Tu (k:=k) (f:=ah k) λ_=>rfl
end
section
variable {P:Program} {E:En} {g:Gh} {st st':St} {a:Act} {w w':World} {n:Nat}
variable {p:Nat->Bool} {ρ:Nat->dG} {ops:Array Oper} {o:Oper} {ls:List Nat} {Q:Exit->St->Prop}
theorem bV{fn:Func}{c:Code}{f:FuncId}{args:List V}{m:Bool}{res:V}
  (hf:P.funcs[f]?=some fn) (hb:fn.body=some c) (hnm:(fn.name == "runtime.NumGoroutine")=false) (hle:Nat.ble args.length fn.ntmps=true) (ht:s4 fn.ntmps fn=true)
  (h:Wp P fn.ntmps [1] c (yI P m fn [] res []) (fc (args.map V.toX) cI)):pe P f args res:=OC hf hb hnm (by simpa using hle) ht h
end
end Go.Tm
namespace Go.Tm
open Go
def C.fix:C->C->C
 | .t (.sl s _),.nil=>.t (.sl s [])
 | .ow e s _,.nil=>.ow e s []
 | .t (.sl s _),.t (.sl 0 [])=>.t (.sl s [])
 | _,c=>c
theorem OK:∀ t c:C,P4 c (C.fix t c):=λt c=>by
 unfold C.fix
 split
 ·exact .nilT _
 ·exact .nilO _ _
 ·exact .sz _ _
 ·exact .refl _
def Rz:List C->List C->List C
 | t :: ts,c :: cs=>t.fix c :: Rz ts cs
 | _,cs=>cs
theorem JS:∀ cs:List C,Dc P4 cs cs
 | []=>.nil
 | c :: cs=>.cons (.refl c) (JS cs)
theorem JT:∀ ts cs:List C,Dc P4 cs (Rz ts cs)
 | t :: ts,c :: cs=>.cons (OK t c) (JT ts cs)
 | [],cs=>JS cs
 | _ :: _,[]=>.nil
def UM:List (List C)->List (List C)->List (List C)
 | t :: ts,c :: cs=>Rz t c :: UM ts cs
 | _,cs=>cs
theorem My:∀ cs:List (List C),Dc (Dc P4) cs cs
 | []=>.nil
 | c :: cs=>.cons (JS c) (My cs)
theorem RA:∀ ts cs:List (List C),Dc (Dc P4) cs (UM ts cs)
 | t :: ts,c :: cs=>.cons (JT t c) (RA ts cs)
 | [],cs=>My cs
 | _ :: _,[]=>.nil
mutual
def V.fix:V->V->V
 | .one t,.one c=>.one (t.fix c)
 | .agg ts,.agg cs=>.agg (Rz ts cs)
 | .tup ts,.tup vs=>.tup (yK ts vs)
 | _,v=>v
def yK:List V->List V->List V
 | t :: ts,v :: vs=>V.fix t v :: yK ts vs
 | _,vs=>vs
end
theorem Mz:∀ vs:List V,A3 vs vs
 | []=>.nil
 | v :: vs=>.cons (.refl v) (Mz vs)
mutual
theorem OL:∀ t v:V,Rv v (V.fix t v)
 | .one t,.one c=>by unfold V.fix; exact .one (OK t c)
 | .agg ts,.agg cs=>by unfold V.fix; exact .agg (JT ts cs)
 | .tup ts,.tup vs=>by unfold V.fix; exact .tup (wF ts vs)
 | .one _,.agg _ | .one _,.tup _ | .one _,.ptr _ | .one _,.fptr _ | .one _,.clo ..=>by unfold V.fix; exact .refl _
 | .agg _,.one _ | .agg _,.tup _ | .agg _,.ptr _ | .agg _,.fptr _ | .agg _,.clo ..=>by unfold V.fix; exact .refl _
 | .tup _,.agg _ | .tup _,.one _ | .tup _,.ptr _ | .tup _,.fptr _ | .tup _,.clo ..=>by unfold V.fix; exact .refl _
 | .ptr _,v | .fptr _,v | .clo ..,v=>by unfold V.fix; exact .refl _
theorem wF:∀ ts vs:List V,A3 vs (yK ts vs)
 | t :: ts,v :: vs=>by unfold yK; exact .cons (OL t v) (wF ts vs)
 | [],vs=>by unfold yK; exact Mz vs
 | _ :: _,[]=>by unfold yK; exact .nil
end
def Df(P:Program)(ρ:Nat->dG)(ops:Array Oper)(st:St):List Oper->Option (Nat×List A×Nat)
 | o :: _=>match iB ops st o with
  | some true=>if ek ρ st o then match o.op,o.dst with
   | .call { callee:=.value xf,args,.. },some d=>match st.eval xf,cT (args.toList.map st.eval) with
    | some (.clo f caps),some az=>some (f,az++caps,d)
    | _,_=>none
   | _,_=>none
   else none
  | _=>none
 | []=>none
def V.pl:V->Bool
 | .one (.t x)=>x.sc
 | .agg l=>l.all λc=>match c with | .t x=>x.sc | _=>false
 | .tup l=>l.all λv=>match v with | .one (.t x)=>x.sc | _=>false
 | _=>false
theorem Qq{v:V}(h:v.pl=true):v.plain:=by
 unfold V.pl at h
 split at h
 ·unfold V.plain; exact h
 ·unfold V.plain;intro c hc;have:=List.all_eq_true.1 h c hc
  cases c with
  | t x=>exact this
  | _=>cases this
 ·rename_i l;unfold V.plain
  induction l with
  | nil=>unfold sU; trivial
  | cons v l ih =>
   simp only [List.all_cons,sY] at h;unfold sU;refine ⟨?_,ih h.2⟩;have h1:=h.1
   split at h1
   ·unfold V.plain; exact h1
   ·cases h1
 ·cases h
section
variable {P:Program} {n:Nat} {ls:List Nat} {Q:Exit->St->Prop} {N:St->Prop} {st:St} {p:Nat->Bool} {ρ:Nat->dG} {ops:Array Oper} {l:List Oper} {K:St->Prop} {y:Code}
abbrev rK(P:Program)(ρ:Nat->dG)(ops:Array Oper)(k:Nat)(l:List Oper)(st:St):St:=St.or (o4 P ρ ops (l.take k) st)
theorem xr{c:Nat×List A×Nat}(h:Df P ρ ops st l=some c):∃ o l' xf args ts az caps,l=o :: l'/\iB ops st o=some true/\ek ρ st o=true/\o.op=.call { callee:=.value xf,args,argTypes:=ts }/\o.dst=some c.2.2/\st.eval xf=some (.clo c.1 caps)/\cT (args.toList.map st.eval)=some az/\c.2.1=az++caps:=by
 unfold Df at h
 split at h <;> try (cases h; done)
 rename_i o l'
 split at h <;> try (cases h; done)
 split at h <;> try (cases h; done)
 split at h <;> try (cases h; done)
 split at h <;> try (cases h; done)
 rename_i _ hg hf _ _ xf args ts d hop hd _ _ f caps az hxf has
 cases h
 exact ⟨o,l',xf,args,ts,az,caps,rfl,hg,hf,hop,hd,hxf,has,rfl⟩
abbrev Vq(m:Bool)(p:Nat->Bool)(d:Nat)(az:List A)(res:V)(cj:List (List C))(st:St):St :=
 (HS ((dg d (dy az) cj (V.toA d (eD d 0) res MA.ret)).run (HS ((jQ m p az MA.ret).run st)))).put (some d) (Vn ((dg d (dy az) cj (V.toA d (eD d 0) res MA.ret)).run (HS ((jQ m p az MA.ret).run st))))
abbrev WN(d:Nat)(res:V)(st:St):St:=(HS ((V.toA d (eD d 0) res MA.ret).run st)).put (some d) (Vn ((V.toA d (eD d 0) res MA.ret).run st))
theorem ai{α β:Type}{r:β}{x:Option α}{f:α->Option β}{fid:Nat}{vs:List V}{res:α->V}{cj:α->List (List C)}(m:Bool)(k d:Nat)(az:List A)(h:x.bind f=some r)(hc:∀ y,x=some y->aH P fid vs (res y) (cj y))
  (hk:∀ y,f y=some r->ae P p ρ ops (l.drop (k+1)) (Vq m p d az (res y) (cj y) (rK P ρ ops k l st)) K)
  (h1:(o4 P ρ ops (l.take k) st).isSome=true:=by kernel_rfl) (h2:Df P ρ ops (rK P ρ ops k l st) (l.drop k)=some (fid,az,d):=by kernel_rfl)
  (h3:((jQ m p az MA.ret).run (rK P ρ ops k l st)).map (λq=>yK vs q.1)=some vs:=by kernel_rfl)
  (h4:∀ y,((dg d (dy az) (cj y) (V.toA d (eD d 0) (res y) MA.ret)).run (HS ((jQ m p az MA.ret).run (rK P ρ ops k l st)))).isSome=true:=by intro y; kernel_rfl):ae P p ρ ops l st K:=by
 refine aj k h1 ?_
 cases x with
 | none=>cases h
 | some y =>
  have h5:=hc y rfl;have h6:=hk y h;have h7:=h4 y
  clear hc hk h4
  simp only [rK,Vq] at h2 h3 h6 h7;generalize St.or (o4 P ρ ops (l.take k) st)=st1 at *;obtain ⟨o,l',xf,args,ts,az',caps,e1,e2,e3,e4,e5,e6,e7,e8⟩:=xr h2;simp only at e5 e6 e8;subst e8;have e9:l.drop (k+1)=l':=by rw [<- List.drop_drop,e1]; rfl
  rw [e9] at h6;rw [e1];obtain ⟨⟨vs0,st2⟩,h8,h9⟩:=Option.map_eq_some_iff.1 h3;have h10:A3 vs0 vs:=by rw [<- h9]; exact wF vs vs0
  rw [h8] at h6 h7;simp only [HS,Vn] at h6 h7
  cases h11:(dg d (dy (az'++caps)) (cj y) (V.toA d (eD d 0) (res y) MA.ret)).run st2 with
  | none=>rw [h11] at h7; cases h7
  | some q =>
   obtain ⟨z,st3⟩:=q;rw [h11] at h6;exact ae.call e2 e3 e4 e5 e6 e7 h8 (h5.le h10) h11 (by rw [e5]; exact h6)
theorem cC{α β:Type}{r:β}{x:Option α}{f:α->Option β}{fid:Nat}{vs:List V}{res:α->V}(k d:Nat)(az:List A)(h:x.bind f=some r)(hc:∀ y,x=some y->aH P fid vs (res y) [])
  (hk:∀ y,f y=some r->ae P p ρ ops (l.drop (k+1)) (WN d (res y) (rK P ρ ops k l st)) K)
  (h1:(o4 P ρ ops (l.take k) st).isSome=true:=by kernel_rfl) (h2:Df P ρ ops (rK P ρ ops k l st) (l.drop k)=some (fid,az,d):=by kernel_rfl)
  (h3:((dz az MA.ret).run (rK P ρ ops k l st)).map (λq=>yK vs q.1)=some vs:=by kernel_rfl)
  (h0:∀ y,(res y).pl=true:=by intro y; kernel_rfl)
  (h4:∀ y,((V.toA d (eD d 0) (res y) MA.ret).run (rK P ρ ops k l st)).isSome=true:=by intro y; kernel_rfl):ae P p ρ ops l st K:=by
 refine aj k h1 ?_
 cases x with
 | none=>cases h
 | some y =>
  have h5:=hc y rfl;have h6:=hk y h;have h7:=h4 y;have h0:=Qq (h0 y)
  clear hc hk h4
  simp only [rK,WN] at h2 h3 h6 h7;generalize St.or (o4 P ρ ops (l.take k) st)=st1 at *;obtain ⟨o,l',xf,args,ts,az',caps,e1,e2,e3,e4,e5,e6,e7,e8⟩:=xr h2;simp only at e5 e6 e8;subst e8;have e9:l.drop (k+1)=l':=by rw [<- List.drop_drop,e1]; rfl
  rw [e9] at h6;rw [e1];obtain ⟨⟨vs0,st2⟩,h8,h9⟩:=Option.map_eq_some_iff.1 h3;have h10:A3 vs0 vs:=by rw [<- h9]; exact wF vs vs0
  have hst:st2=st1:=by
   have:=(mz (dz (az'++caps) MA.ret) (pM (D:=⟨λ_=>True,λ_=>False,λ_=>True,λ_=>False⟩) (oY (λ_=>trivial) _) (λ_=>trivial)) h8).1;exact St.ext this.tm (funext λs=>this.ob s (λh=>h)) (funext λs=>this.rw s (λh=>h))
  subst hst
  cases h11:(V.toA d (eD d 0) (res y) MA.ret).run st2 with
  | none=>rw [h11] at h7; cases h7
  | some q =>
   obtain ⟨z,st3⟩:=q;rw [h11] at h6;simp only [HS,Vn] at h6;exact ae.callB e2 e3 e4 e5 e6 e7 h8 (h5.le h10) h0 h11 (by rw [e5]; exact h6)
theorem aJ{id:Nat}(h:ae P (fv []) (bl []) ops ops.toList st (ie (Wp P n ls y Q) Q .normal))(hd:ops.toList.all (jB n)=true:=by kernel_rfl):Wp P n ls (.seq (.region id ops false) y) Q st :=
 Qp [] [] h hd
theorem bc{α β:Type}{id:Nat}{r:β}{x:Option α}{f:α->Option β}{fid:Nat}{vs:List V}{res:α->V}{cj:α->List (List C)}(m:Bool)(k d:Nat)(az:List A)(h:x.bind f=some r)(hc:∀ y,x=some y->aH P fid vs (res y) (cj y))
  (hk:∀ z,f z=some r->Wp P n ls y Q (St.or (o4 P (bl []) ops (ops.toList.drop (k+1)) (Vq m (fv []) d az (res z) (cj z) (rK P (bl []) ops k ops.toList st)))))
  (h1:(o4 P (bl []) ops (ops.toList.take k) st).isSome=true:=by kernel_rfl) (h2:Df P (bl []) ops (rK P (bl []) ops k ops.toList st) (ops.toList.drop k)=some (fid,az,d):=by kernel_rfl)
  (h3:((jQ m (fv []) az MA.ret).run (rK P (bl []) ops k ops.toList st)).map (λq=>yK vs q.1)=some vs:=by kernel_rfl)
  (h4:∀ z,((dg d (dy az) (cj z) (V.toA d (eD d 0) (res z) MA.ret)).run (HS ((jQ m (fv []) az MA.ret).run (rK P (bl []) ops k ops.toList st)))).isSome=true:=by intro z; kernel_rfl)
  (h5:∀ z,(o4 P (bl []) ops (ops.toList.drop (k+1)) (Vq m (fv []) d az (res z) (cj z) (rK P (bl []) ops k ops.toList st))).isSome=true:=by intro z; kernel_rfl)
  (hd:ops.toList.all (jB n)=true:=by kernel_rfl):Wp P n ls (.seq (.region id ops false) y) Q st :=
 Qp [] [] (ai m k d az h hc (λz hz=>ab (hk z hz) (h5 z)) h1 h2 h3 h4) hd
theorem aI{α:Type}(k d:Nat){b:Bool}{e1 e2 r:α}(h:(bif b then e1 else e2)=r)(ht:e1=r->ae P p ρ ops (l.drop k) ((rK P ρ ops k l st).put (some d) (.t (.bool true))) K)
  (hf:e2=r->ae P p ρ ops (l.drop k) ((rK P ρ ops k l st).put (some d) (.t (.bool false))) K) (h1:(o4 P ρ ops (l.take k) st).isSome=true:=by kernel_rfl) (h2:(rK P ρ ops k l st).tm d=.t (.bool b):=by kernel_rfl):ae P p ρ ops l st K:=by
 refine aj k h1 ?_;rcases tf b with hc | hc
 ·exact ae.known d (v:=true) h2 hc (ht (Qk h hc))
 ·exact ae.known d (v:=false) h2 hc (hf (Ql h hc))
theorem aE{m:Bool}{fn:Func}{args:List V}{res:V}{cj:List (List C)}(h1:(A2 P st fn.results.toList).isSome=true:=by kernel_rfl)
  (h2:((Cx 0 args λos=>Tt m (UH ((A2 P st fn.results.toList).getD [])) λv=>MA.ret (v,os)).run st).map (λq=>(V.fix res q.1.1,UM cj q.1.2))=some (res,cj):=by kernel_rfl):yI P m fn args res cj .ret st:=by
 obtain ⟨l,hl⟩:=Option.isSome_iff_exists.1 h1;rw [hl] at h2;obtain ⟨⟨⟨v,os⟩,st1⟩,h3,h4⟩:=Option.map_eq_some_iff.1 h2;simp only [Prod.mk.injEq] at h4;refine ⟨.inl rfl,l,st1,v,os,hl,h3,?_,?_⟩
 ·rw [<- h4.1]; exact OL _ _
 ·rw [<- h4.2]; exact RA _ _
theorem RB{m:Bool}{fn:Func}{args:List V}{res:V}{cj:List (List C)}(h1:(A2 P st fn.results.toList).isSome=true:=by kernel_rfl)
  (h2:((Cx 0 args λos=>Tt m (UH ((A2 P st fn.results.toList).getD [])) λv=>MA.ret (v,os)).run st).map (λq=>(V.fix res q.1.1,UM cj q.1.2))=some (res,cj):=by kernel_rfl):yI P m fn args res cj .normal st :=
 ⟨.inr rfl,(aE (m:=m) (args:=args) h1 h2).2⟩
theorem lo{s:Sx}(mr:List (Nat×Nat))(hok:s.ok n ls [] mr=true:=by kernel_rfl)(ht:s.tm.map (λq=>st.tm q.1)=s.tm.map (λq=>q.2.ren (AI []) (AI mr)):=by kernel_rfl)
  (ho:s.ob.map (λq=>st.ob (AI [] q.1))=s.ob.map (λq=>some (ru (AI []) (AI mr) q.2)):=by kernel_rfl) (hr:s.rw.map (λq=>st.rw (AI mr q.1))=s.rw.map (λq=>some q.2):=by kernel_rfl):Le n ls st s.st:=Le.of hok ht ho hr
theorem dn{f:FuncId}{c:Code}{args:List V}{res:V}{cj:List (List C)}(fn:Func)(m:Bool)
  (h:Wp P fn.ntmps (dQ 0 args) c (yI P m fn args res cj) (fc ((((lE 0 args MA.ret).run cI).map Prod.fst).getD []) (HS ((lE 0 args MA.ret).run cI))))
  (hb:fn.body=some c:=by rfl) (hf:P.funcs[f]?=some fn:=by kernel_rfl) (hnm:(fn.name == "runtime.NumGoroutine")=false:=by kernel_rfl) (hle:Nat.ble ((((lE 0 args MA.ret).run cI).map Prod.fst).getD []).length fn.ntmps=true:=by kernel_rfl) (ht:s4 fn.ntmps fn=true:=by kernel_rfl)
  (ha:((lE 0 args MA.ret).run cI).isSome=true:=by kernel_rfl) (hl:gn 0 args ((((lE 0 args MA.ret).run cI).map Prod.fst).getD [])=true:=by kernel_rfl):aH P f args res cj:=by
 obtain ⟨⟨az,st0⟩,h1⟩:=Option.isSome_iff_exists.1 ha;refine HT (m:=m) az hf hb hnm (by simpa [h1] using hle) ht (by rw [h1]; rfl) (by simpa [h1] using hl) ?_
 simpa [h1] using h
end
end Go.Tm
namespace Go.Tm
open Go
section
variable {P:Program} {n:Nat} {ls:List Nat} {Q:Exit->St->Prop} {N:St->Prop} {st:St} {p:Nat->Bool} {ρ:Nat->dG} {ops:Array Oper} {l l':List Oper} {K:St->Prop} {y:Code} {o:Oper}
theorem F6{α:Type}(f:α->List T)(m:Nat)(xs:List α)(hf:∀ n,(f n).all T.sc=true):(((A.ext false (.sl m (xs.map f))).rows λm rows=>MA.ret (m,rows)).run st).map Prod.fst=some (m,xs.map f):=by
 have:Jl (xs.map f)=true:=by
  unfold Jl;rw [List.all_eq_true];intro r hr;obtain ⟨n,_,rfl⟩:=List.mem_map.1 hr;exact hf n
 simp [A.rows,this,MA.run]
def RC:Option A->Option Int
 | some (.t (.int _ i))=>some i
 | _=>none
theorem JU{a:Option A}{i:Int}(h:RC a=some i):∃ k,a=some (.t (.int k i)):=by
 unfold RC at h
 split at h
 ·rename_i k j; cases h; exact ⟨k,rfl⟩
 ·cases h
def Tw(st:St):Option A->Option (List (List T))
 | some (.t (.sl _ rows))=>some rows
 | some .nil=>some []
 | some (.own r)=>match st.rw r with
  | some (.live _ _ rows)=>some rows
  | some (.frz _ rows)=>some rows
  | _=>none
 | _=>none
theorem Qr{a:Option A}{rows:List (List T)}(h:Tw st a=some rows):∃ y m,a=some y/\((y.rows λm rows=>MA.ret (m,rows)).run st).map Prod.fst=some (m,rows):=by
 unfold Tw at h
 split at h
 ·cases h; exact ⟨_,_,rfl,rfl⟩
 ·cases h; exact ⟨_,_,rfl,rfl⟩
 ·rename_i r
  split at h
  ·rename_i e sz rows hr; cases h; exact ⟨.own r,sz,rfl,by simp [A.rows,MA.run,hr]⟩
  ·rename_i sz rows hr; cases h; exact ⟨.own r,sz,rfl,by simp [A.rows,MA.run,hr]⟩
  ·cases h
 ·cases h
def Qs(nn:Nat)(st:St):Option A->Option (List (List T))
 | some (.t (.sl m rows))=>bif zXY m nn then some rows else none
 | some .nil=>some []
 | some (.own r)=>match st.rw r with
  | some (.live _ m rows)=>bif zXY m nn then some rows else none
  | some (.frz m rows)=>bif zXY m nn then some rows else none
  | _=>none
 | _=>none
theorem OM{nn:Nat}{a:Option A}{rows:List (List T)}(h:Qs nn st a=some rows):∃ y m,a=some y/\((y.rows λm rows=>MA.ret (m,rows)).run st).map Prod.fst=some (m,rows)/\(m=nn\/rows=[]):=by
 have key:∀ {m:Nat} {rs:List (List T)},(bif zXY m nn then some rs else none)=some rows->m=nn/\rs=rows:=λ{m rs} h=>by
  cases hm:zXY m nn with
  | true=>rw [hm] at h; cases h; exact ⟨zWw hm,rfl⟩
  | false=>rw [hm] at h; cases h
 unfold Qs at h
 split at h
 ·obtain ⟨rfl,rfl⟩:=key h; exact ⟨_,_,rfl,rfl,.inl rfl⟩
 ·cases h; exact ⟨_,0,rfl,rfl,.inr rfl⟩
 ·rename_i r
  split at h
  ·rename_i e m rs hr; obtain ⟨rfl,rfl⟩:=key h; exact ⟨.own r,m,rfl,by simp [A.rows,MA.run,hr],.inl rfl⟩
  ·rename_i m rs hr; obtain ⟨rfl,rfl⟩:=key h; exact ⟨.own r,m,rfl,by simp [A.rows,MA.run,hr],.inl rfl⟩
  ·cases h
 ·cases h
def MB:List Oper->Option Nat
 | o :: _=>o.dst
 | []=>none
theorem A5{k:Nat}(h:l.drop k=o :: l'):l.drop (k+1)=l'/\MB (l.drop k)=o.dst:=by
 have h1:=congrArg (List.drop 1) h;rw [List.drop_drop] at h1;exact ⟨h1,by rw [h]; rfl⟩
theorem bT{α β:Type}{r:β}{xs:List α}{i:Int}{g:α->Option β}(k e sz:Nat)(f:α->List T)(h:(c6 xs i).bind g=some r){t:TypeId}{a b:Operand}
  (hk:∀ y,g y=some r->c6 xs i=some y->ae P p ρ ops (l.drop (k+1)) ((rK P ρ ops k l st).put (MB (l.drop k)) (.fadr (f y))) K) (hl:l.drop k=o :: l':=by rfl) (h1:(o4 P ρ ops (l.take k) st).isSome=true:=by kernel_rfl)
  (ho:o.op=.indexAddr t a b:=by rfl) (hg:iB ops (rK P ρ ops k l st) o=some true:=by kernel_rfl) (hf:ek ρ (rK P ρ ops k l st) o=true:=by kernel_rfl) (ha:(rK P ρ ops k l st).eval a=some (.t (.sl sz (xs.map f))):=by kernel_rfl)
  (hb:RC ((rK P ρ ops k l st).eval b)=some i:=by kernel_rfl) (hu:P.underlying t=some (.slice e):=by kernel_rfl) (hs:iA P e=some sz:=by kernel_rfl):ae P p ρ ops l st K:=by
 obtain ⟨e1,e2⟩:=A5 hl;simp only [e1,e2] at hk;refine aj k h1 ?_;obtain ⟨y,h2,h3⟩:=bind_some h;obtain ⟨kk,hb⟩:=JU hb;rw [hl];exact Sm f xs i ho hg hf ha hb hu hs h2 (hk y h3 h2)
theorem bQ{α β:Type}{r:β}{xs:List α}{i:Int}{g:α->Option β}(k e sz rw e':Nat)(f:α->List T)(h:(c6 xs i).bind g=some r){t:TypeId}{a b:Operand}
  (hk:∀ y,g y=some r->c6 xs i=some y->ae P p ρ ops (l.drop (k+1)) ((rK P ρ ops k l st).put (MB (l.drop k)) (.elem rw sz i.toNat 0)) K) (hl:l.drop k=o :: l':=by rfl) (h1:(o4 P ρ ops (l.take k) st).isSome=true:=by kernel_rfl)
  (ho:o.op=.indexAddr t a b:=by rfl) (hg:iB ops (rK P ρ ops k l st) o=some true:=by kernel_rfl) (hf:ek ρ (rK P ρ ops k l st) o=true:=by kernel_rfl) (ha:(rK P ρ ops k l st).eval a=some (.own rw):=by kernel_rfl)
  (hr:(rK P ρ ops k l st).rw rw=some (.live e' sz (xs.map f)):=by kernel_rfl) (hb:RC ((rK P ρ ops k l st).eval b)=some i:=by kernel_rfl) (hu:P.underlying t=some (.slice e):=by kernel_rfl) (hs:iA P e=some sz:=by kernel_rfl):ae P p ρ ops l st K:=by
 obtain ⟨e1,e2⟩:=A5 hl;simp only [e1,e2] at hk;refine aj k h1 ?_;obtain ⟨y,h2,h3⟩:=bind_some h;obtain ⟨kk,hb⟩:=JU hb;rw [hl];exact Sn f xs i rw ho hg hf ha hr hb hu hs h2 (hk y h3 h2)
theorem aO{α:Type}(k e:Nat)(f:α->List T)(xs:List α){t:TypeId}{x:Operand}{args:Array Operand}{ts:Array TypeId}(hk:ae P p ρ ops (l.drop (k+1)) ((rK P ρ ops k l st).put (MB (l.drop k)) (.t (.int .i64 xs.length))) K)(hl:l.drop k=o :: l':=by rfl)
  (h1:(o4 P ρ ops (l.take k) st).isSome=true:=by kernel_rfl) (ho:o.op=.call { callee:=.builtin .len,args,argTypes:=ts }:=by rfl) (hargs:args.toList=[x]:=by rfl) (hts:ts.toList=[t]:=by rfl) (hg:iB ops (rK P ρ ops k l st) o=some true:=by kernel_rfl)
  (hf:ek ρ (rK P ρ ops k l st) o=true:=by kernel_rfl) (hx:Tw (rK P ρ ops k l st) ((rK P ρ ops k l st).eval x)=some (xs.map f):=by kernel_rfl) (hu:P.underlying t=some (.slice e):=by kernel_rfl):ae P p ρ ops l st K:=by
 obtain ⟨e1,e2⟩:=A5 hl;simp only [e1,e2] at hk;refine aj k h1 ?_;obtain ⟨y,m,hx,hy⟩:=Qr hx;rw [hl];exact Sp f xs m ho hargs hts hg hf hx hy hu hk
theorem bp{α β:Type}{r:β}{xs ys:List α}{g:Unit->Option β}{by_:Nat}(k d e nn rw:Nat)(f:α->List T)(h:(c9 (decide ((xs.length+ys.length)*by_<=140737488355328))).bind g=some r){t:TypeId}{ts:Array TypeId}{args:Array Operand}{a b:Operand}
  (hk:g ()=some r->ae P p ρ ops (l.drop (k+1)) (({ rK P ρ ops k l st with rw:=dV (dV (rK P ρ ops k l st).rw rw (some .gone)) (eD d 0) (some (.live e nn ((xs++ys).map f))) }:St).put (MB (l.drop k)) (.own (eD d 0))) K) (hl:l.drop k=o :: l':=by rfl) (h1:(o4 P ρ ops (l.take k) st).isSome=true:=by kernel_rfl)
  (ho:o.op=.call { callee:=.builtin .append,args,argTypes:=ts }:=by rfl) (hargs:args.toList=[a,b]:=by rfl) (hts:ts.toList=[t,t]:=by rfl) (hd:o.dst=some d:=by rfl) (hg:iB ops (rK P ρ ops k l st) o=some true:=by kernel_rfl) (hf:ek ρ (rK P ρ ops k l st) o=true:=by kernel_rfl)
  (ha:(rK P ρ ops k l st).eval a=some (.own rw):=by kernel_rfl) (hr:(rK P ρ ops k l st).rw rw=some (.live e nn (xs.map f)):=by kernel_rfl) (hy:Qs nn (rK P ρ ops k l st) ((rK P ρ ops k l st).eval b)=some (ys.map f):=by kernel_rfl)
  (hi:BW P t=some (e,nn,by_):=by kernel_rfl) (hne:zXY (eD d 0) rw=false:=by kernel_rfl) (hfree:(rK P ρ ops k l st).rw (eD d 0)=none:=by kernel_rfl):ae P p ρ ops l st K:=by
 obtain ⟨e1,e2⟩:=A5 hl;simp only [e1,e2] at hk;refine aj k h1 ?_;obtain ⟨_,h2,h3⟩:=bind_some h;obtain ⟨y,m,hb,hy,hm⟩:=OM hy;rw [hl];exact dR f d m e nn by_ rw xs ys ho hargs hts hd hg hf ha hr hb hy hm hi (of_decide_eq_true (bt h2)) hne hfree (hk h3)
theorem dH{α:Type}{y:α}{xs:List α}{i:Nat}(k sz m rw off e':Nat)(gg:Bool)(f:α->List T)(h:xs[i]?=some y){t:TypeId}{a:Operand}(hk:ae P p ρ ops (l.drop (k+1)) ((rK P ρ ops k l st).put (MB (l.drop k)) ((C4 gg m ((f y).map A.t) off).getD .undef)) K)(hl:l.drop k=o :: l':=by rfl)(h1:(o4 P ρ ops (l.take k) st).isSome=true:=by kernel_rfl)
  (ho:o.op=.load t a:=by rfl) (hg:iB ops (rK P ρ ops k l st) o=some true:=by kernel_rfl) (hf:ek ρ (rK P ρ ops k l st) o=true:=by kernel_rfl)
  (ha:(rK P ρ ops k l st).eval a=some (.elem rw sz i off):=by kernel_rfl) (hr:(rK P ρ ops k l st).rw rw=some (.live e' sz (xs.map f)):=by kernel_rfl) (hgg:N8 P t=some gg:=by kernel_rfl) (hm:iA P t=some m:=by kernel_rfl) (hc:(C4 gg m ((f y).map A.t) off).isSome=true:=by kernel_rfl):ae P p ρ ops l st K:=by
 obtain ⟨e1,e2⟩:=A5 hl;simp only [e1,e2] at hk;refine aj k h1 ?_;obtain ⟨x,hx⟩:=Option.isSome_iff_exists.1 hc;rw [hx] at hk;rw [hl];exact Qj f xs rw i off x ho hg hf ha hr hgg hm h hx hk
end
abbrev V.i(n:Int):V:=.one (.t (.int .i64 n))
abbrev V.b(b:Bool):V:=.one (.t (.bool b))
abbrev eT(l:List T):V:=.agg (l.map .t)
def cw:List Nat->List T->List C
 | 0 :: es,x :: xs=>.t x :: cw es xs
 | (e+1) :: es,.sl sz rows :: xs=>.ow (e+1) sz rows :: cw es xs
 | _ :: es,x :: xs=>.t x :: cw es xs
 | [],xs=>xs.map .t
 | _ :: _,[]=>[]
def V.w(es:List Nat)(l:List T):V:=.agg (cw es l)
section
variable {P:Program} {st:St} {p:Nat->Bool} {ρ:Nat->dG} {ops:Array Oper} {l:List Oper} {K:St->Prop} {o:Oper}
theorem pe.le{f:Nat}{l l':List V}{res:V}(hl:A3 l l')(h:pe P f l' res):pe P f l res:=⟨h.1,λw D vs hD hv ht=>h.2 w D vs hD (F5 hl hv) ht⟩
theorem ON(d f:Nat)(caps aa:List A)(vs:List V)(res:V){xf:Operand}{args:Array Operand}{ts:Array TypeId}
  (ho:o.op=.call { callee:=.value xf,args,argTypes:=ts }) (hd:o.dst=some d) (hg:iB ops st o=some true) (hf:ek ρ st o=true) (hxf:st.eval xf=some (.clo f caps)) (has:cT (args.toList.map st.eval)=some aa)
  (hp:((dz (aa++caps) MA.ret).run st).map (λq=>yK vs q.1)=some vs) (hc:pe P f vs res) (hr:((V.toA d (eD d 0) res MA.ret).run st).isSome=true)
  (hk:ae P p ρ ops l ((HS ((V.toA d (eD d 0) res MA.ret).run st)).put o.dst (Vn ((V.toA d (eD d 0) res MA.ret).run st))) K):ae P p ρ ops (o :: l) st K:=by
 obtain ⟨⟨vs0,st1⟩,h1,h2⟩:=Option.map_eq_some_iff.1 hp;have hle:A3 vs0 (yK vs vs0):=wF vs vs0;simp only at h2;rw [h2] at hle;exact aU d f caps aa vs0 res ho hd hg hf hxf has (by rw [h1]; rfl) (hc.le hle) hr hk
end
section
variable {P:Program} {n:Nat} {ls:List Nat} {Q:Exit->St->Prop} {st:St} {p:Nat->Bool} {ρ:Nat->dG} {ops:Array Oper} {l:List Oper} {K:St->Prop} {y:Code}
theorem P2.le{f:Nat}{v v' x x':List V}{res:V}{cj:List (List C)}(hv:A3 v v')(hx:A3 x x')(h:P2 P f v' x' res cj):P2 P f v x res cj :=
 ⟨h.1,λw F D vs us bs hF hD h1 h2 hn hf ht=>(h.2 w F D vs us bs hF hD (F5 hv h1) (F5 hx h2) hn hf ht).mono λe w' ⟨v,F',bv,bo,a1,a2,a3,a4,a5,a6,a7,a8⟩=>⟨v,F',bv,bo,a1,a2,a3,a4,a5,a6,Rw a7 hv,a8⟩⟩
theorem V3{f:FuncId}{c:Code}{args xs:List V}{res:V}{cj:List (List C)}(fn:Func)(m:Bool)
  (h:Wp P fn.ntmps (dQ 0 args) c (yI P m fn args res cj) (fc (((((lE 0 args MA.ret).run cI).map Prod.fst).getD [])++xs.map V.toX) (HS ((lE 0 args MA.ret).run cI))))
  (hb:fn.body=some c:=by rfl) (hf:P.funcs[f]?=some fn:=by kernel_rfl) (hnm:(fn.name == "runtime.NumGoroutine")=false:=by kernel_rfl) (hle:Nat.ble (((((lE 0 args MA.ret).run cI).map Prod.fst).getD [])++xs.map V.toX).length fn.ntmps=true:=by kernel_rfl) (ht:s4 fn.ntmps fn=true:=by kernel_rfl)
  (ha:((lE 0 args MA.ret).run cI).isSome=true:=by kernel_rfl) (hl:gn 0 args ((((lE 0 args MA.ret).run cI).map Prod.fst).getD [])=true:=by kernel_rfl):P2 P f args xs res cj:=by
 obtain ⟨⟨az,st0⟩,h1⟩:=Option.isSome_iff_exists.1 ha;rw [h1] at h hle hl;exact OD hf hb hnm (Nat.le_of_ble_eq_true hle) ht h1 hl h
theorem gC{α β:Type}{r:β}{x:Option α}{f:α->Option β}{fid:Nat}{vs us:List V}{res:α->V}{cj:α->List (List C)}(m:Bool)(k d:Nat)(aa xs:List A)(h:x.bind f=some r)(hc:∀ y,x=some y->P2 P fid vs us (res y) (cj y))
  (hk:∀ y,f y=some r->ae P p ρ ops (l.drop (k+1)) (Vq m p d aa (res y) (cj y) (rK P ρ ops k l st)) K)
  (h1:(o4 P ρ ops (l.take k) st).isSome=true:=by kernel_rfl) (h2:Df P ρ ops (rK P ρ ops k l st) (l.drop k)=some (fid,aa++xs,d):=by kernel_rfl)
  (h3:((jQ m p aa MA.ret).run (rK P ρ ops k l st)).map (λq=>yK vs q.1)=some vs:=by kernel_rfl)
  (h0:((dz xs MA.ret).run (HS ((jQ m p aa MA.ret).run (rK P ρ ops k l st)))).map (λq=>yK us q.1)=some us:=by kernel_rfl)
  (h4:∀ y,((dg d (dy aa) (cj y) (V.toA d (eD d 0) (res y) MA.ret)).run (HS ((jQ m p aa MA.ret).run (rK P ρ ops k l st)))).isSome=true:=by intro y; kernel_rfl):ae P p ρ ops l st K:=by
 refine aj k h1 ?_
 cases x with
 | none=>cases h
 | some y =>
  have h5:=hc y rfl;have h6:=hk y h;have h7:=h4 y
  clear hc hk h4
  simp only [rK,Vq] at h2 h3 h6 h7 h0;generalize St.or (o4 P ρ ops (l.take k) st)=st1 at *;obtain ⟨o,l',xf,args,ts,az',caps,e1,e2,e3,e4,e5,e6,e7,e8⟩:=xr h2;simp only at e5 e6 e8;have e9:l.drop (k+1)=l':=by rw [<- List.drop_drop,e1]; rfl
  rw [e9] at h6;rw [e1];obtain ⟨⟨vs0,st2⟩,h8,h9⟩:=Option.map_eq_some_iff.1 h3;have h10:A3 vs0 vs:=by rw [<- h9]; exact wF vs vs0
  rw [h8] at h6 h7 h0;simp only [HS,Vn] at h6 h7 h0;obtain ⟨⟨us0,st4⟩,h12,h13⟩:=Option.map_eq_some_iff.1 h0;have h14:A3 us0 us:=by rw [<- h13]; exact wF us us0
  have hst:st4=st2:=by
   have:=(mz (dz xs MA.ret) (pM (D:=⟨λ_=>True,λ_=>False,λ_=>True,λ_=>False⟩) (oY (λ_=>trivial) _) (λ_=>trivial)) h12).1;exact St.ext this.tm (funext λs=>this.ob s (λh=>h)) (funext λs=>this.rw s (λh=>h))
  subst hst
  cases h11:(dg d (dy aa) (cj y) (V.toA d (eD d 0) (res y) MA.ret)).run st4 with
  | none=>rw [h11] at h7; cases h7
  | some q =>
   obtain ⟨z,st3⟩:=q;rw [h11] at h6;exact ae.step (.run z st3 e2 e3 (.callX m d fid xf args ts az' caps aa xs vs0 us0 st4 (res y) (cj y) e4 e5 e6 e7 e8.symm h8 h12 (h5.le h10 h14) h11)) (by rw [e5]; exact h6)
end
end Go.Tm
namespace Go.Tm
open Go
section
variable {P:Program} {n:Nat} {ls:List Nat} {Q:Exit->St->Prop} {st:St} {x y:Code}
theorem Cm(R:St->Prop)(J:∀ s,R s->Wp P n ls y Q s)(h:Wp P n ls x (ie R Q) st):Wp P n ls (.seq x y) Q st:=Wp.seq (h.mono λe s hq=>by
 cases e with
 | normal=>exact J s hq
 | _=>exact hq)
theorem Wp.L(R:Nat->St->Prop)(h0:∀ s,¬ R 0 s)(hs:∀ k s,R (k+1) s->Wp P n ls x (ie (R k) Q) s){k:Nat}(h:R k st):Wp P n ls (.loop x) Q st:=by
 refine Wp.loop (k:=k) ?_
 induction k generalizing st with
 | zero=>exact absurd h (h0 st)
 | succ k ih =>
  refine (hs k st h).mono λe s hq=>?_
  cases e with
  | normal=>exact ih hq
  | _=>exact hq
end
end Go.Tm
namespace Go.Tm
open Go
def Ng(P:Program):Nat->List FuncId->List FuncId->Nat->List FuncId×List FuncId×Nat
 | 0,todo,seen,m=>(todo,seen,m)
 | n+1,[],seen,m=>([],seen,m)
 | n+1,f :: todo,seen,m=>if m.testBit f then Ng P n todo seen m else Ng P n ((P.funcs[f]?).elim [] P.leadsTo++todo) (f :: seen) (m ||| 2 ^ f)
def WD(seen:List FuncId)(m:Nat):Prop:=∀ f:Nat,seen.contains f=m.testBit f
theorem UN{seen:List FuncId}{m:Nat}(h:WD seen m)(f:Nat):WD (f :: seen) (m ||| 2 ^ f):=λg=>by
 rw [List.contains_cons,h g,Nat.testBit_or,Nat.testBit_two_pow,Bool.or_comm]
 congr 1
 by_cases hg:g=f
 ·simp [hg]
 ·have:¬ f=g:=λh=>hg h.symm;simp [hg,this]
theorem JV(P:Program):∀ (a b:Nat) (todo seen:List FuncId) (m:Nat),WD seen m->P.closureVia (a+b) todo seen=P.closureVia b (Ng P a todo seen m).1 (Ng P a todo seen m).2.1
 | 0,b,todo,seen,m,h=>by rw [zWJ]; rfl
 | a+1,b,[],seen,m,h=>by
  rw [show a+1+b=(a+b)+1 by omega];show seen.reverse=P.closureVia b [] seen
  cases b <;> rfl
 | a+1,b,f :: todo,seen,m,h=>by
  rw [show a+1+b=(a+b)+1 by omega];rw [show P.closureVia ((a+b)+1) (f :: todo) seen=if seen.contains f then P.closureVia (a+b) todo seen else P.closureVia (a+b) ((P.funcs[f]?).elim [] P.leadsTo++todo) (f :: seen) from rfl,
   show Ng P (a+1) (f :: todo) seen m=if m.testBit f then Ng P a todo seen m else Ng P a ((P.funcs[f]?).elim [] P.leadsTo++todo) (f :: seen) (m ||| 2 ^ f) from rfl,h f]
  cases m.testBit f with
  | true=>exact JV P a b todo seen m h
  | false=>exact JV P a b _ _ _ (UN h f)
def MC(P:Program):Nat:=1+(P.funcs.toList.map λg=>(P.leadsTo g).length+1).sum
theorem Qt{P:Program}{f:FuncId}{a m:Nat}{L:List FuncId}(h:Ng P a [f] [] 0=([],L.reverse,m))(hF:Nat.ble a (MC P)=true):P.closure f=L:=by
 have hle:=Nat.le_of_ble_eq_true hF;unfold Program.closure;show P.closureVia (MC P) [f] []=L;rw [show MC P=a+(MC P - a) by omega,JV P a _ _ _ 0 (λg=>by simp),h]
 cases MC P - a <;> simp [Program.closureVia]
theorem Qu{P:Program}{f:FuncId}{L:List FuncId}{l:List String}(h:P.closure f=L)(h2:(L.filterMap λg=>(P.funcs[g]?).bind λfn=>if fn.ours || fn.body.isNone || fn.name == "runtime.NumGoroutine" then some fn.name else none)=l):P.inPlace f=l:=by
 unfold Program.inPlace; rw [h,h2]
theorem Lw{P:Program}{f:FuncId}{L:List FuncId}{b:Bool}(h:P.closure f=L)(h2:(L.any λg=>(P.funcs[g]?).any λfn=>match fn.body with | some c=>c.unfollowed | none=>entryCalls fn)=b):P.unfollowed f=b:=by
 unfold Program.unfollowed; rw [h]; exact h2
theorem Nh{P:Program}{f:FuncId}{L:List FuncId}{l:List String}(h:P.closure f=L)(h2:((((L.flatMap λg=>((P.funcs[g]?).bind (·.body)).elim [] Code.globalsNamed).eraseDups).filterMap (λg=>(P.globals[g]?).map (·.name)) ++
  L.filterMap λg=>(P.funcs[g]?).bind λfn=>if fn.body.isNone then entryReads.lookup fn.name else none).eraseDups)=l):P.varsNamed f=l:=by
 unfold Program.varsNamed; rw [h,h2]
end Go.Tm
namespace Go.Tm
open Go.RowKit
section
variable {P:Program} {w:World}
def iv(xs:List Int):Value:=.agg (xs.map (Value.int .i64)).toArray
def xt(em:Bool)(n:Nat)(cs:Array Value):List Field->Sem Unit
 | []=>pure ()
 | f :: fs=>if f.name ≠ "_" then do
   let p <- Go.part f.type cs f.offset
   let _ <- Instr.checkKey em n f.type p
   xt em n cs fs
  else xt em n cs fs
theorem Hf(em:Bool)(d:Nat)(xs:List Int):∀ (fs:List Field) (k:Nat),RX P k fs=true->xs.length=k+fs.length->(xt em (d+1) (xs.map (Value.int .i64)).toArray fs).run P w=.ok () w
 | [],k,_,hx=>by simp [xt]
 | f :: fs,k,h,hx=>by
  simp only [RX,sY,bne_iff_ne,beq_iff_eq] at h;obtain ⟨⟨⟨h1,h2⟩,h3⟩,h4⟩:=h;have hu:P.underlying f.type=some (.int .i64):=by
   split at h3
   ·assumption
   ·cases h3
  simp only [zQW] at hx;have hkx:k < xs.length:=by omega
  have px:(Go.part f.type (xs.map (Value.int .i64)).toArray f.offset).run P w=.ok (.int .i64 xs[k]) w:=by simp [Go.part,isAgg,run_underlying hu,h2,hkx]
  have pc:(Instr.checkKey em (d+1) f.type (.int .i64 xs[k])).run P w=.ok () w:=by simp [Instr.checkKey,run_underlying hu]
  have ih:=Hf em d xs fs (k+1) h4 (by omega);simp only [xt,if_pos h1,Sem.run_bind,px,pc,Result.andThen_ok];exact ih
theorem JW(em:Bool)(n:Nat)(cs:Array Value):∀ (fs:List Field),(forIn fs PUnit.unit λf _=>(if f.name ≠ "_" then do
   let p <- Go.part f.type cs f.offset
   Instr.checkKey em n f.type p
   pure (ForInStep.yield PUnit.unit)
  else pure (ForInStep.yield PUnit.unit):Sem (ForInStep PUnit))).run P w=(xt em n cs fs).run P w:=by
 intro fs
 induction fs generalizing w with
 | nil=>simp [xt]
 | cons f fs ih =>
  simp only [List.forIn_cons,xt,Sem.run_bind,Sem.run_ite]
  split
  ·generalize (Go.part f.type cs f.offset).run P w=r1
   cases r1 with
   | ok a w1 =>
    simp only [Result.andThen_ok];generalize (Instr.checkKey em n f.type a).run P w1=r2
    cases r2 with
    | ok b w2=>simp only [Result.andThen_ok,Sem.run_pure]; exact ih
    | halt x w2=>simp [Result.andThen]
   | halt x w1=>simp [Result.andThen]
  ·simp only [Sem.run_pure,Result.andThen_ok];exact ih
theorem CA{t:TypeId}{n:Nat}{xs:List Int}(h:HO P t=some n)(hx:xs.length=n)(em:Bool):(Instr.checkKey em 10000 t (iv xs)).run P w=.ok () w:=by
 unfold HO at h
 split at h
 rotate_left
 ·cases h
 rename_i fs hu
 split at h
 rotate_left
 ·cases h
 rename_i hc;simp only [Option.some.injEq] at h;simp only [sY,zYJ] at hc;have key:∀ d,(Instr.checkKey em (d+2) t (iv xs)).run P w=.ok () w:=by
  intro d;have h5:=Hf (P:=P) (w:=w) em d xs fs.toList 0 hc.2 (by simp; omega);rw [<- JW] at h5;unfold iv;rw [Instr.checkKey];simp only [Sem.run_bind,run_underlying hu,Result.andThen_ok];rw [<- Array.forIn_toList];refine Eq.trans (congrArg (λr=>Result.andThen r λa w'=>Sem.run P (pure ()) w') h5) ?_;simp
 exact key 9998
def Tx(es:Array MapEntry)(ks:List (List Int)):Prop:=es.toList.map (λe=>(e.key,e.val))=ks.map λk=>(iv k,Value.bool true)
theorem A6{t:TypeId}{n:Nat}(h:HO P t=some n){xs:List Int}(hx:xs.length=n):∀ (es:List MapEntry) (ks:List (List Int)) (i:Nat),es.map (λe=>(e.key,e.val))=ks.map (λk=>(iv k,Value.bool true))->(∀ k∈ks,k.length=n) ->
  ∃ r,(Instr.findAsking t (iv xs) es i).run P w=.ok r w/\((ks.contains xs=false/\r=none)\/(ks.contains xs=true/\∃ j,r=some (i+j,.bool true)/\ks[j]?=some xs))
 | [],ks,i,he,_=>by
  cases ks with
  | nil=>exact ⟨none,by simp [Instr.findAsking],.inl ⟨rfl,rfl⟩⟩
  | cons k ks=>simp at he
 | e :: es,ks,i,he,hk=>by
  cases ks with
  | nil=>simp at he
  | cons k ks =>
   simp only [zWq,List.cons.injEq,Prod.mk.injEq] at he;obtain ⟨⟨h1,h2⟩,h3⟩:=he;have hl:=hk k (by simp);have hq:=(Ju (P:=P) (w:=w) h hx hl .eql (.tmp 0) (.tmp 0)).2;have hq2:(Op.equal t (iv xs) e.key).run P w=.ok (xs == k) w:=by rw [h1]; exact hq
   unfold Instr.findAsking;simp only [Sem.run_bind,hq2,Result.andThen_ok]
   cases hb:xs == k with
   | true =>
    have hxk:xs=k:=by simpa using hb
    subst hxk;exact ⟨some (i,e.val),by simp,.inr ⟨by simp,0,by rw [h2]; rfl,rfl⟩⟩
   | false =>
    obtain ⟨r,e1,e2⟩:=A6 h hx es ks (i+1) h3 λy hy=>hk y (by simp [hy]);refine ⟨r,by simpa using e1,?_⟩;have hne:¬ xs=k:=by simpa using hb
    rcases e2 with ⟨e3,e4⟩ | ⟨e3,j,e4,e5⟩
    ·refine .inl ⟨?_,e4⟩;simp only [List.contains_cons,hb,e3,Bool.or_self]
    ·refine .inr ⟨?_,j+1,by rw [e4]; congr 2; omega,by simpa using e5⟩;simp only [List.contains_cons,e3,Bool.or_true]
theorem Hg{t:TypeId}{n:Nat}(h:HO P t=some n){xs:List Int}(hx:xs.length=n){es:List MapEntry}{ks:List (List Int)}(he:es.map (λe=>(e.key,e.val))=ks.map (λk=>(iv k,Value.bool true)))(hk:∀ k∈ks,k.length=n) :
  ∃ r,(Instr.findKey t (iv xs) es).run P w=.ok r w/\((ks.contains xs=false/\r=none)\/(ks.contains xs=true/\∃ j,r=some (j,.bool true)/\ks[j]?=some xs)):=by
 have hu:∃ fs,P.underlying t=some (.struct fs):=by
  unfold HO at h
  split at h
  ·exact ⟨_,by assumption⟩
  ·cases h
 obtain ⟨fs,hu⟩:=hu;obtain ⟨r,h1,h2⟩:=A6 (w:=w) h hx es ks 0 he hk
 cases es with
 | nil =>
  cases ks with
  | nil=>exact ⟨none,by simp [Instr.findKey,run_underlying hu,Instr.findNow],.inl ⟨rfl,rfl⟩⟩
  | cons k ks=>simp at he
 | cons e es =>
  cases ks with
  | nil=>simp at he
  | cons k ks =>
   simp only [zWq,List.cons.injEq,Prod.mk.injEq] at he;have hn:Instr.findNow (.struct fs) (iv xs) (e :: es) 0=none:=by
    unfold Instr.findNow;rw [he.1.1];rfl
   refine ⟨r,?_,?_⟩
   ·simp only [Instr.findKey,Sem.run_bind,run_underlying hu,Result.andThen_ok,hn];exact h1
   ·simpa using h2
def Hh(w:World)(b n:Nat)(ks:List (List Int)):Prop:=∃ es clock,w.heap[b]?=some (.map es clock)/\Tx es ks/\∀ k∈ks,k.length=n
theorem Qv{tm tk te:TypeId}{n b:Nat}{ks:List (List Int)}{xs:List Int}(ht:P.underlying tm=some (.map tk te))(h:HO P tk=some n)(hz:(zeroValue te).run P w=.ok (.bool false) w)(hM:Hh w b n ks)(hx:xs.length=n) :
  (Instr.lookup tm (.map (some b)) (iv xs) false).run P w=.ok (.bool (ks.contains xs)) w:=by
 obtain ⟨es,clock,hb,he,hk⟩:=hM;obtain ⟨r,h1,h2⟩:=Hg (w:=w) h hx (es:=es.toList) he hk;have hc:=λem=>CA (w:=w) h hx em;simp only [Instr.lookup,Sem.run_bind,run_underlying ht,Result.andThen_ok,Go.MapKept.run_getObj_map hb,hc,h1,Sem.run_pure];rcases h2 with ⟨h3,rfl⟩ | ⟨h3,j,rfl,h4⟩
 ·simp only [Sem.run_bind,hc,Result.andThen_ok,h1,hz,Sem.run_pure,zQz,if_false,h3]
 ·simp only [Sem.run_bind,hc,Result.andThen_ok,h1,Sem.run_pure,zQz,if_false,h3]
theorem OO(n:Nat)(xs:List Int):Instr.sameBits (n+1) (iv xs) (iv xs)=true:=by
 unfold iv;unfold Instr.sameBits;simp;intro a b h;have:∀ (l:List Int) (a b:Value),(a,b)∈(l.map (Value.int .i64)).zip (l.map (Value.int .i64))->∃ k,a=.int .i64 k/\b=.int .i64 k:=by
  intro l
  induction l with
  | nil=>intro a b h; simp at h
  | cons x l ih =>
   intro a b h;simp only [zWq,List.zip_cons_cons,zXy,Prod.mk.injEq] at h;rcases h with ⟨rfl,rfl⟩ | h
   ·exact ⟨x,rfl,rfl⟩
   ·exact ih a b h
 obtain ⟨k,rfl,rfl⟩:=this xs a b h
 cases n <;> simp [Instr.sameBits]
theorem Lx{tm tk te:TypeId}{n b:Nat}{ks:List (List Int)}{xs:List Int}(ht:P.underlying tm=some (.map tk te))(h:HO P tk=some n)(hM:Hh w b n ks)(hx:xs.length=n) :
  ∃ o,(Instr.mapUpdate tm (.map (some b)) (iv xs) (.bool true)).run P w=.ok () { w with heap:=w.heap.setIfInBounds b o }/\Hh { w with heap:=w.heap.setIfInBounds b o } b n (JP ks xs):=by
 obtain ⟨es,clock,hb,he,hk⟩:=hM;obtain ⟨r,h1,h2⟩:=Hg (w:=w) h hx (es:=es.toList) he hk;have hc:=λem=>CA (w:=w) h hx em;have hlt:b < w.heap.size:=(Array.getElem?_eq_some_iff.1 hb).1;have hset:∀ o,({ w with heap:=w.heap.setIfInBounds b o }:World).heap[b]?=some o:=λo=>by simp [hlt]
 simp only [Instr.mapUpdate,Sem.run_bind,run_underlying ht,Result.andThen_ok,Go.MapKept.run_getObj_map hb,hc,h1];rcases h2 with ⟨h3,rfl⟩ | ⟨h3,j,rfl,h4⟩
 ·refine ⟨.map (es.push { key:=iv xs,val:=.bool true,born:=clock }) (clock+1),Go.MapKept.run_setObj_map _ hb,_,_,hset _,?_,?_⟩
  ·unfold Tx JP;rw [h3];simp only [Array.toList_push,List.map_append,zWq,List.map_nil,zQz,if_false];rw [show es.toList.map (λe=>(e.key,e.val))=_ from he]
  ·unfold JP;rw [h3];intro k hk2;simp only [zQz,if_false,zWK,zQq] at hk2;rcases hk2 with hk2 | rfl
   ·exact hk k hk2
   ·exact hx
 ·have hj:∃ e,es[j]?=some e/\e.key=iv xs/\e.val=.bool true:=by
   have h5:=congrArg (λl=>l[j]?) he;simp only [zQX,h4,zWQ] at h5;obtain ⟨e,h6,h7⟩:=Option.map_eq_some_iff.1 h5;injection h7 with h7 h8
   exact ⟨e,by simpa using h6,h7,h8⟩
  obtain ⟨e,hj,hke,hve⟩:=hj;have hst:(Instr.keyThatStays (iv xs) (iv xs)).run P w=.ok (iv xs) w:=by
   unfold Instr.keyThatStays;rw [if_pos (OO 9999 xs)];simp
  refine ⟨.map (es.modify j λe=>{ e with key:=iv xs,val:=.bool true }) clock,?_,_,_,hset _,?_,?_⟩
  ·simp only [hj,zWQ,zYZ,hke,Sem.run_bind,hst,Result.andThen_ok];exact Go.MapKept.run_setObj_map _ hb
  ·unfold JP;rw [h3,if_pos rfl];unfold Tx;rw [<- he];refine List.ext_getElem? λi=>?_;simp only [zQX,zQj,Array.getElem?_modify]
   by_cases hij:j=i
   ·subst hij;rw [if_pos rfl,hj];simp [hke,hve]
   ·rw [if_neg hij]
  ·unfold JP;rw [h3,if_pos rfl];exact hk
end
end Go.Tm
