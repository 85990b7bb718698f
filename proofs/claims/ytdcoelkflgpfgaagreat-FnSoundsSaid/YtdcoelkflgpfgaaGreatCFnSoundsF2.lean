/- The abstract machine over data trees, and that it tells the truth of the translated code. -/
import Derived.Orders
import Derived.ChangeOld
import Derived.ChangeArms
import Derived.Carry
import Derived.OpenShut
import Derived.IntWalk
import Derived.JoinedOf
import Derived.Test.YtdcoelkflgpfgaaGreatCFnSoundsF1
set_option linter.unusedVariables false
set_option linter.unusedSimpArgs false
open Array renaming getElem?_append_left->zZQ,getElem?_append_right->zYj,getElem?_eq_getElem->zXV,getElem?_replicate->zZV,replicate->zZx,toArray_toList->zWK
open Bool renaming and_eq_true->sk,false_eq_true->zWW,true_and->zWk
open Int renaming tmod_eq_emod_of_nonneg->zXx,toNat->sY
open List renaming all_eq_true->zYh,append_nil->zWY,drop_drop->zZJ,drop_eq_getElem_cons->zXv,eq_nil_of_length_eq_zero->r0,foldl_cons->zXh,getElem?_append->zWG,getElem?_append_left->zQW,getElem?_append_right->zQX,getElem?_cons_zero->zWQ,getElem?_drop->zQq,getElem?_eq_getElem->sX,getElem?_map->zQY,getElem?_of_mem->zZY,getElem?_set_ne->zXX,getElem?_set_self->zWy,getElem?_take->zQx,head?->zYz,head?_drop->zXw,length->zYH,length_append->zQK,length_cons->zQH,length_map->zYZ,map_congr_left->zXY,map_cons->zWv,mem_append_left->zVZ,mem_cons_of_mem->zQv,mem_cons_self->zQk,mem_map->zYJ,mem_of_getElem?->zQQ,mem_singleton->zQV,nil_append->zQy,nodup_append->zXy,range->zXQ,range'->zWh,range_eq_range'->zXJ,replicate->zQh,size_toArray->zYy,tail->zZX,tail_drop->zXg,take_append_drop->zXH
open Nat renaming add_assoc->zZZ,beq->zXZ,beq_refl->zZk,eq_of_beq_eq_true->zWw,le_refl->zWj,le_trans->zWx,lt_of_lt_of_le->zQj,zero_add->zWZ,zero_le->zZy
open Option renaming bind_some->wk,getD_some->zYq,map_eq_some_iff->zXW,map_some->zWX
namespace Go.Tm
open Go.RowKit
section
variable {P:Program} {E:En} [Tb P E] {g:Gh} {st st':St} {a:Act} {w:World}
def Gh.all(g:Gh)(st:St)(b:Nat):Prop:=g.F b\/(∃ r,st.L r/\(g.rw r).ownBlock=some b)\/(g.sh=false/\g.D b)
theorem fi.all_lt(hM:fi E g st w){b:Nat}(hb:g.all st b):b < w.heap.size:=by
 rcases hb with hb | ⟨r,hL,hb⟩ | ⟨_,hb⟩
 ·exact (hM.F b hb).1
 ·exact hM.row_lt hL hb
 ·exact zQj (hM.dep b hb).2.1 hM.sizes
theorem Lg{α:Type}{x:A}{k:T->MA α}{y:α}{v:Value}(hM:fi E g st w)(hv:VR w g st.O st.R x v)(h:(x.peekT k).run st=some (y,st')):∃ t,(k t).run st=some (y,st')/\Rd w (g.all st) t v:=by
 cases hv with
 | t x v h1=>exact ⟨x,h,h1.mono (λ_ _=>rfl) (λ_ h=>.inl h)⟩
 | ext s x v hs h1 =>
  cases s with
  | true=>simp [A.peekT,MA.run] at h
  | false=>exact ⟨x,h,h1.rd (hM.now hs) (λ_ h=>.inr (.inr ⟨hs,h⟩))⟩
 | nil=>exact ⟨_,h,.sl0 _ _ _ (by first | assumption | exact λ_=>rfl | (intro h; cases h))⟩
 | own r hr =>
  simp only [A.peekT,MA.run] at h
  cases hx:st.rw r with
  | none=>simp [hx,MA.run] at h
  | some x =>
   cases x with
   | live e sz rows =>
    simp only [hx] at h;exact ⟨_,h,(hM.row r _ hx).rd _ (λ_ h=>.inl h) (λb hb=>.inr (.inl ⟨r,⟨e,sz,rows,hx⟩,hb⟩))⟩
   | frz sz rows =>
    simp only [hx] at h;exact ⟨_,h,Rd.mono (hM.row r _ hx) (λ_ _=>rfl) (λ_ h=>.inl h)⟩
   | gone=>simp [hx,MA.run] at h
 | _=>simp [A.peekT,MA.run] at h
theorem Iq{α:Type}:∀ {l:List A} {k:List T->MA α} {y:α} {vs:List Value},fi E g st w->vs.length=l.length->(∀ (j:Nat) (x:A),l[j]?=some x->∃ u,vs[j]?=some u/\VR w g st.O st.R x u)->(Dn l k).run st=some (y,st') ->
  ∃ ts,(k ts).run st=some (y,st')/\HR w (g.all st) (ts.map .t) vs []
 | [],k,y,vs,hM,hl,hv,h=>by
  have:vs=[]:=r0 hl;subst this;exact ⟨[],h,.nil⟩
 | x :: l,k,y,vs,hM,hl,hv,h=>by
  obtain ⟨v,vs,rfl⟩:∃ v vs',vs=v :: vs':=by
   cases vs with
   | nil=>simp at hl
   | cons v vs=>exact ⟨v,vs,rfl⟩
  obtain ⟨u,hu,hx⟩:=hv 0 x rfl;simp at hu;subst hu;obtain ⟨t,h1,hr⟩:=Lg hM hx h;obtain ⟨ts,h2,hc⟩:=Iq hM (by simpa using hl) (λj y hy=>by
   obtain ⟨u,hu,hx⟩:=hv (j+1) y (by simpa using hy);exact ⟨u,by simpa using hu,hx⟩) h1
  exact ⟨t :: ts,h2,.cons _ _ [] _ _ [] (.t _ _ hr) hc⟩
mutual
theorem QN{α:Type}:∀ (x:A) {k:V->MA α} {y:α} {v:Value},fi E g st w->VR w g st.O st.R x v->(iy x k).run st=some (y,st')->∃ c,(k c).run st=some (y,st')/\VV w (g.all st) c v []:=by
 intro x k y v hM hv h;unfold iy at h
 split at h
 ·rename_i l
  cases hv with
  | agg l vs hl hx =>
   obtain ⟨ts,h1,hc⟩:=Iq hM hl.symm (λj x hj=>⟨_,sX (by rw [<- hl]; exact (List.getElem?_eq_some_iff.1 hj).1),hx j x _ hj (sX (by rw [<- hl]; exact (List.getElem?_eq_some_iff.1 hj).1))⟩) h;exact ⟨_,h1,.agg _ vs [] hc⟩
 ·rename_i ts
  cases hv with
  | fadr cells b off u hF hx hr=>exact ⟨_,h,.fptr ts b off u (.inl hF) hx (λj x hj=>(hr j x hj).mono (λ_ _=>rfl) (λ_ h=>.inl h))⟩
 ·rename_i f caps
  cases hv with
  | clo f caps vs hl hx =>
   obtain ⟨cs,h1,hc⟩:=td caps hM hl.symm (λj x hj=>⟨_,sX (by rw [<- hl]; exact (List.getElem?_eq_some_iff.1 hj).1),hx j x _ hj (sX (by rw [<- hl]; exact (List.getElem?_eq_some_iff.1 hj).1))⟩) h;exact ⟨_,h1,.clo f cs vs [] hc⟩
 ·obtain ⟨t,h1,hr⟩:=Lg hM hv h;exact ⟨_,h1,.one _ v [] (.t _ _ hr)⟩
theorem td{α:Type}:∀ (l:List A) {k:List V->MA α} {y:α} {vs:List Value},fi E g st w->vs.length=l.length->(∀ (j:Nat) (x:A),l[j]?=some x->∃ u,vs[j]?=some u/\VR w g st.O st.R x u)->(d9 l k).run st=some (y,st')->∃ cs,(k cs).run st=some (y,st')/\zP w (g.all st) cs vs []
 | [],k,y,vs,hM,hl,hv,h=>by
  have:vs=[]:=r0 hl;subst this;unfold d9 at h;exact ⟨[],h,.nil⟩
 | x :: l,k,y,vs,hM,hl,hv,h=>by
  obtain ⟨v,vs,rfl⟩:∃ v vs',vs=v :: vs':=by
   cases vs with
   | nil=>simp at hl
   | cons v vs=>exact ⟨v,vs,rfl⟩
  obtain ⟨u,hu,hx⟩:=hv 0 x rfl;simp at hu;subst hu;unfold d9 at h;obtain ⟨c,h1,hc⟩:=QN x hM hx h;obtain ⟨cs,h2,hcs⟩:=td l hM (by simpa using hl) (λj y hy=>by
   obtain ⟨u,hu,hx⟩:=hv (j+1) y (by simpa using hy);exact ⟨u,by simpa using hu,hx⟩) h1
  exact ⟨c :: cs,h2,.cons _ _ [] _ _ [] hc hcs⟩
end
theorem Rd.sc{F F':Nat->Prop}{x:T}{v:Value}(h:Rd w F x v)(hx:x.sc=true):Rd w F' x v:=by
 cases h with
 | int k n=>exact .int k n
 | bool b=>exact .bool b
 | str s=>exact .str s
 | nilf=>exact .nilf
 | hdr a n c=>exact .hdr a n c
 | sl0 | sl=>cases hx
theorem CV.plain{F F':Nat->Prop}{c:C}{v:Value}{bs:List Nat}(h:CV w F c v bs)(hc:c.plain):CV w F' c v bs:=by
 cases h with
 | t x v h=>exact .t x v (h.sc hc)
 | nil=>exact .nil
 | ow e sz rows v inner ho hr =>
  exact .ow e sz rows v inner ho ⟨hr.size,hr.len,λi row j x hi hj=>by
   obtain ⟨u,hu,h1,h2⟩:=hr.rd i row j x hi hj;exact ⟨u,hu,h1,h2.sc (hc row (zQQ hi) x (zQQ hj))⟩⟩
theorem HR.plain{F F':Nat->Prop}{cs:List C}{vs:List Value}{bs:List Nat}(h:HR w F cs vs bs)(hc:∀ c∈cs,c.plain):HR w F' cs vs bs:=by
 induction h with
 | nil=>exact .nil
 | cons c v b cs vs bs h hs ih=>exact .cons c v b cs vs bs (h.plain (hc c (by simp))) (ih (λc h=>hc c (by simp [h])))
mutual
theorem VV.plain{F F':Nat->Prop}:∀ {x:V} {v:Value} {bs:List Nat},VV w F x v bs->x.plain->VV w F' x v bs
 | _,_,_,.one c v bs h,hp=>.one c v bs (h.plain (by unfold V.plain at hp; exact hp))
 | _,_,_,.agg l vs bs h,hp=>.agg l vs bs (h.plain (by unfold V.plain at hp; exact hp))
 | _,_,_,.tup l vs bs h,hp=>.tup l vs bs (h.plain (by unfold V.plain at hp; exact hp))
 | _,_,_,.ptr cells b arr e vs bs h1 h2 h3 h,hp=>by unfold V.plain at hp; exact hp.elim
 | _,_,_,.fptr cells b off u h1 h2 h3,hp=>by unfold V.plain at hp; exact hp.elim
 | _,_,_,.clo f caps vs bs h,hp=>by unfold V.plain at hp; exact hp.elim
theorem zP.plain{F F':Nat->Prop}:∀ {l:List V} {vs:List Value} {bs:List Nat},zP w F l vs bs->rY l->zP w F' l vs bs
 | _,_,_,.nil,hp=>.nil
 | _,_,_,.cons x v b l vs bs h hs,hp=>.cons x v b l vs bs (h.plain (by unfold rY at hp; exact hp.1)) (hs.plain (by unfold rY at hp; exact hp.2))
end
theorem Ni{n d f:Nat}{o:Oper}{xf:Operand}{args:Array Operand}{ts:Array TypeId}{caps as:List A}{vs:List V}{res:V}{x:A}
  (hS:iJ E g n st a w) (ho:o.op=.call { callee:=.value xf,args,argTypes:=ts }) (hf:st.eval xf=some (.clo f caps)) (kT:dt (args.toList.map st.eval)=some as)
  (hp:(d9 (as++caps) MA.ret).run st=some (vs,st)) (hc:aJ P f vs res []) (hpl:res.plain) (hr:(V.toA d (fh d 0) res MA.ret).run st=some (x,st')) :
  uR P o a w λv w'=>∃ g',uP E g st w x st' v g' w':=by
 have hM:=hS.mem;obtain ⟨hcl,hcc⟩:=hc;have hvf:=bT hS hf;generalize hvv:a.eval xf=vf at hvf
 cases hvf with
 | clo f caps vcaps hl hx =>
  refine i3 ho hvv hcl ?_;obtain ⟨ha1,ha2⟩:=wZ hS kT;obtain ⟨cs,h1,hVV⟩:=td (vs:=args.toList.map a.eval++vcaps) (as++caps) hM (by simp [<- ha1,hl]) (λj y hj=>by
   rw [zWG] at hj
   split at hj
   ·rename_i hlt;have hlt':j < (args.toList.map a.eval).length:=by rw [<- ha1]; exact hlt
    exact ⟨_,by rw [zQW hlt']; exact sX hlt',ha2 j y _ hj (sX hlt')⟩
   ·rename_i hge;have hlt:j - as.length < vcaps.length:=by rw [<- hl]; exact (List.getElem?_eq_some_iff.1 hj).1
    exact ⟨_,by rw [zQX (by rw [<- ha1]; omega),<- ha1]; exact sX hlt,hx _ y _ hj (sX hlt)⟩) hp
  obtain ⟨rfl,_⟩:=fj h1;refine (hcc w (g.all st) _ [] (λb hb=>?_) hVV List.nodup_nil (by simp) (hM.tbW λb _ _ _ h=>by cases h)).mono λe w' ⟨v,F',bv,bo,he,hcalm,hsame,hFF,hF',hvr,hO,hnd,hex⟩=>⟨v,he,?_⟩
  ·exact hM.all_lt hb
  obtain ⟨hM2,hE2⟩:=hM.grow hcalm (λb hb=>hsame b hb (by simp));have hbv:∀ b∈bv,w.heap.size<=b:=λb hb=>((hex b (by simp [hb])).2).resolve_right (by simp);obtain ⟨x',st3,g3,hG,h7,hvx⟩:=tc (w:=w') res hM2 (hvr.plain (F':=g.F) hpl) (List.nodup_append.1 hnd).1 (λb hb=>by
   obtain ⟨h8,h9,h10⟩:=rV hM (hbv b hb);exact ⟨h8,h9,h10,.inl (zWx hM.sizes (hbv b hb))⟩) hr
  obtain ⟨rfl,rfl⟩:=fj h7;exact ⟨g3,hG.mem,hvx,hE2.trans hG.ext,hG.tm⟩
def RO(P:Program)(f:FuncId)(args:List V)(off:Nat)(outs:List (List C)):Prop :=
 rX P f/\∀ (w:World) (F:Nat->Prop) (vs:List Value) (bs:List Nat),(∀ b,F b->b < w.heap.size)->zP w F args vs bs->bs.Nodup->(∀ b∈bs,¬ F b)->Kh P w (λb=>b∈bs) ->
  Calls P f vs.toArray w λe w'=>∃ v F' bo b0,e=.returned v/\vs.head?=some (.pointer (some ⟨b0,0,none⟩))/\v=.pointer (some ⟨b0,off,none⟩)/\qU w w'/\(∀ b,b < w.heap.size->b∉bs->w'.heap[b]?=w.heap[b]?)/\(∀ b,F b->F' b) /\
   (∀ b,F' b->b < w'.heap.size/\(b < w.heap.size->F b\/b∈bs)/\(F b\/Wr w' b))/\pt w' F' args vs outs bo/\bo.Nodup/\∀ b∈bo,¬ F' b/\(w.heap.size<=b\/b∈bs)
theorem Nj{n d f:Nat}{m:Bool}{p:Nat->Bool}{o:Oper}{xf:Operand}{args:Array Operand}{ts:Array TypeId}{caps as:List A}{vs:List V}{st1:St}{outs:List (List C)}{x:A}{s off:Nat}
  (hS:iJ E g n st a w) (ho:o.op=.call { callee:=.value xf,args,argTypes:=ts }) (hf:st.eval xf=some (.clo f caps)) (kT:dt (args.toList.map st.eval)=some as)
  (hp:(kc m p (as++caps) MA.ret).run st=some (vs,st1)) (hc:RO P f vs off outs) (hhd:(as++caps).head?=some (.obj s 0)) (hr:(dO d (d8 (as++caps)) outs (MA.ret (.obj s off))).run st1=some (x,st')) :
  uR P o a w λv w'=>∃ g',uP E g st w x st' v g' w':=by
 have hM:=hS.mem;obtain ⟨hcl,hcc⟩:=hc;have hvf:=bT hS hf;generalize hvv:a.eval xf=vf at hvf
 cases hvf with
 | clo f caps vcaps hl hx =>
  refine i3 ho hvv hcl ?_;obtain ⟨ha1,ha2⟩:=wZ hS kT;have hus:∀ (j:Nat) (y:A),(as++caps)[j]?=some y->∃ v,(args.toList.map a.eval++vcaps)[j]?=some v/\VR w g st.O st.R y v:=by
   intro j y hj;rw [zWG] at hj
   split at hj
   ·rename_i hlt;have hlt':j < (args.toList.map a.eval).length:=by rw [<- ha1]; exact hlt
    exact ⟨_,by rw [zQW hlt']; exact sX hlt',ha2 j y _ hj (sX hlt')⟩
   ·rename_i hge;have hlt:j - as.length < vcaps.length:=by rw [<- hl]; exact (List.getElem?_eq_some_iff.1 hj).1
    exact ⟨_,by rw [zQX (by rw [<- ha1]; omega),<- ha1]; exact sX hlt,hx _ y _ hj (sX hlt)⟩
  obtain ⟨cs,st1',g1,bs,hM1,hE1,hL1,h1,hVV,hT,hA,hsl⟩:=ta (vs:=args.toList.map a.eval++vcaps) (as++caps) hM (by simp [<- ha1,hl]) hus hp;obtain ⟨rfl,rfl⟩:=fj h1;have hbsX:∀ b∈bs,b < E.w0.heap.size->E.X b:=λb hb hlt=>by
   rcases hT.of b hb with ⟨r,h2,_,h4⟩ | ⟨s,⟨c,cs,h2⟩,_,h4⟩
   ·rcases (hM.row_nf h2 h4).2 with h5 | h5
    ·omega
    ·exact h5
   ·rcases (hM.ob_nf (s:=s) (by simp [St.O,h2])).2 with h5 | h5
    ·omega
    ·exact h4 ▸ h5
  refine (hcc w g1.F _ bs (λb hb=>(hM1.F b hb).1) hVV hT.nodup hT.nf (hM.tbW λb h1 h2 _ h3=>h2 (hbsX b h3 h1))).mono λe w' ⟨v,F',bo,b0,he,hhead,hveq,hcalm,hsame,hFF,hF',hO,hnd0,hex0⟩=>⟨v,he,?_⟩;obtain ⟨bv,hbv⟩:∃ bv:List Nat,bv=[]:=⟨[],rfl⟩;have hnd:(bv++bo).Nodup:=by rw [hbv]; exact hnd0
  have hex:∀ b∈bv++bo,¬ F' b/\(w.heap.size<=b\/b∈bs):=by rw [hbv]; exact hex0
  -- the caller's memory behind the call
  have hbsrow:∀ b∈bs,∀ r,st1.L r->(g1.rw r).ownBlock≠some b:=λb hb r hr he=>by
   rw [hL1.rw] at he;rcases hT.of b hb with ⟨r',h2,h3,h4⟩ | ⟨s,⟨c,cs,h2⟩,_,h4⟩
   ·exact h3 (hM.rowne r r' b (hL1.L r hr) h2 he h4 ▸ hr)
   ·exact hM.rowob r s (hL1.L r hr) (by simp [St.O,h2]) (h4 ▸ he)
  have hbsob:∀ b∈bs,∀ s,st1.O s->g1.ob s=b->st1.ob s=some []/\s∈d8 (as++caps):=λb hb s hs he=>by
   rw [hL1.ob] at he;have hs':st.O s:=(hL1.O s).1 hs;rcases hT.of b hb with ⟨r',h2,h3,h4⟩ | ⟨s',⟨c,cs,h2⟩,h3,h4⟩
   ·exact absurd (he ▸ h4) (hM.rowob r' s h2 hs')
   ·have:=hM.obne s s' hs' (by simp [St.O,h2]) (he.trans h4.symm);subst this;exact ⟨h3,hsl s (by rw [h3,h2]; simp)⟩
  have hF0:∀ b,b < w.heap.size->F' b->g1.F b\/b∈bs:=λb h2 h3=>(hF' b h3).2.1 h2;have hA1:oF g1 (as++caps) vs (args.toList.map a.eval++vcaps):=hA.congr' hL1.ob;have hexF:∀ b∈bs,F' b->False\/True:=λ_ _ _=>.inr trivial;have hlentF:∀ s,s∈d8 (as++caps)->g1.ob s∈bo:=pt.mem hA1 hO;obtain ⟨hM2,hE2⟩:=hM1.step (w':=w') (g':={ g1 with F:=F' }) (st':=st1) hcalm (λb=>b∈bs) (λb h2 h3=>hsame b h2 h3) (λb hb=>hT.nf b hb) (λb h2 h3=>hbsX b h3 h2) hFF
   (λb h2 h3=>⟨(hF' b h2).1,λhlt=>(hF0 b (zQj hlt hM1.sizes) h2).elim (λh4=>absurd h4 h3) (λh4=>.inr (hbsX b h4 hlt)),.inr ((hF' b h2).2.2.resolve_left h3)⟩) (λ_ h=>⟨h,rfl⟩) (λ_ h=>⟨h,rfl⟩)
   (λs cells hs=>by
    have hOs:st1.O s:=by simp [St.O,hs]
    by_cases hb:g1.ob s∈bs
    ·obtain ⟨h5,h6⟩:=hbsob _ hb s hOs rfl;rw [hs] at h5
     cases h5
     obtain ⟨arr,e,hh⟩:=A6 hA1 hO s h6;refine .inr ⟨arr,e,hh,by simp,by simp,?_,(hM1.ob_nf hOs).2⟩;exact (hex _ (List.mem_append.2 (.inr (hlentF s h6)))).1
    ·refine .inl ⟨hs,hb,λhf=>?_⟩;rcases hF0 _ (hM1.ob_lt hOs) hf with h5 | h5
     ·exact (hM1.ob_nf hOs).1 h5
     ·exact hb h5) hM1.obne
   (λr x hr=>.inl ⟨hr,λhL b hb=>⟨λhm=>hbsrow b hm r hL hb,λhf=>by
    rcases hF0 b (hM1.row_lt hL hb) hf with h5 | h5
    ·exact (hM1.row_nf hL hb).1 h5
    ·exact hbsrow b h5 r hL hb⟩⟩) hM1.rowne hM1.rowob
  have hI:Inv E { g1 with F:=F' } st1 (d8 (as++caps)) (bo++bv):=by
   have hm:∀ x,x∈bo++bv->x∈bv++bo:=λx hx=>by
    rcases List.mem_append.1 hx with h | h <;> simp [h]
   refine ⟨?_,λb hb=>(hex b (hm b hb)).1,λb hb=>?_,λb hb r hr he=>?_,λb hb s hs he=>?_⟩
   ·rw [zXy] at hnd ⊢;exact ⟨hnd.2.1,hnd.1,λx hx y hy h=>hnd.2.2 y hy x hx h.symm⟩
   ·rcases (hex b (hm b hb)).2 with h5 | h5
    ·exact .inl (zWx hM1.sizes h5)
    ·by_cases hlt:b < E.w0.heap.size
     ·exact .inr (hbsX b h5 hlt)
     ·exact .inl (by omega)
   ·rcases (hex b (hm b hb)).2 with h5 | h5
    ·exact absurd (hM1.row_lt hr he) (by omega)
    ·exact hbsrow b h5 r hr he
   ·rcases (hex b (hm b hb)).2 with h5 | h5
    ·exact absurd (hM1.ob_lt hs) (by have:g1.ob s=b:=he; omega)
    ·exact (hbsob b h5 s hs he).2
  have hA2:oF { g1 with F:=F' } (as++caps) vs (args.toList.map a.eval++vcaps):=hA1.congr' (g:=g1) (g1:={ g1 with F:=F' }) rfl;obtain ⟨st2,g2,hM3,hE3,hF3,ht3,h6,hI3⟩:=pu (w:=w') hM2 hA2 hO hI hr;obtain ⟨rfl,rfl⟩:=fj h6;have hext:=(hE1.trans hE2).trans hE3;have hobj:st.O s/\(args.toList.map a.eval++vcaps)[0]?=some (.pointer (some ⟨g.ob s,0,none⟩)):=by
   obtain ⟨u,hu1,hu2⟩:=hus 0 (.obj s 0) (by rw [<- List.head?_eq_getElem?]; exact hhd)
   cases hu2 with
   | obj _ _ hs=>exact ⟨hs,hu1⟩
  have hb0:g.ob s=b0:=by
   rw [List.head?_eq_getElem?,hobj.2] at hhead;injection hhead with h; injection h with h; injection h with h; injection h
  obtain ⟨hO2,hob2⟩:=hext.O s hobj.1;refine ⟨g2,hM3,?_,hext,ht3.trans hL1.tm⟩;rw [hveq,<- hb0,<- hob2];exact .obj s off hO2
def nR(P:Program)(f:FuncId)(args:List V)(res:V):Prop :=
 rX P f/\∀ (w:World) (D:Nat->Prop) (vs:List Value),(∀ b,D b->b < w.heap.size)->zP w D args vs []->Kh P w (λ_=>False) ->
  Calls P f vs.toArray w λe w'=>∃ v F' bv,e=.returned v/\qU w w'/\(∀ b,b < w.heap.size->w'.heap[b]?=w.heap[b]?) /\
   (∀ b,F' b->b < w'.heap.size/\w.heap.size<=b/\Wr w' b)/\VV w' F' res v bv/\bv.Nodup/\∀ b∈bv,¬ F' b/\w.heap.size<=b
theorem Nk{n d f:Nat}{o:Oper}{xf:Operand}{args:Array Operand}{ts:Array TypeId}{caps as:List A}{vs:List V}{res:V}{x:A}
  (hS:iJ E g n st a w) (ho:o.op=.call { callee:=.value xf,args,argTypes:=ts }) (hf:st.eval xf=some (.clo f caps)) (kT:dt (args.toList.map st.eval)=some as)
  (hp:(d9 (as++caps) MA.ret).run st=some (vs,st)) (hc:nR P f vs res) (hr:(V.toA d (fh d 0) res MA.ret).run st=some (x,st')) :
  uR P o a w λv w'=>∃ g',uP E g st w x st' v g' w':=by
 have hM:=hS.mem;obtain ⟨hcl,hcc⟩:=hc;have hvf:=bT hS hf;generalize hvv:a.eval xf=vf at hvf
 cases hvf with
 | clo f caps vcaps hl hx =>
  refine i3 ho hvv hcl ?_;obtain ⟨ha1,ha2⟩:=wZ hS kT;obtain ⟨cs,h1,hVV⟩:=td (vs:=args.toList.map a.eval++vcaps) (as++caps) hM (by simp [<- ha1,hl]) (λj y hj=>by
   rw [zWG] at hj
   split at hj
   ·rename_i hlt;have hlt':j < (args.toList.map a.eval).length:=by rw [<- ha1]; exact hlt
    exact ⟨_,by rw [zQW hlt']; exact sX hlt',ha2 j y _ hj (sX hlt')⟩
   ·rename_i hge;have hlt:j - as.length < vcaps.length:=by rw [<- hl]; exact (List.getElem?_eq_some_iff.1 hj).1
    exact ⟨_,by rw [zQX (by rw [<- ha1]; omega),<- ha1]; exact sX hlt,hx _ y _ hj (sX hlt)⟩) hp
  obtain ⟨rfl,_⟩:=fj h1;refine (hcc w (g.all st) _ (λb hb=>hM.all_lt hb) hVV (hM.tbW λ_ _ _ _ h=>h)).mono λe w' ⟨v,F',bv,he,hcalm,hsame,hF',hvr,hnd,hex⟩=>⟨v,he,?_⟩;obtain ⟨hM2,hE2⟩:=hM.step (w':=w') (g':={ g with F:=λb=>g.F b\/F' b }) (st':=st) hcalm (λ_=>False) (λb h1 _=>hsame b h1) (λ_ h=>h.elim) (λ_ _ h=>h.elim) (λ_ h=>.inl h)
   (λb h1 h2=>by
    obtain ⟨h3,h4,h5⟩:=hF' b (h1.resolve_left h2);exact ⟨h3,λhlt=>(by have:=hM.sizes; omega),.inr h5⟩) (λ_ h=>⟨h,rfl⟩) (λ_ h=>⟨h,rfl⟩)
   (λs cells hs=>.inl ⟨hs,id,λhf=>by
    have hs':st.O s:=by simp [St.O,hs]
    rcases hf with hf | hf
    ·exact (hM.ob_nf hs').1 hf
    ·have:=hM.ob_lt hs'; have:=(hF' _ hf).2.1; omega⟩) hM.obne
   (λr x hr=>.inl ⟨hr,λhL b hb'=>⟨id,λhf=>by
    rcases hf with hf | hf
    ·exact (hM.row_nf hL hb').1 hf
    ·have:=hM.row_lt hL hb'; have:=(hF' _ hf).2.1; omega⟩⟩) hM.rowne hM.rowob
  obtain ⟨x',st3,g3,hG,h7,hvx⟩:=tc (w:=w') res hM2 (hvr.mono (λ_ _=>rfl) (λ_ h=>.inr h) (λ_ _=>rfl)) hnd (λb hb=>by
   obtain ⟨h8,h9,h10⟩:=rV hM (hex b hb).2;exact ⟨λh=>h.elim h8 (hex b hb).1,h9,h10,.inl (zWx hM.sizes (hex b hb).2)⟩) hr
  obtain ⟨rfl,rfl⟩:=fj h7;exact ⟨g3,hG.mem,hvx,hE2.trans hG.ext,hG.tm⟩
def Lh:Nat->Prop:=λ_=>False
def gM(w:World)(D:Nat->Prop):Gh:={ F:=Lh,ob:=λ_=>0,rw:=λ_=>.nilFunc,D:=D,dw:=w,sh:=true }
def A.mk1:A->Bool
 | .t x=>x.sc
 | .ext true _=>true
 | .undef=>true
 | _=>false
def A.mk:A->Bool
 | .agg l=>l.all A.mk1
 | a=>a.mk1
def A.isX:A->Bool
 | .ext true _=>true
 | _=>false
def A.hasX:A->Bool
 | .agg l=>l.any A.isX
 | a=>a.isX
def VG(P:Program)(f:FuncId)(as:List A)(n:T):Prop :=
 n.sc=true/\rX P f/\∀ (w:World) (D:Nat->Prop) (vs:List Value),(∀ b,D b->b < w.heap.size/\Wr w b)->vs.length=as.length ->
  (∀ (j:Nat) (x:A),as[j]?=some x->∃ u,vs[j]?=some u/\VR w (gM w D) Lh Lh x u)->Kh P w D ->
  Calls P f vs.toArray w λe w'=>∃ v,e=.returned v/\Rd w' Lh n v/\qU w w'/\(∀ b,b < w.heap.size->¬ D b->w'.heap[b]?=w.heap[b]?)/\∀ b,D b->KS w w' b
theorem RP{O R:Nat->Prop}{x:A}{v:Value}(hM:fi E g st w)(hs:g.sh=true)(h:VR w g O R x v)(hk:x.mk1=true):VR w (gM w g.D) Lh Lh x v:=by
 cases h with
 | t x v h=>exact .t x v (h.sc hk)
 | ext s x v hs' h =>
  rw [hs] at hs';subst hs';exact .ext true x v rfl (h.ks λb hb=>hM.nowK hs hb)
 | undef v=>exact .undef v
 | _=>simp [A.mk1] at hk
theorem U7{O R:Nat->Prop}{x:A}{v:Value}(hM:fi E g st w)(hs:g.sh=true)(h:VR w g O R x v)(hk:x.mk=true):VR w (gM w g.D) Lh Lh x v:=by
 cases x with
 | agg l =>
  cases h with
  | agg l vs hl h=>exact .agg l vs hl λi x v hi hv=>RP hM hs (h i x v hi hv) (List.all_eq_true.1 hk x (zQQ hi))
 | _=>exact RP hM hs h hk
theorem To{O R:Nat->Prop}{x:A}{v:Value}(h:VR w g O R x v)(hk:x.hasX=true):g.sh=true:=by
 have key:∀ {x:A} {v:Value},VR w g O R x v->x.isX=true->g.sh=true:=by
  intro x v h hk
  cases h with
  | ext s x v hs' h=>cases s with
   | true=>exact hs'
   | false=>cases hk
  | _=>cases hk
 cases x with
 | agg l =>
  cases h with
  | agg l vs hl h =>
   obtain ⟨x,hx,hk⟩:=List.any_eq_true.1 hk;obtain ⟨i,hi⟩:=zZY hx;have hlt:i < vs.length:=by rw [<- hl]; exact (List.getElem?_eq_some_iff.1 hi).1
   exact key (h i x _ hi (sX hlt)) hk
 | _=>exact key h hk
theorem Nl{n f:Nat}{o:Oper}{xf:Operand}{args:Array Operand}{ts:Array TypeId}{as:List A}{r:T}
  (hS:iJ E g n st a w) (ho:o.op=.call { callee:=.value xf,args,argTypes:=ts }) (hf:st.eval xf=some (.clo f [])) (kT:dt (args.toList.map st.eval)=some as)
  (hk:as.all A.mk=true) (hx:as.any A.hasX=true) (hc:VG P f as r):uR P o a w λv w'=>∃ g',uP E g st w (.t r) st v g' w':=by
 have hM:=hS.mem;obtain ⟨hsc,hcl,hcc⟩:=hc;have hvf:=bT hS hf;generalize hvv:a.eval xf=vf at hvf;obtain ⟨ha1,ha2⟩:=wZ hS kT;have hsh:g.sh=true:=by
  obtain ⟨x,hxm,hxx⟩:=List.any_eq_true.1 hx;obtain ⟨i,hi⟩:=zZY hxm;have hlt:i < (args.toList.map a.eval).length:=by rw [<- ha1]; exact (List.getElem?_eq_some_iff.1 hi).1
  exact To (ha2 i x _ hi (sX hlt)) hxx
 cases hvf with
 | clo f caps vcaps hl hx' =>
  have:vcaps=[]:=r0 hl.symm;subst this;refine i3 ho hvv hcl ?_;rw [zWY];refine (hcc w g.D (args.toList.map a.eval) (λb hb=>?_) ha1.symm (λj x hj=>?_) (hM.tbW λb _ _ h h2=>h (by obtain ⟨h5,_,h6⟩:=hM.dep0.1; exact ⟨h6 ▸ hsh,h5 ▸ h2⟩))).mono λe w' ⟨v,he,hr,hcalm,hsame,hks⟩=>⟨v,he,?_⟩
  ·exact ⟨zQj (hM.dep b hb).2.1 hM.sizes,(hM.nowK hsh hb).wr⟩
  ·have hlt:j < (args.toList.map a.eval).length:=by rw [<- ha1]; exact (List.getElem?_eq_some_iff.1 hj).1
   exact ⟨_,sX hlt,U7 hM hsh (ha2 j x _ hj (sX hlt)) (List.all_eq_true.1 hk x (zQQ hj))⟩
  obtain ⟨hM2,hE2⟩:=hM.stepD hsh hcalm hsame hks;exact ⟨g,hM2,.t _ _ (hr.sc hsc),hE2,rfl⟩
def VH(P:Program)(f:FuncId)(e sz:Nat)(rows:List (List T))(args:List V)(res:T)(rows':List (List T)):Prop :=
 res.sc=true/\rX P f/\∀ (w:World) (F:Nat->Prop) (v:Value) (vs:List Value) (inner:List Value),(∀ b,F b->b < w.heap.size)->w.ownsRow 0 e sz v rows.length inner->yv w F sz rows inner ->
  (∀ b,v.ownBlock=some b->¬ F b)->zP w F args vs []->Kh P w (λb=>v.ownBlock=some b) ->
  Calls P f (v :: vs).toArray w λex w'=>∃ u inner',ex=.returned u/\Rd w' Lh res u/\qU w w'/\(∀ b,b < w.heap.size->v.ownBlock≠some b->w'.heap[b]?=w.heap[b]?) /\
   w'.ownsRow 0 e sz v rows'.length inner'/\yv w' F sz rows' inner'
theorem Nm{n f r e sz:Nat}{rows rows':List (List T)}{o:Oper}{xf:Operand}{args:Array Operand}{ts:Array TypeId}{as:List A}{vs:List V}{res:T}
  (hS:iJ E g n st a w) (ho:o.op=.call { callee:=.value xf,args,argTypes:=ts }) (hf:st.eval xf=some (.clo f [])) (kT:dt (args.toList.map st.eval)=some (.own r :: as))
  (hrw:st.rw r=some (.live e sz rows)) (hp:(d9 as MA.ret).run st=some (vs,st)) (hpl:rY vs) (hc:VH P f e sz rows vs res rows') :
  uR P o a w λv w'=>∃ g',uP E g st w (.t res) { st with rw:=eG st.rw r (some (.live e sz rows')) } v g' w':=by
 have hM:=hS.mem;obtain ⟨hsc,hcl,hcc⟩:=hc;have hvf:=bT hS hf;generalize hvv:a.eval xf=vf at hvf;obtain ⟨ha1,ha2⟩:=wZ hS kT;have hL:st.L r:=⟨e,sz,rows,hrw⟩
 cases hvf with
 | clo f caps vcaps hl hx' =>
  have:vcaps=[]:=r0 hl.symm;subst this;refine i3 ho hvv hcl ?_;rw [zWY];generalize args.toList.map a.eval=us at ha1 ha2
  match us,ha1 with
  | u0 :: us,ha1 =>
   have h0:=ha2 0 (.own r) u0 rfl rfl
   cases h0 with
   | own _ hR =>
   obtain ⟨cs,h1,hVV⟩:=td (vs:=us) as hM (by simpa using ha1.symm) (λj y hj=>by
    have hlt:j < us.length:=by
     have:=(List.getElem?_eq_some_iff.1 hj).1;simp at ha1; omega
    exact ⟨_,sX hlt,ha2 (j+1) y _ (by simpa using hj) (by simp)⟩) hp
   obtain ⟨rfl,_⟩:=fj h1;obtain ⟨inner,hown,hRC,_⟩:=(hM.row r _ hrw).rcs;refine (hcc w g.F (g.rw r) us inner (λb hb=>(hM.F b hb).1) hown hRC (λb hb=>(hM.row_nf hL hb).1) (hVV.plain hpl) (hM.tbW λb h1 h2 _ h3=>(hM.row_nf hL h3).2.elim (λh=>absurd h1 (Nat.not_lt.2 h)) h2)).mono λex w' ⟨u,inner',he,hu,hcalm,hsame,hown',hRC'⟩=>⟨u,he,?_⟩;obtain ⟨hM2,hE2⟩:=hM.set_row hcalm r _ e sz rows' hrw hL hsame (hRC'.rowAt (E:=E) (g:=g) hown' (λb hb=>hM.row_nf hL hb));exact ⟨g,hM2,.t _ _ (hu.sc hsc),hE2,rfl⟩
end
section
variable {P:Program} {E:En} [Tb P E] {g:Gh} {st st':St} {a:Act} {w:World}
def L3(P:Program)(f:FuncId)(args xs:List V)(res:V)(outs:List (List C)):Prop :=
 rX P f/\∀ (w:World) (F D:Nat->Prop) (vs us:List Value) (bs:List Nat),(∀ b,F b->b < w.heap.size)->(∀ b,D b->b < w.heap.size/\b∉bs)->zP w F args vs bs->zP w D xs us []->bs.Nodup->(∀ b∈bs,¬ F b)->Kh P w (λb=>b∈bs) ->
  Calls P f (vs++us).toArray w λe w'=>∃ v F' bv bo,e=.returned v/\qU w w'/\(∀ b,b < w.heap.size->b∉bs->w'.heap[b]?=w.heap[b]?)/\(∀ b,F b->F' b) /\
   (∀ b,F' b->b < w'.heap.size/\(b < w.heap.size->F b\/b∈bs)/\(F b\/Wr w' b))/\VV w' F' res v bv/\pt w' F' args vs outs bo/\(bv++bo).Nodup/\∀ b∈bv++bo,¬ F' b/\(w.heap.size<=b\/b∈bs)
theorem Nn{n d f:Nat}{m:Bool}{p:Nat->Bool}{o:Oper}{xf:Operand}{args:Array Operand}{ts:Array TypeId}{az caps as xs:List A}{vs us:List V}{st1:St}{res:V}{outs:List (List C)}{x:A}
  (hS:iJ E g n st a w) (ho:o.op=.call { callee:=.value xf,args,argTypes:=ts }) (hf:st.eval xf=some (.clo f caps)) (kT:dt (args.toList.map st.eval)=some az) (hcat:az++caps=as++xs)
  (hp:(kc m p as MA.ret).run st=some (vs,st1)) (hq:(d9 xs MA.ret).run st1=some (us,st1)) (hc:L3 P f vs us res outs) (hr:(dO d (d8 as) outs (V.toA d (fh d 0) res MA.ret)).run st1=some (x,st')) :
  uR P o a w λv w'=>∃ g',uP E g st w x st' v g' w':=by
 have hM:=hS.mem;obtain ⟨hcl,hcc⟩:=hc;have hvf:=bT hS hf;generalize hvv:a.eval xf=vf at hvf
 cases hvf with
 | clo f caps vcaps hl hx =>
  refine i3 ho hvv hcl ?_;obtain ⟨ha1,ha2⟩:=wZ hS kT;generalize hval:args.toList.map a.eval++vcaps=vals;have hv:∀ (j:Nat) (y:A),(as++xs)[j]?=some y->∃ u,vals[j]?=some u/\VR w g st.O st.R y u:=λj y hj=>by
   rw [<- hcat,zWG] at hj;rw [<- hval]
   split at hj
   ·rename_i hlt;have hlt':j < (args.toList.map a.eval).length:=by rw [<- ha1]; exact hlt
    exact ⟨_,by rw [zQW hlt']; exact sX hlt',ha2 j y _ hj (sX hlt')⟩
   ·rename_i hge;have hlt:j - az.length < vcaps.length:=by rw [<- hl]; exact (List.getElem?_eq_some_iff.1 hj).1
    exact ⟨_,by rw [zQX (by rw [<- ha1]; omega),<- ha1]; exact sX hlt,hx _ y _ hj (sX hlt)⟩
  have hvl:vals.length=as.length+xs.length:=by
   rw [<- hval,zQK,<- ha1,<- hl,<- zQK,hcat,zQK]
  rw [<- zXH as.length vals];obtain ⟨cs,st1',g1,bs,hM1,hE1,hL1,h1,hVV,hT,hA,hsl⟩:=ta (vs:=vals.take as.length) as hM (by simp [hvl]) (λj y hj=>by
   have hlt:j < as.length:=(List.getElem?_eq_some_iff.1 hj).1;obtain ⟨u,h5,h6⟩:=hv j y (by rw [zQW hlt]; exact hj);exact ⟨u,by rw [zQx,if_pos hlt]; exact h5,h6⟩) hp
  obtain ⟨rfl,rfl⟩:=fj h1;have hbsX:∀ b∈bs,b < E.w0.heap.size->E.X b:=λb hb hlt=>by
   rcases hT.of b hb with ⟨r,h2,_,h4⟩ | ⟨s,⟨c,cs,h2⟩,_,h4⟩
   ·rcases (hM.row_nf h2 h4).2 with h5 | h5
    ·omega
    ·exact h5
   ·rcases (hM.ob_nf (s:=s) (by simp [St.O,h2])).2 with h5 | h5
    ·omega
    ·exact h4 ▸ h5
  have hbsrow:∀ b∈bs,∀ r,st1.L r->(g1.rw r).ownBlock≠some b:=λb hb r hr he=>by
   rw [hL1.rw] at he;rcases hT.of b hb with ⟨r',h2,h3,h4⟩ | ⟨s,⟨c,cs,h2⟩,_,h4⟩
   ·exact h3 (hM.rowne r r' b (hL1.L r hr) h2 he h4 ▸ hr)
   ·exact hM.rowob r s (hL1.L r hr) (by simp [St.O,h2]) (h4 ▸ he)
  have hbsob:∀ b∈bs,∀ s,st1.O s->g1.ob s=b->st1.ob s=some []/\s∈d8 as:=λb hb s hs he=>by
   rw [hL1.ob] at he;have hs':st.O s:=(hL1.O s).1 hs;rcases hT.of b hb with ⟨r',h2,h3,h4⟩ | ⟨s',⟨c,cs,h2⟩,h3,h4⟩
   ·exact absurd (he ▸ h4) (hM.rowob r' s h2 hs')
   ·have:=hM.obne s s' hs' (by simp [St.O,h2]) (he.trans h4.symm);subst this;exact ⟨h3,hsl s (by rw [h3,h2]; simp)⟩
  obtain ⟨us',h9,hUU⟩:=td (vs:=vals.drop as.length) xs hM1 (by simp [hvl]) (λj y hj=>by
   obtain ⟨u,h5,h6⟩:=hv (as.length+j) y (by rw [zQX (by omega)]; simpa using hj);exact ⟨u,by rw [zQq]; exact h5,h6.mono hE1⟩) hq
  obtain ⟨rfl,_⟩:=fj h9;have hall:∀ b,g1.all st1 b->b < w.heap.size/\b∉bs:=λb hb=>⟨hM1.all_lt hb,λhbs=>by
   rcases hb with h5 | ⟨r,h5,h6⟩ | ⟨_,h5⟩
   ·exact hT.nf b hbs h5
   ·exact hbsrow b hbs r h5 h6
   ·obtain ⟨_,h6,h7,_⟩:=hM1.dep b h5;exact h7 (hbsX b hbs h6)⟩
  refine (hcc w g1.F (g1.all st1) _ _ bs (λb hb=>(hM1.F b hb).1) hall hVV hUU hT.nodup hT.nf (hM.tbW λb h1 h2 _ h3=>h2 (hbsX b h3 h1))).mono λe w' ⟨v,F',bv,bo,he,hcalm,hsame,hFF,hF',hvr,hO,hnd,hex⟩=>⟨v,he,?_⟩
  -- the caller's memory behind the call
  have hF0:∀ b,b < w.heap.size->F' b->g1.F b\/b∈bs:=λb h2 h3=>(hF' b h3).2.1 h2;have hA1:oF g1 as vs (vals.take as.length):=hA.congr' hL1.ob;have hexF:∀ b∈bs,F' b->False\/True:=λ_ _ _=>.inr trivial;have hlentF:∀ s,s∈d8 as->g1.ob s∈bo:=pt.mem hA1 hO;obtain ⟨hM2,hE2⟩:=hM1.step (w':=w') (g':={ g1 with F:=F' }) (st':=st1) hcalm (λb=>b∈bs) (λb h2 h3=>hsame b h2 h3) (λb hb=>hT.nf b hb) (λb h2 h3=>hbsX b h3 h2) hFF
   (λb h2 h3=>⟨(hF' b h2).1,λhlt=>(hF0 b (zQj hlt hM1.sizes) h2).elim (λh4=>absurd h4 h3) (λh4=>.inr (hbsX b h4 hlt)),.inr ((hF' b h2).2.2.resolve_left h3)⟩) (λ_ h=>⟨h,rfl⟩) (λ_ h=>⟨h,rfl⟩)
   (λs cells hs=>by
    have hOs:st1.O s:=by simp [St.O,hs]
    by_cases hb:g1.ob s∈bs
    ·obtain ⟨h5,h6⟩:=hbsob _ hb s hOs rfl;rw [hs] at h5
     cases h5
     obtain ⟨arr,e,hh⟩:=A6 hA1 hO s h6;refine .inr ⟨arr,e,hh,by simp,by simp,?_,(hM1.ob_nf hOs).2⟩;exact (hex _ (List.mem_append.2 (.inr (hlentF s h6)))).1
    ·refine .inl ⟨hs,hb,λhf=>?_⟩;rcases hF0 _ (hM1.ob_lt hOs) hf with h5 | h5
     ·exact (hM1.ob_nf hOs).1 h5
     ·exact hb h5) hM1.obne
   (λr x hr=>.inl ⟨hr,λhL b hb=>⟨λhm=>hbsrow b hm r hL hb,λhf=>by
    rcases hF0 b (hM1.row_lt hL hb) hf with h5 | h5
    ·exact (hM1.row_nf hL hb).1 h5
    ·exact hbsrow b h5 r hL hb⟩⟩) hM1.rowne hM1.rowob
  have hI:Inv E { g1 with F:=F' } st1 (d8 as) (bo++bv):=by
   have hm:∀ x,x∈bo++bv->x∈bv++bo:=λx hx=>by
    rcases List.mem_append.1 hx with h | h <;> simp [h]
   refine ⟨?_,λb hb=>(hex b (hm b hb)).1,λb hb=>?_,λb hb r hr he=>?_,λb hb s hs he=>?_⟩
   ·rw [zXy] at hnd ⊢;exact ⟨hnd.2.1,hnd.1,λx hx y hy h=>hnd.2.2 y hy x hx h.symm⟩
   ·rcases (hex b (hm b hb)).2 with h5 | h5
    ·exact .inl (zWx hM1.sizes h5)
    ·by_cases hlt:b < E.w0.heap.size
     ·exact .inr (hbsX b h5 hlt)
     ·exact .inl (by omega)
   ·rcases (hex b (hm b hb)).2 with h5 | h5
    ·exact absurd (hM1.row_lt hr he) (by omega)
    ·exact hbsrow b h5 r hr he
   ·rcases (hex b (hm b hb)).2 with h5 | h5
    ·exact absurd (hM1.ob_lt hs) (by have:g1.ob s=b:=he; omega)
    ·exact (hbsob b h5 s hs he).2
  have hA2:oF { g1 with F:=F' } as vs (vals.take as.length):=hA1.congr' (g:=g1) (g1:={ g1 with F:=F' }) rfl;obtain ⟨st2,g2,hM3,hE3,hF3,ht3,h6,hI3⟩:=pu (w:=w') hM2 hA2 hO hI hr;obtain ⟨x',st3,g3,hG,h7,hvx⟩:=tc (w:=w') res hM3 (by rw [hF3]; exact hvr) hI3.nodup (λb hb=>⟨hI3.F b hb,λs hs he=>by have:=hI3.ob b hb s hs he; simp at this,hI3.row b hb,hI3.X b hb⟩) h6;obtain ⟨rfl,rfl⟩:=fj h7;exact ⟨g3,hG.mem,hvx,((hE1.trans hE2).trans hE3).trans hG.ext,hG.tm.trans (ht3.trans hL1.tm)⟩
end
def A.tC:A->Option C
 | .t x=>some (.t x)
 | _=>none
def P8:List A->Option (List C)
 | []=>some []
 | a :: r=>match a.tC,P8 r with | some c,some cs=>some (c :: cs) | _,_=>none
def A.tV:A->Option V
 | .t x=>some (.one (.t x))
 | .agg l=>(P8 l).map .agg
 | _=>none
def No:List A->Option (List V)
 | []=>some []
 | a :: r=>match a.tV,No r with | some c,some cs=>some (c :: cs) | _,_=>none
section
variable {w:World} {g:Gh} {O R:Nat->Prop}
theorem U8{a:A}{c:C}{u:Value}(h:a.tC=some c)(hv:VR w g O R a u):CV w g.F c u []:=by
 cases a <;> simp only [A.tC,Option.some.injEq,reduceCtorEq] at h
 subst h
 cases hv with
 | t _ _ h=>exact .t _ _ h
theorem RQ:∀ {l:List A} {cs:List C} {us:List Value},P8 l=some cs->l.length=us.length->(∀ (j:Nat) (x:A) (u:Value),l[j]?=some x->us[j]?=some u->VR w g O R x u)->HR w g.F cs us []
 | [],cs,us,h,hl,_=>by
  cases h
  have:us=[]:=r0 hl.symm;subst this;exact .nil
 | a :: l,cs,us,h,hl,hv=>by
  unfold P8 at h
  split at h
  ·rename_i c cs' h1 h2
   cases h
   cases us with
   | nil=>simp at hl
   | cons u us =>
    exact .cons c u [] cs' us [] (U8 h1 (hv 0 a u rfl rfl)) (RQ h2 (by simpa using hl) λj x u h3 h4=>hv (j+1) x u (by simpa using h3) (by simpa using h4))
  ·cases h
theorem U9{a:A}{c:V}{u:Value}(h:a.tV=some c)(hv:VR w g O R a u):VV w g.F c u []:=by
 cases a <;> simp only [A.tV,Option.some.injEq,zXW,reduceCtorEq] at h
 ·subst h
  cases hv with
  | t _ _ h=>exact .one _ _ [] (.t _ _ h)
 ·obtain ⟨cs,h1,rfl⟩:=h
  cases hv with
  | agg l vs hl hx=>exact .agg cs vs [] (RQ h1 hl hx)
theorem RR:∀ {l:List A} {cs:List V} {us:List Value},No l=some cs->l.length=us.length->(∀ (j:Nat) (x:A) (u:Value),l[j]?=some x->us[j]?=some u->VR w g O R x u)->zP w g.F cs us []
 | [],cs,us,h,hl,_=>by
  cases h
  have:us=[]:=r0 hl.symm;subst this;exact .nil
 | a :: l,cs,us,h,hl,hv=>by
  unfold No at h
  split at h
  ·rename_i c cs' h1 h2
   cases h
   cases us with
   | nil=>simp at hl
   | cons u us =>
    exact .cons c u [] cs' us [] (U9 h1 (hv 0 a u rfl rfl)) (RR h2 (by simpa using hl) λj x u h3 h4=>hv (j+1) x u (by simpa using h3) (by simpa using h4))
  ·cases h
end
section
variable {P:Program} {E:En} [Tb P E] {g:Gh} {st st':St} {a:Act} {w:World}
def Ul(P:Program)(f:FuncId)(e:TypeId)(ts:List T)(rows:List (List T))(args:List V)(lo m:Nat):Prop :=
 rX P f/\∀ (w:World) (F:Nat->Prop) (v:Value) (us vs inner:List Value),(∀ b,F b->b < w.heap.size)->w.ownsRow 0 e 1 v rows.length inner->yv w F 1 rows inner->(∀ b,v.ownBlock=some b->¬ F b) ->
  us.length=ts.length->(∀ (j:Nat) (x:T) (u:Value),ts[j]?=some x->us[j]?=some u->Rd w F x u)->zP w F args vs []->Kh P w (λb=>v.ownBlock=some b) ->
  Calls P f (Value.agg (us++[v]).toArray :: vs).toArray w λex w'=>∃ ad n c a' c' inner',v=.slice ad n c/\ex=.returned (.slice a' m c')/\lo+m<=n/\(0 < m->∃ b,ad=some ⟨b,0,none⟩/\a'=some ⟨b,lo,none⟩)/\qU w w' /\
   (∀ b,b < w.heap.size->v.ownBlock≠some b->w'.heap[b]?=w.heap[b]?)/\w'.ownsRow 0 e 1 v rows.length inner'/\yv w' F 1 rows inner'
theorem Np{n f r e lo m:Nat}{ts:List T}{rows:List (List T)}{o:Oper}{xf:Operand}{args:Array Operand}{tys:Array TypeId}{as:List A}{vs:List V}
  (hS:iJ E g n st a w) (ho:o.op=.call { callee:=.value xf,args,argTypes:=tys }) (hf:st.eval xf=some (.clo f [])) (kT:dt (args.toList.map st.eval)=some (.agg (ts.map A.t++[.own r]) :: as))
  (hrw:st.rw r=some (.live e 1 rows)) (hp:No as=some vs) (hc:Ul P f e ts rows vs lo m) :
  uR P o a w λv w'=>∃ g',uP E g st w (.win r lo m) st v g' w':=by
 have hM:=hS.mem;obtain ⟨hcl,hcc⟩:=hc;have hvf:=bT hS hf;generalize hvv:a.eval xf=vf at hvf;obtain ⟨ha1,ha2⟩:=wZ hS kT;have hL:st.L r:=⟨e,1,rows,hrw⟩
 cases hvf with
 | clo f caps vcaps hl hx' =>
  have:vcaps=[]:=r0 hl.symm;subst this;refine i3 ho hvv hcl ?_;rw [zWY];generalize args.toList.map a.eval=us at ha1 ha2
  match us,ha1 with
  | u0 :: us,ha1 =>
   have h0:=ha2 0 _ u0 rfl rfl
   cases h0 with
   | agg _ cells hcl hcx =>
    have hlen:cells.length=ts.length+1:=by rw [<- hcl]; simp
    obtain ⟨us0,v,hcells,hus⟩:∃ us0 v,cells=us0++[v]/\us0.length=ts.length:=⟨cells.take ts.length,cells[ts.length]'(by omega),by
     rw [show [cells[ts.length]'(by omega)]=cells.drop ts.length by rw [zXv (by omega)]; simp [List.drop_eq_nil_of_le (show cells.length<=ts.length+1 by omega)],zXH],by simp; omega⟩
    subst hcells;have hv:=hcx ts.length (.own r) v (by simp) (by rw [<- hus]; simp)
    cases hv with
    | own _ hR =>
    have hVV:zP w g.F vs us []:=RR hp (by simpa using ha1) λj x u h3 h4=>ha2 (j+1) x u (by simpa using h3) (by simpa using h4);have hts:∀ (j:Nat) (x:T) (u:Value),ts[j]?=some x->us0[j]?=some u->Rd w g.F x u:=λj x u h3 h4=>by
     have hlt:j < ts.length:=(List.getElem?_eq_some_iff.1 h3).1;have:=hcx j (.t x) u (by rw [zQW (by simpa using hlt)]; simp [h3]) (by rw [zQW (by omega)]; exact h4)
     cases this with
     | t _ _ h=>exact h
    obtain ⟨inner,hown,hRC,_⟩:=(hM.row r _ hrw).rcs;refine (hcc w g.F (g.rw r) us0 us inner (λb hb=>(hM.F b hb).1) hown hRC (λb hb=>(hM.row_nf hL hb).1) hus hts hVV (hM.tbW λb h1 h2 _ h3=>(hM.row_nf hL h3).2.elim (λh=>absurd h1 (Nat.not_lt.2 h)) h2)).mono λex w' ⟨ad,n',c,a',c',inner',hv,he,hm,hpp,hcalm,hsame,hown',hRC'⟩=>⟨_,he,?_⟩;obtain ⟨hM2,hE2⟩:=hM.set_row hcalm r _ e 1 rows hrw hL hsame (hRC'.rowAt (E:=E) (g:=g) hown' (λb hb=>hM.row_nf hL hb));rw [HQ hrw] at hM2 hE2;exact ⟨g,hM2,.win r lo m n' c c' ad a' hR hv hm hpp,hE2,rfl⟩
end
end Go.Tm
namespace Go.Tm
open Go.RowKit
structure OU where
 oR:Nat->Prop
 oW:Nat->Prop
 rR:Nat->Prop
 rW:Nat->Prop
def MA.In{α:Type}(D:OU):MA α->Prop
 | .ret _=>True
 | .fail=>True
 | .getOb s k=>D.oR s/\∀ x,(k x).In D
 | .getRw r k=>D.rR r/\∀ x,(k x).In D
 | .setOb s _ k=>D.oW s/\k.In D
 | .setRw r _ k=>D.rW r/\k.In D
structure OL (D:OU) (st st':St):Prop where
 tm:st'.tm=st.tm
 ob:∀ s,¬ D.oW s->st'.ob s=st.ob s
 rw:∀ r,¬ D.rW r->st'.rw r=st.rw r
structure On (D:OU) (st st':St):Prop where
 ob:∀ s,D.oR s->st'.ob s=st.ob s
 rw:∀ r,D.rR r->st'.rw r=st.rw r
structure OU.ok (D:OU):Prop where
 ob:∀ s,D.oW s->D.oR s
 rw:∀ s,D.rW s->D.rR s
theorem OL.refl(D:OU)(st:St):OL D st st:=⟨rfl,λ_ _=>rfl,λ_ _=>rfl⟩
theorem OL.trans{D:OU}{a b c:St}(h:OL D a b)(h':OL D b c):OL D a c :=
 ⟨h'.tm.trans h.tm,λs hs=>(h'.ob s hs).trans (h.ob s hs),λs hs=>(h'.rw s hs).trans (h.rw s hs)⟩
theorem OV{α:Type}{f g:Nat->α}{k j:Nat}{c:α}(h:f j=g j):eG f k c j=eG g k c j:=by
 simp only [eG,h]
theorem mB{α:Type}{D:OU}:∀ (m:MA α) {st st':St} {x:α},m.In D->m.run st=some (x,st') ->
  OL D st st'/\∀ st2,On D st st2->∃ st2',m.run st2=some (x,st2')/\OL D st2 st2'/\On D st' st2'
 | .ret v,st,st',x,_,h=>by
  obtain ⟨rfl,rfl⟩:=fj h;exact ⟨OL.refl _ _,λst2 h2=>⟨st2,rfl,OL.refl _ _,h2⟩⟩
 | .fail,st,st',x,_,h=>(aK h).elim
 | .getOb s k,st,st',x,hi,h=>by
  obtain ⟨h1,h2⟩:=mB (k (st.ob s)) (hi.2 _) h;refine ⟨h1,λst2 ho=>?_⟩;simp only [MA.run,ho.ob s hi.1];exact h2 st2 ho
 | .getRw s k,st,st',x,hi,h=>by
  obtain ⟨h1,h2⟩:=mB (k (st.rw s)) (hi.2 _) h;refine ⟨h1,λst2 ho=>?_⟩;simp only [MA.run,ho.rw s hi.1];exact h2 st2 ho
 | .setOb s c k,st,st',x,hi,h=>by
  simp only [MA.run] at h;obtain ⟨h1,h2⟩:=mB k hi.2 h;refine ⟨⟨h1.tm,λs' hs'=>?_,h1.rw⟩,λst2 ho=>?_⟩
  ·rw [h1.ob s' hs'];exact ci _ _ _ _ (λhe=>hs' (he ▸ hi.1))
  ·obtain ⟨st2',h3,h4,h5⟩:=h2 { st2 with ob:=eG st2.ob s (some c) } ⟨λs' hs'=>OV (ho.ob s' hs'),ho.rw⟩;refine ⟨st2',h3,⟨h4.tm,λs' hs'=>?_,h4.rw⟩,h5⟩;rw [h4.ob s' hs'];exact ci _ _ _ _ (λhe=>hs' (he ▸ hi.1))
 | .setRw s c k,st,st',x,hi,h=>by
  simp only [MA.run] at h;obtain ⟨h1,h2⟩:=mB k hi.2 h;refine ⟨⟨h1.tm,h1.ob,λs' hs'=>?_⟩,λst2 ho=>?_⟩
  ·rw [h1.rw s' hs'];exact ci _ _ _ _ (λhe=>hs' (he ▸ hi.1))
  ·obtain ⟨st2',h3,h4,h5⟩:=h2 { st2 with rw:=eG st2.rw s (some c) } ⟨ho.ob,λs' hs'=>OV (ho.rw s' hs')⟩;refine ⟨st2',h3,⟨h4.tm,h4.ob,λs' hs'=>?_⟩,h5⟩;rw [h4.rw s' hs'];exact ci _ _ _ _ (λhe=>hs' (he ▸ hi.1))
mutual
def A.inR(Q:Nat->Prop):A->Prop
 | .own r=>Q r
 | .elem r _ _ _=>Q r
 | .sub r _ _=>Q r
 | .win r _ _=>Q r
 | .agg l=>eZ Q l
 | .tup l=>eZ Q l
 | .clo _ l=>eZ Q l
 | _=>True
def eZ(Q:Nat->Prop):List A->Prop
 | []=>True
 | a :: r=>a.inR Q/\eZ Q r
end
mutual
theorem A7{Q:Nat->Prop}(h:∀ r,Q r):∀ a:A,a.inR Q
 | .own r=>by unfold A.inR; exact h r
 | .elem r _ _ _=>by unfold A.inR; exact h r
 | .sub r _ _=>by unfold A.inR; exact h r
 | .win r _ _=>by unfold A.inR; exact h r
 | .agg l=>by unfold A.inR; exact oG h l
 | .tup l=>by unfold A.inR; exact oG h l
 | .clo _ l=>by unfold A.inR; exact oG h l
 | .t _ | .nil | .obj _ _ | .fadr _ | .nn _ _ | .undef | .raw _ | .osl _ _ _ _ | .ext _ _ | .exa _ _ | .shp _=>by unfold A.inR; trivial
theorem oG{Q:Nat->Prop}(h:∀ r,Q r):∀ l:List A,eZ Q l
 | []=>by unfold eZ; trivial
 | a :: r=>by unfold eZ; exact ⟨A7 h a,oG h r⟩
end
theorem Ir{Q:Nat->Prop}:∀ {l:List A},eZ Q l->∀ a∈l,a.inR Q
 | [],_,a,h=>by simp at h
 | x :: l,hl,a,h=>by
  unfold eZ at hl;rcases List.mem_cons.1 h with rfl | h
  ·exact hl.1
  ·exact Ir hl.2 a h
theorem pv{Q:Nat->Prop}:∀ {l:List A},(∀ a∈l,a.inR Q)->eZ Q l
 | [],_=>by unfold eZ; trivial
 | x :: l,h=>by unfold eZ; exact ⟨h x (by simp),pv (λa ha=>h a (by simp [ha]))⟩
theorem yB{Q:Nat->Prop}{a:A}(h:a.inR Q):eZ Q a.cells:=by
 cases a <;> simp only [A.cells] <;> first | (unfold A.inR at h; exact h) | (unfold eZ; exact ⟨h,by unfold eZ; trivial⟩)
section
variable {D:OU} {α:Type}
theorem OW{a:A}{k:T->MA α}(ha:a.inR λr=>D.rR r/\D.rW r)(hk:∀ x,(k x).In D):(a.toT k).In D:=by
 cases a <;> simp only [A.toT,MA.In] <;> first | exact hk _ | trivial | skip
 unfold A.inR at ha;refine ⟨ha.1,λx=>?_⟩;rcases x with _ | (_ | _ | _) <;> simp only [MA.In] <;> first | exact hk _ | exact ⟨ha.2,hk _⟩
theorem A8:∀ {l:List A} {k:List T->MA α},eZ (λr=>D.rR r/\D.rW r) l->(∀ x,(k x).In D)->(A.toTs l k).In D
 | [],k,_,hk=>hk []
 | a :: l,k,hl,hk=>by
  unfold eZ at hl;exact OW hl.1 λx=>A8 hl.2 λxs=>hk _
theorem Do{Q:Nat->Prop}{lb:List Nat}{l:List A}(h:eZ Q l):eZ Q (kM lb l) :=
 pv λa ha=>by
  obtain ⟨j,hj⟩:=zZY ha;obtain ⟨y,h1,h2⟩:=E2 lb l j a hj;rcases h2 with rfl | ⟨_,n,rfl⟩
  ·exact Ir h _ (zQQ h1)
  ·unfold A.inR; trivial
theorem Nq{lb:List Nat}{sz:Nat}:∀ {ps:List (Nat×A)} {rows:List (List T)} {k:List (List T)->MA α},(∀ q∈ps,q.2.inR λr=>D.rR r/\D.rW r)->(∀ x,(k x).In D)->(Ic lb sz rows ps k).In D
 | [],rows,k,_,hk=>hk _
 | (i,x) :: r,rows,k,hl,hk=>by
  unfold Ic
  split
  ·exact A8 (Do (yB (hl (i,x) (by simp)))) λts=>Nq (λq hq=>hl q (by simp [hq])) hk
  ·trivial
theorem Dp{a:A}{k:Nat->List (List T)->MA α}(ha:a.inR D.rR)(hk:∀ n x,(k n x).In D):(a.rows k).In D:=by
 unfold A.rows
 split <;> first | exact hk _ _ | trivial | skip
 ·split <;> first | exact hk _ _ | trivial
 ·unfold A.inR at ha;refine ⟨ha,λx=>?_⟩;rcases x with _ | (_ | _ | _) <;> first | exact hk _ _ | trivial
theorem Dq{r e sz:Nat}{rows:List (List T)}(h:D.rR r/\D.rW r):(uF r e sz rows).In D:=by
 refine ⟨h.1,λx=>?_⟩
 cases x <;> first | exact ⟨h.2,trivial⟩ | trivial
theorem P9{d:Nat}{cells:List A}(h:D.oR d/\D.oW d):(M3 d cells).In D:=by
 refine ⟨h.1,λx=>?_⟩
 cases x <;> simp only
 ·split <;> first | exact ⟨h.2,trivial⟩ | trivial
 ·trivial
theorem qV{m:Bool}{a:A}{k:C->MA α}(ha:a.inR λr=>D.rR r/\D.rW r)(hk:∀ x,(k x).In D):(a.toC m k).In D:=by
 unfold A.toC
 split
 ·unfold A.inR at ha;refine ⟨ha.1,λx=>?_⟩;rcases x with _ | (_ | _ | _) <;> first | exact hk _ | exact ⟨ha.2,hk _⟩ | trivial
 ·exact hk _
 ·exact OW ha λx=>hk _
theorem L4{m:Bool}:∀ {l:List A} {k:List C->MA α},eZ (λr=>D.rR r/\D.rW r) l->(∀ x,(k x).In D)->(Cd m l k).In D
 | [],k,_,hk=>hk []
 | a :: l,k,hl,hk=>by
  unfold eZ at hl;exact qV hl.1 λx=>L4 hl.2 λxs=>hk _
mutual
theorem RS{m:Bool}:∀ {a:A} {k:V->MA α},a.inR (λr=>D.rR r/\D.rW r)->(∀ x,(k x).In D)->(nX m a k).In D
 | .agg l,k,ha,hk=>by unfold A.inR at ha; unfold nX; exact L4 ha λ_=>hk _
 | .fadr l,k,ha,hk=>by unfold nX; exact hk _
 | .clo f l,k,ha,hk=>by unfold A.inR at ha; unfold nX; exact L5 ha λ_=>hk _
 | .tup l,k,ha,hk=>by unfold A.inR at ha; unfold nX; exact L5 ha λ_=>hk _
 | .t x,k,ha,hk=>by unfold nX; exact qV ha λ_=>hk _
 | .nn _ _,k,ha,hk=>by unfold nX; exact qV ha λ_=>hk _
 | .nil,k,ha,hk=>by unfold nX; exact qV ha λ_=>hk _
 | .own x,k,ha,hk=>by unfold nX; exact qV ha λ_=>hk _
 | .obj _ _,k,ha,hk=>by unfold nX; exact qV ha λ_=>hk _
 | .elem _ _ _ _,k,ha,hk=>by unfold nX; exact qV ha λ_=>hk _
 | .win _ _ _,k,ha,hk=>by unfold nX; exact qV ha λ_=>hk _
 | .sub _ _ _,k,ha,hk=>by unfold nX; exact qV ha λ_=>hk _
 | .undef,k,ha,hk=>by unfold nX; exact qV ha λ_=>hk _
 | .raw _,k,ha,hk=>by unfold nX; exact qV ha λ_=>hk _
 | .osl _ _ _ _,k,ha,hk=>by unfold nX; exact qV ha λ_=>hk _
 | .ext _ _,k,ha,hk=>by unfold nX; exact qV ha λ_=>hk _
 | .exa _ _,k,ha,hk=>by unfold nX; exact qV ha λ_=>hk _
 | .shp _,k,ha,hk=>by unfold nX; exact qV ha λ_=>hk _
theorem L5{m:Bool}:∀ {l:List A} {k:List V->MA α},eZ (λr=>D.rR r/\D.rW r) l->(∀ x,(k x).In D)->(yx m l k).In D
 | [],k,_,hk=>by unfold yx; exact hk _
 | a :: l,k,hl,hk=>by unfold eZ at hl; unfold yx; exact RS hl.1 λx=>L5 hl.2 λxs=>hk _
end
theorem QO{s:Nat}{k:List C->MA α}(ho:D.oR s/\D.oW s)(ha:∀ r,D.rR r/\D.rW r)(hk:∀ x,(k x).In D):(Ac s k).In D:=by
 refine ⟨ho.1,λx=>?_⟩;rcases x with _ | (_ | ⟨c,cells⟩) <;> simp only <;> first | exact L4 (oG ha _) λx=>⟨ho.2,hk _⟩ | trivial
theorem OX{s:Nat}{k:List C->MA α}(ho:D.oR s/\D.oW s)(hk:∀ x,(k x).In D):(Dm s k).In D:=by
 refine ⟨ho.1,λx=>?_⟩;rcases x with _ | (_ | ⟨c,cells⟩) <;> simp only <;> first | trivial | skip
 split <;> first | exact ⟨ho.2,hk _⟩ | trivial
def A.argIn(D:OU)(p:Nat->Bool):A->Prop
 | .obj s 0=>(D.oR s/\D.oW s)/\(p s=false->∀ r,D.rR r/\D.rW r)
 | a=>a.inR λr=>D.rR r/\D.rW r
theorem Ds{m:Bool}{p:Nat->Bool}:∀ {l:List A} {k:List V->MA α},(∀ a∈l,a.argIn D p)->(∀ x,(k x).In D)->(kc m p l k).In D
 | [],k,_,hk=>by unfold kc; exact hk _
 | a :: l,k,hl,hk=>by
  have h0:=hl a (by simp);have ih:∀ {k:List V->MA α},(∀ x,(k x).In D)->(kc m p l k).In D:=λh=>Ds (λa ha=>hl a (by simp [ha])) h;unfold kc
  split
  ·rename_i heq; cases heq
  ·rename_i heq;injection heq with h1 h2
   subst h1 h2;unfold A.argIn at h0
   split
   ·exact OX h0.1 λx=>ih λ_=>hk _
   ·rename_i hp;exact QO h0.1 (h0.2 (by simpa using hp)) λx=>ih λ_=>hk _
  ·rename_i hna heq;injection heq with h1 h2
   subst h1 h2;refine RS ?_ λx=>ih λ_=>hk _;unfold A.argIn at h0
   split at h0
   ·exact absurd rfl (hna _)
   ·exact h0
theorem jK{a:A}{k:T->MA α}(ha:a.inR D.rR)(hk:∀ x,(k x).In D):(a.peekT k).In D:=by
 unfold A.peekT
 split <;> first | exact hk _ | trivial | skip
 unfold A.inR at ha;refine ⟨ha,λx=>?_⟩;rcases x with _ | (_ | _ | _) <;> first | exact hk _ | trivial
theorem Li:∀ {l:List A} {k:List T->MA α},eZ D.rR l->(∀ x,(k x).In D)->(Dn l k).In D
 | [],k,_,hk=>hk []
 | a :: l,k,hl,hk=>by
  unfold eZ at hl;exact jK hl.1 λx=>Li hl.2 λxs=>hk _
mutual
theorem RT:∀ {a:A} {k:V->MA α},a.inR D.rR->(∀ x,(k x).In D)->(iy a k).In D
 | .agg l,k,ha,hk=>by unfold A.inR at ha; unfold iy; exact Li ha λ_=>hk _
 | .fadr l,k,ha,hk=>by unfold iy; exact hk _
 | .clo f l,k,ha,hk=>by unfold A.inR at ha; unfold iy; exact pz ha λ_=>hk _
 | .tup l,k,ha,hk=>by unfold iy; exact jK ha λ_=>hk _
 | .t x,k,ha,hk=>by unfold iy; exact jK ha λ_=>hk _
 | .nn _ _,k,ha,hk=>by unfold iy; exact jK ha λ_=>hk _
 | .nil,k,ha,hk=>by unfold iy; exact jK ha λ_=>hk _
 | .own x,k,ha,hk=>by unfold iy; exact jK ha λ_=>hk _
 | .obj _ _,k,ha,hk=>by unfold iy; exact jK ha λ_=>hk _
 | .elem _ _ _ _,k,ha,hk=>by unfold iy; exact jK ha λ_=>hk _
 | .win _ _ _,k,ha,hk=>by unfold iy; exact jK ha λ_=>hk _
 | .sub _ _ _,k,ha,hk=>by unfold iy; exact jK ha λ_=>hk _
 | .undef,k,ha,hk=>by unfold iy; exact jK ha λ_=>hk _
 | .raw _,k,ha,hk=>by unfold iy; exact jK ha λ_=>hk _
 | .osl _ _ _ _,k,ha,hk=>by unfold iy; exact jK ha λ_=>hk _
 | .ext _ _,k,ha,hk=>by unfold iy; exact jK ha λ_=>hk _
 | .exa _ _,k,ha,hk=>by unfold iy; exact jK ha λ_=>hk _
 | .shp _,k,ha,hk=>by unfold iy; exact jK ha λ_=>hk _
theorem pz:∀ {l:List A} {k:List V->MA α},eZ D.rR l->(∀ x,(k x).In D)->(d9 l k).In D
 | [],k,_,hk=>by unfold d9; exact hk _
 | a :: l,k,hl,hk=>by unfold eZ at hl; unfold d9; exact RT hl.1 λx=>pz hl.2 λxs=>hk _
end
variable {d:Nat}
theorem RU{id:Nat}{c:C}{k:A->MA α}(hd:∀ r,r / 65536=d->D.rR r/\D.rW r)(hk:∀ x,(k x).In D):(c.toA d id k).In D:=by
 cases c <;> simp only [C.toA] <;> first | exact hk _ | skip
 split
 ·rename_i h;refine ⟨(hd _ h).1,λx=>?_⟩
  cases x <;> first | exact ⟨(hd _ h).2,hk _⟩ | trivial
 ·trivial
theorem HS(hd:∀ r,r / 65536=d->D.rR r/\D.rW r):∀ {l:List C} {id:Nat} {k:List A->MA α},(∀ x,(k x).In D)->(E4 d id l k).In D
 | [],id,k,hk=>hk []
 | a :: l,id,k,hk=>RU hd λx=>HS hd λxs=>hk _
mutual
theorem Dt(hd:∀ r,r / 65536=d->D.rR r/\D.rW r)(ho:D.oR d/\D.oW d):∀ {v:V} {id:Nat} {k:A->MA α},(∀ x,(k x).In D)->(V.toA d id v k).In D
 | .one c,id,k,hk=>by unfold V.toA; exact RU hd hk
 | .agg l,id,k,hk=>by unfold V.toA; exact HS hd λ_=>hk _
 | .tup l,id,k,hk=>by unfold V.toA; exact Is hd ho λ_=>hk _
 | .ptr l,id,k,hk=>by
  unfold V.toA;refine HS hd λ_=>⟨ho.1,λx=>?_⟩
  cases x <;> first | exact ⟨ho.2,hk _⟩ | trivial
 | .fptr l,id,k,hk=>by unfold V.toA; exact hk _
 | .clo f l,id,k,hk=>by unfold V.toA; exact Is hd ho λ_=>hk _
theorem Is(hd:∀ r,r / 65536=d->D.rR r/\D.rW r)(ho:D.oR d/\D.oW d):∀ {l:List V} {id:Nat} {k:List A->MA α},(∀ x,(k x).In D)->(yy d id l k).In D
 | [],id,k,hk=>by unfold yy; exact hk _
 | a :: l,id,k,hk=>by unfold yy; exact Dt hd ho λx=>Is hd ho λxs=>hk _
end
theorem wz(hd:∀ r,r / 65536=d->D.rR r/\D.rW r):∀ {ss:List Nat} {os:List (List C)} {k:MA α},(∀ s∈ss,D.oR s/\D.oW s)->k.In D->(dO d ss os k).In D
 | [],[],k,_,hk=>hk
 | s :: ss,c :: cs,k,hs,hk=>by
  unfold dO;refine HS hd λx=>⟨(hs s (by simp)).1,λy=>?_⟩
  cases y <;> first | exact ⟨(hs s (by simp)).2,wz hd (λs h=>hs s (by simp [h])) hk⟩ | trivial
 | [],_ :: _,k,_,hk=>trivial
 | _ :: _,[],k,_,hk=>trivial
theorem Ad{p:Nat->Bool}:∀ {l:List A},(∀ a∈l,a.argIn D p)->∀ s∈d8 l,D.oR s/\D.oW s
 | [],_,s,h=>by simp [d8] at h
 | a :: l,hl,s,h=>by
  have h0:=hl a (by simp);unfold d8 at h
  split at h
  ·rename_i heq; cases heq
  ·rename_i heq;injection heq with h1 h2
   subst h1 h2;rcases List.mem_cons.1 h with rfl | h
   ·exact h0.1
   ·exact Ad (λa ha=>hl a (by simp [ha])) s h
  ·rename_i heq;injection heq with h1 h2
   subst h1 h2;exact Ad (λa ha=>hl a (by simp [ha])) s h
end
end Go.Tm
namespace Go.Tm
open Go.RowKit
def kT(l:Option (List Nat))(k:Nat):Prop:=match l with | none=>True | some l=>k∈l
def CR(a b:Option (List Nat)):Option (List Nat):=match a,b with | some a,some b=>some (a++b) | _,_=>none
def Bu:List (Option (List Nat))->Option (List Nat)
 | []=>some []
 | a :: r=>CR a (Bu r)
theorem ma{a b:Option (List Nat)}{k:Nat}:kT (CR a b) k↔kT a k\/kT b k:=by
 cases a <;> cases b <;> simp [CR,kT]
theorem It{l:List (Option (List Nat))}{k:Nat}:∀ {x},x∈l->kT x k->kT (Bu l) k:=by
 induction l with
 | nil=>intro x h; simp at h
 | cons y l ih =>
  intro x h hx;unfold Bu;rcases List.mem_cons.1 h with rfl | h
  ·exact ma.2 (.inl hx)
  ·exact ma.2 (.inr (ih h hx))
def eh.rows:eh->Option (List Nat)
 | .frz | .obj _=>some []
 | .own d=>some [d]
 | .el d=>some [d]
 | .win d=>some [d]
 | _=>none
def eh.objs:eh->Option (List Nat)
 | .obj s=>some [s]
 | .any=>none
 | _=>some []
def wg(ρ:Nat->eh):Operand->eh
 | .tmp t=>ρ t
 | _=>.frz
structure Fp where
 oR:Option (List Nat)
 oW:Option (List Nat)
 rR:Option (List Nat)
 rW:Option (List Nat)
def Fp.dom(f:Fp):OU:=⟨kT f.oR,kT f.oW,λr=>kT f.rR (r / 65536),λr=>kT f.rW (r / 65536)⟩
def eh.isObj:eh->Bool
 | .obj _=>true
 | _=>false
def tu(p:Nat->Bool):eh->Option (List Nat)
 | .obj s=>if p s then some [] else none
 | r=>r.rows
def kv:Option Nat->Option (List Nat)
 | some d=>some [d]
 | none=>some []
def cr(ρ:Nat->eh)(o:Oper):Option (List Nat):=Bu (o.op.operands.toList.map λx=>(wg ρ x).rows)
def dq(p:Nat->Bool)(ρ:Nat->eh)(o:Oper):Fp :=
 match o.op with
 | .alloc _=>⟨kv o.dst,kv o.dst,some [],some []⟩
 | .box ..=>⟨kv o.dst,kv o.dst,cr ρ o,cr ρ o⟩
 | .buildSlice .. | .makeSlice ..=>⟨some [],some [],CR (cr ρ o) (kv o.dst),CR (cr ρ o) (kv o.dst)⟩
 | .load _ a=>⟨(wg ρ a).objs,some [],(wg ρ a).rows,some []⟩
 | .store _ a _=>if (wg ρ a).isObj then ⟨(wg ρ a).objs,(wg ρ a).objs,some [],some []⟩ else ⟨(wg ρ a).objs,(wg ρ a).objs,cr ρ o,cr ρ o⟩
 | .slice ..=>⟨some [],some [],CR (cr ρ o) (kv o.dst),CR (cr ρ o) (kv o.dst)⟩
 | .call { callee:=.builtin .copy,.. } | .call { callee:=.builtin .clear,.. }=>⟨some [],some [],cr ρ o,cr ρ o⟩
 | .indexAddr .. | .convert .. | .call { callee:=.builtin .len,.. }=>⟨some [],some [],cr ρ o,some []⟩
 | .call { callee:=.builtin .append,.. }=>⟨some [],some [],CR (cr ρ o) (kv o.dst),CR (cr ρ o) (kv o.dst)⟩
 | .call { callee:=.value _,.. } =>
  ⟨CR (Bu (o.op.operands.toList.map λx=>(wg ρ x).objs)) (kv o.dst),CR (Bu (o.op.operands.toList.map λx=>(wg ρ x).objs)) (kv o.dst),
   CR (Bu (o.op.operands.toList.map λx=>tu p (wg ρ x))) (kv o.dst),CR (Bu (o.op.operands.toList.map λx=>tu p (wg ρ x))) (kv o.dst)⟩
 | _=>⟨some [],some [],some [],some []⟩
theorem HT(p:Nat->Bool)(ρ:Nat->eh)(o:Oper):(dq p ρ o).dom.ok:=by
 unfold dq
 split
 all_goals first | exact ⟨λ_ h=>h,λ_ h=>h⟩ | (split <;> exact ⟨λ_ h=>h,λ_ h=>h⟩) | exact ⟨λ_ h=>by simp [Fp.dom,kT] at h,λ_ h=>by simp [Fp.dom,kT] at h⟩
structure Vt (ρ:Nat->eh) (x:Operand) (a:A):Prop where
 rows:a.inR λr=>kT (wg ρ x).rows (r / 65536)
 objs:∀ s off,a=.obj s off->kT (wg ρ x).objs s
 isob:(wg ρ x).isObj=true->∃ s off,a=.obj s off
theorem QP{r:eh}{a:A}(h:r.fits a=true)(hr:r.isObj=true):∃ s off,a=.obj s off:=by
 cases r <;> cases a <;> simp [eh.fits,eh.isObj] at h hr ⊢
theorem Lj{Q:Nat->Prop}{a:A}(h:a.leafy=true):a.inR Q:=by
 cases a <;> first | (unfold A.inR; trivial) | (simp [A.leafy] at h)
theorem Nr{r:eh}{a:A}(h:r.fits a=true):(a.inR λi=>kT r.rows (i / 65536))/\∀ s off,a=.obj s off->kT r.objs s:=by
 by_cases hag:∃ l,r=.frz/\a=.agg l
 ·obtain ⟨l,rfl,rfl⟩:=hag;refine ⟨?_,λs off h=>by cases h⟩;unfold A.inR;exact pv λx hx=>Lj (List.all_eq_true.1 h x hx)
 by_cases hag2:∃ d l,r=.own d/\a=.agg l
 ·obtain ⟨d,l,rfl,rfl⟩:=hag2;refine ⟨?_,λs off h=>by cases h⟩;unfold A.inR;refine pv λx hx=>?_;have:=List.all_eq_true.1 h x hx
  cases x with
  | own r=>unfold A.inR; simpa [eh.rows,kT] using this
  | _=>exact Lj this
 cases r <;> cases a <;> (try simp [eh.fits,eh.rows,eh.objs,kT] at h hag ⊢) <;> (try exact absurd ⟨_,_,rfl,rfl⟩ hag2) <;>
  first
   | exact A7 (λ_=>trivial) _
   | (unfold A.inR; first | trivial | simp [h])
   | (refine ⟨by unfold A.inR; trivial,?_⟩; intro s off h1 h2; simp [<- h1,h])
   | skip
theorem BA{Q:Nat->Prop}:∀ {l:List (Option A)} {r:List A},(∀ y∈l,∀ a,y=some a->a.inR Q)->dt l=some r->eZ Q r:=by
 intro l r hl h;have:=Di h;subst this;exact pv λa ha=>hl (some a) (List.mem_map.2 ⟨a,ha,rfl⟩) a rfl
theorem yC{Q:Nat->Prop}{v:Value}{a:A}(h:m6 v=some a):a.inR Q:=by
 unfold m6 at h
 split at h <;> cases h <;> (unfold A.inR; trivial)
theorem Ae{Q:Nat->Prop}{v:Value}{a:A}(h:A.ofValue v=some a):(a.inR Q)/\∀ s off,a≠.obj s off:=by
 unfold A.ofValue at h
 split at h
 ·split at h
  ·rename_i l hl
   cases h
   refine ⟨?_,λ_ _ h=>by cases h⟩;unfold A.inR;exact BA (λy hy a he=>by
    obtain ⟨v,_,hv⟩:=List.mem_map.1 hy;exact yC (hv.trans he)) hl
  ·cases h
 ·cases h
  exact ⟨by unfold A.inR; trivial,λs off he=>by cases he⟩
 ·refine ⟨yC h,λs off he=>?_⟩;subst he;unfold m6 at h
  split at h <;> cases h
theorem Lk{P:Program}{Q:Nat->Prop}{t:TypeId}{z:List A}(h:rU P t=some z):eZ Q z:=by
 unfold rU at h
 split at h
 ·exact BA (λy hy a he=>by
   obtain ⟨v,_,hv⟩:=List.mem_map.1 hy;exact yC (hv.trans he)) h
 ·cases h
theorem RV{ρ:Nat->eh}{st:St}{o:Oper}(hf:eY ρ st o=true){x:Operand}{a:A}(hx:x∈o.op.operands.toList)(h:st.eval x=some a):Vt ρ x a:=by
 cases x with
 | tmp t =>
  simp only [St.eval,Option.some.injEq] at h;subst h;have:=List.all_eq_true.1 hf _ hx;exact ⟨(Nr this).1,(Nr this).2,λh=>QP this h⟩
 | const v=>exact ⟨(Ae h).1,λs off he=>absurd he ((Ae (Q:=λ_=>True) h).2 s off),λh=>by simp [wg,eh.isObj] at h⟩
 | func f =>
  simp only [St.eval,Option.some.injEq] at h;subst h;exact ⟨by unfold A.inR; unfold eZ; trivial,λs off he=>(by cases he),λh=>by simp [wg,eh.isObj] at h⟩
 | global _=>cases h
mutual
theorem ii{Q Q':Nat->Prop}(h:∀ r,Q r->Q' r):∀ {a:A},a.inR Q->a.inR Q'
 | .own r,hq=>by unfold A.inR at hq ⊢; exact h _ hq
 | .elem r _ _ _,hq=>by unfold A.inR at hq ⊢; exact h _ hq
 | .sub r _ _,hq=>by unfold A.inR at hq ⊢; exact h _ hq
 | .win r _ _,hq=>by unfold A.inR at hq ⊢; exact h _ hq
 | .agg l,hq=>by unfold A.inR at hq ⊢; exact A9 h hq
 | .tup l,hq=>by unfold A.inR at hq ⊢; exact A9 h hq
 | .clo _ l,hq=>by unfold A.inR at hq ⊢; exact A9 h hq
 | .t _,_ | .nil,_ | .obj _ _,_ | .fadr _,_ | .nn _ _,_ | .undef,_ | .raw _,_ | .osl _ _ _ _,_ | .ext _ _,_ | .exa _ _,_ | .shp _,_=>by unfold A.inR; trivial
theorem A9{Q Q':Nat->Prop}(h:∀ r,Q r->Q' r):∀ {l:List A},eZ Q l->eZ Q' l
 | [],_=>by unfold eZ; trivial
 | a :: r,hq=>by unfold eZ at hq ⊢; exact ⟨ii h hq.1,A9 h hq.2⟩
end
end Go.Tm
set_option maxHeartbeats 1000000
namespace Go.Tm
open Go.RowKit
section
variable {D:OU} {P:Program} {ρ:Nat->eh}
theorem dU{o:Oper}{x:Operand}{k:Nat}(hx:x∈o.op.operands.toList)(h:kT (wg ρ x).rows k):kT (cr ρ o) k :=
 It (List.mem_map.2 ⟨x,hx,rfl⟩) h
theorem Tp{t:TypeId}{a:A}(ho:∀ s off,a=.obj s off->D.oR s)(hr:a.inR D.rR):(EY P t a).In D:=by
 unfold EY
 split <;> try trivial
 split <;> try trivial
 ·refine ⟨ho _ _ rfl,λx=>?_⟩
  cases x <;> simp only [MA.In]
  split <;> trivial
 ·unfold A.inR at hr;refine ⟨hr,λx=>?_⟩;rcases x with _ | (_ | _ | _) <;> (try dsimp only) <;> (try trivial)
  all_goals
   split <;> try trivial
   split <;> try trivial
   split <;> trivial
 ·split <;> trivial
 ·split <;> trivial
theorem Ns{t:TypeId}{a x:A}(ho:∀ s off,a=.obj s off->D.oR s/\D.oW s)(hr:(∃ s off,a=.obj s off)\/((a.inR λr=>D.rR r/\D.rW r)/\x.inR λr=>D.rR r/\D.rW r)):(yr P t a x).In D:=by
 unfold yr
 split <;> try trivial
 split <;> try trivial
 split <;> try trivial
 ·refine ⟨(ho _ _ rfl).1,λx=>?_⟩
  cases x <;> simp only [MA.In]
  split <;> first | trivial | exact ⟨(ho _ _ rfl).2,trivial⟩
 ·rcases hr with ⟨s,off,h⟩ | ⟨h1,h2⟩
  ·cases h
  refine A8 (Do (yB h2)) λts=>?_;unfold A.inR at h1;refine ⟨h1.1,λx=>?_⟩;rcases x with _ | (_ | _ | _) <;> (try dsimp only) <;> (try trivial)
  split <;> try trivial
  split <;> try trivial
  split <;> first | trivial | exact ⟨h1.2,trivial⟩
 ·split <;> trivial
theorem QQ{a:A}{off:Nat}:(Ie a off).In D:=by
 unfold Ie
 split <;> trivial
theorem Iu{n:Nat}{i:Int}{sz:Nat}{rows:List (List T)}:(yu n i sz rows).In D:=by
 unfold yu
 split <;> try trivial
 split <;> trivial
theorem L6{t:TypeId}{x i:A}(hr:x.inR D.rR):(ka P t x i).In D:=by
 unfold ka
 split <;> try trivial
 split <;> try trivial
 split <;> try trivial
 ·exact Iu
 ·unfold Df
  split <;> try trivial
  split <;> trivial
 ·split <;> trivial
 ·unfold A.inR at hr;refine ⟨hr,λx=>?_⟩;rcases x with _ | (_ | _ | _) <;> (try dsimp only) <;> (try trivial)
  ·split <;> trivial
  ·exact Iu
theorem RW{d:Option Nat}{t:TypeId}{x:A}{hi:Option A}(hr:x.inR λr=>D.rR r/\D.rW r)(hd:∀ d',d=some d'->D.rR (fh d' 0)/\D.rW (fh d' 0)):(Dg P d t x hi).In D:=by
 unfold Dg
 split <;> try trivial
 split <;> try trivial
 unfold A.inR at hr;refine ⟨hr.1,λx=>?_⟩;rcases x with _ | (_ | _ | _) <;> (try dsimp only) <;> (try trivial)
 split <;> first | trivial | exact ⟨hr.2,Dq (hd _ rfl)⟩
theorem RX{t:TypeId}{x:A}{lo hi:Option A}(hr:x.inR λr=>D.rR r/\D.rW r):(wx P t x lo hi).In D:=by
 unfold wx
 split <;> try trivial
 ·split <;> try trivial
  split <;> trivial
 ·split <;> try trivial
  split <;> trivial
 ·split <;> try trivial
  refine OW hr λy=>?_
  split <;> try trivial
  split <;> try trivial
  split <;> try trivial
  split <;> trivial
theorem Tq{d:Option Nat}{t:TypeId}{l c:A}(hd:∀ d',d=some d'->∀ r,r / 65536=d'->D.rR r/\D.rW r):(Ih P d t l c).In D:=by
 unfold Ih
 split <;> try trivial
 split <;> try trivial
 rename_i hz
 split <;> try trivial
 refine A8 (Do (Lk hz)) λts=>?_;exact Dq (hd _ rfl _ (by unfold fh; omega))
theorem OY{d:Nat}{ts:List TypeId}{x y:A}(hd:∀ r,r / 65536=d->D.rR r/\D.rW r)(hx:x.inR λr=>D.rR r/\D.rW r)(hy:y.inR D.rR):(tX P (some d) ts x y).In D:=by
 have hm:∀ {e n:Nat} {rows:List (List T)},(uF (fh d 0) e n rows).In D:=λ{e n rows}=>Dq (hd _ (by unfold fh; omega));unfold tX
 split <;> try trivial
 rename_i d' hdd;injection hdd with hdd
 subst hdd
 split <;> try trivial
 split <;> try trivial
 split <;> try trivial
 split <;> try trivial
 refine Dp hy λn ys=>?_
 split <;> try trivial
 split <;> try trivial
 ·split <;> first | trivial | exact hm
 ·unfold A.inR at hx;refine ⟨hx.1,λx=>?_⟩;rcases x with _ | (_ | _ | _) <;> (try dsimp only) <;> (try trivial)
  split <;> first | trivial | exact ⟨hx.2,hm⟩
theorem QR{d:Option Nat}{ts:List TypeId}{x y:A}(hd:∀ d',d=some d'->∀ r,r / 65536=d'->D.rR r/\D.rW r)(hx:x.inR λr=>D.rR r/\D.rW r)(hy:y.inR D.rR):(tX P d ts x y).In D:=by
 cases d with
 | some d=>exact OY (hd d rfl) hx hy
 | none =>
  unfold tX
  split <;> first | trivial | (rename_i h; cases h)
theorem UC{t:TypeId}{x:A}{lo:Option A}(hr:x.inR λr=>D.rR r/\D.rW r):(M4 P t x lo).In D:=by
 unfold M4
 split <;> try trivial
 split <;> try trivial
 unfold A.inR at hr;refine ⟨hr.1,λx=>?_⟩;rcases x with _ | (_ | _ | _) <;> (try dsimp only) <;> (try trivial)
 split <;> trivial
theorem UD{t:TypeId}{x:A}{lo hi:Option A}(hr:x.inR λr=>D.rR r/\D.rW r):(M5 P t x lo hi).In D:=by
 unfold M5
 split <;> try trivial
 split <;> try trivial
 unfold A.inR at hr;refine ⟨hr.1,λx=>?_⟩;rcases x with _ | (_ | _ | _) <;> (try dsimp only) <;> (try trivial)
 split <;> try trivial
 split <;> trivial
theorem Tr{ts:List TypeId}{x y:A}(hx:x.inR λr=>D.rR r/\D.rW r)(hy:y.inR D.rR):(Ig P ts x y).In D:=by
 unfold Ig
 split
 ·unfold HO
  split <;> try trivial
  split <;> try trivial
  refine Dp hy λm ys=>?_
  split <;> try trivial
  unfold A.inR at hx;refine ⟨hx.1,λx=>?_⟩;rcases x with _ | (_ | _ | _) <;> (try dsimp only) <;> (try trivial)
  split <;> first | trivial | exact ⟨hx.2,trivial⟩
 rotate_left
 ·trivial
 split <;> try trivial
 split <;> try trivial
 refine Dp hy λn ys=>?_
 split <;> try trivial
 unfold A.inR at hx;refine ⟨hx.1,λx=>?_⟩;rcases x with _ | (_ | _ | _) <;> (try dsimp only) <;> (try trivial)
 split <;> first | trivial | exact ⟨hx.2,trivial⟩
theorem RY{ts:List TypeId}{x:A}(hx:x.inR λr=>D.rR r/\D.rW r):(Dh P ts x).In D:=by
 unfold Dh
 split <;> try trivial
 split <;> try trivial
 split <;> try trivial
 split <;> try trivial
 unfold A.inR at hx;refine ⟨hx.1,λx=>?_⟩;rcases x with _ | (_ | _ | _) <;> (try dsimp only) <;> (try trivial)
 split <;> first | trivial | exact ⟨hx.2,trivial⟩
theorem UE{t:TypeId}{x:A}(hr:x.inR D.rR):(Ga P t x).In D:=by
 unfold Ga
 split <;> try trivial
 exact Dp hr λ_ _=>trivial
end
theorem Ts{P:Program}{p:Nat->Bool}{ρ:Nat->eh}{st:St}{o:Oper}(h:∀ x∈o.op.operands.toList,∀ a,st.eval x=some a->Vt ρ x a):(pr P ρ st.eval o).In (dq p ρ o).dom:=by
 have hdst:∀ {d:Nat} {r:Nat},o.dst=some d->r / 65536=d->kT (CR (cr ρ o) (kv o.dst)) (r / 65536):=λh h'=>ma.2 (.inr (by rw [h]; simp [kv,kT,h']));unfold pr
 split <;> try (split <;> trivial)
 ·-- alloc
  rename_i e ho
  split <;> try trivial
  rename_i d z hd hz;have hf:dq p ρ o=⟨kv o.dst,kv o.dst,some [],some []⟩:=by simp only [dq,ho]
  rw [hf];exact P9 ⟨by simp [Fp.dom,kv,kT,hd],by simp [Fp.dom,kv,kT,hd]⟩
 ·-- box
  rename_i e x ho
  split <;> try trivial
  rename_i d v hd hv;have hx:x∈o.op.operands.toList:=by rw [ho]; simp [Op.operands]
  have hf:dq p ρ o=⟨kv o.dst,kv o.dst,cr ρ o,cr ρ o⟩:=by simp only [dq,ho]
  rw [hf]
  split
  ·refine A8 (yB (ii (λr hr=>?_) (h x hx v hv).rows)) λ_=>trivial;exact ⟨dU hx hr,dU hx hr⟩
  ·exact P9 ⟨by simp [Fp.dom,kv,kT,hd],by simp [Fp.dom,kv,kT,hd]⟩
 ·-- build
  rename_i t parts ho
  split <;> try trivial
  split <;> trivial
 ·-- buildSlice
  rename_i t n parts ho
  split <;> try trivial
  rename_i e d ps ht hd hp
  split <;> try trivial
  rename_i sz z hsz hz
  split <;> try trivial
  have hf:dq p ρ o=⟨some [],some [],CR (cr ρ o) (kv o.dst),CR (cr ρ o) (kv o.dst)⟩:=by simp only [dq,ho]
  rw [hf];refine A8 (Do (Lk hz)) λts=>Nq (λq hq=>?_) λrows=>Dq ⟨hdst hd (by unfold fh; omega),hdst hd (by unfold fh; omega)⟩;obtain ⟨hl,hg⟩:=rc hp;obtain ⟨i,hi⟩:=zZY hq;obtain ⟨⟨j,x⟩,hx,he⟩:=hg i q hi;have hxm:x∈o.op.operands.toList:=by
   rw [ho];simp only [Op.operands,zYJ];exact ⟨(j,x),zQQ hx,rfl⟩
  simp only [zXW] at he;obtain ⟨v,hv,rfl⟩:=he;exact ii (λr hr=>⟨ma.2 (.inl (dU hxm hr)),ma.2 (.inl (dU hxm hr))⟩) (h x hxm v hv).rows
 ·-- load
  rename_i t x ho
  split <;> try trivial
  rename_i a ha;have hx:x∈o.op.operands.toList:=by rw [ho]; simp [Op.operands]
  have hf:dq p ρ o=⟨(wg ρ x).objs,some [],(wg ρ x).rows,some []⟩:=by simp only [dq,ho]
  rw [hf];exact Tp (h x hx a ha).objs (h x hx a ha).rows
 ·-- store
  rename_i t x y ho
  split <;> try trivial
  rename_i a b ha hb;have hx:x∈o.op.operands.toList:=by rw [ho]; simp [Op.operands]
  have hy:y∈o.op.operands.toList:=by rw [ho]; simp [Op.operands]
  have hf:dq p ρ o=if (wg ρ x).isObj then ⟨(wg ρ x).objs,(wg ρ x).objs,some [],some []⟩ else ⟨(wg ρ x).objs,(wg ρ x).objs,cr ρ o,cr ρ o⟩:=by simp only [dq,ho]
  rw [hf]
  split
  ·rename_i hio;exact Ns (λs off he=>⟨(h x hx a ha).objs s off he,(h x hx a ha).objs s off he⟩) (.inl ((h x hx a ha).isob hio))
  ·exact Ns (λs off he=>⟨(h x hx a ha).objs s off he,(h x hx a ha).objs s off he⟩)
    (.inr ⟨ii (λr hr=>⟨dU hx hr,dU hx hr⟩) (h x hx a ha).rows,ii (λr hr=>⟨dU hy hr,dU hy hr⟩) (h y hy b hb).rows⟩)
 ·-- binOp
  split <;> try trivial
  ·split <;> trivial
  ·split <;> first | trivial | (split <;> trivial)
  ·split <;> trivial
  ·split <;> trivial
 ·-- convert
  rename_i s t x ho;have hx:x∈o.op.operands.toList:=by rw [ho]; simp [Op.operands]
  have hf:dq p ρ o=⟨some [],some [],cr ρ o,some []⟩:=by simp only [dq,ho]
  rw [hf]
  split <;> try trivial
  rename_i a _ _ ha
  split <;> try trivial
  refine Dp (ii (λr hr=>dU hx hr) (h x hx _ ha).rows) λ_ _=>?_
  split <;> trivial
 ·-- makeSlice
  rename_i t l c ho;have hf:dq p ρ o=⟨some [],some [],CR (cr ρ o) (kv o.dst),CR (cr ρ o) (kv o.dst)⟩:=by simp only [dq,ho]
  rw [hf]
  split <;> try trivial
  exact Tq λd hd r hr=>⟨hdst hd hr,hdst hd hr⟩
 ·-- slice
  rename_i t x lo hi ho;have hx:x∈o.op.operands.toList:=by rw [ho]; simp [Op.operands]
  have hf:dq p ρ o=⟨some [],some [],CR (cr ρ o) (kv o.dst),CR (cr ρ o) (kv o.dst)⟩:=by simp only [dq,ho]
  rw [hf]
  split <;> try trivial
  rename_i a _ _ ha _ _;have hq:a.inR λr=>(⟨some [],some [],CR (cr ρ o) (kv o.dst),CR (cr ρ o) (kv o.dst)⟩:Fp).dom.rR r/\(⟨some [],some [],CR (cr ρ o) (kv o.dst),CR (cr ρ o) (kv o.dst)⟩:Fp).dom.rW r :=
   ii (λr hr=>⟨ma.2 (.inl (dU hx hr)),ma.2 (.inl (dU hx hr))⟩) (h x hx _ ha).rows
  split
  ·split
   ·split
    ·exact UC hq
    ·exact UD hq
   ·exact RW hq λd hd=>⟨ma.2 (.inr (by rw [hd]; simp [kv,kT,fh,Nat.mul_div_cancel])),ma.2 (.inr (by rw [hd]; simp [kv,kT,fh,Nat.mul_div_cancel]))⟩
  ·exact RX hq
 ·-- fieldAddr
  split <;> first | trivial | exact QQ
 ·-- field
  split <;> try trivial
  split <;> try trivial
  split <;> trivial
 ·-- indexAddr
  rename_i t x i ho;have hx:x∈o.op.operands.toList:=by rw [ho]; simp [Op.operands]
  have hf:dq p ρ o=⟨some [],some [],cr ρ o,some []⟩:=by simp only [dq,ho]
  rw [hf]
  split <;> try trivial
  rename_i ha _;exact L6 (ii (λr hr=>dU hx hr) (h x hx _ ha).rows)
 ·-- index
  split <;> try trivial
  split <;> try trivial
  split <;> trivial
 ·-- extract
  split <;> try trivial
  split <;> trivial
 ·-- len
  rename_i args ats ho
  split <;> try trivial
  rename_i x t hxs hts;have hx:x∈o.op.operands.toList:=by rw [ho]; simp [Op.operands,Call.operands,hxs]
  have hf:dq p ρ o=⟨some [],some [],cr ρ o,some []⟩:=by simp only [dq,ho]
  rw [hf]
  split <;> try trivial
  rename_i ha;exact UE (ii (λr hr=>dU hx hr) (h x hx _ ha).rows)
 ·-- append
  rename_i args ats ho
  split <;> try trivial
  rename_i x y hxs;have hx:x∈o.op.operands.toList:=by rw [ho]; simp [Op.operands,Call.operands,hxs]
  have hy:y∈o.op.operands.toList:=by rw [ho]; simp [Op.operands,Call.operands,hxs]
  have hf:dq p ρ o=⟨some [],some [],CR (cr ρ o) (kv o.dst),CR (cr ρ o) (kv o.dst)⟩:=by simp only [dq,ho]
  rw [hf]
  split <;> try trivial
  rename_i ha hb;exact QR (λd hd r hr=>⟨hdst hd hr,hdst hd hr⟩) (ii (λr hr=>⟨ma.2 (.inl (dU hx hr)),ma.2 (.inl (dU hx hr))⟩) (h x hx _ ha).rows)
   (ii (λr hr=>ma.2 (.inl (dU hy hr))) (h y hy _ hb).rows)
 ·-- copy
  rename_i args ats ho
  split <;> try trivial
  rename_i x y hxs;have hx:x∈o.op.operands.toList:=by rw [ho]; simp [Op.operands,Call.operands,hxs]
  have hy:y∈o.op.operands.toList:=by rw [ho]; simp [Op.operands,Call.operands,hxs]
  have hf:dq p ρ o=⟨some [],some [],cr ρ o,cr ρ o⟩:=by simp only [dq,ho]
  rw [hf]
  split <;> try trivial
  rename_i ha hb;exact Tr (ii (λr hr=>⟨dU hx hr,dU hx hr⟩) (h x hx _ ha).rows) (ii (λr hr=>dU hy hr) (h y hy _ hb).rows)
 ·-- clear
  rename_i args ats ho
  split <;> try trivial
  rename_i x hxs;have hx:x∈o.op.operands.toList:=by rw [ho]; simp [Op.operands,Call.operands,hxs]
  have hf:dq p ρ o=⟨some [],some [],cr ρ o,cr ρ o⟩:=by simp only [dq,ho]
  rw [hf]
  split <;> try trivial
  rename_i ha;exact RY (ii (λr hr=>⟨dU hx hr,dU hx hr⟩) (h x hx _ ha).rows)
 ·split <;> try trivial
  split <;> trivial
 ·split <;> try trivial
  split <;> trivial
 ·trivial
end Go.Tm
set_option maxHeartbeats 1000000
namespace Go.Tm
open Go.RowKit
theorem OZ{P:Program}{ρ:Nat->eh}{ev ev':Operand->Option A}{o:Oper}(h:∀ x∈o.op.operands.toList,ev x=ev' x):pr P ρ ev o=pr P ρ ev' o:=by
 obtain ⟨dst,op,ty,pos,aft,gd⟩:=o
 cases op
 case call c =>
  obtain ⟨cal,args,ts⟩:=c
  cases cal with
  | value f=>simp only [pr]
  | invoke r m=>simp only [pr]
  | builtin b =>
   have h':∀ x∈args.toList,ev x=ev' x:=λx hx=>h x (by simp [Op.operands,Call.operands] at hx ⊢; exact hx)
   cases b <;> simp only [pr]
   all_goals
    split <;> try rfl
    first | (rename_i hl; rw [hl] at h') | (rename_i hl _; rw [hl] at h')
    try rw [h' _ (zQk ..)]
    try rw [h' _ (zQv _ (zQk ..))]
 case build t parts =>
  have:(parts.toList.map λ(i,x)=>(ev x).map λv=>(i,v))=parts.toList.map λ(i,x)=>(ev' x).map λv=>(i,v) :=
   zXY λq hq=>by
    have:=h q.2 (by simp only [Op.operands,zYJ]; exact ⟨q,hq,rfl⟩);simp only [this]
  simp only [pr,this]
 case buildSlice t n parts =>
  have:(parts.toList.map λ(i,x)=>(ev x).map λv=>(i,v))=parts.toList.map λ(i,x)=>(ev' x).map λv=>(i,v) :=
   zXY λq hq=>by
    have:=h q.2 (by simp only [Op.operands,zYJ]; exact ⟨q,hq,rfl⟩);simp only [this]
  simp only [pr,this]
 case makeFunc f first caps =>
  cases f <;> simp only [pr]
  have:caps.toList.map ev=caps.toList.map ev':=zXY λx hx=>h x (by simp [Op.operands] at hx ⊢; exact .inr hx);rw [this]
 case slice t x lo hi m =>
  cases m <;> simp only [pr]
  have h1:ev x=ev' x:=h x (by simp [Op.operands]);have h2:If ev lo=If ev' lo:=by
   cases lo with
   | none=>rfl
   | some l=>simp only [If]; rw [h l (by simp [Op.operands])]
  have h3:If ev hi=If ev' hi:=by
   cases hi with
   | none=>rfl
   | some l=>simp only [If]; rw [h l (by simp [Op.operands])]
  rw [h1,h2,h3]
 all_goals
  simp [Op.operands] at h;simp only [pr]
  try simp only [h]
inductive QS (P:Program) (p:Nat->Bool) (ρ:Nat->eh) (st:St) (o:Oper) (x:A) (st':St):Prop
 | plain (h:(pr P ρ st.eval o).run st=some (x,st'))
 | call (m:Bool) (d f:Nat) (xf:Operand) (args:Array Operand) (ts:Array TypeId) (caps as:List A) (vs:List V) (st1:St) (res:V) (outs:List (List C))
   (ho:o.op=.call { callee:=.value xf,args,argTypes:=ts }) (hd:o.dst=some d) (hf:st.eval xf=some (.clo f caps)) (kT:dt (args.toList.map st.eval)=some as)
   (hp:(kc m p (as++caps) MA.ret).run st=some (vs,st1)) (hc:aJ P f vs res outs) (hr:(dO d (d8 (as++caps)) outs (V.toA d (fh d 0) res MA.ret)).run st1=some (x,st'))
 | callB (d f:Nat) (xf:Operand) (args:Array Operand) (ts:Array TypeId) (caps as:List A) (vs:List V) (res:V)
   (ho:o.op=.call { callee:=.value xf,args,argTypes:=ts }) (hd:o.dst=some d) (hf:st.eval xf=some (.clo f caps)) (kT:dt (args.toList.map st.eval)=some as)
   (hp:(d9 (as++caps) MA.ret).run st=some (vs,st)) (hc:aJ P f vs res []) (hpl:res.plain) (hr:(V.toA d (fh d 0) res MA.ret).run st=some (x,st'))
 | callI (m:Bool) (d f:Nat) (xf:Operand) (args:Array Operand) (ts:Array TypeId) (caps as:List A) (vs:List V) (st1:St) (outs:List (List C)) (s off:Nat)
   (ho:o.op=.call { callee:=.value xf,args,argTypes:=ts }) (hd:o.dst=some d) (hf:st.eval xf=some (.clo f caps)) (kT:dt (args.toList.map st.eval)=some as)
   (hp:(kc m p (as++caps) MA.ret).run st=some (vs,st1)) (hc:RO P f vs off outs) (hhd:(as++caps).head?=some (.obj s 0)) (hr:(dO d (d8 (as++caps)) outs (MA.ret (.obj s off))).run st1=some (x,st'))
 | callD (d f:Nat) (xf:Operand) (args:Array Operand) (ts:Array TypeId) (caps as:List A) (vs:List V) (res:V)
   (ho:o.op=.call { callee:=.value xf,args,argTypes:=ts }) (hd:o.dst=some d) (hf:st.eval xf=some (.clo f caps)) (kT:dt (args.toList.map st.eval)=some as)
   (hp:(d9 (as++caps) MA.ret).run st=some (vs,st)) (hc:nR P f vs res) (hr:(V.toA d (fh d 0) res MA.ret).run st=some (x,st'))
 | callX (m:Bool) (d f:Nat) (xf:Operand) (args:Array Operand) (ts:Array TypeId) (az caps as xs:List A) (vs us:List V) (st1:St) (res:V) (outs:List (List C))
   (ho:o.op=.call { callee:=.value xf,args,argTypes:=ts }) (hd:o.dst=some d) (hf:st.eval xf=some (.clo f caps)) (kT:dt (args.toList.map st.eval)=some az) (hcat:az++caps=as++xs)
   (hp:(kc m p as MA.ret).run st=some (vs,st1)) (hq:(d9 xs MA.ret).run st1=some (us,st1)) (hc:L3 P f vs us res outs) (hr:(dO d (d8 as) outs (V.toA d (fh d 0) res MA.ret)).run st1=some (x,st'))
 | callW (d f r e lo m:Nat) (ts:List T) (rows:List (List T)) (xf:Operand) (args:Array Operand) (tys:Array TypeId) (as:List A) (vs:List V)
   (ho:o.op=.call { callee:=.value xf,args,argTypes:=tys }) (hd:o.dst=some d) (hf:st.eval xf=some (.clo f [])) (kT:dt (args.toList.map st.eval)=some (.agg (ts.map A.t++[.own r]) :: as))
   (hrw:st.rw r=some (.live e 1 rows)) (hp:No as=some vs) (hc:Ul P f e ts rows vs lo m) (hr:x=.win r lo m) (hst:st'=st)
 | callM (f:Nat) (xf:Operand) (args:Array Operand) (ts:Array TypeId) (as:List A) (r:T)
   (ho:o.op=.call { callee:=.value xf,args,argTypes:=ts }) (hf:st.eval xf=some (.clo f [])) (kT:dt (args.toList.map st.eval)=some as)
   (hk:as.all A.mk=true) (hx:as.any A.hasX=true) (hc:VG P f as r) (hr:x=.t r) (hst:st'=st)
 | callR (d f r e sz:Nat) (rows rows':List (List T)) (xf:Operand) (args:Array Operand) (ts:Array TypeId) (as:List A) (vs:List V) (res:T)
   (ho:o.op=.call { callee:=.value xf,args,argTypes:=ts }) (hd:o.dst=some d) (hf:st.eval xf=some (.clo f [])) (kT:dt (args.toList.map st.eval)=some (.own r :: as))
   (hrw:st.rw r=some (.live e sz rows)) (hp:(d9 as MA.ret).run st=some (vs,st)) (hpl:rY vs) (hc:VH P f e sz rows vs res rows')
   (hr:x=.t res) (hst:st'={ st with rw:=eG st.rw r (some (.live e sz rows')) })
section
variable {P:Program} {E:En} [Tb P E] {g:Gh} {st st':St} {a:Act} {w:World} {p:Nat->Bool} {ρ:Nat->eh} {o:Oper} {x:A}
theorem QS.sound{n:Nat}(hS:iJ E g n st a w)(h:QS P p ρ st o x st'):uR P o a w λv w'=>∃ g',uP E g st w x st' v g' w':=by
 cases h with
 | plain h =>
  obtain ⟨u,g',w',h1,h2⟩:=OS hS h;exact Nh ⟨u,w',h1,g',h2⟩
 | call m d f xf args ts caps as vs st1 res outs ho hd hf kT hp hc hr=>exact OT hS ho hf kT hp hc hr
 | callB d f xf args ts caps as vs res ho hd hf kT hp hc hpl hr=>exact Ni hS ho hf kT hp hc hpl hr
 | callI m d f xf args ts caps as vs st1 outs s off ho hd hf kT hp hc hhd hr=>exact Nj hS ho hf kT hp hc hhd hr
 | callD d f xf args ts caps as vs res ho hd hf kT hp hc hr=>exact Nk hS ho hf kT hp hc hr
 | callX m d f xf args ts az caps as xs vs us st1 res outs ho hd hf kT hcat hp hq hc hr=>exact Nn hS ho hf kT hcat hp hq hc hr
 | callW d f r e lo m ts rows xf args tys as vs ho hd hf kT hrw hp hc hr hst=>subst hr hst; exact Np hS ho hf kT hrw hp hc
 | callM f xf args ts as r ho hf kT hk hx hc hr hst=>subst hr hst; exact Nl hS ho hf kT hk hx hc
 | callR d f r e sz rows rows' xf args ts as vs res ho hd hf kT hrw hp hpl hc hr hst=>subst hr hst; exact Nm hS ho hf kT hrw hp hpl hc
theorem rZ{st st2:St}{o:Oper}(h:∀ t,.tmp t∈o.op.operands.toList->st2.tm t=st.tm t):∀ y∈o.op.operands.toList,st2.eval y=st.eval y:=by
 intro y hy
 cases y with
 | tmp t=>simp only [St.eval]; rw [h t hy]
 | _=>rfl
theorem St.ext{s t:St}(h1:s.tm=t.tm)(h2:s.ob=t.ob)(h3:s.rw=t.rw):s=t:=by
 cases s; cases t; cases h1; cases h2; cases h3; rfl
theorem QT{D:OU}{a:A}(ho:∀ s,D.oR s/\D.oW s)(hr:∀ r,D.rR r/\D.rW r):a.argIn D p:=by
 unfold A.argIn
 split
 ·exact ⟨ho _,λ_=>hr⟩
 ·exact A7 hr _
theorem Tt{D:OU}{y:Operand}{a:A}(hc:Vt ρ y a)(ho:∀ s,kT (wg ρ y).objs s->D.oR s/\D.oW s)(hr:∀ r,kT (tu p (wg ρ y)) (r / 65536)->D.rR r/\D.rW r)(hfit:∀ s off,a=.obj s off->wg ρ y=.obj s\/wg ρ y=.any) :
  (a.argIn D p)/\a.inR λr=>D.rR r/\D.rW r:=by
 have h2:a.inR λr=>D.rR r/\D.rW r:=by
  by_cases hob:(wg ρ y).isObj=true
  ·obtain ⟨s,off,rfl⟩:=hc.isob hob;unfold A.inR; trivial
  ·refine ii (λr h=>hr r ?_) hc.rows
   revert h hob
   cases wg ρ y <;> simp [tu,eh.isObj]
 refine ⟨?_,h2⟩;unfold A.argIn
 split
 ·rename_i s;refine ⟨ho s (hc.objs s 0 rfl),λhp r=>hr r ?_⟩;rcases hfit s 0 rfl with h | h <;> rw [h] <;> simp [tu,hp,kT,eh.rows]
 ·exact h2
theorem Tu{y:Operand}{s off:Nat}(hf:eY ρ st o=true)(hy:y∈o.op.operands.toList)(h:st.eval y=some (.obj s off)):wg ρ y=.obj s\/wg ρ y=.any:=by
 cases y with
 | tmp t =>
  simp only [St.eval,Option.some.injEq] at h;have:=List.all_eq_true.1 hf _ hy;simp only [h] at this;simp only [wg]
  revert this
  cases ρ t <;> simp [eh.fits]
 | const v=>exact absurd rfl ((Ae (Q:=λ_=>True) h).2 s off)
 | func f=>simp [St.eval] at h
 | global=>cases h
theorem Tv{y:Operand}{f:FuncId}{caps:List A}(hf:eY ρ st o=true)(hy:y∈o.op.operands.toList)(h:st.eval y=some (.clo f caps)):caps=[]\/wg ρ y=.any:=by
 cases y with
 | tmp t =>
  simp only [St.eval,Option.some.injEq] at h;have:=List.all_eq_true.1 hf _ hy;simp only [h] at this;simp only [wg]
  revert this
  cases ρ t <;> simp [eh.fits]
 | const v =>
  simp only [St.eval] at h;unfold A.ofValue at h
  split at h
  ·split at h <;> cases h
  ·cases h
  ·unfold m6 at h
   split at h <;> cases h
 | func f'=>simp only [St.eval,Option.some.injEq,A.clo.injEq] at h; exact .inl h.2.symm
 | global=>cases h
theorem QS.loc(hf:eY ρ st o=true)(h:QS P p ρ st o x st'):OL (dq p ρ o).dom st st' /\
  ∀ st2,(∀ t,.tmp t∈o.op.operands.toList->st2.tm t=st.tm t)->On (dq p ρ o).dom st st2->∃ st2',QS P p ρ st2 o x st2'/\OL (dq p ρ o).dom st2 st2'/\On (dq p ρ o).dom st' st2':=by
 have hcls:∀ x∈o.op.operands.toList,∀ a,st.eval x=some a->Vt ρ x a:=λx hx a h=>RV hf hx h
 -- a call's parts
 have hcall:∀ {d f:Nat} {xf:Operand} {args:Array Operand} {ts:Array TypeId} {as caps:List A},o.op=.call { callee:=.value xf,args,argTypes:=ts }->o.dst=some d->st.eval xf=some (.clo f caps)->dt (args.toList.map st.eval)=some as ->
   (∀ y∈xf :: args.toList,y∈o.op.operands.toList)/\(∀ r,r / 65536=d->(dq p ρ o).dom.rR r/\(dq p ρ o).dom.rW r)/\((dq p ρ o).dom.oR d/\(dq p ρ o).dom.oW d) /\
   ∀ a∈as++caps,a.argIn (dq p ρ o).dom p/\a.inR λr=>(dq p ρ o).dom.rR r/\(dq p ρ o).dom.rW r:=by
  intro d f xf args ts as caps ho hd hxf hass;have hf':dq p ρ o=⟨CR (Bu (o.op.operands.toList.map λx=>(wg ρ x).objs)) (kv o.dst),CR (Bu (o.op.operands.toList.map λx=>(wg ρ x).objs)) (kv o.dst),
   CR (Bu (o.op.operands.toList.map λx=>tu p (wg ρ x))) (kv o.dst),CR (Bu (o.op.operands.toList.map λx=>tu p (wg ρ x))) (kv o.dst)⟩:=by simp only [dq,ho]
  have hops:∀ y∈xf :: args.toList,y∈o.op.operands.toList:=λy hy=>by
   rw [ho];simp only [Op.operands,Call.operands]
   simpa using hy
  have hO:∀ y∈o.op.operands.toList,∀ s,kT (wg ρ y).objs s->(dq p ρ o).dom.oR s/\(dq p ρ o).dom.oW s:=λy hy s hs=>by
   rw [hf'];have:=ma (a:=Bu (o.op.operands.toList.map λx=>(wg ρ x).objs)) (b:=kv o.dst) |>.2 (.inl (It (List.mem_map.2 ⟨y,hy,rfl⟩) hs))
   exact ⟨this,this⟩
  have hR:∀ y∈o.op.operands.toList,∀ r,kT (tu p (wg ρ y)) (r / 65536)->(dq p ρ o).dom.rR r/\(dq p ρ o).dom.rW r:=λy hy r hs=>by
   rw [hf'];have:=ma (a:=Bu (o.op.operands.toList.map λx=>tu p (wg ρ x))) (b:=kv o.dst) |>.2 (.inl (It (List.mem_map.2 ⟨y,hy,rfl⟩) hs))
   exact ⟨this,this⟩
  refine ⟨hops,λr hr=>?_,?_,λa ha=>?_⟩
  ·rw [hf'];have:=ma (k:=r / 65536) (a:=Bu (o.op.operands.toList.map λx=>tu p (wg ρ x))) (b:=kv o.dst) |>.2 (.inr (by rw [hd]; simp [kv,kT,hr]))
   exact ⟨this,this⟩
  ·rw [hf'];have:=ma (k:=d) (a:=Bu (o.op.operands.toList.map λx=>(wg ρ x).objs)) (b:=kv o.dst) |>.2 (.inr (by rw [hd]; simp [kv,kT]))
   exact ⟨this,this⟩
  ·rcases List.mem_append.1 ha with ha | ha
   ·obtain ⟨hl,hg⟩:=rc hass;obtain ⟨i,hi⟩:=zZY ha;obtain ⟨y,hy,he⟩:=hg i a hi;have hym:=hops y (zQv _ (zQQ hy));exact Tt (hcls y hym a he) (hO y hym) (hR y hym) (λs off h=>Tu hf hym (h ▸ he))
   ·have hxm:=hops xf (zQk ..);rcases Tv hf hxm hxf with h | h
    ·subst h; simp at ha
    ·have hOa:∀ s,(dq p ρ o).dom.oR s/\(dq p ρ o).dom.oW s:=λs=>hO xf hxm s (by rw [h]; trivial);have hRa:∀ r,(dq p ρ o).dom.rR r/\(dq p ρ o).dom.rW r:=λr=>hR xf hxm r (by rw [h]; trivial);exact ⟨QT hOa hRa,A7 hRa a⟩
 cases h with
 | plain h =>
  obtain ⟨h1,h2⟩:=mB (pr P ρ st.eval o) (Ts hcls) h;refine ⟨h1,λst2 ht hon=>?_⟩;obtain ⟨st2',h3,h4,h5⟩:=h2 st2 hon;refine ⟨st2',.plain ?_,h4,h5⟩;rw [OZ (rZ ht)];exact h3
 | call m d f xf args ts caps as vs st1 res outs ho hd hxf hass hp hc hr =>
  obtain ⟨hops,hdr,hdo,hin⟩:=hcall ho hd hxf hass;obtain ⟨h1,h2⟩:=mB (kc m p (as++caps) MA.ret) (Ds (D:=(dq p ρ o).dom) (λa ha=>(hin a ha).1) (λ_=>trivial)) hp;obtain ⟨h3,h4⟩:=mB (dO d (d8 (as++caps)) outs (V.toA d (fh d 0) res MA.ret)) (wz (D:=(dq p ρ o).dom) hdr (λs hs=>Ad (λa ha=>(hin a ha).1) s hs) (Dt hdr hdo λ_=>trivial)) hr;refine ⟨h1.trans h3,λst2 ht hon=>?_⟩;obtain ⟨st3,h5,h6,h7⟩:=h2 st2 hon;obtain ⟨st4,h8,h9,h10⟩:=h4 st3 h7;have hev:=rZ ht;refine ⟨st4,.call m d f xf args ts caps as vs st3 res outs ho hd ((hev xf (hops xf (zQk ..))).trans hxf) ?_ h5 hc h8,h6.trans h9,h10⟩;rw [<- hass]
  congr 1
  exact zXY λy hy=>hev y (hops y (zQv _ hy))
 | callI m d f xf args ts caps as vs st1 outs s off ho hd hxf hass hp hc hhd hr =>
  obtain ⟨hops,hdr,hdo,hin⟩:=hcall ho hd hxf hass;obtain ⟨h1,h2⟩:=mB (kc m p (as++caps) MA.ret) (Ds (D:=(dq p ρ o).dom) (λa ha=>(hin a ha).1) (λ_=>trivial)) hp;obtain ⟨h3,h4⟩:=mB (dO d (d8 (as++caps)) outs (MA.ret (A.obj s off))) (wz (D:=(dq p ρ o).dom) hdr (λs hs=>Ad (λa ha=>(hin a ha).1) s hs) trivial) hr;refine ⟨h1.trans h3,λst2 ht hon=>?_⟩;obtain ⟨st3,h5,h6,h7⟩:=h2 st2 hon;obtain ⟨st4,h8,h9,h10⟩:=h4 st3 h7;have hev:=rZ ht;refine ⟨st4,.callI m d f xf args ts caps as vs st3 outs s off ho hd ((hev xf (hops xf (zQk ..))).trans hxf) ?_ h5 hc hhd h8,h6.trans h9,h10⟩;rw [<- hass]
  congr 1
  exact zXY λy hy=>hev y (hops y (zQv _ hy))
 | callB d f xf args ts caps as vs res ho hd hxf hass hp hc hpl hr =>
  obtain ⟨hops,hdr,hdo,hin⟩:=hcall ho hd hxf hass;obtain ⟨h1,h2⟩:=mB (d9 (as++caps) MA.ret) (pz (D:=⟨(dq p ρ o).dom.oR,λ_=>False,(dq p ρ o).dom.rR,λ_=>False⟩) (pv λa ha=>ii (λr h=>h.1) (hin a ha).2) (λ_=>trivial)) hp;obtain ⟨h3,h4⟩:=mB (V.toA d (fh d 0) res MA.ret) (Dt (D:=(dq p ρ o).dom) hdr hdo λ_=>trivial) hr;refine ⟨h3,λst2 ht hon=>?_⟩;obtain ⟨st3,h5,h6,h7⟩:=h2 st2 ⟨hon.ob,hon.rw⟩;have h32:st3=st2:=St.ext h6.tm (funext λs=>h6.ob s (λh=>h)) (funext λs=>h6.rw s (λh=>h));subst h32;obtain ⟨st4,h8,h9,h10⟩:=h4 st3 hon;have hev:=rZ ht;refine ⟨st4,.callB d f xf args ts caps as vs res ho hd ((hev xf (hops xf (zQk ..))).trans hxf) ?_ h5 hc hpl h8,h9,h10⟩;rw [<- hass]
  congr 1
  exact zXY λy hy=>hev y (hops y (zQv _ hy))
 | callD d f xf args ts caps as vs res ho hd hxf hass hp hc hr =>
  obtain ⟨hops,hdr,hdo,hin⟩:=hcall ho hd hxf hass;obtain ⟨h1,h2⟩:=mB (d9 (as++caps) MA.ret) (pz (D:=⟨(dq p ρ o).dom.oR,λ_=>False,(dq p ρ o).dom.rR,λ_=>False⟩) (pv λa ha=>ii (λr h=>h.1) (hin a ha).2) (λ_=>trivial)) hp;obtain ⟨h3,h4⟩:=mB (V.toA d (fh d 0) res MA.ret) (Dt (D:=(dq p ρ o).dom) hdr hdo λ_=>trivial) hr;refine ⟨h3,λst2 ht hon=>?_⟩;obtain ⟨st3,h5,h6,h7⟩:=h2 st2 ⟨hon.ob,hon.rw⟩;have h32:st3=st2:=St.ext h6.tm (funext λs=>h6.ob s (λh=>h)) (funext λs=>h6.rw s (λh=>h));subst h32;obtain ⟨st4,h8,h9,h10⟩:=h4 st3 hon;have hev:=rZ ht;refine ⟨st4,.callD d f xf args ts caps as vs res ho hd ((hev xf (hops xf (zQk ..))).trans hxf) ?_ h5 hc h8,h9,h10⟩;rw [<- hass]
  congr 1
  exact zXY λy hy=>hev y (hops y (zQv _ hy))
 | callX m d f xf args ts az caps as xs vs us st1 res outs ho hd hxf hass hcat hp hq hc hr =>
  obtain ⟨hops,hdr,hdo,hin⟩:=hcall ho hd hxf hass;rw [hcat] at hin;obtain ⟨h1,h2⟩:=mB (kc m p as MA.ret) (Ds (D:=(dq p ρ o).dom) (λa ha=>(hin a (zVZ _ ha)).1) (λ_=>trivial)) hp;obtain ⟨g1,g2⟩:=mB (d9 xs MA.ret) (pz (D:=⟨(dq p ρ o).dom.oR,λ_=>False,(dq p ρ o).dom.rR,λ_=>False⟩) (pv λa ha=>ii (λr h=>h.1) (hin a (List.mem_append_right _ ha)).2) (λ_=>trivial)) hq;obtain ⟨h3,h4⟩:=mB (dO d (d8 as) outs (V.toA d (fh d 0) res MA.ret)) (wz (D:=(dq p ρ o).dom) hdr (λs hs=>Ad (λa ha=>(hin a (zVZ _ ha)).1) s hs) (Dt hdr hdo λ_=>trivial)) hr;refine ⟨h1.trans h3,λst2 ht hon=>?_⟩;obtain ⟨st3,h5,h6,h7⟩:=h2 st2 hon;obtain ⟨st5,g5,g6,g7⟩:=g2 st3 ⟨h7.ob,h7.rw⟩;have h53:st5=st3:=St.ext g6.tm (funext λs=>g6.ob s (λh=>h)) (funext λs=>g6.rw s (λh=>h));subst h53;obtain ⟨st4,h8,h9,h10⟩:=h4 st5 h7;have hev:=rZ ht;refine ⟨st4,.callX m d f xf args ts az caps as xs vs us st5 res outs ho hd ((hev xf (hops xf (zQk ..))).trans hxf) ?_ hcat h5 g5 hc h8,h6.trans h9,h10⟩;rw [<- hass]
  congr 1
  exact zXY λy hy=>hev y (hops y (zQv _ hy))
 | callW d f r e lo m ts rows xf args tys as vs ho hd hxf hass hrw hp hc hr hst =>
  subst hr hst;obtain ⟨hops,hdr,hdo,hin⟩:=hcall (caps:=[]) ho hd hxf hass;have hr0:=(hin (.agg (ts.map A.t++[.own r])) (by simp)).2;unfold A.inR at hr0;have hr1:(dq p ρ o).dom.rR r/\(dq p ρ o).dom.rW r:=by
   have key:∀ l:List T,eZ (λr=>(dq p ρ o).dom.rR r/\(dq p ρ o).dom.rW r) (l.map A.t++[.own r])->(dq p ρ o).dom.rR r/\(dq p ρ o).dom.rW r:=by
    intro l
    induction l with
    | nil=>intro h; simp only [List.map_nil,zQy] at h; unfold eZ at h; have:=h.1; unfold A.inR at this; exact this
    | cons x l ih=>intro h; simp only [zWv,List.cons_append] at h; unfold eZ at h; exact ih h.2
   exact key ts hr0
  refine ⟨OL.refl _ _,λst2 ht hon=>⟨st2,?_,OL.refl _ _,hon⟩⟩;have hev:=rZ ht;refine .callW d f r e lo m ts rows xf args tys as vs ho hd ((hev xf (hops xf (zQk ..))).trans hxf) ?_ ((hon.rw r hr1.1).trans hrw) hp hc rfl rfl;rw [<- hass]
  congr 1
  exact zXY λy hy=>hev y (hops y (zQv _ hy))
 | callM f xf args ts as r ho hxf hass hk hx hc hr hst =>
  subst hr hst;refine ⟨OL.refl _ _,λst2 ht hon=>⟨st2,?_,OL.refl _ _,hon⟩⟩;have hev:=rZ ht;have hops:∀ y∈xf :: args.toList,y∈o.op.operands.toList:=λy hy=>by
   rw [ho];simp only [Op.operands,Call.operands]
   simpa using hy
  refine .callM f xf args ts as r ho ((hev xf (hops xf (zQk ..))).trans hxf) ?_ hk hx hc rfl rfl;rw [<- hass]
  congr 1
  exact zXY λy hy=>hev y (hops y (zQv _ hy))
 | callR d f r e sz rows rows' xf args ts as vs res ho hd hxf hass hrw hp hpl hc hr hst =>
  subst hr hst;obtain ⟨hops,hdr,hdo,hin⟩:=hcall (caps:=[]) ho hd hxf hass;have hr0:=(hin (.own r) (by simp)).2;unfold A.inR at hr0;obtain ⟨h1,h2⟩:=mB (d9 as MA.ret) (pz (D:=⟨(dq p ρ o).dom.oR,λ_=>False,(dq p ρ o).dom.rR,λ_=>False⟩) (pv λa ha=>ii (λr h=>h.1) (hin a (by simp [ha])).2) (λ_=>trivial)) hp;refine ⟨⟨rfl,λ_ _=>rfl,λi hi=>ci _ _ _ _ (λhe=>hi (he ▸ hr0.2))⟩,λst2 ht hon=>?_⟩;obtain ⟨st3,h5,h6,h7⟩:=h2 st2 ⟨hon.ob,hon.rw⟩;have h32:st3=st2:=St.ext h6.tm (funext λs=>h6.ob s (λh=>h)) (funext λs=>h6.rw s (λh=>h));subst h32;have hev:=rZ ht;refine ⟨_,.callR d f r e sz rows rows' xf args ts as vs res ho hd ((hev xf (hops xf (zQk ..))).trans hxf) ?_ ((hon.rw r hr0.1).trans hrw) h5 hpl hc rfl rfl,⟨rfl,λ_ _=>rfl,λi hi=>ci _ _ _ _ (λhe=>hi (he ▸ hr0.2))⟩,⟨hon.ob,λi hi=>OV (hon.rw i hi)⟩⟩;rw [<- hass]
  congr 1
  exact zXY λy hy=>hev y (hops y (zQv _ hy))
end
end Go.Tm
namespace Go.Tm
open Go.RowKit
def iW(ops:Array Oper)(st:St)(o:Oper):Option Bool:=match o.guard with
 | none=>some true
 | some (j,want)=>match (ops[j]?).bind (·.dst) with
  | none=>some false
  | some d=>match st.tm d with
   | .t (.bool b)=>some (b == want)
   | .tup []=>some false
   | _=>none
def Tw(ops:Array Oper)(o:Oper):List Nat:=match o.guard with
 | none=>[]
 | some (j,_)=>((ops[j]?).bind (·.dst)).toList
inductive wA (P:Program) (p:Nat->Bool) (ρ:Nat->eh) (ops:Array Oper) (o:Oper) (st:St):St->Prop
 | run (x:A) (st1:St) (hg:iW ops st o=some true) (hf:eY ρ st o=true) (h:QS P p ρ st o x st1):wA P p ρ ops o st (st1.put o.dst x)
 | skip (hg:iW ops st o=some false):wA P p ρ ops o st (st.put o.dst (.tup []))
section
variable {P:Program} {E:En} [Tb P E] {g:Gh} {st st':St} {a:Act} {w:World} {p:Nat->Bool} {ρ:Nat->eh} {o:Oper} {x:A} {ops:Array Oper}
theorem Ge{st2:St}(h:∀ d∈Tw ops o,st2.tm d=st.tm d):iW ops st2 o=iW ops st o:=by
 unfold iW Tw at *
 split
 ·rfl
 ·rename_i j want hg;simp only [hg] at h
  split
  ·rfl
  ·rename_i d hd;simp only [hd,Option.toList] at h;rw [h d (by simp)]
theorem L7{st2:St}(h:∀ t,.tmp t∈o.op.operands.toList->st2.tm t=st.tm t):eY ρ st2 o=eY ρ st o:=by
 unfold eY
 revert h
 generalize o.op.operands.toList=l;intro h
 induction l with
 | nil=>rfl
 | cons y l ih =>
  simp only [List.all_cons];rw [ih λt ht=>h t (zQv _ ht)]
  cases y with
  | tmp t=>simp only [h t (zQk ..)]
  | _=>rfl
def Qa(D:OU)(dst:Option Nat)(st st':St):Prop:=(∀ t,dst≠some t->st'.tm t=st.tm t)/\(∀ s,¬ D.oW s->st'.ob s=st.ob s)/\∀ r,¬ D.rW r->st'.rw r=st.rw r
theorem Iv{d:Option Nat}{v:A}{t:Nat}(h:d≠some t):(st.put d v).tm t=st.tm t:=by
 cases d with
 | none=>rfl
 | some d=>exact ci _ _ _ _ (λhe=>h (he ▸ rfl))
theorem Ba{d:Nat}{v:A}:(st.put (some d) v).tm d=v:=de _ _ _
theorem yD{d:Option Nat}{v:A}:(st.put d v).ob=st.ob:=by cases d <;> rfl
theorem yE{d:Option Nat}{v:A}:(st.put d v).rw=st.rw:=by cases d <;> rfl
theorem wA.loc(h:wA P p ρ ops o st st'):Qa (dq p ρ o).dom o.dst st st' /\
  ∀ st2,(∀ t,.tmp t∈o.op.operands.toList->st2.tm t=st.tm t)->(∀ d∈Tw ops o,st2.tm d=st.tm d)->On (dq p ρ o).dom st st2 ->
   ∃ st2',wA P p ρ ops o st2 st2'/\(∀ t,o.dst=some t->st2'.tm t=st'.tm t)/\Qa (dq p ρ o).dom o.dst st2 st2'/\On (dq p ρ o).dom st' st2':=by
 cases h with
 | run x st1 hg hf h =>
  obtain ⟨h1,h2⟩:=h.loc hf;refine ⟨⟨λt ht=>by rw [Iv ht,h1.tm],λs hs=>by rw [yD]; exact h1.ob s hs,λs hs=>by rw [yE]; exact h1.rw s hs⟩,λst2 ht hd hon=>?_⟩;obtain ⟨st2',h3,h4,h5⟩:=h2 st2 ht hon;refine ⟨_,.run x st2' ((Ge hd).trans hg) ((L7 ht).trans hf) h3,λt he=>?_,⟨λt ht=>by rw [Iv ht,h4.tm],λs hs=>by rw [yD]; exact h4.ob s hs,λs hs=>by rw [yE]; exact h4.rw s hs⟩,⟨λs hs=>by rw [yD,yD]; exact h5.ob s hs,λs hs=>by rw [yE,yE]; exact h5.rw s hs⟩⟩;rw [he,Ba,Ba]
 | skip hg =>
  refine ⟨⟨λt ht=>Iv ht,λs hs=>by rw [yD],λs hs=>by rw [yE]⟩,λst2 ht hd hon=>?_⟩;refine ⟨_,.skip ((Ge hd).trans hg),λt he=>by rw [he,Ba,Ba],⟨λt ht=>Iv ht,λs hs=>by rw [yD],λs hs=>by rw [yE]⟩,⟨λs hs=>by rw [yD,yD]; exact hon.ob s hs,λs hs=>by rw [yE,yE]; exact hon.rw s hs⟩⟩
def QU(a b:Option (List Nat)):Bool:=match a,b with
 | some [],_=>true
 | _,some []=>true
 | some a,some b=>a.all λx=>!b.contains x
 | _,_=>false
theorem Bb{a b:Option (List Nat)}(h:QU a b=true){k:Nat}(ha:kT a k):¬ kT b k:=by
 intro hb;unfold QU at h
 split at h
 ·simp [kT] at ha
 ·simp [kT] at hb
 ·have:=List.all_eq_true.1 h k ha;simp at this;exact this hb
 ·cases h
def yF(ops:Array Oper)(o:Oper):List Nat:=Tw ops o++o.op.operands.toList.filterMap λ| .tmp t=>some t | _=>none
def Iw(d:Option Nat)(l:List Nat):Bool:=match d with | some d=>l.contains d | none=>false
def Nt(p:Nat->Bool)(ρ:Nat->eh)(ops:Array Oper)(o1 o2:Oper):Bool :=
 !Iw o1.dst (o2.dst.toList++yF ops o2) && !Iw o2.dst (yF ops o1) && QU (dq p ρ o1).oW (dq p ρ o2).oR && QU (dq p ρ o2).oW (dq p ρ o1).oR &&
  QU (dq p ρ o1).rW (dq p ρ o2).rR && QU (dq p ρ o2).rW (dq p ρ o1).rR
theorem Du{t:Nat}(h:.tmp t∈o.op.operands.toList):t∈yF ops o:=by
 unfold yF;exact List.mem_append.2 (.inr (List.mem_filterMap.2 ⟨_,h,rfl⟩))
theorem Tx{o1 o2:Oper}{b:St}{c:St}(hi:Nt p ρ ops o1 o2=true)(h2:wA P p ρ ops o2 st b)(h1:wA P p ρ ops o1 b c):∃ b',wA P p ρ ops o1 st b'/\wA P p ρ ops o2 b' c:=by
 simp only [Nt,sk,Bool.not_eq_true'] at hi;obtain ⟨⟨⟨⟨⟨hd1,hd2⟩,ho12⟩,ho21⟩,hr12⟩,hr21⟩:=hi;have hn1:∀ t,o1.dst=some t->t∉o2.dst.toList/\t∉yF ops o2:=λt ht=>by
  rw [ht] at hd1;simp [Iw] at hd1;exact ⟨by simpa using hd1.1,hd1.2⟩
 have hn2:∀ t,o2.dst=some t->t∉yF ops o1:=λt ht=>by
  rw [ht] at hd2
  simpa [Iw] using hd2
 obtain ⟨a1,a2⟩:=h2.loc;obtain ⟨b1,b2⟩:=h1.loc;have e1:=HT p ρ o1;have e2:=HT p ρ o2;have hO12:∀ s,(dq p ρ o1).dom.oW s->¬ (dq p ρ o2).dom.oR s:=λs=>Bb ho12;have hO21:∀ s,(dq p ρ o2).dom.oW s->¬ (dq p ρ o1).dom.oR s:=λs=>Bb ho21;have hR12:∀ r,(dq p ρ o1).dom.rW r->¬ (dq p ρ o2).dom.rR r:=λs=>Bb hr12;have hR21:∀ r,(dq p ρ o2).dom.rW r->¬ (dq p ρ o1).dom.rR r:=λs=>Bb hr21;obtain ⟨b',c1,c2,c3,c4⟩:=b2 st (λt ht=>(a1.1 t (λhe=>hn2 t he (Du ht))).symm) (λt ht=>(a1.1 t (λhe=>hn2 t he (List.mem_append.2 (.inl ht)))).symm)
  ⟨λs hs=>(a1.2.1 s (λhw=>hO21 s hw hs)).symm,λs hs=>(a1.2.2 s (λhw=>hR21 s hw hs)).symm⟩
 obtain ⟨c',f1,f2,f3,f4⟩:=a2 b' (λt ht=>c3.1 t (λhe=>(hn1 t he).2 (Du ht))) (λt ht=>c3.1 t (λhe=>(hn1 t he).2 (List.mem_append.2 (.inl ht))))
  ⟨λs hs=>c3.2.1 s (λhw=>hO12 s hw hs),λs hs=>c3.2.2 s (λhw=>hR12 s hw hs)⟩
 have hcc:c'=c:=by
  refine St.ext (funext λt=>?_) (funext λs=>?_) (funext λr=>?_)
  ·by_cases h2t:o2.dst=some t
   ·rw [f2 t h2t];exact (b1.1 t (λhe=>(hn1 t he).1 (by rw [h2t]; simp))).symm
   ·by_cases h1t:o1.dst=some t
    ·rw [f3.1 t h2t,c2 t h1t]
    ·rw [f3.1 t h2t,c3.1 t h1t,b1.1 t h1t,a1.1 t h2t]
  ·by_cases h2s:(dq p ρ o2).dom.oW s
   ·rw [f4.ob s (e2.ob s h2s)];exact (b1.2.1 s (λhw=>hO12 s hw (e2.ob s h2s))).symm
   ·by_cases h1s:(dq p ρ o1).dom.oW s
    ·rw [f3.2.1 s h2s,c4.ob s (e1.ob s h1s)]
    ·rw [f3.2.1 s h2s,c3.2.1 s h1s,b1.2.1 s h1s,a1.2.1 s h2s]
  ·by_cases h2s:(dq p ρ o2).dom.rW r
   ·rw [f4.rw r (e2.rw r h2s)];exact (b1.2.2 r (λhw=>hR12 r hw (e2.rw r h2s))).symm
   ·by_cases h1s:(dq p ρ o1).dom.rW r
    ·rw [f3.2.2 r h2s,c4.rw r (e1.rw r h1s)]
    ·rw [f3.2.2 r h2s,c3.2.2 r h1s,b1.2.2 r h1s,a1.2.2 r h2s]
 exact ⟨b',c1,hcc ▸ f1⟩
def qf(P:Program)(p:Nat->Bool)(ρ:Nat->eh)(ops:Array Oper)(i:Nat)(st st':St):Prop:=match ops[i]? with
 | some o=>wA P p ρ ops o st st'
 | none=>st'=st
def Ix(P:Program)(p:Nat->Bool)(ρ:Nat->eh)(ops:Array Oper):List Nat->St->St->Prop
 | [],st,st'=>st'=st
 | i :: l,st,st'=>∃ b,qf P p ρ ops i st b/\Ix P p ρ ops l b st'
def se(p:Nat->Bool)(ρ:Nat->eh)(ops:Array Oper)(i j:Nat):Bool:=match ops[i]?,ops[j]? with
 | some a,some b=>Nt p ρ ops a b
 | _,_=>true
theorem Dv{i j:Nat}{b c:St}(hi:se p ρ ops i j=true)(h2:qf P p ρ ops j st b)(h1:qf P p ρ ops i b c):∃ b',qf P p ρ ops i st b'/\qf P p ρ ops j b' c:=by
 unfold qf se at *
 revert h1 h2 hi
 cases ops[i]? <;> cases ops[j]? <;> simp only [] <;> intro hi h2 h1
 ·exact ⟨st,rfl,by rw [h1,h2]⟩
 ·exact ⟨st,rfl,by rw [h1]; exact h2⟩
 ·exact ⟨c,h2 ▸ h1,rfl⟩
 ·exact Tx hi h2 h1
theorem pull{i:Nat}:∀ {l:List Nat} {st st':St},i∈l->(∀ l1 l2,l=l1++i :: l2->i∉l1->∀ j∈l1,se p ρ ops i j=true)->Ix P p ρ ops l st st'->∃ b,qf P p ρ ops i st b/\Ix P p ρ ops (l.erase i) b st'
 | [],st,st',h,_,_=>by simp at h
 | j :: l,st,st',h,hind,hr=>by
  by_cases he:i=j
  ·subst he;rw [List.erase_cons_head];exact hr
  ·obtain ⟨b,h1,h2⟩:=hr;have him:i∈l:=(List.mem_cons.1 h).resolve_left he;obtain ⟨c,h3,h4⟩:=pull him (λl1 l2 hl hni j' hj'=>hind (j :: l1) l2 (by rw [hl]; rfl) (by simp [he,hni]) j' (zQv _ hj')) h2;have hij:se p ρ ops i j=true:=by
    obtain ⟨l1,l2,hl,hni⟩:=List.eq_append_cons_of_mem him;exact hind (j :: l1) l2 (by rw [hl]; rfl) (by simp [he,hni]) j (zQk ..)
   obtain ⟨d,h5,h6⟩:=Dv hij h1 h3;refine ⟨d,h5,?_⟩;rw [List.erase_cons_tail (by simpa using λh=>he h.symm)];exact ⟨c,h6,h4⟩
end
end Go.Tm
namespace Go.Tm
open Go.RowKit
section
variable {P:Program} {E:En} [Tb P E] {g:Gh} {st st':St} {a:Act} {w:World} {p:Nat->Bool} {ρ:Nat->eh} {o:Oper} {x:A} {ops:Array Oper} {n:Nat}
theorem fi.put(h:fi E g st w)(d:Option Nat)(v:A):fi E g (st.put d v) w:=by
 cases d with
 | none=>exact h
 | some d=>exact ⟨h.ob,h.obne,h.row,h.rowne,h.rowob,h.F,h.os,h.tape,h.output,h.sizes,h.frame,h.shp,h.dep0⟩
theorem iJ.put{v:Value}{g':Gh}{w':World}{st1:St}{d:Option Nat}(hS:iJ E g n st a w)(h:uP E g st w x st1 v g' w')(hd:∀ t,d=some t->t < n):iJ E g' n (st1.put d x) (a.put d v) w':=by
 refine ⟨h.mem.put d x,?_,?_,λi hi=>?_,λi hi=>?_,λs b hs=>?_,λv' hv'=>by
  obtain ⟨h1,h2⟩:=hS.pin v' hv';exact ⟨by unfold St.R; rw [yE]; exact (h.ext.R _ h1).1,(h.ext.R _ h1).2.trans h2⟩⟩
 ·cases d <;> simp [Act.put,hS.size]
 ·cases d <;> simp [Act.put,hS.defers]
 ·cases d with
  | none =>
   obtain ⟨u,h1,h2⟩:=hS.tm i hi;exact ⟨u,h1,by show VR w' g' st1.O st1.R (st1.tm i) u; rw [h.tm]; exact h2.mono h.ext⟩
  | some d =>
   by_cases he:d=i
   ·subst he;exact ⟨v,by simp [Act.put,hS.size,hi],by show VR w' g' st1.O st1.R (eG st1.tm d x d) v; rw [de]; exact h.vr⟩
   ·obtain ⟨u,h1,h2⟩:=hS.tm i hi;refine ⟨u,by simp only [Act.put]; rw [Array.getElem?_setIfInBounds_ne he]; exact h1,?_⟩;show VR w' g' st1.O st1.R (eG st1.tm d x i) u;rw [ci _ _ _ _ (λh=>he h.symm),h.tm];exact h2.mono h.ext
 ·rw [Iv (λhe=>by have:=hd i he; omega),h.tm];exact hS.und i hi
 ·obtain ⟨h1,h2⟩:=hS.lent s b hs;refine ⟨?_,(h.ext.O s h1).2.trans h2⟩;unfold St.O;rw [yD];exact (h.ext.O s h1).1
theorem iJ.skip{d:Option Nat}(hS:iJ E g n st a w)(hd:∀ t,d=some t->t < n):iJ E g n (st.put d (.tup [])) (a.put d undef) w:=by
 refine hS.put ⟨hS.mem,?_,pH.refl _ _ _ _,rfl⟩ hd;exact .tup [] [] rfl (λi x u h=>by simp at h)
theorem iJ.drew(hS:iJ E g n st a w):iJ E g n st a { w with drawn:=w.drawn+1 }:=by
 have hsame:vJ g.F w { w with drawn:=w.drawn+1 }:=λ_ _=>rfl;obtain ⟨⟨h1,h2,h3,h4,h5,h6,h7,h8,h9,h10,h11,hsp,hd0⟩,h12,h13,h14,h15,h16,h17⟩:=hS;have hE:pH w { w with drawn:=w.drawn+1 } g g st.O st.R st.O st.R:=⟨hsame,λ_ h=>h,λ_ h=>⟨h,rfl⟩,λ_ h=>⟨h,rfl⟩,⟨rfl,rfl,rfl⟩,rfl,rfl⟩;refine ⟨⟨λs cells hs=>?_,h2,λr x hr=>(h3 r x hr).mono hsame (λ_ h=>h) (λ_ b hb=>⟨rfl,λh=>h⟩),h4,h5,h6,h7,h8,h9,h10,h11,hsp,hd0⟩,h12,h13,λi hi=>?_,h15,h16,h17⟩
 ·obtain ⟨arr,e,q1,q2,q3,q4⟩:=h1 s cells hs;exact ⟨arr,e,q1,q2,λj x hj=>by obtain ⟨r1,v,r2,r3⟩:=q3 j x hj; exact ⟨r1,v,r2,r3.mono hE⟩,q4⟩
 ·obtain ⟨v,q1,q2⟩:=h14 i hi;exact ⟨v,q1,q2.mono hE⟩
theorem Ll{b:Bool}(hS:iJ E g n st a w)(h:iW ops st o=some b):Region.wanted o (yielded ops a.tmps)=b:=by
 unfold iW at h;unfold Region.wanted
 split at h
 ·rename_i hg
  cases h
  simp only [hg]
 ·rename_i j want hg;simp only [hg]
  split at h
  ·rename_i hd
   cases h
   simp [yielded,hd]
  ·rename_i d hd;have hlt:d < n:=by
    rcases Nat.lt_or_ge d n with hlt | hge
    ·exact hlt
    ·rw [hS.und d hge] at h; cases h
   obtain ⟨v,h1,h2⟩:=hS.tm d hlt
   split at h
   ·rename_i b' hb
    cases h
    rw [hb] at h2
    cases h2 with
    | t x v h3 =>
     cases h3
     simp [yielded,hd,h1]
   ·rename_i hb
    cases h
    rw [hb] at h2
    cases h2 with
    | tup l vs hl hx =>
     have:vs=[]:=r0 (by simpa using hl.symm);subst this;simp [yielded,hd,h1]
   ·cases h
def mT(n:Nat)(o:Oper):Bool:=match o.dst with | some d=>Nat.blt d n | none=>true
theorem Iy(h:mT n o=true):∀ t,o.dst=some t->t < n:=by
 intro t ht;rw [mT,ht] at h
 simpa using h
theorem vK{i:Nat}{K:Act->World->Prop}{Q:Exit->Act->World->Prop}(hS:iJ E g n st a w)(hd:∀ o,ops[i]?=some o->mT n o=true)(h:qf P p ρ ops i st st')
  (hK:∀ g' a' w',iJ E g' n st' a' w'->K a' w'):wpOp P ops Q i K a w:=by
 unfold wpOp;unfold qf at h
 split
 ·rename_i ho;rw [ho] at h;simp only at h;subst h;exact hK g a w hS
 ·rename_i o ho;rw [ho] at h;simp only at h;have hdo:=Iy (hd o ho)
  cases h with
  | run x st1 hg hf he =>
   rw [Ll hS hg,if_pos rfl];exact .inl (he.sound hS K Q λv w' ⟨g',hA⟩=>hK g' _ _ (hS.put hA hdo))
  | skip hg =>
   rw [Ll hS hg,if_neg (by simp)];exact hK g _ _ (hS.skip hdo)
theorem Lm{Q:Exit->Act->World->Prop}(hd:∀ (i:Nat) (o:Oper),ops[i]?=some o->mT n o=true)(hQ:∀ g a w,iJ E g n st' a w->Q .normal a w):∀ {l:List Nat} {st:St} {g:Gh} {a:Act} {w:World},iJ E g n st a w->Ix P p ρ ops l st st'->wpOps P ops Q l a w
 | [],st,g,a,w,hS,h=>hQ g a w (by have h:st'=st:=h; rw [h]; exact hS)
 | i :: l,st,g,a,w,hS,⟨b,h1,h2⟩=>by
  rw [wpOps_cons];exact vK hS (hd i) h1 λg' a' w' hS'=>Lm hd hQ hS' h2
def RZ(D:Array Nat)(o:Oper):Nat:=o.after.toList.foldl (λs e=>if Region.binds .any e then s ||| 2 ^ e.on ||| D.getD e.on 0 else s) 0
def Ln(p:Nat->Bool)(ρ:Nat->eh)(n:Nat)(ops:Array Oper):Bool :=
 let D:=Region.before ops
 (zXQ ops.size).all λi=>match ops[i]? with
  | none=>true
  | some o=>mT n o && (o.after.toList.all λe=>!Region.binds .any e || Nat.blt e.on i) && zXZ (D.getD i 0) (RZ D o) && (zXQ i).all λj=>(D.getD i 0).testBit j || se p ρ ops i j
theorem Lo{D:Array Nat}{j:Nat}:∀ {l:List Edge} {s:Nat},(l.foldl (λs e=>if Region.binds .any e then s ||| 2 ^ e.on ||| D.getD e.on 0 else s) s).testBit j=true->s.testBit j=true\/∃ e∈l,Region.binds .any e=true/\(e.on=j\/(D.getD e.on 0).testBit j=true)
 | [],s,h=>.inl h
 | e :: l,s,h=>by
  simp only [zXh] at h;rcases Lo h with h | ⟨e',he',h⟩
  ·split at h
   ·rename_i hb;simp only [Nat.testBit_or,Bool.or_eq_true] at h;rcases h with (h | h) | h
    ·exact .inl h
    ·rw [Nat.testBit_two_pow] at h;exact .inr ⟨e,zQk ..,hb,.inl (by simpa using h)⟩
    ·exact .inr ⟨e,zQk ..,hb,.inr h⟩
   ·exact .inl h
  ·exact .inr ⟨e',zQv _ he',h⟩
structure Dw (p:Nat->Bool) (ρ:Nat->eh) (n:Nat) (ops:Array Oper) (D:Array Nat):Prop where
 dst:∀ (i:Nat) (o:Oper),ops[i]?=some o->mT n o=true
 back:∀ (i:Nat) (o:Oper),ops[i]?=some o->∀ e∈o.after,Region.binds .any e=true->e.on < i
 dep:∀ (i:Nat) (o:Oper),ops[i]?=some o->∀ j,(D.getD i 0).testBit j=true->∃ e∈o.after,Region.binds .any e=true/\(e.on=j\/(D.getD e.on 0).testBit j=true)
 ind:∀ (i j:Nat) (o:Oper),ops[i]?=some o->j < i->(D.getD i 0).testBit j=true\/se p ρ ops i j=true
theorem Iz(h:Ln p ρ n ops=true):Dw p ρ n ops (Region.before ops):=by
 have hh:∀ (i:Nat) (o:Oper),ops[i]?=some o->((mT n o=true/\(o.after.toList.all λe=>!Region.binds .any e || Nat.blt e.on i)=true)/\zXZ ((Region.before ops).getD i 0) (RZ (Region.before ops) o)=true)/\((zXQ i).all λj=>((Region.before ops).getD i 0).testBit j || se p ρ ops i j)=true:=λi o hi=>by
  have hlt:i < ops.size:=(Array.getElem?_eq_some_iff.1 hi).1;have:=List.all_eq_true.1 h i (List.mem_range.2 hlt);rw [hi] at this
  simpa only [sk] using this
 refine ⟨λi o hi=>(hh i o hi).1.1.1,λi o hi e he hb=>?_,λi o hi j hj=>?_,λi j o hi hj=>?_⟩
 ·have:=List.all_eq_true.1 (hh i o hi).1.1.2 e (by simpa using he);rw [hb] at this
  simpa using this
 ·rw [zWw (hh i o hi).1.2] at hj;rcases Lo hj with h | ⟨e,he,h⟩
  ·simp at h
  ·exact ⟨e,by simpa using he,h⟩
 ·have:=List.all_eq_true.1 (hh i o hi).2 j (List.mem_range.2 hj)
  simpa only [Bool.or_eq_true] using this
def UF(ops:Array Oper)(listed:Array Bool):Prop:=∀ (k:Nat) (o:Oper),listed.getD k false=true->ops[k]?=some o->∀ e∈o.after,Region.binds .any e=true->listed.getD e.on false=true
theorem closed{D:Array Nat}{listed:Array Bool}(hF:Dw p ρ n ops D)(hd:UF ops listed):∀ (i:Nat) (o:Oper),ops[i]?=some o->(∀ e∈o.after,Region.binds .any e=true->listed.getD e.on false=true)->∀ j,(D.getD i 0).testBit j=true->listed.getD j false=true:=by
 intro i
 induction i using Nat.strongRecOn with
 | _ i ih =>
  intro o ho hall j hj;obtain ⟨e,he,hb,h⟩:=hF.dep i o ho j hj;rcases h with rfl | h
  ·exact hall e he hb
  ·have hlt:e.on < i:=hF.back i o ho e he hb;have hlt2:e.on < ops.size:=Nat.lt_trans hlt (Array.getElem?_eq_some_iff.1 ho).1;exact ih e.on hlt _ (zXV hlt2) (hd e.on _ (hall e he hb) (zXV hlt2)) j h
def rem(ops:Array Oper)(listed:Array Bool):List Nat:=(zXQ ops.size).filter λi=>!listed.getD i true
theorem qH{listed:Array Bool}{i:Nat}:i∈rem ops listed↔i < ops.size/\listed.getD i true=false:=by
 simp [rem]
theorem HU{listed:Array Bool}{i:Nat}(hs:listed.size=ops.size)(hi:i∈rem ops listed):rem ops (listed.setIfInBounds i true)=(rem ops listed).erase i:=by
 have hnd:(rem ops listed).Nodup:=List.Pairwise.filter _ List.nodup_range;rw [hnd.erase_eq_filter];unfold rem;rw [List.filter_filter];refine List.filter_congr λj hj=>?_
 by_cases he:i=j
 ·subst he;have:i < listed.size:=by rw [hs]; exact List.mem_range.1 hj
  simp [this]
 ·rw [getD_set_ne true he];have hji:(j != i)=true:=by simpa using λh:j=i=>he h.symm
  simp only [hji,zWk,Bool.and_true]
theorem HV{listed:Array Bool}{k:Nat}(hlt:k < listed.size):listed.getD k true=listed.getD k false:=by
 simp [hlt]
theorem QV{D:Array Nat}{Q:Exit->Act->World->Prop}(hF:Dw p ρ n ops D)(hQ:∀ g a w,iJ E g n st' a w->Q .normal a w) :
  ∀ (fuel:Nat) (listed:Array Bool) (st:St) (g:Gh) (a:Act) (w:World),listed.size=ops.size->UF ops listed->(rem ops listed).length=fuel->Ix P p ρ ops (rem ops listed) st st'->iJ E g n st a w->wpAny P .any ops Q fuel listed a w:=by
 intro fuel
 induction fuel with
 | zero =>
  intro listed st g a w hs hd hl hr hS;have h0:rem ops listed=[]:=r0 hl;rw [h0] at hr;have hr:st'=st:=hr;refine ⟨?_,hQ g a w (hr ▸ hS)⟩;refine List.eq_nil_iff_forall_not_mem.2 λj hj=>?_;obtain ⟨h1,o,ho,_⟩:=mem_ready.1 hj;have:j∈rem ops listed:=qH.2 ⟨(Array.getElem?_eq_some_iff.1 ho).1,h1⟩;rw [h0] at this;simp at this
 | succ fuel ih =>
  intro listed st g a w hs hd hl hr hS;have hsorted:(rem ops listed).Pairwise (· < ·):=List.Pairwise.filter _ List.pairwise_lt_range;refine ⟨λhnil=>?_,λi hi=>?_⟩
  ·exfalso
   cases hrem:rem ops listed with
   | nil=>rw [hrem] at hl; cases hl
   | cons i l =>
    have him:i∈rem ops listed:=by rw [hrem]; simp
    obtain ⟨hlt,hun⟩:=qH.1 him;have:i∈Region.ready .any ops listed:=by
     refine mem_ready.2 ⟨hun,_,zXV hlt,λe he hb=>?_⟩;have hlt2:=hF.back i _ (zXV hlt) e he hb;have hlt3:e.on < listed.size:=by omega
     cases hee:listed.getD e.on false with
     | true=>rfl
     | false =>
      have hm:e.on∈rem ops listed:=qH.2 ⟨by omega,by rw [HV hlt3]; exact hee⟩;rw [hrem] at hm hsorted;rcases List.mem_cons.1 hm with h | h
      ·omega
      ·have:=(List.pairwise_cons.1 hsorted).1 _ h;omega
    rw [hnil] at this;simp at this
  ·obtain ⟨hun,o,ho,hall⟩:=mem_ready.1 hi;have hlt:i < ops.size:=(Array.getElem?_eq_some_iff.1 ho).1;have him:i∈rem ops listed:=qH.2 ⟨hlt,hun⟩;obtain ⟨b,h1,h2⟩:=pull him (λl1 l2 hsplit hni j hj=>by
    have hjm:j∈rem ops listed:=by rw [hsplit]; exact List.mem_append.2 (.inl hj)
    have hji:j < i:=by
     rw [hsplit] at hsorted;exact (List.pairwise_append.1 hsorted).2.2 j hj i (zQk ..)
    rcases hF.ind i j o ho hji with h | h
    ·have h3:=closed hF hd i o ho hall j h;have h4:=(qH.1 hjm).2;rw [HV (by rw [hs]; exact (qH.1 hjm).1),h3] at h4
     cases h4
    ·exact h) hr
   refine vK hS (hF.dst i) h1 λg' a' w' hS'=>ih (listed.setIfInBounds i true) b g' a' w' (by simp [hs]) ?_ ?_ ?_ hS'
   ·intro k o' hk ho' e he hb
    by_cases hik:i=k
    ·subst hik;rw [ho] at ho';injection ho' with ho'
     subst ho';exact getD_set_true (hall e he hb)
    ·rw [getD_set_ne false hik] at hk;exact getD_set_true (hd k o' hk ho' e he hb)
   ·rw [HU hs him,List.length_erase_of_mem him,hl];rfl
   ·rw [HU hs him];exact h2
def zQ(P:Program)(p:Nat->Bool)(ρ:Nat->eh)(ops:Array Oper):List Oper->St->St->Prop
 | [],st,st'=>st'=st
 | o :: l,st,st'=>∃ b,wA P p ρ ops o st b/\zQ P p ρ ops l b st'
theorem uS:∀ {l:List Oper} {k:Nat} {st:St},(∀ j,l[j]?=ops[k+j]?)->zQ P p ρ ops l st st'->Ix P p ρ ops (zWh k l.length) st st'
 | [],k,st,_,h=>h
 | o :: l,k,st,hl,⟨b,h1,h2⟩=>by
  refine ⟨b,?_,uS (k:=k+1) (λj=>by have:=hl (j+1); simpa [zZZ,Nat.add_comm 1 j] using this) h2⟩;have:=hl 0;simp at this;unfold qf;rw [<- this];exact h1
theorem L8{Q:Exit->Act->World->Prop}{id:Nat}{draw:Bool}(hm:draw=true->P.follows .mixedOrders=true)(hok:if draw then Ln p ρ n ops=true else ops.toList.all (mT n)=true)
  (hS:iJ E g n st a w) (hr:zQ P p ρ ops ops.toList st st') (hQ:∀ g a w,iJ E g n st' a w->Q .normal a w):(Code.region id ops draw).wp P Q a w:=by
 have hrI:Ix P p ρ ops (zXQ ops.size) st st':=by
  have:=uS (k:=0) (l:=ops.toList) (by simp) hr;rw [zXJ]
  simpa using this
 cases draw with
 | false =>
  refine wp_region (Lm (λi o ho=>?_) hQ hS hrI);exact List.all_eq_true.1 (show ops.toList.all (mT n)=true from hok) o (by simpa using Array.mem_of_getElem? ho)
 | true =>
  have hF:=Iz (by simpa using hok);have hrem:rem ops (zZx ops.size false)=zXQ ops.size:=by
   unfold rem;refine List.filter_eq_self.2 λi hi=>?_;have:i < ops.size:=List.mem_range.1 hi;simp [this]
  refine wp_region_any (hm rfl) (QV hF hQ _ _ st g a _ (by simp) (λk o hk=>?_) (by rw [hrem]; simp) (by rw [hrem]; exact hrI) hS.drew)
  by_cases hlt:k < ops.size <;> simp [hlt] at hk
end
end Go.Tm
namespace Go.Tm
open Go.RowKit
def EL(E:En)(ls:List Nat):Prop:=∃ fl,ls=E.lent.map Prod.fst++fl/\(∀ q∈E.lent,900<=q.1)/\(∀ v,E.pin=some v->0∈fl)/\(1∈fl->∀ b,¬ E.F0 b/\¬ E.X b)
theorem EL.mem{E:En}{ls:List Nat}(h:EL E ls){i b:Nat}(hi:(i,b)∈E.lent):i∈ls/\900<=i:=by
 obtain ⟨fl,rfl,h2,_⟩:=h;exact ⟨zVZ _ (List.mem_map.2 ⟨_,hi,rfl⟩),h2 _ hi⟩
theorem EL.pin{E:En}{ls:List Nat}(h:EL E ls){v:Value}(hv:E.pin=some v):0∈ls:=by
 obtain ⟨fl,rfl,_,h2,_⟩:=h;exact List.mem_append_right _ (h2 v hv)
def Qb(P:Program)(E:En)(ls:List Nat):Prop:=EL E ls/\Tb P E
def Wp(P:Program)(n:Nat)(ls:List Nat)(c:Code)(Q:Exit->St->Prop)(st:St):Prop :=
 ∀ (E:En) (g:Gh) (a:Act) (w:World),Qb P E ls->iJ E g n st a w->c.wp P (λe a' w'=>∃ g' st',iJ E g' n st' a' w'/\Q e st') a w
def iz(N:St->Prop)(Q:Exit->St->Prop):Exit->St->Prop
 | .normal,st=>N st
 | e,st=>Q e st
def Ty(id:Nat)(Q:Exit->St->Prop):Exit->St->Prop
 | .exit id',st=>bif zXZ id' id then Q .normal st else Q (.exit id') st
 | e,st=>Q e st
def Le(n:Nat)(ls:List Nat)(st st1:St):Prop:=∀ (E:En) (g:Gh) (a:Act) (w:World),EL E ls->iJ E g n st a w->∃ g',iJ E g' n st1 a w
section
variable {P:Program} {n:Nat} {ls:List Nat} {Q:Exit->St->Prop} {st st':St} {x y c:Code}
theorem Wp.skip(h:Q .normal st):Wp P n ls .skip Q st:=λE g a w hE hS=>wp_skip ⟨g,st,hS,h⟩
theorem Wp.ret(h:Q .ret st):Wp P n ls .ret Q st:=λE g a w hE hS=>wp_ret ⟨g,st,hS,h⟩
theorem Wp.exit{id:Nat}(h:Q (.exit id) st):Wp P n ls (.exit id) Q st:=λE g a w hE hS=>wp_exit ⟨g,st,hS,h⟩
theorem Wp.mono{Q':Exit->St->Prop}(h:Wp P n ls c Q st)(hq:∀ e st,Q e st->Q' e st):Wp P n ls c Q' st :=
 λE g a w hE hS=>wp_mono (h E g a w hE hS) λe a' w' ⟨g',st',h1,h2⟩=>⟨g',st',h1,hq e st' h2⟩
theorem Wp.seq(h:Wp P n ls x (iz (Wp P n ls y Q) Q) st):Wp P n ls (.seq x y) Q st :=
 λE g a w hE hS=>wp_seq (wp_mono (h E g a w hE hS) λe a' w' ⟨g',st',h1,h2⟩=>by
  cases e with
  | normal=>exact h2 E g' a' w' hE h1
  | _=>exact ⟨g',st',h1,h2⟩)
theorem Wp.cond{o:Operand}{b:Bool}(ho:st.eval o=some (.t (.bool b)))(h:Wp P n ls (if b then x else y) Q st):Wp P n ls (.cond o x y) Q st :=
 λE g a w hE hS=>by
  have hv:=bT hS ho;generalize hva:a.eval o=v at hv
  cases hv with
  | t x v hr =>
   cases hr
   exact wp_cond hva (h E g a w hE hS)
theorem R0{o:Operand}{b:Bool}(ho:st.eval o=some (.t (.bool b)))(ht:b=true->Wp P n ls x Q st)(hf:b=false->Wp P n ls y Q st):Wp P n ls (.cond o x y) Q st :=
 Wp.cond ho (by
  cases b with
  | true=>exact ht rfl
  | false=>exact hf rfl)
theorem Wp.block{id:Nat}(h:Wp P n ls c (Ty id Q) st):Wp P n ls (.block id c) Q st :=
 λE g a w hE hS=>wp_block (wp_mono (h E g a w hE hS) λe a' w' ⟨g',st',h1,h2⟩=>by
  cases e with
  | exit id' =>
   simp only [Exit.inBlock];simp only [Ty] at h2
   split
   ·rename_i he;subst he;rw [zZk] at h2;exact ⟨g',st',h1,h2⟩
   ·rename_i he;have:zXZ id' id=false:=by
     cases hb:zXZ id' id
     ·rfl
     ·exact absurd (zWw hb) he
    rw [this] at h2;exact ⟨g',st',h1,h2⟩
  | _=>exact ⟨g',st',h1,h2⟩)
def Um(P:Program)(n:Nat)(ls:List Nat)(c:Code)(Q:Exit->St->Prop):Nat->St->Prop
 | 0,_=>False
 | k+1,st=>Wp P n ls c (iz (Um P n ls c Q k) Q) st
def zj(P:Program)(c:Code)(Q:Exit->Act->World->Prop):Nat->Act->World->Prop
 | 0,_,_=>False
 | k+1,a,w=>c.wp P (Exit.then (zj P c Q k) Q) a w
theorem Nu{c:Code}{Q:Exit->Act->World->Prop}{a:Act}{w:World}{k:Nat}(h:zj P c Q k a w):(Code.loop c).wp P Q a w:=by
 classical
 have key:∀ a w,(∃ k,zj P c Q k a w)->∃ k,zj P c Q k a w/\∀ j,zj P c Q j a w->k<=j:=by
  intro a w ⟨k,hk⟩
  induction k using Nat.strongRecOn with
  | _ k ih =>
   by_cases hm:∀ j,zj P c Q j a w->k<=j
   ·exact ⟨k,hk,hm⟩
   ·obtain ⟨j,hj⟩:=Classical.not_forall.1 hm;obtain ⟨hj1,hj2⟩:=Classical.not_imp.1 hj;exact ih j (by omega) hj1
 let μ:Act->World->Nat:=λa w=>if h:∃ k,zj P c Q k a w then Classical.choose (key a w h) else 0
 have hμ:∀ a w (h:∃ k,zj P c Q k a w),zj P c Q (μ a w) a w/\∀ j,zj P c Q j a w->μ a w<=j:=by
  intro a w h;have:μ a w=Classical.choose (key a w h):=by simp only [μ,h,dite_true]
  rw [this];exact Classical.choose_spec (key a w h)
 refine wp_loop (λa w=>∃ k,zj P c Q k a w) μ ⟨k,h⟩ λa w hI=>?_;obtain ⟨h1,h2⟩:=hμ a w hI
 cases hm:μ a w with
 | zero=>rw [hm] at h1; exact h1.elim
 | succ m =>
  rw [hm] at h1;refine wp_mono h1 λe a' w' hq=>?_
  cases e with
  | normal =>
   have hI':∃ k,zj P c Q k a' w':=⟨m,hq⟩;exact ⟨hI',by have:=(hμ a' w' hI').2 m hq; omega⟩
  | _=>exact hq
theorem Wp.loop{k:Nat}(h:Um P n ls c Q k st):Wp P n ls (.loop c) Q st:=by
 intro E g a w hE hS;refine Nu (k:=k) ?_
 induction k generalizing st g a w with
 | zero=>exact h.elim
 | succ k ih =>
  refine wp_mono (h E g a w hE hS) λe a' w' ⟨g',st',h1,h2⟩=>?_
  cases e with
  | normal=>exact ih h2 g' a' w' h1
  | _=>exact ⟨g',st',h1,h2⟩
theorem Wp.le{st1:St}(hl:Le n ls st st1)(h:Wp P n ls c Q st1):Wp P n ls c Q st:=λE g a w hE hS=>by
 obtain ⟨g',hS'⟩:=hl E g a w hE.1 hS;exact h E g' a w hE hS'
def ae(P:Program)(p:Nat->Bool)(ρ:Nat->eh)(ops:Array Oper)(l:List Oper)(st:St)(K:St->Prop):Prop:=∃ st',zQ P p ρ ops l st st'/\K st'
theorem Wp.region{p:Nat->Bool}{ρ:Nat->eh}{ops:Array Oper}{id:Nat}{draw:Bool}(hm:draw=true->P.follows .mixedOrders=true)(hok:if draw then Ln p ρ n ops=true else ops.toList.all (mT n)=true)
  (h:ae P p ρ ops ops.toList st (Q .normal)):Wp P n ls (.region id ops draw) Q st:=λE g a w hE hS=>by
 obtain ⟨st',h1,h2⟩:=h;have:=hE.2;exact L8 hm hok hS h1 λg a w hS'=>⟨g,st',hS',h2⟩
section
variable {p:Nat->Bool} {ρ:Nat->eh} {ops:Array Oper} {l:List Oper} {K:St->Prop} {o:Oper}
theorem ae.step{b:St}(h:wA P p ρ ops o st b)(hr:ae P p ρ ops l b K):ae P p ρ ops (o :: l) st K:=by
 obtain ⟨st',h1,h2⟩:=hr;exact ⟨st',⟨b,h,h1⟩,h2⟩
theorem ae.op{x:A}{st1:St}(hg:iW ops st o=some true)(hf:eY ρ st o=true)(h:(pr P ρ st.eval o).run st=some (x,st1))(hr:ae P p ρ ops l (st1.put o.dst x) K):ae P p ρ ops (o :: l) st K :=
 ae.step (.run x st1 hg hf (.plain h)) hr
end
end
end Go.Tm
namespace Go.Tm
open Go.RowKit
mutual
def A.ren(φo φr:Nat->Nat):A->A
 | .own r=>.own (φr r)
 | .obj s off=>.obj (φo s) off
 | .elem r sz i off=>.elem (φr r) sz i off
 | .sub r sz lo=>.sub (φr r) sz lo
 | .win r lo m=>.win (φr r) lo m
 | .agg l=>.agg (qW φo φr l)
 | .tup l=>.tup (qW φo φr l)
 | .clo f l=>.clo f (qW φo φr l)
 | .t x=>.t x
 | .nil=>.nil
 | .fadr c=>.fadr c
 | .nn sz rows=>.nn sz rows
 | .undef=>.undef
 | .raw v=>.raw v
 | .osl s a n c=>.osl (φo s) a n c
 | .ext s x=>.ext s x
 | .exa s c=>.exa s c
 | .shp x=>.shp x
def qW(φo φr:Nat->Nat):List A->List A
 | []=>[]
 | a :: r=>a.ren φo φr :: qW φo φr r
end
mutual
def A.known(O R:Nat->Bool):A->Bool
 | .own r=>R r
 | .obj s _=>O s
 | .osl s _ _ _=>O s
 | .elem r _ _ _=>R r
 | .sub r _ _=>R r
 | .win r _ _=>R r
 | .agg l=>sf O R l
 | .tup l=>sf O R l
 | .clo _ l=>sf O R l
 | _=>true
def sf(O R:Nat->Bool):List A->Bool
 | []=>true
 | a :: r=>a.known O R && sf O R r
end
def Af{β:Type}:List (Nat×β)->Nat->Option β
 | [],_=>none
 | (k,v) :: r,i=>bif zXZ k i then some v else Af r i
theorem oH{β:Type}:∀ {l:List (Nat×β)} {i:Nat} {v:β},Af l i=some v->(i,v)∈l
 | [],i,v,h=>by cases h
 | (k,u) :: r,i,v,h=>by
  unfold Af at h
  cases hk:zXZ k i with
  | true =>
   rw [hk] at h
   cases h
   rw [zWw hk];exact zQk ..
  | false =>
   rw [hk] at h;exact zQv _ (oH h)
structure Sx where
 tm:List (Nat×A)
 ob:List (Nat×List A)
 rw:List (Nat×P4)
def Sx.st(s:Sx):St:=⟨λi=>match Af s.tm i with | some a=>a | none=>.undef,Af s.ob,Af s.rw⟩
theorem Ag{φo φr:Nat->Nat}:∀ (l:List A),(qW φo φr l).length=l.length
 | []=>rfl
 | a :: r=>by simp [qW,Ag r]
theorem IA{φo φr:Nat->Nat}:∀ (l:List A) (j:Nat),(qW φo φr l)[j]?=l[j]?.map (A.ren φo φr)
 | [],j=>by simp [qW]
 | a :: r,0=>by simp [qW]
 | a :: r,j+1=>by simp [qW,IA r j]
theorem Cf{O R:Nat->Bool}:∀ {l:List A},sf O R l=true->∀ (j:Nat) (a:A),l[j]?=some a->a.known O R=true
 | [],_,j,a,h=>by simp at h
 | x :: r,hk,j,a,h=>by
  unfold sf at hk;simp only [sk] at hk
  cases j with
  | zero=>simp at h; exact h ▸ hk.1
  | succ j=>exact Cf hk.2 j a (by simpa using h)
theorem R4{w:World}{g:Gh}{O R:Nat->Prop}{φo φr:Nat->Nat}{O' R':Nat->Bool}:∀ (a:A) {v:Value},VR w g O R (a.ren φo φr) v->a.known O' R'=true ->
  VR w { g with ob:=λs=>g.ob (φo s),rw:=λr=>g.rw (φr r) } (λs=>O' s=true) (λr=>R' r=true) a v:=by
 have main:∀ (k:Nat) (a:A),SizeOf.sizeOf a < k->∀ {v:Value},VR w g O R (a.ren φo φr) v->a.known O' R'=true ->
   VR w { g with ob:=λs=>g.ob (φo s),rw:=λr=>g.rw (φr r) } (λs=>O' s=true) (λr=>R' r=true) a v:=by
  intro k
  induction k with
  | zero=>intro a h; omega
  | succ k ih =>
   intro a hk v h hn;have hl:∀ (l:List A) (vs:List Value),SizeOf.sizeOf l<=k->(∀ (j:Nat) (x:A) (u:Value),(qW φo φr l)[j]?=some x->vs[j]?=some u->VR w g O R x u)->sf O' R' l=true ->
     ∀ (j:Nat) (x:A) (u:Value),l[j]?=some x->vs[j]?=some u->VR w { g with ob:=λs=>g.ob (φo s),rw:=λr=>g.rw (φr r) } (λs=>O' s=true) (λr=>R' r=true) x u:=λl vs hs hx hkn j x u hj hu=>by
    have:=List.sizeOf_lt_of_mem (zQQ hj);exact ih x (by omega) (hx j _ u (by rw [IA,hj]; rfl) hu) (Cf hkn j x hj)
   cases a with
   | t x=>unfold A.ren at h; cases h with | t x v h=>exact .t x v h
   | nil=>unfold A.ren at h; cases h; exact .nil
   | own r =>
    unfold A.ren at h;unfold A.known at hn
    cases h with | own _ hr=>exact .own (g:={ g with ob:=λs=>g.ob (φo s),rw:=λr=>g.rw (φr r) }) r hn
   | agg l =>
    unfold A.ren at h;unfold A.known at hn
    cases h with | agg _ vs h1 h2=>exact .agg l vs ((Ag l).symm.trans h1) (hl l vs (by simp at hk; omega) h2 hn)
   | tup l =>
    unfold A.ren at h;unfold A.known at hn
    cases h with | tup _ vs h1 h2=>exact .tup l vs ((Ag l).symm.trans h1) (hl l vs (by simp at hk; omega) h2 hn)
   | obj s off =>
    unfold A.ren at h;unfold A.known at hn
    cases h with | obj _ _ hs=>exact .obj (g:={ g with ob:=λs=>g.ob (φo s),rw:=λr=>g.rw (φr r) }) s off hn
   | elem r sz i off =>
    unfold A.ren at h;unfold A.known at hn
    cases h with | elem _ _ _ _ b n c hr he=>exact .elem r sz i off b n c hn he
   | win r lo m =>
    unfold A.ren at h;unfold A.known at hn
    cases h with | win _ _ _ n c c' ad a' hr he hm hp=>exact .win r lo m n c c' ad a' hn he hm hp
   | sub r sz lo =>
    unfold A.ren at h;unfold A.known at hn
    cases h with | sub _ _ _ n c c' ad a' hr he hp=>exact .sub r sz lo n c c' ad a' hn he hp
   | fadr c =>
    unfold A.ren at h
    cases h with | fadr _ b off u hF hx hr=>exact .fadr c b off u hF hx hr
   | nn sz rows =>
    unfold A.ren at h
    cases h with | nn _ _ _ hr hv=>exact .nn sz rows _ hr hv
   | clo f l =>
    unfold A.ren at h;unfold A.known at hn
    cases h with | clo _ _ vs h1 h2=>exact .clo f l vs ((Ag l).symm.trans h1) (hl l vs (by simp at hk; omega) h2 hn)
   | undef=>exact .undef v
   | raw u =>
    unfold A.ren at h
    cases h with | raw=>exact .raw _
   | osl s a n c =>
    unfold A.ren at h;unfold A.known at hn
    cases h with | osl _ _ _ _ h1 h2=>exact VR.osl (g:={ g with ob:=λs=>g.ob (φo s),rw:=λr=>g.rw (φr r) }) s a n c hn h2
   | ext s x =>
    unfold A.ren at h
    cases h with | ext _ _ _ hs h=>exact .ext s x _ hs h
   | shp x =>
    unfold A.ren at h
    cases h with | shp _ _ h=>exact .shp x _ h
   | exa s c =>
    unfold A.ren at h
    cases h with | exa _ _ b off u hs hD hx hr=>exact .exa s c b off u hs hD hx hr
 intro a v;exact main (SizeOf.sizeOf a+1) a (by omega)
def zR(m:List (Nat×Nat))(i:Nat):Nat:=match Af m i with | some j=>j | none=>i
def Nv:List Nat->Bool
 | []=>true
 | x :: r=>!r.contains x && Nv r
theorem Cg:∀ {l:List Nat},Nv l=true->l.Nodup
 | [],_=>List.nodup_nil
 | x :: r,h=>by
  unfold Nv at h;simp only [sk,Bool.not_eq_true'] at h;refine List.nodup_cons.2 ⟨λhm=>?_,Cg h.2⟩;have:=h.1;simp at this;exact this hm
def Sx.O(s:Sx)(i:Nat):Bool:=(Af s.ob i).isSome
def Sx.R(s:Sx)(i:Nat):Bool:=(Af s.rw i).isSome
def HW(O R:Nat->Bool):List (Nat×List A)->Bool
 | []=>true
 | (_,l) :: r=>sf O R l && HW O R r
def HX(O R:Nat->Bool)(n:Nat):List (Nat×A)->Bool
 | []=>true
 | (k,a) :: r=>Nat.blt k n && a.known O R && HX O R n r
theorem Gf{O R:Nat->Bool}:∀ {l:List (Nat×List A)},HW O R l=true->∀ q∈l,sf O R q.2=true
 | [],_,q,h=>by simp at h
 | (k,x) :: r,hk,q,h=>by
  unfold HW at hk;simp only [sk] at hk;rcases List.mem_cons.1 h with rfl | h
  ·exact hk.1
  ·exact Gf hk.2 q h
theorem Ah{O R:Nat->Bool}{n:Nat}:∀ {l:List (Nat×A)},HX O R n l=true->∀ q∈l,q.1 < n/\q.2.known O R=true
 | [],_,q,h=>by simp at h
 | (k,x) :: r,hk,q,h=>by
  unfold HX at hk;simp only [sk] at hk;rcases List.mem_cons.1 h with rfl | h
  ·exact ⟨by simpa using hk.1.1,hk.1.2⟩
  ·exact Ah hk.2 q h
def Sx.ok(s:Sx)(n:Nat)(ls:List Nat)(mo mr:List (Nat×Nat)):Bool :=
 Nv (s.ob.map λq=>zR mo q.1) && Nv (s.rw.map λq=>zR mr q.1) && HW s.O s.R s.ob && HX s.O s.R n s.tm && ls.all λi=>match i with | 0=>s.R PR && zXZ (zR mr PR) PR | 1=>true | i=>s.O i && zXZ (zR mo i) i
theorem E5{β:Type}{φ:Nat->Nat}:∀ {l:List (Nat×β)},(l.map λq=>φ q.1).Nodup->∀ {q q':Nat×β},q∈l->q'∈l->φ q.1=φ q'.1->q=q'
 | [],_,q,q',h,_,_=>by simp at h
 | x :: r,hn,q,q',h,h',he=>by
  simp only [zWv,List.nodup_cons,zYJ,not_exists,not_and] at hn;rcases List.mem_cons.1 h with h1 | h1
  ·rcases List.mem_cons.1 h' with h2 | h2
   ·rw [h1,h2]
   ·subst h1; exact absurd he.symm (hn.1 q' h2)
  ·rcases List.mem_cons.1 h' with h2 | h2
   ·subst h2; exact absurd he (hn.1 q h1)
   ·exact E5 hn.2 h1 h2 he
theorem HY{α β:Type}{f g:α->β}:∀ {l:List α},l.map f=l.map g->∀ x∈l,f x=g x
 | [],_,x,h=>by simp at h
 | y :: r,he,x,h=>by
  simp only [zWv,List.cons.injEq] at he;rcases List.mem_cons.1 h with rfl | h
  ·exact he.1
  ·exact HY he.2 x h
theorem Le.of{n:Nat}{ls:List Nat}{st:St}{s:Sx}{mo mr:List (Nat×Nat)}(hok:s.ok n ls mo mr=true)(ht:s.tm.map (λq=>st.tm q.1)=s.tm.map (λq=>q.2.ren (zR mo) (zR mr)))
  (ho:s.ob.map (λq=>st.ob (zR mo q.1))=s.ob.map (λq=>some (qW (zR mo) (zR mr) q.2))) (hr:s.rw.map (λq=>st.rw (zR mr q.1))=s.rw.map (λq=>some q.2)):Le n ls st s.st:=by
 simp only [Sx.ok,sk] at hok;obtain ⟨⟨⟨⟨hno,hnr⟩,hkl⟩,hkt⟩,hls⟩:=hok;intro E g a w hE hS;have hM:=hS.mem;have hob:∀ {i:Nat} {l:List A},Af s.ob i=some l->st.ob (zR mo i)=some (qW (zR mo) (zR mr) l):=λ{i l} h=>HY ho (i,l) (oH h);have hrw:∀ {i:Nat} {x:P4},Af s.rw i=some x->st.rw (zR mr i)=some x:=λ{i x} h=>HY hr (i,x) (oH h);have hOe:(λi=>s.O i=true)=s.st.O:=rfl;have hRe:(λi=>s.R i=true)=s.st.R:=rfl;have hL:∀ {r},s.st.L r->st.L (zR mr r):=λ{r} ⟨e,sz,rows,h⟩=>⟨e,sz,rows,hrw h⟩;have hvr:∀ {x:A} {v:Value},VR w g st.O st.R (x.ren (zR mo) (zR mr)) v->x.known s.O s.R=true->VR w { g with ob:=λs=>g.ob (zR mo s),rw:=λr=>g.rw (zR mr r) } s.st.O s.st.R x v:=λ{x v} h hk=>by
  rw [<- hOe,<- hRe];exact R4 x h hk
 refine ⟨{ g with ob:=λs=>g.ob (zR mo s),rw:=λr=>g.rw (zR mr r) },⟨⟨λi cells h=>?_,λi i' h h' he=>?_,λi x h=>hM.row _ x (hrw h),λr r' b h h' he he'=>?_,λr i h h'=>?_,hM.F,hM.os,hM.tape,hM.output,hM.sizes,hM.frame,hM.shp,hM.dep0⟩,hS.size,hS.defers,λi hi=>?_,λi hi=>?_,λi b hib=>?_,λv hv=>?_⟩⟩
 ·have h:Af s.ob i=some cells:=h;obtain ⟨arr,e,h1,h2,h3,h4,h5⟩:=hM.ob _ _ (hob h);rw [Ag] at h2;refine ⟨arr,e,h1,h2,λj x hj=>?_,h4,h5⟩;obtain ⟨h6,v,h7,h8⟩:=h3 j (x.ren (zR mo) (zR mr)) (by rw [IA,hj]; rfl);refine ⟨?_,v,h7,hvr h8 (Cf (Gf hkl _ (oH h)) j x hj)⟩
  cases x <;> first | rfl | (simp [A.ren,A.one] at h6)
 ·obtain ⟨l,hl⟩:=Option.isSome_iff_exists.1 h;obtain ⟨l',hl'⟩:=Option.isSome_iff_exists.1 h';have:=hM.obne _ _ (show st.O _ by unfold St.O; rw [hob hl]; rfl) (show st.O _ by unfold St.O; rw [hob hl']; rfl) he;exact congrArg Prod.fst (E5 (Cg hno) (oH hl) (oH hl') this)
 ·have:=hM.rowne _ _ b (hL h) (hL h') he he';obtain ⟨e,sz,rows,hx⟩:=h;obtain ⟨e',sz',rows',hx'⟩:=h';exact congrArg Prod.fst (E5 (Cg hnr) (oH hx) (oH hx') this)
 ·obtain ⟨l,hl⟩:=Option.isSome_iff_exists.1 h';exact hM.rowob _ _ (hL h) (show st.O _ by unfold St.O; rw [hob hl]; rfl)
 ·obtain ⟨v,h1,h2⟩:=hS.tm i hi;refine ⟨v,h1,?_⟩;show VR w _ s.st.O s.st.R (match Af s.tm i with | some a=>a | none=>.undef) v
  cases hl:Af s.tm i with
  | none=>exact .undef v
  | some x =>
   have:=HY ht (i,x) (oH hl);simp only at this;rw [this] at h2;exact hvr h2 (Ah hkt _ (oH hl)).2
 ·show (match Af s.tm i with | some a=>a | none=>.undef)=A.undef
  cases hl:Af s.tm i with
  | none=>rfl
  | some x =>
   have:=(Ah hkt _ (oH hl)).1;simp only at this;omega
 ·obtain ⟨hi,h9⟩:=hE.mem hib;have:=List.all_eq_true.1 hls i hi;obtain ⟨k,rfl⟩:∃ k,i=k+2:=⟨i - 2,by omega⟩;simp only [sk] at this;refine ⟨this.1,?_⟩;show g.ob (zR mo (k+2))=b;rw [zWw this.2];exact (hS.lent (k+2) b hib).2
 ·have:=List.all_eq_true.1 hls 0 (hE.pin hv);simp only [sk] at this;refine ⟨this.1,?_⟩;show g.rw (zR mr PR)=v;rw [zWw this.2];exact (hS.pin v hv).2
end Go.Tm
namespace Go.Tm
open Go.RowKit
def zk(P:Program)(st:St):List ResultVar->Option (List A)
 | []=>some []
 | .tmp t :: r=>match zk P st r with | some l=>some (st.tm t :: l) | none=>none
 | .cell a t :: r=>match st.tm a with
  | .obj s off=>match st.ob s with
   | some cells=>match M2 P t,iV P t with
    | some g,some n=>match B9 g n cells off,zk P st r with | some x,some l=>some (x :: l) | _,_=>none
    | _,_=>none
   | none=>none
  | _=>none
def R5:List A->A
 | [x]=>x
 | l=>.tup l
def Ai{α:Type}:Nat->List V->(List (List C)->MA α)->MA α
 | _,[],k=>k []
 | i,.ptr _ :: r,k=>Ac (900+i) λc=>Ai (i+1) r λos=>k (c :: os)
 | i,_ :: r,k=>Ai (i+1) r k
def eU:Nat->List V->List Nat
 | _,[]=>[]
 | i,.ptr _ :: r=>(900+i) :: eU (i+1) r
 | i,_ :: r=>eU (i+1) r
def kW:Nat->List V->List Value->List (Nat×Nat)
 | i,.ptr _ :: r,.pointer (some a) :: vs=>(900+i,a.block) :: kW (i+1) r vs
 | i,.ptr _ :: r,_ :: vs=>(900+i,0) :: kW (i+1) r vs
 | i,_ :: r,_ :: vs=>kW (i+1) r vs
 | i,.ptr _ :: r,[]=>(900+i,0) :: kW (i+1) r []
 | i,_ :: r,[]=>kW (i+1) r []
 | _,[],_=>[]
def ij:Nat->List V->List A->Bool
 | _,[],_=>true
 | i,.ptr _ :: r,.obj s 0 :: as=>zXZ s (900+i) && ij (i+1) r as
 | i,.ptr _ :: r,_=>false
 | i,_ :: r,_ :: as=>ij (i+1) r as
 | i,_ :: r,[]=>false
section
variable {P:Program} {E:En} {g:Gh} {st st':St} {a:Act} {w:World} {n:Nat}
theorem oI:∀ (l:List V) (i:Nat) (vs:List Value),(kW i l vs).map Prod.fst=eU i l
 | [],i,vs=>by cases vs <;> rfl
 | x :: l,i,[]=>by cases x <;> simp [kW,eU,oI l]
 | x :: l,i,v :: vs=>by
  cases x <;> simp only [eU] <;> try (simp only [kW]; exact oI l _ _)
  cases v <;> try (simp only [kW,zWv,List.cons.injEq,true_and]; exact oI l _ _)
  rename_i o
  cases o <;> (simp only [kW,zWv,List.cons.injEq,true_and]; exact oI l _ _)
theorem yG:∀ (l:List V) (i:Nat),∀ q∈eU i l,900<=q
 | [],i,q,h=>by simp [eU] at h
 | x :: l,i,q,h=>by
  cases x <;> simp only [eU] at h <;> try exact yG l _ q h
  rcases List.mem_cons.1 h with rfl | h
  ·omega
  ·exact yG l _ q h
theorem E6(l:List V)(i:Nat)(vs:List Value):∀ q∈kW i l vs,900<=q.1:=λq hq =>
 yG l i q.1 (by rw [<- oI l i vs]; exact List.mem_map.2 ⟨q,hq,rfl⟩)
theorem E7:∀ {rs:List ResultVar} {l:List A},iJ E g n st a w->zk P st rs=some l->(∀ t,.tmp t∈rs->t < n)->∃ vs:List Value,l.length=vs.length/\(∀ (j:Nat) (x:A) (u:Value),l[j]?=some x->vs[j]?=some u->VR w g st.O st.R x u) /\
  ∀ (f:ResultVar->Sem Value) (_:∀ u,f (.tmp u)=pure (a.tmps.getD u undef)) (_:∀ p t,f (.cell p t)=(do loadVar t (<- asAddr (a.tmps.getD p undef)))),(rs.mapM f).run P w=.ok vs w
 | [],l,hS,h,_=>by
  cases h
  exact ⟨[],rfl,by simp,λf _ _=>by simp⟩
 | .tmp t :: r,l,hS,h,ht=>by
  unfold zk at h
  split at h
  ·rename_i l' hl'
   cases h
   obtain ⟨vs,h1,h2,h3⟩:=E7 hS hl' (λt h=>ht t (by simp [h]));obtain ⟨v,h4,h5⟩:=hS.tm t (ht t (by simp));refine ⟨v :: vs,by simp [h1],λj x u hx hu=>?_,λf hf hc=>?_⟩
   ·cases j with
    | zero=>simp at hx hu; subst hx hu; exact h5
    | succ j=>exact h2 j x u (by simpa using hx) (by simpa using hu)
   ·have:a.tmps.getD t undef=v:=by simp [h4]
    simp [List.mapM_cons,hf,h3 f hf hc,h4]
  ·cases h
 | .cell p t :: r,l,hS,h,ht=>by
  unfold zk at h
  split at h <;> try (cases h; done)
  rename_i s off hp
  split at h <;> try (cases h; done)
  rename_i cells hc
  split at h <;> try (cases h; done)
  rename_i gg nn hg hn
  split at h <;> try (cases h; done)
  rename_i x l' hx hl'
  cases h
  obtain ⟨vs,h1,h2,h3⟩:=E7 hS hl' (λt h=>ht t (by simp [h]));have hlt:p < n:=by
   rcases Nat.lt_or_ge p n with h | h
   ·exact h
   ·rw [hS.und p h] at hp; cases hp
  obtain ⟨v,h4,h5⟩:=hS.tm p hlt;rw [hp] at h5
  cases h5 with
  | obj s off hs =>
   obtain ⟨arr,e,hh,hl,hv,_⟩:=hS.mem.ob s cells hc;obtain ⟨u,hu,hr⟩:=Aa (P:=P) (w:=w) (g:=g) (st:=st) (b:=g.ob s) (o:=0) hg hn hx (λj y hy=>by
    obtain ⟨_,u,hu,hr⟩:=hv j y hy;exact ⟨u,by rw [zWZ]; simp [World.cell?,hh,hu],hr⟩)
   rw [zWZ] at hu;refine ⟨u :: vs,by simp [h1],λj x u hx hu=>?_,λf hf hcc=>?_⟩
   ·cases j with
    | zero=>simp at hx hu; subst hx hu; exact hr
    | succ j=>exact h2 j x u (by simpa using hx) (by simpa using hu)
   ·simp [List.mapM_cons,hcc,h4,asAddr,hu,h3 f hf hcc]
theorem HZ{fn:Func}{l:List A}(hS:iJ E g n st a w)(h:zk P st fn.results.toList=some l)(ht:(fn.results.toList.all λ| .tmp t=>Nat.blt t n | _=>true)=true):∃ v,(results fn a.tmps).run P w=.ok v w/\VR w g st.O st.R (R5 l) v:=by
 obtain ⟨vs,h1,h2,h3⟩:=E7 hS h (λt h=>by simpa using List.all_eq_true.1 ht _ h);have hres:fn.results=fn.results.toList.toArray:=by simp
 have hr:(results fn a.tmps).run P w=.ok (if h:vs.toArray.size=1 then vs.toArray[0] else .tuple vs.toArray) w:=by
  unfold results;rw [hres,List.mapM_toArray];simp only [Sem.run_bind,Sem.run_map];rw [h3 _ (λ_=>rfl) (λ_ _=>rfl)];simp only [Result.andThen_ok,Sem.run_pure]
 refine ⟨_,hr,?_⟩
 clear hr h3
 match vs,l,h1,h2 with
 | [],[],_,_=>exact .tup [] [] rfl (λi x v h=>by simp at h)
 | [v],[x],_,h2=>exact h2 0 x v rfl rfl
 | v :: v' :: vs,x :: x' :: l,h1,h2=>exact .tup _ _ h1 h2
theorem zP.len{w:World}{F:Nat->Prop}:∀ {l:List V} {vs:List Value} {bs:List Nat},zP w F l vs bs->l.length=vs.length
 | _,_,_,.nil=>rfl
 | _,_,_,.cons _ _ _ _ _ _ _ hs=>by simp [hs.len]
theorem pt.mono{F F':Nat->Prop}(hF:∀ b,F b->F' b){l:List V}{us:List Value}{os:List (List C)}{bo:List Nat}(h:pt w F l us os bo):pt w F' l us os bo:=by
 induction h with
 | nil=>exact .nil
 | ptr c c' v bs l vs os bo h hs ih=>exact .ptr c c' v bs l vs os bo (h.mono (λ_ _=>rfl) hF (λ_ _=>rfl)) ih
 | skip x v l vs os bo hx hs ih=>exact .skip x v l vs os bo hx ih
theorem xD{α:Type}{st':St}:∀ (l:List V) {i:Nat} {us:List Value} {g:Gh} {st:St} {k:List (List C)->MA α} {y:α},fi E g st w->us.length=l.length->(∀ (j:Nat) (c:List C),l[j]?=some (.ptr c)->us[j]?=some (.pointer (some ⟨g.ob (900+(i+j)),0,none⟩)))->(Ai i l k).run st=some (y,st') ->
  ∃ os st1 g1 bo,fi E g1 st1 w/\pH w w g g1 st.O st.R st1.O st1.R/\Km g st g1 st1/\(k os).run st1=some (y,st')/\pt w g1.F l us os bo/\Tk g st g1 st1 bo
 | [],i,us,g,st,k,y,hM,hl,hp,h=>by
  have:us=[]:=r0 (by simpa using hl);subst this;exact ⟨[],st,g,[],hM,pH.refl _ _ _ _,Km.refl _ _,h,.nil,Tk.nil _ _ _ _⟩
 | x :: l,i,us,g,st,k,y,hM,hl,hp,h=>by
  obtain ⟨u,us,rfl⟩:∃ u us',us=u :: us':=by
   cases us with
   | nil=>simp at hl
   | cons u us=>exact ⟨u,us,rfl⟩
  have hp':∀ (j:Nat) (c:List C),l[j]?=some (.ptr c)->us[j]?=some (.pointer (some ⟨g.ob (900+(i+1+j)),0,none⟩)):=λj c hj=>by
   have:=hp (j+1) c (by simpa using hj);rw [show i+1+j=i+(j+1) by omega]
   simpa using this
  have hoth:(∀ c,x≠.ptr c)->(Ai (i+1) l k).run st=some (y,st')->∃ os st1 g1 bo,fi E g1 st1 w/\pH w w g g1 st.O st.R st1.O st1.R/\Km g st g1 st1/\(k os).run st1=some (y,st')/\pt w g1.F (x :: l) (u :: us) os bo/\Tk g st g1 st1 bo:=λhx h=>by
   obtain ⟨os,st1,g1,bo,h1,h2,h3,h4,h5,h6⟩:=xD l hM (by simpa using hl) hp' h;exact ⟨os,st1,g1,bo,h1,h2,h3,h4,.skip x u l us os bo hx h5,h6⟩
  cases x with
  | ptr c =>
   unfold Ai at h;have hu:=hp 0 c rfl;simp at hu;subst hu;obtain ⟨cs,st1,g1,b1,hM1,hE1,hL1,h1,hv1,ht1,_⟩:=yz hM h;obtain ⟨os,st2,g2,bo,h2,h3,h4,h5,h6,h7⟩:=xD l hM1 (by simpa using hl) (by rw [hL1.ob]; exact hp') h1;exact ⟨cs :: os,st2,g2,b1++bo,h2,hE1.trans h3,hL1.trans h4,h5,.ptr c cs _ b1 l us os bo (hv1.mono h3.same h3.F (λ_ _=>rfl)) h6,ht1.app hM hL1 h7 h4⟩
  | _=>exact hoth (λc h=>by cases h) (by unfold Ai at h; exact h)
theorem L9{i:Nat}{c:List C}{r:List V}{as:List A}(h:ij i (.ptr c :: r) as=true):∃ as',as=.obj (900+i) 0 :: as'/\ij (i+1) r as'=true:=by
 cases as with
 | nil=>simp [ij] at h
 | cons a as =>
  cases a with
  | obj s off =>
   cases off with
   | zero =>
    simp only [ij,sk] at h;have:=zWw h.1;subst this;exact ⟨as,rfl,h.2⟩
   | succ off=>simp [ij] at h
  | _=>simp [ij] at h
theorem xE{F:Nat->Prop}{O R:Nat->Prop}:∀ {l:List V} {i:Nat} {us:List Value} {as:List A} {bs:List Nat},ij i l as=true->zP w F l us bs->as.length=us.length->(∀ (j:Nat) (x:A),as[j]?=some x->∃ u,us[j]?=some u/\VR w g O R x u) ->
  (∀ s b,(s,b)∈kW i l us->O s/\g.ob s=b)/\∀ (j:Nat) (c:List C),l[j]?=some (.ptr c)->∃ b,us[j]?=some (.pointer (some ⟨b,0,none⟩))/\(900+(i+j),b)∈kW i l us
 | [],i,us,as,bs,hl,hV,hlen,hx=>by
  cases hV
  exact ⟨λs b h=>by simp [kW] at h,λj c h=>by simp at h⟩
 | x :: l,i,us,as,bs,hl,hV,hlen,hx=>by
  cases hV with
  | cons x v b l vs bs' h1 h2 =>
   obtain ⟨a,as,rfl⟩:∃ a as',as=a :: as':=by
    cases as with
    | nil=>simp at hlen
    | cons a as=>exact ⟨a,as,rfl⟩
   obtain ⟨u,hu,hr⟩:=hx 0 a rfl;simp at hu;subst hu;have hx':∀ (j:Nat) (x:A),as[j]?=some x->∃ u,vs[j]?=some u/\VR w g O R x u:=λj x hj=>by simpa using hx (j+1) x (by simpa using hj)
   have hoth:(∀ c,x≠.ptr c)->kW i (x :: l) (v :: vs)=kW (i+1) l vs->ij (i+1) l as=true ->
     (∀ s b,(s,b)∈kW i (x :: l) (v :: vs)->O s/\g.ob s=b)/\∀ (j:Nat) (c:List C),(x :: l)[j]?=some (.ptr c)->∃ b,(v :: vs)[j]?=some (.pointer (some ⟨b,0,none⟩))/\(900+(i+j),b)∈kW i (x :: l) (v :: vs):=λhnp he hla=>by
    obtain ⟨h3,h4⟩:=xE hla h2 (by simpa using hlen) hx';rw [he];refine ⟨h3,λj c hj=>?_⟩
    cases j with
    | zero=>simp at hj; exact absurd hj (hnp c)
    | succ j =>
     obtain ⟨b,h5,h6⟩:=h4 j c (by simpa using hj);exact ⟨b,by simpa using h5,by rw [show i+(j+1)=i+1+j by omega]; exact h6⟩
   cases x with
   | ptr c =>
    obtain ⟨as',he,hla⟩:=L9 hl;injection he with e1 e2
    subst e1 e2
    cases h1 with
    | ptr cells bb arr e vals bs1 q1 q2 q3 q4 =>
      obtain ⟨h3,h4⟩:=xE hla h2 (by simpa using hlen) hx'
      cases hr with
      | obj _ _ hO =>
       simp only [kW];refine ⟨λs b hm=>?_,λj c hj=>?_⟩
       ·rcases List.mem_cons.1 hm with hm | hm
        ·cases hm; exact ⟨hO,rfl⟩
        ·exact h3 s b hm
       ·cases j with
        | zero=>exact ⟨_,rfl,zQk ..⟩
        | succ j =>
         obtain ⟨b,h5,h6⟩:=h4 j c (by simpa using hj);exact ⟨b,by simpa using h5,zQv _ (by rw [show i+(j+1)=i+1+j by omega]; exact h6)⟩
   | _=>exact hoth (λc h=>by cases h) (by cases v <;> rfl) (by unfold ij at hl; exact hl)
end
inductive Aj {α β:Type} (R:α->β->Prop):List α->List β->Prop
 | nil:Aj R [] []
 | cons {a:α} {b:β} {l:List α} {l':List β} (h:R a b) (hs:Aj R l l'):Aj R (a :: l) (b :: l')
inductive Nw:C->C->Prop
 | refl (c:C):Nw c c
 | nilT (sz:Nat):Nw .nil (.t (.sl sz []))
 | nilO (e sz:Nat):Nw .nil (.ow e sz [])
 | sz (s s':Nat):Nw (.t (.sl s [])) (.t (.sl s' []))
mutual
inductive O0:V->V->Prop
 | refl (v:V):O0 v v
 | one {c c':C} (h:Nw c c'):O0 (.one c) (.one c')
 | agg {l l':List C} (h:Aj Nw l l'):O0 (.agg l) (.agg l')
 | tup {l l':List V} (h:Ak l l'):O0 (.tup l) (.tup l')
 | cut (l r:List T):O0 (.fptr (l++r)) (.fptr l)
inductive Ak:List V->List V->Prop
 | nil:Ak [] []
 | cons {v v':V} {l l':List V} (h:O0 v v') (hs:Ak l l'):Ak (v :: l) (v' :: l')
end
theorem Nw.cv{w:World}{F:Nat->Prop}{c c':C}{v:Value}{bs:List Nat}(h:Nw c c')(hv:CV w F c v bs):CV w F c' v bs:=by
 cases h with
 | refl=>exact hv
 | nilT sz=>cases hv; exact .t _ _ (.sl0 _ _ _ (by first | assumption | exact λ_=>rfl | (intro h; cases h)))
 | nilO e sz =>
  cases hv
  exact .ow e sz [] (.slice none 0 0) [] ⟨by simp,.inl ⟨rfl,rfl⟩⟩ ⟨by simp,λi row h=>by simp at h,λi row j x h=>by simp at h⟩
 | sz s s' =>
  cases hv with
  | t _ _ h =>
   cases h with
   | sl0 _ _ _ ha=>exact .t _ _ (.sl0 _ _ _ (by first | assumption | exact λ_=>rfl | (intro h; cases h)))
   | sl=>exact .t _ _ (.sl0 _ _ _ (by first | assumption | exact λ_=>rfl | (intro h; cases h)))
theorem O4{w:World}{F:Nat->Prop}:∀ {l l':List C} {vs:List Value} {bs:List Nat},Aj Nw l l'->HR w F l vs bs->HR w F l' vs bs
 | _,_,_,_,.nil,.nil=>.nil
 | _,_,_,_,.cons h hs,.cons _ _ _ _ _ _ hc hcs=>.cons _ _ _ _ _ _ (h.cv hc) (O4 hs hcs)
mutual
theorem O0.vv{w:World}{F:Nat->Prop}:∀ {x x':V} {v:Value} {bs:List Nat},O0 x x'->VV w F x v bs->VV w F x' v bs
 | _,_,_,_,.refl _,hv=>hv
 | _,_,_,_,.one h,.one _ _ _ hc=>.one _ _ _ (h.cv hc)
 | _,_,_,_,.agg h,.agg _ vs _ hc=>.agg _ vs _ (O4 h hc)
 | _,_,_,_,.tup h,.tup _ vs _ hc=>.tup _ vs _ (E8 h hc)
 | _,_,_,_,.cut l r,.fptr _ b off u hF hx hr=>.fptr l b off u hF
   (λj x hj=>hx j x (by rw [zQW (List.getElem?_eq_some_iff.1 hj).1]; exact hj)) (λj x hj=>hr j x (by rw [zQW (List.getElem?_eq_some_iff.1 hj).1]; exact hj))
theorem E8{w:World}{F:Nat->Prop}:∀ {l l':List V} {vs:List Value} {bs:List Nat},Ak l l'->zP w F l vs bs->zP w F l' vs bs
 | _,_,_,_,.nil,.nil=>.nil
 | _,_,_,_,.cons h hs,.cons _ _ _ _ _ _ hc hcs=>.cons _ _ _ _ _ _ (h.vv hc) (E8 hs hcs)
end
theorem O0.ptr{x:V}{c:List C}(h:O0 x (.ptr c)):x=.ptr c:=by cases h; rfl
theorem O0.nptr{x x':V}(h:O0 x x')(hx:∀ c,x'≠.ptr c):∀ c,x≠.ptr c:=by
 cases h <;> first | exact hx | (intro c hc; cases hc)
theorem Qc{w:World}{F:Nat->Prop}{l':List V}{us:List Value}{os:List (List C)}{bo:List Nat}(ho:pt w F l' us os bo):∀ {l:List V},Ak l l'->pt w F l us os bo:=by
 induction ho with
 | nil=>intro l h; cases h; exact .nil
 | ptr c c' v bs l vs os bo hv ho ih =>
  intro l h
  cases h with
  | cons h hs =>
   have:=h.ptr;subst this;exact .ptr c c' v bs _ vs os bo hv (ih hs)
 | skip x v l vs os bo hx ho ih =>
  intro l h
  cases h with
  | cons h hs=>exact .skip _ v _ vs os bo (h.nptr hx) (ih hs)
theorem IB{w:World}{F:Nat->Prop}{l:List V}{us:List Value}{os:List (List C)}{bo:List Nat}(ho:pt w F l us os bo):∀ {os':List (List C)},Aj (Aj Nw) os os'->pt w F l us os' bo:=by
 induction ho with
 | nil=>intro os' h; cases h; exact .nil
 | ptr c c' v bs l vs os bo hv ho ih =>
  intro os' h
  cases h with
  | cons h hs =>
   refine .ptr c _ v bs l vs _ bo ?_ (ih hs)
   cases hv with
   | ptr _ b arr e vals bs' h1 h2 h3 h4=>exact .ptr _ b arr e vals bs' h1 h2 h3 (O4 h h4)
 | skip x v l vs os bo hx ho ih=>intro os' h; exact .skip x v l vs _ bo hx (ih h)
end Go.Tm
namespace Go.Tm
open Go.RowKit
def dD:St:=⟨λ_=>.undef,λ_=>none,λ_=>none⟩
def gw(as:List A)(st:St):St:=⟨λi=>match as[i]? with | some a=>a | none=>.undef,st.ob,st.rw⟩
def QW{α:Type}(m:Bool):A->(V->MA α)->MA α
 | .obj s 0,k=>Ac s λcs=>k (.ptr cs)
 | .tup l,k=>kc m (λ_=>false) l λvs=>k (.tup vs)
 | a,k=>nX m a k
theorem Dx{E:En}{w:World}{α:Type}{st':St}{m:Bool}{x:A}{st:St}{g:Gh}{k:V->MA α}{y:α}{v:Value}(hM:fi E g st w)(hv:VR w g st.O st.R x v)(h:(QW m x k).run st=some (y,st')) :
  ∃ c st1 g1 bs,fi E g1 st1 w/\pH w w g g1 st.O st.R st1.O st1.R/\Km g st g1 st1/\(k c).run st1=some (y,st')/\VV w g1.F c v bs/\Tk g st g1 st1 bs:=by
 unfold QW at h
 split at h
 ·rename_i s k'
  cases hv with
  | obj _ _ hs =>
   obtain ⟨cs,st1,g1,bs,h1,h2,h3,h4,h5,h6,_⟩:=yz hM h;exact ⟨_,st1,g1,bs,h1,h2,h3,h4,h5,h6⟩
 ·rename_i l
  cases hv with
  | tup l vs hl hx =>
   obtain ⟨cs,st1,g1,bs,hM1,hE1,hL1,h1,hc,ht,_⟩:=ta l hM hl.symm (λj x hj=>⟨_,sX (by rw [<- hl]; exact (List.getElem?_eq_some_iff.1 hj).1),hx j x _ hj (sX (by rw [<- hl]; exact (List.getElem?_eq_some_iff.1 hj).1))⟩) h;exact ⟨_,st1,g1,bs,hM1,hE1,hL1,h1,.tup cs vs bs hc,ht⟩
 ·obtain ⟨c,st1,g1,bs,h1,h2,h3,h4,h5,h6,_⟩:=L2 _ hM hv h;exact ⟨c,st1,g1,bs,h1,h2,h3.lnd,h4,h5,h6⟩
def xF(P:Program)(m:Bool)(fn:Func)(args:List V)(res:V)(outs:List (List C))(e:Exit)(st:St):Prop :=
 (e=.ret\/e=.normal)/\∃ l st1 res0 outs0,zk P st fn.results.toList=some l/\(Ai 0 args λos=>QW m (R5 l) λv=>MA.ret (v,os)).run st=some ((res0,outs0),st1)/\O0 res0 res/\Aj (Aj Nw) outs0 outs
def tv(n:Nat)(fn:Func):Bool:=fn.results.toList.all λ| .tmp t=>Nat.blt t n | _=>true
def Wz(P:Program)(n:Nat)(ls:List Nat)(c:Code)(Q:Exit->St->Prop)(st:St):Prop :=
 ∀ (E:En) (g:Gh) (a:Act) (w:World),Qb P E ls->E.sh=false->E.pin=none->iJ E g n st a w->c.wp P (λe a' w'=>∃ g' st',iJ E g' n st' a' w'/\Q e st') a w
theorem GT{P:Program}{fn:Func}{c:Code}{f:FuncId}{args:List V}{as:List A}{st0:St}{m:Bool}{res:V}{outs:List (List C)}
  (hf:P.funcs[f]?=some fn) (hb:fn.body=some c) (hnm:(fn.name == "runtime.NumGoroutine")=false) (hle:as.length<=fn.ntmps) (ht:tv fn.ntmps fn=true)
  (ha:(nY 0 args MA.ret).run dD=some (as,st0)) (hl:ij 0 args as=true)
  (h:Wz P fn.ntmps (eU 0 args) c (xF P m fn args res outs) (gw as st0)):aJ P f args res outs:=by
 refine ⟨⟨fn,hf,by simp [hb],hnm⟩,λw F vs bs hF hVV hnd hnf htb=>?_⟩
 let E:En:={ w0:=w,X:=λb=>b∈bs,F0:=F,lent:=kW 0 args vs }
 let g0:Gh:={ F:=F,ob:=λ_=>0,rw:=λ_=>.nilFunc,dw:=w }
 have hM0:fi E g0 dD w:=⟨λs cells h=>(by cases h),λs s' h=>(by cases h),λr x h=>(by cases h),λr r' b h=>(by obtain ⟨_,_,_,h⟩:=h; cases h),λr s h=>(by obtain ⟨_,_,_,h⟩:=h; cases h),
  λb hb=>⟨hF b hb,λ_=>.inl hb,.inl hb⟩,rfl,rfl,rfl,zWj _,λ_ _ _=>.inl rfl,λ_ h=>h.elim,⟨rfl,rfl,rfl⟩,λ_ h=>h.elim⟩
 obtain ⟨as',st1,g1,hG,h1,hlen,hx⟩:=A5 args hM0 hVV hnd (λb hb=>⟨hnf b hb,λs hs=>(by cases hs),λr hr=>(by obtain ⟨_,_,_,h⟩:=hr; cases h),.inr hb⟩) ha;obtain ⟨rfl,rfl⟩:=fj h1;have hM1:fi E g1 (gw as st0) w:=⟨hG.mem.ob,hG.mem.obne,hG.mem.row,hG.mem.rowne,hG.mem.rowob,hG.mem.F,hG.mem.os,hG.mem.tape,hG.mem.output,hG.mem.sizes,hG.mem.frame,hG.mem.shp,hG.mem.dep0⟩;obtain ⟨hl1,hl2⟩:=xE hl hVV hlen hx;have hS:iJ E g1 fn.ntmps (gw as st0) { tmps:=vs.toArray++zZx (fn.ntmps - vs.toArray.size) undef,defers:=[] } w:=by
  refine ⟨hM1,by simp; omega,rfl,λi hi=>?_,λi hi=>?_,hl1,λ_ h=>(by cases h)⟩
  ·show ∃ v,_/\VR w g1 st0.O st0.R (match as[i]? with | some a=>a | none=>.undef) v
   cases hai:as[i]? with
   | some a =>
    obtain ⟨u,hu,hr⟩:=hx i a hai;have hlt:i < vs.length:=(List.getElem?_eq_some_iff.1 hu).1;exact ⟨u,by rw [zZQ (by simpa using hlt)]; simpa using hu,hr⟩
   | none =>
    have hge:as.length<=i:=List.getElem?_eq_none_iff.1 hai;refine ⟨undef,?_,.undef _⟩;rw [zYj (by simpa [<- hlen] using hge)];rw [zZV,if_pos (by simp only [zYy]; omega)]
  ·show (match as[i]? with | some a=>a | none=>.undef)=A.undef;rw [List.getElem?_eq_none_iff.2 (by omega)]
 refine calls_of_wp hf hb (wp_mono (h E g1 _ w ⟨⟨[],by rw [zWY]; exact (oI _ _ _).symm,E6 _ _ _,λ_ h=>(by cases h),λh=>(by cases h)⟩,⟨htb.mono λb h=>h.elim id λh=>(by cases h.1)⟩⟩ rfl rfl hS) λe a' w' ⟨g',st',hS',hR⟩=>?_);obtain ⟨he,l,st2,res0,outs0,hres,hrun,hvle,hole⟩:=hR;have hfin:a'.defers=[]/\∃ v,(results fn a'.tmps).run P w'=.ok v w'/\(λe w'=>∃ v F' bv bo,e=Ending.returned v/\qU w w'/\(∀ b,b < w.heap.size->b∉bs->w'.heap[b]?=w.heap[b]?)/\(∀ b,F b->F' b) /\
   (∀ b,F' b->b < w'.heap.size/\(b < w.heap.size->F b\/b∈bs)/\(F b\/Wr w' b))/\VV w' F' res v bv/\pt w' F' args vs outs bo/\(bv++bo).Nodup/\∀ b∈bv++bo,¬ F' b/\(w.heap.size<=b\/b∈bs)) (.returned v) w':=by
  refine ⟨hS'.defers,?_⟩;obtain ⟨v,hrv,hvv⟩:=HZ hS' hres ht;refine ⟨v,hrv,?_⟩;have hM':=hS'.mem;obtain ⟨os,st3,g3,bo,hM3,hE3,hL3,h3,hO,hT3⟩:=xD (w:=w') args hM' (us:=vs) (hVV.len.symm) (λj c hj=>by
   obtain ⟨b,h5,h6⟩:=hl2 j c hj;rw [(hS'.lent _ _ h6).2];exact h5) hrun
  obtain ⟨c',st4,g4,bv,hM4,hE4,hL4,h4,hv4,hT4⟩:=Dx hM3 (hvv.mono hE3) h3;obtain ⟨h5,rfl⟩:=fj h4;injection h5 with h5 h6
  subst h5 h6;have hT:=hT3.app hM' hL3 hT4 hL4;have hof:∀ b∈bo++bv,w.heap.size<=b\/b∈bs:=λb hb=>by
   rcases hT.of b hb with ⟨r,⟨e,sz,rows,h7⟩,_,h8⟩ | ⟨s,⟨c,cs,h7⟩,_,h8⟩
   ·obtain ⟨_,_,_,_,h9⟩:=hM'.row r _ h7;exact (h9 b h8).2
   ·obtain ⟨_,_,_,_,_,_,h9⟩:=hM'.ob s _ h7;rw [h8] at h9;exact h9
  have hnF:∀ b∈bo++bv,¬ (g4.F b\/F b):=λb hb h=>by
   rcases h with h | h
   ·exact hT.nf b hb h
   ·rcases hof b hb with h7 | h7
    ·have:=hF b h; omega
    ·exact hnf b h7 h
  have hmem:∀ b,b∈bv++bo->b∈bo++bv:=λb hb=>by
   rcases List.mem_append.1 hb with h | h <;> simp [h]
  refine ⟨v,λb=>g4.F b\/F b,bv,bo,rfl,⟨hM4.os,hM4.tape,hM4.output,hM4.sizes⟩,λb hb hbs=>hM4.frm rfl b hb hbs,λb h=>.inr h,λb h=>?_,hvle.vv (hv4.mono (λ_ _=>rfl) (λ_ h=>.inl h) (λ_ _=>rfl)),IB (hO.mono (λb h=>.inl (hE4.F b h))) hole,?_,λb hb=>⟨hnF b (hmem b hb),hof b (hmem b hb)⟩⟩
  ·rcases h with h | h
   ·exact hM4.F b h
   ·exact ⟨zQj (hF b h) hM4.sizes,λ_=>.inl h,.inl h⟩
  ·have:=hT.nodup;rw [zXy] at this ⊢;exact ⟨this.2.1,this.1,λx hx y hy he=>this.2.2 y hy x hx he.symm⟩
 rcases he with rfl | rfl
 ·exact hfin
 ·exact hfin
theorem IC{P:Program}{fn:Func}{c:Code}{f:FuncId}{args:List V}{as:List A}{st0:St}{m:Bool}{res:V}{outs:List (List C)}
  (hf:P.funcs[f]?=some fn) (hb:fn.body=some c) (hnm:(fn.name == "runtime.NumGoroutine")=false) (hle:as.length<=fn.ntmps) (ht:tv fn.ntmps fn=true)
  (ha:(nY 0 args MA.ret).run dD=some (as,st0)) (hl:ij 0 args as=true)
  (h:Wp P fn.ntmps (eU 0 args) c (xF P m fn args res outs) (gw as st0)):aJ P f args res outs:=GT hf hb hnm hle ht ha hl λE g a w hE _ _ hS=>h E g a w hE hS
theorem QX{E:En}{g:Gh}{st0:St}{w:World}{n:Nat}{as:List A}{vs:List Value}(hM:fi E g (gw as st0) w)(hlen:vs.length=as.length)(hle:as.length<=n)
  (hx:∀ (j:Nat) (x:A),as[j]?=some x->∃ u,vs[j]?=some u/\VR w g st0.O st0.R x u) (hl:E.lent=[]) (hp:∀ v,E.pin=some v->(gw as st0).R PR/\g.rw PR=v) :
  iJ E g n (gw as st0) { tmps:=vs.toArray++zZx (n - vs.toArray.size) undef,defers:=[] } w:=by
 refine ⟨hM,by simp; omega,rfl,λi hi=>?_,λi hi=>?_,λs b h=>(by rw [hl] at h; cases h),hp⟩
 ·show ∃ v,_/\VR w g st0.O st0.R (match as[i]? with | some a=>a | none=>.undef) v
  cases hai:as[i]? with
  | some a =>
   obtain ⟨u,hu,hr⟩:=hx i a hai;have hlt:i < vs.length:=(List.getElem?_eq_some_iff.1 hu).1;exact ⟨u,by rw [zZQ (by simpa using hlt)]; simpa using hu,hr⟩
  | none =>
   have hge:as.length<=i:=List.getElem?_eq_none_iff.1 hai;refine ⟨undef,?_,.undef _⟩;rw [zYj (by simpa [hlen] using hge)];rw [zZV,if_pos (by simp only [zYy]; omega)]
 ·show (match as[i]? with | some a=>a | none=>.undef)=A.undef;rw [List.getElem?_eq_none_iff.2 (by omega)]
def C.toX:C->A
 | .t x=>Td false x
 | _=>.undef
def V.toX:V->A
 | .one c=>c.toX
 | .agg l=>.agg (l.map C.toX)
 | .fptr cells=>.exa false cells
 | _=>.undef
theorem CV.toX{w:World}{D:Nat->Prop}{g:Gh}{c:C}{v:Value}{bs:List Nat}(h:CV w D c v bs)(h1:g.D=D)(h2:g.dw=w)(h3:g.sh=false):VR w g Lh Lh c.toX v:=by
 cases h with
 | t x v h =>
  cases x with
  | sl sz rows=>exact .ext false _ v h3 (by rw [h1,h2]; exact h.sd)
  | int k n=>exact .t _ v (h.sc rfl)
  | bool b=>exact .t _ v (h.sc rfl)
  | str s=>exact .t _ v (h.sc rfl)
  | nilf=>exact .t _ v (h.sc rfl)
  | hdr a n c=>exact .t _ v (h.sc rfl)
 | nil=>exact .undef _
 | ow=>exact .undef _
theorem HR.toX{w:World}{D:Nat->Prop}{g:Gh}{l:List C}{vs:List Value}{bs:List Nat}(h:HR w D l vs bs)(h1:g.D=D)(h2:g.dw=w)(h3:g.sh=false) :
  l.length=vs.length/\∀ (i:Nat) (x:A) (v:Value),(l.map C.toX)[i]?=some x->vs[i]?=some v->VR w g Lh Lh x v:=by
 induction h with
 | nil=>exact ⟨rfl,λi x v h=>by simp at h⟩
 | cons c v b cs vs bs h hs ih =>
  refine ⟨by simp [ih.1],λi x u hx hu=>?_⟩
  cases i with
  | zero=>simp at hx hu; subst hx hu; exact h.toX h1 h2 h3
  | succ i=>exact ih.2 i x u (by simpa using hx) (by simpa using hu)
theorem VV.toX{w:World}{D:Nat->Prop}{g:Gh}{x:V}{v:Value}{bs:List Nat}(h:VV w D x v bs)(h1:g.D=D)(h2:g.dw=w)(h3:g.sh=false):VR w g Lh Lh x.toX v:=by
 cases h with
 | one c v bs h=>exact h.toX h1 h2 h3
 | agg l vs bs h =>
  obtain ⟨h4,h5⟩:=h.toX h1 h2 h3;exact .agg _ vs (by simp [h4]) h5
 | fptr cells b off u hF hx hr=>exact .exa false cells b off u h3 (by rw [h1]; exact hF) (by rw [h2]; exact hx) (λj x hj=>by rw [h1,h2]; exact (hr j x hj).sd)
 | _=>exact .undef _
theorem zP.toX{w:World}{D:Nat->Prop}{g:Gh}(h1:g.D=D)(h2:g.dw=w)(h3:g.sh=false):∀ {l:List V} {vs:List Value} {bs:List Nat},zP w D l vs bs ->
  vs.length=l.length/\∀ (j:Nat) (x:A),(l.map V.toX)[j]?=some x->∃ u,vs[j]?=some u/\VR w g Lh Lh x u
 | _,_,_,.nil=>⟨rfl,λj x h=>by simp at h⟩
 | _,_,_,.cons x v b l vs bs h hs=>by
  obtain ⟨h4,h5⟩:=zP.toX h1 h2 h3 hs;refine ⟨by simp [h4],λj y hy=>?_⟩
  cases j with
  | zero=>simp at hy; subst hy; exact ⟨v,rfl,h.toX h1 h2 h3⟩
  | succ j=>exact h5 j y (by simpa using hy) |>.imp λu hu=>⟨by simpa using hu.1,hu.2⟩
theorem Vx{E:En}{g:Gh}{as:List A}{w:World}(h1:∀ b,¬ g.F b)(hS0:∀ b,¬ g.S b:=by exact λ_ h=>h)(hw:E.w0=w)(hd:g.D=E.D/\g.dw=E.w0/\g.sh=E.sh)(hD:∀ b,E.D b->b < E.w0.heap.size/\¬ E.X b/\(E.sh=true->¬ E.F0 b/\Wr E.w0 b)):fi E g (gw as dD) w:=by
 subst hw;exact ⟨λs cells h=>(by cases h),λs s' h=>(by cases h),λr x h=>(by cases h),λr r' b h=>(by obtain ⟨_,_,_,h⟩:=h; cases h),λr s h=>(by obtain ⟨_,_,_,h⟩:=h; cases h),
  λb hb=>(h1 b hb).elim,rfl,rfl,rfl,zWj _,λ_ _ _=>.inl rfl,λb h=>(hS0 b h).elim,hd,hD⟩
theorem Nx{P:Program}{fn:Func}{c:Code}{f:FuncId}{args:List V}{m:Bool}{res:V}
  (hf:P.funcs[f]?=some fn) (hb:fn.body=some c) (hnm:(fn.name == "runtime.NumGoroutine")=false) (hle:args.length<=fn.ntmps) (ht:tv fn.ntmps fn=true)
  (h:Wp P fn.ntmps [1] c (xF P m fn [] res []) (gw (args.map V.toX) dD)):nR P f args res:=by
 refine ⟨⟨fn,hf,by simp [hb],hnm⟩,λw D vs hD hVV htb=>?_⟩
 let E:En:={ w0:=w,X:=Lh,F0:=Lh,lent:=[],D:=D }
 let g0:Gh:={ F:=Lh,ob:=λ_=>0,rw:=λ_=>.nilFunc,D:=D,dw:=w }
 have hM0:fi E g0 (gw (args.map V.toX) dD) w:=Vx (λ_ h=>h) (hw:=rfl) (hd:=⟨rfl,rfl,rfl⟩) (hD:=λb hb=>⟨hD b hb,λh=>h,λh=>(by cases h)⟩);obtain ⟨hlen,hx⟩:=zP.toX (g:=g0) rfl rfl rfl hVV;have hS:=QX (n:=fn.ntmps) hM0 (by simpa using hlen) (by simpa using hle) (λj x hj=>by
  obtain ⟨u,h1,h2⟩:=hx j x hj;exact ⟨u,h1,h2.mono ⟨λ_ _=>rfl,λ_ h=>h,λ_ h=>h.elim,λ_ h=>h.elim,⟨rfl,rfl,rfl⟩,rfl,rfl⟩⟩) rfl (λv h=>(by cases h))
 refine calls_of_wp hf hb (wp_mono (h E g0 _ w ⟨⟨[1],rfl,λ_ h=>(by cases h),λ_ h=>(by cases h),λ_ b=>⟨λh=>h,λh=>h⟩⟩,⟨htb.mono λb h=>h.elim id λh=>(by cases h.1)⟩⟩ hS) λe a' w' ⟨g',st',hS',hR⟩=>?_);obtain ⟨he,l,st2,res0,outs0,hres,hrun,hvle,hole⟩:=hR;have hfin:a'.defers=[]/\∃ v,(results fn a'.tmps).run P w'=.ok v w'/\(λe w'=>∃ v F' bv,e=Ending.returned v/\qU w w'/\(∀ b,b < w.heap.size->w'.heap[b]?=w.heap[b]?) /\
   (∀ b,F' b->b < w'.heap.size/\w.heap.size<=b/\Wr w' b)/\VV w' F' res v bv/\bv.Nodup/\∀ b∈bv,¬ F' b/\w.heap.size<=b) (.returned v) w':=by
  refine ⟨hS'.defers,?_⟩;obtain ⟨v,hrv,hvv⟩:=HZ hS' hres ht;refine ⟨v,hrv,?_⟩;have hM':=hS'.mem;simp only [Ai] at hrun;obtain ⟨c',st4,g4,bv,hM4,hE4,hL4,h4,hv4,hT4⟩:=Dx hM' hvv hrun;obtain ⟨h5,rfl⟩:=fj h4;injection h5 with h5 h6
  subst h5 h6;have hof:∀ b∈bv,w.heap.size<=b:=λb hb=>by
   rcases hT4.of b hb with ⟨r,⟨e,sz,rows,h7⟩,_,h8⟩ | ⟨s,⟨c,cs,h7⟩,_,h8⟩
   ·obtain ⟨_,_,_,_,h9⟩:=hM'.row r _ h7;exact (h9 b h8).2.resolve_right (λh=>h)
   ·obtain ⟨_,_,_,_,_,_,h9⟩:=hM'.ob s _ h7;rw [h8] at h9;exact h9.resolve_right (λh=>h)
  refine ⟨v,g4.F,bv,rfl,⟨hM4.os,hM4.tape,hM4.output,hM4.sizes⟩,λb hb=>hM4.frm rfl b hb (λh=>h),λb h=>?_,hvle.vv hv4,hT4.nodup,λb hb=>⟨hT4.nf b hb,hof b hb⟩⟩;obtain ⟨h7,h8,h9⟩:=hM4.F b h;refine ⟨h7,Nat.le_of_not_lt λhlt=>?_,h9.resolve_left (λh=>h)⟩;rcases h8 hlt with h | h <;> exact h
 rcases he with rfl | rfl
 ·exact hfin
 ·exact hfin
theorem Ny{P:Program}{fn:Func}{c:Code}{f:FuncId}{args xs:List V}{as:List A}{st0:St}{m:Bool}{res:V}{outs:List (List C)}
  (hf:P.funcs[f]?=some fn) (hb:fn.body=some c) (hnm:(fn.name == "runtime.NumGoroutine")=false) (hle:(as++xs.map V.toX).length<=fn.ntmps) (ht:tv fn.ntmps fn=true)
  (ha:(nY 0 args MA.ret).run dD=some (as,st0)) (hl:ij 0 args as=true)
  (h:Wp P fn.ntmps (eU 0 args) c (xF P m fn args res outs) (gw (as++xs.map V.toX) st0)):L3 P f args xs res outs:=by
 refine ⟨⟨fn,hf,by simp [hb],hnm⟩,λw F D vs us bs hF hD hVV hUU hnd hnf htb=>?_⟩
 let E:En:={ w0:=w,X:=λb=>b∈bs,F0:=F,lent:=kW 0 args vs,D:=D }
 let g0:Gh:={ F:=F,ob:=λ_=>0,rw:=λ_=>.nilFunc,D:=D,dw:=w }
 have hM0:fi E g0 dD w:=⟨λs cells h=>(by cases h),λs s' h=>(by cases h),λr x h=>(by cases h),λr r' b h=>(by obtain ⟨_,_,_,h⟩:=h; cases h),λr s h=>(by obtain ⟨_,_,_,h⟩:=h; cases h),
  λb hb=>⟨hF b hb,λ_=>.inl hb,.inl hb⟩,rfl,rfl,rfl,zWj _,λ_ _ _=>.inl rfl,λ_ h=>h.elim,⟨rfl,rfl,rfl⟩,λb hb=>⟨(hD b hb).1,(hD b hb).2,λh=>(by cases h)⟩⟩
 obtain ⟨as',st1,g1,hG,h1,hlen,hx⟩:=A5 args hM0 hVV hnd (λb hb=>⟨hnf b hb,λs hs=>(by cases hs),λr hr=>(by obtain ⟨_,_,_,h⟩:=hr; cases h),.inr hb⟩) ha;obtain ⟨rfl,rfl⟩:=fj h1;have hM1:fi E g1 (gw (as++xs.map V.toX) st0) w:=⟨hG.mem.ob,hG.mem.obne,hG.mem.row,hG.mem.rowne,hG.mem.rowob,hG.mem.F,hG.mem.os,hG.mem.tape,hG.mem.output,hG.mem.sizes,hG.mem.frame,hG.mem.shp,hG.mem.dep0⟩;obtain ⟨hl1,hl2⟩:=xE hl hVV hlen hx;obtain ⟨hd1,hd2,hd3⟩:=hG.mem.dep0.1;obtain ⟨hul,hux⟩:=zP.toX (g:=g1) (by rw [hd1]) (by rw [hd2]) (by rw [hd3]) hUU;have hx2:∀ (j:Nat) (x:A),(as++xs.map V.toX)[j]?=some x->∃ u,(vs++us)[j]?=some u/\VR w g1 st0.O st0.R x u:=λj x hj=>by
  rw [zWG] at hj
  split at hj
  ·rename_i hlt;obtain ⟨u,h5,h6⟩:=hx j x hj;exact ⟨u,by rw [zQW (by omega)]; exact h5,h6⟩
  ·rename_i hge;obtain ⟨u,h5,h6⟩:=hux _ x hj;exact ⟨u,by rw [zQX (by omega),<- hlen]; exact h5,h6.mono ⟨λ_ _=>rfl,λ_ h=>h,λ_ h=>h.elim,λ_ h=>h.elim,⟨rfl,rfl,rfl⟩,rfl,rfl⟩⟩
 have hlen2:(as++xs.map V.toX).length=(vs++us).length:=by simp [hlen,hul]
 have hle2:as.length+xs.length<=fn.ntmps:=by simpa using hle
 have hvl:(vs++us).length=vs.length+us.length:=zQK;have hS:iJ E g1 fn.ntmps (gw (as++xs.map V.toX) st0) { tmps:=(vs++us).toArray++zZx (fn.ntmps - (vs++us).toArray.size) undef,defers:=[] } w:=by
  refine ⟨hM1,by simp; omega,rfl,λi hi=>?_,λi hi=>?_,hl1,λ_ h=>(by cases h)⟩
  ·show ∃ v,_/\VR w g1 st0.O st0.R (match (as++xs.map V.toX)[i]? with | some a=>a | none=>.undef) v
   cases hai:(as++xs.map V.toX)[i]? with
   | some a =>
    obtain ⟨u,hu,hr⟩:=hx2 i a hai;have hlt:i < (vs++us).length:=(List.getElem?_eq_some_iff.1 hu).1;exact ⟨u,by rw [zZQ (by simpa using hlt)]; simpa using hu,hr⟩
   | none =>
    have hge:(as++xs.map V.toX).length<=i:=List.getElem?_eq_none_iff.1 hai;refine ⟨undef,?_,.undef _⟩;rw [zYj (by simpa [<- hlen2] using hge)];rw [zZV,if_pos (by simp only [zYy]; omega)]
  ·show (match (as++xs.map V.toX)[i]? with | some a=>a | none=>.undef)=A.undef;rw [List.getElem?_eq_none_iff.2 (by omega)]
 refine calls_of_wp hf hb (wp_mono (h E g1 _ w ⟨⟨[],by rw [zWY]; exact (oI _ _ _).symm,E6 _ _ _,λ_ h=>(by cases h),λh=>(by cases h)⟩,⟨htb.mono λb h=>h.elim id λh=>(by cases h.1)⟩⟩ hS) λe a' w' ⟨g',st',hS',hR⟩=>?_);obtain ⟨he,l,st2,res0,outs0,hres,hrun,hvle,hole⟩:=hR;have hfin:a'.defers=[]/\∃ v,(results fn a'.tmps).run P w'=.ok v w'/\(λe w'=>∃ v F' bv bo,e=Ending.returned v/\qU w w'/\(∀ b,b < w.heap.size->b∉bs->w'.heap[b]?=w.heap[b]?)/\(∀ b,F b->F' b) /\
   (∀ b,F' b->b < w'.heap.size/\(b < w.heap.size->F b\/b∈bs)/\(F b\/Wr w' b))/\VV w' F' res v bv/\pt w' F' args vs outs bo/\(bv++bo).Nodup/\∀ b∈bv++bo,¬ F' b/\(w.heap.size<=b\/b∈bs)) (.returned v) w':=by
  refine ⟨hS'.defers,?_⟩;obtain ⟨v,hrv,hvv⟩:=HZ hS' hres ht;refine ⟨v,hrv,?_⟩;have hM':=hS'.mem;obtain ⟨os,st3,g3,bo,hM3,hE3,hL3,h3,hO,hT3⟩:=xD (w:=w') args hM' (us:=vs) (hVV.len.symm) (λj c hj=>by
   obtain ⟨b,h5,h6⟩:=hl2 j c hj;rw [(hS'.lent _ _ h6).2];exact h5) hrun
  obtain ⟨c',st4,g4,bv,hM4,hE4,hL4,h4,hv4,hT4⟩:=Dx hM3 (hvv.mono hE3) h3;obtain ⟨h5,rfl⟩:=fj h4;injection h5 with h5 h6
  subst h5 h6;have hT:=hT3.app hM' hL3 hT4 hL4;have hof:∀ b∈bo++bv,w.heap.size<=b\/b∈bs:=λb hb=>by
   rcases hT.of b hb with ⟨r,⟨e,sz,rows,h7⟩,_,h8⟩ | ⟨s,⟨c,cs,h7⟩,_,h8⟩
   ·obtain ⟨_,_,_,_,h9⟩:=hM'.row r _ h7;exact (h9 b h8).2
   ·obtain ⟨_,_,_,_,_,_,h9⟩:=hM'.ob s _ h7;rw [h8] at h9;exact h9
  have hnF:∀ b∈bo++bv,¬ (g4.F b\/F b):=λb hb h=>by
   rcases h with h | h
   ·exact hT.nf b hb h
   ·rcases hof b hb with h7 | h7
    ·have:=hF b h; omega
    ·exact hnf b h7 h
  have hmem:∀ b,b∈bv++bo->b∈bo++bv:=λb hb=>by
   rcases List.mem_append.1 hb with h | h <;> simp [h]
  refine ⟨v,λb=>g4.F b\/F b,bv,bo,rfl,⟨hM4.os,hM4.tape,hM4.output,hM4.sizes⟩,λb hb hbs=>hM4.frm rfl b hb hbs,λb h=>.inr h,λb h=>?_,hvle.vv (hv4.mono (λ_ _=>rfl) (λ_ h=>.inl h) (λ_ _=>rfl)),IB (hO.mono (λb h=>.inl (hE4.F b h))) hole,?_,λb hb=>⟨hnF b (hmem b hb),hof b (hmem b hb)⟩⟩
  ·rcases h with h | h
   ·exact hM4.F b h
   ·exact ⟨zQj (hF b h) hM4.sizes,λ_=>.inl h,.inl h⟩
  ·have:=hT.nodup;rw [zXy] at this ⊢;exact ⟨this.2.1,this.1,λx hx y hy he=>this.2.2 y hy x hx he.symm⟩
 rcases he with rfl | rfl
 ·exact hfin
 ·exact hfin
end Go.Tm
namespace Go.Tm
open Go.RowKit
def qX(P:Program)(ρ:Nat->eh)(ops:Array Oper):List Oper->St->Option St
 | [],st=>some st
 | o :: l,st=>match iW ops st o with
  | some true=>if eY ρ st o then match (pr P ρ st.eval o).run st with | some (x,st1)=>qX P ρ ops l (st1.put o.dst x) | none=>none else none
  | some false=>qX P ρ ops l (st.put o.dst (.tup []))
  | none=>none
def St.or(x:Option St):St:=match x with | some s=>s | none=>dD
section
variable {P:Program} {n:Nat} {Q:Exit->St->Prop} {st st':St} {p:Nat->Bool} {ρ:Nat->eh} {ops:Array Oper} {l:List Oper} {K:St->Prop} {o:Oper}
theorem xG:∀ {l:List Oper} {st st1:St},qX P ρ ops l st=some st1->zQ P p ρ ops l st st1
 | [],st,st1,h=>by cases h; rfl
 | o :: l,st,st1,h=>by
  unfold qX at h
  split at h
  ·rename_i hg
   split at h
   ·rename_i hf
    split at h
    ·rename_i x st2 hx;exact ⟨_,.run x st2 hg hf (.plain hx),xG h⟩
    ·cases h
   ·cases h
  ·rename_i hg;exact ⟨_,.skip hg,xG h⟩
  ·cases h
theorem zQ.app:∀ {l l':List Oper} {st b c:St},zQ P p ρ ops l st b->zQ P p ρ ops l' b c->zQ P p ρ ops (l++l') st c
 | [],l',st,b,c,h,h'=>by have h:b=st:=h; subst h; exact h'
 | o :: l,l',st,b,c,⟨d,h1,h2⟩,h'=>⟨d,h1,zQ.app h2 h'⟩
theorem ak(k:Nat)(h:(qX P ρ ops (l.take k) st).isSome=true)(hr:ae P p ρ ops (l.drop k) (St.or (qX P ρ ops (l.take k) st)) K):ae P p ρ ops l st K:=by
 obtain ⟨st1,h1⟩:=Option.isSome_iff_exists.1 h;rw [h1] at hr;obtain ⟨st',h2,h3⟩:=hr;refine ⟨st',?_,h3⟩;have:=zQ.app (xG h1) h2;rwa [zXH] at this
theorem ae.all(h:(qX P ρ ops l st).isSome=true)(hr:K (St.or (qX P ρ ops l st))):ae P p ρ ops l st K:=by
 obtain ⟨st1,h1⟩:=Option.isSome_iff_exists.1 h;rw [h1] at hr;exact ⟨st1,xG h1,hr⟩
theorem ae.call{m:Bool}{d f:Nat}{xf:Operand}{args:Array Operand}{ts:Array TypeId}{caps as:List A}{vs:List V}{st1:St}{res:V}{outs:List (List C)}{x:A}
  (hg:iW ops st o=some true) (hf:eY ρ st o=true) (ho:o.op=.call { callee:=.value xf,args,argTypes:=ts }) (hd:o.dst=some d) (hxf:st.eval xf=some (.clo f caps)) (kT:dt (args.toList.map st.eval)=some as)
  (hp:(kc m p (as++caps) MA.ret).run st=some (vs,st1)) (hc:aJ P f vs res outs) (hr:(dO d (d8 (as++caps)) outs (V.toA d (fh d 0) res MA.ret)).run st1=some (x,st'))
  (hk:ae P p ρ ops l (st'.put o.dst x) K):ae P p ρ ops (o :: l) st K :=
 ae.step (.run x st' hg hf (.call m d f xf args ts caps as vs st1 res outs ho hd hxf kT hp hc hr)) hk
theorem ae.callB{d f:Nat}{xf:Operand}{args:Array Operand}{ts:Array TypeId}{caps as:List A}{vs:List V}{res:V}{x:A}
  (hg:iW ops st o=some true) (hf:eY ρ st o=true) (ho:o.op=.call { callee:=.value xf,args,argTypes:=ts }) (hd:o.dst=some d) (hxf:st.eval xf=some (.clo f caps)) (kT:dt (args.toList.map st.eval)=some as)
  (hp:(d9 (as++caps) MA.ret).run st=some (vs,st)) (hc:aJ P f vs res []) (hpl:res.plain) (hr:(V.toA d (fh d 0) res MA.ret).run st=some (x,st'))
  (hk:ae P p ρ ops l (st'.put o.dst x) K):ae P p ρ ops (o :: l) st K :=
 ae.step (.run x st' hg hf (.callB d f xf args ts caps as vs res ho hd hxf kT hp hc hpl hr)) hk
theorem Va{α:Type}{t e:TypeId}{f:α->List T}{xs:List α}{y:α}{sz:Nat}{kk:IntKind}{i:Int}(hu:P.underlying t=some (.slice e))(hs:iV P e=some sz)(h0:0<=i)(h:xs[i.toNat]?=some y) :
  (ka P t (.t (.sl sz (xs.map f))) (.t (.int kk i))).run st=some (.fadr (f y),st):=by
 unfold ka;simp only [hu,hs,yu,h0,and_self,↓reduceIte,zQY,h,zWX,true_and,MA.run]
theorem Tz{α:Type}{t e:TypeId}{f:α->List T}{xs:List α}{y:α}{sz r:Nat}{kk:IntKind}{i:Int}{e':TypeId}(hu:P.underlying t=some (.slice e))(hs:iV P e=some sz)(hr:st.rw r=some (.live e' sz (xs.map f)))(h0:0<=i)(h:xs[i.toNat]?=some y) :
  (ka P t (.own r) (.t (.int kk i))).run st=some (.elem r sz i.toNat 0,st):=by
 have:i.toNat < xs.length:=(List.getElem?_eq_some_iff.1 h).1;unfold ka;simp only [hu,hs,MA.run,hr,h0,zYZ,this,and_self,↓reduceIte,true_and]
end
end Go.Tm
namespace Go.Tm
open Go.RowKit
section
variable {P:Program} {n:Nat} {ls:List Nat} {st st1:St}
theorem Le.trans{st2:St}(h:Le n ls st st1)(k:Le n ls st1 st2):Le n ls st st2:=λE g a w hE hS=>by
 obtain ⟨g1,h1⟩:=h E g a w hE hS;exact k E g1 a w hE h1
theorem TA{t:Nat}{x:A}(htm:st1.tm=st.tm)(h:∀ (E:En) (g:Gh) (w:World) (v:Value),fi E g st w->VR w g st.O st.R (st.tm t) v->∃ g1,fi E g1 st1 w/\pH w w g g1 st.O st.R st1.O st1.R/\VR w g1 st1.O st1.R x v)(ht:t < n) :
  Le n ls st (st1.put (some t) x):=λE g a w hE hS=>by
 obtain ⟨v,h1,h2⟩:=hS.tm t ht;obtain ⟨g1,h3,h4,h5⟩:=h E g w v hS.mem h2;refine ⟨g1,h3.put _ _,hS.size,hS.defers,λi hi=>?_,λi hi=>?_,λs b hs=>?_,λv' hv'=>⟨(h4.R _ (hS.pin v' hv').1).1,(h4.R _ (hS.pin v' hv').1).2.trans (hS.pin v' hv').2⟩⟩
 ·show ∃ u,_/\VR w g1 st1.O st1.R (eG st1.tm t x i) u
  by_cases he:i=t
  ·subst he;exact ⟨v,h1,by rw [de]; exact h5⟩
  ·obtain ⟨u,h6,h7⟩:=hS.tm i hi;exact ⟨u,h6,by rw [ci _ _ _ _ he,htm]; exact h7.mono h4⟩
 ·show eG st1.tm t x i=A.undef;rw [ci _ _ _ _ (by omega),htm];exact hS.und i hi
 ·obtain ⟨h6,h7⟩:=hS.lent s b hs;exact ⟨(h4.O s h6).1,(h4.O s h6).2.trans h7⟩
theorem fi.nilrow{E:En}{g:Gh}{w:World}{r:Nat}(h:fi E g st w)(hr:st.rw r=none)(e sz:Nat) :
  fi E { g with rw:=eG g.rw r (.slice none 0 0) } { st with rw:=eG st.rw r (some (.live e sz [])) } w /\
   pH w w g { g with rw:=eG g.rw r (.slice none 0 0) } st.O st.R ({ st with rw:=eG st.rw r (some (.live e sz [])) }:St).O ({ st with rw:=eG st.rw r (some (.live e sz [])) }:St).R :=
 h.new_row (qU.refl w) r hr (.slice none 0 0) e sz [] (λ_=>False) (λ_ _ _=>rfl) (λb h=>by cases h) (λ_ _ h=>h.elim) (λ_ h=>h.elim)
  ⟨[],⟨by simp,.inl ⟨rfl,rfl⟩⟩,λi row h=>by simp at h,λi row j x h=>by simp at h,λb h=>by cases h⟩
theorem Le.frz(t r e sz:Nat)(rows:List (List T))(ht:st.tm t=.own r)(hr:st.rw r=some (.live e sz rows))(hlt:Nat.blt t n=true) :
  Le n ls st (({ st with rw:=eG st.rw r (some (.frz sz rows)) }:St).put (some t) (.t (.sl sz rows))) :=
 TA rfl (λE g w v hM hv=>by
  rw [ht] at hv
  cases hv with
  | own _ hR =>
   obtain ⟨h1,h2⟩:=hM.frz_row r e sz rows hr;have h3:Rd w _ (.sl sz rows) (g.rw r):=h1.row r (.frz sz rows) (by simp [de]);exact ⟨_,h1,h2,.t _ _ h3⟩) (by simpa using hlt)
theorem fi.reob{E:En}{g:Gh}{w:World}{s:Nat}{cells cells':List A}(h:fi E g st w)(hs:st.ob s=some cells)(hl:cells'.length<=cells.length)
  (hx:∀ (j:Nat) (x':A),cells'[j]?=some x'->∃ x,cells[j]?=some x/\∀ v,x.one=true->VR w g st.O st.R x v->x'.one=true/\VR w g st.O st.R x' v):fi E g { st with ob:=eG st.ob s (some cells') } w:=by
 have hO:({ st with ob:=eG st.ob s (some cells') }:St).O=st.O:=by
  funext i
  unfold St.O;simp only [eG]
  split
  ·rename_i he;rw [he,hs];rfl
  ·rfl
 have hR:({ st with ob:=eG st.ob s (some cells') }:St).R=st.R:=rfl;have hL:({ st with ob:=eG st.ob s (some cells') }:St).L=st.L:=rfl;refine ⟨λi c hi=>?_,by rw [hO]; exact h.obne,h.row,h.rowne,by rw [hO,hL]; exact h.rowob,h.F,h.os,h.tape,h.output,h.sizes,h.frame,h.shp,h.dep0⟩;rw [hO,hR]
 by_cases he:i=s
 ·subst he;have hc:c=cells':=by simpa [de] using hi.symm
  subst hc;obtain ⟨arr,e,h1,h2,h3,h4⟩:=h.ob i cells hs;refine ⟨arr,e,h1,by omega,λj x' hj=>?_,h4⟩;obtain ⟨x,hxj,hxx⟩:=hx j x' hj;obtain ⟨h5,v,h6,h7⟩:=h3 j x hxj;exact ⟨(hxx v h5 h7).1,v,h6,(hxx v h5 h7).2⟩
 ·exact h.ob i c (by simpa [eG,he] using hi)
theorem Le.mem(htm:st1.tm=st.tm)(h:∀ (E:En) (g:Gh) (w:World),fi E g st w->∃ g1,fi E g1 st1 w/\pH w w g g1 st.O st.R st1.O st1.R):Le n ls st st1:=λE g a w hE hS=>by
 obtain ⟨g1,h3,h4⟩:=h E g w hS.mem;refine ⟨g1,h3,hS.size,hS.defers,λi hi=>?_,λi hi=>?_,λs b hs=>?_,λv' hv'=>⟨(h4.R _ (hS.pin v' hv').1).1,(h4.R _ (hS.pin v' hv').1).2.trans (hS.pin v' hv').2⟩⟩
 ·obtain ⟨u,h6,h7⟩:=hS.tm i hi;exact ⟨u,h6,by rw [htm]; exact h7.mono h4⟩
 ·rw [htm];exact hS.und i hi
 ·obtain ⟨h6,h7⟩:=hS.lent s b hs;exact ⟨(h4.O s h6).1,(h4.O s h6).2.trans h7⟩
theorem ID{s:Nat}{cells cells':List A}(hs:st.ob s=some cells):({ st with ob:=eG st.ob s (some cells') }:St).O=st.O:=by
 funext i
 unfold St.O;simp only [eG]
 split
 ·rename_i he;rw [he,hs];rfl
 ·rfl
theorem Bc(s j r e sz:Nat)(cells:List A)(hs:st.ob s=some cells)(hj:cells[j]?=some .nil)(hr:st.rw r=none) :
  Le n ls st { tm:=st.tm,ob:=eG st.ob s (some (cells.set j (.own r))),rw:=eG st.rw r (some (.live e sz [])) } :=
 Le.mem rfl λE g w hM=>by
  obtain ⟨h1,h2⟩:=hM.nilrow hr e sz;have h3:({ g with rw:=eG g.rw r (.slice none 0 0) }:Gh).rw r=Value.slice none 0 0:=de _ _ _;have h4:=VR.own (w:=w) (g:={ g with rw:=eG g.rw r (.slice none 0 0) }) (O:=({ st with rw:=eG st.rw r (some (.live e sz [])) }:St).O) (R:=({ st with rw:=eG st.rw r (some (.live e sz [])) }:St).R) r (by simp [St.R,de]);rw [h3] at h4;have hs':({ st with rw:=eG st.rw r (some (.live e sz [])) }:St).ob s=some cells:=hs;have hO:=ID (cells':=cells.set j (.own r)) hs';refine ⟨_,h1.reob hs' (cells':=cells.set j (.own r)) (by simp) (λi x' hi=>?_),⟨h2.same,h2.F,λs hs=>?_,h2.R,h2.d,h2.s⟩⟩
  ·by_cases he:j=i
   ·subst he;refine ⟨.nil,hj,λv _ hv=>?_⟩;have hlt:j < cells.length:=(List.getElem?_eq_some_iff.1 hj).1;rw [zWy hlt] at hi
    cases hi
    cases hv
    exact ⟨rfl,h4⟩
   ·rw [zXX he] at hi;exact ⟨x',hi,λv h1 h2=>⟨h1,h2⟩⟩
  ·have:=h2.O s hs;exact ⟨by rw [<- hO] at this; exact this.1,this.2⟩
end
end Go.Tm
namespace Go.Tm
section
variable {P:Program} {n:Nat} {ls:List Nat} {st st1:St}
theorem co(s j r e sz:Nat)(cells:List A)(rows:List (List T))(hs:st.ob s=some cells)(hj:cells[j]?=some (.own r))(hr:st.rw r=some (.live e sz rows)) :
  Le n ls st { tm:=st.tm,ob:=eG st.ob s (some (cells.set j (.t (.sl sz rows)))),rw:=eG st.rw r (some (.frz sz rows)) } :=
 Le.mem rfl λE g w hM=>by
  obtain ⟨h1,h2⟩:=hM.frz_row r e sz rows hr;have h3:Rd w _ (.sl sz rows) (g.rw r):=h1.row r (.frz sz rows) (by simp [de]);have hs':({ st with rw:=eG st.rw r (some (.frz sz rows)) }:St).ob s=some cells:=hs;have hO:=ID (cells':=cells.set j (.t (.sl sz rows))) hs';refine ⟨_,h1.reob hs' (cells':=cells.set j (.t (.sl sz rows))) (by simp) (λi x' hi=>?_),⟨h2.same,h2.F,λs hs=>?_,h2.R,h2.d,h2.s⟩⟩
  ·by_cases he:j=i
   ·subst he;refine ⟨.own r,hj,λv _ hv=>?_⟩;have hlt:j < cells.length:=(List.getElem?_eq_some_iff.1 hj).1;rw [zWy hlt] at hi
    cases hi
    cases hv
    exact ⟨rfl,.t _ _ h3⟩
   ·rw [zXX he] at hi;exact ⟨x',hi,λv h1 h2=>⟨h1,h2⟩⟩
  ·have:=h2.O s hs;exact ⟨by rw [<- hO] at this; exact this.1,this.2⟩
end
end Go.Tm
namespace Go.Tm
open Go.RowKit
def dV{α:Type}(xs:List α)(i:Int):Option α:=if 0<=i then xs[i.toNat]? else none
theorem bA{α:Type}{xs:List α}{i:Int}{x:α}(h:dV xs i=some x):0<=i/\xs[i.toNat]?=some x:=by
 unfold dV at h
 split at h
 ·exact ⟨by assumption,h⟩
 ·cases h
def ed(b:Bool):Option Unit:=if b then some () else none
theorem bw{b:Bool}{u:Unit}(h:ed b=some u):b=true:=by
 unfold ed at h
 split at h
 ·assumption
 ·cases h
theorem bind_some{α β:Type}{x:Option α}{f:α->Option β}{r:β}(h:x.bind f=some r):∃ a,x=some a/\f a=some r:=by
 cases x with
 | none=>cases h
 | some a=>exact ⟨a,rfl,h⟩
def H0{β:Type}(x:Option (β×St)):St:=match x with | some q=>q.2 | none=>dD
def Un(x:Option (A×St)):A:=match x with | some q=>q.1 | none=>.undef
section
variable {P:Program} {n:Nat} {ls:List Nat} {Q:Exit->St->Prop} {st st':St} {p:Nat->Bool} {ρ:Nat->eh} {ops:Array Oper} {l:List Oper} {K:St->Prop} {o:Oper}
theorem aB{id:Nat}(p:Nat->Bool)(ρ:Nat->eh)(hm:P.follows .mixedOrders=true)(hok:Ln p ρ n ops=true)(h:ae P p ρ ops ops.toList st (Q .normal)):Wp P n ls (.region id ops true) Q st :=
 Wp.region (λ_=>hm) hok h
theorem yH{id:Nat}(p:Nat->Bool)(ρ:Nat->eh)(hok:ops.toList.all (mT n)=true)(h:ae P p ρ ops ops.toList st (Q .normal)):Wp P n ls (.region id ops false) Q st :=
 Wp.region (λh=>by cases h) hok h
theorem ae.known(d:Nat){e v:Bool}(h:st.tm d=.t (.bool e))(hv:e=v)(hr:ae P p ρ ops l (st.put (some d) (.t (.bool v))) K):ae P p ρ ops l st K:=by
 have:st.put (some d) (.t (.bool v))=st:=by
  refine St.ext (funext λi=>?_) rfl rfl;show eG st.tm d (.t (.bool v)) i=st.tm i;unfold eG
  split
  ·rename_i he;rw [he,h,hv]
  ·rfl
 rwa [this] at hr
theorem ae.pure{x:A}(hg:iW ops st o=some true)(hf:eY ρ st o=true)(h:(pr P ρ st.eval o).run st=some (x,st))(hr:ae P p ρ ops l (st.put o.dst x) K):ae P p ρ ops (o :: l) st K:=ae.op hg hf h hr
theorem QY{α:Type}(f:α->List T)(xs:List α)(i:Int){y:α}{t e:TypeId}{a b:Operand}{sz:Nat}{kk:IntKind}(ho:o.op=.indexAddr t a b)(hg:iW ops st o=some true)(hf:eY ρ st o=true)
  (ha:st.eval a=some (.t (.sl sz (xs.map f)))) (hb:st.eval b=some (.t (.int kk i))) (hu:P.underlying t=some (.slice e)) (hs:iV P e=some sz) (h:dV xs i=some y) (hk:ae P p ρ ops l (st.put o.dst (.fadr (f y))) K):ae P p ρ ops (o :: l) st K:=by
 obtain ⟨h0,h1⟩:=bA h;refine ae.pure (x:=.fadr (f y)) hg hf ?_ hk;simp only [pr,ho,ha,hb];exact Va hu hs h0 h1
theorem QZ{α:Type}(f:α->List T)(xs:List α)(i:Int)(r:Nat){y:α}{t e e':TypeId}{a b:Operand}{sz:Nat}{kk:IntKind}(ho:o.op=.indexAddr t a b)(hg:iW ops st o=some true)(hf:eY ρ st o=true)
  (ha:st.eval a=some (.own r)) (hr:st.rw r=some (.live e' sz (xs.map f))) (hb:st.eval b=some (.t (.int kk i))) (hu:P.underlying t=some (.slice e)) (hs:iV P e=some sz) (h:dV xs i=some y) (hk:ae P p ρ ops l (st.put o.dst (.elem r sz i.toNat 0)) K):ae P p ρ ops (o :: l) st K:=by
 obtain ⟨h0,h1⟩:=bA h;refine ae.pure (x:=.elem r sz i.toNat 0) hg hf ?_ hk;simp only [pr,ho,ha,hb];exact Tz hu hs hr h0 h1
theorem O5{α:Type}(f:α->List T)(xs:List α)(r i off:Nat){y:α}{t:TypeId}{a:Operand}{sz m:Nat}{e':TypeId}{gg:Bool}(x:A)(ho:o.op=.load t a)(hg:iW ops st o=some true)(hf:eY ρ st o=true)
  (ha:st.eval a=some (.elem r sz i off)) (hr:st.rw r=some (.live e' sz (xs.map f))) (hgg:M2 P t=some gg) (hm:iV P t=some m) (h:xs[i]?=some y) (hc:B9 gg m ((f y).map A.t) off=some x) (hk:ae P p ρ ops l (st.put o.dst x) K):ae P p ρ ops (o :: l) st K:=by
 refine ae.pure (x:=x) hg hf ?_ hk;simp only [pr,ho,ha,EY,hgg,hm,MA.run,hr,↓reduceIte,zQY,h,zWX,hc]
def Bd(P:Program)(t:TypeId):Option (TypeId×Nat×Nat):=match P.underlying t with
 | some (.slice e)=>match zh P e,rU P e with
  | some (some _,n,by_),some z=>if z.length=n/\0 < n/\0 < by_ then some (e,n,by_) else none
  | _,_=>none
 | _=>none
theorem Dy{t e:TypeId}{n by_:Nat}(h:Bd P t=some (e,n,by_)):∃ z z0,P.underlying t=some (.slice e)/\zh P e=some (some z0,n,by_)/\rU P e=some z/\z.length=n/\0 < n/\0 < by_:=by
 unfold Bd at h
 split at h
 ·rename_i e' hu
  split at h
  ·rename_i z0 n' by' z hi hz
   split at h
   ·rename_i hc
    cases h
    exact ⟨z,z0,hu,hi,hz,hc.1,hc.2.1,hc.2.2⟩
   ·cases h
  ·cases h
 ·cases h
theorem R6{k:IntKind}{m:Nat}{xs:List Int}{f:Int->List T}(hf:∀ n,(f n).all T.sc=true):(((A.ext false (.sl m (xs.map f))).rows λm rows=>MA.ret (m,rows)).run st).map Prod.fst=some (m,xs.map f):=by
 have:Id (xs.map f)=true:=by
  unfold Id;rw [zYh];intro r hr;obtain ⟨n,_,rfl⟩:=List.mem_map.1 hr;exact hf n
 simp [A.rows,this,MA.run]
theorem Ma{β:Type}{y:A}{m:Nat}{ys:List (List T)}(hy:((y.rows λm rows=>MA.ret (m,rows)).run st).map Prod.fst=some (m,ys)):∀ k:Nat->List (List T)->MA β,(y.rows k).run st=(k m ys).run st:=by
 intro k;unfold A.rows at hy ⊢
 split at hy <;> simp only [MA.run] at hy ⊢ <;> try (simp at hy; done)
 ·simp at hy; obtain ⟨rfl,rfl⟩:=hy; rfl
 ·split at hy
  ·rename_i h; rw [if_pos h]; simp [MA.run] at hy; obtain ⟨rfl,rfl⟩:=hy; rfl
  ·simp [MA.run] at hy
 ·simp at hy; obtain ⟨rfl,rfl⟩:=hy; rfl
 ·rename_i r
  revert hy
  rcases st.rw r with _ | (_ | _ | _) <;> simp only [MA.run,zWX,Option.some.injEq,Prod.mk.injEq,Option.map_none,reduceCtorEq,false_implies]
  ·rintro ⟨rfl,rfl⟩; rfl
  ·rintro ⟨rfl,rfl⟩; rfl
theorem Q0(d m e nn by_ r:Nat)(xs ys:List (List T)){t:TypeId}{ts:Array TypeId}{args:Array Operand}{a b:Operand}{y:A}(ho:o.op=.call { callee:=.builtin .append,args,argTypes:=ts })(hargs:args.toList=[a,b])(hts:ts.toList=[t,t])(hd:o.dst=some d)(hg:iW ops st o=some true)(hf:eY ρ st o=true)
  (ha:st.eval a=some (.own r)) (hr:st.rw r=some (.live e nn xs)) (hb:st.eval b=some y) (hy:((y.rows λm rows=>MA.ret (m,rows)).run st).map Prod.fst=some (m,ys)) (hm:m=nn\/ys=[]) (hi:Bd P t=some (e,nn,by_)) (hsz:(xs.length+ys.length)*by_<=140737488355328) (hne:zXZ (fh d 0) r=false) (hfree:st.rw (fh d 0)=none)
  (hk:ae P p ρ ops l (({ st with rw:=eG (eG st.rw r (some .gone)) (fh d 0) (some (.live e nn (xs++ys))) }:St).put o.dst (.own (fh d 0))) K):ae P p ρ ops (o :: l) st K:=by
 obtain ⟨z,z0,hu,hti,hz,h1,h2,h3⟩:=Dy hi;have hne':fh d 0≠r:=λh=>by rw [h,zZk] at hne; cases hne
 refine ae.op (x:=.own (fh d 0)) hg hf ?_ hk;have hrow:=Ma (β:=A) hy;have hfr:eG st.rw r (some P4.gone) (fh d 0)=none:=by rw [ci _ _ _ _ hne',hfree]
 simp only [pr,ho,hargs,ha,hb,tX,hts,hd,↓reduceIte,hu,hti,hz,h1,h2,h3,and_self,hrow,hm,MA.run,hr,hsz,uF,hfr]
end
end Go.Tm
namespace Go.Tm
open Go.RowKit
section
variable {P:Program} {n:Nat} {ls:List Nat} {Q:Exit->St->Prop} {st st':St} {p:Nat->Bool} {ρ:Nat->eh} {ops:Array Oper} {l:List Oper} {K:St->Prop} {o:Oper}
theorem Vb{m:Bool}{fn:Func}{args:List V}{res:V}{outs:List (List C)}(l:List A)(res0:V)(outs0:List (List C))(hres:zk P st fn.results.toList=some l)(h:((Ai 0 args λos=>QW m (R5 l) λv=>MA.ret (v,os)).run st).map Prod.fst=some (res0,outs0))(hv:O0 res0 res)(ho:Aj (Aj Nw) outs0 outs):xF P m fn args res outs .ret st:=by
 obtain ⟨⟨x,st1⟩,h1,h2⟩:=Option.map_eq_some_iff.1 h
 cases h2
 exact ⟨.inl rfl,l,st1,res0,outs0,hres,h1,hv,ho⟩
theorem dp{α:Type}(f:α->List T)(d m e nn by_ r:Nat)(xs ys:List α){t:TypeId}{ts:Array TypeId}{args:Array Operand}{a b:Operand}{y:A}(ho:o.op=.call { callee:=.builtin .append,args,argTypes:=ts })(hargs:args.toList=[a,b])(hts:ts.toList=[t,t])(hd:o.dst=some d)(hg:iW ops st o=some true)(hf:eY ρ st o=true)
  (ha:st.eval a=some (.own r)) (hr:st.rw r=some (.live e nn (xs.map f))) (hb:st.eval b=some y) (hy:((y.rows λm rows=>MA.ret (m,rows)).run st).map Prod.fst=some (m,ys.map f)) (hm:m=nn\/ys.map f=[]) (hi:Bd P t=some (e,nn,by_)) (hsz:(xs.length+ys.length)*by_<=140737488355328) (hne:zXZ (fh d 0) r=false) (hfree:st.rw (fh d 0)=none)
  (hk:ae P p ρ ops l (({ st with rw:=eG (eG st.rw r (some .gone)) (fh d 0) (some (.live e nn ((xs++ys).map f))) }:St).put o.dst (.own (fh d 0))) K):ae P p ρ ops (o :: l) st K :=
 Q0 d m e nn by_ r (xs.map f) (ys.map f) ho hargs hts hd hg hf ha hr hb hy hm hi (by simpa using hsz) hne hfree (by rw [<- List.map_append]; exact hk)
theorem lG(op:BinOp)(a b:T)(z:T){t u:TypeId}{x y:Operand}(ho:o.op=.binOp op t x y u)(hg:iW ops st o=some true)(hf:eY ρ st o=true)(hx:st.eval x=some (.t a))(hy:st.eval y=some (.t b))
  (h:zN (Vs P t) op a b=some z) (hk:ae P p ρ ops l (st.put o.dst (.t z)) K):ae P p ρ ops (o :: l) st K:=by
 refine ae.pure (x:=.t z) hg hf ?_ hk;simp only [pr,ho,hx,hy,h,MA.run]
theorem TB(tb:Bool)(k:IntKind)(a b:Int)(h:(b == 0)=false):zN tb .quo (.int k a) (.int k b)=some (.int k (k.wrap (a.tdiv b))):=by
 have:b≠0:=by simpa using h
 simp [zN,this]
theorem H1(tb:Bool)(k:IntKind)(a b:Int)(h:(b == 0)=false):zN tb .rem (.int k a) (.int k b)=some (.int k (a.tmod b)):=by
 have:b≠0:=by simpa using h
 simp [zN,this]
theorem yI(tb:Bool)(k k':IntKind)(a b:Int)(h:decide (0<=b)=true):zN tb .shl (.int k a) (.int k' b)=some (.int k (k.wrap (a*2 ^ min b.toNat k.bits))):=by
 have:0<=b:=by simpa using h
 simp [zN,this]
theorem Qd(tb:Bool)(k k':IntKind)(a b:Int)(h:decide (0<=b)=true):zN tb .shr (.int k a) (.int k' b)=some (.int k (a.fdiv (2 ^ min b.toNat k.bits))):=by
 have:0<=b:=by simpa using h
 simp [zN,this]
def cO(l h n:Int):Bool:=decide (0<=l) && decide (l<=h) && decide (h<=n)
theorem Dz{l h n:Int}(hh:cO l h n=true):0<=l/\l<=h/\h<=n:=by
 simp only [cO,sk,decide_eq_true_eq] at hh;exact ⟨hh.1.1,hh.1.2,hh.2⟩
theorem dW{α:Type}(f:α->List T)(xs:List α)(sz:Nat)(i j:Int){t e:TypeId}{x:Operand}{ax:A}{lo hi:Option Operand}{alo ahi:Option A}(ho:o.op=.slice t x lo hi none)(hg:iW ops st o=some true)(hf:eY ρ st o=true)(hx:st.eval x=some ax)(hr:((ax.toT MA.ret).run st).map Prod.fst=some (.sl sz (xs.map f)))
  (hlo:If st.eval lo=some alo) (hhi:If st.eval hi=some ahi) (hl:wh 0 alo=some i) (hh:wh xs.length ahi=some j) (hu:P.underlying t=some (.slice e)) (hs:iV P e=some sz) (hw:Te ρ o.dst alo ahi=false) (h:cO i j xs.length=true)
  (hk:ae P p ρ ops l ((H0 ((ax.toT MA.ret).run st)).put o.dst (.t (.sl sz (((xs.take j.toNat).drop i.toNat).map f)))) K):ae P p ρ ops (o :: l) st K:=by
 have h':=Dz h;obtain ⟨⟨y,st1⟩,h1,h2⟩:=Option.map_eq_some_iff.1 hr
 cases h2
 rw [h1] at hk;refine ae.op (x:=.t (.sl sz (((xs.take j.toNat).drop i.toNat).map f))) (st1:=st1) hg hf ?_ hk;have key:∀ k:T->MA A,(ax.toT k).run st=(k (.sl sz (xs.map f))).run st1:=by
  intro k
  cases ax <;> simp only [A.toT,MA.run,Option.some.injEq,Prod.mk.injEq,reduceCtorEq] at h1 ⊢
  ·obtain ⟨h1,rfl⟩:=h1; rw [h1]
  ·obtain ⟨h1,rfl⟩:=h1; rw [h1]
  ·rename_i r
   revert h1
   rcases st.rw r with _ | (_ | _ | _) <;> simp only [MA.run,Option.some.injEq,Prod.mk.injEq,reduceCtorEq,false_implies]
   ·rintro ⟨h1,rfl⟩; rw [h1]
   ·rintro ⟨h1,rfl⟩; rw [h1]
 have hne:wx P t ax alo ahi=ax.toT fun
   | .sl sz' rows=>match wh 0 alo,wh rows.length ahi with
    | some l,some h=>if sz'=sz\/rows=[] then if 0<=l/\l<=h/\h<=rows.length then .ret (.t (.sl sz' ((rows.take h.toNat).drop l.toNat))) else .fail else .fail
    | _,_=>.fail
   | _=>.fail:=by
  unfold wx;rw [hu];have h9:∀ q:Option Nat,q=some sz->(match q with
   | some n=>(ax.toT λy=>match y with
    | .sl sz rows=>match wh 0 alo,wh rows.length ahi with
     | some l,some h=>if sz=n\/rows=[] then if 0<=l/\l<=h/\h<=rows.length then (MA.ret (.t (.sl sz ((rows.take h.toNat).drop l.toNat))):MA A) else .fail else .fail
     | _,_=>.fail
    | _=>.fail)
   | none=>.fail)=ax.toT fun
   | .sl sz' rows=>match wh 0 alo,wh rows.length ahi with
    | some l,some h=>if sz'=sz\/rows=[] then if 0<=l/\l<=h/\h<=rows.length then .ret (.t (.sl sz' ((rows.take h.toNat).drop l.toNat))) else .fail else .fail
    | _,_=>.fail
   | _=>.fail:=λq hq=>by subst hq; rfl
  cases ax <;> first | exact h9 _ hs | (exfalso; simp [A.toT,MA.run] at h1; done)
 simp only [pr,ho,hx,hlo,hhi,hw,zWW,hne,key,hl,zYZ,hh,h'.1,h'.2.1,h'.2.2,and_self,↓reduceIte,MA.run,true_or,<- List.map_take,<- List.map_drop]
theorem re{α:Type}(s:Bool)(f:α->List T)(xs:List α)(sz:Nat)(i j:Int){t e:TypeId}{x:Operand}{lo hi:Option Operand}{alo ahi:Option A}(ho:o.op=.slice t x lo hi none)(hg:iW ops st o=some true)(hf:eY ρ st o=true)(hx:st.eval x=some (.ext s (.sl sz (xs.map f))))
  (hlo:If st.eval lo=some alo) (hhi:If st.eval hi=some ahi) (hl:wh 0 alo=some i) (hh:wh xs.length ahi=some j) (hu:P.underlying t=some (.slice e)) (hs:iV P e=some sz) (hw:Te ρ o.dst alo ahi=false) (h:cO i j xs.length=true)
  (hk:ae P p ρ ops l (st.put o.dst (.ext s (.sl sz (((xs.take j.toNat).drop i.toNat).map f)))) K):ae P p ρ ops (o :: l) st K:=by
 have h':=Dz h;refine ae.pure (x:=.ext s (.sl sz (((xs.take j.toNat).drop i.toNat).map f))) hg hf ?_ hk;simp only [pr,ho,hx,hlo,hhi,hw,zWW,wx,hu,hs,hl,zYZ,hh,h'.1,h'.2.1,h'.2.2,and_self,true_and,↓reduceIte,MA.run,<- List.map_take,<- List.map_drop]
theorem IE{α:Type}:∀ (ts:List T) (k:List T->MA α),A.toTs (ts.map A.t) k=k ts
 | [],k=>rfl
 | t :: ts,k=>by
  simp only [zWv,A.toTs,A.toT];exact IE ts _
theorem Nz{α:Type}(f:α->List T)(y:α)(d e nn by_:Nat)(i c:Int){t:TypeId}{x1 x2:Operand}(ho:o.op=.makeSlice t x1 x2)(hd:o.dst=some d)(hg:iW ops st o=some true)(hf:eY ρ st o=true)(h1:st.eval x1=some (.t (.int .i64 i)))(h2:st.eval x2=some (.t (.int .i64 c)))
  (hi:Bd P t=some (e,nn,by_)) (hz:(rU P e).map (kM (Dc P e))=some ((f y).map A.t))
  (h0:(decide (0<=c) && (i == 0 || i == c))=true) (hsz:c.toNat*by_<=140737488355328) (hfree:st.rw (fh d 0)=none)
  (hk:ae P p ρ ops l (({ st with rw:=eG st.rw (fh d 0) (some (.live e nn ((zQh i.toNat y).map f))) }:St).put o.dst (.own (fh d 0))) K):ae P p ρ ops (o :: l) st K:=by
 obtain ⟨z,z0,hu,hti,hzz,q1,q2,q3⟩:=Dy hi;simp only [sk,decide_eq_true_eq,Bool.or_eq_true,beq_iff_eq] at h0;refine ae.op (x:=.own (fh d 0)) hg hf ?_ hk;have hc:c<=9223372036854775807:=by
  have:c.toNat<=c.toNat*by_:=Nat.le_mul_of_pos_right _ q3;omega
 rw [hzz] at hz;have hz':kM (Dc P e) z=(f y).map A.t:=by simpa using hz
 simp only [pr,ho,h1,h2,Ih,hu,hd,hti,hzz,q1,q2,h0.1,h0.2,hsz,hc,and_self,↓reduceIte,hz',IE,List.map_replicate,uF,MA.run,hfree]
theorem f6{α:Type}(f:α->List T)(xs:List α)(r i off:Nat){y:α}(y':α){t e:TypeId}{x1 x2:Operand}(v:A){sz m:Nat}(ts:List T)(ho:o.op=.store t x1 x2)(hg:iW ops st o=some true)(hf:eY ρ st o=true)
  (h1:st.eval x1=some (.elem r sz i off)) (h2:st.eval x2=some v) (hm:iV P t=some m) (hv:(zXZ v.cells.length m && v.cells.all A.one)=true) (hz:kM (Dc P t) v.cells=ts.map A.t)
  (hr:st.rw r=some (.live e sz (xs.map f))) (h:xs[i]?=some y) (hle:Nat.ble (off+m) (f y).length=true) (hy:spl (f y) off ts=f y')
  (hk:ae P p ρ ops l ((({ st with rw:=eG st.rw r (some (.live e sz ((xs.set i y').map f))) }:St)).put o.dst .undef) K):ae P p ρ ops (o :: l) st K:=by
 simp only [sk] at hv;have hv1:=zWw hv.1;have hle':off+m<=(f y).length:=by simpa using hle
 refine ae.op (x:=.undef) hg hf ?_ hk;simp only [pr,ho,h1,h2,yr,hm,hv1,hv.2,and_self,↓reduceIte,hz,IE,MA.run,hr,zQY,h,zWX,hle',hy,List.map_set]
end
end Go.Tm
namespace Go.Tm
open Go.RowKit
theorem O6{β:Type}{e:Bool}{x y:β}{r:β}(h:(bif e then x else y)=r)(hc:e=true):x=r:=by rw [hc] at h; exact h
theorem O7{β:Type}{e:Bool}{x y:β}{r:β}(h:(bif e then x else y)=r)(hc:e=false):y=r:=by rw [hc] at h; exact h
def be(k:IntKind)(a b:Int):Int:=k.wrap (a+b)
def eH(k:IntKind)(a b:Int):Int:=k.wrap (a - b)
def lH(k:IntKind)(a b:Int):Int:=k.wrap (a*b)
def NA(k:IntKind)(a b:Int):Int:=k.wrap (a.tdiv b)
def tY(k:IntKind)(a b:Int):Int:=a.tmod b
def fG(k:IntKind)(a b:Int):Int:=k.wrap (BitVec.ofInt k.bits a &&& BitVec.ofInt k.bits b).toNat
def u3(k:IntKind)(a b:Int):Int:=k.wrap (BitVec.ofInt k.bits a ||| BitVec.ofInt k.bits b).toNat
def Mb(k:IntKind)(a b:Int):Int:=k.wrap (BitVec.ofInt k.bits a ^^^ BitVec.ofInt k.bits b).toNat
def yJ(k:IntKind)(a b:Int):Int:=k.wrap (BitVec.ofInt k.bits a &&& ~~~ BitVec.ofInt k.bits b).toNat
def lI(k:IntKind)(a b:Int):Int:=k.wrap (a*2 ^ min b.toNat k.bits)
def m7(k:IntKind)(a b:Int):Int:=a.fdiv (2 ^ min b.toNat k.bits)
theorem tf(b:Bool):b=true\/b=false:=by cases b <;> simp
def aj(k:IntKind)(n:Int):List T:=[.int k n]
def VL{α:Type}(sz:Nat)(f:α->List T)(xs:List α):List T:=[.sl sz (xs.map f)]
theorem aJ.le{P:Program}{f:FuncId}{l l':List V}{res:V}{outs:List (List C)}(h:aJ P f l' res outs)(hl:Ak l l'):aJ P f l res outs:=by
 refine ⟨h.1,λw F vs bs hF hV hn hb htb=>(h.2 w F vs bs hF (E8 hl hV) hn hb htb).mono λe w' hh=>?_⟩;obtain ⟨v,F',bv,bo,h1,h2,h3,h4,h5,h6,h7,h8,h9⟩:=hh;exact ⟨v,F',bv,bo,h1,h2,h3,h4,h5,h6,Qc h7 hl,h8,h9⟩
end Go.Tm
namespace Go.Tm
open Go.RowKit
section
variable {P:Program} {n:Nat} {ls:List Nat} {Q:Exit->St->Prop} {N:St->Prop} {st st':St} {p:Nat->Bool} {ρ:Nat->eh} {ops:Array Oper} {l:List Oper} {K:St->Prop} {o:Oper}
theorem aS(h:N st):iz N Q .normal st:=h
theorem br{id:Nat}(h:Q (.exit id) st):iz N Q (.exit id) st:=h
theorem Vc(h:Q .ret st):iz N Q .ret st:=h
theorem b8{id:Nat}(h:Q .normal st):Ty id Q .normal st:=h
theorem eR{id:Nat}(h:Q .normal st):Ty id Q (.exit id) st:=by
 show bif zXZ id id then Q .normal st else Q (.exit id) st
 rw [zZk];exact h
theorem GU{fn:Func}{c:Code}{f:FuncId}{args:List V}{m:Bool}{res:V}{outs:List (List C)}(as:List A)
  (hf:P.funcs[f]?=some fn) (hb:fn.body=some c) (hnm:(fn.name == "runtime.NumGoroutine")=false) (hle:Nat.ble as.length fn.ntmps=true) (ht:tv fn.ntmps fn=true)
  (ha:((nY 0 args MA.ret).run dD).map Prod.fst=some as) (hl:ij 0 args as=true)
  (h:Wp P fn.ntmps (eU 0 args) c (xF P m fn args res outs) (gw as (H0 ((nY 0 args MA.ret).run dD)))):aJ P f args res outs:=by
 obtain ⟨⟨as',st0⟩,h1,h2⟩:=Option.map_eq_some_iff.1 ha
 cases h2
 rw [h1] at h;exact IC hf hb hnm (by simpa using hle) ht h1 hl h
theorem Q1{α:Type}(f:α->List T)(xs:List α)(m:Nat){y:A}{x:Operand}{t e:TypeId}{args:Array Operand}{ts:Array TypeId}(ho:o.op=.call { callee:=.builtin .len,args,argTypes:=ts })(hargs:args.toList=[x])(hts:ts.toList=[t])(hg:iW ops st o=some true)(hf:eY ρ st o=true)
  (hx:st.eval x=some y) (hy:((y.rows λm rows=>MA.ret (m,rows)).run st).map Prod.fst=some (m,xs.map f)) (hu:P.underlying t=some (.slice e)) (hk:ae P p ρ ops l (st.put o.dst (.t (.int .i64 xs.length))) K):ae P p ρ ops (o :: l) st K:=by
 refine ae.pure (x:=.t (.int .i64 xs.length)) hg hf ?_ hk;have hl:(Ga P t y).run st=(MA.ret (.t (.int .i64 xs.length)):MA A).run st:=by
  unfold Ga;rw [hu]
  split <;> rename_i h1 <;> first | (cases h1; done) | skip
  ·rename_i s z rs
   cases s with
   | true=>cases hy
   | false =>
    simp only [A.rows] at hy
    split at hy
    ·simp [MA.run] at hy; rw [hy.2]; simp
    ·simp [MA.run] at hy
  ·rw [Ma hy]; simp
  ·rename_i h2 _; exact absurd rfl (h2 _)
 simp only [pr,ho,hargs,hx,hts];rw [hl]; rfl
theorem ct{α:Type}(f:α->List T)(xs:List α)(s:Bool)(m:Nat){x:Operand}{t e:TypeId}{args:Array Operand}{ts:Array TypeId}(ho:o.op=.call { callee:=.builtin .len,args:=args,argTypes:=ts })(hargs:args.toList=[x])(hts:ts.toList=[t])(hg:iW ops st o=some true)(hf:eY ρ st o=true)
  (hx:st.eval x=some (.ext s (.sl m (xs.map f)))) (hu:P.underlying t=some (.slice e)) (hk:ae P p ρ ops l (st.put o.dst (.t (.int .i64 xs.length))) K):ae P p ρ ops (o :: l) st K:=by
 refine ae.pure (x:=.t (.int .i64 xs.length)) hg hf ?_ hk;simp only [pr,ho,hargs,hx,hts,Ga,hu,MA.run,zYZ]
def bp(l:List (Nat×eh))(t:Nat):eh:=match Af l t with | some r=>r | none=>.any
def ff(l:List Nat)(s:Nat):Bool:=l.contains s
end
end Go.Tm
namespace Go.Tm
open Go.RowKit Go.ChangeShapes
inductive Uo (w:World) (F:Nat->Prop):List T->List Value->Prop
 | nil:Uo w F [] []
 | cons (x:T) (v:Value) (xs:List T) (vs:List Value) (h:Rd w F x v) (hs:Uo w F xs vs):Uo w F (x :: xs) (v :: vs)
theorem Uo.get{w:World}{F:Nat->Prop}{xs:List T}{vs:List Value}(h:Uo w F xs vs):∀ (j:Nat) (x:T),xs[j]?=some x->∃ v,vs[j]?=some v/\Rd w F x v:=by
 induction h with
 | nil=>intro j x hx; simp at hx
 | cons x v xs vs h hs ih =>
  intro j y hy
  cases j with
  | zero=>simp only [zWQ,Option.some.injEq] at hy ⊢; subst hy; exact ⟨v,rfl,h⟩
  | succ j=>simp only [List.getElem?_cons_succ] at hy ⊢; exact ih j y hy
abbrev TC(w:World):Nat->Prop:=λb=>b < w.heap.size
def NB{α:Type}(P:Program)(t:TypeId)(n:Nat)(wf:α->Prop)(enc:α->List T):Prop :=
 P.cellsOf t=n/\(∀ x,(enc x).length=n)/\∀ {H:Type} (ec:TypeId×Value->H) (w:World) (sp:Nat->Bool) (held:Bool) (k:Nat) (cs:List Value) (d:DataW H×List MemPlace),
  DataW.trod ec P w 0 sp held k t cs=some d->∃ x,wf x/\Uo w (TC w) (enc x) cs
def jj(k:IntKind)(n:Int):Prop:=k.min<=n/\n<=k.max
def IF{α:Type}(wf:α->Prop)(xs:List α):Prop:=xs.length<=maxLen/\∀ x∈xs,wf x
theorem NB.int{P:Program}{t:TypeId}{k:IntKind}(hu:P.underlying t=some (.int k))(hc:P.cellsOf t=1):NB P t 1 (jj k) (aj k):=by
 refine ⟨hc,λ_=>rfl,λec w sp held m cs d h=>?_⟩;obtain ⟨n,rfl,_,hw⟩:=DataW.trod_int hu h;simp [Lit.wf] at hw;exact ⟨n,hw,.cons _ _ _ _ (.int _ _) .nil⟩
theorem IG{α:Type}{g:Nat->Option α}{n:Nat}{r:List α}(h:(zXQ n).mapM g=some r){i:Nat}(hi:i < n):∃ x,g i=some x/\r[i]?=some x:=by
 have h1:=mapM_some_get h i i (by simp [hi]);have h2:=mapM_some_length h;simp only [List.length_range] at h2;rw [h1];exact ⟨r[i]'(by omega),by simp,by simp⟩
theorem Lp{w:World}{a:Addr}{n:Nat}{cs:List Value}(h:w.cells? 0 a n=some cs):cs.length=n/\∀ j,j < n->∃ v,w.cell? (a.add j)=some v/\cs[j]?=some v:=by
 unfold World.cells? at h;simp only [zZy,if_true] at h;exact ⟨by have:=mapM_some_length h; simpa using this,λj hj=>IG h hj⟩
theorem Q2{w:World}{a:Addr}{v:Value}(h:w.cell? a=some v):a.spot=none/\a.block < w.heap.size:=by
 unfold World.cell? at h
 split at h
 ·rename_i c u fr e
  split at h
  ·cases h
  ·rename_i hs;refine ⟨by cases a with | mk b o s=>cases s <;> simp_all,?_⟩;have:=e; rw [Array.getElem?_eq_some_iff] at this; exact this.1
 ·cases h
theorem NB.slice{α:Type}{P:Program}{t e:TypeId}{n:Nat}{wf:α->Prop}{enc:α->List T}(hu:P.underlying t=some (.slice e))(hc:P.cellsOf t=1)(he:NB P e (n+1) wf enc):NB P t 1 (IF wf) (VL (n+1) enc):=by
 refine ⟨hc,λ_=>rfl,λ{H} ec w sp held m cs d h=>?_⟩;rcases DataW.trod_slice hu h with ⟨rfl,_⟩ | ⟨a,len,cap,elems,rest,m',rfl,rfl,_,_,hlc,hcap,hel,hm,_,_⟩
 ·exact ⟨[],⟨by simp,by simp⟩,.cons _ _ _ _ (.sl0 _ _ _ (by first | assumption | exact λ_=>rfl | (intro h; cases h))) .nil⟩
 ·have hex:∀ i,i < len->∃ x:α,∃ cs:List Value,w.cells? 0 (a.add (i*(n+1))) (n+1)=some cs/\wf x/\Uo w (TC w) (enc x) cs:=by
   intro i hi;have hy:=hm i hi;rw [he.1,sX (by omega)] at hy
   cases hcs:w.cells? 0 (a.add (i*(n+1))) (n+1) with
   | none=>rw [hcs] at hy; cases hy
   | some cs =>
    rw [hcs] at hy;obtain ⟨x,hx,hr⟩:=he.2.2 ec w sp held m' cs _ hy;exact ⟨x,cs,rfl,hx,hr⟩
  rcases Nat.eq_zero_or_pos len with h0 | hpos
  ·subst h0; exact ⟨[],⟨by simp,by simp⟩,.cons _ _ _ _ (.sl0 _ _ _ (by first | assumption | exact λ_=>rfl | (intro h; cases h))) .nil⟩
  ·have hsp:a.spot=none/\a.block < w.heap.size:=by
    obtain ⟨x,cs,hcs,_,_⟩:=hex 0 hpos;obtain ⟨v,hv,_⟩:=(Lp hcs).2 0 (by omega);have:=Q2 hv
    simpa [Addr.add] using this
   obtain ⟨b,off,s⟩:=a;simp only at hsp;obtain ⟨rfl,hb⟩:=hsp;have hcell:∀ i j,(Addr.add ((⟨b,off,none⟩:Addr).add (i*(n+1))) j)=⟨b,off+i*(n+1)+j,none⟩:=by
    intro i j;unfold Addr.add
    split <;> split <;> simp_all
   -- the elements, chosen
   have hch:∀ k,k<=len->∃ ys:List α,ys.length=k/\(∀ y∈ys,wf y)/\∀ i y,ys[i]?=some y->∃ cs,w.cells? 0 ((⟨b,off,none⟩:Addr).add (i*(n+1))) (n+1)=some cs/\Uo w (TC w) (enc y) cs:=by
    intro k
    induction k with
    | zero=>intro _; exact ⟨[],rfl,by simp,by simp⟩
    | succ k ih =>
     intro hk;obtain ⟨ys,h1,h2,h3⟩:=ih (by omega);obtain ⟨x,cs,h4,h5,h6⟩:=hex k (by omega);refine ⟨ys++[x],by simp [h1],?_,?_⟩
     ·intro y hy;rcases List.mem_append.1 hy with h | h
      ·exact h2 y h
      ·simp only [zQV] at h; subst h; exact h5
     ·intro i y hy
      by_cases hi:i < ys.length
      ·rw [zQW hi] at hy; exact h3 i y hy
      ·rw [zQX (by omega)] at hy;have:i=ys.length:=by
        rcases Nat.lt_or_ge (i - ys.length) 1 with h | h
        ·omega
        ·rw [List.getElem?_eq_none (by simpa using h)] at hy; cases hy
       subst this;simp only [Nat.sub_self,zWQ,Option.some.injEq] at hy;subst hy;rw [h1];exact ⟨cs,h4,h6⟩
   obtain ⟨ys,h1,h2,h3⟩:=hch len (zWj _);refine ⟨ys,⟨by omega,h2⟩,.cons _ _ _ _ ?_ .nil⟩;have hl:(ys.map enc).length=len:=by simpa using h1
   have key:∀ (i:Nat) (row:List T) (j:Nat) (x:T),(ys.map enc)[i]?=some row->row[j]?=some x->∃ v,w.cell? ⟨b,off+i*(n+1)+j,none⟩=some v/\Rd w (TC w) x v:=by
    intro i row j x hi hj;rw [zQY] at hi
    cases hy:ys[i]? with
    | none=>rw [hy] at hi; cases hi
    | some y =>
     rw [hy] at hi;simp only [zWX,Option.some.injEq] at hi;subst hi;obtain ⟨cs,hcs,hrd⟩:=h3 i y hy;obtain ⟨v,hv,hr⟩:=hrd.get j x hj;have hjn:j < n+1:=by
      have:=he.2.1 y;rcases Nat.lt_or_ge j (n+1) with h | h
      ·exact h
      ·rw [List.getElem?_eq_none (by omega)] at hj; cases hj
     obtain ⟨v',hv',hc'⟩:=(Lp hcs).2 j hjn;rw [hv] at hc'
     cases hc'
     rw [hcell] at hv';exact ⟨v,hv',hr⟩
   have hfun:∃ u:Nat->Nat->Value,∀ (i:Nat) (row:List T) (j:Nat) (x:T),(ys.map enc)[i]?=some row->row[j]?=some x->w.cell? ⟨b,off+i*(n+1)+j,none⟩=some (u i j)/\Rd w (TC w) x (u i j):=by
    refine ⟨λi j=>(w.cell? ⟨b,off+i*(n+1)+j,none⟩).getD (.bool false),λi row j x hi hj=>?_⟩;obtain ⟨v,hv,hr⟩:=key i row j x hi hj;simp only [hv,zYq];exact ⟨trivial,hr⟩
   obtain ⟨u,hu'⟩:=hfun;have:=Rd.sl (w:=w) (F:=TC w) (n+1) (ys.map enc) b off cap u (by omega) hb (λi row hi=>by
    rw [zQY] at hi
    cases hy:ys[i]? with
    | none=>rw [hy] at hi; cases hi
    | some y=>rw [hy] at hi; simp only [zWX,Option.some.injEq] at hi; subst hi; exact he.2.1 y) (λi row j x hi hj=>(hu' i row j x hi hj).1) (λi row j x hi hj=>(hu' i row j x hi hj).2)
   rw [hl] at this;exact this
end Go.Tm
namespace Go.Tm
open Go.RowKit Go.ChangeShapes
def Vu{α:Type}(P:Program)(t:TypeId)(wf:α->Prop)(ev:α->V):Prop :=
 ∀ {H:Type} (ec:TypeId×Value->H) (W:World) (base:Nat) (v:Value) (d:DataW H) (p:List MemPlace),DataW.Trod ec P W 0 (λ_=>true) true t v d p->Value.okWide P W .any base t v->∃ x,wf x/\VV W (TC W) (ev x) v []
def R7(P:Program)(t:TypeId):Bool:=match P.underlying t with | some (.struct _) | some (.array ..)=>false | _=>true
theorem NC{P:Program}{t:TypeId}(hn:R7 P t=true){W:World}{base:Nat}{v:Value}(h:Value.okWide P W .any base t v):v.cells=#[v]:=by
 cases v with
 | agg cs =>
  exfalso;unfold R7 at hn;unfold Value.okWide at h
  cases hu:P.underlying t with
  | none=>simp [hu,Cell.okWide,Cell.ok] at h
  | some u=>cases u <;> simp_all [Cell.okWide,Cell.ok]
 | _=>rfl
theorem Vu.one{α:Type}{P:Program}{t:TypeId}{wf:α->Prop}{enc:α->List T}(h:NB P t 1 wf enc)(hn:R7 P t=true):Vu P t wf (λx=>.one (.t ((enc x).headD .nilf))):=by
 intro H ec W base v d p ⟨k,hd⟩ hv;obtain ⟨x,hx,hr⟩:=h.2.2 ec W _ _ k _ _ hd;have hc:=NC hn hv;rw [hc] at hr;have hl:=h.2.1 x;refine ⟨x,hx,.one _ _ _ ?_⟩
 match he:enc x,hl with
 | [y],_ =>
  rw [he] at hr
  cases hr with
  | cons _ _ _ _ h1 _=>exact .t _ _ h1
def Gg{α:Type}(P:Program)(ts:List TypeId)(wf:α->Prop)(ea:α->List V):Prop :=
 ∀ {H:Type} (ec:TypeId×Value->H) (W:World) (base:Nat) (vs:List Value) (ds:List (DataW H)) (p:List MemPlace),DataW.TrodAll ec P W 0 (λ_=>true) true ts vs ds p ->
  (∀ (j:Nat) (t:TypeId) (v:Value),ts[j]?=some t->vs[j]?=some v->Value.okWide P W .any base t v)->∃ x,wf x/\zP W (TC W) (ea x) vs []
theorem Gg.nil{P:Program}:Gg P [] (λ_:Unit=>True) (λ_=>[]):=by
 intro H ec W base vs ds p h hv;obtain ⟨rfl,_,_⟩:=trodAll_nil h;exact ⟨(),trivial,.nil⟩
theorem Gg.cons{α β:Type}{P:Program}{t:TypeId}{ts:List TypeId}{wf:α->Prop}{ev:α->V}{wf':β->Prop}{ea:β->List V}(h:Vu P t wf ev)(hs:Gg P ts wf' ea) :
  Gg P (t :: ts) (λx:α×β=>wf x.1/\wf' x.2) (λx=>ev x.1 :: ea x.2):=by
 intro H ec W base vs ds p hT hv;obtain ⟨v,vs',d,ds',p1,p2,rfl,rfl,rfl,h1,h2⟩:=trodAll_cons hT;obtain ⟨x,hx,hr⟩:=h ec W base v d p1 h1 (hv 0 t v rfl rfl);obtain ⟨y,hy,hr'⟩:=hs ec W base vs' ds' p2 h2 (λj t v ht hj=>hv (j+1) t v ht hj);exact ⟨(x,y),⟨hx,hy⟩,.cons _ _ [] _ _ [] hr hr'⟩
theorem BB{P:Program}{H:Type}{ec:TypeId×Value->H}(hl:laidOutB P=true){W W':World}(hb:Below W.heap.size W W'):∀ {ts:List TypeId} {vs:List Value} {ds:List (DataW H)} {p:List MemPlace},
  ts.all (λt=>P.readableRec t && decide (t < P.types.size))=true->DataW.TrodAll ec P W 0 (λ_=>true) true ts vs ds p ->
  DataW.TrodAll ec P W' 0 (λb=>decide (b < W.heap.size)) true ts vs ds p
 | [],vs,ds,p,_,h=>by
  obtain ⟨rfl,rfl,rfl⟩:=trodAll_nil h;exact trodAll_mk0
 | t :: ts,vs,ds,p,ht,h=>by
  obtain ⟨v,vs',d,ds',p1,p2,rfl,rfl,rfl,h1,h2⟩:=trodAll_cons h;simp only [List.all_cons,sk,decide_eq_true_eq] at ht;refine trodAll_cons_mk (Below.trod hl ht.1.1 ht.1.2 h1 hb ?_) (BB hl hb (by simpa using ht.2) h2);obtain ⟨k,hk⟩:=h1;exact DataW.trod_lt k _ _ _ hk
theorem Q3{α:Type}{P:Program}{f:FuncId}{ts:List TypeId}{wf:α->Prop}{ea:α->List V}(hr:Gg P ts wf ea)(hl:laidOutB P=true)(hts:ts.all (λt=>P.readableRec t && decide (t < P.types.size))=true)
  (law:∀ x,wf x->aJ P f (ea x) (.one (.t (.bool true))) []) {H:Type} (ec:TypeId×Value->H) (W:World) (base:Nat) (args:Array Value) (ds:List (DataW H)) (p:List MemPlace)
  (hT:DataW.TrodAll ec P W 0 (λ_=>true) true ts args.toList ds p) (hv:∀ (j:Nat) (t:TypeId) (v:Value),ts[j]?=some t->args[j]?=some v->Value.okWide P W .any base t v)
  (htb:Kh P W λ_=>False):Calls P f args W λe W'=>e=.returned (.bool true)/\Below W.heap.size W W'/\DataW.TrodAll ec P W' 0 (λb=>decide (b < W.heap.size)) true ts args.toList ds p:=by
 obtain ⟨x,hx,hV⟩:=hr ec W base args.toList ds p hT (λj t v h1 h2=>hv j t v h1 (by simpa using h2));have:=(law x hx).2 W (TC W) args.toList [] (λ_ h=>h) hV .nil (by simp) (htb.mono λ_ h=>by cases h);simp only [zWK] at this;refine this.mono λe W' ⟨v,F',bv,bo,h1,h2,h3,h4,h5,h6,h7,h8,h9⟩=>?_;have hbel:Below W.heap.size W W':=⟨h2.os,h2.tape,h2.output,h2.size,λk hk=>h3 k hk (by simp)⟩;refine ⟨?_,hbel,BB hl hbel hts hT⟩
 cases h6 with
 | one _ _ _ h =>
  cases h with
  | t _ _ h =>
   cases h
   exact h1
end Go.Tm
namespace Go.Tm
open Go.RowKit
mutual
def A.fz(s:Nat)(cs:List T):A->A
 | .obj s' off=>bif zXZ s' s then .fadr (cs.drop off) else .obj s' off
 | .agg l=>.agg (Al s cs l)
 | .tup l=>.tup (Al s cs l)
 | .clo f l=>.clo f (Al s cs l)
 | .osl q a n c=>bif zXZ q s then .t (.hdr a n c) else .osl q a n c
 | a=>a
def Al(s:Nat)(cs:List T):List A->List A
 | []=>[]
 | a :: r=>a.fz s cs :: Al s cs r
end
theorem Mc(s:Nat)(cs:List T):∀ l:List A,Al s cs l=l.map (A.fz s cs)
 | []=>by rw [Al]; rfl
 | a :: r=>by rw [Al,Mc s cs r]; rfl
def St.fz(st:St)(s:Nat)(cs:List T):St:=⟨λt=>(st.tm t).fz s cs,λi=>if i=s then none else (st.ob i).map λl=>Al s cs l,st.rw⟩
theorem UG(s:Nat)(cs:List T)(a:A):(a.fz s cs).one=a.one:=by
 cases a with
 | obj s' off=>unfold A.fz; cases zXZ s' s <;> rfl
 | osl q a n c=>unfold A.fz; cases zXZ q s <;> rfl
 | _=>unfold A.fz <;> rfl
section
variable {E:En} {g:Gh} {st:St} {w:World} {s:Nat} {cs:List T}
theorem VR.fz{O:Nat->Prop}{R:Nat->Prop}{O':Nat->Prop}{F':Nat->Prop}(hF:∀ b,g.F b->F' b)(hO:∀ i,O i->i≠s->O' i)(hb:F' (g.ob s)){arr:Array Value}{e:TypeId}(hh:w.heap[g.ob s]?=some (.cells arr e (0,0)))
  (hc:∀ (j:Nat) (x:T),cs[j]?=some x->∃ v,arr[j]?=some v/\Rd w g.F x v) {a:A} {v:Value} (h:VR w g O R a v):VR w { g with F:=F' } O' R (a.fz s cs) v:=by
 have hl:∀ (l:List A) (vs:List Value),l.length=vs.length->(∀ (i:Nat) (x:A) (v:Value),l[i]?=some x->vs[i]?=some v->VR w { g with F:=F' } O' R (x.fz s cs) v) ->
   (Al s cs l).length=vs.length/\∀ (i:Nat) (x:A) (v:Value),(Al s cs l)[i]?=some x->vs[i]?=some v->VR w { g with F:=F' } O' R x v:=by
  intro l vs hl ih;rw [Mc];refine ⟨by simp [hl],λi x v hx hv=>?_⟩;rw [zQY] at hx
  cases hy:l[i]? with
  | none=>rw [hy] at hx; cases hx
  | some y =>
   rw [hy] at hx;simp only [zWX,Option.some.injEq] at hx;subst hx;exact ih i y v hy hv
 have hs:vJ g.F w w:=λ_ _=>rfl
 induction h with
 | t x v h=>unfold A.fz; exact .t x v (h.mono hs hF)
 | nil=>unfold A.fz; exact .nil
 | own r hr=>unfold A.fz; exact VR.own (g:={ g with F:=F' }) r hr
 | agg l vs hl' h ih=>unfold A.fz; obtain ⟨h1,h2⟩:=hl l vs hl' ih; exact .agg _ vs h1 h2
 | tup l vs hl' h ih=>unfold A.fz; obtain ⟨h1,h2⟩:=hl l vs hl' ih; exact .tup _ vs h1 h2
 | obj s' off hs' =>
  unfold A.fz
  cases he:zXZ s' s with
  | false =>
   have:s'≠s:=λh=>by rw [h,zZk] at he; cases he
   exact VR.obj (g:={ g with F:=F' }) s' off (hO s' hs' this)
  | true =>
   have:=zWw he;subst this;simp only [cond_true];have hcell:∀ j,w.cell? ⟨g.ob s',off+j,none⟩=arr[off+j]?:=λj=>by
    unfold World.cell?;simp only [hh]; rfl
   refine VR.fadr (g:={ g with F:=F' }) _ _ off (λj=>(arr[off+j]?).getD (.bool false)) hb (λj x hx=>?_) (λj x hx=>?_)
   ·rw [zQq] at hx;obtain ⟨u,h1,_⟩:=hc _ x hx;rw [hcell,h1]; rfl
   ·rw [zQq] at hx;obtain ⟨u,h1,h2⟩:=hc _ x hx;simp only [h1,zYq];exact h2.mono hs hF
 | elem r sz i off b n c hr he=>unfold A.fz; exact VR.elem (g:={ g with F:=F' }) r sz i off b n c hr he
 | win r lo m n c c' ad a' hr he hm hp=>unfold A.fz; exact VR.win (g:={ g with F:=F' }) r lo m n c c' ad a' hr he hm hp
 | sub r sz lo n c c' ad a' hr he hp=>unfold A.fz; exact VR.sub (g:={ g with F:=F' }) r sz lo n c c' ad a' hr he hp
 | fadr cells b off u hF' hx hr=>unfold A.fz; exact VR.fadr (g:={ g with F:=F' }) cells b off u (hF _ hF') hx (λj x h=>(hr j x h).mono hs hF)
 | nn sz rows v h hv=>unfold A.fz; exact VR.nn (g:={ g with F:=F' }) sz rows v (h.mono hs hF) hv
 | ext s x v hs' h=>unfold A.fz; exact VR.ext (g:={ g with F:=F' }) s x v hs' h
 | shp x v h=>unfold A.fz; exact VR.shp (g:={ g with F:=F' }) x v h
 | exa s cells b off u hs' hD hx hr=>unfold A.fz; exact VR.exa (g:={ g with F:=F' }) s cells b off u hs' hD hx hr
 | clo f l vs hl' h ih=>unfold A.fz; obtain ⟨h1,h2⟩:=hl l vs hl' ih; exact .clo f _ vs h1 h2
 | undef v=>unfold A.fz; exact .undef v
 | raw v=>unfold A.fz; exact .raw v
 | osl q a n c hs ha =>
  unfold A.fz
  cases hq:zXZ q s with
  | true=>exact .t _ _ (.hdr _ _ _)
  | false=>exact VR.osl (g:={ g with F:=F' }) q a n c (hO q hs (λh=>by subst h; simp at hq)) ha
end
theorem IH{n:Nat}{ls:List Nat}{st:St}(s:Nat)(cs:List T)(hs:st.ob s=some (cs.map .t))(hl:ls.contains s=false):Le n ls st (st.fz s cs):=by
 intro E g a w hE hS;have hM:=hS.mem;obtain ⟨arr,e,h1,h2,h3,h4,h5⟩:=hM.ob s _ hs;have hOs:st.O s:=by simp [St.O,hs]
 have hc:∀ (j:Nat) (x:T),cs[j]?=some x->∃ v,arr[j]?=some v/\Rd w g.F x v:=by
  intro j x hx;obtain ⟨_,v,h6,h7⟩:=h3 j (.t x) (by rw [zQY,hx]; rfl)
  cases h7 with
  | t _ _ h=>exact ⟨v,h6,h⟩
 have hO:∀ i,(st.fz s cs).O i↔st.O i/\i≠s:=by
  intro i;unfold St.O St.fz
  by_cases h:i=s <;> simp [h]
 have hv:∀ {a:A} {v:Value},VR w g st.O st.R a v->VR w { g with F:=λb=>g.F b\/b=g.ob s } (st.fz s cs).O st.R (a.fz s cs) v:=λh =>
  VR.fz (s:=s) (cs:=cs) (λ_ h=>.inl h) (λi hi hne=>(hO i).2 ⟨hi,hne⟩) (.inr rfl) h1 hc h
 refine ⟨{ g with F:=λb=>g.F b\/b=g.ob s },⟨λi c hi=>?_,λi j hi hj he=>hM.obne i j ((hO i).1 hi).1 ((hO j).1 hj).1 he,λr x hr=>?_,hM.rowne,λr i hr hi=>hM.rowob r i hr ((hO i).1 hi).1,λb hb=>?_,hM.os,hM.tape,hM.output,hM.sizes,hM.frame,λb hb=>⟨.inl (hM.shp b hb).1,(hM.shp b hb).2⟩,hM.dep0⟩,
  hS.size,hS.defers,λi hi=>?_,λi hi=>?_,λi b hb=>?_,hS.pin⟩
 ·have hne:i≠s:=λh=>by subst h; simp [St.fz] at hi
  have:∃ c0,st.ob i=some c0/\c=Al s cs c0:=by
   simp only [St.fz,hne,if_false] at hi
   cases h:st.ob i with
   | none=>rw [h] at hi; cases hi
   | some c0=>rw [h] at hi; simp at hi; exact ⟨c0,rfl,hi.symm⟩
  obtain ⟨c0,h6,rfl⟩:=this;obtain ⟨arr',e',g1,g2,g3,g4,g5⟩:=hM.ob i c0 h6;refine ⟨arr',e',g1,by rw [Mc]; simpa using g2,λj x hx=>?_,λhf=>hf.elim g4 (λhe=>hne (hM.obne i s (by simp [St.O,h6]) hOs he)),g5⟩;rw [Mc,zQY] at hx
  cases hy:c0[j]? with
  | none=>rw [hy] at hx; cases hx
  | some y =>
   rw [hy] at hx;simp only [zWX,Option.some.injEq] at hx;subst hx;obtain ⟨g6,v,g7,g8⟩:=g3 j y hy;exact ⟨by rw [UG]; exact g6,v,g7,hv g8⟩
 ·have:=hM.row r x hr;refine this.mono (λ_ _=>rfl) (λ_ h=>.inl h) (λ⟨e,sz,rows,hx⟩ b hb'=>?_);subst hx;have hL:st.L r:=⟨e,sz,rows,hr⟩;exact ⟨rfl,λhf=>hf.elim id (λhe=>(hM.rowob r s hL hOs (he ▸ hb')).elim)⟩
 ·rcases hb with hb | hb
  ·exact hM.F b hb
  ·subst hb;exact ⟨HP h1,λhlt=>h5.elim (λh=>absurd hlt (by omega)) .inr,.inr ⟨arr,e,h1⟩⟩
 ·obtain ⟨v,h6,h7⟩:=hS.tm i hi;exact ⟨v,h6,hv h7⟩
 ·show (st.tm i).fz s cs=.undef;rw [hS.und i hi]; unfold A.fz; rfl
 ·obtain ⟨h6,h7⟩:=hS.lent i b hb;refine ⟨(hO i).2 ⟨h6,λhe=>?_⟩,h7⟩;subst he;have:i∈ls:=(hE.mem hb).1;have h8:ls.contains i=true:=by simpa using this
  rw [hl] at h8; cases h8
end Go.Tm
namespace Go.Tm
open Go.RowKit
theorem ND{α:Type}(a:A)(k:T->MA α)(st:St):(a.toT k).run st=((a.toT MA.ret).run st).bind λp=>(k p.1).run p.2:=by
 cases a with
 | t y=>rfl
 | nil=>rfl
 | own r =>
  simp only [A.toT,MA.run]
  cases hr:st.rw r with
  | none=>rfl
  | some row=>cases row <;> rfl
 | _=>rfl
theorem Ch{α:Type}:∀ (l:List A) (k:List T->MA α) (st:St),(A.toTs l k).run st=((A.toTs l MA.ret).run st).bind λp=>(k p.1).run p.2
 | [],k,st=>rfl
 | a :: r,k,st=>by
  simp only [A.toTs];rw [ND a,ND a (λx=>A.toTs r λxs=>MA.ret (x :: xs)),Option.bind_assoc]
  congr 1
  funext p
  rw [Ch r,Ch r (λxs=>MA.ret (p.1 :: xs)),Option.bind_assoc];rfl
theorem Q4{α:Type}(l:List A){k:List T->MA α}{st st1:St}{xs:List T}(h:(A.toTs l MA.ret).run st=some (xs,st1)):(A.toTs l k).run st=(k xs).run st1:=by
 rw [Ch,h]; rfl
section
variable {P:Program} {n:Nat} {ls:List Nat} {st st':St} {p:Nat->Bool} {ρ:Nat->eh} {ops:Array Oper} {l:List Oper} {K:St->Prop} {o:Oper}
theorem gQ{α:Type}(f:α->List T)(xs:List α)(r i off:Nat){y:α}(y':α){t e:TypeId}{x1 x2:Operand}(v:A){sz m:Nat}(ts:List T)(ho:o.op=.store t x1 x2)(hg:iW ops st o=some true)(hf:eY ρ st o=true)
  (h1:st.eval x1=some (.elem r sz i off)) (h2:st.eval x2=some v) (hm:iV P t=some m) (hv:(zXZ v.cells.length m && v.cells.all A.one)=true) (hz:((A.toTs (kM (Dc P t) v.cells) MA.ret).run st).map Prod.fst=some ts)
  (hr:(H0 ((A.toTs (kM (Dc P t) v.cells) MA.ret).run st)).rw r=some (.live e sz (xs.map f))) (h:xs[i]?=some y) (hle:Nat.ble (off+m) (f y).length=true) (hy:spl (f y) off ts=f y')
  (hk:ae P p ρ ops l ((({ H0 ((A.toTs (kM (Dc P t) v.cells) MA.ret).run st) with rw:=eG (H0 ((A.toTs (kM (Dc P t) v.cells) MA.ret).run st)).rw r (some (.live e sz ((xs.set i y').map f))) }:St)).put o.dst .undef) K):ae P p ρ ops (o :: l) st K:=by
 simp only [sk] at hv;have hv1:=zWw hv.1;have hle':off+m<=(f y).length:=by simpa using hle
 obtain ⟨⟨ts',st1⟩,h5,h6⟩:=Option.map_eq_some_iff.1 hz
 cases h6
 rw [h5] at hr hk;refine ae.op (x:=.undef) hg hf ?_ hk;simp only [pr,ho,h1,h2,yr,hm,hv1,hv.2,and_self,↓reduceIte];rw [Q4 _ h5];have hr':st1.rw r=some (.live e sz (xs.map f)):=hr;simp only [MA.run,hr',zQY,h,zWX,hle',↓reduceIte,hy,List.map_set,H0]
theorem Ci:∀ xs:List Int,zX (xs.map (aj .u8))=some xs
 | []=>rfl
 | x :: xs=>by simp only [zWv,aj,zX,Ci xs]
theorem tw(xs:List Int)(m:Nat){y:A}{s t e:TypeId}{x:Operand}(ho:o.op=.convert s t x)(hg:iW ops st o=some true)(hf:eY ρ st o=true)
  (hx:st.eval x=some y) (hy:((y.rows λm rows=>MA.ret (m,rows)).run st).map Prod.fst=some (m,xs.map (aj .u8))) (hs:P.underlying s=some (.slice e)) (he:P.underlying e=some (.int .u8)) (ht:P.underlying t=some .string)
  (hk:ae P p ρ ops l (st.put o.dst (.t (.str (strOfNums xs)))) K):ae P p ρ ops (o :: l) st K:=by
 refine ae.pure (x:=.t (.str (strOfNums xs))) hg hf ?_ hk
 cases y with
 | t z =>
  cases z with
  | sl sz rows =>
   simp only [A.rows,MA.run,zWX,Option.some.injEq,Prod.mk.injEq] at hy;obtain ⟨rfl,rfl⟩:=hy;simp only [pr,ho,hx,hs,ht,he,A.rows,Ci,MA.run]
  | _=>simp [A.rows,MA.run] at hy
 | _ =>
  simp only [pr,ho,hx,hs,ht,he,Ma hy,Ci,MA.run]
end
end Go.Tm
namespace Go.Tm
open Go.RowKit
def II{α:Type}(xs ys:List α)(lo:Nat):List α:=xs.take lo++ys.take (xs.length - lo)++xs.drop (lo+min ys.length (xs.length - lo))
end Go.Tm
namespace Go.Tm.Pu
theorem gR{n:Int}(h1:-9223372036854775808<=n)(h2:n<=9223372036854775807):IntKind.wrap .i64 n=n:=Go.IntWalk.i64_in n ⟨h1,h2⟩
theorem yK(n:Int):IntKind.wrap .u8 n=n % 256:=by simp [IntKind.wrap,IntKind.bits,IntKind.signed]
theorem dE{a b:Int}(h1:-9223372036854775808<=a+b)(h2:a+b<=9223372036854775807):be .i64 a b=a+b:=gR h1 h2
theorem dP{a b:Int}(h1:-9223372036854775808<=a - b)(h2:a - b<=9223372036854775807):eH .i64 a b=a - b:=gR h1 h2
theorem oJ{a b:Int}(h1:-9223372036854775808<=a*b)(h2:a*b<=9223372036854775807):lH .i64 a b=a*b:=gR h1 h2
theorem ep{i:Nat}(h:i < 9223372036854775807):be .i64 (i:Int) 1=((i+1:Nat):Int):=by
 rw [dE (by omega) (by omega)]; simp
theorem Am{a b:Int}(h:0<=a):tY .i64 a b=a % b:=by
 unfold tY; exact zXx h
theorem NE{a b:Int}(h:0<=a)(hb:0 < b)(h2:a<=9223372036854775807):NA .i64 a b=a / b:=by
 unfold NA;rw [Int.tdiv_eq_ediv_of_nonneg h];have h3:0<=a / b:=Int.ediv_nonneg h (by omega);have h4:a / b<=a:=Int.ediv_le_self b h;exact gR (by omega) (by omega)
theorem O8(k:IntKind)(a:Int)(n:Nat)(h:n<=k.bits):m7 k a (n:Int)=a / 2 ^ n:=by
 unfold m7;rw [show min (sY (n:Int)) k.bits=n by simp; omega];exact Int.fdiv_eq_ediv_of_nonneg a (by exact_mod_cast zZy (2 ^ n))
theorem Up(a:Int):m7 .i64 a 7=a / 128:=O8 .i64 a 7 (by decide)
theorem Vd(a:Int):m7 .i64 a 8=a / 256:=O8 .i64 a 8 (by decide)
theorem bD{p:Prop}[Decidable p](h:p):ed (decide p)=some ():=by simp [ed,h]
theorem DA:ed true=some ():=rfl
theorem dg{α:Type}(xs:List α)(i:Nat):dV xs (i:Int)=xs[i]?:=by simp [dV]
def qg{σ ρ:Type}(fin:σ->Option ρ)(body:Nat->σ->(σ->Option ρ)->Option ρ):Nat->Nat->σ->Option ρ
 | 0,_,s=>fin s
 | n+1,i,s=>body i s (qg fin body n (i+1))
theorem TD{σ ρ:Type}{fin:σ->Option ρ}{body:Nat->σ->(σ->Option ρ)->Option ρ}{n:Int}(L:Nat->σ->Int->Option ρ)(hn:n<=9223372036854775807)
  (hL:∀ (k:Nat) (s:σ) (i:Nat),L (k+1) s (i:Int)=bif decide ((i:Int) < n) then body i s (λs'=>L k s' (be .i64 (i:Int) 1)) else fin s) :
  ∀ (m k i:Nat) (s:σ),i+m=n.toNat\/(m=0/\n<=i)->m < k->L k s (i:Int)=qg fin body m i s:=by
 intro m
 induction m with
 | zero =>
  intro k i s hi hk;obtain ⟨k,rfl⟩:∃ j,k=j+1:=⟨k - 1,by omega⟩;rw [hL];have:¬ ((i:Int) < n):=by omega
  simp [this,qg]
 | succ m ih =>
  intro k i s hi hk;obtain ⟨k,rfl⟩:∃ j,k=j+1:=⟨k - 1,by omega⟩;rw [hL];have:(i:Int) < n:=by omega
  simp only [this,decide_true,cond_true];show body i s _=body i s (qg fin body m (i+1))
  congr 1
  funext s'
  rw [ep (by omega)];exact ih k (i+1) s' (by omega) (by omega)
theorem sg{σ ρ:Type}{fin:σ->Option ρ}{body:Nat->σ->(σ->Option ρ)->Option ρ}{n:Int}(L:Nat->σ->Int->Option ρ)(hn:n<=9223372036854775807)
  (hL:∀ (k:Nat) (s:σ) (i:Nat),L (k+1) s (i:Int)=bif decide ((i:Int) < n) then body i s (λs'=>L k s' (be .i64 (i:Int) 1)) else fin s)
  {k:Nat} (s:σ) (hk:n.toNat < k):L k s 0=qg fin body n.toNat 0 s:=by
 have:=TD L hn hL n.toNat k 0 s (by omega) hk
 simpa using this
def cy{α σ ρ:Type}(fin:σ->Option ρ)(body:α->Nat->σ->(σ->Option ρ)->Option ρ):List α->Nat->σ->Option ρ
 | [],_,s=>fin s
 | x :: xs,i,s=>body x i s (cy fin body xs (i+1))
theorem NF{α σ ρ:Type}{fin:σ->Option ρ}{body:α->Nat->σ->(σ->Option ρ)->Option ρ}{xs:List α}(L:Nat->σ->Int->Option ρ)(hn:xs.length<=9223372036854775807)
  (hL:∀ (k:Nat) (s:σ) (i:Nat),L (k+1) s (i:Int)=bif decide ((i:Int) < (xs.length:Int)) then (dV xs (i:Int)).bind λx=>body x i s (λs'=>L k s' (be .i64 (i:Int) 1)) else fin s) :
  ∀ (ys:List α) (k i:Nat) (s:σ),ys=xs.drop i->ys.length < k->L k s (i:Int)=cy fin body ys i s:=by
 intro ys
 induction ys with
 | nil =>
  intro k i s hi hk;obtain ⟨k,rfl⟩:∃ j,k=j+1:=⟨k - 1,by omega⟩;rw [hL];have:¬ ((i:Int) < (xs.length:Int)):=by
   have:=congrArg zYH hi;simp at this;omega
  simp [this,cy]
 | cons y ys ih =>
  intro k i s hi hk;obtain ⟨k,rfl⟩:∃ j,k=j+1:=⟨k - 1,by omega⟩;rw [hL];have hlt:i < xs.length:=by
   have:=congrArg zYH hi;simp at this;omega
  have hx:xs[i]?=some y:=by
   have:=congrArg zYz hi
   simpa [zXw] using this.symm
  have hys:ys=xs.drop (i+1):=by
   have:=congrArg zZX hi
   simpa [zXg] using this
  have:(i:Int) < (xs.length:Int):=by omega
  simp only [this,decide_true,cond_true,dg,hx,wk];show body y i s _=body y i s (cy fin body ys (i+1))
  congr 1
  funext s'
  rw [ep (by omega)];simp only [zQH] at hk;exact ih k (i+1) s' hys (by omega)
theorem eI{α σ ρ:Type}{fin:σ->Option ρ}{body:α->Nat->σ->(σ->Option ρ)->Option ρ}{xs:List α}(L:Nat->σ->Int->Option ρ)(hn:xs.length<=9223372036854775807)
  (hL:∀ (k:Nat) (s:σ) (i:Nat),L (k+1) s (i:Int)=bif decide ((i:Int) < (xs.length:Int)) then (dV xs (i:Int)).bind λx=>body x i s (λs'=>L k s' (be .i64 (i:Int) 1)) else fin s)
  {k:Nat} (s:σ) (hk:xs.length < k):L k s 0=cy fin body xs 0 s:=by
 have:=NF L hn hL xs k 0 s (by simp) hk
 simpa using this
end Go.Tm.Pu
namespace Go.Tm
end Go.Tm
namespace Go.Tm
open Go
theorem oi{α:Type}{a b:α}(h:some a=some b):a=b:=Option.some.inj h
theorem kr{p:Prop}(h:p:=by kernel_rfl):p:=h
section
variable {P:Program} {n:Nat} {ls:List Nat} {Q:Exit->St->Prop} {N:St->Prop} {st st':St} {c x y:Code} {p:Nat->Bool} {ρ:Nat->eh} {ops:Array Oper} {l:List Oper} {K:St->Prop} {o:Oper}
theorem DC(s:Sx)(h:Wp P n ls c Q s.st)(hok:s.ok n ls [] []=true:=by kernel_rfl)(ht:s.tm.map (λq=>st.tm q.1)=s.tm.map (λq=>q.2.ren (zR []) (zR [])):=by kernel_rfl)
  (ho:s.ob.map (λq=>st.ob (zR [] q.1))=s.ob.map (λq=>some (qW (zR []) (zR []) q.2)):=by kernel_rfl) (hr:s.rw.map (λq=>st.rw (zR [] q.1))=s.rw.map (λq=>some q.2):=by kernel_rfl):Wp P n ls c Q st :=
 Wp.le (Le.of (s:=s) (mo:=[]) (mr:=[]) hok ht ho hr) h
theorem aU{id:Nat}(p:List Nat)(ρ:List (Nat×eh))(h:ae P (ff p) (bp ρ) ops ops.toList st (Q .normal))(hok:ops.toList.all (mT n)=true:=by kernel_rfl):Wp P n ls (.region id ops false) Q st :=
 yH (ff p) (bp ρ) hok h
theorem O9{id:Nat}(p:List Nat)(ρ:List (Nat×eh))(h:ae P (ff p) (bp ρ) ops ops.toList st (iz (Wp P n ls y Q) Q .normal))(hok:ops.toList.all (mT n)=true:=by kernel_rfl):Wp P n ls (.seq (.region id ops false) y) Q st :=
 Wp.seq (yH (ff p) (bp ρ) hok h)
theorem ab(hr:N (St.or (qX P ρ ops l st)))(h:(qX P ρ ops l st).isSome=true:=by kernel_rfl):ae P p ρ ops l st (iz N Q .normal) :=
 ae.all h (aS hr)
theorem af{id:Nat}(h:Wp P n ls y Q (St.or (qX P (bp []) ops ops.toList st)))(h1:(qX P (bp []) ops ops.toList st).isSome=true:=by kernel_rfl)(hd:ops.toList.all (mT n)=true:=by kernel_rfl):Wp P n ls (.seq (.region id ops false) y) Q st :=
 O9 [] [] (ab h h1) hd
theorem aC{α:Type}{o:Operand}{b:Bool}{e1 e2 r:α}(h:(bif b then e1 else e2)=r)(ht:e1=r->Wp P n ls x Q st)(hf:e2=r->Wp P n ls y Q st)(ho:st.eval o=some (.t (.bool b)):=by kernel_rfl):Wp P n ls (.cond o x y) Q st :=
 R0 ho (λhc=>ht (O6 h hc)) (λhc=>hf (O7 h hc))
theorem ba(h:N st){Q:Exit->St->Prop}:Wp P n ls .skip (iz N Q) st:=Wp.skip (aS h)
end
abbrev A.s(x:List Int):A:=.t (.sl 1 (x.map (aj .u8)))
abbrev C.s(x:List Int):C:=.t (.sl 1 (x.map (aj .u8)))
abbrev A.i(n:Int):A:=.t (.int .i64 n)
abbrev A.b(b:Bool):A:=.t (.bool b)
abbrev C.i(n:Int):C:=.t (.int .i64 n)
abbrev C.b(b:Bool):C:=.t (.bool b)
end Go.Tm
namespace Go.Tm
open Go.RowKit
section
variable {P:Program} {n:Nat} {ls:List Nat} {st st1:St}
theorem H2(s j r sz:Nat)(cells:List A)(rows:List (List T))(hs:st.ob s=some cells)(hj:cells[j]?=some (.own r))(hr:st.rw r=some (.frz sz rows)) :
  Le n ls st { tm:=st.tm,ob:=eG st.ob s (some (cells.set j (.t (.sl sz rows)))),rw:=st.rw } :=
 Le.mem rfl λE g w hM=>by
  have h3:Rd w _ (.sl sz rows) (g.rw r):=hM.row r (.frz sz rows) hr;have hO:=ID (cells':=cells.set j (.t (.sl sz rows))) hs;refine ⟨g,hM.reob hs (cells':=cells.set j (.t (.sl sz rows))) (by simp) (λi x' hi=>?_),?_⟩
  ·by_cases he:j=i
   ·subst he;refine ⟨.own r,hj,λv _ hv=>?_⟩;have hlt:j < cells.length:=(List.getElem?_eq_some_iff.1 hj).1;rw [zWy hlt] at hi
    cases hi
    cases hv
    exact ⟨rfl,.t _ _ h3⟩
   ·rw [zXX he] at hi;exact ⟨x',hi,λv h1 h2=>⟨h1,h2⟩⟩
  ·have h2:=pH.refl w g st.O st.R;refine ⟨h2.same,h2.F,λs hs=>?_,h2.R,h2.d,h2.s⟩;have:=h2.O s hs;exact ⟨by rw [<- hO] at this; exact this.1,this.2⟩
end
end Go.Tm
namespace Go.Tm
open Go.RowKit
section
variable {P:Program} {n:Nat} {ls:List Nat} {Q:Exit->St->Prop} {st st':St} {p:Nat->Bool} {ρ:Nat->eh} {ops:Array Oper} {l:List Oper} {K:St->Prop} {o:Oper}
theorem aR(d f:Nat)(caps as:List A)(vs:List V)(res:V){xf:Operand}{args:Array Operand}{ts:Array TypeId}
  (ho:o.op=.call { callee:=.value xf,args,argTypes:=ts }) (hd:o.dst=some d) (hg:iW ops st o=some true) (hf:eY ρ st o=true) (hxf:st.eval xf=some (.clo f caps)) (kT:dt (args.toList.map st.eval)=some as)
  (hp:((d9 (as++caps) MA.ret).run st).map Prod.fst=some vs) (hc:nR P f vs res) (hr:((V.toA d (fh d 0) res MA.ret).run st).isSome=true)
  (hk:ae P p ρ ops l ((H0 ((V.toA d (fh d 0) res MA.ret).run st)).put o.dst (Un ((V.toA d (fh d 0) res MA.ret).run st))) K):ae P p ρ ops (o :: l) st K:=by
 obtain ⟨⟨vs',st1⟩,h1,h2⟩:=Option.map_eq_some_iff.1 hp
 cases h2
 have hst:st1=st:=by
  have:=(mB (d9 (as++caps) MA.ret) (pz (D:=⟨λ_=>True,λ_=>False,λ_=>True,λ_=>False⟩) (oG (λ_=>trivial) _) (λ_=>trivial)) h1).1;exact St.ext this.tm (funext λs=>this.ob s (λh=>h)) (funext λs=>this.rw s (λh=>h))
 subst hst;obtain ⟨⟨x,st2⟩,h3⟩:=Option.isSome_iff_exists.1 hr;rw [h3] at hk;exact ae.step (.run x st2 hg hf (.callD d f xf args ts caps as vs' res ho hd hxf kT h1 hc h3)) hk
theorem dx{α:Type}(f:α->List T)(xs:List α)(i:Int)(s:Bool){y:α}{t e:TypeId}{a b:Operand}{sz:Nat}{kk:IntKind}(ho:o.op=.indexAddr t a b)(hg:iW ops st o=some true)(hf:eY ρ st o=true)
  (ha:st.eval a=some (.ext s (.sl sz (xs.map f)))) (hb:st.eval b=some (.t (.int kk i))) (hu:P.underlying t=some (.slice e)) (hs:iV P e=some sz) (h:dV xs i=some y) (hk:ae P p ρ ops l (st.put o.dst (.exa s (f y))) K):ae P p ρ ops (o :: l) st K:=by
 obtain ⟨h0,h1⟩:=bA h;refine ae.pure (x:=.exa s (f y)) hg hf ?_ hk;simp only [pr,ho,ha,hb];unfold ka;simp only [hu,hs,Df,h0,and_self,↓reduceIte,zQY,h1,zWX,true_and,MA.run]
theorem er(k:IntKind)(m:Nat)(xs:List Int):(((A.ext false (.sl m (xs.map (aj k)))).rows λm rows=>MA.ret (m,rows)).run st).map Prod.fst=some (m,xs.map (aj k)):=R6 (k:=k) (f:=aj k) λ_=>rfl
end
section
variable {P:Program} {E:En} {g:Gh} {st st':St} {a:Act} {w w':World} {n:Nat}
variable {p:Nat->Bool} {ρ:Nat->eh} {ops:Array Oper} {o:Oper} {ls:List Nat} {Q:Exit->St->Prop}
theorem bU{fn:Func}{c:Code}{f:FuncId}{args:List V}{m:Bool}{res:V}
  (hf:P.funcs[f]?=some fn) (hb:fn.body=some c) (hnm:(fn.name == "runtime.NumGoroutine")=false) (hle:Nat.ble args.length fn.ntmps=true) (ht:tv fn.ntmps fn=true)
  (h:Wp P fn.ntmps [1] c (xF P m fn [] res []) (gw (args.map V.toX) dD)):nR P f args res:=Nx hf hb hnm (by simpa using hle) ht h
end
end Go.Tm
namespace Go.Tm
open Go
def C.fix:C->C->C
 | .t (.sl s _),.nil=>.t (.sl s [])
 | .ow e s _,.nil=>.ow e s []
 | .t (.sl s _),.t (.sl 0 [])=>.t (.sl s [])
 | _,c=>c
theorem NG:∀ t c:C,Nw c (C.fix t c):=λt c=>by
 unfold C.fix
 split
 ·exact .nilT _
 ·exact .nilO _ _
 ·exact .sz _ _
 ·exact .refl _
def Qe:List C->List C->List C
 | t :: ts,c :: cs=>t.fix c :: Qe ts cs
 | _,cs=>cs
theorem IJ:∀ cs:List C,Aj Nw cs cs
 | []=>.nil
 | c :: cs=>.cons (.refl c) (IJ cs)
theorem IK:∀ ts cs:List C,Aj Nw cs (Qe ts cs)
 | t :: ts,c :: cs=>.cons (NG t c) (IK ts cs)
 | [],cs=>IJ cs
 | _ :: _,[]=>.nil
def TE:List (List C)->List (List C)->List (List C)
 | t :: ts,c :: cs=>Qe t c :: TE ts cs
 | _,cs=>cs
theorem Lq:∀ cs:List (List C),Aj (Aj Nw) cs cs
 | []=>.nil
 | c :: cs=>.cons (IJ c) (Lq cs)
theorem Qf:∀ ts cs:List (List C),Aj (Aj Nw) cs (TE ts cs)
 | t :: ts,c :: cs=>.cons (IK t c) (Qf ts cs)
 | [],cs=>Lq cs
 | _ :: _,[]=>.nil
mutual
def V.fix:V->V->V
 | .one t,.one c=>.one (t.fix c)
 | .agg ts,.agg cs=>.agg (Qe ts cs)
 | .tup ts,.tup vs=>.tup (xH ts vs)
 | _,v=>v
def xH:List V->List V->List V
 | t :: ts,v :: vs=>V.fix t v :: xH ts vs
 | _,vs=>vs
end
theorem Lr:∀ vs:List V,Ak vs vs
 | []=>.nil
 | v :: vs=>.cons (.refl v) (Lr vs)
mutual
theorem NH:∀ t v:V,O0 v (V.fix t v)
 | .one t,.one c=>by unfold V.fix; exact .one (NG t c)
 | .agg ts,.agg cs=>by unfold V.fix; exact .agg (IK ts cs)
 | .tup ts,.tup vs=>by unfold V.fix; exact .tup (vL ts vs)
 | .one _,.agg _ | .one _,.tup _ | .one _,.ptr _ | .one _,.fptr _ | .one _,.clo ..=>by unfold V.fix; exact .refl _
 | .agg _,.one _ | .agg _,.tup _ | .agg _,.ptr _ | .agg _,.fptr _ | .agg _,.clo ..=>by unfold V.fix; exact .refl _
 | .tup _,.agg _ | .tup _,.one _ | .tup _,.ptr _ | .tup _,.fptr _ | .tup _,.clo ..=>by unfold V.fix; exact .refl _
 | .ptr _,v | .fptr _,v | .clo ..,v=>by unfold V.fix; exact .refl _
theorem vL:∀ ts vs:List V,Ak vs (xH ts vs)
 | t :: ts,v :: vs=>by unfold xH; exact .cons (NH t v) (vL ts vs)
 | [],vs=>by unfold xH; exact Lr vs
 | _ :: _,[]=>by unfold xH; exact .nil
end
def Cj(P:Program)(ρ:Nat->eh)(ops:Array Oper)(st:St):List Oper->Option (Nat×List A×Nat)
 | o :: _=>match iW ops st o with
  | some true=>if eY ρ st o then match o.op,o.dst with
   | .call { callee:=.value xf,args,.. },some d=>match st.eval xf,dt (args.toList.map st.eval) with
    | some (.clo f caps),some az=>some (f,az++caps,d)
    | _,_=>none
   | _,_=>none
   else none
  | _=>none
 | []=>none
def V.pl:V->Bool
 | .one (.t x)=>x.sc
 | .agg l=>l.all λc=>match c with | .t x=>x.sc | _=>false
 | .tup l=>l.all λv=>match v with | .one (.t x)=>x.sc | _=>false
 | _=>false
theorem Pa{v:V}(h:v.pl=true):v.plain:=by
 unfold V.pl at h
 split at h
 ·unfold V.plain; exact h
 ·unfold V.plain;intro c hc;have:=List.all_eq_true.1 h c hc
  cases c with
  | t x=>exact this
  | _=>cases this
 ·rename_i l;unfold V.plain
  induction l with
  | nil=>unfold rY; trivial
  | cons v l ih =>
   simp only [List.all_cons,sk] at h;unfold rY;refine ⟨?_,ih h.2⟩;have h1:=h.1
   split at h1
   ·unfold V.plain; exact h1
   ·cases h1
 ·cases h
section
variable {P:Program} {n:Nat} {ls:List Nat} {Q:Exit->St->Prop} {N:St->Prop} {st:St} {p:Nat->Bool} {ρ:Nat->eh} {ops:Array Oper} {l:List Oper} {K:St->Prop} {y:Code}
abbrev rj(P:Program)(ρ:Nat->eh)(ops:Array Oper)(k:Nat)(l:List Oper)(st:St):St:=St.or (qX P ρ ops (l.take k) st)
theorem wB{c:Nat×List A×Nat}(h:Cj P ρ ops st l=some c):∃ o l' xf args ts az caps,l=o :: l'/\iW ops st o=some true/\eY ρ st o=true/\o.op=.call { callee:=.value xf,args,argTypes:=ts }/\o.dst=some c.2.2/\st.eval xf=some (.clo c.1 caps)/\dt (args.toList.map st.eval)=some az/\c.2.1=az++caps:=by
 unfold Cj at h
 split at h <;> try (cases h; done)
 rename_i o l'
 split at h <;> try (cases h; done)
 split at h <;> try (cases h; done)
 split at h <;> try (cases h; done)
 split at h <;> try (cases h; done)
 rename_i _ hg hf _ _ xf args ts d hop hd _ _ f caps az hxf kT
 cases h
 exact ⟨o,l',xf,args,ts,az,caps,rfl,hg,hf,hop,hd,hxf,kT,rfl⟩
abbrev Uq(m:Bool)(p:Nat->Bool)(d:Nat)(az:List A)(res:V)(outs:List (List C))(st:St):St :=
 (H0 ((dO d (d8 az) outs (V.toA d (fh d 0) res MA.ret)).run (H0 ((kc m p az MA.ret).run st)))).put (some d) (Un ((dO d (d8 az) outs (V.toA d (fh d 0) res MA.ret)).run (H0 ((kc m p az MA.ret).run st))))
abbrev VI(d:Nat)(res:V)(st:St):St:=(H0 ((V.toA d (fh d 0) res MA.ret).run st)).put (some d) (Un ((V.toA d (fh d 0) res MA.ret).run st))
theorem aq{α β:Type}{r:β}{x:Option α}{f:α->Option β}{fid:Nat}{vs:List V}{res:α->V}{outs:α->List (List C)}(m:Bool)(k d:Nat)(az:List A)(h:x.bind f=some r)(hc:∀ y,x=some y->aJ P fid vs (res y) (outs y))
  (hk:∀ y,f y=some r->ae P p ρ ops (l.drop (k+1)) (Uq m p d az (res y) (outs y) (rj P ρ ops k l st)) K)
  (h1:(qX P ρ ops (l.take k) st).isSome=true:=by kernel_rfl) (h2:Cj P ρ ops (rj P ρ ops k l st) (l.drop k)=some (fid,az,d):=by kernel_rfl)
  (h3:((kc m p az MA.ret).run (rj P ρ ops k l st)).map (λq=>xH vs q.1)=some vs:=by kernel_rfl)
  (h4:∀ y,((dO d (d8 az) (outs y) (V.toA d (fh d 0) (res y) MA.ret)).run (H0 ((kc m p az MA.ret).run (rj P ρ ops k l st)))).isSome=true:=by intro y; kernel_rfl):ae P p ρ ops l st K:=by
 refine ak k h1 ?_
 cases x with
 | none=>cases h
 | some y =>
  have h5:=hc y rfl;have h6:=hk y h;have h7:=h4 y
  clear hc hk h4
  simp only [rj,Uq] at h2 h3 h6 h7;generalize St.or (qX P ρ ops (l.take k) st)=st1 at *;obtain ⟨o,l',xf,args,ts,az',caps,e1,e2,e3,e4,e5,e6,e7,e8⟩:=wB h2;simp only at e5 e6 e8;subst e8;have e9:l.drop (k+1)=l':=by rw [<- zZJ,e1]; rfl
  rw [e9] at h6;rw [e1];obtain ⟨⟨vs0,st2⟩,h8,h9⟩:=Option.map_eq_some_iff.1 h3;have h10:Ak vs0 vs:=by rw [<- h9]; exact vL vs vs0
  rw [h8] at h6 h7;simp only [H0,Un] at h6 h7
  cases h11:(dO d (d8 (az'++caps)) (outs y) (V.toA d (fh d 0) (res y) MA.ret)).run st2 with
  | none=>rw [h11] at h7; cases h7
  | some q =>
   obtain ⟨z,st3⟩:=q;rw [h11] at h6;exact ae.call e2 e3 e4 e5 e6 e7 h8 (h5.le h10) h11 (by rw [e5]; exact h6)
theorem cM{α β:Type}{r:β}{x:Option α}{f:α->Option β}{fid:Nat}{vs:List V}{res:α->V}(k d:Nat)(az:List A)(h:x.bind f=some r)(hc:∀ y,x=some y->aJ P fid vs (res y) [])
  (hk:∀ y,f y=some r->ae P p ρ ops (l.drop (k+1)) (VI d (res y) (rj P ρ ops k l st)) K)
  (h1:(qX P ρ ops (l.take k) st).isSome=true:=by kernel_rfl) (h2:Cj P ρ ops (rj P ρ ops k l st) (l.drop k)=some (fid,az,d):=by kernel_rfl)
  (h3:((d9 az MA.ret).run (rj P ρ ops k l st)).map (λq=>xH vs q.1)=some vs:=by kernel_rfl)
  (h0:∀ y,(res y).pl=true:=by intro y; kernel_rfl)
  (h4:∀ y,((V.toA d (fh d 0) (res y) MA.ret).run (rj P ρ ops k l st)).isSome=true:=by intro y; kernel_rfl):ae P p ρ ops l st K:=by
 refine ak k h1 ?_
 cases x with
 | none=>cases h
 | some y =>
  have h5:=hc y rfl;have h6:=hk y h;have h7:=h4 y;have h0:=Pa (h0 y)
  clear hc hk h4
  simp only [rj,VI] at h2 h3 h6 h7;generalize St.or (qX P ρ ops (l.take k) st)=st1 at *;obtain ⟨o,l',xf,args,ts,az',caps,e1,e2,e3,e4,e5,e6,e7,e8⟩:=wB h2;simp only at e5 e6 e8;subst e8;have e9:l.drop (k+1)=l':=by rw [<- zZJ,e1]; rfl
  rw [e9] at h6;rw [e1];obtain ⟨⟨vs0,st2⟩,h8,h9⟩:=Option.map_eq_some_iff.1 h3;have h10:Ak vs0 vs:=by rw [<- h9]; exact vL vs vs0
  have hst:st2=st1:=by
   have:=(mB (d9 (az'++caps) MA.ret) (pz (D:=⟨λ_=>True,λ_=>False,λ_=>True,λ_=>False⟩) (oG (λ_=>trivial) _) (λ_=>trivial)) h8).1;exact St.ext this.tm (funext λs=>this.ob s (λh=>h)) (funext λs=>this.rw s (λh=>h))
  subst hst
  cases h11:(V.toA d (fh d 0) (res y) MA.ret).run st2 with
  | none=>rw [h11] at h7; cases h7
  | some q =>
   obtain ⟨z,st3⟩:=q;rw [h11] at h6;simp only [H0,Un] at h6;exact ae.callB e2 e3 e4 e5 e6 e7 h8 (h5.le h10) h0 h11 (by rw [e5]; exact h6)
theorem aH{id:Nat}(h:ae P (ff []) (bp []) ops ops.toList st (iz (Wp P n ls y Q) Q .normal))(hd:ops.toList.all (mT n)=true:=by kernel_rfl):Wp P n ls (.seq (.region id ops false) y) Q st :=
 O9 [] [] h hd
theorem bf{α β:Type}{id:Nat}{r:β}{x:Option α}{f:α->Option β}{fid:Nat}{vs:List V}{res:α->V}{outs:α->List (List C)}(m:Bool)(k d:Nat)(az:List A)(h:x.bind f=some r)(hc:∀ y,x=some y->aJ P fid vs (res y) (outs y))
  (hk:∀ z,f z=some r->Wp P n ls y Q (St.or (qX P (bp []) ops (ops.toList.drop (k+1)) (Uq m (ff []) d az (res z) (outs z) (rj P (bp []) ops k ops.toList st)))))
  (h1:(qX P (bp []) ops (ops.toList.take k) st).isSome=true:=by kernel_rfl) (h2:Cj P (bp []) ops (rj P (bp []) ops k ops.toList st) (ops.toList.drop k)=some (fid,az,d):=by kernel_rfl)
  (h3:((kc m (ff []) az MA.ret).run (rj P (bp []) ops k ops.toList st)).map (λq=>xH vs q.1)=some vs:=by kernel_rfl)
  (h4:∀ z,((dO d (d8 az) (outs z) (V.toA d (fh d 0) (res z) MA.ret)).run (H0 ((kc m (ff []) az MA.ret).run (rj P (bp []) ops k ops.toList st)))).isSome=true:=by intro z; kernel_rfl)
  (h5:∀ z,(qX P (bp []) ops (ops.toList.drop (k+1)) (Uq m (ff []) d az (res z) (outs z) (rj P (bp []) ops k ops.toList st))).isSome=true:=by intro z; kernel_rfl)
  (hd:ops.toList.all (mT n)=true:=by kernel_rfl):Wp P n ls (.seq (.region id ops false) y) Q st :=
 O9 [] [] (aq m k d az h hc (λz hz=>ab (hk z hz) (h5 z)) h1 h2 h3 h4) hd
theorem aF{α:Type}(k d:Nat){b:Bool}{e1 e2 r:α}(h:(bif b then e1 else e2)=r)(ht:e1=r->ae P p ρ ops (l.drop k) ((rj P ρ ops k l st).put (some d) (.t (.bool true))) K)
  (hf:e2=r->ae P p ρ ops (l.drop k) ((rj P ρ ops k l st).put (some d) (.t (.bool false))) K) (h1:(qX P ρ ops (l.take k) st).isSome=true:=by kernel_rfl) (h2:(rj P ρ ops k l st).tm d=.t (.bool b):=by kernel_rfl):ae P p ρ ops l st K:=by
 refine ak k h1 ?_;rcases tf b with hc | hc
 ·exact ae.known d (v:=true) h2 hc (ht (O6 h hc))
 ·exact ae.known d (v:=false) h2 hc (hf (O7 h hc))
theorem aD{m:Bool}{fn:Func}{args:List V}{res:V}{outs:List (List C)}(h1:(zk P st fn.results.toList).isSome=true:=by kernel_rfl)
  (h2:((Ai 0 args λos=>QW m (R5 ((zk P st fn.results.toList).getD [])) λv=>MA.ret (v,os)).run st).map (λq=>(V.fix res q.1.1,TE outs q.1.2))=some (res,outs):=by kernel_rfl):xF P m fn args res outs .ret st:=by
 obtain ⟨l,hl⟩:=Option.isSome_iff_exists.1 h1;rw [hl] at h2;obtain ⟨⟨⟨v,os⟩,st1⟩,h3,h4⟩:=Option.map_eq_some_iff.1 h2;simp only [Prod.mk.injEq] at h4;refine ⟨.inl rfl,l,st1,v,os,hl,h3,?_,?_⟩
 ·rw [<- h4.1]; exact NH _ _
 ·rw [<- h4.2]; exact Qf _ _
theorem Ls{m:Bool}{fn:Func}{args:List V}{res:V}{outs:List (List C)}(h1:(zk P st fn.results.toList).isSome=true:=by kernel_rfl)
  (h2:((Ai 0 args λos=>QW m (R5 ((zk P st fn.results.toList).getD [])) λv=>MA.ret (v,os)).run st).map (λq=>(V.fix res q.1.1,TE outs q.1.2))=some (res,outs):=by kernel_rfl):xF P m fn args res outs .normal st :=
 ⟨.inr rfl,(aD (m:=m) (args:=args) h1 h2).2⟩
theorem lo{s:Sx}(mr:List (Nat×Nat))(hok:s.ok n ls [] mr=true:=by kernel_rfl)(ht:s.tm.map (λq=>st.tm q.1)=s.tm.map (λq=>q.2.ren (zR []) (zR mr)):=by kernel_rfl)
  (ho:s.ob.map (λq=>st.ob (zR [] q.1))=s.ob.map (λq=>some (qW (zR []) (zR mr) q.2)):=by kernel_rfl) (hr:s.rw.map (λq=>st.rw (zR mr q.1))=s.rw.map (λq=>some q.2):=by kernel_rfl):Le n ls st s.st:=Le.of hok ht ho hr
theorem dS{f:FuncId}{c:Code}{args:List V}{res:V}{outs:List (List C)}(fn:Func)(m:Bool)
  (h:Wp P fn.ntmps (eU 0 args) c (xF P m fn args res outs) (gw ((((nY 0 args MA.ret).run dD).map Prod.fst).getD []) (H0 ((nY 0 args MA.ret).run dD))))
  (hb:fn.body=some c:=by rfl) (hf:P.funcs[f]?=some fn:=by kernel_rfl) (hnm:(fn.name == "runtime.NumGoroutine")=false:=by kernel_rfl) (hle:Nat.ble ((((nY 0 args MA.ret).run dD).map Prod.fst).getD []).length fn.ntmps=true:=by kernel_rfl) (ht:tv fn.ntmps fn=true:=by kernel_rfl)
  (ha:((nY 0 args MA.ret).run dD).isSome=true:=by kernel_rfl) (hl:ij 0 args ((((nY 0 args MA.ret).run dD).map Prod.fst).getD [])=true:=by kernel_rfl):aJ P f args res outs:=by
 obtain ⟨⟨az,st0⟩,h1⟩:=Option.isSome_iff_exists.1 ha;refine GU (m:=m) az hf hb hnm (by simpa [h1] using hle) ht (by rw [h1]; rfl) (by simpa [h1] using hl) ?_
 simpa [h1] using h
end
end Go.Tm
namespace Go.Tm
open Go
section
variable {P:Program} {n:Nat} {ls:List Nat} {Q:Exit->St->Prop} {N:St->Prop} {st:St} {p:Nat->Bool} {ρ:Nat->eh} {ops:Array Oper} {l l':List Oper} {K:St->Prop} {y:Code} {o:Oper}
theorem Be{α:Type}(f:α->List T)(m:Nat)(xs:List α)(hf:∀ n,(f n).all T.sc=true):(((A.ext false (.sl m (xs.map f))).rows λm rows=>MA.ret (m,rows)).run st).map Prod.fst=some (m,xs.map f):=by
 have:Id (xs.map f)=true:=by
  unfold Id;rw [zYh];intro r hr;obtain ⟨n,_,rfl⟩:=List.mem_map.1 hr;exact hf n
 simp [A.rows,this,MA.run]
def Qg:Option A->Option Int
 | some (.t (.int _ i))=>some i
 | _=>none
theorem IL{a:Option A}{i:Int}(h:Qg a=some i):∃ k,a=some (.t (.int k i)):=by
 unfold Qg at h
 split at h
 ·rename_i k j; cases h; exact ⟨k,rfl⟩
 ·cases h
def R8(st:St):Option A->Option (List (List T))
 | some (.t (.sl _ rows))=>some rows
 | some .nil=>some []
 | some (.own r)=>match st.rw r with
  | some (.live _ _ rows)=>some rows
  | some (.frz _ rows)=>some rows
  | _=>none
 | _=>none
theorem Pb{a:Option A}{rows:List (List T)}(h:R8 st a=some rows):∃ y m,a=some y/\((y.rows λm rows=>MA.ret (m,rows)).run st).map Prod.fst=some (m,rows):=by
 unfold R8 at h
 split at h
 ·cases h; exact ⟨_,_,rfl,rfl⟩
 ·cases h; exact ⟨_,_,rfl,rfl⟩
 ·rename_i r
  split at h
  ·rename_i e sz rows hr; cases h; exact ⟨.own r,sz,rfl,by simp [A.rows,MA.run,hr]⟩
  ·rename_i sz rows hr; cases h; exact ⟨.own r,sz,rfl,by simp [A.rows,MA.run,hr]⟩
  ·cases h
 ·cases h
def Pc(nn:Nat)(st:St):Option A->Option (List (List T))
 | some (.t (.sl m rows))=>bif zXZ m nn then some rows else none
 | some .nil=>some []
 | some (.own r)=>match st.rw r with
  | some (.live _ m rows)=>bif zXZ m nn then some rows else none
  | some (.frz m rows)=>bif zXZ m nn then some rows else none
  | _=>none
 | _=>none
theorem NI{nn:Nat}{a:Option A}{rows:List (List T)}(h:Pc nn st a=some rows):∃ y m,a=some y/\((y.rows λm rows=>MA.ret (m,rows)).run st).map Prod.fst=some (m,rows)/\(m=nn\/rows=[]):=by
 have key:∀ {m:Nat} {rs:List (List T)},(bif zXZ m nn then some rs else none)=some rows->m=nn/\rs=rows:=λ{m rs} h=>by
  cases hm:zXZ m nn with
  | true=>rw [hm] at h; cases h; exact ⟨zWw hm,rfl⟩
  | false=>rw [hm] at h; cases h
 unfold Pc at h
 split at h
 ·obtain ⟨rfl,rfl⟩:=key h; exact ⟨_,_,rfl,rfl,.inl rfl⟩
 ·cases h; exact ⟨_,0,rfl,rfl,.inr rfl⟩
 ·rename_i r
  split at h
  ·rename_i e m rs hr; obtain ⟨rfl,rfl⟩:=key h; exact ⟨.own r,m,rfl,by simp [A.rows,MA.run,hr],.inl rfl⟩
  ·rename_i m rs hr; obtain ⟨rfl,rfl⟩:=key h; exact ⟨.own r,m,rfl,by simp [A.rows,MA.run,hr],.inl rfl⟩
  ·cases h
 ·cases h
def Lt:List Oper->Option Nat
 | o :: _=>o.dst
 | []=>none
theorem An{k:Nat}(h:l.drop k=o :: l'):l.drop (k+1)=l'/\Lt (l.drop k)=o.dst:=by
 have h1:=congrArg (List.drop 1) h;rw [zZJ] at h1;exact ⟨h1,by rw [h]; rfl⟩
theorem b6{α β:Type}{r:β}{xs:List α}{i:Int}{g:α->Option β}(k e sz:Nat)(f:α->List T)(h:(dV xs i).bind g=some r){t:TypeId}{a b:Operand}
  (hk:∀ y,g y=some r->dV xs i=some y->ae P p ρ ops (l.drop (k+1)) ((rj P ρ ops k l st).put (Lt (l.drop k)) (.fadr (f y))) K) (hl:l.drop k=o :: l':=by rfl) (h1:(qX P ρ ops (l.take k) st).isSome=true:=by kernel_rfl)
  (ho:o.op=.indexAddr t a b:=by rfl) (hg:iW ops (rj P ρ ops k l st) o=some true:=by kernel_rfl) (hf:eY ρ (rj P ρ ops k l st) o=true:=by kernel_rfl) (ha:(rj P ρ ops k l st).eval a=some (.t (.sl sz (xs.map f))):=by kernel_rfl)
  (hb:Qg ((rj P ρ ops k l st).eval b)=some i:=by kernel_rfl) (hu:P.underlying t=some (.slice e):=by kernel_rfl) (hs:iV P e=some sz:=by kernel_rfl):ae P p ρ ops l st K:=by
 obtain ⟨e1,e2⟩:=An hl;simp only [e1,e2] at hk;refine ak k h1 ?_;obtain ⟨y,h2,h3⟩:=bind_some h;obtain ⟨kk,hb⟩:=IL hb;rw [hl];exact QY f xs i ho hg hf ha hb hu hs h2 (hk y h3 h2)
theorem bB{α β:Type}{r:β}{xs:List α}{i:Int}{g:α->Option β}(k e sz rw e':Nat)(f:α->List T)(h:(dV xs i).bind g=some r){t:TypeId}{a b:Operand}
  (hk:∀ y,g y=some r->dV xs i=some y->ae P p ρ ops (l.drop (k+1)) ((rj P ρ ops k l st).put (Lt (l.drop k)) (.elem rw sz i.toNat 0)) K) (hl:l.drop k=o :: l':=by rfl) (h1:(qX P ρ ops (l.take k) st).isSome=true:=by kernel_rfl)
  (ho:o.op=.indexAddr t a b:=by rfl) (hg:iW ops (rj P ρ ops k l st) o=some true:=by kernel_rfl) (hf:eY ρ (rj P ρ ops k l st) o=true:=by kernel_rfl) (ha:(rj P ρ ops k l st).eval a=some (.own rw):=by kernel_rfl)
  (hr:(rj P ρ ops k l st).rw rw=some (.live e' sz (xs.map f)):=by kernel_rfl) (hb:Qg ((rj P ρ ops k l st).eval b)=some i:=by kernel_rfl) (hu:P.underlying t=some (.slice e):=by kernel_rfl) (hs:iV P e=some sz:=by kernel_rfl):ae P p ρ ops l st K:=by
 obtain ⟨e1,e2⟩:=An hl;simp only [e1,e2] at hk;refine ak k h1 ?_;obtain ⟨y,h2,h3⟩:=bind_some h;obtain ⟨kk,hb⟩:=IL hb;rw [hl];exact QZ f xs i rw ho hg hf ha hr hb hu hs h2 (hk y h3 h2)
theorem aV{α:Type}(k e:Nat)(f:α->List T)(xs:List α){t:TypeId}{x:Operand}{args:Array Operand}{ts:Array TypeId}(hk:ae P p ρ ops (l.drop (k+1)) ((rj P ρ ops k l st).put (Lt (l.drop k)) (.t (.int .i64 xs.length))) K)(hl:l.drop k=o :: l':=by rfl)
  (h1:(qX P ρ ops (l.take k) st).isSome=true:=by kernel_rfl) (ho:o.op=.call { callee:=.builtin .len,args,argTypes:=ts }:=by rfl) (hargs:args.toList=[x]:=by rfl) (hts:ts.toList=[t]:=by rfl) (hg:iW ops (rj P ρ ops k l st) o=some true:=by kernel_rfl)
  (hf:eY ρ (rj P ρ ops k l st) o=true:=by kernel_rfl) (hx:R8 (rj P ρ ops k l st) ((rj P ρ ops k l st).eval x)=some (xs.map f):=by kernel_rfl) (hu:P.underlying t=some (.slice e):=by kernel_rfl):ae P p ρ ops l st K:=by
 obtain ⟨e1,e2⟩:=An hl;simp only [e1,e2] at hk;refine ak k h1 ?_;obtain ⟨y,m,hx,hy⟩:=Pb hx;rw [hl];exact Q1 f xs m ho hargs hts hg hf hx hy hu hk
theorem bm{α β:Type}{r:β}{xs ys:List α}{g:Unit->Option β}{by_:Nat}(k d e nn rw:Nat)(f:α->List T)(h:(ed (decide ((xs.length+ys.length)*by_<=140737488355328))).bind g=some r){t:TypeId}{ts:Array TypeId}{args:Array Operand}{a b:Operand}
  (hk:g ()=some r->ae P p ρ ops (l.drop (k+1)) (({ rj P ρ ops k l st with rw:=eG (eG (rj P ρ ops k l st).rw rw (some .gone)) (fh d 0) (some (.live e nn ((xs++ys).map f))) }:St).put (Lt (l.drop k)) (.own (fh d 0))) K) (hl:l.drop k=o :: l':=by rfl) (h1:(qX P ρ ops (l.take k) st).isSome=true:=by kernel_rfl)
  (ho:o.op=.call { callee:=.builtin .append,args,argTypes:=ts }:=by rfl) (hargs:args.toList=[a,b]:=by rfl) (hts:ts.toList=[t,t]:=by rfl) (hd:o.dst=some d:=by rfl) (hg:iW ops (rj P ρ ops k l st) o=some true:=by kernel_rfl) (hf:eY ρ (rj P ρ ops k l st) o=true:=by kernel_rfl)
  (ha:(rj P ρ ops k l st).eval a=some (.own rw):=by kernel_rfl) (hr:(rj P ρ ops k l st).rw rw=some (.live e nn (xs.map f)):=by kernel_rfl) (hy:Pc nn (rj P ρ ops k l st) ((rj P ρ ops k l st).eval b)=some (ys.map f):=by kernel_rfl)
  (hi:Bd P t=some (e,nn,by_):=by kernel_rfl) (hne:zXZ (fh d 0) rw=false:=by kernel_rfl) (hfree:(rj P ρ ops k l st).rw (fh d 0)=none:=by kernel_rfl):ae P p ρ ops l st K:=by
 obtain ⟨e1,e2⟩:=An hl;simp only [e1,e2] at hk;refine ak k h1 ?_;obtain ⟨_,h2,h3⟩:=bind_some h;obtain ⟨y,m,hb,hy,hm⟩:=NI hy;rw [hl];exact dp f d m e nn by_ rw xs ys ho hargs hts hd hg hf ha hr hb hy hm hi (of_decide_eq_true (bw h2)) hne hfree (hk h3)
theorem dh{α:Type}{y:α}{xs:List α}{i:Nat}(k sz m rw off e':Nat)(gg:Bool)(f:α->List T)(h:xs[i]?=some y){t:TypeId}{a:Operand}(hk:ae P p ρ ops (l.drop (k+1)) ((rj P ρ ops k l st).put (Lt (l.drop k)) ((B9 gg m ((f y).map A.t) off).getD .undef)) K)(hl:l.drop k=o :: l':=by rfl)(h1:(qX P ρ ops (l.take k) st).isSome=true:=by kernel_rfl)
  (ho:o.op=.load t a:=by rfl) (hg:iW ops (rj P ρ ops k l st) o=some true:=by kernel_rfl) (hf:eY ρ (rj P ρ ops k l st) o=true:=by kernel_rfl)
  (ha:(rj P ρ ops k l st).eval a=some (.elem rw sz i off):=by kernel_rfl) (hr:(rj P ρ ops k l st).rw rw=some (.live e' sz (xs.map f)):=by kernel_rfl) (hgg:M2 P t=some gg:=by kernel_rfl) (hm:iV P t=some m:=by kernel_rfl) (hc:(B9 gg m ((f y).map A.t) off).isSome=true:=by kernel_rfl):ae P p ρ ops l st K:=by
 obtain ⟨e1,e2⟩:=An hl;simp only [e1,e2] at hk;refine ak k h1 ?_;obtain ⟨x,hx⟩:=Option.isSome_iff_exists.1 hc;rw [hx] at hk;rw [hl];exact O5 f xs rw i off x ho hg hf ha hr hgg hm h hx hk
end
abbrev V.i(n:Int):V:=.one (.t (.int .i64 n))
abbrev V.b(b:Bool):V:=.one (.t (.bool b))
abbrev fV(l:List T):V:=.agg (l.map .t)
def cw:List Nat->List T->List C
 | 0 :: es,x :: xs=>.t x :: cw es xs
 | (e+1) :: es,.sl sz rows :: xs=>.ow (e+1) sz rows :: cw es xs
 | _ :: es,x :: xs=>.t x :: cw es xs
 | [],xs=>xs.map .t
 | _ :: _,[]=>[]
def V.w(es:List Nat)(l:List T):V:=.agg (cw es l)
section
variable {P:Program} {st:St} {p:Nat->Bool} {ρ:Nat->eh} {ops:Array Oper} {l:List Oper} {K:St->Prop} {o:Oper}
theorem nR.le{f:Nat}{l l':List V}{res:V}(hl:Ak l l')(h:nR P f l' res):nR P f l res:=⟨h.1,λw D vs hD hv ht=>h.2 w D vs hD (E8 hl hv) ht⟩
theorem NJ(d f:Nat)(caps aa:List A)(vs:List V)(res:V){xf:Operand}{args:Array Operand}{ts:Array TypeId}
  (ho:o.op=.call { callee:=.value xf,args,argTypes:=ts }) (hd:o.dst=some d) (hg:iW ops st o=some true) (hf:eY ρ st o=true) (hxf:st.eval xf=some (.clo f caps)) (kT:dt (args.toList.map st.eval)=some aa)
  (hp:((d9 (aa++caps) MA.ret).run st).map (λq=>xH vs q.1)=some vs) (hc:nR P f vs res) (hr:((V.toA d (fh d 0) res MA.ret).run st).isSome=true)
  (hk:ae P p ρ ops l ((H0 ((V.toA d (fh d 0) res MA.ret).run st)).put o.dst (Un ((V.toA d (fh d 0) res MA.ret).run st))) K):ae P p ρ ops (o :: l) st K:=by
 obtain ⟨⟨vs0,st1⟩,h1,h2⟩:=Option.map_eq_some_iff.1 hp;have hle:Ak vs0 (xH vs vs0):=vL vs vs0;simp only at h2;rw [h2] at hle;exact aR d f caps aa vs0 res ho hd hg hf hxf kT (by rw [h1]; rfl) (hc.le hle) hr hk
end
section
variable {P:Program} {n:Nat} {ls:List Nat} {Q:Exit->St->Prop} {st:St} {p:Nat->Bool} {ρ:Nat->eh} {ops:Array Oper} {l:List Oper} {K:St->Prop} {y:Code}
theorem L3.le{f:Nat}{v v' x x':List V}{res:V}{outs:List (List C)}(hv:Ak v v')(hx:Ak x x')(h:L3 P f v' x' res outs):L3 P f v x res outs :=
 ⟨h.1,λw F D vs us bs hF hD h1 h2 hn hf ht=>(h.2 w F D vs us bs hF hD (E8 hv h1) (E8 hx h2) hn hf ht).mono λe w' ⟨v,F',bv,bo,a1,a2,a3,a4,a5,a6,a7,a8⟩=>⟨v,F',bv,bo,a1,a2,a3,a4,a5,a6,Qc a7 hv,a8⟩⟩
theorem TF{f:FuncId}{c:Code}{args xs:List V}{res:V}{outs:List (List C)}(fn:Func)(m:Bool)
  (h:Wp P fn.ntmps (eU 0 args) c (xF P m fn args res outs) (gw (((((nY 0 args MA.ret).run dD).map Prod.fst).getD [])++xs.map V.toX) (H0 ((nY 0 args MA.ret).run dD))))
  (hb:fn.body=some c:=by rfl) (hf:P.funcs[f]?=some fn:=by kernel_rfl) (hnm:(fn.name == "runtime.NumGoroutine")=false:=by kernel_rfl) (hle:Nat.ble (((((nY 0 args MA.ret).run dD).map Prod.fst).getD [])++xs.map V.toX).length fn.ntmps=true:=by kernel_rfl) (ht:tv fn.ntmps fn=true:=by kernel_rfl)
  (ha:((nY 0 args MA.ret).run dD).isSome=true:=by kernel_rfl) (hl:ij 0 args ((((nY 0 args MA.ret).run dD).map Prod.fst).getD [])=true:=by kernel_rfl):L3 P f args xs res outs:=by
 obtain ⟨⟨az,st0⟩,h1⟩:=Option.isSome_iff_exists.1 ha;rw [h1] at h hle hl;exact Ny hf hb hnm (Nat.le_of_ble_eq_true hle) ht h1 hl h
theorem eS{α β:Type}{r:β}{x:Option α}{f:α->Option β}{fid:Nat}{vs us:List V}{res:α->V}{outs:α->List (List C)}(m:Bool)(k d:Nat)(aa xs:List A)(h:x.bind f=some r)(hc:∀ y,x=some y->L3 P fid vs us (res y) (outs y))
  (hk:∀ y,f y=some r->ae P p ρ ops (l.drop (k+1)) (Uq m p d aa (res y) (outs y) (rj P ρ ops k l st)) K)
  (h1:(qX P ρ ops (l.take k) st).isSome=true:=by kernel_rfl) (h2:Cj P ρ ops (rj P ρ ops k l st) (l.drop k)=some (fid,aa++xs,d):=by kernel_rfl)
  (h3:((kc m p aa MA.ret).run (rj P ρ ops k l st)).map (λq=>xH vs q.1)=some vs:=by kernel_rfl)
  (h0:((d9 xs MA.ret).run (H0 ((kc m p aa MA.ret).run (rj P ρ ops k l st)))).map (λq=>xH us q.1)=some us:=by kernel_rfl)
  (h4:∀ y,((dO d (d8 aa) (outs y) (V.toA d (fh d 0) (res y) MA.ret)).run (H0 ((kc m p aa MA.ret).run (rj P ρ ops k l st)))).isSome=true:=by intro y; kernel_rfl):ae P p ρ ops l st K:=by
 refine ak k h1 ?_
 cases x with
 | none=>cases h
 | some y =>
  have h5:=hc y rfl;have h6:=hk y h;have h7:=h4 y
  clear hc hk h4
  simp only [rj,Uq] at h2 h3 h6 h7 h0;generalize St.or (qX P ρ ops (l.take k) st)=st1 at *;obtain ⟨o,l',xf,args,ts,az',caps,e1,e2,e3,e4,e5,e6,e7,e8⟩:=wB h2;simp only at e5 e6 e8;have e9:l.drop (k+1)=l':=by rw [<- zZJ,e1]; rfl
  rw [e9] at h6;rw [e1];obtain ⟨⟨vs0,st2⟩,h8,h9⟩:=Option.map_eq_some_iff.1 h3;have h10:Ak vs0 vs:=by rw [<- h9]; exact vL vs vs0
  rw [h8] at h6 h7 h0;simp only [H0,Un] at h6 h7 h0;obtain ⟨⟨us0,st4⟩,h12,h13⟩:=Option.map_eq_some_iff.1 h0;have h14:Ak us0 us:=by rw [<- h13]; exact vL us us0
  have hst:st4=st2:=by
   have:=(mB (d9 xs MA.ret) (pz (D:=⟨λ_=>True,λ_=>False,λ_=>True,λ_=>False⟩) (oG (λ_=>trivial) _) (λ_=>trivial)) h12).1;exact St.ext this.tm (funext λs=>this.ob s (λh=>h)) (funext λs=>this.rw s (λh=>h))
  subst hst
  cases h11:(dO d (d8 aa) (outs y) (V.toA d (fh d 0) (res y) MA.ret)).run st4 with
  | none=>rw [h11] at h7; cases h7
  | some q =>
   obtain ⟨z,st3⟩:=q;rw [h11] at h6;exact ae.step (.run z st3 e2 e3 (.callX m d fid xf args ts az' caps aa xs vs0 us0 st4 (res y) (outs y) e4 e5 e6 e7 e8.symm h8 h12 (h5.le h10 h14) h11)) (by rw [e5]; exact h6)
end
end Go.Tm
namespace Go.Tm
open Go
section
variable {P:Program} {n:Nat} {ls:List Nat} {Q:Exit->St->Prop} {st:St} {x y:Code}
theorem Bv(R:St->Prop)(J:∀ s,R s->Wp P n ls y Q s)(h:Wp P n ls x (iz R Q) st):Wp P n ls (.seq x y) Q st:=Wp.seq (h.mono λe s hq=>by
 cases e with
 | normal=>exact J s hq
 | _=>exact hq)
theorem Wp.L(R:Nat->St->Prop)(h0:∀ s,¬ R 0 s)(hs:∀ k s,R (k+1) s->Wp P n ls x (iz (R k) Q) s){k:Nat}(h:R k st):Wp P n ls (.loop x) Q st:=by
 refine Wp.loop (k:=k) ?_
 induction k generalizing st with
 | zero=>exact absurd h (h0 st)
 | succ k ih =>
  refine (hs k st h).mono λe s hq=>?_
  cases e with
  | normal=>exact ih hq
  | _=>exact hq
end
end Go.Tm
namespace Go.Tm
open Go
def Md(P:Program):Nat->List FuncId->List FuncId->Nat->List FuncId×List FuncId×Nat
 | 0,todo,seen,m=>(todo,seen,m)
 | n+1,[],seen,m=>([],seen,m)
 | n+1,f :: todo,seen,m=>if m.testBit f then Md P n todo seen m else Md P n ((P.funcs[f]?).elim [] P.leadsTo++todo) (f :: seen) (m ||| 2 ^ f)
def Vy(seen:List FuncId)(m:Nat):Prop:=∀ f:Nat,seen.contains f=m.testBit f
theorem TG{seen:List FuncId}{m:Nat}(h:Vy seen m)(f:Nat):Vy (f :: seen) (m ||| 2 ^ f):=λg=>by
 rw [List.contains_cons,h g,Nat.testBit_or,Nat.testBit_two_pow,Bool.or_comm]
 congr 1
 by_cases hg:g=f
 ·simp [hg]
 ·have:¬ f=g:=λh=>hg h.symm;simp [hg,this]
theorem IM(P:Program):∀ (a b:Nat) (todo seen:List FuncId) (m:Nat),Vy seen m->P.closureVia (a+b) todo seen=P.closureVia b (Md P a todo seen m).1 (Md P a todo seen m).2.1
 | 0,b,todo,seen,m,h=>by rw [zWZ]; rfl
 | a+1,b,[],seen,m,h=>by
  rw [show a+1+b=(a+b)+1 by omega];show seen.reverse=P.closureVia b [] seen
  cases b <;> rfl
 | a+1,b,f :: todo,seen,m,h=>by
  rw [show a+1+b=(a+b)+1 by omega];rw [show P.closureVia ((a+b)+1) (f :: todo) seen=if seen.contains f then P.closureVia (a+b) todo seen else P.closureVia (a+b) ((P.funcs[f]?).elim [] P.leadsTo++todo) (f :: seen) from rfl,
   show Md P (a+1) (f :: todo) seen m=if m.testBit f then Md P a todo seen m else Md P a ((P.funcs[f]?).elim [] P.leadsTo++todo) (f :: seen) (m ||| 2 ^ f) from rfl,h f]
  cases m.testBit f with
  | true=>exact IM P a b todo seen m h
  | false=>exact IM P a b _ _ _ (TG h f)
def Lu(P:Program):Nat:=1+(P.funcs.toList.map λg=>(P.leadsTo g).length+1).sum
theorem Pd{P:Program}{f:FuncId}{a m:Nat}{L:List FuncId}(h:Md P a [f] [] 0=([],L.reverse,m))(hF:Nat.ble a (Lu P)=true):P.closure f=L:=by
 have hle:=Nat.le_of_ble_eq_true hF;unfold Program.closure;show P.closureVia (Lu P) [f] []=L;rw [show Lu P=a+(Lu P - a) by omega,IM P a _ _ _ 0 (λg=>by simp),h]
 cases Lu P - a <;> simp [Program.closureVia]
theorem Pe{P:Program}{f:FuncId}{L:List FuncId}{l:List String}(h:P.closure f=L)(h2:(L.filterMap λg=>(P.funcs[g]?).bind λfn=>if fn.ours || fn.body.isNone || fn.name == "runtime.NumGoroutine" then some fn.name else none)=l):P.inPlace f=l:=by
 unfold Program.inPlace; rw [h,h2]
theorem Kn{P:Program}{f:FuncId}{L:List FuncId}{b:Bool}(h:P.closure f=L)(h2:(L.any λg=>(P.funcs[g]?).any λfn=>match fn.body with | some c=>c.unfollowed | none=>entryCalls fn)=b):P.unfollowed f=b:=by
 unfold Program.unfollowed; rw [h]; exact h2
theorem NK{P:Program}{f:FuncId}(h:P.unfollowed f=true):P.recurses f=true:=by
 unfold Program.recurses; rw [h]; rfl
theorem Me{P:Program}{f:FuncId}{L:List FuncId}{l:List String}(h:P.closure f=L)(h2:((((L.flatMap λg=>((P.funcs[g]?).bind (·.body)).elim [] Code.globalsNamed).eraseDups).filterMap (λg=>(P.globals[g]?).map (·.name)) ++
  L.filterMap λg=>(P.funcs[g]?).bind λfn=>if fn.body.isNone then entryReads.lookup fn.name else none).eraseDups)=l):P.varsNamed f=l:=by
 unfold Program.varsNamed; rw [h,h2]
end Go.Tm
