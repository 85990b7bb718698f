/- The abstract machine over data trees, and that it tells the truth of the translated code. -/
import Derived.Orders
import Derived.ChangeOld
import Derived.ChangeArms
import Derived.Carry
import Derived.OpenShut
import Derived.IntWalk
import Derived.Test.YtdcoelkflgpfgaaGreatCFnSafesF1
set_option linter.unusedVariables false
set_option linter.unusedSimpArgs false
open Array renaming getElem?_append_left->zYG,getElem?_append_right->zYJ,getElem?_eq_getElem->zXY,getElem?_replicate->zYv,replicate->zZW,toArray_toList->zWK
open Bool renaming and_eq_true->sk,and_self->zXV,false_eq_true->zWW,true_and->zWk
open Int renaming tmod_eq_emod_of_nonneg->zXq,toNat->sY
open List renaming all_cons->zYh,all_eq_true->zYx,append_nil->zWQ,drop_drop->zZK,drop_eq_getElem_cons->zXy,eq_nil_of_length_eq_zero->r0,foldl_cons->zYK,getElem?_append->zWq,getElem?_append_left->zQQ,getElem?_append_right->zQW,getElem?_cons_zero->zWJ,getElem?_drop->zQq,getElem?_eq_getElem->sX,getElem?_map->zQX,getElem?_of_mem->zZX,getElem?_take->zQx,head?->zZQ,head?_drop->zXj,head?_eq_getElem?->zZg,length->zYq,length_append->zQV,length_cons->zQG,length_map->zXQ,map_congr_left->zXX,map_cons->zWh,mem_append_left->zVY,mem_cons_of_mem->zQv,mem_cons_self->zQh,mem_map->zYZ,mem_of_getElem?->zQY,mem_singleton->zQH,nil_append->zQy,nodup_append->zXw,range->zXW,range'->zWY,range_eq_range'->zXx,replicate->zQk,size_toArray->zYH,tail->zZV,tail_drop->zYX,take_append_drop->zXK
open Nat renaming add_assoc->zZY,beq->zWv,beq_refl->zZz,eq_of_beq_eq_true->zWG,le_refl->zWy,le_trans->zWx,lt_of_lt_of_le->zQj,zero_add->zWZ,zero_le->zZw
open Option renaming bind_some->wk,getD_some->zYy,map_eq_some_iff->zWj,map_some->zQg
namespace Go.Tm
open Go.RowKit
section
variable {P:Program} {E:En} [Tb P E] {g:Gh} {st st':St} {a:Act} {w:World}
def Gh.all(g:Gh)(st:St)(b:Nat):Prop:=g.F b\/(∃ r,st.L r/\(g.rw r).ownBlock=some b)\/(g.sh=false/\g.D b)
theorem fd.all_lt(hM:fd E g st w){b:Nat}(hb:g.all st b):b < w.heap.size:=by
 rcases hb with hb | ⟨r,hL,hb⟩ | ⟨_,hb⟩
 ·exact (hM.F b hb).1
 ·exact hM.row_lt hL hb
 ·exact zQj (hM.dep b hb).2.1 hM.sizes
theorem L3{α:Type}{x:A}{k:T->MA α}{y:α}{v:Value}(hM:fd E g st w)(hv:VR w g st.O st.R x v)(h:(x.peekT k).run st=some (y,st')):∃ t,(k t).run st=some (y,st')/\Rd w (g.all st) t v:=by
 cases hv with
 | t x v h1=>exact ⟨x,h,h1.mono (λ_ _=>rfl) (λ_ h=>.inl h)⟩
 | ext s x v hs h1 =>
  cases s with
  | true=>simp [A.peekT,MA.run] at h
  | false=>exact ⟨x,h,h1.rd (hM.now hs) (λ_ h=>.inr (.inr ⟨hs,h⟩))⟩
 | nil=>exact ⟨_,h,.sl0 _ _ _ (by first | assumption | exact λ_=>rfl | (intro h; cases h))⟩
 | own r hr =>
  simp only [A.peekT,MA.run] at h
  cases hx:st.rw r with
  | none=>simp [hx,MA.run] at h
  | some x =>
   cases x with
   | live e sz rows =>
    simp only [hx] at h;exact ⟨_,h,(hM.row r _ hx).rd _ (λ_ h=>.inl h) (λb hb=>.inr (.inl ⟨r,⟨e,sz,rows,hx⟩,hb⟩))⟩
   | frz sz rows =>
    simp only [hx] at h;exact ⟨_,h,Rd.mono (hM.row r _ hx) (λ_ _=>rfl) (λ_ h=>.inl h)⟩
   | gone=>simp [hx,MA.run] at h
 | _=>simp [A.peekT,MA.run] at h
theorem Jh{α:Type}:∀ {l:List A} {k:List T->MA α} {y:α} {vs:List Value},fd E g st w->vs.length=l.length->(∀ (j:Nat) (x:A),l[j]?=some x->∃ u,vs[j]?=some u/\VR w g st.O st.R x u)->(DZ l k).run st=some (y,st') ->
  ∃ ts,(k ts).run st=some (y,st')/\IK w (g.all st) (ts.map .t) vs []
 | [],k,y,vs,hM,hl,hv,h=>by
  have:vs=[]:=r0 hl;subst this;exact ⟨[],h,.nil⟩
 | x :: l,k,y,vs,hM,hl,hv,h=>by
  obtain ⟨v,vs,rfl⟩:∃ v vs',vs=v :: vs':=by
   cases vs with
   | nil=>simp at hl
   | cons v vs=>exact ⟨v,vs,rfl⟩
  obtain ⟨u,hu,hx⟩:=hv 0 x rfl;simp at hu;subst hu;obtain ⟨t,h1,hr⟩:=L3 hM hx h;obtain ⟨ts,h2,hc⟩:=Jh hM (by simpa using hl) (λj y hy=>by
   obtain ⟨u,hu,hx⟩:=hv (j+1) y (by simpa using hy);exact ⟨u,by simpa using hu,hx⟩) h1
  exact ⟨t :: ts,h2,.cons _ _ [] _ _ [] (.t _ _ hr) hc⟩
mutual
theorem RC{α:Type}:∀ (x:A) {k:V->MA α} {y:α} {v:Value},fd E g st w->VR w g st.O st.R x v->(iK x k).run st=some (y,st')->∃ c,(k c).run st=some (y,st')/\VV w (g.all st) c v []:=by
 intro x k y v hM hv h;unfold iK at h
 split at h
 ·rename_i l
  cases hv with
  | agg l vs hl hx =>
   obtain ⟨ts,h1,hc⟩:=Jh hM hl.symm (λj x hj=>⟨_,sX (by rw [<- hl]; exact (List.getElem?_eq_some_iff.1 hj).1),hx j x _ hj (sX (by rw [<- hl]; exact (List.getElem?_eq_some_iff.1 hj).1))⟩) h;exact ⟨_,h1,.agg _ vs [] hc⟩
 ·rename_i ts
  cases hv with
  | fadr cells b off u hF hx hr=>exact ⟨_,h,.fptr ts b off u (.inl hF) hx (λj x hj=>(hr j x hj).mono (λ_ _=>rfl) (λ_ h=>.inl h))⟩
 ·rename_i f caps
  cases hv with
  | clo f caps vs hl hx =>
   obtain ⟨cs,h1,hc⟩:=tP caps hM hl.symm (λj x hj=>⟨_,sX (by rw [<- hl]; exact (List.getElem?_eq_some_iff.1 hj).1),hx j x _ hj (sX (by rw [<- hl]; exact (List.getElem?_eq_some_iff.1 hj).1))⟩) h;exact ⟨_,h1,.clo f cs vs [] hc⟩
 ·obtain ⟨t,h1,hr⟩:=L3 hM hv h;exact ⟨_,h1,.one _ v [] (.t _ _ hr)⟩
theorem tP{α:Type}:∀ (l:List A) {k:List V->MA α} {y:α} {vs:List Value},fd E g st w->vs.length=l.length->(∀ (j:Nat) (x:A),l[j]?=some x->∃ u,vs[j]?=some u/\VR w g st.O st.R x u)->(d7 l k).run st=some (y,st')->∃ cs,(k cs).run st=some (y,st')/\AF w (g.all st) cs vs []
 | [],k,y,vs,hM,hl,hv,h=>by
  have:vs=[]:=r0 hl;subst this;unfold d7 at h;exact ⟨[],h,.nil⟩
 | x :: l,k,y,vs,hM,hl,hv,h=>by
  obtain ⟨v,vs,rfl⟩:∃ v vs',vs=v :: vs':=by
   cases vs with
   | nil=>simp at hl
   | cons v vs=>exact ⟨v,vs,rfl⟩
  obtain ⟨u,hu,hx⟩:=hv 0 x rfl;simp at hu;subst hu;unfold d7 at h;obtain ⟨c,h1,hc⟩:=RC x hM hx h;obtain ⟨cs,h2,hcs⟩:=tP l hM (by simpa using hl) (λj y hy=>by
   obtain ⟨u,hu,hx⟩:=hv (j+1) y (by simpa using hy);exact ⟨u,by simpa using hu,hx⟩) h1
  exact ⟨c :: cs,h2,.cons _ _ [] _ _ [] hc hcs⟩
end
theorem Rd.sc{F F':Nat->Prop}{x:T}{v:Value}(h:Rd w F x v)(hx:x.sc=true):Rd w F' x v:=by
 cases h with
 | int k n=>exact .int k n
 | bool b=>exact .bool b
 | str s=>exact .str s
 | nilf=>exact .nilf
 | hdr a n c=>exact .hdr a n c
 | sl0 | sl=>cases hx
theorem CV.plain{F F':Nat->Prop}{c:C}{v:Value}{bs:List Nat}(h:CV w F c v bs)(hc:c.plain):CV w F' c v bs:=by
 cases h with
 | t x v h=>exact .t x v (h.sc hc)
 | nil=>exact .nil
 | ow e sz rows v inner ho hr =>
  exact .ow e sz rows v inner ho ⟨hr.size,hr.len,λi row j x hi hj=>by
   obtain ⟨u,hu,h1,h2⟩:=hr.rd i row j x hi hj;exact ⟨u,hu,h1,h2.sc (hc row (zQY hi) x (zQY hj))⟩⟩
theorem IK.plain{F F':Nat->Prop}{cs:List C}{vs:List Value}{bs:List Nat}(h:IK w F cs vs bs)(hc:∀ c∈cs,c.plain):IK w F' cs vs bs:=by
 induction h with
 | nil=>exact .nil
 | cons c v b cs vs bs h hs ih=>exact .cons c v b cs vs bs (h.plain (hc c (by simp))) (ih (λc h=>hc c (by simp [h])))
mutual
theorem VV.plain{F F':Nat->Prop}:∀ {x:V} {v:Value} {bs:List Nat},VV w F x v bs->x.plain->VV w F' x v bs
 | _,_,_,.one c v bs h,hp=>.one c v bs (h.plain (by unfold V.plain at hp; exact hp))
 | _,_,_,.agg l vs bs h,hp=>.agg l vs bs (h.plain (by unfold V.plain at hp; exact hp))
 | _,_,_,.tup l vs bs h,hp=>.tup l vs bs (h.plain (by unfold V.plain at hp; exact hp))
 | _,_,_,.ptr cells b arr e vs bs h1 h2 h3 h,hp=>by unfold V.plain at hp; exact hp.elim
 | _,_,_,.fptr cells b off u h1 h2 h3,hp=>by unfold V.plain at hp; exact hp.elim
 | _,_,_,.clo f caps vs bs h,hp=>by unfold V.plain at hp; exact hp.elim
theorem AF.plain{F F':Nat->Prop}:∀ {l:List V} {vs:List Value} {bs:List Nat},AF w F l vs bs->sS l->AF w F' l vs bs
 | _,_,_,.nil,hp=>.nil
 | _,_,_,.cons x v b l vs bs h hs,hp=>.cons x v b l vs bs (h.plain (by unfold sS at hp; exact hp.1)) (hs.plain (by unfold sS at hp; exact hp.2))
end
theorem N0{n d f:Nat}{o:Oper}{xf:Operand}{args:Array Operand}{ts:Array TypeId}{caps as:List A}{vs:List V}{res:V}{x:A}
  (hS:iM E g n st a w) (ho:o.op=.call { callee:=.value xf,args,argTypes:=ts }) (hf:st.eval xf=some (.clo f caps)) (k7:dj (args.toList.map st.eval)=some as)
  (hp:(d7 (as++caps) MA.ret).run st=some (vs,st)) (hc:aJ P f vs res []) (hpl:res.plain) (hr:(V.toA d (fj d 0) res MA.ret).run st=some (x,st')) :
  vB P o a w λv w'=>∃ g',vz E g st w x st' v g' w':=by
 have hM:=hS.mem;obtain ⟨hcl,hcc⟩:=hc;have hvf:=bV hS hf;generalize hvv:a.eval xf=vf at hvf
 cases hvf with
 | clo f caps vcaps hl hx =>
  refine jf ho hvv hcl ?_;obtain ⟨ha1,ha2⟩:=xM hS k7;obtain ⟨cs,h1,hVV⟩:=tP (vs:=args.toList.map a.eval++vcaps) (as++caps) hM (by simp [<- ha1,hl]) (λj y hj=>by
   rw [zWq] at hj
   split at hj
   ·rename_i hlt;have hlt':j < (args.toList.map a.eval).length:=by rw [<- ha1]; exact hlt
    exact ⟨_,by rw [zQQ hlt']; exact sX hlt',ha2 j y _ hj (sX hlt')⟩
   ·rename_i hge;have hlt:j - as.length < vcaps.length:=by rw [<- hl]; exact (List.getElem?_eq_some_iff.1 hj).1
    exact ⟨_,by rw [zQW (by rw [<- ha1]; omega),<- ha1]; exact sX hlt,hx _ y _ hj (sX hlt)⟩) hp
  obtain ⟨rfl,_⟩:=eP h1;refine (hcc w (g.all st) _ [] (λb hb=>?_) hVV List.nodup_nil (by simp) (hM.tbW λb _ _ _ h=>by cases h)).mono λe w' ⟨v,F',bv,bo,he,hcalm,hsame,hFF,hF',hvr,hO,hnd,hex⟩=>⟨v,he,?_⟩
  ·exact hM.all_lt hb
  obtain ⟨hM2,hE2⟩:=hM.grow hcalm (λb hb=>hsame b hb (by simp));have hbv:∀ b∈bv,w.heap.size<=b:=λb hb=>((hex b (by simp [hb])).2).resolve_right (by simp);obtain ⟨x',st3,g3,hG,h7,hvx⟩:=tO (w:=w') res hM2 (hvr.plain (F':=g.F) hpl) (List.nodup_append.1 hnd).1 (λb hb=>by
   obtain ⟨h8,h9,h10⟩:=sQ hM (hbv b hb);exact ⟨h8,h9,h10,.inl (zWx hM.sizes (hbv b hb))⟩) hr
  obtain ⟨rfl,rfl⟩:=eP h7;exact ⟨g3,hG.mem,hvx,hE2.trans hG.ext,hG.tm⟩
def rv(P:Program)(f:FuncId)(args:List V)(off:Nat)(outs:List (List C)):Prop :=
 sR P f/\∀ (w:World) (F:Nat->Prop) (vs:List Value) (bs:List Nat),(∀ b,F b->b < w.heap.size)->AF w F args vs bs->bs.Nodup->(∀ b∈bs,¬ F b)->K9 P w (λb=>b∈bs) ->
  Calls P f vs.toArray w λe w'=>∃ v F' bo b0,e=.returned v/\vs.head?=some (.pointer (some ⟨b0,0,none⟩))/\v=.pointer (some ⟨b0,off,none⟩)/\qD w w'/\(∀ b,b < w.heap.size->b∉bs->w'.heap[b]?=w.heap[b]?)/\(∀ b,F b->F' b) /\
   (∀ b,F' b->b < w'.heap.size/\(b < w.heap.size->F b\/b∈bs)/\(F b\/Wr w' b))/\pa w' F' args vs outs bo/\bo.Nodup/\∀ b∈bo,¬ F' b/\(w.heap.size<=b\/b∈bs)
theorem N1{n d f:Nat}{m:Bool}{p:Nat->Bool}{o:Oper}{xf:Operand}{args:Array Operand}{ts:Array TypeId}{caps as:List A}{vs:List V}{st1:St}{outs:List (List C)}{x:A}{s off:Nat}
  (hS:iM E g n st a w) (ho:o.op=.call { callee:=.value xf,args,argTypes:=ts }) (hf:st.eval xf=some (.clo f caps)) (k7:dj (args.toList.map st.eval)=some as)
  (hp:(i9 m p (as++caps) MA.ret).run st=some (vs,st1)) (hc:rv P f vs off outs) (hhd:(as++caps).head?=some (.obj s 0)) (hr:(du d (dH (as++caps)) outs (MA.ret (.obj s off))).run st1=some (x,st')) :
  vB P o a w λv w'=>∃ g',vz E g st w x st' v g' w':=by
 have hM:=hS.mem;obtain ⟨hcl,hcc⟩:=hc;have hvf:=bV hS hf;generalize hvv:a.eval xf=vf at hvf
 cases hvf with
 | clo f caps vcaps hl hx =>
  refine jf ho hvv hcl ?_;obtain ⟨ha1,ha2⟩:=xM hS k7;have hus:∀ (j:Nat) (y:A),(as++caps)[j]?=some y->∃ v,(args.toList.map a.eval++vcaps)[j]?=some v/\VR w g st.O st.R y v:=by
   intro j y hj;rw [zWq] at hj
   split at hj
   ·rename_i hlt;have hlt':j < (args.toList.map a.eval).length:=by rw [<- ha1]; exact hlt
    exact ⟨_,by rw [zQQ hlt']; exact sX hlt',ha2 j y _ hj (sX hlt')⟩
   ·rename_i hge;have hlt:j - as.length < vcaps.length:=by rw [<- hl]; exact (List.getElem?_eq_some_iff.1 hj).1
    exact ⟨_,by rw [zQW (by rw [<- ha1]; omega),<- ha1]; exact sX hlt,hx _ y _ hj (sX hlt)⟩
  obtain ⟨cs,st1',g1,bs,hM1,hE1,hL1,h1,hVV,hT,hA,hsl⟩:=tN (vs:=args.toList.map a.eval++vcaps) (as++caps) hM (by simp [<- ha1,hl]) hus hp;obtain ⟨rfl,rfl⟩:=eP h1;have hbsX:∀ b∈bs,b < E.w0.heap.size->E.X b:=λb hb hlt=>by
   rcases hT.of b hb with ⟨r,h2,_,h4⟩ | ⟨s,⟨c,cs,h2⟩,_,h4⟩
   ·rcases (hM.row_nf h2 h4).2 with h5 | h5
    ·omega
    ·exact h5
   ·rcases (hM.ob_nf (s:=s) (by simp [St.O,h2])).2 with h5 | h5
    ·omega
    ·exact h4 ▸ h5
  refine (hcc w g1.F _ bs (λb hb=>(hM1.F b hb).1) hVV hT.nodup hT.nf (hM.tbW λb h1 h2 _ h3=>h2 (hbsX b h3 h1))).mono λe w' ⟨v,F',bo,b0,he,hhead,hveq,hcalm,hsame,hFF,hF',hO,hnd0,hex0⟩=>⟨v,he,?_⟩;obtain ⟨bv,hbv⟩:∃ bv:List Nat,bv=[]:=⟨[],rfl⟩;have hnd:(bv++bo).Nodup:=by rw [hbv]; exact hnd0
  have hex:∀ b∈bv++bo,¬ F' b/\(w.heap.size<=b\/b∈bs):=by rw [hbv]; exact hex0
  -- the caller's memory behind the call
  have hbsrow:∀ b∈bs,∀ r,st1.L r->(g1.rw r).ownBlock≠some b:=λb hb r hr he=>by
   rw [hL1.rw] at he;rcases hT.of b hb with ⟨r',h2,h3,h4⟩ | ⟨s,⟨c,cs,h2⟩,_,h4⟩
   ·exact h3 (hM.rowne r r' b (hL1.L r hr) h2 he h4 ▸ hr)
   ·exact hM.rowob r s (hL1.L r hr) (by simp [St.O,h2]) (h4 ▸ he)
  have hbsob:∀ b∈bs,∀ s,st1.O s->g1.ob s=b->st1.ob s=some []/\s∈dH (as++caps):=λb hb s hs he=>by
   rw [hL1.ob] at he;have hs':st.O s:=(hL1.O s).1 hs;rcases hT.of b hb with ⟨r',h2,h3,h4⟩ | ⟨s',⟨c,cs,h2⟩,h3,h4⟩
   ·exact absurd (he ▸ h4) (hM.rowob r' s h2 hs')
   ·have:=hM.obne s s' hs' (by simp [St.O,h2]) (he.trans h4.symm);subst this;exact ⟨h3,hsl s (by rw [h3,h2]; simp)⟩
  have hF0:∀ b,b < w.heap.size->F' b->g1.F b\/b∈bs:=λb h2 h3=>(hF' b h3).2.1 h2;have hA1:pc g1 (as++caps) vs (args.toList.map a.eval++vcaps):=hA.congr' hL1.ob;have hexF:∀ b∈bs,F' b->False\/True:=λ_ _ _=>.inr trivial;have hlentF:∀ s,s∈dH (as++caps)->g1.ob s∈bo:=pa.mem hA1 hO;obtain ⟨hM2,hE2⟩:=hM1.step (w':=w') (g':={ g1 with F:=F' }) (st':=st1) hcalm (λb=>b∈bs) (λb h2 h3=>hsame b h2 h3) (λb hb=>hT.nf b hb) (λb h2 h3=>hbsX b h3 h2) hFF
   (λb h2 h3=>⟨(hF' b h2).1,λhlt=>(hF0 b (zQj hlt hM1.sizes) h2).elim (λh4=>absurd h4 h3) (λh4=>.inr (hbsX b h4 hlt)),.inr ((hF' b h2).2.2.resolve_left h3)⟩) (λ_ h=>⟨h,rfl⟩) (λ_ h=>⟨h,rfl⟩)
   (λs cells hs=>by
    have hOs:st1.O s:=by simp [St.O,hs]
    by_cases hb:g1.ob s∈bs
    ·obtain ⟨h5,h6⟩:=hbsob _ hb s hOs rfl;rw [hs] at h5
     cases h5
     obtain ⟨arr,e,hh⟩:=BF hA1 hO s h6;refine .inr ⟨arr,e,hh,by simp,by simp,?_,(hM1.ob_nf hOs).2⟩;exact (hex _ (List.mem_append.2 (.inr (hlentF s h6)))).1
    ·refine .inl ⟨hs,hb,λhf=>?_⟩;rcases hF0 _ (hM1.ob_lt hOs) hf with h5 | h5
     ·exact (hM1.ob_nf hOs).1 h5
     ·exact hb h5) hM1.obne
   (λr x hr=>.inl ⟨hr,λhL b hb=>⟨λhm=>hbsrow b hm r hL hb,λhf=>by
    rcases hF0 b (hM1.row_lt hL hb) hf with h5 | h5
    ·exact (hM1.row_nf hL hb).1 h5
    ·exact hbsrow b h5 r hL hb⟩⟩) hM1.rowne hM1.rowob
  have hI:Inv E { g1 with F:=F' } st1 (dH (as++caps)) (bo++bv):=by
   have hm:∀ x,x∈bo++bv->x∈bv++bo:=λx hx=>by
    rcases List.mem_append.1 hx with h | h <;> simp [h]
   refine ⟨?_,λb hb=>(hex b (hm b hb)).1,λb hb=>?_,λb hb r hr he=>?_,λb hb s hs he=>?_⟩
   ·rw [zXw] at hnd ⊢;exact ⟨hnd.2.1,hnd.1,λx hx y hy h=>hnd.2.2 y hy x hx h.symm⟩
   ·rcases (hex b (hm b hb)).2 with h5 | h5
    ·exact .inl (zWx hM1.sizes h5)
    ·by_cases hlt:b < E.w0.heap.size
     ·exact .inr (hbsX b h5 hlt)
     ·exact .inl (by omega)
   ·rcases (hex b (hm b hb)).2 with h5 | h5
    ·exact absurd (hM1.row_lt hr he) (by omega)
    ·exact hbsrow b h5 r hr he
   ·rcases (hex b (hm b hb)).2 with h5 | h5
    ·exact absurd (hM1.ob_lt hs) (by have:g1.ob s=b:=he; omega)
    ·exact (hbsob b h5 s hs he).2
  have hA2:pc { g1 with F:=F' } (as++caps) vs (args.toList.map a.eval++vcaps):=hA1.congr' (g:=g1) (g1:={ g1 with F:=F' }) rfl;obtain ⟨st2,g2,hM3,hE3,hF3,ht3,h6,hI3⟩:=pT (w:=w') hM2 hA2 hO hI hr;obtain ⟨rfl,rfl⟩:=eP h6;have hext:=(hE1.trans hE2).trans hE3;have hobj:st.O s/\(args.toList.map a.eval++vcaps)[0]?=some (.pointer (some ⟨g.ob s,0,none⟩)):=by
   obtain ⟨u,hu1,hu2⟩:=hus 0 (.obj s 0) (by rw [<- zZg]; exact hhd)
   cases hu2 with
   | obj _ _ hs=>exact ⟨hs,hu1⟩
  have hb0:g.ob s=b0:=by
   rw [zZg,hobj.2] at hhead;injection hhead with h; injection h with h; injection h with h; injection h
  obtain ⟨hO2,hob2⟩:=hext.O s hobj.1;refine ⟨g2,hM3,?_,hext,ht3.trans hL1.tm⟩;rw [hveq,<- hb0,<- hob2];exact .obj s off hO2
def nH(P:Program)(f:FuncId)(args:List V)(res:V):Prop :=
 sR P f/\∀ (w:World) (D:Nat->Prop) (vs:List Value),(∀ b,D b->b < w.heap.size)->AF w D args vs []->K9 P w (λ_=>False) ->
  Calls P f vs.toArray w λe w'=>∃ v F' bv,e=.returned v/\qD w w'/\(∀ b,b < w.heap.size->w'.heap[b]?=w.heap[b]?) /\
   (∀ b,F' b->b < w'.heap.size/\w.heap.size<=b/\Wr w' b)/\VV w' F' res v bv/\bv.Nodup/\∀ b∈bv,¬ F' b/\w.heap.size<=b
theorem N2{n d f:Nat}{o:Oper}{xf:Operand}{args:Array Operand}{ts:Array TypeId}{caps as:List A}{vs:List V}{res:V}{x:A}
  (hS:iM E g n st a w) (ho:o.op=.call { callee:=.value xf,args,argTypes:=ts }) (hf:st.eval xf=some (.clo f caps)) (k7:dj (args.toList.map st.eval)=some as)
  (hp:(d7 (as++caps) MA.ret).run st=some (vs,st)) (hc:nH P f vs res) (hr:(V.toA d (fj d 0) res MA.ret).run st=some (x,st')) :
  vB P o a w λv w'=>∃ g',vz E g st w x st' v g' w':=by
 have hM:=hS.mem;obtain ⟨hcl,hcc⟩:=hc;have hvf:=bV hS hf;generalize hvv:a.eval xf=vf at hvf
 cases hvf with
 | clo f caps vcaps hl hx =>
  refine jf ho hvv hcl ?_;obtain ⟨ha1,ha2⟩:=xM hS k7;obtain ⟨cs,h1,hVV⟩:=tP (vs:=args.toList.map a.eval++vcaps) (as++caps) hM (by simp [<- ha1,hl]) (λj y hj=>by
   rw [zWq] at hj
   split at hj
   ·rename_i hlt;have hlt':j < (args.toList.map a.eval).length:=by rw [<- ha1]; exact hlt
    exact ⟨_,by rw [zQQ hlt']; exact sX hlt',ha2 j y _ hj (sX hlt')⟩
   ·rename_i hge;have hlt:j - as.length < vcaps.length:=by rw [<- hl]; exact (List.getElem?_eq_some_iff.1 hj).1
    exact ⟨_,by rw [zQW (by rw [<- ha1]; omega),<- ha1]; exact sX hlt,hx _ y _ hj (sX hlt)⟩) hp
  obtain ⟨rfl,_⟩:=eP h1;refine (hcc w (g.all st) _ (λb hb=>hM.all_lt hb) hVV (hM.tbW λ_ _ _ _ h=>h)).mono λe w' ⟨v,F',bv,he,hcalm,hsame,hF',hvr,hnd,hex⟩=>⟨v,he,?_⟩;obtain ⟨hM2,hE2⟩:=hM.step (w':=w') (g':={ g with F:=λb=>g.F b\/F' b }) (st':=st) hcalm (λ_=>False) (λb h1 _=>hsame b h1) (λ_ h=>h.elim) (λ_ _ h=>h.elim) (λ_ h=>.inl h)
   (λb h1 h2=>by
    obtain ⟨h3,h4,h5⟩:=hF' b (h1.resolve_left h2);exact ⟨h3,λhlt=>(by have:=hM.sizes; omega),.inr h5⟩) (λ_ h=>⟨h,rfl⟩) (λ_ h=>⟨h,rfl⟩)
   (λs cells hs=>.inl ⟨hs,id,λhf=>by
    have hs':st.O s:=by simp [St.O,hs]
    rcases hf with hf | hf
    ·exact (hM.ob_nf hs').1 hf
    ·have:=hM.ob_lt hs'; have:=(hF' _ hf).2.1; omega⟩) hM.obne
   (λr x hr=>.inl ⟨hr,λhL b hb'=>⟨id,λhf=>by
    rcases hf with hf | hf
    ·exact (hM.row_nf hL hb').1 hf
    ·have:=hM.row_lt hL hb'; have:=(hF' _ hf).2.1; omega⟩⟩) hM.rowne hM.rowob
  obtain ⟨x',st3,g3,hG,h7,hvx⟩:=tO (w:=w') res hM2 (hvr.mono (λ_ _=>rfl) (λ_ h=>.inr h) (λ_ _=>rfl)) hnd (λb hb=>by
   obtain ⟨h8,h9,h10⟩:=sQ hM (hex b hb).2;exact ⟨λh=>h.elim h8 (hex b hb).1,h9,h10,.inl (zWx hM.sizes (hex b hb).2)⟩) hr
  obtain ⟨rfl,rfl⟩:=eP h7;exact ⟨g3,hG.mem,hvx,hE2.trans hG.ext,hG.tm⟩
def L4:Nat->Prop:=λ_=>False
def gM(w:World)(D:Nat->Prop):Gh:={ F:=L4,ob:=λ_=>0,rw:=λ_=>.nilFunc,D:=D,dw:=w,sh:=true }
def A.mk1:A->Bool
 | .t x=>x.sc
 | .ext true _=>true
 | .undef=>true
 | _=>false
def A.mk:A->Bool
 | .agg l=>l.all A.mk1
 | a=>a.mk1
def A.isX:A->Bool
 | .ext true _=>true
 | _=>false
def A.hasX:A->Bool
 | .agg l=>l.any A.isX
 | a=>a.isX
def Wk(P:Program)(f:FuncId)(as:List A)(n:T):Prop :=
 n.sc=true/\sR P f/\∀ (w:World) (D:Nat->Prop) (vs:List Value),(∀ b,D b->b < w.heap.size/\Wr w b)->vs.length=as.length ->
  (∀ (j:Nat) (x:A),as[j]?=some x->∃ u,vs[j]?=some u/\VR w (gM w D) L4 L4 x u)->K9 P w D ->
  Calls P f vs.toArray w λe w'=>∃ v,e=.returned v/\Rd w' L4 n v/\qD w w'/\(∀ b,b < w.heap.size->¬ D b->w'.heap[b]?=w.heap[b]?)/\∀ b,D b->KS w w' b
theorem SK{O R:Nat->Prop}{x:A}{v:Value}(hM:fd E g st w)(hs:g.sh=true)(h:VR w g O R x v)(hk:x.mk1=true):VR w (gM w g.D) L4 L4 x v:=by
 cases h with
 | t x v h=>exact .t x v (h.sc hk)
 | ext s x v hs' h =>
  rw [hs] at hs';subst hs';exact .ext true x v rfl (h.ks λb hb=>hM.nowK hs hb)
 | undef v=>exact .undef v
 | _=>simp [A.mk1] at hk
theorem VK{O R:Nat->Prop}{x:A}{v:Value}(hM:fd E g st w)(hs:g.sh=true)(h:VR w g O R x v)(hk:x.mk=true):VR w (gM w g.D) L4 L4 x v:=by
 cases x with
 | agg l =>
  cases h with
  | agg l vs hl h=>exact .agg l vs hl λi x v hi hv=>SK hM hs (h i x v hi hv) (List.all_eq_true.1 hk x (zQY hi))
 | _=>exact SK hM hs h hk
theorem T4{O R:Nat->Prop}{x:A}{v:Value}(h:VR w g O R x v)(hk:x.hasX=true):g.sh=true:=by
 have key:∀ {x:A} {v:Value},VR w g O R x v->x.isX=true->g.sh=true:=by
  intro x v h hk
  cases h with
  | ext s x v hs' h=>cases s with
   | true=>exact hs'
   | false=>cases hk
  | _=>cases hk
 cases x with
 | agg l =>
  cases h with
  | agg l vs hl h =>
   obtain ⟨x,hx,hk⟩:=List.any_eq_true.1 hk;obtain ⟨i,hi⟩:=zZX hx;have hlt:i < vs.length:=by rw [<- hl]; exact (List.getElem?_eq_some_iff.1 hi).1
   exact key (h i x _ hi (sX hlt)) hk
 | _=>exact key h hk
theorem N3{n f:Nat}{o:Oper}{xf:Operand}{args:Array Operand}{ts:Array TypeId}{as:List A}{r:T}
  (hS:iM E g n st a w) (ho:o.op=.call { callee:=.value xf,args,argTypes:=ts }) (hf:st.eval xf=some (.clo f [])) (k7:dj (args.toList.map st.eval)=some as)
  (hk:as.all A.mk=true) (hx:as.any A.hasX=true) (hc:Wk P f as r):vB P o a w λv w'=>∃ g',vz E g st w (.t r) st v g' w':=by
 have hM:=hS.mem;obtain ⟨hsc,hcl,hcc⟩:=hc;have hvf:=bV hS hf;generalize hvv:a.eval xf=vf at hvf;obtain ⟨ha1,ha2⟩:=xM hS k7;have hsh:g.sh=true:=by
  obtain ⟨x,hxm,hxx⟩:=List.any_eq_true.1 hx;obtain ⟨i,hi⟩:=zZX hxm;have hlt:i < (args.toList.map a.eval).length:=by rw [<- ha1]; exact (List.getElem?_eq_some_iff.1 hi).1
  exact T4 (ha2 i x _ hi (sX hlt)) hxx
 cases hvf with
 | clo f caps vcaps hl hx' =>
  have:vcaps=[]:=r0 hl.symm;subst this;refine jf ho hvv hcl ?_;rw [zWQ];refine (hcc w g.D (args.toList.map a.eval) (λb hb=>?_) ha1.symm (λj x hj=>?_) (hM.tbW λb _ _ h h2=>h (by obtain ⟨h5,_,h6⟩:=hM.dep0.1; exact ⟨h6 ▸ hsh,h5 ▸ h2⟩))).mono λe w' ⟨v,he,hr,hcalm,hsame,hks⟩=>⟨v,he,?_⟩
  ·exact ⟨zQj (hM.dep b hb).2.1 hM.sizes,(hM.nowK hsh hb).wr⟩
  ·have hlt:j < (args.toList.map a.eval).length:=by rw [<- ha1]; exact (List.getElem?_eq_some_iff.1 hj).1
   exact ⟨_,sX hlt,VK hM hsh (ha2 j x _ hj (sX hlt)) (List.all_eq_true.1 hk x (zQY hj))⟩
  obtain ⟨hM2,hE2⟩:=hM.stepD hsh hcalm hsame hks;exact ⟨g,hM2,.t _ _ (hr.sc hsc),hE2,rfl⟩
def Wl(P:Program)(f:FuncId)(e sz:Nat)(rows:List (List T))(args:List V)(res:T)(rows':List (List T)):Prop :=
 res.sc=true/\sR P f/\∀ (w:World) (F:Nat->Prop) (v:Value) (vs:List Value) (inner:List Value),(∀ b,F b->b < w.heap.size)->w.ownsRow 0 e sz v rows.length inner->zq w F sz rows inner ->
  (∀ b,v.ownBlock=some b->¬ F b)->AF w F args vs []->K9 P w (λb=>v.ownBlock=some b) ->
  Calls P f (v :: vs).toArray w λex w'=>∃ u inner',ex=.returned u/\Rd w' L4 res u/\qD w w'/\(∀ b,b < w.heap.size->v.ownBlock≠some b->w'.heap[b]?=w.heap[b]?) /\
   w'.ownsRow 0 e sz v rows'.length inner'/\zq w' F sz rows' inner'
theorem N4{n f r e sz:Nat}{rows rows':List (List T)}{o:Oper}{xf:Operand}{args:Array Operand}{ts:Array TypeId}{as:List A}{vs:List V}{res:T}
  (hS:iM E g n st a w) (ho:o.op=.call { callee:=.value xf,args,argTypes:=ts }) (hf:st.eval xf=some (.clo f [])) (k7:dj (args.toList.map st.eval)=some (.own r :: as))
  (hrw:st.rw r=some (.live e sz rows)) (hp:(d7 as MA.ret).run st=some (vs,st)) (hpl:sS vs) (hc:Wl P f e sz rows vs res rows') :
  vB P o a w λv w'=>∃ g',vz E g st w (.t res) { st with rw:=eF st.rw r (some (.live e sz rows')) } v g' w':=by
 have hM:=hS.mem;obtain ⟨hsc,hcl,hcc⟩:=hc;have hvf:=bV hS hf;generalize hvv:a.eval xf=vf at hvf;obtain ⟨ha1,ha2⟩:=xM hS k7;have hL:st.L r:=⟨e,sz,rows,hrw⟩
 cases hvf with
 | clo f caps vcaps hl hx' =>
  have:vcaps=[]:=r0 hl.symm;subst this;refine jf ho hvv hcl ?_;rw [zWQ];generalize args.toList.map a.eval=us at ha1 ha2
  match us,ha1 with
  | u0 :: us,ha1 =>
   have h0:=ha2 0 (.own r) u0 rfl rfl
   cases h0 with
   | own _ hR =>
   obtain ⟨cs,h1,hVV⟩:=tP (vs:=us) as hM (by simpa using ha1.symm) (λj y hj=>by
    have hlt:j < us.length:=by
     have:=(List.getElem?_eq_some_iff.1 hj).1;simp at ha1; omega
    exact ⟨_,sX hlt,ha2 (j+1) y _ (by simpa using hj) (by simp)⟩) hp
   obtain ⟨rfl,_⟩:=eP h1;obtain ⟨inner,hown,hRC,_⟩:=(hM.row r _ hrw).rcs;refine (hcc w g.F (g.rw r) us inner (λb hb=>(hM.F b hb).1) hown hRC (λb hb=>(hM.row_nf hL hb).1) (hVV.plain hpl) (hM.tbW λb h1 h2 _ h3=>(hM.row_nf hL h3).2.elim (λh=>absurd h1 (Nat.not_lt.2 h)) h2)).mono λex w' ⟨u,inner',he,hu,hcalm,hsame,hown',hRC'⟩=>⟨u,he,?_⟩;obtain ⟨hM2,hE2⟩:=hM.set_row hcalm r _ e sz rows' hrw hL hsame (hRC'.rowAt (E:=E) (g:=g) hown' (λb hb=>hM.row_nf hL hb));exact ⟨g,hM2,.t _ _ (hu.sc hsc),hE2,rfl⟩
end
section
variable {P:Program} {E:En} [Tb P E] {g:Gh} {st st':St} {a:Act} {w:World}
def MN(P:Program)(f:FuncId)(args xs:List V)(res:V)(outs:List (List C)):Prop :=
 sR P f/\∀ (w:World) (F D:Nat->Prop) (vs us:List Value) (bs:List Nat),(∀ b,F b->b < w.heap.size)->(∀ b,D b->b < w.heap.size/\b∉bs)->AF w F args vs bs->AF w D xs us []->bs.Nodup->(∀ b∈bs,¬ F b)->K9 P w (λb=>b∈bs) ->
  Calls P f (vs++us).toArray w λe w'=>∃ v F' bv bo,e=.returned v/\qD w w'/\(∀ b,b < w.heap.size->b∉bs->w'.heap[b]?=w.heap[b]?)/\(∀ b,F b->F' b) /\
   (∀ b,F' b->b < w'.heap.size/\(b < w.heap.size->F b\/b∈bs)/\(F b\/Wr w' b))/\VV w' F' res v bv/\pa w' F' args vs outs bo/\(bv++bo).Nodup/\∀ b∈bv++bo,¬ F' b/\(w.heap.size<=b\/b∈bs)
theorem N5{n d f:Nat}{m:Bool}{p:Nat->Bool}{o:Oper}{xf:Operand}{args:Array Operand}{ts:Array TypeId}{az caps as xs:List A}{vs us:List V}{st1:St}{res:V}{outs:List (List C)}{x:A}
  (hS:iM E g n st a w) (ho:o.op=.call { callee:=.value xf,args,argTypes:=ts }) (hf:st.eval xf=some (.clo f caps)) (k7:dj (args.toList.map st.eval)=some az) (hcat:az++caps=as++xs)
  (hp:(i9 m p as MA.ret).run st=some (vs,st1)) (hq:(d7 xs MA.ret).run st1=some (us,st1)) (hc:MN P f vs us res outs) (hr:(du d (dH as) outs (V.toA d (fj d 0) res MA.ret)).run st1=some (x,st')) :
  vB P o a w λv w'=>∃ g',vz E g st w x st' v g' w':=by
 have hM:=hS.mem;obtain ⟨hcl,hcc⟩:=hc;have hvf:=bV hS hf;generalize hvv:a.eval xf=vf at hvf
 cases hvf with
 | clo f caps vcaps hl hx =>
  refine jf ho hvv hcl ?_;obtain ⟨ha1,ha2⟩:=xM hS k7;generalize hval:args.toList.map a.eval++vcaps=vals;have hv:∀ (j:Nat) (y:A),(as++xs)[j]?=some y->∃ u,vals[j]?=some u/\VR w g st.O st.R y u:=λj y hj=>by
   rw [<- hcat,zWq] at hj;rw [<- hval]
   split at hj
   ·rename_i hlt;have hlt':j < (args.toList.map a.eval).length:=by rw [<- ha1]; exact hlt
    exact ⟨_,by rw [zQQ hlt']; exact sX hlt',ha2 j y _ hj (sX hlt')⟩
   ·rename_i hge;have hlt:j - az.length < vcaps.length:=by rw [<- hl]; exact (List.getElem?_eq_some_iff.1 hj).1
    exact ⟨_,by rw [zQW (by rw [<- ha1]; omega),<- ha1]; exact sX hlt,hx _ y _ hj (sX hlt)⟩
  have hvl:vals.length=as.length+xs.length:=by
   rw [<- hval,zQV,<- ha1,<- hl,<- zQV,hcat,zQV]
  rw [<- zXK as.length vals];obtain ⟨cs,st1',g1,bs,hM1,hE1,hL1,h1,hVV,hT,hA,hsl⟩:=tN (vs:=vals.take as.length) as hM (by simp [hvl]) (λj y hj=>by
   have hlt:j < as.length:=(List.getElem?_eq_some_iff.1 hj).1;obtain ⟨u,h5,h6⟩:=hv j y (by rw [zQQ hlt]; exact hj);exact ⟨u,by rw [zQx,if_pos hlt]; exact h5,h6⟩) hp
  obtain ⟨rfl,rfl⟩:=eP h1;have hbsX:∀ b∈bs,b < E.w0.heap.size->E.X b:=λb hb hlt=>by
   rcases hT.of b hb with ⟨r,h2,_,h4⟩ | ⟨s,⟨c,cs,h2⟩,_,h4⟩
   ·rcases (hM.row_nf h2 h4).2 with h5 | h5
    ·omega
    ·exact h5
   ·rcases (hM.ob_nf (s:=s) (by simp [St.O,h2])).2 with h5 | h5
    ·omega
    ·exact h4 ▸ h5
  have hbsrow:∀ b∈bs,∀ r,st1.L r->(g1.rw r).ownBlock≠some b:=λb hb r hr he=>by
   rw [hL1.rw] at he;rcases hT.of b hb with ⟨r',h2,h3,h4⟩ | ⟨s,⟨c,cs,h2⟩,_,h4⟩
   ·exact h3 (hM.rowne r r' b (hL1.L r hr) h2 he h4 ▸ hr)
   ·exact hM.rowob r s (hL1.L r hr) (by simp [St.O,h2]) (h4 ▸ he)
  have hbsob:∀ b∈bs,∀ s,st1.O s->g1.ob s=b->st1.ob s=some []/\s∈dH as:=λb hb s hs he=>by
   rw [hL1.ob] at he;have hs':st.O s:=(hL1.O s).1 hs;rcases hT.of b hb with ⟨r',h2,h3,h4⟩ | ⟨s',⟨c,cs,h2⟩,h3,h4⟩
   ·exact absurd (he ▸ h4) (hM.rowob r' s h2 hs')
   ·have:=hM.obne s s' hs' (by simp [St.O,h2]) (he.trans h4.symm);subst this;exact ⟨h3,hsl s (by rw [h3,h2]; simp)⟩
  obtain ⟨us',h9,hUU⟩:=tP (vs:=vals.drop as.length) xs hM1 (by simp [hvl]) (λj y hj=>by
   obtain ⟨u,h5,h6⟩:=hv (as.length+j) y (by rw [zQW (by omega)]; simpa using hj);exact ⟨u,by rw [zQq]; exact h5,h6.mono hE1⟩) hq
  obtain ⟨rfl,_⟩:=eP h9;have hall:∀ b,g1.all st1 b->b < w.heap.size/\b∉bs:=λb hb=>⟨hM1.all_lt hb,λhbs=>by
   rcases hb with h5 | ⟨r,h5,h6⟩ | ⟨_,h5⟩
   ·exact hT.nf b hbs h5
   ·exact hbsrow b hbs r h5 h6
   ·obtain ⟨_,h6,h7,_⟩:=hM1.dep b h5;exact h7 (hbsX b hbs h6)⟩
  refine (hcc w g1.F (g1.all st1) _ _ bs (λb hb=>(hM1.F b hb).1) hall hVV hUU hT.nodup hT.nf (hM.tbW λb h1 h2 _ h3=>h2 (hbsX b h3 h1))).mono λe w' ⟨v,F',bv,bo,he,hcalm,hsame,hFF,hF',hvr,hO,hnd,hex⟩=>⟨v,he,?_⟩
  -- the caller's memory behind the call
  have hF0:∀ b,b < w.heap.size->F' b->g1.F b\/b∈bs:=λb h2 h3=>(hF' b h3).2.1 h2;have hA1:pc g1 as vs (vals.take as.length):=hA.congr' hL1.ob;have hexF:∀ b∈bs,F' b->False\/True:=λ_ _ _=>.inr trivial;have hlentF:∀ s,s∈dH as->g1.ob s∈bo:=pa.mem hA1 hO;obtain ⟨hM2,hE2⟩:=hM1.step (w':=w') (g':={ g1 with F:=F' }) (st':=st1) hcalm (λb=>b∈bs) (λb h2 h3=>hsame b h2 h3) (λb hb=>hT.nf b hb) (λb h2 h3=>hbsX b h3 h2) hFF
   (λb h2 h3=>⟨(hF' b h2).1,λhlt=>(hF0 b (zQj hlt hM1.sizes) h2).elim (λh4=>absurd h4 h3) (λh4=>.inr (hbsX b h4 hlt)),.inr ((hF' b h2).2.2.resolve_left h3)⟩) (λ_ h=>⟨h,rfl⟩) (λ_ h=>⟨h,rfl⟩)
   (λs cells hs=>by
    have hOs:st1.O s:=by simp [St.O,hs]
    by_cases hb:g1.ob s∈bs
    ·obtain ⟨h5,h6⟩:=hbsob _ hb s hOs rfl;rw [hs] at h5
     cases h5
     obtain ⟨arr,e,hh⟩:=BF hA1 hO s h6;refine .inr ⟨arr,e,hh,by simp,by simp,?_,(hM1.ob_nf hOs).2⟩;exact (hex _ (List.mem_append.2 (.inr (hlentF s h6)))).1
    ·refine .inl ⟨hs,hb,λhf=>?_⟩;rcases hF0 _ (hM1.ob_lt hOs) hf with h5 | h5
     ·exact (hM1.ob_nf hOs).1 h5
     ·exact hb h5) hM1.obne
   (λr x hr=>.inl ⟨hr,λhL b hb=>⟨λhm=>hbsrow b hm r hL hb,λhf=>by
    rcases hF0 b (hM1.row_lt hL hb) hf with h5 | h5
    ·exact (hM1.row_nf hL hb).1 h5
    ·exact hbsrow b h5 r hL hb⟩⟩) hM1.rowne hM1.rowob
  have hI:Inv E { g1 with F:=F' } st1 (dH as) (bo++bv):=by
   have hm:∀ x,x∈bo++bv->x∈bv++bo:=λx hx=>by
    rcases List.mem_append.1 hx with h | h <;> simp [h]
   refine ⟨?_,λb hb=>(hex b (hm b hb)).1,λb hb=>?_,λb hb r hr he=>?_,λb hb s hs he=>?_⟩
   ·rw [zXw] at hnd ⊢;exact ⟨hnd.2.1,hnd.1,λx hx y hy h=>hnd.2.2 y hy x hx h.symm⟩
   ·rcases (hex b (hm b hb)).2 with h5 | h5
    ·exact .inl (zWx hM1.sizes h5)
    ·by_cases hlt:b < E.w0.heap.size
     ·exact .inr (hbsX b h5 hlt)
     ·exact .inl (by omega)
   ·rcases (hex b (hm b hb)).2 with h5 | h5
    ·exact absurd (hM1.row_lt hr he) (by omega)
    ·exact hbsrow b h5 r hr he
   ·rcases (hex b (hm b hb)).2 with h5 | h5
    ·exact absurd (hM1.ob_lt hs) (by have:g1.ob s=b:=he; omega)
    ·exact (hbsob b h5 s hs he).2
  have hA2:pc { g1 with F:=F' } as vs (vals.take as.length):=hA1.congr' (g:=g1) (g1:={ g1 with F:=F' }) rfl;obtain ⟨st2,g2,hM3,hE3,hF3,ht3,h6,hI3⟩:=pT (w:=w') hM2 hA2 hO hI hr;obtain ⟨x',st3,g3,hG,h7,hvx⟩:=tO (w:=w') res hM3 (by rw [hF3]; exact hvr) hI3.nodup (λb hb=>⟨hI3.F b hb,λs hs he=>by have:=hI3.ob b hb s hs he; simp at this,hI3.row b hb,hI3.X b hb⟩) h6;obtain ⟨rfl,rfl⟩:=eP h7;exact ⟨g3,hG.mem,hvx,((hE1.trans hE2).trans hE3).trans hG.ext,hG.tm.trans (ht3.trans hL1.tm)⟩
end
def A.tC:A->Option C
 | .t x=>some (.t x)
 | _=>none
def QU:List A->Option (List C)
 | []=>some []
 | a :: r=>match a.tC,QU r with | some c,some cs=>some (c :: cs) | _,_=>none
def A.tV:A->Option V
 | .t x=>some (.one (.t x))
 | .agg l=>(QU l).map .agg
 | _=>none
def N6:List A->Option (List V)
 | []=>some []
 | a :: r=>match a.tV,N6 r with | some c,some cs=>some (c :: cs) | _,_=>none
section
variable {w:World} {g:Gh} {O R:Nat->Prop}
theorem VL{a:A}{c:C}{u:Value}(h:a.tC=some c)(hv:VR w g O R a u):CV w g.F c u []:=by
 cases a <;> simp only [A.tC,Option.some.injEq,reduceCtorEq] at h
 subst h
 cases hv with
 | t _ _ h=>exact .t _ _ h
theorem SL:∀ {l:List A} {cs:List C} {us:List Value},QU l=some cs->l.length=us.length->(∀ (j:Nat) (x:A) (u:Value),l[j]?=some x->us[j]?=some u->VR w g O R x u)->IK w g.F cs us []
 | [],cs,us,h,hl,_=>by
  cases h
  have:us=[]:=r0 hl.symm;subst this;exact .nil
 | a :: l,cs,us,h,hl,hv=>by
  unfold QU at h
  split at h
  ·rename_i c cs' h1 h2
   cases h
   cases us with
   | nil=>simp at hl
   | cons u us =>
    exact .cons c u [] cs' us [] (VL h1 (hv 0 a u rfl rfl)) (SL h2 (by simpa using hl) λj x u h3 h4=>hv (j+1) x u (by simpa using h3) (by simpa using h4))
  ·cases h
theorem VM{a:A}{c:V}{u:Value}(h:a.tV=some c)(hv:VR w g O R a u):VV w g.F c u []:=by
 cases a <;> simp only [A.tV,Option.some.injEq,zWj,reduceCtorEq] at h
 ·subst h
  cases hv with
  | t _ _ h=>exact .one _ _ [] (.t _ _ h)
 ·obtain ⟨cs,h1,rfl⟩:=h
  cases hv with
  | agg l vs hl hx=>exact .agg cs vs [] (SL h1 hl hx)
theorem SM:∀ {l:List A} {cs:List V} {us:List Value},N6 l=some cs->l.length=us.length->(∀ (j:Nat) (x:A) (u:Value),l[j]?=some x->us[j]?=some u->VR w g O R x u)->AF w g.F cs us []
 | [],cs,us,h,hl,_=>by
  cases h
  have:us=[]:=r0 hl.symm;subst this;exact .nil
 | a :: l,cs,us,h,hl,hv=>by
  unfold N6 at h
  split at h
  ·rename_i c cs' h1 h2
   cases h
   cases us with
   | nil=>simp at hl
   | cons u us =>
    exact .cons c u [] cs' us [] (VM h1 (hv 0 a u rfl rfl)) (SM h2 (by simpa using hl) λj x u h3 h4=>hv (j+1) x u (by simpa using h3) (by simpa using h4))
  ·cases h
end
section
variable {P:Program} {E:En} [Tb P E] {g:Gh} {st st':St} {a:Act} {w:World}
def UW(P:Program)(f:FuncId)(e:TypeId)(ts:List T)(rows:List (List T))(args:List V)(lo m:Nat):Prop :=
 sR P f/\∀ (w:World) (F:Nat->Prop) (v:Value) (us vs inner:List Value),(∀ b,F b->b < w.heap.size)->w.ownsRow 0 e 1 v rows.length inner->zq w F 1 rows inner->(∀ b,v.ownBlock=some b->¬ F b) ->
  us.length=ts.length->(∀ (j:Nat) (x:T) (u:Value),ts[j]?=some x->us[j]?=some u->Rd w F x u)->AF w F args vs []->K9 P w (λb=>v.ownBlock=some b) ->
  Calls P f (Value.agg (us++[v]).toArray :: vs).toArray w λex w'=>∃ ad n c a' c' inner',v=.slice ad n c/\ex=.returned (.slice a' m c')/\lo+m<=n/\(0 < m->∃ b,ad=some ⟨b,0,none⟩/\a'=some ⟨b,lo,none⟩)/\qD w w' /\
   (∀ b,b < w.heap.size->v.ownBlock≠some b->w'.heap[b]?=w.heap[b]?)/\w'.ownsRow 0 e 1 v rows.length inner'/\zq w' F 1 rows inner'
theorem N7{n f r e lo m:Nat}{ts:List T}{rows:List (List T)}{o:Oper}{xf:Operand}{args:Array Operand}{tys:Array TypeId}{as:List A}{vs:List V}
  (hS:iM E g n st a w) (ho:o.op=.call { callee:=.value xf,args,argTypes:=tys }) (hf:st.eval xf=some (.clo f [])) (k7:dj (args.toList.map st.eval)=some (.agg (ts.map A.t++[.own r]) :: as))
  (hrw:st.rw r=some (.live e 1 rows)) (hp:N6 as=some vs) (hc:UW P f e ts rows vs lo m) :
  vB P o a w λv w'=>∃ g',vz E g st w (.win r lo m) st v g' w':=by
 have hM:=hS.mem;obtain ⟨hcl,hcc⟩:=hc;have hvf:=bV hS hf;generalize hvv:a.eval xf=vf at hvf;obtain ⟨ha1,ha2⟩:=xM hS k7;have hL:st.L r:=⟨e,1,rows,hrw⟩
 cases hvf with
 | clo f caps vcaps hl hx' =>
  have:vcaps=[]:=r0 hl.symm;subst this;refine jf ho hvv hcl ?_;rw [zWQ];generalize args.toList.map a.eval=us at ha1 ha2
  match us,ha1 with
  | u0 :: us,ha1 =>
   have h0:=ha2 0 _ u0 rfl rfl
   cases h0 with
   | agg _ cells hcl hcx =>
    have hlen:cells.length=ts.length+1:=by rw [<- hcl]; simp
    obtain ⟨us0,v,hcells,hus⟩:∃ us0 v,cells=us0++[v]/\us0.length=ts.length:=⟨cells.take ts.length,cells[ts.length]'(by omega),by
     rw [show [cells[ts.length]'(by omega)]=cells.drop ts.length by rw [zXy (by omega)]; simp [List.drop_eq_nil_of_le (show cells.length<=ts.length+1 by omega)],zXK],by simp; omega⟩
    subst hcells;have hv:=hcx ts.length (.own r) v (by simp) (by rw [<- hus]; simp)
    cases hv with
    | own _ hR =>
    have hVV:AF w g.F vs us []:=SM hp (by simpa using ha1) λj x u h3 h4=>ha2 (j+1) x u (by simpa using h3) (by simpa using h4);have hts:∀ (j:Nat) (x:T) (u:Value),ts[j]?=some x->us0[j]?=some u->Rd w g.F x u:=λj x u h3 h4=>by
     have hlt:j < ts.length:=(List.getElem?_eq_some_iff.1 h3).1;have:=hcx j (.t x) u (by rw [zQQ (by simpa using hlt)]; simp [h3]) (by rw [zQQ (by omega)]; exact h4)
     cases this with
     | t _ _ h=>exact h
    obtain ⟨inner,hown,hRC,_⟩:=(hM.row r _ hrw).rcs;refine (hcc w g.F (g.rw r) us0 us inner (λb hb=>(hM.F b hb).1) hown hRC (λb hb=>(hM.row_nf hL hb).1) hus hts hVV (hM.tbW λb h1 h2 _ h3=>(hM.row_nf hL h3).2.elim (λh=>absurd h1 (Nat.not_lt.2 h)) h2)).mono λex w' ⟨ad,n',c,a',c',inner',hv,he,hm,hpp,hcalm,hsame,hown',hRC'⟩=>⟨_,he,?_⟩;obtain ⟨hM2,hE2⟩:=hM.set_row hcalm r _ e 1 rows hrw hL hsame (hRC'.rowAt (E:=E) (g:=g) hown' (λb hb=>hM.row_nf hL hb));rw [IJ hrw] at hM2 hE2;exact ⟨g,hM2,.win r lo m n' c c' ad a' hR hv hm hpp,hE2,rfl⟩
end
end Go.Tm
namespace Go.Tm
open Go.RowKit
structure PJ where
 oR:Nat->Prop
 oW:Nat->Prop
 rR:Nat->Prop
 rW:Nat->Prop
def MA.In{α:Type}(D:PJ):MA α->Prop
 | .ret _=>True
 | .fail=>True
 | .getOb s k=>D.oR s/\∀ x,(k x).In D
 | .getRw r k=>D.rR r/\∀ x,(k x).In D
 | .setOb s _ k=>D.oW s/\k.In D
 | .setRw r _ k=>D.rW r/\k.In D
structure PA (D:PJ) (st st':St):Prop where
 tm:st'.tm=st.tm
 ob:∀ s,¬ D.oW s->st'.ob s=st.ob s
 rw:∀ r,¬ D.rW r->st'.rw r=st.rw r
structure On (D:PJ) (st st':St):Prop where
 ob:∀ s,D.oR s->st'.ob s=st.ob s
 rw:∀ r,D.rR r->st'.rw r=st.rw r
structure PJ.ok (D:PJ):Prop where
 ob:∀ s,D.oW s->D.oR s
 rw:∀ s,D.rW s->D.rR s
theorem PA.refl(D:PJ)(st:St):PA D st st:=⟨rfl,λ_ _=>rfl,λ_ _=>rfl⟩
theorem PA.trans{D:PJ}{a b c:St}(h:PA D a b)(h':PA D b c):PA D a c :=
 ⟨h'.tm.trans h.tm,λs hs=>(h'.ob s hs).trans (h.ob s hs),λs hs=>(h'.rw s hs).trans (h.rw s hs)⟩
theorem PK{α:Type}{f g:Nat->α}{k j:Nat}{c:α}(h:f j=g j):eF f k c j=eF g k c j:=by
 simp only [eF,h]
theorem mZ{α:Type}{D:PJ}:∀ (m:MA α) {st st':St} {x:α},m.In D->m.run st=some (x,st') ->
  PA D st st'/\∀ st2,On D st st2->∃ st2',m.run st2=some (x,st2')/\PA D st2 st2'/\On D st' st2'
 | .ret v,st,st',x,_,h=>by
  obtain ⟨rfl,rfl⟩:=eP h;exact ⟨PA.refl _ _,λst2 h2=>⟨st2,rfl,PA.refl _ _,h2⟩⟩
 | .fail,st,st',x,_,h=>(aL h).elim
 | .getOb s k,st,st',x,hi,h=>by
  obtain ⟨h1,h2⟩:=mZ (k (st.ob s)) (hi.2 _) h;refine ⟨h1,λst2 ho=>?_⟩;simp only [MA.run,ho.ob s hi.1];exact h2 st2 ho
 | .getRw s k,st,st',x,hi,h=>by
  obtain ⟨h1,h2⟩:=mZ (k (st.rw s)) (hi.2 _) h;refine ⟨h1,λst2 ho=>?_⟩;simp only [MA.run,ho.rw s hi.1];exact h2 st2 ho
 | .setOb s c k,st,st',x,hi,h=>by
  simp only [MA.run] at h;obtain ⟨h1,h2⟩:=mZ k hi.2 h;refine ⟨⟨h1.tm,λs' hs'=>?_,h1.rw⟩,λst2 ho=>?_⟩
  ·rw [h1.ob s' hs'];exact cg _ _ _ _ (λhe=>hs' (he ▸ hi.1))
  ·obtain ⟨st2',h3,h4,h5⟩:=h2 { st2 with ob:=eF st2.ob s (some c) } ⟨λs' hs'=>PK (ho.ob s' hs'),ho.rw⟩;refine ⟨st2',h3,⟨h4.tm,λs' hs'=>?_,h4.rw⟩,h5⟩;rw [h4.ob s' hs'];exact cg _ _ _ _ (λhe=>hs' (he ▸ hi.1))
 | .setRw s c k,st,st',x,hi,h=>by
  simp only [MA.run] at h;obtain ⟨h1,h2⟩:=mZ k hi.2 h;refine ⟨⟨h1.tm,h1.ob,λs' hs'=>?_⟩,λst2 ho=>?_⟩
  ·rw [h1.rw s' hs'];exact cg _ _ _ _ (λhe=>hs' (he ▸ hi.1))
  ·obtain ⟨st2',h3,h4,h5⟩:=h2 { st2 with rw:=eF st2.rw s (some c) } ⟨ho.ob,λs' hs'=>PK (ho.rw s' hs')⟩;refine ⟨st2',h3,⟨h4.tm,h4.ob,λs' hs'=>?_⟩,h5⟩;rw [h4.rw s' hs'];exact cg _ _ _ _ (λhe=>hs' (he ▸ hi.1))
mutual
def A.inR(Q:Nat->Prop):A->Prop
 | .own r=>Q r
 | .elem r _ _ _=>Q r
 | .sub r _ _=>Q r
 | .win r _ _=>Q r
 | .agg l=>eV Q l
 | .tup l=>eV Q l
 | .clo _ l=>eV Q l
 | _=>True
def eV(Q:Nat->Prop):List A->Prop
 | []=>True
 | a :: r=>a.inR Q/\eV Q r
end
mutual
theorem BG{Q:Nat->Prop}(h:∀ r,Q r):∀ a:A,a.inR Q
 | .own r=>by unfold A.inR; exact h r
 | .elem r _ _ _=>by unfold A.inR; exact h r
 | .sub r _ _=>by unfold A.inR; exact h r
 | .win r _ _=>by unfold A.inR; exact h r
 | .agg l=>by unfold A.inR; exact pe h l
 | .tup l=>by unfold A.inR; exact pe h l
 | .clo _ l=>by unfold A.inR; exact pe h l
 | .t _ | .nil | .obj _ _ | .fadr _ | .nn _ _ | .undef | .raw _ | .osl _ _ _ _ | .ext _ _ | .exa _ _ | .shp _=>by unfold A.inR; trivial
theorem pe{Q:Nat->Prop}(h:∀ r,Q r):∀ l:List A,eV Q l
 | []=>by unfold eV; trivial
 | a :: r=>by unfold eV; exact ⟨BG h a,pe h r⟩
end
theorem Ji{Q:Nat->Prop}:∀ {l:List A},eV Q l->∀ a∈l,a.inR Q
 | [],_,a,h=>by simp at h
 | x :: l,hl,a,h=>by
  unfold eV at hl;rcases List.mem_cons.1 h with rfl | h
  ·exact hl.1
  ·exact Ji hl.2 a h
theorem pU{Q:Nat->Prop}:∀ {l:List A},(∀ a∈l,a.inR Q)->eV Q l
 | [],_=>by unfold eV; trivial
 | x :: l,h=>by unfold eV; exact ⟨h x (by simp),pU (λa ha=>h a (by simp [ha]))⟩
theorem zx{Q:Nat->Prop}{a:A}(h:a.inR Q):eV Q a.cells:=by
 cases a <;> simp only [A.cells] <;> first | (unfold A.inR at h; exact h) | (unfold eV; exact ⟨h,by unfold eV; trivial⟩)
section
variable {D:PJ} {α:Type}
theorem PL{a:A}{k:T->MA α}(ha:a.inR λr=>D.rR r/\D.rW r)(hk:∀ x,(k x).In D):(a.toT k).In D:=by
 cases a <;> simp only [A.toT,MA.In] <;> first | exact hk _ | trivial | skip
 unfold A.inR at ha;refine ⟨ha.1,λx=>?_⟩;rcases x with _ | (_ | _ | _) <;> simp only [MA.In] <;> first | exact hk _ | exact ⟨ha.2,hk _⟩
theorem BH:∀ {l:List A} {k:List T->MA α},eV (λr=>D.rR r/\D.rW r) l->(∀ x,(k x).In D)->(A.toTs l k).In D
 | [],k,_,hk=>hk []
 | a :: l,k,hl,hk=>by
  unfold eV at hl;exact PL hl.1 λx=>BH hl.2 λxs=>hk _
theorem D1{Q:Nat->Prop}{lb:List Nat}{l:List A}(h:eV Q l):eV Q (li lb l) :=
 pU λa ha=>by
  obtain ⟨j,hj⟩:=zZX ha;obtain ⟨y,h1,h2⟩:=FJ lb l j a hj;rcases h2 with rfl | ⟨_,n,rfl⟩
  ·exact Ji h _ (zQY h1)
  ·unfold A.inR; trivial
theorem N8{lb:List Nat}{sz:Nat}:∀ {ps:List (Nat×A)} {rows:List (List T)} {k:List (List T)->MA α},(∀ q∈ps,q.2.inR λr=>D.rR r/\D.rW r)->(∀ x,(k x).In D)->(I6 lb sz rows ps k).In D
 | [],rows,k,_,hk=>hk _
 | (i,x) :: r,rows,k,hl,hk=>by
  unfold I6
  split
  ·exact BH (D1 (zx (hl (i,x) (by simp)))) λts=>N8 (λq hq=>hl q (by simp [hq])) hk
  ·trivial
theorem D2{a:A}{k:Nat->List (List T)->MA α}(ha:a.inR D.rR)(hk:∀ n x,(k n x).In D):(a.rows k).In D:=by
 unfold A.rows
 split <;> first | exact hk _ _ | trivial | skip
 ·split <;> first | exact hk _ _ | trivial
 ·unfold A.inR at ha;refine ⟨ha,λx=>?_⟩;rcases x with _ | (_ | _ | _) <;> first | exact hk _ _ | trivial
theorem D3{r e sz:Nat}{rows:List (List T)}(h:D.rR r/\D.rW r):(vj r e sz rows).In D:=by
 refine ⟨h.1,λx=>?_⟩
 cases x <;> first | exact ⟨h.2,trivial⟩ | trivial
theorem QV{d:Nat}{cells:List A}(h:D.oR d/\D.oW d):(NM d cells).In D:=by
 refine ⟨h.1,λx=>?_⟩
 cases x <;> simp only
 ·split <;> first | exact ⟨h.2,trivial⟩ | trivial
 ·trivial
theorem rx{m:Bool}{a:A}{k:C->MA α}(ha:a.inR λr=>D.rR r/\D.rW r)(hk:∀ x,(k x).In D):(a.toC m k).In D:=by
 unfold A.toC
 split
 ·unfold A.inR at ha;refine ⟨ha.1,λx=>?_⟩;rcases x with _ | (_ | _ | _) <;> first | exact hk _ | exact ⟨ha.2,hk _⟩ | trivial
 ·exact hk _
 ·exact PL ha λx=>hk _
theorem MO{m:Bool}:∀ {l:List A} {k:List C->MA α},eV (λr=>D.rR r/\D.rW r) l->(∀ x,(k x).In D)->(CM m l k).In D
 | [],k,_,hk=>hk []
 | a :: l,k,hl,hk=>by
  unfold eV at hl;exact rx hl.1 λx=>MO hl.2 λxs=>hk _
mutual
theorem SN{m:Bool}:∀ {a:A} {k:V->MA α},a.inR (λr=>D.rR r/\D.rW r)->(∀ x,(k x).In D)->(oC m a k).In D
 | .agg l,k,ha,hk=>by unfold A.inR at ha; unfold oC; exact MO ha λ_=>hk _
 | .fadr l,k,ha,hk=>by unfold oC; exact hk _
 | .clo f l,k,ha,hk=>by unfold A.inR at ha; unfold oC; exact MP ha λ_=>hk _
 | .tup l,k,ha,hk=>by unfold A.inR at ha; unfold oC; exact MP ha λ_=>hk _
 | .t x,k,ha,hk=>by unfold oC; exact rx ha λ_=>hk _
 | .nn _ _,k,ha,hk=>by unfold oC; exact rx ha λ_=>hk _
 | .nil,k,ha,hk=>by unfold oC; exact rx ha λ_=>hk _
 | .own x,k,ha,hk=>by unfold oC; exact rx ha λ_=>hk _
 | .obj _ _,k,ha,hk=>by unfold oC; exact rx ha λ_=>hk _
 | .elem _ _ _ _,k,ha,hk=>by unfold oC; exact rx ha λ_=>hk _
 | .win _ _ _,k,ha,hk=>by unfold oC; exact rx ha λ_=>hk _
 | .sub _ _ _,k,ha,hk=>by unfold oC; exact rx ha λ_=>hk _
 | .undef,k,ha,hk=>by unfold oC; exact rx ha λ_=>hk _
 | .raw _,k,ha,hk=>by unfold oC; exact rx ha λ_=>hk _
 | .osl _ _ _ _,k,ha,hk=>by unfold oC; exact rx ha λ_=>hk _
 | .ext _ _,k,ha,hk=>by unfold oC; exact rx ha λ_=>hk _
 | .exa _ _,k,ha,hk=>by unfold oC; exact rx ha λ_=>hk _
 | .shp _,k,ha,hk=>by unfold oC; exact rx ha λ_=>hk _
theorem MP{m:Bool}:∀ {l:List A} {k:List V->MA α},eV (λr=>D.rR r/\D.rW r) l->(∀ x,(k x).In D)->(zr m l k).In D
 | [],k,_,hk=>by unfold zr; exact hk _
 | a :: l,k,hl,hk=>by unfold eV at hl; unfold zr; exact SN hl.1 λx=>MP hl.2 λxs=>hk _
end
theorem RD{s:Nat}{k:List C->MA α}(ho:D.oR s/\D.oW s)(ha:∀ r,D.rR r/\D.rW r)(hk:∀ x,(k x).In D):(AR s k).In D:=by
 refine ⟨ho.1,λx=>?_⟩;rcases x with _ | (_ | ⟨c,cells⟩) <;> simp only <;> first | exact MO (pe ha _) λx=>⟨ho.2,hk _⟩ | trivial
theorem PM{s:Nat}{k:List C->MA α}(ho:D.oR s/\D.oW s)(hk:∀ x,(k x).In D):(DY s k).In D:=by
 refine ⟨ho.1,λx=>?_⟩;rcases x with _ | (_ | ⟨c,cells⟩) <;> simp only <;> first | trivial | skip
 split <;> first | exact ⟨ho.2,hk _⟩ | trivial
def A.argIn(D:PJ)(p:Nat->Bool):A->Prop
 | .obj s 0=>(D.oR s/\D.oW s)/\(p s=false->∀ r,D.rR r/\D.rW r)
 | a=>a.inR λr=>D.rR r/\D.rW r
theorem D4{m:Bool}{p:Nat->Bool}:∀ {l:List A} {k:List V->MA α},(∀ a∈l,a.argIn D p)->(∀ x,(k x).In D)->(i9 m p l k).In D
 | [],k,_,hk=>by unfold i9; exact hk _
 | a :: l,k,hl,hk=>by
  have h0:=hl a (by simp);have ih:∀ {k:List V->MA α},(∀ x,(k x).In D)->(i9 m p l k).In D:=λh=>D4 (λa ha=>hl a (by simp [ha])) h;unfold i9
  split
  ·rename_i heq; cases heq
  ·rename_i heq;injection heq with h1 h2
   subst h1 h2;unfold A.argIn at h0
   split
   ·exact PM h0.1 λx=>ih λ_=>hk _
   ·rename_i hp;exact RD h0.1 (h0.2 (by simpa using hp)) λx=>ih λ_=>hk _
  ·rename_i hna heq;injection heq with h1 h2
   subst h1 h2;refine SN ?_ λx=>ih λ_=>hk _;unfold A.argIn at h0
   split at h0
   ·exact absurd rfl (hna _)
   ·exact h0
theorem jX{a:A}{k:T->MA α}(ha:a.inR D.rR)(hk:∀ x,(k x).In D):(a.peekT k).In D:=by
 unfold A.peekT
 split <;> first | exact hk _ | trivial | skip
 unfold A.inR at ha;refine ⟨ha,λx=>?_⟩;rcases x with _ | (_ | _ | _) <;> first | exact hk _ | trivial
theorem L5:∀ {l:List A} {k:List T->MA α},eV D.rR l->(∀ x,(k x).In D)->(DZ l k).In D
 | [],k,_,hk=>hk []
 | a :: l,k,hl,hk=>by
  unfold eV at hl;exact jX hl.1 λx=>L5 hl.2 λxs=>hk _
mutual
theorem SO:∀ {a:A} {k:V->MA α},a.inR D.rR->(∀ x,(k x).In D)->(iK a k).In D
 | .agg l,k,ha,hk=>by unfold A.inR at ha; unfold iK; exact L5 ha λ_=>hk _
 | .fadr l,k,ha,hk=>by unfold iK; exact hk _
 | .clo f l,k,ha,hk=>by unfold A.inR at ha; unfold iK; exact pV ha λ_=>hk _
 | .tup l,k,ha,hk=>by unfold iK; exact jX ha λ_=>hk _
 | .t x,k,ha,hk=>by unfold iK; exact jX ha λ_=>hk _
 | .nn _ _,k,ha,hk=>by unfold iK; exact jX ha λ_=>hk _
 | .nil,k,ha,hk=>by unfold iK; exact jX ha λ_=>hk _
 | .own x,k,ha,hk=>by unfold iK; exact jX ha λ_=>hk _
 | .obj _ _,k,ha,hk=>by unfold iK; exact jX ha λ_=>hk _
 | .elem _ _ _ _,k,ha,hk=>by unfold iK; exact jX ha λ_=>hk _
 | .win _ _ _,k,ha,hk=>by unfold iK; exact jX ha λ_=>hk _
 | .sub _ _ _,k,ha,hk=>by unfold iK; exact jX ha λ_=>hk _
 | .undef,k,ha,hk=>by unfold iK; exact jX ha λ_=>hk _
 | .raw _,k,ha,hk=>by unfold iK; exact jX ha λ_=>hk _
 | .osl _ _ _ _,k,ha,hk=>by unfold iK; exact jX ha λ_=>hk _
 | .ext _ _,k,ha,hk=>by unfold iK; exact jX ha λ_=>hk _
 | .exa _ _,k,ha,hk=>by unfold iK; exact jX ha λ_=>hk _
 | .shp _,k,ha,hk=>by unfold iK; exact jX ha λ_=>hk _
theorem pV:∀ {l:List A} {k:List V->MA α},eV D.rR l->(∀ x,(k x).In D)->(d7 l k).In D
 | [],k,_,hk=>by unfold d7; exact hk _
 | a :: l,k,hl,hk=>by unfold eV at hl; unfold d7; exact SO hl.1 λx=>pV hl.2 λxs=>hk _
end
variable {d:Nat}
theorem SP{id:Nat}{c:C}{k:A->MA α}(hd:∀ r,r / 65536=d->D.rR r/\D.rW r)(hk:∀ x,(k x).In D):(c.toA d id k).In D:=by
 cases c <;> simp only [C.toA] <;> first | exact hk _ | skip
 split
 ·rename_i h;refine ⟨(hd _ h).1,λx=>?_⟩
  cases x <;> first | exact ⟨(hd _ h).2,hk _⟩ | trivial
 ·trivial
theorem IL(hd:∀ r,r / 65536=d->D.rR r/\D.rW r):∀ {l:List C} {id:Nat} {k:List A->MA α},(∀ x,(k x).In D)->(FL d id l k).In D
 | [],id,k,hk=>hk []
 | a :: l,id,k,hk=>SP hd λx=>IL hd λxs=>hk _
mutual
theorem D5(hd:∀ r,r / 65536=d->D.rR r/\D.rW r)(ho:D.oR d/\D.oW d):∀ {v:V} {id:Nat} {k:A->MA α},(∀ x,(k x).In D)->(V.toA d id v k).In D
 | .one c,id,k,hk=>by unfold V.toA; exact SP hd hk
 | .agg l,id,k,hk=>by unfold V.toA; exact IL hd λ_=>hk _
 | .tup l,id,k,hk=>by unfold V.toA; exact Jj hd ho λ_=>hk _
 | .ptr l,id,k,hk=>by
  unfold V.toA;refine IL hd λ_=>⟨ho.1,λx=>?_⟩
  cases x <;> first | exact ⟨ho.2,hk _⟩ | trivial
 | .fptr l,id,k,hk=>by unfold V.toA; exact hk _
 | .clo f l,id,k,hk=>by unfold V.toA; exact Jj hd ho λ_=>hk _
theorem Jj(hd:∀ r,r / 65536=d->D.rR r/\D.rW r)(ho:D.oR d/\D.oW d):∀ {l:List V} {id:Nat} {k:List A->MA α},(∀ x,(k x).In D)->(zt d id l k).In D
 | [],id,k,hk=>by unfold zt; exact hk _
 | a :: l,id,k,hk=>by unfold zt; exact D5 hd ho λx=>Jj hd ho λxs=>hk _
end
theorem xe(hd:∀ r,r / 65536=d->D.rR r/\D.rW r):∀ {ss:List Nat} {os:List (List C)} {k:MA α},(∀ s∈ss,D.oR s/\D.oW s)->k.In D->(du d ss os k).In D
 | [],[],k,_,hk=>hk
 | s :: ss,c :: cs,k,hs,hk=>by
  unfold du;refine IL hd λx=>⟨(hs s (by simp)).1,λy=>?_⟩
  cases y <;> first | exact ⟨(hs s (by simp)).2,xe hd (λs h=>hs s (by simp [h])) hk⟩ | trivial
 | [],_ :: _,k,_,hk=>trivial
 | _ :: _,[],k,_,hk=>trivial
theorem AS{p:Nat->Bool}:∀ {l:List A},(∀ a∈l,a.argIn D p)->∀ s∈dH l,D.oR s/\D.oW s
 | [],_,s,h=>by simp [dH] at h
 | a :: l,hl,s,h=>by
  have h0:=hl a (by simp);unfold dH at h
  split at h
  ·rename_i heq; cases heq
  ·rename_i heq;injection heq with h1 h2
   subst h1 h2;rcases List.mem_cons.1 h with rfl | h
   ·exact h0.1
   ·exact AS (λa ha=>hl a (by simp [ha])) s h
  ·rename_i heq;injection heq with h1 h2
   subst h1 h2;exact AS (λa ha=>hl a (by simp [ha])) s h
end
end Go.Tm
namespace Go.Tm
open Go.RowKit
def k7(l:Option (List Nat))(k:Nat):Prop:=match l with | none=>True | some l=>k∈l
def Dq(a b:Option (List Nat)):Option (List Nat):=match a,b with | some a,some b=>some (a++b) | _,_=>none
def B2:List (Option (List Nat))->Option (List Nat)
 | []=>some []
 | a :: r=>Dq a (B2 r)
theorem mA{a b:Option (List Nat)}{k:Nat}:k7 (Dq a b) k↔k7 a k\/k7 b k:=by
 cases a <;> cases b <;> simp [Dq,k7]
theorem Jk{l:List (Option (List Nat))}{k:Nat}:∀ {x},x∈l->k7 x k->k7 (B2 l) k:=by
 induction l with
 | nil=>intro x h; simp at h
 | cons y l ih =>
  intro x h hx;unfold B2;rcases List.mem_cons.1 h with rfl | h
  ·exact mA.2 (.inl hx)
  ·exact mA.2 (.inr (ih h hx))
def dZ.rows:dZ->Option (List Nat)
 | .frz | .obj _=>some []
 | .own d=>some [d]
 | .el d=>some [d]
 | .win d=>some [d]
 | _=>none
def dZ.objs:dZ->Option (List Nat)
 | .obj s=>some [s]
 | .any=>none
 | _=>some []
def wU(ρ:Nat->dZ):Operand->dZ
 | .tmp t=>ρ t
 | _=>.frz
structure Fp where
 oR:Option (List Nat)
 oW:Option (List Nat)
 rR:Option (List Nat)
 rW:Option (List Nat)
def Fp.dom(f:Fp):PJ:=⟨k7 f.oR,k7 f.oW,λr=>k7 f.rR (r / 65536),λr=>k7 f.rW (r / 65536)⟩
def dZ.isObj:dZ->Bool
 | .obj _=>true
 | _=>false
def t9(p:Nat->Bool):dZ->Option (List Nat)
 | .obj s=>if p s then some [] else none
 | r=>r.rows
def kP:Option Nat->Option (List Nat)
 | some d=>some [d]
 | none=>some []
def cr(ρ:Nat->dZ)(o:Oper):Option (List Nat):=B2 (o.op.operands.toList.map λx=>(wU ρ x).rows)
def dq(p:Nat->Bool)(ρ:Nat->dZ)(o:Oper):Fp :=
 match o.op with
 | .alloc _=>⟨kP o.dst,kP o.dst,some [],some []⟩
 | .box ..=>⟨kP o.dst,kP o.dst,cr ρ o,cr ρ o⟩
 | .buildSlice .. | .makeSlice ..=>⟨some [],some [],Dq (cr ρ o) (kP o.dst),Dq (cr ρ o) (kP o.dst)⟩
 | .load _ a=>⟨(wU ρ a).objs,some [],(wU ρ a).rows,some []⟩
 | .store _ a _=>if (wU ρ a).isObj then ⟨(wU ρ a).objs,(wU ρ a).objs,some [],some []⟩ else ⟨(wU ρ a).objs,(wU ρ a).objs,cr ρ o,cr ρ o⟩
 | .slice ..=>⟨some [],some [],Dq (cr ρ o) (kP o.dst),Dq (cr ρ o) (kP o.dst)⟩
 | .call { callee:=.builtin .copy,.. } | .call { callee:=.builtin .clear,.. }=>⟨some [],some [],cr ρ o,cr ρ o⟩
 | .indexAddr .. | .convert .. | .call { callee:=.builtin .len,.. }=>⟨some [],some [],cr ρ o,some []⟩
 | .call { callee:=.builtin .append,.. }=>⟨some [],some [],Dq (cr ρ o) (kP o.dst),Dq (cr ρ o) (kP o.dst)⟩
 | .call { callee:=.value _,.. } =>
  ⟨Dq (B2 (o.op.operands.toList.map λx=>(wU ρ x).objs)) (kP o.dst),Dq (B2 (o.op.operands.toList.map λx=>(wU ρ x).objs)) (kP o.dst),
   Dq (B2 (o.op.operands.toList.map λx=>t9 p (wU ρ x))) (kP o.dst),Dq (B2 (o.op.operands.toList.map λx=>t9 p (wU ρ x))) (kP o.dst)⟩
 | _=>⟨some [],some [],some [],some []⟩
theorem IM(p:Nat->Bool)(ρ:Nat->dZ)(o:Oper):(dq p ρ o).dom.ok:=by
 unfold dq
 split
 all_goals first | exact ⟨λ_ h=>h,λ_ h=>h⟩ | (split <;> exact ⟨λ_ h=>h,λ_ h=>h⟩) | exact ⟨λ_ h=>by simp [Fp.dom,k7] at h,λ_ h=>by simp [Fp.dom,k7] at h⟩
structure V6 (ρ:Nat->dZ) (x:Operand) (a:A):Prop where
 rows:a.inR λr=>k7 (wU ρ x).rows (r / 65536)
 objs:∀ s off,a=.obj s off->k7 (wU ρ x).objs s
 isob:(wU ρ x).isObj=true->∃ s off,a=.obj s off
theorem RE{r:dZ}{a:A}(h:r.fits a=true)(hr:r.isObj=true):∃ s off,a=.obj s off:=by
 cases r <;> cases a <;> simp [dZ.fits,dZ.isObj] at h hr ⊢
theorem L6{Q:Nat->Prop}{a:A}(h:a.leafy=true):a.inR Q:=by
 cases a <;> first | (unfold A.inR; trivial) | (simp [A.leafy] at h)
theorem N9{r:dZ}{a:A}(h:r.fits a=true):(a.inR λi=>k7 r.rows (i / 65536))/\∀ s off,a=.obj s off->k7 r.objs s:=by
 by_cases hag:∃ l,r=.frz/\a=.agg l
 ·obtain ⟨l,rfl,rfl⟩:=hag;refine ⟨?_,λs off h=>by cases h⟩;unfold A.inR;exact pU λx hx=>L6 (List.all_eq_true.1 h x hx)
 by_cases hag2:∃ d l,r=.own d/\a=.agg l
 ·obtain ⟨d,l,rfl,rfl⟩:=hag2;refine ⟨?_,λs off h=>by cases h⟩;unfold A.inR;refine pU λx hx=>?_;have:=List.all_eq_true.1 h x hx
  cases x with
  | own r=>unfold A.inR; simpa [dZ.rows,k7] using this
  | _=>exact L6 this
 cases r <;> cases a <;> (try simp [dZ.fits,dZ.rows,dZ.objs,k7] at h hag ⊢) <;> (try exact absurd ⟨_,_,rfl,rfl⟩ hag2) <;>
  first
   | exact BG (λ_=>trivial) _
   | (unfold A.inR; first | trivial | simp [h])
   | (refine ⟨by unfold A.inR; trivial,?_⟩; intro s off h1 h2; simp [<- h1,h])
   | skip
theorem B8{Q:Nat->Prop}:∀ {l:List (Option A)} {r:List A},(∀ y∈l,∀ a,y=some a->a.inR Q)->dj l=some r->eV Q r:=by
 intro l r hl h;have:=DU h;subst this;exact pU λa ha=>hl (some a) (List.mem_map.2 ⟨a,ha,rfl⟩) a rfl
theorem zy{Q:Nat->Prop}{v:Value}{a:A}(h:nB v=some a):a.inR Q:=by
 unfold nB at h
 split at h <;> cases h <;> (unfold A.inR; trivial)
theorem AT{Q:Nat->Prop}{v:Value}{a:A}(h:A.ofValue v=some a):(a.inR Q)/\∀ s off,a≠.obj s off:=by
 unfold A.ofValue at h
 split at h
 ·split at h
  ·rename_i l hl
   cases h
   refine ⟨?_,λ_ _ h=>by cases h⟩;unfold A.inR;exact B8 (λy hy a he=>by
    obtain ⟨v,_,hv⟩:=List.mem_map.1 hy;exact zy (hv.trans he)) hl
  ·cases h
 ·cases h
  exact ⟨by unfold A.inR; trivial,λs off he=>by cases he⟩
 ·refine ⟨zy h,λs off he=>?_⟩;subst he;unfold nB at h
  split at h <;> cases h
theorem L7{P:Program}{Q:Nat->Prop}{t:TypeId}{z:List A}(h:sP P t=some z):eV Q z:=by
 unfold sP at h
 split at h
 ·exact B8 (λy hy a he=>by
   obtain ⟨v,_,hv⟩:=List.mem_map.1 hy;exact zy (hv.trans he)) h
 ·cases h
theorem SQ{ρ:Nat->dZ}{st:St}{o:Oper}(hf:ew ρ st o=true){x:Operand}{a:A}(hx:x∈o.op.operands.toList)(h:st.eval x=some a):V6 ρ x a:=by
 cases x with
 | tmp t =>
  simp only [St.eval,Option.some.injEq] at h;subst h;have:=List.all_eq_true.1 hf _ hx;exact ⟨(N9 this).1,(N9 this).2,λh=>RE this h⟩
 | const v=>exact ⟨(AT h).1,λs off he=>absurd he ((AT (Q:=λ_=>True) h).2 s off),λh=>by simp [wU,dZ.isObj] at h⟩
 | func f =>
  simp only [St.eval,Option.some.injEq] at h;subst h;exact ⟨by unfold A.inR; unfold eV; trivial,λs off he=>(by cases he),λh=>by simp [wU,dZ.isObj] at h⟩
 | global _=>cases h
mutual
theorem iq{Q Q':Nat->Prop}(h:∀ r,Q r->Q' r):∀ {a:A},a.inR Q->a.inR Q'
 | .own r,hq=>by unfold A.inR at hq ⊢; exact h _ hq
 | .elem r _ _ _,hq=>by unfold A.inR at hq ⊢; exact h _ hq
 | .sub r _ _,hq=>by unfold A.inR at hq ⊢; exact h _ hq
 | .win r _ _,hq=>by unfold A.inR at hq ⊢; exact h _ hq
 | .agg l,hq=>by unfold A.inR at hq ⊢; exact BI h hq
 | .tup l,hq=>by unfold A.inR at hq ⊢; exact BI h hq
 | .clo _ l,hq=>by unfold A.inR at hq ⊢; exact BI h hq
 | .t _,_ | .nil,_ | .obj _ _,_ | .fadr _,_ | .nn _ _,_ | .undef,_ | .raw _,_ | .osl _ _ _ _,_ | .ext _ _,_ | .exa _ _,_ | .shp _,_=>by unfold A.inR; trivial
theorem BI{Q Q':Nat->Prop}(h:∀ r,Q r->Q' r):∀ {l:List A},eV Q l->eV Q' l
 | [],_=>by unfold eV; trivial
 | a :: r,hq=>by unfold eV at hq ⊢; exact ⟨iq h hq.1,BI h hq.2⟩
end
end Go.Tm
set_option maxHeartbeats 1000000
namespace Go.Tm
open Go.RowKit
section
variable {D:PJ} {P:Program} {ρ:Nat->dZ}
theorem dU{o:Oper}{x:Operand}{k:Nat}(hx:x∈o.op.operands.toList)(h:k7 (wU ρ x).rows k):k7 (cr ρ o) k :=
 Jk (List.mem_map.2 ⟨x,hx,rfl⟩) h
theorem T5{t:TypeId}{a:A}(ho:∀ s off,a=.obj s off->D.oR s)(hr:a.inR D.rR):(FG P t a).In D:=by
 unfold FG
 split <;> try trivial
 split <;> try trivial
 ·refine ⟨ho _ _ rfl,λx=>?_⟩
  cases x <;> simp only [MA.In]
  split <;> trivial
 ·unfold A.inR at hr;refine ⟨hr,λx=>?_⟩;rcases x with _ | (_ | _ | _) <;> (try dsimp only) <;> (try trivial)
  all_goals
   split <;> try trivial
   split <;> try trivial
   split <;> trivial
 ·split <;> trivial
 ·split <;> trivial
theorem Oa{t:TypeId}{a x:A}(ho:∀ s off,a=.obj s off->D.oR s/\D.oW s)(hr:(∃ s off,a=.obj s off)\/((a.inR λr=>D.rR r/\D.rW r)/\x.inR λr=>D.rR r/\D.rW r)):(zo P t a x).In D:=by
 unfold zo
 split <;> try trivial
 split <;> try trivial
 split <;> try trivial
 ·refine ⟨(ho _ _ rfl).1,λx=>?_⟩
  cases x <;> simp only [MA.In]
  split <;> first | trivial | exact ⟨(ho _ _ rfl).2,trivial⟩
 ·rcases hr with ⟨s,off,h⟩ | ⟨h1,h2⟩
  ·cases h
  refine BH (D1 (zx h2)) λts=>?_;unfold A.inR at h1;refine ⟨h1.1,λx=>?_⟩;rcases x with _ | (_ | _ | _) <;> (try dsimp only) <;> (try trivial)
  split <;> try trivial
  split <;> try trivial
  split <;> first | trivial | exact ⟨h1.2,trivial⟩
 ·split <;> trivial
theorem RF{a:A}{off:Nat}:(I8 a off).In D:=by
 unfold I8
 split <;> trivial
theorem Jl{n:Nat}{i:Int}{sz:Nat}{rows:List (List T)}:(zp n i sz rows).In D:=by
 unfold zp
 split <;> try trivial
 split <;> trivial
theorem MQ{t:TypeId}{x i:A}(hr:x.inR D.rR):(kB P t x i).In D:=by
 unfold kB
 split <;> try trivial
 split <;> try trivial
 split <;> try trivial
 ·exact Jl
 ·unfold DQ
  split <;> try trivial
  split <;> trivial
 ·split <;> trivial
 ·unfold A.inR at hr;refine ⟨hr,λx=>?_⟩;rcases x with _ | (_ | _ | _) <;> (try dsimp only) <;> (try trivial)
  ·split <;> trivial
  ·exact Jl
theorem SR{d:Option Nat}{t:TypeId}{x:A}{hi:Option A}(hr:x.inR λr=>D.rR r/\D.rW r)(hd:∀ d',d=some d'->D.rR (fj d' 0)/\D.rW (fj d' 0)):(DR P d t x hi).In D:=by
 unfold DR
 split <;> try trivial
 split <;> try trivial
 unfold A.inR at hr;refine ⟨hr.1,λx=>?_⟩;rcases x with _ | (_ | _ | _) <;> (try dsimp only) <;> (try trivial)
 split <;> first | trivial | exact ⟨hr.2,D3 (hd _ rfl)⟩
theorem SS{t:TypeId}{x:A}{lo hi:Option A}(hr:x.inR λr=>D.rR r/\D.rW r):(xb P t x lo hi).In D:=by
 unfold xb
 split <;> try trivial
 ·split <;> try trivial
  split <;> trivial
 ·split <;> try trivial
  split <;> trivial
 ·split <;> try trivial
  refine PL hr λy=>?_
  split <;> try trivial
  split <;> try trivial
  split <;> try trivial
  split <;> trivial
theorem T6{d:Option Nat}{t:TypeId}{l c:A}(hd:∀ d',d=some d'->∀ r,r / 65536=d'->D.rR r/\D.rW r):(I9 P d t l c).In D:=by
 unfold I9
 split <;> try trivial
 split <;> try trivial
 rename_i hz
 split <;> try trivial
 refine BH (D1 (L7 hz)) λts=>?_;exact D3 (hd _ rfl _ (by unfold fj; omega))
theorem PN{d:Nat}{ts:List TypeId}{x y:A}(hd:∀ r,r / 65536=d->D.rR r/\D.rW r)(hx:x.inR λr=>D.rR r/\D.rW r)(hy:y.inR D.rR):(uF P (some d) ts x y).In D:=by
 have hm:∀ {e n:Nat} {rows:List (List T)},(vj (fj d 0) e n rows).In D:=λ{e n rows}=>D3 (hd _ (by unfold fj; omega));unfold uF
 split <;> try trivial
 rename_i d' hdd;injection hdd with hdd
 subst hdd
 split <;> try trivial
 split <;> try trivial
 split <;> try trivial
 split <;> try trivial
 refine D2 hy λn ys=>?_
 split <;> try trivial
 split <;> try trivial
 ·split <;> first | trivial | exact hm
 ·unfold A.inR at hx;refine ⟨hx.1,λx=>?_⟩;rcases x with _ | (_ | _ | _) <;> (try dsimp only) <;> (try trivial)
  split <;> first | trivial | exact ⟨hx.2,hm⟩
theorem RG{d:Option Nat}{ts:List TypeId}{x y:A}(hd:∀ d',d=some d'->∀ r,r / 65536=d'->D.rR r/\D.rW r)(hx:x.inR λr=>D.rR r/\D.rW r)(hy:y.inR D.rR):(uF P d ts x y).In D:=by
 cases d with
 | some d=>exact PN (hd d rfl) hx hy
 | none =>
  unfold uF
  split <;> first | trivial | (rename_i h; cases h)
theorem Vf{t:TypeId}{x:A}{lo:Option A}(hr:x.inR λr=>D.rR r/\D.rW r):(LU P t x lo).In D:=by
 unfold LU
 split <;> try trivial
 split <;> try trivial
 unfold A.inR at hr;refine ⟨hr.1,λx=>?_⟩;rcases x with _ | (_ | _ | _) <;> (try dsimp only) <;> (try trivial)
 split <;> trivial
theorem Vg{t:TypeId}{x:A}{lo hi:Option A}(hr:x.inR λr=>D.rR r/\D.rW r):(NN P t x lo hi).In D:=by
 unfold NN
 split <;> try trivial
 split <;> try trivial
 unfold A.inR at hr;refine ⟨hr.1,λx=>?_⟩;rcases x with _ | (_ | _ | _) <;> (try dsimp only) <;> (try trivial)
 split <;> try trivial
 split <;> trivial
theorem T7{ts:List TypeId}{x y:A}(hx:x.inR λr=>D.rR r/\D.rW r)(hy:y.inR D.rR):(FH P ts x y).In D:=by
 unfold FH
 split
 ·unfold IH
  split <;> try trivial
  split <;> try trivial
  refine D2 hy λm ys=>?_
  split <;> try trivial
  unfold A.inR at hx;refine ⟨hx.1,λx=>?_⟩;rcases x with _ | (_ | _ | _) <;> (try dsimp only) <;> (try trivial)
  split <;> first | trivial | exact ⟨hx.2,trivial⟩
 rotate_left
 ·trivial
 split <;> try trivial
 split <;> try trivial
 refine D2 hy λn ys=>?_
 split <;> try trivial
 unfold A.inR at hx;refine ⟨hx.1,λx=>?_⟩;rcases x with _ | (_ | _ | _) <;> (try dsimp only) <;> (try trivial)
 split <;> first | trivial | exact ⟨hx.2,trivial⟩
theorem ST{ts:List TypeId}{x:A}(hx:x.inR λr=>D.rR r/\D.rW r):(DT P ts x).In D:=by
 unfold DT
 split <;> try trivial
 split <;> try trivial
 split <;> try trivial
 split <;> try trivial
 unfold A.inR at hx;refine ⟨hx.1,λx=>?_⟩;rcases x with _ | (_ | _ | _) <;> (try dsimp only) <;> (try trivial)
 split <;> first | trivial | exact ⟨hx.2,trivial⟩
theorem Vh{t:TypeId}{x:A}(hr:x.inR D.rR):(G3 P t x).In D:=by
 unfold G3
 split <;> try trivial
 exact D2 hr λ_ _=>trivial
end
theorem T8{P:Program}{p:Nat->Bool}{ρ:Nat->dZ}{st:St}{o:Oper}(h:∀ x∈o.op.operands.toList,∀ a,st.eval x=some a->V6 ρ x a):(oJ P ρ st.eval o).In (dq p ρ o).dom:=by
 have hdst:∀ {d:Nat} {r:Nat},o.dst=some d->r / 65536=d->k7 (Dq (cr ρ o) (kP o.dst)) (r / 65536):=λh h'=>mA.2 (.inr (by rw [h]; simp [kP,k7,h']));unfold oJ
 split <;> try (split <;> trivial)
 ·-- alloc
  rename_i e ho
  split <;> try trivial
  rename_i d z hd hz;have hf:dq p ρ o=⟨kP o.dst,kP o.dst,some [],some []⟩:=by simp only [dq,ho]
  rw [hf];exact QV ⟨by simp [Fp.dom,kP,k7,hd],by simp [Fp.dom,kP,k7,hd]⟩
 ·-- box
  rename_i e x ho
  split <;> try trivial
  rename_i d v hd hv;have hx:x∈o.op.operands.toList:=by rw [ho]; simp [Op.operands]
  have hf:dq p ρ o=⟨kP o.dst,kP o.dst,cr ρ o,cr ρ o⟩:=by simp only [dq,ho]
  rw [hf]
  split
  ·refine BH (zx (iq (λr hr=>?_) (h x hx v hv).rows)) λ_=>trivial;exact ⟨dU hx hr,dU hx hr⟩
  ·exact QV ⟨by simp [Fp.dom,kP,k7,hd],by simp [Fp.dom,kP,k7,hd]⟩
 ·-- build
  rename_i t parts ho
  split <;> try trivial
  split <;> trivial
 ·-- buildSlice
  rename_i t n parts ho
  split <;> try trivial
  rename_i e d ps ht hd hp
  split <;> try trivial
  rename_i sz z hsz hz
  split <;> try trivial
  have hf:dq p ρ o=⟨some [],some [],Dq (cr ρ o) (kP o.dst),Dq (cr ρ o) (kP o.dst)⟩:=by simp only [dq,ho]
  rw [hf];refine BH (D1 (L7 hz)) λts=>N8 (λq hq=>?_) λrows=>D3 ⟨hdst hd (by unfold fj; omega),hdst hd (by unfold fj; omega)⟩;obtain ⟨hl,hg⟩:=rJ hp;obtain ⟨i,hi⟩:=zZX hq;obtain ⟨⟨j,x⟩,hx,he⟩:=hg i q hi;have hxm:x∈o.op.operands.toList:=by
   rw [ho];simp only [Op.operands,zYZ];exact ⟨(j,x),zQY hx,rfl⟩
  simp only [zWj] at he;obtain ⟨v,hv,rfl⟩:=he;exact iq (λr hr=>⟨mA.2 (.inl (dU hxm hr)),mA.2 (.inl (dU hxm hr))⟩) (h x hxm v hv).rows
 ·-- load
  rename_i t x ho
  split <;> try trivial
  rename_i a ha;have hx:x∈o.op.operands.toList:=by rw [ho]; simp [Op.operands]
  have hf:dq p ρ o=⟨(wU ρ x).objs,some [],(wU ρ x).rows,some []⟩:=by simp only [dq,ho]
  rw [hf];exact T5 (h x hx a ha).objs (h x hx a ha).rows
 ·-- store
  rename_i t x y ho
  split <;> try trivial
  rename_i a b ha hb;have hx:x∈o.op.operands.toList:=by rw [ho]; simp [Op.operands]
  have hy:y∈o.op.operands.toList:=by rw [ho]; simp [Op.operands]
  have hf:dq p ρ o=if (wU ρ x).isObj then ⟨(wU ρ x).objs,(wU ρ x).objs,some [],some []⟩ else ⟨(wU ρ x).objs,(wU ρ x).objs,cr ρ o,cr ρ o⟩:=by simp only [dq,ho]
  rw [hf]
  split
  ·rename_i hio;exact Oa (λs off he=>⟨(h x hx a ha).objs s off he,(h x hx a ha).objs s off he⟩) (.inl ((h x hx a ha).isob hio))
  ·exact Oa (λs off he=>⟨(h x hx a ha).objs s off he,(h x hx a ha).objs s off he⟩)
    (.inr ⟨iq (λr hr=>⟨dU hx hr,dU hx hr⟩) (h x hx a ha).rows,iq (λr hr=>⟨dU hy hr,dU hy hr⟩) (h y hy b hb).rows⟩)
 ·-- binOp
  split <;> try trivial
  ·split <;> trivial
  ·split <;> first | trivial | (split <;> trivial)
  ·split <;> trivial
  ·split <;> trivial
 ·-- convert
  rename_i s t x ho;have hx:x∈o.op.operands.toList:=by rw [ho]; simp [Op.operands]
  have hf:dq p ρ o=⟨some [],some [],cr ρ o,some []⟩:=by simp only [dq,ho]
  rw [hf]
  split <;> try trivial
  rename_i a _ _ ha
  split <;> try trivial
  refine D2 (iq (λr hr=>dU hx hr) (h x hx _ ha).rows) λ_ _=>?_
  split <;> trivial
 ·-- makeSlice
  rename_i t l c ho;have hf:dq p ρ o=⟨some [],some [],Dq (cr ρ o) (kP o.dst),Dq (cr ρ o) (kP o.dst)⟩:=by simp only [dq,ho]
  rw [hf]
  split <;> try trivial
  exact T6 λd hd r hr=>⟨hdst hd hr,hdst hd hr⟩
 ·-- slice
  rename_i t x lo hi ho;have hx:x∈o.op.operands.toList:=by rw [ho]; simp [Op.operands]
  have hf:dq p ρ o=⟨some [],some [],Dq (cr ρ o) (kP o.dst),Dq (cr ρ o) (kP o.dst)⟩:=by simp only [dq,ho]
  rw [hf]
  split <;> try trivial
  rename_i a _ _ ha _ _;have hq:a.inR λr=>(⟨some [],some [],Dq (cr ρ o) (kP o.dst),Dq (cr ρ o) (kP o.dst)⟩:Fp).dom.rR r/\(⟨some [],some [],Dq (cr ρ o) (kP o.dst),Dq (cr ρ o) (kP o.dst)⟩:Fp).dom.rW r :=
   iq (λr hr=>⟨mA.2 (.inl (dU hx hr)),mA.2 (.inl (dU hx hr))⟩) (h x hx _ ha).rows
  split
  ·split
   ·split
    ·exact Vf hq
    ·exact Vg hq
   ·exact SR hq λd hd=>⟨mA.2 (.inr (by rw [hd]; simp [kP,k7,fj,Nat.mul_div_cancel])),mA.2 (.inr (by rw [hd]; simp [kP,k7,fj,Nat.mul_div_cancel]))⟩
  ·exact SS hq
 ·-- fieldAddr
  split <;> first | trivial | exact RF
 ·-- field
  split <;> try trivial
  split <;> try trivial
  split <;> trivial
 ·-- indexAddr
  rename_i t x i ho;have hx:x∈o.op.operands.toList:=by rw [ho]; simp [Op.operands]
  have hf:dq p ρ o=⟨some [],some [],cr ρ o,some []⟩:=by simp only [dq,ho]
  rw [hf]
  split <;> try trivial
  rename_i ha _;exact MQ (iq (λr hr=>dU hx hr) (h x hx _ ha).rows)
 ·-- index
  split <;> try trivial
  split <;> try trivial
  split <;> trivial
 ·-- extract
  split <;> try trivial
  split <;> trivial
 ·-- len
  rename_i args ats ho
  split <;> try trivial
  rename_i x t hxs hts;have hx:x∈o.op.operands.toList:=by rw [ho]; simp [Op.operands,Call.operands,hxs]
  have hf:dq p ρ o=⟨some [],some [],cr ρ o,some []⟩:=by simp only [dq,ho]
  rw [hf]
  split <;> try trivial
  rename_i ha;exact Vh (iq (λr hr=>dU hx hr) (h x hx _ ha).rows)
 ·-- append
  rename_i args ats ho
  split <;> try trivial
  rename_i x y hxs;have hx:x∈o.op.operands.toList:=by rw [ho]; simp [Op.operands,Call.operands,hxs]
  have hy:y∈o.op.operands.toList:=by rw [ho]; simp [Op.operands,Call.operands,hxs]
  have hf:dq p ρ o=⟨some [],some [],Dq (cr ρ o) (kP o.dst),Dq (cr ρ o) (kP o.dst)⟩:=by simp only [dq,ho]
  rw [hf]
  split <;> try trivial
  rename_i ha hb;exact RG (λd hd r hr=>⟨hdst hd hr,hdst hd hr⟩) (iq (λr hr=>⟨mA.2 (.inl (dU hx hr)),mA.2 (.inl (dU hx hr))⟩) (h x hx _ ha).rows)
   (iq (λr hr=>mA.2 (.inl (dU hy hr))) (h y hy _ hb).rows)
 ·-- copy
  rename_i args ats ho
  split <;> try trivial
  rename_i x y hxs;have hx:x∈o.op.operands.toList:=by rw [ho]; simp [Op.operands,Call.operands,hxs]
  have hy:y∈o.op.operands.toList:=by rw [ho]; simp [Op.operands,Call.operands,hxs]
  have hf:dq p ρ o=⟨some [],some [],cr ρ o,cr ρ o⟩:=by simp only [dq,ho]
  rw [hf]
  split <;> try trivial
  rename_i ha hb;exact T7 (iq (λr hr=>⟨dU hx hr,dU hx hr⟩) (h x hx _ ha).rows) (iq (λr hr=>dU hy hr) (h y hy _ hb).rows)
 ·-- clear
  rename_i args ats ho
  split <;> try trivial
  rename_i x hxs;have hx:x∈o.op.operands.toList:=by rw [ho]; simp [Op.operands,Call.operands,hxs]
  have hf:dq p ρ o=⟨some [],some [],cr ρ o,cr ρ o⟩:=by simp only [dq,ho]
  rw [hf]
  split <;> try trivial
  rename_i ha;exact ST (iq (λr hr=>⟨dU hx hr,dU hx hr⟩) (h x hx _ ha).rows)
 ·split <;> try trivial
  split <;> trivial
 ·split <;> try trivial
  split <;> trivial
 ·trivial
end Go.Tm
set_option maxHeartbeats 1000000
namespace Go.Tm
open Go.RowKit
theorem PO{P:Program}{ρ:Nat->dZ}{ev ev':Operand->Option A}{o:Oper}(h:∀ x∈o.op.operands.toList,ev x=ev' x):oJ P ρ ev o=oJ P ρ ev' o:=by
 obtain ⟨dst,op,ty,pos,aft,gd⟩:=o
 cases op
 case call c =>
  obtain ⟨cal,args,ts⟩:=c
  cases cal with
  | value f=>simp only [oJ]
  | invoke r m=>simp only [oJ]
  | builtin b =>
   have h':∀ x∈args.toList,ev x=ev' x:=λx hx=>h x (by simp [Op.operands,Call.operands] at hx ⊢; exact hx)
   cases b <;> simp only [oJ]
   all_goals
    split <;> try rfl
    first | (rename_i hl; rw [hl] at h') | (rename_i hl _; rw [hl] at h')
    try rw [h' _ (zQh ..)]
    try rw [h' _ (zQv _ (zQh ..))]
 case build t parts =>
  have:(parts.toList.map λ(i,x)=>(ev x).map λv=>(i,v))=parts.toList.map λ(i,x)=>(ev' x).map λv=>(i,v) :=
   zXX λq hq=>by
    have:=h q.2 (by simp only [Op.operands,zYZ]; exact ⟨q,hq,rfl⟩);simp only [this]
  simp only [oJ,this]
 case buildSlice t n parts =>
  have:(parts.toList.map λ(i,x)=>(ev x).map λv=>(i,v))=parts.toList.map λ(i,x)=>(ev' x).map λv=>(i,v) :=
   zXX λq hq=>by
    have:=h q.2 (by simp only [Op.operands,zYZ]; exact ⟨q,hq,rfl⟩);simp only [this]
  simp only [oJ,this]
 case makeFunc f first caps =>
  cases f <;> simp only [oJ]
  have:caps.toList.map ev=caps.toList.map ev':=zXX λx hx=>h x (by simp [Op.operands] at hx ⊢; exact .inr hx);rw [this]
 case slice t x lo hi m =>
  cases m <;> simp only [oJ]
  have h1:ev x=ev' x:=h x (by simp [Op.operands]);have h2:HG ev lo=HG ev' lo:=by
   cases lo with
   | none=>rfl
   | some l=>simp only [HG]; rw [h l (by simp [Op.operands])]
  have h3:HG ev hi=HG ev' hi:=by
   cases hi with
   | none=>rfl
   | some l=>simp only [HG]; rw [h l (by simp [Op.operands])]
  rw [h1,h2,h3]
 all_goals
  simp [Op.operands] at h;simp only [oJ]
  try simp only [h]
inductive RH (P:Program) (p:Nat->Bool) (ρ:Nat->dZ) (st:St) (o:Oper) (x:A) (st':St):Prop
 | plain (h:(oJ P ρ st.eval o).run st=some (x,st'))
 | call (m:Bool) (d f:Nat) (xf:Operand) (args:Array Operand) (ts:Array TypeId) (caps as:List A) (vs:List V) (st1:St) (res:V) (outs:List (List C))
   (ho:o.op=.call { callee:=.value xf,args,argTypes:=ts }) (hd:o.dst=some d) (hf:st.eval xf=some (.clo f caps)) (k7:dj (args.toList.map st.eval)=some as)
   (hp:(i9 m p (as++caps) MA.ret).run st=some (vs,st1)) (hc:aJ P f vs res outs) (hr:(du d (dH (as++caps)) outs (V.toA d (fj d 0) res MA.ret)).run st1=some (x,st'))
 | callB (d f:Nat) (xf:Operand) (args:Array Operand) (ts:Array TypeId) (caps as:List A) (vs:List V) (res:V)
   (ho:o.op=.call { callee:=.value xf,args,argTypes:=ts }) (hd:o.dst=some d) (hf:st.eval xf=some (.clo f caps)) (k7:dj (args.toList.map st.eval)=some as)
   (hp:(d7 (as++caps) MA.ret).run st=some (vs,st)) (hc:aJ P f vs res []) (hpl:res.plain) (hr:(V.toA d (fj d 0) res MA.ret).run st=some (x,st'))
 | callI (m:Bool) (d f:Nat) (xf:Operand) (args:Array Operand) (ts:Array TypeId) (caps as:List A) (vs:List V) (st1:St) (outs:List (List C)) (s off:Nat)
   (ho:o.op=.call { callee:=.value xf,args,argTypes:=ts }) (hd:o.dst=some d) (hf:st.eval xf=some (.clo f caps)) (k7:dj (args.toList.map st.eval)=some as)
   (hp:(i9 m p (as++caps) MA.ret).run st=some (vs,st1)) (hc:rv P f vs off outs) (hhd:(as++caps).head?=some (.obj s 0)) (hr:(du d (dH (as++caps)) outs (MA.ret (.obj s off))).run st1=some (x,st'))
 | callD (d f:Nat) (xf:Operand) (args:Array Operand) (ts:Array TypeId) (caps as:List A) (vs:List V) (res:V)
   (ho:o.op=.call { callee:=.value xf,args,argTypes:=ts }) (hd:o.dst=some d) (hf:st.eval xf=some (.clo f caps)) (k7:dj (args.toList.map st.eval)=some as)
   (hp:(d7 (as++caps) MA.ret).run st=some (vs,st)) (hc:nH P f vs res) (hr:(V.toA d (fj d 0) res MA.ret).run st=some (x,st'))
 | callX (m:Bool) (d f:Nat) (xf:Operand) (args:Array Operand) (ts:Array TypeId) (az caps as xs:List A) (vs us:List V) (st1:St) (res:V) (outs:List (List C))
   (ho:o.op=.call { callee:=.value xf,args,argTypes:=ts }) (hd:o.dst=some d) (hf:st.eval xf=some (.clo f caps)) (k7:dj (args.toList.map st.eval)=some az) (hcat:az++caps=as++xs)
   (hp:(i9 m p as MA.ret).run st=some (vs,st1)) (hq:(d7 xs MA.ret).run st1=some (us,st1)) (hc:MN P f vs us res outs) (hr:(du d (dH as) outs (V.toA d (fj d 0) res MA.ret)).run st1=some (x,st'))
 | callW (d f r e lo m:Nat) (ts:List T) (rows:List (List T)) (xf:Operand) (args:Array Operand) (tys:Array TypeId) (as:List A) (vs:List V)
   (ho:o.op=.call { callee:=.value xf,args,argTypes:=tys }) (hd:o.dst=some d) (hf:st.eval xf=some (.clo f [])) (k7:dj (args.toList.map st.eval)=some (.agg (ts.map A.t++[.own r]) :: as))
   (hrw:st.rw r=some (.live e 1 rows)) (hp:N6 as=some vs) (hc:UW P f e ts rows vs lo m) (hr:x=.win r lo m) (hst:st'=st)
 | callM (f:Nat) (xf:Operand) (args:Array Operand) (ts:Array TypeId) (as:List A) (r:T)
   (ho:o.op=.call { callee:=.value xf,args,argTypes:=ts }) (hf:st.eval xf=some (.clo f [])) (k7:dj (args.toList.map st.eval)=some as)
   (hk:as.all A.mk=true) (hx:as.any A.hasX=true) (hc:Wk P f as r) (hr:x=.t r) (hst:st'=st)
 | callR (d f r e sz:Nat) (rows rows':List (List T)) (xf:Operand) (args:Array Operand) (ts:Array TypeId) (as:List A) (vs:List V) (res:T)
   (ho:o.op=.call { callee:=.value xf,args,argTypes:=ts }) (hd:o.dst=some d) (hf:st.eval xf=some (.clo f [])) (k7:dj (args.toList.map st.eval)=some (.own r :: as))
   (hrw:st.rw r=some (.live e sz rows)) (hp:(d7 as MA.ret).run st=some (vs,st)) (hpl:sS vs) (hc:Wl P f e sz rows vs res rows')
   (hr:x=.t res) (hst:st'={ st with rw:=eF st.rw r (some (.live e sz rows')) })
section
variable {P:Program} {E:En} [Tb P E] {g:Gh} {st st':St} {a:Act} {w:World} {p:Nat->Bool} {ρ:Nat->dZ} {o:Oper} {x:A}
theorem RH.sound{n:Nat}(hS:iM E g n st a w)(h:RH P p ρ st o x st'):vB P o a w λv w'=>∃ g',vz E g st w x st' v g' w':=by
 cases h with
 | plain h =>
  obtain ⟨u,g',w',h1,h2⟩:=PH hS h;exact NZ ⟨u,w',h1,g',h2⟩
 | call m d f xf args ts caps as vs st1 res outs ho hd hf k7 hp hc hr=>exact PI hS ho hf k7 hp hc hr
 | callB d f xf args ts caps as vs res ho hd hf k7 hp hc hpl hr=>exact N0 hS ho hf k7 hp hc hpl hr
 | callI m d f xf args ts caps as vs st1 outs s off ho hd hf k7 hp hc hhd hr=>exact N1 hS ho hf k7 hp hc hhd hr
 | callD d f xf args ts caps as vs res ho hd hf k7 hp hc hr=>exact N2 hS ho hf k7 hp hc hr
 | callX m d f xf args ts az caps as xs vs us st1 res outs ho hd hf k7 hcat hp hq hc hr=>exact N5 hS ho hf k7 hcat hp hq hc hr
 | callW d f r e lo m ts rows xf args tys as vs ho hd hf k7 hrw hp hc hr hst=>subst hr hst; exact N7 hS ho hf k7 hrw hp hc
 | callM f xf args ts as r ho hf k7 hk hx hc hr hst=>subst hr hst; exact N3 hS ho hf k7 hk hx hc
 | callR d f r e sz rows rows' xf args ts as vs res ho hd hf k7 hrw hp hpl hc hr hst=>subst hr hst; exact N4 hS ho hf k7 hrw hp hpl hc
theorem sT{st st2:St}{o:Oper}(h:∀ t,.tmp t∈o.op.operands.toList->st2.tm t=st.tm t):∀ y∈o.op.operands.toList,st2.eval y=st.eval y:=by
 intro y hy
 cases y with
 | tmp t=>simp only [St.eval]; rw [h t hy]
 | _=>rfl
theorem St.ext{s t:St}(h1:s.tm=t.tm)(h2:s.ob=t.ob)(h3:s.rw=t.rw):s=t:=by
 cases s; cases t; cases h1; cases h2; cases h3; rfl
theorem RI{D:PJ}{a:A}(ho:∀ s,D.oR s/\D.oW s)(hr:∀ r,D.rR r/\D.rW r):a.argIn D p:=by
 unfold A.argIn
 split
 ·exact ⟨ho _,λ_=>hr⟩
 ·exact BG hr _
theorem T9{D:PJ}{y:Operand}{a:A}(hc:V6 ρ y a)(ho:∀ s,k7 (wU ρ y).objs s->D.oR s/\D.oW s)(hr:∀ r,k7 (t9 p (wU ρ y)) (r / 65536)->D.rR r/\D.rW r)(hfit:∀ s off,a=.obj s off->wU ρ y=.obj s\/wU ρ y=.any) :
  (a.argIn D p)/\a.inR λr=>D.rR r/\D.rW r:=by
 have h2:a.inR λr=>D.rR r/\D.rW r:=by
  by_cases hob:(wU ρ y).isObj=true
  ·obtain ⟨s,off,rfl⟩:=hc.isob hob;unfold A.inR; trivial
  ·refine iq (λr h=>hr r ?_) hc.rows
   revert h hob
   cases wU ρ y <;> simp [t9,dZ.isObj]
 refine ⟨?_,h2⟩;unfold A.argIn
 split
 ·rename_i s;refine ⟨ho s (hc.objs s 0 rfl),λhp r=>hr r ?_⟩;rcases hfit s 0 rfl with h | h <;> rw [h] <;> simp [t9,hp,k7,dZ.rows]
 ·exact h2
theorem Ua{y:Operand}{s off:Nat}(hf:ew ρ st o=true)(hy:y∈o.op.operands.toList)(h:st.eval y=some (.obj s off)):wU ρ y=.obj s\/wU ρ y=.any:=by
 cases y with
 | tmp t =>
  simp only [St.eval,Option.some.injEq] at h;have:=List.all_eq_true.1 hf _ hy;simp only [h] at this;simp only [wU]
  revert this
  cases ρ t <;> simp [dZ.fits]
 | const v=>exact absurd rfl ((AT (Q:=λ_=>True) h).2 s off)
 | func f=>simp [St.eval] at h
 | global=>cases h
theorem Ub{y:Operand}{f:FuncId}{caps:List A}(hf:ew ρ st o=true)(hy:y∈o.op.operands.toList)(h:st.eval y=some (.clo f caps)):caps=[]\/wU ρ y=.any:=by
 cases y with
 | tmp t =>
  simp only [St.eval,Option.some.injEq] at h;have:=List.all_eq_true.1 hf _ hy;simp only [h] at this;simp only [wU]
  revert this
  cases ρ t <;> simp [dZ.fits]
 | const v =>
  simp only [St.eval] at h;unfold A.ofValue at h
  split at h
  ·split at h <;> cases h
  ·cases h
  ·unfold nB at h
   split at h <;> cases h
 | func f'=>simp only [St.eval,Option.some.injEq,A.clo.injEq] at h; exact .inl h.2.symm
 | global=>cases h
theorem RH.loc(hf:ew ρ st o=true)(h:RH P p ρ st o x st'):PA (dq p ρ o).dom st st' /\
  ∀ st2,(∀ t,.tmp t∈o.op.operands.toList->st2.tm t=st.tm t)->On (dq p ρ o).dom st st2->∃ st2',RH P p ρ st2 o x st2'/\PA (dq p ρ o).dom st2 st2'/\On (dq p ρ o).dom st' st2':=by
 have hcls:∀ x∈o.op.operands.toList,∀ a,st.eval x=some a->V6 ρ x a:=λx hx a h=>SQ hf hx h
 -- a call's parts
 have hcall:∀ {d f:Nat} {xf:Operand} {args:Array Operand} {ts:Array TypeId} {as caps:List A},o.op=.call { callee:=.value xf,args,argTypes:=ts }->o.dst=some d->st.eval xf=some (.clo f caps)->dj (args.toList.map st.eval)=some as ->
   (∀ y∈xf :: args.toList,y∈o.op.operands.toList)/\(∀ r,r / 65536=d->(dq p ρ o).dom.rR r/\(dq p ρ o).dom.rW r)/\((dq p ρ o).dom.oR d/\(dq p ρ o).dom.oW d) /\
   ∀ a∈as++caps,a.argIn (dq p ρ o).dom p/\a.inR λr=>(dq p ρ o).dom.rR r/\(dq p ρ o).dom.rW r:=by
  intro d f xf args ts as caps ho hd hxf hass;have hf':dq p ρ o=⟨Dq (B2 (o.op.operands.toList.map λx=>(wU ρ x).objs)) (kP o.dst),Dq (B2 (o.op.operands.toList.map λx=>(wU ρ x).objs)) (kP o.dst),
   Dq (B2 (o.op.operands.toList.map λx=>t9 p (wU ρ x))) (kP o.dst),Dq (B2 (o.op.operands.toList.map λx=>t9 p (wU ρ x))) (kP o.dst)⟩:=by simp only [dq,ho]
  have hops:∀ y∈xf :: args.toList,y∈o.op.operands.toList:=λy hy=>by
   rw [ho];simp only [Op.operands,Call.operands]
   simpa using hy
  have hO:∀ y∈o.op.operands.toList,∀ s,k7 (wU ρ y).objs s->(dq p ρ o).dom.oR s/\(dq p ρ o).dom.oW s:=λy hy s hs=>by
   rw [hf'];have:=mA (a:=B2 (o.op.operands.toList.map λx=>(wU ρ x).objs)) (b:=kP o.dst) |>.2 (.inl (Jk (List.mem_map.2 ⟨y,hy,rfl⟩) hs))
   exact ⟨this,this⟩
  have hR:∀ y∈o.op.operands.toList,∀ r,k7 (t9 p (wU ρ y)) (r / 65536)->(dq p ρ o).dom.rR r/\(dq p ρ o).dom.rW r:=λy hy r hs=>by
   rw [hf'];have:=mA (a:=B2 (o.op.operands.toList.map λx=>t9 p (wU ρ x))) (b:=kP o.dst) |>.2 (.inl (Jk (List.mem_map.2 ⟨y,hy,rfl⟩) hs))
   exact ⟨this,this⟩
  refine ⟨hops,λr hr=>?_,?_,λa ha=>?_⟩
  ·rw [hf'];have:=mA (k:=r / 65536) (a:=B2 (o.op.operands.toList.map λx=>t9 p (wU ρ x))) (b:=kP o.dst) |>.2 (.inr (by rw [hd]; simp [kP,k7,hr]))
   exact ⟨this,this⟩
  ·rw [hf'];have:=mA (k:=d) (a:=B2 (o.op.operands.toList.map λx=>(wU ρ x).objs)) (b:=kP o.dst) |>.2 (.inr (by rw [hd]; simp [kP,k7]))
   exact ⟨this,this⟩
  ·rcases List.mem_append.1 ha with ha | ha
   ·obtain ⟨hl,hg⟩:=rJ hass;obtain ⟨i,hi⟩:=zZX ha;obtain ⟨y,hy,he⟩:=hg i a hi;have hym:=hops y (zQv _ (zQY hy));exact T9 (hcls y hym a he) (hO y hym) (hR y hym) (λs off h=>Ua hf hym (h ▸ he))
   ·have hxm:=hops xf (zQh ..);rcases Ub hf hxm hxf with h | h
    ·subst h; simp at ha
    ·have hOa:∀ s,(dq p ρ o).dom.oR s/\(dq p ρ o).dom.oW s:=λs=>hO xf hxm s (by rw [h]; trivial);have hRa:∀ r,(dq p ρ o).dom.rR r/\(dq p ρ o).dom.rW r:=λr=>hR xf hxm r (by rw [h]; trivial);exact ⟨RI hOa hRa,BG hRa a⟩
 cases h with
 | plain h =>
  obtain ⟨h1,h2⟩:=mZ (oJ P ρ st.eval o) (T8 hcls) h;refine ⟨h1,λst2 ht hon=>?_⟩;obtain ⟨st2',h3,h4,h5⟩:=h2 st2 hon;refine ⟨st2',.plain ?_,h4,h5⟩;rw [PO (sT ht)];exact h3
 | call m d f xf args ts caps as vs st1 res outs ho hd hxf hass hp hc hr =>
  obtain ⟨hops,hdr,hdo,hin⟩:=hcall ho hd hxf hass;obtain ⟨h1,h2⟩:=mZ (i9 m p (as++caps) MA.ret) (D4 (D:=(dq p ρ o).dom) (λa ha=>(hin a ha).1) (λ_=>trivial)) hp;obtain ⟨h3,h4⟩:=mZ (du d (dH (as++caps)) outs (V.toA d (fj d 0) res MA.ret)) (xe (D:=(dq p ρ o).dom) hdr (λs hs=>AS (λa ha=>(hin a ha).1) s hs) (D5 hdr hdo λ_=>trivial)) hr;refine ⟨h1.trans h3,λst2 ht hon=>?_⟩;obtain ⟨st3,h5,h6,h7⟩:=h2 st2 hon;obtain ⟨st4,h8,h9,h10⟩:=h4 st3 h7;have hev:=sT ht;refine ⟨st4,.call m d f xf args ts caps as vs st3 res outs ho hd ((hev xf (hops xf (zQh ..))).trans hxf) ?_ h5 hc h8,h6.trans h9,h10⟩;rw [<- hass]
  congr 1
  exact zXX λy hy=>hev y (hops y (zQv _ hy))
 | callI m d f xf args ts caps as vs st1 outs s off ho hd hxf hass hp hc hhd hr =>
  obtain ⟨hops,hdr,hdo,hin⟩:=hcall ho hd hxf hass;obtain ⟨h1,h2⟩:=mZ (i9 m p (as++caps) MA.ret) (D4 (D:=(dq p ρ o).dom) (λa ha=>(hin a ha).1) (λ_=>trivial)) hp;obtain ⟨h3,h4⟩:=mZ (du d (dH (as++caps)) outs (MA.ret (A.obj s off))) (xe (D:=(dq p ρ o).dom) hdr (λs hs=>AS (λa ha=>(hin a ha).1) s hs) trivial) hr;refine ⟨h1.trans h3,λst2 ht hon=>?_⟩;obtain ⟨st3,h5,h6,h7⟩:=h2 st2 hon;obtain ⟨st4,h8,h9,h10⟩:=h4 st3 h7;have hev:=sT ht;refine ⟨st4,.callI m d f xf args ts caps as vs st3 outs s off ho hd ((hev xf (hops xf (zQh ..))).trans hxf) ?_ h5 hc hhd h8,h6.trans h9,h10⟩;rw [<- hass]
  congr 1
  exact zXX λy hy=>hev y (hops y (zQv _ hy))
 | callB d f xf args ts caps as vs res ho hd hxf hass hp hc hpl hr =>
  obtain ⟨hops,hdr,hdo,hin⟩:=hcall ho hd hxf hass;obtain ⟨h1,h2⟩:=mZ (d7 (as++caps) MA.ret) (pV (D:=⟨(dq p ρ o).dom.oR,λ_=>False,(dq p ρ o).dom.rR,λ_=>False⟩) (pU λa ha=>iq (λr h=>h.1) (hin a ha).2) (λ_=>trivial)) hp;obtain ⟨h3,h4⟩:=mZ (V.toA d (fj d 0) res MA.ret) (D5 (D:=(dq p ρ o).dom) hdr hdo λ_=>trivial) hr;refine ⟨h3,λst2 ht hon=>?_⟩;obtain ⟨st3,h5,h6,h7⟩:=h2 st2 ⟨hon.ob,hon.rw⟩;have h32:st3=st2:=St.ext h6.tm (funext λs=>h6.ob s (λh=>h)) (funext λs=>h6.rw s (λh=>h));subst h32;obtain ⟨st4,h8,h9,h10⟩:=h4 st3 hon;have hev:=sT ht;refine ⟨st4,.callB d f xf args ts caps as vs res ho hd ((hev xf (hops xf (zQh ..))).trans hxf) ?_ h5 hc hpl h8,h9,h10⟩;rw [<- hass]
  congr 1
  exact zXX λy hy=>hev y (hops y (zQv _ hy))
 | callD d f xf args ts caps as vs res ho hd hxf hass hp hc hr =>
  obtain ⟨hops,hdr,hdo,hin⟩:=hcall ho hd hxf hass;obtain ⟨h1,h2⟩:=mZ (d7 (as++caps) MA.ret) (pV (D:=⟨(dq p ρ o).dom.oR,λ_=>False,(dq p ρ o).dom.rR,λ_=>False⟩) (pU λa ha=>iq (λr h=>h.1) (hin a ha).2) (λ_=>trivial)) hp;obtain ⟨h3,h4⟩:=mZ (V.toA d (fj d 0) res MA.ret) (D5 (D:=(dq p ρ o).dom) hdr hdo λ_=>trivial) hr;refine ⟨h3,λst2 ht hon=>?_⟩;obtain ⟨st3,h5,h6,h7⟩:=h2 st2 ⟨hon.ob,hon.rw⟩;have h32:st3=st2:=St.ext h6.tm (funext λs=>h6.ob s (λh=>h)) (funext λs=>h6.rw s (λh=>h));subst h32;obtain ⟨st4,h8,h9,h10⟩:=h4 st3 hon;have hev:=sT ht;refine ⟨st4,.callD d f xf args ts caps as vs res ho hd ((hev xf (hops xf (zQh ..))).trans hxf) ?_ h5 hc h8,h9,h10⟩;rw [<- hass]
  congr 1
  exact zXX λy hy=>hev y (hops y (zQv _ hy))
 | callX m d f xf args ts az caps as xs vs us st1 res outs ho hd hxf hass hcat hp hq hc hr =>
  obtain ⟨hops,hdr,hdo,hin⟩:=hcall ho hd hxf hass;rw [hcat] at hin;obtain ⟨h1,h2⟩:=mZ (i9 m p as MA.ret) (D4 (D:=(dq p ρ o).dom) (λa ha=>(hin a (zVY _ ha)).1) (λ_=>trivial)) hp;obtain ⟨g1,g2⟩:=mZ (d7 xs MA.ret) (pV (D:=⟨(dq p ρ o).dom.oR,λ_=>False,(dq p ρ o).dom.rR,λ_=>False⟩) (pU λa ha=>iq (λr h=>h.1) (hin a (List.mem_append_right _ ha)).2) (λ_=>trivial)) hq;obtain ⟨h3,h4⟩:=mZ (du d (dH as) outs (V.toA d (fj d 0) res MA.ret)) (xe (D:=(dq p ρ o).dom) hdr (λs hs=>AS (λa ha=>(hin a (zVY _ ha)).1) s hs) (D5 hdr hdo λ_=>trivial)) hr;refine ⟨h1.trans h3,λst2 ht hon=>?_⟩;obtain ⟨st3,h5,h6,h7⟩:=h2 st2 hon;obtain ⟨st5,g5,g6,g7⟩:=g2 st3 ⟨h7.ob,h7.rw⟩;have h53:st5=st3:=St.ext g6.tm (funext λs=>g6.ob s (λh=>h)) (funext λs=>g6.rw s (λh=>h));subst h53;obtain ⟨st4,h8,h9,h10⟩:=h4 st5 h7;have hev:=sT ht;refine ⟨st4,.callX m d f xf args ts az caps as xs vs us st5 res outs ho hd ((hev xf (hops xf (zQh ..))).trans hxf) ?_ hcat h5 g5 hc h8,h6.trans h9,h10⟩;rw [<- hass]
  congr 1
  exact zXX λy hy=>hev y (hops y (zQv _ hy))
 | callW d f r e lo m ts rows xf args tys as vs ho hd hxf hass hrw hp hc hr hst =>
  subst hr hst;obtain ⟨hops,hdr,hdo,hin⟩:=hcall (caps:=[]) ho hd hxf hass;have hr0:=(hin (.agg (ts.map A.t++[.own r])) (by simp)).2;unfold A.inR at hr0;have hr1:(dq p ρ o).dom.rR r/\(dq p ρ o).dom.rW r:=by
   have key:∀ l:List T,eV (λr=>(dq p ρ o).dom.rR r/\(dq p ρ o).dom.rW r) (l.map A.t++[.own r])->(dq p ρ o).dom.rR r/\(dq p ρ o).dom.rW r:=by
    intro l
    induction l with
    | nil=>intro h; simp only [List.map_nil,zQy] at h; unfold eV at h; have:=h.1; unfold A.inR at this; exact this
    | cons x l ih=>intro h; simp only [zWh,List.cons_append] at h; unfold eV at h; exact ih h.2
   exact key ts hr0
  refine ⟨PA.refl _ _,λst2 ht hon=>⟨st2,?_,PA.refl _ _,hon⟩⟩;have hev:=sT ht;refine .callW d f r e lo m ts rows xf args tys as vs ho hd ((hev xf (hops xf (zQh ..))).trans hxf) ?_ ((hon.rw r hr1.1).trans hrw) hp hc rfl rfl;rw [<- hass]
  congr 1
  exact zXX λy hy=>hev y (hops y (zQv _ hy))
 | callM f xf args ts as r ho hxf hass hk hx hc hr hst =>
  subst hr hst;refine ⟨PA.refl _ _,λst2 ht hon=>⟨st2,?_,PA.refl _ _,hon⟩⟩;have hev:=sT ht;have hops:∀ y∈xf :: args.toList,y∈o.op.operands.toList:=λy hy=>by
   rw [ho];simp only [Op.operands,Call.operands]
   simpa using hy
  refine .callM f xf args ts as r ho ((hev xf (hops xf (zQh ..))).trans hxf) ?_ hk hx hc rfl rfl;rw [<- hass]
  congr 1
  exact zXX λy hy=>hev y (hops y (zQv _ hy))
 | callR d f r e sz rows rows' xf args ts as vs res ho hd hxf hass hrw hp hpl hc hr hst =>
  subst hr hst;obtain ⟨hops,hdr,hdo,hin⟩:=hcall (caps:=[]) ho hd hxf hass;have hr0:=(hin (.own r) (by simp)).2;unfold A.inR at hr0;obtain ⟨h1,h2⟩:=mZ (d7 as MA.ret) (pV (D:=⟨(dq p ρ o).dom.oR,λ_=>False,(dq p ρ o).dom.rR,λ_=>False⟩) (pU λa ha=>iq (λr h=>h.1) (hin a (by simp [ha])).2) (λ_=>trivial)) hp;refine ⟨⟨rfl,λ_ _=>rfl,λi hi=>cg _ _ _ _ (λhe=>hi (he ▸ hr0.2))⟩,λst2 ht hon=>?_⟩;obtain ⟨st3,h5,h6,h7⟩:=h2 st2 ⟨hon.ob,hon.rw⟩;have h32:st3=st2:=St.ext h6.tm (funext λs=>h6.ob s (λh=>h)) (funext λs=>h6.rw s (λh=>h));subst h32;have hev:=sT ht;refine ⟨_,.callR d f r e sz rows rows' xf args ts as vs res ho hd ((hev xf (hops xf (zQh ..))).trans hxf) ?_ ((hon.rw r hr0.1).trans hrw) h5 hpl hc rfl rfl,⟨rfl,λ_ _=>rfl,λi hi=>cg _ _ _ _ (λhe=>hi (he ▸ hr0.2))⟩,⟨hon.ob,λi hi=>PK (hon.rw i hi)⟩⟩;rw [<- hass]
  congr 1
  exact zXX λy hy=>hev y (hops y (zQv _ hy))
end
end Go.Tm
namespace Go.Tm
open Go.RowKit
def ir(ops:Array Oper)(st:St)(o:Oper):Option Bool:=match o.guard with
 | none=>some true
 | some (j,want)=>match (ops[j]?).bind (·.dst) with
  | none=>some false
  | some d=>match st.tm d with
   | .t (.bool b)=>some (b == want)
   | .tup []=>some false
   | _=>none
def Uc(ops:Array Oper)(o:Oper):List Nat:=match o.guard with
 | none=>[]
 | some (j,_)=>((ops[j]?).bind (·.dst)).toList
inductive xh (P:Program) (p:Nat->Bool) (ρ:Nat->dZ) (ops:Array Oper) (o:Oper) (st:St):St->Prop
 | run (x:A) (st1:St) (hg:ir ops st o=some true) (hf:ew ρ st o=true) (h:RH P p ρ st o x st1):xh P p ρ ops o st (st1.put o.dst x)
 | skip (hg:ir ops st o=some false):xh P p ρ ops o st (st.put o.dst (.tup []))
section
variable {P:Program} {E:En} [Tb P E] {g:Gh} {st st':St} {a:Act} {w:World} {p:Nat->Bool} {ρ:Nat->dZ} {o:Oper} {x:A} {ops:Array Oper}
theorem G6{st2:St}(h:∀ d∈Uc ops o,st2.tm d=st.tm d):ir ops st2 o=ir ops st o:=by
 unfold ir Uc at *
 split
 ·rfl
 ·rename_i j want hg;simp only [hg] at h
  split
  ·rfl
  ·rename_i d hd;simp only [hd,Option.toList] at h;rw [h d (by simp)]
theorem MR{st2:St}(h:∀ t,.tmp t∈o.op.operands.toList->st2.tm t=st.tm t):ew ρ st2 o=ew ρ st o:=by
 unfold ew
 revert h
 generalize o.op.operands.toList=l;intro h
 induction l with
 | nil=>rfl
 | cons y l ih =>
  simp only [zYh];rw [ih λt ht=>h t (zQv _ ht)]
  cases y with
  | tmp t=>simp only [h t (zQh ..)]
  | _=>rfl
def QW(D:PJ)(dst:Option Nat)(st st':St):Prop:=(∀ t,dst≠some t->st'.tm t=st.tm t)/\(∀ s,¬ D.oW s->st'.ob s=st.ob s)/\∀ r,¬ D.rW r->st'.rw r=st.rw r
theorem Jm{d:Option Nat}{v:A}{t:Nat}(h:d≠some t):(st.put d v).tm t=st.tm t:=by
 cases d with
 | none=>rfl
 | some d=>exact cg _ _ _ _ (λhe=>h (he ▸ rfl))
theorem BJ{d:Nat}{v:A}:(st.put (some d) v).tm d=v:=di _ _ _
theorem zA{d:Option Nat}{v:A}:(st.put d v).ob=st.ob:=by cases d <;> rfl
theorem zB{d:Option Nat}{v:A}:(st.put d v).rw=st.rw:=by cases d <;> rfl
theorem xh.loc(h:xh P p ρ ops o st st'):QW (dq p ρ o).dom o.dst st st' /\
  ∀ st2,(∀ t,.tmp t∈o.op.operands.toList->st2.tm t=st.tm t)->(∀ d∈Uc ops o,st2.tm d=st.tm d)->On (dq p ρ o).dom st st2 ->
   ∃ st2',xh P p ρ ops o st2 st2'/\(∀ t,o.dst=some t->st2'.tm t=st'.tm t)/\QW (dq p ρ o).dom o.dst st2 st2'/\On (dq p ρ o).dom st' st2':=by
 cases h with
 | run x st1 hg hf h =>
  obtain ⟨h1,h2⟩:=h.loc hf;refine ⟨⟨λt ht=>by rw [Jm ht,h1.tm],λs hs=>by rw [zA]; exact h1.ob s hs,λs hs=>by rw [zB]; exact h1.rw s hs⟩,λst2 ht hd hon=>?_⟩;obtain ⟨st2',h3,h4,h5⟩:=h2 st2 ht hon;refine ⟨_,.run x st2' ((G6 hd).trans hg) ((MR ht).trans hf) h3,λt he=>?_,⟨λt ht=>by rw [Jm ht,h4.tm],λs hs=>by rw [zA]; exact h4.ob s hs,λs hs=>by rw [zB]; exact h4.rw s hs⟩,⟨λs hs=>by rw [zA,zA]; exact h5.ob s hs,λs hs=>by rw [zB,zB]; exact h5.rw s hs⟩⟩;rw [he,BJ,BJ]
 | skip hg =>
  refine ⟨⟨λt ht=>Jm ht,λs hs=>by rw [zA],λs hs=>by rw [zB]⟩,λst2 ht hd hon=>?_⟩;refine ⟨_,.skip ((G6 hd).trans hg),λt he=>by rw [he,BJ,BJ],⟨λt ht=>Jm ht,λs hs=>by rw [zA],λs hs=>by rw [zB]⟩,⟨λs hs=>by rw [zA,zA]; exact hon.ob s hs,λs hs=>by rw [zB,zB]; exact hon.rw s hs⟩⟩
def RJ(a b:Option (List Nat)):Bool:=match a,b with
 | some [],_=>true
 | _,some []=>true
 | some a,some b=>a.all λx=>!b.contains x
 | _,_=>false
theorem BK{a b:Option (List Nat)}(h:RJ a b=true){k:Nat}(ha:k7 a k):¬ k7 b k:=by
 intro hb;unfold RJ at h
 split at h
 ·simp [k7] at ha
 ·simp [k7] at hb
 ·have:=List.all_eq_true.1 h k ha;simp at this;exact this hb
 ·cases h
def zC(ops:Array Oper)(o:Oper):List Nat:=Uc ops o++o.op.operands.toList.filterMap λ| .tmp t=>some t | _=>none
def Jn(d:Option Nat)(l:List Nat):Bool:=match d with | some d=>l.contains d | none=>false
def Ob(p:Nat->Bool)(ρ:Nat->dZ)(ops:Array Oper)(o1 o2:Oper):Bool :=
 !Jn o1.dst (o2.dst.toList++zC ops o2) && !Jn o2.dst (zC ops o1) && RJ (dq p ρ o1).oW (dq p ρ o2).oR && RJ (dq p ρ o2).oW (dq p ρ o1).oR &&
  RJ (dq p ρ o1).rW (dq p ρ o2).rR && RJ (dq p ρ o2).rW (dq p ρ o1).rR
theorem D6{t:Nat}(h:.tmp t∈o.op.operands.toList):t∈zC ops o:=by
 unfold zC;exact List.mem_append.2 (.inr (List.mem_filterMap.2 ⟨_,h,rfl⟩))
theorem Ud{o1 o2:Oper}{b:St}{c:St}(hi:Ob p ρ ops o1 o2=true)(h2:xh P p ρ ops o2 st b)(h1:xh P p ρ ops o1 b c):∃ b',xh P p ρ ops o1 st b'/\xh P p ρ ops o2 b' c:=by
 simp only [Ob,sk,Bool.not_eq_true'] at hi;obtain ⟨⟨⟨⟨⟨hd1,hd2⟩,ho12⟩,ho21⟩,hr12⟩,hr21⟩:=hi;have hn1:∀ t,o1.dst=some t->t∉o2.dst.toList/\t∉zC ops o2:=λt ht=>by
  rw [ht] at hd1;simp [Jn] at hd1;exact ⟨by simpa using hd1.1,hd1.2⟩
 have hn2:∀ t,o2.dst=some t->t∉zC ops o1:=λt ht=>by
  rw [ht] at hd2
  simpa [Jn] using hd2
 obtain ⟨a1,a2⟩:=h2.loc;obtain ⟨b1,b2⟩:=h1.loc;have e1:=IM p ρ o1;have e2:=IM p ρ o2;have hO12:∀ s,(dq p ρ o1).dom.oW s->¬ (dq p ρ o2).dom.oR s:=λs=>BK ho12;have hO21:∀ s,(dq p ρ o2).dom.oW s->¬ (dq p ρ o1).dom.oR s:=λs=>BK ho21;have hR12:∀ r,(dq p ρ o1).dom.rW r->¬ (dq p ρ o2).dom.rR r:=λs=>BK hr12;have hR21:∀ r,(dq p ρ o2).dom.rW r->¬ (dq p ρ o1).dom.rR r:=λs=>BK hr21;obtain ⟨b',c1,c2,c3,c4⟩:=b2 st (λt ht=>(a1.1 t (λhe=>hn2 t he (D6 ht))).symm) (λt ht=>(a1.1 t (λhe=>hn2 t he (List.mem_append.2 (.inl ht)))).symm)
  ⟨λs hs=>(a1.2.1 s (λhw=>hO21 s hw hs)).symm,λs hs=>(a1.2.2 s (λhw=>hR21 s hw hs)).symm⟩
 obtain ⟨c',f1,f2,f3,f4⟩:=a2 b' (λt ht=>c3.1 t (λhe=>(hn1 t he).2 (D6 ht))) (λt ht=>c3.1 t (λhe=>(hn1 t he).2 (List.mem_append.2 (.inl ht))))
  ⟨λs hs=>c3.2.1 s (λhw=>hO12 s hw hs),λs hs=>c3.2.2 s (λhw=>hR12 s hw hs)⟩
 have hcc:c'=c:=by
  refine St.ext (funext λt=>?_) (funext λs=>?_) (funext λr=>?_)
  ·by_cases h2t:o2.dst=some t
   ·rw [f2 t h2t];exact (b1.1 t (λhe=>(hn1 t he).1 (by rw [h2t]; simp))).symm
   ·by_cases h1t:o1.dst=some t
    ·rw [f3.1 t h2t,c2 t h1t]
    ·rw [f3.1 t h2t,c3.1 t h1t,b1.1 t h1t,a1.1 t h2t]
  ·by_cases h2s:(dq p ρ o2).dom.oW s
   ·rw [f4.ob s (e2.ob s h2s)];exact (b1.2.1 s (λhw=>hO12 s hw (e2.ob s h2s))).symm
   ·by_cases h1s:(dq p ρ o1).dom.oW s
    ·rw [f3.2.1 s h2s,c4.ob s (e1.ob s h1s)]
    ·rw [f3.2.1 s h2s,c3.2.1 s h1s,b1.2.1 s h1s,a1.2.1 s h2s]
  ·by_cases h2s:(dq p ρ o2).dom.rW r
   ·rw [f4.rw r (e2.rw r h2s)];exact (b1.2.2 r (λhw=>hR12 r hw (e2.rw r h2s))).symm
   ·by_cases h1s:(dq p ρ o1).dom.rW r
    ·rw [f3.2.2 r h2s,c4.rw r (e1.rw r h1s)]
    ·rw [f3.2.2 r h2s,c3.2.2 r h1s,b1.2.2 r h1s,a1.2.2 r h2s]
 exact ⟨b',c1,hcc ▸ f1⟩
def qF(P:Program)(p:Nat->Bool)(ρ:Nat->dZ)(ops:Array Oper)(i:Nat)(st st':St):Prop:=match ops[i]? with
 | some o=>xh P p ρ ops o st st'
 | none=>st'=st
def Jo(P:Program)(p:Nat->Bool)(ρ:Nat->dZ)(ops:Array Oper):List Nat->St->St->Prop
 | [],st,st'=>st'=st
 | i :: l,st,st'=>∃ b,qF P p ρ ops i st b/\Jo P p ρ ops l b st'
def sU(p:Nat->Bool)(ρ:Nat->dZ)(ops:Array Oper)(i j:Nat):Bool:=match ops[i]?,ops[j]? with
 | some a,some b=>Ob p ρ ops a b
 | _,_=>true
theorem D7{i j:Nat}{b c:St}(hi:sU p ρ ops i j=true)(h2:qF P p ρ ops j st b)(h1:qF P p ρ ops i b c):∃ b',qF P p ρ ops i st b'/\qF P p ρ ops j b' c:=by
 unfold qF sU at *
 revert h1 h2 hi
 cases ops[i]? <;> cases ops[j]? <;> simp only [] <;> intro hi h2 h1
 ·exact ⟨st,rfl,by rw [h1,h2]⟩
 ·exact ⟨st,rfl,by rw [h1]; exact h2⟩
 ·exact ⟨c,h2 ▸ h1,rfl⟩
 ·exact Ud hi h2 h1
theorem pull{i:Nat}:∀ {l:List Nat} {st st':St},i∈l->(∀ l1 l2,l=l1++i :: l2->i∉l1->∀ j∈l1,sU p ρ ops i j=true)->Jo P p ρ ops l st st'->∃ b,qF P p ρ ops i st b/\Jo P p ρ ops (l.erase i) b st'
 | [],st,st',h,_,_=>by simp at h
 | j :: l,st,st',h,hind,hr=>by
  by_cases he:i=j
  ·subst he;rw [List.erase_cons_head];exact hr
  ·obtain ⟨b,h1,h2⟩:=hr;have him:i∈l:=(List.mem_cons.1 h).resolve_left he;obtain ⟨c,h3,h4⟩:=pull him (λl1 l2 hl hni j' hj'=>hind (j :: l1) l2 (by rw [hl]; rfl) (by simp [he,hni]) j' (zQv _ hj')) h2;have hij:sU p ρ ops i j=true:=by
    obtain ⟨l1,l2,hl,hni⟩:=List.eq_append_cons_of_mem him;exact hind (j :: l1) l2 (by rw [hl]; rfl) (by simp [he,hni]) j (zQh ..)
   obtain ⟨d,h5,h6⟩:=D7 hij h1 h3;refine ⟨d,h5,?_⟩;rw [List.erase_cons_tail (by simpa using λh=>he h.symm)];exact ⟨c,h6,h4⟩
end
end Go.Tm
namespace Go.Tm
open Go.RowKit
section
variable {P:Program} {E:En} [Tb P E] {g:Gh} {st st':St} {a:Act} {w:World} {p:Nat->Bool} {ρ:Nat->dZ} {o:Oper} {x:A} {ops:Array Oper} {n:Nat}
theorem fd.put(h:fd E g st w)(d:Option Nat)(v:A):fd E g (st.put d v) w:=by
 cases d with
 | none=>exact h
 | some d=>exact ⟨h.ob,h.obne,h.row,h.rowne,h.rowob,h.F,h.os,h.tape,h.output,h.sizes,h.frame,h.shp,h.dep0⟩
theorem iM.put{v:Value}{g':Gh}{w':World}{st1:St}{d:Option Nat}(hS:iM E g n st a w)(h:vz E g st w x st1 v g' w')(hd:∀ t,d=some t->t < n):iM E g' n (st1.put d x) (a.put d v) w':=by
 refine ⟨h.mem.put d x,?_,?_,λi hi=>?_,λi hi=>?_,λs b hs=>?_,λv' hv'=>by
  obtain ⟨h1,h2⟩:=hS.pin v' hv';exact ⟨by unfold St.R; rw [zB]; exact (h.ext.R _ h1).1,(h.ext.R _ h1).2.trans h2⟩⟩
 ·cases d <;> simp [Act.put,hS.size]
 ·cases d <;> simp [Act.put,hS.defers]
 ·cases d with
  | none =>
   obtain ⟨u,h1,h2⟩:=hS.tm i hi;exact ⟨u,h1,by show VR w' g' st1.O st1.R (st1.tm i) u; rw [h.tm]; exact h2.mono h.ext⟩
  | some d =>
   by_cases he:d=i
   ·subst he;exact ⟨v,by simp [Act.put,hS.size,hi],by show VR w' g' st1.O st1.R (eF st1.tm d x d) v; rw [di]; exact h.vr⟩
   ·obtain ⟨u,h1,h2⟩:=hS.tm i hi;refine ⟨u,by simp only [Act.put]; rw [Array.getElem?_setIfInBounds_ne he]; exact h1,?_⟩;show VR w' g' st1.O st1.R (eF st1.tm d x i) u;rw [cg _ _ _ _ (λh=>he h.symm),h.tm];exact h2.mono h.ext
 ·rw [Jm (λhe=>by have:=hd i he; omega),h.tm];exact hS.und i hi
 ·obtain ⟨h1,h2⟩:=hS.lent s b hs;refine ⟨?_,(h.ext.O s h1).2.trans h2⟩;unfold St.O;rw [zA];exact (h.ext.O s h1).1
theorem iM.skip{d:Option Nat}(hS:iM E g n st a w)(hd:∀ t,d=some t->t < n):iM E g n (st.put d (.tup [])) (a.put d undef) w:=by
 refine hS.put ⟨hS.mem,?_,p9.refl _ _ _ _,rfl⟩ hd;exact .tup [] [] rfl (λi x u h=>by simp at h)
theorem iM.drew(hS:iM E g n st a w):iM E g n st a { w with drawn:=w.drawn+1 }:=by
 have hsame:wA g.F w { w with drawn:=w.drawn+1 }:=λ_ _=>rfl;obtain ⟨⟨h1,h2,h3,h4,h5,h6,h7,h8,h9,h10,h11,hsp,hd0⟩,h12,h13,h14,h15,h16,h17⟩:=hS;have hE:p9 w { w with drawn:=w.drawn+1 } g g st.O st.R st.O st.R:=⟨hsame,λ_ h=>h,λ_ h=>⟨h,rfl⟩,λ_ h=>⟨h,rfl⟩,⟨rfl,rfl,rfl⟩,rfl,rfl⟩;refine ⟨⟨λs cells hs=>?_,h2,λr x hr=>(h3 r x hr).mono hsame (λ_ h=>h) (λ_ b hb=>⟨rfl,λh=>h⟩),h4,h5,h6,h7,h8,h9,h10,h11,hsp,hd0⟩,h12,h13,λi hi=>?_,h15,h16,h17⟩
 ·obtain ⟨arr,e,q1,q2,q3,q4⟩:=h1 s cells hs;exact ⟨arr,e,q1,q2,λj x hj=>by obtain ⟨r1,v,r2,r3⟩:=q3 j x hj; exact ⟨r1,v,r2,r3.mono hE⟩,q4⟩
 ·obtain ⟨v,q1,q2⟩:=h14 i hi;exact ⟨v,q1,q2.mono hE⟩
theorem L8{b:Bool}(hS:iM E g n st a w)(h:ir ops st o=some b):Region.wanted o (yielded ops a.tmps)=b:=by
 unfold ir at h;unfold Region.wanted
 split at h
 ·rename_i hg
  cases h
  simp only [hg]
 ·rename_i j want hg;simp only [hg]
  split at h
  ·rename_i hd
   cases h
   simp [yielded,hd]
  ·rename_i d hd;have hlt:d < n:=by
    rcases Nat.lt_or_ge d n with hlt | hge
    ·exact hlt
    ·rw [hS.und d hge] at h; cases h
   obtain ⟨v,h1,h2⟩:=hS.tm d hlt
   split at h
   ·rename_i b' hb
    cases h
    rw [hb] at h2
    cases h2 with
    | t x v h3 =>
     cases h3
     simp [yielded,hd,h1]
   ·rename_i hb
    cases h
    rw [hb] at h2
    cases h2 with
    | tup l vs hl hx =>
     have:vs=[]:=r0 (by simpa using hl.symm);subst this;simp [yielded,hd,h1]
   ·cases h
def nm(n:Nat)(o:Oper):Bool:=match o.dst with | some d=>Nat.blt d n | none=>true
theorem Jp(h:nm n o=true):∀ t,o.dst=some t->t < n:=by
 intro t ht;rw [nm,ht] at h
 simpa using h
theorem wB{i:Nat}{K:Act->World->Prop}{Q:Exit->Act->World->Prop}(hS:iM E g n st a w)(hd:∀ o,ops[i]?=some o->nm n o=true)(h:qF P p ρ ops i st st')
  (hK:∀ g' a' w',iM E g' n st' a' w'->K a' w'):wpOp P ops Q i K a w:=by
 unfold wpOp;unfold qF at h
 split
 ·rename_i ho;rw [ho] at h;simp only at h;subst h;exact hK g a w hS
 ·rename_i o ho;rw [ho] at h;simp only at h;have hdo:=Jp (hd o ho)
  cases h with
  | run x st1 hg hf he =>
   rw [L8 hS hg,if_pos rfl];exact .inl (he.sound hS K Q λv w' ⟨g',hA⟩=>hK g' _ _ (hS.put hA hdo))
  | skip hg =>
   rw [L8 hS hg,if_neg (by simp)];exact hK g _ _ (hS.skip hdo)
theorem L9{Q:Exit->Act->World->Prop}(hd:∀ (i:Nat) (o:Oper),ops[i]?=some o->nm n o=true)(hQ:∀ g a w,iM E g n st' a w->Q .normal a w):∀ {l:List Nat} {st:St} {g:Gh} {a:Act} {w:World},iM E g n st a w->Jo P p ρ ops l st st'->wpOps P ops Q l a w
 | [],st,g,a,w,hS,h=>hQ g a w (by have h:st'=st:=h; rw [h]; exact hS)
 | i :: l,st,g,a,w,hS,⟨b,h1,h2⟩=>by
  rw [wpOps_cons];exact wB hS (hd i) h1 λg' a' w' hS'=>L9 hd hQ hS' h2
def SU(D:Array Nat)(o:Oper):Nat:=o.after.toList.foldl (λs e=>if Region.binds .any e then s ||| 2 ^ e.on ||| D.getD e.on 0 else s) 0
def Ma(p:Nat->Bool)(ρ:Nat->dZ)(n:Nat)(ops:Array Oper):Bool :=
 let D:=Region.before ops
 (zXW ops.size).all λi=>match ops[i]? with
  | none=>true
  | some o=>nm n o && (o.after.toList.all λe=>!Region.binds .any e || Nat.blt e.on i) && zWv (D.getD i 0) (SU D o) && (zXW i).all λj=>(D.getD i 0).testBit j || sU p ρ ops i j
theorem Mb{D:Array Nat}{j:Nat}:∀ {l:List Edge} {s:Nat},(l.foldl (λs e=>if Region.binds .any e then s ||| 2 ^ e.on ||| D.getD e.on 0 else s) s).testBit j=true->s.testBit j=true\/∃ e∈l,Region.binds .any e=true/\(e.on=j\/(D.getD e.on 0).testBit j=true)
 | [],s,h=>.inl h
 | e :: l,s,h=>by
  simp only [zYK] at h;rcases Mb h with h | ⟨e',he',h⟩
  ·split at h
   ·rename_i hb;simp only [Nat.testBit_or,Bool.or_eq_true] at h;rcases h with (h | h) | h
    ·exact .inl h
    ·rw [Nat.testBit_two_pow] at h;exact .inr ⟨e,zQh ..,hb,.inl (by simpa using h)⟩
    ·exact .inr ⟨e,zQh ..,hb,.inr h⟩
   ·exact .inl h
  ·exact .inr ⟨e',zQv _ he',h⟩
structure D8 (p:Nat->Bool) (ρ:Nat->dZ) (n:Nat) (ops:Array Oper) (D:Array Nat):Prop where
 dst:∀ (i:Nat) (o:Oper),ops[i]?=some o->nm n o=true
 back:∀ (i:Nat) (o:Oper),ops[i]?=some o->∀ e∈o.after,Region.binds .any e=true->e.on < i
 dep:∀ (i:Nat) (o:Oper),ops[i]?=some o->∀ j,(D.getD i 0).testBit j=true->∃ e∈o.after,Region.binds .any e=true/\(e.on=j\/(D.getD e.on 0).testBit j=true)
 ind:∀ (i j:Nat) (o:Oper),ops[i]?=some o->j < i->(D.getD i 0).testBit j=true\/sU p ρ ops i j=true
theorem Jq(h:Ma p ρ n ops=true):D8 p ρ n ops (Region.before ops):=by
 have hh:∀ (i:Nat) (o:Oper),ops[i]?=some o->((nm n o=true/\(o.after.toList.all λe=>!Region.binds .any e || Nat.blt e.on i)=true)/\zWv ((Region.before ops).getD i 0) (SU (Region.before ops) o)=true)/\((zXW i).all λj=>((Region.before ops).getD i 0).testBit j || sU p ρ ops i j)=true:=λi o hi=>by
  have hlt:i < ops.size:=(Array.getElem?_eq_some_iff.1 hi).1;have:=List.all_eq_true.1 h i (List.mem_range.2 hlt);rw [hi] at this
  simpa only [sk] using this
 refine ⟨λi o hi=>(hh i o hi).1.1.1,λi o hi e he hb=>?_,λi o hi j hj=>?_,λi j o hi hj=>?_⟩
 ·have:=List.all_eq_true.1 (hh i o hi).1.1.2 e (by simpa using he);rw [hb] at this
  simpa using this
 ·rw [zWG (hh i o hi).1.2] at hj;rcases Mb hj with h | ⟨e,he,h⟩
  ·simp at h
  ·exact ⟨e,by simpa using he,h⟩
 ·have:=List.all_eq_true.1 (hh i o hi).2 j (List.mem_range.2 hj)
  simpa only [Bool.or_eq_true] using this
def Vi(ops:Array Oper)(listed:Array Bool):Prop:=∀ (k:Nat) (o:Oper),listed.getD k false=true->ops[k]?=some o->∀ e∈o.after,Region.binds .any e=true->listed.getD e.on false=true
theorem closed{D:Array Nat}{listed:Array Bool}(hF:D8 p ρ n ops D)(hd:Vi ops listed):∀ (i:Nat) (o:Oper),ops[i]?=some o->(∀ e∈o.after,Region.binds .any e=true->listed.getD e.on false=true)->∀ j,(D.getD i 0).testBit j=true->listed.getD j false=true:=by
 intro i
 induction i using Nat.strongRecOn with
 | _ i ih =>
  intro o ho hall j hj;obtain ⟨e,he,hb,h⟩:=hF.dep i o ho j hj;rcases h with rfl | h
  ·exact hall e he hb
  ·have hlt:e.on < i:=hF.back i o ho e he hb;have hlt2:e.on < ops.size:=Nat.lt_trans hlt (Array.getElem?_eq_some_iff.1 ho).1;exact ih e.on hlt _ (zXY hlt2) (hd e.on _ (hall e he hb) (zXY hlt2)) j h
def rem(ops:Array Oper)(listed:Array Bool):List Nat:=(zXW ops.size).filter λi=>!listed.getD i true
theorem rc{listed:Array Bool}{i:Nat}:i∈rem ops listed↔i < ops.size/\listed.getD i true=false:=by
 simp [rem]
theorem IN{listed:Array Bool}{i:Nat}(hs:listed.size=ops.size)(hi:i∈rem ops listed):rem ops (listed.setIfInBounds i true)=(rem ops listed).erase i:=by
 have hnd:(rem ops listed).Nodup:=List.Pairwise.filter _ List.nodup_range;rw [hnd.erase_eq_filter];unfold rem;rw [List.filter_filter];refine List.filter_congr λj hj=>?_
 by_cases he:i=j
 ·subst he;have:i < listed.size:=by rw [hs]; exact List.mem_range.1 hj
  simp [this]
 ·rw [getD_set_ne true he];have hji:(j != i)=true:=by simpa using λh:j=i=>he h.symm
  simp only [hji,zWk,Bool.and_true]
theorem IP{listed:Array Bool}{k:Nat}(hlt:k < listed.size):listed.getD k true=listed.getD k false:=by
 simp [hlt]
theorem RK{D:Array Nat}{Q:Exit->Act->World->Prop}(hF:D8 p ρ n ops D)(hQ:∀ g a w,iM E g n st' a w->Q .normal a w) :
  ∀ (fuel:Nat) (listed:Array Bool) (st:St) (g:Gh) (a:Act) (w:World),listed.size=ops.size->Vi ops listed->(rem ops listed).length=fuel->Jo P p ρ ops (rem ops listed) st st'->iM E g n st a w->wpAny P .any ops Q fuel listed a w:=by
 intro fuel
 induction fuel with
 | zero =>
  intro listed st g a w hs hd hl hr hS;have h0:rem ops listed=[]:=r0 hl;rw [h0] at hr;have hr:st'=st:=hr;refine ⟨?_,hQ g a w (hr ▸ hS)⟩;refine List.eq_nil_iff_forall_not_mem.2 λj hj=>?_;obtain ⟨h1,o,ho,_⟩:=mem_ready.1 hj;have:j∈rem ops listed:=rc.2 ⟨(Array.getElem?_eq_some_iff.1 ho).1,h1⟩;rw [h0] at this;simp at this
 | succ fuel ih =>
  intro listed st g a w hs hd hl hr hS;have hsorted:(rem ops listed).Pairwise (· < ·):=List.Pairwise.filter _ List.pairwise_lt_range;refine ⟨λhnil=>?_,λi hi=>?_⟩
  ·exfalso
   cases hrem:rem ops listed with
   | nil=>rw [hrem] at hl; cases hl
   | cons i l =>
    have him:i∈rem ops listed:=by rw [hrem]; simp
    obtain ⟨hlt,hun⟩:=rc.1 him;have:i∈Region.ready .any ops listed:=by
     refine mem_ready.2 ⟨hun,_,zXY hlt,λe he hb=>?_⟩;have hlt2:=hF.back i _ (zXY hlt) e he hb;have hlt3:e.on < listed.size:=by omega
     cases hee:listed.getD e.on false with
     | true=>rfl
     | false =>
      have hm:e.on∈rem ops listed:=rc.2 ⟨by omega,by rw [IP hlt3]; exact hee⟩;rw [hrem] at hm hsorted;rcases List.mem_cons.1 hm with h | h
      ·omega
      ·have:=(List.pairwise_cons.1 hsorted).1 _ h;omega
    rw [hnil] at this;simp at this
  ·obtain ⟨hun,o,ho,hall⟩:=mem_ready.1 hi;have hlt:i < ops.size:=(Array.getElem?_eq_some_iff.1 ho).1;have him:i∈rem ops listed:=rc.2 ⟨hlt,hun⟩;obtain ⟨b,h1,h2⟩:=pull him (λl1 l2 hsplit hni j hj=>by
    have hjm:j∈rem ops listed:=by rw [hsplit]; exact List.mem_append.2 (.inl hj)
    have hji:j < i:=by
     rw [hsplit] at hsorted;exact (List.pairwise_append.1 hsorted).2.2 j hj i (zQh ..)
    rcases hF.ind i j o ho hji with h | h
    ·have h3:=closed hF hd i o ho hall j h;have h4:=(rc.1 hjm).2;rw [IP (by rw [hs]; exact (rc.1 hjm).1),h3] at h4
     cases h4
    ·exact h) hr
   refine wB hS (hF.dst i) h1 λg' a' w' hS'=>ih (listed.setIfInBounds i true) b g' a' w' (by simp [hs]) ?_ ?_ ?_ hS'
   ·intro k o' hk ho' e he hb
    by_cases hik:i=k
    ·subst hik;rw [ho] at ho';injection ho' with ho'
     subst ho';exact getD_set_true (hall e he hb)
    ·rw [getD_set_ne false hik] at hk;exact getD_set_true (hd k o' hk ho' e he hb)
   ·rw [IN hs him,List.length_erase_of_mem him,hl];rfl
   ·rw [IN hs him];exact h2
def AG(P:Program)(p:Nat->Bool)(ρ:Nat->dZ)(ops:Array Oper):List Oper->St->St->Prop
 | [],st,st'=>st'=st
 | o :: l,st,st'=>∃ b,xh P p ρ ops o st b/\AG P p ρ ops l b st'
theorem vC:∀ {l:List Oper} {k:Nat} {st:St},(∀ j,l[j]?=ops[k+j]?)->AG P p ρ ops l st st'->Jo P p ρ ops (zWY k l.length) st st'
 | [],k,st,_,h=>h
 | o :: l,k,st,hl,⟨b,h1,h2⟩=>by
  refine ⟨b,?_,vC (k:=k+1) (λj=>by have:=hl (j+1); simpa [zZY,Nat.add_comm 1 j] using this) h2⟩;have:=hl 0;simp at this;unfold qF;rw [<- this];exact h1
theorem MS{Q:Exit->Act->World->Prop}{id:Nat}{draw:Bool}(hm:draw=true->P.follows .mixedOrders=true)(hok:if draw then Ma p ρ n ops=true else ops.toList.all (nm n)=true)
  (hS:iM E g n st a w) (hr:AG P p ρ ops ops.toList st st') (hQ:∀ g a w,iM E g n st' a w->Q .normal a w):(Code.region id ops draw).wp P Q a w:=by
 have hrI:Jo P p ρ ops (zXW ops.size) st st':=by
  have:=vC (k:=0) (l:=ops.toList) (by simp) hr;rw [zXx]
  simpa using this
 cases draw with
 | false =>
  refine wp_region (L9 (λi o ho=>?_) hQ hS hrI);exact List.all_eq_true.1 (show ops.toList.all (nm n)=true from hok) o (by simpa using Array.mem_of_getElem? ho)
 | true =>
  have hF:=Jq (by simpa using hok);have hrem:rem ops (zZW ops.size false)=zXW ops.size:=by
   unfold rem;refine List.filter_eq_self.2 λi hi=>?_;have:i < ops.size:=List.mem_range.1 hi;simp [this]
  refine wp_region_any (hm rfl) (RK hF hQ _ _ st g a _ (by simp) (λk o hk=>?_) (by rw [hrem]; simp) (by rw [hrem]; exact hrI) hS.drew)
  by_cases hlt:k < ops.size <;> simp [hlt] at hk
end
end Go.Tm
namespace Go.Tm
open Go.RowKit
def EL(E:En)(ls:List Nat):Prop:=∃ fl,ls=E.lent.map Prod.fst++fl/\(∀ q∈E.lent,900<=q.1)/\(∀ v,E.pin=some v->0∈fl)/\(1∈fl->∀ b,¬ E.F0 b/\¬ E.X b)
theorem EL.mem{E:En}{ls:List Nat}(h:EL E ls){i b:Nat}(hi:(i,b)∈E.lent):i∈ls/\900<=i:=by
 obtain ⟨fl,rfl,h2,_⟩:=h;exact ⟨zVY _ (List.mem_map.2 ⟨_,hi,rfl⟩),h2 _ hi⟩
theorem EL.pin{E:En}{ls:List Nat}(h:EL E ls){v:Value}(hv:E.pin=some v):0∈ls:=by
 obtain ⟨fl,rfl,_,h2,_⟩:=h;exact List.mem_append_right _ (h2 v hv)
def QX(P:Program)(E:En)(ls:List Nat):Prop:=EL E ls/\Tb P E
def Wp(P:Program)(n:Nat)(ls:List Nat)(c:Code)(Q:Exit->St->Prop)(st:St):Prop :=
 ∀ (E:En) (g:Gh) (a:Act) (w:World),QX P E ls->iM E g n st a w->c.wp P (λe a' w'=>∃ g' st',iM E g' n st' a' w'/\Q e st') a w
def iL(N:St->Prop)(Q:Exit->St->Prop):Exit->St->Prop
 | .normal,st=>N st
 | e,st=>Q e st
def Ue(id:Nat)(Q:Exit->St->Prop):Exit->St->Prop
 | .exit id',st=>bif zWv id' id then Q .normal st else Q (.exit id') st
 | e,st=>Q e st
def Le(n:Nat)(ls:List Nat)(st st1:St):Prop:=∀ (E:En) (g:Gh) (a:Act) (w:World),EL E ls->iM E g n st a w->∃ g',iM E g' n st1 a w
section
variable {P:Program} {n:Nat} {ls:List Nat} {Q:Exit->St->Prop} {st st':St} {x y c:Code}
theorem Wp.skip(h:Q .normal st):Wp P n ls .skip Q st:=λE g a w hE hS=>wp_skip ⟨g,st,hS,h⟩
theorem Wp.ret(h:Q .ret st):Wp P n ls .ret Q st:=λE g a w hE hS=>wp_ret ⟨g,st,hS,h⟩
theorem Wp.exit{id:Nat}(h:Q (.exit id) st):Wp P n ls (.exit id) Q st:=λE g a w hE hS=>wp_exit ⟨g,st,hS,h⟩
theorem Wp.mono{Q':Exit->St->Prop}(h:Wp P n ls c Q st)(hq:∀ e st,Q e st->Q' e st):Wp P n ls c Q' st :=
 λE g a w hE hS=>wp_mono (h E g a w hE hS) λe a' w' ⟨g',st',h1,h2⟩=>⟨g',st',h1,hq e st' h2⟩
theorem Wp.seq(h:Wp P n ls x (iL (Wp P n ls y Q) Q) st):Wp P n ls (.seq x y) Q st :=
 λE g a w hE hS=>wp_seq (wp_mono (h E g a w hE hS) λe a' w' ⟨g',st',h1,h2⟩=>by
  cases e with
  | normal=>exact h2 E g' a' w' hE h1
  | _=>exact ⟨g',st',h1,h2⟩)
theorem Wp.cond{o:Operand}{b:Bool}(ho:st.eval o=some (.t (.bool b)))(h:Wp P n ls (if b then x else y) Q st):Wp P n ls (.cond o x y) Q st :=
 λE g a w hE hS=>by
  have hv:=bV hS ho;generalize hva:a.eval o=v at hv
  cases hv with
  | t x v hr =>
   cases hr
   exact wp_cond hva (h E g a w hE hS)
theorem SV{o:Operand}{b:Bool}(ho:st.eval o=some (.t (.bool b)))(ht:b=true->Wp P n ls x Q st)(hf:b=false->Wp P n ls y Q st):Wp P n ls (.cond o x y) Q st :=
 Wp.cond ho (by
  cases b with
  | true=>exact ht rfl
  | false=>exact hf rfl)
theorem Wp.block{id:Nat}(h:Wp P n ls c (Ue id Q) st):Wp P n ls (.block id c) Q st :=
 λE g a w hE hS=>wp_block (wp_mono (h E g a w hE hS) λe a' w' ⟨g',st',h1,h2⟩=>by
  cases e with
  | exit id' =>
   simp only [Exit.inBlock];simp only [Ue] at h2
   split
   ·rename_i he;subst he;rw [zZz] at h2;exact ⟨g',st',h1,h2⟩
   ·rename_i he;have:zWv id' id=false:=by
     cases hb:zWv id' id
     ·rfl
     ·exact absurd (zWG hb) he
    rw [this] at h2;exact ⟨g',st',h1,h2⟩
  | _=>exact ⟨g',st',h1,h2⟩)
def UX(P:Program)(n:Nat)(ls:List Nat)(c:Code)(Q:Exit->St->Prop):Nat->St->Prop
 | 0,_=>False
 | k+1,st=>Wp P n ls c (iL (UX P n ls c Q k) Q) st
def Ad(P:Program)(c:Code)(Q:Exit->Act->World->Prop):Nat->Act->World->Prop
 | 0,_,_=>False
 | k+1,a,w=>c.wp P (Exit.then (Ad P c Q k) Q) a w
theorem Oc{c:Code}{Q:Exit->Act->World->Prop}{a:Act}{w:World}{k:Nat}(h:Ad P c Q k a w):(Code.loop c).wp P Q a w:=by
 classical
 have key:∀ a w,(∃ k,Ad P c Q k a w)->∃ k,Ad P c Q k a w/\∀ j,Ad P c Q j a w->k<=j:=by
  intro a w ⟨k,hk⟩
  induction k using Nat.strongRecOn with
  | _ k ih =>
   by_cases hm:∀ j,Ad P c Q j a w->k<=j
   ·exact ⟨k,hk,hm⟩
   ·obtain ⟨j,hj⟩:=Classical.not_forall.1 hm;obtain ⟨hj1,hj2⟩:=Classical.not_imp.1 hj;exact ih j (by omega) hj1
 let μ:Act->World->Nat:=λa w=>if h:∃ k,Ad P c Q k a w then Classical.choose (key a w h) else 0
 have hμ:∀ a w (h:∃ k,Ad P c Q k a w),Ad P c Q (μ a w) a w/\∀ j,Ad P c Q j a w->μ a w<=j:=by
  intro a w h;have:μ a w=Classical.choose (key a w h):=by simp only [μ,h,dite_true]
  rw [this];exact Classical.choose_spec (key a w h)
 refine wp_loop (λa w=>∃ k,Ad P c Q k a w) μ ⟨k,h⟩ λa w hI=>?_;obtain ⟨h1,h2⟩:=hμ a w hI
 cases hm:μ a w with
 | zero=>rw [hm] at h1; exact h1.elim
 | succ m =>
  rw [hm] at h1;refine wp_mono h1 λe a' w' hq=>?_
  cases e with
  | normal =>
   have hI':∃ k,Ad P c Q k a' w':=⟨m,hq⟩;exact ⟨hI',by have:=(hμ a' w' hI').2 m hq; omega⟩
  | _=>exact hq
theorem Wp.loop{k:Nat}(h:UX P n ls c Q k st):Wp P n ls (.loop c) Q st:=by
 intro E g a w hE hS;refine Oc (k:=k) ?_
 induction k generalizing st g a w with
 | zero=>exact h.elim
 | succ k ih =>
  refine wp_mono (h E g a w hE hS) λe a' w' ⟨g',st',h1,h2⟩=>?_
  cases e with
  | normal=>exact ih h2 g' a' w' h1
  | _=>exact ⟨g',st',h1,h2⟩
theorem Wp.le{st1:St}(hl:Le n ls st st1)(h:Wp P n ls c Q st1):Wp P n ls c Q st:=λE g a w hE hS=>by
 obtain ⟨g',hS'⟩:=hl E g a w hE.1 hS;exact h E g' a w hE hS'
def ae(P:Program)(p:Nat->Bool)(ρ:Nat->dZ)(ops:Array Oper)(l:List Oper)(st:St)(K:St->Prop):Prop:=∃ st',AG P p ρ ops l st st'/\K st'
theorem Wp.region{p:Nat->Bool}{ρ:Nat->dZ}{ops:Array Oper}{id:Nat}{draw:Bool}(hm:draw=true->P.follows .mixedOrders=true)(hok:if draw then Ma p ρ n ops=true else ops.toList.all (nm n)=true)
  (h:ae P p ρ ops ops.toList st (Q .normal)):Wp P n ls (.region id ops draw) Q st:=λE g a w hE hS=>by
 obtain ⟨st',h1,h2⟩:=h;have:=hE.2;exact MS hm hok hS h1 λg a w hS'=>⟨g,st',hS',h2⟩
section
variable {p:Nat->Bool} {ρ:Nat->dZ} {ops:Array Oper} {l:List Oper} {K:St->Prop} {o:Oper}
theorem ae.step{b:St}(h:xh P p ρ ops o st b)(hr:ae P p ρ ops l b K):ae P p ρ ops (o :: l) st K:=by
 obtain ⟨st',h1,h2⟩:=hr;exact ⟨st',⟨b,h,h1⟩,h2⟩
theorem ae.op{x:A}{st1:St}(hg:ir ops st o=some true)(hf:ew ρ st o=true)(h:(oJ P ρ st.eval o).run st=some (x,st1))(hr:ae P p ρ ops l (st1.put o.dst x) K):ae P p ρ ops (o :: l) st K :=
 ae.step (.run x st1 hg hf (.plain h)) hr
end
end
end Go.Tm
namespace Go.Tm
open Go.RowKit
mutual
def A.ren(φo φr:Nat->Nat):A->A
 | .own r=>.own (φr r)
 | .obj s off=>.obj (φo s) off
 | .elem r sz i off=>.elem (φr r) sz i off
 | .sub r sz lo=>.sub (φr r) sz lo
 | .win r lo m=>.win (φr r) lo m
 | .agg l=>.agg (ry φo φr l)
 | .tup l=>.tup (ry φo φr l)
 | .clo f l=>.clo f (ry φo φr l)
 | .t x=>.t x
 | .nil=>.nil
 | .fadr c=>.fadr c
 | .nn sz rows=>.nn sz rows
 | .undef=>.undef
 | .raw v=>.raw v
 | .osl s a n c=>.osl (φo s) a n c
 | .ext s x=>.ext s x
 | .exa s c=>.exa s c
 | .shp x=>.shp x
def ry(φo φr:Nat->Nat):List A->List A
 | []=>[]
 | a :: r=>a.ren φo φr :: ry φo φr r
end
mutual
def A.known(O R:Nat->Bool):A->Bool
 | .own r=>R r
 | .obj s _=>O s
 | .osl s _ _ _=>O s
 | .elem r _ _ _=>R r
 | .sub r _ _=>R r
 | .win r _ _=>R r
 | .agg l=>sV O R l
 | .tup l=>sV O R l
 | .clo _ l=>sV O R l
 | _=>true
def sV(O R:Nat->Bool):List A->Bool
 | []=>true
 | a :: r=>a.known O R && sV O R r
end
def AU{β:Type}:List (Nat×β)->Nat->Option β
 | [],_=>none
 | (k,v) :: r,i=>bif zWv k i then some v else AU r i
theorem pf{β:Type}:∀ {l:List (Nat×β)} {i:Nat} {v:β},AU l i=some v->(i,v)∈l
 | [],i,v,h=>by cases h
 | (k,u) :: r,i,v,h=>by
  unfold AU at h
  cases hk:zWv k i with
  | true =>
   rw [hk] at h
   cases h
   rw [zWG hk];exact zQh ..
  | false =>
   rw [hk] at h;exact zQv _ (pf h)
structure Sx where
 tm:List (Nat×A)
 ob:List (Nat×List A)
 rw:List (Nat×QQ)
def Sx.st(s:Sx):St:=⟨λi=>match AU s.tm i with | some a=>a | none=>.undef,AU s.ob,AU s.rw⟩
theorem AV{φo φr:Nat->Nat}:∀ (l:List A),(ry φo φr l).length=l.length
 | []=>rfl
 | a :: r=>by simp [ry,AV r]
theorem Jr{φo φr:Nat->Nat}:∀ (l:List A) (j:Nat),(ry φo φr l)[j]?=l[j]?.map (A.ren φo φr)
 | [],j=>by simp [ry]
 | a :: r,0=>by simp [ry]
 | a :: r,j+1=>by simp [ry,Jr r j]
theorem CO{O R:Nat->Bool}:∀ {l:List A},sV O R l=true->∀ (j:Nat) (a:A),l[j]?=some a->a.known O R=true
 | [],_,j,a,h=>by simp at h
 | x :: r,hk,j,a,h=>by
  unfold sV at hk;simp only [sk] at hk
  cases j with
  | zero=>simp at h; exact h ▸ hk.1
  | succ j=>exact CO hk.2 j a (by simpa using h)
theorem SW{w:World}{g:Gh}{O R:Nat->Prop}{φo φr:Nat->Nat}{O' R':Nat->Bool}:∀ (a:A) {v:Value},VR w g O R (a.ren φo φr) v->a.known O' R'=true ->
  VR w { g with ob:=λs=>g.ob (φo s),rw:=λr=>g.rw (φr r) } (λs=>O' s=true) (λr=>R' r=true) a v:=by
 have main:∀ (k:Nat) (a:A),SizeOf.sizeOf a < k->∀ {v:Value},VR w g O R (a.ren φo φr) v->a.known O' R'=true ->
   VR w { g with ob:=λs=>g.ob (φo s),rw:=λr=>g.rw (φr r) } (λs=>O' s=true) (λr=>R' r=true) a v:=by
  intro k
  induction k with
  | zero=>intro a h; omega
  | succ k ih =>
   intro a hk v h hn;have hl:∀ (l:List A) (vs:List Value),SizeOf.sizeOf l<=k->(∀ (j:Nat) (x:A) (u:Value),(ry φo φr l)[j]?=some x->vs[j]?=some u->VR w g O R x u)->sV O' R' l=true ->
     ∀ (j:Nat) (x:A) (u:Value),l[j]?=some x->vs[j]?=some u->VR w { g with ob:=λs=>g.ob (φo s),rw:=λr=>g.rw (φr r) } (λs=>O' s=true) (λr=>R' r=true) x u:=λl vs hs hx hkn j x u hj hu=>by
    have:=List.sizeOf_lt_of_mem (zQY hj);exact ih x (by omega) (hx j _ u (by rw [Jr,hj]; rfl) hu) (CO hkn j x hj)
   cases a with
   | t x=>unfold A.ren at h; cases h with | t x v h=>exact .t x v h
   | nil=>unfold A.ren at h; cases h; exact .nil
   | own r =>
    unfold A.ren at h;unfold A.known at hn
    cases h with | own _ hr=>exact .own (g:={ g with ob:=λs=>g.ob (φo s),rw:=λr=>g.rw (φr r) }) r hn
   | agg l =>
    unfold A.ren at h;unfold A.known at hn
    cases h with | agg _ vs h1 h2=>exact .agg l vs ((AV l).symm.trans h1) (hl l vs (by simp at hk; omega) h2 hn)
   | tup l =>
    unfold A.ren at h;unfold A.known at hn
    cases h with | tup _ vs h1 h2=>exact .tup l vs ((AV l).symm.trans h1) (hl l vs (by simp at hk; omega) h2 hn)
   | obj s off =>
    unfold A.ren at h;unfold A.known at hn
    cases h with | obj _ _ hs=>exact .obj (g:={ g with ob:=λs=>g.ob (φo s),rw:=λr=>g.rw (φr r) }) s off hn
   | elem r sz i off =>
    unfold A.ren at h;unfold A.known at hn
    cases h with | elem _ _ _ _ b n c hr he=>exact .elem r sz i off b n c hn he
   | win r lo m =>
    unfold A.ren at h;unfold A.known at hn
    cases h with | win _ _ _ n c c' ad a' hr he hm hp=>exact .win r lo m n c c' ad a' hn he hm hp
   | sub r sz lo =>
    unfold A.ren at h;unfold A.known at hn
    cases h with | sub _ _ _ n c c' ad a' hr he hp=>exact .sub r sz lo n c c' ad a' hn he hp
   | fadr c =>
    unfold A.ren at h
    cases h with | fadr _ b off u hF hx hr=>exact .fadr c b off u hF hx hr
   | nn sz rows =>
    unfold A.ren at h
    cases h with | nn _ _ _ hr hv=>exact .nn sz rows _ hr hv
   | clo f l =>
    unfold A.ren at h;unfold A.known at hn
    cases h with | clo _ _ vs h1 h2=>exact .clo f l vs ((AV l).symm.trans h1) (hl l vs (by simp at hk; omega) h2 hn)
   | undef=>exact .undef v
   | raw u =>
    unfold A.ren at h
    cases h with | raw=>exact .raw _
   | osl s a n c =>
    unfold A.ren at h;unfold A.known at hn
    cases h with | osl _ _ _ _ h1 h2=>exact VR.osl (g:={ g with ob:=λs=>g.ob (φo s),rw:=λr=>g.rw (φr r) }) s a n c hn h2
   | ext s x =>
    unfold A.ren at h
    cases h with | ext _ _ _ hs h=>exact .ext s x _ hs h
   | shp x =>
    unfold A.ren at h
    cases h with | shp _ _ h=>exact .shp x _ h
   | exa s c =>
    unfold A.ren at h
    cases h with | exa _ _ b off u hs hD hx hr=>exact .exa s c b off u hs hD hx hr
 intro a v;exact main (SizeOf.sizeOf a+1) a (by omega)
def AH(m:List (Nat×Nat))(i:Nat):Nat:=match AU m i with | some j=>j | none=>i
def Od:List Nat->Bool
 | []=>true
 | x :: r=>!r.contains x && Od r
theorem CP:∀ {l:List Nat},Od l=true->l.Nodup
 | [],_=>List.nodup_nil
 | x :: r,h=>by
  unfold Od at h;simp only [sk,Bool.not_eq_true'] at h;refine List.nodup_cons.2 ⟨λhm=>?_,CP h.2⟩;have:=h.1;simp at this;exact this hm
def Sx.O(s:Sx)(i:Nat):Bool:=(AU s.ob i).isSome
def Sx.R(s:Sx)(i:Nat):Bool:=(AU s.rw i).isSome
def IQ(O R:Nat->Bool):List (Nat×List A)->Bool
 | []=>true
 | (_,l) :: r=>sV O R l && IQ O R r
def IR(O R:Nat->Bool)(n:Nat):List (Nat×A)->Bool
 | []=>true
 | (k,a) :: r=>Nat.blt k n && a.known O R && IR O R n r
theorem G7{O R:Nat->Bool}:∀ {l:List (Nat×List A)},IQ O R l=true->∀ q∈l,sV O R q.2=true
 | [],_,q,h=>by simp at h
 | (k,x) :: r,hk,q,h=>by
  unfold IQ at hk;simp only [sk] at hk;rcases List.mem_cons.1 h with rfl | h
  ·exact hk.1
  ·exact G7 hk.2 q h
theorem AW{O R:Nat->Bool}{n:Nat}:∀ {l:List (Nat×A)},IR O R n l=true->∀ q∈l,q.1 < n/\q.2.known O R=true
 | [],_,q,h=>by simp at h
 | (k,x) :: r,hk,q,h=>by
  unfold IR at hk;simp only [sk] at hk;rcases List.mem_cons.1 h with rfl | h
  ·exact ⟨by simpa using hk.1.1,hk.1.2⟩
  ·exact AW hk.2 q h
def Sx.ok(s:Sx)(n:Nat)(ls:List Nat)(mo mr:List (Nat×Nat)):Bool :=
 Od (s.ob.map λq=>AH mo q.1) && Od (s.rw.map λq=>AH mr q.1) && IQ s.O s.R s.ob && IR s.O s.R n s.tm && ls.all λi=>match i with | 0=>s.R PR && zWv (AH mr PR) PR | 1=>true | i=>s.O i && zWv (AH mo i) i
theorem FM{β:Type}{φ:Nat->Nat}:∀ {l:List (Nat×β)},(l.map λq=>φ q.1).Nodup->∀ {q q':Nat×β},q∈l->q'∈l->φ q.1=φ q'.1->q=q'
 | [],_,q,q',h,_,_=>by simp at h
 | x :: r,hn,q,q',h,h',he=>by
  simp only [zWh,List.nodup_cons,zYZ,not_exists,not_and] at hn;rcases List.mem_cons.1 h with h1 | h1
  ·rcases List.mem_cons.1 h' with h2 | h2
   ·rw [h1,h2]
   ·subst h1; exact absurd he.symm (hn.1 q' h2)
  ·rcases List.mem_cons.1 h' with h2 | h2
   ·subst h2; exact absurd he (hn.1 q h1)
   ·exact FM hn.2 h1 h2 he
theorem IS{α β:Type}{f g:α->β}:∀ {l:List α},l.map f=l.map g->∀ x∈l,f x=g x
 | [],_,x,h=>by simp at h
 | y :: r,he,x,h=>by
  simp only [zWh,List.cons.injEq] at he;rcases List.mem_cons.1 h with rfl | h
  ·exact he.1
  ·exact IS he.2 x h
theorem Le.of{n:Nat}{ls:List Nat}{st:St}{s:Sx}{mo mr:List (Nat×Nat)}(hok:s.ok n ls mo mr=true)(ht:s.tm.map (λq=>st.tm q.1)=s.tm.map (λq=>q.2.ren (AH mo) (AH mr)))
  (ho:s.ob.map (λq=>st.ob (AH mo q.1))=s.ob.map (λq=>some (ry (AH mo) (AH mr) q.2))) (hr:s.rw.map (λq=>st.rw (AH mr q.1))=s.rw.map (λq=>some q.2)):Le n ls st s.st:=by
 simp only [Sx.ok,sk] at hok;obtain ⟨⟨⟨⟨hno,hnr⟩,hkl⟩,hkt⟩,hls⟩:=hok;intro E g a w hE hS;have hM:=hS.mem;have hob:∀ {i:Nat} {l:List A},AU s.ob i=some l->st.ob (AH mo i)=some (ry (AH mo) (AH mr) l):=λ{i l} h=>IS ho (i,l) (pf h);have hrw:∀ {i:Nat} {x:QQ},AU s.rw i=some x->st.rw (AH mr i)=some x:=λ{i x} h=>IS hr (i,x) (pf h);have hOe:(λi=>s.O i=true)=s.st.O:=rfl;have hRe:(λi=>s.R i=true)=s.st.R:=rfl;have hL:∀ {r},s.st.L r->st.L (AH mr r):=λ{r} ⟨e,sz,rows,h⟩=>⟨e,sz,rows,hrw h⟩;have hvr:∀ {x:A} {v:Value},VR w g st.O st.R (x.ren (AH mo) (AH mr)) v->x.known s.O s.R=true->VR w { g with ob:=λs=>g.ob (AH mo s),rw:=λr=>g.rw (AH mr r) } s.st.O s.st.R x v:=λ{x v} h hk=>by
  rw [<- hOe,<- hRe];exact SW x h hk
 refine ⟨{ g with ob:=λs=>g.ob (AH mo s),rw:=λr=>g.rw (AH mr r) },⟨⟨λi cells h=>?_,λi i' h h' he=>?_,λi x h=>hM.row _ x (hrw h),λr r' b h h' he he'=>?_,λr i h h'=>?_,hM.F,hM.os,hM.tape,hM.output,hM.sizes,hM.frame,hM.shp,hM.dep0⟩,hS.size,hS.defers,λi hi=>?_,λi hi=>?_,λi b hib=>?_,λv hv=>?_⟩⟩
 ·have h:AU s.ob i=some cells:=h;obtain ⟨arr,e,h1,h2,h3,h4,h5⟩:=hM.ob _ _ (hob h);rw [AV] at h2;refine ⟨arr,e,h1,h2,λj x hj=>?_,h4,h5⟩;obtain ⟨h6,v,h7,h8⟩:=h3 j (x.ren (AH mo) (AH mr)) (by rw [Jr,hj]; rfl);refine ⟨?_,v,h7,hvr h8 (CO (G7 hkl _ (pf h)) j x hj)⟩
  cases x <;> first | rfl | (simp [A.ren,A.one] at h6)
 ·obtain ⟨l,hl⟩:=Option.isSome_iff_exists.1 h;obtain ⟨l',hl'⟩:=Option.isSome_iff_exists.1 h';have:=hM.obne _ _ (show st.O _ by unfold St.O; rw [hob hl]; rfl) (show st.O _ by unfold St.O; rw [hob hl']; rfl) he;exact congrArg Prod.fst (FM (CP hno) (pf hl) (pf hl') this)
 ·have:=hM.rowne _ _ b (hL h) (hL h') he he';obtain ⟨e,sz,rows,hx⟩:=h;obtain ⟨e',sz',rows',hx'⟩:=h';exact congrArg Prod.fst (FM (CP hnr) (pf hx) (pf hx') this)
 ·obtain ⟨l,hl⟩:=Option.isSome_iff_exists.1 h';exact hM.rowob _ _ (hL h) (show st.O _ by unfold St.O; rw [hob hl]; rfl)
 ·obtain ⟨v,h1,h2⟩:=hS.tm i hi;refine ⟨v,h1,?_⟩;show VR w _ s.st.O s.st.R (match AU s.tm i with | some a=>a | none=>.undef) v
  cases hl:AU s.tm i with
  | none=>exact .undef v
  | some x =>
   have:=IS ht (i,x) (pf hl);simp only at this;rw [this] at h2;exact hvr h2 (AW hkt _ (pf hl)).2
 ·show (match AU s.tm i with | some a=>a | none=>.undef)=A.undef
  cases hl:AU s.tm i with
  | none=>rfl
  | some x =>
   have:=(AW hkt _ (pf hl)).1;simp only at this;omega
 ·obtain ⟨hi,h9⟩:=hE.mem hib;have:=List.all_eq_true.1 hls i hi;obtain ⟨k,rfl⟩:∃ k,i=k+2:=⟨i - 2,by omega⟩;simp only [sk] at this;refine ⟨this.1,?_⟩;show g.ob (AH mo (k+2))=b;rw [zWG this.2];exact (hS.lent (k+2) b hib).2
 ·have:=List.all_eq_true.1 hls 0 (hE.pin hv);simp only [sk] at this;refine ⟨this.1,?_⟩;show g.rw (AH mr PR)=v;rw [zWG this.2];exact (hS.pin v hv).2
end Go.Tm
namespace Go.Tm
open Go.RowKit
def xi(P:Program)(st:St):List ResultVar->Option (List A)
 | []=>some []
 | .tmp t :: r=>match xi P st r with | some l=>some (st.tm t :: l) | none=>none
 | .cell a t :: r=>match st.tm a with
  | .obj s off=>match st.ob s with
   | some cells=>match NL P t,iE P t with
    | some g,some n=>match CI g n cells off,xi P st r with | some x,some l=>some (x :: l) | _,_=>none
    | _,_=>none
   | none=>none
  | _=>none
def SX:List A->A
 | [x]=>x
 | l=>.tup l
def yC{α:Type}:Nat->List V->(List (List C)->MA α)->MA α
 | _,[],k=>k []
 | i,.ptr _ :: r,k=>AR (900+i) λc=>yC (i+1) r λos=>k (c :: os)
 | i,_ :: r,k=>yC (i+1) r k
def eo:Nat->List V->List Nat
 | _,[]=>[]
 | i,.ptr _ :: r=>(900+i) :: eo (i+1) r
 | i,_ :: r=>eo (i+1) r
def lj:Nat->List V->List Value->List (Nat×Nat)
 | i,.ptr _ :: r,.pointer (some a) :: vs=>(900+i,a.block) :: lj (i+1) r vs
 | i,.ptr _ :: r,_ :: vs=>(900+i,0) :: lj (i+1) r vs
 | i,_ :: r,_ :: vs=>lj (i+1) r vs
 | i,.ptr _ :: r,[]=>(900+i,0) :: lj (i+1) r []
 | i,_ :: r,[]=>lj (i+1) r []
 | _,[],_=>[]
def gC:Nat->List V->List A->Bool
 | _,[],_=>true
 | i,.ptr _ :: r,.obj s 0 :: as=>zWv s (900+i) && gC (i+1) r as
 | i,.ptr _ :: r,_=>false
 | i,_ :: r,_ :: as=>gC (i+1) r as
 | i,_ :: r,[]=>false
section
variable {P:Program} {E:En} {g:Gh} {st st':St} {a:Act} {w:World} {n:Nat}
theorem nC:∀ (l:List V) (i:Nat) (vs:List Value),(lj i l vs).map Prod.fst=eo i l
 | [],i,vs=>by cases vs <;> rfl
 | x :: l,i,[]=>by cases x <;> simp [lj,eo,nC l]
 | x :: l,i,v :: vs=>by
  cases x <;> simp only [eo] <;> try (simp only [lj]; exact nC l _ _)
  cases v <;> try (simp only [lj,zWh,List.cons.injEq,true_and]; exact nC l _ _)
  rename_i o
  cases o <;> (simp only [lj,zWh,List.cons.injEq,true_and]; exact nC l _ _)
theorem zD:∀ (l:List V) (i:Nat),∀ q∈eo i l,900<=q
 | [],i,q,h=>by simp [eo] at h
 | x :: l,i,q,h=>by
  cases x <;> simp only [eo] at h <;> try exact zD l _ q h
  rcases List.mem_cons.1 h with rfl | h
  ·omega
  ·exact zD l _ q h
theorem BL(l:List V)(i:Nat)(vs:List Value):∀ q∈lj i l vs,900<=q.1:=λq hq =>
 zD l i q.1 (by rw [<- nC l i vs]; exact List.mem_map.2 ⟨q,hq,rfl⟩)
theorem FN:∀ {rs:List ResultVar} {l:List A},iM E g n st a w->xi P st rs=some l->(∀ t,.tmp t∈rs->t < n)->∃ vs:List Value,l.length=vs.length/\(∀ (j:Nat) (x:A) (u:Value),l[j]?=some x->vs[j]?=some u->VR w g st.O st.R x u) /\
  ∀ (f:ResultVar->Sem Value) (_:∀ u,f (.tmp u)=pure (a.tmps.getD u undef)) (_:∀ p t,f (.cell p t)=(do loadVar t (<- asAddr (a.tmps.getD p undef)))),(rs.mapM f).run P w=.ok vs w
 | [],l,hS,h,_=>by
  cases h
  exact ⟨[],rfl,by simp,λf _ _=>by simp⟩
 | .tmp t :: r,l,hS,h,ht=>by
  unfold xi at h
  split at h
  ·rename_i l' hl'
   cases h
   obtain ⟨vs,h1,h2,h3⟩:=FN hS hl' (λt h=>ht t (by simp [h]));obtain ⟨v,h4,h5⟩:=hS.tm t (ht t (by simp));refine ⟨v :: vs,by simp [h1],λj x u hx hu=>?_,λf hf hc=>?_⟩
   ·cases j with
    | zero=>simp at hx hu; subst hx hu; exact h5
    | succ j=>exact h2 j x u (by simpa using hx) (by simpa using hu)
   ·have:a.tmps.getD t undef=v:=by simp [h4]
    simp [List.mapM_cons,hf,h3 f hf hc,h4]
  ·cases h
 | .cell p t :: r,l,hS,h,ht=>by
  unfold xi at h
  split at h <;> try (cases h; done)
  rename_i s off hp
  split at h <;> try (cases h; done)
  rename_i cells hc
  split at h <;> try (cases h; done)
  rename_i gg nn hg hn
  split at h <;> try (cases h; done)
  rename_i x l' hx hl'
  cases h
  obtain ⟨vs,h1,h2,h3⟩:=FN hS hl' (λt h=>ht t (by simp [h]));have hlt:p < n:=by
   rcases Nat.lt_or_ge p n with h | h
   ·exact h
   ·rw [hS.und p h] at hp; cases hp
  obtain ⟨v,h4,h5⟩:=hS.tm p hlt;rw [hp] at h5
  cases h5 with
  | obj s off hs =>
   obtain ⟨arr,e,hh,hl,hv,_⟩:=hS.mem.ob s cells hc;obtain ⟨u,hu,hr⟩:=AP (P:=P) (w:=w) (g:=g) (st:=st) (b:=g.ob s) (o:=0) hg hn hx (λj y hy=>by
    obtain ⟨_,u,hu,hr⟩:=hv j y hy;exact ⟨u,by rw [zWZ]; simp [World.cell?,hh,hu],hr⟩)
   rw [zWZ] at hu;refine ⟨u :: vs,by simp [h1],λj x u hx hu=>?_,λf hf hcc=>?_⟩
   ·cases j with
    | zero=>simp at hx hu; subst hx hu; exact hr
    | succ j=>exact h2 j x u (by simpa using hx) (by simpa using hu)
   ·simp [List.mapM_cons,hcc,h4,asAddr,hu,h3 f hf hcc]
theorem D9{fn:Func}{l:List A}(hS:iM E g n st a w)(h:xi P st fn.results.toList=some l)(ht:(fn.results.toList.all λ| .tmp t=>Nat.blt t n | _=>true)=true):∃ v,(results fn a.tmps).run P w=.ok v w/\VR w g st.O st.R (SX l) v:=by
 obtain ⟨vs,h1,h2,h3⟩:=FN hS h (λt h=>by simpa using List.all_eq_true.1 ht _ h);have hres:fn.results=fn.results.toList.toArray:=by simp
 have hr:(results fn a.tmps).run P w=.ok (if h:vs.toArray.size=1 then vs.toArray[0] else .tuple vs.toArray) w:=by
  unfold results;rw [hres,List.mapM_toArray];simp only [Sem.run_bind,Sem.run_map];rw [h3 _ (λ_=>rfl) (λ_ _=>rfl)];simp only [Result.andThen_ok,Sem.run_pure]
 refine ⟨_,hr,?_⟩
 clear hr h3
 match vs,l,h1,h2 with
 | [],[],_,_=>exact .tup [] [] rfl (λi x v h=>by simp at h)
 | [v],[x],_,h2=>exact h2 0 x v rfl rfl
 | v :: v' :: vs,x :: x' :: l,h1,h2=>exact .tup _ _ h1 h2
theorem AF.len{w:World}{F:Nat->Prop}:∀ {l:List V} {vs:List Value} {bs:List Nat},AF w F l vs bs->l.length=vs.length
 | _,_,_,.nil=>rfl
 | _,_,_,.cons _ _ _ _ _ _ _ hs=>by simp [hs.len]
theorem pa.mono{F F':Nat->Prop}(hF:∀ b,F b->F' b){l:List V}{us:List Value}{os:List (List C)}{bo:List Nat}(h:pa w F l us os bo):pa w F' l us os bo:=by
 induction h with
 | nil=>exact .nil
 | ptr c c' v bs l vs os bo h hs ih=>exact .ptr c c' v bs l vs os bo (h.mono (λ_ _=>rfl) hF (λ_ _=>rfl)) ih
 | skip x v l vs os bo hx hs ih=>exact .skip x v l vs os bo hx ih
theorem vN{α:Type}{st':St}:∀ (l:List V) {i:Nat} {us:List Value} {g:Gh} {st:St} {k:List (List C)->MA α} {y:α},fd E g st w->us.length=l.length->(∀ (j:Nat) (c:List C),l[j]?=some (.ptr c)->us[j]?=some (.pointer (some ⟨g.ob (900+(i+j)),0,none⟩)))->(yC i l k).run st=some (y,st') ->
  ∃ os st1 g1 bo,fd E g1 st1 w/\p9 w w g g1 st.O st.R st1.O st1.R/\Ld g st g1 st1/\(k os).run st1=some (y,st')/\pa w g1.F l us os bo/\Tk g st g1 st1 bo
 | [],i,us,g,st,k,y,hM,hl,hp,h=>by
  have:us=[]:=r0 (by simpa using hl);subst this;exact ⟨[],st,g,[],hM,p9.refl _ _ _ _,Ld.refl _ _,h,.nil,Tk.nil _ _ _ _⟩
 | x :: l,i,us,g,st,k,y,hM,hl,hp,h=>by
  obtain ⟨u,us,rfl⟩:∃ u us',us=u :: us':=by
   cases us with
   | nil=>simp at hl
   | cons u us=>exact ⟨u,us,rfl⟩
  have hp':∀ (j:Nat) (c:List C),l[j]?=some (.ptr c)->us[j]?=some (.pointer (some ⟨g.ob (900+(i+1+j)),0,none⟩)):=λj c hj=>by
   have:=hp (j+1) c (by simpa using hj);rw [show i+1+j=i+(j+1) by omega]
   simpa using this
  have hoth:(∀ c,x≠.ptr c)->(yC (i+1) l k).run st=some (y,st')->∃ os st1 g1 bo,fd E g1 st1 w/\p9 w w g g1 st.O st.R st1.O st1.R/\Ld g st g1 st1/\(k os).run st1=some (y,st')/\pa w g1.F (x :: l) (u :: us) os bo/\Tk g st g1 st1 bo:=λhx h=>by
   obtain ⟨os,st1,g1,bo,h1,h2,h3,h4,h5,h6⟩:=vN l hM (by simpa using hl) hp' h;exact ⟨os,st1,g1,bo,h1,h2,h3,h4,.skip x u l us os bo hx h5,h6⟩
  cases x with
  | ptr c =>
   unfold yC at h;have hu:=hp 0 c rfl;simp at hu;subst hu;obtain ⟨cs,st1,g1,b1,hM1,hE1,hL1,h1,hv1,ht1,_⟩:=zu hM h;obtain ⟨os,st2,g2,bo,h2,h3,h4,h5,h6,h7⟩:=vN l hM1 (by simpa using hl) (by rw [hL1.ob]; exact hp') h1;exact ⟨cs :: os,st2,g2,b1++bo,h2,hE1.trans h3,hL1.trans h4,h5,.ptr c cs _ b1 l us os bo (hv1.mono h3.same h3.F (λ_ _=>rfl)) h6,ht1.app hM hL1 h7 h4⟩
  | _=>exact hoth (λc h=>by cases h) (by unfold yC at h; exact h)
theorem MT{i:Nat}{c:List C}{r:List V}{as:List A}(h:gC i (.ptr c :: r) as=true):∃ as',as=.obj (900+i) 0 :: as'/\gC (i+1) r as'=true:=by
 cases as with
 | nil=>simp [gC] at h
 | cons a as =>
  cases a with
  | obj s off =>
   cases off with
   | zero =>
    simp only [gC,sk] at h;have:=zWG h.1;subst this;exact ⟨as,rfl,h.2⟩
   | succ off=>simp [gC] at h
  | _=>simp [gC] at h
theorem vO{F:Nat->Prop}{O R:Nat->Prop}:∀ {l:List V} {i:Nat} {us:List Value} {as:List A} {bs:List Nat},gC i l as=true->AF w F l us bs->as.length=us.length->(∀ (j:Nat) (x:A),as[j]?=some x->∃ u,us[j]?=some u/\VR w g O R x u) ->
  (∀ s b,(s,b)∈lj i l us->O s/\g.ob s=b)/\∀ (j:Nat) (c:List C),l[j]?=some (.ptr c)->∃ b,us[j]?=some (.pointer (some ⟨b,0,none⟩))/\(900+(i+j),b)∈lj i l us
 | [],i,us,as,bs,hl,hV,hlen,hx=>by
  cases hV
  exact ⟨λs b h=>by simp [lj] at h,λj c h=>by simp at h⟩
 | x :: l,i,us,as,bs,hl,hV,hlen,hx=>by
  cases hV with
  | cons x v b l vs bs' h1 h2 =>
   obtain ⟨a,as,rfl⟩:∃ a as',as=a :: as':=by
    cases as with
    | nil=>simp at hlen
    | cons a as=>exact ⟨a,as,rfl⟩
   obtain ⟨u,hu,hr⟩:=hx 0 a rfl;simp at hu;subst hu;have hx':∀ (j:Nat) (x:A),as[j]?=some x->∃ u,vs[j]?=some u/\VR w g O R x u:=λj x hj=>by simpa using hx (j+1) x (by simpa using hj)
   have hoth:(∀ c,x≠.ptr c)->lj i (x :: l) (v :: vs)=lj (i+1) l vs->gC (i+1) l as=true ->
     (∀ s b,(s,b)∈lj i (x :: l) (v :: vs)->O s/\g.ob s=b)/\∀ (j:Nat) (c:List C),(x :: l)[j]?=some (.ptr c)->∃ b,(v :: vs)[j]?=some (.pointer (some ⟨b,0,none⟩))/\(900+(i+j),b)∈lj i (x :: l) (v :: vs):=λhnp he hla=>by
    obtain ⟨h3,h4⟩:=vO hla h2 (by simpa using hlen) hx';rw [he];refine ⟨h3,λj c hj=>?_⟩
    cases j with
    | zero=>simp at hj; exact absurd hj (hnp c)
    | succ j =>
     obtain ⟨b,h5,h6⟩:=h4 j c (by simpa using hj);exact ⟨b,by simpa using h5,by rw [show i+(j+1)=i+1+j by omega]; exact h6⟩
   cases x with
   | ptr c =>
    obtain ⟨as',he,hla⟩:=MT hl;injection he with e1 e2
    subst e1 e2
    cases h1 with
    | ptr cells bb arr e vals bs1 q1 q2 q3 q4 =>
      obtain ⟨h3,h4⟩:=vO hla h2 (by simpa using hlen) hx'
      cases hr with
      | obj _ _ hO =>
       simp only [lj];refine ⟨λs b hm=>?_,λj c hj=>?_⟩
       ·rcases List.mem_cons.1 hm with hm | hm
        ·cases hm; exact ⟨hO,rfl⟩
        ·exact h3 s b hm
       ·cases j with
        | zero=>exact ⟨_,rfl,zQh ..⟩
        | succ j =>
         obtain ⟨b,h5,h6⟩:=h4 j c (by simpa using hj);exact ⟨b,by simpa using h5,zQv _ (by rw [show i+(j+1)=i+1+j by omega]; exact h6)⟩
   | _=>exact hoth (λc h=>by cases h) (by cases v <;> rfl) (by unfold gC at hl; exact hl)
end
inductive xN {α β:Type} (R:α->β->Prop):List α->List β->Prop
 | nil:xN R [] []
 | cons {a:α} {b:β} {l:List α} {l':List β} (h:R a b) (hs:xN R l l'):xN R (a :: l) (b :: l')
inductive MU:C->C->Prop
 | refl (c:C):MU c c
 | nilT (sz:Nat):MU .nil (.t (.sl sz []))
 | nilO (e sz:Nat):MU .nil (.ow e sz [])
 | sz (s s':Nat):MU (.t (.sl s [])) (.t (.sl s' []))
mutual
inductive PP:V->V->Prop
 | refl (v:V):PP v v
 | one {c c':C} (h:MU c c'):PP (.one c) (.one c')
 | agg {l l':List C} (h:xN MU l l'):PP (.agg l) (.agg l')
 | tup {l l':List V} (h:AX l l'):PP (.tup l) (.tup l')
 | cut (l r:List T):PP (.fptr (l++r)) (.fptr l)
inductive AX:List V->List V->Prop
 | nil:AX [] []
 | cons {v v':V} {l l':List V} (h:PP v v') (hs:AX l l'):AX (v :: l) (v' :: l')
end
theorem MU.cv{w:World}{F:Nat->Prop}{c c':C}{v:Value}{bs:List Nat}(h:MU c c')(hv:CV w F c v bs):CV w F c' v bs:=by
 cases h with
 | refl=>exact hv
 | nilT sz=>cases hv; exact .t _ _ (.sl0 _ _ _ (by first | assumption | exact λ_=>rfl | (intro h; cases h)))
 | nilO e sz =>
  cases hv
  exact .ow e sz [] (.slice none 0 0) [] ⟨by simp,.inl ⟨rfl,rfl⟩⟩ ⟨by simp,λi row h=>by simp at h,λi row j x h=>by simp at h⟩
 | sz s s' =>
  cases hv with
  | t _ _ h =>
   cases h with
   | sl0 _ _ _ ha=>exact .t _ _ (.sl0 _ _ _ (by first | assumption | exact λ_=>rfl | (intro h; cases h)))
   | sl=>exact .t _ _ (.sl0 _ _ _ (by first | assumption | exact λ_=>rfl | (intro h; cases h)))
theorem PQ{w:World}{F:Nat->Prop}:∀ {l l':List C} {vs:List Value} {bs:List Nat},xN MU l l'->IK w F l vs bs->IK w F l' vs bs
 | _,_,_,_,.nil,.nil=>.nil
 | _,_,_,_,.cons h hs,.cons _ _ _ _ _ _ hc hcs=>.cons _ _ _ _ _ _ (h.cv hc) (PQ hs hcs)
mutual
theorem PP.vv{w:World}{F:Nat->Prop}:∀ {x x':V} {v:Value} {bs:List Nat},PP x x'->VV w F x v bs->VV w F x' v bs
 | _,_,_,_,.refl _,hv=>hv
 | _,_,_,_,.one h,.one _ _ _ hc=>.one _ _ _ (h.cv hc)
 | _,_,_,_,.agg h,.agg _ vs _ hc=>.agg _ vs _ (PQ h hc)
 | _,_,_,_,.tup h,.tup _ vs _ hc=>.tup _ vs _ (FO h hc)
 | _,_,_,_,.cut l r,.fptr _ b off u hF hx hr=>.fptr l b off u hF
   (λj x hj=>hx j x (by rw [zQQ (List.getElem?_eq_some_iff.1 hj).1]; exact hj)) (λj x hj=>hr j x (by rw [zQQ (List.getElem?_eq_some_iff.1 hj).1]; exact hj))
theorem FO{w:World}{F:Nat->Prop}:∀ {l l':List V} {vs:List Value} {bs:List Nat},AX l l'->AF w F l vs bs->AF w F l' vs bs
 | _,_,_,_,.nil,.nil=>.nil
 | _,_,_,_,.cons h hs,.cons _ _ _ _ _ _ hc hcs=>.cons _ _ _ _ _ _ (h.vv hc) (FO hs hcs)
end
theorem PP.ptr{x:V}{c:List C}(h:PP x (.ptr c)):x=.ptr c:=by cases h; rfl
theorem PP.nptr{x x':V}(h:PP x x')(hx:∀ c,x'≠.ptr c):∀ c,x≠.ptr c:=by
 cases h <;> first | exact hx | (intro c hc; cases hc)
theorem QY{w:World}{F:Nat->Prop}{l':List V}{us:List Value}{os:List (List C)}{bo:List Nat}(ho:pa w F l' us os bo):∀ {l:List V},AX l l'->pa w F l us os bo:=by
 induction ho with
 | nil=>intro l h; cases h; exact .nil
 | ptr c c' v bs l vs os bo hv ho ih =>
  intro l h
  cases h with
  | cons h hs =>
   have:=h.ptr;subst this;exact .ptr c c' v bs _ vs os bo hv (ih hs)
 | skip x v l vs os bo hx ho ih =>
  intro l h
  cases h with
  | cons h hs=>exact .skip _ v _ vs os bo (h.nptr hx) (ih hs)
theorem Ea{w:World}{F:Nat->Prop}{l:List V}{us:List Value}{os:List (List C)}{bo:List Nat}(ho:pa w F l us os bo):∀ {os':List (List C)},xN (xN MU) os os'->pa w F l us os' bo:=by
 induction ho with
 | nil=>intro os' h; cases h; exact .nil
 | ptr c c' v bs l vs os bo hv ho ih =>
  intro os' h
  cases h with
  | cons h hs =>
   refine .ptr c _ v bs l vs _ bo ?_ (ih hs)
   cases hv with
   | ptr _ b arr e vals bs' h1 h2 h3 h4=>exact .ptr _ b arr e vals bs' h1 h2 h3 (PQ h h4)
 | skip x v l vs os bo hx ho ih=>intro os' h; exact .skip x v l vs _ bo hx (ih h)
end Go.Tm
namespace Go.Tm
open Go.RowKit
def db:St:=⟨λ_=>.undef,λ_=>none,λ_=>none⟩
def eN(as:List A)(st:St):St:=⟨λi=>match as[i]? with | some a=>a | none=>.undef,st.ob,st.rw⟩
def RL{α:Type}(m:Bool):A->(V->MA α)->MA α
 | .obj s 0,k=>AR s λcs=>k (.ptr cs)
 | .tup l,k=>i9 m (λ_=>false) l λvs=>k (.tup vs)
 | a,k=>oC m a k
theorem Eb{E:En}{w:World}{α:Type}{st':St}{m:Bool}{x:A}{st:St}{g:Gh}{k:V->MA α}{y:α}{v:Value}(hM:fd E g st w)(hv:VR w g st.O st.R x v)(h:(RL m x k).run st=some (y,st')) :
  ∃ c st1 g1 bs,fd E g1 st1 w/\p9 w w g g1 st.O st.R st1.O st1.R/\Ld g st g1 st1/\(k c).run st1=some (y,st')/\VV w g1.F c v bs/\Tk g st g1 st1 bs:=by
 unfold RL at h
 split at h
 ·rename_i s k'
  cases hv with
  | obj _ _ hs =>
   obtain ⟨cs,st1,g1,bs,h1,h2,h3,h4,h5,h6,_⟩:=zu hM h;exact ⟨_,st1,g1,bs,h1,h2,h3,h4,h5,h6⟩
 ·rename_i l
  cases hv with
  | tup l vs hl hx =>
   obtain ⟨cs,st1,g1,bs,hM1,hE1,hL1,h1,hc,ht,_⟩:=tN l hM hl.symm (λj x hj=>⟨_,sX (by rw [<- hl]; exact (List.getElem?_eq_some_iff.1 hj).1),hx j x _ hj (sX (by rw [<- hl]; exact (List.getElem?_eq_some_iff.1 hj).1))⟩) h;exact ⟨_,st1,g1,bs,hM1,hE1,hL1,h1,.tup cs vs bs hc,ht⟩
 ·obtain ⟨c,st1,g1,bs,h1,h2,h3,h4,h5,h6,_⟩:=MM _ hM hv h;exact ⟨c,st1,g1,bs,h1,h2,h3.lnd,h4,h5,h6⟩
def yD(P:Program)(m:Bool)(fn:Func)(args:List V)(res:V)(outs:List (List C))(e:Exit)(st:St):Prop :=
 (e=.ret\/e=.normal)/\∃ l st1 res0 outs0,xi P st fn.results.toList=some l/\(yC 0 args λos=>RL m (SX l) λv=>MA.ret (v,os)).run st=some ((res0,outs0),st1)/\PP res0 res/\xN (xN MU) outs0 outs
def re(n:Nat)(fn:Func):Bool:=fn.results.toList.all λ| .tmp t=>Nat.blt t n | _=>true
def Wz(P:Program)(n:Nat)(ls:List Nat)(c:Code)(Q:Exit->St->Prop)(st:St):Prop :=
 ∀ (E:En) (g:Gh) (a:Act) (w:World),QX P E ls->E.sh=false->E.pin=none->iM E g n st a w->c.wp P (λe a' w'=>∃ g' st',iM E g' n st' a' w'/\Q e st') a w
theorem HJ{P:Program}{fn:Func}{c:Code}{f:FuncId}{args:List V}{as:List A}{st0:St}{m:Bool}{res:V}{outs:List (List C)}
  (hf:P.funcs[f]?=some fn) (hb:fn.body=some c) (hnm:(fn.name == "runtime.NumGoroutine")=false) (hle:as.length<=fn.ntmps) (ht:re fn.ntmps fn=true)
  (ha:(mY 0 args MA.ret).run db=some (as,st0)) (hl:gC 0 args as=true)
  (h:Wz P fn.ntmps (eo 0 args) c (yD P m fn args res outs) (eN as st0)):aJ P f args res outs:=by
 refine ⟨⟨fn,hf,by simp [hb],hnm⟩,λw F vs bs hF hVV hnd hnf htb=>?_⟩
 let E:En:={ w0:=w,X:=λb=>b∈bs,F0:=F,lent:=lj 0 args vs }
 let g0:Gh:={ F:=F,ob:=λ_=>0,rw:=λ_=>.nilFunc,dw:=w }
 have hM0:fd E g0 db w:=⟨λs cells h=>(by cases h),λs s' h=>(by cases h),λr x h=>(by cases h),λr r' b h=>(by obtain ⟨_,_,_,h⟩:=h; cases h),λr s h=>(by obtain ⟨_,_,_,h⟩:=h; cases h),
  λb hb=>⟨hF b hb,λ_=>.inl hb,.inl hb⟩,rfl,rfl,rfl,zWy _,λ_ _ _=>.inl rfl,λ_ h=>h.elim,⟨rfl,rfl,rfl⟩,λ_ h=>h.elim⟩
 obtain ⟨as',st1,g1,hG,h1,hlen,hx⟩:=yB args hM0 hVV hnd (λb hb=>⟨hnf b hb,λs hs=>(by cases hs),λr hr=>(by obtain ⟨_,_,_,h⟩:=hr; cases h),.inr hb⟩) ha;obtain ⟨rfl,rfl⟩:=eP h1;have hM1:fd E g1 (eN as st0) w:=⟨hG.mem.ob,hG.mem.obne,hG.mem.row,hG.mem.rowne,hG.mem.rowob,hG.mem.F,hG.mem.os,hG.mem.tape,hG.mem.output,hG.mem.sizes,hG.mem.frame,hG.mem.shp,hG.mem.dep0⟩;obtain ⟨hl1,hl2⟩:=vO hl hVV hlen hx;have hS:iM E g1 fn.ntmps (eN as st0) { tmps:=vs.toArray++zZW (fn.ntmps - vs.toArray.size) undef,defers:=[] } w:=by
  refine ⟨hM1,by simp; omega,rfl,λi hi=>?_,λi hi=>?_,hl1,λ_ h=>(by cases h)⟩
  ·show ∃ v,_/\VR w g1 st0.O st0.R (match as[i]? with | some a=>a | none=>.undef) v
   cases hai:as[i]? with
   | some a =>
    obtain ⟨u,hu,hr⟩:=hx i a hai;have hlt:i < vs.length:=(List.getElem?_eq_some_iff.1 hu).1;exact ⟨u,by rw [zYG (by simpa using hlt)]; simpa using hu,hr⟩
   | none =>
    have hge:as.length<=i:=List.getElem?_eq_none_iff.1 hai;refine ⟨undef,?_,.undef _⟩;rw [zYJ (by simpa [<- hlen] using hge)];rw [zYv,if_pos (by simp only [zYH]; omega)]
  ·show (match as[i]? with | some a=>a | none=>.undef)=A.undef;rw [List.getElem?_eq_none_iff.2 (by omega)]
 refine calls_of_wp hf hb (wp_mono (h E g1 _ w ⟨⟨[],by rw [zWQ]; exact (nC _ _ _).symm,BL _ _ _,λ_ h=>(by cases h),λh=>(by cases h)⟩,⟨htb.mono λb h=>h.elim id λh=>(by cases h.1)⟩⟩ rfl rfl hS) λe a' w' ⟨g',st',hS',hR⟩=>?_);obtain ⟨he,l,st2,res0,outs0,hres,hrun,hvle,hole⟩:=hR;have hfin:a'.defers=[]/\∃ v,(results fn a'.tmps).run P w'=.ok v w'/\(λe w'=>∃ v F' bv bo,e=Ending.returned v/\qD w w'/\(∀ b,b < w.heap.size->b∉bs->w'.heap[b]?=w.heap[b]?)/\(∀ b,F b->F' b) /\
   (∀ b,F' b->b < w'.heap.size/\(b < w.heap.size->F b\/b∈bs)/\(F b\/Wr w' b))/\VV w' F' res v bv/\pa w' F' args vs outs bo/\(bv++bo).Nodup/\∀ b∈bv++bo,¬ F' b/\(w.heap.size<=b\/b∈bs)) (.returned v) w':=by
  refine ⟨hS'.defers,?_⟩;obtain ⟨v,hrv,hvv⟩:=D9 hS' hres ht;refine ⟨v,hrv,?_⟩;have hM':=hS'.mem;obtain ⟨os,st3,g3,bo,hM3,hE3,hL3,h3,hO,hT3⟩:=vN (w:=w') args hM' (us:=vs) (hVV.len.symm) (λj c hj=>by
   obtain ⟨b,h5,h6⟩:=hl2 j c hj;rw [(hS'.lent _ _ h6).2];exact h5) hrun
  obtain ⟨c',st4,g4,bv,hM4,hE4,hL4,h4,hv4,hT4⟩:=Eb hM3 (hvv.mono hE3) h3;obtain ⟨h5,rfl⟩:=eP h4;injection h5 with h5 h6
  subst h5 h6;have hT:=hT3.app hM' hL3 hT4 hL4;have hof:∀ b∈bo++bv,w.heap.size<=b\/b∈bs:=λb hb=>by
   rcases hT.of b hb with ⟨r,⟨e,sz,rows,h7⟩,_,h8⟩ | ⟨s,⟨c,cs,h7⟩,_,h8⟩
   ·obtain ⟨_,_,_,_,h9⟩:=hM'.row r _ h7;exact (h9 b h8).2
   ·obtain ⟨_,_,_,_,_,_,h9⟩:=hM'.ob s _ h7;rw [h8] at h9;exact h9
  have hnF:∀ b∈bo++bv,¬ (g4.F b\/F b):=λb hb h=>by
   rcases h with h | h
   ·exact hT.nf b hb h
   ·rcases hof b hb with h7 | h7
    ·have:=hF b h; omega
    ·exact hnf b h7 h
  have hmem:∀ b,b∈bv++bo->b∈bo++bv:=λb hb=>by
   rcases List.mem_append.1 hb with h | h <;> simp [h]
  refine ⟨v,λb=>g4.F b\/F b,bv,bo,rfl,⟨hM4.os,hM4.tape,hM4.output,hM4.sizes⟩,λb hb hbs=>hM4.frm rfl b hb hbs,λb h=>.inr h,λb h=>?_,hvle.vv (hv4.mono (λ_ _=>rfl) (λ_ h=>.inl h) (λ_ _=>rfl)),Ea (hO.mono (λb h=>.inl (hE4.F b h))) hole,?_,λb hb=>⟨hnF b (hmem b hb),hof b (hmem b hb)⟩⟩
  ·rcases h with h | h
   ·exact hM4.F b h
   ·exact ⟨zQj (hF b h) hM4.sizes,λ_=>.inl h,.inl h⟩
  ·have:=hT.nodup;rw [zXw] at this ⊢;exact ⟨this.2.1,this.1,λx hx y hy he=>this.2.2 y hy x hx he.symm⟩
 rcases he with rfl | rfl
 ·exact hfin
 ·exact hfin
theorem Js{P:Program}{fn:Func}{c:Code}{f:FuncId}{args:List V}{as:List A}{st0:St}{m:Bool}{res:V}{outs:List (List C)}
  (hf:P.funcs[f]?=some fn) (hb:fn.body=some c) (hnm:(fn.name == "runtime.NumGoroutine")=false) (hle:as.length<=fn.ntmps) (ht:re fn.ntmps fn=true)
  (ha:(mY 0 args MA.ret).run db=some (as,st0)) (hl:gC 0 args as=true)
  (h:Wp P fn.ntmps (eo 0 args) c (yD P m fn args res outs) (eN as st0)):aJ P f args res outs:=HJ hf hb hnm hle ht ha hl λE g a w hE _ _ hS=>h E g a w hE hS
theorem RM{E:En}{g:Gh}{st0:St}{w:World}{n:Nat}{as:List A}{vs:List Value}(hM:fd E g (eN as st0) w)(hlen:vs.length=as.length)(hle:as.length<=n)
  (hx:∀ (j:Nat) (x:A),as[j]?=some x->∃ u,vs[j]?=some u/\VR w g st0.O st0.R x u) (hl:E.lent=[]) (hp:∀ v,E.pin=some v->(eN as st0).R PR/\g.rw PR=v) :
  iM E g n (eN as st0) { tmps:=vs.toArray++zZW (n - vs.toArray.size) undef,defers:=[] } w:=by
 refine ⟨hM,by simp; omega,rfl,λi hi=>?_,λi hi=>?_,λs b h=>(by rw [hl] at h; cases h),hp⟩
 ·show ∃ v,_/\VR w g st0.O st0.R (match as[i]? with | some a=>a | none=>.undef) v
  cases hai:as[i]? with
  | some a =>
   obtain ⟨u,hu,hr⟩:=hx i a hai;have hlt:i < vs.length:=(List.getElem?_eq_some_iff.1 hu).1;exact ⟨u,by rw [zYG (by simpa using hlt)]; simpa using hu,hr⟩
  | none =>
   have hge:as.length<=i:=List.getElem?_eq_none_iff.1 hai;refine ⟨undef,?_,.undef _⟩;rw [zYJ (by simpa [hlen] using hge)];rw [zYv,if_pos (by simp only [zYH]; omega)]
 ·show (match as[i]? with | some a=>a | none=>.undef)=A.undef;rw [List.getElem?_eq_none_iff.2 (by omega)]
def C.toX:C->A
 | .t x=>TW false x
 | _=>.undef
def V.toX:V->A
 | .one c=>c.toX
 | .agg l=>.agg (l.map C.toX)
 | .fptr cells=>.exa false cells
 | _=>.undef
theorem CV.toX{w:World}{D:Nat->Prop}{g:Gh}{c:C}{v:Value}{bs:List Nat}(h:CV w D c v bs)(h1:g.D=D)(h2:g.dw=w)(h3:g.sh=false):VR w g L4 L4 c.toX v:=by
 cases h with
 | t x v h =>
  cases x with
  | sl sz rows=>exact .ext false _ v h3 (by rw [h1,h2]; exact h.sd)
  | int k n=>exact .t _ v (h.sc rfl)
  | bool b=>exact .t _ v (h.sc rfl)
  | str s=>exact .t _ v (h.sc rfl)
  | nilf=>exact .t _ v (h.sc rfl)
  | hdr a n c=>exact .t _ v (h.sc rfl)
 | nil=>exact .undef _
 | ow=>exact .undef _
theorem IK.toX{w:World}{D:Nat->Prop}{g:Gh}{l:List C}{vs:List Value}{bs:List Nat}(h:IK w D l vs bs)(h1:g.D=D)(h2:g.dw=w)(h3:g.sh=false) :
  l.length=vs.length/\∀ (i:Nat) (x:A) (v:Value),(l.map C.toX)[i]?=some x->vs[i]?=some v->VR w g L4 L4 x v:=by
 induction h with
 | nil=>exact ⟨rfl,λi x v h=>by simp at h⟩
 | cons c v b cs vs bs h hs ih =>
  refine ⟨by simp [ih.1],λi x u hx hu=>?_⟩
  cases i with
  | zero=>simp at hx hu; subst hx hu; exact h.toX h1 h2 h3
  | succ i=>exact ih.2 i x u (by simpa using hx) (by simpa using hu)
theorem VV.toX{w:World}{D:Nat->Prop}{g:Gh}{x:V}{v:Value}{bs:List Nat}(h:VV w D x v bs)(h1:g.D=D)(h2:g.dw=w)(h3:g.sh=false):VR w g L4 L4 x.toX v:=by
 cases h with
 | one c v bs h=>exact h.toX h1 h2 h3
 | agg l vs bs h =>
  obtain ⟨h4,h5⟩:=h.toX h1 h2 h3;exact .agg _ vs (by simp [h4]) h5
 | fptr cells b off u hF hx hr=>exact .exa false cells b off u h3 (by rw [h1]; exact hF) (by rw [h2]; exact hx) (λj x hj=>by rw [h1,h2]; exact (hr j x hj).sd)
 | _=>exact .undef _
theorem AF.toX{w:World}{D:Nat->Prop}{g:Gh}(h1:g.D=D)(h2:g.dw=w)(h3:g.sh=false):∀ {l:List V} {vs:List Value} {bs:List Nat},AF w D l vs bs ->
  vs.length=l.length/\∀ (j:Nat) (x:A),(l.map V.toX)[j]?=some x->∃ u,vs[j]?=some u/\VR w g L4 L4 x u
 | _,_,_,.nil=>⟨rfl,λj x h=>by simp at h⟩
 | _,_,_,.cons x v b l vs bs h hs=>by
  obtain ⟨h4,h5⟩:=AF.toX h1 h2 h3 hs;refine ⟨by simp [h4],λj y hy=>?_⟩
  cases j with
  | zero=>simp at hy; subst hy; exact ⟨v,rfl,h.toX h1 h2 h3⟩
  | succ j=>exact h5 j y (by simpa using hy) |>.imp λu hu=>⟨by simpa using hu.1,hu.2⟩
theorem Wa{E:En}{g:Gh}{as:List A}{w:World}(h1:∀ b,¬ g.F b)(hS0:∀ b,¬ g.S b:=by exact λ_ h=>h)(hw:E.w0=w)(hd:g.D=E.D/\g.dw=E.w0/\g.sh=E.sh)(hD:∀ b,E.D b->b < E.w0.heap.size/\¬ E.X b/\(E.sh=true->¬ E.F0 b/\Wr E.w0 b)):fd E g (eN as db) w:=by
 subst hw;exact ⟨λs cells h=>(by cases h),λs s' h=>(by cases h),λr x h=>(by cases h),λr r' b h=>(by obtain ⟨_,_,_,h⟩:=h; cases h),λr s h=>(by obtain ⟨_,_,_,h⟩:=h; cases h),
  λb hb=>(h1 b hb).elim,rfl,rfl,rfl,zWy _,λ_ _ _=>.inl rfl,λb h=>(hS0 b h).elim,hd,hD⟩
theorem Oe{P:Program}{fn:Func}{c:Code}{f:FuncId}{args:List V}{m:Bool}{res:V}
  (hf:P.funcs[f]?=some fn) (hb:fn.body=some c) (hnm:(fn.name == "runtime.NumGoroutine")=false) (hle:args.length<=fn.ntmps) (ht:re fn.ntmps fn=true)
  (h:Wp P fn.ntmps [1] c (yD P m fn [] res []) (eN (args.map V.toX) db)):nH P f args res:=by
 refine ⟨⟨fn,hf,by simp [hb],hnm⟩,λw D vs hD hVV htb=>?_⟩
 let E:En:={ w0:=w,X:=L4,F0:=L4,lent:=[],D:=D }
 let g0:Gh:={ F:=L4,ob:=λ_=>0,rw:=λ_=>.nilFunc,D:=D,dw:=w }
 have hM0:fd E g0 (eN (args.map V.toX) db) w:=Wa (λ_ h=>h) (hw:=rfl) (hd:=⟨rfl,rfl,rfl⟩) (hD:=λb hb=>⟨hD b hb,λh=>h,λh=>(by cases h)⟩);obtain ⟨hlen,hx⟩:=AF.toX (g:=g0) rfl rfl rfl hVV;have hS:=RM (n:=fn.ntmps) hM0 (by simpa using hlen) (by simpa using hle) (λj x hj=>by
  obtain ⟨u,h1,h2⟩:=hx j x hj;exact ⟨u,h1,h2.mono ⟨λ_ _=>rfl,λ_ h=>h,λ_ h=>h.elim,λ_ h=>h.elim,⟨rfl,rfl,rfl⟩,rfl,rfl⟩⟩) rfl (λv h=>(by cases h))
 refine calls_of_wp hf hb (wp_mono (h E g0 _ w ⟨⟨[1],rfl,λ_ h=>(by cases h),λ_ h=>(by cases h),λ_ b=>⟨λh=>h,λh=>h⟩⟩,⟨htb.mono λb h=>h.elim id λh=>(by cases h.1)⟩⟩ hS) λe a' w' ⟨g',st',hS',hR⟩=>?_);obtain ⟨he,l,st2,res0,outs0,hres,hrun,hvle,hole⟩:=hR;have hfin:a'.defers=[]/\∃ v,(results fn a'.tmps).run P w'=.ok v w'/\(λe w'=>∃ v F' bv,e=Ending.returned v/\qD w w'/\(∀ b,b < w.heap.size->w'.heap[b]?=w.heap[b]?) /\
   (∀ b,F' b->b < w'.heap.size/\w.heap.size<=b/\Wr w' b)/\VV w' F' res v bv/\bv.Nodup/\∀ b∈bv,¬ F' b/\w.heap.size<=b) (.returned v) w':=by
  refine ⟨hS'.defers,?_⟩;obtain ⟨v,hrv,hvv⟩:=D9 hS' hres ht;refine ⟨v,hrv,?_⟩;have hM':=hS'.mem;simp only [yC] at hrun;obtain ⟨c',st4,g4,bv,hM4,hE4,hL4,h4,hv4,hT4⟩:=Eb hM' hvv hrun;obtain ⟨h5,rfl⟩:=eP h4;injection h5 with h5 h6
  subst h5 h6;have hof:∀ b∈bv,w.heap.size<=b:=λb hb=>by
   rcases hT4.of b hb with ⟨r,⟨e,sz,rows,h7⟩,_,h8⟩ | ⟨s,⟨c,cs,h7⟩,_,h8⟩
   ·obtain ⟨_,_,_,_,h9⟩:=hM'.row r _ h7;exact (h9 b h8).2.resolve_right (λh=>h)
   ·obtain ⟨_,_,_,_,_,_,h9⟩:=hM'.ob s _ h7;rw [h8] at h9;exact h9.resolve_right (λh=>h)
  refine ⟨v,g4.F,bv,rfl,⟨hM4.os,hM4.tape,hM4.output,hM4.sizes⟩,λb hb=>hM4.frm rfl b hb (λh=>h),λb h=>?_,hvle.vv hv4,hT4.nodup,λb hb=>⟨hT4.nf b hb,hof b hb⟩⟩;obtain ⟨h7,h8,h9⟩:=hM4.F b h;refine ⟨h7,Nat.le_of_not_lt λhlt=>?_,h9.resolve_left (λh=>h)⟩;rcases h8 hlt with h | h <;> exact h
 rcases he with rfl | rfl
 ·exact hfin
 ·exact hfin
theorem Of{P:Program}{fn:Func}{c:Code}{f:FuncId}{args xs:List V}{as:List A}{st0:St}{m:Bool}{res:V}{outs:List (List C)}
  (hf:P.funcs[f]?=some fn) (hb:fn.body=some c) (hnm:(fn.name == "runtime.NumGoroutine")=false) (hle:(as++xs.map V.toX).length<=fn.ntmps) (ht:re fn.ntmps fn=true)
  (ha:(mY 0 args MA.ret).run db=some (as,st0)) (hl:gC 0 args as=true)
  (h:Wp P fn.ntmps (eo 0 args) c (yD P m fn args res outs) (eN (as++xs.map V.toX) st0)):MN P f args xs res outs:=by
 refine ⟨⟨fn,hf,by simp [hb],hnm⟩,λw F D vs us bs hF hD hVV hUU hnd hnf htb=>?_⟩
 let E:En:={ w0:=w,X:=λb=>b∈bs,F0:=F,lent:=lj 0 args vs,D:=D }
 let g0:Gh:={ F:=F,ob:=λ_=>0,rw:=λ_=>.nilFunc,D:=D,dw:=w }
 have hM0:fd E g0 db w:=⟨λs cells h=>(by cases h),λs s' h=>(by cases h),λr x h=>(by cases h),λr r' b h=>(by obtain ⟨_,_,_,h⟩:=h; cases h),λr s h=>(by obtain ⟨_,_,_,h⟩:=h; cases h),
  λb hb=>⟨hF b hb,λ_=>.inl hb,.inl hb⟩,rfl,rfl,rfl,zWy _,λ_ _ _=>.inl rfl,λ_ h=>h.elim,⟨rfl,rfl,rfl⟩,λb hb=>⟨(hD b hb).1,(hD b hb).2,λh=>(by cases h)⟩⟩
 obtain ⟨as',st1,g1,hG,h1,hlen,hx⟩:=yB args hM0 hVV hnd (λb hb=>⟨hnf b hb,λs hs=>(by cases hs),λr hr=>(by obtain ⟨_,_,_,h⟩:=hr; cases h),.inr hb⟩) ha;obtain ⟨rfl,rfl⟩:=eP h1;have hM1:fd E g1 (eN (as++xs.map V.toX) st0) w:=⟨hG.mem.ob,hG.mem.obne,hG.mem.row,hG.mem.rowne,hG.mem.rowob,hG.mem.F,hG.mem.os,hG.mem.tape,hG.mem.output,hG.mem.sizes,hG.mem.frame,hG.mem.shp,hG.mem.dep0⟩;obtain ⟨hl1,hl2⟩:=vO hl hVV hlen hx;obtain ⟨hd1,hd2,hd3⟩:=hG.mem.dep0.1;obtain ⟨hul,hux⟩:=AF.toX (g:=g1) (by rw [hd1]) (by rw [hd2]) (by rw [hd3]) hUU;have hx2:∀ (j:Nat) (x:A),(as++xs.map V.toX)[j]?=some x->∃ u,(vs++us)[j]?=some u/\VR w g1 st0.O st0.R x u:=λj x hj=>by
  rw [zWq] at hj
  split at hj
  ·rename_i hlt;obtain ⟨u,h5,h6⟩:=hx j x hj;exact ⟨u,by rw [zQQ (by omega)]; exact h5,h6⟩
  ·rename_i hge;obtain ⟨u,h5,h6⟩:=hux _ x hj;exact ⟨u,by rw [zQW (by omega),<- hlen]; exact h5,h6.mono ⟨λ_ _=>rfl,λ_ h=>h,λ_ h=>h.elim,λ_ h=>h.elim,⟨rfl,rfl,rfl⟩,rfl,rfl⟩⟩
 have hlen2:(as++xs.map V.toX).length=(vs++us).length:=by simp [hlen,hul]
 have hle2:as.length+xs.length<=fn.ntmps:=by simpa using hle
 have hvl:(vs++us).length=vs.length+us.length:=zQV;have hS:iM E g1 fn.ntmps (eN (as++xs.map V.toX) st0) { tmps:=(vs++us).toArray++zZW (fn.ntmps - (vs++us).toArray.size) undef,defers:=[] } w:=by
  refine ⟨hM1,by simp; omega,rfl,λi hi=>?_,λi hi=>?_,hl1,λ_ h=>(by cases h)⟩
  ·show ∃ v,_/\VR w g1 st0.O st0.R (match (as++xs.map V.toX)[i]? with | some a=>a | none=>.undef) v
   cases hai:(as++xs.map V.toX)[i]? with
   | some a =>
    obtain ⟨u,hu,hr⟩:=hx2 i a hai;have hlt:i < (vs++us).length:=(List.getElem?_eq_some_iff.1 hu).1;exact ⟨u,by rw [zYG (by simpa using hlt)]; simpa using hu,hr⟩
   | none =>
    have hge:(as++xs.map V.toX).length<=i:=List.getElem?_eq_none_iff.1 hai;refine ⟨undef,?_,.undef _⟩;rw [zYJ (by simpa [<- hlen2] using hge)];rw [zYv,if_pos (by simp only [zYH]; omega)]
  ·show (match (as++xs.map V.toX)[i]? with | some a=>a | none=>.undef)=A.undef;rw [List.getElem?_eq_none_iff.2 (by omega)]
 refine calls_of_wp hf hb (wp_mono (h E g1 _ w ⟨⟨[],by rw [zWQ]; exact (nC _ _ _).symm,BL _ _ _,λ_ h=>(by cases h),λh=>(by cases h)⟩,⟨htb.mono λb h=>h.elim id λh=>(by cases h.1)⟩⟩ hS) λe a' w' ⟨g',st',hS',hR⟩=>?_);obtain ⟨he,l,st2,res0,outs0,hres,hrun,hvle,hole⟩:=hR;have hfin:a'.defers=[]/\∃ v,(results fn a'.tmps).run P w'=.ok v w'/\(λe w'=>∃ v F' bv bo,e=Ending.returned v/\qD w w'/\(∀ b,b < w.heap.size->b∉bs->w'.heap[b]?=w.heap[b]?)/\(∀ b,F b->F' b) /\
   (∀ b,F' b->b < w'.heap.size/\(b < w.heap.size->F b\/b∈bs)/\(F b\/Wr w' b))/\VV w' F' res v bv/\pa w' F' args vs outs bo/\(bv++bo).Nodup/\∀ b∈bv++bo,¬ F' b/\(w.heap.size<=b\/b∈bs)) (.returned v) w':=by
  refine ⟨hS'.defers,?_⟩;obtain ⟨v,hrv,hvv⟩:=D9 hS' hres ht;refine ⟨v,hrv,?_⟩;have hM':=hS'.mem;obtain ⟨os,st3,g3,bo,hM3,hE3,hL3,h3,hO,hT3⟩:=vN (w:=w') args hM' (us:=vs) (hVV.len.symm) (λj c hj=>by
   obtain ⟨b,h5,h6⟩:=hl2 j c hj;rw [(hS'.lent _ _ h6).2];exact h5) hrun
  obtain ⟨c',st4,g4,bv,hM4,hE4,hL4,h4,hv4,hT4⟩:=Eb hM3 (hvv.mono hE3) h3;obtain ⟨h5,rfl⟩:=eP h4;injection h5 with h5 h6
  subst h5 h6;have hT:=hT3.app hM' hL3 hT4 hL4;have hof:∀ b∈bo++bv,w.heap.size<=b\/b∈bs:=λb hb=>by
   rcases hT.of b hb with ⟨r,⟨e,sz,rows,h7⟩,_,h8⟩ | ⟨s,⟨c,cs,h7⟩,_,h8⟩
   ·obtain ⟨_,_,_,_,h9⟩:=hM'.row r _ h7;exact (h9 b h8).2
   ·obtain ⟨_,_,_,_,_,_,h9⟩:=hM'.ob s _ h7;rw [h8] at h9;exact h9
  have hnF:∀ b∈bo++bv,¬ (g4.F b\/F b):=λb hb h=>by
   rcases h with h | h
   ·exact hT.nf b hb h
   ·rcases hof b hb with h7 | h7
    ·have:=hF b h; omega
    ·exact hnf b h7 h
  have hmem:∀ b,b∈bv++bo->b∈bo++bv:=λb hb=>by
   rcases List.mem_append.1 hb with h | h <;> simp [h]
  refine ⟨v,λb=>g4.F b\/F b,bv,bo,rfl,⟨hM4.os,hM4.tape,hM4.output,hM4.sizes⟩,λb hb hbs=>hM4.frm rfl b hb hbs,λb h=>.inr h,λb h=>?_,hvle.vv (hv4.mono (λ_ _=>rfl) (λ_ h=>.inl h) (λ_ _=>rfl)),Ea (hO.mono (λb h=>.inl (hE4.F b h))) hole,?_,λb hb=>⟨hnF b (hmem b hb),hof b (hmem b hb)⟩⟩
  ·rcases h with h | h
   ·exact hM4.F b h
   ·exact ⟨zQj (hF b h) hM4.sizes,λ_=>.inl h,.inl h⟩
  ·have:=hT.nodup;rw [zXw] at this ⊢;exact ⟨this.2.1,this.1,λx hx y hy he=>this.2.2 y hy x hx he.symm⟩
 rcases he with rfl | rfl
 ·exact hfin
 ·exact hfin
end Go.Tm
namespace Go.Tm
open Go.RowKit
def rz(P:Program)(ρ:Nat->dZ)(ops:Array Oper):List Oper->St->Option St
 | [],st=>some st
 | o :: l,st=>match ir ops st o with
  | some true=>if ew ρ st o then match (oJ P ρ st.eval o).run st with | some (x,st1)=>rz P ρ ops l (st1.put o.dst x) | none=>none else none
  | some false=>rz P ρ ops l (st.put o.dst (.tup []))
  | none=>none
def St.or(x:Option St):St:=match x with | some s=>s | none=>db
section
variable {P:Program} {n:Nat} {Q:Exit->St->Prop} {st st':St} {p:Nat->Bool} {ρ:Nat->dZ} {ops:Array Oper} {l:List Oper} {K:St->Prop} {o:Oper}
theorem yE:∀ {l:List Oper} {st st1:St},rz P ρ ops l st=some st1->AG P p ρ ops l st st1
 | [],st,st1,h=>by cases h; rfl
 | o :: l,st,st1,h=>by
  unfold rz at h
  split at h
  ·rename_i hg
   split at h
   ·rename_i hf
    split at h
    ·rename_i x st2 hx;exact ⟨_,.run x st2 hg hf (.plain hx),yE h⟩
    ·cases h
   ·cases h
  ·rename_i hg;exact ⟨_,.skip hg,yE h⟩
  ·cases h
theorem AG.app:∀ {l l':List Oper} {st b c:St},AG P p ρ ops l st b->AG P p ρ ops l' b c->AG P p ρ ops (l++l') st c
 | [],l',st,b,c,h,h'=>by have h:b=st:=h; subst h; exact h'
 | o :: l,l',st,b,c,⟨d,h1,h2⟩,h'=>⟨d,h1,AG.app h2 h'⟩
theorem ak(k:Nat)(h:(rz P ρ ops (l.take k) st).isSome=true)(hr:ae P p ρ ops (l.drop k) (St.or (rz P ρ ops (l.take k) st)) K):ae P p ρ ops l st K:=by
 obtain ⟨st1,h1⟩:=Option.isSome_iff_exists.1 h;rw [h1] at hr;obtain ⟨st',h2,h3⟩:=hr;refine ⟨st',?_,h3⟩;have:=AG.app (yE h1) h2;rwa [zXK] at this
theorem ae.all(h:(rz P ρ ops l st).isSome=true)(hr:K (St.or (rz P ρ ops l st))):ae P p ρ ops l st K:=by
 obtain ⟨st1,h1⟩:=Option.isSome_iff_exists.1 h;rw [h1] at hr;exact ⟨st1,yE h1,hr⟩
theorem ae.call{m:Bool}{d f:Nat}{xf:Operand}{args:Array Operand}{ts:Array TypeId}{caps as:List A}{vs:List V}{st1:St}{res:V}{outs:List (List C)}{x:A}
  (hg:ir ops st o=some true) (hf:ew ρ st o=true) (ho:o.op=.call { callee:=.value xf,args,argTypes:=ts }) (hd:o.dst=some d) (hxf:st.eval xf=some (.clo f caps)) (k7:dj (args.toList.map st.eval)=some as)
  (hp:(i9 m p (as++caps) MA.ret).run st=some (vs,st1)) (hc:aJ P f vs res outs) (hr:(du d (dH (as++caps)) outs (V.toA d (fj d 0) res MA.ret)).run st1=some (x,st'))
  (hk:ae P p ρ ops l (st'.put o.dst x) K):ae P p ρ ops (o :: l) st K :=
 ae.step (.run x st' hg hf (.call m d f xf args ts caps as vs st1 res outs ho hd hxf k7 hp hc hr)) hk
theorem ae.callB{d f:Nat}{xf:Operand}{args:Array Operand}{ts:Array TypeId}{caps as:List A}{vs:List V}{res:V}{x:A}
  (hg:ir ops st o=some true) (hf:ew ρ st o=true) (ho:o.op=.call { callee:=.value xf,args,argTypes:=ts }) (hd:o.dst=some d) (hxf:st.eval xf=some (.clo f caps)) (k7:dj (args.toList.map st.eval)=some as)
  (hp:(d7 (as++caps) MA.ret).run st=some (vs,st)) (hc:aJ P f vs res []) (hpl:res.plain) (hr:(V.toA d (fj d 0) res MA.ret).run st=some (x,st'))
  (hk:ae P p ρ ops l (st'.put o.dst x) K):ae P p ρ ops (o :: l) st K :=
 ae.step (.run x st' hg hf (.callB d f xf args ts caps as vs res ho hd hxf k7 hp hc hpl hr)) hk
theorem VN{α:Type}{t e:TypeId}{f:α->List T}{xs:List α}{y:α}{sz:Nat}{kk:IntKind}{i:Int}(hu:P.underlying t=some (.slice e))(hs:iE P e=some sz)(h0:0<=i)(h:xs[i.toNat]?=some y) :
  (kB P t (.t (.sl sz (xs.map f))) (.t (.int kk i))).run st=some (.fadr (f y),st):=by
 unfold kB;simp only [hu,hs,zp,h0,and_self,↓reduceIte,zQX,h,zQg,true_and,MA.run]
theorem Uf{α:Type}{t e:TypeId}{f:α->List T}{xs:List α}{y:α}{sz r:Nat}{kk:IntKind}{i:Int}{e':TypeId}(hu:P.underlying t=some (.slice e))(hs:iE P e=some sz)(hr:st.rw r=some (.live e' sz (xs.map f)))(h0:0<=i)(h:xs[i.toNat]?=some y) :
  (kB P t (.own r) (.t (.int kk i))).run st=some (.elem r sz i.toNat 0,st):=by
 have:i.toNat < xs.length:=(List.getElem?_eq_some_iff.1 h).1;unfold kB;simp only [hu,hs,MA.run,hr,h0,zXQ,this,and_self,↓reduceIte,true_and]
end
end Go.Tm
namespace Go.Tm
open Go.RowKit
section
variable {P:Program} {n:Nat} {ls:List Nat} {st st1:St}
theorem Le.trans{st2:St}(h:Le n ls st st1)(k:Le n ls st1 st2):Le n ls st st2:=λE g a w hE hS=>by
 obtain ⟨g1,h1⟩:=h E g a w hE hS;exact k E g1 a w hE h1
theorem Ug{t:Nat}{x:A}(htm:st1.tm=st.tm)(h:∀ (E:En) (g:Gh) (w:World) (v:Value),fd E g st w->VR w g st.O st.R (st.tm t) v->∃ g1,fd E g1 st1 w/\p9 w w g g1 st.O st.R st1.O st1.R/\VR w g1 st1.O st1.R x v)(ht:t < n) :
  Le n ls st (st1.put (some t) x):=λE g a w hE hS=>by
 obtain ⟨v,h1,h2⟩:=hS.tm t ht;obtain ⟨g1,h3,h4,h5⟩:=h E g w v hS.mem h2;refine ⟨g1,h3.put _ _,hS.size,hS.defers,λi hi=>?_,λi hi=>?_,λs b hs=>?_,λv' hv'=>⟨(h4.R _ (hS.pin v' hv').1).1,(h4.R _ (hS.pin v' hv').1).2.trans (hS.pin v' hv').2⟩⟩
 ·show ∃ u,_/\VR w g1 st1.O st1.R (eF st1.tm t x i) u
  by_cases he:i=t
  ·subst he;exact ⟨v,h1,by rw [di]; exact h5⟩
  ·obtain ⟨u,h6,h7⟩:=hS.tm i hi;exact ⟨u,h6,by rw [cg _ _ _ _ he,htm]; exact h7.mono h4⟩
 ·show eF st1.tm t x i=A.undef;rw [cg _ _ _ _ (by omega),htm];exact hS.und i hi
 ·obtain ⟨h6,h7⟩:=hS.lent s b hs;exact ⟨(h4.O s h6).1,(h4.O s h6).2.trans h7⟩
theorem fd.nilrow{E:En}{g:Gh}{w:World}{r:Nat}(h:fd E g st w)(hr:st.rw r=none)(e sz:Nat) :
  fd E { g with rw:=eF g.rw r (.slice none 0 0) } { st with rw:=eF st.rw r (some (.live e sz [])) } w /\
   p9 w w g { g with rw:=eF g.rw r (.slice none 0 0) } st.O st.R ({ st with rw:=eF st.rw r (some (.live e sz [])) }:St).O ({ st with rw:=eF st.rw r (some (.live e sz [])) }:St).R :=
 h.new_row (qD.refl w) r hr (.slice none 0 0) e sz [] (λ_=>False) (λ_ _ _=>rfl) (λb h=>by cases h) (λ_ _ h=>h.elim) (λ_ h=>h.elim)
  ⟨[],⟨by simp,.inl ⟨rfl,rfl⟩⟩,λi row h=>by simp at h,λi row j x h=>by simp at h,λb h=>by cases h⟩
theorem Le.frz(t r e sz:Nat)(rows:List (List T))(ht:st.tm t=.own r)(hr:st.rw r=some (.live e sz rows))(hlt:Nat.blt t n=true) :
  Le n ls st (({ st with rw:=eF st.rw r (some (.frz sz rows)) }:St).put (some t) (.t (.sl sz rows))) :=
 Ug rfl (λE g w v hM hv=>by
  rw [ht] at hv
  cases hv with
  | own _ hR =>
   obtain ⟨h1,h2⟩:=hM.frz_row r e sz rows hr;have h3:Rd w _ (.sl sz rows) (g.rw r):=h1.row r (.frz sz rows) (by simp [di]);exact ⟨_,h1,h2,.t _ _ h3⟩) (by simpa using hlt)
theorem fd.reob{E:En}{g:Gh}{w:World}{s:Nat}{cells cells':List A}(h:fd E g st w)(hs:st.ob s=some cells)(hl:cells'.length<=cells.length)
  (hx:∀ (j:Nat) (x':A),cells'[j]?=some x'->∃ x,cells[j]?=some x/\∀ v,x.one=true->VR w g st.O st.R x v->x'.one=true/\VR w g st.O st.R x' v):fd E g { st with ob:=eF st.ob s (some cells') } w:=by
 have hO:({ st with ob:=eF st.ob s (some cells') }:St).O=st.O:=by
  funext i
  unfold St.O;simp only [eF]
  split
  ·rename_i he;rw [he,hs];rfl
  ·rfl
 have hR:({ st with ob:=eF st.ob s (some cells') }:St).R=st.R:=rfl;have hL:({ st with ob:=eF st.ob s (some cells') }:St).L=st.L:=rfl;refine ⟨λi c hi=>?_,by rw [hO]; exact h.obne,h.row,h.rowne,by rw [hO,hL]; exact h.rowob,h.F,h.os,h.tape,h.output,h.sizes,h.frame,h.shp,h.dep0⟩;rw [hO,hR]
 by_cases he:i=s
 ·subst he;have hc:c=cells':=by simpa [di] using hi.symm
  subst hc;obtain ⟨arr,e,h1,h2,h3,h4⟩:=h.ob i cells hs;refine ⟨arr,e,h1,by omega,λj x' hj=>?_,h4⟩;obtain ⟨x,hxj,hxx⟩:=hx j x' hj;obtain ⟨h5,v,h6,h7⟩:=h3 j x hxj;exact ⟨(hxx v h5 h7).1,v,h6,(hxx v h5 h7).2⟩
 ·exact h.ob i c (by simpa [eF,he] using hi)
theorem Le.mem(htm:st1.tm=st.tm)(h:∀ (E:En) (g:Gh) (w:World),fd E g st w->∃ g1,fd E g1 st1 w/\p9 w w g g1 st.O st.R st1.O st1.R):Le n ls st st1:=λE g a w hE hS=>by
 obtain ⟨g1,h3,h4⟩:=h E g w hS.mem;refine ⟨g1,h3,hS.size,hS.defers,λi hi=>?_,λi hi=>?_,λs b hs=>?_,λv' hv'=>⟨(h4.R _ (hS.pin v' hv').1).1,(h4.R _ (hS.pin v' hv').1).2.trans (hS.pin v' hv').2⟩⟩
 ·obtain ⟨u,h6,h7⟩:=hS.tm i hi;exact ⟨u,h6,by rw [htm]; exact h7.mono h4⟩
 ·rw [htm];exact hS.und i hi
 ·obtain ⟨h6,h7⟩:=hS.lent s b hs;exact ⟨(h4.O s h6).1,(h4.O s h6).2.trans h7⟩
theorem Og{s:Nat}{cells cells':List A}(hs:st.ob s=some cells):({ st with ob:=eF st.ob s (some cells') }:St).O=st.O:=by
 funext i
 unfold St.O;simp only [eF]
 split
 ·rename_i he;rw [he,hs];rfl
 ·rfl
theorem yF(s j r e sz:Nat)(cells:List A)(hs:st.ob s=some cells)(hj:cells[j]?=some .nil)(hr:st.rw r=none) :
  Le n ls st { tm:=st.tm,ob:=eF st.ob s (some (cells.set j (.own r))),rw:=eF st.rw r (some (.live e sz [])) } :=
 Le.mem rfl λE g w hM=>by
  obtain ⟨h1,h2⟩:=hM.nilrow hr e sz;have h3:({ g with rw:=eF g.rw r (.slice none 0 0) }:Gh).rw r=Value.slice none 0 0:=di _ _ _;have h4:=VR.own (w:=w) (g:={ g with rw:=eF g.rw r (.slice none 0 0) }) (O:=({ st with rw:=eF st.rw r (some (.live e sz [])) }:St).O) (R:=({ st with rw:=eF st.rw r (some (.live e sz [])) }:St).R) r (by simp [St.R,di]);rw [h3] at h4;have hs':({ st with rw:=eF st.rw r (some (.live e sz [])) }:St).ob s=some cells:=hs;have hO:=Og (cells':=cells.set j (.own r)) hs';refine ⟨_,h1.reob hs' (cells':=cells.set j (.own r)) (by simp) (λi x' hi=>?_),⟨h2.same,h2.F,λs hs=>?_,h2.R,h2.d,h2.s⟩⟩
  ·by_cases he:j=i
   ·subst he;refine ⟨.nil,hj,λv _ hv=>?_⟩;have hlt:j < cells.length:=(List.getElem?_eq_some_iff.1 hj).1;rw [List.getElem?_set_self hlt] at hi
    cases hi
    cases hv
    exact ⟨rfl,h4⟩
   ·rw [List.getElem?_set_ne he] at hi;exact ⟨x',hi,λv h1 h2=>⟨h1,h2⟩⟩
  ·have:=h2.O s hs;exact ⟨by rw [<- hO] at this; exact this.1,this.2⟩
end
end Go.Tm
namespace Go.Tm
section
variable {P:Program} {n:Nat} {ls:List Nat} {st st1:St}
theorem cc(s j r e sz:Nat)(cells:List A)(rows:List (List T))(hs:st.ob s=some cells)(hj:cells[j]?=some (.own r))(hr:st.rw r=some (.live e sz rows)) :
  Le n ls st { tm:=st.tm,ob:=eF st.ob s (some (cells.set j (.t (.sl sz rows)))),rw:=eF st.rw r (some (.frz sz rows)) } :=
 Le.mem rfl λE g w hM=>by
  obtain ⟨h1,h2⟩:=hM.frz_row r e sz rows hr;have h3:Rd w _ (.sl sz rows) (g.rw r):=h1.row r (.frz sz rows) (by simp [di]);have hs':({ st with rw:=eF st.rw r (some (.frz sz rows)) }:St).ob s=some cells:=hs;have hO:=Og (cells':=cells.set j (.t (.sl sz rows))) hs';refine ⟨_,h1.reob hs' (cells':=cells.set j (.t (.sl sz rows))) (by simp) (λi x' hi=>?_),⟨h2.same,h2.F,λs hs=>?_,h2.R,h2.d,h2.s⟩⟩
  ·by_cases he:j=i
   ·subst he;refine ⟨.own r,hj,λv _ hv=>?_⟩;have hlt:j < cells.length:=(List.getElem?_eq_some_iff.1 hj).1;rw [List.getElem?_set_self hlt] at hi
    cases hi
    cases hv
    exact ⟨rfl,.t _ _ h3⟩
   ·rw [List.getElem?_set_ne he] at hi;exact ⟨x',hi,λv h1 h2=>⟨h1,h2⟩⟩
  ·have:=h2.O s hs;exact ⟨by rw [<- hO] at this; exact this.1,this.2⟩
end
end Go.Tm
namespace Go.Tm
open Go.RowKit
def dG{α:Type}(xs:List α)(i:Int):Option α:=if 0<=i then xs[i.toNat]? else none
theorem bx{α:Type}{xs:List α}{i:Int}{x:α}(h:dG xs i=some x):0<=i/\xs[i.toNat]?=some x:=by
 unfold dG at h
 split at h
 ·exact ⟨by assumption,h⟩
 ·cases h
def dC(b:Bool):Option Unit:=if b then some () else none
theorem bp{b:Bool}{u:Unit}(h:dC b=some u):b=true:=by
 unfold dC at h
 split at h
 ·assumption
 ·cases h
theorem bind_some{α β:Type}{x:Option α}{f:α->Option β}{r:β}(h:x.bind f=some r):∃ a,x=some a/\f a=some r:=by
 cases x with
 | none=>cases h
 | some a=>exact ⟨a,rfl,h⟩
def Ec{β:Type}(x:Option (β×St)):St:=match x with | some q=>q.2 | none=>db
def Uh(x:Option (A×St)):A:=match x with | some q=>q.1 | none=>.undef
section
variable {P:Program} {n:Nat} {ls:List Nat} {Q:Exit->St->Prop} {st st':St} {p:Nat->Bool} {ρ:Nat->dZ} {ops:Array Oper} {l:List Oper} {K:St->Prop} {o:Oper}
theorem av{id:Nat}(p:Nat->Bool)(ρ:Nat->dZ)(hm:P.follows .mixedOrders=true)(hok:Ma p ρ n ops=true)(h:ae P p ρ ops ops.toList st (Q .normal)):Wp P n ls (.region id ops true) Q st :=
 Wp.region (λ_=>hm) hok h
theorem zE{id:Nat}(p:Nat->Bool)(ρ:Nat->dZ)(hok:ops.toList.all (nm n)=true)(h:ae P p ρ ops ops.toList st (Q .normal)):Wp P n ls (.region id ops false) Q st :=
 Wp.region (λh=>by cases h) hok h
theorem ae.known(d:Nat){e v:Bool}(h:st.tm d=.t (.bool e))(hv:e=v)(hr:ae P p ρ ops l (st.put (some d) (.t (.bool v))) K):ae P p ρ ops l st K:=by
 have:st.put (some d) (.t (.bool v))=st:=by
  refine St.ext (funext λi=>?_) rfl rfl;show eF st.tm d (.t (.bool v)) i=st.tm i;unfold eF
  split
  ·rename_i he;rw [he,h,hv]
  ·rfl
 rwa [this] at hr
theorem ae.pure{x:A}(hg:ir ops st o=some true)(hf:ew ρ st o=true)(h:(oJ P ρ st.eval o).run st=some (x,st))(hr:ae P p ρ ops l (st.put o.dst x) K):ae P p ρ ops (o :: l) st K:=ae.op hg hf h hr
theorem RN{α:Type}(f:α->List T)(xs:List α)(i:Int){y:α}{t e:TypeId}{a b:Operand}{sz:Nat}{kk:IntKind}(ho:o.op=.indexAddr t a b)(hg:ir ops st o=some true)(hf:ew ρ st o=true)
  (ha:st.eval a=some (.t (.sl sz (xs.map f)))) (hb:st.eval b=some (.t (.int kk i))) (hu:P.underlying t=some (.slice e)) (hs:iE P e=some sz) (h:dG xs i=some y) (hk:ae P p ρ ops l (st.put o.dst (.fadr (f y))) K):ae P p ρ ops (o :: l) st K:=by
 obtain ⟨h0,h1⟩:=bx h;refine ae.pure (x:=.fadr (f y)) hg hf ?_ hk;simp only [oJ,ho,ha,hb];exact VN hu hs h0 h1
theorem RO{α:Type}(f:α->List T)(xs:List α)(i:Int)(r:Nat){y:α}{t e e':TypeId}{a b:Operand}{sz:Nat}{kk:IntKind}(ho:o.op=.indexAddr t a b)(hg:ir ops st o=some true)(hf:ew ρ st o=true)
  (ha:st.eval a=some (.own r)) (hr:st.rw r=some (.live e' sz (xs.map f))) (hb:st.eval b=some (.t (.int kk i))) (hu:P.underlying t=some (.slice e)) (hs:iE P e=some sz) (h:dG xs i=some y) (hk:ae P p ρ ops l (st.put o.dst (.elem r sz i.toNat 0)) K):ae P p ρ ops (o :: l) st K:=by
 obtain ⟨h0,h1⟩:=bx h;refine ae.pure (x:=.elem r sz i.toNat 0) hg hf ?_ hk;simp only [oJ,ho,ha,hb];exact Uf hu hs hr h0 h1
theorem PS{α:Type}(f:α->List T)(xs:List α)(r i off:Nat){y:α}{t:TypeId}{a:Operand}{sz m:Nat}{e':TypeId}{gg:Bool}(x:A)(ho:o.op=.load t a)(hg:ir ops st o=some true)(hf:ew ρ st o=true)
  (ha:st.eval a=some (.elem r sz i off)) (hr:st.rw r=some (.live e' sz (xs.map f))) (hgg:NL P t=some gg) (hm:iE P t=some m) (h:xs[i]?=some y) (hc:CI gg m ((f y).map A.t) off=some x) (hk:ae P p ρ ops l (st.put o.dst x) K):ae P p ρ ops (o :: l) st K:=by
 refine ae.pure (x:=x) hg hf ?_ hk;simp only [oJ,ho,ha,FG,hgg,hm,MA.run,hr,↓reduceIte,zQX,h,zQg,hc]
def BM(P:Program)(t:TypeId):Option (TypeId×Nat×Nat):=match P.underlying t with
 | some (.slice e)=>match Ab P e,sP P e with
  | some (some _,n,by_),some z=>if z.length=n/\0 < n/\0 < by_ then some (e,n,by_) else none
  | _,_=>none
 | _=>none
theorem Ed{t e:TypeId}{n by_:Nat}(h:BM P t=some (e,n,by_)):∃ z z0,P.underlying t=some (.slice e)/\Ab P e=some (some z0,n,by_)/\sP P e=some z/\z.length=n/\0 < n/\0 < by_:=by
 unfold BM at h
 split at h
 ·rename_i e' hu
  split at h
  ·rename_i z0 n' by' z hi hz
   split at h
   ·rename_i hc
    cases h
    exact ⟨z,z0,hu,hi,hz,hc.1,hc.2.1,hc.2.2⟩
   ·cases h
  ·cases h
 ·cases h
theorem SY{k:IntKind}{m:Nat}{xs:List Int}{f:Int->List T}(hf:∀ n,(f n).all T.sc=true):(((A.ext false (.sl m (xs.map f))).rows λm rows=>MA.ret (m,rows)).run st).map Prod.fst=some (m,xs.map f):=by
 have:I7 (xs.map f)=true:=by
  unfold I7;rw [zYx];intro r hr;obtain ⟨n,_,rfl⟩:=List.mem_map.1 hr;exact hf n
 simp [A.rows,this,MA.run]
theorem IT{β:Type}{y:A}{m:Nat}{ys:List (List T)}(hy:((y.rows λm rows=>MA.ret (m,rows)).run st).map Prod.fst=some (m,ys)):∀ k:Nat->List (List T)->MA β,(y.rows k).run st=(k m ys).run st:=by
 intro k;unfold A.rows at hy ⊢
 split at hy <;> simp only [MA.run] at hy ⊢ <;> try (simp at hy; done)
 ·simp at hy; obtain ⟨rfl,rfl⟩:=hy; rfl
 ·split at hy
  ·rename_i h; rw [if_pos h]; simp [MA.run] at hy; obtain ⟨rfl,rfl⟩:=hy; rfl
  ·simp [MA.run] at hy
 ·simp at hy; obtain ⟨rfl,rfl⟩:=hy; rfl
 ·rename_i r
  revert hy
  rcases st.rw r with _ | (_ | _ | _) <;> simp only [MA.run,zQg,Option.some.injEq,Prod.mk.injEq,Option.map_none,reduceCtorEq,false_implies]
  ·rintro ⟨rfl,rfl⟩; rfl
  ·rintro ⟨rfl,rfl⟩; rfl
theorem RP(d m e nn by_ r:Nat)(xs ys:List (List T)){t:TypeId}{ts:Array TypeId}{args:Array Operand}{a b:Operand}{y:A}(ho:o.op=.call { callee:=.builtin .append,args,argTypes:=ts })(hargs:args.toList=[a,b])(hts:ts.toList=[t,t])(hd:o.dst=some d)(hg:ir ops st o=some true)(hf:ew ρ st o=true)
  (ha:st.eval a=some (.own r)) (hr:st.rw r=some (.live e nn xs)) (hb:st.eval b=some y) (hy:((y.rows λm rows=>MA.ret (m,rows)).run st).map Prod.fst=some (m,ys)) (hm:m=nn\/ys=[]) (hi:BM P t=some (e,nn,by_)) (hsz:(xs.length+ys.length)*by_<=140737488355328) (hne:zWv (fj d 0) r=false) (hfree:st.rw (fj d 0)=none)
  (hk:ae P p ρ ops l (({ st with rw:=eF (eF st.rw r (some .gone)) (fj d 0) (some (.live e nn (xs++ys))) }:St).put o.dst (.own (fj d 0))) K):ae P p ρ ops (o :: l) st K:=by
 obtain ⟨z,z0,hu,hti,hz,h1,h2,h3⟩:=Ed hi;have hne':fj d 0≠r:=λh=>by rw [h,zZz] at hne; cases hne
 refine ae.op (x:=.own (fj d 0)) hg hf ?_ hk;have hrow:=IT (β:=A) hy;have hfr:eF st.rw r (some QQ.gone) (fj d 0)=none:=by rw [cg _ _ _ _ hne',hfree]
 simp only [oJ,ho,hargs,ha,hb,uF,hts,hd,↓reduceIte,hu,hti,hz,h1,h2,h3,and_self,hrow,hm,MA.run,hr,hsz,vj,hfr]
end
end Go.Tm
namespace Go.Tm
open Go.RowKit
section
variable {P:Program} {n:Nat} {ls:List Nat} {Q:Exit->St->Prop} {st st':St} {p:Nat->Bool} {ρ:Nat->dZ} {ops:Array Oper} {l:List Oper} {K:St->Prop} {o:Oper}
theorem VO{m:Bool}{fn:Func}{args:List V}{res:V}{outs:List (List C)}(l:List A)(res0:V)(outs0:List (List C))(hres:xi P st fn.results.toList=some l)(h:((yC 0 args λos=>RL m (SX l) λv=>MA.ret (v,os)).run st).map Prod.fst=some (res0,outs0))(hv:PP res0 res)(ho:xN (xN MU) outs0 outs):yD P m fn args res outs .ret st:=by
 obtain ⟨⟨x,st1⟩,h1,h2⟩:=Option.map_eq_some_iff.1 h
 cases h2
 exact ⟨.inl rfl,l,st1,res0,outs0,hres,h1,hv,ho⟩
theorem dp{α:Type}(f:α->List T)(d m e nn by_ r:Nat)(xs ys:List α){t:TypeId}{ts:Array TypeId}{args:Array Operand}{a b:Operand}{y:A}(ho:o.op=.call { callee:=.builtin .append,args,argTypes:=ts })(hargs:args.toList=[a,b])(hts:ts.toList=[t,t])(hd:o.dst=some d)(hg:ir ops st o=some true)(hf:ew ρ st o=true)
  (ha:st.eval a=some (.own r)) (hr:st.rw r=some (.live e nn (xs.map f))) (hb:st.eval b=some y) (hy:((y.rows λm rows=>MA.ret (m,rows)).run st).map Prod.fst=some (m,ys.map f)) (hm:m=nn\/ys.map f=[]) (hi:BM P t=some (e,nn,by_)) (hsz:(xs.length+ys.length)*by_<=140737488355328) (hne:zWv (fj d 0) r=false) (hfree:st.rw (fj d 0)=none)
  (hk:ae P p ρ ops l (({ st with rw:=eF (eF st.rw r (some .gone)) (fj d 0) (some (.live e nn ((xs++ys).map f))) }:St).put o.dst (.own (fj d 0))) K):ae P p ρ ops (o :: l) st K :=
 RP d m e nn by_ r (xs.map f) (ys.map f) ho hargs hts hd hg hf ha hr hb hy hm hi (by simpa using hsz) hne hfree (by rw [<- List.map_append]; exact hk)
theorem jY(op:BinOp)(a b:T)(z:T){t u:TypeId}{x y:Operand}(ho:o.op=.binOp op t x y u)(hg:ir ops st o=some true)(hf:ew ρ st o=true)(hx:st.eval x=some (.t a))(hy:st.eval y=some (.t b))
  (h:AD (V5 P t) op a b=some z) (hk:ae P p ρ ops l (st.put o.dst (.t z)) K):ae P p ρ ops (o :: l) st K:=by
 refine ae.pure (x:=.t z) hg hf ?_ hk;simp only [oJ,ho,hx,hy,h,MA.run]
theorem Ui(tb:Bool)(k:IntKind)(a b:Int)(h:(b == 0)=false):AD tb .quo (.int k a) (.int k b)=some (.int k (k.wrap (a.tdiv b))):=by
 have:b≠0:=by simpa using h
 simp [AD,this]
theorem IU(tb:Bool)(k:IntKind)(a b:Int)(h:(b == 0)=false):AD tb .rem (.int k a) (.int k b)=some (.int k (a.tmod b)):=by
 have:b≠0:=by simpa using h
 simp [AD,this]
theorem vD(tb:Bool)(k k':IntKind)(a b:Int)(h:decide (0<=b)=true):AD tb .shl (.int k a) (.int k' b)=some (.int k (k.wrap (a*2 ^ min b.toNat k.bits))):=by
 have:0<=b:=by simpa using h
 simp [AD,this]
theorem QZ(tb:Bool)(k k':IntKind)(a b:Int)(h:decide (0<=b)=true):AD tb .shr (.int k a) (.int k' b)=some (.int k (a.fdiv (2 ^ min b.toNat k.bits))):=by
 have:0<=b:=by simpa using h
 simp [AD,this]
def cO(l h n:Int):Bool:=decide (0<=l) && decide (l<=h) && decide (h<=n)
theorem Ee{l h n:Int}(hh:cO l h n=true):0<=l/\l<=h/\h<=n:=by
 simp only [cO,sk,decide_eq_true_eq] at hh;exact ⟨hh.1.1,hh.1.2,hh.2⟩
theorem dV{α:Type}(f:α->List T)(xs:List α)(sz:Nat)(i j:Int){t e:TypeId}{x:Operand}{ax:A}{lo hi:Option Operand}{alo ahi:Option A}(ho:o.op=.slice t x lo hi none)(hg:ir ops st o=some true)(hf:ew ρ st o=true)(hx:st.eval x=some ax)(hr:((ax.toT MA.ret).run st).map Prod.fst=some (.sl sz (xs.map f)))
  (hlo:HG st.eval lo=some alo) (hhi:HG st.eval hi=some ahi) (hl:wz 0 alo=some i) (hh:wz xs.length ahi=some j) (hu:P.underlying t=some (.slice e)) (hs:iE P e=some sz) (hw:SA ρ o.dst alo ahi=false) (h:cO i j xs.length=true)
  (hk:ae P p ρ ops l ((Ec ((ax.toT MA.ret).run st)).put o.dst (.t (.sl sz (((xs.take j.toNat).drop i.toNat).map f)))) K):ae P p ρ ops (o :: l) st K:=by
 have h':=Ee h;obtain ⟨⟨y,st1⟩,h1,h2⟩:=Option.map_eq_some_iff.1 hr
 cases h2
 rw [h1] at hk;refine ae.op (x:=.t (.sl sz (((xs.take j.toNat).drop i.toNat).map f))) (st1:=st1) hg hf ?_ hk;have key:∀ k:T->MA A,(ax.toT k).run st=(k (.sl sz (xs.map f))).run st1:=by
  intro k
  cases ax <;> simp only [A.toT,MA.run,Option.some.injEq,Prod.mk.injEq,reduceCtorEq] at h1 ⊢
  ·obtain ⟨h1,rfl⟩:=h1; rw [h1]
  ·obtain ⟨h1,rfl⟩:=h1; rw [h1]
  ·rename_i r
   revert h1
   rcases st.rw r with _ | (_ | _ | _) <;> simp only [MA.run,Option.some.injEq,Prod.mk.injEq,reduceCtorEq,false_implies]
   ·rintro ⟨h1,rfl⟩; rw [h1]
   ·rintro ⟨h1,rfl⟩; rw [h1]
 have hne:xb P t ax alo ahi=ax.toT fun
   | .sl sz' rows=>match wz 0 alo,wz rows.length ahi with
    | some l,some h=>if sz'=sz\/rows=[] then if 0<=l/\l<=h/\h<=rows.length then .ret (.t (.sl sz' ((rows.take h.toNat).drop l.toNat))) else .fail else .fail
    | _,_=>.fail
   | _=>.fail:=by
  unfold xb;rw [hu];have h9:∀ q:Option Nat,q=some sz->(match q with
   | some n=>(ax.toT λy=>match y with
    | .sl sz rows=>match wz 0 alo,wz rows.length ahi with
     | some l,some h=>if sz=n\/rows=[] then if 0<=l/\l<=h/\h<=rows.length then (MA.ret (.t (.sl sz ((rows.take h.toNat).drop l.toNat))):MA A) else .fail else .fail
     | _,_=>.fail
    | _=>.fail)
   | none=>.fail)=ax.toT fun
   | .sl sz' rows=>match wz 0 alo,wz rows.length ahi with
    | some l,some h=>if sz'=sz\/rows=[] then if 0<=l/\l<=h/\h<=rows.length then .ret (.t (.sl sz' ((rows.take h.toNat).drop l.toNat))) else .fail else .fail
    | _,_=>.fail
   | _=>.fail:=λq hq=>by subst hq; rfl
  cases ax <;> first | exact h9 _ hs | (exfalso; simp [A.toT,MA.run] at h1; done)
 simp only [oJ,ho,hx,hlo,hhi,hw,zWW,hne,key,hl,zXQ,hh,h'.1,h'.2.1,h'.2.2,and_self,↓reduceIte,MA.run,true_or,<- List.map_take,<- List.map_drop]
theorem rK{α:Type}(s:Bool)(f:α->List T)(xs:List α)(sz:Nat)(i j:Int){t e:TypeId}{x:Operand}{lo hi:Option Operand}{alo ahi:Option A}(ho:o.op=.slice t x lo hi none)(hg:ir ops st o=some true)(hf:ew ρ st o=true)(hx:st.eval x=some (.ext s (.sl sz (xs.map f))))
  (hlo:HG st.eval lo=some alo) (hhi:HG st.eval hi=some ahi) (hl:wz 0 alo=some i) (hh:wz xs.length ahi=some j) (hu:P.underlying t=some (.slice e)) (hs:iE P e=some sz) (hw:SA ρ o.dst alo ahi=false) (h:cO i j xs.length=true)
  (hk:ae P p ρ ops l (st.put o.dst (.ext s (.sl sz (((xs.take j.toNat).drop i.toNat).map f)))) K):ae P p ρ ops (o :: l) st K:=by
 have h':=Ee h;refine ae.pure (x:=.ext s (.sl sz (((xs.take j.toNat).drop i.toNat).map f))) hg hf ?_ hk;simp only [oJ,ho,hx,hlo,hhi,hw,zWW,xb,hu,hs,hl,zXQ,hh,h'.1,h'.2.1,h'.2.2,and_self,true_and,↓reduceIte,MA.run,<- List.map_take,<- List.map_drop]
theorem Jt{α:Type}:∀ (ts:List T) (k:List T->MA α),A.toTs (ts.map A.t) k=k ts
 | [],k=>rfl
 | t :: ts,k=>by
  simp only [zWh,A.toTs,A.toT];exact Jt ts _
theorem Oh{α:Type}(f:α->List T)(y:α)(d e nn by_:Nat)(i c:Int){t:TypeId}{x1 x2:Operand}(ho:o.op=.makeSlice t x1 x2)(hd:o.dst=some d)(hg:ir ops st o=some true)(hf:ew ρ st o=true)(h1:st.eval x1=some (.t (.int .i64 i)))(h2:st.eval x2=some (.t (.int .i64 c)))
  (hi:BM P t=some (e,nn,by_)) (hz:(sP P e).map (li (DN P e))=some ((f y).map A.t))
  (h0:(decide (0<=c) && (i == 0 || i == c))=true) (hsz:c.toNat*by_<=140737488355328) (hfree:st.rw (fj d 0)=none)
  (hk:ae P p ρ ops l (({ st with rw:=eF st.rw (fj d 0) (some (.live e nn ((zQk i.toNat y).map f))) }:St).put o.dst (.own (fj d 0))) K):ae P p ρ ops (o :: l) st K:=by
 obtain ⟨z,z0,hu,hti,hzz,q1,q2,q3⟩:=Ed hi;simp only [sk,decide_eq_true_eq,Bool.or_eq_true,beq_iff_eq] at h0;refine ae.op (x:=.own (fj d 0)) hg hf ?_ hk;have hc:c<=9223372036854775807:=by
  have:c.toNat<=c.toNat*by_:=Nat.le_mul_of_pos_right _ q3;omega
 rw [hzz] at hz;have hz':li (DN P e) z=(f y).map A.t:=by simpa using hz
 simp only [oJ,ho,h1,h2,I9,hu,hd,hti,hzz,q1,q2,h0.1,h0.2,hsz,hc,and_self,↓reduceIte,hz',Jt,List.map_replicate,vj,MA.run,hfree]
theorem gf{α:Type}(f:α->List T)(xs:List α)(r i off:Nat){y:α}(y':α){t e:TypeId}{x1 x2:Operand}(v:A){sz m:Nat}(ts:List T)(ho:o.op=.store t x1 x2)(hg:ir ops st o=some true)(hf:ew ρ st o=true)
  (h1:st.eval x1=some (.elem r sz i off)) (h2:st.eval x2=some v) (hm:iE P t=some m) (hv:(zWv v.cells.length m && v.cells.all A.one)=true) (hz:li (DN P t) v.cells=ts.map A.t)
  (hr:st.rw r=some (.live e sz (xs.map f))) (h:xs[i]?=some y) (hle:Nat.ble (off+m) (f y).length=true) (hy:spl (f y) off ts=f y')
  (hk:ae P p ρ ops l ((({ st with rw:=eF st.rw r (some (.live e sz ((xs.set i y').map f))) }:St)).put o.dst .undef) K):ae P p ρ ops (o :: l) st K:=by
 simp only [sk] at hv;have hv1:=zWG hv.1;have hle':off+m<=(f y).length:=by simpa using hle
 refine ae.op (x:=.undef) hg hf ?_ hk;simp only [oJ,ho,h1,h2,zo,hm,hv1,hv.2,and_self,↓reduceIte,hz,Jt,MA.run,hr,zQX,h,zQg,hle',hy,List.map_set]
end
end Go.Tm
namespace Go.Tm
open Go.RowKit
theorem Ju{β:Type}{e:Bool}{x y:β}{r:β}(h:(bif e then x else y)=r)(hc:e=true):x=r:=by rw [hc] at h; exact h
theorem Jv{β:Type}{e:Bool}{x y:β}{r:β}(h:(bif e then x else y)=r)(hc:e=false):y=r:=by rw [hc] at h; exact h
def bd(k:IntKind)(a b:Int):Int:=k.wrap (a+b)
def ez(k:IntKind)(a b:Int):Int:=k.wrap (a - b)
def md(k:IntKind)(a b:Int):Int:=k.wrap (a*b)
def Oi(k:IntKind)(a b:Int):Int:=k.wrap (a.tdiv b)
def uG(k:IntKind)(a b:Int):Int:=a.tmod b
def fK(k:IntKind)(a b:Int):Int:=k.wrap (BitVec.ofInt k.bits a &&& BitVec.ofInt k.bits b).toNat
def xO(k:IntKind)(a b:Int):Int:=k.wrap (BitVec.ofInt k.bits a ||| BitVec.ofInt k.bits b).toNat
def MV(k:IntKind)(a b:Int):Int:=k.wrap (BitVec.ofInt k.bits a ^^^ BitVec.ofInt k.bits b).toNat
def zF(k:IntKind)(a b:Int):Int:=k.wrap (BitVec.ofInt k.bits a &&& ~~~ BitVec.ofInt k.bits b).toNat
def jF(k:IntKind)(a b:Int):Int:=k.wrap (a*2 ^ min b.toNat k.bits)
def nD(k:IntKind)(a b:Int):Int:=a.fdiv (2 ^ min b.toNat k.bits)
theorem tf(b:Bool):b=true\/b=false:=by cases b <;> simp
def aj(k:IntKind)(n:Int):List T:=[.int k n]
def Wq{α:Type}(sz:Nat)(f:α->List T)(xs:List α):List T:=[.sl sz (xs.map f)]
theorem aJ.le{P:Program}{f:FuncId}{l l':List V}{res:V}{outs:List (List C)}(h:aJ P f l' res outs)(hl:AX l l'):aJ P f l res outs:=by
 refine ⟨h.1,λw F vs bs hF hV hn hb htb=>(h.2 w F vs bs hF (FO hl hV) hn hb htb).mono λe w' hh=>?_⟩;obtain ⟨v,F',bv,bo,h1,h2,h3,h4,h5,h6,h7,h8,h9⟩:=hh;exact ⟨v,F',bv,bo,h1,h2,h3,h4,h5,h6,QY h7 hl,h8,h9⟩
end Go.Tm
namespace Go.Tm
open Go.RowKit
section
variable {P:Program} {n:Nat} {ls:List Nat} {Q:Exit->St->Prop} {N:St->Prop} {st st':St} {p:Nat->Bool} {ρ:Nat->dZ} {ops:Array Oper} {l:List Oper} {K:St->Prop} {o:Oper}
theorem aQ(h:N st):iL N Q .normal st:=h
theorem bj{id:Nat}(h:Q (.exit id) st):iL N Q (.exit id) st:=h
theorem UY(h:Q .ret st):iL N Q .ret st:=h
theorem bW{id:Nat}(h:Q .normal st):Ue id Q .normal st:=h
theorem d8{id:Nat}(h:Q .normal st):Ue id Q (.exit id) st:=by
 show bif zWv id id then Q .normal st else Q (.exit id) st
 rw [zZz];exact h
theorem HK{fn:Func}{c:Code}{f:FuncId}{args:List V}{m:Bool}{res:V}{outs:List (List C)}(as:List A)
  (hf:P.funcs[f]?=some fn) (hb:fn.body=some c) (hnm:(fn.name == "runtime.NumGoroutine")=false) (hle:Nat.ble as.length fn.ntmps=true) (ht:re fn.ntmps fn=true)
  (ha:((mY 0 args MA.ret).run db).map Prod.fst=some as) (hl:gC 0 args as=true)
  (h:Wp P fn.ntmps (eo 0 args) c (yD P m fn args res outs) (eN as (Ec ((mY 0 args MA.ret).run db)))):aJ P f args res outs:=by
 obtain ⟨⟨as',st0⟩,h1,h2⟩:=Option.map_eq_some_iff.1 ha
 cases h2
 rw [h1] at h;exact Js hf hb hnm (by simpa using hle) ht h1 hl h
theorem RQ{α:Type}(f:α->List T)(xs:List α)(m:Nat){y:A}{x:Operand}{t e:TypeId}{args:Array Operand}{ts:Array TypeId}(ho:o.op=.call { callee:=.builtin .len,args,argTypes:=ts })(hargs:args.toList=[x])(hts:ts.toList=[t])(hg:ir ops st o=some true)(hf:ew ρ st o=true)
  (hx:st.eval x=some y) (hy:((y.rows λm rows=>MA.ret (m,rows)).run st).map Prod.fst=some (m,xs.map f)) (hu:P.underlying t=some (.slice e)) (hk:ae P p ρ ops l (st.put o.dst (.t (.int .i64 xs.length))) K):ae P p ρ ops (o :: l) st K:=by
 refine ae.pure (x:=.t (.int .i64 xs.length)) hg hf ?_ hk;have hl:(G3 P t y).run st=(MA.ret (.t (.int .i64 xs.length)):MA A).run st:=by
  unfold G3;rw [hu]
  split <;> rename_i h1 <;> first | (cases h1; done) | skip
  ·rename_i s z rs
   cases s with
   | true=>cases hy
   | false =>
    simp only [A.rows] at hy
    split at hy
    ·simp [MA.run] at hy; rw [hy.2]; simp
    ·simp [MA.run] at hy
  ·rw [IT hy]; simp
  ·rename_i h2 _; exact absurd rfl (h2 _)
 simp only [oJ,ho,hargs,hx,hts];rw [hl]; rfl
theorem ck{α:Type}(f:α->List T)(xs:List α)(s:Bool)(m:Nat){x:Operand}{t e:TypeId}{args:Array Operand}{ts:Array TypeId}(ho:o.op=.call { callee:=.builtin .len,args:=args,argTypes:=ts })(hargs:args.toList=[x])(hts:ts.toList=[t])(hg:ir ops st o=some true)(hf:ew ρ st o=true)
  (hx:st.eval x=some (.ext s (.sl m (xs.map f)))) (hu:P.underlying t=some (.slice e)) (hk:ae P p ρ ops l (st.put o.dst (.t (.int .i64 xs.length))) K):ae P p ρ ops (o :: l) st K:=by
 refine ae.pure (x:=.t (.int .i64 xs.length)) hg hf ?_ hk;simp only [oJ,ho,hargs,hx,hts,G3,hu,MA.run,zXQ]
def bm(l:List (Nat×dZ))(t:Nat):dZ:=match AU l t with | some r=>r | none=>.any
def eO(l:List Nat)(s:Nat):Bool:=l.contains s
end
end Go.Tm
namespace Go.Tm
open Go.RowKit Go.ChangeShapes
inductive UZ (w:World) (F:Nat->Prop):List T->List Value->Prop
 | nil:UZ w F [] []
 | cons (x:T) (v:Value) (xs:List T) (vs:List Value) (h:Rd w F x v) (hs:UZ w F xs vs):UZ w F (x :: xs) (v :: vs)
theorem UZ.get{w:World}{F:Nat->Prop}{xs:List T}{vs:List Value}(h:UZ w F xs vs):∀ (j:Nat) (x:T),xs[j]?=some x->∃ v,vs[j]?=some v/\Rd w F x v:=by
 induction h with
 | nil=>intro j x hx; simp at hx
 | cons x v xs vs h hs ih =>
  intro j y hy
  cases j with
  | zero=>simp only [zWJ,Option.some.injEq] at hy ⊢; subst hy; exact ⟨v,rfl,h⟩
  | succ j=>simp only [List.getElem?_cons_succ] at hy ⊢; exact ih j y hy
abbrev Uj(w:World):Nat->Prop:=λb=>b < w.heap.size
def Oj{α:Type}(P:Program)(t:TypeId)(n:Nat)(wf:α->Prop)(enc:α->List T):Prop :=
 P.cellsOf t=n/\(∀ x,(enc x).length=n)/\∀ {H:Type} (ec:TypeId×Value->H) (w:World) (sp:Nat->Bool) (held:Bool) (k:Nat) (cs:List Value) (d:DataW H×List MemPlace),
  DataW.trod ec P w 0 sp held k t cs=some d->∃ x,wf x/\UZ w (Uj w) (enc x) cs
def jw(k:IntKind)(n:Int):Prop:=k.min<=n/\n<=k.max
def Jw{α:Type}(wf:α->Prop)(xs:List α):Prop:=xs.length<=maxLen/\∀ x∈xs,wf x
theorem Oj.int{P:Program}{t:TypeId}{k:IntKind}(hu:P.underlying t=some (.int k))(hc:P.cellsOf t=1):Oj P t 1 (jw k) (aj k):=by
 refine ⟨hc,λ_=>rfl,λec w sp held m cs d h=>?_⟩;obtain ⟨n,rfl,_,hw⟩:=DataW.trod_int hu h;simp [Lit.wf] at hw;exact ⟨n,hw,.cons _ _ _ _ (.int _ _) .nil⟩
theorem Jx{α:Type}{g:Nat->Option α}{n:Nat}{r:List α}(h:(zXW n).mapM g=some r){i:Nat}(hi:i < n):∃ x,g i=some x/\r[i]?=some x:=by
 have h1:=mapM_some_get h i i (by simp [hi]);have h2:=mapM_some_length h;simp only [List.length_range] at h2;rw [h1];exact ⟨r[i]'(by omega),by simp,by simp⟩
theorem Mc{w:World}{a:Addr}{n:Nat}{cs:List Value}(h:w.cells? 0 a n=some cs):cs.length=n/\∀ j,j < n->∃ v,w.cell? (a.add j)=some v/\cs[j]?=some v:=by
 unfold World.cells? at h;simp only [zZw,if_true] at h;exact ⟨by have:=mapM_some_length h; simpa using this,λj hj=>Jx h hj⟩
theorem RR{w:World}{a:Addr}{v:Value}(h:w.cell? a=some v):a.spot=none/\a.block < w.heap.size:=by
 unfold World.cell? at h
 split at h
 ·rename_i c u fr e
  split at h
  ·cases h
  ·rename_i hs;refine ⟨by cases a with | mk b o s=>cases s <;> simp_all,?_⟩;have:=e; rw [Array.getElem?_eq_some_iff] at this; exact this.1
 ·cases h
theorem Oj.slice{α:Type}{P:Program}{t e:TypeId}{n:Nat}{wf:α->Prop}{enc:α->List T}(hu:P.underlying t=some (.slice e))(hc:P.cellsOf t=1)(he:Oj P e (n+1) wf enc):Oj P t 1 (Jw wf) (Wq (n+1) enc):=by
 refine ⟨hc,λ_=>rfl,λ{H} ec w sp held m cs d h=>?_⟩;rcases DataW.trod_slice hu h with ⟨rfl,_⟩ | ⟨a,len,cap,elems,rest,m',rfl,rfl,_,_,hlc,hcap,hel,hm,_,_⟩
 ·exact ⟨[],⟨by simp,by simp⟩,.cons _ _ _ _ (.sl0 _ _ _ (by first | assumption | exact λ_=>rfl | (intro h; cases h))) .nil⟩
 ·have hex:∀ i,i < len->∃ x:α,∃ cs:List Value,w.cells? 0 (a.add (i*(n+1))) (n+1)=some cs/\wf x/\UZ w (Uj w) (enc x) cs:=by
   intro i hi;have hy:=hm i hi;rw [he.1,sX (by omega)] at hy
   cases hcs:w.cells? 0 (a.add (i*(n+1))) (n+1) with
   | none=>rw [hcs] at hy; cases hy
   | some cs =>
    rw [hcs] at hy;obtain ⟨x,hx,hr⟩:=he.2.2 ec w sp held m' cs _ hy;exact ⟨x,cs,rfl,hx,hr⟩
  rcases Nat.eq_zero_or_pos len with h0 | hpos
  ·subst h0; exact ⟨[],⟨by simp,by simp⟩,.cons _ _ _ _ (.sl0 _ _ _ (by first | assumption | exact λ_=>rfl | (intro h; cases h))) .nil⟩
  ·have hsp:a.spot=none/\a.block < w.heap.size:=by
    obtain ⟨x,cs,hcs,_,_⟩:=hex 0 hpos;obtain ⟨v,hv,_⟩:=(Mc hcs).2 0 (by omega);have:=RR hv
    simpa [Addr.add] using this
   obtain ⟨b,off,s⟩:=a;simp only at hsp;obtain ⟨rfl,hb⟩:=hsp;have hcell:∀ i j,(Addr.add ((⟨b,off,none⟩:Addr).add (i*(n+1))) j)=⟨b,off+i*(n+1)+j,none⟩:=by
    intro i j;unfold Addr.add
    split <;> split <;> simp_all
   -- the elements, chosen
   have hch:∀ k,k<=len->∃ ys:List α,ys.length=k/\(∀ y∈ys,wf y)/\∀ i y,ys[i]?=some y->∃ cs,w.cells? 0 ((⟨b,off,none⟩:Addr).add (i*(n+1))) (n+1)=some cs/\UZ w (Uj w) (enc y) cs:=by
    intro k
    induction k with
    | zero=>intro _; exact ⟨[],rfl,by simp,by simp⟩
    | succ k ih =>
     intro hk;obtain ⟨ys,h1,h2,h3⟩:=ih (by omega);obtain ⟨x,cs,h4,h5,h6⟩:=hex k (by omega);refine ⟨ys++[x],by simp [h1],?_,?_⟩
     ·intro y hy;rcases List.mem_append.1 hy with h | h
      ·exact h2 y h
      ·simp only [zQH] at h; subst h; exact h5
     ·intro i y hy
      by_cases hi:i < ys.length
      ·rw [zQQ hi] at hy; exact h3 i y hy
      ·rw [zQW (by omega)] at hy;have:i=ys.length:=by
        rcases Nat.lt_or_ge (i - ys.length) 1 with h | h
        ·omega
        ·rw [List.getElem?_eq_none (by simpa using h)] at hy; cases hy
       subst this;simp only [Nat.sub_self,zWJ,Option.some.injEq] at hy;subst hy;rw [h1];exact ⟨cs,h4,h6⟩
   obtain ⟨ys,h1,h2,h3⟩:=hch len (zWy _);refine ⟨ys,⟨by omega,h2⟩,.cons _ _ _ _ ?_ .nil⟩;have hl:(ys.map enc).length=len:=by simpa using h1
   have key:∀ (i:Nat) (row:List T) (j:Nat) (x:T),(ys.map enc)[i]?=some row->row[j]?=some x->∃ v,w.cell? ⟨b,off+i*(n+1)+j,none⟩=some v/\Rd w (Uj w) x v:=by
    intro i row j x hi hj;rw [zQX] at hi
    cases hy:ys[i]? with
    | none=>rw [hy] at hi; cases hi
    | some y =>
     rw [hy] at hi;simp only [zQg,Option.some.injEq] at hi;subst hi;obtain ⟨cs,hcs,hrd⟩:=h3 i y hy;obtain ⟨v,hv,hr⟩:=hrd.get j x hj;have hjn:j < n+1:=by
      have:=he.2.1 y;rcases Nat.lt_or_ge j (n+1) with h | h
      ·exact h
      ·rw [List.getElem?_eq_none (by omega)] at hj; cases hj
     obtain ⟨v',hv',hc'⟩:=(Mc hcs).2 j hjn;rw [hv] at hc'
     cases hc'
     rw [hcell] at hv';exact ⟨v,hv',hr⟩
   have hfun:∃ u:Nat->Nat->Value,∀ (i:Nat) (row:List T) (j:Nat) (x:T),(ys.map enc)[i]?=some row->row[j]?=some x->w.cell? ⟨b,off+i*(n+1)+j,none⟩=some (u i j)/\Rd w (Uj w) x (u i j):=by
    refine ⟨λi j=>(w.cell? ⟨b,off+i*(n+1)+j,none⟩).getD (.bool false),λi row j x hi hj=>?_⟩;obtain ⟨v,hv,hr⟩:=key i row j x hi hj;simp only [hv,zYy];exact ⟨trivial,hr⟩
   obtain ⟨u,hu'⟩:=hfun;have:=Rd.sl (w:=w) (F:=Uj w) (n+1) (ys.map enc) b off cap u (by omega) hb (λi row hi=>by
    rw [zQX] at hi
    cases hy:ys[i]? with
    | none=>rw [hy] at hi; cases hi
    | some y=>rw [hy] at hi; simp only [zQg,Option.some.injEq] at hi; subst hi; exact he.2.1 y) (λi row j x hi hj=>(hu' i row j x hi hj).1) (λi row j x hi hj=>(hu' i row j x hi hj).2)
   rw [hl] at this;exact this
end Go.Tm
namespace Go.Tm
open Go.RowKit Go.ChangeShapes
def V7{α:Type}(P:Program)(t:TypeId)(wf:α->Prop)(ev:α->V):Prop :=
 ∀ {H:Type} (ec:TypeId×Value->H) (W:World) (base:Nat) (v:Value) (d:DataW H) (p:List MemPlace),DataW.Trod ec P W 0 (λ_=>true) true t v d p->Value.okWide P W .any base t v->∃ x,wf x/\VV W (Uj W) (ev x) v []
def SZ(P:Program)(t:TypeId):Bool:=match P.underlying t with | some (.struct _) | some (.array ..)=>false | _=>true
theorem Ok{P:Program}{t:TypeId}(hn:SZ P t=true){W:World}{base:Nat}{v:Value}(h:Value.okWide P W .any base t v):v.cells=#[v]:=by
 cases v with
 | agg cs =>
  exfalso;unfold SZ at hn;unfold Value.okWide at h
  cases hu:P.underlying t with
  | none=>simp [hu,Cell.okWide,Cell.ok] at h
  | some u=>cases u <;> simp_all [Cell.okWide,Cell.ok]
 | _=>rfl
theorem V7.one{α:Type}{P:Program}{t:TypeId}{wf:α->Prop}{enc:α->List T}(h:Oj P t 1 wf enc)(hn:SZ P t=true):V7 P t wf (λx=>.one (.t ((enc x).headD .nilf))):=by
 intro H ec W base v d p ⟨k,hd⟩ hv;obtain ⟨x,hx,hr⟩:=h.2.2 ec W _ _ k _ _ hd;have hc:=Ok hn hv;rw [hc] at hr;have hl:=h.2.1 x;refine ⟨x,hx,.one _ _ _ ?_⟩
 match he:enc x,hl with
 | [y],_ =>
  rw [he] at hr
  cases hr with
  | cons _ _ _ _ h1 _=>exact .t _ _ h1
def G8{α:Type}(P:Program)(ts:List TypeId)(wf:α->Prop)(ea:α->List V):Prop :=
 ∀ {H:Type} (ec:TypeId×Value->H) (W:World) (base:Nat) (vs:List Value) (ds:List (DataW H)) (p:List MemPlace),DataW.TrodAll ec P W 0 (λ_=>true) true ts vs ds p ->
  (∀ (j:Nat) (t:TypeId) (v:Value),ts[j]?=some t->vs[j]?=some v->Value.okWide P W .any base t v)->∃ x,wf x/\AF W (Uj W) (ea x) vs []
theorem G8.nil{P:Program}:G8 P [] (λ_:Unit=>True) (λ_=>[]):=by
 intro H ec W base vs ds p h hv;obtain ⟨rfl,_,_⟩:=trodAll_nil h;exact ⟨(),trivial,.nil⟩
theorem G8.cons{α β:Type}{P:Program}{t:TypeId}{ts:List TypeId}{wf:α->Prop}{ev:α->V}{wf':β->Prop}{ea:β->List V}(h:V7 P t wf ev)(hs:G8 P ts wf' ea) :
  G8 P (t :: ts) (λx:α×β=>wf x.1/\wf' x.2) (λx=>ev x.1 :: ea x.2):=by
 intro H ec W base vs ds p hT hv;obtain ⟨v,vs',d,ds',p1,p2,rfl,rfl,rfl,h1,h2⟩:=trodAll_cons hT;obtain ⟨x,hx,hr⟩:=h ec W base v d p1 h1 (hv 0 t v rfl rfl);obtain ⟨y,hy,hr'⟩:=hs ec W base vs' ds' p2 h2 (λj t v ht hj=>hv (j+1) t v ht hj);exact ⟨(x,y),⟨hx,hy⟩,.cons _ _ [] _ _ [] hr hr'⟩
theorem B9{P:Program}{H:Type}{ec:TypeId×Value->H}(hl:laidOutB P=true){W W':World}(hb:Below W.heap.size W W'):∀ {ts:List TypeId} {vs:List Value} {ds:List (DataW H)} {p:List MemPlace},
  ts.all (λt=>P.readableRec t && decide (t < P.types.size))=true->DataW.TrodAll ec P W 0 (λ_=>true) true ts vs ds p ->
  DataW.TrodAll ec P W' 0 (λb=>decide (b < W.heap.size)) true ts vs ds p
 | [],vs,ds,p,_,h=>by
  obtain ⟨rfl,rfl,rfl⟩:=trodAll_nil h;exact trodAll_mk0
 | t :: ts,vs,ds,p,ht,h=>by
  obtain ⟨v,vs',d,ds',p1,p2,rfl,rfl,rfl,h1,h2⟩:=trodAll_cons h;simp only [zYh,sk,decide_eq_true_eq] at ht;refine trodAll_cons_mk (Below.trod hl ht.1.1 ht.1.2 h1 hb ?_) (B9 hl hb (by simpa using ht.2) h2);obtain ⟨k,hk⟩:=h1;exact DataW.trod_lt k _ _ _ hk
theorem RS{α:Type}{P:Program}{f:FuncId}{ts:List TypeId}{wf:α->Prop}{ea:α->List V}(hr:G8 P ts wf ea)(hl:laidOutB P=true)(hts:ts.all (λt=>P.readableRec t && decide (t < P.types.size))=true)
  (law:∀ x,wf x->aJ P f (ea x) (.one (.t (.bool true))) []) {H:Type} (ec:TypeId×Value->H) (W:World) (base:Nat) (args:Array Value) (ds:List (DataW H)) (p:List MemPlace)
  (hT:DataW.TrodAll ec P W 0 (λ_=>true) true ts args.toList ds p) (hv:∀ (j:Nat) (t:TypeId) (v:Value),ts[j]?=some t->args[j]?=some v->Value.okWide P W .any base t v)
  (htb:K9 P W λ_=>False):Calls P f args W λe W'=>e=.returned (.bool true)/\Below W.heap.size W W'/\DataW.TrodAll ec P W' 0 (λb=>decide (b < W.heap.size)) true ts args.toList ds p:=by
 obtain ⟨x,hx,hV⟩:=hr ec W base args.toList ds p hT (λj t v h1 h2=>hv j t v h1 (by simpa using h2));have:=(law x hx).2 W (Uj W) args.toList [] (λ_ h=>h) hV .nil (by simp) (htb.mono λ_ h=>by cases h);simp only [zWK] at this;refine this.mono λe W' ⟨v,F',bv,bo,h1,h2,h3,h4,h5,h6,h7,h8,h9⟩=>?_;have hbel:Below W.heap.size W W':=⟨h2.os,h2.tape,h2.output,h2.size,λk hk=>h3 k hk (by simp)⟩;refine ⟨?_,hbel,B9 hl hbel hts hT⟩
 cases h6 with
 | one _ _ _ h =>
  cases h with
  | t _ _ h =>
   cases h
   exact h1
end Go.Tm
namespace Go.Tm
open Go.RowKit
mutual
def A.fz(s:Nat)(cs:List T):A->A
 | .obj s' off=>bif zWv s' s then .fadr (cs.drop off) else .obj s' off
 | .agg l=>.agg (AY s cs l)
 | .tup l=>.tup (AY s cs l)
 | .clo f l=>.clo f (AY s cs l)
 | .osl q a n c=>bif zWv q s then .t (.hdr a n c) else .osl q a n c
 | a=>a
def AY(s:Nat)(cs:List T):List A->List A
 | []=>[]
 | a :: r=>a.fz s cs :: AY s cs r
end
theorem MW(s:Nat)(cs:List T):∀ l:List A,AY s cs l=l.map (A.fz s cs)
 | []=>by rw [AY]; rfl
 | a :: r=>by rw [AY,MW s cs r]; rfl
def St.fz(st:St)(s:Nat)(cs:List T):St:=⟨λt=>(st.tm t).fz s cs,λi=>if i=s then none else (st.ob i).map λl=>AY s cs l,st.rw⟩
theorem Vj(s:Nat)(cs:List T)(a:A):(a.fz s cs).one=a.one:=by
 cases a with
 | obj s' off=>unfold A.fz; cases zWv s' s <;> rfl
 | osl q a n c=>unfold A.fz; cases zWv q s <;> rfl
 | _=>unfold A.fz <;> rfl
section
variable {E:En} {g:Gh} {st:St} {w:World} {s:Nat} {cs:List T}
theorem VR.fz{O:Nat->Prop}{R:Nat->Prop}{O':Nat->Prop}{F':Nat->Prop}(hF:∀ b,g.F b->F' b)(hO:∀ i,O i->i≠s->O' i)(hb:F' (g.ob s)){arr:Array Value}{e:TypeId}(hh:w.heap[g.ob s]?=some (.cells arr e (0,0)))
  (hc:∀ (j:Nat) (x:T),cs[j]?=some x->∃ v,arr[j]?=some v/\Rd w g.F x v) {a:A} {v:Value} (h:VR w g O R a v):VR w { g with F:=F' } O' R (a.fz s cs) v:=by
 have hl:∀ (l:List A) (vs:List Value),l.length=vs.length->(∀ (i:Nat) (x:A) (v:Value),l[i]?=some x->vs[i]?=some v->VR w { g with F:=F' } O' R (x.fz s cs) v) ->
   (AY s cs l).length=vs.length/\∀ (i:Nat) (x:A) (v:Value),(AY s cs l)[i]?=some x->vs[i]?=some v->VR w { g with F:=F' } O' R x v:=by
  intro l vs hl ih;rw [MW];refine ⟨by simp [hl],λi x v hx hv=>?_⟩;rw [zQX] at hx
  cases hy:l[i]? with
  | none=>rw [hy] at hx; cases hx
  | some y =>
   rw [hy] at hx;simp only [zQg,Option.some.injEq] at hx;subst hx;exact ih i y v hy hv
 have hs:wA g.F w w:=λ_ _=>rfl
 induction h with
 | t x v h=>unfold A.fz; exact .t x v (h.mono hs hF)
 | nil=>unfold A.fz; exact .nil
 | own r hr=>unfold A.fz; exact VR.own (g:={ g with F:=F' }) r hr
 | agg l vs hl' h ih=>unfold A.fz; obtain ⟨h1,h2⟩:=hl l vs hl' ih; exact .agg _ vs h1 h2
 | tup l vs hl' h ih=>unfold A.fz; obtain ⟨h1,h2⟩:=hl l vs hl' ih; exact .tup _ vs h1 h2
 | obj s' off hs' =>
  unfold A.fz
  cases he:zWv s' s with
  | false =>
   have:s'≠s:=λh=>by rw [h,zZz] at he; cases he
   exact VR.obj (g:={ g with F:=F' }) s' off (hO s' hs' this)
  | true =>
   have:=zWG he;subst this;simp only [cond_true];have hcell:∀ j,w.cell? ⟨g.ob s',off+j,none⟩=arr[off+j]?:=λj=>by
    unfold World.cell?;simp only [hh]; rfl
   refine VR.fadr (g:={ g with F:=F' }) _ _ off (λj=>(arr[off+j]?).getD (.bool false)) hb (λj x hx=>?_) (λj x hx=>?_)
   ·rw [zQq] at hx;obtain ⟨u,h1,_⟩:=hc _ x hx;rw [hcell,h1]; rfl
   ·rw [zQq] at hx;obtain ⟨u,h1,h2⟩:=hc _ x hx;simp only [h1,zYy];exact h2.mono hs hF
 | elem r sz i off b n c hr he=>unfold A.fz; exact VR.elem (g:={ g with F:=F' }) r sz i off b n c hr he
 | win r lo m n c c' ad a' hr he hm hp=>unfold A.fz; exact VR.win (g:={ g with F:=F' }) r lo m n c c' ad a' hr he hm hp
 | sub r sz lo n c c' ad a' hr he hp=>unfold A.fz; exact VR.sub (g:={ g with F:=F' }) r sz lo n c c' ad a' hr he hp
 | fadr cells b off u hF' hx hr=>unfold A.fz; exact VR.fadr (g:={ g with F:=F' }) cells b off u (hF _ hF') hx (λj x h=>(hr j x h).mono hs hF)
 | nn sz rows v h hv=>unfold A.fz; exact VR.nn (g:={ g with F:=F' }) sz rows v (h.mono hs hF) hv
 | ext s x v hs' h=>unfold A.fz; exact VR.ext (g:={ g with F:=F' }) s x v hs' h
 | shp x v h=>unfold A.fz; exact VR.shp (g:={ g with F:=F' }) x v h
 | exa s cells b off u hs' hD hx hr=>unfold A.fz; exact VR.exa (g:={ g with F:=F' }) s cells b off u hs' hD hx hr
 | clo f l vs hl' h ih=>unfold A.fz; obtain ⟨h1,h2⟩:=hl l vs hl' ih; exact .clo f _ vs h1 h2
 | undef v=>unfold A.fz; exact .undef v
 | raw v=>unfold A.fz; exact .raw v
 | osl q a n c hs ha =>
  unfold A.fz
  cases hq:zWv q s with
  | true=>exact .t _ _ (.hdr _ _ _)
  | false=>exact VR.osl (g:={ g with F:=F' }) q a n c (hO q hs (λh=>by subst h; simp at hq)) ha
end
theorem yG{n:Nat}{ls:List Nat}{st:St}(s:Nat)(cs:List T)(hs:st.ob s=some (cs.map .t))(hl:ls.contains s=false):Le n ls st (st.fz s cs):=by
 intro E g a w hE hS;have hM:=hS.mem;obtain ⟨arr,e,h1,h2,h3,h4,h5⟩:=hM.ob s _ hs;have hOs:st.O s:=by simp [St.O,hs]
 have hc:∀ (j:Nat) (x:T),cs[j]?=some x->∃ v,arr[j]?=some v/\Rd w g.F x v:=by
  intro j x hx;obtain ⟨_,v,h6,h7⟩:=h3 j (.t x) (by rw [zQX,hx]; rfl)
  cases h7 with
  | t _ _ h=>exact ⟨v,h6,h⟩
 have hO:∀ i,(st.fz s cs).O i↔st.O i/\i≠s:=by
  intro i;unfold St.O St.fz
  by_cases h:i=s <;> simp [h]
 have hv:∀ {a:A} {v:Value},VR w g st.O st.R a v->VR w { g with F:=λb=>g.F b\/b=g.ob s } (st.fz s cs).O st.R (a.fz s cs) v:=λh =>
  VR.fz (s:=s) (cs:=cs) (λ_ h=>.inl h) (λi hi hne=>(hO i).2 ⟨hi,hne⟩) (.inr rfl) h1 hc h
 refine ⟨{ g with F:=λb=>g.F b\/b=g.ob s },⟨λi c hi=>?_,λi j hi hj he=>hM.obne i j ((hO i).1 hi).1 ((hO j).1 hj).1 he,λr x hr=>?_,hM.rowne,λr i hr hi=>hM.rowob r i hr ((hO i).1 hi).1,λb hb=>?_,hM.os,hM.tape,hM.output,hM.sizes,hM.frame,λb hb=>⟨.inl (hM.shp b hb).1,(hM.shp b hb).2⟩,hM.dep0⟩,
  hS.size,hS.defers,λi hi=>?_,λi hi=>?_,λi b hb=>?_,hS.pin⟩
 ·have hne:i≠s:=λh=>by subst h; simp [St.fz] at hi
  have:∃ c0,st.ob i=some c0/\c=AY s cs c0:=by
   simp only [St.fz,hne,if_false] at hi
   cases h:st.ob i with
   | none=>rw [h] at hi; cases hi
   | some c0=>rw [h] at hi; simp at hi; exact ⟨c0,rfl,hi.symm⟩
  obtain ⟨c0,h6,rfl⟩:=this;obtain ⟨arr',e',g1,g2,g3,g4,g5⟩:=hM.ob i c0 h6;refine ⟨arr',e',g1,by rw [MW]; simpa using g2,λj x hx=>?_,λhf=>hf.elim g4 (λhe=>hne (hM.obne i s (by simp [St.O,h6]) hOs he)),g5⟩;rw [MW,zQX] at hx
  cases hy:c0[j]? with
  | none=>rw [hy] at hx; cases hx
  | some y =>
   rw [hy] at hx;simp only [zQg,Option.some.injEq] at hx;subst hx;obtain ⟨g6,v,g7,g8⟩:=g3 j y hy;exact ⟨by rw [Vj]; exact g6,v,g7,hv g8⟩
 ·have:=hM.row r x hr;refine this.mono (λ_ _=>rfl) (λ_ h=>.inl h) (λ⟨e,sz,rows,hx⟩ b hb'=>?_);subst hx;have hL:st.L r:=⟨e,sz,rows,hr⟩;exact ⟨rfl,λhf=>hf.elim id (λhe=>(hM.rowob r s hL hOs (he ▸ hb')).elim)⟩
 ·rcases hb with hb | hb
  ·exact hM.F b hb
  ·subst hb;exact ⟨II h1,λhlt=>h5.elim (λh=>absurd hlt (by omega)) .inr,.inr ⟨arr,e,h1⟩⟩
 ·obtain ⟨v,h6,h7⟩:=hS.tm i hi;exact ⟨v,h6,hv h7⟩
 ·show (st.tm i).fz s cs=.undef;rw [hS.und i hi]; unfold A.fz; rfl
 ·obtain ⟨h6,h7⟩:=hS.lent i b hb;refine ⟨(hO i).2 ⟨h6,λhe=>?_⟩,h7⟩;subst he;have:i∈ls:=(hE.mem hb).1;have h8:ls.contains i=true:=by simpa using this
  rw [hl] at h8; cases h8
end Go.Tm
namespace Go.Tm
open Go.RowKit
theorem Ol{α:Type}(a:A)(k:T->MA α)(st:St):(a.toT k).run st=((a.toT MA.ret).run st).bind λp=>(k p.1).run p.2:=by
 cases a with
 | t y=>rfl
 | nil=>rfl
 | own r =>
  simp only [A.toT,MA.run]
  cases hr:st.rw r with
  | none=>rfl
  | some row=>cases row <;> rfl
 | _=>rfl
theorem CQ{α:Type}:∀ (l:List A) (k:List T->MA α) (st:St),(A.toTs l k).run st=((A.toTs l MA.ret).run st).bind λp=>(k p.1).run p.2
 | [],k,st=>rfl
 | a :: r,k,st=>by
  simp only [A.toTs];rw [Ol a,Ol a (λx=>A.toTs r λxs=>MA.ret (x :: xs)),Option.bind_assoc]
  congr 1
  funext p
  rw [CQ r,CQ r (λxs=>MA.ret (p.1 :: xs)),Option.bind_assoc];rfl
theorem RT{α:Type}(l:List A){k:List T->MA α}{st st1:St}{xs:List T}(h:(A.toTs l MA.ret).run st=some (xs,st1)):(A.toTs l k).run st=(k xs).run st1:=by
 rw [CQ,h]; rfl
section
variable {P:Program} {n:Nat} {ls:List Nat} {st st':St} {p:Nat->Bool} {ρ:Nat->dZ} {ops:Array Oper} {l:List Oper} {K:St->Prop} {o:Oper}
theorem gW{α:Type}(f:α->List T)(xs:List α)(r i off:Nat){y:α}(y':α){t e:TypeId}{x1 x2:Operand}(v:A){sz m:Nat}(ts:List T)(ho:o.op=.store t x1 x2)(hg:ir ops st o=some true)(hf:ew ρ st o=true)
  (h1:st.eval x1=some (.elem r sz i off)) (h2:st.eval x2=some v) (hm:iE P t=some m) (hv:(zWv v.cells.length m && v.cells.all A.one)=true) (hz:((A.toTs (li (DN P t) v.cells) MA.ret).run st).map Prod.fst=some ts)
  (hr:(Ec ((A.toTs (li (DN P t) v.cells) MA.ret).run st)).rw r=some (.live e sz (xs.map f))) (h:xs[i]?=some y) (hle:Nat.ble (off+m) (f y).length=true) (hy:spl (f y) off ts=f y')
  (hk:ae P p ρ ops l ((({ Ec ((A.toTs (li (DN P t) v.cells) MA.ret).run st) with rw:=eF (Ec ((A.toTs (li (DN P t) v.cells) MA.ret).run st)).rw r (some (.live e sz ((xs.set i y').map f))) }:St)).put o.dst .undef) K):ae P p ρ ops (o :: l) st K:=by
 simp only [sk] at hv;have hv1:=zWG hv.1;have hle':off+m<=(f y).length:=by simpa using hle
 obtain ⟨⟨ts',st1⟩,h5,h6⟩:=Option.map_eq_some_iff.1 hz
 cases h6
 rw [h5] at hr hk;refine ae.op (x:=.undef) hg hf ?_ hk;simp only [oJ,ho,h1,h2,zo,hm,hv1,hv.2,and_self,↓reduceIte];rw [RT _ h5];have hr':st1.rw r=some (.live e sz (xs.map f)):=hr;simp only [MA.run,hr',zQX,h,zQg,hle',↓reduceIte,hy,List.map_set,Ec]
theorem CR:∀ xs:List Int,AM (xs.map (aj .u8))=some xs
 | []=>rfl
 | x :: xs=>by simp only [zWh,aj,AM,CR xs]
theorem ua(xs:List Int)(m:Nat){y:A}{s t e:TypeId}{x:Operand}(ho:o.op=.convert s t x)(hg:ir ops st o=some true)(hf:ew ρ st o=true)
  (hx:st.eval x=some y) (hy:((y.rows λm rows=>MA.ret (m,rows)).run st).map Prod.fst=some (m,xs.map (aj .u8))) (hs:P.underlying s=some (.slice e)) (he:P.underlying e=some (.int .u8)) (ht:P.underlying t=some .string)
  (hk:ae P p ρ ops l (st.put o.dst (.t (.str (strOfNums xs)))) K):ae P p ρ ops (o :: l) st K:=by
 refine ae.pure (x:=.t (.str (strOfNums xs))) hg hf ?_ hk
 cases y with
 | t z =>
  cases z with
  | sl sz rows =>
   simp only [A.rows,MA.run,zQg,Option.some.injEq,Prod.mk.injEq] at hy;obtain ⟨rfl,rfl⟩:=hy;simp only [oJ,ho,hx,hs,ht,he,A.rows,CR,MA.run]
  | _=>simp [A.rows,MA.run] at hy
 | _ =>
  simp only [oJ,ho,hx,hs,ht,he,IT hy,CR,MA.run]
end
end Go.Tm
namespace Go.Tm
open Go.RowKit
section
variable {P:Program} {n:Nat} {ls:List Nat} {st st':St} {p:Nat->Bool} {ρ:Nat->dZ} {ops:Array Oper} {l:List Oper} {K:St->Prop} {o:Oper}
theorem G9(m:Bool)(d f:Nat)(caps as:List A)(vs:List V)(s off:Nat)(outs:List (List C)){xf:Operand}{args:Array Operand}{ts:Array TypeId}
  (ho:o.op=.call { callee:=.value xf,args,argTypes:=ts }) (hd:o.dst=some d) (hg:ir ops st o=some true) (hf:ew ρ st o=true) (hxf:st.eval xf=some (.clo f caps)) (k7:dj (args.toList.map st.eval)=some as)
  (hp:((i9 m p (as++caps) MA.ret).run st).map Prod.fst=some vs) (hc:rv P f vs off outs) (hhd:(as++caps).head?=some (.obj s 0)) (hr:((du d (dH (as++caps)) outs (MA.ret (A.obj s off))).run (Ec ((i9 m p (as++caps) MA.ret).run st))).isSome=true)
  (hk:ae P p ρ ops l ((Ec ((du d (dH (as++caps)) outs (MA.ret (A.obj s off))).run (Ec ((i9 m p (as++caps) MA.ret).run st)))).put o.dst (Uh ((du d (dH (as++caps)) outs (MA.ret (A.obj s off))).run (Ec ((i9 m p (as++caps) MA.ret).run st))))) K):ae P p ρ ops (o :: l) st K:=by
 obtain ⟨⟨vs',st1⟩,h1,h2⟩:=Option.map_eq_some_iff.1 hp
 cases h2
 rw [h1] at hr hk;obtain ⟨⟨x,st2⟩,h3⟩:=Option.isSome_iff_exists.1 hr;rw [h3] at hk;exact ae.step (.run x st2 hg hf (.callI m d f xf args ts caps as vs' st1 outs s off ho hd hxf k7 h1 hc hhd h3)) hk
end
def MX(P:Program)(fn:Func)(args:List V)(off:Nat)(outs:List (List C))(e:Exit)(st:St):Prop :=
 (e=.ret\/e=.normal)/\∃ st1 outs0,xi P st fn.results.toList=some [.obj 900 off]/\(yC 0 args λos=>MA.ret os).run st=some (outs0,st1)/\xN (xN MU) outs0 outs
theorem Jy{P:Program}{fn:Func}{c:Code}{f:FuncId}{args:List V}{as:List A}{st0:St}{c0:List C}{off:Nat}{outs:List (List C)}
  (hf:P.funcs[f]?=some fn) (hb:fn.body=some c) (hnm:(fn.name == "runtime.NumGoroutine")=false) (hle:as.length<=fn.ntmps) (ht:re fn.ntmps fn=true)
  (ha:(mY 0 args MA.ret).run db=some (as,st0)) (hl:gC 0 args as=true) (h0:args[0]?=some (.ptr c0))
  (h:Wp P fn.ntmps (eo 0 args) c (MX P fn args off outs) (eN as st0)):rv P f args off outs:=by
 refine ⟨⟨fn,hf,by simp [hb],hnm⟩,λw F vs bs hF hVV hnd hnf htb=>?_⟩
 let E:En:={ w0:=w,X:=λb=>b∈bs,F0:=F,lent:=lj 0 args vs }
 let g0:Gh:={ F:=F,ob:=λ_=>0,rw:=λ_=>.nilFunc,dw:=w }
 have hM0:fd E g0 db w:=⟨λs cells h=>(by cases h),λs s' h=>(by cases h),λr x h=>(by cases h),λr r' b h=>(by obtain ⟨_,_,_,h⟩:=h; cases h),λr s h=>(by obtain ⟨_,_,_,h⟩:=h; cases h),
  λb hb=>⟨hF b hb,λ_=>.inl hb,.inl hb⟩,rfl,rfl,rfl,zWy _,λ_ _ _=>.inl rfl,λ_ h=>h.elim,⟨rfl,rfl,rfl⟩,λ_ h=>h.elim⟩
 obtain ⟨as',st1,g1,hG,h1,hlen,hx⟩:=yB args hM0 hVV hnd (λb hb=>⟨hnf b hb,λs hs=>(by cases hs),λr hr=>(by obtain ⟨_,_,_,h⟩:=hr; cases h),.inr hb⟩) ha;obtain ⟨rfl,rfl⟩:=eP h1;have hM1:fd E g1 (eN as st0) w:=⟨hG.mem.ob,hG.mem.obne,hG.mem.row,hG.mem.rowne,hG.mem.rowob,hG.mem.F,hG.mem.os,hG.mem.tape,hG.mem.output,hG.mem.sizes,hG.mem.frame,hG.mem.shp,hG.mem.dep0⟩;obtain ⟨hl1,hl2⟩:=vO hl hVV hlen hx;have hS:iM E g1 fn.ntmps (eN as st0) { tmps:=vs.toArray++zZW (fn.ntmps - vs.toArray.size) undef,defers:=[] } w:=by
  refine ⟨hM1,by simp; omega,rfl,λi hi=>?_,λi hi=>?_,hl1,λ_ h=>(by cases h)⟩
  ·show ∃ v,_/\VR w g1 st0.O st0.R (match as[i]? with | some a=>a | none=>.undef) v
   cases hai:as[i]? with
   | some a =>
    obtain ⟨u,hu,hr⟩:=hx i a hai;have hlt:i < vs.length:=(List.getElem?_eq_some_iff.1 hu).1;exact ⟨u,by rw [zYG (by simpa using hlt)]; simpa using hu,hr⟩
   | none =>
    have hge:as.length<=i:=List.getElem?_eq_none_iff.1 hai;refine ⟨undef,?_,.undef _⟩;rw [zYJ (by simpa [<- hlen] using hge)];rw [zYv,if_pos (by simp only [zYH]; omega)]
  ·show (match as[i]? with | some a=>a | none=>.undef)=A.undef;rw [List.getElem?_eq_none_iff.2 (by omega)]
 refine calls_of_wp hf hb (wp_mono (h E g1 _ w ⟨⟨[],by rw [zWQ]; exact (nC _ _ _).symm,BL _ _ _,λ_ h=>(by cases h),λh=>(by cases h)⟩,⟨htb.mono λb h=>h.elim id λh=>(by cases h.1)⟩⟩ hS) λe a' w' ⟨g',st',hS',hR⟩=>?_);obtain ⟨he,st2,outs0,hres,hrun,hole⟩:=hR;have hfin:a'.defers=[]/\∃ v,(results fn a'.tmps).run P w'=.ok v w'/\(λe w'=>∃ v F' bo b0,e=Ending.returned v/\vs.head?=some (.pointer (some ⟨b0,0,none⟩))/\v=.pointer (some ⟨b0,off,none⟩)/\qD w w'/\(∀ b,b < w.heap.size->b∉bs->w'.heap[b]?=w.heap[b]?)/\(∀ b,F b->F' b) /\
   (∀ b,F' b->b < w'.heap.size/\(b < w.heap.size->F b\/b∈bs)/\(F b\/Wr w' b))/\pa w' F' args vs outs bo/\bo.Nodup/\∀ b∈bo,¬ F' b/\(w.heap.size<=b\/b∈bs)) (.returned v) w':=by
  refine ⟨hS'.defers,?_⟩;obtain ⟨v,hrv,hvv⟩:=D9 hS' hres ht;refine ⟨v,hrv,?_⟩;have hM':=hS'.mem;obtain ⟨b0,hh0,hl0⟩:=hl2 0 c0 h0;have hob:=(hS'.lent _ _ hl0).2;obtain ⟨os,st3,g3,bo,hM3,hE3,hL3,h3,hO,hT3⟩:=vN (w:=w') args hM' (us:=vs) (hVV.len.symm) (λj c hj=>by
   obtain ⟨b,h5,h6⟩:=hl2 j c hj;rw [(hS'.lent _ _ h6).2];exact h5) hrun
  obtain ⟨rfl,rfl⟩:=eP h3;have hof:∀ b∈bo,w.heap.size<=b\/b∈bs:=λb hb=>by
   rcases hT3.of b hb with ⟨r,⟨e,sz,rows,h7⟩,_,h8⟩ | ⟨s,⟨c,cs,h7⟩,_,h8⟩
   ·obtain ⟨_,_,_,_,h9⟩:=hM'.row r _ h7;exact (h9 b h8).2
   ·obtain ⟨_,_,_,_,_,_,h9⟩:=hM'.ob s _ h7;rw [h8] at h9;exact h9
  have hnF:∀ b∈bo,¬ (g3.F b\/F b):=λb hb h=>by
   rcases h with h | h
   ·exact hT3.nf b hb h
   ·rcases hof b hb with h7 | h7
    ·have:=hF b h; omega
    ·exact hnf b h7 h
  have hv:v=.pointer (some ⟨b0,off,none⟩):=by
   have hvv':VR w' g' st'.O st'.R (.obj 900 off) v:=hvv
   cases hvv' with
   | obj _ _ hs=>rw [hob]
  refine ⟨v,λb=>g3.F b\/F b,bo,b0,rfl,by rw [zZg]; exact hh0,hv,⟨hM3.os,hM3.tape,hM3.output,hM3.sizes⟩,λb hb hbs=>hM3.frm rfl b hb hbs,λb h=>.inr h,λb h=>?_,Ea (hO.mono (λb h=>.inl h)) hole,hT3.nodup,λb hb=>⟨hnF b hb,hof b hb⟩⟩;rcases h with h | h
  ·exact hM3.F b h
  ·exact ⟨zQj (hF b h) hM3.sizes,λ_=>.inl h,.inl h⟩
 rcases he with rfl | rfl
 ·exact hfin
 ·exact hfin
theorem HL{P:Program}{fn:Func}{c:Code}{f:FuncId}{args:List V}{c0:List C}{off:Nat}{outs:List (List C)}(as:List A)
  (hf:P.funcs[f]?=some fn) (hb:fn.body=some c) (hnm:(fn.name == "runtime.NumGoroutine")=false) (hle:Nat.ble as.length fn.ntmps=true) (ht:re fn.ntmps fn=true)
  (ha:((mY 0 args MA.ret).run db).map Prod.fst=some as) (hl:gC 0 args as=true) (h0:args[0]?=some (.ptr c0))
  (h:Wp P fn.ntmps (eo 0 args) c (MX P fn args off outs) (eN as (Ec ((mY 0 args MA.ret).run db)))):rv P f args off outs:=by
 obtain ⟨⟨as',st0⟩,h1,h2⟩:=Option.map_eq_some_iff.1 ha
 cases h2
 rw [h1] at h;exact Jy hf hb hnm (by simpa using hle) ht h1 hl h0 h
theorem U0{P:Program}{fn:Func}{args:List V}{off:Nat}{outs:List (List C)}{st:St}(outs0:List (List C))(hres:xi P st fn.results.toList=some [.obj 900 off])
  (ho:((yC 0 args λos=>MA.ret os).run st).map Prod.fst=some outs0) (hle:xN (xN MU) outs0 outs):MX P fn args off outs .ret st:=by
 obtain ⟨⟨os,st1⟩,h1,h2⟩:=Option.map_eq_some_iff.1 ho
 cases h2
 exact ⟨.inl rfl,st1,_,hres,h1,hle⟩
end Go.Tm
namespace Go.Tm
open Go.RowKit
def Ae{α:Type}(xs ys:List α)(lo:Nat):List α:=xs.take lo++ys.take (xs.length - lo)++xs.drop (lo+min ys.length (xs.length - lo))
theorem RU{α:Type}(f:α->List T)(xs ys:List α)(lo:Nat):NO (xs.map f) (ys.map f) lo=(Ae xs ys lo).map f:=by
 simp only [NO,Ae,List.map_append,List.map_take,List.map_drop,zXQ]
def Ef(i n:Int):Bool:=decide (0<=i) && decide (i<=n)
theorem S0{i:Int}{n:Nat}(h:Ef i n=true):i.toNat<=n:=by
 simp only [Ef,sk,decide_eq_true_eq] at h; omega
section
variable {P:Program} {n:Nat} {ls:List Nat} {st st':St} {p:Nat->Bool} {ρ:Nat->dZ} {ops:Array Oper} {l:List Oper} {K:St->Prop} {o:Oper}
theorem Md{α:Type}(f:α->List T)(xs:List α)(r sz:Nat)(i:Int){t e e':TypeId}{x:Operand}{lo:Option Operand}{alo:Option A}(ho:o.op=.slice t x lo none none)(hg:ir ops st o=some true)(hf:ew ρ st o=true)(hx:st.eval x=some (.own r))
  (hlo:HG st.eval lo=some alo) (hl:wz 0 alo=some i) (hr:st.rw r=some (.live e' sz (xs.map f))) (hu:P.underlying t=some (.slice e)) (hs:iE P e=some sz) (hw:Sz ρ o.dst=true) (h:Ef i xs.length=true)
  (hk:ae P p ρ ops l (st.put o.dst (.sub r sz i.toNat)) K):ae P p ρ ops (o :: l) st K:=by
 simp only [Ef,sk,decide_eq_true_eq] at h;refine ae.pure (x:=.sub r sz i.toNat) hg hf ?_ hk;have hhi:HG st.eval (none:Option Operand)=some none:=rfl;simp only [oJ,ho,hx,hlo,hhi,SA,hw,Option.isNone_none,zXV,Bool.true_or,LU,hu,hl,hs,MA.run,hr,zXQ,h.1,h.2,and_self,↓reduceIte]
theorem Jz{α:Type}(f:α->List T)(xs ys:List α)(r lo m:Nat){t t' e e':TypeId}{a b:Operand}{y:A}{args:Array Operand}{ts:Array TypeId}(ho:o.op=.call { callee:=.builtin .copy,args,argTypes:=ts })(hargs:args.toList=[a,b])(hts:ts.toList=[t,t'])(hg:ir ops st o=some true)(hf:ew ρ st o=true)
  (ha:st.eval a=some (.sub r 1 lo)) (hb:st.eval b=some y) (hy:((y.rows λm rows=>MA.ret (m,rows)).run st).map Prod.fst=some (m,ys.map f)) (hm:m=1\/ys.map f=[]) (hr:st.rw r=some (.live e' 1 (xs.map f))) (hu:P.underlying t=some (.slice e)) (hs:iE P e=some 1) (h:lo<=xs.length)
  (hk:ae P p ρ ops l ((({ st with rw:=eF st.rw r (some (.live e' 1 ((Ae xs ys lo).map f))) }:St)).put o.dst (.t (.int .i64 (min ys.length (xs.length - lo):Nat)))) K):ae P p ρ ops (o :: l) st K:=by
 refine ae.op (x:=.t (.int .i64 (min ys.length (xs.length - lo):Nat))) hg hf ?_ hk;simp only [oJ,ho,hargs,ha,hb,hts,FH,hu,hs,and_self,↓reduceIte];rw [IT hy];simp only [hm,↓reduceIte,MA.run,hr,zXQ,h,and_self,RU]
end
end Go.Tm
namespace Go.Tm.Pu
theorem gX{n:Int}(h1:-9223372036854775808<=n)(h2:n<=9223372036854775807):IntKind.wrap .i64 n=n:=Go.IntWalk.i64_in n ⟨h1,h2⟩
theorem zG(n:Int):IntKind.wrap .u8 n=n % 256:=by simp [IntKind.wrap,IntKind.bits,IntKind.signed]
theorem dy{a b:Int}(h1:-9223372036854775808<=a+b)(h2:a+b<=9223372036854775807):bd .i64 a b=a+b:=gX h1 h2
theorem dD{a b:Int}(h1:-9223372036854775808<=a - b)(h2:a - b<=9223372036854775807):ez .i64 a b=a - b:=gX h1 h2
theorem pg{a b:Int}(h1:-9223372036854775808<=a*b)(h2:a*b<=9223372036854775807):md .i64 a b=a*b:=gX h1 h2
theorem dB{i:Nat}(h:i < 9223372036854775807):bd .i64 (i:Int) 1=((i+1:Nat):Int):=by
 rw [dy (by omega) (by omega)]; simp
theorem AZ{a b:Int}(h:0<=a):uG .i64 a b=a % b:=by
 unfold uG; exact zXq h
theorem Om{a b:Int}(h:0<=a)(hb:0 < b)(h2:a<=9223372036854775807):Oi .i64 a b=a / b:=by
 unfold Oi;rw [Int.tdiv_eq_ediv_of_nonneg h];have h3:0<=a / b:=Int.ediv_nonneg h (by omega);have h4:a / b<=a:=Int.ediv_le_self b h;exact gX (by omega) (by omega)
theorem PT(k:IntKind)(a:Int)(n:Nat)(h:n<=k.bits):nD k a (n:Int)=a / 2 ^ n:=by
 unfold nD;rw [show min (sY (n:Int)) k.bits=n by simp; omega];exact Int.fdiv_eq_ediv_of_nonneg a (by exact_mod_cast zZw (2 ^ n))
theorem U1(a:Int):nD .i64 a 7=a / 128:=PT .i64 a 7 (by decide)
theorem VP(a:Int):nD .i64 a 8=a / 256:=PT .i64 a 8 (by decide)
theorem bD{p:Prop}[Decidable p](h:p):dC (decide p)=some ():=by simp [dC,h]
theorem Eg:dC true=some ():=rfl
theorem dc{α:Type}(xs:List α)(i:Nat):dG xs (i:Int)=xs[i]?:=by simp [dG]
def lB{σ ρ:Type}(fin:σ->Option ρ)(body:Nat->σ->(σ->Option ρ)->Option ρ):Nat->Nat->σ->Option ρ
 | 0,_,s=>fin s
 | n+1,i,s=>body i s (lB fin body n (i+1))
theorem MY{σ ρ:Type}{fin:σ->Option ρ}{body:Nat->σ->(σ->Option ρ)->Option ρ}{n:Int}(L:Nat->σ->Int->Option ρ)(hn:n<=9223372036854775807)
  (hL:∀ (k:Nat) (s:σ) (i:Nat),L (k+1) s (i:Int)=bif decide ((i:Int) < n) then body i s (λs'=>L k s' (bd .i64 (i:Int) 1)) else fin s) :
  ∀ (m k i:Nat) (s:σ),i+m=n.toNat\/(m=0/\n<=i)->m < k->L k s (i:Int)=lB fin body m i s:=by
 intro m
 induction m with
 | zero =>
  intro k i s hi hk;obtain ⟨k,rfl⟩:∃ j,k=j+1:=⟨k - 1,by omega⟩;rw [hL];have:¬ ((i:Int) < n):=by omega
  simp [this,lB]
 | succ m ih =>
  intro k i s hi hk;obtain ⟨k,rfl⟩:∃ j,k=j+1:=⟨k - 1,by omega⟩;rw [hL];have:(i:Int) < n:=by omega
  simp only [this,decide_true,cond_true];show body i s _=body i s (lB fin body m (i+1))
  congr 1
  funext s'
  rw [dB (by omega)];exact ih k (i+1) s' (by omega) (by omega)
theorem pi{σ ρ:Type}{fin:σ->Option ρ}{body:Nat->σ->(σ->Option ρ)->Option ρ}{n:Int}(L:Nat->σ->Int->Option ρ)(hn:n<=9223372036854775807)
  (hL:∀ (k:Nat) (s:σ) (i:Nat),L (k+1) s (i:Int)=bif decide ((i:Int) < n) then body i s (λs'=>L k s' (bd .i64 (i:Int) 1)) else fin s)
  {k:Nat} (s:σ) (hk:n.toNat < k):L k s 0=lB fin body n.toNat 0 s:=by
 have:=MY L hn hL n.toNat k 0 s (by omega) hk
 simpa using this
def cA{α σ ρ:Type}(fin:σ->Option ρ)(body:α->Nat->σ->(σ->Option ρ)->Option ρ):List α->Nat->σ->Option ρ
 | [],_,s=>fin s
 | x :: xs,i,s=>body x i s (cA fin body xs (i+1))
theorem Oo{α σ ρ:Type}{fin:σ->Option ρ}{body:α->Nat->σ->(σ->Option ρ)->Option ρ}{xs:List α}(L:Nat->σ->Int->Option ρ)(hn:xs.length<=9223372036854775807)
  (hL:∀ (k:Nat) (s:σ) (i:Nat),L (k+1) s (i:Int)=bif decide ((i:Int) < (xs.length:Int)) then (dG xs (i:Int)).bind λx=>body x i s (λs'=>L k s' (bd .i64 (i:Int) 1)) else fin s) :
  ∀ (ys:List α) (k i:Nat) (s:σ),ys=xs.drop i->ys.length < k->L k s (i:Int)=cA fin body ys i s:=by
 intro ys
 induction ys with
 | nil =>
  intro k i s hi hk;obtain ⟨k,rfl⟩:∃ j,k=j+1:=⟨k - 1,by omega⟩;rw [hL];have:¬ ((i:Int) < (xs.length:Int)):=by
   have:=congrArg zYq hi;simp at this;omega
  simp [this,cA]
 | cons y ys ih =>
  intro k i s hi hk;obtain ⟨k,rfl⟩:∃ j,k=j+1:=⟨k - 1,by omega⟩;rw [hL];have hlt:i < xs.length:=by
   have:=congrArg zYq hi;simp at this;omega
  have hx:xs[i]?=some y:=by
   have:=congrArg zZQ hi
   simpa [zXj] using this.symm
  have hys:ys=xs.drop (i+1):=by
   have:=congrArg zZV hi
   simpa [zYX] using this
  have:(i:Int) < (xs.length:Int):=by omega
  simp only [this,decide_true,cond_true,dc,hx,wk];show body y i s _=body y i s (cA fin body ys (i+1))
  congr 1
  funext s'
  rw [dB (by omega)];simp only [zQG] at hk;exact ih k (i+1) s' hys (by omega)
theorem eG{α σ ρ:Type}{fin:σ->Option ρ}{body:α->Nat->σ->(σ->Option ρ)->Option ρ}{xs:List α}(L:Nat->σ->Int->Option ρ)(hn:xs.length<=9223372036854775807)
  (hL:∀ (k:Nat) (s:σ) (i:Nat),L (k+1) s (i:Int)=bif decide ((i:Int) < (xs.length:Int)) then (dG xs (i:Int)).bind λx=>body x i s (λs'=>L k s' (bd .i64 (i:Int) 1)) else fin s)
  {k:Nat} (s:σ) (hk:xs.length < k):L k s 0=cA fin body xs 0 s:=by
 have:=Oo L hn hL xs k 0 s (by simp) hk
 simpa using this
end Go.Tm.Pu
namespace Go.Tm
end Go.Tm
namespace Go.Tm
open Go
theorem oi{α:Type}{a b:α}(h:some a=some b):a=b:=Option.some.inj h
theorem kr{p:Prop}(h:p:=by kernel_rfl):p:=h
section
variable {P:Program} {n:Nat} {ls:List Nat} {Q:Exit->St->Prop} {N:St->Prop} {st st':St} {c x y:Code} {p:Nat->Bool} {ρ:Nat->dZ} {ops:Array Oper} {l:List Oper} {K:St->Prop} {o:Oper}
theorem Eh(s:Sx)(h:Wp P n ls c Q s.st)(hok:s.ok n ls [] []=true:=by kernel_rfl)(ht:s.tm.map (λq=>st.tm q.1)=s.tm.map (λq=>q.2.ren (AH []) (AH [])):=by kernel_rfl)
  (ho:s.ob.map (λq=>st.ob (AH [] q.1))=s.ob.map (λq=>some (ry (AH []) (AH []) q.2)):=by kernel_rfl) (hr:s.rw.map (λq=>st.rw (AH [] q.1))=s.rw.map (λq=>some q.2):=by kernel_rfl):Wp P n ls c Q st :=
 Wp.le (Le.of (s:=s) (mo:=[]) (mr:=[]) hok ht ho hr) h
theorem aS{id:Nat}(p:List Nat)(ρ:List (Nat×dZ))(h:ae P (eO p) (bm ρ) ops ops.toList st (Q .normal))(hok:ops.toList.all (nm n)=true:=by kernel_rfl):Wp P n ls (.region id ops false) Q st :=
 zE (eO p) (bm ρ) hok h
theorem PU{id:Nat}(p:List Nat)(ρ:List (Nat×dZ))(h:ae P (eO p) (bm ρ) ops ops.toList st (iL (Wp P n ls y Q) Q .normal))(hok:ops.toList.all (nm n)=true:=by kernel_rfl):Wp P n ls (.seq (.region id ops false) y) Q st :=
 Wp.seq (zE (eO p) (bm ρ) hok h)
theorem ab(hr:N (St.or (rz P ρ ops l st)))(h:(rz P ρ ops l st).isSome=true:=by kernel_rfl):ae P p ρ ops l st (iL N Q .normal) :=
 ae.all h (aQ hr)
theorem af{id:Nat}(h:Wp P n ls y Q (St.or (rz P (bm []) ops ops.toList st)))(h1:(rz P (bm []) ops ops.toList st).isSome=true:=by kernel_rfl)(hd:ops.toList.all (nm n)=true:=by kernel_rfl):Wp P n ls (.seq (.region id ops false) y) Q st :=
 PU [] [] (ab h h1) hd
theorem aA{α:Type}{o:Operand}{b:Bool}{e1 e2 r:α}(h:(bif b then e1 else e2)=r)(ht:e1=r->Wp P n ls x Q st)(hf:e2=r->Wp P n ls y Q st)(ho:st.eval o=some (.t (.bool b)):=by kernel_rfl):Wp P n ls (.cond o x y) Q st :=
 SV ho (λhc=>ht (Ju h hc)) (λhc=>hf (Jv h hc))
theorem aX(h:N st){Q:Exit->St->Prop}:Wp P n ls .skip (iL N Q) st:=Wp.skip (aQ h)
end
abbrev A.s(x:List Int):A:=.t (.sl 1 (x.map (aj .u8)))
abbrev C.s(x:List Int):C:=.t (.sl 1 (x.map (aj .u8)))
abbrev A.i(n:Int):A:=.t (.int .i64 n)
abbrev A.b(b:Bool):A:=.t (.bool b)
abbrev C.i(n:Int):C:=.t (.int .i64 n)
abbrev C.b(b:Bool):C:=.t (.bool b)
end Go.Tm
namespace Go.Tm
open Go.RowKit
section
variable {P:Program} {n:Nat} {ls:List Nat} {Q:Exit->St->Prop} {st st':St} {p:Nat->Bool} {ρ:Nat->dZ} {ops:Array Oper} {l:List Oper} {K:St->Prop} {o:Oper}
theorem aU(d f:Nat)(caps as:List A)(vs:List V)(res:V){xf:Operand}{args:Array Operand}{ts:Array TypeId}
  (ho:o.op=.call { callee:=.value xf,args,argTypes:=ts }) (hd:o.dst=some d) (hg:ir ops st o=some true) (hf:ew ρ st o=true) (hxf:st.eval xf=some (.clo f caps)) (k7:dj (args.toList.map st.eval)=some as)
  (hp:((d7 (as++caps) MA.ret).run st).map Prod.fst=some vs) (hc:nH P f vs res) (hr:((V.toA d (fj d 0) res MA.ret).run st).isSome=true)
  (hk:ae P p ρ ops l ((Ec ((V.toA d (fj d 0) res MA.ret).run st)).put o.dst (Uh ((V.toA d (fj d 0) res MA.ret).run st))) K):ae P p ρ ops (o :: l) st K:=by
 obtain ⟨⟨vs',st1⟩,h1,h2⟩:=Option.map_eq_some_iff.1 hp
 cases h2
 have hst:st1=st:=by
  have:=(mZ (d7 (as++caps) MA.ret) (pV (D:=⟨λ_=>True,λ_=>False,λ_=>True,λ_=>False⟩) (pe (λ_=>trivial) _) (λ_=>trivial)) h1).1;exact St.ext this.tm (funext λs=>this.ob s (λh=>h)) (funext λs=>this.rw s (λh=>h))
 subst hst;obtain ⟨⟨x,st2⟩,h3⟩:=Option.isSome_iff_exists.1 hr;rw [h3] at hk;exact ae.step (.run x st2 hg hf (.callD d f xf args ts caps as vs' res ho hd hxf k7 h1 hc h3)) hk
theorem dv{α:Type}(f:α->List T)(xs:List α)(i:Int)(s:Bool){y:α}{t e:TypeId}{a b:Operand}{sz:Nat}{kk:IntKind}(ho:o.op=.indexAddr t a b)(hg:ir ops st o=some true)(hf:ew ρ st o=true)
  (ha:st.eval a=some (.ext s (.sl sz (xs.map f)))) (hb:st.eval b=some (.t (.int kk i))) (hu:P.underlying t=some (.slice e)) (hs:iE P e=some sz) (h:dG xs i=some y) (hk:ae P p ρ ops l (st.put o.dst (.exa s (f y))) K):ae P p ρ ops (o :: l) st K:=by
 obtain ⟨h0,h1⟩:=bx h;refine ae.pure (x:=.exa s (f y)) hg hf ?_ hk;simp only [oJ,ho,ha,hb];unfold kB;simp only [hu,hs,DQ,h0,and_self,↓reduceIte,zQX,h1,zQg,true_and,MA.run]
theorem ep(k:IntKind)(m:Nat)(xs:List Int):(((A.ext false (.sl m (xs.map (aj k)))).rows λm rows=>MA.ret (m,rows)).run st).map Prod.fst=some (m,xs.map (aj k)):=SY (k:=k) (f:=aj k) λ_=>rfl
end
section
variable {P:Program} {E:En} {g:Gh} {st st':St} {a:Act} {w w':World} {n:Nat}
variable {p:Nat->Bool} {ρ:Nat->dZ} {ops:Array Oper} {o:Oper} {ls:List Nat} {Q:Exit->St->Prop}
theorem bU{fn:Func}{c:Code}{f:FuncId}{args:List V}{m:Bool}{res:V}
  (hf:P.funcs[f]?=some fn) (hb:fn.body=some c) (hnm:(fn.name == "runtime.NumGoroutine")=false) (hle:Nat.ble args.length fn.ntmps=true) (ht:re fn.ntmps fn=true)
  (h:Wp P fn.ntmps [1] c (yD P m fn [] res []) (eN (args.map V.toX) db)):nH P f args res:=Oe hf hb hnm (by simpa using hle) ht h
end
end Go.Tm
namespace Go.Tm
open Go
def C.fix:C->C->C
 | .t (.sl s _),.nil=>.t (.sl s [])
 | .ow e s _,.nil=>.ow e s []
 | .t (.sl s _),.t (.sl 0 [])=>.t (.sl s [])
 | _,c=>c
theorem Oq:∀ t c:C,MU c (C.fix t c):=λt c=>by
 unfold C.fix
 split
 ·exact .nilT _
 ·exact .nilO _ _
 ·exact .sz _ _
 ·exact .refl _
def Q0:List C->List C->List C
 | t :: ts,c :: cs=>t.fix c :: Q0 ts cs
 | _,cs=>cs
theorem JA:∀ cs:List C,xN MU cs cs
 | []=>.nil
 | c :: cs=>.cons (.refl c) (JA cs)
theorem JB:∀ ts cs:List C,xN MU cs (Q0 ts cs)
 | t :: ts,c :: cs=>.cons (Oq t c) (JB ts cs)
 | [],cs=>JA cs
 | _ :: _,[]=>.nil
def Uk:List (List C)->List (List C)->List (List C)
 | t :: ts,c :: cs=>Q0 t c :: Uk ts cs
 | _,cs=>cs
theorem Me:∀ cs:List (List C),xN (xN MU) cs cs
 | []=>.nil
 | c :: cs=>.cons (JA c) (Me cs)
theorem Q1:∀ ts cs:List (List C),xN (xN MU) cs (Uk ts cs)
 | t :: ts,c :: cs=>.cons (JB t c) (Q1 ts cs)
 | [],cs=>Me cs
 | _ :: _,[]=>.nil
mutual
def V.fix:V->V->V
 | .one t,.one c=>.one (t.fix c)
 | .agg ts,.agg cs=>.agg (Q0 ts cs)
 | .tup ts,.tup vs=>.tup (yH ts vs)
 | _,v=>v
def yH:List V->List V->List V
 | t :: ts,v :: vs=>V.fix t v :: yH ts vs
 | _,vs=>vs
end
theorem Mf:∀ vs:List V,AX vs vs
 | []=>.nil
 | v :: vs=>.cons (.refl v) (Mf vs)
mutual
theorem Ot:∀ t v:V,PP v (V.fix t v)
 | .one t,.one c=>by unfold V.fix; exact .one (Oq t c)
 | .agg ts,.agg cs=>by unfold V.fix; exact .agg (JB ts cs)
 | .tup ts,.tup vs=>by unfold V.fix; exact .tup (wC ts vs)
 | .one _,.agg _ | .one _,.tup _ | .one _,.ptr _ | .one _,.fptr _ | .one _,.clo ..=>by unfold V.fix; exact .refl _
 | .agg _,.one _ | .agg _,.tup _ | .agg _,.ptr _ | .agg _,.fptr _ | .agg _,.clo ..=>by unfold V.fix; exact .refl _
 | .tup _,.agg _ | .tup _,.one _ | .tup _,.ptr _ | .tup _,.fptr _ | .tup _,.clo ..=>by unfold V.fix; exact .refl _
 | .ptr _,v | .fptr _,v | .clo ..,v=>by unfold V.fix; exact .refl _
theorem wC:∀ ts vs:List V,AX vs (yH ts vs)
 | t :: ts,v :: vs=>by unfold yH; exact .cons (Ot t v) (wC ts vs)
 | [],vs=>by unfold yH; exact Mf vs
 | _ :: _,[]=>by unfold yH; exact .nil
end
def CS(P:Program)(ρ:Nat->dZ)(ops:Array Oper)(st:St):List Oper->Option (Nat×List A×Nat)
 | o :: _=>match ir ops st o with
  | some true=>if ew ρ st o then match o.op,o.dst with
   | .call { callee:=.value xf,args,.. },some d=>match st.eval xf,dj (args.toList.map st.eval) with
    | some (.clo f caps),some az=>some (f,az++caps,d)
    | _,_=>none
   | _,_=>none
   else none
  | _=>none
 | []=>none
def V.pl:V->Bool
 | .one (.t x)=>x.sc
 | .agg l=>l.all λc=>match c with | .t x=>x.sc | _=>false
 | .tup l=>l.all λv=>match v with | .one (.t x)=>x.sc | _=>false
 | _=>false
theorem PV{v:V}(h:v.pl=true):v.plain:=by
 unfold V.pl at h
 split at h
 ·unfold V.plain; exact h
 ·unfold V.plain;intro c hc;have:=List.all_eq_true.1 h c hc
  cases c with
  | t x=>exact this
  | _=>cases this
 ·rename_i l;unfold V.plain
  induction l with
  | nil=>unfold sS; trivial
  | cons v l ih =>
   simp only [zYh,sk] at h;unfold sS;refine ⟨?_,ih h.2⟩;have h1:=h.1
   split at h1
   ·unfold V.plain; exact h1
   ·cases h1
 ·cases h
section
variable {P:Program} {n:Nat} {ls:List Nat} {Q:Exit->St->Prop} {N:St->Prop} {st:St} {p:Nat->Bool} {ρ:Nat->dZ} {ops:Array Oper} {l:List Oper} {K:St->Prop} {y:Code}
abbrev rU(P:Program)(ρ:Nat->dZ)(ops:Array Oper)(k:Nat)(l:List Oper)(st:St):St:=St.or (rz P ρ ops (l.take k) st)
theorem xj{c:Nat×List A×Nat}(h:CS P ρ ops st l=some c):∃ o l' xf args ts az caps,l=o :: l'/\ir ops st o=some true/\ew ρ st o=true/\o.op=.call { callee:=.value xf,args,argTypes:=ts }/\o.dst=some c.2.2/\st.eval xf=some (.clo c.1 caps)/\dj (args.toList.map st.eval)=some az/\c.2.1=az++caps:=by
 unfold CS at h
 split at h <;> try (cases h; done)
 rename_i o l'
 split at h <;> try (cases h; done)
 split at h <;> try (cases h; done)
 split at h <;> try (cases h; done)
 split at h <;> try (cases h; done)
 rename_i _ hg hf _ _ xf args ts d hop hd _ _ f caps az hxf k7
 cases h
 exact ⟨o,l',xf,args,ts,az,caps,rfl,hg,hf,hop,hd,hxf,k7,rfl⟩
abbrev U2(m:Bool)(p:Nat->Bool)(d:Nat)(az:List A)(res:V)(outs:List (List C))(st:St):St :=
 (Ec ((du d (dH az) outs (V.toA d (fj d 0) res MA.ret)).run (Ec ((i9 m p az MA.ret).run st)))).put (some d) (Uh ((du d (dH az) outs (V.toA d (fj d 0) res MA.ret)).run (Ec ((i9 m p az MA.ret).run st))))
abbrev Wm(d:Nat)(res:V)(st:St):St:=(Ec ((V.toA d (fj d 0) res MA.ret).run st)).put (some d) (Uh ((V.toA d (fj d 0) res MA.ret).run st))
theorem aq{α β:Type}{r:β}{x:Option α}{f:α->Option β}{fid:Nat}{vs:List V}{res:α->V}{outs:α->List (List C)}(m:Bool)(k d:Nat)(az:List A)(h:x.bind f=some r)(hc:∀ y,x=some y->aJ P fid vs (res y) (outs y))
  (hk:∀ y,f y=some r->ae P p ρ ops (l.drop (k+1)) (U2 m p d az (res y) (outs y) (rU P ρ ops k l st)) K)
  (h1:(rz P ρ ops (l.take k) st).isSome=true:=by kernel_rfl) (h2:CS P ρ ops (rU P ρ ops k l st) (l.drop k)=some (fid,az,d):=by kernel_rfl)
  (h3:((i9 m p az MA.ret).run (rU P ρ ops k l st)).map (λq=>yH vs q.1)=some vs:=by kernel_rfl)
  (h4:∀ y,((du d (dH az) (outs y) (V.toA d (fj d 0) (res y) MA.ret)).run (Ec ((i9 m p az MA.ret).run (rU P ρ ops k l st)))).isSome=true:=by intro y; kernel_rfl):ae P p ρ ops l st K:=by
 refine ak k h1 ?_
 cases x with
 | none=>cases h
 | some y =>
  have h5:=hc y rfl;have h6:=hk y h;have h7:=h4 y
  clear hc hk h4
  simp only [rU,U2] at h2 h3 h6 h7;generalize St.or (rz P ρ ops (l.take k) st)=st1 at *;obtain ⟨o,l',xf,args,ts,az',caps,e1,e2,e3,e4,e5,e6,e7,e8⟩:=xj h2;simp only at e5 e6 e8;subst e8;have e9:l.drop (k+1)=l':=by rw [<- zZK,e1]; rfl
  rw [e9] at h6;rw [e1];obtain ⟨⟨vs0,st2⟩,h8,h9⟩:=Option.map_eq_some_iff.1 h3;have h10:AX vs0 vs:=by rw [<- h9]; exact wC vs vs0
  rw [h8] at h6 h7;simp only [Ec,Uh] at h6 h7
  cases h11:(du d (dH (az'++caps)) (outs y) (V.toA d (fj d 0) (res y) MA.ret)).run st2 with
  | none=>rw [h11] at h7; cases h7
  | some q =>
   obtain ⟨z,st3⟩:=q;rw [h11] at h6;exact ae.call e2 e3 e4 e5 e6 e7 h8 (h5.le h10) h11 (by rw [e5]; exact h6)
theorem cK{α β:Type}{r:β}{x:Option α}{f:α->Option β}{fid:Nat}{vs:List V}{res:α->V}(k d:Nat)(az:List A)(h:x.bind f=some r)(hc:∀ y,x=some y->aJ P fid vs (res y) [])
  (hk:∀ y,f y=some r->ae P p ρ ops (l.drop (k+1)) (Wm d (res y) (rU P ρ ops k l st)) K)
  (h1:(rz P ρ ops (l.take k) st).isSome=true:=by kernel_rfl) (h2:CS P ρ ops (rU P ρ ops k l st) (l.drop k)=some (fid,az,d):=by kernel_rfl)
  (h3:((d7 az MA.ret).run (rU P ρ ops k l st)).map (λq=>yH vs q.1)=some vs:=by kernel_rfl)
  (h0:∀ y,(res y).pl=true:=by intro y; kernel_rfl)
  (h4:∀ y,((V.toA d (fj d 0) (res y) MA.ret).run (rU P ρ ops k l st)).isSome=true:=by intro y; kernel_rfl):ae P p ρ ops l st K:=by
 refine ak k h1 ?_
 cases x with
 | none=>cases h
 | some y =>
  have h5:=hc y rfl;have h6:=hk y h;have h7:=h4 y;have h0:=PV (h0 y)
  clear hc hk h4
  simp only [rU,Wm] at h2 h3 h6 h7;generalize St.or (rz P ρ ops (l.take k) st)=st1 at *;obtain ⟨o,l',xf,args,ts,az',caps,e1,e2,e3,e4,e5,e6,e7,e8⟩:=xj h2;simp only at e5 e6 e8;subst e8;have e9:l.drop (k+1)=l':=by rw [<- zZK,e1]; rfl
  rw [e9] at h6;rw [e1];obtain ⟨⟨vs0,st2⟩,h8,h9⟩:=Option.map_eq_some_iff.1 h3;have h10:AX vs0 vs:=by rw [<- h9]; exact wC vs vs0
  have hst:st2=st1:=by
   have:=(mZ (d7 (az'++caps) MA.ret) (pV (D:=⟨λ_=>True,λ_=>False,λ_=>True,λ_=>False⟩) (pe (λ_=>trivial) _) (λ_=>trivial)) h8).1;exact St.ext this.tm (funext λs=>this.ob s (λh=>h)) (funext λs=>this.rw s (λh=>h))
  subst hst
  cases h11:(V.toA d (fj d 0) (res y) MA.ret).run st2 with
  | none=>rw [h11] at h7; cases h7
  | some q =>
   obtain ⟨z,st3⟩:=q;rw [h11] at h6;simp only [Ec,Uh] at h6;exact ae.callB e2 e3 e4 e5 e6 e7 h8 (h5.le h10) h0 h11 (by rw [e5]; exact h6)
theorem aG{id:Nat}(h:ae P (eO []) (bm []) ops ops.toList st (iL (Wp P n ls y Q) Q .normal))(hd:ops.toList.all (nm n)=true:=by kernel_rfl):Wp P n ls (.seq (.region id ops false) y) Q st :=
 PU [] [] h hd
theorem bf{α β:Type}{id:Nat}{r:β}{x:Option α}{f:α->Option β}{fid:Nat}{vs:List V}{res:α->V}{outs:α->List (List C)}(m:Bool)(k d:Nat)(az:List A)(h:x.bind f=some r)(hc:∀ y,x=some y->aJ P fid vs (res y) (outs y))
  (hk:∀ z,f z=some r->Wp P n ls y Q (St.or (rz P (bm []) ops (ops.toList.drop (k+1)) (U2 m (eO []) d az (res z) (outs z) (rU P (bm []) ops k ops.toList st)))))
  (h1:(rz P (bm []) ops (ops.toList.take k) st).isSome=true:=by kernel_rfl) (h2:CS P (bm []) ops (rU P (bm []) ops k ops.toList st) (ops.toList.drop k)=some (fid,az,d):=by kernel_rfl)
  (h3:((i9 m (eO []) az MA.ret).run (rU P (bm []) ops k ops.toList st)).map (λq=>yH vs q.1)=some vs:=by kernel_rfl)
  (h4:∀ z,((du d (dH az) (outs z) (V.toA d (fj d 0) (res z) MA.ret)).run (Ec ((i9 m (eO []) az MA.ret).run (rU P (bm []) ops k ops.toList st)))).isSome=true:=by intro z; kernel_rfl)
  (h5:∀ z,(rz P (bm []) ops (ops.toList.drop (k+1)) (U2 m (eO []) d az (res z) (outs z) (rU P (bm []) ops k ops.toList st))).isSome=true:=by intro z; kernel_rfl)
  (hd:ops.toList.all (nm n)=true:=by kernel_rfl):Wp P n ls (.seq (.region id ops false) y) Q st :=
 PU [] [] (aq m k d az h hc (λz hz=>ab (hk z hz) (h5 z)) h1 h2 h3 h4) hd
theorem aE{α:Type}(k d:Nat){b:Bool}{e1 e2 r:α}(h:(bif b then e1 else e2)=r)(ht:e1=r->ae P p ρ ops (l.drop k) ((rU P ρ ops k l st).put (some d) (.t (.bool true))) K)
  (hf:e2=r->ae P p ρ ops (l.drop k) ((rU P ρ ops k l st).put (some d) (.t (.bool false))) K) (h1:(rz P ρ ops (l.take k) st).isSome=true:=by kernel_rfl) (h2:(rU P ρ ops k l st).tm d=.t (.bool b):=by kernel_rfl):ae P p ρ ops l st K:=by
 refine ak k h1 ?_;rcases tf b with hc | hc
 ·exact ae.known d (v:=true) h2 hc (ht (Ju h hc))
 ·exact ae.known d (v:=false) h2 hc (hf (Jv h hc))
theorem aD{m:Bool}{fn:Func}{args:List V}{res:V}{outs:List (List C)}(h1:(xi P st fn.results.toList).isSome=true:=by kernel_rfl)
  (h2:((yC 0 args λos=>RL m (SX ((xi P st fn.results.toList).getD [])) λv=>MA.ret (v,os)).run st).map (λq=>(V.fix res q.1.1,Uk outs q.1.2))=some (res,outs):=by kernel_rfl):yD P m fn args res outs .ret st:=by
 obtain ⟨l,hl⟩:=Option.isSome_iff_exists.1 h1;rw [hl] at h2;obtain ⟨⟨⟨v,os⟩,st1⟩,h3,h4⟩:=Option.map_eq_some_iff.1 h2;simp only [Prod.mk.injEq] at h4;refine ⟨.inl rfl,l,st1,v,os,hl,h3,?_,?_⟩
 ·rw [<- h4.1]; exact Ot _ _
 ·rw [<- h4.2]; exact Q1 _ _
theorem Ha{m:Bool}{fn:Func}{args:List V}{res:V}{outs:List (List C)}(h1:(xi P st fn.results.toList).isSome=true:=by kernel_rfl)
  (h2:((yC 0 args λos=>RL m (SX ((xi P st fn.results.toList).getD [])) λv=>MA.ret (v,os)).run st).map (λq=>(V.fix res q.1.1,Uk outs q.1.2))=some (res,outs):=by kernel_rfl):yD P m fn args res outs .normal st :=
 ⟨.inr rfl,(aD (m:=m) (args:=args) h1 h2).2⟩
theorem lo{s:Sx}(mr:List (Nat×Nat))(hok:s.ok n ls [] mr=true:=by kernel_rfl)(ht:s.tm.map (λq=>st.tm q.1)=s.tm.map (λq=>q.2.ren (AH []) (AH mr)):=by kernel_rfl)
  (ho:s.ob.map (λq=>st.ob (AH [] q.1))=s.ob.map (λq=>some (ry (AH []) (AH mr) q.2)):=by kernel_rfl) (hr:s.rw.map (λq=>st.rw (AH mr q.1))=s.rw.map (λq=>some q.2):=by kernel_rfl):Le n ls st s.st:=Le.of hok ht ho hr
theorem dJ{f:FuncId}{c:Code}{args:List V}{res:V}{outs:List (List C)}(fn:Func)(m:Bool)
  (h:Wp P fn.ntmps (eo 0 args) c (yD P m fn args res outs) (eN ((((mY 0 args MA.ret).run db).map Prod.fst).getD []) (Ec ((mY 0 args MA.ret).run db))))
  (hb:fn.body=some c:=by rfl) (hf:P.funcs[f]?=some fn:=by kernel_rfl) (hnm:(fn.name == "runtime.NumGoroutine")=false:=by kernel_rfl) (hle:Nat.ble ((((mY 0 args MA.ret).run db).map Prod.fst).getD []).length fn.ntmps=true:=by kernel_rfl) (ht:re fn.ntmps fn=true:=by kernel_rfl)
  (ha:((mY 0 args MA.ret).run db).isSome=true:=by kernel_rfl) (hl:gC 0 args ((((mY 0 args MA.ret).run db).map Prod.fst).getD [])=true:=by kernel_rfl):aJ P f args res outs:=by
 obtain ⟨⟨az,st0⟩,h1⟩:=Option.isSome_iff_exists.1 ha;refine HK (m:=m) az hf hb hnm (by simpa [h1] using hle) ht (by rw [h1]; rfl) (by simpa [h1] using hl) ?_
 simpa [h1] using h
end
end Go.Tm
