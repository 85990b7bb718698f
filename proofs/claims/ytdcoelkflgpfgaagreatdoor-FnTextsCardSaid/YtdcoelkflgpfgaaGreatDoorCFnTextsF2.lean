/- The abstract machine tells the truth of the translated code. -/
import Derived.Orders
import Derived.ChangeOld
import Derived.ChangeArms
import Derived.Carry
import Derived.OpenShut
import Derived.IntWalk
import Derived.Shelf.Strconv.Itoa3
import Derived.Lib.AppendIntMem
import Derived.Lib.Join
import Derived.Test.YtdcoelkflgpfgaaGreatDoorCFnTextsF1
set_option linter.unusedVariables false
set_option linter.unusedSimpArgs false
open Array renaming getElem?_append_left->zYk,getElem?_append_right->zYy,getElem?_eq_getElem->zXX,getElem?_replicate->zZX,replicate->zZy,toArray_toList->zWK
open Bool renaming and_eq_true->sk,false_eq_true->zQj,true_and->zWz
open Int renaming tmod_eq_emod_of_nonneg->zXq,toNat->sY
open List renaming all_eq_true->zZv,append_nil->zXH,cons_append->zYX,drop_eq_getElem_cons->zXY,eq_nil_of_length_eq_zero->zQQ,foldl_cons->zYw,getElem?_append->zWq,getElem?_append_left->zQW,getElem?_append_right->zQV,getElem?_cons_zero->zWX,getElem?_drop->zQH,getElem?_eq_getElem->sX,getElem?_map->zQZ,getElem?_of_mem->zZQ,getElem?_take->zQw,head?->zYj,head?_drop->zXx,length_append->zQG,length_cons->zQK,length_map->zWg,map_congr_left->zWh,map_cons->zWy,mem_append_left->zVH,mem_cons_of_mem->zQk,mem_cons_self->zQg,mem_map->zYK,mem_of_getElem?->zQY,mem_singleton->zQy,nil_append->zQz,nodup_append->zXw,range->zWj,range'->zWx,range_eq_range'->zXj,replicate->zQq,tail->zZV,tail_drop->zXh,take_append_drop->zYY
open Nat renaming add_assoc->zZW,beq->zXW,beq_refl->zZj,eq_of_beq_eq_true->zWv,le_refl->zWk,le_trans->zWH,lt_of_lt_of_le->zQh,zero_add->zWY,zero_le->zYG
open Option renaming bind_some->wk,getD_some->zYH,map_eq_some_iff->zWZ,map_some->zWW
open Go.IntKind renaming wrap->Ir
open BitVec renaming ofInt->Sh
open List renaming getElem?_eq_some_iff->aaa
open Option renaming map_eq_some_iff->aab
open List renaming mem_append->aac
open Option renaming isSome_iff_exists->aad
open List renaming all_eq_true->aae
open Array renaming getElem?_eq_some_iff->aaf
open List renaming mem_cons->aag
open List renaming getElem?_eq_none_iff->aah
namespace Go.Tm
open Go.RowKit
section
variable {P:Program} {E:En} [Tb P E] {g:Gh} {st st':St} {a:Act} {w:World}
def Gh.all(g:Gh)(st:St)(b:Nat):Prop:=g.F b\/(∃ r,st.L r/\(g.rw r).ownBlock=some b)\/(g.sh=false/\g.D b)
theorem fm.all_lt(hM:fm E g st w){b:Nat}(hb:g.all st b):b < w.heap.size:=by
 rcases hb with hb | ⟨r,hL,hb⟩ | ⟨_,hb⟩
 ·exact (hM.F b hb).1
 ·exact hM.row_lt hL hb
 ·exact zQh (hM.dep b hb).2.1 hM.sizes
theorem P5{α:Type}{x:A}{k:T->MA α}{y:α}{v:Value}(hM:fm E g st w)(hv:VR w g st.O st.R x v)(h:(x.peekT k).run st=some (y,st')):∃ t,(k t).run st=some (y,st')/\Rd w (g.all st) t v:=by
 cases hv with
 | t x v h1=>exact ⟨x,h,h1.mono (λ_ _=>rfl) (λ_ h=>.inl h)⟩
 | ext s x v hs h1 =>
  cases s with
  | true=>simp [A.peekT,MA.run] at h
  | false=>exact ⟨x,h,h1.rd (hM.now hs) (λ_ h=>.inr (.inr ⟨hs,h⟩))⟩
 | nil=>exact ⟨_,h,.sl0 _ _ _ (by first | assumption | exact λ_=>rfl | (intro h; cases h))⟩
 | own r hr =>
  simp only [A.peekT,MA.run] at h
  cases hx:st.rw r with
  | none=>simp [hx,MA.run] at h
  | some x =>
   cases x with
   | live e sz rows =>
    simp only [hx] at h;exact ⟨_,h,(hM.row r _ hx).rd _ (λ_ h=>.inl h) (λb hb=>.inr (.inl ⟨r,⟨e,sz,rows,hx⟩,hb⟩))⟩
   | frz sz rows =>
    simp only [hx] at h;exact ⟨_,h,Rd.mono (hM.row r _ hx) (λ_ _=>rfl) (λ_ h=>.inl h)⟩
   | gone=>simp [hx,MA.run] at h
 | _=>simp [A.peekT,MA.run] at h
theorem MM{α:Type}:∀ {l:List A} {k:List T->MA α} {y:α} {vs:List Value},fm E g st w->vs.length=l.length->(∀ (j:Nat) (x:A),l[j]?=some x->∃ u,vs[j]?=some u/\VR w g st.O st.R x u)->(Hi l k).run st=some (y,st') ->
  ∃ ts,(k ts).run st=some (y,st')/\Mb w (g.all st) (ts.map .t) vs []
 | [],k,y,vs,hM,hl,hv,h=>by
  have:vs=[]:=zQQ hl;subst this;exact ⟨[],h,.nil⟩
 | x :: l,k,y,vs,hM,hl,hv,h=>by
  obtain ⟨v,vs,rfl⟩:∃ v vs',vs=v :: vs':=by
   cases vs with
   | nil=>simp at hl
   | cons v vs=>exact ⟨v,vs,rfl⟩
  obtain ⟨u,hu,hx⟩:=hv 0 x rfl;simp at hu;subst hu;obtain ⟨t,h1,hr⟩:=P5 hM hx h;obtain ⟨ts,h2,hc⟩:=MM hM QH (λj y hy=>by
   obtain ⟨u,hu,hx⟩:=hv (j+1) y T4;exact ⟨u,by simpa using hu,hx⟩) h1
  exact ⟨t :: ts,h2,.cons _ _ [] _ _ [] (.t _ _ hr) hc⟩
mutual
theorem We{α:Type}:∀ (x:A) {k:V->MA α} {y:α} {v:Value},fm E g st w->VR w g st.O st.R x v->(jb x k).run st=some (y,st')->∃ c,(k c).run st=some (y,st')/\VV w (g.all st) c v []:=by
 intro x k y v hM hv h;unfold jb at h
 split at h
 ·rename_i l
  cases hv with
  | agg l vs hl hx =>
   obtain ⟨ts,h1,hc⟩:=MM hM hl.symm (λj x hj=>⟨_,sX (by rw [<- hl]; exact (aaa.1 hj).1),hx j x _ hj (sX (by rw [<- hl]; exact (aaa.1 hj).1))⟩) h;exact ⟨_,h1,.agg _ vs [] hc⟩
 ·rename_i ts
  cases hv with
  | fadr cells b off u hF hx hr=>exact ⟨_,h,.fptr ts b off u (.inl hF) hx (λj x hj=>(hr j x hj).mono (λ_ _=>rfl) (λ_ h=>.inl h))⟩
 ·rename_i f caps
  cases hv with
  | clo f caps vs hl hx =>
   obtain ⟨cs,h1,hc⟩:=vV caps hM hl.symm (λj x hj=>⟨_,sX (by rw [<- hl]; exact (aaa.1 hj).1),hx j x _ hj (sX (by rw [<- hl]; exact (aaa.1 hj).1))⟩) h;exact ⟨_,h1,.clo f cs vs [] hc⟩
 ·obtain ⟨t,h1,hr⟩:=P5 hM hv h;exact ⟨_,h1,.one _ v [] (.t _ _ hr)⟩
theorem vV{α:Type}:∀ (l:List A) {k:List V->MA α} {y:α} {vs:List Value},fm E g st w->vs.length=l.length->(∀ (j:Nat) (x:A),l[j]?=some x->∃ u,vs[j]?=some u/\VR w g st.O st.R x u)->(d8 l k).run st=some (y,st')->∃ cs,(k cs).run st=some (y,st')/\Db w (g.all st) cs vs []
 | [],k,y,vs,hM,hl,hv,h=>by
  have:vs=[]:=zQQ hl;subst this;unfold d8 at h;exact ⟨[],h,.nil⟩
 | x :: l,k,y,vs,hM,hl,hv,h=>by
  obtain ⟨v,vs,rfl⟩:∃ v vs',vs=v :: vs':=by
   cases vs with
   | nil=>simp at hl
   | cons v vs=>exact ⟨v,vs,rfl⟩
  obtain ⟨u,hu,hx⟩:=hv 0 x rfl;simp at hu;subst hu;unfold d8 at h;obtain ⟨c,h1,hc⟩:=We x hM hx h;obtain ⟨cs,h2,hcs⟩:=vV l hM QH (λj y hy=>by
   obtain ⟨u,hu,hx⟩:=hv (j+1) y T4;exact ⟨u,by simpa using hu,hx⟩) h1
  exact ⟨c :: cs,h2,.cons _ _ [] _ _ [] hc hcs⟩
end
theorem Rd.sc{F F':Nat->Prop}{x:T}{v:Value}(h:Rd w F x v)(hx:x.sc=true):Rd w F' x v:=by
 cases h with
 | int k n=>exact .int k n
 | bool b=>exact .bool b
 | str s=>exact .str s
 | nilf=>exact .nilf
 | hdr a n c=>exact .hdr a n c
 | sl0 | sl=>cases hx
theorem CV.plain{F F':Nat->Prop}{c:C}{v:Value}{bs:List Nat}(h:CV w F c v bs)(hc:c.plain):CV w F' c v bs:=by
 cases h with
 | t x v h=>exact .t x v (h.sc hc)
 | nil=>exact .nil
 | ow e sz rows v inner ho hr =>
  exact .ow e sz rows v inner ho ⟨hr.size,hr.len,λi row j x hi hj=>by
   obtain ⟨u,hu,h1,h2⟩:=hr.rd i row j x hi hj;exact ⟨u,hu,h1,h2.sc (hc row (zQY hi) x (zQY hj))⟩⟩
theorem Mb.plain{F F':Nat->Prop}{cs:List C}{vs:List Value}{bs:List Nat}(h:Mb w F cs vs bs)(hc:∀ c∈cs,c.plain):Mb w F' cs vs bs:=by
 induction h with
 | nil=>exact .nil
 | cons c v b cs vs bs h hs ih=>exact .cons c v b cs vs bs (h.plain (hc c eH)) (ih (λc h=>hc c (by simp [h])))
mutual
theorem VV.plain{F F':Nat->Prop}:∀ {x:V} {v:Value} {bs:List Nat},VV w F x v bs->x.plain->VV w F' x v bs
 | _,_,_,.one c v bs h,hp=>.one c v bs (h.plain qah)
 | _,_,_,.agg l vs bs h,hp=>.agg l vs bs (h.plain qah)
 | _,_,_,.tup l vs bs h,hp=>.tup l vs bs (h.plain qah)
 | _,_,_,.ptr cells b arr e vs bs h1 h2 h3 h,hp=>by unfold V.plain at hp; exact hp.elim
 | _,_,_,.fptr cells b off u h1 h2 h3,hp=>by unfold V.plain at hp; exact hp.elim
 | _,_,_,.clo f caps vs bs h,hp=>by unfold V.plain at hp; exact hp.elim
theorem Db.plain{F F':Nat->Prop}:∀ {l:List V} {vs:List Value} {bs:List Nat},Db w F l vs bs->uW l->Db w F' l vs bs
 | _,_,_,.nil,hp=>.nil
 | _,_,_,.cons x v b l vs bs h hs,hp=>.cons x v b l vs bs (h.plain (by unfold uW at hp; exact hp.1)) (hs.plain (by unfold uW at hp; exact hp.2))
end
theorem Sp{n d f:Nat}{o:Oper}{xf:Operand}{args:Array Operand}{ts:Array TypeId}{caps sr:List A}{vs:List V}{res:V}{x:A}
  (hS:jq E g n st a w) (ho:o.op=.call { callee:=.value xf,args,argTypes:=ts }) (hf:st.eval xf=some (.clo f caps)) (mj:dx (args.toList.map st.eval)=some sr)
  (hp:(d8 (sr++caps) MA.ret).run st=some (vs,st)) (hc:aD P f vs res []) (hpl:res.plain) (hr:(V.toA d (gj d 0) res MA.ret).run st=some (x,st')) :
  yk P o a w λv w'=>∃ g',yi E g st w x st' v g' w':=by
 have hM:=hS.mem;obtain ⟨hcl,hcc⟩:=hc;have hvf:=bU hS hf;generalize hvv:a.eval xf=vf at hvf
 cases hvf with
 | clo f caps vcaps hl hx =>
  refine jL ho hvv hcl ?_;obtain ⟨ha1,ha2⟩:=AG hS mj;obtain ⟨cs,h1,hVV⟩:=vV (vs:=args.toList.map a.eval++vcaps) (sr++caps) hM Xk (λj y hj=>by
   rw [zWq] at hj
   split at hj
   ·rename_i hlt;have hlt':j < (args.toList.map a.eval).length:=by rw [<- ha1]; exact hlt
    exact ⟨_,by rw [zQW hlt']; exact sX hlt',ha2 j y _ hj (sX hlt')⟩
   ·rename_i hge;have hlt:j - sr.length < vcaps.length:=by rw [<- hl]; exact (aaa.1 hj).1
    exact ⟨_,by rw [zQV V1,<- ha1]; exact sX hlt,hx _ y _ hj (sX hlt)⟩) hp
  obtain ⟨rfl,_⟩:=fo h1;refine (hcc w (g.all st) _ [] (λb hb=>?_) hVV List.nodup_nil eH (hM.tbW λb _ _ _ h=>by cases h)).mono λe w' ⟨v,F',bv,bo,he,hcalm,hsame,hFF,hF',hvr,hO,hnd,hex⟩=>⟨v,he,?_⟩
  ·exact hM.all_lt hb
  obtain ⟨hM2,hE2⟩:=hM.grow hcalm (λb hb=>hsame b hb eH);have hbv:∀ b∈bv,w.heap.size<=b:=λb hb=>((hex b (by simp [hb])).2).resolve_right eH;obtain ⟨x',st3,g3,hG,h7,hvx⟩:=vU (w:=w') res hM2 (hvr.plain (F':=g.F) hpl) (List.nodup_append.1 hnd).1 (λb hb=>by
   obtain ⟨h8,h9,h10⟩:=uV hM (hbv b hb);exact ⟨h8,h9,h10,.inl (zWH hM.sizes (hbv b hb))⟩) hr
  obtain ⟨rfl,rfl⟩:=fo h7;exact ⟨g3,hG.mem,hvx,hE2.trans hG.ext,hG.tm⟩
def Xw(P:Program)(f:FuncId)(args:List V)(off:Nat)(outs:List (List C)):Prop :=
 qn P f/\∀ (w:World) (F:Nat->Prop) (vs:List Value) (bs:List Nat),(∀ b,F b->b < w.heap.size)->Db w F args vs bs->bs.Nodup->(∀ b∈bs,¬ F b)->PW P w (λb=>b∈bs) ->
  Calls P f vs.toArray w λe w'=>∃ v F' bo b0,e=.returned v/\vs.head?=some (.pointer (some ⟨b0,0,none⟩))/\v=.pointer (some ⟨b0,off,none⟩)/\su w w'/\(∀ b,b < w.heap.size->b∉bs->w'.heap[b]?=w.heap[b]?)/\(∀ b,F b->F' b) /\
   (∀ b,F' b->b < w'.heap.size/\(b < w.heap.size->F b\/b∈bs)/\(F b\/Wr w' b))/\qm w' F' args vs outs bo/\bo.Nodup/\∀ b∈bo,¬ F' b/\(w.heap.size<=b\/b∈bs)
theorem Sq{n d f:Nat}{m:Bool}{p:Nat->Bool}{o:Oper}{xf:Operand}{args:Array Operand}{ts:Array TypeId}{caps sr:List A}{vs:List V}{st1:St}{outs:List (List C)}{x:A}{s off:Nat}
  (hS:jq E g n st a w) (ho:o.op=.call { callee:=.value xf,args,argTypes:=ts }) (hf:st.eval xf=some (.clo f caps)) (mj:dx (args.toList.map st.eval)=some sr)
  (hp:(lp m p (sr++caps) MA.ret).run st=some (vs,st1)) (hc:Xw P f vs off outs) (hhd:(sr++caps).head?=some (.obj s 0)) (hr:(dK d (d7 (sr++caps)) outs (MA.ret (.obj s off))).run st1=some (x,st')) :
  yk P o a w λv w'=>∃ g',yi E g st w x st' v g' w':=by
 have hM:=hS.mem;obtain ⟨hcl,hcc⟩:=hc;have hvf:=bU hS hf;generalize hvv:a.eval xf=vf at hvf
 cases hvf with
 | clo f caps vcaps hl hx =>
  refine jL ho hvv hcl ?_;obtain ⟨ha1,ha2⟩:=AG hS mj;have hus:∀ (j:Nat) (y:A),(sr++caps)[j]?=some y->∃ v,(args.toList.map a.eval++vcaps)[j]?=some v/\VR w g st.O st.R y v:=by
   intro j y hj;rw [zWq] at hj
   split at hj
   ·rename_i hlt;have hlt':j < (args.toList.map a.eval).length:=by rw [<- ha1]; exact hlt
    exact ⟨_,by rw [zQW hlt']; exact sX hlt',ha2 j y _ hj (sX hlt')⟩
   ·rename_i hge;have hlt:j - sr.length < vcaps.length:=by rw [<- hl]; exact (aaa.1 hj).1
    exact ⟨_,by rw [zQV V1,<- ha1]; exact sX hlt,hx _ y _ hj (sX hlt)⟩
  obtain ⟨cs,st1',g1,bs,hM1,hE1,hL1,h1,hVV,hT,hA,hsl⟩:=vT (vs:=args.toList.map a.eval++vcaps) (sr++caps) hM Xk hus hp;obtain ⟨rfl,rfl⟩:=fo h1;have hbsX:∀ b∈bs,b < E.w0.heap.size->E.X b:=λb hb hlt=>by
   rcases hT.of b hb with ⟨r,h2,_,h4⟩ | ⟨s,⟨c,cs,h2⟩,_,h4⟩
   ·rcases (hM.row_nf h2 h4).2 with h5 | h5
    ·omega
    ·exact h5
   ·rcases (hM.ob_nf (s:=s) Xb).2 with h5 | h5
    ·omega
    ·exact h4 ▸ h5
  refine (hcc w g1.F _ bs (λb hb=>(hM1.F b hb).1) hVV hT.nodup hT.nf (hM.tbW λb h1 h2 _ h3=>h2 (hbsX b h3 h1))).mono λe w' ⟨v,F',bo,b0,he,hhead,hveq,hcalm,hsame,hFF,hF',hO,hnd0,hex0⟩=>⟨v,he,?_⟩;obtain ⟨bv,hbv⟩:∃ bv:List Nat,bv=[]:=⟨[],rfl⟩;have hnd:(bv++bo).Nodup:=by rw [hbv]; exact hnd0
  have hex:∀ b∈bv++bo,¬ F' b/\(w.heap.size<=b\/b∈bs):=by rw [hbv]; exact hex0
  -- the caller's memory behind the call
  have hbsrow:∀ b∈bs,∀ r,st1.L r->(g1.rw r).ownBlock≠some b:=λb hb r hr he=>by
   rw [hL1.rw] at he;rcases hT.of b hb with ⟨r',h2,h3,h4⟩ | ⟨s,⟨c,cs,h2⟩,_,h4⟩
   ·exact h3 (hM.rowne r r' b (hL1.L r hr) h2 he h4 ▸ hr)
   ·exact hM.rowob r s (hL1.L r hr) Xb (h4 ▸ he)
  have hbsob:∀ b∈bs,∀ s,st1.O s->g1.ob s=b->st1.ob s=some []/\s∈d7 (sr++caps):=λb hb s hs he=>by
   rw [hL1.ob] at he;have hs':st.O s:=(hL1.O s).1 hs;rcases hT.of b hb with ⟨r',h2,h3,h4⟩ | ⟨s',⟨c,cs,h2⟩,h3,h4⟩
   ·exact absurd (he ▸ h4) (hM.rowob r' s h2 hs')
   ·have:=hM.obne s s' hs' Xb (he.trans h4.symm);subst this;exact ⟨h3,hsl s YK⟩
  have hF0:∀ b,b < w.heap.size->F' b->g1.F b\/b∈bs:=λb h2 h3=>(hF' b h3).2.1 h2;have hA1:qo g1 (sr++caps) vs (args.toList.map a.eval++vcaps):=hA.congr' hL1.ob;have hexF:∀ b∈bs,F' b->False\/True:=λ_ _ _=>.inr trivial;have hlentF:∀ s,s∈d7 (sr++caps)->g1.ob s∈bo:=qm.mem hA1 hO;obtain ⟨hM2,hE2⟩:=hM1.step (w':=w') (g':={ g1 with F:=F' }) (st':=st1) hcalm (λb=>b∈bs) (λb h2 h3=>hsame b h2 h3) (λb hb=>hT.nf b hb) (λb h2 h3=>hbsX b h3 h2) hFF
   (λb h2 h3=>⟨(hF' b h2).1,λhlt=>(hF0 b (zQh hlt hM1.sizes) h2).elim (λh4=>absurd h4 h3) (λh4=>.inr (hbsX b h4 hlt)),.inr ((hF' b h2).2.2.resolve_left h3)⟩) (λ_ h=>⟨h,rfl⟩) (λ_ h=>⟨h,rfl⟩)
   (λs cells hs=>by
    have hOs:st1.O s:=by simp [St.O,hs]
    by_cases hb:g1.ob s∈bs
    ·obtain ⟨h5,h6⟩:=hbsob _ hb s hOs rfl;rw [hs] at h5
     cases h5
     obtain ⟨arr,e,hh⟩:=Em hA1 hO s h6;refine .inr ⟨arr,e,hh,by simp,by simp,?_,(hM1.ob_nf hOs).2⟩;exact (hex _ (aac.2 (.inr (hlentF s h6)))).1
    ·refine .inl ⟨hs,hb,λhf=>?_⟩;rcases hF0 _ (hM1.ob_lt hOs) hf with h5 | h5
     ·exact (hM1.ob_nf hOs).1 h5
     ·exact hb h5) hM1.obne
   (λr x hr=>.inl ⟨hr,λhL b hb=>⟨λhm=>hbsrow b hm r hL hb,λhf=>by
    rcases hF0 b (hM1.row_lt hL hb) hf with h5 | h5
    ·exact (hM1.row_nf hL hb).1 h5
    ·exact hbsrow b h5 r hL hb⟩⟩) hM1.rowne hM1.rowob
  have hI:Inv E { g1 with F:=F' } st1 (d7 (sr++caps)) (bo++bv):=by
   have hm:∀ x,x∈bo++bv->x∈bv++bo:=λx hx=>by
    rcases aac.1 hx with h | h <;> simp [h]
   refine ⟨?_,λb hb=>(hex b (hm b hb)).1,λb hb=>?_,λb hb r hr he=>?_,λb hb s hs he=>?_⟩
   ·rw [zXw] at hnd ⊢;exact ⟨hnd.2.1,hnd.1,λx hx y hy h=>hnd.2.2 y hy x hx h.symm⟩
   ·rcases (hex b (hm b hb)).2 with h5 | h5
    ·exact .inl (zWH hM1.sizes h5)
    ·by_cases hlt:b < E.w0.heap.size
     ·exact .inr (hbsX b h5 hlt)
     ·exact .inl ar
   ·rcases (hex b (hm b hb)).2 with h5 | h5
    ·exact absurd (hM1.row_lt hr he) ar
    ·exact hbsrow b h5 r hr he
   ·rcases (hex b (hm b hb)).2 with h5 | h5
    ·exact absurd (hM1.ob_lt hs) YL
    ·exact (hbsob b h5 s hs he).2
  have hA2:qo { g1 with F:=F' } (sr++caps) vs (args.toList.map a.eval++vcaps):=hA1.congr' (g:=g1) (g1:={ g1 with F:=F' }) rfl;obtain ⟨st2,g2,hM3,hE3,hF3,ht3,h6,hI3⟩:=q8 (w:=w') hM2 hA2 hO hI hr;obtain ⟨rfl,rfl⟩:=fo h6;have hext:=(hE1.trans hE2).trans hE3;have hobj:st.O s/\(args.toList.map a.eval++vcaps)[0]?=some (.pointer (some ⟨g.ob s,0,none⟩)):=by
   obtain ⟨u,hu1,hu2⟩:=hus 0 (.obj s 0) (by rw [<- List.head?_eq_getElem?]; exact hhd)
   cases hu2 with
   | obj _ _ hs=>exact ⟨hs,hu1⟩
  have hb0:g.ob s=b0:=by
   rw [List.head?_eq_getElem?,hobj.2] at hhead;injection hhead with h; injection h with h; injection h with h; injection h
  obtain ⟨hO2,hob2⟩:=hext.O s hobj.1;refine ⟨g2,hM3,?_,hext,ht3.trans hL1.tm⟩;rw [hveq,<- hb0,<- hob2];exact .obj s off hO2
def n6(P:Program)(f:FuncId)(args:List V)(res:V):Prop :=
 qn P f/\∀ (w:World) (D:Nat->Prop) (vs:List Value),(∀ b,D b->b < w.heap.size)->Db w D args vs []->PW P w (λ_=>False) ->
  Calls P f vs.toArray w λe w'=>∃ v F' bv,e=.returned v/\su w w'/\(∀ b,b < w.heap.size->w'.heap[b]?=w.heap[b]?) /\
   (∀ b,F' b->b < w'.heap.size/\w.heap.size<=b/\Wr w' b)/\VV w' F' res v bv/\bv.Nodup/\∀ b∈bv,¬ F' b/\w.heap.size<=b
theorem Sr{n d f:Nat}{o:Oper}{xf:Operand}{args:Array Operand}{ts:Array TypeId}{caps sr:List A}{vs:List V}{res:V}{x:A}
  (hS:jq E g n st a w) (ho:o.op=.call { callee:=.value xf,args,argTypes:=ts }) (hf:st.eval xf=some (.clo f caps)) (mj:dx (args.toList.map st.eval)=some sr)
  (hp:(d8 (sr++caps) MA.ret).run st=some (vs,st)) (hc:n6 P f vs res) (hr:(V.toA d (gj d 0) res MA.ret).run st=some (x,st')) :
  yk P o a w λv w'=>∃ g',yi E g st w x st' v g' w':=by
 have hM:=hS.mem;obtain ⟨hcl,hcc⟩:=hc;have hvf:=bU hS hf;generalize hvv:a.eval xf=vf at hvf
 cases hvf with
 | clo f caps vcaps hl hx =>
  refine jL ho hvv hcl ?_;obtain ⟨ha1,ha2⟩:=AG hS mj;obtain ⟨cs,h1,hVV⟩:=vV (vs:=args.toList.map a.eval++vcaps) (sr++caps) hM Xk (λj y hj=>by
   rw [zWq] at hj
   split at hj
   ·rename_i hlt;have hlt':j < (args.toList.map a.eval).length:=by rw [<- ha1]; exact hlt
    exact ⟨_,by rw [zQW hlt']; exact sX hlt',ha2 j y _ hj (sX hlt')⟩
   ·rename_i hge;have hlt:j - sr.length < vcaps.length:=by rw [<- hl]; exact (aaa.1 hj).1
    exact ⟨_,by rw [zQV V1,<- ha1]; exact sX hlt,hx _ y _ hj (sX hlt)⟩) hp
  obtain ⟨rfl,_⟩:=fo h1;refine (hcc w (g.all st) _ (λb hb=>hM.all_lt hb) hVV (hM.tbW λ_ _ _ _ h=>h)).mono λe w' ⟨v,F',bv,he,hcalm,hsame,hF',hvr,hnd,hex⟩=>⟨v,he,?_⟩;obtain ⟨hM2,hE2⟩:=hM.step (w':=w') (g':={ g with F:=λb=>g.F b\/F' b }) (st':=st) hcalm (λ_=>False) (λb h1 _=>hsame b h1) (λ_ h=>h.elim) (λ_ _ h=>h.elim) (λ_ h=>.inl h)
   (λb h1 h2=>by
    obtain ⟨h3,h4,h5⟩:=hF' b (h1.resolve_left h2);exact ⟨h3,λhlt=>(by have:=hM.sizes; omega),.inr h5⟩) (λ_ h=>⟨h,rfl⟩) (λ_ h=>⟨h,rfl⟩)
   (λs cells hs=>.inl ⟨hs,id,λhf=>by
    have hs':st.O s:=by simp [St.O,hs]
    rcases hf with hf | hf
    ·exact (hM.ob_nf hs').1 hf
    ·have:=hM.ob_lt hs'; have:=(hF' _ hf).2.1; omega⟩) hM.obne
   (λr x hr=>.inl ⟨hr,λhL b hb'=>⟨id,λhf=>by
    rcases hf with hf | hf
    ·exact (hM.row_nf hL hb').1 hf
    ·have:=hM.row_lt hL hb'; have:=(hF' _ hf).2.1; omega⟩⟩) hM.rowne hM.rowob
  obtain ⟨x',st3,g3,hG,h7,hvx⟩:=vU (w:=w') res hM2 (hvr.mono (λ_ _=>rfl) (λ_ h=>.inr h) (λ_ _=>rfl)) hnd (λb hb=>by
   obtain ⟨h8,h9,h10⟩:=uV hM (hex b hb).2;exact ⟨λh=>h.elim h8 (hex b hb).1,h9,h10,.inl (zWH hM.sizes (hex b hb).2)⟩) hr
  obtain ⟨rfl,rfl⟩:=fo h7;exact ⟨g3,hG.mem,hvx,hE2.trans hG.ext,hG.tm⟩
def P6:Nat->Prop:=λ_=>False
def gM(w:World)(D:Nat->Prop):Gh:={ F:=P6,ob:=λ_=>0,rw:=λ_=>.nilFunc,D:=D,dw:=w,sh:=true }
def A.mk1:A->Bool
 | .t x=>x.sc
 | .ext true _=>true
 | .undef=>true
 | _=>false
def A.mk:A->Bool
 | .agg l=>l.all A.mk1
 | a=>a.mk1
def A.isX:A->Bool
 | .ext true _=>true
 | _=>false
def A.hasX:A->Bool
 | .agg l=>l.any A.isX
 | a=>a.isX
def MOK(P:Program)(f:FuncId)(sr:List A)(n:T):Prop :=
 n.sc=true/\qn P f/\∀ (w:World) (D:Nat->Prop) (vs:List Value),(∀ b,D b->b < w.heap.size/\Wr w b)->vs.length=sr.length ->
  (∀ (j:Nat) (x:A),sr[j]?=some x->∃ u,vs[j]?=some u/\VR w (gM w D) P6 P6 x u)->PW P w D ->
  Calls P f vs.toArray w λe w'=>∃ v,e=.returned v/\Rd w' P6 n v/\su w w'/\(∀ b,b < w.heap.size->¬ D b->w'.heap[b]?=w.heap[b]?)/\∀ b,D b->KS w w' b
theorem Xx{O R:Nat->Prop}{x:A}{v:Value}(hM:fm E g st w)(hs:g.sh=true)(h:VR w g O R x v)(hk:x.mk1=true):VR w (gM w g.D) P6 P6 x v:=by
 cases h with
 | t x v h=>exact .t x v (h.sc hk)
 | ext s x v hs' h =>
  rw [hs] at hs';subst hs';exact .ext true x v rfl (h.ks λb hb=>hM.nowK hs hb)
 | undef v=>exact .undef v
 | _=>simp [A.mk1] at hk
theorem qa0{O R:Nat->Prop}{x:A}{v:Value}(hM:fm E g st w)(hs:g.sh=true)(h:VR w g O R x v)(hk:x.mk=true):VR w (gM w g.D) P6 P6 x v:=by
 cases x with
 | agg l =>
  cases h with
  | agg l vs hl h=>exact .agg l vs hl λi x v hi hv=>Xx hM hs (h i x v hi hv) (aae.1 hk x (zQY hi))
 | _=>exact Xx hM hs h hk
theorem Y3{O R:Nat->Prop}{x:A}{v:Value}(h:VR w g O R x v)(hk:x.hasX=true):g.sh=true:=by
 have key:∀ {x:A} {v:Value},VR w g O R x v->x.isX=true->g.sh=true:=by
  intro x v h hk
  cases h with
  | ext s x v hs' h=>cases s with
   | true=>exact hs'
   | false=>cases hk
  | _=>cases hk
 cases x with
 | agg l =>
  cases h with
  | agg l vs hl h =>
   obtain ⟨x,hx,hk⟩:=List.any_eq_true.1 hk;obtain ⟨i,hi⟩:=zZQ hx;have hlt:i < vs.length:=by rw [<- hl]; exact (aaa.1 hi).1
   exact key (h i x _ hi (sX hlt)) hk
 | _=>exact key h hk
theorem Ss{n f:Nat}{o:Oper}{xf:Operand}{args:Array Operand}{ts:Array TypeId}{sr:List A}{r:T}
  (hS:jq E g n st a w) (ho:o.op=.call { callee:=.value xf,args,argTypes:=ts }) (hf:st.eval xf=some (.clo f [])) (mj:dx (args.toList.map st.eval)=some sr)
  (hk:sr.all A.mk=true) (hx:sr.any A.hasX=true) (hc:MOK P f sr r):yk P o a w λv w'=>∃ g',yi E g st w (.t r) st v g' w':=by
 have hM:=hS.mem;obtain ⟨hsc,hcl,hcc⟩:=hc;have hvf:=bU hS hf;generalize hvv:a.eval xf=vf at hvf;obtain ⟨ha1,ha2⟩:=AG hS mj;have hsh:g.sh=true:=by
  obtain ⟨x,hxm,hxx⟩:=List.any_eq_true.1 hx;obtain ⟨i,hi⟩:=zZQ hxm;have hlt:i < (args.toList.map a.eval).length:=by rw [<- ha1]; exact (aaa.1 hi).1
  exact Y3 (ha2 i x _ hi (sX hlt)) hxx
 cases hvf with
 | clo f caps vcaps hl hx' =>
  have:vcaps=[]:=zQQ hl.symm;subst this;refine jL ho hvv hcl ?_;rw [zXH];refine (hcc w g.D (args.toList.map a.eval) (λb hb=>?_) ha1.symm (λj x hj=>?_) (hM.tbW λb _ _ h h2=>h (by obtain ⟨h5,_,h6⟩:=hM.dep0.1; exact ⟨h6 ▸ hsh,h5 ▸ h2⟩))).mono λe w' ⟨v,he,hr,hcalm,hsame,hks⟩=>⟨v,he,?_⟩
  ·exact ⟨zQh (hM.dep b hb).2.1 hM.sizes,(hM.nowK hsh hb).wr⟩
  ·have hlt:j < (args.toList.map a.eval).length:=by rw [<- ha1]; exact (aaa.1 hj).1
   exact ⟨_,sX hlt,qa0 hM hsh (ha2 j x _ hj (sX hlt)) (aae.1 hk x (zQY hj))⟩
  obtain ⟨hM2,hE2⟩:=hM.stepD hsh hcalm hsame hks;exact ⟨g,hM2,.t _ _ (hr.sc hsc),hE2,rfl⟩
def ROK(P:Program)(f:FuncId)(e sz:Nat)(rows:List (List T))(args:List V)(res:T)(rows':List (List T)):Prop :=
 res.sc=true/\qn P f/\∀ (w:World) (F:Nat->Prop) (v:Value) (vs:List Value) (inner:List Value),(∀ b,F b->b < w.heap.size)->w.ownsRow 0 e sz v rows.length inner->BY w F sz rows inner ->
  (∀ b,v.ownBlock=some b->¬ F b)->Db w F args vs []->PW P w (λb=>v.ownBlock=some b) ->
  Calls P f (v :: vs).toArray w λex w'=>∃ u inner',ex=.returned u/\Rd w' P6 res u/\su w w'/\(∀ b,b < w.heap.size->v.ownBlock≠some b->w'.heap[b]?=w.heap[b]?) /\
   w'.ownsRow 0 e sz v rows'.length inner'/\BY w' F sz rows' inner'
theorem Su{n f r e sz:Nat}{rows rows':List (List T)}{o:Oper}{xf:Operand}{args:Array Operand}{ts:Array TypeId}{sr:List A}{vs:List V}{res:T}
  (hS:jq E g n st a w) (ho:o.op=.call { callee:=.value xf,args,argTypes:=ts }) (hf:st.eval xf=some (.clo f [])) (mj:dx (args.toList.map st.eval)=some (.own r :: sr))
  (hrw:st.rw r=some (.live e sz rows)) (hp:(d8 sr MA.ret).run st=some (vs,st)) (hpl:uW vs) (hc:ROK P f e sz rows vs res rows') :
  yk P o a w λv w'=>∃ g',yi E g st w (.t res) { st with rw:=eI st.rw r (some (.live e sz rows')) } v g' w':=by
 have hM:=hS.mem;obtain ⟨hsc,hcl,hcc⟩:=hc;have hvf:=bU hS hf;generalize hvv:a.eval xf=vf at hvf;obtain ⟨ha1,ha2⟩:=AG hS mj;have hL:st.L r:=⟨e,sz,rows,hrw⟩
 cases hvf with
 | clo f caps vcaps hl hx' =>
  have:vcaps=[]:=zQQ hl.symm;subst this;refine jL ho hvv hcl ?_;rw [zXH];generalize args.toList.map a.eval=us at ha1 ha2
  match us,ha1 with
  | u0 :: us,ha1 =>
   have h0:=ha2 0 (.own r) u0 rfl rfl
   cases h0 with
   | own _ hR =>
   obtain ⟨cs,h1,hVV⟩:=vV (vs:=us) sr hM (by simpa using ha1.symm) (λj y hj=>by
    have hlt:j < us.length:=by
     have:=(aaa.1 hj).1;simp at ha1; omega
    exact ⟨_,sX hlt,ha2 (j+1) y _ O7 eH⟩) hp
   obtain ⟨rfl,_⟩:=fo h1;obtain ⟨inner,hown,hRC,_⟩:=(hM.row r _ hrw).rcs;refine (hcc w g.F (g.rw r) us inner (λb hb=>(hM.F b hb).1) hown hRC (λb hb=>(hM.row_nf hL hb).1) (hVV.plain hpl) (hM.tbW λb h1 h2 _ h3=>(hM.row_nf hL h3).2.elim (λh=>absurd h1 (Nat.not_lt.2 h)) h2)).mono λex w' ⟨u,inner',he,hu,hcalm,hsame,hown',hRC'⟩=>⟨u,he,?_⟩;obtain ⟨hM2,hE2⟩:=hM.set_row hcalm r _ e sz rows' hrw hL hsame (hRC'.rowAt (E:=E) (g:=g) hown' (λb hb=>hM.row_nf hL hb));exact ⟨g,hM2,.t _ _ (hu.sc hsc),hE2,rfl⟩
end
section
variable {P:Program} {E:En} [Tb P E] {g:Gh} {st st':St} {a:Act} {w:World}
def TY(P:Program)(f:FuncId)(args xs:List V)(res:V)(outs:List (List C)):Prop :=
 qn P f/\∀ (w:World) (F D:Nat->Prop) (vs us:List Value) (bs:List Nat),(∀ b,F b->b < w.heap.size)->(∀ b,D b->b < w.heap.size/\b∉bs)->Db w F args vs bs->Db w D xs us []->bs.Nodup->(∀ b∈bs,¬ F b)->PW P w (λb=>b∈bs) ->
  Calls P f (vs++us).toArray w λe w'=>∃ v F' bv bo,e=.returned v/\su w w'/\(∀ b,b < w.heap.size->b∉bs->w'.heap[b]?=w.heap[b]?)/\(∀ b,F b->F' b) /\
   (∀ b,F' b->b < w'.heap.size/\(b < w.heap.size->F b\/b∈bs)/\(F b\/Wr w' b))/\VV w' F' res v bv/\qm w' F' args vs outs bo/\(bv++bo).Nodup/\∀ b∈bv++bo,¬ F' b/\(w.heap.size<=b\/b∈bs)
theorem Sv{n d f:Nat}{m:Bool}{p:Nat->Bool}{o:Oper}{xf:Operand}{args:Array Operand}{ts:Array TypeId}{az caps sr xs:List A}{vs us:List V}{st1:St}{res:V}{outs:List (List C)}{x:A}
  (hS:jq E g n st a w) (ho:o.op=.call { callee:=.value xf,args,argTypes:=ts }) (hf:st.eval xf=some (.clo f caps)) (mj:dx (args.toList.map st.eval)=some az) (hcat:az++caps=sr++xs)
  (hp:(lp m p sr MA.ret).run st=some (vs,st1)) (hq:(d8 xs MA.ret).run st1=some (us,st1)) (hc:TY P f vs us res outs) (hr:(dK d (d7 sr) outs (V.toA d (gj d 0) res MA.ret)).run st1=some (x,st')) :
  yk P o a w λv w'=>∃ g',yi E g st w x st' v g' w':=by
 have hM:=hS.mem;obtain ⟨hcl,hcc⟩:=hc;have hvf:=bU hS hf;generalize hvv:a.eval xf=vf at hvf
 cases hvf with
 | clo f caps vcaps hl hx =>
  refine jL ho hvv hcl ?_;obtain ⟨ha1,ha2⟩:=AG hS mj;generalize hval:args.toList.map a.eval++vcaps=vals;have hv:∀ (j:Nat) (y:A),(sr++xs)[j]?=some y->∃ u,vals[j]?=some u/\VR w g st.O st.R y u:=λj y hj=>by
   rw [<- hcat,zWq] at hj;rw [<- hval]
   split at hj
   ·rename_i hlt;have hlt':j < (args.toList.map a.eval).length:=by rw [<- ha1]; exact hlt
    exact ⟨_,by rw [zQW hlt']; exact sX hlt',ha2 j y _ hj (sX hlt')⟩
   ·rename_i hge;have hlt:j - az.length < vcaps.length:=by rw [<- hl]; exact (aaa.1 hj).1
    exact ⟨_,by rw [zQV V1,<- ha1]; exact sX hlt,hx _ y _ hj (sX hlt)⟩
  have hvl:vals.length=sr.length+xs.length:=by
   rw [<- hval,zQG,<- ha1,<- hl,<- zQG,hcat,zQG]
  rw [<- zYY sr.length vals];obtain ⟨cs,st1',g1,bs,hM1,hE1,hL1,h1,hVV,hT,hA,hsl⟩:=vT (vs:=vals.take sr.length) sr hM (by simp [hvl]) (λj y hj=>by
   have hlt:j < sr.length:=(aaa.1 hj).1;obtain ⟨u,h5,h6⟩:=hv j y (by rw [zQW hlt]; exact hj);exact ⟨u,by rw [zQw,if_pos hlt]; exact h5,h6⟩) hp
  obtain ⟨rfl,rfl⟩:=fo h1;have hbsX:∀ b∈bs,b < E.w0.heap.size->E.X b:=λb hb hlt=>by
   rcases hT.of b hb with ⟨r,h2,_,h4⟩ | ⟨s,⟨c,cs,h2⟩,_,h4⟩
   ·rcases (hM.row_nf h2 h4).2 with h5 | h5
    ·omega
    ·exact h5
   ·rcases (hM.ob_nf (s:=s) Xb).2 with h5 | h5
    ·omega
    ·exact h4 ▸ h5
  have hbsrow:∀ b∈bs,∀ r,st1.L r->(g1.rw r).ownBlock≠some b:=λb hb r hr he=>by
   rw [hL1.rw] at he;rcases hT.of b hb with ⟨r',h2,h3,h4⟩ | ⟨s,⟨c,cs,h2⟩,_,h4⟩
   ·exact h3 (hM.rowne r r' b (hL1.L r hr) h2 he h4 ▸ hr)
   ·exact hM.rowob r s (hL1.L r hr) Xb (h4 ▸ he)
  have hbsob:∀ b∈bs,∀ s,st1.O s->g1.ob s=b->st1.ob s=some []/\s∈d7 sr:=λb hb s hs he=>by
   rw [hL1.ob] at he;have hs':st.O s:=(hL1.O s).1 hs;rcases hT.of b hb with ⟨r',h2,h3,h4⟩ | ⟨s',⟨c,cs,h2⟩,h3,h4⟩
   ·exact absurd (he ▸ h4) (hM.rowob r' s h2 hs')
   ·have:=hM.obne s s' hs' Xb (he.trans h4.symm);subst this;exact ⟨h3,hsl s YK⟩
  obtain ⟨us',h9,hUU⟩:=vV (vs:=vals.drop sr.length) xs hM1 (by simp [hvl]) (λj y hj=>by
   obtain ⟨u,h5,h6⟩:=hv (sr.length+j) y (by rw [zQV ar]; simpa using hj);exact ⟨u,by rw [zQH]; exact h5,h6.mono hE1⟩) hq
  obtain ⟨rfl,_⟩:=fo h9;have hall:∀ b,g1.all st1 b->b < w.heap.size/\b∉bs:=λb hb=>⟨hM1.all_lt hb,λhbs=>by
   rcases hb with h5 | ⟨r,h5,h6⟩ | ⟨_,h5⟩
   ·exact hT.nf b hbs h5
   ·exact hbsrow b hbs r h5 h6
   ·obtain ⟨_,h6,h7,_⟩:=hM1.dep b h5;exact h7 (hbsX b hbs h6)⟩
  refine (hcc w g1.F (g1.all st1) _ _ bs (λb hb=>(hM1.F b hb).1) hall hVV hUU hT.nodup hT.nf (hM.tbW λb h1 h2 _ h3=>h2 (hbsX b h3 h1))).mono λe w' ⟨v,F',bv,bo,he,hcalm,hsame,hFF,hF',hvr,hO,hnd,hex⟩=>⟨v,he,?_⟩
  -- the caller's memory behind the call
  have hF0:∀ b,b < w.heap.size->F' b->g1.F b\/b∈bs:=λb h2 h3=>(hF' b h3).2.1 h2;have hA1:qo g1 sr vs (vals.take sr.length):=hA.congr' hL1.ob;have hexF:∀ b∈bs,F' b->False\/True:=λ_ _ _=>.inr trivial;have hlentF:∀ s,s∈d7 sr->g1.ob s∈bo:=qm.mem hA1 hO;obtain ⟨hM2,hE2⟩:=hM1.step (w':=w') (g':={ g1 with F:=F' }) (st':=st1) hcalm (λb=>b∈bs) (λb h2 h3=>hsame b h2 h3) (λb hb=>hT.nf b hb) (λb h2 h3=>hbsX b h3 h2) hFF
   (λb h2 h3=>⟨(hF' b h2).1,λhlt=>(hF0 b (zQh hlt hM1.sizes) h2).elim (λh4=>absurd h4 h3) (λh4=>.inr (hbsX b h4 hlt)),.inr ((hF' b h2).2.2.resolve_left h3)⟩) (λ_ h=>⟨h,rfl⟩) (λ_ h=>⟨h,rfl⟩)
   (λs cells hs=>by
    have hOs:st1.O s:=by simp [St.O,hs]
    by_cases hb:g1.ob s∈bs
    ·obtain ⟨h5,h6⟩:=hbsob _ hb s hOs rfl;rw [hs] at h5
     cases h5
     obtain ⟨arr,e,hh⟩:=Em hA1 hO s h6;refine .inr ⟨arr,e,hh,by simp,by simp,?_,(hM1.ob_nf hOs).2⟩;exact (hex _ (aac.2 (.inr (hlentF s h6)))).1
    ·refine .inl ⟨hs,hb,λhf=>?_⟩;rcases hF0 _ (hM1.ob_lt hOs) hf with h5 | h5
     ·exact (hM1.ob_nf hOs).1 h5
     ·exact hb h5) hM1.obne
   (λr x hr=>.inl ⟨hr,λhL b hb=>⟨λhm=>hbsrow b hm r hL hb,λhf=>by
    rcases hF0 b (hM1.row_lt hL hb) hf with h5 | h5
    ·exact (hM1.row_nf hL hb).1 h5
    ·exact hbsrow b h5 r hL hb⟩⟩) hM1.rowne hM1.rowob
  have hI:Inv E { g1 with F:=F' } st1 (d7 sr) (bo++bv):=by
   have hm:∀ x,x∈bo++bv->x∈bv++bo:=λx hx=>by
    rcases aac.1 hx with h | h <;> simp [h]
   refine ⟨?_,λb hb=>(hex b (hm b hb)).1,λb hb=>?_,λb hb r hr he=>?_,λb hb s hs he=>?_⟩
   ·rw [zXw] at hnd ⊢;exact ⟨hnd.2.1,hnd.1,λx hx y hy h=>hnd.2.2 y hy x hx h.symm⟩
   ·rcases (hex b (hm b hb)).2 with h5 | h5
    ·exact .inl (zWH hM1.sizes h5)
    ·by_cases hlt:b < E.w0.heap.size
     ·exact .inr (hbsX b h5 hlt)
     ·exact .inl ar
   ·rcases (hex b (hm b hb)).2 with h5 | h5
    ·exact absurd (hM1.row_lt hr he) ar
    ·exact hbsrow b h5 r hr he
   ·rcases (hex b (hm b hb)).2 with h5 | h5
    ·exact absurd (hM1.ob_lt hs) YL
    ·exact (hbsob b h5 s hs he).2
  have hA2:qo { g1 with F:=F' } sr vs (vals.take sr.length):=hA1.congr' (g:=g1) (g1:={ g1 with F:=F' }) rfl;obtain ⟨st2,g2,hM3,hE3,hF3,ht3,h6,hI3⟩:=q8 (w:=w') hM2 hA2 hO hI hr;obtain ⟨x',st3,g3,hG,h7,hvx⟩:=vU (w:=w') res hM3 (by rw [hF3]; exact hvr) hI3.nodup (λb hb=>⟨hI3.F b hb,λs hs he=>by have:=hI3.ob b hb s hs he; simp at this,hI3.row b hb,hI3.X b hb⟩) h6;obtain ⟨rfl,rfl⟩:=fo h7;exact ⟨g3,hG.mem,hvx,((hE1.trans hE2).trans hE3).trans hG.ext,hG.tm.trans (ht3.trans hL1.tm)⟩
end
def A.tC:A->Option C
 | .t x=>some (.t x)
 | _=>none
def Vr:List A->Option (List C)
 | []=>some []
 | a :: r=>match a.tC,Vr r with | some c,some cs=>some (c :: cs) | _,_=>none
def A.tV:A->Option V
 | .t x=>some (.one (.t x))
 | .agg l=>(Vr l).map .agg
 | _=>none
def Sw:List A->Option (List V)
 | []=>some []
 | a :: r=>match a.tV,Sw r with | some c,some cs=>some (c :: cs) | _,_=>none
section
variable {w:World} {g:Gh} {O R:Nat->Prop}
theorem qa1{a:A}{c:C}{u:Value}(h:a.tC=some c)(hv:VR w g O R a u):CV w g.F c u []:=by
 cases a <;> simp only [A.tC,Option.some.injEq,reduceCtorEq] at h
 subst h
 cases hv with
 | t _ _ h=>exact .t _ _ h
theorem Xy:∀ {l:List A} {cs:List C} {us:List Value},Vr l=some cs->l.length=us.length->(∀ (j:Nat) (x:A) (u:Value),l[j]?=some x->us[j]?=some u->VR w g O R x u)->Mb w g.F cs us []
 | [],cs,us,h,hl,_=>by
  cases h
  have:us=[]:=zQQ hl.symm;subst this;exact .nil
 | a :: l,cs,us,h,hl,hv=>by
  unfold Vr at h
  split at h
  ·rename_i c cs' h1 h2
   cases h
   cases us with
   | nil=>simp at hl
   | cons u us =>
    exact .cons c u [] cs' us [] (qa1 h1 (hv 0 a u rfl rfl)) (Xy h2 QH λj x u h3 h4=>hv (j+1) x u (by simpa using h3) (by simpa using h4))
  ·cases h
theorem qa2{a:A}{c:V}{u:Value}(h:a.tV=some c)(hv:VR w g O R a u):VV w g.F c u []:=by
 cases a <;> simp only [A.tV,Option.some.injEq,zWZ,reduceCtorEq] at h
 ·subst h
  cases hv with
  | t _ _ h=>exact .one _ _ [] (.t _ _ h)
 ·obtain ⟨cs,h1,rfl⟩:=h
  cases hv with
  | agg l vs hl hx=>exact .agg cs vs [] (Xy h1 hl hx)
theorem Xz:∀ {l:List A} {cs:List V} {us:List Value},Sw l=some cs->l.length=us.length->(∀ (j:Nat) (x:A) (u:Value),l[j]?=some x->us[j]?=some u->VR w g O R x u)->Db w g.F cs us []
 | [],cs,us,h,hl,_=>by
  cases h
  have:us=[]:=zQQ hl.symm;subst this;exact .nil
 | a :: l,cs,us,h,hl,hv=>by
  unfold Sw at h
  split at h
  ·rename_i c cs' h1 h2
   cases h
   cases us with
   | nil=>simp at hl
   | cons u us =>
    exact .cons c u [] cs' us [] (qa2 h1 (hv 0 a u rfl rfl)) (Xz h2 QH λj x u h3 h4=>hv (j+1) x u (by simpa using h3) (by simpa using h4))
  ·cases h
end
section
variable {P:Program} {E:En} [Tb P E] {g:Gh} {st st':St} {a:Act} {w:World}
def Z3(P:Program)(f:FuncId)(e:TypeId)(ts:List T)(rows:List (List T))(args:List V)(lo m:Nat):Prop :=
 qn P f/\∀ (w:World) (F:Nat->Prop) (v:Value) (us vs inner:List Value),(∀ b,F b->b < w.heap.size)->w.ownsRow 0 e 1 v rows.length inner->BY w F 1 rows inner->(∀ b,v.ownBlock=some b->¬ F b) ->
  us.length=ts.length->(∀ (j:Nat) (x:T) (u:Value),ts[j]?=some x->us[j]?=some u->Rd w F x u)->Db w F args vs []->PW P w (λb=>v.ownBlock=some b) ->
  Calls P f (Value.agg (us++[v]).toArray :: vs).toArray w λex w'=>∃ ad n c a' c' inner',v=.slice ad n c/\ex=.returned (.slice a' m c')/\lo+m<=n/\(0 < m->∃ b,ad=some ⟨b,0,none⟩/\a'=some ⟨b,lo,none⟩)/\su w w' /\
   (∀ b,b < w.heap.size->v.ownBlock≠some b->w'.heap[b]?=w.heap[b]?)/\w'.ownsRow 0 e 1 v rows.length inner'/\BY w' F 1 rows inner'
theorem Sy{n f r e lo m:Nat}{ts:List T}{rows:List (List T)}{o:Oper}{xf:Operand}{args:Array Operand}{tys:Array TypeId}{sr:List A}{vs:List V}
  (hS:jq E g n st a w) (ho:o.op=.call { callee:=.value xf,args,argTypes:=tys }) (hf:st.eval xf=some (.clo f [])) (mj:dx (args.toList.map st.eval)=some (.agg (ts.map A.t++[.own r]) :: sr))
  (hrw:st.rw r=some (.live e 1 rows)) (hp:Sw sr=some vs) (hc:Z3 P f e ts rows vs lo m) :
  yk P o a w λv w'=>∃ g',yi E g st w (.win r lo m) st v g' w':=by
 have hM:=hS.mem;obtain ⟨hcl,hcc⟩:=hc;have hvf:=bU hS hf;generalize hvv:a.eval xf=vf at hvf;obtain ⟨ha1,ha2⟩:=AG hS mj;have hL:st.L r:=⟨e,1,rows,hrw⟩
 cases hvf with
 | clo f caps vcaps hl hx' =>
  have:vcaps=[]:=zQQ hl.symm;subst this;refine jL ho hvv hcl ?_;rw [zXH];generalize args.toList.map a.eval=us at ha1 ha2
  match us,ha1 with
  | u0 :: us,ha1 =>
   have h0:=ha2 0 _ u0 rfl rfl
   cases h0 with
   | agg _ cells hcl hcx =>
    have hlen:cells.length=ts.length+1:=by rw [<- hcl]; simp
    obtain ⟨us0,v,hcells,hus⟩:∃ us0 v,cells=us0++[v]/\us0.length=ts.length:=⟨cells.take ts.length,cells[ts.length]'ar,by
     rw [show [cells[ts.length]'ar]=cells.drop ts.length by rw [zXY ar]; simp [List.drop_eq_nil_of_le (show cells.length<=ts.length+1 by omega)],zYY],by simp; omega⟩
    subst hcells;have hv:=hcx ts.length (.own r) v eH (by rw [<- hus]; simp)
    cases hv with
    | own _ hR =>
    have hVV:Db w g.F vs us []:=Xz hp (by simpa using ha1) λj x u h3 h4=>ha2 (j+1) x u (by simpa using h3) (by simpa using h4);have hts:∀ (j:Nat) (x:T) (u:Value),ts[j]?=some x->us0[j]?=some u->Rd w g.F x u:=λj x u h3 h4=>by
     have hlt:j < ts.length:=(aaa.1 h3).1;have:=hcx j (.t x) u (by rw [zQW V2]; simp [h3]) (by rw [zQW ar]; exact h4)
     cases this with
     | t _ _ h=>exact h
    obtain ⟨inner,hown,hRC,_⟩:=(hM.row r _ hrw).rcs;refine (hcc w g.F (g.rw r) us0 us inner (λb hb=>(hM.F b hb).1) hown hRC (λb hb=>(hM.row_nf hL hb).1) hus hts hVV (hM.tbW λb h1 h2 _ h3=>(hM.row_nf hL h3).2.elim (λh=>absurd h1 (Nat.not_lt.2 h)) h2)).mono λex w' ⟨ad,n',c,a',c',inner',hv,he,hm,hpp,hcalm,hsame,hown',hRC'⟩=>⟨_,he,?_⟩;obtain ⟨hM2,hE2⟩:=hM.set_row hcalm r _ e 1 rows hrw hL hsame (hRC'.rowAt (E:=E) (g:=g) hown' (λb hb=>hM.row_nf hL hb));rw [Ma hrw] at hM2 hE2;exact ⟨g,hM2,.win r lo m n' c c' ad a' hR hv hm hpp,hE2,rfl⟩
end
structure Ub where
 oR:Nat->Prop
 oW:Nat->Prop
 rR:Nat->Prop
 rW:Nat->Prop
def MA.In{α:Type}(D:Ub):MA α->Prop
 | .ret _=>True
 | .fail=>True
 | .getOb s k=>D.oR s/\∀ x,(k x).In D
 | .getRw r k=>D.rR r/\∀ x,(k x).In D
 | .setOb s _ k=>D.oW s/\k.In D
 | .setRw r _ k=>D.rW r/\k.In D
structure TZ (D:Ub) (st st':St):Prop where
 tm:st'.tm=st.tm
 ob:∀ s,¬ D.oW s->st'.ob s=st.ob s
 rw:∀ r,¬ D.rW r->st'.rw r=st.rw r
structure On (D:Ub) (st st':St):Prop where
 ob:∀ s,D.oR s->st'.ob s=st.ob s
 rw:∀ r,D.rR r->st'.rw r=st.rw r
structure Ub.ok (D:Ub):Prop where
 ob:∀ s,D.oW s->D.oR s
 rw:∀ s,D.rW s->D.rR s
theorem TZ.refl(D:Ub)(st:St):TZ D st st:=⟨rfl,λ_ _=>rfl,λ_ _=>rfl⟩
theorem TZ.trans{D:Ub}{a b c:St}(h:TZ D a b)(h':TZ D b c):TZ D a c :=
 ⟨h'.tm.trans h.tm,λs hs=>(h'.ob s hs).trans (h.ob s hs),λs hs=>(h'.rw s hs).trans (h.rw s hs)⟩
theorem Uc{α:Type}{f g:Nat->α}{k j:Nat}{c:α}(h:f j=g j):eI f k c j=eI g k c j:=by
 simp only [eI,h]
theorem nS{α:Type}{D:Ub}:∀ (m:MA α) {st st':St} {x:α},m.In D->m.run st=some (x,st') ->
  TZ D st st'/\∀ st2,On D st st2->∃ st2',m.run st2=some (x,st2')/\TZ D st2 st2'/\On D st' st2'
 | .ret v,st,st',x,_,h=>by
  obtain ⟨rfl,rfl⟩:=fo h;exact ⟨TZ.refl _ _,λst2 h2=>⟨st2,rfl,TZ.refl _ _,h2⟩⟩
 | .fail,st,st',x,_,h=>(aN h).elim
 | .getOb s k,st,st',x,hi,h=>by
  obtain ⟨h1,h2⟩:=nS (k (st.ob s)) (hi.2 _) h;refine ⟨h1,λst2 ho=>?_⟩;simp only [MA.run,ho.ob s hi.1];exact h2 st2 ho
 | .getRw s k,st,st',x,hi,h=>by
  obtain ⟨h1,h2⟩:=nS (k (st.rw s)) (hi.2 _) h;refine ⟨h1,λst2 ho=>?_⟩;simp only [MA.run,ho.rw s hi.1];exact h2 st2 ho
 | .setOb s c k,st,st',x,hi,h=>by
  simp only [MA.run] at h;obtain ⟨h1,h2⟩:=nS k hi.2 h;refine ⟨⟨h1.tm,λs' hs'=>?_,h1.rw⟩,λst2 ho=>?_⟩
  ·rw [h1.ob s' hs'];exact ci _ _ _ _ (λhe=>hs' (he ▸ hi.1))
  ·obtain ⟨st2',h3,h4,h5⟩:=h2 { st2 with ob:=eI st2.ob s (some c) } ⟨λs' hs'=>Uc (ho.ob s' hs'),ho.rw⟩;refine ⟨st2',h3,⟨h4.tm,λs' hs'=>?_,h4.rw⟩,h5⟩;rw [h4.ob s' hs'];exact ci _ _ _ _ (λhe=>hs' (he ▸ hi.1))
 | .setRw s c k,st,st',x,hi,h=>by
  simp only [MA.run] at h;obtain ⟨h1,h2⟩:=nS k hi.2 h;refine ⟨⟨h1.tm,h1.ob,λs' hs'=>?_⟩,λst2 ho=>?_⟩
  ·rw [h1.rw s' hs'];exact ci _ _ _ _ (λhe=>hs' (he ▸ hi.1))
  ·obtain ⟨st2',h3,h4,h5⟩:=h2 { st2 with rw:=eI st2.rw s (some c) } ⟨ho.ob,λs' hs'=>Uc (ho.rw s' hs')⟩;refine ⟨st2',h3,⟨h4.tm,h4.ob,λs' hs'=>?_⟩,h5⟩;rw [h4.rw s' hs'];exact ci _ _ _ _ (λhe=>hs' (he ▸ hi.1))
mutual
def A.inR(Q:Nat->Prop):A->Prop
 | .own r=>Q r
 | .elem r _ _ _=>Q r
 | .sub r _ _=>Q r
 | .win r _ _=>Q r
 | .agg l=>eW Q l
 | .tup l=>eW Q l
 | .clo _ l=>eW Q l
 | _=>True
def eW(Q:Nat->Prop):List A->Prop
 | []=>True
 | a :: r=>a.inR Q/\eW Q r
end
mutual
theorem Eo{Q:Nat->Prop}(h:∀ r,Q r):∀ a:A,a.inR Q
 | .own r=>by unfold A.inR; exact h r
 | .elem r _ _ _=>by unfold A.inR; exact h r
 | .sub r _ _=>by unfold A.inR; exact h r
 | .win r _ _=>by unfold A.inR; exact h r
 | .agg l=>by unfold A.inR; exact qp h l
 | .tup l=>by unfold A.inR; exact qp h l
 | .clo _ l=>by unfold A.inR; exact qp h l
 | .t _ | .nil | .obj _ _ | .fadr _ | .nn _ _ | .undef | .raw _ | .osl _ _ _ _ | .ext _ _ | .exa _ _ | .shp _=>by unfold A.inR; trivial
theorem qp{Q:Nat->Prop}(h:∀ r,Q r):∀ l:List A,eW Q l
 | []=>by unfold eW; trivial
 | a :: r=>by unfold eW; exact ⟨Eo h a,qp h r⟩
end
theorem MN{Q:Nat->Prop}:∀ {l:List A},eW Q l->∀ a∈l,a.inR Q
 | [],_,a,h=>by simp at h
 | x :: l,hl,a,h=>by
  unfold eW at hl;rcases aag.1 h with rfl | h
  ·exact hl.1
  ·exact MN hl.2 a h
theorem q9{Q:Nat->Prop}:∀ {l:List A},(∀ a∈l,a.inR Q)->eW Q l
 | [],_=>by unfold eW; trivial
 | x :: l,h=>by unfold eW; exact ⟨h x eH,q9 (λa ha=>h a (by simp [ha]))⟩
theorem B3{Q:Nat->Prop}{a:A}(h:a.inR Q):eW Q a.cells:=by
 cases a <;> simp only [A.cells] <;> first | (unfold A.inR at h; exact h) | (unfold eW; exact ⟨h,by unfold eW; trivial⟩)
section
variable {D:Ub} {α:Type}
theorem Ud{a:A}{k:T->MA α}(ha:a.inR λr=>D.rR r/\D.rW r)(hk:∀ x,(k x).In D):(a.toT k).In D:=by
 cases a <;> simp only [A.toT,MA.In] <;> first | exact hk _ | trivial | skip
 unfold A.inR at ha;refine ⟨ha.1,λx=>?_⟩;rcases x with _ | (_ | _ | _) <;> simp only [MA.In] <;> first | exact hk _ | exact ⟨ha.2,hk _⟩
theorem Ep:∀ {l:List A} {k:List T->MA α},eW (λr=>D.rR r/\D.rW r) l->(∀ x,(k x).In D)->(ln l k).In D
 | [],k,_,hk=>hk []
 | a :: l,k,hl,hk=>by
  unfold eW at hl;exact Ud hl.1 λx=>Ep hl.2 λxs=>hk _
theorem Hj{Q:Nat->Prop}{lb:List Nat}{l:List A}(h:eW Q l):eW Q (l8 lb l) :=
 q9 λa ha=>by
  obtain ⟨j,hj⟩:=zZQ ha;obtain ⟨y,h1,h2⟩:=IZ lb l j a hj;rcases h2 with rfl | ⟨_,n,rfl⟩
  ·exact MN h _ (zQY h1)
  ·unfold A.inR; trivial
theorem Sz{lb:List Nat}{sz:Nat}:∀ {ps:List (Nat×A)} {rows:List (List T)} {k:List (List T)->MA α},(∀ q∈ps,q.2.inR λr=>D.rR r/\D.rW r)->(∀ x,(k x).In D)->(My lb sz rows ps k).In D
 | [],rows,k,_,hk=>hk _
 | (i,x) :: r,rows,k,hl,hk=>by
  unfold My
  split
  ·exact Ep (Hj (B3 (hl (i,x) eH))) λts=>Sz (λq hq=>hl q T5) hk
  ·trivial
theorem Hk{a:A}{k:Nat->List (List T)->MA α}(ha:a.inR D.rR)(hk:∀ n x,(k n x).In D):(a.rows k).In D:=by
 unfold A.rows
 split <;> first | exact hk _ _ | trivial | skip
 ·split <;> first | exact hk _ _ | trivial
 ·unfold A.inR at ha;refine ⟨ha,λx=>?_⟩;rcases x with _ | (_ | _ | _) <;> first | exact hk _ _ | trivial
theorem Hl{r e sz:Nat}{rows:List (List T)}(h:D.rR r/\D.rW r):(xV r e sz rows).In D:=by
 refine ⟨h.1,λx=>?_⟩
 cases x <;> first | exact ⟨h.2,trivial⟩ | trivial
theorem Vs{d:Nat}{cells:List A}(h:D.oR d/\D.oW d):(R9 d cells).In D:=by
 refine ⟨h.1,λx=>?_⟩
 cases x <;> simp only
 ·split <;> first | exact ⟨h.2,trivial⟩ | trivial
 ·trivial
theorem tL{m:Bool}{a:A}{k:C->MA α}(ha:a.inR λr=>D.rR r/\D.rW r)(hk:∀ x,(k x).In D):(a.toC m k).In D:=by
 unfold A.toC
 split
 ·unfold A.inR at ha;refine ⟨ha.1,λx=>?_⟩;rcases x with _ | (_ | _ | _) <;> first | exact hk _ | exact ⟨ha.2,hk _⟩ | trivial
 ·exact hk _
 ·exact Ud ha λx=>hk _
theorem QM{m:Bool}:∀ {l:List A} {k:List C->MA α},eW (λr=>D.rR r/\D.rW r) l->(∀ x,(k x).In D)->(FS m l k).In D
 | [],k,_,hk=>hk []
 | a :: l,k,hl,hk=>by
  unfold eW at hl;exact tL hl.1 λx=>QM hl.2 λxs=>hk _
mutual
theorem XA{m:Bool}:∀ {a:A} {k:V->MA α},a.inR (λr=>D.rR r/\D.rW r)->(∀ x,(k x).In D)->(pD m a k).In D
 | .agg l,k,ha,hk=>by unfold A.inR at ha; unfold pD; exact QM ha λ_=>hk _
 | .fadr l,k,ha,hk=>by unfold pD; exact hk _
 | .clo f l,k,ha,hk=>by unfold A.inR at ha; unfold pD; exact QN ha λ_=>hk _
 | .tup l,k,ha,hk=>by unfold A.inR at ha; unfold pD; exact QN ha λ_=>hk _
 | .t x,k,ha,hk=>by unfold pD; exact tL ha λ_=>hk _
 | .nn _ _,k,ha,hk=>by unfold pD; exact tL ha λ_=>hk _
 | .nil,k,ha,hk=>by unfold pD; exact tL ha λ_=>hk _
 | .own x,k,ha,hk=>by unfold pD; exact tL ha λ_=>hk _
 | .obj _ _,k,ha,hk=>by unfold pD; exact tL ha λ_=>hk _
 | .elem _ _ _ _,k,ha,hk=>by unfold pD; exact tL ha λ_=>hk _
 | .win _ _ _,k,ha,hk=>by unfold pD; exact tL ha λ_=>hk _
 | .sub _ _ _,k,ha,hk=>by unfold pD; exact tL ha λ_=>hk _
 | .undef,k,ha,hk=>by unfold pD; exact tL ha λ_=>hk _
 | .raw _,k,ha,hk=>by unfold pD; exact tL ha λ_=>hk _
 | .osl _ _ _ _,k,ha,hk=>by unfold pD; exact tL ha λ_=>hk _
 | .ext _ _,k,ha,hk=>by unfold pD; exact tL ha λ_=>hk _
 | .exa _ _,k,ha,hk=>by unfold pD; exact tL ha λ_=>hk _
 | .shp _,k,ha,hk=>by unfold pD; exact tL ha λ_=>hk _
theorem QN{m:Bool}:∀ {l:List A} {k:List V->MA α},eW (λr=>D.rR r/\D.rW r) l->(∀ x,(k x).In D)->(BZ m l k).In D
 | [],k,_,hk=>by unfold BZ; exact hk _
 | a :: l,k,hl,hk=>by unfold eW at hl; unfold BZ; exact XA hl.1 λx=>QN hl.2 λxs=>hk _
end
theorem Wf{s:Nat}{k:List C->MA α}(ho:D.oR s/\D.oW s)(ha:∀ r,D.rR r/\D.rW r)(hk:∀ x,(k x).In D):(Dw s k).In D:=by
 refine ⟨ho.1,λx=>?_⟩;rcases x with _ | (_ | ⟨c,cells⟩) <;> simp only <;> first | exact QM (qp ha _) λx=>⟨ho.2,hk _⟩ | trivial
theorem Ue{s:Nat}{k:List C->MA α}(ho:D.oR s/\D.oW s)(hk:∀ x,(k x).In D):(Hh s k).In D:=by
 refine ⟨ho.1,λx=>?_⟩;rcases x with _ | (_ | ⟨c,cells⟩) <;> simp only <;> first | trivial | skip
 split <;> first | exact ⟨ho.2,hk _⟩ | trivial
def A.argIn(D:Ub)(p:Nat->Bool):A->Prop
 | .obj s 0=>(D.oR s/\D.oW s)/\(p s=false->∀ r,D.rR r/\D.rW r)
 | a=>a.inR λr=>D.rR r/\D.rW r
theorem Hm{m:Bool}{p:Nat->Bool}:∀ {l:List A} {k:List V->MA α},(∀ a∈l,a.argIn D p)->(∀ x,(k x).In D)->(lp m p l k).In D
 | [],k,_,hk=>by unfold lp; exact hk _
 | a :: l,k,hl,hk=>by
  have h0:=hl a eH;have ih:∀ {k:List V->MA α},(∀ x,(k x).In D)->(lp m p l k).In D:=λh=>Hm (λa ha=>hl a (by simp [ha])) h;unfold lp
  split
  ·rename_i heq; cases heq
  ·rename_i heq;injection heq with h1 h2
   subst h1 h2;unfold A.argIn at h0
   split
   ·exact Ue h0.1 λx=>ih λ_=>hk _
   ·rename_i hp;exact Wf h0.1 (h0.2 (by simpa using hp)) λx=>ih λ_=>hk _
  ·rename_i hna heq;injection heq with h1 h2
   subst h1 h2;refine XA ?_ λx=>ih λ_=>hk _;unfold A.argIn at h0
   split at h0
   ·exact absurd rfl (hna _)
   ·exact h0
theorem kV{a:A}{k:T->MA α}(ha:a.inR D.rR)(hk:∀ x,(k x).In D):(a.peekT k).In D:=by
 unfold A.peekT
 split <;> first | exact hk _ | trivial | skip
 unfold A.inR at ha;refine ⟨ha,λx=>?_⟩;rcases x with _ | (_ | _ | _) <;> first | exact hk _ | trivial
theorem P7:∀ {l:List A} {k:List T->MA α},eW D.rR l->(∀ x,(k x).In D)->(Hi l k).In D
 | [],k,_,hk=>hk []
 | a :: l,k,hl,hk=>by
  unfold eW at hl;exact kV hl.1 λx=>P7 hl.2 λxs=>hk _
mutual
theorem XB:∀ {a:A} {k:V->MA α},a.inR D.rR->(∀ x,(k x).In D)->(jb a k).In D
 | .agg l,k,ha,hk=>by unfold A.inR at ha; unfold jb; exact P7 ha λ_=>hk _
 | .fadr l,k,ha,hk=>by unfold jb; exact hk _
 | .clo f l,k,ha,hk=>by unfold A.inR at ha; unfold jb; exact ra ha λ_=>hk _
 | .tup l,k,ha,hk=>by unfold jb; exact kV ha λ_=>hk _
 | .t x,k,ha,hk=>by unfold jb; exact kV ha λ_=>hk _
 | .nn _ _,k,ha,hk=>by unfold jb; exact kV ha λ_=>hk _
 | .nil,k,ha,hk=>by unfold jb; exact kV ha λ_=>hk _
 | .own x,k,ha,hk=>by unfold jb; exact kV ha λ_=>hk _
 | .obj _ _,k,ha,hk=>by unfold jb; exact kV ha λ_=>hk _
 | .elem _ _ _ _,k,ha,hk=>by unfold jb; exact kV ha λ_=>hk _
 | .win _ _ _,k,ha,hk=>by unfold jb; exact kV ha λ_=>hk _
 | .sub _ _ _,k,ha,hk=>by unfold jb; exact kV ha λ_=>hk _
 | .undef,k,ha,hk=>by unfold jb; exact kV ha λ_=>hk _
 | .raw _,k,ha,hk=>by unfold jb; exact kV ha λ_=>hk _
 | .osl _ _ _ _,k,ha,hk=>by unfold jb; exact kV ha λ_=>hk _
 | .ext _ _,k,ha,hk=>by unfold jb; exact kV ha λ_=>hk _
 | .exa _ _,k,ha,hk=>by unfold jb; exact kV ha λ_=>hk _
 | .shp _,k,ha,hk=>by unfold jb; exact kV ha λ_=>hk _
theorem ra:∀ {l:List A} {k:List V->MA α},eW D.rR l->(∀ x,(k x).In D)->(d8 l k).In D
 | [],k,_,hk=>by unfold d8; exact hk _
 | a :: l,k,hl,hk=>by unfold eW at hl; unfold d8; exact XB hl.1 λx=>ra hl.2 λxs=>hk _
end
variable {d:Nat}
theorem XC{id:Nat}{c:C}{k:A->MA α}(hd:∀ r,r / 65536=d->D.rR r/\D.rW r)(hk:∀ x,(k x).In D):(c.toA d id k).In D:=by
 cases c <;> simp only [C.toA] <;> first | exact hk _ | skip
 split
 ·rename_i h;refine ⟨(hd _ h).1,λx=>?_⟩
  cases x <;> first | exact ⟨(hd _ h).2,hk _⟩ | trivial
 ·trivial
theorem Mc(hd:∀ r,r / 65536=d->D.rR r/\D.rW r):∀ {l:List C} {id:Nat} {k:List A->MA α},(∀ x,(k x).In D)->(I1 d id l k).In D
 | [],id,k,hk=>hk []
 | a :: l,id,k,hk=>XC hd λx=>Mc hd λxs=>hk _
mutual
theorem Hn(hd:∀ r,r / 65536=d->D.rR r/\D.rW r)(ho:D.oR d/\D.oW d):∀ {v:V} {id:Nat} {k:A->MA α},(∀ x,(k x).In D)->(V.toA d id v k).In D
 | .one c,id,k,hk=>by unfold V.toA; exact XC hd hk
 | .agg l,id,k,hk=>by unfold V.toA; exact Mc hd λ_=>hk _
 | .tup l,id,k,hk=>by unfold V.toA; exact MO hd ho λ_=>hk _
 | .ptr l,id,k,hk=>by
  unfold V.toA;refine Mc hd λ_=>⟨ho.1,λx=>?_⟩
  cases x <;> first | exact ⟨ho.2,hk _⟩ | trivial
 | .fptr l,id,k,hk=>by unfold V.toA; exact hk _
 | .clo f l,id,k,hk=>by unfold V.toA; exact MO hd ho λ_=>hk _
theorem MO(hd:∀ r,r / 65536=d->D.rR r/\D.rW r)(ho:D.oR d/\D.oW d):∀ {l:List V} {id:Nat} {k:List A->MA α},(∀ x,(k x).In D)->(B0 d id l k).In D
 | [],id,k,hk=>by unfold B0; exact hk _
 | a :: l,id,k,hk=>by unfold B0; exact Hn hd ho λx=>MO hd ho λxs=>hk _
end
theorem Ac(hd:∀ r,r / 65536=d->D.rR r/\D.rW r):∀ {ss:List Nat} {os:List (List C)} {k:MA α},(∀ s∈ss,D.oR s/\D.oW s)->k.In D->(dK d ss os k).In D
 | [],[],k,_,hk=>hk
 | s :: ss,c :: cs,k,hs,hk=>by
  unfold dK;refine Mc hd λx=>⟨(hs s eH).1,λy=>?_⟩
  cases y <;> first | exact ⟨(hs s eH).2,Ac hd (λs h=>hs s (by simp [h])) hk⟩ | trivial
 | [],_ :: _,k,_,hk=>trivial
 | _ :: _,[],k,_,hk=>trivial
theorem Dx{p:Nat->Bool}:∀ {l:List A},(∀ a∈l,a.argIn D p)->∀ s∈d7 l,D.oR s/\D.oW s
 | [],_,s,h=>by simp [d7] at h
 | a :: l,hl,s,h=>by
  have h0:=hl a eH;unfold d7 at h
  split at h
  ·rename_i heq; cases heq
  ·rename_i heq;injection heq with h1 h2
   subst h1 h2;rcases aag.1 h with rfl | h
   ·exact h0.1
   ·exact Dx (λa ha=>hl a (by simp [ha])) s h
  ·rename_i heq;injection heq with h1 h2
   subst h1 h2;exact Dx (λa ha=>hl a (by simp [ha])) s h
end
def mj(l:Option (List Nat))(k:Nat):Prop:=match l with | none=>True | some l=>k∈l
def GF(a b:Option (List Nat)):Option (List Nat):=match a,b with | some a,some b=>some (a++b) | _,_=>none
def EW:List (Option (List Nat))->Option (List Nat)
 | []=>some []
 | a :: r=>GF a (EW r)
theorem nd{a b:Option (List Nat)}{k:Nat}:mj (GF a b) k↔mj a k\/mj b k:=by
 cases a <;> cases b <;> simp [GF,mj]
theorem MP{l:List (Option (List Nat))}{k:Nat}:∀ {x},x∈l->mj x k->mj (EW l) k:=by
 induction l with
 | nil=>intro x h; simp at h
 | cons y l ih =>
  intro x h hx;unfold EW;rcases aag.1 h with rfl | h
  ·exact nd.2 (.inl hx)
  ·exact nd.2 (.inr (ih h hx))
def dR.rows:dR->Option (List Nat)
 | .frz | .obj _=>some []
 | .own d=>some [d]
 | .el d=>some [d]
 | .win d=>some [d]
 | _=>none
def dR.objs:dR->Option (List Nat)
 | .obj s=>some [s]
 | .any=>none
 | _=>some []
def zG(ρ:Nat->dR):Operand->dR
 | .tmp t=>ρ t
 | _=>.frz
structure Fp where
 oR:Option (List Nat)
 oW:Option (List Nat)
 rR:Option (List Nat)
 rW:Option (List Nat)
def Fp.dom(f:Fp):Ub:=⟨mj f.oR,mj f.oW,λr=>mj f.rR (r / 65536),λr=>mj f.rW (r / 65536)⟩
def dR.isObj:dR->Bool
 | .obj _=>true
 | _=>false
def wn(p:Nat->Bool):dR->Option (List Nat)
 | .obj s=>if p s then some [] else none
 | r=>r.rows
def l9:Option Nat->Option (List Nat)
 | some d=>some [d]
 | none=>some []
def cu(ρ:Nat->dR)(o:Oper):Option (List Nat):=EW (o.op.operands.toList.map λx=>(zG ρ x).rows)
def du(p:Nat->Bool)(ρ:Nat->dR)(o:Oper):Fp :=
 match o.op with
 | .alloc _=>⟨l9 o.dst,l9 o.dst,some [],some []⟩
 | .box ..=>⟨l9 o.dst,l9 o.dst,cu ρ o,cu ρ o⟩
 | .buildSlice .. | .makeSlice ..=>⟨some [],some [],GF (cu ρ o) (l9 o.dst),GF (cu ρ o) (l9 o.dst)⟩
 | .load _ a=>⟨(zG ρ a).objs,some [],(zG ρ a).rows,some []⟩
 | .store _ a _=>if (zG ρ a).isObj then ⟨(zG ρ a).objs,(zG ρ a).objs,some [],some []⟩ else ⟨(zG ρ a).objs,(zG ρ a).objs,cu ρ o,cu ρ o⟩
 | .slice ..=>⟨some [],some [],GF (cu ρ o) (l9 o.dst),GF (cu ρ o) (l9 o.dst)⟩
 | .call { callee:=.builtin .copy,.. } | .call { callee:=.builtin .clear,.. }=>⟨some [],some [],cu ρ o,cu ρ o⟩
 | .indexAddr .. | .convert .. | .call { callee:=.builtin .len,.. }=>⟨some [],some [],cu ρ o,some []⟩
 | .call { callee:=.builtin .append,.. }=>⟨some [],some [],GF (cu ρ o) (l9 o.dst),GF (cu ρ o) (l9 o.dst)⟩
 | .call { callee:=.value _,.. } =>
  ⟨GF (EW (o.op.operands.toList.map λx=>(zG ρ x).objs)) (l9 o.dst),GF (EW (o.op.operands.toList.map λx=>(zG ρ x).objs)) (l9 o.dst),
   GF (EW (o.op.operands.toList.map λx=>wn p (zG ρ x))) (l9 o.dst),GF (EW (o.op.operands.toList.map λx=>wn p (zG ρ x))) (l9 o.dst)⟩
 | _=>⟨some [],some [],some [],some []⟩
theorem Md(p:Nat->Bool)(ρ:Nat->dR)(o:Oper):(du p ρ o).dom.ok:=by
 unfold du
 split
 all_goals first | exact ⟨λ_ h=>h,λ_ h=>h⟩ | (split <;> exact ⟨λ_ h=>h,λ_ h=>h⟩) | exact ⟨λ_ h=>by simp [Fp.dom,mj] at h,λ_ h=>by simp [Fp.dom,mj] at h⟩
structure Cls (ρ:Nat->dR) (x:Operand) (a:A):Prop where
 rows:a.inR λr=>mj (zG ρ x).rows (r / 65536)
 objs:∀ s off,a=.obj s off->mj (zG ρ x).objs s
 isob:(zG ρ x).isObj=true->∃ s off,a=.obj s off
theorem Wg{r:dR}{a:A}(h:r.fits a=true)(hr:r.isObj=true):∃ s off,a=.obj s off:=by
 cases r <;> cases a <;> simp [dR.fits,dR.isObj] at h hr ⊢
theorem P8{Q:Nat->Prop}{a:A}(h:a.leafy=true):a.inR Q:=by
 cases a <;> first | (unfold A.inR; trivial) | (simp [A.leafy] at h)
theorem SA{r:dR}{a:A}(h:r.fits a=true):(a.inR λi=>mj r.rows (i / 65536))/\∀ s off,a=.obj s off->mj r.objs s:=by
 by_cases hag:∃ l,r=.frz/\a=.agg l
 ·obtain ⟨l,rfl,rfl⟩:=hag;refine ⟨?_,λs off h=>by cases h⟩;unfold A.inR;exact q9 λx hx=>P8 (aae.1 h x hx)
 by_cases hag2:∃ d l,r=.own d/\a=.agg l
 ·obtain ⟨d,l,rfl,rfl⟩:=hag2;refine ⟨?_,λs off h=>by cases h⟩;unfold A.inR;refine q9 λx hx=>?_;have:=aae.1 h x hx
  cases x with
  | own r=>unfold A.inR; simpa [dR.rows,mj] using this
  | _=>exact P8 this
 cases r <;> cases a <;> (try simp [dR.fits,dR.rows,dR.objs,mj] at h hag ⊢) <;> (try exact absurd ⟨_,_,rfl,rfl⟩ hag2) <;>
  first
   | exact Eo (λ_=>trivial) _
   | (unfold A.inR; first | trivial | simp [h])
   | (refine ⟨by unfold A.inR; trivial,?_⟩; intro s off h1 h2; simp [<- h1,h])
   | skip
theorem E9{Q:Nat->Prop}:∀ {l:List (Option A)} {r:List A},(∀ y∈l,∀ a,y=some a->a.inR Q)->dx l=some r->eW Q r:=by
 intro l r hl h;have:=Hd h;subst this;exact q9 λa ha=>hl (some a) (List.mem_map.2 ⟨a,ha,rfl⟩) a rfl
theorem B4{Q:Nat->Prop}{v:Value}{a:A}(h:oF v=some a):a.inR Q:=by
 unfold oF at h
 split at h <;> cases h <;> (unfold A.inR; trivial)
theorem Dy{Q:Nat->Prop}{v:Value}{a:A}(h:A.ofValue v=some a):(a.inR Q)/\∀ s off,a≠.obj s off:=by
 unfold A.ofValue at h
 split at h
 ·split at h
  ·rename_i l hl
   cases h
   refine ⟨?_,λ_ _ h=>by cases h⟩;unfold A.inR;exact E9 (λy hy a he=>by
    obtain ⟨v,_,hv⟩:=List.mem_map.1 hy;exact B4 (hv.trans he)) hl
  ·cases h
 ·cases h
  exact ⟨by unfold A.inR; trivial,λs off he=>by cases he⟩
 ·refine ⟨B4 h,λs off he=>?_⟩;subst he;unfold oF at h
  split at h <;> cases h
theorem P9{P:Program}{Q:Nat->Prop}{t:TypeId}{z:List A}(h:uU P t=some z):eW Q z:=by
 unfold uU at h
 split at h
 ·exact E9 (λy hy a he=>by
   obtain ⟨v,_,hv⟩:=List.mem_map.1 hy;exact B4 (hv.trans he)) h
 ·cases h
theorem XD{ρ:Nat->dR}{st:St}{o:Oper}(hf:eN ρ st o=true){x:Operand}{a:A}(hx:x∈o.op.operands.toList)(h:st.eval x=some a):Cls ρ x a:=by
 cases x with
 | tmp t =>
  simp only [St.eval,Option.some.injEq] at h;subst h;have:=aae.1 hf _ hx;exact ⟨(SA this).1,(SA this).2,λh=>Wg this h⟩
 | const v=>exact ⟨(Dy h).1,λs off he=>absurd he ((Dy (Q:=λ_=>True) h).2 s off),λh=>by simp [zG,dR.isObj] at h⟩
 | func f =>
  simp only [St.eval,Option.some.injEq] at h;subst h;exact ⟨by unfold A.inR; unfold eW; trivial,λs off he=>(by cases he),λh=>by simp [zG,dR.isObj] at h⟩
 | global _=>cases h
mutual
theorem iL{Q Q':Nat->Prop}(h:∀ r,Q r->Q' r):∀ {a:A},a.inR Q->a.inR Q'
 | .own r,hq=>by unfold A.inR at hq ⊢; exact h _ hq
 | .elem r _ _ _,hq=>by unfold A.inR at hq ⊢; exact h _ hq
 | .sub r _ _,hq=>by unfold A.inR at hq ⊢; exact h _ hq
 | .win r _ _,hq=>by unfold A.inR at hq ⊢; exact h _ hq
 | .agg l,hq=>by unfold A.inR at hq ⊢; exact Er h hq
 | .tup l,hq=>by unfold A.inR at hq ⊢; exact Er h hq
 | .clo _ l,hq=>by unfold A.inR at hq ⊢; exact Er h hq
 | .t _,_ | .nil,_ | .obj _ _,_ | .fadr _,_ | .nn _ _,_ | .undef,_ | .raw _,_ | .osl _ _ _ _,_ | .ext _ _,_ | .exa _ _,_ | .shp _,_=>by unfold A.inR; trivial
theorem Er{Q Q':Nat->Prop}(h:∀ r,Q r->Q' r):∀ {l:List A},eW Q l->eW Q' l
 | [],_=>by unfold eW; trivial
 | a :: r,hq=>by unfold eW at hq ⊢; exact ⟨iL h hq.1,Er h hq.2⟩
end
end Go.Tm
set_option maxHeartbeats 1000000
namespace Go.Tm
open Go.RowKit
section
variable {D:Ub} {P:Program} {ρ:Nat->dR}
theorem dU{o:Oper}{x:Operand}{k:Nat}(hx:x∈o.op.operands.toList)(h:mj (zG ρ x).rows k):mj (cu ρ o) k :=
 MP (List.mem_map.2 ⟨x,hx,rfl⟩) h
theorem Y4{t:TypeId}{a:A}(ho:∀ s off,a=.obj s off->D.oR s)(hr:a.inR D.rR):(IX P t a).In D:=by
 unfold IX
 split <;> try trivial
 split <;> try trivial
 ·refine ⟨ho _ _ rfl,λx=>?_⟩
  cases x <;> simp only [MA.In]
  split <;> trivial
 ·unfold A.inR at hr;refine ⟨hr,λx=>?_⟩;rcases x with _ | (_ | _ | _) <;> (try dsimp only) <;> (try trivial)
  all_goals
   split <;> try trivial
   split <;> try trivial
   split <;> trivial
 ·split <;> trivial
 ·split <;> trivial
theorem SB{t:TypeId}{a x:A}(ho:∀ s off,a=.obj s off->D.oR s/\D.oW s)(hr:(∃ s off,a=.obj s off)\/((a.inR λr=>D.rR r/\D.rW r)/\x.inR λr=>D.rR r/\D.rW r)):(BW P t a x).In D:=by
 unfold BW
 split <;> try trivial
 split <;> try trivial
 split <;> try trivial
 ·refine ⟨(ho _ _ rfl).1,λx=>?_⟩
  cases x <;> simp only [MA.In]
  split <;> first | trivial | exact ⟨(ho _ _ rfl).2,trivial⟩
 ·rcases hr with ⟨s,off,h⟩ | ⟨h1,h2⟩
  ·cases h
  refine Ep (Hj (B3 h2)) λts=>?_;unfold A.inR at h1;refine ⟨h1.1,λx=>?_⟩;rcases x with _ | (_ | _ | _) <;> (try dsimp only) <;> (try trivial)
  split <;> try trivial
  split <;> try trivial
  split <;> first | trivial | exact ⟨h1.2,trivial⟩
 ·split <;> trivial
theorem Wh{a:A}{off:Nat}:(MB a off).In D:=by
 unfold MB
 split <;> trivial
theorem MQ{n:Nat}{i:Int}{sz:Nat}{rows:List (List T)}:(BX n i sz rows).In D:=by
 unfold BX
 split <;> try trivial
 split <;> trivial
theorem QO{t:TypeId}{x i:A}(hr:x.inR D.rR):(lm P t x i).In D:=by
 unfold lm
 split <;> try trivial
 split <;> try trivial
 split <;> try trivial
 ·exact MQ
 ·unfold Ha
  split <;> try trivial
  split <;> trivial
 ·split <;> trivial
 ·unfold A.inR at hr;refine ⟨hr,λx=>?_⟩;rcases x with _ | (_ | _ | _) <;> (try dsimp only) <;> (try trivial)
  ·split <;> trivial
  ·exact MQ
theorem XE{d:Option Nat}{t:TypeId}{x:A}{hi:Option A}(hr:x.inR λr=>D.rR r/\D.rW r)(hd:∀ d',d=some d'->D.rR (gj d' 0)/\D.rW (gj d' 0)):(Hb P d t x hi).In D:=by
 unfold Hb
 split <;> try trivial
 split <;> try trivial
 unfold A.inR at hr;refine ⟨hr.1,λx=>?_⟩;rcases x with _ | (_ | _ | _) <;> (try dsimp only) <;> (try trivial)
 split <;> first | trivial | exact ⟨hr.2,Hl (hd _ rfl)⟩
theorem XF{t:TypeId}{x:A}{lo hi:Option A}(hr:x.inR λr=>D.rR r/\D.rW r):(Aa P t x lo hi).In D:=by
 unfold Aa
 split <;> try trivial
 ·split <;> try trivial
  split <;> trivial
 ·split <;> try trivial
  split <;> trivial
 ·split <;> try trivial
  refine Ud hr λy=>?_
  split <;> try trivial
  split <;> try trivial
  split <;> try trivial
  split <;> trivial
theorem Y5{d:Option Nat}{t:TypeId}{l c:A}(hd:∀ d',d=some d'->∀ r,r / 65536=d'->D.rR r/\D.rW r):(ME P d t l c).In D:=by
 unfold ME
 split <;> try trivial
 split <;> try trivial
 rename_i hz
 split <;> try trivial
 refine Ep (Hj (P9 hz)) λts=>?_;exact Hl (hd _ rfl _ YM)
theorem Uf{d:Nat}{ts:List TypeId}{x y:A}(hd:∀ r,r / 65536=d->D.rR r/\D.rW r)(hx:x.inR λr=>D.rR r/\D.rW r)(hy:y.inR D.rR):(w6 P (some d) ts x y).In D:=by
 have hm:∀ {e n:Nat} {rows:List (List T)},(xV (gj d 0) e n rows).In D:=λ{e n rows}=>Hl (hd _ YM);unfold w6
 split <;> try trivial
 rename_i d' hdd;injection hdd with hdd
 subst hdd
 split <;> try trivial
 split <;> try trivial
 split <;> try trivial
 split <;> try trivial
 refine Hk hy λn ys=>?_
 split <;> try trivial
 split <;> try trivial
 ·split <;> first | trivial | exact hm
 ·unfold A.inR at hx;refine ⟨hx.1,λx=>?_⟩;rcases x with _ | (_ | _ | _) <;> (try dsimp only) <;> (try trivial)
  split <;> first | trivial | exact ⟨hx.2,hm⟩
theorem Wi{d:Option Nat}{ts:List TypeId}{x y:A}(hd:∀ d',d=some d'->∀ r,r / 65536=d'->D.rR r/\D.rW r)(hx:x.inR λr=>D.rR r/\D.rW r)(hy:y.inR D.rR):(w6 P d ts x y).In D:=by
 cases d with
 | some d=>exact Uf (hd d rfl) hx hy
 | none =>
  unfold w6
  split <;> first | trivial | (rename_i h; cases h)
theorem qao{t:TypeId}{x:A}{lo:Option A}(hr:x.inR λr=>D.rR r/\D.rW r):(Sa P t x lo).In D:=by
 unfold Sa
 split <;> try trivial
 split <;> try trivial
 unfold A.inR at hr;refine ⟨hr.1,λx=>?_⟩;rcases x with _ | (_ | _ | _) <;> (try dsimp only) <;> (try trivial)
 split <;> trivial
theorem qap{t:TypeId}{x:A}{lo hi:Option A}(hr:x.inR λr=>D.rR r/\D.rW r):(Sb P t x lo hi).In D:=by
 unfold Sb
 split <;> try trivial
 split <;> try trivial
 unfold A.inR at hr;refine ⟨hr.1,λx=>?_⟩;rcases x with _ | (_ | _ | _) <;> (try dsimp only) <;> (try trivial)
 split <;> try trivial
 split <;> trivial
theorem Y6{ts:List TypeId}{x y:A}(hx:x.inR λr=>D.rR r/\D.rW r)(hy:y.inR D.rR):(MD P ts x y).In D:=by
 unfold MD
 split
 ·unfold L8
  split <;> try trivial
  split <;> try trivial
  refine Hk hy λm ys=>?_
  split <;> try trivial
  unfold A.inR at hx;refine ⟨hx.1,λx=>?_⟩;rcases x with _ | (_ | _ | _) <;> (try dsimp only) <;> (try trivial)
  split <;> first | trivial | exact ⟨hx.2,trivial⟩
 rotate_left
 ·trivial
 split <;> try trivial
 split <;> try trivial
 refine Hk hy λn ys=>?_
 split <;> try trivial
 unfold A.inR at hx;refine ⟨hx.1,λx=>?_⟩;rcases x with _ | (_ | _ | _) <;> (try dsimp only) <;> (try trivial)
 split <;> first | trivial | exact ⟨hx.2,trivial⟩
theorem XG{ts:List TypeId}{x:A}(hx:x.inR λr=>D.rR r/\D.rW r):(Hc P ts x).In D:=by
 unfold Hc
 split <;> try trivial
 split <;> try trivial
 split <;> try trivial
 split <;> try trivial
 unfold A.inR at hx;refine ⟨hx.1,λx=>?_⟩;rcases x with _ | (_ | _ | _) <;> (try dsimp only) <;> (try trivial)
 split <;> first | trivial | exact ⟨hx.2,trivial⟩
theorem qaq{t:TypeId}{x:A}(hr:x.inR D.rR):(Kf P t x).In D:=by
 unfold Kf
 split <;> try trivial
 exact Hk hr λ_ _=>trivial
end
theorem Y7{P:Program}{p:Nat->Bool}{ρ:Nat->dR}{st:St}{o:Oper}(h:∀ x∈o.op.operands.toList,∀ a,st.eval x=some a->Cls ρ x a):(ql P ρ st.eval o).In (du p ρ o).dom:=by
 have hdst:∀ {d:Nat} {r:Nat},o.dst=some d->r / 65536=d->mj (GF (cu ρ o) (l9 o.dst)) (r / 65536):=λh h'=>nd.2 (.inr (by rw [h]; simp [l9,mj,h']));unfold ql
 split <;> try (split <;> trivial)
 ·-- alloc
  rename_i e ho
  split <;> try trivial
  rename_i d z hd hz;have hf:du p ρ o=⟨l9 o.dst,l9 o.dst,some [],some []⟩:=by simp only [du,ho]
  rw [hf];exact Vs ⟨by simp [Fp.dom,l9,mj,hd],by simp [Fp.dom,l9,mj,hd]⟩
 ·-- box
  rename_i e x ho
  split <;> try trivial
  rename_i d v hd hv;have hx:x∈o.op.operands.toList:=by rw [ho]; simp [Op.operands]
  have hf:du p ρ o=⟨l9 o.dst,l9 o.dst,cu ρ o,cu ρ o⟩:=by simp only [du,ho]
  rw [hf]
  split
  ·refine Ep (B3 (iL (λr hr=>?_) (h x hx v hv).rows)) λ_=>trivial;exact ⟨dU hx hr,dU hx hr⟩
  ·exact Vs ⟨by simp [Fp.dom,l9,mj,hd],by simp [Fp.dom,l9,mj,hd]⟩
 ·-- build
  rename_i t parts ho
  split <;> try trivial
  split <;> trivial
 ·-- buildSlice
  rename_i t n parts ho
  split <;> try trivial
  rename_i e d ps ht hd hp
  split <;> try trivial
  rename_i sz z hsz hz
  split <;> try trivial
  have hf:du p ρ o=⟨some [],some [],GF (cu ρ o) (l9 o.dst),GF (cu ρ o) (l9 o.dst)⟩:=by simp only [du,ho]
  rw [hf];refine Ep (Hj (P9 hz)) λts=>Sz (λq hq=>?_) λrows=>Hl ⟨hdst hd YM,hdst hd YM⟩;obtain ⟨hl,hg⟩:=tX hp;obtain ⟨i,hi⟩:=zZQ hq;obtain ⟨⟨j,x⟩,hx,he⟩:=hg i q hi;have hxm:x∈o.op.operands.toList:=by
   rw [ho];simp only [Op.operands,zYK];exact ⟨(j,x),zQY hx,rfl⟩
  simp only [zWZ] at he;obtain ⟨v,hv,rfl⟩:=he;exact iL (λr hr=>⟨nd.2 (.inl (dU hxm hr)),nd.2 (.inl (dU hxm hr))⟩) (h x hxm v hv).rows
 ·-- load
  rename_i t x ho
  split <;> try trivial
  rename_i a ha;have hx:x∈o.op.operands.toList:=by rw [ho]; simp [Op.operands]
  have hf:du p ρ o=⟨(zG ρ x).objs,some [],(zG ρ x).rows,some []⟩:=by simp only [du,ho]
  rw [hf];exact Y4 (h x hx a ha).objs (h x hx a ha).rows
 ·-- store
  rename_i t x y ho
  split <;> try trivial
  rename_i a b ha hb;have hx:x∈o.op.operands.toList:=by rw [ho]; simp [Op.operands]
  have hy:y∈o.op.operands.toList:=by rw [ho]; simp [Op.operands]
  have hf:du p ρ o=if (zG ρ x).isObj then ⟨(zG ρ x).objs,(zG ρ x).objs,some [],some []⟩ else ⟨(zG ρ x).objs,(zG ρ x).objs,cu ρ o,cu ρ o⟩:=by simp only [du,ho]
  rw [hf]
  split
  ·rename_i hio;exact SB (λs off he=>⟨(h x hx a ha).objs s off he,(h x hx a ha).objs s off he⟩) (.inl ((h x hx a ha).isob hio))
  ·exact SB (λs off he=>⟨(h x hx a ha).objs s off he,(h x hx a ha).objs s off he⟩)
    (.inr ⟨iL (λr hr=>⟨dU hx hr,dU hx hr⟩) (h x hx a ha).rows,iL (λr hr=>⟨dU hy hr,dU hy hr⟩) (h y hy b hb).rows⟩)
 ·-- binOp
  split <;> try trivial
  ·split <;> trivial
  ·split <;> first | trivial | (split <;> trivial)
  ·split <;> trivial
  ·split <;> trivial
 ·-- convert
  rename_i s t x ho;have hx:x∈o.op.operands.toList:=by rw [ho]; simp [Op.operands]
  have hf:du p ρ o=⟨some [],some [],cu ρ o,some []⟩:=by simp only [du,ho]
  rw [hf]
  split <;> try trivial
  rename_i a _ _ ha
  split <;> try trivial
  refine Hk (iL (λr hr=>dU hx hr) (h x hx _ ha).rows) λ_ _=>?_
  split <;> trivial
 ·-- makeSlice
  rename_i t l c ho;have hf:du p ρ o=⟨some [],some [],GF (cu ρ o) (l9 o.dst),GF (cu ρ o) (l9 o.dst)⟩:=by simp only [du,ho]
  rw [hf]
  split <;> try trivial
  exact Y5 λd hd r hr=>⟨hdst hd hr,hdst hd hr⟩
 ·-- slice
  rename_i t x lo hi ho;have hx:x∈o.op.operands.toList:=by rw [ho]; simp [Op.operands]
  have hf:du p ρ o=⟨some [],some [],GF (cu ρ o) (l9 o.dst),GF (cu ρ o) (l9 o.dst)⟩:=by simp only [du,ho]
  rw [hf]
  split <;> try trivial
  rename_i a _ _ ha _ _;have hq:a.inR λr=>(⟨some [],some [],GF (cu ρ o) (l9 o.dst),GF (cu ρ o) (l9 o.dst)⟩:Fp).dom.rR r/\(⟨some [],some [],GF (cu ρ o) (l9 o.dst),GF (cu ρ o) (l9 o.dst)⟩:Fp).dom.rW r :=
   iL (λr hr=>⟨nd.2 (.inl (dU hx hr)),nd.2 (.inl (dU hx hr))⟩) (h x hx _ ha).rows
  split
  ·split
   ·split
    ·exact qao hq
    ·exact qap hq
   ·exact XE hq λd hd=>⟨nd.2 (.inr qaU),nd.2 (.inr qaU)⟩
  ·exact XF hq
 ·-- fieldAddr
  split <;> first | trivial | exact Wh
 ·-- field
  split <;> try trivial
  split <;> try trivial
  split <;> trivial
 ·-- indexAddr
  rename_i t x i ho;have hx:x∈o.op.operands.toList:=by rw [ho]; simp [Op.operands]
  have hf:du p ρ o=⟨some [],some [],cu ρ o,some []⟩:=by simp only [du,ho]
  rw [hf]
  split <;> try trivial
  rename_i ha _;exact QO (iL (λr hr=>dU hx hr) (h x hx _ ha).rows)
 ·-- index
  split <;> try trivial
  split <;> try trivial
  split <;> trivial
 ·-- extract
  split <;> try trivial
  split <;> trivial
 ·-- len
  rename_i args ats ho
  split <;> try trivial
  rename_i x t hxs hts;have hx:x∈o.op.operands.toList:=by rw [ho]; simp [Op.operands,Call.operands,hxs]
  have hf:du p ρ o=⟨some [],some [],cu ρ o,some []⟩:=by simp only [du,ho]
  rw [hf]
  split <;> try trivial
  rename_i ha;exact qaq (iL (λr hr=>dU hx hr) (h x hx _ ha).rows)
 ·-- append
  rename_i args ats ho
  split <;> try trivial
  rename_i x y hxs;have hx:x∈o.op.operands.toList:=by rw [ho]; simp [Op.operands,Call.operands,hxs]
  have hy:y∈o.op.operands.toList:=by rw [ho]; simp [Op.operands,Call.operands,hxs]
  have hf:du p ρ o=⟨some [],some [],GF (cu ρ o) (l9 o.dst),GF (cu ρ o) (l9 o.dst)⟩:=by simp only [du,ho]
  rw [hf]
  split <;> try trivial
  rename_i ha hb;exact Wi (λd hd r hr=>⟨hdst hd hr,hdst hd hr⟩) (iL (λr hr=>⟨nd.2 (.inl (dU hx hr)),nd.2 (.inl (dU hx hr))⟩) (h x hx _ ha).rows)
   (iL (λr hr=>nd.2 (.inl (dU hy hr))) (h y hy _ hb).rows)
 ·-- copy
  rename_i args ats ho
  split <;> try trivial
  rename_i x y hxs;have hx:x∈o.op.operands.toList:=by rw [ho]; simp [Op.operands,Call.operands,hxs]
  have hy:y∈o.op.operands.toList:=by rw [ho]; simp [Op.operands,Call.operands,hxs]
  have hf:du p ρ o=⟨some [],some [],cu ρ o,cu ρ o⟩:=by simp only [du,ho]
  rw [hf]
  split <;> try trivial
  rename_i ha hb;exact Y6 (iL (λr hr=>⟨dU hx hr,dU hx hr⟩) (h x hx _ ha).rows) (iL (λr hr=>dU hy hr) (h y hy _ hb).rows)
 ·-- clear
  rename_i args ats ho
  split <;> try trivial
  rename_i x hxs;have hx:x∈o.op.operands.toList:=by rw [ho]; simp [Op.operands,Call.operands,hxs]
  have hf:du p ρ o=⟨some [],some [],cu ρ o,cu ρ o⟩:=by simp only [du,ho]
  rw [hf]
  split <;> try trivial
  rename_i ha;exact XG (iL (λr hr=>⟨dU hx hr,dU hx hr⟩) (h x hx _ ha).rows)
 ·split <;> try trivial
  split <;> trivial
 ·split <;> try trivial
  split <;> trivial
 ·trivial
end Go.Tm
set_option maxHeartbeats 1000000
namespace Go.Tm
open Go.RowKit
theorem Ug{P:Program}{ρ:Nat->dR}{ev ev':Operand->Option A}{o:Oper}(h:∀ x∈o.op.operands.toList,ev x=ev' x):ql P ρ ev o=ql P ρ ev' o:=by
 obtain ⟨dst,op,ty,pos,aft,gd⟩:=o
 cases op
 case call c =>
  obtain ⟨cal,args,ts⟩:=c
  cases cal with
  | value f=>simp only [ql]
  | invoke r m=>simp only [ql]
  | builtin b =>
   have h':∀ x∈args.toList,ev x=ev' x:=λx hx=>h x (by simp [Op.operands,Call.operands] at hx ⊢; exact hx)
   cases b <;> simp only [ql]
   all_goals
    split <;> try rfl
    first | (rename_i hl; rw [hl] at h') | (rename_i hl _; rw [hl] at h')
    try rw [h' _ (zQg ..)]
    try rw [h' _ (zQk _ (zQg ..))]
 case build t parts =>
  have:(parts.toList.map λ(i,x)=>(ev x).map λv=>(i,v))=parts.toList.map λ(i,x)=>(ev' x).map λv=>(i,v) :=
   zWh λq hq=>by
    have:=h q.2 qaV;simp only [this]
  simp only [ql,this]
 case buildSlice t n parts =>
  have:(parts.toList.map λ(i,x)=>(ev x).map λv=>(i,v))=parts.toList.map λ(i,x)=>(ev' x).map λv=>(i,v) :=
   zWh λq hq=>by
    have:=h q.2 qaV;simp only [this]
  simp only [ql,this]
 case makeFunc f first caps =>
  cases f <;> simp only [ql]
  have:caps.toList.map ev=caps.toList.map ev':=zWh λx hx=>h x (by simp [Op.operands] at hx ⊢; exact .inr hx);rw [this]
 case slice t x lo hi m =>
  cases m <;> simp only [ql]
  have h1:ev x=ev' x:=h x (by simp [Op.operands]);have h2:MC ev lo=MC ev' lo:=by
   cases lo with
   | none=>rfl
   | some l=>simp only [MC]; rw [h l (by simp [Op.operands])]
  have h3:MC ev hi=MC ev' hi:=by
   cases hi with
   | none=>rfl
   | some l=>simp only [MC]; rw [h l (by simp [Op.operands])]
  rw [h1,h2,h3]
 all_goals
  simp [Op.operands] at h;simp only [ql]
  try simp only [h]
inductive Wj (P:Program) (p:Nat->Bool) (ρ:Nat->dR) (st:St) (o:Oper) (x:A) (st':St):Prop
 | plain (h:(ql P ρ st.eval o).run st=some (x,st'))
 | call (m:Bool) (d f:Nat) (xf:Operand) (args:Array Operand) (ts:Array TypeId) (caps sr:List A) (vs:List V) (st1:St) (res:V) (outs:List (List C))
   (ho:o.op=.call { callee:=.value xf,args,argTypes:=ts }) (hd:o.dst=some d) (hf:st.eval xf=some (.clo f caps)) (mj:dx (args.toList.map st.eval)=some sr)
   (hp:(lp m p (sr++caps) MA.ret).run st=some (vs,st1)) (hc:aD P f vs res outs) (hr:(dK d (d7 (sr++caps)) outs (V.toA d (gj d 0) res MA.ret)).run st1=some (x,st'))
 | callB (d f:Nat) (xf:Operand) (args:Array Operand) (ts:Array TypeId) (caps sr:List A) (vs:List V) (res:V)
   (ho:o.op=.call { callee:=.value xf,args,argTypes:=ts }) (hd:o.dst=some d) (hf:st.eval xf=some (.clo f caps)) (mj:dx (args.toList.map st.eval)=some sr)
   (hp:(d8 (sr++caps) MA.ret).run st=some (vs,st)) (hc:aD P f vs res []) (hpl:res.plain) (hr:(V.toA d (gj d 0) res MA.ret).run st=some (x,st'))
 | callI (m:Bool) (d f:Nat) (xf:Operand) (args:Array Operand) (ts:Array TypeId) (caps sr:List A) (vs:List V) (st1:St) (outs:List (List C)) (s off:Nat)
   (ho:o.op=.call { callee:=.value xf,args,argTypes:=ts }) (hd:o.dst=some d) (hf:st.eval xf=some (.clo f caps)) (mj:dx (args.toList.map st.eval)=some sr)
   (hp:(lp m p (sr++caps) MA.ret).run st=some (vs,st1)) (hc:Xw P f vs off outs) (hhd:(sr++caps).head?=some (.obj s 0)) (hr:(dK d (d7 (sr++caps)) outs (MA.ret (.obj s off))).run st1=some (x,st'))
 | callD (d f:Nat) (xf:Operand) (args:Array Operand) (ts:Array TypeId) (caps sr:List A) (vs:List V) (res:V)
   (ho:o.op=.call { callee:=.value xf,args,argTypes:=ts }) (hd:o.dst=some d) (hf:st.eval xf=some (.clo f caps)) (mj:dx (args.toList.map st.eval)=some sr)
   (hp:(d8 (sr++caps) MA.ret).run st=some (vs,st)) (hc:n6 P f vs res) (hr:(V.toA d (gj d 0) res MA.ret).run st=some (x,st'))
 | callX (m:Bool) (d f:Nat) (xf:Operand) (args:Array Operand) (ts:Array TypeId) (az caps sr xs:List A) (vs us:List V) (st1:St) (res:V) (outs:List (List C))
   (ho:o.op=.call { callee:=.value xf,args,argTypes:=ts }) (hd:o.dst=some d) (hf:st.eval xf=some (.clo f caps)) (mj:dx (args.toList.map st.eval)=some az) (hcat:az++caps=sr++xs)
   (hp:(lp m p sr MA.ret).run st=some (vs,st1)) (hq:(d8 xs MA.ret).run st1=some (us,st1)) (hc:TY P f vs us res outs) (hr:(dK d (d7 sr) outs (V.toA d (gj d 0) res MA.ret)).run st1=some (x,st'))
 | callW (d f r e lo m:Nat) (ts:List T) (rows:List (List T)) (xf:Operand) (args:Array Operand) (tys:Array TypeId) (sr:List A) (vs:List V)
   (ho:o.op=.call { callee:=.value xf,args,argTypes:=tys }) (hd:o.dst=some d) (hf:st.eval xf=some (.clo f [])) (mj:dx (args.toList.map st.eval)=some (.agg (ts.map A.t++[.own r]) :: sr))
   (hrw:st.rw r=some (.live e 1 rows)) (hp:Sw sr=some vs) (hc:Z3 P f e ts rows vs lo m) (hr:x=.win r lo m) (hst:st'=st)
 | callM (f:Nat) (xf:Operand) (args:Array Operand) (ts:Array TypeId) (sr:List A) (r:T)
   (ho:o.op=.call { callee:=.value xf,args,argTypes:=ts }) (hf:st.eval xf=some (.clo f [])) (mj:dx (args.toList.map st.eval)=some sr)
   (hk:sr.all A.mk=true) (hx:sr.any A.hasX=true) (hc:MOK P f sr r) (hr:x=.t r) (hst:st'=st)
 | callR (d f r e sz:Nat) (rows rows':List (List T)) (xf:Operand) (args:Array Operand) (ts:Array TypeId) (sr:List A) (vs:List V) (res:T)
   (ho:o.op=.call { callee:=.value xf,args,argTypes:=ts }) (hd:o.dst=some d) (hf:st.eval xf=some (.clo f [])) (mj:dx (args.toList.map st.eval)=some (.own r :: sr))
   (hrw:st.rw r=some (.live e sz rows)) (hp:(d8 sr MA.ret).run st=some (vs,st)) (hpl:uW vs) (hc:ROK P f e sz rows vs res rows')
   (hr:x=.t res) (hst:st'={ st with rw:=eI st.rw r (some (.live e sz rows')) })
section
variable {P:Program} {E:En} [Tb P E] {g:Gh} {st st':St} {a:Act} {w:World} {p:Nat->Bool} {ρ:Nat->dR} {o:Oper} {x:A}
theorem Wj.sound{n:Nat}(hS:jq E g n st a w)(h:Wj P p ρ st o x st'):yk P o a w λv w'=>∃ g',yi E g st w x st' v g' w':=by
 cases h with
 | plain h =>
  obtain ⟨u,g',w',h1,h2⟩:=T9 hS h;exact So ⟨u,w',h1,g',h2⟩
 | call m d f xf args ts caps sr vs st1 res outs ho hd hf mj hp hc hr=>exact Ua hS ho hf mj hp hc hr
 | callB d f xf args ts caps sr vs res ho hd hf mj hp hc hpl hr=>exact Sp hS ho hf mj hp hc hpl hr
 | callI m d f xf args ts caps sr vs st1 outs s off ho hd hf mj hp hc hhd hr=>exact Sq hS ho hf mj hp hc hhd hr
 | callD d f xf args ts caps sr vs res ho hd hf mj hp hc hr=>exact Sr hS ho hf mj hp hc hr
 | callX m d f xf args ts az caps sr xs vs us st1 res outs ho hd hf mj hcat hp hq hc hr=>exact Sv hS ho hf mj hcat hp hq hc hr
 | callW d f r e lo m ts rows xf args tys sr vs ho hd hf mj hrw hp hc hr hst=>subst hr hst; exact Sy hS ho hf mj hrw hp hc
 | callM f xf args ts sr r ho hf mj hk hx hc hr hst=>subst hr hst; exact Ss hS ho hf mj hk hx hc
 | callR d f r e sz rows rows' xf args ts sr vs res ho hd hf mj hrw hp hpl hc hr hst=>subst hr hst; exact Su hS ho hf mj hrw hp hpl hc
theorem uX{st st2:St}{o:Oper}(h:∀ t,.tmp t∈o.op.operands.toList->st2.tm t=st.tm t):∀ y∈o.op.operands.toList,st2.eval y=st.eval y:=by
 intro y hy
 cases y with
 | tmp t=>simp only [St.eval]; rw [h t hy]
 | _=>rfl
theorem St.ext{s t:St}(h1:s.tm=t.tm)(h2:s.ob=t.ob)(h3:s.rw=t.rw):s=t:=by
 cases s; cases t; cases h1; cases h2; cases h3; rfl
theorem Wk{D:Ub}{a:A}(ho:∀ s,D.oR s/\D.oW s)(hr:∀ r,D.rR r/\D.rW r):a.argIn D p:=by
 unfold A.argIn
 split
 ·exact ⟨ho _,λ_=>hr⟩
 ·exact Eo hr _
theorem Y8{D:Ub}{y:Operand}{a:A}(hc:Cls ρ y a)(ho:∀ s,mj (zG ρ y).objs s->D.oR s/\D.oW s)(hr:∀ r,mj (wn p (zG ρ y)) (r / 65536)->D.rR r/\D.rW r)(hfit:∀ s off,a=.obj s off->zG ρ y=.obj s\/zG ρ y=.any) :
  (a.argIn D p)/\a.inR λr=>D.rR r/\D.rW r:=by
 have h2:a.inR λr=>D.rR r/\D.rW r:=by
  by_cases hob:(zG ρ y).isObj=true
  ·obtain ⟨s,off,rfl⟩:=hc.isob hob;unfold A.inR; trivial
  ·refine iL (λr h=>hr r ?_) hc.rows
   revert h hob
   cases zG ρ y <;> simp [wn,dR.isObj]
 refine ⟨?_,h2⟩;unfold A.argIn
 split
 ·rename_i s;refine ⟨ho s (hc.objs s 0 rfl),λhp r=>hr r ?_⟩;rcases hfit s 0 rfl with h | h <;> rw [h] <;> simp [wn,hp,mj,dR.rows]
 ·exact h2
theorem Y9{y:Operand}{s off:Nat}(hf:eN ρ st o=true)(hy:y∈o.op.operands.toList)(h:st.eval y=some (.obj s off)):zG ρ y=.obj s\/zG ρ y=.any:=by
 cases y with
 | tmp t =>
  simp only [St.eval,Option.some.injEq] at h;have:=aae.1 hf _ hy;simp only [h] at this;simp only [zG]
  revert this
  cases ρ t <;> simp [dR.fits]
 | const v=>exact absurd rfl ((Dy (Q:=λ_=>True) h).2 s off)
 | func f=>simp [St.eval] at h
 | global=>cases h
theorem Za{y:Operand}{f:FuncId}{caps:List A}(hf:eN ρ st o=true)(hy:y∈o.op.operands.toList)(h:st.eval y=some (.clo f caps)):caps=[]\/zG ρ y=.any:=by
 cases y with
 | tmp t =>
  simp only [St.eval,Option.some.injEq] at h;have:=aae.1 hf _ hy;simp only [h] at this;simp only [zG]
  revert this
  cases ρ t <;> simp [dR.fits]
 | const v =>
  simp only [St.eval] at h;unfold A.ofValue at h
  split at h
  ·split at h <;> cases h
  ·cases h
  ·unfold oF at h
   split at h <;> cases h
 | func f'=>simp only [St.eval,Option.some.injEq,A.clo.injEq] at h; exact .inl h.2.symm
 | global=>cases h
theorem Wj.loc(hf:eN ρ st o=true)(h:Wj P p ρ st o x st'):TZ (du p ρ o).dom st st' /\
  ∀ st2,(∀ t,.tmp t∈o.op.operands.toList->st2.tm t=st.tm t)->On (du p ρ o).dom st st2->∃ st2',Wj P p ρ st2 o x st2'/\TZ (du p ρ o).dom st2 st2'/\On (du p ρ o).dom st' st2':=by
 have hcls:∀ x∈o.op.operands.toList,∀ a,st.eval x=some a->Cls ρ x a:=λx hx a h=>XD hf hx h
 -- a call's parts
 have hcall:∀ {d f:Nat} {xf:Operand} {args:Array Operand} {ts:Array TypeId} {sr caps:List A},o.op=.call { callee:=.value xf,args,argTypes:=ts }->o.dst=some d->st.eval xf=some (.clo f caps)->dx (args.toList.map st.eval)=some sr ->
   (∀ y∈xf :: args.toList,y∈o.op.operands.toList)/\(∀ r,r / 65536=d->(du p ρ o).dom.rR r/\(du p ρ o).dom.rW r)/\((du p ρ o).dom.oR d/\(du p ρ o).dom.oW d) /\
   ∀ a∈sr++caps,a.argIn (du p ρ o).dom p/\a.inR λr=>(du p ρ o).dom.rR r/\(du p ρ o).dom.rW r:=by
  intro d f xf args ts sr caps ho hd hxf hass;have hf':du p ρ o=⟨GF (EW (o.op.operands.toList.map λx=>(zG ρ x).objs)) (l9 o.dst),GF (EW (o.op.operands.toList.map λx=>(zG ρ x).objs)) (l9 o.dst),
   GF (EW (o.op.operands.toList.map λx=>wn p (zG ρ x))) (l9 o.dst),GF (EW (o.op.operands.toList.map λx=>wn p (zG ρ x))) (l9 o.dst)⟩:=by simp only [du,ho]
  have hops:∀ y∈xf :: args.toList,y∈o.op.operands.toList:=λy hy=>by
   rw [ho];simp only [Op.operands,Call.operands]
   simpa using hy
  have hO:∀ y∈o.op.operands.toList,∀ s,mj (zG ρ y).objs s->(du p ρ o).dom.oR s/\(du p ρ o).dom.oW s:=λy hy s hs=>by
   rw [hf'];have:=nd (a:=EW (o.op.operands.toList.map λx=>(zG ρ x).objs)) (b:=l9 o.dst) |>.2 (.inl (MP (List.mem_map.2 ⟨y,hy,rfl⟩) hs))
   exact ⟨this,this⟩
  have hR:∀ y∈o.op.operands.toList,∀ r,mj (wn p (zG ρ y)) (r / 65536)->(du p ρ o).dom.rR r/\(du p ρ o).dom.rW r:=λy hy r hs=>by
   rw [hf'];have:=nd (a:=EW (o.op.operands.toList.map λx=>wn p (zG ρ x))) (b:=l9 o.dst) |>.2 (.inl (MP (List.mem_map.2 ⟨y,hy,rfl⟩) hs))
   exact ⟨this,this⟩
  refine ⟨hops,λr hr=>?_,?_,λa ha=>?_⟩
  ·rw [hf'];have:=nd (k:=r / 65536) (a:=EW (o.op.operands.toList.map λx=>wn p (zG ρ x))) (b:=l9 o.dst) |>.2 (.inr (by rw [hd]; simp [l9,mj,hr]))
   exact ⟨this,this⟩
  ·rw [hf'];have:=nd (k:=d) (a:=EW (o.op.operands.toList.map λx=>(zG ρ x).objs)) (b:=l9 o.dst) |>.2 (.inr (by rw [hd]; simp [l9,mj]))
   exact ⟨this,this⟩
  ·rcases aac.1 ha with ha | ha
   ·obtain ⟨hl,hg⟩:=tX hass;obtain ⟨i,hi⟩:=zZQ ha;obtain ⟨y,hy,he⟩:=hg i a hi;have hym:=hops y (zQk _ (zQY hy));exact Y8 (hcls y hym a he) (hO y hym) (hR y hym) (λs off h=>Y9 hf hym (h ▸ he))
   ·have hxm:=hops xf (zQg ..);rcases Za hf hxm hxf with h | h
    ·subst h; simp at ha
    ·have hOa:∀ s,(du p ρ o).dom.oR s/\(du p ρ o).dom.oW s:=λs=>hO xf hxm s (by rw [h]; trivial);have hRa:∀ r,(du p ρ o).dom.rR r/\(du p ρ o).dom.rW r:=λr=>hR xf hxm r (by rw [h]; trivial);exact ⟨Wk hOa hRa,Eo hRa a⟩
 cases h with
 | plain h =>
  obtain ⟨h1,h2⟩:=nS (ql P ρ st.eval o) (Y7 hcls) h;refine ⟨h1,λst2 ht hon=>?_⟩;obtain ⟨st2',h3,h4,h5⟩:=h2 st2 hon;refine ⟨st2',.plain ?_,h4,h5⟩;rw [Ug (uX ht)];exact h3
 | call m d f xf args ts caps sr vs st1 res outs ho hd hxf hass hp hc hr =>
  obtain ⟨hops,hdr,hdo,hin⟩:=hcall ho hd hxf hass;obtain ⟨h1,h2⟩:=nS (lp m p (sr++caps) MA.ret) (Hm (D:=(du p ρ o).dom) (λa ha=>(hin a ha).1) (λ_=>trivial)) hp;obtain ⟨h3,h4⟩:=nS (dK d (d7 (sr++caps)) outs (V.toA d (gj d 0) res MA.ret)) (Ac (D:=(du p ρ o).dom) hdr (λs hs=>Dx (λa ha=>(hin a ha).1) s hs) (Hn hdr hdo λ_=>trivial)) hr;refine ⟨h1.trans h3,λst2 ht hon=>?_⟩;obtain ⟨st3,h5,h6,h7⟩:=h2 st2 hon;obtain ⟨st4,h8,h9,h10⟩:=h4 st3 h7;have hev:=uX ht;refine ⟨st4,.call m d f xf args ts caps sr vs st3 res outs ho hd ((hev xf (hops xf (zQg ..))).trans hxf) ?_ h5 hc h8,h6.trans h9,h10⟩;rw [<- hass]
  congr 1
  exact zWh λy hy=>hev y (hops y (zQk _ hy))
 | callI m d f xf args ts caps sr vs st1 outs s off ho hd hxf hass hp hc hhd hr =>
  obtain ⟨hops,hdr,hdo,hin⟩:=hcall ho hd hxf hass;obtain ⟨h1,h2⟩:=nS (lp m p (sr++caps) MA.ret) (Hm (D:=(du p ρ o).dom) (λa ha=>(hin a ha).1) (λ_=>trivial)) hp;obtain ⟨h3,h4⟩:=nS (dK d (d7 (sr++caps)) outs (MA.ret (A.obj s off))) (Ac (D:=(du p ρ o).dom) hdr (λs hs=>Dx (λa ha=>(hin a ha).1) s hs) trivial) hr;refine ⟨h1.trans h3,λst2 ht hon=>?_⟩;obtain ⟨st3,h5,h6,h7⟩:=h2 st2 hon;obtain ⟨st4,h8,h9,h10⟩:=h4 st3 h7;have hev:=uX ht;refine ⟨st4,.callI m d f xf args ts caps sr vs st3 outs s off ho hd ((hev xf (hops xf (zQg ..))).trans hxf) ?_ h5 hc hhd h8,h6.trans h9,h10⟩;rw [<- hass]
  congr 1
  exact zWh λy hy=>hev y (hops y (zQk _ hy))
 | callB d f xf args ts caps sr vs res ho hd hxf hass hp hc hpl hr =>
  obtain ⟨hops,hdr,hdo,hin⟩:=hcall ho hd hxf hass;obtain ⟨h1,h2⟩:=nS (d8 (sr++caps) MA.ret) (ra (D:=⟨(du p ρ o).dom.oR,λ_=>False,(du p ρ o).dom.rR,λ_=>False⟩) (q9 λa ha=>iL (λr h=>h.1) (hin a ha).2) (λ_=>trivial)) hp;obtain ⟨h3,h4⟩:=nS (V.toA d (gj d 0) res MA.ret) (Hn (D:=(du p ρ o).dom) hdr hdo λ_=>trivial) hr;refine ⟨h3,λst2 ht hon=>?_⟩;obtain ⟨st3,h5,h6,h7⟩:=h2 st2 ⟨hon.ob,hon.rw⟩;have h32:st3=st2:=St.ext h6.tm (funext λs=>h6.ob s (λh=>h)) (funext λs=>h6.rw s (λh=>h));subst h32;obtain ⟨st4,h8,h9,h10⟩:=h4 st3 hon;have hev:=uX ht;refine ⟨st4,.callB d f xf args ts caps sr vs res ho hd ((hev xf (hops xf (zQg ..))).trans hxf) ?_ h5 hc hpl h8,h9,h10⟩;rw [<- hass]
  congr 1
  exact zWh λy hy=>hev y (hops y (zQk _ hy))
 | callD d f xf args ts caps sr vs res ho hd hxf hass hp hc hr =>
  obtain ⟨hops,hdr,hdo,hin⟩:=hcall ho hd hxf hass;obtain ⟨h1,h2⟩:=nS (d8 (sr++caps) MA.ret) (ra (D:=⟨(du p ρ o).dom.oR,λ_=>False,(du p ρ o).dom.rR,λ_=>False⟩) (q9 λa ha=>iL (λr h=>h.1) (hin a ha).2) (λ_=>trivial)) hp;obtain ⟨h3,h4⟩:=nS (V.toA d (gj d 0) res MA.ret) (Hn (D:=(du p ρ o).dom) hdr hdo λ_=>trivial) hr;refine ⟨h3,λst2 ht hon=>?_⟩;obtain ⟨st3,h5,h6,h7⟩:=h2 st2 ⟨hon.ob,hon.rw⟩;have h32:st3=st2:=St.ext h6.tm (funext λs=>h6.ob s (λh=>h)) (funext λs=>h6.rw s (λh=>h));subst h32;obtain ⟨st4,h8,h9,h10⟩:=h4 st3 hon;have hev:=uX ht;refine ⟨st4,.callD d f xf args ts caps sr vs res ho hd ((hev xf (hops xf (zQg ..))).trans hxf) ?_ h5 hc h8,h9,h10⟩;rw [<- hass]
  congr 1
  exact zWh λy hy=>hev y (hops y (zQk _ hy))
 | callX m d f xf args ts az caps sr xs vs us st1 res outs ho hd hxf hass hcat hp hq hc hr =>
  obtain ⟨hops,hdr,hdo,hin⟩:=hcall ho hd hxf hass;rw [hcat] at hin;obtain ⟨h1,h2⟩:=nS (lp m p sr MA.ret) (Hm (D:=(du p ρ o).dom) (λa ha=>(hin a (zVH _ ha)).1) (λ_=>trivial)) hp;obtain ⟨g1,g2⟩:=nS (d8 xs MA.ret) (ra (D:=⟨(du p ρ o).dom.oR,λ_=>False,(du p ρ o).dom.rR,λ_=>False⟩) (q9 λa ha=>iL (λr h=>h.1) (hin a (List.mem_append_right _ ha)).2) (λ_=>trivial)) hq;obtain ⟨h3,h4⟩:=nS (dK d (d7 sr) outs (V.toA d (gj d 0) res MA.ret)) (Ac (D:=(du p ρ o).dom) hdr (λs hs=>Dx (λa ha=>(hin a (zVH _ ha)).1) s hs) (Hn hdr hdo λ_=>trivial)) hr;refine ⟨h1.trans h3,λst2 ht hon=>?_⟩;obtain ⟨st3,h5,h6,h7⟩:=h2 st2 hon;obtain ⟨st5,g5,g6,g7⟩:=g2 st3 ⟨h7.ob,h7.rw⟩;have h53:st5=st3:=St.ext g6.tm (funext λs=>g6.ob s (λh=>h)) (funext λs=>g6.rw s (λh=>h));subst h53;obtain ⟨st4,h8,h9,h10⟩:=h4 st5 h7;have hev:=uX ht;refine ⟨st4,.callX m d f xf args ts az caps sr xs vs us st5 res outs ho hd ((hev xf (hops xf (zQg ..))).trans hxf) ?_ hcat h5 g5 hc h8,h6.trans h9,h10⟩;rw [<- hass]
  congr 1
  exact zWh λy hy=>hev y (hops y (zQk _ hy))
 | callW d f r e lo m ts rows xf args tys sr vs ho hd hxf hass hrw hp hc hr hst =>
  subst hr hst;obtain ⟨hops,hdr,hdo,hin⟩:=hcall (caps:=[]) ho hd hxf hass;have hr0:=(hin (.agg (ts.map A.t++[.own r])) eH).2;unfold A.inR at hr0;have hr1:(du p ρ o).dom.rR r/\(du p ρ o).dom.rW r:=by
   have key:∀ l:List T,eW (λr=>(du p ρ o).dom.rR r/\(du p ρ o).dom.rW r) (l.map A.t++[.own r])->(du p ρ o).dom.rR r/\(du p ρ o).dom.rW r:=by
    intro l
    induction l with
    | nil=>intro h; simp only [List.map_nil,zQz] at h; unfold eW at h; have:=h.1; unfold A.inR at this; exact this
    | cons x l ih=>intro h; simp only [zWy,zYX] at h; unfold eW at h; exact ih h.2
   exact key ts hr0
  refine ⟨TZ.refl _ _,λst2 ht hon=>⟨st2,?_,TZ.refl _ _,hon⟩⟩;have hev:=uX ht;refine .callW d f r e lo m ts rows xf args tys sr vs ho hd ((hev xf (hops xf (zQg ..))).trans hxf) ?_ ((hon.rw r hr1.1).trans hrw) hp hc rfl rfl;rw [<- hass]
  congr 1
  exact zWh λy hy=>hev y (hops y (zQk _ hy))
 | callM f xf args ts sr r ho hxf hass hk hx hc hr hst =>
  subst hr hst;refine ⟨TZ.refl _ _,λst2 ht hon=>⟨st2,?_,TZ.refl _ _,hon⟩⟩;have hev:=uX ht;have hops:∀ y∈xf :: args.toList,y∈o.op.operands.toList:=λy hy=>by
   rw [ho];simp only [Op.operands,Call.operands]
   simpa using hy
  refine .callM f xf args ts sr r ho ((hev xf (hops xf (zQg ..))).trans hxf) ?_ hk hx hc rfl rfl;rw [<- hass]
  congr 1
  exact zWh λy hy=>hev y (hops y (zQk _ hy))
 | callR d f r e sz rows rows' xf args ts sr vs res ho hd hxf hass hrw hp hpl hc hr hst =>
  subst hr hst;obtain ⟨hops,hdr,hdo,hin⟩:=hcall (caps:=[]) ho hd hxf hass;have hr0:=(hin (.own r) eH).2;unfold A.inR at hr0;obtain ⟨h1,h2⟩:=nS (d8 sr MA.ret) (ra (D:=⟨(du p ρ o).dom.oR,λ_=>False,(du p ρ o).dom.rR,λ_=>False⟩) (q9 λa ha=>iL (λr h=>h.1) (hin a (by simp [ha])).2) (λ_=>trivial)) hp;refine ⟨⟨rfl,λ_ _=>rfl,λi hi=>ci _ _ _ _ (λhe=>hi (he ▸ hr0.2))⟩,λst2 ht hon=>?_⟩;obtain ⟨st3,h5,h6,h7⟩:=h2 st2 ⟨hon.ob,hon.rw⟩;have h32:st3=st2:=St.ext h6.tm (funext λs=>h6.ob s (λh=>h)) (funext λs=>h6.rw s (λh=>h));subst h32;have hev:=uX ht;refine ⟨_,.callR d f r e sz rows rows' xf args ts sr vs res ho hd ((hev xf (hops xf (zQg ..))).trans hxf) ?_ ((hon.rw r hr0.1).trans hrw) h5 hpl hc rfl rfl,⟨rfl,λ_ _=>rfl,λi hi=>ci _ _ _ _ (λhe=>hi (he ▸ hr0.2))⟩,⟨hon.ob,λi hi=>Uc (hon.rw i hi)⟩⟩;rw [<- hass]
  congr 1
  exact zWh λy hy=>hev y (hops y (zQk _ hy))
end
def jc(ops:Array Oper)(st:St)(o:Oper):Option Bool:=match o.guard with
 | none=>some true
 | some (j,want)=>match (ops[j]?).bind (·.dst) with
  | none=>some false
  | some d=>match st.tm d with
   | .t (.bool b)=>some (b == want)
   | .tup []=>some false
   | _=>none
def Zb(ops:Array Oper)(o:Oper):List Nat:=match o.guard with
 | none=>[]
 | some (j,_)=>((ops[j]?).bind (·.dst)).toList
inductive Ad (P:Program) (p:Nat->Bool) (ρ:Nat->dR) (ops:Array Oper) (o:Oper) (st:St):St->Prop
 | run (x:A) (st1:St) (hg:jc ops st o=some true) (hf:eN ρ st o=true) (h:Wj P p ρ st o x st1):Ad P p ρ ops o st (st1.put o.dst x)
 | skip (hg:jc ops st o=some false):Ad P p ρ ops o st (st.put o.dst (.tup []))
section
variable {P:Program} {E:En} [Tb P E] {g:Gh} {st st':St} {a:Act} {w:World} {p:Nat->Bool} {ρ:Nat->dR} {o:Oper} {x:A} {ops:Array Oper}
theorem Ki{st2:St}(h:∀ d∈Zb ops o,st2.tm d=st.tm d):jc ops st2 o=jc ops st o:=by
 unfold jc Zb at *
 split
 ·rfl
 ·rename_i j want hg;simp only [hg] at h
  split
  ·rfl
  ·rename_i d hd;simp only [hd,Option.toList] at h;rw [h d eH]
theorem QP{st2:St}(h:∀ t,.tmp t∈o.op.operands.toList->st2.tm t=st.tm t):eN ρ st2 o=eN ρ st o:=by
 unfold eN
 revert h
 generalize o.op.operands.toList=l;intro h
 induction l with
 | nil=>rfl
 | cons y l ih =>
  simp only [List.all_cons];rw [ih λt ht=>h t (zQk _ ht)]
  cases y with
  | tmp t=>simp only [h t (zQg ..)]
  | _=>rfl
def Vt(D:Ub)(dst:Option Nat)(st st':St):Prop:=(∀ t,dst≠some t->st'.tm t=st.tm t)/\(∀ s,¬ D.oW s->st'.ob s=st.ob s)/\∀ r,¬ D.rW r->st'.rw r=st.rw r
theorem MR{d:Option Nat}{v:A}{t:Nat}(h:d≠some t):(st.put d v).tm t=st.tm t:=by
 cases d with
 | none=>rfl
 | some d=>exact ci _ _ _ _ (λhe=>h (he ▸ rfl))
theorem Es{d:Nat}{v:A}:(st.put (some d) v).tm d=v:=dk _ _ _
theorem B5{d:Option Nat}{v:A}:(st.put d v).ob=st.ob:=by cases d <;> rfl
theorem B6{d:Option Nat}{v:A}:(st.put d v).rw=st.rw:=by cases d <;> rfl
theorem Ad.loc(h:Ad P p ρ ops o st st'):Vt (du p ρ o).dom o.dst st st' /\
  ∀ st2,(∀ t,.tmp t∈o.op.operands.toList->st2.tm t=st.tm t)->(∀ d∈Zb ops o,st2.tm d=st.tm d)->On (du p ρ o).dom st st2 ->
   ∃ st2',Ad P p ρ ops o st2 st2'/\(∀ t,o.dst=some t->st2'.tm t=st'.tm t)/\Vt (du p ρ o).dom o.dst st2 st2'/\On (du p ρ o).dom st' st2':=by
 cases h with
 | run x st1 hg hf h =>
  obtain ⟨h1,h2⟩:=h.loc hf;refine ⟨⟨λt ht=>by rw [MR ht,h1.tm],λs hs=>by rw [B5]; exact h1.ob s hs,λs hs=>by rw [B6]; exact h1.rw s hs⟩,λst2 ht hd hon=>?_⟩;obtain ⟨st2',h3,h4,h5⟩:=h2 st2 ht hon;refine ⟨_,.run x st2' ((Ki hd).trans hg) ((QP ht).trans hf) h3,λt he=>?_,⟨λt ht=>by rw [MR ht,h4.tm],λs hs=>by rw [B5]; exact h4.ob s hs,λs hs=>by rw [B6]; exact h4.rw s hs⟩,⟨λs hs=>by rw [B5,B5]; exact h5.ob s hs,λs hs=>by rw [B6,B6]; exact h5.rw s hs⟩⟩;rw [he,Es,Es]
 | skip hg =>
  refine ⟨⟨λt ht=>MR ht,λs hs=>by rw [B5],λs hs=>by rw [B6]⟩,λst2 ht hd hon=>?_⟩;refine ⟨_,.skip ((Ki hd).trans hg),λt he=>by rw [he,Es,Es],⟨λt ht=>MR ht,λs hs=>by rw [B5],λs hs=>by rw [B6]⟩,⟨λs hs=>by rw [B5,B5]; exact hon.ob s hs,λs hs=>by rw [B6,B6]; exact hon.rw s hs⟩⟩
def Wl(a b:Option (List Nat)):Bool:=match a,b with
 | some [],_=>true
 | _,some []=>true
 | some a,some b=>a.all λx=>!b.contains x
 | _,_=>false
theorem Et{a b:Option (List Nat)}(h:Wl a b=true){k:Nat}(ha:mj a k):¬ mj b k:=by
 intro hb;unfold Wl at h
 split at h
 ·simp [mj] at ha
 ·simp [mj] at hb
 ·have:=aae.1 h k ha;simp at this;exact this hb
 ·cases h
def B7(ops:Array Oper)(o:Oper):List Nat:=Zb ops o++o.op.operands.toList.filterMap λ| .tmp t=>some t | _=>none
def MS(d:Option Nat)(l:List Nat):Bool:=match d with | some d=>l.contains d | none=>false
def SC(p:Nat->Bool)(ρ:Nat->dR)(ops:Array Oper)(o1 o2:Oper):Bool :=
 !MS o1.dst (o2.dst.toList++B7 ops o2) && !MS o2.dst (B7 ops o1) && Wl (du p ρ o1).oW (du p ρ o2).oR && Wl (du p ρ o2).oW (du p ρ o1).oR &&
  Wl (du p ρ o1).rW (du p ρ o2).rR && Wl (du p ρ o2).rW (du p ρ o1).rR
theorem Ho{t:Nat}(h:.tmp t∈o.op.operands.toList):t∈B7 ops o:=by
 unfold B7;exact aac.2 (.inr (List.mem_filterMap.2 ⟨_,h,rfl⟩))
theorem Zc{o1 o2:Oper}{b:St}{c:St}(hi:SC p ρ ops o1 o2=true)(h2:Ad P p ρ ops o2 st b)(h1:Ad P p ρ ops o1 b c):∃ b',Ad P p ρ ops o1 st b'/\Ad P p ρ ops o2 b' c:=by
 simp only [SC,sk,Bool.not_eq_true'] at hi;obtain ⟨⟨⟨⟨⟨hd1,hd2⟩,ho12⟩,ho21⟩,hr12⟩,hr21⟩:=hi;have hn1:∀ t,o1.dst=some t->t∉o2.dst.toList/\t∉B7 ops o2:=λt ht=>by
  rw [ht] at hd1;simp [MS] at hd1;exact ⟨by simpa using hd1.1,hd1.2⟩
 have hn2:∀ t,o2.dst=some t->t∉B7 ops o1:=λt ht=>by
  rw [ht] at hd2
  simpa [MS] using hd2
 obtain ⟨a1,a2⟩:=h2.loc;obtain ⟨b1,b2⟩:=h1.loc;have e1:=Md p ρ o1;have e2:=Md p ρ o2;have hO12:∀ s,(du p ρ o1).dom.oW s->¬ (du p ρ o2).dom.oR s:=λs=>Et ho12;have hO21:∀ s,(du p ρ o2).dom.oW s->¬ (du p ρ o1).dom.oR s:=λs=>Et ho21;have hR12:∀ r,(du p ρ o1).dom.rW r->¬ (du p ρ o2).dom.rR r:=λs=>Et hr12;have hR21:∀ r,(du p ρ o2).dom.rW r->¬ (du p ρ o1).dom.rR r:=λs=>Et hr21;obtain ⟨b',c1,c2,c3,c4⟩:=b2 st (λt ht=>(a1.1 t (λhe=>hn2 t he (Ho ht))).symm) (λt ht=>(a1.1 t (λhe=>hn2 t he (aac.2 (.inl ht)))).symm)
  ⟨λs hs=>(a1.2.1 s (λhw=>hO21 s hw hs)).symm,λs hs=>(a1.2.2 s (λhw=>hR21 s hw hs)).symm⟩
 obtain ⟨c',f1,f2,f3,f4⟩:=a2 b' (λt ht=>c3.1 t (λhe=>(hn1 t he).2 (Ho ht))) (λt ht=>c3.1 t (λhe=>(hn1 t he).2 (aac.2 (.inl ht))))
  ⟨λs hs=>c3.2.1 s (λhw=>hO12 s hw hs),λs hs=>c3.2.2 s (λhw=>hR12 s hw hs)⟩
 have hcc:c'=c:=by
  refine St.ext (funext λt=>?_) (funext λs=>?_) (funext λr=>?_)
  ·by_cases h2t:o2.dst=some t
   ·rw [f2 t h2t];exact (b1.1 t (λhe=>(hn1 t he).1 (by rw [h2t]; simp))).symm
   ·by_cases h1t:o1.dst=some t
    ·rw [f3.1 t h2t,c2 t h1t]
    ·rw [f3.1 t h2t,c3.1 t h1t,b1.1 t h1t,a1.1 t h2t]
  ·by_cases h2s:(du p ρ o2).dom.oW s
   ·rw [f4.ob s (e2.ob s h2s)];exact (b1.2.1 s (λhw=>hO12 s hw (e2.ob s h2s))).symm
   ·by_cases h1s:(du p ρ o1).dom.oW s
    ·rw [f3.2.1 s h2s,c4.ob s (e1.ob s h1s)]
    ·rw [f3.2.1 s h2s,c3.2.1 s h1s,b1.2.1 s h1s,a1.2.1 s h2s]
  ·by_cases h2s:(du p ρ o2).dom.rW r
   ·rw [f4.rw r (e2.rw r h2s)];exact (b1.2.2 r (λhw=>hR12 r hw (e2.rw r h2s))).symm
   ·by_cases h1s:(du p ρ o1).dom.rW r
    ·rw [f3.2.2 r h2s,c4.rw r (e1.rw r h1s)]
    ·rw [f3.2.2 r h2s,c3.2.2 r h1s,b1.2.2 r h1s,a1.2.2 r h2s]
 exact ⟨b',c1,hcc ▸ f1⟩
def sA(P:Program)(p:Nat->Bool)(ρ:Nat->dR)(ops:Array Oper)(i:Nat)(st st':St):Prop:=match ops[i]? with
 | some o=>Ad P p ρ ops o st st'
 | none=>st'=st
def MT(P:Program)(p:Nat->Bool)(ρ:Nat->dR)(ops:Array Oper):List Nat->St->St->Prop
 | [],st,st'=>st'=st
 | i :: l,st,st'=>∃ b,sA P p ρ ops i st b/\MT P p ρ ops l b st'
def uY(p:Nat->Bool)(ρ:Nat->dR)(ops:Array Oper)(i j:Nat):Bool:=match ops[i]?,ops[j]? with
 | some a,some b=>SC p ρ ops a b
 | _,_=>true
theorem Hp{i j:Nat}{b c:St}(hi:uY p ρ ops i j=true)(h2:sA P p ρ ops j st b)(h1:sA P p ρ ops i b c):∃ b',sA P p ρ ops i st b'/\sA P p ρ ops j b' c:=by
 unfold sA uY at *
 revert h1 h2 hi
 cases ops[i]? <;> cases ops[j]? <;> simp only [] <;> intro hi h2 h1
 ·exact ⟨st,rfl,by rw [h1,h2]⟩
 ·exact ⟨st,rfl,by rw [h1]; exact h2⟩
 ·exact ⟨c,h2 ▸ h1,rfl⟩
 ·exact Zc hi h2 h1
theorem pull{i:Nat}:∀ {l:List Nat} {st st':St},i∈l->(∀ l1 l2,l=l1++i :: l2->i∉l1->∀ j∈l1,uY p ρ ops i j=true)->MT P p ρ ops l st st'->∃ b,sA P p ρ ops i st b/\MT P p ρ ops (l.erase i) b st'
 | [],st,st',h,_,_=>by simp at h
 | j :: l,st,st',h,hind,hr=>by
  by_cases he:i=j
  ·subst he;rw [List.erase_cons_head];exact hr
  ·obtain ⟨b,h1,h2⟩:=hr;have him:i∈l:=(aag.1 h).resolve_left he;obtain ⟨c,h3,h4⟩:=pull him (λl1 l2 hl hni j' hj'=>hind (j :: l1) l2 (by rw [hl]; rfl) (by simp [he,hni]) j' (zQk _ hj')) h2;have hij:uY p ρ ops i j=true:=by
    obtain ⟨l1,l2,hl,hni⟩:=List.eq_append_cons_of_mem him;exact hind (j :: l1) l2 (by rw [hl]; rfl) (by simp [he,hni]) j (zQg ..)
   obtain ⟨d,h5,h6⟩:=Hp hij h1 h3;refine ⟨d,h5,?_⟩;rw [List.erase_cons_tail (by simpa using λh=>he h.symm)];exact ⟨c,h6,h4⟩
end
section
variable {P:Program} {E:En} [Tb P E] {g:Gh} {st st':St} {a:Act} {w:World} {p:Nat->Bool} {ρ:Nat->dR} {o:Oper} {x:A} {ops:Array Oper} {n:Nat}
theorem fm.put(h:fm E g st w)(d:Option Nat)(v:A):fm E g (st.put d v) w:=by
 cases d with
 | none=>exact h
 | some d=>exact ⟨h.ob,h.obne,h.row,h.rowne,h.rowob,h.F,h.os,h.tape,h.output,h.sizes,h.frame,h.shp,h.dep0⟩
theorem jq.put{v:Value}{g':Gh}{w':World}{st1:St}{d:Option Nat}(hS:jq E g n st a w)(h:yi E g st w x st1 v g' w')(hd:∀ t,d=some t->t < n):jq E g' n (st1.put d x) (a.put d v) w':=by
 refine ⟨h.mem.put d x,?_,?_,λi hi=>?_,λi hi=>?_,λs b hs=>?_,λv' hv'=>by
  obtain ⟨h1,h2⟩:=hS.pin v' hv';exact ⟨by unfold St.R; rw [B6]; exact (h.ext.R _ h1).1,(h.ext.R _ h1).2.trans h2⟩⟩
 ·cases d <;> simp [Act.put,hS.size]
 ·cases d <;> simp [Act.put,hS.defers]
 ·cases d with
  | none =>
   obtain ⟨u,h1,h2⟩:=hS.tm i hi;exact ⟨u,h1,by show VR w' g' st1.O st1.R (st1.tm i) u; rw [h.tm]; exact h2.mono h.ext⟩
  | some d =>
   by_cases he:d=i
   ·subst he;exact ⟨v,by simp [Act.put,hS.size,hi],by show VR w' g' st1.O st1.R (eI st1.tm d x d) v; rw [dk]; exact h.vr⟩
   ·obtain ⟨u,h1,h2⟩:=hS.tm i hi;refine ⟨u,by simp only [Act.put]; rw [Array.getElem?_setIfInBounds_ne he]; exact h1,?_⟩;show VR w' g' st1.O st1.R (eI st1.tm d x i) u;rw [ci _ _ _ _ (λh=>he h.symm),h.tm];exact h2.mono h.ext
 ·rw [MR (λhe=>by have:=hd i he; omega),h.tm];exact hS.und i hi
 ·obtain ⟨h1,h2⟩:=hS.lent s b hs;refine ⟨?_,(h.ext.O s h1).2.trans h2⟩;unfold St.O;rw [B5];exact (h.ext.O s h1).1
theorem jq.skip{d:Option Nat}(hS:jq E g n st a w)(hd:∀ t,d=some t->t < n):jq E g n (st.put d (.tup [])) (a.put d undef) w:=by
 refine hS.put ⟨hS.mem,?_,rt.refl _ _ _ _,rfl⟩ hd;exact .tup [] [] rfl (λi x u h=>by simp at h)
theorem jq.drew(hS:jq E g n st a w):jq E g n st a { w with drawn:=w.drawn+1 }:=by
 have hsame:yT g.F w { w with drawn:=w.drawn+1 }:=λ_ _=>rfl;obtain ⟨⟨h1,h2,h3,h4,h5,h6,h7,h8,h9,h10,h11,hsp,hd0⟩,h12,h13,h14,h15,h16,h17⟩:=hS;have hE:rt w { w with drawn:=w.drawn+1 } g g st.O st.R st.O st.R:=⟨hsame,λ_ h=>h,λ_ h=>⟨h,rfl⟩,λ_ h=>⟨h,rfl⟩,⟨rfl,rfl,rfl⟩,rfl,rfl⟩;refine ⟨⟨λs cells hs=>?_,h2,λr x hr=>(h3 r x hr).mono hsame (λ_ h=>h) (λ_ b hb=>⟨rfl,λh=>h⟩),h4,h5,h6,h7,h8,h9,h10,h11,hsp,hd0⟩,h12,h13,λi hi=>?_,h15,h16,h17⟩
 ·obtain ⟨arr,e,q1,q2,q3,q4⟩:=h1 s cells hs;exact ⟨arr,e,q1,q2,λj x hj=>by obtain ⟨r1,v,r2,r3⟩:=q3 j x hj; exact ⟨r1,v,r2,r3.mono hE⟩,q4⟩
 ·obtain ⟨v,q1,q2⟩:=h14 i hi;exact ⟨v,q1,q2.mono hE⟩
theorem Qa{b:Bool}(hS:jq E g n st a w)(h:jc ops st o=some b):Region.wanted o (yielded ops a.tmps)=b:=by
 unfold jc at h;unfold Region.wanted
 split at h
 ·rename_i hg
  cases h
  simp only [hg]
 ·rename_i j want hg;simp only [hg]
  split at h
  ·rename_i hd
   cases h
   simp [yielded,hd]
  ·rename_i d hd;have hlt:d < n:=by
    rcases Nat.lt_or_ge d n with hlt | hge
    ·exact hlt
    ·rw [hS.und d hge] at h; cases h
   obtain ⟨v,h1,h2⟩:=hS.tm d hlt
   split at h
   ·rename_i b' hb
    cases h
    rw [hb] at h2
    cases h2 with
    | t x v h3 =>
     cases h3
     simp [yielded,hd,h1]
   ·rename_i hb
    cases h
    rw [hb] at h2
    cases h2 with
    | tup l vs hl hx =>
     have:vs=[]:=zQQ (by simpa using hl.symm);subst this;simp [yielded,hd,h1]
   ·cases h
def og(n:Nat)(o:Oper):Bool:=match o.dst with | some d=>Nat.blt d n | none=>true
theorem MU(h:og n o=true):∀ t,o.dst=some t->t < n:=by
 intro t ht;rw [og,ht] at h
 simpa using h
theorem yU{i:Nat}{K:Act->World->Prop}{Q:Exit->Act->World->Prop}(hS:jq E g n st a w)(hd:∀ o,ops[i]?=some o->og n o=true)(h:sA P p ρ ops i st st')
  (hK:∀ g' a' w',jq E g' n st' a' w'->K a' w'):wpOp P ops Q i K a w:=by
 unfold wpOp;unfold sA at h
 split
 ·rename_i ho;rw [ho] at h;simp only at h;subst h;exact hK g a w hS
 ·rename_i o ho;rw [ho] at h;simp only at h;have hdo:=MU (hd o ho)
  cases h with
  | run x st1 hg hf he =>
   rw [Qa hS hg,if_pos rfl];exact .inl (he.sound hS K Q λv w' ⟨g',hA⟩=>hK g' _ _ (hS.put hA hdo))
  | skip hg =>
   rw [Qa hS hg,if_neg eH];exact hK g _ _ (hS.skip hdo)
theorem Qb{Q:Exit->Act->World->Prop}(hd:∀ (i:Nat) (o:Oper),ops[i]?=some o->og n o=true)(hQ:∀ g a w,jq E g n st' a w->Q .normal a w):∀ {l:List Nat} {st:St} {g:Gh} {a:Act} {w:World},jq E g n st a w->MT P p ρ ops l st st'->wpOps P ops Q l a w
 | [],st,g,a,w,hS,h=>hQ g a w (by have h:st'=st:=h; rw [h]; exact hS)
 | i :: l,st,g,a,w,hS,⟨b,h1,h2⟩=>by
  rw [wpOps_cons];exact yU hS (hd i) h1 λg' a' w' hS'=>Qb hd hQ hS' h2
def XH(D:Array Nat)(o:Oper):Nat:=o.after.toList.foldl (λs e=>if Region.binds .any e then s ||| 2 ^ e.on ||| D.getD e.on 0 else s) 0
def MV(p:Nat->Bool)(ρ:Nat->dR)(n:Nat)(ops:Array Oper):Bool :=
 let D:=Region.before ops
 (zWj ops.size).all λi=>match ops[i]? with
  | none=>true
  | some o=>og n o && (o.after.toList.all λe=>!Region.binds .any e || Nat.blt e.on i) && zXW (D.getD i 0) (XH D o) && (zWj i).all λj=>(D.getD i 0).testBit j || uY p ρ ops i j
theorem Qc{D:Array Nat}{j:Nat}:∀ {l:List Edge} {s:Nat},(l.foldl (λs e=>if Region.binds .any e then s ||| 2 ^ e.on ||| D.getD e.on 0 else s) s).testBit j=true->s.testBit j=true\/∃ e∈l,Region.binds .any e=true/\(e.on=j\/(D.getD e.on 0).testBit j=true)
 | [],s,h=>.inl h
 | e :: l,s,h=>by
  simp only [zYw] at h;rcases Qc h with h | ⟨e',he',h⟩
  ·split at h
   ·rename_i hb;simp only [Nat.testBit_or,Bool.or_eq_true] at h;rcases h with (h | h) | h
    ·exact .inl h
    ·rw [Nat.testBit_two_pow] at h;exact .inr ⟨e,zQg ..,hb,.inl (by simpa using h)⟩
    ·exact .inr ⟨e,zQg ..,hb,.inr h⟩
   ·exact .inl h
  ·exact .inr ⟨e',zQk _ he',h⟩
structure Hq (p:Nat->Bool) (ρ:Nat->dR) (n:Nat) (ops:Array Oper) (D:Array Nat):Prop where
 dst:∀ (i:Nat) (o:Oper),ops[i]?=some o->og n o=true
 back:∀ (i:Nat) (o:Oper),ops[i]?=some o->∀ e∈o.after,Region.binds .any e=true->e.on < i
 dep:∀ (i:Nat) (o:Oper),ops[i]?=some o->∀ j,(D.getD i 0).testBit j=true->∃ e∈o.after,Region.binds .any e=true/\(e.on=j\/(D.getD e.on 0).testBit j=true)
 ind:∀ (i j:Nat) (o:Oper),ops[i]?=some o->j < i->(D.getD i 0).testBit j=true\/uY p ρ ops i j=true
theorem MW(h:MV p ρ n ops=true):Hq p ρ n ops (Region.before ops):=by
 have hh:∀ (i:Nat) (o:Oper),ops[i]?=some o->((og n o=true/\(o.after.toList.all λe=>!Region.binds .any e || Nat.blt e.on i)=true)/\zXW ((Region.before ops).getD i 0) (XH (Region.before ops) o)=true)/\((zWj i).all λj=>((Region.before ops).getD i 0).testBit j || uY p ρ ops i j)=true:=λi o hi=>by
  have hlt:i < ops.size:=(aaf.1 hi).1;have:=aae.1 h i (List.mem_range.2 hlt);rw [hi] at this
  simpa only [sk] using this
 refine ⟨λi o hi=>(hh i o hi).1.1.1,λi o hi e he hb=>?_,λi o hi j hj=>?_,λi j o hi hj=>?_⟩
 ·have:=aae.1 (hh i o hi).1.1.2 e (by simpa using he);rw [hb] at this
  simpa using this
 ·rw [zWv (hh i o hi).1.2] at hj;rcases Qc hj with h | ⟨e,he,h⟩
  ·simp at h
  ·exact ⟨e,by simpa using he,h⟩
 ·have:=aae.1 (hh i o hi).2 j (List.mem_range.2 hj)
  simpa only [Bool.or_eq_true] using this
def qar(ops:Array Oper)(listed:Array Bool):Prop:=∀ (k:Nat) (o:Oper),listed.getD k false=true->ops[k]?=some o->∀ e∈o.after,Region.binds .any e=true->listed.getD e.on false=true
theorem closed{D:Array Nat}{listed:Array Bool}(hF:Hq p ρ n ops D)(hd:qar ops listed):∀ (i:Nat) (o:Oper),ops[i]?=some o->(∀ e∈o.after,Region.binds .any e=true->listed.getD e.on false=true)->∀ j,(D.getD i 0).testBit j=true->listed.getD j false=true:=by
 intro i
 induction i using Nat.strongRecOn with
 | _ i ih =>
  intro o ho hall j hj;obtain ⟨e,he,hb,h⟩:=hF.dep i o ho j hj;rcases h with rfl | h
  ·exact hall e he hb
  ·have hlt:e.on < i:=hF.back i o ho e he hb;have hlt2:e.on < ops.size:=Nat.lt_trans hlt (aaf.1 ho).1;exact ih e.on hlt _ (zXX hlt2) (hd e.on _ (hall e he hb) (zXX hlt2)) j h
def rem(ops:Array Oper)(listed:Array Bool):List Nat:=(zWj ops.size).filter λi=>!listed.getD i true
theorem tk{listed:Array Bool}{i:Nat}:i∈rem ops listed↔i < ops.size/\listed.getD i true=false:=by
 simp [rem]
theorem Me{listed:Array Bool}{i:Nat}(hs:listed.size=ops.size)(hi:i∈rem ops listed):rem ops (listed.setIfInBounds i true)=(rem ops listed).erase i:=by
 have hnd:(rem ops listed).Nodup:=List.Pairwise.filter _ List.nodup_range;rw [hnd.erase_eq_filter];unfold rem;rw [List.filter_filter];refine List.filter_congr λj hj=>?_
 by_cases he:i=j
 ·subst he;have:i < listed.size:=by rw [hs]; exact List.mem_range.1 hj
  simp [this]
 ·rw [getD_set_ne true he];have hji:(j != i)=true:=by simpa using λh:j=i=>he h.symm
  simp only [hji,zWz,Bool.and_true]
theorem Mf{listed:Array Bool}{k:Nat}(hlt:k < listed.size):listed.getD k true=listed.getD k false:=by
 simp [hlt]
theorem Wm{D:Array Nat}{Q:Exit->Act->World->Prop}(hF:Hq p ρ n ops D)(hQ:∀ g a w,jq E g n st' a w->Q .normal a w) :
  ∀ (fuel:Nat) (listed:Array Bool) (st:St) (g:Gh) (a:Act) (w:World),listed.size=ops.size->qar ops listed->(rem ops listed).length=fuel->MT P p ρ ops (rem ops listed) st st'->jq E g n st a w->wpAny P .any ops Q fuel listed a w:=by
 intro fuel
 induction fuel with
 | zero =>
  intro listed st g a w hs hd hl hr hS;have h0:rem ops listed=[]:=zQQ hl;rw [h0] at hr;have hr:st'=st:=hr;refine ⟨?_,hQ g a w (hr ▸ hS)⟩;refine List.eq_nil_iff_forall_not_mem.2 λj hj=>?_;obtain ⟨h1,o,ho,_⟩:=mem_ready.1 hj;have:j∈rem ops listed:=tk.2 ⟨(aaf.1 ho).1,h1⟩;rw [h0] at this;simp at this
 | succ fuel ih =>
  intro listed st g a w hs hd hl hr hS;have hsorted:(rem ops listed).Pairwise (· < ·):=List.Pairwise.filter _ List.pairwise_lt_range;refine ⟨λhnil=>?_,λi hi=>?_⟩
  ·exfalso
   cases hrem:rem ops listed with
   | nil=>rw [hrem] at hl; cases hl
   | cons i l =>
    have him:i∈rem ops listed:=by rw [hrem]; simp
    obtain ⟨hlt,hun⟩:=tk.1 him;have:i∈Region.ready .any ops listed:=by
     refine mem_ready.2 ⟨hun,_,zXX hlt,λe he hb=>?_⟩;have hlt2:=hF.back i _ (zXX hlt) e he hb;have hlt3:e.on < listed.size:=by omega
     cases hee:listed.getD e.on false with
     | true=>rfl
     | false =>
      have hm:e.on∈rem ops listed:=tk.2 ⟨by omega,by rw [Mf hlt3]; exact hee⟩;rw [hrem] at hm hsorted;rcases aag.1 hm with h | h
      ·omega
      ·have:=(List.pairwise_cons.1 hsorted).1 _ h;omega
    rw [hnil] at this;simp at this
  ·obtain ⟨hun,o,ho,hall⟩:=mem_ready.1 hi;have hlt:i < ops.size:=(aaf.1 ho).1;have him:i∈rem ops listed:=tk.2 ⟨hlt,hun⟩;obtain ⟨b,h1,h2⟩:=pull him (λl1 l2 hsplit hni j hj=>by
    have hjm:j∈rem ops listed:=by rw [hsplit]; exact aac.2 (.inl hj)
    have hji:j < i:=by
     rw [hsplit] at hsorted;exact (List.pairwise_append.1 hsorted).2.2 j hj i (zQg ..)
    rcases hF.ind i j o ho hji with h | h
    ·have h3:=closed hF hd i o ho hall j h;have h4:=(tk.1 hjm).2;rw [Mf (by rw [hs]; exact (tk.1 hjm).1),h3] at h4
     cases h4
    ·exact h) hr
   refine yU hS (hF.dst i) h1 λg' a' w' hS'=>ih (listed.setIfInBounds i true) b g' a' w' (by simp [hs]) ?_ ?_ ?_ hS'
   ·intro k o' hk ho' e he hb
    by_cases hik:i=k
    ·subst hik;rw [ho] at ho';injection ho' with ho'
     subst ho';exact getD_set_true (hall e he hb)
    ·rw [getD_set_ne false hik] at hk;exact getD_set_true (hd k o' hk ho' e he hb)
   ·rw [Me hs him,List.length_erase_of_mem him,hl];rfl
   ·rw [Me hs him];exact h2
def Dc(P:Program)(p:Nat->Bool)(ρ:Nat->dR)(ops:Array Oper):List Oper->St->St->Prop
 | [],st,st'=>st'=st
 | o :: l,st,st'=>∃ b,Ad P p ρ ops o st b/\Dc P p ρ ops l b st'
theorem ym:∀ {l:List Oper} {k:Nat} {st:St},(∀ j,l[j]?=ops[k+j]?)->Dc P p ρ ops l st st'->MT P p ρ ops (zWx k l.length) st st'
 | [],k,st,_,h=>h
 | o :: l,k,st,hl,⟨b,h1,h2⟩=>by
  refine ⟨b,?_,ym (k:=k+1) (λj=>by have:=hl (j+1); simpa [zZW,Nat.add_comm 1 j] using this) h2⟩;have:=hl 0;simp at this;unfold sA;rw [<- this];exact h1
theorem QQ{Q:Exit->Act->World->Prop}{id:Nat}{draw:Bool}(hm:draw=true->P.follows .mixedOrders=true)(hok:if draw then MV p ρ n ops=true else ops.toList.all (og n)=true)
  (hS:jq E g n st a w) (hr:Dc P p ρ ops ops.toList st st') (hQ:∀ g a w,jq E g n st' a w->Q .normal a w):(Code.region id ops draw).wp P Q a w:=by
 have hrI:MT P p ρ ops (zWj ops.size) st st':=by
  have:=ym (k:=0) (l:=ops.toList) eH hr;rw [zXj]
  simpa using this
 cases draw with
 | false =>
  refine wp_region (Qb (λi o ho=>?_) hQ hS hrI);exact aae.1 (show ops.toList.all (og n)=true from hok) o (by simpa using Array.mem_of_getElem? ho)
 | true =>
  have hF:=MW (by simpa using hok);have hrem:rem ops (zZy ops.size false)=zWj ops.size:=by
   unfold rem;refine List.filter_eq_self.2 λi hi=>?_;have:i < ops.size:=List.mem_range.1 hi;simp [this]
  refine wp_region_any (hm rfl) (Wm hF hQ _ _ st g a _ eH (λk o hk=>?_) (by rw [hrem]; simp) (by rw [hrem]; exact hrI) hS.drew)
  by_cases hlt:k < ops.size <;> simp [hlt] at hk
end
def EL(E:En)(ls:List Nat):Prop:=∃ fl,ls=E.lent.map Prod.fst++fl/\(∀ q∈E.lent,900<=q.1)/\(∀ v,E.pin=some v->0∈fl)/\(1∈fl->∀ b,¬ E.F0 b/\¬ E.X b)
theorem EL.mem{E:En}{ls:List Nat}(h:EL E ls){i b:Nat}(hi:(i,b)∈E.lent):i∈ls/\900<=i:=by
 obtain ⟨fl,rfl,h2,_⟩:=h;exact ⟨zVH _ (List.mem_map.2 ⟨_,hi,rfl⟩),h2 _ hi⟩
theorem EL.pin{E:En}{ls:List Nat}(h:EL E ls){v:Value}(hv:E.pin=some v):0∈ls:=by
 obtain ⟨fl,rfl,_,h2,_⟩:=h;exact List.mem_append_right _ (h2 v hv)
def Vu(P:Program)(E:En)(ls:List Nat):Prop:=EL E ls/\Tb P E
def Wp(P:Program)(n:Nat)(ls:List Nat)(c:Code)(Q:Exit->St->Prop)(st:St):Prop :=
 ∀ (E:En) (g:Gh) (a:Act) (w:World),Vu P E ls->jq E g n st a w->c.wp P (λe a' w'=>∃ g' st',jq E g' n st' a' w'/\Q e st') a w
def ij(N:St->Prop)(Q:Exit->St->Prop):Exit->St->Prop
 | .normal,st=>N st
 | e,st=>Q e st
def Wn(id:Nat)(Q:Exit->St->Prop):Exit->St->Prop
 | .exit id',st=>bif zXW id' id then Q .normal st else Q (.exit id') st
 | e,st=>Q e st
def Le(n:Nat)(ls:List Nat)(st st1:St):Prop:=∀ (E:En) (g:Gh) (a:Act) (w:World),EL E ls->jq E g n st a w->∃ g',jq E g' n st1 a w
section
variable {P:Program} {n:Nat} {ls:List Nat} {Q:Exit->St->Prop} {st st':St} {x y c:Code}
theorem ld(h:Q .normal st):Wp P n ls .skip Q st:=λE g a w hE hS=>wp_skip ⟨g,st,hS,h⟩
theorem Wp.ret(h:Q .ret st):Wp P n ls .ret Q st:=λE g a w hE hS=>wp_ret ⟨g,st,hS,h⟩
theorem Wp.exit{id:Nat}(h:Q (.exit id) st):Wp P n ls (.exit id) Q st:=λE g a w hE hS=>wp_exit ⟨g,st,hS,h⟩
theorem Wp.mono{Q':Exit->St->Prop}(h:Wp P n ls c Q st)(hq:∀ e st,Q e st->Q' e st):Wp P n ls c Q' st :=
 λE g a w hE hS=>wp_mono (h E g a w hE hS) λe a' w' ⟨g',st',h1,h2⟩=>⟨g',st',h1,hq e st' h2⟩
theorem ap(h:Wp P n ls x (ij (Wp P n ls y Q) Q) st):Wp P n ls (.seq x y) Q st :=
 λE g a w hE hS=>wp_seq (wp_mono (h E g a w hE hS) λe a' w' ⟨g',st',h1,h2⟩=>by
  cases e with
  | normal=>exact h2 E g' a' w' hE h1
  | _=>exact ⟨g',st',h1,h2⟩)
theorem Wp.cond{o:Operand}{b:Bool}(ho:st.eval o=some (.t (.bool b)))(h:Wp P n ls (if b then x else y) Q st):Wp P n ls (.cond o x y) Q st :=
 λE g a w hE hS=>by
  have hv:=bU hS ho;generalize hva:a.eval o=v at hv
  cases hv with
  | t x v hr =>
   cases hr
   exact wp_cond hva (h E g a w hE hS)
theorem XI{o:Operand}{b:Bool}(ho:st.eval o=some (.t (.bool b)))(ht:b=true->Wp P n ls x Q st)(hf:b=false->Wp P n ls y Q st):Wp P n ls (.cond o x y) Q st :=
 Wp.cond ho (by
  cases b with
  | true=>exact ht rfl
  | false=>exact hf rfl)
theorem cx{id:Nat}(h:Wp P n ls c (Wn id Q) st):Wp P n ls (.block id c) Q st :=
 λE g a w hE hS=>wp_block (wp_mono (h E g a w hE hS) λe a' w' ⟨g',st',h1,h2⟩=>by
  cases e with
  | exit id' =>
   simp only [Exit.inBlock];simp only [Wn] at h2
   split
   ·rename_i he;subst he;rw [zZj] at h2;exact ⟨g',st',h1,h2⟩
   ·rename_i he;have:zXW id' id=false:=by
     cases hb:zXW id' id
     ·rfl
     ·exact absurd (zWv hb) he
    rw [this] at h2;exact ⟨g',st',h1,h2⟩
  | _=>exact ⟨g',st',h1,h2⟩)
def Z4(P:Program)(n:Nat)(ls:List Nat)(c:Code)(Q:Exit->St->Prop):Nat->St->Prop
 | 0,_=>False
 | k+1,st=>Wp P n ls c (ij (Z4 P n ls c Q k) Q) st
def CI(P:Program)(c:Code)(Q:Exit->Act->World->Prop):Nat->Act->World->Prop
 | 0,_,_=>False
 | k+1,a,w=>c.wp P (Exit.then (CI P c Q k) Q) a w
theorem SD{c:Code}{Q:Exit->Act->World->Prop}{a:Act}{w:World}{k:Nat}(h:CI P c Q k a w):(Code.loop c).wp P Q a w:=by
 classical
 have key:∀ a w,(∃ k,CI P c Q k a w)->∃ k,CI P c Q k a w/\∀ j,CI P c Q j a w->k<=j:=by
  intro a w ⟨k,hk⟩
  induction k using Nat.strongRecOn with
  | _ k ih =>
   by_cases hm:∀ j,CI P c Q j a w->k<=j
   ·exact ⟨k,hk,hm⟩
   ·obtain ⟨j,hj⟩:=Classical.not_forall.1 hm;obtain ⟨hj1,hj2⟩:=Classical.not_imp.1 hj;exact ih j ar hj1
 let μ:Act->World->Nat:=λa w=>if h:∃ k,CI P c Q k a w then Classical.choose (key a w h) else 0
 have hμ:∀ a w (h:∃ k,CI P c Q k a w),CI P c Q (μ a w) a w/\∀ j,CI P c Q j a w->μ a w<=j:=by
  intro a w h;have:μ a w=Classical.choose (key a w h):=by simp only [μ,h,dite_true]
  rw [this];exact Classical.choose_spec (key a w h)
 refine wp_loop (λa w=>∃ k,CI P c Q k a w) μ ⟨k,h⟩ λa w hI=>?_;obtain ⟨h1,h2⟩:=hμ a w hI
 cases hm:μ a w with
 | zero=>rw [hm] at h1; exact h1.elim
 | succ m =>
  rw [hm] at h1;refine wp_mono h1 λe a' w' hq=>?_
  cases e with
  | normal =>
   have hI':∃ k,CI P c Q k a' w':=⟨m,hq⟩;exact ⟨hI',by have:=(hμ a' w' hI').2 m hq; omega⟩
  | _=>exact hq
theorem Wp.loop{k:Nat}(h:Z4 P n ls c Q k st):Wp P n ls (.loop c) Q st:=by
 intro E g a w hE hS;refine SD (k:=k) ?_
 induction k generalizing st g a w with
 | zero=>exact h.elim
 | succ k ih =>
  refine wp_mono (h E g a w hE hS) λe a' w' ⟨g',st',h1,h2⟩=>?_
  cases e with
  | normal=>exact ih h2 g' a' w' h1
  | _=>exact ⟨g',st',h1,h2⟩
theorem Wp.le{st1:St}(hl:Le n ls st st1)(h:Wp P n ls c Q st1):Wp P n ls c Q st:=λE g a w hE hS=>by
 obtain ⟨g',hS'⟩:=hl E g a w hE.1 hS;exact h E g' a w hE hS'
def ab(P:Program)(p:Nat->Bool)(ρ:Nat->dR)(ops:Array Oper)(l:List Oper)(st:St)(K:St->Prop):Prop:=∃ st',Dc P p ρ ops l st st'/\K st'
theorem Wp.region{p:Nat->Bool}{ρ:Nat->dR}{ops:Array Oper}{id:Nat}{draw:Bool}(hm:draw=true->P.follows .mixedOrders=true)(hok:if draw then MV p ρ n ops=true else ops.toList.all (og n)=true)
  (h:ab P p ρ ops ops.toList st (Q .normal)):Wp P n ls (.region id ops draw) Q st:=λE g a w hE hS=>by
 obtain ⟨st',h1,h2⟩:=h;have:=hE.2;exact QQ hm hok hS h1 λg a w hS'=>⟨g,st',hS',h2⟩
section
variable {p:Nat->Bool} {ρ:Nat->dR} {ops:Array Oper} {l:List Oper} {K:St->Prop} {o:Oper}
theorem ab.step{b:St}(h:Ad P p ρ ops o st b)(hr:ab P p ρ ops l b K):ab P p ρ ops (o :: l) st K:=by
 obtain ⟨st',h1,h2⟩:=hr;exact ⟨st',⟨b,h,h1⟩,h2⟩
theorem ab.op{x:A}{st1:St}(hg:jc ops st o=some true)(hf:eN ρ st o=true)(h:(ql P ρ st.eval o).run st=some (x,st1))(hr:ab P p ρ ops l (st1.put o.dst x) K):ab P p ρ ops (o :: l) st K :=
 ab.step (.run x st1 hg hf (.plain h)) hr
end
end
mutual
def A.ren(φo φr:Nat->Nat):A->A
 | .own r=>.own (φr r)
 | .obj s off=>.obj (φo s) off
 | .elem r sz i off=>.elem (φr r) sz i off
 | .sub r sz lo=>.sub (φr r) sz lo
 | .win r lo m=>.win (φr r) lo m
 | .agg l=>.agg (tM φo φr l)
 | .tup l=>.tup (tM φo φr l)
 | .clo f l=>.clo f (tM φo φr l)
 | .t x=>.t x
 | .nil=>.nil
 | .fadr c=>.fadr c
 | .nn sz rows=>.nn sz rows
 | .undef=>.undef
 | .raw v=>.raw v
 | .osl s a n c=>.osl (φo s) a n c
 | .ext s x=>.ext s x
 | .exa s c=>.exa s c
 | .shp x=>.shp x
def tM(φo φr:Nat->Nat):List A->List A
 | []=>[]
 | a :: r=>a.ren φo φr :: tM φo φr r
end
mutual
def A.known(O R:Nat->Bool):A->Bool
 | .own r=>R r
 | .obj s _=>O s
 | .osl s _ _ _=>O s
 | .elem r _ _ _=>R r
 | .sub r _ _=>R r
 | .win r _ _=>R r
 | .agg l=>uZ O R l
 | .tup l=>uZ O R l
 | .clo _ l=>uZ O R l
 | _=>true
def uZ(O R:Nat->Bool):List A->Bool
 | []=>true
 | a :: r=>a.known O R && uZ O R r
end
def Dz{β:Type}:List (Nat×β)->Nat->Option β
 | [],_=>none
 | (k,v) :: r,i=>bif zXW k i then some v else Dz r i
theorem qq{β:Type}:∀ {l:List (Nat×β)} {i:Nat} {v:β},Dz l i=some v->(i,v)∈l
 | [],i,v,h=>by cases h
 | (k,u) :: r,i,v,h=>by
  unfold Dz at h
  cases hk:zXW k i with
  | true =>
   rw [hk] at h
   cases h
   rw [zWv hk];exact zQg ..
  | false =>
   rw [hk] at h;exact zQk _ (qq h)
structure Sx where
 tm:List (Nat×A)
 ob:List (Nat×List A)
 rw:List (Nat×Vn)
def Sx.st(s:Sx):St:=⟨λi=>match Dz s.tm i with | some a=>a | none=>.undef,Dz s.ob,Dz s.rw⟩
theorem DA{φo φr:Nat->Nat}:∀ (l:List A),(tM φo φr l).length=l.length
 | []=>rfl
 | a :: r=>by simp [tM,DA r]
theorem MX{φo φr:Nat->Nat}:∀ (l:List A) (j:Nat),(tM φo φr l)[j]?=l[j]?.map (A.ren φo φr)
 | [],j=>by simp [tM]
 | a :: r,0=>by simp [tM]
 | a :: r,j+1=>by simp [tM,MX r j]
theorem FU{O R:Nat->Bool}:∀ {l:List A},uZ O R l=true->∀ (j:Nat) (a:A),l[j]?=some a->a.known O R=true
 | [],_,j,a,h=>by simp at h
 | x :: r,hk,j,a,h=>by
  unfold uZ at hk;simp only [sk] at hk
  cases j with
  | zero=>simp at h; exact h ▸ hk.1
  | succ j=>exact FU hk.2 j a (by simpa using h)
theorem XJ{w:World}{g:Gh}{O R:Nat->Prop}{φo φr:Nat->Nat}{O' R':Nat->Bool}:∀ (a:A) {v:Value},VR w g O R (a.ren φo φr) v->a.known O' R'=true ->
  VR w { g with ob:=λs=>g.ob (φo s),rw:=λr=>g.rw (φr r) } (λs=>O' s=true) (λr=>R' r=true) a v:=by
 have main:∀ (k:Nat) (a:A),SizeOf.sizeOf a < k->∀ {v:Value},VR w g O R (a.ren φo φr) v->a.known O' R'=true ->
   VR w { g with ob:=λs=>g.ob (φo s),rw:=λr=>g.rw (φr r) } (λs=>O' s=true) (λr=>R' r=true) a v:=by
  intro k
  induction k with
  | zero=>intro a h; omega
  | succ k ih =>
   intro a hk v h hn;have hl:∀ (l:List A) (vs:List Value),SizeOf.sizeOf l<=k->(∀ (j:Nat) (x:A) (u:Value),(tM φo φr l)[j]?=some x->vs[j]?=some u->VR w g O R x u)->uZ O' R' l=true ->
     ∀ (j:Nat) (x:A) (u:Value),l[j]?=some x->vs[j]?=some u->VR w { g with ob:=λs=>g.ob (φo s),rw:=λr=>g.rw (φr r) } (λs=>O' s=true) (λr=>R' r=true) x u:=λl vs hs hx hkn j x u hj hu=>by
    have:=List.sizeOf_lt_of_mem (zQY hj);exact ih x ar (hx j _ u (by rw [MX,hj]; rfl) hu) (FU hkn j x hj)
   cases a with
   | t x=>unfold A.ren at h; cases h with | t x v h=>exact .t x v h
   | nil=>unfold A.ren at h; cases h; exact .nil
   | own r =>
    unfold A.ren at h;unfold A.known at hn
    cases h with | own _ hr=>exact .own (g:={ g with ob:=λs=>g.ob (φo s),rw:=λr=>g.rw (φr r) }) r hn
   | agg l =>
    unfold A.ren at h;unfold A.known at hn
    cases h with | agg _ vs h1 h2=>exact .agg l vs ((DA l).symm.trans h1) (hl l vs YN h2 hn)
   | tup l =>
    unfold A.ren at h;unfold A.known at hn
    cases h with | tup _ vs h1 h2=>exact .tup l vs ((DA l).symm.trans h1) (hl l vs YN h2 hn)
   | obj s off =>
    unfold A.ren at h;unfold A.known at hn
    cases h with | obj _ _ hs=>exact .obj (g:={ g with ob:=λs=>g.ob (φo s),rw:=λr=>g.rw (φr r) }) s off hn
   | elem r sz i off =>
    unfold A.ren at h;unfold A.known at hn
    cases h with | elem _ _ _ _ b n c hr he=>exact .elem r sz i off b n c hn he
   | win r lo m =>
    unfold A.ren at h;unfold A.known at hn
    cases h with | win _ _ _ n c c' ad a' hr he hm hp=>exact .win r lo m n c c' ad a' hn he hm hp
   | sub r sz lo =>
    unfold A.ren at h;unfold A.known at hn
    cases h with | sub _ _ _ n c c' ad a' hr he hp=>exact .sub r sz lo n c c' ad a' hn he hp
   | fadr c =>
    unfold A.ren at h
    cases h with | fadr _ b off u hF hx hr=>exact .fadr c b off u hF hx hr
   | nn sz rows =>
    unfold A.ren at h
    cases h with | nn _ _ _ hr hv=>exact .nn sz rows _ hr hv
   | clo f l =>
    unfold A.ren at h;unfold A.known at hn
    cases h with | clo _ _ vs h1 h2=>exact .clo f l vs ((DA l).symm.trans h1) (hl l vs YN h2 hn)
   | undef=>exact .undef v
   | raw u =>
    unfold A.ren at h
    cases h with | raw=>exact .raw _
   | osl s a n c =>
    unfold A.ren at h;unfold A.known at hn
    cases h with | osl _ _ _ _ h1 h2=>exact VR.osl (g:={ g with ob:=λs=>g.ob (φo s),rw:=λr=>g.rw (φr r) }) s a n c hn h2
   | ext s x =>
    unfold A.ren at h
    cases h with | ext _ _ _ hs h=>exact .ext s x _ hs h
   | shp x =>
    unfold A.ren at h
    cases h with | shp _ _ h=>exact .shp x _ h
   | exa s c =>
    unfold A.ren at h
    cases h with | exa _ _ b off u hs hD hx hr=>exact .exa s c b off u hs hD hx hr
 intro a v;exact main (SizeOf.sizeOf a+1) a ar
def Dd(m:List (Nat×Nat))(i:Nat):Nat:=match Dz m i with | some j=>j | none=>i
def SE:List Nat->Bool
 | []=>true
 | x :: r=>!r.contains x && SE r
theorem FV:∀ {l:List Nat},SE l=true->l.Nodup
 | [],_=>List.nodup_nil
 | x :: r,h=>by
  unfold SE at h;simp only [sk,Bool.not_eq_true'] at h;refine List.nodup_cons.2 ⟨λhm=>?_,FV h.2⟩;have:=h.1;simp at this;exact this hm
def Sx.O(s:Sx)(i:Nat):Bool:=(Dz s.ob i).isSome
def Sx.R(s:Sx)(i:Nat):Bool:=(Dz s.rw i).isSome
def Mg(O R:Nat->Bool):List (Nat×List A)->Bool
 | []=>true
 | (_,l) :: r=>uZ O R l && Mg O R r
def Mh(O R:Nat->Bool)(n:Nat):List (Nat×A)->Bool
 | []=>true
 | (k,a) :: r=>Nat.blt k n && a.known O R && Mh O R n r
theorem Kj{O R:Nat->Bool}:∀ {l:List (Nat×List A)},Mg O R l=true->∀ q∈l,uZ O R q.2=true
 | [],_,q,h=>by simp at h
 | (k,x) :: r,hk,q,h=>by
  unfold Mg at hk;simp only [sk] at hk;rcases aag.1 h with rfl | h
  ·exact hk.1
  ·exact Kj hk.2 q h
theorem DC{O R:Nat->Bool}{n:Nat}:∀ {l:List (Nat×A)},Mh O R n l=true->∀ q∈l,q.1 < n/\q.2.known O R=true
 | [],_,q,h=>by simp at h
 | (k,x) :: r,hk,q,h=>by
  unfold Mh at hk;simp only [sk] at hk;rcases aag.1 h with rfl | h
  ·exact ⟨by simpa using hk.1.1,hk.1.2⟩
  ·exact DC hk.2 q h
def Sx.ok(s:Sx)(n:Nat)(ls:List Nat)(mo mr:List (Nat×Nat)):Bool :=
 SE (s.ob.map λq=>Dd mo q.1) && SE (s.rw.map λq=>Dd mr q.1) && Mg s.O s.R s.ob && Mh s.O s.R n s.tm && ls.all λi=>match i with | 0=>s.R PR && zXW (Dd mr PR) PR | 1=>true | i=>s.O i && zXW (Dd mo i) i
theorem I2{β:Type}{φ:Nat->Nat}:∀ {l:List (Nat×β)},(l.map λq=>φ q.1).Nodup->∀ {q q':Nat×β},q∈l->q'∈l->φ q.1=φ q'.1->q=q'
 | [],_,q,q',h,_,_=>by simp at h
 | x :: r,hn,q,q',h,h',he=>by
  simp only [zWy,List.nodup_cons,zYK,not_exists,not_and] at hn;rcases aag.1 h with h1 | h1
  ·rcases aag.1 h' with h2 | h2
   ·rw [h1,h2]
   ·subst h1; exact absurd he.symm (hn.1 q' h2)
  ·rcases aag.1 h' with h2 | h2
   ·subst h2; exact absurd he (hn.1 q h1)
   ·exact I2 hn.2 h1 h2 he
theorem Mi{α β:Type}{f g:α->β}:∀ {l:List α},l.map f=l.map g->∀ x∈l,f x=g x
 | [],_,x,h=>by simp at h
 | y :: r,he,x,h=>by
  simp only [zWy,List.cons.injEq] at he;rcases aag.1 h with rfl | h
  ·exact he.1
  ·exact Mi he.2 x h
theorem Le.of{n:Nat}{ls:List Nat}{st:St}{s:Sx}{mo mr:List (Nat×Nat)}(hok:s.ok n ls mo mr=true)(ht:s.tm.map (λq=>st.tm q.1)=s.tm.map (λq=>q.2.ren (Dd mo) (Dd mr)))
  (ho:s.ob.map (λq=>st.ob (Dd mo q.1))=s.ob.map (λq=>some (tM (Dd mo) (Dd mr) q.2))) (hr:s.rw.map (λq=>st.rw (Dd mr q.1))=s.rw.map (λq=>some q.2)):Le n ls st s.st:=by
 simp only [Sx.ok,sk] at hok;obtain ⟨⟨⟨⟨hno,hnr⟩,hkl⟩,hkt⟩,hls⟩:=hok;intro E g a w hE hS;have hM:=hS.mem;have hob:∀ {i:Nat} {l:List A},Dz s.ob i=some l->st.ob (Dd mo i)=some (tM (Dd mo) (Dd mr) l):=λ{i l} h=>Mi ho (i,l) (qq h);have hrw:∀ {i:Nat} {x:Vn},Dz s.rw i=some x->st.rw (Dd mr i)=some x:=λ{i x} h=>Mi hr (i,x) (qq h);have hOe:(λi=>s.O i=true)=s.st.O:=rfl;have hRe:(λi=>s.R i=true)=s.st.R:=rfl;have hL:∀ {r},s.st.L r->st.L (Dd mr r):=λ{r} ⟨e,sz,rows,h⟩=>⟨e,sz,rows,hrw h⟩;have hvr:∀ {x:A} {v:Value},VR w g st.O st.R (x.ren (Dd mo) (Dd mr)) v->x.known s.O s.R=true->VR w { g with ob:=λs=>g.ob (Dd mo s),rw:=λr=>g.rw (Dd mr r) } s.st.O s.st.R x v:=λ{x v} h hk=>by
  rw [<- hOe,<- hRe];exact XJ x h hk
 refine ⟨{ g with ob:=λs=>g.ob (Dd mo s),rw:=λr=>g.rw (Dd mr r) },⟨⟨λi cells h=>?_,λi i' h h' he=>?_,λi x h=>hM.row _ x (hrw h),λr r' b h h' he he'=>?_,λr i h h'=>?_,hM.F,hM.os,hM.tape,hM.output,hM.sizes,hM.frame,hM.shp,hM.dep0⟩,hS.size,hS.defers,λi hi=>?_,λi hi=>?_,λi b hib=>?_,λv hv=>?_⟩⟩
 ·have h:Dz s.ob i=some cells:=h;obtain ⟨arr,e,h1,h2,h3,h4,h5⟩:=hM.ob _ _ (hob h);rw [DA] at h2;refine ⟨arr,e,h1,h2,λj x hj=>?_,h4,h5⟩;obtain ⟨h6,v,h7,h8⟩:=h3 j (x.ren (Dd mo) (Dd mr)) (by rw [MX,hj]; rfl);refine ⟨?_,v,h7,hvr h8 (FU (Kj hkl _ (qq h)) j x hj)⟩
  cases x <;> first | rfl | (simp [A.ren,A.one] at h6)
 ·obtain ⟨l,hl⟩:=aad.1 h;obtain ⟨l',hl'⟩:=aad.1 h';have:=hM.obne _ _ (show st.O _ by unfold St.O; rw [hob hl]; rfl) (show st.O _ by unfold St.O; rw [hob hl']; rfl) he;exact congrArg Prod.fst (I2 (FV hno) (qq hl) (qq hl') this)
 ·have:=hM.rowne _ _ b (hL h) (hL h') he he';obtain ⟨e,sz,rows,hx⟩:=h;obtain ⟨e',sz',rows',hx'⟩:=h';exact congrArg Prod.fst (I2 (FV hnr) (qq hx) (qq hx') this)
 ·obtain ⟨l,hl⟩:=aad.1 h';exact hM.rowob _ _ (hL h) (show st.O _ by unfold St.O; rw [hob hl]; rfl)
 ·obtain ⟨v,h1,h2⟩:=hS.tm i hi;refine ⟨v,h1,?_⟩;show VR w _ s.st.O s.st.R (match Dz s.tm i with | some a=>a | none=>.undef) v
  cases hl:Dz s.tm i with
  | none=>exact .undef v
  | some x =>
   have:=Mi ht (i,x) (qq hl);simp only at this;rw [this] at h2;exact hvr h2 (DC hkt _ (qq hl)).2
 ·show (match Dz s.tm i with | some a=>a | none=>.undef)=A.undef
  cases hl:Dz s.tm i with
  | none=>rfl
  | some x =>
   have:=(DC hkt _ (qq hl)).1;simp only at this;omega
 ·obtain ⟨hi,h9⟩:=hE.mem hib;have:=aae.1 hls i hi;obtain ⟨k,rfl⟩:∃ k,i=k+2:=⟨i - 2,by omega⟩;simp only [sk] at this;refine ⟨this.1,?_⟩;show g.ob (Dd mo (k+2))=b;rw [zWv this.2];exact (hS.lent (k+2) b hib).2
 ·have:=aae.1 hls 0 (hE.pin hv);simp only [sk] at this;refine ⟨this.1,?_⟩;show g.rw (Dd mr PR)=v;rw [zWv this.2];exact (hS.pin v hv).2
def CJ(P:Program)(st:St):List ResultVar->Option (List A)
 | []=>some []
 | .tmp t :: r=>match CJ P st r with | some l=>some (st.tm t :: l) | none=>none
 | .cell a t :: r=>match st.tm a with
  | .obj s off=>match st.ob s with
   | some cells=>match R8 P t,jH P t with
    | some g,some n=>match FO g n cells off,CJ P st r with | some x,some l=>some (x :: l) | _,_=>none
    | _,_=>none
   | none=>none
  | _=>none
def XK:List A->A
 | [x]=>x
 | l=>.tup l
def DD{α:Type}:Nat->List V->(List (List C)->MA α)->MA α
 | _,[],k=>k []
 | i,.ptr _ :: r,k=>Dw (900+i) λc=>DD (i+1) r λos=>k (c :: os)
 | i,_ :: r,k=>DD (i+1) r k
def eR:Nat->List V->List Nat
 | _,[]=>[]
 | i,.ptr _ :: r=>(900+i) :: eR (i+1) r
 | i,_ :: r=>eR (i+1) r
def mm:Nat->List V->List Value->List (Nat×Nat)
 | i,.ptr _ :: r,.pointer (some a) :: vs=>(900+i,a.block) :: mm (i+1) r vs
 | i,.ptr _ :: r,_ :: vs=>(900+i,0) :: mm (i+1) r vs
 | i,_ :: r,_ :: vs=>mm (i+1) r vs
 | i,.ptr _ :: r,[]=>(900+i,0) :: mm (i+1) r []
 | i,_ :: r,[]=>mm (i+1) r []
 | _,[],_=>[]
def iM:Nat->List V->List A->Bool
 | _,[],_=>true
 | i,.ptr _ :: r,.obj s 0 :: sr=>zXW s (900+i) && iM (i+1) r sr
 | i,.ptr _ :: r,_=>false
 | i,_ :: r,_ :: sr=>iM (i+1) r sr
 | i,_ :: r,[]=>false
section
variable {P:Program} {E:En} {g:Gh} {st st':St} {a:Act} {w:World} {n:Nat}
theorem qr:∀ (l:List V) (i:Nat) (vs:List Value),(mm i l vs).map Prod.fst=eR i l
 | [],i,vs=>by cases vs <;> rfl
 | x :: l,i,[]=>by cases x <;> simp [mm,eR,qr l]
 | x :: l,i,v :: vs=>by
  cases x <;> simp only [eR] <;> try (simp only [mm]; exact qr l _ _)
  cases v <;> try (simp only [mm,zWy,List.cons.injEq,true_and]; exact qr l _ _)
  rename_i o
  cases o <;> (simp only [mm,zWy,List.cons.injEq,true_and]; exact qr l _ _)
theorem B8:∀ (l:List V) (i:Nat),∀ q∈eR i l,900<=q
 | [],i,q,h=>by simp [eR] at h
 | x :: l,i,q,h=>by
  cases x <;> simp only [eR] at h <;> try exact B8 l _ q h
  rcases aag.1 h with rfl | h
  ·omega
  ·exact B8 l _ q h
theorem I3(l:List V)(i:Nat)(vs:List Value):∀ q∈mm i l vs,900<=q.1:=λq hq =>
 B8 l i q.1 (by rw [<- qr l i vs]; exact List.mem_map.2 ⟨q,hq,rfl⟩)
theorem I4:∀ {rs:List ResultVar} {l:List A},jq E g n st a w->CJ P st rs=some l->(∀ t,.tmp t∈rs->t < n)->∃ vs:List Value,l.length=vs.length/\(∀ (j:Nat) (x:A) (u:Value),l[j]?=some x->vs[j]?=some u->VR w g st.O st.R x u) /\
  ∀ (f:ResultVar->Sem Value) (_:∀ u,f (.tmp u)=pure (a.tmps.getD u undef)) (_:∀ p t,f (.cell p t)=(do loadVar t (<- asAddr (a.tmps.getD p undef)))),(rs.mapM f).run P w=.ok vs w
 | [],l,hS,h,_=>by
  cases h
  exact ⟨[],rfl,by simp,λf _ _=>by simp⟩
 | .tmp t :: r,l,hS,h,ht=>by
  unfold CJ at h
  split at h
  ·rename_i l' hl'
   cases h
   obtain ⟨vs,h1,h2,h3⟩:=I4 hS hl' (λt h=>ht t (by simp [h]));obtain ⟨v,h4,h5⟩:=hS.tm t (ht t eH);refine ⟨v :: vs,by simp [h1],λj x u hx hu=>?_,λf hf hc=>?_⟩
   ·cases j with
    | zero=>simp at hx hu; subst hx hu; exact h5
    | succ j=>exact h2 j x u YO (by simpa using hu)
   ·have:a.tmps.getD t undef=v:=by simp [h4]
    simp [List.mapM_cons,hf,h3 f hf hc,h4]
  ·cases h
 | .cell p t :: r,l,hS,h,ht=>by
  unfold CJ at h
  split at h <;> try (cases h; done)
  rename_i s off hp
  split at h <;> try (cases h; done)
  rename_i cells hc
  split at h <;> try (cases h; done)
  rename_i gg nn hg hn
  split at h <;> try (cases h; done)
  rename_i x l' hx hl'
  cases h
  obtain ⟨vs,h1,h2,h3⟩:=I4 hS hl' (λt h=>ht t (by simp [h]));have hlt:p < n:=by
   rcases Nat.lt_or_ge p n with h | h
   ·exact h
   ·rw [hS.und p h] at hp; cases hp
  obtain ⟨v,h4,h5⟩:=hS.tm p hlt;rw [hp] at h5
  cases h5 with
  | obj s off hs =>
   obtain ⟨arr,e,hh,hl,hv,_⟩:=hS.mem.ob s cells hc;obtain ⟨u,hu,hr⟩:=Du (P:=P) (w:=w) (g:=g) (st:=st) (b:=g.ob s) (o:=0) hg hn hx (λj y hy=>by
    obtain ⟨_,u,hu,hr⟩:=hv j y hy;exact ⟨u,by rw [zWY]; simp [World.cell?,hh,hu],hr⟩)
   rw [zWY] at hu;refine ⟨u :: vs,by simp [h1],λj x u hx hu=>?_,λf hf hcc=>?_⟩
   ·cases j with
    | zero=>simp at hx hu; subst hx hu; exact hr
    | succ j=>exact h2 j x u YO (by simpa using hu)
   ·simp [List.mapM_cons,hcc,h4,asAddr,hu,h3 f hf hcc]
theorem Mj{fn:Func}{l:List A}(hS:jq E g n st a w)(h:CJ P st fn.results.toList=some l)(ht:(fn.results.toList.all λ| .tmp t=>Nat.blt t n | _=>true)=true):∃ v,(results fn a.tmps).run P w=.ok v w/\VR w g st.O st.R (XK l) v:=by
 obtain ⟨vs,h1,h2,h3⟩:=I4 hS h (λt h=>by simpa using aae.1 ht _ h);have hres:fn.results=fn.results.toList.toArray:=by simp
 have hr:(results fn a.tmps).run P w=.ok (if h:vs.toArray.size=1 then vs.toArray[0] else .tuple vs.toArray) w:=by
  unfold results;rw [hres,List.mapM_toArray];simp only [Sem.run_bind,Sem.run_map];rw [h3 _ (λ_=>rfl) (λ_ _=>rfl)];simp only [Result.andThen_ok,Sem.run_pure]
 refine ⟨_,hr,?_⟩
 clear hr h3
 match vs,l,h1,h2 with
 | [],[],_,_=>exact .tup [] [] rfl (λi x v h=>by simp at h)
 | [v],[x],_,h2=>exact h2 0 x v rfl rfl
 | v :: v' :: vs,x :: x' :: l,h1,h2=>exact .tup _ _ h1 h2
theorem Db.len{w:World}{F:Nat->Prop}:∀ {l:List V} {vs:List Value} {bs:List Nat},Db w F l vs bs->l.length=vs.length
 | _,_,_,.nil=>rfl
 | _,_,_,.cons _ _ _ _ _ _ _ hs=>by simp [hs.len]
theorem qm.mono{F F':Nat->Prop}(hF:∀ b,F b->F' b){l:List V}{us:List Value}{os:List (List C)}{bo:List Nat}(h:qm w F l us os bo):qm w F' l us os bo:=by
 induction h with
 | nil=>exact .nil
 | ptr c c' v bs l vs os bo h hs ih=>exact .ptr c c' v bs l vs os bo (h.mono (λ_ _=>rfl) hF (λ_ _=>rfl)) ih
 | skip x v l vs os bo hx hs ih=>exact .skip x v l vs os bo hx ih
theorem Bp{α:Type}{st':St}:∀ (l:List V) {i:Nat} {us:List Value} {g:Gh} {st:St} {k:List (List C)->MA α} {y:α},fm E g st w->us.length=l.length->(∀ (j:Nat) (c:List C),l[j]?=some (.ptr c)->us[j]?=some (.pointer (some ⟨g.ob (900+(i+j)),0,none⟩)))->(DD i l k).run st=some (y,st') ->
  ∃ os st1 g1 bo,fm E g1 st1 w/\rt w w g g1 st.O st.R st1.O st1.R/\Pb g st g1 st1/\(k os).run st1=some (y,st')/\qm w g1.F l us os bo/\Tk g st g1 st1 bo
 | [],i,us,g,st,k,y,hM,hl,hp,h=>by
  have:us=[]:=zQQ QH;subst this;exact ⟨[],st,g,[],hM,rt.refl _ _ _ _,Pb.refl _ _,h,.nil,Tk.nil _ _ _ _⟩
 | x :: l,i,us,g,st,k,y,hM,hl,hp,h=>by
  obtain ⟨u,us,rfl⟩:∃ u us',us=u :: us':=by
   cases us with
   | nil=>simp at hl
   | cons u us=>exact ⟨u,us,rfl⟩
  have hp':∀ (j:Nat) (c:List C),l[j]?=some (.ptr c)->us[j]?=some (.pointer (some ⟨g.ob (900+(i+1+j)),0,none⟩)):=λj c hj=>by
   have:=hp (j+1) c O7;rw [show i+1+j=i+(j+1) by omega]
   simpa using this
  have hoth:(∀ c,x≠.ptr c)->(DD (i+1) l k).run st=some (y,st')->∃ os st1 g1 bo,fm E g1 st1 w/\rt w w g g1 st.O st.R st1.O st1.R/\Pb g st g1 st1/\(k os).run st1=some (y,st')/\qm w g1.F (x :: l) (u :: us) os bo/\Tk g st g1 st1 bo:=λhx h=>by
   obtain ⟨os,st1,g1,bo,h1,h2,h3,h4,h5,h6⟩:=Bp l hM QH hp' h;exact ⟨os,st1,g1,bo,h1,h2,h3,h4,.skip x u l us os bo hx h5,h6⟩
  cases x with
  | ptr c =>
   unfold DD at h;have hu:=hp 0 c rfl;simp at hu;subst hu;obtain ⟨cs,st1,g1,b1,hM1,hE1,hL1,h1,hv1,ht1,_⟩:=B1 hM h;obtain ⟨os,st2,g2,bo,h2,h3,h4,h5,h6,h7⟩:=Bp l hM1 QH (by rw [hL1.ob]; exact hp') h1;exact ⟨cs :: os,st2,g2,b1++bo,h2,hE1.trans h3,hL1.trans h4,h5,.ptr c cs _ b1 l us os bo (hv1.mono h3.same h3.F (λ_ _=>rfl)) h6,ht1.app hM hL1 h7 h4⟩
  | _=>exact hoth (λc h=>by cases h) (by unfold DD at h; exact h)
theorem QR{i:Nat}{c:List C}{r:List V}{sr:List A}(h:iM i (.ptr c :: r) sr=true):∃ as',sr=.obj (900+i) 0 :: as'/\iM (i+1) r as'=true:=by
 cases sr with
 | nil=>simp [iM] at h
 | cons a sr =>
  cases a with
  | obj s off =>
   cases off with
   | zero =>
    simp only [iM,sk] at h;have:=zWv h.1;subst this;exact ⟨sr,rfl,h.2⟩
   | succ off=>simp [iM] at h
  | _=>simp [iM] at h
theorem Bq{F:Nat->Prop}{O R:Nat->Prop}:∀ {l:List V} {i:Nat} {us:List Value} {sr:List A} {bs:List Nat},iM i l sr=true->Db w F l us bs->sr.length=us.length->(∀ (j:Nat) (x:A),sr[j]?=some x->∃ u,us[j]?=some u/\VR w g O R x u) ->
  (∀ s b,(s,b)∈mm i l us->O s/\g.ob s=b)/\∀ (j:Nat) (c:List C),l[j]?=some (.ptr c)->∃ b,us[j]?=some (.pointer (some ⟨b,0,none⟩))/\(900+(i+j),b)∈mm i l us
 | [],i,us,sr,bs,hl,hV,hlen,hx=>by
  cases hV
  exact ⟨λs b h=>by simp [mm] at h,λj c h=>by simp at h⟩
 | x :: l,i,us,sr,bs,hl,hV,hlen,hx=>by
  cases hV with
  | cons x v b l vs bs' h1 h2 =>
   obtain ⟨a,sr,rfl⟩:∃ a as',sr=a :: as':=by
    cases sr with
    | nil=>simp at hlen
    | cons a sr=>exact ⟨a,sr,rfl⟩
   obtain ⟨u,hu,hr⟩:=hx 0 a rfl;simp at hu;subst hu;have hx':∀ (j:Nat) (x:A),sr[j]?=some x->∃ u,vs[j]?=some u/\VR w g O R x u:=λj x hj=>by simpa using hx (j+1) x O7
   have hoth:(∀ c,x≠.ptr c)->mm i (x :: l) (v :: vs)=mm (i+1) l vs->iM (i+1) l sr=true ->
     (∀ s b,(s,b)∈mm i (x :: l) (v :: vs)->O s/\g.ob s=b)/\∀ (j:Nat) (c:List C),(x :: l)[j]?=some (.ptr c)->∃ b,(v :: vs)[j]?=some (.pointer (some ⟨b,0,none⟩))/\(900+(i+j),b)∈mm i (x :: l) (v :: vs):=λhnp he hla=>by
    obtain ⟨h3,h4⟩:=Bq hla h2 (by simpa using hlen) hx';rw [he];refine ⟨h3,λj c hj=>?_⟩
    cases j with
    | zero=>simp at hj; exact absurd hj (hnp c)
    | succ j =>
     obtain ⟨b,h5,h6⟩:=h4 j c O7;exact ⟨b,by simpa using h5,by rw [show i+(j+1)=i+1+j by omega]; exact h6⟩
   cases x with
   | ptr c =>
    obtain ⟨as',he,hla⟩:=QR hl;injection he with e1 e2
    subst e1 e2
    cases h1 with
    | ptr cells bb arr e vals bs1 q1 q2 q3 q4 =>
      obtain ⟨h3,h4⟩:=Bq hla h2 (by simpa using hlen) hx'
      cases hr with
      | obj _ _ hO =>
       simp only [mm];refine ⟨λs b hm=>?_,λj c hj=>?_⟩
       ·rcases aag.1 hm with hm | hm
        ·cases hm; exact ⟨hO,rfl⟩
        ·exact h3 s b hm
       ·cases j with
        | zero=>exact ⟨_,rfl,zQg ..⟩
        | succ j =>
         obtain ⟨b,h5,h6⟩:=h4 j c O7;exact ⟨b,by simpa using h5,zQk _ (by rw [show i+(j+1)=i+1+j by omega]; exact h6)⟩
   | _=>exact hoth (λc h=>by cases h) (by cases v <;> rfl) (by unfold iM at hl; exact hl)
end
inductive DE {α β:Type} (R:α->β->Prop):List α->List β->Prop
 | nil:DE R [] []
 | cons {a:α} {b:β} {l:List α} {l':List β} (h:R a b) (hs:DE R l l'):DE R (a :: l) (b :: l')
inductive SF:C->C->Prop
 | refl (c:C):SF c c
 | nilT (sz:Nat):SF .nil (.t (.sl sz []))
 | nilO (e sz:Nat):SF .nil (.ow e sz [])
 | sz (s s':Nat):SF (.t (.sl s [])) (.t (.sl s' []))
mutual
inductive Uh:V->V->Prop
 | refl (v:V):Uh v v
 | one {c c':C} (h:SF c c'):Uh (.one c) (.one c')
 | agg {l l':List C} (h:DE SF l l'):Uh (.agg l) (.agg l')
 | tup {l l':List V} (h:DF l l'):Uh (.tup l) (.tup l')
 | cut (l r:List T):Uh (.fptr (l++r)) (.fptr l)
inductive DF:List V->List V->Prop
 | nil:DF [] []
 | cons {v v':V} {l l':List V} (h:Uh v v') (hs:DF l l'):DF (v :: l) (v' :: l')
end
theorem SF.cv{w:World}{F:Nat->Prop}{c c':C}{v:Value}{bs:List Nat}(h:SF c c')(hv:CV w F c v bs):CV w F c' v bs:=by
 cases h with
 | refl=>exact hv
 | nilT sz=>cases hv; exact .t _ _ (.sl0 _ _ _ (by first | assumption | exact λ_=>rfl | (intro h; cases h)))
 | nilO e sz =>
  cases hv
  exact .ow e sz [] (.slice none 0 0) [] ⟨by simp,.inl ⟨rfl,rfl⟩⟩ ⟨by simp,λi row h=>by simp at h,λi row j x h=>by simp at h⟩
 | sz s s' =>
  cases hv with
  | t _ _ h =>
   cases h with
   | sl0 _ _ _ ha=>exact .t _ _ (.sl0 _ _ _ (by first | assumption | exact λ_=>rfl | (intro h; cases h)))
   | sl=>exact .t _ _ (.sl0 _ _ _ (by first | assumption | exact λ_=>rfl | (intro h; cases h)))
theorem Ui{w:World}{F:Nat->Prop}:∀ {l l':List C} {vs:List Value} {bs:List Nat},DE SF l l'->Mb w F l vs bs->Mb w F l' vs bs
 | _,_,_,_,.nil,.nil=>.nil
 | _,_,_,_,.cons h hs,.cons _ _ _ _ _ _ hc hcs=>.cons _ _ _ _ _ _ (h.cv hc) (Ui hs hcs)
mutual
theorem Uh.vv{w:World}{F:Nat->Prop}:∀ {x x':V} {v:Value} {bs:List Nat},Uh x x'->VV w F x v bs->VV w F x' v bs
 | _,_,_,_,.refl _,hv=>hv
 | _,_,_,_,.one h,.one _ _ _ hc=>.one _ _ _ (h.cv hc)
 | _,_,_,_,.agg h,.agg _ vs _ hc=>.agg _ vs _ (Ui h hc)
 | _,_,_,_,.tup h,.tup _ vs _ hc=>.tup _ vs _ (I5 h hc)
 | _,_,_,_,.cut l r,.fptr _ b off u hF hx hr=>.fptr l b off u hF
   (λj x hj=>hx j x (by rw [zQW (aaa.1 hj).1]; exact hj)) (λj x hj=>hr j x (by rw [zQW (aaa.1 hj).1]; exact hj))
theorem I5{w:World}{F:Nat->Prop}:∀ {l l':List V} {vs:List Value} {bs:List Nat},DF l l'->Db w F l vs bs->Db w F l' vs bs
 | _,_,_,_,.nil,.nil=>.nil
 | _,_,_,_,.cons h hs,.cons _ _ _ _ _ _ hc hcs=>.cons _ _ _ _ _ _ (h.vv hc) (I5 hs hcs)
end
theorem Uh.ptr{x:V}{c:List C}(h:Uh x (.ptr c)):x=.ptr c:=by cases h; rfl
theorem Uh.nptr{x x':V}(h:Uh x x')(hx:∀ c,x'≠.ptr c):∀ c,x≠.ptr c:=by
 cases h <;> first | exact hx | (intro c hc; cases hc)
theorem Vv{w:World}{F:Nat->Prop}{l':List V}{us:List Value}{os:List (List C)}{bo:List Nat}(ho:qm w F l' us os bo):∀ {l:List V},DF l l'->qm w F l us os bo:=by
 induction ho with
 | nil=>intro l h; cases h; exact .nil
 | ptr c c' v bs l vs os bo hv ho ih =>
  intro l h
  cases h with
  | cons h hs =>
   have:=h.ptr;subst this;exact .ptr c c' v bs _ vs os bo hv (ih hs)
 | skip x v l vs os bo hx ho ih =>
  intro l h
  cases h with
  | cons h hs=>exact .skip _ v _ vs os bo (h.nptr hx) (ih hs)
theorem MY{w:World}{F:Nat->Prop}{l:List V}{us:List Value}{os:List (List C)}{bo:List Nat}(ho:qm w F l us os bo):∀ {os':List (List C)},DE (DE SF) os os'->qm w F l us os' bo:=by
 induction ho with
 | nil=>intro os' h; cases h; exact .nil
 | ptr c c' v bs l vs os bo hv ho ih =>
  intro os' h
  cases h with
  | cons h hs =>
   refine .ptr c _ v bs l vs _ bo ?_ (ih hs)
   cases hv with
   | ptr _ b arr e vals bs' h1 h2 h3 h4=>exact .ptr _ b arr e vals bs' h1 h2 h3 (Ui h h4)
 | skip x v l vs os bo hx ho ih=>intro os' h; exact .skip x v l vs _ bo hx (ih h)
def dD:St:=⟨λ_=>.undef,λ_=>none,λ_=>none⟩
def gK(sr:List A)(st:St):St:=⟨λi=>match sr[i]? with | some a=>a | none=>.undef,st.ob,st.rw⟩
def Wo{α:Type}(m:Bool):A->(V->MA α)->MA α
 | .obj s 0,k=>Dw s λcs=>k (.ptr cs)
 | .tup l,k=>lp m (λ_=>false) l λvs=>k (.tup vs)
 | a,k=>pD m a k
theorem Hr{E:En}{w:World}{α:Type}{st':St}{m:Bool}{x:A}{st:St}{g:Gh}{k:V->MA α}{y:α}{v:Value}(hM:fm E g st w)(hv:VR w g st.O st.R x v)(h:(Wo m x k).run st=some (y,st')) :
  ∃ c st1 g1 bs,fm E g1 st1 w/\rt w w g g1 st.O st.R st1.O st1.R/\Pb g st g1 st1/\(k c).run st1=some (y,st')/\VV w g1.F c v bs/\Tk g st g1 st1 bs:=by
 unfold Wo at h
 split at h
 ·rename_i s k'
  cases hv with
  | obj _ _ hs =>
   obtain ⟨cs,st1,g1,bs,h1,h2,h3,h4,h5,h6,_⟩:=B1 hM h;exact ⟨_,st1,g1,bs,h1,h2,h3,h4,h5,h6⟩
 ·rename_i l
  cases hv with
  | tup l vs hl hx =>
   obtain ⟨cs,st1,g1,bs,hM1,hE1,hL1,h1,hc,ht,_⟩:=vT l hM hl.symm (λj x hj=>⟨_,sX (by rw [<- hl]; exact (aaa.1 hj).1),hx j x _ hj (sX (by rw [<- hl]; exact (aaa.1 hj).1))⟩) h;exact ⟨_,st1,g1,bs,hM1,hE1,hL1,h1,.tup cs vs bs hc,ht⟩
 ·obtain ⟨c,st1,g1,bs,h1,h2,h3,h4,h5,h6,_⟩:=QL _ hM hv h;exact ⟨c,st1,g1,bs,h1,h2,h3.lnd,h4,h5,h6⟩
def Br(P:Program)(m:Bool)(fn:Func)(args:List V)(res:V)(outs:List (List C))(e:Exit)(st:St):Prop :=
 (e=.ret\/e=.normal)/\∃ l st1 res0 outs0,CJ P st fn.results.toList=some l/\(DD 0 args λos=>Wo m (XK l) λv=>MA.ret (v,os)).run st=some ((res0,outs0),st1)/\Uh res0 res/\DE (DE SF) outs0 outs
def wo(n:Nat)(fn:Func):Bool:=fn.results.toList.all λ| .tmp t=>Nat.blt t n | _=>true
def Wz(P:Program)(n:Nat)(ls:List Nat)(c:Code)(Q:Exit->St->Prop)(st:St):Prop :=
 ∀ (E:En) (g:Gh) (a:Act) (w:World),Vu P E ls->E.sh=false->E.pin=none->jq E g n st a w->c.wp P (λe a' w'=>∃ g' st',jq E g' n st' a' w'/\Q e st') a w
theorem KY{P:Program}{fn:Func}{c:Code}{f:FuncId}{args:List V}{sr:List A}{st0:St}{m:Bool}{res:V}{outs:List (List C)}
  (hf:P.funcs[f]?=some fn) (hb:fn.body=some c) (hnm:(fn.name == "runtime.NumGoroutine")=false) (hle:sr.length<=fn.ntmps) (ht:wo fn.ntmps fn=true)
  (ha:(pE 0 args MA.ret).run dD=some (sr,st0)) (hl:iM 0 args sr=true)
  (h:Wz P fn.ntmps (eR 0 args) c (Br P m fn args res outs) (gK sr st0)):aD P f args res outs:=by
 refine ⟨⟨fn,hf,by simp [hb],hnm⟩,λw F vs bs hF hVV hnd hnf htb=>?_⟩
 let E:En:={ w0:=w,X:=λb=>b∈bs,F0:=F,lent:=mm 0 args vs }
 let g0:Gh:={ F:=F,ob:=λ_=>0,rw:=λ_=>.nilFunc,dw:=w }
 have hM0:fm E g0 dD w:=⟨λs cells h=>G6,λs s' h=>G6,λr x h=>G6,λr r' b h=>R7,λr s h=>R7,
  λb hb=>⟨hF b hb,λ_=>.inl hb,.inl hb⟩,rfl,rfl,rfl,zWk _,λ_ _ _=>.inl rfl,λ_ h=>h.elim,⟨rfl,rfl,rfl⟩,λ_ h=>h.elim⟩
 obtain ⟨as',st1,g1,hG,h1,hlen,hx⟩:=El args hM0 hVV hnd (λb hb=>⟨hnf b hb,λs hs=>(by cases hs),λr hr=>qai,.inr hb⟩) ha;obtain ⟨rfl,rfl⟩:=fo h1;have hM1:fm E g1 (gK sr st0) w:=⟨hG.mem.ob,hG.mem.obne,hG.mem.row,hG.mem.rowne,hG.mem.rowob,hG.mem.F,hG.mem.os,hG.mem.tape,hG.mem.output,hG.mem.sizes,hG.mem.frame,hG.mem.shp,hG.mem.dep0⟩;obtain ⟨hl1,hl2⟩:=Bq hl hVV hlen hx;have hS:jq E g1 fn.ntmps (gK sr st0) { tmps:=vs.toArray++zZy (fn.ntmps - vs.toArray.size) undef,defers:=[] } w:=by
  refine ⟨hM1,by simp; omega,rfl,λi hi=>?_,λi hi=>?_,hl1,λ_ h=>G6⟩
  ·show ∃ v,_/\VR w g1 st0.O st0.R (match sr[i]? with | some a=>a | none=>.undef) v
   cases hai:sr[i]? with
   | some a =>
    obtain ⟨u,hu,hr⟩:=hx i a hai;have hlt:i < vs.length:=(aaa.1 hu).1;exact ⟨u,by rw [zYk V2]; simpa using hu,hr⟩
   | none =>
    have hge:sr.length<=i:=aah.1 hai;refine ⟨undef,?_,.undef _⟩;rw [zYy (by simpa [<- hlen] using hge)];rw [zZX,if_pos YP]
  ·show (match sr[i]? with | some a=>a | none=>.undef)=A.undef;rw [aah.2 ar]
 refine calls_of_wp hf hb (wp_mono (h E g1 _ w ⟨⟨[],by rw [zXH]; exact (qr _ _ _).symm,I3 _ _ _,λ_ h=>G6,λh=>G6⟩,⟨htb.mono λb h=>h.elim id λh=>(by cases h.1)⟩⟩ rfl rfl hS) λe a' w' ⟨g',st',hS',hR⟩=>?_);obtain ⟨he,l,st2,res0,outs0,hres,hrun,hvle,hole⟩:=hR;have hfin:a'.defers=[]/\∃ v,(results fn a'.tmps).run P w'=.ok v w'/\(λe w'=>∃ v F' bv bo,e=Ending.returned v/\su w w'/\(∀ b,b < w.heap.size->b∉bs->w'.heap[b]?=w.heap[b]?)/\(∀ b,F b->F' b) /\
   (∀ b,F' b->b < w'.heap.size/\(b < w.heap.size->F b\/b∈bs)/\(F b\/Wr w' b))/\VV w' F' res v bv/\qm w' F' args vs outs bo/\(bv++bo).Nodup/\∀ b∈bv++bo,¬ F' b/\(w.heap.size<=b\/b∈bs)) (.returned v) w':=by
  refine ⟨hS'.defers,?_⟩;obtain ⟨v,hrv,hvv⟩:=Mj hS' hres ht;refine ⟨v,hrv,?_⟩;have hM':=hS'.mem;obtain ⟨os,st3,g3,bo,hM3,hE3,hL3,h3,hO,hT3⟩:=Bp (w:=w') args hM' (us:=vs) (hVV.len.symm) (λj c hj=>by
   obtain ⟨b,h5,h6⟩:=hl2 j c hj;rw [(hS'.lent _ _ h6).2];exact h5) hrun
  obtain ⟨c',st4,g4,bv,hM4,hE4,hL4,h4,hv4,hT4⟩:=Hr hM3 (hvv.mono hE3) h3;obtain ⟨h5,rfl⟩:=fo h4;injection h5 with h5 h6
  subst h5 h6;have hT:=hT3.app hM' hL3 hT4 hL4;have hof:∀ b∈bo++bv,w.heap.size<=b\/b∈bs:=λb hb=>by
   rcases hT.of b hb with ⟨r,⟨e,sz,rows,h7⟩,_,h8⟩ | ⟨s,⟨c,cs,h7⟩,_,h8⟩
   ·obtain ⟨_,_,_,_,h9⟩:=hM'.row r _ h7;exact (h9 b h8).2
   ·obtain ⟨_,_,_,_,_,_,h9⟩:=hM'.ob s _ h7;rw [h8] at h9;exact h9
  have hnF:∀ b∈bo++bv,¬ (g4.F b\/F b):=λb hb h=>by
   rcases h with h | h
   ·exact hT.nf b hb h
   ·rcases hof b hb with h7 | h7
    ·have:=hF b h; omega
    ·exact hnf b h7 h
  have hmem:∀ b,b∈bv++bo->b∈bo++bv:=λb hb=>by
   rcases aac.1 hb with h | h <;> simp [h]
  refine ⟨v,λb=>g4.F b\/F b,bv,bo,rfl,⟨hM4.os,hM4.tape,hM4.output,hM4.sizes⟩,λb hb hbs=>hM4.frm rfl b hb hbs,λb h=>.inr h,λb h=>?_,hvle.vv (hv4.mono (λ_ _=>rfl) (λ_ h=>.inl h) (λ_ _=>rfl)),MY (hO.mono (λb h=>.inl (hE4.F b h))) hole,?_,λb hb=>⟨hnF b (hmem b hb),hof b (hmem b hb)⟩⟩
  ·rcases h with h | h
   ·exact hM4.F b h
   ·exact ⟨zQh (hF b h) hM4.sizes,λ_=>.inl h,.inl h⟩
  ·have:=hT.nodup;rw [zXw] at this ⊢;exact ⟨this.2.1,this.1,λx hx y hy he=>this.2.2 y hy x hx he.symm⟩
 rcases he with rfl | rfl
 ·exact hfin
 ·exact hfin
theorem MZ{P:Program}{fn:Func}{c:Code}{f:FuncId}{args:List V}{sr:List A}{st0:St}{m:Bool}{res:V}{outs:List (List C)}
  (hf:P.funcs[f]?=some fn) (hb:fn.body=some c) (hnm:(fn.name == "runtime.NumGoroutine")=false) (hle:sr.length<=fn.ntmps) (ht:wo fn.ntmps fn=true)
  (ha:(pE 0 args MA.ret).run dD=some (sr,st0)) (hl:iM 0 args sr=true)
  (h:Wp P fn.ntmps (eR 0 args) c (Br P m fn args res outs) (gK sr st0)):aD P f args res outs:=KY hf hb hnm hle ht ha hl λE g a w hE _ _ hS=>h E g a w hE hS
theorem Wq{E:En}{g:Gh}{st0:St}{w:World}{n:Nat}{sr:List A}{vs:List Value}(hM:fm E g (gK sr st0) w)(hlen:vs.length=sr.length)(hle:sr.length<=n)
  (hx:∀ (j:Nat) (x:A),sr[j]?=some x->∃ u,vs[j]?=some u/\VR w g st0.O st0.R x u) (hl:E.lent=[]) (hp:∀ v,E.pin=some v->(gK sr st0).R PR/\g.rw PR=v) :
  jq E g n (gK sr st0) { tmps:=vs.toArray++zZy (n - vs.toArray.size) undef,defers:=[] } w:=by
 refine ⟨hM,by simp; omega,rfl,λi hi=>?_,λi hi=>?_,λs b h=>(by rw [hl] at h; cases h),hp⟩
 ·show ∃ v,_/\VR w g st0.O st0.R (match sr[i]? with | some a=>a | none=>.undef) v
  cases hai:sr[i]? with
  | some a =>
   obtain ⟨u,hu,hr⟩:=hx i a hai;have hlt:i < vs.length:=(aaa.1 hu).1;exact ⟨u,by rw [zYk V2]; simpa using hu,hr⟩
  | none =>
   have hge:sr.length<=i:=aah.1 hai;refine ⟨undef,?_,.undef _⟩;rw [zYy (by simpa [hlen] using hge)];rw [zZX,if_pos YP]
 ·show (match sr[i]? with | some a=>a | none=>.undef)=A.undef;rw [aah.2 ar]
def C.toX:C->A
 | .t x=>YU false x
 | _=>.undef
def V.toX:V->A
 | .one c=>c.toX
 | .agg l=>.agg (l.map C.toX)
 | .fptr cells=>.exa false cells
 | _=>.undef
theorem CV.toX{w:World}{D:Nat->Prop}{g:Gh}{c:C}{v:Value}{bs:List Nat}(h:CV w D c v bs)(h1:g.D=D)(h2:g.dw=w)(h3:g.sh=false):VR w g P6 P6 c.toX v:=by
 cases h with
 | t x v h =>
  cases x with
  | sl sz rows=>exact .ext false _ v h3 (by rw [h1,h2]; exact h.sd)
  | int k n=>exact .t _ v (h.sc rfl)
  | bool b=>exact .t _ v (h.sc rfl)
  | str s=>exact .t _ v (h.sc rfl)
  | nilf=>exact .t _ v (h.sc rfl)
  | hdr a n c=>exact .t _ v (h.sc rfl)
 | nil=>exact .undef _
 | ow=>exact .undef _
theorem Mb.toX{w:World}{D:Nat->Prop}{g:Gh}{l:List C}{vs:List Value}{bs:List Nat}(h:Mb w D l vs bs)(h1:g.D=D)(h2:g.dw=w)(h3:g.sh=false) :
  l.length=vs.length/\∀ (i:Nat) (x:A) (v:Value),(l.map C.toX)[i]?=some x->vs[i]?=some v->VR w g P6 P6 x v:=by
 induction h with
 | nil=>exact ⟨rfl,λi x v h=>by simp at h⟩
 | cons c v b cs vs bs h hs ih =>
  refine ⟨by simp [ih.1],λi x u hx hu=>?_⟩
  cases i with
  | zero=>simp at hx hu; subst hx hu; exact h.toX h1 h2 h3
  | succ i=>exact ih.2 i x u YO (by simpa using hu)
theorem VV.toX{w:World}{D:Nat->Prop}{g:Gh}{x:V}{v:Value}{bs:List Nat}(h:VV w D x v bs)(h1:g.D=D)(h2:g.dw=w)(h3:g.sh=false):VR w g P6 P6 x.toX v:=by
 cases h with
 | one c v bs h=>exact h.toX h1 h2 h3
 | agg l vs bs h =>
  obtain ⟨h4,h5⟩:=h.toX h1 h2 h3;exact .agg _ vs (by simp [h4]) h5
 | fptr cells b off u hF hx hr=>exact .exa false cells b off u h3 (by rw [h1]; exact hF) (by rw [h2]; exact hx) (λj x hj=>by rw [h1,h2]; exact (hr j x hj).sd)
 | _=>exact .undef _
theorem Db.toX{w:World}{D:Nat->Prop}{g:Gh}(h1:g.D=D)(h2:g.dw=w)(h3:g.sh=false):∀ {l:List V} {vs:List Value} {bs:List Nat},Db w D l vs bs ->
  vs.length=l.length/\∀ (j:Nat) (x:A),(l.map V.toX)[j]?=some x->∃ u,vs[j]?=some u/\VR w g P6 P6 x u
 | _,_,_,.nil=>⟨rfl,λj x h=>by simp at h⟩
 | _,_,_,.cons x v b l vs bs h hs=>by
  obtain ⟨h4,h5⟩:=Db.toX h1 h2 h3 hs;refine ⟨by simp [h4],λj y hy=>?_⟩
  cases j with
  | zero=>simp at hy; subst hy; exact ⟨v,rfl,h.toX h1 h2 h3⟩
  | succ j=>exact h5 j y T4 |>.imp λu hu=>⟨by simpa using hu.1,hu.2⟩
theorem qbL{E:En}{g:Gh}{sr:List A}{w:World}(h1:∀ b,¬ g.F b)(hS0:∀ b,¬ g.S b:=by exact λ_ h=>h)(hw:E.w0=w)(hd:g.D=E.D/\g.dw=E.w0/\g.sh=E.sh)(hD:∀ b,E.D b->b < E.w0.heap.size/\¬ E.X b/\(E.sh=true->¬ E.F0 b/\Wr E.w0 b)):fm E g (gK sr dD) w:=by
 subst hw;exact ⟨λs cells h=>G6,λs s' h=>G6,λr x h=>G6,λr r' b h=>R7,λr s h=>R7,
  λb hb=>(h1 b hb).elim,rfl,rfl,rfl,zWk _,λ_ _ _=>.inl rfl,λb h=>(hS0 b h).elim,hd,hD⟩
theorem SG{P:Program}{fn:Func}{c:Code}{f:FuncId}{args:List V}{m:Bool}{res:V}
  (hf:P.funcs[f]?=some fn) (hb:fn.body=some c) (hnm:(fn.name == "runtime.NumGoroutine")=false) (hle:args.length<=fn.ntmps) (ht:wo fn.ntmps fn=true)
  (h:Wp P fn.ntmps [1] c (Br P m fn [] res []) (gK (args.map V.toX) dD)):n6 P f args res:=by
 refine ⟨⟨fn,hf,by simp [hb],hnm⟩,λw D vs hD hVV htb=>?_⟩
 let E:En:={ w0:=w,X:=P6,F0:=P6,lent:=[],D:=D }
 let g0:Gh:={ F:=P6,ob:=λ_=>0,rw:=λ_=>.nilFunc,D:=D,dw:=w }
 have hM0:fm E g0 (gK (args.map V.toX) dD) w:=qbL (λ_ h=>h) (hw:=rfl) (hd:=⟨rfl,rfl,rfl⟩) (hD:=λb hb=>⟨hD b hb,λh=>h,λh=>G6⟩);obtain ⟨hlen,hx⟩:=Db.toX (g:=g0) rfl rfl rfl hVV;have hS:=Wq (n:=fn.ntmps) hM0 (by simpa using hlen) YJ (λj x hj=>by
  obtain ⟨u,h1,h2⟩:=hx j x hj;exact ⟨u,h1,h2.mono ⟨λ_ _=>rfl,λ_ h=>h,λ_ h=>h.elim,λ_ h=>h.elim,⟨rfl,rfl,rfl⟩,rfl,rfl⟩⟩) rfl (λv h=>G6)
 refine calls_of_wp hf hb (wp_mono (h E g0 _ w ⟨⟨[1],rfl,λ_ h=>G6,λ_ h=>G6,λ_ b=>⟨λh=>h,λh=>h⟩⟩,⟨htb.mono λb h=>h.elim id λh=>(by cases h.1)⟩⟩ hS) λe a' w' ⟨g',st',hS',hR⟩=>?_);obtain ⟨he,l,st2,res0,outs0,hres,hrun,hvle,hole⟩:=hR;have hfin:a'.defers=[]/\∃ v,(results fn a'.tmps).run P w'=.ok v w'/\(λe w'=>∃ v F' bv,e=Ending.returned v/\su w w'/\(∀ b,b < w.heap.size->w'.heap[b]?=w.heap[b]?) /\
   (∀ b,F' b->b < w'.heap.size/\w.heap.size<=b/\Wr w' b)/\VV w' F' res v bv/\bv.Nodup/\∀ b∈bv,¬ F' b/\w.heap.size<=b) (.returned v) w':=by
  refine ⟨hS'.defers,?_⟩;obtain ⟨v,hrv,hvv⟩:=Mj hS' hres ht;refine ⟨v,hrv,?_⟩;have hM':=hS'.mem;simp only [DD] at hrun;obtain ⟨c',st4,g4,bv,hM4,hE4,hL4,h4,hv4,hT4⟩:=Hr hM' hvv hrun;obtain ⟨h5,rfl⟩:=fo h4;injection h5 with h5 h6
  subst h5 h6;have hof:∀ b∈bv,w.heap.size<=b:=λb hb=>by
   rcases hT4.of b hb with ⟨r,⟨e,sz,rows,h7⟩,_,h8⟩ | ⟨s,⟨c,cs,h7⟩,_,h8⟩
   ·obtain ⟨_,_,_,_,h9⟩:=hM'.row r _ h7;exact (h9 b h8).2.resolve_right (λh=>h)
   ·obtain ⟨_,_,_,_,_,_,h9⟩:=hM'.ob s _ h7;rw [h8] at h9;exact h9.resolve_right (λh=>h)
  refine ⟨v,g4.F,bv,rfl,⟨hM4.os,hM4.tape,hM4.output,hM4.sizes⟩,λb hb=>hM4.frm rfl b hb (λh=>h),λb h=>?_,hvle.vv hv4,hT4.nodup,λb hb=>⟨hT4.nf b hb,hof b hb⟩⟩;obtain ⟨h7,h8,h9⟩:=hM4.F b h;refine ⟨h7,Nat.le_of_not_lt λhlt=>?_,h9.resolve_left (λh=>h)⟩;rcases h8 hlt with h | h <;> exact h
 rcases he with rfl | rfl
 ·exact hfin
 ·exact hfin
theorem SH{P:Program}{fn:Func}{c:Code}{f:FuncId}{args xs:List V}{sr:List A}{st0:St}{m:Bool}{res:V}{outs:List (List C)}
  (hf:P.funcs[f]?=some fn) (hb:fn.body=some c) (hnm:(fn.name == "runtime.NumGoroutine")=false) (hle:(sr++xs.map V.toX).length<=fn.ntmps) (ht:wo fn.ntmps fn=true)
  (ha:(pE 0 args MA.ret).run dD=some (sr,st0)) (hl:iM 0 args sr=true)
  (h:Wp P fn.ntmps (eR 0 args) c (Br P m fn args res outs) (gK (sr++xs.map V.toX) st0)):TY P f args xs res outs:=by
 refine ⟨⟨fn,hf,by simp [hb],hnm⟩,λw F D vs us bs hF hD hVV hUU hnd hnf htb=>?_⟩
 let E:En:={ w0:=w,X:=λb=>b∈bs,F0:=F,lent:=mm 0 args vs,D:=D }
 let g0:Gh:={ F:=F,ob:=λ_=>0,rw:=λ_=>.nilFunc,D:=D,dw:=w }
 have hM0:fm E g0 dD w:=⟨λs cells h=>G6,λs s' h=>G6,λr x h=>G6,λr r' b h=>R7,λr s h=>R7,
  λb hb=>⟨hF b hb,λ_=>.inl hb,.inl hb⟩,rfl,rfl,rfl,zWk _,λ_ _ _=>.inl rfl,λ_ h=>h.elim,⟨rfl,rfl,rfl⟩,λb hb=>⟨(hD b hb).1,(hD b hb).2,λh=>G6⟩⟩
 obtain ⟨as',st1,g1,hG,h1,hlen,hx⟩:=El args hM0 hVV hnd (λb hb=>⟨hnf b hb,λs hs=>(by cases hs),λr hr=>qai,.inr hb⟩) ha;obtain ⟨rfl,rfl⟩:=fo h1;have hM1:fm E g1 (gK (sr++xs.map V.toX) st0) w:=⟨hG.mem.ob,hG.mem.obne,hG.mem.row,hG.mem.rowne,hG.mem.rowob,hG.mem.F,hG.mem.os,hG.mem.tape,hG.mem.output,hG.mem.sizes,hG.mem.frame,hG.mem.shp,hG.mem.dep0⟩;obtain ⟨hl1,hl2⟩:=Bq hl hVV hlen hx;obtain ⟨hd1,hd2,hd3⟩:=hG.mem.dep0.1;obtain ⟨hul,hux⟩:=Db.toX (g:=g1) (by rw [hd1]) (by rw [hd2]) (by rw [hd3]) hUU;have hx2:∀ (j:Nat) (x:A),(sr++xs.map V.toX)[j]?=some x->∃ u,(vs++us)[j]?=some u/\VR w g1 st0.O st0.R x u:=λj x hj=>by
  rw [zWq] at hj
  split at hj
  ·rename_i hlt;obtain ⟨u,h5,h6⟩:=hx j x hj;exact ⟨u,by rw [zQW ar]; exact h5,h6⟩
  ·rename_i hge;obtain ⟨u,h5,h6⟩:=hux _ x hj;exact ⟨u,by rw [zQV ar,<- hlen]; exact h5,h6.mono ⟨λ_ _=>rfl,λ_ h=>h,λ_ h=>h.elim,λ_ h=>h.elim,⟨rfl,rfl,rfl⟩,rfl,rfl⟩⟩
 have hlen2:(sr++xs.map V.toX).length=(vs++us).length:=by simp [hlen,hul]
 have hle2:sr.length+xs.length<=fn.ntmps:=by simpa using hle
 have hvl:(vs++us).length=vs.length+us.length:=zQG;have hS:jq E g1 fn.ntmps (gK (sr++xs.map V.toX) st0) { tmps:=(vs++us).toArray++zZy (fn.ntmps - (vs++us).toArray.size) undef,defers:=[] } w:=by
  refine ⟨hM1,by simp; omega,rfl,λi hi=>?_,λi hi=>?_,hl1,λ_ h=>G6⟩
  ·show ∃ v,_/\VR w g1 st0.O st0.R (match (sr++xs.map V.toX)[i]? with | some a=>a | none=>.undef) v
   cases hai:(sr++xs.map V.toX)[i]? with
   | some a =>
    obtain ⟨u,hu,hr⟩:=hx2 i a hai;have hlt:i < (vs++us).length:=(aaa.1 hu).1;exact ⟨u,by rw [zYk V2]; simpa using hu,hr⟩
   | none =>
    have hge:(sr++xs.map V.toX).length<=i:=aah.1 hai;refine ⟨undef,?_,.undef _⟩;rw [zYy (by simpa [<- hlen2] using hge)];rw [zZX,if_pos YP]
  ·show (match (sr++xs.map V.toX)[i]? with | some a=>a | none=>.undef)=A.undef;rw [aah.2 ar]
 refine calls_of_wp hf hb (wp_mono (h E g1 _ w ⟨⟨[],by rw [zXH]; exact (qr _ _ _).symm,I3 _ _ _,λ_ h=>G6,λh=>G6⟩,⟨htb.mono λb h=>h.elim id λh=>(by cases h.1)⟩⟩ hS) λe a' w' ⟨g',st',hS',hR⟩=>?_);obtain ⟨he,l,st2,res0,outs0,hres,hrun,hvle,hole⟩:=hR;have hfin:a'.defers=[]/\∃ v,(results fn a'.tmps).run P w'=.ok v w'/\(λe w'=>∃ v F' bv bo,e=Ending.returned v/\su w w'/\(∀ b,b < w.heap.size->b∉bs->w'.heap[b]?=w.heap[b]?)/\(∀ b,F b->F' b) /\
   (∀ b,F' b->b < w'.heap.size/\(b < w.heap.size->F b\/b∈bs)/\(F b\/Wr w' b))/\VV w' F' res v bv/\qm w' F' args vs outs bo/\(bv++bo).Nodup/\∀ b∈bv++bo,¬ F' b/\(w.heap.size<=b\/b∈bs)) (.returned v) w':=by
  refine ⟨hS'.defers,?_⟩;obtain ⟨v,hrv,hvv⟩:=Mj hS' hres ht;refine ⟨v,hrv,?_⟩;have hM':=hS'.mem;obtain ⟨os,st3,g3,bo,hM3,hE3,hL3,h3,hO,hT3⟩:=Bp (w:=w') args hM' (us:=vs) (hVV.len.symm) (λj c hj=>by
   obtain ⟨b,h5,h6⟩:=hl2 j c hj;rw [(hS'.lent _ _ h6).2];exact h5) hrun
  obtain ⟨c',st4,g4,bv,hM4,hE4,hL4,h4,hv4,hT4⟩:=Hr hM3 (hvv.mono hE3) h3;obtain ⟨h5,rfl⟩:=fo h4;injection h5 with h5 h6
  subst h5 h6;have hT:=hT3.app hM' hL3 hT4 hL4;have hof:∀ b∈bo++bv,w.heap.size<=b\/b∈bs:=λb hb=>by
   rcases hT.of b hb with ⟨r,⟨e,sz,rows,h7⟩,_,h8⟩ | ⟨s,⟨c,cs,h7⟩,_,h8⟩
   ·obtain ⟨_,_,_,_,h9⟩:=hM'.row r _ h7;exact (h9 b h8).2
   ·obtain ⟨_,_,_,_,_,_,h9⟩:=hM'.ob s _ h7;rw [h8] at h9;exact h9
  have hnF:∀ b∈bo++bv,¬ (g4.F b\/F b):=λb hb h=>by
   rcases h with h | h
   ·exact hT.nf b hb h
   ·rcases hof b hb with h7 | h7
    ·have:=hF b h; omega
    ·exact hnf b h7 h
  have hmem:∀ b,b∈bv++bo->b∈bo++bv:=λb hb=>by
   rcases aac.1 hb with h | h <;> simp [h]
  refine ⟨v,λb=>g4.F b\/F b,bv,bo,rfl,⟨hM4.os,hM4.tape,hM4.output,hM4.sizes⟩,λb hb hbs=>hM4.frm rfl b hb hbs,λb h=>.inr h,λb h=>?_,hvle.vv (hv4.mono (λ_ _=>rfl) (λ_ h=>.inl h) (λ_ _=>rfl)),MY (hO.mono (λb h=>.inl (hE4.F b h))) hole,?_,λb hb=>⟨hnF b (hmem b hb),hof b (hmem b hb)⟩⟩
  ·rcases h with h | h
   ·exact hM4.F b h
   ·exact ⟨zQh (hF b h) hM4.sizes,λ_=>.inl h,.inl h⟩
  ·have:=hT.nodup;rw [zXw] at this ⊢;exact ⟨this.2.1,this.1,λx hx y hy he=>this.2.2 y hy x hx he.symm⟩
 rcases he with rfl | rfl
 ·exact hfin
 ·exact hfin
def ru(P:Program)(ρ:Nat->dR)(ops:Array Oper):List Oper->St->Option St
 | [],st=>some st
 | o :: l,st=>match jc ops st o with
  | some true=>if eN ρ st o then match (ql P ρ st.eval o).run st with | some (x,st1)=>ru P ρ ops l (st1.put o.dst x) | none=>none else none
  | some false=>ru P ρ ops l (st.put o.dst (.tup []))
  | none=>none
def St.or(x:Option St):St:=match x with | some s=>s | none=>dD
section
variable {P:Program} {n:Nat} {Q:Exit->St->Prop} {st st':St} {p:Nat->Bool} {ρ:Nat->dR} {ops:Array Oper} {l:List Oper} {K:St->Prop} {o:Oper}
theorem Bt:∀ {l:List Oper} {st st1:St},ru P ρ ops l st=some st1->Dc P p ρ ops l st st1
 | [],st,st1,h=>by cases h; rfl
 | o :: l,st,st1,h=>by
  unfold ru at h
  split at h
  ·rename_i hg
   split at h
   ·rename_i hf
    split at h
    ·rename_i x st2 hx;exact ⟨_,.run x st2 hg hf (.plain hx),Bt h⟩
    ·cases h
   ·cases h
  ·rename_i hg;exact ⟨_,.skip hg,Bt h⟩
  ·cases h
theorem Dc.app:∀ {l l':List Oper} {st b c:St},Dc P p ρ ops l st b->Dc P p ρ ops l' b c->Dc P p ρ ops (l++l') st c
 | [],l',st,b,c,h,h'=>by have h:b=st:=h; subst h; exact h'
 | o :: l,l',st,b,c,⟨d,h1,h2⟩,h'=>⟨d,h1,Dc.app h2 h'⟩
theorem ah(k:Nat)(h:(ru P ρ ops (l.take k) st).isSome=true)(hr:ab P p ρ ops (l.drop k) (St.or (ru P ρ ops (l.take k) st)) K):ab P p ρ ops l st K:=by
 obtain ⟨st1,h1⟩:=aad.1 h;rw [h1] at hr;obtain ⟨st',h2,h3⟩:=hr;refine ⟨st',?_,h3⟩;have:=Dc.app (Bt h1) h2;rwa [zYY] at this
theorem ab.all(h:(ru P ρ ops l st).isSome=true)(hr:K (St.or (ru P ρ ops l st))):ab P p ρ ops l st K:=by
 obtain ⟨st1,h1⟩:=aad.1 h;rw [h1] at hr;exact ⟨st1,Bt h1,hr⟩
theorem ab.call{m:Bool}{d f:Nat}{xf:Operand}{args:Array Operand}{ts:Array TypeId}{caps sr:List A}{vs:List V}{st1:St}{res:V}{outs:List (List C)}{x:A}
  (hg:jc ops st o=some true) (hf:eN ρ st o=true) (ho:o.op=.call { callee:=.value xf,args,argTypes:=ts }) (hd:o.dst=some d) (hxf:st.eval xf=some (.clo f caps)) (mj:dx (args.toList.map st.eval)=some sr)
  (hp:(lp m p (sr++caps) MA.ret).run st=some (vs,st1)) (hc:aD P f vs res outs) (hr:(dK d (d7 (sr++caps)) outs (V.toA d (gj d 0) res MA.ret)).run st1=some (x,st'))
  (hk:ab P p ρ ops l (st'.put o.dst x) K):ab P p ρ ops (o :: l) st K :=
 ab.step (.run x st' hg hf (.call m d f xf args ts caps sr vs st1 res outs ho hd hxf mj hp hc hr)) hk
theorem ab.callB{d f:Nat}{xf:Operand}{args:Array Operand}{ts:Array TypeId}{caps sr:List A}{vs:List V}{res:V}{x:A}
  (hg:jc ops st o=some true) (hf:eN ρ st o=true) (ho:o.op=.call { callee:=.value xf,args,argTypes:=ts }) (hd:o.dst=some d) (hxf:st.eval xf=some (.clo f caps)) (mj:dx (args.toList.map st.eval)=some sr)
  (hp:(d8 (sr++caps) MA.ret).run st=some (vs,st)) (hc:aD P f vs res []) (hpl:res.plain) (hr:(V.toA d (gj d 0) res MA.ret).run st=some (x,st'))
  (hk:ab P p ρ ops l (st'.put o.dst x) K):ab P p ρ ops (o :: l) st K :=
 ab.step (.run x st' hg hf (.callB d f xf args ts caps sr vs res ho hd hxf mj hp hc hpl hr)) hk
theorem qa3{α:Type}{t e:TypeId}{f:α->List T}{xs:List α}{y:α}{sz:Nat}{kk:IntKind}{i:Int}(hu:P.underlying t=some (.slice e))(hs:jH P e=some sz)(h0:0<=i)(h:xs[i.toNat]?=some y) :
  (lm P t (.t (.sl sz (xs.map f))) (.t (.int kk i))).run st=some (.fadr (f y),st):=by
 unfold lm;simp only [hu,hs,BX,h0,and_self,↓reduceIte,zQZ,h,zWW,true_and,MA.run]
theorem Zd{α:Type}{t e:TypeId}{f:α->List T}{xs:List α}{y:α}{sz r:Nat}{kk:IntKind}{i:Int}{e':TypeId}(hu:P.underlying t=some (.slice e))(hs:jH P e=some sz)(hr:st.rw r=some (.live e' sz (xs.map f)))(h0:0<=i)(h:xs[i.toNat]?=some y) :
  (lm P t (.own r) (.t (.int kk i))).run st=some (.elem r sz i.toNat 0,st):=by
 have:i.toNat < xs.length:=(aaa.1 h).1;unfold lm;simp only [hu,hs,MA.run,hr,h0,zWg,this,and_self,↓reduceIte,true_and]
end
section
variable {P:Program} {n:Nat} {ls:List Nat} {st st1:St}
theorem Le.trans{st2:St}(h:Le n ls st st1)(k:Le n ls st1 st2):Le n ls st st2:=λE g a w hE hS=>by
 obtain ⟨g1,h1⟩:=h E g a w hE hS;exact k E g1 a w hE h1
theorem Ze{t:Nat}{x:A}(htm:st1.tm=st.tm)(h:∀ (E:En) (g:Gh) (w:World) (v:Value),fm E g st w->VR w g st.O st.R (st.tm t) v->∃ g1,fm E g1 st1 w/\rt w w g g1 st.O st.R st1.O st1.R/\VR w g1 st1.O st1.R x v)(ht:t < n) :
  Le n ls st (st1.put (some t) x):=λE g a w hE hS=>by
 obtain ⟨v,h1,h2⟩:=hS.tm t ht;obtain ⟨g1,h3,h4,h5⟩:=h E g w v hS.mem h2;refine ⟨g1,h3.put _ _,hS.size,hS.defers,λi hi=>?_,λi hi=>?_,λs b hs=>?_,λv' hv'=>⟨(h4.R _ (hS.pin v' hv').1).1,(h4.R _ (hS.pin v' hv').1).2.trans (hS.pin v' hv').2⟩⟩
 ·show ∃ u,_/\VR w g1 st1.O st1.R (eI st1.tm t x i) u
  by_cases he:i=t
  ·subst he;exact ⟨v,h1,by rw [dk]; exact h5⟩
  ·obtain ⟨u,h6,h7⟩:=hS.tm i hi;exact ⟨u,h6,by rw [ci _ _ _ _ he,htm]; exact h7.mono h4⟩
 ·show eI st1.tm t x i=A.undef;rw [ci _ _ _ _ ar,htm];exact hS.und i hi
 ·obtain ⟨h6,h7⟩:=hS.lent s b hs;exact ⟨(h4.O s h6).1,(h4.O s h6).2.trans h7⟩
theorem fm.nilrow{E:En}{g:Gh}{w:World}{r:Nat}(h:fm E g st w)(hr:st.rw r=none)(e sz:Nat) :
  fm E { g with rw:=eI g.rw r (.slice none 0 0) } { st with rw:=eI st.rw r (some (.live e sz [])) } w /\
   rt w w g { g with rw:=eI g.rw r (.slice none 0 0) } st.O st.R ({ st with rw:=eI st.rw r (some (.live e sz [])) }:St).O ({ st with rw:=eI st.rw r (some (.live e sz [])) }:St).R :=
 h.new_row (su.refl w) r hr (.slice none 0 0) e sz [] (λ_=>False) (λ_ _ _=>rfl) (λb h=>by cases h) (λ_ _ h=>h.elim) (λ_ h=>h.elim)
  ⟨[],⟨by simp,.inl ⟨rfl,rfl⟩⟩,λi row h=>by simp at h,λi row j x h=>by simp at h,λb h=>by cases h⟩
theorem Le.frz(t r e sz:Nat)(rows:List (List T))(ht:st.tm t=.own r)(hr:st.rw r=some (.live e sz rows))(hlt:Nat.blt t n=true) :
  Le n ls st (({ st with rw:=eI st.rw r (some (.frz sz rows)) }:St).put (some t) (.t (.sl sz rows))) :=
 Ze rfl (λE g w v hM hv=>by
  rw [ht] at hv
  cases hv with
  | own _ hR =>
   obtain ⟨h1,h2⟩:=hM.frz_row r e sz rows hr;have h3:Rd w _ (.sl sz rows) (g.rw r):=h1.row r (.frz sz rows) (by simp [dk]);exact ⟨_,h1,h2,.t _ _ h3⟩) V2
theorem fm.reob{E:En}{g:Gh}{w:World}{s:Nat}{cells cells':List A}(h:fm E g st w)(hs:st.ob s=some cells)(hl:cells'.length<=cells.length)
  (hx:∀ (j:Nat) (x':A),cells'[j]?=some x'->∃ x,cells[j]?=some x/\∀ v,x.one=true->VR w g st.O st.R x v->x'.one=true/\VR w g st.O st.R x' v):fm E g { st with ob:=eI st.ob s (some cells') } w:=by
 have hO:({ st with ob:=eI st.ob s (some cells') }:St).O=st.O:=by
  funext i
  unfold St.O;simp only [eI]
  split
  ·rename_i he;rw [he,hs];rfl
  ·rfl
 have hR:({ st with ob:=eI st.ob s (some cells') }:St).R=st.R:=rfl;have hL:({ st with ob:=eI st.ob s (some cells') }:St).L=st.L:=rfl;refine ⟨λi c hi=>?_,by rw [hO]; exact h.obne,h.row,h.rowne,by rw [hO,hL]; exact h.rowob,h.F,h.os,h.tape,h.output,h.sizes,h.frame,h.shp,h.dep0⟩;rw [hO,hR]
 by_cases he:i=s
 ·subst he;have hc:c=cells':=by simpa [dk] using hi.symm
  subst hc;obtain ⟨arr,e,h1,h2,h3,h4⟩:=h.ob i cells hs;refine ⟨arr,e,h1,by omega,λj x' hj=>?_,h4⟩;obtain ⟨x,hxj,hxx⟩:=hx j x' hj;obtain ⟨h5,v,h6,h7⟩:=h3 j x hxj;exact ⟨(hxx v h5 h7).1,v,h6,(hxx v h5 h7).2⟩
 ·exact h.ob i c (by simpa [eI,he] using hi)
theorem Le.mem(htm:st1.tm=st.tm)(h:∀ (E:En) (g:Gh) (w:World),fm E g st w->∃ g1,fm E g1 st1 w/\rt w w g g1 st.O st.R st1.O st1.R):Le n ls st st1:=λE g a w hE hS=>by
 obtain ⟨g1,h3,h4⟩:=h E g w hS.mem;refine ⟨g1,h3,hS.size,hS.defers,λi hi=>?_,λi hi=>?_,λs b hs=>?_,λv' hv'=>⟨(h4.R _ (hS.pin v' hv').1).1,(h4.R _ (hS.pin v' hv').1).2.trans (hS.pin v' hv').2⟩⟩
 ·obtain ⟨u,h6,h7⟩:=hS.tm i hi;exact ⟨u,h6,by rw [htm]; exact h7.mono h4⟩
 ·rw [htm];exact hS.und i hi
 ·obtain ⟨h6,h7⟩:=hS.lent s b hs;exact ⟨(h4.O s h6).1,(h4.O s h6).2.trans h7⟩
theorem SI{s:Nat}{cells cells':List A}(hs:st.ob s=some cells):({ st with ob:=eI st.ob s (some cells') }:St).O=st.O:=by
 funext i
 unfold St.O;simp only [eI]
 split
 ·rename_i he;rw [he,hs];rfl
 ·rfl
theorem ly(s j r e sz:Nat)(cells:List A)(hs:st.ob s=some cells)(hj:cells[j]?=some .nil)(hr:st.rw r=none) :
  Le n ls st { tm:=st.tm,ob:=eI st.ob s (some (cells.set j (.own r))),rw:=eI st.rw r (some (.live e sz [])) } :=
 Le.mem rfl λE g w hM=>by
  obtain ⟨h1,h2⟩:=hM.nilrow hr e sz;have h3:({ g with rw:=eI g.rw r (.slice none 0 0) }:Gh).rw r=Value.slice none 0 0:=dk _ _ _;have h4:=VR.own (w:=w) (g:={ g with rw:=eI g.rw r (.slice none 0 0) }) (O:=({ st with rw:=eI st.rw r (some (.live e sz [])) }:St).O) (R:=({ st with rw:=eI st.rw r (some (.live e sz [])) }:St).R) r (by simp [St.R,dk]);rw [h3] at h4;have hs':({ st with rw:=eI st.rw r (some (.live e sz [])) }:St).ob s=some cells:=hs;have hO:=SI (cells':=cells.set j (.own r)) hs';refine ⟨_,h1.reob hs' (cells':=cells.set j (.own r)) eH (λi x' hi=>?_),⟨h2.same,h2.F,λs hs=>?_,h2.R,h2.d,h2.s⟩⟩
  ·by_cases he:j=i
   ·subst he;refine ⟨.nil,hj,λv _ hv=>?_⟩;have hlt:j < cells.length:=(aaa.1 hj).1;rw [List.getElem?_set_self hlt] at hi
    cases hi
    cases hv
    exact ⟨rfl,h4⟩
   ·rw [List.getElem?_set_ne he] at hi;exact ⟨x',hi,λv h1 h2=>⟨h1,h2⟩⟩
  ·have:=h2.O s hs;exact ⟨by rw [<- hO] at this; exact this.1,this.2⟩
end
end Go.Tm
namespace Go.Tm
section
variable {P:Program} {n:Nat} {ls:List Nat} {st st1:St}
theorem ch(s j r e sz:Nat)(cells:List A)(rows:List (List T))(hs:st.ob s=some cells)(hj:cells[j]?=some (.own r))(hr:st.rw r=some (.live e sz rows)) :
  Le n ls st { tm:=st.tm,ob:=eI st.ob s (some (cells.set j (.t (.sl sz rows)))),rw:=eI st.rw r (some (.frz sz rows)) } :=
 Le.mem rfl λE g w hM=>by
  obtain ⟨h1,h2⟩:=hM.frz_row r e sz rows hr;have h3:Rd w _ (.sl sz rows) (g.rw r):=h1.row r (.frz sz rows) (by simp [dk]);have hs':({ st with rw:=eI st.rw r (some (.frz sz rows)) }:St).ob s=some cells:=hs;have hO:=SI (cells':=cells.set j (.t (.sl sz rows))) hs';refine ⟨_,h1.reob hs' (cells':=cells.set j (.t (.sl sz rows))) eH (λi x' hi=>?_),⟨h2.same,h2.F,λs hs=>?_,h2.R,h2.d,h2.s⟩⟩
  ·by_cases he:j=i
   ·subst he;refine ⟨.own r,hj,λv _ hv=>?_⟩;have hlt:j < cells.length:=(aaa.1 hj).1;rw [List.getElem?_set_self hlt] at hi
    cases hi
    cases hv
    exact ⟨rfl,.t _ _ h3⟩
   ·rw [List.getElem?_set_ne he] at hi;exact ⟨x',hi,λv h1 h2=>⟨h1,h2⟩⟩
  ·have:=h2.O s hs;exact ⟨by rw [<- hO] at this; exact this.1,this.2⟩
end
end Go.Tm
namespace Go.Tm
open Go.RowKit
def dm{α:Type}(xs:List α)(i:Int):Option α:=if 0<=i then xs[i.toNat]? else none
theorem bB{α:Type}{xs:List α}{i:Int}{x:α}(h:dm xs i=some x):0<=i/\xs[i.toNat]?=some x:=by
 unfold dm at h
 split at h
 ·exact ⟨by assumption,h⟩
 ·cases h
def cd(b:Bool):Option Unit:=if b then some () else none
theorem aK{b:Bool}{u:Unit}(h:cd b=some u):b=true:=by
 unfold cd at h
 split at h
 ·assumption
 ·cases h
theorem aan{α β:Type}{x:Option α}{f:α->Option β}{r:β}(h:x.bind f=some r):∃ a,x=some a/\f a=some r:=by
 cases x with
 | none=>cases h
 | some a=>exact ⟨a,rfl,h⟩
def Mk{β:Type}(x:Option (β×St)):St:=match x with | some q=>q.2 | none=>dD
def Z5(x:Option (A×St)):A:=match x with | some q=>q.1 | none=>.undef
section
variable {P:Program} {n:Nat} {ls:List Nat} {Q:Exit->St->Prop} {st st':St} {p:Nat->Bool} {ρ:Nat->dR} {ops:Array Oper} {l:List Oper} {K:St->Prop} {o:Oper}
theorem Uj{id:Nat}(p:Nat->Bool)(ρ:Nat->dR)(hm:P.follows .mixedOrders=true)(hok:MV p ρ n ops=true)(h:ab P p ρ ops ops.toList st (Q .normal)):Wp P n ls (.region id ops true) Q st :=
 Wp.region (λ_=>hm) hok h
theorem B9{id:Nat}(p:Nat->Bool)(ρ:Nat->dR)(hok:ops.toList.all (og n)=true)(h:ab P p ρ ops ops.toList st (Q .normal)):Wp P n ls (.region id ops false) Q st :=
 Wp.region (λh=>by cases h) hok h
theorem ab.known(d:Nat){e v:Bool}(h:st.tm d=.t (.bool e))(hv:e=v)(hr:ab P p ρ ops l (st.put (some d) (.t (.bool v))) K):ab P p ρ ops l st K:=by
 have:st.put (some d) (.t (.bool v))=st:=by
  refine St.ext (funext λi=>?_) rfl rfl;show eI st.tm d (.t (.bool v)) i=st.tm i;unfold eI
  split
  ·rename_i he;rw [he,h,hv]
  ·rfl
 rwa [this] at hr
theorem ab.pure{x:A}(hg:jc ops st o=some true)(hf:eN ρ st o=true)(h:(ql P ρ st.eval o).run st=some (x,st))(hr:ab P p ρ ops l (st.put o.dst x) K):ab P p ρ ops (o :: l) st K:=ab.op hg hf h hr
theorem Ws{α:Type}(f:α->List T)(xs:List α)(i:Int){y:α}{t e:TypeId}{a b:Operand}{sz:Nat}{kk:IntKind}(ho:o.op=.indexAddr t a b)(hg:jc ops st o=some true)(hf:eN ρ st o=true)
  (ha:st.eval a=some (.t (.sl sz (xs.map f)))) (hb:st.eval b=some (.t (.int kk i))) (hu:P.underlying t=some (.slice e)) (hs:jH P e=some sz) (h:dm xs i=some y) (hk:ab P p ρ ops l (st.put o.dst (.fadr (f y))) K):ab P p ρ ops (o :: l) st K:=by
 obtain ⟨h0,h1⟩:=bB h;refine ab.pure (x:=.fadr (f y)) hg hf ?_ hk;simp only [ql,ho,ha,hb];exact qa3 hu hs h0 h1
theorem Wt{α:Type}(f:α->List T)(xs:List α)(i:Int)(r:Nat){y:α}{t e e':TypeId}{a b:Operand}{sz:Nat}{kk:IntKind}(ho:o.op=.indexAddr t a b)(hg:jc ops st o=some true)(hf:eN ρ st o=true)
  (ha:st.eval a=some (.own r)) (hr:st.rw r=some (.live e' sz (xs.map f))) (hb:st.eval b=some (.t (.int kk i))) (hu:P.underlying t=some (.slice e)) (hs:jH P e=some sz) (h:dm xs i=some y) (hk:ab P p ρ ops l (st.put o.dst (.elem r sz i.toNat 0)) K):ab P p ρ ops (o :: l) st K:=by
 obtain ⟨h0,h1⟩:=bB h;refine ab.pure (x:=.elem r sz i.toNat 0) hg hf ?_ hk;simp only [ql,ho,ha,hb];exact Zd hu hs hr h0 h1
theorem Uk{α:Type}(f:α->List T)(xs:List α)(r i off:Nat){y:α}{t:TypeId}{a:Operand}{sz m:Nat}{e':TypeId}{gg:Bool}(x:A)(ho:o.op=.load t a)(hg:jc ops st o=some true)(hf:eN ρ st o=true)
  (ha:st.eval a=some (.elem r sz i off)) (hr:st.rw r=some (.live e' sz (xs.map f))) (hgg:R8 P t=some gg) (hm:jH P t=some m) (h:xs[i]?=some y) (hc:FO gg m ((f y).map A.t) off=some x) (hk:ab P p ρ ops l (st.put o.dst x) K):ab P p ρ ops (o :: l) st K:=by
 refine ab.pure (x:=x) hg hf ?_ hk;simp only [ql,ho,ha,IX,hgg,hm,MA.run,hr,↓reduceIte,zQZ,h,zWW,hc]
def Eu(P:Program)(t:TypeId):Option (TypeId×Nat×Nat):=match P.underlying t with
 | some (.slice e)=>match CF P e,uU P e with
  | some (some _,n,by_),some z=>if z.length=n/\0 < n/\0 < by_ then some (e,n,by_) else none
  | _,_=>none
 | _=>none
theorem Hs{t e:TypeId}{n by_:Nat}(h:Eu P t=some (e,n,by_)):∃ z z0,P.underlying t=some (.slice e)/\CF P e=some (some z0,n,by_)/\uU P e=some z/\z.length=n/\0 < n/\0 < by_:=by
 unfold Eu at h
 split at h
 ·rename_i e' hu
  split at h
  ·rename_i z0 n' by' z hi hz
   split at h
   ·rename_i hc
    cases h
    exact ⟨z,z0,hu,hi,hz,hc.1,hc.2.1,hc.2.2⟩
   ·cases h
  ·cases h
 ·cases h
theorem XL{k:IntKind}{m:Nat}{xs:List Int}{f:Int->List T}(hf:∀ n,(f n).all T.sc=true):(((A.ext false (.sl m (xs.map f))).rows λm rows=>MA.ret (m,rows)).run st).map Prod.fst=some (m,xs.map f):=by
 have:Mz (xs.map f)=true:=by
  unfold Mz;rw [zZv];intro r hr;obtain ⟨n,_,rfl⟩:=List.mem_map.1 hr;exact hf n
 simp [A.rows,this,MA.run]
theorem QS{β:Type}{y:A}{m:Nat}{ys:List (List T)}(hy:((y.rows λm rows=>MA.ret (m,rows)).run st).map Prod.fst=some (m,ys)):∀ k:Nat->List (List T)->MA β,(y.rows k).run st=(k m ys).run st:=by
 intro k;unfold A.rows at hy ⊢
 split at hy <;> simp only [MA.run] at hy ⊢ <;> try (simp at hy; done)
 ·simp at hy; obtain ⟨rfl,rfl⟩:=hy; rfl
 ·split at hy
  ·rename_i h; rw [if_pos h]; simp [MA.run] at hy; obtain ⟨rfl,rfl⟩:=hy; rfl
  ·simp [MA.run] at hy
 ·simp at hy; obtain ⟨rfl,rfl⟩:=hy; rfl
 ·rename_i r
  revert hy
  rcases st.rw r with _ | (_ | _ | _) <;> simp only [MA.run,zWW,Option.some.injEq,Prod.mk.injEq,Option.map_none,reduceCtorEq,false_implies]
  ·rintro ⟨rfl,rfl⟩; rfl
  ·rintro ⟨rfl,rfl⟩; rfl
theorem Wu(d m e nn by_ r:Nat)(xs ys:List (List T)){t:TypeId}{ts:Array TypeId}{args:Array Operand}{a b:Operand}{y:A}(ho:o.op=.call { callee:=.builtin .append,args,argTypes:=ts })(hargs:args.toList=[a,b])(hts:ts.toList=[t,t])(hd:o.dst=some d)(hg:jc ops st o=some true)(hf:eN ρ st o=true)
  (ha:st.eval a=some (.own r)) (hr:st.rw r=some (.live e nn xs)) (hb:st.eval b=some y) (hy:((y.rows λm rows=>MA.ret (m,rows)).run st).map Prod.fst=some (m,ys)) (hm:m=nn\/ys=[]) (hi:Eu P t=some (e,nn,by_)) (hsz:(xs.length+ys.length)*by_<=140737488355328) (hne:zXW (gj d 0) r=false) (hfree:st.rw (gj d 0)=none)
  (hk:ab P p ρ ops l (({ st with rw:=eI (eI st.rw r (some .gone)) (gj d 0) (some (.live e nn (xs++ys))) }:St).put o.dst (.own (gj d 0))) K):ab P p ρ ops (o :: l) st K:=by
 obtain ⟨z,z0,hu,hti,hz,h1,h2,h3⟩:=Hs hi;have hne':gj d 0≠r:=λh=>by rw [h,zZj] at hne; cases hne
 refine ab.op (x:=.own (gj d 0)) hg hf ?_ hk;have hrow:=QS (β:=A) hy;have hfr:eI st.rw r (some Vn.gone) (gj d 0)=none:=by rw [ci _ _ _ _ hne',hfree]
 simp only [ql,ho,hargs,ha,hb,w6,hts,hd,↓reduceIte,hu,hti,hz,h1,h2,h3,and_self,hrow,hm,MA.run,hr,hsz,xV,hfr]
end
section
variable {P:Program} {n:Nat} {ls:List Nat} {Q:Exit->St->Prop} {st st':St} {p:Nat->Bool} {ρ:Nat->dR} {ops:Array Oper} {l:List Oper} {K:St->Prop} {o:Oper}
theorem qa4{m:Bool}{fn:Func}{args:List V}{res:V}{outs:List (List C)}(l:List A)(res0:V)(outs0:List (List C))(hres:CJ P st fn.results.toList=some l)(h:((DD 0 args λos=>Wo m (XK l) λv=>MA.ret (v,os)).run st).map Prod.fst=some (res0,outs0))(hv:Uh res0 res)(ho:DE (DE SF) outs0 outs):Br P m fn args res outs .ret st:=by
 obtain ⟨⟨x,st1⟩,h1,h2⟩:=aab.1 h
 cases h2
 exact ⟨.inl rfl,l,st1,res0,outs0,hres,h1,hv,ho⟩
theorem dY{α:Type}(f:α->List T)(d m e nn by_ r:Nat)(xs ys:List α){t:TypeId}{ts:Array TypeId}{args:Array Operand}{a b:Operand}{y:A}(ho:o.op=.call { callee:=.builtin .append,args,argTypes:=ts })(hargs:args.toList=[a,b])(hts:ts.toList=[t,t])(hd:o.dst=some d)(hg:jc ops st o=some true)(hf:eN ρ st o=true)
  (ha:st.eval a=some (.own r)) (hr:st.rw r=some (.live e nn (xs.map f))) (hb:st.eval b=some y) (hy:((y.rows λm rows=>MA.ret (m,rows)).run st).map Prod.fst=some (m,ys.map f)) (hm:m=nn\/ys.map f=[]) (hi:Eu P t=some (e,nn,by_)) (hsz:(xs.length+ys.length)*by_<=140737488355328) (hne:zXW (gj d 0) r=false) (hfree:st.rw (gj d 0)=none)
  (hk:ab P p ρ ops l (({ st with rw:=eI (eI st.rw r (some .gone)) (gj d 0) (some (.live e nn ((xs++ys).map f))) }:St).put o.dst (.own (gj d 0))) K):ab P p ρ ops (o :: l) st K :=
 Wu d m e nn by_ r (xs.map f) (ys.map f) ho hargs hts hd hg hf ha hr hb hy hm hi (by simpa using hsz) hne hfree (by rw [<- List.map_append]; exact hk)
theorem bL(a b:ByteArray){t u:TypeId}{x y:Operand}(ho:o.op=.binOp .add t x y u)(hg:jc ops st o=some true)(hf:eN ρ st o=true)(hx:st.eval x=some (.t (.str a)))(hy:st.eval y=some (.t (.str b)))
  (h:a.size+b.size<=9223372036854775807) (hk:ab P p ρ ops l (st.put o.dst (.t (.str (a++b)))) K):ab P p ρ ops (o :: l) st K:=by
 refine ab.pure (x:=.t (.str (a++b))) hg hf ?_ hk;simp only [ql,ho,hx,hy,CG,h,↓reduceIte,MA.run]
theorem ik(op:BinOp)(a b:T)(z:T){t u:TypeId}{x y:Operand}(ho:o.op=.binOp op t x y u)(hg:jc ops st o=some true)(hf:eN ρ st o=true)(hx:st.eval x=some (.t a))(hy:st.eval y=some (.t b))
  (h:CG (isB P t) op a b=some z) (hk:ab P p ρ ops l (st.put o.dst (.t z)) K):ab P p ρ ops (o :: l) st K:=by
 refine ab.pure (x:=.t z) hg hf ?_ hk;simp only [ql,ho,hx,hy,h,MA.run]
theorem Vw(tb:Bool)(k:IntKind)(a b:Int)(h:(b == 0)=false):CG tb .quo (.int k a) (.int k b)=some (.int k (k.wrap (a.tdiv b))):=by
 have:b≠0:=by simpa using h
 simp [CG,this]
theorem Ew(tb:Bool)(k:IntKind)(a b:Int)(h:(b == 0)=false):CG tb .rem (.int k a) (.int k b)=some (.int k (a.tmod b)):=by
 have:b≠0:=by simpa using h
 simp [CG,this]
theorem Ae(tb:Bool)(k k':IntKind)(a b:Int)(h:decide (0<=b)=true):CG tb .shl (.int k a) (.int k' b)=some (.int k (k.wrap (a*2 ^ min b.toNat k.bits))):=by
 have:0<=b:=by simpa using h
 simp [CG,this]
theorem Ml(tb:Bool)(k k':IntKind)(a b:Int)(h:decide (0<=b)=true):CG tb .shr (.int k a) (.int k' b)=some (.int k (a.fdiv (2 ^ min b.toNat k.bits))):=by
 have:0<=b:=by simpa using h
 simp [CG,this]
def cS(l h n:Int):Bool:=decide (0<=l) && decide (l<=h) && decide (h<=n)
theorem Ht{l h n:Int}(hh:cS l h n=true):0<=l/\l<=h/\h<=n:=by
 simp only [cS,sk,decide_eq_true_eq] at hh;exact ⟨hh.1.1,hh.1.2,hh.2⟩
theorem eX{α:Type}(f:α->List T)(xs:List α)(sz:Nat)(i j:Int){t e:TypeId}{x:Operand}{ax:A}{lo hi:Option Operand}{alo ahi:Option A}(ho:o.op=.slice t x lo hi none)(hg:jc ops st o=some true)(hf:eN ρ st o=true)(hx:st.eval x=some ax)(hr:((ax.toT MA.ret).run st).map Prod.fst=some (.sl sz (xs.map f)))
  (hlo:MC st.eval lo=some alo) (hhi:MC st.eval hi=some ahi) (hl:zH 0 alo=some i) (hh:zH xs.length ahi=some j) (hu:P.underlying t=some (.slice e)) (hs:jH P e=some sz) (hw:YV ρ o.dst alo ahi=false) (h:cS i j xs.length=true)
  (hk:ab P p ρ ops l ((Mk ((ax.toT MA.ret).run st)).put o.dst (.t (.sl sz (((xs.take j.toNat).drop i.toNat).map f)))) K):ab P p ρ ops (o :: l) st K:=by
 have h':=Ht h;obtain ⟨⟨y,st1⟩,h1,h2⟩:=aab.1 hr
 cases h2
 rw [h1] at hk;refine ab.op (x:=.t (.sl sz (((xs.take j.toNat).drop i.toNat).map f))) (st1:=st1) hg hf ?_ hk;have key:∀ k:T->MA A,(ax.toT k).run st=(k (.sl sz (xs.map f))).run st1:=by
  intro k
  cases ax <;> simp only [A.toT,MA.run,Option.some.injEq,Prod.mk.injEq,reduceCtorEq] at h1 ⊢
  ·obtain ⟨h1,rfl⟩:=h1; rw [h1]
  ·obtain ⟨h1,rfl⟩:=h1; rw [h1]
  ·rename_i r
   revert h1
   rcases st.rw r with _ | (_ | _ | _) <;> simp only [MA.run,Option.some.injEq,Prod.mk.injEq,reduceCtorEq,false_implies]
   ·rintro ⟨h1,rfl⟩; rw [h1]
   ·rintro ⟨h1,rfl⟩; rw [h1]
 have hne:Aa P t ax alo ahi=ax.toT fun
   | .sl sz' rows=>match zH 0 alo,zH rows.length ahi with
    | some l,some h=>if sz'=sz\/rows=[] then if 0<=l/\l<=h/\h<=rows.length then .ret (.t (.sl sz' ((rows.take h.toNat).drop l.toNat))) else .fail else .fail
    | _,_=>.fail
   | _=>.fail:=by
  unfold Aa;rw [hu];have h9:∀ q:Option Nat,q=some sz->(match q with
   | some n=>(ax.toT λy=>match y with
    | .sl sz rows=>match zH 0 alo,zH rows.length ahi with
     | some l,some h=>if sz=n\/rows=[] then if 0<=l/\l<=h/\h<=rows.length then (MA.ret (.t (.sl sz ((rows.take h.toNat).drop l.toNat))):MA A) else .fail else .fail
     | _,_=>.fail
    | _=>.fail)
   | none=>.fail)=ax.toT fun
   | .sl sz' rows=>match zH 0 alo,zH rows.length ahi with
    | some l,some h=>if sz'=sz\/rows=[] then if 0<=l/\l<=h/\h<=rows.length then .ret (.t (.sl sz' ((rows.take h.toNat).drop l.toNat))) else .fail else .fail
    | _,_=>.fail
   | _=>.fail:=λq hq=>by subst hq; rfl
  cases ax <;> first | exact h9 _ hs | (exfalso; simp [A.toT,MA.run] at h1; done)
 simp only [ql,ho,hx,hlo,hhi,hw,zQj,hne,key,hl,zWg,hh,h'.1,h'.2.1,h'.2.2,and_self,↓reduceIte,MA.run,true_or,<- List.map_take,<- List.map_drop]
theorem tY{α:Type}(s:Bool)(f:α->List T)(xs:List α)(sz:Nat)(i j:Int){t e:TypeId}{x:Operand}{lo hi:Option Operand}{alo ahi:Option A}(ho:o.op=.slice t x lo hi none)(hg:jc ops st o=some true)(hf:eN ρ st o=true)(hx:st.eval x=some (.ext s (.sl sz (xs.map f))))
  (hlo:MC st.eval lo=some alo) (hhi:MC st.eval hi=some ahi) (hl:zH 0 alo=some i) (hh:zH xs.length ahi=some j) (hu:P.underlying t=some (.slice e)) (hs:jH P e=some sz) (hw:YV ρ o.dst alo ahi=false) (h:cS i j xs.length=true)
  (hk:ab P p ρ ops l (st.put o.dst (.ext s (.sl sz (((xs.take j.toNat).drop i.toNat).map f)))) K):ab P p ρ ops (o :: l) st K:=by
 have h':=Ht h;refine ab.pure (x:=.ext s (.sl sz (((xs.take j.toNat).drop i.toNat).map f))) hg hf ?_ hk;simp only [ql,ho,hx,hlo,hhi,hw,zQj,Aa,hu,hs,hl,zWg,hh,h'.1,h'.2.1,h'.2.2,and_self,true_and,↓reduceIte,MA.run,<- List.map_take,<- List.map_drop]
theorem M0{α:Type}:∀ (ts:List T) (k:List T->MA α),ln (ts.map A.t) k=k ts
 | [],k=>rfl
 | t :: ts,k=>by
  simp only [zWy,ln,A.toT];exact M0 ts _
theorem Hu{α:Type}(f:α->List T)(y:α)(d e nn by_:Nat)(i c:Int){t:TypeId}{x1 x2:Operand}(ho:o.op=.makeSlice t x1 x2)(hd:o.dst=some d)(hg:jc ops st o=some true)(hf:eN ρ st o=true)(h1:st.eval x1=some (.t (.int .i64 i)))(h2:st.eval x2=some (.t (.int .i64 c)))
  (hi:Eu P t=some (e,nn,by_)) (hz:(uU P e).map (l8 (G7 P e))=some ((f y).map A.t))
  (h0:(decide (0<=c) && (i == 0 || i == c))=true) (hsz:c.toNat*by_<=140737488355328) (hfree:st.rw (gj d 0)=none)
  (hk:ab P p ρ ops l (({ st with rw:=eI st.rw (gj d 0) (some (.live e nn ((zQq i.toNat y).map f))) }:St).put o.dst (.own (gj d 0))) K):ab P p ρ ops (o :: l) st K:=by
 obtain ⟨z,z0,hu,hti,hzz,q1,q2,q3⟩:=Hs hi;simp only [sk,decide_eq_true_eq,Bool.or_eq_true,beq_iff_eq] at h0;refine ab.op (x:=.own (gj d 0)) hg hf ?_ hk;have hc:c<=9223372036854775807:=by
  have:c.toNat<=c.toNat*by_:=Nat.le_mul_of_pos_right _ q3;omega
 rw [hzz] at hz;have hz':l8 (G7 P e) z=(f y).map A.t:=by simpa using hz
 simp only [ql,ho,h1,h2,ME,hu,hd,hti,hzz,q1,q2,h0.1,h0.2,hsz,hc,and_self,↓reduceIte,hz',M0,List.map_replicate,xV,MA.run,hfree]
theorem gu{α:Type}(f:α->List T)(xs:List α)(r i off:Nat){y:α}(y':α){t e:TypeId}{x1 x2:Operand}(v:A){sz m:Nat}(ts:List T)(ho:o.op=.store t x1 x2)(hg:jc ops st o=some true)(hf:eN ρ st o=true)
  (h1:st.eval x1=some (.elem r sz i off)) (h2:st.eval x2=some v) (hm:jH P t=some m) (hv:(zXW v.cells.length m && v.cells.all A.one)=true) (hz:l8 (G7 P t) v.cells=ts.map A.t)
  (hr:st.rw r=some (.live e sz (xs.map f))) (h:xs[i]?=some y) (hle:Nat.ble (off+m) (f y).length=true) (hy:spl (f y) off ts=f y')
  (hk:ab P p ρ ops l ((({ st with rw:=eI st.rw r (some (.live e sz ((xs.set i y').map f))) }:St)).put o.dst .undef) K):ab P p ρ ops (o :: l) st K:=by
 simp only [sk] at hv;have hv1:=zWv hv.1;have hle':off+m<=(f y).length:=by simpa using hle
 refine ab.op (x:=.undef) hg hf ?_ hk;simp only [ql,ho,h1,h2,BW,hm,hv1,hv.2,and_self,↓reduceIte,hz,M0,MA.run,hr,zQZ,h,zWW,hle',hy,List.map_set]
end
theorem Ul{β:Type}{e:Bool}{x y:β}{r:β}(h:(bif e then x else y)=r)(hc:e=true):x=r:=by rw [hc] at h; exact h
theorem Um{β:Type}{e:Bool}{x y:β}{r:β}(h:(bif e then x else y)=r)(hc:e=false):y=r:=by rw [hc] at h; exact h
def aL(k:IntKind)(a b:Int):Int:=k.wrap (a+b)
def cG(k:IntKind)(a b:Int):Int:=k.wrap (a - b)
def eO(k:IntKind)(a b:Int):Int:=k.wrap (a*b)
def Pc(k:IntKind)(a b:Int):Int:=k.wrap (a.tdiv b)
def ml(k:IntKind)(a b:Int):Int:=a.tmod b
def bJ(k:IntKind)(a b:Int):Int:=k.wrap (Sh k.bits a &&& Sh k.bits b).toNat
def tZ(k:IntKind)(a b:Int):Int:=k.wrap (Sh k.bits a ||| Sh k.bits b).toNat
def QT(k:IntKind)(a b:Int):Int:=k.wrap (Sh k.bits a ^^^ Sh k.bits b).toNat
def Mm(k:IntKind)(a b:Int):Int:=k.wrap (Sh k.bits a &&& ~~~ Sh k.bits b).toNat
def il(k:IntKind)(a b:Int):Int:=k.wrap (a*2 ^ min b.toNat k.bits)
def cU(k:IntKind)(a b:Int):Int:=a.fdiv (2 ^ min b.toNat k.bits)
theorem tf(b:Bool):b=true\/b=false:=by cases b <;> simp
def aj(k:IntKind)(n:Int):List T:=[.int k n]
def xB(s:ByteArray):List T:=[.str s]
def eSl{α:Type}(sz:Nat)(f:α->List T)(xs:List α):List T:=[.sl sz (xs.map f)]
theorem aD.le{P:Program}{f:FuncId}{l l':List V}{res:V}{outs:List (List C)}(h:aD P f l' res outs)(hl:DF l l'):aD P f l res outs:=by
 refine ⟨h.1,λw F vs bs hF hV hn hb htb=>(h.2 w F vs bs hF (I5 hl hV) hn hb htb).mono λe w' hh=>?_⟩;obtain ⟨v,F',bv,bo,h1,h2,h3,h4,h5,h6,h7,h8,h9⟩:=hh;exact ⟨v,F',bv,bo,h1,h2,h3,h4,h5,h6,Vv h7 hl,h8,h9⟩
section
variable {P:Program} {n:Nat} {ls:List Nat} {Q:Exit->St->Prop} {N:St->Prop} {st st':St} {p:Nat->Bool} {ρ:Nat->dR} {ops:Array Oper} {l:List Oper} {K:St->Prop} {o:Oper}
theorem ck(h:N st):ij N Q .normal st:=h
theorem na{id:Nat}(h:Q (.exit id) st):ij N Q (.exit id) st:=h
theorem qa5(h:Q .ret st):ij N Q .ret st:=h
theorem em{id:Nat}(h:Q .normal st):Wn id Q .normal st:=h
theorem FW{id:Nat}(h:Q .normal st):Wn id Q (.exit id) st:=by
 show bif zXW id id then Q .normal st else Q (.exit id) st
 rw [zZj];exact h
theorem KZ{fn:Func}{c:Code}{f:FuncId}{args:List V}{m:Bool}{res:V}{outs:List (List C)}(sr:List A)
  (hf:P.funcs[f]?=some fn) (hb:fn.body=some c) (hnm:(fn.name == "runtime.NumGoroutine")=false) (hle:Nat.ble sr.length fn.ntmps=true) (ht:wo fn.ntmps fn=true)
  (ha:((pE 0 args MA.ret).run dD).map Prod.fst=some sr) (hl:iM 0 args sr=true)
  (h:Wp P fn.ntmps (eR 0 args) c (Br P m fn args res outs) (gK sr (Mk ((pE 0 args MA.ret).run dD)))):aD P f args res outs:=by
 obtain ⟨⟨as',st0⟩,h1,h2⟩:=aab.1 ha
 cases h2
 rw [h1] at h;exact MZ hf hb hnm YJ ht h1 hl h
theorem Wv{α:Type}(f:α->List T)(xs:List α)(m:Nat){y:A}{x:Operand}{t e:TypeId}{args:Array Operand}{ts:Array TypeId}(ho:o.op=.call { callee:=.builtin .len,args,argTypes:=ts })(hargs:args.toList=[x])(hts:ts.toList=[t])(hg:jc ops st o=some true)(hf:eN ρ st o=true)
  (hx:st.eval x=some y) (hy:((y.rows λm rows=>MA.ret (m,rows)).run st).map Prod.fst=some (m,xs.map f)) (hu:P.underlying t=some (.slice e)) (hk:ab P p ρ ops l (st.put o.dst (.t (.int .i64 xs.length))) K):ab P p ρ ops (o :: l) st K:=by
 refine ab.pure (x:=.t (.int .i64 xs.length)) hg hf ?_ hk;have hl:(Kf P t y).run st=(MA.ret (.t (.int .i64 xs.length)):MA A).run st:=by
  unfold Kf;rw [hu]
  split <;> rename_i h1 <;> first | (cases h1; done) | skip
  ·rename_i s z rs
   cases s with
   | true=>cases hy
   | false =>
    simp only [A.rows] at hy
    split at hy
    ·simp [MA.run] at hy; rw [hy.2]; simp
    ·simp [MA.run] at hy
  ·rw [QS hy]; simp
  ·rename_i h2 _; exact absurd rfl (h2 _)
 simp only [ql,ho,hargs,hx,hts];rw [hl]; rfl
theorem dh{α:Type}(f:α->List T)(xs:List α)(s:Bool)(m:Nat){x:Operand}{t e:TypeId}{args:Array Operand}{ts:Array TypeId}(ho:o.op=.call { callee:=.builtin .len,args:=args,argTypes:=ts })(hargs:args.toList=[x])(hts:ts.toList=[t])(hg:jc ops st o=some true)(hf:eN ρ st o=true)
  (hx:st.eval x=some (.ext s (.sl m (xs.map f)))) (hu:P.underlying t=some (.slice e)) (hk:ab P p ρ ops l (st.put o.dst (.t (.int .i64 xs.length))) K):ab P p ρ ops (o :: l) st K:=by
 refine ab.pure (x:=.t (.int .i64 xs.length)) hg hf ?_ hk;simp only [ql,ho,hargs,hx,hts,Kf,hu,MA.run,zWg]
def nc(l:List (Nat×dR))(t:Nat):dR:=match Dz l t with | some r=>r | none=>.any
def Pd(l:List Nat)(s:Nat):Bool:=l.contains s
end
end Go.Tm
namespace Go.Tm
open Go.RowKit Go.ChangeShapes
inductive Z6 (w:World) (F:Nat->Prop):List T->List Value->Prop
 | nil:Z6 w F [] []
 | cons (x:T) (v:Value) (xs:List T) (vs:List Value) (h:Rd w F x v) (hs:Z6 w F xs vs):Z6 w F (x :: xs) (v :: vs)
theorem Z6.get{w:World}{F:Nat->Prop}{xs:List T}{vs:List Value}(h:Z6 w F xs vs):∀ (j:Nat) (x:T),xs[j]?=some x->∃ v,vs[j]?=some v/\Rd w F x v:=by
 induction h with
 | nil=>intro j x hx; simp at hx
 | cons x v xs vs h hs ih =>
  intro j y hy
  cases j with
  | zero=>simp only [zWX,Option.some.injEq] at hy ⊢; subst hy; exact ⟨v,rfl,h⟩
  | succ j=>simp only [List.getElem?_cons_succ] at hy ⊢; exact ih j y hy
abbrev Zf(w:World):Nat->Prop:=λb=>b < w.heap.size
def SJ{α:Type}(P:Program)(t:TypeId)(n:Nat)(wf:α->Prop)(enc:α->List T):Prop :=
 P.cellsOf t=n/\(∀ x,(enc x).length=n)/\∀ {H:Type} (ec:TypeId×Value->H) (w:World) (sp:Nat->Bool) (held:Bool) (k:Nat) (cs:List Value) (d:DataW H×List MemPlace),
  DataW.trod ec P w 0 sp held k t cs=some d->∃ x,wf x/\Z6 w (Zf w) (enc x) cs
def kc(k:IntKind)(n:Int):Prop:=k.min<=n/\n<=k.max
def M1{α:Type}(wf:α->Prop)(xs:List α):Prop:=xs.length<=maxLen/\∀ x∈xs,wf x
theorem SJ.int{P:Program}{t:TypeId}{k:IntKind}(hu:P.underlying t=some (.int k))(hc:P.cellsOf t=1):SJ P t 1 (kc k) (aj k):=by
 refine ⟨hc,λ_=>rfl,λec w sp held m cs d h=>?_⟩;obtain ⟨n,rfl,_,hw⟩:=DataW.trod_int hu h;simp [Lit.wf] at hw;exact ⟨n,hw,.cons _ _ _ _ (.int _ _) .nil⟩
theorem M2{α:Type}{g:Nat->Option α}{n:Nat}{r:List α}(h:(zWj n).mapM g=some r){i:Nat}(hi:i < n):∃ x,g i=some x/\r[i]?=some x:=by
 have h1:=mapM_some_get h i i (by simp [hi]);have h2:=mapM_some_length h;simp only [List.length_range] at h2;rw [h1];exact ⟨r[i]'ar,by simp,by simp⟩
theorem Qd{w:World}{a:Addr}{n:Nat}{cs:List Value}(h:w.cells? 0 a n=some cs):cs.length=n/\∀ j,j < n->∃ v,w.cell? (a.add j)=some v/\cs[j]?=some v:=by
 unfold World.cells? at h;simp only [zYG,if_true] at h;exact ⟨by have:=mapM_some_length h; simpa using this,λj hj=>M2 h hj⟩
theorem Ww{w:World}{a:Addr}{v:Value}(h:w.cell? a=some v):a.spot=none/\a.block < w.heap.size:=by
 unfold World.cell? at h
 split at h
 ·rename_i c u fr e
  split at h
  ·cases h
  ·rename_i hs;refine ⟨by cases a with | mk b o s=>cases s <;> simp_all,?_⟩;have:=e; rw [aaf] at this; exact this.1
 ·cases h
theorem SJ.slice{α:Type}{P:Program}{t e:TypeId}{n:Nat}{wf:α->Prop}{enc:α->List T}(hu:P.underlying t=some (.slice e))(hc:P.cellsOf t=1)(he:SJ P e (n+1) wf enc):SJ P t 1 (M1 wf) (eSl (n+1) enc):=by
 refine ⟨hc,λ_=>rfl,λ{H} ec w sp held m cs d h=>?_⟩;rcases DataW.trod_slice hu h with ⟨rfl,_⟩ | ⟨a,len,cap,elems,rest,m',rfl,rfl,_,_,hlc,hcap,hel,hm,_,_⟩
 ·exact ⟨[],⟨by simp,by simp⟩,.cons _ _ _ _ (.sl0 _ _ _ (by first | assumption | exact λ_=>rfl | (intro h; cases h))) .nil⟩
 ·have hex:∀ i,i < len->∃ x:α,∃ cs:List Value,w.cells? 0 (a.add (i*(n+1))) (n+1)=some cs/\wf x/\Z6 w (Zf w) (enc x) cs:=by
   intro i hi;have hy:=hm i hi;rw [he.1,sX ar] at hy
   cases hcs:w.cells? 0 (a.add (i*(n+1))) (n+1) with
   | none=>rw [hcs] at hy; cases hy
   | some cs =>
    rw [hcs] at hy;obtain ⟨x,hx,hr⟩:=he.2.2 ec w sp held m' cs _ hy;exact ⟨x,cs,rfl,hx,hr⟩
  rcases Nat.eq_zero_or_pos len with h0 | hpos
  ·subst h0; exact ⟨[],⟨by simp,by simp⟩,.cons _ _ _ _ (.sl0 _ _ _ (by first | assumption | exact λ_=>rfl | (intro h; cases h))) .nil⟩
  ·have hsp:a.spot=none/\a.block < w.heap.size:=by
    obtain ⟨x,cs,hcs,_,_⟩:=hex 0 hpos;obtain ⟨v,hv,_⟩:=(Qd hcs).2 0 ar;have:=Ww hv
    simpa [Addr.add] using this
   obtain ⟨b,off,s⟩:=a;simp only at hsp;obtain ⟨rfl,hb⟩:=hsp;have hcell:∀ i j,(Addr.add ((⟨b,off,none⟩:Addr).add (i*(n+1))) j)=⟨b,off+i*(n+1)+j,none⟩:=by
    intro i j;unfold Addr.add
    split <;> split <;> simp_all
   -- the elements, chosen
   have hch:∀ k,k<=len->∃ ys:List α,ys.length=k/\(∀ y∈ys,wf y)/\∀ i y,ys[i]?=some y->∃ cs,w.cells? 0 ((⟨b,off,none⟩:Addr).add (i*(n+1))) (n+1)=some cs/\Z6 w (Zf w) (enc y) cs:=by
    intro k
    induction k with
    | zero=>intro _; exact ⟨[],rfl,by simp,by simp⟩
    | succ k ih =>
     intro hk;obtain ⟨ys,h1,h2,h3⟩:=ih ar;obtain ⟨x,cs,h4,h5,h6⟩:=hex k ar;refine ⟨ys++[x],by simp [h1],?_,?_⟩
     ·intro y hy;rcases aac.1 hy with h | h
      ·exact h2 y h
      ·simp only [zQy] at h; subst h; exact h5
     ·intro i y hy
      by_cases hi:i < ys.length
      ·rw [zQW hi] at hy; exact h3 i y hy
      ·rw [zQV ar] at hy;have:i=ys.length:=by
        rcases Nat.lt_or_ge (i - ys.length) 1 with h | h
        ·omega
        ·rw [List.getElem?_eq_none (by simpa using h)] at hy; cases hy
       subst this;simp only [Nat.sub_self,zWX,Option.some.injEq] at hy;subst hy;rw [h1];exact ⟨cs,h4,h6⟩
   obtain ⟨ys,h1,h2,h3⟩:=hch len (zWk _);refine ⟨ys,⟨by omega,h2⟩,.cons _ _ _ _ ?_ .nil⟩;have hl:(ys.map enc).length=len:=by simpa using h1
   have key:∀ (i:Nat) (row:List T) (j:Nat) (x:T),(ys.map enc)[i]?=some row->row[j]?=some x->∃ v,w.cell? ⟨b,off+i*(n+1)+j,none⟩=some v/\Rd w (Zf w) x v:=by
    intro i row j x hi hj;rw [zQZ] at hi
    cases hy:ys[i]? with
    | none=>rw [hy] at hi; cases hi
    | some y =>
     rw [hy] at hi;simp only [zWW,Option.some.injEq] at hi;subst hi;obtain ⟨cs,hcs,hrd⟩:=h3 i y hy;obtain ⟨v,hv,hr⟩:=hrd.get j x hj;have hjn:j < n+1:=by
      have:=he.2.1 y;rcases Nat.lt_or_ge j (n+1) with h | h
      ·exact h
      ·rw [List.getElem?_eq_none ar] at hj; cases hj
     obtain ⟨v',hv',hc'⟩:=(Qd hcs).2 j hjn;rw [hv] at hc'
     cases hc'
     rw [hcell] at hv';exact ⟨v,hv',hr⟩
   have hfun:∃ u:Nat->Nat->Value,∀ (i:Nat) (row:List T) (j:Nat) (x:T),(ys.map enc)[i]?=some row->row[j]?=some x->w.cell? ⟨b,off+i*(n+1)+j,none⟩=some (u i j)/\Rd w (Zf w) x (u i j):=by
    refine ⟨λi j=>(w.cell? ⟨b,off+i*(n+1)+j,none⟩).getD (.bool false),λi row j x hi hj=>?_⟩;obtain ⟨v,hv,hr⟩:=key i row j x hi hj;simp only [hv,zYH];exact ⟨trivial,hr⟩
   obtain ⟨u,hu'⟩:=hfun;have:=Rd.sl (w:=w) (F:=Zf w) (n+1) (ys.map enc) b off cap u ar hb (λi row hi=>by
    rw [zQZ] at hi
    cases hy:ys[i]? with
    | none=>rw [hy] at hi; cases hi
    | some y=>rw [hy] at hi; simp only [zWW,Option.some.injEq] at hi; subst hi; exact he.2.1 y) (λi row j x hi hj=>(hu' i row j x hi hj).1) (λi row j x hi hj=>(hu' i row j x hi hj).2)
   rw [hl] at this;exact this
def RdV{α:Type}(P:Program)(t:TypeId)(wf:α->Prop)(ev:α->V):Prop :=
 ∀ {H:Type} (ec:TypeId×Value->H) (W:World) (base:Nat) (v:Value) (d:DataW H) (p:List MemPlace),DataW.Trod ec P W 0 (λ_=>true) true t v d p->Value.okWide P W .any base t v->∃ x,wf x/\VV W (Zf W) (ev x) v []
def XM(P:Program)(t:TypeId):Bool:=match P.underlying t with | some (.struct _) | some (.array ..)=>false | _=>true
theorem SK{P:Program}{t:TypeId}(hn:XM P t=true){W:World}{base:Nat}{v:Value}(h:Value.okWide P W .any base t v):v.cells=#[v]:=by
 cases v with
 | agg cs =>
  exfalso;unfold XM at hn;unfold Value.okWide at h
  cases hu:P.underlying t with
  | none=>simp [hu,Cell.okWide,Cell.ok] at h
  | some u=>cases u <;> simp_all [Cell.okWide,Cell.ok]
 | _=>rfl
theorem RdV.one{α:Type}{P:Program}{t:TypeId}{wf:α->Prop}{enc:α->List T}(h:SJ P t 1 wf enc)(hn:XM P t=true):RdV P t wf (λx=>.one (.t ((enc x).headD .nilf))):=by
 intro H ec W base v d p ⟨k,hd⟩ hv;obtain ⟨x,hx,hr⟩:=h.2.2 ec W _ _ k _ _ hd;have hc:=SK hn hv;rw [hc] at hr;have hl:=h.2.1 x;refine ⟨x,hx,.one _ _ _ ?_⟩
 match he:enc x,hl with
 | [y],_ =>
  rw [he] at hr
  cases hr with
  | cons _ _ _ _ h1 _=>exact .t _ _ h1
def Kk{α:Type}(P:Program)(ts:List TypeId)(wf:α->Prop)(ea:α->List V):Prop :=
 ∀ {H:Type} (ec:TypeId×Value->H) (W:World) (base:Nat) (vs:List Value) (ds:List (DataW H)) (p:List MemPlace),DataW.TrodAll ec P W 0 (λ_=>true) true ts vs ds p ->
  (∀ (j:Nat) (t:TypeId) (v:Value),ts[j]?=some t->vs[j]?=some v->Value.okWide P W .any base t v)->∃ x,wf x/\Db W (Zf W) (ea x) vs []
theorem Kk.nil{P:Program}:Kk P [] (λ_:Unit=>True) (λ_=>[]):=by
 intro H ec W base vs ds p h hv;obtain ⟨rfl,_,_⟩:=trodAll_nil h;exact ⟨(),trivial,.nil⟩
theorem Kk.cons{α β:Type}{P:Program}{t:TypeId}{ts:List TypeId}{wf:α->Prop}{ev:α->V}{wf':β->Prop}{ea:β->List V}(h:RdV P t wf ev)(hs:Kk P ts wf' ea) :
  Kk P (t :: ts) (λx:α×β=>wf x.1/\wf' x.2) (λx=>ev x.1 :: ea x.2):=by
 intro H ec W base vs ds p hT hv;obtain ⟨v,vs',d,ds',p1,p2,rfl,rfl,rfl,h1,h2⟩:=trodAll_cons hT;obtain ⟨x,hx,hr⟩:=h ec W base v d p1 h1 (hv 0 t v rfl rfl);obtain ⟨y,hy,hr'⟩:=hs ec W base vs' ds' p2 h2 (λj t v ht hj=>hv (j+1) t v ht hj);exact ⟨(x,y),⟨hx,hy⟩,.cons _ _ [] _ _ [] hr hr'⟩
theorem Fa{P:Program}{H:Type}{ec:TypeId×Value->H}(hl:laidOutB P=true){W W':World}(hb:Below W.heap.size W W'):∀ {ts:List TypeId} {vs:List Value} {ds:List (DataW H)} {p:List MemPlace},
  ts.all (λt=>P.readableRec t && decide (t < P.types.size))=true->DataW.TrodAll ec P W 0 (λ_=>true) true ts vs ds p ->
  DataW.TrodAll ec P W' 0 (λb=>decide (b < W.heap.size)) true ts vs ds p
 | [],vs,ds,p,_,h=>by
  obtain ⟨rfl,rfl,rfl⟩:=trodAll_nil h;exact trodAll_mk0
 | t :: ts,vs,ds,p,ht,h=>by
  obtain ⟨v,vs',d,ds',p1,p2,rfl,rfl,rfl,h1,h2⟩:=trodAll_cons h;simp only [List.all_cons,sk,decide_eq_true_eq] at ht;refine trodAll_cons_mk (Below.trod hl ht.1.1 ht.1.2 h1 hb ?_) (Fa hl hb (by simpa using ht.2) h2);obtain ⟨k,hk⟩:=h1;exact DataW.trod_lt k _ _ _ hk
theorem Wx{α:Type}{P:Program}{f:FuncId}{ts:List TypeId}{wf:α->Prop}{ea:α->List V}(hr:Kk P ts wf ea)(hl:laidOutB P=true)(hts:ts.all (λt=>P.readableRec t && decide (t < P.types.size))=true)
  (law:∀ x,wf x->aD P f (ea x) (.one (.t (.bool true))) []) {H:Type} (ec:TypeId×Value->H) (W:World) (base:Nat) (args:Array Value) (ds:List (DataW H)) (p:List MemPlace)
  (hT:DataW.TrodAll ec P W 0 (λ_=>true) true ts args.toList ds p) (hv:∀ (j:Nat) (t:TypeId) (v:Value),ts[j]?=some t->args[j]?=some v->Value.okWide P W .any base t v)
  (htb:PW P W λ_=>False):Calls P f args W λe W'=>e=.returned (.bool true)/\Below W.heap.size W W'/\DataW.TrodAll ec P W' 0 (λb=>decide (b < W.heap.size)) true ts args.toList ds p:=by
 obtain ⟨x,hx,hV⟩:=hr ec W base args.toList ds p hT (λj t v h1 h2=>hv j t v h1 (by simpa using h2));have:=(law x hx).2 W (Zf W) args.toList [] (λ_ h=>h) hV .nil eH (htb.mono λ_ h=>by cases h);simp only [zWK] at this;refine this.mono λe W' ⟨v,F',bv,bo,h1,h2,h3,h4,h5,h6,h7,h8,h9⟩=>?_;have hbel:Below W.heap.size W W':=⟨h2.os,h2.tape,h2.output,h2.size,λk hk=>h3 k hk eH⟩;refine ⟨?_,hbel,Fa hl hbel hts hT⟩
 cases h6 with
 | one _ _ _ h =>
  cases h with
  | t _ _ h =>
   cases h
   exact h1
end Go.Tm
namespace Go.Tm
open Go.RowKit
mutual
def A.fz(s:Nat)(cs:List T):A->A
 | .obj s' off=>bif zXW s' s then .fadr (cs.drop off) else .obj s' off
 | .agg l=>.agg (DG s cs l)
 | .tup l=>.tup (DG s cs l)
 | .clo f l=>.clo f (DG s cs l)
 | .osl q a n c=>bif zXW q s then .t (.hdr a n c) else .osl q a n c
 | a=>a
def DG(s:Nat)(cs:List T):List A->List A
 | []=>[]
 | a :: r=>a.fz s cs :: DG s cs r
end
theorem QU(s:Nat)(cs:List T):∀ l:List A,DG s cs l=l.map (A.fz s cs)
 | []=>by rw [DG]; rfl
 | a :: r=>by rw [DG,QU s cs r]; rfl
def St.fz(st:St)(s:Nat)(cs:List T):St:=⟨λt=>(st.tm t).fz s cs,λi=>if i=s then none else (st.ob i).map λl=>DG s cs l,st.rw⟩
theorem qas(s:Nat)(cs:List T)(a:A):(a.fz s cs).one=a.one:=by
 cases a with
 | obj s' off=>unfold A.fz; cases zXW s' s <;> rfl
 | osl q a n c=>unfold A.fz; cases zXW q s <;> rfl
 | _=>unfold A.fz <;> rfl
section
variable {E:En} {g:Gh} {st:St} {w:World} {s:Nat} {cs:List T}
theorem VR.fz{O:Nat->Prop}{R:Nat->Prop}{O':Nat->Prop}{F':Nat->Prop}(hF:∀ b,g.F b->F' b)(hO:∀ i,O i->i≠s->O' i)(hb:F' (g.ob s)){arr:Array Value}{e:TypeId}(hh:w.heap[g.ob s]?=some (.cells arr e (0,0)))
  (hc:∀ (j:Nat) (x:T),cs[j]?=some x->∃ v,arr[j]?=some v/\Rd w g.F x v) {a:A} {v:Value} (h:VR w g O R a v):VR w { g with F:=F' } O' R (a.fz s cs) v:=by
 have hl:∀ (l:List A) (vs:List Value),l.length=vs.length->(∀ (i:Nat) (x:A) (v:Value),l[i]?=some x->vs[i]?=some v->VR w { g with F:=F' } O' R (x.fz s cs) v) ->
   (DG s cs l).length=vs.length/\∀ (i:Nat) (x:A) (v:Value),(DG s cs l)[i]?=some x->vs[i]?=some v->VR w { g with F:=F' } O' R x v:=by
  intro l vs hl ih;rw [QU];refine ⟨by simp [hl],λi x v hx hv=>?_⟩;rw [zQZ] at hx
  cases hy:l[i]? with
  | none=>rw [hy] at hx; cases hx
  | some y =>
   rw [hy] at hx;simp only [zWW,Option.some.injEq] at hx;subst hx;exact ih i y v hy hv
 have hs:yT g.F w w:=λ_ _=>rfl
 induction h with
 | t x v h=>unfold A.fz; exact .t x v (h.mono hs hF)
 | nil=>unfold A.fz; exact .nil
 | own r hr=>unfold A.fz; exact VR.own (g:={ g with F:=F' }) r hr
 | agg l vs hl' h ih=>unfold A.fz; obtain ⟨h1,h2⟩:=hl l vs hl' ih; exact .agg _ vs h1 h2
 | tup l vs hl' h ih=>unfold A.fz; obtain ⟨h1,h2⟩:=hl l vs hl' ih; exact .tup _ vs h1 h2
 | obj s' off hs' =>
  unfold A.fz
  cases he:zXW s' s with
  | false =>
   have:s'≠s:=λh=>by rw [h,zZj] at he; cases he
   exact VR.obj (g:={ g with F:=F' }) s' off (hO s' hs' this)
  | true =>
   have:=zWv he;subst this;simp only [cond_true];have hcell:∀ j,w.cell? ⟨g.ob s',off+j,none⟩=arr[off+j]?:=λj=>by
    unfold World.cell?;simp only [hh]; rfl
   refine VR.fadr (g:={ g with F:=F' }) _ _ off (λj=>(arr[off+j]?).getD (.bool false)) hb (λj x hx=>?_) (λj x hx=>?_)
   ·rw [zQH] at hx;obtain ⟨u,h1,_⟩:=hc _ x hx;rw [hcell,h1]; rfl
   ·rw [zQH] at hx;obtain ⟨u,h1,h2⟩:=hc _ x hx;simp only [h1,zYH];exact h2.mono hs hF
 | elem r sz i off b n c hr he=>unfold A.fz; exact VR.elem (g:={ g with F:=F' }) r sz i off b n c hr he
 | win r lo m n c c' ad a' hr he hm hp=>unfold A.fz; exact VR.win (g:={ g with F:=F' }) r lo m n c c' ad a' hr he hm hp
 | sub r sz lo n c c' ad a' hr he hp=>unfold A.fz; exact VR.sub (g:={ g with F:=F' }) r sz lo n c c' ad a' hr he hp
 | fadr cells b off u hF' hx hr=>unfold A.fz; exact VR.fadr (g:={ g with F:=F' }) cells b off u (hF _ hF') hx (λj x h=>(hr j x h).mono hs hF)
 | nn sz rows v h hv=>unfold A.fz; exact VR.nn (g:={ g with F:=F' }) sz rows v (h.mono hs hF) hv
 | ext s x v hs' h=>unfold A.fz; exact VR.ext (g:={ g with F:=F' }) s x v hs' h
 | shp x v h=>unfold A.fz; exact VR.shp (g:={ g with F:=F' }) x v h
 | exa s cells b off u hs' hD hx hr=>unfold A.fz; exact VR.exa (g:={ g with F:=F' }) s cells b off u hs' hD hx hr
 | clo f l vs hl' h ih=>unfold A.fz; obtain ⟨h1,h2⟩:=hl l vs hl' ih; exact .clo f _ vs h1 h2
 | undef v=>unfold A.fz; exact .undef v
 | raw v=>unfold A.fz; exact .raw v
 | osl q a n c hs ha =>
  unfold A.fz
  cases hq:zXW q s with
  | true=>exact .t _ _ (.hdr _ _ _)
  | false=>exact VR.osl (g:={ g with F:=F' }) q a n c (hO q hs (λh=>by subst h; simp at hq)) ha
end
theorem SL{n:Nat}{ls:List Nat}{st:St}(s:Nat)(cs:List T)(hs:st.ob s=some (cs.map .t))(hl:ls.contains s=false):Le n ls st (st.fz s cs):=by
 intro E g a w hE hS;have hM:=hS.mem;obtain ⟨arr,e,h1,h2,h3,h4,h5⟩:=hM.ob s _ hs;have hOs:st.O s:=by simp [St.O,hs]
 have hc:∀ (j:Nat) (x:T),cs[j]?=some x->∃ v,arr[j]?=some v/\Rd w g.F x v:=by
  intro j x hx;obtain ⟨_,v,h6,h7⟩:=h3 j (.t x) (by rw [zQZ,hx]; rfl)
  cases h7 with
  | t _ _ h=>exact ⟨v,h6,h⟩
 have hO:∀ i,(st.fz s cs).O i↔st.O i/\i≠s:=by
  intro i;unfold St.O St.fz
  by_cases h:i=s <;> simp [h]
 have hv:∀ {a:A} {v:Value},VR w g st.O st.R a v->VR w { g with F:=λb=>g.F b\/b=g.ob s } (st.fz s cs).O st.R (a.fz s cs) v:=λh =>
  VR.fz (s:=s) (cs:=cs) (λ_ h=>.inl h) (λi hi hne=>(hO i).2 ⟨hi,hne⟩) (.inr rfl) h1 hc h
 refine ⟨{ g with F:=λb=>g.F b\/b=g.ob s },⟨λi c hi=>?_,λi j hi hj he=>hM.obne i j ((hO i).1 hi).1 ((hO j).1 hj).1 he,λr x hr=>?_,hM.rowne,λr i hr hi=>hM.rowob r i hr ((hO i).1 hi).1,λb hb=>?_,hM.os,hM.tape,hM.output,hM.sizes,hM.frame,λb hb=>⟨.inl (hM.shp b hb).1,(hM.shp b hb).2⟩,hM.dep0⟩,
  hS.size,hS.defers,λi hi=>?_,λi hi=>?_,λi b hb=>?_,hS.pin⟩
 ·have hne:i≠s:=λh=>by subst h; simp [St.fz] at hi
  have:∃ c0,st.ob i=some c0/\c=DG s cs c0:=by
   simp only [St.fz,hne,if_false] at hi
   cases h:st.ob i with
   | none=>rw [h] at hi; cases hi
   | some c0=>rw [h] at hi; simp at hi; exact ⟨c0,rfl,hi.symm⟩
  obtain ⟨c0,h6,rfl⟩:=this;obtain ⟨arr',e',g1,g2,g3,g4,g5⟩:=hM.ob i c0 h6;refine ⟨arr',e',g1,by rw [QU]; simpa using g2,λj x hx=>?_,λhf=>hf.elim g4 (λhe=>hne (hM.obne i s (by simp [St.O,h6]) hOs he)),g5⟩;rw [QU,zQZ] at hx
  cases hy:c0[j]? with
  | none=>rw [hy] at hx; cases hx
  | some y =>
   rw [hy] at hx;simp only [zWW,Option.some.injEq] at hx;subst hx;obtain ⟨g6,v,g7,g8⟩:=g3 j y hy;exact ⟨by rw [qas]; exact g6,v,g7,hv g8⟩
 ·have:=hM.row r x hr;refine this.mono (λ_ _=>rfl) (λ_ h=>.inl h) (λ⟨e,sz,rows,hx⟩ b hb'=>?_);subst hx;have hL:st.L r:=⟨e,sz,rows,hr⟩;exact ⟨rfl,λhf=>hf.elim id (λhe=>(hM.rowob r s hL hOs (he ▸ hb')).elim)⟩
 ·rcases hb with hb | hb
  ·exact hM.F b hb
  ·subst hb;exact ⟨L9 h1,λhlt=>h5.elim (λh=>absurd hlt ar) .inr,.inr ⟨arr,e,h1⟩⟩
 ·obtain ⟨v,h6,h7⟩:=hS.tm i hi;exact ⟨v,h6,hv h7⟩
 ·show (st.tm i).fz s cs=.undef;rw [hS.und i hi]; unfold A.fz; rfl
 ·obtain ⟨h6,h7⟩:=hS.lent i b hb;refine ⟨(hO i).2 ⟨h6,λhe=>?_⟩,h7⟩;subst he;have:i∈ls:=(hE.mem hb).1;have h8:ls.contains i=true:=by simpa using this
  rw [hl] at h8; cases h8
theorem SM{α:Type}(a:A)(k:T->MA α)(st:St):(a.toT k).run st=((a.toT MA.ret).run st).bind λp=>(k p.1).run p.2:=by
 cases a with
 | t y=>rfl
 | nil=>rfl
 | own r =>
  simp only [A.toT,MA.run]
  cases hr:st.rw r with
  | none=>rfl
  | some row=>cases row <;> rfl
 | _=>rfl
theorem FX{α:Type}:∀ (l:List A) (k:List T->MA α) (st:St),(ln l k).run st=((ln l MA.ret).run st).bind λp=>(k p.1).run p.2
 | [],k,st=>rfl
 | a :: r,k,st=>by
  simp only [ln];rw [SM a,SM a (λx=>ln r λxs=>MA.ret (x :: xs)),Option.bind_assoc]
  congr 1
  funext p
  rw [FX r,FX r (λxs=>MA.ret (p.1 :: xs)),Option.bind_assoc];rfl
theorem Wy{α:Type}(l:List A){k:List T->MA α}{st st1:St}{xs:List T}(h:(ln l MA.ret).run st=some (xs,st1)):(ln l k).run st=(k xs).run st1:=by
 rw [FX,h]; rfl
section
variable {P:Program} {n:Nat} {ls:List Nat} {st st':St} {p:Nat->Bool} {ρ:Nat->dR} {ops:Array Oper} {l:List Oper} {K:St->Prop} {o:Oper}
theorem oh{α:Type}(f:α->List T)(xs:List α)(r i off:Nat){y:α}(y':α){t e:TypeId}{x1 x2:Operand}(v:A){sz m:Nat}(ts:List T)(ho:o.op=.store t x1 x2)(hg:jc ops st o=some true)(hf:eN ρ st o=true)
  (h1:st.eval x1=some (.elem r sz i off)) (h2:st.eval x2=some v) (hm:jH P t=some m) (hv:(zXW v.cells.length m && v.cells.all A.one)=true) (hz:((ln (l8 (G7 P t) v.cells) MA.ret).run st).map Prod.fst=some ts)
  (hr:(Mk ((ln (l8 (G7 P t) v.cells) MA.ret).run st)).rw r=some (.live e sz (xs.map f))) (h:xs[i]?=some y) (hle:Nat.ble (off+m) (f y).length=true) (hy:spl (f y) off ts=f y')
  (hk:ab P p ρ ops l ((({ Mk ((ln (l8 (G7 P t) v.cells) MA.ret).run st) with rw:=eI (Mk ((ln (l8 (G7 P t) v.cells) MA.ret).run st)).rw r (some (.live e sz ((xs.set i y').map f))) }:St)).put o.dst .undef) K):ab P p ρ ops (o :: l) st K:=by
 simp only [sk] at hv;have hv1:=zWv hv.1;have hle':off+m<=(f y).length:=by simpa using hle
 obtain ⟨⟨ts',st1⟩,h5,h6⟩:=aab.1 hz
 cases h6
 rw [h5] at hr hk;refine ab.op (x:=.undef) hg hf ?_ hk;simp only [ql,ho,h1,h2,BW,hm,hv1,hv.2,and_self,↓reduceIte];rw [Wy _ h5];have hr':st1.rw r=some (.live e sz (xs.map f)):=hr;simp only [MA.run,hr',zQZ,h,zWW,hle',↓reduceIte,hy,List.map_set,Mk]
theorem FY:∀ xs:List Int,Dq (xs.map (aj .u8))=some xs
 | []=>rfl
 | x :: xs=>by simp only [zWy,aj,Dq,FY xs]
theorem sB(xs:List Int)(m:Nat){y:A}{s t e:TypeId}{x:Operand}(ho:o.op=.convert s t x)(hg:jc ops st o=some true)(hf:eN ρ st o=true)
  (hx:st.eval x=some y) (hy:((y.rows λm rows=>MA.ret (m,rows)).run st).map Prod.fst=some (m,xs.map (aj .u8))) (hs:P.underlying s=some (.slice e)) (he:P.underlying e=some (.int .u8)) (ht:P.underlying t=some .string)
  (hk:ab P p ρ ops l (st.put o.dst (.t (.str (strOfNums xs)))) K):ab P p ρ ops (o :: l) st K:=by
 refine ab.pure (x:=.t (.str (strOfNums xs))) hg hf ?_ hk
 cases y with
 | t z =>
  cases z with
  | sl sz rows =>
   simp only [A.rows,MA.run,zWW,Option.some.injEq,Prod.mk.injEq] at hy;obtain ⟨rfl,rfl⟩:=hy;simp only [ql,ho,hx,hs,ht,he,A.rows,FY,MA.run]
  | _=>simp [A.rows,MA.run] at hy
 | _ =>
  simp only [ql,ho,hx,hs,ht,he,QS hy,FY,MA.run]
end
def M3{α:Type}(xs ys:List α)(lo:Nat):List α:=xs.take lo++ys.take (xs.length - lo)++xs.drop (lo+min ys.length (xs.length - lo))
end Go.Tm
namespace Go.Tm.Pu
theorem wrap_i64{n:Int}(h1:-9223372036854775808<=n)(h2:n<=9223372036854775807):Ir .i64 n=n:=Go.IntWalk.i64_in n ⟨h1,h2⟩
theorem tl(n:Int):Ir .u8 n=n % 256:=by simp [Ir,IntKind.bits,IntKind.signed]
theorem cN{a b:Int}(h1:-9223372036854775808<=a+b)(h2:a+b<=9223372036854775807):aL .i64 a b=a+b:=wrap_i64 h1 h2
theorem cm{a b:Int}(h1:-9223372036854775808<=a - b)(h2:a - b<=9223372036854775807):cG .i64 a b=a - b:=wrap_i64 h1 h2
theorem jd{a b:Int}(h1:-9223372036854775808<=a*b)(h2:a*b<=9223372036854775807):eO .i64 a b=a*b:=wrap_i64 h1 h2
theorem dy{i:Nat}(h:i < 9223372036854775807):aL .i64 (i:Int) 1=((i+1:Nat):Int):=by
 rw [cN ar ar]; simp
theorem yV{a b:Int}(h:0<=a):ml .i64 a b=a % b:=by
 unfold ml; exact zXq h
theorem M4{a b:Int}(h:0<=a)(hb:0 < b)(h2:a<=9223372036854775807):Pc .i64 a b=a / b:=by
 unfold Pc;rw [Int.tdiv_eq_ediv_of_nonneg h];have h3:0<=a / b:=Int.ediv_nonneg h ar;have h4:a / b<=a:=Int.ediv_le_self b h;exact wrap_i64 ar ar
theorem QV(k:IntKind)(a:Int)(n:Nat)(h:n<=k.bits):cU k a (n:Int)=a / 2 ^ n:=by
 unfold cU;rw [show min (sY (n:Int)) k.bits=n by simp; omega];exact Int.fdiv_eq_ediv_of_nonneg a (by exact_mod_cast zYG (2 ^ n))
theorem XN(a:Int):cU .i64 a 7=a / 128:=QV .i64 a 7 V0
theorem qa6(a:Int):cU .i64 a 8=a / 256:=QV .i64 a 8 V0
theorem bq{p:Prop}[Decidable p](h:p):cd (decide p)=some ():=by simp [cd,h]
theorem DH:cd true=some ():=rfl
theorem cO{α:Type}(xs:List α)(i:Nat):dm xs (i:Int)=xs[i]?:=by simp [dm]
def gX{σ ρ:Type}(fin:σ->Option ρ)(body:Nat->σ->(σ->Option ρ)->Option ρ):Nat->Nat->σ->Option ρ
 | 0,_,s=>fin s
 | n+1,i,s=>body i s (gX fin body n (i+1))
theorem Vx{σ ρ:Type}{fin:σ->Option ρ}{body:Nat->σ->(σ->Option ρ)->Option ρ}{n:Int}(L:Nat->σ->Int->Option ρ)(hn:n<=9223372036854775807)
  (hL:∀ (k:Nat) (s:σ) (i:Nat),L (k+1) s (i:Int)=bif decide ((i:Int) < n) then body i s (λs'=>L k s' (aL .i64 (i:Int) 1)) else fin s) :
  ∀ (m k i:Nat) (s:σ),i+m=n.toNat\/(m=0/\n<=i)->m < k->L k s (i:Int)=gX fin body m i s:=by
 intro m
 induction m with
 | zero =>
  intro k i s hi hk;obtain ⟨k,rfl⟩:∃ j,k=j+1:=⟨k - 1,by omega⟩;rw [hL];have:¬ ((i:Int) < n):=by omega
  simp [this,gX]
 | succ m ih =>
  intro k i s hi hk;obtain ⟨k,rfl⟩:∃ j,k=j+1:=⟨k - 1,by omega⟩;rw [hL];have:(i:Int) < n:=by omega
  simp only [this,decide_true,cond_true];show body i s _=body i s (gX fin body m (i+1))
  congr 1
  funext s'
  rw [dy ar];exact ih k (i+1) s' ar ar
theorem kZ{σ ρ:Type}{fin:σ->Option ρ}{body:Nat->σ->(σ->Option ρ)->Option ρ}{n:Int}(L:Nat->σ->Int->Option ρ)(hn:n<=9223372036854775807)
  (hL:∀ (k:Nat) (s:σ) (i:Nat),L (k+1) s (i:Int)=bif decide ((i:Int) < n) then body i s (λs'=>L k s' (aL .i64 (i:Int) 1)) else fin s)
  {k:Nat} (s:σ) (hk:n.toNat < k):L k s 0=gX fin body n.toNat 0 s:=by
 have:=Vx L hn hL n.toNat k 0 s ar hk
 simpa using this
def bZ{α σ ρ:Type}(fin:σ->Option ρ)(body:α->Nat->σ->(σ->Option ρ)->Option ρ):List α->Nat->σ->Option ρ
 | [],_,s=>fin s
 | x :: xs,i,s=>body x i s (bZ fin body xs (i+1))
theorem SN{α σ ρ:Type}{fin:σ->Option ρ}{body:α->Nat->σ->(σ->Option ρ)->Option ρ}{xs:List α}(L:Nat->σ->Int->Option ρ)(hn:xs.length<=9223372036854775807)
  (hL:∀ (k:Nat) (s:σ) (i:Nat),L (k+1) s (i:Int)=bif decide ((i:Int) < (xs.length:Int)) then (dm xs (i:Int)).bind λx=>body x i s (λs'=>L k s' (aL .i64 (i:Int) 1)) else fin s) :
  ∀ (ys:List α) (k i:Nat) (s:σ),ys=xs.drop i->ys.length < k->L k s (i:Int)=bZ fin body ys i s:=by
 intro ys
 induction ys with
 | nil =>
  intro k i s hi hk;obtain ⟨k,rfl⟩:∃ j,k=j+1:=⟨k - 1,by omega⟩;rw [hL];have:¬ ((i:Int) < (xs.length:Int)):=by
   have:=congrArg List.length hi;simp at this;omega
  simp [this,bZ]
 | cons y ys ih =>
  intro k i s hi hk;obtain ⟨k,rfl⟩:∃ j,k=j+1:=⟨k - 1,by omega⟩;rw [hL];have hlt:i < xs.length:=by
   have:=congrArg List.length hi;simp at this;omega
  have hx:xs[i]?=some y:=by
   have:=congrArg zYj hi
   simpa [zXx] using this.symm
  have hys:ys=xs.drop (i+1):=by
   have:=congrArg zZV hi
   simpa [zXh] using this
  have:(i:Int) < (xs.length:Int):=by omega
  simp only [this,decide_true,cond_true,cO,hx,wk];show body y i s _=body y i s (bZ fin body ys (i+1))
  congr 1
  funext s'
  rw [dy ar];simp only [zQK] at hk;exact ih k (i+1) s' hys ar
theorem dz{α σ ρ:Type}{fin:σ->Option ρ}{body:α->Nat->σ->(σ->Option ρ)->Option ρ}{xs:List α}(L:Nat->σ->Int->Option ρ)(hn:xs.length<=9223372036854775807)
  (hL:∀ (k:Nat) (s:σ) (i:Nat),L (k+1) s (i:Int)=bif decide ((i:Int) < (xs.length:Int)) then (dm xs (i:Int)).bind λx=>body x i s (λs'=>L k s' (aL .i64 (i:Int) 1)) else fin s)
  {k:Nat} (s:σ) (hk:xs.length < k):L k s 0=bZ fin body xs 0 s:=by
 have:=SN L hn hL xs k 0 s eH hk
 simpa using this
end Go.Tm.Pu
namespace Go.Tm
end Go.Tm
namespace Go.Tm
open Go
theorem oi{α:Type}{a b:α}(h:some a=some b):a=b:=Option.some.inj h
theorem kr{p:Prop}(h:p:=by kernel_rfl):p:=h
section
variable {P:Program} {n:Nat} {ls:List Nat} {Q:Exit->St->Prop} {N:St->Prop} {st st':St} {c x y:Code} {p:Nat->Bool} {ρ:Nat->dR} {ops:Array Oper} {l:List Oper} {K:St->Prop} {o:Oper}
theorem Km(s:Sx)(h:Wp P n ls c Q s.st)(hok:s.ok n ls [] []=true:=by kernel_rfl)(ht:s.tm.map (λq=>st.tm q.1)=s.tm.map (λq=>q.2.ren (Dd []) (Dd [])):=by kernel_rfl)
  (ho:s.ob.map (λq=>st.ob (Dd [] q.1))=s.ob.map (λq=>some (tM (Dd []) (Dd []) q.2)):=by kernel_rfl) (hr:s.rw.map (λq=>st.rw (Dd [] q.1))=s.rw.map (λq=>some q.2):=by kernel_rfl):Wp P n ls c Q st :=
 Wp.le (Le.of (s:=s) (mo:=[]) (mr:=[]) hok ht ho hr) h
theorem fg{id:Nat}(p:List Nat)(ρ:List (Nat×dR))(h:ab P (Pd p) (nc ρ) ops ops.toList st (Q .normal))(hok:ops.toList.all (og n)=true:=by kernel_rfl):Wp P n ls (.region id ops false) Q st :=
 B9 (Pd p) (nc ρ) hok h
theorem Un{id:Nat}(p:List Nat)(ρ:List (Nat×dR))(h:ab P (Pd p) (nc ρ) ops ops.toList st (ij (Wp P n ls y Q) Q .normal))(hok:ops.toList.all (og n)=true:=by kernel_rfl):Wp P n ls (.seq (.region id ops false) y) Q st :=
 ap (B9 (Pd p) (nc ρ) hok h)
theorem ae(hr:N (St.or (ru P ρ ops l st)))(h:(ru P ρ ops l st).isSome=true:=by kernel_rfl):ab P p ρ ops l st (ij N Q .normal) :=
 ab.all h (ck hr)
theorem ag{id:Nat}(h:Wp P n ls y Q (St.or (ru P (nc []) ops ops.toList st)))(h1:(ru P (nc []) ops ops.toList st).isSome=true:=by kernel_rfl)(hd:ops.toList.all (og n)=true:=by kernel_rfl):Wp P n ls (.seq (.region id ops false) y) Q st :=
 Un [] [] (ae h h1) hd
theorem au{α:Type}{o:Operand}{b:Bool}{e1 e2 r:α}(h:(bif b then e1 else e2)=r)(ht:e1=r->Wp P n ls x Q st)(hf:e2=r->Wp P n ls y Q st)(ho:st.eval o=some (.t (.bool b)):=by kernel_rfl):Wp P n ls (.cond o x y) Q st :=
 XI ho (λhc=>ht (Ul h hc)) (λhc=>hf (Um h hc))
theorem aQ(h:N st){Q:Exit->St->Prop}:Wp P n ls .skip (ij N Q) st:=ld (ck h)
end
abbrev A.s(x:List Int):A:=.t (.sl 1 (x.map (aj .u8)))
abbrev C.s(x:List Int):C:=.t (.sl 1 (x.map (aj .u8)))
abbrev A.i(n:Int):A:=.t (.int .i64 n)
abbrev A.b(b:Bool):A:=.t (.bool b)
abbrev C.i(n:Int):C:=.t (.int .i64 n)
abbrev C.b(b:Bool):C:=.t (.bool b)
end Go.Tm
namespace Go.Tm
open Go.RowKit
theorem WA{P:Program}{f:FuncId}{k:Nat}(hc:qn P f)(hk:P.globalNamed "internal/strconv.uint64pow10" = some k)
  (h:∀ (n:Int),-9223372036854775808<=n->n<=9223372036854775807->∀ w:World,Lib.TabIs P w "internal/strconv.uint64pow10" .u64 Lib.pow10Tab ->
   Calls P f #[.int .i64 n] w λe w'=>e=.returned (.string ⟨(Lib.itoa n).toArray⟩)/\∃ k os,w'=Sort.grow (w.drewN k) os)
  {n:Int} {r:ByteArray} (hr:(bif decide (-9223372036854775808<=n) && decide (n<=9223372036854775807) then some (⟨(Lib.itoa n).toArray⟩:ByteArray) else none)=some r) :
  aD P f [.one (.t (.int .i64 n))] (.one (.t (.str r))) []:=by
 refine ⟨hc,λw F vs bs hF hV hn hb htb=>?_⟩
 cases hd:(decide (-9223372036854775808<=n) && decide (n<=9223372036854775807)) with
 | false=>rw [hd] at hr; cases hr
 | true =>
  rw [hd] at hr
  cases hr
  simp only [sk,decide_eq_true_eq] at hd
  cases hV with
  | cons _ v b _ vs bs h1 hs =>
   cases hs
   cases h1 with
   | one _ _ _ h1=>cases h1 with
    | t _ _ h1 =>
     cases h1
     refine (h n hd.1 hd.2 w (htb k hk).1).mono λe w' ⟨he,j,os,hw⟩=>?_;subst he hw;have hsz:w.heap.size<=(Sort.grow (w.drewN j) os).heap.size:=Lib.size_grow w j os;have hold:∀ b,b < w.heap.size->(Sort.grow (w.drewN j) os).heap[b]?=w.heap[b]?:=λb hb=>Lib.heap_grow_old w j os b hb;exact ⟨_,F,[],[],rfl,⟨rfl,rfl,rfl,hsz⟩,λb hb _=>hold b hb,λ_ h=>h,λb hb=>⟨zQh (hF b hb) hsz,λ_=>.inl hb,.inl hb⟩,
      .one _ _ _ (.t _ _ (.str _)),.skip _ _ _ _ _ _ (λc h=>by cases h) .nil,List.nodup_nil,λb hb=>by simp at hb⟩
theorem WB{P:Program}{f:FuncId}(hc:qn P f)
  (h0:∀ (a:Option Addr) (c:Nat) (sep:ByteArray) (w:World),Calls P f #[.slice a 0 c,.string sep] w λe w'=>e=.returned (.string ⟨#[]⟩)/\w'=w)
  (h:∀ (bk o c:Nat) (xs:List ByteArray) (sep:ByteArray) (w:World),(∀ (j:Nat) (x:ByteArray),xs[j]?=some x->w.cell? ⟨bk,o+j,none⟩=some (.string x))->bk < w.heap.size->xs.length<=140737488355328->xs.length<=c ->
   (Lib.join (xs.map (·.data.toList)) sep.data.toList).length<=140737488355328 ->
   Calls P f #[.slice (some ⟨bk,o,none⟩) xs.length c,.string sep] w λe w'=>e=.returned (.string ⟨(Lib.join (xs.map (·.data.toList)) sep.data.toList).toArray⟩)/\Below w.heap.size w w')
  {xs:List ByteArray} {sep r:ByteArray} (hr:(bif decide (xs.length<=140737488355328) && decide ((Lib.join (xs.map (·.data.toList)) sep.data.toList).length<=140737488355328) then some (⟨(Lib.join (xs.map (·.data.toList)) sep.data.toList).toArray⟩:ByteArray) else none)=some r) :
  aD P f [.one (.t (.sl 1 (xs.map xB))),.one (.t (.str sep))] (.one (.t (.str r))) []:=by
 refine ⟨hc,λw F vs bs hF hV hn hb htb=>?_⟩
 cases hd:(decide (xs.length<=140737488355328) && decide ((Lib.join (xs.map (·.data.toList)) sep.data.toList).length<=140737488355328)) with
 | false=>rw [hd] at hr; cases hr
 | true =>
  rw [hd] at hr
  cases hr
  simp only [sk,decide_eq_true_eq] at hd;obtain ⟨hd1,hd2⟩:=hd;have fin:∀ (vs:List Value) (w':World),vs.length=2->Below w.heap.size w w'->∃ v F' bv bo,Ending.returned (.string ⟨(Lib.join (xs.map (·.data.toList)) sep.data.toList).toArray⟩)=.returned v/\su w w'/\(∀ b,b < w.heap.size->b∉([]:List Nat)->w'.heap[b]?=w.heap[b]?)/\(∀ b,F b->F' b) /\
   (∀ b,F' b->b < w'.heap.size/\(b < w.heap.size->F b\/b∈([]:List Nat))/\(F b\/Wr w' b))/\VV w' F' (.one (.t (.str ⟨(Lib.join (xs.map (·.data.toList)) sep.data.toList).toArray⟩))) v bv/\qm w' F' [.one (.t (.sl 1 (xs.map xB))),.one (.t (.str sep))] vs [] bo/\(bv++bo).Nodup/\∀ b∈bv++bo,¬ F' b/\(w.heap.size<=b\/b∈([]:List Nat)):=by
   intro vs w' hl hbel
   match vs,hl with
   | [v1,v2],_ =>
    exact ⟨_,F,[],[],rfl,⟨hbel.os,hbel.tape,hbel.output,hbel.size⟩,λb hb _=>hbel.block b hb,λ_ h=>h,λb hb=>⟨zQh (hF b hb) hbel.size,λ_=>.inl hb,.inl hb⟩,
     .one _ _ _ (.t _ _ (.str _)),.skip _ _ _ _ _ _ (λc h=>by cases h) (.skip _ _ _ _ _ _ (λc h=>by cases h) .nil),List.nodup_nil,λb hb=>by simp at hb⟩
  cases hV with
  | cons _ v b _ vs bs h1 hs =>
   cases hs with
   | cons _ v2 b2 _ vs2 bs2 h2 hs2 =>
    cases hs2
    cases h2 with
    | one _ _ _ h2=>cases h2 with
     | t _ _ h2 =>
      cases h2
      cases h1 with
      | one _ _ _ h1=>cases h1 with
       | t _ _ h1 =>
        generalize hrows:xs.map xB=rows at h1
        cases h1 with
        | sl0 sz a c ha =>
         obtain rfl:xs=[]:=by simpa using hrows
         refine (h0 a c sep w).mono λe w' ⟨he,hw⟩=>?_;subst he hw;rw [<- hrows];exact fin _ _ rfl (Below.refl _ _)
        | sl sz rows b off c u hc' hFb hs hx hr =>
         subst hrows;have hcells:∀ (j:Nat) (x:ByteArray),xs[j]?=some x->w.cell? ⟨b,off+j,none⟩=some (.string x):=λj x hj=>by
          have hi:(xs.map xB)[j]?=some [.str x]:=by rw [zQZ,hj]; rfl
          have h4:=hx j [.str x] 0 (.str x) hi rfl;have h5:=hr j [.str x] 0 (.str x) hi rfl;rw [show off+j*1+0=off+j by omega] at h4;rw [h4];generalize u j 0=q at h5
          cases h5
          rfl
         rw [zWg] at hc' ⊢;refine (h b off c xs sep w hcells (hF b hFb) hd1 hc' hd2).mono λe w' ⟨he,hw⟩=>?_;subst he;exact fin _ _ rfl hw
section
variable {P:Program} {n:Nat} {ls:List Nat} {Q:Exit->St->Prop} {st st':St} {p:Nat->Bool} {ρ:Nat->dR} {ops:Array Oper} {l:List Oper} {K:St->Prop} {o:Oper}
theorem aO(d f:Nat)(caps sr:List A)(vs:List V)(res:V){xf:Operand}{args:Array Operand}{ts:Array TypeId}
  (ho:o.op=.call { callee:=.value xf,args,argTypes:=ts }) (hd:o.dst=some d) (hg:jc ops st o=some true) (hf:eN ρ st o=true) (hxf:st.eval xf=some (.clo f caps)) (mj:dx (args.toList.map st.eval)=some sr)
  (hp:((d8 (sr++caps) MA.ret).run st).map Prod.fst=some vs) (hc:n6 P f vs res) (hr:((V.toA d (gj d 0) res MA.ret).run st).isSome=true)
  (hk:ab P p ρ ops l ((Mk ((V.toA d (gj d 0) res MA.ret).run st)).put o.dst (Z5 ((V.toA d (gj d 0) res MA.ret).run st))) K):ab P p ρ ops (o :: l) st K:=by
 obtain ⟨⟨vs',st1⟩,h1,h2⟩:=aab.1 hp
 cases h2
 have hst:st1=st:=by
  have:=(nS (d8 (sr++caps) MA.ret) (ra (D:=⟨λ_=>True,λ_=>False,λ_=>True,λ_=>False⟩) (qp (λ_=>trivial) _) (λ_=>trivial)) h1).1;exact St.ext this.tm (funext λs=>this.ob s (λh=>h)) (funext λs=>this.rw s (λh=>h))
 subst hst;obtain ⟨⟨x,st2⟩,h3⟩:=aad.1 hr;rw [h3] at hk;exact ab.step (.run x st2 hg hf (.callD d f xf args ts caps sr vs' res ho hd hxf mj h1 hc h3)) hk
theorem jr{α:Type}(f:α->List T)(xs:List α)(i:Int)(s:Bool){y:α}{t e:TypeId}{a b:Operand}{sz:Nat}{kk:IntKind}(ho:o.op=.indexAddr t a b)(hg:jc ops st o=some true)(hf:eN ρ st o=true)
  (ha:st.eval a=some (.ext s (.sl sz (xs.map f)))) (hb:st.eval b=some (.t (.int kk i))) (hu:P.underlying t=some (.slice e)) (hs:jH P e=some sz) (h:dm xs i=some y) (hk:ab P p ρ ops l (st.put o.dst (.exa s (f y))) K):ab P p ρ ops (o :: l) st K:=by
 obtain ⟨h0,h1⟩:=bB h;refine ab.pure (x:=.exa s (f y)) hg hf ?_ hk;simp only [ql,ho,ha,hb];unfold lm;simp only [hu,hs,Ha,h0,and_self,↓reduceIte,zQZ,h1,zWW,true_and,MA.run]
theorem fi(k:IntKind)(m:Nat)(xs:List Int):(((A.ext false (.sl m (xs.map (aj k)))).rows λm rows=>MA.ret (m,rows)).run st).map Prod.fst=some (m,xs.map (aj k)):=XL (k:=k) (f:=aj k) λ_=>rfl
end
section
variable {P:Program} {E:En} {g:Gh} {st st':St} {a:Act} {w w':World} {n:Nat}
variable {p:Nat->Bool} {ρ:Nat->dR} {ops:Array Oper} {o:Oper} {ls:List Nat} {Q:Exit->St->Prop}
theorem bO{fn:Func}{c:Code}{f:FuncId}{args:List V}{m:Bool}{res:V}
  (hf:P.funcs[f]?=some fn) (hb:fn.body=some c) (hnm:(fn.name == "runtime.NumGoroutine")=false) (hle:Nat.ble args.length fn.ntmps=true) (ht:wo fn.ntmps fn=true)
  (h:Wp P fn.ntmps [1] c (Br P m fn [] res []) (gK (args.map V.toX) dD)):n6 P f args res:=SG hf hb hnm YJ ht h
end
end Go.Tm
namespace Go.Tm
open Go
def C.fix:C->C->C
 | .t (.sl s _),.nil=>.t (.sl s [])
 | .ow e s _,.nil=>.ow e s []
 | .t (.sl s _),.t (.sl 0 [])=>.t (.sl s [])
 | _,c=>c
theorem SO:∀ t c:C,SF c (C.fix t c):=λt c=>by
 unfold C.fix
 split
 ·exact .nilT _
 ·exact .nilO _ _
 ·exact .sz _ _
 ·exact .refl _
def Vy:List C->List C->List C
 | t :: ts,c :: cs=>t.fix c :: Vy ts cs
 | _,cs=>cs
theorem M5:∀ cs:List C,DE SF cs cs
 | []=>.nil
 | c :: cs=>.cons (.refl c) (M5 cs)
theorem M6:∀ ts cs:List C,DE SF cs (Vy ts cs)
 | t :: ts,c :: cs=>.cons (SO t c) (M6 ts cs)
 | [],cs=>M5 cs
 | _ :: _,[]=>.nil
def Zg:List (List C)->List (List C)->List (List C)
 | t :: ts,c :: cs=>Vy t c :: Zg ts cs
 | _,cs=>cs
theorem Qe:∀ cs:List (List C),DE (DE SF) cs cs
 | []=>.nil
 | c :: cs=>.cons (M5 c) (Qe cs)
theorem Vz:∀ ts cs:List (List C),DE (DE SF) cs (Zg ts cs)
 | t :: ts,c :: cs=>.cons (M6 t c) (Vz ts cs)
 | [],cs=>Qe cs
 | _ :: _,[]=>.nil
mutual
def V.fix:V->V->V
 | .one t,.one c=>.one (t.fix c)
 | .agg ts,.agg cs=>.agg (Vy ts cs)
 | .tup ts,.tup vs=>.tup (Bu ts vs)
 | _,v=>v
def Bu:List V->List V->List V
 | t :: ts,v :: vs=>V.fix t v :: Bu ts vs
 | _,vs=>vs
end
theorem Qf:∀ vs:List V,DF vs vs
 | []=>.nil
 | v :: vs=>.cons (.refl v) (Qf vs)
mutual
theorem SP:∀ t v:V,Uh v (V.fix t v)
 | .one t,.one c=>by unfold V.fix; exact .one (SO t c)
 | .agg ts,.agg cs=>by unfold V.fix; exact .agg (M6 ts cs)
 | .tup ts,.tup vs=>by unfold V.fix; exact .tup (yW ts vs)
 | .one _,.agg _ | .one _,.tup _ | .one _,.ptr _ | .one _,.fptr _ | .one _,.clo ..=>by unfold V.fix; exact .refl _
 | .agg _,.one _ | .agg _,.tup _ | .agg _,.ptr _ | .agg _,.fptr _ | .agg _,.clo ..=>by unfold V.fix; exact .refl _
 | .tup _,.agg _ | .tup _,.one _ | .tup _,.ptr _ | .tup _,.fptr _ | .tup _,.clo ..=>by unfold V.fix; exact .refl _
 | .ptr _,v | .fptr _,v | .clo ..,v=>by unfold V.fix; exact .refl _
theorem yW:∀ ts vs:List V,DF vs (Bu ts vs)
 | t :: ts,v :: vs=>by unfold Bu; exact .cons (SP t v) (yW ts vs)
 | [],vs=>by unfold Bu; exact Qf vs
 | _ :: _,[]=>by unfold Bu; exact .nil
end
def FZ(P:Program)(ρ:Nat->dR)(ops:Array Oper)(st:St):List Oper->Option (Nat×List A×Nat)
 | o :: _=>match jc ops st o with
  | some true=>if eN ρ st o then match o.op,o.dst with
   | .call { callee:=.value xf,args,.. },some d=>match st.eval xf,dx (args.toList.map st.eval) with
    | some (.clo f caps),some az=>some (f,az++caps,d)
    | _,_=>none
   | _,_=>none
   else none
  | _=>none
 | []=>none
def V.pl:V->Bool
 | .one (.t x)=>x.sc
 | .agg l=>l.all λc=>match c with | .t x=>x.sc | _=>false
 | .tup l=>l.all λv=>match v with | .one (.t x)=>x.sc | _=>false
 | _=>false
theorem Uo{v:V}(h:v.pl=true):v.plain:=by
 unfold V.pl at h
 split at h
 ·unfold V.plain; exact h
 ·unfold V.plain;intro c hc;have:=aae.1 h c hc
  cases c with
  | t x=>exact this
  | _=>cases this
 ·rename_i l;unfold V.plain
  induction l with
  | nil=>unfold uW; trivial
  | cons v l ih =>
   simp only [List.all_cons,sk] at h;unfold uW;refine ⟨?_,ih h.2⟩;have h1:=h.1
   split at h1
   ·unfold V.plain; exact h1
   ·cases h1
 ·cases h
section
variable {P:Program} {n:Nat} {ls:List Nat} {Q:Exit->St->Prop} {N:St->Prop} {st:St} {p:Nat->Bool} {ρ:Nat->dR} {ops:Array Oper} {l:List Oper} {K:St->Prop} {y:Code}
abbrev t8(P:Program)(ρ:Nat->dR)(ops:Array Oper)(k:Nat)(l:List Oper)(st:St):St:=St.or (ru P ρ ops (l.take k) st)
theorem Af{c:Nat×List A×Nat}(h:FZ P ρ ops st l=some c):∃ o l' xf args ts az caps,l=o :: l'/\jc ops st o=some true/\eN ρ st o=true/\o.op=.call { callee:=.value xf,args,argTypes:=ts }/\o.dst=some c.2.2/\st.eval xf=some (.clo c.1 caps)/\dx (args.toList.map st.eval)=some az/\c.2.1=az++caps:=by
 unfold FZ at h
 split at h <;> try (cases h; done)
 rename_i o l'
 split at h <;> try (cases h; done)
 split at h <;> try (cases h; done)
 split at h <;> try (cases h; done)
 split at h <;> try (cases h; done)
 rename_i _ hg hf _ _ xf args ts d hop hd _ _ f caps az hxf mj
 cases h
 exact ⟨o,l',xf,args,ts,az,caps,rfl,hg,hf,hop,hd,hxf,mj,rfl⟩
abbrev Z7(m:Bool)(p:Nat->Bool)(d:Nat)(az:List A)(res:V)(outs:List (List C))(st:St):St :=
 (Mk ((dK d (d7 az) outs (V.toA d (gj d 0) res MA.ret)).run (Mk ((lp m p az MA.ret).run st)))).put (some d) (Z5 ((dK d (d7 az) outs (V.toA d (gj d 0) res MA.ret)).run (Mk ((lp m p az MA.ret).run st))))
abbrev cbS(d:Nat)(res:V)(st:St):St:=(Mk ((V.toA d (gj d 0) res MA.ret).run st)).put (some d) (Z5 ((V.toA d (gj d 0) res MA.ret).run st))
theorem ai{α β:Type}{r:β}{x:Option α}{f:α->Option β}{fid:Nat}{vs:List V}{res:α->V}{outs:α->List (List C)}(m:Bool)(k d:Nat)(az:List A)(h:x.bind f=some r)(hc:∀ y,x=some y->aD P fid vs (res y) (outs y))
  (hk:∀ y,f y=some r->ab P p ρ ops (l.drop (k+1)) (Z7 m p d az (res y) (outs y) (t8 P ρ ops k l st)) K)
  (h1:(ru P ρ ops (l.take k) st).isSome=true:=by kernel_rfl) (h2:FZ P ρ ops (t8 P ρ ops k l st) (l.drop k)=some (fid,az,d):=by kernel_rfl)
  (h3:((lp m p az MA.ret).run (t8 P ρ ops k l st)).map (λq=>Bu vs q.1)=some vs:=by kernel_rfl)
  (h4:∀ y,((dK d (d7 az) (outs y) (V.toA d (gj d 0) (res y) MA.ret)).run (Mk ((lp m p az MA.ret).run (t8 P ρ ops k l st)))).isSome=true:=by intro y; kernel_rfl):ab P p ρ ops l st K:=by
 refine ah k h1 ?_
 cases x with
 | none=>cases h
 | some y =>
  have h5:=hc y rfl;have h6:=hk y h;have h7:=h4 y
  clear hc hk h4
  simp only [t8,Z7] at h2 h3 h6 h7;generalize St.or (ru P ρ ops (l.take k) st)=st1 at *;obtain ⟨o,l',xf,args,ts,az',caps,e1,e2,e3,e4,e5,e6,e7,e8⟩:=Af h2;simp only at e5 e6 e8;subst e8;have e9:l.drop (k+1)=l':=by rw [<- List.drop_drop,e1]; rfl
  rw [e9] at h6;rw [e1];obtain ⟨⟨vs0,st2⟩,h8,h9⟩:=aab.1 h3;have h10:DF vs0 vs:=by rw [<- h9]; exact yW vs vs0
  rw [h8] at h6 h7;simp only [Mk,Z5] at h6 h7
  cases h11:(dK d (d7 (az'++caps)) (outs y) (V.toA d (gj d 0) (res y) MA.ret)).run st2 with
  | none=>rw [h11] at h7; cases h7
  | some q =>
   obtain ⟨z,st3⟩:=q;rw [h11] at h6;exact ab.call e2 e3 e4 e5 e6 e7 h8 (h5.le h10) h11 (by rw [e5]; exact h6)
theorem ce{α β:Type}{r:β}{x:Option α}{f:α->Option β}{fid:Nat}{vs:List V}{res:α->V}(k d:Nat)(az:List A)(h:x.bind f=some r)(hc:∀ y,x=some y->aD P fid vs (res y) [])
  (hk:∀ y,f y=some r->ab P p ρ ops (l.drop (k+1)) (cbS d (res y) (t8 P ρ ops k l st)) K)
  (h1:(ru P ρ ops (l.take k) st).isSome=true:=by kernel_rfl) (h2:FZ P ρ ops (t8 P ρ ops k l st) (l.drop k)=some (fid,az,d):=by kernel_rfl)
  (h3:((d8 az MA.ret).run (t8 P ρ ops k l st)).map (λq=>Bu vs q.1)=some vs:=by kernel_rfl)
  (h0:∀ y,(res y).pl=true:=by intro y; kernel_rfl)
  (h4:∀ y,((V.toA d (gj d 0) (res y) MA.ret).run (t8 P ρ ops k l st)).isSome=true:=by intro y; kernel_rfl):ab P p ρ ops l st K:=by
 refine ah k h1 ?_
 cases x with
 | none=>cases h
 | some y =>
  have h5:=hc y rfl;have h6:=hk y h;have h7:=h4 y;have h0:=Uo (h0 y)
  clear hc hk h4
  simp only [t8,cbS] at h2 h3 h6 h7;generalize St.or (ru P ρ ops (l.take k) st)=st1 at *;obtain ⟨o,l',xf,args,ts,az',caps,e1,e2,e3,e4,e5,e6,e7,e8⟩:=Af h2;simp only at e5 e6 e8;subst e8;have e9:l.drop (k+1)=l':=by rw [<- List.drop_drop,e1]; rfl
  rw [e9] at h6;rw [e1];obtain ⟨⟨vs0,st2⟩,h8,h9⟩:=aab.1 h3;have h10:DF vs0 vs:=by rw [<- h9]; exact yW vs vs0
  have hst:st2=st1:=by
   have:=(nS (d8 (az'++caps) MA.ret) (ra (D:=⟨λ_=>True,λ_=>False,λ_=>True,λ_=>False⟩) (qp (λ_=>trivial) _) (λ_=>trivial)) h8).1;exact St.ext this.tm (funext λs=>this.ob s (λh=>h)) (funext λs=>this.rw s (λh=>h))
  subst hst
  cases h11:(V.toA d (gj d 0) (res y) MA.ret).run st2 with
  | none=>rw [h11] at h7; cases h7
  | some q =>
   obtain ⟨z,st3⟩:=q;rw [h11] at h6;simp only [Mk,Z5] at h6;exact ab.callB e2 e3 e4 e5 e6 e7 h8 (h5.le h10) h0 h11 (by rw [e5]; exact h6)
theorem aE{id:Nat}(h:ab P (Pd []) (nc []) ops ops.toList st (ij (Wp P n ls y Q) Q .normal))(hd:ops.toList.all (og n)=true:=by kernel_rfl):Wp P n ls (.seq (.region id ops false) y) Q st :=
 Un [] [] h hd
theorem aV{α β:Type}{id:Nat}{r:β}{x:Option α}{f:α->Option β}{fid:Nat}{vs:List V}{res:α->V}{outs:α->List (List C)}(m:Bool)(k d:Nat)(az:List A)(h:x.bind f=some r)(hc:∀ y,x=some y->aD P fid vs (res y) (outs y))
  (hk:∀ z,f z=some r->Wp P n ls y Q (St.or (ru P (nc []) ops (ops.toList.drop (k+1)) (Z7 m (Pd []) d az (res z) (outs z) (t8 P (nc []) ops k ops.toList st)))))
  (h1:(ru P (nc []) ops (ops.toList.take k) st).isSome=true:=by kernel_rfl) (h2:FZ P (nc []) ops (t8 P (nc []) ops k ops.toList st) (ops.toList.drop k)=some (fid,az,d):=by kernel_rfl)
  (h3:((lp m (Pd []) az MA.ret).run (t8 P (nc []) ops k ops.toList st)).map (λq=>Bu vs q.1)=some vs:=by kernel_rfl)
  (h4:∀ z,((dK d (d7 az) (outs z) (V.toA d (gj d 0) (res z) MA.ret)).run (Mk ((lp m (Pd []) az MA.ret).run (t8 P (nc []) ops k ops.toList st)))).isSome=true:=by intro z; kernel_rfl)
  (h5:∀ z,(ru P (nc []) ops (ops.toList.drop (k+1)) (Z7 m (Pd []) d az (res z) (outs z) (t8 P (nc []) ops k ops.toList st))).isSome=true:=by intro z; kernel_rfl)
  (hd:ops.toList.all (og n)=true:=by kernel_rfl):Wp P n ls (.seq (.region id ops false) y) Q st :=
 Un [] [] (ai m k d az h hc (λz hz=>ae (hk z hz) (h5 z)) h1 h2 h3 h4) hd
theorem aA{α:Type}(k d:Nat){b:Bool}{e1 e2 r:α}(h:(bif b then e1 else e2)=r)(ht:e1=r->ab P p ρ ops (l.drop k) ((t8 P ρ ops k l st).put (some d) (.t (.bool true))) K)
  (hf:e2=r->ab P p ρ ops (l.drop k) ((t8 P ρ ops k l st).put (some d) (.t (.bool false))) K) (h1:(ru P ρ ops (l.take k) st).isSome=true:=by kernel_rfl) (h2:(t8 P ρ ops k l st).tm d=.t (.bool b):=by kernel_rfl):ab P p ρ ops l st K:=by
 refine ah k h1 ?_;rcases tf b with hc | hc
 ·exact ab.known d (v:=true) h2 hc (ht (Ul h hc))
 ·exact ab.known d (v:=false) h2 hc (hf (Um h hc))
theorem QW{m:Bool}{fn:Func}{args:List V}{res:V}{outs:List (List C)}(h1:(CJ P st fn.results.toList).isSome=true:=by kernel_rfl)
  (h2:((DD 0 args λos=>Wo m (XK ((CJ P st fn.results.toList).getD [])) λv=>MA.ret (v,os)).run st).map (λq=>(V.fix res q.1.1,Zg outs q.1.2))=some (res,outs):=by kernel_rfl):Br P m fn args res outs .ret st:=by
 obtain ⟨l,hl⟩:=aad.1 h1;rw [hl] at h2;obtain ⟨⟨⟨v,os⟩,st1⟩,h3,h4⟩:=aab.1 h2;simp only [Prod.mk.injEq] at h4;refine ⟨.inl rfl,l,st1,v,os,hl,h3,?_,?_⟩
 ·rw [<- h4.1]; exact SP _ _
 ·rw [<- h4.2]; exact Vz _ _
theorem XO{m:Bool}{fn:Func}{args:List V}{res:V}{outs:List (List C)}(h1:(CJ P st fn.results.toList).isSome=true:=by kernel_rfl)
  (h2:((DD 0 args λos=>Wo m (XK ((CJ P st fn.results.toList).getD [])) λv=>MA.ret (v,os)).run st).map (λq=>(V.fix res q.1.1,Zg outs q.1.2))=some (res,outs):=by kernel_rfl):Br P m fn args res outs .normal st :=
 ⟨.inr rfl,(QW (m:=m) (args:=args) h1 h2).2⟩
theorem lo{s:Sx}(mr:List (Nat×Nat))(hok:s.ok n ls [] mr=true:=by kernel_rfl)(ht:s.tm.map (λq=>st.tm q.1)=s.tm.map (λq=>q.2.ren (Dd []) (Dd mr)):=by kernel_rfl)
  (ho:s.ob.map (λq=>st.ob (Dd [] q.1))=s.ob.map (λq=>some (tM (Dd []) (Dd mr) q.2)):=by kernel_rfl) (hr:s.rw.map (λq=>st.rw (Dd mr q.1))=s.rw.map (λq=>some q.2):=by kernel_rfl):Le n ls st s.st:=Le.of hok ht ho hr
theorem da{f:FuncId}{c:Code}{args:List V}{res:V}{outs:List (List C)}(fn:Func)(m:Bool)
  (h:Wp P fn.ntmps (eR 0 args) c (Br P m fn args res outs) (gK ((((pE 0 args MA.ret).run dD).map Prod.fst).getD []) (Mk ((pE 0 args MA.ret).run dD))))
  (hb:fn.body=some c:=by rfl) (hf:P.funcs[f]?=some fn:=by kernel_rfl) (hnm:(fn.name == "runtime.NumGoroutine")=false:=by kernel_rfl) (hle:Nat.ble ((((pE 0 args MA.ret).run dD).map Prod.fst).getD []).length fn.ntmps=true:=by kernel_rfl) (ht:wo fn.ntmps fn=true:=by kernel_rfl)
  (ha:((pE 0 args MA.ret).run dD).isSome=true:=by kernel_rfl) (hl:iM 0 args ((((pE 0 args MA.ret).run dD).map Prod.fst).getD [])=true:=by kernel_rfl):aD P f args res outs:=by
 obtain ⟨⟨az,st0⟩,h1⟩:=aad.1 ha;refine KZ (m:=m) az hf hb hnm (by simpa [h1] using hle) ht (by rw [h1]; rfl) (by simpa [h1] using hl) ?_
 simpa [h1] using h
end
section
variable {P:Program} {n:Nat} {ls:List Nat} {Q:Exit->St->Prop} {N:St->Prop} {st:St} {p:Nat->Bool} {ρ:Nat->dR} {ops:Array Oper} {l l':List Oper} {K:St->Prop} {y:Code} {o:Oper}
theorem I6{α:Type}(f:α->List T)(m:Nat)(xs:List α)(hf:∀ n,(f n).all T.sc=true):(((A.ext false (.sl m (xs.map f))).rows λm rows=>MA.ret (m,rows)).run st).map Prod.fst=some (m,xs.map f):=by
 have:Mz (xs.map f)=true:=by
  unfold Mz;rw [zZv];intro r hr;obtain ⟨n,_,rfl⟩:=List.mem_map.1 hr;exact hf n
 simp [A.rows,this,MA.run]
def VA:Option A->Option Int
 | some (.t (.int _ i))=>some i
 | _=>none
theorem M7{a:Option A}{i:Int}(h:VA a=some i):∃ k,a=some (.t (.int k i)):=by
 unfold VA at h
 split at h
 ·rename_i k j; cases h; exact ⟨k,rfl⟩
 ·cases h
def XP(st:St):Option A->Option (List (List T))
 | some (.t (.sl _ rows))=>some rows
 | some .nil=>some []
 | some (.own r)=>match st.rw r with
  | some (.live _ _ rows)=>some rows
  | some (.frz _ rows)=>some rows
  | _=>none
 | _=>none
theorem Up{a:Option A}{rows:List (List T)}(h:XP st a=some rows):∃ y m,a=some y/\((y.rows λm rows=>MA.ret (m,rows)).run st).map Prod.fst=some (m,rows):=by
 unfold XP at h
 split at h
 ·cases h; exact ⟨_,_,rfl,rfl⟩
 ·cases h; exact ⟨_,_,rfl,rfl⟩
 ·rename_i r
  split at h
  ·rename_i e sz rows hr; cases h; exact ⟨.own r,sz,rfl,by simp [A.rows,MA.run,hr]⟩
  ·rename_i sz rows hr; cases h; exact ⟨.own r,sz,rfl,by simp [A.rows,MA.run,hr]⟩
  ·cases h
 ·cases h
def Uq(nn:Nat)(st:St):Option A->Option (List (List T))
 | some (.t (.sl m rows))=>bif zXW m nn then some rows else none
 | some .nil=>some []
 | some (.own r)=>match st.rw r with
  | some (.live _ m rows)=>bif zXW m nn then some rows else none
  | some (.frz m rows)=>bif zXW m nn then some rows else none
  | _=>none
 | _=>none
theorem SQ{nn:Nat}{a:Option A}{rows:List (List T)}(h:Uq nn st a=some rows):∃ y m,a=some y/\((y.rows λm rows=>MA.ret (m,rows)).run st).map Prod.fst=some (m,rows)/\(m=nn\/rows=[]):=by
 have key:∀ {m:Nat} {rs:List (List T)},(bif zXW m nn then some rs else none)=some rows->m=nn/\rs=rows:=λ{m rs} h=>by
  cases hm:zXW m nn with
  | true=>rw [hm] at h; cases h; exact ⟨zWv hm,rfl⟩
  | false=>rw [hm] at h; cases h
 unfold Uq at h
 split at h
 ·obtain ⟨rfl,rfl⟩:=key h; exact ⟨_,_,rfl,rfl,.inl rfl⟩
 ·cases h; exact ⟨_,0,rfl,rfl,.inr rfl⟩
 ·rename_i r
  split at h
  ·rename_i e m rs hr; obtain ⟨rfl,rfl⟩:=key h; exact ⟨.own r,m,rfl,by simp [A.rows,MA.run,hr],.inl rfl⟩
  ·rename_i m rs hr; obtain ⟨rfl,rfl⟩:=key h; exact ⟨.own r,m,rfl,by simp [A.rows,MA.run,hr],.inl rfl⟩
  ·cases h
 ·cases h
def Qg:List Oper->Option Nat
 | o :: _=>o.dst
 | []=>none
theorem DI{k:Nat}(h:l.drop k=o :: l'):l.drop (k+1)=l'/\Qg (l.drop k)=o.dst:=by
 have h1:=congrArg (List.drop 1) h;rw [List.drop_drop] at h1;exact ⟨h1,by rw [h]; rfl⟩
theorem bR{α β:Type}{r:β}{xs:List α}{i:Int}{g:α->Option β}(k e sz:Nat)(f:α->List T)(h:(dm xs i).bind g=some r){t:TypeId}{a b:Operand}
  (hk:∀ y,g y=some r->dm xs i=some y->ab P p ρ ops (l.drop (k+1)) ((t8 P ρ ops k l st).put (Qg (l.drop k)) (.fadr (f y))) K) (hl:l.drop k=o :: l':=by rfl) (h1:(ru P ρ ops (l.take k) st).isSome=true:=by kernel_rfl)
  (ho:o.op=.indexAddr t a b:=by rfl) (hg:jc ops (t8 P ρ ops k l st) o=some true:=by kernel_rfl) (hf:eN ρ (t8 P ρ ops k l st) o=true:=by kernel_rfl) (ha:(t8 P ρ ops k l st).eval a=some (.t (.sl sz (xs.map f))):=by kernel_rfl)
  (hb:VA ((t8 P ρ ops k l st).eval b)=some i:=by kernel_rfl) (hu:P.underlying t=some (.slice e):=by kernel_rfl) (hs:jH P e=some sz:=by kernel_rfl):ab P p ρ ops l st K:=by
 obtain ⟨e1,e2⟩:=DI hl;simp only [e1,e2] at hk;refine ah k h1 ?_;obtain ⟨y,h2,h3⟩:=aan h;obtain ⟨kk,hb⟩:=M7 hb;rw [hl];exact Ws f xs i ho hg hf ha hb hu hs h2 (hk y h3 h2)
theorem bE{α β:Type}{r:β}{xs:List α}{i:Int}{g:α->Option β}(k e sz rw e':Nat)(f:α->List T)(h:(dm xs i).bind g=some r){t:TypeId}{a b:Operand}
  (hk:∀ y,g y=some r->dm xs i=some y->ab P p ρ ops (l.drop (k+1)) ((t8 P ρ ops k l st).put (Qg (l.drop k)) (.elem rw sz i.toNat 0)) K) (hl:l.drop k=o :: l':=by rfl) (h1:(ru P ρ ops (l.take k) st).isSome=true:=by kernel_rfl)
  (ho:o.op=.indexAddr t a b:=by rfl) (hg:jc ops (t8 P ρ ops k l st) o=some true:=by kernel_rfl) (hf:eN ρ (t8 P ρ ops k l st) o=true:=by kernel_rfl) (ha:(t8 P ρ ops k l st).eval a=some (.own rw):=by kernel_rfl)
  (hr:(t8 P ρ ops k l st).rw rw=some (.live e' sz (xs.map f)):=by kernel_rfl) (hb:VA ((t8 P ρ ops k l st).eval b)=some i:=by kernel_rfl) (hu:P.underlying t=some (.slice e):=by kernel_rfl) (hs:jH P e=some sz:=by kernel_rfl):ab P p ρ ops l st K:=by
 obtain ⟨e1,e2⟩:=DI hl;simp only [e1,e2] at hk;refine ah k h1 ?_;obtain ⟨y,h2,h3⟩:=aan h;obtain ⟨kk,hb⟩:=M7 hb;rw [hl];exact Wt f xs i rw ho hg hf ha hr hb hu hs h2 (hk y h3 h2)
theorem aM{α:Type}(k e:Nat)(f:α->List T)(xs:List α){t:TypeId}{x:Operand}{args:Array Operand}{ts:Array TypeId}(hk:ab P p ρ ops (l.drop (k+1)) ((t8 P ρ ops k l st).put (Qg (l.drop k)) (.t (.int .i64 xs.length))) K)(hl:l.drop k=o :: l':=by rfl)
  (h1:(ru P ρ ops (l.take k) st).isSome=true:=by kernel_rfl) (ho:o.op=.call { callee:=.builtin .len,args,argTypes:=ts }:=by rfl) (hargs:args.toList=[x]:=by rfl) (hts:ts.toList=[t]:=by rfl) (hg:jc ops (t8 P ρ ops k l st) o=some true:=by kernel_rfl)
  (hf:eN ρ (t8 P ρ ops k l st) o=true:=by kernel_rfl) (hx:XP (t8 P ρ ops k l st) ((t8 P ρ ops k l st).eval x)=some (xs.map f):=by kernel_rfl) (hu:P.underlying t=some (.slice e):=by kernel_rfl):ab P p ρ ops l st K:=by
 obtain ⟨e1,e2⟩:=DI hl;simp only [e1,e2] at hk;refine ah k h1 ?_;obtain ⟨y,m,hx,hy⟩:=Up hx;rw [hl];exact Wv f xs m ho hargs hts hg hf hx hy hu hk
theorem bt{α β:Type}{r:β}{xs ys:List α}{g:Unit->Option β}{by_:Nat}(k d e nn rw:Nat)(f:α->List T)(h:(cd (decide ((xs.length+ys.length)*by_<=140737488355328))).bind g=some r){t:TypeId}{ts:Array TypeId}{args:Array Operand}{a b:Operand}
  (hk:g ()=some r->ab P p ρ ops (l.drop (k+1)) (({ t8 P ρ ops k l st with rw:=eI (eI (t8 P ρ ops k l st).rw rw (some .gone)) (gj d 0) (some (.live e nn ((xs++ys).map f))) }:St).put (Qg (l.drop k)) (.own (gj d 0))) K) (hl:l.drop k=o :: l':=by rfl) (h1:(ru P ρ ops (l.take k) st).isSome=true:=by kernel_rfl)
  (ho:o.op=.call { callee:=.builtin .append,args,argTypes:=ts }:=by rfl) (hargs:args.toList=[a,b]:=by rfl) (hts:ts.toList=[t,t]:=by rfl) (hd:o.dst=some d:=by rfl) (hg:jc ops (t8 P ρ ops k l st) o=some true:=by kernel_rfl) (hf:eN ρ (t8 P ρ ops k l st) o=true:=by kernel_rfl)
  (ha:(t8 P ρ ops k l st).eval a=some (.own rw):=by kernel_rfl) (hr:(t8 P ρ ops k l st).rw rw=some (.live e nn (xs.map f)):=by kernel_rfl) (hy:Uq nn (t8 P ρ ops k l st) ((t8 P ρ ops k l st).eval b)=some (ys.map f):=by kernel_rfl)
  (hi:Eu P t=some (e,nn,by_):=by kernel_rfl) (hne:zXW (gj d 0) rw=false:=by kernel_rfl) (hfree:(t8 P ρ ops k l st).rw (gj d 0)=none:=by kernel_rfl):ab P p ρ ops l st K:=by
 obtain ⟨e1,e2⟩:=DI hl;simp only [e1,e2] at hk;refine ah k h1 ?_;obtain ⟨_,h2,h3⟩:=aan h;obtain ⟨y,m,hb,hy,hm⟩:=SQ hy;rw [hl];exact dY f d m e nn by_ rw xs ys ho hargs hts hd hg hf ha hr hb hy hm hi (of_decide_eq_true (aK h2)) hne hfree (hk h3)
theorem cW{α:Type}{y:α}{xs:List α}{i:Nat}(k sz m rw off e':Nat)(gg:Bool)(f:α->List T)(h:xs[i]?=some y){t:TypeId}{a:Operand}(hk:ab P p ρ ops (l.drop (k+1)) ((t8 P ρ ops k l st).put (Qg (l.drop k)) ((FO gg m ((f y).map A.t) off).getD .undef)) K)(hl:l.drop k=o :: l':=by rfl)(h1:(ru P ρ ops (l.take k) st).isSome=true:=by kernel_rfl)
  (ho:o.op=.load t a:=by rfl) (hg:jc ops (t8 P ρ ops k l st) o=some true:=by kernel_rfl) (hf:eN ρ (t8 P ρ ops k l st) o=true:=by kernel_rfl)
  (ha:(t8 P ρ ops k l st).eval a=some (.elem rw sz i off):=by kernel_rfl) (hr:(t8 P ρ ops k l st).rw rw=some (.live e' sz (xs.map f)):=by kernel_rfl) (hgg:R8 P t=some gg:=by kernel_rfl) (hm:jH P t=some m:=by kernel_rfl) (hc:(FO gg m ((f y).map A.t) off).isSome=true:=by kernel_rfl):ab P p ρ ops l st K:=by
 obtain ⟨e1,e2⟩:=DI hl;simp only [e1,e2] at hk;refine ah k h1 ?_;obtain ⟨x,hx⟩:=aad.1 hc;rw [hx] at hk;rw [hl];exact Uk f xs rw i off x ho hg hf ha hr hgg hm h hx hk
end
abbrev V.i(n:Int):V:=.one (.t (.int .i64 n))
abbrev V.b(b:Bool):V:=.one (.t (.bool b))
abbrev eP(l:List T):V:=.agg (l.map .t)
def cw:List Nat->List T->List C
 | 0 :: es,x :: xs=>.t x :: cw es xs
 | (e+1) :: es,.sl sz rows :: xs=>.ow (e+1) sz rows :: cw es xs
 | _ :: es,x :: xs=>.t x :: cw es xs
 | [],xs=>xs.map .t
 | _ :: _,[]=>[]
def V.w(es:List Nat)(l:List T):V:=.agg (cw es l)
section
variable {P:Program} {st:St} {p:Nat->Bool} {ρ:Nat->dR} {ops:Array Oper} {l:List Oper} {K:St->Prop} {o:Oper}
theorem n6.le{f:Nat}{l l':List V}{res:V}(hl:DF l l')(h:n6 P f l' res):n6 P f l res:=⟨h.1,λw D vs hD hv ht=>h.2 w D vs hD (I5 hl hv) ht⟩
theorem SR(d f:Nat)(caps aa:List A)(vs:List V)(res:V){xf:Operand}{args:Array Operand}{ts:Array TypeId}
  (ho:o.op=.call { callee:=.value xf,args,argTypes:=ts }) (hd:o.dst=some d) (hg:jc ops st o=some true) (hf:eN ρ st o=true) (hxf:st.eval xf=some (.clo f caps)) (mj:dx (args.toList.map st.eval)=some aa)
  (hp:((d8 (aa++caps) MA.ret).run st).map (λq=>Bu vs q.1)=some vs) (hc:n6 P f vs res) (hr:((V.toA d (gj d 0) res MA.ret).run st).isSome=true)
  (hk:ab P p ρ ops l ((Mk ((V.toA d (gj d 0) res MA.ret).run st)).put o.dst (Z5 ((V.toA d (gj d 0) res MA.ret).run st))) K):ab P p ρ ops (o :: l) st K:=by
 obtain ⟨⟨vs0,st1⟩,h1,h2⟩:=aab.1 hp;have hle:DF vs0 (Bu vs vs0):=yW vs vs0;simp only at h2;rw [h2] at hle;exact aO d f caps aa vs0 res ho hd hg hf hxf mj (by rw [h1]; rfl) (hc.le hle) hr hk
end
section
variable {P:Program} {n:Nat} {ls:List Nat} {Q:Exit->St->Prop} {st:St} {p:Nat->Bool} {ρ:Nat->dR} {ops:Array Oper} {l:List Oper} {K:St->Prop} {y:Code}
theorem TY.le{f:Nat}{v v' x x':List V}{res:V}{outs:List (List C)}(hv:DF v v')(hx:DF x x')(h:TY P f v' x' res outs):TY P f v x res outs :=
 ⟨h.1,λw F D vs us bs hF hD h1 h2 hn hf ht=>(h.2 w F D vs us bs hF hD (I5 hv h1) (I5 hx h2) hn hf ht).mono λe w' ⟨v,F',bv,bo,a1,a2,a3,a4,a5,a6,a7,a8⟩=>⟨v,F',bv,bo,a1,a2,a3,a4,a5,a6,Vv a7 hv,a8⟩⟩
theorem obx{f:FuncId}{c:Code}{args xs:List V}{res:V}{outs:List (List C)}(fn:Func)(m:Bool)
  (h:Wp P fn.ntmps (eR 0 args) c (Br P m fn args res outs) (gK (((((pE 0 args MA.ret).run dD).map Prod.fst).getD [])++xs.map V.toX) (Mk ((pE 0 args MA.ret).run dD))))
  (hb:fn.body=some c:=by rfl) (hf:P.funcs[f]?=some fn:=by kernel_rfl) (hnm:(fn.name == "runtime.NumGoroutine")=false:=by kernel_rfl) (hle:Nat.ble (((((pE 0 args MA.ret).run dD).map Prod.fst).getD [])++xs.map V.toX).length fn.ntmps=true:=by kernel_rfl) (ht:wo fn.ntmps fn=true:=by kernel_rfl)
  (ha:((pE 0 args MA.ret).run dD).isSome=true:=by kernel_rfl) (hl:iM 0 args ((((pE 0 args MA.ret).run dD).map Prod.fst).getD [])=true:=by kernel_rfl):TY P f args xs res outs:=by
 obtain ⟨⟨az,st0⟩,h1⟩:=aad.1 ha;rw [h1] at h hle hl;exact SH hf hb hnm (Nat.le_of_ble_eq_true hle) ht h1 hl h
theorem fV{α β:Type}{r:β}{x:Option α}{f:α->Option β}{fid:Nat}{vs us:List V}{res:α->V}{outs:α->List (List C)}(m:Bool)(k d:Nat)(aa xs:List A)(h:x.bind f=some r)(hc:∀ y,x=some y->TY P fid vs us (res y) (outs y))
  (hk:∀ y,f y=some r->ab P p ρ ops (l.drop (k+1)) (Z7 m p d aa (res y) (outs y) (t8 P ρ ops k l st)) K)
  (h1:(ru P ρ ops (l.take k) st).isSome=true:=by kernel_rfl) (h2:FZ P ρ ops (t8 P ρ ops k l st) (l.drop k)=some (fid,aa++xs,d):=by kernel_rfl)
  (h3:((lp m p aa MA.ret).run (t8 P ρ ops k l st)).map (λq=>Bu vs q.1)=some vs:=by kernel_rfl)
  (h0:((d8 xs MA.ret).run (Mk ((lp m p aa MA.ret).run (t8 P ρ ops k l st)))).map (λq=>Bu us q.1)=some us:=by kernel_rfl)
  (h4:∀ y,((dK d (d7 aa) (outs y) (V.toA d (gj d 0) (res y) MA.ret)).run (Mk ((lp m p aa MA.ret).run (t8 P ρ ops k l st)))).isSome=true:=by intro y; kernel_rfl):ab P p ρ ops l st K:=by
 refine ah k h1 ?_
 cases x with
 | none=>cases h
 | some y =>
  have h5:=hc y rfl;have h6:=hk y h;have h7:=h4 y
  clear hc hk h4
  simp only [t8,Z7] at h2 h3 h6 h7 h0;generalize St.or (ru P ρ ops (l.take k) st)=st1 at *;obtain ⟨o,l',xf,args,ts,az',caps,e1,e2,e3,e4,e5,e6,e7,e8⟩:=Af h2;simp only at e5 e6 e8;have e9:l.drop (k+1)=l':=by rw [<- List.drop_drop,e1]; rfl
  rw [e9] at h6;rw [e1];obtain ⟨⟨vs0,st2⟩,h8,h9⟩:=aab.1 h3;have h10:DF vs0 vs:=by rw [<- h9]; exact yW vs vs0
  rw [h8] at h6 h7 h0;simp only [Mk,Z5] at h6 h7 h0;obtain ⟨⟨us0,st4⟩,h12,h13⟩:=aab.1 h0;have h14:DF us0 us:=by rw [<- h13]; exact yW us us0
  have hst:st4=st2:=by
   have:=(nS (d8 xs MA.ret) (ra (D:=⟨λ_=>True,λ_=>False,λ_=>True,λ_=>False⟩) (qp (λ_=>trivial) _) (λ_=>trivial)) h12).1;exact St.ext this.tm (funext λs=>this.ob s (λh=>h)) (funext λs=>this.rw s (λh=>h))
  subst hst
  cases h11:(dK d (d7 aa) (outs y) (V.toA d (gj d 0) (res y) MA.ret)).run st4 with
  | none=>rw [h11] at h7; cases h7
  | some q =>
   obtain ⟨z,st3⟩:=q;rw [h11] at h6;exact ab.step (.run z st3 e2 e3 (.callX m d fid xf args ts az' caps aa xs vs0 us0 st4 (res y) (outs y) e4 e5 e6 e7 e8.symm h8 h12 (h5.le h10 h14) h11)) (by rw [e5]; exact h6)
end
section
variable {P:Program} {n:Nat} {ls:List Nat} {Q:Exit->St->Prop} {st:St} {x y:Code}
theorem EX(R:St->Prop)(J:∀ s,R s->Wp P n ls y Q s)(h:Wp P n ls x (ij R Q) st):Wp P n ls (.seq x y) Q st:=ap (h.mono λe s hq=>by
 cases e with
 | normal=>exact J s hq
 | _=>exact hq)
theorem Wp.L(R:Nat->St->Prop)(h0:∀ s,¬ R 0 s)(hs:∀ k s,R (k+1) s->Wp P n ls x (ij (R k) Q) s){k:Nat}(h:R k st):Wp P n ls (.loop x) Q st:=by
 refine Wp.loop (k:=k) ?_
 induction k generalizing st with
 | zero=>exact absurd h (h0 st)
 | succ k ih =>
  refine (hs k st h).mono λe s hq=>?_
  cases e with
  | normal=>exact ih hq
  | _=>exact hq
end
end Go.Tm
