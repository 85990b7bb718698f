/- The abstract machine tells the truth of the translated code. -/
import Derived.Orders
import Derived.ChangeOld
import Derived.ChangeArms
import Derived.Carry
import Derived.OpenShut
import Derived.IntWalk
import Derived.Test.YtkomlmhelfnajaaGreatCFnExactUntilDoneF1
set_option linter.unusedVariables false
set_option linter.unusedSimpArgs false
open List renaming size_toArray->zZz
open Array renaming getElem?_append_left->zZJ,getElem?_append_right->zZK,getElem?_eq_getElem->zXv,getElem?_replicate->zZy,getElem?_toList->zWv,replicate->zVW,toArray_toList->zWZ
open Bool renaming and_eq_true->sk,and_self->zWj,and_true->zXq,false_eq_true->zQw,true_and->zQg
open Int renaming tmod_eq_emod_of_nonneg->zXZ,toNat->sY
open List renaming all_cons->zYj,append_nil->zWY,cons_append->zXz,drop_eq_getElem_cons->zWh,eq_nil_of_length_eq_zero->zQW,foldl_cons->zYG,getElem?_append->zWw,getElem?_append_left->zQZ,getElem?_append_right->zQY,getElem?_cons_zero->zWH,getElem?_drop->zQJ,getElem?_eq_getElem->sX,getElem?_map->zQk,getElem?_of_mem->zYK,getElem?_set_ne->zZH,getElem?_set_self->zYW,getElem?_take->zQK,head?->zYY,head?_drop->zXW,head?_eq_getElem?->zZv,length->zYZ,length_append->zQh,length_cons->zQq,length_map->zXQ,map_append->zXh,map_congr_left->zWy,map_cons->zWk,mem_append_left->zZg,mem_cons_of_mem->zQv,mem_cons_self->zQj,mem_map->zXx,mem_of_getElem?->zQX,mem_singleton->zWW,nil_append->zQy,nodup_append->zXk,range->zXY,replicate->zQV,tail->zYq,tail_drop->zXV
open Nat renaming beq->zWz,eq_of_beq_eq_true->zWG,le_refl->zWX,le_trans->zWV,lt_of_lt_of_le->zWK,lt_or_ge->zZq,zero_add->zWJ,zero_le->zYz
open Option renaming bind_some->wk,map_eq_some_iff->zWq,map_some->zWQ
open Go.IntKind renaming wrap->zm
open BitVec renaming ofInt->aaa
open List renaming getElem?_eq_some_iff->aab
open Option renaming map_eq_some_iff->aac
open List renaming mem_append->aad
open Option renaming isSome_iff_exists->aae
open List renaming all_eq_true->aaf
open Array renaming getElem?_eq_some_iff->aag
open List renaming mem_cons->aah
open List renaming getElem?_eq_none_iff->aai
namespace Go.Tm
open Go.RowKit
section
variable {P:Program} {E:En} [Tb P E] {g:Gh} {st st':St} {a:Act} {w:World}
def Gh.all(g:Gh)(st:St)(b:Nat):Prop:=g.F b\/(∃ r,st.L r/\(g.rw r).ownBlock=some b)\/(g.sh=false/\g.D b)
theorem gS.all_lt(hM:gS E g st w){b:Nat}(hb:g.all st b):b < w.heap.size:=by
 rcases hb with hb | ⟨r,hL,hb⟩ | ⟨_,hb⟩
 ·exact (hM.F b hb).1
 ·exact hM.row_lt hL hb
 ·exact zWK (hM.dep b hb).2.1 hM.sizes
theorem Zr{α:Type}{x:A}{k:T->MA α}{y:α}{v:Value}(hM:gS E g st w)(hv:VR w g st.O st.R x v)(h:(x.peekT k).run st=some (y,st')):∃ t,(k t).run st=some (y,st')/\Rd w (g.all st) t v:=by
 cases hv with
 | t x v h1=>exact ⟨x,h,h1.mono (λ_ _=>rfl) (λ_ h=>.inl h)⟩
 | ext s x v hs h1 =>
  cases s with
  | true=>simp [A.peekT,MA.run] at h
  | false=>exact ⟨x,h,h1.rd (hM.now hs) (λ_ h=>.inr (.inr ⟨hs,h⟩))⟩
 | nil=>exact ⟨_,h,.sl0 _ _ _ (by first | assumption | exact λ_=>rfl | (intro h; cases h))⟩
 | own r hr =>
  simp only [A.peekT,MA.run] at h
  cases hx:st.rw r with
  | none=>simp [hx,MA.run] at h
  | some x =>
   cases x with
   | live e sz rows =>
    simp only [hx] at h;exact ⟨_,h,(hM.row r _ hx).rd _ (λ_ h=>.inl h) (λb hb=>.inr (.inl ⟨r,⟨e,sz,rows,hx⟩,hb⟩))⟩
   | frz sz rows =>
    simp only [hx] at h;exact ⟨_,h,Rd.mono (hM.row r _ hx) (λ_ _=>rfl) (λ_ h=>.inl h)⟩
   | gone=>simp [hx,MA.run] at h
 | _=>simp [A.peekT,MA.run] at h
theorem Vw{α:Type}:∀ {l:List A} {k:List T->MA α} {y:α} {vs:List Value},gS E g st w->vs.length=l.length->(∀ (j:Nat) (x:A),l[j]?=some x->∃ u,vs[j]?=some u/\VR w g st.O st.R x u)->(Oj l k).run st=some (y,st') ->
  ∃ ts,(k ts).run st=some (y,st')/\ZU w (g.all st) (ts.map .t) vs []
 | [],k,y,vs,hM,hl,hv,h=>by
  have:vs=[]:=zQW hl;subst this;exact ⟨[],h,.nil⟩
 | x :: l,k,y,vs,hM,hl,hv,h=>by
  obtain ⟨v,vs,rfl⟩:∃ v vs',vs=v :: vs':=by
   cases vs with
   | nil=>simp at hl
   | cons v vs=>exact ⟨v,vs,rfl⟩
  obtain ⟨u,hu,hx⟩:=hv 0 x rfl;simp at hu;subst hu;obtain ⟨t,h1,hr⟩:=Zr hM hx h;obtain ⟨ts,h2,hc⟩:=Vw hM wz5 (λj y hy=>by
   obtain ⟨u,hu,hx⟩:=hv (j+1) y qeb;exact ⟨u,by simpa using hu,hx⟩) h1
  exact ⟨t :: ts,h2,.cons _ _ [] _ _ [] (.t _ _ hr) hc⟩
mutual
theorem qen{α:Type}:∀ (x:A) {k:V->MA α} {y:α} {v:Value},gS E g st w->VR w g st.O st.R x v->(kL x k).run st=some (y,st')->∃ c,(k c).run st=some (y,st')/\VV w (g.all st) c v []:=by
 intro x k y v hM hv h;unfold kL at h
 split at h
 ·rename_i l
  cases hv with
  | agg l vs hl hx =>
   obtain ⟨ts,h1,hc⟩:=Vw hM hl.symm (λj x hj=>⟨_,sX (by rw [<- hl]; exact (aab.1 hj).1),hx j x _ hj (sX (by rw [<- hl]; exact (aab.1 hj).1))⟩) h;exact ⟨_,h1,.agg _ vs [] hc⟩
 ·rename_i ts
  cases hv with
  | fadr cells b off u hF hx hr=>exact ⟨_,h,.fptr ts b off u (.inl hF) hx (λj x hj=>(hr j x hj).mono (λ_ _=>rfl) (λ_ h=>.inl h))⟩
 ·rename_i f caps
  cases hv with
  | clo f caps vs hl hx =>
   obtain ⟨cs,h1,hc⟩:=Br caps hM hl.symm (λj x hj=>⟨_,sX (by rw [<- hl]; exact (aab.1 hj).1),hx j x _ hj (sX (by rw [<- hl]; exact (aab.1 hj).1))⟩) h;exact ⟨_,h1,.clo f cs vs [] hc⟩
 ·obtain ⟨t,h1,hr⟩:=Zr hM hv h;exact ⟨_,h1,.one _ v [] (.t _ _ hr)⟩
theorem Br{α:Type}:∀ (l:List A) {k:List V->MA α} {y:α} {vs:List Value},gS E g st w->vs.length=l.length->(∀ (j:Nat) (x:A),l[j]?=some x->∃ u,vs[j]?=some u/\VR w g st.O st.R x u)->(gL l k).run st=some (y,st')->∃ cs,(k cs).run st=some (y,st')/\LC w (g.all st) cs vs []
 | [],k,y,vs,hM,hl,hv,h=>by
  have:vs=[]:=zQW hl;subst this;unfold gL at h;exact ⟨[],h,.nil⟩
 | x :: l,k,y,vs,hM,hl,hv,h=>by
  obtain ⟨v,vs,rfl⟩:∃ v vs',vs=v :: vs':=by
   cases vs with
   | nil=>simp at hl
   | cons v vs=>exact ⟨v,vs,rfl⟩
  obtain ⟨u,hu,hx⟩:=hv 0 x rfl;simp at hu;subst hu;unfold gL at h;obtain ⟨c,h1,hc⟩:=qen x hM hx h;obtain ⟨cs,h2,hcs⟩:=Br l hM wz5 (λj y hy=>by
   obtain ⟨u,hu,hx⟩:=hv (j+1) y qeb;exact ⟨u,by simpa using hu,hx⟩) h1
  exact ⟨c :: cs,h2,.cons _ _ [] _ _ [] hc hcs⟩
end
theorem Rd.sc{F F':Nat->Prop}{x:T}{v:Value}(h:Rd w F x v)(hx:x.sc=true):Rd w F' x v:=by
 cases h with
 | int k n=>exact .int k n
 | bool b=>exact .bool b
 | str s=>exact .str s
 | nilf=>exact .nilf
 | hdr a n c=>exact .hdr a n c
 | sl0 | sl=>cases hx
theorem CV.plain{F F':Nat->Prop}{c:C}{v:Value}{bs:List Nat}(h:CV w F c v bs)(hc:c.plain):CV w F' c v bs:=by
 cases h with
 | t x v h=>exact .t x v (h.sc hc)
 | nil=>exact .nil
 | ow e sz rows v inner ho hr =>
  exact .ow e sz rows v inner ho ⟨hr.size,hr.len,λi row j x hi hj=>by
   obtain ⟨u,hu,h1,h2⟩:=hr.rd i row j x hi hj;exact ⟨u,hu,h1,h2.sc (hc row (zQX hi) x (zQX hj))⟩⟩
theorem ZU.plain{F F':Nat->Prop}{cs:List C}{vs:List Value}{bs:List Nat}(h:ZU w F cs vs bs)(hc:∀ c∈cs,c.plain):ZU w F' cs vs bs:=by
 induction h with
 | nil=>exact .nil
 | cons c v b cs vs bs h hs ih=>exact .cons c v b cs vs bs (h.plain (hc c jC)) (ih (λc h=>hc c qcp))
mutual
theorem VV.plain{F F':Nat->Prop}:∀ {x:V} {v:Value} {bs:List Nat},VV w F x v bs->x.plain->VV w F' x v bs
 | _,_,_,.one c v bs h,hp=>.one c v bs (h.plain qhs)
 | _,_,_,.agg l vs bs h,hp=>.agg l vs bs (h.plain qhs)
 | _,_,_,.tup l vs bs h,hp=>.tup l vs bs (h.plain qhs)
 | _,_,_,.ptr cells b arr e vs bs h1 h2 h3 h,hp=>by unfold V.plain at hp; exact hp.elim
 | _,_,_,.fptr cells b off u h1 h2 h3,hp=>by unfold V.plain at hp; exact hp.elim
 | _,_,_,.clo f caps vs bs h,hp=>by unfold V.plain at hp; exact hp.elim
theorem LC.plain{F F':Nat->Prop}:∀ {l:List V} {vs:List Value} {bs:List Nat},LC w F l vs bs->As l->LC w F' l vs bs
 | _,_,_,.nil,hp=>.nil
 | _,_,_,.cons x v b l vs bs h hs,hp=>.cons x v b l vs bs (h.plain (by unfold As at hp; exact hp.1)) (hs.plain (by unfold As at hp; exact hp.2))
end
theorem qbs{n d f:Nat}{o:Oper}{xf:Operand}{args:Array Operand}{ts:Array TypeId}{caps sr:List A}{vs:List V}{res:V}{x:A}
  (hS:yV E g n st a w) (ho:o.op=.call { callee:=.value xf,args,argTypes:=ts }) (hf:st.eval xf=some (.clo f caps)) (qw:d4 (args.toList.map st.eval)=some sr)
  (hp:(gL (sr++caps) MA.ret).run st=some (vs,st)) (hc:aq P f vs res []) (hpl:res.plain) (hr:(V.toA d (lA d 0) res MA.ret).run st=some (x,st')) :
  Fk P o a w λv w'=>∃ g',D2 E g st w x st' v g' w':=by
 have hM:=hS.mem;obtain ⟨hcl,hcc⟩:=hc;have hvf:=cj hS hf;generalize hvv:a.eval xf=vf at hvf
 cases hvf with
 | clo f caps vcaps hl hx =>
  refine nF ho hvv hcl ?_;obtain ⟨ha1,ha2⟩:=Ic hS qw;obtain ⟨cs,h1,hVV⟩:=Br (vs:=args.toList.map a.eval++vcaps) (sr++caps) hM qgh (λj y hj=>by
   rw [zWw] at hj
   split at hj
   ·rename_i hlt;have hlt':j < (args.toList.map a.eval).length:=by rw [<- ha1]; exact hlt
    exact ⟨_,by rw [zQZ hlt']; exact sX hlt',ha2 j y _ hj (sX hlt')⟩
   ·rename_i hge;have hlt:j - sr.length < vcaps.length:=by rw [<- hl]; exact (aab.1 hj).1
    exact ⟨_,by rw [zQY qfd,<- ha1]; exact sX hlt,hx _ y _ hj (sX hlt)⟩) hp
  obtain ⟨rfl,_⟩:=jB h1;refine (hcc w (g.all st) _ [] (λb hb=>?_) hVV List.nodup_nil jC (hM.tbW λb _ _ _ h=>by cases h)).mono λe w' ⟨v,F',bv,bo,he,hcalm,hsame,hFF,hF',hvr,hO,hnd,hex⟩=>⟨v,he,?_⟩
  ·exact hM.all_lt hb
  obtain ⟨hM2,hE2⟩:=hM.grow hcalm (λb hb=>hsame b hb jC);have hbv:∀ b∈bv,w.heap.size<=b:=λb hb=>((hex b (by simp [hb])).2).resolve_right jC;obtain ⟨x',st3,g3,hG,h7,hvx⟩:=D4 (w:=w') res hM2 (hvr.plain (F':=g.F) hpl) (List.nodup_append.1 hnd).1 (λb hb=>by
   obtain ⟨h8,h9,h10⟩:=Ar hM (hbv b hb);exact ⟨h8,h9,h10,.inl (zWV hM.sizes (hbv b hb))⟩) hr
  obtain ⟨rfl,rfl⟩:=jB h7;exact ⟨g3,hG.mem,hvx,hE2.trans hG.ext,hG.tm⟩
def yh(P:Program)(f:FuncId)(args:List V)(off:Nat)(outs:List (List C)):Prop :=
 wT P f/\∀ (w:World) (F:Nat->Prop) (vs:List Value) (bs:List Nat),(∀ b,F b->b < w.heap.size)->LC w F args vs bs->bs.Nodup->(∀ b∈bs,¬ F b)->TbW P w (λb=>b∈bs) ->
  Calls P f vs.toArray w λe w'=>∃ v F' bo b0,e=.returned v/\vs.head?=some (.pointer (some ⟨b0,0,none⟩))/\v=.pointer (some ⟨b0,off,none⟩)/\vF w w'/\(∀ b,b < w.heap.size->b∉bs->w'.heap[b]?=w.heap[b]?)/\(∀ b,F b->F' b) /\
   (∀ b,F' b->b < w'.heap.size/\(b < w.heap.size->F b\/b∈bs)/\(F b\/Wr w' b))/\wa w' F' args vs outs bo/\bo.Nodup/\∀ b∈bo,¬ F' b/\(w.heap.size<=b\/b∈bs)
theorem qbt{n d f:Nat}{m:Bool}{p:Nat->Bool}{o:Oper}{xf:Operand}{args:Array Operand}{ts:Array TypeId}{caps sr:List A}{vs:List V}{st1:St}{outs:List (List C)}{x:A}{s off:Nat}
  (hS:yV E g n st a w) (ho:o.op=.call { callee:=.value xf,args,argTypes:=ts }) (hf:st.eval xf=some (.clo f caps)) (qw:d4 (args.toList.map st.eval)=some sr)
  (hp:(oZ m p (sr++caps) MA.ret).run st=some (vs,st1)) (hc:yh P f vs off outs) (hhd:(sr++caps).head?=some (.obj s 0)) (hr:(gq d (gp (sr++caps)) outs (MA.ret (.obj s off))).run st1=some (x,st')) :
  Fk P o a w λv w'=>∃ g',D2 E g st w x st' v g' w':=by
 have hM:=hS.mem;obtain ⟨hcl,hcc⟩:=hc;have hvf:=cj hS hf;generalize hvv:a.eval xf=vf at hvf
 cases hvf with
 | clo f caps vcaps hl hx =>
  refine nF ho hvv hcl ?_;obtain ⟨ha1,ha2⟩:=Ic hS qw;have hus:∀ (j:Nat) (y:A),(sr++caps)[j]?=some y->∃ v,(args.toList.map a.eval++vcaps)[j]?=some v/\VR w g st.O st.R y v:=by
   intro j y hj;rw [zWw] at hj
   split at hj
   ·rename_i hlt;have hlt':j < (args.toList.map a.eval).length:=by rw [<- ha1]; exact hlt
    exact ⟨_,by rw [zQZ hlt']; exact sX hlt',ha2 j y _ hj (sX hlt')⟩
   ·rename_i hge;have hlt:j - sr.length < vcaps.length:=by rw [<- hl]; exact (aab.1 hj).1
    exact ⟨_,by rw [zQY qfd,<- ha1]; exact sX hlt,hx _ y _ hj (sX hlt)⟩
  obtain ⟨cs,st1',g1,bs,hM1,hE1,hL1,h1,hVV,hT,hA,hsl⟩:=D3 (vs:=args.toList.map a.eval++vcaps) (sr++caps) hM qgh hus hp;obtain ⟨rfl,rfl⟩:=jB h1;have hbsX:∀ b∈bs,b < E.w0.heap.size->E.X b:=λb hb hlt=>by
   rcases hT.of b hb with ⟨r,h2,_,h4⟩ | ⟨s,⟨c,cs,h2⟩,_,h4⟩
   ·rcases (hM.row_nf h2 h4).2 with h5 | h5
    ·omega
    ·exact h5
   ·rcases (hM.ob_nf (s:=s) wz9).2 with h5 | h5
    ·omega
    ·exact h4 ▸ h5
  refine (hcc w g1.F _ bs (λb hb=>(hM1.F b hb).1) hVV hT.nodup hT.nf (hM.tbW λb h1 h2 _ h3=>h2 (hbsX b h3 h1))).mono λe w' ⟨v,F',bo,b0,he,hhead,hveq,hcalm,hsame,hFF,hF',hO,hnd0,hex0⟩=>⟨v,he,?_⟩;obtain ⟨bv,hbv⟩:∃ bv:List Nat,bv=[]:=⟨[],rfl⟩;have hnd:(bv++bo).Nodup:=by rw [hbv]; exact hnd0
  have hex:∀ b∈bv++bo,¬ F' b/\(w.heap.size<=b\/b∈bs):=by rw [hbv]; exact hex0
  -- the caller's memory behind the call
  have hbsrow:∀ b∈bs,∀ r,st1.L r->(g1.rw r).ownBlock≠some b:=λb hb r hr he=>by
   rw [hL1.rw] at he;rcases hT.of b hb with ⟨r',h2,h3,h4⟩ | ⟨s,⟨c,cs,h2⟩,_,h4⟩
   ·exact h3 (hM.rowne r r' b (hL1.L r hr) h2 he h4 ▸ hr)
   ·exact hM.rowob r s (hL1.L r hr) wz9 (h4 ▸ he)
  have hbsob:∀ b∈bs,∀ s,st1.O s->g1.ob s=b->st1.ob s=some []/\s∈gp (sr++caps):=λb hb s hs he=>by
   rw [hL1.ob] at he;have hs':st.O s:=(hL1.O s).1 hs;rcases hT.of b hb with ⟨r',h2,h3,h4⟩ | ⟨s',⟨c,cs,h2⟩,h3,h4⟩
   ·exact absurd (he ▸ h4) (hM.rowob r' s h2 hs')
   ·have:=hM.obne s s' hs' wz9 (he.trans h4.symm);subst this;exact ⟨h3,hsl s (by rw [h3,h2]; simp)⟩
  have hF0:∀ b,b < w.heap.size->F' b->g1.F b\/b∈bs:=λb h2 h3=>(hF' b h3).2.1 h2;have hA1:wU g1 (sr++caps) vs (args.toList.map a.eval++vcaps):=hA.congr' hL1.ob;have hexF:∀ b∈bs,F' b->False\/True:=λ_ _ _=>.inr trivial;have hlentF:∀ s,s∈gp (sr++caps)->g1.ob s∈bo:=wa.mem hA1 hO;obtain ⟨hM2,hE2⟩:=hM1.step (w':=w') (g':={ g1 with F:=F' }) (st':=st1) hcalm (λb=>b∈bs) (λb h2 h3=>hsame b h2 h3) (λb hb=>hT.nf b hb) (λb h2 h3=>hbsX b h3 h2) hFF
   (λb h2 h3=>⟨(hF' b h2).1,λhlt=>(hF0 b (zWK hlt hM1.sizes) h2).elim (λh4=>absurd h4 h3) (λh4=>.inr (hbsX b h4 hlt)),.inr ((hF' b h2).2.2.resolve_left h3)⟩) (λ_ h=>⟨h,rfl⟩) (λ_ h=>⟨h,rfl⟩)
   (λs cells hs=>by
    have hOs:st1.O s:=by simp [St.O,hs]
    by_cases hb:g1.ob s∈bs
    ·obtain ⟨h5,h6⟩:=hbsob _ hb s hOs rfl;rw [hs] at h5
     cases h5
     obtain ⟨arr,e,hh⟩:=QW hA1 hO s h6;refine .inr ⟨arr,e,hh,by simp,by simp,?_,(hM1.ob_nf hOs).2⟩;exact (hex _ (aad.2 (.inr (hlentF s h6)))).1
    ·refine .inl ⟨hs,hb,λhf=>?_⟩;rcases hF0 _ (hM1.ob_lt hOs) hf with h5 | h5
     ·exact (hM1.ob_nf hOs).1 h5
     ·exact hb h5) hM1.obne
   (λr x hr=>.inl ⟨hr,λhL b hb=>⟨λhm=>hbsrow b hm r hL hb,λhf=>by
    rcases hF0 b (hM1.row_lt hL hb) hf with h5 | h5
    ·exact (hM1.row_nf hL hb).1 h5
    ·exact hbsrow b h5 r hL hb⟩⟩) hM1.rowne hM1.rowob
  have hI:Inv E { g1 with F:=F' } st1 (gp (sr++caps)) (bo++bv):=by
   have hm:∀ x,x∈bo++bv->x∈bv++bo:=λx hx=>by
    rcases aad.1 hx with h | h <;> simp [h]
   refine ⟨?_,λb hb=>(hex b (hm b hb)).1,λb hb=>?_,λb hb r hr he=>?_,λb hb s hs he=>?_⟩
   ·rw [zXk] at hnd ⊢;exact ⟨hnd.2.1,hnd.1,λx hx y hy h=>hnd.2.2 y hy x hx h.symm⟩
   ·rcases (hex b (hm b hb)).2 with h5 | h5
    ·exact .inl (zWV hM1.sizes h5)
    ·by_cases hlt:b < E.w0.heap.size
     ·exact .inr (hbsX b h5 hlt)
     ·exact .inl aD
   ·rcases (hex b (hm b hb)).2 with h5 | h5
    ·exact absurd (hM1.row_lt hr he) aD
    ·exact hbsrow b h5 r hr he
   ·rcases (hex b (hm b hb)).2 with h5 | h5
    ·exact absurd (hM1.ob_lt hs) qhr
    ·exact (hbsob b h5 s hs he).2
  have hA2:wU { g1 with F:=F' } (sr++caps) vs (args.toList.map a.eval++vcaps):=hA1.congr' (g:=g1) (g1:={ g1 with F:=F' }) rfl;obtain ⟨st2,g2,hM3,hE3,hF3,ht3,h6,hI3⟩:=At (w:=w') hM2 hA2 hO hI hr;obtain ⟨rfl,rfl⟩:=jB h6;have hext:=(hE1.trans hE2).trans hE3;have hobj:st.O s/\(args.toList.map a.eval++vcaps)[0]?=some (.pointer (some ⟨g.ob s,0,none⟩)):=by
   obtain ⟨u,hu1,hu2⟩:=hus 0 (.obj s 0) (by rw [<- zZv]; exact hhd)
   cases hu2 with
   | obj _ _ hs=>exact ⟨hs,hu1⟩
  have hb0:g.ob s=b0:=by
   rw [zZv,hobj.2] at hhead;injection hhead with h; injection h with h; injection h with h; injection h
  obtain ⟨hO2,hob2⟩:=hext.O s hobj.1;refine ⟨g2,hM3,?_,hext,ht3.trans hL1.tm⟩;rw [hveq,<- hb0,<- hob2];exact .obj s off hO2
def DOK(P:Program)(f:FuncId)(args:List V)(res:V):Prop :=
 wT P f/\∀ (w:World) (D:Nat->Prop) (vs:List Value),(∀ b,D b->b < w.heap.size)->LC w D args vs []->TbW P w (λ_=>False) ->
  Calls P f vs.toArray w λe w'=>∃ v F' bv,e=.returned v/\vF w w'/\(∀ b,b < w.heap.size->w'.heap[b]?=w.heap[b]?) /\
   (∀ b,F' b->b < w'.heap.size/\w.heap.size<=b/\Wr w' b)/\VV w' F' res v bv/\bv.Nodup/\∀ b∈bv,¬ F' b/\w.heap.size<=b
theorem qbu{n d f:Nat}{o:Oper}{xf:Operand}{args:Array Operand}{ts:Array TypeId}{caps sr:List A}{vs:List V}{res:V}{x:A}
  (hS:yV E g n st a w) (ho:o.op=.call { callee:=.value xf,args,argTypes:=ts }) (hf:st.eval xf=some (.clo f caps)) (qw:d4 (args.toList.map st.eval)=some sr)
  (hp:(gL (sr++caps) MA.ret).run st=some (vs,st)) (hc:DOK P f vs res) (hr:(V.toA d (lA d 0) res MA.ret).run st=some (x,st')) :
  Fk P o a w λv w'=>∃ g',D2 E g st w x st' v g' w':=by
 have hM:=hS.mem;obtain ⟨hcl,hcc⟩:=hc;have hvf:=cj hS hf;generalize hvv:a.eval xf=vf at hvf
 cases hvf with
 | clo f caps vcaps hl hx =>
  refine nF ho hvv hcl ?_;obtain ⟨ha1,ha2⟩:=Ic hS qw;obtain ⟨cs,h1,hVV⟩:=Br (vs:=args.toList.map a.eval++vcaps) (sr++caps) hM qgh (λj y hj=>by
   rw [zWw] at hj
   split at hj
   ·rename_i hlt;have hlt':j < (args.toList.map a.eval).length:=by rw [<- ha1]; exact hlt
    exact ⟨_,by rw [zQZ hlt']; exact sX hlt',ha2 j y _ hj (sX hlt')⟩
   ·rename_i hge;have hlt:j - sr.length < vcaps.length:=by rw [<- hl]; exact (aab.1 hj).1
    exact ⟨_,by rw [zQY qfd,<- ha1]; exact sX hlt,hx _ y _ hj (sX hlt)⟩) hp
  obtain ⟨rfl,_⟩:=jB h1;refine (hcc w (g.all st) _ (λb hb=>hM.all_lt hb) hVV (hM.tbW λ_ _ _ _ h=>h)).mono λe w' ⟨v,F',bv,he,hcalm,hsame,hF',hvr,hnd,hex⟩=>⟨v,he,?_⟩;obtain ⟨hM2,hE2⟩:=hM.step (w':=w') (g':={ g with F:=λb=>g.F b\/F' b }) (st':=st) hcalm (λ_=>False) (λb h1 _=>hsame b h1) (λ_ h=>h.elim) (λ_ _ h=>h.elim) (λ_ h=>.inl h)
   (λb h1 h2=>by
    obtain ⟨h3,h4,h5⟩:=hF' b (h1.resolve_left h2);exact ⟨h3,λhlt=>(by have:=hM.sizes; omega),.inr h5⟩) (λ_ h=>⟨h,rfl⟩) (λ_ h=>⟨h,rfl⟩)
   (λs cells hs=>.inl ⟨hs,id,λhf=>by
    have hs':st.O s:=by simp [St.O,hs]
    rcases hf with hf | hf
    ·exact (hM.ob_nf hs').1 hf
    ·have:=hM.ob_lt hs'; have:=(hF' _ hf).2.1; omega⟩) hM.obne
   (λr x hr=>.inl ⟨hr,λhL b hb'=>⟨id,λhf=>by
    rcases hf with hf | hf
    ·exact (hM.row_nf hL hb').1 hf
    ·have:=hM.row_lt hL hb'; have:=(hF' _ hf).2.1; omega⟩⟩) hM.rowne hM.rowob
  obtain ⟨x',st3,g3,hG,h7,hvx⟩:=D4 (w:=w') res hM2 (hvr.mono (λ_ _=>rfl) (λ_ h=>.inr h) (λ_ _=>rfl)) hnd (λb hb=>by
   obtain ⟨h8,h9,h10⟩:=Ar hM (hex b hb).2;exact ⟨λh=>h.elim h8 (hex b hb).1,h9,h10,.inl (zWV hM.sizes (hex b hb).2)⟩) hr
  obtain ⟨rfl,rfl⟩:=jB h7;exact ⟨g3,hG.mem,hvx,hE2.trans hG.ext,hG.tm⟩
def noP:Nat->Prop:=λ_=>False
def gM(w:World)(D:Nat->Prop):Gh:={ F:=noP,ob:=λ_=>0,rw:=λ_=>.nilFunc,D:=D,dw:=w,sh:=true }
def A.mk1:A->Bool
 | .t x=>x.sc
 | .ext true _=>true
 | .undef=>true
 | _=>false
def A.mk:A->Bool
 | .agg l=>l.all A.mk1
 | a=>a.mk1
def A.isX:A->Bool
 | .ext true _=>true
 | _=>false
def A.hasX:A->Bool
 | .agg l=>l.any A.isX
 | a=>a.isX
def MOK(P:Program)(f:FuncId)(sr:List A)(n:T):Prop :=
 n.sc=true/\wT P f/\∀ (w:World) (D:Nat->Prop) (vs:List Value),(∀ b,D b->b < w.heap.size/\Wr w b)->vs.length=sr.length ->
  (∀ (j:Nat) (x:A),sr[j]?=some x->∃ u,vs[j]?=some u/\VR w (gM w D) noP noP x u)->TbW P w D ->
  Calls P f vs.toArray w λe w'=>∃ v,e=.returned v/\Rd w' noP n v/\vF w w'/\(∀ b,b < w.heap.size->¬ D b->w'.heap[b]?=w.heap[b]?)/\∀ b,D b->KS w w' b
theorem qfn{O R:Nat->Prop}{x:A}{v:Value}(hM:gS E g st w)(hs:g.sh=true)(h:VR w g O R x v)(hk:x.mk1=true):VR w (gM w g.D) noP noP x v:=by
 cases h with
 | t x v h=>exact .t x v (h.sc hk)
 | ext s x v hs' h =>
  rw [hs] at hs';subst hs';exact .ext true x v rfl (h.ks λb hb=>hM.nowK hs hb)
 | undef v=>exact .undef v
 | _=>simp [A.mk1] at hk
theorem qh7{O R:Nat->Prop}{x:A}{v:Value}(hM:gS E g st w)(hs:g.sh=true)(h:VR w g O R x v)(hk:x.mk=true):VR w (gM w g.D) noP noP x v:=by
 cases x with
 | agg l =>
  cases h with
  | agg l vs hl h=>exact .agg l vs hl λi x v hi hv=>qfn hM hs (h i x v hi hv) (aaf.1 hk x (zQX hi))
 | _=>exact qfn hM hs h hk
theorem qgx{O R:Nat->Prop}{x:A}{v:Value}(h:VR w g O R x v)(hk:x.hasX=true):g.sh=true:=by
 have key:∀ {x:A} {v:Value},VR w g O R x v->x.isX=true->g.sh=true:=by
  intro x v h hk
  cases h with
  | ext s x v hs' h=>cases s with
   | true=>exact hs'
   | false=>cases hk
  | _=>cases hk
 cases x with
 | agg l =>
  cases h with
  | agg l vs hl h =>
   obtain ⟨x,hx,hk⟩:=List.any_eq_true.1 hk;obtain ⟨i,hi⟩:=zYK hx;have hlt:i < vs.length:=by rw [<- hl]; exact (aab.1 hi).1
   exact key (h i x _ hi (sX hlt)) hk
 | _=>exact key h hk
theorem qbv{n f:Nat}{o:Oper}{xf:Operand}{args:Array Operand}{ts:Array TypeId}{sr:List A}{r:T}
  (hS:yV E g n st a w) (ho:o.op=.call { callee:=.value xf,args,argTypes:=ts }) (hf:st.eval xf=some (.clo f [])) (qw:d4 (args.toList.map st.eval)=some sr)
  (hk:sr.all A.mk=true) (hx:sr.any A.hasX=true) (hc:MOK P f sr r):Fk P o a w λv w'=>∃ g',D2 E g st w (.t r) st v g' w':=by
 have hM:=hS.mem;obtain ⟨hsc,hcl,hcc⟩:=hc;have hvf:=cj hS hf;generalize hvv:a.eval xf=vf at hvf;obtain ⟨ha1,ha2⟩:=Ic hS qw;have hsh:g.sh=true:=by
  obtain ⟨x,hxm,hxx⟩:=List.any_eq_true.1 hx;obtain ⟨i,hi⟩:=zYK hxm;have hlt:i < (args.toList.map a.eval).length:=by rw [<- ha1]; exact (aab.1 hi).1
  exact qgx (ha2 i x _ hi (sX hlt)) hxx
 cases hvf with
 | clo f caps vcaps hl hx' =>
  have:vcaps=[]:=zQW hl.symm;subst this;refine nF ho hvv hcl ?_;rw [zWY];refine (hcc w g.D (args.toList.map a.eval) (λb hb=>?_) ha1.symm (λj x hj=>?_) (hM.tbW λb _ _ h h2=>h (by obtain ⟨h5,_,h6⟩:=hM.dep0.1; exact ⟨h6 ▸ hsh,h5 ▸ h2⟩))).mono λe w' ⟨v,he,hr,hcalm,hsame,hks⟩=>⟨v,he,?_⟩
  ·exact ⟨zWK (hM.dep b hb).2.1 hM.sizes,(hM.nowK hsh hb).wr⟩
  ·have hlt:j < (args.toList.map a.eval).length:=by rw [<- ha1]; exact (aab.1 hj).1
   exact ⟨_,sX hlt,qh7 hM hsh (ha2 j x _ hj (sX hlt)) (aaf.1 hk x (zQX hj))⟩
  obtain ⟨hM2,hE2⟩:=hM.stepD hsh hcalm hsame hks;exact ⟨g,hM2,.t _ _ (hr.sc hsc),hE2,rfl⟩
def ROK(P:Program)(f:FuncId)(e sz:Nat)(rows:List (List T))(args:List V)(res:T)(rows':List (List T)):Prop :=
 res.sc=true/\wT P f/\∀ (w:World) (F:Nat->Prop) (v:Value) (vs:List Value) (inner:List Value),(∀ b,F b->b < w.heap.size)->w.ownsRow 0 e sz v rows.length inner->Cx w F sz rows inner ->
  (∀ b,v.ownBlock=some b->¬ F b)->LC w F args vs []->TbW P w (λb=>v.ownBlock=some b) ->
  Calls P f (v :: vs).toArray w λex w'=>∃ u inner',ex=.returned u/\Rd w' noP res u/\vF w w'/\(∀ b,b < w.heap.size->v.ownBlock≠some b->w'.heap[b]?=w.heap[b]?) /\
   w'.ownsRow 0 e sz v rows'.length inner'/\Cx w' F sz rows' inner'
theorem qbw{n f r e sz:Nat}{rows rows':List (List T)}{o:Oper}{xf:Operand}{args:Array Operand}{ts:Array TypeId}{sr:List A}{vs:List V}{res:T}
  (hS:yV E g n st a w) (ho:o.op=.call { callee:=.value xf,args,argTypes:=ts }) (hf:st.eval xf=some (.clo f [])) (qw:d4 (args.toList.map st.eval)=some (.own r :: sr))
  (hrw:st.rw r=some (.live e sz rows)) (hp:(gL sr MA.ret).run st=some (vs,st)) (hpl:As vs) (hc:ROK P f e sz rows vs res rows') :
  Fk P o a w λv w'=>∃ g',D2 E g st w (.t res) { st with rw:=jL st.rw r (some (.live e sz rows')) } v g' w':=by
 have hM:=hS.mem;obtain ⟨hsc,hcl,hcc⟩:=hc;have hvf:=cj hS hf;generalize hvv:a.eval xf=vf at hvf;obtain ⟨ha1,ha2⟩:=Ic hS qw;have hL:st.L r:=⟨e,sz,rows,hrw⟩
 cases hvf with
 | clo f caps vcaps hl hx' =>
  have:vcaps=[]:=zQW hl.symm;subst this;refine nF ho hvv hcl ?_;rw [zWY];generalize args.toList.map a.eval=us at ha1 ha2
  match us,ha1 with
  | u0 :: us,ha1 =>
   have h0:=ha2 0 (.own r) u0 rfl rfl
   cases h0 with
   | own _ hR =>
   obtain ⟨cs,h1,hVV⟩:=Br (vs:=us) sr hM (by simpa using ha1.symm) (λj y hj=>by
    have hlt:j < us.length:=by
     have:=(aab.1 hj).1;simp at ha1; omega
    exact ⟨_,sX hlt,ha2 (j+1) y _ wz8 jC⟩) hp
   obtain ⟨rfl,_⟩:=jB h1;obtain ⟨inner,hown,hRC,_⟩:=(hM.row r _ hrw).rcs;refine (hcc w g.F (g.rw r) us inner (λb hb=>(hM.F b hb).1) hown hRC (λb hb=>(hM.row_nf hL hb).1) (hVV.plain hpl) (hM.tbW λb h1 h2 _ h3=>(hM.row_nf hL h3).2.elim (λh=>absurd h1 (Nat.not_lt.2 h)) h2)).mono λex w' ⟨u,inner',he,hu,hcalm,hsame,hown',hRC'⟩=>⟨u,he,?_⟩;obtain ⟨hM2,hE2⟩:=hM.set_row hcalm r _ e sz rows' hrw hL hsame (hRC'.rowAt (E:=E) (g:=g) hown' (λb hb=>hM.row_nf hL hb));exact ⟨g,hM2,.t _ _ (hu.sc hsc),hE2,rfl⟩
end
section
variable {P:Program} {E:En} [Tb P E] {g:Gh} {st st':St} {a:Act} {w:World}
def XOK(P:Program)(f:FuncId)(args xs:List V)(res:V)(outs:List (List C)):Prop :=
 wT P f/\∀ (w:World) (F D:Nat->Prop) (vs us:List Value) (bs:List Nat),(∀ b,F b->b < w.heap.size)->(∀ b,D b->b < w.heap.size/\b∉bs)->LC w F args vs bs->LC w D xs us []->bs.Nodup->(∀ b∈bs,¬ F b)->TbW P w (λb=>b∈bs) ->
  Calls P f (vs++us).toArray w λe w'=>∃ v F' bv bo,e=.returned v/\vF w w'/\(∀ b,b < w.heap.size->b∉bs->w'.heap[b]?=w.heap[b]?)/\(∀ b,F b->F' b) /\
   (∀ b,F' b->b < w'.heap.size/\(b < w.heap.size->F b\/b∈bs)/\(F b\/Wr w' b))/\VV w' F' res v bv/\wa w' F' args vs outs bo/\(bv++bo).Nodup/\∀ b∈bv++bo,¬ F' b/\(w.heap.size<=b\/b∈bs)
theorem qbx{n d f:Nat}{m:Bool}{p:Nat->Bool}{o:Oper}{xf:Operand}{args:Array Operand}{ts:Array TypeId}{az caps sr xs:List A}{vs us:List V}{st1:St}{res:V}{outs:List (List C)}{x:A}
  (hS:yV E g n st a w) (ho:o.op=.call { callee:=.value xf,args,argTypes:=ts }) (hf:st.eval xf=some (.clo f caps)) (qw:d4 (args.toList.map st.eval)=some az) (hcat:az++caps=sr++xs)
  (hp:(oZ m p sr MA.ret).run st=some (vs,st1)) (hq:(gL xs MA.ret).run st1=some (us,st1)) (hc:XOK P f vs us res outs) (hr:(gq d (gp sr) outs (V.toA d (lA d 0) res MA.ret)).run st1=some (x,st')) :
  Fk P o a w λv w'=>∃ g',D2 E g st w x st' v g' w':=by
 have hM:=hS.mem;obtain ⟨hcl,hcc⟩:=hc;have hvf:=cj hS hf;generalize hvv:a.eval xf=vf at hvf
 cases hvf with
 | clo f caps vcaps hl hx =>
  refine nF ho hvv hcl ?_;obtain ⟨ha1,ha2⟩:=Ic hS qw;generalize hval:args.toList.map a.eval++vcaps=vals;have hv:∀ (j:Nat) (y:A),(sr++xs)[j]?=some y->∃ u,vals[j]?=some u/\VR w g st.O st.R y u:=λj y hj=>by
   rw [<- hcat,zWw] at hj;rw [<- hval]
   split at hj
   ·rename_i hlt;have hlt':j < (args.toList.map a.eval).length:=by rw [<- ha1]; exact hlt
    exact ⟨_,by rw [zQZ hlt']; exact sX hlt',ha2 j y _ hj (sX hlt')⟩
   ·rename_i hge;have hlt:j - az.length < vcaps.length:=by rw [<- hl]; exact (aab.1 hj).1
    exact ⟨_,by rw [zQY qfd,<- ha1]; exact sX hlt,hx _ y _ hj (sX hlt)⟩
  have hvl:vals.length=sr.length+xs.length:=by
   rw [<- hval,zQh,<- ha1,<- hl,<- zQh,hcat,zQh]
  rw [<- List.take_append_drop sr.length vals];obtain ⟨cs,st1',g1,bs,hM1,hE1,hL1,h1,hVV,hT,hA,hsl⟩:=D3 (vs:=vals.take sr.length) sr hM (by simp [hvl]) (λj y hj=>by
   have hlt:j < sr.length:=(aab.1 hj).1;obtain ⟨u,h5,h6⟩:=hv j y (by rw [zQZ hlt]; exact hj);exact ⟨u,by rw [zQK,if_pos hlt]; exact h5,h6⟩) hp
  obtain ⟨rfl,rfl⟩:=jB h1;have hbsX:∀ b∈bs,b < E.w0.heap.size->E.X b:=λb hb hlt=>by
   rcases hT.of b hb with ⟨r,h2,_,h4⟩ | ⟨s,⟨c,cs,h2⟩,_,h4⟩
   ·rcases (hM.row_nf h2 h4).2 with h5 | h5
    ·omega
    ·exact h5
   ·rcases (hM.ob_nf (s:=s) wz9).2 with h5 | h5
    ·omega
    ·exact h4 ▸ h5
  have hbsrow:∀ b∈bs,∀ r,st1.L r->(g1.rw r).ownBlock≠some b:=λb hb r hr he=>by
   rw [hL1.rw] at he;rcases hT.of b hb with ⟨r',h2,h3,h4⟩ | ⟨s,⟨c,cs,h2⟩,_,h4⟩
   ·exact h3 (hM.rowne r r' b (hL1.L r hr) h2 he h4 ▸ hr)
   ·exact hM.rowob r s (hL1.L r hr) wz9 (h4 ▸ he)
  have hbsob:∀ b∈bs,∀ s,st1.O s->g1.ob s=b->st1.ob s=some []/\s∈gp sr:=λb hb s hs he=>by
   rw [hL1.ob] at he;have hs':st.O s:=(hL1.O s).1 hs;rcases hT.of b hb with ⟨r',h2,h3,h4⟩ | ⟨s',⟨c,cs,h2⟩,h3,h4⟩
   ·exact absurd (he ▸ h4) (hM.rowob r' s h2 hs')
   ·have:=hM.obne s s' hs' wz9 (he.trans h4.symm);subst this;exact ⟨h3,hsl s (by rw [h3,h2]; simp)⟩
  obtain ⟨us',h9,hUU⟩:=Br (vs:=vals.drop sr.length) xs hM1 (by simp [hvl]) (λj y hj=>by
   obtain ⟨u,h5,h6⟩:=hv (sr.length+j) y (by rw [zQY aD]; simpa using hj);exact ⟨u,by rw [zQJ]; exact h5,h6.mono hE1⟩) hq
  obtain ⟨rfl,_⟩:=jB h9;have hall:∀ b,g1.all st1 b->b < w.heap.size/\b∉bs:=λb hb=>⟨hM1.all_lt hb,λhbs=>by
   rcases hb with h5 | ⟨r,h5,h6⟩ | ⟨_,h5⟩
   ·exact hT.nf b hbs h5
   ·exact hbsrow b hbs r h5 h6
   ·obtain ⟨_,h6,h7,_⟩:=hM1.dep b h5;exact h7 (hbsX b hbs h6)⟩
  refine (hcc w g1.F (g1.all st1) _ _ bs (λb hb=>(hM1.F b hb).1) hall hVV hUU hT.nodup hT.nf (hM.tbW λb h1 h2 _ h3=>h2 (hbsX b h3 h1))).mono λe w' ⟨v,F',bv,bo,he,hcalm,hsame,hFF,hF',hvr,hO,hnd,hex⟩=>⟨v,he,?_⟩
  -- the caller's memory behind the call
  have hF0:∀ b,b < w.heap.size->F' b->g1.F b\/b∈bs:=λb h2 h3=>(hF' b h3).2.1 h2;have hA1:wU g1 sr vs (vals.take sr.length):=hA.congr' hL1.ob;have hexF:∀ b∈bs,F' b->False\/True:=λ_ _ _=>.inr trivial;have hlentF:∀ s,s∈gp sr->g1.ob s∈bo:=wa.mem hA1 hO;obtain ⟨hM2,hE2⟩:=hM1.step (w':=w') (g':={ g1 with F:=F' }) (st':=st1) hcalm (λb=>b∈bs) (λb h2 h3=>hsame b h2 h3) (λb hb=>hT.nf b hb) (λb h2 h3=>hbsX b h3 h2) hFF
   (λb h2 h3=>⟨(hF' b h2).1,λhlt=>(hF0 b (zWK hlt hM1.sizes) h2).elim (λh4=>absurd h4 h3) (λh4=>.inr (hbsX b h4 hlt)),.inr ((hF' b h2).2.2.resolve_left h3)⟩) (λ_ h=>⟨h,rfl⟩) (λ_ h=>⟨h,rfl⟩)
   (λs cells hs=>by
    have hOs:st1.O s:=by simp [St.O,hs]
    by_cases hb:g1.ob s∈bs
    ·obtain ⟨h5,h6⟩:=hbsob _ hb s hOs rfl;rw [hs] at h5
     cases h5
     obtain ⟨arr,e,hh⟩:=QW hA1 hO s h6;refine .inr ⟨arr,e,hh,by simp,by simp,?_,(hM1.ob_nf hOs).2⟩;exact (hex _ (aad.2 (.inr (hlentF s h6)))).1
    ·refine .inl ⟨hs,hb,λhf=>?_⟩;rcases hF0 _ (hM1.ob_lt hOs) hf with h5 | h5
     ·exact (hM1.ob_nf hOs).1 h5
     ·exact hb h5) hM1.obne
   (λr x hr=>.inl ⟨hr,λhL b hb=>⟨λhm=>hbsrow b hm r hL hb,λhf=>by
    rcases hF0 b (hM1.row_lt hL hb) hf with h5 | h5
    ·exact (hM1.row_nf hL hb).1 h5
    ·exact hbsrow b h5 r hL hb⟩⟩) hM1.rowne hM1.rowob
  have hI:Inv E { g1 with F:=F' } st1 (gp sr) (bo++bv):=by
   have hm:∀ x,x∈bo++bv->x∈bv++bo:=λx hx=>by
    rcases aad.1 hx with h | h <;> simp [h]
   refine ⟨?_,λb hb=>(hex b (hm b hb)).1,λb hb=>?_,λb hb r hr he=>?_,λb hb s hs he=>?_⟩
   ·rw [zXk] at hnd ⊢;exact ⟨hnd.2.1,hnd.1,λx hx y hy h=>hnd.2.2 y hy x hx h.symm⟩
   ·rcases (hex b (hm b hb)).2 with h5 | h5
    ·exact .inl (zWV hM1.sizes h5)
    ·by_cases hlt:b < E.w0.heap.size
     ·exact .inr (hbsX b h5 hlt)
     ·exact .inl aD
   ·rcases (hex b (hm b hb)).2 with h5 | h5
    ·exact absurd (hM1.row_lt hr he) aD
    ·exact hbsrow b h5 r hr he
   ·rcases (hex b (hm b hb)).2 with h5 | h5
    ·exact absurd (hM1.ob_lt hs) qhr
    ·exact (hbsob b h5 s hs he).2
  have hA2:wU { g1 with F:=F' } sr vs (vals.take sr.length):=hA1.congr' (g:=g1) (g1:={ g1 with F:=F' }) rfl;obtain ⟨st2,g2,hM3,hE3,hF3,ht3,h6,hI3⟩:=At (w:=w') hM2 hA2 hO hI hr;obtain ⟨x',st3,g3,hG,h7,hvx⟩:=D4 (w:=w') res hM3 (by rw [hF3]; exact hvr) hI3.nodup (λb hb=>⟨hI3.F b hb,λs hs he=>by have:=hI3.ob b hb s hs he; simp at this,hI3.row b hb,hI3.X b hb⟩) h6;obtain ⟨rfl,rfl⟩:=jB h7;exact ⟨g3,hG.mem,hvx,((hE1.trans hE2).trans hE3).trans hG.ext,hG.tm.trans (ht3.trans hL1.tm)⟩
end
def A.tC:A->Option C
 | .t x=>some (.t x)
 | _=>none
def Zs:List A->Option (List C)
 | []=>some []
 | a :: r=>match a.tC,Zs r with | some c,some cs=>some (c :: cs) | _,_=>none
def A.tV:A->Option V
 | .t x=>some (.one (.t x))
 | .agg l=>(Zs l).map .agg
 | _=>none
def LE:List A->Option (List V)
 | []=>some []
 | a :: r=>match a.tV,LE r with | some c,some cs=>some (c :: cs) | _,_=>none
section
variable {w:World} {g:Gh} {O R:Nat->Prop}
theorem qh8{a:A}{c:C}{u:Value}(h:a.tC=some c)(hv:VR w g O R a u):CV w g.F c u []:=by
 cases a <;> simp only [A.tC,Option.some.injEq,reduceCtorEq] at h
 subst h
 cases hv with
 | t _ _ h=>exact .t _ _ h
theorem qfo:∀ {l:List A} {cs:List C} {us:List Value},Zs l=some cs->l.length=us.length->(∀ (j:Nat) (x:A) (u:Value),l[j]?=some x->us[j]?=some u->VR w g O R x u)->ZU w g.F cs us []
 | [],cs,us,h,hl,_=>by
  cases h
  have:us=[]:=zQW hl.symm;subst this;exact .nil
 | a :: l,cs,us,h,hl,hv=>by
  unfold Zs at h
  split at h
  ·rename_i c cs' h1 h2
   cases h
   cases us with
   | nil=>simp at hl
   | cons u us =>
    exact .cons c u [] cs' us [] (qh8 h1 (hv 0 a u rfl rfl)) (qfo h2 wz5 λj x u h3 h4=>hv (j+1) x u (by simpa using h3) (by simpa using h4))
  ·cases h
theorem qh9{a:A}{c:V}{u:Value}(h:a.tV=some c)(hv:VR w g O R a u):VV w g.F c u []:=by
 cases a <;> simp only [A.tV,Option.some.injEq,zWq,reduceCtorEq] at h
 ·subst h
  cases hv with
  | t _ _ h=>exact .one _ _ [] (.t _ _ h)
 ·obtain ⟨cs,h1,rfl⟩:=h
  cases hv with
  | agg l vs hl hx=>exact .agg cs vs [] (qfo h1 hl hx)
theorem qfp:∀ {l:List A} {cs:List V} {us:List Value},LE l=some cs->l.length=us.length->(∀ (j:Nat) (x:A) (u:Value),l[j]?=some x->us[j]?=some u->VR w g O R x u)->LC w g.F cs us []
 | [],cs,us,h,hl,_=>by
  cases h
  have:us=[]:=zQW hl.symm;subst this;exact .nil
 | a :: l,cs,us,h,hl,hv=>by
  unfold LE at h
  split at h
  ·rename_i c cs' h1 h2
   cases h
   cases us with
   | nil=>simp at hl
   | cons u us =>
    exact .cons c u [] cs' us [] (qh9 h1 (hv 0 a u rfl rfl)) (qfp h2 wz5 λj x u h3 h4=>hv (j+1) x u (by simpa using h3) (by simpa using h4))
  ·cases h
theorem qhh{a:A}{c:C}{u:Value}{bs:List Nat}(h:a.tC=some c)(hv:CV w g.F c u bs):VR w g O R a u:=by
 cases a <;> simp only [A.tC,Option.some.injEq,reduceCtorEq] at h
 subst h
 cases hv with
 | t _ _ h=>exact .t _ _ h
theorem qfq:∀ {l:List A} {cs:List C} {us:List Value} {bs:List Nat},Zs l=some cs->ZU w g.F cs us bs->l.length=us.length/\∀ (j:Nat) (x:A) (u:Value),l[j]?=some x->us[j]?=some u->VR w g O R x u
 | [],cs,us,bs,h,hv=>by
  cases h
  cases hv
  exact ⟨rfl,λj x u h=>by simp at h⟩
 | a :: l,cs,us,bs,h,hv=>by
  unfold Zs at h
  split at h
  ·rename_i c cs' h1 h2
   cases h
   cases hv with
   | cons _ u b _ us bs h3 h4 =>
    obtain ⟨h5,h6⟩:=qfq h2 h4;refine ⟨by simp [h5],λj x u' h7 h8=>?_⟩
    cases j with
    | zero=>simp at h7 h8; subst h7 h8; exact qhh h1 h3
    | succ j=>exact h6 j x u' (by simpa using h7) (by simpa using h8)
  ·cases h
theorem qia{a:A}{c:V}{u:Value}{bs:List Nat}(h:a.tV=some c)(hv:VV w g.F c u bs):VR w g O R a u:=by
 cases a <;> simp only [A.tV,Option.some.injEq,zWq,reduceCtorEq] at h
 ·subst h
  cases hv with
  | one _ v _ h=>exact qhh rfl h
 ·obtain ⟨cs,h1,rfl⟩:=h
  cases hv with
  | agg _ vs _ h =>
   obtain ⟨h2,h3⟩:=qfq (O:=O) (R:=R) h1 h;exact .agg _ vs h2 h3
theorem qfr:∀ {l:List A} {cs:List V} {us:List Value} {bs:List Nat},LE l=some cs->LC w g.F cs us bs->l.length=us.length/\∀ (j:Nat) (x:A) (u:Value),l[j]?=some x->us[j]?=some u->VR w g O R x u
 | [],cs,us,bs,h,hv=>by
  cases h
  cases hv
  exact ⟨rfl,λj x u h=>by simp at h⟩
 | a :: l,cs,us,bs,h,hv=>by
  unfold LE at h
  split at h
  ·rename_i c cs' h1 h2
   cases h
   cases hv with
   | cons _ u b _ us bs h3 h4 =>
    obtain ⟨h5,h6⟩:=qfr h2 h4;refine ⟨by simp [h5],λj x u' h7 h8=>?_⟩
    cases j with
    | zero=>simp at h7 h8; subst h7 h8; exact qia h1 h3
    | succ j=>exact h6 j x u' (by simpa using h7) (by simpa using h8)
  ·cases h
end
section
variable {P:Program} {E:En} [Tb P E] {g:Gh} {st st':St} {a:Act} {w:World}
def SB(P:Program)(f:FuncId)(e:TypeId)(ts:List T)(rows:List (List T))(args:List V)(lo m:Nat):Prop :=
 wT P f/\∀ (w:World) (F:Nat->Prop) (v:Value) (us vs inner:List Value),(∀ b,F b->b < w.heap.size)->w.ownsRow 0 e 1 v rows.length inner->Cx w F 1 rows inner->(∀ b,v.ownBlock=some b->¬ F b) ->
  us.length=ts.length->(∀ (j:Nat) (x:T) (u:Value),ts[j]?=some x->us[j]?=some u->Rd w F x u)->LC w F args vs []->TbW P w (λb=>v.ownBlock=some b) ->
  Calls P f (Value.agg (us++[v]).toArray :: vs).toArray w λex w'=>∃ ad n c a' c' inner',v=.slice ad n c/\ex=.returned (.slice a' m c')/\lo+m<=n/\(0 < m->∃ b,ad=some ⟨b,0,none⟩/\a'=some ⟨b,lo,none⟩)/\vF w w' /\
   (∀ b,b < w.heap.size->v.ownBlock≠some b->w'.heap[b]?=w.heap[b]?)/\w'.ownsRow 0 e 1 v rows.length inner'/\Cx w' F 1 rows inner'
theorem qby{n f r e lo m:Nat}{ts:List T}{rows:List (List T)}{o:Oper}{xf:Operand}{args:Array Operand}{tys:Array TypeId}{sr:List A}{vs:List V}
  (hS:yV E g n st a w) (ho:o.op=.call { callee:=.value xf,args,argTypes:=tys }) (hf:st.eval xf=some (.clo f [])) (qw:d4 (args.toList.map st.eval)=some (.agg (ts.map A.t++[.own r]) :: sr))
  (hrw:st.rw r=some (.live e 1 rows)) (hp:LE sr=some vs) (hc:SB P f e ts rows vs lo m) :
  Fk P o a w λv w'=>∃ g',D2 E g st w (.win r lo m) st v g' w':=by
 have hM:=hS.mem;obtain ⟨hcl,hcc⟩:=hc;have hvf:=cj hS hf;generalize hvv:a.eval xf=vf at hvf;obtain ⟨ha1,ha2⟩:=Ic hS qw;have hL:st.L r:=⟨e,1,rows,hrw⟩
 cases hvf with
 | clo f caps vcaps hl hx' =>
  have:vcaps=[]:=zQW hl.symm;subst this;refine nF ho hvv hcl ?_;rw [zWY];generalize args.toList.map a.eval=us at ha1 ha2
  match us,ha1 with
  | u0 :: us,ha1 =>
   have h0:=ha2 0 _ u0 rfl rfl
   cases h0 with
   | agg _ cells hcl hcx =>
    have hlen:cells.length=ts.length+1:=by rw [<- hcl]; simp
    obtain ⟨us0,v,hcells,hus⟩:∃ us0 v,cells=us0++[v]/\us0.length=ts.length:=⟨cells.take ts.length,cells[ts.length]'aD,by
     rw [show [cells[ts.length]'aD]=cells.drop ts.length by rw [zWh aD]; simp [List.drop_eq_nil_of_le (show cells.length<=ts.length+1 by omega)],List.take_append_drop],by simp; omega⟩
    subst hcells;have hv:=hcx ts.length (.own r) v jC (by rw [<- hus]; simp)
    cases hv with
    | own _ hR =>
    have hVV:LC w g.F vs us []:=qfp hp (by simpa using ha1) λj x u h3 h4=>ha2 (j+1) x u (by simpa using h3) (by simpa using h4);have hts:∀ (j:Nat) (x:T) (u:Value),ts[j]?=some x->us0[j]?=some u->Rd w g.F x u:=λj x u h3 h4=>by
     have hlt:j < ts.length:=(aab.1 h3).1;have:=hcx j (.t x) u (by rw [zQZ qec]; simp [h3]) (by rw [zQZ aD]; exact h4)
     cases this with
     | t _ _ h=>exact h
    obtain ⟨inner,hown,hRC,_⟩:=(hM.row r _ hrw).rcs;refine (hcc w g.F (g.rw r) us0 us inner (λb hb=>(hM.F b hb).1) hown hRC (λb hb=>(hM.row_nf hL hb).1) hus hts hVV (hM.tbW λb h1 h2 _ h3=>(hM.row_nf hL h3).2.elim (λh=>absurd h1 (Nat.not_lt.2 h)) h2)).mono λex w' ⟨ad,n',c,a',c',inner',hv,he,hm,hpp,hcalm,hsame,hown',hRC'⟩=>⟨_,he,?_⟩;obtain ⟨hM2,hE2⟩:=hM.set_row hcalm r _ e 1 rows hrw hL hsame (hRC'.rowAt (E:=E) (g:=g) hown' (λb hb=>hM.row_nf hL hb));rw [U8 hrw] at hM2 hE2;exact ⟨g,hM2,.win r lo m n' c c' ad a' hR hv hm hpp,hE2,rfl⟩
end
structure Dom where
 oR:Nat->Prop
 oW:Nat->Prop
 rR:Nat->Prop
 rW:Nat->Prop
def MA.In{α:Type}(D:Dom):MA α->Prop
 | .ret _=>True
 | .fail=>True
 | .getOb s k=>D.oR s/\∀ x,(k x).In D
 | .getRw r k=>D.rR r/\∀ x,(k x).In D
 | .setOb s _ k=>D.oW s/\k.In D
 | .setRw r _ k=>D.rW r/\k.In D
structure Off (D:Dom) (st st':St):Prop where
 tm:st'.tm=st.tm
 ob:∀ s,¬ D.oW s->st'.ob s=st.ob s
 rw:∀ r,¬ D.rW r->st'.rw r=st.rw r
structure On (D:Dom) (st st':St):Prop where
 ob:∀ s,D.oR s->st'.ob s=st.ob s
 rw:∀ r,D.rR r->st'.rw r=st.rw r
structure Dom.ok (D:Dom):Prop where
 ob:∀ s,D.oW s->D.oR s
 rw:∀ s,D.rW s->D.rR s
theorem Off.refl(D:Dom)(st:St):Off D st st:=⟨rfl,λ_ _=>rfl,λ_ _=>rfl⟩
theorem Off.trans{D:Dom}{a b c:St}(h:Off D a b)(h':Off D b c):Off D a c :=
 ⟨h'.tm.trans h.tm,λs hs=>(h'.ob s hs).trans (h.ob s hs),λs hs=>(h'.rw s hs).trans (h.rw s hs)⟩
theorem qcz{α:Type}{f g:Nat->α}{k j:Nat}{c:α}(h:f j=g j):jL f k c j=jL g k c j:=by
 simp only [jL,h]
theorem th{α:Type}{D:Dom}:∀ (m:MA α) {st st':St} {x:α},m.In D->m.run st=some (x,st') ->
  Off D st st'/\∀ st2,On D st st2->∃ st2',m.run st2=some (x,st2')/\Off D st2 st2'/\On D st' st2'
 | .ret v,st,st',x,_,h=>by
  obtain ⟨rfl,rfl⟩:=jB h;exact ⟨Off.refl _ _,λst2 h2=>⟨st2,rfl,Off.refl _ _,h2⟩⟩
 | .fail,st,st',x,_,h=>(aU h).elim
 | .getOb s k,st,st',x,hi,h=>by
  obtain ⟨h1,h2⟩:=th (k (st.ob s)) (hi.2 _) h;refine ⟨h1,λst2 ho=>?_⟩;simp only [MA.run,ho.ob s hi.1];exact h2 st2 ho
 | .getRw s k,st,st',x,hi,h=>by
  obtain ⟨h1,h2⟩:=th (k (st.rw s)) (hi.2 _) h;refine ⟨h1,λst2 ho=>?_⟩;simp only [MA.run,ho.rw s hi.1];exact h2 st2 ho
 | .setOb s c k,st,st',x,hi,h=>by
  simp only [MA.run] at h;obtain ⟨h1,h2⟩:=th k hi.2 h;refine ⟨⟨h1.tm,λs' hs'=>?_,h1.rw⟩,λst2 ho=>?_⟩
  ·rw [h1.ob s' hs'];exact eT _ _ _ _ (λhe=>hs' (he ▸ hi.1))
  ·obtain ⟨st2',h3,h4,h5⟩:=h2 { st2 with ob:=jL st2.ob s (some c) } ⟨λs' hs'=>qcz (ho.ob s' hs'),ho.rw⟩;refine ⟨st2',h3,⟨h4.tm,λs' hs'=>?_,h4.rw⟩,h5⟩;rw [h4.ob s' hs'];exact eT _ _ _ _ (λhe=>hs' (he ▸ hi.1))
 | .setRw s c k,st,st',x,hi,h=>by
  simp only [MA.run] at h;obtain ⟨h1,h2⟩:=th k hi.2 h;refine ⟨⟨h1.tm,h1.ob,λs' hs'=>?_⟩,λst2 ho=>?_⟩
  ·rw [h1.rw s' hs'];exact eT _ _ _ _ (λhe=>hs' (he ▸ hi.1))
  ·obtain ⟨st2',h3,h4,h5⟩:=h2 { st2 with rw:=jL st2.rw s (some c) } ⟨ho.ob,λs' hs'=>qcz (ho.rw s' hs')⟩;refine ⟨st2',h3,⟨h4.tm,h4.ob,λs' hs'=>?_⟩,h5⟩;rw [h4.rw s' hs'];exact eT _ _ _ _ (λhe=>hs' (he ▸ hi.1))
mutual
def A.inR(Q:Nat->Prop):A->Prop
 | .own r=>Q r
 | .elem r _ _ _=>Q r
 | .sub r _ _=>Q r
 | .win r _ _=>Q r
 | .agg l=>gf Q l
 | .tup l=>gf Q l
 | .clo _ l=>gf Q l
 | _=>True
def gf(Q:Nat->Prop):List A->Prop
 | []=>True
 | a :: r=>a.inR Q/\gf Q r
end
mutual
theorem KK{Q:Nat->Prop}(h:∀ r,Q r):∀ a:A,a.inR Q
 | .own r=>by unfold A.inR; exact h r
 | .elem r _ _ _=>by unfold A.inR; exact h r
 | .sub r _ _=>by unfold A.inR; exact h r
 | .win r _ _=>by unfold A.inR; exact h r
 | .agg l=>by unfold A.inR; exact Bs h l
 | .tup l=>by unfold A.inR; exact Bs h l
 | .clo _ l=>by unfold A.inR; exact Bs h l
 | .t _ | .nil | .obj _ _ | .fadr _ | .nn _ _ | .undef | .raw _ | .osl _ _ _ _ | .ext _ _ | .exa _ _ | .shp _=>by unfold A.inR; trivial
theorem Bs{Q:Nat->Prop}(h:∀ r,Q r):∀ l:List A,gf Q l
 | []=>by unfold gf; trivial
 | a :: r=>by unfold gf; exact ⟨KK h a,Bs h r⟩
end
theorem Vx{Q:Nat->Prop}:∀ {l:List A},gf Q l->∀ a∈l,a.inR Q
 | [],_,a,h=>by simp at h
 | x :: l,hl,a,h=>by
  unfold gf at hl;rcases aah.1 h with rfl | h
  ·exact hl.1
  ·exact Vx hl.2 a h
theorem vG{Q:Nat->Prop}:∀ {l:List A},(∀ a∈l,a.inR Q)->gf Q l
 | [],_=>by unfold gf; trivial
 | x :: l,h=>by unfold gf; exact ⟨h x jC,vG (λa ha=>h a (by simp [ha]))⟩
theorem Ih{Q:Nat->Prop}{a:A}(h:a.inR Q):gf Q a.cells:=by
 cases a <;> simp only [A.cells] <;> first | (unfold A.inR at h; exact h) | (unfold gf; exact ⟨h,by unfold gf; trivial⟩)
section
variable {D:Dom} {α:Type}
theorem qcA{a:A}{k:T->MA α}(ha:a.inR λr=>D.rR r/\D.rW r)(hk:∀ x,(k x).In D):(a.toT k).In D:=by
 cases a <;> simp only [A.toT,MA.In] <;> first | exact hk _ | trivial | skip
 unfold A.inR at ha;refine ⟨ha.1,λx=>?_⟩;rcases x with _ | (_ | _ | _) <;> simp only [MA.In] <;> first | exact hk _ | exact ⟨ha.2,hk _⟩
theorem KL:∀ {l:List A} {k:List T->MA α},gf (λr=>D.rR r/\D.rW r) l->(∀ x,(k x).In D)->(ln l k).In D
 | [],k,_,hk=>hk []
 | a :: l,k,hl,hk=>by
  unfold gf at hl;exact qcA hl.1 λx=>KL hl.2 λxs=>hk _
theorem Ok{Q:Nat->Prop}{lb:List Nat}{l:List A}(h:gf Q l):gf Q (oL lb l) :=
 vG λa ha=>by
  obtain ⟨j,hj⟩:=zYK ha;obtain ⟨y,h1,h2⟩:=QS lb l j a hj;rcases h2 with rfl | ⟨_,n,rfl⟩
  ·exact Vx h _ (zQX h1)
  ·unfold A.inR; trivial
theorem qbz{lb:List Nat}{sz:Nat}:∀ {ps:List (Nat×A)} {rows:List (List T)} {k:List (List T)->MA α},(∀ q∈ps,q.2.inR λr=>D.rR r/\D.rW r)->(∀ x,(k x).In D)->(Vk lb sz rows ps k).In D
 | [],rows,k,_,hk=>hk _
 | (i,x) :: r,rows,k,hl,hk=>by
  unfold Vk
  split
  ·exact KL (Ok (Ih (hl (i,x) jC))) λts=>qbz (λq hq=>hl q (by simp [hq])) hk
  ·trivial
theorem Ol{a:A}{k:Nat->List (List T)->MA α}(ha:a.inR D.rR)(hk:∀ n x,(k n x).In D):(a.rows k).In D:=by
 unfold A.rows
 split <;> first | exact hk _ _ | trivial | skip
 ·split <;> first | exact hk _ _ | trivial
 ·unfold A.inR at ha;refine ⟨ha,λx=>?_⟩;rcases x with _ | (_ | _ | _) <;> first | exact hk _ _ | trivial
theorem Om{r e sz:Nat}{rows:List (List T)}(h:D.rR r/\D.rW r):(DF r e sz rows).In D:=by
 refine ⟨h.1,λx=>?_⟩
 cases x <;> first | exact ⟨h.2,trivial⟩ | trivial
theorem qdN{d:Nat}{cells:List A}(h:D.oR d/\D.oW d):(qbf d cells).In D:=by
 refine ⟨h.1,λx=>?_⟩
 cases x <;> simp only
 ·split <;> first | exact ⟨h.2,trivial⟩ | trivial
 ·trivial
theorem yi{m:Bool}{a:A}{k:C->MA α}(ha:a.inR λr=>D.rR r/\D.rW r)(hk:∀ x,(k x).In D):(a.toC m k).In D:=by
 unfold A.toC
 split
 ·unfold A.inR at ha;refine ⟨ha.1,λx=>?_⟩;rcases x with _ | (_ | _ | _) <;> first | exact hk _ | exact ⟨ha.2,hk _⟩ | trivial
 ·exact hk _
 ·exact qcA ha λx=>hk _
theorem ZW{m:Bool}:∀ {l:List A} {k:List C->MA α},gf (λr=>D.rR r/\D.rW r) l->(∀ x,(k x).In D)->(Mt m l k).In D
 | [],k,_,hk=>hk []
 | a :: l,k,hl,hk=>by
  unfold gf at hl;exact yi hl.1 λx=>ZW hl.2 λxs=>hk _
mutual
theorem qfs{m:Bool}:∀ {a:A} {k:V->MA α},a.inR (λr=>D.rR r/\D.rW r)->(∀ x,(k x).In D)->(tv m a k).In D
 | .agg l,k,ha,hk=>by unfold A.inR at ha; unfold tv; exact ZW ha λ_=>hk _
 | .fadr l,k,ha,hk=>by unfold tv; exact hk _
 | .clo f l,k,ha,hk=>by unfold A.inR at ha; unfold tv; exact ZX ha λ_=>hk _
 | .tup l,k,ha,hk=>by unfold A.inR at ha; unfold tv; exact ZX ha λ_=>hk _
 | .t x,k,ha,hk=>by unfold tv; exact yi ha λ_=>hk _
 | .nn _ _,k,ha,hk=>by unfold tv; exact yi ha λ_=>hk _
 | .nil,k,ha,hk=>by unfold tv; exact yi ha λ_=>hk _
 | .own x,k,ha,hk=>by unfold tv; exact yi ha λ_=>hk _
 | .obj _ _,k,ha,hk=>by unfold tv; exact yi ha λ_=>hk _
 | .elem _ _ _ _,k,ha,hk=>by unfold tv; exact yi ha λ_=>hk _
 | .win _ _ _,k,ha,hk=>by unfold tv; exact yi ha λ_=>hk _
 | .sub _ _ _,k,ha,hk=>by unfold tv; exact yi ha λ_=>hk _
 | .undef,k,ha,hk=>by unfold tv; exact yi ha λ_=>hk _
 | .raw _,k,ha,hk=>by unfold tv; exact yi ha λ_=>hk _
 | .osl _ _ _ _,k,ha,hk=>by unfold tv; exact yi ha λ_=>hk _
 | .ext _ _,k,ha,hk=>by unfold tv; exact yi ha λ_=>hk _
 | .exa _ _,k,ha,hk=>by unfold tv; exact yi ha λ_=>hk _
 | .shp _,k,ha,hk=>by unfold tv; exact yi ha λ_=>hk _
theorem ZX{m:Bool}:∀ {l:List A} {k:List V->MA α},gf (λr=>D.rR r/\D.rW r) l->(∀ x,(k x).In D)->(Id m l k).In D
 | [],k,_,hk=>by unfold Id; exact hk _
 | a :: l,k,hl,hk=>by unfold gf at hl; unfold Id; exact qfs hl.1 λx=>ZX hl.2 λxs=>hk _
end
theorem qeo{s:Nat}{k:List C->MA α}(ho:D.oR s/\D.oW s)(ha:∀ r,D.rR r/\D.rW r)(hk:∀ x,(k x).In D):(JK s k).In D:=by
 refine ⟨ho.1,λx=>?_⟩;rcases x with _ | (_ | ⟨c,cells⟩) <;> simp only <;> first | exact ZW (Bs ha _) λx=>⟨ho.2,hk _⟩ | trivial
theorem qcB{s:Nat}{k:List C->MA α}(ho:D.oR s/\D.oW s)(hk:∀ x,(k x).In D):(Oi s k).In D:=by
 refine ⟨ho.1,λx=>?_⟩;rcases x with _ | (_ | ⟨c,cells⟩) <;> simp only <;> first | trivial | skip
 split <;> first | exact ⟨ho.2,hk _⟩ | trivial
def A.argIn(D:Dom)(p:Nat->Bool):A->Prop
 | .obj s 0=>(D.oR s/\D.oW s)/\(p s=false->∀ r,D.rR r/\D.rW r)
 | a=>a.inR λr=>D.rR r/\D.rW r
theorem Oo{m:Bool}{p:Nat->Bool}:∀ {l:List A} {k:List V->MA α},(∀ a∈l,a.argIn D p)->(∀ x,(k x).In D)->(oZ m p l k).In D
 | [],k,_,hk=>by unfold oZ; exact hk _
 | a :: l,k,hl,hk=>by
  have h0:=hl a jC;have ih:∀ {k:List V->MA α},(∀ x,(k x).In D)->(oZ m p l k).In D:=λh=>Oo (λa ha=>hl a (by simp [ha])) h;unfold oZ
  split
  ·rename_i heq; cases heq
  ·rename_i heq;injection heq with h1 h2
   subst h1 h2;unfold A.argIn at h0
   split
   ·exact qcB h0.1 λx=>ih λ_=>hk _
   ·rename_i hp;exact qeo h0.1 (h0.2 (by simpa using hp)) λx=>ih λ_=>hk _
  ·rename_i hna heq;injection heq with h1 h2
   subst h1 h2;refine qfs ?_ λx=>ih λ_=>hk _;unfold A.argIn at h0
   split at h0
   ·exact absurd rfl (hna _)
   ·exact h0
theorem nm{a:A}{k:T->MA α}(ha:a.inR D.rR)(hk:∀ x,(k x).In D):(a.peekT k).In D:=by
 unfold A.peekT
 split <;> first | exact hk _ | trivial | skip
 unfold A.inR at ha;refine ⟨ha,λx=>?_⟩;rcases x with _ | (_ | _ | _) <;> first | exact hk _ | trivial
theorem Zt:∀ {l:List A} {k:List T->MA α},gf D.rR l->(∀ x,(k x).In D)->(Oj l k).In D
 | [],k,_,hk=>hk []
 | a :: l,k,hl,hk=>by
  unfold gf at hl;exact nm hl.1 λx=>Zt hl.2 λxs=>hk _
mutual
theorem qft:∀ {a:A} {k:V->MA α},a.inR D.rR->(∀ x,(k x).In D)->(kL a k).In D
 | .agg l,k,ha,hk=>by unfold A.inR at ha; unfold kL; exact Zt ha λ_=>hk _
 | .fadr l,k,ha,hk=>by unfold kL; exact hk _
 | .clo f l,k,ha,hk=>by unfold A.inR at ha; unfold kL; exact Bt ha λ_=>hk _
 | .tup l,k,ha,hk=>by unfold kL; exact nm ha λ_=>hk _
 | .t x,k,ha,hk=>by unfold kL; exact nm ha λ_=>hk _
 | .nn _ _,k,ha,hk=>by unfold kL; exact nm ha λ_=>hk _
 | .nil,k,ha,hk=>by unfold kL; exact nm ha λ_=>hk _
 | .own x,k,ha,hk=>by unfold kL; exact nm ha λ_=>hk _
 | .obj _ _,k,ha,hk=>by unfold kL; exact nm ha λ_=>hk _
 | .elem _ _ _ _,k,ha,hk=>by unfold kL; exact nm ha λ_=>hk _
 | .win _ _ _,k,ha,hk=>by unfold kL; exact nm ha λ_=>hk _
 | .sub _ _ _,k,ha,hk=>by unfold kL; exact nm ha λ_=>hk _
 | .undef,k,ha,hk=>by unfold kL; exact nm ha λ_=>hk _
 | .raw _,k,ha,hk=>by unfold kL; exact nm ha λ_=>hk _
 | .osl _ _ _ _,k,ha,hk=>by unfold kL; exact nm ha λ_=>hk _
 | .ext _ _,k,ha,hk=>by unfold kL; exact nm ha λ_=>hk _
 | .exa _ _,k,ha,hk=>by unfold kL; exact nm ha λ_=>hk _
 | .shp _,k,ha,hk=>by unfold kL; exact nm ha λ_=>hk _
theorem Bt:∀ {l:List A} {k:List V->MA α},gf D.rR l->(∀ x,(k x).In D)->(gL l k).In D
 | [],k,_,hk=>by unfold gL; exact hk _
 | a :: l,k,hl,hk=>by unfold gf at hl; unfold gL; exact qft hl.1 λx=>Bt hl.2 λxs=>hk _
end
variable {d:Nat}
theorem qfu{id:Nat}{c:C}{k:A->MA α}(hd:∀ r,r / 65536=d->D.rR r/\D.rW r)(hk:∀ x,(k x).In D):(c.toA d id k).In D:=by
 cases c <;> simp only [C.toA] <;> first | exact hk _ | skip
 split
 ·rename_i h;refine ⟨(hd _ h).1,λx=>?_⟩
  cases x <;> first | exact ⟨(hd _ h).2,hk _⟩ | trivial
 ·trivial
theorem U9(hd:∀ r,r / 65536=d->D.rR r/\D.rW r):∀ {l:List C} {id:Nat} {k:List A->MA α},(∀ x,(k x).In D)->(QU d id l k).In D
 | [],id,k,hk=>hk []
 | a :: l,id,k,hk=>qfu hd λx=>U9 hd λxs=>hk _
mutual
theorem Oq(hd:∀ r,r / 65536=d->D.rR r/\D.rW r)(ho:D.oR d/\D.oW d):∀ {v:V} {id:Nat} {k:A->MA α},(∀ x,(k x).In D)->(V.toA d id v k).In D
 | .one c,id,k,hk=>by unfold V.toA; exact qfu hd hk
 | .agg l,id,k,hk=>by unfold V.toA; exact U9 hd λ_=>hk _
 | .tup l,id,k,hk=>by unfold V.toA; exact Vy hd ho λ_=>hk _
 | .ptr l,id,k,hk=>by
  unfold V.toA;refine U9 hd λ_=>⟨ho.1,λx=>?_⟩
  cases x <;> first | exact ⟨ho.2,hk _⟩ | trivial
 | .fptr l,id,k,hk=>by unfold V.toA; exact hk _
 | .clo f l,id,k,hk=>by unfold V.toA; exact Vy hd ho λ_=>hk _
theorem Vy(hd:∀ r,r / 65536=d->D.rR r/\D.rW r)(ho:D.oR d/\D.oW d):∀ {l:List V} {id:Nat} {k:List A->MA α},(∀ x,(k x).In D)->(Ie d id l k).In D
 | [],id,k,hk=>by unfold Ie; exact hk _
 | a :: l,id,k,hk=>by unfold Ie; exact Oq hd ho λx=>Vy hd ho λxs=>hk _
end
theorem FZ(hd:∀ r,r / 65536=d->D.rR r/\D.rW r):∀ {ss:List Nat} {os:List (List C)} {k:MA α},(∀ s∈ss,D.oR s/\D.oW s)->k.In D->(gq d ss os k).In D
 | [],[],k,_,hk=>hk
 | s :: ss,c :: cs,k,hs,hk=>by
  unfold gq;refine U9 hd λx=>⟨(hs s jC).1,λy=>?_⟩
  cases y <;> first | exact ⟨(hs s jC).2,FZ hd (λs h=>hs s qcp) hk⟩ | trivial
 | [],_ :: _,k,_,hk=>trivial
 | _ :: _,[],k,_,hk=>trivial
theorem JL{p:Nat->Bool}:∀ {l:List A},(∀ a∈l,a.argIn D p)->∀ s∈gp l,D.oR s/\D.oW s
 | [],_,s,h=>by simp [gp] at h
 | a :: l,hl,s,h=>by
  have h0:=hl a jC;unfold gp at h
  split at h
  ·rename_i heq; cases heq
  ·rename_i heq;injection heq with h1 h2
   subst h1 h2;rcases aah.1 h with rfl | h
   ·exact h0.1
   ·exact JL (λa ha=>hl a (by simp [ha])) s h
  ·rename_i heq;injection heq with h1 h2
   subst h1 h2;exact JL (λa ha=>hl a (by simp [ha])) s h
end
def qw(l:Option (List Nat))(k:Nat):Prop:=match l with | none=>True | some l=>k∈l
def Ne(a b:Option (List Nat)):Option (List Nat):=match a,b with | some a,some b=>some (a++b) | _,_=>none
def Lp:List (Option (List Nat))->Option (List Nat)
 | []=>some []
 | a :: r=>Ne a (Lp r)
theorem qy{a b:Option (List Nat)}{k:Nat}:qw (Ne a b) k↔qw a k\/qw b k:=by
 cases a <;> cases b <;> simp [Ne,qw]
theorem Vz{l:List (Option (List Nat))}{k:Nat}:∀ {x},x∈l->qw x k->qw (Lp l) k:=by
 induction l with
 | nil=>intro x h; simp at h
 | cons y l ih =>
  intro x h hx;unfold Lp;rcases aah.1 h with rfl | h
  ·exact qy.2 (.inl hx)
  ·exact qy.2 (.inr (ih h hx))
def fi.rows:fi->Option (List Nat)
 | .frz | .obj _=>some []
 | .own d=>some [d]
 | .el d=>some [d]
 | .win d=>some [d]
 | _=>none
def fi.objs:fi->Option (List Nat)
 | .obj s=>some [s]
 | .any=>none
 | _=>some []
def Fi(ρ:Nat->fi):Operand->fi
 | .tmp t=>ρ t
 | _=>.frz
structure Fp where
 oR:Option (List Nat)
 oW:Option (List Nat)
 rR:Option (List Nat)
 rW:Option (List Nat)
def Fp.dom(f:Fp):Dom:=⟨qw f.oR,qw f.oW,λr=>qw f.rR (r / 65536),λr=>qw f.rW (r / 65536)⟩
def fi.isObj:fi->Bool
 | .obj _=>true
 | _=>false
def BI(p:Nat->Bool):fi->Option (List Nat)
 | .obj s=>if p s then some [] else none
 | r=>r.rows
def oM:Option Nat->Option (List Nat)
 | some d=>some [d]
 | none=>some []
def cH(ρ:Nat->fi)(o:Oper):Option (List Nat):=Lp (o.op.operands.toList.map λx=>(Fi ρ x).rows)
def dX(p:Nat->Bool)(ρ:Nat->fi)(o:Oper):Fp :=
 match o.op with
 | .alloc _=>⟨oM o.dst,oM o.dst,some [],some []⟩
 | .box ..=>⟨oM o.dst,oM o.dst,cH ρ o,cH ρ o⟩
 | .buildSlice .. | .makeSlice ..=>⟨some [],some [],Ne (cH ρ o) (oM o.dst),Ne (cH ρ o) (oM o.dst)⟩
 | .load _ a=>⟨(Fi ρ a).objs,some [],(Fi ρ a).rows,some []⟩
 | .store _ a _=>if (Fi ρ a).isObj then ⟨(Fi ρ a).objs,(Fi ρ a).objs,some [],some []⟩ else ⟨(Fi ρ a).objs,(Fi ρ a).objs,cH ρ o,cH ρ o⟩
 | .slice ..=>⟨some [],some [],Ne (cH ρ o) (oM o.dst),Ne (cH ρ o) (oM o.dst)⟩
 | .call { callee:=.builtin .copy,.. } | .call { callee:=.builtin .clear,.. }=>⟨some [],some [],cH ρ o,cH ρ o⟩
 | .indexAddr .. | .convert .. | .call { callee:=.builtin .len,.. }=>⟨some [],some [],cH ρ o,some []⟩
 | .call { callee:=.builtin .append,.. }=>⟨some [],some [],Ne (cH ρ o) (oM o.dst),Ne (cH ρ o) (oM o.dst)⟩
 | .call { callee:=.value _,.. } =>
  ⟨Ne (Lp (o.op.operands.toList.map λx=>(Fi ρ x).objs)) (oM o.dst),Ne (Lp (o.op.operands.toList.map λx=>(Fi ρ x).objs)) (oM o.dst),
   Ne (Lp (o.op.operands.toList.map λx=>BI p (Fi ρ x))) (oM o.dst),Ne (Lp (o.op.operands.toList.map λx=>BI p (Fi ρ x))) (oM o.dst)⟩
 | _=>⟨some [],some [],some [],some []⟩
theorem qdO(p:Nat->Bool)(ρ:Nat->fi)(o:Oper):(dX p ρ o).dom.ok:=by
 unfold dX
 split
 all_goals first | exact ⟨λ_ h=>h,λ_ h=>h⟩ | (split <;> exact ⟨λ_ h=>h,λ_ h=>h⟩) | exact ⟨λ_ h=>by simp [Fp.dom,qw] at h,λ_ h=>by simp [Fp.dom,qw] at h⟩
structure Cls (ρ:Nat->fi) (x:Operand) (a:A):Prop where
 rows:a.inR λr=>qw (Fi ρ x).rows (r / 65536)
 objs:∀ s off,a=.obj s off->qw (Fi ρ x).objs s
 isob:(Fi ρ x).isObj=true->∃ s off,a=.obj s off
theorem qep{r:fi}{a:A}(h:r.fits a=true)(hr:r.isObj=true):∃ s off,a=.obj s off:=by
 cases r <;> cases a <;> simp [fi.fits,fi.isObj] at h hr ⊢
theorem Zu{Q:Nat->Prop}{a:A}(h:a.leafy=true):a.inR Q:=by
 cases a <;> first | (unfold A.inR; trivial) | (simp [A.leafy] at h)
theorem qbA{r:fi}{a:A}(h:r.fits a=true):(a.inR λi=>qw r.rows (i / 65536))/\∀ s off,a=.obj s off->qw r.objs s:=by
 by_cases hag:∃ l,r=.frz/\a=.agg l
 ·obtain ⟨l,rfl,rfl⟩:=hag;refine ⟨?_,λs off h=>by cases h⟩;unfold A.inR;exact vG λx hx=>Zu (aaf.1 h x hx)
 by_cases hag2:∃ d l,r=.own d/\a=.agg l
 ·obtain ⟨d,l,rfl,rfl⟩:=hag2;refine ⟨?_,λs off h=>by cases h⟩;unfold A.inR;refine vG λx hx=>?_;have:=aaf.1 h x hx
  cases x with
  | own r=>unfold A.inR; simpa [fi.rows,qw] using this
  | _=>exact Zu this
 cases r <;> cases a <;> (try simp [fi.fits,fi.rows,fi.objs,qw] at h hag ⊢) <;> (try exact absurd ⟨_,_,rfl,rfl⟩ hag2) <;>
  first
   | exact KK (λ_=>trivial) _
   | (unfold A.inR; first | trivial | simp [h])
   | (refine ⟨by unfold A.inR; trivial,?_⟩; intro s off h1 h2; simp [<- h1,h])
   | skip
theorem LF{Q:Nat->Prop}:∀ {l:List (Option A)} {r:List A},(∀ y∈l,∀ a,y=some a->a.inR Q)->d4 l=some r->gf Q r:=by
 intro l r hl h;have:=Oe h;subst this;exact vG λa ha=>hl (some a) (List.mem_map.2 ⟨a,ha,rfl⟩) a rfl
theorem Ii{Q:Nat->Prop}{v:Value}{a:A}(h:rS v=some a):a.inR Q:=by
 unfold rS at h
 split at h <;> cases h <;> (unfold A.inR; trivial)
theorem JM{Q:Nat->Prop}{v:Value}{a:A}(h:A.ofValue v=some a):(a.inR Q)/\∀ s off,a≠.obj s off:=by
 unfold A.ofValue at h
 split at h
 ·split at h
  ·rename_i l hl
   cases h
   refine ⟨?_,λ_ _ h=>by cases h⟩;unfold A.inR;exact LF (λy hy a he=>by
    obtain ⟨v,_,hv⟩:=List.mem_map.1 hy;exact Ii (hv.trans he)) hl
  ·cases h
 ·cases h
  exact ⟨by unfold A.inR; trivial,λs off he=>by cases he⟩
 ·refine ⟨Ii h,λs off he=>?_⟩;subst he;unfold rS at h
  split at h <;> cases h
theorem Zv{P:Program}{Q:Nat->Prop}{t:TypeId}{z:List A}(h:Aq P t=some z):gf Q z:=by
 unfold Aq at h
 split at h
 ·exact LF (λy hy a he=>by
   obtain ⟨v,_,hv⟩:=List.mem_map.1 hy;exact Ii (hv.trans he)) h
 ·cases h
theorem qfv{ρ:Nat->fi}{st:St}{o:Oper}(hf:gc ρ st o=true){x:Operand}{a:A}(hx:x∈o.op.operands.toList)(h:st.eval x=some a):Cls ρ x a:=by
 cases x with
 | tmp t =>
  simp only [St.eval,Option.some.injEq] at h;subst h;have:=aaf.1 hf _ hx;exact ⟨(qbA this).1,(qbA this).2,λh=>qep this h⟩
 | const v=>exact ⟨(JM h).1,λs off he=>absurd he ((JM (Q:=λ_=>True) h).2 s off),λh=>by simp [Fi,fi.isObj] at h⟩
 | func f =>
  simp only [St.eval,Option.some.injEq] at h;subst h;exact ⟨by unfold A.inR; unfold gf; trivial,λs off he=>(by cases he),λh=>by simp [Fi,fi.isObj] at h⟩
 | global _=>cases h
mutual
theorem j5{Q Q':Nat->Prop}(h:∀ r,Q r->Q' r):∀ {a:A},a.inR Q->a.inR Q'
 | .own r,hq=>by unfold A.inR at hq ⊢; exact h _ hq
 | .elem r _ _ _,hq=>by unfold A.inR at hq ⊢; exact h _ hq
 | .sub r _ _,hq=>by unfold A.inR at hq ⊢; exact h _ hq
 | .win r _ _,hq=>by unfold A.inR at hq ⊢; exact h _ hq
 | .agg l,hq=>by unfold A.inR at hq ⊢; exact KM h hq
 | .tup l,hq=>by unfold A.inR at hq ⊢; exact KM h hq
 | .clo _ l,hq=>by unfold A.inR at hq ⊢; exact KM h hq
 | .t _,_ | .nil,_ | .obj _ _,_ | .fadr _,_ | .nn _ _,_ | .undef,_ | .raw _,_ | .osl _ _ _ _,_ | .ext _ _,_ | .exa _ _,_ | .shp _,_=>by unfold A.inR; trivial
theorem KM{Q Q':Nat->Prop}(h:∀ r,Q r->Q' r):∀ {l:List A},gf Q l->gf Q' l
 | [],_=>by unfold gf; trivial
 | a :: r,hq=>by unfold gf at hq ⊢; exact ⟨j5 h hq.1,KM h hq.2⟩
end
end Go.Tm
set_option maxHeartbeats 1000000
namespace Go.Tm
open Go.RowKit
section
variable {D:Dom} {P:Program} {ρ:Nat->fi}
theorem eD{o:Oper}{x:Operand}{k:Nat}(hx:x∈o.op.operands.toList)(h:qw (Fi ρ x).rows k):qw (cH ρ o) k :=
 Vz (List.mem_map.2 ⟨x,hx,rfl⟩) h
theorem qgy{t:TypeId}{a:A}(ho:∀ s off,a=.obj s off->D.oR s)(hr:a.inR D.rR):(QQ P t a).In D:=by
 unfold QQ
 split <;> try trivial
 split <;> try trivial
 ·refine ⟨ho _ _ rfl,λx=>?_⟩
  cases x <;> simp only [MA.In]
  split <;> trivial
 ·unfold A.inR at hr;refine ⟨hr,λx=>?_⟩;rcases x with _ | (_ | _ | _) <;> (try dsimp only) <;> (try trivial)
  all_goals
   split <;> try trivial
   split <;> try trivial
   split <;> trivial
 ·split <;> trivial
 ·split <;> trivial
theorem qbB{t:TypeId}{a x:A}(ho:∀ s off,a=.obj s off->D.oR s/\D.oW s)(hr:(∃ s off,a=.obj s off)\/((a.inR λr=>D.rR r/\D.rW r)/\x.inR λr=>D.rR r/\D.rW r)):(H9 P t a x).In D:=by
 unfold H9
 split <;> try trivial
 split <;> try trivial
 split <;> try trivial
 ·refine ⟨(ho _ _ rfl).1,λx=>?_⟩
  cases x <;> simp only [MA.In]
  split <;> first | trivial | exact ⟨(ho _ _ rfl).2,trivial⟩
 ·rcases hr with ⟨s,off,h⟩ | ⟨h1,h2⟩
  ·cases h
  refine KL (Ok (Ih h2)) λts=>?_;unfold A.inR at h1;refine ⟨h1.1,λx=>?_⟩;rcases x with _ | (_ | _ | _) <;> (try dsimp only) <;> (try trivial)
  split <;> try trivial
  split <;> try trivial
  split <;> first | trivial | exact ⟨h1.2,trivial⟩
 ·split <;> trivial
theorem qeq{a:A}{off:Nat}:(Vl a off).In D:=by
 unfold Vl
 split <;> trivial
theorem VA{n:Nat}{i:Int}{sz:Nat}{rows:List (List T)}:(Ia n i sz rows).In D:=by
 unfold Ia
 split <;> try trivial
 split <;> trivial
theorem ZY{t:TypeId}{x i:A}(hr:x.inR D.rR):(p7 P t x i).In D:=by
 unfold p7
 split <;> try trivial
 split <;> try trivial
 split <;> try trivial
 ·exact VA
 ·unfold Vm
  split <;> try trivial
  split <;> trivial
 ·split <;> trivial
 ·unfold A.inR at hr;refine ⟨hr,λx=>?_⟩;rcases x with _ | (_ | _ | _) <;> (try dsimp only) <;> (try trivial)
  ·split <;> trivial
  ·exact VA
theorem qfw{d:Option Nat}{t:TypeId}{x:A}{hi:Option A}(hr:x.inR λr=>D.rR r/\D.rW r)(hd:∀ d',d=some d'->D.rR (lA d' 0)/\D.rW (lA d' 0)):(Ob P d t x hi).In D:=by
 unfold Ob
 split <;> try trivial
 split <;> try trivial
 unfold A.inR at hr;refine ⟨hr.1,λx=>?_⟩;rcases x with _ | (_ | _ | _) <;> (try dsimp only) <;> (try trivial)
 split <;> first | trivial | exact ⟨hr.2,Om (hd _ rfl)⟩
theorem qfx{t:TypeId}{x:A}{lo hi:Option A}(hr:x.inR λr=>D.rR r/\D.rW r):(Ib P t x lo hi).In D:=by
 unfold Ib
 split <;> try trivial
 ·split <;> try trivial
  split <;> trivial
 ·split <;> try trivial
  split <;> trivial
 ·split <;> try trivial
  refine qcA hr λy=>?_
  split <;> try trivial
  split <;> try trivial
  split <;> try trivial
  split <;> trivial
theorem qgz{d:Option Nat}{t:TypeId}{l c:A}(hd:∀ d',d=some d'->∀ r,r / 65536=d'->D.rR r/\D.rW r):(Vn P d t l c).In D:=by
 unfold Vn
 split <;> try trivial
 split <;> try trivial
 rename_i hz
 split <;> try trivial
 refine KL (Ok (Zv hz)) λts=>?_;exact Om (hd _ rfl _ qgi)
theorem qcC{d:Nat}{ts:List TypeId}{x y:A}(hd:∀ r,r / 65536=d->D.rR r/\D.rW r)(hx:x.inR λr=>D.rR r/\D.rW r)(hy:y.inR D.rR):(Cw P (some d) ts x y).In D:=by
 have hm:∀ {e n:Nat} {rows:List (List T)},(DF (lA d 0) e n rows).In D:=λ{e n rows}=>Om (hd _ qgi);unfold Cw
 split <;> try trivial
 rename_i d' hdd;injection hdd with hdd
 subst hdd
 split <;> try trivial
 split <;> try trivial
 split <;> try trivial
 split <;> try trivial
 refine Ol hy λn ys=>?_
 split <;> try trivial
 split <;> try trivial
 ·split <;> first | trivial | exact hm
 ·unfold A.inR at hx;refine ⟨hx.1,λx=>?_⟩;rcases x with _ | (_ | _ | _) <;> (try dsimp only) <;> (try trivial)
  split <;> first | trivial | exact ⟨hx.2,hm⟩
theorem qer{d:Option Nat}{ts:List TypeId}{x y:A}(hd:∀ d',d=some d'->∀ r,r / 65536=d'->D.rR r/\D.rW r)(hx:x.inR λr=>D.rR r/\D.rW r)(hy:y.inR D.rR):(Cw P d ts x y).In D:=by
 cases d with
 | some d=>exact qcC (hd d rfl) hx hy
 | none =>
  unfold Cw
  split <;> first | trivial | (rename_i h; cases h)
theorem qhC{t:TypeId}{x:A}{lo:Option A}(hr:x.inR λr=>D.rR r/\D.rW r):(Zh P t x lo).In D:=by
 unfold Zh
 split <;> try trivial
 split <;> try trivial
 unfold A.inR at hr;refine ⟨hr.1,λx=>?_⟩;rcases x with _ | (_ | _ | _) <;> (try dsimp only) <;> (try trivial)
 split <;> trivial
theorem qhD{t:TypeId}{x:A}{lo hi:Option A}(hr:x.inR λr=>D.rR r/\D.rW r):(Zi P t x lo hi).In D:=by
 unfold Zi
 split <;> try trivial
 split <;> try trivial
 unfold A.inR at hr;refine ⟨hr.1,λx=>?_⟩;rcases x with _ | (_ | _ | _) <;> (try dsimp only) <;> (try trivial)
 split <;> try trivial
 split <;> trivial
theorem qgA{ts:List TypeId}{x y:A}(hx:x.inR λr=>D.rR r/\D.rW r)(hy:y.inR D.rR):(Mp P ts x y).In D:=by
 unfold Mp
 split
 ·unfold Oc
  split <;> try trivial
  split <;> try trivial
  refine Ol hy λm ys=>?_
  split <;> try trivial
  unfold A.inR at hx;refine ⟨hx.1,λx=>?_⟩;rcases x with _ | (_ | _ | _) <;> (try dsimp only) <;> (try trivial)
  split <;> first | trivial | exact ⟨hx.2,trivial⟩
 rotate_left
 ·trivial
 split <;> try trivial
 split <;> try trivial
 refine Ol hy λn ys=>?_
 split <;> try trivial
 unfold A.inR at hx;refine ⟨hx.1,λx=>?_⟩;rcases x with _ | (_ | _ | _) <;> (try dsimp only) <;> (try trivial)
 split <;> first | trivial | exact ⟨hx.2,trivial⟩
theorem qfy{ts:List TypeId}{x:A}(hx:x.inR λr=>D.rR r/\D.rW r):(Od P ts x).In D:=by
 unfold Od
 split <;> try trivial
 split <;> try trivial
 split <;> try trivial
 split <;> try trivial
 unfold A.inR at hx;refine ⟨hx.1,λx=>?_⟩;rcases x with _ | (_ | _ | _) <;> (try dsimp only) <;> (try trivial)
 split <;> first | trivial | exact ⟨hx.2,trivial⟩
theorem qhE{t:TypeId}{x:A}(hr:x.inR D.rR):(Vo P t x).In D:=by
 unfold Vo
 split <;> try trivial
 exact Ol hr λ_ _=>trivial
end
theorem qgB{P:Program}{p:Nat->Bool}{ρ:Nat->fi}{st:St}{o:Oper}(h:∀ x∈o.op.operands.toList,∀ a,st.eval x=some a->Cls ρ x a):(uq P ρ st.eval o).In (dX p ρ o).dom:=by
 have hdst:∀ {d:Nat} {r:Nat},o.dst=some d->r / 65536=d->qw (Ne (cH ρ o) (oM o.dst)) (r / 65536):=λh h'=>qy.2 (.inr (by rw [h]; simp [oM,qw,h']));unfold uq
 split <;> try (split <;> trivial)
 ·-- alloc
  rename_i e ho
  split <;> try trivial
  rename_i d z hd hz;have hf:dX p ρ o=⟨oM o.dst,oM o.dst,some [],some []⟩:=by simp only [dX,ho]
  rw [hf];exact qdN ⟨by simp [Fp.dom,oM,qw,hd],by simp [Fp.dom,oM,qw,hd]⟩
 ·-- box
  rename_i e x ho
  split <;> try trivial
  rename_i d v hd hv;have hx:x∈o.op.operands.toList:=by rw [ho]; simp [Op.operands]
  have hf:dX p ρ o=⟨oM o.dst,oM o.dst,cH ρ o,cH ρ o⟩:=by simp only [dX,ho]
  rw [hf]
  split
  ·refine KL (Ih (j5 (λr hr=>?_) (h x hx v hv).rows)) λ_=>trivial;exact ⟨eD hx hr,eD hx hr⟩
  ·exact qdN ⟨by simp [Fp.dom,oM,qw,hd],by simp [Fp.dom,oM,qw,hd]⟩
 ·-- build
  rename_i t parts ho
  split <;> try trivial
  split <;> trivial
 ·-- buildSlice
  rename_i t n parts ho
  split <;> try trivial
  rename_i e d ps ht hd hp
  split <;> try trivial
  rename_i sz z hsz hz
  split <;> try trivial
  have hf:dX p ρ o=⟨some [],some [],Ne (cH ρ o) (oM o.dst),Ne (cH ρ o) (oM o.dst)⟩:=by simp only [dX,ho]
  rw [hf];refine KL (Ok (Zv hz)) λts=>qbz (λq hq=>?_) λrows=>Om ⟨hdst hd qgi,hdst hd qgi⟩;obtain ⟨hl,hg⟩:=yP hp;obtain ⟨i,hi⟩:=zYK hq;obtain ⟨⟨j,x⟩,hx,he⟩:=hg i q hi;have hxm:x∈o.op.operands.toList:=by
   rw [ho];simp only [Op.operands,zXx];exact ⟨(j,x),zQX hx,rfl⟩
  simp only [zWq] at he;obtain ⟨v,hv,rfl⟩:=he;exact j5 (λr hr=>⟨qy.2 (.inl (eD hxm hr)),qy.2 (.inl (eD hxm hr))⟩) (h x hxm v hv).rows
 ·-- load
  rename_i t x ho
  split <;> try trivial
  rename_i a ha;have hx:x∈o.op.operands.toList:=by rw [ho]; simp [Op.operands]
  have hf:dX p ρ o=⟨(Fi ρ x).objs,some [],(Fi ρ x).rows,some []⟩:=by simp only [dX,ho]
  rw [hf];exact qgy (h x hx a ha).objs (h x hx a ha).rows
 ·-- store
  rename_i t x y ho
  split <;> try trivial
  rename_i a b ha hb;have hx:x∈o.op.operands.toList:=by rw [ho]; simp [Op.operands]
  have hy:y∈o.op.operands.toList:=by rw [ho]; simp [Op.operands]
  have hf:dX p ρ o=if (Fi ρ x).isObj then ⟨(Fi ρ x).objs,(Fi ρ x).objs,some [],some []⟩ else ⟨(Fi ρ x).objs,(Fi ρ x).objs,cH ρ o,cH ρ o⟩:=by simp only [dX,ho]
  rw [hf]
  split
  ·rename_i hio;exact qbB (λs off he=>⟨(h x hx a ha).objs s off he,(h x hx a ha).objs s off he⟩) (.inl ((h x hx a ha).isob hio))
  ·exact qbB (λs off he=>⟨(h x hx a ha).objs s off he,(h x hx a ha).objs s off he⟩)
    (.inr ⟨j5 (λr hr=>⟨eD hx hr,eD hx hr⟩) (h x hx a ha).rows,j5 (λr hr=>⟨eD hy hr,eD hy hr⟩) (h y hy b hb).rows⟩)
 ·-- binOp
  split <;> try trivial
  ·split <;> trivial
  ·split <;> first | trivial | (split <;> trivial)
  ·split <;> trivial
  ·split <;> trivial
 ·-- convert
  rename_i s t x ho;have hx:x∈o.op.operands.toList:=by rw [ho]; simp [Op.operands]
  have hf:dX p ρ o=⟨some [],some [],cH ρ o,some []⟩:=by simp only [dX,ho]
  rw [hf]
  split <;> try trivial
  rename_i a _ _ ha
  split <;> try trivial
  refine Ol (j5 (λr hr=>eD hx hr) (h x hx _ ha).rows) λ_ _=>?_
  split <;> trivial
 ·-- makeSlice
  rename_i t l c ho;have hf:dX p ρ o=⟨some [],some [],Ne (cH ρ o) (oM o.dst),Ne (cH ρ o) (oM o.dst)⟩:=by simp only [dX,ho]
  rw [hf]
  split <;> try trivial
  exact qgz λd hd r hr=>⟨hdst hd hr,hdst hd hr⟩
 ·-- slice
  rename_i t x lo hi ho;have hx:x∈o.op.operands.toList:=by rw [ho]; simp [Op.operands]
  have hf:dX p ρ o=⟨some [],some [],Ne (cH ρ o) (oM o.dst),Ne (cH ρ o) (oM o.dst)⟩:=by simp only [dX,ho]
  rw [hf]
  split <;> try trivial
  rename_i a _ _ ha _ _;have hq:a.inR λr=>(⟨some [],some [],Ne (cH ρ o) (oM o.dst),Ne (cH ρ o) (oM o.dst)⟩:Fp).dom.rR r/\(⟨some [],some [],Ne (cH ρ o) (oM o.dst),Ne (cH ρ o) (oM o.dst)⟩:Fp).dom.rW r :=
   j5 (λr hr=>⟨qy.2 (.inl (eD hx hr)),qy.2 (.inl (eD hx hr))⟩) (h x hx _ ha).rows
  split
  ·split
   ·split
    ·exact qhC hq
    ·exact qhD hq
   ·exact qfw hq λd hd=>⟨qy.2 (.inr qh1),qy.2 (.inr qh1)⟩
  ·exact qfx hq
 ·-- fieldAddr
  split <;> first | trivial | exact qeq
 ·-- field
  split <;> try trivial
  split <;> try trivial
  split <;> trivial
 ·-- indexAddr
  rename_i t x i ho;have hx:x∈o.op.operands.toList:=by rw [ho]; simp [Op.operands]
  have hf:dX p ρ o=⟨some [],some [],cH ρ o,some []⟩:=by simp only [dX,ho]
  rw [hf]
  split <;> try trivial
  rename_i ha _;exact ZY (j5 (λr hr=>eD hx hr) (h x hx _ ha).rows)
 ·-- index
  split <;> try trivial
  split <;> try trivial
  split <;> trivial
 ·-- extract
  split <;> try trivial
  split <;> trivial
 ·-- len
  rename_i args ats ho
  split <;> try trivial
  rename_i x t hxs hts;have hx:x∈o.op.operands.toList:=by rw [ho]; simp [Op.operands,Call.operands,hxs]
  have hf:dX p ρ o=⟨some [],some [],cH ρ o,some []⟩:=by simp only [dX,ho]
  rw [hf]
  split <;> try trivial
  rename_i ha;exact qhE (j5 (λr hr=>eD hx hr) (h x hx _ ha).rows)
 ·-- append
  rename_i args ats ho
  split <;> try trivial
  rename_i x y hxs;have hx:x∈o.op.operands.toList:=by rw [ho]; simp [Op.operands,Call.operands,hxs]
  have hy:y∈o.op.operands.toList:=by rw [ho]; simp [Op.operands,Call.operands,hxs]
  have hf:dX p ρ o=⟨some [],some [],Ne (cH ρ o) (oM o.dst),Ne (cH ρ o) (oM o.dst)⟩:=by simp only [dX,ho]
  rw [hf]
  split <;> try trivial
  rename_i ha hb;exact qer (λd hd r hr=>⟨hdst hd hr,hdst hd hr⟩) (j5 (λr hr=>⟨qy.2 (.inl (eD hx hr)),qy.2 (.inl (eD hx hr))⟩) (h x hx _ ha).rows)
   (j5 (λr hr=>qy.2 (.inl (eD hy hr))) (h y hy _ hb).rows)
 ·-- copy
  rename_i args ats ho
  split <;> try trivial
  rename_i x y hxs;have hx:x∈o.op.operands.toList:=by rw [ho]; simp [Op.operands,Call.operands,hxs]
  have hy:y∈o.op.operands.toList:=by rw [ho]; simp [Op.operands,Call.operands,hxs]
  have hf:dX p ρ o=⟨some [],some [],cH ρ o,cH ρ o⟩:=by simp only [dX,ho]
  rw [hf]
  split <;> try trivial
  rename_i ha hb;exact qgA (j5 (λr hr=>⟨eD hx hr,eD hx hr⟩) (h x hx _ ha).rows) (j5 (λr hr=>eD hy hr) (h y hy _ hb).rows)
 ·-- clear
  rename_i args ats ho
  split <;> try trivial
  rename_i x hxs;have hx:x∈o.op.operands.toList:=by rw [ho]; simp [Op.operands,Call.operands,hxs]
  have hf:dX p ρ o=⟨some [],some [],cH ρ o,cH ρ o⟩:=by simp only [dX,ho]
  rw [hf]
  split <;> try trivial
  rename_i ha;exact qfy (j5 (λr hr=>⟨eD hx hr,eD hx hr⟩) (h x hx _ ha).rows)
 ·split <;> try trivial
  split <;> trivial
 ·split <;> try trivial
  split <;> trivial
 ·trivial
end Go.Tm
set_option maxHeartbeats 1000000
namespace Go.Tm
open Go.RowKit
theorem qcD{P:Program}{ρ:Nat->fi}{ev ev':Operand->Option A}{o:Oper}(h:∀ x∈o.op.operands.toList,ev x=ev' x):uq P ρ ev o=uq P ρ ev' o:=by
 obtain ⟨dst,op,ty,pos,aft,gd⟩:=o
 cases op
 case call c =>
  obtain ⟨cal,args,ts⟩:=c
  cases cal with
  | value f=>simp only [uq]
  | invoke r m=>simp only [uq]
  | builtin b =>
   have h':∀ x∈args.toList,ev x=ev' x:=λx hx=>h x (by simp [Op.operands,Call.operands] at hx ⊢; exact hx)
   cases b <;> simp only [uq]
   all_goals
    split <;> try rfl
    first | (rename_i hl; rw [hl] at h') | (rename_i hl _; rw [hl] at h')
    try rw [h' _ (zQj ..)]
    try rw [h' _ (zQv _ (zQj ..))]
 case build t parts =>
  have:(parts.toList.map λ(i,x)=>(ev x).map λv=>(i,v))=parts.toList.map λ(i,x)=>(ev' x).map λv=>(i,v) :=
   zWy λq hq=>by
    have:=h q.2 qh2;simp only [this]
  simp only [uq,this]
 case buildSlice t n parts =>
  have:(parts.toList.map λ(i,x)=>(ev x).map λv=>(i,v))=parts.toList.map λ(i,x)=>(ev' x).map λv=>(i,v) :=
   zWy λq hq=>by
    have:=h q.2 qh2;simp only [this]
  simp only [uq,this]
 case makeFunc f first caps =>
  cases f <;> simp only [uq]
  have:caps.toList.map ev=caps.toList.map ev':=zWy λx hx=>h x (by simp [Op.operands] at hx ⊢; exact .inr hx);rw [this]
 case slice t x lo hi m =>
  cases m <;> simp only [uq]
  have h1:ev x=ev' x:=h x (by simp [Op.operands]);have h2:S6 ev lo=S6 ev' lo:=by
   cases lo with
   | none=>rfl
   | some l=>simp only [S6]; rw [h l (by simp [Op.operands])]
  have h3:S6 ev hi=S6 ev' hi:=by
   cases hi with
   | none=>rfl
   | some l=>simp only [S6]; rw [h l (by simp [Op.operands])]
  rw [h1,h2,h3]
 all_goals
  simp [Op.operands] at h;simp only [uq]
  try simp only [h]
inductive qes (P:Program) (p:Nat->Bool) (ρ:Nat->fi) (st:St) (o:Oper) (x:A) (st':St):Prop
 | plain (h:(uq P ρ st.eval o).run st=some (x,st'))
 | call (m:Bool) (d f:Nat) (xf:Operand) (args:Array Operand) (ts:Array TypeId) (caps sr:List A) (vs:List V) (st1:St) (res:V) (outs:List (List C))
   (ho:o.op=.call { callee:=.value xf,args,argTypes:=ts }) (hd:o.dst=some d) (hf:st.eval xf=some (.clo f caps)) (qw:d4 (args.toList.map st.eval)=some sr)
   (hp:(oZ m p (sr++caps) MA.ret).run st=some (vs,st1)) (hc:aq P f vs res outs) (hr:(gq d (gp (sr++caps)) outs (V.toA d (lA d 0) res MA.ret)).run st1=some (x,st'))
 | callB (d f:Nat) (xf:Operand) (args:Array Operand) (ts:Array TypeId) (caps sr:List A) (vs:List V) (res:V)
   (ho:o.op=.call { callee:=.value xf,args,argTypes:=ts }) (hd:o.dst=some d) (hf:st.eval xf=some (.clo f caps)) (qw:d4 (args.toList.map st.eval)=some sr)
   (hp:(gL (sr++caps) MA.ret).run st=some (vs,st)) (hc:aq P f vs res []) (hpl:res.plain) (hr:(V.toA d (lA d 0) res MA.ret).run st=some (x,st'))
 | callI (m:Bool) (d f:Nat) (xf:Operand) (args:Array Operand) (ts:Array TypeId) (caps sr:List A) (vs:List V) (st1:St) (outs:List (List C)) (s off:Nat)
   (ho:o.op=.call { callee:=.value xf,args,argTypes:=ts }) (hd:o.dst=some d) (hf:st.eval xf=some (.clo f caps)) (qw:d4 (args.toList.map st.eval)=some sr)
   (hp:(oZ m p (sr++caps) MA.ret).run st=some (vs,st1)) (hc:yh P f vs off outs) (hhd:(sr++caps).head?=some (.obj s 0)) (hr:(gq d (gp (sr++caps)) outs (MA.ret (.obj s off))).run st1=some (x,st'))
 | callD (d f:Nat) (xf:Operand) (args:Array Operand) (ts:Array TypeId) (caps sr:List A) (vs:List V) (res:V)
   (ho:o.op=.call { callee:=.value xf,args,argTypes:=ts }) (hd:o.dst=some d) (hf:st.eval xf=some (.clo f caps)) (qw:d4 (args.toList.map st.eval)=some sr)
   (hp:(gL (sr++caps) MA.ret).run st=some (vs,st)) (hc:DOK P f vs res) (hr:(V.toA d (lA d 0) res MA.ret).run st=some (x,st'))
 | callX (m:Bool) (d f:Nat) (xf:Operand) (args:Array Operand) (ts:Array TypeId) (az caps sr xs:List A) (vs us:List V) (st1:St) (res:V) (outs:List (List C))
   (ho:o.op=.call { callee:=.value xf,args,argTypes:=ts }) (hd:o.dst=some d) (hf:st.eval xf=some (.clo f caps)) (qw:d4 (args.toList.map st.eval)=some az) (hcat:az++caps=sr++xs)
   (hp:(oZ m p sr MA.ret).run st=some (vs,st1)) (hq:(gL xs MA.ret).run st1=some (us,st1)) (hc:XOK P f vs us res outs) (hr:(gq d (gp sr) outs (V.toA d (lA d 0) res MA.ret)).run st1=some (x,st'))
 | callW (d f r e lo m:Nat) (ts:List T) (rows:List (List T)) (xf:Operand) (args:Array Operand) (tys:Array TypeId) (sr:List A) (vs:List V)
   (ho:o.op=.call { callee:=.value xf,args,argTypes:=tys }) (hd:o.dst=some d) (hf:st.eval xf=some (.clo f [])) (qw:d4 (args.toList.map st.eval)=some (.agg (ts.map A.t++[.own r]) :: sr))
   (hrw:st.rw r=some (.live e 1 rows)) (hp:LE sr=some vs) (hc:SB P f e ts rows vs lo m) (hr:x=.win r lo m) (hst:st'=st)
 | callM (f:Nat) (xf:Operand) (args:Array Operand) (ts:Array TypeId) (sr:List A) (r:T)
   (ho:o.op=.call { callee:=.value xf,args,argTypes:=ts }) (hf:st.eval xf=some (.clo f [])) (qw:d4 (args.toList.map st.eval)=some sr)
   (hk:sr.all A.mk=true) (hx:sr.any A.hasX=true) (hc:MOK P f sr r) (hr:x=.t r) (hst:st'=st)
 | callR (d f r e sz:Nat) (rows rows':List (List T)) (xf:Operand) (args:Array Operand) (ts:Array TypeId) (sr:List A) (vs:List V) (res:T)
   (ho:o.op=.call { callee:=.value xf,args,argTypes:=ts }) (hd:o.dst=some d) (hf:st.eval xf=some (.clo f [])) (qw:d4 (args.toList.map st.eval)=some (.own r :: sr))
   (hrw:st.rw r=some (.live e sz rows)) (hp:(gL sr MA.ret).run st=some (vs,st)) (hpl:As vs) (hc:ROK P f e sz rows vs res rows')
   (hr:x=.t res) (hst:st'={ st with rw:=jL st.rw r (some (.live e sz rows')) })
section
variable {P:Program} {E:En} [Tb P E] {g:Gh} {st st':St} {a:Act} {w:World} {p:Nat->Bool} {ρ:Nat->fi} {o:Oper} {x:A}
theorem qes.sound{n:Nat}(hS:yV E g n st a w)(h:qes P p ρ st o x st'):Fk P o a w λv w'=>∃ g',D2 E g st w x st' v g' w':=by
 cases h with
 | plain h =>
  obtain ⟨u,g',w',h1,h2⟩:=qcw hS h;exact qbr ⟨u,w',h1,g',h2⟩
 | call m d f xf args ts caps sr vs st1 res outs ho hd hf qw hp hc hr=>exact qcx hS ho hf qw hp hc hr
 | callB d f xf args ts caps sr vs res ho hd hf qw hp hc hpl hr=>exact qbs hS ho hf qw hp hc hpl hr
 | callI m d f xf args ts caps sr vs st1 outs s off ho hd hf qw hp hc hhd hr=>exact qbt hS ho hf qw hp hc hhd hr
 | callD d f xf args ts caps sr vs res ho hd hf qw hp hc hr=>exact qbu hS ho hf qw hp hc hr
 | callX m d f xf args ts az caps sr xs vs us st1 res outs ho hd hf qw hcat hp hq hc hr=>exact qbx hS ho hf qw hcat hp hq hc hr
 | callW d f r e lo m ts rows xf args tys sr vs ho hd hf qw hrw hp hc hr hst=>subst hr hst; exact qby hS ho hf qw hrw hp hc
 | callM f xf args ts sr r ho hf qw hk hx hc hr hst=>subst hr hst; exact qbv hS ho hf qw hk hx hc
 | callR d f r e sz rows rows' xf args ts sr vs res ho hd hf qw hrw hp hpl hc hr hst=>subst hr hst; exact qbw hS ho hf qw hrw hp hpl hc
theorem Au{st st2:St}{o:Oper}(h:∀ t,.tmp t∈o.op.operands.toList->st2.tm t=st.tm t):∀ y∈o.op.operands.toList,st2.eval y=st.eval y:=by
 intro y hy
 cases y with
 | tmp t=>simp only [St.eval]; rw [h t hy]
 | _=>rfl
theorem St.ext{s t:St}(h1:s.tm=t.tm)(h2:s.ob=t.ob)(h3:s.rw=t.rw):s=t:=by
 cases s; cases t; cases h1; cases h2; cases h3; rfl
theorem qet{D:Dom}{a:A}(ho:∀ s,D.oR s/\D.oW s)(hr:∀ r,D.rR r/\D.rW r):a.argIn D p:=by
 unfold A.argIn
 split
 ·exact ⟨ho _,λ_=>hr⟩
 ·exact KK hr _
theorem qgC{D:Dom}{y:Operand}{a:A}(hc:Cls ρ y a)(ho:∀ s,qw (Fi ρ y).objs s->D.oR s/\D.oW s)(hr:∀ r,qw (BI p (Fi ρ y)) (r / 65536)->D.rR r/\D.rW r)(hfit:∀ s off,a=.obj s off->Fi ρ y=.obj s\/Fi ρ y=.any) :
  (a.argIn D p)/\a.inR λr=>D.rR r/\D.rW r:=by
 have h2:a.inR λr=>D.rR r/\D.rW r:=by
  by_cases hob:(Fi ρ y).isObj=true
  ·obtain ⟨s,off,rfl⟩:=hc.isob hob;unfold A.inR; trivial
  ·refine j5 (λr h=>hr r ?_) hc.rows
   revert h hob
   cases Fi ρ y <;> simp [BI,fi.isObj]
 refine ⟨?_,h2⟩;unfold A.argIn
 split
 ·rename_i s;refine ⟨ho s (hc.objs s 0 rfl),λhp r=>hr r ?_⟩;rcases hfit s 0 rfl with h | h <;> rw [h] <;> simp [BI,hp,qw,fi.rows]
 ·exact h2
theorem qgD{y:Operand}{s off:Nat}(hf:gc ρ st o=true)(hy:y∈o.op.operands.toList)(h:st.eval y=some (.obj s off)):Fi ρ y=.obj s\/Fi ρ y=.any:=by
 cases y with
 | tmp t =>
  simp only [St.eval,Option.some.injEq] at h;have:=aaf.1 hf _ hy;simp only [h] at this;simp only [Fi]
  revert this
  cases ρ t <;> simp [fi.fits]
 | const v=>exact absurd rfl ((JM (Q:=λ_=>True) h).2 s off)
 | func f=>simp [St.eval] at h
 | global=>cases h
theorem qgE{y:Operand}{f:FuncId}{caps:List A}(hf:gc ρ st o=true)(hy:y∈o.op.operands.toList)(h:st.eval y=some (.clo f caps)):caps=[]\/Fi ρ y=.any:=by
 cases y with
 | tmp t =>
  simp only [St.eval,Option.some.injEq] at h;have:=aaf.1 hf _ hy;simp only [h] at this;simp only [Fi]
  revert this
  cases ρ t <;> simp [fi.fits]
 | const v =>
  simp only [St.eval] at h;unfold A.ofValue at h
  split at h
  ·split at h <;> cases h
  ·cases h
  ·unfold rS at h
   split at h <;> cases h
 | func f'=>simp only [St.eval,Option.some.injEq,A.clo.injEq] at h; exact .inl h.2.symm
 | global=>cases h
theorem qes.loc(hf:gc ρ st o=true)(h:qes P p ρ st o x st'):Off (dX p ρ o).dom st st' /\
  ∀ st2,(∀ t,.tmp t∈o.op.operands.toList->st2.tm t=st.tm t)->On (dX p ρ o).dom st st2->∃ st2',qes P p ρ st2 o x st2'/\Off (dX p ρ o).dom st2 st2'/\On (dX p ρ o).dom st' st2':=by
 have hcls:∀ x∈o.op.operands.toList,∀ a,st.eval x=some a->Cls ρ x a:=λx hx a h=>qfv hf hx h
 -- a call's parts
 have hcall:∀ {d f:Nat} {xf:Operand} {args:Array Operand} {ts:Array TypeId} {sr caps:List A},o.op=.call { callee:=.value xf,args,argTypes:=ts }->o.dst=some d->st.eval xf=some (.clo f caps)->d4 (args.toList.map st.eval)=some sr ->
   (∀ y∈xf :: args.toList,y∈o.op.operands.toList)/\(∀ r,r / 65536=d->(dX p ρ o).dom.rR r/\(dX p ρ o).dom.rW r)/\((dX p ρ o).dom.oR d/\(dX p ρ o).dom.oW d) /\
   ∀ a∈sr++caps,a.argIn (dX p ρ o).dom p/\a.inR λr=>(dX p ρ o).dom.rR r/\(dX p ρ o).dom.rW r:=by
  intro d f xf args ts sr caps ho hd hxf hass;have hf':dX p ρ o=⟨Ne (Lp (o.op.operands.toList.map λx=>(Fi ρ x).objs)) (oM o.dst),Ne (Lp (o.op.operands.toList.map λx=>(Fi ρ x).objs)) (oM o.dst),
   Ne (Lp (o.op.operands.toList.map λx=>BI p (Fi ρ x))) (oM o.dst),Ne (Lp (o.op.operands.toList.map λx=>BI p (Fi ρ x))) (oM o.dst)⟩:=by simp only [dX,ho]
  have hops:∀ y∈xf :: args.toList,y∈o.op.operands.toList:=λy hy=>by
   rw [ho];simp only [Op.operands,Call.operands]
   simpa using hy
  have hO:∀ y∈o.op.operands.toList,∀ s,qw (Fi ρ y).objs s->(dX p ρ o).dom.oR s/\(dX p ρ o).dom.oW s:=λy hy s hs=>by
   rw [hf'];have:=qy (a:=Lp (o.op.operands.toList.map λx=>(Fi ρ x).objs)) (b:=oM o.dst) |>.2 (.inl (Vz (List.mem_map.2 ⟨y,hy,rfl⟩) hs))
   exact ⟨this,this⟩
  have hR:∀ y∈o.op.operands.toList,∀ r,qw (BI p (Fi ρ y)) (r / 65536)->(dX p ρ o).dom.rR r/\(dX p ρ o).dom.rW r:=λy hy r hs=>by
   rw [hf'];have:=qy (a:=Lp (o.op.operands.toList.map λx=>BI p (Fi ρ x))) (b:=oM o.dst) |>.2 (.inl (Vz (List.mem_map.2 ⟨y,hy,rfl⟩) hs))
   exact ⟨this,this⟩
  refine ⟨hops,λr hr=>?_,?_,λa ha=>?_⟩
  ·rw [hf'];have:=qy (k:=r / 65536) (a:=Lp (o.op.operands.toList.map λx=>BI p (Fi ρ x))) (b:=oM o.dst) |>.2 (.inr (by rw [hd]; simp [oM,qw,hr]))
   exact ⟨this,this⟩
  ·rw [hf'];have:=qy (k:=d) (a:=Lp (o.op.operands.toList.map λx=>(Fi ρ x).objs)) (b:=oM o.dst) |>.2 (.inr (by rw [hd]; simp [oM,qw]))
   exact ⟨this,this⟩
  ·rcases aad.1 ha with ha | ha
   ·obtain ⟨hl,hg⟩:=yP hass;obtain ⟨i,hi⟩:=zYK ha;obtain ⟨y,hy,he⟩:=hg i a hi;have hym:=hops y (zQv _ (zQX hy));exact qgC (hcls y hym a he) (hO y hym) (hR y hym) (λs off h=>qgD hf hym (h ▸ he))
   ·have hxm:=hops xf (zQj ..);rcases qgE hf hxm hxf with h | h
    ·subst h; simp at ha
    ·have hOa:∀ s,(dX p ρ o).dom.oR s/\(dX p ρ o).dom.oW s:=λs=>hO xf hxm s (by rw [h]; trivial);have hRa:∀ r,(dX p ρ o).dom.rR r/\(dX p ρ o).dom.rW r:=λr=>hR xf hxm r (by rw [h]; trivial);exact ⟨qet hOa hRa,KK hRa a⟩
 cases h with
 | plain h =>
  obtain ⟨h1,h2⟩:=th (uq P ρ st.eval o) (qgB hcls) h;refine ⟨h1,λst2 ht hon=>?_⟩;obtain ⟨st2',h3,h4,h5⟩:=h2 st2 hon;refine ⟨st2',.plain ?_,h4,h5⟩;rw [qcD (Au ht)];exact h3
 | call m d f xf args ts caps sr vs st1 res outs ho hd hxf hass hp hc hr =>
  obtain ⟨hops,hdr,hdo,hin⟩:=hcall ho hd hxf hass;obtain ⟨h1,h2⟩:=th (oZ m p (sr++caps) MA.ret) (Oo (D:=(dX p ρ o).dom) (λa ha=>(hin a ha).1) (λ_=>trivial)) hp;obtain ⟨h3,h4⟩:=th (gq d (gp (sr++caps)) outs (V.toA d (lA d 0) res MA.ret)) (FZ (D:=(dX p ρ o).dom) hdr (λs hs=>JL (λa ha=>(hin a ha).1) s hs) (Oq hdr hdo λ_=>trivial)) hr;refine ⟨h1.trans h3,λst2 ht hon=>?_⟩;obtain ⟨st3,h5,h6,h7⟩:=h2 st2 hon;obtain ⟨st4,h8,h9,h10⟩:=h4 st3 h7;have hev:=Au ht;refine ⟨st4,.call m d f xf args ts caps sr vs st3 res outs ho hd ((hev xf (hops xf (zQj ..))).trans hxf) ?_ h5 hc h8,h6.trans h9,h10⟩;rw [<- hass]
  congr 1
  exact zWy λy hy=>hev y (hops y (zQv _ hy))
 | callI m d f xf args ts caps sr vs st1 outs s off ho hd hxf hass hp hc hhd hr =>
  obtain ⟨hops,hdr,hdo,hin⟩:=hcall ho hd hxf hass;obtain ⟨h1,h2⟩:=th (oZ m p (sr++caps) MA.ret) (Oo (D:=(dX p ρ o).dom) (λa ha=>(hin a ha).1) (λ_=>trivial)) hp;obtain ⟨h3,h4⟩:=th (gq d (gp (sr++caps)) outs (MA.ret (A.obj s off))) (FZ (D:=(dX p ρ o).dom) hdr (λs hs=>JL (λa ha=>(hin a ha).1) s hs) trivial) hr;refine ⟨h1.trans h3,λst2 ht hon=>?_⟩;obtain ⟨st3,h5,h6,h7⟩:=h2 st2 hon;obtain ⟨st4,h8,h9,h10⟩:=h4 st3 h7;have hev:=Au ht;refine ⟨st4,.callI m d f xf args ts caps sr vs st3 outs s off ho hd ((hev xf (hops xf (zQj ..))).trans hxf) ?_ h5 hc hhd h8,h6.trans h9,h10⟩;rw [<- hass]
  congr 1
  exact zWy λy hy=>hev y (hops y (zQv _ hy))
 | callB d f xf args ts caps sr vs res ho hd hxf hass hp hc hpl hr =>
  obtain ⟨hops,hdr,hdo,hin⟩:=hcall ho hd hxf hass;obtain ⟨h1,h2⟩:=th (gL (sr++caps) MA.ret) (Bt (D:=⟨(dX p ρ o).dom.oR,λ_=>False,(dX p ρ o).dom.rR,λ_=>False⟩) (vG λa ha=>j5 (λr h=>h.1) (hin a ha).2) (λ_=>trivial)) hp;obtain ⟨h3,h4⟩:=th (V.toA d (lA d 0) res MA.ret) (Oq (D:=(dX p ρ o).dom) hdr hdo λ_=>trivial) hr;refine ⟨h3,λst2 ht hon=>?_⟩;obtain ⟨st3,h5,h6,h7⟩:=h2 st2 ⟨hon.ob,hon.rw⟩;have h32:st3=st2:=St.ext h6.tm (funext λs=>h6.ob s (λh=>h)) (funext λs=>h6.rw s (λh=>h));subst h32;obtain ⟨st4,h8,h9,h10⟩:=h4 st3 hon;have hev:=Au ht;refine ⟨st4,.callB d f xf args ts caps sr vs res ho hd ((hev xf (hops xf (zQj ..))).trans hxf) ?_ h5 hc hpl h8,h9,h10⟩;rw [<- hass]
  congr 1
  exact zWy λy hy=>hev y (hops y (zQv _ hy))
 | callD d f xf args ts caps sr vs res ho hd hxf hass hp hc hr =>
  obtain ⟨hops,hdr,hdo,hin⟩:=hcall ho hd hxf hass;obtain ⟨h1,h2⟩:=th (gL (sr++caps) MA.ret) (Bt (D:=⟨(dX p ρ o).dom.oR,λ_=>False,(dX p ρ o).dom.rR,λ_=>False⟩) (vG λa ha=>j5 (λr h=>h.1) (hin a ha).2) (λ_=>trivial)) hp;obtain ⟨h3,h4⟩:=th (V.toA d (lA d 0) res MA.ret) (Oq (D:=(dX p ρ o).dom) hdr hdo λ_=>trivial) hr;refine ⟨h3,λst2 ht hon=>?_⟩;obtain ⟨st3,h5,h6,h7⟩:=h2 st2 ⟨hon.ob,hon.rw⟩;have h32:st3=st2:=St.ext h6.tm (funext λs=>h6.ob s (λh=>h)) (funext λs=>h6.rw s (λh=>h));subst h32;obtain ⟨st4,h8,h9,h10⟩:=h4 st3 hon;have hev:=Au ht;refine ⟨st4,.callD d f xf args ts caps sr vs res ho hd ((hev xf (hops xf (zQj ..))).trans hxf) ?_ h5 hc h8,h9,h10⟩;rw [<- hass]
  congr 1
  exact zWy λy hy=>hev y (hops y (zQv _ hy))
 | callX m d f xf args ts az caps sr xs vs us st1 res outs ho hd hxf hass hcat hp hq hc hr =>
  obtain ⟨hops,hdr,hdo,hin⟩:=hcall ho hd hxf hass;rw [hcat] at hin;obtain ⟨h1,h2⟩:=th (oZ m p sr MA.ret) (Oo (D:=(dX p ρ o).dom) (λa ha=>(hin a (zZg _ ha)).1) (λ_=>trivial)) hp;obtain ⟨g1,g2⟩:=th (gL xs MA.ret) (Bt (D:=⟨(dX p ρ o).dom.oR,λ_=>False,(dX p ρ o).dom.rR,λ_=>False⟩) (vG λa ha=>j5 (λr h=>h.1) (hin a (List.mem_append_right _ ha)).2) (λ_=>trivial)) hq;obtain ⟨h3,h4⟩:=th (gq d (gp sr) outs (V.toA d (lA d 0) res MA.ret)) (FZ (D:=(dX p ρ o).dom) hdr (λs hs=>JL (λa ha=>(hin a (zZg _ ha)).1) s hs) (Oq hdr hdo λ_=>trivial)) hr;refine ⟨h1.trans h3,λst2 ht hon=>?_⟩;obtain ⟨st3,h5,h6,h7⟩:=h2 st2 hon;obtain ⟨st5,g5,g6,g7⟩:=g2 st3 ⟨h7.ob,h7.rw⟩;have h53:st5=st3:=St.ext g6.tm (funext λs=>g6.ob s (λh=>h)) (funext λs=>g6.rw s (λh=>h));subst h53;obtain ⟨st4,h8,h9,h10⟩:=h4 st5 h7;have hev:=Au ht;refine ⟨st4,.callX m d f xf args ts az caps sr xs vs us st5 res outs ho hd ((hev xf (hops xf (zQj ..))).trans hxf) ?_ hcat h5 g5 hc h8,h6.trans h9,h10⟩;rw [<- hass]
  congr 1
  exact zWy λy hy=>hev y (hops y (zQv _ hy))
 | callW d f r e lo m ts rows xf args tys sr vs ho hd hxf hass hrw hp hc hr hst =>
  subst hr hst;obtain ⟨hops,hdr,hdo,hin⟩:=hcall (caps:=[]) ho hd hxf hass;have hr0:=(hin (.agg (ts.map A.t++[.own r])) jC).2;unfold A.inR at hr0;have hr1:(dX p ρ o).dom.rR r/\(dX p ρ o).dom.rW r:=by
   have key:∀ l:List T,gf (λr=>(dX p ρ o).dom.rR r/\(dX p ρ o).dom.rW r) (l.map A.t++[.own r])->(dX p ρ o).dom.rR r/\(dX p ρ o).dom.rW r:=by
    intro l
    induction l with
    | nil=>intro h; simp only [List.map_nil,zQy] at h; unfold gf at h; have:=h.1; unfold A.inR at this; exact this
    | cons x l ih=>intro h; simp only [zWk,zXz] at h; unfold gf at h; exact ih h.2
   exact key ts hr0
  refine ⟨Off.refl _ _,λst2 ht hon=>⟨st2,?_,Off.refl _ _,hon⟩⟩;have hev:=Au ht;refine .callW d f r e lo m ts rows xf args tys sr vs ho hd ((hev xf (hops xf (zQj ..))).trans hxf) ?_ ((hon.rw r hr1.1).trans hrw) hp hc rfl rfl;rw [<- hass]
  congr 1
  exact zWy λy hy=>hev y (hops y (zQv _ hy))
 | callM f xf args ts sr r ho hxf hass hk hx hc hr hst =>
  subst hr hst;refine ⟨Off.refl _ _,λst2 ht hon=>⟨st2,?_,Off.refl _ _,hon⟩⟩;have hev:=Au ht;have hops:∀ y∈xf :: args.toList,y∈o.op.operands.toList:=λy hy=>by
   rw [ho];simp only [Op.operands,Call.operands]
   simpa using hy
  refine .callM f xf args ts sr r ho ((hev xf (hops xf (zQj ..))).trans hxf) ?_ hk hx hc rfl rfl;rw [<- hass]
  congr 1
  exact zWy λy hy=>hev y (hops y (zQv _ hy))
 | callR d f r e sz rows rows' xf args ts sr vs res ho hd hxf hass hrw hp hpl hc hr hst =>
  subst hr hst;obtain ⟨hops,hdr,hdo,hin⟩:=hcall (caps:=[]) ho hd hxf hass;have hr0:=(hin (.own r) jC).2;unfold A.inR at hr0;obtain ⟨h1,h2⟩:=th (gL sr MA.ret) (Bt (D:=⟨(dX p ρ o).dom.oR,λ_=>False,(dX p ρ o).dom.rR,λ_=>False⟩) (vG λa ha=>j5 (λr h=>h.1) (hin a (by simp [ha])).2) (λ_=>trivial)) hp;refine ⟨⟨rfl,λ_ _=>rfl,λi hi=>eT _ _ _ _ (λhe=>hi (he ▸ hr0.2))⟩,λst2 ht hon=>?_⟩;obtain ⟨st3,h5,h6,h7⟩:=h2 st2 ⟨hon.ob,hon.rw⟩;have h32:st3=st2:=St.ext h6.tm (funext λs=>h6.ob s (λh=>h)) (funext λs=>h6.rw s (λh=>h));subst h32;have hev:=Au ht;refine ⟨_,.callR d f r e sz rows rows' xf args ts sr vs res ho hd ((hev xf (hops xf (zQj ..))).trans hxf) ?_ ((hon.rw r hr0.1).trans hrw) h5 hpl hc rfl rfl,⟨rfl,λ_ _=>rfl,λi hi=>eT _ _ _ _ (λhe=>hi (he ▸ hr0.2))⟩,⟨hon.ob,λi hi=>qcz (hon.rw i hi)⟩⟩;rw [<- hass]
  congr 1
  exact zWy λy hy=>hev y (hops y (zQv _ hy))
end
def lw(ops:Array Oper)(st:St)(o:Oper):Option Bool:=match o.guard with
 | none=>some true
 | some (j,want)=>match (ops[j]?).bind (·.dst) with
  | none=>some false
  | some d=>match st.tm d with
   | .t (.bool b)=>some (b == want)
   | .tup []=>some false
   | _=>none
def qgF(ops:Array Oper)(o:Oper):List Nat:=match o.guard with
 | none=>[]
 | some (j,_)=>((ops[j]?).bind (·.dst)).toList
inductive IS (P:Program) (p:Nat->Bool) (ρ:Nat->fi) (ops:Array Oper) (o:Oper) (st:St):St->Prop
 | run (x:A) (st1:St) (hg:lw ops st o=some true) (hf:gc ρ st o=true) (h:qes P p ρ st o x st1):IS P p ρ ops o st (st1.put o.dst x)
 | skip (hg:lw ops st o=some false):IS P p ρ ops o st (st.put o.dst (.tup []))
section
variable {P:Program} {E:En} [Tb P E] {g:Gh} {st st':St} {a:Act} {w:World} {p:Nat->Bool} {ρ:Nat->fi} {o:Oper} {x:A} {ops:Array Oper}
theorem SC{st2:St}(h:∀ d∈qgF ops o,st2.tm d=st.tm d):lw ops st2 o=lw ops st o:=by
 unfold lw qgF at *
 split
 ·rfl
 ·rename_i j want hg;simp only [hg] at h
  split
  ·rfl
  ·rename_i d hd;simp only [hd,Option.toList] at h;rw [h d jC]
theorem ZZ{st2:St}(h:∀ t,.tmp t∈o.op.operands.toList->st2.tm t=st.tm t):gc ρ st2 o=gc ρ st o:=by
 unfold gc
 revert h
 generalize o.op.operands.toList=l;intro h
 induction l with
 | nil=>rfl
 | cons y l ih =>
  simp only [zYj];rw [ih λt ht=>h t (zQv _ ht)]
  cases y with
  | tmp t=>simp only [h t (zQj ..)]
  | _=>rfl
def qdP(D:Dom)(dst:Option Nat)(st st':St):Prop:=(∀ t,dst≠some t->st'.tm t=st.tm t)/\(∀ s,¬ D.oW s->st'.ob s=st.ob s)/\∀ r,¬ D.rW r->st'.rw r=st.rw r
theorem VB{d:Option Nat}{v:A}{t:Nat}(h:d≠some t):(st.put d v).tm t=st.tm t:=by
 cases d with
 | none=>rfl
 | some d=>exact eT _ _ _ _ (λhe=>h (he ▸ rfl))
theorem KN{d:Nat}{v:A}:(st.put (some d) v).tm d=v:=io _ _ _
theorem Ij{d:Option Nat}{v:A}:(st.put d v).ob=st.ob:=by cases d <;> rfl
theorem Ik{d:Option Nat}{v:A}:(st.put d v).rw=st.rw:=by cases d <;> rfl
theorem IS.loc(h:IS P p ρ ops o st st'):qdP (dX p ρ o).dom o.dst st st' /\
  ∀ st2,(∀ t,.tmp t∈o.op.operands.toList->st2.tm t=st.tm t)->(∀ d∈qgF ops o,st2.tm d=st.tm d)->On (dX p ρ o).dom st st2 ->
   ∃ st2',IS P p ρ ops o st2 st2'/\(∀ t,o.dst=some t->st2'.tm t=st'.tm t)/\qdP (dX p ρ o).dom o.dst st2 st2'/\On (dX p ρ o).dom st' st2':=by
 cases h with
 | run x st1 hg hf h =>
  obtain ⟨h1,h2⟩:=h.loc hf;refine ⟨⟨λt ht=>by rw [VB ht,h1.tm],λs hs=>by rw [Ij]; exact h1.ob s hs,λs hs=>by rw [Ik]; exact h1.rw s hs⟩,λst2 ht hd hon=>?_⟩;obtain ⟨st2',h3,h4,h5⟩:=h2 st2 ht hon;refine ⟨_,.run x st2' ((SC hd).trans hg) ((ZZ ht).trans hf) h3,λt he=>?_,⟨λt ht=>by rw [VB ht,h4.tm],λs hs=>by rw [Ij]; exact h4.ob s hs,λs hs=>by rw [Ik]; exact h4.rw s hs⟩,⟨λs hs=>by rw [Ij,Ij]; exact h5.ob s hs,λs hs=>by rw [Ik,Ik]; exact h5.rw s hs⟩⟩;rw [he,KN,KN]
 | skip hg =>
  refine ⟨⟨λt ht=>VB ht,λs hs=>by rw [Ij],λs hs=>by rw [Ik]⟩,λst2 ht hd hon=>?_⟩;refine ⟨_,.skip ((SC hd).trans hg),λt he=>by rw [he,KN,KN],⟨λt ht=>VB ht,λs hs=>by rw [Ij],λs hs=>by rw [Ik]⟩,⟨λs hs=>by rw [Ij,Ij]; exact hon.ob s hs,λs hs=>by rw [Ik,Ik]; exact hon.rw s hs⟩⟩
def qeu(a b:Option (List Nat)):Bool:=match a,b with
 | some [],_=>true
 | _,some []=>true
 | some a,some b=>a.all λx=>!b.contains x
 | _,_=>false
theorem KO{a b:Option (List Nat)}(h:qeu a b=true){k:Nat}(ha:qw a k):¬ qw b k:=by
 intro hb;unfold qeu at h
 split at h
 ·simp [qw] at ha
 ·simp [qw] at hb
 ·have:=aaf.1 h k ha;simp at this;exact this hb
 ·cases h
def QX(ops:Array Oper)(o:Oper):List Nat:=qgF ops o++o.op.operands.toList.filterMap λ| .tmp t=>some t | _=>none
def qdQ(d:Option Nat)(l:List Nat):Bool:=match d with | some d=>l.contains d | none=>false
def qfz(p:Nat->Bool)(ρ:Nat->fi)(ops:Array Oper)(o1 o2:Oper):Bool :=
 !qdQ o1.dst (o2.dst.toList++QX ops o2) && !qdQ o2.dst (QX ops o1) && qeu (dX p ρ o1).oW (dX p ρ o2).oR && qeu (dX p ρ o2).oW (dX p ρ o1).oR &&
  qeu (dX p ρ o1).rW (dX p ρ o2).rR && qeu (dX p ρ o2).rW (dX p ρ o1).rR
theorem qbC{t:Nat}(h:.tmp t∈o.op.operands.toList):t∈QX ops o:=by
 unfold QX;exact aad.2 (.inr (List.mem_filterMap.2 ⟨_,h,rfl⟩))
theorem qgG{o1 o2:Oper}{b:St}{c:St}(hi:qfz p ρ ops o1 o2=true)(h2:IS P p ρ ops o2 st b)(h1:IS P p ρ ops o1 b c):∃ b',IS P p ρ ops o1 st b'/\IS P p ρ ops o2 b' c:=by
 simp only [qfz,sk,Bool.not_eq_true'] at hi;obtain ⟨⟨⟨⟨⟨hd1,hd2⟩,ho12⟩,ho21⟩,hr12⟩,hr21⟩:=hi;have hn1:∀ t,o1.dst=some t->t∉o2.dst.toList/\t∉QX ops o2:=λt ht=>by
  rw [ht] at hd1;simp [qdQ] at hd1;exact ⟨by simpa using hd1.1,hd1.2⟩
 have hn2:∀ t,o2.dst=some t->t∉QX ops o1:=λt ht=>by
  rw [ht] at hd2
  simpa [qdQ] using hd2
 obtain ⟨a1,a2⟩:=h2.loc;obtain ⟨b1,b2⟩:=h1.loc;have e1:=qdO p ρ o1;have e2:=qdO p ρ o2;have hO12:∀ s,(dX p ρ o1).dom.oW s->¬ (dX p ρ o2).dom.oR s:=λs=>KO ho12;have hO21:∀ s,(dX p ρ o2).dom.oW s->¬ (dX p ρ o1).dom.oR s:=λs=>KO ho21;have hR12:∀ r,(dX p ρ o1).dom.rW r->¬ (dX p ρ o2).dom.rR r:=λs=>KO hr12;have hR21:∀ r,(dX p ρ o2).dom.rW r->¬ (dX p ρ o1).dom.rR r:=λs=>KO hr21;obtain ⟨b',c1,c2,c3,c4⟩:=b2 st (λt ht=>(a1.1 t (λhe=>hn2 t he (qbC ht))).symm) (λt ht=>(a1.1 t (λhe=>hn2 t he (aad.2 (.inl ht)))).symm)
  ⟨λs hs=>(a1.2.1 s (λhw=>hO21 s hw hs)).symm,λs hs=>(a1.2.2 s (λhw=>hR21 s hw hs)).symm⟩
 obtain ⟨c',f1,f2,f3,f4⟩:=a2 b' (λt ht=>c3.1 t (λhe=>(hn1 t he).2 (qbC ht))) (λt ht=>c3.1 t (λhe=>(hn1 t he).2 (aad.2 (.inl ht))))
  ⟨λs hs=>c3.2.1 s (λhw=>hO12 s hw hs),λs hs=>c3.2.2 s (λhw=>hR12 s hw hs)⟩
 have hcc:c'=c:=by
  refine St.ext (funext λt=>?_) (funext λs=>?_) (funext λr=>?_)
  ·by_cases h2t:o2.dst=some t
   ·rw [f2 t h2t];exact (b1.1 t (λhe=>(hn1 t he).1 (by rw [h2t]; simp))).symm
   ·by_cases h1t:o1.dst=some t
    ·rw [f3.1 t h2t,c2 t h1t]
    ·rw [f3.1 t h2t,c3.1 t h1t,b1.1 t h1t,a1.1 t h2t]
  ·by_cases h2s:(dX p ρ o2).dom.oW s
   ·rw [f4.ob s (e2.ob s h2s)];exact (b1.2.1 s (λhw=>hO12 s hw (e2.ob s h2s))).symm
   ·by_cases h1s:(dX p ρ o1).dom.oW s
    ·rw [f3.2.1 s h2s,c4.ob s (e1.ob s h1s)]
    ·rw [f3.2.1 s h2s,c3.2.1 s h1s,b1.2.1 s h1s,a1.2.1 s h2s]
  ·by_cases h2s:(dX p ρ o2).dom.rW r
   ·rw [f4.rw r (e2.rw r h2s)];exact (b1.2.2 r (λhw=>hR12 r hw (e2.rw r h2s))).symm
   ·by_cases h1s:(dX p ρ o1).dom.rW r
    ·rw [f3.2.2 r h2s,c4.rw r (e1.rw r h1s)]
    ·rw [f3.2.2 r h2s,c3.2.2 r h1s,b1.2.2 r h1s,a1.2.2 r h2s]
 exact ⟨b',c1,hcc ▸ f1⟩
def LG(P:Program)(p:Nat->Bool)(ρ:Nat->fi)(ops:Array Oper)(i:Nat)(st st':St):Prop:=match ops[i]? with
 | some o=>IS P p ρ ops o st st'
 | none=>st'=st
def qcE(P:Program)(p:Nat->Bool)(ρ:Nat->fi)(ops:Array Oper):List Nat->St->St->Prop
 | [],st,st'=>st'=st
 | i :: l,st,st'=>∃ b,LG P p ρ ops i st b/\qcE P p ρ ops l b st'
def Mv(p:Nat->Bool)(ρ:Nat->fi)(ops:Array Oper)(i j:Nat):Bool:=match ops[i]?,ops[j]? with
 | some a,some b=>qfz p ρ ops a b
 | _,_=>true
theorem qfA{i j:Nat}{b c:St}(hi:Mv p ρ ops i j=true)(h2:LG P p ρ ops j st b)(h1:LG P p ρ ops i b c):∃ b',LG P p ρ ops i st b'/\LG P p ρ ops j b' c:=by
 unfold LG Mv at *
 revert h1 h2 hi
 cases ops[i]? <;> cases ops[j]? <;> simp only [] <;> intro hi h2 h1
 ·exact ⟨st,rfl,by rw [h1,h2]⟩
 ·exact ⟨st,rfl,by rw [h1]; exact h2⟩
 ·exact ⟨c,h2 ▸ h1,rfl⟩
 ·exact qgG hi h2 h1
theorem pull{i:Nat}:∀ {l:List Nat} {st st':St},i∈l->(∀ l1 l2,l=l1++i :: l2->i∉l1->∀ j∈l1,Mv p ρ ops i j=true)->qcE P p ρ ops l st st'->∃ b,LG P p ρ ops i st b/\qcE P p ρ ops (l.erase i) b st'
 | [],st,st',h,_,_=>by simp at h
 | j :: l,st,st',h,hind,hr=>by
  by_cases he:i=j
  ·subst he;rw [List.erase_cons_head];exact hr
  ·obtain ⟨b,h1,h2⟩:=hr;have him:i∈l:=(aah.1 h).resolve_left he;obtain ⟨c,h3,h4⟩:=pull him (λl1 l2 hl hni j' hj'=>hind (j :: l1) l2 (by rw [hl]; rfl) (by simp [he,hni]) j' (zQv _ hj')) h2;have hij:Mv p ρ ops i j=true:=by
    obtain ⟨l1,l2,hl,hni⟩:=List.eq_append_cons_of_mem him;exact hind (j :: l1) l2 (by rw [hl]; rfl) (by simp [he,hni]) j (zQj ..)
   obtain ⟨d,h5,h6⟩:=qfA hij h1 h3;refine ⟨d,h5,?_⟩;rw [List.erase_cons_tail (by simpa using λh=>he h.symm)];exact ⟨c,h6,h4⟩
end
section
variable {P:Program} {E:En} [Tb P E] {g:Gh} {st st':St} {a:Act} {w:World} {p:Nat->Bool} {ρ:Nat->fi} {o:Oper} {x:A} {ops:Array Oper} {n:Nat}
theorem gS.put(h:gS E g st w)(d:Option Nat)(v:A):gS E g (st.put d v) w:=by
 cases d with
 | none=>exact h
 | some d=>exact ⟨h.ob,h.obne,h.row,h.rowne,h.rowob,h.F,h.os,h.tape,h.output,h.sizes,h.frame,h.shp,h.dep0⟩
theorem yV.put{v:Value}{g':Gh}{w':World}{st1:St}{d:Option Nat}(hS:yV E g n st a w)(h:D2 E g st w x st1 v g' w')(hd:∀ t,d=some t->t < n):yV E g' n (st1.put d x) (a.put d v) w':=by
 refine ⟨h.mem.put d x,?_,?_,λi hi=>?_,λi hi=>?_,λs b hs=>?_,λv' hv'=>by
  obtain ⟨h1,h2⟩:=hS.pin v' hv';exact ⟨by unfold St.R; rw [Ik]; exact (h.ext.R _ h1).1,(h.ext.R _ h1).2.trans h2⟩⟩
 ·cases d <;> simp [Act.put,hS.size]
 ·cases d <;> simp [Act.put,hS.defers]
 ·cases d with
  | none =>
   obtain ⟨u,h1,h2⟩:=hS.tm i hi;exact ⟨u,h1,by show VR w' g' st1.O st1.R (st1.tm i) u; rw [h.tm]; exact h2.mono h.ext⟩
  | some d =>
   by_cases he:d=i
   ·subst he;exact ⟨v,by simp [Act.put,hS.size,hi],by show VR w' g' st1.O st1.R (jL st1.tm d x d) v; rw [io]; exact h.vr⟩
   ·obtain ⟨u,h1,h2⟩:=hS.tm i hi;refine ⟨u,by simp only [Act.put]; rw [Array.getElem?_setIfInBounds_ne he]; exact h1,?_⟩;show VR w' g' st1.O st1.R (jL st1.tm d x i) u;rw [eT _ _ _ _ (λh=>he h.symm),h.tm];exact h2.mono h.ext
 ·rw [VB (λhe=>by have:=hd i he; omega),h.tm];exact hS.und i hi
 ·obtain ⟨h1,h2⟩:=hS.lent s b hs;refine ⟨?_,(h.ext.O s h1).2.trans h2⟩;unfold St.O;rw [Ij];exact (h.ext.O s h1).1
theorem yV.skip{d:Option Nat}(hS:yV E g n st a w)(hd:∀ t,d=some t->t < n):yV E g n (st.put d (.tup [])) (a.put d undef) w:=by
 refine hS.put ⟨hS.mem,?_,vZ.refl _ _ _ _,rfl⟩ hd;exact .tup [] [] rfl (λi x u h=>by simp at h)
theorem yV.drew(hS:yV E g n st a w):yV E g n st a { w with drawn:=w.drawn+1 }:=by
 have hsame:Fj g.F w { w with drawn:=w.drawn+1 }:=λ_ _=>rfl;obtain ⟨⟨h1,h2,h3,h4,h5,h6,h7,h8,h9,h10,h11,hsp,hd0⟩,h12,h13,h14,h15,h16,h17⟩:=hS;have hE:vZ w { w with drawn:=w.drawn+1 } g g st.O st.R st.O st.R:=⟨hsame,λ_ h=>h,λ_ h=>⟨h,rfl⟩,λ_ h=>⟨h,rfl⟩,⟨rfl,rfl,rfl⟩,rfl,rfl⟩;refine ⟨⟨λs cells hs=>?_,h2,λr x hr=>(h3 r x hr).mono hsame (λ_ h=>h) (λ_ b hb=>⟨rfl,λh=>h⟩),h4,h5,h6,h7,h8,h9,h10,h11,hsp,hd0⟩,h12,h13,λi hi=>?_,h15,h16,h17⟩
 ·obtain ⟨arr,e,q1,q2,q3,q4⟩:=h1 s cells hs;exact ⟨arr,e,q1,q2,λj x hj=>by obtain ⟨r1,v,r2,r3⟩:=q3 j x hj; exact ⟨r1,v,r2,r3.mono hE⟩,q4⟩
 ·obtain ⟨v,q1,q2⟩:=h14 i hi;exact ⟨v,q1,q2.mono hE⟩
theorem Zw{b:Bool}(hS:yV E g n st a w)(h:lw ops st o=some b):Region.wanted o (yielded ops a.tmps)=b:=by
 unfold lw at h;unfold Region.wanted
 split at h
 ·rename_i hg
  cases h
  simp only [hg]
 ·rename_i j want hg;simp only [hg]
  split at h
  ·rename_i hd
   cases h
   simp [yielded,hd]
  ·rename_i d hd;have hlt:d < n:=by
    rcases zZq d n with hlt | hge
    ·exact hlt
    ·rw [hS.und d hge] at h; cases h
   obtain ⟨v,h1,h2⟩:=hS.tm d hlt
   split at h
   ·rename_i b' hb
    cases h
    rw [hb] at h2
    cases h2 with
    | t x v h3 =>
     cases h3
     simp [yielded,hd,h1]
   ·rename_i hb
    cases h
    rw [hb] at h2
    cases h2 with
    | tup l vs hl hx =>
     have:vs=[]:=zQW (by simpa using hl.symm);subst this;simp [yielded,hd,h1]
   ·cases h
def DG(n:Nat)(o:Oper):Bool:=match o.dst with | some d=>Nat.blt d n | none=>true
theorem qcF(h:DG n o=true):∀ t,o.dst=some t->t < n:=by
 intro t ht;rw [DG,ht] at h
 simpa using h
theorem VC{i:Nat}{K:Act->World->Prop}{Q:Exit->Act->World->Prop}(hS:yV E g n st a w)(hd:∀ o,ops[i]?=some o->DG n o=true)(h:LG P p ρ ops i st st')
  (hK:∀ g' a' w',yV E g' n st' a' w'->K a' w'):wpOp P ops Q i K a w:=by
 unfold wpOp;unfold LG at h
 split
 ·rename_i ho;rw [ho] at h;simp only at h;subst h;exact hK g a w hS
 ·rename_i o ho;rw [ho] at h;simp only at h;have hdo:=qcF (hd o ho)
  cases h with
  | run x st1 hg hf he =>
   rw [Zw hS hg,if_pos rfl];exact .inl (he.sound hS K Q λv w' ⟨g',hA⟩=>hK g' _ _ (hS.put hA hdo))
  | skip hg =>
   rw [Zw hS hg,if_neg jC];exact hK g _ _ (hS.skip hdo)
theorem Zx{Q:Exit->Act->World->Prop}(hd:∀ (i:Nat) (o:Oper),ops[i]?=some o->DG n o=true)(hQ:∀ g a w,yV E g n st' a w->Q .normal a w):∀ {l:List Nat} {st:St} {g:Gh} {a:Act} {w:World},yV E g n st a w->qcE P p ρ ops l st st'->wpOps P ops Q l a w
 | [],st,g,a,w,hS,h=>hQ g a w (by have h:st'=st:=h; rw [h]; exact hS)
 | i :: l,st,g,a,w,hS,⟨b,h1,h2⟩=>by
  rw [wpOps_cons];exact VC hS (hd i) h1 λg' a' w' hS'=>Zx hd hQ hS' h2
def qfB(D:Array Nat)(o:Oper):Nat:=o.after.toList.foldl (λs e=>if Region.binds .any e then s ||| 2 ^ e.on ||| D.getD e.on 0 else s) 0
def qbD(p:Nat->Bool)(ρ:Nat->fi)(n:Nat)(ops:Array Oper):Bool :=
 let D:=Region.before ops
 (zXY ops.size).all λi=>match ops[i]? with
  | none=>true
  | some o=>DG n o && (o.after.toList.all λe=>!Region.binds .any e || Nat.blt e.on i) && zWz (D.getD i 0) (qfB D o) && (zXY i).all λj=>(D.getD i 0).testBit j || Mv p ρ ops i j
theorem Zy{D:Array Nat}{j:Nat}:∀ {l:List Edge} {s:Nat},(l.foldl (λs e=>if Region.binds .any e then s ||| 2 ^ e.on ||| D.getD e.on 0 else s) s).testBit j=true->s.testBit j=true\/∃ e∈l,Region.binds .any e=true/\(e.on=j\/(D.getD e.on 0).testBit j=true)
 | [],s,h=>.inl h
 | e :: l,s,h=>by
  simp only [zYG] at h;rcases Zy h with h | ⟨e',he',h⟩
  ·split at h
   ·rename_i hb;simp only [Nat.testBit_or,Bool.or_eq_true] at h;rcases h with (h | h) | h
    ·exact .inl h
    ·rw [Nat.testBit_two_pow] at h;exact .inr ⟨e,zQj ..,hb,.inl (by simpa using h)⟩
    ·exact .inr ⟨e,zQj ..,hb,.inr h⟩
   ·exact .inl h
  ·exact .inr ⟨e',zQv _ he',h⟩
structure VD (p:Nat->Bool) (ρ:Nat->fi) (n:Nat) (ops:Array Oper) (D:Array Nat):Prop where
 dst:∀ (i:Nat) (o:Oper),ops[i]?=some o->DG n o=true
 back:∀ (i:Nat) (o:Oper),ops[i]?=some o->∀ e∈o.after,Region.binds .any e=true->e.on < i
 dep:∀ (i:Nat) (o:Oper),ops[i]?=some o->∀ j,(D.getD i 0).testBit j=true->∃ e∈o.after,Region.binds .any e=true/\(e.on=j\/(D.getD e.on 0).testBit j=true)
 ind:∀ (i j:Nat) (o:Oper),ops[i]?=some o->j < i->(D.getD i 0).testBit j=true\/Mv p ρ ops i j=true
theorem qcG(h:qbD p ρ n ops=true):VD p ρ n ops (Region.before ops):=by
 have hh:∀ (i:Nat) (o:Oper),ops[i]?=some o->((DG n o=true/\(o.after.toList.all λe=>!Region.binds .any e || Nat.blt e.on i)=true)/\zWz ((Region.before ops).getD i 0) (qfB (Region.before ops) o)=true)/\((zXY i).all λj=>((Region.before ops).getD i 0).testBit j || Mv p ρ ops i j)=true:=λi o hi=>by
  have hlt:i < ops.size:=(aag.1 hi).1;have:=aaf.1 h i (List.mem_range.2 hlt);rw [hi] at this
  simpa only [sk] using this
 refine ⟨λi o hi=>(hh i o hi).1.1.1,λi o hi e he hb=>?_,λi o hi j hj=>?_,λi j o hi hj=>?_⟩
 ·have:=aaf.1 (hh i o hi).1.1.2 e (by simpa using he);rw [hb] at this
  simpa using this
 ·rw [zWG (hh i o hi).1.2] at hj;rcases Zy hj with h | ⟨e,he,h⟩
  ·simp at h
  ·exact ⟨e,by simpa using he,h⟩
 ·have:=aaf.1 (hh i o hi).2 j (List.mem_range.2 hj)
  simpa only [Bool.or_eq_true] using this
def qib(ops:Array Oper)(listed:Array Bool):Prop:=∀ (k:Nat) (o:Oper),listed.getD k false=true->ops[k]?=some o->∀ e∈o.after,Region.binds .any e=true->listed.getD e.on false=true
theorem closed{D:Array Nat}{listed:Array Bool}(hF:VD p ρ n ops D)(hd:qib ops listed):∀ (i:Nat) (o:Oper),ops[i]?=some o->(∀ e∈o.after,Region.binds .any e=true->listed.getD e.on false=true)->∀ j,(D.getD i 0).testBit j=true->listed.getD j false=true:=by
 intro i
 induction i using Nat.strongRecOn with
 | _ i ih =>
  intro o ho hall j hj;obtain ⟨e,he,hb,h⟩:=hF.dep i o ho j hj;rcases h with rfl | h
  ·exact hall e he hb
  ·have hlt:e.on < i:=hF.back i o ho e he hb;have hlt2:e.on < ops.size:=Nat.lt_trans hlt (aag.1 ho).1;exact ih e.on hlt _ (zXv hlt2) (hd e.on _ (hall e he hb) (zXv hlt2)) j h
def rem(ops:Array Oper)(listed:Array Bool):List Nat:=(zXY ops.size).filter λi=>!listed.getD i true
theorem KP{listed:Array Bool}{i:Nat}:i∈rem ops listed↔i < ops.size/\listed.getD i true=false:=by
 simp [rem]
theorem qdR{listed:Array Bool}{i:Nat}(hs:listed.size=ops.size)(hi:i∈rem ops listed):rem ops (listed.setIfInBounds i true)=(rem ops listed).erase i:=by
 have hnd:(rem ops listed).Nodup:=List.Pairwise.filter _ List.nodup_range;rw [hnd.erase_eq_filter];unfold rem;rw [List.filter_filter];refine List.filter_congr λj hj=>?_
 by_cases he:i=j
 ·subst he;have:i < listed.size:=by rw [hs]; exact List.mem_range.1 hj
  simp [this]
 ·rw [getD_set_ne true he];have hji:(j != i)=true:=by simpa using λh:j=i=>he h.symm
  simp only [hji,zQg,zXq]
theorem qdS{listed:Array Bool}{k:Nat}(hlt:k < listed.size):listed.getD k true=listed.getD k false:=by
 simp [hlt]
theorem qev{D:Array Nat}{Q:Exit->Act->World->Prop}(hF:VD p ρ n ops D)(hQ:∀ g a w,yV E g n st' a w->Q .normal a w) :
  ∀ (fuel:Nat) (listed:Array Bool) (st:St) (g:Gh) (a:Act) (w:World),listed.size=ops.size->qib ops listed->(rem ops listed).length=fuel->qcE P p ρ ops (rem ops listed) st st'->yV E g n st a w->wpAny P .any ops Q fuel listed a w:=by
 intro fuel
 induction fuel with
 | zero =>
  intro listed st g a w hs hd hl hr hS;have h0:rem ops listed=[]:=zQW hl;rw [h0] at hr;have hr:st'=st:=hr;refine ⟨?_,hQ g a w (hr ▸ hS)⟩;refine List.eq_nil_iff_forall_not_mem.2 λj hj=>?_;obtain ⟨h1,o,ho,_⟩:=mem_ready.1 hj;have:j∈rem ops listed:=KP.2 ⟨(aag.1 ho).1,h1⟩;rw [h0] at this;simp at this
 | succ fuel ih =>
  intro listed st g a w hs hd hl hr hS;have hsorted:(rem ops listed).Pairwise (· < ·):=List.Pairwise.filter _ List.pairwise_lt_range;refine ⟨λhnil=>?_,λi hi=>?_⟩
  ·exfalso
   cases hrem:rem ops listed with
   | nil=>rw [hrem] at hl; cases hl
   | cons i l =>
    have him:i∈rem ops listed:=by rw [hrem]; simp
    obtain ⟨hlt,hun⟩:=KP.1 him;have:i∈Region.ready .any ops listed:=by
     refine mem_ready.2 ⟨hun,_,zXv hlt,λe he hb=>?_⟩;have hlt2:=hF.back i _ (zXv hlt) e he hb;have hlt3:e.on < listed.size:=by omega
     cases hee:listed.getD e.on false with
     | true=>rfl
     | false =>
      have hm:e.on∈rem ops listed:=KP.2 ⟨by omega,by rw [qdS hlt3]; exact hee⟩;rw [hrem] at hm hsorted;rcases aah.1 hm with h | h
      ·omega
      ·have:=(List.pairwise_cons.1 hsorted).1 _ h;omega
    rw [hnil] at this;simp at this
  ·obtain ⟨hun,o,ho,hall⟩:=mem_ready.1 hi;have hlt:i < ops.size:=(aag.1 ho).1;have him:i∈rem ops listed:=KP.2 ⟨hlt,hun⟩;obtain ⟨b,h1,h2⟩:=pull him (λl1 l2 hsplit hni j hj=>by
    have hjm:j∈rem ops listed:=by rw [hsplit]; exact aad.2 (.inl hj)
    have hji:j < i:=by
     rw [hsplit] at hsorted;exact (List.pairwise_append.1 hsorted).2.2 j hj i (zQj ..)
    rcases hF.ind i j o ho hji with h | h
    ·have h3:=closed hF hd i o ho hall j h;have h4:=(KP.1 hjm).2;rw [qdS (by rw [hs]; exact (KP.1 hjm).1),h3] at h4
     cases h4
    ·exact h) hr
   refine VC hS (hF.dst i) h1 λg' a' w' hS'=>ih (listed.setIfInBounds i true) b g' a' w' (by simp [hs]) ?_ ?_ ?_ hS'
   ·intro k o' hk ho' e he hb
    by_cases hik:i=k
    ·subst hik;rw [ho] at ho';injection ho' with ho'
     subst ho';exact getD_set_true (hall e he hb)
    ·rw [getD_set_ne false hik] at hk;exact getD_set_true (hd k o' hk ho' e he hb)
   ·rw [qdR hs him,List.length_erase_of_mem him,hl];rfl
   ·rw [qdR hs him];exact h2
def VE(P:Program)(p:Nat->Bool)(ρ:Nat->fi)(ops:Array Oper):List Oper->St->St->Prop
 | [],st,st'=>st'=st
 | o :: l,st,st'=>∃ b,IS P p ρ ops o st b/\VE P p ρ ops l b st'
theorem Ot:∀ {l:List Oper} {k:Nat} {st:St},(∀ j,l[j]?=ops[k+j]?)->VE P p ρ ops l st st'->qcE P p ρ ops (List.range' k l.length) st st'
 | [],k,st,_,h=>h
 | o :: l,k,st,hl,⟨b,h1,h2⟩=>by
  refine ⟨b,?_,Ot (k:=k+1) (λj=>by have:=hl (j+1); simpa [Nat.add_assoc,Nat.add_comm 1 j] using this) h2⟩;have:=hl 0;simp at this;unfold LG;rw [<- this];exact h1
theorem Z0{Q:Exit->Act->World->Prop}{id:Nat}{draw:Bool}(hm:draw=true->P.follows .mixedOrders=true)(hok:if draw then qbD p ρ n ops=true else ops.toList.all (DG n)=true)
  (hS:yV E g n st a w) (hr:VE P p ρ ops ops.toList st st') (hQ:∀ g a w,yV E g n st' a w->Q .normal a w):(Code.region id ops draw).wp P Q a w:=by
 have hrI:qcE P p ρ ops (zXY ops.size) st st':=by
  have:=Ot (k:=0) (l:=ops.toList) jC hr;rw [List.range_eq_range']
  simpa using this
 cases draw with
 | false =>
  refine wp_region (Zx (λi o ho=>?_) hQ hS hrI);exact aaf.1 (show ops.toList.all (DG n)=true from hok) o (by simpa using Array.mem_of_getElem? ho)
 | true =>
  have hF:=qcG (by simpa using hok);have hrem:rem ops (zVW ops.size false)=zXY ops.size:=by
   unfold rem;refine List.filter_eq_self.2 λi hi=>?_;have:i < ops.size:=List.mem_range.1 hi;simp [this]
  refine wp_region_any (hm rfl) (qev hF hQ _ _ st g a _ jC (λk o hk=>?_) (by rw [hrem]; simp) (by rw [hrem]; exact hrI) hS.drew)
  by_cases hlt:k < ops.size <;> simp [hlt] at hk
end
def EL(E:En)(ls:List Nat):Prop:=∃ fl,ls=E.lent.map Prod.fst++fl/\(∀ q∈E.lent,900<=q.1)/\(∀ v,E.pin=some v->0∈fl)/\(1∈fl->∀ b,¬ E.F0 b/\¬ E.X b)
theorem EL.mem{E:En}{ls:List Nat}(h:EL E ls){i b:Nat}(hi:(i,b)∈E.lent):i∈ls/\900<=i:=by
 obtain ⟨fl,rfl,h2,_⟩:=h;exact ⟨zZg _ (List.mem_map.2 ⟨_,hi,rfl⟩),h2 _ hi⟩
theorem EL.pin{E:En}{ls:List Nat}(h:EL E ls){v:Value}(hv:E.pin=some v):0∈ls:=by
 obtain ⟨fl,rfl,_,h2,_⟩:=h;exact List.mem_append_right _ (h2 v hv)
def ELp(P:Program)(E:En)(ls:List Nat):Prop:=EL E ls/\Tb P E
def Wp(P:Program)(n:Nat)(ls:List Nat)(c:Code)(Q:Exit->St->Prop)(st:St):Prop :=
 ∀ (E:En) (g:Gh) (a:Act) (w:World),ELp P E ls->yV E g n st a w->c.wp P (λe a' w'=>∃ g' st',yV E g' n st' a' w'/\Q e st') a w
def jd(N:St->Prop)(Q:Exit->St->Prop):Exit->St->Prop
 | .normal,st=>N st
 | e,st=>Q e st
def qcH(id:Nat)(Q:Exit->St->Prop):Exit->St->Prop
 | .exit id',st=>bif zWz id' id then Q .normal st else Q (.exit id') st
 | e,st=>Q e st
def Le(n:Nat)(ls:List Nat)(st st1:St):Prop:=∀ (E:En) (g:Gh) (a:Act) (w:World),EL E ls->yV E g n st a w->∃ g',yV E g' n st1 a w
section
variable {P:Program} {n:Nat} {ls:List Nat} {Q:Exit->St->Prop} {st st':St} {x y c:Code}
theorem ld(h:Q .normal st):Wp P n ls .skip Q st:=λE g a w hE hS=>wp_skip ⟨g,st,hS,h⟩
theorem Wp.ret(h:Q .ret st):Wp P n ls .ret Q st:=λE g a w hE hS=>wp_ret ⟨g,st,hS,h⟩
theorem Wp.exit{id:Nat}(h:Q (.exit id) st):Wp P n ls (.exit id) Q st:=λE g a w hE hS=>wp_exit ⟨g,st,hS,h⟩
theorem Wp.mono{Q':Exit->St->Prop}(h:Wp P n ls c Q st)(hq:∀ e st,Q e st->Q' e st):Wp P n ls c Q' st :=
 λE g a w hE hS=>wp_mono (h E g a w hE hS) λe a' w' ⟨g',st',h1,h2⟩=>⟨g',st',h1,hq e st' h2⟩
theorem ap(h:Wp P n ls x (jd (Wp P n ls y Q) Q) st):Wp P n ls (.seq x y) Q st :=
 λE g a w hE hS=>wp_seq (wp_mono (h E g a w hE hS) λe a' w' ⟨g',st',h1,h2⟩=>by
  cases e with
  | normal=>exact h2 E g' a' w' hE h1
  | _=>exact ⟨g',st',h1,h2⟩)
theorem Wp.cond{o:Operand}{b:Bool}(ho:st.eval o=some (.t (.bool b)))(h:Wp P n ls (if b then x else y) Q st):Wp P n ls (.cond o x y) Q st :=
 λE g a w hE hS=>by
  have hv:=cj hS ho;generalize hva:a.eval o=v at hv
  cases hv with
  | t x v hr =>
   cases hr
   exact wp_cond hva (h E g a w hE hS)
theorem VF{o:Operand}{b:Bool}(ho:st.eval o=some (.t (.bool b)))(ht:b=true->Wp P n ls x Q st)(hf:b=false->Wp P n ls y Q st):Wp P n ls (.cond o x y) Q st :=
 Wp.cond ho (by
  cases b with
  | true=>exact ht rfl
  | false=>exact hf rfl)
theorem ee{id:Nat}(h:Wp P n ls c (qcH id Q) st):Wp P n ls (.block id c) Q st :=
 λE g a w hE hS=>wp_block (wp_mono (h E g a w hE hS) λe a' w' ⟨g',st',h1,h2⟩=>by
  cases e with
  | exit id' =>
   simp only [Exit.inBlock];simp only [qcH] at h2
   split
   ·rename_i he;subst he;rw [Nat.beq_refl] at h2;exact ⟨g',st',h1,h2⟩
   ·rename_i he;have:zWz id' id=false:=by
     cases hb:zWz id' id
     ·rfl
     ·exact absurd (zWG hb) he
    rw [this] at h2;exact ⟨g',st',h1,h2⟩
  | _=>exact ⟨g',st',h1,h2⟩)
def qhi(P:Program)(n:Nat)(ls:List Nat)(c:Code)(Q:Exit->St->Prop):Nat->St->Prop
 | 0,_=>False
 | k+1,st=>Wp P n ls c (jd (qhi P n ls c Q k) Q) st
def IT(P:Program)(c:Code)(Q:Exit->Act->World->Prop):Nat->Act->World->Prop
 | 0,_,_=>False
 | k+1,a,w=>c.wp P (Exit.then (IT P c Q k) Q) a w
theorem qfC{c:Code}{Q:Exit->Act->World->Prop}{a:Act}{w:World}{k:Nat}(h:IT P c Q k a w):(Code.loop c).wp P Q a w:=by
 classical
 have key:∀ a w,(∃ k,IT P c Q k a w)->∃ k,IT P c Q k a w/\∀ j,IT P c Q j a w->k<=j:=by
  intro a w ⟨k,hk⟩
  induction k using Nat.strongRecOn with
  | _ k ih =>
   by_cases hm:∀ j,IT P c Q j a w->k<=j
   ·exact ⟨k,hk,hm⟩
   ·obtain ⟨j,hj⟩:=Classical.not_forall.1 hm;obtain ⟨hj1,hj2⟩:=Classical.not_imp.1 hj;exact ih j aD hj1
 let μ:Act->World->Nat:=λa w=>if h:∃ k,IT P c Q k a w then Classical.choose (key a w h) else 0
 have hμ:∀ a w (h:∃ k,IT P c Q k a w),IT P c Q (μ a w) a w/\∀ j,IT P c Q j a w->μ a w<=j:=by
  intro a w h;have:μ a w=Classical.choose (key a w h):=by simp only [μ,h,dite_true]
  rw [this];exact Classical.choose_spec (key a w h)
 refine wp_loop (λa w=>∃ k,IT P c Q k a w) μ ⟨k,h⟩ λa w hI=>?_;obtain ⟨h1,h2⟩:=hμ a w hI
 cases hm:μ a w with
 | zero=>rw [hm] at h1; exact h1.elim
 | succ m =>
  rw [hm] at h1;refine wp_mono h1 λe a' w' hq=>?_
  cases e with
  | normal =>
   have hI':∃ k,IT P c Q k a' w':=⟨m,hq⟩;exact ⟨hI',by have:=(hμ a' w' hI').2 m hq; omega⟩
  | _=>exact hq
theorem Wp.loop{k:Nat}(h:qhi P n ls c Q k st):Wp P n ls (.loop c) Q st:=by
 intro E g a w hE hS;refine qfC (k:=k) ?_
 induction k generalizing st g a w with
 | zero=>exact h.elim
 | succ k ih =>
  refine wp_mono (h E g a w hE hS) λe a' w' ⟨g',st',h1,h2⟩=>?_
  cases e with
  | normal=>exact ih h2 g' a' w' h1
  | _=>exact ⟨g',st',h1,h2⟩
theorem Wp.le{st1:St}(hl:Le n ls st st1)(h:Wp P n ls c Q st1):Wp P n ls c Q st:=λE g a w hE hS=>by
 obtain ⟨g',hS'⟩:=hl E g a w hE.1 hS;exact h E g' a w hE hS'
def aa(P:Program)(p:Nat->Bool)(ρ:Nat->fi)(ops:Array Oper)(l:List Oper)(st:St)(K:St->Prop):Prop:=∃ st',VE P p ρ ops l st st'/\K st'
theorem Wp.region{p:Nat->Bool}{ρ:Nat->fi}{ops:Array Oper}{id:Nat}{draw:Bool}(hm:draw=true->P.follows .mixedOrders=true)(hok:if draw then qbD p ρ n ops=true else ops.toList.all (DG n)=true)
  (h:aa P p ρ ops ops.toList st (Q .normal)):Wp P n ls (.region id ops draw) Q st:=λE g a w hE hS=>by
 obtain ⟨st',h1,h2⟩:=h;have:=hE.2;exact Z0 hm hok hS h1 λg a w hS'=>⟨g,st',hS',h2⟩
section
variable {p:Nat->Bool} {ρ:Nat->fi} {ops:Array Oper} {l:List Oper} {K:St->Prop} {o:Oper}
theorem aa.step{b:St}(h:IS P p ρ ops o st b)(hr:aa P p ρ ops l b K):aa P p ρ ops (o :: l) st K:=by
 obtain ⟨st',h1,h2⟩:=hr;exact ⟨st',⟨b,h,h1⟩,h2⟩
theorem aa.op{x:A}{st1:St}(hg:lw ops st o=some true)(hf:gc ρ st o=true)(h:(uq P ρ st.eval o).run st=some (x,st1))(hr:aa P p ρ ops l (st1.put o.dst x) K):aa P p ρ ops (o :: l) st K :=
 aa.step (.run x st1 hg hf (.plain h)) hr
end
end
mutual
def A.ren(φo φr:Nat->Nat):A->A
 | .own r=>.own (φr r)
 | .obj s off=>.obj (φo s) off
 | .elem r sz i off=>.elem (φr r) sz i off
 | .sub r sz lo=>.sub (φr r) sz lo
 | .win r lo m=>.win (φr r) lo m
 | .agg l=>.agg (yj φo φr l)
 | .tup l=>.tup (yj φo φr l)
 | .clo f l=>.clo f (yj φo φr l)
 | .t x=>.t x
 | .nil=>.nil
 | .fadr c=>.fadr c
 | .nn sz rows=>.nn sz rows
 | .undef=>.undef
 | .raw v=>.raw v
 | .osl s a n c=>.osl (φo s) a n c
 | .ext s x=>.ext s x
 | .exa s c=>.exa s c
 | .shp x=>.shp x
def yj(φo φr:Nat->Nat):List A->List A
 | []=>[]
 | a :: r=>a.ren φo φr :: yj φo φr r
end
mutual
def A.known(O R:Nat->Bool):A->Bool
 | .own r=>R r
 | .obj s _=>O s
 | .osl s _ _ _=>O s
 | .elem r _ _ _=>R r
 | .sub r _ _=>R r
 | .win r _ _=>R r
 | .agg l=>Av O R l
 | .tup l=>Av O R l
 | .clo _ l=>Av O R l
 | _=>true
def Av(O R:Nat->Bool):List A->Bool
 | []=>true
 | a :: r=>a.known O R && Av O R r
end
def JN{β:Type}:List (Nat×β)->Nat->Option β
 | [],_=>none
 | (k,v) :: r,i=>bif zWz k i then some v else JN r i
theorem ur{β:Type}:∀ {l:List (Nat×β)} {i:Nat} {v:β},JN l i=some v->(i,v)∈l
 | [],i,v,h=>by cases h
 | (k,u) :: r,i,v,h=>by
  unfold JN at h
  cases hk:zWz k i with
  | true =>
   rw [hk] at h
   cases h
   rw [zWG hk];exact zQj ..
  | false =>
   rw [hk] at h;exact zQv _ (ur h)
structure Sx where
 tm:List (Nat×A)
 ob:List (Nat×List A)
 rw:List (Nat×Row)
def Sx.st(s:Sx):St:=⟨λi=>match JN s.tm i with | some a=>a | none=>.undef,JN s.ob,JN s.rw⟩
theorem JO{φo φr:Nat->Nat}:∀ (l:List A),(yj φo φr l).length=l.length
 | []=>rfl
 | a :: r=>by simp [yj,JO r]
theorem VG{φo φr:Nat->Nat}:∀ (l:List A) (j:Nat),(yj φo φr l)[j]?=l[j]?.map (A.ren φo φr)
 | [],j=>by simp [yj]
 | a :: r,0=>by simp [yj]
 | a :: r,j+1=>by simp [yj,VG r j]
theorem Mw{O R:Nat->Bool}:∀ {l:List A},Av O R l=true->∀ (j:Nat) (a:A),l[j]?=some a->a.known O R=true
 | [],_,j,a,h=>by simp at h
 | x :: r,hk,j,a,h=>by
  unfold Av at hk;simp only [sk] at hk
  cases j with
  | zero=>simp at h; exact h ▸ hk.1
  | succ j=>exact Mw hk.2 j a (by simpa using h)
theorem qfD{w:World}{g:Gh}{O R:Nat->Prop}{φo φr:Nat->Nat}{O' R':Nat->Bool}:∀ (a:A) {v:Value},VR w g O R (a.ren φo φr) v->a.known O' R'=true ->
  VR w { g with ob:=λs=>g.ob (φo s),rw:=λr=>g.rw (φr r) } (λs=>O' s=true) (λr=>R' r=true) a v:=by
 have main:∀ (k:Nat) (a:A),SizeOf.sizeOf a < k->∀ {v:Value},VR w g O R (a.ren φo φr) v->a.known O' R'=true ->
   VR w { g with ob:=λs=>g.ob (φo s),rw:=λr=>g.rw (φr r) } (λs=>O' s=true) (λr=>R' r=true) a v:=by
  intro k
  induction k with
  | zero=>intro a h; omega
  | succ k ih =>
   intro a hk v h hn;have hl:∀ (l:List A) (vs:List Value),SizeOf.sizeOf l<=k->(∀ (j:Nat) (x:A) (u:Value),(yj φo φr l)[j]?=some x->vs[j]?=some u->VR w g O R x u)->Av O' R' l=true ->
     ∀ (j:Nat) (x:A) (u:Value),l[j]?=some x->vs[j]?=some u->VR w { g with ob:=λs=>g.ob (φo s),rw:=λr=>g.rw (φr r) } (λs=>O' s=true) (λr=>R' r=true) x u:=λl vs hs hx hkn j x u hj hu=>by
    have:=List.sizeOf_lt_of_mem (zQX hj);exact ih x aD (hx j _ u (by rw [VG,hj]; rfl) hu) (Mw hkn j x hj)
   cases a with
   | t x=>unfold A.ren at h; cases h with | t x v h=>exact .t x v h
   | nil=>unfold A.ren at h; cases h; exact .nil
   | own r =>
    unfold A.ren at h;unfold A.known at hn
    cases h with | own _ hr=>exact .own (g:={ g with ob:=λs=>g.ob (φo s),rw:=λr=>g.rw (φr r) }) r hn
   | agg l =>
    unfold A.ren at h;unfold A.known at hn
    cases h with | agg _ vs h1 h2=>exact .agg l vs ((JO l).symm.trans h1) (hl l vs (by simp at hk; omega) h2 hn)
   | tup l =>
    unfold A.ren at h;unfold A.known at hn
    cases h with | tup _ vs h1 h2=>exact .tup l vs ((JO l).symm.trans h1) (hl l vs (by simp at hk; omega) h2 hn)
   | obj s off =>
    unfold A.ren at h;unfold A.known at hn
    cases h with | obj _ _ hs=>exact .obj (g:={ g with ob:=λs=>g.ob (φo s),rw:=λr=>g.rw (φr r) }) s off hn
   | elem r sz i off =>
    unfold A.ren at h;unfold A.known at hn
    cases h with | elem _ _ _ _ b n c hr he=>exact .elem r sz i off b n c hn he
   | win r lo m =>
    unfold A.ren at h;unfold A.known at hn
    cases h with | win _ _ _ n c c' ad a' hr he hm hp=>exact .win r lo m n c c' ad a' hn he hm hp
   | sub r sz lo =>
    unfold A.ren at h;unfold A.known at hn
    cases h with | sub _ _ _ n c c' ad a' hr he hp=>exact .sub r sz lo n c c' ad a' hn he hp
   | fadr c =>
    unfold A.ren at h
    cases h with | fadr _ b off u hF hx hr=>exact .fadr c b off u hF hx hr
   | nn sz rows =>
    unfold A.ren at h
    cases h with | nn _ _ _ hr hv=>exact .nn sz rows _ hr hv
   | clo f l =>
    unfold A.ren at h;unfold A.known at hn
    cases h with | clo _ _ vs h1 h2=>exact .clo f l vs ((JO l).symm.trans h1) (hl l vs (by simp at hk; omega) h2 hn)
   | undef=>exact .undef v
   | raw u =>
    unfold A.ren at h
    cases h with | raw=>exact .raw _
   | osl s a n c =>
    unfold A.ren at h;unfold A.known at hn
    cases h with | osl _ _ _ _ h1 h2=>exact VR.osl (g:={ g with ob:=λs=>g.ob (φo s),rw:=λr=>g.rw (φr r) }) s a n c hn h2
   | ext s x =>
    unfold A.ren at h
    cases h with | ext _ _ _ hs h=>exact .ext s x _ hs h
   | shp x =>
    unfold A.ren at h
    cases h with | shp _ _ h=>exact .shp x _ h
   | exa s c =>
    unfold A.ren at h
    cases h with | exa _ _ b off u hs hD hx hr=>exact .exa s c b off u hs hD hx hr
 intro a v;exact main (SizeOf.sizeOf a+1) a aD
def JA(m:List (Nat×Nat))(i:Nat):Nat:=match JN m i with | some j=>j | none=>i
def qbE:List Nat->Bool
 | []=>true
 | x :: r=>!r.contains x && qbE r
theorem Mx:∀ {l:List Nat},qbE l=true->l.Nodup
 | [],_=>List.nodup_nil
 | x :: r,h=>by
  unfold qbE at h;simp only [sk,Bool.not_eq_true'] at h;refine List.nodup_cons.2 ⟨λhm=>?_,Mx h.2⟩;have:=h.1;simp at this;exact this hm
def Sx.O(s:Sx)(i:Nat):Bool:=(JN s.ob i).isSome
def Sx.R(s:Sx)(i:Nat):Bool:=(JN s.rw i).isSome
def Va(O R:Nat->Bool):List (Nat×List A)->Bool
 | []=>true
 | (_,l) :: r=>Av O R l && Va O R r
def Vb(O R:Nat->Bool)(n:Nat):List (Nat×A)->Bool
 | []=>true
 | (k,a) :: r=>Nat.blt k n && a.known O R && Vb O R n r
theorem SD{O R:Nat->Bool}:∀ {l:List (Nat×List A)},Va O R l=true->∀ q∈l,Av O R q.2=true
 | [],_,q,h=>by simp at h
 | (k,x) :: r,hk,q,h=>by
  unfold Va at hk;simp only [sk] at hk;rcases aah.1 h with rfl | h
  ·exact hk.1
  ·exact SD hk.2 q h
theorem JP{O R:Nat->Bool}{n:Nat}:∀ {l:List (Nat×A)},Vb O R n l=true->∀ q∈l,q.1 < n/\q.2.known O R=true
 | [],_,q,h=>by simp at h
 | (k,x) :: r,hk,q,h=>by
  unfold Vb at hk;simp only [sk] at hk;rcases aah.1 h with rfl | h
  ·exact ⟨by simpa using hk.1.1,hk.1.2⟩
  ·exact JP hk.2 q h
def Sx.ok(s:Sx)(n:Nat)(ls:List Nat)(mo mr:List (Nat×Nat)):Bool :=
 qbE (s.ob.map λq=>JA mo q.1) && qbE (s.rw.map λq=>JA mr q.1) && Va s.O s.R s.ob && Vb s.O s.R n s.tm && ls.all λi=>match i with | 0=>s.R PR && zWz (JA mr PR) PR | 1=>true | i=>s.O i && zWz (JA mo i) i
theorem QY{β:Type}{φ:Nat->Nat}:∀ {l:List (Nat×β)},(l.map λq=>φ q.1).Nodup->∀ {q q':Nat×β},q∈l->q'∈l->φ q.1=φ q'.1->q=q'
 | [],_,q,q',h,_,_=>by simp at h
 | x :: r,hn,q,q',h,h',he=>by
  simp only [zWk,List.nodup_cons,zXx,not_exists,not_and] at hn;rcases aah.1 h with h1 | h1
  ·rcases aah.1 h' with h2 | h2
   ·rw [h1,h2]
   ·subst h1; exact absurd he.symm (hn.1 q' h2)
  ·rcases aah.1 h' with h2 | h2
   ·subst h2; exact absurd he (hn.1 q h1)
   ·exact QY hn.2 h1 h2 he
theorem Vc{α β:Type}{f g:α->β}:∀ {l:List α},l.map f=l.map g->∀ x∈l,f x=g x
 | [],_,x,h=>by simp at h
 | y :: r,he,x,h=>by
  simp only [zWk,List.cons.injEq] at he;rcases aah.1 h with rfl | h
  ·exact he.1
  ·exact Vc he.2 x h
theorem Le.of{n:Nat}{ls:List Nat}{st:St}{s:Sx}{mo mr:List (Nat×Nat)}(hok:s.ok n ls mo mr=true)(ht:s.tm.map (λq=>st.tm q.1)=s.tm.map (λq=>q.2.ren (JA mo) (JA mr)))
  (ho:s.ob.map (λq=>st.ob (JA mo q.1))=s.ob.map (λq=>some (yj (JA mo) (JA mr) q.2))) (hr:s.rw.map (λq=>st.rw (JA mr q.1))=s.rw.map (λq=>some q.2)):Le n ls st s.st:=by
 simp only [Sx.ok,sk] at hok;obtain ⟨⟨⟨⟨hno,hnr⟩,hkl⟩,hkt⟩,hls⟩:=hok;intro E g a w hE hS;have hM:=hS.mem;have hob:∀ {i:Nat} {l:List A},JN s.ob i=some l->st.ob (JA mo i)=some (yj (JA mo) (JA mr) l):=λ{i l} h=>Vc ho (i,l) (ur h);have hrw:∀ {i:Nat} {x:Row},JN s.rw i=some x->st.rw (JA mr i)=some x:=λ{i x} h=>Vc hr (i,x) (ur h);have hOe:(λi=>s.O i=true)=s.st.O:=rfl;have hRe:(λi=>s.R i=true)=s.st.R:=rfl;have hL:∀ {r},s.st.L r->st.L (JA mr r):=λ{r} ⟨e,sz,rows,h⟩=>⟨e,sz,rows,hrw h⟩;have hvr:∀ {x:A} {v:Value},VR w g st.O st.R (x.ren (JA mo) (JA mr)) v->x.known s.O s.R=true->VR w { g with ob:=λs=>g.ob (JA mo s),rw:=λr=>g.rw (JA mr r) } s.st.O s.st.R x v:=λ{x v} h hk=>by
  rw [<- hOe,<- hRe];exact qfD x h hk
 refine ⟨{ g with ob:=λs=>g.ob (JA mo s),rw:=λr=>g.rw (JA mr r) },⟨⟨λi cells h=>?_,λi i' h h' he=>?_,λi x h=>hM.row _ x (hrw h),λr r' b h h' he he'=>?_,λr i h h'=>?_,hM.F,hM.os,hM.tape,hM.output,hM.sizes,hM.frame,hM.shp,hM.dep0⟩,hS.size,hS.defers,λi hi=>?_,λi hi=>?_,λi b hib=>?_,λv hv=>?_⟩⟩
 ·have h:JN s.ob i=some cells:=h;obtain ⟨arr,e,h1,h2,h3,h4,h5⟩:=hM.ob _ _ (hob h);rw [JO] at h2;refine ⟨arr,e,h1,h2,λj x hj=>?_,h4,h5⟩;obtain ⟨h6,v,h7,h8⟩:=h3 j (x.ren (JA mo) (JA mr)) (by rw [VG,hj]; rfl);refine ⟨?_,v,h7,hvr h8 (Mw (SD hkl _ (ur h)) j x hj)⟩
  cases x <;> first | rfl | (simp [A.ren,A.one] at h6)
 ·obtain ⟨l,hl⟩:=aae.1 h;obtain ⟨l',hl'⟩:=aae.1 h';have:=hM.obne _ _ (show st.O _ by unfold St.O; rw [hob hl]; rfl) (show st.O _ by unfold St.O; rw [hob hl']; rfl) he;exact congrArg Prod.fst (QY (Mx hno) (ur hl) (ur hl') this)
 ·have:=hM.rowne _ _ b (hL h) (hL h') he he';obtain ⟨e,sz,rows,hx⟩:=h;obtain ⟨e',sz',rows',hx'⟩:=h';exact congrArg Prod.fst (QY (Mx hnr) (ur hx) (ur hx') this)
 ·obtain ⟨l,hl⟩:=aae.1 h';exact hM.rowob _ _ (hL h) (show st.O _ by unfold St.O; rw [hob hl]; rfl)
 ·obtain ⟨v,h1,h2⟩:=hS.tm i hi;refine ⟨v,h1,?_⟩;show VR w _ s.st.O s.st.R (match JN s.tm i with | some a=>a | none=>.undef) v
  cases hl:JN s.tm i with
  | none=>exact .undef v
  | some x =>
   have:=Vc ht (i,x) (ur hl);simp only at this;rw [this] at h2;exact hvr h2 (JP hkt _ (ur hl)).2
 ·show (match JN s.tm i with | some a=>a | none=>.undef)=A.undef
  cases hl:JN s.tm i with
  | none=>rfl
  | some x =>
   have:=(JP hkt _ (ur hl)).1;simp only at this;omega
 ·obtain ⟨hi,h9⟩:=hE.mem hib;have:=aaf.1 hls i hi;obtain ⟨k,rfl⟩:∃ k,i=k+2:=⟨i - 2,by omega⟩;simp only [sk] at this;refine ⟨this.1,?_⟩;show g.ob (JA mo (k+2))=b;rw [zWG this.2];exact (hS.lent (k+2) b hib).2
 ·have:=aaf.1 hls 0 (hE.pin hv);simp only [sk] at this;refine ⟨this.1,?_⟩;show g.rw (JA mr PR)=v;rw [zWG this.2];exact (hS.pin v hv).2
def DH(P:Program)(st:St):List ResultVar->Option (List A)
 | []=>some []
 | .tmp t :: r=>match DH P st r with | some l=>some (st.tm t :: l) | none=>none
 | .cell a t :: r=>match st.tm a with
  | .obj s off=>match st.ob s with
   | some cells=>match qbe P t,kF P t with
    | some g,some n=>match Mo g n cells off,DH P st r with | some x,some l=>some (x :: l) | _,_=>none
    | _,_=>none
   | none=>none
  | _=>none
def qcI:List A->A
 | [x]=>x
 | l=>.tup l
def Hw{α:Type}:Nat->List V->(List (List C)->MA α)->MA α
 | _,[],k=>k []
 | i,.ptr _ :: r,k=>JK (900+i) λc=>Hw (i+1) r λos=>k (c :: os)
 | i,_ :: r,k=>Hw (i+1) r k
def mw:Nat->List V->List Nat
 | _,[]=>[]
 | i,.ptr _ :: r=>(900+i) :: mw (i+1) r
 | i,_ :: r=>mw (i+1) r
def ql:Nat->List V->List Value->List (Nat×Nat)
 | i,.ptr _ :: r,.pointer (some a) :: vs=>(900+i,a.block) :: ql (i+1) r vs
 | i,.ptr _ :: r,_ :: vs=>(900+i,0) :: ql (i+1) r vs
 | i,_ :: r,_ :: vs=>ql (i+1) r vs
 | i,.ptr _ :: r,[]=>(900+i,0) :: ql (i+1) r []
 | i,_ :: r,[]=>ql (i+1) r []
 | _,[],_=>[]
def lT:Nat->List V->List A->Bool
 | _,[],_=>true
 | i,.ptr _ :: r,.obj s 0 :: sr=>zWz s (900+i) && lT (i+1) r sr
 | i,.ptr _ :: r,_=>false
 | i,_ :: r,_ :: sr=>lT (i+1) r sr
 | i,_ :: r,[]=>false
section
variable {P:Program} {E:En} {g:Gh} {st st':St} {a:Act} {w:World} {n:Nat}
theorem yk:∀ (l:List V) (i:Nat) (vs:List Value),(ql i l vs).map Prod.fst=mw i l
 | [],i,vs=>by cases vs <;> rfl
 | x :: l,i,[]=>by cases x <;> simp [ql,mw,yk l]
 | x :: l,i,v :: vs=>by
  cases x <;> simp only [mw] <;> try (simp only [ql]; exact yk l _ _)
  cases v <;> try (simp only [ql,zWk,List.cons.injEq,true_and]; exact yk l _ _)
  rename_i o
  cases o <;> (simp only [ql,zWk,List.cons.injEq,true_and]; exact yk l _ _)
theorem Il:∀ (l:List V) (i:Nat),∀ q∈mw i l,900<=q
 | [],i,q,h=>by simp [mw] at h
 | x :: l,i,q,h=>by
  cases x <;> simp only [mw] at h <;> try exact Il l _ q h
  rcases aah.1 h with rfl | h
  ·omega
  ·exact Il l _ q h
theorem Zz(l:List V)(i:Nat)(vs:List Value):∀ q∈ql i l vs,900<=q.1:=λq hq =>
 Il l i q.1 (by rw [<- yk l i vs]; exact List.mem_map.2 ⟨q,hq,rfl⟩)
theorem QZ:∀ {rs:List ResultVar} {l:List A},yV E g n st a w->DH P st rs=some l->(∀ t,.tmp t∈rs->t < n)->∃ vs:List Value,l.length=vs.length/\(∀ (j:Nat) (x:A) (u:Value),l[j]?=some x->vs[j]?=some u->VR w g st.O st.R x u) /\
  ∀ (f:ResultVar->Sem Value) (_:∀ u,f (.tmp u)=pure (a.tmps.getD u undef)) (_:∀ p t,f (.cell p t)=(do loadVar t (<- asAddr (a.tmps.getD p undef)))),(rs.mapM f).run P w=.ok vs w
 | [],l,hS,h,_=>by
  cases h
  exact ⟨[],rfl,by simp,λf _ _=>by simp⟩
 | .tmp t :: r,l,hS,h,ht=>by
  unfold DH at h
  split at h
  ·rename_i l' hl'
   cases h
   obtain ⟨vs,h1,h2,h3⟩:=QZ hS hl' (λt h=>ht t qcp);obtain ⟨v,h4,h5⟩:=hS.tm t (ht t jC);refine ⟨v :: vs,by simp [h1],λj x u hx hu=>?_,λf hf hc=>?_⟩
   ·cases j with
    | zero=>simp at hx hu; subst hx hu; exact h5
    | succ j=>exact h2 j x u (by simpa using hx) (by simpa using hu)
   ·have:a.tmps.getD t undef=v:=by simp [h4]
    simp [List.mapM_cons,hf,h3 f hf hc,h4]
  ·cases h
 | .cell p t :: r,l,hS,h,ht=>by
  unfold DH at h
  split at h <;> try (cases h; done)
  rename_i s off hp
  split at h <;> try (cases h; done)
  rename_i cells hc
  split at h <;> try (cases h; done)
  rename_i gg nn hg hn
  split at h <;> try (cases h; done)
  rename_i x l' hx hl'
  cases h
  obtain ⟨vs,h1,h2,h3⟩:=QZ hS hl' (λt h=>ht t qcp);have hlt:p < n:=by
   rcases zZq p n with h | h
   ·exact h
   ·rw [hS.und p h] at hp; cases hp
  obtain ⟨v,h4,h5⟩:=hS.tm p hlt;rw [hp] at h5
  cases h5 with
  | obj s off hs =>
   obtain ⟨arr,e,hh,hl,hv,_⟩:=hS.mem.ob s cells hc;obtain ⟨u,hu,hr⟩:=JI (P:=P) (w:=w) (g:=g) (st:=st) (b:=g.ob s) (o:=0) hg hn hx (λj y hy=>by
    obtain ⟨_,u,hu,hr⟩:=hv j y hy;exact ⟨u,by rw [zWJ]; simp [World.cell?,hh,hu],hr⟩)
   rw [zWJ] at hu;refine ⟨u :: vs,by simp [h1],λj x u hx hu=>?_,λf hf hcc=>?_⟩
   ·cases j with
    | zero=>simp at hx hu; subst hx hu; exact hr
    | succ j=>exact h2 j x u (by simpa using hx) (by simpa using hu)
   ·simp [List.mapM_cons,hcc,h4,asAddr,hu,h3 f hf hcc]
theorem Vd{fn:Func}{l:List A}(hS:yV E g n st a w)(h:DH P st fn.results.toList=some l)(ht:(fn.results.toList.all λ| .tmp t=>Nat.blt t n | _=>true)=true):∃ v,(results fn a.tmps).run P w=.ok v w/\VR w g st.O st.R (qcI l) v:=by
 obtain ⟨vs,h1,h2,h3⟩:=QZ hS h (λt h=>by simpa using aaf.1 ht _ h);have hres:fn.results=fn.results.toList.toArray:=by simp
 have hr:(results fn a.tmps).run P w=.ok (if h:vs.toArray.size=1 then vs.toArray[0] else .tuple vs.toArray) w:=by
  unfold results;rw [hres,List.mapM_toArray];simp only [Sem.run_bind,Sem.run_map];rw [h3 _ (λ_=>rfl) (λ_ _=>rfl)];simp only [Result.andThen_ok,Sem.run_pure]
 refine ⟨_,hr,?_⟩
 clear hr h3
 match vs,l,h1,h2 with
 | [],[],_,_=>exact .tup [] [] rfl (λi x v h=>by simp at h)
 | [v],[x],_,h2=>exact h2 0 x v rfl rfl
 | v :: v' :: vs,x :: x' :: l,h1,h2=>exact .tup _ _ h1 h2
theorem LC.len{w:World}{F:Nat->Prop}:∀ {l:List V} {vs:List Value} {bs:List Nat},LC w F l vs bs->l.length=vs.length
 | _,_,_,.nil=>rfl
 | _,_,_,.cons _ _ _ _ _ _ _ hs=>by simp [hs.len]
theorem wa.mono{F F':Nat->Prop}(hF:∀ b,F b->F' b){l:List V}{us:List Value}{os:List (List C)}{bo:List Nat}(h:wa w F l us os bo):wa w F' l us os bo:=by
 induction h with
 | nil=>exact .nil
 | ptr c c' v bs l vs os bo h hs ih=>exact .ptr c c' v bs l vs os bo (h.mono (λ_ _=>rfl) hF (λ_ _=>rfl)) ih
 | skip x v l vs os bo hx hs ih=>exact .skip x v l vs os bo hx ih
theorem KQ{α:Type}{st':St}:∀ (l:List V) {i:Nat} {us:List Value} {g:Gh} {st:St} {k:List (List C)->MA α} {y:α},gS E g st w->us.length=l.length->(∀ (j:Nat) (c:List C),l[j]?=some (.ptr c)->us[j]?=some (.pointer (some ⟨g.ob (900+(i+j)),0,none⟩)))->(Hw i l k).run st=some (y,st') ->
  ∃ os st1 g1 bo,gS E g1 st1 w/\vZ w w g g1 st.O st.R st1.O st1.R/\Yo g st g1 st1/\(k os).run st1=some (y,st')/\wa w g1.F l us os bo/\Tk g st g1 st1 bo
 | [],i,us,g,st,k,y,hM,hl,hp,h=>by
  have:us=[]:=zQW wz5;subst this;exact ⟨[],st,g,[],hM,vZ.refl _ _ _ _,Yo.refl _ _,h,.nil,Tk.nil _ _ _ _⟩
 | x :: l,i,us,g,st,k,y,hM,hl,hp,h=>by
  obtain ⟨u,us,rfl⟩:∃ u us',us=u :: us':=by
   cases us with
   | nil=>simp at hl
   | cons u us=>exact ⟨u,us,rfl⟩
  have hp':∀ (j:Nat) (c:List C),l[j]?=some (.ptr c)->us[j]?=some (.pointer (some ⟨g.ob (900+(i+1+j)),0,none⟩)):=λj c hj=>by
   have:=hp (j+1) c wz8;rw [show i+1+j=i+(j+1) by omega]
   simpa using this
  have hoth:(∀ c,x≠.ptr c)->(Hw (i+1) l k).run st=some (y,st')->∃ os st1 g1 bo,gS E g1 st1 w/\vZ w w g g1 st.O st.R st1.O st1.R/\Yo g st g1 st1/\(k os).run st1=some (y,st')/\wa w g1.F (x :: l) (u :: us) os bo/\Tk g st g1 st1 bo:=λhx h=>by
   obtain ⟨os,st1,g1,bo,h1,h2,h3,h4,h5,h6⟩:=KQ l hM wz5 hp' h;exact ⟨os,st1,g1,bo,h1,h2,h3,h4,.skip x u l us os bo hx h5,h6⟩
  cases x with
  | ptr c =>
   unfold Hw at h;have hu:=hp 0 c rfl;simp at hu;subst hu;obtain ⟨cs,st1,g1,b1,hM1,hE1,hL1,h1,hv1,ht1,_⟩:=If hM h;obtain ⟨os,st2,g2,bo,h2,h3,h4,h5,h6,h7⟩:=KQ l hM1 wz5 (by rw [hL1.ob]; exact hp') h1;exact ⟨cs :: os,st2,g2,b1++bo,h2,hE1.trans h3,hL1.trans h4,h5,.ptr c cs _ b1 l us os bo (hv1.mono h3.same h3.F (λ_ _=>rfl)) h6,ht1.app hM hL1 h7 h4⟩
  | _=>exact hoth (λc h=>by cases h) (by unfold Hw at h; exact h)
theorem Z1{i:Nat}{c:List C}{r:List V}{sr:List A}(h:lT i (.ptr c :: r) sr=true):∃ as',sr=.obj (900+i) 0 :: as'/\lT (i+1) r as'=true:=by
 cases sr with
 | nil=>simp [lT] at h
 | cons a sr =>
  cases a with
  | obj s off =>
   cases off with
   | zero =>
    simp only [lT,sk] at h;have:=zWG h.1;subst this;exact ⟨sr,rfl,h.2⟩
   | succ off=>simp [lT] at h
  | _=>simp [lT] at h
theorem KR{F:Nat->Prop}{O R:Nat->Prop}:∀ {l:List V} {i:Nat} {us:List Value} {sr:List A} {bs:List Nat},lT i l sr=true->LC w F l us bs->sr.length=us.length->(∀ (j:Nat) (x:A),sr[j]?=some x->∃ u,us[j]?=some u/\VR w g O R x u) ->
  (∀ s b,(s,b)∈ql i l us->O s/\g.ob s=b)/\∀ (j:Nat) (c:List C),l[j]?=some (.ptr c)->∃ b,us[j]?=some (.pointer (some ⟨b,0,none⟩))/\(900+(i+j),b)∈ql i l us
 | [],i,us,sr,bs,hl,hV,hlen,hx=>by
  cases hV
  exact ⟨λs b h=>by simp [ql] at h,λj c h=>by simp at h⟩
 | x :: l,i,us,sr,bs,hl,hV,hlen,hx=>by
  cases hV with
  | cons x v b l vs bs' h1 h2 =>
   obtain ⟨a,sr,rfl⟩:∃ a as',sr=a :: as':=by
    cases sr with
    | nil=>simp at hlen
    | cons a sr=>exact ⟨a,sr,rfl⟩
   obtain ⟨u,hu,hr⟩:=hx 0 a rfl;simp at hu;subst hu;have hx':∀ (j:Nat) (x:A),sr[j]?=some x->∃ u,vs[j]?=some u/\VR w g O R x u:=λj x hj=>by simpa using hx (j+1) x wz8
   have hoth:(∀ c,x≠.ptr c)->ql i (x :: l) (v :: vs)=ql (i+1) l vs->lT (i+1) l sr=true ->
     (∀ s b,(s,b)∈ql i (x :: l) (v :: vs)->O s/\g.ob s=b)/\∀ (j:Nat) (c:List C),(x :: l)[j]?=some (.ptr c)->∃ b,(v :: vs)[j]?=some (.pointer (some ⟨b,0,none⟩))/\(900+(i+j),b)∈ql i (x :: l) (v :: vs):=λhnp he hla=>by
    obtain ⟨h3,h4⟩:=KR hla h2 (by simpa using hlen) hx';rw [he];refine ⟨h3,λj c hj=>?_⟩
    cases j with
    | zero=>simp at hj; exact absurd hj (hnp c)
    | succ j =>
     obtain ⟨b,h5,h6⟩:=h4 j c wz8;exact ⟨b,by simpa using h5,by rw [show i+(j+1)=i+1+j by omega]; exact h6⟩
   cases x with
   | ptr c =>
    obtain ⟨as',he,hla⟩:=Z1 hl;injection he with e1 e2
    subst e1 e2
    cases h1 with
    | ptr cells bb arr e vals bs1 q1 q2 q3 q4 =>
      obtain ⟨h3,h4⟩:=KR hla h2 (by simpa using hlen) hx'
      cases hr with
      | obj _ _ hO =>
       simp only [ql];refine ⟨λs b hm=>?_,λj c hj=>?_⟩
       ·rcases aah.1 hm with hm | hm
        ·cases hm; exact ⟨hO,rfl⟩
        ·exact h3 s b hm
       ·cases j with
        | zero=>exact ⟨_,rfl,zQj ..⟩
        | succ j =>
         obtain ⟨b,h5,h6⟩:=h4 j c wz8;exact ⟨b,by simpa using h5,zQv _ (by rw [show i+(j+1)=i+1+j by omega]; exact h6)⟩
   | _=>exact hoth (λc h=>by cases h) (by cases v <;> rfl) (by unfold lT at hl; exact hl)
end
inductive Gx {α β:Type} (R:α->β->Prop):List α->List β->Prop
 | nil:Gx R [] []
 | cons {a:α} {b:β} {l:List α} {l':List β} (h:R a b) (hs:Gx R l l'):Gx R (a :: l) (b :: l')
inductive Z2:C->C->Prop
 | refl (c:C):Z2 c c
 | nilT (sz:Nat):Z2 .nil (.t (.sl sz []))
 | nilO (e sz:Nat):Z2 .nil (.ow e sz [])
 | sz (s s':Nat):Z2 (.t (.sl s [])) (.t (.sl s' []))
mutual
inductive VLe:V->V->Prop
 | refl (v:V):VLe v v
 | one {c c':C} (h:Z2 c c'):VLe (.one c) (.one c')
 | agg {l l':List C} (h:Gx Z2 l l'):VLe (.agg l) (.agg l')
 | tup {l l':List V} (h:VH l l'):VLe (.tup l) (.tup l')
 | cut (l r:List T):VLe (.fptr (l++r)) (.fptr l)
inductive VH:List V->List V->Prop
 | nil:VH [] []
 | cons {v v':V} {l l':List V} (h:VLe v v') (hs:VH l l'):VH (v :: l) (v' :: l')
end
theorem Z2.cv{w:World}{F:Nat->Prop}{c c':C}{v:Value}{bs:List Nat}(h:Z2 c c')(hv:CV w F c v bs):CV w F c' v bs:=by
 cases h with
 | refl=>exact hv
 | nilT sz=>cases hv; exact .t _ _ (.sl0 _ _ _ (by first | assumption | exact λ_=>rfl | (intro h; cases h)))
 | nilO e sz =>
  cases hv
  exact .ow e sz [] (.slice none 0 0) [] ⟨by simp,.inl ⟨rfl,rfl⟩⟩ ⟨by simp,λi row h=>by simp at h,λi row j x h=>by simp at h⟩
 | sz s s' =>
  cases hv with
  | t _ _ h =>
   cases h with
   | sl0 _ _ _ ha=>exact .t _ _ (.sl0 _ _ _ (by first | assumption | exact λ_=>rfl | (intro h; cases h)))
   | sl=>exact .t _ _ (.sl0 _ _ _ (by first | assumption | exact λ_=>rfl | (intro h; cases h)))
theorem qcK{w:World}{F:Nat->Prop}:∀ {l l':List C} {vs:List Value} {bs:List Nat},Gx Z2 l l'->ZU w F l vs bs->ZU w F l' vs bs
 | _,_,_,_,.nil,.nil=>.nil
 | _,_,_,_,.cons h hs,.cons _ _ _ _ _ _ hc hcs=>.cons _ _ _ _ _ _ (h.cv hc) (qcK hs hcs)
mutual
theorem VLe.vv{w:World}{F:Nat->Prop}:∀ {x x':V} {v:Value} {bs:List Nat},VLe x x'->VV w F x v bs->VV w F x' v bs
 | _,_,_,_,.refl _,hv=>hv
 | _,_,_,_,.one h,.one _ _ _ hc=>.one _ _ _ (h.cv hc)
 | _,_,_,_,.agg h,.agg _ vs _ hc=>.agg _ vs _ (qcK h hc)
 | _,_,_,_,.tup h,.tup _ vs _ hc=>.tup _ vs _ (qcL h hc)
 | _,_,_,_,.cut l r,.fptr _ b off u hF hx hr=>.fptr l b off u hF
   (λj x hj=>hx j x (by rw [zQZ (aab.1 hj).1]; exact hj)) (λj x hj=>hr j x (by rw [zQZ (aab.1 hj).1]; exact hj))
theorem qcL{w:World}{F:Nat->Prop}:∀ {l l':List V} {vs:List Value} {bs:List Nat},VH l l'->LC w F l vs bs->LC w F l' vs bs
 | _,_,_,_,.nil,.nil=>.nil
 | _,_,_,_,.cons h hs,.cons _ _ _ _ _ _ hc hcs=>.cons _ _ _ _ _ _ (h.vv hc) (qcL hs hcs)
end
theorem VLe.ptr{x:V}{c:List C}(h:VLe x (.ptr c)):x=.ptr c:=by cases h; rfl
theorem VLe.nptr{x x':V}(h:VLe x x')(hx:∀ c,x'≠.ptr c):∀ c,x≠.ptr c:=by
 cases h <;> first | exact hx | (intro c hc; cases hc)
theorem qgH{w:World}{F:Nat->Prop}{l':List V}{us:List Value}{os:List (List C)}{bo:List Nat}(ho:wa w F l' us os bo):∀ {l:List V},VH l l'->wa w F l us os bo:=by
 induction ho with
 | nil=>intro l h; cases h; exact .nil
 | ptr c c' v bs l vs os bo hv ho ih =>
  intro l h
  cases h with
  | cons h hs =>
   have:=h.ptr;subst this;exact .ptr c c' v bs _ vs os bo hv (ih hs)
 | skip x v l vs os bo hx ho ih =>
  intro l h
  cases h with
  | cons h hs=>exact .skip _ v _ vs os bo (h.nptr hx) (ih hs)
theorem qbF{w:World}{F:Nat->Prop}{l:List V}{us:List Value}{os:List (List C)}{bo:List Nat}(ho:wa w F l us os bo):∀ {os':List (List C)},Gx (Gx Z2) os os'->wa w F l us os' bo:=by
 induction ho with
 | nil=>intro os' h; cases h; exact .nil
 | ptr c c' v bs l vs os bo hv ho ih =>
  intro os' h
  cases h with
  | cons h hs =>
   refine .ptr c _ v bs l vs _ bo ?_ (ih hs)
   cases hv with
   | ptr _ b arr e vals bs' h1 h2 h3 h4=>exact .ptr _ b arr e vals bs' h1 h2 h3 (qcK h h4)
 | skip x v l vs os bo hx ho ih=>intro os' h; exact .skip x v l vs _ bo hx (ih h)
def ji:St:=⟨λ_=>.undef,λ_=>none,λ_=>none⟩
def ii(sr:List A)(st:St):St:=⟨λi=>match sr[i]? with | some a=>a | none=>.undef,st.ob,st.rw⟩
def qew{α:Type}(m:Bool):A->(V->MA α)->MA α
 | .obj s 0,k=>JK s λcs=>k (.ptr cs)
 | .tup l,k=>oZ m (λ_=>false) l λvs=>k (.tup vs)
 | a,k=>tv m a k
theorem qbG{E:En}{w:World}{α:Type}{st':St}{m:Bool}{x:A}{st:St}{g:Gh}{k:V->MA α}{y:α}{v:Value}(hM:gS E g st w)(hv:VR w g st.O st.R x v)(h:(qew m x k).run st=some (y,st')) :
  ∃ c st1 g1 bs,gS E g1 st1 w/\vZ w w g g1 st.O st.R st1.O st1.R/\Yo g st g1 st1/\(k c).run st1=some (y,st')/\VV w g1.F c v bs/\Tk g st g1 st1 bs:=by
 unfold qew at h
 split at h
 ·rename_i s k'
  cases hv with
  | obj _ _ hs =>
   obtain ⟨cs,st1,g1,bs,h1,h2,h3,h4,h5,h6,_⟩:=If hM h;exact ⟨_,st1,g1,bs,h1,h2,h3,h4,h5,h6⟩
 ·rename_i l
  cases hv with
  | tup l vs hl hx =>
   obtain ⟨cs,st1,g1,bs,hM1,hE1,hL1,h1,hc,ht,_⟩:=D3 l hM hl.symm (λj x hj=>⟨_,sX (by rw [<- hl]; exact (aab.1 hj).1),hx j x _ hj (sX (by rw [<- hl]; exact (aab.1 hj).1))⟩) h;exact ⟨_,st1,g1,bs,hM1,hE1,hL1,h1,.tup cs vs bs hc,ht⟩
 ·obtain ⟨c,st1,g1,bs,h1,h2,h3,h4,h5,h6,_⟩:=ZV _ hM hv h;exact ⟨c,st1,g1,bs,h1,h2,h3.lnd,h4,h5,h6⟩
def LH(P:Program)(m:Bool)(fn:Func)(args:List V)(res:V)(outs:List (List C))(e:Exit)(st:St):Prop :=
 (e=.ret\/e=.normal)/\∃ l st1 res0 outs0,DH P st fn.results.toList=some l/\(Hw 0 args λos=>qew m (qcI l) λv=>MA.ret (v,os)).run st=some ((res0,outs0),st1)/\VLe res0 res/\Gx (Gx Z2) outs0 outs
def DU(n:Nat)(fn:Func):Bool:=fn.results.toList.all λ| .tmp t=>Nat.blt t n | _=>true
def Wz(P:Program)(n:Nat)(ls:List Nat)(c:Code)(Q:Exit->St->Prop)(st:St):Prop :=
 ∀ (E:En) (g:Gh) (a:Act) (w:World),ELp P E ls->E.sh=false->E.pin=none->yV E g n st a w->c.wp P (λe a' w'=>∃ g' st',yV E g' n st' a' w'/\Q e st') a w
theorem S9{P:Program}{fn:Func}{c:Code}{f:FuncId}{args:List V}{sr:List A}{st0:St}{m:Bool}{res:V}{outs:List (List C)}
  (hf:P.funcs[f]?=some fn) (hb:fn.body=some c) (hnm:(fn.name == "runtime.NumGoroutine")=false) (hle:sr.length<=fn.ntmps) (ht:DU fn.ntmps fn=true)
  (ha:(EQ 0 args MA.ret).run ji=some (sr,st0)) (hl:lT 0 args sr=true)
  (h:Wz P fn.ntmps (mw 0 args) c (LH P m fn args res outs) (ii sr st0)):aq P f args res outs:=by
 refine ⟨⟨fn,hf,by simp [hb],hnm⟩,λw F vs bs hF hVV hnd hnf htb=>?_⟩
 let E:En:={ w0:=w,X:=λb=>b∈bs,F0:=F,lent:=ql 0 args vs }
 let g0:Gh:={ F:=F,ob:=λ_=>0,rw:=λ_=>.nilFunc,dw:=w }
 have hM0:gS E g0 ji w:=⟨λs cells h=>Yj,λs s' h=>Yj,λr x h=>Yj,λr r' b h=>qed,λr s h=>qed,
  λb hb=>⟨hF b hb,λ_=>.inl hb,.inl hb⟩,rfl,rfl,rfl,zWX _,λ_ _ _=>.inl rfl,λ_ h=>h.elim,⟨rfl,rfl,rfl⟩,λ_ h=>h.elim⟩
 obtain ⟨as',st1,g1,hG,h1,hlen,hx⟩:=QV args hM0 hVV hnd (λb hb=>⟨hnf b hb,λs hs=>(by cases hs),λr hr=>(by obtain ⟨_,_,_,h⟩:=hr; cases h),.inr hb⟩) ha;obtain ⟨rfl,rfl⟩:=jB h1;have hM1:gS E g1 (ii sr st0) w:=⟨hG.mem.ob,hG.mem.obne,hG.mem.row,hG.mem.rowne,hG.mem.rowob,hG.mem.F,hG.mem.os,hG.mem.tape,hG.mem.output,hG.mem.sizes,hG.mem.frame,hG.mem.shp,hG.mem.dep0⟩;obtain ⟨hl1,hl2⟩:=KR hl hVV hlen hx;have hS:yV E g1 fn.ntmps (ii sr st0) { tmps:=vs.toArray++zVW (fn.ntmps - vs.toArray.size) undef,defers:=[] } w:=by
  refine ⟨hM1,by simp; omega,rfl,λi hi=>?_,λi hi=>?_,hl1,λ_ h=>Yj⟩
  ·show ∃ v,_/\VR w g1 st0.O st0.R (match sr[i]? with | some a=>a | none=>.undef) v
   cases hai:sr[i]? with
   | some a =>
    obtain ⟨u,hu,hr⟩:=hx i a hai;have hlt:i < vs.length:=(aab.1 hu).1;exact ⟨u,by rw [zZJ qec]; simpa using hu,hr⟩
   | none =>
    have hge:sr.length<=i:=aai.1 hai;refine ⟨undef,?_,.undef _⟩;rw [zZK (by simpa [<- hlen] using hge)];rw [zZy,if_pos qht]
  ·show (match sr[i]? with | some a=>a | none=>.undef)=A.undef;rw [aai.2 aD]
 refine calls_of_wp hf hb (wp_mono (h E g1 _ w ⟨⟨[],by rw [zWY]; exact (yk _ _ _).symm,Zz _ _ _,λ_ h=>Yj,λh=>Yj⟩,⟨htb.mono λb h=>h.elim id λh=>(by cases h.1)⟩⟩ rfl rfl hS) λe a' w' ⟨g',st',hS',hR⟩=>?_);obtain ⟨he,l,st2,res0,outs0,hres,hrun,hvle,hole⟩:=hR;have hfin:a'.defers=[]/\∃ v,(results fn a'.tmps).run P w'=.ok v w'/\(λe w'=>∃ v F' bv bo,e=Ending.returned v/\vF w w'/\(∀ b,b < w.heap.size->b∉bs->w'.heap[b]?=w.heap[b]?)/\(∀ b,F b->F' b) /\
   (∀ b,F' b->b < w'.heap.size/\(b < w.heap.size->F b\/b∈bs)/\(F b\/Wr w' b))/\VV w' F' res v bv/\wa w' F' args vs outs bo/\(bv++bo).Nodup/\∀ b∈bv++bo,¬ F' b/\(w.heap.size<=b\/b∈bs)) (.returned v) w':=by
  refine ⟨hS'.defers,?_⟩;obtain ⟨v,hrv,hvv⟩:=Vd hS' hres ht;refine ⟨v,hrv,?_⟩;have hM':=hS'.mem;obtain ⟨os,st3,g3,bo,hM3,hE3,hL3,h3,hO,hT3⟩:=KQ (w:=w') args hM' (us:=vs) (hVV.len.symm) (λj c hj=>by
   obtain ⟨b,h5,h6⟩:=hl2 j c hj;rw [(hS'.lent _ _ h6).2];exact h5) hrun
  obtain ⟨c',st4,g4,bv,hM4,hE4,hL4,h4,hv4,hT4⟩:=qbG hM3 (hvv.mono hE3) h3;obtain ⟨h5,rfl⟩:=jB h4;injection h5 with h5 h6
  subst h5 h6;have hT:=hT3.app hM' hL3 hT4 hL4;have hof:∀ b∈bo++bv,w.heap.size<=b\/b∈bs:=λb hb=>by
   rcases hT.of b hb with ⟨r,⟨e,sz,rows,h7⟩,_,h8⟩ | ⟨s,⟨c,cs,h7⟩,_,h8⟩
   ·obtain ⟨_,_,_,_,h9⟩:=hM'.row r _ h7;exact (h9 b h8).2
   ·obtain ⟨_,_,_,_,_,_,h9⟩:=hM'.ob s _ h7;rw [h8] at h9;exact h9
  have hnF:∀ b∈bo++bv,¬ (g4.F b\/F b):=λb hb h=>by
   rcases h with h | h
   ·exact hT.nf b hb h
   ·rcases hof b hb with h7 | h7
    ·have:=hF b h; omega
    ·exact hnf b h7 h
  have hmem:∀ b,b∈bv++bo->b∈bo++bv:=λb hb=>by
   rcases aad.1 hb with h | h <;> simp [h]
  refine ⟨v,λb=>g4.F b\/F b,bv,bo,rfl,⟨hM4.os,hM4.tape,hM4.output,hM4.sizes⟩,λb hb hbs=>hM4.frm rfl b hb hbs,λb h=>.inr h,λb h=>?_,hvle.vv (hv4.mono (λ_ _=>rfl) (λ_ h=>.inl h) (λ_ _=>rfl)),qbF (hO.mono (λb h=>.inl (hE4.F b h))) hole,?_,λb hb=>⟨hnF b (hmem b hb),hof b (hmem b hb)⟩⟩
  ·rcases h with h | h
   ·exact hM4.F b h
   ·exact ⟨zWK (hF b h) hM4.sizes,λ_=>.inl h,.inl h⟩
  ·have:=hT.nodup;rw [zXk] at this ⊢;exact ⟨this.2.1,this.1,λx hx y hy he=>this.2.2 y hy x hx he.symm⟩
 rcases he with rfl | rfl
 ·exact hfin
 ·exact hfin
theorem VI{P:Program}{fn:Func}{c:Code}{f:FuncId}{args:List V}{sr:List A}{st0:St}{m:Bool}{res:V}{outs:List (List C)}
  (hf:P.funcs[f]?=some fn) (hb:fn.body=some c) (hnm:(fn.name == "runtime.NumGoroutine")=false) (hle:sr.length<=fn.ntmps) (ht:DU fn.ntmps fn=true)
  (ha:(EQ 0 args MA.ret).run ji=some (sr,st0)) (hl:lT 0 args sr=true)
  (h:Wp P fn.ntmps (mw 0 args) c (LH P m fn args res outs) (ii sr st0)):aq P f args res outs:=S9 hf hb hnm hle ht ha hl λE g a w hE _ _ hS=>h E g a w hE hS
theorem ZA{E:En}{g:Gh}{st0:St}{w:World}{n:Nat}{sr:List A}{vs:List Value}(hM:gS E g (ii sr st0) w)(hlen:vs.length=sr.length)(hle:sr.length<=n)
  (hx:∀ (j:Nat) (x:A),sr[j]?=some x->∃ u,vs[j]?=some u/\VR w g st0.O st0.R x u) (hl:E.lent=[]) (hp:∀ v,E.pin=some v->(ii sr st0).R PR/\g.rw PR=v) :
  yV E g n (ii sr st0) { tmps:=vs.toArray++zVW (n - vs.toArray.size) undef,defers:=[] } w:=by
 refine ⟨hM,by simp; omega,rfl,λi hi=>?_,λi hi=>?_,λs b h=>(by rw [hl] at h; cases h),hp⟩
 ·show ∃ v,_/\VR w g st0.O st0.R (match sr[i]? with | some a=>a | none=>.undef) v
  cases hai:sr[i]? with
  | some a =>
   obtain ⟨u,hu,hr⟩:=hx i a hai;have hlt:i < vs.length:=(aab.1 hu).1;exact ⟨u,by rw [zZJ qec]; simpa using hu,hr⟩
  | none =>
   have hge:sr.length<=i:=aai.1 hai;refine ⟨undef,?_,.undef _⟩;rw [zZK (by simpa [hlen] using hge)];rw [zZy,if_pos qht]
 ·show (match sr[i]? with | some a=>a | none=>.undef)=A.undef;rw [aai.2 aD]
def Im(e sz:Nat)(rows:List (List T)):St:=⟨λ_=>.undef,λ_=>none,λr=>bif zWz r PR then some (.live e sz rows) else none⟩
theorem qbH{e sz r:Nat}{rows:List (List T)}{x:Row}(h:(Im e sz rows).rw r=some x):r=PR/\x=.live e sz rows:=by
 unfold Im at h;simp only at h
 cases hb:zWz r PR with
 | true=>rw [hb] at h; cases h; exact ⟨zWG hb,rfl⟩
 | false=>rw [hb] at h; cases h
def qhF(P:Program)(fn:Func)(lo m e:Nat)(rows:List (List T))(ex:Exit)(st:St):Prop :=
 (ex=.ret\/ex=.normal)/\(∃ l,DH P st fn.results.toList=some l/\qcI l=.win PR lo m)/\st.rw PR=some (.live e 1 rows)
theorem Yp{P:Program}{fn:Func}{c:Code}{f:FuncId}{e lo m:Nat}{rows:List (List T)}{ts:List T}{sr:List A}{args:List V}
  (hf:P.funcs[f]?=some fn) (hb:fn.body=some c) (hnm:(fn.name == "runtime.NumGoroutine")=false) (hle:sr.length+1<=fn.ntmps) (ht:DU fn.ntmps fn=true) (ha:LE sr=some args) (hrs:∀ row∈rows,∀ x∈row,T.sc x=true)
  (h:Wp P fn.ntmps [0] c (qhF P fn lo m e rows) (ii (.agg (ts.map A.t++[.own PR]) :: sr) (Im e 1 rows))):SB P f e ts rows args lo m:=by
 refine ⟨⟨fn,hf,by simp [hb],hnm⟩,λw F v us vs inner hF hown hRC hnf hus hts hVV htb=>?_⟩
 let E:En:={ w0:=w,X:=λb=>v.ownBlock=some b,F0:=F,lent:=[],pin:=some v }
 let g0:Gh:={ F:=F,ob:=λ_=>0,rw:=λ_=>v,dw:=w }
 have hrow:vR w w E.X F v (.live e 1 rows):=hRC.rowAt (E:=E) (g:=g0) hown (λb hb=>⟨hnf b hb,.inr hb⟩);have hL:∀ {r},(ii (.agg (ts.map A.t++[.own PR]) :: sr) (Im e 1 rows)).L r->r=PR:=λ⟨_,_,_,h⟩=>(qbH h).1;have hM0:gS E g0 (ii (.agg (ts.map A.t++[.own PR]) :: sr) (Im e 1 rows)) w:=⟨λs cells h=>Yj,λs s' h=>Yj,λr x h=>(by obtain ⟨_,rfl⟩:=qbH h; exact hrow),λr r' b h h' _ _=>(hL h).trans (hL h').symm,λr s h hs=>(by cases hs),
  λb hb=>⟨hF b hb,λ_=>.inl hb,.inl hb⟩,rfl,rfl,rfl,zWX _,λ_ _ _=>.inl rfl,λ_ h=>h.elim,⟨rfl,rfl,rfl⟩,λ_ h=>h.elim⟩
 have hR:(ii (.agg (ts.map A.t++[.own PR]) :: sr) (Im e 1 rows)).R PR:=rfl;obtain ⟨hlen,hx⟩:=qfr (g:=g0) (O:=noP) (R:=noP) ha hVV;have hS:=ZA (vs:=Value.agg (us++[v]).toArray :: vs) (n:=fn.ntmps) hM0 (by simp [hlen]) qfa (λj x hj=>by
  cases j with
  | zero =>
   simp at hj; subst hj;refine ⟨_,rfl,.agg _ (us++[v]) (by simp [hus]) λj x u h1 h2=>?_⟩;rw [zWw] at h1 h2;simp only [zXQ] at h1
   split at h1
   ·rename_i hlt;rw [if_pos aD] at h2;rw [zQk,zWq] at h1;obtain ⟨y,h3,rfl⟩:=h1;exact .t _ _ (hts j y u h3 h2)
   ·rename_i hge;rw [if_neg aD] at h2;have h3:j - ts.length=0:=by have:=(aab.1 h1).1; simp at this; omega
    rw [h3] at h1;rw [hus,h3] at h2;simp at h1 h2;subst h1 h2;exact .own (g:=g0) PR hR
  | succ j =>
   have hj':sr[j]?=some x:=by simpa using hj
   have hlt:j < vs.length:=by rw [<- hlen]; exact (aab.1 hj').1
   exact ⟨vs[j],by simp [hlt],(hx j x vs[j] hj' (sX hlt)).mono ⟨λ_ _=>rfl,λ_ h=>h,λ_ h=>h.elim,λ_ h=>h.elim,⟨rfl,rfl,rfl⟩,rfl,rfl⟩⟩) rfl (λv' h=>by cases h; exact ⟨hR,rfl⟩)
 refine calls_of_wp hf hb (wp_mono (h E g0 _ w ⟨⟨[0],rfl,λ_ h=>Yj,λ_ _=>by simp,λh=>by simp at h⟩,⟨htb.mono λb h=>h.elim id λh=>(by cases h.1)⟩⟩ hS) λex a' w' ⟨g',st',hS',hR'⟩=>?_);obtain ⟨he,⟨l,hres,hl⟩,hrw⟩:=hR';have hfin:a'.defers=[]/\∃ v',(results fn a'.tmps).run P w'=.ok v' w'/\(λex w'=>∃ ad n c a' c' inner',v=.slice ad n c/\ex=Ending.returned (.slice a' m c')/\lo+m<=n/\(0 < m->∃ b,ad=some ⟨b,0,none⟩/\a'=some ⟨b,lo,none⟩)/\vF w w' /\
   (∀ b,b < w.heap.size->v.ownBlock≠some b->w'.heap[b]?=w.heap[b]?)/\w'.ownsRow 0 e 1 v rows.length inner'/\Cx w' F 1 rows inner') (.returned v') w':=by
  refine ⟨hS'.defers,?_⟩;obtain ⟨u,hrv,hvv⟩:=Vd hS' hres ht;refine ⟨u,hrv,?_⟩;have hM':=hS'.mem;rw [hl] at hvv;have hpin:=(hS'.pin v rfl).2;obtain ⟨inner',ho',hC,_⟩:=(hM'.row PR _ hrw).rcs;rw [hpin] at ho'
  cases hvv with
  | win _ _ _ n c c' ad a2 hr he2 hm hp =>
   rw [hpin] at he2;refine ⟨ad,n,c,a2,c',inner',he2,rfl,hm,hp,⟨hM'.os,hM'.tape,hM'.output,hM'.sizes⟩,λb h1 h2=>hM'.frm rfl b h1 h2,ho',hC.size,hC.len,λi row j x hi hj=>?_⟩;obtain ⟨q,hq,ho,hr⟩:=hC.rd i row j x hi hj;exact ⟨q,hq,ho,hr.sc (hrs row (zQX hi) x (zQX hj))⟩
 rcases he with rfl | rfl
 ·exact hfin
 ·exact hfin
def yW(P:Program)(ρ:Nat->fi)(ops:Array Oper):List Oper->St->Option St
 | [],st=>some st
 | o :: l,st=>match lw ops st o with
  | some true=>if gc ρ st o then match (uq P ρ st.eval o).run st with | some (x,st1)=>yW P ρ ops l (st1.put o.dst x) | none=>none else none
  | some false=>yW P ρ ops l (st.put o.dst (.tup []))
  | none=>none
def St.or(x:Option St):St:=match x with | some s=>s | none=>ji
section
variable {P:Program} {n:Nat} {Q:Exit->St->Prop} {st st':St} {p:Nat->Bool} {ρ:Nat->fi} {ops:Array Oper} {l:List Oper} {K:St->Prop} {o:Oper}
theorem KT:∀ {l:List Oper} {st st1:St},yW P ρ ops l st=some st1->VE P p ρ ops l st st1
 | [],st,st1,h=>by cases h; rfl
 | o :: l,st,st1,h=>by
  unfold yW at h
  split at h
  ·rename_i hg
   split at h
   ·rename_i hf
    split at h
    ·rename_i x st2 hx;exact ⟨_,.run x st2 hg hf (.plain hx),KT h⟩
    ·cases h
   ·cases h
  ·rename_i hg;exact ⟨_,.skip hg,KT h⟩
  ·cases h
theorem VE.app:∀ {l l':List Oper} {st b c:St},VE P p ρ ops l st b->VE P p ρ ops l' b c->VE P p ρ ops (l++l') st c
 | [],l',st,b,c,h,h'=>by have h:b=st:=h; subst h; exact h'
 | o :: l,l',st,b,c,⟨d,h1,h2⟩,h'=>⟨d,h1,VE.app h2 h'⟩
theorem bc(k:Nat)(h:(yW P ρ ops (l.take k) st).isSome=true)(hr:aa P p ρ ops (l.drop k) (St.or (yW P ρ ops (l.take k) st)) K):aa P p ρ ops l st K:=by
 obtain ⟨st1,h1⟩:=aae.1 h;rw [h1] at hr;obtain ⟨st',h2,h3⟩:=hr;refine ⟨st',?_,h3⟩;have:=VE.app (KT h1) h2;rwa [List.take_append_drop] at this
theorem aa.all(h:(yW P ρ ops l st).isSome=true)(hr:K (St.or (yW P ρ ops l st))):aa P p ρ ops l st K:=by
 obtain ⟨st1,h1⟩:=aae.1 h;rw [h1] at hr;exact ⟨st1,KT h1,hr⟩
theorem aa.call{m:Bool}{d f:Nat}{xf:Operand}{args:Array Operand}{ts:Array TypeId}{caps sr:List A}{vs:List V}{st1:St}{res:V}{outs:List (List C)}{x:A}
  (hg:lw ops st o=some true) (hf:gc ρ st o=true) (ho:o.op=.call { callee:=.value xf,args,argTypes:=ts }) (hd:o.dst=some d) (hxf:st.eval xf=some (.clo f caps)) (qw:d4 (args.toList.map st.eval)=some sr)
  (hp:(oZ m p (sr++caps) MA.ret).run st=some (vs,st1)) (hc:aq P f vs res outs) (hr:(gq d (gp (sr++caps)) outs (V.toA d (lA d 0) res MA.ret)).run st1=some (x,st'))
  (hk:aa P p ρ ops l (st'.put o.dst x) K):aa P p ρ ops (o :: l) st K :=
 aa.step (.run x st' hg hf (.call m d f xf args ts caps sr vs st1 res outs ho hd hxf qw hp hc hr)) hk
theorem aa.callB{d f:Nat}{xf:Operand}{args:Array Operand}{ts:Array TypeId}{caps sr:List A}{vs:List V}{res:V}{x:A}
  (hg:lw ops st o=some true) (hf:gc ρ st o=true) (ho:o.op=.call { callee:=.value xf,args,argTypes:=ts }) (hd:o.dst=some d) (hxf:st.eval xf=some (.clo f caps)) (qw:d4 (args.toList.map st.eval)=some sr)
  (hp:(gL (sr++caps) MA.ret).run st=some (vs,st)) (hc:aq P f vs res []) (hpl:res.plain) (hr:(V.toA d (lA d 0) res MA.ret).run st=some (x,st'))
  (hk:aa P p ρ ops l (st'.put o.dst x) K):aa P p ρ ops (o :: l) st K :=
 aa.step (.run x st' hg hf (.callB d f xf args ts caps sr vs res ho hd hxf qw hp hc hpl hr)) hk
theorem qic{α:Type}{t e:TypeId}{f:α->List T}{xs:List α}{y:α}{sz:Nat}{kk:IntKind}{i:Int}(hu:P.underlying t=some (.slice e))(hs:kF P e=some sz)(h0:0<=i)(h:xs[i.toNat]?=some y) :
  (p7 P t (.t (.sl sz (xs.map f))) (.t (.int kk i))).run st=some (.fadr (f y),st):=by
 unfold p7;simp only [hu,hs,Ia,h0,and_self,↓reduceIte,zQk,h,zWQ,true_and,MA.run]
theorem qgI{α:Type}{t e:TypeId}{f:α->List T}{xs:List α}{y:α}{sz r:Nat}{kk:IntKind}{i:Int}{e':TypeId}(hu:P.underlying t=some (.slice e))(hs:kF P e=some sz)(hr:st.rw r=some (.live e' sz (xs.map f)))(h0:0<=i)(h:xs[i.toNat]?=some y) :
  (p7 P t (.own r) (.t (.int kk i))).run st=some (.elem r sz i.toNat 0,st):=by
 have:i.toNat < xs.length:=(aab.1 h).1;unfold p7;simp only [hu,hs,MA.run,hr,h0,zXQ,this,and_self,↓reduceIte,true_and]
end
section
variable {P:Program} {n:Nat} {ls:List Nat} {st st1:St}
theorem Le.trans{st2:St}(h:Le n ls st st1)(k:Le n ls st1 st2):Le n ls st st2:=λE g a w hE hS=>by
 obtain ⟨g1,h1⟩:=h E g a w hE hS;exact k E g1 a w hE h1
theorem qdT{t:Nat}{x:A}(htm:st1.tm=st.tm)(h:∀ (E:En) (g:Gh) (w:World) (v:Value),gS E g st w->VR w g st.O st.R (st.tm t) v->∃ g1,gS E g1 st1 w/\vZ w w g g1 st.O st.R st1.O st1.R/\VR w g1 st1.O st1.R x v)(ht:t < n) :
  Le n ls st (st1.put (some t) x):=λE g a w hE hS=>by
 obtain ⟨v,h1,h2⟩:=hS.tm t ht;obtain ⟨g1,h3,h4,h5⟩:=h E g w v hS.mem h2;refine ⟨g1,h3.put _ _,hS.size,hS.defers,λi hi=>?_,λi hi=>?_,λs b hs=>?_,λv' hv'=>⟨(h4.R _ (hS.pin v' hv').1).1,(h4.R _ (hS.pin v' hv').1).2.trans (hS.pin v' hv').2⟩⟩
 ·show ∃ u,_/\VR w g1 st1.O st1.R (jL st1.tm t x i) u
  by_cases he:i=t
  ·subst he;exact ⟨v,h1,by rw [io]; exact h5⟩
  ·obtain ⟨u,h6,h7⟩:=hS.tm i hi;exact ⟨u,h6,by rw [eT _ _ _ _ he,htm]; exact h7.mono h4⟩
 ·show jL st1.tm t x i=A.undef;rw [eT _ _ _ _ aD,htm];exact hS.und i hi
 ·obtain ⟨h6,h7⟩:=hS.lent s b hs;exact ⟨(h4.O s h6).1,(h4.O s h6).2.trans h7⟩
theorem gS.nilrow{E:En}{g:Gh}{w:World}{r:Nat}(h:gS E g st w)(hr:st.rw r=none)(e sz:Nat) :
  gS E { g with rw:=jL g.rw r (.slice none 0 0) } { st with rw:=jL st.rw r (some (.live e sz [])) } w /\
   vZ w w g { g with rw:=jL g.rw r (.slice none 0 0) } st.O st.R ({ st with rw:=jL st.rw r (some (.live e sz [])) }:St).O ({ st with rw:=jL st.rw r (some (.live e sz [])) }:St).R :=
 h.new_row (vF.refl w) r hr (.slice none 0 0) e sz [] (λ_=>False) (λ_ _ _=>rfl) (λb h=>by cases h) (λ_ _ h=>h.elim) (λ_ h=>h.elim)
  ⟨[],⟨by simp,.inl ⟨rfl,rfl⟩⟩,λi row h=>by simp at h,λi row j x h=>by simp at h,λb h=>by cases h⟩
theorem Le.frz(t r e sz:Nat)(rows:List (List T))(ht:st.tm t=.own r)(hr:st.rw r=some (.live e sz rows))(hlt:Nat.blt t n=true) :
  Le n ls st (({ st with rw:=jL st.rw r (some (.frz sz rows)) }:St).put (some t) (.t (.sl sz rows))) :=
 qdT rfl (λE g w v hM hv=>by
  rw [ht] at hv
  cases hv with
  | own _ hR =>
   obtain ⟨h1,h2⟩:=hM.frz_row r e sz rows hr;have h3:Rd w _ (.sl sz rows) (g.rw r):=h1.row r (.frz sz rows) (by simp [io]);exact ⟨_,h1,h2,.t _ _ h3⟩) qec
theorem gS.reob{E:En}{g:Gh}{w:World}{s:Nat}{cells cells':List A}(h:gS E g st w)(hs:st.ob s=some cells)(hl:cells'.length<=cells.length)
  (hx:∀ (j:Nat) (x':A),cells'[j]?=some x'->∃ x,cells[j]?=some x/\∀ v,x.one=true->VR w g st.O st.R x v->x'.one=true/\VR w g st.O st.R x' v):gS E g { st with ob:=jL st.ob s (some cells') } w:=by
 have hO:({ st with ob:=jL st.ob s (some cells') }:St).O=st.O:=by
  funext i
  unfold St.O;simp only [jL]
  split
  ·rename_i he;rw [he,hs];rfl
  ·rfl
 have hR:({ st with ob:=jL st.ob s (some cells') }:St).R=st.R:=rfl;have hL:({ st with ob:=jL st.ob s (some cells') }:St).L=st.L:=rfl;refine ⟨λi c hi=>?_,by rw [hO]; exact h.obne,h.row,h.rowne,by rw [hO,hL]; exact h.rowob,h.F,h.os,h.tape,h.output,h.sizes,h.frame,h.shp,h.dep0⟩;rw [hO,hR]
 by_cases he:i=s
 ·subst he;have hc:c=cells':=by simpa [io] using hi.symm
  subst hc;obtain ⟨arr,e,h1,h2,h3,h4⟩:=h.ob i cells hs;refine ⟨arr,e,h1,by omega,λj x' hj=>?_,h4⟩;obtain ⟨x,hxj,hxx⟩:=hx j x' hj;obtain ⟨h5,v,h6,h7⟩:=h3 j x hxj;exact ⟨(hxx v h5 h7).1,v,h6,(hxx v h5 h7).2⟩
 ·exact h.ob i c (by simpa [jL,he] using hi)
theorem Le.mem(htm:st1.tm=st.tm)(h:∀ (E:En) (g:Gh) (w:World),gS E g st w->∃ g1,gS E g1 st1 w/\vZ w w g g1 st.O st.R st1.O st1.R):Le n ls st st1:=λE g a w hE hS=>by
 obtain ⟨g1,h3,h4⟩:=h E g w hS.mem;refine ⟨g1,h3,hS.size,hS.defers,λi hi=>?_,λi hi=>?_,λs b hs=>?_,λv' hv'=>⟨(h4.R _ (hS.pin v' hv').1).1,(h4.R _ (hS.pin v' hv').1).2.trans (hS.pin v' hv').2⟩⟩
 ·obtain ⟨u,h6,h7⟩:=hS.tm i hi;exact ⟨u,h6,by rw [htm]; exact h7.mono h4⟩
 ·rw [htm];exact hS.und i hi
 ·obtain ⟨h6,h7⟩:=hS.lent s b hs;exact ⟨(h4.O s h6).1,(h4.O s h6).2.trans h7⟩
theorem Ou{s:Nat}{cells cells':List A}(hs:st.ob s=some cells):({ st with ob:=jL st.ob s (some cells') }:St).O=st.O:=by
 funext i
 unfold St.O;simp only [jL]
 split
 ·rename_i he;rw [he,hs];rfl
 ·rfl
theorem iM(s j r e sz:Nat)(cells:List A)(hs:st.ob s=some cells)(hj:cells[j]?=some .nil)(hr:st.rw r=none) :
  Le n ls st { tm:=st.tm,ob:=jL st.ob s (some (cells.set j (.own r))),rw:=jL st.rw r (some (.live e sz [])) } :=
 Le.mem rfl λE g w hM=>by
  obtain ⟨h1,h2⟩:=hM.nilrow hr e sz;have h3:({ g with rw:=jL g.rw r (.slice none 0 0) }:Gh).rw r=Value.slice none 0 0:=io _ _ _;have h4:=VR.own (w:=w) (g:={ g with rw:=jL g.rw r (.slice none 0 0) }) (O:=({ st with rw:=jL st.rw r (some (.live e sz [])) }:St).O) (R:=({ st with rw:=jL st.rw r (some (.live e sz [])) }:St).R) r (by simp [St.R,io]);rw [h3] at h4;have hs':({ st with rw:=jL st.rw r (some (.live e sz [])) }:St).ob s=some cells:=hs;have hO:=Ou (cells':=cells.set j (.own r)) hs';refine ⟨_,h1.reob hs' (cells':=cells.set j (.own r)) jC (λi x' hi=>?_),⟨h2.same,h2.F,λs hs=>?_,h2.R,h2.d,h2.s⟩⟩
  ·by_cases he:j=i
   ·subst he;refine ⟨.nil,hj,λv _ hv=>?_⟩;have hlt:j < cells.length:=(aab.1 hj).1;rw [zYW hlt] at hi
    cases hi
    cases hv
    exact ⟨rfl,h4⟩
   ·rw [zZH he] at hi;exact ⟨x',hi,λv h1 h2=>⟨h1,h2⟩⟩
  ·have:=h2.O s hs;exact ⟨by rw [<- hO] at this; exact this.1,this.2⟩
theorem Le.nilO(s j sz:Nat)(cells:List A)(hs:st.ob s=some cells)(hj:cells[j]?=some .nil):Le n ls st { st with ob:=jL st.ob s (some (cells.set j (.t (.sl sz [])))) } :=
 Le.mem rfl λE g w hM=>by
  have hO:=Ou (cells':=cells.set j (.t (.sl sz []))) hs;refine ⟨g,hM.reob hs jC (λi x' hi=>?_),⟨λ_ _=>rfl,λ_ h=>h,λs hs=>⟨by rw [hO]; exact hs,rfl⟩,λ_ h=>⟨h,rfl⟩,⟨rfl,rfl,rfl⟩,rfl,rfl⟩⟩
  by_cases he:j=i
  ·subst he;refine ⟨.nil,hj,λv _ hv=>?_⟩;have hlt:j < cells.length:=(aab.1 hj).1;rw [zYW hlt] at hi
   cases hi
   cases hv
   exact ⟨rfl,.t _ _ (.sl0 _ _ _ (by first | assumption | exact λ_=>rfl | (intro h; cases h)))⟩
  ·rw [zZH he] at hi;exact ⟨x',hi,λv h1 h2=>⟨h1,h2⟩⟩
end
end Go.Tm
namespace Go.Tm
section
variable {P:Program} {n:Nat} {ls:List Nat} {st st1:St}
theorem dH(s j r e sz:Nat)(cells:List A)(rows:List (List T))(hs:st.ob s=some cells)(hj:cells[j]?=some (.own r))(hr:st.rw r=some (.live e sz rows)) :
  Le n ls st { tm:=st.tm,ob:=jL st.ob s (some (cells.set j (.t (.sl sz rows)))),rw:=jL st.rw r (some (.frz sz rows)) } :=
 Le.mem rfl λE g w hM=>by
  obtain ⟨h1,h2⟩:=hM.frz_row r e sz rows hr;have h3:Rd w _ (.sl sz rows) (g.rw r):=h1.row r (.frz sz rows) (by simp [io]);have hs':({ st with rw:=jL st.rw r (some (.frz sz rows)) }:St).ob s=some cells:=hs;have hO:=Ou (cells':=cells.set j (.t (.sl sz rows))) hs';refine ⟨_,h1.reob hs' (cells':=cells.set j (.t (.sl sz rows))) jC (λi x' hi=>?_),⟨h2.same,h2.F,λs hs=>?_,h2.R,h2.d,h2.s⟩⟩
  ·by_cases he:j=i
   ·subst he;refine ⟨.own r,hj,λv _ hv=>?_⟩;have hlt:j < cells.length:=(aab.1 hj).1;rw [zYW hlt] at hi
    cases hi
    cases hv
    exact ⟨rfl,.t _ _ h3⟩
   ·rw [zZH he] at hi;exact ⟨x',hi,λv h1 h2=>⟨h1,h2⟩⟩
  ·have:=h2.O s hs;exact ⟨by rw [<- hO] at this; exact this.1,this.2⟩
end
end Go.Tm
namespace Go.Tm
open Go.RowKit
def ce{α:Type}(xs:List α)(i:Int):Option α:=if 0<=i then xs[i.toNat]? else none
theorem bE{α:Type}{xs:List α}{i:Int}{x:α}(h:ce xs i=some x):0<=i/\xs[i.toNat]?=some x:=by
 unfold ce at h
 split at h
 ·exact ⟨by assumption,h⟩
 ·cases h
def de(b:Bool):Option Unit:=if b then some () else none
theorem bm{b:Bool}{u:Unit}(h:de b=some u):b=true:=by
 unfold de at h
 split at h
 ·assumption
 ·cases h
theorem aap{α β:Type}{x:Option α}{f:α->Option β}{r:β}(h:x.bind f=some r):∃ a,x=some a/\f a=some r:=by
 cases x with
 | none=>cases h
 | some a=>exact ⟨a,rfl,h⟩
def ZB{β:Type}(x:Option (β×St)):St:=match x with | some q=>q.2 | none=>ji
def orA(x:Option (A×St)):A:=match x with | some q=>q.1 | none=>.undef
section
variable {P:Program} {n:Nat} {ls:List Nat} {Q:Exit->St->Prop} {st st':St} {p:Nat->Bool} {ρ:Nat->fi} {ops:Array Oper} {l:List Oper} {K:St->Prop} {o:Oper}
theorem qcM{id:Nat}(p:Nat->Bool)(ρ:Nat->fi)(hm:P.follows .mixedOrders=true)(hok:qbD p ρ n ops=true)(h:aa P p ρ ops ops.toList st (Q .normal)):Wp P n ls (.region id ops true) Q st :=
 Wp.region (λ_=>hm) hok h
theorem VJ{id:Nat}(p:Nat->Bool)(ρ:Nat->fi)(hok:ops.toList.all (DG n)=true)(h:aa P p ρ ops ops.toList st (Q .normal)):Wp P n ls (.region id ops false) Q st :=
 Wp.region (λh=>by cases h) hok h
theorem aa.known(d:Nat){e v:Bool}(h:st.tm d=.t (.bool e))(hv:e=v)(hr:aa P p ρ ops l (st.put (some d) (.t (.bool v))) K):aa P p ρ ops l st K:=by
 have:st.put (some d) (.t (.bool v))=st:=by
  refine St.ext (funext λi=>?_) rfl rfl;show jL st.tm d (.t (.bool v)) i=st.tm i;unfold jL
  split
  ·rename_i he;rw [he,h,hv]
  ·rfl
 rwa [this] at hr
theorem aa.pure{x:A}(hg:lw ops st o=some true)(hf:gc ρ st o=true)(h:(uq P ρ st.eval o).run st=some (x,st))(hr:aa P p ρ ops l (st.put o.dst x) K):aa P p ρ ops (o :: l) st K:=aa.op hg hf h hr
theorem qex{α:Type}(f:α->List T)(xs:List α)(i:Int){y:α}{t e:TypeId}{a b:Operand}{sz:Nat}{kk:IntKind}(ho:o.op=.indexAddr t a b)(hg:lw ops st o=some true)(hf:gc ρ st o=true)
  (ha:st.eval a=some (.t (.sl sz (xs.map f)))) (hb:st.eval b=some (.t (.int kk i))) (hu:P.underlying t=some (.slice e)) (hs:kF P e=some sz) (h:ce xs i=some y) (hk:aa P p ρ ops l (st.put o.dst (.fadr (f y))) K):aa P p ρ ops (o :: l) st K:=by
 obtain ⟨h0,h1⟩:=bE h;refine aa.pure (x:=.fadr (f y)) hg hf ?_ hk;simp only [uq,ho,ha,hb];exact qic hu hs h0 h1
theorem qey{α:Type}(f:α->List T)(xs:List α)(i:Int)(r:Nat){y:α}{t e e':TypeId}{a b:Operand}{sz:Nat}{kk:IntKind}(ho:o.op=.indexAddr t a b)(hg:lw ops st o=some true)(hf:gc ρ st o=true)
  (ha:st.eval a=some (.own r)) (hr:st.rw r=some (.live e' sz (xs.map f))) (hb:st.eval b=some (.t (.int kk i))) (hu:P.underlying t=some (.slice e)) (hs:kF P e=some sz) (h:ce xs i=some y) (hk:aa P p ρ ops l (st.put o.dst (.elem r sz i.toNat 0)) K):aa P p ρ ops (o :: l) st K:=by
 obtain ⟨h0,h1⟩:=bE h;refine aa.pure (x:=.elem r sz i.toNat 0) hg hf ?_ hk;simp only [uq,ho,ha,hb];exact qgI hu hs hr h0 h1
theorem qcN{α:Type}(f:α->List T)(xs:List α)(r i off:Nat){y:α}{t:TypeId}{a:Operand}{sz m:Nat}{e':TypeId}{gg:Bool}(x:A)(ho:o.op=.load t a)(hg:lw ops st o=some true)(hf:gc ρ st o=true)
  (ha:st.eval a=some (.elem r sz i off)) (hr:st.rw r=some (.live e' sz (xs.map f))) (hgg:qbe P t=some gg) (hm:kF P t=some m) (h:xs[i]?=some y) (hc:Mo gg m ((f y).map A.t) off=some x) (hk:aa P p ρ ops l (st.put o.dst x) K):aa P p ρ ops (o :: l) st K:=by
 refine aa.pure (x:=x) hg hf ?_ hk;simp only [uq,ho,ha,QQ,hgg,hm,MA.run,hr,↓reduceIte,zQk,h,zWQ,hc]
def KU(P:Program)(t:TypeId):Option (TypeId×Nat×Nat):=match P.underlying t with
 | some (.slice e)=>match IR P e,Aq P e with
  | some (some _,n,by_),some z=>if z.length=n/\0 < n/\0 < by_ then some (e,n,by_) else none
  | _,_=>none
 | _=>none
theorem Ov{t e:TypeId}{n by_:Nat}(h:KU P t=some (e,n,by_)):∃ z z0,P.underlying t=some (.slice e)/\IR P e=some (some z0,n,by_)/\Aq P e=some z/\z.length=n/\0 < n/\0 < by_:=by
 unfold KU at h
 split at h
 ·rename_i e' hu
  split at h
  ·rename_i z0 n' by' z hi hz
   split at h
   ·rename_i hc
    cases h
    exact ⟨z,z0,hu,hi,hz,hc.1,hc.2.1,hc.2.2⟩
   ·cases h
  ·cases h
 ·cases h
theorem Ow{β:Type}{y:A}{m:Nat}{ys:List (List T)}(hy:((y.rows λm rows=>MA.ret (m,rows)).run st).map Prod.fst=some (m,ys)):∀ k:Nat->List (List T)->MA β,(y.rows k).run st=(k m ys).run st:=by
 intro k;unfold A.rows at hy ⊢
 split at hy <;> simp only [MA.run] at hy ⊢ <;> try (simp at hy; done)
 ·simp at hy; obtain ⟨rfl,rfl⟩:=hy; rfl
 ·split at hy
  ·rename_i h; rw [if_pos h]; simp [MA.run] at hy; obtain ⟨rfl,rfl⟩:=hy; rfl
  ·simp [MA.run] at hy
 ·simp at hy; obtain ⟨rfl,rfl⟩:=hy; rfl
 ·rename_i r
  revert hy
  rcases st.rw r with _ | (_ | _ | _) <;> simp only [MA.run,zWQ,Option.some.injEq,Prod.mk.injEq,Option.map_none,reduceCtorEq,false_implies]
  ·rintro ⟨rfl,rfl⟩; rfl
  ·rintro ⟨rfl,rfl⟩; rfl
theorem qez(d m e nn by_ r:Nat)(xs ys:List (List T)){t:TypeId}{ts:Array TypeId}{args:Array Operand}{a b:Operand}{y:A}(ho:o.op=.call { callee:=.builtin .append,args,argTypes:=ts })(hargs:args.toList=[a,b])(hts:ts.toList=[t,t])(hd:o.dst=some d)(hg:lw ops st o=some true)(hf:gc ρ st o=true)
  (ha:st.eval a=some (.own r)) (hr:st.rw r=some (.live e nn xs)) (hb:st.eval b=some y) (hy:((y.rows λm rows=>MA.ret (m,rows)).run st).map Prod.fst=some (m,ys)) (hm:m=nn\/ys=[]) (hi:KU P t=some (e,nn,by_)) (hsz:(xs.length+ys.length)*by_<=140737488355328) (hne:zWz (lA d 0) r=false) (hfree:st.rw (lA d 0)=none)
  (hk:aa P p ρ ops l (({ st with rw:=jL (jL st.rw r (some .gone)) (lA d 0) (some (.live e nn (xs++ys))) }:St).put o.dst (.own (lA d 0))) K):aa P p ρ ops (o :: l) st K:=by
 obtain ⟨z,z0,hu,hti,hz,h1,h2,h3⟩:=Ov hi;have hne':lA d 0≠r:=λh=>by rw [h,Nat.beq_refl] at hne; cases hne
 refine aa.op (x:=.own (lA d 0)) hg hf ?_ hk;have hrow:=Ow (β:=A) hy;have hfr:jL st.rw r (some Row.gone) (lA d 0)=none:=by rw [eT _ _ _ _ hne',hfree]
 simp only [uq,ho,hargs,ha,hb,Cw,hts,hd,↓reduceIte,hu,hti,hz,h1,h2,h3,and_self,hrow,hm,MA.run,hr,hsz,DF,hfr]
end
section
variable {P:Program} {n:Nat} {ls:List Nat} {Q:Exit->St->Prop} {st st':St} {p:Nat->Bool} {ρ:Nat->fi} {ops:Array Oper} {l:List Oper} {K:St->Prop} {o:Oper}
theorem qie{m:Bool}{fn:Func}{args:List V}{res:V}{outs:List (List C)}(l:List A)(res0:V)(outs0:List (List C))(hres:DH P st fn.results.toList=some l)(h:((Hw 0 args λos=>qew m (qcI l) λv=>MA.ret (v,os)).run st).map Prod.fst=some (res0,outs0))(hv:VLe res0 res)(ho:Gx (Gx Z2) outs0 outs):LH P m fn args res outs .ret st:=by
 obtain ⟨⟨x,st1⟩,h1,h2⟩:=aac.1 h
 cases h2
 exact ⟨.inl rfl,l,st1,res0,outs0,hres,h1,hv,ho⟩
theorem qeA{α:Type}(f:α->List T)(d m e nn by_ r:Nat)(xs ys:List α){t:TypeId}{ts:Array TypeId}{args:Array Operand}{a b:Operand}{y:A}(ho:o.op=.call { callee:=.builtin .append,args,argTypes:=ts })(hargs:args.toList=[a,b])(hts:ts.toList=[t,t])(hd:o.dst=some d)(hg:lw ops st o=some true)(hf:gc ρ st o=true)
  (ha:st.eval a=some (.own r)) (hr:st.rw r=some (.live e nn (xs.map f))) (hb:st.eval b=some y) (hy:((y.rows λm rows=>MA.ret (m,rows)).run st).map Prod.fst=some (m,ys.map f)) (hm:m=nn\/ys.map f=[]) (hi:KU P t=some (e,nn,by_)) (hsz:(xs.length+ys.length)*by_<=140737488355328) (hne:zWz (lA d 0) r=false) (hfree:st.rw (lA d 0)=none)
  (hk:aa P p ρ ops l (({ st with rw:=jL (jL st.rw r (some .gone)) (lA d 0) (some (.live e nn ((xs++ys).map f))) }:St).put o.dst (.own (lA d 0))) K):aa P p ρ ops (o :: l) st K :=
 qez d m e nn by_ r (xs.map f) (ys.map f) ho hargs hts hd hg hf ha hr hb hy hm hi (by simpa using hsz) hne hfree (by rw [<- zXh]; exact hk)
theorem ij(op:BinOp)(a b:T)(z:T){t u:TypeId}{x y:Operand}(ho:o.op=.binOp op t x y u)(hg:lw ops st o=some true)(hf:gc ρ st o=true)(hx:st.eval x=some (.t a))(hy:st.eval y=some (.t b))
  (h:Jy (isB P t) op a b=some z) (hk:aa P p ρ ops l (st.put o.dst (.t z)) K):aa P p ρ ops (o :: l) st K:=by
 refine aa.pure (x:=.t z) hg hf ?_ hk;simp only [uq,ho,hx,hy,h,MA.run]
theorem qdU(tb:Bool)(k:IntKind)(a b:Int)(h:(b == 0)=false):Jy tb .quo (.int k a) (.int k b)=some (.int k (k.wrap (a.tdiv b))):=by
 have:b≠0:=by simpa using h
 simp [Jy,this]
theorem Ve(tb:Bool)(k:IntKind)(a b:Int)(h:(b == 0)=false):Jy tb .rem (.int k a) (.int k b)=some (.int k (a.tmod b)):=by
 have:b≠0:=by simpa using h
 simp [Jy,this]
theorem Aw(tb:Bool)(k k':IntKind)(a b:Int)(h:decide (0<=b)=true):Jy tb .shl (.int k a) (.int k' b)=some (.int k (k.wrap (a*2 ^ min b.toNat k.bits))):=by
 have:0<=b:=by simpa using h
 simp [Jy,this]
theorem Ox(tb:Bool)(k k':IntKind)(a b:Int)(h:decide (0<=b)=true):Jy tb .shr (.int k a) (.int k' b)=some (.int k (a.fdiv (2 ^ min b.toNat k.bits))):=by
 have:0<=b:=by simpa using h
 simp [Jy,this]
def dW(l h n:Int):Bool:=decide (0<=l) && decide (l<=h) && decide (h<=n)
theorem Oy{l h n:Int}(hh:dW l h n=true):0<=l/\l<=h/\h<=n:=by
 simp only [dW,sk,decide_eq_true_eq] at hh;exact ⟨hh.1.1,hh.1.2,hh.2⟩
theorem eU{α:Type}(f:α->List T)(xs:List α)(sz:Nat)(i j:Int){t e:TypeId}{x:Operand}{ax:A}{lo hi:Option Operand}{alo ahi:Option A}(ho:o.op=.slice t x lo hi none)(hg:lw ops st o=some true)(hf:gc ρ st o=true)(hx:st.eval x=some ax)(hr:((ax.toT MA.ret).run st).map Prod.fst=some (.sl sz (xs.map f)))
  (hlo:S6 st.eval lo=some alo) (hhi:S6 st.eval hi=some ahi) (hl:EP 0 alo=some i) (hh:EP xs.length ahi=some j) (hu:P.underlying t=some (.slice e)) (hs:kF P e=some sz) (hw:qfe ρ o.dst alo ahi=false) (h:dW i j xs.length=true)
  (hk:aa P p ρ ops l ((ZB ((ax.toT MA.ret).run st)).put o.dst (.t (.sl sz (((xs.take j.toNat).drop i.toNat).map f)))) K):aa P p ρ ops (o :: l) st K:=by
 have h':=Oy h;obtain ⟨⟨y,st1⟩,h1,h2⟩:=aac.1 hr
 cases h2
 rw [h1] at hk;refine aa.op (x:=.t (.sl sz (((xs.take j.toNat).drop i.toNat).map f))) (st1:=st1) hg hf ?_ hk;have key:∀ k:T->MA A,(ax.toT k).run st=(k (.sl sz (xs.map f))).run st1:=by
  intro k
  cases ax <;> simp only [A.toT,MA.run,Option.some.injEq,Prod.mk.injEq,reduceCtorEq] at h1 ⊢
  ·obtain ⟨h1,rfl⟩:=h1; rw [h1]
  ·obtain ⟨h1,rfl⟩:=h1; rw [h1]
  ·rename_i r
   revert h1
   rcases st.rw r with _ | (_ | _ | _) <;> simp only [MA.run,Option.some.injEq,Prod.mk.injEq,reduceCtorEq,false_implies]
   ·rintro ⟨h1,rfl⟩; rw [h1]
   ·rintro ⟨h1,rfl⟩; rw [h1]
 have hne:Ib P t ax alo ahi=ax.toT fun
   | .sl sz' rows=>match EP 0 alo,EP rows.length ahi with
    | some l,some h=>if sz'=sz\/rows=[] then if 0<=l/\l<=h/\h<=rows.length then .ret (.t (.sl sz' ((rows.take h.toNat).drop l.toNat))) else .fail else .fail
    | _,_=>.fail
   | _=>.fail:=by
  unfold Ib;rw [hu];have h9:∀ q:Option Nat,q=some sz->(match q with
   | some n=>(ax.toT λy=>match y with
    | .sl sz rows=>match EP 0 alo,EP rows.length ahi with
     | some l,some h=>if sz=n\/rows=[] then if 0<=l/\l<=h/\h<=rows.length then (MA.ret (.t (.sl sz ((rows.take h.toNat).drop l.toNat))):MA A) else .fail else .fail
     | _,_=>.fail
    | _=>.fail)
   | none=>.fail)=ax.toT fun
   | .sl sz' rows=>match EP 0 alo,EP rows.length ahi with
    | some l,some h=>if sz'=sz\/rows=[] then if 0<=l/\l<=h/\h<=rows.length then .ret (.t (.sl sz' ((rows.take h.toNat).drop l.toNat))) else .fail else .fail
    | _,_=>.fail
   | _=>.fail:=λq hq=>by subst hq; rfl
  cases ax <;> first | exact h9 _ hs | (exfalso; simp [A.toT,MA.run] at h1; done)
 simp only [uq,ho,hx,hlo,hhi,hw,zQw,hne,key,hl,zXQ,hh,h'.1,h'.2.1,h'.2.2,and_self,↓reduceIte,MA.run,true_or,<- List.map_take,<- List.map_drop]
theorem VK{α:Type}:∀ (ts:List T) (k:List T->MA α),ln (ts.map A.t) k=k ts
 | [],k=>rfl
 | t :: ts,k=>by
  simp only [zWk,ln,A.toT];exact VK ts _
theorem p8{α:Type}(f:α->List T)(y:α)(d e nn by_:Nat)(i c:Int){t:TypeId}{x1 x2:Operand}(ho:o.op=.makeSlice t x1 x2)(hd:o.dst=some d)(hg:lw ops st o=some true)(hf:gc ρ st o=true)(h1:st.eval x1=some (.t (.int .i64 i)))(h2:st.eval x2=some (.t (.int .i64 c)))
  (hi:KU P t=some (e,nn,by_)) (hz:(Aq P e).map (oL (N8 P e))=some ((f y).map A.t))
  (h0:(decide (0<=c) && (i == 0 || i == c))=true) (hsz:c.toNat*by_<=140737488355328) (hfree:st.rw (lA d 0)=none)
  (hk:aa P p ρ ops l (({ st with rw:=jL st.rw (lA d 0) (some (.live e nn ((zQV i.toNat y).map f))) }:St).put o.dst (.own (lA d 0))) K):aa P p ρ ops (o :: l) st K:=by
 obtain ⟨z,z0,hu,hti,hzz,q1,q2,q3⟩:=Ov hi;simp only [sk,decide_eq_true_eq,Bool.or_eq_true,beq_iff_eq] at h0;refine aa.op (x:=.own (lA d 0)) hg hf ?_ hk;have hc:c<=9223372036854775807:=by
  have:c.toNat<=c.toNat*by_:=Nat.le_mul_of_pos_right _ q3;omega
 rw [hzz] at hz;have hz':oL (N8 P e) z=(f y).map A.t:=by simpa using hz
 simp only [uq,ho,h1,h2,Vn,hu,hd,hti,hzz,q1,q2,h0.1,h0.2,hsz,hc,and_self,↓reduceIte,hz',VK,List.map_replicate,DF,MA.run,hfree]
theorem fj{α:Type}(f:α->List T)(xs:List α)(r i off:Nat){y:α}(y':α){t e:TypeId}{x1 x2:Operand}(v:A){sz m:Nat}(ts:List T)(ho:o.op=.store t x1 x2)(hg:lw ops st o=some true)(hf:gc ρ st o=true)
  (h1:st.eval x1=some (.elem r sz i off)) (h2:st.eval x2=some v) (hm:kF P t=some m) (hv:(zWz v.cells.length m && v.cells.all A.one)=true) (hz:oL (N8 P t) v.cells=ts.map A.t)
  (hr:st.rw r=some (.live e sz (xs.map f))) (h:xs[i]?=some y) (hle:Nat.ble (off+m) (f y).length=true) (hy:spl (f y) off ts=f y')
  (hk:aa P p ρ ops l ((({ st with rw:=jL st.rw r (some (.live e sz ((xs.set i y').map f))) }:St)).put o.dst .undef) K):aa P p ρ ops (o :: l) st K:=by
 simp only [sk] at hv;have hv1:=zWG hv.1;have hle':off+m<=(f y).length:=by simpa using hle
 refine aa.op (x:=.undef) hg hf ?_ hk;simp only [uq,ho,h1,h2,H9,hm,hv1,hv.2,and_self,↓reduceIte,hz,VK,MA.run,hr,zQk,h,zWQ,hle',hy,List.map_set]
end
theorem Z3{β:Type}{e:Bool}{x y:β}{r:β}(h:(bif e then x else y)=r)(hc:e=true):x=r:=by rw [hc] at h; exact h
theorem Z4{β:Type}{e:Bool}{x y:β}{r:β}(h:(bif e then x else y)=r)(hc:e=false):y=r:=by rw [hc] at h; exact h
def aS(k:IntKind)(a b:Int):Int:=k.wrap (a+b)
def cJ(k:IntKind)(a b:Int):Int:=k.wrap (a - b)
def ip(k:IntKind)(a b:Int):Int:=k.wrap (a*b)
def qcO(k:IntKind)(a b:Int):Int:=k.wrap (a.tdiv b)
def ut(k:IntKind)(a b:Int):Int:=a.tmod b
def gU(k:IntKind)(a b:Int):Int:=k.wrap (aaa k.bits a &&& aaa k.bits b).toNat
def sC(k:IntKind)(a b:Int):Int:=k.wrap (aaa k.bits a ||| aaa k.bits b).toNat
def DV(k:IntKind)(a b:Int):Int:=k.wrap (aaa k.bits a &&& ~~~ aaa k.bits b).toNat
def iq(k:IntKind)(a b:Int):Int:=k.wrap (a*2 ^ min b.toNat k.bits)
def qm(k:IntKind)(a b:Int):Int:=a.fdiv (2 ^ min b.toNat k.bits)
theorem tf(b:Bool):b=true\/b=false:=by cases b <;> simp
def aB(k:IntKind)(n:Int):List T:=[.int k n]
def qif(b:Bool):List T:=[.bool b]
def eSl{α:Type}(sz:Nat)(f:α->List T)(xs:List α):List T:=[.sl sz (xs.map f)]
theorem aq.le{P:Program}{f:FuncId}{l l':List V}{res:V}{outs:List (List C)}(h:aq P f l' res outs)(hl:VH l l'):aq P f l res outs:=by
 refine ⟨h.1,λw F vs bs hF hV hn hb htb=>(h.2 w F vs bs hF (qcL hl hV) hn hb htb).mono λe w' hh=>?_⟩;obtain ⟨v,F',bv,bo,h1,h2,h3,h4,h5,h6,h7,h8,h9⟩:=hh;exact ⟨v,F',bv,bo,h1,h2,h3,h4,h5,h6,qgH h7 hl,h8,h9⟩
section
variable {P:Program} {n:Nat} {ls:List Nat} {Q:Exit->St->Prop} {N:St->Prop} {st st':St} {p:Nat->Bool} {ρ:Nat->fi} {ops:Array Oper} {l:List Oper} {K:St->Prop} {o:Oper}
theorem b4(h:N st):jd N Q .normal st:=h
theorem kQ{id:Nat}(h:Q (.exit id) st):jd N Q (.exit id) st:=h
theorem qhj(h:Q .ret st):jd N Q .ret st:=h
theorem dG{id:Nat}(h:Q .normal st):qcH id Q .normal st:=h
theorem Hx{id:Nat}(h:Q .normal st):qcH id Q (.exit id) st:=by
 show bif zWz id id then Q .normal st else Q (.exit id) st
 rw [Nat.beq_refl];exact h
theorem qiR{id id':Nat}(hne:zWz id' id=false)(h:Q (.exit id') st):qcH id Q (.exit id') st:=by
 show bif zWz id' id then Q .normal st else Q (.exit id') st
 rw [hne];exact h
theorem Oz{o:Operand}{x y:Code}(ho:st.eval o=some (.t (.bool true)))(h:Wp P n ls x Q st):Wp P n ls (.cond o x y) Q st:=Wp.cond ho h
theorem OA{o:Operand}{x y:Code}(ho:st.eval o=some (.t (.bool false)))(h:Wp P n ls y Q st):Wp P n ls (.cond o x y) Q st:=Wp.cond ho h
theorem Ta{fn:Func}{c:Code}{f:FuncId}{args:List V}{m:Bool}{res:V}{outs:List (List C)}(sr:List A)
  (hf:P.funcs[f]?=some fn) (hb:fn.body=some c) (hnm:(fn.name == "runtime.NumGoroutine")=false) (hle:Nat.ble sr.length fn.ntmps=true) (ht:DU fn.ntmps fn=true)
  (ha:((EQ 0 args MA.ret).run ji).map Prod.fst=some sr) (hl:lT 0 args sr=true)
  (h:Wp P fn.ntmps (mw 0 args) c (LH P m fn args res outs) (ii sr (ZB ((EQ 0 args MA.ret).run ji)))):aq P f args res outs:=by
 obtain ⟨⟨as',st0⟩,h1,h2⟩:=aac.1 ha
 cases h2
 rw [h1] at h;exact VI hf hb hnm qfa ht h1 hl h
theorem qeB{α:Type}(f:α->List T)(xs:List α)(m:Nat){y:A}{x:Operand}{t e:TypeId}{args:Array Operand}{ts:Array TypeId}(ho:o.op=.call { callee:=.builtin .len,args,argTypes:=ts })(hargs:args.toList=[x])(hts:ts.toList=[t])(hg:lw ops st o=some true)(hf:gc ρ st o=true)
  (hx:st.eval x=some y) (hy:((y.rows λm rows=>MA.ret (m,rows)).run st).map Prod.fst=some (m,xs.map f)) (hu:P.underlying t=some (.slice e)) (hk:aa P p ρ ops l (st.put o.dst (.t (.int .i64 xs.length))) K):aa P p ρ ops (o :: l) st K:=by
 refine aa.pure (x:=.t (.int .i64 xs.length)) hg hf ?_ hk;have hl:(Vo P t y).run st=(MA.ret (.t (.int .i64 xs.length)):MA A).run st:=by
  unfold Vo;rw [hu]
  split <;> rename_i h1 <;> first | (cases h1; done) | skip
  ·rename_i s z rs
   cases s with
   | true=>cases hy
   | false =>
    simp only [A.rows] at hy
    split at hy
    ·simp [MA.run] at hy; rw [hy.2]; simp
    ·simp [MA.run] at hy
  ·rw [Ow hy]; simp
  ·rename_i h2 _; exact absurd rfl (h2 _)
 simp only [uq,ho,hargs,hx,hts];rw [hl]; rfl
def DI(l:List (Nat×fi))(t:Nat):fi:=match JN l t with | some r=>r | none=>.any
def pOf(l:List Nat)(s:Nat):Bool:=l.contains s
end
end Go.Tm
namespace Go.Tm
open Go.RowKit Go.ChangeShapes
inductive RdL (w:World) (F:Nat->Prop):List T->List Value->Prop
 | nil:RdL w F [] []
 | cons (x:T) (v:Value) (xs:List T) (vs:List Value) (h:Rd w F x v) (hs:RdL w F xs vs):RdL w F (x :: xs) (v :: vs)
theorem RdL.get{w:World}{F:Nat->Prop}{xs:List T}{vs:List Value}(h:RdL w F xs vs):∀ (j:Nat) (x:T),xs[j]?=some x->∃ v,vs[j]?=some v/\Rd w F x v:=by
 induction h with
 | nil=>intro j x hx; simp at hx
 | cons x v xs vs h hs ih =>
  intro j y hy
  cases j with
  | zero=>simp only [zWH,Option.some.injEq] at hy ⊢; subst hy; exact ⟨v,rfl,h⟩
  | succ j=>simp only [List.getElem?_cons_succ] at hy ⊢; exact ih j y hy
theorem RdL.append{w:World}{F:Nat->Prop}{xs ys:List T}{vs us:List Value}(h:RdL w F xs vs)(k:RdL w F ys us):RdL w F (xs++ys) (vs++us):=by
 induction h with
 | nil=>exact k
 | cons x v xs vs h hs ih=>exact .cons _ _ _ _ h ih
theorem RdL.cvs{w:World}{F:Nat->Prop}{xs:List T}{vs:List Value}(h:RdL w F xs vs):ZU w F (xs.map .t) vs []:=by
 induction h with
 | nil=>exact .nil
 | cons x v xs vs h hs ih=>exact .cons _ _ [] _ _ [] (.t x v h) ih
abbrev Old(w:World):Nat->Prop:=λb=>b < w.heap.size
def di{α:Type}(P:Program)(t:TypeId)(n:Nat)(wf:α->Prop)(enc:α->List T):Prop :=
 P.cellsOf t=n/\(∀ x,(enc x).length=n)/\∀ {H:Type} (ec:TypeId×Value->H) (w:World) (sp:Nat->Bool) (held:Bool) (k:Nat) (cs:List Value) (d:DataW H×List MemPlace),
  DataW.trod ec P w 0 sp held k t cs=some d->∃ x,wf x/\RdL w (Old w) (enc x) cs
def lU(k:IntKind)(n:Int):Prop:=k.min<=n/\n<=k.max
def LI{α:Type}(wf:α->Prop)(xs:List α):Prop:=xs.length<=maxLen/\∀ x∈xs,wf x
theorem di.int{P:Program}{t:TypeId}{k:IntKind}(hu:P.underlying t=some (.int k))(hc:P.cellsOf t=1):di P t 1 (lU k) (aB k):=by
 refine ⟨hc,λ_=>rfl,λec w sp held m cs d h=>?_⟩;obtain ⟨n,rfl,_,hw⟩:=DataW.trod_int hu h;simp [Lit.wf] at hw;exact ⟨n,hw,.cons _ _ _ _ (.int _ _) .nil⟩
theorem di.bool{P:Program}{t:TypeId}(hu:P.underlying t=some .bool)(hc:P.cellsOf t=1):di P t 1 (λ_=>True) qif:=by
 refine ⟨hc,λ_=>rfl,λec w sp held m cs d h=>?_⟩;obtain ⟨n,rfl,_⟩:=DataW.trod_bool hu h;exact ⟨n,trivial,.cons _ _ _ _ (.bool _) .nil⟩
theorem VL{α:Type}{g:Nat->Option α}{n:Nat}{r:List α}(h:(zXY n).mapM g=some r){i:Nat}(hi:i < n):∃ x,g i=some x/\r[i]?=some x:=by
 have h1:=mapM_some_get h i i (by simp [hi]);have h2:=mapM_some_length h;simp only [List.length_range] at h2;rw [h1];exact ⟨r[i]'aD,by simp,by simp⟩
theorem ZC{w:World}{a:Addr}{n:Nat}{cs:List Value}(h:w.cells? 0 a n=some cs):cs.length=n/\∀ j,j < n->∃ v,w.cell? (a.add j)=some v/\cs[j]?=some v:=by
 unfold World.cells? at h;simp only [zYz,if_true] at h;exact ⟨by have:=mapM_some_length h; simpa using this,λj hj=>VL h hj⟩
theorem qeC{w:World}{a:Addr}{v:Value}(h:w.cell? a=some v):a.spot=none/\a.block < w.heap.size:=by
 unfold World.cell? at h
 split at h
 ·rename_i c u fr e
  split at h
  ·cases h
  ·rename_i hs;refine ⟨by cases a with | mk b o s=>cases s <;> simp_all,?_⟩;have:=e; rw [aag] at this; exact this.1
 ·cases h
theorem di.slice{α:Type}{P:Program}{t e:TypeId}{n:Nat}{wf:α->Prop}{enc:α->List T}(hu:P.underlying t=some (.slice e))(hc:P.cellsOf t=1)(he:di P e (n+1) wf enc):di P t 1 (LI wf) (eSl (n+1) enc):=by
 refine ⟨hc,λ_=>rfl,λ{H} ec w sp held m cs d h=>?_⟩;rcases DataW.trod_slice hu h with ⟨rfl,_⟩ | ⟨a,len,cap,elems,rest,m',rfl,rfl,_,_,hlc,hcap,hel,hm,_,_⟩
 ·exact ⟨[],⟨by simp,by simp⟩,.cons _ _ _ _ (.sl0 _ _ _ (by first | assumption | exact λ_=>rfl | (intro h; cases h))) .nil⟩
 ·have hex:∀ i,i < len->∃ x:α,∃ cs:List Value,w.cells? 0 (a.add (i*(n+1))) (n+1)=some cs/\wf x/\RdL w (Old w) (enc x) cs:=by
   intro i hi;have hy:=hm i hi;rw [he.1,sX aD] at hy
   cases hcs:w.cells? 0 (a.add (i*(n+1))) (n+1) with
   | none=>rw [hcs] at hy; cases hy
   | some cs =>
    rw [hcs] at hy;obtain ⟨x,hx,hr⟩:=he.2.2 ec w sp held m' cs _ hy;exact ⟨x,cs,rfl,hx,hr⟩
  rcases Nat.eq_zero_or_pos len with h0 | hpos
  ·subst h0; exact ⟨[],⟨by simp,by simp⟩,.cons _ _ _ _ (.sl0 _ _ _ (by first | assumption | exact λ_=>rfl | (intro h; cases h))) .nil⟩
  ·have hsp:a.spot=none/\a.block < w.heap.size:=by
    obtain ⟨x,cs,hcs,_,_⟩:=hex 0 hpos;obtain ⟨v,hv,_⟩:=(ZC hcs).2 0 aD;have:=qeC hv
    simpa [Addr.add] using this
   obtain ⟨b,off,s⟩:=a;simp only at hsp;obtain ⟨rfl,hb⟩:=hsp;have hcell:∀ i j,(Addr.add ((⟨b,off,none⟩:Addr).add (i*(n+1))) j)=⟨b,off+i*(n+1)+j,none⟩:=by
    intro i j;unfold Addr.add
    split <;> split <;> simp_all
   -- the elements, chosen
   have hch:∀ k,k<=len->∃ ys:List α,ys.length=k/\(∀ y∈ys,wf y)/\∀ i y,ys[i]?=some y->∃ cs,w.cells? 0 ((⟨b,off,none⟩:Addr).add (i*(n+1))) (n+1)=some cs/\RdL w (Old w) (enc y) cs:=by
    intro k
    induction k with
    | zero=>intro _; exact ⟨[],rfl,by simp,by simp⟩
    | succ k ih =>
     intro hk;obtain ⟨ys,h1,h2,h3⟩:=ih aD;obtain ⟨x,cs,h4,h5,h6⟩:=hex k aD;refine ⟨ys++[x],by simp [h1],?_,?_⟩
     ·intro y hy;rcases aad.1 hy with h | h
      ·exact h2 y h
      ·simp only [zWW] at h; subst h; exact h5
     ·intro i y hy
      by_cases hi:i < ys.length
      ·rw [zQZ hi] at hy; exact h3 i y hy
      ·rw [zQY aD] at hy;have:i=ys.length:=by
        rcases zZq (i - ys.length) 1 with h | h
        ·omega
        ·rw [List.getElem?_eq_none (by simpa using h)] at hy; cases hy
       subst this;simp only [Nat.sub_self,zWH,Option.some.injEq] at hy;subst hy;rw [h1];exact ⟨cs,h4,h6⟩
   obtain ⟨ys,h1,h2,h3⟩:=hch len (zWX _);refine ⟨ys,⟨by omega,h2⟩,.cons _ _ _ _ ?_ .nil⟩;have hl:(ys.map enc).length=len:=by simpa using h1
   have key:∀ (i:Nat) (row:List T) (j:Nat) (x:T),(ys.map enc)[i]?=some row->row[j]?=some x->∃ v,w.cell? ⟨b,off+i*(n+1)+j,none⟩=some v/\Rd w (Old w) x v:=by
    intro i row j x hi hj;rw [zQk] at hi
    cases hy:ys[i]? with
    | none=>rw [hy] at hi; cases hi
    | some y =>
     rw [hy] at hi;simp only [zWQ,Option.some.injEq] at hi;subst hi;obtain ⟨cs,hcs,hrd⟩:=h3 i y hy;obtain ⟨v,hv,hr⟩:=hrd.get j x hj;have hjn:j < n+1:=by
      have:=he.2.1 y;rcases zZq j (n+1) with h | h
      ·exact h
      ·rw [List.getElem?_eq_none aD] at hj; cases hj
     obtain ⟨v',hv',hc'⟩:=(ZC hcs).2 j hjn;rw [hv] at hc'
     cases hc'
     rw [hcell] at hv';exact ⟨v,hv',hr⟩
   have hfun:∃ u:Nat->Nat->Value,∀ (i:Nat) (row:List T) (j:Nat) (x:T),(ys.map enc)[i]?=some row->row[j]?=some x->w.cell? ⟨b,off+i*(n+1)+j,none⟩=some (u i j)/\Rd w (Old w) x (u i j):=by
    refine ⟨λi j=>(w.cell? ⟨b,off+i*(n+1)+j,none⟩).getD (.bool false),λi row j x hi hj=>?_⟩;obtain ⟨v,hv,hr⟩:=key i row j x hi hj;simp only [hv,Option.getD_some];exact ⟨trivial,hr⟩
   obtain ⟨u,hu'⟩:=hfun;have:=Rd.sl (w:=w) (F:=Old w) (n+1) (ys.map enc) b off cap u aD hb (λi row hi=>by
    rw [zQk] at hi
    cases hy:ys[i]? with
    | none=>rw [hy] at hi; cases hi
    | some y=>rw [hy] at hi; simp only [zWQ,Option.some.injEq] at hi; subst hi; exact he.2.1 y) (λi row j x hi hj=>(hu' i row j x hi hj).1) (λi row j x hi hj=>(hu' i row j x hi hj).2)
   rw [hl] at this;exact this
def gz{α:Type}(P:Program)(fs:List Field)(off n:Nat)(wf:α->Prop)(enc:α->List T):Prop :=
 (∀ x,(enc x).length=n)/\∀ {H:Type} (ec:TypeId×Value->H) (w:World) (sp:Nat->Bool) (held:Bool) (k:Nat) (cs:List Value),
  (∀ (i:Nat) (f:Field),fs[i]?=some f->∃ d,DataW.trod ec P w 0 sp held k f.type ((cs.drop f.offset).take (P.cellsOf f.type))=some d)->∃ x,wf x/\RdL w (Old w) (enc x) ((cs.drop off).take n)
theorem gz.nil{P:Program}{off:Nat}:gz P [] off 0 (λ_:Unit=>True) (λ_=>[]) :=
 ⟨λ_=>rfl,λec w sp held k cs h=>⟨(),trivial,by simp; exact .nil⟩⟩
theorem gz.cons{α β:Type}{P:Program}{f:Field}{fs:List Field}{off n m:Nat}{wf:α->Prop}{enc:α->List T}{wf':β->Prop}{enc':β->List T}(ho:f.offset=off)(hf:di P f.type n wf enc)
  (hs:gz P fs (off+n) m wf' enc'):gz P (f :: fs) off (n+m) (λx:α×β=>wf x.1/\wf' x.2) (λx=>enc x.1++enc' x.2):=by
 refine ⟨λx=>by simp [hf.2.1,hs.1],λec w sp held k cs h=>?_⟩;obtain ⟨d,h1⟩:=h 0 f rfl;obtain ⟨x,hx,hr⟩:=hf.2.2 ec w sp held k _ d h1;obtain ⟨y,hy,hr'⟩:=hs.2 ec w sp held k cs (λi g hg=>h (i+1) g hg);refine ⟨(x,y),⟨hx,hy⟩,?_⟩;rw [ho,hf.1] at hr;have e:(cs.drop off).take (n+m)=(cs.drop off).take n++(cs.drop (off+n)).take m:=by
  rw [List.take_add,List.drop_drop]
 rw [e];exact hr.append hr'
theorem di.struct{α:Type}{P:Program}{t:TypeId}{fs:Array Field}{n:Nat}{wf:α->Prop}{enc:α->List T}(hu:P.underlying t=some (.struct fs))(hc:P.cellsOf t=n)(hs:gz P fs.toList 0 n wf enc):di P t n wf enc:=by
 refine ⟨hc,hs.1,λec w sp held m cs d h=>?_⟩;obtain ⟨xs,m',rfl,_,hl,hn,hf⟩:=DataW.trod_struct hu h;obtain ⟨x,hx,hr⟩:=hs.2 ec w sp held m' cs (λi f hg=>by
  rw [zWv] at hg;have hi:i < fs.size:=by rcases zZq i fs.size with h | h; exact h; rw [Array.getElem?_eq_none h] at hg; cases hg
  exact ⟨xs[i]'aD,by rw [hf i f hg,sX aD]⟩)
 refine ⟨x,hx,?_⟩;rw [hc] at hl
 simpa [<- hl] using hr
theorem di.map{α β:Type}{P:Program}{t:TypeId}{n:Nat}{wf:α->Prop}{enc:α->List T}{wf':β->Prop}{enc':β->List T}(h:di P t n wf enc)(g:α->β)(he:∀ x,enc' (g x)=enc x)(hl:∀ y,(enc' y).length=n)
  (hw:∀ x,wf x->wf' (g x)):di P t n wf' enc' :=
 ⟨h.1,hl,λec w sp held k cs d hd=>by
  obtain ⟨x,hx,hr⟩:=h.2.2 ec w sp held k cs d hd;exact ⟨g x,hw x hx,by rw [he]; exact hr⟩⟩
def RdV{α:Type}(P:Program)(t:TypeId)(wf:α->Prop)(ev:α->V):Prop :=
 ∀ {H:Type} (ec:TypeId×Value->H) (W:World) (base:Nat) (v:Value) (d:DataW H) (p:List MemPlace),DataW.Trod ec P W 0 (λ_=>true) true t v d p->Value.okWide P W .any base t v->∃ x,wf x/\VV W (Old W) (ev x) v []
def qfG(P:Program)(t:TypeId):Bool:=match P.underlying t with | some (.struct _) | some (.array ..)=>false | _=>true
theorem qbI{P:Program}{t:TypeId}(hn:qfG P t=true){W:World}{base:Nat}{v:Value}(h:Value.okWide P W .any base t v):v.cells=#[v]:=by
 cases v with
 | agg cs =>
  exfalso;unfold qfG at hn;unfold Value.okWide at h
  cases hu:P.underlying t with
  | none=>simp [hu,Cell.okWide,Cell.ok] at h
  | some u=>cases u <;> simp_all [Cell.okWide,Cell.ok]
 | _=>rfl
theorem RdV.one{α:Type}{P:Program}{t:TypeId}{wf:α->Prop}{enc:α->List T}(h:di P t 1 wf enc)(hn:qfG P t=true):RdV P t wf (λx=>.one (.t ((enc x).headD .nilf))):=by
 intro H ec W base v d p ⟨k,hd⟩ hv;obtain ⟨x,hx,hr⟩:=h.2.2 ec W _ _ k _ _ hd;have hc:=qbI hn hv;rw [hc] at hr;have hl:=h.2.1 x;refine ⟨x,hx,.one _ _ _ ?_⟩
 match he:enc x,hl with
 | [y],_ =>
  rw [he] at hr
  cases hr with
  | cons _ _ _ _ h1 _=>exact .t _ _ h1
theorem RdV.agg{α:Type}{P:Program}{t:TypeId}{n:Nat}{wf:α->Prop}{enc:α->List T}{fs:Array Field}(h:di P t n wf enc)(hu:P.underlying t=some (.struct fs)):RdV P t wf (λx=>.agg ((enc x).map .t)):=by
 intro H ec W base v d p ⟨k,hd⟩ hv;obtain ⟨x,hx,hr⟩:=h.2.2 ec W _ _ k _ _ hd;unfold Value.okWide at hv;simp only [hu] at hv;obtain ⟨cs,rfl,_⟩:=hv;have:=VV.agg (w:=W) (F:=Old W) _ _ _ hr.cvs;simp only [Value.cells] at this;exact ⟨x,hx,by simpa using this⟩
def OB{α:Type}(P:Program)(ts:List TypeId)(wf:α->Prop)(ea:α->List V):Prop :=
 ∀ {H:Type} (ec:TypeId×Value->H) (W:World) (base:Nat) (vs:List Value) (ds:List (DataW H)) (p:List MemPlace),DataW.TrodAll ec P W 0 (λ_=>true) true ts vs ds p ->
  (∀ (j:Nat) (t:TypeId) (v:Value),ts[j]?=some t->vs[j]?=some v->Value.okWide P W .any base t v)->∃ x,wf x/\LC W (Old W) (ea x) vs []
theorem OB.nil{P:Program}:OB P [] (λ_:Unit=>True) (λ_=>[]):=by
 intro H ec W base vs ds p h hv;obtain ⟨rfl,_,_⟩:=trodAll_nil h;exact ⟨(),trivial,.nil⟩
theorem OB.cons{α β:Type}{P:Program}{t:TypeId}{ts:List TypeId}{wf:α->Prop}{ev:α->V}{wf':β->Prop}{ea:β->List V}(h:RdV P t wf ev)(hs:OB P ts wf' ea) :
  OB P (t :: ts) (λx:α×β=>wf x.1/\wf' x.2) (λx=>ev x.1 :: ea x.2):=by
 intro H ec W base vs ds p hT hv;obtain ⟨v,vs',d,ds',p1,p2,rfl,rfl,rfl,h1,h2⟩:=trodAll_cons hT;obtain ⟨x,hx,hr⟩:=h ec W base v d p1 h1 (hv 0 t v rfl rfl);obtain ⟨y,hy,hr'⟩:=hs ec W base vs' ds' p2 h2 (λj t v ht hj=>hv (j+1) t v ht hj);exact ⟨(x,y),⟨hx,hy⟩,.cons _ _ [] _ _ [] hr hr'⟩
theorem LJ{P:Program}{H:Type}{ec:TypeId×Value->H}(hl:laidOutB P=true){W W':World}(hb:Below W.heap.size W W'):∀ {ts:List TypeId} {vs:List Value} {ds:List (DataW H)} {p:List MemPlace},
  ts.all (λt=>P.readableRec t && decide (t < P.types.size))=true->DataW.TrodAll ec P W 0 (λ_=>true) true ts vs ds p ->
  DataW.TrodAll ec P W' 0 (λb=>decide (b < W.heap.size)) true ts vs ds p
 | [],vs,ds,p,_,h=>by
  obtain ⟨rfl,rfl,rfl⟩:=trodAll_nil h;exact trodAll_mk0
 | t :: ts,vs,ds,p,ht,h=>by
  obtain ⟨v,vs',d,ds',p1,p2,rfl,rfl,rfl,h1,h2⟩:=trodAll_cons h;simp only [zYj,sk,decide_eq_true_eq] at ht;refine trodAll_cons_mk (Below.trod hl ht.1.1 ht.1.2 h1 hb ?_) (LJ hl hb (by simpa using ht.2) h2);obtain ⟨k,hk⟩:=h1;exact DataW.trod_lt k _ _ _ hk
theorem qeD{α:Type}{P:Program}{f:FuncId}{ts:List TypeId}{wf:α->Prop}{ea:α->List V}(hr:OB P ts wf ea)(hl:laidOutB P=true)(hts:ts.all (λt=>P.readableRec t && decide (t < P.types.size))=true)
  (law:∀ x,wf x->aq P f (ea x) (.one (.t (.bool true))) []) {H:Type} (ec:TypeId×Value->H) (W:World) (base:Nat) (args:Array Value) (ds:List (DataW H)) (p:List MemPlace)
  (hT:DataW.TrodAll ec P W 0 (λ_=>true) true ts args.toList ds p) (hv:∀ (j:Nat) (t:TypeId) (v:Value),ts[j]?=some t->args[j]?=some v->Value.okWide P W .any base t v)
  (htb:TbW P W λ_=>False):Calls P f args W λe W'=>e=.returned (.bool true)/\Below W.heap.size W W'/\DataW.TrodAll ec P W' 0 (λb=>decide (b < W.heap.size)) true ts args.toList ds p:=by
 obtain ⟨x,hx,hV⟩:=hr ec W base args.toList ds p hT (λj t v h1 h2=>hv j t v h1 (by simpa using h2));have:=(law x hx).2 W (Old W) args.toList [] (λ_ h=>h) hV .nil jC (htb.mono λ_ h=>by cases h);simp only [zWZ] at this;refine this.mono λe W' ⟨v,F',bv,bo,h1,h2,h3,h4,h5,h6,h7,h8,h9⟩=>?_;have hbel:Below W.heap.size W W':=⟨h2.os,h2.tape,h2.output,h2.size,λk hk=>h3 k hk jC⟩;refine ⟨?_,hbel,LJ hl hbel hts hT⟩
 cases h6 with
 | one _ _ _ h =>
  cases h with
  | t _ _ h =>
   cases h
   exact h1
end Go.Tm
namespace Go.Tm
open Go.RowKit
mutual
def A.fz(s:Nat)(cs:List T):A->A
 | .obj s' off=>bif zWz s' s then .fadr (cs.drop off) else .obj s' off
 | .agg l=>.agg (JQ s cs l)
 | .tup l=>.tup (JQ s cs l)
 | .clo f l=>.clo f (JQ s cs l)
 | .osl q a n c=>bif zWz q s then .t (.hdr a n c) else .osl q a n c
 | a=>a
def JQ(s:Nat)(cs:List T):List A->List A
 | []=>[]
 | a :: r=>a.fz s cs :: JQ s cs r
end
theorem Z5(s:Nat)(cs:List T):∀ l:List A,JQ s cs l=l.map (A.fz s cs)
 | []=>by rw [JQ]; rfl
 | a :: r=>by rw [JQ,Z5 s cs r]; rfl
def St.fz(st:St)(s:Nat)(cs:List T):St:=⟨λt=>(st.tm t).fz s cs,λi=>if i=s then none else (st.ob i).map λl=>JQ s cs l,st.rw⟩
theorem qhH(s:Nat)(cs:List T)(a:A):(a.fz s cs).one=a.one:=by
 cases a with
 | obj s' off=>unfold A.fz; cases zWz s' s <;> rfl
 | osl q a n c=>unfold A.fz; cases zWz q s <;> rfl
 | _=>unfold A.fz <;> rfl
section
variable {E:En} {g:Gh} {st:St} {w:World} {s:Nat} {cs:List T}
theorem VR.fz{O:Nat->Prop}{R:Nat->Prop}{O':Nat->Prop}{F':Nat->Prop}(hF:∀ b,g.F b->F' b)(hO:∀ i,O i->i≠s->O' i)(hb:F' (g.ob s)){arr:Array Value}{e:TypeId}(hh:w.heap[g.ob s]?=some (.cells arr e (0,0)))
  (hc:∀ (j:Nat) (x:T),cs[j]?=some x->∃ v,arr[j]?=some v/\Rd w g.F x v) {a:A} {v:Value} (h:VR w g O R a v):VR w { g with F:=F' } O' R (a.fz s cs) v:=by
 have hl:∀ (l:List A) (vs:List Value),l.length=vs.length->(∀ (i:Nat) (x:A) (v:Value),l[i]?=some x->vs[i]?=some v->VR w { g with F:=F' } O' R (x.fz s cs) v) ->
   (JQ s cs l).length=vs.length/\∀ (i:Nat) (x:A) (v:Value),(JQ s cs l)[i]?=some x->vs[i]?=some v->VR w { g with F:=F' } O' R x v:=by
  intro l vs hl ih;rw [Z5];refine ⟨by simp [hl],λi x v hx hv=>?_⟩;rw [zQk] at hx
  cases hy:l[i]? with
  | none=>rw [hy] at hx; cases hx
  | some y =>
   rw [hy] at hx;simp only [zWQ,Option.some.injEq] at hx;subst hx;exact ih i y v hy hv
 have hs:Fj g.F w w:=λ_ _=>rfl
 induction h with
 | t x v h=>unfold A.fz; exact .t x v (h.mono hs hF)
 | nil=>unfold A.fz; exact .nil
 | own r hr=>unfold A.fz; exact VR.own (g:={ g with F:=F' }) r hr
 | agg l vs hl' h ih=>unfold A.fz; obtain ⟨h1,h2⟩:=hl l vs hl' ih; exact .agg _ vs h1 h2
 | tup l vs hl' h ih=>unfold A.fz; obtain ⟨h1,h2⟩:=hl l vs hl' ih; exact .tup _ vs h1 h2
 | obj s' off hs' =>
  unfold A.fz
  cases he:zWz s' s with
  | false =>
   have:s'≠s:=λh=>by rw [h,Nat.beq_refl] at he; cases he
   exact VR.obj (g:={ g with F:=F' }) s' off (hO s' hs' this)
  | true =>
   have:=zWG he;subst this;simp only [cond_true];have hcell:∀ j,w.cell? ⟨g.ob s',off+j,none⟩=arr[off+j]?:=λj=>by
    unfold World.cell?;simp only [hh]; rfl
   refine VR.fadr (g:={ g with F:=F' }) _ _ off (λj=>(arr[off+j]?).getD (.bool false)) hb (λj x hx=>?_) (λj x hx=>?_)
   ·rw [zQJ] at hx;obtain ⟨u,h1,_⟩:=hc _ x hx;rw [hcell,h1]; rfl
   ·rw [zQJ] at hx;obtain ⟨u,h1,h2⟩:=hc _ x hx;simp only [h1,Option.getD_some];exact h2.mono hs hF
 | elem r sz i off b n c hr he=>unfold A.fz; exact VR.elem (g:={ g with F:=F' }) r sz i off b n c hr he
 | win r lo m n c c' ad a' hr he hm hp=>unfold A.fz; exact VR.win (g:={ g with F:=F' }) r lo m n c c' ad a' hr he hm hp
 | sub r sz lo n c c' ad a' hr he hp=>unfold A.fz; exact VR.sub (g:={ g with F:=F' }) r sz lo n c c' ad a' hr he hp
 | fadr cells b off u hF' hx hr=>unfold A.fz; exact VR.fadr (g:={ g with F:=F' }) cells b off u (hF _ hF') hx (λj x h=>(hr j x h).mono hs hF)
 | nn sz rows v h hv=>unfold A.fz; exact VR.nn (g:={ g with F:=F' }) sz rows v (h.mono hs hF) hv
 | ext s x v hs' h=>unfold A.fz; exact VR.ext (g:={ g with F:=F' }) s x v hs' h
 | shp x v h=>unfold A.fz; exact VR.shp (g:={ g with F:=F' }) x v h
 | exa s cells b off u hs' hD hx hr=>unfold A.fz; exact VR.exa (g:={ g with F:=F' }) s cells b off u hs' hD hx hr
 | clo f l vs hl' h ih=>unfold A.fz; obtain ⟨h1,h2⟩:=hl l vs hl' ih; exact .clo f _ vs h1 h2
 | undef v=>unfold A.fz; exact .undef v
 | raw v=>unfold A.fz; exact .raw v
 | osl q a n c hs ha =>
  unfold A.fz
  cases hq:zWz q s with
  | true=>exact .t _ _ (.hdr _ _ _)
  | false=>exact VR.osl (g:={ g with F:=F' }) q a n c (hO q hs (λh=>by subst h; simp at hq)) ha
end
theorem sD{n:Nat}{ls:List Nat}{st:St}(s:Nat)(cs:List T)(hs:st.ob s=some (cs.map .t))(hl:ls.contains s=false):Le n ls st (st.fz s cs):=by
 intro E g a w hE hS;have hM:=hS.mem;obtain ⟨arr,e,h1,h2,h3,h4,h5⟩:=hM.ob s _ hs;have hOs:st.O s:=by simp [St.O,hs]
 have hc:∀ (j:Nat) (x:T),cs[j]?=some x->∃ v,arr[j]?=some v/\Rd w g.F x v:=by
  intro j x hx;obtain ⟨_,v,h6,h7⟩:=h3 j (.t x) (by rw [zQk,hx]; rfl)
  cases h7 with
  | t _ _ h=>exact ⟨v,h6,h⟩
 have hO:∀ i,(st.fz s cs).O i↔st.O i/\i≠s:=by
  intro i;unfold St.O St.fz
  by_cases h:i=s <;> simp [h]
 have hv:∀ {a:A} {v:Value},VR w g st.O st.R a v->VR w { g with F:=λb=>g.F b\/b=g.ob s } (st.fz s cs).O st.R (a.fz s cs) v:=λh =>
  VR.fz (s:=s) (cs:=cs) (λ_ h=>.inl h) (λi hi hne=>(hO i).2 ⟨hi,hne⟩) (.inr rfl) h1 hc h
 refine ⟨{ g with F:=λb=>g.F b\/b=g.ob s },⟨λi c hi=>?_,λi j hi hj he=>hM.obne i j ((hO i).1 hi).1 ((hO j).1 hj).1 he,λr x hr=>?_,hM.rowne,λr i hr hi=>hM.rowob r i hr ((hO i).1 hi).1,λb hb=>?_,hM.os,hM.tape,hM.output,hM.sizes,hM.frame,λb hb=>⟨.inl (hM.shp b hb).1,(hM.shp b hb).2⟩,hM.dep0⟩,
  hS.size,hS.defers,λi hi=>?_,λi hi=>?_,λi b hb=>?_,hS.pin⟩
 ·have hne:i≠s:=λh=>by subst h; simp [St.fz] at hi
  have:∃ c0,st.ob i=some c0/\c=JQ s cs c0:=by
   simp only [St.fz,hne,if_false] at hi
   cases h:st.ob i with
   | none=>rw [h] at hi; cases hi
   | some c0=>rw [h] at hi; simp at hi; exact ⟨c0,rfl,hi.symm⟩
  obtain ⟨c0,h6,rfl⟩:=this;obtain ⟨arr',e',g1,g2,g3,g4,g5⟩:=hM.ob i c0 h6;refine ⟨arr',e',g1,by rw [Z5]; simpa using g2,λj x hx=>?_,λhf=>hf.elim g4 (λhe=>hne (hM.obne i s (by simp [St.O,h6]) hOs he)),g5⟩;rw [Z5,zQk] at hx
  cases hy:c0[j]? with
  | none=>rw [hy] at hx; cases hx
  | some y =>
   rw [hy] at hx;simp only [zWQ,Option.some.injEq] at hx;subst hx;obtain ⟨g6,v,g7,g8⟩:=g3 j y hy;exact ⟨by rw [qhH]; exact g6,v,g7,hv g8⟩
 ·have:=hM.row r x hr;refine this.mono (λ_ _=>rfl) (λ_ h=>.inl h) (λ⟨e,sz,rows,hx⟩ b hb'=>?_);subst hx;have hL:st.L r:=⟨e,sz,rows,hr⟩;exact ⟨rfl,λhf=>hf.elim id (λhe=>(hM.rowob r s hL hOs (he ▸ hb')).elim)⟩
 ·rcases hb with hb | hb
  ·exact hM.F b hb
  ·subst hb;exact ⟨U7 h1,λhlt=>h5.elim (λh=>absurd hlt aD) .inr,.inr ⟨arr,e,h1⟩⟩
 ·obtain ⟨v,h6,h7⟩:=hS.tm i hi;exact ⟨v,h6,hv h7⟩
 ·show (st.tm i).fz s cs=.undef;rw [hS.und i hi]; unfold A.fz; rfl
 ·obtain ⟨h6,h7⟩:=hS.lent i b hb;refine ⟨(hO i).2 ⟨h6,λhe=>?_⟩,h7⟩;subst he;have:i∈ls:=(hE.mem hb).1;have h8:ls.contains i=true:=by simpa using this
  rw [hl] at h8; cases h8
theorem qbJ{α:Type}(a:A)(k:T->MA α)(st:St):(a.toT k).run st=((a.toT MA.ret).run st).bind λp=>(k p.1).run p.2:=by
 cases a with
 | t y=>rfl
 | nil=>rfl
 | own r =>
  simp only [A.toT,MA.run]
  cases hr:st.rw r with
  | none=>rfl
  | some row=>cases row <;> rfl
 | _=>rfl
theorem My{α:Type}:∀ (l:List A) (k:List T->MA α) (st:St),(ln l k).run st=((ln l MA.ret).run st).bind λp=>(k p.1).run p.2
 | [],k,st=>rfl
 | a :: r,k,st=>by
  simp only [ln];rw [qbJ a,qbJ a (λx=>ln r λxs=>MA.ret (x :: xs)),Option.bind_assoc]
  congr 1
  funext p
  rw [My r,My r (λxs=>MA.ret (p.1 :: xs)),Option.bind_assoc];rfl
theorem qeE{α:Type}(l:List A){k:List T->MA α}{st st1:St}{xs:List T}(h:(ln l MA.ret).run st=some (xs,st1)):(ln l k).run st=(k xs).run st1:=by
 rw [My,h]; rfl
section
variable {P:Program} {n:Nat} {ls:List Nat} {st st':St} {p:Nat->Bool} {ρ:Nat->fi} {ops:Array Oper} {l:List Oper} {K:St->Prop} {o:Oper}
theorem lV{α:Type}(f:α->List T)(xs:List α)(r i off:Nat){y:α}(y':α){t e:TypeId}{x1 x2:Operand}(v:A){sz m:Nat}(ts:List T)(ho:o.op=.store t x1 x2)(hg:lw ops st o=some true)(hf:gc ρ st o=true)
  (h1:st.eval x1=some (.elem r sz i off)) (h2:st.eval x2=some v) (hm:kF P t=some m) (hv:(zWz v.cells.length m && v.cells.all A.one)=true) (hz:((ln (oL (N8 P t) v.cells) MA.ret).run st).map Prod.fst=some ts)
  (hr:(ZB ((ln (oL (N8 P t) v.cells) MA.ret).run st)).rw r=some (.live e sz (xs.map f))) (h:xs[i]?=some y) (hle:Nat.ble (off+m) (f y).length=true) (hy:spl (f y) off ts=f y')
  (hk:aa P p ρ ops l ((({ ZB ((ln (oL (N8 P t) v.cells) MA.ret).run st) with rw:=jL (ZB ((ln (oL (N8 P t) v.cells) MA.ret).run st)).rw r (some (.live e sz ((xs.set i y').map f))) }:St)).put o.dst .undef) K):aa P p ρ ops (o :: l) st K:=by
 simp only [sk] at hv;have hv1:=zWG hv.1;have hle':off+m<=(f y).length:=by simpa using hle
 obtain ⟨⟨ts',st1⟩,h5,h6⟩:=aac.1 hz
 cases h6
 rw [h5] at hr hk;refine aa.op (x:=.undef) hg hf ?_ hk;simp only [uq,ho,h1,h2,H9,hm,hv1,hv.2,and_self,↓reduceIte];rw [qeE _ h5];have hr':st1.rw r=some (.live e sz (xs.map f)):=hr;simp only [MA.run,hr',zQk,h,zWQ,hle',↓reduceIte,hy,List.map_set,ZB]
theorem Mz:∀ xs:List Int,JF (xs.map (aB .u8))=some xs
 | []=>rfl
 | x :: xs=>by simp only [zWk,aB,JF,Mz xs]
theorem BJ(xs:List Int)(m:Nat){y:A}{s t e:TypeId}{x:Operand}(ho:o.op=.convert s t x)(hg:lw ops st o=some true)(hf:gc ρ st o=true)
  (hx:st.eval x=some y) (hy:((y.rows λm rows=>MA.ret (m,rows)).run st).map Prod.fst=some (m,xs.map (aB .u8))) (hs:P.underlying s=some (.slice e)) (he:P.underlying e=some (.int .u8)) (ht:P.underlying t=some .string)
  (hk:aa P p ρ ops l (st.put o.dst (.t (.str (strOfNums xs)))) K):aa P p ρ ops (o :: l) st K:=by
 refine aa.pure (x:=.t (.str (strOfNums xs))) hg hf ?_ hk
 cases y with
 | t z =>
  cases z with
  | sl sz rows =>
   simp only [A.rows,MA.run,zWQ,Option.some.injEq,Prod.mk.injEq] at hy;obtain ⟨rfl,rfl⟩:=hy;simp only [uq,ho,hx,hs,ht,he,A.rows,Mz,MA.run]
  | _=>simp [A.rows,MA.run] at hy
 | _ =>
  simp only [uq,ho,hx,hs,ht,he,Ow hy,Mz,MA.run]
end
section
variable {P:Program} {n:Nat} {ls:List Nat} {st st':St} {p:Nat->Bool} {ρ:Nat->fi} {ops:Array Oper} {l:List Oper} {K:St->Prop} {o:Oper}
theorem SE(m:Bool)(d f:Nat)(caps sr:List A)(vs:List V)(s off:Nat)(outs:List (List C)){xf:Operand}{args:Array Operand}{ts:Array TypeId}
  (ho:o.op=.call { callee:=.value xf,args,argTypes:=ts }) (hd:o.dst=some d) (hg:lw ops st o=some true) (hf:gc ρ st o=true) (hxf:st.eval xf=some (.clo f caps)) (qw:d4 (args.toList.map st.eval)=some sr)
  (hp:((oZ m p (sr++caps) MA.ret).run st).map Prod.fst=some vs) (hc:yh P f vs off outs) (hhd:(sr++caps).head?=some (.obj s 0)) (hr:((gq d (gp (sr++caps)) outs (MA.ret (A.obj s off))).run (ZB ((oZ m p (sr++caps) MA.ret).run st))).isSome=true)
  (hk:aa P p ρ ops l ((ZB ((gq d (gp (sr++caps)) outs (MA.ret (A.obj s off))).run (ZB ((oZ m p (sr++caps) MA.ret).run st)))).put o.dst (orA ((gq d (gp (sr++caps)) outs (MA.ret (A.obj s off))).run (ZB ((oZ m p (sr++caps) MA.ret).run st))))) K):aa P p ρ ops (o :: l) st K:=by
 obtain ⟨⟨vs',st1⟩,h1,h2⟩:=aac.1 hp
 cases h2
 rw [h1] at hr hk;obtain ⟨⟨x,st2⟩,h3⟩:=aae.1 hr;rw [h3] at hk;exact aa.step (.run x st2 hg hf (.callI m d f xf args ts caps sr vs' st1 outs s off ho hd hxf qw h1 hc hhd h3)) hk
end
def Z6(P:Program)(fn:Func)(args:List V)(off:Nat)(outs:List (List C))(e:Exit)(st:St):Prop :=
 (e=.ret\/e=.normal)/\∃ st1 outs0,DH P st fn.results.toList=some [.obj 900 off]/\(Hw 0 args λos=>MA.ret os).run st=some (outs0,st1)/\Gx (Gx Z2) outs0 outs
theorem VM{P:Program}{fn:Func}{c:Code}{f:FuncId}{args:List V}{sr:List A}{st0:St}{c0:List C}{off:Nat}{outs:List (List C)}
  (hf:P.funcs[f]?=some fn) (hb:fn.body=some c) (hnm:(fn.name == "runtime.NumGoroutine")=false) (hle:sr.length<=fn.ntmps) (ht:DU fn.ntmps fn=true)
  (ha:(EQ 0 args MA.ret).run ji=some (sr,st0)) (hl:lT 0 args sr=true) (h0:args[0]?=some (.ptr c0))
  (h:Wp P fn.ntmps (mw 0 args) c (Z6 P fn args off outs) (ii sr st0)):yh P f args off outs:=by
 refine ⟨⟨fn,hf,by simp [hb],hnm⟩,λw F vs bs hF hVV hnd hnf htb=>?_⟩
 let E:En:={ w0:=w,X:=λb=>b∈bs,F0:=F,lent:=ql 0 args vs }
 let g0:Gh:={ F:=F,ob:=λ_=>0,rw:=λ_=>.nilFunc,dw:=w }
 have hM0:gS E g0 ji w:=⟨λs cells h=>Yj,λs s' h=>Yj,λr x h=>Yj,λr r' b h=>qed,λr s h=>qed,
  λb hb=>⟨hF b hb,λ_=>.inl hb,.inl hb⟩,rfl,rfl,rfl,zWX _,λ_ _ _=>.inl rfl,λ_ h=>h.elim,⟨rfl,rfl,rfl⟩,λ_ h=>h.elim⟩
 obtain ⟨as',st1,g1,hG,h1,hlen,hx⟩:=QV args hM0 hVV hnd (λb hb=>⟨hnf b hb,λs hs=>(by cases hs),λr hr=>(by obtain ⟨_,_,_,h⟩:=hr; cases h),.inr hb⟩) ha;obtain ⟨rfl,rfl⟩:=jB h1;have hM1:gS E g1 (ii sr st0) w:=⟨hG.mem.ob,hG.mem.obne,hG.mem.row,hG.mem.rowne,hG.mem.rowob,hG.mem.F,hG.mem.os,hG.mem.tape,hG.mem.output,hG.mem.sizes,hG.mem.frame,hG.mem.shp,hG.mem.dep0⟩;obtain ⟨hl1,hl2⟩:=KR hl hVV hlen hx;have hS:yV E g1 fn.ntmps (ii sr st0) { tmps:=vs.toArray++zVW (fn.ntmps - vs.toArray.size) undef,defers:=[] } w:=by
  refine ⟨hM1,by simp; omega,rfl,λi hi=>?_,λi hi=>?_,hl1,λ_ h=>Yj⟩
  ·show ∃ v,_/\VR w g1 st0.O st0.R (match sr[i]? with | some a=>a | none=>.undef) v
   cases hai:sr[i]? with
   | some a =>
    obtain ⟨u,hu,hr⟩:=hx i a hai;have hlt:i < vs.length:=(aab.1 hu).1;exact ⟨u,by rw [zZJ qec]; simpa using hu,hr⟩
   | none =>
    have hge:sr.length<=i:=aai.1 hai;refine ⟨undef,?_,.undef _⟩;rw [zZK (by simpa [<- hlen] using hge)];rw [zZy,if_pos qht]
  ·show (match sr[i]? with | some a=>a | none=>.undef)=A.undef;rw [aai.2 aD]
 refine calls_of_wp hf hb (wp_mono (h E g1 _ w ⟨⟨[],by rw [zWY]; exact (yk _ _ _).symm,Zz _ _ _,λ_ h=>Yj,λh=>Yj⟩,⟨htb.mono λb h=>h.elim id λh=>(by cases h.1)⟩⟩ hS) λe a' w' ⟨g',st',hS',hR⟩=>?_);obtain ⟨he,st2,outs0,hres,hrun,hole⟩:=hR;have hfin:a'.defers=[]/\∃ v,(results fn a'.tmps).run P w'=.ok v w'/\(λe w'=>∃ v F' bo b0,e=Ending.returned v/\vs.head?=some (.pointer (some ⟨b0,0,none⟩))/\v=.pointer (some ⟨b0,off,none⟩)/\vF w w'/\(∀ b,b < w.heap.size->b∉bs->w'.heap[b]?=w.heap[b]?)/\(∀ b,F b->F' b) /\
   (∀ b,F' b->b < w'.heap.size/\(b < w.heap.size->F b\/b∈bs)/\(F b\/Wr w' b))/\wa w' F' args vs outs bo/\bo.Nodup/\∀ b∈bo,¬ F' b/\(w.heap.size<=b\/b∈bs)) (.returned v) w':=by
  refine ⟨hS'.defers,?_⟩;obtain ⟨v,hrv,hvv⟩:=Vd hS' hres ht;refine ⟨v,hrv,?_⟩;have hM':=hS'.mem;obtain ⟨b0,hh0,hl0⟩:=hl2 0 c0 h0;have hob:=(hS'.lent _ _ hl0).2;obtain ⟨os,st3,g3,bo,hM3,hE3,hL3,h3,hO,hT3⟩:=KQ (w:=w') args hM' (us:=vs) (hVV.len.symm) (λj c hj=>by
   obtain ⟨b,h5,h6⟩:=hl2 j c hj;rw [(hS'.lent _ _ h6).2];exact h5) hrun
  obtain ⟨rfl,rfl⟩:=jB h3;have hof:∀ b∈bo,w.heap.size<=b\/b∈bs:=λb hb=>by
   rcases hT3.of b hb with ⟨r,⟨e,sz,rows,h7⟩,_,h8⟩ | ⟨s,⟨c,cs,h7⟩,_,h8⟩
   ·obtain ⟨_,_,_,_,h9⟩:=hM'.row r _ h7;exact (h9 b h8).2
   ·obtain ⟨_,_,_,_,_,_,h9⟩:=hM'.ob s _ h7;rw [h8] at h9;exact h9
  have hnF:∀ b∈bo,¬ (g3.F b\/F b):=λb hb h=>by
   rcases h with h | h
   ·exact hT3.nf b hb h
   ·rcases hof b hb with h7 | h7
    ·have:=hF b h; omega
    ·exact hnf b h7 h
  have hv:v=.pointer (some ⟨b0,off,none⟩):=by
   have hvv':VR w' g' st'.O st'.R (.obj 900 off) v:=hvv
   cases hvv' with
   | obj _ _ hs=>rw [hob]
  refine ⟨v,λb=>g3.F b\/F b,bo,b0,rfl,by rw [zZv]; exact hh0,hv,⟨hM3.os,hM3.tape,hM3.output,hM3.sizes⟩,λb hb hbs=>hM3.frm rfl b hb hbs,λb h=>.inr h,λb h=>?_,qbF (hO.mono (λb h=>.inl h)) hole,hT3.nodup,λb hb=>⟨hnF b hb,hof b hb⟩⟩;rcases h with h | h
  ·exact hM3.F b h
  ·exact ⟨zWK (hF b h) hM3.sizes,λ_=>.inl h,.inl h⟩
 rcases he with rfl | rfl
 ·exact hfin
 ·exact hfin
theorem Tc{P:Program}{fn:Func}{c:Code}{f:FuncId}{args:List V}{c0:List C}{off:Nat}{outs:List (List C)}(sr:List A)
  (hf:P.funcs[f]?=some fn) (hb:fn.body=some c) (hnm:(fn.name == "runtime.NumGoroutine")=false) (hle:Nat.ble sr.length fn.ntmps=true) (ht:DU fn.ntmps fn=true)
  (ha:((EQ 0 args MA.ret).run ji).map Prod.fst=some sr) (hl:lT 0 args sr=true) (h0:args[0]?=some (.ptr c0))
  (h:Wp P fn.ntmps (mw 0 args) c (Z6 P fn args off outs) (ii sr (ZB ((EQ 0 args MA.ret).run ji)))):yh P f args off outs:=by
 obtain ⟨⟨as',st0⟩,h1,h2⟩:=aac.1 ha
 cases h2
 rw [h1] at h;exact VM hf hb hnm qfa ht h1 hl h0 h
theorem qhk{P:Program}{fn:Func}{args:List V}{off:Nat}{outs:List (List C)}{st:St}(outs0:List (List C))(hres:DH P st fn.results.toList=some [.obj 900 off])
  (ho:((Hw 0 args λos=>MA.ret os).run st).map Prod.fst=some outs0) (hle:Gx (Gx Z2) outs0 outs):Z6 P fn args off outs .ret st:=by
 obtain ⟨⟨os,st1⟩,h1,h2⟩:=aac.1 ho
 cases h2
 exact ⟨.inl rfl,st1,_,hres,h1,hle⟩
def DJ{α:Type}(xs ys:List α)(lo:Nat):List α:=xs.take lo++ys.take (xs.length - lo)++xs.drop (lo+min ys.length (xs.length - lo))
theorem qeF{α:Type}(f:α->List T)(xs ys:List α)(lo:Nat):qbg (xs.map f) (ys.map f) lo=(DJ xs ys lo).map f:=by
 simp only [qbg,DJ,zXh,List.map_take,List.map_drop,zXQ]
def LK(i n:Int):Bool:=decide (0<=i) && decide (i<=n)
theorem qfH{i:Int}{n:Nat}(h:LK i n=true):i.toNat<=n:=by
 simp only [LK,sk,decide_eq_true_eq] at h; omega
section
variable {P:Program} {n:Nat} {ls:List Nat} {st st':St} {p:Nat->Bool} {ρ:Nat->fi} {ops:Array Oper} {l:List Oper} {K:St->Prop} {o:Oper}
theorem Q0{α:Type}(f:α->List T)(xs:List α)(r sz:Nat)(i:Int){t e e':TypeId}{x:Operand}{lo:Option Operand}{alo:Option A}(ho:o.op=.slice t x lo none none)(hg:lw ops st o=some true)(hf:gc ρ st o=true)(hx:st.eval x=some (.own r))
  (hlo:S6 st.eval lo=some alo) (hl:EP 0 alo=some i) (hr:st.rw r=some (.live e' sz (xs.map f))) (hu:P.underlying t=some (.slice e)) (hs:kF P e=some sz) (hw:qdI ρ o.dst=true) (h:LK i xs.length=true)
  (hk:aa P p ρ ops l (st.put o.dst (.sub r sz i.toNat)) K):aa P p ρ ops (o :: l) st K:=by
 simp only [LK,sk,decide_eq_true_eq] at h;refine aa.pure (x:=.sub r sz i.toNat) hg hf ?_ hk;have hhi:S6 st.eval (none:Option Operand)=some none:=rfl;simp only [uq,ho,hx,hlo,hhi,qfe,hw,Option.isNone_none,zWj,Bool.true_or,Zh,hu,hl,hs,MA.run,hr,zXQ,h.1,h.2,and_self,↓reduceIte]
theorem VN{α:Type}(f:α->List T)(xs ys:List α)(r lo m:Nat){t t' e e':TypeId}{a b:Operand}{y:A}{args:Array Operand}{ts:Array TypeId}(ho:o.op=.call { callee:=.builtin .copy,args,argTypes:=ts })(hargs:args.toList=[a,b])(hts:ts.toList=[t,t'])(hg:lw ops st o=some true)(hf:gc ρ st o=true)
  (ha:st.eval a=some (.sub r 1 lo)) (hb:st.eval b=some y) (hy:((y.rows λm rows=>MA.ret (m,rows)).run st).map Prod.fst=some (m,ys.map f)) (hm:m=1\/ys.map f=[]) (hr:st.rw r=some (.live e' 1 (xs.map f))) (hu:P.underlying t=some (.slice e)) (hs:kF P e=some 1) (h:lo<=xs.length)
  (hk:aa P p ρ ops l ((({ st with rw:=jL st.rw r (some (.live e' 1 ((DJ xs ys lo).map f))) }:St)).put o.dst (.t (.int .i64 (min ys.length (xs.length - lo):Nat)))) K):aa P p ρ ops (o :: l) st K:=by
 refine aa.op (x:=.t (.int .i64 (min ys.length (xs.length - lo):Nat))) hg hf ?_ hk;simp only [uq,ho,hargs,ha,hb,hts,Mp,hu,hs,and_self,↓reduceIte];rw [Ow hy];simp only [hm,↓reduceIte,MA.run,hr,zXQ,h,and_self,qeF]
end
end Go.Tm
namespace Go.Tm.Pu
theorem wrap_i64{n:Int}(h1:-9223372036854775808<=n)(h2:n<=9223372036854775807):zm .i64 n=n:=Go.IntWalk.i64_in n ⟨h1,h2⟩
theorem xM(n:Int):zm .u8 n=n % 256:=by simp [zm,IntKind.bits,IntKind.signed]
theorem dQ{a b:Int}(h1:-9223372036854775808<=a+b)(h2:a+b<=9223372036854775807):aS .i64 a b=a+b:=wrap_i64 h1 h2
theorem cS{a b:Int}(h1:-9223372036854775808<=a - b)(h2:a - b<=9223372036854775807):cJ .i64 a b=a - b:=wrap_i64 h1 h2
theorem lW{a b:Int}(h1:-9223372036854775808<=a*b)(h2:a*b<=9223372036854775807):ip .i64 a b=a*b:=wrap_i64 h1 h2
theorem jj{i:Nat}(h:i < 9223372036854775807):aS .i64 (i:Int) 1=((i+1:Nat):Int):=by
 rw [dQ aD aD]; simp
theorem Hy{a b:Int}(h:0<=a):ut .i64 a b=a % b:=by
 unfold ut; exact zXZ h
theorem VO{a b:Int}(h:0<=a)(hb:0 < b)(h2:a<=9223372036854775807):qcO .i64 a b=a / b:=by
 unfold qcO;rw [Int.tdiv_eq_ediv_of_nonneg h];have h3:0<=a / b:=Int.ediv_nonneg h aD;have h4:a / b<=a:=Int.ediv_le_self b h;exact wrap_i64 aD aD
theorem Z7(k:IntKind)(a:Int)(n:Nat)(h:n<=k.bits):qm k a (n:Int)=a / 2 ^ n:=by
 unfold qm;rw [show min (sY (n:Int)) k.bits=n by simp; omega];exact Int.fdiv_eq_ediv_of_nonneg a (by exact_mod_cast zYz (2 ^ n))
theorem qfI(a:Int):qm .i64 a 7=a / 128:=Z7 .i64 a 7 (by decide)
theorem qig(a:Int):qm .i64 a 8=a / 256:=Z7 .i64 a 8 (by decide)
theorem bg{p:Prop}[Decidable p](h:p):de (decide p)=some ():=by simp [de,h]
theorem VP:de true=some ():=rfl
theorem bu{α:Type}(xs:List α)(i:Nat):ce xs (i:Int)=xs[i]?:=by simp [ce]
def qn{σ ρ:Type}(fin:σ->Option ρ)(body:Nat->σ->(σ->Option ρ)->Option ρ):Nat->Nat->σ->Option ρ
 | 0,_,s=>fin s
 | n+1,i,s=>body i s (qn fin body n (i+1))
theorem qgJ{σ ρ:Type}{fin:σ->Option ρ}{body:Nat->σ->(σ->Option ρ)->Option ρ}{n:Int}(L:Nat->σ->Int->Option ρ)(hn:n<=9223372036854775807)
  (hL:∀ (k:Nat) (s:σ) (i:Nat),L (k+1) s (i:Int)=bif decide ((i:Int) < n) then body i s (λs'=>L k s' (aS .i64 (i:Int) 1)) else fin s) :
  ∀ (m k i:Nat) (s:σ),i+m=n.toNat\/(m=0/\n<=i)->m < k->L k s (i:Int)=qn fin body m i s:=by
 intro m
 induction m with
 | zero =>
  intro k i s hi hk;obtain ⟨k,rfl⟩:∃ j,k=j+1:=⟨k - 1,by omega⟩;rw [hL];have:¬ ((i:Int) < n):=by omega
  simp [this,qn]
 | succ m ih =>
  intro k i s hi hk;obtain ⟨k,rfl⟩:∃ j,k=j+1:=⟨k - 1,by omega⟩;rw [hL];have:(i:Int) < n:=by omega
  simp only [this,decide_true,cond_true];show body i s _=body i s (qn fin body m (i+1))
  congr 1
  funext s'
  rw [jj aD];exact ih k (i+1) s' aD aD
theorem o3{σ ρ:Type}{fin:σ->Option ρ}{body:Nat->σ->(σ->Option ρ)->Option ρ}{n:Int}(L:Nat->σ->Int->Option ρ)(hn:n<=9223372036854775807)
  (hL:∀ (k:Nat) (s:σ) (i:Nat),L (k+1) s (i:Int)=bif decide ((i:Int) < n) then body i s (λs'=>L k s' (aS .i64 (i:Int) 1)) else fin s)
  {k:Nat} (s:σ) (hk:n.toNat < k):L k s 0=qn fin body n.toNat 0 s:=by
 have:=qgJ L hn hL n.toNat k 0 s aD hk
 simpa using this
def bn{α σ ρ:Type}(fin:σ->Option ρ)(body:α->Nat->σ->(σ->Option ρ)->Option ρ):List α->Nat->σ->Option ρ
 | [],_,s=>fin s
 | x :: xs,i,s=>body x i s (bn fin body xs (i+1))
theorem qbK{α σ ρ:Type}{fin:σ->Option ρ}{body:α->Nat->σ->(σ->Option ρ)->Option ρ}{xs:List α}(L:Nat->σ->Int->Option ρ)(hn:xs.length<=9223372036854775807)
  (hL:∀ (k:Nat) (s:σ) (i:Nat),L (k+1) s (i:Int)=bif decide ((i:Int) < (xs.length:Int)) then (ce xs (i:Int)).bind λx=>body x i s (λs'=>L k s' (aS .i64 (i:Int) 1)) else fin s) :
  ∀ (ys:List α) (k i:Nat) (s:σ),ys=xs.drop i->ys.length < k->L k s (i:Int)=bn fin body ys i s:=by
 intro ys
 induction ys with
 | nil =>
  intro k i s hi hk;obtain ⟨k,rfl⟩:∃ j,k=j+1:=⟨k - 1,by omega⟩;rw [hL];have:¬ ((i:Int) < (xs.length:Int)):=by
   have:=congrArg zYZ hi;simp at this;omega
  simp [this,bn]
 | cons y ys ih =>
  intro k i s hi hk;obtain ⟨k,rfl⟩:∃ j,k=j+1:=⟨k - 1,by omega⟩;rw [hL];have hlt:i < xs.length:=by
   have:=congrArg zYZ hi;simp at this;omega
  have hx:xs[i]?=some y:=by
   have:=congrArg zYY hi
   simpa [zXW] using this.symm
  have hys:ys=xs.drop (i+1):=by
   have:=congrArg zYq hi
   simpa [zXV] using this
  have:(i:Int) < (xs.length:Int):=by omega
  simp only [this,decide_true,cond_true,bu,hx,wk];show body y i s _=body y i s (bn fin body ys (i+1))
  congr 1
  funext s'
  rw [jj aD];simp only [zQq] at hk;exact ih k (i+1) s' hys aD
theorem bw{α σ ρ:Type}{fin:σ->Option ρ}{body:α->Nat->σ->(σ->Option ρ)->Option ρ}{xs:List α}(L:Nat->σ->Int->Option ρ)(hn:xs.length<=9223372036854775807)
  (hL:∀ (k:Nat) (s:σ) (i:Nat),L (k+1) s (i:Int)=bif decide ((i:Int) < (xs.length:Int)) then (ce xs (i:Int)).bind λx=>body x i s (λs'=>L k s' (aS .i64 (i:Int) 1)) else fin s)
  {k:Nat} (s:σ) (hk:xs.length < k):L k s 0=bn fin body xs 0 s:=by
 have:=qbK L hn hL xs k 0 s jC hk
 simpa using this
end Go.Tm.Pu
namespace Go.Tm
def qcQ(i j n m:Int):Bool:=decide (0<=i) && decide (i<=j) && decide (j<=n) && decide (m<=j - i)
theorem qiS{i j:Int}{n m:Nat}(h:qcQ i j n m=true):sY i+sY (j - i)<=n:=by
 simp only [qcQ,sk,decide_eq_true_eq] at h;omega
theorem qiT{i j:Int}{n m:Nat}(h:qcQ i j n m=true):m<=sY (j - i):=by
 simp only [qcQ,sk,decide_eq_true_eq] at h;omega
end Go.Tm
namespace Go.Tm
open Go
theorem oi{α:Type}{a b:α}(h:some a=some b):a=b:=Option.some.inj h
theorem kr{p:Prop}(h:p:=by kernel_rfl):p:=h
section
variable {P:Program} {n:Nat} {ls:List Nat} {Q:Exit->St->Prop} {N:St->Prop} {st st':St} {c x y:Code} {p:Nat->Bool} {ρ:Nat->fi} {ops:Array Oper} {l:List Oper} {K:St->Prop} {o:Oper}
theorem gV(s:Sx)(h:Wp P n ls c Q s.st)(hok:s.ok n ls [] []=true:=by kernel_rfl)(ht:s.tm.map (λq=>st.tm q.1)=s.tm.map (λq=>q.2.ren (JA []) (JA [])):=by kernel_rfl)
  (ho:s.ob.map (λq=>st.ob (JA [] q.1))=s.ob.map (λq=>some (yj (JA []) (JA []) q.2)):=by kernel_rfl) (hr:s.rw.map (λq=>st.rw (JA [] q.1))=s.rw.map (λq=>some q.2):=by kernel_rfl):Wp P n ls c Q st :=
 Wp.le (Le.of (s:=s) (mo:=[]) (mr:=[]) hok ht ho hr) h
theorem aO{id:Nat}(p:List Nat)(ρ:List (Nat×fi))(h:aa P (pOf p) (DI ρ) ops ops.toList st (Q .normal))(hok:ops.toList.all (DG n)=true:=by kernel_rfl):Wp P n ls (.region id ops false) Q st :=
 VJ (pOf p) (DI ρ) hok h
theorem VQ{id:Nat}(p:List Nat)(ρ:List (Nat×fi))(h:aa P (pOf p) (DI ρ) ops ops.toList st (jd (Wp P n ls y Q) Q .normal))(hok:ops.toList.all (DG n)=true:=by kernel_rfl):Wp P n ls (.seq (.region id ops false) y) Q st :=
 ap (VJ (pOf p) (DI ρ) hok h)
theorem ab(hr:N (St.or (yW P ρ ops l st)))(h:(yW P ρ ops l st).isSome=true:=by kernel_rfl):aa P p ρ ops l st (jd N Q .normal) :=
 aa.all h (b4 hr)
theorem af{id:Nat}(h:Wp P n ls y Q (St.or (yW P (DI []) ops ops.toList st)))(h1:(yW P (DI []) ops ops.toList st).isSome=true:=by kernel_rfl)(hd:ops.toList.all (DG n)=true:=by kernel_rfl):Wp P n ls (.seq (.region id ops false) y) Q st :=
 VQ [] [] (ab h h1) hd
theorem am{α:Type}{o:Operand}{b:Bool}{e1 e2 r:α}(h:(bif b then e1 else e2)=r)(ht:e1=r->Wp P n ls x Q st)(hf:e2=r->Wp P n ls y Q st)(ho:st.eval o=some (.t (.bool b)):=by kernel_rfl):Wp P n ls (.cond o x y) Q st :=
 VF ho (λhc=>ht (Z3 h hc)) (λhc=>hf (Z4 h hc))
theorem aE(h:N st){Q:Exit->St->Prop}:Wp P n ls .skip (jd N Q) st:=ld (b4 h)
end
abbrev A.s(x:List Int):A:=.t (.sl 1 (x.map (aB .u8)))
abbrev C.s(x:List Int):C:=.t (.sl 1 (x.map (aB .u8)))
abbrev A.i(n:Int):A:=.t (.int .i64 n)
abbrev A.b(b:Bool):A:=.t (.bool b)
abbrev C.i(n:Int):C:=.t (.int .i64 n)
end Go.Tm
namespace Go.Tm
open Go.RowKit
section
variable {P:Program} {n:Nat} {ls:List Nat} {st st1:St}
theorem F1(s j r sz:Nat)(cells:List A)(rows:List (List T))(hs:st.ob s=some cells)(hj:cells[j]?=some (.own r))(hr:st.rw r=some (.frz sz rows)) :
  Le n ls st { tm:=st.tm,ob:=jL st.ob s (some (cells.set j (.t (.sl sz rows)))),rw:=st.rw } :=
 Le.mem rfl λE g w hM=>by
  have h3:Rd w _ (.sl sz rows) (g.rw r):=hM.row r (.frz sz rows) hr;have hO:=Ou (cells':=cells.set j (.t (.sl sz rows))) hs;refine ⟨g,hM.reob hs (cells':=cells.set j (.t (.sl sz rows))) jC (λi x' hi=>?_),?_⟩
  ·by_cases he:j=i
   ·subst he;refine ⟨.own r,hj,λv _ hv=>?_⟩;have hlt:j < cells.length:=(aab.1 hj).1;rw [zYW hlt] at hi
    cases hi
    cases hv
    exact ⟨rfl,.t _ _ h3⟩
   ·rw [zZH he] at hi;exact ⟨x',hi,λv h1 h2=>⟨h1,h2⟩⟩
  ·have h2:=vZ.refl w g st.O st.R;refine ⟨h2.same,h2.F,λs hs=>?_,h2.R,h2.d,h2.s⟩;have:=h2.O s hs;exact ⟨by rw [<- hO] at this; exact this.1,this.2⟩
end
section
variable {P:Program} {n:Nat} {ls:List Nat} {st st1:St}
theorem Vf(t sz:Nat)(rows:List (List T))(ht:st.tm t=.nn sz rows)(hlt:Nat.blt t n=true):Le n ls st (st.put (some t) (.t (.sl sz rows))) :=
 qdT rfl (λE g w v hM hv=>by
  rw [ht] at hv
  cases hv with
  | nn _ _ _ hr _=>exact ⟨g,hM,vZ.refl _ _ _ _,.t _ _ hr⟩) qec
end
theorem BK{P:Program}{fn:Func}{c:Code}{f:FuncId}{sz:Nat}{rows:List (List T)}{m:Bool}{res:V}
  (hf:P.funcs[f]?=some fn) (hb:fn.body=some c) (hnm:(fn.name == "runtime.NumGoroutine")=false) (hle:1<=fn.ntmps) (ht:DU fn.ntmps fn=true)
  (hN:rows=[]->Wp P fn.ntmps [] c (LH P m fn [] res []) (ii [.nil] ji)) (hS:Wp P fn.ntmps [] c (LH P m fn [] res []) (ii [.nn sz rows] ji)):aq P f [.one (.t (.sl sz rows))] res []:=by
 refine ⟨⟨fn,hf,by simp [hb],hnm⟩,λw F vs bs hF hVV hnd hnf htb=>?_⟩
 cases hVV with
 | cons _ v b _ vs bs h1 hs =>
  cases hs
  cases h1 with
  | one _ _ _ h1=>cases h1 with
   | t _ _ h1 =>
    let E:En:={ w0:=w,X:=noP,F0:=F,lent:=[] }
    let g0:Gh:={ F:=F,ob:=λ_=>0,rw:=λ_=>.nilFunc,dw:=w }
    have main:∀ x:A,VR w g0 noP noP x v->Wp P fn.ntmps [] c (LH P m fn [] res []) (ii [x] ji)->Calls P f #[v] w λe w'=>∃ v' F' bv bo,e=.returned v'/\vF w w'/\(∀ b,b < w.heap.size->b∉([]:List Nat)->w'.heap[b]?=w.heap[b]?)/\(∀ b,F b->F' b) /\
      (∀ b,F' b->b < w'.heap.size/\(b < w.heap.size->F b\/b∈([]:List Nat))/\(F b\/Wr w' b))/\VV w' F' res v' bv/\wa w' F' [.one (.t (.sl sz rows))] [v] [] bo/\(bv++bo).Nodup/\∀ b∈bv++bo,¬ F' b/\(w.heap.size<=b\/b∈([]:List Nat)):=by
     intro x hx hW;have hM0:gS E g0 (ii [x] ji) w:=⟨λs cells h=>Yj,λs s' h=>Yj,λr x h=>Yj,λr r' b h=>qed,λr s h=>qed,
      λb hb=>⟨hF b hb,λ_=>.inl hb,.inl hb⟩,rfl,rfl,rfl,zWX _,λ_ _ _=>.inl rfl,λ_ h=>h.elim,⟨rfl,rfl,rfl⟩,λ_ h=>h.elim⟩
     have hSim:=ZA (vs:=[v]) (n:=fn.ntmps) hM0 rfl qfa (λj y hj=>by
      cases j with
      | zero=>simp at hj; subst hj; exact ⟨v,rfl,hx.mono ⟨λ_ _=>rfl,λ_ h=>h,λ_ h=>h.elim,λ_ h=>h.elim,⟨rfl,rfl,rfl⟩,rfl,rfl⟩⟩
      | succ j=>simp at hj) rfl (λv h=>Yj)
     refine calls_of_wp hf hb (wp_mono (hW E g0 _ w ⟨⟨[],rfl,λ_ h=>Yj,λ_ h=>Yj,λh=>Yj⟩,⟨htb.mono λb h=>h.elim (λh=>h.elim) λh=>(by cases h.1)⟩⟩ hSim) λe a' w' ⟨g',st',hS',hR⟩=>?_);obtain ⟨he,l,st2,res0,outs0,hres,hrun,hvle,hole⟩:=hR;have hfin:a'.defers=[]/\∃ v',(results fn a'.tmps).run P w'=.ok v' w'/\(λe w'=>∃ v' F' bv bo,e=Ending.returned v'/\vF w w'/\(∀ b,b < w.heap.size->b∉([]:List Nat)->w'.heap[b]?=w.heap[b]?)/\(∀ b,F b->F' b) /\
       (∀ b,F' b->b < w'.heap.size/\(b < w.heap.size->F b\/b∈([]:List Nat))/\(F b\/Wr w' b))/\VV w' F' res v' bv/\wa w' F' [.one (.t (.sl sz rows))] [v] [] bo/\(bv++bo).Nodup/\∀ b∈bv++bo,¬ F' b/\(w.heap.size<=b\/b∈([]:List Nat))) (.returned v') w':=by
      refine ⟨hS'.defers,?_⟩;obtain ⟨v',hrv,hvv⟩:=Vd hS' hres ht;refine ⟨v',hrv,?_⟩;have hM':=hS'.mem;simp only [Hw] at hrun;obtain ⟨c',st4,g4,bv,hM4,hE4,hL4,h4,hv4,hT4⟩:=qbG hM' hvv hrun;obtain ⟨h5,rfl⟩:=jB h4;injection h5 with h5 h6
      subst h5 h6;have hof:∀ b∈bv,w.heap.size<=b:=λb hb=>by
       rcases hT4.of b hb with ⟨r,⟨e,sz,rows,h7⟩,_,h8⟩ | ⟨s,⟨c,cs,h7⟩,_,h8⟩
       ·obtain ⟨_,_,_,_,h9⟩:=hM'.row r _ h7;exact (h9 b h8).2.resolve_right (λh=>h)
       ·obtain ⟨_,_,_,_,_,_,h9⟩:=hM'.ob s _ h7;rw [h8] at h9;exact h9.resolve_right (λh=>h)
      refine ⟨v',λb=>g4.F b\/F b,bv,[],rfl,⟨hM4.os,hM4.tape,hM4.output,hM4.sizes⟩,λb hb _=>hM4.frm rfl b hb (λh=>h),λb h=>.inr h,λb h=>?_,hvle.vv (hv4.mono (λ_ _=>rfl) (λ_ h=>.inl h) (λ_ _=>rfl)),.skip _ _ _ _ _ _ (λc h=>by cases h) .nil,by rw [zWY]; exact hT4.nodup,λb hb=>?_⟩
      ·rcases h with h | h
       ·obtain ⟨h7,h8,h9⟩:=hM4.F b h;exact ⟨h7,λhlt=>.inl ((h8 hlt).elim id (λh=>h.elim)),h9⟩
       ·exact ⟨zWK (hF b h) hM4.sizes,λ_=>.inl h,.inl h⟩
      ·rw [zWY] at hb;refine ⟨λh=>?_,.inl (hof b hb)⟩;rcases h with h | h
       ·exact hT4.nf b hb h
       ·have:=hF b h; have:=hof b hb; omega
     rcases he with rfl | rfl
     ·exact hfin
     ·exact hfin
    generalize hq:rows=q at h1
    cases h1 with
    | sl0 sz a cc ha =>
     cases a with
     | none =>
      subst hq;have hcc:=ha rfl;subst hcc;exact main .nil .nil (hN rfl)
     | some a =>
      subst hq;exact main (.nn sz []) (.nn sz [] _ (.sl0 sz (some a) cc ha) ⟨a,0,cc,rfl⟩) hS
    | sl sz rows b off cc u h2 h3 h4 h5 h6 =>
     subst hq;exact main (.nn sz rows) (.nn sz rows _ (.sl sz rows b off cc u h2 h3 h4 h5 h6) ⟨_,_,_,rfl⟩) hS
section
variable {P:Program} {n:Nat} {ls:List Nat} {Q:Exit->St->Prop} {st st':St} {p:Nat->Bool} {ρ:Nat->fi} {ops:Array Oper} {l:List Oper} {K:St->Prop} {o:Oper}
end
section
variable {P:Program} {E:En} {g:Gh} {st st':St} {a:Act} {w w':World} {n:Nat}
variable {p:Nat->Bool} {ρ:Nat->fi} {ops:Array Oper} {o:Oper} {ls:List Nat} {Q:Exit->St->Prop}
theorem qgK(k:IntKind)(xs:List Int):∀ row∈xs.map (aB k),∀ x∈row,T.sc x=true:=by
 intro row hr x hx;obtain ⟨n,_,rfl⟩:=List.mem_map.1 hr;simp [aB] at hx;subst hx;rfl
end
end Go.Tm
namespace Go.Tm
open Go
theorem Z8{α:Type}{xs:List α}{i:Nat}{y z:α}(h:xs[i]?=some y):(xs.set i z)[i]?=some z:=by
 have:i < xs.length:=(aab.1 h).1;simp [this]
def C.fix:C->C->C
 | .t (.sl s _),.nil=>.t (.sl s [])
 | .ow e s _,.nil=>.ow e s []
 | .t (.sl s _),.t (.sl 0 [])=>.t (.sl s [])
 | _,c=>c
theorem qbL:∀ t c:C,Z2 c (C.fix t c):=λt c=>by
 unfold C.fix
 split
 ·exact .nilT _
 ·exact .nilO _ _
 ·exact .sz _ _
 ·exact .refl _
def qdV:List C->List C->List C
 | t :: ts,c :: cs=>t.fix c :: qdV ts cs
 | _,cs=>cs
theorem VS:∀ cs:List C,Gx Z2 cs cs
 | []=>.nil
 | c :: cs=>.cons (.refl c) (VS cs)
theorem VT:∀ ts cs:List C,Gx Z2 cs (qdV ts cs)
 | t :: ts,c :: cs=>.cons (qbL t c) (VT ts cs)
 | [],cs=>VS cs
 | _ :: _,[]=>.nil
def qgL:List (List C)->List (List C)->List (List C)
 | t :: ts,c :: cs=>qdV t c :: qgL ts cs
 | _,cs=>cs
theorem ZD:∀ cs:List (List C),Gx (Gx Z2) cs cs
 | []=>.nil
 | c :: cs=>.cons (VS c) (ZD cs)
theorem qdW:∀ ts cs:List (List C),Gx (Gx Z2) cs (qgL ts cs)
 | t :: ts,c :: cs=>.cons (VT t c) (qdW ts cs)
 | [],cs=>ZD cs
 | _ :: _,[]=>.nil
mutual
def V.fix:V->V->V
 | .one t,.one c=>.one (t.fix c)
 | .agg ts,.agg cs=>.agg (qdV ts cs)
 | .tup ts,.tup vs=>.tup (OC ts vs)
 | _,v=>v
def OC:List V->List V->List V
 | t :: ts,v :: vs=>V.fix t v :: OC ts vs
 | _,vs=>vs
end
theorem ZE:∀ vs:List V,VH vs vs
 | []=>.nil
 | v :: vs=>.cons (.refl v) (ZE vs)
mutual
theorem qbM:∀ t v:V,VLe v (V.fix t v)
 | .one t,.one c=>by unfold V.fix; exact .one (qbL t c)
 | .agg ts,.agg cs=>by unfold V.fix; exact .agg (VT ts cs)
 | .tup ts,.tup vs=>by unfold V.fix; exact .tup (OD ts vs)
 | .one _,.agg _ | .one _,.tup _ | .one _,.ptr _ | .one _,.fptr _ | .one _,.clo ..=>by unfold V.fix; exact .refl _
 | .agg _,.one _ | .agg _,.tup _ | .agg _,.ptr _ | .agg _,.fptr _ | .agg _,.clo ..=>by unfold V.fix; exact .refl _
 | .tup _,.agg _ | .tup _,.one _ | .tup _,.ptr _ | .tup _,.fptr _ | .tup _,.clo ..=>by unfold V.fix; exact .refl _
 | .ptr _,v | .fptr _,v | .clo ..,v=>by unfold V.fix; exact .refl _
theorem OD:∀ ts vs:List V,VH vs (OC ts vs)
 | t :: ts,v :: vs=>by unfold OC; exact .cons (qbM t v) (OD ts vs)
 | [],vs=>by unfold OC; exact ZE vs
 | _ :: _,[]=>by unfold OC; exact .nil
end
def Q2(P:Program)(ρ:Nat->fi)(ops:Array Oper)(st:St):List Oper->Option (Nat×List A×Nat)
 | o :: _=>match lw ops st o with
  | some true=>if gc ρ st o then match o.op,o.dst with
   | .call { callee:=.value xf,args,.. },some d=>match st.eval xf,d4 (args.toList.map st.eval) with
    | some (.clo f caps),some az=>some (f,az++caps,d)
    | _,_=>none
   | _,_=>none
   else none
  | _=>none
 | []=>none
def V.pl:V->Bool
 | .one (.t x)=>x.sc
 | .agg l=>l.all λc=>match c with | .t x=>x.sc | _=>false
 | .tup l=>l.all λv=>match v with | .one (.t x)=>x.sc | _=>false
 | _=>false
theorem qcR{v:V}(h:v.pl=true):v.plain:=by
 unfold V.pl at h
 split at h
 ·unfold V.plain; exact h
 ·unfold V.plain;intro c hc;have:=aaf.1 h c hc
  cases c with
  | t x=>exact this
  | _=>cases this
 ·rename_i l;unfold V.plain
  induction l with
  | nil=>unfold As; trivial
  | cons v l ih =>
   simp only [zYj,sk] at h;unfold As;refine ⟨?_,ih h.2⟩;have h1:=h.1
   split at h1
   ·unfold V.plain; exact h1
   ·cases h1
 ·cases h
section
variable {P:Program} {n:Nat} {ls:List Nat} {Q:Exit->St->Prop} {N:St->Prop} {st:St} {p:Nat->Bool} {ρ:Nat->fi} {ops:Array Oper} {l:List Oper} {K:St->Prop} {y:Code}
abbrev Cy(P:Program)(ρ:Nat->fi)(ops:Array Oper)(k:Nat)(l:List Oper)(st:St):St:=St.or (yW P ρ ops (l.take k) st)
theorem JR{c:Nat×List A×Nat}(h:Q2 P ρ ops st l=some c):∃ o l' xf args ts az caps,l=o :: l'/\lw ops st o=some true/\gc ρ st o=true/\o.op=.call { callee:=.value xf,args,argTypes:=ts }/\o.dst=some c.2.2/\st.eval xf=some (.clo c.1 caps)/\d4 (args.toList.map st.eval)=some az/\c.2.1=az++caps:=by
 unfold Q2 at h
 split at h <;> try (cases h; done)
 rename_i o l'
 split at h <;> try (cases h; done)
 split at h <;> try (cases h; done)
 split at h <;> try (cases h; done)
 split at h <;> try (cases h; done)
 rename_i _ hg hf _ _ xf args ts d hop hd _ _ f caps az hxf qw
 cases h
 exact ⟨o,l',xf,args,ts,az,caps,rfl,hg,hf,hop,hd,hxf,qw,rfl⟩
abbrev clS(m:Bool)(p:Nat->Bool)(d:Nat)(az:List A)(res:V)(outs:List (List C))(st:St):St :=
 (ZB ((gq d (gp az) outs (V.toA d (lA d 0) res MA.ret)).run (ZB ((oZ m p az MA.ret).run st)))).put (some d) (orA ((gq d (gp az) outs (V.toA d (lA d 0) res MA.ret)).run (ZB ((oZ m p az MA.ret).run st))))
abbrev cbS(d:Nat)(res:V)(st:St):St:=(ZB ((V.toA d (lA d 0) res MA.ret).run st)).put (some d) (orA ((V.toA d (lA d 0) res MA.ret).run st))
theorem ag{α β:Type}{r:β}{x:Option α}{f:α->Option β}{fid:Nat}{vs:List V}{res:α->V}{outs:α->List (List C)}(m:Bool)(k d:Nat)(az:List A)(h:x.bind f=some r)(hc:∀ y,x=some y->aq P fid vs (res y) (outs y))
  (hk:∀ y,f y=some r->aa P p ρ ops (l.drop (k+1)) (clS m p d az (res y) (outs y) (Cy P ρ ops k l st)) K)
  (h1:(yW P ρ ops (l.take k) st).isSome=true:=by kernel_rfl) (h2:Q2 P ρ ops (Cy P ρ ops k l st) (l.drop k)=some (fid,az,d):=by kernel_rfl)
  (h3:((oZ m p az MA.ret).run (Cy P ρ ops k l st)).map (λq=>OC vs q.1)=some vs:=by kernel_rfl)
  (h4:∀ y,((gq d (gp az) (outs y) (V.toA d (lA d 0) (res y) MA.ret)).run (ZB ((oZ m p az MA.ret).run (Cy P ρ ops k l st)))).isSome=true:=by intro y; kernel_rfl):aa P p ρ ops l st K:=by
 refine bc k h1 ?_
 cases x with
 | none=>cases h
 | some y =>
  have h5:=hc y rfl;have h6:=hk y h;have h7:=h4 y
  clear hc hk h4
  simp only [Cy,clS] at h2 h3 h6 h7;generalize St.or (yW P ρ ops (l.take k) st)=st1 at *;obtain ⟨o,l',xf,args,ts,az',caps,e1,e2,e3,e4,e5,e6,e7,e8⟩:=JR h2;simp only at e5 e6 e8;subst e8;have e9:l.drop (k+1)=l':=by rw [<- List.drop_drop,e1]; rfl
  rw [e9] at h6;rw [e1];obtain ⟨⟨vs0,st2⟩,h8,h9⟩:=aac.1 h3;have h10:VH vs0 vs:=by rw [<- h9]; exact OD vs vs0
  rw [h8] at h6 h7;simp only [ZB,orA] at h6 h7
  cases h11:(gq d (gp (az'++caps)) (outs y) (V.toA d (lA d 0) (res y) MA.ret)).run st2 with
  | none=>rw [h11] at h7; cases h7
  | some q =>
   obtain ⟨z,st3⟩:=q;rw [h11] at h6;exact aa.call e2 e3 e4 e5 e6 e7 h8 (h5.le h10) h11 (by rw [e5]; exact h6)
theorem eE{α β:Type}{r:β}{x:Option α}{f:α->Option β}{fid:Nat}{vs:List V}{res:α->V}(k d:Nat)(az:List A)(h:x.bind f=some r)(hc:∀ y,x=some y->aq P fid vs (res y) [])
  (hk:∀ y,f y=some r->aa P p ρ ops (l.drop (k+1)) (cbS d (res y) (Cy P ρ ops k l st)) K)
  (h1:(yW P ρ ops (l.take k) st).isSome=true:=by kernel_rfl) (h2:Q2 P ρ ops (Cy P ρ ops k l st) (l.drop k)=some (fid,az,d):=by kernel_rfl)
  (h3:((gL az MA.ret).run (Cy P ρ ops k l st)).map (λq=>OC vs q.1)=some vs:=by kernel_rfl)
  (h0:∀ y,(res y).pl=true:=by intro y; kernel_rfl)
  (h4:∀ y,((V.toA d (lA d 0) (res y) MA.ret).run (Cy P ρ ops k l st)).isSome=true:=by intro y; kernel_rfl):aa P p ρ ops l st K:=by
 refine bc k h1 ?_
 cases x with
 | none=>cases h
 | some y =>
  have h5:=hc y rfl;have h6:=hk y h;have h7:=h4 y;have h0:=qcR (h0 y)
  clear hc hk h4
  simp only [Cy,cbS] at h2 h3 h6 h7;generalize St.or (yW P ρ ops (l.take k) st)=st1 at *;obtain ⟨o,l',xf,args,ts,az',caps,e1,e2,e3,e4,e5,e6,e7,e8⟩:=JR h2;simp only at e5 e6 e8;subst e8;have e9:l.drop (k+1)=l':=by rw [<- List.drop_drop,e1]; rfl
  rw [e9] at h6;rw [e1];obtain ⟨⟨vs0,st2⟩,h8,h9⟩:=aac.1 h3;have h10:VH vs0 vs:=by rw [<- h9]; exact OD vs vs0
  have hst:st2=st1:=by
   have:=(th (gL (az'++caps) MA.ret) (Bt (D:=⟨λ_=>True,λ_=>False,λ_=>True,λ_=>False⟩) (Bs (λ_=>trivial) _) (λ_=>trivial)) h8).1;exact St.ext this.tm (funext λs=>this.ob s (λh=>h)) (funext λs=>this.rw s (λh=>h))
  subst hst
  cases h11:(V.toA d (lA d 0) (res y) MA.ret).run st2 with
  | none=>rw [h11] at h7; cases h7
  | some q =>
   obtain ⟨z,st3⟩:=q;rw [h11] at h6;simp only [ZB,orA] at h6;exact aa.callB e2 e3 e4 e5 e6 e7 h8 (h5.le h10) h0 h11 (by rw [e5]; exact h6)
theorem aF{id:Nat}(h:aa P (pOf []) (DI []) ops ops.toList st (jd (Wp P n ls y Q) Q .normal))(hd:ops.toList.all (DG n)=true:=by kernel_rfl):Wp P n ls (.seq (.region id ops false) y) Q st :=
 VQ [] [] h hd
theorem aL{α β:Type}{id:Nat}{r:β}{x:Option α}{f:α->Option β}{fid:Nat}{vs:List V}{res:α->V}{outs:α->List (List C)}(m:Bool)(k d:Nat)(az:List A)(h:x.bind f=some r)(hc:∀ y,x=some y->aq P fid vs (res y) (outs y))
  (hk:∀ z,f z=some r->Wp P n ls y Q (St.or (yW P (DI []) ops (ops.toList.drop (k+1)) (clS m (pOf []) d az (res z) (outs z) (Cy P (DI []) ops k ops.toList st)))))
  (h1:(yW P (DI []) ops (ops.toList.take k) st).isSome=true:=by kernel_rfl) (h2:Q2 P (DI []) ops (Cy P (DI []) ops k ops.toList st) (ops.toList.drop k)=some (fid,az,d):=by kernel_rfl)
  (h3:((oZ m (pOf []) az MA.ret).run (Cy P (DI []) ops k ops.toList st)).map (λq=>OC vs q.1)=some vs:=by kernel_rfl)
  (h4:∀ z,((gq d (gp az) (outs z) (V.toA d (lA d 0) (res z) MA.ret)).run (ZB ((oZ m (pOf []) az MA.ret).run (Cy P (DI []) ops k ops.toList st)))).isSome=true:=by intro z; kernel_rfl)
  (h5:∀ z,(yW P (DI []) ops (ops.toList.drop (k+1)) (clS m (pOf []) d az (res z) (outs z) (Cy P (DI []) ops k ops.toList st))).isSome=true:=by intro z; kernel_rfl)
  (hd:ops.toList.all (DG n)=true:=by kernel_rfl):Wp P n ls (.seq (.region id ops false) y) Q st :=
 VQ [] [] (ag m k d az h hc (λz hz=>ab (hk z hz) (h5 z)) h1 h2 h3 h4) hd
theorem aj{α:Type}(k d:Nat){b:Bool}{e1 e2 r:α}(h:(bif b then e1 else e2)=r)(ht:e1=r->aa P p ρ ops (l.drop k) ((Cy P ρ ops k l st).put (some d) (.t (.bool true))) K)
  (hf:e2=r->aa P p ρ ops (l.drop k) ((Cy P ρ ops k l st).put (some d) (.t (.bool false))) K) (h1:(yW P ρ ops (l.take k) st).isSome=true:=by kernel_rfl) (h2:(Cy P ρ ops k l st).tm d=.t (.bool b):=by kernel_rfl):aa P p ρ ops l st K:=by
 refine bc k h1 ?_;rcases tf b with hc | hc
 ·exact aa.known d (v:=true) h2 hc (ht (Z3 h hc))
 ·exact aa.known d (v:=false) h2 hc (hf (Z4 h hc))
theorem qgM{m:Bool}{fn:Func}{args:List V}{res:V}{outs:List (List C)}(h1:(DH P st fn.results.toList).isSome=true:=by kernel_rfl)
  (h2:((Hw 0 args λos=>qew m (qcI ((DH P st fn.results.toList).getD [])) λv=>MA.ret (v,os)).run st).map (λq=>(V.fix res q.1.1,qgL outs q.1.2))=some (res,outs):=by kernel_rfl):LH P m fn args res outs .ret st:=by
 obtain ⟨l,hl⟩:=aae.1 h1;rw [hl] at h2;obtain ⟨⟨⟨v,os⟩,st1⟩,h3,h4⟩:=aac.1 h2;simp only [Prod.mk.injEq] at h4;refine ⟨.inl rfl,l,st1,v,os,hl,h3,?_,?_⟩
 ·rw [<- h4.1]; exact qbM _ _
 ·rw [<- h4.2]; exact qdW _ _
theorem Hz{m:Bool}{fn:Func}{args:List V}{res:V}{outs:List (List C)}(h1:(DH P st fn.results.toList).isSome=true:=by kernel_rfl)
  (h2:((Hw 0 args λos=>qew m (qcI ((DH P st fn.results.toList).getD [])) λv=>MA.ret (v,os)).run st).map (λq=>(V.fix res q.1.1,qgL outs q.1.2))=some (res,outs):=by kernel_rfl):LH P m fn args res outs .normal st :=
 ⟨.inr rfl,(qgM (m:=m) (args:=args) h1 h2).2⟩
theorem lo{s:Sx}(mr:List (Nat×Nat))(hok:s.ok n ls [] mr=true:=by kernel_rfl)(ht:s.tm.map (λq=>st.tm q.1)=s.tm.map (λq=>q.2.ren (JA []) (JA mr)):=by kernel_rfl)
  (ho:s.ob.map (λq=>st.ob (JA [] q.1))=s.ob.map (λq=>some (yj (JA []) (JA mr) q.2)):=by kernel_rfl) (hr:s.rw.map (λq=>st.rw (JA mr q.1))=s.rw.map (λq=>some q.2):=by kernel_rfl):Le n ls st s.st:=Le.of hok ht ho hr
theorem b6{f:FuncId}{c:Code}{args:List V}{res:V}{outs:List (List C)}(fn:Func)(m:Bool)
  (h:Wp P fn.ntmps (mw 0 args) c (LH P m fn args res outs) (ii ((((EQ 0 args MA.ret).run ji).map Prod.fst).getD []) (ZB ((EQ 0 args MA.ret).run ji))))
  (hb:fn.body=some c:=by rfl) (hf:P.funcs[f]?=some fn:=by kernel_rfl) (hnm:(fn.name == "runtime.NumGoroutine")=false:=by kernel_rfl) (hle:Nat.ble ((((EQ 0 args MA.ret).run ji).map Prod.fst).getD []).length fn.ntmps=true:=by kernel_rfl) (ht:DU fn.ntmps fn=true:=by kernel_rfl)
  (ha:((EQ 0 args MA.ret).run ji).isSome=true:=by kernel_rfl) (hl:lT 0 args ((((EQ 0 args MA.ret).run ji).map Prod.fst).getD [])=true:=by kernel_rfl):aq P f args res outs:=by
 obtain ⟨⟨az,st0⟩,h1⟩:=aae.1 ha;refine Ta (m:=m) az hf hb hnm (by simpa [h1] using hle) ht (by rw [h1]; rfl) (by simpa [h1] using hl) ?_
 simpa [h1] using h
end
end Go.Tm
