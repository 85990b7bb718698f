/- The abstract machine tells the truth of the translated code. -/
import Derived.Orders
import Derived.ChangeOld
import Derived.ChangeArms
import Derived.Carry
import Derived.OpenShut
import Derived.IntWalk
import Derived.Test.YtkomlmhelfnajaaGreatCFnSameImageF1
set_option linter.unusedVariables false
set_option linter.unusedSimpArgs false
open List renaming size_toArray->zVZ
open Array renaming getElem?_append_left->zZV,getElem?_append_right->zZW,getElem?_eq_getElem->zYW,getElem?_replicate->zZH,replicate->zZg,toArray_toList->zWG
open Bool renaming and_eq_true->sk,and_self->zWZ,and_true->zYX,false_eq_true->zQk,true_and->zWX
open Int renaming tmod_eq_emod_of_nonneg->zXG,toNat->sY
open List renaming all_eq_true->zYJ,append_nil->zWW,cons_append->zXy,drop_eq_getElem_cons->zXq,eq_nil_of_length_eq_zero->zQW,getElem?_append->zWK,getElem?_append_left->zQQ,getElem?_append_right->r0,getElem?_cons_zero->zQh,getElem?_drop->zQJ,getElem?_eq_getElem->sX,getElem?_eq_none->zXK,getElem?_map->zQz,getElem?_of_mem->zYv,getElem?_set_ne->zVw,getElem?_take->zQK,head?->zZk,head?_drop->zYK,head?_eq_getElem?->zVV,length_append->zQG,length_cons->zQw,length_map->zWw,map_append->zXJ,map_congr_left->zWg,map_cons->zWh,mem_append_left->zVq,mem_cons_of_mem->zQj,mem_cons_self->zWQ,mem_map->zXg,mem_of_getElem?->zQY,mem_singleton->zQy,nil_append->zWH,nodup_append->zXk,range->zXW,range'->zZY,range_eq_range'->zYk,replicate->zQZ,tail_drop->zYj,take_append_drop->zXv
open Nat renaming add_assoc->zZX,beq->zXX,eq_of_beq_eq_true->zWz,eq_zero_or_pos->zYY,le_refl->zWJ,le_trans->zXw,lt_of_lt_of_le->zWV,zero_add->zQg,zero_le->zYy
open Option renaming bind_some->wk,getD_some->zYG,map_eq_some_iff->zWj,map_some->zWY
open Go.IntKind renaming wrap->pa
open BitVec renaming ofInt->sa
open List renaming getElem?_eq_some_iff->sr
open Option renaming map_eq_some_iff->zm
open List renaming mem_append->An
open Option renaming isSome_iff_exists->DQ
open List renaming all_eq_true->KB
open Array renaming getElem?_eq_some_iff->Wk
open List renaming mem_cons->aaa
open List renaming getElem?_eq_none_iff->aab
namespace Go.Tm
open Go.RowKit
section
variable {P:Program} {E:En} [Tb P E] {g:Gh} {st st':St} {a:Act} {w:World}
def Gh.all(g:Gh)(st:St)(b:Nat):Prop:=g.F b\/(∃ r,st.L r/\(g.rw r).ownBlock=some b)\/(g.sh=false/\g.D b)
theorem gG.all_lt(hM:gG E g st w){b:Nat}(hb:g.all st b):b < w.heap.size:=by
 rcases hb with hb | ⟨r,hL,hb⟩ | ⟨_,hb⟩
 ·exact (hM.F b hb).1
 ·exact hM.row_lt hL hb
 ·exact zWV (hM.dep b hb).2.1 hM.sizes
theorem Pw{α:Type}{x:A}{k:T->MA α}{y:α}{v:Value}(hM:gG E g st w)(hv:VR w g st.O st.R x v)(h:(x.peekT k).run st=some (y,st')):∃ t,(k t).run st=some (y,st')/\Rd w (g.all st) t v:=by
 cases hv with
 | t x v h1=>exact ⟨x,h,h1.mono (λ_ _=>rfl) (λ_ h=>.inl h)⟩
 | ext s x v hs h1 =>
  cases s with
  | true=>simp [A.peekT,MA.run] at h
  | false=>exact ⟨x,h,h1.rd (hM.now hs) (λ_ h=>.inr (.inr ⟨hs,h⟩))⟩
 | nil=>exact ⟨_,h,.sl0 _ _ _ (by first | assumption | exact λ_=>rfl | (intro h; cases h))⟩
 | own r hr =>
  simp only [A.peekT,MA.run] at h
  cases hx:st.rw r with
  | none=>simp [hx,MA.run] at h
  | some x =>
   cases x with
   | live e sz rows =>
    simp only [hx] at h;exact ⟨_,h,(hM.row r _ hx).rd _ (λ_ h=>.inl h) (λb hb=>.inr (.inl ⟨r,⟨e,sz,rows,hx⟩,hb⟩))⟩
   | frz sz rows =>
    simp only [hx] at h;exact ⟨_,h,Rd.mono (hM.row r _ hx) (λ_ _=>rfl) (λ_ h=>.inl h)⟩
   | gone=>simp [hx,MA.run] at h
 | _=>simp [A.peekT,MA.run] at h
theorem MI{α:Type}:∀ {l:List A} {k:List T->MA α} {y:α} {vs:List Value},gG E g st w->vs.length=l.length->(∀ (j:Nat) (x:A),l[j]?=some x->∃ u,vs[j]?=some u/\VR w g st.O st.R x u)->(HA l k).run st=some (y,st') ->
  ∃ ts,(k ts).run st=some (y,st')/\Ps w (g.all st) (ts.map .t) vs []
 | [],k,y,vs,hM,hl,hv,h=>by
  have:vs=[]:=zQW hl;subst this;exact ⟨[],h,.nil⟩
 | x :: l,k,y,vs,hM,hl,hv,h=>by
  obtain ⟨v,vs,rfl⟩:∃ v vs',vs=v :: vs':=by
   cases vs with
   | nil=>simp at hl
   | cons v vs=>exact ⟨v,vs,rfl⟩
  obtain ⟨u,hu,hx⟩:=hv 0 x rfl;simp at hu;subst hu;obtain ⟨t,h1,hr⟩:=Pw hM hx h;obtain ⟨ts,h2,hc⟩:=MI hM Tw (λj y hy=>by
   obtain ⟨u,hu,hx⟩:=hv (j+1) y Tx;exact ⟨u,by simpa using hu,hx⟩) h1
  exact ⟨t :: ts,h2,.cons _ _ [] _ _ [] (.t _ _ hr) hc⟩
mutual
theorem VT{α:Type}:∀ (x:A) {k:V->MA α} {y:α} {v:Value},gG E g st w->VR w g st.O st.R x v->(j9 x k).run st=some (y,st')->∃ c,(k c).run st=some (y,st')/\VV w (g.all st) c v []:=by
 intro x k y v hM hv h;unfold j9 at h
 split at h
 ·rename_i l
  cases hv with
  | agg l vs hl hx =>
   obtain ⟨ts,h1,hc⟩:=MI hM hl.symm (λj x hj=>⟨_,sX (by rw [<- hl]; exact (sr.1 hj).1),hx j x _ hj (sX (by rw [<- hl]; exact (sr.1 hj).1))⟩) h;exact ⟨_,h1,.agg _ vs [] hc⟩
 ·rename_i ts
  cases hv with
  | fadr cells b off u hF hx hr=>exact ⟨_,h,.fptr ts b off u (.inl hF) hx (λj x hj=>(hr j x hj).mono (λ_ _=>rfl) (λ_ h=>.inl h))⟩
 ·rename_i f caps
  cases hv with
  | clo f caps vs hl hx =>
   obtain ⟨cs,h1,hc⟩:=wU caps hM hl.symm (λj x hj=>⟨_,sX (by rw [<- hl]; exact (sr.1 hj).1),hx j x _ hj (sX (by rw [<- hl]; exact (sr.1 hj).1))⟩) h;exact ⟨_,h1,.clo f cs vs [] hc⟩
 ·obtain ⟨t,h1,hr⟩:=Pw hM hv h;exact ⟨_,h1,.one _ v [] (.t _ _ hr)⟩
theorem wU{α:Type}:∀ (l:List A) {k:List V->MA α} {y:α} {vs:List Value},gG E g st w->vs.length=l.length->(∀ (j:Nat) (x:A),l[j]?=some x->∃ u,vs[j]?=some u/\VR w g st.O st.R x u)->(eZ l k).run st=some (y,st')->∃ cs,(k cs).run st=some (y,st')/\Dj w (g.all st) cs vs []
 | [],k,y,vs,hM,hl,hv,h=>by
  have:vs=[]:=zQW hl;subst this;unfold eZ at h;exact ⟨[],h,.nil⟩
 | x :: l,k,y,vs,hM,hl,hv,h=>by
  obtain ⟨v,vs,rfl⟩:∃ v vs',vs=v :: vs':=by
   cases vs with
   | nil=>simp at hl
   | cons v vs=>exact ⟨v,vs,rfl⟩
  obtain ⟨u,hu,hx⟩:=hv 0 x rfl;simp at hu;subst hu;unfold eZ at h;obtain ⟨c,h1,hc⟩:=VT x hM hx h;obtain ⟨cs,h2,hcs⟩:=wU l hM Tw (λj y hy=>by
   obtain ⟨u,hu,hx⟩:=hv (j+1) y Tx;exact ⟨u,by simpa using hu,hx⟩) h1
  exact ⟨c :: cs,h2,.cons _ _ [] _ _ [] hc hcs⟩
end
theorem Rd.sc{F F':Nat->Prop}{x:T}{v:Value}(h:Rd w F x v)(hx:x.sc=true):Rd w F' x v:=by
 cases h with
 | int k n=>exact .int k n
 | bool b=>exact .bool b
 | str s=>exact .str s
 | nilf=>exact .nilf
 | hdr a n c=>exact .hdr a n c
 | sl0 | sl=>cases hx
theorem CV.plain{F F':Nat->Prop}{c:C}{v:Value}{bs:List Nat}(h:CV w F c v bs)(hc:c.plain):CV w F' c v bs:=by
 cases h with
 | t x v h=>exact .t x v (h.sc hc)
 | nil=>exact .nil
 | ow e sz rows v inner ho hr =>
  exact .ow e sz rows v inner ho ⟨hr.size,hr.len,λi row j x hi hj=>by
   obtain ⟨u,hu,h1,h2⟩:=hr.rd i row j x hi hj;exact ⟨u,hu,h1,h2.sc (hc row (zQY hi) x (zQY hj))⟩⟩
theorem Ps.plain{F F':Nat->Prop}{cs:List C}{vs:List Value}{bs:List Nat}(h:Ps w F cs vs bs)(hc:∀ c∈cs,c.plain):Ps w F' cs vs bs:=by
 induction h with
 | nil=>exact .nil
 | cons c v b cs vs bs h hs ih=>exact .cons c v b cs vs bs (h.plain (hc c kU)) (ih (λc h=>hc c Tz))
mutual
theorem VV.plain{F F':Nat->Prop}:∀ {x:V} {v:Value} {bs:List Nat},VV w F x v bs->x.plain->VV w F' x v bs
 | _,_,_,.one c v bs h,hp=>.one c v bs (h.plain ZT)
 | _,_,_,.agg l vs bs h,hp=>.agg l vs bs (h.plain ZT)
 | _,_,_,.tup l vs bs h,hp=>.tup l vs bs (h.plain ZT)
 | _,_,_,.ptr cells b arr e vs bs h1 h2 h3 h,hp=>by unfold V.plain at hp; exact hp.elim
 | _,_,_,.fptr cells b off u h1 h2 h3,hp=>by unfold V.plain at hp; exact hp.elim
 | _,_,_,.clo f caps vs bs h,hp=>by unfold V.plain at hp; exact hp.elim
theorem Dj.plain{F F':Nat->Prop}:∀ {l:List V} {vs:List Value} {bs:List Nat},Dj w F l vs bs->vZ l->Dj w F' l vs bs
 | _,_,_,.nil,hp=>.nil
 | _,_,_,.cons x v b l vs bs h hs,hp=>.cons x v b l vs bs (h.plain (by unfold vZ at hp; exact hp.1)) (hs.plain (by unfold vZ at hp; exact hp.2))
end
theorem RV{n d f:Nat}{o:Oper}{xf:Operand}{args:Array Operand}{ts:Array TypeId}{caps ln:List A}{vs:List V}{res:V}{x:A}
  (hS:uU E g n st a w) (ho:o.op=.call { callee:=.value xf,args,argTypes:=ts }) (hf:st.eval xf=some (.clo f caps)) (has:ef (args.toList.map st.eval)=some ln)
  (hp:(eZ (ln++caps) MA.ret).run st=some (vs,st)) (hc:av P f vs res []) (hpl:res.plain) (hr:(V.toA d (iP d 0) res MA.ret).run st=some (x,st')) :
  Aw P o a w λv w'=>∃ g',zu E g st w x st' v g' w':=by
 have hM:=hS.mem;obtain ⟨hcl,hcc⟩:=hc;have hvf:=b9 hS hf;generalize hvv:a.eval xf=vf at hvf
 cases hvf with
 | clo f caps vcaps hl hx =>
  refine mJ ho hvv hcl ?_;obtain ⟨ha1,ha2⟩:=Ch hS has;obtain ⟨cs,h1,hVV⟩:=wU (vs:=args.toList.map a.eval++vcaps) (ln++caps) hM Yt (λj y hj=>by
   rw [zWK] at hj
   split at hj
   ·rename_i hlt;have hlt':j < (args.toList.map a.eval).length:=by rw [<- ha1]; exact hlt
    exact ⟨_,by rw [zQQ hlt']; exact sX hlt',ha2 j y _ hj (sX hlt')⟩
   ·rename_i hge;have hlt:j - ln.length < vcaps.length:=by rw [<- hl]; exact (sr.1 hj).1
    exact ⟨_,by rw [r0 WV,<- ha1]; exact sX hlt,hx _ y _ hj (sX hlt)⟩) hp
  obtain ⟨rfl,_⟩:=gZ h1;refine (hcc w (g.all st) _ [] (λb hb=>?_) hVV List.nodup_nil kU (hM.tbW λb _ _ _ h=>by cases h)).mono λe w' ⟨v,F',bv,bo,he,hcalm,hsame,hFF,hF',hvr,hO,hnd,hex⟩=>⟨v,he,?_⟩
  ·exact hM.all_lt hb
  obtain ⟨hM2,hE2⟩:=hM.grow hcalm (λb hb=>hsame b hb kU);have hbv:∀ b∈bv,w.heap.size<=b:=λb hb=>((hex b (by simp [hb])).2).resolve_right kU;obtain ⟨x',st3,g3,hG,h7,hvx⟩:=zx (w:=w') res hM2 (hvr.plain (F':=g.F) hpl) (List.nodup_append.1 hnd).1 (λb hb=>by
   obtain ⟨h8,h9,h10⟩:=vY hM (hbv b hb);exact ⟨h8,h9,h10,.inl (zXw hM.sizes (hbv b hb))⟩) hr
  obtain ⟨rfl,rfl⟩:=gZ h7;exact ⟨g3,hG.mem,hvx,hE2.trans hG.ext,hG.tm⟩
def uE(P:Program)(f:FuncId)(args:List V)(off:Nat)(outs:List (List C)):Prop :=
 tM P f/\∀ (w:World) (F:Nat->Prop) (vs:List Value) (bs:List Nat),(∀ b,F b->b < w.heap.size)->Dj w F args vs bs->bs.Nodup->(∀ b∈bs,¬ F b)->RG P w (λb=>b∈bs) ->
  Calls P f vs.toArray w λe w'=>∃ v F' bo b0,e=.returned v/\vs.head?=some (.pointer (some ⟨b0,0,none⟩))/\v=.pointer (some ⟨b0,off,none⟩)/\rc w w'/\(∀ b,b < w.heap.size->b∉bs->w'.heap[b]?=w.heap[b]?)/\(∀ b,F b->F' b) /\
   (∀ b,F' b->b < w'.heap.size/\(b < w.heap.size->F b\/b∈bs)/\(F b\/Wr w' b))/\sB w' F' args vs outs bo/\bo.Nodup/\∀ b∈bo,¬ F' b/\(w.heap.size<=b\/b∈bs)
theorem RW{n d f:Nat}{m:Bool}{p:Nat->Bool}{o:Oper}{xf:Operand}{args:Array Operand}{ts:Array TypeId}{caps ln:List A}{vs:List V}{st1:St}{outs:List (List C)}{x:A}{s off:Nat}
  (hS:uU E g n st a w) (ho:o.op=.call { callee:=.value xf,args,argTypes:=ts }) (hf:st.eval xf=some (.clo f caps)) (has:ef (args.toList.map st.eval)=some ln)
  (hp:(kf m p (ln++caps) MA.ret).run st=some (vs,st1)) (hc:uE P f vs off outs) (hhd:(ln++caps).head?=some (.obj s 0)) (hr:(fa d (fL (ln++caps)) outs (MA.ret (.obj s off))).run st1=some (x,st')) :
  Aw P o a w λv w'=>∃ g',zu E g st w x st' v g' w':=by
 have hM:=hS.mem;obtain ⟨hcl,hcc⟩:=hc;have hvf:=b9 hS hf;generalize hvv:a.eval xf=vf at hvf
 cases hvf with
 | clo f caps vcaps hl hx =>
  refine mJ ho hvv hcl ?_;obtain ⟨ha1,ha2⟩:=Ch hS has;have hus:∀ (j:Nat) (y:A),(ln++caps)[j]?=some y->∃ v,(args.toList.map a.eval++vcaps)[j]?=some v/\VR w g st.O st.R y v:=by
   intro j y hj;rw [zWK] at hj
   split at hj
   ·rename_i hlt;have hlt':j < (args.toList.map a.eval).length:=by rw [<- ha1]; exact hlt
    exact ⟨_,by rw [zQQ hlt']; exact sX hlt',ha2 j y _ hj (sX hlt')⟩
   ·rename_i hge;have hlt:j - ln.length < vcaps.length:=by rw [<- hl]; exact (sr.1 hj).1
    exact ⟨_,by rw [r0 WV,<- ha1]; exact sX hlt,hx _ y _ hj (sX hlt)⟩
  obtain ⟨cs,st1',g1,bs,hM1,hE1,hL1,h1,hVV,hT,hA,hsl⟩:=zw (vs:=args.toList.map a.eval++vcaps) (ln++caps) hM Yt hus hp;obtain ⟨rfl,rfl⟩:=gZ h1;have hbsX:∀ b∈bs,b < E.w0.heap.size->E.X b:=λb hb hlt=>by
   rcases hT.of b hb with ⟨r,h2,_,h4⟩ | ⟨s,⟨c,cs,h2⟩,_,h4⟩
   ·rcases (hM.row_nf h2 h4).2 with h5 | h5
    ·omega
    ·exact h5
   ·rcases (hM.ob_nf (s:=s) Qi).2 with h5 | h5
    ·omega
    ·exact h4 ▸ h5
  refine (hcc w g1.F _ bs (λb hb=>(hM1.F b hb).1) hVV hT.nodup hT.nf (hM.tbW λb h1 h2 _ h3=>h2 (hbsX b h3 h1))).mono λe w' ⟨v,F',bo,b0,he,hhead,hveq,hcalm,hsame,hFF,hF',hO,hnd0,hex0⟩=>⟨v,he,?_⟩;obtain ⟨bv,hbv⟩:∃ bv:List Nat,bv=[]:=⟨[],rfl⟩;have hnd:(bv++bo).Nodup:=by rw [hbv]; exact hnd0
  have hex:∀ b∈bv++bo,¬ F' b/\(w.heap.size<=b\/b∈bs):=by rw [hbv]; exact hex0
  -- the caller's memory behind the call
  have hbsrow:∀ b∈bs,∀ r,st1.L r->(g1.rw r).ownBlock≠some b:=λb hb r hr he=>by
   rw [hL1.rw] at he;rcases hT.of b hb with ⟨r',h2,h3,h4⟩ | ⟨s,⟨c,cs,h2⟩,_,h4⟩
   ·exact h3 (hM.rowne r r' b (hL1.L r hr) h2 he h4 ▸ hr)
   ·exact hM.rowob r s (hL1.L r hr) Qi (h4 ▸ he)
  have hbsob:∀ b∈bs,∀ s,st1.O s->g1.ob s=b->st1.ob s=some []/\s∈fL (ln++caps):=λb hb s hs he=>by
   rw [hL1.ob] at he;have hs':st.O s:=(hL1.O s).1 hs;rcases hT.of b hb with ⟨r',h2,h3,h4⟩ | ⟨s',⟨c,cs,h2⟩,h3,h4⟩
   ·exact absurd (he ▸ h4) (hM.rowob r' s h2 hs')
   ·have:=hM.obne s s' hs' Qi (he.trans h4.symm);subst this;exact ⟨h3,hsl s (by rw [h3,h2]; simp)⟩
  have hF0:∀ b,b < w.heap.size->F' b->g1.F b\/b∈bs:=λb h2 h3=>(hF' b h3).2.1 h2;have hA1:tN g1 (ln++caps) vs (args.toList.map a.eval++vcaps):=hA.congr' hL1.ob;have hexF:∀ b∈bs,F' b->False\/True:=λ_ _ _=>.inr trivial;have hlentF:∀ s,s∈fL (ln++caps)->g1.ob s∈bo:=sB.mem hA1 hO;obtain ⟨hM2,hE2⟩:=hM1.step (w':=w') (g':={ g1 with F:=F' }) (st':=st1) hcalm (λb=>b∈bs) (λb h2 h3=>hsame b h2 h3) (λb hb=>hT.nf b hb) (λb h2 h3=>hbsX b h3 h2) hFF
   (λb h2 h3=>⟨(hF' b h2).1,λhlt=>(hF0 b (zWV hlt hM1.sizes) h2).elim (λh4=>absurd h4 h3) (λh4=>.inr (hbsX b h4 hlt)),.inr ((hF' b h2).2.2.resolve_left h3)⟩) (λ_ h=>⟨h,rfl⟩) (λ_ h=>⟨h,rfl⟩)
   (λs cells hs=>by
    have hOs:st1.O s:=by simp [St.O,hs]
    by_cases hb:g1.ob s∈bs
    ·obtain ⟨h5,h6⟩:=hbsob _ hb s hOs rfl;rw [hs] at h5
     cases h5
     obtain ⟨arr,e,hh⟩:=Ja hA1 hO s h6;refine .inr ⟨arr,e,hh,by simp,by simp,?_,(hM1.ob_nf hOs).2⟩;exact (hex _ (An.2 (.inr (hlentF s h6)))).1
    ·refine .inl ⟨hs,hb,λhf=>?_⟩;rcases hF0 _ (hM1.ob_lt hOs) hf with h5 | h5
     ·exact (hM1.ob_nf hOs).1 h5
     ·exact hb h5) hM1.obne
   (λr x hr=>.inl ⟨hr,λhL b hb=>⟨λhm=>hbsrow b hm r hL hb,λhf=>by
    rcases hF0 b (hM1.row_lt hL hb) hf with h5 | h5
    ·exact (hM1.row_nf hL hb).1 h5
    ·exact hbsrow b h5 r hL hb⟩⟩) hM1.rowne hM1.rowob
  have hI:Inv E { g1 with F:=F' } st1 (fL (ln++caps)) (bo++bv):=by
   have hm:∀ x,x∈bo++bv->x∈bv++bo:=λx hx=>by
    rcases An.1 hx with h | h <;> simp [h]
   refine ⟨?_,λb hb=>(hex b (hm b hb)).1,λb hb=>?_,λb hb r hr he=>?_,λb hb s hs he=>?_⟩
   ·rw [zXk] at hnd ⊢;exact ⟨hnd.2.1,hnd.1,λx hx y hy h=>hnd.2.2 y hy x hx h.symm⟩
   ·rcases (hex b (hm b hb)).2 with h5 | h5
    ·exact .inl (zXw hM1.sizes h5)
    ·by_cases hlt:b < E.w0.heap.size
     ·exact .inr (hbsX b h5 hlt)
     ·exact .inl ak
   ·rcases (hex b (hm b hb)).2 with h5 | h5
    ·exact absurd (hM1.row_lt hr he) ak
    ·exact hbsrow b h5 r hr he
   ·rcases (hex b (hm b hb)).2 with h5 | h5
    ·exact absurd (hM1.ob_lt hs) ZS
    ·exact (hbsob b h5 s hs he).2
  have hA2:tN { g1 with F:=F' } (ln++caps) vs (args.toList.map a.eval++vcaps):=hA1.congr' (g:=g1) (g1:={ g1 with F:=F' }) rfl;obtain ⟨st2,g2,hM3,hE3,hF3,ht3,h6,hI3⟩:=wa (w:=w') hM2 hA2 hO hI hr;obtain ⟨rfl,rfl⟩:=gZ h6;have hext:=(hE1.trans hE2).trans hE3;have hobj:st.O s/\(args.toList.map a.eval++vcaps)[0]?=some (.pointer (some ⟨g.ob s,0,none⟩)):=by
   obtain ⟨u,hu1,hu2⟩:=hus 0 (.obj s 0) (by rw [<- zVV]; exact hhd)
   cases hu2 with
   | obj _ _ hs=>exact ⟨hs,hu1⟩
  have hb0:g.ob s=b0:=by
   rw [zVV,hobj.2] at hhead;injection hhead with h; injection h with h; injection h with h; injection h
  obtain ⟨hO2,hob2⟩:=hext.O s hobj.1;refine ⟨g2,hM3,?_,hext,ht3.trans hL1.tm⟩;rw [hveq,<- hb0,<- hob2];exact .obj s off hO2
def oY(P:Program)(f:FuncId)(args:List V)(res:V):Prop :=
 tM P f/\∀ (w:World) (D:Nat->Prop) (vs:List Value),(∀ b,D b->b < w.heap.size)->Dj w D args vs []->RG P w (λ_=>False) ->
  Calls P f vs.toArray w λe w'=>∃ v F' bv,e=.returned v/\rc w w'/\(∀ b,b < w.heap.size->w'.heap[b]?=w.heap[b]?) /\
   (∀ b,F' b->b < w'.heap.size/\w.heap.size<=b/\Wr w' b)/\VV w' F' res v bv/\bv.Nodup/\∀ b∈bv,¬ F' b/\w.heap.size<=b
theorem RX{n d f:Nat}{o:Oper}{xf:Operand}{args:Array Operand}{ts:Array TypeId}{caps ln:List A}{vs:List V}{res:V}{x:A}
  (hS:uU E g n st a w) (ho:o.op=.call { callee:=.value xf,args,argTypes:=ts }) (hf:st.eval xf=some (.clo f caps)) (has:ef (args.toList.map st.eval)=some ln)
  (hp:(eZ (ln++caps) MA.ret).run st=some (vs,st)) (hc:oY P f vs res) (hr:(V.toA d (iP d 0) res MA.ret).run st=some (x,st')) :
  Aw P o a w λv w'=>∃ g',zu E g st w x st' v g' w':=by
 have hM:=hS.mem;obtain ⟨hcl,hcc⟩:=hc;have hvf:=b9 hS hf;generalize hvv:a.eval xf=vf at hvf
 cases hvf with
 | clo f caps vcaps hl hx =>
  refine mJ ho hvv hcl ?_;obtain ⟨ha1,ha2⟩:=Ch hS has;obtain ⟨cs,h1,hVV⟩:=wU (vs:=args.toList.map a.eval++vcaps) (ln++caps) hM Yt (λj y hj=>by
   rw [zWK] at hj
   split at hj
   ·rename_i hlt;have hlt':j < (args.toList.map a.eval).length:=by rw [<- ha1]; exact hlt
    exact ⟨_,by rw [zQQ hlt']; exact sX hlt',ha2 j y _ hj (sX hlt')⟩
   ·rename_i hge;have hlt:j - ln.length < vcaps.length:=by rw [<- hl]; exact (sr.1 hj).1
    exact ⟨_,by rw [r0 WV,<- ha1]; exact sX hlt,hx _ y _ hj (sX hlt)⟩) hp
  obtain ⟨rfl,_⟩:=gZ h1;refine (hcc w (g.all st) _ (λb hb=>hM.all_lt hb) hVV (hM.tbW λ_ _ _ _ h=>h)).mono λe w' ⟨v,F',bv,he,hcalm,hsame,hF',hvr,hnd,hex⟩=>⟨v,he,?_⟩;obtain ⟨hM2,hE2⟩:=hM.step (w':=w') (g':={ g with F:=λb=>g.F b\/F' b }) (st':=st) hcalm (λ_=>False) (λb h1 _=>hsame b h1) (λ_ h=>h.elim) (λ_ _ h=>h.elim) (λ_ h=>.inl h)
   (λb h1 h2=>by
    obtain ⟨h3,h4,h5⟩:=hF' b (h1.resolve_left h2);exact ⟨h3,λhlt=>(by have:=hM.sizes; omega),.inr h5⟩) (λ_ h=>⟨h,rfl⟩) (λ_ h=>⟨h,rfl⟩)
   (λs cells hs=>.inl ⟨hs,id,λhf=>by
    have hs':st.O s:=by simp [St.O,hs]
    rcases hf with hf | hf
    ·exact (hM.ob_nf hs').1 hf
    ·have:=hM.ob_lt hs'; have:=(hF' _ hf).2.1; omega⟩) hM.obne
   (λr x hr=>.inl ⟨hr,λhL b hb'=>⟨id,λhf=>by
    rcases hf with hf | hf
    ·exact (hM.row_nf hL hb').1 hf
    ·have:=hM.row_lt hL hb'; have:=(hF' _ hf).2.1; omega⟩⟩) hM.rowne hM.rowob
  obtain ⟨x',st3,g3,hG,h7,hvx⟩:=zx (w:=w') res hM2 (hvr.mono (λ_ _=>rfl) (λ_ h=>.inr h) (λ_ _=>rfl)) hnd (λb hb=>by
   obtain ⟨h8,h9,h10⟩:=vY hM (hex b hb).2;exact ⟨λh=>h.elim h8 (hex b hb).1,h9,h10,.inl (zXw hM.sizes (hex b hb).2)⟩) hr
  obtain ⟨rfl,rfl⟩:=gZ h7;exact ⟨g3,hG.mem,hvx,hE2.trans hG.ext,hG.tm⟩
def K4:Nat->Prop:=λ_=>False
def gM(w:World)(D:Nat->Prop):Gh:={ F:=K4,ob:=λ_=>0,rw:=λ_=>.nilFunc,D:=D,dw:=w,sh:=true }
def A.mk1:A->Bool
 | .t x=>x.sc
 | .ext true _=>true
 | .undef=>true
 | _=>false
def A.mk:A->Bool
 | .agg l=>l.all A.mk1
 | a=>a.mk1
def A.isX:A->Bool
 | .ext true _=>true
 | _=>false
def A.hasX:A->Bool
 | .agg l=>l.any A.isX
 | a=>a.isX
def MOK(P:Program)(f:FuncId)(ln:List A)(n:T):Prop :=
 n.sc=true/\tM P f/\∀ (w:World) (D:Nat->Prop) (vs:List Value),(∀ b,D b->b < w.heap.size/\Wr w b)->vs.length=ln.length ->
  (∀ (j:Nat) (x:A),ln[j]?=some x->∃ u,vs[j]?=some u/\VR w (gM w D) K4 K4 x u)->RG P w D ->
  Calls P f vs.toArray w λe w'=>∃ v,e=.returned v/\Rd w' K4 n v/\rc w w'/\(∀ b,b < w.heap.size->¬ D b->w'.heap[b]?=w.heap[b]?)/\∀ b,D b->KS w w' b
theorem W7{O R:Nat->Prop}{x:A}{v:Value}(hM:gG E g st w)(hs:g.sh=true)(h:VR w g O R x v)(hk:x.mk1=true):VR w (gM w g.D) K4 K4 x v:=by
 cases h with
 | t x v h=>exact .t x v (h.sc hk)
 | ext s x v hs' h =>
  rw [hs] at hs';subst hs';exact .ext true x v rfl (h.ks λb hb=>hM.nowK hs hb)
 | undef v=>exact .undef v
 | _=>simp [A.mk1] at hk
theorem qaJ{O R:Nat->Prop}{x:A}{v:Value}(hM:gG E g st w)(hs:g.sh=true)(h:VR w g O R x v)(hk:x.mk=true):VR w (gM w g.D) K4 K4 x v:=by
 cases x with
 | agg l =>
  cases h with
  | agg l vs hl h=>exact .agg l vs hl λi x v hi hv=>W7 hM hs (h i x v hi hv) (KB.1 hk x (zQY hi))
 | _=>exact W7 hM hs h hk
theorem YH{O R:Nat->Prop}{x:A}{v:Value}(h:VR w g O R x v)(hk:x.hasX=true):g.sh=true:=by
 have key:∀ {x:A} {v:Value},VR w g O R x v->x.isX=true->g.sh=true:=by
  intro x v h hk
  cases h with
  | ext s x v hs' h=>cases s with
   | true=>exact hs'
   | false=>cases hk
  | _=>cases hk
 cases x with
 | agg l =>
  cases h with
  | agg l vs hl h =>
   obtain ⟨x,hx,hk⟩:=List.any_eq_true.1 hk;obtain ⟨i,hi⟩:=zYv hx;have hlt:i < vs.length:=by rw [<- hl]; exact (sr.1 hi).1
   exact key (h i x _ hi (sX hlt)) hk
 | _=>exact key h hk
theorem RY{n f:Nat}{o:Oper}{xf:Operand}{args:Array Operand}{ts:Array TypeId}{ln:List A}{r:T}
  (hS:uU E g n st a w) (ho:o.op=.call { callee:=.value xf,args,argTypes:=ts }) (hf:st.eval xf=some (.clo f [])) (has:ef (args.toList.map st.eval)=some ln)
  (hk:ln.all A.mk=true) (hx:ln.any A.hasX=true) (hc:MOK P f ln r):Aw P o a w λv w'=>∃ g',zu E g st w (.t r) st v g' w':=by
 have hM:=hS.mem;obtain ⟨hsc,hcl,hcc⟩:=hc;have hvf:=b9 hS hf;generalize hvv:a.eval xf=vf at hvf;obtain ⟨ha1,ha2⟩:=Ch hS has;have hsh:g.sh=true:=by
  obtain ⟨x,hxm,hxx⟩:=List.any_eq_true.1 hx;obtain ⟨i,hi⟩:=zYv hxm;have hlt:i < (args.toList.map a.eval).length:=by rw [<- ha1]; exact (sr.1 hi).1
  exact YH (ha2 i x _ hi (sX hlt)) hxx
 cases hvf with
 | clo f caps vcaps hl hx' =>
  have:vcaps=[]:=zQW hl.symm;subst this;refine mJ ho hvv hcl ?_;rw [zWW];refine (hcc w g.D (args.toList.map a.eval) (λb hb=>?_) ha1.symm (λj x hj=>?_) (hM.tbW λb _ _ h h2=>h (by obtain ⟨h5,_,h6⟩:=hM.dep0.1; exact ⟨h6 ▸ hsh,h5 ▸ h2⟩))).mono λe w' ⟨v,he,hr,hcalm,hsame,hks⟩=>⟨v,he,?_⟩
  ·exact ⟨zWV (hM.dep b hb).2.1 hM.sizes,(hM.nowK hsh hb).wr⟩
  ·have hlt:j < (args.toList.map a.eval).length:=by rw [<- ha1]; exact (sr.1 hj).1
   exact ⟨_,sX hlt,qaJ hM hsh (ha2 j x _ hj (sX hlt)) (KB.1 hk x (zQY hj))⟩
  obtain ⟨hM2,hE2⟩:=hM.stepD hsh hcalm hsame hks;exact ⟨g,hM2,.t _ _ (hr.sc hsc),hE2,rfl⟩
def ROK(P:Program)(f:FuncId)(e sz:Nat)(rows:List (List T))(args:List V)(res:T)(rows':List (List T)):Prop :=
 res.sc=true/\tM P f/\∀ (w:World) (F:Nat->Prop) (v:Value) (vs:List Value) (inner:List Value),(∀ b,F b->b < w.heap.size)->w.ownsRow 0 e sz v rows.length inner->xS w F sz rows inner ->
  (∀ b,v.ownBlock=some b->¬ F b)->Dj w F args vs []->RG P w (λb=>v.ownBlock=some b) ->
  Calls P f (v :: vs).toArray w λex w'=>∃ u inner',ex=.returned u/\Rd w' K4 res u/\rc w w'/\(∀ b,b < w.heap.size->v.ownBlock≠some b->w'.heap[b]?=w.heap[b]?) /\
   w'.ownsRow 0 e sz v rows'.length inner'/\xS w' F sz rows' inner'
theorem RZ{n f r e sz:Nat}{rows rows':List (List T)}{o:Oper}{xf:Operand}{args:Array Operand}{ts:Array TypeId}{ln:List A}{vs:List V}{res:T}
  (hS:uU E g n st a w) (ho:o.op=.call { callee:=.value xf,args,argTypes:=ts }) (hf:st.eval xf=some (.clo f [])) (has:ef (args.toList.map st.eval)=some (.own r :: ln))
  (hrw:st.rw r=some (.live e sz rows)) (hp:(eZ ln MA.ret).run st=some (vs,st)) (hpl:vZ vs) (hc:ROK P f e sz rows vs res rows') :
  Aw P o a w λv w'=>∃ g',zu E g st w (.t res) { st with rw:=jr st.rw r (some (.live e sz rows')) } v g' w':=by
 have hM:=hS.mem;obtain ⟨hsc,hcl,hcc⟩:=hc;have hvf:=b9 hS hf;generalize hvv:a.eval xf=vf at hvf;obtain ⟨ha1,ha2⟩:=Ch hS has;have hL:st.L r:=⟨e,sz,rows,hrw⟩
 cases hvf with
 | clo f caps vcaps hl hx' =>
  have:vcaps=[]:=zQW hl.symm;subst this;refine mJ ho hvv hcl ?_;rw [zWW];generalize args.toList.map a.eval=us at ha1 ha2
  match us,ha1 with
  | u0 :: us,ha1 =>
   have h0:=ha2 0 (.own r) u0 rfl rfl
   cases h0 with
   | own _ hR =>
   obtain ⟨cs,h1,hVV⟩:=wU (vs:=us) ln hM (by simpa using ha1.symm) (λj y hj=>by
    have hlt:j < us.length:=by
     have:=(sr.1 hj).1;simp at ha1; omega
    exact ⟨_,sX hlt,ha2 (j+1) y _ WN kU⟩) hp
   obtain ⟨rfl,_⟩:=gZ h1;obtain ⟨inner,hown,hRC,_⟩:=(hM.row r _ hrw).rcs;refine (hcc w g.F (g.rw r) us inner (λb hb=>(hM.F b hb).1) hown hRC (λb hb=>(hM.row_nf hL hb).1) (hVV.plain hpl) (hM.tbW λb h1 h2 _ h3=>(hM.row_nf hL h3).2.elim (λh=>absurd h1 (Nat.not_lt.2 h)) h2)).mono λex w' ⟨u,inner',he,hu,hcalm,hsame,hown',hRC'⟩=>⟨u,he,?_⟩;obtain ⟨hM2,hE2⟩:=hM.set_row hcalm r _ e sz rows' hrw hL hsame (hRC'.rowAt (E:=E) (g:=g) hown' (λb hb=>hM.row_nf hL hb));exact ⟨g,hM2,.t _ _ (hu.sc hsc),hE2,rfl⟩
end
section
variable {P:Program} {E:En} [Tb P E] {g:Gh} {st st':St} {a:Act} {w:World}
def U3(P:Program)(f:FuncId)(args xs:List V)(res:V)(outs:List (List C)):Prop :=
 tM P f/\∀ (w:World) (F D:Nat->Prop) (vs us:List Value) (bs:List Nat),(∀ b,F b->b < w.heap.size)->(∀ b,D b->b < w.heap.size/\b∉bs)->Dj w F args vs bs->Dj w D xs us []->bs.Nodup->(∀ b∈bs,¬ F b)->RG P w (λb=>b∈bs) ->
  Calls P f (vs++us).toArray w λe w'=>∃ v F' bv bo,e=.returned v/\rc w w'/\(∀ b,b < w.heap.size->b∉bs->w'.heap[b]?=w.heap[b]?)/\(∀ b,F b->F' b) /\
   (∀ b,F' b->b < w'.heap.size/\(b < w.heap.size->F b\/b∈bs)/\(F b\/Wr w' b))/\VV w' F' res v bv/\sB w' F' args vs outs bo/\(bv++bo).Nodup/\∀ b∈bv++bo,¬ F' b/\(w.heap.size<=b\/b∈bs)
theorem R0{n d f:Nat}{m:Bool}{p:Nat->Bool}{o:Oper}{xf:Operand}{args:Array Operand}{ts:Array TypeId}{az caps ln xs:List A}{vs us:List V}{st1:St}{res:V}{outs:List (List C)}{x:A}
  (hS:uU E g n st a w) (ho:o.op=.call { callee:=.value xf,args,argTypes:=ts }) (hf:st.eval xf=some (.clo f caps)) (has:ef (args.toList.map st.eval)=some az) (hcat:az++caps=ln++xs)
  (hp:(kf m p ln MA.ret).run st=some (vs,st1)) (hq:(eZ xs MA.ret).run st1=some (us,st1)) (hc:U3 P f vs us res outs) (hr:(fa d (fL ln) outs (V.toA d (iP d 0) res MA.ret)).run st1=some (x,st')) :
  Aw P o a w λv w'=>∃ g',zu E g st w x st' v g' w':=by
 have hM:=hS.mem;obtain ⟨hcl,hcc⟩:=hc;have hvf:=b9 hS hf;generalize hvv:a.eval xf=vf at hvf
 cases hvf with
 | clo f caps vcaps hl hx =>
  refine mJ ho hvv hcl ?_;obtain ⟨ha1,ha2⟩:=Ch hS has;generalize hval:args.toList.map a.eval++vcaps=vals;have hv:∀ (j:Nat) (y:A),(ln++xs)[j]?=some y->∃ u,vals[j]?=some u/\VR w g st.O st.R y u:=λj y hj=>by
   rw [<- hcat,zWK] at hj;rw [<- hval]
   split at hj
   ·rename_i hlt;have hlt':j < (args.toList.map a.eval).length:=by rw [<- ha1]; exact hlt
    exact ⟨_,by rw [zQQ hlt']; exact sX hlt',ha2 j y _ hj (sX hlt')⟩
   ·rename_i hge;have hlt:j - az.length < vcaps.length:=by rw [<- hl]; exact (sr.1 hj).1
    exact ⟨_,by rw [r0 WV,<- ha1]; exact sX hlt,hx _ y _ hj (sX hlt)⟩
  have hvl:vals.length=ln.length+xs.length:=by
   rw [<- hval,zQG,<- ha1,<- hl,<- zQG,hcat,zQG]
  rw [<- zXv ln.length vals];obtain ⟨cs,st1',g1,bs,hM1,hE1,hL1,h1,hVV,hT,hA,hsl⟩:=zw (vs:=vals.take ln.length) ln hM (by simp [hvl]) (λj y hj=>by
   have hlt:j < ln.length:=(sr.1 hj).1;obtain ⟨u,h5,h6⟩:=hv j y (by rw [zQQ hlt]; exact hj);exact ⟨u,by rw [zQK,if_pos hlt]; exact h5,h6⟩) hp
  obtain ⟨rfl,rfl⟩:=gZ h1;have hbsX:∀ b∈bs,b < E.w0.heap.size->E.X b:=λb hb hlt=>by
   rcases hT.of b hb with ⟨r,h2,_,h4⟩ | ⟨s,⟨c,cs,h2⟩,_,h4⟩
   ·rcases (hM.row_nf h2 h4).2 with h5 | h5
    ·omega
    ·exact h5
   ·rcases (hM.ob_nf (s:=s) Qi).2 with h5 | h5
    ·omega
    ·exact h4 ▸ h5
  have hbsrow:∀ b∈bs,∀ r,st1.L r->(g1.rw r).ownBlock≠some b:=λb hb r hr he=>by
   rw [hL1.rw] at he;rcases hT.of b hb with ⟨r',h2,h3,h4⟩ | ⟨s,⟨c,cs,h2⟩,_,h4⟩
   ·exact h3 (hM.rowne r r' b (hL1.L r hr) h2 he h4 ▸ hr)
   ·exact hM.rowob r s (hL1.L r hr) Qi (h4 ▸ he)
  have hbsob:∀ b∈bs,∀ s,st1.O s->g1.ob s=b->st1.ob s=some []/\s∈fL ln:=λb hb s hs he=>by
   rw [hL1.ob] at he;have hs':st.O s:=(hL1.O s).1 hs;rcases hT.of b hb with ⟨r',h2,h3,h4⟩ | ⟨s',⟨c,cs,h2⟩,h3,h4⟩
   ·exact absurd (he ▸ h4) (hM.rowob r' s h2 hs')
   ·have:=hM.obne s s' hs' Qi (he.trans h4.symm);subst this;exact ⟨h3,hsl s (by rw [h3,h2]; simp)⟩
  obtain ⟨us',h9,hUU⟩:=wU (vs:=vals.drop ln.length) xs hM1 (by simp [hvl]) (λj y hj=>by
   obtain ⟨u,h5,h6⟩:=hv (ln.length+j) y (by rw [r0 ak]; simpa using hj);exact ⟨u,by rw [zQJ]; exact h5,h6.mono hE1⟩) hq
  obtain ⟨rfl,_⟩:=gZ h9;have hall:∀ b,g1.all st1 b->b < w.heap.size/\b∉bs:=λb hb=>⟨hM1.all_lt hb,λhbs=>by
   rcases hb with h5 | ⟨r,h5,h6⟩ | ⟨_,h5⟩
   ·exact hT.nf b hbs h5
   ·exact hbsrow b hbs r h5 h6
   ·obtain ⟨_,h6,h7,_⟩:=hM1.dep b h5;exact h7 (hbsX b hbs h6)⟩
  refine (hcc w g1.F (g1.all st1) _ _ bs (λb hb=>(hM1.F b hb).1) hall hVV hUU hT.nodup hT.nf (hM.tbW λb h1 h2 _ h3=>h2 (hbsX b h3 h1))).mono λe w' ⟨v,F',bv,bo,he,hcalm,hsame,hFF,hF',hvr,hO,hnd,hex⟩=>⟨v,he,?_⟩
  -- the caller's memory behind the call
  have hF0:∀ b,b < w.heap.size->F' b->g1.F b\/b∈bs:=λb h2 h3=>(hF' b h3).2.1 h2;have hA1:tN g1 ln vs (vals.take ln.length):=hA.congr' hL1.ob;have hexF:∀ b∈bs,F' b->False\/True:=λ_ _ _=>.inr trivial;have hlentF:∀ s,s∈fL ln->g1.ob s∈bo:=sB.mem hA1 hO;obtain ⟨hM2,hE2⟩:=hM1.step (w':=w') (g':={ g1 with F:=F' }) (st':=st1) hcalm (λb=>b∈bs) (λb h2 h3=>hsame b h2 h3) (λb hb=>hT.nf b hb) (λb h2 h3=>hbsX b h3 h2) hFF
   (λb h2 h3=>⟨(hF' b h2).1,λhlt=>(hF0 b (zWV hlt hM1.sizes) h2).elim (λh4=>absurd h4 h3) (λh4=>.inr (hbsX b h4 hlt)),.inr ((hF' b h2).2.2.resolve_left h3)⟩) (λ_ h=>⟨h,rfl⟩) (λ_ h=>⟨h,rfl⟩)
   (λs cells hs=>by
    have hOs:st1.O s:=by simp [St.O,hs]
    by_cases hb:g1.ob s∈bs
    ·obtain ⟨h5,h6⟩:=hbsob _ hb s hOs rfl;rw [hs] at h5
     cases h5
     obtain ⟨arr,e,hh⟩:=Ja hA1 hO s h6;refine .inr ⟨arr,e,hh,by simp,by simp,?_,(hM1.ob_nf hOs).2⟩;exact (hex _ (An.2 (.inr (hlentF s h6)))).1
    ·refine .inl ⟨hs,hb,λhf=>?_⟩;rcases hF0 _ (hM1.ob_lt hOs) hf with h5 | h5
     ·exact (hM1.ob_nf hOs).1 h5
     ·exact hb h5) hM1.obne
   (λr x hr=>.inl ⟨hr,λhL b hb=>⟨λhm=>hbsrow b hm r hL hb,λhf=>by
    rcases hF0 b (hM1.row_lt hL hb) hf with h5 | h5
    ·exact (hM1.row_nf hL hb).1 h5
    ·exact hbsrow b h5 r hL hb⟩⟩) hM1.rowne hM1.rowob
  have hI:Inv E { g1 with F:=F' } st1 (fL ln) (bo++bv):=by
   have hm:∀ x,x∈bo++bv->x∈bv++bo:=λx hx=>by
    rcases An.1 hx with h | h <;> simp [h]
   refine ⟨?_,λb hb=>(hex b (hm b hb)).1,λb hb=>?_,λb hb r hr he=>?_,λb hb s hs he=>?_⟩
   ·rw [zXk] at hnd ⊢;exact ⟨hnd.2.1,hnd.1,λx hx y hy h=>hnd.2.2 y hy x hx h.symm⟩
   ·rcases (hex b (hm b hb)).2 with h5 | h5
    ·exact .inl (zXw hM1.sizes h5)
    ·by_cases hlt:b < E.w0.heap.size
     ·exact .inr (hbsX b h5 hlt)
     ·exact .inl ak
   ·rcases (hex b (hm b hb)).2 with h5 | h5
    ·exact absurd (hM1.row_lt hr he) ak
    ·exact hbsrow b h5 r hr he
   ·rcases (hex b (hm b hb)).2 with h5 | h5
    ·exact absurd (hM1.ob_lt hs) ZS
    ·exact (hbsob b h5 s hs he).2
  have hA2:tN { g1 with F:=F' } ln vs (vals.take ln.length):=hA1.congr' (g:=g1) (g1:={ g1 with F:=F' }) rfl;obtain ⟨st2,g2,hM3,hE3,hF3,ht3,h6,hI3⟩:=wa (w:=w') hM2 hA2 hO hI hr;obtain ⟨x',st3,g3,hG,h7,hvx⟩:=zx (w:=w') res hM3 (by rw [hF3]; exact hvr) hI3.nodup (λb hb=>⟨hI3.F b hb,λs hs he=>by have:=hI3.ob b hb s hs he; simp at this,hI3.row b hb,hI3.X b hb⟩) h6;obtain ⟨rfl,rfl⟩:=gZ h7;exact ⟨g3,hG.mem,hvx,((hE1.trans hE2).trans hE3).trans hG.ext,hG.tm.trans (ht3.trans hL1.tm)⟩
end
def A.tC:A->Option C
 | .t x=>some (.t x)
 | _=>none
def Px:List A->Option (List C)
 | []=>some []
 | a :: r=>match a.tC,Px r with | some c,some cs=>some (c :: cs) | _,_=>none
def A.tV:A->Option V
 | .t x=>some (.one (.t x))
 | .agg l=>(Px l).map .agg
 | _=>none
def Fu:List A->Option (List V)
 | []=>some []
 | a :: r=>match a.tV,Fu r with | some c,some cs=>some (c :: cs) | _,_=>none
section
variable {w:World} {g:Gh} {O R:Nat->Prop}
theorem qaK{a:A}{c:C}{u:Value}(h:a.tC=some c)(hv:VR w g O R a u):CV w g.F c u []:=by
 cases a <;> simp only [A.tC,Option.some.injEq,reduceCtorEq] at h
 subst h
 cases hv with
 | t _ _ h=>exact .t _ _ h
theorem W8:∀ {l:List A} {cs:List C} {us:List Value},Px l=some cs->l.length=us.length->(∀ (j:Nat) (x:A) (u:Value),l[j]?=some x->us[j]?=some u->VR w g O R x u)->Ps w g.F cs us []
 | [],cs,us,h,hl,_=>by
  cases h
  have:us=[]:=zQW hl.symm;subst this;exact .nil
 | a :: l,cs,us,h,hl,hv=>by
  unfold Px at h
  split at h
  ·rename_i c cs' h1 h2
   cases h
   cases us with
   | nil=>simp at hl
   | cons u us =>
    exact .cons c u [] cs' us [] (qaK h1 (hv 0 a u rfl rfl)) (W8 h2 Tw λj x u h3 h4=>hv (j+1) x u Yu (by simpa using h4))
  ·cases h
theorem qaL{a:A}{c:V}{u:Value}(h:a.tV=some c)(hv:VR w g O R a u):VV w g.F c u []:=by
 cases a <;> simp only [A.tV,Option.some.injEq,zWj,reduceCtorEq] at h
 ·subst h
  cases hv with
  | t _ _ h=>exact .one _ _ [] (.t _ _ h)
 ·obtain ⟨cs,h1,rfl⟩:=h
  cases hv with
  | agg l vs hl hx=>exact .agg cs vs [] (W8 h1 hl hx)
theorem W9:∀ {l:List A} {cs:List V} {us:List Value},Fu l=some cs->l.length=us.length->(∀ (j:Nat) (x:A) (u:Value),l[j]?=some x->us[j]?=some u->VR w g O R x u)->Dj w g.F cs us []
 | [],cs,us,h,hl,_=>by
  cases h
  have:us=[]:=zQW hl.symm;subst this;exact .nil
 | a :: l,cs,us,h,hl,hv=>by
  unfold Fu at h
  split at h
  ·rename_i c cs' h1 h2
   cases h
   cases us with
   | nil=>simp at hl
   | cons u us =>
    exact .cons c u [] cs' us [] (qaL h1 (hv 0 a u rfl rfl)) (W9 h2 Tw λj x u h3 h4=>hv (j+1) x u Yu (by simpa using h4))
  ·cases h
theorem ZH{a:A}{c:C}{u:Value}{bs:List Nat}(h:a.tC=some c)(hv:CV w g.F c u bs):VR w g O R a u:=by
 cases a <;> simp only [A.tC,Option.some.injEq,reduceCtorEq] at h
 subst h
 cases hv with
 | t _ _ h=>exact .t _ _ h
theorem Xa:∀ {l:List A} {cs:List C} {us:List Value} {bs:List Nat},Px l=some cs->Ps w g.F cs us bs->l.length=us.length/\∀ (j:Nat) (x:A) (u:Value),l[j]?=some x->us[j]?=some u->VR w g O R x u
 | [],cs,us,bs,h,hv=>by
  cases h
  cases hv
  exact ⟨rfl,λj x u h=>by simp at h⟩
 | a :: l,cs,us,bs,h,hv=>by
  unfold Px at h
  split at h
  ·rename_i c cs' h1 h2
   cases h
   cases hv with
   | cons _ u b _ us bs h3 h4 =>
    obtain ⟨h5,h6⟩:=Xa h2 h4;refine ⟨by simp [h5],λj x u' h7 h8=>?_⟩
    cases j with
    | zero=>simp at h7 h8; subst h7 h8; exact ZH h1 h3
    | succ j=>exact h6 j x u' (by simpa using h7) (by simpa using h8)
  ·cases h
theorem qaM{a:A}{c:V}{u:Value}{bs:List Nat}(h:a.tV=some c)(hv:VV w g.F c u bs):VR w g O R a u:=by
 cases a <;> simp only [A.tV,Option.some.injEq,zWj,reduceCtorEq] at h
 ·subst h
  cases hv with
  | one _ v _ h=>exact ZH rfl h
 ·obtain ⟨cs,h1,rfl⟩:=h
  cases hv with
  | agg _ vs _ h =>
   obtain ⟨h2,h3⟩:=Xa (O:=O) (R:=R) h1 h;exact .agg _ vs h2 h3
theorem Xb:∀ {l:List A} {cs:List V} {us:List Value} {bs:List Nat},Fu l=some cs->Dj w g.F cs us bs->l.length=us.length/\∀ (j:Nat) (x:A) (u:Value),l[j]?=some x->us[j]?=some u->VR w g O R x u
 | [],cs,us,bs,h,hv=>by
  cases h
  cases hv
  exact ⟨rfl,λj x u h=>by simp at h⟩
 | a :: l,cs,us,bs,h,hv=>by
  unfold Fu at h
  split at h
  ·rename_i c cs' h1 h2
   cases h
   cases hv with
   | cons _ u b _ us bs h3 h4 =>
    obtain ⟨h5,h6⟩:=Xb h2 h4;refine ⟨by simp [h5],λj x u' h7 h8=>?_⟩
    cases j with
    | zero=>simp at h7 h8; subst h7 h8; exact qaM h1 h3
    | succ j=>exact h6 j x u' (by simpa using h7) (by simpa using h8)
  ·cases h
end
section
variable {P:Program} {E:En} [Tb P E] {g:Gh} {st st':St} {a:Act} {w:World}
def Kl(P:Program)(f:FuncId)(e:TypeId)(ts:List T)(rows:List (List T))(args:List V)(lo m:Nat):Prop :=
 tM P f/\∀ (w:World) (F:Nat->Prop) (v:Value) (us vs inner:List Value),(∀ b,F b->b < w.heap.size)->w.ownsRow 0 e 1 v rows.length inner->xS w F 1 rows inner->(∀ b,v.ownBlock=some b->¬ F b) ->
  us.length=ts.length->(∀ (j:Nat) (x:T) (u:Value),ts[j]?=some x->us[j]?=some u->Rd w F x u)->Dj w F args vs []->RG P w (λb=>v.ownBlock=some b) ->
  Calls P f (Value.agg (us++[v]).toArray :: vs).toArray w λex w'=>∃ ad n c a' c' inner',v=.slice ad n c/\ex=.returned (.slice a' m c')/\lo+m<=n/\(0 < m->∃ b,ad=some ⟨b,0,none⟩/\a'=some ⟨b,lo,none⟩)/\rc w w' /\
   (∀ b,b < w.heap.size->v.ownBlock≠some b->w'.heap[b]?=w.heap[b]?)/\w'.ownsRow 0 e 1 v rows.length inner'/\xS w' F 1 rows inner'
theorem R4{n f r e lo m:Nat}{ts:List T}{rows:List (List T)}{o:Oper}{xf:Operand}{args:Array Operand}{tys:Array TypeId}{ln:List A}{vs:List V}
  (hS:uU E g n st a w) (ho:o.op=.call { callee:=.value xf,args,argTypes:=tys }) (hf:st.eval xf=some (.clo f [])) (has:ef (args.toList.map st.eval)=some (.agg (ts.map A.t++[.own r]) :: ln))
  (hrw:st.rw r=some (.live e 1 rows)) (hp:Fu ln=some vs) (hc:Kl P f e ts rows vs lo m) :
  Aw P o a w λv w'=>∃ g',zu E g st w (.win r lo m) st v g' w':=by
 have hM:=hS.mem;obtain ⟨hcl,hcc⟩:=hc;have hvf:=b9 hS hf;generalize hvv:a.eval xf=vf at hvf;obtain ⟨ha1,ha2⟩:=Ch hS has;have hL:st.L r:=⟨e,1,rows,hrw⟩
 cases hvf with
 | clo f caps vcaps hl hx' =>
  have:vcaps=[]:=zQW hl.symm;subst this;refine mJ ho hvv hcl ?_;rw [zWW];generalize args.toList.map a.eval=us at ha1 ha2
  match us,ha1 with
  | u0 :: us,ha1 =>
   have h0:=ha2 0 _ u0 rfl rfl
   cases h0 with
   | agg _ cells hcl hcx =>
    have hlen:cells.length=ts.length+1:=by rw [<- hcl]; simp
    obtain ⟨us0,v,hcells,hus⟩:∃ us0 v,cells=us0++[v]/\us0.length=ts.length:=⟨cells.take ts.length,cells[ts.length]'ak,by
     rw [show [cells[ts.length]'ak]=cells.drop ts.length by rw [zXq ak]; simp [List.drop_eq_nil_of_le (show cells.length<=ts.length+1 by omega)],zXv],by simp; omega⟩
    subst hcells;have hv:=hcx ts.length (.own r) v kU (by rw [<- hus]; simp)
    cases hv with
    | own _ hR =>
    have hVV:Dj w g.F vs us []:=W9 hp (by simpa using ha1) λj x u h3 h4=>ha2 (j+1) x u Yu (by simpa using h4);have hts:∀ (j:Nat) (x:T) (u:Value),ts[j]?=some x->us0[j]?=some u->Rd w g.F x u:=λj x u h3 h4=>by
     have hlt:j < ts.length:=(sr.1 h3).1;have:=hcx j (.t x) u (by rw [zQQ TA]; simp [h3]) (by rw [zQQ ak]; exact h4)
     cases this with
     | t _ _ h=>exact h
    obtain ⟨inner,hown,hRC,_⟩:=(hM.row r _ hrw).rcs;refine (hcc w g.F (g.rw r) us0 us inner (λb hb=>(hM.F b hb).1) hown hRC (λb hb=>(hM.row_nf hL hb).1) hus hts hVV (hM.tbW λb h1 h2 _ h3=>(hM.row_nf hL h3).2.elim (λh=>absurd h1 (Nat.not_lt.2 h)) h2)).mono λex w' ⟨ad,n',c,a',c',inner',hv,he,hm,hpp,hcalm,hsame,hown',hRC'⟩=>⟨_,he,?_⟩;obtain ⟨hM2,hE2⟩:=hM.set_row hcalm r _ e 1 rows hrw hL hsame (hRC'.rowAt (E:=E) (g:=g) hown' (λb hb=>hM.row_nf hL hb));rw [Mk hrw] at hM2 hE2;exact ⟨g,hM2,.win r lo m n' c c' ad a' hR hv hm hpp,hE2,rfl⟩
end
structure TL where
 oR:Nat->Prop
 oW:Nat->Prop
 rR:Nat->Prop
 rW:Nat->Prop
def MA.In{α:Type}(D:TL):MA α->Prop
 | .ret _=>True
 | .fail=>True
 | .getOb s k=>D.oR s/\∀ x,(k x).In D
 | .getRw r k=>D.rR r/\∀ x,(k x).In D
 | .setOb s _ k=>D.oW s/\k.In D
 | .setRw r _ k=>D.rW r/\k.In D
structure Tr (D:TL) (st st':St):Prop where
 tm:st'.tm=st.tm
 ob:∀ s,¬ D.oW s->st'.ob s=st.ob s
 rw:∀ r,¬ D.rW r->st'.rw r=st.rw r
structure On (D:TL) (st st':St):Prop where
 ob:∀ s,D.oR s->st'.ob s=st.ob s
 rw:∀ r,D.rR r->st'.rw r=st.rw r
structure TL.ok (D:TL):Prop where
 ob:∀ s,D.oW s->D.oR s
 rw:∀ s,D.rW s->D.rR s
theorem Tr.refl(D:TL)(st:St):Tr D st st:=⟨rfl,λ_ _=>rfl,λ_ _=>rfl⟩
theorem Tr.trans{D:TL}{a b c:St}(h:Tr D a b)(h':Tr D b c):Tr D a c :=
 ⟨h'.tm.trans h.tm,λs hs=>(h'.ob s hs).trans (h.ob s hs),λs hs=>(h'.rw s hs).trans (h.rw s hs)⟩
theorem TM{α:Type}{f g:Nat->α}{k j:Nat}{c:α}(h:f j=g j):jr f k c j=jr g k c j:=by
 simp only [jr,h]
theorem pz{α:Type}{D:TL}:∀ (m:MA α) {st st':St} {x:α},m.In D->m.run st=some (x,st') ->
  Tr D st st'/\∀ st2,On D st st2->∃ st2',m.run st2=some (x,st2')/\Tr D st2 st2'/\On D st' st2'
 | .ret v,st,st',x,_,h=>by
  obtain ⟨rfl,rfl⟩:=gZ h;exact ⟨Tr.refl _ _,λst2 h2=>⟨st2,rfl,Tr.refl _ _,h2⟩⟩
 | .fail,st,st',x,_,h=>(aJ h).elim
 | .getOb s k,st,st',x,hi,h=>by
  obtain ⟨h1,h2⟩:=pz (k (st.ob s)) (hi.2 _) h;refine ⟨h1,λst2 ho=>?_⟩;simp only [MA.run,ho.ob s hi.1];exact h2 st2 ho
 | .getRw s k,st,st',x,hi,h=>by
  obtain ⟨h1,h2⟩:=pz (k (st.rw s)) (hi.2 _) h;refine ⟨h1,λst2 ho=>?_⟩;simp only [MA.run,ho.rw s hi.1];exact h2 st2 ho
 | .setOb s c k,st,st',x,hi,h=>by
  simp only [MA.run] at h;obtain ⟨h1,h2⟩:=pz k hi.2 h;refine ⟨⟨h1.tm,λs' hs'=>?_,h1.rw⟩,λst2 ho=>?_⟩
  ·rw [h1.ob s' hs'];exact fu _ _ _ _ (λhe=>hs' (he ▸ hi.1))
  ·obtain ⟨st2',h3,h4,h5⟩:=h2 { st2 with ob:=jr st2.ob s (some c) } ⟨λs' hs'=>TM (ho.ob s' hs'),ho.rw⟩;refine ⟨st2',h3,⟨h4.tm,λs' hs'=>?_,h4.rw⟩,h5⟩;rw [h4.ob s' hs'];exact fu _ _ _ _ (λhe=>hs' (he ▸ hi.1))
 | .setRw s c k,st,st',x,hi,h=>by
  simp only [MA.run] at h;obtain ⟨h1,h2⟩:=pz k hi.2 h;refine ⟨⟨h1.tm,h1.ob,λs' hs'=>?_⟩,λst2 ho=>?_⟩
  ·rw [h1.rw s' hs'];exact fu _ _ _ _ (λhe=>hs' (he ▸ hi.1))
  ·obtain ⟨st2',h3,h4,h5⟩:=h2 { st2 with rw:=jr st2.rw s (some c) } ⟨ho.ob,λs' hs'=>TM (ho.rw s' hs')⟩;refine ⟨st2',h3,⟨h4.tm,h4.ob,λs' hs'=>?_⟩,h5⟩;rw [h4.rw s' hs'];exact fu _ _ _ _ (λhe=>hs' (he ▸ hi.1))
mutual
def A.inR(Q:Nat->Prop):A->Prop
 | .own r=>Q r
 | .elem r _ _ _=>Q r
 | .sub r _ _=>Q r
 | .win r _ _=>Q r
 | .agg l=>gB Q l
 | .tup l=>gB Q l
 | .clo _ l=>gB Q l
 | _=>True
def gB(Q:Nat->Prop):List A->Prop
 | []=>True
 | a :: r=>a.inR Q/\gB Q r
end
mutual
theorem EF{Q:Nat->Prop}(h:∀ r,Q r):∀ a:A,a.inR Q
 | .own r=>by unfold A.inR; exact h r
 | .elem r _ _ _=>by unfold A.inR; exact h r
 | .sub r _ _=>by unfold A.inR; exact h r
 | .win r _ _=>by unfold A.inR; exact h r
 | .agg l=>by unfold A.inR; exact rG h l
 | .tup l=>by unfold A.inR; exact rG h l
 | .clo _ l=>by unfold A.inR; exact rG h l
 | .t _ | .nil | .obj _ _ | .fadr _ | .nn _ _ | .undef | .raw _ | .osl _ _ _ _ | .ext _ _ | .exa _ _ | .shp _=>by unfold A.inR; trivial
theorem rG{Q:Nat->Prop}(h:∀ r,Q r):∀ l:List A,gB Q l
 | []=>by unfold gB; trivial
 | a :: r=>by unfold gB; exact ⟨EF h a,rG h r⟩
end
theorem MJ{Q:Nat->Prop}:∀ {l:List A},gB Q l->∀ a∈l,a.inR Q
 | [],_,a,h=>by simp at h
 | x :: l,hl,a,h=>by
  unfold gB at hl;rcases aaa.1 h with rfl | h
  ·exact hl.1
  ·exact MJ hl.2 a h
theorem sC{Q:Nat->Prop}:∀ {l:List A},(∀ a∈l,a.inR Q)->gB Q l
 | [],_=>by unfold gB; trivial
 | x :: l,h=>by unfold gB; exact ⟨h x kU,sC (λa ha=>h a (by simp [ha]))⟩
theorem Cm{Q:Nat->Prop}{a:A}(h:a.inR Q):gB Q a.cells:=by
 cases a <;> simp only [A.cells] <;> first | (unfold A.inR at h; exact h) | (unfold gB; exact ⟨h,by unfold gB; trivial⟩)
section
variable {D:TL} {α:Type}
theorem TN{a:A}{k:T->MA α}(ha:a.inR λr=>D.rR r/\D.rW r)(hk:∀ x,(k x).In D):(a.toT k).In D:=by
 cases a <;> simp only [A.toT,MA.In] <;> first | exact hk _ | trivial | skip
 unfold A.inR at ha;refine ⟨ha.1,λx=>?_⟩;rcases x with _ | (_ | _ | _) <;> simp only [MA.In] <;> first | exact hk _ | exact ⟨ha.2,hk _⟩
theorem EG:∀ {l:List A} {k:List T->MA α},gB (λr=>D.rR r/\D.rW r) l->(∀ x,(k x).In D)->(fg l k).In D
 | [],k,_,hk=>hk []
 | a :: l,k,hl,hk=>by
  unfold gB at hl;exact TN hl.1 λx=>EG hl.2 λxs=>hk _
theorem HB{Q:Nat->Prop}{lb:List Nat}{l:List A}(h:gB Q l):gB Q (ni lb l) :=
 sC λa ha=>by
  obtain ⟨j,hj⟩:=zYv ha;obtain ⟨y,h1,h2⟩:=I7 lb l j a hj;rcases h2 with rfl | ⟨_,n,rfl⟩
  ·exact MJ h _ (zQY h1)
  ·unfold A.inR; trivial
theorem R5{lb:List Nat}{sz:Nat}:∀ {ps:List (Nat×A)} {rows:List (List T)} {k:List (List T)->MA α},(∀ q∈ps,q.2.inR λr=>D.rR r/\D.rW r)->(∀ x,(k x).In D)->(Mx lb sz rows ps k).In D
 | [],rows,k,_,hk=>hk _
 | (i,x) :: r,rows,k,hl,hk=>by
  unfold Mx
  split
  ·exact EG (HB (Cm (hl (i,x) kU))) λts=>R5 (λq hq=>hl q (by simp [hq])) hk
  ·trivial
theorem HC{a:A}{k:Nat->List (List T)->MA α}(ha:a.inR D.rR)(hk:∀ n x,(k n x).In D):(a.rows k).In D:=by
 unfold A.rows
 split <;> first | exact hk _ _ | trivial | skip
 ·split <;> first | exact hk _ _ | trivial
 ·unfold A.inR at ha;refine ⟨ha,λx=>?_⟩;rcases x with _ | (_ | _ | _) <;> first | exact hk _ _ | trivial
theorem HD{r e sz:Nat}{rows:List (List T)}(h:D.rR r/\D.rW r):(yV r e sz rows).In D:=by
 refine ⟨h.1,λx=>?_⟩
 cases x <;> first | exact ⟨h.2,trivial⟩ | trivial
theorem U4{d:Nat}{cells:List A}(h:D.oR d/\D.oW d):(RI d cells).In D:=by
 refine ⟨h.1,λx=>?_⟩
 cases x <;> simp only
 ·split <;> first | exact ⟨h.2,trivial⟩ | trivial
 ·trivial
theorem uF{m:Bool}{a:A}{k:C->MA α}(ha:a.inR λr=>D.rR r/\D.rW r)(hk:∀ x,(k x).In D):(a.toC m k).In D:=by
 unfold A.toC
 split
 ·unfold A.inR at ha;refine ⟨ha.1,λx=>?_⟩;rcases x with _ | (_ | _ | _) <;> first | exact hk _ | exact ⟨ha.2,hk _⟩ | trivial
 ·exact hk _
 ·exact TN ha λx=>hk _
theorem Ql{m:Bool}:∀ {l:List A} {k:List C->MA α},gB (λr=>D.rR r/\D.rW r) l->(∀ x,(k x).In D)->(Gd m l k).In D
 | [],k,_,hk=>hk []
 | a :: l,k,hl,hk=>by
  unfold gB at hl;exact uF hl.1 λx=>Ql hl.2 λxs=>hk _
mutual
theorem Xc{m:Bool}:∀ {a:A} {k:V->MA α},a.inR (λr=>D.rR r/\D.rW r)->(∀ x,(k x).In D)->(q6 m a k).In D
 | .agg l,k,ha,hk=>by unfold A.inR at ha; unfold q6; exact Ql ha λ_=>hk _
 | .fadr l,k,ha,hk=>by unfold q6; exact hk _
 | .clo f l,k,ha,hk=>by unfold A.inR at ha; unfold q6; exact Qm ha λ_=>hk _
 | .tup l,k,ha,hk=>by unfold A.inR at ha; unfold q6; exact Qm ha λ_=>hk _
 | .t x,k,ha,hk=>by unfold q6; exact uF ha λ_=>hk _
 | .nn _ _,k,ha,hk=>by unfold q6; exact uF ha λ_=>hk _
 | .nil,k,ha,hk=>by unfold q6; exact uF ha λ_=>hk _
 | .own x,k,ha,hk=>by unfold q6; exact uF ha λ_=>hk _
 | .obj _ _,k,ha,hk=>by unfold q6; exact uF ha λ_=>hk _
 | .elem _ _ _ _,k,ha,hk=>by unfold q6; exact uF ha λ_=>hk _
 | .win _ _ _,k,ha,hk=>by unfold q6; exact uF ha λ_=>hk _
 | .sub _ _ _,k,ha,hk=>by unfold q6; exact uF ha λ_=>hk _
 | .undef,k,ha,hk=>by unfold q6; exact uF ha λ_=>hk _
 | .raw _,k,ha,hk=>by unfold q6; exact uF ha λ_=>hk _
 | .osl _ _ _ _,k,ha,hk=>by unfold q6; exact uF ha λ_=>hk _
 | .ext _ _,k,ha,hk=>by unfold q6; exact uF ha λ_=>hk _
 | .exa _ _,k,ha,hk=>by unfold q6; exact uF ha λ_=>hk _
 | .shp _,k,ha,hk=>by unfold q6; exact uF ha λ_=>hk _
theorem Qm{m:Bool}:∀ {l:List A} {k:List V->MA α},gB (λr=>D.rR r/\D.rW r) l->(∀ x,(k x).In D)->(Ci m l k).In D
 | [],k,_,hk=>by unfold Ci; exact hk _
 | a :: l,k,hl,hk=>by unfold gB at hl; unfold Ci; exact Xc hl.1 λx=>Qm hl.2 λxs=>hk _
end
theorem VU{s:Nat}{k:List C->MA α}(ho:D.oR s/\D.oW s)(ha:∀ r,D.rR r/\D.rW r)(hk:∀ x,(k x).In D):(Dx s k).In D:=by
 refine ⟨ho.1,λx=>?_⟩;rcases x with _ | (_ | ⟨c,cells⟩) <;> simp only <;> first | exact Ql (rG ha _) λx=>⟨ho.2,hk _⟩ | trivial
theorem TO{s:Nat}{k:List C->MA α}(ho:D.oR s/\D.oW s)(hk:∀ x,(k x).In D):(Hz s k).In D:=by
 refine ⟨ho.1,λx=>?_⟩;rcases x with _ | (_ | ⟨c,cells⟩) <;> simp only <;> first | trivial | skip
 split <;> first | exact ⟨ho.2,hk _⟩ | trivial
def A.argIn(D:TL)(p:Nat->Bool):A->Prop
 | .obj s 0=>(D.oR s/\D.oW s)/\(p s=false->∀ r,D.rR r/\D.rW r)
 | a=>a.inR λr=>D.rR r/\D.rW r
theorem HE{m:Bool}{p:Nat->Bool}:∀ {l:List A} {k:List V->MA α},(∀ a∈l,a.argIn D p)->(∀ x,(k x).In D)->(kf m p l k).In D
 | [],k,_,hk=>by unfold kf; exact hk _
 | a :: l,k,hl,hk=>by
  have h0:=hl a kU;have ih:∀ {k:List V->MA α},(∀ x,(k x).In D)->(kf m p l k).In D:=λh=>HE (λa ha=>hl a (by simp [ha])) h;unfold kf
  split
  ·rename_i heq; cases heq
  ·rename_i heq;injection heq with h1 h2
   subst h1 h2;unfold A.argIn at h0
   split
   ·exact TO h0.1 λx=>ih λ_=>hk _
   ·rename_i hp;exact VU h0.1 (h0.2 (by simpa using hp)) λx=>ih λ_=>hk _
  ·rename_i hna heq;injection heq with h1 h2
   subst h1 h2;refine Xc ?_ λx=>ih λ_=>hk _;unfold A.argIn at h0
   split at h0
   ·exact absurd rfl (hna _)
   ·exact h0
theorem mt{a:A}{k:T->MA α}(ha:a.inR D.rR)(hk:∀ x,(k x).In D):(a.peekT k).In D:=by
 unfold A.peekT
 split <;> first | exact hk _ | trivial | skip
 unfold A.inR at ha;refine ⟨ha,λx=>?_⟩;rcases x with _ | (_ | _ | _) <;> first | exact hk _ | trivial
theorem Py:∀ {l:List A} {k:List T->MA α},gB D.rR l->(∀ x,(k x).In D)->(HA l k).In D
 | [],k,_,hk=>hk []
 | a :: l,k,hl,hk=>by
  unfold gB at hl;exact mt hl.1 λx=>Py hl.2 λxs=>hk _
mutual
theorem Xd:∀ {a:A} {k:V->MA α},a.inR D.rR->(∀ x,(k x).In D)->(j9 a k).In D
 | .agg l,k,ha,hk=>by unfold A.inR at ha; unfold j9; exact Py ha λ_=>hk _
 | .fadr l,k,ha,hk=>by unfold j9; exact hk _
 | .clo f l,k,ha,hk=>by unfold A.inR at ha; unfold j9; exact sD ha λ_=>hk _
 | .tup l,k,ha,hk=>by unfold j9; exact mt ha λ_=>hk _
 | .t x,k,ha,hk=>by unfold j9; exact mt ha λ_=>hk _
 | .nn _ _,k,ha,hk=>by unfold j9; exact mt ha λ_=>hk _
 | .nil,k,ha,hk=>by unfold j9; exact mt ha λ_=>hk _
 | .own x,k,ha,hk=>by unfold j9; exact mt ha λ_=>hk _
 | .obj _ _,k,ha,hk=>by unfold j9; exact mt ha λ_=>hk _
 | .elem _ _ _ _,k,ha,hk=>by unfold j9; exact mt ha λ_=>hk _
 | .win _ _ _,k,ha,hk=>by unfold j9; exact mt ha λ_=>hk _
 | .sub _ _ _,k,ha,hk=>by unfold j9; exact mt ha λ_=>hk _
 | .undef,k,ha,hk=>by unfold j9; exact mt ha λ_=>hk _
 | .raw _,k,ha,hk=>by unfold j9; exact mt ha λ_=>hk _
 | .osl _ _ _ _,k,ha,hk=>by unfold j9; exact mt ha λ_=>hk _
 | .ext _ _,k,ha,hk=>by unfold j9; exact mt ha λ_=>hk _
 | .exa _ _,k,ha,hk=>by unfold j9; exact mt ha λ_=>hk _
 | .shp _,k,ha,hk=>by unfold j9; exact mt ha λ_=>hk _
theorem sD:∀ {l:List A} {k:List V->MA α},gB D.rR l->(∀ x,(k x).In D)->(eZ l k).In D
 | [],k,_,hk=>by unfold eZ; exact hk _
 | a :: l,k,hl,hk=>by unfold gB at hl; unfold eZ; exact Xd hl.1 λx=>sD hl.2 λxs=>hk _
end
variable {d:Nat}
theorem Xe{id:Nat}{c:C}{k:A->MA α}(hd:∀ r,r / 65536=d->D.rR r/\D.rW r)(hk:∀ x,(k x).In D):(c.toA d id k).In D:=by
 cases c <;> simp only [C.toA] <;> first | exact hk _ | skip
 split
 ·rename_i h;refine ⟨(hd _ h).1,λx=>?_⟩
  cases x <;> first | exact ⟨(hd _ h).2,hk _⟩ | trivial
 ·trivial
theorem Ml(hd:∀ r,r / 65536=d->D.rR r/\D.rW r):∀ {l:List C} {id:Nat} {k:List A->MA α},(∀ x,(k x).In D)->(I9 d id l k).In D
 | [],id,k,hk=>hk []
 | a :: l,id,k,hk=>Xe hd λx=>Ml hd λxs=>hk _
mutual
theorem HF(hd:∀ r,r / 65536=d->D.rR r/\D.rW r)(ho:D.oR d/\D.oW d):∀ {v:V} {id:Nat} {k:A->MA α},(∀ x,(k x).In D)->(V.toA d id v k).In D
 | .one c,id,k,hk=>by unfold V.toA; exact Xe hd hk
 | .agg l,id,k,hk=>by unfold V.toA; exact Ml hd λ_=>hk _
 | .tup l,id,k,hk=>by unfold V.toA; exact MK hd ho λ_=>hk _
 | .ptr l,id,k,hk=>by
  unfold V.toA;refine Ml hd λ_=>⟨ho.1,λx=>?_⟩
  cases x <;> first | exact ⟨ho.2,hk _⟩ | trivial
 | .fptr l,id,k,hk=>by unfold V.toA; exact hk _
 | .clo f l,id,k,hk=>by unfold V.toA; exact MK hd ho λ_=>hk _
theorem MK(hd:∀ r,r / 65536=d->D.rR r/\D.rW r)(ho:D.oR d/\D.oW d):∀ {l:List V} {id:Nat} {k:List A->MA α},(∀ x,(k x).In D)->(Cj d id l k).In D
 | [],id,k,hk=>by unfold Cj; exact hk _
 | a :: l,id,k,hk=>by unfold Cj; exact HF hd ho λx=>MK hd ho λxs=>hk _
end
theorem AO(hd:∀ r,r / 65536=d->D.rR r/\D.rW r):∀ {ss:List Nat} {os:List (List C)} {k:MA α},(∀ s∈ss,D.oR s/\D.oW s)->k.In D->(fa d ss os k).In D
 | [],[],k,_,hk=>hk
 | s :: ss,c :: cs,k,hs,hk=>by
  unfold fa;refine Ml hd λx=>⟨(hs s kU).1,λy=>?_⟩
  cases y <;> first | exact ⟨(hs s kU).2,AO hd (λs h=>hs s Tz) hk⟩ | trivial
 | [],_ :: _,k,_,hk=>trivial
 | _ :: _,[],k,_,hk=>trivial
theorem Dy{p:Nat->Bool}:∀ {l:List A},(∀ a∈l,a.argIn D p)->∀ s∈fL l,D.oR s/\D.oW s
 | [],_,s,h=>by simp [fL] at h
 | a :: l,hl,s,h=>by
  have h0:=hl a kU;unfold fL at h
  split at h
  ·rename_i heq; cases heq
  ·rename_i heq;injection heq with h1 h2
   subst h1 h2;rcases aaa.1 h with rfl | h
   ·exact h0.1
   ·exact Dy (λa ha=>hl a (by simp [ha])) s h
  ·rename_i heq;injection heq with h1 h2
   subst h1 h2;exact Dy (λa ha=>hl a (by simp [ha])) s h
end
def has(l:Option (List Nat))(k:Nat):Prop:=match l with | none=>True | some l=>k∈l
def G1(a b:Option (List Nat)):Option (List Nat):=match a,b with | some a,some b=>some (a++b) | _,_=>none
def Fd:List (Option (List Nat))->Option (List Nat)
 | []=>some []
 | a :: r=>G1 a (Fd r)
theorem oZ{a b:Option (List Nat)}{k:Nat}:has (G1 a b) k↔has a k\/has b k:=by
 cases a <;> cases b <;> simp [G1,has]
theorem ML{l:List (Option (List Nat))}{k:Nat}:∀ {x},x∈l->has x k->has (Fd l) k:=by
 induction l with
 | nil=>intro x h; simp at h
 | cons y l ih =>
  intro x h hx;unfold Fd;rcases aaa.1 h with rfl | h
  ·exact oZ.2 (.inl hx)
  ·exact oZ.2 (.inr (ih h hx))
def fy.rows:fy->Option (List Nat)
 | .frz | .obj _=>some []
 | .own d=>some [d]
 | .el d=>some [d]
 | .win d=>some [d]
 | _=>none
def fy.objs:fy->Option (List Nat)
 | .obj s=>some [s]
 | .any=>none
 | _=>some []
def Au(ρ:Nat->fy):Operand->fy
 | .tmp t=>ρ t
 | _=>.frz
structure Fp where
 oR:Option (List Nat)
 oW:Option (List Nat)
 rR:Option (List Nat)
 rW:Option (List Nat)
def Fp.dom(f:Fp):TL:=⟨has f.oR,has f.oW,λr=>has f.rR (r / 65536),λr=>has f.rW (r / 65536)⟩
def fy.isObj:fy->Bool
 | .obj _=>true
 | _=>false
def xj(p:Nat->Bool):fy->Option (List Nat)
 | .obj s=>if p s then some [] else none
 | r=>r.rows
def nk:Option Nat->Option (List Nat)
 | some d=>some [d]
 | none=>some []
def cL(ρ:Nat->fy)(o:Oper):Option (List Nat):=Fd (o.op.operands.toList.map λx=>(Au ρ x).rows)
def et(p:Nat->Bool)(ρ:Nat->fy)(o:Oper):Fp :=
 match o.op with
 | .alloc _=>⟨nk o.dst,nk o.dst,some [],some []⟩
 | .box ..=>⟨nk o.dst,nk o.dst,cL ρ o,cL ρ o⟩
 | .buildSlice .. | .makeSlice ..=>⟨some [],some [],G1 (cL ρ o) (nk o.dst),G1 (cL ρ o) (nk o.dst)⟩
 | .load _ a=>⟨(Au ρ a).objs,some [],(Au ρ a).rows,some []⟩
 | .store _ a _=>if (Au ρ a).isObj then ⟨(Au ρ a).objs,(Au ρ a).objs,some [],some []⟩ else ⟨(Au ρ a).objs,(Au ρ a).objs,cL ρ o,cL ρ o⟩
 | .slice ..=>⟨some [],some [],G1 (cL ρ o) (nk o.dst),G1 (cL ρ o) (nk o.dst)⟩
 | .call { callee:=.builtin .copy,.. } | .call { callee:=.builtin .clear,.. }=>⟨some [],some [],cL ρ o,cL ρ o⟩
 | .indexAddr .. | .convert .. | .call { callee:=.builtin .len,.. }=>⟨some [],some [],cL ρ o,some []⟩
 | .call { callee:=.builtin .append,.. }=>⟨some [],some [],G1 (cL ρ o) (nk o.dst),G1 (cL ρ o) (nk o.dst)⟩
 | .call { callee:=.value _,.. } =>
  ⟨G1 (Fd (o.op.operands.toList.map λx=>(Au ρ x).objs)) (nk o.dst),G1 (Fd (o.op.operands.toList.map λx=>(Au ρ x).objs)) (nk o.dst),
   G1 (Fd (o.op.operands.toList.map λx=>xj p (Au ρ x))) (nk o.dst),G1 (Fd (o.op.operands.toList.map λx=>xj p (Au ρ x))) (nk o.dst)⟩
 | _=>⟨some [],some [],some [],some []⟩
theorem U5(p:Nat->Bool)(ρ:Nat->fy)(o:Oper):(et p ρ o).dom.ok:=by
 unfold et
 split
 all_goals first | exact ⟨λ_ h=>h,λ_ h=>h⟩ | (split <;> exact ⟨λ_ h=>h,λ_ h=>h⟩) | exact ⟨λ_ h=>by simp [Fp.dom,has] at h,λ_ h=>by simp [Fp.dom,has] at h⟩
structure Cls (ρ:Nat->fy) (x:Operand) (a:A):Prop where
 rows:a.inR λr=>has (Au ρ x).rows (r / 65536)
 objs:∀ s off,a=.obj s off->has (Au ρ x).objs s
 isob:(Au ρ x).isObj=true->∃ s off,a=.obj s off
theorem VW{r:fy}{a:A}(h:r.fits a=true)(hr:r.isObj=true):∃ s off,a=.obj s off:=by
 cases r <;> cases a <;> simp [fy.fits,fy.isObj] at h hr ⊢
theorem Pz{Q:Nat->Prop}{a:A}(h:a.leafy=true):a.inR Q:=by
 cases a <;> first | (unfold A.inR; trivial) | (simp [A.leafy] at h)
theorem R6{r:fy}{a:A}(h:r.fits a=true):(a.inR λi=>has r.rows (i / 65536))/\∀ s off,a=.obj s off->has r.objs s:=by
 by_cases hag:∃ l,r=.frz/\a=.agg l
 ·obtain ⟨l,rfl,rfl⟩:=hag;refine ⟨?_,λs off h=>by cases h⟩;unfold A.inR;exact sC λx hx=>Pz (KB.1 h x hx)
 by_cases hag2:∃ d l,r=.own d/\a=.agg l
 ·obtain ⟨d,l,rfl,rfl⟩:=hag2;refine ⟨?_,λs off h=>by cases h⟩;unfold A.inR;refine sC λx hx=>?_;have:=KB.1 h x hx
  cases x with
  | own r=>unfold A.inR; simpa [fy.rows,has] using this
  | _=>exact Pz this
 cases r <;> cases a <;> (try simp [fy.fits,fy.rows,fy.objs,has] at h hag ⊢) <;> (try exact absurd ⟨_,_,rfl,rfl⟩ hag2) <;>
  first
   | exact EF (λ_=>trivial) _
   | (unfold A.inR; first | trivial | simp [h])
   | (refine ⟨by unfold A.inR; trivial,?_⟩; intro s off h1 h2; simp [<- h1,h])
   | skip
theorem Fv{Q:Nat->Prop}:∀ {l:List (Option A)} {r:List A},(∀ y∈l,∀ a,y=some a->a.inR Q)->ef l=some r->gB Q r:=by
 intro l r hl h;have:=Hv h;subst this;exact sC λa ha=>hl (some a) (List.mem_map.2 ⟨a,ha,rfl⟩) a rfl
theorem Cn{Q:Nat->Prop}{v:Value}{a:A}(h:qc v=some a):a.inR Q:=by
 unfold qc at h
 split at h <;> cases h <;> (unfold A.inR; trivial)
theorem Dz{Q:Nat->Prop}{v:Value}{a:A}(h:A.ofValue v=some a):(a.inR Q)/\∀ s off,a≠.obj s off:=by
 unfold A.ofValue at h
 split at h
 ·split at h
  ·rename_i l hl
   cases h
   refine ⟨?_,λ_ _ h=>by cases h⟩;unfold A.inR;exact Fv (λy hy a he=>by
    obtain ⟨v,_,hv⟩:=List.mem_map.1 hy;exact Cn (hv.trans he)) hl
  ·cases h
 ·cases h
  exact ⟨by unfold A.inR; trivial,λs off he=>by cases he⟩
 ·refine ⟨Cn h,λs off he=>?_⟩;subst he;unfold qc at h
  split at h <;> cases h
theorem PA{P:Program}{Q:Nat->Prop}{t:TypeId}{z:List A}(h:uT P t=some z):gB Q z:=by
 unfold uT at h
 split at h
 ·exact Fv (λy hy a he=>by
   obtain ⟨v,_,hv⟩:=List.mem_map.1 hy;exact Cn (hv.trans he)) h
 ·cases h
theorem Xf{ρ:Nat->fy}{st:St}{o:Oper}(hf:eV ρ st o=true){x:Operand}{a:A}(hx:x∈o.op.operands.toList)(h:st.eval x=some a):Cls ρ x a:=by
 cases x with
 | tmp t =>
  simp only [St.eval,Option.some.injEq] at h;subst h;have:=KB.1 hf _ hx;exact ⟨(R6 this).1,(R6 this).2,λh=>VW this h⟩
 | const v=>exact ⟨(Dz h).1,λs off he=>absurd he ((Dz (Q:=λ_=>True) h).2 s off),λh=>by simp [Au,fy.isObj] at h⟩
 | func f =>
  simp only [St.eval,Option.some.injEq] at h;subst h;exact ⟨by unfold A.inR; unfold gB; trivial,λs off he=>(by cases he),λh=>by simp [Au,fy.isObj] at h⟩
 | global _=>cases h
mutual
theorem jG{Q Q':Nat->Prop}(h:∀ r,Q r->Q' r):∀ {a:A},a.inR Q->a.inR Q'
 | .own r,hq=>by unfold A.inR at hq ⊢; exact h _ hq
 | .elem r _ _ _,hq=>by unfold A.inR at hq ⊢; exact h _ hq
 | .sub r _ _,hq=>by unfold A.inR at hq ⊢; exact h _ hq
 | .win r _ _,hq=>by unfold A.inR at hq ⊢; exact h _ hq
 | .agg l,hq=>by unfold A.inR at hq ⊢; exact EH h hq
 | .tup l,hq=>by unfold A.inR at hq ⊢; exact EH h hq
 | .clo _ l,hq=>by unfold A.inR at hq ⊢; exact EH h hq
 | .t _,_ | .nil,_ | .obj _ _,_ | .fadr _,_ | .nn _ _,_ | .undef,_ | .raw _,_ | .osl _ _ _ _,_ | .ext _ _,_ | .exa _ _,_ | .shp _,_=>by unfold A.inR; trivial
theorem EH{Q Q':Nat->Prop}(h:∀ r,Q r->Q' r):∀ {l:List A},gB Q l->gB Q' l
 | [],_=>by unfold gB; trivial
 | a :: r,hq=>by unfold gB at hq ⊢; exact ⟨jG h hq.1,EH h hq.2⟩
end
end Go.Tm
set_option maxHeartbeats 1000000
namespace Go.Tm
open Go.RowKit
section
variable {D:TL} {P:Program} {ρ:Nat->fy}
theorem eW{o:Oper}{x:Operand}{k:Nat}(hx:x∈o.op.operands.toList)(h:has (Au ρ x).rows k):has (cL ρ o) k :=
 ML (List.mem_map.2 ⟨x,hx,rfl⟩) h
theorem YI{t:TypeId}{a:A}(ho:∀ s off,a=.obj s off->D.oR s)(hr:a.inR D.rR):(I4 P t a).In D:=by
 unfold I4
 split <;> try trivial
 split <;> try trivial
 ·refine ⟨ho _ _ rfl,λx=>?_⟩
  cases x <;> simp only [MA.In]
  split <;> trivial
 ·unfold A.inR at hr;refine ⟨hr,λx=>?_⟩;rcases x with _ | (_ | _ | _) <;> (try dsimp only) <;> (try trivial)
  all_goals
   split <;> try trivial
   split <;> try trivial
   split <;> trivial
 ·split <;> trivial
 ·split <;> trivial
theorem R7{t:TypeId}{a x:A}(ho:∀ s off,a=.obj s off->D.oR s/\D.oW s)(hr:(∃ s off,a=.obj s off)\/((a.inR λr=>D.rR r/\D.rW r)/\x.inR λr=>D.rR r/\D.rW r)):(Cf P t a x).In D:=by
 unfold Cf
 split <;> try trivial
 split <;> try trivial
 split <;> try trivial
 ·refine ⟨(ho _ _ rfl).1,λx=>?_⟩
  cases x <;> simp only [MA.In]
  split <;> first | trivial | exact ⟨(ho _ _ rfl).2,trivial⟩
 ·rcases hr with ⟨s,off,h⟩ | ⟨h1,h2⟩
  ·cases h
  refine EG (HB (Cm h2)) λts=>?_;unfold A.inR at h1;refine ⟨h1.1,λx=>?_⟩;rcases x with _ | (_ | _ | _) <;> (try dsimp only) <;> (try trivial)
  split <;> try trivial
  split <;> try trivial
  split <;> first | trivial | exact ⟨h1.2,trivial⟩
 ·split <;> trivial
theorem VX{a:A}{off:Nat}:(My a off).In D:=by
 unfold My
 split <;> trivial
theorem MM{n:Nat}{i:Int}{sz:Nat}{rows:List (List T)}:(Cg n i sz rows).In D:=by
 unfold Cg
 split <;> try trivial
 split <;> trivial
theorem Qn{t:TypeId}{x i:A}(hr:x.inR D.rR):(mI P t x i).In D:=by
 unfold mI
 split <;> try trivial
 split <;> try trivial
 split <;> try trivial
 ·exact MM
 ·unfold Hs
  split <;> try trivial
  split <;> trivial
 ·split <;> trivial
 ·unfold A.inR at hr;refine ⟨hr,λx=>?_⟩;rcases x with _ | (_ | _ | _) <;> (try dsimp only) <;> (try trivial)
  ·split <;> trivial
  ·exact MM
theorem Xg{d:Option Nat}{t:TypeId}{x:A}{hi:Option A}(hr:x.inR λr=>D.rR r/\D.rW r)(hd:∀ d',d=some d'->D.rR (iP d' 0)/\D.rW (iP d' 0)):(Ht P d t x hi).In D:=by
 unfold Ht
 split <;> try trivial
 split <;> try trivial
 unfold A.inR at hr;refine ⟨hr.1,λx=>?_⟩;rcases x with _ | (_ | _ | _) <;> (try dsimp only) <;> (try trivial)
 split <;> first | trivial | exact ⟨hr.2,HD (hd _ rfl)⟩
theorem Xh{t:TypeId}{x:A}{lo hi:Option A}(hr:x.inR λr=>D.rR r/\D.rW r):(AL P t x lo hi).In D:=by
 unfold AL
 split <;> try trivial
 ·split <;> try trivial
  split <;> trivial
 ·split <;> try trivial
  split <;> trivial
 ·split <;> try trivial
  refine TN hr λy=>?_
  split <;> try trivial
  split <;> try trivial
  split <;> try trivial
  split <;> trivial
theorem YJ{d:Option Nat}{t:TypeId}{l c:A}(hd:∀ d',d=some d'->∀ r,r / 65536=d'->D.rR r/\D.rW r):(Mz P d t l c).In D:=by
 unfold Mz
 split <;> try trivial
 split <;> try trivial
 rename_i hz
 split <;> try trivial
 refine EG (HB (PA hz)) λts=>?_;exact HD (hd _ rfl _ Yv)
theorem TP{d:Nat}{ts:List TypeId}{x y:A}(hd:∀ r,r / 65536=d->D.rR r/\D.rW r)(hx:x.inR λr=>D.rR r/\D.rW r)(hy:y.inR D.rR):(xR P (some d) ts x y).In D:=by
 have hm:∀ {e n:Nat} {rows:List (List T)},(yV (iP d 0) e n rows).In D:=λ{e n rows}=>HD (hd _ Yv);unfold xR
 split <;> try trivial
 rename_i d' hdd;injection hdd with hdd
 subst hdd
 split <;> try trivial
 split <;> try trivial
 split <;> try trivial
 split <;> try trivial
 refine HC hy λn ys=>?_
 split <;> try trivial
 split <;> try trivial
 ·split <;> first | trivial | exact hm
 ·unfold A.inR at hx;refine ⟨hx.1,λx=>?_⟩;rcases x with _ | (_ | _ | _) <;> (try dsimp only) <;> (try trivial)
  split <;> first | trivial | exact ⟨hx.2,hm⟩
theorem VY{d:Option Nat}{ts:List TypeId}{x y:A}(hd:∀ d',d=some d'->∀ r,r / 65536=d'->D.rR r/\D.rW r)(hx:x.inR λr=>D.rR r/\D.rW r)(hy:y.inR D.rR):(xR P d ts x y).In D:=by
 cases d with
 | some d=>exact TP (hd d rfl) hx hy
 | none =>
  unfold xR
  split <;> first | trivial | (rename_i h; cases h)
theorem Z2{t:TypeId}{x:A}{lo:Option A}(hr:x.inR λr=>D.rR r/\D.rW r):(Pk P t x lo).In D:=by
 unfold Pk
 split <;> try trivial
 split <;> try trivial
 unfold A.inR at hr;refine ⟨hr.1,λx=>?_⟩;rcases x with _ | (_ | _ | _) <;> (try dsimp only) <;> (try trivial)
 split <;> trivial
theorem Z3{t:TypeId}{x:A}{lo hi:Option A}(hr:x.inR λr=>D.rR r/\D.rW r):(Pl P t x lo hi).In D:=by
 unfold Pl
 split <;> try trivial
 split <;> try trivial
 unfold A.inR at hr;refine ⟨hr.1,λx=>?_⟩;rcases x with _ | (_ | _ | _) <;> (try dsimp only) <;> (try trivial)
 split <;> try trivial
 split <;> trivial
theorem YK{ts:List TypeId}{x y:A}(hx:x.inR λr=>D.rR r/\D.rW r)(hy:y.inR D.rR):(F8 P ts x y).In D:=by
 unfold F8
 split
 ·unfold Hu
  split <;> try trivial
  split <;> try trivial
  refine HC hy λm ys=>?_
  split <;> try trivial
  unfold A.inR at hx;refine ⟨hx.1,λx=>?_⟩;rcases x with _ | (_ | _ | _) <;> (try dsimp only) <;> (try trivial)
  split <;> first | trivial | exact ⟨hx.2,trivial⟩
 rotate_left
 ·trivial
 split <;> try trivial
 split <;> try trivial
 refine HC hy λn ys=>?_
 split <;> try trivial
 unfold A.inR at hx;refine ⟨hx.1,λx=>?_⟩;rcases x with _ | (_ | _ | _) <;> (try dsimp only) <;> (try trivial)
 split <;> first | trivial | exact ⟨hx.2,trivial⟩
theorem Xi{ts:List TypeId}{x:A}(hx:x.inR λr=>D.rR r/\D.rW r):(EC P ts x).In D:=by
 unfold EC
 split <;> try trivial
 split <;> try trivial
 split <;> try trivial
 split <;> try trivial
 unfold A.inR at hx;refine ⟨hx.1,λx=>?_⟩;rcases x with _ | (_ | _ | _) <;> (try dsimp only) <;> (try trivial)
 split <;> first | trivial | exact ⟨hx.2,trivial⟩
theorem Z4{t:TypeId}{x:A}(hr:x.inR D.rR):(Ki P t x).In D:=by
 unfold Ki
 split <;> try trivial
 exact HC hr λ_ _=>trivial
end
theorem YL{P:Program}{p:Nat->Bool}{ρ:Nat->fy}{st:St}{o:Oper}(h:∀ x∈o.op.operands.toList,∀ a,st.eval x=some a->Cls ρ x a):(qd P ρ st.eval o).In (et p ρ o).dom:=by
 have hdst:∀ {d:Nat} {r:Nat},o.dst=some d->r / 65536=d->has (G1 (cL ρ o) (nk o.dst)) (r / 65536):=λh h'=>oZ.2 (.inr (by rw [h]; simp [nk,has,h']));unfold qd
 split <;> try (split <;> trivial)
 ·-- alloc
  rename_i e ho
  split <;> try trivial
  rename_i d z hd hz;have hf:et p ρ o=⟨nk o.dst,nk o.dst,some [],some []⟩:=by simp only [et,ho]
  rw [hf];exact U4 ⟨by simp [Fp.dom,nk,has,hd],by simp [Fp.dom,nk,has,hd]⟩
 ·-- box
  rename_i e x ho
  split <;> try trivial
  rename_i d v hd hv;have hx:x∈o.op.operands.toList:=by rw [ho]; simp [Op.operands]
  have hf:et p ρ o=⟨nk o.dst,nk o.dst,cL ρ o,cL ρ o⟩:=by simp only [et,ho]
  rw [hf]
  split
  ·refine EG (Cm (jG (λr hr=>?_) (h x hx v hv).rows)) λ_=>trivial;exact ⟨eW hx hr,eW hx hr⟩
  ·exact U4 ⟨by simp [Fp.dom,nk,has,hd],by simp [Fp.dom,nk,has,hd]⟩
 ·-- build
  rename_i t parts ho
  split <;> try trivial
  split <;> trivial
 ·-- buildSlice
  rename_i t n parts ho
  split <;> try trivial
  rename_i e d ps ht hd hp
  split <;> try trivial
  rename_i sz z hsz hz
  split <;> try trivial
  have hf:et p ρ o=⟨some [],some [],G1 (cL ρ o) (nk o.dst),G1 (cL ρ o) (nk o.dst)⟩:=by simp only [et,ho]
  rw [hf];refine EG (HB (PA hz)) λts=>R5 (λq hq=>?_) λrows=>HD ⟨hdst hd Yv,hdst hd Yv⟩;obtain ⟨hl,hg⟩:=uV hp;obtain ⟨i,hi⟩:=zYv hq;obtain ⟨⟨j,x⟩,hx,he⟩:=hg i q hi;have hxm:x∈o.op.operands.toList:=by
   rw [ho];simp only [Op.operands,zXg];exact ⟨(j,x),zQY hx,rfl⟩
  simp only [zWj] at he;obtain ⟨v,hv,rfl⟩:=he;exact jG (λr hr=>⟨oZ.2 (.inl (eW hxm hr)),oZ.2 (.inl (eW hxm hr))⟩) (h x hxm v hv).rows
 ·-- load
  rename_i t x ho
  split <;> try trivial
  rename_i a ha;have hx:x∈o.op.operands.toList:=by rw [ho]; simp [Op.operands]
  have hf:et p ρ o=⟨(Au ρ x).objs,some [],(Au ρ x).rows,some []⟩:=by simp only [et,ho]
  rw [hf];exact YI (h x hx a ha).objs (h x hx a ha).rows
 ·-- store
  rename_i t x y ho
  split <;> try trivial
  rename_i a b ha hb;have hx:x∈o.op.operands.toList:=by rw [ho]; simp [Op.operands]
  have hy:y∈o.op.operands.toList:=by rw [ho]; simp [Op.operands]
  have hf:et p ρ o=if (Au ρ x).isObj then ⟨(Au ρ x).objs,(Au ρ x).objs,some [],some []⟩ else ⟨(Au ρ x).objs,(Au ρ x).objs,cL ρ o,cL ρ o⟩:=by simp only [et,ho]
  rw [hf]
  split
  ·rename_i hio;exact R7 (λs off he=>⟨(h x hx a ha).objs s off he,(h x hx a ha).objs s off he⟩) (.inl ((h x hx a ha).isob hio))
  ·exact R7 (λs off he=>⟨(h x hx a ha).objs s off he,(h x hx a ha).objs s off he⟩)
    (.inr ⟨jG (λr hr=>⟨eW hx hr,eW hx hr⟩) (h x hx a ha).rows,jG (λr hr=>⟨eW hy hr,eW hy hr⟩) (h y hy b hb).rows⟩)
 ·-- binOp
  split <;> try trivial
  ·split <;> trivial
  ·split <;> first | trivial | (split <;> trivial)
  ·split <;> trivial
  ·split <;> trivial
 ·-- convert
  rename_i s t x ho;have hx:x∈o.op.operands.toList:=by rw [ho]; simp [Op.operands]
  have hf:et p ρ o=⟨some [],some [],cL ρ o,some []⟩:=by simp only [et,ho]
  rw [hf]
  split <;> try trivial
  rename_i a _ _ ha
  split <;> try trivial
  refine HC (jG (λr hr=>eW hx hr) (h x hx _ ha).rows) λ_ _=>?_
  split <;> trivial
 ·-- makeSlice
  rename_i t l c ho;have hf:et p ρ o=⟨some [],some [],G1 (cL ρ o) (nk o.dst),G1 (cL ρ o) (nk o.dst)⟩:=by simp only [et,ho]
  rw [hf]
  split <;> try trivial
  exact YJ λd hd r hr=>⟨hdst hd hr,hdst hd hr⟩
 ·-- slice
  rename_i t x lo hi ho;have hx:x∈o.op.operands.toList:=by rw [ho]; simp [Op.operands]
  have hf:et p ρ o=⟨some [],some [],G1 (cL ρ o) (nk o.dst),G1 (cL ρ o) (nk o.dst)⟩:=by simp only [et,ho]
  rw [hf]
  split <;> try trivial
  rename_i a _ _ ha _ _;have hq:a.inR λr=>(⟨some [],some [],G1 (cL ρ o) (nk o.dst),G1 (cL ρ o) (nk o.dst)⟩:Fp).dom.rR r/\(⟨some [],some [],G1 (cL ρ o) (nk o.dst),G1 (cL ρ o) (nk o.dst)⟩:Fp).dom.rW r :=
   jG (λr hr=>⟨oZ.2 (.inl (eW hx hr)),oZ.2 (.inl (eW hx hr))⟩) (h x hx _ ha).rows
  split
  ·split
   ·split
    ·exact Z2 hq
    ·exact Z3 hq
   ·exact Xg hq λd hd=>⟨oZ.2 (.inr qaC),oZ.2 (.inr qaC)⟩
  ·exact Xh hq
 ·-- fieldAddr
  split <;> first | trivial | exact VX
 ·-- field
  split <;> try trivial
  split <;> try trivial
  split <;> trivial
 ·-- indexAddr
  rename_i t x i ho;have hx:x∈o.op.operands.toList:=by rw [ho]; simp [Op.operands]
  have hf:et p ρ o=⟨some [],some [],cL ρ o,some []⟩:=by simp only [et,ho]
  rw [hf]
  split <;> try trivial
  rename_i ha _;exact Qn (jG (λr hr=>eW hx hr) (h x hx _ ha).rows)
 ·-- index
  split <;> try trivial
  split <;> try trivial
  split <;> trivial
 ·-- extract
  split <;> try trivial
  split <;> trivial
 ·-- len
  rename_i args ats ho
  split <;> try trivial
  rename_i x t hxs hts;have hx:x∈o.op.operands.toList:=by rw [ho]; simp [Op.operands,Call.operands,hxs]
  have hf:et p ρ o=⟨some [],some [],cL ρ o,some []⟩:=by simp only [et,ho]
  rw [hf]
  split <;> try trivial
  rename_i ha;exact Z4 (jG (λr hr=>eW hx hr) (h x hx _ ha).rows)
 ·-- append
  rename_i args ats ho
  split <;> try trivial
  rename_i x y hxs;have hx:x∈o.op.operands.toList:=by rw [ho]; simp [Op.operands,Call.operands,hxs]
  have hy:y∈o.op.operands.toList:=by rw [ho]; simp [Op.operands,Call.operands,hxs]
  have hf:et p ρ o=⟨some [],some [],G1 (cL ρ o) (nk o.dst),G1 (cL ρ o) (nk o.dst)⟩:=by simp only [et,ho]
  rw [hf]
  split <;> try trivial
  rename_i ha hb;exact VY (λd hd r hr=>⟨hdst hd hr,hdst hd hr⟩) (jG (λr hr=>⟨oZ.2 (.inl (eW hx hr)),oZ.2 (.inl (eW hx hr))⟩) (h x hx _ ha).rows)
   (jG (λr hr=>oZ.2 (.inl (eW hy hr))) (h y hy _ hb).rows)
 ·-- copy
  rename_i args ats ho
  split <;> try trivial
  rename_i x y hxs;have hx:x∈o.op.operands.toList:=by rw [ho]; simp [Op.operands,Call.operands,hxs]
  have hy:y∈o.op.operands.toList:=by rw [ho]; simp [Op.operands,Call.operands,hxs]
  have hf:et p ρ o=⟨some [],some [],cL ρ o,cL ρ o⟩:=by simp only [et,ho]
  rw [hf]
  split <;> try trivial
  rename_i ha hb;exact YK (jG (λr hr=>⟨eW hx hr,eW hx hr⟩) (h x hx _ ha).rows) (jG (λr hr=>eW hy hr) (h y hy _ hb).rows)
 ·-- clear
  rename_i args ats ho
  split <;> try trivial
  rename_i x hxs;have hx:x∈o.op.operands.toList:=by rw [ho]; simp [Op.operands,Call.operands,hxs]
  have hf:et p ρ o=⟨some [],some [],cL ρ o,cL ρ o⟩:=by simp only [et,ho]
  rw [hf]
  split <;> try trivial
  rename_i ha;exact Xi (jG (λr hr=>⟨eW hx hr,eW hx hr⟩) (h x hx _ ha).rows)
 ·split <;> try trivial
  split <;> trivial
 ·split <;> try trivial
  split <;> trivial
 ·trivial
end Go.Tm
set_option maxHeartbeats 1000000
namespace Go.Tm
open Go.RowKit
theorem TQ{P:Program}{ρ:Nat->fy}{ev ev':Operand->Option A}{o:Oper}(h:∀ x∈o.op.operands.toList,ev x=ev' x):qd P ρ ev o=qd P ρ ev' o:=by
 obtain ⟨dst,op,ty,pos,aft,gd⟩:=o
 cases op
 case call c =>
  obtain ⟨cal,args,ts⟩:=c
  cases cal with
  | value f=>simp only [qd]
  | invoke r m=>simp only [qd]
  | builtin b =>
   have h':∀ x∈args.toList,ev x=ev' x:=λx hx=>h x (by simp [Op.operands,Call.operands] at hx ⊢; exact hx)
   cases b <;> simp only [qd]
   all_goals
    split <;> try rfl
    first | (rename_i hl; rw [hl] at h') | (rename_i hl _; rw [hl] at h')
    try rw [h' _ (zWQ ..)]
    try rw [h' _ (zQj _ (zWQ ..))]
 case build t parts =>
  have:(parts.toList.map λ(i,x)=>(ev x).map λv=>(i,v))=parts.toList.map λ(i,x)=>(ev' x).map λv=>(i,v) :=
   zWg λq hq=>by
    have:=h q.2 qaD;simp only [this]
  simp only [qd,this]
 case buildSlice t n parts =>
  have:(parts.toList.map λ(i,x)=>(ev x).map λv=>(i,v))=parts.toList.map λ(i,x)=>(ev' x).map λv=>(i,v) :=
   zWg λq hq=>by
    have:=h q.2 qaD;simp only [this]
  simp only [qd,this]
 case makeFunc f first caps =>
  cases f <;> simp only [qd]
  have:caps.toList.map ev=caps.toList.map ev':=zWg λx hx=>h x (by simp [Op.operands] at hx ⊢; exact .inr hx);rw [this]
 case slice t x lo hi m =>
  cases m <;> simp only [qd]
  have h1:ev x=ev' x:=h x (by simp [Op.operands]);have h2:I5 ev lo=I5 ev' lo:=by
   cases lo with
   | none=>rfl
   | some l=>simp only [I5]; rw [h l (by simp [Op.operands])]
  have h3:I5 ev hi=I5 ev' hi:=by
   cases hi with
   | none=>rfl
   | some l=>simp only [I5]; rw [h l (by simp [Op.operands])]
  rw [h1,h2,h3]
 all_goals
  simp [Op.operands] at h;simp only [qd]
  try simp only [h]
inductive VZ (P:Program) (p:Nat->Bool) (ρ:Nat->fy) (st:St) (o:Oper) (x:A) (st':St):Prop
 | plain (h:(qd P ρ st.eval o).run st=some (x,st'))
 | call (m:Bool) (d f:Nat) (xf:Operand) (args:Array Operand) (ts:Array TypeId) (caps ln:List A) (vs:List V) (st1:St) (res:V) (outs:List (List C))
   (ho:o.op=.call { callee:=.value xf,args,argTypes:=ts }) (hd:o.dst=some d) (hf:st.eval xf=some (.clo f caps)) (has:ef (args.toList.map st.eval)=some ln)
   (hp:(kf m p (ln++caps) MA.ret).run st=some (vs,st1)) (hc:av P f vs res outs) (hr:(fa d (fL (ln++caps)) outs (V.toA d (iP d 0) res MA.ret)).run st1=some (x,st'))
 | callB (d f:Nat) (xf:Operand) (args:Array Operand) (ts:Array TypeId) (caps ln:List A) (vs:List V) (res:V)
   (ho:o.op=.call { callee:=.value xf,args,argTypes:=ts }) (hd:o.dst=some d) (hf:st.eval xf=some (.clo f caps)) (has:ef (args.toList.map st.eval)=some ln)
   (hp:(eZ (ln++caps) MA.ret).run st=some (vs,st)) (hc:av P f vs res []) (hpl:res.plain) (hr:(V.toA d (iP d 0) res MA.ret).run st=some (x,st'))
 | callI (m:Bool) (d f:Nat) (xf:Operand) (args:Array Operand) (ts:Array TypeId) (caps ln:List A) (vs:List V) (st1:St) (outs:List (List C)) (s off:Nat)
   (ho:o.op=.call { callee:=.value xf,args,argTypes:=ts }) (hd:o.dst=some d) (hf:st.eval xf=some (.clo f caps)) (has:ef (args.toList.map st.eval)=some ln)
   (hp:(kf m p (ln++caps) MA.ret).run st=some (vs,st1)) (hc:uE P f vs off outs) (hhd:(ln++caps).head?=some (.obj s 0)) (hr:(fa d (fL (ln++caps)) outs (MA.ret (.obj s off))).run st1=some (x,st'))
 | callD (d f:Nat) (xf:Operand) (args:Array Operand) (ts:Array TypeId) (caps ln:List A) (vs:List V) (res:V)
   (ho:o.op=.call { callee:=.value xf,args,argTypes:=ts }) (hd:o.dst=some d) (hf:st.eval xf=some (.clo f caps)) (has:ef (args.toList.map st.eval)=some ln)
   (hp:(eZ (ln++caps) MA.ret).run st=some (vs,st)) (hc:oY P f vs res) (hr:(V.toA d (iP d 0) res MA.ret).run st=some (x,st'))
 | callX (m:Bool) (d f:Nat) (xf:Operand) (args:Array Operand) (ts:Array TypeId) (az caps ln xs:List A) (vs us:List V) (st1:St) (res:V) (outs:List (List C))
   (ho:o.op=.call { callee:=.value xf,args,argTypes:=ts }) (hd:o.dst=some d) (hf:st.eval xf=some (.clo f caps)) (has:ef (args.toList.map st.eval)=some az) (hcat:az++caps=ln++xs)
   (hp:(kf m p ln MA.ret).run st=some (vs,st1)) (hq:(eZ xs MA.ret).run st1=some (us,st1)) (hc:U3 P f vs us res outs) (hr:(fa d (fL ln) outs (V.toA d (iP d 0) res MA.ret)).run st1=some (x,st'))
 | callW (d f r e lo m:Nat) (ts:List T) (rows:List (List T)) (xf:Operand) (args:Array Operand) (tys:Array TypeId) (ln:List A) (vs:List V)
   (ho:o.op=.call { callee:=.value xf,args,argTypes:=tys }) (hd:o.dst=some d) (hf:st.eval xf=some (.clo f [])) (has:ef (args.toList.map st.eval)=some (.agg (ts.map A.t++[.own r]) :: ln))
   (hrw:st.rw r=some (.live e 1 rows)) (hp:Fu ln=some vs) (hc:Kl P f e ts rows vs lo m) (hr:x=.win r lo m) (hst:st'=st)
 | callM (f:Nat) (xf:Operand) (args:Array Operand) (ts:Array TypeId) (ln:List A) (r:T)
   (ho:o.op=.call { callee:=.value xf,args,argTypes:=ts }) (hf:st.eval xf=some (.clo f [])) (has:ef (args.toList.map st.eval)=some ln)
   (hk:ln.all A.mk=true) (hx:ln.any A.hasX=true) (hc:MOK P f ln r) (hr:x=.t r) (hst:st'=st)
 | callR (d f r e sz:Nat) (rows rows':List (List T)) (xf:Operand) (args:Array Operand) (ts:Array TypeId) (ln:List A) (vs:List V) (res:T)
   (ho:o.op=.call { callee:=.value xf,args,argTypes:=ts }) (hd:o.dst=some d) (hf:st.eval xf=some (.clo f [])) (has:ef (args.toList.map st.eval)=some (.own r :: ln))
   (hrw:st.rw r=some (.live e sz rows)) (hp:(eZ ln MA.ret).run st=some (vs,st)) (hpl:vZ vs) (hc:ROK P f e sz rows vs res rows')
   (hr:x=.t res) (hst:st'={ st with rw:=jr st.rw r (some (.live e sz rows')) })
section
variable {P:Program} {E:En} [Tb P E] {g:Gh} {st st':St} {a:Act} {w:World} {p:Nat->Bool} {ρ:Nat->fy} {o:Oper} {x:A}
theorem VZ.sound{n:Nat}(hS:uU E g n st a w)(h:VZ P p ρ st o x st'):Aw P o a w λv w'=>∃ g',zu E g st w x st' v g' w':=by
 cases h with
 | plain h =>
  obtain ⟨u,g',w',h1,h2⟩:=TJ hS h;exact RU ⟨u,w',h1,g',h2⟩
 | call m d f xf args ts caps ln vs st1 res outs ho hd hf has hp hc hr=>exact TK hS ho hf has hp hc hr
 | callB d f xf args ts caps ln vs res ho hd hf has hp hc hpl hr=>exact RV hS ho hf has hp hc hpl hr
 | callI m d f xf args ts caps ln vs st1 outs s off ho hd hf has hp hc hhd hr=>exact RW hS ho hf has hp hc hhd hr
 | callD d f xf args ts caps ln vs res ho hd hf has hp hc hr=>exact RX hS ho hf has hp hc hr
 | callX m d f xf args ts az caps ln xs vs us st1 res outs ho hd hf has hcat hp hq hc hr=>exact R0 hS ho hf has hcat hp hq hc hr
 | callW d f r e lo m ts rows xf args tys ln vs ho hd hf has hrw hp hc hr hst=>subst hr hst; exact R4 hS ho hf has hrw hp hc
 | callM f xf args ts ln r ho hf has hk hx hc hr hst=>subst hr hst; exact RY hS ho hf has hk hx hc
 | callR d f r e sz rows rows' xf args ts ln vs res ho hd hf has hrw hp hpl hc hr hst=>subst hr hst; exact RZ hS ho hf has hrw hp hpl hc
theorem wb{st st2:St}{o:Oper}(h:∀ t,.tmp t∈o.op.operands.toList->st2.tm t=st.tm t):∀ y∈o.op.operands.toList,st2.eval y=st.eval y:=by
 intro y hy
 cases y with
 | tmp t=>simp only [St.eval]; rw [h t hy]
 | _=>rfl
theorem St.ext{s t:St}(h1:s.tm=t.tm)(h2:s.ob=t.ob)(h3:s.rw=t.rw):s=t:=by
 cases s; cases t; cases h1; cases h2; cases h3; rfl
theorem V0{D:TL}{a:A}(ho:∀ s,D.oR s/\D.oW s)(hr:∀ r,D.rR r/\D.rW r):a.argIn D p:=by
 unfold A.argIn
 split
 ·exact ⟨ho _,λ_=>hr⟩
 ·exact EF hr _
theorem YM{D:TL}{y:Operand}{a:A}(hc:Cls ρ y a)(ho:∀ s,has (Au ρ y).objs s->D.oR s/\D.oW s)(hr:∀ r,has (xj p (Au ρ y)) (r / 65536)->D.rR r/\D.rW r)(hfit:∀ s off,a=.obj s off->Au ρ y=.obj s\/Au ρ y=.any) :
  (a.argIn D p)/\a.inR λr=>D.rR r/\D.rW r:=by
 have h2:a.inR λr=>D.rR r/\D.rW r:=by
  by_cases hob:(Au ρ y).isObj=true
  ·obtain ⟨s,off,rfl⟩:=hc.isob hob;unfold A.inR; trivial
  ·refine jG (λr h=>hr r ?_) hc.rows
   revert h hob
   cases Au ρ y <;> simp [xj,fy.isObj]
 refine ⟨?_,h2⟩;unfold A.argIn
 split
 ·rename_i s;refine ⟨ho s (hc.objs s 0 rfl),λhp r=>hr r ?_⟩;rcases hfit s 0 rfl with h | h <;> rw [h] <;> simp [xj,hp,has,fy.rows]
 ·exact h2
theorem YN{y:Operand}{s off:Nat}(hf:eV ρ st o=true)(hy:y∈o.op.operands.toList)(h:st.eval y=some (.obj s off)):Au ρ y=.obj s\/Au ρ y=.any:=by
 cases y with
 | tmp t =>
  simp only [St.eval,Option.some.injEq] at h;have:=KB.1 hf _ hy;simp only [h] at this;simp only [Au]
  revert this
  cases ρ t <;> simp [fy.fits]
 | const v=>exact absurd rfl ((Dz (Q:=λ_=>True) h).2 s off)
 | func f=>simp [St.eval] at h
 | global=>cases h
theorem YO{y:Operand}{f:FuncId}{caps:List A}(hf:eV ρ st o=true)(hy:y∈o.op.operands.toList)(h:st.eval y=some (.clo f caps)):caps=[]\/Au ρ y=.any:=by
 cases y with
 | tmp t =>
  simp only [St.eval,Option.some.injEq] at h;have:=KB.1 hf _ hy;simp only [h] at this;simp only [Au]
  revert this
  cases ρ t <;> simp [fy.fits]
 | const v =>
  simp only [St.eval] at h;unfold A.ofValue at h
  split at h
  ·split at h <;> cases h
  ·cases h
  ·unfold qc at h
   split at h <;> cases h
 | func f'=>simp only [St.eval,Option.some.injEq,A.clo.injEq] at h; exact .inl h.2.symm
 | global=>cases h
theorem VZ.loc(hf:eV ρ st o=true)(h:VZ P p ρ st o x st'):Tr (et p ρ o).dom st st' /\
  ∀ st2,(∀ t,.tmp t∈o.op.operands.toList->st2.tm t=st.tm t)->On (et p ρ o).dom st st2->∃ st2',VZ P p ρ st2 o x st2'/\Tr (et p ρ o).dom st2 st2'/\On (et p ρ o).dom st' st2':=by
 have hcls:∀ x∈o.op.operands.toList,∀ a,st.eval x=some a->Cls ρ x a:=λx hx a h=>Xf hf hx h
 -- a call's parts
 have hcall:∀ {d f:Nat} {xf:Operand} {args:Array Operand} {ts:Array TypeId} {ln caps:List A},o.op=.call { callee:=.value xf,args,argTypes:=ts }->o.dst=some d->st.eval xf=some (.clo f caps)->ef (args.toList.map st.eval)=some ln ->
   (∀ y∈xf :: args.toList,y∈o.op.operands.toList)/\(∀ r,r / 65536=d->(et p ρ o).dom.rR r/\(et p ρ o).dom.rW r)/\((et p ρ o).dom.oR d/\(et p ρ o).dom.oW d) /\
   ∀ a∈ln++caps,a.argIn (et p ρ o).dom p/\a.inR λr=>(et p ρ o).dom.rR r/\(et p ρ o).dom.rW r:=by
  intro d f xf args ts ln caps ho hd hxf hass;have hf':et p ρ o=⟨G1 (Fd (o.op.operands.toList.map λx=>(Au ρ x).objs)) (nk o.dst),G1 (Fd (o.op.operands.toList.map λx=>(Au ρ x).objs)) (nk o.dst),
   G1 (Fd (o.op.operands.toList.map λx=>xj p (Au ρ x))) (nk o.dst),G1 (Fd (o.op.operands.toList.map λx=>xj p (Au ρ x))) (nk o.dst)⟩:=by simp only [et,ho]
  have hops:∀ y∈xf :: args.toList,y∈o.op.operands.toList:=λy hy=>by
   rw [ho];simp only [Op.operands,Call.operands]
   simpa using hy
  have hO:∀ y∈o.op.operands.toList,∀ s,has (Au ρ y).objs s->(et p ρ o).dom.oR s/\(et p ρ o).dom.oW s:=λy hy s hs=>by
   rw [hf'];have:=oZ (a:=Fd (o.op.operands.toList.map λx=>(Au ρ x).objs)) (b:=nk o.dst) |>.2 (.inl (ML (List.mem_map.2 ⟨y,hy,rfl⟩) hs))
   exact ⟨this,this⟩
  have hR:∀ y∈o.op.operands.toList,∀ r,has (xj p (Au ρ y)) (r / 65536)->(et p ρ o).dom.rR r/\(et p ρ o).dom.rW r:=λy hy r hs=>by
   rw [hf'];have:=oZ (a:=Fd (o.op.operands.toList.map λx=>xj p (Au ρ x))) (b:=nk o.dst) |>.2 (.inl (ML (List.mem_map.2 ⟨y,hy,rfl⟩) hs))
   exact ⟨this,this⟩
  refine ⟨hops,λr hr=>?_,?_,λa ha=>?_⟩
  ·rw [hf'];have:=oZ (k:=r / 65536) (a:=Fd (o.op.operands.toList.map λx=>xj p (Au ρ x))) (b:=nk o.dst) |>.2 (.inr (by rw [hd]; simp [nk,has,hr]))
   exact ⟨this,this⟩
  ·rw [hf'];have:=oZ (k:=d) (a:=Fd (o.op.operands.toList.map λx=>(Au ρ x).objs)) (b:=nk o.dst) |>.2 (.inr (by rw [hd]; simp [nk,has]))
   exact ⟨this,this⟩
  ·rcases An.1 ha with ha | ha
   ·obtain ⟨hl,hg⟩:=uV hass;obtain ⟨i,hi⟩:=zYv ha;obtain ⟨y,hy,he⟩:=hg i a hi;have hym:=hops y (zQj _ (zQY hy));exact YM (hcls y hym a he) (hO y hym) (hR y hym) (λs off h=>YN hf hym (h ▸ he))
   ·have hxm:=hops xf (zWQ ..);rcases YO hf hxm hxf with h | h
    ·subst h; simp at ha
    ·have hOa:∀ s,(et p ρ o).dom.oR s/\(et p ρ o).dom.oW s:=λs=>hO xf hxm s (by rw [h]; trivial);have hRa:∀ r,(et p ρ o).dom.rR r/\(et p ρ o).dom.rW r:=λr=>hR xf hxm r (by rw [h]; trivial);exact ⟨V0 hOa hRa,EF hRa a⟩
 cases h with
 | plain h =>
  obtain ⟨h1,h2⟩:=pz (qd P ρ st.eval o) (YL hcls) h;refine ⟨h1,λst2 ht hon=>?_⟩;obtain ⟨st2',h3,h4,h5⟩:=h2 st2 hon;refine ⟨st2',.plain ?_,h4,h5⟩;rw [TQ (wb ht)];exact h3
 | call m d f xf args ts caps ln vs st1 res outs ho hd hxf hass hp hc hr =>
  obtain ⟨hops,hdr,hdo,hin⟩:=hcall ho hd hxf hass;obtain ⟨h1,h2⟩:=pz (kf m p (ln++caps) MA.ret) (HE (D:=(et p ρ o).dom) (λa ha=>(hin a ha).1) (λ_=>trivial)) hp;obtain ⟨h3,h4⟩:=pz (fa d (fL (ln++caps)) outs (V.toA d (iP d 0) res MA.ret)) (AO (D:=(et p ρ o).dom) hdr (λs hs=>Dy (λa ha=>(hin a ha).1) s hs) (HF hdr hdo λ_=>trivial)) hr;refine ⟨h1.trans h3,λst2 ht hon=>?_⟩;obtain ⟨st3,h5,h6,h7⟩:=h2 st2 hon;obtain ⟨st4,h8,h9,h10⟩:=h4 st3 h7;have hev:=wb ht;refine ⟨st4,.call m d f xf args ts caps ln vs st3 res outs ho hd ((hev xf (hops xf (zWQ ..))).trans hxf) ?_ h5 hc h8,h6.trans h9,h10⟩;rw [<- hass]
  congr 1
  exact zWg λy hy=>hev y (hops y (zQj _ hy))
 | callI m d f xf args ts caps ln vs st1 outs s off ho hd hxf hass hp hc hhd hr =>
  obtain ⟨hops,hdr,hdo,hin⟩:=hcall ho hd hxf hass;obtain ⟨h1,h2⟩:=pz (kf m p (ln++caps) MA.ret) (HE (D:=(et p ρ o).dom) (λa ha=>(hin a ha).1) (λ_=>trivial)) hp;obtain ⟨h3,h4⟩:=pz (fa d (fL (ln++caps)) outs (MA.ret (A.obj s off))) (AO (D:=(et p ρ o).dom) hdr (λs hs=>Dy (λa ha=>(hin a ha).1) s hs) trivial) hr;refine ⟨h1.trans h3,λst2 ht hon=>?_⟩;obtain ⟨st3,h5,h6,h7⟩:=h2 st2 hon;obtain ⟨st4,h8,h9,h10⟩:=h4 st3 h7;have hev:=wb ht;refine ⟨st4,.callI m d f xf args ts caps ln vs st3 outs s off ho hd ((hev xf (hops xf (zWQ ..))).trans hxf) ?_ h5 hc hhd h8,h6.trans h9,h10⟩;rw [<- hass]
  congr 1
  exact zWg λy hy=>hev y (hops y (zQj _ hy))
 | callB d f xf args ts caps ln vs res ho hd hxf hass hp hc hpl hr =>
  obtain ⟨hops,hdr,hdo,hin⟩:=hcall ho hd hxf hass;obtain ⟨h1,h2⟩:=pz (eZ (ln++caps) MA.ret) (sD (D:=⟨(et p ρ o).dom.oR,λ_=>False,(et p ρ o).dom.rR,λ_=>False⟩) (sC λa ha=>jG (λr h=>h.1) (hin a ha).2) (λ_=>trivial)) hp;obtain ⟨h3,h4⟩:=pz (V.toA d (iP d 0) res MA.ret) (HF (D:=(et p ρ o).dom) hdr hdo λ_=>trivial) hr;refine ⟨h3,λst2 ht hon=>?_⟩;obtain ⟨st3,h5,h6,h7⟩:=h2 st2 ⟨hon.ob,hon.rw⟩;have h32:st3=st2:=St.ext h6.tm (funext λs=>h6.ob s (λh=>h)) (funext λs=>h6.rw s (λh=>h));subst h32;obtain ⟨st4,h8,h9,h10⟩:=h4 st3 hon;have hev:=wb ht;refine ⟨st4,.callB d f xf args ts caps ln vs res ho hd ((hev xf (hops xf (zWQ ..))).trans hxf) ?_ h5 hc hpl h8,h9,h10⟩;rw [<- hass]
  congr 1
  exact zWg λy hy=>hev y (hops y (zQj _ hy))
 | callD d f xf args ts caps ln vs res ho hd hxf hass hp hc hr =>
  obtain ⟨hops,hdr,hdo,hin⟩:=hcall ho hd hxf hass;obtain ⟨h1,h2⟩:=pz (eZ (ln++caps) MA.ret) (sD (D:=⟨(et p ρ o).dom.oR,λ_=>False,(et p ρ o).dom.rR,λ_=>False⟩) (sC λa ha=>jG (λr h=>h.1) (hin a ha).2) (λ_=>trivial)) hp;obtain ⟨h3,h4⟩:=pz (V.toA d (iP d 0) res MA.ret) (HF (D:=(et p ρ o).dom) hdr hdo λ_=>trivial) hr;refine ⟨h3,λst2 ht hon=>?_⟩;obtain ⟨st3,h5,h6,h7⟩:=h2 st2 ⟨hon.ob,hon.rw⟩;have h32:st3=st2:=St.ext h6.tm (funext λs=>h6.ob s (λh=>h)) (funext λs=>h6.rw s (λh=>h));subst h32;obtain ⟨st4,h8,h9,h10⟩:=h4 st3 hon;have hev:=wb ht;refine ⟨st4,.callD d f xf args ts caps ln vs res ho hd ((hev xf (hops xf (zWQ ..))).trans hxf) ?_ h5 hc h8,h9,h10⟩;rw [<- hass]
  congr 1
  exact zWg λy hy=>hev y (hops y (zQj _ hy))
 | callX m d f xf args ts az caps ln xs vs us st1 res outs ho hd hxf hass hcat hp hq hc hr =>
  obtain ⟨hops,hdr,hdo,hin⟩:=hcall ho hd hxf hass;rw [hcat] at hin;obtain ⟨h1,h2⟩:=pz (kf m p ln MA.ret) (HE (D:=(et p ρ o).dom) (λa ha=>(hin a (zVq _ ha)).1) (λ_=>trivial)) hp;obtain ⟨g1,g2⟩:=pz (eZ xs MA.ret) (sD (D:=⟨(et p ρ o).dom.oR,λ_=>False,(et p ρ o).dom.rR,λ_=>False⟩) (sC λa ha=>jG (λr h=>h.1) (hin a (List.mem_append_right _ ha)).2) (λ_=>trivial)) hq;obtain ⟨h3,h4⟩:=pz (fa d (fL ln) outs (V.toA d (iP d 0) res MA.ret)) (AO (D:=(et p ρ o).dom) hdr (λs hs=>Dy (λa ha=>(hin a (zVq _ ha)).1) s hs) (HF hdr hdo λ_=>trivial)) hr;refine ⟨h1.trans h3,λst2 ht hon=>?_⟩;obtain ⟨st3,h5,h6,h7⟩:=h2 st2 hon;obtain ⟨st5,g5,g6,g7⟩:=g2 st3 ⟨h7.ob,h7.rw⟩;have h53:st5=st3:=St.ext g6.tm (funext λs=>g6.ob s (λh=>h)) (funext λs=>g6.rw s (λh=>h));subst h53;obtain ⟨st4,h8,h9,h10⟩:=h4 st5 h7;have hev:=wb ht;refine ⟨st4,.callX m d f xf args ts az caps ln xs vs us st5 res outs ho hd ((hev xf (hops xf (zWQ ..))).trans hxf) ?_ hcat h5 g5 hc h8,h6.trans h9,h10⟩;rw [<- hass]
  congr 1
  exact zWg λy hy=>hev y (hops y (zQj _ hy))
 | callW d f r e lo m ts rows xf args tys ln vs ho hd hxf hass hrw hp hc hr hst =>
  subst hr hst;obtain ⟨hops,hdr,hdo,hin⟩:=hcall (caps:=[]) ho hd hxf hass;have hr0:=(hin (.agg (ts.map A.t++[.own r])) kU).2;unfold A.inR at hr0;have hr1:(et p ρ o).dom.rR r/\(et p ρ o).dom.rW r:=by
   have key:∀ l:List T,gB (λr=>(et p ρ o).dom.rR r/\(et p ρ o).dom.rW r) (l.map A.t++[.own r])->(et p ρ o).dom.rR r/\(et p ρ o).dom.rW r:=by
    intro l
    induction l with
    | nil=>intro h; simp only [List.map_nil,zWH] at h; unfold gB at h; have:=h.1; unfold A.inR at this; exact this
    | cons x l ih=>intro h; simp only [zWh,zXy] at h; unfold gB at h; exact ih h.2
   exact key ts hr0
  refine ⟨Tr.refl _ _,λst2 ht hon=>⟨st2,?_,Tr.refl _ _,hon⟩⟩;have hev:=wb ht;refine .callW d f r e lo m ts rows xf args tys ln vs ho hd ((hev xf (hops xf (zWQ ..))).trans hxf) ?_ ((hon.rw r hr1.1).trans hrw) hp hc rfl rfl;rw [<- hass]
  congr 1
  exact zWg λy hy=>hev y (hops y (zQj _ hy))
 | callM f xf args ts ln r ho hxf hass hk hx hc hr hst =>
  subst hr hst;refine ⟨Tr.refl _ _,λst2 ht hon=>⟨st2,?_,Tr.refl _ _,hon⟩⟩;have hev:=wb ht;have hops:∀ y∈xf :: args.toList,y∈o.op.operands.toList:=λy hy=>by
   rw [ho];simp only [Op.operands,Call.operands]
   simpa using hy
  refine .callM f xf args ts ln r ho ((hev xf (hops xf (zWQ ..))).trans hxf) ?_ hk hx hc rfl rfl;rw [<- hass]
  congr 1
  exact zWg λy hy=>hev y (hops y (zQj _ hy))
 | callR d f r e sz rows rows' xf args ts ln vs res ho hd hxf hass hrw hp hpl hc hr hst =>
  subst hr hst;obtain ⟨hops,hdr,hdo,hin⟩:=hcall (caps:=[]) ho hd hxf hass;have hr0:=(hin (.own r) kU).2;unfold A.inR at hr0;obtain ⟨h1,h2⟩:=pz (eZ ln MA.ret) (sD (D:=⟨(et p ρ o).dom.oR,λ_=>False,(et p ρ o).dom.rR,λ_=>False⟩) (sC λa ha=>jG (λr h=>h.1) (hin a (by simp [ha])).2) (λ_=>trivial)) hp;refine ⟨⟨rfl,λ_ _=>rfl,λi hi=>fu _ _ _ _ (λhe=>hi (he ▸ hr0.2))⟩,λst2 ht hon=>?_⟩;obtain ⟨st3,h5,h6,h7⟩:=h2 st2 ⟨hon.ob,hon.rw⟩;have h32:st3=st2:=St.ext h6.tm (funext λs=>h6.ob s (λh=>h)) (funext λs=>h6.rw s (λh=>h));subst h32;have hev:=wb ht;refine ⟨_,.callR d f r e sz rows rows' xf args ts ln vs res ho hd ((hev xf (hops xf (zWQ ..))).trans hxf) ?_ ((hon.rw r hr0.1).trans hrw) h5 hpl hc rfl rfl,⟨rfl,λ_ _=>rfl,λi hi=>fu _ _ _ _ (λhe=>hi (he ▸ hr0.2))⟩,⟨hon.ob,λi hi=>TM (hon.rw i hi)⟩⟩;rw [<- hass]
  congr 1
  exact zWg λy hy=>hev y (hops y (zQj _ hy))
end
def iU(ops:Array Oper)(st:St)(o:Oper):Option Bool:=match o.guard with
 | none=>some true
 | some (j,want)=>match (ops[j]?).bind (·.dst) with
  | none=>some false
  | some d=>match st.tm d with
   | .t (.bool b)=>some (b == want)
   | .tup []=>some false
   | _=>none
def YP(ops:Array Oper)(o:Oper):List Nat:=match o.guard with
 | none=>[]
 | some (j,_)=>((ops[j]?).bind (·.dst)).toList
inductive CQ (P:Program) (p:Nat->Bool) (ρ:Nat->fy) (ops:Array Oper) (o:Oper) (st:St):St->Prop
 | run (x:A) (st1:St) (hg:iU ops st o=some true) (hf:eV ρ st o=true) (h:VZ P p ρ st o x st1):CQ P p ρ ops o st (st1.put o.dst x)
 | skip (hg:iU ops st o=some false):CQ P p ρ ops o st (st.put o.dst (.tup []))
section
variable {P:Program} {E:En} [Tb P E] {g:Gh} {st st':St} {a:Act} {w:World} {p:Nat->Bool} {ρ:Nat->fy} {o:Oper} {x:A} {ops:Array Oper}
theorem Km{st2:St}(h:∀ d∈YP ops o,st2.tm d=st.tm d):iU ops st2 o=iU ops st o:=by
 unfold iU YP at *
 split
 ·rfl
 ·rename_i j want hg;simp only [hg] at h
  split
  ·rfl
  ·rename_i d hd;simp only [hd,Option.toList] at h;rw [h d kU]
theorem Qo{st2:St}(h:∀ t,.tmp t∈o.op.operands.toList->st2.tm t=st.tm t):eV ρ st2 o=eV ρ st o:=by
 unfold eV
 revert h
 generalize o.op.operands.toList=l;intro h
 induction l with
 | nil=>rfl
 | cons y l ih =>
  simp only [List.all_cons];rw [ih λt ht=>h t (zQj _ ht)]
  cases y with
  | tmp t=>simp only [h t (zWQ ..)]
  | _=>rfl
def U6(D:TL)(dst:Option Nat)(st st':St):Prop:=(∀ t,dst≠some t->st'.tm t=st.tm t)/\(∀ s,¬ D.oW s->st'.ob s=st.ob s)/\∀ r,¬ D.rW r->st'.rw r=st.rw r
theorem MN{d:Option Nat}{v:A}{t:Nat}(h:d≠some t):(st.put d v).tm t=st.tm t:=by
 cases d with
 | none=>rfl
 | some d=>exact fu _ _ _ _ (λhe=>h (he ▸ rfl))
theorem EI{d:Nat}{v:A}:(st.put (some d) v).tm d=v:=ig _ _ _
theorem Co{d:Option Nat}{v:A}:(st.put d v).ob=st.ob:=by cases d <;> rfl
theorem Cp{d:Option Nat}{v:A}:(st.put d v).rw=st.rw:=by cases d <;> rfl
theorem CQ.loc(h:CQ P p ρ ops o st st'):U6 (et p ρ o).dom o.dst st st' /\
  ∀ st2,(∀ t,.tmp t∈o.op.operands.toList->st2.tm t=st.tm t)->(∀ d∈YP ops o,st2.tm d=st.tm d)->On (et p ρ o).dom st st2 ->
   ∃ st2',CQ P p ρ ops o st2 st2'/\(∀ t,o.dst=some t->st2'.tm t=st'.tm t)/\U6 (et p ρ o).dom o.dst st2 st2'/\On (et p ρ o).dom st' st2':=by
 cases h with
 | run x st1 hg hf h =>
  obtain ⟨h1,h2⟩:=h.loc hf;refine ⟨⟨λt ht=>by rw [MN ht,h1.tm],λs hs=>by rw [Co]; exact h1.ob s hs,λs hs=>by rw [Cp]; exact h1.rw s hs⟩,λst2 ht hd hon=>?_⟩;obtain ⟨st2',h3,h4,h5⟩:=h2 st2 ht hon;refine ⟨_,.run x st2' ((Km hd).trans hg) ((Qo ht).trans hf) h3,λt he=>?_,⟨λt ht=>by rw [MN ht,h4.tm],λs hs=>by rw [Co]; exact h4.ob s hs,λs hs=>by rw [Cp]; exact h4.rw s hs⟩,⟨λs hs=>by rw [Co,Co]; exact h5.ob s hs,λs hs=>by rw [Cp,Cp]; exact h5.rw s hs⟩⟩;rw [he,EI,EI]
 | skip hg =>
  refine ⟨⟨λt ht=>MN ht,λs hs=>by rw [Co],λs hs=>by rw [Cp]⟩,λst2 ht hd hon=>?_⟩;refine ⟨_,.skip ((Km hd).trans hg),λt he=>by rw [he,EI,EI],⟨λt ht=>MN ht,λs hs=>by rw [Co],λs hs=>by rw [Cp]⟩,⟨λs hs=>by rw [Co,Co]; exact hon.ob s hs,λs hs=>by rw [Cp,Cp]; exact hon.rw s hs⟩⟩
def V1(a b:Option (List Nat)):Bool:=match a,b with
 | some [],_=>true
 | _,some []=>true
 | some a,some b=>a.all λx=>!b.contains x
 | _,_=>false
theorem EJ{a b:Option (List Nat)}(h:V1 a b=true){k:Nat}(ha:has a k):¬ has b k:=by
 intro hb;unfold V1 at h
 split at h
 ·simp [has] at ha
 ·simp [has] at hb
 ·have:=KB.1 h k ha;simp at this;exact this hb
 ·cases h
def Jb(ops:Array Oper)(o:Oper):List Nat:=YP ops o++o.op.operands.toList.filterMap λ| .tmp t=>some t | _=>none
def U7(d:Option Nat)(l:List Nat):Bool:=match d with | some d=>l.contains d | none=>false
def Xj(p:Nat->Bool)(ρ:Nat->fy)(ops:Array Oper)(o1 o2:Oper):Bool :=
 !U7 o1.dst (o2.dst.toList++Jb ops o2) && !U7 o2.dst (Jb ops o1) && V1 (et p ρ o1).oW (et p ρ o2).oR && V1 (et p ρ o2).oW (et p ρ o1).oR &&
  V1 (et p ρ o1).rW (et p ρ o2).rR && V1 (et p ρ o2).rW (et p ρ o1).rR
theorem R8{t:Nat}(h:.tmp t∈o.op.operands.toList):t∈Jb ops o:=by
 unfold Jb;exact An.2 (.inr (List.mem_filterMap.2 ⟨_,h,rfl⟩))
theorem YQ{o1 o2:Oper}{b:St}{c:St}(hi:Xj p ρ ops o1 o2=true)(h2:CQ P p ρ ops o2 st b)(h1:CQ P p ρ ops o1 b c):∃ b',CQ P p ρ ops o1 st b'/\CQ P p ρ ops o2 b' c:=by
 simp only [Xj,sk,Bool.not_eq_true'] at hi;obtain ⟨⟨⟨⟨⟨hd1,hd2⟩,ho12⟩,ho21⟩,hr12⟩,hr21⟩:=hi;have hn1:∀ t,o1.dst=some t->t∉o2.dst.toList/\t∉Jb ops o2:=λt ht=>by
  rw [ht] at hd1;simp [U7] at hd1;exact ⟨by simpa using hd1.1,hd1.2⟩
 have hn2:∀ t,o2.dst=some t->t∉Jb ops o1:=λt ht=>by
  rw [ht] at hd2
  simpa [U7] using hd2
 obtain ⟨a1,a2⟩:=h2.loc;obtain ⟨b1,b2⟩:=h1.loc;have e1:=U5 p ρ o1;have e2:=U5 p ρ o2;have hO12:∀ s,(et p ρ o1).dom.oW s->¬ (et p ρ o2).dom.oR s:=λs=>EJ ho12;have hO21:∀ s,(et p ρ o2).dom.oW s->¬ (et p ρ o1).dom.oR s:=λs=>EJ ho21;have hR12:∀ r,(et p ρ o1).dom.rW r->¬ (et p ρ o2).dom.rR r:=λs=>EJ hr12;have hR21:∀ r,(et p ρ o2).dom.rW r->¬ (et p ρ o1).dom.rR r:=λs=>EJ hr21;obtain ⟨b',c1,c2,c3,c4⟩:=b2 st (λt ht=>(a1.1 t (λhe=>hn2 t he (R8 ht))).symm) (λt ht=>(a1.1 t (λhe=>hn2 t he (An.2 (.inl ht)))).symm)
  ⟨λs hs=>(a1.2.1 s (λhw=>hO21 s hw hs)).symm,λs hs=>(a1.2.2 s (λhw=>hR21 s hw hs)).symm⟩
 obtain ⟨c',f1,f2,f3,f4⟩:=a2 b' (λt ht=>c3.1 t (λhe=>(hn1 t he).2 (R8 ht))) (λt ht=>c3.1 t (λhe=>(hn1 t he).2 (An.2 (.inl ht))))
  ⟨λs hs=>c3.2.1 s (λhw=>hO12 s hw hs),λs hs=>c3.2.2 s (λhw=>hR12 s hw hs)⟩
 have hcc:c'=c:=by
  refine St.ext (funext λt=>?_) (funext λs=>?_) (funext λr=>?_)
  ·by_cases h2t:o2.dst=some t
   ·rw [f2 t h2t];exact (b1.1 t (λhe=>(hn1 t he).1 (by rw [h2t]; simp))).symm
   ·by_cases h1t:o1.dst=some t
    ·rw [f3.1 t h2t,c2 t h1t]
    ·rw [f3.1 t h2t,c3.1 t h1t,b1.1 t h1t,a1.1 t h2t]
  ·by_cases h2s:(et p ρ o2).dom.oW s
   ·rw [f4.ob s (e2.ob s h2s)];exact (b1.2.1 s (λhw=>hO12 s hw (e2.ob s h2s))).symm
   ·by_cases h1s:(et p ρ o1).dom.oW s
    ·rw [f3.2.1 s h2s,c4.ob s (e1.ob s h1s)]
    ·rw [f3.2.1 s h2s,c3.2.1 s h1s,b1.2.1 s h1s,a1.2.1 s h2s]
  ·by_cases h2s:(et p ρ o2).dom.rW r
   ·rw [f4.rw r (e2.rw r h2s)];exact (b1.2.2 r (λhw=>hR12 r hw (e2.rw r h2s))).symm
   ·by_cases h1s:(et p ρ o1).dom.rW r
    ·rw [f3.2.2 r h2s,c4.rw r (e1.rw r h1s)]
    ·rw [f3.2.2 r h2s,c3.2.2 r h1s,b1.2.2 r h1s,a1.2.2 r h2s]
 exact ⟨b',c1,hcc ▸ f1⟩
def Fw(P:Program)(p:Nat->Bool)(ρ:Nat->fy)(ops:Array Oper)(i:Nat)(st st':St):Prop:=match ops[i]? with
 | some o=>CQ P p ρ ops o st st'
 | none=>st'=st
def TR(P:Program)(p:Nat->Bool)(ρ:Nat->fy)(ops:Array Oper):List Nat->St->St->Prop
 | [],st,st'=>st'=st
 | i :: l,st,st'=>∃ b,Fw P p ρ ops i st b/\TR P p ρ ops l b st'
def Gf(p:Nat->Bool)(ρ:Nat->fy)(ops:Array Oper)(i j:Nat):Bool:=match ops[i]?,ops[j]? with
 | some a,some b=>Xj p ρ ops a b
 | _,_=>true
theorem Xk{i j:Nat}{b c:St}(hi:Gf p ρ ops i j=true)(h2:Fw P p ρ ops j st b)(h1:Fw P p ρ ops i b c):∃ b',Fw P p ρ ops i st b'/\Fw P p ρ ops j b' c:=by
 unfold Fw Gf at *
 revert h1 h2 hi
 cases ops[i]? <;> cases ops[j]? <;> simp only [] <;> intro hi h2 h1
 ·exact ⟨st,rfl,by rw [h1,h2]⟩
 ·exact ⟨st,rfl,by rw [h1]; exact h2⟩
 ·exact ⟨c,h2 ▸ h1,rfl⟩
 ·exact YQ hi h2 h1
theorem pull{i:Nat}:∀ {l:List Nat} {st st':St},i∈l->(∀ l1 l2,l=l1++i :: l2->i∉l1->∀ j∈l1,Gf p ρ ops i j=true)->TR P p ρ ops l st st'->∃ b,Fw P p ρ ops i st b/\TR P p ρ ops (l.erase i) b st'
 | [],st,st',h,_,_=>by simp at h
 | j :: l,st,st',h,hind,hr=>by
  by_cases he:i=j
  ·subst he;rw [List.erase_cons_head];exact hr
  ·obtain ⟨b,h1,h2⟩:=hr;have him:i∈l:=(aaa.1 h).resolve_left he;obtain ⟨c,h3,h4⟩:=pull him (λl1 l2 hl hni j' hj'=>hind (j :: l1) l2 (by rw [hl]; rfl) (by simp [he,hni]) j' (zQj _ hj')) h2;have hij:Gf p ρ ops i j=true:=by
    obtain ⟨l1,l2,hl,hni⟩:=List.eq_append_cons_of_mem him;exact hind (j :: l1) l2 (by rw [hl]; rfl) (by simp [he,hni]) j (zWQ ..)
   obtain ⟨d,h5,h6⟩:=Xk hij h1 h3;refine ⟨d,h5,?_⟩;rw [List.erase_cons_tail (by simpa using λh=>he h.symm)];exact ⟨c,h6,h4⟩
end
section
variable {P:Program} {E:En} [Tb P E] {g:Gh} {st st':St} {a:Act} {w:World} {p:Nat->Bool} {ρ:Nat->fy} {o:Oper} {x:A} {ops:Array Oper} {n:Nat}
theorem gG.put(h:gG E g st w)(d:Option Nat)(v:A):gG E g (st.put d v) w:=by
 cases d with
 | none=>exact h
 | some d=>exact ⟨h.ob,h.obne,h.row,h.rowne,h.rowob,h.F,h.os,h.tape,h.output,h.sizes,h.frame,h.shp,h.dep0⟩
theorem uU.put{v:Value}{g':Gh}{w':World}{st1:St}{d:Option Nat}(hS:uU E g n st a w)(h:zu E g st w x st1 v g' w')(hd:∀ t,d=some t->t < n):uU E g' n (st1.put d x) (a.put d v) w':=by
 refine ⟨h.mem.put d x,?_,?_,λi hi=>?_,λi hi=>?_,λs b hs=>?_,λv' hv'=>by
  obtain ⟨h1,h2⟩:=hS.pin v' hv';exact ⟨by unfold St.R; rw [Cp]; exact (h.ext.R _ h1).1,(h.ext.R _ h1).2.trans h2⟩⟩
 ·cases d <;> simp [Act.put,hS.size]
 ·cases d <;> simp [Act.put,hS.defers]
 ·cases d with
  | none =>
   obtain ⟨u,h1,h2⟩:=hS.tm i hi;exact ⟨u,h1,by show VR w' g' st1.O st1.R (st1.tm i) u; rw [h.tm]; exact h2.mono h.ext⟩
  | some d =>
   by_cases he:d=i
   ·subst he;exact ⟨v,by simp [Act.put,hS.size,hi],by show VR w' g' st1.O st1.R (jr st1.tm d x d) v; rw [ig]; exact h.vr⟩
   ·obtain ⟨u,h1,h2⟩:=hS.tm i hi;refine ⟨u,by simp only [Act.put]; rw [Array.getElem?_setIfInBounds_ne he]; exact h1,?_⟩;show VR w' g' st1.O st1.R (jr st1.tm d x i) u;rw [fu _ _ _ _ (λh=>he h.symm),h.tm];exact h2.mono h.ext
 ·rw [MN (λhe=>by have:=hd i he; omega),h.tm];exact hS.und i hi
 ·obtain ⟨h1,h2⟩:=hS.lent s b hs;refine ⟨?_,(h.ext.O s h1).2.trans h2⟩;unfold St.O;rw [Co];exact (h.ext.O s h1).1
theorem uU.skip{d:Option Nat}(hS:uU E g n st a w)(hd:∀ t,d=some t->t < n):uU E g n (st.put d (.tup [])) (a.put d undef) w:=by
 refine hS.put ⟨hS.mem,?_,th.refl _ _ _ _,rfl⟩ hd;exact .tup [] [] rfl (λi x u h=>by simp at h)
theorem uU.drew(hS:uU E g n st a w):uU E g n st a { w with drawn:=w.drawn+1 }:=by
 have hsame:Av g.F w { w with drawn:=w.drawn+1 }:=λ_ _=>rfl;obtain ⟨⟨h1,h2,h3,h4,h5,h6,h7,h8,h9,h10,h11,hsp,hd0⟩,h12,h13,h14,h15,h16,h17⟩:=hS;have hE:th w { w with drawn:=w.drawn+1 } g g st.O st.R st.O st.R:=⟨hsame,λ_ h=>h,λ_ h=>⟨h,rfl⟩,λ_ h=>⟨h,rfl⟩,⟨rfl,rfl,rfl⟩,rfl,rfl⟩;refine ⟨⟨λs cells hs=>?_,h2,λr x hr=>(h3 r x hr).mono hsame (λ_ h=>h) (λ_ b hb=>⟨rfl,λh=>h⟩),h4,h5,h6,h7,h8,h9,h10,h11,hsp,hd0⟩,h12,h13,λi hi=>?_,h15,h16,h17⟩
 ·obtain ⟨arr,e,q1,q2,q3,q4⟩:=h1 s cells hs;exact ⟨arr,e,q1,q2,λj x hj=>by obtain ⟨r1,v,r2,r3⟩:=q3 j x hj; exact ⟨r1,v,r2,r3.mono hE⟩,q4⟩
 ·obtain ⟨v,q1,q2⟩:=h14 i hi;exact ⟨v,q1,q2.mono hE⟩
theorem PB{b:Bool}(hS:uU E g n st a w)(h:iU ops st o=some b):Region.wanted o (yielded ops a.tmps)=b:=by
 unfold iU at h;unfold Region.wanted
 split at h
 ·rename_i hg
  cases h
  simp only [hg]
 ·rename_i j want hg;simp only [hg]
  split at h
  ·rename_i hd
   cases h
   simp [yielded,hd]
  ·rename_i d hd;have hlt:d < n:=by
    rcases Nat.lt_or_ge d n with hlt | hge
    ·exact hlt
    ·rw [hS.und d hge] at h; cases h
   obtain ⟨v,h1,h2⟩:=hS.tm d hlt
   split at h
   ·rename_i b' hb
    cases h
    rw [hb] at h2
    cases h2 with
    | t x v h3 =>
     cases h3
     simp [yielded,hd,h1]
   ·rename_i hb
    cases h
    rw [hb] at h2
    cases h2 with
    | tup l vs hl hx =>
     have:vs=[]:=zQW (by simpa using hl.symm);subst this;simp [yielded,hd,h1]
   ·cases h
def xT(n:Nat)(o:Oper):Bool:=match o.dst with | some d=>Nat.blt d n | none=>true
theorem TS(h:xT n o=true):∀ t,o.dst=some t->t < n:=by
 intro t ht;rw [xT,ht] at h
 simpa using h
theorem MO{i:Nat}{K:Act->World->Prop}{Q:Exit->Act->World->Prop}(hS:uU E g n st a w)(hd:∀ o,ops[i]?=some o->xT n o=true)(h:Fw P p ρ ops i st st')
  (hK:∀ g' a' w',uU E g' n st' a' w'->K a' w'):wpOp P ops Q i K a w:=by
 unfold wpOp;unfold Fw at h
 split
 ·rename_i ho;rw [ho] at h;simp only at h;subst h;exact hK g a w hS
 ·rename_i o ho;rw [ho] at h;simp only at h;have hdo:=TS (hd o ho)
  cases h with
  | run x st1 hg hf he =>
   rw [PB hS hg,if_pos rfl];exact .inl (he.sound hS K Q λv w' ⟨g',hA⟩=>hK g' _ _ (hS.put hA hdo))
  | skip hg =>
   rw [PB hS hg,if_neg kU];exact hK g _ _ (hS.skip hdo)
theorem PC{Q:Exit->Act->World->Prop}(hd:∀ (i:Nat) (o:Oper),ops[i]?=some o->xT n o=true)(hQ:∀ g a w,uU E g n st' a w->Q .normal a w):∀ {l:List Nat} {st:St} {g:Gh} {a:Act} {w:World},uU E g n st a w->TR P p ρ ops l st st'->wpOps P ops Q l a w
 | [],st,g,a,w,hS,h=>hQ g a w (by have h:st'=st:=h; rw [h]; exact hS)
 | i :: l,st,g,a,w,hS,⟨b,h1,h2⟩=>by
  rw [wpOps_cons];exact MO hS (hd i) h1 λg' a' w' hS'=>PC hd hQ hS' h2
def Xl(D:Array Nat)(o:Oper):Nat:=o.after.toList.foldl (λs e=>if Region.binds .any e then s ||| 2 ^ e.on ||| D.getD e.on 0 else s) 0
def R9(p:Nat->Bool)(ρ:Nat->fy)(n:Nat)(ops:Array Oper):Bool :=
 let D:=Region.before ops
 (zXW ops.size).all λi=>match ops[i]? with
  | none=>true
  | some o=>xT n o && (o.after.toList.all λe=>!Region.binds .any e || Nat.blt e.on i) && zXX (D.getD i 0) (Xl D o) && (zXW i).all λj=>(D.getD i 0).testBit j || Gf p ρ ops i j
theorem PD{D:Array Nat}{j:Nat}:∀ {l:List Edge} {s:Nat},(l.foldl (λs e=>if Region.binds .any e then s ||| 2 ^ e.on ||| D.getD e.on 0 else s) s).testBit j=true->s.testBit j=true\/∃ e∈l,Region.binds .any e=true/\(e.on=j\/(D.getD e.on 0).testBit j=true)
 | [],s,h=>.inl h
 | e :: l,s,h=>by
  simp only [List.foldl_cons] at h;rcases PD h with h | ⟨e',he',h⟩
  ·split at h
   ·rename_i hb;simp only [Nat.testBit_or,Bool.or_eq_true] at h;rcases h with (h | h) | h
    ·exact .inl h
    ·rw [Nat.testBit_two_pow] at h;exact .inr ⟨e,zWQ ..,hb,.inl (by simpa using h)⟩
    ·exact .inr ⟨e,zWQ ..,hb,.inr h⟩
   ·exact .inl h
  ·exact .inr ⟨e',zQj _ he',h⟩
structure MP (p:Nat->Bool) (ρ:Nat->fy) (n:Nat) (ops:Array Oper) (D:Array Nat):Prop where
 dst:∀ (i:Nat) (o:Oper),ops[i]?=some o->xT n o=true
 back:∀ (i:Nat) (o:Oper),ops[i]?=some o->∀ e∈o.after,Region.binds .any e=true->e.on < i
 dep:∀ (i:Nat) (o:Oper),ops[i]?=some o->∀ j,(D.getD i 0).testBit j=true->∃ e∈o.after,Region.binds .any e=true/\(e.on=j\/(D.getD e.on 0).testBit j=true)
 ind:∀ (i j:Nat) (o:Oper),ops[i]?=some o->j < i->(D.getD i 0).testBit j=true\/Gf p ρ ops i j=true
theorem TT(h:R9 p ρ n ops=true):MP p ρ n ops (Region.before ops):=by
 have hh:∀ (i:Nat) (o:Oper),ops[i]?=some o->((xT n o=true/\(o.after.toList.all λe=>!Region.binds .any e || Nat.blt e.on i)=true)/\zXX ((Region.before ops).getD i 0) (Xl (Region.before ops) o)=true)/\((zXW i).all λj=>((Region.before ops).getD i 0).testBit j || Gf p ρ ops i j)=true:=λi o hi=>by
  have hlt:i < ops.size:=(Wk.1 hi).1;have:=KB.1 h i (List.mem_range.2 hlt);rw [hi] at this
  simpa only [sk] using this
 refine ⟨λi o hi=>(hh i o hi).1.1.1,λi o hi e he hb=>?_,λi o hi j hj=>?_,λi j o hi hj=>?_⟩
 ·have:=KB.1 (hh i o hi).1.1.2 e (by simpa using he);rw [hb] at this
  simpa using this
 ·rw [zWz (hh i o hi).1.2] at hj;rcases PD hj with h | ⟨e,he,h⟩
  ·simp at h
  ·exact ⟨e,by simpa using he,h⟩
 ·have:=KB.1 (hh i o hi).2 j (List.mem_range.2 hj)
  simpa only [Bool.or_eq_true] using this
def qaN(ops:Array Oper)(listed:Array Bool):Prop:=∀ (k:Nat) (o:Oper),listed.getD k false=true->ops[k]?=some o->∀ e∈o.after,Region.binds .any e=true->listed.getD e.on false=true
theorem closed{D:Array Nat}{listed:Array Bool}(hF:MP p ρ n ops D)(hd:qaN ops listed):∀ (i:Nat) (o:Oper),ops[i]?=some o->(∀ e∈o.after,Region.binds .any e=true->listed.getD e.on false=true)->∀ j,(D.getD i 0).testBit j=true->listed.getD j false=true:=by
 intro i
 induction i using Nat.strongRecOn with
 | _ i ih =>
  intro o ho hall j hj;obtain ⟨e,he,hb,h⟩:=hF.dep i o ho j hj;rcases h with rfl | h
  ·exact hall e he hb
  ·have hlt:e.on < i:=hF.back i o ho e he hb;have hlt2:e.on < ops.size:=Nat.lt_trans hlt (Wk.1 ho).1;exact ih e.on hlt _ (zYW hlt2) (hd e.on _ (hall e he hb) (zYW hlt2)) j h
def rem(ops:Array Oper)(listed:Array Bool):List Nat:=(zXW ops.size).filter λi=>!listed.getD i true
theorem EK{listed:Array Bool}{i:Nat}:i∈rem ops listed↔i < ops.size/\listed.getD i true=false:=by
 simp [rem]
theorem U8{listed:Array Bool}{i:Nat}(hs:listed.size=ops.size)(hi:i∈rem ops listed):rem ops (listed.setIfInBounds i true)=(rem ops listed).erase i:=by
 have hnd:(rem ops listed).Nodup:=List.Pairwise.filter _ List.nodup_range;rw [hnd.erase_eq_filter];unfold rem;rw [List.filter_filter];refine List.filter_congr λj hj=>?_
 by_cases he:i=j
 ·subst he;have:i < listed.size:=by rw [hs]; exact List.mem_range.1 hj
  simp [this]
 ·rw [getD_set_ne true he];have hji:(j != i)=true:=by simpa using λh:j=i=>he h.symm
  simp only [hji,zWX,zYX]
theorem U9{listed:Array Bool}{k:Nat}(hlt:k < listed.size):listed.getD k true=listed.getD k false:=by
 simp [hlt]
theorem V2{D:Array Nat}{Q:Exit->Act->World->Prop}(hF:MP p ρ n ops D)(hQ:∀ g a w,uU E g n st' a w->Q .normal a w) :
  ∀ (fuel:Nat) (listed:Array Bool) (st:St) (g:Gh) (a:Act) (w:World),listed.size=ops.size->qaN ops listed->(rem ops listed).length=fuel->TR P p ρ ops (rem ops listed) st st'->uU E g n st a w->wpAny P .any ops Q fuel listed a w:=by
 intro fuel
 induction fuel with
 | zero =>
  intro listed st g a w hs hd hl hr hS;have h0:rem ops listed=[]:=zQW hl;rw [h0] at hr;have hr:st'=st:=hr;refine ⟨?_,hQ g a w (hr ▸ hS)⟩;refine List.eq_nil_iff_forall_not_mem.2 λj hj=>?_;obtain ⟨h1,o,ho,_⟩:=mem_ready.1 hj;have:j∈rem ops listed:=EK.2 ⟨(Wk.1 ho).1,h1⟩;rw [h0] at this;simp at this
 | succ fuel ih =>
  intro listed st g a w hs hd hl hr hS;have hsorted:(rem ops listed).Pairwise (· < ·):=List.Pairwise.filter _ List.pairwise_lt_range;refine ⟨λhnil=>?_,λi hi=>?_⟩
  ·exfalso
   cases hrem:rem ops listed with
   | nil=>rw [hrem] at hl; cases hl
   | cons i l =>
    have him:i∈rem ops listed:=by rw [hrem]; simp
    obtain ⟨hlt,hun⟩:=EK.1 him;have:i∈Region.ready .any ops listed:=by
     refine mem_ready.2 ⟨hun,_,zYW hlt,λe he hb=>?_⟩;have hlt2:=hF.back i _ (zYW hlt) e he hb;have hlt3:e.on < listed.size:=by omega
     cases hee:listed.getD e.on false with
     | true=>rfl
     | false =>
      have hm:e.on∈rem ops listed:=EK.2 ⟨by omega,by rw [U9 hlt3]; exact hee⟩;rw [hrem] at hm hsorted;rcases aaa.1 hm with h | h
      ·omega
      ·have:=(List.pairwise_cons.1 hsorted).1 _ h;omega
    rw [hnil] at this;simp at this
  ·obtain ⟨hun,o,ho,hall⟩:=mem_ready.1 hi;have hlt:i < ops.size:=(Wk.1 ho).1;have him:i∈rem ops listed:=EK.2 ⟨hlt,hun⟩;obtain ⟨b,h1,h2⟩:=pull him (λl1 l2 hsplit hni j hj=>by
    have hjm:j∈rem ops listed:=by rw [hsplit]; exact An.2 (.inl hj)
    have hji:j < i:=by
     rw [hsplit] at hsorted;exact (List.pairwise_append.1 hsorted).2.2 j hj i (zWQ ..)
    rcases hF.ind i j o ho hji with h | h
    ·have h3:=closed hF hd i o ho hall j h;have h4:=(EK.1 hjm).2;rw [U9 (by rw [hs]; exact (EK.1 hjm).1),h3] at h4
     cases h4
    ·exact h) hr
   refine MO hS (hF.dst i) h1 λg' a' w' hS'=>ih (listed.setIfInBounds i true) b g' a' w' (by simp [hs]) ?_ ?_ ?_ hS'
   ·intro k o' hk ho' e he hb
    by_cases hik:i=k
    ·subst hik;rw [ho] at ho';injection ho' with ho'
     subst ho';exact getD_set_true (hall e he hb)
    ·rw [getD_set_ne false hik] at hk;exact getD_set_true (hd k o' hk ho' e he hb)
   ·rw [U8 hs him,List.length_erase_of_mem him,hl];rfl
   ·rw [U8 hs him];exact h2
def MQ(P:Program)(p:Nat->Bool)(ρ:Nat->fy)(ops:Array Oper):List Oper->St->St->Prop
 | [],st,st'=>st'=st
 | o :: l,st,st'=>∃ b,CQ P p ρ ops o st b/\MQ P p ρ ops l b st'
theorem HG:∀ {l:List Oper} {k:Nat} {st:St},(∀ j,l[j]?=ops[k+j]?)->MQ P p ρ ops l st st'->TR P p ρ ops (zZY k l.length) st st'
 | [],k,st,_,h=>h
 | o :: l,k,st,hl,⟨b,h1,h2⟩=>by
  refine ⟨b,?_,HG (k:=k+1) (λj=>by have:=hl (j+1); simpa [zZX,Nat.add_comm 1 j] using this) h2⟩;have:=hl 0;simp at this;unfold Fw;rw [<- this];exact h1
theorem Qp{Q:Exit->Act->World->Prop}{id:Nat}{draw:Bool}(hm:draw=true->P.follows .mixedOrders=true)(hok:if draw then R9 p ρ n ops=true else ops.toList.all (xT n)=true)
  (hS:uU E g n st a w) (hr:MQ P p ρ ops ops.toList st st') (hQ:∀ g a w,uU E g n st' a w->Q .normal a w):(Code.region id ops draw).wp P Q a w:=by
 have hrI:TR P p ρ ops (zXW ops.size) st st':=by
  have:=HG (k:=0) (l:=ops.toList) kU hr;rw [zYk]
  simpa using this
 cases draw with
 | false =>
  refine wp_region (PC (λi o ho=>?_) hQ hS hrI);exact KB.1 (show ops.toList.all (xT n)=true from hok) o (by simpa using Array.mem_of_getElem? ho)
 | true =>
  have hF:=TT (by simpa using hok);have hrem:rem ops (zZg ops.size false)=zXW ops.size:=by
   unfold rem;refine List.filter_eq_self.2 λi hi=>?_;have:i < ops.size:=List.mem_range.1 hi;simp [this]
  refine wp_region_any (hm rfl) (V2 hF hQ _ _ st g a _ kU (λk o hk=>?_) (by rw [hrem]; simp) (by rw [hrem]; exact hrI) hS.drew)
  by_cases hlt:k < ops.size <;> simp [hlt] at hk
end
def EL(E:En)(ls:List Nat):Prop:=∃ fl,ls=E.lent.map Prod.fst++fl/\(∀ q∈E.lent,900<=q.1)/\(∀ v,E.pin=some v->0∈fl)/\(1∈fl->∀ b,¬ E.F0 b/\¬ E.X b)
theorem EL.mem{E:En}{ls:List Nat}(h:EL E ls){i b:Nat}(hi:(i,b)∈E.lent):i∈ls/\900<=i:=by
 obtain ⟨fl,rfl,h2,_⟩:=h;exact ⟨zVq _ (List.mem_map.2 ⟨_,hi,rfl⟩),h2 _ hi⟩
theorem EL.pin{E:En}{ls:List Nat}(h:EL E ls){v:Value}(hv:E.pin=some v):0∈ls:=by
 obtain ⟨fl,rfl,_,h2,_⟩:=h;exact List.mem_append_right _ (h2 v hv)
def ELp(P:Program)(E:En)(ls:List Nat):Prop:=EL E ls/\Tb P E
def Wp(P:Program)(n:Nat)(ls:List Nat)(c:Code)(Q:Exit->St->Prop)(st:St):Prop :=
 ∀ (E:En) (g:Gh) (a:Act) (w:World),ELp P E ls->uU E g n st a w->c.wp P (λe a' w'=>∃ g' st',uU E g' n st' a' w'/\Q e st') a w
def i7(N:St->Prop)(Q:Exit->St->Prop):Exit->St->Prop
 | .normal,st=>N st
 | e,st=>Q e st
def TU(id:Nat)(Q:Exit->St->Prop):Exit->St->Prop
 | .exit id',st=>bif zXX id' id then Q .normal st else Q (.exit id') st
 | e,st=>Q e st
def Le(n:Nat)(ls:List Nat)(st st1:St):Prop:=∀ (E:En) (g:Gh) (a:Act) (w:World),EL E ls->uU E g n st a w->∃ g',uU E g' n st1 a w
section
variable {P:Program} {n:Nat} {ls:List Nat} {Q:Exit->St->Prop} {st st':St} {x y c:Code}
theorem ee(h:Q .normal st):Wp P n ls .skip Q st:=λE g a w hE hS=>wp_skip ⟨g,st,hS,h⟩
theorem Wp.ret(h:Q .ret st):Wp P n ls .ret Q st:=λE g a w hE hS=>wp_ret ⟨g,st,hS,h⟩
theorem Wp.exit{id:Nat}(h:Q (.exit id) st):Wp P n ls (.exit id) Q st:=λE g a w hE hS=>wp_exit ⟨g,st,hS,h⟩
theorem Wp.mono{Q':Exit->St->Prop}(h:Wp P n ls c Q st)(hq:∀ e st,Q e st->Q' e st):Wp P n ls c Q' st :=
 λE g a w hE hS=>wp_mono (h E g a w hE hS) λe a' w' ⟨g',st',h1,h2⟩=>⟨g',st',h1,hq e st' h2⟩
theorem ap(h:Wp P n ls x (i7 (Wp P n ls y Q) Q) st):Wp P n ls (.seq x y) Q st :=
 λE g a w hE hS=>wp_seq (wp_mono (h E g a w hE hS) λe a' w' ⟨g',st',h1,h2⟩=>by
  cases e with
  | normal=>exact h2 E g' a' w' hE h1
  | _=>exact ⟨g',st',h1,h2⟩)
theorem Wp.cond{o:Operand}{b:Bool}(ho:st.eval o=some (.t (.bool b)))(h:Wp P n ls (if b then x else y) Q st):Wp P n ls (.cond o x y) Q st :=
 λE g a w hE hS=>by
  have hv:=b9 hS ho;generalize hva:a.eval o=v at hv
  cases hv with
  | t x v hr =>
   cases hr
   exact wp_cond hva (h E g a w hE hS)
theorem MR{o:Operand}{b:Bool}(ho:st.eval o=some (.t (.bool b)))(ht:b=true->Wp P n ls x Q st)(hf:b=false->Wp P n ls y Q st):Wp P n ls (.cond o x y) Q st :=
 Wp.cond ho (by
  cases b with
  | true=>exact ht rfl
  | false=>exact hf rfl)
theorem bf{id:Nat}(h:Wp P n ls c (TU id Q) st):Wp P n ls (.block id c) Q st :=
 λE g a w hE hS=>wp_block (wp_mono (h E g a w hE hS) λe a' w' ⟨g',st',h1,h2⟩=>by
  cases e with
  | exit id' =>
   simp only [Exit.inBlock];simp only [TU] at h2
   split
   ·rename_i he;subst he;rw [Nat.beq_refl] at h2;exact ⟨g',st',h1,h2⟩
   ·rename_i he;have:zXX id' id=false:=by
     cases hb:zXX id' id
     ·rfl
     ·exact absurd (zWz hb) he
    rw [this] at h2;exact ⟨g',st',h1,h2⟩
  | _=>exact ⟨g',st',h1,h2⟩)
def ZI(P:Program)(n:Nat)(ls:List Nat)(c:Code)(Q:Exit->St->Prop):Nat->St->Prop
 | 0,_=>False
 | k+1,st=>Wp P n ls c (i7 (ZI P n ls c Q k) Q) st
def CR(P:Program)(c:Code)(Q:Exit->Act->World->Prop):Nat->Act->World->Prop
 | 0,_,_=>False
 | k+1,a,w=>c.wp P (Exit.then (CR P c Q k) Q) a w
theorem Xm{c:Code}{Q:Exit->Act->World->Prop}{a:Act}{w:World}{k:Nat}(h:CR P c Q k a w):(Code.loop c).wp P Q a w:=by
 classical
 have key:∀ a w,(∃ k,CR P c Q k a w)->∃ k,CR P c Q k a w/\∀ j,CR P c Q j a w->k<=j:=by
  intro a w ⟨k,hk⟩
  induction k using Nat.strongRecOn with
  | _ k ih =>
   by_cases hm:∀ j,CR P c Q j a w->k<=j
   ·exact ⟨k,hk,hm⟩
   ·obtain ⟨j,hj⟩:=Classical.not_forall.1 hm;obtain ⟨hj1,hj2⟩:=Classical.not_imp.1 hj;exact ih j ak hj1
 let μ:Act->World->Nat:=λa w=>if h:∃ k,CR P c Q k a w then Classical.choose (key a w h) else 0
 have hμ:∀ a w (h:∃ k,CR P c Q k a w),CR P c Q (μ a w) a w/\∀ j,CR P c Q j a w->μ a w<=j:=by
  intro a w h;have:μ a w=Classical.choose (key a w h):=by simp only [μ,h,dite_true]
  rw [this];exact Classical.choose_spec (key a w h)
 refine wp_loop (λa w=>∃ k,CR P c Q k a w) μ ⟨k,h⟩ λa w hI=>?_;obtain ⟨h1,h2⟩:=hμ a w hI
 cases hm:μ a w with
 | zero=>rw [hm] at h1; exact h1.elim
 | succ m =>
  rw [hm] at h1;refine wp_mono h1 λe a' w' hq=>?_
  cases e with
  | normal =>
   have hI':∃ k,CR P c Q k a' w':=⟨m,hq⟩;exact ⟨hI',by have:=(hμ a' w' hI').2 m hq; omega⟩
  | _=>exact hq
theorem Wp.loop{k:Nat}(h:ZI P n ls c Q k st):Wp P n ls (.loop c) Q st:=by
 intro E g a w hE hS;refine Xm (k:=k) ?_
 induction k generalizing st g a w with
 | zero=>exact h.elim
 | succ k ih =>
  refine wp_mono (h E g a w hE hS) λe a' w' ⟨g',st',h1,h2⟩=>?_
  cases e with
  | normal=>exact ih h2 g' a' w' h1
  | _=>exact ⟨g',st',h1,h2⟩
theorem Wp.le{st1:St}(hl:Le n ls st st1)(h:Wp P n ls c Q st1):Wp P n ls c Q st:=λE g a w hE hS=>by
 obtain ⟨g',hS'⟩:=hl E g a w hE.1 hS;exact h E g' a w hE hS'
def ab(P:Program)(p:Nat->Bool)(ρ:Nat->fy)(ops:Array Oper)(l:List Oper)(st:St)(K:St->Prop):Prop:=∃ st',MQ P p ρ ops l st st'/\K st'
theorem Wp.region{p:Nat->Bool}{ρ:Nat->fy}{ops:Array Oper}{id:Nat}{draw:Bool}(hm:draw=true->P.follows .mixedOrders=true)(hok:if draw then R9 p ρ n ops=true else ops.toList.all (xT n)=true)
  (h:ab P p ρ ops ops.toList st (Q .normal)):Wp P n ls (.region id ops draw) Q st:=λE g a w hE hS=>by
 obtain ⟨st',h1,h2⟩:=h;have:=hE.2;exact Qp hm hok hS h1 λg a w hS'=>⟨g,st',hS',h2⟩
section
variable {p:Nat->Bool} {ρ:Nat->fy} {ops:Array Oper} {l:List Oper} {K:St->Prop} {o:Oper}
theorem ab.step{b:St}(h:CQ P p ρ ops o st b)(hr:ab P p ρ ops l b K):ab P p ρ ops (o :: l) st K:=by
 obtain ⟨st',h1,h2⟩:=hr;exact ⟨st',⟨b,h,h1⟩,h2⟩
theorem ab.op{x:A}{st1:St}(hg:iU ops st o=some true)(hf:eV ρ st o=true)(h:(qd P ρ st.eval o).run st=some (x,st1))(hr:ab P p ρ ops l (st1.put o.dst x) K):ab P p ρ ops (o :: l) st K :=
 ab.step (.run x st1 hg hf (.plain h)) hr
end
end
mutual
def A.ren(φo φr:Nat->Nat):A->A
 | .own r=>.own (φr r)
 | .obj s off=>.obj (φo s) off
 | .elem r sz i off=>.elem (φr r) sz i off
 | .sub r sz lo=>.sub (φr r) sz lo
 | .win r lo m=>.win (φr r) lo m
 | .agg l=>.agg (uG φo φr l)
 | .tup l=>.tup (uG φo φr l)
 | .clo f l=>.clo f (uG φo φr l)
 | .t x=>.t x
 | .nil=>.nil
 | .fadr c=>.fadr c
 | .nn sz rows=>.nn sz rows
 | .undef=>.undef
 | .raw v=>.raw v
 | .osl s a n c=>.osl (φo s) a n c
 | .ext s x=>.ext s x
 | .exa s c=>.exa s c
 | .shp x=>.shp x
def uG(φo φr:Nat->Nat):List A->List A
 | []=>[]
 | a :: r=>a.ren φo φr :: uG φo φr r
end
mutual
def A.known(O R:Nat->Bool):A->Bool
 | .own r=>R r
 | .obj s _=>O s
 | .osl s _ _ _=>O s
 | .elem r _ _ _=>R r
 | .sub r _ _=>R r
 | .win r _ _=>R r
 | .agg l=>wc O R l
 | .tup l=>wc O R l
 | .clo _ l=>wc O R l
 | _=>true
def wc(O R:Nat->Bool):List A->Bool
 | []=>true
 | a :: r=>a.known O R && wc O R r
end
def DA{β:Type}:List (Nat×β)->Nat->Option β
 | [],_=>none
 | (k,v) :: r,i=>bif zXX k i then some v else DA r i
theorem rH{β:Type}:∀ {l:List (Nat×β)} {i:Nat} {v:β},DA l i=some v->(i,v)∈l
 | [],i,v,h=>by cases h
 | (k,u) :: r,i,v,h=>by
  unfold DA at h
  cases hk:zXX k i with
  | true =>
   rw [hk] at h
   cases h
   rw [zWz hk];exact zWQ ..
  | false =>
   rw [hk] at h;exact zQj _ (rH h)
structure Sx where
 tm:List (Nat×A)
 ob:List (Nat×List A)
 rw:List (Nat×TC)
def Sx.st(s:Sx):St:=⟨λi=>match DA s.tm i with | some a=>a | none=>.undef,DA s.ob,DA s.rw⟩
theorem DC{φo φr:Nat->Nat}:∀ (l:List A),(uG φo φr l).length=l.length
 | []=>rfl
 | a :: r=>by simp [uG,DC r]
theorem MS{φo φr:Nat->Nat}:∀ (l:List A) (j:Nat),(uG φo φr l)[j]?=l[j]?.map (A.ren φo φr)
 | [],j=>by simp [uG]
 | a :: r,0=>by simp [uG]
 | a :: r,j+1=>by simp [uG,MS r j]
theorem Gg{O R:Nat->Bool}:∀ {l:List A},wc O R l=true->∀ (j:Nat) (a:A),l[j]?=some a->a.known O R=true
 | [],_,j,a,h=>by simp at h
 | x :: r,hk,j,a,h=>by
  unfold wc at hk;simp only [sk] at hk
  cases j with
  | zero=>simp at h; exact h ▸ hk.1
  | succ j=>exact Gg hk.2 j a (by simpa using h)
theorem Xn{w:World}{g:Gh}{O R:Nat->Prop}{φo φr:Nat->Nat}{O' R':Nat->Bool}:∀ (a:A) {v:Value},VR w g O R (a.ren φo φr) v->a.known O' R'=true ->
  VR w { g with ob:=λs=>g.ob (φo s),rw:=λr=>g.rw (φr r) } (λs=>O' s=true) (λr=>R' r=true) a v:=by
 have main:∀ (k:Nat) (a:A),SizeOf.sizeOf a < k->∀ {v:Value},VR w g O R (a.ren φo φr) v->a.known O' R'=true ->
   VR w { g with ob:=λs=>g.ob (φo s),rw:=λr=>g.rw (φr r) } (λs=>O' s=true) (λr=>R' r=true) a v:=by
  intro k
  induction k with
  | zero=>intro a h; omega
  | succ k ih =>
   intro a hk v h hn;have hl:∀ (l:List A) (vs:List Value),SizeOf.sizeOf l<=k->(∀ (j:Nat) (x:A) (u:Value),(uG φo φr l)[j]?=some x->vs[j]?=some u->VR w g O R x u)->wc O' R' l=true ->
     ∀ (j:Nat) (x:A) (u:Value),l[j]?=some x->vs[j]?=some u->VR w { g with ob:=λs=>g.ob (φo s),rw:=λr=>g.rw (φr r) } (λs=>O' s=true) (λr=>R' r=true) x u:=λl vs hs hx hkn j x u hj hu=>by
    have:=List.sizeOf_lt_of_mem (zQY hj);exact ih x ak (hx j _ u (by rw [MS,hj]; rfl) hu) (Gg hkn j x hj)
   cases a with
   | t x=>unfold A.ren at h; cases h with | t x v h=>exact .t x v h
   | nil=>unfold A.ren at h; cases h; exact .nil
   | own r =>
    unfold A.ren at h;unfold A.known at hn
    cases h with | own _ hr=>exact .own (g:={ g with ob:=λs=>g.ob (φo s),rw:=λr=>g.rw (φr r) }) r hn
   | agg l =>
    unfold A.ren at h;unfold A.known at hn
    cases h with | agg _ vs h1 h2=>exact .agg l vs ((DC l).symm.trans h1) (hl l vs (by simp at hk; omega) h2 hn)
   | tup l =>
    unfold A.ren at h;unfold A.known at hn
    cases h with | tup _ vs h1 h2=>exact .tup l vs ((DC l).symm.trans h1) (hl l vs (by simp at hk; omega) h2 hn)
   | obj s off =>
    unfold A.ren at h;unfold A.known at hn
    cases h with | obj _ _ hs=>exact .obj (g:={ g with ob:=λs=>g.ob (φo s),rw:=λr=>g.rw (φr r) }) s off hn
   | elem r sz i off =>
    unfold A.ren at h;unfold A.known at hn
    cases h with | elem _ _ _ _ b n c hr he=>exact .elem r sz i off b n c hn he
   | win r lo m =>
    unfold A.ren at h;unfold A.known at hn
    cases h with | win _ _ _ n c c' ad a' hr he hm hp=>exact .win r lo m n c c' ad a' hn he hm hp
   | sub r sz lo =>
    unfold A.ren at h;unfold A.known at hn
    cases h with | sub _ _ _ n c c' ad a' hr he hp=>exact .sub r sz lo n c c' ad a' hn he hp
   | fadr c =>
    unfold A.ren at h
    cases h with | fadr _ b off u hF hx hr=>exact .fadr c b off u hF hx hr
   | nn sz rows =>
    unfold A.ren at h
    cases h with | nn _ _ _ hr hv=>exact .nn sz rows _ hr hv
   | clo f l =>
    unfold A.ren at h;unfold A.known at hn
    cases h with | clo _ _ vs h1 h2=>exact .clo f l vs ((DC l).symm.trans h1) (hl l vs (by simp at hk; omega) h2 hn)
   | undef=>exact .undef v
   | raw u =>
    unfold A.ren at h
    cases h with | raw=>exact .raw _
   | osl s a n c =>
    unfold A.ren at h;unfold A.known at hn
    cases h with | osl _ _ _ _ h1 h2=>exact VR.osl (g:={ g with ob:=λs=>g.ob (φo s),rw:=λr=>g.rw (φr r) }) s a n c hn h2
   | ext s x =>
    unfold A.ren at h
    cases h with | ext _ _ _ hs h=>exact .ext s x _ hs h
   | shp x =>
    unfold A.ren at h
    cases h with | shp _ _ h=>exact .shp x _ h
   | exa s c =>
    unfold A.ren at h
    cases h with | exa _ _ b off u hs hD hx hr=>exact .exa s c b off u hs hD hx hr
 intro a v;exact main (SizeOf.sizeOf a+1) a ak
def Dk(m:List (Nat×Nat))(i:Nat):Nat:=match DA m i with | some j=>j | none=>i
def Sa:List Nat->Bool
 | []=>true
 | x :: r=>!r.contains x && Sa r
theorem Gi:∀ {l:List Nat},Sa l=true->l.Nodup
 | [],_=>List.nodup_nil
 | x :: r,h=>by
  unfold Sa at h;simp only [sk,Bool.not_eq_true'] at h;refine List.nodup_cons.2 ⟨λhm=>?_,Gi h.2⟩;have:=h.1;simp at this;exact this hm
def Sx.O(s:Sx)(i:Nat):Bool:=(DA s.ob i).isSome
def Sx.R(s:Sx)(i:Nat):Bool:=(DA s.rw i).isSome
def Mm(O R:Nat->Bool):List (Nat×List A)->Bool
 | []=>true
 | (_,l) :: r=>wc O R l && Mm O R r
def Mn(O R:Nat->Bool)(n:Nat):List (Nat×A)->Bool
 | []=>true
 | (k,a) :: r=>Nat.blt k n && a.known O R && Mn O R n r
theorem Kn{O R:Nat->Bool}:∀ {l:List (Nat×List A)},Mm O R l=true->∀ q∈l,wc O R q.2=true
 | [],_,q,h=>by simp at h
 | (k,x) :: r,hk,q,h=>by
  unfold Mm at hk;simp only [sk] at hk;rcases aaa.1 h with rfl | h
  ·exact hk.1
  ·exact Kn hk.2 q h
theorem DD{O R:Nat->Bool}{n:Nat}:∀ {l:List (Nat×A)},Mn O R n l=true->∀ q∈l,q.1 < n/\q.2.known O R=true
 | [],_,q,h=>by simp at h
 | (k,x) :: r,hk,q,h=>by
  unfold Mn at hk;simp only [sk] at hk;rcases aaa.1 h with rfl | h
  ·exact ⟨by simpa using hk.1.1,hk.1.2⟩
  ·exact DD hk.2 q h
def Sx.ok(s:Sx)(n:Nat)(ls:List Nat)(mo mr:List (Nat×Nat)):Bool :=
 Sa (s.ob.map λq=>Dk mo q.1) && Sa (s.rw.map λq=>Dk mr q.1) && Mm s.O s.R s.ob && Mn s.O s.R n s.tm && ls.all λi=>match i with | 0=>s.R PR && zXX (Dk mr PR) PR | 1=>true | i=>s.O i && zXX (Dk mo i) i
theorem Jc{β:Type}{φ:Nat->Nat}:∀ {l:List (Nat×β)},(l.map λq=>φ q.1).Nodup->∀ {q q':Nat×β},q∈l->q'∈l->φ q.1=φ q'.1->q=q'
 | [],_,q,q',h,_,_=>by simp at h
 | x :: r,hn,q,q',h,h',he=>by
  simp only [zWh,List.nodup_cons,zXg,not_exists,not_and] at hn;rcases aaa.1 h with h1 | h1
  ·rcases aaa.1 h' with h2 | h2
   ·rw [h1,h2]
   ·subst h1; exact absurd he.symm (hn.1 q' h2)
  ·rcases aaa.1 h' with h2 | h2
   ·subst h2; exact absurd he (hn.1 q h1)
   ·exact Jc hn.2 h1 h2 he
theorem Mo{α β:Type}{f g:α->β}:∀ {l:List α},l.map f=l.map g->∀ x∈l,f x=g x
 | [],_,x,h=>by simp at h
 | y :: r,he,x,h=>by
  simp only [zWh,List.cons.injEq] at he;rcases aaa.1 h with rfl | h
  ·exact he.1
  ·exact Mo he.2 x h
theorem Le.of{n:Nat}{ls:List Nat}{st:St}{s:Sx}{mo mr:List (Nat×Nat)}(hok:s.ok n ls mo mr=true)(ht:s.tm.map (λq=>st.tm q.1)=s.tm.map (λq=>q.2.ren (Dk mo) (Dk mr)))
  (ho:s.ob.map (λq=>st.ob (Dk mo q.1))=s.ob.map (λq=>some (uG (Dk mo) (Dk mr) q.2))) (hr:s.rw.map (λq=>st.rw (Dk mr q.1))=s.rw.map (λq=>some q.2)):Le n ls st s.st:=by
 simp only [Sx.ok,sk] at hok;obtain ⟨⟨⟨⟨hno,hnr⟩,hkl⟩,hkt⟩,hls⟩:=hok;intro E g a w hE hS;have hM:=hS.mem;have hob:∀ {i:Nat} {l:List A},DA s.ob i=some l->st.ob (Dk mo i)=some (uG (Dk mo) (Dk mr) l):=λ{i l} h=>Mo ho (i,l) (rH h);have hrw:∀ {i:Nat} {x:TC},DA s.rw i=some x->st.rw (Dk mr i)=some x:=λ{i x} h=>Mo hr (i,x) (rH h);have hOe:(λi=>s.O i=true)=s.st.O:=rfl;have hRe:(λi=>s.R i=true)=s.st.R:=rfl;have hL:∀ {r},s.st.L r->st.L (Dk mr r):=λ{r} ⟨e,sz,rows,h⟩=>⟨e,sz,rows,hrw h⟩;have hvr:∀ {x:A} {v:Value},VR w g st.O st.R (x.ren (Dk mo) (Dk mr)) v->x.known s.O s.R=true->VR w { g with ob:=λs=>g.ob (Dk mo s),rw:=λr=>g.rw (Dk mr r) } s.st.O s.st.R x v:=λ{x v} h hk=>by
  rw [<- hOe,<- hRe];exact Xn x h hk
 refine ⟨{ g with ob:=λs=>g.ob (Dk mo s),rw:=λr=>g.rw (Dk mr r) },⟨⟨λi cells h=>?_,λi i' h h' he=>?_,λi x h=>hM.row _ x (hrw h),λr r' b h h' he he'=>?_,λr i h h'=>?_,hM.F,hM.os,hM.tape,hM.output,hM.sizes,hM.frame,hM.shp,hM.dep0⟩,hS.size,hS.defers,λi hi=>?_,λi hi=>?_,λi b hib=>?_,λv hv=>?_⟩⟩
 ·have h:DA s.ob i=some cells:=h;obtain ⟨arr,e,h1,h2,h3,h4,h5⟩:=hM.ob _ _ (hob h);rw [DC] at h2;refine ⟨arr,e,h1,h2,λj x hj=>?_,h4,h5⟩;obtain ⟨h6,v,h7,h8⟩:=h3 j (x.ren (Dk mo) (Dk mr)) (by rw [MS,hj]; rfl);refine ⟨?_,v,h7,hvr h8 (Gg (Kn hkl _ (rH h)) j x hj)⟩
  cases x <;> first | rfl | (simp [A.ren,A.one] at h6)
 ·obtain ⟨l,hl⟩:=DQ.1 h;obtain ⟨l',hl'⟩:=DQ.1 h';have:=hM.obne _ _ (show st.O _ by unfold St.O; rw [hob hl]; rfl) (show st.O _ by unfold St.O; rw [hob hl']; rfl) he;exact congrArg Prod.fst (Jc (Gi hno) (rH hl) (rH hl') this)
 ·have:=hM.rowne _ _ b (hL h) (hL h') he he';obtain ⟨e,sz,rows,hx⟩:=h;obtain ⟨e',sz',rows',hx'⟩:=h';exact congrArg Prod.fst (Jc (Gi hnr) (rH hx) (rH hx') this)
 ·obtain ⟨l,hl⟩:=DQ.1 h';exact hM.rowob _ _ (hL h) (show st.O _ by unfold St.O; rw [hob hl]; rfl)
 ·obtain ⟨v,h1,h2⟩:=hS.tm i hi;refine ⟨v,h1,?_⟩;show VR w _ s.st.O s.st.R (match DA s.tm i with | some a=>a | none=>.undef) v
  cases hl:DA s.tm i with
  | none=>exact .undef v
  | some x =>
   have:=Mo ht (i,x) (rH hl);simp only at this;rw [this] at h2;exact hvr h2 (DD hkt _ (rH hl)).2
 ·show (match DA s.tm i with | some a=>a | none=>.undef)=A.undef
  cases hl:DA s.tm i with
  | none=>rfl
  | some x =>
   have:=(DD hkt _ (rH hl)).1;simp only at this;omega
 ·obtain ⟨hi,h9⟩:=hE.mem hib;have:=KB.1 hls i hi;obtain ⟨k,rfl⟩:∃ k,i=k+2:=⟨i - 2,by omega⟩;simp only [sk] at this;refine ⟨this.1,?_⟩;show g.ob (Dk mo (k+2))=b;rw [zWz this.2];exact (hS.lent (k+2) b hib).2
 ·have:=KB.1 hls 0 (hE.pin hv);simp only [sk] at this;refine ⟨this.1,?_⟩;show g.rw (Dk mr PR)=v;rw [zWz this.2];exact (hS.pin v hv).2
def yW(P:Program)(st:St):List ResultVar->Option (List A)
 | []=>some []
 | .tmp t :: r=>match yW P st r with | some l=>some (st.tm t :: l) | none=>none
 | .cell a t :: r=>match st.tm a with
  | .obj s off=>match st.ob s with
   | some cells=>match RH P t,i6 P t with
    | some g,some n=>match F7 g n cells off,yW P st r with | some x,some l=>some (x :: l) | _,_=>none
    | _,_=>none
   | none=>none
  | _=>none
def TV:List A->A
 | [x]=>x
 | l=>.tup l
def AP{α:Type}:Nat->List V->(List (List C)->MA α)->MA α
 | _,[],k=>k []
 | i,.ptr _ :: r,k=>Dx (900+i) λc=>AP (i+1) r λos=>k (c :: os)
 | i,_ :: r,k=>AP (i+1) r k
def jO:Nat->List V->List Nat
 | _,[]=>[]
 | i,.ptr _ :: r=>(900+i) :: jO (i+1) r
 | i,_ :: r=>jO (i+1) r
def nJ:Nat->List V->List Value->List (Nat×Nat)
 | i,.ptr _ :: r,.pointer (some a) :: vs=>(900+i,a.block) :: nJ (i+1) r vs
 | i,.ptr _ :: r,_ :: vs=>(900+i,0) :: nJ (i+1) r vs
 | i,_ :: r,_ :: vs=>nJ (i+1) r vs
 | i,.ptr _ :: r,[]=>(900+i,0) :: nJ (i+1) r []
 | i,_ :: r,[]=>nJ (i+1) r []
 | _,[],_=>[]
def jH:Nat->List V->List A->Bool
 | _,[],_=>true
 | i,.ptr _ :: r,.obj s 0 :: ln=>zXX s (900+i) && jH (i+1) r ln
 | i,.ptr _ :: r,_=>false
 | i,_ :: r,_ :: ln=>jH (i+1) r ln
 | i,_ :: r,[]=>false
section
variable {P:Program} {E:En} {g:Gh} {st st':St} {a:Act} {w:World} {n:Nat}
theorem rI:∀ (l:List V) (i:Nat) (vs:List Value),(nJ i l vs).map Prod.fst=jO i l
 | [],i,vs=>by cases vs <;> rfl
 | x :: l,i,[]=>by cases x <;> simp [nJ,jO,rI l]
 | x :: l,i,v :: vs=>by
  cases x <;> simp only [jO] <;> try (simp only [nJ]; exact rI l _ _)
  cases v <;> try (simp only [nJ,zWh,List.cons.injEq,true_and]; exact rI l _ _)
  rename_i o
  cases o <;> (simp only [nJ,zWh,List.cons.injEq,true_and]; exact rI l _ _)
theorem Cq:∀ (l:List V) (i:Nat),∀ q∈jO i l,900<=q
 | [],i,q,h=>by simp [jO] at h
 | x :: l,i,q,h=>by
  cases x <;> simp only [jO] at h <;> try exact Cq l _ q h
  rcases aaa.1 h with rfl | h
  ·omega
  ·exact Cq l _ q h
theorem Jd(l:List V)(i:Nat)(vs:List Value):∀ q∈nJ i l vs,900<=q.1:=λq hq =>
 Cq l i q.1 (by rw [<- rI l i vs]; exact List.mem_map.2 ⟨q,hq,rfl⟩)
theorem Je:∀ {rs:List ResultVar} {l:List A},uU E g n st a w->yW P st rs=some l->(∀ t,.tmp t∈rs->t < n)->∃ vs:List Value,l.length=vs.length/\(∀ (j:Nat) (x:A) (u:Value),l[j]?=some x->vs[j]?=some u->VR w g st.O st.R x u) /\
  ∀ (f:ResultVar->Sem Value) (_:∀ u,f (.tmp u)=pure (a.tmps.getD u undef)) (_:∀ p t,f (.cell p t)=(do loadVar t (<- asAddr (a.tmps.getD p undef)))),(rs.mapM f).run P w=.ok vs w
 | [],l,hS,h,_=>by
  cases h
  exact ⟨[],rfl,by simp,λf _ _=>by simp⟩
 | .tmp t :: r,l,hS,h,ht=>by
  unfold yW at h
  split at h
  ·rename_i l' hl'
   cases h
   obtain ⟨vs,h1,h2,h3⟩:=Je hS hl' (λt h=>ht t Tz);obtain ⟨v,h4,h5⟩:=hS.tm t (ht t kU);refine ⟨v :: vs,by simp [h1],λj x u hx hu=>?_,λf hf hc=>?_⟩
   ·cases j with
    | zero=>simp at hx hu; subst hx hu; exact h5
    | succ j=>exact h2 j x u WW (by simpa using hu)
   ·have:a.tmps.getD t undef=v:=by simp [h4]
    simp [List.mapM_cons,hf,h3 f hf hc,h4]
  ·cases h
 | .cell p t :: r,l,hS,h,ht=>by
  unfold yW at h
  split at h <;> try (cases h; done)
  rename_i s off hp
  split at h <;> try (cases h; done)
  rename_i cells hc
  split at h <;> try (cases h; done)
  rename_i gg nn hg hn
  split at h <;> try (cases h; done)
  rename_i x l' hx hl'
  cases h
  obtain ⟨vs,h1,h2,h3⟩:=Je hS hl' (λt h=>ht t Tz);have hlt:p < n:=by
   rcases Nat.lt_or_ge p n with h | h
   ·exact h
   ·rw [hS.und p h] at hp; cases hp
  obtain ⟨v,h4,h5⟩:=hS.tm p hlt;rw [hp] at h5
  cases h5 with
  | obj s off hs =>
   obtain ⟨arr,e,hh,hl,hv,_⟩:=hS.mem.ob s cells hc;obtain ⟨u,hu,hr⟩:=Dv (P:=P) (w:=w) (g:=g) (st:=st) (b:=g.ob s) (o:=0) hg hn hx (λj y hy=>by
    obtain ⟨_,u,hu,hr⟩:=hv j y hy;exact ⟨u,by rw [zQg]; simp [World.cell?,hh,hu],hr⟩)
   rw [zQg] at hu;refine ⟨u :: vs,by simp [h1],λj x u hx hu=>?_,λf hf hcc=>?_⟩
   ·cases j with
    | zero=>simp at hx hu; subst hx hu; exact hr
    | succ j=>exact h2 j x u WW (by simpa using hu)
   ·simp [List.mapM_cons,hcc,h4,asAddr,hu,h3 f hf hcc]
theorem EM{fn:Func}{l:List A}(hS:uU E g n st a w)(h:yW P st fn.results.toList=some l)(ht:(fn.results.toList.all λ| .tmp t=>Nat.blt t n | _=>true)=true):∃ v,(results fn a.tmps).run P w=.ok v w/\VR w g st.O st.R (TV l) v:=by
 obtain ⟨vs,h1,h2,h3⟩:=Je hS h (λt h=>by simpa using KB.1 ht _ h);have hres:fn.results=fn.results.toList.toArray:=by simp
 have hr:(results fn a.tmps).run P w=.ok (if h:vs.toArray.size=1 then vs.toArray[0] else .tuple vs.toArray) w:=by
  unfold results;rw [hres,List.mapM_toArray];simp only [Sem.run_bind,Sem.run_map];rw [h3 _ (λ_=>rfl) (λ_ _=>rfl)];simp only [Result.andThen_ok,Sem.run_pure]
 refine ⟨_,hr,?_⟩
 clear hr h3
 match vs,l,h1,h2 with
 | [],[],_,_=>exact .tup [] [] rfl (λi x v h=>by simp at h)
 | [v],[x],_,h2=>exact h2 0 x v rfl rfl
 | v :: v' :: vs,x :: x' :: l,h1,h2=>exact .tup _ _ h1 h2
theorem Dj.len{w:World}{F:Nat->Prop}:∀ {l:List V} {vs:List Value} {bs:List Nat},Dj w F l vs bs->l.length=vs.length
 | _,_,_,.nil=>rfl
 | _,_,_,.cons _ _ _ _ _ _ _ hs=>by simp [hs.len]
theorem sB.mono{F F':Nat->Prop}(hF:∀ b,F b->F' b){l:List V}{us:List Value}{os:List (List C)}{bo:List Nat}(h:sB w F l us os bo):sB w F' l us os bo:=by
 induction h with
 | nil=>exact .nil
 | ptr c c' v bs l vs os bo h hs ih=>exact .ptr c c' v bs l vs os bo (h.mono (λ_ _=>rfl) hF (λ_ _=>rfl)) ih
 | skip x v l vs os bo hx hs ih=>exact .skip x v l vs os bo hx ih
theorem BJ{α:Type}{st':St}:∀ (l:List V) {i:Nat} {us:List Value} {g:Gh} {st:St} {k:List (List C)->MA α} {y:α},gG E g st w->us.length=l.length->(∀ (j:Nat) (c:List C),l[j]?=some (.ptr c)->us[j]?=some (.pointer (some ⟨g.ob (900+(i+j)),0,none⟩)))->(AP i l k).run st=some (y,st') ->
  ∃ os st1 g1 bo,gG E g1 st1 w/\th w w g g1 st.O st.R st1.O st1.R/\OF g st g1 st1/\(k os).run st1=some (y,st')/\sB w g1.F l us os bo/\Tk g st g1 st1 bo
 | [],i,us,g,st,k,y,hM,hl,hp,h=>by
  have:us=[]:=zQW Tw;subst this;exact ⟨[],st,g,[],hM,th.refl _ _ _ _,OF.refl _ _,h,.nil,Tk.nil _ _ _ _⟩
 | x :: l,i,us,g,st,k,y,hM,hl,hp,h=>by
  obtain ⟨u,us,rfl⟩:∃ u us',us=u :: us':=by
   cases us with
   | nil=>simp at hl
   | cons u us=>exact ⟨u,us,rfl⟩
  have hp':∀ (j:Nat) (c:List C),l[j]?=some (.ptr c)->us[j]?=some (.pointer (some ⟨g.ob (900+(i+1+j)),0,none⟩)):=λj c hj=>by
   have:=hp (j+1) c WN;rw [show i+1+j=i+(j+1) by omega]
   simpa using this
  have hoth:(∀ c,x≠.ptr c)->(AP (i+1) l k).run st=some (y,st')->∃ os st1 g1 bo,gG E g1 st1 w/\th w w g g1 st.O st.R st1.O st1.R/\OF g st g1 st1/\(k os).run st1=some (y,st')/\sB w g1.F (x :: l) (u :: us) os bo/\Tk g st g1 st1 bo:=λhx h=>by
   obtain ⟨os,st1,g1,bo,h1,h2,h3,h4,h5,h6⟩:=BJ l hM Tw hp' h;exact ⟨os,st1,g1,bo,h1,h2,h3,h4,.skip x u l us os bo hx h5,h6⟩
  cases x with
  | ptr c =>
   unfold AP at h;have hu:=hp 0 c rfl;simp at hu;subst hu;obtain ⟨cs,st1,g1,b1,hM1,hE1,hL1,h1,hv1,ht1,_⟩:=Ck hM h;obtain ⟨os,st2,g2,bo,h2,h3,h4,h5,h6,h7⟩:=BJ l hM1 Tw (by rw [hL1.ob]; exact hp') h1;exact ⟨cs :: os,st2,g2,b1++bo,h2,hE1.trans h3,hL1.trans h4,h5,.ptr c cs _ b1 l us os bo (hv1.mono h3.same h3.F (λ_ _=>rfl)) h6,ht1.app hM hL1 h7 h4⟩
  | _=>exact hoth (λc h=>by cases h) (by unfold AP at h; exact h)
theorem Qq{i:Nat}{c:List C}{r:List V}{ln:List A}(h:jH i (.ptr c :: r) ln=true):∃ as',ln=.obj (900+i) 0 :: as'/\jH (i+1) r as'=true:=by
 cases ln with
 | nil=>simp [jH] at h
 | cons a ln =>
  cases a with
  | obj s off =>
   cases off with
   | zero =>
    simp only [jH,sk] at h;have:=zWz h.1;subst this;exact ⟨ln,rfl,h.2⟩
   | succ off=>simp [jH] at h
  | _=>simp [jH] at h
theorem BK{F:Nat->Prop}{O R:Nat->Prop}:∀ {l:List V} {i:Nat} {us:List Value} {ln:List A} {bs:List Nat},jH i l ln=true->Dj w F l us bs->ln.length=us.length->(∀ (j:Nat) (x:A),ln[j]?=some x->∃ u,us[j]?=some u/\VR w g O R x u) ->
  (∀ s b,(s,b)∈nJ i l us->O s/\g.ob s=b)/\∀ (j:Nat) (c:List C),l[j]?=some (.ptr c)->∃ b,us[j]?=some (.pointer (some ⟨b,0,none⟩))/\(900+(i+j),b)∈nJ i l us
 | [],i,us,ln,bs,hl,hV,hlen,hx=>by
  cases hV
  exact ⟨λs b h=>by simp [nJ] at h,λj c h=>by simp at h⟩
 | x :: l,i,us,ln,bs,hl,hV,hlen,hx=>by
  cases hV with
  | cons x v b l vs bs' h1 h2 =>
   obtain ⟨a,ln,rfl⟩:∃ a as',ln=a :: as':=by
    cases ln with
    | nil=>simp at hlen
    | cons a ln=>exact ⟨a,ln,rfl⟩
   obtain ⟨u,hu,hr⟩:=hx 0 a rfl;simp at hu;subst hu;have hx':∀ (j:Nat) (x:A),ln[j]?=some x->∃ u,vs[j]?=some u/\VR w g O R x u:=λj x hj=>by simpa using hx (j+1) x WN
   have hoth:(∀ c,x≠.ptr c)->nJ i (x :: l) (v :: vs)=nJ (i+1) l vs->jH (i+1) l ln=true ->
     (∀ s b,(s,b)∈nJ i (x :: l) (v :: vs)->O s/\g.ob s=b)/\∀ (j:Nat) (c:List C),(x :: l)[j]?=some (.ptr c)->∃ b,(v :: vs)[j]?=some (.pointer (some ⟨b,0,none⟩))/\(900+(i+j),b)∈nJ i (x :: l) (v :: vs):=λhnp he hla=>by
    obtain ⟨h3,h4⟩:=BK hla h2 (by simpa using hlen) hx';rw [he];refine ⟨h3,λj c hj=>?_⟩
    cases j with
    | zero=>simp at hj; exact absurd hj (hnp c)
    | succ j =>
     obtain ⟨b,h5,h6⟩:=h4 j c WN;exact ⟨b,by simpa using h5,by rw [show i+(j+1)=i+1+j by omega]; exact h6⟩
   cases x with
   | ptr c =>
    obtain ⟨as',he,hla⟩:=Qq hl;injection he with e1 e2
    subst e1 e2
    cases h1 with
    | ptr cells bb arr e vals bs1 q1 q2 q3 q4 =>
      obtain ⟨h3,h4⟩:=BK hla h2 (by simpa using hlen) hx'
      cases hr with
      | obj _ _ hO =>
       simp only [nJ];refine ⟨λs b hm=>?_,λj c hj=>?_⟩
       ·rcases aaa.1 hm with hm | hm
        ·cases hm; exact ⟨hO,rfl⟩
        ·exact h3 s b hm
       ·cases j with
        | zero=>exact ⟨_,rfl,zWQ ..⟩
        | succ j =>
         obtain ⟨b,h5,h6⟩:=h4 j c WN;exact ⟨b,by simpa using h5,zQj _ (by rw [show i+(j+1)=i+1+j by omega]; exact h6)⟩
   | _=>exact hoth (λc h=>by cases h) (by cases v <;> rfl) (by unfold jH at hl; exact hl)
end
inductive Bh {α β:Type} (R:α->β->Prop):List α->List β->Prop
 | nil:Bh R [] []
 | cons {a:α} {b:β} {l:List α} {l':List β} (h:R a b) (hs:Bh R l l'):Bh R (a :: l) (b :: l')
inductive Qr:C->C->Prop
 | refl (c:C):Qr c c
 | nilT (sz:Nat):Qr .nil (.t (.sl sz []))
 | nilO (e sz:Nat):Qr .nil (.ow e sz [])
 | sz (s s':Nat):Qr (.t (.sl s [])) (.t (.sl s' []))
mutual
inductive TW:V->V->Prop
 | refl (v:V):TW v v
 | one {c c':C} (h:Qr c c'):TW (.one c) (.one c')
 | agg {l l':List C} (h:Bh Qr l l'):TW (.agg l) (.agg l')
 | tup {l l':List V} (h:DE l l'):TW (.tup l) (.tup l')
 | cut (l r:List T):TW (.fptr (l++r)) (.fptr l)
inductive DE:List V->List V->Prop
 | nil:DE [] []
 | cons {v v':V} {l l':List V} (h:TW v v') (hs:DE l l'):DE (v :: l) (v' :: l')
end
theorem Qr.cv{w:World}{F:Nat->Prop}{c c':C}{v:Value}{bs:List Nat}(h:Qr c c')(hv:CV w F c v bs):CV w F c' v bs:=by
 cases h with
 | refl=>exact hv
 | nilT sz=>cases hv; exact .t _ _ (.sl0 _ _ _ (by first | assumption | exact λ_=>rfl | (intro h; cases h)))
 | nilO e sz =>
  cases hv
  exact .ow e sz [] (.slice none 0 0) [] ⟨by simp,.inl ⟨rfl,rfl⟩⟩ ⟨by simp,λi row h=>by simp at h,λi row j x h=>by simp at h⟩
 | sz s s' =>
  cases hv with
  | t _ _ h =>
   cases h with
   | sl0 _ _ _ ha=>exact .t _ _ (.sl0 _ _ _ (by first | assumption | exact λ_=>rfl | (intro h; cases h)))
   | sl=>exact .t _ _ (.sl0 _ _ _ (by first | assumption | exact λ_=>rfl | (intro h; cases h)))
theorem TX{w:World}{F:Nat->Prop}:∀ {l l':List C} {vs:List Value} {bs:List Nat},Bh Qr l l'->Ps w F l vs bs->Ps w F l' vs bs
 | _,_,_,_,.nil,.nil=>.nil
 | _,_,_,_,.cons h hs,.cons _ _ _ _ _ _ hc hcs=>.cons _ _ _ _ _ _ (h.cv hc) (TX hs hcs)
mutual
theorem TW.vv{w:World}{F:Nat->Prop}:∀ {x x':V} {v:Value} {bs:List Nat},TW x x'->VV w F x v bs->VV w F x' v bs
 | _,_,_,_,.refl _,hv=>hv
 | _,_,_,_,.one h,.one _ _ _ hc=>.one _ _ _ (h.cv hc)
 | _,_,_,_,.agg h,.agg _ vs _ hc=>.agg _ vs _ (TX h hc)
 | _,_,_,_,.tup h,.tup _ vs _ hc=>.tup _ vs _ (Jf h hc)
 | _,_,_,_,.cut l r,.fptr _ b off u hF hx hr=>.fptr l b off u hF
   (λj x hj=>hx j x (by rw [zQQ (sr.1 hj).1]; exact hj)) (λj x hj=>hr j x (by rw [zQQ (sr.1 hj).1]; exact hj))
theorem Jf{w:World}{F:Nat->Prop}:∀ {l l':List V} {vs:List Value} {bs:List Nat},DE l l'->Dj w F l vs bs->Dj w F l' vs bs
 | _,_,_,_,.nil,.nil=>.nil
 | _,_,_,_,.cons h hs,.cons _ _ _ _ _ _ hc hcs=>.cons _ _ _ _ _ _ (h.vv hc) (Jf hs hcs)
end
theorem TW.ptr{x:V}{c:List C}(h:TW x (.ptr c)):x=.ptr c:=by cases h; rfl
theorem TW.nptr{x x':V}(h:TW x x')(hx:∀ c,x'≠.ptr c):∀ c,x≠.ptr c:=by
 cases h <;> first | exact hx | (intro c hc; cases hc)
theorem Va{w:World}{F:Nat->Prop}{l':List V}{us:List Value}{os:List (List C)}{bo:List Nat}(ho:sB w F l' us os bo):∀ {l:List V},DE l l'->sB w F l us os bo:=by
 induction ho with
 | nil=>intro l h; cases h; exact .nil
 | ptr c c' v bs l vs os bo hv ho ih =>
  intro l h
  cases h with
  | cons h hs =>
   have:=h.ptr;subst this;exact .ptr c c' v bs _ vs os bo hv (ih hs)
 | skip x v l vs os bo hx ho ih =>
  intro l h
  cases h with
  | cons h hs=>exact .skip _ v _ vs os bo (h.nptr hx) (ih hs)
theorem MT{w:World}{F:Nat->Prop}{l:List V}{us:List Value}{os:List (List C)}{bo:List Nat}(ho:sB w F l us os bo):∀ {os':List (List C)},Bh (Bh Qr) os os'->sB w F l us os' bo:=by
 induction ho with
 | nil=>intro os' h; cases h; exact .nil
 | ptr c c' v bs l vs os bo hv ho ih =>
  intro os' h
  cases h with
  | cons h hs =>
   refine .ptr c _ v bs l vs _ bo ?_ (ih hs)
   cases hv with
   | ptr _ b arr e vals bs' h1 h2 h3 h4=>exact .ptr _ b arr e vals bs' h1 h2 h3 (TX h h4)
 | skip x v l vs os bo hx ho ih=>intro os' h; exact .skip x v l vs _ bo hx (ih h)
def ez:St:=⟨λ_=>.undef,λ_=>none,λ_=>none⟩
def eC(ln:List A)(st:St):St:=⟨λi=>match ln[i]? with | some a=>a | none=>.undef,st.ob,st.rw⟩
def V3{α:Type}(m:Bool):A->(V->MA α)->MA α
 | .obj s 0,k=>Dx s λcs=>k (.ptr cs)
 | .tup l,k=>kf m (λ_=>false) l λvs=>k (.tup vs)
 | a,k=>q6 m a k
theorem HH{E:En}{w:World}{α:Type}{st':St}{m:Bool}{x:A}{st:St}{g:Gh}{k:V->MA α}{y:α}{v:Value}(hM:gG E g st w)(hv:VR w g st.O st.R x v)(h:(V3 m x k).run st=some (y,st')) :
  ∃ c st1 g1 bs,gG E g1 st1 w/\th w w g g1 st.O st.R st1.O st1.R/\OF g st g1 st1/\(k c).run st1=some (y,st')/\VV w g1.F c v bs/\Tk g st g1 st1 bs:=by
 unfold V3 at h
 split at h
 ·rename_i s k'
  cases hv with
  | obj _ _ hs =>
   obtain ⟨cs,st1,g1,bs,h1,h2,h3,h4,h5,h6,_⟩:=Ck hM h;exact ⟨_,st1,g1,bs,h1,h2,h3,h4,h5,h6⟩
 ·rename_i l
  cases hv with
  | tup l vs hl hx =>
   obtain ⟨cs,st1,g1,bs,hM1,hE1,hL1,h1,hc,ht,_⟩:=zw l hM hl.symm (λj x hj=>⟨_,sX (by rw [<- hl]; exact (sr.1 hj).1),hx j x _ hj (sX (by rw [<- hl]; exact (sr.1 hj).1))⟩) h;exact ⟨_,st1,g1,bs,hM1,hE1,hL1,h1,.tup cs vs bs hc,ht⟩
 ·obtain ⟨c,st1,g1,bs,h1,h2,h3,h4,h5,h6,_⟩:=Qk _ hM hv h;exact ⟨c,st1,g1,bs,h1,h2,h3.lnd,h4,h5,h6⟩
def AQ(P:Program)(m:Bool)(fn:Func)(args:List V)(res:V)(outs:List (List C))(e:Exit)(st:St):Prop :=
 (e=.ret\/e=.normal)/\∃ l st1 res0 outs0,yW P st fn.results.toList=some l/\(AP 0 args λos=>V3 m (TV l) λv=>MA.ret (v,os)).run st=some ((res0,outs0),st1)/\TW res0 res/\Bh (Bh Qr) outs0 outs
def sE(n:Nat)(fn:Func):Bool:=fn.results.toList.all λ| .tmp t=>Nat.blt t n | _=>true
def Wz(P:Program)(n:Nat)(ls:List Nat)(c:Code)(Q:Exit->St->Prop)(st:St):Prop :=
 ∀ (E:En) (g:Gh) (a:Act) (w:World),ELp P E ls->E.sh=false->E.pin=none->uU E g n st a w->c.wp P (λe a' w'=>∃ g' st',uU E g' n st' a' w'/\Q e st') a w
theorem K5{P:Program}{fn:Func}{c:Code}{f:FuncId}{args:List V}{ln:List A}{st0:St}{m:Bool}{res:V}{outs:List (List C)}
  (hf:P.funcs[f]?=some fn) (hb:fn.body=some c) (hnm:(fn.name == "runtime.NumGoroutine")=false) (hle:ln.length<=fn.ntmps) (ht:sE fn.ntmps fn=true)
  (ha:(tO 0 args MA.ret).run ez=some (ln,st0)) (hl:jH 0 args ln=true)
  (h:Wz P fn.ntmps (jO 0 args) c (AQ P m fn args res outs) (eC ln st0)):av P f args res outs:=by
 refine ⟨⟨fn,hf,by simp [hb],hnm⟩,λw F vs bs hF hVV hnd hnf htb=>?_⟩
 let E:En:={ w0:=w,X:=λb=>b∈bs,F0:=F,lent:=nJ 0 args vs }
 let g0:Gh:={ F:=F,ob:=λ_=>0,rw:=λ_=>.nilFunc,dw:=w }
 have hM0:gG E g0 ez w:=⟨λs cells h=>Do,λs s' h=>Do,λr x h=>Do,λr r' b h=>Ys,λr s h=>Ys,
  λb hb=>⟨hF b hb,λ_=>.inl hb,.inl hb⟩,rfl,rfl,rfl,zWJ _,λ_ _ _=>.inl rfl,λ_ h=>h.elim,⟨rfl,rfl,rfl⟩,λ_ h=>h.elim⟩
 obtain ⟨as',st1,g1,hG,h1,hlen,hx⟩:=EE args hM0 hVV hnd (λb hb=>⟨hnf b hb,λs hs=>(by cases hs),λr hr=>ZU,.inr hb⟩) ha;obtain ⟨rfl,rfl⟩:=gZ h1;have hM1:gG E g1 (eC ln st0) w:=⟨hG.mem.ob,hG.mem.obne,hG.mem.row,hG.mem.rowne,hG.mem.rowob,hG.mem.F,hG.mem.os,hG.mem.tape,hG.mem.output,hG.mem.sizes,hG.mem.frame,hG.mem.shp,hG.mem.dep0⟩;obtain ⟨hl1,hl2⟩:=BK hl hVV hlen hx;have hS:uU E g1 fn.ntmps (eC ln st0) { tmps:=vs.toArray++zZg (fn.ntmps - vs.toArray.size) undef,defers:=[] } w:=by
  refine ⟨hM1,by simp; omega,rfl,λi hi=>?_,λi hi=>?_,hl1,λ_ h=>Do⟩
  ·show ∃ v,_/\VR w g1 st0.O st0.R (match ln[i]? with | some a=>a | none=>.undef) v
   cases hai:ln[i]? with
   | some a =>
    obtain ⟨u,hu,hr⟩:=hx i a hai;have hlt:i < vs.length:=(sr.1 hu).1;exact ⟨u,by rw [zZV TA]; simpa using hu,hr⟩
   | none =>
    have hge:ln.length<=i:=aab.1 hai;refine ⟨undef,?_,.undef _⟩;rw [zZW (by simpa [<- hlen] using hge)];rw [zZH,if_pos Yw]
  ·show (match ln[i]? with | some a=>a | none=>.undef)=A.undef;rw [aab.2 ak]
 refine calls_of_wp hf hb (wp_mono (h E g1 _ w ⟨⟨[],by rw [zWW]; exact (rI _ _ _).symm,Jd _ _ _,λ_ h=>Do,λh=>Do⟩,⟨htb.mono λb h=>h.elim id λh=>VH⟩⟩ rfl rfl hS) λe a' w' ⟨g',st',hS',hR⟩=>?_);obtain ⟨he,l,st2,res0,outs0,hres,hrun,hvle,hole⟩:=hR;have hfin:a'.defers=[]/\∃ v,(results fn a'.tmps).run P w'=.ok v w'/\(λe w'=>∃ v F' bv bo,e=Ending.returned v/\rc w w'/\(∀ b,b < w.heap.size->b∉bs->w'.heap[b]?=w.heap[b]?)/\(∀ b,F b->F' b) /\
   (∀ b,F' b->b < w'.heap.size/\(b < w.heap.size->F b\/b∈bs)/\(F b\/Wr w' b))/\VV w' F' res v bv/\sB w' F' args vs outs bo/\(bv++bo).Nodup/\∀ b∈bv++bo,¬ F' b/\(w.heap.size<=b\/b∈bs)) (.returned v) w':=by
  refine ⟨hS'.defers,?_⟩;obtain ⟨v,hrv,hvv⟩:=EM hS' hres ht;refine ⟨v,hrv,?_⟩;have hM':=hS'.mem;obtain ⟨os,st3,g3,bo,hM3,hE3,hL3,h3,hO,hT3⟩:=BJ (w:=w') args hM' (us:=vs) (hVV.len.symm) (λj c hj=>by
   obtain ⟨b,h5,h6⟩:=hl2 j c hj;rw [(hS'.lent _ _ h6).2];exact h5) hrun
  obtain ⟨c',st4,g4,bv,hM4,hE4,hL4,h4,hv4,hT4⟩:=HH hM3 (hvv.mono hE3) h3;obtain ⟨h5,rfl⟩:=gZ h4;injection h5 with h5 h6
  subst h5 h6;have hT:=hT3.app hM' hL3 hT4 hL4;have hof:∀ b∈bo++bv,w.heap.size<=b\/b∈bs:=λb hb=>by
   rcases hT.of b hb with ⟨r,⟨e,sz,rows,h7⟩,_,h8⟩ | ⟨s,⟨c,cs,h7⟩,_,h8⟩
   ·obtain ⟨_,_,_,_,h9⟩:=hM'.row r _ h7;exact (h9 b h8).2
   ·obtain ⟨_,_,_,_,_,_,h9⟩:=hM'.ob s _ h7;rw [h8] at h9;exact h9
  have hnF:∀ b∈bo++bv,¬ (g4.F b\/F b):=λb hb h=>by
   rcases h with h | h
   ·exact hT.nf b hb h
   ·rcases hof b hb with h7 | h7
    ·have:=hF b h; omega
    ·exact hnf b h7 h
  have hmem:∀ b,b∈bv++bo->b∈bo++bv:=λb hb=>by
   rcases An.1 hb with h | h <;> simp [h]
  refine ⟨v,λb=>g4.F b\/F b,bv,bo,rfl,⟨hM4.os,hM4.tape,hM4.output,hM4.sizes⟩,λb hb hbs=>hM4.frm rfl b hb hbs,λb h=>.inr h,λb h=>?_,hvle.vv (hv4.mono (λ_ _=>rfl) (λ_ h=>.inl h) (λ_ _=>rfl)),MT (hO.mono (λb h=>.inl (hE4.F b h))) hole,?_,λb hb=>⟨hnF b (hmem b hb),hof b (hmem b hb)⟩⟩
  ·rcases h with h | h
   ·exact hM4.F b h
   ·exact ⟨zWV (hF b h) hM4.sizes,λ_=>.inl h,.inl h⟩
  ·have:=hT.nodup;rw [zXk] at this ⊢;exact ⟨this.2.1,this.1,λx hx y hy he=>this.2.2 y hy x hx he.symm⟩
 rcases he with rfl | rfl
 ·exact hfin
 ·exact hfin
theorem MU{P:Program}{fn:Func}{c:Code}{f:FuncId}{args:List V}{ln:List A}{st0:St}{m:Bool}{res:V}{outs:List (List C)}
  (hf:P.funcs[f]?=some fn) (hb:fn.body=some c) (hnm:(fn.name == "runtime.NumGoroutine")=false) (hle:ln.length<=fn.ntmps) (ht:sE fn.ntmps fn=true)
  (ha:(tO 0 args MA.ret).run ez=some (ln,st0)) (hl:jH 0 args ln=true)
  (h:Wp P fn.ntmps (jO 0 args) c (AQ P m fn args res outs) (eC ln st0)):av P f args res outs:=K5 hf hb hnm hle ht ha hl λE g a w hE _ _ hS=>h E g a w hE hS
theorem Jg{E:En}{g:Gh}{st0:St}{w:World}{n:Nat}{ln:List A}{vs:List Value}(hM:gG E g (eC ln st0) w)(hlen:vs.length=ln.length)(hle:ln.length<=n)
  (hx:∀ (j:Nat) (x:A),ln[j]?=some x->∃ u,vs[j]?=some u/\VR w g st0.O st0.R x u) (hl:E.lent=[]) (hp:∀ v,E.pin=some v->(eC ln st0).R PR/\g.rw PR=v) :
  uU E g n (eC ln st0) { tmps:=vs.toArray++zZg (n - vs.toArray.size) undef,defers:=[] } w:=by
 refine ⟨hM,by simp; omega,rfl,λi hi=>?_,λi hi=>?_,λs b h=>(by rw [hl] at h; cases h),hp⟩
 ·show ∃ v,_/\VR w g st0.O st0.R (match ln[i]? with | some a=>a | none=>.undef) v
  cases hai:ln[i]? with
  | some a =>
   obtain ⟨u,hu,hr⟩:=hx i a hai;have hlt:i < vs.length:=(sr.1 hu).1;exact ⟨u,by rw [zZV TA]; simpa using hu,hr⟩
  | none =>
   have hge:ln.length<=i:=aab.1 hai;refine ⟨undef,?_,.undef _⟩;rw [zZW (by simpa [hlen] using hge)];rw [zZH,if_pos Yw]
 ·show (match ln[i]? with | some a=>a | none=>.undef)=A.undef;rw [aab.2 ak]
def C.toX:C->A
 | .t x=>Yz false x
 | _=>.undef
def V.toX:V->A
 | .one c=>c.toX
 | .agg l=>.agg (l.map C.toX)
 | .fptr cells=>.exa false cells
 | _=>.undef
theorem CV.toX{w:World}{D:Nat->Prop}{g:Gh}{c:C}{v:Value}{bs:List Nat}(h:CV w D c v bs)(h1:g.D=D)(h2:g.dw=w)(h3:g.sh=false):VR w g K4 K4 c.toX v:=by
 cases h with
 | t x v h =>
  cases x with
  | sl sz rows=>exact .ext false _ v h3 (by rw [h1,h2]; exact h.sd)
  | int k n=>exact .t _ v (h.sc rfl)
  | bool b=>exact .t _ v (h.sc rfl)
  | str s=>exact .t _ v (h.sc rfl)
  | nilf=>exact .t _ v (h.sc rfl)
  | hdr a n c=>exact .t _ v (h.sc rfl)
 | nil=>exact .undef _
 | ow=>exact .undef _
theorem Ps.toX{w:World}{D:Nat->Prop}{g:Gh}{l:List C}{vs:List Value}{bs:List Nat}(h:Ps w D l vs bs)(h1:g.D=D)(h2:g.dw=w)(h3:g.sh=false) :
  l.length=vs.length/\∀ (i:Nat) (x:A) (v:Value),(l.map C.toX)[i]?=some x->vs[i]?=some v->VR w g K4 K4 x v:=by
 induction h with
 | nil=>exact ⟨rfl,λi x v h=>by simp at h⟩
 | cons c v b cs vs bs h hs ih =>
  refine ⟨by simp [ih.1],λi x u hx hu=>?_⟩
  cases i with
  | zero=>simp at hx hu; subst hx hu; exact h.toX h1 h2 h3
  | succ i=>exact ih.2 i x u WW (by simpa using hu)
theorem VV.toX{w:World}{D:Nat->Prop}{g:Gh}{x:V}{v:Value}{bs:List Nat}(h:VV w D x v bs)(h1:g.D=D)(h2:g.dw=w)(h3:g.sh=false):VR w g K4 K4 x.toX v:=by
 cases h with
 | one c v bs h=>exact h.toX h1 h2 h3
 | agg l vs bs h =>
  obtain ⟨h4,h5⟩:=h.toX h1 h2 h3;exact .agg _ vs (by simp [h4]) h5
 | fptr cells b off u hF hx hr=>exact .exa false cells b off u h3 (by rw [h1]; exact hF) (by rw [h2]; exact hx) (λj x hj=>by rw [h1,h2]; exact (hr j x hj).sd)
 | _=>exact .undef _
theorem Dj.toX{w:World}{D:Nat->Prop}{g:Gh}(h1:g.D=D)(h2:g.dw=w)(h3:g.sh=false):∀ {l:List V} {vs:List Value} {bs:List Nat},Dj w D l vs bs ->
  vs.length=l.length/\∀ (j:Nat) (x:A),(l.map V.toX)[j]?=some x->∃ u,vs[j]?=some u/\VR w g K4 K4 x u
 | _,_,_,.nil=>⟨rfl,λj x h=>by simp at h⟩
 | _,_,_,.cons x v b l vs bs h hs=>by
  obtain ⟨h4,h5⟩:=Dj.toX h1 h2 h3 hs;refine ⟨by simp [h4],λj y hy=>?_⟩
  cases j with
  | zero=>simp at hy; subst hy; exact ⟨v,rfl,h.toX h1 h2 h3⟩
  | succ j=>exact h5 j y Tx |>.imp λu hu=>⟨by simpa using hu.1,hu.2⟩
theorem qbk{E:En}{g:Gh}{ln:List A}{w:World}(h1:∀ b,¬ g.F b)(hS0:∀ b,¬ g.S b:=by exact λ_ h=>h)(hw:E.w0=w)(hd:g.D=E.D/\g.dw=E.w0/\g.sh=E.sh)(hD:∀ b,E.D b->b < E.w0.heap.size/\¬ E.X b/\(E.sh=true->¬ E.F0 b/\Wr E.w0 b)):gG E g (eC ln ez) w:=by
 subst hw;exact ⟨λs cells h=>Do,λs s' h=>Do,λr x h=>Do,λr r' b h=>Ys,λr s h=>Ys,
  λb hb=>(h1 b hb).elim,rfl,rfl,rfl,zWJ _,λ_ _ _=>.inl rfl,λb h=>(hS0 b h).elim,hd,hD⟩
theorem Sb{P:Program}{fn:Func}{c:Code}{f:FuncId}{args:List V}{m:Bool}{res:V}
  (hf:P.funcs[f]?=some fn) (hb:fn.body=some c) (hnm:(fn.name == "runtime.NumGoroutine")=false) (hle:args.length<=fn.ntmps) (ht:sE fn.ntmps fn=true)
  (h:Wp P fn.ntmps [1] c (AQ P m fn [] res []) (eC (args.map V.toX) ez)):oY P f args res:=by
 refine ⟨⟨fn,hf,by simp [hb],hnm⟩,λw D vs hD hVV htb=>?_⟩
 let E:En:={ w0:=w,X:=K4,F0:=K4,lent:=[],D:=D }
 let g0:Gh:={ F:=K4,ob:=λ_=>0,rw:=λ_=>.nilFunc,D:=D,dw:=w }
 have hM0:gG E g0 (eC (args.map V.toX) ez) w:=qbk (λ_ h=>h) (hw:=rfl) (hd:=⟨rfl,rfl,rfl⟩) (hD:=λb hb=>⟨hD b hb,λh=>h,λh=>Do⟩);obtain ⟨hlen,hx⟩:=Dj.toX (g:=g0) rfl rfl rfl hVV;have hS:=Jg (n:=fn.ntmps) hM0 (by simpa using hlen) Ty (λj x hj=>by
  obtain ⟨u,h1,h2⟩:=hx j x hj;exact ⟨u,h1,h2.mono ⟨λ_ _=>rfl,λ_ h=>h,λ_ h=>h.elim,λ_ h=>h.elim,⟨rfl,rfl,rfl⟩,rfl,rfl⟩⟩) rfl (λv h=>Do)
 refine calls_of_wp hf hb (wp_mono (h E g0 _ w ⟨⟨[1],rfl,λ_ h=>Do,λ_ h=>Do,λ_ b=>⟨λh=>h,λh=>h⟩⟩,⟨htb.mono λb h=>h.elim id λh=>VH⟩⟩ hS) λe a' w' ⟨g',st',hS',hR⟩=>?_);obtain ⟨he,l,st2,res0,outs0,hres,hrun,hvle,hole⟩:=hR;have hfin:a'.defers=[]/\∃ v,(results fn a'.tmps).run P w'=.ok v w'/\(λe w'=>∃ v F' bv,e=Ending.returned v/\rc w w'/\(∀ b,b < w.heap.size->w'.heap[b]?=w.heap[b]?) /\
   (∀ b,F' b->b < w'.heap.size/\w.heap.size<=b/\Wr w' b)/\VV w' F' res v bv/\bv.Nodup/\∀ b∈bv,¬ F' b/\w.heap.size<=b) (.returned v) w':=by
  refine ⟨hS'.defers,?_⟩;obtain ⟨v,hrv,hvv⟩:=EM hS' hres ht;refine ⟨v,hrv,?_⟩;have hM':=hS'.mem;simp only [AP] at hrun;obtain ⟨c',st4,g4,bv,hM4,hE4,hL4,h4,hv4,hT4⟩:=HH hM' hvv hrun;obtain ⟨h5,rfl⟩:=gZ h4;injection h5 with h5 h6
  subst h5 h6;have hof:∀ b∈bv,w.heap.size<=b:=λb hb=>by
   rcases hT4.of b hb with ⟨r,⟨e,sz,rows,h7⟩,_,h8⟩ | ⟨s,⟨c,cs,h7⟩,_,h8⟩
   ·obtain ⟨_,_,_,_,h9⟩:=hM'.row r _ h7;exact (h9 b h8).2.resolve_right (λh=>h)
   ·obtain ⟨_,_,_,_,_,_,h9⟩:=hM'.ob s _ h7;rw [h8] at h9;exact h9.resolve_right (λh=>h)
  refine ⟨v,g4.F,bv,rfl,⟨hM4.os,hM4.tape,hM4.output,hM4.sizes⟩,λb hb=>hM4.frm rfl b hb (λh=>h),λb h=>?_,hvle.vv hv4,hT4.nodup,λb hb=>⟨hT4.nf b hb,hof b hb⟩⟩;obtain ⟨h7,h8,h9⟩:=hM4.F b h;refine ⟨h7,Nat.le_of_not_lt λhlt=>?_,h9.resolve_left (λh=>h)⟩;rcases h8 hlt with h | h <;> exact h
 rcases he with rfl | rfl
 ·exact hfin
 ·exact hfin
def Cr(e sz:Nat)(rows:List (List T)):St:=⟨λ_=>.undef,λ_=>none,λr=>bif zXX r PR then some (.live e sz rows) else none⟩
theorem Sc{e sz r:Nat}{rows:List (List T)}{x:TC}(h:(Cr e sz rows).rw r=some x):r=PR/\x=.live e sz rows:=by
 unfold Cr at h;simp only at h
 cases hb:zXX r PR with
 | true=>rw [hb] at h; cases h; exact ⟨zWz hb,rfl⟩
 | false=>rw [hb] at h; cases h
theorem Se{P:Program}{fn:Func}{c:Code}{f:FuncId}{args xs:List V}{ln:List A}{st0:St}{m:Bool}{res:V}{outs:List (List C)}
  (hf:P.funcs[f]?=some fn) (hb:fn.body=some c) (hnm:(fn.name == "runtime.NumGoroutine")=false) (hle:(ln++xs.map V.toX).length<=fn.ntmps) (ht:sE fn.ntmps fn=true)
  (ha:(tO 0 args MA.ret).run ez=some (ln,st0)) (hl:jH 0 args ln=true)
  (h:Wp P fn.ntmps (jO 0 args) c (AQ P m fn args res outs) (eC (ln++xs.map V.toX) st0)):U3 P f args xs res outs:=by
 refine ⟨⟨fn,hf,by simp [hb],hnm⟩,λw F D vs us bs hF hD hVV hUU hnd hnf htb=>?_⟩
 let E:En:={ w0:=w,X:=λb=>b∈bs,F0:=F,lent:=nJ 0 args vs,D:=D }
 let g0:Gh:={ F:=F,ob:=λ_=>0,rw:=λ_=>.nilFunc,D:=D,dw:=w }
 have hM0:gG E g0 ez w:=⟨λs cells h=>Do,λs s' h=>Do,λr x h=>Do,λr r' b h=>Ys,λr s h=>Ys,
  λb hb=>⟨hF b hb,λ_=>.inl hb,.inl hb⟩,rfl,rfl,rfl,zWJ _,λ_ _ _=>.inl rfl,λ_ h=>h.elim,⟨rfl,rfl,rfl⟩,λb hb=>⟨(hD b hb).1,(hD b hb).2,λh=>Do⟩⟩
 obtain ⟨as',st1,g1,hG,h1,hlen,hx⟩:=EE args hM0 hVV hnd (λb hb=>⟨hnf b hb,λs hs=>(by cases hs),λr hr=>ZU,.inr hb⟩) ha;obtain ⟨rfl,rfl⟩:=gZ h1;have hM1:gG E g1 (eC (ln++xs.map V.toX) st0) w:=⟨hG.mem.ob,hG.mem.obne,hG.mem.row,hG.mem.rowne,hG.mem.rowob,hG.mem.F,hG.mem.os,hG.mem.tape,hG.mem.output,hG.mem.sizes,hG.mem.frame,hG.mem.shp,hG.mem.dep0⟩;obtain ⟨hl1,hl2⟩:=BK hl hVV hlen hx;obtain ⟨hd1,hd2,hd3⟩:=hG.mem.dep0.1;obtain ⟨hul,hux⟩:=Dj.toX (g:=g1) (by rw [hd1]) (by rw [hd2]) (by rw [hd3]) hUU;have hx2:∀ (j:Nat) (x:A),(ln++xs.map V.toX)[j]?=some x->∃ u,(vs++us)[j]?=some u/\VR w g1 st0.O st0.R x u:=λj x hj=>by
  rw [zWK] at hj
  split at hj
  ·rename_i hlt;obtain ⟨u,h5,h6⟩:=hx j x hj;exact ⟨u,by rw [zQQ ak]; exact h5,h6⟩
  ·rename_i hge;obtain ⟨u,h5,h6⟩:=hux _ x hj;exact ⟨u,by rw [r0 ak,<- hlen]; exact h5,h6.mono ⟨λ_ _=>rfl,λ_ h=>h,λ_ h=>h.elim,λ_ h=>h.elim,⟨rfl,rfl,rfl⟩,rfl,rfl⟩⟩
 have hlen2:(ln++xs.map V.toX).length=(vs++us).length:=by simp [hlen,hul]
 have hle2:ln.length+xs.length<=fn.ntmps:=by simpa using hle
 have hvl:(vs++us).length=vs.length+us.length:=zQG;have hS:uU E g1 fn.ntmps (eC (ln++xs.map V.toX) st0) { tmps:=(vs++us).toArray++zZg (fn.ntmps - (vs++us).toArray.size) undef,defers:=[] } w:=by
  refine ⟨hM1,by simp; omega,rfl,λi hi=>?_,λi hi=>?_,hl1,λ_ h=>Do⟩
  ·show ∃ v,_/\VR w g1 st0.O st0.R (match (ln++xs.map V.toX)[i]? with | some a=>a | none=>.undef) v
   cases hai:(ln++xs.map V.toX)[i]? with
   | some a =>
    obtain ⟨u,hu,hr⟩:=hx2 i a hai;have hlt:i < (vs++us).length:=(sr.1 hu).1;exact ⟨u,by rw [zZV TA]; simpa using hu,hr⟩
   | none =>
    have hge:(ln++xs.map V.toX).length<=i:=aab.1 hai;refine ⟨undef,?_,.undef _⟩;rw [zZW (by simpa [<- hlen2] using hge)];rw [zZH,if_pos Yw]
  ·show (match (ln++xs.map V.toX)[i]? with | some a=>a | none=>.undef)=A.undef;rw [aab.2 ak]
 refine calls_of_wp hf hb (wp_mono (h E g1 _ w ⟨⟨[],by rw [zWW]; exact (rI _ _ _).symm,Jd _ _ _,λ_ h=>Do,λh=>Do⟩,⟨htb.mono λb h=>h.elim id λh=>VH⟩⟩ hS) λe a' w' ⟨g',st',hS',hR⟩=>?_);obtain ⟨he,l,st2,res0,outs0,hres,hrun,hvle,hole⟩:=hR;have hfin:a'.defers=[]/\∃ v,(results fn a'.tmps).run P w'=.ok v w'/\(λe w'=>∃ v F' bv bo,e=Ending.returned v/\rc w w'/\(∀ b,b < w.heap.size->b∉bs->w'.heap[b]?=w.heap[b]?)/\(∀ b,F b->F' b) /\
   (∀ b,F' b->b < w'.heap.size/\(b < w.heap.size->F b\/b∈bs)/\(F b\/Wr w' b))/\VV w' F' res v bv/\sB w' F' args vs outs bo/\(bv++bo).Nodup/\∀ b∈bv++bo,¬ F' b/\(w.heap.size<=b\/b∈bs)) (.returned v) w':=by
  refine ⟨hS'.defers,?_⟩;obtain ⟨v,hrv,hvv⟩:=EM hS' hres ht;refine ⟨v,hrv,?_⟩;have hM':=hS'.mem;obtain ⟨os,st3,g3,bo,hM3,hE3,hL3,h3,hO,hT3⟩:=BJ (w:=w') args hM' (us:=vs) (hVV.len.symm) (λj c hj=>by
   obtain ⟨b,h5,h6⟩:=hl2 j c hj;rw [(hS'.lent _ _ h6).2];exact h5) hrun
  obtain ⟨c',st4,g4,bv,hM4,hE4,hL4,h4,hv4,hT4⟩:=HH hM3 (hvv.mono hE3) h3;obtain ⟨h5,rfl⟩:=gZ h4;injection h5 with h5 h6
  subst h5 h6;have hT:=hT3.app hM' hL3 hT4 hL4;have hof:∀ b∈bo++bv,w.heap.size<=b\/b∈bs:=λb hb=>by
   rcases hT.of b hb with ⟨r,⟨e,sz,rows,h7⟩,_,h8⟩ | ⟨s,⟨c,cs,h7⟩,_,h8⟩
   ·obtain ⟨_,_,_,_,h9⟩:=hM'.row r _ h7;exact (h9 b h8).2
   ·obtain ⟨_,_,_,_,_,_,h9⟩:=hM'.ob s _ h7;rw [h8] at h9;exact h9
  have hnF:∀ b∈bo++bv,¬ (g4.F b\/F b):=λb hb h=>by
   rcases h with h | h
   ·exact hT.nf b hb h
   ·rcases hof b hb with h7 | h7
    ·have:=hF b h; omega
    ·exact hnf b h7 h
  have hmem:∀ b,b∈bv++bo->b∈bo++bv:=λb hb=>by
   rcases An.1 hb with h | h <;> simp [h]
  refine ⟨v,λb=>g4.F b\/F b,bv,bo,rfl,⟨hM4.os,hM4.tape,hM4.output,hM4.sizes⟩,λb hb hbs=>hM4.frm rfl b hb hbs,λb h=>.inr h,λb h=>?_,hvle.vv (hv4.mono (λ_ _=>rfl) (λ_ h=>.inl h) (λ_ _=>rfl)),MT (hO.mono (λb h=>.inl (hE4.F b h))) hole,?_,λb hb=>⟨hnF b (hmem b hb),hof b (hmem b hb)⟩⟩
  ·rcases h with h | h
   ·exact hM4.F b h
   ·exact ⟨zWV (hF b h) hM4.sizes,λ_=>.inl h,.inl h⟩
  ·have:=hT.nodup;rw [zXk] at this ⊢;exact ⟨this.2.1,this.1,λx hx y hy he=>this.2.2 y hy x hx he.symm⟩
 rcases he with rfl | rfl
 ·exact hfin
 ·exact hfin
def Z5(P:Program)(fn:Func)(lo m e:Nat)(rows:List (List T))(ex:Exit)(st:St):Prop :=
 (ex=.ret\/ex=.normal)/\(∃ l,yW P st fn.results.toList=some l/\TV l=.win PR lo m)/\st.rw PR=some (.live e 1 rows)
theorem OG{P:Program}{fn:Func}{c:Code}{f:FuncId}{e lo m:Nat}{rows:List (List T)}{ts:List T}{ln:List A}{args:List V}
  (hf:P.funcs[f]?=some fn) (hb:fn.body=some c) (hnm:(fn.name == "runtime.NumGoroutine")=false) (hle:ln.length+1<=fn.ntmps) (ht:sE fn.ntmps fn=true) (ha:Fu ln=some args) (hrs:∀ row∈rows,∀ x∈row,T.sc x=true)
  (h:Wp P fn.ntmps [0] c (Z5 P fn lo m e rows) (eC (.agg (ts.map A.t++[.own PR]) :: ln) (Cr e 1 rows))):Kl P f e ts rows args lo m:=by
 refine ⟨⟨fn,hf,by simp [hb],hnm⟩,λw F v us vs inner hF hown hRC hnf hus hts hVV htb=>?_⟩
 let E:En:={ w0:=w,X:=λb=>v.ownBlock=some b,F0:=F,lent:=[],pin:=some v }
 let g0:Gh:={ F:=F,ob:=λ_=>0,rw:=λ_=>v,dw:=w }
 have hrow:sS w w E.X F v (.live e 1 rows):=hRC.rowAt (E:=E) (g:=g0) hown (λb hb=>⟨hnf b hb,.inr hb⟩);have hL:∀ {r},(eC (.agg (ts.map A.t++[.own PR]) :: ln) (Cr e 1 rows)).L r->r=PR:=λ⟨_,_,_,h⟩=>(Sc h).1;have hM0:gG E g0 (eC (.agg (ts.map A.t++[.own PR]) :: ln) (Cr e 1 rows)) w:=⟨λs cells h=>Do,λs s' h=>Do,λr x h=>(by obtain ⟨_,rfl⟩:=Sc h; exact hrow),λr r' b h h' _ _=>(hL h).trans (hL h').symm,λr s h hs=>(by cases hs),
  λb hb=>⟨hF b hb,λ_=>.inl hb,.inl hb⟩,rfl,rfl,rfl,zWJ _,λ_ _ _=>.inl rfl,λ_ h=>h.elim,⟨rfl,rfl,rfl⟩,λ_ h=>h.elim⟩
 have hR:(eC (.agg (ts.map A.t++[.own PR]) :: ln) (Cr e 1 rows)).R PR:=rfl;obtain ⟨hlen,hx⟩:=Xb (g:=g0) (O:=K4) (R:=K4) ha hVV;have hS:=Jg (vs:=Value.agg (us++[v]).toArray :: vs) (n:=fn.ntmps) hM0 (by simp [hlen]) Ty (λj x hj=>by
  cases j with
  | zero =>
   simp at hj; subst hj;refine ⟨_,rfl,.agg _ (us++[v]) (by simp [hus]) λj x u h1 h2=>?_⟩;rw [zWK] at h1 h2;simp only [zWw] at h1
   split at h1
   ·rename_i hlt;rw [if_pos ak] at h2;rw [zQz,zWj] at h1;obtain ⟨y,h3,rfl⟩:=h1;exact .t _ _ (hts j y u h3 h2)
   ·rename_i hge;rw [if_neg ak] at h2;have h3:j - ts.length=0:=by have:=(sr.1 h1).1; simp at this; omega
    rw [h3] at h1;rw [hus,h3] at h2;simp at h1 h2;subst h1 h2;exact .own (g:=g0) PR hR
  | succ j =>
   have hj':ln[j]?=some x:=by simpa using hj
   have hlt:j < vs.length:=by rw [<- hlen]; exact (sr.1 hj').1
   exact ⟨vs[j],by simp [hlt],(hx j x vs[j] hj' (sX hlt)).mono ⟨λ_ _=>rfl,λ_ h=>h,λ_ h=>h.elim,λ_ h=>h.elim,⟨rfl,rfl,rfl⟩,rfl,rfl⟩⟩) rfl (λv' h=>by cases h; exact ⟨hR,rfl⟩)
 refine calls_of_wp hf hb (wp_mono (h E g0 _ w ⟨⟨[0],rfl,λ_ h=>Do,λ_ _=>by simp,λh=>by simp at h⟩,⟨htb.mono λb h=>h.elim id λh=>VH⟩⟩ hS) λex a' w' ⟨g',st',hS',hR'⟩=>?_);obtain ⟨he,⟨l,hres,hl⟩,hrw⟩:=hR';have hfin:a'.defers=[]/\∃ v',(results fn a'.tmps).run P w'=.ok v' w'/\(λex w'=>∃ ad n c a' c' inner',v=.slice ad n c/\ex=Ending.returned (.slice a' m c')/\lo+m<=n/\(0 < m->∃ b,ad=some ⟨b,0,none⟩/\a'=some ⟨b,lo,none⟩)/\rc w w' /\
   (∀ b,b < w.heap.size->v.ownBlock≠some b->w'.heap[b]?=w.heap[b]?)/\w'.ownsRow 0 e 1 v rows.length inner'/\xS w' F 1 rows inner') (.returned v') w':=by
  refine ⟨hS'.defers,?_⟩;obtain ⟨u,hrv,hvv⟩:=EM hS' hres ht;refine ⟨u,hrv,?_⟩;have hM':=hS'.mem;rw [hl] at hvv;have hpin:=(hS'.pin v rfl).2;obtain ⟨inner',ho',hC,_⟩:=(hM'.row PR _ hrw).rcs;rw [hpin] at ho'
  cases hvv with
  | win _ _ _ n c c' ad a2 hr he2 hm hp =>
   rw [hpin] at he2;refine ⟨ad,n,c,a2,c',inner',he2,rfl,hm,hp,⟨hM'.os,hM'.tape,hM'.output,hM'.sizes⟩,λb h1 h2=>hM'.frm rfl b h1 h2,ho',hC.size,hC.len,λi row j x hi hj=>?_⟩;obtain ⟨q,hq,ho,hr⟩:=hC.rd i row j x hi hj;exact ⟨q,hq,ho,hr.sc (hrs row (zQY hi) x (zQY hj))⟩
 rcases he with rfl | rfl
 ·exact hfin
 ·exact hfin
def re(P:Program)(ρ:Nat->fy)(ops:Array Oper):List Oper->St->Option St
 | [],st=>some st
 | o :: l,st=>match iU ops st o with
  | some true=>if eV ρ st o then match (qd P ρ st.eval o).run st with | some (x,st1)=>re P ρ ops l (st1.put o.dst x) | none=>none else none
  | some false=>re P ρ ops l (st.put o.dst (.tup []))
  | none=>none
def St.or(x:Option St):St:=match x with | some s=>s | none=>ez
section
variable {P:Program} {n:Nat} {Q:Exit->St->Prop} {st st':St} {p:Nat->Bool} {ρ:Nat->fy} {ops:Array Oper} {l:List Oper} {K:St->Prop} {o:Oper}
theorem EN:∀ {l:List Oper} {st st1:St},re P ρ ops l st=some st1->MQ P p ρ ops l st st1
 | [],st,st1,h=>by cases h; rfl
 | o :: l,st,st1,h=>by
  unfold re at h
  split at h
  ·rename_i hg
   split at h
   ·rename_i hf
    split at h
    ·rename_i x st2 hx;exact ⟨_,.run x st2 hg hf (.plain hx),EN h⟩
    ·cases h
   ·cases h
  ·rename_i hg;exact ⟨_,.skip hg,EN h⟩
  ·cases h
theorem MQ.app:∀ {l l':List Oper} {st b c:St},MQ P p ρ ops l st b->MQ P p ρ ops l' b c->MQ P p ρ ops (l++l') st c
 | [],l',st,b,c,h,h'=>by have h:b=st:=h; subst h; exact h'
 | o :: l,l',st,b,c,⟨d,h1,h2⟩,h'=>⟨d,h1,MQ.app h2 h'⟩
theorem al(k:Nat)(h:(re P ρ ops (l.take k) st).isSome=true)(hr:ab P p ρ ops (l.drop k) (St.or (re P ρ ops (l.take k) st)) K):ab P p ρ ops l st K:=by
 obtain ⟨st1,h1⟩:=DQ.1 h;rw [h1] at hr;obtain ⟨st',h2,h3⟩:=hr;refine ⟨st',?_,h3⟩;have:=MQ.app (EN h1) h2;rwa [zXv] at this
theorem ab.all(h:(re P ρ ops l st).isSome=true)(hr:K (St.or (re P ρ ops l st))):ab P p ρ ops l st K:=by
 obtain ⟨st1,h1⟩:=DQ.1 h;rw [h1] at hr;exact ⟨st1,EN h1,hr⟩
theorem ab.call{m:Bool}{d f:Nat}{xf:Operand}{args:Array Operand}{ts:Array TypeId}{caps ln:List A}{vs:List V}{st1:St}{res:V}{outs:List (List C)}{x:A}
  (hg:iU ops st o=some true) (hf:eV ρ st o=true) (ho:o.op=.call { callee:=.value xf,args,argTypes:=ts }) (hd:o.dst=some d) (hxf:st.eval xf=some (.clo f caps)) (has:ef (args.toList.map st.eval)=some ln)
  (hp:(kf m p (ln++caps) MA.ret).run st=some (vs,st1)) (hc:av P f vs res outs) (hr:(fa d (fL (ln++caps)) outs (V.toA d (iP d 0) res MA.ret)).run st1=some (x,st'))
  (hk:ab P p ρ ops l (st'.put o.dst x) K):ab P p ρ ops (o :: l) st K :=
 ab.step (.run x st' hg hf (.call m d f xf args ts caps ln vs st1 res outs ho hd hxf has hp hc hr)) hk
theorem ab.callB{d f:Nat}{xf:Operand}{args:Array Operand}{ts:Array TypeId}{caps ln:List A}{vs:List V}{res:V}{x:A}
  (hg:iU ops st o=some true) (hf:eV ρ st o=true) (ho:o.op=.call { callee:=.value xf,args,argTypes:=ts }) (hd:o.dst=some d) (hxf:st.eval xf=some (.clo f caps)) (has:ef (args.toList.map st.eval)=some ln)
  (hp:(eZ (ln++caps) MA.ret).run st=some (vs,st)) (hc:av P f vs res []) (hpl:res.plain) (hr:(V.toA d (iP d 0) res MA.ret).run st=some (x,st'))
  (hk:ab P p ρ ops l (st'.put o.dst x) K):ab P p ρ ops (o :: l) st K :=
 ab.step (.run x st' hg hf (.callB d f xf args ts caps ln vs res ho hd hxf has hp hc hpl hr)) hk
theorem qaO{α:Type}{t e:TypeId}{f:α->List T}{xs:List α}{y:α}{sz:Nat}{kk:IntKind}{i:Int}(hu:P.underlying t=some (.slice e))(hs:i6 P e=some sz)(h0:0<=i)(h:xs[i.toNat]?=some y) :
  (mI P t (.t (.sl sz (xs.map f))) (.t (.int kk i))).run st=some (.fadr (f y),st):=by
 unfold mI;simp only [hu,hs,Cg,h0,and_self,↓reduceIte,zQz,h,zWY,true_and,MA.run]
theorem YR{α:Type}{t e:TypeId}{f:α->List T}{xs:List α}{y:α}{sz r:Nat}{kk:IntKind}{i:Int}{e':TypeId}(hu:P.underlying t=some (.slice e))(hs:i6 P e=some sz)(hr:st.rw r=some (.live e' sz (xs.map f)))(h0:0<=i)(h:xs[i.toNat]?=some y) :
  (mI P t (.own r) (.t (.int kk i))).run st=some (.elem r sz i.toNat 0,st):=by
 have:i.toNat < xs.length:=(sr.1 h).1;unfold mI;simp only [hu,hs,MA.run,hr,h0,zWw,this,and_self,↓reduceIte,true_and]
end
section
variable {P:Program} {n:Nat} {ls:List Nat} {st st1:St}
theorem Le.trans{st2:St}(h:Le n ls st st1)(k:Le n ls st1 st2):Le n ls st st2:=λE g a w hE hS=>by
 obtain ⟨g1,h1⟩:=h E g a w hE hS;exact k E g1 a w hE h1
theorem Vb{t:Nat}{x:A}(htm:st1.tm=st.tm)(h:∀ (E:En) (g:Gh) (w:World) (v:Value),gG E g st w->VR w g st.O st.R (st.tm t) v->∃ g1,gG E g1 st1 w/\th w w g g1 st.O st.R st1.O st1.R/\VR w g1 st1.O st1.R x v)(ht:t < n) :
  Le n ls st (st1.put (some t) x):=λE g a w hE hS=>by
 obtain ⟨v,h1,h2⟩:=hS.tm t ht;obtain ⟨g1,h3,h4,h5⟩:=h E g w v hS.mem h2;refine ⟨g1,h3.put _ _,hS.size,hS.defers,λi hi=>?_,λi hi=>?_,λs b hs=>?_,λv' hv'=>⟨(h4.R _ (hS.pin v' hv').1).1,(h4.R _ (hS.pin v' hv').1).2.trans (hS.pin v' hv').2⟩⟩
 ·show ∃ u,_/\VR w g1 st1.O st1.R (jr st1.tm t x i) u
  by_cases he:i=t
  ·subst he;exact ⟨v,h1,by rw [ig]; exact h5⟩
  ·obtain ⟨u,h6,h7⟩:=hS.tm i hi;exact ⟨u,h6,by rw [fu _ _ _ _ he,htm]; exact h7.mono h4⟩
 ·show jr st1.tm t x i=A.undef;rw [fu _ _ _ _ ak,htm];exact hS.und i hi
 ·obtain ⟨h6,h7⟩:=hS.lent s b hs;exact ⟨(h4.O s h6).1,(h4.O s h6).2.trans h7⟩
theorem gG.nilrow{E:En}{g:Gh}{w:World}{r:Nat}(h:gG E g st w)(hr:st.rw r=none)(e sz:Nat) :
  gG E { g with rw:=jr g.rw r (.slice none 0 0) } { st with rw:=jr st.rw r (some (.live e sz [])) } w /\
   th w w g { g with rw:=jr g.rw r (.slice none 0 0) } st.O st.R ({ st with rw:=jr st.rw r (some (.live e sz [])) }:St).O ({ st with rw:=jr st.rw r (some (.live e sz [])) }:St).R :=
 h.new_row (rc.refl w) r hr (.slice none 0 0) e sz [] (λ_=>False) (λ_ _ _=>rfl) (λb h=>by cases h) (λ_ _ h=>h.elim) (λ_ h=>h.elim)
  ⟨[],⟨by simp,.inl ⟨rfl,rfl⟩⟩,λi row h=>by simp at h,λi row j x h=>by simp at h,λb h=>by cases h⟩
theorem Le.frz(t r e sz:Nat)(rows:List (List T))(ht:st.tm t=.own r)(hr:st.rw r=some (.live e sz rows))(hlt:Nat.blt t n=true) :
  Le n ls st (({ st with rw:=jr st.rw r (some (.frz sz rows)) }:St).put (some t) (.t (.sl sz rows))) :=
 Vb rfl (λE g w v hM hv=>by
  rw [ht] at hv
  cases hv with
  | own _ hR =>
   obtain ⟨h1,h2⟩:=hM.frz_row r e sz rows hr;have h3:Rd w _ (.sl sz rows) (g.rw r):=h1.row r (.frz sz rows) (by simp [ig]);exact ⟨_,h1,h2,.t _ _ h3⟩) TA
theorem gG.reob{E:En}{g:Gh}{w:World}{s:Nat}{cells cells':List A}(h:gG E g st w)(hs:st.ob s=some cells)(hl:cells'.length<=cells.length)
  (hx:∀ (j:Nat) (x':A),cells'[j]?=some x'->∃ x,cells[j]?=some x/\∀ v,x.one=true->VR w g st.O st.R x v->x'.one=true/\VR w g st.O st.R x' v):gG E g { st with ob:=jr st.ob s (some cells') } w:=by
 have hO:({ st with ob:=jr st.ob s (some cells') }:St).O=st.O:=by
  funext i
  unfold St.O;simp only [jr]
  split
  ·rename_i he;rw [he,hs];rfl
  ·rfl
 have hR:({ st with ob:=jr st.ob s (some cells') }:St).R=st.R:=rfl;have hL:({ st with ob:=jr st.ob s (some cells') }:St).L=st.L:=rfl;refine ⟨λi c hi=>?_,by rw [hO]; exact h.obne,h.row,h.rowne,by rw [hO,hL]; exact h.rowob,h.F,h.os,h.tape,h.output,h.sizes,h.frame,h.shp,h.dep0⟩;rw [hO,hR]
 by_cases he:i=s
 ·subst he;have hc:c=cells':=by simpa [ig] using hi.symm
  subst hc;obtain ⟨arr,e,h1,h2,h3,h4⟩:=h.ob i cells hs;refine ⟨arr,e,h1,by omega,λj x' hj=>?_,h4⟩;obtain ⟨x,hxj,hxx⟩:=hx j x' hj;obtain ⟨h5,v,h6,h7⟩:=h3 j x hxj;exact ⟨(hxx v h5 h7).1,v,h6,(hxx v h5 h7).2⟩
 ·exact h.ob i c (by simpa [jr,he] using hi)
theorem Le.mem(htm:st1.tm=st.tm)(h:∀ (E:En) (g:Gh) (w:World),gG E g st w->∃ g1,gG E g1 st1 w/\th w w g g1 st.O st.R st1.O st1.R):Le n ls st st1:=λE g a w hE hS=>by
 obtain ⟨g1,h3,h4⟩:=h E g w hS.mem;refine ⟨g1,h3,hS.size,hS.defers,λi hi=>?_,λi hi=>?_,λs b hs=>?_,λv' hv'=>⟨(h4.R _ (hS.pin v' hv').1).1,(h4.R _ (hS.pin v' hv').1).2.trans (hS.pin v' hv').2⟩⟩
 ·obtain ⟨u,h6,h7⟩:=hS.tm i hi;exact ⟨u,h6,by rw [htm]; exact h7.mono h4⟩
 ·rw [htm];exact hS.und i hi
 ·obtain ⟨h6,h7⟩:=hS.lent s b hs;exact ⟨(h4.O s h6).1,(h4.O s h6).2.trans h7⟩
theorem MV{s:Nat}{cells cells':List A}(hs:st.ob s=some cells):({ st with ob:=jr st.ob s (some cells') }:St).O=st.O:=by
 funext i
 unfold St.O;simp only [jr]
 split
 ·rename_i he;rw [he,hs];rfl
 ·rfl
theorem dI(s j r e sz:Nat)(cells:List A)(hs:st.ob s=some cells)(hj:cells[j]?=some .nil)(hr:st.rw r=none) :
  Le n ls st { tm:=st.tm,ob:=jr st.ob s (some (cells.set j (.own r))),rw:=jr st.rw r (some (.live e sz [])) } :=
 Le.mem rfl λE g w hM=>by
  obtain ⟨h1,h2⟩:=hM.nilrow hr e sz;have h3:({ g with rw:=jr g.rw r (.slice none 0 0) }:Gh).rw r=Value.slice none 0 0:=ig _ _ _;have h4:=VR.own (w:=w) (g:={ g with rw:=jr g.rw r (.slice none 0 0) }) (O:=({ st with rw:=jr st.rw r (some (.live e sz [])) }:St).O) (R:=({ st with rw:=jr st.rw r (some (.live e sz [])) }:St).R) r (by simp [St.R,ig]);rw [h3] at h4;have hs':({ st with rw:=jr st.rw r (some (.live e sz [])) }:St).ob s=some cells:=hs;have hO:=MV (cells':=cells.set j (.own r)) hs';refine ⟨_,h1.reob hs' (cells':=cells.set j (.own r)) kU (λi x' hi=>?_),⟨h2.same,h2.F,λs hs=>?_,h2.R,h2.d,h2.s⟩⟩
  ·by_cases he:j=i
   ·subst he;refine ⟨.nil,hj,λv _ hv=>?_⟩;have hlt:j < cells.length:=(sr.1 hj).1;rw [List.getElem?_set_self hlt] at hi
    cases hi
    cases hv
    exact ⟨rfl,h4⟩
   ·rw [zVw he] at hi;exact ⟨x',hi,λv h1 h2=>⟨h1,h2⟩⟩
  ·have:=h2.O s hs;exact ⟨by rw [<- hO] at this; exact this.1,this.2⟩
theorem Le.nilO(s j sz:Nat)(cells:List A)(hs:st.ob s=some cells)(hj:cells[j]?=some .nil):Le n ls st { st with ob:=jr st.ob s (some (cells.set j (.t (.sl sz [])))) } :=
 Le.mem rfl λE g w hM=>by
  have hO:=MV (cells':=cells.set j (.t (.sl sz []))) hs;refine ⟨g,hM.reob hs kU (λi x' hi=>?_),⟨λ_ _=>rfl,λ_ h=>h,λs hs=>⟨by rw [hO]; exact hs,rfl⟩,λ_ h=>⟨h,rfl⟩,⟨rfl,rfl,rfl⟩,rfl,rfl⟩⟩
  by_cases he:j=i
  ·subst he;refine ⟨.nil,hj,λv _ hv=>?_⟩;have hlt:j < cells.length:=(sr.1 hj).1;rw [List.getElem?_set_self hlt] at hi
   cases hi
   cases hv
   exact ⟨rfl,.t _ _ (.sl0 _ _ _ (by first | assumption | exact λ_=>rfl | (intro h; cases h)))⟩
  ·rw [zVw he] at hi;exact ⟨x',hi,λv h1 h2=>⟨h1,h2⟩⟩
end
end Go.Tm
namespace Go.Tm
section
variable {P:Program} {n:Nat} {ls:List Nat} {st st1:St}
theorem um(s j r e sz:Nat)(cells:List A)(rows:List (List T))(hs:st.ob s=some cells)(hj:cells[j]?=some (.own r))(hr:st.rw r=some (.live e sz rows)) :
  Le n ls st { tm:=st.tm,ob:=jr st.ob s (some (cells.set j (.t (.sl sz rows)))),rw:=jr st.rw r (some (.frz sz rows)) } :=
 Le.mem rfl λE g w hM=>by
  obtain ⟨h1,h2⟩:=hM.frz_row r e sz rows hr;have h3:Rd w _ (.sl sz rows) (g.rw r):=h1.row r (.frz sz rows) (by simp [ig]);have hs':({ st with rw:=jr st.rw r (some (.frz sz rows)) }:St).ob s=some cells:=hs;have hO:=MV (cells':=cells.set j (.t (.sl sz rows))) hs';refine ⟨_,h1.reob hs' (cells':=cells.set j (.t (.sl sz rows))) kU (λi x' hi=>?_),⟨h2.same,h2.F,λs hs=>?_,h2.R,h2.d,h2.s⟩⟩
  ·by_cases he:j=i
   ·subst he;refine ⟨.own r,hj,λv _ hv=>?_⟩;have hlt:j < cells.length:=(sr.1 hj).1;rw [List.getElem?_set_self hlt] at hi
    cases hi
    cases hv
    exact ⟨rfl,.t _ _ h3⟩
   ·rw [zVw he] at hi;exact ⟨x',hi,λv h1 h2=>⟨h1,h2⟩⟩
  ·have:=h2.O s hs;exact ⟨by rw [<- hO] at this; exact this.1,this.2⟩
end
end Go.Tm
namespace Go.Tm
open Go.RowKit
def eS{α:Type}(xs:List α)(i:Int):Option α:=if 0<=i then xs[i.toNat]? else none
theorem bX{α:Type}{xs:List α}{i:Int}{x:α}(h:eS xs i=some x):0<=i/\xs[i.toNat]?=some x:=by
 unfold eS at h
 split at h
 ·exact ⟨by assumption,h⟩
 ·cases h
def fX(b:Bool):Option Unit:=if b then some () else none
theorem bD{b:Bool}{u:Unit}(h:fX b=some u):b=true:=by
 unfold fX at h
 split at h
 ·assumption
 ·cases h
theorem aah{α β:Type}{x:Option α}{f:α->Option β}{r:β}(h:x.bind f=some r):∃ a,x=some a/\f a=some r:=by
 cases x with
 | none=>cases h
 | some a=>exact ⟨a,rfl,h⟩
def IH{β:Type}(x:Option (β×St)):St:=match x with | some q=>q.2 | none=>ez
def ZJ(x:Option (A×St)):A:=match x with | some q=>q.1 | none=>.undef
section
variable {P:Program} {n:Nat} {ls:List Nat} {Q:Exit->St->Prop} {st st':St} {p:Nat->Bool} {ρ:Nat->fy} {ops:Array Oper} {l:List Oper} {K:St->Prop} {o:Oper}
theorem TY{id:Nat}(p:Nat->Bool)(ρ:Nat->fy)(hm:P.follows .mixedOrders=true)(hok:R9 p ρ n ops=true)(h:ab P p ρ ops ops.toList st (Q .normal)):Wp P n ls (.region id ops true) Q st :=
 Wp.region (λ_=>hm) hok h
theorem MW{id:Nat}(p:Nat->Bool)(ρ:Nat->fy)(hok:ops.toList.all (xT n)=true)(h:ab P p ρ ops ops.toList st (Q .normal)):Wp P n ls (.region id ops false) Q st :=
 Wp.region (λh=>by cases h) hok h
theorem ab.known(d:Nat){e v:Bool}(h:st.tm d=.t (.bool e))(hv:e=v)(hr:ab P p ρ ops l (st.put (some d) (.t (.bool v))) K):ab P p ρ ops l st K:=by
 have:st.put (some d) (.t (.bool v))=st:=by
  refine St.ext (funext λi=>?_) rfl rfl;show jr st.tm d (.t (.bool v)) i=st.tm i;unfold jr
  split
  ·rename_i he;rw [he,h,hv]
  ·rfl
 rwa [this] at hr
theorem ab.pure{x:A}(hg:iU ops st o=some true)(hf:eV ρ st o=true)(h:(qd P ρ st.eval o).run st=some (x,st))(hr:ab P p ρ ops l (st.put o.dst x) K):ab P p ρ ops (o :: l) st K:=ab.op hg hf h hr
theorem V4{α:Type}(f:α->List T)(xs:List α)(i:Int){y:α}{t e:TypeId}{a b:Operand}{sz:Nat}{kk:IntKind}(ho:o.op=.indexAddr t a b)(hg:iU ops st o=some true)(hf:eV ρ st o=true)
  (ha:st.eval a=some (.t (.sl sz (xs.map f)))) (hb:st.eval b=some (.t (.int kk i))) (hu:P.underlying t=some (.slice e)) (hs:i6 P e=some sz) (h:eS xs i=some y) (hk:ab P p ρ ops l (st.put o.dst (.fadr (f y))) K):ab P p ρ ops (o :: l) st K:=by
 obtain ⟨h0,h1⟩:=bX h;refine ab.pure (x:=.fadr (f y)) hg hf ?_ hk;simp only [qd,ho,ha,hb];exact qaO hu hs h0 h1
theorem V5{α:Type}(f:α->List T)(xs:List α)(i:Int)(r:Nat){y:α}{t e e':TypeId}{a b:Operand}{sz:Nat}{kk:IntKind}(ho:o.op=.indexAddr t a b)(hg:iU ops st o=some true)(hf:eV ρ st o=true)
  (ha:st.eval a=some (.own r)) (hr:st.rw r=some (.live e' sz (xs.map f))) (hb:st.eval b=some (.t (.int kk i))) (hu:P.underlying t=some (.slice e)) (hs:i6 P e=some sz) (h:eS xs i=some y) (hk:ab P p ρ ops l (st.put o.dst (.elem r sz i.toNat 0)) K):ab P p ρ ops (o :: l) st K:=by
 obtain ⟨h0,h1⟩:=bX h;refine ab.pure (x:=.elem r sz i.toNat 0) hg hf ?_ hk;simp only [qd,ho,ha,hb];exact YR hu hs hr h0 h1
theorem TZ{α:Type}(f:α->List T)(xs:List α)(r i off:Nat){y:α}{t:TypeId}{a:Operand}{sz m:Nat}{e':TypeId}{gg:Bool}(x:A)(ho:o.op=.load t a)(hg:iU ops st o=some true)(hf:eV ρ st o=true)
  (ha:st.eval a=some (.elem r sz i off)) (hr:st.rw r=some (.live e' sz (xs.map f))) (hgg:RH P t=some gg) (hm:i6 P t=some m) (h:xs[i]?=some y) (hc:F7 gg m ((f y).map A.t) off=some x) (hk:ab P p ρ ops l (st.put o.dst x) K):ab P p ρ ops (o :: l) st K:=by
 refine ab.pure (x:=x) hg hf ?_ hk;simp only [qd,ho,ha,I4,hgg,hm,MA.run,hr,↓reduceIte,zQz,h,zWY,hc]
def EO(P:Program)(t:TypeId):Option (TypeId×Nat×Nat):=match P.underlying t with
 | some (.slice e)=>match CP P e,uT P e with
  | some (some _,n,by_),some z=>if z.length=n/\0 < n/\0 < by_ then some (e,n,by_) else none
  | _,_=>none
 | _=>none
theorem HI{t e:TypeId}{n by_:Nat}(h:EO P t=some (e,n,by_)):∃ z z0,P.underlying t=some (.slice e)/\CP P e=some (some z0,n,by_)/\uT P e=some z/\z.length=n/\0 < n/\0 < by_:=by
 unfold EO at h
 split at h
 ·rename_i e' hu
  split at h
  ·rename_i z0 n' by' z hi hz
   split at h
   ·rename_i hc
    cases h
    exact ⟨z,z0,hu,hi,hz,hc.1,hc.2.1,hc.2.2⟩
   ·cases h
  ·cases h
 ·cases h
theorem Xo{k:IntKind}{m:Nat}{xs:List Int}{f:Int->List T}(hf:∀ n,(f n).all T.sc=true):(((A.ext false (.sl m (xs.map f))).rows λm rows=>MA.ret (m,rows)).run st).map Prod.fst=some (m,xs.map f):=by
 have:TE (xs.map f)=true:=by
  unfold TE;rw [zYJ];intro r hr;obtain ⟨n,_,rfl⟩:=List.mem_map.1 hr;exact hf n
 simp [A.rows,this,MA.run]
theorem HJ{β:Type}{y:A}{m:Nat}{ys:List (List T)}(hy:((y.rows λm rows=>MA.ret (m,rows)).run st).map Prod.fst=some (m,ys)):∀ k:Nat->List (List T)->MA β,(y.rows k).run st=(k m ys).run st:=by
 intro k;unfold A.rows at hy ⊢
 split at hy <;> simp only [MA.run] at hy ⊢ <;> try (simp at hy; done)
 ·simp at hy; obtain ⟨rfl,rfl⟩:=hy; rfl
 ·split at hy
  ·rename_i h; rw [if_pos h]; simp [MA.run] at hy; obtain ⟨rfl,rfl⟩:=hy; rfl
  ·simp [MA.run] at hy
 ·simp at hy; obtain ⟨rfl,rfl⟩:=hy; rfl
 ·rename_i r
  revert hy
  rcases st.rw r with _ | (_ | _ | _) <;> simp only [MA.run,zWY,Option.some.injEq,Prod.mk.injEq,Option.map_none,reduceCtorEq,false_implies]
  ·rintro ⟨rfl,rfl⟩; rfl
  ·rintro ⟨rfl,rfl⟩; rfl
theorem V6(d m e nn by_ r:Nat)(xs ys:List (List T)){t:TypeId}{ts:Array TypeId}{args:Array Operand}{a b:Operand}{y:A}(ho:o.op=.call { callee:=.builtin .append,args,argTypes:=ts })(hargs:args.toList=[a,b])(hts:ts.toList=[t,t])(hd:o.dst=some d)(hg:iU ops st o=some true)(hf:eV ρ st o=true)
  (ha:st.eval a=some (.own r)) (hr:st.rw r=some (.live e nn xs)) (hb:st.eval b=some y) (hy:((y.rows λm rows=>MA.ret (m,rows)).run st).map Prod.fst=some (m,ys)) (hm:m=nn\/ys=[]) (hi:EO P t=some (e,nn,by_)) (hsz:(xs.length+ys.length)*by_<=140737488355328) (hne:zXX (iP d 0) r=false) (hfree:st.rw (iP d 0)=none)
  (hk:ab P p ρ ops l (({ st with rw:=jr (jr st.rw r (some .gone)) (iP d 0) (some (.live e nn (xs++ys))) }:St).put o.dst (.own (iP d 0))) K):ab P p ρ ops (o :: l) st K:=by
 obtain ⟨z,z0,hu,hti,hz,h1,h2,h3⟩:=HI hi;have hne':iP d 0≠r:=λh=>by rw [h,Nat.beq_refl] at hne; cases hne
 refine ab.op (x:=.own (iP d 0)) hg hf ?_ hk;have hrow:=HJ (β:=A) hy;have hfr:jr st.rw r (some TC.gone) (iP d 0)=none:=by rw [fu _ _ _ _ hne',hfree]
 simp only [qd,ho,hargs,ha,hb,xR,hts,hd,↓reduceIte,hu,hti,hz,h1,h2,h3,and_self,hrow,hm,MA.run,hr,hsz,yV,hfr]
end
section
variable {P:Program} {n:Nat} {ls:List Nat} {Q:Exit->St->Prop} {st st':St} {p:Nat->Bool} {ρ:Nat->fy} {ops:Array Oper} {l:List Oper} {K:St->Prop} {o:Oper}
theorem qaP{m:Bool}{fn:Func}{args:List V}{res:V}{outs:List (List C)}(l:List A)(res0:V)(outs0:List (List C))(hres:yW P st fn.results.toList=some l)(h:((AP 0 args λos=>V3 m (TV l) λv=>MA.ret (v,os)).run st).map Prod.fst=some (res0,outs0))(hv:TW res0 res)(ho:Bh (Bh Qr) outs0 outs):AQ P m fn args res outs .ret st:=by
 obtain ⟨⟨x,st1⟩,h1,h2⟩:=zm.1 h
 cases h2
 exact ⟨.inl rfl,l,st1,res0,outs0,hres,h1,hv,ho⟩
theorem uW{α:Type}(f:α->List T)(d m e nn by_ r:Nat)(xs ys:List α){t:TypeId}{ts:Array TypeId}{args:Array Operand}{a b:Operand}{y:A}(ho:o.op=.call { callee:=.builtin .append,args,argTypes:=ts })(hargs:args.toList=[a,b])(hts:ts.toList=[t,t])(hd:o.dst=some d)(hg:iU ops st o=some true)(hf:eV ρ st o=true)
  (ha:st.eval a=some (.own r)) (hr:st.rw r=some (.live e nn (xs.map f))) (hb:st.eval b=some y) (hy:((y.rows λm rows=>MA.ret (m,rows)).run st).map Prod.fst=some (m,ys.map f)) (hm:m=nn\/ys.map f=[]) (hi:EO P t=some (e,nn,by_)) (hsz:(xs.length+ys.length)*by_<=140737488355328) (hne:zXX (iP d 0) r=false) (hfree:st.rw (iP d 0)=none)
  (hk:ab P p ρ ops l (({ st with rw:=jr (jr st.rw r (some .gone)) (iP d 0) (some (.live e nn ((xs++ys).map f))) }:St).put o.dst (.own (iP d 0))) K):ab P p ρ ops (o :: l) st K :=
 V6 d m e nn by_ r (xs.map f) (ys.map f) ho hargs hts hd hg hf ha hr hb hy hm hi (by simpa using hsz) hne hfree (by rw [<- zXJ]; exact hk)
theorem ib(op:BinOp)(a b:T)(z:T){t u:TypeId}{x y:Operand}(ho:o.op=.binOp op t x y u)(hg:iU ops st o=some true)(hf:eV ρ st o=true)(hx:st.eval x=some (.t a))(hy:st.eval y=some (.t b))
  (h:Dh (isB P t) op a b=some z) (hk:ab P p ρ ops l (st.put o.dst (.t z)) K):ab P p ρ ops (o :: l) st K:=by
 refine ab.pure (x:=.t z) hg hf ?_ hk;simp only [qd,ho,hx,hy,h,MA.run]
theorem Vc(tb:Bool)(k:IntKind)(a b:Int)(h:(b == 0)=false):Dh tb .quo (.int k a) (.int k b)=some (.int k (k.wrap (a.tdiv b))):=by
 have:b≠0:=by simpa using h
 simp [Dh,this]
theorem EP(tb:Bool)(k:IntKind)(a b:Int)(h:(b == 0)=false):Dh tb .rem (.int k a) (.int k b)=some (.int k (a.tmod b)):=by
 have:b≠0:=by simpa using h
 simp [Dh,this]
theorem zg(tb:Bool)(k k':IntKind)(a b:Int)(h:decide (0<=b)=true):Dh tb .shl (.int k a) (.int k' b)=some (.int k (k.wrap (a*2 ^ min b.toNat k.bits))):=by
 have:0<=b:=by simpa using h
 simp [Dh,this]
theorem HK(tb:Bool)(k k':IntKind)(a b:Int)(h:decide (0<=b)=true):Dh tb .shr (.int k a) (.int k' b)=some (.int k (a.fdiv (2 ^ min b.toNat k.bits))):=by
 have:0<=b:=by simpa using h
 simp [Dh,this]
def er(l h n:Int):Bool:=decide (0<=l) && decide (l<=h) && decide (h<=n)
theorem Ct{l h n:Int}(hh:er l h n=true):0<=l/\l<=h/\h<=n:=by
 simp only [er,sk,decide_eq_true_eq] at hh;exact ⟨hh.1.1,hh.1.2,hh.2⟩
theorem mf{α:Type}(f:α->List T)(xs:List α)(sz:Nat)(i j:Int){t e:TypeId}{x:Operand}{ax:A}{lo hi:Option Operand}{alo ahi:Option A}(ho:o.op=.slice t x lo hi none)(hg:iU ops st o=some true)(hf:eV ρ st o=true)(hx:st.eval x=some ax)(hr:((ax.toT MA.ret).run st).map Prod.fst=some (.sl sz (xs.map f)))
  (hlo:I5 st.eval lo=some alo) (hhi:I5 st.eval hi=some ahi) (hl:yr 0 alo=some i) (hh:yr xs.length ahi=some j) (hu:P.underlying t=some (.slice e)) (hs:i6 P e=some sz) (hw:VI ρ o.dst alo ahi=false) (h:er i j xs.length=true)
  (hk:ab P p ρ ops l ((IH ((ax.toT MA.ret).run st)).put o.dst (.t (.sl sz (((xs.take j.toNat).drop i.toNat).map f)))) K):ab P p ρ ops (o :: l) st K:=by
 have h':=Ct h;obtain ⟨⟨y,st1⟩,h1,h2⟩:=zm.1 hr
 cases h2
 rw [h1] at hk;refine ab.op (x:=.t (.sl sz (((xs.take j.toNat).drop i.toNat).map f))) (st1:=st1) hg hf ?_ hk;have key:∀ k:T->MA A,(ax.toT k).run st=(k (.sl sz (xs.map f))).run st1:=by
  intro k
  cases ax <;> simp only [A.toT,MA.run,Option.some.injEq,Prod.mk.injEq,reduceCtorEq] at h1 ⊢
  ·obtain ⟨h1,rfl⟩:=h1; rw [h1]
  ·obtain ⟨h1,rfl⟩:=h1; rw [h1]
  ·rename_i r
   revert h1
   rcases st.rw r with _ | (_ | _ | _) <;> simp only [MA.run,Option.some.injEq,Prod.mk.injEq,reduceCtorEq,false_implies]
   ·rintro ⟨h1,rfl⟩; rw [h1]
   ·rintro ⟨h1,rfl⟩; rw [h1]
 have hne:AL P t ax alo ahi=ax.toT fun
   | .sl sz' rows=>match yr 0 alo,yr rows.length ahi with
    | some l,some h=>if sz'=sz\/rows=[] then if 0<=l/\l<=h/\h<=rows.length then .ret (.t (.sl sz' ((rows.take h.toNat).drop l.toNat))) else .fail else .fail
    | _,_=>.fail
   | _=>.fail:=by
  unfold AL;rw [hu];have h9:∀ q:Option Nat,q=some sz->(match q with
   | some n=>(ax.toT λy=>match y with
    | .sl sz rows=>match yr 0 alo,yr rows.length ahi with
     | some l,some h=>if sz=n\/rows=[] then if 0<=l/\l<=h/\h<=rows.length then (MA.ret (.t (.sl sz ((rows.take h.toNat).drop l.toNat))):MA A) else .fail else .fail
     | _,_=>.fail
    | _=>.fail)
   | none=>.fail)=ax.toT fun
   | .sl sz' rows=>match yr 0 alo,yr rows.length ahi with
    | some l,some h=>if sz'=sz\/rows=[] then if 0<=l/\l<=h/\h<=rows.length then .ret (.t (.sl sz' ((rows.take h.toNat).drop l.toNat))) else .fail else .fail
    | _,_=>.fail
   | _=>.fail:=λq hq=>by subst hq; rfl
  cases ax <;> first | exact h9 _ hs | (exfalso; simp [A.toT,MA.run] at h1; done)
 simp only [qd,ho,hx,hlo,hhi,hw,zQk,hne,key,hl,zWw,hh,h'.1,h'.2.1,h'.2.2,and_self,↓reduceIte,MA.run,true_or,<- List.map_take,<- List.map_drop]
theorem AR{α:Type}(s:Bool)(f:α->List T)(xs:List α)(sz:Nat)(i j:Int){t e:TypeId}{x:Operand}{lo hi:Option Operand}{alo ahi:Option A}(ho:o.op=.slice t x lo hi none)(hg:iU ops st o=some true)(hf:eV ρ st o=true)(hx:st.eval x=some (.ext s (.sl sz (xs.map f))))
  (hlo:I5 st.eval lo=some alo) (hhi:I5 st.eval hi=some ahi) (hl:yr 0 alo=some i) (hh:yr xs.length ahi=some j) (hu:P.underlying t=some (.slice e)) (hs:i6 P e=some sz) (hw:VI ρ o.dst alo ahi=false) (h:er i j xs.length=true)
  (hk:ab P p ρ ops l (st.put o.dst (.ext s (.sl sz (((xs.take j.toNat).drop i.toNat).map f)))) K):ab P p ρ ops (o :: l) st K:=by
 have h':=Ct h;refine ab.pure (x:=.ext s (.sl sz (((xs.take j.toNat).drop i.toNat).map f))) hg hf ?_ hk;simp only [qd,ho,hx,hlo,hhi,hw,zQk,AL,hu,hs,hl,zWw,hh,h'.1,h'.2.1,h'.2.2,and_self,true_and,↓reduceIte,MA.run,<- List.map_take,<- List.map_drop]
theorem MX{α:Type}:∀ (ts:List T) (k:List T->MA α),fg (ts.map A.t) k=k ts
 | [],k=>rfl
 | t :: ts,k=>by
  simp only [zWh,fg,A.toT];exact MX ts _
theorem DF{α:Type}(f:α->List T)(y:α)(d e nn by_:Nat)(i c:Int){t:TypeId}{x1 x2:Operand}(ho:o.op=.makeSlice t x1 x2)(hd:o.dst=some d)(hg:iU ops st o=some true)(hf:eV ρ st o=true)(h1:st.eval x1=some (.t (.int .i64 i)))(h2:st.eval x2=some (.t (.int .i64 c)))
  (hi:EO P t=some (e,nn,by_)) (hz:(uT P e).map (ni (Hp P e))=some ((f y).map A.t))
  (h0:(decide (0<=c) && (i == 0 || i == c))=true) (hsz:c.toNat*by_<=140737488355328) (hfree:st.rw (iP d 0)=none)
  (hk:ab P p ρ ops l (({ st with rw:=jr st.rw (iP d 0) (some (.live e nn ((zQZ i.toNat y).map f))) }:St).put o.dst (.own (iP d 0))) K):ab P p ρ ops (o :: l) st K:=by
 obtain ⟨z,z0,hu,hti,hzz,q1,q2,q3⟩:=HI hi;simp only [sk,decide_eq_true_eq,Bool.or_eq_true,beq_iff_eq] at h0;refine ab.op (x:=.own (iP d 0)) hg hf ?_ hk;have hc:c<=9223372036854775807:=by
  have:c.toNat<=c.toNat*by_:=Nat.le_mul_of_pos_right _ q3;omega
 rw [hzz] at hz;have hz':ni (Hp P e) z=(f y).map A.t:=by simpa using hz
 simp only [qd,ho,h1,h2,Mz,hu,hd,hti,hzz,q1,q2,h0.1,h0.2,hsz,hc,and_self,↓reduceIte,hz',MX,List.map_replicate,yV,MA.run,hfree]
theorem mK{α:Type}(f:α->List T)(xs:List α)(r i off:Nat){y:α}(y':α){t e:TypeId}{x1 x2:Operand}(v:A){sz m:Nat}(ts:List T)(ho:o.op=.store t x1 x2)(hg:iU ops st o=some true)(hf:eV ρ st o=true)
  (h1:st.eval x1=some (.elem r sz i off)) (h2:st.eval x2=some v) (hm:i6 P t=some m) (hv:(zXX v.cells.length m && v.cells.all A.one)=true) (hz:ni (Hp P t) v.cells=ts.map A.t)
  (hr:st.rw r=some (.live e sz (xs.map f))) (h:xs[i]?=some y) (hle:Nat.ble (off+m) (f y).length=true) (hy:spl (f y) off ts=f y')
  (hk:ab P p ρ ops l ((({ st with rw:=jr st.rw r (some (.live e sz ((xs.set i y').map f))) }:St)).put o.dst .undef) K):ab P p ρ ops (o :: l) st K:=by
 simp only [sk] at hv;have hv1:=zWz hv.1;have hle':off+m<=(f y).length:=by simpa using hle
 refine ab.op (x:=.undef) hg hf ?_ hk;simp only [qd,ho,h1,h2,Cf,hm,hv1,hv.2,and_self,↓reduceIte,hz,MX,MA.run,hr,zQz,h,zWY,hle',hy,List.map_set]
end
theorem Qs{β:Type}{e:Bool}{x y:β}{r:β}(h:(bif e then x else y)=r)(hc:e=true):x=r:=by rw [hc] at h; exact h
theorem Qt{β:Type}{e:Bool}{x y:β}{r:β}(h:(bif e then x else y)=r)(hc:e=false):y=r:=by rw [hc] at h; exact h
def aV(k:IntKind)(a b:Int):Int:=k.wrap (a+b)
def gX(k:IntKind)(a b:Int):Int:=k.wrap (a - b)
def js(k:IntKind)(a b:Int):Int:=k.wrap (a*b)
def T0(k:IntKind)(a b:Int):Int:=k.wrap (a.tdiv b)
def pK(k:IntKind)(a b:Int):Int:=a.tmod b
def gl(k:IntKind)(a b:Int):Int:=k.wrap (sa k.bits a &&& sa k.bits b).toNat
def u9(k:IntKind)(a b:Int):Int:=k.wrap (sa k.bits a ||| sa k.bits b).toNat
def Sf(k:IntKind)(a b:Int):Int:=k.wrap (sa k.bits a ^^^ sa k.bits b).toNat
def wd(k:IntKind)(a b:Int):Int:=k.wrap (sa k.bits a &&& ~~~ sa k.bits b).toNat
def jt(k:IntKind)(a b:Int):Int:=k.wrap (a*2 ^ min b.toNat k.bits)
def ju(k:IntKind)(a b:Int):Int:=a.fdiv (2 ^ min b.toNat k.bits)
theorem tf(b:Bool):b=true\/b=false:=by cases b <;> simp
def ai(k:IntKind)(n:Int):List T:=[.int k n]
def eSl{α:Type}(sz:Nat)(f:α->List T)(xs:List α):List T:=[.sl sz (xs.map f)]
theorem av.le{P:Program}{f:FuncId}{l l':List V}{res:V}{outs:List (List C)}(h:av P f l' res outs)(hl:DE l l'):av P f l res outs:=by
 refine ⟨h.1,λw F vs bs hF hV hn hb htb=>(h.2 w F vs bs hF (Jf hl hV) hn hb htb).mono λe w' hh=>?_⟩;obtain ⟨v,F',bv,bo,h1,h2,h3,h4,h5,h6,h7,h8,h9⟩:=hh;exact ⟨v,F',bv,bo,h1,h2,h3,h4,h5,h6,Va h7 hl,h8,h9⟩
section
variable {P:Program} {n:Nat} {ls:List Nat} {Q:Exit->St->Prop} {N:St->Prop} {st st':St} {p:Nat->Bool} {ρ:Nat->fy} {ops:Array Oper} {l:List Oper} {K:St->Prop} {o:Oper}
theorem cX(h:N st):i7 N Q .normal st:=h
theorem nm{id:Nat}(h:Q (.exit id) st):i7 N Q (.exit id) st:=h
theorem ZK(h:Q .ret st):i7 N Q .ret st:=h
theorem ii{id:Nat}(h:Q .normal st):TU id Q .normal st:=h
theorem Fe{id:Nat}(h:Q .normal st):TU id Q (.exit id) st:=by
 show bif zXX id id then Q .normal st else Q (.exit id) st
 rw [Nat.beq_refl];exact h
theorem qbl{id id':Nat}(hne:zXX id' id=false)(h:Q (.exit id') st):TU id Q (.exit id') st:=by
 show bif zXX id' id then Q .normal st else Q (.exit id') st
 rw [hne];exact h
theorem HL{o:Operand}{x y:Code}(ho:st.eval o=some (.t (.bool true)))(h:Wp P n ls x Q st):Wp P n ls (.cond o x y) Q st:=Wp.cond ho h
theorem HM{o:Operand}{x y:Code}(ho:st.eval o=some (.t (.bool false)))(h:Wp P n ls y Q st):Wp P n ls (.cond o x y) Q st:=Wp.cond ho h
theorem K6{fn:Func}{c:Code}{f:FuncId}{args:List V}{m:Bool}{res:V}{outs:List (List C)}(ln:List A)
  (hf:P.funcs[f]?=some fn) (hb:fn.body=some c) (hnm:(fn.name == "runtime.NumGoroutine")=false) (hle:Nat.ble ln.length fn.ntmps=true) (ht:sE fn.ntmps fn=true)
  (ha:((tO 0 args MA.ret).run ez).map Prod.fst=some ln) (hl:jH 0 args ln=true)
  (h:Wp P fn.ntmps (jO 0 args) c (AQ P m fn args res outs) (eC ln (IH ((tO 0 args MA.ret).run ez)))):av P f args res outs:=by
 obtain ⟨⟨as',st0⟩,h1,h2⟩:=zm.1 ha
 cases h2
 rw [h1] at h;exact MU hf hb hnm Ty ht h1 hl h
theorem V7{α:Type}(f:α->List T)(xs:List α)(m:Nat){y:A}{x:Operand}{t e:TypeId}{args:Array Operand}{ts:Array TypeId}(ho:o.op=.call { callee:=.builtin .len,args,argTypes:=ts })(hargs:args.toList=[x])(hts:ts.toList=[t])(hg:iU ops st o=some true)(hf:eV ρ st o=true)
  (hx:st.eval x=some y) (hy:((y.rows λm rows=>MA.ret (m,rows)).run st).map Prod.fst=some (m,xs.map f)) (hu:P.underlying t=some (.slice e)) (hk:ab P p ρ ops l (st.put o.dst (.t (.int .i64 xs.length))) K):ab P p ρ ops (o :: l) st K:=by
 refine ab.pure (x:=.t (.int .i64 xs.length)) hg hf ?_ hk;have hl:(Ki P t y).run st=(MA.ret (.t (.int .i64 xs.length)):MA A).run st:=by
  unfold Ki;rw [hu]
  split <;> rename_i h1 <;> first | (cases h1; done) | skip
  ·rename_i s z rs
   cases s with
   | true=>cases hy
   | false =>
    simp only [A.rows] at hy
    split at hy
    ·simp [MA.run] at hy; rw [hy.2]; simp
    ·simp [MA.run] at hy
  ·rw [HJ hy]; simp
  ·rename_i h2 _; exact absurd rfl (h2 _)
 simp only [qd,ho,hargs,hx,hts];rw [hl]; rfl
theorem iC{α:Type}(f:α->List T)(xs:List α)(s:Bool)(m:Nat){x:Operand}{t e:TypeId}{args:Array Operand}{ts:Array TypeId}(ho:o.op=.call { callee:=.builtin .len,args:=args,argTypes:=ts })(hargs:args.toList=[x])(hts:ts.toList=[t])(hg:iU ops st o=some true)(hf:eV ρ st o=true)
  (hx:st.eval x=some (.ext s (.sl m (xs.map f)))) (hu:P.underlying t=some (.slice e)) (hk:ab P p ρ ops l (st.put o.dst (.t (.int .i64 xs.length))) K):ab P p ρ ops (o :: l) st K:=by
 refine ab.pure (x:=.t (.int .i64 xs.length)) hg hf ?_ hk;simp only [qd,ho,hargs,hx,hts,Ki,hu,MA.run,zWw]
def qw(l:List (Nat×fy))(t:Nat):fy:=match DA l t with | some r=>r | none=>.any
def T1(l:List Nat)(s:Nat):Bool:=l.contains s
end
end Go.Tm
namespace Go.Tm
open Go.RowKit Go.ChangeShapes
inductive ZL (w:World) (F:Nat->Prop):List T->List Value->Prop
 | nil:ZL w F [] []
 | cons (x:T) (v:Value) (xs:List T) (vs:List Value) (h:Rd w F x v) (hs:ZL w F xs vs):ZL w F (x :: xs) (v :: vs)
theorem ZL.get{w:World}{F:Nat->Prop}{xs:List T}{vs:List Value}(h:ZL w F xs vs):∀ (j:Nat) (x:T),xs[j]?=some x->∃ v,vs[j]?=some v/\Rd w F x v:=by
 induction h with
 | nil=>intro j x hx; simp at hx
 | cons x v xs vs h hs ih =>
  intro j y hy
  cases j with
  | zero=>simp only [zQh,Option.some.injEq] at hy ⊢; subst hy; exact ⟨v,rfl,h⟩
  | succ j=>simp only [List.getElem?_cons_succ] at hy ⊢; exact ih j y hy
abbrev YS(w:World):Nat->Prop:=λb=>b < w.heap.size
def Sg{α:Type}(P:Program)(t:TypeId)(n:Nat)(wf:α->Prop)(enc:α->List T):Prop :=
 P.cellsOf t=n/\(∀ x,(enc x).length=n)/\∀ {H:Type} (ec:TypeId×Value->H) (w:World) (sp:Nat->Bool) (held:Bool) (k:Nat) (cs:List Value) (d:DataW H×List MemPlace),
  DataW.trod ec P w 0 sp held k t cs=some d->∃ x,wf x/\ZL w (YS w) (enc x) cs
def lh(k:IntKind)(n:Int):Prop:=k.min<=n/\n<=k.max
def MY{α:Type}(wf:α->Prop)(xs:List α):Prop:=xs.length<=maxLen/\∀ x∈xs,wf x
theorem Sg.int{P:Program}{t:TypeId}{k:IntKind}(hu:P.underlying t=some (.int k))(hc:P.cellsOf t=1):Sg P t 1 (lh k) (ai k):=by
 refine ⟨hc,λ_=>rfl,λec w sp held m cs d h=>?_⟩;obtain ⟨n,rfl,_,hw⟩:=DataW.trod_int hu h;simp [Lit.wf] at hw;exact ⟨n,hw,.cons _ _ _ _ (.int _ _) .nil⟩
theorem MZ{α:Type}{g:Nat->Option α}{n:Nat}{r:List α}(h:(zXW n).mapM g=some r){i:Nat}(hi:i < n):∃ x,g i=some x/\r[i]?=some x:=by
 have h1:=mapM_some_get h i i (by simp [hi]);have h2:=mapM_some_length h;simp only [List.length_range] at h2;rw [h1];exact ⟨r[i]'ak,by simp,by simp⟩
theorem PE{w:World}{a:Addr}{n:Nat}{cs:List Value}(h:w.cells? 0 a n=some cs):cs.length=n/\∀ j,j < n->∃ v,w.cell? (a.add j)=some v/\cs[j]?=some v:=by
 unfold World.cells? at h;simp only [zYy,if_true] at h;exact ⟨by have:=mapM_some_length h; simpa using this,λj hj=>MZ h hj⟩
theorem V8{w:World}{a:Addr}{v:Value}(h:w.cell? a=some v):a.spot=none/\a.block < w.heap.size:=by
 unfold World.cell? at h
 split at h
 ·rename_i c u fr e
  split at h
  ·cases h
  ·rename_i hs;refine ⟨by cases a with | mk b o s=>cases s <;> simp_all,?_⟩;have:=e; rw [Wk] at this; exact this.1
 ·cases h
theorem Sg.slice{α:Type}{P:Program}{t e:TypeId}{n:Nat}{wf:α->Prop}{enc:α->List T}(hu:P.underlying t=some (.slice e))(hc:P.cellsOf t=1)(he:Sg P e (n+1) wf enc):Sg P t 1 (MY wf) (eSl (n+1) enc):=by
 refine ⟨hc,λ_=>rfl,λ{H} ec w sp held m cs d h=>?_⟩;rcases DataW.trod_slice hu h with ⟨rfl,_⟩ | ⟨a,len,cap,elems,rest,m',rfl,rfl,_,_,hlc,hcap,hel,hm,_,_⟩
 ·exact ⟨[],⟨by simp,by simp⟩,.cons _ _ _ _ (.sl0 _ _ _ (by first | assumption | exact λ_=>rfl | (intro h; cases h))) .nil⟩
 ·have hex:∀ i,i < len->∃ x:α,∃ cs:List Value,w.cells? 0 (a.add (i*(n+1))) (n+1)=some cs/\wf x/\ZL w (YS w) (enc x) cs:=by
   intro i hi;have hy:=hm i hi;rw [he.1,sX ak] at hy
   cases hcs:w.cells? 0 (a.add (i*(n+1))) (n+1) with
   | none=>rw [hcs] at hy; cases hy
   | some cs =>
    rw [hcs] at hy;obtain ⟨x,hx,hr⟩:=he.2.2 ec w sp held m' cs _ hy;exact ⟨x,cs,rfl,hx,hr⟩
  rcases zYY len with h0 | hpos
  ·subst h0; exact ⟨[],⟨by simp,by simp⟩,.cons _ _ _ _ (.sl0 _ _ _ (by first | assumption | exact λ_=>rfl | (intro h; cases h))) .nil⟩
  ·have hsp:a.spot=none/\a.block < w.heap.size:=by
    obtain ⟨x,cs,hcs,_,_⟩:=hex 0 hpos;obtain ⟨v,hv,_⟩:=(PE hcs).2 0 ak;have:=V8 hv
    simpa [Addr.add] using this
   obtain ⟨b,off,s⟩:=a;simp only at hsp;obtain ⟨rfl,hb⟩:=hsp;have hcell:∀ i j,(Addr.add ((⟨b,off,none⟩:Addr).add (i*(n+1))) j)=⟨b,off+i*(n+1)+j,none⟩:=by
    intro i j;unfold Addr.add
    split <;> split <;> simp_all
   -- the elements, chosen
   have hch:∀ k,k<=len->∃ ys:List α,ys.length=k/\(∀ y∈ys,wf y)/\∀ i y,ys[i]?=some y->∃ cs,w.cells? 0 ((⟨b,off,none⟩:Addr).add (i*(n+1))) (n+1)=some cs/\ZL w (YS w) (enc y) cs:=by
    intro k
    induction k with
    | zero=>intro _; exact ⟨[],rfl,by simp,by simp⟩
    | succ k ih =>
     intro hk;obtain ⟨ys,h1,h2,h3⟩:=ih ak;obtain ⟨x,cs,h4,h5,h6⟩:=hex k ak;refine ⟨ys++[x],by simp [h1],?_,?_⟩
     ·intro y hy;rcases An.1 hy with h | h
      ·exact h2 y h
      ·simp only [zQy] at h; subst h; exact h5
     ·intro i y hy
      by_cases hi:i < ys.length
      ·rw [zQQ hi] at hy; exact h3 i y hy
      ·rw [r0 ak] at hy;have:i=ys.length:=by
        rcases Nat.lt_or_ge (i - ys.length) 1 with h | h
        ·omega
        ·rw [zXK (by simpa using h)] at hy; cases hy
       subst this;simp only [Nat.sub_self,zQh,Option.some.injEq] at hy;subst hy;rw [h1];exact ⟨cs,h4,h6⟩
   obtain ⟨ys,h1,h2,h3⟩:=hch len (zWJ _);refine ⟨ys,⟨by omega,h2⟩,.cons _ _ _ _ ?_ .nil⟩;have hl:(ys.map enc).length=len:=by simpa using h1
   have key:∀ (i:Nat) (row:List T) (j:Nat) (x:T),(ys.map enc)[i]?=some row->row[j]?=some x->∃ v,w.cell? ⟨b,off+i*(n+1)+j,none⟩=some v/\Rd w (YS w) x v:=by
    intro i row j x hi hj;rw [zQz] at hi
    cases hy:ys[i]? with
    | none=>rw [hy] at hi; cases hi
    | some y =>
     rw [hy] at hi;simp only [zWY,Option.some.injEq] at hi;subst hi;obtain ⟨cs,hcs,hrd⟩:=h3 i y hy;obtain ⟨v,hv,hr⟩:=hrd.get j x hj;have hjn:j < n+1:=by
      have:=he.2.1 y;rcases Nat.lt_or_ge j (n+1) with h | h
      ·exact h
      ·rw [zXK ak] at hj; cases hj
     obtain ⟨v',hv',hc'⟩:=(PE hcs).2 j hjn;rw [hv] at hc'
     cases hc'
     rw [hcell] at hv';exact ⟨v,hv',hr⟩
   have hfun:∃ u:Nat->Nat->Value,∀ (i:Nat) (row:List T) (j:Nat) (x:T),(ys.map enc)[i]?=some row->row[j]?=some x->w.cell? ⟨b,off+i*(n+1)+j,none⟩=some (u i j)/\Rd w (YS w) x (u i j):=by
    refine ⟨λi j=>(w.cell? ⟨b,off+i*(n+1)+j,none⟩).getD (.bool false),λi row j x hi hj=>?_⟩;obtain ⟨v,hv,hr⟩:=key i row j x hi hj;simp only [hv,zYG];exact ⟨trivial,hr⟩
   obtain ⟨u,hu'⟩:=hfun;have:=Rd.sl (w:=w) (F:=YS w) (n+1) (ys.map enc) b off cap u ak hb (λi row hi=>by
    rw [zQz] at hi
    cases hy:ys[i]? with
    | none=>rw [hy] at hi; cases hi
    | some y=>rw [hy] at hi; simp only [zWY,Option.some.injEq] at hi; subst hi; exact he.2.1 y) (λi row j x hi hj=>(hu' i row j x hi hj).1) (λi row j x hi hj=>(hu' i row j x hi hj).2)
   rw [hl] at this;exact this
def RdV{α:Type}(P:Program)(t:TypeId)(wf:α->Prop)(ev:α->V):Prop :=
 ∀ {H:Type} (ec:TypeId×Value->H) (W:World) (base:Nat) (v:Value) (d:DataW H) (p:List MemPlace),DataW.Trod ec P W 0 (λ_=>true) true t v d p->Value.okWide P W .any base t v->∃ x,wf x/\VV W (YS W) (ev x) v []
def Xp(P:Program)(t:TypeId):Bool:=match P.underlying t with | some (.struct _) | some (.array ..)=>false | _=>true
theorem Sh{P:Program}{t:TypeId}(hn:Xp P t=true){W:World}{base:Nat}{v:Value}(h:Value.okWide P W .any base t v):v.cells=#[v]:=by
 cases v with
 | agg cs =>
  exfalso;unfold Xp at hn;unfold Value.okWide at h
  cases hu:P.underlying t with
  | none=>simp [hu,Cell.okWide,Cell.ok] at h
  | some u=>cases u <;> simp_all [Cell.okWide,Cell.ok]
 | _=>rfl
theorem RdV.one{α:Type}{P:Program}{t:TypeId}{wf:α->Prop}{enc:α->List T}(h:Sg P t 1 wf enc)(hn:Xp P t=true):RdV P t wf (λx=>.one (.t ((enc x).headD .nilf))):=by
 intro H ec W base v d p ⟨k,hd⟩ hv;obtain ⟨x,hx,hr⟩:=h.2.2 ec W _ _ k _ _ hd;have hc:=Sh hn hv;rw [hc] at hr;have hl:=h.2.1 x;refine ⟨x,hx,.one _ _ _ ?_⟩
 match he:enc x,hl with
 | [y],_ =>
  rw [he] at hr
  cases hr with
  | cons _ _ _ _ h1 _=>exact .t _ _ h1
def Ko{α:Type}(P:Program)(ts:List TypeId)(wf:α->Prop)(ea:α->List V):Prop :=
 ∀ {H:Type} (ec:TypeId×Value->H) (W:World) (base:Nat) (vs:List Value) (ds:List (DataW H)) (p:List MemPlace),DataW.TrodAll ec P W 0 (λ_=>true) true ts vs ds p ->
  (∀ (j:Nat) (t:TypeId) (v:Value),ts[j]?=some t->vs[j]?=some v->Value.okWide P W .any base t v)->∃ x,wf x/\Dj W (YS W) (ea x) vs []
theorem Ko.nil{P:Program}:Ko P [] (λ_:Unit=>True) (λ_=>[]):=by
 intro H ec W base vs ds p h hv;obtain ⟨rfl,_,_⟩:=trodAll_nil h;exact ⟨(),trivial,.nil⟩
theorem Ko.cons{α β:Type}{P:Program}{t:TypeId}{ts:List TypeId}{wf:α->Prop}{ev:α->V}{wf':β->Prop}{ea:β->List V}(h:RdV P t wf ev)(hs:Ko P ts wf' ea) :
  Ko P (t :: ts) (λx:α×β=>wf x.1/\wf' x.2) (λx=>ev x.1 :: ea x.2):=by
 intro H ec W base vs ds p hT hv;obtain ⟨v,vs',d,ds',p1,p2,rfl,rfl,rfl,h1,h2⟩:=trodAll_cons hT;obtain ⟨x,hx,hr⟩:=h ec W base v d p1 h1 (hv 0 t v rfl rfl);obtain ⟨y,hy,hr'⟩:=hs ec W base vs' ds' p2 h2 (λj t v ht hj=>hv (j+1) t v ht hj);exact ⟨(x,y),⟨hx,hy⟩,.cons _ _ [] _ _ [] hr hr'⟩
theorem Fx{P:Program}{H:Type}{ec:TypeId×Value->H}(hl:laidOutB P=true){W W':World}(hb:Below W.heap.size W W'):∀ {ts:List TypeId} {vs:List Value} {ds:List (DataW H)} {p:List MemPlace},
  ts.all (λt=>P.readableRec t && decide (t < P.types.size))=true->DataW.TrodAll ec P W 0 (λ_=>true) true ts vs ds p ->
  DataW.TrodAll ec P W' 0 (λb=>decide (b < W.heap.size)) true ts vs ds p
 | [],vs,ds,p,_,h=>by
  obtain ⟨rfl,rfl,rfl⟩:=trodAll_nil h;exact trodAll_mk0
 | t :: ts,vs,ds,p,ht,h=>by
  obtain ⟨v,vs',d,ds',p1,p2,rfl,rfl,rfl,h1,h2⟩:=trodAll_cons h;simp only [List.all_cons,sk,decide_eq_true_eq] at ht;refine trodAll_cons_mk (Below.trod hl ht.1.1 ht.1.2 h1 hb ?_) (Fx hl hb (by simpa using ht.2) h2);obtain ⟨k,hk⟩:=h1;exact DataW.trod_lt k _ _ _ hk
theorem V9{α:Type}{P:Program}{f:FuncId}{ts:List TypeId}{wf:α->Prop}{ea:α->List V}(hr:Ko P ts wf ea)(hl:laidOutB P=true)(hts:ts.all (λt=>P.readableRec t && decide (t < P.types.size))=true)
  (law:∀ x,wf x->av P f (ea x) (.one (.t (.bool true))) []) {H:Type} (ec:TypeId×Value->H) (W:World) (base:Nat) (args:Array Value) (ds:List (DataW H)) (p:List MemPlace)
  (hT:DataW.TrodAll ec P W 0 (λ_=>true) true ts args.toList ds p) (hv:∀ (j:Nat) (t:TypeId) (v:Value),ts[j]?=some t->args[j]?=some v->Value.okWide P W .any base t v)
  (htb:RG P W λ_=>False):Calls P f args W λe W'=>e=.returned (.bool true)/\Below W.heap.size W W'/\DataW.TrodAll ec P W' 0 (λb=>decide (b < W.heap.size)) true ts args.toList ds p:=by
 obtain ⟨x,hx,hV⟩:=hr ec W base args.toList ds p hT (λj t v h1 h2=>hv j t v h1 (by simpa using h2));have:=(law x hx).2 W (YS W) args.toList [] (λ_ h=>h) hV .nil kU (htb.mono λ_ h=>by cases h);simp only [zWG] at this;refine this.mono λe W' ⟨v,F',bv,bo,h1,h2,h3,h4,h5,h6,h7,h8,h9⟩=>?_;have hbel:Below W.heap.size W W':=⟨h2.os,h2.tape,h2.output,h2.size,λk hk=>h3 k hk kU⟩;refine ⟨?_,hbel,Fx hl hbel hts hT⟩
 cases h6 with
 | one _ _ _ h =>
  cases h with
  | t _ _ h =>
   cases h
   exact h1
end Go.Tm
namespace Go.Tm
open Go.RowKit
mutual
def A.fz(s:Nat)(cs:List T):A->A
 | .obj s' off=>bif zXX s' s then .fadr (cs.drop off) else .obj s' off
 | .agg l=>.agg (DG s cs l)
 | .tup l=>.tup (DG s cs l)
 | .clo f l=>.clo f (DG s cs l)
 | .osl q a n c=>bif zXX q s then .t (.hdr a n c) else .osl q a n c
 | a=>a
def DG(s:Nat)(cs:List T):List A->List A
 | []=>[]
 | a :: r=>a.fz s cs :: DG s cs r
end
theorem Qu(s:Nat)(cs:List T):∀ l:List A,DG s cs l=l.map (A.fz s cs)
 | []=>by rw [DG]; rfl
 | a :: r=>by rw [DG,Qu s cs r]; rfl
def St.fz(st:St)(s:Nat)(cs:List T):St:=⟨λt=>(st.tm t).fz s cs,λi=>if i=s then none else (st.ob i).map λl=>DG s cs l,st.rw⟩
theorem Z6(s:Nat)(cs:List T)(a:A):(a.fz s cs).one=a.one:=by
 cases a with
 | obj s' off=>unfold A.fz; cases zXX s' s <;> rfl
 | osl q a n c=>unfold A.fz; cases zXX q s <;> rfl
 | _=>unfold A.fz <;> rfl
section
variable {E:En} {g:Gh} {st:St} {w:World} {s:Nat} {cs:List T}
theorem VR.fz{O:Nat->Prop}{R:Nat->Prop}{O':Nat->Prop}{F':Nat->Prop}(hF:∀ b,g.F b->F' b)(hO:∀ i,O i->i≠s->O' i)(hb:F' (g.ob s)){arr:Array Value}{e:TypeId}(hh:w.heap[g.ob s]?=some (.cells arr e (0,0)))
  (hc:∀ (j:Nat) (x:T),cs[j]?=some x->∃ v,arr[j]?=some v/\Rd w g.F x v) {a:A} {v:Value} (h:VR w g O R a v):VR w { g with F:=F' } O' R (a.fz s cs) v:=by
 have hl:∀ (l:List A) (vs:List Value),l.length=vs.length->(∀ (i:Nat) (x:A) (v:Value),l[i]?=some x->vs[i]?=some v->VR w { g with F:=F' } O' R (x.fz s cs) v) ->
   (DG s cs l).length=vs.length/\∀ (i:Nat) (x:A) (v:Value),(DG s cs l)[i]?=some x->vs[i]?=some v->VR w { g with F:=F' } O' R x v:=by
  intro l vs hl ih;rw [Qu];refine ⟨by simp [hl],λi x v hx hv=>?_⟩;rw [zQz] at hx
  cases hy:l[i]? with
  | none=>rw [hy] at hx; cases hx
  | some y =>
   rw [hy] at hx;simp only [zWY,Option.some.injEq] at hx;subst hx;exact ih i y v hy hv
 have hs:Av g.F w w:=λ_ _=>rfl
 induction h with
 | t x v h=>unfold A.fz; exact .t x v (h.mono hs hF)
 | nil=>unfold A.fz; exact .nil
 | own r hr=>unfold A.fz; exact VR.own (g:={ g with F:=F' }) r hr
 | agg l vs hl' h ih=>unfold A.fz; obtain ⟨h1,h2⟩:=hl l vs hl' ih; exact .agg _ vs h1 h2
 | tup l vs hl' h ih=>unfold A.fz; obtain ⟨h1,h2⟩:=hl l vs hl' ih; exact .tup _ vs h1 h2
 | obj s' off hs' =>
  unfold A.fz
  cases he:zXX s' s with
  | false =>
   have:s'≠s:=λh=>by rw [h,Nat.beq_refl] at he; cases he
   exact VR.obj (g:={ g with F:=F' }) s' off (hO s' hs' this)
  | true =>
   have:=zWz he;subst this;simp only [cond_true];have hcell:∀ j,w.cell? ⟨g.ob s',off+j,none⟩=arr[off+j]?:=λj=>by
    unfold World.cell?;simp only [hh]; rfl
   refine VR.fadr (g:={ g with F:=F' }) _ _ off (λj=>(arr[off+j]?).getD (.bool false)) hb (λj x hx=>?_) (λj x hx=>?_)
   ·rw [zQJ] at hx;obtain ⟨u,h1,_⟩:=hc _ x hx;rw [hcell,h1]; rfl
   ·rw [zQJ] at hx;obtain ⟨u,h1,h2⟩:=hc _ x hx;simp only [h1,zYG];exact h2.mono hs hF
 | elem r sz i off b n c hr he=>unfold A.fz; exact VR.elem (g:={ g with F:=F' }) r sz i off b n c hr he
 | win r lo m n c c' ad a' hr he hm hp=>unfold A.fz; exact VR.win (g:={ g with F:=F' }) r lo m n c c' ad a' hr he hm hp
 | sub r sz lo n c c' ad a' hr he hp=>unfold A.fz; exact VR.sub (g:={ g with F:=F' }) r sz lo n c c' ad a' hr he hp
 | fadr cells b off u hF' hx hr=>unfold A.fz; exact VR.fadr (g:={ g with F:=F' }) cells b off u (hF _ hF') hx (λj x h=>(hr j x h).mono hs hF)
 | nn sz rows v h hv=>unfold A.fz; exact VR.nn (g:={ g with F:=F' }) sz rows v (h.mono hs hF) hv
 | ext s x v hs' h=>unfold A.fz; exact VR.ext (g:={ g with F:=F' }) s x v hs' h
 | shp x v h=>unfold A.fz; exact VR.shp (g:={ g with F:=F' }) x v h
 | exa s cells b off u hs' hD hx hr=>unfold A.fz; exact VR.exa (g:={ g with F:=F' }) s cells b off u hs' hD hx hr
 | clo f l vs hl' h ih=>unfold A.fz; obtain ⟨h1,h2⟩:=hl l vs hl' ih; exact .clo f _ vs h1 h2
 | undef v=>unfold A.fz; exact .undef v
 | raw v=>unfold A.fz; exact .raw v
 | osl q a n c hs ha =>
  unfold A.fz
  cases hq:zXX q s with
  | true=>exact .t _ _ (.hdr _ _ _)
  | false=>exact VR.osl (g:={ g with F:=F' }) q a n c (hO q hs (λh=>by subst h; simp at hq)) ha
end
theorem oB{n:Nat}{ls:List Nat}{st:St}(s:Nat)(cs:List T)(hs:st.ob s=some (cs.map .t))(hl:ls.contains s=false):Le n ls st (st.fz s cs):=by
 intro E g a w hE hS;have hM:=hS.mem;obtain ⟨arr,e,h1,h2,h3,h4,h5⟩:=hM.ob s _ hs;have hOs:st.O s:=by simp [St.O,hs]
 have hc:∀ (j:Nat) (x:T),cs[j]?=some x->∃ v,arr[j]?=some v/\Rd w g.F x v:=by
  intro j x hx;obtain ⟨_,v,h6,h7⟩:=h3 j (.t x) (by rw [zQz,hx]; rfl)
  cases h7 with
  | t _ _ h=>exact ⟨v,h6,h⟩
 have hO:∀ i,(st.fz s cs).O i↔st.O i/\i≠s:=by
  intro i;unfold St.O St.fz
  by_cases h:i=s <;> simp [h]
 have hv:∀ {a:A} {v:Value},VR w g st.O st.R a v->VR w { g with F:=λb=>g.F b\/b=g.ob s } (st.fz s cs).O st.R (a.fz s cs) v:=λh =>
  VR.fz (s:=s) (cs:=cs) (λ_ h=>.inl h) (λi hi hne=>(hO i).2 ⟨hi,hne⟩) (.inr rfl) h1 hc h
 refine ⟨{ g with F:=λb=>g.F b\/b=g.ob s },⟨λi c hi=>?_,λi j hi hj he=>hM.obne i j ((hO i).1 hi).1 ((hO j).1 hj).1 he,λr x hr=>?_,hM.rowne,λr i hr hi=>hM.rowob r i hr ((hO i).1 hi).1,λb hb=>?_,hM.os,hM.tape,hM.output,hM.sizes,hM.frame,λb hb=>⟨.inl (hM.shp b hb).1,(hM.shp b hb).2⟩,hM.dep0⟩,
  hS.size,hS.defers,λi hi=>?_,λi hi=>?_,λi b hb=>?_,hS.pin⟩
 ·have hne:i≠s:=λh=>by subst h; simp [St.fz] at hi
  have:∃ c0,st.ob i=some c0/\c=DG s cs c0:=by
   simp only [St.fz,hne,if_false] at hi
   cases h:st.ob i with
   | none=>rw [h] at hi; cases hi
   | some c0=>rw [h] at hi; simp at hi; exact ⟨c0,rfl,hi.symm⟩
  obtain ⟨c0,h6,rfl⟩:=this;obtain ⟨arr',e',g1,g2,g3,g4,g5⟩:=hM.ob i c0 h6;refine ⟨arr',e',g1,by rw [Qu]; simpa using g2,λj x hx=>?_,λhf=>hf.elim g4 (λhe=>hne (hM.obne i s (by simp [St.O,h6]) hOs he)),g5⟩;rw [Qu,zQz] at hx
  cases hy:c0[j]? with
  | none=>rw [hy] at hx; cases hx
  | some y =>
   rw [hy] at hx;simp only [zWY,Option.some.injEq] at hx;subst hx;obtain ⟨g6,v,g7,g8⟩:=g3 j y hy;exact ⟨by rw [Z6]; exact g6,v,g7,hv g8⟩
 ·have:=hM.row r x hr;refine this.mono (λ_ _=>rfl) (λ_ h=>.inl h) (λ⟨e,sz,rows,hx⟩ b hb'=>?_);subst hx;have hL:st.L r:=⟨e,sz,rows,hr⟩;exact ⟨rfl,λhf=>hf.elim id (λhe=>(hM.rowob r s hL hOs (he ▸ hb')).elim)⟩
 ·rcases hb with hb | hb
  ·exact hM.F b hb
  ·subst hb;exact ⟨Mj h1,λhlt=>h5.elim (λh=>absurd hlt ak) .inr,.inr ⟨arr,e,h1⟩⟩
 ·obtain ⟨v,h6,h7⟩:=hS.tm i hi;exact ⟨v,h6,hv h7⟩
 ·show (st.tm i).fz s cs=.undef;rw [hS.und i hi]; unfold A.fz; rfl
 ·obtain ⟨h6,h7⟩:=hS.lent i b hb;refine ⟨(hO i).2 ⟨h6,λhe=>?_⟩,h7⟩;subst he;have:i∈ls:=(hE.mem hb).1;have h8:ls.contains i=true:=by simpa using this
  rw [hl] at h8; cases h8
theorem Si{α:Type}(a:A)(k:T->MA α)(st:St):(a.toT k).run st=((a.toT MA.ret).run st).bind λp=>(k p.1).run p.2:=by
 cases a with
 | t y=>rfl
 | nil=>rfl
 | own r =>
  simp only [A.toT,MA.run]
  cases hr:st.rw r with
  | none=>rfl
  | some row=>cases row <;> rfl
 | _=>rfl
theorem Gj{α:Type}:∀ (l:List A) (k:List T->MA α) (st:St),(fg l k).run st=((fg l MA.ret).run st).bind λp=>(k p.1).run p.2
 | [],k,st=>rfl
 | a :: r,k,st=>by
  simp only [fg];rw [Si a,Si a (λx=>fg r λxs=>MA.ret (x :: xs)),Option.bind_assoc]
  congr 1
  funext p
  rw [Gj r,Gj r (λxs=>MA.ret (p.1 :: xs)),Option.bind_assoc];rfl
theorem Wa{α:Type}(l:List A){k:List T->MA α}{st st1:St}{xs:List T}(h:(fg l MA.ret).run st=some (xs,st1)):(fg l k).run st=(k xs).run st1:=by
 rw [Gj,h]; rfl
section
variable {P:Program} {n:Nat} {ls:List Nat} {st st':St} {p:Nat->Bool} {ρ:Nat->fy} {ops:Array Oper} {l:List Oper} {K:St->Prop} {o:Oper}
theorem uX{α:Type}(f:α->List T)(xs:List α)(r i off:Nat){y:α}(y':α){t e:TypeId}{x1 x2:Operand}(v:A){sz m:Nat}(ts:List T)(ho:o.op=.store t x1 x2)(hg:iU ops st o=some true)(hf:eV ρ st o=true)
  (h1:st.eval x1=some (.elem r sz i off)) (h2:st.eval x2=some v) (hm:i6 P t=some m) (hv:(zXX v.cells.length m && v.cells.all A.one)=true) (hz:((fg (ni (Hp P t) v.cells) MA.ret).run st).map Prod.fst=some ts)
  (hr:(IH ((fg (ni (Hp P t) v.cells) MA.ret).run st)).rw r=some (.live e sz (xs.map f))) (h:xs[i]?=some y) (hle:Nat.ble (off+m) (f y).length=true) (hy:spl (f y) off ts=f y')
  (hk:ab P p ρ ops l ((({ IH ((fg (ni (Hp P t) v.cells) MA.ret).run st) with rw:=jr (IH ((fg (ni (Hp P t) v.cells) MA.ret).run st)).rw r (some (.live e sz ((xs.set i y').map f))) }:St)).put o.dst .undef) K):ab P p ρ ops (o :: l) st K:=by
 simp only [sk] at hv;have hv1:=zWz hv.1;have hle':off+m<=(f y).length:=by simpa using hle
 obtain ⟨⟨ts',st1⟩,h5,h6⟩:=zm.1 hz
 cases h6
 rw [h5] at hr hk;refine ab.op (x:=.undef) hg hf ?_ hk;simp only [qd,ho,h1,h2,Cf,hm,hv1,hv.2,and_self,↓reduceIte];rw [Wa _ h5];have hr':st1.rw r=some (.live e sz (xs.map f)):=hr;simp only [MA.run,hr',zQz,h,zWY,hle',↓reduceIte,hy,List.map_set,IH]
theorem Gk:∀ xs:List Int,Ds (xs.map (ai .u8))=some xs
 | []=>rfl
 | x :: xs=>by simp only [zWh,ai,Ds,Gk xs]
theorem Fy(xs:List Int)(m:Nat){y:A}{s t e:TypeId}{x:Operand}(ho:o.op=.convert s t x)(hg:iU ops st o=some true)(hf:eV ρ st o=true)
  (hx:st.eval x=some y) (hy:((y.rows λm rows=>MA.ret (m,rows)).run st).map Prod.fst=some (m,xs.map (ai .u8))) (hs:P.underlying s=some (.slice e)) (he:P.underlying e=some (.int .u8)) (ht:P.underlying t=some .string)
  (hk:ab P p ρ ops l (st.put o.dst (.t (.str (strOfNums xs)))) K):ab P p ρ ops (o :: l) st K:=by
 refine ab.pure (x:=.t (.str (strOfNums xs))) hg hf ?_ hk
 cases y with
 | t z =>
  cases z with
  | sl sz rows =>
   simp only [A.rows,MA.run,zWY,Option.some.injEq,Prod.mk.injEq] at hy;obtain ⟨rfl,rfl⟩:=hy;simp only [qd,ho,hx,hs,ht,he,A.rows,Gk,MA.run]
  | _=>simp [A.rows,MA.run] at hy
 | _ =>
  simp only [qd,ho,hx,hs,ht,he,HJ hy,Gk,MA.run]
end
section
variable {P:Program} {n:Nat} {ls:List Nat} {st st':St} {p:Nat->Bool} {ρ:Nat->fy} {ops:Array Oper} {l:List Oper} {K:St->Prop} {o:Oper}
theorem Kp(m:Bool)(d f:Nat)(caps ln:List A)(vs:List V)(s off:Nat)(outs:List (List C)){xf:Operand}{args:Array Operand}{ts:Array TypeId}
  (ho:o.op=.call { callee:=.value xf,args,argTypes:=ts }) (hd:o.dst=some d) (hg:iU ops st o=some true) (hf:eV ρ st o=true) (hxf:st.eval xf=some (.clo f caps)) (has:ef (args.toList.map st.eval)=some ln)
  (hp:((kf m p (ln++caps) MA.ret).run st).map Prod.fst=some vs) (hc:uE P f vs off outs) (hhd:(ln++caps).head?=some (.obj s 0)) (hr:((fa d (fL (ln++caps)) outs (MA.ret (A.obj s off))).run (IH ((kf m p (ln++caps) MA.ret).run st))).isSome=true)
  (hk:ab P p ρ ops l ((IH ((fa d (fL (ln++caps)) outs (MA.ret (A.obj s off))).run (IH ((kf m p (ln++caps) MA.ret).run st)))).put o.dst (ZJ ((fa d (fL (ln++caps)) outs (MA.ret (A.obj s off))).run (IH ((kf m p (ln++caps) MA.ret).run st))))) K):ab P p ρ ops (o :: l) st K:=by
 obtain ⟨⟨vs',st1⟩,h1,h2⟩:=zm.1 hp
 cases h2
 rw [h1] at hr hk;obtain ⟨⟨x,st2⟩,h3⟩:=DQ.1 hr;rw [h3] at hk;exact ab.step (.run x st2 hg hf (.callI m d f xf args ts caps ln vs' st1 outs s off ho hd hxf has h1 hc hhd h3)) hk
end
def Qv(P:Program)(fn:Func)(args:List V)(off:Nat)(outs:List (List C))(e:Exit)(st:St):Prop :=
 (e=.ret\/e=.normal)/\∃ st1 outs0,yW P st fn.results.toList=some [.obj 900 off]/\(AP 0 args λos=>MA.ret os).run st=some (outs0,st1)/\Bh (Bh Qr) outs0 outs
theorem M0{P:Program}{fn:Func}{c:Code}{f:FuncId}{args:List V}{ln:List A}{st0:St}{c0:List C}{off:Nat}{outs:List (List C)}
  (hf:P.funcs[f]?=some fn) (hb:fn.body=some c) (hnm:(fn.name == "runtime.NumGoroutine")=false) (hle:ln.length<=fn.ntmps) (ht:sE fn.ntmps fn=true)
  (ha:(tO 0 args MA.ret).run ez=some (ln,st0)) (hl:jH 0 args ln=true) (h0:args[0]?=some (.ptr c0))
  (h:Wp P fn.ntmps (jO 0 args) c (Qv P fn args off outs) (eC ln st0)):uE P f args off outs:=by
 refine ⟨⟨fn,hf,by simp [hb],hnm⟩,λw F vs bs hF hVV hnd hnf htb=>?_⟩
 let E:En:={ w0:=w,X:=λb=>b∈bs,F0:=F,lent:=nJ 0 args vs }
 let g0:Gh:={ F:=F,ob:=λ_=>0,rw:=λ_=>.nilFunc,dw:=w }
 have hM0:gG E g0 ez w:=⟨λs cells h=>Do,λs s' h=>Do,λr x h=>Do,λr r' b h=>Ys,λr s h=>Ys,
  λb hb=>⟨hF b hb,λ_=>.inl hb,.inl hb⟩,rfl,rfl,rfl,zWJ _,λ_ _ _=>.inl rfl,λ_ h=>h.elim,⟨rfl,rfl,rfl⟩,λ_ h=>h.elim⟩
 obtain ⟨as',st1,g1,hG,h1,hlen,hx⟩:=EE args hM0 hVV hnd (λb hb=>⟨hnf b hb,λs hs=>(by cases hs),λr hr=>ZU,.inr hb⟩) ha;obtain ⟨rfl,rfl⟩:=gZ h1;have hM1:gG E g1 (eC ln st0) w:=⟨hG.mem.ob,hG.mem.obne,hG.mem.row,hG.mem.rowne,hG.mem.rowob,hG.mem.F,hG.mem.os,hG.mem.tape,hG.mem.output,hG.mem.sizes,hG.mem.frame,hG.mem.shp,hG.mem.dep0⟩;obtain ⟨hl1,hl2⟩:=BK hl hVV hlen hx;have hS:uU E g1 fn.ntmps (eC ln st0) { tmps:=vs.toArray++zZg (fn.ntmps - vs.toArray.size) undef,defers:=[] } w:=by
  refine ⟨hM1,by simp; omega,rfl,λi hi=>?_,λi hi=>?_,hl1,λ_ h=>Do⟩
  ·show ∃ v,_/\VR w g1 st0.O st0.R (match ln[i]? with | some a=>a | none=>.undef) v
   cases hai:ln[i]? with
   | some a =>
    obtain ⟨u,hu,hr⟩:=hx i a hai;have hlt:i < vs.length:=(sr.1 hu).1;exact ⟨u,by rw [zZV TA]; simpa using hu,hr⟩
   | none =>
    have hge:ln.length<=i:=aab.1 hai;refine ⟨undef,?_,.undef _⟩;rw [zZW (by simpa [<- hlen] using hge)];rw [zZH,if_pos Yw]
  ·show (match ln[i]? with | some a=>a | none=>.undef)=A.undef;rw [aab.2 ak]
 refine calls_of_wp hf hb (wp_mono (h E g1 _ w ⟨⟨[],by rw [zWW]; exact (rI _ _ _).symm,Jd _ _ _,λ_ h=>Do,λh=>Do⟩,⟨htb.mono λb h=>h.elim id λh=>VH⟩⟩ hS) λe a' w' ⟨g',st',hS',hR⟩=>?_);obtain ⟨he,st2,outs0,hres,hrun,hole⟩:=hR;have hfin:a'.defers=[]/\∃ v,(results fn a'.tmps).run P w'=.ok v w'/\(λe w'=>∃ v F' bo b0,e=Ending.returned v/\vs.head?=some (.pointer (some ⟨b0,0,none⟩))/\v=.pointer (some ⟨b0,off,none⟩)/\rc w w'/\(∀ b,b < w.heap.size->b∉bs->w'.heap[b]?=w.heap[b]?)/\(∀ b,F b->F' b) /\
   (∀ b,F' b->b < w'.heap.size/\(b < w.heap.size->F b\/b∈bs)/\(F b\/Wr w' b))/\sB w' F' args vs outs bo/\bo.Nodup/\∀ b∈bo,¬ F' b/\(w.heap.size<=b\/b∈bs)) (.returned v) w':=by
  refine ⟨hS'.defers,?_⟩;obtain ⟨v,hrv,hvv⟩:=EM hS' hres ht;refine ⟨v,hrv,?_⟩;have hM':=hS'.mem;obtain ⟨b0,hh0,hl0⟩:=hl2 0 c0 h0;have hob:=(hS'.lent _ _ hl0).2;obtain ⟨os,st3,g3,bo,hM3,hE3,hL3,h3,hO,hT3⟩:=BJ (w:=w') args hM' (us:=vs) (hVV.len.symm) (λj c hj=>by
   obtain ⟨b,h5,h6⟩:=hl2 j c hj;rw [(hS'.lent _ _ h6).2];exact h5) hrun
  obtain ⟨rfl,rfl⟩:=gZ h3;have hof:∀ b∈bo,w.heap.size<=b\/b∈bs:=λb hb=>by
   rcases hT3.of b hb with ⟨r,⟨e,sz,rows,h7⟩,_,h8⟩ | ⟨s,⟨c,cs,h7⟩,_,h8⟩
   ·obtain ⟨_,_,_,_,h9⟩:=hM'.row r _ h7;exact (h9 b h8).2
   ·obtain ⟨_,_,_,_,_,_,h9⟩:=hM'.ob s _ h7;rw [h8] at h9;exact h9
  have hnF:∀ b∈bo,¬ (g3.F b\/F b):=λb hb h=>by
   rcases h with h | h
   ·exact hT3.nf b hb h
   ·rcases hof b hb with h7 | h7
    ·have:=hF b h; omega
    ·exact hnf b h7 h
  have hv:v=.pointer (some ⟨b0,off,none⟩):=by
   have hvv':VR w' g' st'.O st'.R (.obj 900 off) v:=hvv
   cases hvv' with
   | obj _ _ hs=>rw [hob]
  refine ⟨v,λb=>g3.F b\/F b,bo,b0,rfl,by rw [zVV]; exact hh0,hv,⟨hM3.os,hM3.tape,hM3.output,hM3.sizes⟩,λb hb hbs=>hM3.frm rfl b hb hbs,λb h=>.inr h,λb h=>?_,MT (hO.mono (λb h=>.inl h)) hole,hT3.nodup,λb hb=>⟨hnF b hb,hof b hb⟩⟩;rcases h with h | h
  ·exact hM3.F b h
  ·exact ⟨zWV (hF b h) hM3.sizes,λ_=>.inl h,.inl h⟩
 rcases he with rfl | rfl
 ·exact hfin
 ·exact hfin
theorem K7{P:Program}{fn:Func}{c:Code}{f:FuncId}{args:List V}{c0:List C}{off:Nat}{outs:List (List C)}(ln:List A)
  (hf:P.funcs[f]?=some fn) (hb:fn.body=some c) (hnm:(fn.name == "runtime.NumGoroutine")=false) (hle:Nat.ble ln.length fn.ntmps=true) (ht:sE fn.ntmps fn=true)
  (ha:((tO 0 args MA.ret).run ez).map Prod.fst=some ln) (hl:jH 0 args ln=true) (h0:args[0]?=some (.ptr c0))
  (h:Wp P fn.ntmps (jO 0 args) c (Qv P fn args off outs) (eC ln (IH ((tO 0 args MA.ret).run ez)))):uE P f args off outs:=by
 obtain ⟨⟨as',st0⟩,h1,h2⟩:=zm.1 ha
 cases h2
 rw [h1] at h;exact M0 hf hb hnm Ty ht h1 hl h0 h
theorem ZM{P:Program}{fn:Func}{args:List V}{off:Nat}{outs:List (List C)}{st:St}(outs0:List (List C))(hres:yW P st fn.results.toList=some [.obj 900 off])
  (ho:((AP 0 args λos=>MA.ret os).run st).map Prod.fst=some outs0) (hle:Bh (Bh Qr) outs0 outs):Qv P fn args off outs .ret st:=by
 obtain ⟨⟨os,st1⟩,h1,h2⟩:=zm.1 ho
 cases h2
 exact ⟨.inl rfl,st1,_,hres,h1,hle⟩
def yX{α:Type}(xs ys:List α)(lo:Nat):List α:=xs.take lo++ys.take (xs.length - lo)++xs.drop (lo+min ys.length (xs.length - lo))
theorem Wb{α:Type}(f:α->List T)(xs ys:List α)(lo:Nat):RJ (xs.map f) (ys.map f) lo=(yX xs ys lo).map f:=by
 simp only [RJ,yX,zXJ,List.map_take,List.map_drop,zWw]
def AS(i n:Int):Bool:=decide (0<=i) && decide (i<=n)
theorem T2{i:Int}{n:Nat}(h:AS i n=true):i.toNat<=n:=by
 simp only [AS,sk,decide_eq_true_eq] at h; omega
section
variable {P:Program} {n:Nat} {ls:List Nat} {st st':St} {p:Nat->Bool} {ρ:Nat->fy} {ops:Array Oper} {l:List Oper} {K:St->Prop} {o:Oper}
theorem EQ{α:Type}(f:α->List T)(xs:List α)(r sz:Nat)(i:Int){t e e':TypeId}{x:Operand}{lo:Option Operand}{alo:Option A}(ho:o.op=.slice t x lo none none)(hg:iU ops st o=some true)(hf:eV ρ st o=true)(hx:st.eval x=some (.own r))
  (hlo:I5 st.eval lo=some alo) (hl:yr 0 alo=some i) (hr:st.rw r=some (.live e' sz (xs.map f))) (hu:P.underlying t=some (.slice e)) (hs:i6 P e=some sz) (hw:UZ ρ o.dst=true) (h:AS i xs.length=true)
  (hk:ab P p ρ ops l (st.put o.dst (.sub r sz i.toNat)) K):ab P p ρ ops (o :: l) st K:=by
 simp only [AS,sk,decide_eq_true_eq] at h;refine ab.pure (x:=.sub r sz i.toNat) hg hf ?_ hk;have hhi:I5 st.eval (none:Option Operand)=some none:=rfl;simp only [qd,ho,hx,hlo,hhi,VI,hw,Option.isNone_none,zWZ,Bool.true_or,Pk,hu,hl,hs,MA.run,hr,zWw,h.1,h.2,and_self,↓reduceIte]
theorem M1{α:Type}(f:α->List T)(xs ys:List α)(r lo m:Nat){t t' e e':TypeId}{a b:Operand}{y:A}{args:Array Operand}{ts:Array TypeId}(ho:o.op=.call { callee:=.builtin .copy,args,argTypes:=ts })(hargs:args.toList=[a,b])(hts:ts.toList=[t,t'])(hg:iU ops st o=some true)(hf:eV ρ st o=true)
  (ha:st.eval a=some (.sub r 1 lo)) (hb:st.eval b=some y) (hy:((y.rows λm rows=>MA.ret (m,rows)).run st).map Prod.fst=some (m,ys.map f)) (hm:m=1\/ys.map f=[]) (hr:st.rw r=some (.live e' 1 (xs.map f))) (hu:P.underlying t=some (.slice e)) (hs:i6 P e=some 1) (h:lo<=xs.length)
  (hk:ab P p ρ ops l ((({ st with rw:=jr st.rw r (some (.live e' 1 ((yX xs ys lo).map f))) }:St)).put o.dst (.t (.int .i64 (min ys.length (xs.length - lo):Nat)))) K):ab P p ρ ops (o :: l) st K:=by
 refine ab.op (x:=.t (.int .i64 (min ys.length (xs.length - lo):Nat))) hg hf ?_ hk;simp only [qd,ho,hargs,ha,hb,hts,F8,hu,hs,and_self,↓reduceIte];rw [HJ hy];simp only [hm,↓reduceIte,MA.run,hr,zWw,h,and_self,Wb]
theorem Sj{α:Type}(f:α->List T)(xs:List α)(y:α)(z:T)(r lo:Nat){t e e':TypeId}{a:Operand}{args:Array Operand}{ts:Array TypeId}(ho:o.op=.call { callee:=.builtin .clear,args,argTypes:=ts })(hargs:args.toList=[a])(hts:ts.toList=[t])(hg:iU ops st o=some true)(hf:eV ρ st o=true)
  (ha:st.eval a=some (.sub r 1 lo)) (hr:st.rw r=some (.live e' 1 (xs.map f))) (hu:P.underlying t=some (.slice e)) (hs:i6 P e=some 1) (hz:uT P e=some [.t z]) (hfy:f y=[z]) (h:lo<=xs.length)
  (hk:ab P p ρ ops l ((({ st with rw:=jr st.rw r (some (.live e' 1 ((xs.take lo++zQZ (xs.length - lo) y).map f))) }:St)).put o.dst (.tup [])) K):ab P p ρ ops (o :: l) st K:=by
 refine ab.op (x:=.tup []) hg hf ?_ hk;have e1:(xs.map f).take lo++zQZ (xs.length - lo) [z]=(xs.take lo++zQZ (xs.length - lo) y).map f:=by
  rw [zXJ,List.map_replicate,hfy,List.map_take]
 simp only [qd,ho,hargs,ha,hts,EC,hu,hs,hz,and_self,↓reduceIte,MA.run,hr,zWw,h,e1]
end
end Go.Tm
namespace Go.Tm.Pu
theorem wrap_i64{n:Int}(h1:-9223372036854775808<=n)(h2:n<=9223372036854775807):pa .i64 n=n:=Go.IntWalk.i64_in n ⟨h1,h2⟩
theorem ER(n:Int):pa .u8 n=n % 256:=by simp [pa,IntKind.bits,IntKind.signed]
theorem dC{a b:Int}(h1:-9223372036854775808<=a+b)(h2:a+b<=9223372036854775807):aV .i64 a b=a+b:=wrap_i64 h1 h2
theorem dZ{a b:Int}(h1:-9223372036854775808<=a - b)(h2:a - b<=9223372036854775807):gX .i64 a b=a - b:=wrap_i64 h1 h2
theorem kg{a b:Int}(h1:-9223372036854775808<=a*b)(h2:a*b<=9223372036854775807):js .i64 a b=a*b:=wrap_i64 h1 h2
theorem fv{i:Nat}(h:i < 9223372036854775807):aV .i64 (i:Int) 1=((i+1:Nat):Int):=by
 rw [dC ak ak]; simp
theorem zP{a b:Int}(h:0<=a):pK .i64 a b=a % b:=by
 unfold pK; exact zXG h
theorem M2{a b:Int}(h:0<=a)(hb:0 < b)(h2:a<=9223372036854775807):T0 .i64 a b=a / b:=by
 unfold T0;rw [Int.tdiv_eq_ediv_of_nonneg h];have h3:0<=a / b:=Int.ediv_nonneg h ak;have h4:a / b<=a:=Int.ediv_le_self b h;exact wrap_i64 ak ak
theorem Qw(k:IntKind)(a:Int)(n:Nat)(h:n<=k.bits):ju k a (n:Int)=a / 2 ^ n:=by
 unfold ju;rw [show min (sY (n:Int)) k.bits=n by simp; omega];exact Int.fdiv_eq_ediv_of_nonneg a (by exact_mod_cast zYy (2 ^ n))
theorem qaQ(a:Int):ju .i64 a 7=a / 128:=Qw .i64 a 7 Qh
theorem qaR(a:Int):ju .i64 a 8=a / 256:=Qw .i64 a 8 Qh
theorem b5{p:Prop}[Decidable p](h:p):fX (decide p)=some ():=by simp [fX,h]
theorem zQ:fX true=some ():=rfl
theorem cU{α:Type}(xs:List α)(i:Nat):eS xs (i:Int)=xs[i]?:=by simp [eS]
def oU{σ ρ:Type}(fin:σ->Option ρ)(body:Nat->σ->(σ->Option ρ)->Option ρ):Nat->Nat->σ->Option ρ
 | 0,_,s=>fin s
 | n+1,i,s=>body i s (oU fin body n (i+1))
theorem YT{σ ρ:Type}{fin:σ->Option ρ}{body:Nat->σ->(σ->Option ρ)->Option ρ}{n:Int}(L:Nat->σ->Int->Option ρ)(hn:n<=9223372036854775807)
  (hL:∀ (k:Nat) (s:σ) (i:Nat),L (k+1) s (i:Int)=bif decide ((i:Int) < n) then body i s (λs'=>L k s' (aV .i64 (i:Int) 1)) else fin s) :
  ∀ (m k i:Nat) (s:σ),i+m=n.toNat\/(m=0/\n<=i)->m < k->L k s (i:Int)=oU fin body m i s:=by
 intro m
 induction m with
 | zero =>
  intro k i s hi hk;obtain ⟨k,rfl⟩:∃ j,k=j+1:=⟨k - 1,by omega⟩;rw [hL];have:¬ ((i:Int) < n):=by omega
  simp [this,oU]
 | succ m ih =>
  intro k i s hi hk;obtain ⟨k,rfl⟩:∃ j,k=j+1:=⟨k - 1,by omega⟩;rw [hL];have:(i:Int) < n:=by omega
  simp only [this,decide_true,cond_true];show body i s _=body i s (oU fin body m (i+1))
  congr 1
  funext s'
  rw [fv ak];exact ih k (i+1) s' ak ak
theorem pA{σ ρ:Type}{fin:σ->Option ρ}{body:Nat->σ->(σ->Option ρ)->Option ρ}{n:Int}(L:Nat->σ->Int->Option ρ)(hn:n<=9223372036854775807)
  (hL:∀ (k:Nat) (s:σ) (i:Nat),L (k+1) s (i:Int)=bif decide ((i:Int) < n) then body i s (λs'=>L k s' (aV .i64 (i:Int) 1)) else fin s)
  {k:Nat} (s:σ) (hk:n.toNat < k):L k s 0=oU fin body n.toNat 0 s:=by
 have:=YT L hn hL n.toNat k 0 s ak hk
 simpa using this
def cE{α σ ρ:Type}(fin:σ->Option ρ)(body:α->Nat->σ->(σ->Option ρ)->Option ρ):List α->Nat->σ->Option ρ
 | [],_,s=>fin s
 | x :: xs,i,s=>body x i s (cE fin body xs (i+1))
theorem Sk{α σ ρ:Type}{fin:σ->Option ρ}{body:α->Nat->σ->(σ->Option ρ)->Option ρ}{xs:List α}(L:Nat->σ->Int->Option ρ)(hn:xs.length<=9223372036854775807)
  (hL:∀ (k:Nat) (s:σ) (i:Nat),L (k+1) s (i:Int)=bif decide ((i:Int) < (xs.length:Int)) then (eS xs (i:Int)).bind λx=>body x i s (λs'=>L k s' (aV .i64 (i:Int) 1)) else fin s) :
  ∀ (ys:List α) (k i:Nat) (s:σ),ys=xs.drop i->ys.length < k->L k s (i:Int)=cE fin body ys i s:=by
 intro ys
 induction ys with
 | nil =>
  intro k i s hi hk;obtain ⟨k,rfl⟩:∃ j,k=j+1:=⟨k - 1,by omega⟩;rw [hL];have:¬ ((i:Int) < (xs.length:Int)):=by
   have:=congrArg List.length hi;simp at this;omega
  simp [this,cE]
 | cons y ys ih =>
  intro k i s hi hk;obtain ⟨k,rfl⟩:∃ j,k=j+1:=⟨k - 1,by omega⟩;rw [hL];have hlt:i < xs.length:=by
   have:=congrArg List.length hi;simp at this;omega
  have hx:xs[i]?=some y:=by
   have:=congrArg zZk hi
   simpa [zYK] using this.symm
  have hys:ys=xs.drop (i+1):=by
   have:=congrArg List.tail hi
   simpa [zYj] using this
  have:(i:Int) < (xs.length:Int):=by omega
  simp only [this,decide_true,cond_true,cU,hx,wk];show body y i s _=body y i s (cE fin body ys (i+1))
  congr 1
  funext s'
  rw [fv ak];simp only [zQw] at hk;exact ih k (i+1) s' hys ak
theorem dE{α σ ρ:Type}{fin:σ->Option ρ}{body:α->Nat->σ->(σ->Option ρ)->Option ρ}{xs:List α}(L:Nat->σ->Int->Option ρ)(hn:xs.length<=9223372036854775807)
  (hL:∀ (k:Nat) (s:σ) (i:Nat),L (k+1) s (i:Int)=bif decide ((i:Int) < (xs.length:Int)) then (eS xs (i:Int)).bind λx=>body x i s (λs'=>L k s' (aV .i64 (i:Int) 1)) else fin s)
  {k:Nat} (s:σ) (hk:xs.length < k):L k s 0=cE fin body xs 0 s:=by
 have:=Sk L hn hL xs k 0 s kU hk
 simpa using this
end Go.Tm.Pu
namespace Go.Tm
def T3(i j n m:Int):Bool:=decide (0<=i) && decide (i<=j) && decide (j<=n) && decide (m<=j - i)
theorem qbm{i j:Int}{n m:Nat}(h:T3 i j n m=true):sY i+sY (j - i)<=n:=by
 simp only [T3,sk,decide_eq_true_eq] at h;omega
theorem qbn{i j:Int}{n m:Nat}(h:T3 i j n m=true):m<=sY (j - i):=by
 simp only [T3,sk,decide_eq_true_eq] at h;omega
end Go.Tm
namespace Go.Tm
open Go
theorem oi{α:Type}{a b:α}(h:some a=some b):a=b:=Option.some.inj h
theorem kr{p:Prop}(h:p:=by kernel_rfl):p:=h
section
variable {P:Program} {n:Nat} {ls:List Nat} {Q:Exit->St->Prop} {N:St->Prop} {st st':St} {c x y:Code} {p:Nat->Bool} {ρ:Nat->fy} {ops:Array Oper} {l:List Oper} {K:St->Prop} {o:Oper}
theorem mu(s:Sx)(h:Wp P n ls c Q s.st)(hok:s.ok n ls [] []=true:=by kernel_rfl)(ht:s.tm.map (λq=>st.tm q.1)=s.tm.map (λq=>q.2.ren (Dk []) (Dk [])):=by kernel_rfl)
  (ho:s.ob.map (λq=>st.ob (Dk [] q.1))=s.ob.map (λq=>some (uG (Dk []) (Dk []) q.2)):=by kernel_rfl) (hr:s.rw.map (λq=>st.rw (Dk [] q.1))=s.rw.map (λq=>some q.2):=by kernel_rfl):Wp P n ls c Q st :=
 Wp.le (Le.of (s:=s) (mo:=[]) (mr:=[]) hok ht ho hr) h
theorem aS{id:Nat}(p:List Nat)(ρ:List (Nat×fy))(h:ab P (T1 p) (qw ρ) ops ops.toList st (Q .normal))(hok:ops.toList.all (xT n)=true:=by kernel_rfl):Wp P n ls (.region id ops false) Q st :=
 MW (T1 p) (qw ρ) hok h
theorem Jh{id:Nat}(p:List Nat)(ρ:List (Nat×fy))(h:ab P (T1 p) (qw ρ) ops ops.toList st (i7 (Wp P n ls y Q) Q .normal))(hok:ops.toList.all (xT n)=true:=by kernel_rfl):Wp P n ls (.seq (.region id ops false) y) Q st :=
 ap (MW (T1 p) (qw ρ) hok h)
theorem ae(hr:N (St.or (re P ρ ops l st)))(h:(re P ρ ops l st).isSome=true:=by kernel_rfl):ab P p ρ ops l st (i7 N Q .normal) :=
 ab.all h (cX hr)
theorem ag{id:Nat}(h:Wp P n ls y Q (St.or (re P (qw []) ops ops.toList st)))(h1:(re P (qw []) ops ops.toList st).isSome=true:=by kernel_rfl)(hd:ops.toList.all (xT n)=true:=by kernel_rfl):Wp P n ls (.seq (.region id ops false) y) Q st :=
 Jh [] [] (ae h h1) hd
theorem aw{α:Type}{o:Operand}{b:Bool}{e1 e2 r:α}(h:(bif b then e1 else e2)=r)(ht:e1=r->Wp P n ls x Q st)(hf:e2=r->Wp P n ls y Q st)(ho:st.eval o=some (.t (.bool b)):=by kernel_rfl):Wp P n ls (.cond o x y) Q st :=
 MR ho (λhc=>ht (Qs h hc)) (λhc=>hf (Qt h hc))
theorem aT(h:N st){Q:Exit->St->Prop}:Wp P n ls .skip (i7 N Q) st:=ee (cX h)
end
abbrev A.s(x:List Int):A:=.t (.sl 1 (x.map (ai .u8)))
abbrev C.s(x:List Int):C:=.t (.sl 1 (x.map (ai .u8)))
abbrev A.i(n:Int):A:=.t (.int .i64 n)
abbrev A.b(b:Bool):A:=.t (.bool b)
abbrev C.i(n:Int):C:=.t (.int .i64 n)
end Go.Tm
namespace Go.Tm
open Go.RowKit
section
variable {P:Program} {n:Nat} {ls:List Nat} {st st1:St}
theorem Mp(t sz:Nat)(rows:List (List T))(ht:st.tm t=.nn sz rows)(hlt:Nat.blt t n=true):Le n ls st (st.put (some t) (.t (.sl sz rows))) :=
 Vb rfl (λE g w v hM hv=>by
  rw [ht] at hv
  cases hv with
  | nn _ _ _ hr _=>exact ⟨g,hM,th.refl _ _ _ _,.t _ _ hr⟩) TA
end
theorem xk{P:Program}{fn:Func}{c:Code}{f:FuncId}{sz:Nat}{rows:List (List T)}{m:Bool}{res:V}
  (hf:P.funcs[f]?=some fn) (hb:fn.body=some c) (hnm:(fn.name == "runtime.NumGoroutine")=false) (hle:1<=fn.ntmps) (ht:sE fn.ntmps fn=true)
  (hN:rows=[]->Wp P fn.ntmps [] c (AQ P m fn [] res []) (eC [.nil] ez)) (hS:Wp P fn.ntmps [] c (AQ P m fn [] res []) (eC [.nn sz rows] ez)):av P f [.one (.t (.sl sz rows))] res []:=by
 refine ⟨⟨fn,hf,by simp [hb],hnm⟩,λw F vs bs hF hVV hnd hnf htb=>?_⟩
 cases hVV with
 | cons _ v b _ vs bs h1 hs =>
  cases hs
  cases h1 with
  | one _ _ _ h1=>cases h1 with
   | t _ _ h1 =>
    let E:En:={ w0:=w,X:=K4,F0:=F,lent:=[] }
    let g0:Gh:={ F:=F,ob:=λ_=>0,rw:=λ_=>.nilFunc,dw:=w }
    have main:∀ x:A,VR w g0 K4 K4 x v->Wp P fn.ntmps [] c (AQ P m fn [] res []) (eC [x] ez)->Calls P f #[v] w λe w'=>∃ v' F' bv bo,e=.returned v'/\rc w w'/\(∀ b,b < w.heap.size->b∉([]:List Nat)->w'.heap[b]?=w.heap[b]?)/\(∀ b,F b->F' b) /\
      (∀ b,F' b->b < w'.heap.size/\(b < w.heap.size->F b\/b∈([]:List Nat))/\(F b\/Wr w' b))/\VV w' F' res v' bv/\sB w' F' [.one (.t (.sl sz rows))] [v] [] bo/\(bv++bo).Nodup/\∀ b∈bv++bo,¬ F' b/\(w.heap.size<=b\/b∈([]:List Nat)):=by
     intro x hx hW;have hM0:gG E g0 (eC [x] ez) w:=⟨λs cells h=>Do,λs s' h=>Do,λr x h=>Do,λr r' b h=>Ys,λr s h=>Ys,
      λb hb=>⟨hF b hb,λ_=>.inl hb,.inl hb⟩,rfl,rfl,rfl,zWJ _,λ_ _ _=>.inl rfl,λ_ h=>h.elim,⟨rfl,rfl,rfl⟩,λ_ h=>h.elim⟩
     have hSim:=Jg (vs:=[v]) (n:=fn.ntmps) hM0 rfl Ty (λj y hj=>by
      cases j with
      | zero=>simp at hj; subst hj; exact ⟨v,rfl,hx.mono ⟨λ_ _=>rfl,λ_ h=>h,λ_ h=>h.elim,λ_ h=>h.elim,⟨rfl,rfl,rfl⟩,rfl,rfl⟩⟩
      | succ j=>simp at hj) rfl (λv h=>Do)
     refine calls_of_wp hf hb (wp_mono (hW E g0 _ w ⟨⟨[],rfl,λ_ h=>Do,λ_ h=>Do,λh=>Do⟩,⟨htb.mono λb h=>h.elim (λh=>h.elim) λh=>VH⟩⟩ hSim) λe a' w' ⟨g',st',hS',hR⟩=>?_);obtain ⟨he,l,st2,res0,outs0,hres,hrun,hvle,hole⟩:=hR;have hfin:a'.defers=[]/\∃ v',(results fn a'.tmps).run P w'=.ok v' w'/\(λe w'=>∃ v' F' bv bo,e=Ending.returned v'/\rc w w'/\(∀ b,b < w.heap.size->b∉([]:List Nat)->w'.heap[b]?=w.heap[b]?)/\(∀ b,F b->F' b) /\
       (∀ b,F' b->b < w'.heap.size/\(b < w.heap.size->F b\/b∈([]:List Nat))/\(F b\/Wr w' b))/\VV w' F' res v' bv/\sB w' F' [.one (.t (.sl sz rows))] [v] [] bo/\(bv++bo).Nodup/\∀ b∈bv++bo,¬ F' b/\(w.heap.size<=b\/b∈([]:List Nat))) (.returned v') w':=by
      refine ⟨hS'.defers,?_⟩;obtain ⟨v',hrv,hvv⟩:=EM hS' hres ht;refine ⟨v',hrv,?_⟩;have hM':=hS'.mem;simp only [AP] at hrun;obtain ⟨c',st4,g4,bv,hM4,hE4,hL4,h4,hv4,hT4⟩:=HH hM' hvv hrun;obtain ⟨h5,rfl⟩:=gZ h4;injection h5 with h5 h6
      subst h5 h6;have hof:∀ b∈bv,w.heap.size<=b:=λb hb=>by
       rcases hT4.of b hb with ⟨r,⟨e,sz,rows,h7⟩,_,h8⟩ | ⟨s,⟨c,cs,h7⟩,_,h8⟩
       ·obtain ⟨_,_,_,_,h9⟩:=hM'.row r _ h7;exact (h9 b h8).2.resolve_right (λh=>h)
       ·obtain ⟨_,_,_,_,_,_,h9⟩:=hM'.ob s _ h7;rw [h8] at h9;exact h9.resolve_right (λh=>h)
      refine ⟨v',λb=>g4.F b\/F b,bv,[],rfl,⟨hM4.os,hM4.tape,hM4.output,hM4.sizes⟩,λb hb _=>hM4.frm rfl b hb (λh=>h),λb h=>.inr h,λb h=>?_,hvle.vv (hv4.mono (λ_ _=>rfl) (λ_ h=>.inl h) (λ_ _=>rfl)),.skip _ _ _ _ _ _ (λc h=>by cases h) .nil,by rw [zWW]; exact hT4.nodup,λb hb=>?_⟩
      ·rcases h with h | h
       ·obtain ⟨h7,h8,h9⟩:=hM4.F b h;exact ⟨h7,λhlt=>.inl ((h8 hlt).elim id (λh=>h.elim)),h9⟩
       ·exact ⟨zWV (hF b h) hM4.sizes,λ_=>.inl h,.inl h⟩
      ·rw [zWW] at hb;refine ⟨λh=>?_,.inl (hof b hb)⟩;rcases h with h | h
       ·exact hT4.nf b hb h
       ·have:=hF b h; have:=hof b hb; omega
     rcases he with rfl | rfl
     ·exact hfin
     ·exact hfin
    generalize hq:rows=q at h1
    cases h1 with
    | sl0 sz a cc ha =>
     cases a with
     | none =>
      subst hq;have hcc:=ha rfl;subst hcc;exact main .nil .nil (hN rfl)
     | some a =>
      subst hq;exact main (.nn sz []) (.nn sz [] _ (.sl0 sz (some a) cc ha) ⟨a,0,cc,rfl⟩) hS
    | sl sz rows b off cc u h2 h3 h4 h5 h6 =>
     subst hq;exact main (.nn sz rows) (.nn sz rows _ (.sl sz rows b off cc u h2 h3 h4 h5 h6) ⟨_,_,_,rfl⟩) hS
section
variable {P:Program} {n:Nat} {ls:List Nat} {Q:Exit->St->Prop} {st st':St} {p:Nat->Bool} {ρ:Nat->fy} {ops:Array Oper} {l:List Oper} {K:St->Prop} {o:Oper}
theorem aP(d f:Nat)(caps ln:List A)(vs:List V)(res:V){xf:Operand}{args:Array Operand}{ts:Array TypeId}
  (ho:o.op=.call { callee:=.value xf,args,argTypes:=ts }) (hd:o.dst=some d) (hg:iU ops st o=some true) (hf:eV ρ st o=true) (hxf:st.eval xf=some (.clo f caps)) (has:ef (args.toList.map st.eval)=some ln)
  (hp:((eZ (ln++caps) MA.ret).run st).map Prod.fst=some vs) (hc:oY P f vs res) (hr:((V.toA d (iP d 0) res MA.ret).run st).isSome=true)
  (hk:ab P p ρ ops l ((IH ((V.toA d (iP d 0) res MA.ret).run st)).put o.dst (ZJ ((V.toA d (iP d 0) res MA.ret).run st))) K):ab P p ρ ops (o :: l) st K:=by
 obtain ⟨⟨vs',st1⟩,h1,h2⟩:=zm.1 hp
 cases h2
 have hst:st1=st:=by
  have:=(pz (eZ (ln++caps) MA.ret) (sD (D:=⟨λ_=>True,λ_=>False,λ_=>True,λ_=>False⟩) (rG (λ_=>trivial) _) (λ_=>trivial)) h1).1;exact St.ext this.tm (funext λs=>this.ob s (λh=>h)) (funext λs=>this.rw s (λh=>h))
 subst hst;obtain ⟨⟨x,st2⟩,h3⟩:=DQ.1 hr;rw [h3] at hk;exact ab.step (.run x st2 hg hf (.callD d f xf args ts caps ln vs' res ho hd hxf has h1 hc h3)) hk
theorem sF{α:Type}(f:α->List T)(xs:List α)(i:Int)(s:Bool){y:α}{t e:TypeId}{a b:Operand}{sz:Nat}{kk:IntKind}(ho:o.op=.indexAddr t a b)(hg:iU ops st o=some true)(hf:eV ρ st o=true)
  (ha:st.eval a=some (.ext s (.sl sz (xs.map f)))) (hb:st.eval b=some (.t (.int kk i))) (hu:P.underlying t=some (.slice e)) (hs:i6 P e=some sz) (h:eS xs i=some y) (hk:ab P p ρ ops l (st.put o.dst (.exa s (f y))) K):ab P p ρ ops (o :: l) st K:=by
 obtain ⟨h0,h1⟩:=bX h;refine ab.pure (x:=.exa s (f y)) hg hf ?_ hk;simp only [qd,ho,ha,hb];unfold mI;simp only [hu,hs,Hs,h0,and_self,↓reduceIte,zQz,h1,zWY,true_and,MA.run]
theorem wV(k:IntKind)(m:Nat)(xs:List Int):(((A.ext false (.sl m (xs.map (ai k)))).rows λm rows=>MA.ret (m,rows)).run st).map Prod.fst=some (m,xs.map (ai k)):=Xo (k:=k) (f:=ai k) λ_=>rfl
end
section
variable {P:Program} {E:En} {g:Gh} {st st':St} {a:Act} {w w':World} {n:Nat}
variable {p:Nat->Bool} {ρ:Nat->fy} {ops:Array Oper} {o:Oper} {ls:List Nat} {Q:Exit->St->Prop}
theorem YU(k:IntKind)(xs:List Int):∀ row∈xs.map (ai k),∀ x∈row,T.sc x=true:=by
 intro row hr x hx;obtain ⟨n,_,rfl⟩:=List.mem_map.1 hr;simp [ai] at hx;subst hx;rfl
theorem ca{fn:Func}{c:Code}{f:FuncId}{args:List V}{m:Bool}{res:V}
  (hf:P.funcs[f]?=some fn) (hb:fn.body=some c) (hnm:(fn.name == "runtime.NumGoroutine")=false) (hle:Nat.ble args.length fn.ntmps=true) (ht:sE fn.ntmps fn=true)
  (h:Wp P fn.ntmps [1] c (AQ P m fn [] res []) (eC (args.map V.toX) ez)):oY P f args res:=Sb hf hb hnm Ty ht h
end
end Go.Tm
