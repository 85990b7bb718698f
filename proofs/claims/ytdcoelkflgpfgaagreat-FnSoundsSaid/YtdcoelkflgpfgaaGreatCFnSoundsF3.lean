/- The abstract machine over data trees, and that it tells the truth of the translated code. -/
import Derived.Test.YtdcoelkflgpfgaaGreatCFnSoundsF2
set_option linter.unusedVariables false
set_option linter.unusedSimpArgs false
open Array renaming getElem?_append_left->zZQ,getElem?_append_right->zYj,getElem?_eq_getElem->zXV,getElem?_replicate->zZV,getElem?_toList->zWJ,length_toList->zQw,replicate->zZx
open Bool renaming and_eq_true->sk
open List renaming append_assoc->zQZ,append_nil->zWY,drop_drop->zZJ,eq_nil_of_length_eq_zero->r0,getElem?_append->zWG,getElem?_append_left->zQW,getElem?_append_right->zQX,getElem?_cons_zero->zWQ,getElem?_drop->zQq,getElem?_eq_getElem->sX,getElem?_map->zQY,getElem?_set->zYW,getElem?_set_ne->zXX,getElem?_take->zQx,head?->zYz,head?_drop->zXw,length->zYH,length_append->zQK,length_cons->zQH,length_nil->zXK,map_map->zZw,mem_append->zWH,mem_cons_of_mem->zQv,mem_cons_self->zQk,mem_of_getElem?->zQQ,nodup_append->zXy,range->zXQ,range'->zWh,range'_append_1->zVV,range'_succ->zYw,range_eq_range'->zXJ,size_toArray->zYy,tail->zZX,tail_drop->zXg,take_append_drop->zXH
open Nat renaming add_assoc->zZZ,add_zero->zYQ,beq->zXZ,beq_refl->zZk,eq_of_beq_eq_true->zWw,le_refl->zWj,le_trans->zWx,lt_of_lt_of_le->zQj,mul_one->zZq,zero_add->zWZ
open Option renaming getD_some->zYq,map_eq_some_iff->zXW
namespace Go.Tm
open Go.RowKit
section
variable {P:Program} {E:En} {g:Gh} {st st':St} {a:Act} {w w':World} {n:Nat}
theorem VR.dw{O R:Nat->Prop}{x:A}{v:Value}(h:VR w g O R x v)(hsh:g.sh=false)(hs:vJ g.D g.dw w'):VR w { g with dw:=w' } O R x v:=by
 induction h with
 | t x v h=>exact .t x v h
 | nil=>exact .nil
 | own r hr=>exact VR.own (g:={ g with dw:=w' }) r hr
 | agg l vs hl h ih=>exact .agg l vs hl ih
 | tup l vs hl h ih=>exact .tup l vs hl ih
 | obj s off hs=>exact VR.obj (g:={ g with dw:=w' }) s off hs
 | elem r sz i off b n c hr he=>exact VR.elem (g:={ g with dw:=w' }) r sz i off b n c hr he
 | win r lo m n c c' ad a' hr he hm hp=>exact VR.win (g:={ g with dw:=w' }) r lo m n c c' ad a' hr he hm hp
 | sub r sz lo n c c' ad a' hr he hp=>exact VR.sub (g:={ g with dw:=w' }) r sz lo n c c' ad a' hr he hp
 | fadr cells b off u hF hx hr=>exact VR.fadr (g:={ g with dw:=w' }) cells b off u hF hx hr
 | nn sz rows v h hv=>exact VR.nn (g:={ g with dw:=w' }) sz rows v h hv
 | clo f caps vs hl h ih=>exact .clo f caps vs hl ih
 | undef v=>exact .undef v
 | raw v=>exact .raw v
 | osl s a n c hs ha=>exact VR.osl (g:={ g with dw:=w' }) s a n c hs ha
 | shp x v h=>exact VR.shp (g:={ g with dw:=w' }) x v h
 | ext s x v hs' h =>
  rw [hsh] at hs';subst hs';exact VR.ext (g:={ g with dw:=w' }) false x v hsh (h.rd hs λ_ h=>h).sd
 | exa s cells b off u hs' hD hx hr =>
  rw [hsh] at hs';subst hs';exact VR.exa (g:={ g with dw:=w' }) false cells b off u hsh hD (λj x h=>by rw [uZ hs hD]; exact hx j x h) λj x h=>((hr j x h).rd hs λ_ h=>h).sd
structure VM (E:En) (g:Gh) (st:St) (b:Nat):Prop where
 f:¬ g.F b
 o:∀ s,st.O s->g.ob s≠b
 r:∀ r,st.L r->(g.rw r).ownBlock≠some b
 d:¬ E.D b
theorem iJ.unk{b:Nat}(hS:iJ E g n st a w)(hb:b < E.w0.heap.size/\¬ E.X b/\¬ E.F0 b/\¬ E.D b):VM E g st b:=by
 obtain ⟨h1,h2,h3,h4⟩:=hb;refine ⟨λh=>?_,λs hO he=>?_,λr hL he=>?_,h4⟩
 ·rcases (hS.mem.F b h).2.1 h1 with h | h
  ·exact h3 h
  ·exact h2 h
 ·obtain ⟨cells,hcells⟩:=Option.isSome_iff_exists.1 hO;obtain ⟨_,_,_,_,_,_,h5⟩:=hS.mem.ob s cells hcells;rw [he] at h5;rcases h5 with h5 | h5
  ·omega
  ·exact h2 h5
 ·obtain ⟨e,sz,rows,hL⟩:=hL;obtain ⟨_,_,_,_,h5⟩:=hS.mem.row r _ hL;rcases (h5 b he).2 with h5 | h5
  ·omega
  ·exact h2 h5
theorem iJ.still{k:Nat}(hS:iJ E g n st a w)(hsh:E.sh=false)(h1:k < E.w0.heap.size)(h2:¬ E.X k):w.heap[k]?=E.w0.heap[k]?:=by
 rcases hS.mem.frame k h1 h2 with h | ⟨h,_⟩
 ·exact h
 ·rw [hS.mem.dep0.1.2.2,hsh] at h; cases h
section
variable {w00:World} {X0 D0:Nat->Prop} {b m:Nat} {c x y:Code} {Q:Exit->St->List (List Int)->Prop} {ks:List (List Int)}
variable {p:Nat->Bool} {ρ:Nat->eh} {ops:Array Oper}
theorem H3{Q:Exit->Act->World->Prop}[Tb P E]{l2:List Nat}(hd:∀ (i:Nat) (o:Oper),ops[i]?=some o->mT n o=true):∀ {l:List Nat} {st:St} {g:Gh} {a:Act} {w:World},iJ E g n st a w->Ix P p ρ ops l st st' ->
  (∀ g a w,iJ E g n st' a w->wpOps P ops Q l2 a w)->wpOps P ops Q (l++l2) a w
 | [],st,g,a,w,hS,h,hQ=>hQ g a w (by have h:st'=st:=h; rw [h]; exact hS)
 | i :: l,st,g,a,w,hS,⟨b,h1,h2⟩,hQ=>by
  rw [List.cons_append,wpOps_cons];exact vK hS (hd i) h1 λg' a' w' hS'=>H3 hd hS' h2 hQ
end
end
end Go.Tm
namespace Go.Tm
open Go.RowKit
section
variable {P:Program} {E:En} {g:Gh} {st st':St} {a:Act} {w w':World} {n:Nat} {w00:World} {X0 D0:Nat->Prop} {b m:Nat} {c x y:Code} {Q:Exit->St->List (List Int)->Prop} {ks:List (List Int)}
variable {p:Nat->Bool} {ρ:Nat->eh} {ops:Array Oper}
theorem TH{s:Nat}(hS:iJ E g n st a w)(hO:st.O s):g.ob s < w.heap.size/\(E.w0.heap.size<=g.ob s\/E.X (g.ob s)):=by
 obtain ⟨cells,hcells⟩:=Option.isSome_iff_exists.1 hO;obtain ⟨_,_,h1,_,_,_,h5⟩:=hS.mem.ob s cells hcells;exact ⟨(Array.getElem?_eq_some_iff.1 h1).1,h5⟩
theorem Mf{r k:Nat}(hS:iJ E g n st a w)(hL:st.L r)(hk:(g.rw r).ownBlock=some k):k < w.heap.size/\(E.w0.heap.size<=k\/E.X k):=by
 obtain ⟨e,sz,rows,hL⟩:=hL;obtain ⟨_,ho,_,_,h5⟩:=hS.mem.row r _ hL;exact ⟨(ho.lt k hk).2,(h5 k hk).2⟩
theorem NL{l:List Oper}{l2:List Oper}(hops:ops.toList=l++l2)(hr:zQ P p ρ ops l st st'):Ix P p ρ ops (zWh 0 l.length) st st':=by
 have key:∀ (l:List Oper) (k:Nat) (st:St),(∀ j,j < l.length->l[j]?=ops[k+j]?)->zQ P p ρ ops l st st'->Ix P p ρ ops (zWh k l.length) st st':=by
  intro l
  induction l with
  | nil=>intro k st _ h; exact h
  | cons o l ih =>
   intro k st hl ⟨q,h1,h2⟩;refine ⟨q,?_,ih (k+1) q (λj hj=>by have:=hl (j+1) (by simpa using hj); simpa [zZZ,Nat.add_comm 1 j] using this) h2⟩;have:=hl 0 (by simp);simp at this;unfold qf;rw [<- this];exact h1
 refine key l 0 st (λj hj=>?_) hr;rw [zWZ,<- zWJ,hops,zQW hj]
theorem H4(hd:ops.toList.all (mT n)=true):∀ (i:Nat) (o:Oper),ops[i]?=some o->mT n o=true:=λi o ho=>List.all_eq_true.1 hd o (by simpa using Array.mem_of_getElem? ho)
end
end Go.Tm
namespace Go.Tm
open Go.RowKit
section
variable {ι:Type} {P:Program} {E:En} [Tb P E] {g:Gh} {st st':St} {a:Act} {w:World} {n:Nat}
def Ur(w:World)(F:Nat->Prop)(us:List Value)(bs:List Nat)(vs:List V)(res:ι->V)(outs:ι->List (List C))(X:ι->World->List Nat->Prop)(e:Ending)(w':World):Prop :=
 ∃ i v F' bv bo Bs,e=.returned v/\qU w w'/\(∀ b,b < w.heap.size->b∉bs->w'.heap[b]?=w.heap[b]?)/\(∀ b,F b->F' b)/\(∀ b,F' b->b < w'.heap.size/\(b < w.heap.size->F b\/b∈bs)/\(F b\/Wr w' b)) /\
  VV w' F' (res i) v bv/\pt w' F' vs us (outs i) bo/\(bv++bo++Bs).Nodup/\(∀ b∈bv++bo++Bs,¬ F' b/\(w.heap.size<=b\/b∈bs))/\X i w' Bs
def wC(P:Program)(f:FuncId)(vs:List V)(res:ι->V)(outs:ι->List (List C))(X:ι->World->List Nat->Prop):Prop :=
 rX P f/\∀ (w:World) (F:Nat->Prop) (us:List Value) (bs:List Nat),(∀ b,F b->b < w.heap.size)->zP w F vs us bs->bs.Nodup->(∀ b∈bs,¬ F b)->Kh P w (λb=>b∈bs)->Calls P f us.toArray w (Ur w F us bs vs res outs X)
theorem NM{d f:Nat}{m:Bool}{p:Nat->Bool}{o:Oper}{xf:Operand}{args:Array Operand}{ts:Array TypeId}{caps az:List A}{vs:List V}{st1:St}{res:ι->V}{outs:ι->List (List C)}{X:ι->World->List Nat->Prop}{x:ι->A}{stx:ι->St}
  (hS:iJ E g n st a w) (ho:o.op=.call { callee:=.value xf,args,argTypes:=ts }) (hf:st.eval xf=some (.clo f caps)) (kT:dt (args.toList.map st.eval)=some az)
  (hp:(kc m p (az++caps) MA.ret).run st=some (vs,st1)) (hc:wC P f vs res outs X) (hr:∀ i,(dO d (d8 (az++caps)) (outs i) (V.toA d (fh d 0) (res i) MA.ret)).run st1=some (x i,stx i)) :
  uR P o a w λv w'=>∃ i Bs g',uP E g st w (x i) (stx i) v g' w'/\X i w' Bs/\Bs.Nodup/\∀ b∈Bs,zi E g' (stx i) b:=by
 have hM:=hS.mem;obtain ⟨hcl,hcc⟩:=hc;have hvf:=bT hS hf;generalize hvv:a.eval xf=vf at hvf
 cases hvf with
 | clo f caps vcaps hl hx =>
  refine i3 ho hvv hcl ?_;obtain ⟨ha1,ha2⟩:=wZ hS kT;obtain ⟨cs,st1',g1,bs,hM1,hE1,hL1,h1,hVV,hT,hA,hsl⟩:=ta (vs:=args.toList.map a.eval++vcaps) (az++caps) hM (by simp [<- ha1,hl]) (λj y hj=>by
   rw [zWG] at hj
   split at hj
   ·rename_i hlt;have hlt':j < (args.toList.map a.eval).length:=by rw [<- ha1]; exact hlt
    exact ⟨_,by rw [zQW hlt']; exact sX hlt',ha2 j y _ hj (sX hlt')⟩
   ·rename_i hge;have hlt:j - az.length < vcaps.length:=by rw [<- hl]; exact (List.getElem?_eq_some_iff.1 hj).1
    exact ⟨_,by rw [zQX (by rw [<- ha1]; omega),<- ha1]; exact sX hlt,hx _ y _ hj (sX hlt)⟩) hp
  obtain ⟨rfl,rfl⟩:=fj h1;have hbsX:∀ b∈bs,b < E.w0.heap.size->E.X b:=λb hb hlt=>by
   rcases hT.of b hb with ⟨r,h2,_,h4⟩ | ⟨s,⟨c,cs,h2⟩,_,h4⟩
   ·rcases (hM.row_nf h2 h4).2 with h5 | h5
    ·omega
    ·exact h5
   ·rcases (hM.ob_nf (s:=s) (by simp [St.O,h2])).2 with h5 | h5
    ·omega
    ·exact h4 ▸ h5
  refine (hcc w g1.F _ bs (λb hb=>(hM1.F b hb).1) hVV hT.nodup hT.nf (hM.tbW λb h1 h2 _ h3=>h2 (hbsX b h3 h1))).mono λe w' ⟨i,v,F',bv,bo,Bs,he,hcalm,hsame,hFF,hF',hvr,hO,hnd,hex,hX⟩=>⟨v,he,i,Bs,?_⟩;have hbsrow:∀ b∈bs,∀ r,st1.L r->(g1.rw r).ownBlock≠some b:=λb hb r hr he=>by
   rw [hL1.rw] at he;rcases hT.of b hb with ⟨r',h2,h3,h4⟩ | ⟨s,⟨c,cs,h2⟩,_,h4⟩
   ·exact h3 (hM.rowne r r' b (hL1.L r hr) h2 he h4 ▸ hr)
   ·exact hM.rowob r s (hL1.L r hr) (by simp [St.O,h2]) (h4 ▸ he)
  have hbsob:∀ b∈bs,∀ s,st1.O s->g1.ob s=b->st1.ob s=some []/\s∈d8 (az++caps):=λb hb s hs he=>by
   rw [hL1.ob] at he;have hs':st.O s:=(hL1.O s).1 hs;rcases hT.of b hb with ⟨r',h2,h3,h4⟩ | ⟨s',⟨c,cs,h2⟩,h3,h4⟩
   ·exact absurd (he ▸ h4) (hM.rowob r' s h2 hs')
   ·have:=hM.obne s s' hs' (by simp [St.O,h2]) (he.trans h4.symm);subst this;exact ⟨h3,hsl s (by rw [h3,h2]; simp)⟩
  have hF0:∀ b,b < w.heap.size->F' b->g1.F b\/b∈bs:=λb h2 h3=>(hF' b h3).2.1 h2;have hA1:oF g1 (az++caps) vs (args.toList.map a.eval++vcaps):=hA.congr' hL1.ob;have hlentF:∀ s,s∈d8 (az++caps)->g1.ob s∈bo:=pt.mem hA1 hO;obtain ⟨hM2,hE2⟩:=hM1.step (w':=w') (g':={ g1 with F:=F' }) (st':=st1) hcalm (λb=>b∈bs) (λb h2 h3=>hsame b h2 h3) (λb hb=>hT.nf b hb) (λb h2 h3=>hbsX b h3 h2) hFF
   (λb h2 h3=>⟨(hF' b h2).1,λhlt=>(hF0 b (zQj hlt hM1.sizes) h2).elim (λh4=>absurd h4 h3) (λh4=>.inr (hbsX b h4 hlt)),.inr ((hF' b h2).2.2.resolve_left h3)⟩) (λ_ h=>⟨h,rfl⟩) (λ_ h=>⟨h,rfl⟩)
   (λs cells hs=>by
    have hOs:st1.O s:=by simp [St.O,hs]
    by_cases hb:g1.ob s∈bs
    ·obtain ⟨h5,h6⟩:=hbsob _ hb s hOs rfl;rw [hs] at h5
     cases h5
     obtain ⟨arr,e,hh⟩:=A6 hA1 hO s h6;refine .inr ⟨arr,e,hh,by simp,by simp,?_,(hM1.ob_nf hOs).2⟩;exact (hex _ (List.mem_append.2 (.inl (List.mem_append.2 (.inr (hlentF s h6)))))).1
    ·refine .inl ⟨hs,hb,λhf=>?_⟩;rcases hF0 _ (hM1.ob_lt hOs) hf with h5 | h5
     ·exact (hM1.ob_nf hOs).1 h5
     ·exact hb h5) hM1.obne
   (λr x hr=>.inl ⟨hr,λhL b hb=>⟨λhm=>hbsrow b hm r hL hb,λhf=>by
    rcases hF0 b (hM1.row_lt hL hb) hf with h5 | h5
    ·exact (hM1.row_nf hL hb).1 h5
    ·exact hbsrow b h5 r hL hb⟩⟩) hM1.rowne hM1.rowob
  have hI:Inv E { g1 with F:=F' } st1 (d8 (az++caps)) (bo++(bv++Bs)):=by
   have hm:∀ x,x∈bo++(bv++Bs)->x∈bv++bo++Bs:=λx hx=>by
    simp only [zWH] at hx ⊢;rcases hx with h | h | h
    ·exact .inl (.inr h)
    ·exact .inl (.inl h)
    ·exact .inr h
   refine ⟨?_,λb hb=>(hex b (hm b hb)).1,λb hb=>?_,λb hb r hr he=>?_,λb hb s hs he=>?_⟩
   ·rw [zQZ] at hnd;exact (List.perm_append_comm_assoc bv bo Bs).nodup hnd
   ·rcases (hex b (hm b hb)).2 with h5 | h5
    ·exact .inl (zWx hM1.sizes h5)
    ·by_cases hlt:b < E.w0.heap.size
     ·exact .inr (hbsX b h5 hlt)
     ·exact .inl (by omega)
   ·rcases (hex b (hm b hb)).2 with h5 | h5
    ·exact absurd (hM1.row_lt hr he) (by omega)
    ·exact hbsrow b h5 r hr he
   ·rcases (hex b (hm b hb)).2 with h5 | h5
    ·exact absurd (hM1.ob_lt hs) (by have:g1.ob s=b:=he; omega)
    ·exact (hbsob b h5 s hs he).2
  have hA2:oF { g1 with F:=F' } (az++caps) vs (args.toList.map a.eval++vcaps):=hA1.congr' (g:=g1) (g1:={ g1 with F:=F' }) rfl;obtain ⟨st2,g2,hM3,hE3,hF3,ht3,h6,hI3⟩:=pu (w:=w') hM2 hA2 hO hI (hr i);have hfr:∀ b∈bv++Bs,zi E g2 st2 b:=λb hb=>⟨hI3.F b hb,λs hs he=>by have:=hI3.ob b hb s hs he; simp at this,hI3.row b hb,hI3.X b hb⟩;have hnd3:=List.nodup_append.1 hI3.nodup;obtain ⟨x',st3,g3,hG,h7,hvx⟩:=tc (w:=w') (res i) hM3 (by rw [hF3]; exact hvr) hnd3.1 (λb hb=>hfr b (List.mem_append.2 (.inl hb))) h6;obtain ⟨e1,e2⟩:=fj h7;refine ⟨g3,by rw [e1,e2]; exact ⟨hG.mem,hvx,((hE1.trans hE2).trans hE3).trans hG.ext,hG.tm.trans (ht3.trans hL1.tm)⟩,hX,hnd3.2.1,λb hb=>?_⟩;rw [e2];exact hG.fr b (hfr b (List.mem_append.2 (.inr hb))) (λh=>hnd3.2.2 b h b hb rfl)
def En.anewL(E:En)(g:Gh)(st:St)(w:World):En:={ w0:=w,X:=λk=>(∃ s,st.O s/\g.ob s=k)\/∃ r,st.L r/\(g.rw r).ownBlock=some k,F0:=g.F,lent:=E.lent,D:=E.D }
theorem R9(hS:iJ E g n st a w){k:Nat}(h:(E.anewL g st w).X k):E.w0.heap.size<=k\/E.X k:=by
 rcases h with ⟨s,hO,he⟩ | ⟨r,hL,he⟩
 ·exact he ▸ (TH hS hO).2
 ·exact (Mf hS hL he).2
theorem iJ.anewL(hS:iJ E g n st a w)(hsh:E.sh=false)(hpin:E.pin=none):iJ (E.anewL g st w) { g with dw:=w } n st a w:=by
 have hM:=hS.mem;obtain ⟨⟨hD,hdw,hgs⟩,hd0⟩:=hM.dep0;have hgsh:g.sh=false:=hgs.trans hsh;have hSD:vJ g.D g.dw w:=λk hk=>by
  rw [hD] at hk;obtain ⟨h1,h2,_⟩:=hd0 k hk;rw [hdw];rcases hM.frame k h1 h2 with h3 | ⟨h3,_⟩
  ·exact h3
  ·rw [hgsh] at h3; cases h3
 have hv:∀ {x v},VR w g st.O st.R x v->VR w { g with dw:=w } st.O st.R x v:=λh=>h.dw hgsh hSD;refine ⟨⟨λs cells h=>?_,hM.obne,λr x h=>?_,hM.rowne,hM.rowob,λk hk=>⟨(hM.F k hk).1,λ_=>.inl hk,.inl hk⟩,rfl,rfl,rfl,zWj _,λ_ _ _=>.inl rfl,hM.shp,⟨hD,rfl,hgsh⟩,λk hk=>?_⟩,
  hS.size,hS.defers,λi hi=>?_,hS.und,hS.lent,λ_ h=>(by cases h)⟩
 ·obtain ⟨arr,e,h1,h2,h3,h4,h5⟩:=hM.ob s cells h;have hO:st.O s:=by simp [St.O,h]
  exact ⟨arr,e,h1,h2,λj x hj=>by
   obtain ⟨h6,v,h7,h8⟩:=h3 j x hj;exact ⟨h6,v,h7,hv h8⟩,h4,.inr (.inl ⟨s,hO,rfl⟩)⟩
 ·have hr:=hM.row r x h
  cases x with
  | live e sz rows =>
   have hL:st.L r:=⟨e,sz,rows,h⟩;obtain ⟨inner,h1,h2,h3,h4⟩:=hr;exact ⟨inner,h1,h2,h3,λk hk=>⟨(h4 k hk).1,.inr (.inr ⟨r,hL,hk⟩)⟩⟩
  | frz sz rows=>exact hr
  | gone=>exact hr
 ·obtain ⟨h1,h2,_⟩:=hd0 k hk;refine ⟨zQj h1 hM.sizes,λhX=>?_,λh=>(by cases h)⟩;rcases R9 hS hX with h | h
  ·omega
  ·exact h2 h
 ·obtain ⟨v,h1,h2⟩:=hS.tm i hi;exact ⟨v,h1,hv h2⟩
structure Kl (E E':En):Prop where
 n0:E.w0.heap.size<=E'.w0.heap.size
 same:∀ k,k < E.w0.heap.size->¬ E.X k->¬ E'.X k/\E'.w0.heap[k]?=E.w0.heap[k]?
 F0:∀ k,E'.F0 k->(k < E.w0.heap.size->E.F0 k\/E.X k)/\(E.F0 k\/Wr E'.w0 k)
 fx:∀ k,E'.F0 k->¬ E'.X k
 os:E'.w0.os=E.w0.os
 tape:E'.w0.tape=E.w0.tape
 output:E'.w0.output=E.w0.output
 d:E'.D=E.D
 sh:E'.sh=false
 lent:E'.lent=E.lent
 pin:E'.pin=none
theorem Kl.anew(hS:iJ E g n st a w)(hsh:E.sh=false):Kl E (E.anewL g st w):=by
 have hM:=hS.mem;refine ⟨hM.sizes,λk h1 h2=>⟨λh=>?_,hS.still hsh h1 h2⟩,λk hk=>⟨(hM.F k hk).2.1,(hM.F k hk).2.2⟩,λk hk h=>?_,hM.os,hM.tape,hM.output,rfl,rfl,rfl,rfl⟩
 ·rcases R9 hS h with h | h
  ·omega
  ·exact h2 h
 ·rcases h with ⟨s,hO,he⟩ | ⟨r,hL,he⟩
  ·exact (hM.ob_nf hO).1 (he ▸ hk)
  ·exact (hM.row_nf hL he).1 hk
theorem iJ.home{E':En}(hK:Kl E E')(hsh:E.sh=false)(hpin:E.pin=none)(hd:∀ b,E.D b->b < E.w0.heap.size/\¬ E.X b)(hS:iJ E' g n st a w):iJ E { g with dw:=E.w0 } n st a w:=by
 have hM:=hS.mem;obtain ⟨⟨hD,hdw,hgs⟩,hd0⟩:=hM.dep0;have hgsh:g.sh=false:=hgs.trans hK.sh;have hSD:vJ g.D g.dw E.w0:=λk hk=>by
  rw [hD,hK.d] at hk;obtain ⟨h1,h2⟩:=hd k hk;rw [hdw,(hK.same k h1 h2).2]
 have hv:∀ {x v},VR w g st.O st.R x v->VR w { g with dw:=E.w0 } st.O st.R x v:=λh=>h.dw hgsh hSD;have hX:∀ {k},E'.w0.heap.size<=k\/E'.X k->E.w0.heap.size<=k\/E.X k:=λ{k} h=>by
  rcases h with h | h
  ·exact .inl (zWx hK.n0 h)
  ·by_cases h1:k < E.w0.heap.size
   ·by_cases h2:E.X k
    ·exact .inr h2
    ·exact absurd h (hK.same k h1 h2).1
   ·exact .inl (by omega)
 refine ⟨⟨λs cells h=>?_,hM.obne,λr x h=>?_,hM.rowne,hM.rowob,λk hk=>?_,hM.os.trans hK.os,hM.tape.trans hK.tape,hM.output.trans hK.output,zWx hK.n0 hM.sizes,λk h1 h2=>.inl ?_,hM.shp,⟨hD.trans hK.d,rfl,hgsh.trans hsh.symm⟩,λk hk=>?_⟩,
  hS.size,hS.defers,λi hi=>?_,hS.und,λs b h=>hS.lent s b (by rw [hK.lent]; exact h),λ_ h=>(by rw [hpin] at h; cases h)⟩
 ·obtain ⟨arr,e,h1,h2,h3,h4,h5⟩:=hM.ob s cells h;exact ⟨arr,e,h1,h2,λj x hj=>by
   obtain ⟨h6,v,h7,h8⟩:=h3 j x hj;exact ⟨h6,v,h7,hv h8⟩,h4,hX h5⟩
 ·have hr:=hM.row r x h
  cases x with
  | live e sz rows =>
   obtain ⟨inner,h1,h2,h3,h4⟩:=hr;exact ⟨inner,h1,h2,h3,λk hk=>⟨(h4 k hk).1,hX (h4 k hk).2⟩⟩
  | frz sz rows=>exact hr
  | gone=>exact hr
 ·obtain ⟨h1,h2,h3⟩:=hM.F k hk;refine ⟨h1,λhlt=>?_,?_⟩
  ·rcases h2 (zQj hlt hK.n0) with h | h
   ·exact (hK.F0 k h).1 hlt
   ·rcases hX (.inr h) with h | h
    ·omega
    ·exact .inr h
  ·rcases h3 with h | h
   ·rcases (hK.F0 k h).2 with h4 | ⟨arr,e,h4⟩
    ·exact .inl h4
    ·refine .inr ⟨arr,e,?_⟩;rw [hS.still hK.sh (Array.getElem?_eq_some_iff.1 h4).1 (hK.fx k h)];exact h4
   ·exact .inr h
 ·obtain ⟨h3,h5⟩:=hK.same k h1 h2;rw [hS.still hK.sh (zQj h1 hK.n0) h3,h5]
 ·obtain ⟨h1,h2⟩:=hd k hk;refine ⟨h1,h2,λh=>?_⟩;rw [hsh] at h; cases h
 ·obtain ⟨v,h1,h2⟩:=hS.tm i hi;exact ⟨v,h1,hv h2⟩
end
end Go.Tm
namespace Go.Tm
open Go.RowKit
abbrev ua:=Option Addr×Nat×Nat
abbrev hv(h:ua):Value:=.slice h.1 h.2.1 h.2.2
abbrev hT(h:ua):T:=.hdr h.1 h.2.1 h.2.2
def hB(h:ua):List Nat:=(hv h).ownBlock.toList
def VJ(x:List Int):List Value:=x.map (Value.int .u8)
inductive K where
 | none
 | inn (hs:List ua) (xs:List (List Int))
 | deep (h:ua) (xs:List (List Int))
 | hole (hs:List ua) (xs:List (List Int)) (i:Nat)
def Pf(e2:TypeId)(w:World)(hs:List ua)(xs:List (List Int)):Prop:=hs.length=xs.length/\∀ (i:Nat) (h:ua) (x:List Int),hs[i]?=some h->xs[i]?=some x->w.ownsRow 0 e2 1 (hv h) x.length (VJ x)
def Y(e e2:TypeId):K->World->List Nat->Prop
 | .none,_,Bs=>Bs=[]
 | .inn hs xs,w,Bs=>Pf e2 w hs xs/\Bs=hs.flatMap hB
 | .deep h xs,w,Bs=>∃ hs,Pf e2 w hs xs/\w.ownsRow 0 e 1 (hv h) hs.length (hs.map hv)/\Bs=hB h++hs.flatMap hB
 | .hole hs xs i,w,Bs=>(hs.length=xs.length/\∀ (j:Nat) (h:ua) (x:List Int),j≠i->hs[j]?=some h->xs[j]?=some x->w.ownsRow 0 e2 1 (hv h) x.length (VJ x))/\Bs=(hs.eraseIdx i).flatMap hB
theorem yL{w w':World}{base:Nat}{e:TypeId}{sz n:Nat}{v:Value}{xs:List Value}(h:w.ownsRow base e sz v n xs)(hs:∀ b,v.ownBlock=some b->w'.heap[b]?=w.heap[b]?):w'.ownsRow base e sz v n xs:=by
 refine ⟨h.1,?_⟩;rcases h.2 with h1 | ⟨g,cap,cur,hv,h2,h3,h4⟩
 ·exact .inl h1
 ·exact .inr ⟨g,cap,cur,hv,h2,by rw [hs g (by rw [hv]; rfl)]; exact h3,h4⟩
theorem kX{h:ua}{b:Nat}:b∈hB h↔(hv h).ownBlock=some b:=by unfold hB; simp
section
variable {e e2:TypeId} {w w':World}
theorem Pf.same{hs:List ua}{xs:List (List Int)}(h:Pf e2 w hs xs)(hB':∀ b∈hs.flatMap hB,w'.heap[b]?=w.heap[b]?):Pf e2 w' hs xs :=
 ⟨h.1,λi q x h1 h2=>yL (h.2 i q x h1 h2) λb hb=>hB' b (List.mem_flatMap.2 ⟨q,zQQ h1,kX.2 hb⟩)⟩
theorem Pf.lt{hs:List ua}{xs:List (List Int)}(h:Pf e2 w hs xs):∀ b∈hs.flatMap hB,b < w.heap.size:=λb hb=>by
 obtain ⟨q,hq,hb⟩:=List.mem_flatMap.1 hb;obtain ⟨i,hi⟩:=List.mem_iff_getElem?.1 hq;have hl:=(List.getElem?_eq_some_iff.1 hi).1;exact ((h.2 i q _ hi (sX (by rw [<- h.1]; exact hl))).lt b (kX.1 hb)).2
theorem DD{hs:List ua}{i b:Nat}:b∈(hs.eraseIdx i).flatMap hB↔∃ j h,j≠i/\hs[j]?=some h/\b∈hB h:=by
 simp only [List.mem_flatMap,List.mem_eraseIdx_iff_getElem?];constructor
 ·rintro ⟨h,⟨j,h1,h2⟩,h3⟩; exact ⟨j,h,h1,h2,h3⟩
 ·rintro ⟨j,h,h1,h2,h3⟩; exact ⟨h,⟨j,h1,h2⟩,h3⟩
theorem Y.lt:∀ {k:K} {Bs:List Nat},Y e e2 k w Bs->∀ b∈Bs,b < w.heap.size
 | .none,Bs,h=>λb hb=>by have:Bs=[]:=h; subst this; cases hb
 | .inn hs xs,Bs,h=>λb hb=>by obtain ⟨h1,rfl⟩:=h; exact h1.lt b hb
 | .deep q xs,Bs,h=>λb hb=>by
  obtain ⟨hs,h1,h2,rfl⟩:=h;rcases List.mem_append.1 hb with hb | hb
  ·exact (h2.lt b (kX.1 hb)).2
  ·exact h1.lt b hb
 | .hole hs xs i,Bs,h=>λb hb=>by
  obtain ⟨⟨h1,h2⟩,rfl⟩:=h;obtain ⟨j,q,h3,h4,h5⟩:=DD.1 hb;have hl:=(List.getElem?_eq_some_iff.1 h4).1;exact ((h2 j q _ h3 h4 (sX (by rw [<- h1]; exact hl))).lt b (kX.1 h5)).2
theorem Y.same:∀ {k:K} {Bs:List Nat},Y e e2 k w Bs->(∀ b∈Bs,w'.heap[b]?=w.heap[b]?)->Y e e2 k w' Bs
 | .none,Bs,h,_=>h
 | .inn hs xs,Bs,h,hs'=>by obtain ⟨h1,rfl⟩:=h; exact ⟨h1.same hs',rfl⟩
 | .deep q xs,Bs,h,hs'=>by
  obtain ⟨hs,h1,h2,rfl⟩:=h;exact ⟨hs,h1.same λb hb=>hs' b (List.mem_append.2 (.inr hb)),yL h2 λb hb=>hs' b (List.mem_append.2 (.inl (kX.2 hb))),rfl⟩
 | .hole hs xs i,Bs,h,hs'=>by
  obtain ⟨⟨h1,h2⟩,rfl⟩:=h;exact ⟨⟨h1,λj q x h3 h4 h5=>yL (h2 j q x h3 h4 h5) λb hb=>hs' b (DD.2 ⟨j,q,h3,h4,kX.2 hb⟩)⟩,rfl⟩
end
section
variable {P:Program} {E E0:En} {g:Gh} {st st':St} {a:Act} {w:World} {n:Nat} {ls:List Nat} {x y c:Code} {k:K} {e e2:TypeId} {Q:Exit->St->K->Prop}
def Sb(E0 E:En)(e e2:TypeId)(k:K):Prop:=∃ Bs,Y e e2 k E.w0 Bs/\Bs.Nodup/\∀ b∈Bs,(b < E.w0.heap.size/\¬ E.X b/\¬ E.F0 b/\¬ E.D b)/\(E0.w0.heap.size<=b\/E0.X b)
def Wd(P:Program)(n:Nat)(ls:List Nat)(E0:En)(e e2:TypeId)(c:Code)(Q:Exit->St->K->Prop)(st:St)(k:K):Prop :=
 ∀ (E:En) (g:Gh) (a:Act) (w:World),Qb P E ls->Kl E0 E->Sb E0 E e e2 k->iJ E g n st a w ->
  c.wp P (λx a' w'=>∃ E' g' st' k',Qb P E' ls/\Kl E0 E'/\Sb E0 E' e e2 k'/\iJ E' g' n st' a' w'/\Q x st' k') a w
def IN(N:St->K->Prop)(Q:Exit->St->K->Prop):Exit->St->K->Prop
 | .normal,st,k=>N st k
 | x,st,k=>Q x st k
def TI(id:Nat)(Q:Exit->St->K->Prop):Exit->St->K->Prop
 | .exit id',st,k=>bif zXZ id' id then Q .normal st k else Q (.exit id') st k
 | x,st,k=>Q x st k
theorem Sc{Q':Exit->St->Prop}(h:Wp P n ls c Q' st)(hQ:∀ x st',Q' x st'->Q x st' k):Wd P n ls E0 e e2 c Q st k:=λE g a w hE hK hB hS =>
 wp_mono (h E g a w hE hS) λx a' w' ⟨g',st',h1,h2⟩=>⟨E,g',st',k,hE,hK,hB,h1,hQ x st' h2⟩
theorem Wd.seq(h:Wd P n ls E0 e e2 x (IN (Wd P n ls E0 e e2 y Q) Q) st k):Wd P n ls E0 e e2 (.seq x y) Q st k :=
 λE g a w hE hK hB hS=>wp_seq (wp_mono (h E g a w hE hK hB hS) λx a' w' ⟨E',g',st',k',h1,h2,h3,h4,h5⟩=>by
  cases x with
  | normal=>exact h5 E' g' a' w' h1 h2 h3 h4
  | _=>exact ⟨E',g',st',k',h1,h2,h3,h4,h5⟩)
theorem Wd.cond{o:Operand}{q:Bool}(ho:st.eval o=some (.t (.bool q)))(ht:q=true->Wd P n ls E0 e e2 x Q st k)(hf:q=false->Wd P n ls E0 e e2 y Q st k):Wd P n ls E0 e e2 (.cond o x y) Q st k :=
 λE g a w hE hK hB hS=>by
  have hv:=bT hS ho;generalize hva:a.eval o=v at hv
  cases hv with
  | t x v hr =>
   cases hr
   refine wp_cond hva ?_
   cases q with
   | true=>exact ht rfl E g a w hE hK hB hS
   | false=>exact hf rfl E g a w hE hK hB hS
theorem Wd.block{id:Nat}(h:Wd P n ls E0 e e2 c (TI id Q) st k):Wd P n ls E0 e e2 (.block id c) Q st k :=
 λE g a w hE hK hB hS=>wp_block (wp_mono (h E g a w hE hK hB hS) λx a' w' ⟨E',g',st',k',h1,h2,h3,h4,h5⟩=>by
  cases x with
  | exit id' =>
   simp only [Exit.inBlock];simp only [TI] at h5
   split
   ·rename_i he;have he:id'=id:=by simpa using he
    subst he;rw [zZk] at h5;exact ⟨E',g',st',k',h1,h2,h3,h4,h5⟩
   ·rename_i he;have he:zXZ id' id=false:=by
     cases hb:zXZ id' id with
     | false=>rfl
     | true=>exact absurd (zWw hb) (by simpa using he)
    rw [he] at h5;exact ⟨E',g',st',k',h1,h2,h3,h4,h5⟩
  | _=>exact ⟨E',g',st',k',h1,h2,h3,h4,h5⟩)
theorem Wd.skip(h:Q .normal st k):Wd P n ls E0 e e2 .skip Q st k:=λE g a w hE hK hB hS=>wp_skip ⟨E,g,st,k,hE,hK,hB,hS,h⟩
theorem Wd.exit{id:Nat}(h:Q (.exit id) st k):Wd P n ls E0 e e2 (.exit id) Q st k:=λE g a w hE hK hB hS=>wp_exit ⟨E,g,st,k,hE,hK,hB,hS,h⟩
theorem Wd.ret(h:Q .ret st k):Wd P n ls E0 e e2 .ret Q st k:=λE g a w hE hK hB hS=>wp_ret ⟨E,g,st,k,hE,hK,hB,hS,h⟩
theorem Wd.mono{Q':Exit->St->K->Prop}(h:Wd P n ls E0 e e2 c Q st k)(hq:∀ x st k,Q x st k->Q' x st k):Wd P n ls E0 e e2 c Q' st k:=λE g a w hE hK hB hS =>
 wp_mono (h E g a w hE hK hB hS) λx a' w' ⟨E',g',st',k',h1,h2,h3,h4,h5⟩=>⟨E',g',st',k',h1,h2,h3,h4,hq x st' k' h5⟩
theorem Wd.le{st1:St}(hl:Le n ls st st1)(h:Wd P n ls E0 e e2 c Q st1 k):Wd P n ls E0 e e2 c Q st k:=λE g a w hE hK hB hS=>by
 obtain ⟨g',hS'⟩:=hl E g a w hE.1 hS;exact h E g' a w hE hK hB hS'
theorem Ve(R:St->K->Prop)(J:∀ s k,R s k->Wd P n ls E0 e e2 y Q s k)(h:Wd P n ls E0 e e2 x (IN R Q) st k):Wd P n ls E0 e e2 (.seq x y) Q st k:=Wd.seq (h.mono λx s k hq=>by
 cases x with
 | normal=>exact J s k hq
 | _=>exact hq)
def Us(P:Program)(n:Nat)(ls:List Nat)(E0:En)(e e2:TypeId)(c:Code)(Q:Exit->St->K->Prop):Nat->St->K->Prop
 | 0,_,_=>False
 | j+1,st,k=>Wd P n ls E0 e e2 c (IN (Us P n ls E0 e e2 c Q j) Q) st k
theorem Wd.loop{j:Nat}(h:Us P n ls E0 e e2 c Q j st k):Wd P n ls E0 e e2 (.loop c) Q st k:=by
 intro E g a w hE hK hB hS;refine Nu (k:=j) ?_
 induction j generalizing E st g a w k with
 | zero=>exact h.elim
 | succ j ih =>
  refine wp_mono (h E g a w hE hK hB hS) λx a' w' ⟨E',g',st',k',h1,h2,h3,h4,h5⟩=>?_
  cases x with
  | normal=>exact ih h5 E' g' a' w' h1 h2 h3 h4
  | _=>exact ⟨E',g',st',k',h1,h2,h3,h4,h5⟩
theorem Wd.L(R:Nat->St->K->Prop)(h0:∀ s k,¬ R 0 s k)(hs:∀ j s k,R (j+1) s k->Wd P n ls E0 e e2 x (IN (R j) Q) s k){j:Nat}(h:R j st k):Wd P n ls E0 e e2 (.loop x) Q st k:=by
 refine Wd.loop (j:=j) ?_
 induction j generalizing st k with
 | zero=>exact absurd h (h0 st k)
 | succ j ih =>
  refine (hs j st k h).mono λx s k hq=>?_
  cases x with
  | normal=>exact ih hq
  | _=>exact hq
end
end Go.Tm
namespace Go.Tm
open Go.RowKit
section
variable {P:Program} {E E0:En} {g:Gh} {st st':St} {a:Act} {w:World} {n:Nat} {ls:List Nat} {x y c:Code} {k k':K} {e e2:TypeId} {Q:Exit->St->K->Prop}
theorem Kl.refl(h1:∀ b,E0.F0 b->¬ E0.X b)(hsh:E0.sh=false)(hpin:E0.pin=none):Kl E0 E0 :=
 ⟨zWj _,λ_ _ h=>⟨h,rfl⟩,λ_ h=>⟨λ_=>.inl h,.inl h⟩,h1,rfl,rfl,rfl,rfl,hsh,rfl,hpin⟩
theorem Kl.trans{E1:En}(h:Kl E0 E)(q:Kl E E1):Kl E0 E1:=by
 refine ⟨zWx h.n0 q.n0,λb h1 h2=>?_,λb hb=>⟨λh1=>?_,?_⟩,q.fx,q.os.trans h.os,q.tape.trans h.tape,q.output.trans h.output,q.d.trans h.d,q.sh,q.lent.trans h.lent,q.pin⟩
 ·obtain ⟨h3,h4⟩:=h.same b h1 h2;obtain ⟨h5,h6⟩:=q.same b (zQj h1 h.n0) h3;exact ⟨h5,h6.trans h4⟩
 ·rcases (q.F0 b hb).1 (zQj h1 h.n0) with h3 | h3
  ·exact (h.F0 b h3).1 h1
  ·by_cases h4:E0.X b
   ·exact .inr h4
   ·exact absurd h3 (h.same b h1 h4).1
 ·rcases (q.F0 b hb).2 with h3 | h3
  ·rcases (h.F0 b h3).2 with h4 | ⟨arr,e,h4⟩
   ·exact .inl h4
   ·exact .inr ⟨arr,e,by rw [(q.same b (Array.getElem?_eq_some_iff.1 h4).1 (h.fx b h3)).2]; exact h4⟩
  ·exact .inr h3
theorem Qb.anew(hE:Qb P E ls)(hls:1∉ls)(hS:iJ E g n st a w)(hsh:E.sh=false):Qb P (E.anewL g st w) ls:=by
 have hT:=hE.2;obtain ⟨⟨fl,e1,e2,e3,e4⟩,_⟩:=hE;refine ⟨⟨fl,e1,e2,λv h=>(by cases h),λh=>absurd (by rw [e1]; exact List.mem_append_right _ h) hls⟩,⟨hS.mem.tbW (P:=P) (X:=λb=>(E.anewL g st w).X b\/((E.anewL g st w).sh=true/\(E.anewL g st w).D b)) λb h1 h2 _ h=>?_⟩⟩;rcases h with h | ⟨h,_⟩
 ·rcases R9 hS h with h | h
  ·omega
  ·exact h2 h
 ·cases h
structure U4 (g:Gh) (st:St) (b:Nat):Prop where
 F:¬ g.F b
 ob:∀ s,st.O s->g.ob s≠b
 row:∀ r,st.L r->(g.rw r).ownBlock≠some b
theorem Wd.anew(hls:1∉ls)(hE:Qb P E ls)(hK:Kl E0 E)(hS:iJ E g n st a w){Bs:List Nat}(hY:Y e e2 k w Bs)(hnd:Bs.Nodup)(hB:∀ b∈Bs,U4 g st b/\(E0.w0.heap.size<=b\/E0.X b))(hd:∀ b,E0.D b->b < E0.w0.heap.size/\¬ E0.X b) :
  Qb P (E.anewL g st w) ls/\Kl E0 (E.anewL g st w)/\Sb E0 (E.anewL g st w) e e2 k/\iJ (E.anewL g st w) { g with dw:=w } n st a w:=by
 refine ⟨hE.anew hls hS hK.sh,hK.trans (Kl.anew hS hK.sh),⟨Bs,hY,hnd,λb hb=>⟨⟨hY.lt b hb,λh=>?_,(hB b hb).1.F,λh=>?_⟩,(hB b hb).2⟩⟩,hS.anewL hK.sh hK.pin⟩
 ·rcases h with ⟨s,hO,he⟩ | ⟨r,hL,he⟩
  ·exact (hB b hb).1.ob s hO he
  ·exact (hB b hb).1.row r hL he
 ·have h2:E0.D b:=by rw [<- hK.d]; exact h
  have h3:=hd b h2;rcases (hB b hb).2 with h4 | h4
  ·omega
  ·exact h3.2 h4
theorem Sb.now(h:Sb E0 E e e2 k)(hK:Kl E0 E)(hS:iJ E g n st a w):∃ Bs,Y e e2 k w Bs/\Bs.Nodup/\∀ b∈Bs,U4 g st b/\(E0.w0.heap.size<=b\/E0.X b):=by
 obtain ⟨Bs,h1,h2,h3⟩:=h;refine ⟨Bs,h1.same λb hb=>hS.still hK.sh (h3 b hb).1.1 (h3 b hb).1.2.1,h2,λb hb=>⟨?_,(h3 b hb).2⟩⟩;have hU:=hS.unk (h3 b hb).1;exact ⟨hU.f,hU.o,hU.r⟩
def A.u0(r:Nat)(h:ua):A->A
 | .own q=>bif zXZ q r then .t (hT h) else .own q
 | x=>x
def A.u1(r:Nat)(h:ua):A->A
 | .agg l=>.agg (l.map (A.u0 r h))
 | x=>x.u0 r h
def A.u2(r:Nat)(h:ua):A->A
 | .tup l=>.tup (l.map (A.u1 r h))
 | x=>x.u1 r h
def St.unown(r:Nat)(h:ua)(st:St):St:=⟨λi=>(st.tm i).u2 r h,λs=>(st.ob s).map (List.map (A.u0 r h)),eG st.rw r (some .gone)⟩
section
variable {O R:Nat->Prop} {r:Nat} {h:ua} {z:A} {v:Value}
theorem VR.u0(he:g.rw r=hv h)(hx:VR w g O R z v):VR w g O R (z.u0 r h) v:=by
 unfold A.u0
 split
 ·rename_i q
  cases hq:zXZ q r with
  | true =>
   have:=zWw hq;subst this
   cases hx with
   | own r hr=>rw [he]; exact .t _ _ (.hdr _ _ _)
  | false=>exact hx
 ·exact hx
theorem VR.u1(he:g.rw r=hv h)(hx:VR w g O R z v):VR w g O R (z.u1 r h) v:=by
 unfold A.u1
 split
 ·rename_i l
  cases hx with
  | agg l vs hl hx =>
   exact .agg _ vs (by simpa using hl) λi x v h1 h2=>by
    rw [zQY] at h1;obtain ⟨y,h3,rfl⟩:=Option.map_eq_some_iff.1 h1;exact (hx i y v h3 h2).u0 he
 ·exact hx.u0 he
theorem VR.u2(he:g.rw r=hv h)(hx:VR w g O R z v):VR w g O R (z.u2 r h) v:=by
 unfold A.u2
 split
 ·rename_i l
  cases hx with
  | tup l vs hl hx =>
   exact .tup _ vs (by simpa using hl) λi x v h1 h2=>by
    rw [zQY] at h1;obtain ⟨y,h3,rfl⟩:=Option.map_eq_some_iff.1 h1;exact (hx i y v h3 h2).u1 he
 ·exact hx.u1 he
theorem UH(hz:z.one=true):(z.u0 r h).one=true:=by
 unfold A.u0
 split
 ·rename_i q
  cases zXZ q r <;> rfl
 ·exact hz
end
theorem iJ.unown(hS:iJ E g n st a w)(hpin:E.pin=none){r:Nat}{e' sz:Nat}{rows:List (List T)}(hr:st.rw r=some (.live e' sz rows)):∃ h:ua,g.rw r=hv h/\iJ E g n (st.unown r h) a w/\∀ b∈hB h,U4 g (st.unown r h) b/\b < w.heap.size/\(E.w0.heap.size<=b\/E.X b):=by
 have hM:=hS.mem;obtain ⟨A,N,C,hh⟩:=(hM.row r _ hr).slice;have he:g.rw r=hv (A,N,C):=hh;have hL0:st.L r:=⟨e',sz,rows,hr⟩;obtain ⟨hM1,hE1⟩:=hM.gone_row r _ hr;have hO:∀ s,(st.unown r (A,N,C)).O s↔st.O s:=λs=>by simp [St.O,St.unown]
 have hR:∀ q,(st.unown r (A,N,C)).R q↔({ st with rw:=eG st.rw r (some .gone) }:St).R q:=λq=>Iff.rfl;have hL:∀ q,(st.unown r (A,N,C)).L q↔({ st with rw:=eG st.rw r (some .gone) }:St).L q:=λq=>Iff.rfl;have hv':∀ {x v},VR w g st.O st.R x v->VR w g (st.unown r (A,N,C)).O (st.unown r (A,N,C)).R x v:=λh=>h.mono ⟨λ_ _=>rfl,λ_ h=>h,λs h=>⟨(hO s).2 h,rfl⟩,λq h=>⟨(hE1.R q h).1,rfl⟩,⟨rfl,rfl,rfl⟩,rfl,rfl⟩;refine ⟨(A,N,C),he,⟨⟨λs cells hs=>?_,λs s' h1 h2 h3=>hM.obne s s' ((hO s).1 h1) ((hO s').1 h2) h3,hM1.row,hM1.rowne,λq s h1 h2=>hM1.rowob q s h1 ((hO s).1 h2),hM.F,hM.os,hM.tape,hM.output,hM.sizes,hM.frame,hM.shp,hM.dep0⟩,hS.size,hS.defers,λi hi=>?_,λi hi=>?_,λs b hs=>?_,λv hv=>(by rw [hpin] at hv; cases hv)⟩,λb hb=>⟨⟨?_,λs hs h1=>?_,λq hq h1=>?_⟩,?_,?_⟩⟩
 ·simp only [St.unown,zXW] at hs;obtain ⟨cells0,h1,rfl⟩:=hs;obtain ⟨arr,e,h2,h3,h4,h5,h6⟩:=hM.ob s cells0 h1;refine ⟨arr,e,h2,by simpa using h3,λj x hj=>?_,h5,h6⟩;rw [zQY] at hj;obtain ⟨y,h7,rfl⟩:=Option.map_eq_some_iff.1 hj;obtain ⟨h8,v,h9,h10⟩:=h4 j y h7;exact ⟨UH h8,v,h9,(hv' h10).u0 he⟩
 ·obtain ⟨v,h1,h2⟩:=hS.tm i hi;exact ⟨v,h1,(hv' h2).u2 he⟩
 ·show (st.tm i).u2 r (A,N,C)=.undef;rw [hS.und i hi];rfl
 ·obtain ⟨h1,h2⟩:=hS.lent s b hs;exact ⟨(hO s).2 h1,h2⟩
 ·exact (hM.row_nf hL0 (he ▸ kX.1 hb)).1
 ·exact hM.rowob r s hL0 ((hO s).1 hs) (by rw [he,kX.1 hb,h1])
 ·rcases uG.1 hq with ⟨_,_,_,_,h3⟩ | ⟨h3,h4⟩
  ·cases h3
  ·exact h3 (hM.rowne q r b h4 hL0 h1 (he ▸ kX.1 hb))
 ·exact (Mf hS hL0 (he ▸ kX.1 hb)).1
 ·exact (Mf hS hL0 (he ▸ kX.1 hb)).2
theorem Kl.up(hK:Kl E0 E){b:Nat}(h:E.w0.heap.size<=b\/E.X b):E0.w0.heap.size<=b\/E0.X b:=by
 rcases h with h | h
 ·exact .inl (zWx hK.n0 h)
 ·by_cases h1:b < E0.w0.heap.size
  ·by_cases h2:E0.X b
   ·exact .inr h2
   ·exact absurd h (hK.same b h1 h2).1
  ·exact .inl (by omega)
inductive NN (e e2:TypeId):K->TypeId->List (List T)->(ua->K)->Prop
 | inn (hs:List ua) (xs:List (List Int)) (x:List Int):NN e e2 (.inn hs xs) e2 (x.map (aj .u8)) λh=>.inn (hs++[h]) (xs++[x])
 | out (hs:List ua) (xs:List (List Int)):NN e e2 (.inn hs xs) e (hs.map λh=>[hT h]) λh=>.deep h xs
theorem Lv{w0:World}{X F:Nat->Prop}{h:Value}{e':TypeId}{α:Type}{f:α->T}{gv:α->Value}{xs:List α}(hf:∀ x u,Rd w F (f x) u->u=gv x)(hr:lX w0 w X F h (.live e' 1 (xs.map λx=>[f x]))):w.ownsRow 0 e' 1 h xs.length (xs.map gv):=by
 obtain ⟨inner,h1,h2,h3,h4⟩:=hr;have hl:inner.length=xs.length:=by have:=h1.1; simpa using this
 have:inner=xs.map gv:=by
  refine List.ext_getElem? λi=>?_;rw [zQY]
  cases hx:xs[i]? with
  | none=>rw [Option.map_none,List.getElem?_eq_none_iff.2]; rw [hl]; exact List.getElem?_eq_none_iff.1 hx
  | some x =>
   obtain ⟨u,h5,h6⟩:=h3 i [f x] 0 (f x) (by simp [hx]) rfl;rw [zZq,zYQ] at h5;rw [h5,hf x u h6];rfl
 rw [this] at h1
 simpa using h1
theorem IP{e':TypeId}{rows:List (List T)}{kf:ua->K}{r:Nat}(hls:1∉ls)(hd:∀ b,E0.D b->b < E0.w0.heap.size/\¬ E0.X b)(hk:NN e e2 k e' rows kf)(hE:Qb P E ls)(hK:Kl E0 E)(hBe:Sb E0 E e e2 k)(hS:iJ E g n st a w)(hr:st.rw r=some (.live e' 1 rows)) :
  ∃ h,Qb P (E.anewL g (st.unown r h) w) ls/\Kl E0 (E.anewL g (st.unown r h) w)/\Sb E0 (E.anewL g (st.unown r h) w) e e2 (kf h)/\iJ (E.anewL g (st.unown r h) w) { g with dw:=w } n (st.unown r h) a w:=by
 obtain ⟨Bs,h1,h2,h3⟩:=hBe.now hK hS;obtain ⟨h,he,hS1,h4⟩:=hS.unown hK.pin hr;have hL0:st.L r:=⟨e',1,rows,hr⟩;have hrow:=hS.mem.row r _ hr;have hdis:∀ b∈Bs,b∉hB h:=λb hb hm=>(h3 b hb).1.row r hL0 (he ▸ kX.1 hm);have hApt:∀ b∈Bs,U4 g (st.unown r h) b:=λb hb=>by
  have h5:=(h3 b hb).1;refine ⟨h5.F,λs hs=>h5.ob s ?_,λq hq=>h5.row q ?_⟩
  ·simpa [St.O,St.unown] using hs
  ·rcases uG.1 hq with ⟨_,_,_,_,h6⟩ | ⟨_,h6⟩
   ·cases h6
   ·exact h6
 have hnh:(hB h).Nodup:=by unfold hB; cases (hv h).ownBlock <;> simp
 refine ⟨h,?_⟩
 cases hk with
 | inn hs xs x =>
  obtain ⟨h5,rfl⟩:=h1;have hown:=Lv (f:=λi=>T.int .u8 i) (gv:=Value.int .u8) (λx u h=>by cases h; rfl) (xs:=x) hrow;rw [he] at hown;refine Wd.anew (Bs:=hs.flatMap hB++hB h) hls hE hK hS1 ⟨⟨by simp [h5.1],λi q y h6 h7=>?_⟩,by simp⟩ (List.nodup_append.2 ⟨h2,hnh,λa ha b hb hab=>hdis a ha (hab ▸ hb)⟩) (λb hb=>?_) hd
  ·by_cases hi:i < hs.length
   ·rw [zQW hi] at h6;rw [zQW (by rw [<- h5.1]; exact hi)] at h7;exact h5.2 i q y h6 h7
   ·rw [zQX (by omega)] at h6;rw [zQX (by rw [<- h5.1]; omega),<- h5.1] at h7
    cases hj:i - hs.length with
    | zero =>
     rw [hj] at h6 h7;simp only [zWQ,Option.some.injEq] at h6 h7;subst h6 h7;exact hown
    | succ j=>rw [hj] at h6; simp at h6
  ·rcases List.mem_append.1 hb with hb | hb
   ·exact ⟨hApt b hb,(h3 b hb).2⟩
   ·exact ⟨(h4 b hb).1,hK.up (h4 b hb).2.2⟩
 | out hs xs =>
  obtain ⟨h5,rfl⟩:=h1;have hown:=Lv (f:=hT) (gv:=hv) (λx u h=>by cases h; rfl) (xs:=hs) hrow;rw [he] at hown;refine Wd.anew (Bs:=hB h++hs.flatMap hB) hls hE hK hS1 ⟨hs,h5,hown,rfl⟩ (List.nodup_append.2 ⟨hnh,h2,λa ha b hb hab=>hdis b hb (hab ▸ ha)⟩) (λb hb=>?_) hd;rcases List.mem_append.1 hb with hb | hb
  ·exact ⟨(h4 b hb).1,hK.up (h4 b hb).2.2⟩
  ·exact ⟨hApt b hb,(h3 b hb).2⟩
end
end Go.Tm
namespace Go.Tm
open Go.RowKit
section
variable {P:Program} {E E0:En} {g:Gh} {st st':St} {a:Act} {w:World} {n:Nat} {ls:List Nat} {x y c:Code} {k:K} {e e2:TypeId} {Q:Exit->St->K->Prop} {N:St->K->Prop}
theorem mC(h:N st k):IN N Q .normal st k:=h
theorem Se{i:Nat}(h:Q (.exit i) st k):IN N Q (.exit i) st k:=h
theorem wD{id:Nat}(h:Q .normal st k):TI id Q .normal st k:=h
theorem Vf{id:Nat}(h:Q .normal st k):TI id Q (.exit id) st k:=by
 show (bif zXZ id id then Q .normal st k else Q (.exit id) st k);rw [zZk];exact h
theorem Wd.of(h:Wp P n ls c (λz s=>Q z s k) st):Wd P n ls E0 e e2 c Q st k:=Sc h λ_ _ h=>h
theorem Wd.sw(h:Wp P n ls x (λz s=>IN (Wd P n ls E0 e e2 y Q) Q z s k) st):Wd P n ls E0 e e2 (.seq x y) Q st k:=Wd.seq (Wd.of h)
theorem xI{α:Type}{o:Operand}{b:Bool}{e1 e3 r:α}(h:(bif b then e1 else e3)=r)(ht:e1=r->Wd P n ls E0 e e2 x Q st k)(hf:e3=r->Wd P n ls E0 e e2 y Q st k)(ho:st.eval o=some (.t (.bool b)):=by kernel_rfl):Wd P n ls E0 e e2 (.cond o x y) Q st k :=
 Wd.cond ho (λhc=>ht (O6 h hc)) (λhc=>hf (O7 h hc))
theorem Vg{id:Nat}{ops:Array Oper}(h:ae P (ff []) (bp []) ops ops.toList st λs=>Q .normal s k)(hd:ops.toList.all (mT n)=true:=by kernel_rfl):Wd P n ls E0 e e2 (.region id ops false) Q st k :=
 Wd.of (yH (ff []) (bp []) hd h)
theorem nZ{id:Nat}{ops:Array Oper}(h:ae P (ff []) (bp []) ops ops.toList st λs=>Wd P n ls E0 e e2 y Q s k)(hd:ops.toList.all (mT n)=true:=by kernel_rfl):Wd P n ls E0 e e2 (.seq (.region id ops false) y) Q st k :=
 Wd.sw (yH (ff []) (bp []) hd h)
theorem Lw{id:Nat}{ops:Array Oper}(h:Wd P n ls E0 e e2 y Q (St.or (qX P (bp []) ops ops.toList st)) k)(h1:(qX P (bp []) ops ops.toList st).isSome=true:=by kernel_rfl)(hd:ops.toList.all (mT n)=true:=by kernel_rfl):Wd P n ls E0 e e2 (.seq (.region id ops false) y) Q st k :=
 nZ (ae.all h1 h) hd
theorem TJ(h:Wd P n ls E0 e e2 c Q st (.inn [] [])):Wd P n ls E0 e e2 c Q st .none:=λE g a w hE hK hB hS=>h E g a w hE hK (by
 obtain ⟨Bs,h1,h2,h3⟩:=hB;have h1:Bs=[]:=h1;subst h1;exact ⟨[],⟨⟨rfl,λi q y h6 h7=>(by simp at h6)⟩,rfl⟩,h2,h3⟩) hS
structure Q5 (P:Program) (E0:En) (ls:List Nat):Prop where
 tb:Kh P E0.w0 E0.X
 d:∀ b,E0.D b->b < E0.w0.heap.size/\¬ E0.X b
 one:1∉ls
theorem Wd.drop{e':TypeId}{rows:List (List T)}{kf:ua->K}(r:Nat)(h0:Q5 P E0 ls)(hk:NN e e2 k e' rows kf)(h:∀ q,Wd P n ls E0 e e2 c Q (st.unown r q) (kf q))(hr:st.rw r=some (.live e' 1 rows):=by kernel_rfl):Wd P n ls E0 e e2 c Q st k:=λE g a w hE hK hB hS=>by
 obtain ⟨q,h1,h2,h3,h4⟩:=IP h0.one h0.d hk hE hK hB hS hr;exact h q _ _ _ _ h1 h2 h3 h4
theorem NO{p:Nat->Bool}{ρ:Nat->eh}{ops:Array Oper}{l2:List Oper}{j:Nat}(hd:ops.toList.all (mT n)=true)(hl:∀ i,l2[i]?=ops[j+i]?)(hE:Qb P E ls)(hK:Kl E0 E)(hB:Sb E0 E e e2 k)(hS:iJ E g n st a w)
  (h:ae P p ρ ops l2 st λs=>Q .normal s k) :
  wpOps P ops (λx a' w'=>∃ E' g' st' k',Qb P E' ls/\Kl E0 E'/\Sb E0 E' e e2 k'/\iJ E' g' n st' a' w'/\Q x st' k') (zWh j l2.length) a w:=by
 obtain ⟨st3,hr,hw⟩:=h;have:=hE.2;have key:=H3 (P:=P) (l2:=[]) (Q:=λx a' w'=>∃ E' g' st' k',Qb P E' ls/\Kl E0 E'/\Sb E0 E' e e2 k'/\iJ E' g' n st' a' w'/\Q x st' k')
  (H4 hd) hS (uS hl hr) λg3 a3 w3 hS3=>⟨E,g3,st3,k,hE,hK,hB,hS3,hw⟩
 rwa [zWY] at key
theorem UI{p:Nat->Bool}{ρ:Nat->eh}{ops:Array Oper}{id:Nat}{e':TypeId}(j r:Nat)(h0:Q5 P E0 ls)
  (h:ae P p ρ ops (ops.toList.take j) st λs=>∃ rows kf,s.rw r=some (.live e' 1 rows)/\NN e e2 k e' rows kf/\∀ q,ae P p ρ ops (ops.toList.drop j) (s.unown r q) λs3=>Q .normal s3 (kf q))
  (hd:ops.toList.all (mT n)=true:=by kernel_rfl) (hj:Nat.ble j ops.size=true:=by kernel_rfl):Wd P n ls E0 e e2 (.region id ops false) Q st k:=λE g a w hE hK hB hS=>by
 have:=hE.2;obtain ⟨st1,h1,rows,kf,h2,h3,h4⟩:=h;have hj:=Nat.le_of_ble_eq_true hj;have hrange:zXQ ops.size=zWh 0 (ops.toList.take j).length++zWh j (ops.toList.drop j).length:=by
  have e1:(ops.toList.take j).length=j:=by simp; omega
  have e2:(ops.toList.drop j).length=ops.size - j:=by simp
  rw [e1,e2,zXJ];have:=zVV (s:=0) (m:=j) (n:=ops.size - j);rw [zWZ] at this;rw [this,show j+(ops.size - j)=ops.size by omega]
 refine wp_region ?_;rw [hrange];refine H3 (p:=p) (H4 hd) hS (NL (zXH j ops.toList).symm h1) λg1 a1 w1 hS1=>?_;obtain ⟨q,h5,h6,h7,h8⟩:=IP h0.one h0.d h3 hE hK hB hS1 h2;exact NO hd (λi=>by rw [zQq]; simp) h5 h6 h7 h8 (h4 q)
theorem Qh{ι:Type}{p:Nat->Bool}{ρ:Nat->eh}{ops:Array Oper}{id fid:Nat}{vs:List V}{res:ι->V}{outs:ι->List (List C)}{X:ι->World->List Nat->Prop}{kf:ι->K}(h0:Q5 P E0 ls)(m:Bool)(j d:Nat)(az:List A)(hc:wC P fid vs res outs X)(hX:∀ i w Bs,X i w Bs->Y e e2 (kf i) w Bs)
  (hk:∀ i,ae P p ρ ops (ops.toList.drop (j+1)) (Uq m p d az (res i) (outs i) (rj P ρ ops j ops.toList st)) λst3=>Q .normal st3 (kf i))
  (hd:ops.toList.all (mT n)=true:=by kernel_rfl) (h1:(qX P ρ ops (ops.toList.take j) st).isSome=true:=by kernel_rfl) (h2:Cj P ρ ops (rj P ρ ops j ops.toList st) (ops.toList.drop j)=some (fid,az,d):=by kernel_rfl) (hg:((ops[j]?).bind λo=>o.guard).isNone=true:=by kernel_rfl)
  (h3:((kc m p az MA.ret).run (rj P ρ ops j ops.toList st)).map Prod.fst=some vs:=by kernel_rfl)
  (h4:∀ i,((dO d (d8 az) (outs i) (V.toA d (fh d 0) (res i) MA.ret)).run (H0 ((kc m p az MA.ret).run (rj P ρ ops j ops.toList st)))).isSome=true:=by intro i; kernel_rfl):Wd P n ls E0 e e2 (.region id ops false) Q st .none:=by
 intro E g a w hE hK hBe hS;have hT:=hE.2;obtain ⟨o,l',xf,args,ts,bz,caps,hl,hgw,hfit,hop,hdst,hxf,kT,haz⟩:=wB h2;simp only at haz hdst;have hko:ops[j]?=some o:=by
  have:=congrArg (λl=>l[0]?) hl
  simpa using this
 have hdrop:ops.toList.drop (j+1)=l':=by
  have h1:=congrArg (List.drop 1) hl;rw [zZJ] at h1;exact h1
 have hlen:ops.size=j+1+l'.length:=by
  have:=congrArg zYH hl;simp at this;omega
 have hrange:zXQ ops.size=zWh 0 (ops.toList.take j).length++j :: zWh (j+1) l'.length:=by
  have e:(ops.toList.take j).length=j:=by simp; omega
  rw [e,zXJ,hlen,show j+1+l'.length=j+(1+l'.length) by omega,<- zVV,zWZ,Nat.add_comm 1,zYw]
 refine wp_region ?_;rw [hrange];obtain ⟨st1,hst1⟩:=Option.isSome_iff_exists.1 h1;have hst:rj P ρ ops j ops.toList st=st1:=by unfold rj; rw [hst1]; rfl
 rw [hst] at h3 h4 hxf kT hk;refine H3 (p:=p) (H4 hd) hS (NL (zXH j ops.toList).symm (xG hst1)) λg1 a1 w1 hS1=>?_;rw [wpOps_cons];unfold wpOp;rw [hko];simp only;have hgn:o.guard=none:=by
  rw [hko] at hg
  simpa using hg
 rw [show Region.wanted o (yielded ops a1.tmps)=true by simp [Region.wanted,hgn],if_pos rfl];obtain ⟨⟨vs',st2⟩,hp,hvs⟩:=Option.map_eq_some_iff.1 h3;simp only at hvs;subst hvs;rw [hp] at h4;have hrs:∀ i,(dO d (d8 az) (outs i) (V.toA d (fh d 0) (res i) MA.ret)).run st2=some (Un ((dO d (d8 az) (outs i) (V.toA d (fh d 0) (res i) MA.ret)).run st2),H0 ((dO d (d8 az) (outs i) (V.toA d (fh d 0) (res i) MA.ret)).run st2)):=λi=>by
  obtain ⟨q,hq⟩:=Option.isSome_iff_exists.1 (h4 i);have hq':(dO d (d8 az) (outs i) (V.toA d (fh d 0) (res i) MA.ret)).run st2=some q:=hq;rw [hq'];rfl
 subst haz;refine .inl (NM hS1 hop hxf kT hp hc hrs _ _ λv w' ⟨i,Bs,g',hA,hXi,hnd,hB⟩=>?_);have hS2:=hS1.put hA (Iy (H4 hd _ _ hko));rw [hdst] at hS2 ⊢;have hk':=hk i;unfold Uq at hk';rw [hp,hdrop] at hk';obtain ⟨q1,q2,q3,q4⟩:=Wd.anew (e:=e) (e2:=e2) (k:=kf i) h0.one hE hK hS2 (hX i w' Bs hXi) hnd (λb hb=>⟨⟨(hB b hb).F,(hB b hb).ob,(hB b hb).row⟩,hK.up (hB b hb).X⟩) h0.d;refine NO (p:=p) (ρ:=ρ) hd (λi=>?_) q1 q2 q3 q4 hk';rw [<- hdrop,zQq];simp
end
end Go.Tm
namespace Go.Tm
open Go.RowKit
theorem Ko{ι:Type}{P:Program}{fn:Func}{c:Code}{f:FuncId}{args:List V}{az:List A}{st0:St}{m:Bool}{res:ι->V}{outs:ι->List (List C)}{X:ι->World->List Nat->Prop}(e e2:TypeId)
  (hf:P.funcs[f]?=some fn) (hb:fn.body=some c) (hnm:(fn.name == "runtime.NumGoroutine")=false) (hle:az.length<=fn.ntmps) (ht:tv fn.ntmps fn=true)
  (ha:(nY 0 args MA.ret).run dD=some (az,st0)) (hl:ij 0 args az=true) (hone:1∉eU 0 args)
  (h:∀ E0,Q5 P E0 (eU 0 args)->Wd P fn.ntmps (eU 0 args) E0 e e2 c (λz s k=>∃ i,xF P m fn args (res i) (outs i) z s/\∀ w Bs,Y e e2 k w Bs->X i w Bs) (gw az st0) .none):wC P f args res outs X:=by
 refine ⟨⟨fn,hf,by simp [hb],hnm⟩,λw F vs bs hF hVV hnd hnf htb=>?_⟩
 let E:En:={ w0:=w,X:=λb=>b∈bs,F0:=F,lent:=kW 0 args vs }
 let g0:Gh:={ F:=F,ob:=λ_=>0,rw:=λ_=>.nilFunc,dw:=w }
 have hM0:fi E g0 dD w:=⟨λs cells h=>(by cases h),λs s' h=>(by cases h),λr x h=>(by cases h),λr r' b h=>(by obtain ⟨_,_,_,h⟩:=h; cases h),λr s h=>(by obtain ⟨_,_,_,h⟩:=h; cases h),
  λb hb=>⟨hF b hb,λ_=>.inl hb,.inl hb⟩,rfl,rfl,rfl,zWj _,λ_ _ _=>.inl rfl,λ_ h=>h.elim,⟨rfl,rfl,rfl⟩,λ_ h=>h.elim⟩
 obtain ⟨az',st1,g1,hG,h1,hlen,hx⟩:=A5 args hM0 hVV hnd (λb hb=>⟨hnf b hb,λs hs=>(by cases hs),λr hr=>(by obtain ⟨_,_,_,h⟩:=hr; cases h),.inr hb⟩) ha;obtain ⟨rfl,rfl⟩:=fj h1;have hM1:fi E g1 (gw az st0) w:=⟨hG.mem.ob,hG.mem.obne,hG.mem.row,hG.mem.rowne,hG.mem.rowob,hG.mem.F,hG.mem.os,hG.mem.tape,hG.mem.output,hG.mem.sizes,hG.mem.frame,hG.mem.shp,hG.mem.dep0⟩;obtain ⟨hl1,hl2⟩:=xE hl hVV hlen hx;have hS:iJ E g1 fn.ntmps (gw az st0) { tmps:=vs.toArray++zZx (fn.ntmps - vs.toArray.size) undef,defers:=[] } w:=by
  refine ⟨hM1,by simp; omega,rfl,λi hi=>?_,λi hi=>?_,hl1,λ_ h=>(by cases h)⟩
  ·show ∃ v,_/\VR w g1 st0.O st0.R (match az[i]? with | some a=>a | none=>.undef) v
   cases hai:az[i]? with
   | some a =>
    obtain ⟨u,hu,hr⟩:=hx i a hai;have hlt:i < vs.length:=(List.getElem?_eq_some_iff.1 hu).1;exact ⟨u,by rw [zZQ (by simpa using hlt)]; simpa using hu,hr⟩
   | none =>
    have hge:az.length<=i:=List.getElem?_eq_none_iff.1 hai;refine ⟨undef,?_,.undef _⟩;rw [zYj (by simpa [<- hlen] using hge)];rw [zZV,if_pos (by simp only [zYy]; omega)]
  ·show (match az[i]? with | some a=>a | none=>.undef)=A.undef;rw [List.getElem?_eq_none_iff.2 (by omega)]
 have hK0:Kl E E:=Kl.refl (λb hb hx=>hnf b hx hb) rfl rfl;have hB0:Sb E E e e2 .none:=⟨[],rfl,List.nodup_nil,λb hb=>(by cases hb)⟩;refine calls_of_wp hf hb (wp_mono (h E ⟨htb,λb hb=>hb.elim,hone⟩ E g1 _ w ⟨⟨[],by rw [zWY]; exact (oI _ _ _).symm,E6 _ _ _,λ_ h=>(by cases h),λh=>(by cases h)⟩,⟨htb.mono λb h=>h.elim id λh=>(by cases h.1)⟩⟩ hK0 hB0 hS) λz a' w' ⟨E',g',st',k',_,hK,hBe,hS2,i,hR,hX⟩=>?_);obtain ⟨Bs,hY,hBn,hBs⟩:=hBe.now hK hS2;have hS':=hS2.home hK rfl rfl (λb hb=>hb.elim);obtain ⟨he,l,st2,res0,outs0,hres,hrun,hvle,hole⟩:=hR;have hfin:a'.defers=[]/\∃ v,(results fn a'.tmps).run P w'=.ok v w'/\Ur w F vs bs args res outs X (.returned v) w':=by
  refine ⟨hS'.defers,?_⟩;obtain ⟨v,hrv,hvv⟩:=HZ hS' hres ht;refine ⟨v,hrv,?_⟩;have hM':=hS'.mem;obtain ⟨os,st3,g3,bo,hM3,hE3,hL3,h3,hO,hT3⟩:=xD (w:=w') args hM' (us:=vs) (hVV.len.symm) (λj c hj=>by
   obtain ⟨b,h5,h6⟩:=hl2 j c hj;rw [(hS'.lent _ _ h6).2];exact h5) hrun
  obtain ⟨c',st4,g4,bv,hM4,hE4,hL4,h4,hv4,hT4⟩:=Dx hM3 (hvv.mono hE3) h3;obtain ⟨h5,rfl⟩:=fj h4;injection h5 with h5 h6
  subst h5 h6;have hT:=hT3.app hM' hL3 hT4 hL4;have hL:=hL3.trans hL4;have hof:∀ b∈bo++bv,w.heap.size<=b\/b∈bs:=λb hb=>by
   rcases hT.of b hb with ⟨r,⟨e,sz,rows,h7⟩,_,h8⟩ | ⟨s,⟨c,cs,h7⟩,_,h8⟩
   ·obtain ⟨_,_,_,_,h9⟩:=hM'.row r _ h7;exact (h9 b h8).2
   ·obtain ⟨_,_,_,_,_,_,h9⟩:=hM'.ob s _ h7;rw [h8] at h9;exact h9
  have hnF:∀ b∈bo++bv,¬ (g4.F b\/F b):=λb hb h=>by
   rcases h with h | h
   ·exact hT.nf b hb h
   ·rcases hof b hb with h7 | h7
    ·have:=hF b h; omega
    ·exact hnf b h7 h
  have hBnF:∀ b∈Bs,¬ (g4.F b\/F b):=λb hb h=>by
   rcases h with h | h
   ·rcases hL.F b h with h7 | ⟨r,h7,_,h8⟩
    ·exact (hBs b hb).1.F h7
    ·exact (hBs b hb).1.row r h7 h8
   ·rcases (hBs b hb).2 with h7 | h7
    ·exact absurd (hF b h) (by show ¬ b < w.heap.size; have:w.heap.size<=b:=h7; omega)
    ·exact hnf b h7 h
  have hdis:∀ b∈bo++bv,b∉Bs:=λb hb hm=>by
   rcases hT.of b hb with ⟨r,h7,_,h8⟩ | ⟨s,⟨c,cs,h7⟩,_,h8⟩
   ·exact (hBs b hm).1.row r h7 h8
   ·exact (hBs b hm).1.ob s (by simp [St.O,h7]) h8
  have hmem:∀ b,b∈bv++bo->b∈bo++bv:=λb hb=>by
   rcases List.mem_append.1 hb with h | h <;> simp [h]
  refine ⟨i,v,λb=>g4.F b\/F b,bv,bo,Bs,rfl,⟨hM4.os,hM4.tape,hM4.output,hM4.sizes⟩,λb hb hbs=>hM4.frm rfl b hb hbs,λb h=>.inr h,λb h=>?_,hvle.vv (hv4.mono (λ_ _=>rfl) (λ_ h=>.inl h) (λ_ _=>rfl)),IB (hO.mono (λb h=>.inl (hE4.F b h))) hole,?_,λb hb=>?_,hX w' Bs hY⟩
  ·rcases h with h | h
   ·exact hM4.F b h
   ·exact ⟨zQj (hF b h) hM4.sizes,λ_=>.inl h,.inl h⟩
  ·have:=hT.nodup;rw [zXy] at this ⊢;refine ⟨List.nodup_append.2 ⟨this.2.1,this.1,λx hx y hy he=>this.2.2 y hy x hx he.symm⟩,hBn,λx hx y hy he=>hdis x (hmem x hx) (he ▸ hy)⟩
  ·rcases List.mem_append.1 hb with hb | hb
   ·exact ⟨hnF b (hmem b hb),hof b (hmem b hb)⟩
   ·exact ⟨hBnF b hb,(hBs b hb).2⟩
 rcases he with rfl | rfl
 ·exact hfin
 ·exact hfin
theorem Vh{ι:Type}{P:Program}{f:FuncId}{c:Code}{args:List V}{res:ι->V}{outs:ι->List (List C)}{X:ι->World->List Nat->Prop}(fn:Func)(m:Bool)(e e2:TypeId)
  (h:∀ E0,Q5 P E0 (eU 0 args)->Wd P fn.ntmps (eU 0 args) E0 e e2 c (λz s k=>∃ i,xF P m fn args (res i) (outs i) z s/\∀ w Bs,Y e e2 k w Bs->X i w Bs) (gw ((((nY 0 args MA.ret).run dD).map Prod.fst).getD []) (H0 ((nY 0 args MA.ret).run dD))) .none)
  (hb:fn.body=some c:=by rfl) (hf:P.funcs[f]?=some fn:=by kernel_rfl) (hnm:(fn.name == "runtime.NumGoroutine")=false:=by kernel_rfl) (hle:Nat.ble ((((nY 0 args MA.ret).run dD).map Prod.fst).getD []).length fn.ntmps=true:=by kernel_rfl) (ht:tv fn.ntmps fn=true:=by kernel_rfl)
  (ha:((nY 0 args MA.ret).run dD).isSome=true:=by kernel_rfl) (hl:ij 0 args ((((nY 0 args MA.ret).run dD).map Prod.fst).getD [])=true:=by kernel_rfl) (hone:(eU 0 args).all (λi=>!zXZ i 1)=true:=by kernel_rfl):wC P f args res outs X:=by
 have hone:1∉eU 0 args:=λh=>by have:=List.all_eq_true.1 hone 1 h; simp at this
 obtain ⟨⟨az,st0⟩,h1⟩:=Option.isSome_iff_exists.1 ha;refine Ko (m:=m) (az:=az) (st0:=st0) e e2 hf hb hnm (by simpa [h1] using hle) ht h1 (by simpa [h1] using hl) hone ?_;rw [h1] at h;exact h
def Ck(xs:List (List Int)):T:=.sl 1 (xs.map λx=>[.sl 1 (x.map (aj .u8))])
theorem Pg{w:World}{F:Nat->Prop}{e:TypeId}{α:Type}{h:ua}{xs:List α}{f:α->T}{gv:α->Value}(ho:w.ownsRow 0 e 1 (hv h) xs.length (xs.map gv))(hF:∀ b∈hB h,F b)(hr:∀ x∈xs,Rd w F (f x) (gv x)):Rd w F (.sl 1 (xs.map λx=>[f x])) (hv h):=by
 obtain ⟨h1,h2⟩:=ho;rcases h2 with ⟨h3,h4⟩ | ⟨g,cap,cur,h3,_,h5,h6,h7,h8,h9⟩
 ·have:xs=[]:=r0 h4;subst this;unfold hv at h3 ⊢;rw [h3];exact .sl0 _ _ _ λ_=>rfl
 ·unfold hv at h3 ⊢;rw [h3];have:=Rd.sl (w:=w) (F:=F) 1 (xs.map λx=>[f x]) g 0 cap (λi _=>(xs.map gv)[i]?.getD default) (by simpa using h6) (hF g (kX.2 (by unfold hv; rw [h3]; rfl))) (λi row hi=>by
    rw [zQY] at hi;obtain ⟨x,_,rfl⟩:=Option.map_eq_some_iff.1 hi;rfl)
   (λi row j x hi hj=>by
    rw [zQY] at hi;obtain ⟨y,hy,rfl⟩:=Option.map_eq_some_iff.1 hi
    cases j with
    | succ j=>simp at hj
    | zero =>
     have h10:(xs.map gv)[i]?=some (gv y):=by rw [zQY,hy]; rfl
     have h11:=h10;rw [<- h9,zQx] at h11
     split at h11
     ·simp only [World.cell?,h5,zZq,zWZ,zYQ,h10,zYq]
      simpa using h11
     ·cases h11)
   (λi row j x hi hj=>by
    rw [zQY] at hi;obtain ⟨y,hy,rfl⟩:=Option.map_eq_some_iff.1 hi
    cases j with
    | succ j=>simp at hj
    | zero =>
     simp only [zWQ,Option.some.injEq] at hj;subst hj;have h10:(xs.map gv)[i]?=some (gv y):=by rw [zQY,hy]; rfl
     simp only [h10,zYq];exact hr y (zQQ hy))
  simpa using this
theorem Y.rd{w:World}{F:Nat->Prop}{e e2:TypeId}{h:ua}{xs:List (List Int)}{Bs:List Nat}(hY:Y e e2 (.deep h xs) w Bs)(hF:∀ b∈Bs,F b):Rd w F (Ck xs) (hv h):=by
 obtain ⟨hs,h1,h2,rfl⟩:=hY;have hlen:=h1.1
 -- both lists side by side
 have key:Rd w F (.sl 1 ((hs.zip xs).map λq=>[.sl 1 (q.2.map (aj .u8))])) (hv h):=by
  refine Pg (e:=e) (gv:=λq=>hv q.1) ?_ (λb hb=>hF b (List.mem_append.2 (.inl hb))) λq hq=>?_
  ·have e1:(hs.zip xs).map (λq=>hv q.1)=hs.map hv:=by
    rw [show (hs.zip xs).map (λq=>hv q.1)=((hs.zip xs).map Prod.fst).map hv by rw [zZw]; rfl,List.map_fst_zip (by omega)]
   rw [e1]
   simpa [hlen] using h2
  ·obtain ⟨i,hi⟩:=List.mem_iff_getElem?.1 hq;rw [List.getElem?_zip_eq_some] at hi;have h3:=h1.2 i q.1 q.2 hi.1 hi.2;exact Pg (e:=e2) (f:=λn=>T.int .u8 n) (gv:=Value.int .u8) h3 (λb hb=>hF b (List.mem_append.2 (.inr (List.mem_flatMap.2 ⟨q.1,zQQ hi.1,hb⟩)))) λx _=>.int _ _
 have e2:(hs.zip xs).map (λq=>[T.sl 1 (q.2.map (aj .u8))])=xs.map λx=>[T.sl 1 (x.map (aj .u8))]:=by
  have:(hs.zip xs).map Prod.snd=xs:=List.map_snd_zip (by omega)
  conv=>rhs; rw [<- this]
  rw [zZw];rfl
 rw [e2] at key;exact key
end Go.Tm
namespace Go.Tm
open Go.RowKit
def St.cv(d0:Nat)(st:St):St:={ st with tm:=eG st.tm d0 (.own PR) }
section
variable {P:Program} {E:En} [Tb P E] {g:Gh} {st st' b c:St} {a:Act} {w:World} {p:Nat->Bool} {ρ:Nat->eh} {ops:Array Oper} {n:Nat} {j0 d0:Nat} {h:ua} {o0:Oper}
theorem qf.cv{i:Nat}(hs:qf P p ρ ops i b c)(ht:∀ o,ops[i]?=some o->d0∉yF ops o/\o.dst≠some d0):qf P p ρ ops i (b.cv d0) (c.cv d0)/\c.tm d0=b.tm d0:=by
 unfold qf at *
 cases ho:ops[i]? with
 | none =>
  rw [ho] at hs;have hs:c=b:=hs;subst hs;exact ⟨rfl,rfl⟩
 | some o =>
  rw [ho] at hs;obtain ⟨h1,h2⟩:=ht o ho;obtain ⟨hoff,hloc⟩:=wA.loc hs;obtain ⟨c',e1,e2,e3,e4⟩:=hloc (b.cv d0) (λt ht2=>ci _ _ _ _ (λhe=>by subst he; exact h1 (Du ht2))) (λt ht2=>ci _ _ _ _ (λhe=>by subst he; exact h1 (List.mem_append.2 (.inl ht2)))) ⟨λs hs=>rfl,λs hs=>rfl⟩;have hE1:=HT p ρ o;have hcc:c'=c.cv d0:=by
   refine St.ext (funext λt=>?_) (funext λs=>?_) (funext λr=>?_)
   ·by_cases h2t:o.dst=some t
    ·rw [e2 t h2t];show c.tm t=eG c.tm d0 _ t;exact (ci _ _ _ _ (λhe=>by subst he; exact h2 h2t)).symm
    ·rw [e3.1 t h2t];show eG b.tm d0 _ t=eG c.tm d0 _ t
     by_cases htd:t=d0
     ·subst htd; rw [de,de]
     ·rw [ci _ _ _ _ htd,ci _ _ _ _ htd,hoff.1 t h2t]
   ·by_cases h2s:(dq p ρ o).dom.oW s
    ·exact e4.ob s (hE1.ob s h2s)
    ·rw [e3.2.1 s h2s]; exact (hoff.2.1 s h2s).symm
   ·by_cases h2s:(dq p ρ o).dom.rW r
    ·exact e4.rw r (hE1.rw r h2s)
    ·rw [e3.2.2 r h2s]; exact (hoff.2.2 r h2s).symm
  exact ⟨hcc ▸ e1,hoff.1 d0 h2⟩
def IQ(P:Program)(p:Nat->Bool)(ρ:Nat->eh)(ops:Array Oper)(j0 d0:Nat)(h:ua)(i:Nat)(st c:St):Prop :=
 (i≠j0/\qf P p ρ ops i st c)\/(i=j0/\∃ b,qf P p ρ ops j0 st b/\b.tm d0=.t (hT h)/\c=b.cv d0)
def Ph(P:Program)(p:Nat->Bool)(ρ:Nat->eh)(ops:Array Oper)(j0 d0:Nat)(h:ua):List Nat->St->St->Prop
 | [],st,st'=>st'=st
 | i :: l,st,st'=>∃ b,IQ P p ρ ops j0 d0 h i st b/\Ph P p ρ ops j0 d0 h l b st'
theorem Pi{i j:Nat}{o:Oper}(hi:se p ρ ops i j=true)(hj:ops[j]?=some o)(hd:o.dst=some d0):∀ o',ops[i]?=some o'->d0∉yF ops o'/\o'.dst≠some d0:=λo' ho'=>by
 unfold se at hi;rw [ho',hj] at hi;simp only [Nt,sk,Bool.not_eq_true'] at hi;obtain ⟨⟨⟨⟨⟨hd1,hd2⟩,_⟩,_⟩,_⟩,_⟩:=hi;rw [hd] at hd2;refine ⟨by simpa [Iw] using hd2,λhe=>?_⟩;rw [he] at hd1;simp [Iw,hd] at hd1
theorem NP{i j:Nat}{o:Oper}(hi:se p ρ ops i j=true)(hj:ops[i]?=some o)(hd:o.dst=some d0):∀ o',ops[j]?=some o'->d0∉yF ops o'/\o'.dst≠some d0:=λo' ho'=>by
 unfold se at hi;rw [ho',hj] at hi;simp only [Nt,sk,Bool.not_eq_true'] at hi;obtain ⟨⟨⟨⟨⟨hd1,hd2⟩,_⟩,_⟩,_⟩,_⟩:=hi;rw [hd] at hd1;simp only [Iw,List.contains_eq_mem,zWH,decide_eq_false_iff_not,not_or] at hd1;exact ⟨hd1.2,λhe=>hd1.1 (by simp [he])⟩
theorem Vi{i j:Nat}(h0:ops[j0]?=some o0)(hd:o0.dst=some d0)(hi:se p ρ ops i j=true)(hij:i≠j)(h2:IQ P p ρ ops j0 d0 h j st b)(h1:IQ P p ρ ops j0 d0 h i b c):∃ b',IQ P p ρ ops j0 d0 h i st b'/\IQ P p ρ ops j0 d0 h j b' c:=by
 rcases h2 with ⟨hj,h2⟩ | ⟨rfl,b1,h2,h3,rfl⟩
 ·rcases h1 with ⟨hi',h1⟩ | ⟨rfl,c1,h1,h3,rfl⟩
  ·obtain ⟨b',h4,h5⟩:=Dv hi h2 h1;exact ⟨b',.inl ⟨hi',h4⟩,.inl ⟨hj,h5⟩⟩
  ·obtain ⟨b',h4,h5⟩:=Dv hi h2 h1;obtain ⟨h6,h7⟩:=h5.cv (NP hi h0 hd);exact ⟨b'.cv d0,.inr ⟨rfl,b',h4,h7 ▸ h3,rfl⟩,.inl ⟨hj,h6⟩⟩
 ·rcases h1 with ⟨hi',h1⟩ | ⟨rfl,_⟩
  ·-- the step from the told state, told back
   have hoff:=Pi hi h0 hd;have key:∃ c1,qf P p ρ ops i b1 c1/\c=c1.cv d0/\c1.tm d0=b1.tm d0:=by
    unfold qf at h1 ⊢
    cases ho:ops[i]? with
    | none =>
     rw [ho] at h1;have h1:c=b1.cv d0:=h1;exact ⟨b1,rfl,h1,rfl⟩
    | some o =>
     rw [ho] at h1;obtain ⟨g1,g2⟩:=hoff o ho;obtain ⟨ho1,hloc⟩:=wA.loc h1;obtain ⟨c',e1,e2,e3,e4⟩:=hloc b1 (λt ht=>(ci _ _ _ _ (λhe=>by subst he; exact g1 (Du ht))).symm) (λt ht=>(ci _ _ _ _ (λhe=>by subst he; exact g1 (List.mem_append.2 (.inl ht)))).symm) ⟨λs hs=>rfl,λs hs=>rfl⟩;have hE1:=HT p ρ o;refine ⟨c',e1,?_,e3.1 d0 g2⟩;refine St.ext (funext λt=>?_) (funext λs=>?_) (funext λr=>?_)
     ·show c.tm t=eG c'.tm d0 _ t
      by_cases htd:t=d0
      ·subst htd;rw [de,ho1.1 _ g2];exact de _ _ _
      ·rw [ci _ _ _ _ htd]
       by_cases h2t:o.dst=some t
       ·exact (e2 t h2t).symm
       ·rw [e3.1 t h2t,ho1.1 t h2t];exact ci _ _ _ _ htd
     ·by_cases h2s:(dq p ρ o).dom.oW s
      ·exact (e4.ob s (hE1.ob s h2s)).symm
      ·rw [ho1.2.1 s h2s]; exact (e3.2.1 s h2s).symm
     ·by_cases h2s:(dq p ρ o).dom.rW r
      ·exact (e4.rw r (hE1.rw r h2s)).symm
      ·rw [ho1.2.2 r h2s]; exact (e3.2.2 r h2s).symm
   obtain ⟨c1,h4,rfl,h5⟩:=key;obtain ⟨b',h6,h7⟩:=Dv hi h2 h4;exact ⟨b',.inl ⟨hi',h6⟩,.inr ⟨rfl,c1,h7,h5.trans h3,rfl⟩⟩
  ·exact absurd rfl hij
theorem Ut{i:Nat}(h0:ops[j0]?=some o0)(hd:o0.dst=some d0):∀ {l:List Nat} {st st':St},i∈l->(∀ l1 l2,l=l1++i :: l2->i∉l1->∀ j∈l1,se p ρ ops i j=true)->Ph P p ρ ops j0 d0 h l st st'->∃ b,IQ P p ρ ops j0 d0 h i st b/\Ph P p ρ ops j0 d0 h (l.erase i) b st'
 | [],st,st',h,_,_=>by simp at h
 | j :: l,st,st',h,hind,hr=>by
  by_cases he:i=j
  ·subst he;rw [List.erase_cons_head];exact hr
  ·obtain ⟨b,h1,h2⟩:=hr;have him:i∈l:=(List.mem_cons.1 h).resolve_left he;obtain ⟨c,h3,h4⟩:=Ut h0 hd him (λl1 l2 hl hni j' hj'=>hind (j :: l1) l2 (by rw [hl]; rfl) (by simp [he,hni]) j' (zQv _ hj')) h2;have hij:se p ρ ops i j=true:=by
    obtain ⟨l1,l2,hl,hni⟩:=List.eq_append_cons_of_mem him;exact hind (j :: l1) l2 (by rw [hl]; rfl) (by simp [he,hni]) j (zQk ..)
   obtain ⟨d,h5,h6⟩:=Vi h0 hd hij he h1 h3;refine ⟨d,h5,?_⟩;rw [List.erase_cons_tail (by simpa using λh=>he h.symm)];exact ⟨c,h6,h4⟩
theorem iJ.cv(hS:iJ E g n st a w)(hpin:E.pin=some (hv h))(hd:st.tm d0=.t (hT h)):iJ E g n (st.cv d0) a w:=by
 refine ⟨⟨hS.mem.ob,hS.mem.obne,hS.mem.row,hS.mem.rowne,hS.mem.rowob,hS.mem.F,hS.mem.os,hS.mem.tape,hS.mem.output,hS.mem.sizes,hS.mem.frame,hS.mem.shp,hS.mem.dep0⟩,hS.size,hS.defers,λi hi=>?_,λi hi=>?_,hS.lent,hS.pin⟩
 ·obtain ⟨v,h1,h2⟩:=hS.tm i hi;refine ⟨v,h1,?_⟩;show VR w g st.O st.R (eG st.tm d0 (.own PR) i) v
  by_cases hid:i=d0
  ·subst hid;rw [de];rw [hd] at h2
   cases h2 with
   | t _ _ h2 =>
    cases h2
    obtain ⟨h3,h4⟩:=hS.pin _ hpin;have:=VR.own (w:=w) (g:=g) (O:=st.O) (R:=st.R) PR h3;rw [h4] at this;exact this
  ·rw [ci _ _ _ _ hid];exact h2
 ·show eG st.tm d0 (.own PR) i=.undef
  by_cases hid:i=d0
  ·subst hid;have:=hS.und i hi;rw [hd] at this
   cases this
  ·rw [ci _ _ _ _ hid];exact hS.und i hi
theorem NQ{i:Nat}{K:Act->World->Prop}{Q:Exit->Act->World->Prop}(hpin:E.pin=some (hv h))(hS:iJ E g n st a w)(hd:∀ o,ops[i]?=some o->mT n o=true)(hs:IQ P p ρ ops j0 d0 h i st st')
  (hK:∀ g' a' w',iJ E g' n st' a' w'->K a' w'):wpOp P ops Q i K a w:=by
 rcases hs with ⟨_,hs⟩ | ⟨rfl,b,hs,hb,rfl⟩
 ·exact vK hS hd hs hK
 ·exact vK hS hd hs λg' a' w' hS'=>hK g' a' w' (hS'.cv hpin hb)
theorem Pj{D:Array Nat}{Q:Exit->Act->World->Prop}(hpin:E.pin=some (hv h))(h0:ops[j0]?=some o0)(hd0:o0.dst=some d0)(hF:Dw p ρ n ops D)(hQ:∀ g a w,iJ E g n st' a w->Q .normal a w) :
  ∀ (fuel:Nat) (listed:Array Bool) (st:St) (g:Gh) (a:Act) (w:World),listed.size=ops.size->UF ops listed->(rem ops listed).length=fuel->Ph P p ρ ops j0 d0 h (rem ops listed) st st'->iJ E g n st a w->wpAny P .any ops Q fuel listed a w:=by
 intro fuel
 induction fuel with
 | zero =>
  intro listed st g a w hs hd hl hr hS;have h0:rem ops listed=[]:=r0 hl;rw [h0] at hr;have hr:st'=st:=hr;refine ⟨?_,hQ g a w (hr ▸ hS)⟩;refine List.eq_nil_iff_forall_not_mem.2 λj hj=>?_;obtain ⟨h1,o,ho,_⟩:=mem_ready.1 hj;have:j∈rem ops listed:=qH.2 ⟨(Array.getElem?_eq_some_iff.1 ho).1,h1⟩;rw [h0] at this;simp at this
 | succ fuel ih =>
  intro listed st g a w hs hd hl hr hS;have hsorted:(rem ops listed).Pairwise (· < ·):=List.Pairwise.filter _ List.pairwise_lt_range;refine ⟨λhnil=>?_,λi hi=>?_⟩
  ·exfalso
   cases hrem:rem ops listed with
   | nil=>rw [hrem] at hl; cases hl
   | cons i l =>
    have him:i∈rem ops listed:=by rw [hrem]; simp
    obtain ⟨hlt,hun⟩:=qH.1 him;have:i∈Region.ready .any ops listed:=by
     refine mem_ready.2 ⟨hun,_,zXV hlt,λe he hb=>?_⟩;have hlt2:=hF.back i _ (zXV hlt) e he hb;have hlt3:e.on < listed.size:=by omega
     cases hee:listed.getD e.on false with
     | true=>rfl
     | false =>
      have hm:e.on∈rem ops listed:=qH.2 ⟨by omega,by rw [HV hlt3]; exact hee⟩;rw [hrem] at hm hsorted;rcases List.mem_cons.1 hm with h | h
      ·omega
      ·have:=(List.pairwise_cons.1 hsorted).1 _ h;omega
    rw [hnil] at this;simp at this
  ·obtain ⟨hun,o,ho,hall⟩:=mem_ready.1 hi;have hlt:i < ops.size:=(Array.getElem?_eq_some_iff.1 ho).1;have him:i∈rem ops listed:=qH.2 ⟨hlt,hun⟩;obtain ⟨b,h1,h2⟩:=Ut h0 hd0 him (λl1 l2 hsplit hni j hj=>by
    have hjm:j∈rem ops listed:=by rw [hsplit]; exact List.mem_append.2 (.inl hj)
    have hji:j < i:=by
     rw [hsplit] at hsorted;exact (List.pairwise_append.1 hsorted).2.2 j hj i (zQk ..)
    rcases hF.ind i j o ho hji with h | h
    ·have h3:=closed hF hd i o ho hall j h;have h4:=(qH.1 hjm).2;rw [HV (by rw [hs]; exact (qH.1 hjm).1),h3] at h4
     cases h4
    ·exact h) hr
   refine NQ hpin hS (hF.dst i) h1 λg' a' w' hS'=>ih (listed.setIfInBounds i true) b g' a' w' (by simp [hs]) ?_ ?_ ?_ hS'
   ·intro k o' hk ho' e he hb
    by_cases hik:i=k
    ·subst hik;rw [ho] at ho';injection ho' with ho'
     subst ho';exact getD_set_true (hall e he hb)
    ·rw [getD_set_ne false hik] at hk;exact getD_set_true (hd k o' hk ho' e he hb)
   ·rw [HU hs him,List.length_erase_of_mem him,hl];rfl
   ·rw [HU hs him];exact h2
theorem TK{l1 l2:List Oper}{o:Oper}(hops:ops.toList=l1++o :: l2)(hr1:zQ P p ρ ops (l1++[o]) st b)(hb:b.tm d0=.t (hT h))(hr2:zQ P p ρ ops l2 (b.cv d0) st'):Ph P p ρ ops l1.length d0 h (zXQ ops.size) st st':=by
 have hsz:ops.size=l1.length+1+l2.length:=by rw [<- zQw,hops]; simp; omega
 have e:zXQ ops.size=zWh 0 (l1++[o]).length++zWh (l1.length+1) l2.length:=by
  rw [zXJ,hsz,zQK,zQH,zXK,zWZ,<- zVV,zWZ]
 have hk1:∀ j,j < l1.length+1->(l1++[o])[j]?=ops[j]?:=λj hj=>by
  have e:ops[j]?=((l1++[o])++l2)[j]?:=by rw [<- zWJ,hops]; simp
  rw [e];exact (zQW (by simp; omega)).symm
 have hk2:∀ j,l2[j]?=ops[l1.length+1+j]?:=λj=>by
  rw [<- zWJ,hops,show l1++o :: l2=(l1++[o])++l2 by simp,zQX (by simp)];simp
 have up:∀ (m k:Nat) (s s':St),k > l1.length->Ix P p ρ ops (zWh k m) s s'->Ph P p ρ ops l1.length d0 h (zWh k m) s s':=by
  intro m
  induction m with
  | zero=>intro k s s' _ h; exact h
  | succ m ih=>intro k s s' hk ⟨q,h1,h2⟩; exact ⟨q,.inl ⟨by omega,h1⟩,ih (k+1) q s' (by omega) h2⟩
 have tail:=up l2.length (l1.length+1) _ _ (by omega) (uS hk2 hr2);rw [e];have head:∀ (l:List Oper) (k:Nat) (s:St),k+l.length=l1.length->(∀ j,j < l.length+1->(l++[o])[j]?=ops[k+j]?)->zQ P p ρ ops (l++[o]) s b->Ph P p ρ ops l1.length d0 h (zWh k (l++[o]).length++zWh (l1.length+1) l2.length) s st':=by
  intro l
  induction l with
  | nil =>
   intro k s hk hl ⟨q,h1,h2⟩;have h2:b=q:=h2;subst h2;have hk':k=l1.length:=by simpa using hk
   subst hk';have h3:=hl 0 (by simp);simp at h3;refine ⟨b.cv d0,.inr ⟨rfl,b,?_,hb,rfl⟩,tail⟩;unfold qf;rw [<- h3];exact h1
  | cons o' l ih =>
   intro k s hk hl ⟨q,h1,h2⟩;have h3:=hl 0 (by simp);simp at h3;refine ⟨q,.inl ⟨by simp at hk; omega,?_⟩,?_⟩
   ·unfold qf;rw [<- h3];exact h1
   ·exact ih (k+1) q (by simp at hk; omega) (λj hj=>by have:=hl (j+1) (by simp; omega); simpa [zZZ,Nat.add_comm 1 j] using this) h2
 exact head l1 0 st (by simp) (λj hj=>by rw [zWZ]; exact hk1 j hj) hr1
theorem Kp{Q:Exit->Act->World->Prop}{id:Nat}{l1 l2:List Oper}{o:Oper}(hm:P.follows .mixedOrders=true)(hok:Ln p ρ n ops=true)(hpin:E.pin=some (hv h))(hops:ops.toList=l1++o :: l2)(hd0:o.dst=some d0)
  (hS:iJ E g n st a w) (hr1:zQ P p ρ ops (l1++[o]) st b) (hb:b.tm d0=.t (hT h)) (hr2:zQ P p ρ ops l2 (b.cv d0) st') (hQ:∀ g a w,iJ E g n st' a w->Q .normal a w):(Code.region id ops true).wp P Q a w:=by
 have hrX:=TK hops hr1 hb hr2;have hF:=Iz hok;have h0:ops[l1.length]?=some o:=by rw [<- zWJ,hops]; simp
 have hrem:rem ops (zZx ops.size false)=zXQ ops.size:=by
  unfold rem;refine List.filter_eq_self.2 λi hi=>?_;have:i < ops.size:=List.mem_range.1 hi;simp [this]
 refine wp_region_any hm (Pj hpin h0 hd0 hF hQ _ _ st g a _ (by simp) (λk o hk=>?_) (by rw [hrem]; simp) (by rw [hrem]; exact hrX) hS.drew)
 by_cases hlt:k < ops.size <;> simp [hlt] at hk
end
end Go.Tm
namespace Go.Tm
open Go.RowKit
section
variable {P:Program} {E E0:En} {g:Gh} {st st':St} {a:Act} {w:World} {n:Nat} {ls:List Nat} {k:K} {e e2:TypeId} {Q:Exit->St->K->Prop}
theorem iJ.repin(hS:iJ E g n st a w)(v:Option Value)(hv:∀ u,v=some u->st.R PR/\g.rw PR=u):iJ { E with pin:=v } g n st a w :=
 ⟨⟨hS.mem.ob,hS.mem.obne,hS.mem.row,hS.mem.rowne,hS.mem.rowob,hS.mem.F,hS.mem.os,hS.mem.tape,hS.mem.output,hS.mem.sizes,hS.mem.frame,hS.mem.shp,hS.mem.dep0⟩,hS.size,hS.defers,hS.tm,hS.und,hS.lent,hv⟩
theorem iJ.own1{ee sz r:Nat}{rows:List (List T)}{v:Value}(hS:iJ E g n st a w)(hpin:E.pin=none)(hfree:st.rw r=none)(hrow:lX w w (λb=>v.ownBlock=some b) g.F v (.live ee sz rows))(hA:∀ b,v.ownBlock=some b->U4 g st b/\¬ E.D b) :
  iJ { E with X:=λb=>E.X b\/v.ownBlock=some b } { g with rw:=eG g.rw r v } n { st with rw:=eG st.rw r (some (.live ee sz rows)) } a w:=by
 have hM:=hS.mem;have hne:∀ q x,st.rw q=some x->q≠r:=λq x h he=>by rw [he,hfree] at h; cases h
 have hEx:pH w w g { g with rw:=eG g.rw r v } st.O st.R ({ st with rw:=eG st.rw r (some (.live ee sz rows)) }:St).O ({ st with rw:=eG st.rw r (some (.live ee sz rows)) }:St).R :=
  ⟨λ_ _=>rfl,λ_ h=>h,λs h=>⟨h,rfl⟩,λq h=>by
   obtain ⟨x,hx⟩:=Option.isSome_iff_exists.1 h;have:=hne q x hx;exact ⟨by simp [St.R,ci _ _ _ _ this,hx],ci _ _ _ _ this⟩,⟨rfl,rfl,rfl⟩,rfl,rfl⟩
 have hl:∀ q,({ st with rw:=eG st.rw r (some (.live ee sz rows)) }:St).L q->q≠r->st.L q:=λq h hq=>by
  obtain ⟨a,b,c,h⟩:=h;exact ⟨a,b,c,by rw [<- h]; exact (ci _ _ _ _ hq).symm⟩
 have hrw:∀ q,q≠r->eG g.rw r v q=g.rw q:=λq hq=>ci _ _ _ _ hq;have hrr:eG g.rw r v r=v:=de _ _ _;refine ⟨⟨λs cells hs=>?_,hM.obne,λq x hq=>?_,λq q' b h1 h2 h3 h4=>?_,λq s h1 h2 h3=>?_,λb hb=>⟨(hM.F b hb).1,λh=>((hM.F b hb).2.1 h).imp id .inl,(hM.F b hb).2.2⟩,hM.os,hM.tape,hM.output,hM.sizes,λb h1 h2=>hM.frame b h1 λh=>h2 (.inl h),hM.shp,⟨hM.dep0.1,λb hb=>?_⟩⟩,
  hS.size,hS.defers,λi hi=>?_,hS.und,hS.lent,λu hu=>(by rw [show E.pin=some u from hu] at hpin; cases hpin)⟩
 ·obtain ⟨arr,e',h2,h3,h4,h5,h6⟩:=hM.ob s cells hs;refine ⟨arr,e',h2,h3,λj x hj=>?_,h5,h6.imp id .inl⟩;obtain ⟨h7,u,h8,h9⟩:=h4 j x hj;exact ⟨h7,u,h8,h9.mono hEx⟩
 ·by_cases hqr:q=r
  ·subst hqr;have hq:eG st.rw q (some (.live ee sz rows)) q=some x:=hq;rw [de] at hq
   cases hq
   show lX _ _ _ _ (eG g.rw q v q) _;rw [de];obtain ⟨inner,h1,h2,h3,h4⟩:=hrow;exact ⟨inner,h1,h2,h3,λb hb=>⟨(h4 b hb).1,.inr (.inr hb)⟩⟩
  ·have hq:eG st.rw r (some (.live ee sz rows)) q=some x:=hq;rw [ci _ _ _ _ hqr] at hq;show lX _ _ _ _ (eG g.rw r v q) _;rw [ci _ _ _ _ hqr];have hr:=hM.row q x hq
   cases x with
   | live e3 sz3 rows3 =>
    obtain ⟨inner,h1,h2,h3,h4⟩:=hr;exact ⟨inner,h1,h2,h3,λb hb=>⟨(h4 b hb).1,(h4 b hb).2.imp id .inl⟩⟩
   | frz sz3 rows3=>exact hr
   | gone=>exact hr
 ·have h3:(eG g.rw r v q).ownBlock=some b:=h3;have h4:(eG g.rw r v q').ownBlock=some b:=h4
  by_cases hq:q=r
  ·by_cases hq':q'=r
   ·rw [hq,hq']
   ·subst hq;rw [de] at h3;rw [ci _ _ _ _ hq'] at h4;exact absurd h4 ((hA b h3).1.row q' (hl q' h2 hq'))
  ·by_cases hq':q'=r
   ·subst hq';rw [de] at h4;rw [ci _ _ _ _ hq] at h3;exact absurd h3 ((hA b h4).1.row q (hl q h1 hq))
   ·rw [ci _ _ _ _ hq] at h3;rw [ci _ _ _ _ hq'] at h4;exact hM.rowne q q' b (hl q h1 hq) (hl q' h2 hq') h3 h4
 ·have h3:(eG g.rw r v q).ownBlock=some (g.ob s):=h3
  by_cases hq:q=r
  ·subst hq;rw [de] at h3;exact (hA _ h3).1.ob s h2 rfl
  ·rw [ci _ _ _ _ hq] at h3;exact hM.rowob q s (hl q h1 hq) h2 h3
 ·obtain ⟨h1,h2,h3⟩:=hM.dep0.2 b hb;exact ⟨h1,λh=>h.elim h2 λh=>(hA b h).2 hb,h3⟩
 ·obtain ⟨u,h1,h2⟩:=hS.tm i hi;exact ⟨u,h1,h2.mono hEx⟩
theorem iJ.fill{s j r:Nat}{h:ua}(hS:iJ E g n st a w)(hc:((st.ob s).bind λc=>c[j]?)=some (.t (hT h)))(hR:st.R r)(hg:g.rw r=hv h) :
  iJ E g n { st with ob:=eG st.ob s ((st.ob s).map λc=>c.set j (.own r)) } a w:=by
 have hM:=hS.mem;have hO:∀ q,({ st with ob:=eG st.ob s ((st.ob s).map λc=>c.set j (.own r)) }:St).O q↔st.O q:=λq=>by
  by_cases hq:q=s
  ·subst hq; simp [St.O,de]
  ·simp [St.O,ci _ _ _ _ hq]
 have hEx:pH w w g g st.O st.R ({ st with ob:=eG st.ob s ((st.ob s).map λc=>c.set j (.own r)) }:St).O ({ st with ob:=eG st.ob s ((st.ob s).map λc=>c.set j (.own r)) }:St).R :=
  ⟨λ_ _=>rfl,λ_ h=>h,λq h=>⟨(hO q).2 h,rfl⟩,λq h=>⟨h,rfl⟩,⟨rfl,rfl,rfl⟩,rfl,rfl⟩
 refine ⟨⟨λq cells hs=>?_,λq q' h1 h2 h3=>hM.obne q q' ((hO q).1 h1) ((hO q').1 h2) h3,hM.row,hM.rowne,λq q' h1 h2=>hM.rowob q q' h1 ((hO q').1 h2),hM.F,hM.os,hM.tape,hM.output,hM.sizes,hM.frame,hM.shp,hM.dep0⟩,
  hS.size,hS.defers,λi hi=>?_,hS.und,λq b hq=>⟨(hO q).2 (hS.lent q b hq).1,(hS.lent q b hq).2⟩,hS.pin⟩
 ·have hs:eG st.ob s ((st.ob s).map λc=>c.set j (.own r)) q=some cells:=hs
  by_cases hq:q=s
  ·subst hq;rw [de] at hs;obtain ⟨cells0,h1,rfl⟩:=Option.map_eq_some_iff.1 hs;rw [h1] at hc;have hc:cells0[j]?=some (.t (hT h)):=hc;obtain ⟨arr,e',h2,h3,h4,h5,h6⟩:=hM.ob q cells0 h1;refine ⟨arr,e',h2,by simpa using h3,λi x hi=>?_,h5,h6⟩;rw [zYW] at hi
   split at hi
   ·rename_i hji;subst hji
    split at hi
    ·cases hi
     obtain ⟨h7,u,h8,h9⟩:=h4 j _ hc;refine ⟨rfl,u,h8,?_⟩
     cases h9 with
     | t _ _ h9 =>
      cases h9
      have:=VR.own (w:=w) (g:=g) (O:=({ st with ob:=eG st.ob q ((st.ob q).map λc=>c.set j (.own r)) }:St).O) (R:=st.R) r hR;rw [hg] at this;exact this
    ·cases hi
   ·obtain ⟨h7,u,h8,h9⟩:=h4 i x hi;exact ⟨h7,u,h8,h9.mono hEx⟩
  ·rw [ci _ _ _ _ hq] at hs;obtain ⟨arr,e',h2,h3,h4,h5,h6⟩:=hM.ob q cells hs;exact ⟨arr,e',h2,h3,λi x hi=>⟨(h4 i x hi).1,(h4 i x hi).2.imp λu hu=>⟨hu.1,hu.2.mono hEx⟩⟩,h5,h6⟩
 ·obtain ⟨u,h1,h2⟩:=hS.tm i hi;exact ⟨u,h1,h2.mono hEx⟩
theorem Qi{Y:Nat->Prop}(hK:Kl E0 E)(hY:∀ b,Y b->(E0.w0.heap.size<=b\/E0.X b)/\¬ E.F0 b):Kl E0 { E with X:=λb=>E.X b\/Y b }:=by
 refine ⟨hK.n0,λb h1 h2=>⟨λh=>?_,(hK.same b h1 h2).2⟩,hK.F0,λb hb h=>?_,hK.os,hK.tape,hK.output,hK.d,hK.sh,hK.lent,hK.pin⟩
 ·rcases h with h | h
  ·exact (hK.same b h1 h2).1 h
  ·rcases (hY b h).1 with h3 | h3
   ·omega
   ·exact h2 h3
 ·rcases h with h | h
  ·exact hK.fx b hb h
  ·exact (hY b h).2 hb
theorem NR{w0:World}{X F:Nat->Prop}{h:ua}{e':TypeId}{α:Type}{f:α->T}{gv:α->Value}{xs:List α}(hf:∀ x,Rd w F (f x) (gv x))(ho:w.ownsRow 0 e' 1 (hv h) xs.length (xs.map gv))(hb:∀ b,(hv h).ownBlock=some b->¬ F b/\(w0.heap.size<=b\/X b)):lX w0 w X F (hv h) (.live e' 1 (xs.map λx=>[f x])):=by
 refine ⟨xs.map gv,by simpa using ho,λi row hi=>?_,λi row j x hi hj=>?_,hb⟩
 ·rw [zQY] at hi;obtain ⟨y,_,rfl⟩:=Option.map_eq_some_iff.1 hi;rfl
 ·rw [zQY] at hi;obtain ⟨y,hy,rfl⟩:=Option.map_eq_some_iff.1 hi
  cases j with
  | succ j=>simp at hj
  | zero =>
   simp only [zWQ,Option.some.injEq] at hj;subst hj;exact ⟨gv y,by rw [zZq,zYQ,zQY,hy]; rfl,hf y⟩
theorem IR{α:Type}:∀ {l:List α} {i:Nat} {q:α},l[i]?=some q->l.Perm (q :: l.eraseIdx i)
 | [],i,q,h=>by simp at h
 | y :: l,0,q,h=>by
  simp only [zWQ,Option.some.injEq] at h;subst h;exact .refl _
 | y :: l,i+1,q,h=>by
  simp only [List.getElem?_cons_succ] at h;exact ((IR h).cons y).trans (.swap q y _)
def UJ(st:St)(s j R e e2:Nat)(hs:List ua)(x:List Int):St :=
 { tm:=st.tm,ob:=eG st.ob s ((st.ob s).map λc=>c.set j (.own R)),rw:=eG (eG st.rw R (some (.live e 1 ((hs.map hT).map λt=>[t])))) PR (some (.live e2 1 (x.map (aj .u8)))) }
theorem Wd.app{p:Nat->Bool}{ρ:Nat->eh}{ops:Array Oper}{id:Nat}{h:ua}{xs:List (List Int)}{x:List Int}{o:Oper}{l2:List Oper}{d0:Nat}(m s j R i:Nat)(h0:Q5 P E0 ls)(hx:xs[i]?=some x)
  (hk:∀ hs q,hs.length=xs.length->hs[i]?=some q->ae P p ρ ops (ops.toList.take m++[o]) (UJ st s j R e e2 hs x) λb=>b.tm d0=.t (hT q)/\ae P p ρ ops l2 (b.cv d0) λst3=>Q .normal st3 (.hole hs xs i))
  (hops:ops.toList=ops.toList.take m++o :: l2:=by rfl) (hd0:o.dst=some d0:=by rfl) (hm:P.follows .mixedOrders=true:=by kernel_rfl) (hok:Ln p ρ n ops=true:=by kernel_rfl) (hc:((st.ob s).bind λc=>c[j]?)=some (.t (hT h)):=by kernel_rfl)
  (hf1:st.rw R=none:=by kernel_rfl) (hf2:st.rw PR=none:=by kernel_rfl) (hne:zXZ PR R=false:=by kernel_rfl):Wd P n ls E0 e e2 (.region id ops true) Q st (.deep h xs):=λE g a w hE hK hBe hS=>by
 have hne:PR≠R:=λh=>by rw [h,zZk] at hne; cases hne
 obtain ⟨Bs0,a1,a2,a3⟩:=hBe.now hK hS;obtain ⟨hE1,hK1,⟨Bs,b1,b2,b3⟩,hS1⟩:=Wd.anew h0.one hE hK hS a1 a2 a3 h0.d;obtain ⟨hs,c1,c2,rfl⟩:=b1;have hlen:=c1.1;have hil:i < hs.length:=by rw [hlen]; exact (List.getElem?_eq_some_iff.1 hx).1
 obtain ⟨q,hq⟩:∃ q,hs[i]?=some q:=⟨_,sX hil⟩;obtain ⟨b,r1,hb,st3,r2,hQ⟩:=hk hs q hlen hq
 -- what is whose
 have hperm:(hs.flatMap hB).Perm (hB q++(hs.eraseIdx i).flatMap hB):=by
  have:=(IR hq).flatMap_right hB;rwa [List.flatMap_cons] at this
 have hnd:(hB h++(hB q++(hs.eraseIdx i).flatMap hB)).Nodup:=((List.Perm.append_left (hB h) hperm).nodup_iff).1 b2;have hmem:∀ c,c∈hB h++(hB q++(hs.eraseIdx i).flatMap hB)->c∈hB h++hs.flatMap hB:=λc hc=>((List.Perm.append_left (hB h) hperm).mem_iff).2 hc;have hApt:∀ c,c∈hB h++(hB q++(hs.eraseIdx i).flatMap hB)->U4 { g with dw:=w } st c:=λc hc=>by
  have hU:=hS1.unk (b3 c (hmem c hc)).1;exact ⟨hU.f,hU.o,hU.r⟩
 have hn1:=List.nodup_append.1 hnd;have hn2:=List.nodup_append.1 hn1.2.1;have hmh:∀ {c},(hv h).ownBlock=some c->c∈hB h++(hB q++(hs.eraseIdx i).flatMap hB):=λhc=>List.mem_append.2 (.inl (kX.2 hc));have hmq:∀ {c},(hv q).ownBlock=some c->c∈hB h++(hB q++(hs.eraseIdx i).flatMap hB):=λhc=>List.mem_append.2 (.inr (List.mem_append.2 (.inl (kX.2 hc))))
 -- the two rows
 have row1:lX w w (λc=>(hv h).ownBlock=some c) g.F (hv h) (.live e 1 ((hs.map hT).map λt=>[t])):=(zZw (f:=hT) (g:=λt=>[t]) (l:=hs)).symm ▸ NR (f:=hT) (gv:=hv) (λy=>.hdr _ _ _) c2 λc hc=>⟨(hApt c (hmh hc)).F,.inr hc⟩;have hSa:=hS1.own1 (r:=R) hK1.pin hf1 row1 λc hc=>⟨hApt c (hmh hc),(b3 c (hmem c (hmh hc))).1.2.2.2⟩;have hown:=c1.2 i q x hq hx;have row2:lX w w (λc=>(hv q).ownBlock=some c) g.F (hv q) (.live e2 1 (x.map (aj .u8))):=NR (f:=λy=>T.int .u8 y) (gv:=Value.int .u8) (λy=>.int _ _) hown λc hc=>⟨(hApt c (hmq hc)).F,.inr hc⟩;have hSb:=hSa.own1 (r:=PR) hK1.pin (by show eG st.rw R _ PR=none; rw [ci _ _ _ _ hne]; exact hf2) row2 λc hc=>⟨⟨(hApt c (hmq hc)).F,(hApt c (hmq hc)).ob,λr hr h5=>by
   by_cases hrR:r=R
   ·subst hrR;have h5:(eG g.rw r (hv h) r).ownBlock=some c:=h5;rw [de] at h5;exact hn1.2.2 c (kX.2 h5) c (List.mem_append.2 (.inl (kX.2 hc))) rfl
   ·have h5:(eG g.rw R (hv h) r).ownBlock=some c:=h5;rw [ci _ _ _ _ hrR] at h5;refine (hApt c (hmq hc)).row r ?_ h5;obtain ⟨x1,x2,x3,h6⟩:=hr;exact ⟨x1,x2,x3,by rw [<- h6]; exact (ci _ _ _ _ hrR).symm⟩⟩,(b3 c (hmem c (hmq hc))).1.2.2.2⟩
 have hSc:=hSb.fill (s:=s) (j:=j) (r:=R) (h:=h) hc (by simp [St.R,ci _ _ _ _ hne.symm,de]) (by show eG (eG g.rw R (hv h)) PR (hv q) R=hv h; rw [ci _ _ _ _ hne.symm,de]);have hSd:=hSc.repin (some (hv q)) λu hu=>by
  cases hu
  exact ⟨by simp [St.R,de],by show eG (eG g.rw R (hv h)) PR (hv q) PR=hv q; exact de _ _ _⟩
 have hKa:=Qi (Y:=λc=>(hv h).ownBlock=some c) hK1 λc hc=>⟨(b3 c (hmem c (hmh hc))).2,(b3 c (hmem c (hmh hc))).1.2.2.1⟩;have hKb:=Qi (Y:=λc=>(hv q).ownBlock=some c) hKa λc hc=>⟨(b3 c (hmem c (hmq hc))).2,(b3 c (hmem c (hmq hc))).1.2.2.1⟩;have htb:Kh P w (λc=>((E.anewL g st w).X c\/(hv h).ownBlock=some c)\/(hv q).ownBlock=some c):=h0.tb.step (λc h1 h2=>(hKb.same c h1 h2).2) λc h1 h2=>(hKb.same c h1 h2).1;have htE:Tb P { E.anewL g st w with X:=λc=>((E.anewL g st w).X c\/(hv h).ownBlock=some c)\/(hv q).ownBlock=some c,pin:=some (hv q) }:=⟨htb.mono λc hc=>hc.elim (λh7=>h7) λhc=>(by obtain ⟨h7,_⟩:=hc; cases h7)⟩;refine Kp (h:=q) hm hok rfl hops hd0 hSd r1 hb r2 λg' a' w' hS'=>?_;obtain ⟨⟨fl,e1,e2',e3,e4⟩,_⟩:=hE1;refine ⟨{ E.anewL g st w with X:=λc=>((E.anewL g st w).X c\/(hv h).ownBlock=some c)\/(hv q).ownBlock=some c },g',st3,_,⟨⟨fl,e1,e2',λv (h8:(none:Option Value)=some v)=>(by cases h8),λh7=>absurd (by rw [e1]; exact List.mem_append_right _ h7) h0.one⟩,⟨htb.mono λc hc=>hc.elim (λh7=>h7) λhc=>(by obtain ⟨h7,_⟩:=hc; cases h7)⟩⟩,hKb,?_,hS'.repin none (λ_ (hu:(none:Option Value)=some _)=>by cases hu),hQ⟩;refine ⟨(hs.eraseIdx i).flatMap hB,⟨⟨hlen,λj q x _ h1 h2=>c1.2 j q x h1 h2⟩,rfl⟩,hn2.2.1,λc hc=>?_⟩;have hc':c∈hB h++(hB q++(hs.eraseIdx i).flatMap hB):=List.mem_append.2 (.inr (List.mem_append.2 (.inr hc)));obtain ⟨⟨d1,d2,d3,d4⟩,d5⟩:=b3 c (hmem c hc');refine ⟨⟨d1,λh7=>?_,d3,d4⟩,d5⟩;rcases h7 with (h7 | h7) | h7
 ·exact d2 h7
 ·exact hn1.2.2 c (kX.2 h7) c (List.mem_append.2 (.inr hc)) rfl
 ·exact hn2.2.2 c (kX.2 h7) c hc rfl
end
end Go.Tm
namespace Go.Tm
open Go.RowKit
def XT(t1 t:T)(w:World)(Bs:List Nat):Prop:=(∀ b∈Bs,Wr w b/\b < w.heap.size)/\∀ F v,(∀ b∈Bs,F b)->Rd w F t v->Rd w F t1 v
theorem Lx{w:World}{F F':Nat->Prop}{t t1:T}(hFF:∀ b,F b->F' b)(hr:∀ v,Rd w F' t v->Rd w F' t1 v):∀ {pre post:List C} {vs:List Value} {bs:List Nat},HR w F (pre++.t t :: post) vs bs->HR w F' (pre++.t t1 :: post) vs bs
 | [],post,vs,bs,hc=>by
  cases hc with
  | cons c v b cs vs bs h1 hs =>
   have h1:=h1.mono (F':=F') (λ_ _=>rfl) hFF (λ_ _=>rfl)
   cases h1 with
   | t _ _ h2=>exact .cons _ _ _ _ _ _ (.t _ _ (hr _ h2)) (hs.mono (λ_ _=>rfl) hFF (λ_ _=>rfl))
 | p :: pre,post,vs,bs,hc=>by
  cases hc with
  | cons c v b cs vs bs h1 hs=>exact .cons _ _ _ _ _ _ (h1.mono (λ_ _=>rfl) hFF (λ_ _=>rfl)) (Lx hFF hr hs)
theorem Pk{P:Program}{f:FuncId}{args:List V}{pre post:List C}{outs:List (List C)}{t1:T}(h:wC P f args (λt:T=>.agg (pre++.t t :: post)) (λ_=>outs) (XT t1)):aJ P f args (.agg (pre++.t t1 :: post)) outs:=by
 obtain ⟨hc,h⟩:=h;refine ⟨hc,λw F us bs hF hV hn hb htb=>(h w F us bs hF hV hn hb htb).mono λx w' ⟨q,v,F',bv,bo,Bs,h1,h2,h3,h4,h5,h6,h7,h8,h9,h10⟩=>?_⟩;have hnd:=List.nodup_append.1 h8;refine ⟨v,λb=>F' b\/b∈Bs,bv,bo,h1,h2,h3,λb hb=>.inl (h4 b hb),λb hb=>?_,?_,h7.mono λb hb=>.inl hb,hnd.1,λb hb=>⟨λh=>?_,(h9 b (List.mem_append.2 (.inl hb))).2⟩⟩
 ·rcases hb with hb | hb
  ·exact h5 b hb
  ·refine ⟨(h10.1 b hb).2,λhlt=>?_,.inr (h10.1 b hb).1⟩;rcases (h9 b (List.mem_append.2 (.inr hb))).2 with g | g
   ·omega
   ·exact .inr g
 ·cases h6 with
  | agg l vs bs hc=>exact .agg _ _ _ (Lx (λb hb=>.inl hb) (λv=>h10.2 _ v λb hb=>.inr hb) hc)
 ·rcases h with h | h
  ·exact (h9 b (List.mem_append.2 (.inl hb))).1 h
  ·exact hnd.2.2 b hb b h rfl
theorem XT.deep{e e2:TypeId}{q:ua}{xs:List (List Int)}{w:World}{Bs:List Nat}(h:Y e e2 (.deep q xs) w Bs):XT (Ck xs) (hT q) w Bs:=by
 refine ⟨λb hb=>⟨?_,h.lt b hb⟩,λF v hF hv=>by cases hv; exact h.rd hF⟩;obtain ⟨hs,g1,g2,rfl⟩:=h;rcases List.mem_append.1 hb with hb | hb
 ·exact L0 g2 (kX.1 hb)
 ·obtain ⟨q1,hq,hb⟩:=List.mem_flatMap.1 hb;obtain ⟨i,hi⟩:=List.mem_iff_getElem?.1 hq;have hl:=(List.getElem?_eq_some_iff.1 hi).1;exact L0 (g1.2 i q1 _ hi (sX (by rw [<- g1.1]; exact hl))) (kX.1 hb)
theorem TL{w:World}{F:Nat->Prop}{A B:List T}{v:Value}(hl:A.length=B.length)(hm:∀ (j:Nat) (t t1:T),A[j]?=some t->B[j]?=some t1->∀ u,Rd w F t u->Rd w F t1 u)(h:Rd w F (.sl 1 (A.map λt=>[t])) v):Rd w F (.sl 1 (B.map λt=>[t])) v:=by
 generalize hr:A.map (λt=>[t])=rows at h
 cases h with
 | sl0 sz a c ha =>
  have:B=[]:=r0 (by rw [<- hl]; simpa using congrArg zYH hr);subst this;exact .sl0 _ _ _ ha
 | sl sz rows b off c u hc hF hs hx hr' =>
  subst hr;have:=Rd.sl (w:=w) (F:=F) 1 (B.map λt=>[t]) b off c u (by simpa [<- hl] using hc) hF (λi row hi=>by
    rw [zQY] at hi;obtain ⟨x,_,rfl⟩:=Option.map_eq_some_iff.1 hi;rfl)
   (λi row j x hi hj=>by
    rw [zQY] at hi;obtain ⟨t1,ht1,rfl⟩:=Option.map_eq_some_iff.1 hi;have hlt:i < A.length:=by rw [hl]; exact (List.getElem?_eq_some_iff.1 ht1).1
    cases j with
    | succ j=>simp at hj
    | zero=>exact hx i [A[i]] 0 A[i] (by simp [hlt]) rfl)
   (λi row j x hi hj=>by
    rw [zQY] at hi;obtain ⟨t1,ht1,rfl⟩:=Option.map_eq_some_iff.1 hi;have hlt:i < A.length:=by rw [hl]; exact (List.getElem?_eq_some_iff.1 ht1).1
    cases j with
    | succ j=>simp at hj
    | zero =>
     simp only [zWQ,Option.some.injEq] at hj;subst hj;exact hm i A[i] t1 (sX hlt) ht1 _ (hr' i [A[i]] 0 A[i] (by simp [hlt]) rfl))
  simpa [hl] using this
theorem XT.hole{e e2:TypeId}{hs:List ua}{xs:List (List Int)}{i:Nat}{y:List Int}{w:World}{Bs:List Nat}(h:Y e e2 (.hole hs xs i) w Bs) :
  XT (Ck (xs.set i y)) (.sl 1 (((hs.map hT).set i (.sl 1 (y.map (aj .u8)))).map λt=>[t])) w Bs:=by
 refine ⟨λb hb=>⟨?_,h.lt b hb⟩,λF v hF hv=>?_⟩
 ·obtain ⟨⟨g1,g2⟩,rfl⟩:=h;obtain ⟨j,q,h3,h4,h5⟩:=DD.1 hb;have hl:=(List.getElem?_eq_some_iff.1 h4).1;exact L0 (g2 j q _ h3 h4 (sX (by rw [<- g1]; exact hl))) (kX.1 h5)
 ·obtain ⟨⟨g1,g2⟩,rfl⟩:=h;have e1:Ck (xs.set i y)=.sl 1 (((xs.map λx=>T.sl 1 (x.map (aj .u8))).set i (.sl 1 (y.map (aj .u8)))).map λt=>[t]):=by
   unfold Ck;rw [List.map_set,List.map_set,zZw];rfl
  rw [e1];refine TL (by simp [g1]) (λj t t1 h1 h2 u hu=>?_) hv
  by_cases hij:i=j
  ·subst hij;rw [zYW] at h1 h2;rw [if_pos rfl] at h1 h2
   split at h1
   ·split at h2
    ·cases h1
     cases h2
     exact hu
    ·cases h2
   ·cases h1
  ·rw [zXX hij] at h1 h2;rw [zQY] at h1 h2;obtain ⟨q,hq,rfl⟩:=Option.map_eq_some_iff.1 h1;obtain ⟨x,hx,rfl⟩:=Option.map_eq_some_iff.1 h2
   cases hu
   exact Pg (e:=e2) (f:=λn=>T.int .u8 n) (gv:=Value.int .u8) (g2 j q x (λh=>hij h.symm) hq hx) (λb hb=>hF b (DD.2 ⟨j,q,λh=>hij h.symm,hq,hb⟩)) λx _=>.int _ _
theorem nr{α:Type}{f:α->List Int}{l:List α}{e e2:TypeId}{q:ua}{w:World}{Bs:List Nat}(h:Y e e2 (.deep q (l.map f)) w Bs):XT (.sl 1 (l.map λi=>[.sl 1 ((f i).map (aj .u8))])) (hT q) w Bs:=by
 have:=XT.deep h;unfold Ck at this;rw [zZw] at this;exact this
theorem Sf{α:Type}{f:α->List Int}{l:List α}{y:α}{i:Nat}{e e2:TypeId}{hs:List ua}{w:World}{Bs:List Nat}(h:Y e e2 (.hole hs (l.map f) i) w Bs) :
  XT (.sl 1 ((l.set i y).map λi=>[.sl 1 ((f i).map (aj .u8))])) (.sl 1 (((hs.map hT).set i (.sl 1 ((f y).map (aj .u8)))).map λt=>[t])) w Bs:=by
 have:=XT.hole (y:=f y) h;unfold Ck at this;rw [<- List.map_set,zZw] at this;exact this
theorem Qj{α:Type}{xs:List α}{hs:List ua}{i:Int}{y:α}{q:ua}(h:dV xs i=some y)(hl:hs.length=xs.length)(hq:hs[i.toNat]?=some q):(dV (hs.map hT) i).bind (λ_=>some ())=some ():=by
 obtain ⟨h1,h2⟩:=bA h;unfold dV;simp [h1,hq]
theorem si{α:Type}{b:Bool}{x y r:α}(h:(bif b then x else y)=r):x=r\/y=r:=by
 cases b
 ·exact .inr h
 ·exact .inl h
end Go.Tm
namespace Go.Tm.Pu
theorem Ly{α ρ:Type}{fin:Unit->Option ρ}{body:α->Nat->Unit->(Unit->Option ρ)->Option ρ}{xs:List α}(hb:∀ x i k,xs[i]?=some x->body x i () k=k ()) :
  ∀ (ys:List α) (i:Nat),ys=xs.drop i->cy fin body ys i ()=fin ():=by
 intro ys
 induction ys with
 | nil=>intro i _; rfl
 | cons y ys ih =>
  intro i h1;have hx:xs[i]?=some y:=by have:=congrArg zYz h1; simpa [zXw] using this.symm
  have hys:ys=xs.drop (i+1):=by have:=congrArg zZX h1; simpa [zXg] using this
  simp only [cy];rw [hb y i _ hx];exact ih (i+1) hys
end Go.Tm.Pu
