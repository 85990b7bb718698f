/- The abstract machine tells the truth of the translated code. -/
import Derived.JoinedOf
import Derived.Test.YtdcoelkflgpfgaaGreatDoorCFnTextsF2
set_option linter.unusedVariables false
set_option linter.unusedSimpArgs false
open Array renaming getElem?_append_left->zYk,getElem?_append_right->zYy,getElem?_eq_getElem->zXX,getElem?_replicate->zZX,getElem?_toList->zWG,length_toList->zQx,replicate->zZy
open Bool renaming and_eq_true->sk
open List renaming append_assoc->zQv,append_nil->zXH,cons_append->zYX,eq_nil_of_length_eq_zero->zQQ,getElem?_append->zWq,getElem?_append_left->zQW,getElem?_append_right->zQV,getElem?_cons_zero->zWX,getElem?_drop->zQH,getElem?_eq_getElem->sX,getElem?_map->zQZ,getElem?_set->zXk,getElem?_take->zQw,length_append->zQG,length_cons->zQK,length_nil->zXQ,map_map->zZx,mem_append->zWw,mem_cons_of_mem->zQk,mem_cons_self->zQg,mem_of_getElem?->zQY,nodup_append->zXw,range->zWj,range'->zWx,range'_append_1->zVG,range'_succ->zYZ,range_eq_range'->zXj,take_append_drop->zYY
open Nat renaming add_assoc->zZW,add_zero->zXv,beq->zXW,beq_refl->zZj,eq_of_beq_eq_true->zWv,le_refl->zWk,le_trans->zWH,lt_of_lt_of_le->zQh,mul_one->zZq,zero_add->zWY
open Option renaming getD_some->zYH,map_eq_some_iff->zWZ
open List renaming getElem?_eq_some_iff->aaa
open Option renaming map_eq_some_iff->aab
open List renaming mem_append->aac
open Option renaming isSome_iff_exists->aad
open List renaming all_eq_true->aae
open Array renaming getElem?_eq_some_iff->aaf
open List renaming mem_cons->aag
open List renaming getElem?_eq_none_iff->aah
open List renaming mem_iff_getElem?->aai
namespace Go.Tm
open Go
def QX(P:Program):Nat->List FuncId->List FuncId->Nat->List FuncId×List FuncId×Nat
 | 0,todo,seen,m=>(todo,seen,m)
 | n+1,[],seen,m=>([],seen,m)
 | n+1,f :: todo,seen,m=>if m.testBit f then QX P n todo seen m else QX P n ((P.funcs[f]?).elim [] P.leadsTo++todo) (f :: seen) (m ||| 2 ^ f)
def okB(seen:List FuncId)(m:Nat):Prop:=∀ f:Nat,seen.contains f=m.testBit f
theorem Zh{seen:List FuncId}{m:Nat}(h:okB seen m)(f:Nat):okB (f :: seen) (m ||| 2 ^ f):=λg=>by
 rw [List.contains_cons,h g,Nat.testBit_or,Nat.testBit_two_pow,Bool.or_comm]
 congr 1
 by_cases hg:g=f
 ·simp [hg]
 ·have:¬ f=g:=λh=>hg h.symm;simp [hg,this]
theorem M8(P:Program):∀ (a b:Nat) (todo seen:List FuncId) (m:Nat),okB seen m->P.closureVia (a+b) todo seen=P.closureVia b (QX P a todo seen m).1 (QX P a todo seen m).2.1
 | 0,b,todo,seen,m,h=>by rw [zWY]; rfl
 | a+1,b,[],seen,m,h=>by
  rw [show a+1+b=(a+b)+1 by omega];show seen.reverse=P.closureVia b [] seen
  cases b <;> rfl
 | a+1,b,f :: todo,seen,m,h=>by
  rw [show a+1+b=(a+b)+1 by omega];rw [show P.closureVia ((a+b)+1) (f :: todo) seen=if seen.contains f then P.closureVia (a+b) todo seen else P.closureVia (a+b) ((P.funcs[f]?).elim [] P.leadsTo++todo) (f :: seen) from rfl,
   show QX P (a+1) (f :: todo) seen m=if m.testBit f then QX P a todo seen m else QX P a ((P.funcs[f]?).elim [] P.leadsTo++todo) (f :: seen) (m ||| 2 ^ f) from rfl,h f]
  cases m.testBit f with
  | true=>exact M8 P a b todo seen m h
  | false=>exact M8 P a b _ _ _ (Zh h f)
def Qh(P:Program):Nat:=1+(P.funcs.toList.map λg=>(P.leadsTo g).length+1).sum
theorem Ur{P:Program}{f:FuncId}{a m:Nat}{L:List FuncId}(h:QX P a [f] [] 0=([],L.reverse,m))(hF:Nat.ble a (Qh P)=true):P.closure f=L:=by
 have hle:=Nat.le_of_ble_eq_true hF;unfold Program.closure;show P.closureVia (Qh P) [f] []=L;rw [show Qh P=a+(Qh P - a) by omega,M8 P a _ _ _ 0 (λg=>by simp),h]
 cases Qh P - a <;> simp [Program.closureVia]
theorem Us{P:Program}{f:FuncId}{L:List FuncId}{l:List String}(h:P.closure f=L)(h2:(L.filterMap λg=>(P.funcs[g]?).bind λfn=>if fn.ours || fn.body.isNone || fn.name == "runtime.NumGoroutine" then some fn.name else none)=l):P.inPlace f=l:=by
 unfold Program.inPlace; rw [h,h2]
theorem Pe{P:Program}{f:FuncId}{L:List FuncId}{b:Bool}(h:P.closure f=L)(h2:(L.any λg=>(P.funcs[g]?).any λfn=>match fn.body with | some c=>c.unfollowed | none=>entryCalls fn)=b):P.unfollowed f=b:=by
 unfold Program.unfollowed; rw [h]; exact h2
theorem SS{P:Program}{f:FuncId}(h:P.unfollowed f=true):P.recurses f=true:=by
 unfold Program.recurses; rw [h]; rfl
theorem QY{P:Program}{f:FuncId}{L:List FuncId}{l:List String}(h:P.closure f=L)(h2:((((L.flatMap λg=>((P.funcs[g]?).bind (·.body)).elim [] Code.globalsNamed).eraseDups).filterMap (λg=>(P.globals[g]?).map (·.name)) ++
  L.filterMap λg=>(P.funcs[g]?).bind λfn=>if fn.body.isNone then entryReads.lookup fn.name else none).eraseDups)=l):P.varsNamed f=l:=by
 unfold Program.varsNamed; rw [h,h2]
end Go.Tm
namespace Go.Tm
open Go.RowKit
section
variable {P:Program} {E:En} {g:Gh} {st st':St} {a:Act} {w w':World} {n:Nat}
theorem VR.dw{O R:Nat->Prop}{x:A}{v:Value}(h:VR w g O R x v)(hsh:g.sh=false)(hs:yT g.D g.dw w'):VR w { g with dw:=w' } O R x v:=by
 induction h with
 | t x v h=>exact .t x v h
 | nil=>exact .nil
 | own r hr=>exact VR.own (g:={ g with dw:=w' }) r hr
 | agg l vs hl h ih=>exact .agg l vs hl ih
 | tup l vs hl h ih=>exact .tup l vs hl ih
 | obj s off hs=>exact VR.obj (g:={ g with dw:=w' }) s off hs
 | elem r sz i off b n c hr he=>exact VR.elem (g:={ g with dw:=w' }) r sz i off b n c hr he
 | win r lo m n c c' ad a' hr he hm hp=>exact VR.win (g:={ g with dw:=w' }) r lo m n c c' ad a' hr he hm hp
 | sub r sz lo n c c' ad a' hr he hp=>exact VR.sub (g:={ g with dw:=w' }) r sz lo n c c' ad a' hr he hp
 | fadr cells b off u hF hx hr=>exact VR.fadr (g:={ g with dw:=w' }) cells b off u hF hx hr
 | nn sz rows v h hv=>exact VR.nn (g:={ g with dw:=w' }) sz rows v h hv
 | clo f caps vs hl h ih=>exact .clo f caps vs hl ih
 | undef v=>exact .undef v
 | raw v=>exact .raw v
 | osl s a n c hs ha=>exact VR.osl (g:={ g with dw:=w' }) s a n c hs ha
 | shp x v h=>exact VR.shp (g:={ g with dw:=w' }) x v h
 | ext s x v hs' h =>
  rw [hsh] at hs';subst hs';exact VR.ext (g:={ g with dw:=w' }) false x v hsh (h.rd hs λ_ h=>h).sd
 | exa s cells b off u hs' hD hx hr =>
  rw [hsh] at hs';subst hs';exact VR.exa (g:={ g with dw:=w' }) false cells b off u hsh hD (λj x h=>by rw [yv hs hD]; exact hx j x h) λj x h=>((hr j x h).rd hs λ_ h=>h).sd
structure Unk (E:En) (g:Gh) (st:St) (b:Nat):Prop where
 f:¬ g.F b
 o:∀ s,st.O s->g.ob s≠b
 r:∀ r,st.L r->(g.rw r).ownBlock≠some b
 d:¬ E.D b
theorem jq.unk{b:Nat}(hS:jq E g n st a w)(hb:b < E.w0.heap.size/\¬ E.X b/\¬ E.F0 b/\¬ E.D b):Unk E g st b:=by
 obtain ⟨h1,h2,h3,h4⟩:=hb;refine ⟨λh=>?_,λs hO he=>?_,λr hL he=>?_,h4⟩
 ·rcases (hS.mem.F b h).2.1 h1 with h | h
  ·exact h3 h
  ·exact h2 h
 ·obtain ⟨cells,hcells⟩:=aad.1 hO;obtain ⟨_,_,_,_,_,_,h5⟩:=hS.mem.ob s cells hcells;rw [he] at h5;rcases h5 with h5 | h5
  ·omega
  ·exact h2 h5
 ·obtain ⟨e,sz,rows,hL⟩:=hL;obtain ⟨_,_,_,_,h5⟩:=hS.mem.row r _ hL;rcases (h5 b he).2 with h5 | h5
  ·omega
  ·exact h2 h5
theorem jq.still{k:Nat}(hS:jq E g n st a w)(hsh:E.sh=false)(h1:k < E.w0.heap.size)(h2:¬ E.X k):w.heap[k]?=E.w0.heap[k]?:=by
 rcases hS.mem.frame k h1 h2 with h | ⟨h,_⟩
 ·exact h
 ·rw [hS.mem.dep0.1.2.2,hsh] at h; cases h
section
variable {w00:World} {X0 D0:Nat->Prop} {b m:Nat} {c x y:Code} {Q:Exit->St->List (List Int)->Prop} {ks:List (List Int)}
variable {p:Nat->Bool} {ρ:Nat->dR} {ops:Array Oper}
theorem Mn{Q:Exit->Act->World->Prop}[Tb P E]{l2:List Nat}(hd:∀ (i:Nat) (o:Oper),ops[i]?=some o->og n o=true):∀ {l:List Nat} {st:St} {g:Gh} {a:Act} {w:World},jq E g n st a w->MT P p ρ ops l st st' ->
  (∀ g a w,jq E g n st' a w->wpOps P ops Q l2 a w)->wpOps P ops Q (l++l2) a w
 | [],st,g,a,w,hS,h,hQ=>hQ g a w (by have h:st'=st:=h; rw [h]; exact hS)
 | i :: l,st,g,a,w,hS,⟨b,h1,h2⟩,hQ=>by
  rw [zYX,wpOps_cons];exact yU hS (hd i) h1 λg' a' w' hS'=>Mn hd hS' h2 hQ
end
end
section
variable {P:Program} {E:En} {g:Gh} {st st':St} {a:Act} {w w':World} {n:Nat} {w00:World} {X0 D0:Nat->Prop} {b m:Nat} {c x y:Code} {Q:Exit->St->List (List Int)->Prop} {ks:List (List Int)}
variable {p:Nat->Bool} {ρ:Nat->dR} {ops:Array Oper}
theorem Zi{s:Nat}(hS:jq E g n st a w)(hO:st.O s):g.ob s < w.heap.size/\(E.w0.heap.size<=g.ob s\/E.X (g.ob s)):=by
 obtain ⟨cells,hcells⟩:=aad.1 hO;obtain ⟨_,_,h1,_,_,_,h5⟩:=hS.mem.ob s cells hcells;exact ⟨(aaf.1 h1).1,h5⟩
theorem QZ{r k:Nat}(hS:jq E g n st a w)(hL:st.L r)(hk:(g.rw r).ownBlock=some k):k < w.heap.size/\(E.w0.heap.size<=k\/E.X k):=by
 obtain ⟨e,sz,rows,hL⟩:=hL;obtain ⟨_,ho,_,_,h5⟩:=hS.mem.row r _ hL;exact ⟨(ho.lt k hk).2,(h5 k hk).2⟩
theorem ST{l:List Oper}{l2:List Oper}(hops:ops.toList=l++l2)(hr:Dc P p ρ ops l st st'):MT P p ρ ops (zWx 0 l.length) st st':=by
 have key:∀ (l:List Oper) (k:Nat) (st:St),(∀ j,j < l.length->l[j]?=ops[k+j]?)->Dc P p ρ ops l st st'->MT P p ρ ops (zWx k l.length) st st':=by
  intro l
  induction l with
  | nil=>intro k st _ h; exact h
  | cons o l ih =>
   intro k st hl ⟨q,h1,h2⟩;refine ⟨q,?_,ih (k+1) q (λj hj=>by have:=hl (j+1) O7; simpa [zZW,Nat.add_comm 1 j] using this) h2⟩;have:=hl 0 eH;simp at this;unfold sA;rw [<- this];exact h1
 refine key l 0 st (λj hj=>?_) hr;rw [zWY,<- zWG,hops,zQW hj]
theorem Mo(hd:ops.toList.all (og n)=true):∀ (i:Nat) (o:Oper),ops[i]?=some o->og n o=true:=λi o ho=>aae.1 hd o (by simpa using Array.mem_of_getElem? ho)
end
section
variable {ι:Type} {P:Program} {E:En} [Tb P E] {g:Gh} {st st':St} {a:Act} {w:World} {n:Nat}
def Z8(w:World)(F:Nat->Prop)(us:List Value)(bs:List Nat)(vs:List V)(res:ι->V)(outs:ι->List (List C))(X:ι->World->List Nat->Prop)(e:Ending)(w':World):Prop :=
 ∃ i v F' bv bo Bs,e=.returned v/\su w w'/\(∀ b,b < w.heap.size->b∉bs->w'.heap[b]?=w.heap[b]?)/\(∀ b,F b->F' b)/\(∀ b,F' b->b < w'.heap.size/\(b < w.heap.size->F b\/b∈bs)/\(F b\/Wr w' b)) /\
  VV w' F' (res i) v bv/\qm w' F' vs us (outs i) bo/\(bv++bo++Bs).Nodup/\(∀ b∈bv++bo++Bs,¬ F' b/\(w.heap.size<=b\/b∈bs))/\X i w' Bs
def Ag(P:Program)(f:FuncId)(vs:List V)(res:ι->V)(outs:ι->List (List C))(X:ι->World->List Nat->Prop):Prop :=
 qn P f/\∀ (w:World) (F:Nat->Prop) (us:List Value) (bs:List Nat),(∀ b,F b->b < w.heap.size)->Db w F vs us bs->bs.Nodup->(∀ b∈bs,¬ F b)->PW P w (λb=>b∈bs)->Calls P f us.toArray w (Z8 w F us bs vs res outs X)
theorem SU{d f:Nat}{m:Bool}{p:Nat->Bool}{o:Oper}{xf:Operand}{args:Array Operand}{ts:Array TypeId}{caps az:List A}{vs:List V}{st1:St}{res:ι->V}{outs:ι->List (List C)}{X:ι->World->List Nat->Prop}{x:ι->A}{stx:ι->St}
  (hS:jq E g n st a w) (ho:o.op=.call { callee:=.value xf,args,argTypes:=ts }) (hf:st.eval xf=some (.clo f caps)) (mj:dx (args.toList.map st.eval)=some az)
  (hp:(lp m p (az++caps) MA.ret).run st=some (vs,st1)) (hc:Ag P f vs res outs X) (hr:∀ i,(dK d (d7 (az++caps)) (outs i) (V.toA d (gj d 0) (res i) MA.ret)).run st1=some (x i,stx i)) :
  yk P o a w λv w'=>∃ i Bs g',yi E g st w (x i) (stx i) v g' w'/\X i w' Bs/\Bs.Nodup/\∀ b∈Bs,CH E g' (stx i) b:=by
 have hM:=hS.mem;obtain ⟨hcl,hcc⟩:=hc;have hvf:=bU hS hf;generalize hvv:a.eval xf=vf at hvf
 cases hvf with
 | clo f caps vcaps hl hx =>
  refine jL ho hvv hcl ?_;obtain ⟨ha1,ha2⟩:=AG hS mj;obtain ⟨cs,st1',g1,bs,hM1,hE1,hL1,h1,hVV,hT,hA,hsl⟩:=vT (vs:=args.toList.map a.eval++vcaps) (az++caps) hM Xk (λj y hj=>by
   rw [zWq] at hj
   split at hj
   ·rename_i hlt;have hlt':j < (args.toList.map a.eval).length:=by rw [<- ha1]; exact hlt
    exact ⟨_,by rw [zQW hlt']; exact sX hlt',ha2 j y _ hj (sX hlt')⟩
   ·rename_i hge;have hlt:j - az.length < vcaps.length:=by rw [<- hl]; exact (aaa.1 hj).1
    exact ⟨_,by rw [zQV V1,<- ha1]; exact sX hlt,hx _ y _ hj (sX hlt)⟩) hp
  obtain ⟨rfl,rfl⟩:=fo h1;have hbsX:∀ b∈bs,b < E.w0.heap.size->E.X b:=λb hb hlt=>by
   rcases hT.of b hb with ⟨r,h2,_,h4⟩ | ⟨s,⟨c,cs,h2⟩,_,h4⟩
   ·rcases (hM.row_nf h2 h4).2 with h5 | h5
    ·omega
    ·exact h5
   ·rcases (hM.ob_nf (s:=s) Xb).2 with h5 | h5
    ·omega
    ·exact h4 ▸ h5
  refine (hcc w g1.F _ bs (λb hb=>(hM1.F b hb).1) hVV hT.nodup hT.nf (hM.tbW λb h1 h2 _ h3=>h2 (hbsX b h3 h1))).mono λe w' ⟨i,v,F',bv,bo,Bs,he,hcalm,hsame,hFF,hF',hvr,hO,hnd,hex,hX⟩=>⟨v,he,i,Bs,?_⟩;have hbsrow:∀ b∈bs,∀ r,st1.L r->(g1.rw r).ownBlock≠some b:=λb hb r hr he=>by
   rw [hL1.rw] at he;rcases hT.of b hb with ⟨r',h2,h3,h4⟩ | ⟨s,⟨c,cs,h2⟩,_,h4⟩
   ·exact h3 (hM.rowne r r' b (hL1.L r hr) h2 he h4 ▸ hr)
   ·exact hM.rowob r s (hL1.L r hr) Xb (h4 ▸ he)
  have hbsob:∀ b∈bs,∀ s,st1.O s->g1.ob s=b->st1.ob s=some []/\s∈d7 (az++caps):=λb hb s hs he=>by
   rw [hL1.ob] at he;have hs':st.O s:=(hL1.O s).1 hs;rcases hT.of b hb with ⟨r',h2,h3,h4⟩ | ⟨s',⟨c,cs,h2⟩,h3,h4⟩
   ·exact absurd (he ▸ h4) (hM.rowob r' s h2 hs')
   ·have:=hM.obne s s' hs' Xb (he.trans h4.symm);subst this;exact ⟨h3,hsl s YK⟩
  have hF0:∀ b,b < w.heap.size->F' b->g1.F b\/b∈bs:=λb h2 h3=>(hF' b h3).2.1 h2;have hA1:qo g1 (az++caps) vs (args.toList.map a.eval++vcaps):=hA.congr' hL1.ob;have hlentF:∀ s,s∈d7 (az++caps)->g1.ob s∈bo:=qm.mem hA1 hO;obtain ⟨hM2,hE2⟩:=hM1.step (w':=w') (g':={ g1 with F:=F' }) (st':=st1) hcalm (λb=>b∈bs) (λb h2 h3=>hsame b h2 h3) (λb hb=>hT.nf b hb) (λb h2 h3=>hbsX b h3 h2) hFF
   (λb h2 h3=>⟨(hF' b h2).1,λhlt=>(hF0 b (zQh hlt hM1.sizes) h2).elim (λh4=>absurd h4 h3) (λh4=>.inr (hbsX b h4 hlt)),.inr ((hF' b h2).2.2.resolve_left h3)⟩) (λ_ h=>⟨h,rfl⟩) (λ_ h=>⟨h,rfl⟩)
   (λs cells hs=>by
    have hOs:st1.O s:=by simp [St.O,hs]
    by_cases hb:g1.ob s∈bs
    ·obtain ⟨h5,h6⟩:=hbsob _ hb s hOs rfl;rw [hs] at h5
     cases h5
     obtain ⟨arr,e,hh⟩:=Em hA1 hO s h6;refine .inr ⟨arr,e,hh,by simp,by simp,?_,(hM1.ob_nf hOs).2⟩;exact (hex _ (aac.2 (.inl (aac.2 (.inr (hlentF s h6)))))).1
    ·refine .inl ⟨hs,hb,λhf=>?_⟩;rcases hF0 _ (hM1.ob_lt hOs) hf with h5 | h5
     ·exact (hM1.ob_nf hOs).1 h5
     ·exact hb h5) hM1.obne
   (λr x hr=>.inl ⟨hr,λhL b hb=>⟨λhm=>hbsrow b hm r hL hb,λhf=>by
    rcases hF0 b (hM1.row_lt hL hb) hf with h5 | h5
    ·exact (hM1.row_nf hL hb).1 h5
    ·exact hbsrow b h5 r hL hb⟩⟩) hM1.rowne hM1.rowob
  have hI:Inv E { g1 with F:=F' } st1 (d7 (az++caps)) (bo++(bv++Bs)):=by
   have hm:∀ x,x∈bo++(bv++Bs)->x∈bv++bo++Bs:=λx hx=>by
    simp only [zWw] at hx ⊢;rcases hx with h | h | h
    ·exact .inl (.inr h)
    ·exact .inl (.inl h)
    ·exact .inr h
   refine ⟨?_,λb hb=>(hex b (hm b hb)).1,λb hb=>?_,λb hb r hr he=>?_,λb hb s hs he=>?_⟩
   ·rw [zQv] at hnd;exact (List.perm_append_comm_assoc bv bo Bs).nodup hnd
   ·rcases (hex b (hm b hb)).2 with h5 | h5
    ·exact .inl (zWH hM1.sizes h5)
    ·by_cases hlt:b < E.w0.heap.size
     ·exact .inr (hbsX b h5 hlt)
     ·exact .inl ar
   ·rcases (hex b (hm b hb)).2 with h5 | h5
    ·exact absurd (hM1.row_lt hr he) ar
    ·exact hbsrow b h5 r hr he
   ·rcases (hex b (hm b hb)).2 with h5 | h5
    ·exact absurd (hM1.ob_lt hs) YL
    ·exact (hbsob b h5 s hs he).2
  have hA2:qo { g1 with F:=F' } (az++caps) vs (args.toList.map a.eval++vcaps):=hA1.congr' (g:=g1) (g1:={ g1 with F:=F' }) rfl;obtain ⟨st2,g2,hM3,hE3,hF3,ht3,h6,hI3⟩:=q8 (w:=w') hM2 hA2 hO hI (hr i);have hfr:∀ b∈bv++Bs,CH E g2 st2 b:=λb hb=>⟨hI3.F b hb,λs hs he=>by have:=hI3.ob b hb s hs he; simp at this,hI3.row b hb,hI3.X b hb⟩;have hnd3:=List.nodup_append.1 hI3.nodup;obtain ⟨x',st3,g3,hG,h7,hvx⟩:=vU (w:=w') (res i) hM3 (by rw [hF3]; exact hvr) hnd3.1 (λb hb=>hfr b (aac.2 (.inl hb))) h6;obtain ⟨e1,e2⟩:=fo h7;refine ⟨g3,by rw [e1,e2]; exact ⟨hG.mem,hvx,((hE1.trans hE2).trans hE3).trans hG.ext,hG.tm.trans (ht3.trans hL1.tm)⟩,hX,hnd3.2.1,λb hb=>?_⟩;rw [e2];exact hG.fr b (hfr b (aac.2 (.inr hb))) (λh=>hnd3.2.2 b h b hb rfl)
def En.anewL(E:En)(g:Gh)(st:St)(w:World):En:={ w0:=w,X:=λk=>(∃ s,st.O s/\g.ob s=k)\/∃ r,st.L r/\(g.rw r).ownBlock=some k,F0:=g.F,lent:=E.lent,D:=E.D }
theorem XQ(hS:jq E g n st a w){k:Nat}(h:(E.anewL g st w).X k):E.w0.heap.size<=k\/E.X k:=by
 rcases h with ⟨s,hO,he⟩ | ⟨r,hL,he⟩
 ·exact he ▸ (Zi hS hO).2
 ·exact (QZ hS hL he).2
theorem jq.anewL(hS:jq E g n st a w)(hsh:E.sh=false)(hpin:E.pin=none):jq (E.anewL g st w) { g with dw:=w } n st a w:=by
 have hM:=hS.mem;obtain ⟨⟨hD,hdw,hgs⟩,hd0⟩:=hM.dep0;have hgsh:g.sh=false:=hgs.trans hsh;have hSD:yT g.D g.dw w:=λk hk=>by
  rw [hD] at hk;obtain ⟨h1,h2,_⟩:=hd0 k hk;rw [hdw];rcases hM.frame k h1 h2 with h3 | ⟨h3,_⟩
  ·exact h3
  ·rw [hgsh] at h3; cases h3
 have hv:∀ {x v},VR w g st.O st.R x v->VR w { g with dw:=w } st.O st.R x v:=λh=>h.dw hgsh hSD;refine ⟨⟨λs cells h=>?_,hM.obne,λr x h=>?_,hM.rowne,hM.rowob,λk hk=>⟨(hM.F k hk).1,λ_=>.inl hk,.inl hk⟩,rfl,rfl,rfl,zWk _,λ_ _ _=>.inl rfl,hM.shp,⟨hD,rfl,hgsh⟩,λk hk=>?_⟩,
  hS.size,hS.defers,λi hi=>?_,hS.und,hS.lent,λ_ h=>G6⟩
 ·obtain ⟨arr,e,h1,h2,h3,h4,h5⟩:=hM.ob s cells h;have hO:st.O s:=by simp [St.O,h]
  exact ⟨arr,e,h1,h2,λj x hj=>by
   obtain ⟨h6,v,h7,h8⟩:=h3 j x hj;exact ⟨h6,v,h7,hv h8⟩,h4,.inr (.inl ⟨s,hO,rfl⟩)⟩
 ·have hr:=hM.row r x h
  cases x with
  | live e sz rows =>
   have hL:st.L r:=⟨e,sz,rows,h⟩;obtain ⟨inner,h1,h2,h3,h4⟩:=hr;exact ⟨inner,h1,h2,h3,λk hk=>⟨(h4 k hk).1,.inr (.inr ⟨r,hL,hk⟩)⟩⟩
  | frz sz rows=>exact hr
  | gone=>exact hr
 ·obtain ⟨h1,h2,_⟩:=hd0 k hk;refine ⟨zQh h1 hM.sizes,λhX=>?_,λh=>G6⟩;rcases XQ hS hX with h | h
  ·omega
  ·exact h2 h
 ·obtain ⟨v,h1,h2⟩:=hS.tm i hi;exact ⟨v,h1,hv h2⟩
structure Kl (E E':En):Prop where
 n0:E.w0.heap.size<=E'.w0.heap.size
 same:∀ k,k < E.w0.heap.size->¬ E.X k->¬ E'.X k/\E'.w0.heap[k]?=E.w0.heap[k]?
 F0:∀ k,E'.F0 k->(k < E.w0.heap.size->E.F0 k\/E.X k)/\(E.F0 k\/Wr E'.w0 k)
 fx:∀ k,E'.F0 k->¬ E'.X k
 os:E'.w0.os=E.w0.os
 tape:E'.w0.tape=E.w0.tape
 output:E'.w0.output=E.w0.output
 d:E'.D=E.D
 sh:E'.sh=false
 lent:E'.lent=E.lent
 pin:E'.pin=none
theorem Kl.anew(hS:jq E g n st a w)(hsh:E.sh=false):Kl E (E.anewL g st w):=by
 have hM:=hS.mem;refine ⟨hM.sizes,λk h1 h2=>⟨λh=>?_,hS.still hsh h1 h2⟩,λk hk=>⟨(hM.F k hk).2.1,(hM.F k hk).2.2⟩,λk hk h=>?_,hM.os,hM.tape,hM.output,rfl,rfl,rfl,rfl⟩
 ·rcases XQ hS h with h | h
  ·omega
  ·exact h2 h
 ·rcases h with ⟨s,hO,he⟩ | ⟨r,hL,he⟩
  ·exact (hM.ob_nf hO).1 (he ▸ hk)
  ·exact (hM.row_nf hL he).1 hk
theorem jq.home{E':En}(hK:Kl E E')(hsh:E.sh=false)(hpin:E.pin=none)(hd:∀ b,E.D b->b < E.w0.heap.size/\¬ E.X b)(hS:jq E' g n st a w):jq E { g with dw:=E.w0 } n st a w:=by
 have hM:=hS.mem;obtain ⟨⟨hD,hdw,hgs⟩,hd0⟩:=hM.dep0;have hgsh:g.sh=false:=hgs.trans hK.sh;have hSD:yT g.D g.dw E.w0:=λk hk=>by
  rw [hD,hK.d] at hk;obtain ⟨h1,h2⟩:=hd k hk;rw [hdw,(hK.same k h1 h2).2]
 have hv:∀ {x v},VR w g st.O st.R x v->VR w { g with dw:=E.w0 } st.O st.R x v:=λh=>h.dw hgsh hSD;have hX:∀ {k},E'.w0.heap.size<=k\/E'.X k->E.w0.heap.size<=k\/E.X k:=λ{k} h=>by
  rcases h with h | h
  ·exact .inl (zWH hK.n0 h)
  ·by_cases h1:k < E.w0.heap.size
   ·by_cases h2:E.X k
    ·exact .inr h2
    ·exact absurd h (hK.same k h1 h2).1
   ·exact .inl ar
 refine ⟨⟨λs cells h=>?_,hM.obne,λr x h=>?_,hM.rowne,hM.rowob,λk hk=>?_,hM.os.trans hK.os,hM.tape.trans hK.tape,hM.output.trans hK.output,zWH hK.n0 hM.sizes,λk h1 h2=>.inl ?_,hM.shp,⟨hD.trans hK.d,rfl,hgsh.trans hsh.symm⟩,λk hk=>?_⟩,
  hS.size,hS.defers,λi hi=>?_,hS.und,λs b h=>hS.lent s b (by rw [hK.lent]; exact h),λ_ h=>(by rw [hpin] at h; cases h)⟩
 ·obtain ⟨arr,e,h1,h2,h3,h4,h5⟩:=hM.ob s cells h;exact ⟨arr,e,h1,h2,λj x hj=>by
   obtain ⟨h6,v,h7,h8⟩:=h3 j x hj;exact ⟨h6,v,h7,hv h8⟩,h4,hX h5⟩
 ·have hr:=hM.row r x h
  cases x with
  | live e sz rows =>
   obtain ⟨inner,h1,h2,h3,h4⟩:=hr;exact ⟨inner,h1,h2,h3,λk hk=>⟨(h4 k hk).1,hX (h4 k hk).2⟩⟩
  | frz sz rows=>exact hr
  | gone=>exact hr
 ·obtain ⟨h1,h2,h3⟩:=hM.F k hk;refine ⟨h1,λhlt=>?_,?_⟩
  ·rcases h2 (zQh hlt hK.n0) with h | h
   ·exact (hK.F0 k h).1 hlt
   ·rcases hX (.inr h) with h | h
    ·omega
    ·exact .inr h
  ·rcases h3 with h | h
   ·rcases (hK.F0 k h).2 with h4 | ⟨arr,e,h4⟩
    ·exact .inl h4
    ·refine .inr ⟨arr,e,?_⟩;rw [hS.still hK.sh (aaf.1 h4).1 (hK.fx k h)];exact h4
   ·exact .inr h
 ·obtain ⟨h3,h5⟩:=hK.same k h1 h2;rw [hS.still hK.sh (zQh h1 hK.n0) h3,h5]
 ·obtain ⟨h1,h2⟩:=hd k hk;refine ⟨h1,h2,λh=>?_⟩;rw [hsh] at h; cases h
 ·obtain ⟨v,h1,h2⟩:=hS.tm i hi;exact ⟨v,h1,hv h2⟩
end
abbrev xk:=Option Addr×Nat×Nat
abbrev hv(h:xk):Value:=.slice h.1 h.2.1 h.2.2
abbrev hT(h:xk):T:=.hdr h.1 h.2.1 h.2.2
def hB(h:xk):List Nat:=(hv h).ownBlock.toList
def bys(x:List Int):List Value:=x.map (Value.int .u8)
inductive K where
 | none
 | inn (hs:List xk) (xs:List (List Int))
 | deep (h:xk) (xs:List (List Int))
 | hole (hs:List xk) (xs:List (List Int)) (i:Nat)
def Ut(e2:TypeId)(w:World)(hs:List xk)(xs:List (List Int)):Prop:=hs.length=xs.length/\∀ (i:Nat) (h:xk) (x:List Int),hs[i]?=some h->xs[i]?=some x->w.ownsRow 0 e2 1 (hv h) x.length (bys x)
def Y(e e2:TypeId):K->World->List Nat->Prop
 | .none,_,Bs=>Bs=[]
 | .inn hs xs,w,Bs=>Ut e2 w hs xs/\Bs=hs.flatMap hB
 | .deep h xs,w,Bs=>∃ hs,Ut e2 w hs xs/\w.ownsRow 0 e 1 (hv h) hs.length (hs.map hv)/\Bs=hB h++hs.flatMap hB
 | .hole hs xs i,w,Bs=>(hs.length=xs.length/\∀ (j:Nat) (h:xk) (x:List Int),j≠i->hs[j]?=some h->xs[j]?=some x->w.ownsRow 0 e2 1 (hv h) x.length (bys x))/\Bs=(hs.eraseIdx i).flatMap hB
theorem Ca{w w':World}{base:Nat}{e:TypeId}{sz n:Nat}{v:Value}{xs:List Value}(h:w.ownsRow base e sz v n xs)(hs:∀ b,v.ownBlock=some b->w'.heap[b]?=w.heap[b]?):w'.ownsRow base e sz v n xs:=by
 refine ⟨h.1,?_⟩;rcases h.2 with h1 | ⟨g,cap,cur,hv,h2,h3,h4⟩
 ·exact .inl h1
 ·exact .inr ⟨g,cap,cur,hv,h2,by rw [hs g (by rw [hv]; rfl)]; exact h3,h4⟩
theorem mn{h:xk}{b:Nat}:b∈hB h↔(hv h).ownBlock=some b:=by unfold hB; simp
section
variable {e e2:TypeId} {w w':World}
theorem Ut.same{hs:List xk}{xs:List (List Int)}(h:Ut e2 w hs xs)(hB':∀ b∈hs.flatMap hB,w'.heap[b]?=w.heap[b]?):Ut e2 w' hs xs :=
 ⟨h.1,λi q x h1 h2=>Ca (h.2 i q x h1 h2) λb hb=>hB' b (List.mem_flatMap.2 ⟨q,zQY h1,mn.2 hb⟩)⟩
theorem Ut.lt{hs:List xk}{xs:List (List Int)}(h:Ut e2 w hs xs):∀ b∈hs.flatMap hB,b < w.heap.size:=λb hb=>by
 obtain ⟨q,hq,hb⟩:=List.mem_flatMap.1 hb;obtain ⟨i,hi⟩:=aai.1 hq;have hl:=(aaa.1 hi).1;exact ((h.2 i q _ hi (sX (by rw [<- h.1]; exact hl))).lt b (mn.1 hb)).2
theorem Hv{hs:List xk}{i b:Nat}:b∈(hs.eraseIdx i).flatMap hB↔∃ j h,j≠i/\hs[j]?=some h/\b∈hB h:=by
 simp only [List.mem_flatMap,List.mem_eraseIdx_iff_getElem?];constructor
 ·rintro ⟨h,⟨j,h1,h2⟩,h3⟩; exact ⟨j,h,h1,h2,h3⟩
 ·rintro ⟨j,h,h1,h2,h3⟩; exact ⟨h,⟨j,h1,h2⟩,h3⟩
theorem Y.lt:∀ {k:K} {Bs:List Nat},Y e e2 k w Bs->∀ b∈Bs,b < w.heap.size
 | .none,Bs,h=>λb hb=>by have:Bs=[]:=h; subst this; cases hb
 | .inn hs xs,Bs,h=>λb hb=>by obtain ⟨h1,rfl⟩:=h; exact h1.lt b hb
 | .deep q xs,Bs,h=>λb hb=>by
  obtain ⟨hs,h1,h2,rfl⟩:=h;rcases aac.1 hb with hb | hb
  ·exact (h2.lt b (mn.1 hb)).2
  ·exact h1.lt b hb
 | .hole hs xs i,Bs,h=>λb hb=>by
  obtain ⟨⟨h1,h2⟩,rfl⟩:=h;obtain ⟨j,q,h3,h4,h5⟩:=Hv.1 hb;have hl:=(aaa.1 h4).1;exact ((h2 j q _ h3 h4 (sX (by rw [<- h1]; exact hl))).lt b (mn.1 h5)).2
theorem Y.same:∀ {k:K} {Bs:List Nat},Y e e2 k w Bs->(∀ b∈Bs,w'.heap[b]?=w.heap[b]?)->Y e e2 k w' Bs
 | .none,Bs,h,_=>h
 | .inn hs xs,Bs,h,hs'=>by obtain ⟨h1,rfl⟩:=h; exact ⟨h1.same hs',rfl⟩
 | .deep q xs,Bs,h,hs'=>by
  obtain ⟨hs,h1,h2,rfl⟩:=h;exact ⟨hs,h1.same λb hb=>hs' b (aac.2 (.inr hb)),Ca h2 λb hb=>hs' b (aac.2 (.inl (mn.2 hb))),rfl⟩
 | .hole hs xs i,Bs,h,hs'=>by
  obtain ⟨⟨h1,h2⟩,rfl⟩:=h;exact ⟨⟨h1,λj q x h3 h4 h5=>Ca (h2 j q x h3 h4 h5) λb hb=>hs' b (Hv.2 ⟨j,q,h3,h4,mn.2 hb⟩)⟩,rfl⟩
end
section
variable {P:Program} {E E0:En} {g:Gh} {st st':St} {a:Act} {w:World} {n:Nat} {ls:List Nat} {x y c:Code} {k:K} {e e2:TypeId} {Q:Exit->St->K->Prop}
def XR(E0 E:En)(e e2:TypeId)(k:K):Prop:=∃ Bs,Y e e2 k E.w0 Bs/\Bs.Nodup/\∀ b∈Bs,(b < E.w0.heap.size/\¬ E.X b/\¬ E.F0 b/\¬ E.D b)/\(E0.w0.heap.size<=b\/E0.X b)
def Wd(P:Program)(n:Nat)(ls:List Nat)(E0:En)(e e2:TypeId)(c:Code)(Q:Exit->St->K->Prop)(st:St)(k:K):Prop :=
 ∀ (E:En) (g:Gh) (a:Act) (w:World),Vu P E ls->Kl E0 E->XR E0 E e e2 k->jq E g n st a w ->
  c.wp P (λx a' w'=>∃ E' g' st' k',Vu P E' ls/\Kl E0 E'/\XR E0 E' e e2 k'/\jq E' g' n st' a' w'/\Q x st' k') a w
def M9(N:St->K->Prop)(Q:Exit->St->K->Prop):Exit->St->K->Prop
 | .normal,st,k=>N st k
 | x,st,k=>Q x st k
def Zj(id:Nat)(Q:Exit->St->K->Prop):Exit->St->K->Prop
 | .exit id',st,k=>bif zXW id' id then Q .normal st k else Q (.exit id') st k
 | x,st,k=>Q x st k
theorem XS{Q':Exit->St->Prop}(h:Wp P n ls c Q' st)(hQ:∀ x st',Q' x st'->Q x st' k):Wd P n ls E0 e e2 c Q st k:=λE g a w hE hK hB hS =>
 wp_mono (h E g a w hE hS) λx a' w' ⟨g',st',h1,h2⟩=>⟨E,g',st',k,hE,hK,hB,h1,hQ x st' h2⟩
theorem Wd.seq(h:Wd P n ls E0 e e2 x (M9 (Wd P n ls E0 e e2 y Q) Q) st k):Wd P n ls E0 e e2 (.seq x y) Q st k :=
 λE g a w hE hK hB hS=>wp_seq (wp_mono (h E g a w hE hK hB hS) λx a' w' ⟨E',g',st',k',h1,h2,h3,h4,h5⟩=>by
  cases x with
  | normal=>exact h5 E' g' a' w' h1 h2 h3 h4
  | _=>exact ⟨E',g',st',k',h1,h2,h3,h4,h5⟩)
theorem Wd.cond{o:Operand}{q:Bool}(ho:st.eval o=some (.t (.bool q)))(ht:q=true->Wd P n ls E0 e e2 x Q st k)(hf:q=false->Wd P n ls E0 e e2 y Q st k):Wd P n ls E0 e e2 (.cond o x y) Q st k :=
 λE g a w hE hK hB hS=>by
  have hv:=bU hS ho;generalize hva:a.eval o=v at hv
  cases hv with
  | t x v hr =>
   cases hr
   refine wp_cond hva ?_
   cases q with
   | true=>exact ht rfl E g a w hE hK hB hS
   | false=>exact hf rfl E g a w hE hK hB hS
theorem Wd.block{id:Nat}(h:Wd P n ls E0 e e2 c (Zj id Q) st k):Wd P n ls E0 e e2 (.block id c) Q st k :=
 λE g a w hE hK hB hS=>wp_block (wp_mono (h E g a w hE hK hB hS) λx a' w' ⟨E',g',st',k',h1,h2,h3,h4,h5⟩=>by
  cases x with
  | exit id' =>
   simp only [Exit.inBlock];simp only [Zj] at h5
   split
   ·rename_i he;have he:id'=id:=by simpa using he
    subst he;rw [zZj] at h5;exact ⟨E',g',st',k',h1,h2,h3,h4,h5⟩
   ·rename_i he;have he:zXW id' id=false:=by
     cases hb:zXW id' id with
     | false=>rfl
     | true=>exact absurd (zWv hb) (by simpa using he)
    rw [he] at h5;exact ⟨E',g',st',k',h1,h2,h3,h4,h5⟩
  | _=>exact ⟨E',g',st',k',h1,h2,h3,h4,h5⟩)
theorem Wd.skip(h:Q .normal st k):Wd P n ls E0 e e2 .skip Q st k:=λE g a w hE hK hB hS=>wp_skip ⟨E,g,st,k,hE,hK,hB,hS,h⟩
theorem Wd.exit{id:Nat}(h:Q (.exit id) st k):Wd P n ls E0 e e2 (.exit id) Q st k:=λE g a w hE hK hB hS=>wp_exit ⟨E,g,st,k,hE,hK,hB,hS,h⟩
theorem Wd.ret(h:Q .ret st k):Wd P n ls E0 e e2 .ret Q st k:=λE g a w hE hK hB hS=>wp_ret ⟨E,g,st,k,hE,hK,hB,hS,h⟩
theorem Wd.mono{Q':Exit->St->K->Prop}(h:Wd P n ls E0 e e2 c Q st k)(hq:∀ x st k,Q x st k->Q' x st k):Wd P n ls E0 e e2 c Q' st k:=λE g a w hE hK hB hS =>
 wp_mono (h E g a w hE hK hB hS) λx a' w' ⟨E',g',st',k',h1,h2,h3,h4,h5⟩=>⟨E',g',st',k',h1,h2,h3,h4,hq x st' k' h5⟩
theorem Wd.le{st1:St}(hl:Le n ls st st1)(h:Wd P n ls E0 e e2 c Q st1 k):Wd P n ls E0 e e2 c Q st k:=λE g a w hE hK hB hS=>by
 obtain ⟨g',hS'⟩:=hl E g a w hE.1 hS;exact h E g' a w hE hK hB hS'
theorem qa7(R:St->K->Prop)(J:∀ s k,R s k->Wd P n ls E0 e e2 y Q s k)(h:Wd P n ls E0 e e2 x (M9 R Q) st k):Wd P n ls E0 e e2 (.seq x y) Q st k:=Wd.seq (h.mono λx s k hq=>by
 cases x with
 | normal=>exact J s k hq
 | _=>exact hq)
def Z9(P:Program)(n:Nat)(ls:List Nat)(E0:En)(e e2:TypeId)(c:Code)(Q:Exit->St->K->Prop):Nat->St->K->Prop
 | 0,_,_=>False
 | j+1,st,k=>Wd P n ls E0 e e2 c (M9 (Z9 P n ls E0 e e2 c Q j) Q) st k
theorem Wd.loop{j:Nat}(h:Z9 P n ls E0 e e2 c Q j st k):Wd P n ls E0 e e2 (.loop c) Q st k:=by
 intro E g a w hE hK hB hS;refine SD (k:=j) ?_
 induction j generalizing E st g a w k with
 | zero=>exact h.elim
 | succ j ih =>
  refine wp_mono (h E g a w hE hK hB hS) λx a' w' ⟨E',g',st',k',h1,h2,h3,h4,h5⟩=>?_
  cases x with
  | normal=>exact ih h5 E' g' a' w' h1 h2 h3 h4
  | _=>exact ⟨E',g',st',k',h1,h2,h3,h4,h5⟩
theorem Wd.L(R:Nat->St->K->Prop)(h0:∀ s k,¬ R 0 s k)(hs:∀ j s k,R (j+1) s k->Wd P n ls E0 e e2 x (M9 (R j) Q) s k){j:Nat}(h:R j st k):Wd P n ls E0 e e2 (.loop x) Q st k:=by
 refine Wd.loop (j:=j) ?_
 induction j generalizing st k with
 | zero=>exact absurd h (h0 st k)
 | succ j ih =>
  refine (hs j st k h).mono λx s k hq=>?_
  cases x with
  | normal=>exact ih hq
  | _=>exact hq
end
section
variable {P:Program} {E E0:En} {g:Gh} {st st':St} {a:Act} {w:World} {n:Nat} {ls:List Nat} {x y c:Code} {k k':K} {e e2:TypeId} {Q:Exit->St->K->Prop}
theorem Kl.refl(h1:∀ b,E0.F0 b->¬ E0.X b)(hsh:E0.sh=false)(hpin:E0.pin=none):Kl E0 E0 :=
 ⟨zWk _,λ_ _ h=>⟨h,rfl⟩,λ_ h=>⟨λ_=>.inl h,.inl h⟩,h1,rfl,rfl,rfl,rfl,hsh,rfl,hpin⟩
theorem Kl.trans{E1:En}(h:Kl E0 E)(q:Kl E E1):Kl E0 E1:=by
 refine ⟨zWH h.n0 q.n0,λb h1 h2=>?_,λb hb=>⟨λh1=>?_,?_⟩,q.fx,q.os.trans h.os,q.tape.trans h.tape,q.output.trans h.output,q.d.trans h.d,q.sh,q.lent.trans h.lent,q.pin⟩
 ·obtain ⟨h3,h4⟩:=h.same b h1 h2;obtain ⟨h5,h6⟩:=q.same b (zQh h1 h.n0) h3;exact ⟨h5,h6.trans h4⟩
 ·rcases (q.F0 b hb).1 (zQh h1 h.n0) with h3 | h3
  ·exact (h.F0 b h3).1 h1
  ·by_cases h4:E0.X b
   ·exact .inr h4
   ·exact absurd h3 (h.same b h1 h4).1
 ·rcases (q.F0 b hb).2 with h3 | h3
  ·rcases (h.F0 b h3).2 with h4 | ⟨arr,e,h4⟩
   ·exact .inl h4
   ·exact .inr ⟨arr,e,by rw [(q.same b (aaf.1 h4).1 (h.fx b h3)).2]; exact h4⟩
  ·exact .inr h3
theorem Vu.anew(hE:Vu P E ls)(hls:1∉ls)(hS:jq E g n st a w)(hsh:E.sh=false):Vu P (E.anewL g st w) ls:=by
 have hT:=hE.2;obtain ⟨⟨fl,e1,e2,e3,e4⟩,_⟩:=hE;refine ⟨⟨fl,e1,e2,λv h=>G6,λh=>absurd (by rw [e1]; exact List.mem_append_right _ h) hls⟩,⟨hS.mem.tbW (P:=P) (X:=λb=>(E.anewL g st w).X b\/((E.anewL g st w).sh=true/\(E.anewL g st w).D b)) λb h1 h2 _ h=>?_⟩⟩;rcases h with h | ⟨h,_⟩
 ·rcases XQ hS h with h | h
  ·omega
  ·exact h2 h
 ·cases h
structure Apt (g:Gh) (st:St) (b:Nat):Prop where
 F:¬ g.F b
 ob:∀ s,st.O s->g.ob s≠b
 row:∀ r,st.L r->(g.rw r).ownBlock≠some b
theorem Wd.anew(hls:1∉ls)(hE:Vu P E ls)(hK:Kl E0 E)(hS:jq E g n st a w){Bs:List Nat}(hY:Y e e2 k w Bs)(hnd:Bs.Nodup)(hB:∀ b∈Bs,Apt g st b/\(E0.w0.heap.size<=b\/E0.X b))(hd:∀ b,E0.D b->b < E0.w0.heap.size/\¬ E0.X b) :
  Vu P (E.anewL g st w) ls/\Kl E0 (E.anewL g st w)/\XR E0 (E.anewL g st w) e e2 k/\jq (E.anewL g st w) { g with dw:=w } n st a w:=by
 refine ⟨hE.anew hls hS hK.sh,hK.trans (Kl.anew hS hK.sh),⟨Bs,hY,hnd,λb hb=>⟨⟨hY.lt b hb,λh=>?_,(hB b hb).1.F,λh=>?_⟩,(hB b hb).2⟩⟩,hS.anewL hK.sh hK.pin⟩
 ·rcases h with ⟨s,hO,he⟩ | ⟨r,hL,he⟩
  ·exact (hB b hb).1.ob s hO he
  ·exact (hB b hb).1.row r hL he
 ·have h2:E0.D b:=by rw [<- hK.d]; exact h
  have h3:=hd b h2;rcases (hB b hb).2 with h4 | h4
  ·omega
  ·exact h3.2 h4
theorem XR.now(h:XR E0 E e e2 k)(hK:Kl E0 E)(hS:jq E g n st a w):∃ Bs,Y e e2 k w Bs/\Bs.Nodup/\∀ b∈Bs,Apt g st b/\(E0.w0.heap.size<=b\/E0.X b):=by
 obtain ⟨Bs,h1,h2,h3⟩:=h;refine ⟨Bs,h1.same λb hb=>hS.still hK.sh (h3 b hb).1.1 (h3 b hb).1.2.1,h2,λb hb=>⟨?_,(h3 b hb).2⟩⟩;have hU:=hS.unk (h3 b hb).1;exact ⟨hU.f,hU.o,hU.r⟩
def A.u0(r:Nat)(h:xk):A->A
 | .own q=>bif zXW q r then .t (hT h) else .own q
 | x=>x
def A.u1(r:Nat)(h:xk):A->A
 | .agg l=>.agg (l.map (A.u0 r h))
 | x=>x.u0 r h
def A.u2(r:Nat)(h:xk):A->A
 | .tup l=>.tup (l.map (A.u1 r h))
 | x=>x.u1 r h
def St.unown(r:Nat)(h:xk)(st:St):St:=⟨λi=>(st.tm i).u2 r h,λs=>(st.ob s).map (List.map (A.u0 r h)),eI st.rw r (some .gone)⟩
section
variable {O R:Nat->Prop} {r:Nat} {h:xk} {z:A} {v:Value}
theorem VR.u0(he:g.rw r=hv h)(hx:VR w g O R z v):VR w g O R (z.u0 r h) v:=by
 unfold A.u0
 split
 ·rename_i q
  cases hq:zXW q r with
  | true =>
   have:=zWv hq;subst this
   cases hx with
   | own r hr=>rw [he]; exact .t _ _ (.hdr _ _ _)
  | false=>exact hx
 ·exact hx
theorem VR.u1(he:g.rw r=hv h)(hx:VR w g O R z v):VR w g O R (z.u1 r h) v:=by
 unfold A.u1
 split
 ·rename_i l
  cases hx with
  | agg l vs hl hx =>
   exact .agg _ vs QH λi x v h1 h2=>by
    rw [zQZ] at h1;obtain ⟨y,h3,rfl⟩:=aab.1 h1;exact (hx i y v h3 h2).u0 he
 ·exact hx.u0 he
theorem VR.u2(he:g.rw r=hv h)(hx:VR w g O R z v):VR w g O R (z.u2 r h) v:=by
 unfold A.u2
 split
 ·rename_i l
  cases hx with
  | tup l vs hl hx =>
   exact .tup _ vs QH λi x v h1 h2=>by
    rw [zQZ] at h1;obtain ⟨y,h3,rfl⟩:=aab.1 h1;exact (hx i y v h3 h2).u1 he
 ·exact hx.u1 he
theorem qat(hz:z.one=true):(z.u0 r h).one=true:=by
 unfold A.u0
 split
 ·rename_i q
  cases zXW q r <;> rfl
 ·exact hz
end
theorem jq.unown(hS:jq E g n st a w)(hpin:E.pin=none){r:Nat}{e' sz:Nat}{rows:List (List T)}(hr:st.rw r=some (.live e' sz rows)):∃ h:xk,g.rw r=hv h/\jq E g n (st.unown r h) a w/\∀ b∈hB h,Apt g (st.unown r h) b/\b < w.heap.size/\(E.w0.heap.size<=b\/E.X b):=by
 have hM:=hS.mem;obtain ⟨A,N,C,hh⟩:=(hM.row r _ hr).slice;have he:g.rw r=hv (A,N,C):=hh;have hL0:st.L r:=⟨e',sz,rows,hr⟩;obtain ⟨hM1,hE1⟩:=hM.gone_row r _ hr;have hO:∀ s,(st.unown r (A,N,C)).O s↔st.O s:=λs=>by simp [St.O,St.unown]
 have hR:∀ q,(st.unown r (A,N,C)).R q↔({ st with rw:=eI st.rw r (some .gone) }:St).R q:=λq=>Iff.rfl;have hL:∀ q,(st.unown r (A,N,C)).L q↔({ st with rw:=eI st.rw r (some .gone) }:St).L q:=λq=>Iff.rfl;have hv':∀ {x v},VR w g st.O st.R x v->VR w g (st.unown r (A,N,C)).O (st.unown r (A,N,C)).R x v:=λh=>h.mono ⟨λ_ _=>rfl,λ_ h=>h,λs h=>⟨(hO s).2 h,rfl⟩,λq h=>⟨(hE1.R q h).1,rfl⟩,⟨rfl,rfl,rfl⟩,rfl,rfl⟩;refine ⟨(A,N,C),he,⟨⟨λs cells hs=>?_,λs s' h1 h2 h3=>hM.obne s s' ((hO s).1 h1) ((hO s').1 h2) h3,hM1.row,hM1.rowne,λq s h1 h2=>hM1.rowob q s h1 ((hO s).1 h2),hM.F,hM.os,hM.tape,hM.output,hM.sizes,hM.frame,hM.shp,hM.dep0⟩,hS.size,hS.defers,λi hi=>?_,λi hi=>?_,λs b hs=>?_,λv hv=>(by rw [hpin] at hv; cases hv)⟩,λb hb=>⟨⟨?_,λs hs h1=>?_,λq hq h1=>?_⟩,?_,?_⟩⟩
 ·simp only [St.unown,zWZ] at hs;obtain ⟨cells0,h1,rfl⟩:=hs;obtain ⟨arr,e,h2,h3,h4,h5,h6⟩:=hM.ob s cells0 h1;refine ⟨arr,e,h2,by simpa using h3,λj x hj=>?_,h5,h6⟩;rw [zQZ] at hj;obtain ⟨y,h7,rfl⟩:=aab.1 hj;obtain ⟨h8,v,h9,h10⟩:=h4 j y h7;exact ⟨qat h8,v,h9,(hv' h10).u0 he⟩
 ·obtain ⟨v,h1,h2⟩:=hS.tm i hi;exact ⟨v,h1,(hv' h2).u2 he⟩
 ·show (st.tm i).u2 r (A,N,C)=.undef;rw [hS.und i hi];rfl
 ·obtain ⟨h1,h2⟩:=hS.lent s b hs;exact ⟨(hO s).2 h1,h2⟩
 ·exact (hM.row_nf hL0 (he ▸ mn.1 hb)).1
 ·exact hM.rowob r s hL0 ((hO s).1 hs) (by rw [he,mn.1 hb,h1])
 ·rcases xW.1 hq with ⟨_,_,_,_,h3⟩ | ⟨h3,h4⟩
  ·cases h3
  ·exact h3 (hM.rowne q r b h4 hL0 h1 (he ▸ mn.1 hb))
 ·exact (QZ hS hL0 (he ▸ mn.1 hb)).1
 ·exact (QZ hS hL0 (he ▸ mn.1 hb)).2
theorem Kl.up(hK:Kl E0 E){b:Nat}(h:E.w0.heap.size<=b\/E.X b):E0.w0.heap.size<=b\/E0.X b:=by
 rcases h with h | h
 ·exact .inl (zWH hK.n0 h)
 ·by_cases h1:b < E0.w0.heap.size
  ·by_cases h2:E0.X b
   ·exact .inr h2
   ·exact absurd h (hK.same b h1 h2).1
  ·exact .inl ar
inductive SV (e e2:TypeId):K->TypeId->List (List T)->(xk->K)->Prop
 | inn (hs:List xk) (xs:List (List Int)) (x:List Int):SV e e2 (.inn hs xs) e2 (x.map (aj .u8)) λh=>.inn (hs++[h]) (xs++[x])
 | out (hs:List xk) (xs:List (List Int)):SV e e2 (.inn hs xs) e (hs.map λh=>[hT h]) λh=>.deep h xs
theorem Qi{w0:World}{X F:Nat->Prop}{h:Value}{e':TypeId}{α:Type}{f:α->T}{gv:α->Value}{xs:List α}(hf:∀ x u,Rd w F (f x) u->u=gv x)(hr:m9 w0 w X F h (.live e' 1 (xs.map λx=>[f x]))):w.ownsRow 0 e' 1 h xs.length (xs.map gv):=by
 obtain ⟨inner,h1,h2,h3,h4⟩:=hr;have hl:inner.length=xs.length:=by have:=h1.1; simpa using this
 have:inner=xs.map gv:=by
  refine List.ext_getElem? λi=>?_;rw [zQZ]
  cases hx:xs[i]? with
  | none=>rw [Option.map_none,aah.2]; rw [hl]; exact aah.1 hx
  | some x =>
   obtain ⟨u,h5,h6⟩:=h3 i [f x] 0 (f x) R6 rfl;rw [zZq,zXv] at h5;rw [h5,hf x u h6];rfl
 rw [this] at h1
 simpa using h1
theorem Na{e':TypeId}{rows:List (List T)}{kf:xk->K}{r:Nat}(hls:1∉ls)(hd:∀ b,E0.D b->b < E0.w0.heap.size/\¬ E0.X b)(hk:SV e e2 k e' rows kf)(hE:Vu P E ls)(hK:Kl E0 E)(hBe:XR E0 E e e2 k)(hS:jq E g n st a w)(hr:st.rw r=some (.live e' 1 rows)) :
  ∃ h,Vu P (E.anewL g (st.unown r h) w) ls/\Kl E0 (E.anewL g (st.unown r h) w)/\XR E0 (E.anewL g (st.unown r h) w) e e2 (kf h)/\jq (E.anewL g (st.unown r h) w) { g with dw:=w } n (st.unown r h) a w:=by
 obtain ⟨Bs,h1,h2,h3⟩:=hBe.now hK hS;obtain ⟨h,he,hS1,h4⟩:=hS.unown hK.pin hr;have hL0:st.L r:=⟨e',1,rows,hr⟩;have hrow:=hS.mem.row r _ hr;have hdis:∀ b∈Bs,b∉hB h:=λb hb hm=>(h3 b hb).1.row r hL0 (he ▸ mn.1 hm);have hApt:∀ b∈Bs,Apt g (st.unown r h) b:=λb hb=>by
  have h5:=(h3 b hb).1;refine ⟨h5.F,λs hs=>h5.ob s ?_,λq hq=>h5.row q ?_⟩
  ·simpa [St.O,St.unown] using hs
  ·rcases xW.1 hq with ⟨_,_,_,_,h6⟩ | ⟨_,h6⟩
   ·cases h6
   ·exact h6
 have hnh:(hB h).Nodup:=by unfold hB; cases (hv h).ownBlock <;> simp
 refine ⟨h,?_⟩
 cases hk with
 | inn hs xs x =>
  obtain ⟨h5,rfl⟩:=h1;have hown:=Qi (f:=λi=>T.int .u8 i) (gv:=Value.int .u8) (λx u h=>by cases h; rfl) (xs:=x) hrow;rw [he] at hown;refine Wd.anew (Bs:=hs.flatMap hB++hB h) hls hE hK hS1 ⟨⟨by simp [h5.1],λi q y h6 h7=>?_⟩,by simp⟩ (List.nodup_append.2 ⟨h2,hnh,λa ha b hb hab=>hdis a ha (hab ▸ hb)⟩) (λb hb=>?_) hd
  ·by_cases hi:i < hs.length
   ·rw [zQW hi] at h6;rw [zQW (by rw [<- h5.1]; exact hi)] at h7;exact h5.2 i q y h6 h7
   ·rw [zQV ar] at h6;rw [zQV (by rw [<- h5.1]; omega),<- h5.1] at h7
    cases hj:i - hs.length with
    | zero =>
     rw [hj] at h6 h7;simp only [zWX,Option.some.injEq] at h6 h7;subst h6 h7;exact hown
    | succ j=>rw [hj] at h6; simp at h6
  ·rcases aac.1 hb with hb | hb
   ·exact ⟨hApt b hb,(h3 b hb).2⟩
   ·exact ⟨(h4 b hb).1,hK.up (h4 b hb).2.2⟩
 | out hs xs =>
  obtain ⟨h5,rfl⟩:=h1;have hown:=Qi (f:=hT) (gv:=hv) (λx u h=>by cases h; rfl) (xs:=hs) hrow;rw [he] at hown;refine Wd.anew (Bs:=hB h++hs.flatMap hB) hls hE hK hS1 ⟨hs,h5,hown,rfl⟩ (List.nodup_append.2 ⟨hnh,h2,λa ha b hb hab=>hdis b hb (hab ▸ ha)⟩) (λb hb=>?_) hd;rcases aac.1 hb with hb | hb
  ·exact ⟨(h4 b hb).1,hK.up (h4 b hb).2.2⟩
  ·exact ⟨hApt b hb,(h3 b hb).2⟩
end
section
variable {P:Program} {E E0:En} {g:Gh} {st st':St} {a:Act} {w:World} {n:Nat} {ls:List Nat} {x y c:Code} {k:K} {e e2:TypeId} {Q:Exit->St->K->Prop} {N:St->K->Prop}
theorem nT(h:N st k):M9 N Q .normal st k:=h
theorem XU{i:Nat}(h:Q (.exit i) st k):M9 N Q (.exit i) st k:=h
theorem Ah{id:Nat}(h:Q .normal st k):Zj id Q .normal st k:=h
theorem qa8{id:Nat}(h:Q .normal st k):Zj id Q (.exit id) st k:=by
 show (bif zXW id id then Q .normal st k else Q (.exit id) st k);rw [zZj];exact h
theorem Wd.of(h:Wp P n ls c (λz s=>Q z s k) st):Wd P n ls E0 e e2 c Q st k:=XS h λ_ _ h=>h
theorem Wd.sw(h:Wp P n ls x (λz s=>M9 (Wd P n ls E0 e e2 y Q) Q z s k) st):Wd P n ls E0 e e2 (.seq x y) Q st k:=Wd.seq (Wd.of h)
theorem Bv{α:Type}{o:Operand}{b:Bool}{e1 e3 r:α}(h:(bif b then e1 else e3)=r)(ht:e1=r->Wd P n ls E0 e e2 x Q st k)(hf:e3=r->Wd P n ls E0 e e2 y Q st k)(ho:st.eval o=some (.t (.bool b)):=by kernel_rfl):Wd P n ls E0 e e2 (.cond o x y) Q st k :=
 Wd.cond ho (λhc=>ht (Ul h hc)) (λhc=>hf (Um h hc))
theorem Wd.rg{id:Nat}{ops:Array Oper}(h:ab P (Pd []) (nc []) ops ops.toList st λs=>Q .normal s k)(hd:ops.toList.all (og n)=true:=by kernel_rfl):Wd P n ls E0 e e2 (.region id ops false) Q st k :=
 Wd.of (B9 (Pd []) (nc []) hd h)
theorem pF{id:Nat}{ops:Array Oper}(h:ab P (Pd []) (nc []) ops ops.toList st λs=>Wd P n ls E0 e e2 y Q s k)(hd:ops.toList.all (og n)=true:=by kernel_rfl):Wd P n ls E0 e e2 (.seq (.region id ops false) y) Q st k :=
 Wd.sw (B9 (Pd []) (nc []) hd h)
theorem Qj{id:Nat}{ops:Array Oper}(h:Wd P n ls E0 e e2 y Q (St.or (ru P (nc []) ops ops.toList st)) k)(h1:(ru P (nc []) ops ops.toList st).isSome=true:=by kernel_rfl)(hd:ops.toList.all (og n)=true:=by kernel_rfl):Wd P n ls E0 e e2 (.seq (.region id ops false) y) Q st k :=
 pF (ab.all h1 h) hd
theorem Zk(h:Wd P n ls E0 e e2 c Q st (.inn [] [])):Wd P n ls E0 e e2 c Q st .none:=λE g a w hE hK hB hS=>h E g a w hE hK (by
 obtain ⟨Bs,h1,h2,h3⟩:=hB;have h1:Bs=[]:=h1;subst h1;exact ⟨[],⟨⟨rfl,λi q y h6 h7=>(by simp at h6)⟩,rfl⟩,h2,h3⟩) hS
structure WC (P:Program) (E0:En) (ls:List Nat):Prop where
 tb:PW P E0.w0 E0.X
 d:∀ b,E0.D b->b < E0.w0.heap.size/\¬ E0.X b
 one:1∉ls
theorem Wd.drop{e':TypeId}{rows:List (List T)}{kf:xk->K}(r:Nat)(h0:WC P E0 ls)(hk:SV e e2 k e' rows kf)(h:∀ q,Wd P n ls E0 e e2 c Q (st.unown r q) (kf q))(hr:st.rw r=some (.live e' 1 rows):=by kernel_rfl):Wd P n ls E0 e e2 c Q st k:=λE g a w hE hK hB hS=>by
 obtain ⟨q,h1,h2,h3,h4⟩:=Na h0.one h0.d hk hE hK hB hS hr;exact h q _ _ _ _ h1 h2 h3 h4
theorem SW{p:Nat->Bool}{ρ:Nat->dR}{ops:Array Oper}{l2:List Oper}{j:Nat}(hd:ops.toList.all (og n)=true)(hl:∀ i,l2[i]?=ops[j+i]?)(hE:Vu P E ls)(hK:Kl E0 E)(hB:XR E0 E e e2 k)(hS:jq E g n st a w)
  (h:ab P p ρ ops l2 st λs=>Q .normal s k) :
  wpOps P ops (λx a' w'=>∃ E' g' st' k',Vu P E' ls/\Kl E0 E'/\XR E0 E' e e2 k'/\jq E' g' n st' a' w'/\Q x st' k') (zWx j l2.length) a w:=by
 obtain ⟨st3,hr,hw⟩:=h;have:=hE.2;have key:=Mn (P:=P) (l2:=[]) (Q:=λx a' w'=>∃ E' g' st' k',Vu P E' ls/\Kl E0 E'/\XR E0 E' e e2 k'/\jq E' g' n st' a' w'/\Q x st' k')
  (Mo hd) hS (ym hl hr) λg3 a3 w3 hS3=>⟨E,g3,st3,k,hE,hK,hB,hS3,hw⟩
 rwa [zXH] at key
theorem qau{p:Nat->Bool}{ρ:Nat->dR}{ops:Array Oper}{id:Nat}{e':TypeId}(j r:Nat)(h0:WC P E0 ls)
  (h:ab P p ρ ops (ops.toList.take j) st λs=>∃ rows kf,s.rw r=some (.live e' 1 rows)/\SV e e2 k e' rows kf/\∀ q,ab P p ρ ops (ops.toList.drop j) (s.unown r q) λs3=>Q .normal s3 (kf q))
  (hd:ops.toList.all (og n)=true:=by kernel_rfl) (hj:Nat.ble j ops.size=true:=by kernel_rfl):Wd P n ls E0 e e2 (.region id ops false) Q st k:=λE g a w hE hK hB hS=>by
 have:=hE.2;obtain ⟨st1,h1,rows,kf,h2,h3,h4⟩:=h;have hj:=Nat.le_of_ble_eq_true hj;have hrange:zWj ops.size=zWx 0 (ops.toList.take j).length++zWx j (ops.toList.drop j).length:=by
  have e1:(ops.toList.take j).length=j:=by simp; omega
  have e2:(ops.toList.drop j).length=ops.size - j:=by simp
  rw [e1,e2,zXj];have:=zVG (s:=0) (m:=j) (n:=ops.size - j);rw [zWY] at this;rw [this,show j+(ops.size - j)=ops.size by omega]
 refine wp_region ?_;rw [hrange];refine Mn (p:=p) (Mo hd) hS (ST (zYY j ops.toList).symm h1) λg1 a1 w1 hS1=>?_;obtain ⟨q,h5,h6,h7,h8⟩:=Na h0.one h0.d h3 hE hK hB hS1 h2;exact SW hd (λi=>by rw [zQH]; simp) h5 h6 h7 h8 (h4 q)
theorem VB{ι:Type}{p:Nat->Bool}{ρ:Nat->dR}{ops:Array Oper}{id fid:Nat}{vs:List V}{res:ι->V}{outs:ι->List (List C)}{X:ι->World->List Nat->Prop}{kf:ι->K}(h0:WC P E0 ls)(m:Bool)(j d:Nat)(az:List A)(hc:Ag P fid vs res outs X)(hX:∀ i w Bs,X i w Bs->Y e e2 (kf i) w Bs)
  (hk:∀ i,ab P p ρ ops (ops.toList.drop (j+1)) (Z7 m p d az (res i) (outs i) (t8 P ρ ops j ops.toList st)) λst3=>Q .normal st3 (kf i))
  (hd:ops.toList.all (og n)=true:=by kernel_rfl) (h1:(ru P ρ ops (ops.toList.take j) st).isSome=true:=by kernel_rfl) (h2:FZ P ρ ops (t8 P ρ ops j ops.toList st) (ops.toList.drop j)=some (fid,az,d):=by kernel_rfl) (hg:((ops[j]?).bind λo=>o.guard).isNone=true:=by kernel_rfl)
  (h3:((lp m p az MA.ret).run (t8 P ρ ops j ops.toList st)).map Prod.fst=some vs:=by kernel_rfl)
  (h4:∀ i,((dK d (d7 az) (outs i) (V.toA d (gj d 0) (res i) MA.ret)).run (Mk ((lp m p az MA.ret).run (t8 P ρ ops j ops.toList st)))).isSome=true:=by intro i; kernel_rfl):Wd P n ls E0 e e2 (.region id ops false) Q st .none:=by
 intro E g a w hE hK hBe hS;have hT:=hE.2;obtain ⟨o,l',xf,args,ts,bz,caps,hl,hgw,hfit,hop,hdst,hxf,mj,haz⟩:=Af h2;simp only at haz hdst;have hko:ops[j]?=some o:=by
  have:=congrArg (λl=>l[0]?) hl
  simpa using this
 have hdrop:ops.toList.drop (j+1)=l':=by
  have h1:=congrArg (List.drop 1) hl;rw [List.drop_drop] at h1;exact h1
 have hlen:ops.size=j+1+l'.length:=by
  have:=congrArg List.length hl;simp at this;omega
 have hrange:zWj ops.size=zWx 0 (ops.toList.take j).length++j :: zWx (j+1) l'.length:=by
  have e:(ops.toList.take j).length=j:=by simp; omega
  rw [e,zXj,hlen,show j+1+l'.length=j+(1+l'.length) by omega,<- zVG,zWY,Nat.add_comm 1,zYZ]
 refine wp_region ?_;rw [hrange];obtain ⟨st1,hst1⟩:=aad.1 h1;have hst:t8 P ρ ops j ops.toList st=st1:=by unfold t8; rw [hst1]; rfl
 rw [hst] at h3 h4 hxf mj hk;refine Mn (p:=p) (Mo hd) hS (ST (zYY j ops.toList).symm (Bt hst1)) λg1 a1 w1 hS1=>?_;rw [wpOps_cons];unfold wpOp;rw [hko];simp only;have hgn:o.guard=none:=by
  rw [hko] at hg
  simpa using hg
 rw [show Region.wanted o (yielded ops a1.tmps)=true by simp [Region.wanted,hgn],if_pos rfl];obtain ⟨⟨vs',st2⟩,hp,hvs⟩:=aab.1 h3;simp only at hvs;subst hvs;rw [hp] at h4;have hrs:∀ i,(dK d (d7 az) (outs i) (V.toA d (gj d 0) (res i) MA.ret)).run st2=some (Z5 ((dK d (d7 az) (outs i) (V.toA d (gj d 0) (res i) MA.ret)).run st2),Mk ((dK d (d7 az) (outs i) (V.toA d (gj d 0) (res i) MA.ret)).run st2)):=λi=>by
  obtain ⟨q,hq⟩:=aad.1 (h4 i);have hq':(dK d (d7 az) (outs i) (V.toA d (gj d 0) (res i) MA.ret)).run st2=some q:=hq;rw [hq'];rfl
 subst haz;refine .inl (SU hS1 hop hxf mj hp hc hrs _ _ λv w' ⟨i,Bs,g',hA,hXi,hnd,hB⟩=>?_);have hS2:=hS1.put hA (MU (Mo hd _ _ hko));rw [hdst] at hS2 ⊢;have hk':=hk i;unfold Z7 at hk';rw [hp,hdrop] at hk';obtain ⟨q1,q2,q3,q4⟩:=Wd.anew (e:=e) (e2:=e2) (k:=kf i) h0.one hE hK hS2 (hX i w' Bs hXi) hnd (λb hb=>⟨⟨(hB b hb).F,(hB b hb).ob,(hB b hb).row⟩,hK.up (hB b hb).X⟩) h0.d;refine SW (p:=p) (ρ:=ρ) hd (λi=>?_) q1 q2 q3 q4 hk';rw [<- hdrop,zQH];simp
end
theorem Pf{ι:Type}{P:Program}{fn:Func}{c:Code}{f:FuncId}{args:List V}{az:List A}{st0:St}{m:Bool}{res:ι->V}{outs:ι->List (List C)}{X:ι->World->List Nat->Prop}(e e2:TypeId)
  (hf:P.funcs[f]?=some fn) (hb:fn.body=some c) (hnm:(fn.name == "runtime.NumGoroutine")=false) (hle:az.length<=fn.ntmps) (ht:wo fn.ntmps fn=true)
  (ha:(pE 0 args MA.ret).run dD=some (az,st0)) (hl:iM 0 args az=true) (hone:1∉eR 0 args)
  (h:∀ E0,WC P E0 (eR 0 args)->Wd P fn.ntmps (eR 0 args) E0 e e2 c (λz s k=>∃ i,Br P m fn args (res i) (outs i) z s/\∀ w Bs,Y e e2 k w Bs->X i w Bs) (gK az st0) .none):Ag P f args res outs X:=by
 refine ⟨⟨fn,hf,by simp [hb],hnm⟩,λw F vs bs hF hVV hnd hnf htb=>?_⟩
 let E:En:={ w0:=w,X:=λb=>b∈bs,F0:=F,lent:=mm 0 args vs }
 let g0:Gh:={ F:=F,ob:=λ_=>0,rw:=λ_=>.nilFunc,dw:=w }
 have hM0:fm E g0 dD w:=⟨λs cells h=>G6,λs s' h=>G6,λr x h=>G6,λr r' b h=>R7,λr s h=>R7,
  λb hb=>⟨hF b hb,λ_=>.inl hb,.inl hb⟩,rfl,rfl,rfl,zWk _,λ_ _ _=>.inl rfl,λ_ h=>h.elim,⟨rfl,rfl,rfl⟩,λ_ h=>h.elim⟩
 obtain ⟨az',st1,g1,hG,h1,hlen,hx⟩:=El args hM0 hVV hnd (λb hb=>⟨hnf b hb,λs hs=>(by cases hs),λr hr=>qai,.inr hb⟩) ha;obtain ⟨rfl,rfl⟩:=fo h1;have hM1:fm E g1 (gK az st0) w:=⟨hG.mem.ob,hG.mem.obne,hG.mem.row,hG.mem.rowne,hG.mem.rowob,hG.mem.F,hG.mem.os,hG.mem.tape,hG.mem.output,hG.mem.sizes,hG.mem.frame,hG.mem.shp,hG.mem.dep0⟩;obtain ⟨hl1,hl2⟩:=Bq hl hVV hlen hx;have hS:jq E g1 fn.ntmps (gK az st0) { tmps:=vs.toArray++zZy (fn.ntmps - vs.toArray.size) undef,defers:=[] } w:=by
  refine ⟨hM1,by simp; omega,rfl,λi hi=>?_,λi hi=>?_,hl1,λ_ h=>G6⟩
  ·show ∃ v,_/\VR w g1 st0.O st0.R (match az[i]? with | some a=>a | none=>.undef) v
   cases hai:az[i]? with
   | some a =>
    obtain ⟨u,hu,hr⟩:=hx i a hai;have hlt:i < vs.length:=(aaa.1 hu).1;exact ⟨u,by rw [zYk V2]; simpa using hu,hr⟩
   | none =>
    have hge:az.length<=i:=aah.1 hai;refine ⟨undef,?_,.undef _⟩;rw [zYy (by simpa [<- hlen] using hge)];rw [zZX,if_pos YP]
  ·show (match az[i]? with | some a=>a | none=>.undef)=A.undef;rw [aah.2 ar]
 have hK0:Kl E E:=Kl.refl (λb hb hx=>hnf b hx hb) rfl rfl;have hB0:XR E E e e2 .none:=⟨[],rfl,List.nodup_nil,λb hb=>(by cases hb)⟩;refine calls_of_wp hf hb (wp_mono (h E ⟨htb,λb hb=>hb.elim,hone⟩ E g1 _ w ⟨⟨[],by rw [zXH]; exact (qr _ _ _).symm,I3 _ _ _,λ_ h=>G6,λh=>G6⟩,⟨htb.mono λb h=>h.elim id λh=>(by cases h.1)⟩⟩ hK0 hB0 hS) λz a' w' ⟨E',g',st',k',_,hK,hBe,hS2,i,hR,hX⟩=>?_);obtain ⟨Bs,hY,hBn,hBs⟩:=hBe.now hK hS2;have hS':=hS2.home hK rfl rfl (λb hb=>hb.elim);obtain ⟨he,l,st2,res0,outs0,hres,hrun,hvle,hole⟩:=hR;have hfin:a'.defers=[]/\∃ v,(results fn a'.tmps).run P w'=.ok v w'/\Z8 w F vs bs args res outs X (.returned v) w':=by
  refine ⟨hS'.defers,?_⟩;obtain ⟨v,hrv,hvv⟩:=Mj hS' hres ht;refine ⟨v,hrv,?_⟩;have hM':=hS'.mem;obtain ⟨os,st3,g3,bo,hM3,hE3,hL3,h3,hO,hT3⟩:=Bp (w:=w') args hM' (us:=vs) (hVV.len.symm) (λj c hj=>by
   obtain ⟨b,h5,h6⟩:=hl2 j c hj;rw [(hS'.lent _ _ h6).2];exact h5) hrun
  obtain ⟨c',st4,g4,bv,hM4,hE4,hL4,h4,hv4,hT4⟩:=Hr hM3 (hvv.mono hE3) h3;obtain ⟨h5,rfl⟩:=fo h4;injection h5 with h5 h6
  subst h5 h6;have hT:=hT3.app hM' hL3 hT4 hL4;have hL:=hL3.trans hL4;have hof:∀ b∈bo++bv,w.heap.size<=b\/b∈bs:=λb hb=>by
   rcases hT.of b hb with ⟨r,⟨e,sz,rows,h7⟩,_,h8⟩ | ⟨s,⟨c,cs,h7⟩,_,h8⟩
   ·obtain ⟨_,_,_,_,h9⟩:=hM'.row r _ h7;exact (h9 b h8).2
   ·obtain ⟨_,_,_,_,_,_,h9⟩:=hM'.ob s _ h7;rw [h8] at h9;exact h9
  have hnF:∀ b∈bo++bv,¬ (g4.F b\/F b):=λb hb h=>by
   rcases h with h | h
   ·exact hT.nf b hb h
   ·rcases hof b hb with h7 | h7
    ·have:=hF b h; omega
    ·exact hnf b h7 h
  have hBnF:∀ b∈Bs,¬ (g4.F b\/F b):=λb hb h=>by
   rcases h with h | h
   ·rcases hL.F b h with h7 | ⟨r,h7,_,h8⟩
    ·exact (hBs b hb).1.F h7
    ·exact (hBs b hb).1.row r h7 h8
   ·rcases (hBs b hb).2 with h7 | h7
    ·exact absurd (hF b h) (by show ¬ b < w.heap.size; have:w.heap.size<=b:=h7; omega)
    ·exact hnf b h7 h
  have hdis:∀ b∈bo++bv,b∉Bs:=λb hb hm=>by
   rcases hT.of b hb with ⟨r,h7,_,h8⟩ | ⟨s,⟨c,cs,h7⟩,_,h8⟩
   ·exact (hBs b hm).1.row r h7 h8
   ·exact (hBs b hm).1.ob s (by simp [St.O,h7]) h8
  have hmem:∀ b,b∈bv++bo->b∈bo++bv:=λb hb=>by
   rcases aac.1 hb with h | h <;> simp [h]
  refine ⟨i,v,λb=>g4.F b\/F b,bv,bo,Bs,rfl,⟨hM4.os,hM4.tape,hM4.output,hM4.sizes⟩,λb hb hbs=>hM4.frm rfl b hb hbs,λb h=>.inr h,λb h=>?_,hvle.vv (hv4.mono (λ_ _=>rfl) (λ_ h=>.inl h) (λ_ _=>rfl)),MY (hO.mono (λb h=>.inl (hE4.F b h))) hole,?_,λb hb=>?_,hX w' Bs hY⟩
  ·rcases h with h | h
   ·exact hM4.F b h
   ·exact ⟨zQh (hF b h) hM4.sizes,λ_=>.inl h,.inl h⟩
  ·have:=hT.nodup;rw [zXw] at this ⊢;refine ⟨List.nodup_append.2 ⟨this.2.1,this.1,λx hx y hy he=>this.2.2 y hy x hx he.symm⟩,hBn,λx hx y hy he=>hdis x (hmem x hx) (he ▸ hy)⟩
  ·rcases aac.1 hb with hb | hb
   ·exact ⟨hnF b (hmem b hb),hof b (hmem b hb)⟩
   ·exact ⟨hBnF b hb,(hBs b hb).2⟩
 rcases he with rfl | rfl
 ·exact hfin
 ·exact hfin
theorem obq{ι:Type}{P:Program}{f:FuncId}{c:Code}{args:List V}{res:ι->V}{outs:ι->List (List C)}{X:ι->World->List Nat->Prop}(fn:Func)(m:Bool)(e e2:TypeId)
  (h:∀ E0,WC P E0 (eR 0 args)->Wd P fn.ntmps (eR 0 args) E0 e e2 c (λz s k=>∃ i,Br P m fn args (res i) (outs i) z s/\∀ w Bs,Y e e2 k w Bs->X i w Bs) (gK ((((pE 0 args MA.ret).run dD).map Prod.fst).getD []) (Mk ((pE 0 args MA.ret).run dD))) .none)
  (hb:fn.body=some c:=by rfl) (hf:P.funcs[f]?=some fn:=by kernel_rfl) (hnm:(fn.name == "runtime.NumGoroutine")=false:=by kernel_rfl) (hle:Nat.ble ((((pE 0 args MA.ret).run dD).map Prod.fst).getD []).length fn.ntmps=true:=by kernel_rfl) (ht:wo fn.ntmps fn=true:=by kernel_rfl)
  (ha:((pE 0 args MA.ret).run dD).isSome=true:=by kernel_rfl) (hl:iM 0 args ((((pE 0 args MA.ret).run dD).map Prod.fst).getD [])=true:=by kernel_rfl) (hone:(eR 0 args).all (λi=>!zXW i 1)=true:=by kernel_rfl):Ag P f args res outs X:=by
 have hone:1∉eR 0 args:=λh=>by have:=aae.1 hone 1 h; simp at this
 obtain ⟨⟨az,st0⟩,h1⟩:=aad.1 ha;refine Pf (m:=m) (az:=az) (st0:=st0) e e2 hf hb hnm (by simpa [h1] using hle) ht h1 (by simpa [h1] using hl) hone ?_;rw [h1] at h;exact h
def F1(xs:List (List Int)):T:=.sl 1 (xs.map λx=>[.sl 1 (x.map (aj .u8))])
theorem Uu{w:World}{F:Nat->Prop}{e:TypeId}{α:Type}{h:xk}{xs:List α}{f:α->T}{gv:α->Value}(ho:w.ownsRow 0 e 1 (hv h) xs.length (xs.map gv))(hF:∀ b∈hB h,F b)(hr:∀ x∈xs,Rd w F (f x) (gv x)):Rd w F (.sl 1 (xs.map λx=>[f x])) (hv h):=by
 obtain ⟨h1,h2⟩:=ho;rcases h2 with ⟨h3,h4⟩ | ⟨g,cap,cur,h3,_,h5,h6,h7,h8,h9⟩
 ·have:xs=[]:=zQQ h4;subst this;unfold hv at h3 ⊢;rw [h3];exact .sl0 _ _ _ λ_=>rfl
 ·unfold hv at h3 ⊢;rw [h3];have:=Rd.sl (w:=w) (F:=F) 1 (xs.map λx=>[f x]) g 0 cap (λi _=>(xs.map gv)[i]?.getD default) (by simpa using h6) (hF g (mn.2 (by unfold hv; rw [h3]; rfl))) (λi row hi=>by
    rw [zQZ] at hi;obtain ⟨x,_,rfl⟩:=aab.1 hi;rfl)
   (λi row j x hi hj=>by
    rw [zQZ] at hi;obtain ⟨y,hy,rfl⟩:=aab.1 hi
    cases j with
    | succ j=>simp at hj
    | zero =>
     have h10:(xs.map gv)[i]?=some (gv y):=by rw [zQZ,hy]; rfl
     have h11:=h10;rw [<- h9,zQw] at h11
     split at h11
     ·simp only [World.cell?,h5,zZq,zWY,zXv,h10,zYH]
      simpa using h11
     ·cases h11)
   (λi row j x hi hj=>by
    rw [zQZ] at hi;obtain ⟨y,hy,rfl⟩:=aab.1 hi
    cases j with
    | succ j=>simp at hj
    | zero =>
     simp only [zWX,Option.some.injEq] at hj;subst hj;have h10:(xs.map gv)[i]?=some (gv y):=by rw [zQZ,hy]; rfl
     simp only [h10,zYH];exact hr y (zQY hy))
  simpa using this
theorem Y.rd{w:World}{F:Nat->Prop}{e e2:TypeId}{h:xk}{xs:List (List Int)}{Bs:List Nat}(hY:Y e e2 (.deep h xs) w Bs)(hF:∀ b∈Bs,F b):Rd w F (F1 xs) (hv h):=by
 obtain ⟨hs,h1,h2,rfl⟩:=hY;have hlen:=h1.1
 -- both lists side by side
 have key:Rd w F (.sl 1 ((hs.zip xs).map λq=>[.sl 1 (q.2.map (aj .u8))])) (hv h):=by
  refine Uu (e:=e) (gv:=λq=>hv q.1) ?_ (λb hb=>hF b (aac.2 (.inl hb))) λq hq=>?_
  ·have e1:(hs.zip xs).map (λq=>hv q.1)=hs.map hv:=by
    rw [show (hs.zip xs).map (λq=>hv q.1)=((hs.zip xs).map Prod.fst).map hv by rw [zZx]; rfl,List.map_fst_zip ar]
   rw [e1]
   simpa [hlen] using h2
  ·obtain ⟨i,hi⟩:=aai.1 hq;rw [List.getElem?_zip_eq_some] at hi;have h3:=h1.2 i q.1 q.2 hi.1 hi.2;exact Uu (e:=e2) (f:=λn=>T.int .u8 n) (gv:=Value.int .u8) h3 (λb hb=>hF b (aac.2 (.inr (List.mem_flatMap.2 ⟨q.1,zQY hi.1,hb⟩)))) λx _=>.int _ _
 have e2:(hs.zip xs).map (λq=>[T.sl 1 (q.2.map (aj .u8))])=xs.map λx=>[T.sl 1 (x.map (aj .u8))]:=by
  have:(hs.zip xs).map Prod.snd=xs:=List.map_snd_zip ar
  conv=>rhs; rw [<- this]
  rw [zZx];rfl
 rw [e2] at key;exact key
def St.cv(d0:Nat)(st:St):St:={ st with tm:=eI st.tm d0 (.own PR) }
section
variable {P:Program} {E:En} [Tb P E] {g:Gh} {st st' b c:St} {a:Act} {w:World} {p:Nat->Bool} {ρ:Nat->dR} {ops:Array Oper} {n:Nat} {j0 d0:Nat} {h:xk} {o0:Oper}
theorem sA.cv{i:Nat}(hs:sA P p ρ ops i b c)(ht:∀ o,ops[i]?=some o->d0∉B7 ops o/\o.dst≠some d0):sA P p ρ ops i (b.cv d0) (c.cv d0)/\c.tm d0=b.tm d0:=by
 unfold sA at *
 cases ho:ops[i]? with
 | none =>
  rw [ho] at hs;have hs:c=b:=hs;subst hs;exact ⟨rfl,rfl⟩
 | some o =>
  rw [ho] at hs;obtain ⟨h1,h2⟩:=ht o ho;obtain ⟨hoff,hloc⟩:=Ad.loc hs;obtain ⟨c',e1,e2,e3,e4⟩:=hloc (b.cv d0) (λt ht2=>ci _ _ _ _ (λhe=>by subst he; exact h1 (Ho ht2))) (λt ht2=>ci _ _ _ _ (λhe=>by subst he; exact h1 (aac.2 (.inl ht2)))) ⟨λs hs=>rfl,λs hs=>rfl⟩;have hE1:=Md p ρ o;have hcc:c'=c.cv d0:=by
   refine St.ext (funext λt=>?_) (funext λs=>?_) (funext λr=>?_)
   ·by_cases h2t:o.dst=some t
    ·rw [e2 t h2t];show c.tm t=eI c.tm d0 _ t;exact (ci _ _ _ _ (λhe=>by subst he; exact h2 h2t)).symm
    ·rw [e3.1 t h2t];show eI b.tm d0 _ t=eI c.tm d0 _ t
     by_cases htd:t=d0
     ·subst htd; rw [dk,dk]
     ·rw [ci _ _ _ _ htd,ci _ _ _ _ htd,hoff.1 t h2t]
   ·by_cases h2s:(du p ρ o).dom.oW s
    ·exact e4.ob s (hE1.ob s h2s)
    ·rw [e3.2.1 s h2s]; exact (hoff.2.1 s h2s).symm
   ·by_cases h2s:(du p ρ o).dom.rW r
    ·exact e4.rw r (hE1.rw r h2s)
    ·rw [e3.2.2 r h2s]; exact (hoff.2.2 r h2s).symm
  exact ⟨hcc ▸ e1,hoff.1 d0 h2⟩
def Nb(P:Program)(p:Nat->Bool)(ρ:Nat->dR)(ops:Array Oper)(j0 d0:Nat)(h:xk)(i:Nat)(st c:St):Prop :=
 (i≠j0/\sA P p ρ ops i st c)\/(i=j0/\∃ b,sA P p ρ ops j0 st b/\b.tm d0=.t (hT h)/\c=b.cv d0)
def Uv(P:Program)(p:Nat->Bool)(ρ:Nat->dR)(ops:Array Oper)(j0 d0:Nat)(h:xk):List Nat->St->St->Prop
 | [],st,st'=>st'=st
 | i :: l,st,st'=>∃ b,Nb P p ρ ops j0 d0 h i st b/\Uv P p ρ ops j0 d0 h l b st'
theorem Uw{i j:Nat}{o:Oper}(hi:uY p ρ ops i j=true)(hj:ops[j]?=some o)(hd:o.dst=some d0):∀ o',ops[i]?=some o'->d0∉B7 ops o'/\o'.dst≠some d0:=λo' ho'=>by
 unfold uY at hi;rw [ho',hj] at hi;simp only [SC,sk,Bool.not_eq_true'] at hi;obtain ⟨⟨⟨⟨⟨hd1,hd2⟩,_⟩,_⟩,_⟩,_⟩:=hi;rw [hd] at hd2;refine ⟨by simpa [MS] using hd2,λhe=>?_⟩;rw [he] at hd1;simp [MS,hd] at hd1
theorem SX{i j:Nat}{o:Oper}(hi:uY p ρ ops i j=true)(hj:ops[i]?=some o)(hd:o.dst=some d0):∀ o',ops[j]?=some o'->d0∉B7 ops o'/\o'.dst≠some d0:=λo' ho'=>by
 unfold uY at hi;rw [ho',hj] at hi;simp only [SC,sk,Bool.not_eq_true'] at hi;obtain ⟨⟨⟨⟨⟨hd1,hd2⟩,_⟩,_⟩,_⟩,_⟩:=hi;rw [hd] at hd1;simp only [MS,List.contains_eq_mem,zWw,decide_eq_false_iff_not,not_or] at hd1;exact ⟨hd1.2,λhe=>hd1.1 (by simp [he])⟩
theorem qba{i j:Nat}(h0:ops[j0]?=some o0)(hd:o0.dst=some d0)(hi:uY p ρ ops i j=true)(hij:i≠j)(h2:Nb P p ρ ops j0 d0 h j st b)(h1:Nb P p ρ ops j0 d0 h i b c):∃ b',Nb P p ρ ops j0 d0 h i st b'/\Nb P p ρ ops j0 d0 h j b' c:=by
 rcases h2 with ⟨hj,h2⟩ | ⟨rfl,b1,h2,h3,rfl⟩
 ·rcases h1 with ⟨hi',h1⟩ | ⟨rfl,c1,h1,h3,rfl⟩
  ·obtain ⟨b',h4,h5⟩:=Hp hi h2 h1;exact ⟨b',.inl ⟨hi',h4⟩,.inl ⟨hj,h5⟩⟩
  ·obtain ⟨b',h4,h5⟩:=Hp hi h2 h1;obtain ⟨h6,h7⟩:=h5.cv (SX hi h0 hd);exact ⟨b'.cv d0,.inr ⟨rfl,b',h4,h7 ▸ h3,rfl⟩,.inl ⟨hj,h6⟩⟩
 ·rcases h1 with ⟨hi',h1⟩ | ⟨rfl,_⟩
  ·-- the step from the told state, told back
   have hoff:=Uw hi h0 hd;have key:∃ c1,sA P p ρ ops i b1 c1/\c=c1.cv d0/\c1.tm d0=b1.tm d0:=by
    unfold sA at h1 ⊢
    cases ho:ops[i]? with
    | none =>
     rw [ho] at h1;have h1:c=b1.cv d0:=h1;exact ⟨b1,rfl,h1,rfl⟩
    | some o =>
     rw [ho] at h1;obtain ⟨g1,g2⟩:=hoff o ho;obtain ⟨ho1,hloc⟩:=Ad.loc h1;obtain ⟨c',e1,e2,e3,e4⟩:=hloc b1 (λt ht=>(ci _ _ _ _ (λhe=>by subst he; exact g1 (Ho ht))).symm) (λt ht=>(ci _ _ _ _ (λhe=>by subst he; exact g1 (aac.2 (.inl ht)))).symm) ⟨λs hs=>rfl,λs hs=>rfl⟩;have hE1:=Md p ρ o;refine ⟨c',e1,?_,e3.1 d0 g2⟩;refine St.ext (funext λt=>?_) (funext λs=>?_) (funext λr=>?_)
     ·show c.tm t=eI c'.tm d0 _ t
      by_cases htd:t=d0
      ·subst htd;rw [dk,ho1.1 _ g2];exact dk _ _ _
      ·rw [ci _ _ _ _ htd]
       by_cases h2t:o.dst=some t
       ·exact (e2 t h2t).symm
       ·rw [e3.1 t h2t,ho1.1 t h2t];exact ci _ _ _ _ htd
     ·by_cases h2s:(du p ρ o).dom.oW s
      ·exact (e4.ob s (hE1.ob s h2s)).symm
      ·rw [ho1.2.1 s h2s]; exact (e3.2.1 s h2s).symm
     ·by_cases h2s:(du p ρ o).dom.rW r
      ·exact (e4.rw r (hE1.rw r h2s)).symm
      ·rw [ho1.2.2 r h2s]; exact (e3.2.2 r h2s).symm
   obtain ⟨c1,h4,rfl,h5⟩:=key;obtain ⟨b',h6,h7⟩:=Hp hi h2 h4;exact ⟨b',.inl ⟨hi',h6⟩,.inr ⟨rfl,c1,h7,h5.trans h3,rfl⟩⟩
  ·exact absurd rfl hij
theorem qaa{i:Nat}(h0:ops[j0]?=some o0)(hd:o0.dst=some d0):∀ {l:List Nat} {st st':St},i∈l->(∀ l1 l2,l=l1++i :: l2->i∉l1->∀ j∈l1,uY p ρ ops i j=true)->Uv P p ρ ops j0 d0 h l st st'->∃ b,Nb P p ρ ops j0 d0 h i st b/\Uv P p ρ ops j0 d0 h (l.erase i) b st'
 | [],st,st',h,_,_=>by simp at h
 | j :: l,st,st',h,hind,hr=>by
  by_cases he:i=j
  ·subst he;rw [List.erase_cons_head];exact hr
  ·obtain ⟨b,h1,h2⟩:=hr;have him:i∈l:=(aag.1 h).resolve_left he;obtain ⟨c,h3,h4⟩:=qaa h0 hd him (λl1 l2 hl hni j' hj'=>hind (j :: l1) l2 (by rw [hl]; rfl) (by simp [he,hni]) j' (zQk _ hj')) h2;have hij:uY p ρ ops i j=true:=by
    obtain ⟨l1,l2,hl,hni⟩:=List.eq_append_cons_of_mem him;exact hind (j :: l1) l2 (by rw [hl]; rfl) (by simp [he,hni]) j (zQg ..)
   obtain ⟨d,h5,h6⟩:=qba h0 hd hij he h1 h3;refine ⟨d,h5,?_⟩;rw [List.erase_cons_tail (by simpa using λh=>he h.symm)];exact ⟨c,h6,h4⟩
theorem jq.cv(hS:jq E g n st a w)(hpin:E.pin=some (hv h))(hd:st.tm d0=.t (hT h)):jq E g n (st.cv d0) a w:=by
 refine ⟨⟨hS.mem.ob,hS.mem.obne,hS.mem.row,hS.mem.rowne,hS.mem.rowob,hS.mem.F,hS.mem.os,hS.mem.tape,hS.mem.output,hS.mem.sizes,hS.mem.frame,hS.mem.shp,hS.mem.dep0⟩,hS.size,hS.defers,λi hi=>?_,λi hi=>?_,hS.lent,hS.pin⟩
 ·obtain ⟨v,h1,h2⟩:=hS.tm i hi;refine ⟨v,h1,?_⟩;show VR w g st.O st.R (eI st.tm d0 (.own PR) i) v
  by_cases hid:i=d0
  ·subst hid;rw [dk];rw [hd] at h2
   cases h2 with
   | t _ _ h2 =>
    cases h2
    obtain ⟨h3,h4⟩:=hS.pin _ hpin;have:=VR.own (w:=w) (g:=g) (O:=st.O) (R:=st.R) PR h3;rw [h4] at this;exact this
  ·rw [ci _ _ _ _ hid];exact h2
 ·show eI st.tm d0 (.own PR) i=.undef
  by_cases hid:i=d0
  ·subst hid;have:=hS.und i hi;rw [hd] at this
   cases this
  ·rw [ci _ _ _ _ hid];exact hS.und i hi
theorem SY{i:Nat}{K:Act->World->Prop}{Q:Exit->Act->World->Prop}(hpin:E.pin=some (hv h))(hS:jq E g n st a w)(hd:∀ o,ops[i]?=some o->og n o=true)(hs:Nb P p ρ ops j0 d0 h i st st')
  (hK:∀ g' a' w',jq E g' n st' a' w'->K a' w'):wpOp P ops Q i K a w:=by
 rcases hs with ⟨_,hs⟩ | ⟨rfl,b,hs,hb,rfl⟩
 ·exact yU hS hd hs hK
 ·exact yU hS hd hs λg' a' w' hS'=>hK g' a' w' (hS'.cv hpin hb)
theorem Ux{D:Array Nat}{Q:Exit->Act->World->Prop}(hpin:E.pin=some (hv h))(h0:ops[j0]?=some o0)(hd0:o0.dst=some d0)(hF:Hq p ρ n ops D)(hQ:∀ g a w,jq E g n st' a w->Q .normal a w) :
  ∀ (fuel:Nat) (listed:Array Bool) (st:St) (g:Gh) (a:Act) (w:World),listed.size=ops.size->qar ops listed->(rem ops listed).length=fuel->Uv P p ρ ops j0 d0 h (rem ops listed) st st'->jq E g n st a w->wpAny P .any ops Q fuel listed a w:=by
 intro fuel
 induction fuel with
 | zero =>
  intro listed st g a w hs hd hl hr hS;have h0:rem ops listed=[]:=zQQ hl;rw [h0] at hr;have hr:st'=st:=hr;refine ⟨?_,hQ g a w (hr ▸ hS)⟩;refine List.eq_nil_iff_forall_not_mem.2 λj hj=>?_;obtain ⟨h1,o,ho,_⟩:=mem_ready.1 hj;have:j∈rem ops listed:=tk.2 ⟨(aaf.1 ho).1,h1⟩;rw [h0] at this;simp at this
 | succ fuel ih =>
  intro listed st g a w hs hd hl hr hS;have hsorted:(rem ops listed).Pairwise (· < ·):=List.Pairwise.filter _ List.pairwise_lt_range;refine ⟨λhnil=>?_,λi hi=>?_⟩
  ·exfalso
   cases hrem:rem ops listed with
   | nil=>rw [hrem] at hl; cases hl
   | cons i l =>
    have him:i∈rem ops listed:=by rw [hrem]; simp
    obtain ⟨hlt,hun⟩:=tk.1 him;have:i∈Region.ready .any ops listed:=by
     refine mem_ready.2 ⟨hun,_,zXX hlt,λe he hb=>?_⟩;have hlt2:=hF.back i _ (zXX hlt) e he hb;have hlt3:e.on < listed.size:=by omega
     cases hee:listed.getD e.on false with
     | true=>rfl
     | false =>
      have hm:e.on∈rem ops listed:=tk.2 ⟨by omega,by rw [Mf hlt3]; exact hee⟩;rw [hrem] at hm hsorted;rcases aag.1 hm with h | h
      ·omega
      ·have:=(List.pairwise_cons.1 hsorted).1 _ h;omega
    rw [hnil] at this;simp at this
  ·obtain ⟨hun,o,ho,hall⟩:=mem_ready.1 hi;have hlt:i < ops.size:=(aaf.1 ho).1;have him:i∈rem ops listed:=tk.2 ⟨hlt,hun⟩;obtain ⟨b,h1,h2⟩:=qaa h0 hd0 him (λl1 l2 hsplit hni j hj=>by
    have hjm:j∈rem ops listed:=by rw [hsplit]; exact aac.2 (.inl hj)
    have hji:j < i:=by
     rw [hsplit] at hsorted;exact (List.pairwise_append.1 hsorted).2.2 j hj i (zQg ..)
    rcases hF.ind i j o ho hji with h | h
    ·have h3:=closed hF hd i o ho hall j h;have h4:=(tk.1 hjm).2;rw [Mf (by rw [hs]; exact (tk.1 hjm).1),h3] at h4
     cases h4
    ·exact h) hr
   refine SY hpin hS (hF.dst i) h1 λg' a' w' hS'=>ih (listed.setIfInBounds i true) b g' a' w' (by simp [hs]) ?_ ?_ ?_ hS'
   ·intro k o' hk ho' e he hb
    by_cases hik:i=k
    ·subst hik;rw [ho] at ho';injection ho' with ho'
     subst ho';exact getD_set_true (hall e he hb)
    ·rw [getD_set_ne false hik] at hk;exact getD_set_true (hd k o' hk ho' e he hb)
   ·rw [Me hs him,List.length_erase_of_mem him,hl];rfl
   ·rw [Me hs him];exact h2
theorem Zl{l1 l2:List Oper}{o:Oper}(hops:ops.toList=l1++o :: l2)(hr1:Dc P p ρ ops (l1++[o]) st b)(hb:b.tm d0=.t (hT h))(hr2:Dc P p ρ ops l2 (b.cv d0) st'):Uv P p ρ ops l1.length d0 h (zWj ops.size) st st':=by
 have hsz:ops.size=l1.length+1+l2.length:=by rw [<- zQx,hops]; simp; omega
 have e:zWj ops.size=zWx 0 (l1++[o]).length++zWx (l1.length+1) l2.length:=by
  rw [zXj,hsz,zQG,zQK,zXQ,zWY,<- zVG,zWY]
 have hk1:∀ j,j < l1.length+1->(l1++[o])[j]?=ops[j]?:=λj hj=>by
  have e:ops[j]?=((l1++[o])++l2)[j]?:=by rw [<- zWG,hops]; simp
  rw [e];exact (zQW eF).symm
 have hk2:∀ j,l2[j]?=ops[l1.length+1+j]?:=λj=>by
  rw [<- zWG,hops,show l1++o :: l2=(l1++[o])++l2 by simp,zQV eH];simp
 have up:∀ (m k:Nat) (s s':St),k > l1.length->MT P p ρ ops (zWx k m) s s'->Uv P p ρ ops l1.length d0 h (zWx k m) s s':=by
  intro m
  induction m with
  | zero=>intro k s s' _ h; exact h
  | succ m ih=>intro k s s' hk ⟨q,h1,h2⟩; exact ⟨q,.inl ⟨by omega,h1⟩,ih (k+1) q s' ar h2⟩
 have tail:=up l2.length (l1.length+1) _ _ ar (ym hk2 hr2);rw [e];have head:∀ (l:List Oper) (k:Nat) (s:St),k+l.length=l1.length->(∀ j,j < l.length+1->(l++[o])[j]?=ops[k+j]?)->Dc P p ρ ops (l++[o]) s b->Uv P p ρ ops l1.length d0 h (zWx k (l++[o]).length++zWx (l1.length+1) l2.length) s st':=by
  intro l
  induction l with
  | nil =>
   intro k s hk hl ⟨q,h1,h2⟩;have h2:b=q:=h2;subst h2;have hk':k=l1.length:=by simpa using hk
   subst hk';have h3:=hl 0 eH;simp at h3;refine ⟨b.cv d0,.inr ⟨rfl,b,?_,hb,rfl⟩,tail⟩;unfold sA;rw [<- h3];exact h1
  | cons o' l ih =>
   intro k s hk hl ⟨q,h1,h2⟩;have h3:=hl 0 eH;simp at h3;refine ⟨q,.inl ⟨by simp at hk; omega,?_⟩,?_⟩
   ·unfold sA;rw [<- h3];exact h1
   ·exact ih (k+1) q YN (λj hj=>by have:=hl (j+1) eF; simpa [zZW,Nat.add_comm 1 j] using this) h2
 exact head l1 0 st eH (λj hj=>by rw [zWY]; exact hk1 j hj) hr1
theorem Pg{Q:Exit->Act->World->Prop}{id:Nat}{l1 l2:List Oper}{o:Oper}(hm:P.follows .mixedOrders=true)(hok:MV p ρ n ops=true)(hpin:E.pin=some (hv h))(hops:ops.toList=l1++o :: l2)(hd0:o.dst=some d0)
  (hS:jq E g n st a w) (hr1:Dc P p ρ ops (l1++[o]) st b) (hb:b.tm d0=.t (hT h)) (hr2:Dc P p ρ ops l2 (b.cv d0) st') (hQ:∀ g a w,jq E g n st' a w->Q .normal a w):(Code.region id ops true).wp P Q a w:=by
 have hrX:=Zl hops hr1 hb hr2;have hF:=MW hok;have h0:ops[l1.length]?=some o:=by rw [<- zWG,hops]; simp
 have hrem:rem ops (zZy ops.size false)=zWj ops.size:=by
  unfold rem;refine List.filter_eq_self.2 λi hi=>?_;have:i < ops.size:=List.mem_range.1 hi;simp [this]
 refine wp_region_any hm (Ux hpin h0 hd0 hF hQ _ _ st g a _ eH (λk o hk=>?_) (by rw [hrem]; simp) (by rw [hrem]; exact hrX) hS.drew)
 by_cases hlt:k < ops.size <;> simp [hlt] at hk
end
section
variable {P:Program} {E E0:En} {g:Gh} {st st':St} {a:Act} {w:World} {n:Nat} {ls:List Nat} {k:K} {e e2:TypeId} {Q:Exit->St->K->Prop}
theorem jq.repin(hS:jq E g n st a w)(v:Option Value)(hv:∀ u,v=some u->st.R PR/\g.rw PR=u):jq { E with pin:=v } g n st a w :=
 ⟨⟨hS.mem.ob,hS.mem.obne,hS.mem.row,hS.mem.rowne,hS.mem.rowob,hS.mem.F,hS.mem.os,hS.mem.tape,hS.mem.output,hS.mem.sizes,hS.mem.frame,hS.mem.shp,hS.mem.dep0⟩,hS.size,hS.defers,hS.tm,hS.und,hS.lent,hv⟩
theorem jq.own1{ee sz r:Nat}{rows:List (List T)}{v:Value}(hS:jq E g n st a w)(hpin:E.pin=none)(hfree:st.rw r=none)(hrow:m9 w w (λb=>v.ownBlock=some b) g.F v (.live ee sz rows))(hA:∀ b,v.ownBlock=some b->Apt g st b/\¬ E.D b) :
  jq { E with X:=λb=>E.X b\/v.ownBlock=some b } { g with rw:=eI g.rw r v } n { st with rw:=eI st.rw r (some (.live ee sz rows)) } a w:=by
 have hM:=hS.mem;have hne:∀ q x,st.rw q=some x->q≠r:=λq x h he=>by rw [he,hfree] at h; cases h
 have hEx:rt w w g { g with rw:=eI g.rw r v } st.O st.R ({ st with rw:=eI st.rw r (some (.live ee sz rows)) }:St).O ({ st with rw:=eI st.rw r (some (.live ee sz rows)) }:St).R :=
  ⟨λ_ _=>rfl,λ_ h=>h,λs h=>⟨h,rfl⟩,λq h=>by
   obtain ⟨x,hx⟩:=aad.1 h;have:=hne q x hx;exact ⟨by simp [St.R,ci _ _ _ _ this,hx],ci _ _ _ _ this⟩,⟨rfl,rfl,rfl⟩,rfl,rfl⟩
 have hl:∀ q,({ st with rw:=eI st.rw r (some (.live ee sz rows)) }:St).L q->q≠r->st.L q:=λq h hq=>by
  obtain ⟨a,b,c,h⟩:=h;exact ⟨a,b,c,by rw [<- h]; exact (ci _ _ _ _ hq).symm⟩
 have hrw:∀ q,q≠r->eI g.rw r v q=g.rw q:=λq hq=>ci _ _ _ _ hq;have hrr:eI g.rw r v r=v:=dk _ _ _;refine ⟨⟨λs cells hs=>?_,hM.obne,λq x hq=>?_,λq q' b h1 h2 h3 h4=>?_,λq s h1 h2 h3=>?_,λb hb=>⟨(hM.F b hb).1,λh=>((hM.F b hb).2.1 h).imp id .inl,(hM.F b hb).2.2⟩,hM.os,hM.tape,hM.output,hM.sizes,λb h1 h2=>hM.frame b h1 λh=>h2 (.inl h),hM.shp,⟨hM.dep0.1,λb hb=>?_⟩⟩,
  hS.size,hS.defers,λi hi=>?_,hS.und,hS.lent,λu hu=>(by rw [show E.pin=some u from hu] at hpin; cases hpin)⟩
 ·obtain ⟨arr,e',h2,h3,h4,h5,h6⟩:=hM.ob s cells hs;refine ⟨arr,e',h2,h3,λj x hj=>?_,h5,h6.imp id .inl⟩;obtain ⟨h7,u,h8,h9⟩:=h4 j x hj;exact ⟨h7,u,h8,h9.mono hEx⟩
 ·by_cases hqr:q=r
  ·subst hqr;have hq:eI st.rw q (some (.live ee sz rows)) q=some x:=hq;rw [dk] at hq
   cases hq
   show m9 _ _ _ _ (eI g.rw q v q) _;rw [dk];obtain ⟨inner,h1,h2,h3,h4⟩:=hrow;exact ⟨inner,h1,h2,h3,λb hb=>⟨(h4 b hb).1,.inr (.inr hb)⟩⟩
  ·have hq:eI st.rw r (some (.live ee sz rows)) q=some x:=hq;rw [ci _ _ _ _ hqr] at hq;show m9 _ _ _ _ (eI g.rw r v q) _;rw [ci _ _ _ _ hqr];have hr:=hM.row q x hq
   cases x with
   | live e3 sz3 rows3 =>
    obtain ⟨inner,h1,h2,h3,h4⟩:=hr;exact ⟨inner,h1,h2,h3,λb hb=>⟨(h4 b hb).1,(h4 b hb).2.imp id .inl⟩⟩
   | frz sz3 rows3=>exact hr
   | gone=>exact hr
 ·have h3:(eI g.rw r v q).ownBlock=some b:=h3;have h4:(eI g.rw r v q').ownBlock=some b:=h4
  by_cases hq:q=r
  ·by_cases hq':q'=r
   ·rw [hq,hq']
   ·subst hq;rw [dk] at h3;rw [ci _ _ _ _ hq'] at h4;exact absurd h4 ((hA b h3).1.row q' (hl q' h2 hq'))
  ·by_cases hq':q'=r
   ·subst hq';rw [dk] at h4;rw [ci _ _ _ _ hq] at h3;exact absurd h3 ((hA b h4).1.row q (hl q h1 hq))
   ·rw [ci _ _ _ _ hq] at h3;rw [ci _ _ _ _ hq'] at h4;exact hM.rowne q q' b (hl q h1 hq) (hl q' h2 hq') h3 h4
 ·have h3:(eI g.rw r v q).ownBlock=some (g.ob s):=h3
  by_cases hq:q=r
  ·subst hq;rw [dk] at h3;exact (hA _ h3).1.ob s h2 rfl
  ·rw [ci _ _ _ _ hq] at h3;exact hM.rowob q s (hl q h1 hq) h2 h3
 ·obtain ⟨h1,h2,h3⟩:=hM.dep0.2 b hb;exact ⟨h1,λh=>h.elim h2 λh=>(hA b h).2 hb,h3⟩
 ·obtain ⟨u,h1,h2⟩:=hS.tm i hi;exact ⟨u,h1,h2.mono hEx⟩
theorem jq.fill{s j r:Nat}{h:xk}(hS:jq E g n st a w)(hc:((st.ob s).bind λc=>c[j]?)=some (.t (hT h)))(hR:st.R r)(hg:g.rw r=hv h) :
  jq E g n { st with ob:=eI st.ob s ((st.ob s).map λc=>c.set j (.own r)) } a w:=by
 have hM:=hS.mem;have hO:∀ q,({ st with ob:=eI st.ob s ((st.ob s).map λc=>c.set j (.own r)) }:St).O q↔st.O q:=λq=>by
  by_cases hq:q=s
  ·subst hq; simp [St.O,dk]
  ·simp [St.O,ci _ _ _ _ hq]
 have hEx:rt w w g g st.O st.R ({ st with ob:=eI st.ob s ((st.ob s).map λc=>c.set j (.own r)) }:St).O ({ st with ob:=eI st.ob s ((st.ob s).map λc=>c.set j (.own r)) }:St).R :=
  ⟨λ_ _=>rfl,λ_ h=>h,λq h=>⟨(hO q).2 h,rfl⟩,λq h=>⟨h,rfl⟩,⟨rfl,rfl,rfl⟩,rfl,rfl⟩
 refine ⟨⟨λq cells hs=>?_,λq q' h1 h2 h3=>hM.obne q q' ((hO q).1 h1) ((hO q').1 h2) h3,hM.row,hM.rowne,λq q' h1 h2=>hM.rowob q q' h1 ((hO q').1 h2),hM.F,hM.os,hM.tape,hM.output,hM.sizes,hM.frame,hM.shp,hM.dep0⟩,
  hS.size,hS.defers,λi hi=>?_,hS.und,λq b hq=>⟨(hO q).2 (hS.lent q b hq).1,(hS.lent q b hq).2⟩,hS.pin⟩
 ·have hs:eI st.ob s ((st.ob s).map λc=>c.set j (.own r)) q=some cells:=hs
  by_cases hq:q=s
  ·subst hq;rw [dk] at hs;obtain ⟨cells0,h1,rfl⟩:=aab.1 hs;rw [h1] at hc;have hc:cells0[j]?=some (.t (hT h)):=hc;obtain ⟨arr,e',h2,h3,h4,h5,h6⟩:=hM.ob q cells0 h1;refine ⟨arr,e',h2,by simpa using h3,λi x hi=>?_,h5,h6⟩;rw [zXk] at hi
   split at hi
   ·rename_i hji;subst hji
    split at hi
    ·cases hi
     obtain ⟨h7,u,h8,h9⟩:=h4 j _ hc;refine ⟨rfl,u,h8,?_⟩
     cases h9 with
     | t _ _ h9 =>
      cases h9
      have:=VR.own (w:=w) (g:=g) (O:=({ st with ob:=eI st.ob q ((st.ob q).map λc=>c.set j (.own r)) }:St).O) (R:=st.R) r hR;rw [hg] at this;exact this
    ·cases hi
   ·obtain ⟨h7,u,h8,h9⟩:=h4 i x hi;exact ⟨h7,u,h8,h9.mono hEx⟩
  ·rw [ci _ _ _ _ hq] at hs;obtain ⟨arr,e',h2,h3,h4,h5,h6⟩:=hM.ob q cells hs;exact ⟨arr,e',h2,h3,λi x hi=>⟨(h4 i x hi).1,(h4 i x hi).2.imp λu hu=>⟨hu.1,hu.2.mono hEx⟩⟩,h5,h6⟩
 ·obtain ⟨u,h1,h2⟩:=hS.tm i hi;exact ⟨u,h1,h2.mono hEx⟩
theorem VC{Y:Nat->Prop}(hK:Kl E0 E)(hY:∀ b,Y b->(E0.w0.heap.size<=b\/E0.X b)/\¬ E.F0 b):Kl E0 { E with X:=λb=>E.X b\/Y b }:=by
 refine ⟨hK.n0,λb h1 h2=>⟨λh=>?_,(hK.same b h1 h2).2⟩,hK.F0,λb hb h=>?_,hK.os,hK.tape,hK.output,hK.d,hK.sh,hK.lent,hK.pin⟩
 ·rcases h with h | h
  ·exact (hK.same b h1 h2).1 h
  ·rcases (hY b h).1 with h3 | h3
   ·omega
   ·exact h2 h3
 ·rcases h with h | h
  ·exact hK.fx b hb h
  ·exact (hY b h).2 hb
theorem SZ{w0:World}{X F:Nat->Prop}{h:xk}{e':TypeId}{α:Type}{f:α->T}{gv:α->Value}{xs:List α}(hf:∀ x,Rd w F (f x) (gv x))(ho:w.ownsRow 0 e' 1 (hv h) xs.length (xs.map gv))(hb:∀ b,(hv h).ownBlock=some b->¬ F b/\(w0.heap.size<=b\/X b)):m9 w0 w X F (hv h) (.live e' 1 (xs.map λx=>[f x])):=by
 refine ⟨xs.map gv,by simpa using ho,λi row hi=>?_,λi row j x hi hj=>?_,hb⟩
 ·rw [zQZ] at hi;obtain ⟨y,_,rfl⟩:=aab.1 hi;rfl
 ·rw [zQZ] at hi;obtain ⟨y,hy,rfl⟩:=aab.1 hi
  cases j with
  | succ j=>simp at hj
  | zero =>
   simp only [zWX,Option.some.injEq] at hj;subst hj;exact ⟨gv y,by rw [zZq,zXv,zQZ,hy]; rfl,hf y⟩
theorem Nc{α:Type}:∀ {l:List α} {i:Nat} {q:α},l[i]?=some q->l.Perm (q :: l.eraseIdx i)
 | [],i,q,h=>by simp at h
 | y :: l,0,q,h=>by
  simp only [zWX,Option.some.injEq] at h;subst h;exact .refl _
 | y :: l,i+1,q,h=>by
  simp only [List.getElem?_cons_succ] at h;exact ((Nc h).cons y).trans (.swap q y _)
def qav(st:St)(s j R e e2:Nat)(hs:List xk)(x:List Int):St :=
 { tm:=st.tm,ob:=eI st.ob s ((st.ob s).map λc=>c.set j (.own R)),rw:=eI (eI st.rw R (some (.live e 1 ((hs.map hT).map λt=>[t])))) PR (some (.live e2 1 (x.map (aj .u8)))) }
theorem Wd.app{p:Nat->Bool}{ρ:Nat->dR}{ops:Array Oper}{id:Nat}{h:xk}{xs:List (List Int)}{x:List Int}{o:Oper}{l2:List Oper}{d0:Nat}(m s j R i:Nat)(h0:WC P E0 ls)(hx:xs[i]?=some x)
  (hk:∀ hs q,hs.length=xs.length->hs[i]?=some q->ab P p ρ ops (ops.toList.take m++[o]) (qav st s j R e e2 hs x) λb=>b.tm d0=.t (hT q)/\ab P p ρ ops l2 (b.cv d0) λst3=>Q .normal st3 (.hole hs xs i))
  (hops:ops.toList=ops.toList.take m++o :: l2:=by rfl) (hd0:o.dst=some d0:=by rfl) (hm:P.follows .mixedOrders=true:=by kernel_rfl) (hok:MV p ρ n ops=true:=by kernel_rfl) (hc:((st.ob s).bind λc=>c[j]?)=some (.t (hT h)):=by kernel_rfl)
  (hf1:st.rw R=none:=by kernel_rfl) (hf2:st.rw PR=none:=by kernel_rfl) (hne:zXW PR R=false:=by kernel_rfl):Wd P n ls E0 e e2 (.region id ops true) Q st (.deep h xs):=λE g a w hE hK hBe hS=>by
 have hne:PR≠R:=λh=>by rw [h,zZj] at hne; cases hne
 obtain ⟨Bs0,a1,a2,a3⟩:=hBe.now hK hS;obtain ⟨hE1,hK1,⟨Bs,b1,b2,b3⟩,hS1⟩:=Wd.anew h0.one hE hK hS a1 a2 a3 h0.d;obtain ⟨hs,c1,c2,rfl⟩:=b1;have hlen:=c1.1;have hil:i < hs.length:=by rw [hlen]; exact (aaa.1 hx).1
 obtain ⟨q,hq⟩:∃ q,hs[i]?=some q:=⟨_,sX hil⟩;obtain ⟨b,r1,hb,st3,r2,hQ⟩:=hk hs q hlen hq
 -- what is whose
 have hperm:(hs.flatMap hB).Perm (hB q++(hs.eraseIdx i).flatMap hB):=by
  have:=(Nc hq).flatMap_right hB;rwa [List.flatMap_cons] at this
 have hnd:(hB h++(hB q++(hs.eraseIdx i).flatMap hB)).Nodup:=((List.Perm.append_left (hB h) hperm).nodup_iff).1 b2;have hmem:∀ c,c∈hB h++(hB q++(hs.eraseIdx i).flatMap hB)->c∈hB h++hs.flatMap hB:=λc hc=>((List.Perm.append_left (hB h) hperm).mem_iff).2 hc;have hApt:∀ c,c∈hB h++(hB q++(hs.eraseIdx i).flatMap hB)->Apt { g with dw:=w } st c:=λc hc=>by
  have hU:=hS1.unk (b3 c (hmem c hc)).1;exact ⟨hU.f,hU.o,hU.r⟩
 have hn1:=List.nodup_append.1 hnd;have hn2:=List.nodup_append.1 hn1.2.1;have hmh:∀ {c},(hv h).ownBlock=some c->c∈hB h++(hB q++(hs.eraseIdx i).flatMap hB):=λhc=>aac.2 (.inl (mn.2 hc));have hmq:∀ {c},(hv q).ownBlock=some c->c∈hB h++(hB q++(hs.eraseIdx i).flatMap hB):=λhc=>aac.2 (.inr (aac.2 (.inl (mn.2 hc))))
 -- the two rows
 have row1:m9 w w (λc=>(hv h).ownBlock=some c) g.F (hv h) (.live e 1 ((hs.map hT).map λt=>[t])):=(zZx (f:=hT) (g:=λt=>[t]) (l:=hs)).symm ▸ SZ (f:=hT) (gv:=hv) (λy=>.hdr _ _ _) c2 λc hc=>⟨(hApt c (hmh hc)).F,.inr hc⟩;have hSa:=hS1.own1 (r:=R) hK1.pin hf1 row1 λc hc=>⟨hApt c (hmh hc),(b3 c (hmem c (hmh hc))).1.2.2.2⟩;have hown:=c1.2 i q x hq hx;have row2:m9 w w (λc=>(hv q).ownBlock=some c) g.F (hv q) (.live e2 1 (x.map (aj .u8))):=SZ (f:=λy=>T.int .u8 y) (gv:=Value.int .u8) (λy=>.int _ _) hown λc hc=>⟨(hApt c (hmq hc)).F,.inr hc⟩;have hSb:=hSa.own1 (r:=PR) hK1.pin (by show eI st.rw R _ PR=none; rw [ci _ _ _ _ hne]; exact hf2) row2 λc hc=>⟨⟨(hApt c (hmq hc)).F,(hApt c (hmq hc)).ob,λr hr h5=>by
   by_cases hrR:r=R
   ·subst hrR;have h5:(eI g.rw r (hv h) r).ownBlock=some c:=h5;rw [dk] at h5;exact hn1.2.2 c (mn.2 h5) c (aac.2 (.inl (mn.2 hc))) rfl
   ·have h5:(eI g.rw R (hv h) r).ownBlock=some c:=h5;rw [ci _ _ _ _ hrR] at h5;refine (hApt c (hmq hc)).row r ?_ h5;obtain ⟨x1,x2,x3,h6⟩:=hr;exact ⟨x1,x2,x3,by rw [<- h6]; exact (ci _ _ _ _ hrR).symm⟩⟩,(b3 c (hmem c (hmq hc))).1.2.2.2⟩
 have hSc:=hSb.fill (s:=s) (j:=j) (r:=R) (h:=h) hc (by simp [St.R,ci _ _ _ _ hne.symm,dk]) (by show eI (eI g.rw R (hv h)) PR (hv q) R=hv h; rw [ci _ _ _ _ hne.symm,dk]);have hSd:=hSc.repin (some (hv q)) λu hu=>by
  cases hu
  exact ⟨by simp [St.R,dk],by show eI (eI g.rw R (hv h)) PR (hv q) PR=hv q; exact dk _ _ _⟩
 have hKa:=VC (Y:=λc=>(hv h).ownBlock=some c) hK1 λc hc=>⟨(b3 c (hmem c (hmh hc))).2,(b3 c (hmem c (hmh hc))).1.2.2.1⟩;have hKb:=VC (Y:=λc=>(hv q).ownBlock=some c) hKa λc hc=>⟨(b3 c (hmem c (hmq hc))).2,(b3 c (hmem c (hmq hc))).1.2.2.1⟩;have htb:PW P w (λc=>((E.anewL g st w).X c\/(hv h).ownBlock=some c)\/(hv q).ownBlock=some c):=h0.tb.step (λc h1 h2=>(hKb.same c h1 h2).2) λc h1 h2=>(hKb.same c h1 h2).1;have htE:Tb P { E.anewL g st w with X:=λc=>((E.anewL g st w).X c\/(hv h).ownBlock=some c)\/(hv q).ownBlock=some c,pin:=some (hv q) }:=⟨htb.mono λc hc=>hc.elim (λh7=>h7) λhc=>(by obtain ⟨h7,_⟩:=hc; cases h7)⟩;refine Pg (h:=q) hm hok rfl hops hd0 hSd r1 hb r2 λg' a' w' hS'=>?_;obtain ⟨⟨fl,e1,e2',e3,e4⟩,_⟩:=hE1;refine ⟨{ E.anewL g st w with X:=λc=>((E.anewL g st w).X c\/(hv h).ownBlock=some c)\/(hv q).ownBlock=some c },g',st3,_,⟨⟨fl,e1,e2',λv (h8:(none:Option Value)=some v)=>(by cases h8),λh7=>absurd (by rw [e1]; exact List.mem_append_right _ h7) h0.one⟩,⟨htb.mono λc hc=>hc.elim (λh7=>h7) λhc=>(by obtain ⟨h7,_⟩:=hc; cases h7)⟩⟩,hKb,?_,hS'.repin none (λ_ (hu:(none:Option Value)=some _)=>by cases hu),hQ⟩;refine ⟨(hs.eraseIdx i).flatMap hB,⟨⟨hlen,λj q x _ h1 h2=>c1.2 j q x h1 h2⟩,rfl⟩,hn2.2.1,λc hc=>?_⟩;have hc':c∈hB h++(hB q++(hs.eraseIdx i).flatMap hB):=aac.2 (.inr (aac.2 (.inr hc)));obtain ⟨⟨d1,d2,d3,d4⟩,d5⟩:=b3 c (hmem c hc');refine ⟨⟨d1,λh7=>?_,d3,d4⟩,d5⟩;rcases h7 with (h7 | h7) | h7
 ·exact d2 h7
 ·exact hn1.2.2 c (mn.2 h7) c (aac.2 (.inr hc)) rfl
 ·exact hn2.2.2 c (mn.2 h7) c hc rfl
end
def XT(t1 t:T)(w:World)(Bs:List Nat):Prop:=(∀ b∈Bs,Wr w b/\b < w.heap.size)/\∀ F v,(∀ b∈Bs,F b)->Rd w F t v->Rd w F t1 v
theorem Qk{w:World}{F F':Nat->Prop}{t t1:T}(hFF:∀ b,F b->F' b)(hr:∀ v,Rd w F' t v->Rd w F' t1 v):∀ {pre post:List C} {vs:List Value} {bs:List Nat},Mb w F (pre++.t t :: post) vs bs->Mb w F' (pre++.t t1 :: post) vs bs
 | [],post,vs,bs,hc=>by
  cases hc with
  | cons c v b cs vs bs h1 hs =>
   have h1:=h1.mono (F':=F') (λ_ _=>rfl) hFF (λ_ _=>rfl)
   cases h1 with
   | t _ _ h2=>exact .cons _ _ _ _ _ _ (.t _ _ (hr _ h2)) (hs.mono (λ_ _=>rfl) hFF (λ_ _=>rfl))
 | p :: pre,post,vs,bs,hc=>by
  cases hc with
  | cons c v b cs vs bs h1 hs=>exact .cons _ _ _ _ _ _ (h1.mono (λ_ _=>rfl) hFF (λ_ _=>rfl)) (Qk hFF hr hs)
theorem Uy{P:Program}{f:FuncId}{args:List V}{pre post:List C}{outs:List (List C)}{t1:T}(h:Ag P f args (λt:T=>.agg (pre++.t t :: post)) (λ_=>outs) (XT t1)):aD P f args (.agg (pre++.t t1 :: post)) outs:=by
 obtain ⟨hc,h⟩:=h;refine ⟨hc,λw F us bs hF hV hn hb htb=>(h w F us bs hF hV hn hb htb).mono λx w' ⟨q,v,F',bv,bo,Bs,h1,h2,h3,h4,h5,h6,h7,h8,h9,h10⟩=>?_⟩;have hnd:=List.nodup_append.1 h8;refine ⟨v,λb=>F' b\/b∈Bs,bv,bo,h1,h2,h3,λb hb=>.inl (h4 b hb),λb hb=>?_,?_,h7.mono λb hb=>.inl hb,hnd.1,λb hb=>⟨λh=>?_,(h9 b (aac.2 (.inl hb))).2⟩⟩
 ·rcases hb with hb | hb
  ·exact h5 b hb
  ·refine ⟨(h10.1 b hb).2,λhlt=>?_,.inr (h10.1 b hb).1⟩;rcases (h9 b (aac.2 (.inr hb))).2 with g | g
   ·omega
   ·exact .inr g
 ·cases h6 with
  | agg l vs bs hc=>exact .agg _ _ _ (Qk (λb hb=>.inl hb) (λv=>h10.2 _ v λb hb=>.inr hb) hc)
 ·rcases h with h | h
  ·exact (h9 b (aac.2 (.inl hb))).1 h
  ·exact hnd.2.2 b hb b h rfl
theorem XT.deep{e e2:TypeId}{q:xk}{xs:List (List Int)}{w:World}{Bs:List Nat}(h:Y e e2 (.deep q xs) w Bs):XT (F1 xs) (hT q) w Bs:=by
 refine ⟨λb hb=>⟨?_,h.lt b hb⟩,λF v hF hv=>by cases hv; exact h.rd hF⟩;obtain ⟨hs,g1,g2,rfl⟩:=h;rcases aac.1 hb with hb | hb
 ·exact QJ g2 (mn.1 hb)
 ·obtain ⟨q1,hq,hb⟩:=List.mem_flatMap.1 hb;obtain ⟨i,hi⟩:=aai.1 hq;have hl:=(aaa.1 hi).1;exact QJ (g1.2 i q1 _ hi (sX (by rw [<- g1.1]; exact hl))) (mn.1 hb)
theorem Zm{w:World}{F:Nat->Prop}{A B:List T}{v:Value}(hl:A.length=B.length)(hm:∀ (j:Nat) (t t1:T),A[j]?=some t->B[j]?=some t1->∀ u,Rd w F t u->Rd w F t1 u)(h:Rd w F (.sl 1 (A.map λt=>[t])) v):Rd w F (.sl 1 (B.map λt=>[t])) v:=by
 generalize hr:A.map (λt=>[t])=rows at h
 cases h with
 | sl0 sz a c ha =>
  have:B=[]:=zQQ (by rw [<- hl]; simpa using congrArg List.length hr);subst this;exact .sl0 _ _ _ ha
 | sl sz rows b off c u hc hF hs hx hr' =>
  subst hr;have:=Rd.sl (w:=w) (F:=F) 1 (B.map λt=>[t]) b off c u (by simpa [<- hl] using hc) hF (λi row hi=>by
    rw [zQZ] at hi;obtain ⟨x,_,rfl⟩:=aab.1 hi;rfl)
   (λi row j x hi hj=>by
    rw [zQZ] at hi;obtain ⟨t1,ht1,rfl⟩:=aab.1 hi;have hlt:i < A.length:=by rw [hl]; exact (aaa.1 ht1).1
    cases j with
    | succ j=>simp at hj
    | zero=>exact hx i [A[i]] 0 A[i] (by simp [hlt]) rfl)
   (λi row j x hi hj=>by
    rw [zQZ] at hi;obtain ⟨t1,ht1,rfl⟩:=aab.1 hi;have hlt:i < A.length:=by rw [hl]; exact (aaa.1 ht1).1
    cases j with
    | succ j=>simp at hj
    | zero =>
     simp only [zWX,Option.some.injEq] at hj;subst hj;exact hm i A[i] t1 (sX hlt) ht1 _ (hr' i [A[i]] 0 A[i] (by simp [hlt]) rfl))
  simpa [hl] using this
theorem XT.hole{e e2:TypeId}{hs:List xk}{xs:List (List Int)}{i:Nat}{y:List Int}{w:World}{Bs:List Nat}(h:Y e e2 (.hole hs xs i) w Bs) :
  XT (F1 (xs.set i y)) (.sl 1 (((hs.map hT).set i (.sl 1 (y.map (aj .u8)))).map λt=>[t])) w Bs:=by
 refine ⟨λb hb=>⟨?_,h.lt b hb⟩,λF v hF hv=>?_⟩
 ·obtain ⟨⟨g1,g2⟩,rfl⟩:=h;obtain ⟨j,q,h3,h4,h5⟩:=Hv.1 hb;have hl:=(aaa.1 h4).1;exact QJ (g2 j q _ h3 h4 (sX (by rw [<- g1]; exact hl))) (mn.1 h5)
 ·obtain ⟨⟨g1,g2⟩,rfl⟩:=h;have e1:F1 (xs.set i y)=.sl 1 (((xs.map λx=>T.sl 1 (x.map (aj .u8))).set i (.sl 1 (y.map (aj .u8)))).map λt=>[t]):=by
   unfold F1;rw [List.map_set,List.map_set,zZx];rfl
  rw [e1];refine Zm (by simp [g1]) (λj t t1 h1 h2 u hu=>?_) hv
  by_cases hij:i=j
  ·subst hij;rw [zXk] at h1 h2;rw [if_pos rfl] at h1 h2
   split at h1
   ·split at h2
    ·cases h1
     cases h2
     exact hu
    ·cases h2
   ·cases h1
  ·rw [List.getElem?_set_ne hij] at h1 h2;rw [zQZ] at h1 h2;obtain ⟨q,hq,rfl⟩:=aab.1 h1;obtain ⟨x,hx,rfl⟩:=aab.1 h2
   cases hu
   exact Uu (e:=e2) (f:=λn=>T.int .u8 n) (gv:=Value.int .u8) (g2 j q x (λh=>hij h.symm) hq hx) (λb hb=>hF b (Hv.2 ⟨j,q,λh=>hij h.symm,hq,hb⟩)) λx _=>.int _ _
theorem o5{α:Type}{f:α->List Int}{l:List α}{e e2:TypeId}{q:xk}{w:World}{Bs:List Nat}(h:Y e e2 (.deep q (l.map f)) w Bs):XT (.sl 1 (l.map λi=>[.sl 1 ((f i).map (aj .u8))])) (hT q) w Bs:=by
 have:=XT.deep h;unfold F1 at this;rw [zZx] at this;exact this
theorem XV{α:Type}{f:α->List Int}{l:List α}{y:α}{i:Nat}{e e2:TypeId}{hs:List xk}{w:World}{Bs:List Nat}(h:Y e e2 (.hole hs (l.map f) i) w Bs) :
  XT (.sl 1 ((l.set i y).map λi=>[.sl 1 ((f i).map (aj .u8))])) (.sl 1 (((hs.map hT).set i (.sl 1 ((f y).map (aj .u8)))).map λt=>[t])) w Bs:=by
 have:=XT.hole (y:=f y) h;unfold F1 at this;rw [<- List.map_set,zZx] at this;exact this
theorem VD{α:Type}{xs:List α}{hs:List xk}{i:Int}{y:α}{q:xk}(h:dm xs i=some y)(hl:hs.length=xs.length)(hq:hs[i.toNat]?=some q):(dm (hs.map hT) i).bind (λ_=>some ())=some ():=by
 obtain ⟨h1,h2⟩:=bB h;unfold dm;simp [h1,hq]
theorem u3{α:Type}{b:Bool}{x y r:α}(h:(bif b then x else y)=r):x=r\/y=r:=by
 cases b
 ·exact .inr h
 ·exact .inl h
end Go.Tm
