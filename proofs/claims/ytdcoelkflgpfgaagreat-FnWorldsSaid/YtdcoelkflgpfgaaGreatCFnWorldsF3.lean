/- The abstract machine tells the truth of the translated code. -/
import Derived.JoinedOf
import Derived.Test.YtdcoelkflgpfgaaGreatCFnWorldsF2
set_option linter.unusedVariables false
set_option linter.unusedSimpArgs false
open List renaming size_toArray->zVk
open Array renaming getElem?_append_left->zZQ,getElem?_append_right->zYh,getElem?_eq_getElem->zXq,getElem?_replicate->zZZ,getElem?_toList->zWz,length_toList->zQg,replicate->zZy
open Bool renaming and_eq_true->sk,false_eq_true->zWQ
open List renaming all_eq_true->zXZ,append_assoc->zQJ,append_nil->zWV,drop_drop->zZJ,eq_nil_of_length_eq_zero->zQZ,ext_getElem?->zYy,getElem?_append->zWx,getElem?_append_left->zQW,getElem?_append_right->zQX,getElem?_cons_zero->zQz,getElem?_drop->zQx,getElem?_eq_getElem->sX,getElem?_map->zQV,getElem?_set->zXy,getElem?_set_ne->zZK,getElem?_take->zQy,head?->zZq,head?_drop->zXh,length->zZX,length_append->zQH,length_cons->zQw,length_map->zWw,length_nil->zXx,map_append->zYk,map_map->zVY,mem_append->zWv,mem_cons_of_mem->zQv,mem_cons_self->zWX,mem_of_getElem?->zQQ,nodup_append->zYW,range->zXY,range'->zXW,range'_append_1->zKW,range'_succ->zYj,range_eq_range'->zYX,tail->zZz,tail_drop->zYK,take_append_drop->zXv,take_of_length_le->zWj
open Nat renaming add_assoc->zZj,add_zero->zYV,beq->zWg,beq_refl->zVH,ble->zVy,eq_of_beq_eq_true->zWq,le_of_ble_eq_true->zVZ,le_refl->zWK,le_trans->zXQ,lt_of_lt_of_le->zWW,mul_one->zVX,zero_add->zWY
open Option renaming getD_some->zXX,map_eq_some_iff->zWk
open List renaming getElem?_eq_some_iff->ln
open Option renaming map_eq_some_iff->pa
open List renaming mem_append->sa
open Option renaming isSome_iff_exists->sr
open List renaming all_eq_true->zm
open Array renaming getElem?_eq_some_iff->Dp
open List renaming mem_cons->Ir
open List renaming getElem?_eq_none_iff->KL
open List renaming mem_iff_getElem?->Sh
open Option renaming some->ac
open Option renaming none->cl
open Bool renaming true->gi
open Bool renaming false->go
namespace Go.Tm
open Go
theorem AU{α:Type}{xs:List α}{i:Nat}{y z:α}(h:xs[i]?=ac y):(xs.set i z)[i]?=ac z:=by
 have:i < xs.length:=(ln.1 h).1;simp [this]
def C.fix:C->C->C
 | .t (.sl s _),.nil=>.t (.sl s [])
 | .ow e s _,.nil=>.ow e s []
 | .t (.sl s _),.t (.sl 0 [])=>.t (.sl s [])
 | _,c=>c
theorem qaV:∀ t c:C,Zb c (C.fix t c):=λt c=>by
 unfold C.fix
 split
 ·exact .nilT _
 ·exact .nilO _ _
 ·exact .sz _ _
 ·exact .refl _
def qdR:List C->List C->List C
 | t :: ts,c :: cs=>t.fix c :: qdR ts cs
 | _,cs=>cs
theorem Vj:∀ cs:List C,Gu Zb cs cs
 | []=>.nil
 | c :: cs=>.cons (.refl c) (Vj cs)
theorem Vk:∀ ts cs:List C,Gu Zb cs (qdR ts cs)
 | t :: ts,c :: cs=>.cons (qaV t c) (Vk ts cs)
 | [],cs=>Vj cs
 | _ :: _,[]=>.nil
def qhC:List (List C)->List (List C)->List (List C)
 | t :: ts,c :: cs=>qdR t c :: qhC ts cs
 | _,cs=>cs
theorem Yi:∀ cs:List (List C),Gu (Gu Zb) cs cs
 | []=>.nil
 | c :: cs=>.cons (Vj c) (Yi cs)
theorem qdS:∀ ts cs:List (List C),Gu (Gu Zb) cs (qhC ts cs)
 | t :: ts,c :: cs=>.cons (Vk t c) (qdS ts cs)
 | [],cs=>Yi cs
 | _ :: _,[]=>.nil
mutual
def V.fix:V->V->V
 | .one t,.one c=>.one (t.fix c)
 | .agg ts,.agg cs=>.agg (qdR ts cs)
 | .tup ts,.tup vs=>.tup (CD ts vs)
 | _,v=>v
def CD:List V->List V->List V
 | t :: ts,v :: vs=>V.fix t v :: CD ts vs
 | _,vs=>vs
end
theorem Yj:∀ vs:List V,Jk vs vs
 | []=>.nil
 | v :: vs=>.cons (.refl v) (Yj vs)
mutual
theorem qaW:∀ t v:V,VLe v (V.fix t v)
 | .one t,.one c=>by unfold V.fix; exact .one (qaV t c)
 | .agg ts,.agg cs=>by unfold V.fix; exact .agg (Vk ts cs)
 | .tup ts,.tup vs=>by unfold V.fix; exact .tup (CE ts vs)
 | .one _,.agg _ | .one _,.tup _ | .one _,.ptr _ | .one _,.fptr _ | .one _,.clo ..=>by unfold V.fix; exact .refl _
 | .agg _,.one _ | .agg _,.tup _ | .agg _,.ptr _ | .agg _,.fptr _ | .agg _,.clo ..=>by unfold V.fix; exact .refl _
 | .tup _,.agg _ | .tup _,.one _ | .tup _,.ptr _ | .tup _,.fptr _ | .tup _,.clo ..=>by unfold V.fix; exact .refl _
 | .ptr _,v | .fptr _,v | .clo ..,v=>by unfold V.fix; exact .refl _
theorem CE:∀ ts vs:List V,Jk vs (CD ts vs)
 | t :: ts,v :: vs=>by unfold CD; exact .cons (qaW t v) (CE ts vs)
 | [],vs=>by unfold CD; exact Yj vs
 | _ :: _,[]=>by unfold CD; exact .nil
end
def C6(P:Program)(ρ:Nat->fi)(ops:Array Oper)(st:St):W2->Option (Nat×Os×Nat)
 | o :: _=>match jI ops st o with
  | some gi=>if fX ρ st o then match o.op,o.dst with
   | .call { callee:=.value xf,args,.. },ac d=>match st.eval xf,eQ (args.toList.map st.eval) with
    | some (.clo f caps),ac az=>ac (f,az++caps,d)
    | _,_=>cl
   | _,_=>cl
   else cl
  | _=>cl
 | []=>cl
def V.pl:V->Bool
 | .one (.t x)=>x.sc
 | .agg l=>l.all λc=>match c with | .t x=>x.sc | _=>go
 | .tup l=>l.all λv=>match v with | .one (.t x)=>x.sc | _=>go
 | _=>go
theorem qcA{v:V}(h:v.pl=gi):v.plain:=by
 unfold V.pl at h
 split at h
 ·unfold V.plain; exact h
 ·unfold V.plain;intro c hc;have:=zm.1 h c hc
  cases c with
  | t x=>exact this
  | _=>cases this
 ·rename_i l;unfold V.plain
  induction l with
  | nil=>unfold AP; trivial
  | cons v l ih =>
   simp only [List.all_cons,sk] at h;unfold AP;refine ⟨?_,ih h.2⟩;have h1:=h.1
   split at h1
   ·unfold V.plain; exact h1
   ·cases h1
 ·cases h
section
variable {P:Program} {n:Nat} {ls:IO} {Q:Exit->St->Prop} {N:St->Prop} {st:St} {p:Nat->Bool} {ρ:Nat->fi} {ops:Array Oper} {l:W2} {K:St->Prop} {y:Code}
abbrev rV(P:Program)(ρ:Nat->fi)(ops:Array Oper)(k:Nat)(l:W2)(st:St):St:=St.or (qv P ρ ops (l.take k) st)
theorem zL{c:Nat×Os×Nat}(h:C6 P ρ ops st l=ac c):∃ o l' xf args ts az caps,l=o :: l'/\jI ops st o=ac gi/\fX ρ st o=gi/\o.op=.call { callee:=.value xf,args,argTypes:=ts }/\o.dst=ac c.2.2/\st.eval xf=ac (.clo c.1 caps)/\eQ (args.toList.map st.eval)=ac az/\c.2.1=az++caps:=by
 unfold C6 at h
 split at h <;> try (cases h; done)
 rename_i o l'
 split at h <;> try (cases h; done)
 split at h <;> try (cases h; done)
 split at h <;> try (cases h; done)
 split at h <;> try (cases h; done)
 rename_i _ hg hf _ _ xf args ts d hop hd _ _ f caps az hxf oC
 cases h
 exact ⟨o,l',xf,args,ts,az,caps,rfl,hg,hf,hop,hd,hxf,oC,rfl⟩
abbrev clS(m:Bool)(p:Nat->Bool)(d:Nat)(az:Os)(res:V)(outs:List (List C))(st:St):St :=
 (Mz ((eC d (fh az) outs (V.toA d (ip d 0) res MA.ret)).run (Mz ((jY m p az MA.ret).run st)))).put (ac d) (orA ((eC d (fh az) outs (V.toA d (ip d 0) res MA.ret)).run (Mz ((jY m p az MA.ret).run st))))
abbrev cbS(d:Nat)(res:V)(st:St):St:=(Mz ((V.toA d (ip d 0) res MA.ret).run st)).put (ac d) (orA ((V.toA d (ip d 0) res MA.ret).run st))
theorem cS{α β:Type}{r:β}{x:Option α}{f:α->Option β}{fid:Nat}{vs:List V}{res:α->V}{outs:α->List (List C)}(m:Bool)(k d:Nat)(az:Os)(h:x.bind f=ac r)(hc:∀ {y},x=ac y->aB P fid vs (res y) (outs y))
  (hk:∀ y,f y=ac r->ab P p ρ ops (l.drop (k+1)) (clS m p d az (res y) (outs y) (rV P ρ ops k l st)) K)
  (h1:(qv P ρ ops (l.take k) st).isSome=true:=by kernel_rfl) (h2:C6 P ρ ops (rV P ρ ops k l st) (l.drop k)=ac (fid,az,d):=by kernel_rfl)
  (h3:((jY m p az MA.ret).run (rV P ρ ops k l st)).map (λq=>CD vs q.1)=ac vs:=by kernel_rfl)
  (h4:∀ y,((eC d (fh az) (outs y) (V.toA d (ip d 0) (res y) MA.ret)).run (Mz ((jY m p az MA.ret).run (rV P ρ ops k l st)))).isSome=true:=by intro y; kernel_rfl):ab P p ρ ops l st K:=by
 refine am k h1 ?_
 cases x with
 | none=>cases h
 | some y =>
  have h5:=hc (y:=y) rfl;have h6:=hk y h;have h7:=h4 y
  clear hc hk h4
  simp only [rV,clS] at h2 h3 h6 h7;generalize St.or (qv P ρ ops (l.take k) st)=st1 at *;obtain ⟨o,l',xf,args,ts,az',caps,e1,e2,e3,e4,e5,e6,e7,e8⟩:=zL h2;simp only at e5 e6 e8;subst e8;have e9:l.drop (k+1)=l':=by rw [<- zZJ,e1]; rfl
  rw [e9] at h6;rw [e1];obtain ⟨⟨vs0,st2⟩,h8,h9⟩:=pa.1 h3;have h10:Jk vs0 vs:=by rw [<- h9]; exact CE vs vs0
  rw [h8] at h6 h7;simp only [Mz,orA] at h6 h7
  cases h11:(eC d (fh (az'++caps)) (outs y) (V.toA d (ip d 0) (res y) MA.ret)).run st2 with
  | none=>rw [h11] at h7; cases h7
  | some q =>
   obtain ⟨z,st3⟩:=q;rw [h11] at h6;exact ab.call e2 e3 e4 e5 e6 e7 h8 (h5.le h10) h11 qhc
theorem qhD{α β:Type}{r:β}{x:Option α}{f:α->Option β}{fid:Nat}{vs:List V}{res:α->V}(k d:Nat)(az:Os)(h:x.bind f=ac r)(hc:∀ {y},x=ac y->aB P fid vs (res y) [])
  (hk:∀ y,f y=ac r->ab P p ρ ops (l.drop (k+1)) (cbS d (res y) (rV P ρ ops k l st)) K)
  (h1:(qv P ρ ops (l.take k) st).isSome=true:=by kernel_rfl) (h2:C6 P ρ ops (rV P ρ ops k l st) (l.drop k)=ac (fid,az,d):=by kernel_rfl)
  (h3:((fj az MA.ret).run (rV P ρ ops k l st)).map (λq=>CD vs q.1)=ac vs:=by kernel_rfl)
  (h0:∀ y,(res y).pl=true:=by intro y; kernel_rfl)
  (h4:∀ y,((V.toA d (ip d 0) (res y) MA.ret).run (rV P ρ ops k l st)).isSome=true:=by intro y; kernel_rfl):ab P p ρ ops l st K:=by
 refine am k h1 ?_
 cases x with
 | none=>cases h
 | some y =>
  have h5:=hc (y:=y) rfl;have h6:=hk y h;have h7:=h4 y;have h0:=qcA (h0 y)
  clear hc hk h4
  simp only [rV,cbS] at h2 h3 h6 h7;generalize St.or (qv P ρ ops (l.take k) st)=st1 at *;obtain ⟨o,l',xf,args,ts,az',caps,e1,e2,e3,e4,e5,e6,e7,e8⟩:=zL h2;simp only at e5 e6 e8;subst e8;have e9:l.drop (k+1)=l':=by rw [<- zZJ,e1]; rfl
  rw [e9] at h6;rw [e1];obtain ⟨⟨vs0,st2⟩,h8,h9⟩:=pa.1 h3;have h10:Jk vs0 vs:=by rw [<- h9]; exact CE vs vs0
  have hst:st2=st1:=by
   have:=(ro (fj (az'++caps) MA.ret) (wH (D:=⟨λ_=>True,λ_=>False,λ_=>True,λ_=>False⟩) (vz (λ_=>trivial) _) (λ_=>trivial)) h8).1;exact St.ext this.tm (funext λs=>this.ob s (λh=>h)) (funext λs=>this.rw s (λh=>h))
  subst hst
  cases h11:(V.toA d (ip d 0) (res y) MA.ret).run st2 with
  | none=>rw [h11] at h7; cases h7
  | some q =>
   obtain ⟨z,st3⟩:=q;rw [h11] at h6;simp only [Mz,orA] at h6;exact ab.callB e2 e3 e4 e5 e6 e7 h8 (h5.le h10) h0 h11 qhc
theorem aA{id:Nat}(h:ab P (SW []) (lh []) ops ops.toList st (Bo (Wp P n ls y Q) Q .normal))(hd:ops.toList.all (rq n)=true:=by kernel_rfl):Wp P n ls (.seq (.region id ops go) y) Q st :=
 Zh [] [] h hd
theorem jK{α β:Type}{id:Nat}{r:β}{x:Option α}{f:α->Option β}{fid:Nat}{vs:List V}{res:α->V}{outs:α->List (List C)}(m:Bool)(k d:Nat)(az:Os)(h:x.bind f=ac r)(hc:∀ {y},x=ac y->aB P fid vs (res y) (outs y))
  (hk:∀ z,f z=ac r->Wp P n ls y Q (St.or (qv P (lh []) ops (ops.toList.drop (k+1)) (clS m (SW []) d az (res z) (outs z) (rV P (lh []) ops k ops.toList st)))))
  (h1:(qv P (lh []) ops (ops.toList.take k) st).isSome=true:=by kernel_rfl) (h2:C6 P (lh []) ops (rV P (lh []) ops k ops.toList st) (ops.toList.drop k)=ac (fid,az,d):=by kernel_rfl)
  (h3:((jY m (SW []) az MA.ret).run (rV P (lh []) ops k ops.toList st)).map (λq=>CD vs q.1)=ac vs:=by kernel_rfl)
  (h4:∀ z,((eC d (fh az) (outs z) (V.toA d (ip d 0) (res z) MA.ret)).run (Mz ((jY m (SW []) az MA.ret).run (rV P (lh []) ops k ops.toList st)))).isSome=true:=by intro z; kernel_rfl)
  (h5:∀ z,(qv P (lh []) ops (ops.toList.drop (k+1)) (clS m (SW []) d az (res z) (outs z) (rV P (lh []) ops k ops.toList st))).isSome=true:=by intro z; kernel_rfl)
  (hd:ops.toList.all (rq n)=true:=by kernel_rfl):Wp P n ls (.seq (.region id ops go) y) Q st :=
 Zh [] [] (cS m k d az h hc (λz hz=>ae (hk z hz) (h5 z)) h1 h2 h3 h4) hd
def C.az:C->A
 | .t x=>.t x
 | _=>.nil
def V.az:V->A
 | .one c=>c.az
 | .agg cs=>.agg (cs.map C.az)
 | _=>.nil
def azs(pre:Os)(vs:List V):Os:=pre++(vs.drop pre.length).map V.az
theorem ah{α β:Type}{r:β}{x:Option α}{f:α->Option β}{fid:Nat}{vs:List V}{res:α->V}{outs:α->List (List C)}(m:Bool)(k d:Nat)(pre:Os)(h:x.bind f=ac r)(hc:∀ {y},x=ac y->aB P fid vs (res y) (outs y))
  (hk:∀ y,f y=ac r->ab P p ρ ops (l.drop (k+1)) (clS m p d (azs pre vs) (res y) (outs y) (rV P ρ ops k l st)) K)
  (h1:(qv P ρ ops (l.take k) st).isSome=true:=by kernel_rfl) (h2:C6 P ρ ops (rV P ρ ops k l st) (l.drop k)=ac (fid,azs pre vs,d):=by kernel_rfl)
  (h3:((jY m p (azs pre vs) MA.ret).run (rV P ρ ops k l st)).map (λq=>CD vs q.1)=ac vs:=by kernel_rfl)
  (h4:∀ y,((eC d (fh (azs pre vs)) (outs y) (V.toA d (ip d 0) (res y) MA.ret)).run (Mz ((jY m p (azs pre vs) MA.ret).run (rV P ρ ops k l st)))).isSome=true:=by intro y; kernel_rfl):ab P p ρ ops l st K :=
 cS m k d (azs pre vs) h hc hk h1 h2 h3 h4
theorem bh{α β:Type}{id:Nat}{r:β}{x:Option α}{f:α->Option β}{fid:Nat}{vs:List V}{res:α->V}{outs:α->List (List C)}(m:Bool)(k d:Nat)(pre:Os)(h:x.bind f=ac r)(hc:∀ {y},x=ac y->aB P fid vs (res y) (outs y))
  (hk:∀ z,f z=ac r->Wp P n ls y Q (St.or (qv P (lh []) ops (ops.toList.drop (k+1)) (clS m (SW []) d (azs pre vs) (res z) (outs z) (rV P (lh []) ops k ops.toList st)))))
  (h1:(qv P (lh []) ops (ops.toList.take k) st).isSome=true:=by kernel_rfl) (h2:C6 P (lh []) ops (rV P (lh []) ops k ops.toList st) (ops.toList.drop k)=ac (fid,azs pre vs,d):=by kernel_rfl)
  (h3:((jY m (SW []) (azs pre vs) MA.ret).run (rV P (lh []) ops k ops.toList st)).map (λq=>CD vs q.1)=ac vs:=by kernel_rfl)
  (h4:∀ z,((eC d (fh (azs pre vs)) (outs z) (V.toA d (ip d 0) (res z) MA.ret)).run (Mz ((jY m (SW []) (azs pre vs) MA.ret).run (rV P (lh []) ops k ops.toList st)))).isSome=true:=by intro z; kernel_rfl)
  (h5:∀ z,(qv P (lh []) ops (ops.toList.drop (k+1)) (clS m (SW []) d (azs pre vs) (res z) (outs z) (rV P (lh []) ops k ops.toList st))).isSome=true:=by intro z; kernel_rfl)
  (hd:ops.toList.all (rq n)=true:=by kernel_rfl):Wp P n ls (.seq (.region id ops go) y) Q st :=
 jK m k d (azs pre vs) h hc hk h1 h2 h3 h4 h5 hd
theorem ai{α:Type}(k d:Nat){b:Bool}{e1 e2 r:α}(h:(bif b then e1 else e2)=r)(ht:e1=r->ab P p ρ ops (l.drop k) ((rV P ρ ops k l st).put (ac d) (.t (.bool gi))) K)
  (hf:e2=r->ab P p ρ ops (l.drop k) ((rV P ρ ops k l st).put (ac d) (.t (.bool go))) K) (h1:(qv P ρ ops (l.take k) st).isSome=true:=by kernel_rfl) (h2:(rV P ρ ops k l st).tm d=.t (.bool b):=by kernel_rfl):ab P p ρ ops l st K:=by
 refine am k h1 ?_;rcases tf b with hc | hc
 ·exact ab.known d (v:=gi) h2 hc (ht (Vc h hc))
 ·exact ab.known d (v:=go) h2 hc (hf (Vd h hc))
theorem Zj{m:Bool}{fn:Func}{args:List V}{res:V}{outs:List (List C)}(h1:(DK P st fn.results.toList).isSome=true:=by kernel_rfl)
  (h2:((FM 0 args λos=>qeG m (qct ((DK P st fn.results.toList).getD [])) λv=>MA.ret (v,os)).run st).map (λq=>(V.fix res q.1.1,qhC outs q.1.2))=ac (res,outs):=by kernel_rfl):DL P m fn args res outs .ret st:=by
 obtain ⟨l,hl⟩:=sr.1 h1;rw [hl] at h2;obtain ⟨⟨⟨v,os⟩,st1⟩,h3,h4⟩:=pa.1 h2;simp only [Prod.mk.injEq] at h4;refine ⟨.inl rfl,l,st1,v,os,hl,h3,?_,?_⟩
 ·rw [<- h4.1]; exact qaW _ _
 ·rw [<- h4.2]; exact qdS _ _
theorem Oz{m:Bool}{fn:Func}{args:List V}{res:V}{outs:List (List C)}(h1:(DK P st fn.results.toList).isSome=true:=by kernel_rfl)
  (h2:((FM 0 args λos=>qeG m (qct ((DK P st fn.results.toList).getD [])) λv=>MA.ret (v,os)).run st).map (λq=>(V.fix res q.1.1,qhC outs q.1.2))=ac (res,outs):=by kernel_rfl):DL P m fn args res outs .normal st :=
 ⟨.inr rfl,(Zj (m:=m) (args:=args) h1 h2).2⟩
theorem lo{s:Sx}(mr:List (Nat×Nat))(hok:s.ok n ls [] mr=true:=by kernel_rfl)(ht:s.tm.map (λq=>st.tm q.1)=s.tm.map (λq=>q.2.ren (Gt []) (Gt mr)):=by kernel_rfl)
  (ho:s.ob.map (λq=>st.ob (Gt [] q.1))=s.ob.map (λq=>ac (xh (Gt []) (Gt mr) q.2)):=by kernel_rfl) (hr:s.rw.map (λq=>st.rw (Gt mr q.1))=s.rw.map (λq=>ac q.2):=by kernel_rfl):Le n ls st s.st:=Le.of hok ht ho hr
theorem df{f:FuncId}{c:Code}{args:List V}{res:V}{outs:List (List C)}(fn:Func)(m:Bool)
  (h:Wp P fn.ntmps (gr 0 args) c (DL P m fn args res outs) (eE ((((rn 0 args MA.ret).run dP).map Prod.fst).getD []) (Mz ((rn 0 args MA.ret).run dP))))
  (hb:fn.body=ac c:=by rfl) (hf:P.funcs[f]?=ac fn:=by kernel_rfl) (hnm:(fn.name == "runtime.NumGoroutine")=false:=by kernel_rfl) (hle:zVy ((((rn 0 args MA.ret).run dP).map Prod.fst).getD []).length fn.ntmps=true:=by kernel_rfl) (ht:sO fn.ntmps fn=true:=by kernel_rfl)
  (ha:((rn 0 args MA.ret).run dP).isSome=true:=by kernel_rfl) (hl:jk 0 args ((((rn 0 args MA.ret).run dP).map Prod.fst).getD [])=true:=by kernel_rfl):aB P f args res outs:=by
 obtain ⟨⟨az,st0⟩,h1⟩:=sr.1 ha;refine SV (m:=m) az hf hb hnm (by simpa [h1] using hle) ht (by rw [h1]; rfl) (by simpa [h1] using hl) ?_
 simpa [h1] using h
end
section
variable {P:Program} {n:Nat} {ls:IO} {Q:Exit->St->Prop} {N:St->Prop} {st:St} {p:Nat->Bool} {ρ:Nat->fi} {ops:Array Oper} {l l':W2} {K:St->Prop} {y:Code} {o:Oper}
theorem KU{α:Type}(f:α->Or)(m:Nat)(xs:List α)(hf:∀ n,(f n).all T.sc=gi):(((A.ext go (.sl m (xs.map f))).rows λm rows=>MA.ret (m,rows)).run st).map Prod.fst=ac (m,xs.map f):=by
 have:UN (xs.map f)=true:=by
  unfold UN;rw [zXZ];intro r hr;obtain ⟨n,_,rfl⟩:=List.mem_map.1 hr;exact hf n
 simp [A.rows,this,MA.run]
def qdT:Option A->Option Int
 | some (.t (.int _ i))=>ac i
 | _=>cl
theorem Vl{a:Option A}{i:Int}(h:qdT a=ac i):∃ k,a=ac (.t (.int k i)):=by
 unfold qdT at h
 split at h
 ·rename_i k j; cases h; exact ⟨k,rfl⟩
 ·cases h
def qfZ(st:St):Option A->Option it
 | some (.t (.sl _ rows))=>ac rows
 | some .nil=>ac []
 | some (.own r)=>match st.rw r with
  | some (.live _ _ rows)=>ac rows
  | some (.frz _ rows)=>ac rows
  | _=>cl
 | _=>cl
theorem qcB{a:Option A}{rows:it}(h:qfZ st a=ac rows):∃ y m,a=ac y/\((y.rows λm rows=>MA.ret (m,rows)).run st).map Prod.fst=ac (m,rows):=by
 unfold qfZ at h
 split at h
 ·cases h; exact ⟨_,_,rfl,rfl⟩
 ·cases h; exact ⟨_,_,rfl,rfl⟩
 ·rename_i r
  split at h
  ·rename_i e sz rows hr; cases h; exact ⟨.own r,sz,rfl,by simp [A.rows,MA.run,hr]⟩
  ·rename_i sz rows hr; cases h; exact ⟨.own r,sz,rfl,by simp [A.rows,MA.run,hr]⟩
  ·cases h
 ·cases h
def qcC(nn:Nat)(st:St):Option A->Option it
 | some (.t (.sl m rows))=>bif zWg m nn then ac rows else cl
 | some .nil=>ac []
 | some (.own r)=>match st.rw r with
  | some (.live _ m rows)=>bif zWg m nn then ac rows else cl
  | some (.frz m rows)=>bif zWg m nn then ac rows else cl
  | _=>cl
 | _=>cl
theorem qaX{nn:Nat}{a:Option A}{rows:it}(h:qcC nn st a=ac rows):∃ y m,a=ac y/\((y.rows λm rows=>MA.ret (m,rows)).run st).map Prod.fst=ac (m,rows)/\(m=nn\/rows=[]):=by
 have key:∀ {m:Nat} {rs:it},(bif zWg m nn then ac rs else cl)=ac rows->m=nn/\rs=rows:=λ{m rs} h=>by
  cases hm:zWg m nn with
  | true=>rw [hm] at h; cases h; exact ⟨zWq hm,rfl⟩
  | false=>rw [hm] at h; cases h
 unfold qcC at h
 split at h
 ·obtain ⟨rfl,rfl⟩:=key h; exact ⟨_,_,rfl,rfl,.inl rfl⟩
 ·cases h; exact ⟨_,0,rfl,rfl,.inr rfl⟩
 ·rename_i r
  split at h
  ·rename_i e m rs hr; obtain ⟨rfl,rfl⟩:=key h; exact ⟨.own r,m,rfl,by simp [A.rows,MA.run,hr],.inl rfl⟩
  ·rename_i m rs hr; obtain ⟨rfl,rfl⟩:=key h; exact ⟨.own r,m,rfl,by simp [A.rows,MA.run,hr],.inl rfl⟩
  ·cases h
 ·cases h
def Yk:W2->Option Nat
 | o :: _=>o.dst
 | []=>cl
theorem JJ{k:Nat}(h:l.drop k=o :: l'):l.drop (k+1)=l'/\Yk (l.drop k)=o.dst:=by
 have h1:=congrArg (List.drop 1) h;rw [zZJ] at h1;exact ⟨h1,by rw [h]; rfl⟩
theorem aV{α β:Type}{r:β}{xs:List α}{i:Int}{g:α->Option β}(k e sz:Nat)(f:α->Or)(h:(cM xs i).bind g=ac r){t:TypeId}{a b:Operand}
  (hk:∀ y,g y=ac r->cM xs i=ac y->ab P p ρ ops (l.drop (k+1)) ((rV P ρ ops k l st).put (Yk (l.drop k)) (.fadr (f y))) K) (hl:l.drop k=o :: l':=by rfl) (h1:(qv P ρ ops (l.take k) st).isSome=true:=by kernel_rfl)
  (ho:o.op=.indexAddr t a b:=by rfl) (hg:jI ops (rV P ρ ops k l st) o=ac true:=by kernel_rfl) (hf:fX ρ (rV P ρ ops k l st) o=true:=by kernel_rfl) (ha:(rV P ρ ops k l st).eval a=ac (.t (.sl sz (xs.map f))):=by kernel_rfl)
  (hb:qdT ((rV P ρ ops k l st).eval b)=ac i:=by kernel_rfl) (hu:P.underlying t=ac (.slice e):=by kernel_rfl) (hs:jX P e=ac sz:=by kernel_rfl):ab P p ρ ops l st K:=by
 obtain ⟨e1,e2⟩:=JJ hl;simp only [e1,e2] at hk;refine am k h1 ?_;obtain ⟨y,h2,h3⟩:=aae h;obtain ⟨kk,hb⟩:=Vl hb;rw [hl];exact qeI f xs i ho hg hf ha hb hu hs h2 (hk y h3 h2)
theorem bQ{α β:Type}{r:β}{xs:List α}{i:Int}{g:α->Option β}(k e sz rw e':Nat)(f:α->Or)(h:(cM xs i).bind g=ac r){t:TypeId}{a b:Operand}
  (hk:∀ y,g y=ac r->cM xs i=ac y->ab P p ρ ops (l.drop (k+1)) ((rV P ρ ops k l st).put (Yk (l.drop k)) (.elem rw sz i.toNat 0)) K) (hl:l.drop k=o :: l':=by rfl) (h1:(qv P ρ ops (l.take k) st).isSome=true:=by kernel_rfl)
  (ho:o.op=.indexAddr t a b:=by rfl) (hg:jI ops (rV P ρ ops k l st) o=ac true:=by kernel_rfl) (hf:fX ρ (rV P ρ ops k l st) o=true:=by kernel_rfl) (ha:(rV P ρ ops k l st).eval a=ac (.own rw):=by kernel_rfl)
  (hr:(rV P ρ ops k l st).rw rw=ac (.live e' sz (xs.map f)):=by kernel_rfl) (hb:qdT ((rV P ρ ops k l st).eval b)=ac i:=by kernel_rfl) (hu:P.underlying t=ac (.slice e):=by kernel_rfl) (hs:jX P e=ac sz:=by kernel_rfl):ab P p ρ ops l st K:=by
 obtain ⟨e1,e2⟩:=JJ hl;simp only [e1,e2] at hk;refine am k h1 ?_;obtain ⟨y,h2,h3⟩:=aae h;obtain ⟨kk,hb⟩:=Vl hb;rw [hl];exact qeJ f xs i rw ho hg hf ha hr hb hu hs h2 (hk y h3 h2)
theorem av{α:Type}(k e:Nat)(f:α->Or)(xs:List α){t:TypeId}{x:Operand}{args:Array Operand}{ts:Array TypeId}(hk:ab P p ρ ops (l.drop (k+1)) ((rV P ρ ops k l st).put (Yk (l.drop k)) (.t (.int .i64 xs.length))) K)(hl:l.drop k=o :: l':=by rfl)
  (h1:(qv P ρ ops (l.take k) st).isSome=true:=by kernel_rfl) (ho:o.op=.call { callee:=.builtin .len,args,argTypes:=ts }:=by rfl) (hargs:args.toList=[x]:=by rfl) (hts:ts.toList=[t]:=by rfl) (hg:jI ops (rV P ρ ops k l st) o=ac true:=by kernel_rfl)
  (hf:fX ρ (rV P ρ ops k l st) o=true:=by kernel_rfl) (hx:qfZ (rV P ρ ops k l st) ((rV P ρ ops k l st).eval x)=ac (xs.map f):=by kernel_rfl) (hu:P.underlying t=ac (.slice e):=by kernel_rfl):ab P p ρ ops l st K:=by
 obtain ⟨e1,e2⟩:=JJ hl;simp only [e1,e2] at hk;refine am k h1 ?_;obtain ⟨y,m,hx,hy⟩:=qcB hx;rw [hl];exact qeL f xs m ho hargs hts hg hf hx hy hu hk
theorem bg{α β:Type}{r:β}{xs ys:List α}{g:Unit->Option β}{by_:Nat}(k d e nn rw:Nat)(f:α->Or)(h:(dW (decide ((xs.length+ys.length)*by_<=140737488355328))).bind g=ac r){t:TypeId}{ts:Array TypeId}{args:Array Operand}{a b:Operand}
  (hk:g ()=ac r->ab P p ρ ops (l.drop (k+1)) (({ rV P ρ ops k l st with rw:=gB (gB (rV P ρ ops k l st).rw rw (ac .gone)) (ip d 0) (ac (.live e nn ((xs++ys).map f))) }:St).put (Yk (l.drop k)) (.own (ip d 0))) K) (hl:l.drop k=o :: l':=by rfl) (h1:(qv P ρ ops (l.take k) st).isSome=true:=by kernel_rfl)
  (ho:o.op=.call { callee:=.builtin .append,args,argTypes:=ts }:=by rfl) (hargs:args.toList=[a,b]:=by rfl) (hts:ts.toList=[t,t]:=by rfl) (hd:o.dst=ac d:=by rfl) (hg:jI ops (rV P ρ ops k l st) o=ac true:=by kernel_rfl) (hf:fX ρ (rV P ρ ops k l st) o=true:=by kernel_rfl)
  (ha:(rV P ρ ops k l st).eval a=ac (.own rw):=by kernel_rfl) (hr:(rV P ρ ops k l st).rw rw=ac (.live e nn (xs.map f)):=by kernel_rfl) (hy:qcC nn (rV P ρ ops k l st) ((rV P ρ ops k l st).eval b)=ac (ys.map f):=by kernel_rfl)
  (hi:KR P t=ac (e,nn,by_):=by kernel_rfl) (hne:zWg (ip d 0) rw=false:=by kernel_rfl) (hfree:(rV P ρ ops k l st).rw (ip d 0)=none:=by kernel_rfl):ab P p ρ ops l st K:=by
 obtain ⟨e1,e2⟩:=JJ hl;simp only [e1,e2] at hk;refine am k h1 ?_;obtain ⟨_,h2,h3⟩:=aae h;obtain ⟨y,m,hb,hy,hm⟩:=qaX hy;rw [hl];exact eF f d m e nn by_ rw xs ys ho hargs hts hd hg hf ha hr hb hy hm hi (of_decide_eq_true (ba h2)) hne hfree (hk h3)
theorem fb{α:Type}{y:α}{xs:List α}{i:Nat}(k sz m rw off e':Nat)(gg:Bool)(f:α->Or)(h:xs[i]?=ac y){t:TypeId}{a:Operand}(hk:ab P p ρ ops (l.drop (k+1)) ((rV P ρ ops k l st).put (Yk (l.drop k)) ((Mq gg m ((f y).map A.t) off).getD .undef)) K)(hl:l.drop k=o :: l':=by rfl)(h1:(qv P ρ ops (l.take k) st).isSome=true:=by kernel_rfl)
  (ho:o.op=.load t a:=by rfl) (hg:jI ops (rV P ρ ops k l st) o=ac true:=by kernel_rfl) (hf:fX ρ (rV P ρ ops k l st) o=true:=by kernel_rfl)
  (ha:(rV P ρ ops k l st).eval a=ac (.elem rw sz i off):=by kernel_rfl) (hr:(rV P ρ ops k l st).rw rw=ac (.live e' sz (xs.map f)):=by kernel_rfl) (hgg:qan P t=ac gg:=by kernel_rfl) (hm:jX P t=ac m:=by kernel_rfl) (hc:(Mq gg m ((f y).map A.t) off).isSome=true:=by kernel_rfl):ab P p ρ ops l st K:=by
 obtain ⟨e1,e2⟩:=JJ hl;simp only [e1,e2] at hk;refine am k h1 ?_;obtain ⟨x,hx⟩:=sr.1 hc;rw [hx] at hk;rw [hl];exact qcx f xs rw i off x ho hg hf ha hr hgg hm h hx hk
end
theorem Yl{P:Program}{f:FuncId}{vs:List V}{o o':Nat}{outs:List (List C)}(hc:zWg o o'=gi)(h:zj P f vs o outs):zj P f vs o' outs:=zWq hc ▸ h
abbrev V.i(n:Int):V:=.one (.t (.int .i64 n))
abbrev V.b(b:Bool):V:=.one (.t (.bool b))
abbrev ei(l:Or):V:=.agg (l.map .t)
def cw:IO->Or->List C
 | 0 :: es,x :: xs=>.t x :: cw es xs
 | (e+1) :: es,.sl sz rows :: xs=>.ow (e+1) sz rows :: cw es xs
 | _ :: es,x :: xs=>.t x :: cw es xs
 | [],xs=>xs.map .t
 | _ :: _,[]=>[]
def V.w(es:IO)(l:Or):V:=.agg (cw es l)
section
variable {P:Program} {st:St} {p:Nat->Bool} {ρ:Nat->fi} {ops:Array Oper} {l:W2} {K:St->Prop} {o:Oper}
theorem mx.le{f:Nat}{l l':List V}{res:V}(hl:Jk l l')(h:mx P f l' res):mx P f l res:=⟨h.1,λw D vs hD hv ht=>h.2 w D vs hD (Qx hl hv) ht⟩
theorem Se(d f:Nat)(caps aa:Os)(vs:List V)(res:V){xf:Operand}{args:Array Operand}{ts:Array TypeId}
  (ho:o.op=.call { callee:=.value xf,args,argTypes:=ts }) (hd:o.dst=ac d) (hg:jI ops st o=ac gi) (hf:fX ρ st o=gi) (hxf:st.eval xf=ac (.clo f caps)) (oC:eQ (args.toList.map st.eval)=ac aa)
  (hp:((fj (aa++caps) MA.ret).run st).map (λq=>CD vs q.1)=ac vs) (hc:mx P f vs res) (hr:((V.toA d (ip d 0) res MA.ret).run st).isSome=gi)
  (hk:ab P p ρ ops l ((Mz ((V.toA d (ip d 0) res MA.ret).run st)).put o.dst (orA ((V.toA d (ip d 0) res MA.ret).run st))) K):ab P p ρ ops (o :: l) st K:=by
 obtain ⟨⟨vs0,st1⟩,h1,h2⟩:=pa.1 hp;have hle:Jk vs0 (CD vs vs0):=CE vs vs0;simp only at h2;rw [h2] at hle;exact Sc d f caps aa vs0 res ho hd hg hf hxf oC (by rw [h1]; rfl) (hc.le hle) hr hk
end
section
variable {P:Program} {n:Nat} {ls:IO} {Q:Exit->St->Prop} {st:St} {p:Nat->Bool} {ρ:Nat->fi} {ops:Array Oper} {l:W2} {K:St->Prop} {y:Code}
theorem Y4.le{f:Nat}{v v' x x':List V}{res:V}{outs:List (List C)}(hv:Jk v v')(hx:Jk x x')(h:Y4 P f v' x' res outs):Y4 P f v x res outs :=
 ⟨h.1,λw F D vs us bs hF hD h1 h2 hn hf ht=>(h.2 w F D vs us bs hF hD (Qx hv h1) (Qx hx h2) hn hf ht).mono λe w' ⟨v,F',bv,bo,a1,a2,a3,a4,a5,a6,a7,a8⟩=>⟨v,F',bv,bo,a1,a2,a3,a4,a5,a6,qdP a7 hv,a8⟩⟩
theorem obx{f:FuncId}{c:Code}{args xs:List V}{res:V}{outs:List (List C)}(fn:Func)(m:Bool)
  (h:Wp P fn.ntmps (gr 0 args) c (DL P m fn args res outs) (eE (((((rn 0 args MA.ret).run dP).map Prod.fst).getD [])++xs.map V.toX) (Mz ((rn 0 args MA.ret).run dP))))
  (hb:fn.body=ac c:=by rfl) (hf:P.funcs[f]?=ac fn:=by kernel_rfl) (hnm:(fn.name == "runtime.NumGoroutine")=false:=by kernel_rfl) (hle:zVy (((((rn 0 args MA.ret).run dP).map Prod.fst).getD [])++xs.map V.toX).length fn.ntmps=true:=by kernel_rfl) (ht:sO fn.ntmps fn=true:=by kernel_rfl)
  (ha:((rn 0 args MA.ret).run dP).isSome=true:=by kernel_rfl) (hl:jk 0 args ((((rn 0 args MA.ret).run dP).map Prod.fst).getD [])=true:=by kernel_rfl):Y4 P f args xs res outs:=by
 obtain ⟨⟨az,st0⟩,h1⟩:=sr.1 ha;rw [h1] at h hle hl;exact qaQ hf hb hnm (zVZ hle) ht h1 hl h
theorem gL{α β:Type}{r:β}{x:Option α}{f:α->Option β}{fid:Nat}{vs us:List V}{res:α->V}{outs:α->List (List C)}(m:Bool)(k d:Nat)(aa xs:Os)(h:x.bind f=ac r)(hc:∀ {y},x=ac y->Y4 P fid vs us (res y) (outs y))
  (hk:∀ y,f y=ac r->ab P p ρ ops (l.drop (k+1)) (clS m p d aa (res y) (outs y) (rV P ρ ops k l st)) K)
  (h1:(qv P ρ ops (l.take k) st).isSome=true:=by kernel_rfl) (h2:C6 P ρ ops (rV P ρ ops k l st) (l.drop k)=ac (fid,aa++xs,d):=by kernel_rfl)
  (h3:((jY m p aa MA.ret).run (rV P ρ ops k l st)).map (λq=>CD vs q.1)=ac vs:=by kernel_rfl)
  (h0:((fj xs MA.ret).run (Mz ((jY m p aa MA.ret).run (rV P ρ ops k l st)))).map (λq=>CD us q.1)=ac us:=by kernel_rfl)
  (h4:∀ y,((eC d (fh aa) (outs y) (V.toA d (ip d 0) (res y) MA.ret)).run (Mz ((jY m p aa MA.ret).run (rV P ρ ops k l st)))).isSome=true:=by intro y; kernel_rfl):ab P p ρ ops l st K:=by
 refine am k h1 ?_
 cases x with
 | none=>cases h
 | some y =>
  have h5:=hc (y:=y) rfl;have h6:=hk y h;have h7:=h4 y
  clear hc hk h4
  simp only [rV,clS] at h2 h3 h6 h7 h0;generalize St.or (qv P ρ ops (l.take k) st)=st1 at *;obtain ⟨o,l',xf,args,ts,az',caps,e1,e2,e3,e4,e5,e6,e7,e8⟩:=zL h2;simp only at e5 e6 e8;have e9:l.drop (k+1)=l':=by rw [<- zZJ,e1]; rfl
  rw [e9] at h6;rw [e1];obtain ⟨⟨vs0,st2⟩,h8,h9⟩:=pa.1 h3;have h10:Jk vs0 vs:=by rw [<- h9]; exact CE vs vs0
  rw [h8] at h6 h7 h0;simp only [Mz,orA] at h6 h7 h0;obtain ⟨⟨us0,st4⟩,h12,h13⟩:=pa.1 h0;have h14:Jk us0 us:=by rw [<- h13]; exact CE us us0
  have hst:st4=st2:=by
   have:=(ro (fj xs MA.ret) (wH (D:=⟨λ_=>True,λ_=>False,λ_=>True,λ_=>False⟩) (vz (λ_=>trivial) _) (λ_=>trivial)) h12).1;exact St.ext this.tm (funext λs=>this.ob s (λh=>h)) (funext λs=>this.rw s (λh=>h))
  subst hst
  cases h11:(eC d (fh aa) (outs y) (V.toA d (ip d 0) (res y) MA.ret)).run st4 with
  | none=>rw [h11] at h7; cases h7
  | some q =>
   obtain ⟨z,st3⟩:=q;rw [h11] at h6;exact ab.step (.run z st3 e2 e3 (.callX m d fid xf args ts az' caps aa xs vs0 us0 st4 (res y) (outs y) e4 e5 e6 e7 e8.symm h8 h12 (h5.le h10 h14) h11)) qhc
end
section
variable {P:Program} {n:Nat} {ls:IO} {Q:Exit->St->Prop} {st:St} {p:Nat->Bool} {ρ:Nat->fi} {ops:Array Oper} {l:W2} {K:St->Prop} {y:Code} {o:Oper}
theorem qeR{α:Type}(f:α->Or)(xs:List α)(r:Nat)(i j:Int){t e e':TypeId}{x:Operand}{lo hi:Option Operand}{alo ahi:Option A}(ho:o.op=.slice t x lo hi cl)(hg:jI ops st o=ac gi)(hf:fX ρ st o=gi)(hx:st.eval x=ac (.own r))
  (hlo:Qq st.eval lo=ac alo) (hhi:Qq st.eval hi=ac ahi) (hn:ahi.isNone=go) (hl:C5 0 alo=ac i) (hh:C5 xs.length ahi=ac j) (hr:st.rw r=ac (.live e' 1 (xs.map f))) (hu:P.underlying t=ac (.slice e)) (hs:jX P e=ac 1) (hw:qdI ρ o.dst=gi) (h:cR i j xs.length=gi)
  (hk:ab P p ρ ops l (st.put o.dst (.win r i.toNat (j - i).toNat)) K):ab P p ρ ops (o :: l) st K:=by
 have h':=Ie h;refine ab.pure (x:=.win r i.toNat (j - i).toNat) hg hf ?_ hk;simp only [tl,ho,hx,hlo,hhi,qem,hw,hn,Bool.true_or,zWQ,XY,hu,hl,hs,MA.run,hr,zWw,hh,h'.1,h'.2.1,h'.2.2,and_self,true_and,↓reduceIte]
theorem qcD{α β:Type}(f:α->β){xs ys:List α}{lo m:Nat}(h:lo+m<=xs.length)(hm:ys.length<=m):(xV xs ys lo).map f=(xs.map f).take lo++ys.map f++(xs.map f).drop (lo+(ys.map f).length):=by
 unfold xV;have h1:ys.take (xs.length - lo)=ys:=zWj al;have h2:min ys.length (xs.length - lo)=ys.length:=by omega
 rw [h1,h2,zYk,zYk,List.map_take,List.map_drop,zWw]
theorem qcE{α:Type}(f:α->Or)(xs ys:List α)(r lo m k:Nat){t t' e e':TypeId}{a b:Operand}{y:A}{args:Array Operand}{ts:Array TypeId}(ho:o.op=.call { callee:=.builtin .copy,args,argTypes:=ts })(hargs:args.toList=[a,b])(hts:ts.toList=[t,t'])(hg:jI ops st o=ac gi)(hf:fX ρ st o=gi)
  (ha:st.eval a=ac (.win r lo m)) (hb:st.eval b=ac y) (hy:((y.rows λm rows=>MA.ret (m,rows)).run st).map Prod.fst=ac (k,ys.map f)) (hm:k=1\/ys.map f=[]) (hr:st.rw r=ac (.live e' 1 (xs.map f))) (hu:P.underlying t=ac (.slice e)) (hs:jX P e=ac 1) (h:lo+m<=xs.length) (hl:ys.length<=m)
  (hk:ab P p ρ ops l ((({ st with rw:=gB st.rw r (ac (.live e' 1 ((xV xs ys lo).map f))) }:St)).put o.dst (.t (.int .i64 (ys.length:Nat)))) K):ab P p ρ ops (o :: l) st K:=by
 refine ab.op (x:=.t (.int .i64 (ys.length:Nat))) hg hf ?_ hk;simp only [tl,ho,hargs,ha,hb,hts,Mr,N8,hu,hs,↓reduceIte];rw [Ou hy];simp only [hm,zWw,hl,and_self,↓reduceIte,MA.run,hr,h,qcD f h hl]
theorem qhF{fid e lo m:Nat}{vs:List V}(k d r:Nat)(ts:Or)(rows:it)(az:Os)(hc:R6 P fid e ts rows vs lo m)
  (hk:ab P p ρ ops (l.drop (k+1)) ((rV P ρ ops k l st).put (ac d) (.win r lo m)) K)
  (h1:(qv P ρ ops (l.take k) st).isSome=true:=by kernel_rfl) (h2:C6 P ρ ops (rV P ρ ops k l st) (l.drop k)=ac (fid,.agg (ts.map A.t++[.own r]) :: az,d):=by kernel_rfl)
  (h0:(match l.drop k with | o :: _=>(match o.op with | .call c=>(match c.callee with | .value xf=>(rV P ρ ops k l st).eval xf | _=>cl) | _=>cl) | []=>cl)=ac (.clo fid []):=by kernel_rfl)
  (h3:(rV P ρ ops k l st).rw r=ac (.live e 1 rows):=by kernel_rfl) (h4:LA az=ac vs:=by kernel_rfl):ab P p ρ ops l st K:=by
 refine am k h1 ?_;simp only [rV] at h2 h0 h3 hk;generalize St.or (qv P ρ ops (l.take k) st)=st1 at *;obtain ⟨o,l',xf,args,tys,az',caps,e1,e2,e3,e4,e5,e6,e7,e8⟩:=zL h2;simp only at e5 e6 e8;have e9:l.drop (k+1)=l':=by rw [<- zZJ,e1]; rfl
 rw [e9] at hk;rw [e1] at h0;simp only [e4] at h0;rw [h0] at e6;have hcap:caps=[]:=by injection e6 with e6; injection e6 with _ e6; exact e6.symm
 subst hcap;rw [zWV] at e8;rw [e1];refine ab.step (.run (.win r lo m) st1 e2 e3 (.callW d fid r e lo m ts rows xf args tys az vs e4 e5 h0 (e7.trans (congrArg ac e8.symm)) h3 h4 hc rfl rfl)) (by rw [e5]; exact hk)
theorem obw{f:FuncId}{c:Code}{e lo m:Nat}{ts:Or}{rows:it}{args:List V}(fn:Func)(as_:Os)
  (h:Wp P fn.ntmps [0] c (qiV P fn lo m e rows) (eE (.agg (ts.map A.t++[.own PR]) :: as_) (Ic e 1 rows))) (hrs:∀ row∈rows,∀ x∈row,T.sc x=gi)
  (hb:fn.body=ac c:=by rfl) (hf:P.funcs[f]?=ac fn:=by kernel_rfl) (hnm:(fn.name == "runtime.NumGoroutine")=false:=by kernel_rfl) (hle:zVy (as_.length+1) fn.ntmps=true:=by kernel_rfl) (ht:sO fn.ntmps fn=true:=by kernel_rfl)
  (ha:LA as_=ac args:=by kernel_rfl):R6 P f e ts rows args lo m :=
 Xe hf hb hnm (zVZ hle) ht ha hrs h
theorem qj0{fn:Func}{lo m e:Nat}{rows:it}(h1:(DK P st fn.results.toList).map qct=ac (.win PR lo m):=by kernel_rfl)(h2:st.rw PR=ac (.live e 1 rows):=by kernel_rfl):qiV P fn lo m e rows .ret st:=by
 obtain ⟨l,h3,h4⟩:=pa.1 h1;exact ⟨.inl rfl,⟨l,h3,h4⟩,h2⟩
end
section
variable {P:Program} {st:St} {p:Nat->Bool} {ρ:Nat->fi} {ops:Array Oper} {l:W2} {K:St->Prop}
def Zk(P:Program)(ρ:Nat->fi)(ops:Array Oper)(st:St)(l:W2)(g:List V->List V):Option (Nat×Nat×List V):=match C6 P ρ ops st l with
 | some (f,az,d)=>((fj az MA.ret).run st).map λq=>(f,d,g q.1)
 | none=>cl
theorem Sf{g:List V->List V}{f d:Nat}{vs:List V}(h:Zk P ρ ops st l g=ac (f,d,vs)):∃ az,C6 P ρ ops st l=ac (f,az,d)/\((fj az MA.ret).run st).map (λq=>g q.1)=ac vs:=by
 unfold Zk at h
 split at h
 ·rename_i f' az d' hc;obtain ⟨q,h1,h2⟩:=pa.1 h
  cases h2
  exact ⟨az,hc,by rw [h1]; rfl⟩
 ·cases h
theorem cT{α β:Type}{r:β}{x:Option α}{f:α->Option β}{fid:Nat}{vs:List V}{res:α->V}(k d:Nat)(h:x.bind f=ac r)(hc:∀ {y},x=ac y->aB P fid vs (res y) [])
  (hk:∀ y,f y=ac r->ab P p ρ ops (l.drop (k+1)) (cbS d (res y) (rV P ρ ops k l st)) K)
  (h1:(qv P ρ ops (l.take k) st).isSome=true:=by kernel_rfl) (h2:Zk P ρ ops (rV P ρ ops k l st) (l.drop k) (CD vs)=ac (fid,d,vs):=by kernel_rfl)
  (h0:∀ y,(res y).pl=true:=by intro y; kernel_rfl)
  (h4:∀ y,((V.toA d (ip d 0) (res y) MA.ret).run (rV P ρ ops k l st)).isSome=true:=by intro y; kernel_rfl):ab P p ρ ops l st K :=
 have ⟨az,h5,h6⟩:=Sf h2
 qhD k d az h hc hk h1 h5 h6 h0 h4
theorem bw{α β:Type}{r:β}{x:Option α}{f:α->Option β}{fid:Nat}{vs:List V}{res:α->V}(k d:Nat)(h:x.bind f=ac r)(hc:∀ {y},x=ac y->mx P fid vs (res y))
  (hk:∀ y,f y=ac r->ab P p ρ ops (l.drop (k+1)) (cbS d (res y) (rV P ρ ops k l st)) K)
  (h1:(qv P ρ ops (l.take k) st).isSome=true:=by kernel_rfl) (h2:Zk P ρ ops (rV P ρ ops k l st) (l.drop k) (CD vs)=ac (fid,d,vs):=by kernel_rfl)
  (h4:∀ y,((V.toA d (ip d 0) (res y) MA.ret).run (rV P ρ ops k l st)).isSome=true:=by intro y; kernel_rfl):ab P p ρ ops l st K:=by
 refine am k h1 ?_
 cases x with
 | none=>cases h
 | some y =>
  have h5:=hc (y:=y) rfl;have h6:=hk y h;have h7:=h4 y
  clear hc hk h4
  obtain ⟨az,h2,h3⟩:=Sf h2;simp only [rV,cbS] at h2 h3 h6 h7;generalize St.or (qv P ρ ops (l.take k) st)=st1 at *;obtain ⟨o,l',xf,args,ts,az',caps,e1,e2,e3,e4,e5,e6,e7,e8⟩:=zL h2;simp only at e5 e6 e8;subst e8;have e9:l.drop (k+1)=l':=by rw [<- zZJ,e1]; rfl
  rw [e9] at h6;rw [e1];obtain ⟨⟨vs0,st2⟩,h8,h9⟩:=pa.1 h3;have h10:Jk vs0 vs:=by rw [<- h9]; exact CE vs vs0
  exact Sc d fid caps az' vs0 (res y) e4 e5 e2 e3 e6 e7 (by rw [h8]; rfl) (h5.le h10) h7 qhc
end
section
variable {P:Program} {n:Nat} {ls:IO} {Q:Exit->St->Prop} {st:St} {x y:Code}
theorem qjz(R:St->Prop)(J:∀ s,R s->Wp P n ls y Q s)(h:Wp P n ls x (Bo R Q) st):Wp P n ls (.seq x y) Q st:=ap (h.mono λe s hq=>by
 cases e with
 | normal=>exact J s hq
 | _=>exact hq)
theorem Wp.L(R:Nat->St->Prop)(h0:∀ s,¬ R 0 s)(hs:∀ k s,R (k+1) s->Wp P n ls x (Bo (R k) Q) s){k:Nat}(h:R k st):Wp P n ls (.loop x) Q st:=by
 refine Wp.loop (k:=k) ?_
 induction k generalizing st with
 | zero=>exact absurd h (h0 st)
 | succ k ih =>
  refine (hs k st h).mono λe s hq=>?_
  cases e with
  | normal=>exact ih hq
  | _=>exact hq
end
def Zl(P:Program):Nat->List FuncId->List FuncId->Nat->List FuncId×List FuncId×Nat
 | 0,todo,seen,m=>(todo,seen,m)
 | n+1,[],seen,m=>([],seen,m)
 | n+1,f :: todo,seen,m=>if m.testBit f then Zl P n todo seen m else Zl P n ((P.funcs[f]?).elim [] P.leadsTo++todo) (f :: seen) (m ||| 2 ^ f)
def okB(seen:List FuncId)(m:Nat):Prop:=∀ f:Nat,seen.contains f=m.testBit f
theorem qhG{seen:List FuncId}{m:Nat}(h:okB seen m)(f:Nat):okB (f :: seen) (m ||| 2 ^ f):=λg=>by
 rw [List.contains_cons,h g,Nat.testBit_or,Nat.testBit_two_pow,Bool.or_comm]
 congr 1
 by_cases hg:g=f
 ·simp [hg]
 ·have:¬ f=g:=λh=>hg h.symm;simp [hg,this]
theorem Vm(P:Program):∀ (a b:Nat) (todo seen:List FuncId) (m:Nat),okB seen m->P.closureVia (a+b) todo seen=P.closureVia b (Zl P a todo seen m).1 (Zl P a todo seen m).2.1
 | 0,b,todo,seen,m,h=>by rw [zWY]; rfl
 | a+1,b,[],seen,m,h=>by
  rw [show a+1+b=(a+b)+1 by omega];show seen.reverse=P.closureVia b [] seen
  cases b <;> rfl
 | a+1,b,f :: todo,seen,m,h=>by
  rw [show a+1+b=(a+b)+1 by omega];rw [show P.closureVia ((a+b)+1) (f :: todo) seen=if seen.contains f then P.closureVia (a+b) todo seen else P.closureVia (a+b) ((P.funcs[f]?).elim [] P.leadsTo++todo) (f :: seen) from rfl,
   show Zl P (a+1) (f :: todo) seen m=if m.testBit f then Zl P a todo seen m else Zl P a ((P.funcs[f]?).elim [] P.leadsTo++todo) (f :: seen) (m ||| 2 ^ f) from rfl,h f]
  cases m.testBit f with
  | true=>exact Vm P a b todo seen m h
  | false=>exact Vm P a b _ _ _ (qhG h f)
def Ym(P:Program):Nat:=1+(P.funcs.toList.map λg=>(P.leadsTo g).length+1).sum
theorem qcF{P:Program}{f:FuncId}{a m:Nat}{L:List FuncId}(h:Zl P a [f] [] 0=([],L.reverse,m))(hF:zVy a (Ym P)=gi):P.closure f=L:=by
 have hle:=zVZ hF;unfold Program.closure;show P.closureVia (Ym P) [f] []=L;rw [show Ym P=a+(Ym P - a) by omega,Vm P a _ _ _ 0 (λg=>by simp),h]
 cases Ym P - a <;> simp [Program.closureVia]
theorem qcG{P:Program}{f:FuncId}{L:List FuncId}{l:List String}(h:P.closure f=L)(h2:(L.filterMap λg=>(P.funcs[g]?).bind λfn=>if fn.ours || fn.body.isNone || fn.name == "runtime.NumGoroutine" then ac fn.name else cl)=l):P.inPlace f=l:=by
 unfold Program.inPlace; rw [h,h2]
theorem Xh{P:Program}{f:FuncId}{L:List FuncId}{b:Bool}(h:P.closure f=L)(h2:(L.any λg=>(P.funcs[g]?).any λfn=>match fn.body with | some c=>c.unfollowed | none=>entryCalls fn)=b):P.unfollowed f=b:=by
 unfold Program.unfollowed; rw [h]; exact h2
theorem qaY{P:Program}{f:FuncId}(h:P.unfollowed f=gi):P.recurses f=true:=by
 unfold Program.recurses; rw [h]; rfl
theorem Zm{P:Program}{f:FuncId}{L:List FuncId}{l:List String}(h:P.closure f=L)(h2:((((L.flatMap λg=>((P.funcs[g]?).bind (·.body)).elim [] Code.globalsNamed).eraseDups).filterMap (λg=>(P.globals[g]?).map (·.name)) ++
  L.filterMap λg=>(P.funcs[g]?).bind λfn=>if fn.body.isNone then entryReads.lookup fn.name else cl).eraseDups)=l):P.varsNamed f=l:=by
 unfold Program.varsNamed; rw [h,h2]
end Go.Tm
namespace Go.Tm
open Go.RowKit
section
variable {P:Program} {E:En} {g:Gh} {st st':St} {a:Act} {w w':World} {n:Nat}
theorem VR.dw{O R:Nat->Prop}{x:A}{v:Value}(h:VR w g O R x v)(hsh:g.sh=go)(hs:ER g.D g.dw w'):VR w { g with dw:=w' } O R x v:=by
 induction h with
 | t x v h=>exact .t x v h
 | nil=>exact .nil
 | own r hr=>exact VR.own (g:={ g with dw:=w' }) r hr
 | agg l vs hl h ih=>exact .agg l vs hl ih
 | tup l vs hl h ih=>exact .tup l vs hl ih
 | obj s off hs=>exact VR.obj (g:={ g with dw:=w' }) s off hs
 | elem r sz i off b n c hr he=>exact VR.elem (g:={ g with dw:=w' }) r sz i off b n c hr he
 | win r lo m n c c' ad a' hr he hm hp=>exact VR.win (g:={ g with dw:=w' }) r lo m n c c' ad a' hr he hm hp
 | sub r sz lo n c c' ad a' hr he hp=>exact VR.sub (g:={ g with dw:=w' }) r sz lo n c c' ad a' hr he hp
 | fadr cells b off u hF hx hr=>exact VR.fadr (g:={ g with dw:=w' }) cells b off u hF hx hr
 | nn sz rows v h hv=>exact VR.nn (g:={ g with dw:=w' }) sz rows v h hv
 | clo f caps vs hl h ih=>exact .clo f caps vs hl ih
 | undef v=>exact .undef v
 | raw v=>exact .raw v
 | osl s a n c hs ha=>exact VR.osl (g:={ g with dw:=w' }) s a n c hs ha
 | shp x v h=>exact VR.shp (g:={ g with dw:=w' }) x v h
 | ext s x v hs' h =>
  rw [hsh] at hs';subst hs';exact VR.ext (g:={ g with dw:=w' }) go x v hsh (h.rd hs λ_ h=>h).sd
 | exa s cells b off u hs' hD hx hr =>
  rw [hsh] at hs';subst hs';exact VR.exa (g:={ g with dw:=w' }) go cells b off u hsh hD (λj x h=>by rw [Ei hs hD]; exact hx j x h) λj x h=>((hr j x h).rd hs λ_ h=>h).sd
structure Unk (E:En) (g:Gh) (st:St) (b:Nat):Prop where
 f:¬ g.F b
 o:∀ s,st.O s->g.ob s≠b
 r:∀ r,st.L r->(g.rw r).ownBlock≠ac b
 d:¬ E.D b
theorem lj.unk{b:Nat}(hS:lj E g n st a w)(hb:b < E.w0.heap.size/\¬ E.X b/\¬ E.F0 b/\¬ E.D b):Unk E g st b:=by
 obtain ⟨h1,h2,h3,h4⟩:=hb;refine ⟨λh=>?_,λs hO he=>?_,λr hL he=>?_,h4⟩
 ·rcases (hS.mem.F b h).2.1 h1 with h | h
  ·exact h3 h
  ·exact h2 h
 ·obtain ⟨cells,hcells⟩:=sr.1 hO;obtain ⟨_,_,_,_,_,_,h5⟩:=hS.mem.ob s cells hcells;rw [he] at h5;rcases h5 with h5 | h5
  ·omega
  ·exact h2 h5
 ·obtain ⟨e,sz,rows,hL⟩:=hL;obtain ⟨_,_,_,_,h5⟩:=hS.mem.row r _ hL;rcases (h5 b he).2 with h5 | h5
  ·omega
  ·exact h2 h5
theorem lj.still{k:Nat}(hS:lj E g n st a w)(hsh:E.sh=go)(h1:k < E.w0.heap.size)(h2:¬ E.X k):w.heap[k]?=E.w0.heap[k]?:=by
 rcases hS.mem.frame k h1 h2 with h | ⟨h,_⟩
 ·exact h
 ·rw [hS.mem.dep0.1.2.2,hsh] at h; cases h
section
variable {w00:World} {X0 D0:Nat->Prop} {b m:Nat} {c x y:Code} {Q:Exit->St->List gs->Prop} {ks:List gs}
variable {p:Nat->Bool} {ρ:Nat->fi} {ops:Array Oper}
theorem Uw{Q:Exit->Act->World->Prop}[Tb P E]{l2:IO}(hd:∀ (i:Nat) (o:Oper),ops[i]?=ac o->rq n o=gi):∀ {l:IO} {st:St} {g:Gh} {a:Act} {w:World},lj E g n st a w->U4 P p ρ ops l st st' ->
  (∀ g a w,lj E g n st' a w->wpOps P ops Q l2 a w)->wpOps P ops Q (l++l2) a w
 | [],st,g,a,w,hS,h,hQ=>hQ g a w (by have h:st'=st:=h; rw [h]; exact hS)
 | i :: l,st,g,a,w,hS,⟨b,h1,h2⟩,hQ=>by
  rw [List.cons_append,wpOps_cons];exact ES hS (hd i) h1 λg' a' w' hS'=>Uw hd hS' h2 hQ
end
end
section
variable {P:Program} {E:En} {g:Gh} {st st':St} {a:Act} {w w':World} {n:Nat} {w00:World} {X0 D0:Nat->Prop} {b m:Nat} {c x y:Code} {Q:Exit->St->List gs->Prop} {ks:List gs}
variable {p:Nat->Bool} {ρ:Nat->fi} {ops:Array Oper}
theorem qhH{s:Nat}(hS:lj E g n st a w)(hO:st.O s):g.ob s < w.heap.size/\(E.w0.heap.size<=g.ob s\/E.X (g.ob s)):=by
 obtain ⟨cells,hcells⟩:=sr.1 hO;obtain ⟨_,_,h1,_,_,_,h5⟩:=hS.mem.ob s cells hcells;exact ⟨(Dp.1 h1).1,h5⟩
theorem Zn{r k:Nat}(hS:lj E g n st a w)(hL:st.L r)(hk:(g.rw r).ownBlock=ac k):k < w.heap.size/\(E.w0.heap.size<=k\/E.X k):=by
 obtain ⟨e,sz,rows,hL⟩:=hL;obtain ⟨_,ho,_,_,h5⟩:=hS.mem.row r _ hL;exact ⟨(ho.lt k hk).2,(h5 k hk).2⟩
theorem qaZ{l:W2}{l2:W2}(hops:ops.toList=l++l2)(hr:Jj P p ρ ops l st st'):U4 P p ρ ops (zXW 0 l.length) st st':=by
 have key:∀ (l:W2) (k:Nat) (st:St),(∀ j,j < l.length->l[j]?=ops[k+j]?)->Jj P p ρ ops l st st'->U4 P p ρ ops (zXW k l.length) st st':=by
  intro l
  induction l with
  | nil=>intro k st _ h; exact h
  | cons o l ih =>
   intro k st hl ⟨q,h1,h2⟩;refine ⟨q,?_,ih (k+1) q (λj hj=>by have:=hl (j+1) wz9; simpa [zZj,Nat.add_comm 1 j] using this) h2⟩;have:=hl 0 ig;simp at this;unfold xU;rw [<- this];exact h1
 refine key l 0 st (λj hj=>?_) hr;rw [zWY,<- zWz,hops,zQW hj]
theorem Ux(hd:ops.toList.all (rq n)=gi):∀ (i:Nat) (o:Oper),ops[i]?=ac o->rq n o=true:=λi o ho=>zm.1 hd o (by simpa using Array.mem_of_getElem? ho)
end
section
variable {ι:Type} {P:Program} {E:En} [Tb P E] {g:Gh} {st st':St} {a:Act} {w:World} {n:Nat}
def qiA(w:World)(F:Nat->Prop)(us:List Value)(bs:IO)(vs:List V)(res:ι->V)(outs:ι->List (List C))(X:ι->World->IO->Prop)(e:Ending)(w':World):Prop :=
 ∃ i v F' bv bo Bs,e=.returned v/\vu w w'/\(∀ b,b < w.heap.size->b∉bs->w'.heap[b]?=w.heap[b]?)/\(∀ b,F b->F' b)/\(∀ b,F' b->b < w'.heap.size/\(b < w.heap.size->F b\/b∈bs)/\(F b\/Wr w' b)) /\
  VV w' F' (res i) v bv/\ud w' F' vs us (outs i) bo/\(bv++bo++Bs).Nodup/\(∀ b∈bv++bo++Bs,¬ F' b/\(w.heap.size<=b\/b∈bs))/\X i w' Bs
def FO(P:Program)(f:FuncId)(vs:List V)(res:ι->V)(outs:ι->List (List C))(X:ι->World->IO->Prop):Prop :=
 AO P f/\∀ (w:World) (F:Nat->Prop) (us:List Value) (bs:IO),(∀ b,F b->b < w.heap.size)->IJ w F vs us bs->bs.Nodup->(∀ b∈bs,¬ F b)->W9 P w (λb=>b∈bs)->Calls P f us.toArray w (qiA w F us bs vs res outs X)
theorem qa0{d f:Nat}{m:Bool}{p:Nat->Bool}{o:Oper}{xf:Operand}{args:Array Operand}{ts:Array TypeId}{caps az:Os}{vs:List V}{st1:St}{res:ι->V}{outs:ι->List (List C)}{X:ι->World->IO->Prop}{x:ι->A}{stx:ι->St}
  (hS:lj E g n st a w) (ho:o.op=.call { callee:=.value xf,args,argTypes:=ts }) (hf:st.eval xf=ac (.clo f caps)) (oC:eQ (args.toList.map st.eval)=ac az)
  (hp:(jY m p (az++caps) MA.ret).run st=ac (vs,st1)) (hc:FO P f vs res outs X) (hr:∀ i,(eC d (fh (az++caps)) (outs i) (V.toA d (ip d 0) (res i) MA.ret)).run st1=ac (x i,stx i)) :
  D3 P o a w λv w'=>∃ i Bs g',D1 E g st w (x i) (stx i) v g' w'/\X i w' Bs/\Bs.Nodup/\∀ b∈Bs,IK E g' (stx i) b:=by
 have hM:=hS.mem;obtain ⟨hcl,hcc⟩:=hc;have hvf:=cm hS hf;generalize hvv:a.eval xf=vf at hvf
 cases hvf with
 | clo f caps vcaps hl hx =>
  refine lR ho hvv hcl ?_;obtain ⟨ha1,ha2⟩:=Gs hS oC;obtain ⟨cs,st1',g1,bs,hM1,hE1,hL1,h1,hVV,hT,hA,hsl⟩:=BN (vs:=args.toList.map a.eval++vcaps) (az++caps) hM qfu (λj y hj=>by
   rw [zWx] at hj
   split at hj
   ·rename_i hlt;have hlt':j < (args.toList.map a.eval).length:=by rw [<- ha1]; exact hlt
    exact ⟨_,by rw [zQW hlt']; exact sX hlt',ha2 j y _ hj (sX hlt')⟩
   ·rename_i hge;have hlt:j - az.length < vcaps.length:=by rw [<- hl]; exact (ln.1 hj).1
    exact ⟨_,by rw [zQX qel,<- ha1]; exact sX hlt,hx _ y _ hj (sX hlt)⟩) hp
  obtain ⟨rfl,rfl⟩:=gK h1;have hbsX:∀ b∈bs,b < E.w0.heap.size->E.X b:=λb hb hlt=>by
   rcases hT.of b hb with ⟨r,h2,_,h4⟩ | ⟨s,⟨c,cs,h2⟩,_,h4⟩
   ·rcases (hM.row_nf h2 h4).2 with h5 | h5
    ·omega
    ·exact h5
   ·rcases (hM.ob_nf (s:=s) wz7).2 with h5 | h5
    ·omega
    ·exact h4 ▸ h5
  refine (hcc w g1.F _ bs (λb hb=>(hM1.F b hb).1) hVV hT.nodup hT.nf (hM.tbW λb h1 h2 _ h3=>h2 (hbsX b h3 h1))).mono λe w' ⟨i,v,F',bv,bo,Bs,he,hcalm,hsame,hFF,hF',hvr,hO,hnd,hex,hX⟩=>⟨v,he,i,Bs,?_⟩;have hbsrow:∀ b∈bs,∀ r,st1.L r->(g1.rw r).ownBlock≠ac b:=λb hb r hr he=>by
   rw [hL1.rw] at he;rcases hT.of b hb with ⟨r',h2,h3,h4⟩ | ⟨s,⟨c,cs,h2⟩,_,h4⟩
   ·exact h3 (hM.rowne r r' b (hL1.L r hr) h2 he h4 ▸ hr)
   ·exact hM.rowob r s (hL1.L r hr) wz7 (h4 ▸ he)
  have hbsob:∀ b∈bs,∀ s,st1.O s->g1.ob s=b->st1.ob s=ac []/\s∈fh (az++caps):=λb hb s hs he=>by
   rw [hL1.ob] at he;have hs':st.O s:=(hL1.O s).1 hs;rcases hT.of b hb with ⟨r',h2,h3,h4⟩ | ⟨s',⟨c,cs,h2⟩,h3,h4⟩
   ·exact absurd (he ▸ h4) (hM.rowob r' s h2 hs')
   ·have:=hM.obne s s' hs' wz7 (he.trans h4.symm);subst this;exact ⟨h3,hsl s qg6⟩
  have hF0:∀ b,b < w.heap.size->F' b->g1.F b\/b∈bs:=λb h2 h3=>(hF' b h3).2.1 h2;have hA1:vw g1 (az++caps) vs (args.toList.map a.eval++vcaps):=hA.congr' hL1.ob;have hlentF:∀ s,s∈fh (az++caps)->g1.ob s∈bo:=ud.mem hA1 hO;obtain ⟨hM2,hE2⟩:=hM1.step (w':=w') (g':={ g1 with F:=F' }) (st':=st1) hcalm (λb=>b∈bs) (λb h2 h3=>hsame b h2 h3) (λb hb=>hT.nf b hb) (λb h2 h3=>hbsX b h3 h2) hFF
   (λb h2 h3=>⟨(hF' b h2).1,λhlt=>(hF0 b (zWW hlt hM1.sizes) h2).elim (λh4=>absurd h4 h3) (λh4=>.inr (hbsX b h4 hlt)),.inr ((hF' b h2).2.2.resolve_left h3)⟩) (λ_ h=>⟨h,rfl⟩) (λ_ h=>⟨h,rfl⟩)
   (λs cells hs=>by
    have hOs:st1.O s:=by simp [St.O,hs]
    by_cases hb:g1.ob s∈bs
    ·obtain ⟨h5,h6⟩:=hbsob _ hb s hOs rfl;rw [hs] at h5
     cases h5
     obtain ⟨arr,e,hh⟩:=KJ hA1 hO s h6;refine .inr ⟨arr,e,hh,by simp,by simp,?_,(hM1.ob_nf hOs).2⟩;exact (hex _ (sa.2 (.inl (sa.2 (.inr (hlentF s h6)))))).1
    ·refine .inl ⟨hs,hb,λhf=>?_⟩;rcases hF0 _ (hM1.ob_lt hOs) hf with h5 | h5
     ·exact (hM1.ob_nf hOs).1 h5
     ·exact hb h5) hM1.obne
   (λr x hr=>.inl ⟨hr,λhL b hb=>⟨λhm=>hbsrow b hm r hL hb,λhf=>by
    rcases hF0 b (hM1.row_lt hL hb) hf with h5 | h5
    ·exact (hM1.row_nf hL hb).1 h5
    ·exact hbsrow b h5 r hL hb⟩⟩) hM1.rowne hM1.rowob
  have hI:Inv E { g1 with F:=F' } st1 (fh (az++caps)) (bo++(bv++Bs)):=by
   have hm:∀ x,x∈bo++(bv++Bs)->x∈bv++bo++Bs:=λx hx=>by
    simp only [zWv] at hx ⊢;rcases hx with h | h | h
    ·exact .inl (.inr h)
    ·exact .inl (.inl h)
    ·exact .inr h
   refine ⟨?_,λb hb=>(hex b (hm b hb)).1,λb hb=>?_,λb hb r hr he=>?_,λb hb s hs he=>?_⟩
   ·rw [zQJ] at hnd;exact (List.perm_append_comm_assoc bv bo Bs).nodup hnd
   ·rcases (hex b (hm b hb)).2 with h5 | h5
    ·exact .inl (zXQ hM1.sizes h5)
    ·by_cases hlt:b < E.w0.heap.size
     ·exact .inr (hbsX b h5 hlt)
     ·exact .inl al
   ·rcases (hex b (hm b hb)).2 with h5 | h5
    ·exact absurd (hM1.row_lt hr he) al
    ·exact hbsrow b h5 r hr he
   ·rcases (hex b (hm b hb)).2 with h5 | h5
    ·exact absurd (hM1.ob_lt hs) qg7
    ·exact (hbsob b h5 s hs he).2
  have hA2:vw { g1 with F:=F' } (az++caps) vs (args.toList.map a.eval++vcaps):=hA1.congr' (g:=g1) (g1:={ g1 with F:=F' }) rfl;obtain ⟨st2,g2,hM3,hE3,hF3,ht3,h6,hI3⟩:=wF (w:=w') hM2 hA2 hO hI (hr i);have hfr:∀ b∈bv++Bs,IK E g2 st2 b:=λb hb=>⟨hI3.F b hb,λs hs he=>by have:=hI3.ob b hb s hs he; simp at this,hI3.row b hb,hI3.X b hb⟩;have hnd3:=List.nodup_append.1 hI3.nodup;obtain ⟨x',st3,g3,hG,h7,hvx⟩:=BO (w:=w') (res i) hM3 (by rw [hF3]; exact hvr) hnd3.1 (λb hb=>hfr b (sa.2 (.inl hb))) h6;obtain ⟨e1,e2⟩:=gK h7;refine ⟨g3,by rw [e1,e2]; exact ⟨hG.mem,hvx,((hE1.trans hE2).trans hE3).trans hG.ext,hG.tm.trans (ht3.trans hL1.tm)⟩,hX,hnd3.2.1,λb hb=>?_⟩;rw [e2];exact hG.fr b (hfr b (sa.2 (.inr hb))) (λh=>hnd3.2.2 b h b hb rfl)
def En.anewL(E:En)(g:Gh)(st:St)(w:World):En:={ w0:=w,X:=λk=>(∃ s,st.O s/\g.ob s=k)\/∃ r,st.L r/\(g.rw r).ownBlock=ac k,F0:=g.F,lent:=E.lent,D:=E.D }
theorem qf0(hS:lj E g n st a w){k:Nat}(h:(E.anewL g st w).X k):E.w0.heap.size<=k\/E.X k:=by
 rcases h with ⟨s,hO,he⟩ | ⟨r,hL,he⟩
 ·exact he ▸ (qhH hS hO).2
 ·exact (Zn hS hL he).2
theorem lj.anewL(hS:lj E g n st a w)(hsh:E.sh=go)(hpin:E.pin=cl):lj (E.anewL g st w) { g with dw:=w } n st a w:=by
 have hM:=hS.mem;obtain ⟨⟨hD,hdw,hgs⟩,hd0⟩:=hM.dep0;have hgsh:g.sh=false:=hgs.trans hsh;have hSD:ER g.D g.dw w:=λk hk=>by
  rw [hD] at hk;obtain ⟨h1,h2,_⟩:=hd0 k hk;rw [hdw];rcases hM.frame k h1 h2 with h3 | ⟨h3,_⟩
  ·exact h3
  ·rw [hgsh] at h3; cases h3
 have hv:∀ {x v},VR w g st.O st.R x v->VR w { g with dw:=w } st.O st.R x v:=λh=>h.dw hgsh hSD;refine ⟨⟨λs cells h=>?_,hM.obne,λr x h=>?_,hM.rowne,hM.rowob,λk hk=>⟨(hM.F k hk).1,λ_=>.inl hk,.inl hk⟩,rfl,rfl,rfl,zWK _,λ_ _ _=>.inl rfl,hM.shp,⟨hD,rfl,hgsh⟩,λk hk=>?_⟩,
  hS.size,hS.defers,λi hi=>?_,hS.und,hS.lent,λ_ h=>Fq⟩
 ·obtain ⟨arr,e,h1,h2,h3,h4,h5⟩:=hM.ob s cells h;have hO:st.O s:=by simp [St.O,h]
  exact ⟨arr,e,h1,h2,λj x hj=>by
   obtain ⟨h6,v,h7,h8⟩:=h3 j x hj;exact ⟨h6,v,h7,hv h8⟩,h4,.inr (.inl ⟨s,hO,rfl⟩)⟩
 ·have hr:=hM.row r x h
  cases x with
  | live e sz rows =>
   have hL:st.L r:=⟨e,sz,rows,h⟩;obtain ⟨inner,h1,h2,h3,h4⟩:=hr;exact ⟨inner,h1,h2,h3,λk hk=>⟨(h4 k hk).1,.inr (.inr ⟨r,hL,hk⟩)⟩⟩
  | frz sz rows=>exact hr
  | gone=>exact hr
 ·obtain ⟨h1,h2,_⟩:=hd0 k hk;refine ⟨zWW h1 hM.sizes,λhX=>?_,λh=>Fq⟩;rcases qf0 hS hX with h | h
  ·omega
  ·exact h2 h
 ·obtain ⟨v,h1,h2⟩:=hS.tm i hi;exact ⟨v,h1,hv h2⟩
structure Kl (E E':En):Prop where
 n0:E.w0.heap.size<=E'.w0.heap.size
 same:∀ k,k < E.w0.heap.size->¬ E.X k->¬ E'.X k/\E'.w0.heap[k]?=E.w0.heap[k]?
 F0:∀ k,E'.F0 k->(k < E.w0.heap.size->E.F0 k\/E.X k)/\(E.F0 k\/Wr E'.w0 k)
 fx:∀ k,E'.F0 k->¬ E'.X k
 os:E'.w0.os=E.w0.os
 tape:E'.w0.tape=E.w0.tape
 output:E'.w0.output=E.w0.output
 d:E'.D=E.D
 sh:E'.sh=go
 lent:E'.lent=E.lent
 pin:E'.pin=cl
theorem Kl.anew(hS:lj E g n st a w)(hsh:E.sh=go):Kl E (E.anewL g st w):=by
 have hM:=hS.mem;refine ⟨hM.sizes,λk h1 h2=>⟨λh=>?_,hS.still hsh h1 h2⟩,λk hk=>⟨(hM.F k hk).2.1,(hM.F k hk).2.2⟩,λk hk h=>?_,hM.os,hM.tape,hM.output,rfl,rfl,rfl,rfl⟩
 ·rcases qf0 hS h with h | h
  ·omega
  ·exact h2 h
 ·rcases h with ⟨s,hO,he⟩ | ⟨r,hL,he⟩
  ·exact (hM.ob_nf hO).1 (he ▸ hk)
  ·exact (hM.row_nf hL he).1 hk
theorem lj.home{E':En}(hK:Kl E E')(hsh:E.sh=go)(hpin:E.pin=cl)(hd:∀ b,E.D b->b < E.w0.heap.size/\¬ E.X b)(hS:lj E' g n st a w):lj E { g with dw:=E.w0 } n st a w:=by
 have hM:=hS.mem;obtain ⟨⟨hD,hdw,hgs⟩,hd0⟩:=hM.dep0;have hgsh:g.sh=false:=hgs.trans hK.sh;have hSD:ER g.D g.dw E.w0:=λk hk=>by
  rw [hD,hK.d] at hk;obtain ⟨h1,h2⟩:=hd k hk;rw [hdw,(hK.same k h1 h2).2]
 have hv:∀ {x v},VR w g st.O st.R x v->VR w { g with dw:=E.w0 } st.O st.R x v:=λh=>h.dw hgsh hSD;have hX:∀ {k},E'.w0.heap.size<=k\/E'.X k->E.w0.heap.size<=k\/E.X k:=λ{k} h=>by
  rcases h with h | h
  ·exact .inl (zXQ hK.n0 h)
  ·by_cases h1:k < E.w0.heap.size
   ·by_cases h2:E.X k
    ·exact .inr h2
    ·exact absurd h (hK.same k h1 h2).1
   ·exact .inl al
 refine ⟨⟨λs cells h=>?_,hM.obne,λr x h=>?_,hM.rowne,hM.rowob,λk hk=>?_,hM.os.trans hK.os,hM.tape.trans hK.tape,hM.output.trans hK.output,zXQ hK.n0 hM.sizes,λk h1 h2=>.inl ?_,hM.shp,⟨hD.trans hK.d,rfl,hgsh.trans hsh.symm⟩,λk hk=>?_⟩,
  hS.size,hS.defers,λi hi=>?_,hS.und,λs b h=>hS.lent s b (by rw [hK.lent]; exact h),λ_ h=>(by rw [hpin] at h; cases h)⟩
 ·obtain ⟨arr,e,h1,h2,h3,h4,h5⟩:=hM.ob s cells h;exact ⟨arr,e,h1,h2,λj x hj=>by
   obtain ⟨h6,v,h7,h8⟩:=h3 j x hj;exact ⟨h6,v,h7,hv h8⟩,h4,hX h5⟩
 ·have hr:=hM.row r x h
  cases x with
  | live e sz rows =>
   obtain ⟨inner,h1,h2,h3,h4⟩:=hr;exact ⟨inner,h1,h2,h3,λk hk=>⟨(h4 k hk).1,hX (h4 k hk).2⟩⟩
  | frz sz rows=>exact hr
  | gone=>exact hr
 ·obtain ⟨h1,h2,h3⟩:=hM.F k hk;refine ⟨h1,λhlt=>?_,?_⟩
  ·rcases h2 (zWW hlt hK.n0) with h | h
   ·exact (hK.F0 k h).1 hlt
   ·rcases hX (.inr h) with h | h
    ·omega
    ·exact .inr h
  ·rcases h3 with h | h
   ·rcases (hK.F0 k h).2 with h4 | ⟨arr,e,h4⟩
    ·exact .inl h4
    ·refine .inr ⟨arr,e,?_⟩;rw [hS.still hK.sh (Dp.1 h4).1 (hK.fx k h)];exact h4
   ·exact .inr h
 ·obtain ⟨h3,h5⟩:=hK.same k h1 h2;rw [hS.still hK.sh (zWW h1 hK.n0) h3,h5]
 ·obtain ⟨h1,h2⟩:=hd k hk;refine ⟨h1,h2,λh=>?_⟩;rw [hsh] at h; cases h
 ·obtain ⟨v,h1,h2⟩:=hS.tm i hi;exact ⟨v,h1,hv h2⟩
end
abbrev CN:=Option Addr×Nat×Nat
abbrev hv(h:CN):Value:=.slice h.1 h.2.1 h.2.2
abbrev hT(h:CN):T:=.hdr h.1 h.2.1 h.2.2
def hB(h:CN):IO:=(hv h).ownBlock.toList
def bys(x:gs):List Value:=x.map (Value.int .u8)
inductive K where
 | none
 | inn (hs:List CN) (xs:List gs)
 | deep (h:CN) (xs:List gs)
 | hole (hs:List CN) (xs:List gs) (i:Nat)
def qcH(e2:TypeId)(w:World)(hs:List CN)(xs:List gs):Prop:=hs.length=xs.length/\∀ (i:Nat) (h:CN) (x:gs),hs[i]?=ac h->xs[i]?=ac x->w.ownsRow 0 e2 1 (hv h) x.length (bys x)
def Y(e e2:TypeId):K->World->IO->Prop
 | .none,_,Bs=>Bs=[]
 | .inn hs xs,w,Bs=>qcH e2 w hs xs/\Bs=hs.flatMap hB
 | .deep h xs,w,Bs=>∃ hs,qcH e2 w hs xs/\w.ownsRow 0 e 1 (hv h) hs.length (hs.map hv)/\Bs=hB h++hs.flatMap hB
 | .hole hs xs i,w,Bs=>(hs.length=xs.length/\∀ (j:Nat) (h:CN) (x:gs),j≠i->hs[j]?=ac h->xs[j]?=ac x->w.ownsRow 0 e2 1 (hv h) x.length (bys x))/\Bs=(hs.eraseIdx i).flatMap hB
theorem If{w w':World}{base:Nat}{e:TypeId}{sz n:Nat}{v:Value}{xs:List Value}(h:w.ownsRow base e sz v n xs)(hs:∀ b,v.ownBlock=ac b->w'.heap[b]?=w.heap[b]?):w'.ownsRow base e sz v n xs:=by
 refine ⟨h.1,?_⟩;rcases h.2 with h1 | ⟨g,cap,cur,hv,h2,h3,h4⟩
 ·exact .inl h1
 ·exact .inr ⟨g,cap,cur,hv,h2,by rw [hs g (by rw [hv]; rfl)]; exact h3,h4⟩
theorem pf{h:CN}{b:Nat}:b∈hB h↔(hv h).ownBlock=ac b:=by unfold hB; simp
section
variable {e e2:TypeId} {w w':World}
theorem qcH.same{hs:List CN}{xs:List gs}(h:qcH e2 w hs xs)(hB':∀ b∈hs.flatMap hB,w'.heap[b]?=w.heap[b]?):qcH e2 w' hs xs :=
 ⟨h.1,λi q x h1 h2=>If (h.2 i q x h1 h2) λb hb=>hB' b (List.mem_flatMap.2 ⟨q,zQQ h1,pf.2 hb⟩)⟩
theorem qcH.lt{hs:List CN}{xs:List gs}(h:qcH e2 w hs xs):∀ b∈hs.flatMap hB,b < w.heap.size:=λb hb=>by
 obtain ⟨q,hq,hb⟩:=List.mem_flatMap.1 hb;obtain ⟨i,hi⟩:=Sh.1 hq;have hl:=(ln.1 hi).1;exact ((h.2 i q _ hi (sX (by rw [<- h.1]; exact hl))).lt b (pf.1 hb)).2
theorem OA{hs:List CN}{i b:Nat}:b∈(hs.eraseIdx i).flatMap hB↔∃ j h,j≠i/\hs[j]?=ac h/\b∈hB h:=by
 simp only [List.mem_flatMap,List.mem_eraseIdx_iff_getElem?];constructor
 ·rintro ⟨h,⟨j,h1,h2⟩,h3⟩; exact ⟨j,h,h1,h2,h3⟩
 ·rintro ⟨j,h,h1,h2,h3⟩; exact ⟨h,⟨j,h1,h2⟩,h3⟩
theorem Y.lt:∀ {k:K} {Bs:IO},Y e e2 k w Bs->∀ b∈Bs,b < w.heap.size
 | .none,Bs,h=>λb hb=>by have:Bs=[]:=h; subst this; cases hb
 | .inn hs xs,Bs,h=>λb hb=>by obtain ⟨h1,rfl⟩:=h; exact h1.lt b hb
 | .deep q xs,Bs,h=>λb hb=>by
  obtain ⟨hs,h1,h2,rfl⟩:=h;rcases sa.1 hb with hb | hb
  ·exact (h2.lt b (pf.1 hb)).2
  ·exact h1.lt b hb
 | .hole hs xs i,Bs,h=>λb hb=>by
  obtain ⟨⟨h1,h2⟩,rfl⟩:=h;obtain ⟨j,q,h3,h4,h5⟩:=OA.1 hb;have hl:=(ln.1 h4).1;exact ((h2 j q _ h3 h4 (sX (by rw [<- h1]; exact hl))).lt b (pf.1 h5)).2
theorem Y.same:∀ {k:K} {Bs:IO},Y e e2 k w Bs->(∀ b∈Bs,w'.heap[b]?=w.heap[b]?)->Y e e2 k w' Bs
 | .none,Bs,h,_=>h
 | .inn hs xs,Bs,h,hs'=>by obtain ⟨h1,rfl⟩:=h; exact ⟨h1.same hs',rfl⟩
 | .deep q xs,Bs,h,hs'=>by
  obtain ⟨hs,h1,h2,rfl⟩:=h;exact ⟨hs,h1.same λb hb=>hs' b (sa.2 (.inr hb)),If h2 λb hb=>hs' b (sa.2 (.inl (pf.2 hb))),rfl⟩
 | .hole hs xs i,Bs,h,hs'=>by
  obtain ⟨⟨h1,h2⟩,rfl⟩:=h;exact ⟨⟨h1,λj q x h3 h4 h5=>If (h2 j q x h3 h4 h5) λb hb=>hs' b (OA.2 ⟨j,q,h3,h4,pf.2 hb⟩)⟩,rfl⟩
end
section
variable {P:Program} {E E0:En} {g:Gh} {st st':St} {a:Act} {w:World} {n:Nat} {ls:IO} {x y c:Code} {k:K} {e e2:TypeId} {Q:Exit->St->K->Prop}
def Bes(E0 E:En)(e e2:TypeId)(k:K):Prop:=∃ Bs,Y e e2 k E.w0 Bs/\Bs.Nodup/\∀ b∈Bs,(b < E.w0.heap.size/\¬ E.X b/\¬ E.F0 b/\¬ E.D b)/\(E0.w0.heap.size<=b\/E0.X b)
def Wd(P:Program)(n:Nat)(ls:IO)(E0:En)(e e2:TypeId)(c:Code)(Q:Exit->St->K->Prop)(st:St)(k:K):Prop :=
 ∀ (E:En) (g:Gh) (a:Act) (w:World),ELp P E ls->Kl E0 E->Bes E0 E e e2 k->lj E g n st a w ->
  c.wp P (λx a' w'=>∃ E' g' st' k',ELp P E' ls/\Kl E0 E'/\Bes E0 E' e e2 k'/\lj E' g' n st' a' w'/\Q x st' k') a w
def Vn(N:St->K->Prop)(Q:Exit->St->K->Prop):Exit->St->K->Prop
 | .normal,st,k=>N st k
 | x,st,k=>Q x st k
def qhI(id:Nat)(Q:Exit->St->K->Prop):Exit->St->K->Prop
 | .exit id',st,k=>bif zWg id' id then Q .normal st k else Q (.exit id') st k
 | x,st,k=>Q x st k
theorem qf2{Q':Exit->St->Prop}(h:Wp P n ls c Q' st)(hQ:∀ x st',Q' x st'->Q x st' k):Wd P n ls E0 e e2 c Q st k:=λE g a w hE hK hB hS =>
 wp_mono (h E g a w hE hS) λx a' w' ⟨g',st',h1,h2⟩=>⟨E,g',st',k,hE,hK,hB,h1,hQ x st' h2⟩
theorem Wd.seq(h:Wd P n ls E0 e e2 x (Vn (Wd P n ls E0 e e2 y Q) Q) st k):Wd P n ls E0 e e2 (.seq x y) Q st k :=
 λE g a w hE hK hB hS=>wp_seq (wp_mono (h E g a w hE hK hB hS) λx a' w' ⟨E',g',st',k',h1,h2,h3,h4,h5⟩=>by
  cases x with
  | normal=>exact h5 E' g' a' w' h1 h2 h3 h4
  | _=>exact ⟨E',g',st',k',h1,h2,h3,h4,h5⟩)
theorem Wd.cond{o:Operand}{q:Bool}(ho:st.eval o=ac (.t (.bool q)))(ht:q=true->Wd P n ls E0 e e2 x Q st k)(hf:q=false->Wd P n ls E0 e e2 y Q st k):Wd P n ls E0 e e2 (.cond o x y) Q st k :=
 λE g a w hE hK hB hS=>by
  have hv:=cm hS ho;generalize hva:a.eval o=v at hv
  cases hv with
  | t x v hr =>
   cases hr
   refine wp_cond hva ?_
   cases q with
   | true=>exact ht rfl E g a w hE hK hB hS
   | false=>exact hf rfl E g a w hE hK hB hS
theorem Wd.block{id:Nat}(h:Wd P n ls E0 e e2 c (qhI id Q) st k):Wd P n ls E0 e e2 (.block id c) Q st k :=
 λE g a w hE hK hB hS=>wp_block (wp_mono (h E g a w hE hK hB hS) λx a' w' ⟨E',g',st',k',h1,h2,h3,h4,h5⟩=>by
  cases x with
  | exit id' =>
   simp only [Exit.inBlock];simp only [qhI] at h5
   split
   ·rename_i he;have he:id'=id:=by simpa using he
    subst he;rw [zVH] at h5;exact ⟨E',g',st',k',h1,h2,h3,h4,h5⟩
   ·rename_i he;have he:zWg id' id=false:=by
     cases hb:zWg id' id with
     | false=>rfl
     | true=>exact absurd (zWq hb) (by simpa using he)
    rw [he] at h5;exact ⟨E',g',st',k',h1,h2,h3,h4,h5⟩
  | _=>exact ⟨E',g',st',k',h1,h2,h3,h4,h5⟩)
theorem Wd.skip(h:Q .normal st k):Wd P n ls E0 e e2 .skip Q st k:=λE g a w hE hK hB hS=>wp_skip ⟨E,g,st,k,hE,hK,hB,hS,h⟩
theorem Wd.exit{id:Nat}(h:Q (.exit id) st k):Wd P n ls E0 e e2 (.exit id) Q st k:=λE g a w hE hK hB hS=>wp_exit ⟨E,g,st,k,hE,hK,hB,hS,h⟩
theorem Wd.ret(h:Q .ret st k):Wd P n ls E0 e e2 .ret Q st k:=λE g a w hE hK hB hS=>wp_ret ⟨E,g,st,k,hE,hK,hB,hS,h⟩
theorem Wd.mono{Q':Exit->St->K->Prop}(h:Wd P n ls E0 e e2 c Q st k)(hq:∀ x st k,Q x st k->Q' x st k):Wd P n ls E0 e e2 c Q' st k:=λE g a w hE hK hB hS =>
 wp_mono (h E g a w hE hK hB hS) λx a' w' ⟨E',g',st',k',h1,h2,h3,h4,h5⟩=>⟨E',g',st',k',h1,h2,h3,h4,hq x st' k' h5⟩
theorem Wd.le{st1:St}(hl:Le n ls st st1)(h:Wd P n ls E0 e e2 c Q st1 k):Wd P n ls E0 e e2 c Q st k:=λE g a w hE hK hB hS=>by
 obtain ⟨g',hS'⟩:=hl E g a w hE.1 hS;exact h E g' a w hE hK hB hS'
theorem qjA(R:St->K->Prop)(J:∀ s k,R s k->Wd P n ls E0 e e2 y Q s k)(h:Wd P n ls E0 e e2 x (Vn R Q) st k):Wd P n ls E0 e e2 (.seq x y) Q st k:=Wd.seq (h.mono λx s k hq=>by
 cases x with
 | normal=>exact J s k hq
 | _=>exact hq)
def qiB(P:Program)(n:Nat)(ls:IO)(E0:En)(e e2:TypeId)(c:Code)(Q:Exit->St->K->Prop):Nat->St->K->Prop
 | 0,_,_=>False
 | j+1,st,k=>Wd P n ls E0 e e2 c (Vn (qiB P n ls E0 e e2 c Q j) Q) st k
theorem Wd.loop{j:Nat}(h:qiB P n ls E0 e e2 c Q j st k):Wd P n ls E0 e e2 (.loop c) Q st k:=by
 intro E g a w hE hK hB hS;refine qaM (k:=j) ?_
 induction j generalizing E st g a w k with
 | zero=>exact h.elim
 | succ j ih =>
  refine wp_mono (h E g a w hE hK hB hS) λx a' w' ⟨E',g',st',k',h1,h2,h3,h4,h5⟩=>?_
  cases x with
  | normal=>exact ih h5 E' g' a' w' h1 h2 h3 h4
  | _=>exact ⟨E',g',st',k',h1,h2,h3,h4,h5⟩
theorem Wd.L(R:Nat->St->K->Prop)(h0:∀ s k,¬ R 0 s k)(hs:∀ j s k,R (j+1) s k->Wd P n ls E0 e e2 x (Vn (R j) Q) s k){j:Nat}(h:R j st k):Wd P n ls E0 e e2 (.loop x) Q st k:=by
 refine Wd.loop (j:=j) ?_
 induction j generalizing st k with
 | zero=>exact absurd h (h0 st k)
 | succ j ih =>
  refine (hs j st k h).mono λx s k hq=>?_
  cases x with
  | normal=>exact ih hq
  | _=>exact hq
end
section
variable {P:Program} {E E0:En} {g:Gh} {st st':St} {a:Act} {w:World} {n:Nat} {ls:IO} {x y c:Code} {k k':K} {e e2:TypeId} {Q:Exit->St->K->Prop}
theorem Kl.refl(h1:∀ b,E0.F0 b->¬ E0.X b)(hsh:E0.sh=go)(hpin:E0.pin=cl):Kl E0 E0 :=
 ⟨zWK _,λ_ _ h=>⟨h,rfl⟩,λ_ h=>⟨λ_=>.inl h,.inl h⟩,h1,rfl,rfl,rfl,rfl,hsh,rfl,hpin⟩
theorem Kl.trans{E1:En}(h:Kl E0 E)(q:Kl E E1):Kl E0 E1:=by
 refine ⟨zXQ h.n0 q.n0,λb h1 h2=>?_,λb hb=>⟨λh1=>?_,?_⟩,q.fx,q.os.trans h.os,q.tape.trans h.tape,q.output.trans h.output,q.d.trans h.d,q.sh,q.lent.trans h.lent,q.pin⟩
 ·obtain ⟨h3,h4⟩:=h.same b h1 h2;obtain ⟨h5,h6⟩:=q.same b (zWW h1 h.n0) h3;exact ⟨h5,h6.trans h4⟩
 ·rcases (q.F0 b hb).1 (zWW h1 h.n0) with h3 | h3
  ·exact (h.F0 b h3).1 h1
  ·by_cases h4:E0.X b
   ·exact .inr h4
   ·exact absurd h3 (h.same b h1 h4).1
 ·rcases (q.F0 b hb).2 with h3 | h3
  ·rcases (h.F0 b h3).2 with h4 | ⟨arr,e,h4⟩
   ·exact .inl h4
   ·exact .inr ⟨arr,e,by rw [(q.same b (Dp.1 h4).1 (h.fx b h3)).2]; exact h4⟩
  ·exact .inr h3
theorem ELp.anew(hE:ELp P E ls)(hls:1∉ls)(hS:lj E g n st a w)(hsh:E.sh=go):ELp P (E.anewL g st w) ls:=by
 have hT:=hE.2;obtain ⟨⟨fl,e1,e2,e3,e4⟩,_⟩:=hE;refine ⟨⟨fl,e1,e2,λv h=>Fq,λh=>absurd (by rw [e1]; exact List.mem_append_right _ h) hls⟩,⟨hS.mem.tbW (P:=P) (X:=λb=>(E.anewL g st w).X b\/((E.anewL g st w).sh=gi/\(E.anewL g st w).D b)) λb h1 h2 _ h=>?_⟩⟩;rcases h with h | ⟨h,_⟩
 ·rcases qf0 hS h with h | h
  ·omega
  ·exact h2 h
 ·cases h
structure Apt (g:Gh) (st:St) (b:Nat):Prop where
 F:¬ g.F b
 ob:∀ s,st.O s->g.ob s≠b
 row:∀ r,st.L r->(g.rw r).ownBlock≠ac b
theorem Wd.anew(hls:1∉ls)(hE:ELp P E ls)(hK:Kl E0 E)(hS:lj E g n st a w){Bs:IO}(hY:Y e e2 k w Bs)(hnd:Bs.Nodup)(hB:∀ b∈Bs,Apt g st b/\(E0.w0.heap.size<=b\/E0.X b))(hd:∀ b,E0.D b->b < E0.w0.heap.size/\¬ E0.X b) :
  ELp P (E.anewL g st w) ls/\Kl E0 (E.anewL g st w)/\Bes E0 (E.anewL g st w) e e2 k/\lj (E.anewL g st w) { g with dw:=w } n st a w:=by
 refine ⟨hE.anew hls hS hK.sh,hK.trans (Kl.anew hS hK.sh),⟨Bs,hY,hnd,λb hb=>⟨⟨hY.lt b hb,λh=>?_,(hB b hb).1.F,λh=>?_⟩,(hB b hb).2⟩⟩,hS.anewL hK.sh hK.pin⟩
 ·rcases h with ⟨s,hO,he⟩ | ⟨r,hL,he⟩
  ·exact (hB b hb).1.ob s hO he
  ·exact (hB b hb).1.row r hL he
 ·have h2:E0.D b:=by rw [<- hK.d]; exact h
  have h3:=hd b h2;rcases (hB b hb).2 with h4 | h4
  ·omega
  ·exact h3.2 h4
theorem Bes.now(h:Bes E0 E e e2 k)(hK:Kl E0 E)(hS:lj E g n st a w):∃ Bs,Y e e2 k w Bs/\Bs.Nodup/\∀ b∈Bs,Apt g st b/\(E0.w0.heap.size<=b\/E0.X b):=by
 obtain ⟨Bs,h1,h2,h3⟩:=h;refine ⟨Bs,h1.same λb hb=>hS.still hK.sh (h3 b hb).1.1 (h3 b hb).1.2.1,h2,λb hb=>⟨?_,(h3 b hb).2⟩⟩;have hU:=hS.unk (h3 b hb).1;exact ⟨hU.f,hU.o,hU.r⟩
def A.u0(r:Nat)(h:CN):A->A
 | .own q=>bif zWg q r then .t (hT h) else .own q
 | x=>x
def A.u1(r:Nat)(h:CN):A->A
 | .agg l=>.agg (l.map (A.u0 r h))
 | x=>x.u0 r h
def A.u2(r:Nat)(h:CN):A->A
 | .tup l=>.tup (l.map (A.u1 r h))
 | x=>x.u1 r h
def St.unown(r:Nat)(h:CN)(st:St):St:=⟨λi=>(st.tm i).u2 r h,λs=>(st.ob s).map (List.map (A.u0 r h)),gB st.rw r (ac .gone)⟩
section
variable {O R:Nat->Prop} {r:Nat} {h:CN} {z:A} {v:Value}
theorem VR.u0(he:g.rw r=hv h)(hx:VR w g O R z v):VR w g O R (z.u0 r h) v:=by
 unfold A.u0
 split
 ·rename_i q
  cases hq:zWg q r with
  | true =>
   have:=zWq hq;subst this
   cases hx with
   | own r hr=>rw [he]; exact .t _ _ (.hdr _ _ _)
  | false=>exact hx
 ·exact hx
theorem VR.u1(he:g.rw r=hv h)(hx:VR w g O R z v):VR w g O R (z.u1 r h) v:=by
 unfold A.u1
 split
 ·rename_i l
  cases hx with
  | agg l vs hl hx =>
   exact .agg _ vs wz5 λi x v h1 h2=>by
    rw [zQV] at h1;obtain ⟨y,h3,rfl⟩:=pa.1 h1;exact (hx i y v h3 h2).u0 he
 ·exact hx.u0 he
theorem VR.u2(he:g.rw r=hv h)(hx:VR w g O R z v):VR w g O R (z.u2 r h) v:=by
 unfold A.u2
 split
 ·rename_i l
  cases hx with
  | tup l vs hl hx =>
   exact .tup _ vs wz5 λi x v h1 h2=>by
    rw [zQV] at h1;obtain ⟨y,h3,rfl⟩:=pa.1 h1;exact (hx i y v h3 h2).u1 he
 ·exact hx.u1 he
theorem qiX(hz:z.one=gi):(z.u0 r h).one=true:=by
 unfold A.u0
 split
 ·rename_i q
  cases zWg q r <;> rfl
 ·exact hz
end
theorem lj.unown(hS:lj E g n st a w)(hpin:E.pin=cl){r:Nat}{e' sz:Nat}{rows:it}(hr:st.rw r=ac (.live e' sz rows)):∃ h:CN,g.rw r=hv h/\lj E g n (st.unown r h) a w/\∀ b∈hB h,Apt g (st.unown r h) b/\b < w.heap.size/\(E.w0.heap.size<=b\/E.X b):=by
 have hM:=hS.mem;obtain ⟨A,N,C,hh⟩:=(hM.row r _ hr).slice;have he:g.rw r=hv (A,N,C):=hh;have hL0:st.L r:=⟨e',sz,rows,hr⟩;obtain ⟨hM1,hE1⟩:=hM.gone_row r _ hr;have hO:∀ s,(st.unown r (A,N,C)).O s↔st.O s:=λs=>by simp [St.O,St.unown]
 have hR:∀ q,(st.unown r (A,N,C)).R q↔({ st with rw:=gB st.rw r (ac .gone) }:St).R q:=λq=>Iff.rfl;have hL:∀ q,(st.unown r (A,N,C)).L q↔({ st with rw:=gB st.rw r (ac .gone) }:St).L q:=λq=>Iff.rfl;have hv':∀ {x v},VR w g st.O st.R x v->VR w g (st.unown r (A,N,C)).O (st.unown r (A,N,C)).R x v:=λh=>h.mono ⟨λ_ _=>rfl,λ_ h=>h,λs h=>⟨(hO s).2 h,rfl⟩,λq h=>⟨(hE1.R q h).1,rfl⟩,⟨rfl,rfl,rfl⟩,rfl,rfl⟩;refine ⟨(A,N,C),he,⟨⟨λs cells hs=>?_,λs s' h1 h2 h3=>hM.obne s s' ((hO s).1 h1) ((hO s').1 h2) h3,hM1.row,hM1.rowne,λq s h1 h2=>hM1.rowob q s h1 ((hO s).1 h2),hM.F,hM.os,hM.tape,hM.output,hM.sizes,hM.frame,hM.shp,hM.dep0⟩,hS.size,hS.defers,λi hi=>?_,λi hi=>?_,λs b hs=>?_,λv hv=>(by rw [hpin] at hv; cases hv)⟩,λb hb=>⟨⟨?_,λs hs h1=>?_,λq hq h1=>?_⟩,?_,?_⟩⟩
 ·simp only [St.unown,zWk] at hs;obtain ⟨cells0,h1,rfl⟩:=hs;obtain ⟨arr,e,h2,h3,h4,h5,h6⟩:=hM.ob s cells0 h1;refine ⟨arr,e,h2,by simpa using h3,λj x hj=>?_,h5,h6⟩;rw [zQV] at hj;obtain ⟨y,h7,rfl⟩:=pa.1 hj;obtain ⟨h8,v,h9,h10⟩:=h4 j y h7;exact ⟨qiX h8,v,h9,(hv' h10).u0 he⟩
 ·obtain ⟨v,h1,h2⟩:=hS.tm i hi;exact ⟨v,h1,(hv' h2).u2 he⟩
 ·show (st.tm i).u2 r (A,N,C)=.undef;rw [hS.und i hi];rfl
 ·obtain ⟨h1,h2⟩:=hS.lent s b hs;exact ⟨(hO s).2 h1,h2⟩
 ·exact (hM.row_nf hL0 (he ▸ pf.1 hb)).1
 ·exact hM.rowob r s hL0 ((hO s).1 hs) (by rw [he,pf.1 hb,h1])
 ·rcases DJ.1 hq with ⟨_,_,_,_,h3⟩ | ⟨h3,h4⟩
  ·cases h3
  ·exact h3 (hM.rowne q r b h4 hL0 h1 (he ▸ pf.1 hb))
 ·exact (Zn hS hL0 (he ▸ pf.1 hb)).1
 ·exact (Zn hS hL0 (he ▸ pf.1 hb)).2
theorem Kl.up(hK:Kl E0 E){b:Nat}(h:E.w0.heap.size<=b\/E.X b):E0.w0.heap.size<=b\/E0.X b:=by
 rcases h with h | h
 ·exact .inl (zXQ hK.n0 h)
 ·by_cases h1:b < E0.w0.heap.size
  ·by_cases h2:E0.X b
   ·exact .inr h2
   ·exact absurd h (hK.same b h1 h2).1
  ·exact .inl al
inductive qa1 (e e2:TypeId):K->TypeId->it->(CN->K)->Prop
 | inn (hs:List CN) (xs:List gs) (x:gs):qa1 e e2 (.inn hs xs) e2 (x.map (aJ .u8)) λh=>.inn (hs++[h]) (xs++[x])
 | out (hs:List CN) (xs:List gs):qa1 e e2 (.inn hs xs) e (hs.map λh=>[hT h]) λh=>.deep h xs
theorem Yn{w0:World}{X F:Nat->Prop}{h:Value}{e':TypeId}{α:Type}{f:α->T}{gv:α->Value}{xs:List α}(hf:∀ x u,Rd w F (f x) u->u=gv x)(hr:p5 w0 w X F h (.live e' 1 (xs.map λx=>[f x]))):w.ownsRow 0 e' 1 h xs.length (xs.map gv):=by
 obtain ⟨inner,h1,h2,h3,h4⟩:=hr;have hl:inner.length=xs.length:=by have:=h1.1; simpa using this
 have:inner=xs.map gv:=by
  refine zYy λi=>?_;rw [zQV]
  cases hx:xs[i]? with
  | none=>rw [Option.map_none,KL.2]; rw [hl]; exact KL.1 hx
  | some x =>
   obtain ⟨u,h5,h6⟩:=h3 i [f x] 0 (f x) wz6 rfl;rw [zVX,zYV] at h5;rw [h5,hf x u h6];rfl
 rw [this] at h1
 simpa using h1
theorem Vo{e':TypeId}{rows:it}{kf:CN->K}{r:Nat}(hls:1∉ls)(hd:∀ b,E0.D b->b < E0.w0.heap.size/\¬ E0.X b)(hk:qa1 e e2 k e' rows kf)(hE:ELp P E ls)(hK:Kl E0 E)(hBe:Bes E0 E e e2 k)(hS:lj E g n st a w)(hr:st.rw r=ac (.live e' 1 rows)) :
  ∃ h,ELp P (E.anewL g (st.unown r h) w) ls/\Kl E0 (E.anewL g (st.unown r h) w)/\Bes E0 (E.anewL g (st.unown r h) w) e e2 (kf h)/\lj (E.anewL g (st.unown r h) w) { g with dw:=w } n (st.unown r h) a w:=by
 obtain ⟨Bs,h1,h2,h3⟩:=hBe.now hK hS;obtain ⟨h,he,hS1,h4⟩:=hS.unown hK.pin hr;have hL0:st.L r:=⟨e',1,rows,hr⟩;have hrow:=hS.mem.row r _ hr;have hdis:∀ b∈Bs,b∉hB h:=λb hb hm=>(h3 b hb).1.row r hL0 (he ▸ pf.1 hm);have hApt:∀ b∈Bs,Apt g (st.unown r h) b:=λb hb=>by
  have h5:=(h3 b hb).1;refine ⟨h5.F,λs hs=>h5.ob s ?_,λq hq=>h5.row q ?_⟩
  ·simpa [St.O,St.unown] using hs
  ·rcases DJ.1 hq with ⟨_,_,_,_,h6⟩ | ⟨_,h6⟩
   ·cases h6
   ·exact h6
 have hnh:(hB h).Nodup:=by unfold hB; cases (hv h).ownBlock <;> simp
 refine ⟨h,?_⟩
 cases hk with
 | inn hs xs x =>
  obtain ⟨h5,rfl⟩:=h1;have hown:=Yn (f:=λi=>T.int .u8 i) (gv:=Value.int .u8) (λx u h=>by cases h; rfl) (xs:=x) hrow;rw [he] at hown;refine Wd.anew (Bs:=hs.flatMap hB++hB h) hls hE hK hS1 ⟨⟨by simp [h5.1],λi q y h6 h7=>?_⟩,by simp⟩ (List.nodup_append.2 ⟨h2,hnh,λa ha b hb hab=>hdis a ha (hab ▸ hb)⟩) (λb hb=>?_) hd
  ·by_cases hi:i < hs.length
   ·rw [zQW hi] at h6;rw [zQW (by rw [<- h5.1]; exact hi)] at h7;exact h5.2 i q y h6 h7
   ·rw [zQX al] at h6;rw [zQX (by rw [<- h5.1]; omega),<- h5.1] at h7
    cases hj:i - hs.length with
    | zero =>
     rw [hj] at h6 h7;simp only [zQz,Option.some.injEq] at h6 h7;subst h6 h7;exact hown
    | succ j=>rw [hj] at h6; simp at h6
  ·rcases sa.1 hb with hb | hb
   ·exact ⟨hApt b hb,(h3 b hb).2⟩
   ·exact ⟨(h4 b hb).1,hK.up (h4 b hb).2.2⟩
 | out hs xs =>
  obtain ⟨h5,rfl⟩:=h1;have hown:=Yn (f:=hT) (gv:=hv) (λx u h=>by cases h; rfl) (xs:=hs) hrow;rw [he] at hown;refine Wd.anew (Bs:=hB h++hs.flatMap hB) hls hE hK hS1 ⟨hs,h5,hown,rfl⟩ (List.nodup_append.2 ⟨hnh,h2,λa ha b hb hab=>hdis b hb (hab ▸ ha)⟩) (λb hb=>?_) hd;rcases sa.1 hb with hb | hb
  ·exact ⟨(h4 b hb).1,hK.up (h4 b hb).2.2⟩
  ·exact ⟨hApt b hb,(h3 b hb).2⟩
end
section
variable {P:Program} {E E0:En} {g:Gh} {st st':St} {a:Act} {w:World} {n:Nat} {ls:IO} {x y c:Code} {k:K} {e e2:TypeId} {Q:Exit->St->K->Prop} {N:St->K->Prop}
theorem rt(h:N st k):Vn N Q .normal st k:=h
theorem qf3{i:Nat}(h:Q (.exit i) st k):Vn N Q (.exit i) st k:=h
theorem FP{id:Nat}(h:Q .normal st k):qhI id Q .normal st k:=h
theorem qjB{id:Nat}(h:Q .normal st k):qhI id Q (.exit id) st k:=by
 show (bif zWg id id then Q .normal st k else Q (.exit id) st k);rw [zVH];exact h
theorem Wd.of(h:Wp P n ls c (λz s=>Q z s k) st):Wd P n ls E0 e e2 c Q st k:=qf2 h λ_ _ h=>h
theorem Wd.sw(h:Wp P n ls x (λz s=>Vn (Wd P n ls E0 e e2 y Q) Q z s k) st):Wd P n ls E0 e e2 (.seq x y) Q st k:=Wd.seq (Wd.of h)
theorem Hg{α:Type}{o:Operand}{b:Bool}{e1 e3 r:α}(h:(bif b then e1 else e3)=r)(ht:e1=r->Wd P n ls E0 e e2 x Q st k)(hf:e3=r->Wd P n ls E0 e e2 y Q st k)(ho:st.eval o=ac (.t (.bool b)):=by kernel_rfl):Wd P n ls E0 e e2 (.cond o x y) Q st k :=
 Wd.cond ho (λhc=>ht (Vc h hc)) (λhc=>hf (Vd h hc))
theorem Wd.rg{id:Nat}{ops:Array Oper}(h:ab P (SW []) (lh []) ops ops.toList st λs=>Q .normal s k)(hd:ops.toList.all (rq n)=true:=by kernel_rfl):Wd P n ls E0 e e2 (.region id ops go) Q st k :=
 Wd.of (Id (SW []) (lh []) hd h)
theorem uo{id:Nat}{ops:Array Oper}(h:ab P (SW []) (lh []) ops ops.toList st λs=>Wd P n ls E0 e e2 y Q s k)(hd:ops.toList.all (rq n)=true:=by kernel_rfl):Wd P n ls E0 e e2 (.seq (.region id ops go) y) Q st k :=
 Wd.sw (Id (SW []) (lh []) hd h)
theorem Yo{id:Nat}{ops:Array Oper}(h:Wd P n ls E0 e e2 y Q (St.or (qv P (lh []) ops ops.toList st)) k)(h1:(qv P (lh []) ops ops.toList st).isSome=true:=by kernel_rfl)(hd:ops.toList.all (rq n)=true:=by kernel_rfl):Wd P n ls E0 e e2 (.seq (.region id ops go) y) Q st k :=
 uo (ab.all h1 h) hd
theorem qhJ(h:Wd P n ls E0 e e2 c Q st (.inn [] [])):Wd P n ls E0 e e2 c Q st .none:=λE g a w hE hK hB hS=>h E g a w hE hK (by
 obtain ⟨Bs,h1,h2,h3⟩:=hB;have h1:Bs=[]:=h1;subst h1;exact ⟨[],⟨⟨rfl,λi q y h6 h7=>(by simp at h6)⟩,rfl⟩,h2,h3⟩) hS
structure qeS (P:Program) (E0:En) (ls:IO):Prop where
 tb:W9 P E0.w0 E0.X
 d:∀ b,E0.D b->b < E0.w0.heap.size/\¬ E0.X b
 one:1∉ls
theorem Wd.drop{e':TypeId}{rows:it}{kf:CN->K}(r:Nat)(h0:qeS P E0 ls)(hk:qa1 e e2 k e' rows kf)(h:∀ q,Wd P n ls E0 e e2 c Q (st.unown r q) (kf q))(hr:st.rw r=ac (.live e' 1 rows):=by kernel_rfl):Wd P n ls E0 e e2 c Q st k:=λE g a w hE hK hB hS=>by
 obtain ⟨q,h1,h2,h3,h4⟩:=Vo h0.one h0.d hk hE hK hB hS hr;exact h q _ _ _ _ h1 h2 h3 h4
theorem qa2{p:Nat->Bool}{ρ:Nat->fi}{ops:Array Oper}{l2:W2}{j:Nat}(hd:ops.toList.all (rq n)=gi)(hl:∀ i,l2[i]?=ops[j+i]?)(hE:ELp P E ls)(hK:Kl E0 E)(hB:Bes E0 E e e2 k)(hS:lj E g n st a w)
  (h:ab P p ρ ops l2 st λs=>Q .normal s k) :
  wpOps P ops (λx a' w'=>∃ E' g' st' k',ELp P E' ls/\Kl E0 E'/\Bes E0 E' e e2 k'/\lj E' g' n st' a' w'/\Q x st' k') (zXW j l2.length) a w:=by
 obtain ⟨st3,hr,hw⟩:=h;have:=hE.2;have key:=Uw (P:=P) (l2:=[]) (Q:=λx a' w'=>∃ E' g' st' k',ELp P E' ls/\Kl E0 E'/\Bes E0 E' e e2 k'/\lj E' g' n st' a' w'/\Q x st' k')
  (Ux hd) hS (D4 hl hr) λg3 a3 w3 hS3=>⟨E,g3,st3,k,hE,hK,hB,hS3,hw⟩
 rwa [zWV] at key
theorem qiY{p:Nat->Bool}{ρ:Nat->fi}{ops:Array Oper}{id:Nat}{e':TypeId}(j r:Nat)(h0:qeS P E0 ls)
  (h:ab P p ρ ops (ops.toList.take j) st λs=>∃ rows kf,s.rw r=ac (.live e' 1 rows)/\qa1 e e2 k e' rows kf/\∀ q,ab P p ρ ops (ops.toList.drop j) (s.unown r q) λs3=>Q .normal s3 (kf q))
  (hd:ops.toList.all (rq n)=true:=by kernel_rfl) (hj:zVy j ops.size=true:=by kernel_rfl):Wd P n ls E0 e e2 (.region id ops go) Q st k:=λE g a w hE hK hB hS=>by
 have:=hE.2;obtain ⟨st1,h1,rows,kf,h2,h3,h4⟩:=h;have hj:=zVZ hj;have hrange:zXY ops.size=zXW 0 (ops.toList.take j).length++zXW j (ops.toList.drop j).length:=by
  have e1:(ops.toList.take j).length=j:=by simp; omega
  have e2:(ops.toList.drop j).length=ops.size - j:=by simp
  rw [e1,e2,zYX];have:=zKW (s:=0) (m:=j) (n:=ops.size - j);rw [zWY] at this;rw [this,show j+(ops.size - j)=ops.size by omega]
 refine wp_region ?_;rw [hrange];refine Uw (p:=p) (Ux hd) hS (qaZ (zXv j ops.toList).symm h1) λg1 a1 w1 hS1=>?_;obtain ⟨q,h5,h6,h7,h8⟩:=Vo h0.one h0.d h3 hE hK hB hS1 h2;exact qa2 hd (λi=>by rw [zQx]; simp) h5 h6 h7 h8 (h4 q)
theorem qdU{ι:Type}{p:Nat->Bool}{ρ:Nat->fi}{ops:Array Oper}{id fid:Nat}{vs:List V}{res:ι->V}{outs:ι->List (List C)}{X:ι->World->IO->Prop}{kf:ι->K}(h0:qeS P E0 ls)(m:Bool)(j d:Nat)(az:Os)(hc:FO P fid vs res outs X)(hX:∀ i w Bs,X i w Bs->Y e e2 (kf i) w Bs)
  (hk:∀ i,ab P p ρ ops (ops.toList.drop (j+1)) (clS m p d az (res i) (outs i) (rV P ρ ops j ops.toList st)) λst3=>Q .normal st3 (kf i))
  (hd:ops.toList.all (rq n)=true:=by kernel_rfl) (h1:(qv P ρ ops (ops.toList.take j) st).isSome=true:=by kernel_rfl) (h2:C6 P ρ ops (rV P ρ ops j ops.toList st) (ops.toList.drop j)=ac (fid,az,d):=by kernel_rfl) (hg:((ops[j]?).bind λo=>o.guard).isNone=true:=by kernel_rfl)
  (h3:((jY m p az MA.ret).run (rV P ρ ops j ops.toList st)).map Prod.fst=ac vs:=by kernel_rfl)
  (h4:∀ i,((eC d (fh az) (outs i) (V.toA d (ip d 0) (res i) MA.ret)).run (Mz ((jY m p az MA.ret).run (rV P ρ ops j ops.toList st)))).isSome=true:=by intro i; kernel_rfl):Wd P n ls E0 e e2 (.region id ops go) Q st .none:=by
 intro E g a w hE hK hBe hS;have hT:=hE.2;obtain ⟨o,l',xf,args,ts,bz,caps,hl,hgw,hfit,hop,hdst,hxf,oC,haz⟩:=zL h2;simp only at haz hdst;have hko:ops[j]?=ac o:=by
  have:=congrArg (λl=>l[0]?) hl
  simpa using this
 have hdrop:ops.toList.drop (j+1)=l':=by
  have h1:=congrArg (List.drop 1) hl;rw [zZJ] at h1;exact h1
 have hlen:ops.size=j+1+l'.length:=by
  have:=congrArg zZX hl;simp at this;omega
 have hrange:zXY ops.size=zXW 0 (ops.toList.take j).length++j :: zXW (j+1) l'.length:=by
  have e:(ops.toList.take j).length=j:=by simp; omega
  rw [e,zYX,hlen,show j+1+l'.length=j+(1+l'.length) by omega,<- zKW,zWY,Nat.add_comm 1,zYj]
 refine wp_region ?_;rw [hrange];obtain ⟨st1,hst1⟩:=sr.1 h1;have hst:rV P ρ ops j ops.toList st=st1:=by unfold rV; rw [hst1]; rfl
 rw [hst] at h3 h4 hxf oC hk;refine Uw (p:=p) (Ux hd) hS (qaZ (zXv j ops.toList).symm (He hst1)) λg1 a1 w1 hS1=>?_;rw [wpOps_cons];unfold wpOp;rw [hko];simp only;have hgn:o.guard=none:=by
  rw [hko] at hg
  simpa using hg
 rw [show Region.wanted o (yielded ops a1.tmps)=gi by simp [Region.wanted,hgn],if_pos rfl];obtain ⟨⟨vs',st2⟩,hp,hvs⟩:=pa.1 h3;simp only at hvs;subst hvs;rw [hp] at h4;have hrs:∀ i,(eC d (fh az) (outs i) (V.toA d (ip d 0) (res i) MA.ret)).run st2=ac (orA ((eC d (fh az) (outs i) (V.toA d (ip d 0) (res i) MA.ret)).run st2),Mz ((eC d (fh az) (outs i) (V.toA d (ip d 0) (res i) MA.ret)).run st2)):=λi=>by
  obtain ⟨q,hq⟩:=sr.1 (h4 i);have hq':(eC d (fh az) (outs i) (V.toA d (ip d 0) (res i) MA.ret)).run st2=ac q:=hq;rw [hq'];rfl
 subst haz;refine .inl (qa0 hS1 hop hxf oC hp hc hrs _ _ λv w' ⟨i,Bs,g',hA,hXi,hnd,hB⟩=>?_);have hS2:=hS1.put hA (U5 (Ux hd _ _ hko));rw [hdst] at hS2 ⊢;have hk':=hk i;unfold clS at hk';rw [hp,hdrop] at hk';obtain ⟨q1,q2,q3,q4⟩:=Wd.anew (e:=e) (e2:=e2) (k:=kf i) h0.one hE hK hS2 (hX i w' Bs hXi) hnd (λb hb=>⟨⟨(hB b hb).F,(hB b hb).ob,(hB b hb).row⟩,hK.up (hB b hb).X⟩) h0.d;refine qa2 (p:=p) (ρ:=ρ) hd (λi=>?_) q1 q2 q3 q4 hk';rw [<- hdrop,zQx];simp
end
theorem Xi{ι:Type}{P:Program}{fn:Func}{c:Code}{f:FuncId}{args:List V}{az:Os}{st0:St}{m:Bool}{res:ι->V}{outs:ι->List (List C)}{X:ι->World->IO->Prop}(e e2:TypeId)
  (hf:P.funcs[f]?=ac fn) (hb:fn.body=ac c) (hnm:(fn.name == "runtime.NumGoroutine")=go) (hle:az.length<=fn.ntmps) (ht:sO fn.ntmps fn=gi)
  (ha:(rn 0 args MA.ret).run dP=ac (az,st0)) (hl:jk 0 args az=gi) (hone:1∉gr 0 args)
  (h:∀ E0,qeS P E0 (gr 0 args)->Wd P fn.ntmps (gr 0 args) E0 e e2 c (λz s k=>∃ i,DL P m fn args (res i) (outs i) z s/\∀ w Bs,Y e e2 k w Bs->X i w Bs) (eE az st0) .none):FO P f args res outs X:=by
 refine ⟨⟨fn,hf,by simp [hb],hnm⟩,λw F vs bs hF hVV hnd hnf htb=>?_⟩
 let E:En:={ w0:=w,X:=λb=>b∈bs,F0:=F,lent:=oE 0 args vs }
 let g0:Gh:={ F:=F,ob:=λ_=>0,rw:=λ_=>.nilFunc,dw:=w }
 have hM0:io E g0 dP w:=⟨λs cells h=>Fq,λs s' h=>Fq,λr x h=>Fq,λr r' b h=>wz8,λr s h=>wz8,
  λb hb=>⟨hF b hb,λ_=>.inl hb,.inl hb⟩,rfl,rfl,rfl,zWK _,λ_ _ _=>.inl rfl,λ_ h=>h.elim,⟨rfl,rfl,rfl⟩,λ_ h=>h.elim⟩
 obtain ⟨az',st1,g1,hG,h1,hlen,hx⟩:=Hd args hM0 hVV hnd (λb hb=>⟨hnf b hb,λs hs=>(by cases hs),λr hr=>qhb,.inr hb⟩) ha;obtain ⟨rfl,rfl⟩:=gK h1;have hM1:io E g1 (eE az st0) w:=⟨hG.mem.ob,hG.mem.obne,hG.mem.row,hG.mem.rowne,hG.mem.rowob,hG.mem.F,hG.mem.os,hG.mem.tape,hG.mem.output,hG.mem.sizes,hG.mem.frame,hG.mem.shp,hG.mem.dep0⟩;obtain ⟨hl1,hl2⟩:=Ek hl hVV hlen hx;have hS:lj E g1 fn.ntmps (eE az st0) { tmps:=vs.toArray++zZy (fn.ntmps - vs.toArray.size) undef,defers:=[] } w:=by
  refine ⟨hM1,by simp; omega,rfl,λi hi=>?_,λi hi=>?_,hl1,λ_ h=>Fq⟩
  ·show ∃ v,_/\VR w g1 st0.O st0.R (match az[i]? with | some a=>a | none=>.undef) v
   cases hai:az[i]? with
   | some a =>
    obtain ⟨u,hu,hr⟩:=hx i a hai;have hlt:i < vs.length:=(ln.1 hu).1;exact ⟨u,by rw [zZQ YZ]; simpa using hu,hr⟩
   | none =>
    have hge:az.length<=i:=KL.1 hai;refine ⟨undef,?_,.undef _⟩;rw [zYh qiL];rw [zZZ,if_pos qfv]
  ·show (match az[i]? with | some a=>a | none=>.undef)=A.undef;rw [KL.2 al]
 have hK0:Kl E E:=Kl.refl (λb hb hx=>hnf b hx hb) rfl rfl;have hB0:Bes E E e e2 .none:=⟨[],rfl,List.nodup_nil,λb hb=>(by cases hb)⟩;refine calls_of_wp hf hb (wp_mono (h E ⟨htb,λb hb=>hb.elim,hone⟩ E g1 _ w ⟨⟨[],by rw [zWV]; exact (sN _ _ _).symm,KQ _ _ _,λ_ h=>Fq,λh=>Fq⟩,⟨htb.mono λb h=>h.elim id λh=>qcf⟩⟩ hK0 hB0 hS) λz a' w' ⟨E',g',st',k',_,hK,hBe,hS2,i,hR,hX⟩=>?_);obtain ⟨Bs,hY,hBn,hBs⟩:=hBe.now hK hS2;have hS':=hS2.home hK rfl rfl (λb hb=>hb.elim);obtain ⟨he,l,st2,res0,outs0,hres,hrun,hvle,hole⟩:=hR;have hfin:a'.defers=[]/\∃ v,(results fn a'.tmps).run P w'=.ok v w'/\qiA w F vs bs args res outs X (.returned v) w':=by
  refine ⟨hS'.defers,?_⟩;obtain ⟨v,hrv,hvv⟩:=Ib hS' hres ht;refine ⟨v,hrv,?_⟩;have hM':=hS'.mem;obtain ⟨os,st3,g3,bo,hM3,hE3,hL3,h3,hO,hT3⟩:=Ej (w:=w') args hM' (us:=vs) (hVV.len.symm) (λj c hj=>by
   obtain ⟨b,h5,h6⟩:=hl2 j c hj;rw [(hS'.lent _ _ h6).2];exact h5) hrun
  obtain ⟨c',st4,g4,bv,hM4,hE4,hL4,h4,hv4,hT4⟩:=JG hM3 (hvv.mono hE3) h3;obtain ⟨h5,rfl⟩:=gK h4;injection h5 with h5 h6
  subst h5 h6;have hT:=hT3.app hM' hL3 hT4 hL4;have hL:=hL3.trans hL4;have hof:∀ b∈bo++bv,w.heap.size<=b\/b∈bs:=λb hb=>by
   rcases hT.of b hb with ⟨r,⟨e,sz,rows,h7⟩,_,h8⟩ | ⟨s,⟨c,cs,h7⟩,_,h8⟩
   ·obtain ⟨_,_,_,_,h9⟩:=hM'.row r _ h7;exact (h9 b h8).2
   ·obtain ⟨_,_,_,_,_,_,h9⟩:=hM'.ob s _ h7;rw [h8] at h9;exact h9
  have hnF:∀ b∈bo++bv,¬ (g4.F b\/F b):=λb hb h=>by
   rcases h with h | h
   ·exact hT.nf b hb h
   ·rcases hof b hb with h7 | h7
    ·have:=hF b h; omega
    ·exact hnf b h7 h
  have hBnF:∀ b∈Bs,¬ (g4.F b\/F b):=λb hb h=>by
   rcases h with h | h
   ·rcases hL.F b h with h7 | ⟨r,h7,_,h8⟩
    ·exact (hBs b hb).1.F h7
    ·exact (hBs b hb).1.row r h7 h8
   ·rcases (hBs b hb).2 with h7 | h7
    ·exact absurd (hF b h) (by show ¬ b < w.heap.size; have:w.heap.size<=b:=h7; omega)
    ·exact hnf b h7 h
  have hdis:∀ b∈bo++bv,b∉Bs:=λb hb hm=>by
   rcases hT.of b hb with ⟨r,h7,_,h8⟩ | ⟨s,⟨c,cs,h7⟩,_,h8⟩
   ·exact (hBs b hm).1.row r h7 h8
   ·exact (hBs b hm).1.ob s (by simp [St.O,h7]) h8
  have hmem:∀ b,b∈bv++bo->b∈bo++bv:=λb hb=>by
   rcases sa.1 hb with h | h <;> simp [h]
  refine ⟨i,v,λb=>g4.F b\/F b,bv,bo,Bs,rfl,⟨hM4.os,hM4.tape,hM4.output,hM4.sizes⟩,λb hb hbs=>hM4.frm rfl b hb hbs,λb h=>.inr h,λb h=>?_,hvle.vv (hv4.mono (λ_ _=>rfl) (λ_ h=>.inl h) (λ_ _=>rfl)),Oq (hO.mono (λb h=>.inl (hE4.F b h))) hole,?_,λb hb=>?_,hX w' Bs hY⟩
  ·rcases h with h | h
   ·exact hM4.F b h
   ·exact ⟨zWW (hF b h) hM4.sizes,λ_=>.inl h,.inl h⟩
  ·have:=hT.nodup;rw [zYW] at this ⊢;refine ⟨List.nodup_append.2 ⟨this.2.1,this.1,λx hx y hy he=>this.2.2 y hy x hx he.symm⟩,hBn,λx hx y hy he=>hdis x (hmem x hx) (he ▸ hy)⟩
  ·rcases sa.1 hb with hb | hb
   ·exact ⟨hnF b (hmem b hb),hof b (hmem b hb)⟩
   ·exact ⟨hBnF b hb,(hBs b hb).2⟩
 rcases he with rfl | rfl
 ·exact hfin
 ·exact hfin
theorem obq{ι:Type}{P:Program}{f:FuncId}{c:Code}{args:List V}{res:ι->V}{outs:ι->List (List C)}{X:ι->World->IO->Prop}(fn:Func)(m:Bool)(e e2:TypeId)
  (h:∀ E0,qeS P E0 (gr 0 args)->Wd P fn.ntmps (gr 0 args) E0 e e2 c (λz s k=>∃ i,DL P m fn args (res i) (outs i) z s/\∀ w Bs,Y e e2 k w Bs->X i w Bs) (eE ((((rn 0 args MA.ret).run dP).map Prod.fst).getD []) (Mz ((rn 0 args MA.ret).run dP))) .none)
  (hb:fn.body=ac c:=by rfl) (hf:P.funcs[f]?=ac fn:=by kernel_rfl) (hnm:(fn.name == "runtime.NumGoroutine")=false:=by kernel_rfl) (hle:zVy ((((rn 0 args MA.ret).run dP).map Prod.fst).getD []).length fn.ntmps=true:=by kernel_rfl) (ht:sO fn.ntmps fn=true:=by kernel_rfl)
  (ha:((rn 0 args MA.ret).run dP).isSome=true:=by kernel_rfl) (hl:jk 0 args ((((rn 0 args MA.ret).run dP).map Prod.fst).getD [])=true:=by kernel_rfl) (hone:(gr 0 args).all (λi=>!zWg i 1)=true:=by kernel_rfl):FO P f args res outs X:=by
 have hone:1∉gr 0 args:=λh=>by have:=zm.1 hone 1 h; simp at this
 obtain ⟨⟨az,st0⟩,h1⟩:=sr.1 ha;refine Xi (m:=m) (az:=az) (st0:=st0) e e2 hf hb hnm (by simpa [h1] using hle) ht h1 (by simpa [h1] using hl) hone ?_;rw [h1] at h;exact h
def MD(xs:List gs):T:=.sl 1 (xs.map λx=>[.sl 1 (x.map (aJ .u8))])
theorem qcI{w:World}{F:Nat->Prop}{e:TypeId}{α:Type}{h:CN}{xs:List α}{f:α->T}{gv:α->Value}(ho:w.ownsRow 0 e 1 (hv h) xs.length (xs.map gv))(hF:∀ b∈hB h,F b)(hr:∀ x∈xs,Rd w F (f x) (gv x)):Rd w F (.sl 1 (xs.map λx=>[f x])) (hv h):=by
 obtain ⟨h1,h2⟩:=ho;rcases h2 with ⟨h3,h4⟩ | ⟨g,cap,cur,h3,_,h5,h6,h7,h8,h9⟩
 ·have:xs=[]:=zQZ h4;subst this;unfold hv at h3 ⊢;rw [h3];exact .sl0 _ _ _ λ_=>rfl
 ·unfold hv at h3 ⊢;rw [h3];have:=Rd.sl (w:=w) (F:=F) 1 (xs.map λx=>[f x]) g 0 cap (λi _=>(xs.map gv)[i]?.getD default) (by simpa using h6) (hF g (pf.2 (by unfold hv; rw [h3]; rfl))) (λi row hi=>by
    rw [zQV] at hi;obtain ⟨x,_,rfl⟩:=pa.1 hi;rfl)
   (λi row j x hi hj=>by
    rw [zQV] at hi;obtain ⟨y,hy,rfl⟩:=pa.1 hi
    cases j with
    | succ j=>simp at hj
    | zero =>
     have h10:(xs.map gv)[i]?=ac (gv y):=by rw [zQV,hy]; rfl
     have h11:=h10;rw [<- h9,zQy] at h11
     split at h11
     ·simp only [World.cell?,h5,zVX,zWY,zYV,h10,zXX]
      simpa using h11
     ·cases h11)
   (λi row j x hi hj=>by
    rw [zQV] at hi;obtain ⟨y,hy,rfl⟩:=pa.1 hi
    cases j with
    | succ j=>simp at hj
    | zero =>
     simp only [zQz,Option.some.injEq] at hj;subst hj;have h10:(xs.map gv)[i]?=ac (gv y):=by rw [zQV,hy]; rfl
     simp only [h10,zXX];exact hr y (zQQ hy))
  simpa using this
theorem Y.rd{w:World}{F:Nat->Prop}{e e2:TypeId}{h:CN}{xs:List gs}{Bs:IO}(hY:Y e e2 (.deep h xs) w Bs)(hF:∀ b∈Bs,F b):Rd w F (MD xs) (hv h):=by
 obtain ⟨hs,h1,h2,rfl⟩:=hY;have hlen:=h1.1
 -- both lists side by side
 have key:Rd w F (.sl 1 ((hs.zip xs).map λq=>[.sl 1 (q.2.map (aJ .u8))])) (hv h):=by
  refine qcI (e:=e) (gv:=λq=>hv q.1) ?_ (λb hb=>hF b (sa.2 (.inl hb))) λq hq=>?_
  ·have e1:(hs.zip xs).map (λq=>hv q.1)=hs.map hv:=by
    rw [show (hs.zip xs).map (λq=>hv q.1)=((hs.zip xs).map Prod.fst).map hv by rw [zVY]; rfl,List.map_fst_zip al]
   rw [e1]
   simpa [hlen] using h2
  ·obtain ⟨i,hi⟩:=Sh.1 hq;rw [List.getElem?_zip_eq_some] at hi;have h3:=h1.2 i q.1 q.2 hi.1 hi.2;exact qcI (e:=e2) (f:=λn=>T.int .u8 n) (gv:=Value.int .u8) h3 (λb hb=>hF b (sa.2 (.inr (List.mem_flatMap.2 ⟨q.1,zQQ hi.1,hb⟩)))) λx _=>.int _ _
 have e2:(hs.zip xs).map (λq=>[T.sl 1 (q.2.map (aJ .u8))])=xs.map λx=>[T.sl 1 (x.map (aJ .u8))]:=by
  have:(hs.zip xs).map Prod.snd=xs:=List.map_snd_zip al
  conv=>rhs; rw [<- this]
  rw [zVY];rfl
 rw [e2] at key;exact key
def St.cv(d0:Nat)(st:St):St:={ st with tm:=gB st.tm d0 (.own PR) }
section
variable {P:Program} {E:En} [Tb P E] {g:Gh} {st st' b c:St} {a:Act} {w:World} {p:Nat->Bool} {ρ:Nat->fi} {ops:Array Oper} {n:Nat} {j0 d0:Nat} {h:CN} {o0:Oper}
theorem xU.cv{i:Nat}(hs:xU P p ρ ops i b c)(ht:∀ o,ops[i]?=ac o->d0∉H9 ops o/\o.dst≠ac d0):xU P p ρ ops i (b.cv d0) (c.cv d0)/\c.tm d0=b.tm d0:=by
 unfold xU at *
 cases ho:ops[i]? with
 | none =>
  rw [ho] at hs;have hs:c=b:=hs;subst hs;exact ⟨rfl,rfl⟩
 | some o =>
  rw [ho] at hs;obtain ⟨h1,h2⟩:=ht o ho;obtain ⟨hoff,hloc⟩:=FL.loc hs;obtain ⟨c',e1,e2,e3,e4⟩:=hloc (b.cv d0) (λt ht2=>cX _ _ _ _ (λhe=>by subst he; exact h1 (Ol ht2))) (λt ht2=>cX _ _ _ _ (λhe=>by subst he; exact h1 (sa.2 (.inl ht2)))) ⟨λs hs=>rfl,λs hs=>rfl⟩;have hE1:=Up p ρ o;have hcc:c'=c.cv d0:=by
   refine St.ext (funext λt=>?_) (funext λs=>?_) (funext λr=>?_)
   ·by_cases h2t:o.dst=ac t
    ·rw [e2 t h2t];show c.tm t=gB c.tm d0 _ t;exact (cX _ _ _ _ (λhe=>by subst he; exact h2 h2t)).symm
    ·rw [e3.1 t h2t];show gB b.tm d0 _ t=gB c.tm d0 _ t
     by_cases htd:t=d0
     ·subst htd; rw [eM,eM]
     ·rw [cX _ _ _ _ htd,cX _ _ _ _ htd,hoff.1 t h2t]
   ·by_cases h2s:(eW p ρ o).dom.oW s
    ·exact e4.ob s (hE1.ob s h2s)
    ·rw [e3.2.1 s h2s]; exact (hoff.2.1 s h2s).symm
   ·by_cases h2s:(eW p ρ o).dom.rW r
    ·exact e4.rw r (hE1.rw r h2s)
    ·rw [e3.2.2 r h2s]; exact (hoff.2.2 r h2s).symm
  exact ⟨hcc ▸ e1,hoff.1 d0 h2⟩
def Vp(P:Program)(p:Nat->Bool)(ρ:Nat->fi)(ops:Array Oper)(j0 d0:Nat)(h:CN)(i:Nat)(st c:St):Prop :=
 (i≠j0/\xU P p ρ ops i st c)\/(i=j0/\∃ b,xU P p ρ ops j0 st b/\b.tm d0=.t (hT h)/\c=b.cv d0)
def qcJ(P:Program)(p:Nat->Bool)(ρ:Nat->fi)(ops:Array Oper)(j0 d0:Nat)(h:CN):IO->St->St->Prop
 | [],st,st'=>st'=st
 | i :: l,st,st'=>∃ b,Vp P p ρ ops j0 d0 h i st b/\qcJ P p ρ ops j0 d0 h l b st'
theorem qcK{i j:Nat}{o:Oper}(hi:AR p ρ ops i j=gi)(hj:ops[j]?=ac o)(hd:o.dst=ac d0):∀ o',ops[i]?=ac o'->d0∉H9 ops o'/\o'.dst≠ac d0:=λo' ho'=>by
 unfold AR at hi;rw [ho',hj] at hi;simp only [qaL,sk,Bool.not_eq_true'] at hi;obtain ⟨⟨⟨⟨⟨hd1,hd2⟩,_⟩,_⟩,_⟩,_⟩:=hi;rw [hd] at hd2;refine ⟨by simpa [U3] using hd2,λhe=>?_⟩;rw [he] at hd1;simp [U3,hd] at hd1
theorem qa3{i j:Nat}{o:Oper}(hi:AR p ρ ops i j=gi)(hj:ops[i]?=ac o)(hd:o.dst=ac d0):∀ o',ops[j]?=ac o'->d0∉H9 ops o'/\o'.dst≠ac d0:=λo' ho'=>by
 unfold AR at hi;rw [ho',hj] at hi;simp only [qaL,sk,Bool.not_eq_true'] at hi;obtain ⟨⟨⟨⟨⟨hd1,hd2⟩,_⟩,_⟩,_⟩,_⟩:=hi;rw [hd] at hd1;simp only [U3,List.contains_eq_mem,zWv,decide_eq_false_iff_not,not_or] at hd1;exact ⟨hd1.2,λhe=>hd1.1 (by simp [he])⟩
theorem qjD{i j:Nat}(h0:ops[j0]?=ac o0)(hd:o0.dst=ac d0)(hi:AR p ρ ops i j=gi)(hij:i≠j)(h2:Vp P p ρ ops j0 d0 h j st b)(h1:Vp P p ρ ops j0 d0 h i b c):∃ b',Vp P p ρ ops j0 d0 h i st b'/\Vp P p ρ ops j0 d0 h j b' c:=by
 rcases h2 with ⟨hj,h2⟩ | ⟨rfl,b1,h2,h3,rfl⟩
 ·rcases h1 with ⟨hi',h1⟩ | ⟨rfl,c1,h1,h3,rfl⟩
  ·obtain ⟨b',h4,h5⟩:=Om hi h2 h1;exact ⟨b',.inl ⟨hi',h4⟩,.inl ⟨hj,h5⟩⟩
  ·obtain ⟨b',h4,h5⟩:=Om hi h2 h1;obtain ⟨h6,h7⟩:=h5.cv (qa3 hi h0 hd);exact ⟨b'.cv d0,.inr ⟨rfl,b',h4,h7 ▸ h3,rfl⟩,.inl ⟨hj,h6⟩⟩
 ·rcases h1 with ⟨hi',h1⟩ | ⟨rfl,_⟩
  ·-- the step from the told state, told back
   have hoff:=qcK hi h0 hd;have key:∃ c1,xU P p ρ ops i b1 c1/\c=c1.cv d0/\c1.tm d0=b1.tm d0:=by
    unfold xU at h1 ⊢
    cases ho:ops[i]? with
    | none =>
     rw [ho] at h1;have h1:c=b1.cv d0:=h1;exact ⟨b1,rfl,h1,rfl⟩
    | some o =>
     rw [ho] at h1;obtain ⟨g1,g2⟩:=hoff o ho;obtain ⟨ho1,hloc⟩:=FL.loc h1;obtain ⟨c',e1,e2,e3,e4⟩:=hloc b1 (λt ht=>(cX _ _ _ _ (λhe=>by subst he; exact g1 (Ol ht))).symm) (λt ht=>(cX _ _ _ _ (λhe=>by subst he; exact g1 (sa.2 (.inl ht)))).symm) ⟨λs hs=>rfl,λs hs=>rfl⟩;have hE1:=Up p ρ o;refine ⟨c',e1,?_,e3.1 d0 g2⟩;refine St.ext (funext λt=>?_) (funext λs=>?_) (funext λr=>?_)
     ·show c.tm t=gB c'.tm d0 _ t
      by_cases htd:t=d0
      ·subst htd;rw [eM,ho1.1 _ g2];exact eM _ _ _
      ·rw [cX _ _ _ _ htd]
       by_cases h2t:o.dst=ac t
       ·exact (e2 t h2t).symm
       ·rw [e3.1 t h2t,ho1.1 t h2t];exact cX _ _ _ _ htd
     ·by_cases h2s:(eW p ρ o).dom.oW s
      ·exact (e4.ob s (hE1.ob s h2s)).symm
      ·rw [ho1.2.1 s h2s]; exact (e3.2.1 s h2s).symm
     ·by_cases h2s:(eW p ρ o).dom.rW r
      ·exact (e4.rw r (hE1.rw r h2s)).symm
      ·rw [ho1.2.2 r h2s]; exact (e3.2.2 r h2s).symm
   obtain ⟨c1,h4,rfl,h5⟩:=key;obtain ⟨b',h6,h7⟩:=Om hi h2 h4;exact ⟨b',.inl ⟨hi',h6⟩,.inr ⟨rfl,c1,h7,h5.trans h3,rfl⟩⟩
  ·exact absurd rfl hij
theorem qiC{i:Nat}(h0:ops[j0]?=ac o0)(hd:o0.dst=ac d0):∀ {l:IO} {st st':St},i∈l->(∀ l1 l2,l=l1++i :: l2->i∉l1->∀ j∈l1,AR p ρ ops i j=gi)->qcJ P p ρ ops j0 d0 h l st st'->∃ b,Vp P p ρ ops j0 d0 h i st b/\qcJ P p ρ ops j0 d0 h (l.erase i) b st'
 | [],st,st',h,_,_=>by simp at h
 | j :: l,st,st',h,hind,hr=>by
  by_cases he:i=j
  ·subst he;rw [List.erase_cons_head];exact hr
  ·obtain ⟨b,h1,h2⟩:=hr;have him:i∈l:=(Ir.1 h).resolve_left he;obtain ⟨c,h3,h4⟩:=qiC h0 hd him (λl1 l2 hl hni j' hj'=>hind (j :: l1) l2 (by rw [hl]; rfl) (by simp [he,hni]) j' (zQv _ hj')) h2;have hij:AR p ρ ops i j=true:=by
    obtain ⟨l1,l2,hl,hni⟩:=List.eq_append_cons_of_mem him;exact hind (j :: l1) l2 (by rw [hl]; rfl) (by simp [he,hni]) j (zWX ..)
   obtain ⟨d,h5,h6⟩:=qjD h0 hd hij he h1 h3;refine ⟨d,h5,?_⟩;rw [List.erase_cons_tail (by simpa using λh=>he h.symm)];exact ⟨c,h6,h4⟩
theorem lj.cv(hS:lj E g n st a w)(hpin:E.pin=ac (hv h))(hd:st.tm d0=.t (hT h)):lj E g n (st.cv d0) a w:=by
 refine ⟨⟨hS.mem.ob,hS.mem.obne,hS.mem.row,hS.mem.rowne,hS.mem.rowob,hS.mem.F,hS.mem.os,hS.mem.tape,hS.mem.output,hS.mem.sizes,hS.mem.frame,hS.mem.shp,hS.mem.dep0⟩,hS.size,hS.defers,λi hi=>?_,λi hi=>?_,hS.lent,hS.pin⟩
 ·obtain ⟨v,h1,h2⟩:=hS.tm i hi;refine ⟨v,h1,?_⟩;show VR w g st.O st.R (gB st.tm d0 (.own PR) i) v
  by_cases hid:i=d0
  ·subst hid;rw [eM];rw [hd] at h2
   cases h2 with
   | t _ _ h2 =>
    cases h2
    obtain ⟨h3,h4⟩:=hS.pin _ hpin;have:=VR.own (w:=w) (g:=g) (O:=st.O) (R:=st.R) PR h3;rw [h4] at this;exact this
  ·rw [cX _ _ _ _ hid];exact h2
 ·show gB st.tm d0 (.own PR) i=.undef
  by_cases hid:i=d0
  ·subst hid;have:=hS.und i hi;rw [hd] at this
   cases this
  ·rw [cX _ _ _ _ hid];exact hS.und i hi
theorem qa4{i:Nat}{K:Act->World->Prop}{Q:Exit->Act->World->Prop}(hpin:E.pin=ac (hv h))(hS:lj E g n st a w)(hd:∀ o,ops[i]?=ac o->rq n o=gi)(hs:Vp P p ρ ops j0 d0 h i st st')
  (hK:∀ g' a' w',lj E g' n st' a' w'->K a' w'):wpOp P ops Q i K a w:=by
 rcases hs with ⟨_,hs⟩ | ⟨rfl,b,hs,hb,rfl⟩
 ·exact ES hS hd hs hK
 ·exact ES hS hd hs λg' a' w' hS'=>hK g' a' w' (hS'.cv hpin hb)
theorem qcL{D:Array Nat}{Q:Exit->Act->World->Prop}(hpin:E.pin=ac (hv h))(h0:ops[j0]?=ac o0)(hd0:o0.dst=ac d0)(hF:Oo p ρ n ops D)(hQ:∀ g a w,lj E g n st' a w->Q .normal a w) :
  ∀ (fuel:Nat) (listed:Array Bool) (st:St) (g:Gh) (a:Act) (w:World),listed.size=ops.size->qiU ops listed->(rem ops listed).length=fuel->qcJ P p ρ ops j0 d0 h (rem ops listed) st st'->lj E g n st a w->wpAny P .any ops Q fuel listed a w:=by
 intro fuel
 induction fuel with
 | zero =>
  intro listed st g a w hs hd hl hr hS;have h0:rem ops listed=[]:=zQZ hl;rw [h0] at hr;have hr:st'=st:=hr;refine ⟨?_,hQ g a w (hr ▸ hS)⟩;refine List.eq_nil_iff_forall_not_mem.2 λj hj=>?_;obtain ⟨h1,o,ho,_⟩:=mem_ready.1 hj;have:j∈rem ops listed:=yM.2 ⟨(Dp.1 ho).1,h1⟩;rw [h0] at this;simp at this
 | succ fuel ih =>
  intro listed st g a w hs hd hl hr hS;have hsorted:(rem ops listed).Pairwise (· < ·):=List.Pairwise.filter _ List.pairwise_lt_range;refine ⟨λhnil=>?_,λi hi=>?_⟩
  ·exfalso
   cases hrem:rem ops listed with
   | nil=>rw [hrem] at hl; cases hl
   | cons i l =>
    have him:i∈rem ops listed:=by rw [hrem]; simp
    obtain ⟨hlt,hun⟩:=yM.1 him;have:i∈Region.ready .any ops listed:=by
     refine mem_ready.2 ⟨hun,_,zXq hlt,λe he hb=>?_⟩;have hlt2:=hF.back i _ (zXq hlt) e he hb;have hlt3:e.on < listed.size:=by omega
     cases hee:listed.getD e.on go with
     | true=>rfl
     | false =>
      have hm:e.on∈rem ops listed:=yM.2 ⟨by omega,by rw [Ur hlt3]; exact hee⟩;rw [hrem] at hm hsorted;rcases Ir.1 hm with h | h
      ·omega
      ·have:=(List.pairwise_cons.1 hsorted).1 _ h;omega
    rw [hnil] at this;simp at this
  ·obtain ⟨hun,o,ho,hall⟩:=mem_ready.1 hi;have hlt:i < ops.size:=(Dp.1 ho).1;have him:i∈rem ops listed:=yM.2 ⟨hlt,hun⟩;obtain ⟨b,h1,h2⟩:=qiC h0 hd0 him (λl1 l2 hsplit hni j hj=>by
    have hjm:j∈rem ops listed:=by rw [hsplit]; exact sa.2 (.inl hj)
    have hji:j < i:=by
     rw [hsplit] at hsorted;exact (List.pairwise_append.1 hsorted).2.2 j hj i (zWX ..)
    rcases hF.ind i j o ho hji with h | h
    ·have h3:=closed hF hd i o ho hall j h;have h4:=(yM.1 hjm).2;rw [Ur (by rw [hs]; exact (yM.1 hjm).1),h3] at h4
     cases h4
    ·exact h) hr
   refine qa4 hpin hS (hF.dst i) h1 λg' a' w' hS'=>ih (listed.setIfInBounds i gi) b g' a' w' (by simp [hs]) ?_ ?_ ?_ hS'
   ·intro k o' hk ho' e he hb
    by_cases hik:i=k
    ·subst hik;rw [ho] at ho';injection ho' with ho'
     subst ho';exact getD_set_true (hall e he hb)
    ·rw [getD_set_ne go hik] at hk;exact getD_set_true (hd k o' hk ho' e he hb)
   ·rw [Uq hs him,List.length_erase_of_mem him,hl];rfl
   ·rw [Uq hs him];exact h2
theorem qhK{l1 l2:W2}{o:Oper}(hops:ops.toList=l1++o :: l2)(hr1:Jj P p ρ ops (l1++[o]) st b)(hb:b.tm d0=.t (hT h))(hr2:Jj P p ρ ops l2 (b.cv d0) st'):qcJ P p ρ ops l1.length d0 h (zXY ops.size) st st':=by
 have hsz:ops.size=l1.length+1+l2.length:=by rw [<- zQg,hops]; simp; omega
 have e:zXY ops.size=zXW 0 (l1++[o]).length++zXW (l1.length+1) l2.length:=by
  rw [zYX,hsz,zQH,zQw,zXx,zWY,<- zKW,zWY]
 have hk1:∀ j,j < l1.length+1->(l1++[o])[j]?=ops[j]?:=λj hj=>by
  have e:ops[j]?=((l1++[o])++l2)[j]?:=by rw [<- zWz,hops]; simp
  rw [e];exact (zQW f6).symm
 have hk2:∀ j,l2[j]?=ops[l1.length+1+j]?:=λj=>by
  rw [<- zWz,hops,show l1++o :: l2=(l1++[o])++l2 by simp,zQX ig];simp
 have up:∀ (m k:Nat) (s s':St),k > l1.length->U4 P p ρ ops (zXW k m) s s'->qcJ P p ρ ops l1.length d0 h (zXW k m) s s':=by
  intro m
  induction m with
  | zero=>intro k s s' _ h; exact h
  | succ m ih=>intro k s s' hk ⟨q,h1,h2⟩; exact ⟨q,.inl ⟨by omega,h1⟩,ih (k+1) q s' al h2⟩
 have tail:=up l2.length (l1.length+1) _ _ al (D4 hk2 hr2);rw [e];have head:∀ (l:W2) (k:Nat) (s:St),k+l.length=l1.length->(∀ j,j < l.length+1->(l++[o])[j]?=ops[k+j]?)->Jj P p ρ ops (l++[o]) s b->qcJ P p ρ ops l1.length d0 h (zXW k (l++[o]).length++zXW (l1.length+1) l2.length) s st':=by
  intro l
  induction l with
  | nil =>
   intro k s hk hl ⟨q,h1,h2⟩;have h2:b=q:=h2;subst h2;have hk':k=l1.length:=by simpa using hk
   subst hk';have h3:=hl 0 ig;simp at h3;refine ⟨b.cv d0,.inr ⟨rfl,b,?_,hb,rfl⟩,tail⟩;unfold xU;rw [<- h3];exact h1
  | cons o' l ih =>
   intro k s hk hl ⟨q,h1,h2⟩;have h3:=hl 0 ig;simp at h3;refine ⟨q,.inl ⟨by simp at hk; omega,?_⟩,?_⟩
   ·unfold xU;rw [<- h3];exact h1
   ·exact ih (k+1) q qg9 (λj hj=>by have:=hl (j+1) f6; simpa [zZj,Nat.add_comm 1 j] using this) h2
 exact head l1 0 st ig (λj hj=>by rw [zWY]; exact hk1 j hj) hr1
theorem Xj{Q:Exit->Act->World->Prop}{id:Nat}{l1 l2:W2}{o:Oper}(hm:P.follows .mixedOrders=gi)(hok:U6 p ρ n ops=gi)(hpin:E.pin=ac (hv h))(hops:ops.toList=l1++o :: l2)(hd0:o.dst=ac d0)
  (hS:lj E g n st a w) (hr1:Jj P p ρ ops (l1++[o]) st b) (hb:b.tm d0=.t (hT h)) (hr2:Jj P p ρ ops l2 (b.cv d0) st') (hQ:∀ g a w,lj E g n st' a w->Q .normal a w):(Code.region id ops gi).wp P Q a w:=by
 have hrX:=qhK hops hr1 hb hr2;have hF:=U7 hok;have h0:ops[l1.length]?=ac o:=by rw [<- zWz,hops]; simp
 have hrem:rem ops (zZy ops.size go)=zXY ops.size:=by
  unfold rem;refine List.filter_eq_self.2 λi hi=>?_;have:i < ops.size:=List.mem_range.1 hi;simp [this]
 refine wp_region_any hm (qcL hpin h0 hd0 hF hQ _ _ st g a _ ig (λk o hk=>?_) (by rw [hrem]; simp) (by rw [hrem]; exact hrX) hS.drew)
 by_cases hlt:k < ops.size <;> simp [hlt] at hk
end
section
variable {P:Program} {E E0:En} {g:Gh} {st st':St} {a:Act} {w:World} {n:Nat} {ls:IO} {k:K} {e e2:TypeId} {Q:Exit->St->K->Prop}
theorem lj.repin(hS:lj E g n st a w)(v:Option Value)(hv:∀ u,v=ac u->st.R PR/\g.rw PR=u):lj { E with pin:=v } g n st a w :=
 ⟨⟨hS.mem.ob,hS.mem.obne,hS.mem.row,hS.mem.rowne,hS.mem.rowob,hS.mem.F,hS.mem.os,hS.mem.tape,hS.mem.output,hS.mem.sizes,hS.mem.frame,hS.mem.shp,hS.mem.dep0⟩,hS.size,hS.defers,hS.tm,hS.und,hS.lent,hv⟩
theorem lj.own1{ee sz r:Nat}{rows:it}{v:Value}(hS:lj E g n st a w)(hpin:E.pin=cl)(hfree:st.rw r=cl)(hrow:p5 w w (λb=>v.ownBlock=ac b) g.F v (.live ee sz rows))(hA:∀ b,v.ownBlock=ac b->Apt g st b/\¬ E.D b) :
  lj { E with X:=λb=>E.X b\/v.ownBlock=ac b } { g with rw:=gB g.rw r v } n { st with rw:=gB st.rw r (ac (.live ee sz rows)) } a w:=by
 have hM:=hS.mem;have hne:∀ q x,st.rw q=ac x->q≠r:=λq x h he=>by rw [he,hfree] at h; cases h
 have hEx:vO w w g { g with rw:=gB g.rw r v } st.O st.R ({ st with rw:=gB st.rw r (ac (.live ee sz rows)) }:St).O ({ st with rw:=gB st.rw r (ac (.live ee sz rows)) }:St).R :=
  ⟨λ_ _=>rfl,λ_ h=>h,λs h=>⟨h,rfl⟩,λq h=>by
   obtain ⟨x,hx⟩:=sr.1 h;have:=hne q x hx;exact ⟨by simp [St.R,cX _ _ _ _ this,hx],cX _ _ _ _ this⟩,⟨rfl,rfl,rfl⟩,rfl,rfl⟩
 have hl:∀ q,({ st with rw:=gB st.rw r (ac (.live ee sz rows)) }:St).L q->q≠r->st.L q:=λq h hq=>by
  obtain ⟨a,b,c,h⟩:=h;exact ⟨a,b,c,by rw [<- h]; exact (cX _ _ _ _ hq).symm⟩
 have hrw:∀ q,q≠r->gB g.rw r v q=g.rw q:=λq hq=>cX _ _ _ _ hq;have hrr:gB g.rw r v r=v:=eM _ _ _;refine ⟨⟨λs cells hs=>?_,hM.obne,λq x hq=>?_,λq q' b h1 h2 h3 h4=>?_,λq s h1 h2 h3=>?_,λb hb=>⟨(hM.F b hb).1,λh=>((hM.F b hb).2.1 h).imp id .inl,(hM.F b hb).2.2⟩,hM.os,hM.tape,hM.output,hM.sizes,λb h1 h2=>hM.frame b h1 λh=>h2 (.inl h),hM.shp,⟨hM.dep0.1,λb hb=>?_⟩⟩,
  hS.size,hS.defers,λi hi=>?_,hS.und,hS.lent,λu hu=>(by rw [show E.pin=ac u from hu] at hpin; cases hpin)⟩
 ·obtain ⟨arr,e',h2,h3,h4,h5,h6⟩:=hM.ob s cells hs;refine ⟨arr,e',h2,h3,λj x hj=>?_,h5,h6.imp id .inl⟩;obtain ⟨h7,u,h8,h9⟩:=h4 j x hj;exact ⟨h7,u,h8,h9.mono hEx⟩
 ·by_cases hqr:q=r
  ·subst hqr;have hq:gB st.rw q (ac (.live ee sz rows)) q=ac x:=hq;rw [eM] at hq
   cases hq
   show p5 _ _ _ _ (gB g.rw q v q) _;rw [eM];obtain ⟨inner,h1,h2,h3,h4⟩:=hrow;exact ⟨inner,h1,h2,h3,λb hb=>⟨(h4 b hb).1,.inr (.inr hb)⟩⟩
  ·have hq:gB st.rw r (ac (.live ee sz rows)) q=ac x:=hq;rw [cX _ _ _ _ hqr] at hq;show p5 _ _ _ _ (gB g.rw r v q) _;rw [cX _ _ _ _ hqr];have hr:=hM.row q x hq
   cases x with
   | live e3 sz3 rows3 =>
    obtain ⟨inner,h1,h2,h3,h4⟩:=hr;exact ⟨inner,h1,h2,h3,λb hb=>⟨(h4 b hb).1,(h4 b hb).2.imp id .inl⟩⟩
   | frz sz3 rows3=>exact hr
   | gone=>exact hr
 ·have h3:(gB g.rw r v q).ownBlock=ac b:=h3;have h4:(gB g.rw r v q').ownBlock=ac b:=h4
  by_cases hq:q=r
  ·by_cases hq':q'=r
   ·rw [hq,hq']
   ·subst hq;rw [eM] at h3;rw [cX _ _ _ _ hq'] at h4;exact absurd h4 ((hA b h3).1.row q' (hl q' h2 hq'))
  ·by_cases hq':q'=r
   ·subst hq';rw [eM] at h4;rw [cX _ _ _ _ hq] at h3;exact absurd h3 ((hA b h4).1.row q (hl q h1 hq))
   ·rw [cX _ _ _ _ hq] at h3;rw [cX _ _ _ _ hq'] at h4;exact hM.rowne q q' b (hl q h1 hq) (hl q' h2 hq') h3 h4
 ·have h3:(gB g.rw r v q).ownBlock=ac (g.ob s):=h3
  by_cases hq:q=r
  ·subst hq;rw [eM] at h3;exact (hA _ h3).1.ob s h2 rfl
  ·rw [cX _ _ _ _ hq] at h3;exact hM.rowob q s (hl q h1 hq) h2 h3
 ·obtain ⟨h1,h2,h3⟩:=hM.dep0.2 b hb;exact ⟨h1,λh=>h.elim h2 λh=>(hA b h).2 hb,h3⟩
 ·obtain ⟨u,h1,h2⟩:=hS.tm i hi;exact ⟨u,h1,h2.mono hEx⟩
theorem lj.fill{s j r:Nat}{h:CN}(hS:lj E g n st a w)(hc:((st.ob s).bind λc=>c[j]?)=ac (.t (hT h)))(hR:st.R r)(hg:g.rw r=hv h) :
  lj E g n { st with ob:=gB st.ob s ((st.ob s).map λc=>c.set j (.own r)) } a w:=by
 have hM:=hS.mem;have hO:∀ q,({ st with ob:=gB st.ob s ((st.ob s).map λc=>c.set j (.own r)) }:St).O q↔st.O q:=λq=>by
  by_cases hq:q=s
  ·subst hq; simp [St.O,eM]
  ·simp [St.O,cX _ _ _ _ hq]
 have hEx:vO w w g g st.O st.R ({ st with ob:=gB st.ob s ((st.ob s).map λc=>c.set j (.own r)) }:St).O ({ st with ob:=gB st.ob s ((st.ob s).map λc=>c.set j (.own r)) }:St).R :=
  ⟨λ_ _=>rfl,λ_ h=>h,λq h=>⟨(hO q).2 h,rfl⟩,λq h=>⟨h,rfl⟩,⟨rfl,rfl,rfl⟩,rfl,rfl⟩
 refine ⟨⟨λq cells hs=>?_,λq q' h1 h2 h3=>hM.obne q q' ((hO q).1 h1) ((hO q').1 h2) h3,hM.row,hM.rowne,λq q' h1 h2=>hM.rowob q q' h1 ((hO q').1 h2),hM.F,hM.os,hM.tape,hM.output,hM.sizes,hM.frame,hM.shp,hM.dep0⟩,
  hS.size,hS.defers,λi hi=>?_,hS.und,λq b hq=>⟨(hO q).2 (hS.lent q b hq).1,(hS.lent q b hq).2⟩,hS.pin⟩
 ·have hs:gB st.ob s ((st.ob s).map λc=>c.set j (.own r)) q=ac cells:=hs
  by_cases hq:q=s
  ·subst hq;rw [eM] at hs;obtain ⟨cells0,h1,rfl⟩:=pa.1 hs;rw [h1] at hc;have hc:cells0[j]?=ac (.t (hT h)):=hc;obtain ⟨arr,e',h2,h3,h4,h5,h6⟩:=hM.ob q cells0 h1;refine ⟨arr,e',h2,by simpa using h3,λi x hi=>?_,h5,h6⟩;rw [zXy] at hi
   split at hi
   ·rename_i hji;subst hji
    split at hi
    ·cases hi
     obtain ⟨h7,u,h8,h9⟩:=h4 j _ hc;refine ⟨rfl,u,h8,?_⟩
     cases h9 with
     | t _ _ h9 =>
      cases h9
      have:=VR.own (w:=w) (g:=g) (O:=({ st with ob:=gB st.ob q ((st.ob q).map λc=>c.set j (.own r)) }:St).O) (R:=st.R) r hR;rw [hg] at this;exact this
    ·cases hi
   ·obtain ⟨h7,u,h8,h9⟩:=h4 i x hi;exact ⟨h7,u,h8,h9.mono hEx⟩
  ·rw [cX _ _ _ _ hq] at hs;obtain ⟨arr,e',h2,h3,h4,h5,h6⟩:=hM.ob q cells hs;exact ⟨arr,e',h2,h3,λi x hi=>⟨(h4 i x hi).1,(h4 i x hi).2.imp λu hu=>⟨hu.1,hu.2.mono hEx⟩⟩,h5,h6⟩
 ·obtain ⟨u,h1,h2⟩:=hS.tm i hi;exact ⟨u,h1,h2.mono hEx⟩
theorem qdV{Y:Nat->Prop}(hK:Kl E0 E)(hY:∀ b,Y b->(E0.w0.heap.size<=b\/E0.X b)/\¬ E.F0 b):Kl E0 { E with X:=λb=>E.X b\/Y b }:=by
 refine ⟨hK.n0,λb h1 h2=>⟨λh=>?_,(hK.same b h1 h2).2⟩,hK.F0,λb hb h=>?_,hK.os,hK.tape,hK.output,hK.d,hK.sh,hK.lent,hK.pin⟩
 ·rcases h with h | h
  ·exact (hK.same b h1 h2).1 h
  ·rcases (hY b h).1 with h3 | h3
   ·omega
   ·exact h2 h3
 ·rcases h with h | h
  ·exact hK.fx b hb h
  ·exact (hY b h).2 hb
theorem qa5{w0:World}{X F:Nat->Prop}{h:CN}{e':TypeId}{α:Type}{f:α->T}{gv:α->Value}{xs:List α}(hf:∀ x,Rd w F (f x) (gv x))(ho:w.ownsRow 0 e' 1 (hv h) xs.length (xs.map gv))(hb:∀ b,(hv h).ownBlock=ac b->¬ F b/\(w0.heap.size<=b\/X b)):p5 w0 w X F (hv h) (.live e' 1 (xs.map λx=>[f x])):=by
 refine ⟨xs.map gv,by simpa using ho,λi row hi=>?_,λi row j x hi hj=>?_,hb⟩
 ·rw [zQV] at hi;obtain ⟨y,_,rfl⟩:=pa.1 hi;rfl
 ·rw [zQV] at hi;obtain ⟨y,hy,rfl⟩:=pa.1 hi
  cases j with
  | succ j=>simp at hj
  | zero =>
   simp only [zQz,Option.some.injEq] at hj;subst hj;exact ⟨gv y,by rw [zVX,zYV,zQV,hy]; rfl,hf y⟩
theorem Vq{α:Type}:∀ {l:List α} {i:Nat} {q:α},l[i]?=ac q->l.Perm (q :: l.eraseIdx i)
 | [],i,q,h=>by simp at h
 | y :: l,0,q,h=>by
  simp only [zQz,Option.some.injEq] at h;subst h;exact .refl _
 | y :: l,i+1,q,h=>by
  simp only [List.getElem?_cons_succ] at h;exact ((Vq h).cons y).trans (.swap q y _)
def qiZ(st:St)(s j R e e2:Nat)(hs:List CN)(x:gs):St :=
 { tm:=st.tm,ob:=gB st.ob s ((st.ob s).map λc=>c.set j (.own R)),rw:=gB (gB st.rw R (ac (.live e 1 ((hs.map hT).map λt=>[t])))) PR (ac (.live e2 1 (x.map (aJ .u8)))) }
theorem Wd.app{p:Nat->Bool}{ρ:Nat->fi}{ops:Array Oper}{id:Nat}{h:CN}{xs:List gs}{x:gs}{o:Oper}{l2:W2}{d0:Nat}(m s j R i:Nat)(h0:qeS P E0 ls)(hx:xs[i]?=ac x)
  (hk:∀ hs q,hs.length=xs.length->hs[i]?=ac q->ab P p ρ ops (ops.toList.take m++[o]) (qiZ st s j R e e2 hs x) λb=>b.tm d0=.t (hT q)/\ab P p ρ ops l2 (b.cv d0) λst3=>Q .normal st3 (.hole hs xs i))
  (hops:ops.toList=ops.toList.take m++o :: l2:=by rfl) (hd0:o.dst=ac d0:=by rfl) (hm:P.follows .mixedOrders=true:=by kernel_rfl) (hok:U6 p ρ n ops=true:=by kernel_rfl) (hc:((st.ob s).bind λc=>c[j]?)=ac (.t (hT h)):=by kernel_rfl)
  (hf1:st.rw R=none:=by kernel_rfl) (hf2:st.rw PR=none:=by kernel_rfl) (hne:zWg PR R=false:=by kernel_rfl):Wd P n ls E0 e e2 (.region id ops gi) Q st (.deep h xs):=λE g a w hE hK hBe hS=>by
 have hne:PR≠R:=λh=>by rw [h,zVH] at hne; cases hne
 obtain ⟨Bs0,a1,a2,a3⟩:=hBe.now hK hS;obtain ⟨hE1,hK1,⟨Bs,b1,b2,b3⟩,hS1⟩:=Wd.anew h0.one hE hK hS a1 a2 a3 h0.d;obtain ⟨hs,c1,c2,rfl⟩:=b1;have hlen:=c1.1;have hil:i < hs.length:=by rw [hlen]; exact (ln.1 hx).1
 obtain ⟨q,hq⟩:∃ q,hs[i]?=ac q:=⟨_,sX hil⟩;obtain ⟨b,r1,hb,st3,r2,hQ⟩:=hk hs q hlen hq
 -- what is whose
 have hperm:(hs.flatMap hB).Perm (hB q++(hs.eraseIdx i).flatMap hB):=by
  have:=(Vq hq).flatMap_right hB;rwa [List.flatMap_cons] at this
 have hnd:(hB h++(hB q++(hs.eraseIdx i).flatMap hB)).Nodup:=((List.Perm.append_left (hB h) hperm).nodup_iff).1 b2;have hmem:∀ c,c∈hB h++(hB q++(hs.eraseIdx i).flatMap hB)->c∈hB h++hs.flatMap hB:=λc hc=>((List.Perm.append_left (hB h) hperm).mem_iff).2 hc;have hApt:∀ c,c∈hB h++(hB q++(hs.eraseIdx i).flatMap hB)->Apt { g with dw:=w } st c:=λc hc=>by
  have hU:=hS1.unk (b3 c (hmem c hc)).1;exact ⟨hU.f,hU.o,hU.r⟩
 have hn1:=List.nodup_append.1 hnd;have hn2:=List.nodup_append.1 hn1.2.1;have hmh:∀ {c},(hv h).ownBlock=ac c->c∈hB h++(hB q++(hs.eraseIdx i).flatMap hB):=λhc=>sa.2 (.inl (pf.2 hc));have hmq:∀ {c},(hv q).ownBlock=ac c->c∈hB h++(hB q++(hs.eraseIdx i).flatMap hB):=λhc=>sa.2 (.inr (sa.2 (.inl (pf.2 hc))))
 -- the two rows
 have row1:p5 w w (λc=>(hv h).ownBlock=ac c) g.F (hv h) (.live e 1 ((hs.map hT).map λt=>[t])):=(zVY (f:=hT) (g:=λt=>[t]) (l:=hs)).symm ▸ qa5 (f:=hT) (gv:=hv) (λy=>.hdr _ _ _) c2 λc hc=>⟨(hApt c (hmh hc)).F,.inr hc⟩;have hSa:=hS1.own1 (r:=R) hK1.pin hf1 row1 λc hc=>⟨hApt c (hmh hc),(b3 c (hmem c (hmh hc))).1.2.2.2⟩;have hown:=c1.2 i q x hq hx;have row2:p5 w w (λc=>(hv q).ownBlock=ac c) g.F (hv q) (.live e2 1 (x.map (aJ .u8))):=qa5 (f:=λy=>T.int .u8 y) (gv:=Value.int .u8) (λy=>.int _ _) hown λc hc=>⟨(hApt c (hmq hc)).F,.inr hc⟩;have hSb:=hSa.own1 (r:=PR) hK1.pin (by show gB st.rw R _ PR=cl; rw [cX _ _ _ _ hne]; exact hf2) row2 λc hc=>⟨⟨(hApt c (hmq hc)).F,(hApt c (hmq hc)).ob,λr hr h5=>by
   by_cases hrR:r=R
   ·subst hrR;have h5:(gB g.rw r (hv h) r).ownBlock=ac c:=h5;rw [eM] at h5;exact hn1.2.2 c (pf.2 h5) c (sa.2 (.inl (pf.2 hc))) rfl
   ·have h5:(gB g.rw R (hv h) r).ownBlock=ac c:=h5;rw [cX _ _ _ _ hrR] at h5;refine (hApt c (hmq hc)).row r ?_ h5;obtain ⟨x1,x2,x3,h6⟩:=hr;exact ⟨x1,x2,x3,by rw [<- h6]; exact (cX _ _ _ _ hrR).symm⟩⟩,(b3 c (hmem c (hmq hc))).1.2.2.2⟩
 have hSc:=hSb.fill (s:=s) (j:=j) (r:=R) (h:=h) hc (by simp [St.R,cX _ _ _ _ hne.symm,eM]) (by show gB (gB g.rw R (hv h)) PR (hv q) R=hv h; rw [cX _ _ _ _ hne.symm,eM]);have hSd:=hSc.repin (ac (hv q)) λu hu=>by
  cases hu
  exact ⟨by simp [St.R,eM],by show gB (gB g.rw R (hv h)) PR (hv q) PR=hv q; exact eM _ _ _⟩
 have hKa:=qdV (Y:=λc=>(hv h).ownBlock=ac c) hK1 λc hc=>⟨(b3 c (hmem c (hmh hc))).2,(b3 c (hmem c (hmh hc))).1.2.2.1⟩;have hKb:=qdV (Y:=λc=>(hv q).ownBlock=ac c) hKa λc hc=>⟨(b3 c (hmem c (hmq hc))).2,(b3 c (hmem c (hmq hc))).1.2.2.1⟩;have htb:W9 P w (λc=>((E.anewL g st w).X c\/(hv h).ownBlock=ac c)\/(hv q).ownBlock=ac c):=h0.tb.step (λc h1 h2=>(hKb.same c h1 h2).2) λc h1 h2=>(hKb.same c h1 h2).1;have htE:Tb P { E.anewL g st w with X:=λc=>((E.anewL g st w).X c\/(hv h).ownBlock=ac c)\/(hv q).ownBlock=ac c,pin:=ac (hv q) }:=⟨htb.mono λc hc=>hc.elim (λh7=>h7) λhc=>(by obtain ⟨h7,_⟩:=hc; cases h7)⟩;refine Xj (h:=q) hm hok rfl hops hd0 hSd r1 hb r2 λg' a' w' hS'=>?_;obtain ⟨⟨fl,e1,e2',e3,e4⟩,_⟩:=hE1;refine ⟨{ E.anewL g st w with X:=λc=>((E.anewL g st w).X c\/(hv h).ownBlock=ac c)\/(hv q).ownBlock=ac c },g',st3,_,⟨⟨fl,e1,e2',λv (h8:(none:Option Value)=ac v)=>(by cases h8),λh7=>absurd (by rw [e1]; exact List.mem_append_right _ h7) h0.one⟩,⟨htb.mono λc hc=>hc.elim (λh7=>h7) λhc=>(by obtain ⟨h7,_⟩:=hc; cases h7)⟩⟩,hKb,?_,hS'.repin cl (λ_ (hu:(none:Option Value)=ac _)=>by cases hu),hQ⟩;refine ⟨(hs.eraseIdx i).flatMap hB,⟨⟨hlen,λj q x _ h1 h2=>c1.2 j q x h1 h2⟩,rfl⟩,hn2.2.1,λc hc=>?_⟩;have hc':c∈hB h++(hB q++(hs.eraseIdx i).flatMap hB):=sa.2 (.inr (sa.2 (.inr hc)));obtain ⟨⟨d1,d2,d3,d4⟩,d5⟩:=b3 c (hmem c hc');refine ⟨⟨d1,λh7=>?_,d3,d4⟩,d5⟩;rcases h7 with (h7 | h7) | h7
 ·exact d2 h7
 ·exact hn1.2.2 c (pf.2 h7) c (sa.2 (.inr hc)) rfl
 ·exact hn2.2.2 c (pf.2 h7) c hc rfl
end
def XT(t1 t:T)(w:World)(Bs:IO):Prop:=(∀ b∈Bs,Wr w b/\b < w.heap.size)/\∀ F v,(∀ b∈Bs,F b)->Rd w F t v->Rd w F t1 v
theorem Yp{w:World}{F F':Nat->Prop}{t t1:T}(hFF:∀ b,F b->F' b)(hr:∀ v,Rd w F' t v->Rd w F' t1 v):∀ {pre post:List C} {vs:List Value} {bs:IO},SS w F (pre++.t t :: post) vs bs->SS w F' (pre++.t t1 :: post) vs bs
 | [],post,vs,bs,hc=>by
  cases hc with
  | cons c v b cs vs bs h1 hs =>
   have h1:=h1.mono (F':=F') (λ_ _=>rfl) hFF (λ_ _=>rfl)
   cases h1 with
   | t _ _ h2=>exact .cons _ _ _ _ _ _ (.t _ _ (hr _ h2)) (hs.mono (λ_ _=>rfl) hFF (λ_ _=>rfl))
 | p :: pre,post,vs,bs,hc=>by
  cases hc with
  | cons c v b cs vs bs h1 hs=>exact .cons _ _ _ _ _ _ (h1.mono (λ_ _=>rfl) hFF (λ_ _=>rfl)) (Yp hFF hr hs)
theorem qcM{P:Program}{f:FuncId}{args:List V}{pre post:List C}{outs:List (List C)}{t1:T}(h:FO P f args (λt:T=>.agg (pre++.t t :: post)) (λ_=>outs) (XT t1)):aB P f args (.agg (pre++.t t1 :: post)) outs:=by
 obtain ⟨hc,h⟩:=h;refine ⟨hc,λw F us bs hF hV hn hb htb=>(h w F us bs hF hV hn hb htb).mono λx w' ⟨q,v,F',bv,bo,Bs,h1,h2,h3,h4,h5,h6,h7,h8,h9,h10⟩=>?_⟩;have hnd:=List.nodup_append.1 h8;refine ⟨v,λb=>F' b\/b∈Bs,bv,bo,h1,h2,h3,λb hb=>.inl (h4 b hb),λb hb=>?_,?_,h7.mono λb hb=>.inl hb,hnd.1,λb hb=>⟨λh=>?_,(h9 b (sa.2 (.inl hb))).2⟩⟩
 ·rcases hb with hb | hb
  ·exact h5 b hb
  ·refine ⟨(h10.1 b hb).2,λhlt=>?_,.inr (h10.1 b hb).1⟩;rcases (h9 b (sa.2 (.inr hb))).2 with g | g
   ·omega
   ·exact .inr g
 ·cases h6 with
  | agg l vs bs hc=>exact .agg _ _ _ (Yp (λb hb=>.inl hb) (λv=>h10.2 _ v λb hb=>.inr hb) hc)
 ·rcases h with h | h
  ·exact (h9 b (sa.2 (.inl hb))).1 h
  ·exact hnd.2.2 b hb b h rfl
theorem XT.deep{e e2:TypeId}{q:CN}{xs:List gs}{w:World}{Bs:IO}(h:Y e e2 (.deep q xs) w Bs):XT (MD xs) (hT q) w Bs:=by
 refine ⟨λb hb=>⟨?_,h.lt b hb⟩,λF v hF hv=>by cases hv; exact h.rd hF⟩;obtain ⟨hs,g1,g2,rfl⟩:=h;rcases sa.1 hb with hb | hb
 ·exact Y1 g2 (pf.1 hb)
 ·obtain ⟨q1,hq,hb⟩:=List.mem_flatMap.1 hb;obtain ⟨i,hi⟩:=Sh.1 hq;have hl:=(ln.1 hi).1;exact Y1 (g1.2 i q1 _ hi (sX (by rw [<- g1.1]; exact hl))) (pf.1 hb)
theorem qhL{w:World}{F:Nat->Prop}{A B:Or}{v:Value}(hl:A.length=B.length)(hm:∀ (j:Nat) (t t1:T),A[j]?=ac t->B[j]?=ac t1->∀ u,Rd w F t u->Rd w F t1 u)(h:Rd w F (.sl 1 (A.map λt=>[t])) v):Rd w F (.sl 1 (B.map λt=>[t])) v:=by
 generalize hr:A.map (λt=>[t])=rows at h
 cases h with
 | sl0 sz a c ha =>
  have:B=[]:=zQZ (by rw [<- hl]; simpa using congrArg zZX hr);subst this;exact .sl0 _ _ _ ha
 | sl sz rows b off c u hc hF hs hx hr' =>
  subst hr;have:=Rd.sl (w:=w) (F:=F) 1 (B.map λt=>[t]) b off c u (by simpa [<- hl] using hc) hF (λi row hi=>by
    rw [zQV] at hi;obtain ⟨x,_,rfl⟩:=pa.1 hi;rfl)
   (λi row j x hi hj=>by
    rw [zQV] at hi;obtain ⟨t1,ht1,rfl⟩:=pa.1 hi;have hlt:i < A.length:=by rw [hl]; exact (ln.1 ht1).1
    cases j with
    | succ j=>simp at hj
    | zero=>exact hx i [A[i]] 0 A[i] (by simp [hlt]) rfl)
   (λi row j x hi hj=>by
    rw [zQV] at hi;obtain ⟨t1,ht1,rfl⟩:=pa.1 hi;have hlt:i < A.length:=by rw [hl]; exact (ln.1 ht1).1
    cases j with
    | succ j=>simp at hj
    | zero =>
     simp only [zQz,Option.some.injEq] at hj;subst hj;exact hm i A[i] t1 (sX hlt) ht1 _ (hr' i [A[i]] 0 A[i] (by simp [hlt]) rfl))
  simpa [hl] using this
theorem XT.hole{e e2:TypeId}{hs:List CN}{xs:List gs}{i:Nat}{y:gs}{w:World}{Bs:IO}(h:Y e e2 (.hole hs xs i) w Bs) :
  XT (MD (xs.set i y)) (.sl 1 (((hs.map hT).set i (.sl 1 (y.map (aJ .u8)))).map λt=>[t])) w Bs:=by
 refine ⟨λb hb=>⟨?_,h.lt b hb⟩,λF v hF hv=>?_⟩
 ·obtain ⟨⟨g1,g2⟩,rfl⟩:=h;obtain ⟨j,q,h3,h4,h5⟩:=OA.1 hb;have hl:=(ln.1 h4).1;exact Y1 (g2 j q _ h3 h4 (sX (by rw [<- g1]; exact hl))) (pf.1 h5)
 ·obtain ⟨⟨g1,g2⟩,rfl⟩:=h;have e1:MD (xs.set i y)=.sl 1 (((xs.map λx=>T.sl 1 (x.map (aJ .u8))).set i (.sl 1 (y.map (aJ .u8)))).map λt=>[t]):=by
   unfold MD;rw [List.map_set,List.map_set,zVY];rfl
  rw [e1];refine qhL (by simp [g1]) (λj t t1 h1 h2 u hu=>?_) hv
  by_cases hij:i=j
  ·subst hij;rw [zXy] at h1 h2;rw [if_pos rfl] at h1 h2
   split at h1
   ·split at h2
    ·cases h1
     cases h2
     exact hu
    ·cases h2
   ·cases h1
  ·rw [zZK hij] at h1 h2;rw [zQV] at h1 h2;obtain ⟨q,hq,rfl⟩:=pa.1 h1;obtain ⟨x,hx,rfl⟩:=pa.1 h2
   cases hu
   exact qcI (e:=e2) (f:=λn=>T.int .u8 n) (gv:=Value.int .u8) (g2 j q x (λh=>hij h.symm) hq hx) (λb hb=>hF b (OA.2 ⟨j,q,λh=>hij h.symm,hq,hb⟩)) λx _=>.int _ _
theorem tn{α:Type}{f:α->gs}{l:List α}{e e2:TypeId}{q:CN}{w:World}{Bs:IO}(h:Y e e2 (.deep q (l.map f)) w Bs):XT (.sl 1 (l.map λi=>[.sl 1 ((f i).map (aJ .u8))])) (hT q) w Bs:=by
 have:=XT.deep h;unfold MD at this;rw [zVY] at this;exact this
theorem qf4{α:Type}{f:α->gs}{l:List α}{y:α}{i:Nat}{e e2:TypeId}{hs:List CN}{w:World}{Bs:IO}(h:Y e e2 (.hole hs (l.map f) i) w Bs) :
  XT (.sl 1 ((l.set i y).map λi=>[.sl 1 ((f i).map (aJ .u8))])) (.sl 1 (((hs.map hT).set i (.sl 1 ((f y).map (aJ .u8)))).map λt=>[t])) w Bs:=by
 have:=XT.hole (y:=f y) h;unfold MD at this;rw [<- List.map_set,zVY] at this;exact this
theorem qdW{α:Type}{xs:List α}{hs:List CN}{i:Int}{y:α}{q:CN}(h:cM xs i=ac y)(hl:hs.length=xs.length)(hq:hs[i.toNat]?=ac q):(cM (hs.map hT) i).bind (λ_=>ac ())=ac ():=by
 obtain ⟨h1,h2⟩:=bL h;unfold cM;simp [h1,hq]
theorem AV{α:Type}{b:Bool}{x y r:α}(h:(bif b then x else y)=r):x=r\/y=r:=by
 cases b
 ·exact .inr h
 ·exact .inl h
theorem Rd.scF{w:World}{F F':Nat->Prop}{x:T}{v:Value}(hx:x.sc=gi)(h:Rd w F x v):Rd w F' x v:=by
 cases h with
 | int k n=>exact .int k n
 | bool b=>exact .bool b
 | str s=>exact .str s
 | nilf=>exact .nilf
 | hdr a n c=>exact .hdr a n c
 | sl0 sz a c ha=>cases hx
 | sl sz rows b off c u hc hF hs hx' hr=>cases hx
theorem FQ{P:Program}{f:FuncId}{args:List V}{e sz:Nat}{α:Type}{g:α->Or}{xs:List α}(h:aB P f args (.one (.ow e sz (xs.map g))) [])(hg:∀ x,(g x).all T.sc=gi):mx P f args (.one (.ow e sz (xs.map g))):=by
 obtain ⟨hc,h⟩:=h;refine ⟨hc,λw D vs hD hV htb=>(h w D vs [] hD hV List.nodup_nil (λb hb=>by cases hb) (htb.mono λb hb=>by cases hb)).mono λx w' ⟨v,F',bv,bo,h1,h2,h3,h4,h5,h6,h7,h8,h9⟩=>?_⟩;refine ⟨v,λ_=>False,bv,h1,h2,λb hb=>h3 b hb ig,λb hb=>hb.elim,?_,(List.nodup_append.1 h8).1,λb hb=>⟨λh=>h,((h9 b (sa.2 (.inl hb))).2).resolve_right ig⟩⟩
 cases h6 with
 | one c v bs hcv =>
  cases hcv with
  | ow e sz rows v inner ho hr =>
   refine .one _ _ _ (.ow _ _ _ _ inner ho ?_);obtain ⟨q1,q2,q3⟩:=hr;refine ⟨q1,q2,λi row j x hi hj=>?_⟩;obtain ⟨u,h10,h11⟩:=q3 i row j x hi hj;refine ⟨u,h10,h11.1,h11.2.scF ?_⟩;rw [zQV] at hi;obtain ⟨y,_,rfl⟩:=pa.1 hi;exact zm.1 (hg y) x (zQQ hj)
end Go.Tm
namespace Go.Tm.Pu
theorem t6{α ρ:Type}{fin:Unit->Option ρ}{body:α->Nat->Unit->(Unit->Option ρ)->Option ρ}{xs:List α}(hb:∀ x i k,xs[i]?=ac x->body x i () k=k ()) :
  ∀ (ys:List α) (i:Nat),ys=xs.drop i->bT fin body ys i ()=fin ():=by
 intro ys
 induction ys with
 | nil=>intro i _; rfl
 | cons y ys ih =>
  intro i h1;have hx:xs[i]?=ac y:=by have:=congrArg zZq h1; simpa [zXh] using this.symm
  have hys:ys=xs.drop (i+1):=by have:=congrArg zZz h1; simpa [zYK] using this
  simp only [bT];rw [hb y i _ hx];exact ih (i+1) hys
end Go.Tm.Pu
