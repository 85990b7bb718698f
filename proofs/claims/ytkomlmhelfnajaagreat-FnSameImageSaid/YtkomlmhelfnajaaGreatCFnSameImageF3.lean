/- The abstract machine tells the truth of the translated code. -/
import Derived.JoinedOf
import Derived.Shelf.RegionOpenPlain
import Derived.WalkKit
import Derived.Lib.Walk
import Derived.Lib.SliceRun
import Derived.Lib.JoinLaws
import Derived.Lib.Overlaps
import Derived.Lib.AppendZerosOnto
import Derived.Laws.Externs
import Derived.Test.YtkomlmhelfnajaaGreatCFnSameImageF2
set_option linter.unusedVariables false
set_option linter.unusedSimpArgs false
open Bool renaming and_eq_true->sk,false_eq_true->zQk
open List renaming append_assoc->zQX,append_nil->zWW,cons_append->zXy,drop_drop->zZy,getElem?_append_left->zQQ,getElem?_append_right->r0,getElem?_cons_zero->zQh,getElem?_drop->zQJ,getElem?_eq_getElem->sX,getElem?_map->zQz,getElem?_take->zQK,getElem?_take_of_lt->zZG,length_append->zQG,length_cons->zQw,length_map->zWw,length_nil->zWv,length_take->zQx,map_append->zXJ,map_cons->zWh,map_toArray->zZq,mem_map->zXg,mem_of_getElem?->zQY,mem_singleton->zQy,nil_append->zWH,take_of_length_le->zWx,take_take->zZw
open Nat renaming add_assoc->zZX,add_mul->zYz,add_zero->zXx,beq->zXX,eq_of_beq_eq_true->zWz,eq_zero_or_pos->zYY,le_of_ble_eq_true->zVH,le_refl->zWJ,lt_of_lt_of_le->zWV,min_eq_left->zWq,mul_le_mul_right->zQq,succ_mul->zXY,zero_add->zQg,zero_le->zYy
open List renaming getElem?_eq_some_iff->sr
open Option renaming map_eq_some_iff->zm
open List renaming mem_append->An
open Option renaming isSome_iff_exists->DQ
open List renaming all_eq_true->KB
open Array renaming getElem?_eq_some_iff->Wk
open List renaming mem_iff_getElem?->aac
namespace Go.Tm
open Go
theorem q7{α:Type}{xs:List α}{i:Nat}{y z:α}(h:xs[i]?=some y):(xs.set i z)[i]?=some z:=by
 have:i < xs.length:=(sr.1 h).1;simp [this]
def C.fix:C->C->C
 | .t (.sl s _),.nil=>.t (.sl s [])
 | .ow e s _,.nil=>.ow e s []
 | .t (.sl s _),.t (.sl 0 [])=>.t (.sl s [])
 | _,c=>c
theorem Sl:∀ t c:C,Qr c (C.fix t c):=λt c=>by
 unfold C.fix
 split
 ·exact .nilT _
 ·exact .nilO _ _
 ·exact .sz _ _
 ·exact .refl _
def Vd:List C->List C->List C
 | t :: ts,c :: cs=>t.fix c :: Vd ts cs
 | _,cs=>cs
theorem M3:∀ cs:List C,Bh Qr cs cs
 | []=>.nil
 | c :: cs=>.cons (.refl c) (M3 cs)
theorem M4:∀ ts cs:List C,Bh Qr cs (Vd ts cs)
 | t :: ts,c :: cs=>.cons (Sl t c) (M4 ts cs)
 | [],cs=>M3 cs
 | _ :: _,[]=>.nil
def YV:List (List C)->List (List C)->List (List C)
 | t :: ts,c :: cs=>Vd t c :: YV ts cs
 | _,cs=>cs
theorem PF:∀ cs:List (List C),Bh (Bh Qr) cs cs
 | []=>.nil
 | c :: cs=>.cons (M3 c) (PF cs)
theorem Ve:∀ ts cs:List (List C),Bh (Bh Qr) cs (YV ts cs)
 | t :: ts,c :: cs=>.cons (M4 t c) (Ve ts cs)
 | [],cs=>PF cs
 | _ :: _,[]=>.nil
mutual
def V.fix:V->V->V
 | .one t,.one c=>.one (t.fix c)
 | .agg ts,.agg cs=>.agg (Vd ts cs)
 | .tup ts,.tup vs=>.tup (zR ts vs)
 | _,v=>v
def zR:List V->List V->List V
 | t :: ts,v :: vs=>V.fix t v :: zR ts vs
 | _,vs=>vs
end
theorem PG:∀ vs:List V,DE vs vs
 | []=>.nil
 | v :: vs=>.cons (.refl v) (PG vs)
mutual
theorem Sm:∀ t v:V,TW v (V.fix t v)
 | .one t,.one c=>by unfold V.fix; exact .one (Sl t c)
 | .agg ts,.agg cs=>by unfold V.fix; exact .agg (M4 ts cs)
 | .tup ts,.tup vs=>by unfold V.fix; exact .tup (zS ts vs)
 | .one _,.agg _ | .one _,.tup _ | .one _,.ptr _ | .one _,.fptr _ | .one _,.clo ..=>by unfold V.fix; exact .refl _
 | .agg _,.one _ | .agg _,.tup _ | .agg _,.ptr _ | .agg _,.fptr _ | .agg _,.clo ..=>by unfold V.fix; exact .refl _
 | .tup _,.agg _ | .tup _,.one _ | .tup _,.ptr _ | .tup _,.fptr _ | .tup _,.clo ..=>by unfold V.fix; exact .refl _
 | .ptr _,v | .fptr _,v | .clo ..,v=>by unfold V.fix; exact .refl _
theorem zS:∀ ts vs:List V,DE vs (zR ts vs)
 | t :: ts,v :: vs=>by unfold zR; exact .cons (Sm t v) (zS ts vs)
 | [],vs=>by unfold zR; exact PG vs
 | _ :: _,[]=>by unfold zR; exact .nil
end
def Cv(P:Program)(ρ:Nat->fy)(ops:Array Oper)(st:St):List Oper->Option (Nat×List A×Nat)
 | o :: _=>match iU ops st o with
  | some true=>if eV ρ st o then match o.op,o.dst with
   | .call { callee:=.value xf,args,.. },some d=>match st.eval xf,ef (args.toList.map st.eval) with
    | some (.clo f caps),some az=>some (f,az++caps,d)
    | _,_=>none
   | _,_=>none
   else none
  | _=>none
 | []=>none
def V.pl:V->Bool
 | .one (.t x)=>x.sc
 | .agg l=>l.all λc=>match c with | .t x=>x.sc | _=>false
 | .tup l=>l.all λv=>match v with | .one (.t x)=>x.sc | _=>false
 | _=>false
theorem T4{v:V}(h:v.pl=true):v.plain:=by
 unfold V.pl at h
 split at h
 ·unfold V.plain; exact h
 ·unfold V.plain;intro c hc;have:=KB.1 h c hc
  cases c with
  | t x=>exact this
  | _=>cases this
 ·rename_i l;unfold V.plain
  induction l with
  | nil=>unfold vZ; trivial
  | cons v l ih =>
   simp only [List.all_cons,sk] at h;unfold vZ;refine ⟨?_,ih h.2⟩;have h1:=h.1
   split at h1
   ·unfold V.plain; exact h1
   ·cases h1
 ·cases h
section
variable {P:Program} {n:Nat} {ls:List Nat} {Q:Exit->St->Prop} {N:St->Prop} {st:St} {p:Nat->Bool} {ρ:Nat->fy} {ops:Array Oper} {l:List Oper} {K:St->Prop} {y:Code}
abbrev sU(P:Program)(ρ:Nat->fy)(ops:Array Oper)(k:Nat)(l:List Oper)(st:St):St:=St.or (re P ρ ops (l.take k) st)
theorem AT{c:Nat×List A×Nat}(h:Cv P ρ ops st l=some c):∃ o l' xf args ts az caps,l=o :: l'/\iU ops st o=some true/\eV ρ st o=true/\o.op=.call { callee:=.value xf,args,argTypes:=ts }/\o.dst=some c.2.2/\st.eval xf=some (.clo c.1 caps)/\ef (args.toList.map st.eval)=some az/\c.2.1=az++caps:=by
 unfold Cv at h
 split at h <;> try (cases h; done)
 rename_i o l'
 split at h <;> try (cases h; done)
 split at h <;> try (cases h; done)
 split at h <;> try (cases h; done)
 split at h <;> try (cases h; done)
 rename_i _ hg hf _ _ xf args ts d hop hd _ _ f caps az hxf has
 cases h
 exact ⟨o,l',xf,args,ts,az,caps,rfl,hg,hf,hop,hd,hxf,has,rfl⟩
abbrev YW(m:Bool)(p:Nat->Bool)(d:Nat)(az:List A)(res:V)(outs:List (List C))(st:St):St :=
 (IH ((fa d (fL az) outs (V.toA d (iP d 0) res MA.ret)).run (IH ((kf m p az MA.ret).run st)))).put (some d) (ZJ ((fa d (fL az) outs (V.toA d (iP d 0) res MA.ret)).run (IH ((kf m p az MA.ret).run st))))
abbrev cbS(d:Nat)(res:V)(st:St):St:=(IH ((V.toA d (iP d 0) res MA.ret).run st)).put (some d) (ZJ ((V.toA d (iP d 0) res MA.ret).run st))
theorem cZ{α β:Type}{r:β}{x:Option α}{f:α->Option β}{fid:Nat}{vs:List V}{res:α->V}{outs:α->List (List C)}(m:Bool)(k d:Nat)(az:List A)(h:x.bind f=some r)(hc:∀ {y},x=some y->av P fid vs (res y) (outs y))
  (hk:∀ y,f y=some r->ab P p ρ ops (l.drop (k+1)) (YW m p d az (res y) (outs y) (sU P ρ ops k l st)) K)
  (h1:(re P ρ ops (l.take k) st).isSome=true:=by kernel_rfl) (h2:Cv P ρ ops (sU P ρ ops k l st) (l.drop k)=some (fid,az,d):=by kernel_rfl)
  (h3:((kf m p az MA.ret).run (sU P ρ ops k l st)).map (λq=>zR vs q.1)=some vs:=by kernel_rfl)
  (h4:∀ y,((fa d (fL az) (outs y) (V.toA d (iP d 0) (res y) MA.ret)).run (IH ((kf m p az MA.ret).run (sU P ρ ops k l st)))).isSome=true:=by intro y; kernel_rfl):ab P p ρ ops l st K:=by
 refine al k h1 ?_
 cases x with
 | none=>cases h
 | some y =>
  have h5:=hc (y:=y) rfl;have h6:=hk y h;have h7:=h4 y
  clear hc hk h4
  simp only [sU,YW] at h2 h3 h6 h7;generalize St.or (re P ρ ops (l.take k) st)=st1 at *;obtain ⟨o,l',xf,args,ts,az',caps,e1,e2,e3,e4,e5,e6,e7,e8⟩:=AT h2;simp only at e5 e6 e8;subst e8;have e9:l.drop (k+1)=l':=by rw [<- zZy,e1]; rfl
  rw [e9] at h6;rw [e1];obtain ⟨⟨vs0,st2⟩,h8,h9⟩:=zm.1 h3;have h10:DE vs0 vs:=by rw [<- h9]; exact zS vs vs0
  rw [h8] at h6 h7;simp only [IH,ZJ] at h6 h7
  cases h11:(fa d (fL (az'++caps)) (outs y) (V.toA d (iP d 0) (res y) MA.ret)).run st2 with
  | none=>rw [h11] at h7; cases h7
  | some q =>
   obtain ⟨z,st3⟩:=q;rw [h11] at h6;exact ab.call e2 e3 e4 e5 e6 e7 h8 (h5.le h10) h11 (by rw [e5]; exact h6)
theorem dQ{α β:Type}{r:β}{x:Option α}{f:α->Option β}{fid:Nat}{vs:List V}{res:α->V}(k d:Nat)(az:List A)(h:x.bind f=some r)(hc:∀ {y},x=some y->av P fid vs (res y) [])
  (hk:∀ y,f y=some r->ab P p ρ ops (l.drop (k+1)) (cbS d (res y) (sU P ρ ops k l st)) K)
  (h1:(re P ρ ops (l.take k) st).isSome=true:=by kernel_rfl) (h2:Cv P ρ ops (sU P ρ ops k l st) (l.drop k)=some (fid,az,d):=by kernel_rfl)
  (h3:((eZ az MA.ret).run (sU P ρ ops k l st)).map (λq=>zR vs q.1)=some vs:=by kernel_rfl)
  (h0:∀ y,(res y).pl=true:=by intro y; kernel_rfl)
  (h4:∀ y,((V.toA d (iP d 0) (res y) MA.ret).run (sU P ρ ops k l st)).isSome=true:=by intro y; kernel_rfl):ab P p ρ ops l st K:=by
 refine al k h1 ?_
 cases x with
 | none=>cases h
 | some y =>
  have h5:=hc (y:=y) rfl;have h6:=hk y h;have h7:=h4 y;have h0:=T4 (h0 y)
  clear hc hk h4
  simp only [sU,cbS] at h2 h3 h6 h7;generalize St.or (re P ρ ops (l.take k) st)=st1 at *;obtain ⟨o,l',xf,args,ts,az',caps,e1,e2,e3,e4,e5,e6,e7,e8⟩:=AT h2;simp only at e5 e6 e8;subst e8;have e9:l.drop (k+1)=l':=by rw [<- zZy,e1]; rfl
  rw [e9] at h6;rw [e1];obtain ⟨⟨vs0,st2⟩,h8,h9⟩:=zm.1 h3;have h10:DE vs0 vs:=by rw [<- h9]; exact zS vs vs0
  have hst:st2=st1:=by
   have:=(pz (eZ (az'++caps) MA.ret) (sD (D:=⟨λ_=>True,λ_=>False,λ_=>True,λ_=>False⟩) (rG (λ_=>trivial) _) (λ_=>trivial)) h8).1;exact St.ext this.tm (funext λs=>this.ob s (λh=>h)) (funext λs=>this.rw s (λh=>h))
  subst hst
  cases h11:(V.toA d (iP d 0) (res y) MA.ret).run st2 with
  | none=>rw [h11] at h7; cases h7
  | some q =>
   obtain ⟨z,st3⟩:=q;rw [h11] at h6;simp only [IH,ZJ] at h6;exact ab.callB e2 e3 e4 e5 e6 e7 h8 (h5.le h10) h0 h11 (by rw [e5]; exact h6)
theorem aE{id:Nat}(h:ab P (T1 []) (qw []) ops ops.toList st (i7 (Wp P n ls y Q) Q .normal))(hd:ops.toList.all (xT n)=true:=by kernel_rfl):Wp P n ls (.seq (.region id ops false) y) Q st :=
 Jh [] [] h hd
theorem pS{α β:Type}{id:Nat}{r:β}{x:Option α}{f:α->Option β}{fid:Nat}{vs:List V}{res:α->V}{outs:α->List (List C)}(m:Bool)(k d:Nat)(az:List A)(h:x.bind f=some r)(hc:∀ {y},x=some y->av P fid vs (res y) (outs y))
  (hk:∀ z,f z=some r->Wp P n ls y Q (St.or (re P (qw []) ops (ops.toList.drop (k+1)) (YW m (T1 []) d az (res z) (outs z) (sU P (qw []) ops k ops.toList st)))))
  (h1:(re P (qw []) ops (ops.toList.take k) st).isSome=true:=by kernel_rfl) (h2:Cv P (qw []) ops (sU P (qw []) ops k ops.toList st) (ops.toList.drop k)=some (fid,az,d):=by kernel_rfl)
  (h3:((kf m (T1 []) az MA.ret).run (sU P (qw []) ops k ops.toList st)).map (λq=>zR vs q.1)=some vs:=by kernel_rfl)
  (h4:∀ z,((fa d (fL az) (outs z) (V.toA d (iP d 0) (res z) MA.ret)).run (IH ((kf m (T1 []) az MA.ret).run (sU P (qw []) ops k ops.toList st)))).isSome=true:=by intro z; kernel_rfl)
  (h5:∀ z,(re P (qw []) ops (ops.toList.drop (k+1)) (YW m (T1 []) d az (res z) (outs z) (sU P (qw []) ops k ops.toList st))).isSome=true:=by intro z; kernel_rfl)
  (hd:ops.toList.all (xT n)=true:=by kernel_rfl):Wp P n ls (.seq (.region id ops false) y) Q st :=
 Jh [] [] (cZ m k d az h hc (λz hz=>ae (hk z hz) (h5 z)) h1 h2 h3 h4) hd
def C.az:C->A
 | .t x=>.t x
 | _=>.nil
def V.az:V->A
 | .one c=>c.az
 | .agg cs=>.agg (cs.map C.az)
 | _=>.nil
def Wc(pre:List A)(vs:List V):List A:=pre++(vs.drop pre.length).map V.az
theorem aj{α β:Type}{r:β}{x:Option α}{f:α->Option β}{fid:Nat}{vs:List V}{res:α->V}{outs:α->List (List C)}(m:Bool)(k d:Nat)(pre:List A)(h:x.bind f=some r)(hc:∀ {y},x=some y->av P fid vs (res y) (outs y))
  (hk:∀ y,f y=some r->ab P p ρ ops (l.drop (k+1)) (YW m p d (Wc pre vs) (res y) (outs y) (sU P ρ ops k l st)) K)
  (h1:(re P ρ ops (l.take k) st).isSome=true:=by kernel_rfl) (h2:Cv P ρ ops (sU P ρ ops k l st) (l.drop k)=some (fid,Wc pre vs,d):=by kernel_rfl)
  (h3:((kf m p (Wc pre vs) MA.ret).run (sU P ρ ops k l st)).map (λq=>zR vs q.1)=some vs:=by kernel_rfl)
  (h4:∀ y,((fa d (fL (Wc pre vs)) (outs y) (V.toA d (iP d 0) (res y) MA.ret)).run (IH ((kf m p (Wc pre vs) MA.ret).run (sU P ρ ops k l st)))).isSome=true:=by intro y; kernel_rfl):ab P p ρ ops l st K :=
 cZ m k d (Wc pre vs) h hc hk h1 h2 h3 h4
theorem bi{α β:Type}{id:Nat}{r:β}{x:Option α}{f:α->Option β}{fid:Nat}{vs:List V}{res:α->V}{outs:α->List (List C)}(m:Bool)(k d:Nat)(pre:List A)(h:x.bind f=some r)(hc:∀ {y},x=some y->av P fid vs (res y) (outs y))
  (hk:∀ z,f z=some r->Wp P n ls y Q (St.or (re P (qw []) ops (ops.toList.drop (k+1)) (YW m (T1 []) d (Wc pre vs) (res z) (outs z) (sU P (qw []) ops k ops.toList st)))))
  (h1:(re P (qw []) ops (ops.toList.take k) st).isSome=true:=by kernel_rfl) (h2:Cv P (qw []) ops (sU P (qw []) ops k ops.toList st) (ops.toList.drop k)=some (fid,Wc pre vs,d):=by kernel_rfl)
  (h3:((kf m (T1 []) (Wc pre vs) MA.ret).run (sU P (qw []) ops k ops.toList st)).map (λq=>zR vs q.1)=some vs:=by kernel_rfl)
  (h4:∀ z,((fa d (fL (Wc pre vs)) (outs z) (V.toA d (iP d 0) (res z) MA.ret)).run (IH ((kf m (T1 []) (Wc pre vs) MA.ret).run (sU P (qw []) ops k ops.toList st)))).isSome=true:=by intro z; kernel_rfl)
  (h5:∀ z,(re P (qw []) ops (ops.toList.drop (k+1)) (YW m (T1 []) d (Wc pre vs) (res z) (outs z) (sU P (qw []) ops k ops.toList st))).isSome=true:=by intro z; kernel_rfl)
  (hd:ops.toList.all (xT n)=true:=by kernel_rfl):Wp P n ls (.seq (.region id ops false) y) Q st :=
 pS m k d (Wc pre vs) h hc hk h1 h2 h3 h4 h5 hd
theorem am{α:Type}(k d:Nat){b:Bool}{e1 e2 r:α}(h:(bif b then e1 else e2)=r)(ht:e1=r->ab P p ρ ops (l.drop k) ((sU P ρ ops k l st).put (some d) (.t (.bool true))) K)
  (hf:e2=r->ab P p ρ ops (l.drop k) ((sU P ρ ops k l st).put (some d) (.t (.bool false))) K) (h1:(re P ρ ops (l.take k) st).isSome=true:=by kernel_rfl) (h2:(sU P ρ ops k l st).tm d=.t (.bool b):=by kernel_rfl):ab P p ρ ops l st K:=by
 refine al k h1 ?_;rcases tf b with hc | hc
 ·exact ab.known d (v:=true) h2 hc (ht (Qs h hc))
 ·exact ab.known d (v:=false) h2 hc (hf (Qt h hc))
theorem YX{m:Bool}{fn:Func}{args:List V}{res:V}{outs:List (List C)}(h1:(yW P st fn.results.toList).isSome=true:=by kernel_rfl)
  (h2:((AP 0 args λos=>V3 m (TV ((yW P st fn.results.toList).getD [])) λv=>MA.ret (v,os)).run st).map (λq=>(V.fix res q.1.1,YV outs q.1.2))=some (res,outs):=by kernel_rfl):AQ P m fn args res outs .ret st:=by
 obtain ⟨l,hl⟩:=DQ.1 h1;rw [hl] at h2;obtain ⟨⟨⟨v,os⟩,st1⟩,h3,h4⟩:=zm.1 h2;simp only [Prod.mk.injEq] at h4;refine ⟨.inl rfl,l,st1,v,os,hl,h3,?_,?_⟩
 ·rw [<- h4.1]; exact Sm _ _
 ·rw [<- h4.2]; exact Ve _ _
theorem Kr{m:Bool}{fn:Func}{args:List V}{res:V}{outs:List (List C)}(h1:(yW P st fn.results.toList).isSome=true:=by kernel_rfl)
  (h2:((AP 0 args λos=>V3 m (TV ((yW P st fn.results.toList).getD [])) λv=>MA.ret (v,os)).run st).map (λq=>(V.fix res q.1.1,YV outs q.1.2))=some (res,outs):=by kernel_rfl):AQ P m fn args res outs .normal st :=
 ⟨.inr rfl,(YX (m:=m) (args:=args) h1 h2).2⟩
theorem lo{s:Sx}(mr:List (Nat×Nat))(hok:s.ok n ls [] mr=true:=by kernel_rfl)(ht:s.tm.map (λq=>st.tm q.1)=s.tm.map (λq=>q.2.ren (Dk []) (Dk mr)):=by kernel_rfl)
  (ho:s.ob.map (λq=>st.ob (Dk [] q.1))=s.ob.map (λq=>some (uG (Dk []) (Dk mr) q.2)):=by kernel_rfl) (hr:s.rw.map (λq=>st.rw (Dk mr q.1))=s.rw.map (λq=>some q.2):=by kernel_rfl):Le n ls st s.st:=Le.of hok ht ho hr
theorem dv{f:FuncId}{c:Code}{args:List V}{res:V}{outs:List (List C)}(fn:Func)(m:Bool)
  (h:Wp P fn.ntmps (jO 0 args) c (AQ P m fn args res outs) (eC ((((tO 0 args MA.ret).run ez).map Prod.fst).getD []) (IH ((tO 0 args MA.ret).run ez))))
  (hb:fn.body=some c:=by rfl) (hf:P.funcs[f]?=some fn:=by kernel_rfl) (hnm:(fn.name == "runtime.NumGoroutine")=false:=by kernel_rfl) (hle:Nat.ble ((((tO 0 args MA.ret).run ez).map Prod.fst).getD []).length fn.ntmps=true:=by kernel_rfl) (ht:sE fn.ntmps fn=true:=by kernel_rfl)
  (ha:((tO 0 args MA.ret).run ez).isSome=true:=by kernel_rfl) (hl:jH 0 args ((((tO 0 args MA.ret).run ez).map Prod.fst).getD [])=true:=by kernel_rfl):av P f args res outs:=by
 obtain ⟨⟨az,st0⟩,h1⟩:=DQ.1 ha;refine K6 (m:=m) az hf hb hnm (by simpa [h1] using hle) ht (by rw [h1]; rfl) (by simpa [h1] using hl) ?_
 simpa [h1] using h
end
section
variable {P:Program} {n:Nat} {ls:List Nat} {Q:Exit->St->Prop} {N:St->Prop} {st:St} {p:Nat->Bool} {ρ:Nat->fy} {ops:Array Oper} {l l':List Oper} {K:St->Prop} {y:Code} {o:Oper}
def Vf:Option A->Option Int
 | some (.t (.int _ i))=>some i
 | _=>none
theorem M5{a:Option A}{i:Int}(h:Vf a=some i):∃ k,a=some (.t (.int k i)):=by
 unfold Vf at h
 split at h
 ·rename_i k j; cases h; exact ⟨k,rfl⟩
 ·cases h
def Xq(st:St):Option A->Option (List (List T))
 | some (.t (.sl _ rows))=>some rows
 | some .nil=>some []
 | some (.own r)=>match st.rw r with
  | some (.live _ _ rows)=>some rows
  | some (.frz _ rows)=>some rows
  | _=>none
 | _=>none
theorem T5{a:Option A}{rows:List (List T)}(h:Xq st a=some rows):∃ y m,a=some y/\((y.rows λm rows=>MA.ret (m,rows)).run st).map Prod.fst=some (m,rows):=by
 unfold Xq at h
 split at h
 ·cases h; exact ⟨_,_,rfl,rfl⟩
 ·cases h; exact ⟨_,_,rfl,rfl⟩
 ·rename_i r
  split at h
  ·rename_i e sz rows hr; cases h; exact ⟨.own r,sz,rfl,by simp [A.rows,MA.run,hr]⟩
  ·rename_i sz rows hr; cases h; exact ⟨.own r,sz,rfl,by simp [A.rows,MA.run,hr]⟩
  ·cases h
 ·cases h
def T6(nn:Nat)(st:St):Option A->Option (List (List T))
 | some (.t (.sl m rows))=>bif zXX m nn then some rows else none
 | some .nil=>some []
 | some (.own r)=>match st.rw r with
  | some (.live _ m rows)=>bif zXX m nn then some rows else none
  | some (.frz m rows)=>bif zXX m nn then some rows else none
  | _=>none
 | _=>none
theorem Sn{nn:Nat}{a:Option A}{rows:List (List T)}(h:T6 nn st a=some rows):∃ y m,a=some y/\((y.rows λm rows=>MA.ret (m,rows)).run st).map Prod.fst=some (m,rows)/\(m=nn\/rows=[]):=by
 have key:∀ {m:Nat} {rs:List (List T)},(bif zXX m nn then some rs else none)=some rows->m=nn/\rs=rows:=λ{m rs} h=>by
  cases hm:zXX m nn with
  | true=>rw [hm] at h; cases h; exact ⟨zWz hm,rfl⟩
  | false=>rw [hm] at h; cases h
 unfold T6 at h
 split at h
 ·obtain ⟨rfl,rfl⟩:=key h; exact ⟨_,_,rfl,rfl,.inl rfl⟩
 ·cases h; exact ⟨_,0,rfl,rfl,.inr rfl⟩
 ·rename_i r
  split at h
  ·rename_i e m rs hr; obtain ⟨rfl,rfl⟩:=key h; exact ⟨.own r,m,rfl,by simp [A.rows,MA.run,hr],.inl rfl⟩
  ·rename_i m rs hr; obtain ⟨rfl,rfl⟩:=key h; exact ⟨.own r,m,rfl,by simp [A.rows,MA.run,hr],.inl rfl⟩
  ·cases h
 ·cases h
def PH:List Oper->Option Nat
 | o :: _=>o.dst
 | []=>none
theorem DH{k:Nat}(h:l.drop k=o :: l'):l.drop (k+1)=l'/\PH (l.drop k)=o.dst:=by
 have h1:=congrArg (List.drop 1) h;rw [zZy] at h1;exact ⟨h1,by rw [h]; rfl⟩
theorem bF{α β:Type}{r:β}{xs:List α}{i:Int}{g:α->Option β}(k e sz:Nat)(f:α->List T)(h:(eS xs i).bind g=some r){t:TypeId}{a b:Operand}
  (hk:∀ y,g y=some r->eS xs i=some y->ab P p ρ ops (l.drop (k+1)) ((sU P ρ ops k l st).put (PH (l.drop k)) (.fadr (f y))) K) (hl:l.drop k=o :: l':=by rfl) (h1:(re P ρ ops (l.take k) st).isSome=true:=by kernel_rfl)
  (ho:o.op=.indexAddr t a b:=by rfl) (hg:iU ops (sU P ρ ops k l st) o=some true:=by kernel_rfl) (hf:eV ρ (sU P ρ ops k l st) o=true:=by kernel_rfl) (ha:(sU P ρ ops k l st).eval a=some (.t (.sl sz (xs.map f))):=by kernel_rfl)
  (hb:Vf ((sU P ρ ops k l st).eval b)=some i:=by kernel_rfl) (hu:P.underlying t=some (.slice e):=by kernel_rfl) (hs:i6 P e=some sz:=by kernel_rfl):ab P p ρ ops l st K:=by
 obtain ⟨e1,e2⟩:=DH hl;simp only [e1,e2] at hk;refine al k h1 ?_;obtain ⟨y,h2,h3⟩:=aah h;obtain ⟨kk,hb⟩:=M5 hb;rw [hl];exact V4 f xs i ho hg hf ha hb hu hs h2 (hk y h3 h2)
theorem cn{α β:Type}{r:β}{xs:List α}{i:Int}{g:α->Option β}(k e sz rw e':Nat)(f:α->List T)(h:(eS xs i).bind g=some r){t:TypeId}{a b:Operand}
  (hk:∀ y,g y=some r->eS xs i=some y->ab P p ρ ops (l.drop (k+1)) ((sU P ρ ops k l st).put (PH (l.drop k)) (.elem rw sz i.toNat 0)) K) (hl:l.drop k=o :: l':=by rfl) (h1:(re P ρ ops (l.take k) st).isSome=true:=by kernel_rfl)
  (ho:o.op=.indexAddr t a b:=by rfl) (hg:iU ops (sU P ρ ops k l st) o=some true:=by kernel_rfl) (hf:eV ρ (sU P ρ ops k l st) o=true:=by kernel_rfl) (ha:(sU P ρ ops k l st).eval a=some (.own rw):=by kernel_rfl)
  (hr:(sU P ρ ops k l st).rw rw=some (.live e' sz (xs.map f)):=by kernel_rfl) (hb:Vf ((sU P ρ ops k l st).eval b)=some i:=by kernel_rfl) (hu:P.underlying t=some (.slice e):=by kernel_rfl) (hs:i6 P e=some sz:=by kernel_rfl):ab P p ρ ops l st K:=by
 obtain ⟨e1,e2⟩:=DH hl;simp only [e1,e2] at hk;refine al k h1 ?_;obtain ⟨y,h2,h3⟩:=aah h;obtain ⟨kk,hb⟩:=M5 hb;rw [hl];exact V5 f xs i rw ho hg hf ha hr hb hu hs h2 (hk y h3 h2)
theorem aI{α:Type}(k e:Nat)(f:α->List T)(xs:List α){t:TypeId}{x:Operand}{args:Array Operand}{ts:Array TypeId}(hk:ab P p ρ ops (l.drop (k+1)) ((sU P ρ ops k l st).put (PH (l.drop k)) (.t (.int .i64 xs.length))) K)(hl:l.drop k=o :: l':=by rfl)
  (h1:(re P ρ ops (l.take k) st).isSome=true:=by kernel_rfl) (ho:o.op=.call { callee:=.builtin .len,args,argTypes:=ts }:=by rfl) (hargs:args.toList=[x]:=by rfl) (hts:ts.toList=[t]:=by rfl) (hg:iU ops (sU P ρ ops k l st) o=some true:=by kernel_rfl)
  (hf:eV ρ (sU P ρ ops k l st) o=true:=by kernel_rfl) (hx:Xq (sU P ρ ops k l st) ((sU P ρ ops k l st).eval x)=some (xs.map f):=by kernel_rfl) (hu:P.underlying t=some (.slice e):=by kernel_rfl):ab P p ρ ops l st K:=by
 obtain ⟨e1,e2⟩:=DH hl;simp only [e1,e2] at hk;refine al k h1 ?_;obtain ⟨y,m,hx,hy⟩:=T5 hx;rw [hl];exact V7 f xs m ho hargs hts hg hf hx hy hu hk
theorem cK{α β:Type}{r:β}{xs ys:List α}{g:Unit->Option β}{by_:Nat}(k d e nn rw:Nat)(f:α->List T)(h:(fX (decide ((xs.length+ys.length)*by_<=140737488355328))).bind g=some r){t:TypeId}{ts:Array TypeId}{args:Array Operand}{a b:Operand}
  (hk:g ()=some r->ab P p ρ ops (l.drop (k+1)) (({ sU P ρ ops k l st with rw:=jr (jr (sU P ρ ops k l st).rw rw (some .gone)) (iP d 0) (some (.live e nn ((xs++ys).map f))) }:St).put (PH (l.drop k)) (.own (iP d 0))) K) (hl:l.drop k=o :: l':=by rfl) (h1:(re P ρ ops (l.take k) st).isSome=true:=by kernel_rfl)
  (ho:o.op=.call { callee:=.builtin .append,args,argTypes:=ts }:=by rfl) (hargs:args.toList=[a,b]:=by rfl) (hts:ts.toList=[t,t]:=by rfl) (hd:o.dst=some d:=by rfl) (hg:iU ops (sU P ρ ops k l st) o=some true:=by kernel_rfl) (hf:eV ρ (sU P ρ ops k l st) o=true:=by kernel_rfl)
  (ha:(sU P ρ ops k l st).eval a=some (.own rw):=by kernel_rfl) (hr:(sU P ρ ops k l st).rw rw=some (.live e nn (xs.map f)):=by kernel_rfl) (hy:T6 nn (sU P ρ ops k l st) ((sU P ρ ops k l st).eval b)=some (ys.map f):=by kernel_rfl)
  (hi:EO P t=some (e,nn,by_):=by kernel_rfl) (hne:zXX (iP d 0) rw=false:=by kernel_rfl) (hfree:(sU P ρ ops k l st).rw (iP d 0)=none:=by kernel_rfl):ab P p ρ ops l st K:=by
 obtain ⟨e1,e2⟩:=DH hl;simp only [e1,e2] at hk;refine al k h1 ?_;obtain ⟨_,h2,h3⟩:=aah h;obtain ⟨y,m,hb,hy,hm⟩:=Sn hy;rw [hl];exact uW f d m e nn by_ rw xs ys ho hargs hts hd hg hf ha hr hb hy hm hi (of_decide_eq_true (bD h2)) hne hfree (hk h3)
theorem eA{α:Type}{y:α}{xs:List α}{i:Nat}(k sz m rw off e':Nat)(gg:Bool)(f:α->List T)(h:xs[i]?=some y){t:TypeId}{a:Operand}(hk:ab P p ρ ops (l.drop (k+1)) ((sU P ρ ops k l st).put (PH (l.drop k)) ((F7 gg m ((f y).map A.t) off).getD .undef)) K)(hl:l.drop k=o :: l':=by rfl)(h1:(re P ρ ops (l.take k) st).isSome=true:=by kernel_rfl)
  (ho:o.op=.load t a:=by rfl) (hg:iU ops (sU P ρ ops k l st) o=some true:=by kernel_rfl) (hf:eV ρ (sU P ρ ops k l st) o=true:=by kernel_rfl)
  (ha:(sU P ρ ops k l st).eval a=some (.elem rw sz i off):=by kernel_rfl) (hr:(sU P ρ ops k l st).rw rw=some (.live e' sz (xs.map f)):=by kernel_rfl) (hgg:RH P t=some gg:=by kernel_rfl) (hm:i6 P t=some m:=by kernel_rfl) (hc:(F7 gg m ((f y).map A.t) off).isSome=true:=by kernel_rfl):ab P p ρ ops l st K:=by
 obtain ⟨e1,e2⟩:=DH hl;simp only [e1,e2] at hk;refine al k h1 ?_;obtain ⟨x,hx⟩:=DQ.1 hc;rw [hx] at hk;rw [hl];exact TZ f xs rw i off x ho hg hf ha hr hgg hm h hx hk
end
theorem PI{P:Program}{f:FuncId}{vs:List V}{o o':Nat}{outs:List (List C)}(hc:zXX o o'=true)(h:uE P f vs o outs):uE P f vs o' outs:=zWz hc ▸ h
abbrev V.i(n:Int):V:=.one (.t (.int .i64 n))
abbrev V.b(b:Bool):V:=.one (.t (.bool b))
abbrev fF(l:List T):V:=.agg (l.map .t)
def cw:List Nat->List T->List C
 | 0 :: es,x :: xs=>.t x :: cw es xs
 | (e+1) :: es,.sl sz rows :: xs=>.ow (e+1) sz rows :: cw es xs
 | _ :: es,x :: xs=>.t x :: cw es xs
 | [],xs=>xs.map .t
 | _ :: _,[]=>[]
def V.w(es:List Nat)(l:List T):V:=.agg (cw es l)
section
variable {P:Program} {st:St} {p:Nat->Bool} {ρ:Nat->fy} {ops:Array Oper} {l:List Oper} {K:St->Prop} {o:Oper}
theorem oY.le{f:Nat}{l l':List V}{res:V}(hl:DE l l')(h:oY P f l' res):oY P f l res:=⟨h.1,λw D vs hD hv ht=>h.2 w D vs hD (Jf hl hv) ht⟩
theorem Ks(d f:Nat)(caps aa:List A)(vs:List V)(res:V){xf:Operand}{args:Array Operand}{ts:Array TypeId}
  (ho:o.op=.call { callee:=.value xf,args,argTypes:=ts }) (hd:o.dst=some d) (hg:iU ops st o=some true) (hf:eV ρ st o=true) (hxf:st.eval xf=some (.clo f caps)) (has:ef (args.toList.map st.eval)=some aa)
  (hp:((eZ (aa++caps) MA.ret).run st).map (λq=>zR vs q.1)=some vs) (hc:oY P f vs res) (hr:((V.toA d (iP d 0) res MA.ret).run st).isSome=true)
  (hk:ab P p ρ ops l ((IH ((V.toA d (iP d 0) res MA.ret).run st)).put o.dst (ZJ ((V.toA d (iP d 0) res MA.ret).run st))) K):ab P p ρ ops (o :: l) st K:=by
 obtain ⟨⟨vs0,st1⟩,h1,h2⟩:=zm.1 hp;have hle:DE vs0 (zR vs vs0):=zS vs vs0;simp only at h2;rw [h2] at hle;exact aP d f caps aa vs0 res ho hd hg hf hxf has (by rw [h1]; rfl) (hc.le hle) hr hk
end
section
variable {P:Program} {n:Nat} {ls:List Nat} {Q:Exit->St->Prop} {st:St} {p:Nat->Bool} {ρ:Nat->fy} {ops:Array Oper} {l:List Oper} {K:St->Prop} {y:Code}
theorem U3.le{f:Nat}{v v' x x':List V}{res:V}{outs:List (List C)}(hv:DE v v')(hx:DE x x')(h:U3 P f v' x' res outs):U3 P f v x res outs :=
 ⟨h.1,λw F D vs us bs hF hD h1 h2 hn hf ht=>(h.2 w F D vs us bs hF hD (Jf hv h1) (Jf hx h2) hn hf ht).mono λe w' ⟨v,F',bv,bo,a1,a2,a3,a4,a5,a6,a7,a8⟩=>⟨v,F',bv,bo,a1,a2,a3,a4,a5,a6,Va a7 hv,a8⟩⟩
theorem obx{f:FuncId}{c:Code}{args xs:List V}{res:V}{outs:List (List C)}(fn:Func)(m:Bool)
  (h:Wp P fn.ntmps (jO 0 args) c (AQ P m fn args res outs) (eC (((((tO 0 args MA.ret).run ez).map Prod.fst).getD [])++xs.map V.toX) (IH ((tO 0 args MA.ret).run ez))))
  (hb:fn.body=some c:=by rfl) (hf:P.funcs[f]?=some fn:=by kernel_rfl) (hnm:(fn.name == "runtime.NumGoroutine")=false:=by kernel_rfl) (hle:Nat.ble (((((tO 0 args MA.ret).run ez).map Prod.fst).getD [])++xs.map V.toX).length fn.ntmps=true:=by kernel_rfl) (ht:sE fn.ntmps fn=true:=by kernel_rfl)
  (ha:((tO 0 args MA.ret).run ez).isSome=true:=by kernel_rfl) (hl:jH 0 args ((((tO 0 args MA.ret).run ez).map Prod.fst).getD [])=true:=by kernel_rfl):U3 P f args xs res outs:=by
 obtain ⟨⟨az,st0⟩,h1⟩:=DQ.1 ha;rw [h1] at h hle hl;exact Se hf hb hnm (zVH hle) ht h1 hl h
theorem Cw{α β:Type}{r:β}{x:Option α}{f:α->Option β}{fid:Nat}{vs us:List V}{res:α->V}{outs:α->List (List C)}(m:Bool)(k d:Nat)(aa xs:List A)(h:x.bind f=some r)(hc:∀ {y},x=some y->U3 P fid vs us (res y) (outs y))
  (hk:∀ y,f y=some r->ab P p ρ ops (l.drop (k+1)) (YW m p d aa (res y) (outs y) (sU P ρ ops k l st)) K)
  (h1:(re P ρ ops (l.take k) st).isSome=true:=by kernel_rfl) (h2:Cv P ρ ops (sU P ρ ops k l st) (l.drop k)=some (fid,aa++xs,d):=by kernel_rfl)
  (h3:((kf m p aa MA.ret).run (sU P ρ ops k l st)).map (λq=>zR vs q.1)=some vs:=by kernel_rfl)
  (h0:((eZ xs MA.ret).run (IH ((kf m p aa MA.ret).run (sU P ρ ops k l st)))).map (λq=>zR us q.1)=some us:=by kernel_rfl)
  (h4:∀ y,((fa d (fL aa) (outs y) (V.toA d (iP d 0) (res y) MA.ret)).run (IH ((kf m p aa MA.ret).run (sU P ρ ops k l st)))).isSome=true:=by intro y; kernel_rfl):ab P p ρ ops l st K:=by
 refine al k h1 ?_
 cases x with
 | none=>cases h
 | some y =>
  have h5:=hc (y:=y) rfl;have h6:=hk y h;have h7:=h4 y
  clear hc hk h4
  simp only [sU,YW] at h2 h3 h6 h7 h0;generalize St.or (re P ρ ops (l.take k) st)=st1 at *;obtain ⟨o,l',xf,args,ts,az',caps,e1,e2,e3,e4,e5,e6,e7,e8⟩:=AT h2;simp only at e5 e6 e8;have e9:l.drop (k+1)=l':=by rw [<- zZy,e1]; rfl
  rw [e9] at h6;rw [e1];obtain ⟨⟨vs0,st2⟩,h8,h9⟩:=zm.1 h3;have h10:DE vs0 vs:=by rw [<- h9]; exact zS vs vs0
  rw [h8] at h6 h7 h0;simp only [IH,ZJ] at h6 h7 h0;obtain ⟨⟨us0,st4⟩,h12,h13⟩:=zm.1 h0;have h14:DE us0 us:=by rw [<- h13]; exact zS us us0
  have hst:st4=st2:=by
   have:=(pz (eZ xs MA.ret) (sD (D:=⟨λ_=>True,λ_=>False,λ_=>True,λ_=>False⟩) (rG (λ_=>trivial) _) (λ_=>trivial)) h12).1;exact St.ext this.tm (funext λs=>this.ob s (λh=>h)) (funext λs=>this.rw s (λh=>h))
  subst hst
  cases h11:(fa d (fL aa) (outs y) (V.toA d (iP d 0) (res y) MA.ret)).run st4 with
  | none=>rw [h11] at h7; cases h7
  | some q =>
   obtain ⟨z,st3⟩:=q;rw [h11] at h6;exact ab.step (.run z st3 e2 e3 (.callX m d fid xf args ts az' caps aa xs vs0 us0 st4 (res y) (outs y) e4 e5 e6 e7 e8.symm h8 h12 (h5.le h10 h14) h11)) (by rw [e5]; exact h6)
end
section
variable {P:Program} {n:Nat} {ls:List Nat} {Q:Exit->St->Prop} {st:St} {p:Nat->Bool} {ρ:Nat->fy} {ops:Array Oper} {l:List Oper} {K:St->Prop} {y:Code} {o:Oper}
theorem Wd{α:Type}(f:α->List T)(xs:List α)(r:Nat)(i j:Int){t e e':TypeId}{x:Operand}{lo hi:Option Operand}{alo ahi:Option A}(ho:o.op=.slice t x lo hi none)(hg:iU ops st o=some true)(hf:eV ρ st o=true)(hx:st.eval x=some (.own r))
  (hlo:I5 st.eval lo=some alo) (hhi:I5 st.eval hi=some ahi) (hn:ahi.isNone=false) (hl:yr 0 alo=some i) (hh:yr xs.length ahi=some j) (hr:st.rw r=some (.live e' 1 (xs.map f))) (hu:P.underlying t=some (.slice e)) (hs:i6 P e=some 1) (hw:UZ ρ o.dst=true) (h:er i j xs.length=true)
  (hk:ab P p ρ ops l (st.put o.dst (.win r i.toNat (j - i).toNat)) K):ab P p ρ ops (o :: l) st K:=by
 have h':=Ct h;refine ab.pure (x:=.win r i.toNat (j - i).toNat) hg hf ?_ hk;simp only [qd,ho,hx,hlo,hhi,VI,hw,hn,Bool.true_or,zQk,Pl,hu,hl,hs,MA.run,hr,zWw,hh,h'.1,h'.2.1,h'.2.2,and_self,true_and,↓reduceIte]
theorem T7{α β:Type}(f:α->β){xs ys:List α}{lo m:Nat}(h:lo+m<=xs.length)(hm:ys.length<=m):(yX xs ys lo).map f=(xs.map f).take lo++ys.map f++(xs.map f).drop (lo+(ys.map f).length):=by
 unfold yX;have h1:ys.take (xs.length - lo)=ys:=zWx ak;have h2:min ys.length (xs.length - lo)=ys.length:=by omega
 rw [h1,h2,zXJ,zXJ,List.map_take,List.map_drop,zWw]
theorem T8{α:Type}(f:α->List T)(xs ys:List α)(r lo m k:Nat){t t' e e':TypeId}{a b:Operand}{y:A}{args:Array Operand}{ts:Array TypeId}(ho:o.op=.call { callee:=.builtin .copy,args,argTypes:=ts })(hargs:args.toList=[a,b])(hts:ts.toList=[t,t'])(hg:iU ops st o=some true)(hf:eV ρ st o=true)
  (ha:st.eval a=some (.win r lo m)) (hb:st.eval b=some y) (hy:((y.rows λm rows=>MA.ret (m,rows)).run st).map Prod.fst=some (k,ys.map f)) (hm:k=1\/ys.map f=[]) (hr:st.rw r=some (.live e' 1 (xs.map f))) (hu:P.underlying t=some (.slice e)) (hs:i6 P e=some 1) (h:lo+m<=xs.length) (hl:ys.length<=m)
  (hk:ab P p ρ ops l ((({ st with rw:=jr st.rw r (some (.live e' 1 ((yX xs ys lo).map f))) }:St)).put o.dst (.t (.int .i64 (ys.length:Nat)))) K):ab P p ρ ops (o :: l) st K:=by
 refine ab.op (x:=.t (.int .i64 (ys.length:Nat))) hg hf ?_ hk;simp only [qd,ho,hargs,ha,hb,hts,F8,Hu,hu,hs,↓reduceIte];rw [HJ hy];simp only [hm,zWw,hl,and_self,↓reduceIte,MA.run,hr,h,T7 f h hl]
theorem YY{fid e lo m:Nat}{vs:List V}(k d r:Nat)(ts:List T)(rows:List (List T))(az:List A)(hc:Kl P fid e ts rows vs lo m)
  (hk:ab P p ρ ops (l.drop (k+1)) ((sU P ρ ops k l st).put (some d) (.win r lo m)) K)
  (h1:(re P ρ ops (l.take k) st).isSome=true:=by kernel_rfl) (h2:Cv P ρ ops (sU P ρ ops k l st) (l.drop k)=some (fid,.agg (ts.map A.t++[.own r]) :: az,d):=by kernel_rfl)
  (h0:(match l.drop k with | o :: _=>(match o.op with | .call c=>(match c.callee with | .value xf=>(sU P ρ ops k l st).eval xf | _=>none) | _=>none) | []=>none)=some (.clo fid []):=by kernel_rfl)
  (h3:(sU P ρ ops k l st).rw r=some (.live e 1 rows):=by kernel_rfl) (h4:Fu az=some vs:=by kernel_rfl):ab P p ρ ops l st K:=by
 refine al k h1 ?_;simp only [sU] at h2 h0 h3 hk;generalize St.or (re P ρ ops (l.take k) st)=st1 at *;obtain ⟨o,l',xf,args,tys,az',caps,e1,e2,e3,e4,e5,e6,e7,e8⟩:=AT h2;simp only at e5 e6 e8;have e9:l.drop (k+1)=l':=by rw [<- zZy,e1]; rfl
 rw [e9] at hk;rw [e1] at h0;simp only [e4] at h0;rw [h0] at e6;have hcap:caps=[]:=by injection e6 with e6; injection e6 with _ e6; exact e6.symm
 subst hcap;rw [zWW] at e8;rw [e1];refine ab.step (.run (.win r lo m) st1 e2 e3 (.callW d fid r e lo m ts rows xf args tys az vs e4 e5 h0 (e7.trans (congrArg some e8.symm)) h3 h4 hc rfl rfl)) (by rw [e5]; exact hk)
theorem obw{f:FuncId}{c:Code}{e lo m:Nat}{ts:List T}{rows:List (List T)}{args:List V}(fn:Func)(as_:List A)
  (h:Wp P fn.ntmps [0] c (Z5 P fn lo m e rows) (eC (.agg (ts.map A.t++[.own PR]) :: as_) (Cr e 1 rows))) (hrs:∀ row∈rows,∀ x∈row,T.sc x=true)
  (hb:fn.body=some c:=by rfl) (hf:P.funcs[f]?=some fn:=by kernel_rfl) (hnm:(fn.name == "runtime.NumGoroutine")=false:=by kernel_rfl) (hle:Nat.ble (as_.length+1) fn.ntmps=true:=by kernel_rfl) (ht:sE fn.ntmps fn=true:=by kernel_rfl)
  (ha:Fu as_=some args:=by kernel_rfl):Kl P f e ts rows args lo m :=
 OG hf hb hnm (zVH hle) ht ha hrs h
theorem qbo{fn:Func}{lo m e:Nat}{rows:List (List T)}(h1:(yW P st fn.results.toList).map TV=some (.win PR lo m):=by kernel_rfl)(h2:st.rw PR=some (.live e 1 rows):=by kernel_rfl):Z5 P fn lo m e rows .ret st:=by
 obtain ⟨l,h3,h4⟩:=zm.1 h1;exact ⟨.inl rfl,⟨l,h3,h4⟩,h2⟩
end
section
variable {P:Program} {n:Nat} {ls:List Nat} {Q:Exit->St->Prop} {st:St} {x y:Code}
theorem Ff(R:St->Prop)(J:∀ s,R s->Wp P n ls y Q s)(h:Wp P n ls x (i7 R Q) st):Wp P n ls (.seq x y) Q st:=ap (h.mono λe s hq=>by
 cases e with
 | normal=>exact J s hq
 | _=>exact hq)
theorem Wp.L(R:Nat->St->Prop)(h0:∀ s,¬ R 0 s)(hs:∀ k s,R (k+1) s->Wp P n ls x (i7 (R k) Q) s){k:Nat}(h:R k st):Wp P n ls (.loop x) Q st:=by
 refine Wp.loop (k:=k) ?_
 induction k generalizing st with
 | zero=>exact absurd h (h0 st)
 | succ k ih =>
  refine (hs k st h).mono λe s hq=>?_
  cases e with
  | normal=>exact ih hq
  | _=>exact hq
end
def Qx(P:Program):Nat->List FuncId->List FuncId->Nat->List FuncId×List FuncId×Nat
 | 0,todo,seen,m=>(todo,seen,m)
 | n+1,[],seen,m=>([],seen,m)
 | n+1,f :: todo,seen,m=>if m.testBit f then Qx P n todo seen m else Qx P n ((P.funcs[f]?).elim [] P.leadsTo++todo) (f :: seen) (m ||| 2 ^ f)
def okB(seen:List FuncId)(m:Nat):Prop:=∀ f:Nat,seen.contains f=m.testBit f
theorem YZ{seen:List FuncId}{m:Nat}(h:okB seen m)(f:Nat):okB (f :: seen) (m ||| 2 ^ f):=λg=>by
 rw [List.contains_cons,h g,Nat.testBit_or,Nat.testBit_two_pow,Bool.or_comm]
 congr 1
 by_cases hg:g=f
 ·simp [hg]
 ·have:¬ f=g:=λh=>hg h.symm;simp [hg,this]
theorem M6(P:Program):∀ (a b:Nat) (todo seen:List FuncId) (m:Nat),okB seen m->P.closureVia (a+b) todo seen=P.closureVia b (Qx P a todo seen m).1 (Qx P a todo seen m).2.1
 | 0,b,todo,seen,m,h=>by rw [zQg]; rfl
 | a+1,b,[],seen,m,h=>by
  rw [show a+1+b=(a+b)+1 by omega];show seen.reverse=P.closureVia b [] seen
  cases b <;> rfl
 | a+1,b,f :: todo,seen,m,h=>by
  rw [show a+1+b=(a+b)+1 by omega];rw [show P.closureVia ((a+b)+1) (f :: todo) seen=if seen.contains f then P.closureVia (a+b) todo seen else P.closureVia (a+b) ((P.funcs[f]?).elim [] P.leadsTo++todo) (f :: seen) from rfl,
   show Qx P (a+1) (f :: todo) seen m=if m.testBit f then Qx P a todo seen m else Qx P a ((P.funcs[f]?).elim [] P.leadsTo++todo) (f :: seen) (m ||| 2 ^ f) from rfl,h f]
  cases m.testBit f with
  | true=>exact M6 P a b todo seen m h
  | false=>exact M6 P a b _ _ _ (YZ h f)
def PJ(P:Program):Nat:=1+(P.funcs.toList.map λg=>(P.leadsTo g).length+1).sum
theorem T9{P:Program}{f:FuncId}{a m:Nat}{L:List FuncId}(h:Qx P a [f] [] 0=([],L.reverse,m))(hF:Nat.ble a (PJ P)=true):P.closure f=L:=by
 have hle:=zVH hF;unfold Program.closure;show P.closureVia (PJ P) [f] []=L;rw [show PJ P=a+(PJ P - a) by omega,M6 P a _ _ _ 0 (λg=>by simp),h]
 cases PJ P - a <;> simp [Program.closureVia]
theorem Ua{P:Program}{f:FuncId}{L:List FuncId}{l:List String}(h:P.closure f=L)(h2:(L.filterMap λg=>(P.funcs[g]?).bind λfn=>if fn.ours || fn.body.isNone || fn.name == "runtime.NumGoroutine" then some fn.name else none)=l):P.inPlace f=l:=by
 unfold Program.inPlace; rw [h,h2]
theorem OH{P:Program}{f:FuncId}{L:List FuncId}{b:Bool}(h:P.closure f=L)(h2:(L.any λg=>(P.funcs[g]?).any λfn=>match fn.body with | some c=>c.unfollowed | none=>entryCalls fn)=b):P.unfollowed f=b:=by
 unfold Program.unfollowed; rw [h]; exact h2
theorem So{P:Program}{f:FuncId}(h:P.unfollowed f=true):P.recurses f=true:=by
 unfold Program.recurses; rw [h]; rfl
theorem Qy{P:Program}{f:FuncId}{L:List FuncId}{l:List String}(h:P.closure f=L)(h2:((((L.flatMap λg=>((P.funcs[g]?).bind (·.body)).elim [] Code.globalsNamed).eraseDups).filterMap (λg=>(P.globals[g]?).map (·.name)) ++
  L.filterMap λg=>(P.funcs[g]?).bind λfn=>if fn.body.isNone then entryReads.lookup fn.name else none).eraseDups)=l):P.varsNamed f=l:=by
 unfold Program.varsNamed; rw [h,h2]
end Go.Tm
namespace Go.Tm
open Go.RowKit
theorem xm{P:Program}(w:World)(dT sT ty elem:TypeId)(g o dLen dCap sz:Nat)(a:Addr)(sLen sCap:Nat)(cur:Array Value)(t:TypeId)(cs:List Value)
  (hu:P.underlying dT=some (.slice elem)) (hs:(P.info? elem).map (·.size)=some sz)
  (hg:w.heap[g]?=some (.cells cur t (0,0))) (hn:cs.length=Nat.min sLen dLen*sz)
  (hsrc:∀ j v,cs[j]?=some v->w.cell? (a.add j)=some v) (hfit:o+cs.length<=cur.size) (h1:∀ v∈cs,v.oneCell'=true) :
  (Builtin.copy_ #[dT,sT] ty #[.slice (some ⟨g,o,none⟩) dLen dCap,.slice (some a) sLen sCap]).run P w =
   .ok (goInt (Nat.min sLen dLen)) (w.setRow g (cur.toList.take o++cs++cur.toList.drop (o+cs.length)).toArray):=by
 have hl:=run_loadCells_list (P:=P) w a cs hsrc;have hst:=run_storeCells_at P g o t cs 0 cur w hg (by simpa using hfit) h1
 cases hq:P.info? elem with
 | none=>simp [hq] at hs
 | some i =>
  have hi:i.size=sz:=by simpa [hq] using hs
  simp [Builtin.copy_,run_underlying hu,Builtin.lenOf,Builtin.firstCells,sizeOf,typeInfo,hq,hi,<- hn,hl,hst]
end Go.Tm
namespace Go.Tm
open Go.RowKit Go.Lib Go.Proofs
section
variable {P:Program}
theorem HN(w:World){ops:Array Oper}{rest:List Oper}{o:Oper}{a:Act}{Q:Exit->Act->World->Prop}(hgd:o.guard=none)(d s:Operand)(t t':TypeId)
  (ho:o.op=.call { callee:=.builtin .copy,args:=#[d,s],argTypes:=#[t,t'] }) (v u:Value) (hd:a.eval d=v) (hs:a.eval s=u) {v':Value} {w':World}
  (hr:(Builtin.copy_ #[t,t'] o.type #[v,u]).run P w=.ok v' w') (h:wpList P ops Q rest (a.put o.dst v') w'):wpList P ops Q (o :: rest) a w :=
 wpList_plain hgd λ_ hK=>by
  unfold Oper.wp execOp;simp only [ho,resolve,invoke,builtin,Sem.run_bind,Sem.run_pure,Result.andThen_ok,zZq,zWh,List.map_nil,hd,hs,hr];exact hK _ _ h
theorem M7{ops:Array Oper}{o:Oper}{a:Act}{w:World}{K:Act->World->Prop}{Q:Exit->Act->World->Prop}{E:Prop}
  (hg:o.guard=none) (d x:Operand) (dT sT:TypeId) (hop:o.op=Op.call { callee:=Callee.builtin Builtin.copy,args:=#[d,x],argTypes:=#[dT,sT] })
  (v u:Value) (hd:a.eval d=v) (hx:a.eval x=u) {v':Value} {w':World} (hr:(Builtin.copy_ #[dT,sT] o.type #[v,u]).run P w=.ok v' w') (hK:K (a.put o.dst v') w') :
  if Region.wanted o (yielded ops a.tmps)=true then Oper.wp P o a w K Q else E:=by
 have hw:Region.wanted o (yielded ops a.tmps)=true:=by simp [Region.wanted,hg]
 rw [if_pos hw];unfold Oper.wp;simp [execOp,hop,resolve,invoke,builtin,hd,hx,hr,Result.andThen];exact hK
structure Hd (p:Prop):Prop where
 out:p
structure Sp (P:Program) (f tS e tI tB fo sz bytes:Nat) (fn:Func) (z:Value):Prop where
 mixed:P.follows .mixedOrders=true
 hf:P.funcs[f]?=some fn
 ov:∀ vs w,(callFunc fo vs).run P w=((Extern.SlicesOverlaps.overlaps #[tS,tS] #[tB] vs).run P w).andThen λv w'=>.ok (.value v) w'
 t3:P.underlying tI=some (.int .i64)
 t4:P.underlying tB=some .bool
 t5:P.underlying tS=some (.slice e)
 i5:(P.info? e).map (λi=>(i.size,i.bytes))=some (sz,bytes)
 hz:(P.info? e).bind (·.zero)=some z
 zc:z.cells.size=sz
 pos:0 < sz
 bpos:0 < bytes
def Qz(w:World)(b n i e sz:Nat)(cur:Array Value)(vs:List Value)(x:Ending)(w':World):Prop :=
 ∃ b' c' cur',x=.returned (.slice (some ⟨b',0,none⟩) (n+1) c')/\rc w w'/\(∀ k,k < w.heap.size->k≠b->w'.heap[k]?=w.heap[k]?)/\w'.heap[b']?=some (.cells cur' e (0,0))/\cur'.size=c'*sz/\n+1<=c'/\c'<=maxLen /\
  cur'.toList.take ((n+1)*sz)=cur.toList.take (i*sz)++vs++(cur.toList.drop (i*sz)).take ((n - i)*sz)/\(b'=b\/w.heap.size<=b')
structure We (w:World) (b n c i vb e sz bytes:Nat) (cur arr2:Array Value) (vs:List Value):Prop where
 hi:i < n
 hnc:n<=c
 hc:c<=maxLen
 big:(n+1)*bytes<=140737488355328
 hvb:vb≠b
 hcur:w.heap[b]?=some (.cells cur e (0,0))
 hsz:cur.size=c*sz
 harr:w.heap[vb]?=some (.cells arr2 e (0,0))
 vl:vs.length=sz
 hvs:∀ (j:Nat) (v:Value),vs[j]?=some v->arr2[j]?=some v
 h1c:∀ (j:Nat) (v:Value),j < n*sz->cur[j]?=some v->v.oneCell'=true
 h1v:∀ v∈vs,v.oneCell'=true
def Xr(P:Program)(f e sz bytes:Nat):Prop:=∀ (w:World) (b n c i vb vc:Nat) (cur arr2:Array Value) (vs:List Value),We w b n c i vb e sz bytes cur arr2 vs ->
 Calls P f #[.slice (some ⟨b,0,none⟩) n c,.int .i64 i,.slice (some ⟨vb,0,none⟩) 1 vc] w (Qz w b n i e sz cur vs)
theorem Wf(A:Array Value)(o:Nat)(cs:List Value)(h:o+cs.length<=A.size):(A.toList.take o++cs++A.toList.drop (o+cs.length)).toArray.size=A.size:=by simp; omega
theorem Sq{α:Type}{c:Bool}{x r:α}(h:(bif c then some x else none)=some r):c=true/\some x=some r:=by
 cases c with
 | true=>exact ⟨rfl,h⟩
 | false=>cases h
theorem BL{α:Type}{a b:List α}{k:Nat}(h:a.length=k):(a++b).take k=a:=List.take_left' h
theorem Xs{α:Type}{a b:List α}{k:Nat}(h:a.length=k):(a++b).drop k=b:=List.drop_left' h
variable {f tS e tI tB fo sz bytes:Nat} {fn:Func} {z:Value} {w:World} {b n c i vb vc:Nat} {cur arr2:Array Value} {vs:List Value}
theorem Sp.size(L:Sp P f tS e tI tB fo sz bytes fn z):∃ i0,P.info? e=some i0/\i0.size=sz/\i0.bytes=bytes/\i0.zero=some z:=by
 have h:=L.i5;have h2:=L.hz
 cases hq:P.info? e with
 | none=>simp [hq] at h
 | some x=>simp [hq] at h h2; exact ⟨x,rfl,h.1,h.2,h2⟩
theorem We.cs(H:We w b n c i vb e sz bytes cur arr2 vs):((cur.toList.drop (i*sz)).take ((n - i)*sz)).length=(n - i)*sz/\i*sz+(n - i)*sz=n*sz/\n*sz<=c*sz/\(i+1)*sz=i*sz+sz/\(n+1)*sz=n*sz+sz/\i*sz+sz<=n*sz:=by
 have h1:=H.hi;have h2:i*sz+(n - i)*sz=n*sz:=by rw [<- zYz]; congr 1; omega
 have h3:n*sz<=c*sz:=zQq _ H.hnc;have h4:(i+1)*sz<=n*sz:=zQq _ ak;have h5:=H.hsz;refine ⟨?_,h2,h3,zXY _ _,zXY _ _,by rw [<- zXY]; exact h4⟩;simp;omega
theorem Sp.shift(L:Sp P f tS e tI tB fo sz bytes fn z)(H:We w b n c i vb e sz bytes cur arr2 vs)(hroom:n+1<=c):∃ W1 W2,
  (∀ ty dc sc,(Builtin.copy_ #[tS,tS] ty #[.slice (some ⟨b,(i+1)*sz,none⟩) (n - i) dc,.slice (some ⟨b,i*sz,none⟩) (n+1 - i) sc]).run P w.drew=.ok (goInt (Nat.min (n+1 - i) (n - i))) W1) /\
  (∀ ty dc,(Builtin.copy_ #[tS,tS] ty #[.slice (some ⟨b,i*sz,none⟩) (n+1 - i) dc,.slice (some ⟨vb,0,none⟩) 1 vc]).run P W1=.ok (goInt (Nat.min 1 (n+1 - i))) W2) /\
  (∀ lb cb,(callFunc fo #[.slice (some ⟨vb,0,none⟩) 1 vc,.slice (some ⟨b,(i+1)*sz,none⟩) lb cb]).run P w=.ok (.value (.bool false)) w) /\
  Hd (Qz w b n i e sz cur vs (.returned (.slice (some ⟨b,0,none⟩) (n+1) c)) W2):=by
 obtain ⟨i0,hi0,hzs,hzb,hz1⟩:=L.size;obtain ⟨hcl,h2,h3,h4,h5,h6⟩:=H.cs;obtain ⟨hi,hnc,hc,hbig,hvb,hcur,hsz,harr,hvl,hvs,h1c,h1v⟩:=H;have hpos:=L.pos;have h7:(n+1)*sz<=c*sz:=zQq _ hroom;have hsize:(P.info? e).map (·.size)=some sz:=by simp [hi0,hzs]
 have zz:∀ w,(Go.sizeOf e).run P w=.ok sz w:=λw=>by simp [sizeOf,typeInfo,hi0,hzs]
 obtain ⟨cs,hcs⟩:∃ cs,cs=(cur.toList.drop (i*sz)).take ((n - i)*sz):=⟨_,rfl⟩;rw [<- hcs] at hcl;obtain ⟨C1,hC1⟩:∃ C1:Array Value,C1=(cur.toList.take ((i+1)*sz)++cs++cur.toList.drop ((i+1)*sz+cs.length)).toArray:=⟨_,rfl⟩;have hC1s:C1.size=c*sz:=by rw [hC1,Wf _ _ _ (by rw [hcl,hsz]; omega),hsz]
 obtain ⟨C2,hC2⟩:∃ C2:Array Value,C2=(C1.toList.take (i*sz)++vs++C1.toList.drop (i*sz+vs.length)).toArray:=⟨_,rfl⟩;have hC2s:C2.size=c*sz:=by rw [hC2,Wf _ _ _ (by rw [hvl,hC1s]; omega),hC1s]
 have hW1b:(w.drew.setRow b C1).heap[b]?=some (.cells C1 e (0,0)):=setRow_heap w.drew b cur C1 e (0,0) hcur;have hW1v:(w.drew.setRow b C1).heap[vb]?=some (.cells arr2 e (0,0)):=by rw [setRow_other w.drew b vb C1 hvb]; exact harr
 refine ⟨w.drew.setRow b C1,(w.drew.setRow b C1).setRow b C2,λty dc sc=>?_,λty dc=>?_,λlb cb=>?_,⟨b,c,C2,rfl,⟨rfl,rfl,rfl,by simp [World.setRow,World.drew_eq]⟩,λk hk hb=>?_,setRow_heap _ b C1 C2 e (0,0) hW1b,hC2s,hroom,hc,?_,.inl rfl⟩⟩
 ·rw [hC1];refine xm w.drew _ _ ty e b ((i+1)*sz) (n - i) dc sz ⟨b,i*sz,none⟩ (n+1 - i) sc cur e cs L.t5 hsize hcur (by rw [hcl]; congr 1; simp only [Nat.min_def]; split <;> omega) (λj v hj=>?_) (by rw [hcl]; omega) (λv hv=>?_)
  ·rw [Addr.add_lit];have h2:cur[i*sz+j]?=some v:=by
    rw [hcs,zQK] at hj
    split at hj
    ·rw [zQJ] at hj; simpa using hj
    ·cases hj
   show World.cell? w _=_;simp [World.cell?,hcur,h2]
  ·rw [hcs] at hv;obtain ⟨j,hj⟩:=aac.1 hv;rw [zQK] at hj
   split at hj
   ·rw [zQJ] at hj;exact h1c (i*sz+j) v ak WN
   ·cases hj
 ·rw [hC2];exact xm _ _ _ ty e b (i*sz) (n+1 - i) dc sz ⟨vb,0,none⟩ 1 vc C1 e vs L.t5 hsize hW1b qaE (λj v hj=>by
   rw [Addr.add_lit];have h2:=hvs j v hj;simp [World.cell?,hW1v,h2]) (by rw [hvl]; omega) h1v
 ·have hs1:w.shape? vb=some (e,arr2.size):=by simp [World.shape?,harr]
  have hs2:w.shape? b=some (e,cur.size):=by simp [World.shape?,hcur]
  rw [L.ov,Lib.run_overlaps_apart w tS tB e L.t5 sz zz ⟨vb,0,none⟩ ⟨b,(i+1)*sz,none⟩ 1 vc lb cb hvb e e arr2.size cur.size hs1 hs2 (by rw [hsz]; have:=Nat.mul_lt_mul_of_pos_right (show 0 < c by omega) hpos; omega) (by simp [World.frozen?,harr]) (by simp [World.frozen?,harr])];rfl
 ·rw [setRow_other _ b k C2 hb,setRow_other _ b k C1 hb]; rfl
 ·rw [<- hcs,hC2];have e1:C1.toList.take (i*sz)=cur.toList.take (i*sz):=by
   rw [hC1];simp only [zQX];rw [List.take_append_of_le_length lv,zZw,zWq ak]
  have e2:C1.toList.drop (i*sz+vs.length)=cs++cur.toList.drop ((i+1)*sz+cs.length):=by
   rw [hC1];simp only [zQX];exact Xs (by simp [hvl]; omega)
  rw [e1,e2,<- zQX];exact BL (by simp [hvl,hcl]; omega)
theorem Sp.grow(L:Sp P f tS e tI tB fo sz bytes fn z)(H:We w b n c i vb e sz bytes cur arr2 vs)(hroom:c < n+1):∃ N G ROW R1 R2,n+1<=G/\G<=9223372036854775807 /\
  (∀ ty,(Builtin.append_ #[tS,tI] ty #[.slice (some ⟨b,0,none⟩) i c,.int .i64 ((n:Int)+1 - (i:Int))]).run P w=.ok (.slice (some ⟨N,0,none⟩) (n+1) G) (w.drew.alloc (.cells ROW e))) /\
  (∀ ty dc,(Builtin.copy_ #[tS,tS] ty #[.slice (some ⟨N,i*sz,none⟩) (n+1 - i) dc,.slice (some ⟨vb,0,none⟩) 1 vc]).run P (w.alloc (.cells ROW e)).drew=.ok (goInt (Nat.min 1 (n+1 - i))) ((w.alloc (.cells ROW e)).drew.setRow N R1)) /\
  (∀ ty dc sc,(Builtin.copy_ #[tS,tS] ty #[.slice (some ⟨N,(i+1)*sz,none⟩) (n - i) dc,.slice (some ⟨b,i*sz,none⟩) (n - i) sc]).run P ((w.alloc (.cells ROW e)).drew.setRow N R1).drew=.ok (goInt (Nat.min (n - i) (n - i))) (((w.alloc (.cells ROW e)).drew.setRow N R1).drew.setRow N R2)) /\
  Hd (Qz w b n i e sz cur vs (.returned (.slice (some ⟨N,0,none⟩) (n+1) G)) (((w.alloc (.cells ROW e)).drew.setRow N R1).drew.setRow N R2)):=by
 obtain ⟨i0,hi0,hzs,hzb,hz1⟩:=L.size;obtain ⟨hcl,h2,h3,h4,h5,h6⟩:=H.cs;obtain ⟨hi,hnc,hc,hbig,hvb,hcur,hsz,harr,hvl,hvs,h1c,h1v⟩:=H;have hpos:=L.pos;have hsize:(P.info? e).map (·.size)=some sz:=by simp [hi0,hzs]
 have hik:i+(n+1 - i)=n+1:=by omega
 have hkk:(n:Int)+1 - (i:Int)=((n+1 - i:Nat):Int):=by omega
 have hc63:c<=9223372036854775807:=by unfold maxLen at hc; omega
 have hle:(n+1 - i)*bytes<=(n+1)*bytes:=zQq _ ak;have hold:(Builtin.firstCells i0.size i (.slice (some ⟨b,0,none⟩) i c)).run P w.drew=.ok (cur.toList.take (i*sz)).toArray w.drew:=by
  rw [hzs];exact run_firstCells_some w.drew sz i ⟨b,0,none⟩ i c (cur.toList.take (i*sz)) (by rw [zQx]; simp; omega) (λj v hj=>by
   rw [Addr.add_lit];rw [zQK] at hj
   split at hj
   ·show World.cell? w _=_;have h2:cur[j]?=some v:=by simpa using hj
    simp [World.cell?,hcur,h2]
   ·cases hj)
 have hcn:c=n:=by omega
 obtain ⟨G,hG⟩:∃ G,G=grownCap w (n+1) c e:=⟨_,rfl⟩;have hGn:n+1<=G:=by rw [hG]; exact grownCap_ge w _ _ _
 have hn63:n+1<=maxLen:=by
  have:n+1<=(n+1)*bytes:=Nat.le_mul_of_pos_right _ L.bpos;unfold maxLen; omega
 have hG63:G<=maxLen:=by rw [hG]; exact grownCap_le_maxLen w (n+1) c e hn63
 obtain ⟨ROW,hROW⟩:∃ ROW:Array Value,ROW=(cur.toList.take (i*sz)).toArray++Builtin.zeroCells z.cells (n+1 - i)++Builtin.zeroCells z.cells (G - (n+1)):=⟨_,rfl⟩;have hRl:ROW.size=G*sz:=by
  have e1:(n+1 - i)*sz+(G - (n+1))*sz+i*sz=G*sz:=by rw [<- zYz,<- zYz]; congr 1; omega
  rw [hROW];simp [Builtin.zeroCells,L.zc];omega
 have hGs:n*sz+sz<=G*sz:=by rw [<- zXY]; exact zQq _ hGn
 have hbw:b < w.heap.size:=(Wk.1 hcur).1;have hvw:vb < w.heap.size:=(Wk.1 harr).1;obtain ⟨cs,hcs⟩:∃ cs,cs=(cur.toList.drop (i*sz)).take ((n - i)*sz):=⟨_,rfl⟩;rw [<- hcs] at hcl;obtain ⟨R1,hR1⟩:∃ R1:Array Value,R1=(ROW.toList.take (i*sz)++vs++ROW.toList.drop (i*sz+vs.length)).toArray:=⟨_,rfl⟩;have hR1l:R1.size=G*sz:=by rw [hR1,Wf _ _ _ (by rw [hvl,hRl]; omega),hRl]
 obtain ⟨R2,hR2⟩:∃ R2:Array Value,R2=(R1.toList.take ((i+1)*sz)++cs++R1.toList.drop ((i+1)*sz+cs.length)).toArray:=⟨_,rfl⟩;have hR2l:R2.size=G*sz:=by rw [hR2,Wf _ _ _ (by rw [hcl,hR1l]; omega),hR1l]
 have hA0:∀ k,k < w.heap.size->(w.alloc (.cells ROW e)).drew.heap[k]?=w.heap[k]?:=λk hk=>by show (w.heap.push _)[k]?=_; rw [Array.getElem?_push,if_neg ak]
 have hA1:(w.alloc (.cells ROW e)).drew.heap[w.heap.size]?=some (.cells ROW e (0,0)):=by show (w.heap.push _)[w.heap.size]?=_; simp
 have hA2:(w.alloc (.cells ROW e)).drew.heap[vb]?=some (.cells arr2 e (0,0)):=(hA0 vb hvw).trans harr;have hB1:((w.alloc (.cells ROW e)).drew.setRow w.heap.size R1).drew.heap[w.heap.size]?=some (.cells R1 e (0,0)):=setRow_heap (w.alloc (.cells ROW e)).drew w.heap.size ROW R1 e (0,0) hA1;have hB2:((w.alloc (.cells ROW e)).drew.setRow w.heap.size R1).drew.heap[b]?=some (.cells cur e (0,0)):=(setRow_other (w.alloc (.cells ROW e)).drew w.heap.size b R1 ak).trans ((hA0 b hbw).trans hcur);refine ⟨w.heap.size,G,ROW,R1,R2,hGn,by unfold maxLen at hG63; omega,λty=>?_,λty dc=>?_,λty dc sc=>?_,⟨w.heap.size,G,R2,rfl,⟨rfl,rfl,rfl,by simp [World.setRow,World.drew_eq]⟩,λk hk hb=>?_,setRow_heap _ w.heap.size R1 R2 e (0,0) hB1,hR2l,hGn,hG63,?_,.inr (zWJ _)⟩⟩
 ·have h:=Lib.run_append_grow_zeros w tS tI ty e i0 z .i64 .i64 L.t5 L.t3 hi0 hz1 (some ⟨b,0,none⟩) i c (cur.toList.take (i*sz)) hold (n+1 - i) ak ak ak (by unfold maxLen at hn63; omega) (by rw [hzb]; omega) (by rw [hzb,hik]; exact growslice_fits hroom hbig);rw [hik] at h;rw [hkk,hG,hROW,hG];exact h
 ·rw [hR1];exact xm _ _ _ ty e w.heap.size (i*sz) (n+1 - i) dc sz ⟨vb,0,none⟩ 1 vc ROW e vs L.t5 hsize hA1 qaE (λj v hj=>by
   rw [Addr.add_lit];have h3:=hvs j v hj;simp only [World.cell?,hA2,zQg,h3];simp [h3]) (by rw [hvl,hRl]; omega) h1v
 ·rw [hR2];refine xm _ _ _ ty e w.heap.size ((i+1)*sz) (n - i) dc sz ⟨b,i*sz,none⟩ (n - i) sc R1 e cs L.t5 hsize hB1 (by rw [hcl]; simp) (λj v hj=>?_) (by rw [hcl,hR1l]; omega) (λv hv=>?_)
  ·rw [Addr.add_lit];have h3:cur[i*sz+j]?=some v:=by
    rw [hcs,zQK] at hj
    split at hj
    ·rw [zQJ] at hj; simpa using hj
    ·cases hj
   simp only [World.cell?,hB2];simp [h3]
  ·rw [hcs] at hv;obtain ⟨j,hj⟩:=aac.1 hv;rw [zQK] at hj
   split at hj
   ·rw [zQJ] at hj;exact h1c (i*sz+j) v ak WN
   ·cases hj
 ·rw [setRow_other _ _ k R2 ak];show ((w.alloc (.cells ROW e)).drew.setRow w.heap.size R1).heap[k]?=_;rw [setRow_other _ _ k R1 ak];exact hA0 k hk
 ·rw [<- hcs,hR2];have e0:ROW.toList.take (i*sz)=cur.toList.take (i*sz):=by
   rw [hROW];simp only [Array.toList_append,zQX];exact BL lv
  have e1:R1.toList.take ((i+1)*sz)=cur.toList.take (i*sz)++vs:=by
   rw [hR1,e0];exact BL (by simp [hvl]; omega)
  rw [e1];exact BL (by simp [hvl,hcl]; omega)
theorem QA{F:Nat->Prop}{rows:List (List T)}{inner:List Value}(h:xS w F sz rows inner):∀ (j:Nat) (v:Value),j < rows.length*sz->inner[j]?=some v->v.oneCell'=true:=λj v hj hv=>by
 have hp:0 < sz:=by
  rcases zYY sz with h0 | h0
  ·subst h0; omega
  ·exact h0
 have h1:j / sz < rows.length:=Nat.div_lt_of_lt_mul (by rw [Nat.mul_comm]; exact hj);obtain ⟨row,hr⟩:∃ row,rows[j / sz]?=some row:=⟨_,sX h1⟩;have h2:=h.len _ row hr;obtain ⟨x,hx⟩:∃ x,row[j % sz]?=some x:=⟨_,sX (by rw [h2]; exact Nat.mod_lt _ hp)⟩;obtain ⟨u,hu,h3,_⟩:=h.rd _ row _ x hr hx;rw [show j / sz*sz+j % sz=j by rw [Nat.mul_comm]; exact Nat.div_add_mod _ _,hv] at hu
 cases hu
 exact h3
theorem Y0{F:Nat->Prop}{rows:List (List T)}{row:List T}{inner vs:List Value}{i:Nat}(h:xS w F sz rows inner)(hv:xS w F sz [row] vs)(hi:i<=rows.length) :
  xS w F sz (rows.take i++row :: rows.drop i) (inner.take (i*sz)++vs++inner.drop (i*sz)):=by
 have hl:=h.size;have hvl:=hv.size;simp only [zQw,zWv,zQg,Nat.one_mul] at hvl;have h1:i*sz<=rows.length*sz:=zQq _ hi;have h0:(inner.take (i*sz)).length=i*sz:=by simp; omega
 have h2:(rows.take i).length=i:=by simp; omega
 refine ⟨?_,λk r hk=>?_,λk r j x hk hj=>?_⟩
 ·simp [hvl,hl,zWq hi,zWq h1];rw [<- Nat.sub_mul,show i+(rows.length - i+1)=i+1+(rows.length - i) by omega,zYz,zYz];omega
 ·rcases Nat.lt_trichotomy k i with hlt | heq | hgt
  ·rw [zQQ ak,zZG hlt] at hk;exact h.len _ _ hk
  ·subst heq;rw [r0 ak,h2,Nat.sub_self,zQh] at hk
   cases hk
   exact hv.len 0 _ rfl
  ·rw [r0 ak,h2,show k - i=(k - i - 1)+1 by omega,List.getElem?_cons_succ,zQJ] at hk;exact h.len _ _ hk
 ·have hrow:r.length=sz->j < sz:=λe=>by
   have:=(sr.1 hj).1;omega
  rcases Nat.lt_trichotomy k i with hlt | heq | hgt
  ·rw [zQQ ak,zZG hlt] at hk;have hj':=hrow (h.len _ _ hk);have h3:(k+1)*sz<=i*sz:=zQq _ hlt;rw [zXY] at h3;obtain ⟨u,hu,h4⟩:=h.rd _ _ _ _ hk hj;exact ⟨u,by rw [zQX,zQQ ak,zZG ak]; exact hu,h4⟩
  ·subst heq;rw [r0 ak,h2,Nat.sub_self,zQh] at hk
   cases hk
   have hj':=hrow (hv.len 0 _ rfl);obtain ⟨u,hu,h4⟩:=hv.rd 0 _ _ _ rfl hj;rw [Nat.zero_mul,zQg] at hu;exact ⟨u,by rw [zQX,r0 ak,h0,zQQ ak,show k*sz+j - k*sz=j by omega]; exact hu,h4⟩
  ·rw [r0 ak,h2,show k - i=(k - i - 1)+1 by omega,List.getElem?_cons_succ,zQJ] at hk;have hj':=hrow (h.len _ _ hk);have h3:(i+1)*sz<=k*sz:=zQq _ hgt;rw [zXY] at h3;obtain ⟨u,hu,h4⟩:=h.rd _ _ _ _ hk hj;refine ⟨u,?_,h4⟩;have e1:(i+(k - i - 1))*sz+sz=k*sz:=by rw [<- zXY]; congr 1; omega
   rw [r0 (by simp [hvl,h0]; omega),zQJ];rw [<- hu]
   congr 1
   simp only [zQG,h0,hvl];omega
theorem Xt{rows:List (List T)}{row:List T}(hc:tM P f)(hraw:Xr P f e sz bytes)(hi:i < rows.length)(hbig:(rows.length+1)*bytes<=140737488355328) :
  av P f [.one (.ow e sz rows),.one (.t (.int .i64 i)),.one (.ow e sz [row])] (.one (.ow e sz (rows.take i++row :: rows.drop i))) []:=by
 refine ⟨hc,λw F us bs hF hV hn hb htb=>?_⟩
 cases hV with
 | cons _ v0 b0 _ vs0 bs0 h1 hs1 =>
 cases h1 with
 | one _ _ _ h1 =>
 cases hs1 with
 | cons _ v1 b1 _ vs1 bs1 h2 hs2 =>
 cases h2 with
 | one _ _ _ h2 =>
 cases hs2 with
 | cons _ v2 b2 _ vs2 bs2 h3 hs3 =>
 cases h3 with
 | one _ _ _ h3 =>
 cases hs3
 cases h2 with
 | t _ _ h2 =>
 cases h2
 cases h1 with
 | ow _ _ _ _ inner ho hr =>
 cases h3 with
 | ow _ _ _ _ inner2 ho2 hr2 =>
 obtain ⟨hl,ho⟩:=ho;obtain ⟨hl2,ho2⟩:=ho2;rcases ho with ⟨_,h0⟩ | ⟨g,cap,cur,hv,_,hg,hnc,hcm,hsz,htk⟩
 ·omega
 rcases ho2 with ⟨_,h0⟩ | ⟨g2,cap2,cur2,hv2,_,hg2,hnc2,hcm2,hsz2,htk2⟩
 ·simp at h0
 subst hv hv2;simp only [Value.ownBlock,Option.toList,zWW,zWH,List.singleton_append,List.nodup_cons,zQy,zXy] at hn hb;have hne:g2≠g:=λh=>hn.1 Tz;simp only [zQw,zWv,zQg,Nat.one_mul] at hl2 htk2;have hv2:∀ (j:Nat) (v:Value),inner2[j]?=some v->cur2[j]?=some v:=λj v hj=>by
  rw [<- htk2,zQK] at hj
  split at hj
  ·simpa using hj
  ·cases hj
 have hIW:We w g rows.length cap i g2 e sz bytes cur cur2 inner2:=⟨hi,hnc,hcm,hbig,hne,hg,hsz,hg2,hl2,hv2,λj v hj hv=>QA hr j v hj (by rw [<- htk,zQK,if_pos hj]; simpa using hv),λv hv=>by
   obtain ⟨j,hj⟩:=aac.1 hv;exact QA hr2 j v (by have:=(sr.1 hj).1; simp; omega) hj⟩
 refine (hraw w g rows.length cap i g2 cap2 cur cur2 inner2 hIW).mono λx w' ⟨b',c',cur',hx,hcalm,hold,hb',hs',hn',hm',htk',hnew⟩=>?_;have hgw:g < w.heap.size:=(Wk.1 hg).1;have hSame:Av F w w':=λk hk=>hold k (hF k hk) (λh=>hb k Tz hk);have hinner:cur.toList.take (i*sz)++inner2++(cur.toList.drop (i*sz)).take ((rows.length - i)*sz)=inner.take (i*sz)++inner2++inner.drop (i*sz):=by
  have e1:i*sz<=rows.length*sz:=zQq _ ak;rw [<- htk,zZw,zWq e1,List.drop_take,Nat.sub_mul]
 rw [hinner] at htk';have hR:=Y0 (i:=i) hr hr2 ak;have hlen:(rows.take i++row :: rows.drop i).length=rows.length+1:=by simp; omega
 refine ⟨_,F,[b'],[],hx,hcalm,λk hk hkb=>hold k hk (λh=>hkb (by simp [h,Value.ownBlock])),λ_ h=>h,λk hk=>⟨zWV (hF k hk) hcalm.size,λ_=>.inl hk,.inl hk⟩,?_,?_,by simp,λk hk=>?_⟩
 ·rw [<- hlen] at hn' htk' ⊢;exact .one _ _ _ (.ow e sz _ _ _ ⟨hR.size,.inr ⟨b',c',cur',rfl,zYy _,hb',hn',hm',hs',htk'⟩⟩ (hR.mono hSame λ_ h=>h))
 ·exact .skip _ _ _ _ _ _ (λc h=>by cases h) (.skip _ _ _ _ _ _ (λc h=>by cases h) (.skip _ _ _ _ _ _ (λc h=>by cases h) .nil))
 ·simp only [zWW,zQy] at hk;subst hk;rcases hnew with h | h
  ·subst h;exact ⟨hb _ WT,.inr WT⟩
  ·exact ⟨λhf=>by have:=hF _ hf; omega,.inl h⟩
end
end Go.Tm
namespace Go.Tm
open Go.RowKit
abbrev Hdr:=Option Addr×Nat×Nat
abbrev hv(h:Hdr):Value:=.slice h.1 h.2.1 h.2.2
abbrev hT(h:Hdr):T:=.hdr h.1 h.2.1 h.2.2
def hB(h:Hdr):List Nat:=(hv h).ownBlock.toList
inductive K where
 | none
 | inn (hs:List Hdr) (xs:List (List Int))
 | deep (h:Hdr) (xs:List (List Int))
 | hole (hs:List Hdr) (xs:List (List Int)) (i:Nat)
theorem Rd.scF{w:World}{F F':Nat->Prop}{x:T}{v:Value}(hx:x.sc=true)(h:Rd w F x v):Rd w F' x v:=by
 cases h with
 | int k n=>exact .int k n
 | bool b=>exact .bool b
 | str s=>exact .str s
 | nilf=>exact .nilf
 | hdr a n c=>exact .hdr a n c
 | sl0 sz a c ha=>cases hx
 | sl sz rows b off c u hc hF hs hx' hr=>cases hx
theorem AU{P:Program}{f:FuncId}{args:List V}{e sz:Nat}{α:Type}{g:α->List T}{xs:List α}(h:av P f args (.one (.ow e sz (xs.map g))) [])(hg:∀ x,(g x).all T.sc=true):oY P f args (.one (.ow e sz (xs.map g))):=by
 obtain ⟨hc,h⟩:=h;refine ⟨hc,λw D vs hD hV htb=>(h w D vs [] hD hV List.nodup_nil (λb hb=>by cases hb) (htb.mono λb hb=>by cases hb)).mono λx w' ⟨v,F',bv,bo,h1,h2,h3,h4,h5,h6,h7,h8,h9⟩=>?_⟩;refine ⟨v,λ_=>False,bv,h1,h2,λb hb=>h3 b hb kU,λb hb=>hb.elim,?_,(List.nodup_append.1 h8).1,λb hb=>⟨λh=>h,((h9 b (An.2 (.inl hb))).2).resolve_right kU⟩⟩
 cases h6 with
 | one c v bs hcv =>
  cases hcv with
  | ow e sz rows v inner ho hr =>
   refine .one _ _ _ (.ow _ _ _ _ inner ho ?_);obtain ⟨q1,q2,q3⟩:=hr;refine ⟨q1,q2,λi row j x hi hj=>?_⟩;obtain ⟨u,h10,h11⟩:=q3 i row j x hi hj;refine ⟨u,h10,h11.1,h11.2.scF ?_⟩;rw [zQz] at hi;obtain ⟨y,_,rfl⟩:=zm.1 hi;exact KB.1 (hg y) x (zQY hj)
end Go.Tm
namespace Go.Tm
open Go.RowKit Go.Lib Go.Proofs
section
variable {P:Program}
theorem QB{ops:Array Oper}{o:Oper}{a:Act}{w:World}{K:Act->World->Prop}{Q:Exit->Act->World->Prop}{E:Prop}
  (hg:o.guard=none) (d x:Operand) (dT sT:TypeId) (hop:o.op=Op.call { callee:=Callee.builtin Builtin.append,args:=#[d,x],argTypes:=#[dT,sT] })
  (v u:Value) (hd:a.eval d=v) (hx:a.eval x=u) {v':Value} {w':World} (hr:(Builtin.append_ #[dT,sT] o.type #[v,u]).run P w=.ok v' w') (hK:K (a.put o.dst v') w') :
  if Region.wanted o (yielded ops a.tmps)=true then Oper.wp P o a w K Q else E:=by
 have hw:Region.wanted o (yielded ops a.tmps)=true:=by simp [Region.wanted,hg]
 rw [if_pos hw];unfold Oper.wp;simp [execOp,hop,resolve,invoke,builtin,hd,hx,hr,Result.andThen];exact hK
theorem K8(w:World)(t ty e e':TypeId)(b n c sz:Nat)(a:Addr)(m mc:Nat)(cur:Array Value)(cs:List Value)
  (hu:P.underlying t=some (.slice e)) (hs:(P.info? e).map (·.size)=some sz)
  (hg:w.heap[b]?=some (.cells cur e' (0,0))) (hl:cs.length=m*sz) (hsrc:∀ j v,cs[j]?=some v->w.cell? (a.add j)=some v) (hroom:n+m<=c) (hfit:n*sz+cs.length<=cur.size) (h1:∀ v∈cs,v.oneCell'=true) :
  (Builtin.append_ #[t,t] ty #[.slice (some ⟨b,0,none⟩) n c,.slice (some a) m mc]).run P w=.ok (.slice (some ⟨b,0,none⟩) (n+m) c) (w.setRow b (cur.toList.take (n*sz)++cs++cur.toList.drop (n*sz+cs.length)).toArray):=by
 cases hq:P.info? e with
 | none=>simp [hq] at hs
 | some i =>
  have hi:i.size=sz:=by simpa [hq] using hs
  have hfc:=run_firstCells_some (P:=P) w sz m a m mc cs hl hsrc;have hst:=run_storeCells_at P b (n*sz) e' cs 0 cur w hg (by simpa using hfit) h1;simp only [zXx] at hst;simp [Builtin.append_,run_underlying hu,sizeOf,typeInfo,hq,hi,Builtin.lenOf,hroom,hfc,Addr.add_lit,hst]
theorem M8(w:World)(t ty e e':TypeId)(b o n c:Nat)(cur:Array Value)(i0:TypeInfo)(z:Value)
  (hu:P.underlying t=some (.slice e)) (hi:P.info? e=some i0) (hz:i0.zero=some z) (z1:∀ v∈z.cells,v.oneCell'=true) (hzn:0 < z.cells.size)
  (hg:w.heap[b]?=some (.cells cur e' (0,0))) (hn:0 < n) (hfit:o+n*z.cells.size<=cur.size) :
  (Builtin.clear_ #[t] ty #[.slice (some ⟨b,o,none⟩) n c]).run P w=.ok (.tuple #[]) (w.setRow b (cur.toList.take o++(Builtin.zeroCells z.cells n).toList++cur.toList.drop (o+(Builtin.zeroCells z.cells n).toList.length)).toArray):=by
 have hst:=run_storeCells_at P b o e' (Builtin.zeroCells z.cells n).toList 0 cur w hg (by simpa [Builtin.zeroCells] using hfit) (λv hv=>by
  simp only [Builtin.zeroCells,Array.toList_map,zXg] at hv;obtain ⟨k,_,rfl⟩:=hv;rw [getElem!_pos z.cells _ (Nat.mod_lt _ hzn)];exact z1 _ (Array.getElem_mem _))
 simp only [zXx] at hst;obtain ⟨m,rfl⟩:∃ m,n=m+1:=⟨n - 1,by omega⟩;simp [Builtin.clear_,run_underlying hu,zeroValue,typeInfo,hi,hz,hst]
structure Wg (P:Program) (f tS e tI tB sz:Nat) (fn:Func) (z:Value):Prop where
 mixed:P.follows .mixedOrders=true
 hf:P.funcs[f]?=some fn
 t3:P.underlying tI=some (.int .i64)
 t4:P.underlying tB=some .bool
 t5:P.underlying tS=some (.slice e)
 i5:(P.info? e).map (λi=>i.size)=some sz
 hz:(P.info? e).bind (·.zero)=some z
 zc:z.cells.size=sz
 z1:z.cells.all (·.oneCell')=true
 pos:0 < sz
def Vg(w:World)(b n c i j e sz:Nat)(cur:Array Value)(x:Ending)(w':World):Prop :=
 ∃ cur',x=.returned (.slice (some ⟨b,0,none⟩) (i+(n - j)) c)/\rc w w'/\(∀ k,k < w.heap.size->k≠b->w'.heap[k]?=w.heap[k]?)/\w'.heap[b]?=some (.cells cur' e (0,0))/\cur'.size=c*sz /\
  cur'.toList.take ((i+(n - j))*sz)=cur.toList.take (i*sz)++(cur.toList.drop (j*sz)).take ((n - j)*sz)
structure Z7 (w:World) (b n c i j e sz:Nat) (cur:Array Value):Prop where
 hij:i < j
 hj:j<=n
 hnc:n<=c
 hc:c<=maxLen
 hcur:w.heap[b]?=some (.cells cur e (0,0))
 hsz:cur.size=c*sz
 h1c:∀ (k:Nat) (v:Value),k < n*sz->cur[k]?=some v->v.oneCell'=true
def Xu(P:Program)(f e sz:Nat):Prop:=∀ (w:World) (b n c i j:Nat) (cur:Array Value),Z7 w b n c i j e sz cur ->
 Calls P f #[.slice (some ⟨b,0,none⟩) n c,.int .i64 i,.int .i64 j] w (Vg w b n c i j e sz cur)
variable {f tS e tI tB sz:Nat} {fn:Func} {z:Value} {w:World} {b n c i j:Nat} {cur:Array Value}
theorem Wg.size(L:Wg P f tS e tI tB sz fn z):∃ i0,P.info? e=some i0/\i0.size=sz/\i0.zero=some z:=by
 have h:=L.i5;have h2:=L.hz
 cases hq:P.info? e with
 | none=>simp [hq] at h
 | some x=>simp [hq] at h h2; exact ⟨x,rfl,h,h2⟩
theorem Wg.del(L:Wg P f tS e tI tB sz fn z)(H:Z7 w b n c i j e sz cur):∃ A W1 W2,
  (if c=j then (some ⟨b,0,none⟩:Option Addr) else some ⟨b,j*sz,none⟩)=some A /\
  (∀ ty sc,(Builtin.append_ #[tS,tS] ty #[.slice (some ⟨b,0,none⟩) i c,.slice (some A) (n - j) sc]).run P w.drew=.ok (.slice (some ⟨b,0,none⟩) (i+(n - j)) c) W1) /\
  (∀ ty dc,(Builtin.clear_ #[tS] ty #[.slice (some ⟨b,(i+(n - j))*sz,none⟩) (n - (i+(n - j))) dc]).run P W1=.ok (.tuple #[]) W2) /\
  Hd (Vg w b n c i j e sz cur (.returned (.slice (some ⟨b,0,none⟩) (i+(n - j)) c)) W2):=by
 obtain ⟨i0,hi0,hzs,hz1⟩:=L.size;obtain ⟨hij,hj,hnc,hc,hcur,hsz,h1c⟩:=H;have hpos:=L.pos;have hzc:=L.zc;have hsize:(P.info? e).map (·.size)=some sz:=by simp [hi0,hzs]
 have h1:n*sz<=c*sz:=zQq _ hnc;have h2:j*sz+(n - j)*sz=n*sz:=by rw [<- zYz]; congr 1; omega
 have h3:(i+(n - j))*sz=i*sz+(n - j)*sz:=zYz _ _ _;have h4:(i+(n - j))*sz+(n - (i+(n - j)))*sz=n*sz:=by rw [<- zYz]; congr 1; omega
 obtain ⟨cs,hcs⟩:∃ cs,cs=(cur.toList.drop (j*sz)).take ((n - j)*sz):=⟨_,rfl⟩;have hcl:cs.length=(n - j)*sz:=by rw [hcs]; simp; omega
 have hcg:∀ k v,cs[k]?=some v->cur[j*sz+k]?=some v/\k < (n - j)*sz:=λk v hk=>by
  rw [hcs,zQK] at hk
  split at hk
  ·rw [zQJ] at hk; exact ⟨by simpa using hk,by assumption⟩
  ·cases hk
 obtain ⟨C1,hC1⟩:∃ C1:Array Value,C1=(cur.toList.take (i*sz)++cs++cur.toList.drop (i*sz+cs.length)).toArray:=⟨_,rfl⟩;have hC1s:C1.size=c*sz:=by rw [hC1,Wf _ _ _ (by rw [hcl,hsz]; omega),hsz]
 obtain ⟨zs,hzs'⟩:∃ zs,zs=(Builtin.zeroCells z.cells (n - (i+(n - j)))).toList:=⟨_,rfl⟩;have hzl:zs.length=(n - (i+(n - j)))*sz:=by rw [hzs']; simp [Builtin.zeroCells,hzc]
 obtain ⟨C2,hC2⟩:∃ C2:Array Value,C2=(C1.toList.take ((i+(n - j))*sz)++zs++C1.toList.drop ((i+(n - j))*sz+zs.length)).toArray:=⟨_,rfl⟩;have hC2s:C2.size=c*sz:=by rw [hC2,Wf _ _ _ (by rw [hzl,hC1s]; omega),hC1s]
 have hW1b:(w.drew.setRow b C1).heap[b]?=some (.cells C1 e (0,0)):=setRow_heap w.drew b cur C1 e (0,0) hcur;have h1v:∀ v∈cs,v.oneCell'=true:=λv hv=>by
  obtain ⟨k,hk⟩:=aac.1 hv;obtain ⟨h5,h6⟩:=hcg k v hk;exact h1c _ v ak h5
 obtain ⟨A,hA,hsrc⟩:∃ A:Addr,(if c=j then (some ⟨b,0,none⟩:Option Addr) else some ⟨b,j*sz,none⟩)=some A/\(∀ k v,cs[k]?=some v->w.drew.cell? (A.add k)=some v):=by
  by_cases h:c=j
  ·refine ⟨⟨b,0,none⟩,by simp [h],λk v hk=>?_⟩;have h5:=(hcg k v hk).2;rw [show n - j=0 by omega,Nat.zero_mul] at h5;omega
  ·refine ⟨⟨b,j*sz,none⟩,by simp [h],λk v hk=>?_⟩;rw [Addr.add_lit];show World.cell? w _=_;have h5:=(hcg k v hk).1;simp only [World.cell?,hcur,h5];simp [h5]
 refine ⟨A,w.drew.setRow b C1,(w.drew.setRow b C1).setRow b C2,hA,λty sc=>?_,λty dc=>?_,⟨C2,rfl,⟨rfl,rfl,rfl,by simp [World.setRow,World.drew_eq]⟩,λk hk hb=>?_,setRow_heap _ b C1 C2 e (0,0) hW1b,hC2s,?_⟩⟩
 ·rw [hC1];exact K8 w.drew tS ty e e b i c sz A (n - j) sc cur cs L.t5 hsize hcur hcl hsrc ak (by rw [hcl]; omega) h1v
 ·rw [hC2,hzs'];exact M8 _ tS ty e e b ((i+(n - j))*sz) (n - (i+(n - j))) dc C1 i0 z L.t5 hi0 hz1 (λv hv=>by
   have:=L.z1;rw [Array.all_eq_true'] at this;exact this v hv) ak hW1b ak (by rw [hzc,hC1s]; omega)
 ·rw [setRow_other _ b k C2 hb,setRow_other _ b k C1 hb]; rfl
 ·rw [<- hcs,hC2];have e1:C1.toList.take ((i+(n - j))*sz)=cur.toList.take (i*sz)++cs:=by
   rw [hC1];exact BL (by simp [hcl]; omega)
  show ((C1.toList.take ((i+(n - j))*sz)++zs)++_).take _=_;rw [e1,zQX];exact BL (by rw [zQG,hcl,zQx]; simp; omega)
theorem xS.takeS{F:Nat->Prop}{rows:List (List T)}{cs:List Value}(h:xS w F sz rows cs){k:Nat}(hk:k<=rows.length):xS w F sz (rows.take k) (cs.take (k*sz)):=by
 have hs:=h.size;have h1:k*sz<=rows.length*sz:=zQq _ hk;refine ⟨by simp [zWq hk]; omega,λi row hi=>h.len i row (by rw [zQK] at hi; split at hi <;> simp_all),λi row j x hi hj=>?_⟩;rw [zQK] at hi
 split at hi
 ·rename_i hlt;have hlen:=h.len i row hi;obtain ⟨u,hu,ho,hr⟩:=h.rd i row j x hi hj;have hj':=(sr.1 hj).1;exact ⟨u,by rw [zZG (TG hlt ak)]; exact hu,ho,hr⟩
 ·cases hi
theorem xS.dropS{F:Nat->Prop}{rows:List (List T)}{cs:List Value}(h:xS w F sz rows cs)(k:Nat):xS w F sz (rows.drop k) (cs.drop (k*sz)):=by
 have hs:=h.size;refine ⟨by simp [hs,Nat.sub_mul],λi row hi=>h.len (k+i) row (by rw [zQJ] at hi; exact hi),λi row j x hi hj=>?_⟩;rw [zQJ] at hi;obtain ⟨u,hu,ho,hr⟩:=h.rd (k+i) row j x hi hj;exact ⟨u,by rw [zQJ,<- hu,zYz,zZX],ho,hr⟩
theorem Xv{rows:List (List T)}(hc:tM P f)(hraw:Xu P f e sz)(hij:i < j)(hj:j<=rows.length) :
  av P f [.one (.ow e sz rows),.one (.t (.int .i64 i)),.one (.t (.int .i64 j))] (.one (.ow e sz (rows.take i++rows.drop j))) []:=by
 refine ⟨hc,λw F us bs hF hV hn hb htb=>?_⟩
 cases hV with
 | cons _ v0 b0 _ vs0 bs0 h1 hs1 =>
 cases h1 with
 | one _ _ _ h1 =>
 cases hs1 with
 | cons _ v1 b1 _ vs1 bs1 h2 hs2 =>
 cases h2 with
 | one _ _ _ h2 =>
 cases hs2 with
 | cons _ v2 b2 _ vs2 bs2 h3 hs3 =>
 cases h3 with
 | one _ _ _ h3 =>
 cases hs3
 cases h2 with
 | t _ _ h2 =>
 cases h2
 cases h3 with
 | t _ _ h3 =>
 cases h3
 cases h1 with
 | ow _ _ _ _ inner ho hr =>
 obtain ⟨hl,ho⟩:=ho;rcases ho with ⟨_,h0⟩ | ⟨g,cap,cur,hv,_,hg,hnc,hcm,hsz,htk⟩
 ·omega
 subst hv;simp only [Value.ownBlock,Option.toList,zWW,zWH,List.singleton_append,List.nodup_cons,zQy,zXy] at hn hb;have hDW:Z7 w g rows.length cap i j e sz cur:=⟨hij,hj,hnc,hcm,hg,hsz,λj v hj hv=>QA hr j v hj (by rw [<- htk,zQK,if_pos hj]; simpa using hv)⟩;refine (hraw w g rows.length cap i j cur hDW).mono λx w' ⟨cur',hx,hcalm,hold,hb',hs',htk'⟩=>?_;have hgw:g < w.heap.size:=(Wk.1 hg).1;have hSame:Av F w w':=λk hk=>hold k (hF k hk) (λh=>hb k Tz hk);have hinner:cur.toList.take (i*sz)++(cur.toList.drop (j*sz)).take ((rows.length - j)*sz)=inner.take (i*sz)++inner.drop (j*sz):=by
  have e1:i*sz<=rows.length*sz:=zQq _ ak;rw [<- htk,zZw,zWq e1,List.drop_take,Nat.sub_mul]
 rw [hinner] at htk';have hR:=xS.app (hr.takeS (k:=i) ak) (hr.dropS j);have hlen:(rows.take i++rows.drop j).length=i+(rows.length - j):=by simp; omega
 refine ⟨_,F,[g],[],hx,hcalm,λk hk hkb=>hold k hk (λh=>hkb (by simp [h,Value.ownBlock])),λ_ h=>h,λk hk=>⟨zWV (hF k hk) hcalm.size,λ_=>.inl hk,.inl hk⟩,?_,?_,by simp,λk hk=>?_⟩
 ·rw [<- hlen] at htk' ⊢;exact .one _ _ _ (.ow e sz _ _ _ ⟨hR.size,.inr ⟨g,cap,cur',rfl,zYy _,hb',by omega,hcm,hs',htk'⟩⟩ (hR.mono hSame λ_ h=>h))
 ·exact .skip _ _ _ _ _ _ (λc h=>by cases h) (.skip _ _ _ _ _ _ (λc h=>by cases h) (.skip _ _ _ _ _ _ (λc h=>by cases h) .nil))
 ·simp only [zWW,zQy] at hk;subst hk;exact ⟨hb _ WT,.inr WT⟩
end
end Go.Tm
