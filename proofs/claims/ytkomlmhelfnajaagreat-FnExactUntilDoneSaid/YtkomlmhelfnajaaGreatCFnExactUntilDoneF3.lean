/- The abstract machine tells the truth of the translated code. -/
import Derived.JoinedOf
import Derived.Shelf.RegionOpenPlain
import Derived.WalkKit
import Derived.Lib.Walk
import Derived.Lib.SliceRun
import Derived.Lib.JoinLaws
import Derived.Lib.Overlaps
import Derived.Lib.AppendZerosOnto
import Derived.Laws.Externs
import Derived.Test.YtkomlmhelfnajaaGreatCFnExactUntilDoneF2
set_option linter.unusedVariables false
set_option linter.unusedSimpArgs false
open Bool renaming false_eq_true->zQw
open List renaming append_assoc->zQH,append_nil->zWY,cons_append->zXz,getElem?_append_left->zQZ,getElem?_append_right->zQY,getElem?_cons_zero->zWH,getElem?_drop->zQJ,getElem?_eq_getElem->sX,getElem?_set_self->zYW,getElem?_take->zQK,getElem?_take_of_lt->zYh,head?->zYY,head?_drop->zXW,length->zYZ,length_append->zQh,length_cons->zQq,length_map->zXQ,length_nil->zXj,length_take->zQz,map_append->zXh,map_cons->zWk,map_toArray->zZX,mem_map->zXx,mem_of_getElem?->zQX,mem_singleton->zWW,nil_append->zQy,replicate->zQV,singleton_append->zYX,tail->zYq,tail_drop->zXV,take_of_length_le->zXG
open Nat renaming add_mul->zYV,add_zero->zXy,beq->zWz,eq_of_beq_eq_true->zWG,le_refl->zWX,lt_of_lt_of_le->zWK,min_eq_left->zWx,mul_le_mul_right->zQG,succ_mul->zXH,zero_add->zWJ,zero_le->zYz
open List renaming getElem?_eq_some_iff->aab
open Option renaming map_eq_some_iff->aac
open Option renaming isSome_iff_exists->aae
open Array renaming getElem?_eq_some_iff->aag
open List renaming mem_cons->aah
open List renaming mem_iff_getElem?->aaj
namespace Go.Tm
open Go
section
variable {P:Program} {n:Nat} {ls:List Nat} {Q:Exit->St->Prop} {N:St->Prop} {st:St} {p:Nat->Bool} {ρ:Nat->fi} {ops:Array Oper} {l l':List Oper} {K:St->Prop} {y:Code} {o:Oper}
def qdX:Option A->Option Int
 | some (.t (.int _ i))=>some i
 | _=>none
theorem VU{a:Option A}{i:Int}(h:qdX a=some i):∃ k,a=some (.t (.int k i)):=by
 unfold qdX at h
 split at h
 ·rename_i k j; cases h; exact ⟨k,rfl⟩
 ·cases h
def qfJ(st:St):Option A->Option (List (List T))
 | some (.t (.sl _ rows))=>some rows
 | some .nil=>some []
 | some (.own r)=>match st.rw r with
  | some (.live _ _ rows)=>some rows
  | some (.frz _ rows)=>some rows
  | _=>none
 | _=>none
theorem qcS{a:Option A}{rows:List (List T)}(h:qfJ st a=some rows):∃ y m,a=some y/\((y.rows λm rows=>MA.ret (m,rows)).run st).map Prod.fst=some (m,rows):=by
 unfold qfJ at h
 split at h
 ·cases h; exact ⟨_,_,rfl,rfl⟩
 ·cases h; exact ⟨_,_,rfl,rfl⟩
 ·rename_i r
  split at h
  ·rename_i e sz rows hr; cases h; exact ⟨.own r,sz,rfl,by simp [A.rows,MA.run,hr]⟩
  ·rename_i sz rows hr; cases h; exact ⟨.own r,sz,rfl,by simp [A.rows,MA.run,hr]⟩
  ·cases h
 ·cases h
def qcT(nn:Nat)(st:St):Option A->Option (List (List T))
 | some (.t (.sl m rows))=>bif zWz m nn then some rows else none
 | some .nil=>some []
 | some (.own r)=>match st.rw r with
  | some (.live _ m rows)=>bif zWz m nn then some rows else none
  | some (.frz m rows)=>bif zWz m nn then some rows else none
  | _=>none
 | _=>none
theorem qbN{nn:Nat}{a:Option A}{rows:List (List T)}(h:qcT nn st a=some rows):∃ y m,a=some y/\((y.rows λm rows=>MA.ret (m,rows)).run st).map Prod.fst=some (m,rows)/\(m=nn\/rows=[]):=by
 have key:∀ {m:Nat} {rs:List (List T)},(bif zWz m nn then some rs else none)=some rows->m=nn/\rs=rows:=λ{m rs} h=>by
  cases hm:zWz m nn with
  | true=>rw [hm] at h; cases h; exact ⟨zWG hm,rfl⟩
  | false=>rw [hm] at h; cases h
 unfold qcT at h
 split at h
 ·obtain ⟨rfl,rfl⟩:=key h; exact ⟨_,_,rfl,rfl,.inl rfl⟩
 ·cases h; exact ⟨_,0,rfl,rfl,.inr rfl⟩
 ·rename_i r
  split at h
  ·rename_i e m rs hr; obtain ⟨rfl,rfl⟩:=key h; exact ⟨.own r,m,rfl,by simp [A.rows,MA.run,hr],.inl rfl⟩
  ·rename_i m rs hr; obtain ⟨rfl,rfl⟩:=key h; exact ⟨.own r,m,rfl,by simp [A.rows,MA.run,hr],.inl rfl⟩
  ·cases h
 ·cases h
def ZF:List Oper->Option Nat
 | o :: _=>o.dst
 | []=>none
theorem JS{k:Nat}(h:l.drop k=o :: l'):l.drop (k+1)=l'/\ZF (l.drop k)=o.dst:=by
 have h1:=congrArg (List.drop 1) h;rw [List.drop_drop] at h1;exact ⟨h1,by rw [h]; rfl⟩
theorem aQ{α β:Type}{r:β}{xs:List α}{i:Int}{g:α->Option β}(k e sz:Nat)(f:α->List T)(h:(ce xs i).bind g=some r){t:TypeId}{a b:Operand}
  (hk:∀ y,g y=some r->ce xs i=some y->aa P p ρ ops (l.drop (k+1)) ((Cy P ρ ops k l st).put (ZF (l.drop k)) (.fadr (f y))) K) (hl:l.drop k=o :: l':=by rfl) (h1:(yW P ρ ops (l.take k) st).isSome=true:=by kernel_rfl)
  (ho:o.op=.indexAddr t a b:=by rfl) (hg:lw ops (Cy P ρ ops k l st) o=some true:=by kernel_rfl) (hf:gc ρ (Cy P ρ ops k l st) o=true:=by kernel_rfl) (ha:(Cy P ρ ops k l st).eval a=some (.t (.sl sz (xs.map f))):=by kernel_rfl)
  (hb:qdX ((Cy P ρ ops k l st).eval b)=some i:=by kernel_rfl) (hu:P.underlying t=some (.slice e):=by kernel_rfl) (hs:kF P e=some sz:=by kernel_rfl):aa P p ρ ops l st K:=by
 obtain ⟨e1,e2⟩:=JS hl;simp only [e1,e2] at hk;refine bc k h1 ?_;obtain ⟨y,h2,h3⟩:=aap h;obtain ⟨kk,hb⟩:=VU hb;rw [hl];exact qex f xs i ho hg hf ha hb hu hs h2 (hk y h3 h2)
theorem bS{α β:Type}{r:β}{xs:List α}{i:Int}{g:α->Option β}(k e sz rw e':Nat)(f:α->List T)(h:(ce xs i).bind g=some r){t:TypeId}{a b:Operand}
  (hk:∀ y,g y=some r->ce xs i=some y->aa P p ρ ops (l.drop (k+1)) ((Cy P ρ ops k l st).put (ZF (l.drop k)) (.elem rw sz i.toNat 0)) K) (hl:l.drop k=o :: l':=by rfl) (h1:(yW P ρ ops (l.take k) st).isSome=true:=by kernel_rfl)
  (ho:o.op=.indexAddr t a b:=by rfl) (hg:lw ops (Cy P ρ ops k l st) o=some true:=by kernel_rfl) (hf:gc ρ (Cy P ρ ops k l st) o=true:=by kernel_rfl) (ha:(Cy P ρ ops k l st).eval a=some (.own rw):=by kernel_rfl)
  (hr:(Cy P ρ ops k l st).rw rw=some (.live e' sz (xs.map f)):=by kernel_rfl) (hb:qdX ((Cy P ρ ops k l st).eval b)=some i:=by kernel_rfl) (hu:P.underlying t=some (.slice e):=by kernel_rfl) (hs:kF P e=some sz:=by kernel_rfl):aa P p ρ ops l st K:=by
 obtain ⟨e1,e2⟩:=JS hl;simp only [e1,e2] at hk;refine bc k h1 ?_;obtain ⟨y,h2,h3⟩:=aap h;obtain ⟨kk,hb⟩:=VU hb;rw [hl];exact qey f xs i rw ho hg hf ha hr hb hu hs h2 (hk y h3 h2)
theorem aC{α:Type}(k e:Nat)(f:α->List T)(xs:List α){t:TypeId}{x:Operand}{args:Array Operand}{ts:Array TypeId}(hk:aa P p ρ ops (l.drop (k+1)) ((Cy P ρ ops k l st).put (ZF (l.drop k)) (.t (.int .i64 xs.length))) K)(hl:l.drop k=o :: l':=by rfl)
  (h1:(yW P ρ ops (l.take k) st).isSome=true:=by kernel_rfl) (ho:o.op=.call { callee:=.builtin .len,args,argTypes:=ts }:=by rfl) (hargs:args.toList=[x]:=by rfl) (hts:ts.toList=[t]:=by rfl) (hg:lw ops (Cy P ρ ops k l st) o=some true:=by kernel_rfl)
  (hf:gc ρ (Cy P ρ ops k l st) o=true:=by kernel_rfl) (hx:qfJ (Cy P ρ ops k l st) ((Cy P ρ ops k l st).eval x)=some (xs.map f):=by kernel_rfl) (hu:P.underlying t=some (.slice e):=by kernel_rfl):aa P p ρ ops l st K:=by
 obtain ⟨e1,e2⟩:=JS hl;simp only [e1,e2] at hk;refine bc k h1 ?_;obtain ⟨y,m,hx,hy⟩:=qcS hx;rw [hl];exact qeB f xs m ho hargs hts hg hf hx hy hu hk
theorem bx{α β:Type}{r:β}{xs ys:List α}{g:Unit->Option β}{by_:Nat}(k d e nn rw:Nat)(f:α->List T)(h:(de (decide ((xs.length+ys.length)*by_<=140737488355328))).bind g=some r){t:TypeId}{ts:Array TypeId}{args:Array Operand}{a b:Operand}
  (hk:g ()=some r->aa P p ρ ops (l.drop (k+1)) (({ Cy P ρ ops k l st with rw:=jL (jL (Cy P ρ ops k l st).rw rw (some .gone)) (lA d 0) (some (.live e nn ((xs++ys).map f))) }:St).put (ZF (l.drop k)) (.own (lA d 0))) K) (hl:l.drop k=o :: l':=by rfl) (h1:(yW P ρ ops (l.take k) st).isSome=true:=by kernel_rfl)
  (ho:o.op=.call { callee:=.builtin .append,args,argTypes:=ts }:=by rfl) (hargs:args.toList=[a,b]:=by rfl) (hts:ts.toList=[t,t]:=by rfl) (hd:o.dst=some d:=by rfl) (hg:lw ops (Cy P ρ ops k l st) o=some true:=by kernel_rfl) (hf:gc ρ (Cy P ρ ops k l st) o=true:=by kernel_rfl)
  (ha:(Cy P ρ ops k l st).eval a=some (.own rw):=by kernel_rfl) (hr:(Cy P ρ ops k l st).rw rw=some (.live e nn (xs.map f)):=by kernel_rfl) (hy:qcT nn (Cy P ρ ops k l st) ((Cy P ρ ops k l st).eval b)=some (ys.map f):=by kernel_rfl)
  (hi:KU P t=some (e,nn,by_):=by kernel_rfl) (hne:zWz (lA d 0) rw=false:=by kernel_rfl) (hfree:(Cy P ρ ops k l st).rw (lA d 0)=none:=by kernel_rfl):aa P p ρ ops l st K:=by
 obtain ⟨e1,e2⟩:=JS hl;simp only [e1,e2] at hk;refine bc k h1 ?_;obtain ⟨_,h2,h3⟩:=aap h;obtain ⟨y,m,hb,hy,hm⟩:=qbN hy;rw [hl];exact qeA f d m e nn by_ rw xs ys ho hargs hts hd hg hf ha hr hb hy hm hi (of_decide_eq_true (bm h2)) hne hfree (hk h3)
theorem d5{α:Type}{y:α}{xs:List α}{i:Nat}(k sz m rw off e':Nat)(gg:Bool)(f:α->List T)(h:xs[i]?=some y){t:TypeId}{a:Operand}(hk:aa P p ρ ops (l.drop (k+1)) ((Cy P ρ ops k l st).put (ZF (l.drop k)) ((Mo gg m ((f y).map A.t) off).getD .undef)) K)(hl:l.drop k=o :: l':=by rfl)(h1:(yW P ρ ops (l.take k) st).isSome=true:=by kernel_rfl)
  (ho:o.op=.load t a:=by rfl) (hg:lw ops (Cy P ρ ops k l st) o=some true:=by kernel_rfl) (hf:gc ρ (Cy P ρ ops k l st) o=true:=by kernel_rfl)
  (ha:(Cy P ρ ops k l st).eval a=some (.elem rw sz i off):=by kernel_rfl) (hr:(Cy P ρ ops k l st).rw rw=some (.live e' sz (xs.map f)):=by kernel_rfl) (hgg:qbe P t=some gg:=by kernel_rfl) (hm:kF P t=some m:=by kernel_rfl) (hc:(Mo gg m ((f y).map A.t) off).isSome=true:=by kernel_rfl):aa P p ρ ops l st K:=by
 obtain ⟨e1,e2⟩:=JS hl;simp only [e1,e2] at hk;refine bc k h1 ?_;obtain ⟨x,hx⟩:=aae.1 hc;rw [hx] at hk;rw [hl];exact qcN f xs rw i off x ho hg hf ha hr hgg hm h hx hk
end
theorem ZG{P:Program}{f:FuncId}{vs:List V}{o o':Nat}{outs:List (List C)}(hc:zWz o o'=true)(h:yh P f vs o outs):yh P f vs o' outs:=zWG hc ▸ h
abbrev V.i(n:Int):V:=.one (.t (.int .i64 n))
abbrev V.b(b:Bool):V:=.one (.t (.bool b))
abbrev cG(l:List T):V:=.agg (l.map .t)
def cw:List Nat->List T->List C
 | 0 :: es,x :: xs=>.t x :: cw es xs
 | (e+1) :: es,.sl sz rows :: xs=>.ow (e+1) sz rows :: cw es xs
 | _ :: es,x :: xs=>.t x :: cw es xs
 | [],xs=>xs.map .t
 | _ :: _,[]=>[]
def V.w(es:List Nat)(l:List T):V:=.agg (cw es l)
section
variable {P:Program} {n:Nat} {ls:List Nat} {Q:Exit->St->Prop} {st:St} {p:Nat->Bool} {ρ:Nat->fi} {ops:Array Oper} {l:List Oper} {K:St->Prop} {y:Code} {o:Oper}
theorem qeG{α:Type}(f:α->List T)(xs:List α)(r:Nat)(i j:Int){t e e':TypeId}{x:Operand}{lo hi:Option Operand}{alo ahi:Option A}(ho:o.op=.slice t x lo hi none)(hg:lw ops st o=some true)(hf:gc ρ st o=true)(hx:st.eval x=some (.own r))
  (hlo:S6 st.eval lo=some alo) (hhi:S6 st.eval hi=some ahi) (hn:ahi.isNone=false) (hl:EP 0 alo=some i) (hh:EP xs.length ahi=some j) (hr:st.rw r=some (.live e' 1 (xs.map f))) (hu:P.underlying t=some (.slice e)) (hs:kF P e=some 1) (hw:qdI ρ o.dst=true) (h:dW i j xs.length=true)
  (hk:aa P p ρ ops l (st.put o.dst (.win r i.toNat (j - i).toNat)) K):aa P p ρ ops (o :: l) st K:=by
 have h':=Oy h;refine aa.pure (x:=.win r i.toNat (j - i).toNat) hg hf ?_ hk;simp only [uq,ho,hx,hlo,hhi,qfe,hw,hn,Bool.true_or,zQw,Zi,hu,hl,hs,MA.run,hr,zXQ,hh,h'.1,h'.2.1,h'.2.2,and_self,true_and,↓reduceIte]
theorem qcU{α β:Type}(f:α->β){xs ys:List α}{lo m:Nat}(h:lo+m<=xs.length)(hm:ys.length<=m):(DJ xs ys lo).map f=(xs.map f).take lo++ys.map f++(xs.map f).drop (lo+(ys.map f).length):=by
 unfold DJ;have h1:ys.take (xs.length - lo)=ys:=zXG aD;have h2:min ys.length (xs.length - lo)=ys.length:=by omega
 rw [h1,h2,zXh,zXh,List.map_take,List.map_drop,zXQ]
theorem qcV{α:Type}(f:α->List T)(xs ys:List α)(r lo m k:Nat){t t' e e':TypeId}{a b:Operand}{y:A}{args:Array Operand}{ts:Array TypeId}(ho:o.op=.call { callee:=.builtin .copy,args,argTypes:=ts })(hargs:args.toList=[a,b])(hts:ts.toList=[t,t'])(hg:lw ops st o=some true)(hf:gc ρ st o=true)
  (ha:st.eval a=some (.win r lo m)) (hb:st.eval b=some y) (hy:((y.rows λm rows=>MA.ret (m,rows)).run st).map Prod.fst=some (k,ys.map f)) (hm:k=1\/ys.map f=[]) (hr:st.rw r=some (.live e' 1 (xs.map f))) (hu:P.underlying t=some (.slice e)) (hs:kF P e=some 1) (h:lo+m<=xs.length) (hl:ys.length<=m)
  (hk:aa P p ρ ops l ((({ st with rw:=jL st.rw r (some (.live e' 1 ((DJ xs ys lo).map f))) }:St)).put o.dst (.t (.int .i64 (ys.length:Nat)))) K):aa P p ρ ops (o :: l) st K:=by
 refine aa.op (x:=.t (.int .i64 (ys.length:Nat))) hg hf ?_ hk;simp only [uq,ho,hargs,ha,hb,hts,Mp,Oc,hu,hs,↓reduceIte];rw [Ow hy];simp only [hm,zXQ,hl,and_self,↓reduceIte,MA.run,hr,h,qcU f h hl]
theorem qgN{fid e lo m:Nat}{vs:List V}(k d r:Nat)(ts:List T)(rows:List (List T))(az:List A)(hc:SB P fid e ts rows vs lo m)
  (hk:aa P p ρ ops (l.drop (k+1)) ((Cy P ρ ops k l st).put (some d) (.win r lo m)) K)
  (h1:(yW P ρ ops (l.take k) st).isSome=true:=by kernel_rfl) (h2:Q2 P ρ ops (Cy P ρ ops k l st) (l.drop k)=some (fid,.agg (ts.map A.t++[.own r]) :: az,d):=by kernel_rfl)
  (h0:(match l.drop k with | o :: _=>(match o.op with | .call c=>(match c.callee with | .value xf=>(Cy P ρ ops k l st).eval xf | _=>none) | _=>none) | []=>none)=some (.clo fid []):=by kernel_rfl)
  (h3:(Cy P ρ ops k l st).rw r=some (.live e 1 rows):=by kernel_rfl) (h4:LE az=some vs:=by kernel_rfl):aa P p ρ ops l st K:=by
 refine bc k h1 ?_;simp only [Cy] at h2 h0 h3 hk;generalize St.or (yW P ρ ops (l.take k) st)=st1 at *;obtain ⟨o,l',xf,args,tys,az',caps,e1,e2,e3,e4,e5,e6,e7,e8⟩:=JR h2;simp only at e5 e6 e8;have e9:l.drop (k+1)=l':=by rw [<- List.drop_drop,e1]; rfl
 rw [e9] at hk;rw [e1] at h0;simp only [e4] at h0;rw [h0] at e6;have hcap:caps=[]:=by injection e6 with e6; injection e6 with _ e6; exact e6.symm
 subst hcap;rw [zWY] at e8;rw [e1];refine aa.step (.run (.win r lo m) st1 e2 e3 (.callW d fid r e lo m ts rows xf args tys az vs e4 e5 h0 (e7.trans (congrArg some e8.symm)) h3 h4 hc rfl rfl)) (by rw [e5]; exact hk)
theorem obw{f:FuncId}{c:Code}{e lo m:Nat}{ts:List T}{rows:List (List T)}{args:List V}(fn:Func)(as_:List A)
  (h:Wp P fn.ntmps [0] c (qhF P fn lo m e rows) (ii (.agg (ts.map A.t++[.own PR]) :: as_) (Im e 1 rows))) (hrs:∀ row∈rows,∀ x∈row,T.sc x=true)
  (hb:fn.body=some c:=by rfl) (hf:P.funcs[f]?=some fn:=by kernel_rfl) (hnm:(fn.name == "runtime.NumGoroutine")=false:=by kernel_rfl) (hle:Nat.ble (as_.length+1) fn.ntmps=true:=by kernel_rfl) (ht:DU fn.ntmps fn=true:=by kernel_rfl)
  (ha:LE as_=some args:=by kernel_rfl):SB P f e ts rows args lo m :=
 Yp hf hb hnm (Nat.le_of_ble_eq_true hle) ht ha hrs h
theorem qiU{fn:Func}{lo m e:Nat}{rows:List (List T)}(h1:(DH P st fn.results.toList).map qcI=some (.win PR lo m):=by kernel_rfl)(h2:st.rw PR=some (.live e 1 rows):=by kernel_rfl):qhF P fn lo m e rows .ret st:=by
 obtain ⟨l,h3,h4⟩:=aac.1 h1;exact ⟨.inl rfl,⟨l,h3,h4⟩,h2⟩
end
section
variable {P:Program} {n:Nat} {ls:List Nat} {Q:Exit->St->Prop} {st:St} {x y:Code}
theorem MB(R:St->Prop)(J:∀ s,R s->Wp P n ls y Q s)(h:Wp P n ls x (jd R Q) st):Wp P n ls (.seq x y) Q st:=ap (h.mono λe s hq=>by
 cases e with
 | normal=>exact J s hq
 | _=>exact hq)
theorem Wp.L(R:Nat->St->Prop)(h0:∀ s,¬ R 0 s)(hs:∀ k s,R (k+1) s->Wp P n ls x (jd (R k) Q) s){k:Nat}(h:R k st):Wp P n ls (.loop x) Q st:=by
 refine Wp.loop (k:=k) ?_
 induction k generalizing st with
 | zero=>exact absurd h (h0 st)
 | succ k ih =>
  refine (hs k st h).mono λe s hq=>?_
  cases e with
  | normal=>exact ih hq
  | _=>exact hq
end
def Z9(P:Program):Nat->List FuncId->List FuncId->Nat->List FuncId×List FuncId×Nat
 | 0,todo,seen,m=>(todo,seen,m)
 | n+1,[],seen,m=>([],seen,m)
 | n+1,f :: todo,seen,m=>if m.testBit f then Z9 P n todo seen m else Z9 P n ((P.funcs[f]?).elim [] P.leadsTo++todo) (f :: seen) (m ||| 2 ^ f)
def okB(seen:List FuncId)(m:Nat):Prop:=∀ f:Nat,seen.contains f=m.testBit f
theorem qgO{seen:List FuncId}{m:Nat}(h:okB seen m)(f:Nat):okB (f :: seen) (m ||| 2 ^ f):=λg=>by
 rw [List.contains_cons,h g,Nat.testBit_or,Nat.testBit_two_pow,Bool.or_comm]
 congr 1
 by_cases hg:g=f
 ·simp [hg]
 ·have:¬ f=g:=λh=>hg h.symm;simp [hg,this]
theorem VW(P:Program):∀ (a b:Nat) (todo seen:List FuncId) (m:Nat),okB seen m->P.closureVia (a+b) todo seen=P.closureVia b (Z9 P a todo seen m).1 (Z9 P a todo seen m).2.1
 | 0,b,todo,seen,m,h=>by rw [zWJ]; rfl
 | a+1,b,[],seen,m,h=>by
  rw [show a+1+b=(a+b)+1 by omega];show seen.reverse=P.closureVia b [] seen
  cases b <;> rfl
 | a+1,b,f :: todo,seen,m,h=>by
  rw [show a+1+b=(a+b)+1 by omega];rw [show P.closureVia ((a+b)+1) (f :: todo) seen=if seen.contains f then P.closureVia (a+b) todo seen else P.closureVia (a+b) ((P.funcs[f]?).elim [] P.leadsTo++todo) (f :: seen) from rfl,
   show Z9 P (a+1) (f :: todo) seen m=if m.testBit f then Z9 P a todo seen m else Z9 P a ((P.funcs[f]?).elim [] P.leadsTo++todo) (f :: seen) (m ||| 2 ^ f) from rfl,h f]
  cases m.testBit f with
  | true=>exact VW P a b todo seen m h
  | false=>exact VW P a b _ _ _ (qgO h f)
def ZH(P:Program):Nat:=1+(P.funcs.toList.map λg=>(P.leadsTo g).length+1).sum
theorem qcW{P:Program}{f:FuncId}{a m:Nat}{L:List FuncId}(h:Z9 P a [f] [] 0=([],L.reverse,m))(hF:Nat.ble a (ZH P)=true):P.closure f=L:=by
 have hle:=Nat.le_of_ble_eq_true hF;unfold Program.closure;show P.closureVia (ZH P) [f] []=L;rw [show ZH P=a+(ZH P - a) by omega,VW P a _ _ _ 0 (λg=>by simp),h]
 cases ZH P - a <;> simp [Program.closureVia]
theorem qcX{P:Program}{f:FuncId}{L:List FuncId}{l:List String}(h:P.closure f=L)(h2:(L.filterMap λg=>(P.funcs[g]?).bind λfn=>if fn.ours || fn.body.isNone || fn.name == "runtime.NumGoroutine" then some fn.name else none)=l):P.inPlace f=l:=by
 unfold Program.inPlace; rw [h,h2]
theorem Yq{P:Program}{f:FuncId}{L:List FuncId}{b:Bool}(h:P.closure f=L)(h2:(L.any λg=>(P.funcs[g]?).any λfn=>match fn.body with | some c=>c.unfollowed | none=>entryCalls fn)=b):P.unfollowed f=b:=by
 unfold Program.unfollowed; rw [h]; exact h2
theorem qbO{P:Program}{f:FuncId}(h:P.unfollowed f=true):P.recurses f=true:=by
 unfold Program.recurses; rw [h]; rfl
theorem qaa{P:Program}{f:FuncId}{L:List FuncId}{l:List String}(h:P.closure f=L)(h2:((((L.flatMap λg=>((P.funcs[g]?).bind (·.body)).elim [] Code.globalsNamed).eraseDups).filterMap (λg=>(P.globals[g]?).map (·.name)) ++
  L.filterMap λg=>(P.funcs[g]?).bind λfn=>if fn.body.isNone then entryReads.lookup fn.name else none).eraseDups)=l):P.varsNamed f=l:=by
 unfold Program.varsNamed; rw [h,h2]
end Go.Tm
namespace Go.Tm
open Go.RowKit
theorem BL{P:Program}(w:World)(dT sT ty elem:TypeId)(g o dLen dCap sz:Nat)(a:Addr)(sLen sCap:Nat)(cur:Array Value)(t:TypeId)(cs:List Value)
  (hu:P.underlying dT=some (.slice elem)) (hs:(P.info? elem).map (·.size)=some sz)
  (hg:w.heap[g]?=some (.cells cur t (0,0))) (hn:cs.length=Nat.min sLen dLen*sz)
  (hsrc:∀ j v,cs[j]?=some v->w.cell? (a.add j)=some v) (hfit:o+cs.length<=cur.size) (h1:∀ v∈cs,v.oneCell'=true) :
  (Builtin.copy_ #[dT,sT] ty #[.slice (some ⟨g,o,none⟩) dLen dCap,.slice (some a) sLen sCap]).run P w =
   .ok (goInt (Nat.min sLen dLen)) (w.setRow g (cur.toList.take o++cs++cur.toList.drop (o+cs.length)).toArray):=by
 have hl:=run_loadCells_list (P:=P) w a cs hsrc;have hst:=run_storeCells_at P g o t cs 0 cur w hg (by simpa using hfit) h1
 cases hq:P.info? elem with
 | none=>simp [hq] at hs
 | some i =>
  have hi:i.size=sz:=by simpa [hq] using hs
  simp [Builtin.copy_,run_underlying hu,Builtin.lenOf,Builtin.firstCells,sizeOf,typeInfo,hq,hi,<- hn,hl,hst]
end Go.Tm
namespace Go.Tm
open Go.RowKit Go.Lib Go.Proofs
section
variable {P:Program}
theorem OE(w:World){ops:Array Oper}{rest:List Oper}{o:Oper}{a:Act}{Q:Exit->Act->World->Prop}(hgd:o.guard=none)(d s:Operand)(t t':TypeId)
  (ho:o.op=.call { callee:=.builtin .copy,args:=#[d,s],argTypes:=#[t,t'] }) (v u:Value) (hd:a.eval d=v) (hs:a.eval s=u) {v':Value} {w':World}
  (hr:(Builtin.copy_ #[t,t'] o.type #[v,u]).run P w=.ok v' w') (h:wpList P ops Q rest (a.put o.dst v') w'):wpList P ops Q (o :: rest) a w :=
 wpList_plain hgd λ_ hK=>by
  unfold Oper.wp execOp;simp only [ho,resolve,invoke,builtin,Sem.run_bind,Sem.run_pure,Result.andThen_ok,zZX,zWk,List.map_nil,hd,hs,hr];exact hK _ _ h
theorem VX{ops:Array Oper}{o:Oper}{a:Act}{w:World}{K:Act->World->Prop}{Q:Exit->Act->World->Prop}{E:Prop}
  (hg:o.guard=none) (d x:Operand) (dT sT:TypeId) (hop:o.op=Op.call { callee:=Callee.builtin Builtin.copy,args:=#[d,x],argTypes:=#[dT,sT] })
  (v u:Value) (hd:a.eval d=v) (hx:a.eval x=u) {v':Value} {w':World} (hr:(Builtin.copy_ #[dT,sT] o.type #[v,u]).run P w=.ok v' w') (hK:K (a.put o.dst v') w') :
  if Region.wanted o (yielded ops a.tmps)=true then Oper.wp P o a w K Q else E:=by
 have hw:Region.wanted o (yielded ops a.tmps)=true:=by simp [Region.wanted,hg]
 rw [if_pos hw];unfold Oper.wp;simp [execOp,hop,resolve,invoke,builtin,hd,hx,hr,Result.andThen];exact hK
structure Hd (p:Prop):Prop where
 out:p
structure qbP (P:Program) (f tS e tI tB fo sz bytes:Nat) (fn:Func) (z:Value):Prop where
 mixed:P.follows .mixedOrders=true
 hf:P.funcs[f]?=some fn
 ov:∀ vs w,(callFunc fo vs).run P w=((Extern.SlicesOverlaps.overlaps #[tS,tS] #[tB] vs).run P w).andThen λv w'=>.ok (.value v) w'
 t3:P.underlying tI=some (.int .i64)
 t4:P.underlying tB=some .bool
 t5:P.underlying tS=some (.slice e)
 i5:(P.info? e).map (λi=>(i.size,i.bytes))=some (sz,bytes)
 hz:(P.info? e).bind (·.zero)=some z
 zc:z.cells.size=sz
 pos:0 < sz
 bpos:0 < bytes
def qab(w:World)(b n i e sz:Nat)(cur:Array Value)(vs:List Value)(x:Ending)(w':World):Prop :=
 ∃ b' c' cur',x=.returned (.slice (some ⟨b',0,none⟩) (n+1) c')/\vF w w'/\(∀ k,k < w.heap.size->k≠b->w'.heap[k]?=w.heap[k]?)/\w'.heap[b']?=some (.cells cur' e (0,0))/\cur'.size=c'*sz/\n+1<=c'/\c'<=maxLen /\
  cur'.toList.take ((n+1)*sz)=cur.toList.take (i*sz)++vs++(cur.toList.drop (i*sz)).take ((n - i)*sz)/\(b'=b\/w.heap.size<=b')
structure qeH (w:World) (b n c i vb e sz bytes:Nat) (cur arr2:Array Value) (vs:List Value):Prop where
 hi:i < n
 hnc:n<=c
 hc:c<=maxLen
 big:(n+1)*bytes<=140737488355328
 hvb:vb≠b
 hcur:w.heap[b]?=some (.cells cur e (0,0))
 hsz:cur.size=c*sz
 harr:w.heap[vb]?=some (.cells arr2 e (0,0))
 vl:vs.length=sz
 hvs:∀ (j:Nat) (v:Value),vs[j]?=some v->arr2[j]?=some v
 h1c:∀ (j:Nat) (v:Value),j < n*sz->cur[j]?=some v->v.oneCell'=true
 h1v:∀ v∈vs,v.oneCell'=true
def qfK(P:Program)(f e sz bytes:Nat):Prop:=∀ (w:World) (b n c i vb vc:Nat) (cur arr2:Array Value) (vs:List Value),qeH w b n c i vb e sz bytes cur arr2 vs ->
 Calls P f #[.slice (some ⟨b,0,none⟩) n c,.int .i64 i,.slice (some ⟨vb,0,none⟩) 1 vc] w (qab w b n i e sz cur vs)
theorem qeI(A:Array Value)(o:Nat)(cs:List Value)(h:o+cs.length<=A.size):(A.toList.take o++cs++A.toList.drop (o+cs.length)).toArray.size=A.size:=by simp; omega
theorem qbQ{α:Type}{c:Bool}{x r:α}(h:(bif c then some x else none)=some r):c=true/\some x=some r:=by
 cases c with
 | true=>exact ⟨rfl,h⟩
 | false=>cases h
theorem HA{α:Type}{a b:List α}{k:Nat}(h:a.length=k):(a++b).take k=a:=List.take_left' h
theorem qfL{α:Type}{a b:List α}{k:Nat}(h:a.length=k):(a++b).drop k=b:=List.drop_left' h
variable {f tS e tI tB fo sz bytes:Nat} {fn:Func} {z:Value} {w:World} {b n c i vb vc:Nat} {cur arr2:Array Value} {vs:List Value}
theorem qbP.size(L:qbP P f tS e tI tB fo sz bytes fn z):∃ i0,P.info? e=some i0/\i0.size=sz/\i0.bytes=bytes/\i0.zero=some z:=by
 have h:=L.i5;have h2:=L.hz
 cases hq:P.info? e with
 | none=>simp [hq] at h
 | some x=>simp [hq] at h h2; exact ⟨x,rfl,h.1,h.2,h2⟩
theorem qeH.cs(H:qeH w b n c i vb e sz bytes cur arr2 vs):((cur.toList.drop (i*sz)).take ((n - i)*sz)).length=(n - i)*sz/\i*sz+(n - i)*sz=n*sz/\n*sz<=c*sz/\(i+1)*sz=i*sz+sz/\(n+1)*sz=n*sz+sz/\i*sz+sz<=n*sz:=by
 have h1:=H.hi;have h2:i*sz+(n - i)*sz=n*sz:=by rw [<- zYV]; congr 1; omega
 have h3:n*sz<=c*sz:=zQG _ H.hnc;have h4:(i+1)*sz<=n*sz:=zQG _ aD;have h5:=H.hsz;refine ⟨?_,h2,h3,zXH _ _,zXH _ _,by rw [<- zXH]; exact h4⟩;simp;omega
theorem qbP.shift(L:qbP P f tS e tI tB fo sz bytes fn z)(H:qeH w b n c i vb e sz bytes cur arr2 vs)(hroom:n+1<=c):∃ W1 W2,
  (∀ ty dc sc,(Builtin.copy_ #[tS,tS] ty #[.slice (some ⟨b,(i+1)*sz,none⟩) (n - i) dc,.slice (some ⟨b,i*sz,none⟩) (n+1 - i) sc]).run P w.drew=.ok (goInt (Nat.min (n+1 - i) (n - i))) W1) /\
  (∀ ty dc,(Builtin.copy_ #[tS,tS] ty #[.slice (some ⟨b,i*sz,none⟩) (n+1 - i) dc,.slice (some ⟨vb,0,none⟩) 1 vc]).run P W1=.ok (goInt (Nat.min 1 (n+1 - i))) W2) /\
  (∀ lb cb,(callFunc fo #[.slice (some ⟨vb,0,none⟩) 1 vc,.slice (some ⟨b,(i+1)*sz,none⟩) lb cb]).run P w=.ok (.value (.bool false)) w) /\
  Hd (qab w b n i e sz cur vs (.returned (.slice (some ⟨b,0,none⟩) (n+1) c)) W2):=by
 obtain ⟨i0,hi0,hzs,hzb,hz1⟩:=L.size;obtain ⟨hcl,h2,h3,h4,h5,h6⟩:=H.cs;obtain ⟨hi,hnc,hc,hbig,hvb,hcur,hsz,harr,hvl,hvs,h1c,h1v⟩:=H;have hpos:=L.pos;have h7:(n+1)*sz<=c*sz:=zQG _ hroom;have hsize:(P.info? e).map (·.size)=some sz:=by simp [hi0,hzs]
 have zz:∀ w,(Go.sizeOf e).run P w=.ok sz w:=λw=>by simp [sizeOf,typeInfo,hi0,hzs]
 obtain ⟨cs,hcs⟩:∃ cs,cs=(cur.toList.drop (i*sz)).take ((n - i)*sz):=⟨_,rfl⟩;rw [<- hcs] at hcl;obtain ⟨C1,hC1⟩:∃ C1:Array Value,C1=(cur.toList.take ((i+1)*sz)++cs++cur.toList.drop ((i+1)*sz+cs.length)).toArray:=⟨_,rfl⟩;have hC1s:C1.size=c*sz:=by rw [hC1,qeI _ _ _ (by rw [hcl,hsz]; omega),hsz]
 obtain ⟨C2,hC2⟩:∃ C2:Array Value,C2=(C1.toList.take (i*sz)++vs++C1.toList.drop (i*sz+vs.length)).toArray:=⟨_,rfl⟩;have hC2s:C2.size=c*sz:=by rw [hC2,qeI _ _ _ (by rw [hvl,hC1s]; omega),hC1s]
 have hW1b:(w.drew.setRow b C1).heap[b]?=some (.cells C1 e (0,0)):=setRow_heap w.drew b cur C1 e (0,0) hcur;have hW1v:(w.drew.setRow b C1).heap[vb]?=some (.cells arr2 e (0,0)):=by rw [setRow_other w.drew b vb C1 hvb]; exact harr
 refine ⟨w.drew.setRow b C1,(w.drew.setRow b C1).setRow b C2,λty dc sc=>?_,λty dc=>?_,λlb cb=>?_,⟨b,c,C2,rfl,⟨rfl,rfl,rfl,by simp [World.setRow,World.drew_eq]⟩,λk hk hb=>?_,setRow_heap _ b C1 C2 e (0,0) hW1b,hC2s,hroom,hc,?_,.inl rfl⟩⟩
 ·rw [hC1];refine BL w.drew _ _ ty e b ((i+1)*sz) (n - i) dc sz ⟨b,i*sz,none⟩ (n+1 - i) sc cur e cs L.t5 hsize hcur (by rw [hcl]; congr 1; simp only [Nat.min_def]; split <;> omega) (λj v hj=>?_) (by rw [hcl]; omega) (λv hv=>?_)
  ·rw [Addr.add_lit];have h2:cur[i*sz+j]?=some v:=by
    rw [hcs,zQK] at hj
    split at hj
    ·rw [zQJ] at hj; simpa using hj
    ·cases hj
   show World.cell? w _=_;simp [World.cell?,hcur,h2]
  ·rw [hcs] at hv;obtain ⟨j,hj⟩:=aaj.1 hv;rw [zQK] at hj
   split at hj
   ·rw [zQJ] at hj;exact h1c (i*sz+j) v aD wz8
   ·cases hj
 ·rw [hC2];exact BL _ _ _ ty e b (i*sz) (n+1 - i) dc sz ⟨vb,0,none⟩ 1 vc C1 e vs L.t5 hsize hW1b qh3 (λj v hj=>by
   rw [Addr.add_lit];have h2:=hvs j v hj;simp [World.cell?,hW1v,h2]) (by rw [hvl]; omega) h1v
 ·have hs1:w.shape? vb=some (e,arr2.size):=by simp [World.shape?,harr]
  have hs2:w.shape? b=some (e,cur.size):=by simp [World.shape?,hcur]
  rw [L.ov,Lib.run_overlaps_apart w tS tB e L.t5 sz zz ⟨vb,0,none⟩ ⟨b,(i+1)*sz,none⟩ 1 vc lb cb hvb e e arr2.size cur.size hs1 hs2 (by rw [hsz]; have:=Nat.mul_lt_mul_of_pos_right (show 0 < c by omega) hpos; omega) (by simp [World.frozen?,harr]) (by simp [World.frozen?,harr])];rfl
 ·rw [setRow_other _ b k C2 hb,setRow_other _ b k C1 hb]; rfl
 ·rw [<- hcs,hC2];have e1:C1.toList.take (i*sz)=cur.toList.take (i*sz):=by
   rw [hC1];simp only [zQH];rw [List.take_append_of_le_length il,List.take_take,zWx aD]
  have e2:C1.toList.drop (i*sz+vs.length)=cs++cur.toList.drop ((i+1)*sz+cs.length):=by
   rw [hC1];simp only [zQH];exact qfL (by simp [hvl]; omega)
  rw [e1,e2,<- zQH];exact HA (by simp [hvl,hcl]; omega)
theorem qbP.grow(L:qbP P f tS e tI tB fo sz bytes fn z)(H:qeH w b n c i vb e sz bytes cur arr2 vs)(hroom:c < n+1):∃ N G ROW R1 R2,n+1<=G/\G<=9223372036854775807 /\
  (∀ ty,(Builtin.append_ #[tS,tI] ty #[.slice (some ⟨b,0,none⟩) i c,.int .i64 ((n:Int)+1 - (i:Int))]).run P w=.ok (.slice (some ⟨N,0,none⟩) (n+1) G) (w.drew.alloc (.cells ROW e))) /\
  (∀ ty dc,(Builtin.copy_ #[tS,tS] ty #[.slice (some ⟨N,i*sz,none⟩) (n+1 - i) dc,.slice (some ⟨vb,0,none⟩) 1 vc]).run P (w.alloc (.cells ROW e)).drew=.ok (goInt (Nat.min 1 (n+1 - i))) ((w.alloc (.cells ROW e)).drew.setRow N R1)) /\
  (∀ ty dc sc,(Builtin.copy_ #[tS,tS] ty #[.slice (some ⟨N,(i+1)*sz,none⟩) (n - i) dc,.slice (some ⟨b,i*sz,none⟩) (n - i) sc]).run P ((w.alloc (.cells ROW e)).drew.setRow N R1).drew=.ok (goInt (Nat.min (n - i) (n - i))) (((w.alloc (.cells ROW e)).drew.setRow N R1).drew.setRow N R2)) /\
  Hd (qab w b n i e sz cur vs (.returned (.slice (some ⟨N,0,none⟩) (n+1) G)) (((w.alloc (.cells ROW e)).drew.setRow N R1).drew.setRow N R2)):=by
 obtain ⟨i0,hi0,hzs,hzb,hz1⟩:=L.size;obtain ⟨hcl,h2,h3,h4,h5,h6⟩:=H.cs;obtain ⟨hi,hnc,hc,hbig,hvb,hcur,hsz,harr,hvl,hvs,h1c,h1v⟩:=H;have hpos:=L.pos;have hsize:(P.info? e).map (·.size)=some sz:=by simp [hi0,hzs]
 have hik:i+(n+1 - i)=n+1:=by omega
 have hkk:(n:Int)+1 - (i:Int)=((n+1 - i:Nat):Int):=by omega
 have hc63:c<=9223372036854775807:=by unfold maxLen at hc; omega
 have hle:(n+1 - i)*bytes<=(n+1)*bytes:=zQG _ aD;have hold:(Builtin.firstCells i0.size i (.slice (some ⟨b,0,none⟩) i c)).run P w.drew=.ok (cur.toList.take (i*sz)).toArray w.drew:=by
  rw [hzs];exact run_firstCells_some w.drew sz i ⟨b,0,none⟩ i c (cur.toList.take (i*sz)) (by rw [zQz]; simp; omega) (λj v hj=>by
   rw [Addr.add_lit];rw [zQK] at hj
   split at hj
   ·show World.cell? w _=_;have h2:cur[j]?=some v:=by simpa using hj
    simp [World.cell?,hcur,h2]
   ·cases hj)
 have hcn:c=n:=by omega
 obtain ⟨G,hG⟩:∃ G,G=grownCap w (n+1) c e:=⟨_,rfl⟩;have hGn:n+1<=G:=by rw [hG]; exact grownCap_ge w _ _ _
 have hn63:n+1<=maxLen:=by
  have:n+1<=(n+1)*bytes:=Nat.le_mul_of_pos_right _ L.bpos;unfold maxLen; omega
 have hG63:G<=maxLen:=by rw [hG]; exact grownCap_le_maxLen w (n+1) c e hn63
 obtain ⟨ROW,hROW⟩:∃ ROW:Array Value,ROW=(cur.toList.take (i*sz)).toArray++Builtin.zeroCells z.cells (n+1 - i)++Builtin.zeroCells z.cells (G - (n+1)):=⟨_,rfl⟩;have hRl:ROW.size=G*sz:=by
  have e1:(n+1 - i)*sz+(G - (n+1))*sz+i*sz=G*sz:=by rw [<- zYV,<- zYV]; congr 1; omega
  rw [hROW];simp [Builtin.zeroCells,L.zc];omega
 have hGs:n*sz+sz<=G*sz:=by rw [<- zXH]; exact zQG _ hGn
 have hbw:b < w.heap.size:=(aag.1 hcur).1;have hvw:vb < w.heap.size:=(aag.1 harr).1;obtain ⟨cs,hcs⟩:∃ cs,cs=(cur.toList.drop (i*sz)).take ((n - i)*sz):=⟨_,rfl⟩;rw [<- hcs] at hcl;obtain ⟨R1,hR1⟩:∃ R1:Array Value,R1=(ROW.toList.take (i*sz)++vs++ROW.toList.drop (i*sz+vs.length)).toArray:=⟨_,rfl⟩;have hR1l:R1.size=G*sz:=by rw [hR1,qeI _ _ _ (by rw [hvl,hRl]; omega),hRl]
 obtain ⟨R2,hR2⟩:∃ R2:Array Value,R2=(R1.toList.take ((i+1)*sz)++cs++R1.toList.drop ((i+1)*sz+cs.length)).toArray:=⟨_,rfl⟩;have hR2l:R2.size=G*sz:=by rw [hR2,qeI _ _ _ (by rw [hcl,hR1l]; omega),hR1l]
 have hA0:∀ k,k < w.heap.size->(w.alloc (.cells ROW e)).drew.heap[k]?=w.heap[k]?:=λk hk=>by show (w.heap.push _)[k]?=_; rw [Array.getElem?_push,if_neg aD]
 have hA1:(w.alloc (.cells ROW e)).drew.heap[w.heap.size]?=some (.cells ROW e (0,0)):=by show (w.heap.push _)[w.heap.size]?=_; simp
 have hA2:(w.alloc (.cells ROW e)).drew.heap[vb]?=some (.cells arr2 e (0,0)):=(hA0 vb hvw).trans harr;have hB1:((w.alloc (.cells ROW e)).drew.setRow w.heap.size R1).drew.heap[w.heap.size]?=some (.cells R1 e (0,0)):=setRow_heap (w.alloc (.cells ROW e)).drew w.heap.size ROW R1 e (0,0) hA1;have hB2:((w.alloc (.cells ROW e)).drew.setRow w.heap.size R1).drew.heap[b]?=some (.cells cur e (0,0)):=(setRow_other (w.alloc (.cells ROW e)).drew w.heap.size b R1 aD).trans ((hA0 b hbw).trans hcur);refine ⟨w.heap.size,G,ROW,R1,R2,hGn,by unfold maxLen at hG63; omega,λty=>?_,λty dc=>?_,λty dc sc=>?_,⟨w.heap.size,G,R2,rfl,⟨rfl,rfl,rfl,by simp [World.setRow,World.drew_eq]⟩,λk hk hb=>?_,setRow_heap _ w.heap.size R1 R2 e (0,0) hB1,hR2l,hGn,hG63,?_,.inr (zWX _)⟩⟩
 ·have h:=Lib.run_append_grow_zeros w tS tI ty e i0 z .i64 .i64 L.t5 L.t3 hi0 hz1 (some ⟨b,0,none⟩) i c (cur.toList.take (i*sz)) hold (n+1 - i) aD aD aD (by unfold maxLen at hn63; omega) (by rw [hzb]; omega) (by rw [hzb,hik]; exact growslice_fits hroom hbig);rw [hik] at h;rw [hkk,hG,hROW,hG];exact h
 ·rw [hR1];exact BL _ _ _ ty e w.heap.size (i*sz) (n+1 - i) dc sz ⟨vb,0,none⟩ 1 vc ROW e vs L.t5 hsize hA1 qh3 (λj v hj=>by
   rw [Addr.add_lit];have h3:=hvs j v hj;simp only [World.cell?,hA2,zWJ,h3];simp [h3]) (by rw [hvl,hRl]; omega) h1v
 ·rw [hR2];refine BL _ _ _ ty e w.heap.size ((i+1)*sz) (n - i) dc sz ⟨b,i*sz,none⟩ (n - i) sc R1 e cs L.t5 hsize hB1 (by rw [hcl]; simp) (λj v hj=>?_) (by rw [hcl,hR1l]; omega) (λv hv=>?_)
  ·rw [Addr.add_lit];have h3:cur[i*sz+j]?=some v:=by
    rw [hcs,zQK] at hj
    split at hj
    ·rw [zQJ] at hj; simpa using hj
    ·cases hj
   simp only [World.cell?,hB2];simp [h3]
  ·rw [hcs] at hv;obtain ⟨j,hj⟩:=aaj.1 hv;rw [zQK] at hj
   split at hj
   ·rw [zQJ] at hj;exact h1c (i*sz+j) v aD wz8
   ·cases hj
 ·rw [setRow_other _ _ k R2 aD];show ((w.alloc (.cells ROW e)).drew.setRow w.heap.size R1).heap[k]?=_;rw [setRow_other _ _ k R1 aD];exact hA0 k hk
 ·rw [<- hcs,hR2];have e0:ROW.toList.take (i*sz)=cur.toList.take (i*sz):=by
   rw [hROW];simp only [Array.toList_append,zQH];exact HA il
  have e1:R1.toList.take ((i+1)*sz)=cur.toList.take (i*sz)++vs:=by
   rw [hR1,e0];exact HA (by simp [hvl]; omega)
  rw [e1];exact HA (by simp [hvl,hcl]; omega)
theorem qac{F:Nat->Prop}{rows:List (List T)}{inner:List Value}(h:Cx w F sz rows inner):∀ (j:Nat) (v:Value),j < rows.length*sz->inner[j]?=some v->v.oneCell'=true:=λj v hj hv=>by
 have hp:0 < sz:=by
  rcases Nat.eq_zero_or_pos sz with h0 | h0
  ·subst h0; omega
  ·exact h0
 have h1:j / sz < rows.length:=Nat.div_lt_of_lt_mul (by rw [Nat.mul_comm]; exact hj);obtain ⟨row,hr⟩:∃ row,rows[j / sz]?=some row:=⟨_,sX h1⟩;have h2:=h.len _ row hr;obtain ⟨x,hx⟩:∃ x,row[j % sz]?=some x:=⟨_,sX (by rw [h2]; exact Nat.mod_lt _ hp)⟩;obtain ⟨u,hu,h3,_⟩:=h.rd _ row _ x hr hx;rw [show j / sz*sz+j % sz=j by rw [Nat.mul_comm]; exact Nat.div_add_mod _ _,hv] at hu
 cases hu
 exact h3
theorem qgP{F:Nat->Prop}{rows:List (List T)}{row:List T}{inner vs:List Value}{i:Nat}(h:Cx w F sz rows inner)(hv:Cx w F sz [row] vs)(hi:i<=rows.length) :
  Cx w F sz (rows.take i++row :: rows.drop i) (inner.take (i*sz)++vs++inner.drop (i*sz)):=by
 have hl:=h.size;have hvl:=hv.size;simp only [zQq,zXj,zWJ,Nat.one_mul] at hvl;have h1:i*sz<=rows.length*sz:=zQG _ hi;have h0:(inner.take (i*sz)).length=i*sz:=by simp; omega
 have h2:(rows.take i).length=i:=by simp; omega
 refine ⟨?_,λk r hk=>?_,λk r j x hk hj=>?_⟩
 ·simp [hvl,hl,zWx hi,zWx h1];rw [<- Nat.sub_mul,show i+(rows.length - i+1)=i+1+(rows.length - i) by omega,zYV,zYV];omega
 ·rcases Nat.lt_trichotomy k i with hlt | heq | hgt
  ·rw [zQZ aD,zYh hlt] at hk;exact h.len _ _ hk
  ·subst heq;rw [zQY aD,h2,Nat.sub_self,zWH] at hk
   cases hk
   exact hv.len 0 _ rfl
  ·rw [zQY aD,h2,show k - i=(k - i - 1)+1 by omega,List.getElem?_cons_succ,zQJ] at hk;exact h.len _ _ hk
 ·have hrow:r.length=sz->j < sz:=λe=>by
   have:=(aab.1 hj).1;omega
  rcases Nat.lt_trichotomy k i with hlt | heq | hgt
  ·rw [zQZ aD,zYh hlt] at hk;have hj':=hrow (h.len _ _ hk);have h3:(k+1)*sz<=i*sz:=zQG _ hlt;rw [zXH] at h3;obtain ⟨u,hu,h4⟩:=h.rd _ _ _ _ hk hj;exact ⟨u,by rw [zQH,zQZ aD,zYh aD]; exact hu,h4⟩
  ·subst heq;rw [zQY aD,h2,Nat.sub_self,zWH] at hk
   cases hk
   have hj':=hrow (hv.len 0 _ rfl);obtain ⟨u,hu,h4⟩:=hv.rd 0 _ _ _ rfl hj;rw [Nat.zero_mul,zWJ] at hu;exact ⟨u,by rw [zQH,zQY aD,h0,zQZ aD,show k*sz+j - k*sz=j by omega]; exact hu,h4⟩
  ·rw [zQY aD,h2,show k - i=(k - i - 1)+1 by omega,List.getElem?_cons_succ,zQJ] at hk;have hj':=hrow (h.len _ _ hk);have h3:(i+1)*sz<=k*sz:=zQG _ hgt;rw [zXH] at h3;obtain ⟨u,hu,h4⟩:=h.rd _ _ _ _ hk hj;refine ⟨u,?_,h4⟩;have e1:(i+(k - i - 1))*sz+sz=k*sz:=by rw [<- zXH]; congr 1; omega
   rw [zQY (by simp [hvl,h0]; omega),zQJ];rw [<- hu]
   congr 1
   simp only [zQh,h0,hvl];omega
theorem qfM{rows:List (List T)}{row:List T}(hc:wT P f)(hraw:qfK P f e sz bytes)(hi:i < rows.length)(hbig:(rows.length+1)*bytes<=140737488355328) :
  aq P f [.one (.ow e sz rows),.one (.t (.int .i64 i)),.one (.ow e sz [row])] (.one (.ow e sz (rows.take i++row :: rows.drop i))) []:=by
 refine ⟨hc,λw F us bs hF hV hn hb htb=>?_⟩
 cases hV with
 | cons _ v0 b0 _ vs0 bs0 h1 hs1 =>
 cases h1 with
 | one _ _ _ h1 =>
 cases hs1 with
 | cons _ v1 b1 _ vs1 bs1 h2 hs2 =>
 cases h2 with
 | one _ _ _ h2 =>
 cases hs2 with
 | cons _ v2 b2 _ vs2 bs2 h3 hs3 =>
 cases h3 with
 | one _ _ _ h3 =>
 cases hs3
 cases h2 with
 | t _ _ h2 =>
 cases h2
 cases h1 with
 | ow _ _ _ _ inner ho hr =>
 cases h3 with
 | ow _ _ _ _ inner2 ho2 hr2 =>
 obtain ⟨hl,ho⟩:=ho;obtain ⟨hl2,ho2⟩:=ho2;rcases ho with ⟨_,h0⟩ | ⟨g,cap,cur,hv,_,hg,hnc,hcm,hsz,htk⟩
 ·omega
 rcases ho2 with ⟨_,h0⟩ | ⟨g2,cap2,cur2,hv2,_,hg2,hnc2,hcm2,hsz2,htk2⟩
 ·simp at h0
 subst hv hv2;simp only [Value.ownBlock,Option.toList,zWY,zQy,zYX,List.nodup_cons,zWW,zXz] at hn hb;have hne:g2≠g:=λh=>hn.1 qcp;simp only [zQq,zXj,zWJ,Nat.one_mul] at hl2 htk2;have hv2:∀ (j:Nat) (v:Value),inner2[j]?=some v->cur2[j]?=some v:=λj v hj=>by
  rw [<- htk2,zQK] at hj
  split at hj
  ·simpa using hj
  ·cases hj
 have hIW:qeH w g rows.length cap i g2 e sz bytes cur cur2 inner2:=⟨hi,hnc,hcm,hbig,hne,hg,hsz,hg2,hl2,hv2,λj v hj hv=>qac hr j v hj (by rw [<- htk,zQK,if_pos hj]; simpa using hv),λv hv=>by
   obtain ⟨j,hj⟩:=aaj.1 hv;exact qac hr2 j v (by have:=(aab.1 hj).1; simp; omega) hj⟩
 refine (hraw w g rows.length cap i g2 cap2 cur cur2 inner2 hIW).mono λx w' ⟨b',c',cur',hx,hcalm,hold,hb',hs',hn',hm',htk',hnew⟩=>?_;have hgw:g < w.heap.size:=(aag.1 hg).1;have hSame:Fj F w w':=λk hk=>hold k (hF k hk) (λh=>hb k qcp hk);have hinner:cur.toList.take (i*sz)++inner2++(cur.toList.drop (i*sz)).take ((rows.length - i)*sz)=inner.take (i*sz)++inner2++inner.drop (i*sz):=by
  have e1:i*sz<=rows.length*sz:=zQG _ aD;rw [<- htk,List.take_take,zWx e1,List.drop_take,Nat.sub_mul]
 rw [hinner] at htk';have hR:=qgP (i:=i) hr hr2 aD;have hlen:(rows.take i++row :: rows.drop i).length=rows.length+1:=by simp; omega
 refine ⟨_,F,[b'],[],hx,hcalm,λk hk hkb=>hold k hk (λh=>hkb (by simp [h,Value.ownBlock])),λ_ h=>h,λk hk=>⟨zWK (hF k hk) hcalm.size,λ_=>.inl hk,.inl hk⟩,?_,?_,by simp,λk hk=>?_⟩
 ·rw [<- hlen] at hn' htk' ⊢;exact .one _ _ _ (.ow e sz _ _ _ ⟨hR.size,.inr ⟨b',c',cur',rfl,zYz _,hb',hn',hm',hs',htk'⟩⟩ (hR.mono hSame λ_ h=>h))
 ·exact .skip _ _ _ _ _ _ (λc h=>by cases h) (.skip _ _ _ _ _ _ (λc h=>by cases h) (.skip _ _ _ _ _ _ (λc h=>by cases h) .nil))
 ·simp only [zWY,zWW] at hk;subst hk;rcases hnew with h | h
  ·subst h;exact ⟨hb _ qfb,.inr qfb⟩
  ·exact ⟨λhf=>by have:=hF _ hf; omega,.inl h⟩
end
section
variable {P:Program}
theorem qad{ops:Array Oper}{o:Oper}{a:Act}{w:World}{K:Act->World->Prop}{Q:Exit->Act->World->Prop}{E:Prop}
  (hg:o.guard=none) (d x:Operand) (dT sT:TypeId) (hop:o.op=Op.call { callee:=Callee.builtin Builtin.append,args:=#[d,x],argTypes:=#[dT,sT] })
  (v u:Value) (hd:a.eval d=v) (hx:a.eval x=u) {v':Value} {w':World} (hr:(Builtin.append_ #[dT,sT] o.type #[v,u]).run P w=.ok v' w') (hK:K (a.put o.dst v') w') :
  if Region.wanted o (yielded ops a.tmps)=true then Oper.wp P o a w K Q else E:=by
 have hw:Region.wanted o (yielded ops a.tmps)=true:=by simp [Region.wanted,hg]
 rw [if_pos hw];unfold Oper.wp;simp [execOp,hop,resolve,invoke,builtin,hd,hx,hr,Result.andThen];exact hK
theorem Td(w:World)(t ty e e':TypeId)(b n c sz:Nat)(a:Addr)(m mc:Nat)(cur:Array Value)(cs:List Value)
  (hu:P.underlying t=some (.slice e)) (hs:(P.info? e).map (·.size)=some sz)
  (hg:w.heap[b]?=some (.cells cur e' (0,0))) (hl:cs.length=m*sz) (hsrc:∀ j v,cs[j]?=some v->w.cell? (a.add j)=some v) (hroom:n+m<=c) (hfit:n*sz+cs.length<=cur.size) (h1:∀ v∈cs,v.oneCell'=true) :
  (Builtin.append_ #[t,t] ty #[.slice (some ⟨b,0,none⟩) n c,.slice (some a) m mc]).run P w=.ok (.slice (some ⟨b,0,none⟩) (n+m) c) (w.setRow b (cur.toList.take (n*sz)++cs++cur.toList.drop (n*sz+cs.length)).toArray):=by
 cases hq:P.info? e with
 | none=>simp [hq] at hs
 | some i =>
  have hi:i.size=sz:=by simpa [hq] using hs
  have hfc:=run_firstCells_some (P:=P) w sz m a m mc cs hl hsrc;have hst:=run_storeCells_at P b (n*sz) e' cs 0 cur w hg (by simpa using hfit) h1;simp only [zXy] at hst;simp [Builtin.append_,run_underlying hu,sizeOf,typeInfo,hq,hi,Builtin.lenOf,hroom,hfc,Addr.add_lit,hst]
theorem VY(w:World)(t ty e e':TypeId)(b o n c:Nat)(cur:Array Value)(i0:TypeInfo)(z:Value)
  (hu:P.underlying t=some (.slice e)) (hi:P.info? e=some i0) (hz:i0.zero=some z) (z1:∀ v∈z.cells,v.oneCell'=true) (hzn:0 < z.cells.size)
  (hg:w.heap[b]?=some (.cells cur e' (0,0))) (hn:0 < n) (hfit:o+n*z.cells.size<=cur.size) :
  (Builtin.clear_ #[t] ty #[.slice (some ⟨b,o,none⟩) n c]).run P w=.ok (.tuple #[]) (w.setRow b (cur.toList.take o++(Builtin.zeroCells z.cells n).toList++cur.toList.drop (o+(Builtin.zeroCells z.cells n).toList.length)).toArray):=by
 have hst:=run_storeCells_at P b o e' (Builtin.zeroCells z.cells n).toList 0 cur w hg (by simpa [Builtin.zeroCells] using hfit) (λv hv=>by
  simp only [Builtin.zeroCells,Array.toList_map,zXx] at hv;obtain ⟨k,_,rfl⟩:=hv;rw [getElem!_pos z.cells _ (Nat.mod_lt _ hzn)];exact z1 _ (Array.getElem_mem _))
 simp only [zXy] at hst;obtain ⟨m,rfl⟩:∃ m,n=m+1:=⟨n - 1,by omega⟩;simp [Builtin.clear_,run_underlying hu,zeroValue,typeInfo,hi,hz,hst]
structure qeJ (P:Program) (f tS e tI tB sz:Nat) (fn:Func) (z:Value):Prop where
 mixed:P.follows .mixedOrders=true
 hf:P.funcs[f]?=some fn
 t3:P.underlying tI=some (.int .i64)
 t4:P.underlying tB=some .bool
 t5:P.underlying tS=some (.slice e)
 i5:(P.info? e).map (λi=>i.size)=some sz
 hz:(P.info? e).bind (·.zero)=some z
 zc:z.cells.size=sz
 z1:z.cells.all (·.oneCell')=true
 pos:0 < sz
def qdY(w:World)(b n c i j e sz:Nat)(cur:Array Value)(x:Ending)(w':World):Prop :=
 ∃ cur',x=.returned (.slice (some ⟨b,0,none⟩) (i+(n - j)) c)/\vF w w'/\(∀ k,k < w.heap.size->k≠b->w'.heap[k]?=w.heap[k]?)/\w'.heap[b]?=some (.cells cur' e (0,0))/\cur'.size=c*sz /\
  cur'.toList.take ((i+(n - j))*sz)=cur.toList.take (i*sz)++(cur.toList.drop (j*sz)).take ((n - j)*sz)
structure qhI (w:World) (b n c i j e sz:Nat) (cur:Array Value):Prop where
 hij:i < j
 hj:j<=n
 hnc:n<=c
 hc:c<=maxLen
 hcur:w.heap[b]?=some (.cells cur e (0,0))
 hsz:cur.size=c*sz
 h1c:∀ (k:Nat) (v:Value),k < n*sz->cur[k]?=some v->v.oneCell'=true
def qfN(P:Program)(f e sz:Nat):Prop:=∀ (w:World) (b n c i j:Nat) (cur:Array Value),qhI w b n c i j e sz cur ->
 Calls P f #[.slice (some ⟨b,0,none⟩) n c,.int .i64 i,.int .i64 j] w (qdY w b n c i j e sz cur)
variable {f tS e tI tB sz:Nat} {fn:Func} {z:Value} {w:World} {b n c i j:Nat} {cur:Array Value}
theorem qeJ.size(L:qeJ P f tS e tI tB sz fn z):∃ i0,P.info? e=some i0/\i0.size=sz/\i0.zero=some z:=by
 have h:=L.i5;have h2:=L.hz
 cases hq:P.info? e with
 | none=>simp [hq] at h
 | some x=>simp [hq] at h h2; exact ⟨x,rfl,h,h2⟩
theorem qeJ.del(L:qeJ P f tS e tI tB sz fn z)(H:qhI w b n c i j e sz cur):∃ A W1 W2,
  (if c=j then (some ⟨b,0,none⟩:Option Addr) else some ⟨b,j*sz,none⟩)=some A /\
  (∀ ty sc,(Builtin.append_ #[tS,tS] ty #[.slice (some ⟨b,0,none⟩) i c,.slice (some A) (n - j) sc]).run P w.drew=.ok (.slice (some ⟨b,0,none⟩) (i+(n - j)) c) W1) /\
  (∀ ty dc,(Builtin.clear_ #[tS] ty #[.slice (some ⟨b,(i+(n - j))*sz,none⟩) (n - (i+(n - j))) dc]).run P W1=.ok (.tuple #[]) W2) /\
  Hd (qdY w b n c i j e sz cur (.returned (.slice (some ⟨b,0,none⟩) (i+(n - j)) c)) W2):=by
 obtain ⟨i0,hi0,hzs,hz1⟩:=L.size;obtain ⟨hij,hj,hnc,hc,hcur,hsz,h1c⟩:=H;have hpos:=L.pos;have hzc:=L.zc;have hsize:(P.info? e).map (·.size)=some sz:=by simp [hi0,hzs]
 have h1:n*sz<=c*sz:=zQG _ hnc;have h2:j*sz+(n - j)*sz=n*sz:=by rw [<- zYV]; congr 1; omega
 have h3:(i+(n - j))*sz=i*sz+(n - j)*sz:=zYV _ _ _;have h4:(i+(n - j))*sz+(n - (i+(n - j)))*sz=n*sz:=by rw [<- zYV]; congr 1; omega
 obtain ⟨cs,hcs⟩:∃ cs,cs=(cur.toList.drop (j*sz)).take ((n - j)*sz):=⟨_,rfl⟩;have hcl:cs.length=(n - j)*sz:=by rw [hcs]; simp; omega
 have hcg:∀ k v,cs[k]?=some v->cur[j*sz+k]?=some v/\k < (n - j)*sz:=λk v hk=>by
  rw [hcs,zQK] at hk
  split at hk
  ·rw [zQJ] at hk; exact ⟨by simpa using hk,by assumption⟩
  ·cases hk
 obtain ⟨C1,hC1⟩:∃ C1:Array Value,C1=(cur.toList.take (i*sz)++cs++cur.toList.drop (i*sz+cs.length)).toArray:=⟨_,rfl⟩;have hC1s:C1.size=c*sz:=by rw [hC1,qeI _ _ _ (by rw [hcl,hsz]; omega),hsz]
 obtain ⟨zs,hzs'⟩:∃ zs,zs=(Builtin.zeroCells z.cells (n - (i+(n - j)))).toList:=⟨_,rfl⟩;have hzl:zs.length=(n - (i+(n - j)))*sz:=by rw [hzs']; simp [Builtin.zeroCells,hzc]
 obtain ⟨C2,hC2⟩:∃ C2:Array Value,C2=(C1.toList.take ((i+(n - j))*sz)++zs++C1.toList.drop ((i+(n - j))*sz+zs.length)).toArray:=⟨_,rfl⟩;have hC2s:C2.size=c*sz:=by rw [hC2,qeI _ _ _ (by rw [hzl,hC1s]; omega),hC1s]
 have hW1b:(w.drew.setRow b C1).heap[b]?=some (.cells C1 e (0,0)):=setRow_heap w.drew b cur C1 e (0,0) hcur;have h1v:∀ v∈cs,v.oneCell'=true:=λv hv=>by
  obtain ⟨k,hk⟩:=aaj.1 hv;obtain ⟨h5,h6⟩:=hcg k v hk;exact h1c _ v aD h5
 obtain ⟨A,hA,hsrc⟩:∃ A:Addr,(if c=j then (some ⟨b,0,none⟩:Option Addr) else some ⟨b,j*sz,none⟩)=some A/\(∀ k v,cs[k]?=some v->w.drew.cell? (A.add k)=some v):=by
  by_cases h:c=j
  ·refine ⟨⟨b,0,none⟩,by simp [h],λk v hk=>?_⟩;have h5:=(hcg k v hk).2;rw [show n - j=0 by omega,Nat.zero_mul] at h5;omega
  ·refine ⟨⟨b,j*sz,none⟩,by simp [h],λk v hk=>?_⟩;rw [Addr.add_lit];show World.cell? w _=_;have h5:=(hcg k v hk).1;simp only [World.cell?,hcur,h5];simp [h5]
 refine ⟨A,w.drew.setRow b C1,(w.drew.setRow b C1).setRow b C2,hA,λty sc=>?_,λty dc=>?_,⟨C2,rfl,⟨rfl,rfl,rfl,by simp [World.setRow,World.drew_eq]⟩,λk hk hb=>?_,setRow_heap _ b C1 C2 e (0,0) hW1b,hC2s,?_⟩⟩
 ·rw [hC1];exact Td w.drew tS ty e e b i c sz A (n - j) sc cur cs L.t5 hsize hcur hcl hsrc aD (by rw [hcl]; omega) h1v
 ·rw [hC2,hzs'];exact VY _ tS ty e e b ((i+(n - j))*sz) (n - (i+(n - j))) dc C1 i0 z L.t5 hi0 hz1 (λv hv=>by
   have:=L.z1;rw [Array.all_eq_true'] at this;exact this v hv) aD hW1b aD (by rw [hzc,hC1s]; omega)
 ·rw [setRow_other _ b k C2 hb,setRow_other _ b k C1 hb]; rfl
 ·rw [<- hcs,hC2];have e1:C1.toList.take ((i+(n - j))*sz)=cur.toList.take (i*sz)++cs:=by
   rw [hC1];exact HA (by simp [hcl]; omega)
  show ((C1.toList.take ((i+(n - j))*sz)++zs)++_).take _=_;rw [e1,zQH];exact HA (by rw [zQh,hcl,zQz]; simp; omega)
theorem Cx.takeS{F:Nat->Prop}{rows:List (List T)}{cs:List Value}(h:Cx w F sz rows cs){k:Nat}(hk:k<=rows.length):Cx w F sz (rows.take k) (cs.take (k*sz)):=by
 have hs:=h.size;have h1:k*sz<=rows.length*sz:=zQG _ hk;refine ⟨by simp [zWx hk]; omega,λi row hi=>h.len i row (by rw [zQK] at hi; split at hi <;> simp_all),λi row j x hi hj=>?_⟩;rw [zQK] at hi
 split at hi
 ·rename_i hlt;have hlen:=h.len i row hi;obtain ⟨u,hu,ho,hr⟩:=h.rd i row j x hi hj;have hj':=(aab.1 hj).1;exact ⟨u,by rw [zYh (qct hlt aD)]; exact hu,ho,hr⟩
 ·cases hi
theorem Cx.dropS{F:Nat->Prop}{rows:List (List T)}{cs:List Value}(h:Cx w F sz rows cs)(k:Nat):Cx w F sz (rows.drop k) (cs.drop (k*sz)):=by
 have hs:=h.size;refine ⟨by simp [hs,Nat.sub_mul],λi row hi=>h.len (k+i) row (by rw [zQJ] at hi; exact hi),λi row j x hi hj=>?_⟩;rw [zQJ] at hi;obtain ⟨u,hu,ho,hr⟩:=h.rd (k+i) row j x hi hj;exact ⟨u,by rw [zQJ,<- hu,zYV,Nat.add_assoc],ho,hr⟩
theorem qfO{rows:List (List T)}(hc:wT P f)(hraw:qfN P f e sz)(hij:i < j)(hj:j<=rows.length) :
  aq P f [.one (.ow e sz rows),.one (.t (.int .i64 i)),.one (.t (.int .i64 j))] (.one (.ow e sz (rows.take i++rows.drop j))) []:=by
 refine ⟨hc,λw F us bs hF hV hn hb htb=>?_⟩
 cases hV with
 | cons _ v0 b0 _ vs0 bs0 h1 hs1 =>
 cases h1 with
 | one _ _ _ h1 =>
 cases hs1 with
 | cons _ v1 b1 _ vs1 bs1 h2 hs2 =>
 cases h2 with
 | one _ _ _ h2 =>
 cases hs2 with
 | cons _ v2 b2 _ vs2 bs2 h3 hs3 =>
 cases h3 with
 | one _ _ _ h3 =>
 cases hs3
 cases h2 with
 | t _ _ h2 =>
 cases h2
 cases h3 with
 | t _ _ h3 =>
 cases h3
 cases h1 with
 | ow _ _ _ _ inner ho hr =>
 obtain ⟨hl,ho⟩:=ho;rcases ho with ⟨_,h0⟩ | ⟨g,cap,cur,hv,_,hg,hnc,hcm,hsz,htk⟩
 ·omega
 subst hv;simp only [Value.ownBlock,Option.toList,zWY,zQy,zYX,List.nodup_cons,zWW,zXz] at hn hb;have hDW:qhI w g rows.length cap i j e sz cur:=⟨hij,hj,hnc,hcm,hg,hsz,λj v hj hv=>qac hr j v hj (by rw [<- htk,zQK,if_pos hj]; simpa using hv)⟩;refine (hraw w g rows.length cap i j cur hDW).mono λx w' ⟨cur',hx,hcalm,hold,hb',hs',htk'⟩=>?_;have hgw:g < w.heap.size:=(aag.1 hg).1;have hSame:Fj F w w':=λk hk=>hold k (hF k hk) (λh=>hb k qcp hk);have hinner:cur.toList.take (i*sz)++(cur.toList.drop (j*sz)).take ((rows.length - j)*sz)=inner.take (i*sz)++inner.drop (j*sz):=by
  have e1:i*sz<=rows.length*sz:=zQG _ aD;rw [<- htk,List.take_take,zWx e1,List.drop_take,Nat.sub_mul]
 rw [hinner] at htk';have hR:=Cx.app (hr.takeS (k:=i) aD) (hr.dropS j);have hlen:(rows.take i++rows.drop j).length=i+(rows.length - j):=by simp; omega
 refine ⟨_,F,[g],[],hx,hcalm,λk hk hkb=>hold k hk (λh=>hkb (by simp [h,Value.ownBlock])),λ_ h=>h,λk hk=>⟨zWK (hF k hk) hcalm.size,λ_=>.inl hk,.inl hk⟩,?_,?_,by simp,λk hk=>?_⟩
 ·rw [<- hlen] at htk' ⊢;exact .one _ _ _ (.ow e sz _ _ _ ⟨hR.size,.inr ⟨g,cap,cur',rfl,zYz _,hb',by omega,hcm,hs',htk'⟩⟩ (hR.mono hSame λ_ h=>h))
 ·exact .skip _ _ _ _ _ _ (λc h=>by cases h) (.skip _ _ _ _ _ _ (λc h=>by cases h) (.skip _ _ _ _ _ _ (λc h=>by cases h) .nil))
 ·simp only [zWY,zWW] at hk;subst hk;exact ⟨hb _ qfb,.inr qfb⟩
end
end Go.Tm
namespace Go.Tm.Pu
theorem BM(n:Nat):de (decide (0<=(n:Int)) && ((n:Int) == 0 || (n:Int) == (n:Int)))=some ():=by simp [de]
theorem qcY{α ρ:Type}{fin:List α->Option ρ}{body:α->Nat->List α->(List α->Option ρ)->Option ρ}{xs:List α}(hb:∀ x i s k,x∈xs->i < s.length->body x i s k=k (s.set i x)) :
  ∀ (ys:List α) (i:Nat) (s:List α),ys=xs.drop i->s.length=xs.length->s.take i=xs.take i->bn fin body ys i s=fin xs:=by
 intro ys
 induction ys with
 | nil =>
  intro i s h1 h2 h3;simp only [bn];have:xs.length<=i:=by have:=congrArg zYZ h1; simp at this; omega
  rw [zXG aD,zXG this] at h3;rw [h3]
 | cons y ys ih =>
  intro i s h1 h2 h3;have hlt:i < xs.length:=by have:=congrArg zYZ h1; simp at this; omega
  have hx:xs[i]?=some y:=by have:=congrArg zYY h1; simpa [zXW] using this.symm
  have hys:ys=xs.drop (i+1):=by have:=congrArg zYq h1; simpa [zXV] using this
  simp only [bn];rw [hb y i s _ (zQX hx) aD];refine ih (i+1) _ hys (by simp [h2]) ?_;rw [List.take_add_one,List.take_set_of_le (zWX i),h3,zYW aD,List.take_add_one,hx]
theorem nG{α ρ:Type}{fin:List α->Option ρ}{body:α->Nat->List α->(List α->Option ρ)->Option ρ}{xs:List α}(z:α)(hb:∀ x i s k,x∈xs->i < s.length->body x i s k=k (s.set i x)) :
  bn fin body xs 0 (zQV xs.length z)=fin xs:=qcY hb xs 0 _ jC jC jC
theorem s6{α ρ:Type}{fin:Unit->Option ρ}{body:α->Nat->Unit->(Unit->Option ρ)->Option ρ}{xs:List α}(hb:∀ x i k,xs[i]?=some x->body x i () k=k ()) :
  ∀ (ys:List α) (i:Nat),ys=xs.drop i->bn fin body ys i ()=fin ():=by
 intro ys
 induction ys with
 | nil=>intro i _; rfl
 | cons y ys ih =>
  intro i h1;have hx:xs[i]?=some y:=by have:=congrArg zYY h1; simpa [zXW] using this.symm
  have hys:ys=xs.drop (i+1):=by have:=congrArg zYq h1; simpa [zXV] using this
  simp only [bn];rw [hb y i _ hx];exact ih (i+1) hys
def Te{α:Type}(f:α->Nat):List α->Nat
 | []=>0
 | x :: xs=>f x+Te f xs
def ik{α:Type}(f:α->Nat)(xs:List α):Nat:=xs.length+Te f xs
theorem qfP{α:Type}{f:α->Nat}{xs:List α}{x:α}(h:x∈xs):f x<=Te f xs:=by
 induction xs with
 | nil=>cases h
 | cons y ys ih =>
  simp only [Te];rcases aah.1 h with rfl | h
  ·omega
  ·have:=ih h; omega
theorem iN{α:Type}{f:α->Nat}{xs:List α}{x:α}(h:x∈xs):f x<=ik f xs:=by
 have:=qfP (f:=f) h; unfold ik; omega
theorem iO{α:Type}{f:α->Nat}(xs:List α):xs.length<=ik f xs:=by unfold ik; omega
def jk(n:Int)(b:Nat):Int:=if (b:Int)<=n then n - b else -1
theorem Q3{n:Int}{b:Nat}(h:¬ (b:Int)<=n):jk n b=-1:=by simp [jk,h]
theorem KV{n:Int}{b:Nat}(h:(b:Int)<=n):jk n b=n - b:=by simp [jk,h]
theorem pB{n:Int}{b c:Nat}{f:Int->Option Int}(hf:∀ r,0<=r->r<=n->f r=some (jk r c))(h0:0<=n) :
  (bif decide (jk n b < 0) then some (-1) else f (jk n b))=some (jk n (b+c)):=by
 by_cases h:(b:Int)<=n
 ·rw [KV h];have h1:¬ (n - (b:Int) < 0):=by omega
  simp only [h1,decide_false,cond_false];rw [hf _ aD aD];unfold jk
  by_cases h2:(c:Int)<=n - b
  ·rw [if_pos h2,if_pos aD]; congr 1; omega
  ·rw [if_neg h2,if_neg aD]
 ·rw [Q3 h];have:¬ (((b+c:Nat):Int)<=n):=by omega
  simp [jk,this]; omega
theorem vH{n:Int}{b:Nat}:(bif decide (jk n b < 0) then some (-1) else some (jk n b))=some (jk n b):=by
 by_cases h:(b:Int)<=n
 ·rw [KV h];have h1:¬ (n - (b:Int) < 0):=by omega
  simp [h1]
 ·rw [Q3 h]; simp
theorem JT{n:Int}{m:Nat}(h0:0<=n)(h1:n<=1048576)(hm:m<=9223372036854775807):(bif decide (cJ .i64 n (m:Int) < 0) then some (-1) else some (cJ .i64 n (m:Int)))=some (jk n m):=by
 rw [cS aD aD];unfold jk
 by_cases h:(m:Int)<=n
 ·have:¬ (n - (m:Int) < 0):=by omega
  simp [h,this]
 ·have:n - (m:Int) < 0:=by omega
  simp [h,this]
theorem JU{α:Type}{fin:Int->Option Int}{body:α->Nat->Int->(Int->Option Int)->Option Int}{f:α->Nat}{xs:List α}(hfin:∀ s,fin s=some s)(hb:∀ x i s k,x∈xs->0<=s->s<=1048576->body x i s k=bif decide (jk s (f x) < 0) then some (-1) else k (jk s (f x))) :
  ∀ (ys:List α) (i:Nat) (s:Int),(∀ y∈ys,y∈xs)->0<=s->s<=1048576->bn fin body ys i s=some (jk s (Te f ys)):=by
 intro ys
 induction ys with
 | nil=>intro i s _ h0 h1; simp [bn,hfin,jk,Te,h0]
 | cons y ys ih =>
  intro i s hm h0 h1;simp only [bn,Te];rw [hb y i s _ (hm y jC) h0 h1];exact pB (λr h2 h3=>ih (i+1) r (λz hz=>hm z wz7) h2 aD) h0
theorem HB{n:Int}{m c:Nat}{f:Int->Option Int}(hf:(m:Int)<=n->∀ r,0<=r->r<=n->f r=some (jk r c))(h0:0<=n)(h1:n<=1048576)(hm:m<=9223372036854775807) :
  (bif decide (cJ .i64 n (m:Int) < 0) then some (-1) else f (cJ .i64 n (m:Int)))=some (jk n (m+c)):=by
 rw [cS aD aD]
 by_cases h:(m:Int)<=n
 ·have:=pB (b:=m) (hf h) h0;rw [KV h] at this;exact this
 ·have h2:n - (m:Int) < 0:=by omega
  have h3:¬ (((m+c:Nat):Int)<=n):=by omega
  simp [h2,jk,h3]; omega
end Go.Tm.Pu
