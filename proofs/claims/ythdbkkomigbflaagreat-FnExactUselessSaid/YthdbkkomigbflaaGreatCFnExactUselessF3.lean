/- The abstract machine over data trees, and that it tells the truth of the translated code. -/
import Derived.JoinedOf
import Derived.Shelf.RegionOpenPlain
import Derived.WalkKit
import Derived.Lib.Walk
import Derived.Lib.SliceRun
import Derived.Lib.JoinLaws
import Derived.Lib.Overlaps
import Derived.Lib.AppendZerosOnto
import Derived.Laws.Externs
import Derived.Test.YthdbkkomigbflaaGreatCFnExactUselessF2
set_option linter.unusedVariables false
set_option linter.unusedSimpArgs false
namespace Go.Tm
open Go
section
variable {P:Program} {n:Nat} {ls:List Nat} {Q:Exit→St→Prop} {N:St→Prop} {st:St} {p:Nat→Bool} {ρ:Nat→eH} {ops:Array Oper} {l l':List Oper} {K:St→Prop} {y:Code} {o:Oper}
def WQ:Option A→Option Int
 | some (.t (.int _ i))=>some i
 | _=>none
theorem PJ {a:Option A} {i:Int} (h:WQ a=some i):∃ k,a=some (.t (.int k i)):=by
 unfold WQ at h
 split at h
 ·rename_i k j; cases h; exact ⟨k,rfl⟩
 ·cases h
def Yi (st:St):Option A→Option (List (List T))
 | some (.t (.sl _ rows))=>some rows
 | some .nil=>some []
 | some (.own r)=>match st.rw r with
  | some (.live _ _ rows)=>some rows
  | some (.frz _ rows)=>some rows
  | _=>none
 | _=>none
theorem VK {a:Option A} {rows:List (List T)} (h:Yi st a=some rows):∃ y m,a=some y∧((y.rows fun m rows=>MA.ret (m,rows)).run st).map Prod.fst=some (m,rows):=by
 unfold Yi at h
 split at h
 ·cases h; exact ⟨_,_,rfl,rfl⟩
 ·cases h; exact ⟨_,_,rfl,rfl⟩
 ·rename_i r
  split at h
  ·rename_i e sz rows hr; cases h; exact ⟨.own r,sz,rfl,by simp [A.rows,MA.run,hr]⟩
  ·rename_i sz rows hr; cases h; exact ⟨.own r,sz,rfl,by simp [A.rows,MA.run,hr]⟩
  ·cases h
 ·cases h
def VL (nn:Nat) (st:St):Option A→Option (List (List T))
 | some (.t (.sl m rows))=>bif Nat.beq m nn then some rows else none
 | some .nil=>some []
 | some (.own r)=>match st.rw r with
  | some (.live _ m rows)=>bif Nat.beq m nn then some rows else none
  | some (.frz m rows)=>bif Nat.beq m nn then some rows else none
  | _=>none
 | _=>none
theorem UV {nn:Nat} {a:Option A} {rows:List (List T)} (h:VL nn st a=some rows):∃ y m,a=some y∧((y.rows fun m rows=>MA.ret (m,rows)).run st).map Prod.fst=some (m,rows)∧(m=nn∨rows=[]):=by
 have key:∀ {m:Nat} {rs:List (List T)},(bif Nat.beq m nn then some rs else none)=some rows→m=nn∧rs=rows:=fun {m rs} h=>by
  cases hm:Nat.beq m nn with
  | true=>rw [hm] at h; cases h; exact ⟨Nat.eq_of_beq_eq_true hm,rfl⟩
  | false=>rw [hm] at h; cases h
 unfold VL at h
 split at h
 ·obtain ⟨rfl,rfl⟩:=key h; exact ⟨_,_,rfl,rfl,.inl rfl⟩
 ·cases h; exact ⟨_,0,rfl,rfl,.inr rfl⟩
 ·rename_i r
  split at h
  ·rename_i e m rs hr; obtain ⟨rfl,rfl⟩:=key h; exact ⟨.own r,m,rfl,by simp [A.rows,MA.run,hr],.inl rfl⟩
  ·rename_i m rs hr; obtain ⟨rfl,rfl⟩:=key h; exact ⟨.own r,m,rfl,by simp [A.rows,MA.run,hr],.inl rfl⟩
  ·cases h
 ·cases h
def Tc:List Oper→Option Nat
 | o :: _=>o.dst
 | []=>none
theorem E7 {k:Nat} (h:l.drop k=o :: l'):l.drop (k+1)=l'∧Tc (l.drop k)=o.dst:=by
 have h1:=congrArg (List.drop 1) h
 rw [List.drop_drop] at h1
 exact ⟨h1,by rw [h]; rfl⟩
theorem aR {α β:Type} {r:β} {xs:List α} {i:Int} {g:α→Option β} (k e sz:Nat) (f:α→List T) (h:(ci xs i).bind g=some r) {t:TypeId} {a b:Operand}
  (hk:∀ y,g y=some r→ci xs i=some y→ab P p ρ ops (l.drop (k+1)) ((yV P ρ ops k l st).put (Tc (l.drop k)) (.fadr (f y))) K) (hl:l.drop k=o :: l':=by rfl) (h1:(xk P ρ ops (l.take k) st).isSome=true:=by kernel_rfl)
  (ho:o.op=.indexAddr t a b:=by rfl) (hg:jK ops (yV P ρ ops k l st) o=some true:=by kernel_rfl) (hf:eR ρ (yV P ρ ops k l st) o=true:=by kernel_rfl) (ha:(yV P ρ ops k l st).eval a=some (.t (.sl sz (xs.map f))):=by kernel_rfl)
  (hb:WQ ((yV P ρ ops k l st).eval b)=some i:=by kernel_rfl) (hu:P.underlying t=some (.slice e):=by kernel_rfl) (hs:jf P e=some sz:=by kernel_rfl):ab P p ρ ops l st K:=by
 obtain ⟨e1,e2⟩:=E7 hl
 simp only [e1,e2] at hk
 refine bc k h1 ?_
 obtain ⟨y,h2,h3⟩:=bind_some h
 obtain ⟨kk,hb⟩:=PJ hb
 rw [hl]
 exact Xl f xs i ho hg hf ha hb hu hs h2 (hk y h3 h2)
theorem cI {α β:Type} {r:β} {xs:List α} {i:Int} {g:α→Option β} (k e sz rw e':Nat) (f:α→List T) (h:(ci xs i).bind g=some r) {t:TypeId} {a b:Operand}
  (hk:∀ y,g y=some r→ci xs i=some y→ab P p ρ ops (l.drop (k+1)) ((yV P ρ ops k l st).put (Tc (l.drop k)) (.elem rw sz i.toNat 0)) K) (hl:l.drop k=o :: l':=by rfl) (h1:(xk P ρ ops (l.take k) st).isSome=true:=by kernel_rfl)
  (ho:o.op=.indexAddr t a b:=by rfl) (hg:jK ops (yV P ρ ops k l st) o=some true:=by kernel_rfl) (hf:eR ρ (yV P ρ ops k l st) o=true:=by kernel_rfl) (ha:(yV P ρ ops k l st).eval a=some (.own rw):=by kernel_rfl)
  (hr:(yV P ρ ops k l st).rw rw=some (.live e' sz (xs.map f)):=by kernel_rfl) (hb:WQ ((yV P ρ ops k l st).eval b)=some i:=by kernel_rfl) (hu:P.underlying t=some (.slice e):=by kernel_rfl) (hs:jf P e=some sz:=by kernel_rfl):ab P p ρ ops l st K:=by
 obtain ⟨e1,e2⟩:=E7 hl
 simp only [e1,e2] at hk
 refine bc k h1 ?_
 obtain ⟨y,h2,h3⟩:=bind_some h
 obtain ⟨kk,hb⟩:=PJ hb
 rw [hl]
 exact Xm f xs i rw ho hg hf ha hr hb hu hs h2 (hk y h3 h2)
theorem ar {α:Type} (k e:Nat) (f:α→List T) (xs:List α) {t:TypeId} {x:Operand} {args:Array Operand} {ts:Array TypeId} (hk:ab P p ρ ops (l.drop (k+1)) ((yV P ρ ops k l st).put (Tc (l.drop k)) (.t (.int .i64 xs.length))) K) (hl:l.drop k=o :: l':=by rfl)
  (h1:(xk P ρ ops (l.take k) st).isSome=true:=by kernel_rfl) (ho:o.op=.call { callee:=.builtin .len,args,argTypes:=ts }:=by rfl) (hargs:args.toList=[x]:=by rfl) (hts:ts.toList=[t]:=by rfl) (hg:jK ops (yV P ρ ops k l st) o=some true:=by kernel_rfl)
  (hf:eR ρ (yV P ρ ops k l st) o=true:=by kernel_rfl) (hx:Yi (yV P ρ ops k l st) ((yV P ρ ops k l st).eval x)=some (xs.map f):=by kernel_rfl) (hu:P.underlying t=some (.slice e):=by kernel_rfl):ab P p ρ ops l st K:=by
 obtain ⟨e1,e2⟩:=E7 hl
 simp only [e1,e2] at hk
 refine bc k h1 ?_
 obtain ⟨y,m,hx,hy⟩:=VK hx
 rw [hl]
 exact Xp f xs m ho hargs hts hg hf hx hy hu hk
theorem cg {α β:Type} {r:β} {xs ys:List α} {g:Unit→Option β} {by_:Nat} (k d e nn rw:Nat) (f:α→List T) (h:(dW (decide ((xs.length+ys.length)*by_≤140737488355328))).bind g=some r) {t:TypeId} {ts:Array TypeId} {args:Array Operand} {a b:Operand}
  (hk:g ()=some r→ab P p ρ ops (l.drop (k+1)) (({ yV P ρ ops k l st with rw:=iw (iw (yV P ρ ops k l st).rw rw (some .gone)) (i6 d 0) (some (.live e nn ((xs++ys).map f))) }:St).put (Tc (l.drop k)) (.own (i6 d 0))) K) (hl:l.drop k=o :: l':=by rfl) (h1:(xk P ρ ops (l.take k) st).isSome=true:=by kernel_rfl)
  (ho:o.op=.call { callee:=.builtin .append,args,argTypes:=ts }:=by rfl) (hargs:args.toList=[a,b]:=by rfl) (hts:ts.toList=[t,t]:=by rfl) (hd:o.dst=some d:=by rfl) (hg:jK ops (yV P ρ ops k l st) o=some true:=by kernel_rfl) (hf:eR ρ (yV P ρ ops k l st) o=true:=by kernel_rfl)
  (ha:(yV P ρ ops k l st).eval a=some (.own rw):=by kernel_rfl) (hr:(yV P ρ ops k l st).rw rw=some (.live e nn (xs.map f)):=by kernel_rfl) (hy:VL nn (yV P ρ ops k l st) ((yV P ρ ops k l st).eval b)=some (ys.map f):=by kernel_rfl)
  (hi:F5 P t=some (e,nn,by_):=by kernel_rfl) (hne:Nat.beq (i6 d 0) rw=false:=by kernel_rfl) (hfree:(yV P ρ ops k l st).rw (i6 d 0)=none:=by kernel_rfl):ab P p ρ ops l st K:=by
 obtain ⟨e1,e2⟩:=E7 hl
 simp only [e1,e2] at hk
 refine bc k h1 ?_
 obtain ⟨_,h2,h3⟩:=bind_some h
 obtain ⟨y,m,hb,hy,hm⟩:=UV hy
 rw [hl]
 exact Xo f d m e nn by_ rw xs ys ho hargs hts hd hg hf ha hr hb hy hm hi (of_decide_eq_true (bj h2)) hne hfree (hk h3)
theorem iO {α:Type} {y:α} {xs:List α} {i:Nat} (k sz m rw off e':Nat) (gg:Bool) (f:α→List T) (h:xs[i]?=some y) {t:TypeId} {a:Operand} (hk:ab P p ρ ops (l.drop (k+1)) ((yV P ρ ops k l st).put (Tc (l.drop k)) ((Hi gg m ((f y).map A.t) off).getD .undef)) K) (hl:l.drop k=o :: l':=by rfl) (h1:(xk P ρ ops (l.take k) st).isSome=true:=by kernel_rfl)
  (ho:o.op=.load t a:=by rfl) (hg:jK ops (yV P ρ ops k l st) o=some true:=by kernel_rfl) (hf:eR ρ (yV P ρ ops k l st) o=true:=by kernel_rfl)
  (ha:(yV P ρ ops k l st).eval a=some (.elem rw sz i off):=by kernel_rfl) (hr:(yV P ρ ops k l st).rw rw=some (.live e' sz (xs.map f)):=by kernel_rfl) (hgg:Ul P t=some gg:=by kernel_rfl) (hm:jf P t=some m:=by kernel_rfl) (hc:(Hi gg m ((f y).map A.t) off).isSome=true:=by kernel_rfl):ab P p ρ ops l st K:=by
 obtain ⟨e1,e2⟩:=E7 hl
 simp only [e1,e2] at hk
 refine bc k h1 ?_
 obtain ⟨x,hx⟩:=Option.isSome_iff_exists.1 hc
 rw [hx] at hk
 rw [hl]
 exact VF f xs rw i off x ho hg hf ha hr hgg hm h hx hk
end
theorem Td {P:Program} {f:FuncId} {vs:List V} {o o':Nat} {outs:List (List C)} (hc:Nat.beq o o'=true) (h:uC P f vs o outs):uC P f vs o' outs:=Nat.eq_of_beq_eq_true hc ▸ h
abbrev V.i (n:Int):V:=.one (.t (.int .i64 n))
abbrev V.b (b:Bool):V:=.one (.t (.bool b))
abbrev cO (l:List T):V:=.agg (l.map .t)
def cw:List Nat→List T→List C
 | 0 :: es,x :: xs=>.t x :: cw es xs
 | (e+1) :: es,.sl sz rows :: xs=>.ow (e+1) sz rows :: cw es xs
 | _ :: es,x :: xs=>.t x :: cw es xs
 | [],xs=>xs.map .t
 | _ :: _,[]=>[]
def V.w (es:List Nat) (l:List T):V:=.agg (cw es l)
section
variable {P:Program} {n:Nat} {ls:List Nat} {Q:Exit→St→Prop} {st:St} {p:Nat→Bool} {ρ:Nat→eH} {ops:Array Oper} {l:List Oper} {K:St→Prop} {y:Code} {o:Oper}
theorem Xu {α:Type} (f:α→List T) (xs:List α) (r:Nat) (i j:Int) {t e e':TypeId} {x:Operand} {lo hi:Option Operand} {alo ahi:Option A} (ho:o.op=.slice t x lo hi none) (hg:jK ops st o=some true) (hf:eR ρ st o=true) (hx:st.eval x=some (.own r))
  (hlo:M1 st.eval lo=some alo) (hhi:M1 st.eval hi=some ahi) (hn:ahi.isNone=false) (hl:Bc 0 alo=some i) (hh:Bc xs.length ahi=some j) (hr:st.rw r=some (.live e' 1 (xs.map f))) (hu:P.underlying t=some (.slice e)) (hs:jf P e=some 1) (hw:Wy ρ o.dst=true) (h:dU i j xs.length=true)
  (hk:ab P p ρ ops l (st.put o.dst (.win r i.toNat (j - i).toNat)) K):ab P p ρ ops (o :: l) st K:=by
 have h':=Jf h
 refine ab.pure (x:=.win r i.toNat (j - i).toNat) hg hf ?_ hk
 simp only [rq,ho,hx,hlo,hhi,XN,hw,hn,Bool.true_or,Bool.false_eq_true,SO,hu,hl,hs,MA.run,hr,List.length_map,hh,h'.1,h'.2.1,h'.2.2,and_self,true_and,↓reduceIte]
theorem VM {α β:Type} (f:α→β) {xs ys:List α} {lo m:Nat} (h:lo+m≤xs.length) (hm:ys.length≤m):(Ad xs ys lo).map f=(xs.map f).take lo++ys.map f++(xs.map f).drop (lo+(ys.map f).length):=by
 unfold Ad
 have h1:ys.take (xs.length - lo)=ys:=List.take_of_length_le (by omega)
 have h2:min ys.length (xs.length - lo)=ys.length:=by omega
 rw [h1,h2,List.map_append,List.map_append,List.map_take,List.map_drop,List.length_map]
theorem VN {α:Type} (f:α→List T) (xs ys:List α) (r lo m k:Nat) {t t' e e':TypeId} {a b:Operand} {y:A} {args:Array Operand} {ts:Array TypeId} (ho:o.op=.call { callee:=.builtin .copy,args,argTypes:=ts }) (hargs:args.toList=[a,b]) (hts:ts.toList=[t,t']) (hg:jK ops st o=some true) (hf:eR ρ st o=true)
  (ha:st.eval a=some (.win r lo m)) (hb:st.eval b=some y) (hy:((y.rows fun m rows=>MA.ret (m,rows)).run st).map Prod.fst=some (k,ys.map f)) (hm:k=1∨ys.map f=[]) (hr:st.rw r=some (.live e' 1 (xs.map f))) (hu:P.underlying t=some (.slice e)) (hs:jf P e=some 1) (h:lo+m≤xs.length) (hl:ys.length≤m)
  (hk:ab P p ρ ops l ((({ st with rw:=iw st.rw r (some (.live e' 1 ((Ad xs ys lo).map f))) }:St)).put o.dst (.t (.int .i64 (ys.length:Nat)))) K):ab P p ρ ops (o :: l) st K:=by
 refine ab.op (x:=.t (.int .i64 (ys.length:Nat))) hg hf ?_ hk
 simp only [rq,ho,hargs,ha,hb,hts,Hj,IX,hu,hs,↓reduceIte]
 rw [Jd hy]
 simp only [hm,List.length_map,hl,and_self,↓reduceIte,MA.run,hr,h,VM f h hl]
theorem Y5 {fid e lo m:Nat} {vs:List V} (k d r:Nat) (ts:List T) (rows:List (List T)) (az:List A) (hc:Mv P fid e ts rows vs lo m)
  (hk:ab P p ρ ops (l.drop (k+1)) ((yV P ρ ops k l st).put (some d) (.win r lo m)) K)
  (h1:(xk P ρ ops (l.take k) st).isSome=true:=by kernel_rfl) (h2:Lg P ρ ops (yV P ρ ops k l st) (l.drop k)=some (fid,.agg (ts.map A.t++[.own r]) :: az,d):=by kernel_rfl)
  (h0:(match l.drop k with | o :: _=>(match o.op with | .call c=>(match c.callee with | .value xf=>(yV P ρ ops k l st).eval xf | _=>none) | _=>none) | []=>none)=some (.clo fid []):=by kernel_rfl)
  (h3:(yV P ρ ops k l st).rw r=some (.live e 1 rows):=by kernel_rfl) (h4:GB az=some vs:=by kernel_rfl):ab P p ρ ops l st K:=by
 refine bc k h1 ?_
 simp only [yV] at h2 h0 h3 hk
 generalize St.or (xk P ρ ops (l.take k) st)=st1 at *
 obtain ⟨o,l',xf,args,tys,az',caps,e1,e2,e3,e4,e5,e6,e7,e8⟩:=E6 h2
 simp only at e5 e6 e8
 have e9:l.drop (k+1)=l':=by rw [← List.drop_drop,e1]; rfl
 rw [e9] at hk
 rw [e1] at h0
 simp only [e4] at h0
 rw [h0] at e6
 have hcap:caps=[]:=by injection e6 with e6; injection e6 with _ e6; exact e6.symm
 subst hcap
 rw [List.append_nil] at e8
 rw [e1]
 refine ab.step (.run (.win r lo m) st1 e2 e3 (.callW d fid r e lo m ts rows xf args tys az vs e4 e5 h0 (e7.trans (congrArg some e8.symm)) h3 h4 hc rfl rfl)) (by rw [e5]; exact hk)
theorem obw {f:FuncId} {c:Code} {e lo m:Nat} {ts:List T} {rows:List (List T)} {args:List V} (fn:Func) (as_:List A)
  (h:Wp P fn.ntmps [0] c (ZF P fn lo m e rows) (fQ (.agg (ts.map A.t++[.own PR]) :: as_) (DY e 1 rows))) (hrs:∀ row∈rows,∀ x∈row,T.sc x=true)
  (hb:fn.body=some c:=by rfl) (hf:P.funcs[f]?=some fn:=by kernel_rfl) (hnm:(fn.name == "runtime.NumGoroutine")=false:=by kernel_rfl) (hle:Nat.ble (as_.length+1) fn.ntmps=true:=by kernel_rfl) (ht:Ao fn.ntmps fn=true:=by kernel_rfl)
  (ha:GB as_=some args:=by kernel_rfl):Mv P f e ts rows args lo m :=
 RS hf hb hnm (Nat.le_of_ble_eq_true hle) ht ha hrs h
theorem qaC {fn:Func} {lo m e:Nat} {rows:List (List T)} (h1:(Ac P st fn.results.toList).map VB=some (.win PR lo m):=by kernel_rfl) (h2:st.rw PR=some (.live e 1 rows):=by kernel_rfl):ZF P fn lo m e rows .ret st:=by
 obtain ⟨l,h3,h4⟩:=Option.map_eq_some_iff.1 h1
 exact ⟨.inl rfl,⟨l,h3,h4⟩,h2⟩
end
end Go.Tm
namespace Go.Tm
open Go
section
variable {P:Program} {n:Nat} {ls:List Nat} {Q:Exit→St→Prop} {st:St} {x y:Code}
theorem Lh (R:St→Prop) (J:∀ s,R s→Wp P n ls y Q s) (h:Wp P n ls x (mM R Q) st):Wp P n ls (.seq x y) Q st:=Wp.seq (h.mono fun e s hq=>by
 cases e with
 | normal=>exact J s hq
 | _=>exact hq)
theorem Wp.L (R:Nat→St→Prop) (h0:∀ s,¬ R 0 s) (hs:∀ k s,R (k+1) s→Wp P n ls x (mM (R k) Q) s) {k:Nat} (h:R k st):Wp P n ls (.loop x) Q st:=by
 refine Wp.loop (k:=k) ?_
 induction k generalizing st with
 | zero=>exact absurd h (h0 st)
 | succ k ih =>
  refine (hs k st h).mono fun e s hq=>?_
  cases e with
  | normal=>exact ih hq
  | _=>exact hq
end
end Go.Tm
namespace Go.Tm
open Go
def TD (P:Program):Nat→List FuncId→List FuncId→Nat→List FuncId×List FuncId×Nat
 | 0,todo,seen,m=>(todo,seen,m)
 | n+1,[],seen,m=>([],seen,m)
 | n+1,f :: todo,seen,m=>if m.testBit f then TD P n todo seen m else TD P n ((P.funcs[f]?).elim [] P.leadsTo++todo) (f :: seen) (m ||| 2 ^ f)
def okB (seen:List FuncId) (m:Nat):Prop:=∀ f:Nat,seen.contains f=m.testBit f
theorem Y6 {seen:List FuncId} {m:Nat} (h:okB seen m) (f:Nat):okB (f :: seen) (m ||| 2 ^ f):=fun g=>by
 rw [List.contains_cons,h g,Nat.testBit_or,Nat.testBit_two_pow,Bool.or_comm]
 congr 1
 by_cases hg:g=f
 ·simp [hg]
 ·have:¬ f=g:=fun h=>hg h.symm
  simp [hg,this]
theorem PK (P:Program):∀ (a b:Nat) (todo seen:List FuncId) (m:Nat),okB seen m→P.closureVia (a+b) todo seen=P.closureVia b (TD P a todo seen m).1 (TD P a todo seen m).2.1
 | 0,b,todo,seen,m,h=>by rw [Nat.zero_add]; rfl
 | a+1,b,[],seen,m,h=>by
  rw [show a+1+b=(a+b)+1 by omega]
  show seen.reverse=P.closureVia b [] seen
  cases b <;> rfl
 | a+1,b,f :: todo,seen,m,h=>by
  rw [show a+1+b=(a+b)+1 by omega]
  rw [show P.closureVia ((a+b)+1) (f :: todo) seen=if seen.contains f then P.closureVia (a+b) todo seen else P.closureVia (a+b) ((P.funcs[f]?).elim [] P.leadsTo++todo) (f :: seen) from rfl,
   show TD P (a+1) (f :: todo) seen m=if m.testBit f then TD P a todo seen m else TD P a ((P.funcs[f]?).elim [] P.leadsTo++todo) (f :: seen) (m ||| 2 ^ f) from rfl,h f]
  cases m.testBit f with
  | true=>exact PK P a b todo seen m h
  | false=>exact PK P a b _ _ _ (Y6 h f)
def Te (P:Program):Nat:=1+(P.funcs.toList.map fun g=>(P.leadsTo g).length+1).sum
theorem VO {P:Program} {f:FuncId} {a m:Nat} {L:List FuncId} (h:TD P a [f] [] 0=([],L.reverse,m)) (hF:Nat.ble a (Te P)=true):P.closure f=L:=by
 have hle:=Nat.le_of_ble_eq_true hF
 unfold Program.closure
 show P.closureVia (Te P) [f] []=L
 rw [show Te P=a+(Te P - a) by omega,PK P a _ _ _ 0 (fun g=>by simp),h]
 cases Te P - a <;> simp [Program.closureVia]
theorem VP {P:Program} {f:FuncId} {L:List FuncId} {l:List String} (h:P.closure f=L) (h2:(L.filterMap fun g=>(P.funcs[g]?).bind fun fn=>if fn.ours || fn.body.isNone || fn.name == "runtime.NumGoroutine" then some fn.name else none)=l):P.inPlace f=l:=by
 unfold Program.inPlace; rw [h,h2]
theorem RT {P:Program} {f:FuncId} {L:List FuncId} {b:Bool} (h:P.closure f=L) (h2:(L.any fun g=>(P.funcs[g]?).any fun fn=>match fn.body with | some c=>c.unfollowed | none=>entryCalls fn)=b):P.unfollowed f=b:=by
 unfold Program.unfollowed; rw [h]; exact h2
theorem UW {P:Program} {f:FuncId} (h:P.unfollowed f=true):P.recurses f=true:=by
 unfold Program.recurses; rw [h]; rfl
theorem TE {P:Program} {f:FuncId} {L:List FuncId} {l:List String} (h:P.closure f=L) (h2:((((L.flatMap fun g=>((P.funcs[g]?).bind (·.body)).elim [] Code.globalsNamed).eraseDups).filterMap (fun g=>(P.globals[g]?).map (·.name)) ++
  L.filterMap fun g=>(P.funcs[g]?).bind fun fn=>if fn.body.isNone then entryReads.lookup fn.name else none).eraseDups)=l):P.varsNamed f=l:=by
 unfold Program.varsNamed; rw [h,h2]
end Go.Tm
namespace Go.Tm
open Go.RowKit
theorem yb {P:Program} (w:World) (dT sT ty elem:TypeId) (g o dLen dCap sz:Nat) (a:Addr) (sLen sCap:Nat) (cur:Array Value) (t:TypeId) (cs:List Value)
  (hu:P.underlying dT=some (.slice elem)) (hs:(P.info? elem).map (·.size)=some sz)
  (hg:w.heap[g]?=some (.cells cur t (0,0))) (hn:cs.length=Nat.min sLen dLen*sz)
  (hsrc:∀ j v,cs[j]?=some v→w.cell? (a.add j)=some v) (hfit:o+cs.length≤cur.size) (h1:∀ v∈cs,v.oneCell'=true) :
  (Builtin.copy_ #[dT,sT] ty #[.slice (some ⟨g,o,none⟩) dLen dCap,.slice (some a) sLen sCap]).run P w =
   .ok (goInt (Nat.min sLen dLen)) (w.setRow g (cur.toList.take o++cs++cur.toList.drop (o+cs.length)).toArray):=by
 have hl:=run_loadCells_list (P:=P) w a cs hsrc
 have hst:=run_storeCells_at P g o t cs 0 cur w hg (by simpa using hfit) h1
 cases hq:P.info? elem with
 | none=>simp [hq] at hs
 | some i =>
  have hi:i.size=sz:=by simpa [hq] using hs
  simp [Builtin.copy_,run_underlying hu,Builtin.lenOf,Builtin.firstCells,sizeOf,typeInfo,hq,hi,← hn,hl,hst]
end Go.Tm
namespace Go.Tm
open Go.RowKit Go.Lib Go.Proofs
section
variable {P:Program}
theorem Ji (w:World) {ops:Array Oper} {rest:List Oper} {o:Oper} {a:Act} {Q:Exit→Act→World→Prop} (hgd:o.guard=none) (d s:Operand) (t t':TypeId)
  (ho:o.op=.call { callee:=.builtin .copy,args:=#[d,s],argTypes:=#[t,t'] }) (v u:Value) (hd:a.eval d=v) (hs:a.eval s=u) {v':Value} {w':World}
  (hr:(Builtin.copy_ #[t,t'] o.type #[v,u]).run P w=.ok v' w') (h:wpList P ops Q rest (a.put o.dst v') w'):wpList P ops Q (o :: rest) a w :=
 wpList_plain hgd fun _ hK=>by
  unfold Oper.wp execOp
  simp only [ho,resolve,invoke,builtin,Sem.run_bind,Sem.run_pure,Result.andThen_ok,List.map_toArray,List.map_cons,List.map_nil,hd,hs,hr]
  exact hK _ _ h
theorem PL {ops:Array Oper} {o:Oper} {a:Act} {w:World} {K:Act→World→Prop} {Q:Exit→Act→World→Prop} {E:Prop}
  (hg:o.guard=none) (d x:Operand) (dT sT:TypeId) (hop:o.op=Op.call { callee:=Callee.builtin Builtin.copy,args:=#[d,x],argTypes:=#[dT,sT] })
  (v u:Value) (hd:a.eval d=v) (hx:a.eval x=u) {v':Value} {w':World} (hr:(Builtin.copy_ #[dT,sT] o.type #[v,u]).run P w=.ok v' w') (hK:K (a.put o.dst v') w') :
  if Region.wanted o (yielded ops a.tmps)=true then Oper.wp P o a w K Q else E:=by
 have hw:Region.wanted o (yielded ops a.tmps)=true:=by simp [Region.wanted,hg]
 rw [if_pos hw]
 unfold Oper.wp
 simp [execOp,hop,resolve,invoke,builtin,hd,hx,hr,Result.andThen]
 exact hK
structure Hd (p:Prop):Prop where
 out:p
structure UX (P:Program) (f tS e tI tB fo sz bytes:Nat) (fn:Func) (z:Value):Prop where
 mixed:P.follows .mixedOrders=true
 hf:P.funcs[f]?=some fn
 ov:∀ vs w,(callFunc fo vs).run P w=((Extern.SlicesOverlaps.overlaps #[tS,tS] #[tB] vs).run P w).andThen fun v w'=>.ok (.value v) w'
 t3:P.underlying tI=some (.int .i64)
 t4:P.underlying tB=some .bool
 t5:P.underlying tS=some (.slice e)
 i5:(P.info? e).map (fun i=>(i.size,i.bytes))=some (sz,bytes)
 hz:(P.info? e).bind (·.zero)=some z
 zc:z.cells.size=sz
 pos:0 < sz
 bpos:0 < bytes
def TF (w:World) (b n i e sz:Nat) (cur:Array Value) (vs:List Value) (x:Ending) (w':World):Prop :=
 ∃ b' c' cur',x=.returned (.slice (some ⟨b',0,none⟩) (n+1) c')∧sO w w'∧(∀ k,k < w.heap.size→k≠b→w'.heap[k]?=w.heap[k]?)∧w'.heap[b']?=some (.cells cur' e (0,0))∧cur'.size=c'*sz∧n+1≤c'∧c'≤maxLen ∧
  cur'.toList.take ((n+1)*sz)=cur.toList.take (i*sz)++vs++(cur.toList.drop (i*sz)).take ((n - i)*sz)∧(b'=b∨w.heap.size≤b')
structure Xv (w:World) (b n c i vb e sz bytes:Nat) (cur arr2:Array Value) (vs:List Value):Prop where
 hi:i < n
 hnc:n≤c
 hc:c≤maxLen
 big:(n+1)*bytes≤140737488355328
 hvb:vb≠b
 hcur:w.heap[b]?=some (.cells cur e (0,0))
 hsz:cur.size=c*sz
 harr:w.heap[vb]?=some (.cells arr2 e (0,0))
 vl:vs.length=sz
 hvs:∀ (j:Nat) (v:Value),vs[j]?=some v→arr2[j]?=some v
 h1c:∀ (j:Nat) (v:Value),j < n*sz→cur[j]?=some v→v.oneCell'=true
 h1v:∀ v∈vs,v.oneCell'=true
def Yj (P:Program) (f e sz bytes:Nat):Prop:=∀ (w:World) (b n c i vb vc:Nat) (cur arr2:Array Value) (vs:List Value),Xv w b n c i vb e sz bytes cur arr2 vs →
 Calls P f #[.slice (some ⟨b,0,none⟩) n c,.int .i64 i,.slice (some ⟨vb,0,none⟩) 1 vc] w (TF w b n i e sz cur vs)
theorem Y7 (A:Array Value) (o:Nat) (cs:List Value) (h:o+cs.length≤A.size):(A.toList.take o++cs++A.toList.drop (o+cs.length)).toArray.size=A.size:=by simp; omega
theorem Yk {α:Type} {c:Bool} {x r:α} (h:(bif c then some x else none)=some r):c=true∧some x=some r:=by
 cases c with
 | true=>exact ⟨rfl,h⟩
 | false=>cases h
theorem Jj {α:Type} {a b:List α} {k:Nat} (h:a.length=k):(a++b).take k=a:=List.take_left' h
theorem Yl {α:Type} {a b:List α} {k:Nat} (h:a.length=k):(a++b).drop k=b:=List.drop_left' h
variable {f tS e tI tB fo sz bytes:Nat} {fn:Func} {z:Value} {w:World} {b n c i vb vc:Nat} {cur arr2:Array Value} {vs:List Value}
theorem UX.size (L:UX P f tS e tI tB fo sz bytes fn z):∃ i0,P.info? e=some i0∧i0.size=sz∧i0.bytes=bytes∧i0.zero=some z:=by
 have h:=L.i5
 have h2:=L.hz
 cases hq:P.info? e with
 | none=>simp [hq] at h
 | some x=>simp [hq] at h h2; exact ⟨x,rfl,h.1,h.2,h2⟩
theorem Xv.cs (H:Xv w b n c i vb e sz bytes cur arr2 vs):((cur.toList.drop (i*sz)).take ((n - i)*sz)).length=(n - i)*sz∧i*sz+(n - i)*sz=n*sz∧n*sz≤c*sz∧(i+1)*sz=i*sz+sz∧(n+1)*sz=n*sz+sz∧i*sz+sz≤n*sz:=by
 have h1:=H.hi
 have h2:i*sz+(n - i)*sz=n*sz:=by rw [← Nat.add_mul]; congr 1; omega
 have h3:n*sz≤c*sz:=Nat.mul_le_mul_right _ H.hnc
 have h4:(i+1)*sz≤n*sz:=Nat.mul_le_mul_right _ (by omega)
 have h5:=H.hsz
 refine ⟨?_,h2,h3,Nat.succ_mul _ _,Nat.succ_mul _ _,by rw [← Nat.succ_mul]; exact h4⟩
 simp
 omega
theorem UX.shift (L:UX P f tS e tI tB fo sz bytes fn z) (H:Xv w b n c i vb e sz bytes cur arr2 vs) (hroom:n+1≤c):∃ W1 W2,
  (∀ ty dc sc,(Builtin.copy_ #[tS,tS] ty #[.slice (some ⟨b,(i+1)*sz,none⟩) (n - i) dc,.slice (some ⟨b,i*sz,none⟩) (n+1 - i) sc]).run P w.drew=.ok (goInt (Nat.min (n+1 - i) (n - i))) W1) ∧
  (∀ ty dc,(Builtin.copy_ #[tS,tS] ty #[.slice (some ⟨b,i*sz,none⟩) (n+1 - i) dc,.slice (some ⟨vb,0,none⟩) 1 vc]).run P W1=.ok (goInt (Nat.min 1 (n+1 - i))) W2) ∧
  (∀ lb cb,(callFunc fo #[.slice (some ⟨vb,0,none⟩) 1 vc,.slice (some ⟨b,(i+1)*sz,none⟩) lb cb]).run P w=.ok (.value (.bool false)) w) ∧
  Hd (TF w b n i e sz cur vs (.returned (.slice (some ⟨b,0,none⟩) (n+1) c)) W2):=by
 obtain ⟨i0,hi0,hzs,hzb,hz1⟩:=L.size
 obtain ⟨hcl,h2,h3,h4,h5,h6⟩:=H.cs
 obtain ⟨hi,hnc,hc,hbig,hvb,hcur,hsz,harr,hvl,hvs,h1c,h1v⟩:=H
 have hpos:=L.pos
 have h7:(n+1)*sz≤c*sz:=Nat.mul_le_mul_right _ hroom
 have hsize:(P.info? e).map (·.size)=some sz:=by simp [hi0,hzs]
 have zz:∀ w,(Go.sizeOf e).run P w=.ok sz w:=fun w=>by simp [sizeOf,typeInfo,hi0,hzs]
 obtain ⟨cs,hcs⟩:∃ cs,cs=(cur.toList.drop (i*sz)).take ((n - i)*sz):=⟨_,rfl⟩
 rw [← hcs] at hcl
 obtain ⟨C1,hC1⟩:∃ C1:Array Value,C1=(cur.toList.take ((i+1)*sz)++cs++cur.toList.drop ((i+1)*sz+cs.length)).toArray:=⟨_,rfl⟩
 have hC1s:C1.size=c*sz:=by rw [hC1,Y7 _ _ _ (by rw [hcl,hsz]; omega),hsz]
 obtain ⟨C2,hC2⟩:∃ C2:Array Value,C2=(C1.toList.take (i*sz)++vs++C1.toList.drop (i*sz+vs.length)).toArray:=⟨_,rfl⟩
 have hC2s:C2.size=c*sz:=by rw [hC2,Y7 _ _ _ (by rw [hvl,hC1s]; omega),hC1s]
 have hW1b:(w.drew.setRow b C1).heap[b]?=some (.cells C1 e (0,0)):=setRow_heap w.drew b cur C1 e (0,0) hcur
 have hW1v:(w.drew.setRow b C1).heap[vb]?=some (.cells arr2 e (0,0)):=by rw [setRow_other w.drew b vb C1 hvb]; exact harr
 refine ⟨w.drew.setRow b C1,(w.drew.setRow b C1).setRow b C2,fun ty dc sc=>?_,fun ty dc=>?_,fun lb cb=>?_,⟨b,c,C2,rfl,⟨rfl,rfl,rfl,by simp [World.setRow,World.drew_eq]⟩,fun k hk hb=>?_,setRow_heap _ b C1 C2 e (0,0) hW1b,hC2s,hroom,hc,?_,.inl rfl⟩⟩
 ·rw [hC1]
  refine yb w.drew _ _ ty e b ((i+1)*sz) (n - i) dc sz ⟨b,i*sz,none⟩ (n+1 - i) sc cur e cs L.t5 hsize hcur (by rw [hcl]; congr 1; simp only [Nat.min_def]; split <;> omega) (fun j v hj=>?_) (by rw [hcl]; omega) (fun v hv=>?_)
  ·rw [Addr.add_lit]
   have h2:cur[i*sz+j]?=some v:=by
    rw [hcs,List.getElem?_take] at hj
    split at hj
    ·rw [List.getElem?_drop] at hj; simpa using hj
    ·cases hj
   show World.cell? w _=_
   simp [World.cell?,hcur,h2]
  ·rw [hcs] at hv
   obtain ⟨j,hj⟩:=List.mem_iff_getElem?.1 hv
   rw [List.getElem?_take] at hj
   split at hj
   ·rw [List.getElem?_drop] at hj
    exact h1c (i*sz+j) v (by omega) (by simpa using hj)
   ·cases hj
 ·rw [hC2]
  exact yb _ _ _ ty e b (i*sz) (n+1 - i) dc sz ⟨vb,0,none⟩ 1 vc C1 e vs L.t5 hsize hW1b (by rw [hvl,show Nat.min 1 (n+1 - i)=1 by simp only [Nat.min_def]; split <;> omega,Nat.one_mul]) (fun j v hj=>by
   rw [Addr.add_lit]
   have h2:=hvs j v hj
   simp [World.cell?,hW1v,h2]) (by rw [hvl]; omega) h1v
 ·have hs1:w.shape? vb=some (e,arr2.size):=by simp [World.shape?,harr]
  have hs2:w.shape? b=some (e,cur.size):=by simp [World.shape?,hcur]
  rw [L.ov,Lib.run_overlaps_apart w tS tB e L.t5 sz zz ⟨vb,0,none⟩ ⟨b,(i+1)*sz,none⟩ 1 vc lb cb hvb e e arr2.size cur.size hs1 hs2 (by rw [hsz]; have:=Nat.mul_lt_mul_of_pos_right (show 0 < c by omega) hpos; omega) (by simp [World.frozen?,harr]) (by simp [World.frozen?,harr])]
  rfl
 ·rw [setRow_other _ b k C2 hb,setRow_other _ b k C1 hb]; rfl
 ·rw [← hcs,hC2]
  have e1:C1.toList.take (i*sz)=cur.toList.take (i*sz):=by
   rw [hC1]
   simp only [List.append_assoc]
   rw [List.take_append_of_le_length (by simp; omega),List.take_take,Nat.min_eq_left (by omega)]
  have e2:C1.toList.drop (i*sz+vs.length)=cs++cur.toList.drop ((i+1)*sz+cs.length):=by
   rw [hC1]
   simp only [List.append_assoc]
   exact Yl (by simp [hvl]; omega)
  rw [e1,e2,← List.append_assoc]
  exact Jj (by simp [hvl,hcl]; omega)
theorem UX.grow (L:UX P f tS e tI tB fo sz bytes fn z) (H:Xv w b n c i vb e sz bytes cur arr2 vs) (hroom:c < n+1):∃ N G ROW R1 R2,n+1≤G∧G≤9223372036854775807 ∧
  (∀ ty,(Builtin.append_ #[tS,tI] ty #[.slice (some ⟨b,0,none⟩) i c,.int .i64 ((n:Int)+1 - (i:Int))]).run P w=.ok (.slice (some ⟨N,0,none⟩) (n+1) G) (w.drew.alloc (.cells ROW e))) ∧
  (∀ ty dc,(Builtin.copy_ #[tS,tS] ty #[.slice (some ⟨N,i*sz,none⟩) (n+1 - i) dc,.slice (some ⟨vb,0,none⟩) 1 vc]).run P (w.alloc (.cells ROW e)).drew=.ok (goInt (Nat.min 1 (n+1 - i))) ((w.alloc (.cells ROW e)).drew.setRow N R1)) ∧
  (∀ ty dc sc,(Builtin.copy_ #[tS,tS] ty #[.slice (some ⟨N,(i+1)*sz,none⟩) (n - i) dc,.slice (some ⟨b,i*sz,none⟩) (n - i) sc]).run P ((w.alloc (.cells ROW e)).drew.setRow N R1).drew=.ok (goInt (Nat.min (n - i) (n - i))) (((w.alloc (.cells ROW e)).drew.setRow N R1).drew.setRow N R2)) ∧
  Hd (TF w b n i e sz cur vs (.returned (.slice (some ⟨N,0,none⟩) (n+1) G)) (((w.alloc (.cells ROW e)).drew.setRow N R1).drew.setRow N R2)):=by
 obtain ⟨i0,hi0,hzs,hzb,hz1⟩:=L.size
 obtain ⟨hcl,h2,h3,h4,h5,h6⟩:=H.cs
 obtain ⟨hi,hnc,hc,hbig,hvb,hcur,hsz,harr,hvl,hvs,h1c,h1v⟩:=H
 have hpos:=L.pos
 have hsize:(P.info? e).map (·.size)=some sz:=by simp [hi0,hzs]
 have hik:i+(n+1 - i)=n+1:=by omega
 have hkk:(n:Int)+1 - (i:Int)=((n+1 - i:Nat):Int):=by omega
 have hc63:c≤9223372036854775807:=by unfold maxLen at hc; omega
 have hle:(n+1 - i)*bytes≤(n+1)*bytes:=Nat.mul_le_mul_right _ (by omega)
 have hold:(Builtin.firstCells i0.size i (.slice (some ⟨b,0,none⟩) i c)).run P w.drew=.ok (cur.toList.take (i*sz)).toArray w.drew:=by
  rw [hzs]
  exact run_firstCells_some w.drew sz i ⟨b,0,none⟩ i c (cur.toList.take (i*sz)) (by rw [List.length_take]; simp; omega) (fun j v hj=>by
   rw [Addr.add_lit]
   rw [List.getElem?_take] at hj
   split at hj
   ·show World.cell? w _=_
    have h2:cur[j]?=some v:=by simpa using hj
    simp [World.cell?,hcur,h2]
   ·cases hj)
 have hcn:c=n:=by omega
 obtain ⟨G,hG⟩:∃ G,G=grownCap w (n+1) c e:=⟨_,rfl⟩
 have hGn:n+1≤G:=by rw [hG]; exact grownCap_ge w _ _ _
 have hn63:n+1≤maxLen:=by
  have:n+1≤(n+1)*bytes:=Nat.le_mul_of_pos_right _ L.bpos
  unfold maxLen; omega
 have hG63:G≤maxLen:=by rw [hG]; exact grownCap_le_maxLen w (n+1) c e hn63
 obtain ⟨ROW,hROW⟩:∃ ROW:Array Value,ROW=(cur.toList.take (i*sz)).toArray++Builtin.zeroCells z.cells (n+1 - i)++Builtin.zeroCells z.cells (G - (n+1)):=⟨_,rfl⟩
 have hRl:ROW.size=G*sz:=by
  have e1:(n+1 - i)*sz+(G - (n+1))*sz+i*sz=G*sz:=by rw [← Nat.add_mul,← Nat.add_mul]; congr 1; omega
  rw [hROW]
  simp [Builtin.zeroCells,L.zc]
  omega
 have hGs:n*sz+sz≤G*sz:=by rw [← Nat.succ_mul]; exact Nat.mul_le_mul_right _ hGn
 have hbw:b < w.heap.size:=(Array.getElem?_eq_some_iff.1 hcur).1
 have hvw:vb < w.heap.size:=(Array.getElem?_eq_some_iff.1 harr).1
 obtain ⟨cs,hcs⟩:∃ cs,cs=(cur.toList.drop (i*sz)).take ((n - i)*sz):=⟨_,rfl⟩
 rw [← hcs] at hcl
 obtain ⟨R1,hR1⟩:∃ R1:Array Value,R1=(ROW.toList.take (i*sz)++vs++ROW.toList.drop (i*sz+vs.length)).toArray:=⟨_,rfl⟩
 have hR1l:R1.size=G*sz:=by rw [hR1,Y7 _ _ _ (by rw [hvl,hRl]; omega),hRl]
 obtain ⟨R2,hR2⟩:∃ R2:Array Value,R2=(R1.toList.take ((i+1)*sz)++cs++R1.toList.drop ((i+1)*sz+cs.length)).toArray:=⟨_,rfl⟩
 have hR2l:R2.size=G*sz:=by rw [hR2,Y7 _ _ _ (by rw [hcl,hR1l]; omega),hR1l]
 have hA0:∀ k,k < w.heap.size→(w.alloc (.cells ROW e)).drew.heap[k]?=w.heap[k]?:=fun k hk=>by show (w.heap.push _)[k]?=_; rw [Array.getElem?_push,if_neg (by omega)]
 have hA1:(w.alloc (.cells ROW e)).drew.heap[w.heap.size]?=some (.cells ROW e (0,0)):=by show (w.heap.push _)[w.heap.size]?=_; simp
 have hA2:(w.alloc (.cells ROW e)).drew.heap[vb]?=some (.cells arr2 e (0,0)):=(hA0 vb hvw).trans harr
 have hB1:((w.alloc (.cells ROW e)).drew.setRow w.heap.size R1).drew.heap[w.heap.size]?=some (.cells R1 e (0,0)):=setRow_heap (w.alloc (.cells ROW e)).drew w.heap.size ROW R1 e (0,0) hA1
 have hB2:((w.alloc (.cells ROW e)).drew.setRow w.heap.size R1).drew.heap[b]?=some (.cells cur e (0,0)):=(setRow_other (w.alloc (.cells ROW e)).drew w.heap.size b R1 (by omega)).trans ((hA0 b hbw).trans hcur)
 refine ⟨w.heap.size,G,ROW,R1,R2,hGn,by unfold maxLen at hG63; omega,fun ty=>?_,fun ty dc=>?_,fun ty dc sc=>?_,⟨w.heap.size,G,R2,rfl,⟨rfl,rfl,rfl,by simp [World.setRow,World.drew_eq]⟩,fun k hk hb=>?_,setRow_heap _ w.heap.size R1 R2 e (0,0) hB1,hR2l,hGn,hG63,?_,.inr (Nat.le_refl _)⟩⟩
 ·have h:=Lib.run_append_grow_zeros w tS tI ty e i0 z .i64 .i64 L.t5 L.t3 hi0 hz1 (some ⟨b,0,none⟩) i c (cur.toList.take (i*sz)) hold (n+1 - i) (by omega) (by omega) (by omega) (by unfold maxLen at hn63; omega) (by rw [hzb]; omega) (by rw [hzb,hik]; exact growslice_fits hroom hbig)
  rw [hik] at h
  rw [hkk,hG,hROW,hG]
  exact h
 ·rw [hR1]
  exact yb _ _ _ ty e w.heap.size (i*sz) (n+1 - i) dc sz ⟨vb,0,none⟩ 1 vc ROW e vs L.t5 hsize hA1 (by rw [hvl,show Nat.min 1 (n+1 - i)=1 by simp only [Nat.min_def]; split <;> omega,Nat.one_mul]) (fun j v hj=>by
   rw [Addr.add_lit]
   have h3:=hvs j v hj
   simp only [World.cell?,hA2,Nat.zero_add,h3]
   simp [h3]) (by rw [hvl,hRl]; omega) h1v
 ·rw [hR2]
  refine yb _ _ _ ty e w.heap.size ((i+1)*sz) (n - i) dc sz ⟨b,i*sz,none⟩ (n - i) sc R1 e cs L.t5 hsize hB1 (by rw [hcl]; simp) (fun j v hj=>?_) (by rw [hcl,hR1l]; omega) (fun v hv=>?_)
  ·rw [Addr.add_lit]
   have h3:cur[i*sz+j]?=some v:=by
    rw [hcs,List.getElem?_take] at hj
    split at hj
    ·rw [List.getElem?_drop] at hj; simpa using hj
    ·cases hj
   simp only [World.cell?,hB2]
   simp [h3]
  ·rw [hcs] at hv
   obtain ⟨j,hj⟩:=List.mem_iff_getElem?.1 hv
   rw [List.getElem?_take] at hj
   split at hj
   ·rw [List.getElem?_drop] at hj
    exact h1c (i*sz+j) v (by omega) (by simpa using hj)
   ·cases hj
 ·rw [setRow_other _ _ k R2 (by omega)]
  show ((w.alloc (.cells ROW e)).drew.setRow w.heap.size R1).heap[k]?=_
  rw [setRow_other _ _ k R1 (by omega)]
  exact hA0 k hk
 ·rw [← hcs,hR2]
  have e0:ROW.toList.take (i*sz)=cur.toList.take (i*sz):=by
   rw [hROW]
   simp only [Array.toList_append,List.append_assoc]
   exact Jj (by simp; omega)
  have e1:R1.toList.take ((i+1)*sz)=cur.toList.take (i*sz)++vs:=by
   rw [hR1,e0]
   exact Jj (by simp [hvl]; omega)
  rw [e1]
  exact Jj (by simp [hvl,hcl]; omega)
theorem WR {F:Nat→Prop} {rows:List (List T)} {inner:List Value} (h:BB w F sz rows inner):∀ (j:Nat) (v:Value),j < rows.length*sz→inner[j]?=some v→v.oneCell'=true:=fun j v hj hv=>by
 have hp:0 < sz:=by
  rcases Nat.eq_zero_or_pos sz with h0 | h0
  ·subst h0; omega
  ·exact h0
 have h1:j / sz < rows.length:=Nat.div_lt_of_lt_mul (by rw [Nat.mul_comm]; exact hj)
 obtain ⟨row,hr⟩:∃ row,rows[j / sz]?=some row:=⟨_,List.getElem?_eq_getElem h1⟩
 have h2:=h.len _ row hr
 obtain ⟨x,hx⟩:∃ x,row[j % sz]?=some x:=⟨_,List.getElem?_eq_getElem (by rw [h2]; exact Nat.mod_lt _ hp)⟩
 obtain ⟨u,hu,h3,_⟩:=h.rd _ row _ x hr hx
 rw [show j / sz*sz+j % sz=j by rw [Nat.mul_comm]; exact Nat.div_add_mod _ _,hv] at hu
 cases hu
 exact h3
theorem Y8 {F:Nat→Prop} {rows:List (List T)} {row:List T} {inner vs:List Value} {i:Nat} (h:BB w F sz rows inner) (hv:BB w F sz [row] vs) (hi:i≤rows.length) :
  BB w F sz (rows.take i++row :: rows.drop i) (inner.take (i*sz)++vs++inner.drop (i*sz)):=by
 have hl:=h.size
 have hvl:=hv.size
 simp only [List.length_cons,List.length_nil,Nat.zero_add,Nat.one_mul] at hvl
 have h1:i*sz≤rows.length*sz:=Nat.mul_le_mul_right _ hi
 have h0:(inner.take (i*sz)).length=i*sz:=by simp; omega
 have h2:(rows.take i).length=i:=by simp; omega
 refine ⟨?_,fun k r hk=>?_,fun k r j x hk hj=>?_⟩
 ·simp [hvl,hl,Nat.min_eq_left hi,Nat.min_eq_left h1]
  rw [← Nat.sub_mul,show i+(rows.length - i+1)=i+1+(rows.length - i) by omega,Nat.add_mul,Nat.add_mul]
  omega
 ·rcases Nat.lt_trichotomy k i with hlt | heq | hgt
  ·rw [List.getElem?_append_left (by omega),List.getElem?_take_of_lt hlt] at hk
   exact h.len _ _ hk
  ·subst heq
   rw [List.getElem?_append_right (by omega),h2,Nat.sub_self,List.getElem?_cons_zero] at hk
   cases hk
   exact hv.len 0 _ rfl
  ·rw [List.getElem?_append_right (by omega),h2,show k - i=(k - i - 1)+1 by omega,List.getElem?_cons_succ,List.getElem?_drop] at hk
   exact h.len _ _ hk
 ·have hrow:r.length=sz→j < sz:=fun e=>by
   have:=(List.getElem?_eq_some_iff.1 hj).1
   omega
  rcases Nat.lt_trichotomy k i with hlt | heq | hgt
  ·rw [List.getElem?_append_left (by omega),List.getElem?_take_of_lt hlt] at hk
   have hj':=hrow (h.len _ _ hk)
   have h3:(k+1)*sz≤i*sz:=Nat.mul_le_mul_right _ hlt
   rw [Nat.succ_mul] at h3
   obtain ⟨u,hu,h4⟩:=h.rd _ _ _ _ hk hj
   exact ⟨u,by rw [List.append_assoc,List.getElem?_append_left (by omega),List.getElem?_take_of_lt (by omega)]; exact hu,h4⟩
  ·subst heq
   rw [List.getElem?_append_right (by omega),h2,Nat.sub_self,List.getElem?_cons_zero] at hk
   cases hk
   have hj':=hrow (hv.len 0 _ rfl)
   obtain ⟨u,hu,h4⟩:=hv.rd 0 _ _ _ rfl hj
   rw [Nat.zero_mul,Nat.zero_add] at hu
   exact ⟨u,by rw [List.append_assoc,List.getElem?_append_right (by omega),h0,List.getElem?_append_left (by omega),show k*sz+j - k*sz=j by omega]; exact hu,h4⟩
  ·rw [List.getElem?_append_right (by omega),h2,show k - i=(k - i - 1)+1 by omega,List.getElem?_cons_succ,List.getElem?_drop] at hk
   have hj':=hrow (h.len _ _ hk)
   have h3:(i+1)*sz≤k*sz:=Nat.mul_le_mul_right _ hgt
   rw [Nat.succ_mul] at h3
   obtain ⟨u,hu,h4⟩:=h.rd _ _ _ _ hk hj
   refine ⟨u,?_,h4⟩
   have e1:(i+(k - i - 1))*sz+sz=k*sz:=by rw [← Nat.succ_mul]; congr 1; omega
   rw [List.getElem?_append_right (by simp [hvl,h0]; omega),List.getElem?_drop]
   rw [← hu]
   congr 1
   simp only [List.length_append,h0,hvl]
   omega
theorem Ym {rows:List (List T)} {row:List T} (hc:wF P f) (hraw:Yj P f e sz bytes) (hi:i < rows.length) (hbig:(rows.length+1)*bytes≤140737488355328) :
  al P f [.one (.ow e sz rows),.one (.t (.int .i64 i)),.one (.ow e sz [row])] (.one (.ow e sz (rows.take i++row :: rows.drop i))) []:=by
 refine ⟨hc,fun w F us bs hF hV hn hb htb=>?_⟩
 cases hV with
 | cons _ v0 b0 _ vs0 bs0 h1 hs1 =>
 cases h1 with
 | one _ _ _ h1 =>
 cases hs1 with
 | cons _ v1 b1 _ vs1 bs1 h2 hs2 =>
 cases h2 with
 | one _ _ _ h2 =>
 cases hs2 with
 | cons _ v2 b2 _ vs2 bs2 h3 hs3 =>
 cases h3 with
 | one _ _ _ h3 =>
 cases hs3
 cases h2 with
 | t _ _ h2 =>
 cases h2
 cases h1 with
 | ow _ _ _ _ inner ho hr =>
 cases h3 with
 | ow _ _ _ _ inner2 ho2 hr2 =>
 obtain ⟨hl,ho⟩:=ho
 obtain ⟨hl2,ho2⟩:=ho2
 rcases ho with ⟨_,h0⟩ | ⟨g,cap,cur,hv,_,hg,hnc,hcm,hsz,htk⟩
 ·omega
 rcases ho2 with ⟨_,h0⟩ | ⟨g2,cap2,cur2,hv2,_,hg2,hnc2,hcm2,hsz2,htk2⟩
 ·simp at h0
 subst hv hv2
 simp only [Value.ownBlock,Option.toList,List.append_nil,List.nil_append,List.singleton_append,List.nodup_cons,List.mem_singleton,List.cons_append] at hn hb
 have hne:g2≠g:=fun h=>hn.1 (by simp [h])
 simp only [List.length_cons,List.length_nil,Nat.zero_add,Nat.one_mul] at hl2 htk2
 have hv2:∀ (j:Nat) (v:Value),inner2[j]?=some v→cur2[j]?=some v:=fun j v hj=>by
  rw [← htk2,List.getElem?_take] at hj
  split at hj
  ·simpa using hj
  ·cases hj
 have hIW:Xv w g rows.length cap i g2 e sz bytes cur cur2 inner2:=⟨hi,hnc,hcm,hbig,hne,hg,hsz,hg2,hl2,hv2,fun j v hj hv=>WR hr j v hj (by rw [← htk,List.getElem?_take,if_pos hj]; simpa using hv),fun v hv=>by
   obtain ⟨j,hj⟩:=List.mem_iff_getElem?.1 hv
   exact WR hr2 j v (by have:=(List.getElem?_eq_some_iff.1 hj).1; simp; omega) hj⟩
 refine (hraw w g rows.length cap i g2 cap2 cur cur2 inner2 hIW).mono fun x w' ⟨b',c',cur',hx,hcalm,hold,hb',hs',hn',hm',htk',hnew⟩=>?_
 have hgw:g < w.heap.size:=(Array.getElem?_eq_some_iff.1 hg).1
 have hSame:Cp F w w':=fun k hk=>hold k (hF k hk) (fun h=>hb k (by simp [h]) hk)
 have hinner:cur.toList.take (i*sz)++inner2++(cur.toList.drop (i*sz)).take ((rows.length - i)*sz)=inner.take (i*sz)++inner2++inner.drop (i*sz):=by
  have e1:i*sz≤rows.length*sz:=Nat.mul_le_mul_right _ (by omega)
  rw [← htk,List.take_take,Nat.min_eq_left e1,List.drop_take,Nat.sub_mul]
 rw [hinner] at htk'
 have hR:=Y8 (i:=i) hr hr2 (by omega)
 have hlen:(rows.take i++row :: rows.drop i).length=rows.length+1:=by simp; omega
 refine ⟨_,F,[b'],[],hx,hcalm,fun k hk hkb=>hold k hk (fun h=>hkb (by simp [h,Value.ownBlock])),fun _ h=>h,fun k hk=>⟨Nat.lt_of_lt_of_le (hF k hk) hcalm.size,fun _=>.inl hk,.inl hk⟩,?_,?_,by simp,fun k hk=>?_⟩
 ·rw [← hlen] at hn' htk' ⊢
  exact .one _ _ _ (.ow e sz _ _ _ ⟨hR.size,.inr ⟨b',c',cur',rfl,Nat.zero_le _,hb',hn',hm',hs',htk'⟩⟩ (hR.mono hSame fun _ h=>h))
 ·exact .skip _ _ _ _ _ _ (fun c h=>by cases h) (.skip _ _ _ _ _ _ (fun c h=>by cases h) (.skip _ _ _ _ _ _ (fun c h=>by cases h) .nil))
 ·simp only [List.append_nil,List.mem_singleton] at hk
  subst hk
  rcases hnew with h | h
  ·subst h
   exact ⟨hb _ (by simp [Value.ownBlock]),.inr (by simp [Value.ownBlock])⟩
  ·exact ⟨fun hf=>by have:=hF _ hf; omega,.inl h⟩
end
end Go.Tm
namespace Go.Tm.Pu
theorem yd (n:Nat):dW (decide (0≤(n:Int)) && ((n:Int) == 0 || (n:Int) == (n:Int)))=some ():=by simp [dW]
theorem VQ {α ρ:Type} {fin:List α→Option ρ} {body:α→Nat→List α→(List α→Option ρ)→Option ρ} {xs:List α} (hb:∀ x i s k,x∈xs→i < s.length→body x i s k=k (s.set i x)) :
  ∀ (ys:List α) (i:Nat) (s:List α),ys=xs.drop i→s.length=xs.length→s.take i=xs.take i→bt fin body ys i s=fin xs:=by
 intro ys
 induction ys with
 | nil =>
  intro i s h1 h2 h3
  simp only [bt]
  have:xs.length≤i:=by have:=congrArg List.length h1; simp at this; omega
  rw [List.take_of_length_le (by omega),List.take_of_length_le this] at h3
  rw [h3]
 | cons y ys ih =>
  intro i s h1 h2 h3
  have hlt:i < xs.length:=by have:=congrArg List.length h1; simp at this; omega
  have hx:xs[i]?=some y:=by have:=congrArg List.head? h1; simpa [List.head?_drop] using this.symm
  have hys:ys=xs.drop (i+1):=by have:=congrArg List.tail h1; simpa [List.tail_drop] using this
  simp only [bt]
  rw [hb y i s _ (List.mem_of_getElem? hx) (by omega)]
  refine ih (i+1) _ hys (by simp [h2]) ?_
  rw [List.take_add_one,List.take_set_of_le (Nat.le_refl i),h3,List.getElem?_set_self (by omega),List.take_add_one,hx]
theorem lH {α ρ:Type} {fin:List α→Option ρ} {body:α→Nat→List α→(List α→Option ρ)→Option ρ} {xs:List α} (z:α) (hb:∀ x i s k,x∈xs→i < s.length→body x i s k=k (s.set i x)) :
  bt fin body xs 0 (List.replicate xs.length z)=fin xs:=VQ hb xs 0 _ (by simp) (by simp) (by simp)
theorem qs {α ρ:Type} {fin:Unit→Option ρ} {body:α→Nat→Unit→(Unit→Option ρ)→Option ρ} {xs:List α} (hb:∀ x i k,xs[i]?=some x→body x i () k=k ()) :
  ∀ (ys:List α) (i:Nat),ys=xs.drop i→bt fin body ys i ()=fin ():=by
 intro ys
 induction ys with
 | nil=>intro i _; rfl
 | cons y ys ih =>
  intro i h1
  have hx:xs[i]?=some y:=by have:=congrArg List.head? h1; simpa [List.head?_drop] using this.symm
  have hys:ys=xs.drop (i+1):=by have:=congrArg List.tail h1; simpa [List.tail_drop] using this
  simp only [bt]
  rw [hb y i _ hx]
  exact ih (i+1) hys
def M7 {α:Type} (f:α→Nat):List α→Nat
 | []=>0
 | x :: xs=>f x+M7 f xs
def fU {α:Type} (f:α→Nat) (xs:List α):Nat:=xs.length+M7 f xs
theorem Yn {α:Type} {f:α→Nat} {xs:List α} {x:α} (h:x∈xs):f x≤M7 f xs:=by
 induction xs with
 | nil=>cases h
 | cons y ys ih =>
  simp only [M7]
  rcases List.mem_cons.1 h with rfl | h
  ·omega
  ·have:=ih h; omega
theorem gE {α:Type} {f:α→Nat} {xs:List α} {x:α} (h:x∈xs):f x≤fU f xs:=by
 have:=Yn (f:=f) h; unfold fU; omega
theorem gF {α:Type} {f:α→Nat} (xs:List α):xs.length≤fU f xs:=by unfold fU; omega
def hP (n:Int) (b:Nat):Int:=if (b:Int)≤n then n - b else -1
theorem Li {n:Int} {b:Nat} (h:¬ (b:Int)≤n):hP n b=-1:=by simp [hP,h]
theorem F6 {n:Int} {b:Nat} (h:(b:Int)≤n):hP n b=n - b:=by simp [hP,h]
theorem ny {n:Int} {b c:Nat} {f:Int→Option Int} (hf:∀ r,0≤r→r≤n→f r=some (hP r c)) (h0:0≤n) :
  (bif decide (hP n b < 0) then some (-1) else f (hP n b))=some (hP n (b+c)):=by
 by_cases h:(b:Int)≤n
 ·rw [F6 h]
  have h1:¬ (n - (b:Int) < 0):=by omega
  simp only [h1,decide_false,cond_false]
  rw [hf _ (by omega) (by omega)]
  unfold hP
  by_cases h2:(c:Int)≤n - b
  ·rw [if_pos h2,if_pos (by omega)]; congr 1; omega
  ·rw [if_neg h2,if_neg (by omega)]
 ·rw [Li h]
  have:¬ (((b+c:Nat):Int)≤n):=by omega
  simp [hP,this]; omega
theorem sB {n:Int} {b:Nat}:(bif decide (hP n b < 0) then some (-1) else some (hP n b))=some (hP n b):=by
 by_cases h:(b:Int)≤n
 ·rw [F6 h]
  have h1:¬ (n - (b:Int) < 0):=by omega
  simp [h1]
 ·rw [Li h]; simp
theorem E8 {n:Int} {m:Nat} (h0:0≤n) (h1:n≤1048576) (hm:m≤9223372036854775807):(bif decide (cy .i64 n (m:Int) < 0) then some (-1) else some (cy .i64 n (m:Int)))=some (hP n m):=by
 rw [cH (by omega) (by omega)]
 unfold hP
 by_cases h:(m:Int)≤n
 ·have:¬ (n - (m:Int) < 0):=by omega
  simp [h,this]
 ·have:n - (m:Int) < 0:=by omega
  simp [h,this]
theorem E9 {α:Type} {fin:Int→Option Int} {body:α→Nat→Int→(Int→Option Int)→Option Int} {f:α→Nat} {xs:List α} (hfin:∀ s,fin s=some s) (hb:∀ x i s k,x∈xs→0≤s→s≤1048576→body x i s k=bif decide (hP s (f x) < 0) then some (-1) else k (hP s (f x))) :
  ∀ (ys:List α) (i:Nat) (s:Int),(∀ y∈ys,y∈xs)→0≤s→s≤1048576→bt fin body ys i s=some (hP s (M7 f ys)):=by
 intro ys
 induction ys with
 | nil=>intro i s _ h0 h1; simp [bt,hfin,hP,M7,h0]
 | cons y ys ih =>
  intro i s hm h0 h1
  simp only [bt,M7]
  rw [hb y i s _ (hm y (by simp)) h0 h1]
  exact ny (fun r h2 h3=>ih (i+1) r (fun z hz=>hm z (by simp [hz])) h2 (by omega)) h0
theorem Dh {n:Int} {m c:Nat} {f:Int→Option Int} (hf:(m:Int)≤n→∀ r,0≤r→r≤n→f r=some (hP r c)) (h0:0≤n) (h1:n≤1048576) (hm:m≤9223372036854775807) :
  (bif decide (cy .i64 n (m:Int) < 0) then some (-1) else f (cy .i64 n (m:Int)))=some (hP n (m+c)):=by
 rw [cH (by omega) (by omega)]
 by_cases h:(m:Int)≤n
 ·have:=ny (b:=m) (hf h) h0
  rw [F6 h] at this
  exact this
 ·have h2:n - (m:Int) < 0:=by omega
  have h3:¬ (((m+c:Nat):Int)≤n):=by omega
  simp [h2,hP,h3]; omega
end Go.Tm.Pu
