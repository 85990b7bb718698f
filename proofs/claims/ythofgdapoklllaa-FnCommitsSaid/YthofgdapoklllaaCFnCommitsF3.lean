/- The abstract machine over data trees, and that it tells the truth of the translated code. -/
import Derived.Calls
import Derived.Below
import Derived.RowKit3
import Derived.KernelRfl
import Derived.Laws.BytesArg
import Derived.Lib.ItoaMem
import Derived.Laws.MakeOwn
import Derived.Laws.OwnMore
import Derived.Laws.CopyRow
import Derived.Laws.Tables
import Derived.Maps.AppendAt
import Derived.Laws.Entries
import Derived.Laws.StructEq
import Derived.Laws.Small
import Derived.Laws.IdiomCopy
import Derived.Laws.Cover3
import Derived.Orders
import Derived.ChangeOld
import Derived.ChangeArms
import Derived.Carry
import Derived.OpenShut
import Derived.IntWalk
import Derived.JoinedOf
import Derived.Test.YthofgdapoklllaaCFnCommitsF2
set_option linter.unusedVariables false
set_option linter.unusedSimpArgs false
namespace Go.Tm
open Go
section
variable {P:Program} {n:Nat} {ls:List Nat} {Q:Exit→St→Prop} {N:St→Prop} {st:St} {p:Nat→Bool} {ρ:Nat→Root} {ops:Array Oper} {l l':List Oper} {K:St→Prop} {y:Code} {o:Oper}
def numOf:Option A→Option Int
  | some (.t (.int _ i))=>some i
  | _=>none
theorem numOf_some {a:Option A} {i:Int} (h:numOf a=some i):∃ k,a=some (.t (.int k i)):=by
  unfold numOf at h
  split at h
  · rename_i k j; cases h; exact ⟨k,rfl⟩
  · cases h
def rowsK (st:St):Option A→Option (List (List T))
  | some (.t (.sl _ rows))=>some rows
  | some .nil=>some []
  | some (.own r)=>match st.rw r with
    | some (.live _ _ rows)=>some rows
    | some (.frz _ rows)=>some rows
    | _=>none
  | _=>none
theorem rowsK_some {a:Option A} {rows:List (List T)} (h:rowsK st a=some rows):∃ y m,a=some y∧((y.rows fun m rows=>MA.ret (m,rows)).run st).map Prod.fst=some (m,rows):=by
  unfold rowsK at h
  split at h
  · cases h; exact ⟨_,_,rfl,rfl⟩
  · cases h; exact ⟨_,_,rfl,rfl⟩
  · rename_i r
    split at h
    · rename_i e sz rows hr; cases h; exact ⟨.own r,sz,rfl,by simp [A.rows,MA.run,hr]⟩
    · rename_i sz rows hr; cases h; exact ⟨.own r,sz,rfl,by simp [A.rows,MA.run,hr]⟩
    · cases h
  · cases h
def rowsKn (nn:Nat) (st:St):Option A→Option (List (List T))
  | some (.t (.sl m rows))=>bif Nat.beq m nn then some rows else none
  | some .nil=>some []
  | some (.own r)=>match st.rw r with
    | some (.live _ m rows)=>bif Nat.beq m nn then some rows else none
    | some (.frz m rows)=>bif Nat.beq m nn then some rows else none
    | _=>none
  | _=>none
theorem rowsKn_some {nn:Nat} {a:Option A} {rows:List (List T)} (h:rowsKn nn st a=some rows):∃ y m,a=some y∧((y.rows fun m rows=>MA.ret (m,rows)).run st).map Prod.fst=some (m,rows)∧(m=nn∨rows=[]):=by
  have key:∀ {m:Nat} {rs:List (List T)},(bif Nat.beq m nn then some rs else none)=some rows→m=nn∧rs=rows:=fun {m rs} h=>by
    cases hm:Nat.beq m nn with
    | true=>rw [hm] at h; cases h; exact ⟨Nat.eq_of_beq_eq_true hm,rfl⟩
    | false=>rw [hm] at h; cases h
  unfold rowsKn at h
  split at h
  · obtain ⟨rfl,rfl⟩:=key h; exact ⟨_,_,rfl,rfl,.inl rfl⟩
  · cases h; exact ⟨_,0,rfl,rfl,.inr rfl⟩
  · rename_i r
    split at h
    · rename_i e m rs hr; obtain ⟨rfl,rfl⟩:=key h; exact ⟨.own r,m,rfl,by simp [A.rows,MA.run,hr],.inl rfl⟩
    · rename_i m rs hr; obtain ⟨rfl,rfl⟩:=key h; exact ⟨.own r,m,rfl,by simp [A.rows,MA.run,hr],.inl rfl⟩
    · cases h
  · cases h
theorem Runs.ix {α β:Type} {r:β} {xs:List α} {i:Int} {g:α→Option β} (k e sz:Nat) (f:α→List T) (h:(idx xs i).bind g=some r) {t:TypeId} {a b:Operand}
    (hk:∀ y,g y=some r→idx xs i=some y→Runs P p ρ ops l' ((stK P ρ ops k l st).put o.dst (.fadr (f y))) K) (hl:l.drop k=o :: l':=by rfl) (h1:(runP P ρ ops (l.take k) st).isSome=true:=by kernel_rfl)
    (ho:o.op=.indexAddr t a b:=by rfl) (hg:wantG ops (stK P ρ ops k l st) o=some true:=by kernel_rfl) (hf:opFits ρ (stK P ρ ops k l st) o=true:=by kernel_rfl) (ha:(stK P ρ ops k l st).eval a=some (.t (.sl sz (xs.map f))):=by kernel_rfl)
    (hb:numOf ((stK P ρ ops k l st).eval b)=some i:=by kernel_rfl) (hu:P.underlying t=some (.slice e):=by kernel_rfl) (hs:tsize P e=some sz:=by kernel_rfl):Runs P p ρ ops l st K:=by
  refine Runs.batch k h1 ?_
  obtain ⟨y,h2,h3⟩:=bind_some h
  obtain ⟨kk,hb⟩:=numOf_some hb
  rw [hl]
  exact Runs.idxT f xs i ho hg hf ha hb hu hs h2 (hk y h3 h2)
theorem Runs.ixo {α β:Type} {r:β} {xs:List α} {i:Int} {g:α→Option β} (k e sz rw e':Nat) (f:α→List T) (h:(idx xs i).bind g=some r) {t:TypeId} {a b:Operand}
    (hk:∀ y,g y=some r→idx xs i=some y→Runs P p ρ ops l' ((stK P ρ ops k l st).put o.dst (.elem rw sz i.toNat 0)) K) (hl:l.drop k=o :: l':=by rfl) (h1:(runP P ρ ops (l.take k) st).isSome=true:=by kernel_rfl)
    (ho:o.op=.indexAddr t a b:=by rfl) (hg:wantG ops (stK P ρ ops k l st) o=some true:=by kernel_rfl) (hf:opFits ρ (stK P ρ ops k l st) o=true:=by kernel_rfl) (ha:(stK P ρ ops k l st).eval a=some (.own rw):=by kernel_rfl)
    (hr:(stK P ρ ops k l st).rw rw=some (.live e' sz (xs.map f)):=by kernel_rfl) (hb:numOf ((stK P ρ ops k l st).eval b)=some i:=by kernel_rfl) (hu:P.underlying t=some (.slice e):=by kernel_rfl) (hs:tsize P e=some sz:=by kernel_rfl):Runs P p ρ ops l st K:=by
  refine Runs.batch k h1 ?_
  obtain ⟨y,h2,h3⟩:=bind_some h
  obtain ⟨kk,hb⟩:=numOf_some hb
  rw [hl]
  exact Runs.idxO f xs i rw ho hg hf ha hr hb hu hs h2 (hk y h3 h2)
theorem Runs.ln {α:Type} (k e:Nat) (f:α→List T) (xs:List α) {t:TypeId} {x:Operand} {args:Array Operand} {ts:Array TypeId} (hk:Runs P p ρ ops l' ((stK P ρ ops k l st).put o.dst (.t (.int .i64 xs.length))) K) (hl:l.drop k=o :: l':=by rfl)
    (h1:(runP P ρ ops (l.take k) st).isSome=true:=by kernel_rfl) (ho:o.op=.call { callee:=.builtin .len,args,argTypes:=ts }:=by rfl) (hargs:args.toList=[x]:=by rfl) (hts:ts.toList=[t]:=by rfl) (hg:wantG ops (stK P ρ ops k l st) o=some true:=by kernel_rfl)
    (hf:opFits ρ (stK P ρ ops k l st) o=true:=by kernel_rfl) (hx:rowsK (stK P ρ ops k l st) ((stK P ρ ops k l st).eval x)=some (xs.map f):=by kernel_rfl) (hu:P.underlying t=some (.slice e):=by kernel_rfl):Runs P p ρ ops l st K:=by
  refine Runs.batch k h1 ?_
  obtain ⟨y,m,hx,hy⟩:=rowsK_some hx
  rw [hl]
  exact Runs.lenT f xs m ho hargs hts hg hf hx hy hu hk
theorem Runs.ap {α β:Type} {r:β} {xs ys:List α} {g:Unit→Option β} {by_:Nat} (k d e nn rw:Nat) (f:α→List T) (h:(chk (decide ((xs.length+ys.length)*by_≤140737488355328))).bind g=some r) {t:TypeId} {ts:Array TypeId} {args:Array Operand} {a b:Operand}
    (hk:g ()=some r→Runs P p ρ ops l' (({ stK P ρ ops k l st with rw:=upd (upd (stK P ρ ops k l st).rw rw (some .gone)) (tokR d 0) (some (.live e nn ((xs++ys).map f))) }:St).put o.dst (.own (tokR d 0))) K) (hl:l.drop k=o :: l':=by rfl) (h1:(runP P ρ ops (l.take k) st).isSome=true:=by kernel_rfl)
    (ho:o.op=.call { callee:=.builtin .append,args,argTypes:=ts }:=by rfl) (hargs:args.toList=[a,b]:=by rfl) (hts:ts.toList=[t,t]:=by rfl) (hd:o.dst=some d:=by rfl) (hg:wantG ops (stK P ρ ops k l st) o=some true:=by kernel_rfl) (hf:opFits ρ (stK P ρ ops k l st) o=true:=by kernel_rfl)
    (ha:(stK P ρ ops k l st).eval a=some (.own rw):=by kernel_rfl) (hr:(stK P ρ ops k l st).rw rw=some (.live e nn (xs.map f)):=by kernel_rfl) (hy:rowsKn nn (stK P ρ ops k l st) ((stK P ρ ops k l st).eval b)=some (ys.map f):=by kernel_rfl)
    (hi:appInfo P t=some (e,nn,by_):=by kernel_rfl) (hne:Nat.beq (tokR d 0) rw=false:=by kernel_rfl) (hfree:(stK P ρ ops k l st).rw (tokR d 0)=none:=by kernel_rfl):Runs P p ρ ops l st K:=by
  refine Runs.batch k h1 ?_
  obtain ⟨_,h2,h3⟩:=bind_some h
  obtain ⟨y,m,hb,hy,hm⟩:=rowsKn_some hy
  rw [hl]
  exact Runs.appT f d m e nn by_ rw xs ys ho hargs hts hd hg hf ha hr hb hy hm hi (of_decide_eq_true (chk_some h2)) hne hfree (hk h3)
theorem Runs.ld {α:Type} {y:α} {xs:List α} {i:Nat} (k sz m rw off e':Nat) (gg:Bool) (f:α→List T) (h:xs[i]?=some y) {t:TypeId} {a:Operand} (hk:Runs P p ρ ops l' ((stK P ρ ops k l st).put o.dst ((cutA gg m ((f y).map A.t) off).getD .undef)) K) (hl:l.drop k=o :: l':=by rfl) (h1:(runP P ρ ops (l.take k) st).isSome=true:=by kernel_rfl)
    (ho:o.op=.load t a:=by rfl) (hg:wantG ops (stK P ρ ops k l st) o=some true:=by kernel_rfl) (hf:opFits ρ (stK P ρ ops k l st) o=true:=by kernel_rfl)
    (ha:(stK P ρ ops k l st).eval a=some (.elem rw sz i off):=by kernel_rfl) (hr:(stK P ρ ops k l st).rw rw=some (.live e' sz (xs.map f)):=by kernel_rfl) (hgg:tagg P t=some gg:=by kernel_rfl) (hm:tsize P t=some m:=by kernel_rfl) (hc:(cutA gg m ((f y).map A.t) off).isSome=true:=by kernel_rfl):Runs P p ρ ops l st K:=by
  refine Runs.batch k h1 ?_
  obtain ⟨x,hx⟩:=Option.isSome_iff_exists.1 hc
  rw [hx] at hk
  rw [hl]
  exact Runs.loadE f xs rw i off x ho hg hf ha hr hgg hm h hx hk
end
theorem IntoOK.to {P:Program} {f:FuncId} {vs:List V} {o o':Nat} {outs:List (List C)} (hc:Nat.beq o o'=true) (h:IntoOK P f vs o outs):IntoOK P f vs o' outs:=Nat.eq_of_beq_eq_true hc ▸ h
abbrev V.i (n:Int):V:=.one (.t (.int .i64 n))
abbrev V.b (b:Bool):V:=.one (.t (.bool b))
abbrev V.g (l:List T):V:=.agg (l.map .t)
def cw:List Nat→List T→List C
  | 0 :: es,x :: xs=>.t x :: cw es xs
  | (e+1) :: es,.sl sz rows :: xs=>.ow (e+1) sz rows :: cw es xs
  | _ :: es,x :: xs=>.t x :: cw es xs
  | [],xs=>xs.map .t
  | _ :: _,[]=>[]
def V.w (es:List Nat) (l:List T):V:=.agg (cw es l)
section
variable {P:Program} {n:Nat} {ls:List Nat} {Q:Exit→St→Prop} {st:St} {p:Nat→Bool} {ρ:Nat→Root} {ops:Array Oper} {l:List Oper} {K:St→Prop} {y:Code}
theorem XOK.le {f:Nat} {v v' x x':List V} {res:V} {outs:List (List C)} (hv:VLes v v') (hx:VLes x x') (h:XOK P f v' x' res outs):XOK P f v x res outs :=
  ⟨h.1,fun w F D vs us bs hF hD h1 h2 hn hf ht=>(h.2 w F D vs us bs hF hD (vvs_le hv h1) (vvs_le hx h2) hn hf ht).mono fun e w' ⟨v,F',bv,bo,a1,a2,a3,a4,a5,a6,a7,a8⟩=>⟨v,F',bv,bo,a1,a2,a3,a4,a5,a6,outs_le a7 hv,a8⟩⟩
theorem obx {f:FuncId} {c:Code} {args xs:List V} {res:V} {outs:List (List C)} (fn:Func) (m:Bool)
    (h:Wp P fn.ntmps (lentSlots 0 args) c (RetTo P m fn args res outs) (St.start (((((argsA 0 args MA.ret).run St.empty).map Prod.fst).getD [])++xs.map V.toX) (orV ((argsA 0 args MA.ret).run St.empty))))
    (hb:fn.body=some c:=by rfl) (hf:P.funcs[f]?=some fn:=by kernel_rfl) (hnm:(fn.name == "runtime.NumGoroutine")=false:=by kernel_rfl) (hle:Nat.ble (((((argsA 0 args MA.ret).run St.empty).map Prod.fst).getD [])++xs.map V.toX).length fn.ntmps=true:=by kernel_rfl) (ht:resTmps fn.ntmps fn=true:=by kernel_rfl)
    (ha:((argsA 0 args MA.ret).run St.empty).isSome=true:=by kernel_rfl) (hl:lentArgs 0 args ((((argsA 0 args MA.ret).run St.empty).map Prod.fst).getD [])=true:=by kernel_rfl):XOK P f args xs res outs:=by
  obtain ⟨⟨az,st0⟩,h1⟩:=Option.isSome_iff_exists.1 ha
  rw [h1] at h hle hl
  exact XOK.of_body hf hb hnm (Nat.le_of_ble_eq_true hle) ht h1 hl h
theorem Runs.cx {α β:Type} {r:β} {x:Option α} {f:α→Option β} {fid:Nat} {vs us:List V} {res:α→V} {outs:α→List (List C)} (m:Bool) (k d:Nat) (aa xs:List A) (h:x.bind f=some r) (hc:∀ y,x=some y→XOK P fid vs us (res y) (outs y))
    (hk:∀ y,f y=some r→Runs P p ρ ops (l.drop (k+1)) (clS m p d aa (res y) (outs y) (stK P ρ ops k l st)) K)
    (h1:(runP P ρ ops (l.take k) st).isSome=true:=by kernel_rfl) (h2:callOf P ρ ops (stK P ρ ops k l st) (l.drop k)=some (fid,aa++xs,d):=by kernel_rfl)
    (h3:((passA m p aa MA.ret).run (stK P ρ ops k l st)).map (fun q=>fixVs vs q.1)=some vs:=by kernel_rfl)
    (h0:((A.peekVs xs MA.ret).run (orV ((passA m p aa MA.ret).run (stK P ρ ops k l st)))).map (fun q=>fixVs us q.1)=some us:=by kernel_rfl)
    (h4:∀ y,((recvOuts d (slots aa) (outs y) (V.toA d (tokR d 0) (res y) MA.ret)).run (orV ((passA m p aa MA.ret).run (stK P ρ ops k l st)))).isSome=true:=by intro y; kernel_rfl):Runs P p ρ ops l st K:=by
  refine Runs.batch k h1 ?_
  cases x with
  | none=>cases h
  | some y =>
    have h5:=hc y rfl
    have h6:=hk y h
    have h7:=h4 y
    clear hc hk h4
    simp only [stK,clS] at h2 h3 h6 h7 h0
    generalize St.or (runP P ρ ops (l.take k) st)=st1 at *
    obtain ⟨o,l',xf,args,ts,az',caps,e1,e2,e3,e4,e5,e6,e7,e8⟩:=callOf_some h2
    simp only at e5 e6 e8
    have e9:l.drop (k+1)=l':=by rw [← List.drop_drop,e1]; rfl
    rw [e9] at h6
    rw [e1]
    obtain ⟨⟨vs0,st2⟩,h8,h9⟩:=Option.map_eq_some_iff.1 h3
    have h10:VLes vs0 vs:=by rw [← h9]; exact fixVs_le vs vs0
    rw [h8] at h6 h7 h0
    simp only [orV,orA] at h6 h7 h0
    obtain ⟨⟨us0,st4⟩,h12,h13⟩:=Option.map_eq_some_iff.1 h0
    have h14:VLes us0 us:=by rw [← h13]; exact fixVs_le us us0
    have hst:st4=st2:=by
      have:=(In_run (A.peekVs xs MA.ret) (peekVs_in (D:=⟨fun _=>True,fun _=>False,fun _=>True,fun _=>False⟩) (A.inRs_all (fun _=>trivial) _) (fun _=>trivial)) h12).1
      exact St.ext this.tm (funext fun s=>this.ob s (fun h=>h)) (funext fun s=>this.rw s (fun h=>h))
    subst hst
    cases h11:(recvOuts d (slots aa) (outs y) (V.toA d (tokR d 0) (res y) MA.ret)).run st4 with
    | none=>rw [h11] at h7; cases h7
    | some q =>
      obtain ⟨z,st3⟩:=q
      rw [h11] at h6
      exact Runs.step (.run z st3 e2 e3 (.callX m d fid xf args ts az' caps aa xs vs0 us0 st4 (res y) (outs y) e4 e5 e6 e7 e8.symm h8 h12 (h5.le h10 h14) h11)) (by rw [e5]; exact h6)
end
section
variable {P:Program} {n:Nat} {ls:List Nat} {Q:Exit→St→Prop} {st:St} {p:Nat→Bool} {ρ:Nat→Root} {ops:Array Oper} {l:List Oper} {K:St→Prop} {y:Code} {o:Oper}
theorem Runs.winO {α:Type} (f:α→List T) (xs:List α) (r:Nat) (i j:Int) {t e e':TypeId} {x:Operand} {lo hi:Option Operand} {alo ahi:Option A} (ho:o.op=.slice t x lo hi none) (hg:wantG ops st o=some true) (hf:opFits ρ st o=true) (hx:st.eval x=some (.own r))
    (hlo:evO st.eval lo=some alo) (hhi:evO st.eval hi=some ahi) (hn:ahi.isNone=false) (hl:optN 0 alo=some i) (hh:optN xs.length ahi=some j) (hr:st.rw r=some (.live e' 1 (xs.map f))) (hu:P.underlying t=some (.slice e)) (hs:tsize P e=some 1) (hw:isWin ρ o.dst=true) (h:sliceOK i j xs.length=true)
    (hk:Runs P p ρ ops l (st.put o.dst (.win r i.toNat (j - i).toNat)) K):Runs P p ρ ops (o :: l) st K:=by
  have h':=sliceOK_spec h
  refine Runs.pure (x:=.win r i.toNat (j - i).toNat) hg hf ?_ hk
  simp only [maOf,ho,hx,hlo,hhi,cutW,hw,hn,Bool.true_or,Bool.false_eq_true,maWin,hu,hl,hs,MA.run,hr,List.length_map,hh,h'.1,h'.2.1,h'.2.2,and_self,true_and,↓reduceIte]
theorem overL_map2 {α β:Type} (f:α→β) {xs ys:List α} {lo m:Nat} (h:lo+m≤xs.length) (hm:ys.length≤m):(overL xs ys lo).map f=(xs.map f).take lo++ys.map f++(xs.map f).drop (lo+(ys.map f).length):=by
  unfold overL
  have h1:ys.take (xs.length - lo)=ys:=List.take_of_length_le (by omega)
  have h2:min ys.length (xs.length - lo)=ys.length:=by omega
  rw [h1,h2,List.map_append,List.map_append,List.map_take,List.map_drop,List.length_map]
theorem Runs.copyW {α:Type} (f:α→List T) (xs ys:List α) (r lo m k:Nat) {t t' e e':TypeId} {a b:Operand} {y:A} {args:Array Operand} {ts:Array TypeId} (ho:o.op=.call { callee:=.builtin .copy,args,argTypes:=ts }) (hargs:args.toList=[a,b]) (hts:ts.toList=[t,t']) (hg:wantG ops st o=some true) (hf:opFits ρ st o=true)
    (ha:st.eval a=some (.win r lo m)) (hb:st.eval b=some y) (hy:((y.rows fun m rows=>MA.ret (m,rows)).run st).map Prod.fst=some (k,ys.map f)) (hm:k=1∨ys.map f=[]) (hr:st.rw r=some (.live e' 1 (xs.map f))) (hu:P.underlying t=some (.slice e)) (hs:tsize P e=some 1) (h:lo+m≤xs.length) (hl:ys.length≤m)
    (hk:Runs P p ρ ops l ((({ st with rw:=upd st.rw r (some (.live e' 1 ((overL xs ys lo).map f))) }:St)).put o.dst (.t (.int .i64 (ys.length:Nat)))) K):Runs P p ρ ops (o :: l) st K:=by
  refine Runs.op (x:=.t (.int .i64 (ys.length:Nat))) hg hf ?_ hk
  simp only [maOf,ho,hargs,ha,hb,hts,maCopy,maCopyW,hu,hs,↓reduceIte]
  rw [rows_of hy]
  simp only [hm,List.length_map,hl,and_self,↓reduceIte,MA.run,hr,h,overL_map2 f h hl]
theorem Runs.cw {fid e lo m:Nat} {vs:List V} (k d r:Nat) (ts:List T) (rows:List (List T)) (az:List A) (hc:WinOK P fid e ts rows vs lo m)
    (hk:Runs P p ρ ops (l.drop (k+1)) ((stK P ρ ops k l st).put (some d) (.win r lo m)) K)
    (h1:(runP P ρ ops (l.take k) st).isSome=true:=by kernel_rfl) (h2:callOf P ρ ops (stK P ρ ops k l st) (l.drop k)=some (fid,.agg (ts.map A.t++[.own r]) :: az,d):=by kernel_rfl)
    (h0:(match l.drop k with | o :: _=>(match o.op with | .call c=>(match c.callee with | .value xf=>(stK P ρ ops k l st).eval xf | _=>none) | _=>none) | []=>none)=some (.clo fid []):=by kernel_rfl)
    (h3:(stK P ρ ops k l st).rw r=some (.live e 1 rows):=by kernel_rfl) (h4:A.tVs az=some vs:=by kernel_rfl):Runs P p ρ ops l st K:=by
  refine Runs.batch k h1 ?_
  simp only [stK] at h2 h0 h3 hk
  generalize St.or (runP P ρ ops (l.take k) st)=st1 at *
  obtain ⟨o,l',xf,args,tys,az',caps,e1,e2,e3,e4,e5,e6,e7,e8⟩:=callOf_some h2
  simp only at e5 e6 e8
  have e9:l.drop (k+1)=l':=by rw [← List.drop_drop,e1]; rfl
  rw [e9] at hk
  rw [e1] at h0
  simp only [e4] at h0
  rw [h0] at e6
  have hcap:caps=[]:=by injection e6 with e6; injection e6 with _ e6; exact e6.symm
  subst hcap
  rw [List.append_nil] at e8
  rw [e1]
  refine Runs.step (.run (.win r lo m) st1 e2 e3 (.callW d fid r e lo m ts rows xf args tys az vs e4 e5 h0 (e7.trans (congrArg some e8.symm)) h3 h4 hc rfl rfl)) (by rw [e5]; exact hk)
theorem obw {f:FuncId} {c:Code} {e lo m:Nat} {ts:List T} {rows:List (List T)} {args:List V} (fn:Func) (as_:List A)
    (h:Wp P fn.ntmps [0] c (WRet P fn lo m e rows) (St.start (.agg (ts.map A.t++[.own PR]) :: as_) (St.row1 e 1 rows))) (hrs:∀ row∈rows,∀ x∈row,T.sc x=true)
    (hb:fn.body=some c:=by rfl) (hf:P.funcs[f]?=some fn:=by kernel_rfl) (hnm:(fn.name == "runtime.NumGoroutine")=false:=by kernel_rfl) (hle:Nat.ble (as_.length+1) fn.ntmps=true:=by kernel_rfl) (ht:resTmps fn.ntmps fn=true:=by kernel_rfl)
    (ha:A.tVs as_=some args:=by kernel_rfl):WinOK P f e ts rows args lo m :=
  WinOK.of_body hf hb hnm (Nat.le_of_ble_eq_true hle) ht ha hrs h
theorem RetW {fn:Func} {lo m e:Nat} {rows:List (List T)} (h1:(resOf P st fn.results.toList).map tupA=some (.win PR lo m):=by kernel_rfl) (h2:st.rw PR=some (.live e 1 rows):=by kernel_rfl):WRet P fn lo m e rows .ret st:=by
  obtain ⟨l,h3,h4⟩:=Option.map_eq_some_iff.1 h1
  exact ⟨.inl rfl,⟨l,h3,h4⟩,h2⟩
end
end Go.Tm

namespace Go.Tm.Pu
theorem wlist_all {α ρ:Type} {fin:Unit→Option ρ} {body:α→Nat→Unit→(Unit→Option ρ)→Option ρ} {xs:List α} (hb:∀ x i k,xs[i]?=some x→body x i () k=k ()) :
    ∀ (ys:List α) (i:Nat),ys=xs.drop i→wlist fin body ys i ()=fin ():=by
  intro ys
  induction ys with
  | nil=>intro i _; rfl
  | cons y ys ih =>
    intro i h1
    have hx:xs[i]?=some y:=by have:=congrArg List.head? h1; simpa [List.head?_drop] using this.symm
    have hys:ys=xs.drop (i+1):=by have:=congrArg List.tail h1; simpa [List.tail_drop] using this
    simp only [wlist]
    rw [hb y i _ hx]
    exact ih (i+1) hys
end Go.Tm.Pu
namespace Go.Tm
open Go
def runB (P:Program):Nat→List FuncId→List FuncId→Nat→List FuncId×List FuncId×Nat
  | 0,todo,seen,m=>(todo,seen,m)
  | n+1,[],seen,m=>([],seen,m)
  | n+1,f :: todo,seen,m=>if m.testBit f then runB P n todo seen m else runB P n ((P.funcs[f]?).elim [] P.leadsTo++todo) (f :: seen) (m ||| 2 ^ f)
def okB (seen:List FuncId) (m:Nat):Prop:=∀ f:Nat,seen.contains f=m.testBit f
theorem okB_add {seen:List FuncId} {m:Nat} (h:okB seen m) (f:Nat):okB (f :: seen) (m ||| 2 ^ f):=fun g=>by
  rw [List.contains_cons,h g,Nat.testBit_or,Nat.testBit_two_pow,Bool.or_comm]
  congr 1
  by_cases hg:g=f
  · simp [hg]
  · have:¬ f=g:=fun h=>hg h.symm
    simp [hg,this]
theorem runB_via (P:Program):∀ (a b:Nat) (todo seen:List FuncId) (m:Nat),okB seen m→P.closureVia (a+b) todo seen=P.closureVia b (runB P a todo seen m).1 (runB P a todo seen m).2.1
  | 0,b,todo,seen,m,h=>by rw [Nat.zero_add]; rfl
  | a+1,b,[],seen,m,h=>by
    rw [show a+1+b=(a+b)+1 by omega]
    show seen.reverse=P.closureVia b [] seen
    cases b <;> rfl
  | a+1,b,f :: todo,seen,m,h=>by
    rw [show a+1+b=(a+b)+1 by omega]
    rw [show P.closureVia ((a+b)+1) (f :: todo) seen=if seen.contains f then P.closureVia (a+b) todo seen else P.closureVia (a+b) ((P.funcs[f]?).elim [] P.leadsTo++todo) (f :: seen) from rfl,
      show runB P (a+1) (f :: todo) seen m=if m.testBit f then runB P a todo seen m else runB P a ((P.funcs[f]?).elim [] P.leadsTo++todo) (f :: seen) (m ||| 2 ^ f) from rfl,h f]
    cases m.testBit f with
    | true=>exact runB_via P a b todo seen m h
    | false=>exact runB_via P a b _ _ _ (okB_add h f)
def fuelC (P:Program):Nat:=1+(P.funcs.toList.map fun g=>(P.leadsTo g).length+1).sum
theorem closure_of {P:Program} {f:FuncId} {a m:Nat} {L:List FuncId} (h:runB P a [f] [] 0=([],L.reverse,m)) (hF:Nat.ble a (fuelC P)=true):P.closure f=L:=by
  have hle:=Nat.le_of_ble_eq_true hF
  unfold Program.closure
  show P.closureVia (fuelC P) [f] []=L
  rw [show fuelC P=a+(fuelC P - a) by omega,runB_via P a _ _ _ 0 (fun g=>by simp),h]
  cases fuelC P - a <;> simp [Program.closureVia]
theorem inPlace_of {P:Program} {f:FuncId} {L:List FuncId} {l:List String} (h:P.closure f=L) (h2:(L.filterMap fun g=>(P.funcs[g]?).bind fun fn=>if fn.ours || fn.body.isNone || fn.name == "runtime.NumGoroutine" then some fn.name else none)=l):P.inPlace f=l:=by
  unfold Program.inPlace; rw [h,h2]
theorem unfollowed_of {P:Program} {f:FuncId} {L:List FuncId} {b:Bool} (h:P.closure f=L) (h2:(L.any fun g=>(P.funcs[g]?).any fun fn=>match fn.body with | some c=>c.unfollowed | none=>entryCalls fn)=b):P.unfollowed f=b:=by
  unfold Program.unfollowed; rw [h]; exact h2
theorem recurses_of {P:Program} {f:FuncId} (h:P.unfollowed f=true):P.recurses f=true:=by
  unfold Program.recurses; rw [h]; rfl
theorem varsNamed_of {P:Program} {f:FuncId} {L:List FuncId} {l:List String} (h:P.closure f=L) (h2:((((L.flatMap fun g=>((P.funcs[g]?).bind (·.body)).elim [] Code.globalsNamed).eraseDups).filterMap (fun g=>(P.globals[g]?).map (·.name)) ++
   L.filterMap fun g=>(P.funcs[g]?).bind fun fn=>if fn.body.isNone then entryReads.lookup fn.name else none).eraseDups)=l):P.varsNamed f=l:=by
  unfold Program.varsNamed; rw [h,h2]
end Go.Tm
