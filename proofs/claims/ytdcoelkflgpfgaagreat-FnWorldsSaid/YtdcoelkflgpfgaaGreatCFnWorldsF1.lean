/- The abstract machine tells the truth of the translated code. -/
import Derived.Calls
import Derived.Below
import Derived.RowKit3
import Derived.KernelRfl
import Derived.Laws.BytesArg
import Derived.Lib.ItoaMem
import Derived.Laws.MakeOwn
import Derived.Laws.OwnMore
import Derived.Laws.CopyRow
import Derived.Laws.Tables
import Derived.Maps.AppendAt
import Derived.Laws.Entries
import Derived.Laws.StructEq
import Derived.Laws.Small
import Derived.Laws.IdiomCopy
import Derived.Laws.Cover3
set_option linter.unusedVariables false
set_option linter.unusedSimpArgs false
open Array renaming getElem?_eq_getElem->zXq,getElem?_toList->zWz,length_toList->zQg,toArray_toList->zWy
open Bool renaming and_eq_true->sk,false_eq_true->zWQ
open Int renaming eq_ofNat_of_zero_le->zQK,pow_succ->zYH,toNat_natCast->r0
open List renaming all_eq_true->zXZ,append_assoc->zQJ,append_nil->zWV,drop_eq_getElem_cons->zYZ,drop_of_length_le->zXz,eq_nil_of_length_eq_zero->zQZ,ext_getElem?->zYy,foldl_cons->zYG,getD_eq_getElem?_getD->zZx,getElem?_append->zWx,getElem?_append_left->zQW,getElem?_append_right->zQX,getElem?_cons_zero->zQz,getElem?_drop->zQx,getElem?_eq_getElem->sX,getElem?_eq_none->zXK,getElem?_map->zQV,getElem?_range->zZw,getElem?_replicate->zZh,getElem?_set->zXy,getElem?_take->zQy,getElem?_toArray->zVg,getElem_mem->zZY,length->zZX,length_append->zQH,length_cons->zQw,length_nil->zXx,length_replicate->zYz,length_set->zXk,length_take->zQk,map_cons->zXV,map_toArray->zVJ,mem_append->zWv,mem_cons->zYq,mem_cons_of_mem->zQv,mem_cons_self->zWX,mem_map->zYv,mem_of_getElem?->zQQ,mem_of_mem_take->zWJ,mem_singleton->zQq,nodup_append->zYW,range->zXY,replicate->zQG,size_toArray->zVk,take_append_drop->zXv,take_of_length_le->zWj
open Nat renaming add_assoc->zZj,add_zero->zYV,beq->zWg,le_refl->zWK,le_trans->zXQ,lt_of_lt_of_le->zWW,min_eq_left->zXj,mul_le_mul_right->zWH,mul_one->zVX,succ_mul->zYw,zero_add->zWY,zero_le->zZv
open Option renaming bind_some->wk,getD_some->zXX,map_eq_some_iff->zWk,map_some->zWG
open BitVec renaming ofInt->lg
open List renaming getElem?_eq_some_iff->ln
open List renaming mem_append->sa
open Option renaming isSome_iff_exists->sr
open List renaming all_eq_true->zm
open Array renaming getElem?_eq_some_iff->Dp
open List renaming mem_cons->Ir
open Option renaming some->ac
open Option renaming none->cl
open Bool renaming true->gi
open Bool renaming false->go
namespace Go.Tm
theorem al{p:Prop}(k:p:=by omega):p:=k
theorem f6{p:Prop}(k:p:=by simp; omega):p:=k
theorem ig{p:Prop}(k:p:=by simp):p:=k
theorem BL{p:Prop}(k:p:=by decide):p:=k
theorem Fq{p:Prop}(k:p:=by cases h):p:=k
theorem wz5{p:Prop}(k:p:=by simpa using hl):p:=k
theorem wz6{p:Prop}(k:p:=by simp [hx]):p:=k
theorem wz7{p:Prop}(k:p:=by simp [St.O,h2]):p:=k
theorem wz8{p:Prop}(k:p:=by obtain ⟨_,_,_,h⟩:=h; cases h):p:=k
theorem wz9{p:Prop}(k:p:=by simpa using hj):p:=k
theorem W8{p:Prop}(k:p:=by simp [hz]):p:=k
theorem YZ{p:Prop}(k:p:=by simpa using hlt):p:=k
theorem Y0{p:Prop}(k:p:=by simp [hq]):p:=k
theorem qcd{p:Prop}(k:p:=by simpa using hy):p:=k
theorem qce{p:Prop}(k:p:=by simpa using hle):p:=k
theorem qcf{p:Prop}(k:p:=by cases h.1):p:=k
theorem qcg{p:Prop}(k:p:=by cases hx):p:=k
theorem qjU{p:Prop}(k:p:=by rw [hs]; rfl):p:=k
theorem qel{p:Prop}(k:p:=by rw [<- ha1]; omega):p:=k
theorem qfq{p:Prop}(k:p:=by simp [St.O,hs]):p:=k
theorem qfr{p:Prop}(k:p:=by simpa [St.O] using (by rw [hs]; rfl)):p:=k
theorem qfs{p:Prop}(k:p:=by simp [hown.1]; omega):p:=k
theorem qft{p:Prop}(k:p:=by simp [execOp,ho,hvv]):p:=k
theorem qfu{p:Prop}(k:p:=by simp [<- ha1,hl]):p:=k
theorem qfv{p:Prop}(k:p:=by simp only [zVk]; omega):p:=k
theorem qfw{p:Prop}(k:p:=by rw [p]; simp):p:=k
theorem qg6{p:Prop}(k:p:=by rw [h3,h2]; simp):p:=k
theorem qg7{p:Prop}(k:p:=by have:g1.ob s=b:=he; omega):p:=k
theorem qg8{p:Prop}(k:p:=by unfold ip; omega):p:=k
theorem qg9{p:Prop}(k:p:=by simp at hk; omega):p:=k
theorem qha{p:Prop}(k:p:=by simpa using hx):p:=k
theorem qhb{p:Prop}(k:p:=by obtain ⟨_,_,_,h⟩:=hr; cases h):p:=k
theorem qhc{p:Prop}(k:p:=by rw [e5]; exact h6):p:=k
theorem qhd{p:Prop}(k:p:=by rw [zYH]; omega):p:=k
theorem qiI{p:Prop}(k:p:=by rw [(e.R r hr).2]; exact he):p:=k
theorem qiJ{p:Prop}(k:p:=by rw [zQg]; omega):p:=k
theorem qiK{p:Prop}(k:p:=by unfold V.plain at hp; exact hp):p:=k
theorem qiL{p:Prop}(k:p:=by simpa [<- hlen] using hge):p:=k
theorem qiM{p:Prop}(k:p:=by have:=win_le b i n; omega):p:=k
theorem qiN{p:Prop}(k:p:=by rw [r0]; omega):p:=k
theorem qjl{p:Prop}(k:p:=by simp [execOp,ho,resolve,invoke,builtin,Builtin.len_,run_underlying hu,hvv,goInt]):p:=k
theorem qjm{p:Prop}(k:p:=by rw [hd]; simp [oD,oC,ip,Nat.mul_div_cancel]):p:=k
theorem qjn{p:Prop}(k:p:=by simp only [Op.operands,zYv]; exact ⟨q,hq,rfl⟩):p:=k
theorem qjo{p:Prop}(k:p:=by unfold rG; have:=blocks_range m.au b.length; simp; omega):p:=k
inductive T where
 | int (k:IntKind) (n:Int)
 | bool (b:Bool)
 | str (s:ByteArray)
 | sl (sz:Nat) (rows:List (List T))
 | nilf
 | hdr (a:Option Addr) (n c:Nat)
 deriving Inhabited
inductive A where
 | t (x:T)
 | nil
 | own (r:Nat)
 | agg (l:List A)
 | tup (l:List A)
 | obj (s off:Nat)
 | elem (r sz i off:Nat)
 | sub (r sz lo:Nat)
 | win (r lo m:Nat)
 | fadr (cells:List T)
 | nn (sz:Nat) (rows:List (List T))
 | ext (s:Bool) (x:T)
 | exa (s:Bool) (cells:List T)
 | shp (x:T)
 | clo (f:FuncId) (caps:List A)
 | undef
 | raw (v:Value)
 | osl (s:Nat) (a:Option Addr) (n c:Nat)
 deriving Inhabited
inductive RZ where
 | live (e sz:Nat) (rows:List (List T))
 | frz (sz:Nat) (rows:List (List T))
 | gone
abbrev gs:=List Int
abbrev it:=List (List T)
abbrev IO:=List Nat
abbrev Or:=List T
abbrev Os:=List A
abbrev W2:=List Oper
structure St where
 tm:Nat->A
 ob:Nat->Option Os
 rw:Nat->Option RZ
def gB{α:Type}(f:Nat->α)(k:Nat)(v:α):Nat->α:=λj=>if j=k then v else f j
theorem eM{α:Type}(f:Nat->α)(k:Nat)(v:α):gB f k v k=v:=by simp [gB]
theorem cX{α:Type}(f:Nat->α)(k j:Nat)(v:α)(h:j≠k):gB f k v j=f j:=by simp [gB,h]
def St.put(st:St)(d:Option Nat)(v:A):St:=match d with | some d=>{ st with tm:=gB st.tm d v } | none=>st
inductive MA (α:Type) where
 | ret (v:α)
 | fail
 | getOb (s:Nat) (k:Option Os->MA α)
 | getRw (r:Nat) (k:Option RZ->MA α)
 | setOb (s:Nat) (c:Os) (k:MA α)
 | setRw (r:Nat) (x:RZ) (k:MA α)
def MA.run{α:Type}:MA α->St->Option (α×St)
 | .ret v,st=>ac (v,st)
 | .fail,_=>cl
 | .getOb s k,st=>(k (st.ob s)).run st
 | .getRw r k,st=>(k (st.rw r)).run st
 | .setOb s c k,st=>k.run { st with ob:=gB st.ob s (ac c) }
 | .setRw r x k,st=>k.run { st with rw:=gB st.rw r (ac x) }
def sM:Value->Option A
 | .int k n=>ac (.t (.int k n))
 | .bool b=>ac (.t (.bool b))
 | .string s=>ac (.t (.str s))
 | .slice cl 0 0=>ac .nil
 | .nilFunc=>ac (.t .nilf)
 | _=>cl
def eQ{α:Type}:List (Option α)->Option (List α)
 | []=>ac []
 | x :: r=>match x,eQ r with | some x,ac r=>ac (x :: r) | _,_=>cl
def A.ofValue:Value->Option A
 | .agg cs=>match eQ (cs.toList.map sM) with | some l=>ac (.agg l) | none=>cl
 | .pointer cl=>ac .undef
 | v=>sM v
def A.cells:A->Os
 | .agg l=>l
 | a=>[a]
def A.one:A->Bool
 | .agg _ | .tup _ | .undef | .raw _=>go
 | _=>gi
def St.eval(st:St):Operand->Option A
 | .tmp t=>ac (st.tm t)
 | .const v=>A.ofValue v
 | .func f=>ac (.clo f [])
 | .global _=>cl
section types
variable (P:Program)
def II(t:TypeId):Option (Option Value×Nat×Nat):=(P.info? t).map λi=>(i.zero,i.size,i.bytes)
def jX(t:TypeId):Option Nat:=match II P t with | some (_,n,_)=>ac n | none=>cl
def AM(t:TypeId):Option Os:=match II P t with
 | some (ac z,_,_)=>eQ (z.cells.toList.map sM)
 | _=>cl
def qan(t:TypeId):Option Bool:=match P.underlying t with
 | some (.struct _)=>ac gi
 | some (.array ..) | none=>cl
 | _=>ac go
end types
def A.toT{α:Type}(a:A)(k:T->MA α):MA α:=match a with
 | .t x=>k x
 | .nil=>k (.sl 0 [])
 | .own r=>.getRw r fun
  | some (.live _ sz rows)=>.setRw r (.frz sz rows) (k (.sl sz rows))
  | some (.frz sz rows)=>k (.sl sz rows)
  | _=>.fail
 | _=>.fail
def fg{α:Type}:Os->(Or->MA α)->MA α
 | [],k=>k []
 | a :: r,k=>a.toT λx=>fg r λxs=>k (x :: xs)
def oB:IO->Os->Os
 | n :: ns,.nil :: r=>.t (.sl n []) :: oB ns r
 | _ :: ns,a :: r=>a :: oB ns r
 | _,l=>l
def qit(P:Program):Nat->TypeId->IO
 | 0,_=>[]
 | k+1,t=>match P.underlying t with
  | some (.struct fs)=>fs.toList.flatMap λf=>qit P k f.type
  | some (.slice e)=>match jX P e with | some n=>[n] | none=>[0]
  | _=>match jX P t with | some n=>zQG n 0 | none=>[]
def N3(P:Program)(t:TypeId):IO:=qit P 8 t
def spl{α:Type}(l:List α)(off:Nat)(cs:List α):List α:=l.take off++cs++l.drop (off+cs.length)
def Mq(agg:Bool)(n:Nat)(l:Os)(off:Nat):Option A :=
 if off+n<=l.length then if agg then ac (.agg ((l.drop off).take n)) else if n=1 then l[off]? else cl else cl
def isB(P:Program)(t:TypeId):Bool:=match P.underlying t with | some .bool=>gi | _=>go
def Jh(tb:Bool)(op:BinOp)(x y:T):Option T:=match x,y with
 | .int k a,.int k' b=>match op with
  | .shl=>if 0<=b then ac (.int k (k.wrap (a*2 ^ min b.toNat k.bits))) else cl
  | .shr=>if 0<=b then ac (.int k (a.fdiv (2 ^ min b.toNat k.bits))) else cl
  | _=>if k=k' then match op with
   | .add=>ac (.int k (k.wrap (a+b)))
   | .sub=>ac (.int k (k.wrap (a - b)))
   | .mul=>ac (.int k (k.wrap (a*b)))
   | .quo=>if b=0 then cl else ac (.int k (k.wrap (a.tdiv b)))
   | .rem=>if b=0 then cl else ac (.int k (a.tmod b))
   | .and=>ac (.int k (k.wrap (lg k.bits a &&& lg k.bits b).toNat))
   | .or=>ac (.int k (k.wrap (lg k.bits a ||| lg k.bits b).toNat))
   | .xor=>ac (.int k (k.wrap (lg k.bits a ^^^ lg k.bits b).toNat))
   | .andNot=>ac (.int k (k.wrap (lg k.bits a &&& ~~~ lg k.bits b).toNat))
   | .eql=>ac (.bool (a == b))
   | .neq=>ac (.bool (a != b))
   | .lss=>ac (.bool (decide (a < b)))
   | .leq=>ac (.bool (decide (a<=b)))
   | .gtr=>ac (.bool (decide (a > b)))
   | .geq=>ac (.bool (decide (a>=b)))
   | _=>cl
   else cl
 | .str a,.str b=>match op with
  | .add=>if a.size+b.size<=9223372036854775807 then ac (.str (a++b)) else cl
  | .eql=>ac (.bool (a.toList == b.toList))
  | .neq=>ac (.bool (!(a.toList == b.toList)))
  | _=>cl
 | .bool a,.bool b=>if tb then match op with
  | .eql=>ac (.bool (a == b))
  | .neq=>ac (.bool (!(a == b)))
  | _=>cl
  else cl
 | _,_=>cl
def qch:Os->Option gs
 | []=>ac []
 | .t (.int .i64 n) :: r=>match qch r with | some l=>ac (n :: l) | none=>cl
 | _ :: _=>cl
def qhe(P:Program):Nat->List Field->Bool
 | _,[]=>gi
 | k,f :: r=>f.name != "_" && f.offset == k && (match P.underlying f.type with | some (.int .i64)=>gi | _=>go) && qhe P (k+1) r
def qiO(P:Program)(t:TypeId):Option Nat:=match P.underlying t with
 | some (.struct fs)=>if !P.stoodInHeld t && !P.eqGuardType P.depth t && qhe P 0 fs.toList then ac fs.size else cl
 | _=>cl
def N4(P:Program)(s:TypeId)(f:Nat):Option (Nat×TypeId):=match P.underlying s with
 | some (.struct fs)=>match fs[f]? with
  | some f=>match jX P f.type with | some n=>if n=0 then cl else ac (f.offset,f.type) | none=>cl
  | none=>cl
 | _=>cl
def N5(P:Program):List Field->Option (List (Nat×Nat))
 | []=>ac []
 | f :: r=>match jX P f.type,N5 P r with | some n,ac l=>ac ((f.offset,n) :: l) | _,_=>cl
def UL(P:Program)(t:TypeId):Option (List (Nat×Nat)):=match P.underlying t with
 | some (.struct fs)=>N5 P fs.toList
 | _=>cl
def XW(pl:List (Nat×Nat)):Os->List (Nat×A)->Option Os
 | cs,[]=>ac cs
 | cs,(f,x) :: r=>match pl[f]? with
  | some (off,n)=>if x.cells.length=n/\off+n<=cs.length/\x.cells.all A.one then XW pl (spl cs off x.cells) r else cl
  | none=>cl
def UM{α:Type}(lb:IO)(sz:Nat):it->List (Nat×A)->(it->MA α)->MA α
 | rows,[],k=>k rows
 | rows,(i,x) :: r,k=>if x.cells.length=sz/\i < rows.length then fg (oB lb x.cells) λts=>UM lb sz (rows.set i ts) r k else .fail
def ip(d k:Nat):Nat:=d*65536+k
def qjV(d s k:Nat):Nat:=d*65536+1024+s*64+k
def T.sc:T->Bool
 | .sl ..=>go
 | _=>gi
def UN(rows:it):Bool:=rows.all λr=>r.all T.sc
def A.rows{α:Type}(a:A)(k:Nat->it->MA α):MA α:=match a with
 | .t (.sl sz rows)=>k sz rows
 | .ext go (.sl sz rows)=>if UN rows then k sz rows else .fail
 | .nil=>k 0 []
 | .own r=>.getRw r fun
  | some (.live _ sz rows)=>k sz rows
  | some (.frz sz rows)=>k sz rows
  | _=>.fail
 | _=>.fail
def DI(r e sz:Nat)(rows:it):MA A:=.getRw r fun
 | none=>.setRw r (.live e sz rows) (.ret (.own r))
 | some _=>.fail
def qao(d:Nat)(cells:Os):MA A:=.getOb d fun
 | none=>if cells.all A.one then .setOb d cells (.ret (.obj d 0)) else .fail
 | some _=>.fail
def Jv:it->Option gs
 | []=>ac []
 | [.int .u8 n] :: r=>match Jv r with | some l=>ac (n :: l) | none=>cl
 | _ :: _=>cl
inductive fi where
 | any | obj (s:Nat) | own (d:Nat) | row | frz | el (d:Nat) | win (d:Nat)
 deriving DecidableEq
def A.leafy:A->Bool
 | .t _ | .nil | .ext .. | .undef | .shp _=>gi
 | _=>go
def fi.fits:fi->A->Bool
 | .any,_=>gi
 | .obj s,.obj s' _=>s == s'
 | .own d,.own r=>r / 65536 == d
 | .own _,.nil=>gi
 | .own d,.agg l=>l.all λx=>match x with | .own r=>r / 65536 == d | x=>x.leafy
 | .row,.elem ..=>gi
 | .el d,.elem r _ _ _=>r / 65536 == d
 | .win d,.sub r _ _=>r / 65536 == d
 | .win d,.win r _ _=>r / 65536 == d
 | .frz,.osl .. | .frz,.fadr _ | .frz,.t _ | .frz,.nil | .frz,.exa .. | .frz,.ext .. | .frz,.shp _=>gi
 | .frz,.agg l=>l.all A.leafy
 | _,_=>go
def fX(ρ:Nat->fi)(st:St)(o:Oper):Bool:=o.op.operands.toList.all λ| .tmp t=>(ρ t).fits (st.tm t) | _=>gi
def qhf(s:Bool):T->A
 | .sl sz rows=>.ext s (.sl sz rows)
 | x=>if s then .ext gi x else .t x
def qjp:T->T->Bool
 | .int k _,.int k' _=>k == k'
 | .bool _,.bool _=>gi
 | _,_=>go
def qjq(cells:Or)(x:Os):Bool:=match cells,x with
 | z :: _,[.t y]=>qjp z y
 | _,_=>go
def Qp(P:Program)(t:TypeId)(a:A):MA A :=
 match qan P t,jX P t with
 | some g,ac n=>match a with
  | .obj s off=>.getOb s fun
   | some cells=>match Mq g n cells off with | some v=>.ret v | none=>.fail
   | none=>.fail
  | .elem r sz i off=>.getRw r fun
   | some (.live _ sz' rows) | some (.frz sz' rows)=>if sz=sz' then match rows[i]? with
    | some row=>match Mq g n (row.map A.t) off with | some v=>.ret v | none=>.fail
    | none=>.fail
    else .fail
   | _=>.fail
  | .fadr cells=>match Mq g n (cells.map A.t) 0 with | some v=>.ret v | none=>.fail
  | .exa s cells=>match Mq g n (cells.map (qhf s)) 0 with | some v=>.ret v | none=>.fail
  | _=>.fail
 | _,_=>.fail
def HZ(P:Program)(t:TypeId)(a x:A):MA A :=
 match jX P t with
 | some n=>if x.cells.length=n/\x.cells.all A.one then match a with
  | .obj s off=>.getOb s fun
   | some cells=>if off+n<=cells.length then .setOb s (spl cells off x.cells) (.ret .undef) else .fail
   | none=>.fail
  | .elem r sz i off=>fg (oB (N3 P t) x.cells) λts=>.getRw r fun
   | some (.live e sz' rows)=>if sz=sz' then match rows[i]? with
    | some row=>if off+n<=row.length then .setRw r (.live e sz (rows.set i (spl row off ts))) (.ret .undef) else .fail
    | none=>.fail
    else .fail
   | _=>.fail
  | .exa gi cells=>if qjq cells x.cells then .ret .undef else .fail
  | _=>.fail
  else .fail
 | none=>.fail
def UO(a:A)(off:Nat):MA A:=match a with
 | .obj s o=>.ret (.obj s (o+off))
 | .elem r sz i o=>.ret (.elem r sz i (o+off))
 | .fadr cells=>.ret (.fadr (cells.drop off))
 | .exa s cells=>.ret (.exa s (cells.drop off))
 | _=>.fail
def H0(n:Nat)(i:Int)(sz:Nat)(rows:it):MA A :=
 if sz=n/\0<=i then match rows[i.toNat]? with | some row=>.ret (.fadr row) | none=>.fail else .fail
def N6(s:Bool)(n:Nat)(i:Int)(sz:Nat)(rows:it):MA A :=
 if sz=n/\0<=i then match rows[i.toNat]? with | some row=>.ret (.exa s row) | none=>.fail else .fail
def nK(P:Program)(t:TypeId)(x i:A):MA A :=
 match P.underlying t,i with
 | some (.slice e),.t (.int _ i)=>match jX P e with
  | some n=>match x with
   | .t (.sl sz rows)=>H0 n i sz rows
   | .ext s (.sl sz rows)=>N6 s n i sz rows
   | .osl s _ len _=>if n=1/\0<=i/\i.toNat < len then .ret (.obj s i.toNat) else .fail
   | .own r=>.getRw r fun
    | some (.live _ sz rows)=>if sz=n/\0<=i/\i.toNat < rows.length then .ret (.elem r sz i.toNat 0) else .fail
    | some (.frz sz rows)=>H0 n i sz rows
    | _=>.fail
   | _=>.fail
  | none=>.fail
 | _,_=>.fail
def Qq(ev:Operand->Option A):Option Operand->Option (Option A)
 | none=>ac cl
 | some l=>(ev l).map ac
def C5(d:Nat):Option A->Option Int
 | none=>ac d
 | some (.t (.int _ i))=>ac i
 | _=>cl
def FI(P:Program)(t:TypeId)(x:A)(lo hi:Option A):MA A :=
 match P.underlying t,x with
 | some .string,.t (.str s)=>match C5 0 lo,C5 s.size hi with
  | some l,ac h=>if 0<=l/\l<=h/\h<=s.size then .ret (.t (.str (s.extract l.toNat h.toNat))) else .fail
  | _,_=>.fail
 | some (.slice e),.ext s (.sl sz rows)=>match jX P e,C5 0 lo,C5 rows.length hi with
  | some n,ac l,ac h=>if sz=n/\0<=l/\l<=h/\h<=rows.length then .ret (.ext s (.sl sz ((rows.take h.toNat).drop l.toNat))) else .fail
  | _,_,_=>.fail
 | some (.slice e),x=>match jX P e with
  | some n=>x.toT fun
   | .sl sz rows=>match C5 0 lo,C5 rows.length hi with
    | some l,ac h=>if sz=n\/rows=[] then if 0<=l/\l<=h/\h<=rows.length then .ret (.t (.sl sz ((rows.take h.toNat).drop l.toNat))) else .fail else .fail
    | _,_=>.fail
   | _=>.fail
  | none=>.fail
 | _,_=>.fail
def XX(P:Program)(t:TypeId)(x:A)(lo:Option A):MA A :=
 match P.underlying t,x,C5 0 lo with
 | some (.slice e),.own r,ac l=>match jX P e with
  | some n=>.getRw r fun
   | some (.live _ sz rows)=>if sz=n/\0<=l/\l<=rows.length then .ret (.sub r n l.toNat) else .fail
   | _=>.fail
  | none=>.fail
 | _,_,_=>.fail
def XY(P:Program)(t:TypeId)(x:A)(lo hi:Option A):MA A :=
 match P.underlying t,x,C5 0 lo with
 | some (.slice e),.own r,ac l=>if jX P e=ac 1 then .getRw r fun
  | some (.live _ sz rows)=>match C5 rows.length hi with
   | some h=>if sz=1/\0<=l/\l<=h/\h<=rows.length then .ret (.win r l.toNat (h - l).toNat) else .fail
   | none=>.fail
  | _=>.fail
  else .fail
 | _,_,_=>.fail
def qdI(ρ:Nat->fi):Option Nat->Bool
 | some d=>match ρ d with | .win _=>gi | _=>go
 | none=>go
def qjW(ρ:Nat->fi):Option Nat->Bool
 | some d=>match ρ d with | .own d'=>zWg d d' | _=>go
 | none=>go
def N7(P:Program)(d:Option Nat)(t:TypeId)(x:A)(hi:Option A):MA A :=
 match P.underlying t,x,hi,d with
 | some (.slice e),.own r,ac (.t (.int _ h)),ac d=>match jX P e with
  | some n=>.getRw r fun
   | some (.live e' sz rows)=>if sz=n/\0<=h/\h<=rows.length then .setRw r .gone (DI (ip d 0) e' sz (rows.take h.toNat)) else .fail
   | _=>.fail
  | none=>.fail
 | _,_,_,_=>.fail
def qem(ρ:Nat->fi)(d:Option Nat)(lo hi:Option A):Bool:=qdI ρ d || (qjW ρ d && lo.isNone)
def qap(rows ys:it)(lo:Nat):it:=rows.take lo++ys.take (rows.length - lo)++rows.drop (lo+min ys.length (rows.length - lo))
def N8(P:Program)(t:TypeId)(r lo m:Nat)(y:A):MA A :=
 match P.underlying t with
 | some (.slice e)=>if jX P e=ac 1 then y.rows λk ys=>if (k=1\/ys=[])/\ys.length<=m then .getRw r fun
  | some (.live e' sz rows)=>if sz=1/\lo+m<=rows.length then .setRw r (.live e' 1 (rows.take lo++ys++rows.drop (lo+ys.length))) (.ret (.t (.int .i64 ys.length))) else .fail
  | _=>.fail
  else .fail else .fail
 | _=>.fail
def Mr(P:Program)(ts:List TypeId)(x y:A):MA A :=
 match ts,x with
 | [t,_],.win r lo m=>N8 P t r lo m y
 | [t,t'],.sub r n lo=>match P.underlying t with
  | some (.slice e)=>if jX P e=ac 1/\n=1 then y.rows λm ys=>if m=1\/ys=[] then .getRw r fun
   | some (.live e' sz rows)=>if sz=1/\lo<=rows.length then .setRw r (.live e' 1 (qap rows ys lo)) (.ret (.t (.int .i64 (min ys.length (rows.length - lo):Nat)))) else .fail
   | _=>.fail
   else .fail else .fail
  | _=>.fail
 | _,_=>.fail
def N9(P:Program)(ts:List TypeId)(x:A):MA A :=
 match ts,x with
 | [t],.sub r n lo=>match P.underlying t with
  | some (.slice e)=>match AM P e with
   | some [.t z]=>if jX P e=ac 1/\n=1 then .getRw r fun
    | some (.live e' sz rows)=>if sz=1/\lo<=rows.length then .setRw r (.live e' 1 (rows.take lo++zQG (rows.length - lo) [z])) (.ret (.tup [])) else .fail
    | _=>.fail
    else .fail
   | _=>.fail
  | _=>.fail
 | _,_=>.fail
def UP(P:Program)(d:Option Nat)(t:TypeId)(len cap:A):MA A :=
 match P.underlying t,len,cap,d with
 | some (.slice e),.t (.int .i64 l),.t (.int .i64 c),ac d=>match II P e,AM P e with
  | some (_,n,by_),ac z=>if z.length=n/\0 < n/\0<=c/\(l=0\/l=c)/\c.toNat*by_<=140737488355328/\c<=9223372036854775807 then
    fg (oB (N3 P e) z) λts=>DI (ip d 0) e n (zQG l.toNat ts) else .fail
  | _,_=>.fail
 | _,_,_,_=>.fail
def CB(P:Program)(d:Option Nat)(ts:List TypeId)(x y:A):MA A :=
 match ts,d with
 | [t,t'],ac d=>if t=t' then match P.underlying t with
  | some (.slice e)=>match II P e,AM P e with
   | some (ac _,n,by_),ac z=>if z.length=n/\0 < n/\0 < by_ then y.rows λm ys=>if m=n\/ys=[] then match x with
    | .nil=>if ys.length*by_<=140737488355328 then DI (ip d 0) e n ys else .fail
    | .own r=>.getRw r fun
     | some (.live e' sz rows)=>if e'=e/\sz=n/\(rows.length+ys.length)*by_<=140737488355328 then
       .setRw r .gone (DI (ip d 0) e n (rows++ys)) else .fail
     | _=>.fail
    | _=>.fail
    else .fail
    else .fail
   | _,_=>.fail
  | _=>.fail
  else .fail
 | _,_=>.fail
def R0(P:Program)(t:TypeId)(x:A):MA A :=
 match P.underlying t,x with
 | some .string,.t (.str s)=>.ret (.t (.int .i64 s.size))
 | some (.slice _),.ext _ (.sl _ rows)=>.ret (.t (.int .i64 rows.length))
 | some (.slice _),x=>x.rows λ_ rows=>.ret (.t (.int .i64 rows.length))
 | _,_=>.fail
def tl(P:Program)(ρ:Nat->fi)(ev:Operand->Option A)(o:Oper):MA A :=
 match o.op with
 | .move x | .assign x=>match ev x with | some v=>.ret v | none=>.fail
 | .pick c a b=>match ev c,ev a,ev b with
  | some (.t (.bool c)),ac a,ac b=>.ret (if c then a else b)
  | _,_,_=>.fail
 | .alloc e=>match o.dst,AM P e with | some d,ac z=>qao d z | _,_=>.fail
 | .box _ x=>match o.dst,ev x with
  | some d,ac v=>if ρ d=.frz then fg v.cells λts=>.ret (.fadr ts) else qao d v.cells
  | _,_=>.fail
 | .build t parts=>match AM P t,UL P t,eQ (parts.toList.map λ(i,x)=>(ev x).map λv=>(i,v)) with
  | some z,ac pl,ac ps=>match XW pl z ps with | some cs=>.ret (.agg cs) | none=>.fail
  | _,_,_=>.fail
 | .buildSlice t n parts=>match P.underlying t,o.dst,eQ (parts.toList.map λ(i,x)=>(ev x).map λv=>(i,v)) with
  | some (.slice e),ac d,ac ps=>match jX P e,AM P e with
   | some sz,ac z=>if z.length=sz/\0 < sz/\n*sz<=16777216 then fg (oB (N3 P e) z) λts=>UM (N3 P e) sz (zQG n ts) ps λrows=>DI (ip d 0) e sz rows else .fail
   | _,_=>.fail
  | _,_,_=>.fail
 | .load t a=>match ev a with | some a=>Qp P t a | none=>.fail
 | .store t a x=>match ev a,ev x with | some a,ac x=>HZ P t a x | _,_=>.fail
 | .nilCheck x=>match ev x with
  | some (.obj s o)=>.ret (.obj s o)
  | some (.elem r sz i o)=>.ret (.elem r sz i o)
  | some (.fadr c)=>.ret (.fadr c)
  | some (.exa s c)=>.ret (.exa s c)
  | some (.clo f c)=>.ret (.clo f c)
  | _=>.fail
 | .binOp op t x y _=>match ev x,ev y with
  | some (.t x),ac (.t y)=>match Jh (isB P t) op x y with | some z=>.ret (.t z) | none=>.fail
  | some (.agg x),ac (.agg y)=>match qiO P t,qch x,qch y,op with
   | some n,ac xs,ac ys,.eql=>if xs.length=n/\ys.length=n then .ret (.t (.bool (xs == ys))) else .fail
   | some n,ac xs,ac ys,.neq=>if xs.length=n/\ys.length=n then .ret (.t (.bool (!(xs == ys)))) else .fail
   | _,_,_,_=>.fail
  | some (.nn _ _),ac .nil=>match op,P.underlying t with
   | .eql,ac (.slice _)=>.ret (.t (.bool go))
   | _,_=>.fail
  | some .nil,ac .nil=>match op,P.underlying t with
   | .eql,ac (.slice _)=>.ret (.t (.bool gi))
   | _,_=>.fail
  | _,_=>.fail
 | .unOp op _ x=>match op,ev x with
  | .not,ac (.t (.bool b))=>.ret (.t (.bool (!b)))
  | .neg,ac (.t (.int k n))=>.ret (.t (.int k (k.wrap (0 - n))))
  | _,_=>.fail
 | .convert s t x=>match P.underlying s,P.underlying t,ev x with
  | some _,ac (.int k),ac (.t (.int _ n))=>.ret (.t (.int k (k.wrap n)))
  | some _,ac .string,ac (.t (.str s))=>.ret (.t (.str s))
  | some (.slice e),ac .string,ac x=>match P.underlying e with
   | some (.int .u8)=>x.rows λ_ rows=>match Jv rows with | some l=>.ret (.t (.str (strOfNums l))) | none=>.fail
   | _=>.fail
  | _,_,_=>.fail
 | .makeFunc (.func f) first caps=>match first.toList,eQ (caps.toList.map ev) with
  | [],ac l=>.ret (.clo f l)
  | _,_=>.fail
 | .makeSlice t l c=>match ev l,ev c with | some l,ac c=>UP P o.dst t l c | _,_=>.fail
 | .slice t x lo hi cl=>match ev x,Qq ev lo,Qq ev hi with
  | some x,ac lo,ac hi=>if qem ρ o.dst lo hi then (if qdI ρ o.dst then (if hi.isNone then XX P t x lo else XY P t x lo hi) else N7 P o.dst t x hi) else FI P t x lo hi
  | _,_,_=>.fail
 | .fieldAddr s x f=>match ev x,N4 P s f with | some a,ac (off,_)=>UO a off | _,_=>.fail
 | .field s x f=>match ev x,N4 P s f with
  | some (.agg l),ac (off,t)=>match qan P t,jX P t with
   | some g,ac n=>match Mq g n l off with | some v=>.ret v | none=>.fail
   | _,_=>.fail
  | _,_=>.fail
 | .indexAddr t x i=>match ev x,ev i with | some x,ac i=>nK P t x i | _,_=>.fail
 | .index t x i=>match P.underlying t,ev x,ev i with
  | some .string,ac (.t (.str s)),ac (.t (.int _ i))=>if 0<=i then match s[i.toNat]? with | some b=>.ret (.t (.int .u8 b.toNat)) | none=>.fail else .fail
  | _,_,_=>.fail
 | .extract x i=>match ev x with
  | some (.tup l)=>match l[i]? with | some v=>.ret v | none=>.fail
  | _=>.fail
 | .call { callee:=.builtin .len,args,argTypes }=>match args.toList,argTypes.toList with
  | [x],[t]=>match ev x with | some x=>R0 P t x | none=>.fail
  | _,_=>.fail
 | .call { callee:=.builtin .append,args,argTypes }=>match args.toList with
  | [x,y]=>match ev x,ev y with | some x,ac y=>CB P o.dst argTypes.toList x y | _,_=>.fail
  | _=>.fail
 | .call { callee:=.builtin .copy,args,argTypes }=>match args.toList with
  | [x,y]=>match ev x,ev y with | some x,ac y=>Mr P argTypes.toList x y | _,_=>.fail
  | _=>.fail
 | .call { callee:=.builtin .clear,args,argTypes }=>match args.toList with
  | [x]=>match ev x with | some x=>N9 P argTypes.toList x | _=>.fail
  | _=>.fail
 | .call { callee:=.builtin .min,args,.. }=>match args.toList with
  | [x,y]=>match ev x,ev y with
   | some (.t (.int k a)),ac (.t (.int _ b))=>.ret (.t (.int k (if b < a then b else a)))
   | _,_=>.fail
  | _=>.fail
 | .call { callee:=.builtin .max,args,.. }=>match args.toList with
  | [x,y]=>match ev x,ev y with
   | some (.t (.int k a)),ac (.t (.int _ b))=>.ret (.t (.int k (if b > a then b else a)))
   | _,_=>.fail
  | _=>.fail
 | _=>.fail
end Go.Tm
namespace Go.Tm
open Go.RowKit
inductive Rd (w:World) (F:Nat->Prop):T->Value->Prop
 | int (k:IntKind) (n:Int):Rd w F (.int k n) (.int k n)
 | bool (b:Bool):Rd w F (.bool b) (.bool b)
 | str (s:ByteArray):Rd w F (.str s) (.string s)
 | nilf:Rd w F .nilf .nilFunc
 | hdr (a:Option Addr) (n c:Nat):Rd w F (.hdr a n c) (.slice a n c)
 | sl0 (sz:Nat) (a:Option Addr) (c:Nat) (ha:a=none->c=0):Rd w F (.sl sz []) (.slice a 0 c)
 | sl (sz:Nat) (rows:it) (b off c:Nat) (u:Nat->Nat->Value) (hc:rows.length<=c) (hF:F b)
   (hs:∀ (i:Nat) (row:Or),rows[i]?=ac row->row.length=sz)
   (hx:∀ (i:Nat) (row:Or) (j:Nat) (x:T),rows[i]?=ac row->row[j]?=ac x->w.cell? ⟨b,off+i*sz+j,cl⟩=ac (u i j))
   (hr:∀ (i:Nat) (row:Or) (j:Nat) (x:T),rows[i]?=ac row->row[j]?=ac x->Rd w F x (u i j)) :
   Rd w F (.sl sz rows) (.slice (ac ⟨b,off,cl⟩) rows.length c)
def ER(F:Nat->Prop)(w w':World):Prop:=∀ b,F b->w'.heap[b]?=w.heap[b]?
theorem Ei{F:Nat->Prop}{w w':World}(h:ER F w w'){b o:Nat}(hb:F b):w'.cell? ⟨b,o,cl⟩=w.cell? ⟨b,o,cl⟩ :=
 World.cell?_of_block (w:=w) (h b hb)
theorem Rd.mono{w w':World}{F F':Nat->Prop}{x:T}{v:Value}(h:Rd w F x v)(hs:ER F w w')(hF:∀ b,F b->F' b):Rd w' F' x v:=by
 induction h with
 | int k n=>exact .int k n
 | bool b=>exact .bool b
 | str s=>exact .str s
 | nilf=>exact .nilf
 | hdr a n c=>exact .hdr a n c
 | sl0 sz a c ha=>exact .sl0 sz a c ha
 | sl sz rows b off c u hc hb hsz hx hr ih =>
  exact .sl sz rows b off c u hc (hF b hb) hsz (λi row j x h1 h2=>by rw [Ei hs hb]; exact hx i row j x h1 h2) ih
theorem Rd.one{w:World}{F:Nat->Prop}{x:T}{v:Value}(h:Rd w F x v):v.oneCell'=gi/\v.cells=#[v]:=by
 cases h <;> exact ⟨rfl,rfl⟩
inductive Sd (s:Bool) (w:World) (D:Nat->Prop):T->Value->Prop
 | int (k:IntKind) (n n':Int) (h:s=false->n'=n):Sd s w D (.int k n) (.int k n')
 | bool (b b':Bool) (h:s=false->b'=b):Sd s w D (.bool b) (.bool b')
 | str (x:ByteArray):Sd s w D (.str x) (.string x)
 | nilf:Sd s w D .nilf .nilFunc
 | hdr (a:Option Addr) (n c:Nat):Sd s w D (.hdr a n c) (.slice a n c)
 | sl0 (sz:Nat) (a:Option Addr) (c:Nat) (ha:a=none->c=0):Sd s w D (.sl sz []) (.slice a 0 c)
 | sl (sz:Nat) (rows:it) (b off c:Nat) (u:Nat->Nat->Value) (hc:rows.length<=c) (hF:D b)
   (hs:∀ (i:Nat) (row:Or),rows[i]?=ac row->row.length=sz)
   (hx:∀ (i:Nat) (row:Or) (j:Nat) (x:T),rows[i]?=ac row->row[j]?=ac x->w.cell? ⟨b,off+i*sz+j,cl⟩=ac (u i j))
   (hr:∀ (i:Nat) (row:Or) (j:Nat) (x:T),rows[i]?=ac row->row[j]?=ac x->Sd s w D x (u i j)) :
   Sd s w D (.sl sz rows) (.slice (ac ⟨b,off,cl⟩) rows.length c)
theorem Sd.one{s:Bool}{w:World}{D:Nat->Prop}{x:T}{v:Value}(h:Sd s w D x v):v.oneCell'=gi/\v.cells=#[v]:=by
 cases h <;> exact ⟨rfl,rfl⟩
theorem Rd.sd{s:Bool}{w:World}{D:Nat->Prop}{x:T}{v:Value}(h:Rd w D x v):Sd s w D x v:=by
 induction h with
 | int k n=>exact .int k n n (λ_=>rfl)
 | bool b=>exact .bool b b (λ_=>rfl)
 | str s=>exact .str s
 | nilf=>exact .nilf
 | hdr a n c=>exact .hdr a n c
 | sl0 sz a c ha=>exact .sl0 sz a c ha
 | sl sz rows b off c u hc hb hsz hx hr ih=>exact .sl sz rows b off c u hc hb hsz hx ih
theorem Sd.rd{w w':World}{D D':Nat->Prop}{x:T}{v:Value}(h:Sd go w D x v)(hs:ER D w w')(hD:∀ b,D b->D' b):Rd w' D' x v:=by
 induction h with
 | int k n n' h=>rw [h rfl]; exact .int k n
 | bool b b' h=>rw [h rfl]; exact .bool b
 | str s=>exact .str s
 | nilf=>exact .nilf
 | hdr a n c=>exact .hdr a n c
 | sl0 sz a c ha=>exact .sl0 sz a c ha
 | sl sz rows b off c u hc hb hsz hx hr ih =>
  exact .sl sz rows b off c u hc (hD b hb) hsz (λi row j x h1 h2=>by rw [Ei hs hb]; exact hx i row j x h1 h2) ih
inductive Kq:Value->Value->Prop
 | refl (v:Value):Kq v v
 | int (k:IntKind) (n n':Int):Kq (.int k n) (.int k n')
 | bool (b b':Bool):Kq (.bool b) (.bool b')
theorem Kq.trans{a b c:Value}(h:Kq a b)(k:Kq b c):Kq a c:=by
 cases h with
 | refl=>exact k
 | int k1 n n'=>cases k with
  | refl=>exact .int _ _ _
  | int=>exact .int _ _ _
 | bool b b'=>cases k with
  | refl=>exact .bool _ _
  | bool=>exact .bool _ _
def Wr(w:World)(b:Nat):Prop:=∃ arr e,w.heap[b]?=ac (.cells arr e (0,0))
def KS(w w':World)(b:Nat):Prop:=∃ arr arr' e,w.heap[b]?=ac (.cells arr e (0,0))/\w'.heap[b]?=ac (.cells arr' e (0,0))/\arr'.size=arr.size/\∀ (i:Nat) (v:Value),arr[i]?=ac v->∃ v',arr'[i]?=ac v'/\Kq v v'
theorem KS.refl{w:World}{b:Nat}(h:Wr w b):KS w w b:=by
 obtain ⟨arr,e,h⟩:=h;exact ⟨arr,arr,e,h,h,rfl,λi v h=>⟨v,h,.refl v⟩⟩
theorem KS.trans{a b c:World}{k:Nat}(h:KS a b k)(h':KS b c k):KS a c k:=by
 obtain ⟨x,y,e,h1,h2,h3,h4⟩:=h;obtain ⟨y',z,e',k1,k2,k3,k4⟩:=h';rw [h2] at k1
 cases k1
 refine ⟨x,z,e,h1,k2,k3.trans h3,λi v hv=>?_⟩;obtain ⟨v',p1,p2⟩:=h4 i v hv;obtain ⟨v'',q1,q2⟩:=k4 i v' p1;exact ⟨v'',q1,p2.trans q2⟩
theorem KS.wr{w w':World}{b:Nat}(h:KS w w' b):Wr w' b:=by
 obtain ⟨x,y,e,h1,h2,_⟩:=h;exact ⟨y,e,h2⟩
theorem KS.same{w w' w'':World}{b:Nat}(h:KS w w' b)(hs:w''.heap[b]?=w'.heap[b]?):KS w w'' b:=by
 obtain ⟨x,y,e,h1,h2,h3⟩:=h;exact ⟨x,y,e,h1,hs.trans h2,h3⟩
theorem KS.cell{w w':World}{b o:Nat}{v:Value}(h:KS w w' b)(hv:w.cell? ⟨b,o,cl⟩=ac v):∃ v',w'.cell? ⟨b,o,cl⟩=ac v'/\Kq v v':=by
 obtain ⟨x,y,e,h1,h2,h3,h4⟩:=h;simp only [World.cell?,h1,h2,Option.isSome_none,zWQ,if_false] at hv ⊢;exact h4 o v hv
theorem Sd.kq{w:World}{D:Nat->Prop}{x:T}{v v':Value}(h:Sd gi w D x v)(hk:Kq v v'):Sd gi w D x v':=by
 cases hk with
 | refl=>exact h
 | int k n n'=>cases h with | int k n0 _ _=>exact .int k n0 n' (λh=>by cases h)
 | bool b b'=>cases h with | bool b0 _ _=>exact .bool b0 b' (λh=>by cases h)
theorem Sd.ks{w w':World}{D:Nat->Prop}{x:T}{v:Value}(h:Sd gi w D x v)(hk:∀ b,D b->KS w w' b):Sd gi w' D x v:=by
 induction h with
 | int k n n' h=>exact .int k n n' h
 | bool b b' h=>exact .bool b b' h
 | str s=>exact .str s
 | nilf=>exact .nilf
 | hdr a n c=>exact .hdr a n c
 | sl0 sz a c ha=>exact .sl0 sz a c ha
 | sl sz rows b off c u hc hb hsz hx hr ih =>
  refine .sl sz rows b off c (λi j=>(w'.cell? ⟨b,off+i*sz+j,cl⟩).getD undef) hc hb hsz (λi row j x h1 h2=>?_) (λi row j x h1 h2=>?_)
  ·obtain ⟨v',h3,_⟩:=(hk b hb).cell (hx i row j x h1 h2);rw [h3]; rfl
  ·obtain ⟨v',h3,h4⟩:=(hk b hb).cell (hx i row j x h1 h2);rw [h3];exact (ih i row j x h1 h2).kq h4
structure Gh where
 F:Nat->Prop
 ob:Nat->Nat
 rw:Nat->Value
 D:Nat->Prop:=λ_=>False
 dw:World:=default
 sh:Bool:=go
 S:Nat->Prop:=λ_=>False
 sw:World:=default
inductive VR (w:World) (g:Gh) (O R:Nat->Prop):A->Value->Prop
 | t (x:T) (v:Value) (h:Rd w g.F x v):VR w g O R (.t x) v
 | nil:VR w g O R .nil (.slice cl 0 0)
 | own (r:Nat) (hr:R r):VR w g O R (.own r) (g.rw r)
 | agg (l:Os) (vs:List Value) (hl:l.length=vs.length) (h:∀ (i:Nat) (x:A) (v:Value),l[i]?=ac x->vs[i]?=ac v->VR w g O R x v):VR w g O R (.agg l) (.agg vs.toArray)
 | tup (l:Os) (vs:List Value) (hl:l.length=vs.length) (h:∀ (i:Nat) (x:A) (v:Value),l[i]?=ac x->vs[i]?=ac v->VR w g O R x v):VR w g O R (.tup l) (.tuple vs.toArray)
 | obj (s off:Nat) (hs:O s):VR w g O R (.obj s off) (.pointer (ac ⟨g.ob s,off,cl⟩))
 | elem (r sz i off b n c:Nat) (hr:R r) (he:g.rw r=.slice (ac ⟨b,0,cl⟩) n c):VR w g O R (.elem r sz i off) (.pointer (ac ⟨b,i*sz+off,cl⟩))
 | win (r lo m n c c':Nat) (ad a':Option Addr) (hr:R r) (he:g.rw r=.slice ad n c) (hm:lo+m<=n) (hp:0 < m->∃ b,ad=ac ⟨b,0,cl⟩/\a'=ac ⟨b,lo,cl⟩):VR w g O R (.win r lo m) (.slice a' m c')
 | sub (r sz lo n c c':Nat) (ad a':Option Addr) (hr:R r) (he:g.rw r=.slice ad n c) (hp:lo < n->∃ b,ad=ac ⟨b,0,cl⟩/\a'=ac ⟨b,lo*sz,cl⟩):VR w g O R (.sub r sz lo) (.slice a' (n - lo) c')
 | fadr (cells:Or) (b off:Nat) (u:Nat->Value) (hF:g.F b) (hx:∀ (j:Nat) (x:T),cells[j]?=ac x->w.cell? ⟨b,off+j,cl⟩=ac (u j))
   (hr:∀ (j:Nat) (x:T),cells[j]?=ac x->Rd w g.F x (u j)):VR w g O R (.fadr cells) (.pointer (ac ⟨b,off,cl⟩))
 | nn (sz:Nat) (rows:it) (v:Value) (h:Rd w g.F (.sl sz rows) v) (hv:∃ a n c,v=.slice (ac a) n c):VR w g O R (.nn sz rows) v
 | clo (f:FuncId) (caps:Os) (vs:List Value) (hl:caps.length=vs.length) (h:∀ (i:Nat) (x:A) (v:Value),caps[i]?=ac x->vs[i]?=ac v->VR w g O R x v) :
   VR w g O R (.clo f caps) (.func (.func f) #[] vs.toArray)
 | undef (v:Value):VR w g O R .undef v
 | raw (v:Value):VR w g O R (.raw v) v
 | osl (s:Nat) (a:Option Addr) (n c:Nat) (hs:O s) (ha:a=ac ⟨g.ob s,0,cl⟩):VR w g O R (.osl s a n c) (.slice a n c)
 | shp (x:T) (v:Value) (h:Sd gi g.sw g.S x v):VR w g O R (.shp x) v
 | ext (s:Bool) (x:T) (v:Value) (hs:g.sh=s) (h:Sd s g.dw g.D x v):VR w g O R (.ext s x) v
 | exa (s:Bool) (cells:Or) (b off:Nat) (u:Nat->Value) (hs:g.sh=s) (hD:g.D b) (hx:∀ (j:Nat) (x:T),cells[j]?=ac x->g.dw.cell? ⟨b,off+j,cl⟩=ac (u j))
   (hr:∀ (j:Nat) (x:T),cells[j]?=ac x->Sd s g.dw g.D x (u j)):VR w g O R (.exa s cells) (.pointer (ac ⟨b,off,cl⟩))
structure vO (w w':World) (g g':Gh) (O R O' R':Nat->Prop):Prop where
 same:ER g.F w w'
 F:∀ b,g.F b->g'.F b
 O:∀ s,O s->O' s/\g'.ob s=g.ob s
 R:∀ r,R r->R' r/\g'.rw r=g.rw r
 d:g'.D=g.D/\g'.dw=g.dw/\g'.sh=g.sh
 s:g'.S=g.S/\g'.sw=g.sw
theorem vO.refl(w:World)(g:Gh)(O R:Nat->Prop):vO w w g g O R O R:=⟨λ_ _=>rfl,λ_ h=>h,λ_ h=>⟨h,rfl⟩,λ_ h=>⟨h,rfl⟩,⟨rfl,rfl,rfl⟩,rfl,rfl⟩
theorem VR.mono{w w':World}{g g':Gh}{O R O' R':Nat->Prop}{a:A}{v:Value}(h:VR w g O R a v)(e:vO w w' g g' O R O' R'):VR w' g' O' R' a v:=by
 induction h with
 | t x v h=>exact .t x v (h.mono e.same e.F)
 | nil=>exact .nil
 | own r hr=>rw [<- (e.R r hr).2]; exact .own r (e.R r hr).1
 | agg l vs hl h ih=>exact .agg l vs hl ih
 | tup l vs hl h ih=>exact .tup l vs hl ih
 | obj s off hs=>rw [<- (e.O s hs).2]; exact .obj s off (e.O s hs).1
 | elem r sz i off b n c hr he=>exact .elem r sz i off b n c (e.R r hr).1 qiI
 | win r lo m n c c' ad a' hr he hm hp=>exact .win r lo m n c c' ad a' (e.R r hr).1 qiI hm hp
 | sub r sz lo n c c' ad a' hr he hp=>exact .sub r sz lo n c c' ad a' (e.R r hr).1 qiI hp
 | fadr cells b off u hF hx hr=>exact .fadr cells b off u (e.F b hF) (λj x h=>by rw [Ei e.same hF]; exact hx j x h) (λj x h=>(hr j x h).mono e.same e.F)
 | nn sz rows v h hv=>exact .nn sz rows v (h.mono e.same e.F) hv
 | clo f caps vs hl h ih=>exact .clo f caps vs hl ih
 | undef v=>exact .undef v
 | raw v=>exact .raw v
 | osl s a n c hs ha=>exact .osl s a n c (e.O s hs).1 (by rw [(e.O s hs).2]; exact ha)
 | shp x v h=>obtain ⟨h1,h2⟩:=e.s; exact .shp x v (by rw [h1,h2]; exact h)
 | ext s x v hs h=>obtain ⟨h1,h2,h3⟩:=e.d; exact .ext s x v (h3.trans hs) (by rw [h1,h2]; exact h)
 | exa s cells b off u hs hD hx hr=>obtain ⟨h1,h2,h3⟩:=e.d; exact .exa s cells b off u (h3.trans hs) (by rw [h1]; exact hD) (by rw [h2]; exact hx) (by rw [h1,h2]; exact hr)
theorem VR.one{w:World}{g:Gh}{O R:Nat->Prop}{a:A}{v:Value}(h:VR w g O R a v)(ha:a.one=gi)
  (hrw:∀ r,R r->∃ A n c,g.rw r=.slice A n c):v.oneCell'=gi/\v.cells=#[v]:=by
 cases h with
 | t x v h=>exact h.one
 | own r hr=>obtain ⟨A,n,c,e⟩:=hrw r hr; rw [e]; exact ⟨rfl,rfl⟩
 | agg | tup | undef | raw=>cases ha
 | nn sz rows v h hv=>exact h.one
 | ext s x v hs h=>exact h.one
 | shp x v h=>exact h.one
 | _=>exact ⟨rfl,rfl⟩
def p5(w0 w:World)(X:Nat->Prop)(F:Nat->Prop)(h:Value):RZ->Prop
 | .live e sz rows=>∃ inner:List Value,w.ownsRow 0 e sz h rows.length inner/\(∀ (i:Nat) (row:Or),rows[i]?=ac row->row.length=sz) /\
   (∀ (i:Nat) (row:Or) (j:Nat) (x:T),rows[i]?=ac row->row[j]?=ac x->∃ u,inner[i*sz+j]?=ac u/\Rd w F x u) /\
   (∀ b,h.ownBlock=ac b->¬ F b/\(w0.heap.size<=b\/X b))
 | .frz sz rows=>Rd w F (.sl sz rows) h
 | .gone=>∃ A n c,h=.slice A n c
def St.O(st:St)(s:Nat):Prop:=(st.ob s).isSome=gi
def St.R(st:St)(r:Nat):Prop:=(st.rw r).isSome=gi
def St.L(st:St)(r:Nat):Prop:=∃ e sz rows,st.rw r=ac (.live e sz rows)
structure En where
 w0:World
 X:Nat->Prop
 F0:Nat->Prop
 lent:List (Nat×Nat)
 D:Nat->Prop:=λ_=>False
 sh:Bool:=go
 pin:Option Value:=cl
def PR:Nat:=58982400
def Fr(g:Gh)(w0 w:World)(b:Nat):Prop:=w.heap[b]?=w0.heap[b]?\/(g.sh=gi/\g.D b/\KS w0 w b)
theorem Fr.keep{g:Gh}{w0 w w':World}{b:Nat}(h:Fr g w0 w b)(hs:w'.heap[b]?=w.heap[b]?):Fr g w0 w' b:=by
 rcases h with h | ⟨h1,h2,h3⟩
 ·exact .inl (hs.trans h)
 ·exact .inr ⟨h1,h2,h3.same hs⟩
theorem Fr.gh{g g':Gh}{w0 w:World}{b:Nat}(h:Fr g w0 w b)(hd:g'.D=g.D/\g'.dw=g.dw/\g'.sh=g.sh):Fr g' w0 w b:=by
 unfold Fr at *;rw [hd.1,hd.2.2];exact h
def W9(P:Program)(w:World)(X:Nat->Prop):Prop:=∀ k,P.globalNamed "internal/strconv.uint64pow10" = ac k->Lib.TabIs P w "internal/strconv.uint64pow10" .u64 Lib.pow10Tab/\¬ X k
class Tb (P:Program) (E:En):Prop where
 tb:W9 P E.w0 λb=>E.X b\/(E.sh=gi/\E.D b)
theorem W9.mono{P:Program}{w:World}{X X':Nat->Prop}(h:W9 P w X)(hX:∀ b,X' b->X b):W9 P w X':=λk hk=>⟨(h k hk).1,λhx=>(h k hk).2 (hX k hx)⟩
theorem W9.none{P:Program}{w:World}{X:Nat->Prop}(h:(P.globalNamed "internal/strconv.uint64pow10").isNone=gi):W9 P w X:=λk hk=>by rw [hk] at h; cases h
theorem W9.step{P:Program}{w w':World}{X X':Nat->Prop}(h:W9 P w X)(hw:∀ b,b < w.heap.size->¬ X b->w'.heap[b]?=w.heap[b]?)(hX:∀ b,b < w.heap.size->¬ X b->¬ X' b):W9 P w' X':=λk hk=>by
 obtain ⟨h1,h2⟩:=h k hk;unfold Lib.TabIs World.var? at h1 ⊢;rw [hk] at h1 ⊢;simp only [wk] at h1 ⊢;have hlt:k < w.heap.size:=by
  rcases Nat.lt_or_ge k w.heap.size with h3 | h3
  ·exact h3
  ·rw [Array.getElem?_eq_none h3] at h1; simp at h1
 rw [hw k hlt h2];exact ⟨h1,hX k hlt h2⟩
structure io (E:En) (g:Gh) (st:St) (w:World):Prop where
 ob:∀ s cells,st.ob s=ac cells->∃ arr e,w.heap[g.ob s]?=ac (.cells arr e (0,0))/\cells.length<=arr.size /\
  (∀ (j:Nat) (x:A),cells[j]?=ac x->x.one=gi/\∃ v,arr[j]?=ac v/\VR w g st.O st.R x v)/\¬ g.F (g.ob s)/\(E.w0.heap.size<=g.ob s\/E.X (g.ob s))
 obne:∀ s s',st.O s->st.O s'->g.ob s=g.ob s'->s=s'
 row:∀ r x,st.rw r=ac x->p5 E.w0 w E.X g.F (g.rw r) x
 rowne:∀ r r' b,st.L r->st.L r'->(g.rw r).ownBlock=ac b->(g.rw r').ownBlock=ac b->r=r'
 rowob:∀ r s,st.L r->st.O s->(g.rw r).ownBlock≠ac (g.ob s)
 F:∀ b,g.F b->b < w.heap.size/\(b < E.w0.heap.size->E.F0 b\/E.X b)/\(E.F0 b\/Wr w b)
 os:w.os=E.w0.os
 tape:w.tape=E.w0.tape
 output:w.output=E.w0.output
 sizes:E.w0.heap.size<=w.heap.size
 frame:∀ b,b < E.w0.heap.size->¬ E.X b->Fr g E.w0 w b
 shp:∀ b,g.S b->g.F b/\KS g.sw w b
 dep0:(g.D=E.D/\g.dw=E.w0/\g.sh=E.sh)/\∀ b,E.D b->b < E.w0.heap.size/\¬ E.X b/\(E.sh=true->¬ E.F0 b/\Wr E.w0 b)
theorem io.tbW{P:Program}{E:En}[hT:Tb P E]{g:Gh}{st:St}{w:World}(h:io E g st w){X:Nat->Prop}(hX:∀ b,b < E.w0.heap.size->¬ E.X b->¬ (E.sh=gi/\E.D b)->¬ X b):W9 P w X :=
 hT.tb.step (λb h1 h2=>by
  rcases h.frame b h1 (λh=>h2 (.inl h)) with h3 | ⟨h3,h4,_⟩
  ·exact h3
  ·obtain ⟨h5,_,h6⟩:=h.dep0.1;exact (h2 (.inr ⟨h6 ▸ h3,h5 ▸ h4⟩)).elim) λb h1 h2=>hX b h1 (λh=>h2 (.inl h)) (λh=>h2 (.inr h))
theorem io.dep{E:En}{g:Gh}{st:St}{w:World}(h:io E g st w):∀ b,g.D b->g.dw=E.w0/\b < E.w0.heap.size/\¬ E.X b/\(g.sh=true->¬ E.F0 b/\Wr E.w0 b):=λb hb=>by
 obtain ⟨⟨h1,h2,h3⟩,h4⟩:=h.dep0;rw [h1] at hb;rw [h3];exact ⟨h2,h4 b hb⟩
structure lj (E:En) (g:Gh) (n:Nat) (st:St) (a:Act) (w:World):Prop where
 mem:io E g st w
 size:a.tmps.size=n
 defers:a.defers=[]
 tm:∀ i,i < n->∃ v,a.tmps[i]?=ac v/\VR w g st.O st.R (st.tm i) v
 und:∀ i,n<=i->st.tm i=.undef
 lent:∀ s b,(s,b)∈E.lent->st.O s/\g.ob s=b
 pin:∀ v,E.pin=ac v->st.R PR/\g.rw PR=v
theorem p5.slice{w0 w:World}{X F:Nat->Prop}{h:Value}{r:RZ}(hr:p5 w0 w X F h r):∃ A n c,h=.slice A n c:=by
 cases r with
 | live e sz rows =>
  obtain ⟨inner,ho,_⟩:=hr;rcases ho.2 with ⟨hv,_⟩ | ⟨g,cap,cur,hv,_⟩
  ·exact ⟨_,_,_,hv⟩
  ·exact ⟨_,_,_,hv⟩
 | frz sz rows =>
  have hr:Rd w F (.sl sz rows) h:=hr
  cases hr with
  | sl0=>exact ⟨_,_,_,rfl⟩
  | sl=>exact ⟨_,_,_,rfl⟩
 | gone=>exact hr
theorem io.hdr{E:En}{g:Gh}{st:St}{w:World}(h:io E g st w):∀ r,st.R r->∃ A n c,g.rw r=.slice A n c:=by
 intro r hr;obtain ⟨x,hx⟩:=sr.1 hr;exact (h.row r x hx).slice
theorem io.one{E:En}{g:Gh}{st:St}{w:World}(h:io E g st w){a:A}{v:Value}(hv:VR w g st.O st.R a v)(ha:a.one=gi):v.oneCell'=gi/\v.cells=#[v] :=
 hv.one ha h.hdr
theorem p5.mono{w0 w w':World}{X F F':Nat->Prop}{h:Value}{r:RZ}(hr:p5 w0 w X F h r)(hs:ER F w w')(hF:∀ b,F b->F' b)
  (hb:(∃ e sz rows,r=.live e sz rows)->∀ b,h.ownBlock=ac b->w'.heap[b]?=w.heap[b]?/\(F' b->F b)):p5 w0 w' X F' h r:=by
 cases r with
 | live e sz rows =>
  obtain ⟨inner,ho,h1,h2,h3⟩:=hr
  replace hb:=hb ⟨e,sz,rows,rfl⟩
  refine ⟨inner,⟨ho.1,?_⟩,h1,λi row j x hi hj=>?_,λb hb'=>⟨λhf=>(h3 b hb').1 ((hb b hb').2 hf),(h3 b hb').2⟩⟩
  ·rcases ho.2 with hn | ⟨g,cap,cur,hv,hg,hh,r⟩
   ·exact .inl hn
   ·exact .inr ⟨g,cap,cur,hv,hg,by rw [(hb g (by rw [hv]; rfl)).1]; exact hh,r⟩
  ·obtain ⟨u,hu,hr⟩:=h2 i row j x hi hj;exact ⟨u,hu,hr.mono hs hF⟩
 | frz sz rows=>exact Rd.mono hr hs hF
 | gone=>exact hr
theorem Um{w:World}{b:Nat}{o:Obj}(h:w.heap[b]?=ac o):b < w.heap.size:=(Dp.1 h).1
theorem io.ob_lt{E:En}{g:Gh}{st:St}{w:World}(h:io E g st w){s:Nat}(hs:st.O s):g.ob s < w.heap.size:=by
 obtain ⟨c,hc⟩:=sr.1 hs;obtain ⟨arr,e,hh,_⟩:=h.ob s c hc;exact Um hh
theorem io.ob_nf{E:En}{g:Gh}{st:St}{w:World}(h:io E g st w){s:Nat}(hs:st.O s):¬ g.F (g.ob s)/\(E.w0.heap.size<=g.ob s\/E.X (g.ob s)):=by
 obtain ⟨c,hc⟩:=sr.1 hs;obtain ⟨arr,e,hh,_,_,h1,h2⟩:=h.ob s c hc;exact ⟨h1,h2⟩
theorem qiP{w:World}{base:Nat}{e:TypeId}{size n:Nat}{v:Value}{xs:List Value}(h:w.ownsRow base e size v n xs){b:Nat}(hb:v.ownBlock=ac b):b < w.heap.size:=(h.lt b hb).2
theorem io.row_lt{E:En}{g:Gh}{st:St}{w:World}(h:io E g st w){r:Nat}(hr:st.L r){b:Nat}(hb:(g.rw r).ownBlock=ac b):b < w.heap.size:=by
 obtain ⟨e,sz,rows,hr⟩:=hr;obtain ⟨inner,ho,_⟩:=h.row r _ hr;exact qiP ho hb
theorem io.row_nf{E:En}{g:Gh}{st:St}{w:World}(h:io E g st w){r:Nat}(hr:st.L r){b:Nat}(hb:(g.rw r).ownBlock=ac b):¬ g.F b/\(E.w0.heap.size<=b\/E.X b):=by
 obtain ⟨e,sz,rows,hr⟩:=hr;obtain ⟨inner,_,_,_,h1⟩:=h.row r _ hr;exact h1 b hb
theorem Y1{w:World}{base:Nat}{e:TypeId}{size n:Nat}{v:Value}{xs:List Value}(h:w.ownsRow base e size v n xs){b:Nat}(hb:v.ownBlock=ac b):Wr w b:=by
 rcases h.2 with ⟨rfl,_⟩ | ⟨g,cap,cur,rfl,_,hh,_⟩
 ·cases hb
 ·cases hb
  exact ⟨cur,e,hh⟩
theorem io.row_wr{E:En}{g:Gh}{st:St}{w:World}(h:io E g st w){r:Nat}(hr:st.L r){b:Nat}(hb:(g.rw r).ownBlock=ac b):Wr w b:=by
 obtain ⟨e,sz,rows,hr⟩:=hr;obtain ⟨inner,ho,_⟩:=h.row r _ hr;exact Y1 ho hb
structure vu (w w':World):Prop where
 os:w'.os=w.os
 tape:w'.tape=w.tape
 output:w'.output=w.output
 size:w.heap.size<=w'.heap.size
theorem vu.refl(w:World):vu w w:=⟨rfl,rfl,rfl,zWK _⟩
theorem vO.trans{w1 w2 w3:World}{g1 g2 g3:Gh}{O1 R1 O2 R2 O3 R3:Nat->Prop}(h:vO w1 w2 g1 g2 O1 R1 O2 R2)(k:vO w2 w3 g2 g3 O2 R2 O3 R3):vO w1 w3 g1 g3 O1 R1 O3 R3 :=
 ⟨λb hb=>(k.same b (h.F b hb)).trans (h.same b hb),λb hb=>k.F b (h.F b hb),λs hs=>⟨(k.O s (h.O s hs).1).1,(k.O s (h.O s hs).1).2.trans (h.O s hs).2⟩,
  λr hr=>⟨(k.R r (h.R r hr).1).1,(k.R r (h.R r hr).1).2.trans (h.R r hr).2⟩,⟨k.d.1.trans h.d.1,k.d.2.1.trans h.d.2.1,k.d.2.2.trans h.d.2.2⟩,k.s.1.trans h.s.1,k.s.2.trans h.s.2⟩
section
variable {E:En} {g:Gh} {st:St} {w w':World}
theorem io.step{g':Gh}{st':St}(h:io E g st w)(hc:vu w w')(p:Nat->Prop)(hb:∀ b,b < w.heap.size->¬ p b->w'.heap[b]?=w.heap[b]?)
  (hpF:∀ b,p b->¬ g.F b) (hpX:∀ b,b < E.w0.heap.size->p b->E.X b)
  (hF:∀ b,g.F b->g'.F b) (hF':∀ b,g'.F b->¬ g.F b->b < w'.heap.size/\(b < E.w0.heap.size->E.F0 b\/E.X b)/\(E.F0 b\/Wr w' b))
  (hO:∀ s,st.O s->st'.O s/\g'.ob s=g.ob s) (hR:∀ r,st.R r->st'.R r/\g'.rw r=g.rw r)
  (hob:∀ s cells,st'.ob s=ac cells->(st.ob s=ac cells/\¬ p (g.ob s)/\¬ g'.F (g.ob s))\/(∃ arr e,w'.heap[g'.ob s]?=ac (.cells arr e (0,0))/\cells.length<=arr.size /\
   (∀ (j:Nat) (x:A),cells[j]?=ac x->x.one=gi/\∃ v,arr[j]?=ac v/\VR w g st.O st.R x v)/\¬ g'.F (g'.ob s)/\(E.w0.heap.size<=g'.ob s\/E.X (g'.ob s))))
  (hobne:∀ s s',st'.O s->st'.O s'->g'.ob s=g'.ob s'->s=s')
  (hrow:∀ r x,st'.rw r=ac x->(st.rw r=ac x/\(st.L r->∀ b,(g.rw r).ownBlock=ac b->¬ p b/\¬ g'.F b))\/p5 E.w0 w' E.X g'.F (g'.rw r) x)
  (hrowne:∀ r r' b,st'.L r->st'.L r'->(g'.rw r).ownBlock=ac b->(g'.rw r').ownBlock=ac b->r=r')
  (hrowob:∀ r s,st'.L r->st'.O s->(g'.rw r).ownBlock≠ac (g'.ob s)) (hd:g'.D=g.D/\g'.dw=g.dw/\g'.sh=g.sh:=by exact ⟨rfl,rfl,rfl⟩) (hsS:g'.S=g.S/\g'.sw=g.sw:=by exact ⟨rfl,rfl⟩):io E g' st' w'/\vO w w' g g' st.O st.R st'.O st'.R:=by
 have hS:ER g.F w w':=λb hf=>hb b (h.F b hf).1 (λhp=>hpF b hp hf);have hE:vO w w' g g' st.O st.R st'.O st'.R:=⟨hS,hF,hO,hR,hd,hsS⟩;refine ⟨⟨λs cells hs=>?_,hobne,λr x hr=>?_,hrowne,hrowob,λb hf=>?_,hc.os.trans h.os,hc.tape.trans h.tape,hc.output.trans h.output,zXQ h.sizes hc.size,
  λb h1 h2=>((h.frame b h1 h2).keep (hb b (zWW h1 h.sizes) (λhp=>h2 (hpX b h1 hp)))).gh hd,λb hb=>by (rw [hsS.1] at hb; rw [hsS.2]; exact ⟨hF b (h.shp b hb).1,(h.shp b hb).2.same (hS b (h.shp b hb).1)⟩),⟨⟨hd.1.trans h.dep0.1.1,hd.2.1.trans h.dep0.1.2.1,hd.2.2.trans h.dep0.1.2.2⟩,h.dep0.2⟩⟩,hE⟩
 ·rcases hob s cells hs with ⟨h1,h2,h3⟩ | ⟨arr,e,hh,hl,hv,hn,hx⟩
  ·obtain ⟨arr,e,hh,hl,hv,hn,hx⟩:=h.ob s cells h1;have ho:g'.ob s=g.ob s:=(hO s (by simp [St.O,h1])).2;rw [ho];exact ⟨arr,e,by rw [hb _ (Um hh) h2]; exact hh,hl,λj x hj=>⟨(hv j x hj).1,(hv j x hj).2.imp λv hv=>⟨hv.1,hv.2.mono hE⟩⟩,h3,hx⟩
  ·exact ⟨arr,e,hh,hl,λj x hj=>⟨(hv j x hj).1,(hv j x hj).2.imp λv hv=>⟨hv.1,hv.2.mono hE⟩⟩,hn,hx⟩
 ·rcases hrow r x hr with ⟨h1,h2⟩ | h1
  ·rw [(hR r (by simp [St.R,h1])).2];refine (h.row r x h1).mono hS hF λ⟨e,sz,rows,hx⟩ b hb'=>?_;subst hx;have hL:st.L r:=⟨e,sz,rows,h1⟩;exact ⟨hb b (h.row_lt hL hb') (h2 hL b hb').1,λhf=>absurd hf (h2 hL b hb').2⟩
  ·exact h1
 ·by_cases hf':g.F b
  ·exact ⟨zWW (h.F b hf').1 hc.size,(h.F b hf').2.1,(h.F b hf').2.2.imp id λ⟨arr,e,hh⟩=>⟨arr,e,by rw [hb b (h.F b hf').1 (λhp=>hpF b hp hf')]; exact hh⟩⟩
  ·exact hF' b hf hf'
theorem io.frm(h:io E g st w)(hs:E.sh=go):∀ b,b < E.w0.heap.size->¬ E.X b->w.heap[b]?=E.w0.heap[b]?:=λb h1 h2=>by
 rcases h.frame b h1 h2 with h3 | ⟨h3,_⟩
 ·exact h3
 ·rw [h.dep0.1.2.2,hs] at h3; cases h3
theorem io.dF(h:io E g st w)(hs:g.sh=gi){b:Nat}(hb:g.D b):¬ g.F b:=λhf=>by
 obtain ⟨_,h2,h3,h4⟩:=h.dep b hb;rcases (h.F b hf).2.1 h2 with h5 | h5
 ·exact (h4 hs).1 h5
 ·exact h3 h5
theorem io.dN(h:io E g st w){b:Nat}(hb:g.D b):¬ (E.w0.heap.size<=b\/E.X b):=λhf=>by
 obtain ⟨_,h2,h3,h4⟩:=h.dep b hb;rcases hf with h5 | h5
 ·omega
 ·exact h3 h5
theorem io.stepD(h:io E g st w)(hs:g.sh=gi)(hc:vu w w')(hb:∀ b,b < w.heap.size->¬ g.D b->w'.heap[b]?=w.heap[b]?)(hk:∀ b,g.D b->KS w w' b) :
  io E g st w'/\vO w w' g g st.O st.R st.O st.R:=by
 have hS:ER g.F w w':=λb hf=>hb b (h.F b hf).1 (λhd=>h.dF hs hd hf);have hE:vO w w' g g st.O st.R st.O st.R:=⟨hS,λ_ h=>h,λ_ h=>⟨h,rfl⟩,λ_ h=>⟨h,rfl⟩,⟨rfl,rfl,rfl⟩,rfl,rfl⟩;refine ⟨⟨λs cells hs'=>?_,h.obne,λr x hr=>?_,h.rowne,h.rowob,λb hf=>?_,hc.os.trans h.os,hc.tape.trans h.tape,hc.output.trans h.output,zXQ h.sizes hc.size,λb h1 h2=>?_,λb hb=>⟨(h.shp b hb).1,(h.shp b hb).2.same (hS b (h.shp b hb).1)⟩,h.dep0⟩,hE⟩
 ·obtain ⟨arr,e,hh,hl,hv,hn,hx⟩:=h.ob s cells hs';exact ⟨arr,e,by rw [hb _ (Um hh) (λhd=>h.dN hd hx)]; exact hh,hl,λj x hj=>⟨(hv j x hj).1,(hv j x hj).2.imp λv hv=>⟨hv.1,hv.2.mono hE⟩⟩,hn,hx⟩
 ·refine (h.row r x hr).mono hS (λ_ h=>h) λ⟨e,sz,rows,hx⟩ b hb'=>?_;subst hx;have hL:st.L r:=⟨e,sz,rows,hr⟩;exact ⟨hb b (h.row_lt hL hb') (λhd=>h.dN hd (h.row_nf hL hb').2),λh=>h⟩
 ·exact ⟨zWW (h.F b hf).1 hc.size,(h.F b hf).2.1,(h.F b hf).2.2.imp id λ⟨arr,e,hh⟩=>⟨arr,e,by rw [hS b hf]; exact hh⟩⟩
 ·by_cases hd:g.D b
  ·refine .inr ⟨hs,hd,?_⟩;have h3:KS E.w0 w b:=by
    rcases h.frame b h1 h2 with h4 | ⟨_,_,h4⟩
    ·exact (KS.refl ((h.dep b hd).2.2.2 hs).2).same h4
    ·exact h4
   exact h3.trans (hk b hd)
  ·exact (h.frame b h1 h2).keep (hb b (zWW h1 h.sizes) hd)
theorem io.grow(h:io E g st w)(hc:vu w w')(hb:∀ b,b < w.heap.size->w'.heap[b]?=w.heap[b]?):io E g st w'/\vO w w' g g st.O st.R st.O st.R :=
 h.step hc (λ_=>False) (λb h1 _=>hb b h1) (λ_ h=>h.elim) (λ_ _ h=>h.elim) (λ_ h=>h) (λ_ h1 h2=>absurd h1 h2) (λ_ h=>⟨h,rfl⟩) (λ_ h=>⟨h,rfl⟩)
  (λs cells hs=>.inl ⟨hs,id,(h.ob_nf qfq).1⟩) h.obne (λr x hr=>.inl ⟨hr,λhL b hb'=>⟨id,(h.row_nf hL hb').1⟩⟩) h.rowne h.rowob
theorem O_upd{d:Nat}{c:Os}{s:Nat}:({ st with ob:=gB st.ob d (ac c) }:St).O s↔s=d\/st.O s:=by
 unfold St.O gB
 by_cases h:s=d <;> simp [h]
theorem XZ{d:Nat}{x:RZ}{r:Nat}:({ st with rw:=gB st.rw d (ac x) }:St).R r↔r=d\/st.R r:=by
 unfold St.R gB
 by_cases h:r=d <;> simp [h]
theorem DJ{d:Nat}{x:RZ}{r:Nat}:({ st with rw:=gB st.rw d (ac x) }:St).L r↔(r=d/\∃ e sz rows,x=.live e sz rows)\/(r≠d/\st.L r):=by
 unfold St.L gB
 by_cases h:r=d
 ·simp [h]
 ·simp [h]
theorem Ms(w:World)(o:Obj):vu w (w.alloc o):=⟨rfl,rfl,rfl,by simp⟩
theorem io.new_ob(h:io E g st w)(d:Nat)(hd:st.ob d=cl)(cells:Os)(vs:Array Value)(e:TypeId)(hl:cells.length<=vs.size)
  (hv:∀ (j:Nat) (x:A),cells[j]?=ac x->x.one=gi/\∃ v,vs[j]?=ac v/\VR w g st.O st.R x v) :
  io E { g with ob:=gB g.ob d w.heap.size } { st with ob:=gB st.ob d (ac cells) } (w.alloc (.cells vs e)) /\
   vO w (w.alloc (.cells vs e)) g { g with ob:=gB g.ob d w.heap.size } st.O st.R ({ st with ob:=gB st.ob d (ac cells) }:St).O ({ st with ob:=gB st.ob d (ac cells) }:St).R:=by
 have hnd:¬ st.O d:=by simp [St.O,hd]
 have hne:∀ s,st.O s->s≠d:=λs hs he=>hnd (he ▸ hs);have hsz:∀ b,g.F b->b≠w.heap.size:=λb hf=>Nat.ne_of_lt (h.F b hf).1;refine h.step (Ms w _) (λ_=>False) (λb h1 _=>heap_alloc_old w _ b h1) (λ_ h=>h.elim) (λ_ _ h=>h.elim) (λ_ h=>h) (λ_ h1 h2=>absurd h1 h2)
  (λs hs=>⟨O_upd.2 (.inr hs),cX _ _ _ _ (hne s hs)⟩) (λ_ h=>⟨h,rfl⟩) (λs c hs=>?_) (λs s' hs hs' he=>?_) (λr x hr=>.inl ⟨hr,λhL b hb'=>⟨id,(h.row_nf hL hb').1⟩⟩) h.rowne (λr s hr hs=>?_)
 ·by_cases hsd:s=d
  ·subst hsd;simp only [eM,Option.some.injEq] at hs ⊢;subst hs;exact .inr ⟨vs,e,heap_alloc_new w _,hl,hv,λhf=>hsz _ hf rfl,.inl h.sizes⟩
  ·simp only [cX _ _ _ _ hsd] at hs;exact .inl ⟨hs,id,(h.ob_nf qfq).1⟩
 ·rcases O_upd.1 hs with rfl | h1 <;> rcases O_upd.1 hs' with rfl | h2
  ·rfl
  ·have:=h.ob_lt h2;simp only [eM,cX _ _ _ _ (hne _ h2)] at he;omega
  ·have:=h.ob_lt h1;simp only [eM,cX _ _ _ _ (hne _ h1)] at he;omega
  ·simp only [cX _ _ _ _ (hne _ h1),cX _ _ _ _ (hne _ h2)] at he;exact h.obne _ _ h1 h2 he
 ·rcases O_upd.1 hs with rfl | h1
  ·simp only [eM];intro he;exact absurd (h.row_lt hr he) (Nat.lt_irrefl _)
  ·simp only [cX _ _ _ _ (hne _ h1)];exact h.rowob r s hr h1
theorem io.set_ob(h:io E g st w)(hc:vu w w')(s:Nat)(cells cells':Os)(arr':Array Value)(e:TypeId)(hs:st.ob s=ac cells)
  (hw:w'.heap[g.ob s]?=ac (.cells arr' e (0,0))) (hb:∀ b,b < w.heap.size->b≠g.ob s->w'.heap[b]?=w.heap[b]?) (hl:cells'.length<=arr'.size)
  (hv:∀ (j:Nat) (x:A),cells'[j]?=ac x->x.one=gi/\∃ v,arr'[j]?=ac v/\VR w g st.O st.R x v) :
  io E g { st with ob:=gB st.ob s (ac cells') } w'/\vO w w' g g st.O st.R ({ st with ob:=gB st.ob s (ac cells') }:St).O ({ st with ob:=gB st.ob s (ac cells') }:St).R:=by
 have hO:st.O s:=by simp [St.O,hs]
 have hO':∀ s',({ st with ob:=gB st.ob s (ac cells') }:St).O s'->st.O s':=λs' h1=>by
  rcases O_upd.1 h1 with rfl | h2
  ·exact hO
  ·exact h2
 refine h.step hc (λb=>b=g.ob s) (λb h1 h2=>hb b h1 h2) (λb hp=>hp ▸ (h.ob_nf hO).1) (λb h1 hp=>?_) (λ_ h=>h) (λ_ h1 h2=>absurd h1 h2)
  (λs' hs'=>⟨O_upd.2 (.inr hs'),rfl⟩) (λ_ h=>⟨h,rfl⟩) (λs' c hs'=>?_) (λa b h1 h2 he=>h.obne a b (hO' a h1) (hO' b h2) he)
  (λr x hr=>.inl ⟨hr,λhL b hb'=>⟨λhe=>h.rowob r s hL hO (he ▸ hb'),(h.row_nf hL hb').1⟩⟩) h.rowne (λr s' hr hs'=>h.rowob r s' hr (hO' s' hs'))
 ·rcases (h.ob_nf hO).2 with h2 | h2
  ·subst hp; omega
  ·exact hp ▸ h2
 ·by_cases hsd:s'=s
  ·subst hsd;simp only [eM,Option.some.injEq] at hs';subst hs';exact .inr ⟨arr',e,hw,hl,hv,(h.ob_nf hO).1,(h.ob_nf hO).2⟩
  ·simp only [cX _ _ _ _ hsd] at hs';have h1:st.O s':=by simp [St.O,hs']
   exact .inl ⟨hs',λhe=>hsd (h.obne s' s h1 hO he),(h.ob_nf h1).1⟩
theorem io.new_row(h:io E g st w)(hc:vu w w')(r:Nat)(hr:st.rw r=cl)(hd:Value)(e sz:Nat)(rows:it)(p:Nat->Prop)
  (hb:∀ b,b < w.heap.size->¬ p b->w'.heap[b]?=w.heap[b]?) (hdp:∀ b,hd.ownBlock=ac b->p b) (hpX:∀ b,b < E.w0.heap.size->p b->E.X b)
  (hfree:∀ b,p b->¬ g.F b/\(∀ s,st.O s->g.ob s≠b)/\(∀ r',st.L r'->(g.rw r').ownBlock≠ac b))
  (hrow:p5 E.w0 w' E.X g.F hd (.live e sz rows)) :
  io E { g with rw:=gB g.rw r hd } { st with rw:=gB st.rw r (ac (.live e sz rows)) } w' /\
   vO w w' g { g with rw:=gB g.rw r hd } st.O st.R ({ st with rw:=gB st.rw r (ac (.live e sz rows)) }:St).O ({ st with rw:=gB st.rw r (ac (.live e sz rows)) }:St).R:=by
 have hnr:¬ st.R r:=by simp [St.R,hr]
 have hne:∀ s,st.R s->s≠r:=λs hs he=>hnr (he ▸ hs);refine h.step hc p hb (λb hp=>(hfree b hp).1) hpX (λ_ h=>h) (λ_ h1 h2=>absurd h1 h2)
  (λ_ h=>⟨h,rfl⟩) (λs hs=>⟨XZ.2 (.inr hs),cX _ _ _ _ (hne s hs)⟩) (λs c hs=>.inl ⟨hs,λhp=>(hfree _ hp).2.1 s qfr rfl,(h.ob_nf qfr).1⟩) h.obne (λs x hs=>?_) (λa b k ha hb' h1 h2=>?_) (λa s ha hs=>?_)
 ·by_cases hsd:s=r
  ·subst hsd;simp only [eM,Option.some.injEq] at hs ⊢;subst hs;exact .inr hrow
  ·simp only [cX _ _ _ _ hsd] at hs;exact .inl ⟨hs,λhL b hb'=>⟨λhp=>(hfree b hp).2.2 s hL hb',(h.row_nf hL hb').1⟩⟩
 ·rcases DJ.1 ha with ⟨rfl,_⟩ | ⟨h3,h4⟩ <;> rcases DJ.1 hb' with ⟨rfl,_⟩ | ⟨h5,h6⟩
  ·rfl
  ·simp only [eM,cX _ _ _ _ h5] at h1 h2;exact absurd h2 ((hfree k (hdp k h1)).2.2 b h6)
  ·simp only [eM,cX _ _ _ _ h3] at h1 h2;exact absurd h1 ((hfree k (hdp k h2)).2.2 a h4)
  ·simp only [cX _ _ _ _ h3,cX _ _ _ _ h5] at h1 h2;exact h.rowne a b k h4 h6 h1 h2
 ·rcases DJ.1 ha with ⟨rfl,_⟩ | ⟨h3,h4⟩
  ·simp only [eM];exact λhe=>(hfree _ (hdp _ he)).2.1 s hs rfl
  ·simp only [cX _ _ _ _ h3];exact h.rowob a s h4 hs
theorem io.set_row(h:io E g st w)(hc:vu w w')(r:Nat)(x0:RZ)(e sz:Nat)(rows:it)(hr:st.rw r=ac x0)(hL:st.L r)
  (hb:∀ b,b < w.heap.size->(g.rw r).ownBlock≠ac b->w'.heap[b]?=w.heap[b]?)
  (hrow:p5 E.w0 w' E.X g.F (g.rw r) (.live e sz rows)) :
  io E g { st with rw:=gB st.rw r (ac (.live e sz rows)) } w' /\
   vO w w' g g st.O st.R ({ st with rw:=gB st.rw r (ac (.live e sz rows)) }:St).O ({ st with rw:=gB st.rw r (ac (.live e sz rows)) }:St).R:=by
 have hL':∀ a,({ st with rw:=gB st.rw r (ac (.live e sz rows)) }:St).L a->st.L a:=λa ha=>by
  rcases DJ.1 ha with ⟨rfl,_⟩ | ⟨_,h4⟩
  ·exact hL
  ·exact h4
 refine h.step hc (λb=>(g.rw r).ownBlock=ac b) (λb h1 h2=>hb b h1 h2) (λb hp=>(h.row_nf hL hp).1) (λb h1 hp=>?_) (λ_ h=>h) (λ_ h1 h2=>absurd h1 h2)
  (λ_ h=>⟨h,rfl⟩) (λs hs=>⟨XZ.2 (.inr hs),rfl⟩) (λs c hs=>.inl ⟨hs,λhp=>h.rowob r s hL qfr hp,(h.ob_nf qfr).1⟩) h.obne (λs x hs=>?_)
  (λa b k ha hb' h1 h2=>h.rowne a b k (hL' a ha) (hL' b hb') h1 h2) (λa s ha hs=>h.rowob a s (hL' a ha) hs)
 ·rcases (h.row_nf hL hp).2 with h2 | h2
  ·omega
  ·exact h2
 ·by_cases hsd:s=r
  ·subst hsd;simp only [eM,Option.some.injEq] at hs;subst hs;exact .inr hrow
  ·simp only [cX _ _ _ _ hsd] at hs;exact .inl ⟨hs,λhL2 b hb'=>⟨λhp=>hsd (h.rowne s r b hL2 hL hb' hp),(h.row_nf hL2 hb').1⟩⟩
theorem io.gone_row(h:io E g st w)(r:Nat)(x0:RZ)(hr:st.rw r=ac x0) :
  io E g { st with rw:=gB st.rw r (ac .gone) } w/\vO w w g g st.O st.R ({ st with rw:=gB st.rw r (ac .gone) }:St).O ({ st with rw:=gB st.rw r (ac .gone) }:St).R:=by
 have hL':∀ a,({ st with rw:=gB st.rw r (ac .gone) }:St).L a->st.L a:=λa ha=>by
  rcases DJ.1 ha with ⟨rfl,e,sz,rows,hx⟩ | ⟨_,h4⟩
  ·cases hx
  ·exact h4
 refine h.step (vu.refl w) (λ_=>False) (λb h1 h2=>rfl) (λ_ h=>h.elim) (λ_ _ h=>h.elim) (λ_ h=>h) (λ_ h1 h2=>absurd h1 h2)
  (λ_ h=>⟨h,rfl⟩) (λs hs=>⟨XZ.2 (.inr hs),rfl⟩) (λs c hs=>.inl ⟨hs,id,(h.ob_nf qfr).1⟩) h.obne (λs x hs=>?_)
  (λa b k ha hb' h1 h2=>h.rowne a b k (hL' a ha) (hL' b hb') h1 h2) (λa s ha hs=>h.rowob a s (hL' a ha) hs)
 by_cases hsd:s=r
 ·subst hsd;simp only [eM,Option.some.injEq] at hs;subst hs;exact .inr (h.row s x0 hr).slice
 ·simp only [cX _ _ _ _ hsd] at hs;exact .inl ⟨hs,λhL2 b hb'=>⟨id,(h.row_nf hL2 hb').1⟩⟩
theorem p5.rd{w0:World}{X F:Nat->Prop}{v:Value}{e sz:Nat}{rows:it}(h:p5 w0 w X F v (.live e sz rows))(F':Nat->Prop)(hF:∀ b,F b->F' b)(hF':∀ b,v.ownBlock=ac b->F' b):Rd w F' (.sl sz rows) v:=by
 obtain ⟨inner,ho,h1,h2,h3⟩:=h;rcases ho.2 with ⟨rfl,hn⟩ | ⟨b,cap,cur,rfl,_,hh,hc,hm,hsz,htake⟩
 ·have:rows=[]:=zQZ hn;subst this;exact .sl0 _ _ _ (by first | assumption | exact λ_=>rfl | (intro h; cases h))
 ·refine .sl sz rows b 0 cap (λi j=>inner.getD (i*sz+j) undef) hc (hF' b rfl) h1 (λi row j x hi hj=>?_) (λi row j x hi hj=>?_)
  ·obtain ⟨u,hu,_⟩:=h2 i row j x hi hj;have:=ho.cells (g:=b) rfl (i*sz+j) u hu;rw [zZx,hu,zWY];have ha:(⟨b,0,cl⟩:Addr).add (i*sz+j)=⟨b,i*sz+j,cl⟩:=by unfold Addr.add; split <;> simp_all
   rw [ha] at this;exact this
  ·obtain ⟨u,hu,hr⟩:=h2 i row j x hi hj;rw [zZx,hu];exact hr.mono (λ_ _=>rfl) hF
theorem io.frz_row(h:io E g st w)(r e sz:Nat)(rows:it)(hr:st.rw r=ac (.live e sz rows)) :
  io E { g with F:=λb=>g.F b\/(g.rw r).ownBlock=ac b } { st with rw:=gB st.rw r (ac (.frz sz rows)) } w /\
   vO w w g { g with F:=λb=>g.F b\/(g.rw r).ownBlock=ac b } st.O st.R ({ st with rw:=gB st.rw r (ac (.frz sz rows)) }:St).O ({ st with rw:=gB st.rw r (ac (.frz sz rows)) }:St).R:=by
 have hL:st.L r:=⟨e,sz,rows,hr⟩;have hL':∀ a,({ st with rw:=gB st.rw r (ac (.frz sz rows)) }:St).L a->st.L a/\a≠r:=λa ha=>by
  rcases DJ.1 ha with ⟨rfl,e,sz,rows,hx⟩ | ⟨h3,h4⟩
  ·cases hx
  ·exact ⟨h4,h3⟩
 refine h.step (vu.refl w) (λ_=>False) (λb h1 h2=>rfl) (λ_ h=>h.elim) (λ_ _ h=>h.elim) (λ_ h=>.inl h) (λb h1 h2=>?_)
  (λ_ h=>⟨h,rfl⟩) (λs hs=>⟨XZ.2 (.inr hs),rfl⟩) (λs c hs=>.inl ⟨hs,id,?_⟩) h.obne (λs x hs=>?_)
  (λa b k ha hb' h1 h2=>h.rowne a b k (hL' a ha).1 (hL' b hb').1 h1 h2) (λa s ha hs=>h.rowob a s (hL' a ha).1 hs)
 ·have h3:=h1.resolve_left h2;refine ⟨h.row_lt hL h3,λhlt=>?_,.inr (h.row_wr hL h3)⟩;rcases (h.row_nf hL h3).2 with h4 | h4
  ·omega
  ·exact .inr h4
 ·have hO:st.O s:=by simpa [St.O] using qjU
  exact λhf=>hf.elim (h.ob_nf hO).1 (λhe=>h.rowob r s hL hO he)
 ·by_cases hsd:s=r
  ·subst hsd;simp only [eM,Option.some.injEq] at hs;subst hs;exact .inr ((h.row s _ hr).rd _ (λ_ h=>.inl h) (λ_ h=>.inr h))
  ·simp only [cX _ _ _ _ hsd] at hs;exact .inl ⟨hs,λhL2 b hb'=>⟨id,λhf=>hf.elim (h.row_nf hL2 hb').1 (λhe=>hsd (h.rowne s r b hL2 hL hb' he))⟩⟩
end
def Ji(P:Program)(o:Oper)(a:Act)(w:World)(v:Value)(w':World):Prop :=
 (execOp a.eval o).run P w=.ok (.value v) w'\/((execOp a.eval o).run P w=.ok .skip w'/\v=undef)
structure D1 (E:En) (g:Gh) (st:St) (w:World) (x:A) (st':St) (v:Value) (g':Gh) (w':World):Prop where
 mem:io E g' st' w'
 vr:VR w' g' st'.O st'.R x v
 ext:vO w w' g g' st.O st.R st'.O st'.R
 tm:st'.tm=st.tm
section
variable {P:Program} {E:En} {g:Gh} {st st':St} {a:Act} {w:World}
theorem gK{α:Type}{x y:α}{s s':St}(h:MA.run (.ret x) s=ac (y,s')):y=x/\s'=s:=by
 simp only [MA.run,Option.some.injEq,Prod.mk.injEq] at h;exact ⟨h.1.symm,h.2.symm⟩
theorem aQ{α:Type}{y:α}{s s':St}(h:MA.run .fail s=ac (y,s')):False:=by simp [MA.run] at h
theorem UQ{x y:A}{v:Value}(hM:io E g st w)(h:MA.run (.ret x) st=ac (y,st'))(hv:VR w g st.O st.R x v):D1 E g st w y st' v g w:=by
 obtain ⟨rfl,rfl⟩:=gK h;exact ⟨hM,hv,vO.refl _ _ _ _,rfl⟩
theorem Jw{v:Value}{x:A}(h:sM v=ac x)(w:World)(g:Gh)(O R:Nat->Prop):VR w g O R x v/\x.one=true:=by
 unfold sM at h
 split at h
 ·cases h; exact ⟨.t _ _ (.int _ _),rfl⟩
 ·cases h; exact ⟨.t _ _ (.bool _),rfl⟩
 ·cases h; exact ⟨.t _ _ (.str _),rfl⟩
 ·cases h; exact ⟨.nil,rfl⟩
 ·cases h; exact ⟨.t _ _ .nilf,rfl⟩
 ·cases h
theorem Oa{α:Type}{l:List (Option α)}{r:List α}(h:eQ l=ac r):l=r.map some:=by
 induction l generalizing r with
 | nil=>simp [eQ] at h; subst h; rfl
 | cons x l ih =>
  unfold eQ at h
  split at h
  ·rename_i x' r' h2
   cases h
   rw [ih h2];rfl
  ·cases h
theorem zJ{α β:Type}{f:α->Option β}{l:List α}{r:List β}(h:eQ (l.map f)=ac r) :
  l.length=r.length/\∀ (i:Nat) (y:β),r[i]?=ac y->∃ x,l[i]?=ac x/\f x=ac y:=by
 have h2:=Oa h;have hl:l.length=r.length:=by have:=congrArg zZX h2; simpa using this
 refine ⟨hl,λi y hy=>?_⟩;have hi:i < r.length:=(ln.1 hy).1;have h3:=congrArg (λq:List (Option β)=>q[i]?) h2;simp only [zQV,hy,zWG] at h3;rw [sX al] at h3;exact ⟨_,sX al,by simpa using h3⟩
theorem qci{v:Value}{x:A}(h:A.ofValue v=ac x)(w:World)(g:Gh)(O R:Nat->Prop):VR w g O R x v:=by
 unfold A.ofValue at h
 split at h
 ·rename_i cs
  split at h
  ·rename_i l hl
   cases h
   obtain ⟨h1,h2⟩:=zJ hl;have:=VR.agg (w:=w) (g:=g) (O:=O) (R:=R) l cs.toList h1.symm (λi x v hx hv=>by
    obtain ⟨u,hu,hf⟩:=h2 i x hx;rw [hu] at hv
    cases hv
    exact (Jw hf w g O R).1)
   simpa using this
  ·cases h
 ·cases h; exact .undef _
 ·exact (Jw h w g O R).1
theorem cm{n:Nat}(hS:lj E g n st a w){x:Operand}{y:A}(h:st.eval x=ac y):VR w g st.O st.R y (a.eval x):=by
 cases x with
 | tmp t =>
  simp only [St.eval,Option.some.injEq] at h;subst h
  by_cases ht:t < n
  ·obtain ⟨v,hv,hr⟩:=hS.tm t ht;have:a.eval (.tmp t)=v:=by simp [Act.eval,Array.getD_eq_getD_getElem?,hv]
   rw [this];exact hr
  ·have hn:n<=t:=Nat.le_of_not_lt ht;rw [hS.und t hn];exact .undef _
 | const v=>exact qci h _ _ _ _
 | global g=>simp [St.eval] at h
 | func f =>
  simp only [St.eval,Option.some.injEq] at h;subst h;exact .clo f [] [] rfl ig
theorem VR.cells{x:A}{v:Value}(hM:io E g st w)(h:VR w g st.O st.R x v)(h1:x.cells.all A.one=gi):v.cells.size=x.cells.length /\
  (∀ u∈v.cells.toList,u.oneCell'=gi)/\∀ (j:Nat) (y:A),x.cells[j]?=ac y->y.one=gi/\∃ u,v.cells[j]?=ac u/\VR w g st.O st.R y u:=by
 have key:∀ {x:A} {v:Value},VR w g st.O st.R x v->x.one=true->x.cells=[x]->v.cells.size=x.cells.length/\(∀ u∈v.cells.toList,u.oneCell'=gi) /\
   ∀ (j:Nat) (y:A),x.cells[j]?=ac y->y.one=gi/\∃ u,v.cells[j]?=ac u/\VR w g st.O st.R y u:=by
  intro x v h hx hc;obtain ⟨h2,h3⟩:=hM.one h hx;rw [hc,h3];refine ⟨rfl,by simp [h2],λj y hy=>?_⟩
  cases j with
  | zero=>simp at hy; subst hy; exact ⟨hx,v,rfl,h⟩
  | succ j=>simp at hy
 cases h with
 | agg l vs hl h =>
  refine ⟨by simp [Value.cells,A.cells,hl],λu hu=>?_,λj y hy=>?_⟩
  ·obtain ⟨j,hj,rfl⟩:=List.mem_iff_getElem.1 hu;have hj':j < l.length:=by simp [Value.cells] at hj; omega
   have hy:l[j].one=true:=by
    simp only [A.cells,zXZ] at h1;exact h1 _ (zZY hj')
   exact (hM.one (h j l[j] _ (sX hj') (by simp [Value.cells])) hy).1
  ·simp only [A.cells] at hy h1;have hj:j < l.length:=(ln.1 hy).1;refine ⟨?_,vs[j],by simp [Value.cells,sX (show j < vs.length by omega)],h j y _ hy (sX al)⟩;simp only [zXZ] at h1;exact h1 _ (zQQ hy)
 | tup=>simp [A.cells,A.one] at h1
 | undef=>simp [A.cells,A.one] at h1
 | raw=>simp [A.cells,A.one] at h1
 | osl s a n c hs ha=>exact key (.osl s a n c hs ha) rfl rfl
 | t x v h=>exact key (.t x v h) rfl rfl
 | nil=>exact key .nil rfl rfl
 | own r hr=>exact key (.own r hr) rfl rfl
 | obj s off hs=>exact key (.obj s off hs) rfl rfl
 | elem r sz i off b n c hr he=>exact key (.elem r sz i off b n c hr he) rfl rfl
 | win r lo m n c c' ad a' hr he hm hp=>exact key (.win r lo m n c c' ad a' hr he hm hp) rfl rfl
 | sub r sz lo n c c' ad a' hr he hp=>exact key (.sub r sz lo n c c' ad a' hr he hp) rfl rfl
 | fadr cells b off u hF hx hr=>exact key (.fadr cells b off u hF hx hr) rfl rfl
 | nn sz rows v h hv=>exact key (.nn sz rows v h hv) rfl rfl
 | clo f caps vs hl h=>exact key (.clo f caps vs hl h) rfl rfl
 | ext s x v hs h=>exact key (.ext s x v hs h) rfl rfl
 | shp x v h=>exact key (.shp x v h) rfl rfl
 | exa s cells b off u hs hD hx hr=>exact key (.exa s cells b off u hs hD hx hr) rfl rfl
theorem qaq{d:Nat}{cells:Os}{x:A}(h:(qao d cells).run st=ac (x,st')):st.ob d=cl/\cells.all A.one=gi/\x=.obj d 0/\st'={ st with ob:=gB st.ob d (ac cells) }:=by
 unfold qao at h;simp only [MA.run] at h
 cases ho:st.ob d with
 | some c=>simp [ho,MA.run] at h
 | none =>
  simp only [ho] at h
  split at h
  ·rename_i h1;simp only [MA.run,Option.some.injEq,Prod.mk.injEq] at h;exact ⟨rfl,h1,h.1.symm,h.2.symm⟩
  ·simp [MA.run] at h
theorem qar{d:Nat}{cells:Os}{x:A}(hM:io E g st w)(e:TypeId)(vs:Array Value)(hl:cells.length<=vs.size)
  (hv:∀ (j:Nat) (y:A),cells[j]?=ac y->y.one=gi/\∃ u,vs[j]?=ac u/\VR w g st.O st.R y u) (h:(qao d cells).run st=ac (x,st')) :
  ∃ g',D1 E g st w x st' (.pointer (ac ⟨w.heap.size,0,cl⟩)) g' (w.alloc (.cells vs e)):=by
 obtain ⟨hd,h1,rfl,rfl⟩:=qaq h;obtain ⟨hM',hE⟩:=hM.new_ob d hd cells vs e hl hv;refine ⟨_,hM',?_,hE,rfl⟩;have:=VR.obj (w:=w.alloc (.cells vs e)) (g:={ g with ob:=gB g.ob d w.heap.size }) (O:=({ st with ob:=gB st.ob d (ac cells) }:St).O) (R:=({ st with ob:=gB st.ob d (ac cells) }:St).R) d 0 (O_upd.2 (.inl rfl))
 simpa only [eM] using this
theorem X1{e:TypeId}{z:Os}(h:AM P e=ac z):∃ i zv,P.info? e=ac i/\i.zero=ac zv/\zv.cells.size=z.length /\
  (∀ (w:World) (g:Gh) (O R:Nat->Prop) (j:Nat) (y:A),z[j]?=ac y->y.one=gi/\∃ u,zv.cells[j]?=ac u/\VR w g O R y u):=by
 unfold AM II at h
 cases hi:P.info? e with
 | none=>simp [hi] at h
 | some i =>
  rw [hi] at h
  cases hz:i.zero with
  | none=>simp [hz] at h
  | some zv =>
   simp only [zWG,hz] at h;obtain ⟨h1,h2⟩:=zJ h;refine ⟨i,zv,rfl,hz,by simpa using h1,λw g O R j y hy=>?_⟩;obtain ⟨u,hu,hf⟩:=h2 j y hy;obtain ⟨hv,ho⟩:=Jw hf w g O R;exact ⟨ho,u,by simpa using hu,hv⟩
theorem nZ{e:TypeId}{n:Nat}(h:jX P e=ac n):∃ i,P.info? e=ac i/\i.size=n:=by
 unfold jX II at h
 cases hi:P.info? e with
 | none=>simp [hi] at h
 | some i=>simp [hi] at h; exact ⟨i,rfl,h⟩
theorem X2{e:TypeId}{z:Option Value}{n by_:Nat}(h:II P e=ac (z,n,by_)):∃ i,P.info? e=ac i/\i.zero=z/\i.size=n/\i.bytes=by_:=by
 unfold II at h
 cases hi:P.info? e with
 | none=>simp [hi] at h
 | some i=>simp [hi] at h; exact ⟨i,rfl,h.1,h.2.1,h.2.2⟩
theorem qen{o:Oper}{e:TypeId}{d:Nat}{z:Os}{x:A}{n:Nat}(hS:lj E g n st a w)(ho:o.op=.alloc e)(hz:AM P e=ac z)(h:(qao d z).run st=ac (x,st')) :
  ∃ v g' w',Ji P o a w v w'/\D1 E g st w x st' v g' w':=by
 obtain ⟨i,zv,hi,hzv,hsz,hv⟩:=X1 hz;obtain ⟨g',hA⟩:=qar hS.mem e zv.cells al (hv w g _ _) h;refine ⟨_,g',_,.inl ?_,hA⟩;simp [execOp,ho,Instr.alloc,zeroValue,typeInfo,hi,hzv,newVar,newRow,newObj,Sem.run]
theorem qhg{o:Oper}{e:TypeId}{d:Nat}{y:Operand}{x v:A}{n:Nat}(hS:lj E g n st a w)(ho:o.op=.box e y)(hv:VR w g st.O st.R v (a.eval y))(h:(qao d v.cells).run st=ac (x,st')) :
  ∃ v g' w',Ji P o a w v w'/\D1 E g st w x st' v g' w':=by
 obtain ⟨h1,h2,h3⟩:=hv.cells hS.mem (qaq h).2.1;obtain ⟨g',hA⟩:=qar hS.mem e (a.eval y).cells al h3 h;refine ⟨_,g',_,.inl ?_,hA⟩;simp [execOp,ho,Instr.box,newVar,newRow,newObj,Sem.run]
end
theorem D2(b o j:Nat):(⟨b,o,cl⟩:Addr).add j=⟨b,o+j,cl⟩:=by unfold Addr.add; split <;> simp_all
section
variable {P:Program} {E:En} {g:Gh} {st st':St} {a:Act} {w:World}
structure Mt (g:Gh) (st:St) (g1:Gh) (st1:St):Prop where
 L:∀ r,st1.L r->st.L r
 eob:st1.ob=st.ob
 ob:g1.ob=g.ob
 rw:g1.rw=g.rw
 F:∀ b,g1.F b->g.F b\/∃ r,st.L r/\¬ st1.L r/\(g.rw r).ownBlock=ac b
 tm:st1.tm=st.tm
theorem Mt.refl(g:Gh)(st:St):Mt g st g st:=⟨λ_ h=>h,rfl,rfl,rfl,λ_ h=>.inl h,rfl⟩
theorem Mt.trans{g1 g2 g3:Gh}{s1 s2 s3:St}(h:Mt g1 s1 g2 s2)(k:Mt g2 s2 g3 s3):Mt g1 s1 g3 s3 :=
 ⟨λr hr=>h.L r (k.L r hr),k.eob.trans h.eob,k.ob.trans h.ob,k.rw.trans h.rw,λb hb=>by
  rcases k.F b hb with h1 | ⟨r,h1,h2,h3⟩
  ·rcases h.F b h1 with h4 | ⟨r,h4,h5,h6⟩
   ·exact .inl h4
   ·exact .inr ⟨r,h4,λh7=>h5 (k.L r h7),h6⟩
  ·exact .inr ⟨r,h.L r h1,h2,by rw [<- h.rw]; exact h3⟩,k.tm.trans h.tm⟩
theorem Y2{α:Type}{st':St}{x:A}{k:T->MA α}{y:α}{v:Value}(hM:io E g st w)(hv:VR w g st.O st.R x v)(h:(x.toT k).run st=ac (y,st')) :
  ∃ t st1 g1,io E g1 st1 w/\vO w w g g1 st.O st.R st1.O st1.R/\Mt g st g1 st1/\(k t).run st1=ac (y,st')/\Rd w g1.F t v/\v.oneCell'=true:=by
 cases hv with
 | t x v h1=>exact ⟨x,st,g,hM,vO.refl _ _ _ _,Mt.refl _ _,h,h1,h1.one.1⟩
 | nil=>exact ⟨_,st,g,hM,vO.refl _ _ _ _,Mt.refl _ _,h,.sl0 _ _ _ (by first | assumption | exact λ_=>rfl | (intro h; cases h)),rfl⟩
 | own r hr =>
  obtain ⟨A1,n1,c1,hh⟩:=hM.hdr r hr;have h1c:(g.rw r).oneCell'=true:=by rw [hh]; rfl
  simp only [A.toT,MA.run] at h
  cases hx:st.rw r with
  | none=>simp [hx,MA.run] at h
  | some x =>
   cases x with
   | live e sz rows =>
    simp only [hx,MA.run] at h;obtain ⟨hM1,hE1⟩:=hM.frz_row r e sz rows hx;have hLr:st.L r:=⟨e,sz,rows,hx⟩;refine ⟨_,_,_,hM1,hE1,⟨λr' hr'=>?_,rfl,rfl,rfl,λb hb=>hb.imp id (λhb=>⟨r,hLr,λhl=>?_,hb⟩),rfl⟩,h,?_,h1c⟩
    ·rcases DJ.1 hr' with ⟨rfl,_,_,_,hx⟩ | ⟨_,h3⟩
     ·cases hx
     ·exact h3
    ·rcases DJ.1 hl with ⟨_,_,_,_,hx⟩ | ⟨h3,_⟩
     ·cases hx
     ·exact h3 rfl
    ·have:=hM1.row r (.frz sz rows) (by simp [gB]);exact this
   | frz sz rows =>
    simp only [hx,MA.run] at h;exact ⟨_,st,g,hM,vO.refl _ _ _ _,Mt.refl _ _,h,hM.row r _ hx,h1c⟩
   | gone=>simp [hx,MA.run] at h
 | _=>simp [A.toT,MA.run] at h
theorem qas{α:Type}{st':St}{l:Os}:∀ {st:St} {g:Gh} {k:Or->MA α} {y:α} {vs:List Value} (hM:io E g st w) (hl:vs.length=l.length)
  (hv:∀ (j:Nat) (x:A),l[j]?=ac x->∃ u,vs[j]?=ac u/\VR w g st.O st.R x u) (h:(fg l k).run st=ac (y,st')),
  ∃ ts st1 g1,io E g1 st1 w/\vO w w g g1 st.O st.R st1.O st1.R/\Mt g st g1 st1/\(k ts).run st1=ac (y,st')/\ts.length=l.length /\
   (∀ (j:Nat) (t:T),ts[j]?=ac t->∃ u,vs[j]?=ac u/\u.oneCell'=gi/\Rd w g1.F t u):=by
 induction l with
 | nil =>
  intro st g k y vs hM hl hv h;exact ⟨[],st,g,hM,vO.refl _ _ _ _,Mt.refl _ _,h,rfl,by simp⟩
 | cons x l ih =>
  intro st g k y vs hM hl hv h;obtain ⟨v,vs,rfl⟩:∃ v vs',vs=v :: vs':=by
   cases vs with
   | nil=>simp at hl
   | cons v vs=>exact ⟨v,vs,rfl⟩
  obtain ⟨u,hu,hx⟩:=hv 0 x rfl;simp at hu;subst hu;obtain ⟨t,st1,g1,hM1,hE1,ht1,h1,hr1,ho1⟩:=Y2 hM hx h;obtain ⟨ts,st2,g2,hM2,hE2,ht2,h2,hl2,hr2⟩:=ih hM1 wz5 (λj y hy=>by
   obtain ⟨u,hu,hx⟩:=hv (j+1) y qcd;exact ⟨u,by simpa using hu,hx.mono hE1⟩) h1
  refine ⟨t :: ts,st2,g2,hM2,hE1.trans hE2,ht1.trans ht2,h2,by simp [hl2],λj t' hj=>?_⟩
  cases j with
  | zero =>
   simp at hj;subst hj;exact ⟨v,rfl,ho1,hr1.mono hE2.same hE2.F⟩
  | succ j =>
   obtain ⟨u,hu,ho,hr⟩:=hr2 j t' wz9;exact ⟨u,by simpa using hu,ho,hr⟩
structure Rds (w:World) (F:Nat->Prop) (sz:Nat) (rows:it) (ad:Option Addr):Prop where
 len:∀ (i:Nat) (row:Or),rows[i]?=ac row->row.length=sz
 at_:rows=[]\/∃ b off,ad=ac ⟨b,off,cl⟩/\∀ (i:Nat) (row:Or) (j:Nat) (x:T),rows[i]?=ac row->row[j]?=ac x->∃ u,w.cell? ⟨b,off+i*sz+j,cl⟩=ac u/\Rd w F x u
theorem Qr:∀ (lb:IO) (l:Os),(oB lb l).length=l.length
 | [],l=>by cases l <;> rfl
 | n :: ns,[]=>rfl
 | n :: ns,a :: r=>by cases a <;> simp [oB,Qr ns r]
theorem Qs:∀ (lb:IO) (l:Os) (j:Nat) (x:A),(oB lb l)[j]?=ac x->∃ y,l[j]?=ac y/\(x=y\/(y=.nil/\∃ n,x=.t (.sl n [])))
 | [],l,j,x,h=>⟨x,by cases l <;> exact h,.inl rfl⟩
 | n :: ns,[],j,x,h=>by simp [oB] at h
 | n :: ns,a :: r,0,x,h=>by
  refine ⟨a,rfl,?_⟩
  cases a <;> simp [oB] at h <;> first | exact .inl h.symm | exact .inr ⟨rfl,n,h.symm⟩
 | n :: ns,a :: r,j+1,x,h=>by
  have:(oB ns r)[j]?=ac x:=by cases a <;> simpa [oB] using h
  obtain ⟨y,h1,h2⟩:=Qs ns r j x this;exact ⟨y,by simpa using h1,h2⟩
theorem qeo{lb:IO}{l:Os}(h:(oB lb l).all A.one=gi):l.all A.one=true:=by
 rw [zXZ] at h ⊢
 induction l generalizing lb with
 | nil=>intro x hx; simp at hx
 | cons a r ih =>
  intro x hx;have h0:a.one=gi/\∃ ns,∀ x∈oB ns r,x.one=true:=by
   cases lb with
   | nil=>exact ⟨h a (by simp [oB]),[],λx hx=>h x (by simp only [oB]; cases r <;> first | exact zQv _ hx | (simp [oB] at hx))⟩
   | cons n ns =>
    cases a <;> simp only [oB] at h <;> first
     | exact ⟨rfl,ns,λx hx=>h x (zQv _ hx)⟩
     | exact ⟨h _ (zWX ..),ns,λx hx=>h x (zQv _ hx)⟩
  obtain ⟨h1,ns,h2⟩:=h0;rcases Ir.1 hx with rfl | hx
  ·exact h1
  ·exact ih h2 x hx
theorem Ob{α:Type}{st':St}{lb:IO}{l:Os}{st:St}{g:Gh}{k:Or->MA α}{y:α}{vs:List Value}(hM:io E g st w)(hl:vs.length=l.length)
  (hv:∀ (j:Nat) (x:A),l[j]?=ac x->∃ u,vs[j]?=ac u/\VR w g st.O st.R x u) (h:(fg (oB lb l) k).run st=ac (y,st')) :
  ∃ ts st1 g1,io E g1 st1 w/\vO w w g g1 st.O st.R st1.O st1.R/\Mt g st g1 st1/\(k ts).run st1=ac (y,st')/\ts.length=l.length /\
   (∀ (j:Nat) (t:T),ts[j]?=ac t->∃ u,vs[j]?=ac u/\u.oneCell'=gi/\Rd w g1.F t u):=by
 have:=qas hM (l:=oB lb l) (vs:=vs) (by rw [Qr]; exact hl) (λj x hj=>by
  obtain ⟨y,h1,h2⟩:=Qs lb l j x hj;obtain ⟨u,hu,hr⟩:=hv j y h1;rcases h2 with rfl | ⟨rfl,n,rfl⟩
  ·exact ⟨u,hu,hr⟩
  ·cases hr
   exact ⟨_,hu,.t _ _ (.sl0 _ _ _ (by first | assumption | exact λ_=>rfl | (intro h; cases h)))⟩) h
 rwa [Qr] at this
theorem Rd.rds{F:Nat->Prop}{sz:Nat}{rows:it}{v:Value}(h:Rd w F (.sl sz rows) v):∃ ad c,v=.slice ad rows.length c/\Rds w F sz rows ad:=by
 cases h with
 | sl0 sz a c ha=>exact ⟨a,c,rfl,by simp,.inl rfl⟩
 | sl sz rows b off c u hc hF hs hx hr=>exact ⟨_,c,rfl,hs,.inr ⟨b,off,rfl,λi row j x h1 h2=>⟨_,hx i row j x h1 h2,hr i row j x h1 h2⟩⟩⟩
theorem p5.rds{w0:World}{X F:Nat->Prop}{v:Value}{e sz:Nat}{rows:it}(h:p5 w0 w X F v (.live e sz rows)):∃ ad c,v=.slice ad rows.length c/\Rds w F sz rows ad:=by
 obtain ⟨inner,ho,h1,h2,h3⟩:=h;rcases ho.2 with ⟨rfl,hn⟩ | ⟨b,cap,cur,rfl,_,hh,hc,hm,hsz,htake⟩
 ·exact ⟨cl,0,by rw [hn],h1,.inl (zQZ hn)⟩
 ·refine ⟨_,cap,rfl,h1,.inr ⟨b,0,rfl,λi row j x hi hj=>?_⟩⟩;obtain ⟨u,hu,hr⟩:=h2 i row j x hi hj;have:=ho.cells (g:=b) rfl (i*sz+j) u hu;rw [D2] at this;exact ⟨u,by rw [zWY] at *; exact this,hr⟩
theorem Rd.sc0{F F':Nat->Prop}{x:T}{v:Value}(h:Rd w F x v)(hx:x.sc=gi):Rd w F' x v:=by
 cases h with
 | int k n=>exact .int k n
 | bool b=>exact .bool b
 | str s=>exact .str s
 | nilf=>exact .nilf
 | hdr a n c=>exact .hdr a n c
 | sl0 | sl=>cases hx
theorem Jx{α:Type}{x:A}{k:Nat->it->MA α}{y:α}{v:Value}(hM:io E g st w)(hv:VR w g st.O st.R x v)(h:(x.rows k).run st=ac (y,st')) :
  ∃ rows sz ad c,(k sz rows).run st=ac (y,st')/\v=.slice ad rows.length c/\Rds w g.F sz rows ad:=by
 cases hv with
 | t x v h1 =>
  cases x with
  | sl sz rows =>
   obtain ⟨ad,c,hv,hr⟩:=h1.rds;exact ⟨rows,sz,ad,c,h,hv,hr⟩
  | _=>simp [A.rows,MA.run] at h
 | nil=>exact ⟨[],0,cl,0,h,rfl,by simp,.inl rfl⟩
 | ext s x v hs h1 =>
  cases s with
  | true=>simp [A.rows,MA.run] at h
  | false =>
   cases x with
   | sl sz rows =>
    simp only [A.rows] at h
    split at h
    rotate_left
    ·exact (aQ h).elim
    rename_i hsc;have hM0:=hM;have h2:Rd w g.D (.sl sz rows) v:=h1.rd (λb hb=>by
     obtain ⟨h3,h4,h5,_⟩:=hM0.dep b hb;rw [h3];rcases hM0.frame b h4 h5 with h6 | ⟨h6,_⟩
     ·exact h6
     ·rw [hs] at h6; cases h6) (λ_ h=>h)
    obtain ⟨ad,c,hv,hr⟩:=h2.rds;refine ⟨rows,sz,ad,c,h,hv,hr.len,hr.at_.imp id λ⟨b,off,e,hx⟩=>⟨b,off,e,λi row j x hi hj=>?_⟩⟩;obtain ⟨u,hu,hrd⟩:=hx i row j x hi hj;exact ⟨u,hu,hrd.sc0 (zm.1 (zm.1 hsc row (zQQ hi)) x (zQQ hj))⟩
   | _=>simp [A.rows,MA.run] at h
 | own r hr =>
  simp only [A.rows,MA.run] at h
  cases hx:st.rw r with
  | none=>simp [hx,MA.run] at h
  | some x =>
   cases x with
   | live e sz rows =>
    simp only [hx] at h;obtain ⟨ad,c,hv,hr⟩:=(hM.row r _ hx).rds;exact ⟨rows,sz,ad,c,h,hv,hr⟩
   | frz sz rows =>
    simp only [hx] at h;obtain ⟨ad,c,hv,hr⟩:=Rd.rds (hM.row r _ hx);exact ⟨rows,sz,ad,c,h,hv,hr⟩
   | gone=>simp [hx,MA.run] at h
 | _=>simp [A.rows,MA.run] at h
theorem Rds.flat{F:Nat->Prop}{sz:Nat}{rows:it}{ad:Option Addr}(h:Rds w F sz rows ad)(hne:rows≠[]) :
  ∃ b off,ad=ac ⟨b,off,cl⟩/\∃ news:List Value,news.length=rows.length*sz/\(∀ (j:Nat) (u:Value),news[j]?=ac u->w.cell? ((⟨b,off,cl⟩:Addr).add j)=ac u) /\
   (∀ u∈news,u.oneCell'=gi)/\∀ (i:Nat) (row:Or) (j:Nat) (x:T),rows[i]?=ac row->row[j]?=ac x->∃ u,news[i*sz+j]?=ac u/\Rd w F x u:=by
 obtain ⟨b,off,rfl,hx⟩:=h.at_.resolve_left hne;have key:∀ k,k < rows.length*sz->∃ u,w.cell? ⟨b,off+k,cl⟩=ac u/\u.oneCell'=true:=by
  intro k hk;have hsz:0 < sz:=Nat.pos_of_ne_zero λh0=>by rw [h0] at hk; omega
  have hi:k / sz < rows.length:=by rw [Nat.div_lt_iff_lt_mul hsz]; exact hk
  have hj:k % sz < (rows[k / sz]).length:=by rw [h.len _ _ (sX hi)]; exact Nat.mod_lt _ hsz
  obtain ⟨u,hu,hr⟩:=hx (k / sz) _ (k % sz) _ (sX hi) (sX hj);refine ⟨u,?_,hr.one.1⟩;have:=Nat.div_add_mod k sz;rw [show off+k=off+k / sz*sz+k % sz by rw [Nat.mul_comm]; omega];exact hu
 refine ⟨b,off,rfl,(zXY (rows.length*sz)).map (λk=>(w.cell? ⟨b,off+k,cl⟩).getD undef),by simp,λj u hu=>?_,λu hu=>?_,λi row j x hi hj=>?_⟩
 ·have hj:j < rows.length*sz:=by
   have:=(ln.1 hu).1
   simpa using this
  obtain ⟨u',hu',_⟩:=key j hj;simp only [zQV,zZw hj,zWG,hu',zXX,Option.some.injEq] at hu;rw [D2,hu',hu]
 ·simp only [zYv,List.mem_range] at hu;obtain ⟨k,hk,rfl⟩:=hu;obtain ⟨u',hu',ho⟩:=key k hk;rw [hu'];exact ho
 ·obtain ⟨u,hu,hr⟩:=hx i row j x hi hj;have hlt:i*sz+j < rows.length*sz:=by
   have h1:i < rows.length:=(ln.1 hi).1;have h2:j < sz:=by rw [<- h.len i row hi]; exact (ln.1 hj).1
   have h3:(i+1)*sz<=rows.length*sz:=zWH _ h1;rw [zYw] at h3;omega
  refine ⟨u,?_,hr⟩;simp only [zQV,zZw hlt,zWG,<- zZj,hu,zXX]
theorem qhh{gg:Bool}{n off:Nat}{l:Os}{x:A}{b o:Nat}(h:Mq gg n l off=ac x)
  (hc:∀ (j:Nat) (y:A),l[j]?=ac y->∃ u,w.cell? ⟨b,o+j,cl⟩=ac u/\VR w g st.O st.R y u) :
  (gg=true->∃ vs:List Value,vs.length=n/\(loadCells ⟨b,o+off,cl⟩ n).run P w=.ok vs.toArray w/\VR w g st.O st.R x (.agg vs.toArray)) /\
  (gg=false->∃ v,w.cell? ⟨b,o+off,cl⟩=ac v/\VR w g st.O st.R x v):=by
 unfold Mq at h
 split at h
 ·rename_i hle;refine ⟨λhg=>?_,λhg=>?_⟩
  ·rw [if_pos hg] at h
   cases h
   have key:∀ k,k < n->∃ u y,w.cell? ⟨b,o+off+k,cl⟩=ac u/\l[off+k]?=ac y/\VR w g st.O st.R y u:=by
    intro k hk;have hi:off+k < l.length:=by omega
    obtain ⟨u,hu,hr⟩:=hc (off+k) _ (sX hi);exact ⟨u,_,by rw [zZj]; exact hu,sX hi,hr⟩
   refine ⟨(zXY n).map (λk=>(w.cell? ⟨b,o+off+k,cl⟩).getD undef),by simp,?_,?_⟩
   ·refine run_loadCells w _ n _ (λj hj=>?_);obtain ⟨u,y,hu,_⟩:=key j hj;rw [D2,hu];rfl
   ·refine .agg _ _ f6 (λi y v hy hv=>?_);have hi:i < n:=by
     have:=(ln.1 hv).1
     simpa using this
    obtain ⟨u,y',hu,hy',hr⟩:=key i hi;simp only [zQV,zZw hi,zWG,hu,zXX,Option.some.injEq] at hv;rw [zQy,if_pos hi,zQx,hy',Option.some.injEq] at hy;rw [<- hy,<- hv];exact hr
  ·subst hg;simp only [zWQ,if_false] at h
   split at h
   ·obtain ⟨u,hu,hr⟩:=hc off x h;exact ⟨u,hu,hr⟩
   ·cases h
 ·cases h
theorem Oc{t:TypeId}{gg:Bool}(h:qan P t=ac gg)(w:World):(isAgg t).run P w=.ok gg w:=by
 unfold qan at h
 cases hu:P.underlying t with
 | none=>simp [hu] at h
 | some d =>
  rw [hu] at h
  cases d <;> simp at h <;> subst h <;> simp [isAgg,run_underlying hu]
theorem Jy{t:TypeId}{gg:Bool}{n b o off:Nat}{l:Os}{x:A}(hg:qan P t=ac gg)(hn:jX P t=ac n)(h:Mq gg n l off=ac x)
  (hc:∀ (j:Nat) (y:A),l[j]?=ac y->∃ u,w.cell? ⟨b,o+j,cl⟩=ac u/\VR w g st.O st.R y u) :
  ∃ v,(loadVar t ⟨b,o+off,cl⟩).run P w=.ok v w/\VR w g st.O st.R x v:=by
 obtain ⟨i,hi,hsz⟩:=nZ hn;obtain ⟨h1,h2⟩:=qhh (P:=P) h hc
 cases gg with
 | true =>
  obtain ⟨vs,hl,hr,hv⟩:=h1 rfl;refine ⟨_,?_,hv⟩;simp [loadVar,Oc hg,sizeOf,typeInfo,hi,hsz,hr]
 | false =>
  obtain ⟨v,hv,hr⟩:=h2 rfl;refine ⟨v,?_,hr⟩;simp [loadVar,Oc hg,run_load,hv]
theorem io.now(hM:io E g st w)(h:g.sh=go):ER g.D g.dw w:=λb hb=>by
 obtain ⟨h1,h2,h3,_⟩:=hM.dep b hb;rw [h1];rcases hM.frame b h2 h3 with h4 | ⟨h4,_⟩
 ·exact h4
 ·rw [h] at h4; cases h4
theorem io.nowK(hM:io E g st w)(h:g.sh=gi){b:Nat}(hb:g.D b):KS g.dw w b:=by
 obtain ⟨h1,h2,h3,h5⟩:=hM.dep b hb;rw [h1];rcases hM.frame b h2 h3 with h4 | ⟨_,_,h4⟩
 ·exact (KS.refl (h5 h).2).same h4
 ·exact h4
theorem qfx{s:Bool}{x:T}{b o:Nat}{u:Value}(hM:io E g st w)(hs:g.sh=s)(hD:g.D b)(hx:g.dw.cell? ⟨b,o,cl⟩=ac u)(hr:Sd s g.dw g.D x u) :
  ∃ u',w.cell? ⟨b,o,cl⟩=ac u'/\VR w g st.O st.R (qhf s x) u':=by
 cases s with
 | false =>
  have hsm:=hM.now hs;refine ⟨u,by rw [Ei hsm hD]; exact hx,?_⟩
  cases x with
  | sl sz rows=>exact .ext go _ _ hs hr
  | int k n=>cases hr with | int k n n' h=>rw [h rfl]; exact .t _ _ (.int k n)
  | bool b=>cases hr with | bool b b' h=>rw [h rfl]; exact .t _ _ (.bool b)
  | str b=>cases hr; exact .t _ _ (.str b)
  | nilf=>cases hr; exact .t _ _ .nilf
  | hdr a n c=>cases hr; exact .t _ _ (.hdr _ _ _)
 | true =>
  obtain ⟨u',h1,h2⟩:=(hM.nowK hs hD).cell hx;refine ⟨u',h1,?_⟩
  cases x <;> exact .ext gi _ _ hs (hr.kq h2)
theorem qfy{o:Oper}{t:TypeId}{y:Operand}{x v:A}{n:Nat}(hS:lj E g n st a w)(ho:o.op=.load t y)(hv:VR w g st.O st.R v (a.eval y))(h:(Qp P t v).run st=ac (x,st')) :
  ∃ u g' w',Ji P o a w u w'/\D1 E g st w x st' u g' w':=by
 have hM:=hS.mem;unfold Qp at h
 split at h
 rotate_left
 ·exact (aQ h).elim
 rename_i gg nn hg hn;have fin:∀ (l:Os) (b o' off:Nat) (_:a.eval y=.pointer (ac ⟨b,o'+off,cl⟩)) (_:∀ (j:Nat) (y:A),l[j]?=ac y->∃ u,w.cell? ⟨b,o'+j,cl⟩=ac u/\VR w g st.O st.R y u)
   (_:(match Mq gg nn l off with | some v=>MA.ret v | none=>MA.fail).run st=ac (x,st')),∃ u g' w',Ji P o a w u w'/\D1 E g st w x st' u g' w':=by
  intro l b o' off he hc h
  split at h
  ·rename_i z hz;obtain ⟨u,hu,hr⟩:=Jy (P:=P) hg hn hz hc;refine ⟨u,g,w,.inl ?_,UQ hM h hr⟩;simp [execOp,ho,Instr.loadAt,Instr.sureAddr,he,hu]
  ·exact (aQ h).elim
 generalize hu:a.eval y=uu at hv fin
 cases hv with
 | obj s off hs =>
  simp only [MA.run] at h
  cases hc:st.ob s with
  | none=>simp [hc,MA.run] at h
  | some cells =>
   simp only [hc] at h;obtain ⟨arr,e,hh,hl,hv,_⟩:=hM.ob s cells hc;exact fin cells (g.ob s) 0 off (by rw [zWY]) (λj y hy=>by
    obtain ⟨_,u,hu,hr⟩:=hv j y hy;exact ⟨u,by rw [zWY]; simp [World.cell?,hh,hu],hr⟩) h
 | elem r sz i off b n' c hr he =>
  simp only [MA.run] at h;have key:∀ (sz':Nat) (rows:it) (_:Rds w g.F sz' rows (ac ⟨b,0,cl⟩)) (_:(if sz=sz' then match rows[i]? with
    | some row=>match Mq gg nn (row.map A.t) off with | some v=>MA.ret v | none=>MA.fail
    | none=>MA.fail
    else MA.fail).run st=ac (x,st')),∃ u g' w',Ji P o a w u w'/\D1 E g st w x st' u g' w':=by
   intro sz' rows hR h
   split at h
   rotate_left
   ·exact (aQ h).elim
   rename_i hsz;subst hsz
   split at h
   rotate_left
   ·exact (aQ h).elim
   rename_i row hrow;refine fin (row.map A.t) b (i*sz) off rfl (λj y hy=>?_) h;rw [zQV,zWk] at hy;obtain ⟨z,hz,rfl⟩:=hy;rcases hR.at_ with hR | ⟨b',off',he',hR⟩
   ·rw [hR] at hrow; cases hrow
   ·injection he' with he'
    injection he' with hb ho' _
    subst hb ho';obtain ⟨u,hu,hr⟩:=hR i row j z hrow hz;exact ⟨u,by rw [zWY] at hu; exact hu,.t _ _ hr⟩
  cases hx:st.rw r with
  | none=>simp [hx,MA.run] at h
  | some xx =>
   cases xx with
   | live e sz' rows =>
    simp only [hx] at h;obtain ⟨ad,c',hv,hR⟩:=(hM.row r _ hx).rds;rw [he] at hv;injection hv with h1 _ _
    exact key sz' rows (h1 ▸ hR) h
   | frz sz' rows =>
    simp only [hx] at h;obtain ⟨ad,c',hv,hR⟩:=Rd.rds (hM.row r _ hx);rw [he] at hv;injection hv with h1 _ _
    exact key sz' rows (h1 ▸ hR) h
   | gone=>simp [hx,MA.run] at h
 | fadr cells b off u hF hx hr =>
  refine fin (cells.map A.t) b off 0 rfl (λj y hy=>?_) h;rw [zQV,zWk] at hy;obtain ⟨z,hz,rfl⟩:=hy;exact ⟨_,hx j z hz,.t _ _ (hr j z hz)⟩
 | exa s cells b off u hs hD hx hr =>
  refine fin (cells.map (qhf s)) b off 0 rfl (λj y hy=>?_) h;rw [zQV,zWk] at hy;obtain ⟨z,hz,rfl⟩:=hy;exact qfx hM hs hD (hx j z hz) (hr j z hz)
 | _=>exact (aQ h).elim
theorem FJ{α:Type}{l cs:List α}{off:Nat}(h:off+cs.length<=l.length):(spl l off cs).length=l.length /\
  ∀ (j:Nat) (y:α),(spl l off cs)[j]?=ac y->(off<=j/\cs[j - off]?=ac y)\/(l[j]?=ac y/\(j < off\/off+cs.length<=j)):=by
 unfold spl;refine ⟨by simp; omega,λj y hy=>?_⟩;rw [zQJ,zWx] at hy
 split at hy
 ·rename_i hj;simp at hj;rw [zQy,if_pos al] at hy;exact .inr ⟨hy,.inl al⟩
 ·rename_i hj;have ht:(l.take off).length=off:=by simp; omega
  rw [ht] at hj hy;rw [zWx] at hy
  split at hy
  ·exact .inl ⟨by omega,hy⟩
  ·rename_i hj2;rw [zQx] at hy;refine .inr ⟨?_,.inr al⟩;rw [<- hy]
   congr 1
   omega
theorem qep{o:Oper}{t:TypeId}{y z:Operand}{x v u:A}{n:Nat}(hS:lj E g n st a w)(ho:o.op=.store t y z)(hv:VR w g st.O st.R v (a.eval y))(hu:VR w g st.O st.R u (a.eval z))
  (h:(HZ P t v u).run st=ac (x,st')):∃ v' g' w',Ji P o a w v' w'/\D1 E g st w x st' v' g' w':=by
 have hM:=hS.mem;unfold HZ at h
 split at h
 rotate_left
 ·exact (aQ h).elim
 rename_i nn hn;obtain ⟨i,hi,hsz⟩:=nZ hn
 split at h
 rotate_left
 ·exact (aQ h).elim
 rename_i hl;obtain ⟨hl,h1⟩:=hl;obtain ⟨hc1,hc2,hc3⟩:=hu.cells hM h1;have run:∀ (b off:Nat) (arr:Array Value) (e:TypeId),a.eval y=.pointer (ac ⟨b,off,cl⟩)->w.heap[b]?=ac (.cells arr e (0,0))->off+nn<=arr.size ->
   Ji P o a w undef (w.setRow b (arr.toList.take off++(a.eval z).cells.toList++arr.toList.drop (off+nn)).toArray):=by
  intro b off arr e he hh hle;refine .inr ⟨?_,rfl⟩;have hst:=run_storeCells_at P b off e (a.eval z).cells.toList 0 arr w hh (by simp [hc1,hl]; omega) hc2;simp only [zYV,zQg,hc1,hl] at hst;simp [execOp,ho,Instr.storeAt,Instr.sureAddr,he,storeVar,sizeOf,typeInfo,hi,hsz,hc1,hl,hst]
 generalize hyy:a.eval y=uu at hv run
 cases hv with
 | obj s off hs =>
  simp only [MA.run] at h
  cases hc:st.ob s with
  | none=>simp [hc,MA.run] at h
  | some cells =>
   simp only [hc] at h
   split at h
   rotate_left
   ·exact (aQ h).elim
   rename_i hle;simp only [MA.run,Option.some.injEq,Prod.mk.injEq] at h;obtain ⟨rfl,rfl⟩:=h;obtain ⟨arr,e,hh,hal,hav,_⟩:=hM.ob s cells hc;have hle':off+u.cells.length<=cells.length:=by omega
   have hsp:=FJ (cs:=u.cells) hle';have hsv:=FJ (l:=arr.toList) (cs:=(a.eval z).cells.toList) (off:=off) f6;have hrow:w.setRow (g.ob s) (arr.toList.take off++(a.eval z).cells.toList++arr.toList.drop (off+nn)).toArray=w.setRow (g.ob s) (spl arr.toList off (a.eval z).cells.toList).toArray:=by
    unfold spl; rw [zQg,hc1,hl]
   have hD:=run (g.ob s) off arr e rfl hh al;rw [hrow] at hD;have hcell:∀ (j:Nat) (y:A),(spl cells off u.cells)[j]?=ac y->y.one=gi/\∃ v,(spl arr.toList off (a.eval z).cells.toList).toArray[j]?=ac v/\VR w g st.O st.R y v:=by
    intro j y hy;simp only [zVg];rcases hsp.2 j y hy with ⟨hj,hy⟩ | ⟨hy,hj⟩
    ·obtain ⟨ho1,q,hq,hr⟩:=hc3 _ y hy;refine ⟨ho1,q,?_,hr⟩;have hjl:j - off < (a.eval z).cells.toList.length:=by
      have:=(Dp.1 hq).1; simpa using this
     unfold spl;have hto:(arr.toList.take off).length=off:=by simp; omega
     rw [zQJ,zQX al,hto,zQW hjl]
     simpa using hq
    ·obtain ⟨ho1,q,hq,hr⟩:=hav j y hy;refine ⟨ho1,q,?_,hr⟩;have hjl:j < arr.size:=(Dp.1 hq).1;unfold spl;rcases hj with hj | hj
     ·rw [zQJ,zQW f6,zQy,if_pos hj]
      simpa using hq
     ·have:(arr.toList.take off++(a.eval z).cells.toList).length=off+nn:=by simp; omega
      rw [zQX al,this,zQx,zQg,hc1,hl];rw [show off+nn+(j - (off+nn))=j by omega]
      simpa using hq
   obtain ⟨hM',hE⟩:=hM.set_ob (w':=w.setRow (g.ob s) (spl arr.toList off (a.eval z).cells.toList).toArray) ⟨rfl,rfl,rfl,by simp [World.setRow]⟩ s cells (spl cells off u.cells) (spl arr.toList off (a.eval z).cells.toList).toArray e hc
    (setRow_heap w _ arr _ e _ hh) (λb _ hb=>setRow_other w _ b _ hb) (by simp only [zVk]; rw [hsv.1,hsp.1]; simp; omega) hcell
   exact ⟨_,_,_,hD,hM',.undef _,hE,rfl⟩
 | elem r sz ix off b n' c hr he =>
  obtain ⟨ts,st1,g1,hM1,hE1,ht1,h,htl,hts⟩:=Ob hM (vs:=(a.eval z).cells.toList) (by rw [zQg]; exact hc1) (λj x hj=>by
   obtain ⟨_,q,hq,hr⟩:=hc3 j x hj;exact ⟨q,by simpa using hq,hr⟩) h
  simp only [MA.run] at h
  cases hx:st1.rw r with
  | none=>simp [hx,MA.run] at h
  | some xx =>
   cases xx with
   | gone=>simp [hx,MA.run] at h
   | frz sz' rows=>simp [hx,MA.run] at h
   | live e sz' rows =>
    simp only [hx] at h
    split at h
    rotate_left
    ·exact (aQ h).elim
    rename_i hsz';subst hsz'
    split at h
    rotate_left
    ·exact (aQ h).elim
    rename_i row hrow
    split at h
    rotate_left
    ·exact (aQ h).elim
    rename_i hle;simp only [MA.run,Option.some.injEq,Prod.mk.injEq] at h;obtain ⟨rfl,rfl⟩:=h;obtain ⟨inner,hown,hlen,hel,hfree⟩:=hM1.row r _ hx;have hgr:g1.rw r=.slice (ac ⟨b,0,cl⟩) n' c:=by rw [(hE1.R r hr).2]; exact he
    have hrl:row.length=sz:=hlen ix row hrow;have hixl:ix < rows.length:=(ln.1 hrow).1;have hseg:(ix+1)*sz<=rows.length*sz:=zWH _ hixl;rw [zYw] at hseg;rcases hown.2 with ⟨hv,_⟩ | ⟨b',cap,cur,hv,_,hh,hnc,hcm,hcs,htake⟩
    ·rw [hgr] at hv; cases hv
    ·rw [hgr] at hv;injection hv with hb1 hn1 hc1'
     injection hb1 with hb1
     injection hb1 with hb1 _ _
     subst hb1 hn1 hc1';have hmul:rows.length*sz<=c*sz:=zWH _ hnc;have htl2:ts.length=nn:=by omega
     have hD:=run b (ix*sz+off) cur e rfl hh al;have hvl:(a.eval z).cells.toList.length=nn:=by simp; omega
     have hD':Ji P o a w undef (w.setRow b (spl cur.toList (ix*sz+off) (a.eval z).cells.toList).toArray):=by
      unfold spl; rw [hvl]; exact hD
     have hsp:=FJ (l:=inner) (cs:=(a.eval z).cells.toList) (off:=ix*sz+off) (by rw [hown.1]; omega);have hst:=FJ (l:=row) (cs:=ts) (off:=off) al;have htk:(spl cur.toList (ix*sz+off) (a.eval z).cells.toList).take (rows.length*sz)=spl inner (ix*sz+off) (a.eval z).cells.toList:=by
      rw [<- htake]
      apply zYy
      intro k;unfold spl;simp only [zQJ,zQy,zWx,zQk,zQx,zQg,hvl]
      repeat' split
      all_goals first | rfl | omega | (congr 1; omega) | skip
     have hRow:p5 E.w0 (w.setRow b (spl cur.toList (ix*sz+off) (a.eval z).cells.toList).toArray) E.X g1.F (g1.rw r) (.live e sz (rows.set ix (spl row off ts))):=by
      refine ⟨spl inner (ix*sz+off) (a.eval z).cells.toList,⟨by rw [hsp.1,hown.1,zXk],.inr ⟨b,c,_,by rw [hgr,zXk],zZv _,setRow_heap w _ cur _ e _ hh,by rw [zXk]; exact hnc,hcm,?_,by rw [zXk]; exact htk⟩⟩,λi row' hi=>?_,λi row' j x hi hj=>?_,hfree⟩
      ·have:=FJ (l:=cur.toList) (cs:=(a.eval z).cells.toList) (off:=ix*sz+off) (by rw [hvl]; simp; omega);simp only [zVk]; rw [this.1]; simpa using hcs
      ·rw [zXy] at hi
       split at hi
       ·rename_i h0; cases hi; rw [hst.1]; exact hrl
       ·exact hlen i row' hi
      ·have hS1:ER g1.F w (w.setRow b (spl cur.toList (ix*sz+off) (a.eval z).cells.toList).toArray):=λk hk=>setRow_other w b k _ (λe=>(hfree b (by rw [hgr]; rfl)).1 (e ▸ hk));have hjs:j < sz:=by
        have h3:=(ln.1 hj).1;rw [zXy] at hi
        split at hi
        ·rename_i h0; cases hi; rw [hst.1] at h3; omega
        ·rw [hlen i row' hi] at h3; exact h3
       have hio:∀ k,k < rows.length->(k=ix\/(k+1)*sz<=ix*sz\/(ix+1)*sz<=k*sz):=λk _=>by
        rcases Nat.lt_trichotomy k ix with h5 | h5 | h5
        ·exact .inr (.inl (zWH _ h5))
        ·exact .inl h5
        ·exact .inr (.inr (zWH _ h5))
       rw [zXy] at hi
       split at hi
       ·rename_i hie
        cases hi
        subst hie;rcases hst.2 j x hj with ⟨h6,h7⟩ | ⟨h6,h7⟩
        ·obtain ⟨q,hq,_,hr⟩:=hts _ x h7;refine ⟨q,?_,hr.mono hS1 (λ_ h=>h)⟩;have h8:j - off < (a.eval z).cells.toList.length:=(ln.1 hq).1;unfold spl;rw [zQJ,zQX f6,zQW qfs];rw [<- hq]
         congr 1
         simp [hown.1]; omega
        ·obtain ⟨q,hq,hr⟩:=hel _ row j x hrow h6;refine ⟨q,?_,hr.mono hS1 (λ_ h=>h)⟩;unfold spl;rcases h7 with h7 | h7
         ·rw [zQJ,zQW qfs,zQy,if_pos al];exact hq
         ·rw [zQX qfs,zQx,<- hq]
          congr 1
          simp [hown.1]; omega
       ·rename_i hie;obtain ⟨q,hq,hr⟩:=hel i row' j x hi hj;refine ⟨q,?_,hr.mono hS1 (λ_ h=>h)⟩;have hil:i < rows.length:=(ln.1 hi).1;have h9:=hio i hil;rw [zYw,zYw] at h9;unfold spl;rcases h9 with h9 | h9 | h9
        ·exact absurd h9.symm hie
        ·rw [zQJ,zQW qfs,zQy,if_pos al];exact hq
        ·rw [zQX qfs,zQx,<- hq]
         congr 1
         simp [hown.1]; omega
     obtain ⟨hM',hE'⟩:=hM1.set_row (w':=w.setRow b (spl cur.toList (ix*sz+off) (a.eval z).cells.toList).toArray) ⟨rfl,rfl,rfl,by simp [World.setRow]⟩ r _ e sz (rows.set ix (spl row off ts)) hx ⟨e,sz,rows,hx⟩
      (λk _ hk=>setRow_other w b k _ (λe=>hk (by rw [hgr]; simp [Value.ownBlock,e]))) hRow
     exact ⟨_,_,_,hD',hM',.undef _,hE1.trans hE',ht1.tm⟩
 | exa s cells b off q hs hD hx hr =>
  cases s with
  | false=>exact (aQ h).elim
  | true =>
   simp only at h
   split at h
   rotate_left
   ·exact (aQ h).elim
   rename_i hwk;obtain ⟨rfl,rfl⟩:=gK h;unfold qjq at hwk
   split at hwk
   rotate_left
   ·cases hwk
   rename_i cs0 zc cs t0 hut;obtain ⟨arr0,arr,e,hd0,hh,hsz2,hkq⟩:=hM.nowK hs hD;have hx0:=hx 0 zc rfl;have hr0:=hr 0 zc rfl;rw [zYV] at hx0;simp only [World.cell?,hd0,Option.isSome_none,zWQ,if_false] at hx0;obtain ⟨v0,hv0,hk0⟩:=hkq off _ hx0;have hr1:=hr0.kq hk0;obtain ⟨_,uz,huz,hrz⟩:=hc3 0 (.t t0) (by rw [hut]; rfl);have hnn:nn=1:=by rw [<- hl,hut]; rfl
   have hoff:off < arr.size:=(Dp.1 hv0).1;have hD':=run b off arr e rfl hh al;have hvl:(a.eval z).cells.toList=[uz]:=by
    have h1:(a.eval z).cells.toList.length=1:=by simp; omega
    match hq:(a.eval z).cells.toList,h1 with
    | [y],_ =>
     have:(a.eval z).cells.toList[0]?=ac uz:=by simpa using huz
     rw [hq] at this
     simpa using this
   have hq0:Kq v0 uz:=by
    cases hrz with
    | t _ _ hrz =>
     cases zc <;> cases t0 <;> simp [qjp] at hwk
     ·subst hwk
      cases hrz
      cases hr1
      exact .int _ _ _
     ·cases hrz
      cases hr1
      exact .bool _ _
   have hKS:∀ k,g.D k->KS w (w.setRow b (arr.toList.take off++(a.eval z).cells.toList++arr.toList.drop (off+nn)).toArray) k:=by
    intro k hk
    by_cases he:k=b
    ·subst he;refine ⟨arr,_,e,hh,setRow_heap w _ arr _ e _ hh,by simp [hvl,hnn]; omega,λi v hv=>?_⟩;have hi:i < arr.size:=(Dp.1 hv).1
     by_cases hio:i=off
     ·subst hio;rw [hv0] at hv
      cases hv
      refine ⟨uz,?_,hq0⟩;simp only [zVg,zQJ,hvl];rw [zQX f6];simp [zXj (Nat.le_of_lt hoff)]
     ·refine ⟨v,?_,.refl v⟩;simp only [zVg,hvl];rcases Nat.lt_or_gt_of_ne hio with h5 | h5
      ·rw [zQJ,zQW f6,zQy,if_pos h5]
       simpa using hv
      ·rw [zQX f6,zQx];rw [<- hv];simp only [zQH,zQk,zQg,zXj (Nat.le_of_lt hoff),zQw,zXx,hnn,zWz]
       congr 1
       omega
    ·obtain ⟨_,y,e',_,h2,_⟩:=hM.nowK hs hk;exact (KS.refl ⟨y,e',h2⟩).same (setRow_other w b k _ he)
   obtain ⟨hM',hE'⟩:=hM.stepD hs (w':=w.setRow b (arr.toList.take off++(a.eval z).cells.toList++arr.toList.drop (off+nn)).toArray) ⟨rfl,rfl,rfl,by simp [World.setRow]⟩
    (λk _ hk=>setRow_other w b k _ (λe=>hk (e ▸ hD))) hKS
   exact ⟨_,_,_,hD',hM',.undef _,hE',rfl⟩
 | _=>exact (aQ h).elim
end
section
variable {P:Program} {E:En} {g:Gh} {st st':St} {a:Act} {w:World}
theorem eB{o:Oper}{x:A}{v:Value}(hM:io E g st w)(hr:(execOp a.eval o).run P w=.ok (.value v) w)(hv:VR w g st.O st.R x v){y:A}(h:MA.run (.ret x) st=ac (y,st')) :
  ∃ u g' w',Ji P o a w u w'/\D1 E g st w y st' u g' w':=⟨v,g,w,.inl hr,UQ hM h hv⟩
theorem R4{s:TypeId}{f off:Nat}{t:TypeId}(h:N4 P s f=ac (off,t)) :
  ∃ fs fl n i,P.underlying s=ac (.struct fs)/\fs[f]?=ac fl/\fl.offset=off/\fl.type=t/\jX P t=ac n/\n≠0/\P.info? t=ac i/\i.size=n:=by
 unfold N4 at h
 split at h
 rotate_left
 ·cases h
 rename_i fs hu
 split at h
 rotate_left
 ·cases h
 rename_i fl hf
 split at h
 rotate_left
 ·cases h
 rename_i n hn
 split at h
 ·cases h
 rename_i h0;simp only [Option.some.injEq,Prod.mk.injEq] at h;obtain ⟨rfl,rfl⟩:=h;obtain ⟨i,hi,hs⟩:=nZ hn;exact ⟨fs,fl,n,i,hu,hf,rfl,rfl,hn,h0,hi,hs⟩
theorem R5{w:World}:∀ {fs:List Field} {l:List (Nat×Nat)},N5 P fs=ac l->(fs.mapM (m:=Sem) λf=>do pure (f.offset,<- sizeOf f.type)).run P w=.ok l w
 | [],l,h=>by simp [N5] at h; subst h; simp
 | f :: r,l,h=>by
  unfold N5 at h
  split at h
  ·rename_i n l' hn hl
   cases h
   obtain ⟨i,hi,hs⟩:=nZ hn;have h1:(sizeOf f.type).run P w=.ok n w:=by simp [sizeOf,typeInfo,hi,hs]
   have h2:=R5 (w:=w) hl;simp only [List.mapM_cons,Sem.run_bind,h1,Result.andThen_ok,Sem.run_pure,h2]
  ·cases h
theorem X3(cs:List Value)(off:Nat):∀ (k:Nat) (arr:Array Value),off+k+cs.length<=arr.size ->
  ((cs.zipIdx k).foldl (λcs (x:Value×Nat)=>cs.setIfInBounds (off+x.2) x.1) arr).toList=spl arr.toList (off+k) cs:=by
 induction cs with
 | nil=>intro k arr h; simp [spl]
 | cons c cs ih =>
  intro k arr h;simp only [List.zipIdx_cons,zYG];simp only [zQw] at h;rw [ih (k+1) _ f6]
  apply zYy
  intro j;unfold spl;simp only [Array.toList_setIfInBounds,zQJ,zWx,zQk,zXk,zQg,zQy,zQx,zXy,zQw]
  repeat' split
  all_goals first | rfl | omega | skip
  all_goals first
   | (congr 1; omega)
   | (rw [show j - min (off+k) arr.size=0 by omega]; rfl)
   | (rw [show j - min (off+k) arr.size=(j - min (off+(k+1)) arr.size)+1 by omega]; rfl)
   | skip
def Cs(w:World)(g:Gh)(O R:Nat->Prop)(cs:Os)(arr:Array Value):Prop :=
 arr.size=cs.length/\∀ (j:Nat) (x:A),cs[j]?=ac x->x.one=gi/\∃ v,arr[j]?=ac v/\VR w g O R x v
theorem Cs.spl{cs ds:Os}{arr brr crr:Array Value}{off:Nat}{O R:Nat->Prop}(h:Cs w g O R cs arr)(k:Cs w g O R ds brr)(hle:off+ds.length<=cs.length)(he:crr.toList=spl arr.toList off brr.toList):Cs w g O R (Go.Tm.spl cs off ds) crr:=by
 have h1:=FJ (cs:=ds) hle;have hb:brr.toList.length=ds.length:=by rw [zQg]; exact k.1
 have ha:arr.toList.length=cs.length:=by rw [zQg]; exact h.1
 have h2:=FJ (l:=arr.toList) (cs:=brr.toList) (off:=off) al;have hA:arr.size=cs.length:=h.1;have hB:brr.size=ds.length:=k.1;refine ⟨by rw [h1.1,<- zQg,he,h2.1,ha],λj x hj=>?_⟩;rw [<- zWz,he];rcases h1.2 j x hj with ⟨h3,h4⟩ | ⟨h3,h4⟩
 ·obtain ⟨ho,v,hv,hr⟩:=k.2 _ x h4;refine ⟨ho,v,?_,hr⟩;have hjl:j - off < brr.toList.length:=by rw [hb]; exact (ln.1 h4).1
  have ht:(arr.toList.take off).length=off:=by simp; omega
  unfold Go.Tm.spl;rw [zQJ,zQX al,ht,zQW hjl,zWz];exact hv
 ·obtain ⟨ho,v,hv,hr⟩:=h.2 _ x h3;refine ⟨ho,v,?_,hr⟩;unfold Go.Tm.spl;rcases h4 with h4 | h4
  ·rw [zQJ,zQW f6,zQy,if_pos h4,zWz];exact hv
  ·have:(arr.toList.take off++brr.toList).length=off+ds.length:=by simp; omega
   rw [zQX al,this,zQx,hb,show off+ds.length+(j - (off+ds.length))=j by omega,zWz];exact hv
theorem VR.cs{x:A}{v:Value}(hM:io E g st w)(h:VR w g st.O st.R x v)(h1:x.cells.all A.one=gi):Cs w g st.O st.R x.cells v.cells:=⟨(h.cells hM h1).1,(h.cells hM h1).2.2⟩
theorem qat(hM:io E g st w)(pl:List (Nat×Nat)):∀ {ps:List (Nat×A)} {vs:List (Nat×Value)} {cs cs':Os} {arr:Array Value},XW pl cs ps=ac cs'->vs.length=ps.length ->
  (∀ (i:Nat) (p:Nat×A),ps[i]?=ac p->∃ v,vs[i]?=ac (p.1,v)/\VR w g st.O st.R p.2 v)->Cs w g st.O st.R cs arr->∃ arr',Instr.fill (λi=>pl[i]?) arr vs=ac arr'/\Cs w g st.O st.R cs' arr'
 | [],vs,cs,cs',arr,h,hl,hv,hc=>by
  simp [XW] at h; subst h;have:vs=[]:=zQZ hl;subst this;exact ⟨arr,rfl,hc⟩
 | (f,x) :: ps,vs,cs,cs',arr,h,hl,hv,hc=>by
  unfold XW at h
  split at h
  rotate_left
  ·cases h
  rename_i off n hp
  split at h
  rotate_left
  ·cases h
  rename_i hh;obtain ⟨h1,h2,h3⟩:=hh;obtain ⟨v0,vs,rfl⟩:∃ v vs',vs=v :: vs':=by
   cases vs with
   | nil=>simp at hl
   | cons v vs=>exact ⟨v,vs,rfl⟩
  obtain ⟨v,hv0,hr⟩:=hv 0 _ rfl;simp at hv0;subst hv0;have hcs:=hr.cs hM h3;have hsz:v.cells.size=n:=by rw [hcs.1]; exact h1
  have hfold:(v.cells.zipIdx.foldl (λcs (c,j)=>cs.setIfInBounds (off+j) c) arr).toList=spl arr.toList off v.cells.toList:=by
   have:=X3 v.cells.toList off 0 arr (by have hA:=hcs.1; have hB:=hc.1; rw [zQg]; omega);rw [zYV] at this;rw [<- this]
   congr 1
   rw [<- Array.foldl_toList];simp
  obtain ⟨arr',h4,h5⟩:=qat hM pl h wz5 (λi p hp=>by simpa using hv (i+1) p (by simpa using hp)) (hc.spl hcs al hfold);refine ⟨arr',?_,h5⟩;have hle:¬ off+v.cells.size > arr.size:=by rw [hsz,hc.1]; omega
  simp only [Instr.fill,hp,hsz,ne_eq,not_true_eq_false,decide_false,Bool.false_or];rw [if_neg (by rw [<- hsz]; simpa using hle)];exact h4
theorem X4{ev:Operand->Option A}{parts:Array (Nat×Operand)}{ps:List (Nat×A)}(h:eQ (parts.toList.map λ(i,x)=>(ev x).map λv=>(i,v))=ac ps)(hev:∀ x y,ev x=ac y->VR w g st.O st.R y (a.eval x)) :
  (parts.map λ(i,x)=>(i,a.eval x)).toList.length=ps.length/\∀ (i:Nat) (p:Nat×A),ps[i]?=ac p->∃ v,(parts.map λ(i,x)=>(i,a.eval x)).toList[i]?=ac (p.1,v)/\VR w g st.O st.R p.2 v:=by
 obtain ⟨h1,h2⟩:=zJ h;refine ⟨by simp [<- h1],λi p hp=>?_⟩;obtain ⟨⟨k,x⟩,hx,hf⟩:=h2 i p hp;simp only [zWk] at hf;obtain ⟨y,hy,rfl⟩:=hf;rw [zWz] at hx;exact ⟨a.eval x,by simp [hx],hev x y hy⟩
theorem Jz{t:TypeId}{z:Os}(h:AM P t=ac z):∃ i zv,P.info? t=ac i/\i.zero=ac zv/\∀ (w:World) (g:Gh) (O R:Nat->Prop),Cs w g O R z zv.cells:=by
 obtain ⟨i,zv,h1,h2,h3,h4⟩:=X1 h;exact ⟨i,zv,h1,h2,λw g O R=>⟨h3,h4 w g O R⟩⟩
theorem Cs.agg{cs:Os}{arr:Array Value}{O R:Nat->Prop}(h:Cs w g O R cs arr):VR w g O R (.agg cs) (.agg arr):=by
 have:=VR.agg (w:=w) (g:=g) (O:=O) (R:=R) cs arr.toList (by rw [zQg]; exact h.1.symm) (λi x v hx hv=>by
  obtain ⟨_,u,hu,hr⟩:=h.2 i x hx;rw [zWz,hu] at hv
  cases hv
  exact hr)
 simpa using this
theorem qeq{o:Oper}{t:TypeId}{parts:Array (Nat×Operand)}{z:Os}{pl:List (Nat×Nat)}{ps:List (Nat×A)}{cs:Os}{x:A}{n:Nat}(hS:lj E g n st a w)(ho:o.op=.build t parts)
  (hz:AM P t=ac z) (hp:UL P t=ac pl) (hps:eQ (parts.toList.map λ(i,x)=>(st.eval x).map λv=>(i,v))=ac ps) (hf:XW pl z ps=ac cs) (h:MA.run (.ret (.agg cs)) st=ac (x,st')) :
  ∃ u g' w',Ji P o a w u w'/\D1 E g st w x st' u g' w':=by
 obtain ⟨i,zv,hi,hzv,hC⟩:=Jz hz;obtain ⟨h1,h2⟩:=X4 (a:=a) hps (λx y h=>cm hS h);obtain ⟨arr',h3,h4⟩:=qat hS.mem pl hf h1 h2 (hC w g _ _);unfold UL at hp
 split at hp
 rotate_left
 ·cases hp
 rename_i fs hu;refine eB hS.mem ?_ h4.agg h;have hm:(fs.mapM (m:=Sem) λf=>do pure (f.offset,<- sizeOf f.type)).run P w=.ok pl.toArray w:=by
  rw [<- zWy (xs:=fs),List.mapM_toArray];have:=R5 (w:=w) hp;simp only [Sem.run_map,this,Result.andThen_ok]
 have h3':Instr.fill (λi=>pl.toArray[i]?) zv.cells (parts.map λ(i,x)=>(i,a.eval x)).toList=ac arr':=by simpa using h3
 simp only [execOp,ho,Instr.build,zeroValue,typeInfo,Sem.run_bind,program,Sem.run,hi,hzv,Sem.run_pure,Result.andThen_ok,run_underlying hu,hm,h3']
end
section
variable {P:Program} {E:En} {g:Gh} {st st':St} {a:Act} {w:World}
theorem qer{r e sz:Nat}{rows:it}{x:A}(h:(DI r e sz rows).run st=ac (x,st')):st.rw r=cl/\x=.own r/\st'={ st with rw:=gB st.rw r (ac (.live e sz rows)) }:=by
 unfold DI at h;simp only [MA.run] at h
 cases hx:st.rw r with
 | some y=>simp [hx,MA.run] at h
 | none =>
  simp only [hx,MA.run,Option.some.injEq,Prod.mk.injEq] at h;exact ⟨rfl,h.1.symm,h.2.symm⟩
theorem Mu{r e sz:Nat}{rows:it}{x:A}{w':World}(hM:io E g st w)(h:(DI r e sz rows).run st=ac (x,st'))(hd:Value)(hc:vu w w')(p:Nat->Prop)
  (hb:∀ b,b < w.heap.size->¬ p b->w'.heap[b]?=w.heap[b]?) (hdp:∀ b,hd.ownBlock=ac b->p b) (hpX:∀ b,b < E.w0.heap.size->p b->E.X b)
  (hfree:∀ b,p b->¬ g.F b/\(∀ s,st.O s->g.ob s≠b)/\(∀ r',st.L r'->(g.rw r').ownBlock≠ac b))
  (hrow:p5 E.w0 w' E.X g.F hd (.live e sz rows)):∃ g',D1 E g st w x st' hd g' w':=by
 obtain ⟨hr,rfl,rfl⟩:=qer h;obtain ⟨hM',hE⟩:=hM.new_row hc r hr hd e sz rows p hb hdp hpX hfree hrow;refine ⟨_,hM',?_,hE,rfl⟩;have:=VR.own (w:=w') (g:={ g with rw:=gB g.rw r hd }) (O:=({ st with rw:=gB st.rw r (ac (.live e sz rows)) }:St).O) (R:=({ st with rw:=gB st.rw r (ac (.live e sz rows)) }:St).R) r (XZ.2 (.inl rfl))
 simpa only [eM] using this
theorem Qt{r e sz:Nat}{rows:it}{x:A}{w':World}(hM:io E g st w)(h:(DI r e sz rows).run st=ac (x,st'))(hd:Value)(hc:vu w w')
  (hb:∀ b,b < w.heap.size->hd.ownBlock≠ac b->w'.heap[b]?=w.heap[b]?)
  (hfree:∀ b,hd.ownBlock=ac b->¬ g.F b/\(∀ s,st.O s->g.ob s≠b)/\(∀ r',st.L r'->(g.rw r').ownBlock≠ac b))
  (hrow:p5 E.w0 w' E.X g.F hd (.live e sz rows)):∃ g',D1 E g st w x st' hd g' w' :=
 Mu hM h hd hc (λb=>hd.ownBlock=ac b) hb (λ_ h=>h) (λb h1 hp=>by
  obtain ⟨_,_,_,_,hX⟩:=hrow;rcases (hX b hp).2 with h2 | h2
  ·omega
  ·exact h2) hfree hrow
theorem AN(hM:io E g st w){b:Nat}(hb:w.heap.size<=b):¬ g.F b/\(∀ s,st.O s->g.ob s≠b)/\(∀ r',st.L r'->(g.rw r').ownBlock≠ac b) :=
 ⟨λh=>by have:=(hM.F b h).1; omega,λs hs he=>by have:=hM.ob_lt hs; omega,λr' hr' he=>by have:=hM.row_lt hr' he; omega⟩
structure HT (w:World) (F:Nat->Prop) (sz:Nat) (rows:it) (arr:List Value):Prop where
 size:arr.length=rows.length*sz
 len:∀ (i:Nat) (row:Or),rows[i]?=ac row->row.length=sz
 rd:∀ (i:Nat) (row:Or) (j:Nat) (x:T),rows[i]?=ac row->row[j]?=ac x->∃ u,arr[i*sz+j]?=ac u/\u.oneCell'=gi/\Rd w F x u
theorem HT.mono{F F':Nat->Prop}{sz:Nat}{rows:it}{arr:List Value}(h:HT w F sz rows arr){w':World}(hs:ER F w w')(hF:∀ b,F b->F' b):HT w' F' sz rows arr :=
 ⟨h.size,h.len,λi row j x h1 h2=>let ⟨u,hu,ho,hr⟩:=h.rd i row j x h1 h2; ⟨u,hu,ho,hr.mono hs hF⟩⟩
theorem qhi{i j sz:Nat}(h:j < sz):(i*sz+j) % sz=j:=by
 rw [Nat.add_comm,Nat.add_mul_mod_self_right,Nat.mod_eq_of_lt h]
theorem qfz{i j sz n:Nat}(hi:i < n)(hj:j < sz):i*sz+j < n*sz:=by
 have:(i+1)*sz<=n*sz:=zWH _ hi;rw [zYw] at this;omega
theorem qdJ{F:Nat->Prop}{ts:Or}{zs:List Value}(hl:zs.length=ts.length)(h:∀ (j:Nat) (t:T),ts[j]?=ac t->∃ u,zs[j]?=ac u/\u.oneCell'=gi/\Rd w F t u)
  (n:Nat) (arr:List Value) (ha:arr.length=n*ts.length) (hx:∀ k,k < n*ts.length->arr[k]?=zs[k % ts.length]?):HT w F ts.length (zQG n ts) arr:=by
 refine ⟨by simpa using ha,λi row hi=>?_,λi row j x hi hj=>?_⟩
 ·have:=zQQ hi;rw [List.mem_replicate] at this;rw [this.2]
 ·have hr:=zQQ hi;rw [List.mem_replicate] at hr;have hil:i < n:=by have:=(ln.1 hi).1; simpa using this
  rw [hr.2] at hj;have hjl:j < ts.length:=(ln.1 hj).1;obtain ⟨u,hu,ho,hrd⟩:=h j x hj;refine ⟨u,?_,ho,hrd⟩;rw [hx _ (qfz hil hjl),qhi hjl];exact hu
theorem HT.set{F:Nat->Prop}{sz:Nat}{rows:it}{arr arr':List Value}{ts:Or}{vs:List Value}(h:HT w F sz rows arr)(i0:Nat)(hi0:i0 < rows.length)(hl:ts.length=sz)(hvl:vs.length=sz)
  (hv:∀ (j:Nat) (t:T),ts[j]?=ac t->∃ u,vs[j]?=ac u/\u.oneCell'=gi/\Rd w F t u) (he:arr'=Go.Tm.spl arr (i0*sz) vs):HT w F sz (rows.set i0 ts) arr':=by
 subst he;have hseg:(i0+1)*sz<=rows.length*sz:=zWH _ hi0;rw [zYw] at hseg;have hsp:=FJ (l:=arr) (cs:=vs) (off:=i0*sz) (by rw [h.size,hvl]; exact hseg);refine ⟨by rw [hsp.1,h.size,zXk],λi row hi=>?_,λi row j x hi hj=>?_⟩
 ·rw [zXy] at hi
  split at hi
  ·cases hi; exact hl
  ·exact h.len i row hi
 ·rw [zXy] at hi
  split at hi
  ·rename_i h0
   cases hi
   subst h0;obtain ⟨u,hu,ho,hr⟩:=hv j x hj;refine ⟨u,?_,ho,hr⟩;have hjl:j < vs.length:=(ln.1 hu).1;have ht:(arr.take (i0*sz)).length=i0*sz:=by rw [zQk,h.size]; omega
   unfold Go.Tm.spl;rw [zQJ,zQX al,ht,zQW al,<- hu]
   congr 1
   omega
  ·rename_i h0;obtain ⟨u,hu,ho,hr⟩:=h.rd i row j x hi hj;refine ⟨u,?_,ho,hr⟩;have hj':j < sz:=by rw [<- h.len i row hi]; exact (ln.1 hj).1
   unfold Go.Tm.spl;rcases Nat.lt_or_ge i i0 with h5 | h5
   ·have:=qfz h5 hj';rw [zQJ,zQW (by rw [zQk,h.size]; omega),zQy,if_pos al];exact hu
   ·have h6:(i0+1)*sz<=i*sz:=zWH _ al;rw [zYw] at h6;have ht:(arr.take (i0*sz)++vs).length=i0*sz+sz:=by rw [zQH,zQk,h.size,hvl]; omega
    rw [zQX al,ht,zQx,hvl,show i0*sz+sz+(i*sz+j - (i0*sz+sz))=i*sz+j by omega];exact hu
theorem X5{α:Type}{lb:IO}{sz:Nat}:∀ {ps:List (Nat×A)} {vs:List (Nat×Value)} {rows:it} {k:it->MA α} {arr:Array Value} {st:St} {g:Gh} {y:α},io E g st w->(UM lb sz rows ps k).run st=ac (y,st')->vs.length=ps.length ->
  (∀ (i:Nat) (p:Nat×A),ps[i]?=ac p->∃ v,vs[i]?=ac (p.1,v)/\VR w g st.O st.R p.2 v)->HT w g.F sz rows arr.toList ->
  ∃ rows' st1 g1 arr',io E g1 st1 w/\vO w w g g1 st.O st.R st1.O st1.R/\Mt g st g1 st1/\(k rows').run st1=ac (y,st')/\Instr.fill (λi=>ac (i*sz,sz)) arr vs=ac arr'/\HT w g1.F sz rows' arr'.toList/\rows'.length=rows.length
 | [],vs,rows,k,arr,st,g,y,hM,h,hl,hv,hc=>by
  have:vs=[]:=zQZ hl;subst this;exact ⟨rows,st,g,arr,hM,vO.refl _ _ _ _,Mt.refl _ _,h,rfl,hc,rfl⟩
 | (i,x) :: ps,vs,rows,k,arr,st,g,y,hM,h,hl,hv,hc=>by
  unfold UM at h
  split at h
  rotate_left
  ·exact (aQ h).elim
  rename_i hh;obtain ⟨h1,h2⟩:=hh;obtain ⟨v0,vs,rfl⟩:∃ v vs',vs=v :: vs':=by
   cases vs with
   | nil=>simp at hl
   | cons v vs=>exact ⟨v,vs,rfl⟩
  obtain ⟨v,hv0,hr⟩:=hv 0 _ rfl;simp at hv0;subst hv0
  -- all its cells are of one cell: else toTs fails
  have hone:∀ (l:Os) (st:St) (k:Or->MA α),(fg l k).run st=ac (y,st')->l.all A.one=true:=by
   intro l
   induction l with
   | nil=>intro _ _ _; rfl
   | cons q l ih =>
    intro st k h;simp only [fg] at h
    cases q with
    | t x=>exact (by show (A.one _ && l.all A.one)=gi; rw [ih _ _ h]; rfl)
    | nil=>exact (by show (A.one _ && l.all A.one)=gi; rw [ih _ _ h]; rfl)
    | own r =>
     simp only [A.toT,MA.run] at h
     split at h
     ·show (A.one _ && l.all A.one)=gi; rw [ih _ _ h]; rfl
     ·show (A.one _ && l.all A.one)=gi; rw [ih _ _ h]; rfl
     ·exact (aQ h).elim
    | _=>exact (aQ h).elim
  have hcs:=hr.cs hM (qeo (hone _ _ _ h));obtain ⟨ts,st1,g1,hM1,hE1,ht1,h4,htl,hts⟩:=Ob hM (vs:=v.cells.toList) (by rw [zQg]; exact hcs.1) (λj x hj=>by
   obtain ⟨_,q,hq,hr⟩:=hcs.2 j x hj;exact ⟨q,by simpa using hq,hr⟩) h
  have hvs:v.cells.size=sz:=by rw [hcs.1]; exact h1
  have hseg:(i+1)*sz<=rows.length*sz:=zWH _ h2;rw [zYw] at hseg;have hasz:arr.size=rows.length*sz:=by rw [<- zQg]; exact hc.size
  have hfold:(v.cells.zipIdx.foldl (λcs (c,j)=>cs.setIfInBounds (i*sz+j) c) arr).toList=spl arr.toList (i*sz) v.cells.toList:=by
   have:=X3 v.cells.toList (i*sz) 0 arr qiJ;rw [zYV] at this;rw [<- this]
   congr 1
   rw [<- Array.foldl_toList];simp
  obtain ⟨rows',st2,g2,arr',hM2,hE2,ht2,h5,h6,h7,h8⟩:=X5 (vs:=vs) (arr:=v.cells.zipIdx.foldl (λcs (c,j)=>cs.setIfInBounds (i*sz+j) c) arr) hM1 h4 wz5
   (λi p hp=>by
    obtain ⟨u,hu,hr⟩:=hv (i+1) p (by simpa using hp);exact ⟨u,by simpa using hu,hr.mono hE1⟩) ((hc.mono hE1.same hE1.F).set i h2 al (by rw [zQg]; exact hvs) hts hfold)
  refine ⟨rows',st2,g2,arr',hM2,hE1.trans hE2,ht1.trans ht2,h5,?_,h7,by rw [h8,zXk]⟩;have hle:¬ i*sz+sz > arr.size:=by omega
  simp only [Instr.fill,hvs,ne_eq,not_true_eq_false,decide_false,Bool.false_or];rw [if_neg qce];exact h6
theorem HT.rowAt{w':World}{e sz:Nat}{rows:it}{inner:List Value}{hd:Value}(h:HT w' g.F sz rows inner)(hown:w'.ownsRow 0 e sz hd rows.length inner)(hf:∀ b,hd.ownBlock=ac b->¬ g.F b/\(E.w0.heap.size<=b\/E.X b)) :
  p5 E.w0 w' E.X g.F hd (.live e sz rows):=⟨inner,hown,h.len,λi row j x h1 h2=>let ⟨u,hu,_,hr⟩:=h.rd i row j x h1 h2; ⟨u,hu,hr⟩,hf⟩
theorem SQ{t e m sz:Nat}{vparts:Array (Nat×Value)}{i:TypeInfo}{zv:Value}{arr':Array Value}(hu:P.underlying t=ac (.slice e))(hi:P.info? e=ac i)(hzv:i.zero=ac zv)(hsz:i.size=sz)(hm:m*sz<=16777216)
  (h:Instr.fill (λi=>ac (i*sz,sz)) ((Array.range (m*sz)).map (zv.cells[· % zv.cells.size]!)) vparts.toList=ac arr') :
  (Instr.buildSlice t m vparts).run P w=.ok (.slice (ac ⟨w.heap.size,0,cl⟩) m m) (w.alloc (.cells arr' e)):=by
 have hlim:¬ m*sz > 2 ^ 24:=by omega
 by_cases h0:m*sz=0
 ·have hr0:Array.range 0=#[]:=rfl;rw [h0,hr0,Array.map_empty] at h;simp [Instr.buildSlice,run_underlying hu,zeroValue,typeInfo,sizeOf,hi,hsz,h0,hr0,h,newRow,newObj,Sem.run]
 ·simp [Instr.buildSlice,run_underlying hu,zeroValue,typeInfo,sizeOf,hi,hzv,hsz,h0,hlim,h,newRow,newObj,Sem.run]
theorem UR{o:Oper}{t e d m:Nat}{parts:Array (Nat×Operand)}{sz:Nat}{z:Os}{ps:List (Nat×A)}{x:A}{n:Nat}(hS:lj E g n st a w)(ho:o.op=.buildSlice t m parts)
  (hu:P.underlying t=ac (.slice e)) (hsz:jX P e=ac sz) (hz:AM P e=ac z) (hps:eQ (parts.toList.map λ(i,x)=>(st.eval x).map λv=>(i,v))=ac ps)
  (hk:z.length=sz/\0 < sz/\m*sz<=16777216) (h:(fg (oB (N3 P e) z) λts=>UM (N3 P e) sz (zQG m ts) ps λrows=>DI (ip d 0) e sz rows).run st=ac (x,st')) :
  ∃ u g' w',Ji P o a w u w'/\D1 E g st w x st' u g' w':=by
 obtain ⟨hk1,hk2,hk3⟩:=hk;obtain ⟨i,zv,hi,hzv,hC⟩:=Jz hz;obtain ⟨i',hi',hsz'⟩:=nZ hsz;rw [hi] at hi'
 cases hi'
 have hCz:=hC w g st.O st.R;have hzs:zv.cells.size=sz:=by rw [hCz.1]; exact hk1
 obtain ⟨h1,h2⟩:=X4 (a:=a) hps (λx y h=>cm hS h);obtain ⟨ts,st1,g1,hM1,hE1,ht1,h4,htl,hts⟩:=Ob hS.mem (vs:=zv.cells.toList) (by rw [zQg]; exact hCz.1) (λj x hj=>by
   obtain ⟨_,q,hq,hr⟩:=hCz.2 j x hj;exact ⟨q,by simpa using hq,hr⟩) h
 have htsz:ts.length=sz:=by omega
 have hm:m<=16777216:=zXQ (Nat.le_mul_of_pos_right _ hk2) hk3;have hR0:HT w g1.F sz (zQG m ts) ((Array.range (m*sz)).map (zv.cells[· % zv.cells.size]!)).toList:=by
  have:=qdJ (w:=w) (F:=g1.F) (ts:=ts) (zs:=zv.cells.toList) qiJ hts m ((Array.range (m*sz)).map (zv.cells[· % zv.cells.size]!)).toList (by simp [htsz]) (λk hk=>by
   rw [htsz] at hk ⊢;have hkm:k % sz < zv.cells.size:=by rw [hzs]; exact Nat.mod_lt _ hk2
   simp only [zWz,Array.getElem?_map,Array.getElem?_range,hk,if_true,zWG,hzs];rw [zXq hkm,getElem!_pos zv.cells (k % sz) hkm])
  rw [htsz] at this;exact this
 obtain ⟨rows',st2,g2,arr',hM2,hE2,ht2,h5,h6,h7,h8⟩:=X5 hM1 h4 h1 (λi p hp=>by
  obtain ⟨u,hu,hr⟩:=h2 i p hp;exact ⟨u,hu,hr.mono hE1⟩) hR0
 have hrl:rows'.length=m:=by rw [h8,zYz]
 have hasz:arr'.size=m*sz:=by rw [<- zQg,h7.size,hrl]
 have hown:=World.ownsRow_lit (base:=0) (e:=e) (size:=sz) w arr' m (zZv _) (by simp only [maxLen]; omega) hasz;have hSm:ER g2.F w (w.alloc (.cells arr' e)):=λb hb=>heap_alloc_old w _ b (hM2.F b hb).1;obtain ⟨g',hA⟩:=Qt hM2 h5 (.slice (ac ⟨w.heap.size,0,cl⟩) m m) (Ms w (.cells arr' e)) (λb hb _=>heap_alloc_old w _ b hb) (λb hb=>by
   simp only [Value.ownBlock,Option.some.injEq] at hb;exact AN hM2 al) ((h7.mono hSm (λ_ h=>h)).rowAt (by rw [hrl]; exact hown) (λb hb=>by
   simp only [Value.ownBlock,Option.some.injEq] at hb;subst hb;exact ⟨(AN hM2 (zWK _)).1,.inl hM2.sizes⟩))
 refine ⟨_,g',_,.inl ?_,hA.mem,hA.vr,(hE1.trans hE2).trans hA.ext,hA.tm.trans (ht1.trans ht2).tm⟩;have hrun:=SQ (w:=w) hu hi hzv hsz' hk3 h6;simp only [execOp,ho,Sem.run_bind,hrun,Result.andThen_ok,Sem.run_pure]
end
section
variable {P:Program} {E:En} {g:Gh} {st st':St} {a:Act} {w:World}
theorem qau{b b':Nat}{c n:Nat}(h:(Value.slice (ac ⟨b,0,cl⟩) n c).ownBlock=ac b'):b'=b:=by
 simp only [Value.ownBlock,Option.some.injEq] at h; exact h.symm
theorem qfA{o:Oper}{t e d by_ m:Nat}{xl xc:Operand}{l c:Int}{zz:Option Value}{z:Os}{x:A}{n:Nat}(hS:lj E g n st a w)(ho:o.op=.makeSlice t xl xc)(hl:a.eval xl=.int .i64 l)(hc:a.eval xc=.int .i64 c)
  (hu:P.underlying t=ac (.slice e)) (hi0:II P e=ac (zz,m,by_)) (hz:AM P e=ac z) (hk:z.length=m/\0 < m/\0<=c/\(l=0\/l=c)/\c.toNat*by_<=140737488355328/\c<=9223372036854775807)
  (h:(fg (oB (N3 P e) z) λts=>DI (ip d 0) e m (zQG l.toNat ts)).run st=ac (x,st')) :
  ∃ u g' w',Ji P o a w u w'/\D1 E g st w x st' u g' w':=by
 obtain ⟨hk1,hk2,hk3,hk4,hk5,hk6⟩:=hk;obtain ⟨i,zv,hi,hzv,hC⟩:=Jz hz;obtain ⟨i',hi',_,hsz,hby⟩:=X2 hi0;rw [hi] at hi'
 cases hi'
 have hCz:=hC w g st.O st.R;have hzs:zv.cells.size=m:=by rw [hCz.1]; exact hk1
 obtain ⟨ts,st1,g1,hM1,hE1,ht1,h4,htl,hts⟩:=Ob hS.mem (vs:=zv.cells.toList) (by rw [zQg]; exact hCz.1) (λj x hj=>by
   obtain ⟨_,q,hq,hr⟩:=hCz.2 j x hj;exact ⟨q,by simpa using hq,hr⟩) h
 have htsz:ts.length=m:=by omega
 obtain ⟨c,rfl⟩:=zQK hk3;have hb1:i.bytes*c<=281474976710656:=by rw [hby,Nat.mul_comm]; simp at hk5; omega
 have hb2:c<=maxLen:=by simp only [maxLen]; omega
 have fin:∀ (w':World) (m':Nat) (inner:List Value),(Instr.makeSlice t (.int .i64 l) (.int .i64 (c:Int))).run P w=.ok (.slice (ac ⟨w.heap.size,0,cl⟩) m' c) w'->l.toNat=m' ->
   w'.ownsRow 0 e m (.slice (ac ⟨w.heap.size,0,cl⟩) m' c) m' inner->w.grownBy w' none->HT w g1.F m (zQG l.toNat ts) inner->∃ u g' w',Ji P o a w u w'/\D1 E g st w x st' u g' w':=by
  intro w' m' inner hr hm' hown hg hR;have hSm:ER g1.F w w':=λb hb=>hg.block b (hM1.F b hb).1 ig;have hrl:(zQG l.toNat ts).length=m':=by simp [hm']
  obtain ⟨g',hA⟩:=Qt hM1 h4 (.slice (ac ⟨w.heap.size,0,cl⟩) m' c) ⟨hg.os,hg.tape,hg.output,hg.size⟩ (λb hb _=>hg.block b hb ig) (λb hb=>AN hM1 (by have:=qau hb; omega))
   ((hR.mono hSm (λ_ h=>h)).rowAt (by rw [hrl]; exact hown) (λb hb=>by
    have:=qau hb;subst this;exact ⟨(AN hM1 (zWK _)).1,.inl hM1.sizes⟩))
  refine ⟨_,g',_,.inl ?_,hA.mem,hA.vr,hE1.trans hA.ext,hA.tm.trans ht1.tm⟩;simp only [execOp,ho,hl,hc,Sem.run_bind,hr,Result.andThen_ok,Sem.run_pure]
 by_cases h0:l=0
 ·subst h0;obtain ⟨w',hr,hown,hg⟩:=run_make_own (P:=P) w 0 t e i zv m hu hi hzv hsz .i64 .i64 c hb1 hb2 (zZv _);refine fin w' 0 [] hr rfl hown hg ⟨by simp,by simp,by simp⟩
 ·have hlc:l=(c:Int):=hk4.resolve_left h0;subst hlc;obtain ⟨w',hr,hown,hg⟩:=run_make_full (P:=P) w 0 t e i zv m hu hi hzv hsz .i64 .i64 c hb1 hb2 (zZv _);refine fin w' c _ hr ig hown hg ?_;have:=qdJ (w:=w) (F:=g1.F) (ts:=ts) (zs:=zv.cells.toList) qiJ hts c (madeCells zv.cells (c*m)).toList (by simp [madeCells,htsz]) (λk hk=>by
   rw [htsz] at hk ⊢;have hkm:k % m < zv.cells.size:=by rw [hzs]; exact Nat.mod_lt _ hk2
   simp only [madeCells,zWz,Array.getElem?_map,Array.getElem?_range,hk,if_true,zWG,hzs];rw [zXq hkm,getElem!_pos zv.cells (k % m) hkm])
  rw [htsz] at this
  simpa using this
theorem p5.rcs{w0:World}{X F:Nat->Prop}{v:Value}{e sz:Nat}{rows:it}(h:p5 w0 w X F v (.live e sz rows)):∃ inner,w.ownsRow 0 e sz v rows.length inner/\HT w F sz rows inner/\(∀ b,v.ownBlock=ac b->¬ F b/\(w0.heap.size<=b\/X b)):=by
 obtain ⟨inner,ho,h1,h2,h3⟩:=h;exact ⟨inner,ho,⟨ho.1,h1,λi row j x hi hj=>let ⟨u,hu,hr⟩:=h2 i row j x hi hj; ⟨u,hu,hr.one.1,hr⟩⟩,h3⟩
theorem HT.app{F:Nat->Prop}{sz:Nat}{xs ys:it}{xa ya:List Value}(h:HT w F sz xs xa)(k:HT w F sz ys ya):HT w F sz (xs++ys) (xa++ya):=by
 refine ⟨by rw [zQH,zQH,h.size,k.size,Nat.add_mul],λi row hi=>?_,λi row j x hi hj=>?_⟩
 ·rw [zWx] at hi
  split at hi
  ·exact h.len i row hi
  ·exact k.len _ row hi
 ·rw [zWx] at hi
  split at hi
  ·rename_i hlt;obtain ⟨u,hu,ho,hr⟩:=h.rd i row j x hi hj;exact ⟨u,by rw [zQW ((ln.1 hu).1)]; exact hu,ho,hr⟩
  ·rename_i hlt;obtain ⟨u,hu,ho,hr⟩:=k.rd _ row j x hi hj;refine ⟨u,?_,ho,hr⟩;have h5:xs.length*sz<=i*sz:=zWH _ al;rw [zQX (by rw [h.size]; omega),h.size,<- hu]
   congr 1
   rw [Nat.sub_mul];omega
theorem SR{t ty e:TypeId}{i:TypeInfo}(ht:P.underlying t=ac (.slice e))(hi:P.info? e=ac i){v:Value}{n size:Nat}{xs:List Value}(hown:w.ownsRow 0 e size v n xs)(ad:Option Addr)(c:Nat) :
  (Builtin.append_ #[t,t] ty #[v,.slice ad 0 c]).run P w=.ok v w:=by
 have hf:(Builtin.firstCells i.size 0 (.slice ad 0 c)).run P w=.ok #[] w:=by cases ad <;> simp [Builtin.firstCells,loadCells,loadCellsFrom]
 rcases hown.2 with ⟨rfl,rfl⟩ | ⟨g,cap,cur,rfl,_,_,hnc,_⟩
 ·simp [Builtin.append_,run_underlying ht,sizeOf,typeInfo,hi,Builtin.lenOf,hf]
 ·simp [Builtin.append_,run_underlying ht,sizeOf,typeInfo,hi,Builtin.lenOf,hf,hnc,storeCells]
theorem US{t ty e:TypeId}{i:TypeInfo}{zv:Value}{n by_:Nat}(ht:P.underlying t=ac (.slice e))(hi:P.info? e=ac i)(hz:i.zero=ac zv)(hs:i.size=n)(hb:i.bytes=by_)(hzs:zv.cells.size=n)(hn:0 < n)(hby:0 < by_)
  {r':Nat} {x:A} {v vy:Value} {rows ys:it} {inner:List Value} (hM:io E g st w) (hown:w.ownsRow 0 e n v rows.length inner) (hR:HT w g.F n rows inner)
  (hfree:∀ b,v.ownBlock=ac b->(¬ g.F b/\(∀ s,st.O s->g.ob s≠b)/\(∀ r',st.L r'->(g.rw r').ownBlock≠ac b))/\(E.w0.heap.size<=b\/E.X b))
  (sz:Nat) (ad:Option Addr) (c:Nat) (hvy:vy=.slice ad ys.length c) (hY:Rds w g.F sz ys ad) (hsz:ys≠[]->sz=n) (hlim:(rows.length+ys.length)*by_<=140737488355328)
  (h:(DI r' e n (rows++ys)).run st=ac (x,st')) :
  ∃ v' w' g',(Builtin.append_ #[t,t] ty #[v,vy]).run P w=.ok v' w'/\D1 E g st w x st' v' g' w':=by
 subst hvy
 by_cases hne:ys=[]
 ·subst hne;rw [zWV] at h;obtain ⟨g',hA⟩:=Qt hM h v (vu.refl w) (λ_ _ _=>rfl) (λb hb=>(hfree b hb).1) (hR.rowAt hown (λb hb=>⟨(hfree b hb).1.1,(hfree b hb).2⟩));exact ⟨v,w,g',SR ht hi hown ad c,hA⟩
 ·have hszn:=hsz hne;subst hszn;obtain ⟨b,off,rfl,news,hnl,hnc,hn1,hnr⟩:=hY.flat hne;have h63:rows.length+ys.length<=maxLen:=by
   have:=zXQ (Nat.le_mul_of_pos_right _ hby) hlim;simp only [maxLen]; omega
  obtain ⟨v',w',hr,hown',hg,_,hat⟩:=run_append_own_at (P:=P) w 0 t ty e i zv sz by_ ht hi hz hs hb hzs hn v rows.length inner hown ⟨b,off,cl⟩ ys.length c news hnl hnc hn1 h63 hlim (zZv _);have hblk:∀ b',v'.ownBlock=ac b'->v.ownBlock=ac b'\/b'=w.heap.size:=λb' hb'=>by
   rcases hat with hat | hat
   ·exact .inl (hat ▸ hb')
   ·rw [hat] at hb'; exact .inr (by simpa using hb'.symm)
  have hSm:ER g.F w w':=λk hk=>hg.block k (hM.F k hk).1 (λhe=>(hfree k he.symm).1.1 hk);have hR2:HT w g.F sz ys news:=⟨hnl,hY.len,λi row j x h1 h2=>let ⟨u,hu,hr⟩:=hnr i row j x h1 h2; ⟨u,hu,hr.one.1,hr⟩⟩;have hX:∀ b',v'.ownBlock=ac b'->(¬ g.F b'/\(∀ s,st.O s->g.ob s≠b')/\(∀ r',st.L r'->(g.rw r').ownBlock≠ac b'))/\(E.w0.heap.size<=b'\/E.X b'):=λb' hb'=>by
   rcases hblk b' hb' with h1 | h1
   ·exact hfree b' h1
   ·exact ⟨AN hM al,.inl (by have:=hM.sizes; omega)⟩
  have hX':∀ b',(v.ownBlock=ac b'\/b'=w.heap.size)->(¬ g.F b'/\(∀ s,st.O s->g.ob s≠b')/\(∀ r',st.L r'->(g.rw r').ownBlock≠ac b'))/\(E.w0.heap.size<=b'\/E.X b'):=λb' hb'=>by
   rcases hb' with h1 | h1
   ·exact hfree b' h1
   ·exact ⟨AN hM al,.inl (by have:=hM.sizes; omega)⟩
  obtain ⟨g',hA⟩:=Mu hM h v' ⟨hg.os,hg.tape,hg.output,hg.size⟩ (λb=>v.ownBlock=ac b\/b=w.heap.size) (λk hk hne'=>hg.block k hk (λhe=>hne' (.inl he.symm))) hblk
   (λb h1 hp=>(hX' b hp).2.elim (λh2=>by omega) id) (λb' hb'=>(hX' b' hb').1) ((((hR.app hR2).mono hSm (λ_ h=>h))).rowAt (by rw [zQH]; exact hown') (λb' hb'=>⟨(hX b' hb').1.1,(hX b' hb').2⟩))
  exact ⟨v',w',g',hr,hA⟩
theorem qcj{e:TypeId}{z:Os}{zz:Value}{n by_:Nat}(h:II P e=ac (ac zz,n,by_))(hz:AM P e=ac z):∃ i,P.info? e=ac i/\i.zero=ac zz/\i.size=n/\i.bytes=by_/\zz.cells.size=z.length:=by
 obtain ⟨i,hi,h1,h2,h3⟩:=X2 h;obtain ⟨i',zv,hi',hzv,hC⟩:=Jz hz;rw [hi] at hi'
 cases hi'
 rw [h1] at hzv
 cases hzv
 exact ⟨i,hi,h1,h2,h3,(hC default { F:=λ_=>False,ob:=id,rw:=λ_=>undef } (λ_=>True) (λ_=>True)).1⟩
theorem qck{o:Oper}{xs ys:Operand}{x vx vy:A}{ts:Array TypeId}{n:Nat}(hS:lj E g n st a w)(ho:o.op=.call { callee:=.builtin .append,args:=#[xs,ys],argTypes:=ts })(hvx:VR w g st.O st.R vx (a.eval xs))(hvy:VR w g st.O st.R vy (a.eval ys))
  (h:(CB P o.dst ts.toList vx vy).run st=ac (x,st')):∃ u g' w',Ji P o a w u w'/\D1 E g st w x st' u g' w':=by
 have hM:=hS.mem;unfold CB at h
 split at h
 rotate_left
 ·exact (aQ h).elim
 rename_i t t' d hts hd
 split at h
 rotate_left
 ·exact (aQ h).elim
 rename_i htt;subst htt;have hts':ts=#[t,t]:=by rw [<- zWy (xs:=ts),hts]
 subst hts'
 split at h
 rotate_left
 ·exact (aQ h).elim
 rename_i e hu
 split at h
 rotate_left
 ·exact (aQ h).elim
 rename_i zz m by_ z hi hz
 split at h
 rotate_left
 ·exact (aQ h).elim
 rename_i hk;obtain ⟨hk1,hk2,hk3⟩:=hk;obtain ⟨i,hi1,hi2,hi3,hi4,hi5⟩:=qcj hi hz;obtain ⟨rows2,sz,ad,c,h,hyv,hY⟩:=Jx hM hvy h
 split at h
 rotate_left
 ·exact (aQ h).elim
 rename_i hsz;have hsz':rows2≠[]->sz=m:=λhne=>hsz.resolve_right hne;have fin:∀ {v':Value} {w':World},(Builtin.append_ #[t,t] o.type #[a.eval xs,a.eval ys]).run P w=.ok v' w'->Ji P o a w v' w':=by
  intro v' w' hr;refine .inl ?_;simp only [execOp,ho,resolve,invoke,builtin,Sem.run_bind,Sem.run_pure,Result.andThen_ok,zVJ,zXV,List.map_nil,hr]
 split at h
 ·split at h
  rotate_left
  ·exact (aQ h).elim
  rename_i hlim;generalize hvv:a.eval xs=vv at hvx
  cases hvx with
  | nil =>
   have hnil:a.eval xs=.slice cl 0 0:=hvv;obtain ⟨v',w',g',hr,hA⟩:=US (P:=P) (ty:=o.type) hu hi1 hi2 hi3 hi4 al hk2 hk3 (v:=.slice cl 0 0) (rows:=[]) (ys:=rows2) (inner:=[]) hM (World.ownsRow_nil _ _ _ _) ⟨by simp,by simp,by simp⟩ (by simp [Value.ownBlock]) sz ad c hyv hY hsz' (by simpa using hlim) h;rw [<- hnil] at hr;exact ⟨v',g',w',fin hr,hA⟩
 ·rename_i r _;simp only [MA.run] at h
  cases hx:st.rw r with
  | none=>simp [hx,MA.run] at h
  | some xx =>
   cases xx with
   | gone=>simp [hx,MA.run] at h
   | frz sz' rows=>simp [hx,MA.run] at h
   | live e' sz' rows =>
    simp only [hx] at h
    split at h
    rotate_left
    ·exact (aQ h).elim
    rename_i hc;obtain ⟨rfl,rfl,hlim⟩:=hc;simp only [MA.run] at h;have hL:st.L r:=⟨_,_,_,hx⟩;obtain ⟨inner,hown,hR,hf⟩:=(hM.row r _ hx).rcs;obtain ⟨hM1,hE1⟩:=hM.gone_row r _ hx;obtain ⟨v',w',g',hr,hA⟩:=US (P:=P) (ty:=o.type) hu hi1 hi2 hi3 hi4 al hk2 hk3 (v:=g.rw r) (rows:=rows) (ys:=rows2) (inner:=inner) hM1 hown hR (λb hb=>⟨⟨(hM.row_nf hL hb).1,λs hs he=>hM.rowob r s hL hs (he ▸ hb),λr' hr' he=>by
     rcases DJ.1 hr' with ⟨rfl,_,_,_,hx⟩ | ⟨h3,h4⟩
     ·cases hx
     ·exact h3 (hM.rowne r' r b h4 hL he hb)⟩,(hM.row_nf hL hb).2⟩) sz ad c hyv hY hsz' hlim h
    have hxs:a.eval xs=g.rw r:=by
     generalize hvv:a.eval xs=vv at hvx
     cases hvx
     rfl
    rw [<- hxs] at hr;exact ⟨v',g',w',fin hr,hA.mem,hA.vr,hE1.trans hA.ext,hA.tm⟩
 ·exact (aQ h).elim
theorem qhj{o:Oper}{xs:Operand}{x vx:A}{t:TypeId}{n:Nat}(hS:lj E g n st a w)(ho:o.op=.call { callee:=.builtin .len,args:=#[xs],argTypes:=#[t] })(hvx:VR w g st.O st.R vx (a.eval xs))
  (h:(R0 P t vx).run st=ac (x,st')):∃ u g' w',Ji P o a w u w'/\D1 E g st w x st' u g' w':=by
 have hM:=hS.mem;unfold R0 at h
 split at h
 ·rename_i s hu
  cases hx:a.eval xs with
  | string s' =>
   rw [hx] at hvx
   cases hvx with
   | t x v h1=>cases h1; exact eB hM (by simp [execOp,ho,resolve,invoke,builtin,Builtin.len_,run_underlying hu,hx,goInt]) (.t _ _ (.int _ _)) h
  | _=>rw [hx] at hvx; cases hvx with | t x v h1=>cases h1
 ·rename_i e s sz rows hu;generalize hvv:a.eval xs=vv at hvx
  cases hvx with
  | ext _ _ _ _ h1 =>
   cases h1 with
   | sl0=>exact eB hM qjl (.t _ _ (.int _ _)) h
   | sl=>exact eB hM qjl (.t _ _ (.int _ _)) h
 ·rename_i hu _;obtain ⟨rows,sz,ad,c,h,hv,hR⟩:=Jx hM hvx h;exact eB hM (by simp [execOp,ho,resolve,invoke,builtin,Builtin.len_,run_underlying hu,hv,goInt]) (.t _ _ (.int _ _)) h
 ·exact (aQ h).elim
end
section
variable {P:Program} {E:En} {g:Gh} {st st':St} {a:Act} {w:World}
theorem xT{d:Nat}{lo:Option Operand}{l:Option A}{k:Int}(hl:Qq st.eval lo=ac l)(hk:C5 d l=ac k)(hev:∀ x y,st.eval x=ac y->VR w g st.O st.R y (a.eval x)) :
  (lo=cl/\k=d)\/∃ x kk,lo=ac x/\a.eval x=.int kk k:=by
 cases lo with
 | none=>simp [Qq] at hl; subst hl; simp [C5] at hk; exact .inl ⟨rfl,hk.symm⟩
 | some x =>
  simp only [Qq,zWk] at hl;obtain ⟨y,hy,rfl⟩:=hl;have hv:=hev x y hy;unfold C5 at hk
  split at hk
  ·rename_i h0; cases h0
  ·rename_i kk i h0
   cases h0
   cases hk
   generalize hvv:a.eval x=vv at hv
   cases hv with
   | t x v h1=>cases h1; exact .inr ⟨x,kk,rfl,hvv⟩
  ·cases hk
theorem BM{isS:Bool}{len cap:Nat}{lo hi:Option Operand}{l h:Int}(hl:(lo=cl/\l=0)\/∃ x kk,lo=ac x/\a.eval x=.int kk l)(hh:(hi=cl/\h=len)\/∃ x kk,hi=ac x/\a.eval x=.int kk h)(h0:0<=l)(h1:l<=h)(h2:h<=len)(hlc:len<=cap) :
  (Instr.sliceBounds isS len cap (lo.map a.eval) (hi.map a.eval) cl).run P w=.ok (l.toNat,h.toNat,cap) w:=by
 have hb:∀ (x:Operand) (kk:IntKind) (i:Int) (y:Nat) (code:BoundsCode),a.eval x=.int kk i->0<=i->i<=y->(Instr.sliceBound (a.eval x) y code).run P w=.ok i.toNat w:=by
  intro x kk i y code hx h0 h1;rw [hx];simp [Instr.sliceBound,asIntOf,h0,h1]
 rcases hl with ⟨rfl,rfl⟩ | ⟨x,kk,rfl,hx⟩ <;> rcases hh with ⟨rfl,rfl⟩ | ⟨y,ky,rfl,hy⟩
 ·simp [Instr.sliceBounds]
 ·simp [Instr.sliceBounds,hb y ky h cap _ hy al al]
 ·simp [Instr.sliceBounds,hb x kk l len _ hx h0 al]
 ·simp [Instr.sliceBounds,hb x kk l h.toNat _ hx h0 al,hb y ky h cap _ hy al al]
theorem Rd.cut{F:Nat->Prop}{sz:Nat}{rows:it}{ad:Option Addr}{c l h:Nat}(hr:Rd w F (.sl sz rows) (.slice ad rows.length c))(h1:l<=h)(h2:h<=rows.length)(hc:rows.length<=c) :
  Rd w F (.sl sz ((rows.take h).drop l)) (.slice (if c=l then ad else ad.map (·.add (l*sz))) (h - l) (c - l)):=by
 have hlen:((rows.take h).drop l).length=h - l:=by simp; omega
 by_cases he:h - l=0
 ·have:(rows.take h).drop l=[]:=zQZ al;rw [this,he];refine .sl0 _ _ _ λhn=>?_;have had:ad=none:=by
   split at hn
   ·exact hn
   ·cases ad with
    | none=>rfl
    | some a=>cases hn
  cases hr with
  | sl0 _ _ _ ha=>have:=ha had; omega
  | sl=>cases had
 ·cases hr with
  | sl0=>simp at h2; omega
  | sl sz rows b off c u hc' hF hs hx hr =>
   rw [if_neg al];simp only [zWG,D2];have hget:∀ (i:Nat) (row:Or),((rows.take h).drop l)[i]?=ac row->rows[l+i]?=ac row:=λi row hi=>by
    rw [zQx,zQy] at hi
    split at hi
    ·exact hi
    ·cases hi
   have:=Rd.sl (w:=w) (F:=F) sz ((rows.take h).drop l) b (off+l*sz) (c - l) (λi j=>u (l+i) j) al hF (λi row hi=>hs _ row (hget i row hi))
    (λi row j x hi hj=>by
     rw [show off+l*sz+i*sz+j=off+(l+i)*sz+j by rw [Nat.add_mul]; omega];exact hx _ row j x (hget i row hi) hj) (λi row j x hi hj=>hr _ row j x (hget i row hi) hj)
   rw [hlen] at this;exact this
theorem Sd.cut{s:Bool}{D:Nat->Prop}{sz:Nat}{rows:it}{v:Value}(hr:Sd s w D (.sl sz rows) v){l h:Nat}(h1:l<=h)(h2:h<=rows.length) :
  ∃ ad c,v=.slice ad rows.length c/\rows.length<=c/\Sd s w D (.sl sz ((rows.take h).drop l)) (.slice (if c=l then ad else ad.map (·.add (l*sz))) (h - l) (c - l)):=by
 have hlen:((rows.take h).drop l).length=h - l:=by simp; omega
 cases hr with
 | sl0 _ a c ha =>
  refine ⟨a,c,rfl,by simp,?_⟩;simp only [zXx] at h2;have e:l=0/\h=0:=by omega
  obtain ⟨rfl,rfl⟩:=e;simp only [List.take_nil,List.drop_nil];refine .sl0 _ _ _ λhn=>?_;have had:a=none:=by
   split at hn
   ·exact hn
   ·cases a with
    | none=>rfl
    | some a=>cases hn
  have:=ha had;omega
 | sl sz rows b off c u hc' hF hs hx hr =>
  refine ⟨_,c,rfl,hc',?_⟩
  by_cases he:h - l=0
  ·have:(rows.take h).drop l=[]:=zQZ al;rw [this,he];refine .sl0 _ _ _ λhn=>?_
   split at hn
   ·cases hn
   ·cases hn
  ·rw [if_neg al];simp only [zWG,D2];have hget:∀ (i:Nat) (row:Or),((rows.take h).drop l)[i]?=ac row->rows[l+i]?=ac row:=λi row hi=>by
    rw [zQx,zQy] at hi
    split at hi
    ·exact hi
    ·cases hi
   have:=Sd.sl (s:=s) (w:=w) (D:=D) sz ((rows.take h).drop l) b (off+l*sz) (c - l) (λi j=>u (l+i) j) al hF (λi row hi=>hs _ row (hget i row hi))
    (λi row j x hi hj=>by
     rw [show off+l*sz+i*sz+j=off+(l+i)*sz+j by rw [Nat.add_mul]; omega];exact hx _ row j x (hget i row hi) hj) (λi row j x hi hj=>hr _ row j x (hget i row hi) hj)
   rw [hlen] at this;exact this
theorem qes{o:Oper}{t:TypeId}{xs:Operand}{lo hi:Option Operand}{vx:A}{l h':Option A}{x:A}{n:Nat}(hS:lj E g n st a w)(ho:o.op=.slice t xs lo hi cl)(hvx:VR w g st.O st.R vx (a.eval xs))
  (hl:Qq st.eval lo=ac l) (hh:Qq st.eval hi=ac h')
  (h:(FI P t vx l h').run st=ac (x,st')):∃ u g' w',Ji P o a w u w'/\D1 E g st w x st' u g' w':=by
 have hM:=hS.mem;have hev:∀ x y,st.eval x=ac y->VR w g st.O st.R y (a.eval x):=λx y h=>cm hS h;unfold FI at h
 split at h
 ·rename_i s hu
  split at h
  rotate_left
  ·exact (aQ h).elim
  rename_i lk hk hlk hhk
  split at h
  rotate_left
  ·exact (aQ h).elim
  rename_i hc;obtain ⟨hc1,hc2,hc3⟩:=hc;generalize hvv:a.eval xs=vv at hvx
  cases hvx with
  | t x v h1 =>
   cases h1
   have hrun:=BM (P:=P) (w:=w) (isS:=go) (len:=s.size) (cap:=s.size) (xT hl hlk hev) (xT hh hhk hev) hc1 hc2 hc3 (zWK _);refine eB hM ?_ (.t _ _ (.str _)) h;simp [execOp,ho,Instr.sliceAt,run_underlying hu,Instr.slice,hvv,hrun]
 ·rename_i e sb sz rows hu
  split at h
  rotate_left
  ·exact (aQ h).elim
  rename_i m lk hk hm hlk hhk;obtain ⟨i,hi1,hi2⟩:=nZ hm
  split at h
  rotate_left
  ·exact (aQ h).elim
  rename_i hc;obtain ⟨rfl,hc1,hc2,hc3⟩:=hc;generalize hvv:a.eval xs=vv at hvx
  cases hvx with
  | ext _ _ _ hs hd =>
   obtain ⟨ad,c,rfl,hcc,hR⟩:=hd.cut (l:=lk.toNat) (h:=hk.toNat) al al;have hrun:=BM (P:=P) (w:=w) (isS:=gi) (xT hl hlk hev) (xT hh hhk hev) hc1 hc2 hc3 hcc;refine eB hM ?_ (.ext _ _ _ hs hR) h;simp [execOp,ho,Instr.sliceAt,run_underlying hu,Instr.slice,hvv,hrun,sizeOf,typeInfo,hi1,hi2]
 ·rename_i e hu _
  split at h
  rotate_left
  ·exact (aQ h).elim
  rename_i m hm;obtain ⟨i,hi1,hi2⟩:=nZ hm;obtain ⟨tt,st1,g1,hM1,hE1,ht1,h,hr,_⟩:=Y2 hM hvx h
  split at h
  rotate_left
  ·exact (aQ h).elim
  rename_i sz rows
  split at h
  rotate_left
  ·exact (aQ h).elim
  rename_i lk hk hlk hhk
  split at h
  rotate_left
  ·exact (aQ h).elim
  rename_i hsz
  split at h
  rotate_left
  ·exact (aQ h).elim
  rename_i hc;obtain ⟨hc1,hc2,hc3⟩:=hc;obtain ⟨ad,c,hv,hR⟩:=hr.rds;have hcap:rows.length<=c\/rows=[]:=by
   rw [hv] at hr;generalize hq:rows.length=q at hr
   cases hr with
   | sl0=>exact .inr rfl
   | sl=>rename_i hc0 _ _ _ _ ; exact .inl al
  have hrun:∀ (_:rows.length<=c),(Instr.sliceBounds gi rows.length c (lo.map a.eval) (hi.map a.eval) cl).run P w=.ok (lk.toNat,hk.toNat,c) w:=λhcc =>
   BM (P:=P) (w:=w) (isS:=gi) (xT hl hlk hev) (xT hh hhk hev) hc1 hc2 hc3 hcc
  have hfin:∀ (_:rows.length<=c) (hszm:sz=m\/rows=[]),∃ u g' w',Ji P o a w u w'/\D1 E g st w x st' u g' w':=by
   intro hcc hszm;obtain ⟨rfl,rfl⟩:=gK h;have hx:(execOp a.eval o).run P w=.ok (.value (.slice (if c=lk.toNat then ad else ad.map (·.add (lk.toNat*m))) (hk.toNat - lk.toNat) (c - lk.toNat))) w:=by
    simp [execOp,ho,Instr.sliceAt,run_underlying hu,Instr.slice,hv,hrun hcc,sizeOf,typeInfo,hi1,hi2]
   refine ⟨_,g1,w,.inl hx,hM1,?_,hE1,ht1.tm⟩;rw [hv] at hr;rcases hszm with rfl | rfl
   ·exact .t _ _ (hr.cut al al hcc)
   ·have h0:hk.toNat - lk.toNat=0:=by simp at hc3; omega
    rw [h0];simp only [List.take_nil,List.drop_nil];refine .t _ _ (.sl0 _ _ _ λhn=>?_);have had:ad=none:=by
     split at hn
     ·exact hn
     ·cases ad with
      | none=>rfl
      | some a=>cases hn
    generalize hq:([]:it).length=q at hr
    cases hr with
    | sl0 _ _ _ ha=>have:=ha had; omega
    | sl=>cases had
  by_cases hcc:rows.length<=c
  ·exact hfin hcc hsz
  ·rcases hcap with h9 | h9
   ·exact absurd h9 hcc
   ·subst h9; simp at hcc
 ·exact (aQ h).elim
theorem qhk{o:Oper}{t:TypeId}{xs:Operand}{lo:Option Operand}{vx:A}{l:Option A}{x:A}{n:Nat}(hS:lj E g n st a w)(ho:o.op=.slice t xs lo cl cl)(hvx:VR w g st.O st.R vx (a.eval xs))
  (hl:Qq st.eval lo=ac l) (h:(XX P t vx l).run st=ac (x,st')):∃ u g' w',Ji P o a w u w'/\D1 E g st w x st' u g' w':=by
 have hM:=hS.mem;have hev:∀ x y,st.eval x=ac y->VR w g st.O st.R y (a.eval x):=λx y h=>cm hS h;unfold XX at h
 split at h
 rotate_left
 ·exact (aQ h).elim
 rename_i e r lk hu hlk
 split at h
 rotate_left
 ·exact (aQ h).elim
 rename_i m hm;obtain ⟨i,hi1,hi2⟩:=nZ hm;simp only [MA.run] at h
 cases hx:st.rw r with
 | none=>simp [hx,MA.run] at h
 | some xx =>
  cases xx with
  | gone=>simp [hx,MA.run] at h
  | frz sz' rows=>simp [hx,MA.run] at h
  | live e' sz' rows =>
   simp only [hx] at h
   split at h
   rotate_left
   ·exact (aQ h).elim
   rename_i hc;obtain ⟨rfl,hc1,hc2⟩:=hc;obtain ⟨hxe,hse⟩:=gK h;subst hxe;have hse:=hse.symm;subst hse;have hR:st.R r:=by simp [St.R,hx]
   have hv:a.eval xs=g.rw r:=by
    generalize hvv:a.eval xs=vv at hvx
    cases hvx
    rfl
   obtain ⟨inner,hown,_⟩:=hM.row r _ hx;have hfin:∀ (ad:Option Addr) (c:Nat),g.rw r=.slice ad rows.length c->rows.length<=c->(lk.toNat < rows.length->∃ b,ad=ac ⟨b,0,cl⟩)->∃ u g' w',Ji P o a w u w'/\D1 E g st w (.sub r sz' lk.toNat) st u g' w':=by
    intro ad c hg hcc had;have hrun:(Instr.sliceBounds gi rows.length c (lo.map a.eval) ((none:Option Operand).map a.eval) cl).run P w=.ok (lk.toNat,(rows.length:Int).toNat,c) w :=
     BM (P:=P) (w:=w) (isS:=gi) (hi:=cl) (xT hl hlk hev) (.inl ⟨rfl,rfl⟩) hc1 hc2 al hcc
    have hx:(execOp a.eval o).run P w=.ok (.value (.slice (if c=lk.toNat then ad else ad.map (·.add (lk.toNat*sz'))) (rows.length - lk.toNat) (c - lk.toNat))) w:=by
     simp only [Option.map_none,r0] at hrun;simp [execOp,ho,Instr.sliceAt,run_underlying hu,Instr.slice,hv,hg,hrun,sizeOf,typeInfo,hi1,hi2]
    refine ⟨_,g,w,.inl hx,hM,.sub r sz' lk.toNat rows.length c _ ad _ hR hg (λhlt=>?_),vO.refl _ _ _ _,rfl⟩;obtain ⟨b,rfl⟩:=had hlt;refine ⟨b,rfl,?_⟩;rw [if_neg al];simp only [zWG,D2,zWY]
   rcases hown.2 with ⟨hv0,hn0⟩ | ⟨b,cap,cur,hv0,_,hh,hnc,_⟩
   ·have:rows.length=0:=hn0;exact hfin cl 0 (by rw [hv0,this]) al (λhlt=>by omega)
   ·exact hfin (ac ⟨b,0,cl⟩) cap hv0 hnc (λ_=>⟨b,rfl⟩)
theorem qhl{o:Oper}{t:TypeId}{xs:Operand}{lo hi:Option Operand}{vx:A}{l h':Option A}{x:A}{n:Nat}(hS:lj E g n st a w)(ho:o.op=.slice t xs lo hi cl)(hvx:VR w g st.O st.R vx (a.eval xs))
  (hl:Qq st.eval lo=ac l) (hh:Qq st.eval hi=ac h') (h:(XY P t vx l h').run st=ac (x,st')):∃ u g' w',Ji P o a w u w'/\D1 E g st w x st' u g' w':=by
 have hM:=hS.mem;have hev:∀ x y,st.eval x=ac y->VR w g st.O st.R y (a.eval x):=λx y h=>cm hS h;unfold XY at h
 split at h
 rotate_left
 ·exact (aQ h).elim
 rename_i e r lk hu hlk
 split at h
 rotate_left
 ·exact (aQ h).elim
 rename_i hm;obtain ⟨i,hi1,hi2⟩:=nZ hm;simp only [MA.run] at h
 cases hx:st.rw r with
 | none=>simp [hx,MA.run] at h
 | some xx =>
  cases xx with
  | gone=>simp [hx,MA.run] at h
  | frz sz' rows=>simp [hx,MA.run] at h
  | live e' sz' rows =>
   simp only [hx] at h
   split at h
   rotate_left
   ·exact (aQ h).elim
   rename_i hk hhk
   split at h
   rotate_left
   ·exact (aQ h).elim
   rename_i hc;obtain ⟨rfl,hc1,hc2,hc3⟩:=hc;obtain ⟨hxe,hse⟩:=gK h;subst hxe;have hse:=hse.symm;subst hse;have hR:st.R r:=by simp [St.R,hx]
   have hv:a.eval xs=g.rw r:=by
    generalize hvv:a.eval xs=vv at hvx
    cases hvx
    rfl
   obtain ⟨inner,hown,_⟩:=hM.row r _ hx;have hfin:∀ (ad:Option Addr) (c:Nat),g.rw r=.slice ad rows.length c->rows.length<=c->(lk.toNat < rows.length->∃ b,ad=ac ⟨b,0,cl⟩)->∃ u g' w',Ji P o a w u w'/\D1 E g st w (.win r lk.toNat (hk - lk).toNat) st u g' w':=by
    intro ad c hg hcc had;have hrun:=BM (P:=P) (w:=w) (isS:=gi) (xT hl hlk hev) (xT hh hhk hev) hc1 hc2 hc3 hcc;have hx:(execOp a.eval o).run P w=.ok (.value (.slice (if c=lk.toNat then ad else ad.map (·.add (lk.toNat*1))) (hk.toNat - lk.toNat) (c - lk.toNat))) w:=by
     simp [execOp,ho,Instr.sliceAt,run_underlying hu,Instr.slice,hv,hg,hrun,sizeOf,typeInfo,hi1,hi2]
    rw [show hk.toNat - lk.toNat=(hk - lk).toNat by omega] at hx;refine ⟨_,g,w,.inl hx,hM,.win r lk.toNat (hk - lk).toNat rows.length c _ ad _ hR hg al (λhlt=>?_),vO.refl _ _ _ _,rfl⟩;obtain ⟨b,rfl⟩:=had al;refine ⟨b,rfl,?_⟩;rw [if_neg al];simp only [zWG,D2,zWY,zVX]
   rcases hown.2 with ⟨hv0,hn0⟩ | ⟨b,cap,cur,hv0,_,hh,hnc,_⟩
   ·have:rows.length=0:=hn0;exact hfin cl 0 (by rw [hv0,this]) al (λhlt=>by omega)
   ·exact hfin (ac ⟨b,0,cl⟩) cap hv0 hnc (λ_=>⟨b,rfl⟩)
theorem qet{o:Oper}{t:TypeId}{xs:Operand}{hi:Option Operand}{vx:A}{h':Option A}{x:A}{n:Nat}(hS:lj E g n st a w)(ho:o.op=.slice t xs cl hi cl)(hvx:VR w g st.O st.R vx (a.eval xs))
  (hh:Qq st.eval hi=ac h') (h:(N7 P o.dst t vx h').run st=ac (x,st')):∃ u g' w',Ji P o a w u w'/\D1 E g st w x st' u g' w':=by
 have hM:=hS.mem;have hev:∀ x y,st.eval x=ac y->VR w g st.O st.R y (a.eval x):=λx y h=>cm hS h;unfold N7 at h
 split at h
 rotate_left
 ·exact (aQ h).elim
 rename_i e r kk hk d hu hd
 split at h
 rotate_left
 ·exact (aQ h).elim
 rename_i m hm;obtain ⟨i,hi1,hi2⟩:=nZ hm;simp only [MA.run] at h
 cases hx:st.rw r with
 | none=>simp [hx,MA.run] at h
 | some xx =>
  cases xx with
  | gone=>simp [hx,MA.run] at h
  | frz sz' rows=>simp [hx,MA.run] at h
  | live e' sz' rows =>
   simp only [hx] at h
   split at h
   rotate_left
   ·exact (aQ h).elim
   rename_i hc;obtain ⟨rfl,hc1,hc2⟩:=hc;simp only [MA.run] at h;have hL:st.L r:=⟨_,_,_,hx⟩;have hv:a.eval xs=g.rw r:=by
    generalize hvv:a.eval xs=vv at hvx
    cases hvx
    rfl
   obtain ⟨inner,hown,hR,hf⟩:=(hM.row r _ hx).rcs;obtain ⟨hM1,hE1⟩:=hM.gone_row r _ hx;have hkl:hk.toNat<=rows.length:=by omega
   have hfree:∀ b,(g.rw r).ownBlock=ac b->¬ g.F b/\(∀ s,st.O s->g.ob s≠b)/\(∀ r',({ st with rw:=gB st.rw r (ac .gone) }:St).L r'->(g.rw r').ownBlock≠ac b):=λb hb =>
    ⟨(hM.row_nf hL hb).1,λs hs he=>hM.rowob r s hL hs (he ▸ hb),λr' hr' he=>by
     rcases DJ.1 hr' with ⟨rfl,_,_,_,hx⟩ | ⟨h3,h4⟩
     ·cases hx
     ·exact h3 (hM.rowne r' r b h4 hL he hb)⟩
   have hRC:HT w g.F sz' (rows.take hk.toNat) (inner.take (hk.toNat*sz')):=by
    refine ⟨?_,λi row hi=>hR.len i row (by rw [zQy] at hi; split at hi <;> first | exact hi | cases hi),λi row j x hi hj=>?_⟩
    ·rw [zQk,zQk,hR.size,zXj hkl,zXj (zWH _ hkl)]
    ·rw [zQy] at hi
     split at hi
     rotate_left
     ·cases hi
     rename_i hlt;obtain ⟨u,hu,ho1,hr⟩:=hR.rd i row j x hi hj;refine ⟨u,?_,ho1,hr⟩;have hjl:j < sz':=by rw [<- hR.len i row hi]; exact (ln.1 hj).1
     have h3:(i+1)*sz'<=hk.toNat*sz':=zWH _ hlt;rw [zYw] at h3;rw [zQy,if_pos al];exact hu
   have hfin:∀ (ad:Option Addr) (c:Nat),g.rw r=.slice ad rows.length c->rows.length<=c->w.ownsRow 0 e' sz' (.slice ad hk.toNat c) (rows.take hk.toNat).length (inner.take (hk.toNat*sz'))->(Value.slice ad hk.toNat c).ownBlock=(g.rw r).ownBlock ->
     ∃ u g' w',Ji P o a w u w'/\D1 E g st w x st' u g' w':=by
    intro ad c hg hcc hown' hob;have hrun:(Instr.sliceBounds gi rows.length c ((none:Option Operand).map a.eval) (hi.map a.eval) cl).run P w=.ok ((0:Int).toNat,hk.toNat,c) w :=
     BM (P:=P) (w:=w) (lo:=cl) (isS:=gi) (.inl ⟨rfl,rfl⟩) (xT hh rfl hev) al al al hcc
    have hx2:(execOp a.eval o).run P w=.ok (.value (.slice ad hk.toNat c)) w:=by
     have h0:(0:Int).toNat=0:=rfl;rw [h0] at hrun;simp only [Option.map_none] at hrun;simp [execOp,ho,Instr.sliceAt,run_underlying hu,Instr.slice,hv,hg,hrun,sizeOf,typeInfo,hi1,hi2]
     try (intro hc0; cases ad <;> simp [Addr.add_zero'])
    obtain ⟨g',hA⟩:=Mu hM1 h (.slice ad hk.toNat c) (vu.refl w) (λb=>(g.rw r).ownBlock=ac b) (λ_ _ _=>rfl) (λb hb=>by rw [<- hob]; exact hb) (λb h1 hp=>(hM.row_nf hL hp).2.elim (λh2=>by omega) id) hfree
     (hRC.rowAt (E:=E) (g:=g) hown' (λb hb=>hM.row_nf hL (by rw [<- hob]; exact hb)))
    exact ⟨_,g',w,.inl hx2,hA.mem,hA.vr,hE1.trans hA.ext,hA.tm⟩
   rcases hown.2 with ⟨hv0,hn0⟩ | ⟨b,cap,cur,hv0,hb0,hh0,hnc,hcm,hcs,htk⟩
   ·have h0:rows.length=0:=hn0;have h1:hk.toNat=0:=by omega
    refine hfin cl 0 (by rw [hv0,h0]) al ⟨?_,.inl ⟨by rw [h1],by simp [h1]⟩⟩ (by rw [hv0]; rfl);simp [h1]
   ·refine hfin (ac ⟨b,0,cl⟩) cap hv0 hnc ⟨hRC.size,.inr ⟨b,cap,cur,by rw [zQk,zXj hkl],hb0,hh0,?_,hcm,hcs,?_⟩⟩ (by rw [hv0]; rfl)
    ·rw [zQk,zXj hkl]; omega
    ·rw [zQk,zXj hkl,<- htk,List.take_take,zXj (zWH _ hkl)]
theorem Xa{o:Oper}{s f off:Nat}{t:TypeId}{y:Operand}{v x:A}{n:Nat}(hS:lj E g n st a w)(ho:o.op=.fieldAddr s y f)(hv:VR w g st.O st.R v (a.eval y))(hf:N4 P s f=ac (off,t))
  (h:(UO v off).run st=ac (x,st')):∃ u g' w',Ji P o a w u w'/\D1 E g st w x st' u g' w':=by
 have hM:=hS.mem;obtain ⟨fs,fl,m,i,hu,hfl,h1,h2,h3,h4,h5,h6⟩:=R4 hf;have run:∀ (b k:Nat),a.eval y=.pointer (ac ⟨b,k,cl⟩)->(execOp a.eval o).run P w=.ok (.value (.pointer (ac ⟨b,k+off,cl⟩))) w:=by
  intro b k he;simp [execOp,ho,Instr.fieldAt,run_underlying hu,hfl,Instr.sureAddr,he,fieldPlace,sizeOf,typeInfo,h2,h5,h6,h4,h1,D2]
 generalize hvv:a.eval y=vv at hv run;unfold UO at h
 cases hv with
 | obj s' k hs=>exact eB hM (run _ _ rfl) (.obj s' (k+off) hs) h
 | elem r sz ix k b nn c hr he => 
  refine eB hM (run _ _ rfl) ?_ h;rw [zZj];exact .elem r sz ix (k+off) b nn c hr he
 | fadr cells b k u hF hx hr =>
  refine eB hM (run _ _ rfl) (.fadr _ b (k+off) (λj=>u (off+j)) hF (λj z hz=>?_) (λj z hz=>?_)) h
  ·rw [zQx] at hz;rw [zZj];exact hx _ z hz
  ·rw [zQx] at hz;exact hr _ z hz
 | exa s cells b k u hs hD hx hr =>
  refine eB hM (run _ _ rfl) (.exa s _ b (k+off) (λj=>u (off+j)) hs hD (λj z hz=>?_) (λj z hz=>?_)) h
  ·rw [zQx] at hz;rw [zZj];exact hx _ z hz
  ·rw [zQx] at hz;exact hr _ z hz
 | _=>exact (aQ h).elim
theorem Xb{o:Oper}{t:TypeId}{y z:Operand}{v vi x:A}{n:Nat}(hS:lj E g n st a w)(ho:o.op=.indexAddr t y z)(hv:VR w g st.O st.R v (a.eval y))(hvi:VR w g st.O st.R vi (a.eval z))
  (h:(nK P t v vi).run st=ac (x,st')):∃ u g' w',Ji P o a w u w'/\D1 E g st w x st' u g' w':=by
 have hM:=hS.mem;unfold nK at h
 split at h
 rotate_left
 ·exact (aQ h).elim
 rename_i e kk ix hu
 split at h
 rotate_left
 ·exact (aQ h).elim
 rename_i m hm;obtain ⟨i,hi1,hi2⟩:=nZ hm;have hz:a.eval z=.int kk ix:=by
  generalize hvv:a.eval z=vv at hvi
  cases hvi with
  | t x v h1=>cases h1; rfl
 have run:∀ (b off len c:Nat),a.eval y=.slice (ac ⟨b,off,cl⟩) len c->0<=ix->ix.toNat < len->(execOp a.eval o).run P w=.ok (.value (.pointer (ac ⟨b,off+ix.toNat*m,cl⟩))) w:=by
  intro b off len c he h0 h1;have h2:ix < (len:Int):=by omega
  simp [execOp,ho,Instr.indexAt,hz,asIntOf,run_underlying hu,he,h0,h2,sizeOf,typeInfo,hi1,hi2,D2]
 have frz:∀ (sz:Nat) (rows:it) (vv:Value),a.eval y=vv->Rd w g.F (.sl sz rows) vv->(H0 m ix sz rows).run st=ac (x,st')->∃ u g' w',Ji P o a w u w'/\D1 E g st w x st' u g' w':=by
  intro sz rows vv hvv hr hq;unfold H0 at hq
  split at hq
  rotate_left
  ·exact (aQ hq).elim
  rename_i hc;obtain ⟨hsz,h0⟩:=hc;subst hsz
  split at hq
  rotate_left
  ·exact (aQ hq).elim
  rename_i row hrow;have hlt:ix.toNat < rows.length:=(ln.1 hrow).1
  cases hr with
  | sl0=>simp at hlt
  | sl sz rows b off c u hc hF hs hx hr =>
   exact eB hM (run b off rows.length c hvv h0 hlt) (.fadr row b (off+ix.toNat*sz) (λj=>u ix.toNat j) hF (λj z hz=>hx _ row j z hrow hz) (λj z hz=>hr _ row j z hrow hz)) hq
 generalize hvv:a.eval y=vv at hv run frz
 split at h
 ·rename_i sz rows
  cases hv with
  | t x v h1=>exact frz sz rows _ rfl h1 h
 ·rename_i s sz rows
  cases hv with
  | ext _ _ _ hs h1 =>
  unfold N6 at h
  split at h
  rotate_left
  ·exact (aQ h).elim
  rename_i hc;obtain ⟨hsz,h0⟩:=hc;subst hsz
  split at h
  rotate_left
  ·exact (aQ h).elim
  rename_i row hrow;have hlt:ix.toNat < rows.length:=(ln.1 hrow).1
  cases h1 with
  | sl0=>simp at hlt
  | sl sz rows b off c u hc hF hs' hx hr =>
   exact eB hM (run b off rows.length c rfl h0 hlt) (.exa s row b (off+ix.toNat*sz) (λj=>u ix.toNat j) hs hF (λj z hz=>hx _ row j z hrow hz) (λj z hz=>hr _ row j z hrow hz)) h
 ·rename_i s ad len cp
  split at h
  rotate_left
  ·exact (aQ h).elim
  rename_i hc;obtain ⟨hm1,h0,hlt⟩:=hc;subst hm1
  cases hv with
  | osl _ _ _ _ hs ha =>
   subst ha;have hr9:=run (g.ob s) 0 len cp rfl h0 hlt;rw [zWY,zVX] at hr9;exact eB hM hr9 (.obj s ix.toNat hs) h
 ·rename_i r;simp only [MA.run] at h
  cases hx:st.rw r with
  | none=>simp [hx,MA.run] at h
  | some xx =>
   have hRr:st.R r:=by simp [St.R,hx]
   have hgv:g.rw r=vv:=by cases hv; rfl
   cases xx with
   | live e' sz rows =>
    simp only [hx] at h
    split at h
    rotate_left
    ·exact (aQ h).elim
    rename_i hc;obtain ⟨hsz,h0,hlt⟩:=hc;subst hsz;obtain ⟨inner,hown,_⟩:=hM.row r _ hx;rw [hgv] at hown;rcases hown.2 with ⟨h9,h8⟩ | ⟨b',cap,cur,h9,_⟩
    ·omega
    ·have hr9:=run b' 0 rows.length cap h9 h0 hlt;rw [zWY] at hr9;exact eB hM hr9 (.elem r sz ix.toNat 0 b' rows.length cap hRr (hgv.trans h9)) h
   | frz sz rows =>
    simp only [hx] at h;exact frz sz rows vv rfl (hgv ▸ hM.row r _ hx) h
   | gone=>simp [hx,MA.run] at h
 ·exact (aQ h).elim
end
section
variable {P:Program} {E:En} {g:Gh} {st st':St} {a:Act} {w:World}
theorem VR.int{k:IntKind}{n:Int}{v:Value}{O R:Nat->Prop}(h:VR w g O R (.t (.int k n)) v):v=.int k n:=by cases h with | t x v h=>cases h; rfl
theorem VR.bool{b:Bool}{v:Value}{O R:Nat->Prop}(h:VR w g O R (.t (.bool b)) v):v=.bool b:=by cases h with | t x v h=>cases h; rfl
theorem VR.str{s:ByteArray}{v:Value}{O R:Nat->Prop}(h:VR w g O R (.t (.str s)) v):v=.string s:=by cases h with | t x v h=>cases h; rfl
theorem VR.tnum{x:T}{v:Value}{O R:Nat->Prop}(h:VR w g O R (.t x) v):Rd w g.F x v:=by cases h with | t x v h=>exact h
theorem qhm{op:BinOp}{t:TypeId}{x y z:T}{vx vy:Value}{ox oy:Operand}(h:Jh (isB P t) op x y=ac z)(hx:Rd w g.F x vx)(hy:Rd w g.F y vy) :
  ∃ v,((do eqGuard op t ox oy vx vy; binOp op t vx vy):Sem Value).run P w=.ok v w/\Rd w g.F z v:=by
 cases hx with
 | int k n =>
  cases hy with
  | int k' m =>
   have hg:(eqGuard op t ox oy (.int k n) (.int k' m)).run P w=.ok () w:=by cases op <;> simp [eqGuard]
   simp only [Sem.run_bind,hg,Result.andThen_ok]
   cases op with
   | shl =>
    simp only [Jh] at h
    split at h
    ·rename_i h0; cases h;exact ⟨_,by simp [binOp,Op.shift,show ¬ m < 0 by omega],.int _ _⟩
    ·cases h
   | shr =>
    simp only [Jh] at h
    split at h
    ·rename_i h0; cases h;exact ⟨_,by simp [binOp,Op.shift,show ¬ m < 0 by omega],.int _ _⟩
    ·cases h
   | quo =>
    simp only [Jh] at h
    split at h
    rotate_left
    ·cases h
    rename_i hk; subst hk
    split at h
    ·cases h
    rename_i h0; cases h;exact ⟨_,by simp [binOp,Op.intDiv,h0],.int _ _⟩
   | rem =>
    simp only [Jh] at h
    split at h
    rotate_left
    ·cases h
    rename_i hk; subst hk
    split at h
    ·cases h
    rename_i h0; cases h;exact ⟨_,by simp [binOp,Op.intDiv,h0],.int _ _⟩
   | add=>simp only [Jh] at h; split at h; (rename_i hk; subst hk; cases h; exact ⟨_,by simp [binOp,Op.intArith],.int _ _⟩); cases h
   | sub=>simp only [Jh] at h; split at h; (rename_i hk; subst hk; cases h; exact ⟨_,by simp [binOp,Op.intArith],.int _ _⟩); cases h
   | mul=>simp only [Jh] at h; split at h; (rename_i hk; subst hk; cases h; exact ⟨_,by simp [binOp,Op.intArith],.int _ _⟩); cases h
   | and=>simp only [Jh] at h; split at h; (rename_i hk; subst hk; cases h; exact ⟨_,by simp [binOp,Op.intBits],.int _ _⟩); cases h
   | or=>simp only [Jh] at h; split at h; (rename_i hk; subst hk; cases h; exact ⟨_,by simp [binOp,Op.intBits],.int _ _⟩); cases h
   | xor=>simp only [Jh] at h; split at h; (rename_i hk; subst hk; cases h; exact ⟨_,by simp [binOp,Op.intBits],.int _ _⟩); cases h
   | andNot=>simp only [Jh] at h; split at h; (rename_i hk; subst hk; cases h; exact ⟨_,by simp [binOp,Op.intBits],.int _ _⟩); cases h
   | eql=>simp only [Jh] at h; split at h; (rename_i hk; subst hk; cases h; exact ⟨_,by simp [binOp,Op.intCmp],.bool _⟩); cases h
   | neq=>simp only [Jh] at h; split at h; (rename_i hk; subst hk; cases h; exact ⟨_,by simp [binOp,Op.intCmp],.bool _⟩); cases h
   | lss=>simp only [Jh] at h; split at h; (rename_i hk; subst hk; cases h; exact ⟨_,by simp [binOp,Op.intCmp],.bool _⟩); cases h
   | leq=>simp only [Jh] at h; split at h; (rename_i hk; subst hk; cases h; exact ⟨_,by simp [binOp,Op.intCmp],.bool _⟩); cases h
   | gtr=>simp only [Jh] at h; split at h; (rename_i hk; subst hk; cases h; exact ⟨_,by simp [binOp,Op.intCmp],.bool _⟩); cases h
   | geq=>simp only [Jh] at h; split at h; (rename_i hk; subst hk; cases h; exact ⟨_,by simp [binOp,Op.intCmp],.bool _⟩); cases h
  | _=>simp [Jh] at h
 | str s =>
  cases hy with
  | str s' =>
   have hg:(eqGuard op t ox oy (.string s) (.string s')).run P w=.ok () w:=by cases op <;> simp [eqGuard]
   simp only [Sem.run_bind,hg,Result.andThen_ok]
   cases op with
   | add =>
    simp only [Jh] at h
    split at h
    ·rename_i h0; cases h;refine ⟨_,?_,.str _⟩;have:¬ ((s.size+s'.size:Nat):Int) > IntKind.i64.max:=by
      have:IntKind.i64.max=9223372036854775807:=by decide
      omega
     simp only [binOp,Op.stringOp,this,if_false];rfl
    ·cases h
   | eql=>simp only [Jh,Option.some.injEq] at h; subst h; exact ⟨_,by simp [binOp,Op.stringOp],.bool _⟩
   | neq=>simp only [Jh,Option.some.injEq] at h; subst h; exact ⟨_,by simp [binOp,Op.stringOp],.bool _⟩
   | _=>simp [Jh] at h
  | _=>simp [Jh] at h
 | bool b =>
  cases hy with
  | bool b' =>
   have hg:(eqGuard op t ox oy (.bool b) (.bool b')).run P w=.ok () w:=by cases op <;> simp [eqGuard]
   simp only [Sem.run_bind,hg,Result.andThen_ok];simp only [Jh] at h
   split at h
   rotate_left
   ·cases h
   rename_i htb;have hu:P.underlying t=ac .bool:=by
    unfold isB at htb
    split at htb
    ·rename_i h; exact h
    ·cases htb
   cases op with
   | eql=>simp only [Option.some.injEq] at h; subst h; exact ⟨_,run_eql_bool w t b b' hu,.bool _⟩
   | neq=>simp only [Option.some.injEq] at h; subst h; exact ⟨_,run_neq_bool w t b b' hu,.bool _⟩
   | _=>simp at h
  | _=>simp [Jh] at h
 | _=>simp [Jh] at h
theorem qfB{xs:Os}{ns:gs}{vs:List Value}(h:qch xs=ac ns)(hl:xs.length=vs.length)(hv:∀ (i:Nat) (x:A) (v:Value),xs[i]?=ac x->vs[i]?=ac v->VR w g st.O st.R x v):vs=ns.map (.int .i64):=by
 induction xs generalizing ns vs with
 | nil=>simp [qch] at h; subst h; exact zQZ hl.symm
 | cons x xs ih =>
  obtain ⟨v,vs,rfl⟩:∃ v vs',vs=v :: vs':=by
   cases vs with
   | nil=>simp at hl
   | cons v vs=>exact ⟨v,vs,rfl⟩
  unfold qch at h
  split at h
  ·rename_i heq; cases heq
  ·rename_i n r heq;injection heq with h1 h2
   subst h1 h2
   split at h
   ·rename_i l hl'
    cases h
    have:=(hv 0 _ v rfl rfl).int;subst this;rw [ih (vs:=vs) hl' wz5 (λi x v h1 h2=>hv (i+1) x v (by simpa using h1) (by simpa using h2))];rfl
   ·cases h
  ·cases h
theorem qav(d:Nat)(xs ys:gs):∀ (fs:List Field) (k:Nat),qhe P k fs=true->xs.length=k+fs.length->ys.length=k+fs.length ->
  (Op.eqFields (d+1) (xs.map (Value.int .i64)).toArray (ys.map (Value.int .i64)).toArray fs).run P w=.ok (xs.drop k == ys.drop k) w
 | [],k,_,hx,hy=>by
  rw [zXz (by simp at hx; omega),zXz (by simp at hy; omega)];simp [Op.eqFields]
 | f :: fs,k,h,hx,hy=>by
  simp only [qhe,sk,bne_iff_ne,beq_iff_eq] at h;obtain ⟨⟨⟨h1,h2⟩,h3⟩,h4⟩:=h;have hu:P.underlying f.type=ac (.int .i64):=by
   split at h3
   ·assumption
   ·cases h3
  simp only [zQw] at hx hy;have hkx:k < xs.length:=by omega
  have hky:k < ys.length:=by omega
  have px:(Go.part f.type (xs.map (Value.int .i64)).toArray f.offset).run P w=.ok (.int .i64 xs[k]) w:=by simp [Go.part,isAgg,run_underlying hu,h2,hkx]
  have py:(Go.part f.type (ys.map (Value.int .i64)).toArray f.offset).run P w=.ok (.int .i64 ys[k]) w:=by simp [Go.part,isAgg,run_underlying hu,h2,hky]
  have he:=run_equalIn_int (P:=P) w d f.type .i64 .i64 xs[k] ys[k] hu;have ih:=qav d xs ys fs (k+1) h4 al al;have ex:(xs.drop k == ys.drop k)=((xs[k] == ys[k]) && (xs.drop (k+1) == ys.drop (k+1))):=by
   rw [zYZ hkx,zYZ hky]; rfl
  rw [ex];simp only [Op.eqFields,if_pos h1,Sem.run_bind,px,py,he,Result.andThen_ok];generalize (xs[k] == ys[k])=q
  cases q
  ·simp
  ·simpa using ih
theorem qaw{t:TypeId}{n:Nat}{xs ys:gs}(h:qiO P t=ac n)(hx:xs.length=n)(hy:ys.length=n)(op:BinOp)(ox oy:Operand) :
  (eqGuard op t ox oy (.agg (xs.map (Value.int .i64)).toArray) (.agg (ys.map (Value.int .i64)).toArray)).run P w=.ok () w /\
  (Op.equalIn 10000 t (.agg (xs.map (Value.int .i64)).toArray) (.agg (ys.map (Value.int .i64)).toArray)).run P w=.ok (xs == ys) w:=by
 unfold qiO at h
 split at h
 rotate_left
 ·cases h
 rename_i fs hu
 split at h
 rotate_left
 ·cases h
 rename_i hc;simp only [Option.some.injEq] at h;simp only [sk,Bool.not_eq_true'] at hc;obtain ⟨⟨h1,h2⟩,h3⟩:=hc;have hf:P.fieldsOf t=fs:=by simp [Program.fieldsOf,hu]
 refine ⟨run_eqGuard_agg w op t ox oy _ _ h2,?_⟩;have:=run_equalIn_struct (P:=P) w 9999 t (xs.map (Value.int .i64)).toArray (ys.map (Value.int .i64)).toArray (by rw [hf]; exact hu) h1;rw [this,hf];have h5:=qav (P:=P) (w:=w) 9998 xs ys fs.toList 0 h3 f6 f6
 simpa using h5
theorem Od{xs:Os}{ns:gs}{v:Value}(h:qch xs=ac ns)(hv:VR w g st.O st.R (.agg xs) v):v=.agg (ns.map (Value.int .i64)).toArray:=by
 cases hv with
 | agg l vs hl hx=>rw [qfB h hl hx]
theorem UT:∀ {rows:it} {l:gs},Jv rows=ac l->l.length=rows.length/\∀ (i:Nat) (row:Or),rows[i]?=ac row->row=[.int .u8 (l.getD i 0)]
 | [],l,h=>by simp [Jv] at h; subst h; simp
 | r :: rows,l,h=>by
  unfold Jv at h
  split at h
  ·rename_i heq; cases heq
  ·rename_i n rs heq;injection heq with h1 h2
   subst h1 h2
   split at h
   ·rename_i l' hl'
    cases h
    obtain ⟨h3,h4⟩:=UT hl';refine ⟨by simp [h3],λi row hr=>?_⟩
    cases i with
    | zero=>simp at hr; simpa using hr.symm
    | succ i=>simpa using h4 i row (by simpa using hr)
   ·cases h
  ·cases h
theorem HT.take1{F:Nat->Prop}{rows:it}{cs:List Value}(h:HT w F 1 rows cs)(k:Nat):HT w F 1 (rows.take k) (cs.take k):=by
 have hs:=h.size;refine ⟨by simp; omega,λi row hi=>h.len i row (by rw [zQy] at hi; split at hi <;> simp_all),λi row j x hi hj=>?_⟩;rw [zQy] at hi
 split at hi
 ·rename_i hlt;have hlen:=h.len i row hi;have hj0:j < row.length:=(ln.1 hj).1;obtain ⟨u,hu,ho,hr⟩:=h.rd i row j x hi hj;exact ⟨u,by rw [zQy,if_pos al]; exact hu,ho,hr⟩
 ·cases hi
theorem HT.drop1{F:Nat->Prop}{rows:it}{cs:List Value}(h:HT w F 1 rows cs)(k:Nat):HT w F 1 (rows.drop k) (cs.drop k):=by
 have hs:=h.size;refine ⟨by simp; omega,λi row hi=>h.len (k+i) row (by rw [zQx] at hi; exact hi),λi row j x hi hj=>?_⟩;rw [zQx] at hi;obtain ⟨u,hu,ho,hr⟩:=h.rd (k+i) row j x hi hj;exact ⟨u,by rw [zQx,show k+(i*1+j)=(k+i)*1+j by omega]; exact hu,ho,hr⟩
theorem UU{r lo:Nat}{e:TypeId}{rows ys:it}{cs:List Value}(hM:io E g st w)(hx:st.rw r=ac (.live e 1 rows))(hl:cs.length=ys.length)(hfit:lo+ys.length<=rows.length)(hpos:0 < ys.length)(hY:HT w g.F 1 ys cs) :
  ∃ b c cur,g.rw r=.slice (ac ⟨b,0,cl⟩) rows.length c/\w.heap[b]?=ac (.cells cur e (0,0))/\lo+cs.length<=cur.size /\
   (io E g { st with rw:=gB st.rw r (ac (.live e 1 (rows.take lo++ys++rows.drop (lo+ys.length)))) } (w.setRow b (cur.toList.take lo++cs++cur.toList.drop (lo+cs.length)).toArray) /\
   vO w (w.setRow b (cur.toList.take lo++cs++cur.toList.drop (lo+cs.length)).toArray) g g st.O st.R ({ st with rw:=gB st.rw r (ac (.live e 1 (rows.take lo++ys++rows.drop (lo+ys.length)))) }:St).O ({ st with rw:=gB st.rw r (ac (.live e 1 (rows.take lo++ys++rows.drop (lo+ys.length)))) }:St).R):=by
 have hL:st.L r:=⟨_,_,_,hx⟩;obtain ⟨inner,hown,hR,hfree⟩:=(hM.row r _ hx).rcs;rcases hown.2 with ⟨hv,hn0⟩ | ⟨b,cap,cur,hv,_,hh,hnc,hcm,hcs,htake⟩
 ·omega
 ·have hil:inner.length=rows.length:=by have:=hown.1; omega
  have hcur:rows.length<=cur.size:=by omega
  refine ⟨b,cap,cur,hv,hh,by omega,?_⟩;have hn':(rows.take lo++ys++rows.drop (lo+ys.length)).length=rows.length:=by simp; omega
  have hrow:p5 E.w0 (w.setRow b (cur.toList.take lo++cs++cur.toList.drop (lo+cs.length)).toArray) E.X g.F (g.rw r) (.live e 1 (rows.take lo++ys++rows.drop (lo+ys.length))):=by
   have hS1:ER g.F w (w.setRow b (cur.toList.take lo++cs++cur.toList.drop (lo+cs.length)).toArray):=λk hk=>setRow_other w b k _ (λe=>(hfree b (by rw [hv]; rfl)).1 (e ▸ hk));refine ((((hR.take1 lo).app hY).app (hR.drop1 (lo+ys.length))).mono hS1 (λ_ h=>h)).rowAt ?_ hfree;refine ⟨by simp; omega,.inr ⟨b,cap,_,by rw [hn']; exact hv,zZv _,setRow_heap w _ cur _ e _ hh,by rw [hn']; exact hnc,hcm,by simp; omega,?_⟩⟩;rw [hn',<- htake];have e1:(cur.toList.take (rows.length*1)).take lo=cur.toList.take lo:=by rw [List.take_take]; congr 1; omega
   have e2:(cur.toList.take (rows.length*1)).drop (lo+ys.length)=(cur.toList.drop (lo+cs.length)).take (rows.length*1 - (lo+cs.length)):=by rw [List.drop_take,hl]
   rw [e1,e2];simp only [zQJ];rw [List.take_append,List.take_append];have h1:(cur.toList.take lo).length=lo:=by simp; omega
   rw [h1,zWj (show (cur.toList.take lo).length<=_ by rw [h1]; omega),zWj (show cs.length<=_ by omega)]
   congr 3
   omega
  refine hM.set_row (w':=w.setRow b (cur.toList.take lo++cs++cur.toList.drop (lo+cs.length)).toArray) ⟨rfl,rfl,rfl,by simp [World.setRow]⟩ r _ e 1 _ hx hL (λk hk hne=>setRow_other w b k _ (λhe=>hne (by rw [hv]; simp [Value.ownBlock,he]))) hrow
theorem Un{r:Nat}{x:RZ}(h:st.rw r=ac x):({ st with rw:=gB st.rw r (ac x) }:St)=st:=by
 have:gB st.rw r (ac x)=st.rw:=by
  funext i
  unfold gB
  split
  ·rename_i h0; rw [h0,h]
  ·rfl
 rw [this]
theorem qeu{o:Oper}{xs ys:Operand}{x vy:A}{t t':TypeId}{r lo m n:Nat}(hS:lj E g n st a w)(ho:o.op=.call { callee:=.builtin .copy,args:=#[xs,ys],argTypes:=#[t,t'] })(hvx:VR w g st.O st.R (.win r lo m) (a.eval xs))(hvy:VR w g st.O st.R vy (a.eval ys))
  (h:(N8 P t r lo m vy).run st=ac (x,st')):∃ u g' w',Ji P o a w u w'/\D1 E g st w x st' u g' w':=by
 have hM:=hS.mem;unfold N8 at h
 split at h
 rotate_left
 ·exact (aQ h).elim
 rename_i e hu
 split at h
 rotate_left
 ·exact (aQ h).elim
 rename_i hk1;obtain ⟨i,hi1,hi2⟩:=nZ hk1;have hsz1:(P.info? e).map (·.size)=ac 1:=by rw [hi1]; simp [hi2]
 obtain ⟨rows2,sz,ad,c,h,hyv,hY⟩:=Jx hM hvy h
 split at h
 rotate_left
 ·exact (aQ h).elim
 rename_i hsz0;obtain ⟨hsz,hlm⟩:=hsz0;simp only [MA.run] at h
 cases hx:st.rw r with
 | none=>simp [hx,MA.run] at h
 | some xx =>
  cases xx with
  | gone=>simp [hx,MA.run] at h
  | frz sz' rows=>simp [hx,MA.run] at h
  | live e' sz' rows =>
   simp only [hx] at h
   split at h
   rotate_left
   ·exact (aQ h).elim
   rename_i hc;obtain ⟨rfl,hlo⟩:=hc;simp only [MA.run,Option.some.injEq,Prod.mk.injEq] at h;obtain ⟨rfl,rfl⟩:=h;have fin:∀ {v':Value} {w':World},(Builtin.copy_ #[t,t'] o.type #[a.eval xs,a.eval ys]).run P w=.ok v' w'->Ji P o a w v' w':=by
    intro v' w' hr;refine .inl ?_;simp only [execOp,ho,resolve,invoke,builtin,Sem.run_bind,Sem.run_pure,Result.andThen_ok,zVJ,zXV,List.map_nil,hr]
   generalize hvv:a.eval xs=vv at hvx
   cases hvx with
   | win _ _ _ n0 c0 c' ad0 a' hr he hm hp =>
    have hn0:n0=rows.length:=by
     obtain ⟨inner,hown,_⟩:=hM.row r _ hx;rcases hown.2 with ⟨hv0,h0⟩ | ⟨b,cap,cur,hv0,_⟩
     ·rw [hv0] at he; injection he with _ h1; omega
     ·rw [hv0] at he; injection he with _ h1; exact h1.symm
    subst hn0;have hvx':a.eval xs=.slice a' m c':=hvv
    by_cases h0:rows2.length=0
    ·have hnil:rows2=[]:=zQZ h0;subst hnil;have hov:rows.take lo++[]++rows.drop (lo+([]:it).length)=rows:=by simp
     rw [hov,Un hx];have hrun:=run_copy_none (P:=P) w t t' o.type e a' ad m c' 0 c hu hsz1 ig;rw [<- hvx'] at hrun;have hyv':a.eval ys=.slice ad 0 c:=hyv;rw [<- hyv'] at hrun;exact ⟨_,g,w,fin hrun,hM,.t _ _ (.int _ _),vO.refl _ _ _ _,rfl⟩
    ·have hne:rows2≠[]:=λh1=>h0 (by rw [h1]; rfl);have hs1:=hsz.resolve_right hne;subst hs1;obtain ⟨bs,off,rfl,news,hnl,hnc,hn1,hnr⟩:=hY.flat hne;have hR2:HT w g.F 1 rows2 news:=⟨hnl,hY.len,λi row j x h1 h2=>let ⟨u,hu,hr⟩:=hnr i row j x h1 h2; ⟨u,hu,hr.one.1,hr⟩⟩;have hnl':news.length=rows2.length:=by rw [hnl,zVX]
     have hmin:min rows2.length m=rows2.length:=by omega
     obtain ⟨b,c1,cur,hgr,hh,hfit,hM2,hE2⟩:=UU (lo:=lo) (ys:=rows2) (cs:=news) hM hx hnl' al al hR2;obtain ⟨b',hb1,hb2⟩:=hp al;have hbb:b'=b:=by
      rw [he] at hgr;injection hgr with h1 _ _
      rw [hb1] at h1;injection h1 with h1
      injection h1 with h1
     subst hbb;have hrun:=run_copy_row (P:=P) w t t' o.type e b' lo m c' ⟨bs,off,cl⟩ rows2.length c cur e' news hu hsz1 hh (by rw [hnl']; exact hmin.symm)
      (λj v hj=>hnc j v hj) hfit (λv hv=>hn1 v hv)
     rw [<- hb2,<- hvx',<- hyv] at hrun;exact ⟨_,g,_,fin hrun,hM2,by rw [hnl']; exact .t _ _ (.int _ _),hE2,rfl⟩
theorem qfC{o:Oper}{xs ys:Operand}{x vx vy:A}{ts:Array TypeId}{n:Nat}(hS:lj E g n st a w)(ho:o.op=.call { callee:=.builtin .copy,args:=#[xs,ys],argTypes:=ts })(hvx:VR w g st.O st.R vx (a.eval xs))(hvy:VR w g st.O st.R vy (a.eval ys))
  (h:(Mr P ts.toList vx vy).run st=ac (x,st')):∃ u g' w',Ji P o a w u w'/\D1 E g st w x st' u g' w':=by
 have hM:=hS.mem;unfold Mr at h
 split at h
 ·rename_i t t' r lo m hts;have hts':ts=#[t,t']:=by rw [<- zWy (xs:=ts),hts]
  subst hts';exact qeu hS ho hvx hvy h
 rotate_left
 ·exact (aQ h).elim
 rename_i t t' r nn lo hts;have hts':ts=#[t,t']:=by rw [<- zWy (xs:=ts),hts]
 subst hts'
 split at h
 rotate_left
 ·exact (aQ h).elim
 rename_i e hu
 split at h
 rotate_left
 ·exact (aQ h).elim
 rename_i hk;obtain ⟨hk1,rfl⟩:=hk;obtain ⟨i,hi1,hi2⟩:=nZ hk1;have hsz1:(P.info? e).map (·.size)=ac 1:=by rw [hi1]; simp [hi2]
 obtain ⟨rows2,sz,ad,c,h,hyv,hY⟩:=Jx hM hvy h
 split at h
 rotate_left
 ·exact (aQ h).elim
 rename_i hsz;simp only [MA.run] at h
 cases hx:st.rw r with
 | none=>simp [hx,MA.run] at h
 | some xx =>
  cases xx with
  | gone=>simp [hx,MA.run] at h
  | frz sz' rows=>simp [hx,MA.run] at h
  | live e' sz' rows =>
   simp only [hx] at h
   split at h
   rotate_left
   ·exact (aQ h).elim
   rename_i hc;obtain ⟨rfl,hlo⟩:=hc;simp only [MA.run,Option.some.injEq,Prod.mk.injEq] at h;obtain ⟨rfl,rfl⟩:=h;have fin:∀ {v':Value} {w':World},(Builtin.copy_ #[t,t'] o.type #[a.eval xs,a.eval ys]).run P w=.ok v' w'->Ji P o a w v' w':=by
    intro v' w' hr;refine .inl ?_;simp only [execOp,ho,resolve,invoke,builtin,Sem.run_bind,Sem.run_pure,Result.andThen_ok,zVJ,zXV,List.map_nil,hr]
   generalize hvv:a.eval xs=vv at hvx
   cases hvx with
   | sub _ _ _ n0 c0 c' ad0 a' hr he hp =>
    have hn0:n0=rows.length:=by
     obtain ⟨inner,hown,_⟩:=hM.row r _ hx;rcases hown.2 with ⟨hv0,h0⟩ | ⟨b,cap,cur,hv0,_⟩
     ·rw [hv0] at he; injection he with _ h1; omega
     ·rw [hv0] at he; injection he with _ h1; exact h1.symm
    subst hn0;have hvx':a.eval xs=.slice a' (rows.length - lo) c':=hvv
    by_cases h0:min rows2.length (rows.length - lo)=0
    ·have hov:qap rows rows2 lo=rows:=by
      unfold qap;rw [h0,zYV];have:rows2.take (rows.length - lo)=[]:=by
       rcases Nat.eq_zero_or_pos rows2.length with h1 | h1
       ·rw [zQZ h1]; simp
       ·rw [show rows.length - lo=0 by omega]; simp
      rw [this,zWV,zXv]
     rw [hov,Un hx,h0];have hrun:=run_copy_none (P:=P) w t t' o.type e a' ad (rows.length - lo) c' rows2.length c hu hsz1 (by exact h0);rw [<- hvx',<- hyv] at hrun;exact ⟨_,g,w,fin hrun,hM,.t _ _ (.int _ _),vO.refl _ _ _ _,rfl⟩
    ·have hne:rows2≠[]:=λh1=>h0 (by rw [h1]; simp);have hs1:=hsz.resolve_right hne;subst hs1;obtain ⟨bs,off,rfl,news,hnl,hnc,hn1,hnr⟩:=hY.flat hne;have hR2:HT w g.F 1 rows2 news:=⟨hnl,hY.len,λi row j x h1 h2=>let ⟨u,hu,hr⟩:=hnr i row j x h1 h2; ⟨u,hu,hr.one.1,hr⟩⟩;have hk:(rows2.take (rows.length - lo)).length=min rows2.length (rows.length - lo):=by rw [zQk,Nat.min_comm]
     have hnl':(news.take (rows.length - lo)).length=min rows2.length (rows.length - lo):=by rw [zQk,hnl,zVX,Nat.min_comm]
     obtain ⟨b,c1,cur,hgr,hh,hfit,hM2,hE2⟩:=UU (lo:=lo) (ys:=rows2.take (rows.length - lo)) (cs:=news.take (rows.length - lo)) hM hx (by rw [hk,hnl']) (by rw [hk]; omega) (by rw [hk]; omega) (hR2.take1 _);obtain ⟨b',hb1,hb2⟩:=hp al;have hbb:b'=b:=by
      rw [he] at hgr;injection hgr with h1 _ _
      rw [hb1] at h1;injection h1 with h1
      injection h1 with h1
     subst hbb;have hrun:=run_copy_row (P:=P) w t t' o.type e b' lo (rows.length - lo) c' ⟨bs,off,cl⟩ rows2.length c cur e' (news.take (rows.length - lo)) hu hsz1 hh (by rw [hnl'])
      (λj v hj=>hnc j v (by rw [zQy] at hj; split at hj; exact hj; cases hj)) hfit (λv hv=>hn1 v (zWJ hv))
     have hb3:a'=ac ⟨b',lo,cl⟩:=by rw [hb2]; simp
     rw [<- hb3,<- hvx',<- hyv] at hrun;rw [hk] at hM2 hE2;exact ⟨_,g,_,fin hrun,hM2,by rw [hnl']; exact .t _ _ (.int _ _),hE2,rfl⟩
theorem Xc(v:Value)(n:Nat):(Builtin.zeroCells #[v] n).toList=zQG n v:=by
 apply zYy
 intro i;simp only [Builtin.zeroCells,Array.toList_map,zQV,Array.toList_range,zZh];simp only [zVk,zQw,zXx,zVX,zWY,Nat.mod_one]
 by_cases h:i < n
 ·rw [zZw h,if_pos h]; rfl
 ·rw [zXK (by simpa using h),if_neg h]; rfl
theorem qev{o:Oper}{xs:Operand}{x vx:A}{ts:Array TypeId}{n:Nat}(hS:lj E g n st a w)(ho:o.op=.call { callee:=.builtin .clear,args:=#[xs],argTypes:=ts })(hvx:VR w g st.O st.R vx (a.eval xs))
  (h:(N9 P ts.toList vx).run st=ac (x,st')):∃ u g' w',Ji P o a w u w'/\D1 E g st w x st' u g' w':=by
 have hM:=hS.mem;unfold N9 at h
 split at h
 rotate_left
 ·exact (aQ h).elim
 rename_i t r nn lo hts;have hts':ts=#[t]:=by rw [<- zWy (xs:=ts),hts]
 subst hts'
 split at h
 rotate_left
 ·exact (aQ h).elim
 rename_i e hu
 split at h
 rotate_left
 ·exact (aQ h).elim
 rename_i z hz
 split at h
 rotate_left
 ·exact (aQ h).elim
 rename_i hk;obtain ⟨hk1,rfl⟩:=hk;obtain ⟨i,zv,hi1,hzv,hC⟩:=Jz hz;have hCs:=hC w g st.O st.R;have hzs:zv.cells.size=1:=hCs.1;obtain ⟨u0,hu0⟩:∃ u0,zv.cells=#[u0]:=by
  match hq:zv.cells,hzs with
  | ⟨[u0]⟩,_=>exact ⟨u0,rfl⟩
 have hrd:Rd w g.F z u0:=by
  obtain ⟨_,u,hu1,hu2⟩:=hCs.2 0 (.t z) rfl;rw [hu0] at hu1;have:u0=u:=by simpa using hu1
  subst this
  cases hu2 with
  | t _ _ h=>exact h
 simp only [MA.run] at h
 cases hx:st.rw r with
 | none=>simp [hx,MA.run] at h
 | some xx =>
  cases xx with
  | gone=>simp [hx,MA.run] at h
  | frz sz' rows=>simp [hx,MA.run] at h
  | live e' sz' rows =>
   simp only [hx] at h
   split at h
   rotate_left
   ·exact (aQ h).elim
   rename_i hc;obtain ⟨rfl,hlo⟩:=hc;simp only [MA.run,Option.some.injEq,Prod.mk.injEq] at h;obtain ⟨rfl,rfl⟩:=h;have fin:∀ {v':Value} {w':World},(Builtin.clear_ #[t] o.type #[a.eval xs]).run P w=.ok v' w'->Ji P o a w v' w':=by
    intro v' w' hr;refine .inl ?_;simp only [execOp,ho,resolve,invoke,builtin,Sem.run_bind,Sem.run_pure,Result.andThen_ok,zVJ,zXV,List.map_nil,hr]
   generalize hvv:a.eval xs=vv at hvx
   cases hvx with
   | sub _ _ _ n0 c0 c' ad0 a' hr he hp =>
    have hn0:n0=rows.length:=by
     obtain ⟨inner,hown,_⟩:=hM.row r _ hx;rcases hown.2 with ⟨hv0,h0⟩ | ⟨b,cap,cur,hv0,_⟩
     ·rw [hv0] at he; injection he with _ h1; omega
     ·rw [hv0] at he; injection he with _ h1; exact h1.symm
    subst hn0;have hvx':a.eval xs=.slice a' (rows.length - lo) c':=hvv;have htup:VR w g st.O st.R (.tup []) (.tuple #[]):=.tup [] [] rfl ig
    by_cases h0:rows.length - lo=0
    ·have hov:rows.take lo++zQG (rows.length - lo) [z]=rows:=by
      rw [h0,List.replicate_zero,zWV,zWj al]
     rw [hov,Un hx];have hrun:(Builtin.clear_ #[t] o.type #[.slice a' 0 c']).run P w=.ok (.tuple #[]) w:=by
      cases a' <;> simp [Builtin.clear_,run_underlying hu]
     rw [h0] at hvx';rw [<- hvx'] at hrun;exact ⟨_,g,w,fin hrun,hM,htup,vO.refl _ _ _ _,rfl⟩
    ·have hRz:HT w g.F 1 (zQG (rows.length - lo) [z]) (zQG (rows.length - lo) u0):=by
      refine ⟨by simp,λi row hi=>?_,λi row j x hi hj=>?_⟩
      ·rw [zZh] at hi; split at hi <;> simp_all;subst hi; rfl
      ·rw [zZh] at hi
       split at hi
       ·rename_i hlt
        cases hi
        cases j with
        | zero =>
         simp only [zQz,Option.some.injEq] at hj;subst hj;exact ⟨u0,by rw [zZh,if_pos al],hrd.one.1,hrd⟩
        | succ j=>simp at hj
       ·cases hi
     obtain ⟨b,c1,cur,hgr,hh,hfit,hM2,hE2⟩:=UU (lo:=lo) hM hx ig f6 f6 hRz;obtain ⟨b',hb1,hb2⟩:=hp al;have hbb:b'=b:=by
      rw [he] at hgr;injection hgr with h1 _ _
      rw [hb1] at h1;injection h1 with h1
      injection h1 with h1
     subst hbb;have hb3:a'=ac ⟨b',lo,cl⟩:=by rw [hb2]; simp
     have hst:=run_storeCells_at P b' lo e' (zQG (rows.length - lo) u0) 0 cur w hh (by simpa using hfit) (λv hv=>by rw [(List.mem_replicate.1 hv).2]; exact hrd.one.1);obtain ⟨m,hm⟩:∃ m,rows.length - lo=m+1:=⟨rows.length - lo - 1,by omega⟩;have hrun:(Builtin.clear_ #[t] o.type #[.slice (ac ⟨b',lo,cl⟩) (rows.length - lo) c']).run P w=.ok (.tuple #[]) (w.setRow b' (cur.toList.take lo++zQG (rows.length - lo) u0++cur.toList.drop (lo+(zQG (rows.length - lo) u0).length)).toArray):=by
      rw [hm] at hst ⊢;simp only [zYV] at hst;simp [Builtin.clear_,run_underlying hu,zeroValue,typeInfo,hi1,hzv,hu0,Xc,hst]
     rw [<- hb3,<- hvx'] at hrun;have hdrop:rows.drop (lo+(zQG (rows.length - lo) [z]).length)=[]:=zXz f6;rw [hdrop,zWV] at hM2 hE2;exact ⟨_,g,_,fin hrun,hM2,htup.mono hE2,hE2,rfl⟩
end
section
variable {P:Program} {E:En} {g:Gh} {st st':St} {a:Act} {w:World}
theorem qax{o:Oper}{s t:TypeId}{y:Operand}{v x:A}{n:Nat}(hS:lj E g n st a w)(ho:o.op=.convert s t y)(hv:VR w g st.O st.R v (a.eval y))
  (h:(match P.underlying s,P.underlying t,ac v with
  | some _,ac (.int k),ac (.t (.int _ n))=>MA.ret (.t (.int k (k.wrap n)))
  | some _,ac .string,ac (.t (.str s))=>.ret (.t (.str s))
  | some (.slice e),ac .string,ac x=>match P.underlying e with
   | some (.int .u8)=>x.rows λ_ rows=>match Jv rows with | some l=>.ret (.t (.str (strOfNums l))) | none=>.fail
   | _=>.fail
  | _,_,_=>.fail:MA A).run st=ac (x,st')):∃ u g' w',Ji P o a w u w'/\D1 E g st w x st' u g' w':=by
 have hM:=hS.mem
 split at h
 ·rename_i d k kk nn h1 h2 h3
  cases h3
  have he:=hv.int;refine eB hM ?_ (.t _ _ (.int _ _)) h
  cases d <;> simp [execOp,ho,he,convert,run_underlying h1,run_underlying h2,Conv.intToInt]
 ·rename_i d s' h1 h2 h3
  cases h3
  have he:=hv.str;refine eB hM ?_ (.t _ _ (.str _)) h
  cases d <;> simp [execOp,ho,he,convert,run_underlying h1,run_underlying h2]
 ·rename_i e v' hneg h1 h2 h3;injection h3 with h3
  subst h3
  split at h
  ·rename_i he;obtain ⟨rows,sz,ad,c,h,hvv,hR⟩:=Jx hM hv h
   split at h
   ·rename_i l hl;obtain ⟨h4,h5⟩:=UT hl;refine eB hM ?_ (.t _ _ (.str _)) h;have hrun:(convert s t (a.eval y)).run P w=.ok (.string (strOfNums l)) w:=by
     rw [hvv]
     by_cases hne:rows=[]
     ·subst hne;have:l=[]:=zQZ h4;subst this
      cases ad with
      | none=>exact run_convert_bytes_nil w s e h1 he 0 c t h2
      | some ad =>
       simp [convert,run_underlying h1,run_underlying h2,run_underlying he,Conv.bytesToString,loadCells,loadCellsFrom];rfl
     ·obtain ⟨b,off,rfl,hx⟩:=hR.at_.resolve_left hne;refine run_convert_bytes_arg w s e h1 he b off rows.length c l h4 (λi hi=>?_) t h2;have hrow:=h5 i _ (sX hi);have hsz:sz=1:=by have:=hR.len i _ (sX hi); rw [hrow] at this; exact this.symm
      subst hsz;obtain ⟨u,hu,hr⟩:=hx i _ 0 (.int .u8 (l.getD i 0)) (sX hi) (by rw [hrow]; rfl)
      cases hr
      rw [zVX,zYV] at hu;exact hu
    simp [execOp,ho,hrun]
   ·exact (aQ h).elim
  ·exact (aQ h).elim
 ·exact (aQ h).elim
theorem qfD{α:Type}{st':St}{y:α}:∀ (l:Os) (st:St) (k:Or->MA α),(fg l k).run st=ac (y,st')->l.all A.one=true:=by
 intro l
 induction l with
 | nil=>intro _ _ _; rfl
 | cons q l ih =>
  intro st k h;simp only [fg] at h
  cases q with
  | t x=>exact (by show (A.one _ && l.all A.one)=gi; rw [ih _ _ h]; rfl)
  | nil=>exact (by show (A.one _ && l.all A.one)=gi; rw [ih _ _ h]; rfl)
  | own r =>
   simp only [A.toT,MA.run] at h
   split at h
   ·show (A.one _ && l.all A.one)=gi; rw [ih _ _ h]; rfl
   ·show (A.one _ && l.all A.one)=gi; rw [ih _ _ h]; rfl
   ·exact (aQ h).elim
  | _=>exact (aQ h).elim
theorem qfE{o:Oper}{e:TypeId}{y:Operand}{x v:A}{n:Nat}(hS:lj E g n st a w)(ho:o.op=.box e y)(hv:VR w g st.O st.R v (a.eval y))(h:(fg v.cells λts=>MA.ret (A.fadr ts)).run st=ac (x,st')) :
  ∃ v g' w',Ji P o a w v w'/\D1 E g st w x st' v g' w':=by
 obtain ⟨h1,h2,h3⟩:=hv.cells hS.mem (qfD _ _ _ h);obtain ⟨ts,st1,g1,hM1,hE1,ht1,h4,htl,hts⟩:=qas hS.mem (vs:=(a.eval y).cells.toList) (by rw [zQg]; exact h1) (λj x hj=>by
  obtain ⟨_,q,hq,hr⟩:=h3 j x hj;exact ⟨q,by simpa using hq,hr⟩) h
 obtain ⟨rfl,rfl⟩:=gK h4;have hnf:=AN hM1 (zWK w.heap.size);obtain ⟨hM2,hE2⟩:=hM1.step (w':=w.alloc (.cells (a.eval y).cells e)) (g':={ g1 with F:=λb=>g1.F b\/b=w.heap.size }) (st':=st') (Ms w _) (λ_=>False) (λb h1 _=>heap_alloc_old w _ b h1) (λ_ h=>h.elim) (λ_ _ h=>h.elim) (λ_ h=>.inl h)
  (λb h1 h2=>by
   have:=h1.resolve_left h2;subst this;exact ⟨by simp,λhlt=>by (have:=hM1.sizes; omega),.inr ⟨_,_,heap_alloc_new w _⟩⟩) (λ_ h=>⟨h,rfl⟩) (λ_ h=>⟨h,rfl⟩)
  (λs cells hs=>.inl ⟨hs,id,λhf=>hf.elim (hM1.ob_nf qfq).1 (λhe=>hnf.2.1 s qfq he)⟩) hM1.obne
  (λr x hr=>.inl ⟨hr,λhL b hb'=>⟨id,λhf=>hf.elim (hM1.row_nf hL hb').1 (λhe=>hnf.2.2 r hL (he ▸ hb'))⟩⟩) hM1.rowne hM1.rowob
 refine ⟨.pointer (ac ⟨w.heap.size,0,cl⟩),_,_,.inl ?_,hM2,?_,hE1.trans hE2,ht1.tm⟩
 ·simp [execOp,ho,Instr.box,newVar,newRow,newObj,Sem.run]
 ·refine .fadr ts w.heap.size 0 (λj=>(a.eval y).cells.toList.getD j undef) (.inr rfl) (λj t hj=>?_) (λj t hj=>?_)
  ·obtain ⟨u,hu,_,hr⟩:=hts j t hj;rw [zZx,hu];have hh:=heap_alloc_new w (.cells (a.eval y).cells e);simp only [World.cell?,hh,zWY]
   simpa using hu
  ·obtain ⟨u,hu,_,hr⟩:=hts j t hj;rw [zZx,hu];exact hr.mono hE2.same hE2.F
theorem Gs{n:Nat}(hS:lj E g n st a w){xs:List Operand}{l:Os}(h:eQ (xs.map st.eval)=ac l):l.length=(xs.map a.eval).length/\∀ (i:Nat) (x:A) (v:Value),l[i]?=ac x->(xs.map a.eval)[i]?=ac v->VR w g st.O st.R x v:=by
 obtain ⟨h1,h2⟩:=zJ h;refine ⟨by simp [h1],λi x v hx hv=>?_⟩;obtain ⟨y,hy,hf⟩:=h2 i x hx;rw [zQV,hy] at hv
 cases hv
 exact cm hS hf
theorem qcl{n:Nat}{o:Oper}{x:A}(hS:lj E g n st a w){ρ:Nat->fi}(h:(tl P ρ st.eval o).run st=ac (x,st')):∃ u g' w',Ji P o a w u w'/\D1 E g st w x st' u g' w':=by
 have hM:=hS.mem;unfold tl at h
 split at h
 ·-- move
  rename_i y ho
  split at h
  ·rename_i v hv;exact eB hM (by simp [execOp,ho]) (cm hS hv) h
  ·exact (aQ h).elim
 ·-- assign
  rename_i y ho
  split at h
  ·rename_i v hv;exact eB hM (by simp [execOp,ho]) (cm hS hv) h
  ·exact (aQ h).elim
 ·-- pick
  rename_i c y z ho
  split at h
  ·rename_i cb va vb hc ha hb;have he:=(cm hS hc).bool
   cases cb with
   | true=>exact eB hM (v:=a.eval y) (by simp [execOp,ho,he,asBool]) (by simpa using cm hS ha) h
   | false=>exact eB hM (v:=a.eval z) (by simp [execOp,ho,he,asBool]) (by simpa using cm hS hb) h
  ·exact (aQ h).elim
 ·-- alloc
  rename_i e ho
  split at h
  ·rename_i d z hd hz;exact qen hS ho hz h
  ·exact (aQ h).elim
 ·-- box
  rename_i e y ho
  split at h
  ·rename_i d v hd hv
   split at h
   ·exact qfE hS ho (cm hS hv) h
   ·exact qhg hS ho (cm hS hv) h
  ·exact (aQ h).elim
 ·-- build
  rename_i t parts ho
  split at h
  ·rename_i z pl ps hz hp hps
   split at h
   ·rename_i cs hcs;exact qeq hS ho hz hp hps hcs h
   ·exact (aQ h).elim
  ·exact (aQ h).elim
 ·-- buildSlice
  rename_i t m parts ho
  split at h
  ·rename_i e d ps hu hd hps
   split at h
   ·rename_i sz z hsz hz
    split at h
    ·rename_i hk;exact UR hS ho hu hsz hz hps hk h
    ·exact (aQ h).elim
   ·exact (aQ h).elim
  ·exact (aQ h).elim
 ·-- load
  rename_i t y ho
  split at h
  ·rename_i v hv;exact qfy hS ho (cm hS hv) h
  ·exact (aQ h).elim
 ·-- store
  rename_i t y z ho
  split at h
  ·rename_i v u hv hu;exact qep hS ho (cm hS hv) (cm hS hu) h
  ·exact (aQ h).elim
 ·-- nilCheck
  rename_i y ho;have hvr:∀ {v:A},st.eval y=ac v->VR w g st.O st.R v (a.eval y):=λh=>cm hS h
  split at h
  ·rename_i s k hv;have:=hvr hv;generalize hvv:a.eval y=vv at this
   cases this with
   | obj s off hs=>exact eB hM qft (.obj s k hs) h
  ·rename_i r sz ix k hv;have:=hvr hv;generalize hvv:a.eval y=vv at this
   cases this with
   | elem r sz i off b n c hr he=>exact eB hM qft (.elem r sz ix k b _ _ hr he) h
  ·rename_i cs hv;have:=hvr hv;generalize hvv:a.eval y=vv at this
   cases this with
   | fadr cells b off u hF hx hr=>exact eB hM qft (.fadr cs b _ u hF hx hr) h
  ·rename_i s cs hv;have:=hvr hv;generalize hvv:a.eval y=vv at this
   cases this with
   | exa _ cells b off u hs hD hx hr=>exact eB hM qft (.exa s cs b _ u hs hD hx hr) h
  ·rename_i f cs hv;have:=hvr hv;generalize hvv:a.eval y=vv at this
   cases this with
   | clo f caps vs hl hx=>exact eB hM qft (.clo f cs vs hl hx) h
  ·exact (aQ h).elim
 ·-- binOp
  rename_i op t y z yt ho
  split at h
  ·rename_i vx vy hx hy
   split at h
   ·rename_i r hr;obtain ⟨v,hrun,hrd⟩:=qhm (P:=P) (ox:=y) (oy:=z) hr (cm hS hx).tnum (cm hS hy).tnum;refine eB hM ?_ (.t _ _ hrd) h;simp only [Sem.run_bind] at hrun;simp only [execOp,ho,Sem.run_bind,hrun,Result.andThen_ok,Sem.run_pure]
   ·exact (aQ h).elim
  ·rename_i vx vy hx hy
   split at h
   ·rename_i m xs ys he hxs hys
    split at h
    ·rename_i hk;obtain ⟨hg,heq⟩:=qaw (w:=w) he hk.1 hk.2 .eql y z;refine eB hM ?_ (.t _ _ (.bool _)) h;simp only [execOp,ho,Od hxs (cm hS hx),Od hys (cm hS hy),Sem.run_bind,hg,run_eql_struct,heq,Result.andThen_ok,Sem.run_pure]
    ·exact (aQ h).elim
   ·rename_i m xs ys he hxs hys
    split at h
    ·rename_i hk;obtain ⟨hg,heq⟩:=qaw (w:=w) he hk.1 hk.2 .neq y z;refine eB hM ?_ (.t _ _ (.bool _)) h;simp only [execOp,ho,Od hxs (cm hS hx),Od hys (cm hS hy),Sem.run_bind,hg,run_neq_struct,heq,Result.andThen_ok,Sem.run_pure]
    ·exact (aQ h).elim
   ·exact (aQ h).elim
  ·rename_i sz rows hx hy
   split at h
   ·rename_i e hu;have h1:=cm hS hx;have h2:=cm hS hy;generalize hvx:a.eval y=vx at h1;generalize hvy:a.eval z=vy at h2
    cases h1 with
    | nn _ _ _ hr hv =>
     obtain ⟨ad,m,c,rfl⟩:=hv
     cases h2
     refine eB hM ?_ (.t _ _ (.bool _)) h;simp [execOp,ho,hvx,hvy,eqGuard,binOp,run_equal_slice_nil w t e (ac ad) m c hu]
   ·exact (aQ h).elim
  ·rename_i hx hy
   split at h
   ·rename_i e hu;have h1:=cm hS hx;have h2:=cm hS hy;generalize hvx:a.eval y=vx at h1;generalize hvy:a.eval z=vy at h2
    cases h1
    cases h2
    refine eB hM ?_ (.t _ _ (.bool _)) h;simp [execOp,ho,hvx,hvy,eqGuard,binOp,run_equal_slice_nil w t e cl 0 0 hu]
   ·exact (aQ h).elim
  ·exact (aQ h).elim
 ·-- unOp
  rename_i op t y ho
  split at h
  ·rename_i b hv;exact eB hM (by simp [execOp,ho,(cm hS hv).bool,Op.unary]) (.t _ _ (.bool _)) h
  ·rename_i k m hv;exact eB hM (by simp [execOp,ho,(cm hS hv).int,Op.unary,Op.intArith]) (.t _ _ (.int _ _)) h
  ·exact (aQ h).elim
 ·-- convert
  rename_i s t y ho
  cases hv:st.eval y with
  | none =>
   rw [hv] at h;exfalso
   split at h
   ·rename_i h3; cases h3
   ·rename_i h3; cases h3
   ·rename_i h3; cases h3
   ·exact aQ h
  | some v =>
   rw [hv] at h;exact qax hS ho (cm hS hv) h
 ·-- makeFunc
  rename_i f first caps ho
  split at h
  ·rename_i l hf hl;obtain ⟨h1,h2⟩:=Gs hS hl;have hf':first=#[]:=by rw [<- zWy (xs:=first),hf]
   subst hf';refine eB hM (v:=.func (.func f) #[] (caps.toList.map a.eval).toArray) ?_ (.clo f l _ h1 h2) h;simp [execOp,ho,Instr.makeFunc,zVJ];rw [<- Array.toList_map]
  ·exact (aQ h).elim
 ·-- makeSlice
  rename_i t yl yc ho
  split at h
  ·rename_i vl vc hl hc;unfold UP at h
   split at h
   ·rename_i e l c d hu hd1
    split at h
    ·rename_i zz m by_ z hi hz
     split at h
     ·rename_i hk;exact qfA hS ho (cm hS hl).int (cm hS hc).int hu hi hz hk h
     ·exact (aQ h).elim
    ·exact (aQ h).elim
   ·exact (aQ h).elim
  ·exact (aQ h).elim
 ·-- slice
  rename_i t y lo hi ho
  split at h
  ·rename_i v l k hv hl hk
   split at h
   ·rename_i hcw
    split at h
    ·split at h
     rotate_left
     ·exact qhl hS ho (cm hS hv) hl hk h
     rename_i hw hk0;rw [Option.isNone_iff_eq_none] at hk0;subst hk0;have:hi=none:=by
      cases hi with
      | none=>rfl
      | some z=>simp only [Qq,zWk] at hk; obtain ⟨_,_,hk⟩:=hk; cases hk
     subst this;exact qhk hS ho (cm hS hv) hl h
    ·rename_i hw;simp only [qem,hw,Bool.false_or,sk,Option.isNone_iff_eq_none] at hcw;obtain ⟨_,hl0⟩:=hcw;subst hl0;have:lo=none:=by
      cases lo with
      | none=>rfl
      | some z=>simp only [Qq,zWk] at hl; obtain ⟨_,_,hl⟩:=hl; cases hl
     subst this;exact qet hS ho (cm hS hv) hk h
   ·exact qes hS ho (cm hS hv) hl hk h
  ·exact (aQ h).elim
 ·-- fieldAddr
  rename_i s y f ho
  split at h
  ·rename_i v off t hv hf;exact Xa hS ho (cm hS hv) hf h
  ·exact (aQ h).elim
 ·-- field
  rename_i s y f ho
  split at h
  ·rename_i l off t hv hf
   split at h
   ·rename_i gg m hg hm
    split at h
    ·rename_i x' hx';obtain ⟨fs,fl,m',i,hu,hfl,h1,h2,h3,h4,h5,h6⟩:=R4 hf;have hvr:=cm hS hv;generalize hvv:a.eval y=vv at hvr
     cases hvr with
     | agg l vs hl hx =>
      rw [h3] at hm
      cases hm
      unfold Mq at hx'
      split at hx'
      ·rename_i hle
       cases gg with
       | true =>
        simp only [if_true,Option.some.injEq] at hx';subst hx';refine eB hM (v:=.agg ((vs.drop off).take m).toArray) ?_ (.agg _ _ (by simp [hl]) (λi x v hx1 hv1=>?_)) h
        ·simp [execOp,ho,hvv,Instr.field,run_underlying hu,hfl,h1,h2,asAgg,Go.part,Oc hg,sizeOf,typeInfo,h5,h6,List.take_drop]
        ·rw [zQy] at hx1 hv1
         split at hx1
         ·rename_i hlt;rw [if_pos hlt] at hv1;rw [zQx] at hx1 hv1;exact hx _ x v hx1 hv1
         ·cases hx1
       | false =>
        simp only [zWQ,if_false] at hx'
        split at hx'
        ·have hlt:off < vs.length:=by rw [<- hl]; exact (ln.1 hx').1
         refine eB hM (v:=vs[off]) ?_ (hx off x' _ hx' (sX hlt)) h;simp [execOp,ho,hvv,Instr.field,run_underlying hu,hfl,h1,h2,asAgg,Go.part,Oc hg,hlt]
        ·cases hx'
      ·cases hx'
    ·exact (aQ h).elim
   ·exact (aQ h).elim
  ·exact (aQ h).elim
 ·-- indexAddr
  rename_i t y z ho
  split at h
  ·rename_i v i hv hi;exact Xb hS ho (cm hS hv) (cm hS hi) h
  ·exact (aQ h).elim
 ·-- index
  rename_i t y z ho
  split at h
  ·rename_i s k i hu hv hi
   split at h
   ·rename_i h0
    split at h
    ·rename_i b hb;refine eB hM ?_ (.t _ _ (.int _ _)) h;simp [execOp,ho,(cm hS hv).str,(cm hS hi).int,Instr.index,asIntOf,run_underlying hu,h0,hb]
    ·exact (aQ h).elim
   ·exact (aQ h).elim
  ·exact (aQ h).elim
 ·-- extract
  rename_i y i ho
  split at h
  ·rename_i l hv
   split at h
   ·rename_i v hvi;have hvr:=cm hS hv;generalize hvv:a.eval y=vv at hvr
    cases hvr with
    | tup l vs hl hx =>
     have hlt:i < vs.length:=by rw [<- hl]; exact (ln.1 hvi).1
     refine eB hM (v:=vs[i]) ?_ (hx i v _ hvi (sX hlt)) h;simp [execOp,ho,hvv,Instr.extract,hlt]
   ·exact (aQ h).elim
  ·exact (aQ h).elim
 ·-- len
  rename_i args ts ho
  split at h
  ·rename_i y t ha ht;have ha':args=#[y]:=by rw [<- zWy (xs:=args),ha]
   have ht':ts=#[t]:=by rw [<- zWy (xs:=ts),ht]
   subst ha' ht'
   split at h
   ·rename_i v hv;exact qhj hS ho (cm hS hv) h
   ·exact (aQ h).elim
  ·exact (aQ h).elim
 ·-- append
  rename_i args ts ho
  split at h
  ·rename_i y z ha;have ha':args=#[y,z]:=by rw [<- zWy (xs:=args),ha]
   subst ha'
   split at h
   ·rename_i vx vy hx hy;exact qck hS ho (cm hS hx) (cm hS hy) h
   ·exact (aQ h).elim
  ·exact (aQ h).elim
 ·-- copy
  rename_i args ts ho
  split at h
  ·rename_i y z ha;have ha':args=#[y,z]:=by rw [<- zWy (xs:=args),ha]
   subst ha'
   split at h
   ·rename_i vx vy hx hy;exact qfC hS ho (cm hS hx) (cm hS hy) h
   ·exact (aQ h).elim
  ·exact (aQ h).elim
 ·-- clear
  rename_i args ts ho
  split at h
  ·rename_i y ha;have ha':args=#[y]:=by rw [<- zWy (xs:=args),ha]
   subst ha'
   split at h
   ·rename_i vx hx;exact qev hS ho (cm hS hx) h
   ·exact (aQ h).elim
  ·exact (aQ h).elim
 ·-- min
  rename_i args ts ho
  split at h
  ·rename_i y z ha;have ha':args=#[y,z]:=by rw [<- zWy (xs:=args),ha]
   subst ha'
   split at h
   ·rename_i k m k' m' hx hy;refine eB hM ?_ (.t _ _ (.int _ _)) h;simp [execOp,ho,resolve,invoke,builtin,Builtin.min_,Builtin.min2,(cm hS hx).int,(cm hS hy).int]
   ·exact (aQ h).elim
  ·exact (aQ h).elim
 ·-- max
  rename_i args ts ho
  split at h
  ·rename_i y z ha;have ha':args=#[y,z]:=by rw [<- zWy (xs:=args),ha]
   subst ha'
   split at h
   ·rename_i k m k' m' hx hy;refine eB hM ?_ (.t _ _ (.int _ _)) h;simp [execOp,ho,resolve,invoke,builtin,Builtin.max_,Builtin.max2,(cm hS hx).int,(cm hS hy).int]
   ·exact (aQ h).elim
  ·exact (aQ h).elim
 ·exact (aQ h).elim
end
inductive C where
 | t (x:T)
 | nil
 | ow (e sz:Nat) (rows:it)
 deriving Inhabited
inductive V where
 | one (c:C)
 | agg (l:List C)
 | tup (l:List V)
 | ptr (cells:List C)
 | fptr (cells:Or)
 | clo (f:FuncId) (caps:List V)
 deriving Inhabited
section
variable (w:World) (F:Nat->Prop)
inductive CV:C->Value->IO->Prop
 | t (x:T) (v:Value) (h:Rd w F x v):CV (.t x) v []
 | nil:CV .nil (.slice cl 0 0) []
 | ow (e sz:Nat) (rows:it) (v:Value) (inner:List Value) (h:w.ownsRow 0 e sz v rows.length inner) (hr:HT w F sz rows inner):CV (.ow e sz rows) v v.ownBlock.toList
inductive SS:List C->List Value->IO->Prop
 | nil:SS [] [] []
 | cons (c:C) (v:Value) (b:IO) (cs:List C) (vs:List Value) (bs:IO) (h:CV w F c v b) (hs:SS cs vs bs):SS (c :: cs) (v :: vs) (b++bs)
mutual
inductive VV:V->Value->IO->Prop
 | one (c:C) (v:Value) (bs:IO) (h:CV w F c v bs):VV (.one c) v bs
 | agg (l:List C) (vs:List Value) (bs:IO) (h:SS w F l vs bs):VV (.agg l) (.agg vs.toArray) bs
 | tup (l:List V) (vs:List Value) (bs:IO) (h:IJ l vs bs):VV (.tup l) (.tuple vs.toArray) bs
 | ptr (cells:List C) (b:Nat) (arr:Array Value) (e:TypeId) (vs:List Value) (bs:IO) (hb:w.heap[b]?=ac (.cells arr e (0,0))) (hl:vs=arr.toList.take vs.length) (hle:vs.length<=arr.size)
   (h:SS w F cells vs bs):VV (.ptr cells) (.pointer (ac ⟨b,0,cl⟩)) (b :: bs)
 | fptr (cells:Or) (b off:Nat) (u:Nat->Value) (hF:F b) (hx:∀ (j:Nat) (x:T),cells[j]?=ac x->w.cell? ⟨b,off+j,cl⟩=ac (u j)) (hr:∀ (j:Nat) (x:T),cells[j]?=ac x->Rd w F x (u j)) :
   VV (.fptr cells) (.pointer (ac ⟨b,off,cl⟩)) []
 | clo (f:FuncId) (caps:List V) (vs:List Value) (bs:IO) (h:IJ caps vs bs):VV (.clo f caps) (.func (.func f) #[] vs.toArray) bs
inductive IJ:List V->List Value->IO->Prop
 | nil:IJ [] [] []
 | cons (x:V) (v:Value) (b:IO) (l:List V) (vs:List Value) (bs:IO) (h:VV x v b) (hs:IJ l vs bs):IJ (x :: l) (v :: vs) (b++bs)
end
inductive ud:List V->List Value->List (List C)->IO->Prop
 | nil:ud [] [] [] []
 | ptr (c c':List C) (v:Value) (bs:IO) (l:List V) (vs:List Value) (os:List (List C)) (bo:IO) (h:VV w F (.ptr c') v bs) (hs:ud l vs os bo):ud (.ptr c :: l) (v :: vs) (c' :: os) (bs++bo)
 | skip (x:V) (v:Value) (l:List V) (vs:List Value) (os:List (List C)) (bo:IO) (hx:∀ c,x≠.ptr c) (hs:ud l vs os bo):ud (x :: l) (v :: vs) os bo
end
def AO(P:Program)(f:FuncId):Prop:=∃ fn,P.funcs[f]?=ac fn/\fn.body.isNone=go/\(fn.name == "runtime.NumGoroutine")=go
def aB(P:Program)(f:FuncId)(args:List V)(res:V)(outs:List (List C)):Prop :=
 AO P f/\∀ (w:World) (F:Nat->Prop) (vs:List Value) (bs:IO),(∀ b,F b->b < w.heap.size)->IJ w F args vs bs->bs.Nodup->(∀ b∈bs,¬ F b)->W9 P w (λb=>b∈bs) ->
  Calls P f vs.toArray w λe w'=>∃ v F' bv bo,e=.returned v/\vu w w'/\(∀ b,b < w.heap.size->b∉bs->w'.heap[b]?=w.heap[b]?)/\(∀ b,F b->F' b) /\
   (∀ b,F' b->b < w'.heap.size/\(b < w.heap.size->F b\/b∈bs)/\(F b\/Wr w' b))/\VV w' F' res v bv/\ud w' F' args vs outs bo/\(bv++bo).Nodup/\∀ b∈bv++bo,¬ F' b/\(w.heap.size<=b\/b∈bs)
def A.toC{α:Type}(m:Bool)(a:A)(k:C->MA α):MA α:=match m,a with
 | true,.own r=>.getRw r fun
  | some (.live e sz rows)=>.setRw r .gone (k (.ow e sz rows))
  | some (.frz sz rows)=>k (.t (.sl sz rows))
  | _=>.fail
 | true,.nil=>k .nil
 | _,a=>a.toT λx=>k (.t x)
def Mv{α:Type}(m:Bool):Os->(List C->MA α)->MA α
 | [],k=>k []
 | a :: r,k=>a.toC m λx=>Mv m r λxs=>k (x :: xs)
def JA{α:Type}(s:Nat)(k:List C->MA α):MA α:=.getOb s fun
 | some (c :: cells)=>Mv gi (c :: cells) λcs=>.setOb s [] (k cs)
 | _=>.fail
mutual
def un{α:Type}(m:Bool):A->(V->MA α)->MA α
 | .agg l,k=>Mv m l λcs=>k (.agg cs)
 | .fadr ts,k=>k (.fptr ts)
 | .clo f caps,k=>H1 m caps λvs=>k (.clo f vs)
 | .tup l,k=>H1 m l λvs=>k (.tup vs)
 | a,k=>a.toC m λc=>k (.one c)
def H1{α:Type}(m:Bool):Os->(List V->MA α)->MA α
 | [],k=>k []
 | a :: r,k=>un m a λx=>H1 m r λxs=>k (x :: xs)
end
def qay:Os->Option Or
 | []=>ac []
 | .t x :: r=>match qay r with | some l=>ac (x :: l) | none=>cl
 | _ :: _=>cl
def Oe{α:Type}(s:Nat)(k:List C->MA α):MA α:=.getOb s fun
 | some (c :: cells)=>match qay (c :: cells) with | some ts=>.setOb s [] (k (ts.map .t)) | none=>.fail
 | _=>.fail
def jY{α:Type}(m:Bool)(p:Nat->Bool):Os->(List V->MA α)->MA α
 | [],k=>k []
 | .obj s 0 :: r,k=>if p s then Oe s λcs=>jY m p r λxs=>k (.ptr cs :: xs) else JA s λcs=>jY m p r λxs=>k (.ptr cs :: xs)
 | a :: r,k=>un m a λx=>jY m p r λxs=>k (x :: xs)
def fh:Os->IO
 | []=>[]
 | .obj s 0 :: r=>s :: fh r
 | _ :: r=>fh r
def A.peekT{α:Type}(a:A)(k:T->MA α):MA α:=match a with
 | .t x=>k x
 | .ext go x=>k x
 | .nil=>k (.sl 0 [])
 | .own r=>.getRw r fun
  | some (.live _ sz rows)=>k (.sl sz rows)
  | some (.frz sz rows)=>k (.sl sz rows)
  | _=>.fail
 | _=>.fail
def Of{α:Type}:Os->(Or->MA α)->MA α
 | [],k=>k []
 | a :: r,k=>a.peekT λx=>Of r λxs=>k (x :: xs)
mutual
def k7{α:Type}:A->(V->MA α)->MA α
 | .agg l,k=>Of l λts=>k (.agg (ts.map .t))
 | .fadr ts,k=>k (.fptr ts)
 | .clo f caps,k=>fj caps λvs=>k (.clo f vs)
 | a,k=>a.peekT λx=>k (.one (.t x))
def fj{α:Type}:Os->(List V->MA α)->MA α
 | [],k=>k []
 | a :: r,k=>k7 a λx=>fj r λxs=>k (x :: xs)
end
def C.plain:C->Prop
 | .t x=>x.sc=gi
 | .nil=>True
 | .ow _ _ rows=>∀ row∈rows,∀ x∈row,T.sc x=gi
mutual
def V.plain:V->Prop
 | .one c=>c.plain
 | .agg l=>∀ c∈l,c.plain
 | .tup l=>AP l
 | _=>False
def AP:List V->Prop
 | []=>True
 | v :: r=>v.plain/\AP r
end
def C.toA{α:Type}(d id:Nat)(c:C)(k:A->MA α):MA α:=match c with
 | .t x=>k (.t x)
 | .nil=>k .nil
 | .ow e sz rows=>if id / 65536=d then .getRw id fun
  | none=>.setRw id (.live e sz rows) (k (.own id))
  | some _=>.fail
  else .fail
def Qu{α:Type}(d:Nat):Nat->List C->(Os->MA α)->MA α
 | _,[],k=>k []
 | id,c :: r,k=>c.toA d id λx=>Qu d (id+1) r λxs=>k (x :: xs)
mutual
def V.toA{α:Type}(d:Nat):Nat->V->(A->MA α)->MA α
 | id,.one c,k=>c.toA d id k
 | id,.agg l,k=>Qu d id l λjo=>k (.agg jo)
 | id,.tup l,k=>H2 d id l λjo=>k (.tup jo)
 | id,.ptr cells,k=>Qu d id cells λjo=>.getOb d fun
  | none=>.setOb d jo (k (.obj d 0))
  | some _=>.fail
 | _,.fptr ts,k=>k (.fadr ts)
 | id,.clo f caps,k=>H2 d id caps λjo=>k (.clo f jo)
def H2{α:Type}(d:Nat):Nat->List V->(Os->MA α)->MA α
 | _,[],k=>k []
 | id,v :: r,k=>V.toA d id v λx=>H2 d (id+1024) r λxs=>k (x :: xs)
end
section
variable {P:Program} {E:En} {g:Gh} {st st':St} {w:World}
theorem CV.mono{w w':World}{F F':Nat->Prop}{c:C}{v:Value}{bs:IO}(h:CV w F c v bs)(hs:ER F w w')(hF:∀ b,F b->F' b)(hb:∀ b∈bs,w'.heap[b]?=w.heap[b]?):CV w' F' c v bs:=by
 cases h with
 | t x v h=>exact .t x v (h.mono hs hF)
 | nil=>exact .nil
 | ow e sz rows v inner h hr =>
  refine .ow e sz rows v inner ⟨h.1,?_⟩ (hr.mono hs hF);rcases h.2 with hn | ⟨b,cap,cur,hv,hg,hh,r⟩
  ·exact .inl hn
  ·exact .inr ⟨b,cap,cur,hv,hg,by rw [hb b (by rw [hv]; simp [Value.ownBlock])]; exact hh,r⟩
theorem SS.mono{w w':World}{F F':Nat->Prop}{cs:List C}{vs:List Value}{bs:IO}(h:SS w F cs vs bs)(hs:ER F w w')(hF:∀ b,F b->F' b)(hb:∀ b∈bs,w'.heap[b]?=w.heap[b]?):SS w' F' cs vs bs:=by
 induction h with
 | nil=>exact .nil
 | cons c v b cs vs bs h hs' ih=>exact .cons c v b cs vs bs (h.mono hs hF (λx hx=>hb x wz6)) (ih (λx hx=>hb x wz6))
mutual
theorem VV.mono{w w':World}{F F':Nat->Prop}{x:V}{v:Value}{bs:IO}(h:VV w F x v bs)(hs:ER F w w')(hF:∀ b,F b->F' b)(hb:∀ b∈bs,w'.heap[b]?=w.heap[b]?):VV w' F' x v bs :=
 match h with
 | .one c v bs h=>.one c v bs (h.mono hs hF hb)
 | .agg l vs bs h=>.agg l vs bs (h.mono hs hF hb)
 | .tup l vs bs h=>.tup l vs bs (h.mono hs hF hb)
 | .ptr cells b arr e vs bs h1 h2 h3 h=>.ptr cells b arr e vs bs (by rw [hb b ig]; exact h1) h2 h3 (h.mono hs hF (λx hx=>hb x wz6))
 | .fptr cells b off u h1 h2 h3=>.fptr cells b off u (hF b h1) (λj x hj=>by rw [Ei hs h1]; exact h2 j x hj) (λj x hj=>(h3 j x hj).mono hs hF)
 | .clo f caps vs bs h=>.clo f caps vs bs (h.mono hs hF hb)
theorem IJ.mono{w w':World}{F F':Nat->Prop}{l:List V}{vs:List Value}{bs:IO}(h:IJ w F l vs bs)(hs:ER F w w')(hF:∀ b,F b->F' b)(hb:∀ b∈bs,w'.heap[b]?=w.heap[b]?):IJ w' F' l vs bs :=
 match h with
 | .nil=>.nil
 | .cons x v b l vs bs h hs'=>.cons x v b l vs bs (h.mono hs hF (λx hx=>hb x wz6)) (hs'.mono hs hF (λx hx=>hb x wz6))
end
end
section
variable {P:Program} {E:En} {g:Gh} {st:St} {w:World}
structure Xd (g:Gh) (st:St) (g1:Gh) (st1:St):Prop where
 L:∀ r,st1.L r->st.L r
 lent:∀ s,st1.ob s=st.ob s\/((∃ c cs,st.ob s=ac (c :: cs))/\st1.ob s=ac [])
 ob:g1.ob=g.ob
 rw:g1.rw=g.rw
 F:∀ b,g1.F b->g.F b\/∃ r,st.L r/\¬ st1.L r/\(g.rw r).ownBlock=ac b
 tm:st1.tm=st.tm
theorem Xd.refl(g:Gh)(st:St):Xd g st g st:=⟨λ_ h=>h,λ_=>.inl rfl,rfl,rfl,λ_ h=>.inl h,rfl⟩
theorem Mt.lnd{g1:Gh}{st1:St}(h:Mt g st g1 st1):Xd g st g1 st1:=⟨h.L,λs=>.inl (by rw [h.eob]),h.ob,h.rw,h.F,h.tm⟩
theorem Xd.trans{g1 g2 g3:Gh}{s1 s2 s3:St}(h:Xd g1 s1 g2 s2)(k:Xd g2 s2 g3 s3):Xd g1 s1 g3 s3:=by
 refine ⟨λr hr=>h.L r (k.L r hr),λs=>?_,k.ob.trans h.ob,k.rw.trans h.rw,λb hb=>?_,k.tm.trans h.tm⟩
 ·rcases h.lent s with h1 | ⟨h1,h2⟩
  ·rcases k.lent s with h3 | ⟨h3,h4⟩
   ·exact .inl (h3.trans h1)
   ·exact .inr ⟨h1 ▸ h3,h4⟩
  ·rcases k.lent s with h3 | ⟨h3,h4⟩
   ·exact .inr ⟨h1,h3.trans h2⟩
   ·exact .inr ⟨h1,h4⟩
 ·rcases k.F b hb with h1 | ⟨r,h1,h2,h3⟩
  ·rcases h.F b h1 with h4 | ⟨r,h4,h5,h6⟩
   ·exact .inl h4
   ·exact .inr ⟨r,h4,λh7=>h5 (k.L r h7),h6⟩
  ·exact .inr ⟨r,h.L r h1,h2,by rw [<- h.rw]; exact h3⟩
theorem Xd.O{g1:Gh}{st1:St}(h:Xd g st g1 st1)(s:Nat):st1.O s↔st.O s:=by
 unfold St.O;rcases h.lent s with h1 | ⟨⟨c,cs,h1⟩,h2⟩
 ·rw [h1]
 ·rw [h1,h2]; simp
structure Tk (g:Gh) (st:St) (g1:Gh) (st1:St) (bs:IO):Prop where
 nodup:bs.Nodup
 nf:∀ b∈bs,¬ g1.F b
 of:∀ b∈bs,(∃ r,st.L r/\¬ st1.L r/\(g.rw r).ownBlock=ac b)\/(∃ s,(∃ c cs,st.ob s=ac (c :: cs))/\st1.ob s=ac []/\g.ob s=b)
theorem Tk.nil(g:Gh)(st:St)(g1:Gh)(st1:St):Tk g st g1 st1 []:=⟨List.nodup_nil,by simp,by simp⟩
theorem Tk.app{g1 g2:Gh}{st1 st2:St}{bs bs':IO}(hM:io E g st w)(h:Tk g st g1 st1 bs)(hs:Xd g st g1 st1)(k:Tk g1 st1 g2 st2 bs')(ks:Xd g1 st1 g2 st2):Tk g st g2 st2 (bs++bs'):=by
 have hO:∀ {s},(∃ c cs,st.ob s=ac (c :: cs))->st.O s:=λ⟨c,cs,h⟩=>by simp [St.O,h]
 have up:∀ {s},(∃ c cs,st1.ob s=ac (c :: cs))->∃ c cs,st.ob s=ac (c :: cs):=λ{s} ⟨c,cs,h1⟩=>by
  rcases hs.lent s with h2 | ⟨h2,_⟩
  ·exact ⟨c,cs,h2 ▸ h1⟩
  ·exact h2
 -- a block of the first ones is cl of a row that lives on
 have apart:∀ b∈bs,∀ r,st1.L r->(g.rw r).ownBlock≠ac b:=λb hb r hr he=>by
  rcases h.of b hb with ⟨r',h1,h2,h3⟩ | ⟨s,h1,_,h3⟩
  ·exact h2 (hM.rowne r r' b (hs.L r hr) h1 he h3 ▸ hr)
  ·exact hM.rowob r s (hs.L r hr) (hO h1) (h3 ▸ he)
 refine ⟨List.nodup_append.2 ⟨h.nodup,k.nodup,λb hb b' hb' he=>?_⟩,λb hb=>?_,λb hb=>?_⟩
 ·subst he;rcases k.of b hb' with ⟨r,h1,_,h3⟩ | ⟨s,h1,_,h3⟩
  ·exact apart b hb r h1 (by rw [<- hs.rw]; exact h3)
  ·rw [hs.ob] at h3;rcases h.of b hb with ⟨r',h4,_,h6⟩ | ⟨s',h4,h5,h6⟩
   ·exact hM.rowob r' s h4 (hO (up h1)) (h3 ▸ h6)
   ·have:=hM.obne s s' (hO (up h1)) (hO h4) (h3.trans h6.symm);subst this;obtain ⟨c,cs,h1⟩:=h1;rw [h5] at h1
    cases h1
 ·rcases sa.1 hb with hb | hb
  ·intro hf;rcases ks.F b hf with h1 | ⟨r,h1,_,h3⟩
   ·exact h.nf b hb h1
   ·exact apart b hb r h1 (by rw [<- hs.rw]; exact h3)
  ·exact k.nf b hb
 ·rcases sa.1 hb with hb | hb
  ·rcases h.of b hb with ⟨r,h1,h2,h3⟩ | ⟨s,h1,h2,h3⟩
   ·exact .inl ⟨r,h1,λhr=>h2 (ks.L r hr),h3⟩
   ·refine .inr ⟨s,h1,?_,h3⟩;rcases ks.lent s with h4 | ⟨_,h4⟩
    ·rw [h4,h2]
    ·exact h4
  ·rcases k.of b hb with ⟨r,h1,h2,h3⟩ | ⟨s,h1,h2,h3⟩
   ·exact .inl ⟨r,hs.L r h1,h2,by rw [<- hs.rw]; exact h3⟩
   ·exact .inr ⟨s,up h1,h2,by rw [<- hs.ob]; exact h3⟩
theorem Mt.gone(r:Nat):Mt g st g { st with rw:=gB st.rw r (ac .gone) }:=by
 refine ⟨λr' hr'=>?_,rfl,rfl,rfl,λ_ h=>.inl h,rfl⟩;rcases DJ.1 hr' with ⟨rfl,_,_,_,hx⟩ | ⟨_,h3⟩
 ·cases hx
 ·exact h3
theorem qdK{α:Type}{st':St}{m:Bool}{x:A}{k:C->MA α}{y:α}{v:Value}(hM:io E g st w)(hv:VR w g st.O st.R x v)(h:(x.toC m k).run st=ac (y,st')) :
  ∃ c st1 g1 bs,io E g1 st1 w/\vO w w g g1 st.O st.R st1.O st1.R/\Mt g st g1 st1/\(k c).run st1=ac (y,st')/\CV w g1.F c v bs/\Tk g st g1 st1 bs:=by
 have frz:(x.toT λx=>k (.t x)).run st=ac (y,st')->∃ c st1 g1 bs,io E g1 st1 w/\vO w w g g1 st.O st.R st1.O st1.R/\Mt g st g1 st1/\(k c).run st1=ac (y,st')/\CV w g1.F c v bs/\Tk g st g1 st1 bs:=by
  intro h;obtain ⟨t,st1,g1,hM1,hE1,hs1,h1,hr,ho⟩:=Y2 hM hv h;exact ⟨_,st1,g1,[],hM1,hE1,hs1,h1,.t t v hr,Tk.nil _ _ _ _⟩
 unfold A.toC at h
 split at h
 ·rename_i r;simp only [MA.run] at h;have hgv:v=g.rw r:=by cases hv; rfl
  subst hgv
  cases hx:st.rw r with
  | none=>simp [hx,MA.run] at h
  | some xx =>
   cases xx with
   | live e sz rows =>
    simp only [hx,MA.run] at h;obtain ⟨hM1,hE1⟩:=hM.gone_row r _ hx;have hL:st.L r:=⟨_,_,_,hx⟩;obtain ⟨inner,hown,hR,hf⟩:=(hM.row r _ hx).rcs;refine ⟨_,_,g,(g.rw r).ownBlock.toList,hM1,hE1,Mt.gone r,h,.ow e sz rows _ inner hown hR,?_,λb hb=>?_,λb hb=>?_⟩
    ·cases (g.rw r).ownBlock <;> simp
    ·exact (hM.row_nf hL (by simpa using hb)).1
    ·refine .inl ⟨r,hL,λhl=>?_,by simpa using hb⟩;rcases DJ.1 hl with ⟨_,_,_,_,hx⟩ | ⟨h3,_⟩
     ·cases hx
     ·exact h3 rfl
   | frz sz rows =>
    simp only [hx] at h;exact ⟨_,st,g,[],hM,vO.refl _ _ _ _,Mt.refl _ _,h,.t _ _ (hM.row r _ hx),Tk.nil _ _ _ _⟩
   | gone=>simp [hx,MA.run] at h
 ·cases hv with
  | nil=>exact ⟨_,st,g,[],hM,vO.refl _ _ _ _,Mt.refl _ _,h,.nil,Tk.nil _ _ _ _⟩
 ·exact frz h
theorem UV{α:Type}{st':St}{m:Bool}:∀ {l:Os} {st:St} {g:Gh} {k:List C->MA α} {y:α} {vs:List Value},io E g st w->vs.length=l.length->(∀ (j:Nat) (x:A),l[j]?=ac x->∃ u,vs[j]?=ac u/\VR w g st.O st.R x u)->(Mv m l k).run st=ac (y,st') ->
  ∃ cs st1 g1 bs,io E g1 st1 w/\vO w w g g1 st.O st.R st1.O st1.R/\Mt g st g1 st1/\(k cs).run st1=ac (y,st')/\SS w g1.F cs vs bs/\Tk g st g1 st1 bs
 | [],st,g,k,y,vs,hM,hl,hv,h=>by
  have:vs=[]:=zQZ hl;subst this;exact ⟨[],st,g,[],hM,vO.refl _ _ _ _,Mt.refl _ _,h,.nil,Tk.nil _ _ _ _⟩
 | x :: l,st,g,k,y,vs,hM,hl,hv,h=>by
  obtain ⟨v,vs,rfl⟩:∃ v vs',vs=v :: vs':=by
   cases vs with
   | nil=>simp at hl
   | cons v vs=>exact ⟨v,vs,rfl⟩
  obtain ⟨u,hu,hx⟩:=hv 0 x rfl;simp at hu;subst hu;obtain ⟨c,st1,g1,b1,hM1,hE1,hs1,h1,hc1,ht1⟩:=qdK hM hx h;obtain ⟨cs,st2,g2,b2,hM2,hE2,hs2,h2,hc2,ht2⟩:=UV hM1 wz5 (λj y hy=>by
   obtain ⟨u,hu,hx⟩:=hv (j+1) y qcd;exact ⟨u,by simpa using hu,hx.mono hE1⟩) h1
  exact ⟨c :: cs,st2,g2,b1++b2,hM2,hE1.trans hE2,hs1.trans hs2,h2,.cons _ _ _ _ _ _ (hc1.mono hE2.same hE2.F (λ_ _=>rfl)) hc2,ht1.app hM hs1.lnd ht2 hs2.lnd⟩
theorem H3{α:Type}{st':St}{s:Nat}{k:List C->MA α}{y:α}(hM:io E g st w)(h:(JA s k).run st=ac (y,st')) :
  ∃ cs st1 g1 bs,io E g1 st1 w/\vO w w g g1 st.O st.R st1.O st1.R/\Xd g st g1 st1/\(k cs).run st1=ac (y,st')/\VV w g1.F (.ptr cs) (.pointer (ac ⟨g.ob s,0,cl⟩)) bs/\Tk g st g1 st1 bs/\∀ s',s'≠s->st1.ob s'=st.ob s':=by
 unfold JA at h;simp only [MA.run] at h
 split at h
 rotate_left
 ·exact (aQ h).elim
 rename_i c cells hc;obtain ⟨arr,e,hh,hl,hv,hnf⟩:=hM.ob s _ hc;have hO:st.O s:=by simp [St.O,hc]
 have hvl:(arr.toList.take (c :: cells).length).length=(c :: cells).length:=by
  rw [zQk,zQg]; exact zXj hl
 obtain ⟨cs,st1,g1,b1,hM1,hE1,hs1,h1,hc1,ht1⟩:=UV (vs:=arr.toList.take (c :: cells).length) hM hvl (λj x hj=>by
  obtain ⟨_,u,hu,hr⟩:=hv j x hj;refine ⟨u,?_,hr⟩;rw [zQy,if_pos (ln.1 hj).1]
  simpa using hu) h
 simp only [MA.run] at h1;have hc1':st1.ob s=ac (c :: cells):=by rw [hs1.eob,hc]
 have hob1:g1.ob s=g.ob s:=by rw [hs1.ob]
 obtain ⟨hM2,hE2⟩:=hM1.set_ob (w':=w) (vu.refl w) s _ [] arr e hc1' (by rw [hob1]; exact hh) (λ_ _ _=>rfl) ig ig;have hlnd:Xd g1 st1 g1 { st1 with ob:=gB st1.ob s (ac []) }:=⟨λ_ h=>h,λs'=>by
  by_cases he:s'=s
  ·subst he; exact .inr ⟨⟨c,cells,hc1'⟩,eM _ _ _⟩
  ·exact .inl (cX _ _ _ _ he),rfl,rfl,λ_ h=>.inl h,rfl⟩
 have hTk:Tk g1 st1 g1 { st1 with ob:=gB st1.ob s (ac []) } [g.ob s]:=⟨by simp,λb hb=>by
  simp only [zQq] at hb;subst hb;exact hob1 ▸ (hM1.ob_nf (by simp [St.O,hc1'])).1,λb hb=>by
  simp only [zQq] at hb;exact .inr ⟨s,⟨c,cells,hc1'⟩,eM _ _ _,hob1.trans hb.symm⟩⟩
 have hT:=ht1.app hM hs1.lnd hTk hlnd;refine ⟨cs,_,g1,g.ob s :: b1,hM2,hE1.trans hE2,hs1.lnd.trans hlnd,h1,.ptr cs _ arr e _ b1 hh (by rw [hvl]) (by rw [hvl]; exact hl) hc1,⟨?_,λb hb=>hT.nf b ?_,λb hb=>hT.of b ?_⟩,λs' hs'=>(cX _ _ _ _ hs').trans (by rw [hs1.eob])⟩
 ·have:=hT.nodup;rw [zYW] at this;rw [List.nodup_cons];exact ⟨λhm=>this.2.2 _ hm _ ig rfl,this.1⟩
 ·rcases Ir.1 hb with rfl | hb <;> simp [*]
 ·rcases Ir.1 hb with rfl | hb <;> simp [*]
mutual
theorem Y3{α:Type}{st':St}{m:Bool}:∀ (x:A) {st:St} {g:Gh} {k:V->MA α} {y:α} {v:Value},io E g st w->VR w g st.O st.R x v->(un m x k).run st=ac (y,st') ->
  ∃ c st1 g1 bs,io E g1 st1 w/\vO w w g g1 st.O st.R st1.O st1.R/\Mt g st g1 st1/\(k c).run st1=ac (y,st')/\VV w g1.F c v bs/\Tk g st g1 st1 bs/\∀ c',c≠.ptr c':=by
 intro x st g k y v hM hv h;have cell:(x.toC m λc=>k (.one c)).run st=ac (y,st')->∃ c st1 g1 bs,io E g1 st1 w/\vO w w g g1 st.O st.R st1.O st1.R/\Mt g st g1 st1/\(k c).run st1=ac (y,st')/\VV w g1.F c v bs/\Tk g st g1 st1 bs/\∀ c',c≠.ptr c':=by
  intro h;obtain ⟨c,st1,g1,bs,hM1,hE1,hs1,h1,hc,ht⟩:=qdK hM hv h;exact ⟨_,st1,g1,bs,hM1,hE1,hs1,h1,.one c v bs hc,ht,by simp⟩
 unfold un at h
 split at h
 ·rename_i l
  cases hv with
  | agg l vs hl hx =>
   obtain ⟨cs,st1,g1,bs,hM1,hE1,hs1,h1,hc,ht⟩:=UV hM hl.symm (λj x hj=>⟨_,sX (by rw [<- hl]; exact (ln.1 hj).1),hx j x _ hj (sX (by rw [<- hl]; exact (ln.1 hj).1))⟩) h;exact ⟨_,st1,g1,bs,hM1,hE1,hs1,h1,.agg cs vs bs hc,ht,by simp⟩
 ·rename_i ts
  cases hv with
  | fadr cells b off u hF hx hr=>exact ⟨_,st,g,[],hM,vO.refl _ _ _ _,Mt.refl _ _,h,.fptr ts b off u hF hx hr,Tk.nil _ _ _ _,by simp⟩
 ·rename_i f caps
  cases hv with
  | clo f caps vs hl hx =>
   obtain ⟨cs,st1,g1,bs,hM1,hE1,hs1,h1,hc,ht⟩:=UW caps hM hl.symm (λj x hj=>⟨_,sX (by rw [<- hl]; exact (ln.1 hj).1),hx j x _ hj (sX (by rw [<- hl]; exact (ln.1 hj).1))⟩) h;exact ⟨_,st1,g1,bs,hM1,hE1,hs1,h1,.clo f cs vs bs hc,ht,by simp⟩
 ·rename_i l
  cases hv with
  | tup l vs hl hx =>
   obtain ⟨cs,st1,g1,bs,hM1,hE1,hs1,h1,hc,ht⟩:=UW l hM hl.symm (λj x hj=>⟨_,sX (by rw [<- hl]; exact (ln.1 hj).1),hx j x _ hj (sX (by rw [<- hl]; exact (ln.1 hj).1))⟩) h;exact ⟨_,st1,g1,bs,hM1,hE1,hs1,h1,.tup cs vs bs hc,ht,by simp⟩
 ·exact cell h
theorem UW{α:Type}{st':St}{m:Bool}:∀ (l:Os) {st:St} {g:Gh} {k:List V->MA α} {y:α} {vs:List Value},io E g st w->vs.length=l.length->(∀ (j:Nat) (x:A),l[j]?=ac x->∃ u,vs[j]?=ac u/\VR w g st.O st.R x u)->(H1 m l k).run st=ac (y,st') ->
  ∃ cs st1 g1 bs,io E g1 st1 w/\vO w w g g1 st.O st.R st1.O st1.R/\Mt g st g1 st1/\(k cs).run st1=ac (y,st')/\IJ w g1.F cs vs bs/\Tk g st g1 st1 bs
 | [],st,g,k,y,vs,hM,hl,hv,h=>by
  have:vs=[]:=zQZ hl;subst this;unfold H1 at h;exact ⟨[],st,g,[],hM,vO.refl _ _ _ _,Mt.refl _ _,h,.nil,Tk.nil _ _ _ _⟩
 | x :: l,st,g,k,y,vs,hM,hl,hv,h=>by
  obtain ⟨v,vs,rfl⟩:∃ v vs',vs=v :: vs':=by
   cases vs with
   | nil=>simp at hl
   | cons v vs=>exact ⟨v,vs,rfl⟩
  obtain ⟨u,hu,hx⟩:=hv 0 x rfl;simp at hu;subst hu;unfold H1 at h;obtain ⟨c,st1,g1,b1,hM1,hE1,hs1,h1,hc1,ht1,_⟩:=Y3 x hM hx h;obtain ⟨cs,st2,g2,b2,hM2,hE2,hs2,h2,hc2,ht2⟩:=UW l hM1 wz5 (λj y hy=>by
   obtain ⟨u,hu,hx⟩:=hv (j+1) y qcd;exact ⟨u,by simpa using hu,hx.mono hE1⟩) h1
  exact ⟨c :: cs,st2,g2,b1++b2,hM2,hE1.trans hE2,hs1.trans hs2,h2,.cons _ _ _ _ _ _ (hc1.mono hE2.same hE2.F (λ_ _=>rfl)) hc2,ht1.app hM hs1.lnd ht2 hs2.lnd⟩
end
inductive vw (g:Gh):Os->List V->List Value->Prop
 | nil:vw g [] [] []
 | obj (s:Nat) (cs:List C) (jo:Os) (vs:List V) (us:List Value) (h:vw g jo vs us):vw g (.obj s 0 :: jo) (.ptr cs :: vs) (.pointer (ac ⟨g.ob s,0,cl⟩) :: us)
 | oth (a:A) (x:V) (u:Value) (jo:Os) (vs:List V) (us:List Value) (ha:∀ s,a≠.obj s 0) (hx:∀ c,x≠.ptr c) (h:vw g jo vs us):vw g (a :: jo) (x :: vs) (u :: us)
theorem vw.congr{g g1:Gh}(e:g1.ob=g.ob){jo:Os}{vs:List V}{us:List Value}(h:vw g1 jo vs us):vw g jo vs us:=by
 induction h with
 | nil=>exact .nil
 | obj s cs jo vs us h ih=>rw [e]; exact .obj s cs jo vs us ih
 | oth a x u jo vs us ha hx h ih=>exact .oth a x u jo vs us ha hx ih
theorem vw.congr'{g g1:Gh}(e:g1.ob=g.ob){jo:Os}{vs:List V}{us:List Value}(h:vw g jo vs us):vw g1 jo vs us:=h.congr e.symm
theorem KI{a:A}{r:Os}(h:∀ s,a≠.obj s 0):fh (a :: r)=fh r:=by
 cases a with
 | obj s o =>
  cases o with
  | zero=>exact absurd rfl (h s)
  | succ o=>rfl
 | _=>rfl
theorem X6:∀ {l:Os} {ts:Or},qay l=ac ts->l=ts.map A.t
 | [],ts,h=>by simp [qay] at h; subst h; rfl
 | x :: l,ts,h=>by
  unfold qay at h
  split at h
  ·rename_i heq; cases heq
  ·rename_i y r heq;injection heq with h1 h2
   subst h1 h2
   split at h
   ·rename_i l' hl
    cases h
    rw [X6 hl]; rfl
   ·cases h
  ·cases h
theorem qdL{α:Type}{y:α}{st':St}:∀ (ts:Or) (k:List C->MA α) (st:St),(Mv gi (ts.map A.t) k).run st=(k (ts.map C.t)).run st
 | [],k,st=>rfl
 | t :: ts,k,st=>by
  simp only [zXV,Mv,A.toC,A.toT];exact qdL (y:=y) (st':=st') ts _ st
theorem qaz{α:Type}{st':St}{s:Nat}{k:List C->MA α}{y:α}(hM:io E g st w)(h:(Oe s k).run st=ac (y,st')) :
  ∃ cs st1 g1 bs,io E g1 st1 w/\vO w w g g1 st.O st.R st1.O st1.R/\Xd g st g1 st1/\(k cs).run st1=ac (y,st')/\VV w g1.F (.ptr cs) (.pointer (ac ⟨g.ob s,0,cl⟩)) bs/\Tk g st g1 st1 bs/\∀ s',s'≠s->st1.ob s'=st.ob s':=by
 apply H3 hM
 unfold Oe at h;unfold JA;simp only [MA.run] at h ⊢
 split at h
 ·rename_i c cells hc
  split at h
  ·rename_i ts hts;have:=X6 hts;rw [this,qdL (y:=y) (st':=st')];exact h
  ·exact (aQ h).elim
 ·exact (aQ h).elim
theorem qfF{α:Type}{st':St}{b:Bool}{s:Nat}{k:List C->MA α}{y:α}(hM:io E g st w)(h:(if b then Oe s k else JA s k).run st=ac (y,st')) :
  ∃ cs st1 g1 bs,io E g1 st1 w/\vO w w g g1 st.O st.R st1.O st1.R/\Xd g st g1 st1/\(k cs).run st1=ac (y,st')/\VV w g1.F (.ptr cs) (.pointer (ac ⟨g.ob s,0,cl⟩)) bs/\Tk g st g1 st1 bs/\∀ s',s'≠s->st1.ob s'=st.ob s':=by
 cases b with
 | true=>exact qaz hM h
 | false=>exact H3 hM h
theorem BN{α:Type}{st':St}{m:Bool}{p:Nat->Bool}:∀ (l:Os) {st:St} {g:Gh} {k:List V->MA α} {y:α} {vs:List Value},io E g st w->vs.length=l.length->(∀ (j:Nat) (x:A),l[j]?=ac x->∃ u,vs[j]?=ac u/\VR w g st.O st.R x u)->(jY m p l k).run st=ac (y,st') ->
  ∃ cs st1 g1 bs,io E g1 st1 w/\vO w w g g1 st.O st.R st1.O st1.R/\Xd g st g1 st1/\(k cs).run st1=ac (y,st')/\IJ w g1.F cs vs bs/\Tk g st g1 st1 bs/\vw g l cs vs/\∀ s,st1.ob s≠st.ob s->s∈fh l
 | [],st,g,k,y,vs,hM,hl,hv,h=>by
  have:vs=[]:=zQZ hl;subst this;exact ⟨[],st,g,[],hM,vO.refl _ _ _ _,Xd.refl _ _,h,.nil,Tk.nil _ _ _ _,.nil,λs h=>absurd rfl h⟩
 | x :: l,st,g,k,y,vs,hM,hl,hv,h=>by
  obtain ⟨v,vs,rfl⟩:∃ v vs',vs=v :: vs':=by
   cases vs with
   | nil=>simp at hl
   | cons v vs=>exact ⟨v,vs,rfl⟩
  obtain ⟨u,hu,hx⟩:=hv 0 x rfl;simp at hu;subst hu;have hrest:∀ {st1:St} {g1:Gh},vO w w g g1 st.O st.R st1.O st1.R->∀ (j:Nat) (y:A),l[j]?=ac y->∃ u,vs[j]?=ac u/\VR w g1 st1.O st1.R y u:=λhE1 j y hy=>by
   obtain ⟨u,hu,hx⟩:=hv (j+1) y qcd;exact ⟨u,by simpa using hu,hx.mono hE1⟩
  unfold jY at h
  split at h
  ·rename_i heq; cases heq
  ·rename_i s r heq;injection heq with h1 h2
   subst h1 h2
   cases hx with
   | obj s off hs =>
    obtain ⟨c,st1,g1,b1,hM1,hE1,hs1,h1,hc1,ht1,hoo⟩:=qfF hM h;obtain ⟨cs,st2,g2,b2,hM2,hE2,hs2,h2,hc2,ht2,hA,hsl⟩:=BN l hM1 wz5 (hrest hE1) h1;refine ⟨.ptr c :: cs,st2,g2,b1++b2,hM2,hE1.trans hE2,hs1.trans hs2,h2,.cons _ _ _ _ _ _ (hc1.mono hE2.same hE2.F (λ_ _=>rfl)) hc2,ht1.app hM hs1 ht2 hs2,.obj s c l cs vs ?_,λs' hs'=>?_⟩
    ·exact hA.congr hs1.ob
    ·simp only [fh,zYq]
     by_cases he:st2.ob s'=st1.ob s'
     ·rw [he] at hs'
      by_cases h9:s'=s
      ·exact .inl h9
      ·exact absurd (hoo s' h9) hs'
     ·exact .inr (hsl s' he)
  ·rename_i a r hna heq;injection heq with h1 h2
   subst h1 h2;obtain ⟨c,st1,g1,b1,hM1,hE1,hs1,h1,hc1,ht1,hnp⟩:=Y3 _ hM hx h;obtain ⟨cs,st2,g2,b2,hM2,hE2,hs2,h2,hc2,ht2,hA,hsl⟩:=BN l hM1 wz5 (hrest hE1) h1;refine ⟨c :: cs,st2,g2,b1++b2,hM2,hE1.trans hE2,hs1.lnd.trans hs2,h2,.cons _ _ _ _ _ _ (hc1.mono hE2.same hE2.F (λ_ _=>rfl)) hc2,ht1.app hM hs1.lnd ht2 hs2,.oth _ _ _ _ _ _ (λs he=>hna s he) hnp ?_,λs' hs'=>?_⟩
   ·exact hA.congr hs1.ob
   ·rw [KI (λs he=>hna s he)];exact hsl s' (by rw [hs1.eob]; exact hs')
end
def rn{α:Type}:Nat->List V->(Os->MA α)->MA α
 | _,[],k=>k []
 | i,v :: r,k=>V.toA (900+i) ((900+i)*65536) v λx=>rn (i+1) r λxs=>k (x :: xs)
section
variable {P:Program} {E:En} {w:World}
structure IK (E:En) (g:Gh) (st:St) (b:Nat):Prop where
 F:¬ g.F b
 ob:∀ s,st.O s->g.ob s≠b
 row:∀ r,st.L r->(g.rw r).ownBlock≠ac b
 X:E.w0.heap.size<=b\/E.X b
structure Gv (E:En) (w:World) (g:Gh) (st:St) (g1:Gh) (st1:St) (bs:IO):Prop where
 mem:io E g1 st1 w
 ext:vO w w g g1 st.O st.R st1.O st1.R
 F:g1.F=g.F
 tm:st1.tm=st.tm
 fr:∀ b,IK E g st b->b∉bs->IK E g1 st1 b
theorem Gv.refl{g:Gh}{st:St}(h:io E g st w):Gv E w g st g st []:=⟨h,vO.refl _ _ _ _,rfl,rfl,λ_ h _=>h⟩
theorem Gv.trans{g g1 g2:Gh}{st st1 st2:St}{b1 b2:IO}(h:Gv E w g st g1 st1 b1)(k:Gv E w g1 st1 g2 st2 b2):Gv E w g st g2 st2 (b1++b2) :=
 ⟨k.mem,h.ext.trans k.ext,k.F.trans h.F,k.tm.trans h.tm,λb hf hb=>k.fr b (h.fr b hf (λhx=>hb wz6)) (λhx=>hb wz6)⟩
structure Gc (g:Gh) (st:St) (g1:Gh) (st1:St) (bs:IO):Prop where
 eob:st1.ob=st.ob
 ob:g1.ob=g.ob
 rows:∀ r b,st1.L r->(g1.rw r).ownBlock=ac b->b∈bs\/(st.L r/\(g.rw r).ownBlock=ac b)
theorem Gc.refl(g:Gh)(st:St):Gc g st g st []:=⟨rfl,rfl,λ_ _ h1 h2=>.inr ⟨h1,h2⟩⟩
theorem Gc.trans{g g1 g2:Gh}{st st1 st2:St}{b1 b2:IO}(h:Gc g st g1 st1 b1)(k:Gc g1 st1 g2 st2 b2):Gc g st g2 st2 (b1++b2) :=
 ⟨k.eob.trans h.eob,k.ob.trans h.ob,λr b h1 h2=>by
  rcases k.rows r b h1 h2 with h3 | ⟨h3,h4⟩
  ·exact .inl (by simp [h3])
  ·rcases h.rows r b h3 h4 with h5 | h5
   ·exact .inl (by simp [h5])
   ·exact .inr h5⟩
theorem X7{α:Type}{st':St}{g:Gh}{st:St}{d id:Nat}{c:C}{k:A->MA α}{y:α}{v:Value}{bs:IO}(hM:io E g st w)(hc:CV w g.F c v bs)(hf:∀ b∈bs,IK E g st b)(h:(c.toA d id k).run st=ac (y,st')) :
  ∃ a st1 g1,Gv E w g st g1 st1 bs/\Gc g st g1 st1 bs/\(k a).run st1=ac (y,st')/\VR w g1 st1.O st1.R a v/\a.one=true:=by
 cases hc with
 | t x v hr=>exact ⟨_,st,g,Gv.refl hM,Gc.refl _ _,h,.t x v hr,rfl⟩
 | nil=>exact ⟨_,st,g,Gv.refl hM,Gc.refl _ _,h,.nil,rfl⟩
 | ow e sz rows v inner hown hR =>
  simp only [C.toA] at h
  split at h
  rotate_left
  ·exact (aQ h).elim
  simp only [MA.run] at h
  cases hx:st.rw id with
  | some xx=>simp [hx,MA.run] at h
  | none =>
   simp only [hx,MA.run] at h;have hff:∀ b,v.ownBlock=ac b->IK E g st b:=λb hb=>hf b (by simp [hb]);have hrow:p5 E.w0 w E.X g.F v (.live e sz rows):=hR.rowAt (E:=E) (g:=g) hown (λb hb=>⟨(hff b hb).F,(hff b hb).X⟩);obtain ⟨hM1,hE1⟩:=hM.new_row (w':=w) (vu.refl w) id hx v e sz rows (λb=>v.ownBlock=ac b) (λ_ _ _=>rfl) (λ_ h=>h) (λb h1 hp=>(hff b hp).X.elim (λh2=>by omega) (λh2=>h2))
    (λb hb=>⟨(hff b hb).F,λs hs he=>(hff b hb).ob s hs he,(hff b hb).row⟩) hrow
   refine ⟨_,_,_,⟨hM1,hE1,rfl,rfl,λb hfb hnb=>⟨hfb.F,hfb.ob,λr hr=>?_,hfb.X⟩⟩,⟨rfl,rfl,λr b hr hb=>?_⟩,h,?_,rfl⟩
   ·rcases DJ.1 hr with ⟨rfl,_⟩ | ⟨h3,h4⟩
    ·simp only [eM]; intro he; exact hnb (by simp [he])
    ·simp only [cX _ _ _ _ h3]; exact hfb.row r h4
   ·rcases DJ.1 hr with ⟨rfl,_⟩ | ⟨h3,h4⟩
    ·simp only [eM] at hb; exact .inl (by simp [hb])
    ·simp only [cX _ _ _ _ h3] at hb; exact .inr ⟨h4,hb⟩
   ·have:=VR.own (w:=w) (g:={ g with rw:=gB g.rw id v }) (O:=({ st with rw:=gB st.rw id (ac (.live e sz rows)) }:St).O) (R:=({ st with rw:=gB st.rw id (ac (.live e sz rows)) }:St).R) id (XZ.2 (.inl rfl))
    simpa only [eM] using this
theorem H4{α:Type}{st':St}{d:Nat}:∀ {cs:List C} {id:Nat} {g:Gh} {st:St} {k:Os->MA α} {y:α} {vs:List Value} {bs:IO},io E g st w->SS w g.F cs vs bs->bs.Nodup->(∀ b∈bs,IK E g st b)->(Qu d id cs k).run st=ac (y,st') ->
  ∃ jo st1 g1,Gv E w g st g1 st1 bs/\Gc g st g1 st1 bs/\(k jo).run st1=ac (y,st')/\jo.length=vs.length/\∀ (j:Nat) (x:A),jo[j]?=ac x->x.one=gi/\∃ u,vs[j]?=ac u/\VR w g1 st1.O st1.R x u
 | [],id,g,st,k,y,vs,bs,hM,hc,hn,hf,h=>by
  cases hc
  exact ⟨[],st,g,Gv.refl hM,Gc.refl _ _,h,rfl,by simp⟩
 | c :: cs,id,g,st,k,y,vs,bs,hM,hc,hn,hf,h=>by
  cases hc with
  | cons c v b cs vs bs h1 h2 =>
   rw [zYW] at hn;obtain ⟨a,st1,g1,hG1,hc1,h3,hv,ho⟩:=X7 hM h1 (λx hx=>hf x wz6) h;obtain ⟨jo,st2,g2,hG2,hc2,h4,hl,hx⟩:=H4 hG1.mem (hG1.F ▸ h2) hn.2.1 (λx hx=>hG1.fr x (hf x wz6) (λhb=>hn.2.2 x hb x hx rfl)) h3;refine ⟨a :: jo,st2,g2,hG1.trans hG2,hc1.trans hc2,h4,by simp [hl],λj x hj=>?_⟩
   cases j with
   | zero=>simp at hj; subst hj; exact ⟨ho,v,rfl,hv.mono hG2.ext⟩
   | succ j=>simpa using hx j x wz9
theorem io.give_ob{g:Gh}{st:St}(h:io E g st w)(d:Nat)(hd:st.ob d=cl)(cells:Os)(b:Nat)(arr:Array Value)(e:TypeId)(hh:w.heap[b]?=ac (.cells arr e (0,0)))(hl:cells.length<=arr.size)
  (hv:∀ (j:Nat) (x:A),cells[j]?=ac x->x.one=gi/\∃ v,arr[j]?=ac v/\VR w g st.O st.R x v) (hf:IK E g st b) :
  Gv E w g st { g with ob:=gB g.ob d b } { st with ob:=gB st.ob d (ac cells) } [b]:=by
 have hnd:¬ st.O d:=by simp [St.O,hd]
 have hne:∀ s,st.O s->s≠d:=λs hs he=>hnd (he ▸ hs);obtain ⟨hM,hE⟩:=h.step (w':=w) (g':={ g with ob:=gB g.ob d b }) (st':={ st with ob:=gB st.ob d (ac cells) }) (vu.refl w) (λ_=>False) (λb h1 _=>rfl) (λ_ h=>h.elim) (λ_ _ h=>h.elim) (λ_ h=>h) (λ_ h1 h2=>absurd h1 h2)
  (λs hs=>⟨O_upd.2 (.inr hs),cX _ _ _ _ (hne s hs)⟩) (λ_ h=>⟨h,rfl⟩) (λs c hs=>by
   by_cases hsd:s=d
   ·subst hsd;simp only [eM,Option.some.injEq] at hs ⊢;subst hs;exact .inr ⟨arr,e,hh,hl,hv,hf.F,hf.X⟩
   ·simp only [cX _ _ _ _ hsd] at hs;exact .inl ⟨hs,id,(h.ob_nf qfq).1⟩) (λs s' hs hs' he=>by
   rcases O_upd.1 hs with rfl | h1
   ·rcases O_upd.1 hs' with rfl | h2
    ·rfl
    ·simp only [eM,cX _ _ _ _ (hne _ h2)] at he;exact absurd he.symm (hf.ob _ h2)
   ·rcases O_upd.1 hs' with rfl | h2
    ·simp only [eM,cX _ _ _ _ (hne _ h1)] at he;exact absurd he (hf.ob _ h1)
    ·simp only [cX _ _ _ _ (hne _ h1),cX _ _ _ _ (hne _ h2)] at he;exact h.obne _ _ h1 h2 he) (λr x hr=>.inl ⟨hr,λhL b hb'=>⟨id,(h.row_nf hL hb').1⟩⟩) h.rowne (λr s hr hs=>by
   rcases O_upd.1 hs with rfl | h1
   ·simp only [eM]; exact hf.row r hr
   ·simp only [cX _ _ _ _ (hne _ h1)]; exact h.rowob r s hr h1)
 refine ⟨hM,hE,rfl,rfl,λb' hfb hnb=>⟨hfb.F,λs hs=>?_,hfb.row,hfb.X⟩⟩;rcases O_upd.1 hs with rfl | h1
 ·simp only [eM]; intro he; exact hnb (by simp [he])
 ·simp only [cX _ _ _ _ (hne _ h1)]; exact hfb.ob s h1
mutual
theorem BO{α:Type}{st':St}{d:Nat}:∀ (x:V) {id:Nat} {g:Gh} {st:St} {k:A->MA α} {y:α} {v:Value} {bs:IO},io E g st w->VV w g.F x v bs->bs.Nodup->(∀ b∈bs,IK E g st b)->(V.toA d id x k).run st=ac (y,st') ->
  ∃ a st1 g1,Gv E w g st g1 st1 bs/\(k a).run st1=ac (y,st')/\VR w g1 st1.O st1.R a v
 | .one c,id,g,st,k,y,v,bs,hM,hv,hn,hf,h=>by
  unfold V.toA at h
  cases hv with
  | one c v bs hc =>
   obtain ⟨a,st1,g1,hG,_,h1,hr,_⟩:=X7 hM hc hf h;exact ⟨a,st1,g1,hG,h1,hr⟩
 | .agg l,id,g,st,k,y,v,bs,hM,hv,hn,hf,h=>by
  unfold V.toA at h
  cases hv with
  | agg l vs bs hc =>
   obtain ⟨jo,st1,g1,hG,_,h1,hl,hx⟩:=H4 hM hc hn hf h;exact ⟨_,st1,g1,hG,h1,.agg jo vs hl (λi x v hi hv=>by
    obtain ⟨_,u,hu,hr⟩:=hx i x hi;rw [hv] at hu; cases hu; exact hr)⟩
 | .tup l,id,g,st,k,y,v,bs,hM,hv,hn,hf,h=>by
  unfold V.toA at h
  cases hv with
  | tup l vs bs hc =>
   obtain ⟨jo,st1,g1,hG,h1,hl,hx⟩:=Mw l hM hc hn hf h;exact ⟨_,st1,g1,hG,h1,.tup jo vs hl (λi x v hi hv=>by
    obtain ⟨u,hu,hr⟩:=hx i x hi;rw [hv] at hu; cases hu; exact hr)⟩
 | .ptr cells,id,g,st,k,y,v,bs,hM,hv,hn,hf,h=>by
  unfold V.toA at h
  cases hv with
  | ptr cells b arr e vs bs hb hl hle hc =>
   rw [List.nodup_cons] at hn;obtain ⟨jo,st1,g1,hG,_,h1,hll,hx⟩:=H4 hM hc hn.2 (λx hx=>hf x wz6) h;simp only [MA.run] at h1
   cases ho:st1.ob d with
   | some c=>simp [ho,MA.run] at h1
   | none =>
    simp only [ho,MA.run] at h1;have hG2:=hG.mem.give_ob d ho jo b arr e hb al (λj x hj=>by
     obtain ⟨h2,u,hu,hr⟩:=hx j x hj;refine ⟨h2,u,?_,hr⟩;rw [hl,zQy] at hu
     split at hu
     ·simpa using hu
     ·cases hu) (hG.fr b (hf b ig) hn.1)
    refine ⟨_,_,_,⟨hG2.mem,hG.ext.trans hG2.ext,hG2.F.trans hG.F,hG2.tm.trans hG.tm,λb' hfb hnb=>hG2.fr b' (hG.fr b' hfb (λhx=>hnb wz6)) (λhx=>hnb (by simp at hx; simp [hx]))⟩,h1,?_⟩;have:=VR.obj (w:=w) (g:={ g1 with ob:=gB g1.ob d b }) (O:=({ st1 with ob:=gB st1.ob d (ac jo) }:St).O) (R:=({ st1 with ob:=gB st1.ob d (ac jo) }:St).R) d 0 (O_upd.2 (.inl rfl))
    simpa only [eM] using this
 | .fptr ts,id,g,st,k,y,v,bs,hM,hv,hn,hf,h=>by
  unfold V.toA at h
  cases hv with
  | fptr cells b off u hF hx hr=>exact ⟨_,st,g,Gv.refl hM,h,.fadr ts b off u hF hx hr⟩
 | .clo f caps,id,g,st,k,y,v,bs,hM,hv,hn,hf,h=>by
  unfold V.toA at h
  cases hv with
  | clo f caps vs bs hc =>
   obtain ⟨jo,st1,g1,hG,h1,hl,hx⟩:=Mw caps hM hc hn hf h;exact ⟨_,st1,g1,hG,h1,.clo f jo vs hl (λi x v hi hv=>by
    obtain ⟨u,hu,hr⟩:=hx i x hi;rw [hv] at hu; cases hu; exact hr)⟩
theorem Mw{α:Type}{st':St}{d:Nat}:∀ (l:List V) {id:Nat} {g:Gh} {st:St} {k:Os->MA α} {y:α} {vs:List Value} {bs:IO},io E g st w->IJ w g.F l vs bs->bs.Nodup->(∀ b∈bs,IK E g st b)->(H2 d id l k).run st=ac (y,st') ->
  ∃ jo st1 g1,Gv E w g st g1 st1 bs/\(k jo).run st1=ac (y,st')/\jo.length=vs.length/\∀ (j:Nat) (x:A),jo[j]?=ac x->∃ u,vs[j]?=ac u/\VR w g1 st1.O st1.R x u
 | [],id,g,st,k,y,vs,bs,hM,hc,hn,hf,h=>by
  unfold H2 at h
  cases hc
  exact ⟨[],st,g,Gv.refl hM,h,rfl,by simp⟩
 | c :: cs,id,g,st,k,y,vs,bs,hM,hc,hn,hf,h=>by
  unfold H2 at h
  cases hc with
  | cons c v b cs vs bs h1 h2 =>
   rw [zYW] at hn;obtain ⟨a,st1,g1,hG1,h3,hv⟩:=BO c hM h1 hn.1 (λx hx=>hf x wz6) h;obtain ⟨jo,st2,g2,hG2,h4,hl,hx⟩:=Mw cs hG1.mem (hG1.F ▸ h2) hn.2.1 (λx hx=>hG1.fr x (hf x wz6) (λhb=>hn.2.2 x hb x hx rfl)) h3;refine ⟨a :: jo,st2,g2,hG1.trans hG2,h4,by simp [hl],λj x hj=>?_⟩
   cases j with
   | zero=>simp at hj; subst hj; exact ⟨v,rfl,hv.mono hG2.ext⟩
   | succ j=>simpa using hx j x wz9
end
theorem Hd{α:Type}{st':St}:∀ (l:List V) {i:Nat} {g:Gh} {st:St} {k:Os->MA α} {y:α} {vs:List Value} {bs:IO},io E g st w->IJ w g.F l vs bs->bs.Nodup->(∀ b∈bs,IK E g st b)->(rn i l k).run st=ac (y,st') ->
  ∃ jo st1 g1,Gv E w g st g1 st1 bs/\(k jo).run st1=ac (y,st')/\jo.length=vs.length/\∀ (j:Nat) (x:A),jo[j]?=ac x->∃ u,vs[j]?=ac u/\VR w g1 st1.O st1.R x u
 | [],id,g,st,k,y,vs,bs,hM,hc,hn,hf,h=>by
  cases hc
  exact ⟨[],st,g,Gv.refl hM,h,rfl,by simp⟩
 | c :: cs,id,g,st,k,y,vs,bs,hM,hc,hn,hf,h=>by
  unfold rn at h
  cases hc with
  | cons c v b cs vs bs h1 h2 =>
   rw [zYW] at hn;obtain ⟨a,st1,g1,hG1,h3,hv⟩:=BO c hM h1 hn.1 (λx hx=>hf x wz6) h;obtain ⟨jo,st2,g2,hG2,h4,hl,hx⟩:=Hd cs hG1.mem (hG1.F ▸ h2) hn.2.1 (λx hx=>hG1.fr x (hf x wz6) (λhb=>hn.2.2 x hb x hx rfl)) h3;refine ⟨a :: jo,st2,g2,hG1.trans hG2,h4,by simp [hl],λj x hj=>?_⟩
   cases j with
   | zero=>simp at hj; subst hj; exact ⟨v,rfl,hv.mono hG2.ext⟩
   | succ j=>simpa using hx j x wz9
end
def eC{α:Type}(d:Nat):IO->List (List C)->MA α->MA α
 | [],[],k=>k
 | s :: ss,c :: cs,k=>Qu d (qjV d s 0) c λjo=>.getOb s fun
  | some _=>.setOb s jo (eC d ss cs k)
  | none=>.fail
 | _,_,_=>.fail
def D3(P:Program)(o:Oper)(a:Act)(w:World)(R:Value->World->Prop):Prop :=
 ∀ (next:Act->World->Prop) (Q:Exit->Act->World->Prop),(∀ v w',R v w'->next (a.put o.dst v) w')->o.wp P a w next Q
section
variable {P:Program} {E:En} {g:Gh} {st st':St} {a:Act} {w:World}
theorem qaA{o:Oper}{R:Value->World->Prop}(h:∃ v w',Ji P o a w v w'/\R v w'):D3 P o a w R:=by
 obtain ⟨v,w',h1,h2⟩:=h;intro next Q hn;unfold Oper.wp;rcases h1 with h1 | ⟨h1,rfl⟩
 ·rw [h1]; exact hn v w' h2
 ·rw [h1]; exact hn _ w' h2
theorem lR{o:Oper}{R:Value->World->Prop}{f:FuncId}{xf:Operand}{args:Array Operand}{ts:Array TypeId}{caps:List Value}(ho:o.op=.call { callee:=.value xf,args,argTypes:=ts })(hf:a.eval xf=.func (.func f) #[] caps.toArray)(hc:AO P f)
  (h:Calls P f (args.toList.map a.eval++caps).toArray w λe w'=>∃ v,e=.returned v/\R v w'):D3 P o a w R:=by
 obtain ⟨fn,hfn,hb,hnm⟩:=hc;intro next Q hn;have he:(execOp a.eval o).run P w=.ok (.enter f (args.toList.map a.eval++caps).toArray) w:=by
  have:args.map a.eval++caps.toArray=(args.toList.map a.eval++caps).toArray:=by
   apply Array.ext'
   simp
  have hb':fn.body≠none:=λh=>by simp [h] at hb
  have hn':fn.name ≠ "runtime.NumGoroutine" := by simpa using hnm
  simp [execOp,ho,resolve,Deferred.ofValue,hf,invoke,callFunc,hfn,hb',hn',this]
 unfold Oper.wp;rw [he];exact h.mono λe w' ⟨v,hv,hR⟩=>by subst hv; exact hn v w' hR
structure Inv (E:En) (g:Gh) (st:St) (ss:IO) (bs:IO):Prop where
 nodup:bs.Nodup
 F:∀ b∈bs,¬ g.F b
 X:∀ b∈bs,E.w0.heap.size<=b\/E.X b
 row:∀ b∈bs,∀ r,st.L r->(g.rw r).ownBlock≠ac b
 ob:∀ b∈bs,∀ s,st.O s->g.ob s=b->s∈ss
theorem ud.mem{F:Nat->Prop}:∀ {jo:Os} {vs:List V} {us:List Value} {os:List (List C)} {bo:IO},vw g jo vs us->ud w F vs us os bo->∀ s∈fh jo,g.ob s∈bo:=by
 intro jo vs us os bo hA
 induction hA generalizing os bo with
 | nil=>intro _ s hs; simp [fh] at hs
 | oth a x u jo vs us ha hx hA ih =>
  intro hO s hs;rw [KI ha] at hs
  cases hO with
  | ptr c c' v bs l vs' os bo h1 h2=>exact absurd rfl (hx c)
  | skip x v l vs' os bo hx' h2=>exact ih h2 s hs
 | obj s' cs jo vs us hA ih =>
  intro hO s hs
  cases hO with
  | skip x v l vs' os bo hx' h2=>exact absurd rfl (hx' cs)
  | ptr c c' v bs l vs' os bo h1 h2 =>
   simp only [fh,zYq] at hs;rcases hs with rfl | hs
   ·cases h1 with
    | ptr=>simp
   ·exact sa.2 (.inr (ih h2 s hs))
theorem wF{α:Type}{st':St}{d:Nat}:∀ {jo:Os} {vs:List V} {us:List Value} {os:List (List C)} {bo bv:IO} {g:Gh} {st:St} {k:MA α} {y:α},io E g st w->vw g jo vs us->ud w g.F vs us os bo->Inv E g st (fh jo) (bo++bv) ->
  (eC d (fh jo) os k).run st=ac (y,st')->∃ st1 g1,io E g1 st1 w/\vO w w g g1 st.O st.R st1.O st1.R/\g1.F=g.F/\st1.tm=st.tm/\k.run st1=ac (y,st')/\Inv E g1 st1 [] bv
 | [],vs,us,os,bo,bv,g,st,k,y,hM,hA,hO,hI,h=>by
  cases hA
  cases hO
  simp only [fh,eC] at h;exact ⟨st,g,hM,vO.refl _ _ _ _,rfl,rfl,h,hI⟩
 | a :: jo,vs,us,os,bo,bv,g,st,k,y,hM,hA,hO,hI,h=>by
  cases hA with
  | oth a x u jo vs us ha hx hA =>
   rw [KI ha] at h hI
   cases hO with
   | ptr c c' v bs l vs' os bo h1 h2=>exact absurd rfl (hx c)
   | skip x v l vs' os bo hx' h2=>exact wF hM hA h2 hI h
  | obj s cs jo vs us hA =>
   cases hO with
   | skip x v l vs' os bo hx' h2=>exact absurd rfl (hx' cs)
   | ptr c c' v bs l vs' os bo h1 h2 =>
    have hmem:=ud.mem hA h2
    cases h1 with
    | ptr cells b arr e vals b1 hb hl hle hc =>
     simp only [fh,eC] at h;have hnd:=hI.nodup;simp only [List.cons_append,List.nodup_cons,zQJ,zWv,zYW] at hnd;obtain ⟨hn1,hn2,⟨hn3,hn4,hn5⟩,hn6⟩:=hnd;have hb1:∀ x∈b1,IK E g st x:=λx hx=>by
      have hxm:x∈g.ob s :: b1++bo++bv:=by simp [hx]
      refine ⟨hI.F x hxm,λs' hs' he=>?_,hI.row x hxm,hI.X x hxm⟩;have:=hI.ob x hxm s' hs' he;simp only [fh,zYq] at this;rcases this with rfl | h9
      ·exact hn1 (.inl (he ▸ hx))
      ·exact hn6 x hx x (.inl (he ▸ hmem s' h9)) rfl
     obtain ⟨as',st1,g1,hG,hC,h3,hll,hx⟩:=H4 hM hc hn2 hb1 h;simp only [MA.run] at h3;rw [hC.eob] at h3
     cases hso:st.ob s with
     | none=>simp [hso,MA.run] at h3
     | some c0 =>
      simp only [hso,MA.run] at h3;have hOs:st.O s:=by simp [St.O,hso]
      obtain ⟨hM2,hE2⟩:=hG.mem.set_ob (w':=w) (vu.refl w) s c0 as' arr e (by rw [hC.eob,hso]) (by rw [hC.ob]; exact hb) (λ_ _ _=>rfl) al (λj x hj=>by
       obtain ⟨h4,u,hu,hr⟩:=hx j x hj;refine ⟨h4,u,?_,hr⟩;rw [hl,zQy] at hu
       split at hu
       ·simpa using hu
       ·cases hu)
      have hO2:∀ s',({ st1 with ob:=gB st1.ob s (ac as') }:St).O s'->st.O s':=λs' h4=>by
       rcases O_upd.1 h4 with rfl | h4
       ·exact hOs
       ·unfold St.O at h4 ⊢; rw [hC.eob] at h4; exact h4
      have hI2:Inv E g1 { st1 with ob:=gB st1.ob s (ac as') } (fh jo) (bo++bv):=by
       have up:∀ x,x∈bo++bv->x∈g.ob s :: b1++bo++bv:=λx hx=>by
        simp only [zWv] at hx;simp only [List.cons_append,zQJ,zYq,zWv];exact .inr (.inr hx)
       refine ⟨List.nodup_append.2 ⟨hn3,hn4,hn5⟩,λx hx=>by rw [hG.F]; exact hI.F x (up x hx),λx hx=>hI.X x (up x hx),λx hx r hr he=>?_,λx hx s' hs' he=>?_⟩
       ·rcases hC.rows r x hr he with h9 | ⟨h9,h10⟩
        ·exact hn6 x h9 x (sa.1 hx) rfl
        ·exact hI.row x (up x hx) r h9 h10
       ·have he':g.ob s'=x:=by rw [<- hC.ob]; exact he
        have:=hI.ob x (up x hx) s' (hO2 s' hs') he';simp only [fh,zYq] at this;rcases this with rfl | h9
        ·exact absurd (by simp only [zWv] at hx; rw [he']; exact .inr hx) hn1
        ·exact h9
      obtain ⟨st3,g3,hM3,hE3,hF3,ht3,h5,hI3⟩:=wF hM2 (hA.congr' hC.ob) (hG.F ▸ h2) hI2 h3;exact ⟨st3,g3,hM3,(hG.ext.trans hE2).trans hE3,hF3.trans hG.F,ht3.trans hG.tm,h5,hI3⟩
end
section
variable {P:Program} {E:En} [Tb P E] {g:Gh} {st st':St} {a:Act} {w:World}
theorem KJ{w':World}{F:Nat->Prop}:∀ {jo:Os} {vs:List V} {us:List Value} {os:List (List C)} {bo:IO},vw g jo vs us->ud w' F vs us os bo->∀ s∈fh jo,∃ arr e,w'.heap[g.ob s]?=ac (.cells arr e (0,0)):=by
 intro jo vs us os bo hA
 induction hA generalizing os bo with
 | nil=>intro _ s hs; simp [fh] at hs
 | oth a x u jo vs us ha hx hA ih =>
  intro hO s hs;rw [KI ha] at hs
  cases hO with
  | ptr c c' v bs l vs' os bo h1 h2=>exact absurd rfl (hx c)
  | skip x v l vs' os bo hx' h2=>exact ih h2 s hs
 | obj s' cs jo vs us hA ih =>
  intro hO s hs
  cases hO with
  | skip x v l vs' os bo hx' h2=>exact absurd rfl (hx' cs)
  | ptr c c' v bs l vs' os bo h1 h2 =>
   simp only [fh,zYq] at hs;rcases hs with rfl | hs
   ·cases h1 with
    | ptr cells b arr e vals b1 hb=>exact ⟨arr,e,hb⟩
   ·exact ih h2 s hs
theorem qcm{n d f:Nat}{m:Bool}{p:Nat->Bool}{o:Oper}{xf:Operand}{args:Array Operand}{ts:Array TypeId}{caps jo:Os}{vs:List V}{st1:St}{res:V}{outs:List (List C)}{x:A}
  (hS:lj E g n st a w) (ho:o.op=.call { callee:=.value xf,args,argTypes:=ts }) (hf:st.eval xf=ac (.clo f caps)) (oC:eQ (args.toList.map st.eval)=ac jo)
  (hp:(jY m p (jo++caps) MA.ret).run st=ac (vs,st1)) (hc:aB P f vs res outs) (hr:(eC d (fh (jo++caps)) outs (V.toA d (ip d 0) res MA.ret)).run st1=ac (x,st')) :
  D3 P o a w λv w'=>∃ g',D1 E g st w x st' v g' w':=by
 have hM:=hS.mem;obtain ⟨hcl,hcc⟩:=hc;have hvf:=cm hS hf;generalize hvv:a.eval xf=vf at hvf
 cases hvf with
 | clo f caps vcaps hl hx =>
  refine lR ho hvv hcl ?_;obtain ⟨ha1,ha2⟩:=Gs hS oC;obtain ⟨cs,st1',g1,bs,hM1,hE1,hL1,h1,hVV,hT,hA,hsl⟩:=BN (vs:=args.toList.map a.eval++vcaps) (jo++caps) hM qfu (λj y hj=>by
   rw [zWx] at hj
   split at hj
   ·rename_i hlt;have hlt':j < (args.toList.map a.eval).length:=by rw [<- ha1]; exact hlt
    exact ⟨_,by rw [zQW hlt']; exact sX hlt',ha2 j y _ hj (sX hlt')⟩
   ·rename_i hge;have hlt:j - jo.length < vcaps.length:=by rw [<- hl]; exact (ln.1 hj).1
    exact ⟨_,by rw [zQX qel,<- ha1]; exact sX hlt,hx _ y _ hj (sX hlt)⟩) hp
  obtain ⟨rfl,rfl⟩:=gK h1;have hbsX:∀ b∈bs,b < E.w0.heap.size->E.X b:=λb hb hlt=>by
   rcases hT.of b hb with ⟨r,h2,_,h4⟩ | ⟨s,⟨c,cs,h2⟩,_,h4⟩
   ·rcases (hM.row_nf h2 h4).2 with h5 | h5
    ·omega
    ·exact h5
   ·rcases (hM.ob_nf (s:=s) wz7).2 with h5 | h5
    ·omega
    ·exact h4 ▸ h5
  refine (hcc w g1.F _ bs (λb hb=>(hM1.F b hb).1) hVV hT.nodup hT.nf (hM.tbW λb h1 h2 _ h3=>h2 (hbsX b h3 h1))).mono λe w' ⟨v,F',bv,bo,he,hcalm,hsame,hFF,hF',hvr,hO,hnd,hex⟩=>⟨v,he,?_⟩
  -- the caller's memory behind the call
  have hbsrow:∀ b∈bs,∀ r,st1.L r->(g1.rw r).ownBlock≠ac b:=λb hb r hr he=>by
   rw [hL1.rw] at he;rcases hT.of b hb with ⟨r',h2,h3,h4⟩ | ⟨s,⟨c,cs,h2⟩,_,h4⟩
   ·exact h3 (hM.rowne r r' b (hL1.L r hr) h2 he h4 ▸ hr)
   ·exact hM.rowob r s (hL1.L r hr) wz7 (h4 ▸ he)
  have hbsob:∀ b∈bs,∀ s,st1.O s->g1.ob s=b->st1.ob s=ac []/\s∈fh (jo++caps):=λb hb s hs he=>by
   rw [hL1.ob] at he;have hs':st.O s:=(hL1.O s).1 hs;rcases hT.of b hb with ⟨r',h2,h3,h4⟩ | ⟨s',⟨c,cs,h2⟩,h3,h4⟩
   ·exact absurd (he ▸ h4) (hM.rowob r' s h2 hs')
   ·have:=hM.obne s s' hs' wz7 (he.trans h4.symm);subst this;exact ⟨h3,hsl s qg6⟩
  have hF0:∀ b,b < w.heap.size->F' b->g1.F b\/b∈bs:=λb h2 h3=>(hF' b h3).2.1 h2;have hA1:vw g1 (jo++caps) vs (args.toList.map a.eval++vcaps):=hA.congr' hL1.ob;have hexF:∀ b∈bs,F' b->False\/True:=λ_ _ _=>.inr trivial;have hlentF:∀ s,s∈fh (jo++caps)->g1.ob s∈bo:=ud.mem hA1 hO;obtain ⟨hM2,hE2⟩:=hM1.step (w':=w') (g':={ g1 with F:=F' }) (st':=st1) hcalm (λb=>b∈bs) (λb h2 h3=>hsame b h2 h3) (λb hb=>hT.nf b hb) (λb h2 h3=>hbsX b h3 h2) hFF
   (λb h2 h3=>⟨(hF' b h2).1,λhlt=>(hF0 b (zWW hlt hM1.sizes) h2).elim (λh4=>absurd h4 h3) (λh4=>.inr (hbsX b h4 hlt)),.inr ((hF' b h2).2.2.resolve_left h3)⟩) (λ_ h=>⟨h,rfl⟩) (λ_ h=>⟨h,rfl⟩)
   (λs cells hs=>by
    have hOs:st1.O s:=by simp [St.O,hs]
    by_cases hb:g1.ob s∈bs
    ·obtain ⟨h5,h6⟩:=hbsob _ hb s hOs rfl;rw [hs] at h5
     cases h5
     obtain ⟨arr,e,hh⟩:=KJ hA1 hO s h6;refine .inr ⟨arr,e,hh,by simp,by simp,?_,(hM1.ob_nf hOs).2⟩;exact (hex _ (sa.2 (.inr (hlentF s h6)))).1
    ·refine .inl ⟨hs,hb,λhf=>?_⟩;rcases hF0 _ (hM1.ob_lt hOs) hf with h5 | h5
     ·exact (hM1.ob_nf hOs).1 h5
     ·exact hb h5) hM1.obne
   (λr x hr=>.inl ⟨hr,λhL b hb=>⟨λhm=>hbsrow b hm r hL hb,λhf=>by
    rcases hF0 b (hM1.row_lt hL hb) hf with h5 | h5
    ·exact (hM1.row_nf hL hb).1 h5
    ·exact hbsrow b h5 r hL hb⟩⟩) hM1.rowne hM1.rowob
  have hI:Inv E { g1 with F:=F' } st1 (fh (jo++caps)) (bo++bv):=by
   have hm:∀ x,x∈bo++bv->x∈bv++bo:=λx hx=>by
    rcases sa.1 hx with h | h <;> simp [h]
   refine ⟨?_,λb hb=>(hex b (hm b hb)).1,λb hb=>?_,λb hb r hr he=>?_,λb hb s hs he=>?_⟩
   ·rw [zYW] at hnd ⊢;exact ⟨hnd.2.1,hnd.1,λx hx y hy h=>hnd.2.2 y hy x hx h.symm⟩
   ·rcases (hex b (hm b hb)).2 with h5 | h5
    ·exact .inl (zXQ hM1.sizes h5)
    ·by_cases hlt:b < E.w0.heap.size
     ·exact .inr (hbsX b h5 hlt)
     ·exact .inl al
   ·rcases (hex b (hm b hb)).2 with h5 | h5
    ·exact absurd (hM1.row_lt hr he) al
    ·exact hbsrow b h5 r hr he
   ·rcases (hex b (hm b hb)).2 with h5 | h5
    ·exact absurd (hM1.ob_lt hs) qg7
    ·exact (hbsob b h5 s hs he).2
  have hA2:vw { g1 with F:=F' } (jo++caps) vs (args.toList.map a.eval++vcaps):=hA1.congr' (g:=g1) (g1:={ g1 with F:=F' }) rfl;obtain ⟨st2,g2,hM3,hE3,hF3,ht3,h6,hI3⟩:=wF (w:=w') hM2 hA2 hO hI hr;obtain ⟨x',st3,g3,hG,h7,hvx⟩:=BO (w:=w') res hM3 (by rw [hF3]; exact hvr) hI3.nodup (λb hb=>⟨hI3.F b hb,λs hs he=>by have:=hI3.ob b hb s hs he; simp at this,hI3.row b hb,hI3.X b hb⟩) h6;obtain ⟨rfl,rfl⟩:=gK h7;exact ⟨g3,hG.mem,hvx,((hE1.trans hE2).trans hE3).trans hG.ext,hG.tm.trans (ht3.trans hL1.tm)⟩
end
end Go.Tm
