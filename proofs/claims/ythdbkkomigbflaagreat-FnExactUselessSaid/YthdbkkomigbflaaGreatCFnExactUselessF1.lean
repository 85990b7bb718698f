/- The abstract machine over data trees, and that it tells the truth of the translated code. -/
import Derived.Calls
import Derived.Below
import Derived.RowKit3
import Derived.KernelRfl
import Derived.Laws.BytesArg
import Derived.Lib.ItoaMem
import Derived.Laws.MakeOwn
import Derived.Laws.OwnMore
import Derived.Laws.CopyRow
import Derived.Laws.Tables
import Derived.Maps.AppendAt
import Derived.Laws.Entries
import Derived.Laws.StructEq
import Derived.Laws.Small
import Derived.Laws.IdiomCopy
import Derived.Laws.Cover3
set_option linter.unusedVariables false
set_option linter.unusedSimpArgs false
namespace Go.Tm
inductive T where
 | int (k:IntKind) (n:Int)
 | bool (b:Bool)
 | str (s:ByteArray)
 | sl (sz:Nat) (rows:List (List T))
 | nilf
 deriving Inhabited
inductive A where
 | t (x:T)
 | nil
 | own (r:Nat)
 | agg (l:List A)
 | tup (l:List A)
 | obj (s off:Nat)
 | elem (r sz i off:Nat)
 | sub (r sz lo:Nat)
 | win (r lo m:Nat)
 | fadr (cells:List T)
 | nn (sz:Nat) (rows:List (List T))
 | ext (s:Bool) (x:T)
 | exa (s:Bool) (cells:List T)
 | shp (x:T)
 | clo (f:FuncId) (caps:List A)
 | undef
 | raw (v:Value)
 deriving Inhabited
inductive Vl where
 | live (e sz:Nat) (rows:List (List T))
 | frz (sz:Nat) (rows:List (List T))
 | gone
structure St where
 tm:Nat→A
 ob:Nat→Option (List A)
 rw:Nat→Option Vl
def iw {α:Type} (f:Nat→α) (k:Nat) (v:α):Nat→α:=fun j=>if j=k then v else f j
theorem fZ {α:Type} (f:Nat→α) (k:Nat) (v:α):iw f k v k=v:=by simp [iw]
theorem ed {α:Type} (f:Nat→α) (k j:Nat) (v:α) (h:j≠k):iw f k v j=f j:=by simp [iw,h]
def St.put (st:St) (d:Option Nat) (v:A):St:=match d with | some d=>{ st with tm:=iw st.tm d v } | none=>st
inductive MA (α:Type) where
 | ret (v:α)
 | fail
 | getOb (s:Nat) (k:Option (List A)→MA α)
 | getRw (r:Nat) (k:Option Vl→MA α)
 | setOb (s:Nat) (c:List A) (k:MA α)
 | setRw (r:Nat) (x:Vl) (k:MA α)
def MA.run {α:Type}:MA α→St→Option (α×St)
 | .ret v,st=>some (v,st)
 | .fail,_=>none
 | .getOb s k,st=>(k (st.ob s)).run st
 | .getRw r k,st=>(k (st.rw r)).run st
 | .setOb s c k,st=>k.run { st with ob:=iw st.ob s (some c) }
 | .setRw r x k,st=>k.run { st with rw:=iw st.rw r (some x) }
def pE:Value→Option A
 | .int k n=>some (.t (.int k n))
 | .bool b=>some (.t (.bool b))
 | .string s=>some (.t (.str s))
 | .slice none 0 0=>some .nil
 | .nilFunc=>some (.t .nilf)
 | _=>none
def dv {α:Type}:List (Option α)→Option (List α)
 | []=>some []
 | x :: r=>match x,dv r with | some x,some r=>some (x :: r) | _,_=>none
def A.ofValue:Value→Option A
 | .agg cs=>match dv (cs.toList.map pE) with | some l=>some (.agg l) | none=>none
 | .pointer none=>some .undef
 | v=>pE v
def A.cells:A→List A
 | .agg l=>l
 | a=>[a]
def A.one:A→Bool
 | .agg _ | .tup _ | .undef | .raw _=>false
 | _=>true
def St.eval (st:St):Operand→Option A
 | .tmp t=>some (st.tm t)
 | .const v=>A.ofValue v
 | .func f=>some (.clo f [])
 | .global _=>none
section types
variable (P:Program)
def Ek (t:TypeId):Option (Option Value×Nat×Nat):=(P.info? t).map fun i=>(i.zero,i.size,i.bytes)
def jf (t:TypeId):Option Nat:=match Ek P t with | some (_,n,_)=>some n | none=>none
def wD (t:TypeId):Option (List A):=match Ek P t with
 | some (some z,_,_)=>dv (z.cells.toList.map pE)
 | _=>none
def Ul (t:TypeId):Option Bool:=match P.underlying t with
 | some (.struct _)=>some true
 | some (.array ..) | none=>none
 | _=>some false
end types
def A.toT {α:Type} (a:A) (k:T→MA α):MA α:=match a with
 | .t x=>k x
 | .nil=>k (.sl 0 [])
 | .own r=>.getRw r fun
  | some (.live _ sz rows)=>.setRw r (.frz sz rows) (k (.sl sz rows))
  | some (.frz sz rows)=>k (.sl sz rows)
  | _=>.fail
 | _=>.fail
def A.toTs {α:Type}:List A→(List T→MA α)→MA α
 | [],k=>k []
 | a :: r,k=>a.toT fun x=>A.toTs r fun xs=>k (x :: xs)
def mK:List Nat→List A→List A
 | n :: ns,.nil :: r=>.t (.sl n []) :: mK ns r
 | _ :: ns,a :: r=>a :: mK ns r
 | _,l=>l
def Zo (P:Program):Nat→TypeId→List Nat
 | 0,_=>[]
 | k+1,t=>match P.underlying t with
  | some (.struct fs)=>fs.toList.flatMap fun f=>Zo P k f.type
  | some (.slice e)=>match jf P e with | some n=>[n] | none=>[0]
  | _=>match jf P t with | some n=>List.replicate n 0 | none=>[]
def IT (P:Program) (t:TypeId):List Nat:=Zo P 8 t
def spl {α:Type} (l:List α) (off:Nat) (cs:List α):List α:=l.take off++cs++l.drop (off+cs.length)
def Hi (agg:Bool) (n:Nat) (l:List A) (off:Nat):Option A :=
 if off+n≤l.length then if agg then some (.agg ((l.drop off).take n)) else if n=1 then l[off]? else none else none
def isB (P:Program) (t:TypeId):Bool:=match P.underlying t with | some .bool=>true | _=>false
def EO (tb:Bool) (op:BinOp) (x y:T):Option T:=match x,y with
 | .int k a,.int k' b=>match op with
  | .shl=>if 0≤b then some (.int k (k.wrap (a*2 ^ min b.toNat k.bits))) else none
  | .shr=>if 0≤b then some (.int k (a.fdiv (2 ^ min b.toNat k.bits))) else none
  | _=>if k=k' then match op with
   | .add=>some (.int k (k.wrap (a+b)))
   | .sub=>some (.int k (k.wrap (a - b)))
   | .mul=>some (.int k (k.wrap (a*b)))
   | .quo=>if b=0 then none else some (.int k (k.wrap (a.tdiv b)))
   | .rem=>if b=0 then none else some (.int k (a.tmod b))
   | .and=>some (.int k (k.wrap (BitVec.ofInt k.bits a &&& BitVec.ofInt k.bits b).toNat))
   | .or=>some (.int k (k.wrap (BitVec.ofInt k.bits a ||| BitVec.ofInt k.bits b).toNat))
   | .xor=>some (.int k (k.wrap (BitVec.ofInt k.bits a ^^^ BitVec.ofInt k.bits b).toNat))
   | .andNot=>some (.int k (k.wrap (BitVec.ofInt k.bits a &&& ~~~ BitVec.ofInt k.bits b).toNat))
   | .eql=>some (.bool (a == b))
   | .neq=>some (.bool (a != b))
   | .lss=>some (.bool (decide (a < b)))
   | .leq=>some (.bool (decide (a≤b)))
   | .gtr=>some (.bool (decide (a > b)))
   | .geq=>some (.bool (decide (a≥b)))
   | _=>none
   else none
 | .str a,.str b=>match op with
  | .add=>if a.size+b.size≤9223372036854775807 then some (.str (a++b)) else none
  | .eql=>some (.bool (a.toList == b.toList))
  | .neq=>some (.bool (!(a.toList == b.toList)))
  | _=>none
 | .bool a,.bool b=>if tb then match op with
  | .eql=>some (.bool (a == b))
  | .neq=>some (.bool (!(a == b)))
  | _=>none
  else none
 | _,_=>none
def Vm:List A→Option (List Int)
 | []=>some []
 | .t (.int .i64 n) :: r=>match Vm r with | some l=>some (n :: l) | none=>none
 | _ :: _=>none
def YH (P:Program):Nat→List Field→Bool
 | _,[]=>true
 | k,f :: r=>f.name != "_" && f.offset == k && (match P.underlying f.type with | some (.int .i64)=>true | _=>false) && YH P (k+1) r
def Zw (P:Program) (t:TypeId):Option Nat:=match P.underlying t with
 | some (.struct fs)=>if !P.stoodInHeld t && !P.eqGuardType P.depth t && YH P 0 fs.toList then some fs.size else none
 | _=>none
def IU (P:Program) (s:TypeId) (f:Nat):Option (Nat×TypeId):=match P.underlying s with
 | some (.struct fs)=>match fs[f]? with
  | some f=>match jf P f.type with | some n=>if n=0 then none else some (f.offset,f.type) | none=>none
  | none=>none
 | _=>none
def IV (P:Program):List Field→Option (List (Nat×Nat))
 | []=>some []
 | f :: r=>match jf P f.type,IV P r with | some n,some l=>some ((f.offset,n) :: l) | _,_=>none
def O9 (P:Program) (t:TypeId):Option (List (Nat×Nat)):=match P.underlying t with
 | some (.struct fs)=>IV P fs.toList
 | _=>none
def SM (pl:List (Nat×Nat)):List A→List (Nat×A)→Option (List A)
 | cs,[]=>some cs
 | cs,(f,x) :: r=>match pl[f]? with
  | some (off,n)=>if x.cells.length=n∧off+n≤cs.length∧x.cells.all A.one then SM pl (spl cs off x.cells) r else none
  | none=>none
def Pa {α:Type} (lb:List Nat) (sz:Nat):List (List T)→List (Nat×A)→(List (List T)→MA α)→MA α
 | rows,[],k=>k rows
 | rows,(i,x) :: r,k=>if x.cells.length=sz∧i < rows.length then A.toTs (mK lb x.cells) fun ts=>Pa lb sz (rows.set i ts) r k else .fail
def i6 (d k:Nat):Nat:=d*65536+k
def qay (d s k:Nat):Nat:=d*65536+1024+s*64+k
def T.sc:T→Bool
 | .sl ..=>false
 | _=>true
def Zx (rows:List (List T)):Bool:=rows.all fun r=>r.all T.sc
def A.rows {α:Type} (a:A) (k:Nat→List (List T)→MA α):MA α:=match a with
 | .t (.sl sz rows)=>k sz rows
 | .ext false (.sl sz rows)=>if Zx rows then k sz rows else .fail
 | .nil=>k 0 []
 | .own r=>.getRw r fun
  | some (.live _ sz rows)=>k sz rows
  | some (.frz sz rows)=>k sz rows
  | _=>.fail
 | _=>.fail
def Aa (r e sz:Nat) (rows:List (List T)):MA A:=.getRw r fun
 | none=>.setRw r (.live e sz rows) (.ret (.own r))
 | some _=>.fail
def Um (d:Nat) (cells:List A):MA A:=.getOb d fun
 | none=>if cells.all A.one then .setOb d cells (.ret (.obj d 0)) else .fail
 | some _=>.fail
def EU:List (List T)→Option (List Int)
 | []=>some []
 | [.int .u8 n] :: r=>match EU r with | some l=>some (n :: l) | none=>none
 | _ :: _=>none
inductive eH where
 | any | obj (s:Nat) | own (d:Nat) | row | frz | el (d:Nat) | win (d:Nat)
 deriving DecidableEq
def A.leafy:A→Bool
 | .t _ | .nil | .ext .. | .undef | .shp _=>true
 | _=>false
def eH.fits:eH→A→Bool
 | .any,_=>true
 | .obj s,.obj s' _=>s == s'
 | .own d,.own r=>r / 65536 == d
 | .own _,.nil=>true
 | .own d,.agg l=>l.all fun x=>match x with | .own r=>r / 65536 == d | x=>x.leafy
 | .row,.elem ..=>true
 | .el d,.elem r _ _ _=>r / 65536 == d
 | .win d,.sub r _ _=>r / 65536 == d
 | .win d,.win r _ _=>r / 65536 == d
 | .frz,.fadr _ | .frz,.t _ | .frz,.nil | .frz,.exa .. | .frz,.ext .. | .frz,.shp _=>true
 | .frz,.agg l=>l.all A.leafy
 | _,_=>false
def eR (ρ:Nat→eH) (st:St) (o:Oper):Bool:=o.op.operands.toList.all fun | .tmp t=>(ρ t).fits (st.tm t) | _=>true
def Zy (s:Bool):T→A
 | .sl sz rows=>.ext s (.sl sz rows)
 | x=>if s then .ext true x else .t x
def Z0:T→T→Bool
 | .int k _,.int k' _=>k == k'
 | .bool _,.bool _=>true
 | _,_=>false
def Z1 (cells:List T) (x:List A):Bool:=match cells,x with
 | z :: _,[.t y]=>Z0 z y
 | _,_=>false
def K4 (P:Program) (t:TypeId) (a:A):MA A :=
 match Ul P t,jf P t with
 | some g,some n=>match a with
  | .obj s off=>.getOb s fun
   | some cells=>match Hi g n cells off with | some v=>.ret v | none=>.fail
   | none=>.fail
  | .elem r sz i off=>.getRw r fun
   | some (.live _ sz' rows) | some (.frz sz' rows)=>if sz=sz' then match rows[i]? with
    | some row=>match Hi g n (row.map A.t) off with | some v=>.ret v | none=>.fail
    | none=>.fail
    else .fail
   | _=>.fail
  | .fadr cells=>match Hi g n (cells.map A.t) 0 with | some v=>.ret v | none=>.fail
  | .exa s cells=>match Hi g n (cells.map (Zy s)) 0 with | some v=>.ret v | none=>.fail
  | _=>.fail
 | _,_=>.fail
def DL (P:Program) (t:TypeId) (a x:A):MA A :=
 match jf P t with
 | some n=>if x.cells.length=n∧x.cells.all A.one then match a with
  | .obj s off=>.getOb s fun
   | some cells=>if off+n≤cells.length then .setOb s (spl cells off x.cells) (.ret .undef) else .fail
   | none=>.fail
  | .elem r sz i off=>A.toTs (mK (IT P t) x.cells) fun ts=>.getRw r fun
   | some (.live e sz' rows)=>if sz=sz' then match rows[i]? with
    | some row=>if off+n≤row.length then .setRw r (.live e sz (rows.set i (spl row off ts))) (.ret .undef) else .fail
    | none=>.fail
    else .fail
   | _=>.fail
  | .exa true cells=>if Z1 cells x.cells then .ret .undef else .fail
  | _=>.fail
  else .fail
 | none=>.fail
def Pb (a:A) (off:Nat):MA A:=match a with
 | .obj s o=>.ret (.obj s (o+off))
 | .elem r sz i o=>.ret (.elem r sz i (o+off))
 | .fadr cells=>.ret (.fadr (cells.drop off))
 | .exa s cells=>.ret (.exa s (cells.drop off))
 | _=>.fail
def DM (n:Nat) (i:Int) (sz:Nat) (rows:List (List T)):MA A :=
 if sz=n∧0≤i then match rows[i.toNat]? with | some row=>.ret (.fadr row) | none=>.fail else .fail
def Pc (s:Bool) (n:Nat) (i:Int) (sz:Nat) (rows:List (List T)):MA A :=
 if sz=n∧0≤i then match rows[i.toNat]? with | some row=>.ret (.exa s row) | none=>.fail else .fail
def nP (P:Program) (t:TypeId) (x i:A):MA A :=
 match P.underlying t,i with
 | some (.slice e),.t (.int _ i)=>match jf P e with
  | some n=>match x with
   | .t (.sl sz rows)=>DM n i sz rows
   | .ext s (.sl sz rows)=>Pc s n i sz rows
   | .own r=>.getRw r fun
    | some (.live _ sz rows)=>if sz=n∧0≤i∧i.toNat < rows.length then .ret (.elem r sz i.toNat 0) else .fail
    | some (.frz sz rows)=>DM n i sz rows
    | _=>.fail
   | _=>.fail
  | none=>.fail
 | _,_=>.fail
def M1 (ev:Operand→Option A):Option Operand→Option (Option A)
 | none=>some none
 | some l=>(ev l).map some
def Bc (d:Nat):Option A→Option Int
 | none=>some d
 | some (.t (.int _ i))=>some i
 | _=>none
def DN (P:Program) (t:TypeId) (x:A) (lo hi:Option A):MA A :=
 match P.underlying t,x with
 | some .string,.t (.str s)=>match Bc 0 lo,Bc s.size hi with
  | some l,some h=>if 0≤l∧l≤h∧h≤s.size then .ret (.t (.str (s.extract l.toNat h.toNat))) else .fail
  | _,_=>.fail
 | some (.slice e),.ext s (.sl sz rows)=>match jf P e,Bc 0 lo,Bc rows.length hi with
  | some n,some l,some h=>if sz=n∧0≤l∧l≤h∧h≤rows.length then .ret (.ext s (.sl sz ((rows.take h.toNat).drop l.toNat))) else .fail
  | _,_,_=>.fail
 | some (.slice e),x=>match jf P e with
  | some n=>x.toT fun
   | .sl sz rows=>match Bc 0 lo,Bc rows.length hi with
    | some l,some h=>if sz=n∨rows=[] then if 0≤l∧l≤h∧h≤rows.length then .ret (.t (.sl sz ((rows.take h.toNat).drop l.toNat))) else .fail else .fail
    | _,_=>.fail
   | _=>.fail
  | none=>.fail
 | _,_=>.fail
def SN (P:Program) (t:TypeId) (x:A) (lo:Option A):MA A :=
 match P.underlying t,x,Bc 0 lo with
 | some (.slice e),.own r,some l=>match jf P e with
  | some n=>.getRw r fun
   | some (.live _ sz rows)=>if sz=n∧0≤l∧l≤rows.length then .ret (.sub r n l.toNat) else .fail
   | _=>.fail
  | none=>.fail
 | _,_,_=>.fail
def SO (P:Program) (t:TypeId) (x:A) (lo hi:Option A):MA A :=
 match P.underlying t,x,Bc 0 lo with
 | some (.slice e),.own r,some l=>if jf P e=some 1 then .getRw r fun
  | some (.live _ sz rows)=>match Bc rows.length hi with
   | some h=>if sz=1∧0≤l∧l≤h∧h≤rows.length then .ret (.win r l.toNat (h - l).toNat) else .fail
   | none=>.fail
  | _=>.fail
  else .fail
 | _,_,_=>.fail
def Wy (ρ:Nat→eH):Option Nat→Bool
 | some d=>match ρ d with | .win _=>true | _=>false
 | none=>false
def qaz (ρ:Nat→eH):Option Nat→Bool
 | some d=>match ρ d with | .own d'=>Nat.beq d d' | _=>false
 | none=>false
def IW (P:Program) (d:Option Nat) (t:TypeId) (x:A) (hi:Option A):MA A :=
 match P.underlying t,x,hi,d with
 | some (.slice e),.own r,some (.t (.int _ h)),some d=>match jf P e with
  | some n=>.getRw r fun
   | some (.live e' sz rows)=>if sz=n∧0≤h∧h≤rows.length then .setRw r .gone (Aa (i6 d 0) e' sz (rows.take h.toNat)) else .fail
   | _=>.fail
  | none=>.fail
 | _,_,_,_=>.fail
def XN (ρ:Nat→eH) (d:Option Nat) (lo hi:Option A):Bool:=Wy ρ d || (qaz ρ d && lo.isNone)
def Un (rows ys:List (List T)) (lo:Nat):List (List T):=rows.take lo++ys.take (rows.length - lo)++rows.drop (lo+min ys.length (rows.length - lo))
def IX (P:Program) (t:TypeId) (r lo m:Nat) (y:A):MA A :=
 match P.underlying t with
 | some (.slice e)=>if jf P e=some 1 then y.rows fun k ys=>if (k=1∨ys=[])∧ys.length≤m then .getRw r fun
  | some (.live e' sz rows)=>if sz=1∧lo+m≤rows.length then .setRw r (.live e' 1 (rows.take lo++ys++rows.drop (lo+ys.length))) (.ret (.t (.int .i64 ys.length))) else .fail
  | _=>.fail
  else .fail else .fail
 | _=>.fail
def Hj (P:Program) (ts:List TypeId) (x y:A):MA A :=
 match ts,x with
 | [t,_],.win r lo m=>IX P t r lo m y
 | [t,t'],.sub r n lo=>match P.underlying t with
  | some (.slice e)=>if jf P e=some 1∧n=1 then y.rows fun m ys=>if m=1∨ys=[] then .getRw r fun
   | some (.live e' sz rows)=>if sz=1∧lo≤rows.length then .setRw r (.live e' 1 (Un rows ys lo)) (.ret (.t (.int .i64 (min ys.length (rows.length - lo):Nat)))) else .fail
   | _=>.fail
   else .fail else .fail
  | _=>.fail
 | _,_=>.fail
def IY (P:Program) (ts:List TypeId) (x:A):MA A :=
 match ts,x with
 | [t],.sub r n lo=>match P.underlying t with
  | some (.slice e)=>match wD P e with
   | some [.t z]=>if jf P e=some 1∧n=1 then .getRw r fun
    | some (.live e' sz rows)=>if sz=1∧lo≤rows.length then .setRw r (.live e' 1 (rows.take lo++List.replicate (rows.length - lo) [z])) (.ret (.tup [])) else .fail
    | _=>.fail
    else .fail
   | _=>.fail
  | _=>.fail
 | _,_=>.fail
def Pd (P:Program) (d:Option Nat) (t:TypeId) (len cap:A):MA A :=
 match P.underlying t,len,cap,d with
 | some (.slice e),.t (.int .i64 l),.t (.int .i64 c),some d=>match Ek P e,wD P e with
  | some (_,n,by_),some z=>if z.length=n∧0 < n∧0≤c∧(l=0∨l=c)∧c.toNat*by_≤140737488355328∧c≤9223372036854775807 then
    A.toTs (mK (IT P e) z) fun ts=>Aa (i6 d 0) e n (List.replicate l.toNat ts) else .fail
  | _,_=>.fail
 | _,_,_,_=>.fail
def yT (P:Program) (d:Option Nat) (ts:List TypeId) (x y:A):MA A :=
 match ts,d with
 | [t,t'],some d=>if t=t' then match P.underlying t with
  | some (.slice e)=>match Ek P e,wD P e with
   | some (some _,n,by_),some z=>if z.length=n∧0 < n∧0 < by_ then y.rows fun m ys=>if m=n∨ys=[] then match x with
    | .nil=>if ys.length*by_≤140737488355328 then Aa (i6 d 0) e n ys else .fail
    | .own r=>.getRw r fun
     | some (.live e' sz rows)=>if e'=e∧sz=n∧(rows.length+ys.length)*by_≤140737488355328 then
       .setRw r .gone (Aa (i6 d 0) e n (rows++ys)) else .fail
     | _=>.fail
    | _=>.fail
    else .fail
    else .fail
   | _,_=>.fail
  | _=>.fail
  else .fail
 | _,_=>.fail
def Pe (P:Program) (t:TypeId) (x:A):MA A :=
 match P.underlying t,x with
 | some .string,.t (.str s)=>.ret (.t (.int .i64 s.size))
 | some (.slice _),.ext _ (.sl _ rows)=>.ret (.t (.int .i64 rows.length))
 | some (.slice _),x=>x.rows fun _ rows=>.ret (.t (.int .i64 rows.length))
 | _,_=>.fail
def rq (P:Program) (ρ:Nat→eH) (ev:Operand→Option A) (o:Oper):MA A :=
 match o.op with
 | .move x | .assign x=>match ev x with | some v=>.ret v | none=>.fail
 | .pick c a b=>match ev c,ev a,ev b with
  | some (.t (.bool c)),some a,some b=>.ret (if c then a else b)
  | _,_,_=>.fail
 | .alloc e=>match o.dst,wD P e with | some d,some z=>Um d z | _,_=>.fail
 | .box _ x=>match o.dst,ev x with
  | some d,some v=>if ρ d=.frz then A.toTs v.cells fun ts=>.ret (.fadr ts) else Um d v.cells
  | _,_=>.fail
 | .build t parts=>match wD P t,O9 P t,dv (parts.toList.map fun (i,x)=>(ev x).map fun v=>(i,v)) with
  | some z,some pl,some ps=>match SM pl z ps with | some cs=>.ret (.agg cs) | none=>.fail
  | _,_,_=>.fail
 | .buildSlice t n parts=>match P.underlying t,o.dst,dv (parts.toList.map fun (i,x)=>(ev x).map fun v=>(i,v)) with
  | some (.slice e),some d,some ps=>match jf P e,wD P e with
   | some sz,some z=>if z.length=sz∧0 < sz∧n*sz≤16777216 then A.toTs (mK (IT P e) z) fun ts=>Pa (IT P e) sz (List.replicate n ts) ps fun rows=>Aa (i6 d 0) e sz rows else .fail
   | _,_=>.fail
  | _,_,_=>.fail
 | .load t a=>match ev a with | some a=>K4 P t a | none=>.fail
 | .store t a x=>match ev a,ev x with | some a,some x=>DL P t a x | _,_=>.fail
 | .nilCheck x=>match ev x with
  | some (.obj s o)=>.ret (.obj s o)
  | some (.elem r sz i o)=>.ret (.elem r sz i o)
  | some (.fadr c)=>.ret (.fadr c)
  | some (.exa s c)=>.ret (.exa s c)
  | some (.clo f c)=>.ret (.clo f c)
  | _=>.fail
 | .binOp op t x y _=>match ev x,ev y with
  | some (.t x),some (.t y)=>match EO (isB P t) op x y with | some z=>.ret (.t z) | none=>.fail
  | some (.agg x),some (.agg y)=>match Zw P t,Vm x,Vm y,op with
   | some n,some xs,some ys,.eql=>if xs.length=n∧ys.length=n then .ret (.t (.bool (xs == ys))) else .fail
   | some n,some xs,some ys,.neq=>if xs.length=n∧ys.length=n then .ret (.t (.bool (!(xs == ys)))) else .fail
   | _,_,_,_=>.fail
  | some (.nn _ _),some .nil=>match op,P.underlying t with
   | .eql,some (.slice _)=>.ret (.t (.bool false))
   | _,_=>.fail
  | some .nil,some .nil=>match op,P.underlying t with
   | .eql,some (.slice _)=>.ret (.t (.bool true))
   | _,_=>.fail
  | _,_=>.fail
 | .unOp op _ x=>match op,ev x with
  | .not,some (.t (.bool b))=>.ret (.t (.bool (!b)))
  | .neg,some (.t (.int k n))=>.ret (.t (.int k (k.wrap (0 - n))))
  | _,_=>.fail
 | .convert s t x=>match P.underlying s,P.underlying t,ev x with
  | some _,some (.int k),some (.t (.int _ n))=>.ret (.t (.int k (k.wrap n)))
  | some _,some .string,some (.t (.str s))=>.ret (.t (.str s))
  | some (.slice e),some .string,some x=>match P.underlying e with
   | some (.int .u8)=>x.rows fun _ rows=>match EU rows with | some l=>.ret (.t (.str (strOfNums l))) | none=>.fail
   | _=>.fail
  | _,_,_=>.fail
 | .makeFunc (.func f) first caps=>match first.toList,dv (caps.toList.map ev) with
  | [],some l=>.ret (.clo f l)
  | _,_=>.fail
 | .makeSlice t l c=>match ev l,ev c with | some l,some c=>Pd P o.dst t l c | _,_=>.fail
 | .slice t x lo hi none=>match ev x,M1 ev lo,M1 ev hi with
  | some x,some lo,some hi=>if XN ρ o.dst lo hi then (if Wy ρ o.dst then (if hi.isNone then SN P t x lo else SO P t x lo hi) else IW P o.dst t x hi) else DN P t x lo hi
  | _,_,_=>.fail
 | .fieldAddr s x f=>match ev x,IU P s f with | some a,some (off,_)=>Pb a off | _,_=>.fail
 | .field s x f=>match ev x,IU P s f with
  | some (.agg l),some (off,t)=>match Ul P t,jf P t with
   | some g,some n=>match Hi g n l off with | some v=>.ret v | none=>.fail
   | _,_=>.fail
  | _,_=>.fail
 | .indexAddr t x i=>match ev x,ev i with | some x,some i=>nP P t x i | _,_=>.fail
 | .index t x i=>match P.underlying t,ev x,ev i with
  | some .string,some (.t (.str s)),some (.t (.int _ i))=>if 0≤i then match s[i.toNat]? with | some b=>.ret (.t (.int .u8 b.toNat)) | none=>.fail else .fail
  | _,_,_=>.fail
 | .extract x i=>match ev x with
  | some (.tup l)=>match l[i]? with | some v=>.ret v | none=>.fail
  | _=>.fail
 | .call { callee:=.builtin .len,args,argTypes }=>match args.toList,argTypes.toList with
  | [x],[t]=>match ev x with | some x=>Pe P t x | none=>.fail
  | _,_=>.fail
 | .call { callee:=.builtin .append,args,argTypes }=>match args.toList with
  | [x,y]=>match ev x,ev y with | some x,some y=>yT P o.dst argTypes.toList x y | _,_=>.fail
  | _=>.fail
 | .call { callee:=.builtin .copy,args,argTypes }=>match args.toList with
  | [x,y]=>match ev x,ev y with | some x,some y=>Hj P argTypes.toList x y | _,_=>.fail
  | _=>.fail
 | .call { callee:=.builtin .clear,args,argTypes }=>match args.toList with
  | [x]=>match ev x with | some x=>IY P argTypes.toList x | _=>.fail
  | _=>.fail
 | .call { callee:=.builtin .min,args,.. }=>match args.toList with
  | [x,y]=>match ev x,ev y with
   | some (.t (.int k a)),some (.t (.int _ b))=>.ret (.t (.int k (if b < a then b else a)))
   | _,_=>.fail
  | _=>.fail
 | .call { callee:=.builtin .max,args,.. }=>match args.toList with
  | [x,y]=>match ev x,ev y with
   | some (.t (.int k a)),some (.t (.int _ b))=>.ret (.t (.int k (if b > a then b else a)))
   | _,_=>.fail
  | _=>.fail
 | _=>.fail
end Go.Tm
namespace Go.Tm
open Go.RowKit
inductive Rd (w:World) (F:Nat→Prop):T→Value→Prop
 | int (k:IntKind) (n:Int):Rd w F (.int k n) (.int k n)
 | bool (b:Bool):Rd w F (.bool b) (.bool b)
 | str (s:ByteArray):Rd w F (.str s) (.string s)
 | nilf:Rd w F .nilf .nilFunc
 | sl0 (sz:Nat) (a:Option Addr) (c:Nat) (ha:a=none→c=0):Rd w F (.sl sz []) (.slice a 0 c)
 | sl (sz:Nat) (rows:List (List T)) (b off c:Nat) (u:Nat→Nat→Value) (hc:rows.length≤c) (hF:F b)
   (hs:∀ (i:Nat) (row:List T),rows[i]?=some row→row.length=sz)
   (hx:∀ (i:Nat) (row:List T) (j:Nat) (x:T),rows[i]?=some row→row[j]?=some x→w.cell? ⟨b,off+i*sz+j,none⟩=some (u i j))
   (hr:∀ (i:Nat) (row:List T) (j:Nat) (x:T),rows[i]?=some row→row[j]?=some x→Rd w F x (u i j)) :
   Rd w F (.sl sz rows) (.slice (some ⟨b,off,none⟩) rows.length c)
def Cp (F:Nat→Prop) (w w':World):Prop:=∀ b,F b→w'.heap[b]?=w.heap[b]?
theorem De {F:Nat→Prop} {w w':World} (h:Cp F w w') {b o:Nat} (hb:F b):w'.cell? ⟨b,o,none⟩=w.cell? ⟨b,o,none⟩ :=
 World.cell?_of_block (w:=w) (h b hb)
theorem Rd.mono {w w':World} {F F':Nat→Prop} {x:T} {v:Value} (h:Rd w F x v) (hs:Cp F w w') (hF:∀ b,F b→F' b):Rd w' F' x v:=by
 induction h with
 | int k n=>exact .int k n
 | bool b=>exact .bool b
 | str s=>exact .str s
 | nilf=>exact .nilf
 | sl0 sz a c ha=>exact .sl0 sz a c ha
 | sl sz rows b off c u hc hb hsz hx hr ih =>
  exact .sl sz rows b off c u hc (hF b hb) hsz (fun i row j x h1 h2=>by rw [De hs hb]; exact hx i row j x h1 h2) ih
theorem Rd.one {w:World} {F:Nat→Prop} {x:T} {v:Value} (h:Rd w F x v):v.oneCell'=true∧v.cells=#[v]:=by
 cases h <;> exact ⟨rfl,rfl⟩
inductive Sd (s:Bool) (w:World) (D:Nat→Prop):T→Value→Prop
 | int (k:IntKind) (n n':Int) (h:s=false→n'=n):Sd s w D (.int k n) (.int k n')
 | bool (b b':Bool) (h:s=false→b'=b):Sd s w D (.bool b) (.bool b')
 | str (x:ByteArray):Sd s w D (.str x) (.string x)
 | nilf:Sd s w D .nilf .nilFunc
 | sl0 (sz:Nat) (a:Option Addr) (c:Nat) (ha:a=none→c=0):Sd s w D (.sl sz []) (.slice a 0 c)
 | sl (sz:Nat) (rows:List (List T)) (b off c:Nat) (u:Nat→Nat→Value) (hc:rows.length≤c) (hF:D b)
   (hs:∀ (i:Nat) (row:List T),rows[i]?=some row→row.length=sz)
   (hx:∀ (i:Nat) (row:List T) (j:Nat) (x:T),rows[i]?=some row→row[j]?=some x→w.cell? ⟨b,off+i*sz+j,none⟩=some (u i j))
   (hr:∀ (i:Nat) (row:List T) (j:Nat) (x:T),rows[i]?=some row→row[j]?=some x→Sd s w D x (u i j)) :
   Sd s w D (.sl sz rows) (.slice (some ⟨b,off,none⟩) rows.length c)
theorem Sd.one {s:Bool} {w:World} {D:Nat→Prop} {x:T} {v:Value} (h:Sd s w D x v):v.oneCell'=true∧v.cells=#[v]:=by
 cases h <;> exact ⟨rfl,rfl⟩
theorem Sd.rd {w w':World} {D D':Nat→Prop} {x:T} {v:Value} (h:Sd false w D x v) (hs:Cp D w w') (hD:∀ b,D b→D' b):Rd w' D' x v:=by
 induction h with
 | int k n n' h=>rw [h rfl]; exact .int k n
 | bool b b' h=>rw [h rfl]; exact .bool b
 | str s=>exact .str s
 | nilf=>exact .nilf
 | sl0 sz a c ha=>exact .sl0 sz a c ha
 | sl sz rows b off c u hc hb hsz hx hr ih =>
  exact .sl sz rows b off c u hc (hD b hb) hsz (fun i row j x h1 h2=>by rw [De hs hb]; exact hx i row j x h1 h2) ih
inductive Kq:Value→Value→Prop
 | refl (v:Value):Kq v v
 | int (k:IntKind) (n n':Int):Kq (.int k n) (.int k n')
 | bool (b b':Bool):Kq (.bool b) (.bool b')
theorem Kq.trans {a b c:Value} (h:Kq a b) (k:Kq b c):Kq a c:=by
 cases h with
 | refl=>exact k
 | int k1 n n'=>cases k with
  | refl=>exact .int _ _ _
  | int=>exact .int _ _ _
 | bool b b'=>cases k with
  | refl=>exact .bool _ _
  | bool=>exact .bool _ _
def Wr (w:World) (b:Nat):Prop:=∃ arr e,w.heap[b]?=some (.cells arr e (0,0))
def KS (w w':World) (b:Nat):Prop:=∃ arr arr' e,w.heap[b]?=some (.cells arr e (0,0))∧w'.heap[b]?=some (.cells arr' e (0,0))∧arr'.size=arr.size∧∀ (i:Nat) (v:Value),arr[i]?=some v→∃ v',arr'[i]?=some v'∧Kq v v'
theorem KS.refl {w:World} {b:Nat} (h:Wr w b):KS w w b:=by
 obtain ⟨arr,e,h⟩:=h
 exact ⟨arr,arr,e,h,h,rfl,fun i v h=>⟨v,h,.refl v⟩⟩
theorem KS.trans {a b c:World} {k:Nat} (h:KS a b k) (h':KS b c k):KS a c k:=by
 obtain ⟨x,y,e,h1,h2,h3,h4⟩:=h
 obtain ⟨y',z,e',k1,k2,k3,k4⟩:=h'
 rw [h2] at k1
 cases k1
 refine ⟨x,z,e,h1,k2,k3.trans h3,fun i v hv=>?_⟩
 obtain ⟨v',p1,p2⟩:=h4 i v hv
 obtain ⟨v'',q1,q2⟩:=k4 i v' p1
 exact ⟨v'',q1,p2.trans q2⟩
theorem KS.wr {w w':World} {b:Nat} (h:KS w w' b):Wr w' b:=by
 obtain ⟨x,y,e,h1,h2,_⟩:=h
 exact ⟨y,e,h2⟩
theorem KS.same {w w' w'':World} {b:Nat} (h:KS w w' b) (hs:w''.heap[b]?=w'.heap[b]?):KS w w'' b:=by
 obtain ⟨x,y,e,h1,h2,h3⟩:=h
 exact ⟨x,y,e,h1,hs.trans h2,h3⟩
theorem KS.cell {w w':World} {b o:Nat} {v:Value} (h:KS w w' b) (hv:w.cell? ⟨b,o,none⟩=some v):∃ v',w'.cell? ⟨b,o,none⟩=some v'∧Kq v v':=by
 obtain ⟨x,y,e,h1,h2,h3,h4⟩:=h
 simp only [World.cell?,h1,h2,Option.isSome_none,Bool.false_eq_true,if_false] at hv ⊢
 exact h4 o v hv
theorem Sd.kq {w:World} {D:Nat→Prop} {x:T} {v v':Value} (h:Sd true w D x v) (hk:Kq v v'):Sd true w D x v':=by
 cases hk with
 | refl=>exact h
 | int k n n'=>cases h with | int k n0 _ _=>exact .int k n0 n' (fun h=>by cases h)
 | bool b b'=>cases h with | bool b0 _ _=>exact .bool b0 b' (fun h=>by cases h)
theorem Sd.ks {w w':World} {D:Nat→Prop} {x:T} {v:Value} (h:Sd true w D x v) (hk:∀ b,D b→KS w w' b):Sd true w' D x v:=by
 induction h with
 | int k n n' h=>exact .int k n n' h
 | bool b b' h=>exact .bool b b' h
 | str s=>exact .str s
 | nilf=>exact .nilf
 | sl0 sz a c ha=>exact .sl0 sz a c ha
 | sl sz rows b off c u hc hb hsz hx hr ih =>
  refine .sl sz rows b off c (fun i j=>(w'.cell? ⟨b,off+i*sz+j,none⟩).getD undef) hc hb hsz (fun i row j x h1 h2=>?_) (fun i row j x h1 h2=>?_)
  ·obtain ⟨v',h3,_⟩:=(hk b hb).cell (hx i row j x h1 h2)
   rw [h3]; rfl
  ·obtain ⟨v',h3,h4⟩:=(hk b hb).cell (hx i row j x h1 h2)
   rw [h3]
   exact (ih i row j x h1 h2).kq h4
structure Gh where
 F:Nat→Prop
 ob:Nat→Nat
 rw:Nat→Value
 D:Nat→Prop:=fun _=>False
 dw:World:=default
 sh:Bool:=false
 S:Nat→Prop:=fun _=>False
 sw:World:=default
inductive VR (w:World) (g:Gh) (O R:Nat→Prop):A→Value→Prop
 | t (x:T) (v:Value) (h:Rd w g.F x v):VR w g O R (.t x) v
 | nil:VR w g O R .nil (.slice none 0 0)
 | own (r:Nat) (hr:R r):VR w g O R (.own r) (g.rw r)
 | agg (l:List A) (vs:List Value) (hl:l.length=vs.length) (h:∀ (i:Nat) (x:A) (v:Value),l[i]?=some x→vs[i]?=some v→VR w g O R x v):VR w g O R (.agg l) (.agg vs.toArray)
 | tup (l:List A) (vs:List Value) (hl:l.length=vs.length) (h:∀ (i:Nat) (x:A) (v:Value),l[i]?=some x→vs[i]?=some v→VR w g O R x v):VR w g O R (.tup l) (.tuple vs.toArray)
 | obj (s off:Nat) (hs:O s):VR w g O R (.obj s off) (.pointer (some ⟨g.ob s,off,none⟩))
 | elem (r sz i off b n c:Nat) (hr:R r) (he:g.rw r=.slice (some ⟨b,0,none⟩) n c):VR w g O R (.elem r sz i off) (.pointer (some ⟨b,i*sz+off,none⟩))
 | win (r lo m n c c':Nat) (ad a':Option Addr) (hr:R r) (he:g.rw r=.slice ad n c) (hm:lo+m≤n) (hp:0 < m→∃ b,ad=some ⟨b,0,none⟩∧a'=some ⟨b,lo,none⟩):VR w g O R (.win r lo m) (.slice a' m c')
 | sub (r sz lo n c c':Nat) (ad a':Option Addr) (hr:R r) (he:g.rw r=.slice ad n c) (hp:lo < n→∃ b,ad=some ⟨b,0,none⟩∧a'=some ⟨b,lo*sz,none⟩):VR w g O R (.sub r sz lo) (.slice a' (n - lo) c')
 | fadr (cells:List T) (b off:Nat) (u:Nat→Value) (hF:g.F b) (hx:∀ (j:Nat) (x:T),cells[j]?=some x→w.cell? ⟨b,off+j,none⟩=some (u j))
   (hr:∀ (j:Nat) (x:T),cells[j]?=some x→Rd w g.F x (u j)):VR w g O R (.fadr cells) (.pointer (some ⟨b,off,none⟩))
 | nn (sz:Nat) (rows:List (List T)) (v:Value) (h:Rd w g.F (.sl sz rows) v) (hv:∃ a n c,v=.slice (some a) n c):VR w g O R (.nn sz rows) v
 | clo (f:FuncId) (caps:List A) (vs:List Value) (hl:caps.length=vs.length) (h:∀ (i:Nat) (x:A) (v:Value),caps[i]?=some x→vs[i]?=some v→VR w g O R x v) :
   VR w g O R (.clo f caps) (.func (.func f) #[] vs.toArray)
 | undef (v:Value):VR w g O R .undef v
 | raw (v:Value):VR w g O R (.raw v) v
 | shp (x:T) (v:Value) (h:Sd true g.sw g.S x v):VR w g O R (.shp x) v
 | ext (s:Bool) (x:T) (v:Value) (hs:g.sh=s) (h:Sd s g.dw g.D x v):VR w g O R (.ext s x) v
 | exa (s:Bool) (cells:List T) (b off:Nat) (u:Nat→Value) (hs:g.sh=s) (hD:g.D b) (hx:∀ (j:Nat) (x:T),cells[j]?=some x→g.dw.cell? ⟨b,off+j,none⟩=some (u j))
   (hr:∀ (j:Nat) (x:T),cells[j]?=some x→Sd s g.dw g.D x (u j)):VR w g O R (.exa s cells) (.pointer (some ⟨b,off,none⟩))
structure sN (w w':World) (g g':Gh) (O R O' R':Nat→Prop):Prop where
 same:Cp g.F w w'
 F:∀ b,g.F b→g'.F b
 O:∀ s,O s→O' s∧g'.ob s=g.ob s
 R:∀ r,R r→R' r∧g'.rw r=g.rw r
 d:g'.D=g.D∧g'.dw=g.dw∧g'.sh=g.sh
 s:g'.S=g.S∧g'.sw=g.sw
theorem sN.refl (w:World) (g:Gh) (O R:Nat→Prop):sN w w g g O R O R:=⟨fun _ _=>rfl,fun _ h=>h,fun _ h=>⟨h,rfl⟩,fun _ h=>⟨h,rfl⟩,⟨rfl,rfl,rfl⟩,rfl,rfl⟩
theorem VR.mono {w w':World} {g g':Gh} {O R O' R':Nat→Prop} {a:A} {v:Value} (h:VR w g O R a v) (e:sN w w' g g' O R O' R'):VR w' g' O' R' a v:=by
 induction h with
 | t x v h=>exact .t x v (h.mono e.same e.F)
 | nil=>exact .nil
 | own r hr=>rw [← (e.R r hr).2]; exact .own r (e.R r hr).1
 | agg l vs hl h ih=>exact .agg l vs hl ih
 | tup l vs hl h ih=>exact .tup l vs hl ih
 | obj s off hs=>rw [← (e.O s hs).2]; exact .obj s off (e.O s hs).1
 | elem r sz i off b n c hr he=>exact .elem r sz i off b n c (e.R r hr).1 (by rw [(e.R r hr).2]; exact he)
 | win r lo m n c c' ad a' hr he hm hp=>exact .win r lo m n c c' ad a' (e.R r hr).1 (by rw [(e.R r hr).2]; exact he) hm hp
 | sub r sz lo n c c' ad a' hr he hp=>exact .sub r sz lo n c c' ad a' (e.R r hr).1 (by rw [(e.R r hr).2]; exact he) hp
 | fadr cells b off u hF hx hr=>exact .fadr cells b off u (e.F b hF) (fun j x h=>by rw [De e.same hF]; exact hx j x h) (fun j x h=>(hr j x h).mono e.same e.F)
 | nn sz rows v h hv=>exact .nn sz rows v (h.mono e.same e.F) hv
 | clo f caps vs hl h ih=>exact .clo f caps vs hl ih
 | undef v=>exact .undef v
 | raw v=>exact .raw v
 | shp x v h=>obtain ⟨h1,h2⟩:=e.s; exact .shp x v (by rw [h1,h2]; exact h)
 | ext s x v hs h=>obtain ⟨h1,h2,h3⟩:=e.d; exact .ext s x v (h3.trans hs) (by rw [h1,h2]; exact h)
 | exa s cells b off u hs hD hx hr=>obtain ⟨h1,h2,h3⟩:=e.d; exact .exa s cells b off u (h3.trans hs) (by rw [h1]; exact hD) (by rw [h2]; exact hx) (by rw [h1,h2]; exact hr)
theorem VR.one {w:World} {g:Gh} {O R:Nat→Prop} {a:A} {v:Value} (h:VR w g O R a v) (ha:a.one=true)
  (hrw:∀ r,R r→∃ A n c,g.rw r=.slice A n c):v.oneCell'=true∧v.cells=#[v]:=by
 cases h with
 | t x v h=>exact h.one
 | own r hr=>obtain ⟨A,n,c,e⟩:=hrw r hr; rw [e]; exact ⟨rfl,rfl⟩
 | agg | tup | undef | raw=>cases ha
 | nn sz rows v h hv=>exact h.one
 | ext s x v hs h=>exact h.one
 | shp x v h=>exact h.one
 | _=>exact ⟨rfl,rfl⟩
def sI (w0 w:World) (X:Nat→Prop) (F:Nat→Prop) (h:Value):Vl→Prop
 | .live e sz rows=>∃ inner:List Value,w.ownsRow 0 e sz h rows.length inner∧(∀ (i:Nat) (row:List T),rows[i]?=some row→row.length=sz) ∧
   (∀ (i:Nat) (row:List T) (j:Nat) (x:T),rows[i]?=some row→row[j]?=some x→∃ u,inner[i*sz+j]?=some u∧Rd w F x u) ∧
   (∀ b,h.ownBlock=some b→¬ F b∧(w0.heap.size≤b∨X b))
 | .frz sz rows=>Rd w F (.sl sz rows) h
 | .gone=>∃ A n c,h=.slice A n c
def St.O (st:St) (s:Nat):Prop:=(st.ob s).isSome=true
def St.R (st:St) (r:Nat):Prop:=(st.rw r).isSome=true
def St.L (st:St) (r:Nat):Prop:=∃ e sz rows,st.rw r=some (.live e sz rows)
structure En where
 w0:World
 X:Nat→Prop
 F0:Nat→Prop
 lent:List (Nat×Nat)
 D:Nat→Prop:=fun _=>False
 sh:Bool:=false
 pin:Option Value:=none
def PR:Nat:=58982400
def Fr (g:Gh) (w0 w:World) (b:Nat):Prop:=w.heap[b]?=w0.heap[b]?∨(g.sh=true∧g.D b∧KS w0 w b)
theorem Fr.keep {g:Gh} {w0 w w':World} {b:Nat} (h:Fr g w0 w b) (hs:w'.heap[b]?=w.heap[b]?):Fr g w0 w' b:=by
 rcases h with h | ⟨h1,h2,h3⟩
 ·exact .inl (hs.trans h)
 ·exact .inr ⟨h1,h2,h3.same hs⟩
theorem Fr.gh {g g':Gh} {w0 w:World} {b:Nat} (h:Fr g w0 w b) (hd:g'.D=g.D∧g'.dw=g.dw∧g'.sh=g.sh):Fr g' w0 w b:=by
 unfold Fr at *
 rw [hd.1,hd.2.2]
 exact h
def Uk (P:Program) (w:World) (X:Nat→Prop):Prop:=∀ k,P.globalNamed "internal/strconv.uint64pow10" = some k→Lib.TabIs P w "internal/strconv.uint64pow10" .u64 Lib.pow10Tab∧¬ X k
class Tb (P:Program) (E:En):Prop where
 tb:Uk P E.w0 fun b=>E.X b∨(E.sh=true∧E.D b)
theorem Uk.mono {P:Program} {w:World} {X X':Nat→Prop} (h:Uk P w X) (hX:∀ b,X' b→X b):Uk P w X':=fun k hk=>⟨(h k hk).1,fun hx=>(h k hk).2 (hX k hx)⟩
theorem Uk.none {P:Program} {w:World} {X:Nat→Prop} (h:(P.globalNamed "internal/strconv.uint64pow10").isNone=true):Uk P w X:=fun k hk=>by rw [hk] at h; cases h
theorem Uk.step {P:Program} {w w':World} {X X':Nat→Prop} (h:Uk P w X) (hw:∀ b,b < w.heap.size→¬ X b→w'.heap[b]?=w.heap[b]?) (hX:∀ b,b < w.heap.size→¬ X b→¬ X' b):Uk P w' X':=fun k hk=>by
 obtain ⟨h1,h2⟩:=h k hk
 unfold Lib.TabIs World.var? at h1 ⊢
 rw [hk] at h1 ⊢
 simp only [Option.bind_some] at h1 ⊢
 have hlt:k < w.heap.size:=by
  rcases Nat.lt_or_ge k w.heap.size with h3 | h3
  ·exact h3
  ·rw [Array.getElem?_eq_none h3] at h1; simp at h1
 rw [hw k hlt h2]
 exact ⟨h1,hX k hlt h2⟩
structure fy (E:En) (g:Gh) (st:St) (w:World):Prop where
 ob:∀ s cells,st.ob s=some cells→∃ arr e,w.heap[g.ob s]?=some (.cells arr e (0,0))∧cells.length≤arr.size ∧
  (∀ (j:Nat) (x:A),cells[j]?=some x→x.one=true∧∃ v,arr[j]?=some v∧VR w g st.O st.R x v)∧¬ g.F (g.ob s)∧(E.w0.heap.size≤g.ob s∨E.X (g.ob s))
 obne:∀ s s',st.O s→st.O s'→g.ob s=g.ob s'→s=s'
 row:∀ r x,st.rw r=some x→sI E.w0 w E.X g.F (g.rw r) x
 rowne:∀ r r' b,st.L r→st.L r'→(g.rw r).ownBlock=some b→(g.rw r').ownBlock=some b→r=r'
 rowob:∀ r s,st.L r→st.O s→(g.rw r).ownBlock≠some (g.ob s)
 F:∀ b,g.F b→b < w.heap.size∧(b < E.w0.heap.size→E.F0 b∨E.X b)∧(E.F0 b∨Wr w b)
 os:w.os=E.w0.os
 tape:w.tape=E.w0.tape
 output:w.output=E.w0.output
 sizes:E.w0.heap.size≤w.heap.size
 frame:∀ b,b < E.w0.heap.size→¬ E.X b→Fr g E.w0 w b
 shp:∀ b,g.S b→g.F b∧KS g.sw w b
 dep0:(g.D=E.D∧g.dw=E.w0∧g.sh=E.sh)∧∀ b,E.D b→b < E.w0.heap.size∧¬ E.X b∧(E.sh=true→¬ E.F0 b∧Wr E.w0 b)
theorem fy.tbW {P:Program} {E:En} [hT:Tb P E] {g:Gh} {st:St} {w:World} (h:fy E g st w) {X:Nat→Prop} (hX:∀ b,b < E.w0.heap.size→¬ E.X b→¬ (E.sh=true∧E.D b)→¬ X b):Uk P w X :=
 hT.tb.step (fun b h1 h2=>by
  rcases h.frame b h1 (fun h=>h2 (.inl h)) with h3 | ⟨h3,h4,_⟩
  ·exact h3
  ·obtain ⟨h5,_,h6⟩:=h.dep0.1
   exact (h2 (.inr ⟨h6 ▸ h3,h5 ▸ h4⟩)).elim) fun b h1 h2=>hX b h1 (fun h=>h2 (.inl h)) (fun h=>h2 (.inr h))
theorem fy.dep {E:En} {g:Gh} {st:St} {w:World} (h:fy E g st w):∀ b,g.D b→g.dw=E.w0∧b < E.w0.heap.size∧¬ E.X b∧(g.sh=true→¬ E.F0 b∧Wr E.w0 b):=fun b hb=>by
 obtain ⟨⟨h1,h2,h3⟩,h4⟩:=h.dep0
 rw [h1] at hb
 rw [h3]
 exact ⟨h2,h4 b hb⟩
structure vn (E:En) (g:Gh) (n:Nat) (st:St) (a:Act) (w:World):Prop where
 mem:fy E g st w
 size:a.tmps.size=n
 defers:a.defers=[]
 tm:∀ i,i < n→∃ v,a.tmps[i]?=some v∧VR w g st.O st.R (st.tm i) v
 und:∀ i,n≤i→st.tm i=.undef
 lent:∀ s b,(s,b)∈E.lent→st.O s∧g.ob s=b
 pin:∀ v,E.pin=some v→st.R PR∧g.rw PR=v
theorem sI.slice {w0 w:World} {X F:Nat→Prop} {h:Value} {r:Vl} (hr:sI w0 w X F h r):∃ A n c,h=.slice A n c:=by
 cases r with
 | live e sz rows =>
  obtain ⟨inner,ho,_⟩:=hr
  rcases ho.2 with ⟨hv,_⟩ | ⟨g,cap,cur,hv,_⟩
  ·exact ⟨_,_,_,hv⟩
  ·exact ⟨_,_,_,hv⟩
 | frz sz rows =>
  have hr:Rd w F (.sl sz rows) h:=hr
  cases hr with
  | sl0=>exact ⟨_,_,_,rfl⟩
  | sl=>exact ⟨_,_,_,rfl⟩
 | gone=>exact hr
theorem fy.hdr {E:En} {g:Gh} {st:St} {w:World} (h:fy E g st w):∀ r,st.R r→∃ A n c,g.rw r=.slice A n c:=by
 intro r hr
 obtain ⟨x,hx⟩:=Option.isSome_iff_exists.1 hr
 exact (h.row r x hx).slice
theorem fy.one {E:En} {g:Gh} {st:St} {w:World} (h:fy E g st w) {a:A} {v:Value} (hv:VR w g st.O st.R a v) (ha:a.one=true):v.oneCell'=true∧v.cells=#[v] :=
 hv.one ha h.hdr
theorem sI.mono {w0 w w':World} {X F F':Nat→Prop} {h:Value} {r:Vl} (hr:sI w0 w X F h r) (hs:Cp F w w') (hF:∀ b,F b→F' b)
  (hb:(∃ e sz rows,r=.live e sz rows)→∀ b,h.ownBlock=some b→w'.heap[b]?=w.heap[b]?∧(F' b→F b)):sI w0 w' X F' h r:=by
 cases r with
 | live e sz rows =>
  obtain ⟨inner,ho,h1,h2,h3⟩:=hr
  replace hb:=hb ⟨e,sz,rows,rfl⟩
  refine ⟨inner,⟨ho.1,?_⟩,h1,fun i row j x hi hj=>?_,fun b hb'=>⟨fun hf=>(h3 b hb').1 ((hb b hb').2 hf),(h3 b hb').2⟩⟩
  ·rcases ho.2 with hn | ⟨g,cap,cur,hv,hg,hh,r⟩
   ·exact .inl hn
   ·exact .inr ⟨g,cap,cur,hv,hg,by rw [(hb g (by rw [hv]; rfl)).1]; exact hh,r⟩
  ·obtain ⟨u,hu,hr⟩:=h2 i row j x hi hj
   exact ⟨u,hu,hr.mono hs hF⟩
 | frz sz rows=>exact Rd.mono hr hs hF
 | gone=>exact hr
end Go.Tm
namespace Go.Tm
open Go.RowKit
theorem OV {w:World} {b:Nat} {o:Obj} (h:w.heap[b]?=some o):b < w.heap.size:=(Array.getElem?_eq_some_iff.1 h).1
theorem fy.ob_lt {E:En} {g:Gh} {st:St} {w:World} (h:fy E g st w) {s:Nat} (hs:st.O s):g.ob s < w.heap.size:=by
 obtain ⟨c,hc⟩:=Option.isSome_iff_exists.1 hs
 obtain ⟨arr,e,hh,_⟩:=h.ob s c hc
 exact OV hh
theorem fy.ob_nf {E:En} {g:Gh} {st:St} {w:World} (h:fy E g st w) {s:Nat} (hs:st.O s):¬ g.F (g.ob s)∧(E.w0.heap.size≤g.ob s∨E.X (g.ob s)):=by
 obtain ⟨c,hc⟩:=Option.isSome_iff_exists.1 hs
 obtain ⟨arr,e,hh,_,_,h1,h2⟩:=h.ob s c hc
 exact ⟨h1,h2⟩
theorem Zz {w:World} {base:Nat} {e:TypeId} {size n:Nat} {v:Value} {xs:List Value} (h:w.ownsRow base e size v n xs) {b:Nat} (hb:v.ownBlock=some b):b < w.heap.size:=(h.lt b hb).2
theorem fy.row_lt {E:En} {g:Gh} {st:St} {w:World} (h:fy E g st w) {r:Nat} (hr:st.L r) {b:Nat} (hb:(g.rw r).ownBlock=some b):b < w.heap.size:=by
 obtain ⟨e,sz,rows,hr⟩:=hr
 obtain ⟨inner,ho,_⟩:=h.row r _ hr
 exact Zz ho hb
theorem fy.row_nf {E:En} {g:Gh} {st:St} {w:World} (h:fy E g st w) {r:Nat} (hr:st.L r) {b:Nat} (hb:(g.rw r).ownBlock=some b):¬ g.F b∧(E.w0.heap.size≤b∨E.X b):=by
 obtain ⟨e,sz,rows,hr⟩:=hr
 obtain ⟨inner,_,_,_,h1⟩:=h.row r _ hr
 exact h1 b hb
theorem ZA {w:World} {base:Nat} {e:TypeId} {size n:Nat} {v:Value} {xs:List Value} (h:w.ownsRow base e size v n xs) {b:Nat} (hb:v.ownBlock=some b):Wr w b:=by
 rcases h.2 with ⟨rfl,_⟩ | ⟨g,cap,cur,rfl,_,hh,_⟩
 ·cases hb
 ·cases hb
  exact ⟨cur,e,hh⟩
theorem fy.row_wr {E:En} {g:Gh} {st:St} {w:World} (h:fy E g st w) {r:Nat} (hr:st.L r) {b:Nat} (hb:(g.rw r).ownBlock=some b):Wr w b:=by
 obtain ⟨e,sz,rows,hr⟩:=hr
 obtain ⟨inner,ho,_⟩:=h.row r _ hr
 exact ZA ho hb
structure sO (w w':World):Prop where
 os:w'.os=w.os
 tape:w'.tape=w.tape
 output:w'.output=w.output
 size:w.heap.size≤w'.heap.size
theorem sO.refl (w:World):sO w w:=⟨rfl,rfl,rfl,Nat.le_refl _⟩
theorem sN.trans {w1 w2 w3:World} {g1 g2 g3:Gh} {O1 R1 O2 R2 O3 R3:Nat→Prop} (h:sN w1 w2 g1 g2 O1 R1 O2 R2) (k:sN w2 w3 g2 g3 O2 R2 O3 R3):sN w1 w3 g1 g3 O1 R1 O3 R3 :=
 ⟨fun b hb=>(k.same b (h.F b hb)).trans (h.same b hb),fun b hb=>k.F b (h.F b hb),fun s hs=>⟨(k.O s (h.O s hs).1).1,(k.O s (h.O s hs).1).2.trans (h.O s hs).2⟩,
  fun r hr=>⟨(k.R r (h.R r hr).1).1,(k.R r (h.R r hr).1).2.trans (h.R r hr).2⟩,⟨k.d.1.trans h.d.1,k.d.2.1.trans h.d.2.1,k.d.2.2.trans h.d.2.2⟩,k.s.1.trans h.s.1,k.s.2.trans h.s.2⟩
section
variable {E:En} {g:Gh} {st:St} {w w':World}
theorem fy.step {g':Gh} {st':St} (h:fy E g st w) (hc:sO w w') (p:Nat→Prop) (hb:∀ b,b < w.heap.size→¬ p b→w'.heap[b]?=w.heap[b]?)
  (hpF:∀ b,p b→¬ g.F b) (hpX:∀ b,b < E.w0.heap.size→p b→E.X b)
  (hF:∀ b,g.F b→g'.F b) (hF':∀ b,g'.F b→¬ g.F b→b < w'.heap.size∧(b < E.w0.heap.size→E.F0 b∨E.X b)∧(E.F0 b∨Wr w' b))
  (hO:∀ s,st.O s→st'.O s∧g'.ob s=g.ob s) (hR:∀ r,st.R r→st'.R r∧g'.rw r=g.rw r)
  (hob:∀ s cells,st'.ob s=some cells→(st.ob s=some cells∧¬ p (g.ob s)∧¬ g'.F (g.ob s))∨(∃ arr e,w'.heap[g'.ob s]?=some (.cells arr e (0,0))∧cells.length≤arr.size ∧
   (∀ (j:Nat) (x:A),cells[j]?=some x→x.one=true∧∃ v,arr[j]?=some v∧VR w g st.O st.R x v)∧¬ g'.F (g'.ob s)∧(E.w0.heap.size≤g'.ob s∨E.X (g'.ob s))))
  (hobne:∀ s s',st'.O s→st'.O s'→g'.ob s=g'.ob s'→s=s')
  (hrow:∀ r x,st'.rw r=some x→(st.rw r=some x∧(st.L r→∀ b,(g.rw r).ownBlock=some b→¬ p b∧¬ g'.F b))∨sI E.w0 w' E.X g'.F (g'.rw r) x)
  (hrowne:∀ r r' b,st'.L r→st'.L r'→(g'.rw r).ownBlock=some b→(g'.rw r').ownBlock=some b→r=r')
  (hrowob:∀ r s,st'.L r→st'.O s→(g'.rw r).ownBlock≠some (g'.ob s)) (hd:g'.D=g.D∧g'.dw=g.dw∧g'.sh=g.sh:=by exact ⟨rfl,rfl,rfl⟩) (hsS:g'.S=g.S∧g'.sw=g.sw:=by exact ⟨rfl,rfl⟩):fy E g' st' w'∧sN w w' g g' st.O st.R st'.O st'.R:=by
 have hS:Cp g.F w w':=fun b hf=>hb b (h.F b hf).1 (fun hp=>hpF b hp hf)
 have hE:sN w w' g g' st.O st.R st'.O st'.R:=⟨hS,hF,hO,hR,hd,hsS⟩
 refine ⟨⟨fun s cells hs=>?_,hobne,fun r x hr=>?_,hrowne,hrowob,fun b hf=>?_,hc.os.trans h.os,hc.tape.trans h.tape,hc.output.trans h.output,Nat.le_trans h.sizes hc.size,
  fun b h1 h2=>((h.frame b h1 h2).keep (hb b (Nat.lt_of_lt_of_le h1 h.sizes) (fun hp=>h2 (hpX b h1 hp)))).gh hd,fun b hb=>by (rw [hsS.1] at hb; rw [hsS.2]; exact ⟨hF b (h.shp b hb).1,(h.shp b hb).2.same (hS b (h.shp b hb).1)⟩),⟨⟨hd.1.trans h.dep0.1.1,hd.2.1.trans h.dep0.1.2.1,hd.2.2.trans h.dep0.1.2.2⟩,h.dep0.2⟩⟩,hE⟩
 ·rcases hob s cells hs with ⟨h1,h2,h3⟩ | ⟨arr,e,hh,hl,hv,hn,hx⟩
  ·obtain ⟨arr,e,hh,hl,hv,hn,hx⟩:=h.ob s cells h1
   have ho:g'.ob s=g.ob s:=(hO s (by simp [St.O,h1])).2
   rw [ho]
   exact ⟨arr,e,by rw [hb _ (OV hh) h2]; exact hh,hl,fun j x hj=>⟨(hv j x hj).1,(hv j x hj).2.imp fun v hv=>⟨hv.1,hv.2.mono hE⟩⟩,h3,hx⟩
  ·exact ⟨arr,e,hh,hl,fun j x hj=>⟨(hv j x hj).1,(hv j x hj).2.imp fun v hv=>⟨hv.1,hv.2.mono hE⟩⟩,hn,hx⟩
 ·rcases hrow r x hr with ⟨h1,h2⟩ | h1
  ·rw [(hR r (by simp [St.R,h1])).2]
   refine (h.row r x h1).mono hS hF fun ⟨e,sz,rows,hx⟩ b hb'=>?_
   subst hx
   have hL:st.L r:=⟨e,sz,rows,h1⟩
   exact ⟨hb b (h.row_lt hL hb') (h2 hL b hb').1,fun hf=>absurd hf (h2 hL b hb').2⟩
  ·exact h1
 ·by_cases hf':g.F b
  ·exact ⟨Nat.lt_of_lt_of_le (h.F b hf').1 hc.size,(h.F b hf').2.1,(h.F b hf').2.2.imp id fun ⟨arr,e,hh⟩=>⟨arr,e,by rw [hb b (h.F b hf').1 (fun hp=>hpF b hp hf')]; exact hh⟩⟩
  ·exact hF' b hf hf'
theorem fy.frm (h:fy E g st w) (hs:E.sh=false):∀ b,b < E.w0.heap.size→¬ E.X b→w.heap[b]?=E.w0.heap[b]?:=fun b h1 h2=>by
 rcases h.frame b h1 h2 with h3 | ⟨h3,_⟩
 ·exact h3
 ·rw [h.dep0.1.2.2,hs] at h3; cases h3
theorem fy.dF (h:fy E g st w) (hs:g.sh=true) {b:Nat} (hb:g.D b):¬ g.F b:=fun hf=>by
 obtain ⟨_,h2,h3,h4⟩:=h.dep b hb
 rcases (h.F b hf).2.1 h2 with h5 | h5
 ·exact (h4 hs).1 h5
 ·exact h3 h5
theorem fy.dN (h:fy E g st w) {b:Nat} (hb:g.D b):¬ (E.w0.heap.size≤b∨E.X b):=fun hf=>by
 obtain ⟨_,h2,h3,h4⟩:=h.dep b hb
 rcases hf with h5 | h5
 ·omega
 ·exact h3 h5
theorem fy.stepD (h:fy E g st w) (hs:g.sh=true) (hc:sO w w') (hb:∀ b,b < w.heap.size→¬ g.D b→w'.heap[b]?=w.heap[b]?) (hk:∀ b,g.D b→KS w w' b) :
  fy E g st w'∧sN w w' g g st.O st.R st.O st.R:=by
 have hS:Cp g.F w w':=fun b hf=>hb b (h.F b hf).1 (fun hd=>h.dF hs hd hf)
 have hE:sN w w' g g st.O st.R st.O st.R:=⟨hS,fun _ h=>h,fun _ h=>⟨h,rfl⟩,fun _ h=>⟨h,rfl⟩,⟨rfl,rfl,rfl⟩,rfl,rfl⟩
 refine ⟨⟨fun s cells hs'=>?_,h.obne,fun r x hr=>?_,h.rowne,h.rowob,fun b hf=>?_,hc.os.trans h.os,hc.tape.trans h.tape,hc.output.trans h.output,Nat.le_trans h.sizes hc.size,fun b h1 h2=>?_,fun b hb=>⟨(h.shp b hb).1,(h.shp b hb).2.same (hS b (h.shp b hb).1)⟩,h.dep0⟩,hE⟩
 ·obtain ⟨arr,e,hh,hl,hv,hn,hx⟩:=h.ob s cells hs'
  exact ⟨arr,e,by rw [hb _ (OV hh) (fun hd=>h.dN hd hx)]; exact hh,hl,fun j x hj=>⟨(hv j x hj).1,(hv j x hj).2.imp fun v hv=>⟨hv.1,hv.2.mono hE⟩⟩,hn,hx⟩
 ·refine (h.row r x hr).mono hS (fun _ h=>h) fun ⟨e,sz,rows,hx⟩ b hb'=>?_
  subst hx
  have hL:st.L r:=⟨e,sz,rows,hr⟩
  exact ⟨hb b (h.row_lt hL hb') (fun hd=>h.dN hd (h.row_nf hL hb').2),fun h=>h⟩
 ·exact ⟨Nat.lt_of_lt_of_le (h.F b hf).1 hc.size,(h.F b hf).2.1,(h.F b hf).2.2.imp id fun ⟨arr,e,hh⟩=>⟨arr,e,by rw [hS b hf]; exact hh⟩⟩
 ·by_cases hd:g.D b
  ·refine .inr ⟨hs,hd,?_⟩
   have h3:KS E.w0 w b:=by
    rcases h.frame b h1 h2 with h4 | ⟨_,_,h4⟩
    ·exact (KS.refl ((h.dep b hd).2.2.2 hs).2).same h4
    ·exact h4
   exact h3.trans (hk b hd)
  ·exact (h.frame b h1 h2).keep (hb b (Nat.lt_of_lt_of_le h1 h.sizes) hd)
theorem fy.grow (h:fy E g st w) (hc:sO w w') (hb:∀ b,b < w.heap.size→w'.heap[b]?=w.heap[b]?):fy E g st w'∧sN w w' g g st.O st.R st.O st.R :=
 h.step hc (fun _=>False) (fun b h1 _=>hb b h1) (fun _ h=>h.elim) (fun _ _ h=>h.elim) (fun _ h=>h) (fun _ h1 h2=>absurd h1 h2) (fun _ h=>⟨h,rfl⟩) (fun _ h=>⟨h,rfl⟩)
  (fun s cells hs=>.inl ⟨hs,id,(h.ob_nf (by simp [St.O,hs])).1⟩) h.obne (fun r x hr=>.inl ⟨hr,fun hL b hb'=>⟨id,(h.row_nf hL hb').1⟩⟩) h.rowne h.rowob
theorem O_upd {d:Nat} {c:List A} {s:Nat}:({ st with ob:=iw st.ob d (some c) }:St).O s↔s=d∨st.O s:=by
 unfold St.O iw
 by_cases h:s=d <;> simp [h]
theorem SP {d:Nat} {x:Vl} {r:Nat}:({ st with rw:=iw st.rw d (some x) }:St).R r↔r=d∨st.R r:=by
 unfold St.R iw
 by_cases h:r=d <;> simp [h]
theorem B5 {d:Nat} {x:Vl} {r:Nat}:({ st with rw:=iw st.rw d (some x) }:St).L r↔(r=d∧∃ e sz rows,x=.live e sz rows)∨(r≠d∧st.L r):=by
 unfold St.L iw
 by_cases h:r=d
 ·simp [h]
 ·simp [h]
theorem Hk (w:World) (o:Obj):sO w (w.alloc o):=⟨rfl,rfl,rfl,by simp⟩
theorem fy.new_ob (h:fy E g st w) (d:Nat) (hd:st.ob d=none) (cells:List A) (vs:Array Value) (e:TypeId) (hl:cells.length≤vs.size)
  (hv:∀ (j:Nat) (x:A),cells[j]?=some x→x.one=true∧∃ v,vs[j]?=some v∧VR w g st.O st.R x v) :
  fy E { g with ob:=iw g.ob d w.heap.size } { st with ob:=iw st.ob d (some cells) } (w.alloc (.cells vs e)) ∧
   sN w (w.alloc (.cells vs e)) g { g with ob:=iw g.ob d w.heap.size } st.O st.R ({ st with ob:=iw st.ob d (some cells) }:St).O ({ st with ob:=iw st.ob d (some cells) }:St).R:=by
 have hnd:¬ st.O d:=by simp [St.O,hd]
 have hne:∀ s,st.O s→s≠d:=fun s hs he=>hnd (he ▸ hs)
 have hsz:∀ b,g.F b→b≠w.heap.size:=fun b hf=>Nat.ne_of_lt (h.F b hf).1
 refine h.step (Hk w _) (fun _=>False) (fun b h1 _=>heap_alloc_old w _ b h1) (fun _ h=>h.elim) (fun _ _ h=>h.elim) (fun _ h=>h) (fun _ h1 h2=>absurd h1 h2)
  (fun s hs=>⟨O_upd.2 (.inr hs),ed _ _ _ _ (hne s hs)⟩) (fun _ h=>⟨h,rfl⟩) (fun s c hs=>?_) (fun s s' hs hs' he=>?_) (fun r x hr=>.inl ⟨hr,fun hL b hb'=>⟨id,(h.row_nf hL hb').1⟩⟩) h.rowne (fun r s hr hs=>?_)
 ·by_cases hsd:s=d
  ·subst hsd
   simp only [fZ,Option.some.injEq] at hs ⊢
   subst hs
   exact .inr ⟨vs,e,heap_alloc_new w _,hl,hv,fun hf=>hsz _ hf rfl,.inl h.sizes⟩
  ·simp only [ed _ _ _ _ hsd] at hs
   exact .inl ⟨hs,id,(h.ob_nf (by simp [St.O,hs])).1⟩
 ·rcases O_upd.1 hs with rfl | h1 <;> rcases O_upd.1 hs' with rfl | h2
  ·rfl
  ·have:=h.ob_lt h2
   simp only [fZ,ed _ _ _ _ (hne _ h2)] at he
   omega
  ·have:=h.ob_lt h1
   simp only [fZ,ed _ _ _ _ (hne _ h1)] at he
   omega
  ·simp only [ed _ _ _ _ (hne _ h1),ed _ _ _ _ (hne _ h2)] at he
   exact h.obne _ _ h1 h2 he
 ·rcases O_upd.1 hs with rfl | h1
  ·simp only [fZ]
   intro he
   exact absurd (h.row_lt hr he) (Nat.lt_irrefl _)
  ·simp only [ed _ _ _ _ (hne _ h1)]
   exact h.rowob r s hr h1
theorem fy.set_ob (h:fy E g st w) (hc:sO w w') (s:Nat) (cells cells':List A) (arr':Array Value) (e:TypeId) (hs:st.ob s=some cells)
  (hw:w'.heap[g.ob s]?=some (.cells arr' e (0,0))) (hb:∀ b,b < w.heap.size→b≠g.ob s→w'.heap[b]?=w.heap[b]?) (hl:cells'.length≤arr'.size)
  (hv:∀ (j:Nat) (x:A),cells'[j]?=some x→x.one=true∧∃ v,arr'[j]?=some v∧VR w g st.O st.R x v) :
  fy E g { st with ob:=iw st.ob s (some cells') } w'∧sN w w' g g st.O st.R ({ st with ob:=iw st.ob s (some cells') }:St).O ({ st with ob:=iw st.ob s (some cells') }:St).R:=by
 have hO:st.O s:=by simp [St.O,hs]
 have hO':∀ s',({ st with ob:=iw st.ob s (some cells') }:St).O s'→st.O s':=fun s' h1=>by
  rcases O_upd.1 h1 with rfl | h2
  ·exact hO
  ·exact h2
 refine h.step hc (fun b=>b=g.ob s) (fun b h1 h2=>hb b h1 h2) (fun b hp=>hp ▸ (h.ob_nf hO).1) (fun b h1 hp=>?_) (fun _ h=>h) (fun _ h1 h2=>absurd h1 h2)
  (fun s' hs'=>⟨O_upd.2 (.inr hs'),rfl⟩) (fun _ h=>⟨h,rfl⟩) (fun s' c hs'=>?_) (fun a b h1 h2 he=>h.obne a b (hO' a h1) (hO' b h2) he)
  (fun r x hr=>.inl ⟨hr,fun hL b hb'=>⟨fun he=>h.rowob r s hL hO (he ▸ hb'),(h.row_nf hL hb').1⟩⟩) h.rowne (fun r s' hr hs'=>h.rowob r s' hr (hO' s' hs'))
 ·rcases (h.ob_nf hO).2 with h2 | h2
  ·subst hp; omega
  ·exact hp ▸ h2
 ·by_cases hsd:s'=s
  ·subst hsd
   simp only [fZ,Option.some.injEq] at hs'
   subst hs'
   exact .inr ⟨arr',e,hw,hl,hv,(h.ob_nf hO).1,(h.ob_nf hO).2⟩
  ·simp only [ed _ _ _ _ hsd] at hs'
   have h1:st.O s':=by simp [St.O,hs']
   exact .inl ⟨hs',fun he=>hsd (h.obne s' s h1 hO he),(h.ob_nf h1).1⟩
theorem fy.new_row (h:fy E g st w) (hc:sO w w') (r:Nat) (hr:st.rw r=none) (hd:Value) (e sz:Nat) (rows:List (List T)) (p:Nat→Prop)
  (hb:∀ b,b < w.heap.size→¬ p b→w'.heap[b]?=w.heap[b]?) (hdp:∀ b,hd.ownBlock=some b→p b) (hpX:∀ b,b < E.w0.heap.size→p b→E.X b)
  (hfree:∀ b,p b→¬ g.F b∧(∀ s,st.O s→g.ob s≠b)∧(∀ r',st.L r'→(g.rw r').ownBlock≠some b))
  (hrow:sI E.w0 w' E.X g.F hd (.live e sz rows)) :
  fy E { g with rw:=iw g.rw r hd } { st with rw:=iw st.rw r (some (.live e sz rows)) } w' ∧
   sN w w' g { g with rw:=iw g.rw r hd } st.O st.R ({ st with rw:=iw st.rw r (some (.live e sz rows)) }:St).O ({ st with rw:=iw st.rw r (some (.live e sz rows)) }:St).R:=by
 have hnr:¬ st.R r:=by simp [St.R,hr]
 have hne:∀ s,st.R s→s≠r:=fun s hs he=>hnr (he ▸ hs)
 refine h.step hc p hb (fun b hp=>(hfree b hp).1) hpX (fun _ h=>h) (fun _ h1 h2=>absurd h1 h2)
  (fun _ h=>⟨h,rfl⟩) (fun s hs=>⟨SP.2 (.inr hs),ed _ _ _ _ (hne s hs)⟩) (fun s c hs=>.inl ⟨hs,fun hp=>(hfree _ hp).2.1 s (by simpa [St.O] using (by rw [hs]; rfl)) rfl,(h.ob_nf (by simpa [St.O] using (by rw [hs]; rfl))).1⟩) h.obne (fun s x hs=>?_) (fun a b k ha hb' h1 h2=>?_) (fun a s ha hs=>?_)
 ·by_cases hsd:s=r
  ·subst hsd
   simp only [fZ,Option.some.injEq] at hs ⊢
   subst hs
   exact .inr hrow
  ·simp only [ed _ _ _ _ hsd] at hs
   exact .inl ⟨hs,fun hL b hb'=>⟨fun hp=>(hfree b hp).2.2 s hL hb',(h.row_nf hL hb').1⟩⟩
 ·rcases B5.1 ha with ⟨rfl,_⟩ | ⟨h3,h4⟩ <;> rcases B5.1 hb' with ⟨rfl,_⟩ | ⟨h5,h6⟩
  ·rfl
  ·simp only [fZ,ed _ _ _ _ h5] at h1 h2
   exact absurd h2 ((hfree k (hdp k h1)).2.2 b h6)
  ·simp only [fZ,ed _ _ _ _ h3] at h1 h2
   exact absurd h1 ((hfree k (hdp k h2)).2.2 a h4)
  ·simp only [ed _ _ _ _ h3,ed _ _ _ _ h5] at h1 h2
   exact h.rowne a b k h4 h6 h1 h2
 ·rcases B5.1 ha with ⟨rfl,_⟩ | ⟨h3,h4⟩
  ·simp only [fZ]
   exact fun he=>(hfree _ (hdp _ he)).2.1 s hs rfl
  ·simp only [ed _ _ _ _ h3]
   exact h.rowob a s h4 hs
theorem fy.set_row (h:fy E g st w) (hc:sO w w') (r:Nat) (x0:Vl) (e sz:Nat) (rows:List (List T)) (hr:st.rw r=some x0) (hL:st.L r)
  (hb:∀ b,b < w.heap.size→(g.rw r).ownBlock≠some b→w'.heap[b]?=w.heap[b]?)
  (hrow:sI E.w0 w' E.X g.F (g.rw r) (.live e sz rows)) :
  fy E g { st with rw:=iw st.rw r (some (.live e sz rows)) } w' ∧
   sN w w' g g st.O st.R ({ st with rw:=iw st.rw r (some (.live e sz rows)) }:St).O ({ st with rw:=iw st.rw r (some (.live e sz rows)) }:St).R:=by
 have hL':∀ a,({ st with rw:=iw st.rw r (some (.live e sz rows)) }:St).L a→st.L a:=fun a ha=>by
  rcases B5.1 ha with ⟨rfl,_⟩ | ⟨_,h4⟩
  ·exact hL
  ·exact h4
 refine h.step hc (fun b=>(g.rw r).ownBlock=some b) (fun b h1 h2=>hb b h1 h2) (fun b hp=>(h.row_nf hL hp).1) (fun b h1 hp=>?_) (fun _ h=>h) (fun _ h1 h2=>absurd h1 h2)
  (fun _ h=>⟨h,rfl⟩) (fun s hs=>⟨SP.2 (.inr hs),rfl⟩) (fun s c hs=>.inl ⟨hs,fun hp=>h.rowob r s hL (by simpa [St.O] using (by rw [hs]; rfl)) hp,(h.ob_nf (by simpa [St.O] using (by rw [hs]; rfl))).1⟩) h.obne (fun s x hs=>?_)
  (fun a b k ha hb' h1 h2=>h.rowne a b k (hL' a ha) (hL' b hb') h1 h2) (fun a s ha hs=>h.rowob a s (hL' a ha) hs)
 ·rcases (h.row_nf hL hp).2 with h2 | h2
  ·omega
  ·exact h2
 ·by_cases hsd:s=r
  ·subst hsd
   simp only [fZ,Option.some.injEq] at hs
   subst hs
   exact .inr hrow
  ·simp only [ed _ _ _ _ hsd] at hs
   exact .inl ⟨hs,fun hL2 b hb'=>⟨fun hp=>hsd (h.rowne s r b hL2 hL hb' hp),(h.row_nf hL2 hb').1⟩⟩
theorem fy.gone_row (h:fy E g st w) (r:Nat) (x0:Vl) (hr:st.rw r=some x0) :
  fy E g { st with rw:=iw st.rw r (some .gone) } w∧sN w w g g st.O st.R ({ st with rw:=iw st.rw r (some .gone) }:St).O ({ st with rw:=iw st.rw r (some .gone) }:St).R:=by
 have hL':∀ a,({ st with rw:=iw st.rw r (some .gone) }:St).L a→st.L a:=fun a ha=>by
  rcases B5.1 ha with ⟨rfl,e,sz,rows,hx⟩ | ⟨_,h4⟩
  ·cases hx
  ·exact h4
 refine h.step (sO.refl w) (fun _=>False) (fun b h1 h2=>rfl) (fun _ h=>h.elim) (fun _ _ h=>h.elim) (fun _ h=>h) (fun _ h1 h2=>absurd h1 h2)
  (fun _ h=>⟨h,rfl⟩) (fun s hs=>⟨SP.2 (.inr hs),rfl⟩) (fun s c hs=>.inl ⟨hs,id,(h.ob_nf (by simpa [St.O] using (by rw [hs]; rfl))).1⟩) h.obne (fun s x hs=>?_)
  (fun a b k ha hb' h1 h2=>h.rowne a b k (hL' a ha) (hL' b hb') h1 h2) (fun a s ha hs=>h.rowob a s (hL' a ha) hs)
 by_cases hsd:s=r
 ·subst hsd
  simp only [fZ,Option.some.injEq] at hs
  subst hs
  exact .inr (h.row s x0 hr).slice
 ·simp only [ed _ _ _ _ hsd] at hs
  exact .inl ⟨hs,fun hL2 b hb'=>⟨id,(h.row_nf hL2 hb').1⟩⟩
theorem sI.rd {w0:World} {X F:Nat→Prop} {v:Value} {e sz:Nat} {rows:List (List T)} (h:sI w0 w X F v (.live e sz rows)) (F':Nat→Prop) (hF:∀ b,F b→F' b) (hF':∀ b,v.ownBlock=some b→F' b):Rd w F' (.sl sz rows) v:=by
 obtain ⟨inner,ho,h1,h2,h3⟩:=h
 rcases ho.2 with ⟨rfl,hn⟩ | ⟨b,cap,cur,rfl,_,hh,hc,hm,hsz,htake⟩
 ·have:rows=[]:=List.eq_nil_of_length_eq_zero hn
  subst this
  exact .sl0 _ _ _ (by first | assumption | exact fun _=>rfl | (intro h; cases h))
 ·refine .sl sz rows b 0 cap (fun i j=>inner.getD (i*sz+j) undef) hc (hF' b rfl) h1 (fun i row j x hi hj=>?_) (fun i row j x hi hj=>?_)
  ·obtain ⟨u,hu,_⟩:=h2 i row j x hi hj
   have:=ho.cells (g:=b) rfl (i*sz+j) u hu
   rw [List.getD_eq_getElem?_getD,hu,Nat.zero_add]
   have ha:(⟨b,0,none⟩:Addr).add (i*sz+j)=⟨b,i*sz+j,none⟩:=by unfold Addr.add; split <;> simp_all
   rw [ha] at this
   exact this
  ·obtain ⟨u,hu,hr⟩:=h2 i row j x hi hj
   rw [List.getD_eq_getElem?_getD,hu]
   exact hr.mono (fun _ _=>rfl) hF
theorem fy.frz_row (h:fy E g st w) (r e sz:Nat) (rows:List (List T)) (hr:st.rw r=some (.live e sz rows)) :
  fy E { g with F:=fun b=>g.F b∨(g.rw r).ownBlock=some b } { st with rw:=iw st.rw r (some (.frz sz rows)) } w ∧
   sN w w g { g with F:=fun b=>g.F b∨(g.rw r).ownBlock=some b } st.O st.R ({ st with rw:=iw st.rw r (some (.frz sz rows)) }:St).O ({ st with rw:=iw st.rw r (some (.frz sz rows)) }:St).R:=by
 have hL:st.L r:=⟨e,sz,rows,hr⟩
 have hL':∀ a,({ st with rw:=iw st.rw r (some (.frz sz rows)) }:St).L a→st.L a∧a≠r:=fun a ha=>by
  rcases B5.1 ha with ⟨rfl,e,sz,rows,hx⟩ | ⟨h3,h4⟩
  ·cases hx
  ·exact ⟨h4,h3⟩
 refine h.step (sO.refl w) (fun _=>False) (fun b h1 h2=>rfl) (fun _ h=>h.elim) (fun _ _ h=>h.elim) (fun _ h=>.inl h) (fun b h1 h2=>?_)
  (fun _ h=>⟨h,rfl⟩) (fun s hs=>⟨SP.2 (.inr hs),rfl⟩) (fun s c hs=>.inl ⟨hs,id,?_⟩) h.obne (fun s x hs=>?_)
  (fun a b k ha hb' h1 h2=>h.rowne a b k (hL' a ha).1 (hL' b hb').1 h1 h2) (fun a s ha hs=>h.rowob a s (hL' a ha).1 hs)
 ·have h3:=h1.resolve_left h2
  refine ⟨h.row_lt hL h3,fun hlt=>?_,.inr (h.row_wr hL h3)⟩
  rcases (h.row_nf hL h3).2 with h4 | h4
  ·omega
  ·exact .inr h4
 ·have hO:st.O s:=by simpa [St.O] using (by rw [hs]; rfl)
  exact fun hf=>hf.elim (h.ob_nf hO).1 (fun he=>h.rowob r s hL hO he)
 ·by_cases hsd:s=r
  ·subst hsd
   simp only [fZ,Option.some.injEq] at hs
   subst hs
   exact .inr ((h.row s _ hr).rd _ (fun _ h=>.inl h) (fun _ h=>.inr h))
  ·simp only [ed _ _ _ _ hsd] at hs
   exact .inl ⟨hs,fun hL2 b hb'=>⟨id,fun hf=>hf.elim (h.row_nf hL2 hb').1 (fun he=>hsd (h.rowne s r b hL2 hL hb' he))⟩⟩
end
end Go.Tm
namespace Go.Tm
open Go.RowKit
def EP (P:Program) (o:Oper) (a:Act) (w:World) (v:Value) (w':World):Prop :=
 (execOp a.eval o).run P w=.ok (.value v) w'∨((execOp a.eval o).run P w=.ok .skip w'∧v=undef)
structure Av (E:En) (g:Gh) (st:St) (w:World) (x:A) (st':St) (v:Value) (g':Gh) (w':World):Prop where
 mem:fy E g' st' w'
 vr:VR w' g' st'.O st'.R x v
 ext:sN w w' g g' st.O st.R st'.O st'.R
 tm:st'.tm=st.tm
section
variable {P:Program} {E:En} {g:Gh} {st st':St} {a:Act} {w:World}
theorem ij {α:Type} {x y:α} {s s':St} (h:MA.run (.ret x) s=some (y,s')):y=x∧s'=s:=by
 simp only [MA.run,Option.some.injEq,Prod.mk.injEq] at h
 exact ⟨h.1.symm,h.2.symm⟩
theorem aM {α:Type} {y:α} {s s':St} (h:MA.run .fail s=some (y,s')):False:=by simp [MA.run] at h
theorem Pf {x y:A} {v:Value} (hM:fy E g st w) (h:MA.run (.ret x) st=some (y,st')) (hv:VR w g st.O st.R x v):Av E g st w y st' v g w:=by
 obtain ⟨rfl,rfl⟩:=ij h
 exact ⟨hM,hv,sN.refl _ _ _ _,rfl⟩
theorem EV {v:Value} {x:A} (h:pE v=some x) (w:World) (g:Gh) (O R:Nat→Prop):VR w g O R x v∧x.one=true:=by
 unfold pE at h
 split at h
 ·cases h; exact ⟨.t _ _ (.int _ _),rfl⟩
 ·cases h; exact ⟨.t _ _ (.bool _),rfl⟩
 ·cases h; exact ⟨.t _ _ (.str _),rfl⟩
 ·cases h; exact ⟨.nil,rfl⟩
 ·cases h; exact ⟨.t _ _ .nilf,rfl⟩
 ·cases h
theorem IZ {α:Type} {l:List (Option α)} {r:List α} (h:dv l=some r):l=r.map some:=by
 induction l generalizing r with
 | nil=>simp [dv] at h; subst h; rfl
 | cons x l ih =>
  unfold dv at h
  split at h
  ·rename_i x' r' h2
   cases h
   rw [ih h2]
   rfl
  ·cases h
theorem u9 {α β:Type} {f:α→Option β} {l:List α} {r:List β} (h:dv (l.map f)=some r) :
  l.length=r.length∧∀ (i:Nat) (y:β),r[i]?=some y→∃ x,l[i]?=some x∧f x=some y:=by
 have h2:=IZ h
 have hl:l.length=r.length:=by have:=congrArg List.length h2; simpa using this
 refine ⟨hl,fun i y hy=>?_⟩
 have hi:i < r.length:=(List.getElem?_eq_some_iff.1 hy).1
 have h3:=congrArg (fun q:List (Option β)=>q[i]?) h2
 simp only [List.getElem?_map,hy,Option.map_some] at h3
 rw [List.getElem?_eq_getElem (by omega)] at h3
 exact ⟨_,List.getElem?_eq_getElem (by omega),by simpa using h3⟩
theorem Vn {v:Value} {x:A} (h:A.ofValue v=some x) (w:World) (g:Gh) (O R:Nat→Prop):VR w g O R x v:=by
 unfold A.ofValue at h
 split at h
 ·rename_i cs
  split at h
  ·rename_i l hl
   cases h
   obtain ⟨h1,h2⟩:=u9 hl
   have:=VR.agg (w:=w) (g:=g) (O:=O) (R:=R) l cs.toList h1.symm (fun i x v hx hv=>by
    obtain ⟨u,hu,hf⟩:=h2 i x hx
    rw [hu] at hv
    cases hv
    exact (EV hf w g O R).1)
   simpa using this
  ·cases h
 ·cases h; exact .undef _
 ·exact (EV h w g O R).1
theorem bW {n:Nat} (hS:vn E g n st a w) {x:Operand} {y:A} (h:st.eval x=some y):VR w g st.O st.R y (a.eval x):=by
 cases x with
 | tmp t =>
  simp only [St.eval,Option.some.injEq] at h
  subst h
  by_cases ht:t < n
  ·obtain ⟨v,hv,hr⟩:=hS.tm t ht
   have:a.eval (.tmp t)=v:=by simp [Act.eval,Array.getD_eq_getD_getElem?,hv]
   rw [this]
   exact hr
  ·have hn:n≤t:=Nat.le_of_not_lt ht
   rw [hS.und t hn]
   exact .undef _
 | const v=>exact Vn h _ _ _ _
 | global g=>simp [St.eval] at h
 | func f =>
  simp only [St.eval,Option.some.injEq] at h
  subst h
  exact .clo f [] [] rfl (by simp)
theorem VR.cells {x:A} {v:Value} (hM:fy E g st w) (h:VR w g st.O st.R x v) (h1:x.cells.all A.one=true):v.cells.size=x.cells.length ∧
  (∀ u∈v.cells.toList,u.oneCell'=true)∧∀ (j:Nat) (y:A),x.cells[j]?=some y→y.one=true∧∃ u,v.cells[j]?=some u∧VR w g st.O st.R y u:=by
 have key:∀ {x:A} {v:Value},VR w g st.O st.R x v→x.one=true→x.cells=[x]→v.cells.size=x.cells.length∧(∀ u∈v.cells.toList,u.oneCell'=true) ∧
   ∀ (j:Nat) (y:A),x.cells[j]?=some y→y.one=true∧∃ u,v.cells[j]?=some u∧VR w g st.O st.R y u:=by
  intro x v h hx hc
  obtain ⟨h2,h3⟩:=hM.one h hx
  rw [hc,h3]
  refine ⟨rfl,by simp [h2],fun j y hy=>?_⟩
  cases j with
  | zero=>simp at hy; subst hy; exact ⟨hx,v,rfl,h⟩
  | succ j=>simp at hy
 cases h with
 | agg l vs hl h =>
  refine ⟨by simp [Value.cells,A.cells,hl],fun u hu=>?_,fun j y hy=>?_⟩
  ·obtain ⟨j,hj,rfl⟩:=List.mem_iff_getElem.1 hu
   have hj':j < l.length:=by simp [Value.cells] at hj; omega
   have hy:l[j].one=true:=by
    simp only [A.cells,List.all_eq_true] at h1
    exact h1 _ (List.getElem_mem hj')
   exact (hM.one (h j l[j] _ (List.getElem?_eq_getElem hj') (by simp [Value.cells])) hy).1
  ·simp only [A.cells] at hy h1
   have hj:j < l.length:=(List.getElem?_eq_some_iff.1 hy).1
   refine ⟨?_,vs[j],by simp [Value.cells,List.getElem?_eq_getElem (show j < vs.length by omega)],h j y _ hy (List.getElem?_eq_getElem (by omega))⟩
   simp only [List.all_eq_true] at h1
   exact h1 _ (List.mem_of_getElem? hy)
 | tup=>simp [A.cells,A.one] at h1
 | undef=>simp [A.cells,A.one] at h1
 | raw=>simp [A.cells,A.one] at h1
 | t x v h=>exact key (.t x v h) rfl rfl
 | nil=>exact key .nil rfl rfl
 | own r hr=>exact key (.own r hr) rfl rfl
 | obj s off hs=>exact key (.obj s off hs) rfl rfl
 | elem r sz i off b n c hr he=>exact key (.elem r sz i off b n c hr he) rfl rfl
 | win r lo m n c c' ad a' hr he hm hp=>exact key (.win r lo m n c c' ad a' hr he hm hp) rfl rfl
 | sub r sz lo n c c' ad a' hr he hp=>exact key (.sub r sz lo n c c' ad a' hr he hp) rfl rfl
 | fadr cells b off u hF hx hr=>exact key (.fadr cells b off u hF hx hr) rfl rfl
 | nn sz rows v h hv=>exact key (.nn sz rows v h hv) rfl rfl
 | clo f caps vs hl h=>exact key (.clo f caps vs hl h) rfl rfl
 | ext s x v hs h=>exact key (.ext s x v hs h) rfl rfl
 | shp x v h=>exact key (.shp x v h) rfl rfl
 | exa s cells b off u hs hD hx hr=>exact key (.exa s cells b off u hs hD hx hr) rfl rfl
theorem Uo {d:Nat} {cells:List A} {x:A} (h:(Um d cells).run st=some (x,st')):st.ob d=none∧cells.all A.one=true∧x=.obj d 0∧st'={ st with ob:=iw st.ob d (some cells) }:=by
 unfold Um at h
 simp only [MA.run] at h
 cases ho:st.ob d with
 | some c=>simp [ho,MA.run] at h
 | none =>
  simp only [ho] at h
  split at h
  ·rename_i h1
   simp only [MA.run,Option.some.injEq,Prod.mk.injEq] at h
   exact ⟨rfl,h1,h.1.symm,h.2.symm⟩
  ·simp [MA.run] at h
theorem Up {d:Nat} {cells:List A} {x:A} (hM:fy E g st w) (e:TypeId) (vs:Array Value) (hl:cells.length≤vs.size)
  (hv:∀ (j:Nat) (y:A),cells[j]?=some y→y.one=true∧∃ u,vs[j]?=some u∧VR w g st.O st.R y u) (h:(Um d cells).run st=some (x,st')) :
  ∃ g',Av E g st w x st' (.pointer (some ⟨w.heap.size,0,none⟩)) g' (w.alloc (.cells vs e)):=by
 obtain ⟨hd,h1,rfl,rfl⟩:=Uo h
 obtain ⟨hM',hE⟩:=hM.new_ob d hd cells vs e hl hv
 refine ⟨_,hM',?_,hE,rfl⟩
 have:=VR.obj (w:=w.alloc (.cells vs e)) (g:={ g with ob:=iw g.ob d w.heap.size }) (O:=({ st with ob:=iw st.ob d (some cells) }:St).O) (R:=({ st with ob:=iw st.ob d (some cells) }:St).R) d 0 (O_upd.2 (.inl rfl))
 simpa only [fZ] using this
theorem SQ {e:TypeId} {z:List A} (h:wD P e=some z):∃ i zv,P.info? e=some i∧i.zero=some zv∧zv.cells.size=z.length ∧
  (∀ (w:World) (g:Gh) (O R:Nat→Prop) (j:Nat) (y:A),z[j]?=some y→y.one=true∧∃ u,zv.cells[j]?=some u∧VR w g O R y u):=by
 unfold wD Ek at h
 cases hi:P.info? e with
 | none=>simp [hi] at h
 | some i =>
  rw [hi] at h
  cases hz:i.zero with
  | none=>simp [hz] at h
  | some zv =>
   simp only [Option.map_some,hz] at h
   obtain ⟨h1,h2⟩:=u9 h
   refine ⟨i,zv,rfl,hz,by simpa using h1,fun w g O R j y hy=>?_⟩
   obtain ⟨u,hu,hf⟩:=h2 j y hy
   obtain ⟨hv,ho⟩:=EV hf w g O R
   exact ⟨ho,u,by simpa using hu,hv⟩
theorem lV {e:TypeId} {n:Nat} (h:jf P e=some n):∃ i,P.info? e=some i∧i.size=n:=by
 unfold jf Ek at h
 cases hi:P.info? e with
 | none=>simp [hi] at h
 | some i=>simp [hi] at h; exact ⟨i,rfl,h⟩
theorem SR {e:TypeId} {z:Option Value} {n by_:Nat} (h:Ek P e=some (z,n,by_)):∃ i,P.info? e=some i∧i.zero=z∧i.size=n∧i.bytes=by_:=by
 unfold Ek at h
 cases hi:P.info? e with
 | none=>simp [hi] at h
 | some i=>simp [hi] at h; exact ⟨i,rfl,h.1,h.2.1,h.2.2⟩
theorem W0 {o:Oper} {e:TypeId} {d:Nat} {z:List A} {x:A} {n:Nat} (hS:vn E g n st a w) (ho:o.op=.alloc e) (hz:wD P e=some z) (h:(Um d z).run st=some (x,st')) :
  ∃ v g' w',EP P o a w v w'∧Av E g st w x st' v g' w':=by
 obtain ⟨i,zv,hi,hzv,hsz,hv⟩:=SQ hz
 obtain ⟨g',hA⟩:=Up hS.mem e zv.cells (by omega) (hv w g _ _) h
 refine ⟨_,g',_,.inl ?_,hA⟩
 simp [execOp,ho,Instr.alloc,zeroValue,typeInfo,hi,hzv,newVar,newRow,newObj,Sem.run]
theorem YI {o:Oper} {e:TypeId} {d:Nat} {y:Operand} {x v:A} {n:Nat} (hS:vn E g n st a w) (ho:o.op=.box e y) (hv:VR w g st.O st.R v (a.eval y)) (h:(Um d v.cells).run st=some (x,st')) :
  ∃ v g' w',EP P o a w v w'∧Av E g st w x st' v g' w':=by
 obtain ⟨h1,h2,h3⟩:=hv.cells hS.mem (Uo h).2.1
 obtain ⟨g',hA⟩:=Up hS.mem e (a.eval y).cells (by omega) h3 h
 refine ⟨_,g',_,.inl ?_,hA⟩
 simp [execOp,ho,Instr.box,newVar,newRow,newObj,Sem.run]
end
end Go.Tm
namespace Go.Tm
open Go.RowKit
theorem add_lit (b o j:Nat):(⟨b,o,none⟩:Addr).add j=⟨b,o+j,none⟩:=by unfold Addr.add; split <;> simp_all
section
variable {P:Program} {E:En} {g:Gh} {st st':St} {a:Act} {w:World}
structure Hl (g:Gh) (st:St) (g1:Gh) (st1:St):Prop where
 L:∀ r,st1.L r→st.L r
 eob:st1.ob=st.ob
 ob:g1.ob=g.ob
 rw:g1.rw=g.rw
 F:∀ b,g1.F b→g.F b∨∃ r,st.L r∧¬ st1.L r∧(g.rw r).ownBlock=some b
 tm:st1.tm=st.tm
theorem Hl.refl (g:Gh) (st:St):Hl g st g st:=⟨fun _ h=>h,rfl,rfl,rfl,fun _ h=>.inl h,rfl⟩
theorem Hl.trans {g1 g2 g3:Gh} {s1 s2 s3:St} (h:Hl g1 s1 g2 s2) (k:Hl g2 s2 g3 s3):Hl g1 s1 g3 s3 :=
 ⟨fun r hr=>h.L r (k.L r hr),k.eob.trans h.eob,k.ob.trans h.ob,k.rw.trans h.rw,fun b hb=>by
  rcases k.F b hb with h1 | ⟨r,h1,h2,h3⟩
  ·rcases h.F b h1 with h4 | ⟨r,h4,h5,h6⟩
   ·exact .inl h4
   ·exact .inr ⟨r,h4,fun h7=>h5 (k.L r h7),h6⟩
  ·exact .inr ⟨r,h.L r h1,h2,by rw [← h.rw]; exact h3⟩,k.tm.trans h.tm⟩
theorem Tn {α:Type} {st':St} {x:A} {k:T→MA α} {y:α} {v:Value} (hM:fy E g st w) (hv:VR w g st.O st.R x v) (h:(x.toT k).run st=some (y,st')) :
  ∃ t st1 g1,fy E g1 st1 w∧sN w w g g1 st.O st.R st1.O st1.R∧Hl g st g1 st1∧(k t).run st1=some (y,st')∧Rd w g1.F t v∧v.oneCell'=true:=by
 cases hv with
 | t x v h1=>exact ⟨x,st,g,hM,sN.refl _ _ _ _,Hl.refl _ _,h,h1,h1.one.1⟩
 | nil=>exact ⟨_,st,g,hM,sN.refl _ _ _ _,Hl.refl _ _,h,.sl0 _ _ _ (by first | assumption | exact fun _=>rfl | (intro h; cases h)),rfl⟩
 | own r hr =>
  obtain ⟨A1,n1,c1,hh⟩:=hM.hdr r hr
  have h1c:(g.rw r).oneCell'=true:=by rw [hh]; rfl
  simp only [A.toT,MA.run] at h
  cases hx:st.rw r with
  | none=>simp [hx,MA.run] at h
  | some x =>
   cases x with
   | live e sz rows =>
    simp only [hx,MA.run] at h
    obtain ⟨hM1,hE1⟩:=hM.frz_row r e sz rows hx
    have hLr:st.L r:=⟨e,sz,rows,hx⟩
    refine ⟨_,_,_,hM1,hE1,⟨fun r' hr'=>?_,rfl,rfl,rfl,fun b hb=>hb.imp id (fun hb=>⟨r,hLr,fun hl=>?_,hb⟩),rfl⟩,h,?_,h1c⟩
    ·rcases B5.1 hr' with ⟨rfl,_,_,_,hx⟩ | ⟨_,h3⟩
     ·cases hx
     ·exact h3
    ·rcases B5.1 hl with ⟨_,_,_,_,hx⟩ | ⟨h3,_⟩
     ·cases hx
     ·exact h3 rfl
    ·have:=hM1.row r (.frz sz rows) (by simp [iw])
     exact this
   | frz sz rows =>
    simp only [hx,MA.run] at h
    exact ⟨_,st,g,hM,sN.refl _ _ _ _,Hl.refl _ _,h,hM.row r _ hx,h1c⟩
   | gone=>simp [hx,MA.run] at h
 | _=>simp [A.toT,MA.run] at h
theorem Uq {α:Type} {st':St} {l:List A}:∀ {st:St} {g:Gh} {k:List T→MA α} {y:α} {vs:List Value} (hM:fy E g st w) (hl:vs.length=l.length)
  (hv:∀ (j:Nat) (x:A),l[j]?=some x→∃ u,vs[j]?=some u∧VR w g st.O st.R x u) (h:(A.toTs l k).run st=some (y,st')),
  ∃ ts st1 g1,fy E g1 st1 w∧sN w w g g1 st.O st.R st1.O st1.R∧Hl g st g1 st1∧(k ts).run st1=some (y,st')∧ts.length=l.length ∧
   (∀ (j:Nat) (t:T),ts[j]?=some t→∃ u,vs[j]?=some u∧u.oneCell'=true∧Rd w g1.F t u):=by
 induction l with
 | nil =>
  intro st g k y vs hM hl hv h
  exact ⟨[],st,g,hM,sN.refl _ _ _ _,Hl.refl _ _,h,rfl,by simp⟩
 | cons x l ih =>
  intro st g k y vs hM hl hv h
  obtain ⟨v,vs,rfl⟩:∃ v vs',vs=v :: vs':=by
   cases vs with
   | nil=>simp at hl
   | cons v vs=>exact ⟨v,vs,rfl⟩
  obtain ⟨u,hu,hx⟩:=hv 0 x rfl
  simp at hu
  subst hu
  obtain ⟨t,st1,g1,hM1,hE1,ht1,h1,hr1,ho1⟩:=Tn hM hx h
  obtain ⟨ts,st2,g2,hM2,hE2,ht2,h2,hl2,hr2⟩:=ih hM1 (by simpa using hl) (fun j y hy=>by
   obtain ⟨u,hu,hx⟩:=hv (j+1) y (by simpa using hy)
   exact ⟨u,by simpa using hu,hx.mono hE1⟩) h1
  refine ⟨t :: ts,st2,g2,hM2,hE1.trans hE2,ht1.trans ht2,h2,by simp [hl2],fun j t' hj=>?_⟩
  cases j with
  | zero =>
   simp at hj
   subst hj
   exact ⟨v,rfl,ho1,hr1.mono hE2.same hE2.F⟩
  | succ j =>
   obtain ⟨u,hu,ho,hr⟩:=hr2 j t' (by simpa using hj)
   exact ⟨u,by simpa using hu,ho,hr⟩
structure ZB (w:World) (F:Nat→Prop) (sz:Nat) (rows:List (List T)) (ad:Option Addr):Prop where
 len:∀ (i:Nat) (row:List T),rows[i]?=some row→row.length=sz
 at_:rows=[]∨∃ b off,ad=some ⟨b,off,none⟩∧∀ (i:Nat) (row:List T) (j:Nat) (x:T),rows[i]?=some row→row[j]?=some x→∃ u,w.cell? ⟨b,off+i*sz+j,none⟩=some u∧Rd w F x u
theorem K5:∀ (lb:List Nat) (l:List A),(mK lb l).length=l.length
 | [],l=>by cases l <;> rfl
 | n :: ns,[]=>rfl
 | n :: ns,a :: r=>by cases a <;> simp [mK,K5 ns r]
theorem K6:∀ (lb:List Nat) (l:List A) (j:Nat) (x:A),(mK lb l)[j]?=some x→∃ y,l[j]?=some y∧(x=y∨(y=.nil∧∃ n,x=.t (.sl n [])))
 | [],l,j,x,h=>⟨x,by cases l <;> exact h,.inl rfl⟩
 | n :: ns,[],j,x,h=>by simp [mK] at h
 | n :: ns,a :: r,0,x,h=>by
  refine ⟨a,rfl,?_⟩
  cases a <;> simp [mK] at h <;> first | exact .inl h.symm | exact .inr ⟨rfl,n,h.symm⟩
 | n :: ns,a :: r,j+1,x,h=>by
  have:(mK ns r)[j]?=some x:=by cases a <;> simpa [mK] using h
  obtain ⟨y,h1,h2⟩:=K6 ns r j x this
  exact ⟨y,by simpa using h1,h2⟩
theorem W3 {lb:List Nat} {l:List A} (h:(mK lb l).all A.one=true):l.all A.one=true:=by
 rw [List.all_eq_true] at h ⊢
 induction l generalizing lb with
 | nil=>intro x hx; simp at hx
 | cons a r ih =>
  intro x hx
  have h0:a.one=true∧∃ ns,∀ x∈mK ns r,x.one=true:=by
   cases lb with
   | nil=>exact ⟨h a (by simp [mK]),[],fun x hx=>h x (by simp only [mK]; cases r <;> first | exact List.mem_cons_of_mem _ hx | (simp [mK] at hx))⟩
   | cons n ns =>
    cases a <;> simp only [mK] at h <;> first
     | exact ⟨rfl,ns,fun x hx=>h x (List.mem_cons_of_mem _ hx)⟩
     | exact ⟨h _ (List.mem_cons_self ..),ns,fun x hx=>h x (List.mem_cons_of_mem _ hx)⟩
  obtain ⟨h1,ns,h2⟩:=h0
  rcases List.mem_cons.1 hx with rfl | hx
  ·exact h1
  ·exact ih h2 x hx
theorem I0 {α:Type} {st':St} {lb:List Nat} {l:List A} {st:St} {g:Gh} {k:List T→MA α} {y:α} {vs:List Value} (hM:fy E g st w) (hl:vs.length=l.length)
  (hv:∀ (j:Nat) (x:A),l[j]?=some x→∃ u,vs[j]?=some u∧VR w g st.O st.R x u) (h:(A.toTs (mK lb l) k).run st=some (y,st')) :
  ∃ ts st1 g1,fy E g1 st1 w∧sN w w g g1 st.O st.R st1.O st1.R∧Hl g st g1 st1∧(k ts).run st1=some (y,st')∧ts.length=l.length ∧
   (∀ (j:Nat) (t:T),ts[j]?=some t→∃ u,vs[j]?=some u∧u.oneCell'=true∧Rd w g1.F t u):=by
 have:=Uq hM (l:=mK lb l) (vs:=vs) (by rw [K5]; exact hl) (fun j x hj=>by
  obtain ⟨y,h1,h2⟩:=K6 lb l j x hj
  obtain ⟨u,hu,hr⟩:=hv j y h1
  rcases h2 with rfl | ⟨rfl,n,rfl⟩
  ·exact ⟨u,hu,hr⟩
  ·cases hr
   exact ⟨_,hu,.t _ _ (.sl0 _ _ _ (by first | assumption | exact fun _=>rfl | (intro h; cases h)))⟩) h
 rwa [K5] at this
theorem Rd.rds {F:Nat→Prop} {sz:Nat} {rows:List (List T)} {v:Value} (h:Rd w F (.sl sz rows) v):∃ ad c,v=.slice ad rows.length c∧ZB w F sz rows ad:=by
 cases h with
 | sl0 sz a c ha=>exact ⟨a,c,rfl,by simp,.inl rfl⟩
 | sl sz rows b off c u hc hF hs hx hr=>exact ⟨_,c,rfl,hs,.inr ⟨b,off,rfl,fun i row j x h1 h2=>⟨_,hx i row j x h1 h2,hr i row j x h1 h2⟩⟩⟩
theorem sI.rds {w0:World} {X F:Nat→Prop} {v:Value} {e sz:Nat} {rows:List (List T)} (h:sI w0 w X F v (.live e sz rows)):∃ ad c,v=.slice ad rows.length c∧ZB w F sz rows ad:=by
 obtain ⟨inner,ho,h1,h2,h3⟩:=h
 rcases ho.2 with ⟨rfl,hn⟩ | ⟨b,cap,cur,rfl,_,hh,hc,hm,hsz,htake⟩
 ·exact ⟨none,0,by rw [hn],h1,.inl (List.eq_nil_of_length_eq_zero hn)⟩
 ·refine ⟨_,cap,rfl,h1,.inr ⟨b,0,rfl,fun i row j x hi hj=>?_⟩⟩
  obtain ⟨u,hu,hr⟩:=h2 i row j x hi hj
  have:=ho.cells (g:=b) rfl (i*sz+j) u hu
  rw [add_lit] at this
  exact ⟨u,by rw [Nat.zero_add] at *; exact this,hr⟩
theorem Rd.sc0 {F F':Nat→Prop} {x:T} {v:Value} (h:Rd w F x v) (hx:x.sc=true):Rd w F' x v:=by
 cases h with
 | int k n=>exact .int k n
 | bool b=>exact .bool b
 | str s=>exact .str s
 | nilf=>exact .nilf
 | sl0 | sl=>cases hx
theorem EW {α:Type} {x:A} {k:Nat→List (List T)→MA α} {y:α} {v:Value} (hM:fy E g st w) (hv:VR w g st.O st.R x v) (h:(x.rows k).run st=some (y,st')) :
  ∃ rows sz ad c,(k sz rows).run st=some (y,st')∧v=.slice ad rows.length c∧ZB w g.F sz rows ad:=by
 cases hv with
 | t x v h1 =>
  cases x with
  | sl sz rows =>
   obtain ⟨ad,c,hv,hr⟩:=h1.rds
   exact ⟨rows,sz,ad,c,h,hv,hr⟩
  | _=>simp [A.rows,MA.run] at h
 | nil=>exact ⟨[],0,none,0,h,rfl,by simp,.inl rfl⟩
 | ext s x v hs h1 =>
  cases s with
  | true=>simp [A.rows,MA.run] at h
  | false =>
   cases x with
   | sl sz rows =>
    simp only [A.rows] at h
    split at h
    rotate_left
    ·exact (aM h).elim
    rename_i hsc
    have hM0:=hM
    have h2:Rd w g.D (.sl sz rows) v:=h1.rd (fun b hb=>by
     obtain ⟨h3,h4,h5,_⟩:=hM0.dep b hb
     rw [h3]
     rcases hM0.frame b h4 h5 with h6 | ⟨h6,_⟩
     ·exact h6
     ·rw [hs] at h6; cases h6) (fun _ h=>h)
    obtain ⟨ad,c,hv,hr⟩:=h2.rds
    refine ⟨rows,sz,ad,c,h,hv,hr.len,hr.at_.imp id fun ⟨b,off,e,hx⟩=>⟨b,off,e,fun i row j x hi hj=>?_⟩⟩
    obtain ⟨u,hu,hrd⟩:=hx i row j x hi hj
    exact ⟨u,hu,hrd.sc0 (List.all_eq_true.1 (List.all_eq_true.1 hsc row (List.mem_of_getElem? hi)) x (List.mem_of_getElem? hj))⟩
   | _=>simp [A.rows,MA.run] at h
 | own r hr =>
  simp only [A.rows,MA.run] at h
  cases hx:st.rw r with
  | none=>simp [hx,MA.run] at h
  | some x =>
   cases x with
   | live e sz rows =>
    simp only [hx] at h
    obtain ⟨ad,c,hv,hr⟩:=(hM.row r _ hx).rds
    exact ⟨rows,sz,ad,c,h,hv,hr⟩
   | frz sz rows =>
    simp only [hx] at h
    obtain ⟨ad,c,hv,hr⟩:=Rd.rds (hM.row r _ hx)
    exact ⟨rows,sz,ad,c,h,hv,hr⟩
   | gone=>simp [hx,MA.run] at h
 | _=>simp [A.rows,MA.run] at h
theorem ZB.flat {F:Nat→Prop} {sz:Nat} {rows:List (List T)} {ad:Option Addr} (h:ZB w F sz rows ad) (hne:rows≠[]) :
  ∃ b off,ad=some ⟨b,off,none⟩∧∃ news:List Value,news.length=rows.length*sz∧(∀ (j:Nat) (u:Value),news[j]?=some u→w.cell? ((⟨b,off,none⟩:Addr).add j)=some u) ∧
   (∀ u∈news,u.oneCell'=true)∧∀ (i:Nat) (row:List T) (j:Nat) (x:T),rows[i]?=some row→row[j]?=some x→∃ u,news[i*sz+j]?=some u∧Rd w F x u:=by
 obtain ⟨b,off,rfl,hx⟩:=h.at_.resolve_left hne
 have key:∀ k,k < rows.length*sz→∃ u,w.cell? ⟨b,off+k,none⟩=some u∧u.oneCell'=true:=by
  intro k hk
  have hsz:0 < sz:=Nat.pos_of_ne_zero fun h0=>by rw [h0] at hk; omega
  have hi:k / sz < rows.length:=by rw [Nat.div_lt_iff_lt_mul hsz]; exact hk
  have hj:k % sz < (rows[k / sz]).length:=by rw [h.len _ _ (List.getElem?_eq_getElem hi)]; exact Nat.mod_lt _ hsz
  obtain ⟨u,hu,hr⟩:=hx (k / sz) _ (k % sz) _ (List.getElem?_eq_getElem hi) (List.getElem?_eq_getElem hj)
  refine ⟨u,?_,hr.one.1⟩
  have:=Nat.div_add_mod k sz
  rw [show off+k=off+k / sz*sz+k % sz by rw [Nat.mul_comm]; omega]
  exact hu
 refine ⟨b,off,rfl,(List.range (rows.length*sz)).map (fun k=>(w.cell? ⟨b,off+k,none⟩).getD undef),by simp,fun j u hu=>?_,fun u hu=>?_,fun i row j x hi hj=>?_⟩
 ·have hj:j < rows.length*sz:=by
   have:=(List.getElem?_eq_some_iff.1 hu).1
   simpa using this
  obtain ⟨u',hu',_⟩:=key j hj
  simp only [List.getElem?_map,List.getElem?_range hj,Option.map_some,hu',Option.getD_some,Option.some.injEq] at hu
  rw [add_lit,hu',hu]
 ·simp only [List.mem_map,List.mem_range] at hu
  obtain ⟨k,hk,rfl⟩:=hu
  obtain ⟨u',hu',ho⟩:=key k hk
  rw [hu']
  exact ho
 ·obtain ⟨u,hu,hr⟩:=hx i row j x hi hj
  have hlt:i*sz+j < rows.length*sz:=by
   have h1:i < rows.length:=(List.getElem?_eq_some_iff.1 hi).1
   have h2:j < sz:=by rw [← h.len i row hi]; exact (List.getElem?_eq_some_iff.1 hj).1
   have h3:(i+1)*sz≤rows.length*sz:=Nat.mul_le_mul_right _ h1
   rw [Nat.succ_mul] at h3
   omega
  refine ⟨u,?_,hr⟩
  simp only [List.getElem?_map,List.getElem?_range hlt,Option.map_some,← Nat.add_assoc,hu,Option.getD_some]
theorem YJ {gg:Bool} {n off:Nat} {l:List A} {x:A} {b o:Nat} (h:Hi gg n l off=some x)
  (hc:∀ (j:Nat) (y:A),l[j]?=some y→∃ u,w.cell? ⟨b,o+j,none⟩=some u∧VR w g st.O st.R y u) :
  (gg=true→∃ vs:List Value,vs.length=n∧(loadCells ⟨b,o+off,none⟩ n).run P w=.ok vs.toArray w∧VR w g st.O st.R x (.agg vs.toArray)) ∧
  (gg=false→∃ v,w.cell? ⟨b,o+off,none⟩=some v∧VR w g st.O st.R x v):=by
 unfold Hi at h
 split at h
 ·rename_i hle
  refine ⟨fun hg=>?_,fun hg=>?_⟩
  ·rw [if_pos hg] at h
   cases h
   have key:∀ k,k < n→∃ u y,w.cell? ⟨b,o+off+k,none⟩=some u∧l[off+k]?=some y∧VR w g st.O st.R y u:=by
    intro k hk
    have hi:off+k < l.length:=by omega
    obtain ⟨u,hu,hr⟩:=hc (off+k) _ (List.getElem?_eq_getElem hi)
    exact ⟨u,_,by rw [Nat.add_assoc]; exact hu,List.getElem?_eq_getElem hi,hr⟩
   refine ⟨(List.range n).map (fun k=>(w.cell? ⟨b,o+off+k,none⟩).getD undef),by simp,?_,?_⟩
   ·refine run_loadCells w _ n _ (fun j hj=>?_)
    obtain ⟨u,y,hu,_⟩:=key j hj
    rw [add_lit,hu]
    rfl
   ·refine .agg _ _ (by simp; omega) (fun i y v hy hv=>?_)
    have hi:i < n:=by
     have:=(List.getElem?_eq_some_iff.1 hv).1
     simpa using this
    obtain ⟨u,y',hu,hy',hr⟩:=key i hi
    simp only [List.getElem?_map,List.getElem?_range hi,Option.map_some,hu,Option.getD_some,Option.some.injEq] at hv
    rw [List.getElem?_take,if_pos hi,List.getElem?_drop,hy',Option.some.injEq] at hy
    rw [← hy,← hv]
    exact hr
  ·subst hg
   simp only [Bool.false_eq_true,if_false] at h
   split at h
   ·obtain ⟨u,hu,hr⟩:=hc off x h
    exact ⟨u,hu,hr⟩
   ·cases h
 ·cases h
theorem I1 {t:TypeId} {gg:Bool} (h:Ul P t=some gg) (w:World):(isAgg t).run P w=.ok gg w:=by
 unfold Ul at h
 cases hu:P.underlying t with
 | none=>simp [hu] at h
 | some d =>
  rw [hu] at h
  cases d <;> simp at h <;> subst h <;> simp [isAgg,run_underlying hu]
theorem EX {t:TypeId} {gg:Bool} {n b o off:Nat} {l:List A} {x:A} (hg:Ul P t=some gg) (hn:jf P t=some n) (h:Hi gg n l off=some x)
  (hc:∀ (j:Nat) (y:A),l[j]?=some y→∃ u,w.cell? ⟨b,o+j,none⟩=some u∧VR w g st.O st.R y u) :
  ∃ v,(loadVar t ⟨b,o+off,none⟩).run P w=.ok v w∧VR w g st.O st.R x v:=by
 obtain ⟨i,hi,hsz⟩:=lV hn
 obtain ⟨h1,h2⟩:=YJ (P:=P) h hc
 cases gg with
 | true =>
  obtain ⟨vs,hl,hr,hv⟩:=h1 rfl
  refine ⟨_,?_,hv⟩
  simp [loadVar,I1 hg,sizeOf,typeInfo,hi,hsz,hr]
 | false =>
  obtain ⟨v,hv,hr⟩:=h2 rfl
  refine ⟨v,?_,hr⟩
  simp [loadVar,I1 hg,run_load,hv]
theorem fy.now (hM:fy E g st w) (h:g.sh=false):Cp g.D g.dw w:=fun b hb=>by
 obtain ⟨h1,h2,h3,_⟩:=hM.dep b hb
 rw [h1]
 rcases hM.frame b h2 h3 with h4 | ⟨h4,_⟩
 ·exact h4
 ·rw [h] at h4; cases h4
theorem fy.nowK (hM:fy E g st w) (h:g.sh=true) {b:Nat} (hb:g.D b):KS g.dw w b:=by
 obtain ⟨h1,h2,h3,h5⟩:=hM.dep b hb
 rw [h1]
 rcases hM.frame b h2 h3 with h4 | ⟨_,_,h4⟩
 ·exact (KS.refl (h5 h).2).same h4
 ·exact h4
theorem XO {s:Bool} {x:T} {b o:Nat} {u:Value} (hM:fy E g st w) (hs:g.sh=s) (hD:g.D b) (hx:g.dw.cell? ⟨b,o,none⟩=some u) (hr:Sd s g.dw g.D x u) :
  ∃ u',w.cell? ⟨b,o,none⟩=some u'∧VR w g st.O st.R (Zy s x) u':=by
 cases s with
 | false =>
  have hsm:=hM.now hs
  refine ⟨u,by rw [De hsm hD]; exact hx,?_⟩
  cases x with
  | sl sz rows=>exact .ext false _ _ hs hr
  | int k n=>cases hr with | int k n n' h=>rw [h rfl]; exact .t _ _ (.int k n)
  | bool b=>cases hr with | bool b b' h=>rw [h rfl]; exact .t _ _ (.bool b)
  | str b=>cases hr; exact .t _ _ (.str b)
  | nilf=>cases hr; exact .t _ _ .nilf
 | true =>
  obtain ⟨u',h1,h2⟩:=(hM.nowK hs hD).cell hx
  refine ⟨u',h1,?_⟩
  cases x <;> exact .ext true _ _ hs (hr.kq h2)
theorem XP {o:Oper} {t:TypeId} {y:Operand} {x v:A} {n:Nat} (hS:vn E g n st a w) (ho:o.op=.load t y) (hv:VR w g st.O st.R v (a.eval y)) (h:(K4 P t v).run st=some (x,st')) :
  ∃ u g' w',EP P o a w u w'∧Av E g st w x st' u g' w':=by
 have hM:=hS.mem
 unfold K4 at h
 split at h
 rotate_left
 ·exact (aM h).elim
 rename_i gg nn hg hn
 have fin:∀ (l:List A) (b o' off:Nat) (_:a.eval y=.pointer (some ⟨b,o'+off,none⟩)) (_:∀ (j:Nat) (y:A),l[j]?=some y→∃ u,w.cell? ⟨b,o'+j,none⟩=some u∧VR w g st.O st.R y u)
   (_:(match Hi gg nn l off with | some v=>MA.ret v | none=>MA.fail).run st=some (x,st')),∃ u g' w',EP P o a w u w'∧Av E g st w x st' u g' w':=by
  intro l b o' off he hc h
  split at h
  ·rename_i z hz
   obtain ⟨u,hu,hr⟩:=EX (P:=P) hg hn hz hc
   refine ⟨u,g,w,.inl ?_,Pf hM h hr⟩
   simp [execOp,ho,Instr.loadAt,Instr.sureAddr,he,hu]
  ·exact (aM h).elim
 generalize hu:a.eval y=uu at hv fin
 cases hv with
 | obj s off hs =>
  simp only [MA.run] at h
  cases hc:st.ob s with
  | none=>simp [hc,MA.run] at h
  | some cells =>
   simp only [hc] at h
   obtain ⟨arr,e,hh,hl,hv,_⟩:=hM.ob s cells hc
   exact fin cells (g.ob s) 0 off (by rw [Nat.zero_add]) (fun j y hy=>by
    obtain ⟨_,u,hu,hr⟩:=hv j y hy
    exact ⟨u,by rw [Nat.zero_add]; simp [World.cell?,hh,hu],hr⟩) h
 | elem r sz i off b n' c hr he =>
  simp only [MA.run] at h
  have key:∀ (sz':Nat) (rows:List (List T)) (_:ZB w g.F sz' rows (some ⟨b,0,none⟩)) (_:(if sz=sz' then match rows[i]? with
    | some row=>match Hi gg nn (row.map A.t) off with | some v=>MA.ret v | none=>MA.fail
    | none=>MA.fail
    else MA.fail).run st=some (x,st')),∃ u g' w',EP P o a w u w'∧Av E g st w x st' u g' w':=by
   intro sz' rows hR h
   split at h
   rotate_left
   ·exact (aM h).elim
   rename_i hsz
   subst hsz
   split at h
   rotate_left
   ·exact (aM h).elim
   rename_i row hrow
   refine fin (row.map A.t) b (i*sz) off rfl (fun j y hy=>?_) h
   rw [List.getElem?_map,Option.map_eq_some_iff] at hy
   obtain ⟨z,hz,rfl⟩:=hy
   rcases hR.at_ with hR | ⟨b',off',he',hR⟩
   ·rw [hR] at hrow; cases hrow
   ·injection he' with he'
    injection he' with hb ho' _
    subst hb ho'
    obtain ⟨u,hu,hr⟩:=hR i row j z hrow hz
    exact ⟨u,by rw [Nat.zero_add] at hu; exact hu,.t _ _ hr⟩
  cases hx:st.rw r with
  | none=>simp [hx,MA.run] at h
  | some xx =>
   cases xx with
   | live e sz' rows =>
    simp only [hx] at h
    obtain ⟨ad,c',hv,hR⟩:=(hM.row r _ hx).rds
    rw [he] at hv
    injection hv with h1 _ _
    exact key sz' rows (h1 ▸ hR) h
   | frz sz' rows =>
    simp only [hx] at h
    obtain ⟨ad,c',hv,hR⟩:=Rd.rds (hM.row r _ hx)
    rw [he] at hv
    injection hv with h1 _ _
    exact key sz' rows (h1 ▸ hR) h
   | gone=>simp [hx,MA.run] at h
 | fadr cells b off u hF hx hr =>
  refine fin (cells.map A.t) b off 0 rfl (fun j y hy=>?_) h
  rw [List.getElem?_map,Option.map_eq_some_iff] at hy
  obtain ⟨z,hz,rfl⟩:=hy
  exact ⟨_,hx j z hz,.t _ _ (hr j z hz)⟩
 | exa s cells b off u hs hD hx hr =>
  refine fin (cells.map (Zy s)) b off 0 rfl (fun j y hy=>?_) h
  rw [List.getElem?_map,Option.map_eq_some_iff] at hy
  obtain ⟨z,hz,rfl⟩:=hy
  exact XO hM hs hD (hx j z hz) (hr j z hz)
 | _=>exact (aM h).elim
theorem B6 {α:Type} {l cs:List α} {off:Nat} (h:off+cs.length≤l.length):(spl l off cs).length=l.length ∧
  ∀ (j:Nat) (y:α),(spl l off cs)[j]?=some y→(off≤j∧cs[j - off]?=some y)∨(l[j]?=some y∧(j < off∨off+cs.length≤j)):=by
 unfold spl
 refine ⟨by simp; omega,fun j y hy=>?_⟩
 rw [List.append_assoc,List.getElem?_append] at hy
 split at hy
 ·rename_i hj
  simp at hj
  rw [List.getElem?_take,if_pos (by omega)] at hy
  exact .inr ⟨hy,.inl (by omega)⟩
 ·rename_i hj
  have ht:(l.take off).length=off:=by simp; omega
  rw [ht] at hj hy
  rw [List.getElem?_append] at hy
  split at hy
  ·exact .inl ⟨by omega,hy⟩
  ·rename_i hj2
   rw [List.getElem?_drop] at hy
   refine .inr ⟨?_,.inr (by omega)⟩
   rw [← hy]
   congr 1
   omega
theorem W4 {o:Oper} {t:TypeId} {y z:Operand} {x v u:A} {n:Nat} (hS:vn E g n st a w) (ho:o.op=.store t y z) (hv:VR w g st.O st.R v (a.eval y)) (hu:VR w g st.O st.R u (a.eval z))
  (h:(DL P t v u).run st=some (x,st')):∃ v' g' w',EP P o a w v' w'∧Av E g st w x st' v' g' w':=by
 have hM:=hS.mem
 unfold DL at h
 split at h
 rotate_left
 ·exact (aM h).elim
 rename_i nn hn
 obtain ⟨i,hi,hsz⟩:=lV hn
 split at h
 rotate_left
 ·exact (aM h).elim
 rename_i hl
 obtain ⟨hl,h1⟩:=hl
 obtain ⟨hc1,hc2,hc3⟩:=hu.cells hM h1
 have run:∀ (b off:Nat) (arr:Array Value) (e:TypeId),a.eval y=.pointer (some ⟨b,off,none⟩)→w.heap[b]?=some (.cells arr e (0,0))→off+nn≤arr.size →
   EP P o a w undef (w.setRow b (arr.toList.take off++(a.eval z).cells.toList++arr.toList.drop (off+nn)).toArray):=by
  intro b off arr e he hh hle
  refine .inr ⟨?_,rfl⟩
  have hst:=run_storeCells_at P b off e (a.eval z).cells.toList 0 arr w hh (by simp [hc1,hl]; omega) hc2
  simp only [Nat.add_zero,Array.length_toList,hc1,hl] at hst
  simp [execOp,ho,Instr.storeAt,Instr.sureAddr,he,storeVar,sizeOf,typeInfo,hi,hsz,hc1,hl,hst]
 generalize hyy:a.eval y=uu at hv run
 cases hv with
 | obj s off hs =>
  simp only [MA.run] at h
  cases hc:st.ob s with
  | none=>simp [hc,MA.run] at h
  | some cells =>
   simp only [hc] at h
   split at h
   rotate_left
   ·exact (aM h).elim
   rename_i hle
   simp only [MA.run,Option.some.injEq,Prod.mk.injEq] at h
   obtain ⟨rfl,rfl⟩:=h
   obtain ⟨arr,e,hh,hal,hav,_⟩:=hM.ob s cells hc
   have hle':off+u.cells.length≤cells.length:=by omega
   have hsp:=B6 (cs:=u.cells) hle'
   have hsv:=B6 (l:=arr.toList) (cs:=(a.eval z).cells.toList) (off:=off) (by simp; omega)
   have hrow:w.setRow (g.ob s) (arr.toList.take off++(a.eval z).cells.toList++arr.toList.drop (off+nn)).toArray=w.setRow (g.ob s) (spl arr.toList off (a.eval z).cells.toList).toArray:=by
    unfold spl; rw [Array.length_toList,hc1,hl]
   have hD:=run (g.ob s) off arr e rfl hh (by omega)
   rw [hrow] at hD
   have hcell:∀ (j:Nat) (y:A),(spl cells off u.cells)[j]?=some y→y.one=true∧∃ v,(spl arr.toList off (a.eval z).cells.toList).toArray[j]?=some v∧VR w g st.O st.R y v:=by
    intro j y hy
    simp only [List.getElem?_toArray]
    rcases hsp.2 j y hy with ⟨hj,hy⟩ | ⟨hy,hj⟩
    ·obtain ⟨ho1,q,hq,hr⟩:=hc3 _ y hy
     refine ⟨ho1,q,?_,hr⟩
     have hjl:j - off < (a.eval z).cells.toList.length:=by
      have:=(Array.getElem?_eq_some_iff.1 hq).1; simpa using this
     unfold spl
     have hto:(arr.toList.take off).length=off:=by simp; omega
     rw [List.append_assoc,List.getElem?_append_right (by omega),hto,List.getElem?_append_left hjl]
     simpa using hq
    ·obtain ⟨ho1,q,hq,hr⟩:=hav j y hy
     refine ⟨ho1,q,?_,hr⟩
     have hjl:j < arr.size:=(Array.getElem?_eq_some_iff.1 hq).1
     unfold spl
     rcases hj with hj | hj
     ·rw [List.append_assoc,List.getElem?_append_left (by simp; omega),List.getElem?_take,if_pos hj]
      simpa using hq
     ·have:(arr.toList.take off++(a.eval z).cells.toList).length=off+nn:=by simp; omega
      rw [List.getElem?_append_right (by omega),this,List.getElem?_drop,Array.length_toList,hc1,hl]
      rw [show off+nn+(j - (off+nn))=j by omega]
      simpa using hq
   obtain ⟨hM',hE⟩:=hM.set_ob (w':=w.setRow (g.ob s) (spl arr.toList off (a.eval z).cells.toList).toArray) ⟨rfl,rfl,rfl,by simp [World.setRow]⟩ s cells (spl cells off u.cells) (spl arr.toList off (a.eval z).cells.toList).toArray e hc
    (setRow_heap w _ arr _ e _ hh) (fun b _ hb=>setRow_other w _ b _ hb) (by simp only [List.size_toArray]; rw [hsv.1,hsp.1]; simp; omega) hcell
   exact ⟨_,_,_,hD,hM',.undef _,hE,rfl⟩
 | elem r sz ix off b n' c hr he =>
  obtain ⟨ts,st1,g1,hM1,hE1,ht1,h,htl,hts⟩:=I0 hM (vs:=(a.eval z).cells.toList) (by rw [Array.length_toList]; exact hc1) (fun j x hj=>by
   obtain ⟨_,q,hq,hr⟩:=hc3 j x hj
   exact ⟨q,by simpa using hq,hr⟩) h
  simp only [MA.run] at h
  cases hx:st1.rw r with
  | none=>simp [hx,MA.run] at h
  | some xx =>
   cases xx with
   | gone=>simp [hx,MA.run] at h
   | frz sz' rows=>simp [hx,MA.run] at h
   | live e sz' rows =>
    simp only [hx] at h
    split at h
    rotate_left
    ·exact (aM h).elim
    rename_i hsz'
    subst hsz'
    split at h
    rotate_left
    ·exact (aM h).elim
    rename_i row hrow
    split at h
    rotate_left
    ·exact (aM h).elim
    rename_i hle
    simp only [MA.run,Option.some.injEq,Prod.mk.injEq] at h
    obtain ⟨rfl,rfl⟩:=h
    obtain ⟨inner,hown,hlen,hel,hfree⟩:=hM1.row r _ hx
    have hgr:g1.rw r=.slice (some ⟨b,0,none⟩) n' c:=by rw [(hE1.R r hr).2]; exact he
    have hrl:row.length=sz:=hlen ix row hrow
    have hixl:ix < rows.length:=(List.getElem?_eq_some_iff.1 hrow).1
    have hseg:(ix+1)*sz≤rows.length*sz:=Nat.mul_le_mul_right _ hixl
    rw [Nat.succ_mul] at hseg
    rcases hown.2 with ⟨hv,_⟩ | ⟨b',cap,cur,hv,_,hh,hnc,hcm,hcs,htake⟩
    ·rw [hgr] at hv; cases hv
    ·rw [hgr] at hv
     injection hv with hb1 hn1 hc1'
     injection hb1 with hb1
     injection hb1 with hb1 _ _
     subst hb1 hn1 hc1'
     have hmul:rows.length*sz≤c*sz:=Nat.mul_le_mul_right _ hnc
     have htl2:ts.length=nn:=by omega
     have hD:=run b (ix*sz+off) cur e rfl hh (by omega)
     have hvl:(a.eval z).cells.toList.length=nn:=by simp; omega
     have hD':EP P o a w undef (w.setRow b (spl cur.toList (ix*sz+off) (a.eval z).cells.toList).toArray):=by
      unfold spl; rw [hvl]; exact hD
     have hsp:=B6 (l:=inner) (cs:=(a.eval z).cells.toList) (off:=ix*sz+off) (by rw [hown.1]; omega)
     have hst:=B6 (l:=row) (cs:=ts) (off:=off) (by omega)
     have htk:(spl cur.toList (ix*sz+off) (a.eval z).cells.toList).take (rows.length*sz)=spl inner (ix*sz+off) (a.eval z).cells.toList:=by
      rw [← htake]
      apply List.ext_getElem?
      intro k
      unfold spl
      simp only [List.append_assoc,List.getElem?_take,List.getElem?_append,List.length_take,List.getElem?_drop,Array.length_toList,hvl]
      repeat' split
      all_goals first | rfl | omega | (congr 1; omega) | skip
     have hRow:sI E.w0 (w.setRow b (spl cur.toList (ix*sz+off) (a.eval z).cells.toList).toArray) E.X g1.F (g1.rw r) (.live e sz (rows.set ix (spl row off ts))):=by
      refine ⟨spl inner (ix*sz+off) (a.eval z).cells.toList,⟨by rw [hsp.1,hown.1,List.length_set],.inr ⟨b,c,_,by rw [hgr,List.length_set],Nat.zero_le _,setRow_heap w _ cur _ e _ hh,by rw [List.length_set]; exact hnc,hcm,?_,by rw [List.length_set]; exact htk⟩⟩,fun i row' hi=>?_,fun i row' j x hi hj=>?_,hfree⟩
      ·have:=B6 (l:=cur.toList) (cs:=(a.eval z).cells.toList) (off:=ix*sz+off) (by rw [hvl]; simp; omega)
       simp only [List.size_toArray]; rw [this.1]; simpa using hcs
      ·rw [List.getElem?_set] at hi
       split at hi
       ·rename_i h0; cases hi; rw [hst.1]; exact hrl
       ·exact hlen i row' hi
      ·have hS1:Cp g1.F w (w.setRow b (spl cur.toList (ix*sz+off) (a.eval z).cells.toList).toArray):=fun k hk=>setRow_other w b k _ (fun e=>(hfree b (by rw [hgr]; rfl)).1 (e ▸ hk))
       have hjs:j < sz:=by
        have h3:=(List.getElem?_eq_some_iff.1 hj).1
        rw [List.getElem?_set] at hi
        split at hi
        ·rename_i h0; cases hi; rw [hst.1] at h3; omega
        ·rw [hlen i row' hi] at h3; exact h3
       have hio:∀ k,k < rows.length→(k=ix∨(k+1)*sz≤ix*sz∨(ix+1)*sz≤k*sz):=fun k _=>by
        rcases Nat.lt_trichotomy k ix with h5 | h5 | h5
        ·exact .inr (.inl (Nat.mul_le_mul_right _ h5))
        ·exact .inl h5
        ·exact .inr (.inr (Nat.mul_le_mul_right _ h5))
       rw [List.getElem?_set] at hi
       split at hi
       ·rename_i hie
        cases hi
        subst hie
        rcases hst.2 j x hj with ⟨h6,h7⟩ | ⟨h6,h7⟩
        ·obtain ⟨q,hq,_,hr⟩:=hts _ x h7
         refine ⟨q,?_,hr.mono hS1 (fun _ h=>h)⟩
         have h8:j - off < (a.eval z).cells.toList.length:=(List.getElem?_eq_some_iff.1 hq).1
         unfold spl
         rw [List.append_assoc,List.getElem?_append_right (by simp; omega),List.getElem?_append_left (by simp [hown.1]; omega)]
         rw [← hq]
         congr 1
         simp [hown.1]; omega
        ·obtain ⟨q,hq,hr⟩:=hel _ row j x hrow h6
         refine ⟨q,?_,hr.mono hS1 (fun _ h=>h)⟩
         unfold spl
         rcases h7 with h7 | h7
         ·rw [List.append_assoc,List.getElem?_append_left (by simp [hown.1]; omega),List.getElem?_take,if_pos (by omega)]
          exact hq
         ·rw [List.getElem?_append_right (by simp [hown.1]; omega),List.getElem?_drop,← hq]
          congr 1
          simp [hown.1]; omega
       ·rename_i hie
        obtain ⟨q,hq,hr⟩:=hel i row' j x hi hj
        refine ⟨q,?_,hr.mono hS1 (fun _ h=>h)⟩
        have hil:i < rows.length:=(List.getElem?_eq_some_iff.1 hi).1
        have h9:=hio i hil
        rw [Nat.succ_mul,Nat.succ_mul] at h9
        unfold spl
        rcases h9 with h9 | h9 | h9
        ·exact absurd h9.symm hie
        ·rw [List.append_assoc,List.getElem?_append_left (by simp [hown.1]; omega),List.getElem?_take,if_pos (by omega)]
         exact hq
        ·rw [List.getElem?_append_right (by simp [hown.1]; omega),List.getElem?_drop,← hq]
         congr 1
         simp [hown.1]; omega
     obtain ⟨hM',hE'⟩:=hM1.set_row (w':=w.setRow b (spl cur.toList (ix*sz+off) (a.eval z).cells.toList).toArray) ⟨rfl,rfl,rfl,by simp [World.setRow]⟩ r _ e sz (rows.set ix (spl row off ts)) hx ⟨e,sz,rows,hx⟩
      (fun k _ hk=>setRow_other w b k _ (fun e=>hk (by rw [hgr]; simp [Value.ownBlock,e]))) hRow
     exact ⟨_,_,_,hD',hM',.undef _,hE1.trans hE',ht1.tm⟩
 | exa s cells b off q hs hD hx hr =>
  cases s with
  | false=>exact (aM h).elim
  | true =>
   simp only at h
   split at h
   rotate_left
   ·exact (aM h).elim
   rename_i hwk
   obtain ⟨rfl,rfl⟩:=ij h
   unfold Z1 at hwk
   split at hwk
   rotate_left
   ·cases hwk
   rename_i cs0 zc cs t0 hut
   obtain ⟨arr0,arr,e,hd0,hh,hsz2,hkq⟩:=hM.nowK hs hD
   have hx0:=hx 0 zc rfl
   have hr0:=hr 0 zc rfl
   rw [Nat.add_zero] at hx0
   simp only [World.cell?,hd0,Option.isSome_none,Bool.false_eq_true,if_false] at hx0
   obtain ⟨v0,hv0,hk0⟩:=hkq off _ hx0
   have hr1:=hr0.kq hk0
   obtain ⟨_,uz,huz,hrz⟩:=hc3 0 (.t t0) (by rw [hut]; rfl)
   have hnn:nn=1:=by rw [← hl,hut]; rfl
   have hoff:off < arr.size:=(Array.getElem?_eq_some_iff.1 hv0).1
   have hD':=run b off arr e rfl hh (by omega)
   have hvl:(a.eval z).cells.toList=[uz]:=by
    have h1:(a.eval z).cells.toList.length=1:=by simp; omega
    match hq:(a.eval z).cells.toList,h1 with
    | [y],_ =>
     have:(a.eval z).cells.toList[0]?=some uz:=by simpa using huz
     rw [hq] at this
     simpa using this
   have hq0:Kq v0 uz:=by
    cases hrz with
    | t _ _ hrz =>
     cases zc <;> cases t0 <;> simp [Z0] at hwk
     ·subst hwk
      cases hrz
      cases hr1
      exact .int _ _ _
     ·cases hrz
      cases hr1
      exact .bool _ _
   have hKS:∀ k,g.D k→KS w (w.setRow b (arr.toList.take off++(a.eval z).cells.toList++arr.toList.drop (off+nn)).toArray) k:=by
    intro k hk
    by_cases he:k=b
    ·subst he
     refine ⟨arr,_,e,hh,setRow_heap w _ arr _ e _ hh,by simp [hvl,hnn]; omega,fun i v hv=>?_⟩
     have hi:i < arr.size:=(Array.getElem?_eq_some_iff.1 hv).1
     by_cases hio:i=off
     ·subst hio
      rw [hv0] at hv
      cases hv
      refine ⟨uz,?_,hq0⟩
      simp only [List.getElem?_toArray,List.append_assoc,hvl]
      rw [List.getElem?_append_right (by simp; omega)]
      simp [Nat.min_eq_left (Nat.le_of_lt hoff)]
     ·refine ⟨v,?_,.refl v⟩
      simp only [List.getElem?_toArray,hvl]
      rcases Nat.lt_or_gt_of_ne hio with h5 | h5
      ·rw [List.append_assoc,List.getElem?_append_left (by simp; omega),List.getElem?_take,if_pos h5]
       simpa using hv
      ·rw [List.getElem?_append_right (by simp; omega),List.getElem?_drop]
       rw [← hv]
       simp only [List.length_append,List.length_take,Array.length_toList,Nat.min_eq_left (Nat.le_of_lt hoff),List.length_cons,List.length_nil,hnn,Array.getElem?_toList]
       congr 1
       omega
    ·obtain ⟨_,y,e',_,h2,_⟩:=hM.nowK hs hk
     exact (KS.refl ⟨y,e',h2⟩).same (setRow_other w b k _ he)
   obtain ⟨hM',hE'⟩:=hM.stepD hs (w':=w.setRow b (arr.toList.take off++(a.eval z).cells.toList++arr.toList.drop (off+nn)).toArray) ⟨rfl,rfl,rfl,by simp [World.setRow]⟩
    (fun k _ hk=>setRow_other w b k _ (fun e=>hk (e ▸ hD))) hKS
   exact ⟨_,_,_,hD',hM',.undef _,hE',rfl⟩
 | _=>exact (aM h).elim
end
end Go.Tm
namespace Go.Tm
open Go.RowKit
section
variable {P:Program} {E:En} {g:Gh} {st st':St} {a:Act} {w:World}
theorem df {o:Oper} {x:A} {v:Value} (hM:fy E g st w) (hr:(execOp a.eval o).run P w=.ok (.value v) w) (hv:VR w g st.O st.R x v) {y:A} (h:MA.run (.ret x) st=some (y,st')) :
  ∃ u g' w',EP P o a w u w'∧Av E g st w y st' u g' w':=⟨v,g,w,.inl hr,Pf hM h hv⟩
theorem Mt {s:TypeId} {f off:Nat} {t:TypeId} (h:IU P s f=some (off,t)) :
  ∃ fs fl n i,P.underlying s=some (.struct fs)∧fs[f]?=some fl∧fl.offset=off∧fl.type=t∧jf P t=some n∧n≠0∧P.info? t=some i∧i.size=n:=by
 unfold IU at h
 split at h
 rotate_left
 ·cases h
 rename_i fs hu
 split at h
 rotate_left
 ·cases h
 rename_i fl hf
 split at h
 rotate_left
 ·cases h
 rename_i n hn
 split at h
 ·cases h
 rename_i h0
 simp only [Option.some.injEq,Prod.mk.injEq] at h
 obtain ⟨rfl,rfl⟩:=h
 obtain ⟨i,hi,hs⟩:=lV hn
 exact ⟨fs,fl,n,i,hu,hf,rfl,rfl,hn,h0,hi,hs⟩
theorem Mu {w:World}:∀ {fs:List Field} {l:List (Nat×Nat)},IV P fs=some l→(fs.mapM (m:=Sem) fun f=>do pure (f.offset,← sizeOf f.type)).run P w=.ok l w
 | [],l,h=>by simp [IV] at h; subst h; simp
 | f :: r,l,h=>by
  unfold IV at h
  split at h
  ·rename_i n l' hn hl
   cases h
   obtain ⟨i,hi,hs⟩:=lV hn
   have h1:(sizeOf f.type).run P w=.ok n w:=by simp [sizeOf,typeInfo,hi,hs]
   have h2:=Mu (w:=w) hl
   simp only [List.mapM_cons,Sem.run_bind,h1,Result.andThen_ok,Sem.run_pure,h2]
  ·cases h
theorem SS (cs:List Value) (off:Nat):∀ (k:Nat) (arr:Array Value),off+k+cs.length≤arr.size →
  ((cs.zipIdx k).foldl (fun cs (x:Value×Nat)=>cs.setIfInBounds (off+x.2) x.1) arr).toList=spl arr.toList (off+k) cs:=by
 induction cs with
 | nil=>intro k arr h; simp [spl]
 | cons c cs ih =>
  intro k arr h
  simp only [List.zipIdx_cons,List.foldl_cons]
  simp only [List.length_cons] at h
  rw [ih (k+1) _ (by simp; omega)]
  apply List.ext_getElem?
  intro j
  unfold spl
  simp only [Array.toList_setIfInBounds,List.append_assoc,List.getElem?_append,List.length_take,List.length_set,Array.length_toList,List.getElem?_take,List.getElem?_drop,List.getElem?_set,List.length_cons]
  repeat' split
  all_goals first | rfl | omega | skip
  all_goals first
   | (congr 1; omega)
   | (rw [show j - min (off+k) arr.size=0 by omega]; rfl)
   | (rw [show j - min (off+k) arr.size=(j - min (off+(k+1)) arr.size)+1 by omega]; rfl)
   | skip
def Cs (w:World) (g:Gh) (O R:Nat→Prop) (cs:List A) (arr:Array Value):Prop :=
 arr.size=cs.length∧∀ (j:Nat) (x:A),cs[j]?=some x→x.one=true∧∃ v,arr[j]?=some v∧VR w g O R x v
theorem Cs.spl {cs ds:List A} {arr brr crr:Array Value} {off:Nat} {O R:Nat→Prop} (h:Cs w g O R cs arr) (k:Cs w g O R ds brr) (hle:off+ds.length≤cs.length) (he:crr.toList=spl arr.toList off brr.toList):Cs w g O R (Go.Tm.spl cs off ds) crr:=by
 have h1:=B6 (cs:=ds) hle
 have hb:brr.toList.length=ds.length:=by rw [Array.length_toList]; exact k.1
 have ha:arr.toList.length=cs.length:=by rw [Array.length_toList]; exact h.1
 have h2:=B6 (l:=arr.toList) (cs:=brr.toList) (off:=off) (by omega)
 have hA:arr.size=cs.length:=h.1
 have hB:brr.size=ds.length:=k.1
 refine ⟨by rw [h1.1,← Array.length_toList,he,h2.1,ha],fun j x hj=>?_⟩
 rw [← Array.getElem?_toList,he]
 rcases h1.2 j x hj with ⟨h3,h4⟩ | ⟨h3,h4⟩
 ·obtain ⟨ho,v,hv,hr⟩:=k.2 _ x h4
  refine ⟨ho,v,?_,hr⟩
  have hjl:j - off < brr.toList.length:=by rw [hb]; exact (List.getElem?_eq_some_iff.1 h4).1
  have ht:(arr.toList.take off).length=off:=by simp; omega
  unfold Go.Tm.spl
  rw [List.append_assoc,List.getElem?_append_right (by omega),ht,List.getElem?_append_left hjl,Array.getElem?_toList]
  exact hv
 ·obtain ⟨ho,v,hv,hr⟩:=h.2 _ x h3
  refine ⟨ho,v,?_,hr⟩
  unfold Go.Tm.spl
  rcases h4 with h4 | h4
  ·rw [List.append_assoc,List.getElem?_append_left (by simp; omega),List.getElem?_take,if_pos h4,Array.getElem?_toList]
   exact hv
  ·have:(arr.toList.take off++brr.toList).length=off+ds.length:=by simp; omega
   rw [List.getElem?_append_right (by omega),this,List.getElem?_drop,hb,show off+ds.length+(j - (off+ds.length))=j by omega,Array.getElem?_toList]
   exact hv
theorem VR.cs {x:A} {v:Value} (hM:fy E g st w) (h:VR w g st.O st.R x v) (h1:x.cells.all A.one=true):Cs w g st.O st.R x.cells v.cells:=⟨(h.cells hM h1).1,(h.cells hM h1).2.2⟩
theorem Ur (hM:fy E g st w) (pl:List (Nat×Nat)):∀ {ps:List (Nat×A)} {vs:List (Nat×Value)} {cs cs':List A} {arr:Array Value},SM pl cs ps=some cs'→vs.length=ps.length →
  (∀ (i:Nat) (p:Nat×A),ps[i]?=some p→∃ v,vs[i]?=some (p.1,v)∧VR w g st.O st.R p.2 v)→Cs w g st.O st.R cs arr→∃ arr',Instr.fill (fun i=>pl[i]?) arr vs=some arr'∧Cs w g st.O st.R cs' arr'
 | [],vs,cs,cs',arr,h,hl,hv,hc=>by
  simp [SM] at h; subst h
  have:vs=[]:=List.eq_nil_of_length_eq_zero hl
  subst this
  exact ⟨arr,rfl,hc⟩
 | (f,x) :: ps,vs,cs,cs',arr,h,hl,hv,hc=>by
  unfold SM at h
  split at h
  rotate_left
  ·cases h
  rename_i off n hp
  split at h
  rotate_left
  ·cases h
  rename_i hh
  obtain ⟨h1,h2,h3⟩:=hh
  obtain ⟨v0,vs,rfl⟩:∃ v vs',vs=v :: vs':=by
   cases vs with
   | nil=>simp at hl
   | cons v vs=>exact ⟨v,vs,rfl⟩
  obtain ⟨v,hv0,hr⟩:=hv 0 _ rfl
  simp at hv0
  subst hv0
  have hcs:=hr.cs hM h3
  have hsz:v.cells.size=n:=by rw [hcs.1]; exact h1
  have hfold:(v.cells.zipIdx.foldl (fun cs (c,j)=>cs.setIfInBounds (off+j) c) arr).toList=spl arr.toList off v.cells.toList:=by
   have:=SS v.cells.toList off 0 arr (by have hA:=hcs.1; have hB:=hc.1; rw [Array.length_toList]; omega)
   rw [Nat.add_zero] at this
   rw [← this]
   congr 1
   rw [← Array.foldl_toList]
   simp
  obtain ⟨arr',h4,h5⟩:=Ur hM pl h (by simpa using hl) (fun i p hp=>by simpa using hv (i+1) p (by simpa using hp)) (hc.spl hcs (by omega) hfold)
  refine ⟨arr',?_,h5⟩
  have hle:¬ off+v.cells.size > arr.size:=by rw [hsz,hc.1]; omega
  simp only [Instr.fill,hp,hsz,ne_eq,not_true_eq_false,decide_false,Bool.false_or]
  rw [if_neg (by rw [← hsz]; simpa using hle)]
  exact h4
theorem ST {ev:Operand→Option A} {parts:Array (Nat×Operand)} {ps:List (Nat×A)} (h:dv (parts.toList.map fun (i,x)=>(ev x).map fun v=>(i,v))=some ps) (hev:∀ x y,ev x=some y→VR w g st.O st.R y (a.eval x)) :
  (parts.map fun (i,x)=>(i,a.eval x)).toList.length=ps.length∧∀ (i:Nat) (p:Nat×A),ps[i]?=some p→∃ v,(parts.map fun (i,x)=>(i,a.eval x)).toList[i]?=some (p.1,v)∧VR w g st.O st.R p.2 v:=by
 obtain ⟨h1,h2⟩:=u9 h
 refine ⟨by simp [← h1],fun i p hp=>?_⟩
 obtain ⟨⟨k,x⟩,hx,hf⟩:=h2 i p hp
 simp only [Option.map_eq_some_iff] at hf
 obtain ⟨y,hy,rfl⟩:=hf
 rw [Array.getElem?_toList] at hx
 exact ⟨a.eval x,by simp [hx],hev x y hy⟩
theorem EY {t:TypeId} {z:List A} (h:wD P t=some z):∃ i zv,P.info? t=some i∧i.zero=some zv∧∀ (w:World) (g:Gh) (O R:Nat→Prop),Cs w g O R z zv.cells:=by
 obtain ⟨i,zv,h1,h2,h3,h4⟩:=SQ h
 exact ⟨i,zv,h1,h2,fun w g O R=>⟨h3,h4 w g O R⟩⟩
theorem Cs.agg {cs:List A} {arr:Array Value} {O R:Nat→Prop} (h:Cs w g O R cs arr):VR w g O R (.agg cs) (.agg arr):=by
 have:=VR.agg (w:=w) (g:=g) (O:=O) (R:=R) cs arr.toList (by rw [Array.length_toList]; exact h.1.symm) (fun i x v hx hv=>by
  obtain ⟨_,u,hu,hr⟩:=h.2 i x hx
  rw [Array.getElem?_toList,hu] at hv
  cases hv
  exact hr)
 simpa using this
theorem W5 {o:Oper} {t:TypeId} {parts:Array (Nat×Operand)} {z:List A} {pl:List (Nat×Nat)} {ps:List (Nat×A)} {cs:List A} {x:A} {n:Nat} (hS:vn E g n st a w) (ho:o.op=.build t parts)
  (hz:wD P t=some z) (hp:O9 P t=some pl) (hps:dv (parts.toList.map fun (i,x)=>(st.eval x).map fun v=>(i,v))=some ps) (hf:SM pl z ps=some cs) (h:MA.run (.ret (.agg cs)) st=some (x,st')) :
  ∃ u g' w',EP P o a w u w'∧Av E g st w x st' u g' w':=by
 obtain ⟨i,zv,hi,hzv,hC⟩:=EY hz
 obtain ⟨h1,h2⟩:=ST (a:=a) hps (fun x y h=>bW hS h)
 obtain ⟨arr',h3,h4⟩:=Ur hS.mem pl hf h1 h2 (hC w g _ _)
 unfold O9 at hp
 split at hp
 rotate_left
 ·cases hp
 rename_i fs hu
 refine df hS.mem ?_ h4.agg h
 have hm:(fs.mapM (m:=Sem) fun f=>do pure (f.offset,← sizeOf f.type)).run P w=.ok pl.toArray w:=by
  rw [← Array.toArray_toList (xs:=fs),List.mapM_toArray]
  have:=Mu (w:=w) hp
  simp only [Sem.run_map,this,Result.andThen_ok]
 have h3':Instr.fill (fun i=>pl.toArray[i]?) zv.cells (parts.map fun (i,x)=>(i,a.eval x)).toList=some arr':=by simpa using h3
 simp only [execOp,ho,Instr.build,zeroValue,typeInfo,Sem.run_bind,program,Sem.run,hi,hzv,Sem.run_pure,Result.andThen_ok,run_underlying hu,hm,h3']
end
end Go.Tm
namespace Go.Tm
open Go.RowKit
section
variable {P:Program} {E:En} {g:Gh} {st st':St} {a:Act} {w:World}
theorem W6 {r e sz:Nat} {rows:List (List T)} {x:A} (h:(Aa r e sz rows).run st=some (x,st')):st.rw r=none∧x=.own r∧st'={ st with rw:=iw st.rw r (some (.live e sz rows)) }:=by
 unfold Aa at h
 simp only [MA.run] at h
 cases hx:st.rw r with
 | some y=>simp [hx,MA.run] at h
 | none =>
  simp only [hx,MA.run,Option.some.injEq,Prod.mk.injEq] at h
  exact ⟨rfl,h.1.symm,h.2.symm⟩
theorem Hm {r e sz:Nat} {rows:List (List T)} {x:A} {w':World} (hM:fy E g st w) (h:(Aa r e sz rows).run st=some (x,st')) (hd:Value) (hc:sO w w') (p:Nat→Prop)
  (hb:∀ b,b < w.heap.size→¬ p b→w'.heap[b]?=w.heap[b]?) (hdp:∀ b,hd.ownBlock=some b→p b) (hpX:∀ b,b < E.w0.heap.size→p b→E.X b)
  (hfree:∀ b,p b→¬ g.F b∧(∀ s,st.O s→g.ob s≠b)∧(∀ r',st.L r'→(g.rw r').ownBlock≠some b))
  (hrow:sI E.w0 w' E.X g.F hd (.live e sz rows)):∃ g',Av E g st w x st' hd g' w':=by
 obtain ⟨hr,rfl,rfl⟩:=W6 h
 obtain ⟨hM',hE⟩:=hM.new_row hc r hr hd e sz rows p hb hdp hpX hfree hrow
 refine ⟨_,hM',?_,hE,rfl⟩
 have:=VR.own (w:=w') (g:={ g with rw:=iw g.rw r hd }) (O:=({ st with rw:=iw st.rw r (some (.live e sz rows)) }:St).O) (R:=({ st with rw:=iw st.rw r (some (.live e sz rows)) }:St).R) r (SP.2 (.inl rfl))
 simpa only [fZ] using this
theorem K7 {r e sz:Nat} {rows:List (List T)} {x:A} {w':World} (hM:fy E g st w) (h:(Aa r e sz rows).run st=some (x,st')) (hd:Value) (hc:sO w w')
  (hb:∀ b,b < w.heap.size→hd.ownBlock≠some b→w'.heap[b]?=w.heap[b]?)
  (hfree:∀ b,hd.ownBlock=some b→¬ g.F b∧(∀ s,st.O s→g.ob s≠b)∧(∀ r',st.L r'→(g.rw r').ownBlock≠some b))
  (hrow:sI E.w0 w' E.X g.F hd (.live e sz rows)):∃ g',Av E g st w x st' hd g' w' :=
 Hm hM h hd hc (fun b=>hd.ownBlock=some b) hb (fun _ h=>h) (fun b h1 hp=>by
  obtain ⟨_,_,_,_,hX⟩:=hrow
  rcases (hX b hp).2 with h2 | h2
  ·omega
  ·exact h2) hfree hrow
theorem wE (hM:fy E g st w) {b:Nat} (hb:w.heap.size≤b):¬ g.F b∧(∀ s,st.O s→g.ob s≠b)∧(∀ r',st.L r'→(g.rw r').ownBlock≠some b) :=
 ⟨fun h=>by have:=(hM.F b h).1; omega,fun s hs he=>by have:=hM.ob_lt hs; omega,fun r' hr' he=>by have:=hM.row_lt hr' he; omega⟩
structure BB (w:World) (F:Nat→Prop) (sz:Nat) (rows:List (List T)) (arr:List Value):Prop where
 size:arr.length=rows.length*sz
 len:∀ (i:Nat) (row:List T),rows[i]?=some row→row.length=sz
 rd:∀ (i:Nat) (row:List T) (j:Nat) (x:T),rows[i]?=some row→row[j]?=some x→∃ u,arr[i*sz+j]?=some u∧u.oneCell'=true∧Rd w F x u
theorem BB.mono {F F':Nat→Prop} {sz:Nat} {rows:List (List T)} {arr:List Value} (h:BB w F sz rows arr) {w':World} (hs:Cp F w w') (hF:∀ b,F b→F' b):BB w' F' sz rows arr :=
 ⟨h.size,h.len,fun i row j x h1 h2=>let ⟨u,hu,ho,hr⟩:=h.rd i row j x h1 h2; ⟨u,hu,ho,hr.mono hs hF⟩⟩
theorem YK {i j sz:Nat} (h:j < sz):(i*sz+j) % sz=j:=by
 rw [Nat.add_comm,Nat.add_mul_mod_self_right,Nat.mod_eq_of_lt h]
theorem XQ {i j sz n:Nat} (hi:i < n) (hj:j < sz):i*sz+j < n*sz:=by
 have:(i+1)*sz≤n*sz:=Nat.mul_le_mul_right _ hi
 rw [Nat.succ_mul] at this
 omega
theorem WA {F:Nat→Prop} {ts:List T} {zs:List Value} (hl:zs.length=ts.length) (h:∀ (j:Nat) (t:T),ts[j]?=some t→∃ u,zs[j]?=some u∧u.oneCell'=true∧Rd w F t u)
  (n:Nat) (arr:List Value) (ha:arr.length=n*ts.length) (hx:∀ k,k < n*ts.length→arr[k]?=zs[k % ts.length]?):BB w F ts.length (List.replicate n ts) arr:=by
 refine ⟨by simpa using ha,fun i row hi=>?_,fun i row j x hi hj=>?_⟩
 ·have:=List.mem_of_getElem? hi
  rw [List.mem_replicate] at this
  rw [this.2]
 ·have hr:=List.mem_of_getElem? hi
  rw [List.mem_replicate] at hr
  have hil:i < n:=by have:=(List.getElem?_eq_some_iff.1 hi).1; simpa using this
  rw [hr.2] at hj
  have hjl:j < ts.length:=(List.getElem?_eq_some_iff.1 hj).1
  obtain ⟨u,hu,ho,hrd⟩:=h j x hj
  refine ⟨u,?_,ho,hrd⟩
  rw [hx _ (XQ hil hjl),YK hjl]
  exact hu
theorem BB.set {F:Nat→Prop} {sz:Nat} {rows:List (List T)} {arr arr':List Value} {ts:List T} {vs:List Value} (h:BB w F sz rows arr) (i0:Nat) (hi0:i0 < rows.length) (hl:ts.length=sz) (hvl:vs.length=sz)
  (hv:∀ (j:Nat) (t:T),ts[j]?=some t→∃ u,vs[j]?=some u∧u.oneCell'=true∧Rd w F t u) (he:arr'=Go.Tm.spl arr (i0*sz) vs):BB w F sz (rows.set i0 ts) arr':=by
 subst he
 have hseg:(i0+1)*sz≤rows.length*sz:=Nat.mul_le_mul_right _ hi0
 rw [Nat.succ_mul] at hseg
 have hsp:=B6 (l:=arr) (cs:=vs) (off:=i0*sz) (by rw [h.size,hvl]; exact hseg)
 refine ⟨by rw [hsp.1,h.size,List.length_set],fun i row hi=>?_,fun i row j x hi hj=>?_⟩
 ·rw [List.getElem?_set] at hi
  split at hi
  ·cases hi; exact hl
  ·exact h.len i row hi
 ·rw [List.getElem?_set] at hi
  split at hi
  ·rename_i h0
   cases hi
   subst h0
   obtain ⟨u,hu,ho,hr⟩:=hv j x hj
   refine ⟨u,?_,ho,hr⟩
   have hjl:j < vs.length:=(List.getElem?_eq_some_iff.1 hu).1
   have ht:(arr.take (i0*sz)).length=i0*sz:=by rw [List.length_take,h.size]; omega
   unfold Go.Tm.spl
   rw [List.append_assoc,List.getElem?_append_right (by omega),ht,List.getElem?_append_left (by omega),← hu]
   congr 1
   omega
  ·rename_i h0
   obtain ⟨u,hu,ho,hr⟩:=h.rd i row j x hi hj
   refine ⟨u,?_,ho,hr⟩
   have hj':j < sz:=by rw [← h.len i row hi]; exact (List.getElem?_eq_some_iff.1 hj).1
   unfold Go.Tm.spl
   rcases Nat.lt_or_ge i i0 with h5 | h5
   ·have:=XQ h5 hj'
    rw [List.append_assoc,List.getElem?_append_left (by rw [List.length_take,h.size]; omega),List.getElem?_take,if_pos (by omega)]
    exact hu
   ·have h6:(i0+1)*sz≤i*sz:=Nat.mul_le_mul_right _ (by omega)
    rw [Nat.succ_mul] at h6
    have ht:(arr.take (i0*sz)++vs).length=i0*sz+sz:=by rw [List.length_append,List.length_take,h.size,hvl]; omega
    rw [List.getElem?_append_right (by omega),ht,List.getElem?_drop,hvl,show i0*sz+sz+(i*sz+j - (i0*sz+sz))=i*sz+j by omega]
    exact hu
theorem SU {α:Type} {lb:List Nat} {sz:Nat}:∀ {ps:List (Nat×A)} {vs:List (Nat×Value)} {rows:List (List T)} {k:List (List T)→MA α} {arr:Array Value} {st:St} {g:Gh} {y:α},fy E g st w→(Pa lb sz rows ps k).run st=some (y,st')→vs.length=ps.length →
  (∀ (i:Nat) (p:Nat×A),ps[i]?=some p→∃ v,vs[i]?=some (p.1,v)∧VR w g st.O st.R p.2 v)→BB w g.F sz rows arr.toList →
  ∃ rows' st1 g1 arr',fy E g1 st1 w∧sN w w g g1 st.O st.R st1.O st1.R∧Hl g st g1 st1∧(k rows').run st1=some (y,st')∧Instr.fill (fun i=>some (i*sz,sz)) arr vs=some arr'∧BB w g1.F sz rows' arr'.toList∧rows'.length=rows.length
 | [],vs,rows,k,arr,st,g,y,hM,h,hl,hv,hc=>by
  have:vs=[]:=List.eq_nil_of_length_eq_zero hl
  subst this
  exact ⟨rows,st,g,arr,hM,sN.refl _ _ _ _,Hl.refl _ _,h,rfl,hc,rfl⟩
 | (i,x) :: ps,vs,rows,k,arr,st,g,y,hM,h,hl,hv,hc=>by
  unfold Pa at h
  split at h
  rotate_left
  ·exact (aM h).elim
  rename_i hh
  obtain ⟨h1,h2⟩:=hh
  obtain ⟨v0,vs,rfl⟩:∃ v vs',vs=v :: vs':=by
   cases vs with
   | nil=>simp at hl
   | cons v vs=>exact ⟨v,vs,rfl⟩
  obtain ⟨v,hv0,hr⟩:=hv 0 _ rfl
  simp at hv0
  subst hv0
  -- all its cells are of one cell: else toTs fails
  have hone:∀ (l:List A) (st:St) (k:List T→MA α),(A.toTs l k).run st=some (y,st')→l.all A.one=true:=by
   intro l
   induction l with
   | nil=>intro _ _ _; rfl
   | cons q l ih =>
    intro st k h
    simp only [A.toTs] at h
    cases q with
    | t x=>exact (by show (A.one _ && l.all A.one)=true; rw [ih _ _ h]; rfl)
    | nil=>exact (by show (A.one _ && l.all A.one)=true; rw [ih _ _ h]; rfl)
    | own r =>
     simp only [A.toT,MA.run] at h
     split at h
     ·show (A.one _ && l.all A.one)=true; rw [ih _ _ h]; rfl
     ·show (A.one _ && l.all A.one)=true; rw [ih _ _ h]; rfl
     ·exact (aM h).elim
    | _=>exact (aM h).elim
  have hcs:=hr.cs hM (W3 (hone _ _ _ h))
  obtain ⟨ts,st1,g1,hM1,hE1,ht1,h4,htl,hts⟩:=I0 hM (vs:=v.cells.toList) (by rw [Array.length_toList]; exact hcs.1) (fun j x hj=>by
   obtain ⟨_,q,hq,hr⟩:=hcs.2 j x hj
   exact ⟨q,by simpa using hq,hr⟩) h
  have hvs:v.cells.size=sz:=by rw [hcs.1]; exact h1
  have hseg:(i+1)*sz≤rows.length*sz:=Nat.mul_le_mul_right _ h2
  rw [Nat.succ_mul] at hseg
  have hasz:arr.size=rows.length*sz:=by rw [← Array.length_toList]; exact hc.size
  have hfold:(v.cells.zipIdx.foldl (fun cs (c,j)=>cs.setIfInBounds (i*sz+j) c) arr).toList=spl arr.toList (i*sz) v.cells.toList:=by
   have:=SS v.cells.toList (i*sz) 0 arr (by rw [Array.length_toList]; omega)
   rw [Nat.add_zero] at this
   rw [← this]
   congr 1
   rw [← Array.foldl_toList]
   simp
  obtain ⟨rows',st2,g2,arr',hM2,hE2,ht2,h5,h6,h7,h8⟩:=SU (vs:=vs) (arr:=v.cells.zipIdx.foldl (fun cs (c,j)=>cs.setIfInBounds (i*sz+j) c) arr) hM1 h4 (by simpa using hl)
   (fun i p hp=>by
    obtain ⟨u,hu,hr⟩:=hv (i+1) p (by simpa using hp)
    exact ⟨u,by simpa using hu,hr.mono hE1⟩) ((hc.mono hE1.same hE1.F).set i h2 (by omega) (by rw [Array.length_toList]; exact hvs) hts hfold)
  refine ⟨rows',st2,g2,arr',hM2,hE1.trans hE2,ht1.trans ht2,h5,?_,h7,by rw [h8,List.length_set]⟩
  have hle:¬ i*sz+sz > arr.size:=by omega
  simp only [Instr.fill,hvs,ne_eq,not_true_eq_false,decide_false,Bool.false_or]
  rw [if_neg (by simpa using hle)]
  exact h6
theorem BB.rowAt {w':World} {e sz:Nat} {rows:List (List T)} {inner:List Value} {hd:Value} (h:BB w' g.F sz rows inner) (hown:w'.ownsRow 0 e sz hd rows.length inner) (hf:∀ b,hd.ownBlock=some b→¬ g.F b∧(E.w0.heap.size≤b∨E.X b)) :
  sI E.w0 w' E.X g.F hd (.live e sz rows):=⟨inner,hown,h.len,fun i row j x h1 h2=>let ⟨u,hu,_,hr⟩:=h.rd i row j x h1 h2; ⟨u,hu,hr⟩,hf⟩
theorem M2 {t e m sz:Nat} {vparts:Array (Nat×Value)} {i:TypeInfo} {zv:Value} {arr':Array Value} (hu:P.underlying t=some (.slice e)) (hi:P.info? e=some i) (hzv:i.zero=some zv) (hsz:i.size=sz) (hm:m*sz≤16777216)
  (h:Instr.fill (fun i=>some (i*sz,sz)) ((Array.range (m*sz)).map (zv.cells[· % zv.cells.size]!)) vparts.toList=some arr') :
  (Instr.buildSlice t m vparts).run P w=.ok (.slice (some ⟨w.heap.size,0,none⟩) m m) (w.alloc (.cells arr' e)):=by
 have hlim:¬ m*sz > 2 ^ 24:=by omega
 by_cases h0:m*sz=0
 ·have hr0:Array.range 0=#[]:=rfl
  rw [h0,hr0,Array.map_empty] at h
  simp [Instr.buildSlice,run_underlying hu,zeroValue,typeInfo,sizeOf,hi,hsz,h0,hr0,h,newRow,newObj,Sem.run]
 ·simp [Instr.buildSlice,run_underlying hu,zeroValue,typeInfo,sizeOf,hi,hzv,hsz,h0,hlim,h,newRow,newObj,Sem.run]
theorem Pg {o:Oper} {t e d m:Nat} {parts:Array (Nat×Operand)} {sz:Nat} {z:List A} {ps:List (Nat×A)} {x:A} {n:Nat} (hS:vn E g n st a w) (ho:o.op=.buildSlice t m parts)
  (hu:P.underlying t=some (.slice e)) (hsz:jf P e=some sz) (hz:wD P e=some z) (hps:dv (parts.toList.map fun (i,x)=>(st.eval x).map fun v=>(i,v))=some ps)
  (hk:z.length=sz∧0 < sz∧m*sz≤16777216) (h:(A.toTs (mK (IT P e) z) fun ts=>Pa (IT P e) sz (List.replicate m ts) ps fun rows=>Aa (i6 d 0) e sz rows).run st=some (x,st')) :
  ∃ u g' w',EP P o a w u w'∧Av E g st w x st' u g' w':=by
 obtain ⟨hk1,hk2,hk3⟩:=hk
 obtain ⟨i,zv,hi,hzv,hC⟩:=EY hz
 obtain ⟨i',hi',hsz'⟩:=lV hsz
 rw [hi] at hi'
 cases hi'
 have hCz:=hC w g st.O st.R
 have hzs:zv.cells.size=sz:=by rw [hCz.1]; exact hk1
 obtain ⟨h1,h2⟩:=ST (a:=a) hps (fun x y h=>bW hS h)
 obtain ⟨ts,st1,g1,hM1,hE1,ht1,h4,htl,hts⟩:=I0 hS.mem (vs:=zv.cells.toList) (by rw [Array.length_toList]; exact hCz.1) (fun j x hj=>by
   obtain ⟨_,q,hq,hr⟩:=hCz.2 j x hj
   exact ⟨q,by simpa using hq,hr⟩) h
 have htsz:ts.length=sz:=by omega
 have hm:m≤16777216:=Nat.le_trans (Nat.le_mul_of_pos_right _ hk2) hk3
 have hR0:BB w g1.F sz (List.replicate m ts) ((Array.range (m*sz)).map (zv.cells[· % zv.cells.size]!)).toList:=by
  have:=WA (w:=w) (F:=g1.F) (ts:=ts) (zs:=zv.cells.toList) (by rw [Array.length_toList]; omega) hts m ((Array.range (m*sz)).map (zv.cells[· % zv.cells.size]!)).toList (by simp [htsz]) (fun k hk=>by
   rw [htsz] at hk ⊢
   have hkm:k % sz < zv.cells.size:=by rw [hzs]; exact Nat.mod_lt _ hk2
   simp only [Array.getElem?_toList,Array.getElem?_map,Array.getElem?_range,hk,if_true,Option.map_some,hzs]
   rw [Array.getElem?_eq_getElem hkm,getElem!_pos zv.cells (k % sz) hkm])
  rw [htsz] at this
  exact this
 obtain ⟨rows',st2,g2,arr',hM2,hE2,ht2,h5,h6,h7,h8⟩:=SU hM1 h4 h1 (fun i p hp=>by
  obtain ⟨u,hu,hr⟩:=h2 i p hp
  exact ⟨u,hu,hr.mono hE1⟩) hR0
 have hrl:rows'.length=m:=by rw [h8,List.length_replicate]
 have hasz:arr'.size=m*sz:=by rw [← Array.length_toList,h7.size,hrl]
 have hown:=World.ownsRow_lit (base:=0) (e:=e) (size:=sz) w arr' m (Nat.zero_le _) (by simp only [maxLen]; omega) hasz
 have hSm:Cp g2.F w (w.alloc (.cells arr' e)):=fun b hb=>heap_alloc_old w _ b (hM2.F b hb).1
 obtain ⟨g',hA⟩:=K7 hM2 h5 (.slice (some ⟨w.heap.size,0,none⟩) m m) (Hk w (.cells arr' e)) (fun b hb _=>heap_alloc_old w _ b hb) (fun b hb=>by
   simp only [Value.ownBlock,Option.some.injEq] at hb
   exact wE hM2 (by omega)) ((h7.mono hSm (fun _ h=>h)).rowAt (by rw [hrl]; exact hown) (fun b hb=>by
   simp only [Value.ownBlock,Option.some.injEq] at hb
   subst hb
   exact ⟨(wE hM2 (Nat.le_refl _)).1,.inl hM2.sizes⟩))
 refine ⟨_,g',_,.inl ?_,hA.mem,hA.vr,(hE1.trans hE2).trans hA.ext,hA.tm.trans (ht1.trans ht2).tm⟩
 have hrun:=M2 (w:=w) hu hi hzv hsz' hk3 h6
 simp only [execOp,ho,Sem.run_bind,hrun,Result.andThen_ok,Sem.run_pure]
end
end Go.Tm
namespace Go.Tm
open Go.RowKit
section
variable {P:Program} {E:En} {g:Gh} {st st':St} {a:Act} {w:World}
theorem Us {b b':Nat} {c n:Nat} (h:(Value.slice (some ⟨b,0,none⟩) n c).ownBlock=some b'):b'=b:=by
 simp only [Value.ownBlock,Option.some.injEq] at h; exact h.symm
theorem XR {o:Oper} {t e d by_ m:Nat} {xl xc:Operand} {l c:Int} {zz:Option Value} {z:List A} {x:A} {n:Nat} (hS:vn E g n st a w) (ho:o.op=.makeSlice t xl xc) (hl:a.eval xl=.int .i64 l) (hc:a.eval xc=.int .i64 c)
  (hu:P.underlying t=some (.slice e)) (hi0:Ek P e=some (zz,m,by_)) (hz:wD P e=some z) (hk:z.length=m∧0 < m∧0≤c∧(l=0∨l=c)∧c.toNat*by_≤140737488355328∧c≤9223372036854775807)
  (h:(A.toTs (mK (IT P e) z) fun ts=>Aa (i6 d 0) e m (List.replicate l.toNat ts)).run st=some (x,st')) :
  ∃ u g' w',EP P o a w u w'∧Av E g st w x st' u g' w':=by
 obtain ⟨hk1,hk2,hk3,hk4,hk5,hk6⟩:=hk
 obtain ⟨i,zv,hi,hzv,hC⟩:=EY hz
 obtain ⟨i',hi',_,hsz,hby⟩:=SR hi0
 rw [hi] at hi'
 cases hi'
 have hCz:=hC w g st.O st.R
 have hzs:zv.cells.size=m:=by rw [hCz.1]; exact hk1
 obtain ⟨ts,st1,g1,hM1,hE1,ht1,h4,htl,hts⟩:=I0 hS.mem (vs:=zv.cells.toList) (by rw [Array.length_toList]; exact hCz.1) (fun j x hj=>by
   obtain ⟨_,q,hq,hr⟩:=hCz.2 j x hj
   exact ⟨q,by simpa using hq,hr⟩) h
 have htsz:ts.length=m:=by omega
 obtain ⟨c,rfl⟩:=Int.eq_ofNat_of_zero_le hk3
 have hb1:i.bytes*c≤281474976710656:=by rw [hby,Nat.mul_comm]; simp at hk5; omega
 have hb2:c≤maxLen:=by simp only [maxLen]; omega
 have fin:∀ (w':World) (m':Nat) (inner:List Value),(Instr.makeSlice t (.int .i64 l) (.int .i64 (c:Int))).run P w=.ok (.slice (some ⟨w.heap.size,0,none⟩) m' c) w'→l.toNat=m' →
   w'.ownsRow 0 e m (.slice (some ⟨w.heap.size,0,none⟩) m' c) m' inner→w.grownBy w' none→BB w g1.F m (List.replicate l.toNat ts) inner→∃ u g' w',EP P o a w u w'∧Av E g st w x st' u g' w':=by
  intro w' m' inner hr hm' hown hg hR
  have hSm:Cp g1.F w w':=fun b hb=>hg.block b (hM1.F b hb).1 (by simp)
  have hrl:(List.replicate l.toNat ts).length=m':=by simp [hm']
  obtain ⟨g',hA⟩:=K7 hM1 h4 (.slice (some ⟨w.heap.size,0,none⟩) m' c) ⟨hg.os,hg.tape,hg.output,hg.size⟩ (fun b hb _=>hg.block b hb (by simp)) (fun b hb=>wE hM1 (by have:=Us hb; omega))
   ((hR.mono hSm (fun _ h=>h)).rowAt (by rw [hrl]; exact hown) (fun b hb=>by
    have:=Us hb
    subst this
    exact ⟨(wE hM1 (Nat.le_refl _)).1,.inl hM1.sizes⟩))
  refine ⟨_,g',_,.inl ?_,hA.mem,hA.vr,hE1.trans hA.ext,hA.tm.trans ht1.tm⟩
  simp only [execOp,ho,hl,hc,Sem.run_bind,hr,Result.andThen_ok,Sem.run_pure]
 by_cases h0:l=0
 ·subst h0
  obtain ⟨w',hr,hown,hg⟩:=run_make_own (P:=P) w 0 t e i zv m hu hi hzv hsz .i64 .i64 c hb1 hb2 (Nat.zero_le _)
  refine fin w' 0 [] hr rfl hown hg ⟨by simp,by simp,by simp⟩
 ·have hlc:l=(c:Int):=hk4.resolve_left h0
  subst hlc
  obtain ⟨w',hr,hown,hg⟩:=run_make_full (P:=P) w 0 t e i zv m hu hi hzv hsz .i64 .i64 c hb1 hb2 (Nat.zero_le _)
  refine fin w' c _ hr (by simp) hown hg ?_
  have:=WA (w:=w) (F:=g1.F) (ts:=ts) (zs:=zv.cells.toList) (by rw [Array.length_toList]; omega) hts c (madeCells zv.cells (c*m)).toList (by simp [madeCells,htsz]) (fun k hk=>by
   rw [htsz] at hk ⊢
   have hkm:k % m < zv.cells.size:=by rw [hzs]; exact Nat.mod_lt _ hk2
   simp only [madeCells,Array.getElem?_toList,Array.getElem?_map,Array.getElem?_range,hk,if_true,Option.map_some,hzs]
   rw [Array.getElem?_eq_getElem hkm,getElem!_pos zv.cells (k % m) hkm])
  rw [htsz] at this
  simpa using this
theorem sI.rcs {w0:World} {X F:Nat→Prop} {v:Value} {e sz:Nat} {rows:List (List T)} (h:sI w0 w X F v (.live e sz rows)):∃ inner,w.ownsRow 0 e sz v rows.length inner∧BB w F sz rows inner∧(∀ b,v.ownBlock=some b→¬ F b∧(w0.heap.size≤b∨X b)):=by
 obtain ⟨inner,ho,h1,h2,h3⟩:=h
 exact ⟨inner,ho,⟨ho.1,h1,fun i row j x hi hj=>let ⟨u,hu,hr⟩:=h2 i row j x hi hj; ⟨u,hu,hr.one.1,hr⟩⟩,h3⟩
theorem BB.app {F:Nat→Prop} {sz:Nat} {xs ys:List (List T)} {xa ya:List Value} (h:BB w F sz xs xa) (k:BB w F sz ys ya):BB w F sz (xs++ys) (xa++ya):=by
 refine ⟨by rw [List.length_append,List.length_append,h.size,k.size,Nat.add_mul],fun i row hi=>?_,fun i row j x hi hj=>?_⟩
 ·rw [List.getElem?_append] at hi
  split at hi
  ·exact h.len i row hi
  ·exact k.len _ row hi
 ·rw [List.getElem?_append] at hi
  split at hi
  ·rename_i hlt
   obtain ⟨u,hu,ho,hr⟩:=h.rd i row j x hi hj
   exact ⟨u,by rw [List.getElem?_append_left ((List.getElem?_eq_some_iff.1 hu).1)]; exact hu,ho,hr⟩
  ·rename_i hlt
   obtain ⟨u,hu,ho,hr⟩:=k.rd _ row j x hi hj
   refine ⟨u,?_,ho,hr⟩
   have h5:xs.length*sz≤i*sz:=Nat.mul_le_mul_right _ (by omega)
   rw [List.getElem?_append_right (by rw [h.size]; omega),h.size,← hu]
   congr 1
   rw [Nat.sub_mul]
   omega
theorem M3 {t ty e:TypeId} {i:TypeInfo} (ht:P.underlying t=some (.slice e)) (hi:P.info? e=some i) {v:Value} {n size:Nat} {xs:List Value} (hown:w.ownsRow 0 e size v n xs) (ad:Option Addr) (c:Nat) :
  (Builtin.append_ #[t,t] ty #[v,.slice ad 0 c]).run P w=.ok v w:=by
 have hf:(Builtin.firstCells i.size 0 (.slice ad 0 c)).run P w=.ok #[] w:=by cases ad <;> simp [Builtin.firstCells,loadCells,loadCellsFrom]
 rcases hown.2 with ⟨rfl,rfl⟩ | ⟨g,cap,cur,rfl,_,_,hnc,_⟩
 ·simp [Builtin.append_,run_underlying ht,sizeOf,typeInfo,hi,Builtin.lenOf,hf]
 ·simp [Builtin.append_,run_underlying ht,sizeOf,typeInfo,hi,Builtin.lenOf,hf,hnc,storeCells]
theorem Ph {t ty e:TypeId} {i:TypeInfo} {zv:Value} {n by_:Nat} (ht:P.underlying t=some (.slice e)) (hi:P.info? e=some i) (hz:i.zero=some zv) (hs:i.size=n) (hb:i.bytes=by_) (hzs:zv.cells.size=n) (hn:0 < n) (hby:0 < by_)
  {r':Nat} {x:A} {v vy:Value} {rows ys:List (List T)} {inner:List Value} (hM:fy E g st w) (hown:w.ownsRow 0 e n v rows.length inner) (hR:BB w g.F n rows inner)
  (hfree:∀ b,v.ownBlock=some b→(¬ g.F b∧(∀ s,st.O s→g.ob s≠b)∧(∀ r',st.L r'→(g.rw r').ownBlock≠some b))∧(E.w0.heap.size≤b∨E.X b))
  (sz:Nat) (ad:Option Addr) (c:Nat) (hvy:vy=.slice ad ys.length c) (hY:ZB w g.F sz ys ad) (hsz:ys≠[]→sz=n) (hlim:(rows.length+ys.length)*by_≤140737488355328)
  (h:(Aa r' e n (rows++ys)).run st=some (x,st')) :
  ∃ v' w' g',(Builtin.append_ #[t,t] ty #[v,vy]).run P w=.ok v' w'∧Av E g st w x st' v' g' w':=by
 subst hvy
 by_cases hne:ys=[]
 ·subst hne
  rw [List.append_nil] at h
  obtain ⟨g',hA⟩:=K7 hM h v (sO.refl w) (fun _ _ _=>rfl) (fun b hb=>(hfree b hb).1) (hR.rowAt hown (fun b hb=>⟨(hfree b hb).1.1,(hfree b hb).2⟩))
  exact ⟨v,w,g',M3 ht hi hown ad c,hA⟩
 ·have hszn:=hsz hne
  subst hszn
  obtain ⟨b,off,rfl,news,hnl,hnc,hn1,hnr⟩:=hY.flat hne
  have h63:rows.length+ys.length≤maxLen:=by
   have:=Nat.le_trans (Nat.le_mul_of_pos_right _ hby) hlim
   simp only [maxLen]; omega
  obtain ⟨v',w',hr,hown',hg,_,hat⟩:=run_append_own_at (P:=P) w 0 t ty e i zv sz by_ ht hi hz hs hb hzs hn v rows.length inner hown ⟨b,off,none⟩ ys.length c news hnl hnc hn1 h63 hlim (Nat.zero_le _)
  have hblk:∀ b',v'.ownBlock=some b'→v.ownBlock=some b'∨b'=w.heap.size:=fun b' hb'=>by
   rcases hat with hat | hat
   ·exact .inl (hat ▸ hb')
   ·rw [hat] at hb'; exact .inr (by simpa using hb'.symm)
  have hSm:Cp g.F w w':=fun k hk=>hg.block k (hM.F k hk).1 (fun he=>(hfree k he.symm).1.1 hk)
  have hR2:BB w g.F sz ys news:=⟨hnl,hY.len,fun i row j x h1 h2=>let ⟨u,hu,hr⟩:=hnr i row j x h1 h2; ⟨u,hu,hr.one.1,hr⟩⟩
  have hX:∀ b',v'.ownBlock=some b'→(¬ g.F b'∧(∀ s,st.O s→g.ob s≠b')∧(∀ r',st.L r'→(g.rw r').ownBlock≠some b'))∧(E.w0.heap.size≤b'∨E.X b'):=fun b' hb'=>by
   rcases hblk b' hb' with h1 | h1
   ·exact hfree b' h1
   ·exact ⟨wE hM (by omega),.inl (by have:=hM.sizes; omega)⟩
  have hX':∀ b',(v.ownBlock=some b'∨b'=w.heap.size)→(¬ g.F b'∧(∀ s,st.O s→g.ob s≠b')∧(∀ r',st.L r'→(g.rw r').ownBlock≠some b'))∧(E.w0.heap.size≤b'∨E.X b'):=fun b' hb'=>by
   rcases hb' with h1 | h1
   ·exact hfree b' h1
   ·exact ⟨wE hM (by omega),.inl (by have:=hM.sizes; omega)⟩
  obtain ⟨g',hA⟩:=Hm hM h v' ⟨hg.os,hg.tape,hg.output,hg.size⟩ (fun b=>v.ownBlock=some b∨b=w.heap.size) (fun k hk hne'=>hg.block k hk (fun he=>hne' (.inl he.symm))) hblk
   (fun b h1 hp=>(hX' b hp).2.elim (fun h2=>by omega) id) (fun b' hb'=>(hX' b' hb').1) ((((hR.app hR2).mono hSm (fun _ h=>h))).rowAt (by rw [List.length_append]; exact hown') (fun b' hb'=>⟨(hX b' hb').1.1,(hX b' hb').2⟩))
  exact ⟨v',w',g',hr,hA⟩
theorem Vo {e:TypeId} {z:List A} {zz:Value} {n by_:Nat} (h:Ek P e=some (some zz,n,by_)) (hz:wD P e=some z):∃ i,P.info? e=some i∧i.zero=some zz∧i.size=n∧i.bytes=by_∧zz.cells.size=z.length:=by
 obtain ⟨i,hi,h1,h2,h3⟩:=SR h
 obtain ⟨i',zv,hi',hzv,hC⟩:=EY hz
 rw [hi] at hi'
 cases hi'
 rw [h1] at hzv
 cases hzv
 exact ⟨i,hi,h1,h2,h3,(hC default { F:=fun _=>False,ob:=id,rw:=fun _=>undef } (fun _=>True) (fun _=>True)).1⟩
theorem Vp {o:Oper} {xs ys:Operand} {x vx vy:A} {ts:Array TypeId} {n:Nat} (hS:vn E g n st a w) (ho:o.op=.call { callee:=.builtin .append,args:=#[xs,ys],argTypes:=ts }) (hvx:VR w g st.O st.R vx (a.eval xs)) (hvy:VR w g st.O st.R vy (a.eval ys))
  (h:(yT P o.dst ts.toList vx vy).run st=some (x,st')):∃ u g' w',EP P o a w u w'∧Av E g st w x st' u g' w':=by
 have hM:=hS.mem
 unfold yT at h
 split at h
 rotate_left
 ·exact (aM h).elim
 rename_i t t' d hts hd
 split at h
 rotate_left
 ·exact (aM h).elim
 rename_i htt
 subst htt
 have hts':ts=#[t,t]:=by rw [← Array.toArray_toList (xs:=ts),hts]
 subst hts'
 split at h
 rotate_left
 ·exact (aM h).elim
 rename_i e hu
 split at h
 rotate_left
 ·exact (aM h).elim
 rename_i zz m by_ z hi hz
 split at h
 rotate_left
 ·exact (aM h).elim
 rename_i hk
 obtain ⟨hk1,hk2,hk3⟩:=hk
 obtain ⟨i,hi1,hi2,hi3,hi4,hi5⟩:=Vo hi hz
 obtain ⟨rows2,sz,ad,c,h,hyv,hY⟩:=EW hM hvy h
 split at h
 rotate_left
 ·exact (aM h).elim
 rename_i hsz
 have hsz':rows2≠[]→sz=m:=fun hne=>hsz.resolve_right hne
 have fin:∀ {v':Value} {w':World},(Builtin.append_ #[t,t] o.type #[a.eval xs,a.eval ys]).run P w=.ok v' w'→EP P o a w v' w':=by
  intro v' w' hr
  refine .inl ?_
  simp only [execOp,ho,resolve,invoke,builtin,Sem.run_bind,Sem.run_pure,Result.andThen_ok,List.map_toArray,List.map_cons,List.map_nil,hr]
 split at h
 ·split at h
  rotate_left
  ·exact (aM h).elim
  rename_i hlim
  generalize hvv:a.eval xs=vv at hvx
  cases hvx with
  | nil =>
   have hnil:a.eval xs=.slice none 0 0:=hvv
   obtain ⟨v',w',g',hr,hA⟩:=Ph (P:=P) (ty:=o.type) hu hi1 hi2 hi3 hi4 (by omega) hk2 hk3 (v:=.slice none 0 0) (rows:=[]) (ys:=rows2) (inner:=[]) hM (World.ownsRow_nil _ _ _ _) ⟨by simp,by simp,by simp⟩ (by simp [Value.ownBlock]) sz ad c hyv hY hsz' (by simpa using hlim) h
   rw [← hnil] at hr
   exact ⟨v',g',w',fin hr,hA⟩
 ·rename_i r _
  simp only [MA.run] at h
  cases hx:st.rw r with
  | none=>simp [hx,MA.run] at h
  | some xx =>
   cases xx with
   | gone=>simp [hx,MA.run] at h
   | frz sz' rows=>simp [hx,MA.run] at h
   | live e' sz' rows =>
    simp only [hx] at h
    split at h
    rotate_left
    ·exact (aM h).elim
    rename_i hc
    obtain ⟨rfl,rfl,hlim⟩:=hc
    simp only [MA.run] at h
    have hL:st.L r:=⟨_,_,_,hx⟩
    obtain ⟨inner,hown,hR,hf⟩:=(hM.row r _ hx).rcs
    obtain ⟨hM1,hE1⟩:=hM.gone_row r _ hx
    obtain ⟨v',w',g',hr,hA⟩:=Ph (P:=P) (ty:=o.type) hu hi1 hi2 hi3 hi4 (by omega) hk2 hk3 (v:=g.rw r) (rows:=rows) (ys:=rows2) (inner:=inner) hM1 hown hR (fun b hb=>⟨⟨(hM.row_nf hL hb).1,fun s hs he=>hM.rowob r s hL hs (he ▸ hb),fun r' hr' he=>by
     rcases B5.1 hr' with ⟨rfl,_,_,_,hx⟩ | ⟨h3,h4⟩
     ·cases hx
     ·exact h3 (hM.rowne r' r b h4 hL he hb)⟩,(hM.row_nf hL hb).2⟩) sz ad c hyv hY hsz' hlim h
    have hxs:a.eval xs=g.rw r:=by
     generalize hvv:a.eval xs=vv at hvx
     cases hvx
     rfl
    rw [← hxs] at hr
    exact ⟨v',g',w',fin hr,hA.mem,hA.vr,hE1.trans hA.ext,hA.tm⟩
 ·exact (aM h).elim
theorem YL {o:Oper} {xs:Operand} {x vx:A} {t:TypeId} {n:Nat} (hS:vn E g n st a w) (ho:o.op=.call { callee:=.builtin .len,args:=#[xs],argTypes:=#[t] }) (hvx:VR w g st.O st.R vx (a.eval xs))
  (h:(Pe P t vx).run st=some (x,st')):∃ u g' w',EP P o a w u w'∧Av E g st w x st' u g' w':=by
 have hM:=hS.mem
 unfold Pe at h
 split at h
 ·rename_i s hu
  cases hx:a.eval xs with
  | string s' =>
   rw [hx] at hvx
   cases hvx with
   | t x v h1=>cases h1; exact df hM (by simp [execOp,ho,resolve,invoke,builtin,Builtin.len_,run_underlying hu,hx,goInt]) (.t _ _ (.int _ _)) h
  | _=>rw [hx] at hvx; cases hvx with | t x v h1=>cases h1
 ·rename_i e s sz rows hu
  generalize hvv:a.eval xs=vv at hvx
  cases hvx with
  | ext _ _ _ _ h1 =>
   cases h1 with
   | sl0=>exact df hM (by simp [execOp,ho,resolve,invoke,builtin,Builtin.len_,run_underlying hu,hvv,goInt]) (.t _ _ (.int _ _)) h
   | sl=>exact df hM (by simp [execOp,ho,resolve,invoke,builtin,Builtin.len_,run_underlying hu,hvv,goInt]) (.t _ _ (.int _ _)) h
 ·rename_i hu _
  obtain ⟨rows,sz,ad,c,h,hv,hR⟩:=EW hM hvx h
  exact df hM (by simp [execOp,ho,resolve,invoke,builtin,Builtin.len_,run_underlying hu,hv,goInt]) (.t _ _ (.int _ _)) h
 ·exact (aM h).elim
end
end Go.Tm
namespace Go.Tm
open Go.RowKit
section
variable {P:Program} {E:En} {g:Gh} {st st':St} {a:Act} {w:World}
theorem tv {d:Nat} {lo:Option Operand} {l:Option A} {k:Int} (hl:M1 st.eval lo=some l) (hk:Bc d l=some k) (hev:∀ x y,st.eval x=some y→VR w g st.O st.R y (a.eval x)) :
  (lo=none∧k=d)∨∃ x kk,lo=some x∧a.eval x=.int kk k:=by
 cases lo with
 | none=>simp [M1] at hl; subst hl; simp [Bc] at hk; exact .inl ⟨rfl,hk.symm⟩
 | some x =>
  simp only [M1,Option.map_eq_some_iff] at hl
  obtain ⟨y,hy,rfl⟩:=hl
  have hv:=hev x y hy
  unfold Bc at hk
  split at hk
  ·rename_i h0; cases h0
  ·rename_i kk i h0
   cases h0
   cases hk
   generalize hvv:a.eval x=vv at hv
   cases hv with
   | t x v h1=>cases h1; exact .inr ⟨x,kk,rfl,hvv⟩
  ·cases hk
theorem xM {isS:Bool} {len cap:Nat} {lo hi:Option Operand} {l h:Int} (hl:(lo=none∧l=0)∨∃ x kk,lo=some x∧a.eval x=.int kk l) (hh:(hi=none∧h=len)∨∃ x kk,hi=some x∧a.eval x=.int kk h) (h0:0≤l) (h1:l≤h) (h2:h≤len) (hlc:len≤cap) :
  (Instr.sliceBounds isS len cap (lo.map a.eval) (hi.map a.eval) none).run P w=.ok (l.toNat,h.toNat,cap) w:=by
 have hb:∀ (x:Operand) (kk:IntKind) (i:Int) (y:Nat) (code:BoundsCode),a.eval x=.int kk i→0≤i→i≤y→(Instr.sliceBound (a.eval x) y code).run P w=.ok i.toNat w:=by
  intro x kk i y code hx h0 h1
  rw [hx]
  simp [Instr.sliceBound,asIntOf,h0,h1]
 rcases hl with ⟨rfl,rfl⟩ | ⟨x,kk,rfl,hx⟩ <;> rcases hh with ⟨rfl,rfl⟩ | ⟨y,ky,rfl,hy⟩
 ·simp [Instr.sliceBounds]
 ·simp [Instr.sliceBounds,hb y ky h cap _ hy (by omega) (by omega)]
 ·simp [Instr.sliceBounds,hb x kk l len _ hx h0 (by omega)]
 ·simp [Instr.sliceBounds,hb x kk l h.toNat _ hx h0 (by omega),hb y ky h cap _ hy (by omega) (by omega)]
theorem Rd.cut {F:Nat→Prop} {sz:Nat} {rows:List (List T)} {ad:Option Addr} {c l h:Nat} (hr:Rd w F (.sl sz rows) (.slice ad rows.length c)) (h1:l≤h) (h2:h≤rows.length) (hc:rows.length≤c) :
  Rd w F (.sl sz ((rows.take h).drop l)) (.slice (if c=l then ad else ad.map (·.add (l*sz))) (h - l) (c - l)):=by
 have hlen:((rows.take h).drop l).length=h - l:=by simp; omega
 by_cases he:h - l=0
 ·have:(rows.take h).drop l=[]:=List.eq_nil_of_length_eq_zero (by omega)
  rw [this,he]
  refine .sl0 _ _ _ fun hn=>?_
  have had:ad=none:=by
   split at hn
   ·exact hn
   ·cases ad with
    | none=>rfl
    | some a=>cases hn
  cases hr with
  | sl0 _ _ _ ha=>have:=ha had; omega
  | sl=>cases had
 ·cases hr with
  | sl0=>simp at h2; omega
  | sl sz rows b off c u hc' hF hs hx hr =>
   rw [if_neg (by omega)]
   simp only [Option.map_some,add_lit]
   have hget:∀ (i:Nat) (row:List T),((rows.take h).drop l)[i]?=some row→rows[l+i]?=some row:=fun i row hi=>by
    rw [List.getElem?_drop,List.getElem?_take] at hi
    split at hi
    ·exact hi
    ·cases hi
   have:=Rd.sl (w:=w) (F:=F) sz ((rows.take h).drop l) b (off+l*sz) (c - l) (fun i j=>u (l+i) j) (by omega) hF (fun i row hi=>hs _ row (hget i row hi))
    (fun i row j x hi hj=>by
     rw [show off+l*sz+i*sz+j=off+(l+i)*sz+j by rw [Nat.add_mul]; omega]
     exact hx _ row j x (hget i row hi) hj) (fun i row j x hi hj=>hr _ row j x (hget i row hi) hj)
   rw [hlen] at this
   exact this
theorem Sd.cut {s:Bool} {D:Nat→Prop} {sz:Nat} {rows:List (List T)} {v:Value} (hr:Sd s w D (.sl sz rows) v) {l h:Nat} (h1:l≤h) (h2:h≤rows.length) :
  ∃ ad c,v=.slice ad rows.length c∧rows.length≤c∧Sd s w D (.sl sz ((rows.take h).drop l)) (.slice (if c=l then ad else ad.map (·.add (l*sz))) (h - l) (c - l)):=by
 have hlen:((rows.take h).drop l).length=h - l:=by simp; omega
 cases hr with
 | sl0 _ a c ha =>
  refine ⟨a,c,rfl,by simp,?_⟩
  simp only [List.length_nil] at h2
  have e:l=0∧h=0:=by omega
  obtain ⟨rfl,rfl⟩:=e
  simp only [List.take_nil,List.drop_nil]
  refine .sl0 _ _ _ fun hn=>?_
  have had:a=none:=by
   split at hn
   ·exact hn
   ·cases a with
    | none=>rfl
    | some a=>cases hn
  have:=ha had
  omega
 | sl sz rows b off c u hc' hF hs hx hr =>
  refine ⟨_,c,rfl,hc',?_⟩
  by_cases he:h - l=0
  ·have:(rows.take h).drop l=[]:=List.eq_nil_of_length_eq_zero (by omega)
   rw [this,he]
   refine .sl0 _ _ _ fun hn=>?_
   split at hn
   ·cases hn
   ·cases hn
  ·rw [if_neg (by omega)]
   simp only [Option.map_some,add_lit]
   have hget:∀ (i:Nat) (row:List T),((rows.take h).drop l)[i]?=some row→rows[l+i]?=some row:=fun i row hi=>by
    rw [List.getElem?_drop,List.getElem?_take] at hi
    split at hi
    ·exact hi
    ·cases hi
   have:=Sd.sl (s:=s) (w:=w) (D:=D) sz ((rows.take h).drop l) b (off+l*sz) (c - l) (fun i j=>u (l+i) j) (by omega) hF (fun i row hi=>hs _ row (hget i row hi))
    (fun i row j x hi hj=>by
     rw [show off+l*sz+i*sz+j=off+(l+i)*sz+j by rw [Nat.add_mul]; omega]
     exact hx _ row j x (hget i row hi) hj) (fun i row j x hi hj=>hr _ row j x (hget i row hi) hj)
   rw [hlen] at this
   exact this
theorem W7 {o:Oper} {t:TypeId} {xs:Operand} {lo hi:Option Operand} {vx:A} {l h':Option A} {x:A} {n:Nat} (hS:vn E g n st a w) (ho:o.op=.slice t xs lo hi none) (hvx:VR w g st.O st.R vx (a.eval xs))
  (hl:M1 st.eval lo=some l) (hh:M1 st.eval hi=some h')
  (h:(DN P t vx l h').run st=some (x,st')):∃ u g' w',EP P o a w u w'∧Av E g st w x st' u g' w':=by
 have hM:=hS.mem
 have hev:∀ x y,st.eval x=some y→VR w g st.O st.R y (a.eval x):=fun x y h=>bW hS h
 unfold DN at h
 split at h
 ·rename_i s hu
  split at h
  rotate_left
  ·exact (aM h).elim
  rename_i lk hk hlk hhk
  split at h
  rotate_left
  ·exact (aM h).elim
  rename_i hc
  obtain ⟨hc1,hc2,hc3⟩:=hc
  generalize hvv:a.eval xs=vv at hvx
  cases hvx with
  | t x v h1 =>
   cases h1
   have hrun:=xM (P:=P) (w:=w) (isS:=false) (len:=s.size) (cap:=s.size) (tv hl hlk hev) (tv hh hhk hev) hc1 hc2 hc3 (Nat.le_refl _)
   refine df hM ?_ (.t _ _ (.str _)) h
   simp [execOp,ho,Instr.sliceAt,run_underlying hu,Instr.slice,hvv,hrun]
 ·rename_i e sb sz rows hu
  split at h
  rotate_left
  ·exact (aM h).elim
  rename_i m lk hk hm hlk hhk
  obtain ⟨i,hi1,hi2⟩:=lV hm
  split at h
  rotate_left
  ·exact (aM h).elim
  rename_i hc
  obtain ⟨rfl,hc1,hc2,hc3⟩:=hc
  generalize hvv:a.eval xs=vv at hvx
  cases hvx with
  | ext _ _ _ hs hd =>
   obtain ⟨ad,c,rfl,hcc,hR⟩:=hd.cut (l:=lk.toNat) (h:=hk.toNat) (by omega) (by omega)
   have hrun:=xM (P:=P) (w:=w) (isS:=true) (tv hl hlk hev) (tv hh hhk hev) hc1 hc2 hc3 hcc
   refine df hM ?_ (.ext _ _ _ hs hR) h
   simp [execOp,ho,Instr.sliceAt,run_underlying hu,Instr.slice,hvv,hrun,sizeOf,typeInfo,hi1,hi2]
 ·rename_i e hu _
  split at h
  rotate_left
  ·exact (aM h).elim
  rename_i m hm
  obtain ⟨i,hi1,hi2⟩:=lV hm
  obtain ⟨tt,st1,g1,hM1,hE1,ht1,h,hr,_⟩:=Tn hM hvx h
  split at h
  rotate_left
  ·exact (aM h).elim
  rename_i sz rows
  split at h
  rotate_left
  ·exact (aM h).elim
  rename_i lk hk hlk hhk
  split at h
  rotate_left
  ·exact (aM h).elim
  rename_i hsz
  split at h
  rotate_left
  ·exact (aM h).elim
  rename_i hc
  obtain ⟨hc1,hc2,hc3⟩:=hc
  obtain ⟨ad,c,hv,hR⟩:=hr.rds
  have hcap:rows.length≤c∨rows=[]:=by
   rw [hv] at hr
   generalize hq:rows.length=q at hr
   cases hr with
   | sl0=>exact .inr rfl
   | sl=>rename_i hc0 _ _ _ _ ; exact .inl (by omega)
  have hrun:∀ (_:rows.length≤c),(Instr.sliceBounds true rows.length c (lo.map a.eval) (hi.map a.eval) none).run P w=.ok (lk.toNat,hk.toNat,c) w:=fun hcc =>
   xM (P:=P) (w:=w) (isS:=true) (tv hl hlk hev) (tv hh hhk hev) hc1 hc2 hc3 hcc
  have hfin:∀ (_:rows.length≤c) (hszm:sz=m∨rows=[]),∃ u g' w',EP P o a w u w'∧Av E g st w x st' u g' w':=by
   intro hcc hszm
   obtain ⟨rfl,rfl⟩:=ij h
   have hx:(execOp a.eval o).run P w=.ok (.value (.slice (if c=lk.toNat then ad else ad.map (·.add (lk.toNat*m))) (hk.toNat - lk.toNat) (c - lk.toNat))) w:=by
    simp [execOp,ho,Instr.sliceAt,run_underlying hu,Instr.slice,hv,hrun hcc,sizeOf,typeInfo,hi1,hi2]
   refine ⟨_,g1,w,.inl hx,hM1,?_,hE1,ht1.tm⟩
   rw [hv] at hr
   rcases hszm with rfl | rfl
   ·exact .t _ _ (hr.cut (by omega) (by omega) hcc)
   ·have h0:hk.toNat - lk.toNat=0:=by simp at hc3; omega
    rw [h0]
    simp only [List.take_nil,List.drop_nil]
    refine .t _ _ (.sl0 _ _ _ fun hn=>?_)
    have had:ad=none:=by
     split at hn
     ·exact hn
     ·cases ad with
      | none=>rfl
      | some a=>cases hn
    generalize hq:([]:List (List T)).length=q at hr
    cases hr with
    | sl0 _ _ _ ha=>have:=ha had; omega
    | sl=>cases had
  by_cases hcc:rows.length≤c
  ·exact hfin hcc hsz
  ·rcases hcap with h9 | h9
   ·exact absurd h9 hcc
   ·subst h9; simp at hcc
 ·exact (aM h).elim
theorem YM {o:Oper} {t:TypeId} {xs:Operand} {lo:Option Operand} {vx:A} {l:Option A} {x:A} {n:Nat} (hS:vn E g n st a w) (ho:o.op=.slice t xs lo none none) (hvx:VR w g st.O st.R vx (a.eval xs))
  (hl:M1 st.eval lo=some l) (h:(SN P t vx l).run st=some (x,st')):∃ u g' w',EP P o a w u w'∧Av E g st w x st' u g' w':=by
 have hM:=hS.mem
 have hev:∀ x y,st.eval x=some y→VR w g st.O st.R y (a.eval x):=fun x y h=>bW hS h
 unfold SN at h
 split at h
 rotate_left
 ·exact (aM h).elim
 rename_i e r lk hu hlk
 split at h
 rotate_left
 ·exact (aM h).elim
 rename_i m hm
 obtain ⟨i,hi1,hi2⟩:=lV hm
 simp only [MA.run] at h
 cases hx:st.rw r with
 | none=>simp [hx,MA.run] at h
 | some xx =>
  cases xx with
  | gone=>simp [hx,MA.run] at h
  | frz sz' rows=>simp [hx,MA.run] at h
  | live e' sz' rows =>
   simp only [hx] at h
   split at h
   rotate_left
   ·exact (aM h).elim
   rename_i hc
   obtain ⟨rfl,hc1,hc2⟩:=hc
   obtain ⟨hxe,hse⟩:=ij h
   subst hxe
   have hse:=hse.symm
   subst hse
   have hR:st.R r:=by simp [St.R,hx]
   have hv:a.eval xs=g.rw r:=by
    generalize hvv:a.eval xs=vv at hvx
    cases hvx
    rfl
   obtain ⟨inner,hown,_⟩:=hM.row r _ hx
   have hfin:∀ (ad:Option Addr) (c:Nat),g.rw r=.slice ad rows.length c→rows.length≤c→(lk.toNat < rows.length→∃ b,ad=some ⟨b,0,none⟩)→∃ u g' w',EP P o a w u w'∧Av E g st w (.sub r sz' lk.toNat) st u g' w':=by
    intro ad c hg hcc had
    have hrun:(Instr.sliceBounds true rows.length c (lo.map a.eval) ((none:Option Operand).map a.eval) none).run P w=.ok (lk.toNat,(rows.length:Int).toNat,c) w :=
     xM (P:=P) (w:=w) (isS:=true) (hi:=none) (tv hl hlk hev) (.inl ⟨rfl,rfl⟩) hc1 hc2 (by omega) hcc
    have hx:(execOp a.eval o).run P w=.ok (.value (.slice (if c=lk.toNat then ad else ad.map (·.add (lk.toNat*sz'))) (rows.length - lk.toNat) (c - lk.toNat))) w:=by
     simp only [Option.map_none,Int.toNat_natCast] at hrun
     simp [execOp,ho,Instr.sliceAt,run_underlying hu,Instr.slice,hv,hg,hrun,sizeOf,typeInfo,hi1,hi2]
    refine ⟨_,g,w,.inl hx,hM,.sub r sz' lk.toNat rows.length c _ ad _ hR hg (fun hlt=>?_),sN.refl _ _ _ _,rfl⟩
    obtain ⟨b,rfl⟩:=had hlt
    refine ⟨b,rfl,?_⟩
    rw [if_neg (by omega)]
    simp only [Option.map_some,add_lit,Nat.zero_add]
   rcases hown.2 with ⟨hv0,hn0⟩ | ⟨b,cap,cur,hv0,_,hh,hnc,_⟩
   ·have:rows.length=0:=hn0
    exact hfin none 0 (by rw [hv0,this]) (by omega) (fun hlt=>by omega)
   ·exact hfin (some ⟨b,0,none⟩) cap hv0 hnc (fun _=>⟨b,rfl⟩)
theorem YN {o:Oper} {t:TypeId} {xs:Operand} {lo hi:Option Operand} {vx:A} {l h':Option A} {x:A} {n:Nat} (hS:vn E g n st a w) (ho:o.op=.slice t xs lo hi none) (hvx:VR w g st.O st.R vx (a.eval xs))
  (hl:M1 st.eval lo=some l) (hh:M1 st.eval hi=some h') (h:(SO P t vx l h').run st=some (x,st')):∃ u g' w',EP P o a w u w'∧Av E g st w x st' u g' w':=by
 have hM:=hS.mem
 have hev:∀ x y,st.eval x=some y→VR w g st.O st.R y (a.eval x):=fun x y h=>bW hS h
 unfold SO at h
 split at h
 rotate_left
 ·exact (aM h).elim
 rename_i e r lk hu hlk
 split at h
 rotate_left
 ·exact (aM h).elim
 rename_i hm
 obtain ⟨i,hi1,hi2⟩:=lV hm
 simp only [MA.run] at h
 cases hx:st.rw r with
 | none=>simp [hx,MA.run] at h
 | some xx =>
  cases xx with
  | gone=>simp [hx,MA.run] at h
  | frz sz' rows=>simp [hx,MA.run] at h
  | live e' sz' rows =>
   simp only [hx] at h
   split at h
   rotate_left
   ·exact (aM h).elim
   rename_i hk hhk
   split at h
   rotate_left
   ·exact (aM h).elim
   rename_i hc
   obtain ⟨rfl,hc1,hc2,hc3⟩:=hc
   obtain ⟨hxe,hse⟩:=ij h
   subst hxe
   have hse:=hse.symm
   subst hse
   have hR:st.R r:=by simp [St.R,hx]
   have hv:a.eval xs=g.rw r:=by
    generalize hvv:a.eval xs=vv at hvx
    cases hvx
    rfl
   obtain ⟨inner,hown,_⟩:=hM.row r _ hx
   have hfin:∀ (ad:Option Addr) (c:Nat),g.rw r=.slice ad rows.length c→rows.length≤c→(lk.toNat < rows.length→∃ b,ad=some ⟨b,0,none⟩)→∃ u g' w',EP P o a w u w'∧Av E g st w (.win r lk.toNat (hk - lk).toNat) st u g' w':=by
    intro ad c hg hcc had
    have hrun:=xM (P:=P) (w:=w) (isS:=true) (tv hl hlk hev) (tv hh hhk hev) hc1 hc2 hc3 hcc
    have hx:(execOp a.eval o).run P w=.ok (.value (.slice (if c=lk.toNat then ad else ad.map (·.add (lk.toNat*1))) (hk.toNat - lk.toNat) (c - lk.toNat))) w:=by
     simp [execOp,ho,Instr.sliceAt,run_underlying hu,Instr.slice,hv,hg,hrun,sizeOf,typeInfo,hi1,hi2]
    rw [show hk.toNat - lk.toNat=(hk - lk).toNat by omega] at hx
    refine ⟨_,g,w,.inl hx,hM,.win r lk.toNat (hk - lk).toNat rows.length c _ ad _ hR hg (by omega) (fun hlt=>?_),sN.refl _ _ _ _,rfl⟩
    obtain ⟨b,rfl⟩:=had (by omega)
    refine ⟨b,rfl,?_⟩
    rw [if_neg (by omega)]
    simp only [Option.map_some,add_lit,Nat.zero_add,Nat.mul_one]
   rcases hown.2 with ⟨hv0,hn0⟩ | ⟨b,cap,cur,hv0,_,hh,hnc,_⟩
   ·have:rows.length=0:=hn0
    exact hfin none 0 (by rw [hv0,this]) (by omega) (fun hlt=>by omega)
   ·exact hfin (some ⟨b,0,none⟩) cap hv0 hnc (fun _=>⟨b,rfl⟩)
theorem W8 {o:Oper} {t:TypeId} {xs:Operand} {hi:Option Operand} {vx:A} {h':Option A} {x:A} {n:Nat} (hS:vn E g n st a w) (ho:o.op=.slice t xs none hi none) (hvx:VR w g st.O st.R vx (a.eval xs))
  (hh:M1 st.eval hi=some h') (h:(IW P o.dst t vx h').run st=some (x,st')):∃ u g' w',EP P o a w u w'∧Av E g st w x st' u g' w':=by
 have hM:=hS.mem
 have hev:∀ x y,st.eval x=some y→VR w g st.O st.R y (a.eval x):=fun x y h=>bW hS h
 unfold IW at h
 split at h
 rotate_left
 ·exact (aM h).elim
 rename_i e r kk hk d hu hd
 split at h
 rotate_left
 ·exact (aM h).elim
 rename_i m hm
 obtain ⟨i,hi1,hi2⟩:=lV hm
 simp only [MA.run] at h
 cases hx:st.rw r with
 | none=>simp [hx,MA.run] at h
 | some xx =>
  cases xx with
  | gone=>simp [hx,MA.run] at h
  | frz sz' rows=>simp [hx,MA.run] at h
  | live e' sz' rows =>
   simp only [hx] at h
   split at h
   rotate_left
   ·exact (aM h).elim
   rename_i hc
   obtain ⟨rfl,hc1,hc2⟩:=hc
   simp only [MA.run] at h
   have hL:st.L r:=⟨_,_,_,hx⟩
   have hv:a.eval xs=g.rw r:=by
    generalize hvv:a.eval xs=vv at hvx
    cases hvx
    rfl
   obtain ⟨inner,hown,hR,hf⟩:=(hM.row r _ hx).rcs
   obtain ⟨hM1,hE1⟩:=hM.gone_row r _ hx
   have hkl:hk.toNat≤rows.length:=by omega
   have hfree:∀ b,(g.rw r).ownBlock=some b→¬ g.F b∧(∀ s,st.O s→g.ob s≠b)∧(∀ r',({ st with rw:=iw st.rw r (some .gone) }:St).L r'→(g.rw r').ownBlock≠some b):=fun b hb =>
    ⟨(hM.row_nf hL hb).1,fun s hs he=>hM.rowob r s hL hs (he ▸ hb),fun r' hr' he=>by
     rcases B5.1 hr' with ⟨rfl,_,_,_,hx⟩ | ⟨h3,h4⟩
     ·cases hx
     ·exact h3 (hM.rowne r' r b h4 hL he hb)⟩
   have hRC:BB w g.F sz' (rows.take hk.toNat) (inner.take (hk.toNat*sz')):=by
    refine ⟨?_,fun i row hi=>hR.len i row (by rw [List.getElem?_take] at hi; split at hi <;> first | exact hi | cases hi),fun i row j x hi hj=>?_⟩
    ·rw [List.length_take,List.length_take,hR.size,Nat.min_eq_left hkl,Nat.min_eq_left (Nat.mul_le_mul_right _ hkl)]
    ·rw [List.getElem?_take] at hi
     split at hi
     rotate_left
     ·cases hi
     rename_i hlt
     obtain ⟨u,hu,ho1,hr⟩:=hR.rd i row j x hi hj
     refine ⟨u,?_,ho1,hr⟩
     have hjl:j < sz':=by rw [← hR.len i row hi]; exact (List.getElem?_eq_some_iff.1 hj).1
     have h3:(i+1)*sz'≤hk.toNat*sz':=Nat.mul_le_mul_right _ hlt
     rw [Nat.succ_mul] at h3
     rw [List.getElem?_take,if_pos (by omega)]
     exact hu
   have hfin:∀ (ad:Option Addr) (c:Nat),g.rw r=.slice ad rows.length c→rows.length≤c→w.ownsRow 0 e' sz' (.slice ad hk.toNat c) (rows.take hk.toNat).length (inner.take (hk.toNat*sz'))→(Value.slice ad hk.toNat c).ownBlock=(g.rw r).ownBlock →
     ∃ u g' w',EP P o a w u w'∧Av E g st w x st' u g' w':=by
    intro ad c hg hcc hown' hob
    have hrun:(Instr.sliceBounds true rows.length c ((none:Option Operand).map a.eval) (hi.map a.eval) none).run P w=.ok ((0:Int).toNat,hk.toNat,c) w :=
     xM (P:=P) (w:=w) (lo:=none) (isS:=true) (.inl ⟨rfl,rfl⟩) (tv hh rfl hev) (by omega) (by omega) (by omega) hcc
    have hx2:(execOp a.eval o).run P w=.ok (.value (.slice ad hk.toNat c)) w:=by
     have h0:(0:Int).toNat=0:=rfl
     rw [h0] at hrun
     simp only [Option.map_none] at hrun
     simp [execOp,ho,Instr.sliceAt,run_underlying hu,Instr.slice,hv,hg,hrun,sizeOf,typeInfo,hi1,hi2]
     try (intro hc0; cases ad <;> simp [Addr.add_zero'])
    obtain ⟨g',hA⟩:=Hm hM1 h (.slice ad hk.toNat c) (sO.refl w) (fun b=>(g.rw r).ownBlock=some b) (fun _ _ _=>rfl) (fun b hb=>by rw [← hob]; exact hb) (fun b h1 hp=>(hM.row_nf hL hp).2.elim (fun h2=>by omega) id) hfree
     (hRC.rowAt (E:=E) (g:=g) hown' (fun b hb=>hM.row_nf hL (by rw [← hob]; exact hb)))
    exact ⟨_,g',w,.inl hx2,hA.mem,hA.vr,hE1.trans hA.ext,hA.tm⟩
   rcases hown.2 with ⟨hv0,hn0⟩ | ⟨b,cap,cur,hv0,hb0,hh0,hnc,hcm,hcs,htk⟩
   ·have h0:rows.length=0:=hn0
    have h1:hk.toNat=0:=by omega
    refine hfin none 0 (by rw [hv0,h0]) (by omega) ⟨?_,.inl ⟨by rw [h1],by simp [h1]⟩⟩ (by rw [hv0]; rfl)
    simp [h1]
   ·refine hfin (some ⟨b,0,none⟩) cap hv0 hnc ⟨hRC.size,.inr ⟨b,cap,cur,by rw [List.length_take,Nat.min_eq_left hkl],hb0,hh0,?_,hcm,hcs,?_⟩⟩ (by rw [hv0]; rfl)
    ·rw [List.length_take,Nat.min_eq_left hkl]; omega
    ·rw [List.length_take,Nat.min_eq_left hkl,← htk,List.take_take,Nat.min_eq_left (Nat.mul_le_mul_right _ hkl)]
theorem RO {o:Oper} {s f off:Nat} {t:TypeId} {y:Operand} {v x:A} {n:Nat} (hS:vn E g n st a w) (ho:o.op=.fieldAddr s y f) (hv:VR w g st.O st.R v (a.eval y)) (hf:IU P s f=some (off,t))
  (h:(Pb v off).run st=some (x,st')):∃ u g' w',EP P o a w u w'∧Av E g st w x st' u g' w':=by
 have hM:=hS.mem
 obtain ⟨fs,fl,m,i,hu,hfl,h1,h2,h3,h4,h5,h6⟩:=Mt hf
 have run:∀ (b k:Nat),a.eval y=.pointer (some ⟨b,k,none⟩)→(execOp a.eval o).run P w=.ok (.value (.pointer (some ⟨b,k+off,none⟩))) w:=by
  intro b k he
  simp [execOp,ho,Instr.fieldAt,run_underlying hu,hfl,Instr.sureAddr,he,fieldPlace,sizeOf,typeInfo,h2,h5,h6,h4,h1,add_lit]
 generalize hvv:a.eval y=vv at hv run
 unfold Pb at h
 cases hv with
 | obj s' k hs=>exact df hM (run _ _ rfl) (.obj s' (k+off) hs) h
 | elem r sz ix k b nn c hr he => 
  refine df hM (run _ _ rfl) ?_ h
  rw [Nat.add_assoc]
  exact .elem r sz ix (k+off) b nn c hr he
 | fadr cells b k u hF hx hr =>
  refine df hM (run _ _ rfl) (.fadr _ b (k+off) (fun j=>u (off+j)) hF (fun j z hz=>?_) (fun j z hz=>?_)) h
  ·rw [List.getElem?_drop] at hz
   rw [Nat.add_assoc]
   exact hx _ z hz
  ·rw [List.getElem?_drop] at hz
   exact hr _ z hz
 | exa s cells b k u hs hD hx hr =>
  refine df hM (run _ _ rfl) (.exa s _ b (k+off) (fun j=>u (off+j)) hs hD (fun j z hz=>?_) (fun j z hz=>?_)) h
  ·rw [List.getElem?_drop] at hz
   rw [Nat.add_assoc]
   exact hx _ z hz
  ·rw [List.getElem?_drop] at hz
   exact hr _ z hz
 | _=>exact (aM h).elim
theorem RP {o:Oper} {t:TypeId} {y z:Operand} {v vi x:A} {n:Nat} (hS:vn E g n st a w) (ho:o.op=.indexAddr t y z) (hv:VR w g st.O st.R v (a.eval y)) (hvi:VR w g st.O st.R vi (a.eval z))
  (h:(nP P t v vi).run st=some (x,st')):∃ u g' w',EP P o a w u w'∧Av E g st w x st' u g' w':=by
 have hM:=hS.mem
 unfold nP at h
 split at h
 rotate_left
 ·exact (aM h).elim
 rename_i e kk ix hu
 split at h
 rotate_left
 ·exact (aM h).elim
 rename_i m hm
 obtain ⟨i,hi1,hi2⟩:=lV hm
 have hz:a.eval z=.int kk ix:=by
  generalize hvv:a.eval z=vv at hvi
  cases hvi with
  | t x v h1=>cases h1; rfl
 have run:∀ (b off len c:Nat),a.eval y=.slice (some ⟨b,off,none⟩) len c→0≤ix→ix.toNat < len→(execOp a.eval o).run P w=.ok (.value (.pointer (some ⟨b,off+ix.toNat*m,none⟩))) w:=by
  intro b off len c he h0 h1
  have h2:ix < (len:Int):=by omega
  simp [execOp,ho,Instr.indexAt,hz,asIntOf,run_underlying hu,he,h0,h2,sizeOf,typeInfo,hi1,hi2,add_lit]
 have frz:∀ (sz:Nat) (rows:List (List T)) (vv:Value),a.eval y=vv→Rd w g.F (.sl sz rows) vv→(DM m ix sz rows).run st=some (x,st')→∃ u g' w',EP P o a w u w'∧Av E g st w x st' u g' w':=by
  intro sz rows vv hvv hr hq
  unfold DM at hq
  split at hq
  rotate_left
  ·exact (aM hq).elim
  rename_i hc
  obtain ⟨hsz,h0⟩:=hc
  subst hsz
  split at hq
  rotate_left
  ·exact (aM hq).elim
  rename_i row hrow
  have hlt:ix.toNat < rows.length:=(List.getElem?_eq_some_iff.1 hrow).1
  cases hr with
  | sl0=>simp at hlt
  | sl sz rows b off c u hc hF hs hx hr =>
   exact df hM (run b off rows.length c hvv h0 hlt) (.fadr row b (off+ix.toNat*sz) (fun j=>u ix.toNat j) hF (fun j z hz=>hx _ row j z hrow hz) (fun j z hz=>hr _ row j z hrow hz)) hq
 generalize hvv:a.eval y=vv at hv run frz
 split at h
 ·rename_i sz rows
  cases hv with
  | t x v h1=>exact frz sz rows _ rfl h1 h
 ·rename_i s sz rows
  cases hv with
  | ext _ _ _ hs h1 =>
  unfold Pc at h
  split at h
  rotate_left
  ·exact (aM h).elim
  rename_i hc
  obtain ⟨hsz,h0⟩:=hc
  subst hsz
  split at h
  rotate_left
  ·exact (aM h).elim
  rename_i row hrow
  have hlt:ix.toNat < rows.length:=(List.getElem?_eq_some_iff.1 hrow).1
  cases h1 with
  | sl0=>simp at hlt
  | sl sz rows b off c u hc hF hs' hx hr =>
   exact df hM (run b off rows.length c rfl h0 hlt) (.exa s row b (off+ix.toNat*sz) (fun j=>u ix.toNat j) hs hF (fun j z hz=>hx _ row j z hrow hz) (fun j z hz=>hr _ row j z hrow hz)) h
 ·rename_i r
  simp only [MA.run] at h
  cases hx:st.rw r with
  | none=>simp [hx,MA.run] at h
  | some xx =>
   have hRr:st.R r:=by simp [St.R,hx]
   have hgv:g.rw r=vv:=by cases hv; rfl
   cases xx with
   | live e' sz rows =>
    simp only [hx] at h
    split at h
    rotate_left
    ·exact (aM h).elim
    rename_i hc
    obtain ⟨hsz,h0,hlt⟩:=hc
    subst hsz
    obtain ⟨inner,hown,_⟩:=hM.row r _ hx
    rw [hgv] at hown
    rcases hown.2 with ⟨h9,h8⟩ | ⟨b',cap,cur,h9,_⟩
    ·omega
    ·have hr9:=run b' 0 rows.length cap h9 h0 hlt
     rw [Nat.zero_add] at hr9
     exact df hM hr9 (.elem r sz ix.toNat 0 b' rows.length cap hRr (hgv.trans h9)) h
   | frz sz rows =>
    simp only [hx] at h
    exact frz sz rows vv rfl (hgv ▸ hM.row r _ hx) h
   | gone=>simp [hx,MA.run] at h
 ·exact (aM h).elim
end
end Go.Tm
namespace Go.Tm
open Go.RowKit
section
variable {P:Program} {E:En} {g:Gh} {st st':St} {a:Act} {w:World}
theorem VR.int {k:IntKind} {n:Int} {v:Value} {O R:Nat→Prop} (h:VR w g O R (.t (.int k n)) v):v=.int k n:=by cases h with | t x v h=>cases h; rfl
theorem VR.bool {b:Bool} {v:Value} {O R:Nat→Prop} (h:VR w g O R (.t (.bool b)) v):v=.bool b:=by cases h with | t x v h=>cases h; rfl
theorem VR.str {s:ByteArray} {v:Value} {O R:Nat→Prop} (h:VR w g O R (.t (.str s)) v):v=.string s:=by cases h with | t x v h=>cases h; rfl
theorem VR.tnum {x:T} {v:Value} {O R:Nat→Prop} (h:VR w g O R (.t x) v):Rd w g.F x v:=by cases h with | t x v h=>exact h
theorem YO {op:BinOp} {t:TypeId} {x y z:T} {vx vy:Value} {ox oy:Operand} (h:EO (isB P t) op x y=some z) (hx:Rd w g.F x vx) (hy:Rd w g.F y vy) :
  ∃ v,((do eqGuard op t ox oy vx vy; binOp op t vx vy):Sem Value).run P w=.ok v w∧Rd w g.F z v:=by
 cases hx with
 | int k n =>
  cases hy with
  | int k' m =>
   have hg:(eqGuard op t ox oy (.int k n) (.int k' m)).run P w=.ok () w:=by cases op <;> simp [eqGuard]
   simp only [Sem.run_bind,hg,Result.andThen_ok]
   cases op with
   | shl =>
    simp only [EO] at h
    split at h
    ·rename_i h0; cases h
     exact ⟨_,by simp [binOp,Op.shift,show ¬ m < 0 by omega],.int _ _⟩
    ·cases h
   | shr =>
    simp only [EO] at h
    split at h
    ·rename_i h0; cases h
     exact ⟨_,by simp [binOp,Op.shift,show ¬ m < 0 by omega],.int _ _⟩
    ·cases h
   | quo =>
    simp only [EO] at h
    split at h
    rotate_left
    ·cases h
    rename_i hk; subst hk
    split at h
    ·cases h
    rename_i h0; cases h
    exact ⟨_,by simp [binOp,Op.intDiv,h0],.int _ _⟩
   | rem =>
    simp only [EO] at h
    split at h
    rotate_left
    ·cases h
    rename_i hk; subst hk
    split at h
    ·cases h
    rename_i h0; cases h
    exact ⟨_,by simp [binOp,Op.intDiv,h0],.int _ _⟩
   | add=>simp only [EO] at h; split at h; (rename_i hk; subst hk; cases h; exact ⟨_,by simp [binOp,Op.intArith],.int _ _⟩); cases h
   | sub=>simp only [EO] at h; split at h; (rename_i hk; subst hk; cases h; exact ⟨_,by simp [binOp,Op.intArith],.int _ _⟩); cases h
   | mul=>simp only [EO] at h; split at h; (rename_i hk; subst hk; cases h; exact ⟨_,by simp [binOp,Op.intArith],.int _ _⟩); cases h
   | and=>simp only [EO] at h; split at h; (rename_i hk; subst hk; cases h; exact ⟨_,by simp [binOp,Op.intBits],.int _ _⟩); cases h
   | or=>simp only [EO] at h; split at h; (rename_i hk; subst hk; cases h; exact ⟨_,by simp [binOp,Op.intBits],.int _ _⟩); cases h
   | xor=>simp only [EO] at h; split at h; (rename_i hk; subst hk; cases h; exact ⟨_,by simp [binOp,Op.intBits],.int _ _⟩); cases h
   | andNot=>simp only [EO] at h; split at h; (rename_i hk; subst hk; cases h; exact ⟨_,by simp [binOp,Op.intBits],.int _ _⟩); cases h
   | eql=>simp only [EO] at h; split at h; (rename_i hk; subst hk; cases h; exact ⟨_,by simp [binOp,Op.intCmp],.bool _⟩); cases h
   | neq=>simp only [EO] at h; split at h; (rename_i hk; subst hk; cases h; exact ⟨_,by simp [binOp,Op.intCmp],.bool _⟩); cases h
   | lss=>simp only [EO] at h; split at h; (rename_i hk; subst hk; cases h; exact ⟨_,by simp [binOp,Op.intCmp],.bool _⟩); cases h
   | leq=>simp only [EO] at h; split at h; (rename_i hk; subst hk; cases h; exact ⟨_,by simp [binOp,Op.intCmp],.bool _⟩); cases h
   | gtr=>simp only [EO] at h; split at h; (rename_i hk; subst hk; cases h; exact ⟨_,by simp [binOp,Op.intCmp],.bool _⟩); cases h
   | geq=>simp only [EO] at h; split at h; (rename_i hk; subst hk; cases h; exact ⟨_,by simp [binOp,Op.intCmp],.bool _⟩); cases h
  | _=>simp [EO] at h
 | str s =>
  cases hy with
  | str s' =>
   have hg:(eqGuard op t ox oy (.string s) (.string s')).run P w=.ok () w:=by cases op <;> simp [eqGuard]
   simp only [Sem.run_bind,hg,Result.andThen_ok]
   cases op with
   | add =>
    simp only [EO] at h
    split at h
    ·rename_i h0; cases h
     refine ⟨_,?_,.str _⟩
     have:¬ ((s.size+s'.size:Nat):Int) > IntKind.i64.max:=by
      have:IntKind.i64.max=9223372036854775807:=by decide
      omega
     simp only [binOp,Op.stringOp,this,if_false]
     rfl
    ·cases h
   | eql=>simp only [EO,Option.some.injEq] at h; subst h; exact ⟨_,by simp [binOp,Op.stringOp],.bool _⟩
   | neq=>simp only [EO,Option.some.injEq] at h; subst h; exact ⟨_,by simp [binOp,Op.stringOp],.bool _⟩
   | _=>simp [EO] at h
  | _=>simp [EO] at h
 | bool b =>
  cases hy with
  | bool b' =>
   have hg:(eqGuard op t ox oy (.bool b) (.bool b')).run P w=.ok () w:=by cases op <;> simp [eqGuard]
   simp only [Sem.run_bind,hg,Result.andThen_ok]
   simp only [EO] at h
   split at h
   rotate_left
   ·cases h
   rename_i htb
   have hu:P.underlying t=some .bool:=by
    unfold isB at htb
    split at htb
    ·rename_i h; exact h
    ·cases htb
   cases op with
   | eql=>simp only [Option.some.injEq] at h; subst h; exact ⟨_,run_eql_bool w t b b' hu,.bool _⟩
   | neq=>simp only [Option.some.injEq] at h; subst h; exact ⟨_,run_neq_bool w t b b' hu,.bool _⟩
   | _=>simp at h
  | _=>simp [EO] at h
 | _=>simp [EO] at h
theorem XS {xs:List A} {ns:List Int} {vs:List Value} (h:Vm xs=some ns) (hl:xs.length=vs.length) (hv:∀ (i:Nat) (x:A) (v:Value),xs[i]?=some x→vs[i]?=some v→VR w g st.O st.R x v):vs=ns.map (.int .i64):=by
 induction xs generalizing ns vs with
 | nil=>simp [Vm] at h; subst h; exact List.eq_nil_of_length_eq_zero hl.symm
 | cons x xs ih =>
  obtain ⟨v,vs,rfl⟩:∃ v vs',vs=v :: vs':=by
   cases vs with
   | nil=>simp at hl
   | cons v vs=>exact ⟨v,vs,rfl⟩
  unfold Vm at h
  split at h
  ·rename_i heq; cases heq
  ·rename_i n r heq
   injection heq with h1 h2
   subst h1 h2
   split at h
   ·rename_i l hl'
    cases h
    have:=(hv 0 _ v rfl rfl).int
    subst this
    rw [ih (vs:=vs) hl' (by simpa using hl) (fun i x v h1 h2=>hv (i+1) x v (by simpa using h1) (by simpa using h2))]
    rfl
   ·cases h
  ·cases h
theorem Ut (d:Nat) (xs ys:List Int):∀ (fs:List Field) (k:Nat),YH P k fs=true→xs.length=k+fs.length→ys.length=k+fs.length →
  (Op.eqFields (d+1) (xs.map (Value.int .i64)).toArray (ys.map (Value.int .i64)).toArray fs).run P w=.ok (xs.drop k == ys.drop k) w
 | [],k,_,hx,hy=>by
  rw [List.drop_of_length_le (by simp at hx; omega),List.drop_of_length_le (by simp at hy; omega)]
  simp [Op.eqFields]
 | f :: fs,k,h,hx,hy=>by
  simp only [YH,Bool.and_eq_true,bne_iff_ne,beq_iff_eq] at h
  obtain ⟨⟨⟨h1,h2⟩,h3⟩,h4⟩:=h
  have hu:P.underlying f.type=some (.int .i64):=by
   split at h3
   ·assumption
   ·cases h3
  simp only [List.length_cons] at hx hy
  have hkx:k < xs.length:=by omega
  have hky:k < ys.length:=by omega
  have px:(Go.part f.type (xs.map (Value.int .i64)).toArray f.offset).run P w=.ok (.int .i64 xs[k]) w:=by simp [Go.part,isAgg,run_underlying hu,h2,hkx]
  have py:(Go.part f.type (ys.map (Value.int .i64)).toArray f.offset).run P w=.ok (.int .i64 ys[k]) w:=by simp [Go.part,isAgg,run_underlying hu,h2,hky]
  have he:=run_equalIn_int (P:=P) w d f.type .i64 .i64 xs[k] ys[k] hu
  have ih:=Ut d xs ys fs (k+1) h4 (by omega) (by omega)
  have ex:(xs.drop k == ys.drop k)=((xs[k] == ys[k]) && (xs.drop (k+1) == ys.drop (k+1))):=by
   rw [List.drop_eq_getElem_cons hkx,List.drop_eq_getElem_cons hky]; rfl
  rw [ex]
  simp only [Op.eqFields,if_pos h1,Sem.run_bind,px,py,he,Result.andThen_ok]
  generalize (xs[k] == ys[k])=q
  cases q
  ·simp
  ·simpa using ih
theorem Uu {t:TypeId} {n:Nat} {xs ys:List Int} (h:Zw P t=some n) (hx:xs.length=n) (hy:ys.length=n) (op:BinOp) (ox oy:Operand) :
  (eqGuard op t ox oy (.agg (xs.map (Value.int .i64)).toArray) (.agg (ys.map (Value.int .i64)).toArray)).run P w=.ok () w ∧
  (Op.equalIn 10000 t (.agg (xs.map (Value.int .i64)).toArray) (.agg (ys.map (Value.int .i64)).toArray)).run P w=.ok (xs == ys) w:=by
 unfold Zw at h
 split at h
 rotate_left
 ·cases h
 rename_i fs hu
 split at h
 rotate_left
 ·cases h
 rename_i hc
 simp only [Option.some.injEq] at h
 simp only [Bool.and_eq_true,Bool.not_eq_true'] at hc
 obtain ⟨⟨h1,h2⟩,h3⟩:=hc
 have hf:P.fieldsOf t=fs:=by simp [Program.fieldsOf,hu]
 refine ⟨run_eqGuard_agg w op t ox oy _ _ h2,?_⟩
 have:=run_equalIn_struct (P:=P) w 9999 t (xs.map (Value.int .i64)).toArray (ys.map (Value.int .i64)).toArray (by rw [hf]; exact hu) h1
 rw [this,hf]
 have h5:=Ut (P:=P) (w:=w) 9998 xs ys fs.toList 0 h3 (by simp; omega) (by simp; omega)
 simpa using h5
theorem I2 {xs:List A} {ns:List Int} {v:Value} (h:Vm xs=some ns) (hv:VR w g st.O st.R (.agg xs) v):v=.agg (ns.map (Value.int .i64)).toArray:=by
 cases hv with
 | agg l vs hl hx=>rw [XS h hl hx]
theorem Pi:∀ {rows:List (List T)} {l:List Int},EU rows=some l→l.length=rows.length∧∀ (i:Nat) (row:List T),rows[i]?=some row→row=[.int .u8 (l.getD i 0)]
 | [],l,h=>by simp [EU] at h; subst h; simp
 | r :: rows,l,h=>by
  unfold EU at h
  split at h
  ·rename_i heq; cases heq
  ·rename_i n rs heq
   injection heq with h1 h2
   subst h1 h2
   split at h
   ·rename_i l' hl'
    cases h
    obtain ⟨h3,h4⟩:=Pi hl'
    refine ⟨by simp [h3],fun i row hr=>?_⟩
    cases i with
    | zero=>simp at hr; simpa using hr.symm
    | succ i=>simpa using h4 i row (by simpa using hr)
   ·cases h
  ·cases h
theorem BB.take1 {F:Nat→Prop} {rows:List (List T)} {cs:List Value} (h:BB w F 1 rows cs) (k:Nat):BB w F 1 (rows.take k) (cs.take k):=by
 have hs:=h.size
 refine ⟨by simp; omega,fun i row hi=>h.len i row (by rw [List.getElem?_take] at hi; split at hi <;> simp_all),fun i row j x hi hj=>?_⟩
 rw [List.getElem?_take] at hi
 split at hi
 ·rename_i hlt
  have hlen:=h.len i row hi
  have hj0:j < row.length:=(List.getElem?_eq_some_iff.1 hj).1
  obtain ⟨u,hu,ho,hr⟩:=h.rd i row j x hi hj
  exact ⟨u,by rw [List.getElem?_take,if_pos (by omega)]; exact hu,ho,hr⟩
 ·cases hi
theorem BB.drop1 {F:Nat→Prop} {rows:List (List T)} {cs:List Value} (h:BB w F 1 rows cs) (k:Nat):BB w F 1 (rows.drop k) (cs.drop k):=by
 have hs:=h.size
 refine ⟨by simp; omega,fun i row hi=>h.len (k+i) row (by rw [List.getElem?_drop] at hi; exact hi),fun i row j x hi hj=>?_⟩
 rw [List.getElem?_drop] at hi
 obtain ⟨u,hu,ho,hr⟩:=h.rd (k+i) row j x hi hj
 exact ⟨u,by rw [List.getElem?_drop,show k+(i*1+j)=(k+i)*1+j by omega]; exact hu,ho,hr⟩
theorem Pj {r lo:Nat} {e:TypeId} {rows ys:List (List T)} {cs:List Value} (hM:fy E g st w) (hx:st.rw r=some (.live e 1 rows)) (hl:cs.length=ys.length) (hfit:lo+ys.length≤rows.length) (hpos:0 < ys.length) (hY:BB w g.F 1 ys cs) :
  ∃ b c cur,g.rw r=.slice (some ⟨b,0,none⟩) rows.length c∧w.heap[b]?=some (.cells cur e (0,0))∧lo+cs.length≤cur.size ∧
   (fy E g { st with rw:=iw st.rw r (some (.live e 1 (rows.take lo++ys++rows.drop (lo+ys.length)))) } (w.setRow b (cur.toList.take lo++cs++cur.toList.drop (lo+cs.length)).toArray) ∧
   sN w (w.setRow b (cur.toList.take lo++cs++cur.toList.drop (lo+cs.length)).toArray) g g st.O st.R ({ st with rw:=iw st.rw r (some (.live e 1 (rows.take lo++ys++rows.drop (lo+ys.length)))) }:St).O ({ st with rw:=iw st.rw r (some (.live e 1 (rows.take lo++ys++rows.drop (lo+ys.length)))) }:St).R):=by
 have hL:st.L r:=⟨_,_,_,hx⟩
 obtain ⟨inner,hown,hR,hfree⟩:=(hM.row r _ hx).rcs
 rcases hown.2 with ⟨hv,hn0⟩ | ⟨b,cap,cur,hv,_,hh,hnc,hcm,hcs,htake⟩
 ·omega
 ·have hil:inner.length=rows.length:=by have:=hown.1; omega
  have hcur:rows.length≤cur.size:=by omega
  refine ⟨b,cap,cur,hv,hh,by omega,?_⟩
  have hn':(rows.take lo++ys++rows.drop (lo+ys.length)).length=rows.length:=by simp; omega
  have hrow:sI E.w0 (w.setRow b (cur.toList.take lo++cs++cur.toList.drop (lo+cs.length)).toArray) E.X g.F (g.rw r) (.live e 1 (rows.take lo++ys++rows.drop (lo+ys.length))):=by
   have hS1:Cp g.F w (w.setRow b (cur.toList.take lo++cs++cur.toList.drop (lo+cs.length)).toArray):=fun k hk=>setRow_other w b k _ (fun e=>(hfree b (by rw [hv]; rfl)).1 (e ▸ hk))
   refine ((((hR.take1 lo).app hY).app (hR.drop1 (lo+ys.length))).mono hS1 (fun _ h=>h)).rowAt ?_ hfree
   refine ⟨by simp; omega,.inr ⟨b,cap,_,by rw [hn']; exact hv,Nat.zero_le _,setRow_heap w _ cur _ e _ hh,by rw [hn']; exact hnc,hcm,by simp; omega,?_⟩⟩
   rw [hn',← htake]
   have e1:(cur.toList.take (rows.length*1)).take lo=cur.toList.take lo:=by rw [List.take_take]; congr 1; omega
   have e2:(cur.toList.take (rows.length*1)).drop (lo+ys.length)=(cur.toList.drop (lo+cs.length)).take (rows.length*1 - (lo+cs.length)):=by rw [List.drop_take,hl]
   rw [e1,e2]
   simp only [List.append_assoc]
   rw [List.take_append,List.take_append]
   have h1:(cur.toList.take lo).length=lo:=by simp; omega
   rw [h1,List.take_of_length_le (show (cur.toList.take lo).length≤_ by rw [h1]; omega),List.take_of_length_le (show cs.length≤_ by omega)]
   congr 3
   omega
  refine hM.set_row (w':=w.setRow b (cur.toList.take lo++cs++cur.toList.drop (lo+cs.length)).toArray) ⟨rfl,rfl,rfl,by simp [World.setRow]⟩ r _ e 1 _ hx hL (fun k hk hne=>setRow_other w b k _ (fun he=>hne (by rw [hv]; simp [Value.ownBlock,he]))) hrow
theorem OW {r:Nat} {x:Vl} (h:st.rw r=some x):({ st with rw:=iw st.rw r (some x) }:St)=st:=by
 have:iw st.rw r (some x)=st.rw:=by
  funext i
  unfold iw
  split
  ·rename_i h0; rw [h0,h]
  ·rfl
 rw [this]
theorem W9 {o:Oper} {xs ys:Operand} {x vy:A} {t t':TypeId} {r lo m n:Nat} (hS:vn E g n st a w) (ho:o.op=.call { callee:=.builtin .copy,args:=#[xs,ys],argTypes:=#[t,t'] }) (hvx:VR w g st.O st.R (.win r lo m) (a.eval xs)) (hvy:VR w g st.O st.R vy (a.eval ys))
  (h:(IX P t r lo m vy).run st=some (x,st')):∃ u g' w',EP P o a w u w'∧Av E g st w x st' u g' w':=by
 have hM:=hS.mem
 unfold IX at h
 split at h
 rotate_left
 ·exact (aM h).elim
 rename_i e hu
 split at h
 rotate_left
 ·exact (aM h).elim
 rename_i hk1
 obtain ⟨i,hi1,hi2⟩:=lV hk1
 have hsz1:(P.info? e).map (·.size)=some 1:=by rw [hi1]; simp [hi2]
 obtain ⟨rows2,sz,ad,c,h,hyv,hY⟩:=EW hM hvy h
 split at h
 rotate_left
 ·exact (aM h).elim
 rename_i hsz0
 obtain ⟨hsz,hlm⟩:=hsz0
 simp only [MA.run] at h
 cases hx:st.rw r with
 | none=>simp [hx,MA.run] at h
 | some xx =>
  cases xx with
  | gone=>simp [hx,MA.run] at h
  | frz sz' rows=>simp [hx,MA.run] at h
  | live e' sz' rows =>
   simp only [hx] at h
   split at h
   rotate_left
   ·exact (aM h).elim
   rename_i hc
   obtain ⟨rfl,hlo⟩:=hc
   simp only [MA.run,Option.some.injEq,Prod.mk.injEq] at h
   obtain ⟨rfl,rfl⟩:=h
   have fin:∀ {v':Value} {w':World},(Builtin.copy_ #[t,t'] o.type #[a.eval xs,a.eval ys]).run P w=.ok v' w'→EP P o a w v' w':=by
    intro v' w' hr
    refine .inl ?_
    simp only [execOp,ho,resolve,invoke,builtin,Sem.run_bind,Sem.run_pure,Result.andThen_ok,List.map_toArray,List.map_cons,List.map_nil,hr]
   generalize hvv:a.eval xs=vv at hvx
   cases hvx with
   | win _ _ _ n0 c0 c' ad0 a' hr he hm hp =>
    have hn0:n0=rows.length:=by
     obtain ⟨inner,hown,_⟩:=hM.row r _ hx
     rcases hown.2 with ⟨hv0,h0⟩ | ⟨b,cap,cur,hv0,_⟩
     ·rw [hv0] at he; injection he with _ h1; omega
     ·rw [hv0] at he; injection he with _ h1; exact h1.symm
    subst hn0
    have hvx':a.eval xs=.slice a' m c':=hvv
    by_cases h0:rows2.length=0
    ·have hnil:rows2=[]:=List.eq_nil_of_length_eq_zero h0
     subst hnil
     have hov:rows.take lo++[]++rows.drop (lo+([]:List (List T)).length)=rows:=by simp
     rw [hov,OW hx]
     have hrun:=run_copy_none (P:=P) w t t' o.type e a' ad m c' 0 c hu hsz1 (by simp)
     rw [← hvx'] at hrun
     have hyv':a.eval ys=.slice ad 0 c:=hyv
     rw [← hyv'] at hrun
     exact ⟨_,g,w,fin hrun,hM,.t _ _ (.int _ _),sN.refl _ _ _ _,rfl⟩
    ·have hne:rows2≠[]:=fun h1=>h0 (by rw [h1]; rfl)
     have hs1:=hsz.resolve_right hne
     subst hs1
     obtain ⟨bs,off,rfl,news,hnl,hnc,hn1,hnr⟩:=hY.flat hne
     have hR2:BB w g.F 1 rows2 news:=⟨hnl,hY.len,fun i row j x h1 h2=>let ⟨u,hu,hr⟩:=hnr i row j x h1 h2; ⟨u,hu,hr.one.1,hr⟩⟩
     have hnl':news.length=rows2.length:=by rw [hnl,Nat.mul_one]
     have hmin:min rows2.length m=rows2.length:=by omega
     obtain ⟨b,c1,cur,hgr,hh,hfit,hM2,hE2⟩:=Pj (lo:=lo) (ys:=rows2) (cs:=news) hM hx hnl' (by omega) (by omega) hR2
     obtain ⟨b',hb1,hb2⟩:=hp (by omega)
     have hbb:b'=b:=by
      rw [he] at hgr
      injection hgr with h1 _ _
      rw [hb1] at h1
      injection h1 with h1
      injection h1 with h1
     subst hbb
     have hrun:=run_copy_row (P:=P) w t t' o.type e b' lo m c' ⟨bs,off,none⟩ rows2.length c cur e' news hu hsz1 hh (by rw [hnl']; exact hmin.symm)
      (fun j v hj=>hnc j v hj) hfit (fun v hv=>hn1 v hv)
     rw [← hb2,← hvx',← hyv] at hrun
     exact ⟨_,g,_,fin hrun,hM2,by rw [hnl']; exact .t _ _ (.int _ _),hE2,rfl⟩
theorem XT {o:Oper} {xs ys:Operand} {x vx vy:A} {ts:Array TypeId} {n:Nat} (hS:vn E g n st a w) (ho:o.op=.call { callee:=.builtin .copy,args:=#[xs,ys],argTypes:=ts }) (hvx:VR w g st.O st.R vx (a.eval xs)) (hvy:VR w g st.O st.R vy (a.eval ys))
  (h:(Hj P ts.toList vx vy).run st=some (x,st')):∃ u g' w',EP P o a w u w'∧Av E g st w x st' u g' w':=by
 have hM:=hS.mem
 unfold Hj at h
 split at h
 ·rename_i t t' r lo m hts
  have hts':ts=#[t,t']:=by rw [← Array.toArray_toList (xs:=ts),hts]
  subst hts'
  exact W9 hS ho hvx hvy h
 rotate_left
 ·exact (aM h).elim
 rename_i t t' r nn lo hts
 have hts':ts=#[t,t']:=by rw [← Array.toArray_toList (xs:=ts),hts]
 subst hts'
 split at h
 rotate_left
 ·exact (aM h).elim
 rename_i e hu
 split at h
 rotate_left
 ·exact (aM h).elim
 rename_i hk
 obtain ⟨hk1,rfl⟩:=hk
 obtain ⟨i,hi1,hi2⟩:=lV hk1
 have hsz1:(P.info? e).map (·.size)=some 1:=by rw [hi1]; simp [hi2]
 obtain ⟨rows2,sz,ad,c,h,hyv,hY⟩:=EW hM hvy h
 split at h
 rotate_left
 ·exact (aM h).elim
 rename_i hsz
 simp only [MA.run] at h
 cases hx:st.rw r with
 | none=>simp [hx,MA.run] at h
 | some xx =>
  cases xx with
  | gone=>simp [hx,MA.run] at h
  | frz sz' rows=>simp [hx,MA.run] at h
  | live e' sz' rows =>
   simp only [hx] at h
   split at h
   rotate_left
   ·exact (aM h).elim
   rename_i hc
   obtain ⟨rfl,hlo⟩:=hc
   simp only [MA.run,Option.some.injEq,Prod.mk.injEq] at h
   obtain ⟨rfl,rfl⟩:=h
   have fin:∀ {v':Value} {w':World},(Builtin.copy_ #[t,t'] o.type #[a.eval xs,a.eval ys]).run P w=.ok v' w'→EP P o a w v' w':=by
    intro v' w' hr
    refine .inl ?_
    simp only [execOp,ho,resolve,invoke,builtin,Sem.run_bind,Sem.run_pure,Result.andThen_ok,List.map_toArray,List.map_cons,List.map_nil,hr]
   generalize hvv:a.eval xs=vv at hvx
   cases hvx with
   | sub _ _ _ n0 c0 c' ad0 a' hr he hp =>
    have hn0:n0=rows.length:=by
     obtain ⟨inner,hown,_⟩:=hM.row r _ hx
     rcases hown.2 with ⟨hv0,h0⟩ | ⟨b,cap,cur,hv0,_⟩
     ·rw [hv0] at he; injection he with _ h1; omega
     ·rw [hv0] at he; injection he with _ h1; exact h1.symm
    subst hn0
    have hvx':a.eval xs=.slice a' (rows.length - lo) c':=hvv
    by_cases h0:min rows2.length (rows.length - lo)=0
    ·have hov:Un rows rows2 lo=rows:=by
      unfold Un
      rw [h0,Nat.add_zero]
      have:rows2.take (rows.length - lo)=[]:=by
       rcases Nat.eq_zero_or_pos rows2.length with h1 | h1
       ·rw [List.eq_nil_of_length_eq_zero h1]; simp
       ·rw [show rows.length - lo=0 by omega]; simp
      rw [this,List.append_nil,List.take_append_drop]
     rw [hov,OW hx,h0]
     have hrun:=run_copy_none (P:=P) w t t' o.type e a' ad (rows.length - lo) c' rows2.length c hu hsz1 (by exact h0)
     rw [← hvx',← hyv] at hrun
     exact ⟨_,g,w,fin hrun,hM,.t _ _ (.int _ _),sN.refl _ _ _ _,rfl⟩
    ·have hne:rows2≠[]:=fun h1=>h0 (by rw [h1]; simp)
     have hs1:=hsz.resolve_right hne
     subst hs1
     obtain ⟨bs,off,rfl,news,hnl,hnc,hn1,hnr⟩:=hY.flat hne
     have hR2:BB w g.F 1 rows2 news:=⟨hnl,hY.len,fun i row j x h1 h2=>let ⟨u,hu,hr⟩:=hnr i row j x h1 h2; ⟨u,hu,hr.one.1,hr⟩⟩
     have hk:(rows2.take (rows.length - lo)).length=min rows2.length (rows.length - lo):=by rw [List.length_take,Nat.min_comm]
     have hnl':(news.take (rows.length - lo)).length=min rows2.length (rows.length - lo):=by rw [List.length_take,hnl,Nat.mul_one,Nat.min_comm]
     obtain ⟨b,c1,cur,hgr,hh,hfit,hM2,hE2⟩:=Pj (lo:=lo) (ys:=rows2.take (rows.length - lo)) (cs:=news.take (rows.length - lo)) hM hx (by rw [hk,hnl']) (by rw [hk]; omega) (by rw [hk]; omega) (hR2.take1 _)
     obtain ⟨b',hb1,hb2⟩:=hp (by omega)
     have hbb:b'=b:=by
      rw [he] at hgr
      injection hgr with h1 _ _
      rw [hb1] at h1
      injection h1 with h1
      injection h1 with h1
     subst hbb
     have hrun:=run_copy_row (P:=P) w t t' o.type e b' lo (rows.length - lo) c' ⟨bs,off,none⟩ rows2.length c cur e' (news.take (rows.length - lo)) hu hsz1 hh (by rw [hnl'])
      (fun j v hj=>hnc j v (by rw [List.getElem?_take] at hj; split at hj; exact hj; cases hj)) hfit (fun v hv=>hn1 v (List.mem_of_mem_take hv))
     have hb3:a'=some ⟨b',lo,none⟩:=by rw [hb2]; simp
     rw [← hb3,← hvx',← hyv] at hrun
     rw [hk] at hM2 hE2
     exact ⟨_,g,_,fin hrun,hM2,by rw [hnl']; exact .t _ _ (.int _ _),hE2,rfl⟩
theorem RQ (v:Value) (n:Nat):(Builtin.zeroCells #[v] n).toList=List.replicate n v:=by
 apply List.ext_getElem?
 intro i
 simp only [Builtin.zeroCells,Array.toList_map,List.getElem?_map,Array.toList_range,List.getElem?_replicate]
 simp only [List.size_toArray,List.length_cons,List.length_nil,Nat.mul_one,Nat.zero_add,Nat.mod_one]
 by_cases h:i < n
 ·rw [List.getElem?_range h,if_pos h]; rfl
 ·rw [List.getElem?_eq_none (by simpa using h),if_neg h]; rfl
theorem Xa {o:Oper} {xs:Operand} {x vx:A} {ts:Array TypeId} {n:Nat} (hS:vn E g n st a w) (ho:o.op=.call { callee:=.builtin .clear,args:=#[xs],argTypes:=ts }) (hvx:VR w g st.O st.R vx (a.eval xs))
  (h:(IY P ts.toList vx).run st=some (x,st')):∃ u g' w',EP P o a w u w'∧Av E g st w x st' u g' w':=by
 have hM:=hS.mem
 unfold IY at h
 split at h
 rotate_left
 ·exact (aM h).elim
 rename_i t r nn lo hts
 have hts':ts=#[t]:=by rw [← Array.toArray_toList (xs:=ts),hts]
 subst hts'
 split at h
 rotate_left
 ·exact (aM h).elim
 rename_i e hu
 split at h
 rotate_left
 ·exact (aM h).elim
 rename_i z hz
 split at h
 rotate_left
 ·exact (aM h).elim
 rename_i hk
 obtain ⟨hk1,rfl⟩:=hk
 obtain ⟨i,zv,hi1,hzv,hC⟩:=EY hz
 have hCs:=hC w g st.O st.R
 have hzs:zv.cells.size=1:=hCs.1
 obtain ⟨u0,hu0⟩:∃ u0,zv.cells=#[u0]:=by
  match hq:zv.cells,hzs with
  | ⟨[u0]⟩,_=>exact ⟨u0,rfl⟩
 have hrd:Rd w g.F z u0:=by
  obtain ⟨_,u,hu1,hu2⟩:=hCs.2 0 (.t z) rfl
  rw [hu0] at hu1
  have:u0=u:=by simpa using hu1
  subst this
  cases hu2 with
  | t _ _ h=>exact h
 simp only [MA.run] at h
 cases hx:st.rw r with
 | none=>simp [hx,MA.run] at h
 | some xx =>
  cases xx with
  | gone=>simp [hx,MA.run] at h
  | frz sz' rows=>simp [hx,MA.run] at h
  | live e' sz' rows =>
   simp only [hx] at h
   split at h
   rotate_left
   ·exact (aM h).elim
   rename_i hc
   obtain ⟨rfl,hlo⟩:=hc
   simp only [MA.run,Option.some.injEq,Prod.mk.injEq] at h
   obtain ⟨rfl,rfl⟩:=h
   have fin:∀ {v':Value} {w':World},(Builtin.clear_ #[t] o.type #[a.eval xs]).run P w=.ok v' w'→EP P o a w v' w':=by
    intro v' w' hr
    refine .inl ?_
    simp only [execOp,ho,resolve,invoke,builtin,Sem.run_bind,Sem.run_pure,Result.andThen_ok,List.map_toArray,List.map_cons,List.map_nil,hr]
   generalize hvv:a.eval xs=vv at hvx
   cases hvx with
   | sub _ _ _ n0 c0 c' ad0 a' hr he hp =>
    have hn0:n0=rows.length:=by
     obtain ⟨inner,hown,_⟩:=hM.row r _ hx
     rcases hown.2 with ⟨hv0,h0⟩ | ⟨b,cap,cur,hv0,_⟩
     ·rw [hv0] at he; injection he with _ h1; omega
     ·rw [hv0] at he; injection he with _ h1; exact h1.symm
    subst hn0
    have hvx':a.eval xs=.slice a' (rows.length - lo) c':=hvv
    have htup:VR w g st.O st.R (.tup []) (.tuple #[]):=.tup [] [] rfl (by simp)
    by_cases h0:rows.length - lo=0
    ·have hov:rows.take lo++List.replicate (rows.length - lo) [z]=rows:=by
      rw [h0,List.replicate_zero,List.append_nil,List.take_of_length_le (by omega)]
     rw [hov,OW hx]
     have hrun:(Builtin.clear_ #[t] o.type #[.slice a' 0 c']).run P w=.ok (.tuple #[]) w:=by
      cases a' <;> simp [Builtin.clear_,run_underlying hu]
     rw [h0] at hvx'
     rw [← hvx'] at hrun
     exact ⟨_,g,w,fin hrun,hM,htup,sN.refl _ _ _ _,rfl⟩
    ·have hRz:BB w g.F 1 (List.replicate (rows.length - lo) [z]) (List.replicate (rows.length - lo) u0):=by
      refine ⟨by simp,fun i row hi=>?_,fun i row j x hi hj=>?_⟩
      ·rw [List.getElem?_replicate] at hi; split at hi <;> simp_all
       subst hi; rfl
      ·rw [List.getElem?_replicate] at hi
       split at hi
       ·rename_i hlt
        cases hi
        cases j with
        | zero =>
         simp only [List.getElem?_cons_zero,Option.some.injEq] at hj
         subst hj
         exact ⟨u0,by rw [List.getElem?_replicate,if_pos (by omega)],hrd.one.1,hrd⟩
        | succ j=>simp at hj
       ·cases hi
     obtain ⟨b,c1,cur,hgr,hh,hfit,hM2,hE2⟩:=Pj (lo:=lo) hM hx (by simp) (by simp; omega) (by simp; omega) hRz
     obtain ⟨b',hb1,hb2⟩:=hp (by omega)
     have hbb:b'=b:=by
      rw [he] at hgr
      injection hgr with h1 _ _
      rw [hb1] at h1
      injection h1 with h1
      injection h1 with h1
     subst hbb
     have hb3:a'=some ⟨b',lo,none⟩:=by rw [hb2]; simp
     have hst:=run_storeCells_at P b' lo e' (List.replicate (rows.length - lo) u0) 0 cur w hh (by simpa using hfit) (fun v hv=>by rw [(List.mem_replicate.1 hv).2]; exact hrd.one.1)
     obtain ⟨m,hm⟩:∃ m,rows.length - lo=m+1:=⟨rows.length - lo - 1,by omega⟩
     have hrun:(Builtin.clear_ #[t] o.type #[.slice (some ⟨b',lo,none⟩) (rows.length - lo) c']).run P w=.ok (.tuple #[]) (w.setRow b' (cur.toList.take lo++List.replicate (rows.length - lo) u0++cur.toList.drop (lo+(List.replicate (rows.length - lo) u0).length)).toArray):=by
      rw [hm] at hst ⊢
      simp only [Nat.add_zero] at hst
      simp [Builtin.clear_,run_underlying hu,zeroValue,typeInfo,hi1,hzv,hu0,RQ,hst]
     rw [← hb3,← hvx'] at hrun
     have hdrop:rows.drop (lo+(List.replicate (rows.length - lo) [z]).length)=[]:=List.drop_of_length_le (by simp; omega)
     rw [hdrop,List.append_nil] at hM2 hE2
     exact ⟨_,g,_,fin hrun,hM2,htup.mono hE2,hE2,rfl⟩
end
end Go.Tm
namespace Go.Tm
open Go.RowKit
section
variable {P:Program} {E:En} {g:Gh} {st st':St} {a:Act} {w:World}
theorem Uv {o:Oper} {s t:TypeId} {y:Operand} {v x:A} {n:Nat} (hS:vn E g n st a w) (ho:o.op=.convert s t y) (hv:VR w g st.O st.R v (a.eval y))
  (h:(match P.underlying s,P.underlying t,some v with
  | some _,some (.int k),some (.t (.int _ n))=>MA.ret (.t (.int k (k.wrap n)))
  | some _,some .string,some (.t (.str s))=>.ret (.t (.str s))
  | some (.slice e),some .string,some x=>match P.underlying e with
   | some (.int .u8)=>x.rows fun _ rows=>match EU rows with | some l=>.ret (.t (.str (strOfNums l))) | none=>.fail
   | _=>.fail
  | _,_,_=>.fail:MA A).run st=some (x,st')):∃ u g' w',EP P o a w u w'∧Av E g st w x st' u g' w':=by
 have hM:=hS.mem
 split at h
 ·rename_i d k kk nn h1 h2 h3
  cases h3
  have he:=hv.int
  refine df hM ?_ (.t _ _ (.int _ _)) h
  cases d <;> simp [execOp,ho,he,convert,run_underlying h1,run_underlying h2,Conv.intToInt]
 ·rename_i d s' h1 h2 h3
  cases h3
  have he:=hv.str
  refine df hM ?_ (.t _ _ (.str _)) h
  cases d <;> simp [execOp,ho,he,convert,run_underlying h1,run_underlying h2]
 ·rename_i e v' hneg h1 h2 h3
  injection h3 with h3
  subst h3
  split at h
  ·rename_i he
   obtain ⟨rows,sz,ad,c,h,hvv,hR⟩:=EW hM hv h
   split at h
   ·rename_i l hl
    obtain ⟨h4,h5⟩:=Pi hl
    refine df hM ?_ (.t _ _ (.str _)) h
    have hrun:(convert s t (a.eval y)).run P w=.ok (.string (strOfNums l)) w:=by
     rw [hvv]
     by_cases hne:rows=[]
     ·subst hne
      have:l=[]:=List.eq_nil_of_length_eq_zero h4
      subst this
      cases ad with
      | none=>exact run_convert_bytes_nil w s e h1 he 0 c t h2
      | some ad =>
       simp [convert,run_underlying h1,run_underlying h2,run_underlying he,Conv.bytesToString,loadCells,loadCellsFrom]
       rfl
     ·obtain ⟨b,off,rfl,hx⟩:=hR.at_.resolve_left hne
      refine run_convert_bytes_arg w s e h1 he b off rows.length c l h4 (fun i hi=>?_) t h2
      have hrow:=h5 i _ (List.getElem?_eq_getElem hi)
      have hsz:sz=1:=by have:=hR.len i _ (List.getElem?_eq_getElem hi); rw [hrow] at this; exact this.symm
      subst hsz
      obtain ⟨u,hu,hr⟩:=hx i _ 0 (.int .u8 (l.getD i 0)) (List.getElem?_eq_getElem hi) (by rw [hrow]; rfl)
      cases hr
      rw [Nat.mul_one,Nat.add_zero] at hu
      exact hu
    simp [execOp,ho,hrun]
   ·exact (aM h).elim
  ·exact (aM h).elim
 ·exact (aM h).elim
theorem XU {α:Type} {st':St} {y:α}:∀ (l:List A) (st:St) (k:List T→MA α),(A.toTs l k).run st=some (y,st')→l.all A.one=true:=by
 intro l
 induction l with
 | nil=>intro _ _ _; rfl
 | cons q l ih =>
  intro st k h
  simp only [A.toTs] at h
  cases q with
  | t x=>exact (by show (A.one _ && l.all A.one)=true; rw [ih _ _ h]; rfl)
  | nil=>exact (by show (A.one _ && l.all A.one)=true; rw [ih _ _ h]; rfl)
  | own r =>
   simp only [A.toT,MA.run] at h
   split at h
   ·show (A.one _ && l.all A.one)=true; rw [ih _ _ h]; rfl
   ·show (A.one _ && l.all A.one)=true; rw [ih _ _ h]; rfl
   ·exact (aM h).elim
  | _=>exact (aM h).elim
theorem XV {o:Oper} {e:TypeId} {y:Operand} {x v:A} {n:Nat} (hS:vn E g n st a w) (ho:o.op=.box e y) (hv:VR w g st.O st.R v (a.eval y)) (h:(A.toTs v.cells fun ts=>MA.ret (A.fadr ts)).run st=some (x,st')) :
  ∃ v g' w',EP P o a w v w'∧Av E g st w x st' v g' w':=by
 obtain ⟨h1,h2,h3⟩:=hv.cells hS.mem (XU _ _ _ h)
 obtain ⟨ts,st1,g1,hM1,hE1,ht1,h4,htl,hts⟩:=Uq hS.mem (vs:=(a.eval y).cells.toList) (by rw [Array.length_toList]; exact h1) (fun j x hj=>by
  obtain ⟨_,q,hq,hr⟩:=h3 j x hj
  exact ⟨q,by simpa using hq,hr⟩) h
 obtain ⟨rfl,rfl⟩:=ij h4
 have hnf:=wE hM1 (Nat.le_refl w.heap.size)
 obtain ⟨hM2,hE2⟩:=hM1.step (w':=w.alloc (.cells (a.eval y).cells e)) (g':={ g1 with F:=fun b=>g1.F b∨b=w.heap.size }) (st':=st') (Hk w _) (fun _=>False) (fun b h1 _=>heap_alloc_old w _ b h1) (fun _ h=>h.elim) (fun _ _ h=>h.elim) (fun _ h=>.inl h)
  (fun b h1 h2=>by
   have:=h1.resolve_left h2
   subst this
   exact ⟨by simp,fun hlt=>by (have:=hM1.sizes; omega),.inr ⟨_,_,heap_alloc_new w _⟩⟩) (fun _ h=>⟨h,rfl⟩) (fun _ h=>⟨h,rfl⟩)
  (fun s cells hs=>.inl ⟨hs,id,fun hf=>hf.elim (hM1.ob_nf (by simp [St.O,hs])).1 (fun he=>hnf.2.1 s (by simp [St.O,hs]) he)⟩) hM1.obne
  (fun r x hr=>.inl ⟨hr,fun hL b hb'=>⟨id,fun hf=>hf.elim (hM1.row_nf hL hb').1 (fun he=>hnf.2.2 r hL (he ▸ hb'))⟩⟩) hM1.rowne hM1.rowob
 refine ⟨.pointer (some ⟨w.heap.size,0,none⟩),_,_,.inl ?_,hM2,?_,hE1.trans hE2,ht1.tm⟩
 ·simp [execOp,ho,Instr.box,newVar,newRow,newObj,Sem.run]
 ·refine .fadr ts w.heap.size 0 (fun j=>(a.eval y).cells.toList.getD j undef) (.inr rfl) (fun j t hj=>?_) (fun j t hj=>?_)
  ·obtain ⟨u,hu,_,hr⟩:=hts j t hj
   rw [List.getD_eq_getElem?_getD,hu]
   have hh:=heap_alloc_new w (.cells (a.eval y).cells e)
   simp only [World.cell?,hh,Nat.zero_add]
   simpa using hu
  ·obtain ⟨u,hu,_,hr⟩:=hts j t hj
   rw [List.getD_eq_getElem?_getD,hu]
   exact hr.mono hE2.same hE2.F
theorem DO {n:Nat} (hS:vn E g n st a w) {xs:List Operand} {l:List A} (h:dv (xs.map st.eval)=some l):l.length=(xs.map a.eval).length∧∀ (i:Nat) (x:A) (v:Value),l[i]?=some x→(xs.map a.eval)[i]?=some v→VR w g st.O st.R x v:=by
 obtain ⟨h1,h2⟩:=u9 h
 refine ⟨by simp [h1],fun i x v hx hv=>?_⟩
 obtain ⟨y,hy,hf⟩:=h2 i x hx
 rw [List.getElem?_map,hy] at hv
 cases hv
 exact bW hS hf
theorem Vq {n:Nat} {o:Oper} {x:A} (hS:vn E g n st a w) {ρ:Nat→eH} (h:(rq P ρ st.eval o).run st=some (x,st')):∃ u g' w',EP P o a w u w'∧Av E g st w x st' u g' w':=by
 have hM:=hS.mem
 unfold rq at h
 split at h
 ·-- move
  rename_i y ho
  split at h
  ·rename_i v hv
   exact df hM (by simp [execOp,ho]) (bW hS hv) h
  ·exact (aM h).elim
 ·-- assign
  rename_i y ho
  split at h
  ·rename_i v hv
   exact df hM (by simp [execOp,ho]) (bW hS hv) h
  ·exact (aM h).elim
 ·-- pick
  rename_i c y z ho
  split at h
  ·rename_i cb va vb hc ha hb
   have he:=(bW hS hc).bool
   cases cb with
   | true=>exact df hM (v:=a.eval y) (by simp [execOp,ho,he,asBool]) (by simpa using bW hS ha) h
   | false=>exact df hM (v:=a.eval z) (by simp [execOp,ho,he,asBool]) (by simpa using bW hS hb) h
  ·exact (aM h).elim
 ·-- alloc
  rename_i e ho
  split at h
  ·rename_i d z hd hz
   exact W0 hS ho hz h
  ·exact (aM h).elim
 ·-- box
  rename_i e y ho
  split at h
  ·rename_i d v hd hv
   split at h
   ·exact XV hS ho (bW hS hv) h
   ·exact YI hS ho (bW hS hv) h
  ·exact (aM h).elim
 ·-- build
  rename_i t parts ho
  split at h
  ·rename_i z pl ps hz hp hps
   split at h
   ·rename_i cs hcs
    exact W5 hS ho hz hp hps hcs h
   ·exact (aM h).elim
  ·exact (aM h).elim
 ·-- buildSlice
  rename_i t m parts ho
  split at h
  ·rename_i e d ps hu hd hps
   split at h
   ·rename_i sz z hsz hz
    split at h
    ·rename_i hk
     exact Pg hS ho hu hsz hz hps hk h
    ·exact (aM h).elim
   ·exact (aM h).elim
  ·exact (aM h).elim
 ·-- load
  rename_i t y ho
  split at h
  ·rename_i v hv
   exact XP hS ho (bW hS hv) h
  ·exact (aM h).elim
 ·-- store
  rename_i t y z ho
  split at h
  ·rename_i v u hv hu
   exact W4 hS ho (bW hS hv) (bW hS hu) h
  ·exact (aM h).elim
 ·-- nilCheck
  rename_i y ho
  have hvr:∀ {v:A},st.eval y=some v→VR w g st.O st.R v (a.eval y):=fun h=>bW hS h
  split at h
  ·rename_i s k hv
   have:=hvr hv
   generalize hvv:a.eval y=vv at this
   cases this with
   | obj s off hs=>exact df hM (by simp [execOp,ho,hvv]) (.obj s k hs) h
  ·rename_i r sz ix k hv
   have:=hvr hv
   generalize hvv:a.eval y=vv at this
   cases this with
   | elem r sz i off b n c hr he=>exact df hM (by simp [execOp,ho,hvv]) (.elem r sz ix k b _ _ hr he) h
  ·rename_i cs hv
   have:=hvr hv
   generalize hvv:a.eval y=vv at this
   cases this with
   | fadr cells b off u hF hx hr=>exact df hM (by simp [execOp,ho,hvv]) (.fadr cs b _ u hF hx hr) h
  ·rename_i s cs hv
   have:=hvr hv
   generalize hvv:a.eval y=vv at this
   cases this with
   | exa _ cells b off u hs hD hx hr=>exact df hM (by simp [execOp,ho,hvv]) (.exa s cs b _ u hs hD hx hr) h
  ·rename_i f cs hv
   have:=hvr hv
   generalize hvv:a.eval y=vv at this
   cases this with
   | clo f caps vs hl hx=>exact df hM (by simp [execOp,ho,hvv]) (.clo f cs vs hl hx) h
  ·exact (aM h).elim
 ·-- binOp
  rename_i op t y z yt ho
  split at h
  ·rename_i vx vy hx hy
   split at h
   ·rename_i r hr
    obtain ⟨v,hrun,hrd⟩:=YO (P:=P) (ox:=y) (oy:=z) hr (bW hS hx).tnum (bW hS hy).tnum
    refine df hM ?_ (.t _ _ hrd) h
    simp only [Sem.run_bind] at hrun
    simp only [execOp,ho,Sem.run_bind,hrun,Result.andThen_ok,Sem.run_pure]
   ·exact (aM h).elim
  ·rename_i vx vy hx hy
   split at h
   ·rename_i m xs ys he hxs hys
    split at h
    ·rename_i hk
     obtain ⟨hg,heq⟩:=Uu (w:=w) he hk.1 hk.2 .eql y z
     refine df hM ?_ (.t _ _ (.bool _)) h
     simp only [execOp,ho,I2 hxs (bW hS hx),I2 hys (bW hS hy),Sem.run_bind,hg,run_eql_struct,heq,Result.andThen_ok,Sem.run_pure]
    ·exact (aM h).elim
   ·rename_i m xs ys he hxs hys
    split at h
    ·rename_i hk
     obtain ⟨hg,heq⟩:=Uu (w:=w) he hk.1 hk.2 .neq y z
     refine df hM ?_ (.t _ _ (.bool _)) h
     simp only [execOp,ho,I2 hxs (bW hS hx),I2 hys (bW hS hy),Sem.run_bind,hg,run_neq_struct,heq,Result.andThen_ok,Sem.run_pure]
    ·exact (aM h).elim
   ·exact (aM h).elim
  ·rename_i sz rows hx hy
   split at h
   ·rename_i e hu
    have h1:=bW hS hx
    have h2:=bW hS hy
    generalize hvx:a.eval y=vx at h1
    generalize hvy:a.eval z=vy at h2
    cases h1 with
    | nn _ _ _ hr hv =>
     obtain ⟨ad,m,c,rfl⟩:=hv
     cases h2
     refine df hM ?_ (.t _ _ (.bool _)) h
     simp [execOp,ho,hvx,hvy,eqGuard,binOp,run_equal_slice_nil w t e (some ad) m c hu]
   ·exact (aM h).elim
  ·rename_i hx hy
   split at h
   ·rename_i e hu
    have h1:=bW hS hx
    have h2:=bW hS hy
    generalize hvx:a.eval y=vx at h1
    generalize hvy:a.eval z=vy at h2
    cases h1
    cases h2
    refine df hM ?_ (.t _ _ (.bool _)) h
    simp [execOp,ho,hvx,hvy,eqGuard,binOp,run_equal_slice_nil w t e none 0 0 hu]
   ·exact (aM h).elim
  ·exact (aM h).elim
 ·-- unOp
  rename_i op t y ho
  split at h
  ·rename_i b hv
   exact df hM (by simp [execOp,ho,(bW hS hv).bool,Op.unary]) (.t _ _ (.bool _)) h
  ·rename_i k m hv
   exact df hM (by simp [execOp,ho,(bW hS hv).int,Op.unary,Op.intArith]) (.t _ _ (.int _ _)) h
  ·exact (aM h).elim
 ·-- convert
  rename_i s t y ho
  cases hv:st.eval y with
  | none =>
   rw [hv] at h
   exfalso
   split at h
   ·rename_i h3; cases h3
   ·rename_i h3; cases h3
   ·rename_i h3; cases h3
   ·exact aM h
  | some v =>
   rw [hv] at h
   exact Uv hS ho (bW hS hv) h
 ·-- makeFunc
  rename_i f first caps ho
  split at h
  ·rename_i l hf hl
   obtain ⟨h1,h2⟩:=DO hS hl
   have hf':first=#[]:=by rw [← Array.toArray_toList (xs:=first),hf]
   subst hf'
   refine df hM (v:=.func (.func f) #[] (caps.toList.map a.eval).toArray) ?_ (.clo f l _ h1 h2) h
   simp [execOp,ho,Instr.makeFunc,List.map_toArray]
   rw [← Array.toList_map]
  ·exact (aM h).elim
 ·-- makeSlice
  rename_i t yl yc ho
  split at h
  ·rename_i vl vc hl hc
   unfold Pd at h
   split at h
   ·rename_i e l c d hu hd1
    split at h
    ·rename_i zz m by_ z hi hz
     split at h
     ·rename_i hk
      exact XR hS ho (bW hS hl).int (bW hS hc).int hu hi hz hk h
     ·exact (aM h).elim
    ·exact (aM h).elim
   ·exact (aM h).elim
  ·exact (aM h).elim
 ·-- slice
  rename_i t y lo hi ho
  split at h
  ·rename_i v l k hv hl hk
   split at h
   ·rename_i hcw
    split at h
    ·split at h
     rotate_left
     ·exact YN hS ho (bW hS hv) hl hk h
     rename_i hw hk0
     rw [Option.isNone_iff_eq_none] at hk0
     subst hk0
     have:hi=none:=by
      cases hi with
      | none=>rfl
      | some z=>simp only [M1,Option.map_eq_some_iff] at hk; obtain ⟨_,_,hk⟩:=hk; cases hk
     subst this
     exact YM hS ho (bW hS hv) hl h
    ·rename_i hw
     simp only [XN,hw,Bool.false_or,Bool.and_eq_true,Option.isNone_iff_eq_none] at hcw
     obtain ⟨_,hl0⟩:=hcw
     subst hl0
     have:lo=none:=by
      cases lo with
      | none=>rfl
      | some z=>simp only [M1,Option.map_eq_some_iff] at hl; obtain ⟨_,_,hl⟩:=hl; cases hl
     subst this
     exact W8 hS ho (bW hS hv) hk h
   ·exact W7 hS ho (bW hS hv) hl hk h
  ·exact (aM h).elim
 ·-- fieldAddr
  rename_i s y f ho
  split at h
  ·rename_i v off t hv hf
   exact RO hS ho (bW hS hv) hf h
  ·exact (aM h).elim
 ·-- field
  rename_i s y f ho
  split at h
  ·rename_i l off t hv hf
   split at h
   ·rename_i gg m hg hm
    split at h
    ·rename_i x' hx'
     obtain ⟨fs,fl,m',i,hu,hfl,h1,h2,h3,h4,h5,h6⟩:=Mt hf
     have hvr:=bW hS hv
     generalize hvv:a.eval y=vv at hvr
     cases hvr with
     | agg l vs hl hx =>
      rw [h3] at hm
      cases hm
      unfold Hi at hx'
      split at hx'
      ·rename_i hle
       cases gg with
       | true =>
        simp only [if_true,Option.some.injEq] at hx'
        subst hx'
        refine df hM (v:=.agg ((vs.drop off).take m).toArray) ?_ (.agg _ _ (by simp [hl]) (fun i x v hx1 hv1=>?_)) h
        ·simp [execOp,ho,hvv,Instr.field,run_underlying hu,hfl,h1,h2,asAgg,Go.part,I1 hg,sizeOf,typeInfo,h5,h6,List.take_drop]
        ·rw [List.getElem?_take] at hx1 hv1
         split at hx1
         ·rename_i hlt
          rw [if_pos hlt] at hv1
          rw [List.getElem?_drop] at hx1 hv1
          exact hx _ x v hx1 hv1
         ·cases hx1
       | false =>
        simp only [Bool.false_eq_true,if_false] at hx'
        split at hx'
        ·have hlt:off < vs.length:=by rw [← hl]; exact (List.getElem?_eq_some_iff.1 hx').1
         refine df hM (v:=vs[off]) ?_ (hx off x' _ hx' (List.getElem?_eq_getElem hlt)) h
         simp [execOp,ho,hvv,Instr.field,run_underlying hu,hfl,h1,h2,asAgg,Go.part,I1 hg,hlt]
        ·cases hx'
      ·cases hx'
    ·exact (aM h).elim
   ·exact (aM h).elim
  ·exact (aM h).elim
 ·-- indexAddr
  rename_i t y z ho
  split at h
  ·rename_i v i hv hi
   exact RP hS ho (bW hS hv) (bW hS hi) h
  ·exact (aM h).elim
 ·-- index
  rename_i t y z ho
  split at h
  ·rename_i s k i hu hv hi
   split at h
   ·rename_i h0
    split at h
    ·rename_i b hb
     refine df hM ?_ (.t _ _ (.int _ _)) h
     simp [execOp,ho,(bW hS hv).str,(bW hS hi).int,Instr.index,asIntOf,run_underlying hu,h0,hb]
    ·exact (aM h).elim
   ·exact (aM h).elim
  ·exact (aM h).elim
 ·-- extract
  rename_i y i ho
  split at h
  ·rename_i l hv
   split at h
   ·rename_i v hvi
    have hvr:=bW hS hv
    generalize hvv:a.eval y=vv at hvr
    cases hvr with
    | tup l vs hl hx =>
     have hlt:i < vs.length:=by rw [← hl]; exact (List.getElem?_eq_some_iff.1 hvi).1
     refine df hM (v:=vs[i]) ?_ (hx i v _ hvi (List.getElem?_eq_getElem hlt)) h
     simp [execOp,ho,hvv,Instr.extract,hlt]
   ·exact (aM h).elim
  ·exact (aM h).elim
 ·-- len
  rename_i args ts ho
  split at h
  ·rename_i y t ha ht
   have ha':args=#[y]:=by rw [← Array.toArray_toList (xs:=args),ha]
   have ht':ts=#[t]:=by rw [← Array.toArray_toList (xs:=ts),ht]
   subst ha' ht'
   split at h
   ·rename_i v hv
    exact YL hS ho (bW hS hv) h
   ·exact (aM h).elim
  ·exact (aM h).elim
 ·-- append
  rename_i args ts ho
  split at h
  ·rename_i y z ha
   have ha':args=#[y,z]:=by rw [← Array.toArray_toList (xs:=args),ha]
   subst ha'
   split at h
   ·rename_i vx vy hx hy
    exact Vp hS ho (bW hS hx) (bW hS hy) h
   ·exact (aM h).elim
  ·exact (aM h).elim
 ·-- copy
  rename_i args ts ho
  split at h
  ·rename_i y z ha
   have ha':args=#[y,z]:=by rw [← Array.toArray_toList (xs:=args),ha]
   subst ha'
   split at h
   ·rename_i vx vy hx hy
    exact XT hS ho (bW hS hx) (bW hS hy) h
   ·exact (aM h).elim
  ·exact (aM h).elim
 ·-- clear
  rename_i args ts ho
  split at h
  ·rename_i y ha
   have ha':args=#[y]:=by rw [← Array.toArray_toList (xs:=args),ha]
   subst ha'
   split at h
   ·rename_i vx hx
    exact Xa hS ho (bW hS hx) h
   ·exact (aM h).elim
  ·exact (aM h).elim
 ·-- min
  rename_i args ts ho
  split at h
  ·rename_i y z ha
   have ha':args=#[y,z]:=by rw [← Array.toArray_toList (xs:=args),ha]
   subst ha'
   split at h
   ·rename_i k m k' m' hx hy
    refine df hM ?_ (.t _ _ (.int _ _)) h
    simp [execOp,ho,resolve,invoke,builtin,Builtin.min_,Builtin.min2,(bW hS hx).int,(bW hS hy).int]
   ·exact (aM h).elim
  ·exact (aM h).elim
 ·-- max
  rename_i args ts ho
  split at h
  ·rename_i y z ha
   have ha':args=#[y,z]:=by rw [← Array.toArray_toList (xs:=args),ha]
   subst ha'
   split at h
   ·rename_i k m k' m' hx hy
    refine df hM ?_ (.t _ _ (.int _ _)) h
    simp [execOp,ho,resolve,invoke,builtin,Builtin.max_,Builtin.max2,(bW hS hx).int,(bW hS hy).int]
   ·exact (aM h).elim
  ·exact (aM h).elim
 ·exact (aM h).elim
end
end Go.Tm
namespace Go.Tm
open Go.RowKit
inductive C where
 | t (x:T)
 | nil
 | ow (e sz:Nat) (rows:List (List T))
 deriving Inhabited
inductive V where
 | one (c:C)
 | agg (l:List C)
 | tup (l:List V)
 | ptr (cells:List C)
 | fptr (cells:List T)
 | clo (f:FuncId) (caps:List V)
 deriving Inhabited
section
variable (w:World) (F:Nat→Prop)
inductive CV:C→Value→List Nat→Prop
 | t (x:T) (v:Value) (h:Rd w F x v):CV (.t x) v []
 | nil:CV .nil (.slice none 0 0) []
 | ow (e sz:Nat) (rows:List (List T)) (v:Value) (inner:List Value) (h:w.ownsRow 0 e sz v rows.length inner) (hr:BB w F sz rows inner):CV (.ow e sz rows) v v.ownBlock.toList
inductive To:List C→List Value→List Nat→Prop
 | nil:To [] [] []
 | cons (c:C) (v:Value) (b:List Nat) (cs:List C) (vs:List Value) (bs:List Nat) (h:CV w F c v b) (hs:To cs vs bs):To (c :: cs) (v :: vs) (b++bs)
mutual
inductive VV:V→Value→List Nat→Prop
 | one (c:C) (v:Value) (bs:List Nat) (h:CV w F c v bs):VV (.one c) v bs
 | agg (l:List C) (vs:List Value) (bs:List Nat) (h:To w F l vs bs):VV (.agg l) (.agg vs.toArray) bs
 | tup (l:List V) (vs:List Value) (bs:List Nat) (h:Gz l vs bs):VV (.tup l) (.tuple vs.toArray) bs
 | ptr (cells:List C) (b:Nat) (arr:Array Value) (e:TypeId) (vs:List Value) (bs:List Nat) (hb:w.heap[b]?=some (.cells arr e (0,0))) (hl:vs=arr.toList.take vs.length) (hle:vs.length≤arr.size)
   (h:To w F cells vs bs):VV (.ptr cells) (.pointer (some ⟨b,0,none⟩)) (b :: bs)
 | fptr (cells:List T) (b off:Nat) (u:Nat→Value) (hF:F b) (hx:∀ (j:Nat) (x:T),cells[j]?=some x→w.cell? ⟨b,off+j,none⟩=some (u j)) (hr:∀ (j:Nat) (x:T),cells[j]?=some x→Rd w F x (u j)) :
   VV (.fptr cells) (.pointer (some ⟨b,off,none⟩)) []
 | clo (f:FuncId) (caps:List V) (vs:List Value) (bs:List Nat) (h:Gz caps vs bs):VV (.clo f caps) (.func (.func f) #[] vs.toArray) bs
inductive Gz:List V→List Value→List Nat→Prop
 | nil:Gz [] [] []
 | cons (x:V) (v:Value) (b:List Nat) (l:List V) (vs:List Value) (bs:List Nat) (h:VV x v b) (hs:Gz l vs bs):Gz (x :: l) (v :: vs) (b++bs)
end
inductive sP:List V→List Value→List (List C)→List Nat→Prop
 | nil:sP [] [] [] []
 | ptr (c c':List C) (v:Value) (bs:List Nat) (l:List V) (vs:List Value) (os:List (List C)) (bo:List Nat) (h:VV w F (.ptr c') v bs) (hs:sP l vs os bo):sP (.ptr c :: l) (v :: vs) (c' :: os) (bs++bo)
 | skip (x:V) (v:Value) (l:List V) (vs:List Value) (os:List (List C)) (bo:List Nat) (hx:∀ c,x≠.ptr c) (hs:sP l vs os bo):sP (x :: l) (v :: vs) os bo
end
def wF (P:Program) (f:FuncId):Prop:=∃ fn,P.funcs[f]?=some fn∧fn.body.isNone=false∧(fn.name == "runtime.NumGoroutine")=false
def al (P:Program) (f:FuncId) (args:List V) (res:V) (outs:List (List C)):Prop :=
 wF P f∧∀ (w:World) (F:Nat→Prop) (vs:List Value) (bs:List Nat),(∀ b,F b→b < w.heap.size)→Gz w F args vs bs→bs.Nodup→(∀ b∈bs,¬ F b)→Uk P w (fun b=>b∈bs) →
  Calls P f vs.toArray w fun e w'=>∃ v F' bv bo,e=.returned v∧sO w w'∧(∀ b,b < w.heap.size→b∉bs→w'.heap[b]?=w.heap[b]?)∧(∀ b,F b→F' b) ∧
   (∀ b,F' b→b < w'.heap.size∧(b < w.heap.size→F b∨b∈bs)∧(F b∨Wr w' b))∧VV w' F' res v bv∧sP w' F' args vs outs bo∧(bv++bo).Nodup∧∀ b∈bv++bo,¬ F' b∧(w.heap.size≤b∨b∈bs)
def A.toC {α:Type} (m:Bool) (a:A) (k:C→MA α):MA α:=match m,a with
 | true,.own r=>.getRw r fun
  | some (.live e sz rows)=>.setRw r .gone (k (.ow e sz rows))
  | some (.frz sz rows)=>k (.t (.sl sz rows))
  | _=>.fail
 | true,.nil=>k .nil
 | _,a=>a.toT fun x=>k (.t x)
def Hn {α:Type} (m:Bool):List A→(List C→MA α)→MA α
 | [],k=>k []
 | a :: r,k=>a.toC m fun x=>Hn m r fun xs=>k (x :: xs)
def EZ {α:Type} (s:Nat) (k:List C→MA α):MA α:=.getOb s fun
 | some (c :: cells)=>Hn true (c :: cells) fun cs=>.setOb s [] (k cs)
 | _=>.fail
mutual
def rr {α:Type} (m:Bool):A→(V→MA α)→MA α
 | .agg l,k=>Hn m l fun cs=>k (.agg cs)
 | .fadr ts,k=>k (.fptr ts)
 | .clo f caps,k=>DP m caps fun vs=>k (.clo f vs)
 | .tup l,k=>DP m l fun vs=>k (.tup vs)
 | a,k=>a.toC m fun c=>k (.one c)
def DP {α:Type} (m:Bool):List A→(List V→MA α)→MA α
 | [],k=>k []
 | a :: r,k=>rr m a fun x=>DP m r fun xs=>k (x :: xs)
end
def Uw:List A→Option (List T)
 | []=>some []
 | .t x :: r=>match Uw r with | some l=>some (x :: l) | none=>none
 | _ :: _=>none
def I3 {α:Type} (s:Nat) (k:List C→MA α):MA α:=.getOb s fun
 | some (c :: cells)=>match Uw (c :: cells) with | some ts=>.setOb s [] (k (ts.map .t)) | none=>.fail
 | _=>.fail
def m1 {α:Type} (m:Bool) (p:Nat→Bool):List A→(List V→MA α)→MA α
 | [],k=>k []
 | .obj s 0 :: r,k=>if p s then I3 s fun cs=>m1 m p r fun xs=>k (.ptr cs :: xs) else EZ s fun cs=>m1 m p r fun xs=>k (.ptr cs :: xs)
 | a :: r,k=>rr m a fun x=>m1 m p r fun xs=>k (x :: xs)
def eW:List A→List Nat
 | []=>[]
 | .obj s 0 :: r=>s :: eW r
 | _ :: r=>eW r
def A.peekT {α:Type} (a:A) (k:T→MA α):MA α:=match a with
 | .t x=>k x
 | .ext false x=>k x
 | .nil=>k (.sl 0 [])
 | .own r=>.getRw r fun
  | some (.live _ sz rows)=>k (.sl sz rows)
  | some (.frz sz rows)=>k (.sl sz rows)
  | _=>.fail
 | _=>.fail
def I4 {α:Type}:List A→(List T→MA α)→MA α
 | [],k=>k []
 | a :: r,k=>a.peekT fun x=>I4 r fun xs=>k (x :: xs)
mutual
def jR {α:Type}:A→(V→MA α)→MA α
 | .agg l,k=>I4 l fun ts=>k (.agg (ts.map .t))
 | .fadr ts,k=>k (.fptr ts)
 | .clo f caps,k=>ft caps fun vs=>k (.clo f vs)
 | a,k=>a.peekT fun x=>k (.one (.t x))
def ft {α:Type}:List A→(List V→MA α)→MA α
 | [],k=>k []
 | a :: r,k=>jR a fun x=>ft r fun xs=>k (x :: xs)
end
def C.plain:C→Prop
 | .t x=>x.sc=true
 | .nil=>True
 | .ow _ _ rows=>∀ row∈rows,∀ x∈row,T.sc x=true
mutual
def V.plain:V→Prop
 | .one c=>c.plain
 | .agg l=>∀ c∈l,c.plain
 | .tup l=>wG l
 | _=>False
def wG:List V→Prop
 | []=>True
 | v :: r=>v.plain∧wG r
end
def C.toA {α:Type} (d id:Nat) (c:C) (k:A→MA α):MA α:=match c with
 | .t x=>k (.t x)
 | .nil=>k .nil
 | .ow e sz rows=>if id / 65536=d then .getRw id fun
  | none=>.setRw id (.live e sz rows) (k (.own id))
  | some _=>.fail
  else .fail
def K8 {α:Type} (d:Nat):Nat→List C→(List A→MA α)→MA α
 | _,[],k=>k []
 | id,c :: r,k=>c.toA d id fun x=>K8 d (id+1) r fun xs=>k (x :: xs)
mutual
def V.toA {α:Type} (d:Nat):Nat→V→(A→MA α)→MA α
 | id,.one c,k=>c.toA d id k
 | id,.agg l,k=>K8 d id l fun as=>k (.agg as)
 | id,.tup l,k=>DQ d id l fun as=>k (.tup as)
 | id,.ptr cells,k=>K8 d id cells fun as=>.getOb d fun
  | none=>.setOb d as (k (.obj d 0))
  | some _=>.fail
 | _,.fptr ts,k=>k (.fadr ts)
 | id,.clo f caps,k=>DQ d id caps fun as=>k (.clo f as)
def DQ {α:Type} (d:Nat):Nat→List V→(List A→MA α)→MA α
 | _,[],k=>k []
 | id,v :: r,k=>V.toA d id v fun x=>DQ d (id+1024) r fun xs=>k (x :: xs)
end
section
variable {P:Program} {E:En} {g:Gh} {st st':St} {w:World}
theorem CV.mono {w w':World} {F F':Nat→Prop} {c:C} {v:Value} {bs:List Nat} (h:CV w F c v bs) (hs:Cp F w w') (hF:∀ b,F b→F' b) (hb:∀ b∈bs,w'.heap[b]?=w.heap[b]?):CV w' F' c v bs:=by
 cases h with
 | t x v h=>exact .t x v (h.mono hs hF)
 | nil=>exact .nil
 | ow e sz rows v inner h hr =>
  refine .ow e sz rows v inner ⟨h.1,?_⟩ (hr.mono hs hF)
  rcases h.2 with hn | ⟨b,cap,cur,hv,hg,hh,r⟩
  ·exact .inl hn
  ·exact .inr ⟨b,cap,cur,hv,hg,by rw [hb b (by rw [hv]; simp [Value.ownBlock])]; exact hh,r⟩
theorem To.mono {w w':World} {F F':Nat→Prop} {cs:List C} {vs:List Value} {bs:List Nat} (h:To w F cs vs bs) (hs:Cp F w w') (hF:∀ b,F b→F' b) (hb:∀ b∈bs,w'.heap[b]?=w.heap[b]?):To w' F' cs vs bs:=by
 induction h with
 | nil=>exact .nil
 | cons c v b cs vs bs h hs' ih=>exact .cons c v b cs vs bs (h.mono hs hF (fun x hx=>hb x (by simp [hx]))) (ih (fun x hx=>hb x (by simp [hx])))
mutual
theorem VV.mono {w w':World} {F F':Nat→Prop} {x:V} {v:Value} {bs:List Nat} (h:VV w F x v bs) (hs:Cp F w w') (hF:∀ b,F b→F' b) (hb:∀ b∈bs,w'.heap[b]?=w.heap[b]?):VV w' F' x v bs :=
 match h with
 | .one c v bs h=>.one c v bs (h.mono hs hF hb)
 | .agg l vs bs h=>.agg l vs bs (h.mono hs hF hb)
 | .tup l vs bs h=>.tup l vs bs (h.mono hs hF hb)
 | .ptr cells b arr e vs bs h1 h2 h3 h=>.ptr cells b arr e vs bs (by rw [hb b (by simp)]; exact h1) h2 h3 (h.mono hs hF (fun x hx=>hb x (by simp [hx])))
 | .fptr cells b off u h1 h2 h3=>.fptr cells b off u (hF b h1) (fun j x hj=>by rw [De hs h1]; exact h2 j x hj) (fun j x hj=>(h3 j x hj).mono hs hF)
 | .clo f caps vs bs h=>.clo f caps vs bs (h.mono hs hF hb)
theorem Gz.mono {w w':World} {F F':Nat→Prop} {l:List V} {vs:List Value} {bs:List Nat} (h:Gz w F l vs bs) (hs:Cp F w w') (hF:∀ b,F b→F' b) (hb:∀ b∈bs,w'.heap[b]?=w.heap[b]?):Gz w' F' l vs bs :=
 match h with
 | .nil=>.nil
 | .cons x v b l vs bs h hs'=>.cons x v b l vs bs (h.mono hs hF (fun x hx=>hb x (by simp [hx]))) (hs'.mono hs hF (fun x hx=>hb x (by simp [hx])))
end
end
end Go.Tm
namespace Go.Tm
open Go.RowKit
section
variable {P:Program} {E:En} {g:Gh} {st:St} {w:World}
structure RR (g:Gh) (st:St) (g1:Gh) (st1:St):Prop where
 L:∀ r,st1.L r→st.L r
 lent:∀ s,st1.ob s=st.ob s∨((∃ c cs,st.ob s=some (c :: cs))∧st1.ob s=some [])
 ob:g1.ob=g.ob
 rw:g1.rw=g.rw
 F:∀ b,g1.F b→g.F b∨∃ r,st.L r∧¬ st1.L r∧(g.rw r).ownBlock=some b
 tm:st1.tm=st.tm
theorem RR.refl (g:Gh) (st:St):RR g st g st:=⟨fun _ h=>h,fun _=>.inl rfl,rfl,rfl,fun _ h=>.inl h,rfl⟩
theorem Hl.lnd {g1:Gh} {st1:St} (h:Hl g st g1 st1):RR g st g1 st1:=⟨h.L,fun s=>.inl (by rw [h.eob]),h.ob,h.rw,h.F,h.tm⟩
theorem RR.trans {g1 g2 g3:Gh} {s1 s2 s3:St} (h:RR g1 s1 g2 s2) (k:RR g2 s2 g3 s3):RR g1 s1 g3 s3:=by
 refine ⟨fun r hr=>h.L r (k.L r hr),fun s=>?_,k.ob.trans h.ob,k.rw.trans h.rw,fun b hb=>?_,k.tm.trans h.tm⟩
 ·rcases h.lent s with h1 | ⟨h1,h2⟩
  ·rcases k.lent s with h3 | ⟨h3,h4⟩
   ·exact .inl (h3.trans h1)
   ·exact .inr ⟨h1 ▸ h3,h4⟩
  ·rcases k.lent s with h3 | ⟨h3,h4⟩
   ·exact .inr ⟨h1,h3.trans h2⟩
   ·exact .inr ⟨h1,h4⟩
 ·rcases k.F b hb with h1 | ⟨r,h1,h2,h3⟩
  ·rcases h.F b h1 with h4 | ⟨r,h4,h5,h6⟩
   ·exact .inl h4
   ·exact .inr ⟨r,h4,fun h7=>h5 (k.L r h7),h6⟩
  ·exact .inr ⟨r,h.L r h1,h2,by rw [← h.rw]; exact h3⟩
theorem RR.O {g1:Gh} {st1:St} (h:RR g st g1 st1) (s:Nat):st1.O s↔st.O s:=by
 unfold St.O
 rcases h.lent s with h1 | ⟨⟨c,cs,h1⟩,h2⟩
 ·rw [h1]
 ·rw [h1,h2]; simp
structure Tk (g:Gh) (st:St) (g1:Gh) (st1:St) (bs:List Nat):Prop where
 nodup:bs.Nodup
 nf:∀ b∈bs,¬ g1.F b
 of:∀ b∈bs,(∃ r,st.L r∧¬ st1.L r∧(g.rw r).ownBlock=some b)∨(∃ s,(∃ c cs,st.ob s=some (c :: cs))∧st1.ob s=some []∧g.ob s=b)
theorem Tk.nil (g:Gh) (st:St) (g1:Gh) (st1:St):Tk g st g1 st1 []:=⟨List.nodup_nil,by simp,by simp⟩
theorem Tk.app {g1 g2:Gh} {st1 st2:St} {bs bs':List Nat} (hM:fy E g st w) (h:Tk g st g1 st1 bs) (hs:RR g st g1 st1) (k:Tk g1 st1 g2 st2 bs') (ks:RR g1 st1 g2 st2):Tk g st g2 st2 (bs++bs'):=by
 have hO:∀ {s},(∃ c cs,st.ob s=some (c :: cs))→st.O s:=fun ⟨c,cs,h⟩=>by simp [St.O,h]
 have up:∀ {s},(∃ c cs,st1.ob s=some (c :: cs))→∃ c cs,st.ob s=some (c :: cs):=fun {s} ⟨c,cs,h1⟩=>by
  rcases hs.lent s with h2 | ⟨h2,_⟩
  ·exact ⟨c,cs,h2 ▸ h1⟩
  ·exact h2
 -- a block of the first ones is none of a row that lives on
 have apart:∀ b∈bs,∀ r,st1.L r→(g.rw r).ownBlock≠some b:=fun b hb r hr he=>by
  rcases h.of b hb with ⟨r',h1,h2,h3⟩ | ⟨s,h1,_,h3⟩
  ·exact h2 (hM.rowne r r' b (hs.L r hr) h1 he h3 ▸ hr)
  ·exact hM.rowob r s (hs.L r hr) (hO h1) (h3 ▸ he)
 refine ⟨List.nodup_append.2 ⟨h.nodup,k.nodup,fun b hb b' hb' he=>?_⟩,fun b hb=>?_,fun b hb=>?_⟩
 ·subst he
  rcases k.of b hb' with ⟨r,h1,_,h3⟩ | ⟨s,h1,_,h3⟩
  ·exact apart b hb r h1 (by rw [← hs.rw]; exact h3)
  ·rw [hs.ob] at h3
   rcases h.of b hb with ⟨r',h4,_,h6⟩ | ⟨s',h4,h5,h6⟩
   ·exact hM.rowob r' s h4 (hO (up h1)) (h3 ▸ h6)
   ·have:=hM.obne s s' (hO (up h1)) (hO h4) (h3.trans h6.symm)
    subst this
    obtain ⟨c,cs,h1⟩:=h1
    rw [h5] at h1
    cases h1
 ·rcases List.mem_append.1 hb with hb | hb
  ·intro hf
   rcases ks.F b hf with h1 | ⟨r,h1,_,h3⟩
   ·exact h.nf b hb h1
   ·exact apart b hb r h1 (by rw [← hs.rw]; exact h3)
  ·exact k.nf b hb
 ·rcases List.mem_append.1 hb with hb | hb
  ·rcases h.of b hb with ⟨r,h1,h2,h3⟩ | ⟨s,h1,h2,h3⟩
   ·exact .inl ⟨r,h1,fun hr=>h2 (ks.L r hr),h3⟩
   ·refine .inr ⟨s,h1,?_,h3⟩
    rcases ks.lent s with h4 | ⟨_,h4⟩
    ·rw [h4,h2]
    ·exact h4
  ·rcases k.of b hb with ⟨r,h1,h2,h3⟩ | ⟨s,h1,h2,h3⟩
   ·exact .inl ⟨r,hs.L r h1,h2,by rw [← hs.rw]; exact h3⟩
   ·exact .inr ⟨s,up h1,h2,by rw [← hs.ob]; exact h3⟩
theorem Hl.gone (r:Nat):Hl g st g { st with rw:=iw st.rw r (some .gone) }:=by
 refine ⟨fun r' hr'=>?_,rfl,rfl,rfl,fun _ h=>.inl h,rfl⟩
 rcases B5.1 hr' with ⟨rfl,_,_,_,hx⟩ | ⟨_,h3⟩
 ·cases hx
 ·exact h3
theorem WB {α:Type} {st':St} {m:Bool} {x:A} {k:C→MA α} {y:α} {v:Value} (hM:fy E g st w) (hv:VR w g st.O st.R x v) (h:(x.toC m k).run st=some (y,st')) :
  ∃ c st1 g1 bs,fy E g1 st1 w∧sN w w g g1 st.O st.R st1.O st1.R∧Hl g st g1 st1∧(k c).run st1=some (y,st')∧CV w g1.F c v bs∧Tk g st g1 st1 bs:=by
 have frz:(x.toT fun x=>k (.t x)).run st=some (y,st')→∃ c st1 g1 bs,fy E g1 st1 w∧sN w w g g1 st.O st.R st1.O st1.R∧Hl g st g1 st1∧(k c).run st1=some (y,st')∧CV w g1.F c v bs∧Tk g st g1 st1 bs:=by
  intro h
  obtain ⟨t,st1,g1,hM1,hE1,hs1,h1,hr,ho⟩:=Tn hM hv h
  exact ⟨_,st1,g1,[],hM1,hE1,hs1,h1,.t t v hr,Tk.nil _ _ _ _⟩
 unfold A.toC at h
 split at h
 ·rename_i r
  simp only [MA.run] at h
  have hgv:v=g.rw r:=by cases hv; rfl
  subst hgv
  cases hx:st.rw r with
  | none=>simp [hx,MA.run] at h
  | some xx =>
   cases xx with
   | live e sz rows =>
    simp only [hx,MA.run] at h
    obtain ⟨hM1,hE1⟩:=hM.gone_row r _ hx
    have hL:st.L r:=⟨_,_,_,hx⟩
    obtain ⟨inner,hown,hR,hf⟩:=(hM.row r _ hx).rcs
    refine ⟨_,_,g,(g.rw r).ownBlock.toList,hM1,hE1,Hl.gone r,h,.ow e sz rows _ inner hown hR,?_,fun b hb=>?_,fun b hb=>?_⟩
    ·cases (g.rw r).ownBlock <;> simp
    ·exact (hM.row_nf hL (by simpa using hb)).1
    ·refine .inl ⟨r,hL,fun hl=>?_,by simpa using hb⟩
     rcases B5.1 hl with ⟨_,_,_,_,hx⟩ | ⟨h3,_⟩
     ·cases hx
     ·exact h3 rfl
   | frz sz rows =>
    simp only [hx] at h
    exact ⟨_,st,g,[],hM,sN.refl _ _ _ _,Hl.refl _ _,h,.t _ _ (hM.row r _ hx),Tk.nil _ _ _ _⟩
   | gone=>simp [hx,MA.run] at h
 ·cases hv with
  | nil=>exact ⟨_,st,g,[],hM,sN.refl _ _ _ _,Hl.refl _ _,h,.nil,Tk.nil _ _ _ _⟩
 ·exact frz h
theorem Pk {α:Type} {st':St} {m:Bool}:∀ {l:List A} {st:St} {g:Gh} {k:List C→MA α} {y:α} {vs:List Value},fy E g st w→vs.length=l.length→(∀ (j:Nat) (x:A),l[j]?=some x→∃ u,vs[j]?=some u∧VR w g st.O st.R x u)→(Hn m l k).run st=some (y,st') →
  ∃ cs st1 g1 bs,fy E g1 st1 w∧sN w w g g1 st.O st.R st1.O st1.R∧Hl g st g1 st1∧(k cs).run st1=some (y,st')∧To w g1.F cs vs bs∧Tk g st g1 st1 bs
 | [],st,g,k,y,vs,hM,hl,hv,h=>by
  have:vs=[]:=List.eq_nil_of_length_eq_zero hl
  subst this
  exact ⟨[],st,g,[],hM,sN.refl _ _ _ _,Hl.refl _ _,h,.nil,Tk.nil _ _ _ _⟩
 | x :: l,st,g,k,y,vs,hM,hl,hv,h=>by
  obtain ⟨v,vs,rfl⟩:∃ v vs',vs=v :: vs':=by
   cases vs with
   | nil=>simp at hl
   | cons v vs=>exact ⟨v,vs,rfl⟩
  obtain ⟨u,hu,hx⟩:=hv 0 x rfl
  simp at hu
  subst hu
  obtain ⟨c,st1,g1,b1,hM1,hE1,hs1,h1,hc1,ht1⟩:=WB hM hx h
  obtain ⟨cs,st2,g2,b2,hM2,hE2,hs2,h2,hc2,ht2⟩:=Pk hM1 (by simpa using hl) (fun j y hy=>by
   obtain ⟨u,hu,hx⟩:=hv (j+1) y (by simpa using hy)
   exact ⟨u,by simpa using hu,hx.mono hE1⟩) h1
  exact ⟨c :: cs,st2,g2,b1++b2,hM2,hE1.trans hE2,hs1.trans hs2,h2,.cons _ _ _ _ _ _ (hc1.mono hE2.same hE2.F (fun _ _=>rfl)) hc2,ht1.app hM hs1.lnd ht2 hs2.lnd⟩
theorem DR {α:Type} {st':St} {s:Nat} {k:List C→MA α} {y:α} (hM:fy E g st w) (h:(EZ s k).run st=some (y,st')) :
  ∃ cs st1 g1 bs,fy E g1 st1 w∧sN w w g g1 st.O st.R st1.O st1.R∧RR g st g1 st1∧(k cs).run st1=some (y,st')∧VV w g1.F (.ptr cs) (.pointer (some ⟨g.ob s,0,none⟩)) bs∧Tk g st g1 st1 bs∧∀ s',s'≠s→st1.ob s'=st.ob s':=by
 unfold EZ at h
 simp only [MA.run] at h
 split at h
 rotate_left
 ·exact (aM h).elim
 rename_i c cells hc
 obtain ⟨arr,e,hh,hl,hv,hnf⟩:=hM.ob s _ hc
 have hO:st.O s:=by simp [St.O,hc]
 have hvl:(arr.toList.take (c :: cells).length).length=(c :: cells).length:=by
  rw [List.length_take,Array.length_toList]; exact Nat.min_eq_left hl
 obtain ⟨cs,st1,g1,b1,hM1,hE1,hs1,h1,hc1,ht1⟩:=Pk (vs:=arr.toList.take (c :: cells).length) hM hvl (fun j x hj=>by
  obtain ⟨_,u,hu,hr⟩:=hv j x hj
  refine ⟨u,?_,hr⟩
  rw [List.getElem?_take,if_pos (List.getElem?_eq_some_iff.1 hj).1]
  simpa using hu) h
 simp only [MA.run] at h1
 have hc1':st1.ob s=some (c :: cells):=by rw [hs1.eob,hc]
 have hob1:g1.ob s=g.ob s:=by rw [hs1.ob]
 obtain ⟨hM2,hE2⟩:=hM1.set_ob (w':=w) (sO.refl w) s _ [] arr e hc1' (by rw [hob1]; exact hh) (fun _ _ _=>rfl) (by simp) (by simp)
 have hlnd:RR g1 st1 g1 { st1 with ob:=iw st1.ob s (some []) }:=⟨fun _ h=>h,fun s'=>by
  by_cases he:s'=s
  ·subst he; exact .inr ⟨⟨c,cells,hc1'⟩,fZ _ _ _⟩
  ·exact .inl (ed _ _ _ _ he),rfl,rfl,fun _ h=>.inl h,rfl⟩
 have hTk:Tk g1 st1 g1 { st1 with ob:=iw st1.ob s (some []) } [g.ob s]:=⟨by simp,fun b hb=>by
  simp only [List.mem_singleton] at hb
  subst hb
  exact hob1 ▸ (hM1.ob_nf (by simp [St.O,hc1'])).1,fun b hb=>by
  simp only [List.mem_singleton] at hb
  exact .inr ⟨s,⟨c,cells,hc1'⟩,fZ _ _ _,hob1.trans hb.symm⟩⟩
 have hT:=ht1.app hM hs1.lnd hTk hlnd
 refine ⟨cs,_,g1,g.ob s :: b1,hM2,hE1.trans hE2,hs1.lnd.trans hlnd,h1,.ptr cs _ arr e _ b1 hh (by rw [hvl]) (by rw [hvl]; exact hl) hc1,⟨?_,fun b hb=>hT.nf b ?_,fun b hb=>hT.of b ?_⟩,fun s' hs'=>(ed _ _ _ _ hs').trans (by rw [hs1.eob])⟩
 ·have:=hT.nodup
  rw [List.nodup_append] at this
  rw [List.nodup_cons]
  exact ⟨fun hm=>this.2.2 _ hm _ (by simp) rfl,this.1⟩
 ·rcases List.mem_cons.1 hb with rfl | hb <;> simp [*]
 ·rcases List.mem_cons.1 hb with rfl | hb <;> simp [*]
mutual
theorem Tp {α:Type} {st':St} {m:Bool}:∀ (x:A) {st:St} {g:Gh} {k:V→MA α} {y:α} {v:Value},fy E g st w→VR w g st.O st.R x v→(rr m x k).run st=some (y,st') →
  ∃ c st1 g1 bs,fy E g1 st1 w∧sN w w g g1 st.O st.R st1.O st1.R∧Hl g st g1 st1∧(k c).run st1=some (y,st')∧VV w g1.F c v bs∧Tk g st g1 st1 bs∧∀ c',c≠.ptr c':=by
 intro x st g k y v hM hv h
 have cell:(x.toC m fun c=>k (.one c)).run st=some (y,st')→∃ c st1 g1 bs,fy E g1 st1 w∧sN w w g g1 st.O st.R st1.O st1.R∧Hl g st g1 st1∧(k c).run st1=some (y,st')∧VV w g1.F c v bs∧Tk g st g1 st1 bs∧∀ c',c≠.ptr c':=by
  intro h
  obtain ⟨c,st1,g1,bs,hM1,hE1,hs1,h1,hc,ht⟩:=WB hM hv h
  exact ⟨_,st1,g1,bs,hM1,hE1,hs1,h1,.one c v bs hc,ht,by simp⟩
 unfold rr at h
 split at h
 ·rename_i l
  cases hv with
  | agg l vs hl hx =>
   obtain ⟨cs,st1,g1,bs,hM1,hE1,hs1,h1,hc,ht⟩:=Pk hM hl.symm (fun j x hj=>⟨_,List.getElem?_eq_getElem (by rw [← hl]; exact (List.getElem?_eq_some_iff.1 hj).1),hx j x _ hj (List.getElem?_eq_getElem (by rw [← hl]; exact (List.getElem?_eq_some_iff.1 hj).1))⟩) h
   exact ⟨_,st1,g1,bs,hM1,hE1,hs1,h1,.agg cs vs bs hc,ht,by simp⟩
 ·rename_i ts
  cases hv with
  | fadr cells b off u hF hx hr=>exact ⟨_,st,g,[],hM,sN.refl _ _ _ _,Hl.refl _ _,h,.fptr ts b off u hF hx hr,Tk.nil _ _ _ _,by simp⟩
 ·rename_i f caps
  cases hv with
  | clo f caps vs hl hx =>
   obtain ⟨cs,st1,g1,bs,hM1,hE1,hs1,h1,hc,ht⟩:=Pl caps hM hl.symm (fun j x hj=>⟨_,List.getElem?_eq_getElem (by rw [← hl]; exact (List.getElem?_eq_some_iff.1 hj).1),hx j x _ hj (List.getElem?_eq_getElem (by rw [← hl]; exact (List.getElem?_eq_some_iff.1 hj).1))⟩) h
   exact ⟨_,st1,g1,bs,hM1,hE1,hs1,h1,.clo f cs vs bs hc,ht,by simp⟩
 ·rename_i l
  cases hv with
  | tup l vs hl hx =>
   obtain ⟨cs,st1,g1,bs,hM1,hE1,hs1,h1,hc,ht⟩:=Pl l hM hl.symm (fun j x hj=>⟨_,List.getElem?_eq_getElem (by rw [← hl]; exact (List.getElem?_eq_some_iff.1 hj).1),hx j x _ hj (List.getElem?_eq_getElem (by rw [← hl]; exact (List.getElem?_eq_some_iff.1 hj).1))⟩) h
   exact ⟨_,st1,g1,bs,hM1,hE1,hs1,h1,.tup cs vs bs hc,ht,by simp⟩
 ·exact cell h
theorem Pl {α:Type} {st':St} {m:Bool}:∀ (l:List A) {st:St} {g:Gh} {k:List V→MA α} {y:α} {vs:List Value},fy E g st w→vs.length=l.length→(∀ (j:Nat) (x:A),l[j]?=some x→∃ u,vs[j]?=some u∧VR w g st.O st.R x u)→(DP m l k).run st=some (y,st') →
  ∃ cs st1 g1 bs,fy E g1 st1 w∧sN w w g g1 st.O st.R st1.O st1.R∧Hl g st g1 st1∧(k cs).run st1=some (y,st')∧Gz w g1.F cs vs bs∧Tk g st g1 st1 bs
 | [],st,g,k,y,vs,hM,hl,hv,h=>by
  have:vs=[]:=List.eq_nil_of_length_eq_zero hl
  subst this
  unfold DP at h
  exact ⟨[],st,g,[],hM,sN.refl _ _ _ _,Hl.refl _ _,h,.nil,Tk.nil _ _ _ _⟩
 | x :: l,st,g,k,y,vs,hM,hl,hv,h=>by
  obtain ⟨v,vs,rfl⟩:∃ v vs',vs=v :: vs':=by
   cases vs with
   | nil=>simp at hl
   | cons v vs=>exact ⟨v,vs,rfl⟩
  obtain ⟨u,hu,hx⟩:=hv 0 x rfl
  simp at hu
  subst hu
  unfold DP at h
  obtain ⟨c,st1,g1,b1,hM1,hE1,hs1,h1,hc1,ht1,_⟩:=Tp x hM hx h
  obtain ⟨cs,st2,g2,b2,hM2,hE2,hs2,h2,hc2,ht2⟩:=Pl l hM1 (by simpa using hl) (fun j y hy=>by
   obtain ⟨u,hu,hx⟩:=hv (j+1) y (by simpa using hy)
   exact ⟨u,by simpa using hu,hx.mono hE1⟩) h1
  exact ⟨c :: cs,st2,g2,b1++b2,hM2,hE1.trans hE2,hs1.trans hs2,h2,.cons _ _ _ _ _ _ (hc1.mono hE2.same hE2.F (fun _ _=>rfl)) hc2,ht1.app hM hs1.lnd ht2 hs2.lnd⟩
end
inductive tw (g:Gh):List A→List V→List Value→Prop
 | nil:tw g [] [] []
 | obj (s:Nat) (cs:List C) (as:List A) (vs:List V) (us:List Value) (h:tw g as vs us):tw g (.obj s 0 :: as) (.ptr cs :: vs) (.pointer (some ⟨g.ob s,0,none⟩) :: us)
 | oth (a:A) (x:V) (u:Value) (as:List A) (vs:List V) (us:List Value) (ha:∀ s,a≠.obj s 0) (hx:∀ c,x≠.ptr c) (h:tw g as vs us):tw g (a :: as) (x :: vs) (u :: us)
theorem tw.congr {g g1:Gh} (e:g1.ob=g.ob) {as:List A} {vs:List V} {us:List Value} (h:tw g1 as vs us):tw g as vs us:=by
 induction h with
 | nil=>exact .nil
 | obj s cs as vs us h ih=>rw [e]; exact .obj s cs as vs us ih
 | oth a x u as vs us ha hx h ih=>exact .oth a x u as vs us ha hx ih
theorem tw.congr' {g g1:Gh} (e:g1.ob=g.ob) {as:List A} {vs:List V} {us:List Value} (h:tw g as vs us):tw g1 as vs us:=h.congr e.symm
theorem FU {a:A} {r:List A} (h:∀ s,a≠.obj s 0):eW (a :: r)=eW r:=by
 cases a with
 | obj s o =>
  cases o with
  | zero=>exact absurd rfl (h s)
  | succ o=>rfl
 | _=>rfl
theorem SV:∀ {l:List A} {ts:List T},Uw l=some ts→l=ts.map A.t
 | [],ts,h=>by simp [Uw] at h; subst h; rfl
 | x :: l,ts,h=>by
  unfold Uw at h
  split at h
  ·rename_i heq; cases heq
  ·rename_i y r heq
   injection heq with h1 h2
   subst h1 h2
   split at h
   ·rename_i l' hl
    cases h
    rw [SV hl]; rfl
   ·cases h
  ·cases h
theorem WC {α:Type} {y:α} {st':St}:∀ (ts:List T) (k:List C→MA α) (st:St),(Hn true (ts.map A.t) k).run st=(k (ts.map C.t)).run st
 | [],k,st=>rfl
 | t :: ts,k,st=>by
  simp only [List.map_cons,Hn,A.toC,A.toT]
  exact WC (y:=y) (st':=st') ts _ st
theorem Ux {α:Type} {st':St} {s:Nat} {k:List C→MA α} {y:α} (hM:fy E g st w) (h:(I3 s k).run st=some (y,st')) :
  ∃ cs st1 g1 bs,fy E g1 st1 w∧sN w w g g1 st.O st.R st1.O st1.R∧RR g st g1 st1∧(k cs).run st1=some (y,st')∧VV w g1.F (.ptr cs) (.pointer (some ⟨g.ob s,0,none⟩)) bs∧Tk g st g1 st1 bs∧∀ s',s'≠s→st1.ob s'=st.ob s':=by
 apply DR hM
 unfold I3 at h
 unfold EZ
 simp only [MA.run] at h ⊢
 split at h
 ·rename_i c cells hc
  split at h
  ·rename_i ts hts
   have:=SV hts
   rw [this,WC (y:=y) (st':=st')]
   exact h
  ·exact (aM h).elim
 ·exact (aM h).elim
theorem XW {α:Type} {st':St} {b:Bool} {s:Nat} {k:List C→MA α} {y:α} (hM:fy E g st w) (h:(if b then I3 s k else EZ s k).run st=some (y,st')) :
  ∃ cs st1 g1 bs,fy E g1 st1 w∧sN w w g g1 st.O st.R st1.O st1.R∧RR g st g1 st1∧(k cs).run st1=some (y,st')∧VV w g1.F (.ptr cs) (.pointer (some ⟨g.ob s,0,none⟩)) bs∧Tk g st g1 st1 bs∧∀ s',s'≠s→st1.ob s'=st.ob s':=by
 cases b with
 | true=>exact Ux hM h
 | false=>exact DR hM h
theorem Aw {α:Type} {st':St} {m:Bool} {p:Nat→Bool}:∀ (l:List A) {st:St} {g:Gh} {k:List V→MA α} {y:α} {vs:List Value},fy E g st w→vs.length=l.length→(∀ (j:Nat) (x:A),l[j]?=some x→∃ u,vs[j]?=some u∧VR w g st.O st.R x u)→(m1 m p l k).run st=some (y,st') →
  ∃ cs st1 g1 bs,fy E g1 st1 w∧sN w w g g1 st.O st.R st1.O st1.R∧RR g st g1 st1∧(k cs).run st1=some (y,st')∧Gz w g1.F cs vs bs∧Tk g st g1 st1 bs∧tw g l cs vs∧∀ s,st1.ob s≠st.ob s→s∈eW l
 | [],st,g,k,y,vs,hM,hl,hv,h=>by
  have:vs=[]:=List.eq_nil_of_length_eq_zero hl
  subst this
  exact ⟨[],st,g,[],hM,sN.refl _ _ _ _,RR.refl _ _,h,.nil,Tk.nil _ _ _ _,.nil,fun s h=>absurd rfl h⟩
 | x :: l,st,g,k,y,vs,hM,hl,hv,h=>by
  obtain ⟨v,vs,rfl⟩:∃ v vs',vs=v :: vs':=by
   cases vs with
   | nil=>simp at hl
   | cons v vs=>exact ⟨v,vs,rfl⟩
  obtain ⟨u,hu,hx⟩:=hv 0 x rfl
  simp at hu
  subst hu
  have hrest:∀ {st1:St} {g1:Gh},sN w w g g1 st.O st.R st1.O st1.R→∀ (j:Nat) (y:A),l[j]?=some y→∃ u,vs[j]?=some u∧VR w g1 st1.O st1.R y u:=fun hE1 j y hy=>by
   obtain ⟨u,hu,hx⟩:=hv (j+1) y (by simpa using hy)
   exact ⟨u,by simpa using hu,hx.mono hE1⟩
  unfold m1 at h
  split at h
  ·rename_i heq; cases heq
  ·rename_i s r heq
   injection heq with h1 h2
   subst h1 h2
   cases hx with
   | obj s off hs =>
    obtain ⟨c,st1,g1,b1,hM1,hE1,hs1,h1,hc1,ht1,hoo⟩:=XW hM h
    obtain ⟨cs,st2,g2,b2,hM2,hE2,hs2,h2,hc2,ht2,hA,hsl⟩:=Aw l hM1 (by simpa using hl) (hrest hE1) h1
    refine ⟨.ptr c :: cs,st2,g2,b1++b2,hM2,hE1.trans hE2,hs1.trans hs2,h2,.cons _ _ _ _ _ _ (hc1.mono hE2.same hE2.F (fun _ _=>rfl)) hc2,ht1.app hM hs1 ht2 hs2,.obj s c l cs vs ?_,fun s' hs'=>?_⟩
    ·exact hA.congr hs1.ob
    ·simp only [eW,List.mem_cons]
     by_cases he:st2.ob s'=st1.ob s'
     ·rw [he] at hs'
      by_cases h9:s'=s
      ·exact .inl h9
      ·exact absurd (hoo s' h9) hs'
     ·exact .inr (hsl s' he)
  ·rename_i a r hna heq
   injection heq with h1 h2
   subst h1 h2
   obtain ⟨c,st1,g1,b1,hM1,hE1,hs1,h1,hc1,ht1,hnp⟩:=Tp _ hM hx h
   obtain ⟨cs,st2,g2,b2,hM2,hE2,hs2,h2,hc2,ht2,hA,hsl⟩:=Aw l hM1 (by simpa using hl) (hrest hE1) h1
   refine ⟨c :: cs,st2,g2,b1++b2,hM2,hE1.trans hE2,hs1.lnd.trans hs2,h2,.cons _ _ _ _ _ _ (hc1.mono hE2.same hE2.F (fun _ _=>rfl)) hc2,ht1.app hM hs1.lnd ht2 hs2,.oth _ _ _ _ _ _ (fun s he=>hna s he) hnp ?_,fun s' hs'=>?_⟩
   ·exact hA.congr hs1.ob
   ·rw [FU (fun s he=>hna s he)]
    exact hsl s' (by rw [hs1.eob]; exact hs')
end
end Go.Tm
namespace Go.Tm
open Go.RowKit
def Bd {α:Type}:Nat→List V→(List A→MA α)→MA α
 | _,[],k=>k []
 | i,v :: r,k=>V.toA (900+i) ((900+i)*65536) v fun x=>Bd (i+1) r fun xs=>k (x :: xs)
section
variable {P:Program} {E:En} {w:World}
structure GA (E:En) (g:Gh) (st:St) (b:Nat):Prop where
 F:¬ g.F b
 ob:∀ s,st.O s→g.ob s≠b
 row:∀ r,st.L r→(g.rw r).ownBlock≠some b
 X:E.w0.heap.size≤b∨E.X b
structure Gv (E:En) (w:World) (g:Gh) (st:St) (g1:Gh) (st1:St) (bs:List Nat):Prop where
 mem:fy E g1 st1 w
 ext:sN w w g g1 st.O st.R st1.O st1.R
 F:g1.F=g.F
 tm:st1.tm=st.tm
 fr:∀ b,GA E g st b→b∉bs→GA E g1 st1 b
theorem Gv.refl {g:Gh} {st:St} (h:fy E g st w):Gv E w g st g st []:=⟨h,sN.refl _ _ _ _,rfl,rfl,fun _ h _=>h⟩
theorem Gv.trans {g g1 g2:Gh} {st st1 st2:St} {b1 b2:List Nat} (h:Gv E w g st g1 st1 b1) (k:Gv E w g1 st1 g2 st2 b2):Gv E w g st g2 st2 (b1++b2) :=
 ⟨k.mem,h.ext.trans k.ext,k.F.trans h.F,k.tm.trans h.tm,fun b hf hb=>k.fr b (h.fr b hf (fun hx=>hb (by simp [hx]))) (fun hx=>hb (by simp [hx]))⟩
structure Gc (g:Gh) (st:St) (g1:Gh) (st1:St) (bs:List Nat):Prop where
 eob:st1.ob=st.ob
 ob:g1.ob=g.ob
 rows:∀ r b,st1.L r→(g1.rw r).ownBlock=some b→b∈bs∨(st.L r∧(g.rw r).ownBlock=some b)
theorem Gc.refl (g:Gh) (st:St):Gc g st g st []:=⟨rfl,rfl,fun _ _ h1 h2=>.inr ⟨h1,h2⟩⟩
theorem Gc.trans {g g1 g2:Gh} {st st1 st2:St} {b1 b2:List Nat} (h:Gc g st g1 st1 b1) (k:Gc g1 st1 g2 st2 b2):Gc g st g2 st2 (b1++b2) :=
 ⟨k.eob.trans h.eob,k.ob.trans h.ob,fun r b h1 h2=>by
  rcases k.rows r b h1 h2 with h3 | ⟨h3,h4⟩
  ·exact .inl (by simp [h3])
  ·rcases h.rows r b h3 h4 with h5 | h5
   ·exact .inl (by simp [h5])
   ·exact .inr h5⟩
theorem SW {α:Type} {st':St} {g:Gh} {st:St} {d id:Nat} {c:C} {k:A→MA α} {y:α} {v:Value} {bs:List Nat} (hM:fy E g st w) (hc:CV w g.F c v bs) (hf:∀ b∈bs,GA E g st b) (h:(c.toA d id k).run st=some (y,st')) :
  ∃ a st1 g1,Gv E w g st g1 st1 bs∧Gc g st g1 st1 bs∧(k a).run st1=some (y,st')∧VR w g1 st1.O st1.R a v∧a.one=true:=by
 cases hc with
 | t x v hr=>exact ⟨_,st,g,Gv.refl hM,Gc.refl _ _,h,.t x v hr,rfl⟩
 | nil=>exact ⟨_,st,g,Gv.refl hM,Gc.refl _ _,h,.nil,rfl⟩
 | ow e sz rows v inner hown hR =>
  simp only [C.toA] at h
  split at h
  rotate_left
  ·exact (aM h).elim
  simp only [MA.run] at h
  cases hx:st.rw id with
  | some xx=>simp [hx,MA.run] at h
  | none =>
   simp only [hx,MA.run] at h
   have hff:∀ b,v.ownBlock=some b→GA E g st b:=fun b hb=>hf b (by simp [hb])
   have hrow:sI E.w0 w E.X g.F v (.live e sz rows):=hR.rowAt (E:=E) (g:=g) hown (fun b hb=>⟨(hff b hb).F,(hff b hb).X⟩)
   obtain ⟨hM1,hE1⟩:=hM.new_row (w':=w) (sO.refl w) id hx v e sz rows (fun b=>v.ownBlock=some b) (fun _ _ _=>rfl) (fun _ h=>h) (fun b h1 hp=>(hff b hp).X.elim (fun h2=>by omega) (fun h2=>h2))
    (fun b hb=>⟨(hff b hb).F,fun s hs he=>(hff b hb).ob s hs he,(hff b hb).row⟩) hrow
   refine ⟨_,_,_,⟨hM1,hE1,rfl,rfl,fun b hfb hnb=>⟨hfb.F,hfb.ob,fun r hr=>?_,hfb.X⟩⟩,⟨rfl,rfl,fun r b hr hb=>?_⟩,h,?_,rfl⟩
   ·rcases B5.1 hr with ⟨rfl,_⟩ | ⟨h3,h4⟩
    ·simp only [fZ]; intro he; exact hnb (by simp [he])
    ·simp only [ed _ _ _ _ h3]; exact hfb.row r h4
   ·rcases B5.1 hr with ⟨rfl,_⟩ | ⟨h3,h4⟩
    ·simp only [fZ] at hb; exact .inl (by simp [hb])
    ·simp only [ed _ _ _ _ h3] at hb; exact .inr ⟨h4,hb⟩
   ·have:=VR.own (w:=w) (g:={ g with rw:=iw g.rw id v }) (O:=({ st with rw:=iw st.rw id (some (.live e sz rows)) }:St).O) (R:=({ st with rw:=iw st.rw id (some (.live e sz rows)) }:St).R) id (SP.2 (.inl rfl))
    simpa only [fZ] using this
theorem DS {α:Type} {st':St} {d:Nat}:∀ {cs:List C} {id:Nat} {g:Gh} {st:St} {k:List A→MA α} {y:α} {vs:List Value} {bs:List Nat},fy E g st w→To w g.F cs vs bs→bs.Nodup→(∀ b∈bs,GA E g st b)→(K8 d id cs k).run st=some (y,st') →
  ∃ as st1 g1,Gv E w g st g1 st1 bs∧Gc g st g1 st1 bs∧(k as).run st1=some (y,st')∧as.length=vs.length∧∀ (j:Nat) (x:A),as[j]?=some x→x.one=true∧∃ u,vs[j]?=some u∧VR w g1 st1.O st1.R x u
 | [],id,g,st,k,y,vs,bs,hM,hc,hn,hf,h=>by
  cases hc
  exact ⟨[],st,g,Gv.refl hM,Gc.refl _ _,h,rfl,by simp⟩
 | c :: cs,id,g,st,k,y,vs,bs,hM,hc,hn,hf,h=>by
  cases hc with
  | cons c v b cs vs bs h1 h2 =>
   rw [List.nodup_append] at hn
   obtain ⟨a,st1,g1,hG1,hc1,h3,hv,ho⟩:=SW hM h1 (fun x hx=>hf x (by simp [hx])) h
   obtain ⟨as,st2,g2,hG2,hc2,h4,hl,hx⟩:=DS hG1.mem (hG1.F ▸ h2) hn.2.1 (fun x hx=>hG1.fr x (hf x (by simp [hx])) (fun hb=>hn.2.2 x hb x hx rfl)) h3
   refine ⟨a :: as,st2,g2,hG1.trans hG2,hc1.trans hc2,h4,by simp [hl],fun j x hj=>?_⟩
   cases j with
   | zero=>simp at hj; subst hj; exact ⟨ho,v,rfl,hv.mono hG2.ext⟩
   | succ j=>simpa using hx j x (by simpa using hj)
theorem fy.give_ob {g:Gh} {st:St} (h:fy E g st w) (d:Nat) (hd:st.ob d=none) (cells:List A) (b:Nat) (arr:Array Value) (e:TypeId) (hh:w.heap[b]?=some (.cells arr e (0,0))) (hl:cells.length≤arr.size)
  (hv:∀ (j:Nat) (x:A),cells[j]?=some x→x.one=true∧∃ v,arr[j]?=some v∧VR w g st.O st.R x v) (hf:GA E g st b) :
  Gv E w g st { g with ob:=iw g.ob d b } { st with ob:=iw st.ob d (some cells) } [b]:=by
 have hnd:¬ st.O d:=by simp [St.O,hd]
 have hne:∀ s,st.O s→s≠d:=fun s hs he=>hnd (he ▸ hs)
 obtain ⟨hM,hE⟩:=h.step (w':=w) (g':={ g with ob:=iw g.ob d b }) (st':={ st with ob:=iw st.ob d (some cells) }) (sO.refl w) (fun _=>False) (fun b h1 _=>rfl) (fun _ h=>h.elim) (fun _ _ h=>h.elim) (fun _ h=>h) (fun _ h1 h2=>absurd h1 h2)
  (fun s hs=>⟨O_upd.2 (.inr hs),ed _ _ _ _ (hne s hs)⟩) (fun _ h=>⟨h,rfl⟩) (fun s c hs=>by
   by_cases hsd:s=d
   ·subst hsd
    simp only [fZ,Option.some.injEq] at hs ⊢
    subst hs
    exact .inr ⟨arr,e,hh,hl,hv,hf.F,hf.X⟩
   ·simp only [ed _ _ _ _ hsd] at hs
    exact .inl ⟨hs,id,(h.ob_nf (by simp [St.O,hs])).1⟩) (fun s s' hs hs' he=>by
   rcases O_upd.1 hs with rfl | h1
   ·rcases O_upd.1 hs' with rfl | h2
    ·rfl
    ·simp only [fZ,ed _ _ _ _ (hne _ h2)] at he
     exact absurd he.symm (hf.ob _ h2)
   ·rcases O_upd.1 hs' with rfl | h2
    ·simp only [fZ,ed _ _ _ _ (hne _ h1)] at he
     exact absurd he (hf.ob _ h1)
    ·simp only [ed _ _ _ _ (hne _ h1),ed _ _ _ _ (hne _ h2)] at he
     exact h.obne _ _ h1 h2 he) (fun r x hr=>.inl ⟨hr,fun hL b hb'=>⟨id,(h.row_nf hL hb').1⟩⟩) h.rowne (fun r s hr hs=>by
   rcases O_upd.1 hs with rfl | h1
   ·simp only [fZ]; exact hf.row r hr
   ·simp only [ed _ _ _ _ (hne _ h1)]; exact h.rowob r s hr h1)
 refine ⟨hM,hE,rfl,rfl,fun b' hfb hnb=>⟨hfb.F,fun s hs=>?_,hfb.row,hfb.X⟩⟩
 rcases O_upd.1 hs with rfl | h1
 ·simp only [fZ]; intro he; exact hnb (by simp [he])
 ·simp only [ed _ _ _ _ (hne _ h1)]; exact hfb.ob s h1
mutual
theorem Ax {α:Type} {st':St} {d:Nat}:∀ (x:V) {id:Nat} {g:Gh} {st:St} {k:A→MA α} {y:α} {v:Value} {bs:List Nat},fy E g st w→VV w g.F x v bs→bs.Nodup→(∀ b∈bs,GA E g st b)→(V.toA d id x k).run st=some (y,st') →
  ∃ a st1 g1,Gv E w g st g1 st1 bs∧(k a).run st1=some (y,st')∧VR w g1 st1.O st1.R a v
 | .one c,id,g,st,k,y,v,bs,hM,hv,hn,hf,h=>by
  unfold V.toA at h
  cases hv with
  | one c v bs hc =>
   obtain ⟨a,st1,g1,hG,_,h1,hr,_⟩:=SW hM hc hf h
   exact ⟨a,st1,g1,hG,h1,hr⟩
 | .agg l,id,g,st,k,y,v,bs,hM,hv,hn,hf,h=>by
  unfold V.toA at h
  cases hv with
  | agg l vs bs hc =>
   obtain ⟨as,st1,g1,hG,_,h1,hl,hx⟩:=DS hM hc hn hf h
   exact ⟨_,st1,g1,hG,h1,.agg as vs hl (fun i x v hi hv=>by
    obtain ⟨_,u,hu,hr⟩:=hx i x hi
    rw [hv] at hu; cases hu; exact hr)⟩
 | .tup l,id,g,st,k,y,v,bs,hM,hv,hn,hf,h=>by
  unfold V.toA at h
  cases hv with
  | tup l vs bs hc =>
   obtain ⟨as,st1,g1,hG,h1,hl,hx⟩:=Ho l hM hc hn hf h
   exact ⟨_,st1,g1,hG,h1,.tup as vs hl (fun i x v hi hv=>by
    obtain ⟨u,hu,hr⟩:=hx i x hi
    rw [hv] at hu; cases hu; exact hr)⟩
 | .ptr cells,id,g,st,k,y,v,bs,hM,hv,hn,hf,h=>by
  unfold V.toA at h
  cases hv with
  | ptr cells b arr e vs bs hb hl hle hc =>
   rw [List.nodup_cons] at hn
   obtain ⟨as,st1,g1,hG,_,h1,hll,hx⟩:=DS hM hc hn.2 (fun x hx=>hf x (by simp [hx])) h
   simp only [MA.run] at h1
   cases ho:st1.ob d with
   | some c=>simp [ho,MA.run] at h1
   | none =>
    simp only [ho,MA.run] at h1
    have hG2:=hG.mem.give_ob d ho as b arr e hb (by omega) (fun j x hj=>by
     obtain ⟨h2,u,hu,hr⟩:=hx j x hj
     refine ⟨h2,u,?_,hr⟩
     rw [hl,List.getElem?_take] at hu
     split at hu
     ·simpa using hu
     ·cases hu) (hG.fr b (hf b (by simp)) hn.1)
    refine ⟨_,_,_,⟨hG2.mem,hG.ext.trans hG2.ext,hG2.F.trans hG.F,hG2.tm.trans hG.tm,fun b' hfb hnb=>hG2.fr b' (hG.fr b' hfb (fun hx=>hnb (by simp [hx]))) (fun hx=>hnb (by simp at hx; simp [hx]))⟩,h1,?_⟩
    have:=VR.obj (w:=w) (g:={ g1 with ob:=iw g1.ob d b }) (O:=({ st1 with ob:=iw st1.ob d (some as) }:St).O) (R:=({ st1 with ob:=iw st1.ob d (some as) }:St).R) d 0 (O_upd.2 (.inl rfl))
    simpa only [fZ] using this
 | .fptr ts,id,g,st,k,y,v,bs,hM,hv,hn,hf,h=>by
  unfold V.toA at h
  cases hv with
  | fptr cells b off u hF hx hr=>exact ⟨_,st,g,Gv.refl hM,h,.fadr ts b off u hF hx hr⟩
 | .clo f caps,id,g,st,k,y,v,bs,hM,hv,hn,hf,h=>by
  unfold V.toA at h
  cases hv with
  | clo f caps vs bs hc =>
   obtain ⟨as,st1,g1,hG,h1,hl,hx⟩:=Ho caps hM hc hn hf h
   exact ⟨_,st1,g1,hG,h1,.clo f as vs hl (fun i x v hi hv=>by
    obtain ⟨u,hu,hr⟩:=hx i x hi
    rw [hv] at hu; cases hu; exact hr)⟩
theorem Ho {α:Type} {st':St} {d:Nat}:∀ (l:List V) {id:Nat} {g:Gh} {st:St} {k:List A→MA α} {y:α} {vs:List Value} {bs:List Nat},fy E g st w→Gz w g.F l vs bs→bs.Nodup→(∀ b∈bs,GA E g st b)→(DQ d id l k).run st=some (y,st') →
  ∃ as st1 g1,Gv E w g st g1 st1 bs∧(k as).run st1=some (y,st')∧as.length=vs.length∧∀ (j:Nat) (x:A),as[j]?=some x→∃ u,vs[j]?=some u∧VR w g1 st1.O st1.R x u
 | [],id,g,st,k,y,vs,bs,hM,hc,hn,hf,h=>by
  unfold DQ at h
  cases hc
  exact ⟨[],st,g,Gv.refl hM,h,rfl,by simp⟩
 | c :: cs,id,g,st,k,y,vs,bs,hM,hc,hn,hf,h=>by
  unfold DQ at h
  cases hc with
  | cons c v b cs vs bs h1 h2 =>
   rw [List.nodup_append] at hn
   obtain ⟨a,st1,g1,hG1,h3,hv⟩:=Ax c hM h1 hn.1 (fun x hx=>hf x (by simp [hx])) h
   obtain ⟨as,st2,g2,hG2,h4,hl,hx⟩:=Ho cs hG1.mem (hG1.F ▸ h2) hn.2.1 (fun x hx=>hG1.fr x (hf x (by simp [hx])) (fun hb=>hn.2.2 x hb x hx rfl)) h3
   refine ⟨a :: as,st2,g2,hG1.trans hG2,h4,by simp [hl],fun j x hj=>?_⟩
   cases j with
   | zero=>simp at hj; subst hj; exact ⟨v,rfl,hv.mono hG2.ext⟩
   | succ j=>simpa using hx j x (by simpa using hj)
end
theorem K9 {α:Type} {st':St}:∀ (l:List V) {i:Nat} {g:Gh} {st:St} {k:List A→MA α} {y:α} {vs:List Value} {bs:List Nat},fy E g st w→Gz w g.F l vs bs→bs.Nodup→(∀ b∈bs,GA E g st b)→(Bd i l k).run st=some (y,st') →
  ∃ as st1 g1,Gv E w g st g1 st1 bs∧(k as).run st1=some (y,st')∧as.length=vs.length∧∀ (j:Nat) (x:A),as[j]?=some x→∃ u,vs[j]?=some u∧VR w g1 st1.O st1.R x u
 | [],id,g,st,k,y,vs,bs,hM,hc,hn,hf,h=>by
  cases hc
  exact ⟨[],st,g,Gv.refl hM,h,rfl,by simp⟩
 | c :: cs,id,g,st,k,y,vs,bs,hM,hc,hn,hf,h=>by
  unfold Bd at h
  cases hc with
  | cons c v b cs vs bs h1 h2 =>
   rw [List.nodup_append] at hn
   obtain ⟨a,st1,g1,hG1,h3,hv⟩:=Ax c hM h1 hn.1 (fun x hx=>hf x (by simp [hx])) h
   obtain ⟨as,st2,g2,hG2,h4,hl,hx⟩:=K9 cs hG1.mem (hG1.F ▸ h2) hn.2.1 (fun x hx=>hG1.fr x (hf x (by simp [hx])) (fun hb=>hn.2.2 x hb x hx rfl)) h3
   refine ⟨a :: as,st2,g2,hG1.trans hG2,h4,by simp [hl],fun j x hj=>?_⟩
   cases j with
   | zero=>simp at hj; subst hj; exact ⟨v,rfl,hv.mono hG2.ext⟩
   | succ j=>simpa using hx j x (by simpa using hj)
end
end Go.Tm
namespace Go.Tm
open Go.RowKit
def eX {α:Type} (d:Nat):List Nat→List (List C)→MA α→MA α
 | [],[],k=>k
 | s :: ss,c :: cs,k=>K8 d (qay d s 0) c fun as=>.getOb s fun
  | some _=>.setOb s as (eX d ss cs k)
  | none=>.fail
 | _,_,_=>.fail
def BD (P:Program) (o:Oper) (a:Act) (w:World) (R:Value→World→Prop):Prop :=
 ∀ (next:Act→World→Prop) (Q:Exit→Act→World→Prop),(∀ v w',R v w'→next (a.put o.dst v) w')→o.wp P a w next Q
section
variable {P:Program} {E:En} {g:Gh} {st st':St} {a:Act} {w:World}
theorem Uy {o:Oper} {R:Value→World→Prop} (h:∃ v w',EP P o a w v w'∧R v w'):BD P o a w R:=by
 obtain ⟨v,w',h1,h2⟩:=h
 intro next Q hn
 unfold Oper.wp
 rcases h1 with h1 | ⟨h1,rfl⟩
 ·rw [h1]; exact hn v w' h2
 ·rw [h1]; exact hn _ w' h2
theorem lG {o:Oper} {R:Value→World→Prop} {f:FuncId} {xf:Operand} {args:Array Operand} {ts:Array TypeId} {caps:List Value} (ho:o.op=.call { callee:=.value xf,args,argTypes:=ts }) (hf:a.eval xf=.func (.func f) #[] caps.toArray) (hc:wF P f)
  (h:Calls P f (args.toList.map a.eval++caps).toArray w fun e w'=>∃ v,e=.returned v∧R v w'):BD P o a w R:=by
 obtain ⟨fn,hfn,hb,hnm⟩:=hc
 intro next Q hn
 have he:(execOp a.eval o).run P w=.ok (.enter f (args.toList.map a.eval++caps).toArray) w:=by
  have:args.map a.eval++caps.toArray=(args.toList.map a.eval++caps).toArray:=by
   apply Array.ext'
   simp
  have hb':fn.body≠none:=fun h=>by simp [h] at hb
  have hn':fn.name ≠ "runtime.NumGoroutine" := by simpa using hnm
  simp [execOp,ho,resolve,Deferred.ofValue,hf,invoke,callFunc,hfn,hb',hn',this]
 unfold Oper.wp
 rw [he]
 exact h.mono fun e w' ⟨v,hv,hR⟩=>by subst hv; exact hn v w' hR
structure ZZ (E:En) (g:Gh) (st:St) (ss:List Nat) (bs:List Nat):Prop where
 nodup:bs.Nodup
 F:∀ b∈bs,¬ g.F b
 X:∀ b∈bs,E.w0.heap.size≤b∨E.X b
 row:∀ b∈bs,∀ r,st.L r→(g.rw r).ownBlock≠some b
 ob:∀ b∈bs,∀ s,st.O s→g.ob s=b→s∈ss
theorem sP.mem {F:Nat→Prop}:∀ {as:List A} {vs:List V} {us:List Value} {os:List (List C)} {bo:List Nat},tw g as vs us→sP w F vs us os bo→∀ s∈eW as,g.ob s∈bo:=by
 intro as vs us os bo hA
 induction hA generalizing os bo with
 | nil=>intro _ s hs; simp [eW] at hs
 | oth a x u as vs us ha hx hA ih =>
  intro hO s hs
  rw [FU ha] at hs
  cases hO with
  | ptr c c' v bs l vs' os bo h1 h2=>exact absurd rfl (hx c)
  | skip x v l vs' os bo hx' h2=>exact ih h2 s hs
 | obj s' cs as vs us hA ih =>
  intro hO s hs
  cases hO with
  | skip x v l vs' os bo hx' h2=>exact absurd rfl (hx' cs)
  | ptr c c' v bs l vs' os bo h1 h2 =>
   simp only [eW,List.mem_cons] at hs
   rcases hs with rfl | hs
   ·cases h1 with
    | ptr=>simp
   ·exact List.mem_append.2 (.inr (ih h2 s hs))
theorem wH {α:Type} {st':St} {d:Nat}:∀ {as:List A} {vs:List V} {us:List Value} {os:List (List C)} {bo bv:List Nat} {g:Gh} {st:St} {k:MA α} {y:α},fy E g st w→tw g as vs us→sP w g.F vs us os bo→ZZ E g st (eW as) (bo++bv) →
  (eX d (eW as) os k).run st=some (y,st')→∃ st1 g1,fy E g1 st1 w∧sN w w g g1 st.O st.R st1.O st1.R∧g1.F=g.F∧st1.tm=st.tm∧k.run st1=some (y,st')∧ZZ E g1 st1 [] bv
 | [],vs,us,os,bo,bv,g,st,k,y,hM,hA,hO,hI,h=>by
  cases hA
  cases hO
  simp only [eW,eX] at h
  exact ⟨st,g,hM,sN.refl _ _ _ _,rfl,rfl,h,hI⟩
 | a :: as,vs,us,os,bo,bv,g,st,k,y,hM,hA,hO,hI,h=>by
  cases hA with
  | oth a x u as vs us ha hx hA =>
   rw [FU ha] at h hI
   cases hO with
   | ptr c c' v bs l vs' os bo h1 h2=>exact absurd rfl (hx c)
   | skip x v l vs' os bo hx' h2=>exact wH hM hA h2 hI h
  | obj s cs as vs us hA =>
   cases hO with
   | skip x v l vs' os bo hx' h2=>exact absurd rfl (hx' cs)
   | ptr c c' v bs l vs' os bo h1 h2 =>
    have hmem:=sP.mem hA h2
    cases h1 with
    | ptr cells b arr e vals b1 hb hl hle hc =>
     simp only [eW,eX] at h
     have hnd:=hI.nodup
     simp only [List.cons_append,List.nodup_cons,List.append_assoc,List.mem_append,List.nodup_append] at hnd
     obtain ⟨hn1,hn2,⟨hn3,hn4,hn5⟩,hn6⟩:=hnd
     have hb1:∀ x∈b1,GA E g st x:=fun x hx=>by
      have hxm:x∈g.ob s :: b1++bo++bv:=by simp [hx]
      refine ⟨hI.F x hxm,fun s' hs' he=>?_,hI.row x hxm,hI.X x hxm⟩
      have:=hI.ob x hxm s' hs' he
      simp only [eW,List.mem_cons] at this
      rcases this with rfl | h9
      ·exact hn1 (.inl (he ▸ hx))
      ·exact hn6 x hx x (.inl (he ▸ hmem s' h9)) rfl
     obtain ⟨as',st1,g1,hG,hC,h3,hll,hx⟩:=DS hM hc hn2 hb1 h
     simp only [MA.run] at h3
     rw [hC.eob] at h3
     cases hso:st.ob s with
     | none=>simp [hso,MA.run] at h3
     | some c0 =>
      simp only [hso,MA.run] at h3
      have hOs:st.O s:=by simp [St.O,hso]
      obtain ⟨hM2,hE2⟩:=hG.mem.set_ob (w':=w) (sO.refl w) s c0 as' arr e (by rw [hC.eob,hso]) (by rw [hC.ob]; exact hb) (fun _ _ _=>rfl) (by omega) (fun j x hj=>by
       obtain ⟨h4,u,hu,hr⟩:=hx j x hj
       refine ⟨h4,u,?_,hr⟩
       rw [hl,List.getElem?_take] at hu
       split at hu
       ·simpa using hu
       ·cases hu)
      have hO2:∀ s',({ st1 with ob:=iw st1.ob s (some as') }:St).O s'→st.O s':=fun s' h4=>by
       rcases O_upd.1 h4 with rfl | h4
       ·exact hOs
       ·unfold St.O at h4 ⊢; rw [hC.eob] at h4; exact h4
      have hI2:ZZ E g1 { st1 with ob:=iw st1.ob s (some as') } (eW as) (bo++bv):=by
       have up:∀ x,x∈bo++bv→x∈g.ob s :: b1++bo++bv:=fun x hx=>by
        simp only [List.mem_append] at hx
        simp only [List.cons_append,List.append_assoc,List.mem_cons,List.mem_append]
        exact .inr (.inr hx)
       refine ⟨List.nodup_append.2 ⟨hn3,hn4,hn5⟩,fun x hx=>by rw [hG.F]; exact hI.F x (up x hx),fun x hx=>hI.X x (up x hx),fun x hx r hr he=>?_,fun x hx s' hs' he=>?_⟩
       ·rcases hC.rows r x hr he with h9 | ⟨h9,h10⟩
        ·exact hn6 x h9 x (List.mem_append.1 hx) rfl
        ·exact hI.row x (up x hx) r h9 h10
       ·have he':g.ob s'=x:=by rw [← hC.ob]; exact he
        have:=hI.ob x (up x hx) s' (hO2 s' hs') he'
        simp only [eW,List.mem_cons] at this
        rcases this with rfl | h9
        ·exact absurd (by simp only [List.mem_append] at hx; rw [he']; exact .inr hx) hn1
        ·exact h9
      obtain ⟨st3,g3,hM3,hE3,hF3,ht3,h5,hI3⟩:=wH hM2 (hA.congr' hC.ob) (hG.F ▸ h2) hI2 h3
      exact ⟨st3,g3,hM3,(hG.ext.trans hE2).trans hE3,hF3.trans hG.F,ht3.trans hG.tm,h5,hI3⟩
end
end Go.Tm
namespace Go.Tm
open Go.RowKit
section
variable {P:Program} {E:En} [Tb P E] {g:Gh} {st st':St} {a:Act} {w:World}
theorem La {w':World} {F:Nat→Prop}:∀ {as:List A} {vs:List V} {us:List Value} {os:List (List C)} {bo:List Nat},tw g as vs us→sP w' F vs us os bo→∀ s∈eW as,∃ arr e,w'.heap[g.ob s]?=some (.cells arr e (0,0)):=by
 intro as vs us os bo hA
 induction hA generalizing os bo with
 | nil=>intro _ s hs; simp [eW] at hs
 | oth a x u as vs us ha hx hA ih =>
  intro hO s hs
  rw [FU ha] at hs
  cases hO with
  | ptr c c' v bs l vs' os bo h1 h2=>exact absurd rfl (hx c)
  | skip x v l vs' os bo hx' h2=>exact ih h2 s hs
 | obj s' cs as vs us hA ih =>
  intro hO s hs
  cases hO with
  | skip x v l vs' os bo hx' h2=>exact absurd rfl (hx' cs)
  | ptr c c' v bs l vs' os bo h1 h2 =>
   simp only [eW,List.mem_cons] at hs
   rcases hs with rfl | hs
   ·cases h1 with
    | ptr cells b arr e vals b1 hb=>exact ⟨arr,e,hb⟩
   ·exact ih h2 s hs
theorem Vr {n d f:Nat} {m:Bool} {p:Nat→Bool} {o:Oper} {xf:Operand} {args:Array Operand} {ts:Array TypeId} {caps as:List A} {vs:List V} {st1:St} {res:V} {outs:List (List C)} {x:A}
  (hS:vn E g n st a w) (ho:o.op=.call { callee:=.value xf,args,argTypes:=ts }) (hf:st.eval xf=some (.clo f caps)) (nY:dv (args.toList.map st.eval)=some as)
  (hp:(m1 m p (as++caps) MA.ret).run st=some (vs,st1)) (hc:al P f vs res outs) (hr:(eX d (eW (as++caps)) outs (V.toA d (i6 d 0) res MA.ret)).run st1=some (x,st')) :
  BD P o a w fun v w'=>∃ g',Av E g st w x st' v g' w':=by
 have hM:=hS.mem
 obtain ⟨hcl,hcc⟩:=hc
 have hvf:=bW hS hf
 generalize hvv:a.eval xf=vf at hvf
 cases hvf with
 | clo f caps vcaps hl hx =>
  refine lG ho hvv hcl ?_
  obtain ⟨ha1,ha2⟩:=DO hS nY
  obtain ⟨cs,st1',g1,bs,hM1,hE1,hL1,h1,hVV,hT,hA,hsl⟩:=Aw (vs:=args.toList.map a.eval++vcaps) (as++caps) hM (by simp [← ha1,hl]) (fun j y hj=>by
   rw [List.getElem?_append] at hj
   split at hj
   ·rename_i hlt
    have hlt':j < (args.toList.map a.eval).length:=by rw [← ha1]; exact hlt
    exact ⟨_,by rw [List.getElem?_append_left hlt']; exact List.getElem?_eq_getElem hlt',ha2 j y _ hj (List.getElem?_eq_getElem hlt')⟩
   ·rename_i hge
    have hlt:j - as.length < vcaps.length:=by rw [← hl]; exact (List.getElem?_eq_some_iff.1 hj).1
    exact ⟨_,by rw [List.getElem?_append_right (by rw [← ha1]; omega),← ha1]; exact List.getElem?_eq_getElem hlt,hx _ y _ hj (List.getElem?_eq_getElem hlt)⟩) hp
  obtain ⟨rfl,rfl⟩:=ij h1
  have hbsX:∀ b∈bs,b < E.w0.heap.size→E.X b:=fun b hb hlt=>by
   rcases hT.of b hb with ⟨r,h2,_,h4⟩ | ⟨s,⟨c,cs,h2⟩,_,h4⟩
   ·rcases (hM.row_nf h2 h4).2 with h5 | h5
    ·omega
    ·exact h5
   ·rcases (hM.ob_nf (s:=s) (by simp [St.O,h2])).2 with h5 | h5
    ·omega
    ·exact h4 ▸ h5
  refine (hcc w g1.F _ bs (fun b hb=>(hM1.F b hb).1) hVV hT.nodup hT.nf (hM.tbW fun b h1 h2 _ h3=>h2 (hbsX b h3 h1))).mono fun e w' ⟨v,F',bv,bo,he,hcalm,hsame,hFF,hF',hvr,hO,hnd,hex⟩=>⟨v,he,?_⟩
  -- the caller's memory behind the call
  have hbsrow:∀ b∈bs,∀ r,st1.L r→(g1.rw r).ownBlock≠some b:=fun b hb r hr he=>by
   rw [hL1.rw] at he
   rcases hT.of b hb with ⟨r',h2,h3,h4⟩ | ⟨s,⟨c,cs,h2⟩,_,h4⟩
   ·exact h3 (hM.rowne r r' b (hL1.L r hr) h2 he h4 ▸ hr)
   ·exact hM.rowob r s (hL1.L r hr) (by simp [St.O,h2]) (h4 ▸ he)
  have hbsob:∀ b∈bs,∀ s,st1.O s→g1.ob s=b→st1.ob s=some []∧s∈eW (as++caps):=fun b hb s hs he=>by
   rw [hL1.ob] at he
   have hs':st.O s:=(hL1.O s).1 hs
   rcases hT.of b hb with ⟨r',h2,h3,h4⟩ | ⟨s',⟨c,cs,h2⟩,h3,h4⟩
   ·exact absurd (he ▸ h4) (hM.rowob r' s h2 hs')
   ·have:=hM.obne s s' hs' (by simp [St.O,h2]) (he.trans h4.symm)
    subst this
    exact ⟨h3,hsl s (by rw [h3,h2]; simp)⟩
  have hF0:∀ b,b < w.heap.size→F' b→g1.F b∨b∈bs:=fun b h2 h3=>(hF' b h3).2.1 h2
  have hA1:tw g1 (as++caps) vs (args.toList.map a.eval++vcaps):=hA.congr' hL1.ob
  have hexF:∀ b∈bs,F' b→False∨True:=fun _ _ _=>.inr trivial
  have hlentF:∀ s,s∈eW (as++caps)→g1.ob s∈bo:=sP.mem hA1 hO
  obtain ⟨hM2,hE2⟩:=hM1.step (w':=w') (g':={ g1 with F:=F' }) (st':=st1) hcalm (fun b=>b∈bs) (fun b h2 h3=>hsame b h2 h3) (fun b hb=>hT.nf b hb) (fun b h2 h3=>hbsX b h3 h2) hFF
   (fun b h2 h3=>⟨(hF' b h2).1,fun hlt=>(hF0 b (Nat.lt_of_lt_of_le hlt hM1.sizes) h2).elim (fun h4=>absurd h4 h3) (fun h4=>.inr (hbsX b h4 hlt)),.inr ((hF' b h2).2.2.resolve_left h3)⟩) (fun _ h=>⟨h,rfl⟩) (fun _ h=>⟨h,rfl⟩)
   (fun s cells hs=>by
    have hOs:st1.O s:=by simp [St.O,hs]
    by_cases hb:g1.ob s∈bs
    ·obtain ⟨h5,h6⟩:=hbsob _ hb s hOs rfl
     rw [hs] at h5
     cases h5
     obtain ⟨arr,e,hh⟩:=La hA1 hO s h6
     refine .inr ⟨arr,e,hh,by simp,by simp,?_,(hM1.ob_nf hOs).2⟩
     exact (hex _ (List.mem_append.2 (.inr (hlentF s h6)))).1
    ·refine .inl ⟨hs,hb,fun hf=>?_⟩
     rcases hF0 _ (hM1.ob_lt hOs) hf with h5 | h5
     ·exact (hM1.ob_nf hOs).1 h5
     ·exact hb h5) hM1.obne
   (fun r x hr=>.inl ⟨hr,fun hL b hb=>⟨fun hm=>hbsrow b hm r hL hb,fun hf=>by
    rcases hF0 b (hM1.row_lt hL hb) hf with h5 | h5
    ·exact (hM1.row_nf hL hb).1 h5
    ·exact hbsrow b h5 r hL hb⟩⟩) hM1.rowne hM1.rowob
  have hI:ZZ E { g1 with F:=F' } st1 (eW (as++caps)) (bo++bv):=by
   have hm:∀ x,x∈bo++bv→x∈bv++bo:=fun x hx=>by
    rcases List.mem_append.1 hx with h | h <;> simp [h]
   refine ⟨?_,fun b hb=>(hex b (hm b hb)).1,fun b hb=>?_,fun b hb r hr he=>?_,fun b hb s hs he=>?_⟩
   ·rw [List.nodup_append] at hnd ⊢
    exact ⟨hnd.2.1,hnd.1,fun x hx y hy h=>hnd.2.2 y hy x hx h.symm⟩
   ·rcases (hex b (hm b hb)).2 with h5 | h5
    ·exact .inl (Nat.le_trans hM1.sizes h5)
    ·by_cases hlt:b < E.w0.heap.size
     ·exact .inr (hbsX b h5 hlt)
     ·exact .inl (by omega)
   ·rcases (hex b (hm b hb)).2 with h5 | h5
    ·exact absurd (hM1.row_lt hr he) (by omega)
    ·exact hbsrow b h5 r hr he
   ·rcases (hex b (hm b hb)).2 with h5 | h5
    ·exact absurd (hM1.ob_lt hs) (by have:g1.ob s=b:=he; omega)
    ·exact (hbsob b h5 s hs he).2
  have hA2:tw { g1 with F:=F' } (as++caps) vs (args.toList.map a.eval++vcaps):=hA1.congr' (g:=g1) (g1:={ g1 with F:=F' }) rfl
  obtain ⟨st2,g2,hM3,hE3,hF3,ht3,h6,hI3⟩:=wH (w:=w') hM2 hA2 hO hI hr
  obtain ⟨x',st3,g3,hG,h7,hvx⟩:=Ax (w:=w') res hM3 (by rw [hF3]; exact hvr) hI3.nodup (fun b hb=>⟨hI3.F b hb,fun s hs he=>by have:=hI3.ob b hb s hs he; simp at this,hI3.row b hb,hI3.X b hb⟩) h6
  obtain ⟨rfl,rfl⟩:=ij h7
  exact ⟨g3,hG.mem,hvx,((hE1.trans hE2).trans hE3).trans hG.ext,hG.tm.trans (ht3.trans hL1.tm)⟩
end
end Go.Tm
