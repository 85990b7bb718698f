/- The abstract machine tells the truth of the translated code. -/
import Derived.Calls
import Derived.Below
import Derived.RowKit3
import Derived.KernelRfl
import Derived.Laws.BytesArg
import Derived.Lib.ItoaMem
import Derived.Laws.MakeOwn
import Derived.Laws.OwnMore
import Derived.Laws.CopyRow
import Derived.Laws.Tables
import Derived.Maps.AppendAt
import Derived.Laws.Entries
import Derived.Laws.StructEq
import Derived.Laws.Small
import Derived.Laws.IdiomCopy
import Derived.Laws.Cover3
set_option linter.unusedVariables false
set_option linter.unusedSimpArgs false
open Array renaming getElem?_eq_getElem->zYW,getElem?_toList->zXV,length_toList->zQv,toArray_toList->zWG
open Bool renaming and_eq_true->sk,false_eq_true->zQk,false_or->zZj
open Int renaming eq_ofNat_of_zero_le->zQH,pow_succ->zXh,toNat_natCast->rg
open List renaming all_eq_true->zYJ,append_assoc->zQX,append_nil->zWW,cons_append->zXy,drop_eq_getElem_cons->zXq,drop_of_length_le->zYQ,eq_nil_of_length_eq_zero->zQW,getD_eq_getElem?_getD->zZZ,getElem?_append->zWK,getElem?_append_left->zQQ,getElem?_append_right->r0,getElem?_cons_zero->zQh,getElem?_drop->zQJ,getElem?_eq_getElem->sX,getElem?_eq_none->zXK,getElem?_map->zQz,getElem?_range->zZQ,getElem?_replicate->zZx,getElem?_set->zXZ,getElem?_take->zQK,getElem?_toArray->zVJ,getElem_mem->zYH,length_append->zQG,length_cons->zQw,length_nil->zWv,length_replicate->zXz,length_set->zYV,length_take->zQx,map_cons->zWh,map_toArray->zZq,mem_append->zWk,mem_cons->zYx,mem_cons_of_mem->zQj,mem_cons_self->zWQ,mem_map->zXg,mem_of_getElem?->zQY,mem_of_mem_take->zXQ,mem_singleton->zQy,nil_append->zWH,nodup_append->zXk,range->zXW,replicate->zQZ,size_toArray->zVZ,take_append_drop->zXv,take_of_length_le->zWx,take_take->zZw
open Nat renaming add_assoc->zZX,add_mul->zYz,add_zero->zXx,beq->zXX,eq_zero_or_pos->zYY,le_refl->zWJ,le_trans->zXw,lt_of_lt_of_le->zWV,min_eq_left->zWq,mul_le_mul_right->zQq,mul_one->zVG,succ_mul->zXY,zero_add->zQg,zero_le->zYy
open Option renaming bind_some->wk,getD_some->zYG,map_eq_some_iff->zWj,map_some->zWY
open BitVec renaming ofInt->sa
open List renaming getElem?_eq_some_iff->sr
open List renaming mem_append->An
open Option renaming isSome_iff_exists->DQ
open List renaming all_eq_true->KB
open Array renaming getElem?_eq_some_iff->Wk
open List renaming mem_cons->aaa
namespace Go.Tm
theorem ak{p:Prop}(k:p:=by omega):p:=k
theorem kU{p:Prop}(k:p:=by simp):p:=k
theorem lv{p:Prop}(k:p:=by simp; omega):p:=k
theorem Do{p:Prop}(k:p:=by cases h):p:=k
theorem Qh{p:Prop}(k:p:=by decide):p:=k
theorem Tq{p:Prop}(k:p:=by simp [hx]):p:=k
theorem Tw{p:Prop}(k:p:=by simpa using hl):p:=k
theorem WN{p:Prop}(k:p:=by simpa using hj):p:=k
theorem WP{p:Prop}(k:p:=by simp [hz]):p:=k
theorem Ys{p:Prop}(k:p:=by obtain ⟨_,_,_,h⟩:=h; cases h):p:=k
theorem Qi{p:Prop}(k:p:=by simp [St.O,h2]):p:=k
theorem Tx{p:Prop}(k:p:=by simpa using hy):p:=k
theorem Ty{p:Prop}(k:p:=by simpa using hle):p:=k
theorem Tz{p:Prop}(k:p:=by simp [h]):p:=k
theorem TA{p:Prop}(k:p:=by simpa using hlt):p:=k
theorem TB{p:Prop}(k:p:=by rw [e]; simp only [zQX,zWH]; rfl):p:=k
theorem qbh{p:Prop}(k:p:=by rw [hs]; rfl):p:=k
theorem VH{p:Prop}(k:p:=by cases h.1):p:=k
theorem WQ{p:Prop}(k:p:=by simp [St.O,hs]):p:=k
theorem WR{p:Prop}(k:p:=by simpa [St.O] using (by rw [hs]; rfl)):p:=k
theorem WS{p:Prop}(k:p:=by simp [hown.1]; omega):p:=k
theorem WT{p:Prop}(k:p:=by simp [Value.ownBlock]):p:=k
theorem WU{p:Prop}(k:p:=by simp [execOp,ho,hvv]):p:=k
theorem WV{p:Prop}(k:p:=by rw [<- ha1]; omega):p:=k
theorem WW{p:Prop}(k:p:=by simpa using hx):p:=k
theorem Yt{p:Prop}(k:p:=by simp [<- ha1,hl]):p:=k
theorem Yu{p:Prop}(k:p:=by simpa using h3):p:=k
theorem Yv{p:Prop}(k:p:=by unfold iP; omega):p:=k
theorem Yw{p:Prop}(k:p:=by simp only [zVZ]; omega):p:=k
theorem Yx{p:Prop}(k:p:=by rw [zXh]; omega):p:=k
theorem ZQ{p:Prop}(k:p:=by rw [(e.R r hr).2]; exact he):p:=k
theorem ZR{p:Prop}(k:p:=by rw [zQv]; omega):p:=k
theorem ZS{p:Prop}(k:p:=by have:g1.ob s=b:=he; omega):p:=k
theorem ZT{p:Prop}(k:p:=by unfold V.plain at hp; exact hp):p:=k
theorem ZU{p:Prop}(k:p:=by obtain ⟨_,_,_,h⟩:=hr; cases h):p:=k
theorem ZV{p:Prop}(k:p:=by have:=win_le b i n; omega):p:=k
theorem ZW{p:Prop}(k:p:=by rw [worldTick_t]; omega):p:=k
theorem ZX{p:Prop}(k:p:=by rw [e]; simp only [zQX,zWH]):p:=k
theorem qaB{p:Prop}(k:p:=by simp [execOp,ho,resolve,invoke,builtin,Builtin.len_,run_underlying hu,hvv,goInt]):p:=k
theorem qaC{p:Prop}(k:p:=by rw [hd]; simp [nk,has,iP,Nat.mul_div_cancel]):p:=k
theorem qaD{p:Prop}(k:p:=by simp only [Op.operands,zXg]; exact ⟨q,hq,rfl⟩):p:=k
theorem qaE{p:Prop}(k:p:=by rw [hvl,show Nat.min 1 (n+1 - i)=1 by simp only [Nat.min_def]; split <;> omega,Nat.one_mul]):p:=k
theorem qaF{p:Prop}(k:p:=by unfold iI; have:=blocks_range m.ar b.length; simp; omega):p:=k
theorem qaG{p:Prop}(k:p:=by have:=dep_up ht (k:=j) (by omega) (by omega); omega):p:=k
inductive T where
 | int (k:IntKind) (n:Int)
 | bool (b:Bool)
 | str (s:ByteArray)
 | sl (sz:Nat) (rows:List (List T))
 | nilf
 | hdr (a:Option Addr) (n c:Nat)
 deriving Inhabited
inductive A where
 | t (x:T)
 | nil
 | own (r:Nat)
 | agg (l:List A)
 | tup (l:List A)
 | obj (s off:Nat)
 | elem (r sz i off:Nat)
 | sub (r sz lo:Nat)
 | win (r lo m:Nat)
 | fadr (cells:List T)
 | nn (sz:Nat) (rows:List (List T))
 | ext (s:Bool) (x:T)
 | exa (s:Bool) (cells:List T)
 | shp (x:T)
 | clo (f:FuncId) (caps:List A)
 | undef
 | raw (v:Value)
 | osl (s:Nat) (a:Option Addr) (n c:Nat)
 deriving Inhabited
inductive TC where
 | live (e sz:Nat) (rows:List (List T))
 | frz (sz:Nat) (rows:List (List T))
 | gone
structure St where
 tm:Nat->A
 ob:Nat->Option (List A)
 rw:Nat->Option TC
def jr{α:Type}(f:Nat->α)(k:Nat)(v:α):Nat->α:=λj=>if j=k then v else f j
theorem ig{α:Type}(f:Nat->α)(k:Nat)(v:α):jr f k v k=v:=by simp [jr]
theorem fu{α:Type}(f:Nat->α)(k j:Nat)(v:α)(h:j≠k):jr f k v j=f j:=by simp [jr,h]
def St.put(st:St)(d:Option Nat)(v:A):St:=match d with | some d=>{ st with tm:=jr st.tm d v } | none=>st
inductive MA (α:Type) where
 | ret (v:α)
 | fail
 | getOb (s:Nat) (k:Option (List A)->MA α)
 | getRw (r:Nat) (k:Option TC->MA α)
 | setOb (s:Nat) (c:List A) (k:MA α)
 | setRw (r:Nat) (x:TC) (k:MA α)
def MA.run{α:Type}:MA α->St->Option (α×St)
 | .ret v,st=>some (v,st)
 | .fail,_=>none
 | .getOb s k,st=>(k (st.ob s)).run st
 | .getRw r k,st=>(k (st.rw r)).run st
 | .setOb s c k,st=>k.run { st with ob:=jr st.ob s (some c) }
 | .setRw r x k,st=>k.run { st with rw:=jr st.rw r (some x) }
def qc:Value->Option A
 | .int k n=>some (.t (.int k n))
 | .bool b=>some (.t (.bool b))
 | .string s=>some (.t (.str s))
 | .slice none 0 0=>some .nil
 | .nilFunc=>some (.t .nilf)
 | _=>none
def ef{α:Type}:List (Option α)->Option (List α)
 | []=>some []
 | x :: r=>match x,ef r with | some x,some r=>some (x :: r) | _,_=>none
def A.ofValue:Value->Option A
 | .agg cs=>match ef (cs.toList.map qc) with | some l=>some (.agg l) | none=>none
 | .pointer none=>some .undef
 | v=>qc v
def A.cells:A->List A
 | .agg l=>l
 | a=>[a]
def A.one:A->Bool
 | .agg _ | .tup _ | .undef | .raw _=>false
 | _=>true
def St.eval(st:St):Operand->Option A
 | .tmp t=>some (st.tm t)
 | .const v=>A.ofValue v
 | .func f=>some (.clo f [])
 | .global _=>none
section types
variable (P:Program)
def CP(t:TypeId):Option (Option Value×Nat×Nat):=(P.info? t).map λi=>(i.zero,i.size,i.bytes)
def i6(t:TypeId):Option Nat:=match CP P t with | some (_,n,_)=>some n | none=>none
def uT(t:TypeId):Option (List A):=match CP P t with
 | some (some z,_,_)=>ef (z.cells.toList.map qc)
 | _=>none
def RH(t:TypeId):Option Bool:=match P.underlying t with
 | some (.struct _)=>some true
 | some (.array ..) | none=>none
 | _=>some false
end types
def A.toT{α:Type}(a:A)(k:T->MA α):MA α:=match a with
 | .t x=>k x
 | .nil=>k (.sl 0 [])
 | .own r=>.getRw r fun
  | some (.live _ sz rows)=>.setRw r (.frz sz rows) (k (.sl sz rows))
  | some (.frz sz rows)=>k (.sl sz rows)
  | _=>.fail
 | _=>.fail
def fg{α:Type}:List A->(List T->MA α)->MA α
 | [],k=>k []
 | a :: r,k=>a.toT λx=>fg r λxs=>k (x :: xs)
def ni:List Nat->List A->List A
 | n :: ns,.nil :: r=>.t (.sl n []) :: ni ns r
 | _ :: ns,a :: r=>a :: ni ns r
 | _,l=>l
def ZG(P:Program):Nat->TypeId->List Nat
 | 0,_=>[]
 | k+1,t=>match P.underlying t with
  | some (.struct fs)=>fs.toList.flatMap λf=>ZG P k f.type
  | some (.slice e)=>match i6 P e with | some n=>[n] | none=>[0]
  | _=>match i6 P t with | some n=>zQZ n 0 | none=>[]
def Hp(P:Program)(t:TypeId):List Nat:=ZG P 8 t
def spl{α:Type}(l:List α)(off:Nat)(cs:List α):List α:=l.take off++cs++l.drop (off+cs.length)
def F7(agg:Bool)(n:Nat)(l:List A)(off:Nat):Option A :=
 if off+n<=l.length then if agg then some (.agg ((l.drop off).take n)) else if n=1 then l[off]? else none else none
def isB(P:Program)(t:TypeId):Bool:=match P.underlying t with | some .bool=>true | _=>false
def Dh(tb:Bool)(op:BinOp)(x y:T):Option T:=match x,y with
 | .int k a,.int k' b=>match op with
  | .shl=>if 0<=b then some (.int k (k.wrap (a*2 ^ min b.toNat k.bits))) else none
  | .shr=>if 0<=b then some (.int k (a.fdiv (2 ^ min b.toNat k.bits))) else none
  | _=>if k=k' then match op with
   | .add=>some (.int k (k.wrap (a+b)))
   | .sub=>some (.int k (k.wrap (a - b)))
   | .mul=>some (.int k (k.wrap (a*b)))
   | .quo=>if b=0 then none else some (.int k (k.wrap (a.tdiv b)))
   | .rem=>if b=0 then none else some (.int k (a.tmod b))
   | .and=>some (.int k (k.wrap (sa k.bits a &&& sa k.bits b).toNat))
   | .or=>some (.int k (k.wrap (sa k.bits a ||| sa k.bits b).toNat))
   | .xor=>some (.int k (k.wrap (sa k.bits a ^^^ sa k.bits b).toNat))
   | .andNot=>some (.int k (k.wrap (sa k.bits a &&& ~~~ sa k.bits b).toNat))
   | .eql=>some (.bool (a == b))
   | .neq=>some (.bool (a != b))
   | .lss=>some (.bool (decide (a < b)))
   | .leq=>some (.bool (decide (a<=b)))
   | .gtr=>some (.bool (decide (a > b)))
   | .geq=>some (.bool (decide (a>=b)))
   | _=>none
   else none
 | .str a,.str b=>match op with
  | .add=>if a.size+b.size<=9223372036854775807 then some (.str (a++b)) else none
  | .eql=>some (.bool (a.toList == b.toList))
  | .neq=>some (.bool (!(a.toList == b.toList)))
  | _=>none
 | .bool a,.bool b=>if tb then match op with
  | .eql=>some (.bool (a == b))
  | .neq=>some (.bool (!(a == b)))
  | _=>none
  else none
 | _,_=>none
def TD:List A->Option (List Int)
 | []=>some []
 | .t (.int .i64 n) :: r=>match TD r with | some l=>some (n :: l) | none=>none
 | _ :: _=>none
def Yy(P:Program):Nat->List Field->Bool
 | _,[]=>true
 | k,f :: r=>f.name != "_" && f.offset == k && (match P.underlying f.type with | some (.int .i64)=>true | _=>false) && Yy P (k+1) r
def ZY(P:Program)(t:TypeId):Option Nat:=match P.underlying t with
 | some (.struct fs)=>if !P.stoodInHeld t && !P.eqGuardType P.depth t && Yy P 0 fs.toList then some fs.size else none
 | _=>none
def Hq(P:Program)(s:TypeId)(f:Nat):Option (Nat×TypeId):=match P.underlying s with
 | some (.struct fs)=>match fs[f]? with
  | some f=>match i6 P f.type with | some n=>if n=0 then none else some (f.offset,f.type) | none=>none
  | none=>none
 | _=>none
def Hr(P:Program):List Field->Option (List (Nat×Nat))
 | []=>some []
 | f :: r=>match i6 P f.type,Hr P r with | some n,some l=>some ((f.offset,n) :: l) | _,_=>none
def Mw(P:Program)(t:TypeId):Option (List (Nat×Nat)):=match P.underlying t with
 | some (.struct fs)=>Hr P fs.toList
 | _=>none
def Pj(pl:List (Nat×Nat)):List A->List (Nat×A)->Option (List A)
 | cs,[]=>some cs
 | cs,(f,x) :: r=>match pl[f]? with
  | some (off,n)=>if x.cells.length=n/\off+n<=cs.length/\x.cells.all A.one then Pj pl (spl cs off x.cells) r else none
  | none=>none
def Mx{α:Type}(lb:List Nat)(sz:Nat):List (List T)->List (Nat×A)->(List (List T)->MA α)->MA α
 | rows,[],k=>k rows
 | rows,(i,x) :: r,k=>if x.cells.length=sz/\i < rows.length then fg (ni lb x.cells) λts=>Mx lb sz (rows.set i ts) r k else .fail
def iP(d k:Nat):Nat:=d*65536+k
def qbi(d s k:Nat):Nat:=d*65536+1024+s*64+k
def T.sc:T->Bool
 | .sl ..=>false
 | _=>true
def TE(rows:List (List T)):Bool:=rows.all λr=>r.all T.sc
def A.rows{α:Type}(a:A)(k:Nat->List (List T)->MA α):MA α:=match a with
 | .t (.sl sz rows)=>k sz rows
 | .ext false (.sl sz rows)=>if TE rows then k sz rows else .fail
 | .nil=>k 0 []
 | .own r=>.getRw r fun
  | some (.live _ sz rows)=>k sz rows
  | some (.frz sz rows)=>k sz rows
  | _=>.fail
 | _=>.fail
def yV(r e sz:Nat)(rows:List (List T)):MA A:=.getRw r fun
 | none=>.setRw r (.live e sz rows) (.ret (.own r))
 | some _=>.fail
def RI(d:Nat)(cells:List A):MA A:=.getOb d fun
 | none=>if cells.all A.one then .setOb d cells (.ret (.obj d 0)) else .fail
 | some _=>.fail
def Ds:List (List T)->Option (List Int)
 | []=>some []
 | [.int .u8 n] :: r=>match Ds r with | some l=>some (n :: l) | none=>none
 | _ :: _=>none
inductive fy where
 | any | obj (s:Nat) | own (d:Nat) | row | frz | el (d:Nat) | win (d:Nat)
 deriving DecidableEq
def A.leafy:A->Bool
 | .t _ | .nil | .ext .. | .undef | .shp _=>true
 | _=>false
def fy.fits:fy->A->Bool
 | .any,_=>true
 | .obj s,.obj s' _=>s == s'
 | .own d,.own r=>r / 65536 == d
 | .own _,.nil=>true
 | .own d,.agg l=>l.all λx=>match x with | .own r=>r / 65536 == d | x=>x.leafy
 | .row,.elem ..=>true
 | .el d,.elem r _ _ _=>r / 65536 == d
 | .win d,.sub r _ _=>r / 65536 == d
 | .win d,.win r _ _=>r / 65536 == d
 | .frz,.osl .. | .frz,.fadr _ | .frz,.t _ | .frz,.nil | .frz,.exa .. | .frz,.ext .. | .frz,.shp _=>true
 | .frz,.agg l=>l.all A.leafy
 | _,_=>false
def eV(ρ:Nat->fy)(st:St)(o:Oper):Bool:=o.op.operands.toList.all λ| .tmp t=>(ρ t).fits (st.tm t) | _=>true
def Yz(s:Bool):T->A
 | .sl sz rows=>.ext s (.sl sz rows)
 | x=>if s then .ext true x else .t x
def qaH:T->T->Bool
 | .int k _,.int k' _=>k == k'
 | .bool _,.bool _=>true
 | _,_=>false
def qaI(cells:List T)(x:List A):Bool:=match cells,x with
 | z :: _,[.t y]=>qaH z y
 | _,_=>false
def I4(P:Program)(t:TypeId)(a:A):MA A :=
 match RH P t,i6 P t with
 | some g,some n=>match a with
  | .obj s off=>.getOb s fun
   | some cells=>match F7 g n cells off with | some v=>.ret v | none=>.fail
   | none=>.fail
  | .elem r sz i off=>.getRw r fun
   | some (.live _ sz' rows) | some (.frz sz' rows)=>if sz=sz' then match rows[i]? with
    | some row=>match F7 g n (row.map A.t) off with | some v=>.ret v | none=>.fail
    | none=>.fail
    else .fail
   | _=>.fail
  | .fadr cells=>match F7 g n (cells.map A.t) 0 with | some v=>.ret v | none=>.fail
  | .exa s cells=>match F7 g n (cells.map (Yz s)) 0 with | some v=>.ret v | none=>.fail
  | _=>.fail
 | _,_=>.fail
def Cf(P:Program)(t:TypeId)(a x:A):MA A :=
 match i6 P t with
 | some n=>if x.cells.length=n/\x.cells.all A.one then match a with
  | .obj s off=>.getOb s fun
   | some cells=>if off+n<=cells.length then .setOb s (spl cells off x.cells) (.ret .undef) else .fail
   | none=>.fail
  | .elem r sz i off=>fg (ni (Hp P t) x.cells) λts=>.getRw r fun
   | some (.live e sz' rows)=>if sz=sz' then match rows[i]? with
    | some row=>if off+n<=row.length then .setRw r (.live e sz (rows.set i (spl row off ts))) (.ret .undef) else .fail
    | none=>.fail
    else .fail
   | _=>.fail
  | .exa true cells=>if qaI cells x.cells then .ret .undef else .fail
  | _=>.fail
  else .fail
 | none=>.fail
def My(a:A)(off:Nat):MA A:=match a with
 | .obj s o=>.ret (.obj s (o+off))
 | .elem r sz i o=>.ret (.elem r sz i (o+off))
 | .fadr cells=>.ret (.fadr (cells.drop off))
 | .exa s cells=>.ret (.exa s (cells.drop off))
 | _=>.fail
def Cg(n:Nat)(i:Int)(sz:Nat)(rows:List (List T)):MA A :=
 if sz=n/\0<=i then match rows[i.toNat]? with | some row=>.ret (.fadr row) | none=>.fail else .fail
def Hs(s:Bool)(n:Nat)(i:Int)(sz:Nat)(rows:List (List T)):MA A :=
 if sz=n/\0<=i then match rows[i.toNat]? with | some row=>.ret (.exa s row) | none=>.fail else .fail
def mI(P:Program)(t:TypeId)(x i:A):MA A :=
 match P.underlying t,i with
 | some (.slice e),.t (.int _ i)=>match i6 P e with
  | some n=>match x with
   | .t (.sl sz rows)=>Cg n i sz rows
   | .ext s (.sl sz rows)=>Hs s n i sz rows
   | .osl s _ len _=>if n=1/\0<=i/\i.toNat < len then .ret (.obj s i.toNat) else .fail
   | .own r=>.getRw r fun
    | some (.live _ sz rows)=>if sz=n/\0<=i/\i.toNat < rows.length then .ret (.elem r sz i.toNat 0) else .fail
    | some (.frz sz rows)=>Cg n i sz rows
    | _=>.fail
   | _=>.fail
  | none=>.fail
 | _,_=>.fail
def I5(ev:Operand->Option A):Option Operand->Option (Option A)
 | none=>some none
 | some l=>(ev l).map some
def yr(d:Nat):Option A->Option Int
 | none=>some d
 | some (.t (.int _ i))=>some i
 | _=>none
def AL(P:Program)(t:TypeId)(x:A)(lo hi:Option A):MA A :=
 match P.underlying t,x with
 | some .string,.t (.str s)=>match yr 0 lo,yr s.size hi with
  | some l,some h=>if 0<=l/\l<=h/\h<=s.size then .ret (.t (.str (s.extract l.toNat h.toNat))) else .fail
  | _,_=>.fail
 | some (.slice e),.ext s (.sl sz rows)=>match i6 P e,yr 0 lo,yr rows.length hi with
  | some n,some l,some h=>if sz=n/\0<=l/\l<=h/\h<=rows.length then .ret (.ext s (.sl sz ((rows.take h.toNat).drop l.toNat))) else .fail
  | _,_,_=>.fail
 | some (.slice e),x=>match i6 P e with
  | some n=>x.toT fun
   | .sl sz rows=>match yr 0 lo,yr rows.length hi with
    | some l,some h=>if sz=n\/rows=[] then if 0<=l/\l<=h/\h<=rows.length then .ret (.t (.sl sz ((rows.take h.toNat).drop l.toNat))) else .fail else .fail
    | _,_=>.fail
   | _=>.fail
  | none=>.fail
 | _,_=>.fail
def Pk(P:Program)(t:TypeId)(x:A)(lo:Option A):MA A :=
 match P.underlying t,x,yr 0 lo with
 | some (.slice e),.own r,some l=>match i6 P e with
  | some n=>.getRw r fun
   | some (.live _ sz rows)=>if sz=n/\0<=l/\l<=rows.length then .ret (.sub r n l.toNat) else .fail
   | _=>.fail
  | none=>.fail
 | _,_,_=>.fail
def Pl(P:Program)(t:TypeId)(x:A)(lo hi:Option A):MA A :=
 match P.underlying t,x,yr 0 lo with
 | some (.slice e),.own r,some l=>if i6 P e=some 1 then .getRw r fun
  | some (.live _ sz rows)=>match yr rows.length hi with
   | some h=>if sz=1/\0<=l/\l<=h/\h<=rows.length then .ret (.win r l.toNat (h - l).toNat) else .fail
   | none=>.fail
  | _=>.fail
  else .fail
 | _,_,_=>.fail
def UZ(ρ:Nat->fy):Option Nat->Bool
 | some d=>match ρ d with | .win _=>true | _=>false
 | none=>false
def qbj(ρ:Nat->fy):Option Nat->Bool
 | some d=>match ρ d with | .own d'=>zXX d d' | _=>false
 | none=>false
def Ht(P:Program)(d:Option Nat)(t:TypeId)(x:A)(hi:Option A):MA A :=
 match P.underlying t,x,hi,d with
 | some (.slice e),.own r,some (.t (.int _ h)),some d=>match i6 P e with
  | some n=>.getRw r fun
   | some (.live e' sz rows)=>if sz=n/\0<=h/\h<=rows.length then .setRw r .gone (yV (iP d 0) e' sz (rows.take h.toNat)) else .fail
   | _=>.fail
  | none=>.fail
 | _,_,_,_=>.fail
def VI(ρ:Nat->fy)(d:Option Nat)(lo hi:Option A):Bool:=UZ ρ d || (qbj ρ d && lo.isNone)
def RJ(rows ys:List (List T))(lo:Nat):List (List T):=rows.take lo++ys.take (rows.length - lo)++rows.drop (lo+min ys.length (rows.length - lo))
def Hu(P:Program)(t:TypeId)(r lo m:Nat)(y:A):MA A :=
 match P.underlying t with
 | some (.slice e)=>if i6 P e=some 1 then y.rows λk ys=>if (k=1\/ys=[])/\ys.length<=m then .getRw r fun
  | some (.live e' sz rows)=>if sz=1/\lo+m<=rows.length then .setRw r (.live e' 1 (rows.take lo++ys++rows.drop (lo+ys.length))) (.ret (.t (.int .i64 ys.length))) else .fail
  | _=>.fail
  else .fail else .fail
 | _=>.fail
def F8(P:Program)(ts:List TypeId)(x y:A):MA A :=
 match ts,x with
 | [t,_],.win r lo m=>Hu P t r lo m y
 | [t,t'],.sub r n lo=>match P.underlying t with
  | some (.slice e)=>if i6 P e=some 1/\n=1 then y.rows λm ys=>if m=1\/ys=[] then .getRw r fun
   | some (.live e' sz rows)=>if sz=1/\lo<=rows.length then .setRw r (.live e' 1 (RJ rows ys lo)) (.ret (.t (.int .i64 (min ys.length (rows.length - lo):Nat)))) else .fail
   | _=>.fail
   else .fail else .fail
  | _=>.fail
 | _,_=>.fail
def EC(P:Program)(ts:List TypeId)(x:A):MA A :=
 match ts,x with
 | [t],.sub r n lo=>match P.underlying t with
  | some (.slice e)=>match uT P e with
   | some [.t z]=>if i6 P e=some 1/\n=1 then .getRw r fun
    | some (.live e' sz rows)=>if sz=1/\lo<=rows.length then .setRw r (.live e' 1 (rows.take lo++zQZ (rows.length - lo) [z])) (.ret (.tup [])) else .fail
    | _=>.fail
    else .fail
   | _=>.fail
  | _=>.fail
 | _,_=>.fail
def Mz(P:Program)(d:Option Nat)(t:TypeId)(len cap:A):MA A :=
 match P.underlying t,len,cap,d with
 | some (.slice e),.t (.int .i64 l),.t (.int .i64 c),some d=>match CP P e,uT P e with
  | some (_,n,by_),some z=>if z.length=n/\0 < n/\0<=c/\(l=0\/l=c)/\c.toNat*by_<=140737488355328/\c<=9223372036854775807 then
    fg (ni (Hp P e) z) λts=>yV (iP d 0) e n (zQZ l.toNat ts) else .fail
  | _,_=>.fail
 | _,_,_,_=>.fail
def xR(P:Program)(d:Option Nat)(ts:List TypeId)(x y:A):MA A :=
 match ts,d with
 | [t,t'],some d=>if t=t' then match P.underlying t with
  | some (.slice e)=>match CP P e,uT P e with
   | some (some _,n,by_),some z=>if z.length=n/\0 < n/\0 < by_ then y.rows λm ys=>if m=n\/ys=[] then match x with
    | .nil=>if ys.length*by_<=140737488355328 then yV (iP d 0) e n ys else .fail
    | .own r=>.getRw r fun
     | some (.live e' sz rows)=>if e'=e/\sz=n/\(rows.length+ys.length)*by_<=140737488355328 then
       .setRw r .gone (yV (iP d 0) e n (rows++ys)) else .fail
     | _=>.fail
    | _=>.fail
    else .fail
    else .fail
   | _,_=>.fail
  | _=>.fail
  else .fail
 | _,_=>.fail
def Ki(P:Program)(t:TypeId)(x:A):MA A :=
 match P.underlying t,x with
 | some .string,.t (.str s)=>.ret (.t (.int .i64 s.size))
 | some (.slice _),.ext _ (.sl _ rows)=>.ret (.t (.int .i64 rows.length))
 | some (.slice _),x=>x.rows λ_ rows=>.ret (.t (.int .i64 rows.length))
 | _,_=>.fail
def qd(P:Program)(ρ:Nat->fy)(ev:Operand->Option A)(o:Oper):MA A :=
 match o.op with
 | .move x | .assign x=>match ev x with | some v=>.ret v | none=>.fail
 | .pick c a b=>match ev c,ev a,ev b with
  | some (.t (.bool c)),some a,some b=>.ret (if c then a else b)
  | _,_,_=>.fail
 | .alloc e=>match o.dst,uT P e with | some d,some z=>RI d z | _,_=>.fail
 | .box _ x=>match o.dst,ev x with
  | some d,some v=>if ρ d=.frz then fg v.cells λts=>.ret (.fadr ts) else RI d v.cells
  | _,_=>.fail
 | .build t parts=>match uT P t,Mw P t,ef (parts.toList.map λ(i,x)=>(ev x).map λv=>(i,v)) with
  | some z,some pl,some ps=>match Pj pl z ps with | some cs=>.ret (.agg cs) | none=>.fail
  | _,_,_=>.fail
 | .buildSlice t n parts=>match P.underlying t,o.dst,ef (parts.toList.map λ(i,x)=>(ev x).map λv=>(i,v)) with
  | some (.slice e),some d,some ps=>match i6 P e,uT P e with
   | some sz,some z=>if z.length=sz/\0 < sz/\n*sz<=16777216 then fg (ni (Hp P e) z) λts=>Mx (Hp P e) sz (zQZ n ts) ps λrows=>yV (iP d 0) e sz rows else .fail
   | _,_=>.fail
  | _,_,_=>.fail
 | .load t a=>match ev a with | some a=>I4 P t a | none=>.fail
 | .store t a x=>match ev a,ev x with | some a,some x=>Cf P t a x | _,_=>.fail
 | .nilCheck x=>match ev x with
  | some (.obj s o)=>.ret (.obj s o)
  | some (.elem r sz i o)=>.ret (.elem r sz i o)
  | some (.fadr c)=>.ret (.fadr c)
  | some (.exa s c)=>.ret (.exa s c)
  | some (.clo f c)=>.ret (.clo f c)
  | _=>.fail
 | .binOp op t x y _=>match ev x,ev y with
  | some (.t x),some (.t y)=>match Dh (isB P t) op x y with | some z=>.ret (.t z) | none=>.fail
  | some (.agg x),some (.agg y)=>match ZY P t,TD x,TD y,op with
   | some n,some xs,some ys,.eql=>if xs.length=n/\ys.length=n then .ret (.t (.bool (xs == ys))) else .fail
   | some n,some xs,some ys,.neq=>if xs.length=n/\ys.length=n then .ret (.t (.bool (!(xs == ys)))) else .fail
   | _,_,_,_=>.fail
  | some (.nn _ _),some .nil=>match op,P.underlying t with
   | .eql,some (.slice _)=>.ret (.t (.bool false))
   | _,_=>.fail
  | some .nil,some .nil=>match op,P.underlying t with
   | .eql,some (.slice _)=>.ret (.t (.bool true))
   | _,_=>.fail
  | _,_=>.fail
 | .unOp op _ x=>match op,ev x with
  | .not,some (.t (.bool b))=>.ret (.t (.bool (!b)))
  | .neg,some (.t (.int k n))=>.ret (.t (.int k (k.wrap (0 - n))))
  | _,_=>.fail
 | .convert s t x=>match P.underlying s,P.underlying t,ev x with
  | some _,some (.int k),some (.t (.int _ n))=>.ret (.t (.int k (k.wrap n)))
  | some _,some .string,some (.t (.str s))=>.ret (.t (.str s))
  | some (.slice e),some .string,some x=>match P.underlying e with
   | some (.int .u8)=>x.rows λ_ rows=>match Ds rows with | some l=>.ret (.t (.str (strOfNums l))) | none=>.fail
   | _=>.fail
  | _,_,_=>.fail
 | .makeFunc (.func f) first caps=>match first.toList,ef (caps.toList.map ev) with
  | [],some l=>.ret (.clo f l)
  | _,_=>.fail
 | .makeSlice t l c=>match ev l,ev c with | some l,some c=>Mz P o.dst t l c | _,_=>.fail
 | .slice t x lo hi none=>match ev x,I5 ev lo,I5 ev hi with
  | some x,some lo,some hi=>if VI ρ o.dst lo hi then (if UZ ρ o.dst then (if hi.isNone then Pk P t x lo else Pl P t x lo hi) else Ht P o.dst t x hi) else AL P t x lo hi
  | _,_,_=>.fail
 | .fieldAddr s x f=>match ev x,Hq P s f with | some a,some (off,_)=>My a off | _,_=>.fail
 | .field s x f=>match ev x,Hq P s f with
  | some (.agg l),some (off,t)=>match RH P t,i6 P t with
   | some g,some n=>match F7 g n l off with | some v=>.ret v | none=>.fail
   | _,_=>.fail
  | _,_=>.fail
 | .indexAddr t x i=>match ev x,ev i with | some x,some i=>mI P t x i | _,_=>.fail
 | .index t x i=>match P.underlying t,ev x,ev i with
  | some .string,some (.t (.str s)),some (.t (.int _ i))=>if 0<=i then match s[i.toNat]? with | some b=>.ret (.t (.int .u8 b.toNat)) | none=>.fail else .fail
  | _,_,_=>.fail
 | .extract x i=>match ev x with
  | some (.tup l)=>match l[i]? with | some v=>.ret v | none=>.fail
  | _=>.fail
 | .call { callee:=.builtin .len,args,argTypes }=>match args.toList,argTypes.toList with
  | [x],[t]=>match ev x with | some x=>Ki P t x | none=>.fail
  | _,_=>.fail
 | .call { callee:=.builtin .append,args,argTypes }=>match args.toList with
  | [x,y]=>match ev x,ev y with | some x,some y=>xR P o.dst argTypes.toList x y | _,_=>.fail
  | _=>.fail
 | .call { callee:=.builtin .copy,args,argTypes }=>match args.toList with
  | [x,y]=>match ev x,ev y with | some x,some y=>F8 P argTypes.toList x y | _,_=>.fail
  | _=>.fail
 | .call { callee:=.builtin .clear,args,argTypes }=>match args.toList with
  | [x]=>match ev x with | some x=>EC P argTypes.toList x | _=>.fail
  | _=>.fail
 | .call { callee:=.builtin .min,args,.. }=>match args.toList with
  | [x,y]=>match ev x,ev y with
   | some (.t (.int k a)),some (.t (.int _ b))=>.ret (.t (.int k (if b < a then b else a)))
   | _,_=>.fail
  | _=>.fail
 | .call { callee:=.builtin .max,args,.. }=>match args.toList with
  | [x,y]=>match ev x,ev y with
   | some (.t (.int k a)),some (.t (.int _ b))=>.ret (.t (.int k (if b > a then b else a)))
   | _,_=>.fail
  | _=>.fail
 | _=>.fail
end Go.Tm
namespace Go.Tm
open Go.RowKit
inductive Rd (w:World) (F:Nat->Prop):T->Value->Prop
 | int (k:IntKind) (n:Int):Rd w F (.int k n) (.int k n)
 | bool (b:Bool):Rd w F (.bool b) (.bool b)
 | str (s:ByteArray):Rd w F (.str s) (.string s)
 | nilf:Rd w F .nilf .nilFunc
 | hdr (a:Option Addr) (n c:Nat):Rd w F (.hdr a n c) (.slice a n c)
 | sl0 (sz:Nat) (a:Option Addr) (c:Nat) (ha:a=none->c=0):Rd w F (.sl sz []) (.slice a 0 c)
 | sl (sz:Nat) (rows:List (List T)) (b off c:Nat) (u:Nat->Nat->Value) (hc:rows.length<=c) (hF:F b)
   (hs:∀ (i:Nat) (row:List T),rows[i]?=some row->row.length=sz)
   (hx:∀ (i:Nat) (row:List T) (j:Nat) (x:T),rows[i]?=some row->row[j]?=some x->w.cell? ⟨b,off+i*sz+j,none⟩=some (u i j))
   (hr:∀ (i:Nat) (row:List T) (j:Nat) (x:T),rows[i]?=some row->row[j]?=some x->Rd w F x (u i j)) :
   Rd w F (.sl sz rows) (.slice (some ⟨b,off,none⟩) rows.length c)
def Av(F:Nat->Prop)(w w':World):Prop:=∀ b,F b->w'.heap[b]?=w.heap[b]?
theorem BI{F:Nat->Prop}{w w':World}(h:Av F w w'){b o:Nat}(hb:F b):w'.cell? ⟨b,o,none⟩=w.cell? ⟨b,o,none⟩ :=
 World.cell?_of_block (w:=w) (h b hb)
theorem Rd.mono{w w':World}{F F':Nat->Prop}{x:T}{v:Value}(h:Rd w F x v)(hs:Av F w w')(hF:∀ b,F b->F' b):Rd w' F' x v:=by
 induction h with
 | int k n=>exact .int k n
 | bool b=>exact .bool b
 | str s=>exact .str s
 | nilf=>exact .nilf
 | hdr a n c=>exact .hdr a n c
 | sl0 sz a c ha=>exact .sl0 sz a c ha
 | sl sz rows b off c u hc hb hsz hx hr ih =>
  exact .sl sz rows b off c u hc (hF b hb) hsz (λi row j x h1 h2=>by rw [BI hs hb]; exact hx i row j x h1 h2) ih
theorem Rd.one{w:World}{F:Nat->Prop}{x:T}{v:Value}(h:Rd w F x v):v.oneCell'=true/\v.cells=#[v]:=by
 cases h <;> exact ⟨rfl,rfl⟩
inductive Sd (s:Bool) (w:World) (D:Nat->Prop):T->Value->Prop
 | int (k:IntKind) (n n':Int) (h:s=false->n'=n):Sd s w D (.int k n) (.int k n')
 | bool (b b':Bool) (h:s=false->b'=b):Sd s w D (.bool b) (.bool b')
 | str (x:ByteArray):Sd s w D (.str x) (.string x)
 | nilf:Sd s w D .nilf .nilFunc
 | hdr (a:Option Addr) (n c:Nat):Sd s w D (.hdr a n c) (.slice a n c)
 | sl0 (sz:Nat) (a:Option Addr) (c:Nat) (ha:a=none->c=0):Sd s w D (.sl sz []) (.slice a 0 c)
 | sl (sz:Nat) (rows:List (List T)) (b off c:Nat) (u:Nat->Nat->Value) (hc:rows.length<=c) (hF:D b)
   (hs:∀ (i:Nat) (row:List T),rows[i]?=some row->row.length=sz)
   (hx:∀ (i:Nat) (row:List T) (j:Nat) (x:T),rows[i]?=some row->row[j]?=some x->w.cell? ⟨b,off+i*sz+j,none⟩=some (u i j))
   (hr:∀ (i:Nat) (row:List T) (j:Nat) (x:T),rows[i]?=some row->row[j]?=some x->Sd s w D x (u i j)) :
   Sd s w D (.sl sz rows) (.slice (some ⟨b,off,none⟩) rows.length c)
theorem Sd.one{s:Bool}{w:World}{D:Nat->Prop}{x:T}{v:Value}(h:Sd s w D x v):v.oneCell'=true/\v.cells=#[v]:=by
 cases h <;> exact ⟨rfl,rfl⟩
theorem Rd.sd{s:Bool}{w:World}{D:Nat->Prop}{x:T}{v:Value}(h:Rd w D x v):Sd s w D x v:=by
 induction h with
 | int k n=>exact .int k n n (λ_=>rfl)
 | bool b=>exact .bool b b (λ_=>rfl)
 | str s=>exact .str s
 | nilf=>exact .nilf
 | hdr a n c=>exact .hdr a n c
 | sl0 sz a c ha=>exact .sl0 sz a c ha
 | sl sz rows b off c u hc hb hsz hx hr ih=>exact .sl sz rows b off c u hc hb hsz hx ih
theorem Sd.rd{w w':World}{D D':Nat->Prop}{x:T}{v:Value}(h:Sd false w D x v)(hs:Av D w w')(hD:∀ b,D b->D' b):Rd w' D' x v:=by
 induction h with
 | int k n n' h=>rw [h rfl]; exact .int k n
 | bool b b' h=>rw [h rfl]; exact .bool b
 | str s=>exact .str s
 | nilf=>exact .nilf
 | hdr a n c=>exact .hdr a n c
 | sl0 sz a c ha=>exact .sl0 sz a c ha
 | sl sz rows b off c u hc hb hsz hx hr ih =>
  exact .sl sz rows b off c u hc (hD b hb) hsz (λi row j x h1 h2=>by rw [BI hs hb]; exact hx i row j x h1 h2) ih
inductive Kq:Value->Value->Prop
 | refl (v:Value):Kq v v
 | int (k:IntKind) (n n':Int):Kq (.int k n) (.int k n')
 | bool (b b':Bool):Kq (.bool b) (.bool b')
theorem Kq.trans{a b c:Value}(h:Kq a b)(k:Kq b c):Kq a c:=by
 cases h with
 | refl=>exact k
 | int k1 n n'=>cases k with
  | refl=>exact .int _ _ _
  | int=>exact .int _ _ _
 | bool b b'=>cases k with
  | refl=>exact .bool _ _
  | bool=>exact .bool _ _
def Wr(w:World)(b:Nat):Prop:=∃ arr e,w.heap[b]?=some (.cells arr e (0,0))
def KS(w w':World)(b:Nat):Prop:=∃ arr arr' e,w.heap[b]?=some (.cells arr e (0,0))/\w'.heap[b]?=some (.cells arr' e (0,0))/\arr'.size=arr.size/\∀ (i:Nat) (v:Value),arr[i]?=some v->∃ v',arr'[i]?=some v'/\Kq v v'
theorem KS.refl{w:World}{b:Nat}(h:Wr w b):KS w w b:=by
 obtain ⟨arr,e,h⟩:=h;exact ⟨arr,arr,e,h,h,rfl,λi v h=>⟨v,h,.refl v⟩⟩
theorem KS.trans{a b c:World}{k:Nat}(h:KS a b k)(h':KS b c k):KS a c k:=by
 obtain ⟨x,y,e,h1,h2,h3,h4⟩:=h;obtain ⟨y',z,e',k1,k2,k3,k4⟩:=h';rw [h2] at k1
 cases k1
 refine ⟨x,z,e,h1,k2,k3.trans h3,λi v hv=>?_⟩;obtain ⟨v',p1,p2⟩:=h4 i v hv;obtain ⟨v'',q1,q2⟩:=k4 i v' p1;exact ⟨v'',q1,p2.trans q2⟩
theorem KS.wr{w w':World}{b:Nat}(h:KS w w' b):Wr w' b:=by
 obtain ⟨x,y,e,h1,h2,_⟩:=h;exact ⟨y,e,h2⟩
theorem KS.same{w w' w'':World}{b:Nat}(h:KS w w' b)(hs:w''.heap[b]?=w'.heap[b]?):KS w w'' b:=by
 obtain ⟨x,y,e,h1,h2,h3⟩:=h;exact ⟨x,y,e,h1,hs.trans h2,h3⟩
theorem KS.cell{w w':World}{b o:Nat}{v:Value}(h:KS w w' b)(hv:w.cell? ⟨b,o,none⟩=some v):∃ v',w'.cell? ⟨b,o,none⟩=some v'/\Kq v v':=by
 obtain ⟨x,y,e,h1,h2,h3,h4⟩:=h;simp only [World.cell?,h1,h2,Option.isSome_none,zQk,if_false] at hv ⊢;exact h4 o v hv
theorem Sd.kq{w:World}{D:Nat->Prop}{x:T}{v v':Value}(h:Sd true w D x v)(hk:Kq v v'):Sd true w D x v':=by
 cases hk with
 | refl=>exact h
 | int k n n'=>cases h with | int k n0 _ _=>exact .int k n0 n' (λh=>by cases h)
 | bool b b'=>cases h with | bool b0 _ _=>exact .bool b0 b' (λh=>by cases h)
theorem Sd.ks{w w':World}{D:Nat->Prop}{x:T}{v:Value}(h:Sd true w D x v)(hk:∀ b,D b->KS w w' b):Sd true w' D x v:=by
 induction h with
 | int k n n' h=>exact .int k n n' h
 | bool b b' h=>exact .bool b b' h
 | str s=>exact .str s
 | nilf=>exact .nilf
 | hdr a n c=>exact .hdr a n c
 | sl0 sz a c ha=>exact .sl0 sz a c ha
 | sl sz rows b off c u hc hb hsz hx hr ih =>
  refine .sl sz rows b off c (λi j=>(w'.cell? ⟨b,off+i*sz+j,none⟩).getD undef) hc hb hsz (λi row j x h1 h2=>?_) (λi row j x h1 h2=>?_)
  ·obtain ⟨v',h3,_⟩:=(hk b hb).cell (hx i row j x h1 h2);rw [h3]; rfl
  ·obtain ⟨v',h3,h4⟩:=(hk b hb).cell (hx i row j x h1 h2);rw [h3];exact (ih i row j x h1 h2).kq h4
structure Gh where
 F:Nat->Prop
 ob:Nat->Nat
 rw:Nat->Value
 D:Nat->Prop:=λ_=>False
 dw:World:=default
 sh:Bool:=false
 S:Nat->Prop:=λ_=>False
 sw:World:=default
inductive VR (w:World) (g:Gh) (O R:Nat->Prop):A->Value->Prop
 | t (x:T) (v:Value) (h:Rd w g.F x v):VR w g O R (.t x) v
 | nil:VR w g O R .nil (.slice none 0 0)
 | own (r:Nat) (hr:R r):VR w g O R (.own r) (g.rw r)
 | agg (l:List A) (vs:List Value) (hl:l.length=vs.length) (h:∀ (i:Nat) (x:A) (v:Value),l[i]?=some x->vs[i]?=some v->VR w g O R x v):VR w g O R (.agg l) (.agg vs.toArray)
 | tup (l:List A) (vs:List Value) (hl:l.length=vs.length) (h:∀ (i:Nat) (x:A) (v:Value),l[i]?=some x->vs[i]?=some v->VR w g O R x v):VR w g O R (.tup l) (.tuple vs.toArray)
 | obj (s off:Nat) (hs:O s):VR w g O R (.obj s off) (.pointer (some ⟨g.ob s,off,none⟩))
 | elem (r sz i off b n c:Nat) (hr:R r) (he:g.rw r=.slice (some ⟨b,0,none⟩) n c):VR w g O R (.elem r sz i off) (.pointer (some ⟨b,i*sz+off,none⟩))
 | win (r lo m n c c':Nat) (ad a':Option Addr) (hr:R r) (he:g.rw r=.slice ad n c) (hm:lo+m<=n) (hp:0 < m->∃ b,ad=some ⟨b,0,none⟩/\a'=some ⟨b,lo,none⟩):VR w g O R (.win r lo m) (.slice a' m c')
 | sub (r sz lo n c c':Nat) (ad a':Option Addr) (hr:R r) (he:g.rw r=.slice ad n c) (hp:lo < n->∃ b,ad=some ⟨b,0,none⟩/\a'=some ⟨b,lo*sz,none⟩):VR w g O R (.sub r sz lo) (.slice a' (n - lo) c')
 | fadr (cells:List T) (b off:Nat) (u:Nat->Value) (hF:g.F b) (hx:∀ (j:Nat) (x:T),cells[j]?=some x->w.cell? ⟨b,off+j,none⟩=some (u j))
   (hr:∀ (j:Nat) (x:T),cells[j]?=some x->Rd w g.F x (u j)):VR w g O R (.fadr cells) (.pointer (some ⟨b,off,none⟩))
 | nn (sz:Nat) (rows:List (List T)) (v:Value) (h:Rd w g.F (.sl sz rows) v) (hv:∃ a n c,v=.slice (some a) n c):VR w g O R (.nn sz rows) v
 | clo (f:FuncId) (caps:List A) (vs:List Value) (hl:caps.length=vs.length) (h:∀ (i:Nat) (x:A) (v:Value),caps[i]?=some x->vs[i]?=some v->VR w g O R x v) :
   VR w g O R (.clo f caps) (.func (.func f) #[] vs.toArray)
 | undef (v:Value):VR w g O R .undef v
 | raw (v:Value):VR w g O R (.raw v) v
 | osl (s:Nat) (a:Option Addr) (n c:Nat) (hs:O s) (ha:a=some ⟨g.ob s,0,none⟩):VR w g O R (.osl s a n c) (.slice a n c)
 | shp (x:T) (v:Value) (h:Sd true g.sw g.S x v):VR w g O R (.shp x) v
 | ext (s:Bool) (x:T) (v:Value) (hs:g.sh=s) (h:Sd s g.dw g.D x v):VR w g O R (.ext s x) v
 | exa (s:Bool) (cells:List T) (b off:Nat) (u:Nat->Value) (hs:g.sh=s) (hD:g.D b) (hx:∀ (j:Nat) (x:T),cells[j]?=some x->g.dw.cell? ⟨b,off+j,none⟩=some (u j))
   (hr:∀ (j:Nat) (x:T),cells[j]?=some x->Sd s g.dw g.D x (u j)):VR w g O R (.exa s cells) (.pointer (some ⟨b,off,none⟩))
structure th (w w':World) (g g':Gh) (O R O' R':Nat->Prop):Prop where
 same:Av g.F w w'
 F:∀ b,g.F b->g'.F b
 O:∀ s,O s->O' s/\g'.ob s=g.ob s
 R:∀ r,R r->R' r/\g'.rw r=g.rw r
 d:g'.D=g.D/\g'.dw=g.dw/\g'.sh=g.sh
 s:g'.S=g.S/\g'.sw=g.sw
theorem th.refl(w:World)(g:Gh)(O R:Nat->Prop):th w w g g O R O R:=⟨λ_ _=>rfl,λ_ h=>h,λ_ h=>⟨h,rfl⟩,λ_ h=>⟨h,rfl⟩,⟨rfl,rfl,rfl⟩,rfl,rfl⟩
theorem VR.mono{w w':World}{g g':Gh}{O R O' R':Nat->Prop}{a:A}{v:Value}(h:VR w g O R a v)(e:th w w' g g' O R O' R'):VR w' g' O' R' a v:=by
 induction h with
 | t x v h=>exact .t x v (h.mono e.same e.F)
 | nil=>exact .nil
 | own r hr=>rw [<- (e.R r hr).2]; exact .own r (e.R r hr).1
 | agg l vs hl h ih=>exact .agg l vs hl ih
 | tup l vs hl h ih=>exact .tup l vs hl ih
 | obj s off hs=>rw [<- (e.O s hs).2]; exact .obj s off (e.O s hs).1
 | elem r sz i off b n c hr he=>exact .elem r sz i off b n c (e.R r hr).1 ZQ
 | win r lo m n c c' ad a' hr he hm hp=>exact .win r lo m n c c' ad a' (e.R r hr).1 ZQ hm hp
 | sub r sz lo n c c' ad a' hr he hp=>exact .sub r sz lo n c c' ad a' (e.R r hr).1 ZQ hp
 | fadr cells b off u hF hx hr=>exact .fadr cells b off u (e.F b hF) (λj x h=>by rw [BI e.same hF]; exact hx j x h) (λj x h=>(hr j x h).mono e.same e.F)
 | nn sz rows v h hv=>exact .nn sz rows v (h.mono e.same e.F) hv
 | clo f caps vs hl h ih=>exact .clo f caps vs hl ih
 | undef v=>exact .undef v
 | raw v=>exact .raw v
 | osl s a n c hs ha=>exact .osl s a n c (e.O s hs).1 (by rw [(e.O s hs).2]; exact ha)
 | shp x v h=>obtain ⟨h1,h2⟩:=e.s; exact .shp x v (by rw [h1,h2]; exact h)
 | ext s x v hs h=>obtain ⟨h1,h2,h3⟩:=e.d; exact .ext s x v (h3.trans hs) (by rw [h1,h2]; exact h)
 | exa s cells b off u hs hD hx hr=>obtain ⟨h1,h2,h3⟩:=e.d; exact .exa s cells b off u (h3.trans hs) (by rw [h1]; exact hD) (by rw [h2]; exact hx) (by rw [h1,h2]; exact hr)
theorem VR.one{w:World}{g:Gh}{O R:Nat->Prop}{a:A}{v:Value}(h:VR w g O R a v)(ha:a.one=true)
  (hrw:∀ r,R r->∃ A n c,g.rw r=.slice A n c):v.oneCell'=true/\v.cells=#[v]:=by
 cases h with
 | t x v h=>exact h.one
 | own r hr=>obtain ⟨A,n,c,e⟩:=hrw r hr; rw [e]; exact ⟨rfl,rfl⟩
 | agg | tup | undef | raw=>cases ha
 | nn sz rows v h hv=>exact h.one
 | ext s x v hs h=>exact h.one
 | shp x v h=>exact h.one
 | _=>exact ⟨rfl,rfl⟩
def sS(w0 w:World)(X:Nat->Prop)(F:Nat->Prop)(h:Value):TC->Prop
 | .live e sz rows=>∃ inner:List Value,w.ownsRow 0 e sz h rows.length inner/\(∀ (i:Nat) (row:List T),rows[i]?=some row->row.length=sz) /\
   (∀ (i:Nat) (row:List T) (j:Nat) (x:T),rows[i]?=some row->row[j]?=some x->∃ u,inner[i*sz+j]?=some u/\Rd w F x u) /\
   (∀ b,h.ownBlock=some b->¬ F b/\(w0.heap.size<=b\/X b))
 | .frz sz rows=>Rd w F (.sl sz rows) h
 | .gone=>∃ A n c,h=.slice A n c
def St.O(st:St)(s:Nat):Prop:=(st.ob s).isSome=true
def St.R(st:St)(r:Nat):Prop:=(st.rw r).isSome=true
def St.L(st:St)(r:Nat):Prop:=∃ e sz rows,st.rw r=some (.live e sz rows)
structure En where
 w0:World
 X:Nat->Prop
 F0:Nat->Prop
 lent:List (Nat×Nat)
 D:Nat->Prop:=λ_=>False
 sh:Bool:=false
 pin:Option Value:=none
def PR:Nat:=58982400
def Fr(g:Gh)(w0 w:World)(b:Nat):Prop:=w.heap[b]?=w0.heap[b]?\/(g.sh=true/\g.D b/\KS w0 w b)
theorem Fr.keep{g:Gh}{w0 w w':World}{b:Nat}(h:Fr g w0 w b)(hs:w'.heap[b]?=w.heap[b]?):Fr g w0 w' b:=by
 rcases h with h | ⟨h1,h2,h3⟩
 ·exact .inl (hs.trans h)
 ·exact .inr ⟨h1,h2,h3.same hs⟩
theorem Fr.gh{g g':Gh}{w0 w:World}{b:Nat}(h:Fr g w0 w b)(hd:g'.D=g.D/\g'.dw=g.dw/\g'.sh=g.sh):Fr g' w0 w b:=by
 unfold Fr at *;rw [hd.1,hd.2.2];exact h
def RG(P:Program)(w:World)(X:Nat->Prop):Prop:=∀ k,P.globalNamed "internal/strconv.uint64pow10" = some k->Lib.TabIs P w "internal/strconv.uint64pow10" .u64 Lib.pow10Tab/\¬ X k
class Tb (P:Program) (E:En):Prop where
 tb:RG P E.w0 λb=>E.X b\/(E.sh=true/\E.D b)
theorem RG.mono{P:Program}{w:World}{X X':Nat->Prop}(h:RG P w X)(hX:∀ b,X' b->X b):RG P w X':=λk hk=>⟨(h k hk).1,λhx=>(h k hk).2 (hX k hx)⟩
theorem RG.none{P:Program}{w:World}{X:Nat->Prop}(h:(P.globalNamed "internal/strconv.uint64pow10").isNone=true):RG P w X:=λk hk=>by rw [hk] at h; cases h
theorem RG.step{P:Program}{w w':World}{X X':Nat->Prop}(h:RG P w X)(hw:∀ b,b < w.heap.size->¬ X b->w'.heap[b]?=w.heap[b]?)(hX:∀ b,b < w.heap.size->¬ X b->¬ X' b):RG P w' X':=λk hk=>by
 obtain ⟨h1,h2⟩:=h k hk;unfold Lib.TabIs World.var? at h1 ⊢;rw [hk] at h1 ⊢;simp only [wk] at h1 ⊢;have hlt:k < w.heap.size:=by
  rcases Nat.lt_or_ge k w.heap.size with h3 | h3
  ·exact h3
  ·rw [Array.getElem?_eq_none h3] at h1; simp at h1
 rw [hw k hlt h2];exact ⟨h1,hX k hlt h2⟩
structure gG (E:En) (g:Gh) (st:St) (w:World):Prop where
 ob:∀ s cells,st.ob s=some cells->∃ arr e,w.heap[g.ob s]?=some (.cells arr e (0,0))/\cells.length<=arr.size /\
  (∀ (j:Nat) (x:A),cells[j]?=some x->x.one=true/\∃ v,arr[j]?=some v/\VR w g st.O st.R x v)/\¬ g.F (g.ob s)/\(E.w0.heap.size<=g.ob s\/E.X (g.ob s))
 obne:∀ s s',st.O s->st.O s'->g.ob s=g.ob s'->s=s'
 row:∀ r x,st.rw r=some x->sS E.w0 w E.X g.F (g.rw r) x
 rowne:∀ r r' b,st.L r->st.L r'->(g.rw r).ownBlock=some b->(g.rw r').ownBlock=some b->r=r'
 rowob:∀ r s,st.L r->st.O s->(g.rw r).ownBlock≠some (g.ob s)
 F:∀ b,g.F b->b < w.heap.size/\(b < E.w0.heap.size->E.F0 b\/E.X b)/\(E.F0 b\/Wr w b)
 os:w.os=E.w0.os
 tape:w.tape=E.w0.tape
 output:w.output=E.w0.output
 sizes:E.w0.heap.size<=w.heap.size
 frame:∀ b,b < E.w0.heap.size->¬ E.X b->Fr g E.w0 w b
 shp:∀ b,g.S b->g.F b/\KS g.sw w b
 dep0:(g.D=E.D/\g.dw=E.w0/\g.sh=E.sh)/\∀ b,E.D b->b < E.w0.heap.size/\¬ E.X b/\(E.sh=true->¬ E.F0 b/\Wr E.w0 b)
theorem gG.tbW{P:Program}{E:En}[hT:Tb P E]{g:Gh}{st:St}{w:World}(h:gG E g st w){X:Nat->Prop}(hX:∀ b,b < E.w0.heap.size->¬ E.X b->¬ (E.sh=true/\E.D b)->¬ X b):RG P w X :=
 hT.tb.step (λb h1 h2=>by
  rcases h.frame b h1 (λh=>h2 (.inl h)) with h3 | ⟨h3,h4,_⟩
  ·exact h3
  ·obtain ⟨h5,_,h6⟩:=h.dep0.1;exact (h2 (.inr ⟨h6 ▸ h3,h5 ▸ h4⟩)).elim) λb h1 h2=>hX b h1 (λh=>h2 (.inl h)) (λh=>h2 (.inr h))
theorem gG.dep{E:En}{g:Gh}{st:St}{w:World}(h:gG E g st w):∀ b,g.D b->g.dw=E.w0/\b < E.w0.heap.size/\¬ E.X b/\(g.sh=true->¬ E.F0 b/\Wr E.w0 b):=λb hb=>by
 obtain ⟨⟨h1,h2,h3⟩,h4⟩:=h.dep0;rw [h1] at hb;rw [h3];exact ⟨h2,h4 b hb⟩
structure uU (E:En) (g:Gh) (n:Nat) (st:St) (a:Act) (w:World):Prop where
 mem:gG E g st w
 size:a.tmps.size=n
 defers:a.defers=[]
 tm:∀ i,i < n->∃ v,a.tmps[i]?=some v/\VR w g st.O st.R (st.tm i) v
 und:∀ i,n<=i->st.tm i=.undef
 lent:∀ s b,(s,b)∈E.lent->st.O s/\g.ob s=b
 pin:∀ v,E.pin=some v->st.R PR/\g.rw PR=v
theorem sS.slice{w0 w:World}{X F:Nat->Prop}{h:Value}{r:TC}(hr:sS w0 w X F h r):∃ A n c,h=.slice A n c:=by
 cases r with
 | live e sz rows =>
  obtain ⟨inner,ho,_⟩:=hr;rcases ho.2 with ⟨hv,_⟩ | ⟨g,cap,cur,hv,_⟩
  ·exact ⟨_,_,_,hv⟩
  ·exact ⟨_,_,_,hv⟩
 | frz sz rows =>
  have hr:Rd w F (.sl sz rows) h:=hr
  cases hr with
  | sl0=>exact ⟨_,_,_,rfl⟩
  | sl=>exact ⟨_,_,_,rfl⟩
 | gone=>exact hr
theorem gG.hdr{E:En}{g:Gh}{st:St}{w:World}(h:gG E g st w):∀ r,st.R r->∃ A n c,g.rw r=.slice A n c:=by
 intro r hr;obtain ⟨x,hx⟩:=DQ.1 hr;exact (h.row r x hx).slice
theorem gG.one{E:En}{g:Gh}{st:St}{w:World}(h:gG E g st w){a:A}{v:Value}(hv:VR w g st.O st.R a v)(ha:a.one=true):v.oneCell'=true/\v.cells=#[v] :=
 hv.one ha h.hdr
theorem sS.mono{w0 w w':World}{X F F':Nat->Prop}{h:Value}{r:TC}(hr:sS w0 w X F h r)(hs:Av F w w')(hF:∀ b,F b->F' b)
  (hb:(∃ e sz rows,r=.live e sz rows)->∀ b,h.ownBlock=some b->w'.heap[b]?=w.heap[b]?/\(F' b->F b)):sS w0 w' X F' h r:=by
 cases r with
 | live e sz rows =>
  obtain ⟨inner,ho,h1,h2,h3⟩:=hr
  replace hb:=hb ⟨e,sz,rows,rfl⟩
  refine ⟨inner,⟨ho.1,?_⟩,h1,λi row j x hi hj=>?_,λb hb'=>⟨λhf=>(h3 b hb').1 ((hb b hb').2 hf),(h3 b hb').2⟩⟩
  ·rcases ho.2 with hn | ⟨g,cap,cur,hv,hg,hh,r⟩
   ·exact .inl hn
   ·exact .inr ⟨g,cap,cur,hv,hg,by rw [(hb g (by rw [hv]; rfl)).1]; exact hh,r⟩
  ·obtain ⟨u,hu,hr⟩:=h2 i row j x hi hj;exact ⟨u,hu,hr.mono hs hF⟩
 | frz sz rows=>exact Rd.mono hr hs hF
 | gone=>exact hr
theorem Mj{w:World}{b:Nat}{o:Obj}(h:w.heap[b]?=some o):b < w.heap.size:=(Wk.1 h).1
theorem gG.ob_lt{E:En}{g:Gh}{st:St}{w:World}(h:gG E g st w){s:Nat}(hs:st.O s):g.ob s < w.heap.size:=by
 obtain ⟨c,hc⟩:=DQ.1 hs;obtain ⟨arr,e,hh,_⟩:=h.ob s c hc;exact Mj hh
theorem gG.ob_nf{E:En}{g:Gh}{st:St}{w:World}(h:gG E g st w){s:Nat}(hs:st.O s):¬ g.F (g.ob s)/\(E.w0.heap.size<=g.ob s\/E.X (g.ob s)):=by
 obtain ⟨c,hc⟩:=DQ.1 hs;obtain ⟨arr,e,hh,_,_,h1,h2⟩:=h.ob s c hc;exact ⟨h1,h2⟩
theorem ZZ{w:World}{base:Nat}{e:TypeId}{size n:Nat}{v:Value}{xs:List Value}(h:w.ownsRow base e size v n xs){b:Nat}(hb:v.ownBlock=some b):b < w.heap.size:=(h.lt b hb).2
theorem gG.row_lt{E:En}{g:Gh}{st:St}{w:World}(h:gG E g st w){r:Nat}(hr:st.L r){b:Nat}(hb:(g.rw r).ownBlock=some b):b < w.heap.size:=by
 obtain ⟨e,sz,rows,hr⟩:=hr;obtain ⟨inner,ho,_⟩:=h.row r _ hr;exact ZZ ho hb
theorem gG.row_nf{E:En}{g:Gh}{st:St}{w:World}(h:gG E g st w){r:Nat}(hr:st.L r){b:Nat}(hb:(g.rw r).ownBlock=some b):¬ g.F b/\(E.w0.heap.size<=b\/E.X b):=by
 obtain ⟨e,sz,rows,hr⟩:=hr;obtain ⟨inner,_,_,_,h1⟩:=h.row r _ hr;exact h1 b hb
theorem Z0{w:World}{base:Nat}{e:TypeId}{size n:Nat}{v:Value}{xs:List Value}(h:w.ownsRow base e size v n xs){b:Nat}(hb:v.ownBlock=some b):Wr w b:=by
 rcases h.2 with ⟨rfl,_⟩ | ⟨g,cap,cur,rfl,_,hh,_⟩
 ·cases hb
 ·cases hb
  exact ⟨cur,e,hh⟩
theorem gG.row_wr{E:En}{g:Gh}{st:St}{w:World}(h:gG E g st w){r:Nat}(hr:st.L r){b:Nat}(hb:(g.rw r).ownBlock=some b):Wr w b:=by
 obtain ⟨e,sz,rows,hr⟩:=hr;obtain ⟨inner,ho,_⟩:=h.row r _ hr;exact Z0 ho hb
structure rc (w w':World):Prop where
 os:w'.os=w.os
 tape:w'.tape=w.tape
 output:w'.output=w.output
 size:w.heap.size<=w'.heap.size
theorem rc.refl(w:World):rc w w:=⟨rfl,rfl,rfl,zWJ _⟩
theorem th.trans{w1 w2 w3:World}{g1 g2 g3:Gh}{O1 R1 O2 R2 O3 R3:Nat->Prop}(h:th w1 w2 g1 g2 O1 R1 O2 R2)(k:th w2 w3 g2 g3 O2 R2 O3 R3):th w1 w3 g1 g3 O1 R1 O3 R3 :=
 ⟨λb hb=>(k.same b (h.F b hb)).trans (h.same b hb),λb hb=>k.F b (h.F b hb),λs hs=>⟨(k.O s (h.O s hs).1).1,(k.O s (h.O s hs).1).2.trans (h.O s hs).2⟩,
  λr hr=>⟨(k.R r (h.R r hr).1).1,(k.R r (h.R r hr).1).2.trans (h.R r hr).2⟩,⟨k.d.1.trans h.d.1,k.d.2.1.trans h.d.2.1,k.d.2.2.trans h.d.2.2⟩,k.s.1.trans h.s.1,k.s.2.trans h.s.2⟩
section
variable {E:En} {g:Gh} {st:St} {w w':World}
theorem gG.step{g':Gh}{st':St}(h:gG E g st w)(hc:rc w w')(p:Nat->Prop)(hb:∀ b,b < w.heap.size->¬ p b->w'.heap[b]?=w.heap[b]?)
  (hpF:∀ b,p b->¬ g.F b) (hpX:∀ b,b < E.w0.heap.size->p b->E.X b)
  (hF:∀ b,g.F b->g'.F b) (hF':∀ b,g'.F b->¬ g.F b->b < w'.heap.size/\(b < E.w0.heap.size->E.F0 b\/E.X b)/\(E.F0 b\/Wr w' b))
  (hO:∀ s,st.O s->st'.O s/\g'.ob s=g.ob s) (hR:∀ r,st.R r->st'.R r/\g'.rw r=g.rw r)
  (hob:∀ s cells,st'.ob s=some cells->(st.ob s=some cells/\¬ p (g.ob s)/\¬ g'.F (g.ob s))\/(∃ arr e,w'.heap[g'.ob s]?=some (.cells arr e (0,0))/\cells.length<=arr.size /\
   (∀ (j:Nat) (x:A),cells[j]?=some x->x.one=true/\∃ v,arr[j]?=some v/\VR w g st.O st.R x v)/\¬ g'.F (g'.ob s)/\(E.w0.heap.size<=g'.ob s\/E.X (g'.ob s))))
  (hobne:∀ s s',st'.O s->st'.O s'->g'.ob s=g'.ob s'->s=s')
  (hrow:∀ r x,st'.rw r=some x->(st.rw r=some x/\(st.L r->∀ b,(g.rw r).ownBlock=some b->¬ p b/\¬ g'.F b))\/sS E.w0 w' E.X g'.F (g'.rw r) x)
  (hrowne:∀ r r' b,st'.L r->st'.L r'->(g'.rw r).ownBlock=some b->(g'.rw r').ownBlock=some b->r=r')
  (hrowob:∀ r s,st'.L r->st'.O s->(g'.rw r).ownBlock≠some (g'.ob s)) (hd:g'.D=g.D/\g'.dw=g.dw/\g'.sh=g.sh:=by exact ⟨rfl,rfl,rfl⟩) (hsS:g'.S=g.S/\g'.sw=g.sw:=by exact ⟨rfl,rfl⟩):gG E g' st' w'/\th w w' g g' st.O st.R st'.O st'.R:=by
 have hS:Av g.F w w':=λb hf=>hb b (h.F b hf).1 (λhp=>hpF b hp hf);have hE:th w w' g g' st.O st.R st'.O st'.R:=⟨hS,hF,hO,hR,hd,hsS⟩;refine ⟨⟨λs cells hs=>?_,hobne,λr x hr=>?_,hrowne,hrowob,λb hf=>?_,hc.os.trans h.os,hc.tape.trans h.tape,hc.output.trans h.output,zXw h.sizes hc.size,
  λb h1 h2=>((h.frame b h1 h2).keep (hb b (zWV h1 h.sizes) (λhp=>h2 (hpX b h1 hp)))).gh hd,λb hb=>by (rw [hsS.1] at hb; rw [hsS.2]; exact ⟨hF b (h.shp b hb).1,(h.shp b hb).2.same (hS b (h.shp b hb).1)⟩),⟨⟨hd.1.trans h.dep0.1.1,hd.2.1.trans h.dep0.1.2.1,hd.2.2.trans h.dep0.1.2.2⟩,h.dep0.2⟩⟩,hE⟩
 ·rcases hob s cells hs with ⟨h1,h2,h3⟩ | ⟨arr,e,hh,hl,hv,hn,hx⟩
  ·obtain ⟨arr,e,hh,hl,hv,hn,hx⟩:=h.ob s cells h1;have ho:g'.ob s=g.ob s:=(hO s (by simp [St.O,h1])).2;rw [ho];exact ⟨arr,e,by rw [hb _ (Mj hh) h2]; exact hh,hl,λj x hj=>⟨(hv j x hj).1,(hv j x hj).2.imp λv hv=>⟨hv.1,hv.2.mono hE⟩⟩,h3,hx⟩
  ·exact ⟨arr,e,hh,hl,λj x hj=>⟨(hv j x hj).1,(hv j x hj).2.imp λv hv=>⟨hv.1,hv.2.mono hE⟩⟩,hn,hx⟩
 ·rcases hrow r x hr with ⟨h1,h2⟩ | h1
  ·rw [(hR r (by simp [St.R,h1])).2];refine (h.row r x h1).mono hS hF λ⟨e,sz,rows,hx⟩ b hb'=>?_;subst hx;have hL:st.L r:=⟨e,sz,rows,h1⟩;exact ⟨hb b (h.row_lt hL hb') (h2 hL b hb').1,λhf=>absurd hf (h2 hL b hb').2⟩
  ·exact h1
 ·by_cases hf':g.F b
  ·exact ⟨zWV (h.F b hf').1 hc.size,(h.F b hf').2.1,(h.F b hf').2.2.imp id λ⟨arr,e,hh⟩=>⟨arr,e,by rw [hb b (h.F b hf').1 (λhp=>hpF b hp hf')]; exact hh⟩⟩
  ·exact hF' b hf hf'
theorem gG.frm(h:gG E g st w)(hs:E.sh=false):∀ b,b < E.w0.heap.size->¬ E.X b->w.heap[b]?=E.w0.heap[b]?:=λb h1 h2=>by
 rcases h.frame b h1 h2 with h3 | ⟨h3,_⟩
 ·exact h3
 ·rw [h.dep0.1.2.2,hs] at h3; cases h3
theorem gG.dF(h:gG E g st w)(hs:g.sh=true){b:Nat}(hb:g.D b):¬ g.F b:=λhf=>by
 obtain ⟨_,h2,h3,h4⟩:=h.dep b hb;rcases (h.F b hf).2.1 h2 with h5 | h5
 ·exact (h4 hs).1 h5
 ·exact h3 h5
theorem gG.dN(h:gG E g st w){b:Nat}(hb:g.D b):¬ (E.w0.heap.size<=b\/E.X b):=λhf=>by
 obtain ⟨_,h2,h3,h4⟩:=h.dep b hb;rcases hf with h5 | h5
 ·omega
 ·exact h3 h5
theorem gG.stepD(h:gG E g st w)(hs:g.sh=true)(hc:rc w w')(hb:∀ b,b < w.heap.size->¬ g.D b->w'.heap[b]?=w.heap[b]?)(hk:∀ b,g.D b->KS w w' b) :
  gG E g st w'/\th w w' g g st.O st.R st.O st.R:=by
 have hS:Av g.F w w':=λb hf=>hb b (h.F b hf).1 (λhd=>h.dF hs hd hf);have hE:th w w' g g st.O st.R st.O st.R:=⟨hS,λ_ h=>h,λ_ h=>⟨h,rfl⟩,λ_ h=>⟨h,rfl⟩,⟨rfl,rfl,rfl⟩,rfl,rfl⟩;refine ⟨⟨λs cells hs'=>?_,h.obne,λr x hr=>?_,h.rowne,h.rowob,λb hf=>?_,hc.os.trans h.os,hc.tape.trans h.tape,hc.output.trans h.output,zXw h.sizes hc.size,λb h1 h2=>?_,λb hb=>⟨(h.shp b hb).1,(h.shp b hb).2.same (hS b (h.shp b hb).1)⟩,h.dep0⟩,hE⟩
 ·obtain ⟨arr,e,hh,hl,hv,hn,hx⟩:=h.ob s cells hs';exact ⟨arr,e,by rw [hb _ (Mj hh) (λhd=>h.dN hd hx)]; exact hh,hl,λj x hj=>⟨(hv j x hj).1,(hv j x hj).2.imp λv hv=>⟨hv.1,hv.2.mono hE⟩⟩,hn,hx⟩
 ·refine (h.row r x hr).mono hS (λ_ h=>h) λ⟨e,sz,rows,hx⟩ b hb'=>?_;subst hx;have hL:st.L r:=⟨e,sz,rows,hr⟩;exact ⟨hb b (h.row_lt hL hb') (λhd=>h.dN hd (h.row_nf hL hb').2),λh=>h⟩
 ·exact ⟨zWV (h.F b hf).1 hc.size,(h.F b hf).2.1,(h.F b hf).2.2.imp id λ⟨arr,e,hh⟩=>⟨arr,e,by rw [hS b hf]; exact hh⟩⟩
 ·by_cases hd:g.D b
  ·refine .inr ⟨hs,hd,?_⟩;have h3:KS E.w0 w b:=by
    rcases h.frame b h1 h2 with h4 | ⟨_,_,h4⟩
    ·exact (KS.refl ((h.dep b hd).2.2.2 hs).2).same h4
    ·exact h4
   exact h3.trans (hk b hd)
  ·exact (h.frame b h1 h2).keep (hb b (zWV h1 h.sizes) hd)
theorem gG.grow(h:gG E g st w)(hc:rc w w')(hb:∀ b,b < w.heap.size->w'.heap[b]?=w.heap[b]?):gG E g st w'/\th w w' g g st.O st.R st.O st.R :=
 h.step hc (λ_=>False) (λb h1 _=>hb b h1) (λ_ h=>h.elim) (λ_ _ h=>h.elim) (λ_ h=>h) (λ_ h1 h2=>absurd h1 h2) (λ_ h=>⟨h,rfl⟩) (λ_ h=>⟨h,rfl⟩)
  (λs cells hs=>.inl ⟨hs,id,(h.ob_nf WQ).1⟩) h.obne (λr x hr=>.inl ⟨hr,λhL b hb'=>⟨id,(h.row_nf hL hb').1⟩⟩) h.rowne h.rowob
theorem O_upd{d:Nat}{c:List A}{s:Nat}:({ st with ob:=jr st.ob d (some c) }:St).O s↔s=d\/st.O s:=by
 unfold St.O jr
 by_cases h:s=d <;> simp [h]
theorem Pm{d:Nat}{x:TC}{r:Nat}:({ st with rw:=jr st.rw d (some x) }:St).R r↔r=d\/st.R r:=by
 unfold St.R jr
 by_cases h:r=d <;> simp [h]
theorem AM{d:Nat}{x:TC}{r:Nat}:({ st with rw:=jr st.rw d (some x) }:St).L r↔(r=d/\∃ e sz rows,x=.live e sz rows)\/(r≠d/\st.L r):=by
 unfold St.L jr
 by_cases h:r=d
 ·simp [h]
 ·simp [h]
theorem F9(w:World)(o:Obj):rc w (w.alloc o):=⟨rfl,rfl,rfl,by simp⟩
theorem gG.new_ob(h:gG E g st w)(d:Nat)(hd:st.ob d=none)(cells:List A)(vs:Array Value)(e:TypeId)(hl:cells.length<=vs.size)
  (hv:∀ (j:Nat) (x:A),cells[j]?=some x->x.one=true/\∃ v,vs[j]?=some v/\VR w g st.O st.R x v) :
  gG E { g with ob:=jr g.ob d w.heap.size } { st with ob:=jr st.ob d (some cells) } (w.alloc (.cells vs e)) /\
   th w (w.alloc (.cells vs e)) g { g with ob:=jr g.ob d w.heap.size } st.O st.R ({ st with ob:=jr st.ob d (some cells) }:St).O ({ st with ob:=jr st.ob d (some cells) }:St).R:=by
 have hnd:¬ st.O d:=by simp [St.O,hd]
 have hne:∀ s,st.O s->s≠d:=λs hs he=>hnd (he ▸ hs);have hsz:∀ b,g.F b->b≠w.heap.size:=λb hf=>Nat.ne_of_lt (h.F b hf).1;refine h.step (F9 w _) (λ_=>False) (λb h1 _=>heap_alloc_old w _ b h1) (λ_ h=>h.elim) (λ_ _ h=>h.elim) (λ_ h=>h) (λ_ h1 h2=>absurd h1 h2)
  (λs hs=>⟨O_upd.2 (.inr hs),fu _ _ _ _ (hne s hs)⟩) (λ_ h=>⟨h,rfl⟩) (λs c hs=>?_) (λs s' hs hs' he=>?_) (λr x hr=>.inl ⟨hr,λhL b hb'=>⟨id,(h.row_nf hL hb').1⟩⟩) h.rowne (λr s hr hs=>?_)
 ·by_cases hsd:s=d
  ·subst hsd;simp only [ig,Option.some.injEq] at hs ⊢;subst hs;exact .inr ⟨vs,e,heap_alloc_new w _,hl,hv,λhf=>hsz _ hf rfl,.inl h.sizes⟩
  ·simp only [fu _ _ _ _ hsd] at hs;exact .inl ⟨hs,id,(h.ob_nf WQ).1⟩
 ·rcases O_upd.1 hs with rfl | h1 <;> rcases O_upd.1 hs' with rfl | h2
  ·rfl
  ·have:=h.ob_lt h2;simp only [ig,fu _ _ _ _ (hne _ h2)] at he;omega
  ·have:=h.ob_lt h1;simp only [ig,fu _ _ _ _ (hne _ h1)] at he;omega
  ·simp only [fu _ _ _ _ (hne _ h1),fu _ _ _ _ (hne _ h2)] at he;exact h.obne _ _ h1 h2 he
 ·rcases O_upd.1 hs with rfl | h1
  ·simp only [ig];intro he;exact absurd (h.row_lt hr he) (Nat.lt_irrefl _)
  ·simp only [fu _ _ _ _ (hne _ h1)];exact h.rowob r s hr h1
theorem gG.set_ob(h:gG E g st w)(hc:rc w w')(s:Nat)(cells cells':List A)(arr':Array Value)(e:TypeId)(hs:st.ob s=some cells)
  (hw:w'.heap[g.ob s]?=some (.cells arr' e (0,0))) (hb:∀ b,b < w.heap.size->b≠g.ob s->w'.heap[b]?=w.heap[b]?) (hl:cells'.length<=arr'.size)
  (hv:∀ (j:Nat) (x:A),cells'[j]?=some x->x.one=true/\∃ v,arr'[j]?=some v/\VR w g st.O st.R x v) :
  gG E g { st with ob:=jr st.ob s (some cells') } w'/\th w w' g g st.O st.R ({ st with ob:=jr st.ob s (some cells') }:St).O ({ st with ob:=jr st.ob s (some cells') }:St).R:=by
 have hO:st.O s:=by simp [St.O,hs]
 have hO':∀ s',({ st with ob:=jr st.ob s (some cells') }:St).O s'->st.O s':=λs' h1=>by
  rcases O_upd.1 h1 with rfl | h2
  ·exact hO
  ·exact h2
 refine h.step hc (λb=>b=g.ob s) (λb h1 h2=>hb b h1 h2) (λb hp=>hp ▸ (h.ob_nf hO).1) (λb h1 hp=>?_) (λ_ h=>h) (λ_ h1 h2=>absurd h1 h2)
  (λs' hs'=>⟨O_upd.2 (.inr hs'),rfl⟩) (λ_ h=>⟨h,rfl⟩) (λs' c hs'=>?_) (λa b h1 h2 he=>h.obne a b (hO' a h1) (hO' b h2) he)
  (λr x hr=>.inl ⟨hr,λhL b hb'=>⟨λhe=>h.rowob r s hL hO (he ▸ hb'),(h.row_nf hL hb').1⟩⟩) h.rowne (λr s' hr hs'=>h.rowob r s' hr (hO' s' hs'))
 ·rcases (h.ob_nf hO).2 with h2 | h2
  ·subst hp; omega
  ·exact hp ▸ h2
 ·by_cases hsd:s'=s
  ·subst hsd;simp only [ig,Option.some.injEq] at hs';subst hs';exact .inr ⟨arr',e,hw,hl,hv,(h.ob_nf hO).1,(h.ob_nf hO).2⟩
  ·simp only [fu _ _ _ _ hsd] at hs';have h1:st.O s':=by simp [St.O,hs']
   exact .inl ⟨hs',λhe=>hsd (h.obne s' s h1 hO he),(h.ob_nf h1).1⟩
theorem gG.new_row(h:gG E g st w)(hc:rc w w')(r:Nat)(hr:st.rw r=none)(hd:Value)(e sz:Nat)(rows:List (List T))(p:Nat->Prop)
  (hb:∀ b,b < w.heap.size->¬ p b->w'.heap[b]?=w.heap[b]?) (hdp:∀ b,hd.ownBlock=some b->p b) (hpX:∀ b,b < E.w0.heap.size->p b->E.X b)
  (hfree:∀ b,p b->¬ g.F b/\(∀ s,st.O s->g.ob s≠b)/\(∀ r',st.L r'->(g.rw r').ownBlock≠some b))
  (hrow:sS E.w0 w' E.X g.F hd (.live e sz rows)) :
  gG E { g with rw:=jr g.rw r hd } { st with rw:=jr st.rw r (some (.live e sz rows)) } w' /\
   th w w' g { g with rw:=jr g.rw r hd } st.O st.R ({ st with rw:=jr st.rw r (some (.live e sz rows)) }:St).O ({ st with rw:=jr st.rw r (some (.live e sz rows)) }:St).R:=by
 have hnr:¬ st.R r:=by simp [St.R,hr]
 have hne:∀ s,st.R s->s≠r:=λs hs he=>hnr (he ▸ hs);refine h.step hc p hb (λb hp=>(hfree b hp).1) hpX (λ_ h=>h) (λ_ h1 h2=>absurd h1 h2)
  (λ_ h=>⟨h,rfl⟩) (λs hs=>⟨Pm.2 (.inr hs),fu _ _ _ _ (hne s hs)⟩) (λs c hs=>.inl ⟨hs,λhp=>(hfree _ hp).2.1 s WR rfl,(h.ob_nf WR).1⟩) h.obne (λs x hs=>?_) (λa b k ha hb' h1 h2=>?_) (λa s ha hs=>?_)
 ·by_cases hsd:s=r
  ·subst hsd;simp only [ig,Option.some.injEq] at hs ⊢;subst hs;exact .inr hrow
  ·simp only [fu _ _ _ _ hsd] at hs;exact .inl ⟨hs,λhL b hb'=>⟨λhp=>(hfree b hp).2.2 s hL hb',(h.row_nf hL hb').1⟩⟩
 ·rcases AM.1 ha with ⟨rfl,_⟩ | ⟨h3,h4⟩ <;> rcases AM.1 hb' with ⟨rfl,_⟩ | ⟨h5,h6⟩
  ·rfl
  ·simp only [ig,fu _ _ _ _ h5] at h1 h2;exact absurd h2 ((hfree k (hdp k h1)).2.2 b h6)
  ·simp only [ig,fu _ _ _ _ h3] at h1 h2;exact absurd h1 ((hfree k (hdp k h2)).2.2 a h4)
  ·simp only [fu _ _ _ _ h3,fu _ _ _ _ h5] at h1 h2;exact h.rowne a b k h4 h6 h1 h2
 ·rcases AM.1 ha with ⟨rfl,_⟩ | ⟨h3,h4⟩
  ·simp only [ig];exact λhe=>(hfree _ (hdp _ he)).2.1 s hs rfl
  ·simp only [fu _ _ _ _ h3];exact h.rowob a s h4 hs
theorem gG.set_row(h:gG E g st w)(hc:rc w w')(r:Nat)(x0:TC)(e sz:Nat)(rows:List (List T))(hr:st.rw r=some x0)(hL:st.L r)
  (hb:∀ b,b < w.heap.size->(g.rw r).ownBlock≠some b->w'.heap[b]?=w.heap[b]?)
  (hrow:sS E.w0 w' E.X g.F (g.rw r) (.live e sz rows)) :
  gG E g { st with rw:=jr st.rw r (some (.live e sz rows)) } w' /\
   th w w' g g st.O st.R ({ st with rw:=jr st.rw r (some (.live e sz rows)) }:St).O ({ st with rw:=jr st.rw r (some (.live e sz rows)) }:St).R:=by
 have hL':∀ a,({ st with rw:=jr st.rw r (some (.live e sz rows)) }:St).L a->st.L a:=λa ha=>by
  rcases AM.1 ha with ⟨rfl,_⟩ | ⟨_,h4⟩
  ·exact hL
  ·exact h4
 refine h.step hc (λb=>(g.rw r).ownBlock=some b) (λb h1 h2=>hb b h1 h2) (λb hp=>(h.row_nf hL hp).1) (λb h1 hp=>?_) (λ_ h=>h) (λ_ h1 h2=>absurd h1 h2)
  (λ_ h=>⟨h,rfl⟩) (λs hs=>⟨Pm.2 (.inr hs),rfl⟩) (λs c hs=>.inl ⟨hs,λhp=>h.rowob r s hL WR hp,(h.ob_nf WR).1⟩) h.obne (λs x hs=>?_)
  (λa b k ha hb' h1 h2=>h.rowne a b k (hL' a ha) (hL' b hb') h1 h2) (λa s ha hs=>h.rowob a s (hL' a ha) hs)
 ·rcases (h.row_nf hL hp).2 with h2 | h2
  ·omega
  ·exact h2
 ·by_cases hsd:s=r
  ·subst hsd;simp only [ig,Option.some.injEq] at hs;subst hs;exact .inr hrow
  ·simp only [fu _ _ _ _ hsd] at hs;exact .inl ⟨hs,λhL2 b hb'=>⟨λhp=>hsd (h.rowne s r b hL2 hL hb' hp),(h.row_nf hL2 hb').1⟩⟩
theorem gG.gone_row(h:gG E g st w)(r:Nat)(x0:TC)(hr:st.rw r=some x0) :
  gG E g { st with rw:=jr st.rw r (some .gone) } w/\th w w g g st.O st.R ({ st with rw:=jr st.rw r (some .gone) }:St).O ({ st with rw:=jr st.rw r (some .gone) }:St).R:=by
 have hL':∀ a,({ st with rw:=jr st.rw r (some .gone) }:St).L a->st.L a:=λa ha=>by
  rcases AM.1 ha with ⟨rfl,e,sz,rows,hx⟩ | ⟨_,h4⟩
  ·cases hx
  ·exact h4
 refine h.step (rc.refl w) (λ_=>False) (λb h1 h2=>rfl) (λ_ h=>h.elim) (λ_ _ h=>h.elim) (λ_ h=>h) (λ_ h1 h2=>absurd h1 h2)
  (λ_ h=>⟨h,rfl⟩) (λs hs=>⟨Pm.2 (.inr hs),rfl⟩) (λs c hs=>.inl ⟨hs,id,(h.ob_nf WR).1⟩) h.obne (λs x hs=>?_)
  (λa b k ha hb' h1 h2=>h.rowne a b k (hL' a ha) (hL' b hb') h1 h2) (λa s ha hs=>h.rowob a s (hL' a ha) hs)
 by_cases hsd:s=r
 ·subst hsd;simp only [ig,Option.some.injEq] at hs;subst hs;exact .inr (h.row s x0 hr).slice
 ·simp only [fu _ _ _ _ hsd] at hs;exact .inl ⟨hs,λhL2 b hb'=>⟨id,(h.row_nf hL2 hb').1⟩⟩
theorem sS.rd{w0:World}{X F:Nat->Prop}{v:Value}{e sz:Nat}{rows:List (List T)}(h:sS w0 w X F v (.live e sz rows))(F':Nat->Prop)(hF:∀ b,F b->F' b)(hF':∀ b,v.ownBlock=some b->F' b):Rd w F' (.sl sz rows) v:=by
 obtain ⟨inner,ho,h1,h2,h3⟩:=h;rcases ho.2 with ⟨rfl,hn⟩ | ⟨b,cap,cur,rfl,_,hh,hc,hm,hsz,htake⟩
 ·have:rows=[]:=zQW hn;subst this;exact .sl0 _ _ _ (by first | assumption | exact λ_=>rfl | (intro h; cases h))
 ·refine .sl sz rows b 0 cap (λi j=>inner.getD (i*sz+j) undef) hc (hF' b rfl) h1 (λi row j x hi hj=>?_) (λi row j x hi hj=>?_)
  ·obtain ⟨u,hu,_⟩:=h2 i row j x hi hj;have:=ho.cells (g:=b) rfl (i*sz+j) u hu;rw [zZZ,hu,zQg];have ha:(⟨b,0,none⟩:Addr).add (i*sz+j)=⟨b,i*sz+j,none⟩:=by unfold Addr.add; split <;> simp_all
   rw [ha] at this;exact this
  ·obtain ⟨u,hu,hr⟩:=h2 i row j x hi hj;rw [zZZ,hu];exact hr.mono (λ_ _=>rfl) hF
theorem gG.frz_row(h:gG E g st w)(r e sz:Nat)(rows:List (List T))(hr:st.rw r=some (.live e sz rows)) :
  gG E { g with F:=λb=>g.F b\/(g.rw r).ownBlock=some b } { st with rw:=jr st.rw r (some (.frz sz rows)) } w /\
   th w w g { g with F:=λb=>g.F b\/(g.rw r).ownBlock=some b } st.O st.R ({ st with rw:=jr st.rw r (some (.frz sz rows)) }:St).O ({ st with rw:=jr st.rw r (some (.frz sz rows)) }:St).R:=by
 have hL:st.L r:=⟨e,sz,rows,hr⟩;have hL':∀ a,({ st with rw:=jr st.rw r (some (.frz sz rows)) }:St).L a->st.L a/\a≠r:=λa ha=>by
  rcases AM.1 ha with ⟨rfl,e,sz,rows,hx⟩ | ⟨h3,h4⟩
  ·cases hx
  ·exact ⟨h4,h3⟩
 refine h.step (rc.refl w) (λ_=>False) (λb h1 h2=>rfl) (λ_ h=>h.elim) (λ_ _ h=>h.elim) (λ_ h=>.inl h) (λb h1 h2=>?_)
  (λ_ h=>⟨h,rfl⟩) (λs hs=>⟨Pm.2 (.inr hs),rfl⟩) (λs c hs=>.inl ⟨hs,id,?_⟩) h.obne (λs x hs=>?_)
  (λa b k ha hb' h1 h2=>h.rowne a b k (hL' a ha).1 (hL' b hb').1 h1 h2) (λa s ha hs=>h.rowob a s (hL' a ha).1 hs)
 ·have h3:=h1.resolve_left h2;refine ⟨h.row_lt hL h3,λhlt=>?_,.inr (h.row_wr hL h3)⟩;rcases (h.row_nf hL h3).2 with h4 | h4
  ·omega
  ·exact .inr h4
 ·have hO:st.O s:=by simpa [St.O] using qbh
  exact λhf=>hf.elim (h.ob_nf hO).1 (λhe=>h.rowob r s hL hO he)
 ·by_cases hsd:s=r
  ·subst hsd;simp only [ig,Option.some.injEq] at hs;subst hs;exact .inr ((h.row s _ hr).rd _ (λ_ h=>.inl h) (λ_ h=>.inr h))
  ·simp only [fu _ _ _ _ hsd] at hs;exact .inl ⟨hs,λhL2 b hb'=>⟨id,λhf=>hf.elim (h.row_nf hL2 hb').1 (λhe=>hsd (h.rowne s r b hL2 hL hb' he))⟩⟩
end
def Di(P:Program)(o:Oper)(a:Act)(w:World)(v:Value)(w':World):Prop :=
 (execOp a.eval o).run P w=.ok (.value v) w'\/((execOp a.eval o).run P w=.ok .skip w'/\v=undef)
structure zu (E:En) (g:Gh) (st:St) (w:World) (x:A) (st':St) (v:Value) (g':Gh) (w':World):Prop where
 mem:gG E g' st' w'
 vr:VR w' g' st'.O st'.R x v
 ext:th w w' g g' st.O st.R st'.O st'.R
 tm:st'.tm=st.tm
section
variable {P:Program} {E:En} {g:Gh} {st st':St} {a:Act} {w:World}
theorem gZ{α:Type}{x y:α}{s s':St}(h:MA.run (.ret x) s=some (y,s')):y=x/\s'=s:=by
 simp only [MA.run,Option.some.injEq,Prod.mk.injEq] at h;exact ⟨h.1.symm,h.2.symm⟩
theorem aJ{α:Type}{y:α}{s s':St}(h:MA.run .fail s=some (y,s')):False:=by simp [MA.run] at h
theorem MB{x y:A}{v:Value}(hM:gG E g st w)(h:MA.run (.ret x) st=some (y,st'))(hv:VR w g st.O st.R x v):zu E g st w y st' v g w:=by
 obtain ⟨rfl,rfl⟩:=gZ h;exact ⟨hM,hv,th.refl _ _ _ _,rfl⟩
theorem Dt{v:Value}{x:A}(h:qc v=some x)(w:World)(g:Gh)(O R:Nat->Prop):VR w g O R x v/\x.one=true:=by
 unfold qc at h
 split at h
 ·cases h; exact ⟨.t _ _ (.int _ _),rfl⟩
 ·cases h; exact ⟨.t _ _ (.bool _),rfl⟩
 ·cases h; exact ⟨.t _ _ (.str _),rfl⟩
 ·cases h; exact ⟨.nil,rfl⟩
 ·cases h; exact ⟨.t _ _ .nilf,rfl⟩
 ·cases h
theorem Hv{α:Type}{l:List (Option α)}{r:List α}(h:ef l=some r):l=r.map some:=by
 induction l generalizing r with
 | nil=>simp [ef] at h; subst h; rfl
 | cons x l ih =>
  unfold ef at h
  split at h
  ·rename_i x' r' h2
   cases h
   rw [ih h2];rfl
  ·cases h
theorem uV{α β:Type}{f:α->Option β}{l:List α}{r:List β}(h:ef (l.map f)=some r) :
  l.length=r.length/\∀ (i:Nat) (y:β),r[i]?=some y->∃ x,l[i]?=some x/\f x=some y:=by
 have h2:=Hv h;have hl:l.length=r.length:=by have:=congrArg List.length h2; simpa using this
 refine ⟨hl,λi y hy=>?_⟩;have hi:i < r.length:=(sr.1 hy).1;have h3:=congrArg (λq:List (Option β)=>q[i]?) h2;simp only [zQz,hy,zWY] at h3;rw [sX ak] at h3;exact ⟨_,sX ak,by simpa using h3⟩
theorem TF{v:Value}{x:A}(h:A.ofValue v=some x)(w:World)(g:Gh)(O R:Nat->Prop):VR w g O R x v:=by
 unfold A.ofValue at h
 split at h
 ·rename_i cs
  split at h
  ·rename_i l hl
   cases h
   obtain ⟨h1,h2⟩:=uV hl;have:=VR.agg (w:=w) (g:=g) (O:=O) (R:=R) l cs.toList h1.symm (λi x v hx hv=>by
    obtain ⟨u,hu,hf⟩:=h2 i x hx;rw [hu] at hv
    cases hv
    exact (Dt hf w g O R).1)
   simpa using this
  ·cases h
 ·cases h; exact .undef _
 ·exact (Dt h w g O R).1
theorem b9{n:Nat}(hS:uU E g n st a w){x:Operand}{y:A}(h:st.eval x=some y):VR w g st.O st.R y (a.eval x):=by
 cases x with
 | tmp t =>
  simp only [St.eval,Option.some.injEq] at h;subst h
  by_cases ht:t < n
  ·obtain ⟨v,hv,hr⟩:=hS.tm t ht;have:a.eval (.tmp t)=v:=by simp [Act.eval,Array.getD_eq_getD_getElem?,hv]
   rw [this];exact hr
  ·have hn:n<=t:=Nat.le_of_not_lt ht;rw [hS.und t hn];exact .undef _
 | const v=>exact TF h _ _ _ _
 | global g=>simp [St.eval] at h
 | func f =>
  simp only [St.eval,Option.some.injEq] at h;subst h;exact .clo f [] [] rfl kU
theorem VR.cells{x:A}{v:Value}(hM:gG E g st w)(h:VR w g st.O st.R x v)(h1:x.cells.all A.one=true):v.cells.size=x.cells.length /\
  (∀ u∈v.cells.toList,u.oneCell'=true)/\∀ (j:Nat) (y:A),x.cells[j]?=some y->y.one=true/\∃ u,v.cells[j]?=some u/\VR w g st.O st.R y u:=by
 have key:∀ {x:A} {v:Value},VR w g st.O st.R x v->x.one=true->x.cells=[x]->v.cells.size=x.cells.length/\(∀ u∈v.cells.toList,u.oneCell'=true) /\
   ∀ (j:Nat) (y:A),x.cells[j]?=some y->y.one=true/\∃ u,v.cells[j]?=some u/\VR w g st.O st.R y u:=by
  intro x v h hx hc;obtain ⟨h2,h3⟩:=hM.one h hx;rw [hc,h3];refine ⟨rfl,by simp [h2],λj y hy=>?_⟩
  cases j with
  | zero=>simp at hy; subst hy; exact ⟨hx,v,rfl,h⟩
  | succ j=>simp at hy
 cases h with
 | agg l vs hl h =>
  refine ⟨by simp [Value.cells,A.cells,hl],λu hu=>?_,λj y hy=>?_⟩
  ·obtain ⟨j,hj,rfl⟩:=List.mem_iff_getElem.1 hu;have hj':j < l.length:=by simp [Value.cells] at hj; omega
   have hy:l[j].one=true:=by
    simp only [A.cells,zYJ] at h1;exact h1 _ (zYH hj')
   exact (hM.one (h j l[j] _ (sX hj') (by simp [Value.cells])) hy).1
  ·simp only [A.cells] at hy h1;have hj:j < l.length:=(sr.1 hy).1;refine ⟨?_,vs[j],by simp [Value.cells,sX (show j < vs.length by omega)],h j y _ hy (sX ak)⟩;simp only [zYJ] at h1;exact h1 _ (zQY hy)
 | tup=>simp [A.cells,A.one] at h1
 | undef=>simp [A.cells,A.one] at h1
 | raw=>simp [A.cells,A.one] at h1
 | osl s a n c hs ha=>exact key (.osl s a n c hs ha) rfl rfl
 | t x v h=>exact key (.t x v h) rfl rfl
 | nil=>exact key .nil rfl rfl
 | own r hr=>exact key (.own r hr) rfl rfl
 | obj s off hs=>exact key (.obj s off hs) rfl rfl
 | elem r sz i off b n c hr he=>exact key (.elem r sz i off b n c hr he) rfl rfl
 | win r lo m n c c' ad a' hr he hm hp=>exact key (.win r lo m n c c' ad a' hr he hm hp) rfl rfl
 | sub r sz lo n c c' ad a' hr he hp=>exact key (.sub r sz lo n c c' ad a' hr he hp) rfl rfl
 | fadr cells b off u hF hx hr=>exact key (.fadr cells b off u hF hx hr) rfl rfl
 | nn sz rows v h hv=>exact key (.nn sz rows v h hv) rfl rfl
 | clo f caps vs hl h=>exact key (.clo f caps vs hl h) rfl rfl
 | ext s x v hs h=>exact key (.ext s x v hs h) rfl rfl
 | shp x v h=>exact key (.shp x v h) rfl rfl
 | exa s cells b off u hs hD hx hr=>exact key (.exa s cells b off u hs hD hx hr) rfl rfl
theorem RK{d:Nat}{cells:List A}{x:A}(h:(RI d cells).run st=some (x,st')):st.ob d=none/\cells.all A.one=true/\x=.obj d 0/\st'={ st with ob:=jr st.ob d (some cells) }:=by
 unfold RI at h;simp only [MA.run] at h
 cases ho:st.ob d with
 | some c=>simp [ho,MA.run] at h
 | none =>
  simp only [ho] at h
  split at h
  ·rename_i h1;simp only [MA.run,Option.some.injEq,Prod.mk.injEq] at h;exact ⟨rfl,h1,h.1.symm,h.2.symm⟩
  ·simp [MA.run] at h
theorem RL{d:Nat}{cells:List A}{x:A}(hM:gG E g st w)(e:TypeId)(vs:Array Value)(hl:cells.length<=vs.size)
  (hv:∀ (j:Nat) (y:A),cells[j]?=some y->y.one=true/\∃ u,vs[j]?=some u/\VR w g st.O st.R y u) (h:(RI d cells).run st=some (x,st')) :
  ∃ g',zu E g st w x st' (.pointer (some ⟨w.heap.size,0,none⟩)) g' (w.alloc (.cells vs e)):=by
 obtain ⟨hd,h1,rfl,rfl⟩:=RK h;obtain ⟨hM',hE⟩:=hM.new_ob d hd cells vs e hl hv;refine ⟨_,hM',?_,hE,rfl⟩;have:=VR.obj (w:=w.alloc (.cells vs e)) (g:={ g with ob:=jr g.ob d w.heap.size }) (O:=({ st with ob:=jr st.ob d (some cells) }:St).O) (R:=({ st with ob:=jr st.ob d (some cells) }:St).R) d 0 (O_upd.2 (.inl rfl))
 simpa only [ig] using this
theorem Pn{e:TypeId}{z:List A}(h:uT P e=some z):∃ i zv,P.info? e=some i/\i.zero=some zv/\zv.cells.size=z.length /\
  (∀ (w:World) (g:Gh) (O R:Nat->Prop) (j:Nat) (y:A),z[j]?=some y->y.one=true/\∃ u,zv.cells[j]?=some u/\VR w g O R y u):=by
 unfold uT CP at h
 cases hi:P.info? e with
 | none=>simp [hi] at h
 | some i =>
  rw [hi] at h
  cases hz:i.zero with
  | none=>simp [hz] at h
  | some zv =>
   simp only [zWY,hz] at h;obtain ⟨h1,h2⟩:=uV h;refine ⟨i,zv,rfl,hz,by simpa using h1,λw g O R j y hy=>?_⟩;obtain ⟨u,hu,hf⟩:=h2 j y hy;obtain ⟨hv,ho⟩:=Dt hf w g O R;exact ⟨ho,u,by simpa using hu,hv⟩
theorem mY{e:TypeId}{n:Nat}(h:i6 P e=some n):∃ i,P.info? e=some i/\i.size=n:=by
 unfold i6 CP at h
 cases hi:P.info? e with
 | none=>simp [hi] at h
 | some i=>simp [hi] at h; exact ⟨i,rfl,h⟩
theorem Po{e:TypeId}{z:Option Value}{n by_:Nat}(h:CP P e=some (z,n,by_)):∃ i,P.info? e=some i/\i.zero=z/\i.size=n/\i.bytes=by_:=by
 unfold CP at h
 cases hi:P.info? e with
 | none=>simp [hi] at h
 | some i=>simp [hi] at h; exact ⟨i,rfl,h.1,h.2.1,h.2.2⟩
theorem VJ{o:Oper}{e:TypeId}{d:Nat}{z:List A}{x:A}{n:Nat}(hS:uU E g n st a w)(ho:o.op=.alloc e)(hz:uT P e=some z)(h:(RI d z).run st=some (x,st')) :
  ∃ v g' w',Di P o a w v w'/\zu E g st w x st' v g' w':=by
 obtain ⟨i,zv,hi,hzv,hsz,hv⟩:=Pn hz;obtain ⟨g',hA⟩:=RL hS.mem e zv.cells ak (hv w g _ _) h;refine ⟨_,g',_,.inl ?_,hA⟩;simp [execOp,ho,Instr.alloc,zeroValue,typeInfo,hi,hzv,newVar,newRow,newObj,Sem.run]
theorem YA{o:Oper}{e:TypeId}{d:Nat}{y:Operand}{x v:A}{n:Nat}(hS:uU E g n st a w)(ho:o.op=.box e y)(hv:VR w g st.O st.R v (a.eval y))(h:(RI d v.cells).run st=some (x,st')) :
  ∃ v g' w',Di P o a w v w'/\zu E g st w x st' v g' w':=by
 obtain ⟨h1,h2,h3⟩:=hv.cells hS.mem (RK h).2.1;obtain ⟨g',hA⟩:=RL hS.mem e (a.eval y).cells ak h3 h;refine ⟨_,g',_,.inl ?_,hA⟩;simp [execOp,ho,Instr.box,newVar,newRow,newObj,Sem.run]
end
theorem add_lit(b o j:Nat):(⟨b,o,none⟩:Addr).add j=⟨b,o+j,none⟩:=by unfold Addr.add; split <;> simp_all
section
variable {P:Program} {E:En} {g:Gh} {st st':St} {a:Act} {w:World}
structure Ga (g:Gh) (st:St) (g1:Gh) (st1:St):Prop where
 L:∀ r,st1.L r->st.L r
 eob:st1.ob=st.ob
 ob:g1.ob=g.ob
 rw:g1.rw=g.rw
 F:∀ b,g1.F b->g.F b\/∃ r,st.L r/\¬ st1.L r/\(g.rw r).ownBlock=some b
 tm:st1.tm=st.tm
theorem Ga.refl(g:Gh)(st:St):Ga g st g st:=⟨λ_ h=>h,rfl,rfl,rfl,λ_ h=>.inl h,rfl⟩
theorem Ga.trans{g1 g2 g3:Gh}{s1 s2 s3:St}(h:Ga g1 s1 g2 s2)(k:Ga g2 s2 g3 s3):Ga g1 s1 g3 s3 :=
 ⟨λr hr=>h.L r (k.L r hr),k.eob.trans h.eob,k.ob.trans h.ob,k.rw.trans h.rw,λb hb=>by
  rcases k.F b hb with h1 | ⟨r,h1,h2,h3⟩
  ·rcases h.F b h1 with h4 | ⟨r,h4,h5,h6⟩
   ·exact .inl h4
   ·exact .inr ⟨r,h4,λh7=>h5 (k.L r h7),h6⟩
  ·exact .inr ⟨r,h.L r h1,h2,by rw [<- h.rw]; exact h3⟩,k.tm.trans h.tm⟩
theorem Qj{α:Type}{st':St}{x:A}{k:T->MA α}{y:α}{v:Value}(hM:gG E g st w)(hv:VR w g st.O st.R x v)(h:(x.toT k).run st=some (y,st')) :
  ∃ t st1 g1,gG E g1 st1 w/\th w w g g1 st.O st.R st1.O st1.R/\Ga g st g1 st1/\(k t).run st1=some (y,st')/\Rd w g1.F t v/\v.oneCell'=true:=by
 cases hv with
 | t x v h1=>exact ⟨x,st,g,hM,th.refl _ _ _ _,Ga.refl _ _,h,h1,h1.one.1⟩
 | nil=>exact ⟨_,st,g,hM,th.refl _ _ _ _,Ga.refl _ _,h,.sl0 _ _ _ (by first | assumption | exact λ_=>rfl | (intro h; cases h)),rfl⟩
 | own r hr =>
  obtain ⟨A1,n1,c1,hh⟩:=hM.hdr r hr;have h1c:(g.rw r).oneCell'=true:=by rw [hh]; rfl
  simp only [A.toT,MA.run] at h
  cases hx:st.rw r with
  | none=>simp [hx,MA.run] at h
  | some x =>
   cases x with
   | live e sz rows =>
    simp only [hx,MA.run] at h;obtain ⟨hM1,hE1⟩:=hM.frz_row r e sz rows hx;have hLr:st.L r:=⟨e,sz,rows,hx⟩;refine ⟨_,_,_,hM1,hE1,⟨λr' hr'=>?_,rfl,rfl,rfl,λb hb=>hb.imp id (λhb=>⟨r,hLr,λhl=>?_,hb⟩),rfl⟩,h,?_,h1c⟩
    ·rcases AM.1 hr' with ⟨rfl,_,_,_,hx⟩ | ⟨_,h3⟩
     ·cases hx
     ·exact h3
    ·rcases AM.1 hl with ⟨_,_,_,_,hx⟩ | ⟨h3,_⟩
     ·cases hx
     ·exact h3 rfl
    ·have:=hM1.row r (.frz sz rows) (by simp [jr]);exact this
   | frz sz rows =>
    simp only [hx,MA.run] at h;exact ⟨_,st,g,hM,th.refl _ _ _ _,Ga.refl _ _,h,hM.row r _ hx,h1c⟩
   | gone=>simp [hx,MA.run] at h
 | _=>simp [A.toT,MA.run] at h
theorem RM{α:Type}{st':St}{l:List A}:∀ {st:St} {g:Gh} {k:List T->MA α} {y:α} {vs:List Value} (hM:gG E g st w) (hl:vs.length=l.length)
  (hv:∀ (j:Nat) (x:A),l[j]?=some x->∃ u,vs[j]?=some u/\VR w g st.O st.R x u) (h:(fg l k).run st=some (y,st')),
  ∃ ts st1 g1,gG E g1 st1 w/\th w w g g1 st.O st.R st1.O st1.R/\Ga g st g1 st1/\(k ts).run st1=some (y,st')/\ts.length=l.length /\
   (∀ (j:Nat) (t:T),ts[j]?=some t->∃ u,vs[j]?=some u/\u.oneCell'=true/\Rd w g1.F t u):=by
 induction l with
 | nil =>
  intro st g k y vs hM hl hv h;exact ⟨[],st,g,hM,th.refl _ _ _ _,Ga.refl _ _,h,rfl,by simp⟩
 | cons x l ih =>
  intro st g k y vs hM hl hv h;obtain ⟨v,vs,rfl⟩:∃ v vs',vs=v :: vs':=by
   cases vs with
   | nil=>simp at hl
   | cons v vs=>exact ⟨v,vs,rfl⟩
  obtain ⟨u,hu,hx⟩:=hv 0 x rfl;simp at hu;subst hu;obtain ⟨t,st1,g1,hM1,hE1,ht1,h1,hr1,ho1⟩:=Qj hM hx h;obtain ⟨ts,st2,g2,hM2,hE2,ht2,h2,hl2,hr2⟩:=ih hM1 Tw (λj y hy=>by
   obtain ⟨u,hu,hx⟩:=hv (j+1) y Tx;exact ⟨u,by simpa using hu,hx.mono hE1⟩) h1
  refine ⟨t :: ts,st2,g2,hM2,hE1.trans hE2,ht1.trans ht2,h2,by simp [hl2],λj t' hj=>?_⟩
  cases j with
  | zero =>
   simp at hj;subst hj;exact ⟨v,rfl,ho1,hr1.mono hE2.same hE2.F⟩
  | succ j =>
   obtain ⟨u,hu,ho,hr⟩:=hr2 j t' WN;exact ⟨u,by simpa using hu,ho,hr⟩
structure Z1 (w:World) (F:Nat->Prop) (sz:Nat) (rows:List (List T)) (ad:Option Addr):Prop where
 len:∀ (i:Nat) (row:List T),rows[i]?=some row->row.length=sz
 at_:rows=[]\/∃ b off,ad=some ⟨b,off,none⟩/\∀ (i:Nat) (row:List T) (j:Nat) (x:T),rows[i]?=some row->row[j]?=some x->∃ u,w.cell? ⟨b,off+i*sz+j,none⟩=some u/\Rd w F x u
theorem I6:∀ (lb:List Nat) (l:List A),(ni lb l).length=l.length
 | [],l=>by cases l <;> rfl
 | n :: ns,[]=>rfl
 | n :: ns,a :: r=>by cases a <;> simp [ni,I6 ns r]
theorem I7:∀ (lb:List Nat) (l:List A) (j:Nat) (x:A),(ni lb l)[j]?=some x->∃ y,l[j]?=some y/\(x=y\/(y=.nil/\∃ n,x=.t (.sl n [])))
 | [],l,j,x,h=>⟨x,by cases l <;> exact h,.inl rfl⟩
 | n :: ns,[],j,x,h=>by simp [ni] at h
 | n :: ns,a :: r,0,x,h=>by
  refine ⟨a,rfl,?_⟩
  cases a <;> simp [ni] at h <;> first | exact .inl h.symm | exact .inr ⟨rfl,n,h.symm⟩
 | n :: ns,a :: r,j+1,x,h=>by
  have:(ni ns r)[j]?=some x:=by cases a <;> simpa [ni] using h
  obtain ⟨y,h1,h2⟩:=I7 ns r j x this;exact ⟨y,by simpa using h1,h2⟩
theorem VK{lb:List Nat}{l:List A}(h:(ni lb l).all A.one=true):l.all A.one=true:=by
 rw [zYJ] at h ⊢
 induction l generalizing lb with
 | nil=>intro x hx; simp at hx
 | cons a r ih =>
  intro x hx;have h0:a.one=true/\∃ ns,∀ x∈ni ns r,x.one=true:=by
   cases lb with
   | nil=>exact ⟨h a (by simp [ni]),[],λx hx=>h x (by simp only [ni]; cases r <;> first | exact zQj _ hx | (simp [ni] at hx))⟩
   | cons n ns =>
    cases a <;> simp only [ni] at h <;> first
     | exact ⟨rfl,ns,λx hx=>h x (zQj _ hx)⟩
     | exact ⟨h _ (zWQ ..),ns,λx hx=>h x (zQj _ hx)⟩
  obtain ⟨h1,ns,h2⟩:=h0;rcases aaa.1 hx with rfl | hx
  ·exact h1
  ·exact ih h2 x hx
theorem Hw{α:Type}{st':St}{lb:List Nat}{l:List A}{st:St}{g:Gh}{k:List T->MA α}{y:α}{vs:List Value}(hM:gG E g st w)(hl:vs.length=l.length)
  (hv:∀ (j:Nat) (x:A),l[j]?=some x->∃ u,vs[j]?=some u/\VR w g st.O st.R x u) (h:(fg (ni lb l) k).run st=some (y,st')) :
  ∃ ts st1 g1,gG E g1 st1 w/\th w w g g1 st.O st.R st1.O st1.R/\Ga g st g1 st1/\(k ts).run st1=some (y,st')/\ts.length=l.length /\
   (∀ (j:Nat) (t:T),ts[j]?=some t->∃ u,vs[j]?=some u/\u.oneCell'=true/\Rd w g1.F t u):=by
 have:=RM hM (l:=ni lb l) (vs:=vs) (by rw [I6]; exact hl) (λj x hj=>by
  obtain ⟨y,h1,h2⟩:=I7 lb l j x hj;obtain ⟨u,hu,hr⟩:=hv j y h1;rcases h2 with rfl | ⟨rfl,n,rfl⟩
  ·exact ⟨u,hu,hr⟩
  ·cases hr
   exact ⟨_,hu,.t _ _ (.sl0 _ _ _ (by first | assumption | exact λ_=>rfl | (intro h; cases h)))⟩) h
 rwa [I6] at this
theorem Rd.rds{F:Nat->Prop}{sz:Nat}{rows:List (List T)}{v:Value}(h:Rd w F (.sl sz rows) v):∃ ad c,v=.slice ad rows.length c/\Z1 w F sz rows ad:=by
 cases h with
 | sl0 sz a c ha=>exact ⟨a,c,rfl,by simp,.inl rfl⟩
 | sl sz rows b off c u hc hF hs hx hr=>exact ⟨_,c,rfl,hs,.inr ⟨b,off,rfl,λi row j x h1 h2=>⟨_,hx i row j x h1 h2,hr i row j x h1 h2⟩⟩⟩
theorem sS.rds{w0:World}{X F:Nat->Prop}{v:Value}{e sz:Nat}{rows:List (List T)}(h:sS w0 w X F v (.live e sz rows)):∃ ad c,v=.slice ad rows.length c/\Z1 w F sz rows ad:=by
 obtain ⟨inner,ho,h1,h2,h3⟩:=h;rcases ho.2 with ⟨rfl,hn⟩ | ⟨b,cap,cur,rfl,_,hh,hc,hm,hsz,htake⟩
 ·exact ⟨none,0,by rw [hn],h1,.inl (zQW hn)⟩
 ·refine ⟨_,cap,rfl,h1,.inr ⟨b,0,rfl,λi row j x hi hj=>?_⟩⟩;obtain ⟨u,hu,hr⟩:=h2 i row j x hi hj;have:=ho.cells (g:=b) rfl (i*sz+j) u hu;rw [add_lit] at this;exact ⟨u,by rw [zQg] at *; exact this,hr⟩
theorem Rd.sc0{F F':Nat->Prop}{x:T}{v:Value}(h:Rd w F x v)(hx:x.sc=true):Rd w F' x v:=by
 cases h with
 | int k n=>exact .int k n
 | bool b=>exact .bool b
 | str s=>exact .str s
 | nilf=>exact .nilf
 | hdr a n c=>exact .hdr a n c
 | sl0 | sl=>cases hx
theorem Du{α:Type}{x:A}{k:Nat->List (List T)->MA α}{y:α}{v:Value}(hM:gG E g st w)(hv:VR w g st.O st.R x v)(h:(x.rows k).run st=some (y,st')) :
  ∃ rows sz ad c,(k sz rows).run st=some (y,st')/\v=.slice ad rows.length c/\Z1 w g.F sz rows ad:=by
 cases hv with
 | t x v h1 =>
  cases x with
  | sl sz rows =>
   obtain ⟨ad,c,hv,hr⟩:=h1.rds;exact ⟨rows,sz,ad,c,h,hv,hr⟩
  | _=>simp [A.rows,MA.run] at h
 | nil=>exact ⟨[],0,none,0,h,rfl,by simp,.inl rfl⟩
 | ext s x v hs h1 =>
  cases s with
  | true=>simp [A.rows,MA.run] at h
  | false =>
   cases x with
   | sl sz rows =>
    simp only [A.rows] at h
    split at h
    rotate_left
    ·exact (aJ h).elim
    rename_i hsc;have hM0:=hM;have h2:Rd w g.D (.sl sz rows) v:=h1.rd (λb hb=>by
     obtain ⟨h3,h4,h5,_⟩:=hM0.dep b hb;rw [h3];rcases hM0.frame b h4 h5 with h6 | ⟨h6,_⟩
     ·exact h6
     ·rw [hs] at h6; cases h6) (λ_ h=>h)
    obtain ⟨ad,c,hv,hr⟩:=h2.rds;refine ⟨rows,sz,ad,c,h,hv,hr.len,hr.at_.imp id λ⟨b,off,e,hx⟩=>⟨b,off,e,λi row j x hi hj=>?_⟩⟩;obtain ⟨u,hu,hrd⟩:=hx i row j x hi hj;exact ⟨u,hu,hrd.sc0 (KB.1 (KB.1 hsc row (zQY hi)) x (zQY hj))⟩
   | _=>simp [A.rows,MA.run] at h
 | own r hr =>
  simp only [A.rows,MA.run] at h
  cases hx:st.rw r with
  | none=>simp [hx,MA.run] at h
  | some x =>
   cases x with
   | live e sz rows =>
    simp only [hx] at h;obtain ⟨ad,c,hv,hr⟩:=(hM.row r _ hx).rds;exact ⟨rows,sz,ad,c,h,hv,hr⟩
   | frz sz rows =>
    simp only [hx] at h;obtain ⟨ad,c,hv,hr⟩:=Rd.rds (hM.row r _ hx);exact ⟨rows,sz,ad,c,h,hv,hr⟩
   | gone=>simp [hx,MA.run] at h
 | _=>simp [A.rows,MA.run] at h
theorem Z1.flat{F:Nat->Prop}{sz:Nat}{rows:List (List T)}{ad:Option Addr}(h:Z1 w F sz rows ad)(hne:rows≠[]) :
  ∃ b off,ad=some ⟨b,off,none⟩/\∃ news:List Value,news.length=rows.length*sz/\(∀ (j:Nat) (u:Value),news[j]?=some u->w.cell? ((⟨b,off,none⟩:Addr).add j)=some u) /\
   (∀ u∈news,u.oneCell'=true)/\∀ (i:Nat) (row:List T) (j:Nat) (x:T),rows[i]?=some row->row[j]?=some x->∃ u,news[i*sz+j]?=some u/\Rd w F x u:=by
 obtain ⟨b,off,rfl,hx⟩:=h.at_.resolve_left hne;have key:∀ k,k < rows.length*sz->∃ u,w.cell? ⟨b,off+k,none⟩=some u/\u.oneCell'=true:=by
  intro k hk;have hsz:0 < sz:=Nat.pos_of_ne_zero λh0=>by rw [h0] at hk; omega
  have hi:k / sz < rows.length:=by rw [Nat.div_lt_iff_lt_mul hsz]; exact hk
  have hj:k % sz < (rows[k / sz]).length:=by rw [h.len _ _ (sX hi)]; exact Nat.mod_lt _ hsz
  obtain ⟨u,hu,hr⟩:=hx (k / sz) _ (k % sz) _ (sX hi) (sX hj);refine ⟨u,?_,hr.one.1⟩;have:=Nat.div_add_mod k sz;rw [show off+k=off+k / sz*sz+k % sz by rw [Nat.mul_comm]; omega];exact hu
 refine ⟨b,off,rfl,(zXW (rows.length*sz)).map (λk=>(w.cell? ⟨b,off+k,none⟩).getD undef),by simp,λj u hu=>?_,λu hu=>?_,λi row j x hi hj=>?_⟩
 ·have hj:j < rows.length*sz:=by
   have:=(sr.1 hu).1
   simpa using this
  obtain ⟨u',hu',_⟩:=key j hj;simp only [zQz,zZQ hj,zWY,hu',zYG,Option.some.injEq] at hu;rw [add_lit,hu',hu]
 ·simp only [zXg,List.mem_range] at hu;obtain ⟨k,hk,rfl⟩:=hu;obtain ⟨u',hu',ho⟩:=key k hk;rw [hu'];exact ho
 ·obtain ⟨u,hu,hr⟩:=hx i row j x hi hj;have hlt:i*sz+j < rows.length*sz:=by
   have h1:i < rows.length:=(sr.1 hi).1;have h2:j < sz:=by rw [<- h.len i row hi]; exact (sr.1 hj).1
   have h3:(i+1)*sz<=rows.length*sz:=zQq _ h1;rw [zXY] at h3;omega
  refine ⟨u,?_,hr⟩;simp only [zQz,zZQ hlt,zWY,<- zZX,hu,zYG]
theorem YB{gg:Bool}{n off:Nat}{l:List A}{x:A}{b o:Nat}(h:F7 gg n l off=some x)
  (hc:∀ (j:Nat) (y:A),l[j]?=some y->∃ u,w.cell? ⟨b,o+j,none⟩=some u/\VR w g st.O st.R y u) :
  (gg=true->∃ vs:List Value,vs.length=n/\(loadCells ⟨b,o+off,none⟩ n).run P w=.ok vs.toArray w/\VR w g st.O st.R x (.agg vs.toArray)) /\
  (gg=false->∃ v,w.cell? ⟨b,o+off,none⟩=some v/\VR w g st.O st.R x v):=by
 unfold F7 at h
 split at h
 ·rename_i hle;refine ⟨λhg=>?_,λhg=>?_⟩
  ·rw [if_pos hg] at h
   cases h
   have key:∀ k,k < n->∃ u y,w.cell? ⟨b,o+off+k,none⟩=some u/\l[off+k]?=some y/\VR w g st.O st.R y u:=by
    intro k hk;have hi:off+k < l.length:=by omega
    obtain ⟨u,hu,hr⟩:=hc (off+k) _ (sX hi);exact ⟨u,_,by rw [zZX]; exact hu,sX hi,hr⟩
   refine ⟨(zXW n).map (λk=>(w.cell? ⟨b,o+off+k,none⟩).getD undef),by simp,?_,?_⟩
   ·refine run_loadCells w _ n _ (λj hj=>?_);obtain ⟨u,y,hu,_⟩:=key j hj;rw [add_lit,hu];rfl
   ·refine .agg _ _ lv (λi y v hy hv=>?_);have hi:i < n:=by
     have:=(sr.1 hv).1
     simpa using this
    obtain ⟨u,y',hu,hy',hr⟩:=key i hi;simp only [zQz,zZQ hi,zWY,hu,zYG,Option.some.injEq] at hv;rw [zQK,if_pos hi,zQJ,hy',Option.some.injEq] at hy;rw [<- hy,<- hv];exact hr
  ·subst hg;simp only [zQk,if_false] at h
   split at h
   ·obtain ⟨u,hu,hr⟩:=hc off x h;exact ⟨u,hu,hr⟩
   ·cases h
 ·cases h
theorem Hx{t:TypeId}{gg:Bool}(h:RH P t=some gg)(w:World):(isAgg t).run P w=.ok gg w:=by
 unfold RH at h
 cases hu:P.underlying t with
 | none=>simp [hu] at h
 | some d =>
  rw [hu] at h
  cases d <;> simp at h <;> subst h <;> simp [isAgg,run_underlying hu]
theorem Dv{t:TypeId}{gg:Bool}{n b o off:Nat}{l:List A}{x:A}(hg:RH P t=some gg)(hn:i6 P t=some n)(h:F7 gg n l off=some x)
  (hc:∀ (j:Nat) (y:A),l[j]?=some y->∃ u,w.cell? ⟨b,o+j,none⟩=some u/\VR w g st.O st.R y u) :
  ∃ v,(loadVar t ⟨b,o+off,none⟩).run P w=.ok v w/\VR w g st.O st.R x v:=by
 obtain ⟨i,hi,hsz⟩:=mY hn;obtain ⟨h1,h2⟩:=YB (P:=P) h hc
 cases gg with
 | true =>
  obtain ⟨vs,hl,hr,hv⟩:=h1 rfl;refine ⟨_,?_,hv⟩;simp [loadVar,Hx hg,sizeOf,typeInfo,hi,hsz,hr]
 | false =>
  obtain ⟨v,hv,hr⟩:=h2 rfl;refine ⟨v,?_,hr⟩;simp [loadVar,Hx hg,run_load,hv]
theorem gG.now(hM:gG E g st w)(h:g.sh=false):Av g.D g.dw w:=λb hb=>by
 obtain ⟨h1,h2,h3,_⟩:=hM.dep b hb;rw [h1];rcases hM.frame b h2 h3 with h4 | ⟨h4,_⟩
 ·exact h4
 ·rw [h] at h4; cases h4
theorem gG.nowK(hM:gG E g st w)(h:g.sh=true){b:Nat}(hb:g.D b):KS g.dw w b:=by
 obtain ⟨h1,h2,h3,h5⟩:=hM.dep b hb;rw [h1];rcases hM.frame b h2 h3 with h4 | ⟨_,_,h4⟩
 ·exact (KS.refl (h5 h).2).same h4
 ·exact h4
theorem WX{s:Bool}{x:T}{b o:Nat}{u:Value}(hM:gG E g st w)(hs:g.sh=s)(hD:g.D b)(hx:g.dw.cell? ⟨b,o,none⟩=some u)(hr:Sd s g.dw g.D x u) :
  ∃ u',w.cell? ⟨b,o,none⟩=some u'/\VR w g st.O st.R (Yz s x) u':=by
 cases s with
 | false =>
  have hsm:=hM.now hs;refine ⟨u,by rw [BI hsm hD]; exact hx,?_⟩
  cases x with
  | sl sz rows=>exact .ext false _ _ hs hr
  | int k n=>cases hr with | int k n n' h=>rw [h rfl]; exact .t _ _ (.int k n)
  | bool b=>cases hr with | bool b b' h=>rw [h rfl]; exact .t _ _ (.bool b)
  | str b=>cases hr; exact .t _ _ (.str b)
  | nilf=>cases hr; exact .t _ _ .nilf
  | hdr a n c=>cases hr; exact .t _ _ (.hdr _ _ _)
 | true =>
  obtain ⟨u',h1,h2⟩:=(hM.nowK hs hD).cell hx;refine ⟨u',h1,?_⟩
  cases x <;> exact .ext true _ _ hs (hr.kq h2)
theorem WY{o:Oper}{t:TypeId}{y:Operand}{x v:A}{n:Nat}(hS:uU E g n st a w)(ho:o.op=.load t y)(hv:VR w g st.O st.R v (a.eval y))(h:(I4 P t v).run st=some (x,st')) :
  ∃ u g' w',Di P o a w u w'/\zu E g st w x st' u g' w':=by
 have hM:=hS.mem;unfold I4 at h
 split at h
 rotate_left
 ·exact (aJ h).elim
 rename_i gg nn hg hn;have fin:∀ (l:List A) (b o' off:Nat) (_:a.eval y=.pointer (some ⟨b,o'+off,none⟩)) (_:∀ (j:Nat) (y:A),l[j]?=some y->∃ u,w.cell? ⟨b,o'+j,none⟩=some u/\VR w g st.O st.R y u)
   (_:(match F7 gg nn l off with | some v=>MA.ret v | none=>MA.fail).run st=some (x,st')),∃ u g' w',Di P o a w u w'/\zu E g st w x st' u g' w':=by
  intro l b o' off he hc h
  split at h
  ·rename_i z hz;obtain ⟨u,hu,hr⟩:=Dv (P:=P) hg hn hz hc;refine ⟨u,g,w,.inl ?_,MB hM h hr⟩;simp [execOp,ho,Instr.loadAt,Instr.sureAddr,he,hu]
  ·exact (aJ h).elim
 generalize hu:a.eval y=uu at hv fin
 cases hv with
 | obj s off hs =>
  simp only [MA.run] at h
  cases hc:st.ob s with
  | none=>simp [hc,MA.run] at h
  | some cells =>
   simp only [hc] at h;obtain ⟨arr,e,hh,hl,hv,_⟩:=hM.ob s cells hc;exact fin cells (g.ob s) 0 off (by rw [zQg]) (λj y hy=>by
    obtain ⟨_,u,hu,hr⟩:=hv j y hy;exact ⟨u,by rw [zQg]; simp [World.cell?,hh,hu],hr⟩) h
 | elem r sz i off b n' c hr he =>
  simp only [MA.run] at h;have key:∀ (sz':Nat) (rows:List (List T)) (_:Z1 w g.F sz' rows (some ⟨b,0,none⟩)) (_:(if sz=sz' then match rows[i]? with
    | some row=>match F7 gg nn (row.map A.t) off with | some v=>MA.ret v | none=>MA.fail
    | none=>MA.fail
    else MA.fail).run st=some (x,st')),∃ u g' w',Di P o a w u w'/\zu E g st w x st' u g' w':=by
   intro sz' rows hR h
   split at h
   rotate_left
   ·exact (aJ h).elim
   rename_i hsz;subst hsz
   split at h
   rotate_left
   ·exact (aJ h).elim
   rename_i row hrow;refine fin (row.map A.t) b (i*sz) off rfl (λj y hy=>?_) h;rw [zQz,zWj] at hy;obtain ⟨z,hz,rfl⟩:=hy;rcases hR.at_ with hR | ⟨b',off',he',hR⟩
   ·rw [hR] at hrow; cases hrow
   ·injection he' with he'
    injection he' with hb ho' _
    subst hb ho';obtain ⟨u,hu,hr⟩:=hR i row j z hrow hz;exact ⟨u,by rw [zQg] at hu; exact hu,.t _ _ hr⟩
  cases hx:st.rw r with
  | none=>simp [hx,MA.run] at h
  | some xx =>
   cases xx with
   | live e sz' rows =>
    simp only [hx] at h;obtain ⟨ad,c',hv,hR⟩:=(hM.row r _ hx).rds;rw [he] at hv;injection hv with h1 _ _
    exact key sz' rows (h1 ▸ hR) h
   | frz sz' rows =>
    simp only [hx] at h;obtain ⟨ad,c',hv,hR⟩:=Rd.rds (hM.row r _ hx);rw [he] at hv;injection hv with h1 _ _
    exact key sz' rows (h1 ▸ hR) h
   | gone=>simp [hx,MA.run] at h
 | fadr cells b off u hF hx hr =>
  refine fin (cells.map A.t) b off 0 rfl (λj y hy=>?_) h;rw [zQz,zWj] at hy;obtain ⟨z,hz,rfl⟩:=hy;exact ⟨_,hx j z hz,.t _ _ (hr j z hz)⟩
 | exa s cells b off u hs hD hx hr =>
  refine fin (cells.map (Yz s)) b off 0 rfl (λj y hy=>?_) h;rw [zQz,zWj] at hy;obtain ⟨z,hz,rfl⟩:=hy;exact WX hM hs hD (hx j z hz) (hr j z hz)
 | _=>exact (aJ h).elim
theorem AN{α:Type}{l cs:List α}{off:Nat}(h:off+cs.length<=l.length):(spl l off cs).length=l.length /\
  ∀ (j:Nat) (y:α),(spl l off cs)[j]?=some y->(off<=j/\cs[j - off]?=some y)\/(l[j]?=some y/\(j < off\/off+cs.length<=j)):=by
 unfold spl;refine ⟨by simp; omega,λj y hy=>?_⟩;rw [zQX,zWK] at hy
 split at hy
 ·rename_i hj;simp at hj;rw [zQK,if_pos ak] at hy;exact .inr ⟨hy,.inl ak⟩
 ·rename_i hj;have ht:(l.take off).length=off:=by simp; omega
  rw [ht] at hj hy;rw [zWK] at hy
  split at hy
  ·exact .inl ⟨by omega,hy⟩
  ·rename_i hj2;rw [zQJ] at hy;refine .inr ⟨?_,.inr ak⟩;rw [<- hy]
   congr 1
   omega
theorem VL{o:Oper}{t:TypeId}{y z:Operand}{x v u:A}{n:Nat}(hS:uU E g n st a w)(ho:o.op=.store t y z)(hv:VR w g st.O st.R v (a.eval y))(hu:VR w g st.O st.R u (a.eval z))
  (h:(Cf P t v u).run st=some (x,st')):∃ v' g' w',Di P o a w v' w'/\zu E g st w x st' v' g' w':=by
 have hM:=hS.mem;unfold Cf at h
 split at h
 rotate_left
 ·exact (aJ h).elim
 rename_i nn hn;obtain ⟨i,hi,hsz⟩:=mY hn
 split at h
 rotate_left
 ·exact (aJ h).elim
 rename_i hl;obtain ⟨hl,h1⟩:=hl;obtain ⟨hc1,hc2,hc3⟩:=hu.cells hM h1;have run:∀ (b off:Nat) (arr:Array Value) (e:TypeId),a.eval y=.pointer (some ⟨b,off,none⟩)->w.heap[b]?=some (.cells arr e (0,0))->off+nn<=arr.size ->
   Di P o a w undef (w.setRow b (arr.toList.take off++(a.eval z).cells.toList++arr.toList.drop (off+nn)).toArray):=by
  intro b off arr e he hh hle;refine .inr ⟨?_,rfl⟩;have hst:=run_storeCells_at P b off e (a.eval z).cells.toList 0 arr w hh (by simp [hc1,hl]; omega) hc2;simp only [zXx,zQv,hc1,hl] at hst;simp [execOp,ho,Instr.storeAt,Instr.sureAddr,he,storeVar,sizeOf,typeInfo,hi,hsz,hc1,hl,hst]
 generalize hyy:a.eval y=uu at hv run
 cases hv with
 | obj s off hs =>
  simp only [MA.run] at h
  cases hc:st.ob s with
  | none=>simp [hc,MA.run] at h
  | some cells =>
   simp only [hc] at h
   split at h
   rotate_left
   ·exact (aJ h).elim
   rename_i hle;simp only [MA.run,Option.some.injEq,Prod.mk.injEq] at h;obtain ⟨rfl,rfl⟩:=h;obtain ⟨arr,e,hh,hal,hav,_⟩:=hM.ob s cells hc;have hle':off+u.cells.length<=cells.length:=by omega
   have hsp:=AN (cs:=u.cells) hle';have hsv:=AN (l:=arr.toList) (cs:=(a.eval z).cells.toList) (off:=off) lv;have hrow:w.setRow (g.ob s) (arr.toList.take off++(a.eval z).cells.toList++arr.toList.drop (off+nn)).toArray=w.setRow (g.ob s) (spl arr.toList off (a.eval z).cells.toList).toArray:=by
    unfold spl; rw [zQv,hc1,hl]
   have hD:=run (g.ob s) off arr e rfl hh ak;rw [hrow] at hD;have hcell:∀ (j:Nat) (y:A),(spl cells off u.cells)[j]?=some y->y.one=true/\∃ v,(spl arr.toList off (a.eval z).cells.toList).toArray[j]?=some v/\VR w g st.O st.R y v:=by
    intro j y hy;simp only [zVJ];rcases hsp.2 j y hy with ⟨hj,hy⟩ | ⟨hy,hj⟩
    ·obtain ⟨ho1,q,hq,hr⟩:=hc3 _ y hy;refine ⟨ho1,q,?_,hr⟩;have hjl:j - off < (a.eval z).cells.toList.length:=by
      have:=(Wk.1 hq).1; simpa using this
     unfold spl;have hto:(arr.toList.take off).length=off:=by simp; omega
     rw [zQX,r0 ak,hto,zQQ hjl]
     simpa using hq
    ·obtain ⟨ho1,q,hq,hr⟩:=hav j y hy;refine ⟨ho1,q,?_,hr⟩;have hjl:j < arr.size:=(Wk.1 hq).1;unfold spl;rcases hj with hj | hj
     ·rw [zQX,zQQ lv,zQK,if_pos hj]
      simpa using hq
     ·have:(arr.toList.take off++(a.eval z).cells.toList).length=off+nn:=by simp; omega
      rw [r0 ak,this,zQJ,zQv,hc1,hl];rw [show off+nn+(j - (off+nn))=j by omega]
      simpa using hq
   obtain ⟨hM',hE⟩:=hM.set_ob (w':=w.setRow (g.ob s) (spl arr.toList off (a.eval z).cells.toList).toArray) ⟨rfl,rfl,rfl,by simp [World.setRow]⟩ s cells (spl cells off u.cells) (spl arr.toList off (a.eval z).cells.toList).toArray e hc
    (setRow_heap w _ arr _ e _ hh) (λb _ hb=>setRow_other w _ b _ hb) (by simp only [zVZ]; rw [hsv.1,hsp.1]; simp; omega) hcell
   exact ⟨_,_,_,hD,hM',.undef _,hE,rfl⟩
 | elem r sz ix off b n' c hr he =>
  obtain ⟨ts,st1,g1,hM1,hE1,ht1,h,htl,hts⟩:=Hw hM (vs:=(a.eval z).cells.toList) (by rw [zQv]; exact hc1) (λj x hj=>by
   obtain ⟨_,q,hq,hr⟩:=hc3 j x hj;exact ⟨q,by simpa using hq,hr⟩) h
  simp only [MA.run] at h
  cases hx:st1.rw r with
  | none=>simp [hx,MA.run] at h
  | some xx =>
   cases xx with
   | gone=>simp [hx,MA.run] at h
   | frz sz' rows=>simp [hx,MA.run] at h
   | live e sz' rows =>
    simp only [hx] at h
    split at h
    rotate_left
    ·exact (aJ h).elim
    rename_i hsz';subst hsz'
    split at h
    rotate_left
    ·exact (aJ h).elim
    rename_i row hrow
    split at h
    rotate_left
    ·exact (aJ h).elim
    rename_i hle;simp only [MA.run,Option.some.injEq,Prod.mk.injEq] at h;obtain ⟨rfl,rfl⟩:=h;obtain ⟨inner,hown,hlen,hel,hfree⟩:=hM1.row r _ hx;have hgr:g1.rw r=.slice (some ⟨b,0,none⟩) n' c:=by rw [(hE1.R r hr).2]; exact he
    have hrl:row.length=sz:=hlen ix row hrow;have hixl:ix < rows.length:=(sr.1 hrow).1;have hseg:(ix+1)*sz<=rows.length*sz:=zQq _ hixl;rw [zXY] at hseg;rcases hown.2 with ⟨hv,_⟩ | ⟨b',cap,cur,hv,_,hh,hnc,hcm,hcs,htake⟩
    ·rw [hgr] at hv; cases hv
    ·rw [hgr] at hv;injection hv with hb1 hn1 hc1'
     injection hb1 with hb1
     injection hb1 with hb1 _ _
     subst hb1 hn1 hc1';have hmul:rows.length*sz<=c*sz:=zQq _ hnc;have htl2:ts.length=nn:=by omega
     have hD:=run b (ix*sz+off) cur e rfl hh ak;have hvl:(a.eval z).cells.toList.length=nn:=by simp; omega
     have hD':Di P o a w undef (w.setRow b (spl cur.toList (ix*sz+off) (a.eval z).cells.toList).toArray):=by
      unfold spl; rw [hvl]; exact hD
     have hsp:=AN (l:=inner) (cs:=(a.eval z).cells.toList) (off:=ix*sz+off) (by rw [hown.1]; omega);have hst:=AN (l:=row) (cs:=ts) (off:=off) ak;have htk:(spl cur.toList (ix*sz+off) (a.eval z).cells.toList).take (rows.length*sz)=spl inner (ix*sz+off) (a.eval z).cells.toList:=by
      rw [<- htake]
      apply List.ext_getElem?
      intro k;unfold spl;simp only [zQX,zQK,zWK,zQx,zQJ,zQv,hvl]
      repeat' split
      all_goals first | rfl | omega | (congr 1; omega) | skip
     have hRow:sS E.w0 (w.setRow b (spl cur.toList (ix*sz+off) (a.eval z).cells.toList).toArray) E.X g1.F (g1.rw r) (.live e sz (rows.set ix (spl row off ts))):=by
      refine ⟨spl inner (ix*sz+off) (a.eval z).cells.toList,⟨by rw [hsp.1,hown.1,zYV],.inr ⟨b,c,_,by rw [hgr,zYV],zYy _,setRow_heap w _ cur _ e _ hh,by rw [zYV]; exact hnc,hcm,?_,by rw [zYV]; exact htk⟩⟩,λi row' hi=>?_,λi row' j x hi hj=>?_,hfree⟩
      ·have:=AN (l:=cur.toList) (cs:=(a.eval z).cells.toList) (off:=ix*sz+off) (by rw [hvl]; simp; omega);simp only [zVZ]; rw [this.1]; simpa using hcs
      ·rw [zXZ] at hi
       split at hi
       ·rename_i h0; cases hi; rw [hst.1]; exact hrl
       ·exact hlen i row' hi
      ·have hS1:Av g1.F w (w.setRow b (spl cur.toList (ix*sz+off) (a.eval z).cells.toList).toArray):=λk hk=>setRow_other w b k _ (λe=>(hfree b (by rw [hgr]; rfl)).1 (e ▸ hk));have hjs:j < sz:=by
        have h3:=(sr.1 hj).1;rw [zXZ] at hi
        split at hi
        ·rename_i h0; cases hi; rw [hst.1] at h3; omega
        ·rw [hlen i row' hi] at h3; exact h3
       have hio:∀ k,k < rows.length->(k=ix\/(k+1)*sz<=ix*sz\/(ix+1)*sz<=k*sz):=λk _=>by
        rcases Nat.lt_trichotomy k ix with h5 | h5 | h5
        ·exact .inr (.inl (zQq _ h5))
        ·exact .inl h5
        ·exact .inr (.inr (zQq _ h5))
       rw [zXZ] at hi
       split at hi
       ·rename_i hie
        cases hi
        subst hie;rcases hst.2 j x hj with ⟨h6,h7⟩ | ⟨h6,h7⟩
        ·obtain ⟨q,hq,_,hr⟩:=hts _ x h7;refine ⟨q,?_,hr.mono hS1 (λ_ h=>h)⟩;have h8:j - off < (a.eval z).cells.toList.length:=(sr.1 hq).1;unfold spl;rw [zQX,r0 lv,zQQ WS];rw [<- hq]
         congr 1
         simp [hown.1]; omega
        ·obtain ⟨q,hq,hr⟩:=hel _ row j x hrow h6;refine ⟨q,?_,hr.mono hS1 (λ_ h=>h)⟩;unfold spl;rcases h7 with h7 | h7
         ·rw [zQX,zQQ WS,zQK,if_pos ak];exact hq
         ·rw [r0 WS,zQJ,<- hq]
          congr 1
          simp [hown.1]; omega
       ·rename_i hie;obtain ⟨q,hq,hr⟩:=hel i row' j x hi hj;refine ⟨q,?_,hr.mono hS1 (λ_ h=>h)⟩;have hil:i < rows.length:=(sr.1 hi).1;have h9:=hio i hil;rw [zXY,zXY] at h9;unfold spl;rcases h9 with h9 | h9 | h9
        ·exact absurd h9.symm hie
        ·rw [zQX,zQQ WS,zQK,if_pos ak];exact hq
        ·rw [r0 WS,zQJ,<- hq]
         congr 1
         simp [hown.1]; omega
     obtain ⟨hM',hE'⟩:=hM1.set_row (w':=w.setRow b (spl cur.toList (ix*sz+off) (a.eval z).cells.toList).toArray) ⟨rfl,rfl,rfl,by simp [World.setRow]⟩ r _ e sz (rows.set ix (spl row off ts)) hx ⟨e,sz,rows,hx⟩
      (λk _ hk=>setRow_other w b k _ (λe=>hk (by rw [hgr]; simp [Value.ownBlock,e]))) hRow
     exact ⟨_,_,_,hD',hM',.undef _,hE1.trans hE',ht1.tm⟩
 | exa s cells b off q hs hD hx hr =>
  cases s with
  | false=>exact (aJ h).elim
  | true =>
   simp only at h
   split at h
   rotate_left
   ·exact (aJ h).elim
   rename_i hwk;obtain ⟨rfl,rfl⟩:=gZ h;unfold qaI at hwk
   split at hwk
   rotate_left
   ·cases hwk
   rename_i cs0 zc cs t0 hut;obtain ⟨arr0,arr,e,hd0,hh,hsz2,hkq⟩:=hM.nowK hs hD;have hx0:=hx 0 zc rfl;have hr0:=hr 0 zc rfl;rw [zXx] at hx0;simp only [World.cell?,hd0,Option.isSome_none,zQk,if_false] at hx0;obtain ⟨v0,hv0,hk0⟩:=hkq off _ hx0;have hr1:=hr0.kq hk0;obtain ⟨_,uz,huz,hrz⟩:=hc3 0 (.t t0) (by rw [hut]; rfl);have hnn:nn=1:=by rw [<- hl,hut]; rfl
   have hoff:off < arr.size:=(Wk.1 hv0).1;have hD':=run b off arr e rfl hh ak;have hvl:(a.eval z).cells.toList=[uz]:=by
    have h1:(a.eval z).cells.toList.length=1:=by simp; omega
    match hq:(a.eval z).cells.toList,h1 with
    | [y],_ =>
     have:(a.eval z).cells.toList[0]?=some uz:=by simpa using huz
     rw [hq] at this
     simpa using this
   have hq0:Kq v0 uz:=by
    cases hrz with
    | t _ _ hrz =>
     cases zc <;> cases t0 <;> simp [qaH] at hwk
     ·subst hwk
      cases hrz
      cases hr1
      exact .int _ _ _
     ·cases hrz
      cases hr1
      exact .bool _ _
   have hKS:∀ k,g.D k->KS w (w.setRow b (arr.toList.take off++(a.eval z).cells.toList++arr.toList.drop (off+nn)).toArray) k:=by
    intro k hk
    by_cases he:k=b
    ·subst he;refine ⟨arr,_,e,hh,setRow_heap w _ arr _ e _ hh,by simp [hvl,hnn]; omega,λi v hv=>?_⟩;have hi:i < arr.size:=(Wk.1 hv).1
     by_cases hio:i=off
     ·subst hio;rw [hv0] at hv
      cases hv
      refine ⟨uz,?_,hq0⟩;simp only [zVJ,zQX,hvl];rw [r0 lv];simp [zWq (Nat.le_of_lt hoff)]
     ·refine ⟨v,?_,.refl v⟩;simp only [zVJ,hvl];rcases Nat.lt_or_gt_of_ne hio with h5 | h5
      ·rw [zQX,zQQ lv,zQK,if_pos h5]
       simpa using hv
      ·rw [r0 lv,zQJ];rw [<- hv];simp only [zQG,zQx,zQv,zWq (Nat.le_of_lt hoff),zQw,zWv,hnn,zXV]
       congr 1
       omega
    ·obtain ⟨_,y,e',_,h2,_⟩:=hM.nowK hs hk;exact (KS.refl ⟨y,e',h2⟩).same (setRow_other w b k _ he)
   obtain ⟨hM',hE'⟩:=hM.stepD hs (w':=w.setRow b (arr.toList.take off++(a.eval z).cells.toList++arr.toList.drop (off+nn)).toArray) ⟨rfl,rfl,rfl,by simp [World.setRow]⟩
    (λk _ hk=>setRow_other w b k _ (λe=>hk (e ▸ hD))) hKS
   exact ⟨_,_,_,hD',hM',.undef _,hE',rfl⟩
 | _=>exact (aJ h).elim
end
section
variable {P:Program} {E:En} {g:Gh} {st st':St} {a:Act} {w:World}
theorem dY{o:Oper}{x:A}{v:Value}(hM:gG E g st w)(hr:(execOp a.eval o).run P w=.ok (.value v) w)(hv:VR w g st.O st.R x v){y:A}(h:MA.run (.ret x) st=some (y,st')) :
  ∃ u g' w',Di P o a w u w'/\zu E g st w y st' u g' w':=⟨v,g,w,.inl hr,MB hM h hv⟩
theorem Kj{s:TypeId}{f off:Nat}{t:TypeId}(h:Hq P s f=some (off,t)) :
  ∃ fs fl n i,P.underlying s=some (.struct fs)/\fs[f]?=some fl/\fl.offset=off/\fl.type=t/\i6 P t=some n/\n≠0/\P.info? t=some i/\i.size=n:=by
 unfold Hq at h
 split at h
 rotate_left
 ·cases h
 rename_i fs hu
 split at h
 rotate_left
 ·cases h
 rename_i fl hf
 split at h
 rotate_left
 ·cases h
 rename_i n hn
 split at h
 ·cases h
 rename_i h0;simp only [Option.some.injEq,Prod.mk.injEq] at h;obtain ⟨rfl,rfl⟩:=h;obtain ⟨i,hi,hs⟩:=mY hn;exact ⟨fs,fl,n,i,hu,hf,rfl,rfl,hn,h0,hi,hs⟩
theorem Kk{w:World}:∀ {fs:List Field} {l:List (Nat×Nat)},Hr P fs=some l->(fs.mapM (m:=Sem) λf=>do pure (f.offset,<- sizeOf f.type)).run P w=.ok l w
 | [],l,h=>by simp [Hr] at h; subst h; simp
 | f :: r,l,h=>by
  unfold Hr at h
  split at h
  ·rename_i n l' hn hl
   cases h
   obtain ⟨i,hi,hs⟩:=mY hn;have h1:(sizeOf f.type).run P w=.ok n w:=by simp [sizeOf,typeInfo,hi,hs]
   have h2:=Kk (w:=w) hl;simp only [List.mapM_cons,Sem.run_bind,h1,Result.andThen_ok,Sem.run_pure,h2]
  ·cases h
theorem Pp(cs:List Value)(off:Nat):∀ (k:Nat) (arr:Array Value),off+k+cs.length<=arr.size ->
  ((cs.zipIdx k).foldl (λcs (x:Value×Nat)=>cs.setIfInBounds (off+x.2) x.1) arr).toList=spl arr.toList (off+k) cs:=by
 induction cs with
 | nil=>intro k arr h; simp [spl]
 | cons c cs ih =>
  intro k arr h;simp only [List.zipIdx_cons,List.foldl_cons];simp only [zQw] at h;rw [ih (k+1) _ lv]
  apply List.ext_getElem?
  intro j;unfold spl;simp only [Array.toList_setIfInBounds,zQX,zWK,zQx,zYV,zQv,zQK,zQJ,zXZ,zQw]
  repeat' split
  all_goals first | rfl | omega | skip
  all_goals first
   | (congr 1; omega)
   | (rw [show j - min (off+k) arr.size=0 by omega]; rfl)
   | (rw [show j - min (off+k) arr.size=(j - min (off+(k+1)) arr.size)+1 by omega]; rfl)
   | skip
def Cs(w:World)(g:Gh)(O R:Nat->Prop)(cs:List A)(arr:Array Value):Prop :=
 arr.size=cs.length/\∀ (j:Nat) (x:A),cs[j]?=some x->x.one=true/\∃ v,arr[j]?=some v/\VR w g O R x v
theorem Cs.spl{cs ds:List A}{arr brr crr:Array Value}{off:Nat}{O R:Nat->Prop}(h:Cs w g O R cs arr)(k:Cs w g O R ds brr)(hle:off+ds.length<=cs.length)(he:crr.toList=spl arr.toList off brr.toList):Cs w g O R (Go.Tm.spl cs off ds) crr:=by
 have h1:=AN (cs:=ds) hle;have hb:brr.toList.length=ds.length:=by rw [zQv]; exact k.1
 have ha:arr.toList.length=cs.length:=by rw [zQv]; exact h.1
 have h2:=AN (l:=arr.toList) (cs:=brr.toList) (off:=off) ak;have hA:arr.size=cs.length:=h.1;have hB:brr.size=ds.length:=k.1;refine ⟨by rw [h1.1,<- zQv,he,h2.1,ha],λj x hj=>?_⟩;rw [<- zXV,he];rcases h1.2 j x hj with ⟨h3,h4⟩ | ⟨h3,h4⟩
 ·obtain ⟨ho,v,hv,hr⟩:=k.2 _ x h4;refine ⟨ho,v,?_,hr⟩;have hjl:j - off < brr.toList.length:=by rw [hb]; exact (sr.1 h4).1
  have ht:(arr.toList.take off).length=off:=by simp; omega
  unfold Go.Tm.spl;rw [zQX,r0 ak,ht,zQQ hjl,zXV];exact hv
 ·obtain ⟨ho,v,hv,hr⟩:=h.2 _ x h3;refine ⟨ho,v,?_,hr⟩;unfold Go.Tm.spl;rcases h4 with h4 | h4
  ·rw [zQX,zQQ lv,zQK,if_pos h4,zXV];exact hv
  ·have:(arr.toList.take off++brr.toList).length=off+ds.length:=by simp; omega
   rw [r0 ak,this,zQJ,hb,show off+ds.length+(j - (off+ds.length))=j by omega,zXV];exact hv
theorem VR.cs{x:A}{v:Value}(hM:gG E g st w)(h:VR w g st.O st.R x v)(h1:x.cells.all A.one=true):Cs w g st.O st.R x.cells v.cells:=⟨(h.cells hM h1).1,(h.cells hM h1).2.2⟩
theorem RN(hM:gG E g st w)(pl:List (Nat×Nat)):∀ {ps:List (Nat×A)} {vs:List (Nat×Value)} {cs cs':List A} {arr:Array Value},Pj pl cs ps=some cs'->vs.length=ps.length ->
  (∀ (i:Nat) (p:Nat×A),ps[i]?=some p->∃ v,vs[i]?=some (p.1,v)/\VR w g st.O st.R p.2 v)->Cs w g st.O st.R cs arr->∃ arr',Instr.fill (λi=>pl[i]?) arr vs=some arr'/\Cs w g st.O st.R cs' arr'
 | [],vs,cs,cs',arr,h,hl,hv,hc=>by
  simp [Pj] at h; subst h;have:vs=[]:=zQW hl;subst this;exact ⟨arr,rfl,hc⟩
 | (f,x) :: ps,vs,cs,cs',arr,h,hl,hv,hc=>by
  unfold Pj at h
  split at h
  rotate_left
  ·cases h
  rename_i off n hp
  split at h
  rotate_left
  ·cases h
  rename_i hh;obtain ⟨h1,h2,h3⟩:=hh;obtain ⟨v0,vs,rfl⟩:∃ v vs',vs=v :: vs':=by
   cases vs with
   | nil=>simp at hl
   | cons v vs=>exact ⟨v,vs,rfl⟩
  obtain ⟨v,hv0,hr⟩:=hv 0 _ rfl;simp at hv0;subst hv0;have hcs:=hr.cs hM h3;have hsz:v.cells.size=n:=by rw [hcs.1]; exact h1
  have hfold:(v.cells.zipIdx.foldl (λcs (c,j)=>cs.setIfInBounds (off+j) c) arr).toList=spl arr.toList off v.cells.toList:=by
   have:=Pp v.cells.toList off 0 arr (by have hA:=hcs.1; have hB:=hc.1; rw [zQv]; omega);rw [zXx] at this;rw [<- this]
   congr 1
   rw [<- Array.foldl_toList];simp
  obtain ⟨arr',h4,h5⟩:=RN hM pl h Tw (λi p hp=>by simpa using hv (i+1) p (by simpa using hp)) (hc.spl hcs ak hfold);refine ⟨arr',?_,h5⟩;have hle:¬ off+v.cells.size > arr.size:=by rw [hsz,hc.1]; omega
  simp only [Instr.fill,hp,hsz,ne_eq,not_true_eq_false,decide_false,zZj];rw [if_neg (by rw [<- hsz]; simpa using hle)];exact h4
theorem Pq{ev:Operand->Option A}{parts:Array (Nat×Operand)}{ps:List (Nat×A)}(h:ef (parts.toList.map λ(i,x)=>(ev x).map λv=>(i,v))=some ps)(hev:∀ x y,ev x=some y->VR w g st.O st.R y (a.eval x)) :
  (parts.map λ(i,x)=>(i,a.eval x)).toList.length=ps.length/\∀ (i:Nat) (p:Nat×A),ps[i]?=some p->∃ v,(parts.map λ(i,x)=>(i,a.eval x)).toList[i]?=some (p.1,v)/\VR w g st.O st.R p.2 v:=by
 obtain ⟨h1,h2⟩:=uV h;refine ⟨by simp [<- h1],λi p hp=>?_⟩;obtain ⟨⟨k,x⟩,hx,hf⟩:=h2 i p hp;simp only [zWj] at hf;obtain ⟨y,hy,rfl⟩:=hf;rw [zXV] at hx;exact ⟨a.eval x,by simp [hx],hev x y hy⟩
theorem Dw{t:TypeId}{z:List A}(h:uT P t=some z):∃ i zv,P.info? t=some i/\i.zero=some zv/\∀ (w:World) (g:Gh) (O R:Nat->Prop),Cs w g O R z zv.cells:=by
 obtain ⟨i,zv,h1,h2,h3,h4⟩:=Pn h;exact ⟨i,zv,h1,h2,λw g O R=>⟨h3,h4 w g O R⟩⟩
theorem Cs.agg{cs:List A}{arr:Array Value}{O R:Nat->Prop}(h:Cs w g O R cs arr):VR w g O R (.agg cs) (.agg arr):=by
 have:=VR.agg (w:=w) (g:=g) (O:=O) (R:=R) cs arr.toList (by rw [zQv]; exact h.1.symm) (λi x v hx hv=>by
  obtain ⟨_,u,hu,hr⟩:=h.2 i x hx;rw [zXV,hu] at hv
  cases hv
  exact hr)
 simpa using this
theorem VM{o:Oper}{t:TypeId}{parts:Array (Nat×Operand)}{z:List A}{pl:List (Nat×Nat)}{ps:List (Nat×A)}{cs:List A}{x:A}{n:Nat}(hS:uU E g n st a w)(ho:o.op=.build t parts)
  (hz:uT P t=some z) (hp:Mw P t=some pl) (hps:ef (parts.toList.map λ(i,x)=>(st.eval x).map λv=>(i,v))=some ps) (hf:Pj pl z ps=some cs) (h:MA.run (.ret (.agg cs)) st=some (x,st')) :
  ∃ u g' w',Di P o a w u w'/\zu E g st w x st' u g' w':=by
 obtain ⟨i,zv,hi,hzv,hC⟩:=Dw hz;obtain ⟨h1,h2⟩:=Pq (a:=a) hps (λx y h=>b9 hS h);obtain ⟨arr',h3,h4⟩:=RN hS.mem pl hf h1 h2 (hC w g _ _);unfold Mw at hp
 split at hp
 rotate_left
 ·cases hp
 rename_i fs hu;refine dY hS.mem ?_ h4.agg h;have hm:(fs.mapM (m:=Sem) λf=>do pure (f.offset,<- sizeOf f.type)).run P w=.ok pl.toArray w:=by
  rw [<- zWG (xs:=fs),List.mapM_toArray];have:=Kk (w:=w) hp;simp only [Sem.run_map,this,Result.andThen_ok]
 have h3':Instr.fill (λi=>pl.toArray[i]?) zv.cells (parts.map λ(i,x)=>(i,a.eval x)).toList=some arr':=by simpa using h3
 simp only [execOp,ho,Instr.build,zeroValue,typeInfo,Sem.run_bind,program,Sem.run,hi,hzv,Sem.run_pure,Result.andThen_ok,run_underlying hu,hm,h3']
end
section
variable {P:Program} {E:En} {g:Gh} {st st':St} {a:Act} {w:World}
theorem VN{r e sz:Nat}{rows:List (List T)}{x:A}(h:(yV r e sz rows).run st=some (x,st')):st.rw r=none/\x=.own r/\st'={ st with rw:=jr st.rw r (some (.live e sz rows)) }:=by
 unfold yV at h;simp only [MA.run] at h
 cases hx:st.rw r with
 | some y=>simp [hx,MA.run] at h
 | none =>
  simp only [hx,MA.run,Option.some.injEq,Prod.mk.injEq] at h;exact ⟨rfl,h.1.symm,h.2.symm⟩
theorem Gb{r e sz:Nat}{rows:List (List T)}{x:A}{w':World}(hM:gG E g st w)(h:(yV r e sz rows).run st=some (x,st'))(hd:Value)(hc:rc w w')(p:Nat->Prop)
  (hb:∀ b,b < w.heap.size->¬ p b->w'.heap[b]?=w.heap[b]?) (hdp:∀ b,hd.ownBlock=some b->p b) (hpX:∀ b,b < E.w0.heap.size->p b->E.X b)
  (hfree:∀ b,p b->¬ g.F b/\(∀ s,st.O s->g.ob s≠b)/\(∀ r',st.L r'->(g.rw r').ownBlock≠some b))
  (hrow:sS E.w0 w' E.X g.F hd (.live e sz rows)):∃ g',zu E g st w x st' hd g' w':=by
 obtain ⟨hr,rfl,rfl⟩:=VN h;obtain ⟨hM',hE⟩:=hM.new_row hc r hr hd e sz rows p hb hdp hpX hfree hrow;refine ⟨_,hM',?_,hE,rfl⟩;have:=VR.own (w:=w') (g:={ g with rw:=jr g.rw r hd }) (O:=({ st with rw:=jr st.rw r (some (.live e sz rows)) }:St).O) (R:=({ st with rw:=jr st.rw r (some (.live e sz rows)) }:St).R) r (Pm.2 (.inl rfl))
 simpa only [ig] using this
theorem I8{r e sz:Nat}{rows:List (List T)}{x:A}{w':World}(hM:gG E g st w)(h:(yV r e sz rows).run st=some (x,st'))(hd:Value)(hc:rc w w')
  (hb:∀ b,b < w.heap.size->hd.ownBlock≠some b->w'.heap[b]?=w.heap[b]?)
  (hfree:∀ b,hd.ownBlock=some b->¬ g.F b/\(∀ s,st.O s->g.ob s≠b)/\(∀ r',st.L r'->(g.rw r').ownBlock≠some b))
  (hrow:sS E.w0 w' E.X g.F hd (.live e sz rows)):∃ g',zu E g st w x st' hd g' w' :=
 Gb hM h hd hc (λb=>hd.ownBlock=some b) hb (λ_ h=>h) (λb h1 hp=>by
  obtain ⟨_,_,_,_,hX⟩:=hrow;rcases (hX b hp).2 with h2 | h2
  ·omega
  ·exact h2) hfree hrow
theorem vY(hM:gG E g st w){b:Nat}(hb:w.heap.size<=b):¬ g.F b/\(∀ s,st.O s->g.ob s≠b)/\(∀ r',st.L r'->(g.rw r').ownBlock≠some b) :=
 ⟨λh=>by have:=(hM.F b h).1; omega,λs hs he=>by have:=hM.ob_lt hs; omega,λr' hr' he=>by have:=hM.row_lt hr' he; omega⟩
structure xS (w:World) (F:Nat->Prop) (sz:Nat) (rows:List (List T)) (arr:List Value):Prop where
 size:arr.length=rows.length*sz
 len:∀ (i:Nat) (row:List T),rows[i]?=some row->row.length=sz
 rd:∀ (i:Nat) (row:List T) (j:Nat) (x:T),rows[i]?=some row->row[j]?=some x->∃ u,arr[i*sz+j]?=some u/\u.oneCell'=true/\Rd w F x u
theorem xS.mono{F F':Nat->Prop}{sz:Nat}{rows:List (List T)}{arr:List Value}(h:xS w F sz rows arr){w':World}(hs:Av F w w')(hF:∀ b,F b->F' b):xS w' F' sz rows arr :=
 ⟨h.size,h.len,λi row j x h1 h2=>let ⟨u,hu,ho,hr⟩:=h.rd i row j x h1 h2; ⟨u,hu,ho,hr.mono hs hF⟩⟩
theorem YC{i j sz:Nat}(h:j < sz):(i*sz+j) % sz=j:=by
 rw [Nat.add_comm,Nat.add_mul_mod_self_right,Nat.mod_eq_of_lt h]
theorem TG{i j sz n:Nat}(hi:i < n)(hj:j < sz):i*sz+j < n*sz:=by
 have:(i+1)*sz<=n*sz:=zQq _ hi;rw [zXY] at this;omega
theorem U0{F:Nat->Prop}{ts:List T}{zs:List Value}(hl:zs.length=ts.length)(h:∀ (j:Nat) (t:T),ts[j]?=some t->∃ u,zs[j]?=some u/\u.oneCell'=true/\Rd w F t u)
  (n:Nat) (arr:List Value) (ha:arr.length=n*ts.length) (hx:∀ k,k < n*ts.length->arr[k]?=zs[k % ts.length]?):xS w F ts.length (zQZ n ts) arr:=by
 refine ⟨by simpa using ha,λi row hi=>?_,λi row j x hi hj=>?_⟩
 ·have:=zQY hi;rw [List.mem_replicate] at this;rw [this.2]
 ·have hr:=zQY hi;rw [List.mem_replicate] at hr;have hil:i < n:=by have:=(sr.1 hi).1; simpa using this
  rw [hr.2] at hj;have hjl:j < ts.length:=(sr.1 hj).1;obtain ⟨u,hu,ho,hrd⟩:=h j x hj;refine ⟨u,?_,ho,hrd⟩;rw [hx _ (TG hil hjl),YC hjl];exact hu
theorem xS.set{F:Nat->Prop}{sz:Nat}{rows:List (List T)}{arr arr':List Value}{ts:List T}{vs:List Value}(h:xS w F sz rows arr)(i0:Nat)(hi0:i0 < rows.length)(hl:ts.length=sz)(hvl:vs.length=sz)
  (hv:∀ (j:Nat) (t:T),ts[j]?=some t->∃ u,vs[j]?=some u/\u.oneCell'=true/\Rd w F t u) (he:arr'=Go.Tm.spl arr (i0*sz) vs):xS w F sz (rows.set i0 ts) arr':=by
 subst he;have hseg:(i0+1)*sz<=rows.length*sz:=zQq _ hi0;rw [zXY] at hseg;have hsp:=AN (l:=arr) (cs:=vs) (off:=i0*sz) (by rw [h.size,hvl]; exact hseg);refine ⟨by rw [hsp.1,h.size,zYV],λi row hi=>?_,λi row j x hi hj=>?_⟩
 ·rw [zXZ] at hi
  split at hi
  ·cases hi; exact hl
  ·exact h.len i row hi
 ·rw [zXZ] at hi
  split at hi
  ·rename_i h0
   cases hi
   subst h0;obtain ⟨u,hu,ho,hr⟩:=hv j x hj;refine ⟨u,?_,ho,hr⟩;have hjl:j < vs.length:=(sr.1 hu).1;have ht:(arr.take (i0*sz)).length=i0*sz:=by rw [zQx,h.size]; omega
   unfold Go.Tm.spl;rw [zQX,r0 ak,ht,zQQ ak,<- hu]
   congr 1
   omega
  ·rename_i h0;obtain ⟨u,hu,ho,hr⟩:=h.rd i row j x hi hj;refine ⟨u,?_,ho,hr⟩;have hj':j < sz:=by rw [<- h.len i row hi]; exact (sr.1 hj).1
   unfold Go.Tm.spl;rcases Nat.lt_or_ge i i0 with h5 | h5
   ·have:=TG h5 hj';rw [zQX,zQQ (by rw [zQx,h.size]; omega),zQK,if_pos ak];exact hu
   ·have h6:(i0+1)*sz<=i*sz:=zQq _ ak;rw [zXY] at h6;have ht:(arr.take (i0*sz)++vs).length=i0*sz+sz:=by rw [zQG,zQx,h.size,hvl]; omega
    rw [r0 ak,ht,zQJ,hvl,show i0*sz+sz+(i*sz+j - (i0*sz+sz))=i*sz+j by omega];exact hu
theorem Pr{α:Type}{lb:List Nat}{sz:Nat}:∀ {ps:List (Nat×A)} {vs:List (Nat×Value)} {rows:List (List T)} {k:List (List T)->MA α} {arr:Array Value} {st:St} {g:Gh} {y:α},gG E g st w->(Mx lb sz rows ps k).run st=some (y,st')->vs.length=ps.length ->
  (∀ (i:Nat) (p:Nat×A),ps[i]?=some p->∃ v,vs[i]?=some (p.1,v)/\VR w g st.O st.R p.2 v)->xS w g.F sz rows arr.toList ->
  ∃ rows' st1 g1 arr',gG E g1 st1 w/\th w w g g1 st.O st.R st1.O st1.R/\Ga g st g1 st1/\(k rows').run st1=some (y,st')/\Instr.fill (λi=>some (i*sz,sz)) arr vs=some arr'/\xS w g1.F sz rows' arr'.toList/\rows'.length=rows.length
 | [],vs,rows,k,arr,st,g,y,hM,h,hl,hv,hc=>by
  have:vs=[]:=zQW hl;subst this;exact ⟨rows,st,g,arr,hM,th.refl _ _ _ _,Ga.refl _ _,h,rfl,hc,rfl⟩
 | (i,x) :: ps,vs,rows,k,arr,st,g,y,hM,h,hl,hv,hc=>by
  unfold Mx at h
  split at h
  rotate_left
  ·exact (aJ h).elim
  rename_i hh;obtain ⟨h1,h2⟩:=hh;obtain ⟨v0,vs,rfl⟩:∃ v vs',vs=v :: vs':=by
   cases vs with
   | nil=>simp at hl
   | cons v vs=>exact ⟨v,vs,rfl⟩
  obtain ⟨v,hv0,hr⟩:=hv 0 _ rfl;simp at hv0;subst hv0
  -- all its cells are of one cell: else toTs fails
  have hone:∀ (l:List A) (st:St) (k:List T->MA α),(fg l k).run st=some (y,st')->l.all A.one=true:=by
   intro l
   induction l with
   | nil=>intro _ _ _; rfl
   | cons q l ih =>
    intro st k h;simp only [fg] at h
    cases q with
    | t x=>exact (by show (A.one _ && l.all A.one)=true; rw [ih _ _ h]; rfl)
    | nil=>exact (by show (A.one _ && l.all A.one)=true; rw [ih _ _ h]; rfl)
    | own r =>
     simp only [A.toT,MA.run] at h
     split at h
     ·show (A.one _ && l.all A.one)=true; rw [ih _ _ h]; rfl
     ·show (A.one _ && l.all A.one)=true; rw [ih _ _ h]; rfl
     ·exact (aJ h).elim
    | _=>exact (aJ h).elim
  have hcs:=hr.cs hM (VK (hone _ _ _ h));obtain ⟨ts,st1,g1,hM1,hE1,ht1,h4,htl,hts⟩:=Hw hM (vs:=v.cells.toList) (by rw [zQv]; exact hcs.1) (λj x hj=>by
   obtain ⟨_,q,hq,hr⟩:=hcs.2 j x hj;exact ⟨q,by simpa using hq,hr⟩) h
  have hvs:v.cells.size=sz:=by rw [hcs.1]; exact h1
  have hseg:(i+1)*sz<=rows.length*sz:=zQq _ h2;rw [zXY] at hseg;have hasz:arr.size=rows.length*sz:=by rw [<- zQv]; exact hc.size
  have hfold:(v.cells.zipIdx.foldl (λcs (c,j)=>cs.setIfInBounds (i*sz+j) c) arr).toList=spl arr.toList (i*sz) v.cells.toList:=by
   have:=Pp v.cells.toList (i*sz) 0 arr ZR;rw [zXx] at this;rw [<- this]
   congr 1
   rw [<- Array.foldl_toList];simp
  obtain ⟨rows',st2,g2,arr',hM2,hE2,ht2,h5,h6,h7,h8⟩:=Pr (vs:=vs) (arr:=v.cells.zipIdx.foldl (λcs (c,j)=>cs.setIfInBounds (i*sz+j) c) arr) hM1 h4 Tw
   (λi p hp=>by
    obtain ⟨u,hu,hr⟩:=hv (i+1) p (by simpa using hp);exact ⟨u,by simpa using hu,hr.mono hE1⟩) ((hc.mono hE1.same hE1.F).set i h2 ak (by rw [zQv]; exact hvs) hts hfold)
  refine ⟨rows',st2,g2,arr',hM2,hE1.trans hE2,ht1.trans ht2,h5,?_,h7,by rw [h8,zYV]⟩;have hle:¬ i*sz+sz > arr.size:=by omega
  simp only [Instr.fill,hvs,ne_eq,not_true_eq_false,decide_false,zZj];rw [if_neg Ty];exact h6
theorem xS.rowAt{w':World}{e sz:Nat}{rows:List (List T)}{inner:List Value}{hd:Value}(h:xS w' g.F sz rows inner)(hown:w'.ownsRow 0 e sz hd rows.length inner)(hf:∀ b,hd.ownBlock=some b->¬ g.F b/\(E.w0.heap.size<=b\/E.X b)) :
  sS E.w0 w' E.X g.F hd (.live e sz rows):=⟨inner,hown,h.len,λi row j x h1 h2=>let ⟨u,hu,_,hr⟩:=h.rd i row j x h1 h2; ⟨u,hu,hr⟩,hf⟩
theorem K2{t e m sz:Nat}{vparts:Array (Nat×Value)}{i:TypeInfo}{zv:Value}{arr':Array Value}(hu:P.underlying t=some (.slice e))(hi:P.info? e=some i)(hzv:i.zero=some zv)(hsz:i.size=sz)(hm:m*sz<=16777216)
  (h:Instr.fill (λi=>some (i*sz,sz)) ((Array.range (m*sz)).map (zv.cells[· % zv.cells.size]!)) vparts.toList=some arr') :
  (Instr.buildSlice t m vparts).run P w=.ok (.slice (some ⟨w.heap.size,0,none⟩) m m) (w.alloc (.cells arr' e)):=by
 have hlim:¬ m*sz > 2 ^ 24:=by omega
 by_cases h0:m*sz=0
 ·have hr0:Array.range 0=#[]:=rfl;rw [h0,hr0,Array.map_empty] at h;simp [Instr.buildSlice,run_underlying hu,zeroValue,typeInfo,sizeOf,hi,hsz,h0,hr0,h,newRow,newObj,Sem.run]
 ·simp [Instr.buildSlice,run_underlying hu,zeroValue,typeInfo,sizeOf,hi,hzv,hsz,h0,hlim,h,newRow,newObj,Sem.run]
theorem MC{o:Oper}{t e d m:Nat}{parts:Array (Nat×Operand)}{sz:Nat}{z:List A}{ps:List (Nat×A)}{x:A}{n:Nat}(hS:uU E g n st a w)(ho:o.op=.buildSlice t m parts)
  (hu:P.underlying t=some (.slice e)) (hsz:i6 P e=some sz) (hz:uT P e=some z) (hps:ef (parts.toList.map λ(i,x)=>(st.eval x).map λv=>(i,v))=some ps)
  (hk:z.length=sz/\0 < sz/\m*sz<=16777216) (h:(fg (ni (Hp P e) z) λts=>Mx (Hp P e) sz (zQZ m ts) ps λrows=>yV (iP d 0) e sz rows).run st=some (x,st')) :
  ∃ u g' w',Di P o a w u w'/\zu E g st w x st' u g' w':=by
 obtain ⟨hk1,hk2,hk3⟩:=hk;obtain ⟨i,zv,hi,hzv,hC⟩:=Dw hz;obtain ⟨i',hi',hsz'⟩:=mY hsz;rw [hi] at hi'
 cases hi'
 have hCz:=hC w g st.O st.R;have hzs:zv.cells.size=sz:=by rw [hCz.1]; exact hk1
 obtain ⟨h1,h2⟩:=Pq (a:=a) hps (λx y h=>b9 hS h);obtain ⟨ts,st1,g1,hM1,hE1,ht1,h4,htl,hts⟩:=Hw hS.mem (vs:=zv.cells.toList) (by rw [zQv]; exact hCz.1) (λj x hj=>by
   obtain ⟨_,q,hq,hr⟩:=hCz.2 j x hj;exact ⟨q,by simpa using hq,hr⟩) h
 have htsz:ts.length=sz:=by omega
 have hm:m<=16777216:=zXw (Nat.le_mul_of_pos_right _ hk2) hk3;have hR0:xS w g1.F sz (zQZ m ts) ((Array.range (m*sz)).map (zv.cells[· % zv.cells.size]!)).toList:=by
  have:=U0 (w:=w) (F:=g1.F) (ts:=ts) (zs:=zv.cells.toList) ZR hts m ((Array.range (m*sz)).map (zv.cells[· % zv.cells.size]!)).toList (by simp [htsz]) (λk hk=>by
   rw [htsz] at hk ⊢;have hkm:k % sz < zv.cells.size:=by rw [hzs]; exact Nat.mod_lt _ hk2
   simp only [zXV,Array.getElem?_map,Array.getElem?_range,hk,if_true,zWY,hzs];rw [zYW hkm,getElem!_pos zv.cells (k % sz) hkm])
  rw [htsz] at this;exact this
 obtain ⟨rows',st2,g2,arr',hM2,hE2,ht2,h5,h6,h7,h8⟩:=Pr hM1 h4 h1 (λi p hp=>by
  obtain ⟨u,hu,hr⟩:=h2 i p hp;exact ⟨u,hu,hr.mono hE1⟩) hR0
 have hrl:rows'.length=m:=by rw [h8,zXz]
 have hasz:arr'.size=m*sz:=by rw [<- zQv,h7.size,hrl]
 have hown:=World.ownsRow_lit (base:=0) (e:=e) (size:=sz) w arr' m (zYy _) (by simp only [maxLen]; omega) hasz;have hSm:Av g2.F w (w.alloc (.cells arr' e)):=λb hb=>heap_alloc_old w _ b (hM2.F b hb).1;obtain ⟨g',hA⟩:=I8 hM2 h5 (.slice (some ⟨w.heap.size,0,none⟩) m m) (F9 w (.cells arr' e)) (λb hb _=>heap_alloc_old w _ b hb) (λb hb=>by
   simp only [Value.ownBlock,Option.some.injEq] at hb;exact vY hM2 ak) ((h7.mono hSm (λ_ h=>h)).rowAt (by rw [hrl]; exact hown) (λb hb=>by
   simp only [Value.ownBlock,Option.some.injEq] at hb;subst hb;exact ⟨(vY hM2 (zWJ _)).1,.inl hM2.sizes⟩))
 refine ⟨_,g',_,.inl ?_,hA.mem,hA.vr,(hE1.trans hE2).trans hA.ext,hA.tm.trans (ht1.trans ht2).tm⟩;have hrun:=K2 (w:=w) hu hi hzv hsz' hk3 h6;simp only [execOp,ho,Sem.run_bind,hrun,Result.andThen_ok,Sem.run_pure]
end
section
variable {P:Program} {E:En} {g:Gh} {st st':St} {a:Act} {w:World}
theorem RO{b b':Nat}{c n:Nat}(h:(Value.slice (some ⟨b,0,none⟩) n c).ownBlock=some b'):b'=b:=by
 simp only [Value.ownBlock,Option.some.injEq] at h; exact h.symm
theorem WZ{o:Oper}{t e d by_ m:Nat}{xl xc:Operand}{l c:Int}{zz:Option Value}{z:List A}{x:A}{n:Nat}(hS:uU E g n st a w)(ho:o.op=.makeSlice t xl xc)(hl:a.eval xl=.int .i64 l)(hc:a.eval xc=.int .i64 c)
  (hu:P.underlying t=some (.slice e)) (hi0:CP P e=some (zz,m,by_)) (hz:uT P e=some z) (hk:z.length=m/\0 < m/\0<=c/\(l=0\/l=c)/\c.toNat*by_<=140737488355328/\c<=9223372036854775807)
  (h:(fg (ni (Hp P e) z) λts=>yV (iP d 0) e m (zQZ l.toNat ts)).run st=some (x,st')) :
  ∃ u g' w',Di P o a w u w'/\zu E g st w x st' u g' w':=by
 obtain ⟨hk1,hk2,hk3,hk4,hk5,hk6⟩:=hk;obtain ⟨i,zv,hi,hzv,hC⟩:=Dw hz;obtain ⟨i',hi',_,hsz,hby⟩:=Po hi0;rw [hi] at hi'
 cases hi'
 have hCz:=hC w g st.O st.R;have hzs:zv.cells.size=m:=by rw [hCz.1]; exact hk1
 obtain ⟨ts,st1,g1,hM1,hE1,ht1,h4,htl,hts⟩:=Hw hS.mem (vs:=zv.cells.toList) (by rw [zQv]; exact hCz.1) (λj x hj=>by
   obtain ⟨_,q,hq,hr⟩:=hCz.2 j x hj;exact ⟨q,by simpa using hq,hr⟩) h
 have htsz:ts.length=m:=by omega
 obtain ⟨c,rfl⟩:=zQH hk3;have hb1:i.bytes*c<=281474976710656:=by rw [hby,Nat.mul_comm]; simp at hk5; omega
 have hb2:c<=maxLen:=by simp only [maxLen]; omega
 have fin:∀ (w':World) (m':Nat) (inner:List Value),(Instr.makeSlice t (.int .i64 l) (.int .i64 (c:Int))).run P w=.ok (.slice (some ⟨w.heap.size,0,none⟩) m' c) w'->l.toNat=m' ->
   w'.ownsRow 0 e m (.slice (some ⟨w.heap.size,0,none⟩) m' c) m' inner->w.grownBy w' none->xS w g1.F m (zQZ l.toNat ts) inner->∃ u g' w',Di P o a w u w'/\zu E g st w x st' u g' w':=by
  intro w' m' inner hr hm' hown hg hR;have hSm:Av g1.F w w':=λb hb=>hg.block b (hM1.F b hb).1 kU;have hrl:(zQZ l.toNat ts).length=m':=by simp [hm']
  obtain ⟨g',hA⟩:=I8 hM1 h4 (.slice (some ⟨w.heap.size,0,none⟩) m' c) ⟨hg.os,hg.tape,hg.output,hg.size⟩ (λb hb _=>hg.block b hb kU) (λb hb=>vY hM1 (by have:=RO hb; omega))
   ((hR.mono hSm (λ_ h=>h)).rowAt (by rw [hrl]; exact hown) (λb hb=>by
    have:=RO hb;subst this;exact ⟨(vY hM1 (zWJ _)).1,.inl hM1.sizes⟩))
  refine ⟨_,g',_,.inl ?_,hA.mem,hA.vr,hE1.trans hA.ext,hA.tm.trans ht1.tm⟩;simp only [execOp,ho,hl,hc,Sem.run_bind,hr,Result.andThen_ok,Sem.run_pure]
 by_cases h0:l=0
 ·subst h0;obtain ⟨w',hr,hown,hg⟩:=run_make_own (P:=P) w 0 t e i zv m hu hi hzv hsz .i64 .i64 c hb1 hb2 (zYy _);refine fin w' 0 [] hr rfl hown hg ⟨by simp,by simp,by simp⟩
 ·have hlc:l=(c:Int):=hk4.resolve_left h0;subst hlc;obtain ⟨w',hr,hown,hg⟩:=run_make_full (P:=P) w 0 t e i zv m hu hi hzv hsz .i64 .i64 c hb1 hb2 (zYy _);refine fin w' c _ hr kU hown hg ?_;have:=U0 (w:=w) (F:=g1.F) (ts:=ts) (zs:=zv.cells.toList) ZR hts c (madeCells zv.cells (c*m)).toList (by simp [madeCells,htsz]) (λk hk=>by
   rw [htsz] at hk ⊢;have hkm:k % m < zv.cells.size:=by rw [hzs]; exact Nat.mod_lt _ hk2
   simp only [madeCells,zXV,Array.getElem?_map,Array.getElem?_range,hk,if_true,zWY,hzs];rw [zYW hkm,getElem!_pos zv.cells (k % m) hkm])
  rw [htsz] at this
  simpa using this
theorem sS.rcs{w0:World}{X F:Nat->Prop}{v:Value}{e sz:Nat}{rows:List (List T)}(h:sS w0 w X F v (.live e sz rows)):∃ inner,w.ownsRow 0 e sz v rows.length inner/\xS w F sz rows inner/\(∀ b,v.ownBlock=some b->¬ F b/\(w0.heap.size<=b\/X b)):=by
 obtain ⟨inner,ho,h1,h2,h3⟩:=h;exact ⟨inner,ho,⟨ho.1,h1,λi row j x hi hj=>let ⟨u,hu,hr⟩:=h2 i row j x hi hj; ⟨u,hu,hr.one.1,hr⟩⟩,h3⟩
theorem xS.app{F:Nat->Prop}{sz:Nat}{xs ys:List (List T)}{xa ya:List Value}(h:xS w F sz xs xa)(k:xS w F sz ys ya):xS w F sz (xs++ys) (xa++ya):=by
 refine ⟨by rw [zQG,zQG,h.size,k.size,zYz],λi row hi=>?_,λi row j x hi hj=>?_⟩
 ·rw [zWK] at hi
  split at hi
  ·exact h.len i row hi
  ·exact k.len _ row hi
 ·rw [zWK] at hi
  split at hi
  ·rename_i hlt;obtain ⟨u,hu,ho,hr⟩:=h.rd i row j x hi hj;exact ⟨u,by rw [zQQ ((sr.1 hu).1)]; exact hu,ho,hr⟩
  ·rename_i hlt;obtain ⟨u,hu,ho,hr⟩:=k.rd _ row j x hi hj;refine ⟨u,?_,ho,hr⟩;have h5:xs.length*sz<=i*sz:=zQq _ ak;rw [r0 (by rw [h.size]; omega),h.size,<- hu]
   congr 1
   rw [Nat.sub_mul];omega
theorem K3{t ty e:TypeId}{i:TypeInfo}(ht:P.underlying t=some (.slice e))(hi:P.info? e=some i){v:Value}{n size:Nat}{xs:List Value}(hown:w.ownsRow 0 e size v n xs)(ad:Option Addr)(c:Nat) :
  (Builtin.append_ #[t,t] ty #[v,.slice ad 0 c]).run P w=.ok v w:=by
 have hf:(Builtin.firstCells i.size 0 (.slice ad 0 c)).run P w=.ok #[] w:=by cases ad <;> simp [Builtin.firstCells,loadCells,loadCellsFrom]
 rcases hown.2 with ⟨rfl,rfl⟩ | ⟨g,cap,cur,rfl,_,_,hnc,_⟩
 ·simp [Builtin.append_,run_underlying ht,sizeOf,typeInfo,hi,Builtin.lenOf,hf]
 ·simp [Builtin.append_,run_underlying ht,sizeOf,typeInfo,hi,Builtin.lenOf,hf,hnc,storeCells]
theorem MD{t ty e:TypeId}{i:TypeInfo}{zv:Value}{n by_:Nat}(ht:P.underlying t=some (.slice e))(hi:P.info? e=some i)(hz:i.zero=some zv)(hs:i.size=n)(hb:i.bytes=by_)(hzs:zv.cells.size=n)(hn:0 < n)(hby:0 < by_)
  {r':Nat} {x:A} {v vy:Value} {rows ys:List (List T)} {inner:List Value} (hM:gG E g st w) (hown:w.ownsRow 0 e n v rows.length inner) (hR:xS w g.F n rows inner)
  (hfree:∀ b,v.ownBlock=some b->(¬ g.F b/\(∀ s,st.O s->g.ob s≠b)/\(∀ r',st.L r'->(g.rw r').ownBlock≠some b))/\(E.w0.heap.size<=b\/E.X b))
  (sz:Nat) (ad:Option Addr) (c:Nat) (hvy:vy=.slice ad ys.length c) (hY:Z1 w g.F sz ys ad) (hsz:ys≠[]->sz=n) (hlim:(rows.length+ys.length)*by_<=140737488355328)
  (h:(yV r' e n (rows++ys)).run st=some (x,st')) :
  ∃ v' w' g',(Builtin.append_ #[t,t] ty #[v,vy]).run P w=.ok v' w'/\zu E g st w x st' v' g' w':=by
 subst hvy
 by_cases hne:ys=[]
 ·subst hne;rw [zWW] at h;obtain ⟨g',hA⟩:=I8 hM h v (rc.refl w) (λ_ _ _=>rfl) (λb hb=>(hfree b hb).1) (hR.rowAt hown (λb hb=>⟨(hfree b hb).1.1,(hfree b hb).2⟩));exact ⟨v,w,g',K3 ht hi hown ad c,hA⟩
 ·have hszn:=hsz hne;subst hszn;obtain ⟨b,off,rfl,news,hnl,hnc,hn1,hnr⟩:=hY.flat hne;have h63:rows.length+ys.length<=maxLen:=by
   have:=zXw (Nat.le_mul_of_pos_right _ hby) hlim;simp only [maxLen]; omega
  obtain ⟨v',w',hr,hown',hg,_,hat⟩:=run_append_own_at (P:=P) w 0 t ty e i zv sz by_ ht hi hz hs hb hzs hn v rows.length inner hown ⟨b,off,none⟩ ys.length c news hnl hnc hn1 h63 hlim (zYy _);have hblk:∀ b',v'.ownBlock=some b'->v.ownBlock=some b'\/b'=w.heap.size:=λb' hb'=>by
   rcases hat with hat | hat
   ·exact .inl (hat ▸ hb')
   ·rw [hat] at hb'; exact .inr (by simpa using hb'.symm)
  have hSm:Av g.F w w':=λk hk=>hg.block k (hM.F k hk).1 (λhe=>(hfree k he.symm).1.1 hk);have hR2:xS w g.F sz ys news:=⟨hnl,hY.len,λi row j x h1 h2=>let ⟨u,hu,hr⟩:=hnr i row j x h1 h2; ⟨u,hu,hr.one.1,hr⟩⟩;have hX:∀ b',v'.ownBlock=some b'->(¬ g.F b'/\(∀ s,st.O s->g.ob s≠b')/\(∀ r',st.L r'->(g.rw r').ownBlock≠some b'))/\(E.w0.heap.size<=b'\/E.X b'):=λb' hb'=>by
   rcases hblk b' hb' with h1 | h1
   ·exact hfree b' h1
   ·exact ⟨vY hM ak,.inl (by have:=hM.sizes; omega)⟩
  have hX':∀ b',(v.ownBlock=some b'\/b'=w.heap.size)->(¬ g.F b'/\(∀ s,st.O s->g.ob s≠b')/\(∀ r',st.L r'->(g.rw r').ownBlock≠some b'))/\(E.w0.heap.size<=b'\/E.X b'):=λb' hb'=>by
   rcases hb' with h1 | h1
   ·exact hfree b' h1
   ·exact ⟨vY hM ak,.inl (by have:=hM.sizes; omega)⟩
  obtain ⟨g',hA⟩:=Gb hM h v' ⟨hg.os,hg.tape,hg.output,hg.size⟩ (λb=>v.ownBlock=some b\/b=w.heap.size) (λk hk hne'=>hg.block k hk (λhe=>hne' (.inl he.symm))) hblk
   (λb h1 hp=>(hX' b hp).2.elim (λh2=>by omega) id) (λb' hb'=>(hX' b' hb').1) ((((hR.app hR2).mono hSm (λ_ h=>h))).rowAt (by rw [zQG]; exact hown') (λb' hb'=>⟨(hX b' hb').1.1,(hX b' hb').2⟩))
  exact ⟨v',w',g',hr,hA⟩
theorem TH{e:TypeId}{z:List A}{zz:Value}{n by_:Nat}(h:CP P e=some (some zz,n,by_))(hz:uT P e=some z):∃ i,P.info? e=some i/\i.zero=some zz/\i.size=n/\i.bytes=by_/\zz.cells.size=z.length:=by
 obtain ⟨i,hi,h1,h2,h3⟩:=Po h;obtain ⟨i',zv,hi',hzv,hC⟩:=Dw hz;rw [hi] at hi'
 cases hi'
 rw [h1] at hzv
 cases hzv
 exact ⟨i,hi,h1,h2,h3,(hC default { F:=λ_=>False,ob:=id,rw:=λ_=>undef } (λ_=>True) (λ_=>True)).1⟩
theorem TI{o:Oper}{xs ys:Operand}{x vx vy:A}{ts:Array TypeId}{n:Nat}(hS:uU E g n st a w)(ho:o.op=.call { callee:=.builtin .append,args:=#[xs,ys],argTypes:=ts })(hvx:VR w g st.O st.R vx (a.eval xs))(hvy:VR w g st.O st.R vy (a.eval ys))
  (h:(xR P o.dst ts.toList vx vy).run st=some (x,st')):∃ u g' w',Di P o a w u w'/\zu E g st w x st' u g' w':=by
 have hM:=hS.mem;unfold xR at h
 split at h
 rotate_left
 ·exact (aJ h).elim
 rename_i t t' d hts hd
 split at h
 rotate_left
 ·exact (aJ h).elim
 rename_i htt;subst htt;have hts':ts=#[t,t]:=by rw [<- zWG (xs:=ts),hts]
 subst hts'
 split at h
 rotate_left
 ·exact (aJ h).elim
 rename_i e hu
 split at h
 rotate_left
 ·exact (aJ h).elim
 rename_i zz m by_ z hi hz
 split at h
 rotate_left
 ·exact (aJ h).elim
 rename_i hk;obtain ⟨hk1,hk2,hk3⟩:=hk;obtain ⟨i,hi1,hi2,hi3,hi4,hi5⟩:=TH hi hz;obtain ⟨rows2,sz,ad,c,h,hyv,hY⟩:=Du hM hvy h
 split at h
 rotate_left
 ·exact (aJ h).elim
 rename_i hsz;have hsz':rows2≠[]->sz=m:=λhne=>hsz.resolve_right hne;have fin:∀ {v':Value} {w':World},(Builtin.append_ #[t,t] o.type #[a.eval xs,a.eval ys]).run P w=.ok v' w'->Di P o a w v' w':=by
  intro v' w' hr;refine .inl ?_;simp only [execOp,ho,resolve,invoke,builtin,Sem.run_bind,Sem.run_pure,Result.andThen_ok,zZq,zWh,List.map_nil,hr]
 split at h
 ·split at h
  rotate_left
  ·exact (aJ h).elim
  rename_i hlim;generalize hvv:a.eval xs=vv at hvx
  cases hvx with
  | nil =>
   have hnil:a.eval xs=.slice none 0 0:=hvv;obtain ⟨v',w',g',hr,hA⟩:=MD (P:=P) (ty:=o.type) hu hi1 hi2 hi3 hi4 ak hk2 hk3 (v:=.slice none 0 0) (rows:=[]) (ys:=rows2) (inner:=[]) hM (World.ownsRow_nil _ _ _ _) ⟨by simp,by simp,by simp⟩ WT sz ad c hyv hY hsz' (by simpa using hlim) h;rw [<- hnil] at hr;exact ⟨v',g',w',fin hr,hA⟩
 ·rename_i r _;simp only [MA.run] at h
  cases hx:st.rw r with
  | none=>simp [hx,MA.run] at h
  | some xx =>
   cases xx with
   | gone=>simp [hx,MA.run] at h
   | frz sz' rows=>simp [hx,MA.run] at h
   | live e' sz' rows =>
    simp only [hx] at h
    split at h
    rotate_left
    ·exact (aJ h).elim
    rename_i hc;obtain ⟨rfl,rfl,hlim⟩:=hc;simp only [MA.run] at h;have hL:st.L r:=⟨_,_,_,hx⟩;obtain ⟨inner,hown,hR,hf⟩:=(hM.row r _ hx).rcs;obtain ⟨hM1,hE1⟩:=hM.gone_row r _ hx;obtain ⟨v',w',g',hr,hA⟩:=MD (P:=P) (ty:=o.type) hu hi1 hi2 hi3 hi4 ak hk2 hk3 (v:=g.rw r) (rows:=rows) (ys:=rows2) (inner:=inner) hM1 hown hR (λb hb=>⟨⟨(hM.row_nf hL hb).1,λs hs he=>hM.rowob r s hL hs (he ▸ hb),λr' hr' he=>by
     rcases AM.1 hr' with ⟨rfl,_,_,_,hx⟩ | ⟨h3,h4⟩
     ·cases hx
     ·exact h3 (hM.rowne r' r b h4 hL he hb)⟩,(hM.row_nf hL hb).2⟩) sz ad c hyv hY hsz' hlim h
    have hxs:a.eval xs=g.rw r:=by
     generalize hvv:a.eval xs=vv at hvx
     cases hvx
     rfl
    rw [<- hxs] at hr;exact ⟨v',g',w',fin hr,hA.mem,hA.vr,hE1.trans hA.ext,hA.tm⟩
 ·exact (aJ h).elim
theorem YD{o:Oper}{xs:Operand}{x vx:A}{t:TypeId}{n:Nat}(hS:uU E g n st a w)(ho:o.op=.call { callee:=.builtin .len,args:=#[xs],argTypes:=#[t] })(hvx:VR w g st.O st.R vx (a.eval xs))
  (h:(Ki P t vx).run st=some (x,st')):∃ u g' w',Di P o a w u w'/\zu E g st w x st' u g' w':=by
 have hM:=hS.mem;unfold Ki at h
 split at h
 ·rename_i s hu
  cases hx:a.eval xs with
  | string s' =>
   rw [hx] at hvx
   cases hvx with
   | t x v h1=>cases h1; exact dY hM (by simp [execOp,ho,resolve,invoke,builtin,Builtin.len_,run_underlying hu,hx,goInt]) (.t _ _ (.int _ _)) h
  | _=>rw [hx] at hvx; cases hvx with | t x v h1=>cases h1
 ·rename_i e s sz rows hu;generalize hvv:a.eval xs=vv at hvx
  cases hvx with
  | ext _ _ _ _ h1 =>
   cases h1 with
   | sl0=>exact dY hM qaB (.t _ _ (.int _ _)) h
   | sl=>exact dY hM qaB (.t _ _ (.int _ _)) h
 ·rename_i hu _;obtain ⟨rows,sz,ad,c,h,hv,hR⟩:=Du hM hvx h;exact dY hM (by simp [execOp,ho,resolve,invoke,builtin,Builtin.len_,run_underlying hu,hv,goInt]) (.t _ _ (.int _ _)) h
 ·exact (aJ h).elim
end
section
variable {P:Program} {E:En} {g:Gh} {st st':St} {a:Act} {w:World}
theorem tL{d:Nat}{lo:Option Operand}{l:Option A}{k:Int}(hl:I5 st.eval lo=some l)(hk:yr d l=some k)(hev:∀ x y,st.eval x=some y->VR w g st.O st.R y (a.eval x)) :
  (lo=none/\k=d)\/∃ x kk,lo=some x/\a.eval x=.int kk k:=by
 cases lo with
 | none=>simp [I5] at hl; subst hl; simp [yr] at hk; exact .inl ⟨rfl,hk.symm⟩
 | some x =>
  simp only [I5,zWj] at hl;obtain ⟨y,hy,rfl⟩:=hl;have hv:=hev x y hy;unfold yr at hk
  split at hk
  ·rename_i h0; cases h0
  ·rename_i kk i h0
   cases h0
   cases hk
   generalize hvv:a.eval x=vv at hv
   cases hv with
   | t x v h1=>cases h1; exact .inr ⟨x,kk,rfl,hvv⟩
  ·cases hk
theorem wT{isS:Bool}{len cap:Nat}{lo hi:Option Operand}{l h:Int}(hl:(lo=none/\l=0)\/∃ x kk,lo=some x/\a.eval x=.int kk l)(hh:(hi=none/\h=len)\/∃ x kk,hi=some x/\a.eval x=.int kk h)(h0:0<=l)(h1:l<=h)(h2:h<=len)(hlc:len<=cap) :
  (Instr.sliceBounds isS len cap (lo.map a.eval) (hi.map a.eval) none).run P w=.ok (l.toNat,h.toNat,cap) w:=by
 have hb:∀ (x:Operand) (kk:IntKind) (i:Int) (y:Nat) (code:BoundsCode),a.eval x=.int kk i->0<=i->i<=y->(Instr.sliceBound (a.eval x) y code).run P w=.ok i.toNat w:=by
  intro x kk i y code hx h0 h1;rw [hx];simp [Instr.sliceBound,asIntOf,h0,h1]
 rcases hl with ⟨rfl,rfl⟩ | ⟨x,kk,rfl,hx⟩ <;> rcases hh with ⟨rfl,rfl⟩ | ⟨y,ky,rfl,hy⟩
 ·simp [Instr.sliceBounds]
 ·simp [Instr.sliceBounds,hb y ky h cap _ hy ak ak]
 ·simp [Instr.sliceBounds,hb x kk l len _ hx h0 ak]
 ·simp [Instr.sliceBounds,hb x kk l h.toNat _ hx h0 ak,hb y ky h cap _ hy ak ak]
theorem Rd.cut{F:Nat->Prop}{sz:Nat}{rows:List (List T)}{ad:Option Addr}{c l h:Nat}(hr:Rd w F (.sl sz rows) (.slice ad rows.length c))(h1:l<=h)(h2:h<=rows.length)(hc:rows.length<=c) :
  Rd w F (.sl sz ((rows.take h).drop l)) (.slice (if c=l then ad else ad.map (·.add (l*sz))) (h - l) (c - l)):=by
 have hlen:((rows.take h).drop l).length=h - l:=by simp; omega
 by_cases he:h - l=0
 ·have:(rows.take h).drop l=[]:=zQW ak;rw [this,he];refine .sl0 _ _ _ λhn=>?_;have had:ad=none:=by
   split at hn
   ·exact hn
   ·cases ad with
    | none=>rfl
    | some a=>cases hn
  cases hr with
  | sl0 _ _ _ ha=>have:=ha had; omega
  | sl=>cases had
 ·cases hr with
  | sl0=>simp at h2; omega
  | sl sz rows b off c u hc' hF hs hx hr =>
   rw [if_neg ak];simp only [zWY,add_lit];have hget:∀ (i:Nat) (row:List T),((rows.take h).drop l)[i]?=some row->rows[l+i]?=some row:=λi row hi=>by
    rw [zQJ,zQK] at hi
    split at hi
    ·exact hi
    ·cases hi
   have:=Rd.sl (w:=w) (F:=F) sz ((rows.take h).drop l) b (off+l*sz) (c - l) (λi j=>u (l+i) j) ak hF (λi row hi=>hs _ row (hget i row hi))
    (λi row j x hi hj=>by
     rw [show off+l*sz+i*sz+j=off+(l+i)*sz+j by rw [zYz]; omega];exact hx _ row j x (hget i row hi) hj) (λi row j x hi hj=>hr _ row j x (hget i row hi) hj)
   rw [hlen] at this;exact this
theorem Sd.cut{s:Bool}{D:Nat->Prop}{sz:Nat}{rows:List (List T)}{v:Value}(hr:Sd s w D (.sl sz rows) v){l h:Nat}(h1:l<=h)(h2:h<=rows.length) :
  ∃ ad c,v=.slice ad rows.length c/\rows.length<=c/\Sd s w D (.sl sz ((rows.take h).drop l)) (.slice (if c=l then ad else ad.map (·.add (l*sz))) (h - l) (c - l)):=by
 have hlen:((rows.take h).drop l).length=h - l:=by simp; omega
 cases hr with
 | sl0 _ a c ha =>
  refine ⟨a,c,rfl,by simp,?_⟩;simp only [zWv] at h2;have e:l=0/\h=0:=by omega
  obtain ⟨rfl,rfl⟩:=e;simp only [List.take_nil,List.drop_nil];refine .sl0 _ _ _ λhn=>?_;have had:a=none:=by
   split at hn
   ·exact hn
   ·cases a with
    | none=>rfl
    | some a=>cases hn
  have:=ha had;omega
 | sl sz rows b off c u hc' hF hs hx hr =>
  refine ⟨_,c,rfl,hc',?_⟩
  by_cases he:h - l=0
  ·have:(rows.take h).drop l=[]:=zQW ak;rw [this,he];refine .sl0 _ _ _ λhn=>?_
   split at hn
   ·cases hn
   ·cases hn
  ·rw [if_neg ak];simp only [zWY,add_lit];have hget:∀ (i:Nat) (row:List T),((rows.take h).drop l)[i]?=some row->rows[l+i]?=some row:=λi row hi=>by
    rw [zQJ,zQK] at hi
    split at hi
    ·exact hi
    ·cases hi
   have:=Sd.sl (s:=s) (w:=w) (D:=D) sz ((rows.take h).drop l) b (off+l*sz) (c - l) (λi j=>u (l+i) j) ak hF (λi row hi=>hs _ row (hget i row hi))
    (λi row j x hi hj=>by
     rw [show off+l*sz+i*sz+j=off+(l+i)*sz+j by rw [zYz]; omega];exact hx _ row j x (hget i row hi) hj) (λi row j x hi hj=>hr _ row j x (hget i row hi) hj)
   rw [hlen] at this;exact this
theorem VO{o:Oper}{t:TypeId}{xs:Operand}{lo hi:Option Operand}{vx:A}{l h':Option A}{x:A}{n:Nat}(hS:uU E g n st a w)(ho:o.op=.slice t xs lo hi none)(hvx:VR w g st.O st.R vx (a.eval xs))
  (hl:I5 st.eval lo=some l) (hh:I5 st.eval hi=some h')
  (h:(AL P t vx l h').run st=some (x,st')):∃ u g' w',Di P o a w u w'/\zu E g st w x st' u g' w':=by
 have hM:=hS.mem;have hev:∀ x y,st.eval x=some y->VR w g st.O st.R y (a.eval x):=λx y h=>b9 hS h;unfold AL at h
 split at h
 ·rename_i s hu
  split at h
  rotate_left
  ·exact (aJ h).elim
  rename_i lk hk hlk hhk
  split at h
  rotate_left
  ·exact (aJ h).elim
  rename_i hc;obtain ⟨hc1,hc2,hc3⟩:=hc;generalize hvv:a.eval xs=vv at hvx
  cases hvx with
  | t x v h1 =>
   cases h1
   have hrun:=wT (P:=P) (w:=w) (isS:=false) (len:=s.size) (cap:=s.size) (tL hl hlk hev) (tL hh hhk hev) hc1 hc2 hc3 (zWJ _);refine dY hM ?_ (.t _ _ (.str _)) h;simp [execOp,ho,Instr.sliceAt,run_underlying hu,Instr.slice,hvv,hrun]
 ·rename_i e sb sz rows hu
  split at h
  rotate_left
  ·exact (aJ h).elim
  rename_i m lk hk hm hlk hhk;obtain ⟨i,hi1,hi2⟩:=mY hm
  split at h
  rotate_left
  ·exact (aJ h).elim
  rename_i hc;obtain ⟨rfl,hc1,hc2,hc3⟩:=hc;generalize hvv:a.eval xs=vv at hvx
  cases hvx with
  | ext _ _ _ hs hd =>
   obtain ⟨ad,c,rfl,hcc,hR⟩:=hd.cut (l:=lk.toNat) (h:=hk.toNat) ak ak;have hrun:=wT (P:=P) (w:=w) (isS:=true) (tL hl hlk hev) (tL hh hhk hev) hc1 hc2 hc3 hcc;refine dY hM ?_ (.ext _ _ _ hs hR) h;simp [execOp,ho,Instr.sliceAt,run_underlying hu,Instr.slice,hvv,hrun,sizeOf,typeInfo,hi1,hi2]
 ·rename_i e hu _
  split at h
  rotate_left
  ·exact (aJ h).elim
  rename_i m hm;obtain ⟨i,hi1,hi2⟩:=mY hm;obtain ⟨tt,st1,g1,hM1,hE1,ht1,h,hr,_⟩:=Qj hM hvx h
  split at h
  rotate_left
  ·exact (aJ h).elim
  rename_i sz rows
  split at h
  rotate_left
  ·exact (aJ h).elim
  rename_i lk hk hlk hhk
  split at h
  rotate_left
  ·exact (aJ h).elim
  rename_i hsz
  split at h
  rotate_left
  ·exact (aJ h).elim
  rename_i hc;obtain ⟨hc1,hc2,hc3⟩:=hc;obtain ⟨ad,c,hv,hR⟩:=hr.rds;have hcap:rows.length<=c\/rows=[]:=by
   rw [hv] at hr;generalize hq:rows.length=q at hr
   cases hr with
   | sl0=>exact .inr rfl
   | sl=>rename_i hc0 _ _ _ _ ; exact .inl ak
  have hrun:∀ (_:rows.length<=c),(Instr.sliceBounds true rows.length c (lo.map a.eval) (hi.map a.eval) none).run P w=.ok (lk.toNat,hk.toNat,c) w:=λhcc =>
   wT (P:=P) (w:=w) (isS:=true) (tL hl hlk hev) (tL hh hhk hev) hc1 hc2 hc3 hcc
  have hfin:∀ (_:rows.length<=c) (hszm:sz=m\/rows=[]),∃ u g' w',Di P o a w u w'/\zu E g st w x st' u g' w':=by
   intro hcc hszm;obtain ⟨rfl,rfl⟩:=gZ h;have hx:(execOp a.eval o).run P w=.ok (.value (.slice (if c=lk.toNat then ad else ad.map (·.add (lk.toNat*m))) (hk.toNat - lk.toNat) (c - lk.toNat))) w:=by
    simp [execOp,ho,Instr.sliceAt,run_underlying hu,Instr.slice,hv,hrun hcc,sizeOf,typeInfo,hi1,hi2]
   refine ⟨_,g1,w,.inl hx,hM1,?_,hE1,ht1.tm⟩;rw [hv] at hr;rcases hszm with rfl | rfl
   ·exact .t _ _ (hr.cut ak ak hcc)
   ·have h0:hk.toNat - lk.toNat=0:=by simp at hc3; omega
    rw [h0];simp only [List.take_nil,List.drop_nil];refine .t _ _ (.sl0 _ _ _ λhn=>?_);have had:ad=none:=by
     split at hn
     ·exact hn
     ·cases ad with
      | none=>rfl
      | some a=>cases hn
    generalize hq:([]:List (List T)).length=q at hr
    cases hr with
    | sl0 _ _ _ ha=>have:=ha had; omega
    | sl=>cases had
  by_cases hcc:rows.length<=c
  ·exact hfin hcc hsz
  ·rcases hcap with h9 | h9
   ·exact absurd h9 hcc
   ·subst h9; simp at hcc
 ·exact (aJ h).elim
theorem YE{o:Oper}{t:TypeId}{xs:Operand}{lo:Option Operand}{vx:A}{l:Option A}{x:A}{n:Nat}(hS:uU E g n st a w)(ho:o.op=.slice t xs lo none none)(hvx:VR w g st.O st.R vx (a.eval xs))
  (hl:I5 st.eval lo=some l) (h:(Pk P t vx l).run st=some (x,st')):∃ u g' w',Di P o a w u w'/\zu E g st w x st' u g' w':=by
 have hM:=hS.mem;have hev:∀ x y,st.eval x=some y->VR w g st.O st.R y (a.eval x):=λx y h=>b9 hS h;unfold Pk at h
 split at h
 rotate_left
 ·exact (aJ h).elim
 rename_i e r lk hu hlk
 split at h
 rotate_left
 ·exact (aJ h).elim
 rename_i m hm;obtain ⟨i,hi1,hi2⟩:=mY hm;simp only [MA.run] at h
 cases hx:st.rw r with
 | none=>simp [hx,MA.run] at h
 | some xx =>
  cases xx with
  | gone=>simp [hx,MA.run] at h
  | frz sz' rows=>simp [hx,MA.run] at h
  | live e' sz' rows =>
   simp only [hx] at h
   split at h
   rotate_left
   ·exact (aJ h).elim
   rename_i hc;obtain ⟨rfl,hc1,hc2⟩:=hc;obtain ⟨hxe,hse⟩:=gZ h;subst hxe;have hse:=hse.symm;subst hse;have hR:st.R r:=by simp [St.R,hx]
   have hv:a.eval xs=g.rw r:=by
    generalize hvv:a.eval xs=vv at hvx
    cases hvx
    rfl
   obtain ⟨inner,hown,_⟩:=hM.row r _ hx;have hfin:∀ (ad:Option Addr) (c:Nat),g.rw r=.slice ad rows.length c->rows.length<=c->(lk.toNat < rows.length->∃ b,ad=some ⟨b,0,none⟩)->∃ u g' w',Di P o a w u w'/\zu E g st w (.sub r sz' lk.toNat) st u g' w':=by
    intro ad c hg hcc had;have hrun:(Instr.sliceBounds true rows.length c (lo.map a.eval) ((none:Option Operand).map a.eval) none).run P w=.ok (lk.toNat,(rows.length:Int).toNat,c) w :=
     wT (P:=P) (w:=w) (isS:=true) (hi:=none) (tL hl hlk hev) (.inl ⟨rfl,rfl⟩) hc1 hc2 ak hcc
    have hx:(execOp a.eval o).run P w=.ok (.value (.slice (if c=lk.toNat then ad else ad.map (·.add (lk.toNat*sz'))) (rows.length - lk.toNat) (c - lk.toNat))) w:=by
     simp only [Option.map_none,rg] at hrun;simp [execOp,ho,Instr.sliceAt,run_underlying hu,Instr.slice,hv,hg,hrun,sizeOf,typeInfo,hi1,hi2]
    refine ⟨_,g,w,.inl hx,hM,.sub r sz' lk.toNat rows.length c _ ad _ hR hg (λhlt=>?_),th.refl _ _ _ _,rfl⟩;obtain ⟨b,rfl⟩:=had hlt;refine ⟨b,rfl,?_⟩;rw [if_neg ak];simp only [zWY,add_lit,zQg]
   rcases hown.2 with ⟨hv0,hn0⟩ | ⟨b,cap,cur,hv0,_,hh,hnc,_⟩
   ·have:rows.length=0:=hn0;exact hfin none 0 (by rw [hv0,this]) ak (λhlt=>by omega)
   ·exact hfin (some ⟨b,0,none⟩) cap hv0 hnc (λ_=>⟨b,rfl⟩)
theorem YF{o:Oper}{t:TypeId}{xs:Operand}{lo hi:Option Operand}{vx:A}{l h':Option A}{x:A}{n:Nat}(hS:uU E g n st a w)(ho:o.op=.slice t xs lo hi none)(hvx:VR w g st.O st.R vx (a.eval xs))
  (hl:I5 st.eval lo=some l) (hh:I5 st.eval hi=some h') (h:(Pl P t vx l h').run st=some (x,st')):∃ u g' w',Di P o a w u w'/\zu E g st w x st' u g' w':=by
 have hM:=hS.mem;have hev:∀ x y,st.eval x=some y->VR w g st.O st.R y (a.eval x):=λx y h=>b9 hS h;unfold Pl at h
 split at h
 rotate_left
 ·exact (aJ h).elim
 rename_i e r lk hu hlk
 split at h
 rotate_left
 ·exact (aJ h).elim
 rename_i hm;obtain ⟨i,hi1,hi2⟩:=mY hm;simp only [MA.run] at h
 cases hx:st.rw r with
 | none=>simp [hx,MA.run] at h
 | some xx =>
  cases xx with
  | gone=>simp [hx,MA.run] at h
  | frz sz' rows=>simp [hx,MA.run] at h
  | live e' sz' rows =>
   simp only [hx] at h
   split at h
   rotate_left
   ·exact (aJ h).elim
   rename_i hk hhk
   split at h
   rotate_left
   ·exact (aJ h).elim
   rename_i hc;obtain ⟨rfl,hc1,hc2,hc3⟩:=hc;obtain ⟨hxe,hse⟩:=gZ h;subst hxe;have hse:=hse.symm;subst hse;have hR:st.R r:=by simp [St.R,hx]
   have hv:a.eval xs=g.rw r:=by
    generalize hvv:a.eval xs=vv at hvx
    cases hvx
    rfl
   obtain ⟨inner,hown,_⟩:=hM.row r _ hx;have hfin:∀ (ad:Option Addr) (c:Nat),g.rw r=.slice ad rows.length c->rows.length<=c->(lk.toNat < rows.length->∃ b,ad=some ⟨b,0,none⟩)->∃ u g' w',Di P o a w u w'/\zu E g st w (.win r lk.toNat (hk - lk).toNat) st u g' w':=by
    intro ad c hg hcc had;have hrun:=wT (P:=P) (w:=w) (isS:=true) (tL hl hlk hev) (tL hh hhk hev) hc1 hc2 hc3 hcc;have hx:(execOp a.eval o).run P w=.ok (.value (.slice (if c=lk.toNat then ad else ad.map (·.add (lk.toNat*1))) (hk.toNat - lk.toNat) (c - lk.toNat))) w:=by
     simp [execOp,ho,Instr.sliceAt,run_underlying hu,Instr.slice,hv,hg,hrun,sizeOf,typeInfo,hi1,hi2]
    rw [show hk.toNat - lk.toNat=(hk - lk).toNat by omega] at hx;refine ⟨_,g,w,.inl hx,hM,.win r lk.toNat (hk - lk).toNat rows.length c _ ad _ hR hg ak (λhlt=>?_),th.refl _ _ _ _,rfl⟩;obtain ⟨b,rfl⟩:=had ak;refine ⟨b,rfl,?_⟩;rw [if_neg ak];simp only [zWY,add_lit,zQg,zVG]
   rcases hown.2 with ⟨hv0,hn0⟩ | ⟨b,cap,cur,hv0,_,hh,hnc,_⟩
   ·have:rows.length=0:=hn0;exact hfin none 0 (by rw [hv0,this]) ak (λhlt=>by omega)
   ·exact hfin (some ⟨b,0,none⟩) cap hv0 hnc (λ_=>⟨b,rfl⟩)
theorem VP{o:Oper}{t:TypeId}{xs:Operand}{hi:Option Operand}{vx:A}{h':Option A}{x:A}{n:Nat}(hS:uU E g n st a w)(ho:o.op=.slice t xs none hi none)(hvx:VR w g st.O st.R vx (a.eval xs))
  (hh:I5 st.eval hi=some h') (h:(Ht P o.dst t vx h').run st=some (x,st')):∃ u g' w',Di P o a w u w'/\zu E g st w x st' u g' w':=by
 have hM:=hS.mem;have hev:∀ x y,st.eval x=some y->VR w g st.O st.R y (a.eval x):=λx y h=>b9 hS h;unfold Ht at h
 split at h
 rotate_left
 ·exact (aJ h).elim
 rename_i e r kk hk d hu hd
 split at h
 rotate_left
 ·exact (aJ h).elim
 rename_i m hm;obtain ⟨i,hi1,hi2⟩:=mY hm;simp only [MA.run] at h
 cases hx:st.rw r with
 | none=>simp [hx,MA.run] at h
 | some xx =>
  cases xx with
  | gone=>simp [hx,MA.run] at h
  | frz sz' rows=>simp [hx,MA.run] at h
  | live e' sz' rows =>
   simp only [hx] at h
   split at h
   rotate_left
   ·exact (aJ h).elim
   rename_i hc;obtain ⟨rfl,hc1,hc2⟩:=hc;simp only [MA.run] at h;have hL:st.L r:=⟨_,_,_,hx⟩;have hv:a.eval xs=g.rw r:=by
    generalize hvv:a.eval xs=vv at hvx
    cases hvx
    rfl
   obtain ⟨inner,hown,hR,hf⟩:=(hM.row r _ hx).rcs;obtain ⟨hM1,hE1⟩:=hM.gone_row r _ hx;have hkl:hk.toNat<=rows.length:=by omega
   have hfree:∀ b,(g.rw r).ownBlock=some b->¬ g.F b/\(∀ s,st.O s->g.ob s≠b)/\(∀ r',({ st with rw:=jr st.rw r (some .gone) }:St).L r'->(g.rw r').ownBlock≠some b):=λb hb =>
    ⟨(hM.row_nf hL hb).1,λs hs he=>hM.rowob r s hL hs (he ▸ hb),λr' hr' he=>by
     rcases AM.1 hr' with ⟨rfl,_,_,_,hx⟩ | ⟨h3,h4⟩
     ·cases hx
     ·exact h3 (hM.rowne r' r b h4 hL he hb)⟩
   have hRC:xS w g.F sz' (rows.take hk.toNat) (inner.take (hk.toNat*sz')):=by
    refine ⟨?_,λi row hi=>hR.len i row (by rw [zQK] at hi; split at hi <;> first | exact hi | cases hi),λi row j x hi hj=>?_⟩
    ·rw [zQx,zQx,hR.size,zWq hkl,zWq (zQq _ hkl)]
    ·rw [zQK] at hi
     split at hi
     rotate_left
     ·cases hi
     rename_i hlt;obtain ⟨u,hu,ho1,hr⟩:=hR.rd i row j x hi hj;refine ⟨u,?_,ho1,hr⟩;have hjl:j < sz':=by rw [<- hR.len i row hi]; exact (sr.1 hj).1
     have h3:(i+1)*sz'<=hk.toNat*sz':=zQq _ hlt;rw [zXY] at h3;rw [zQK,if_pos ak];exact hu
   have hfin:∀ (ad:Option Addr) (c:Nat),g.rw r=.slice ad rows.length c->rows.length<=c->w.ownsRow 0 e' sz' (.slice ad hk.toNat c) (rows.take hk.toNat).length (inner.take (hk.toNat*sz'))->(Value.slice ad hk.toNat c).ownBlock=(g.rw r).ownBlock ->
     ∃ u g' w',Di P o a w u w'/\zu E g st w x st' u g' w':=by
    intro ad c hg hcc hown' hob;have hrun:(Instr.sliceBounds true rows.length c ((none:Option Operand).map a.eval) (hi.map a.eval) none).run P w=.ok ((0:Int).toNat,hk.toNat,c) w :=
     wT (P:=P) (w:=w) (lo:=none) (isS:=true) (.inl ⟨rfl,rfl⟩) (tL hh rfl hev) ak ak ak hcc
    have hx2:(execOp a.eval o).run P w=.ok (.value (.slice ad hk.toNat c)) w:=by
     have h0:(0:Int).toNat=0:=rfl;rw [h0] at hrun;simp only [Option.map_none] at hrun;simp [execOp,ho,Instr.sliceAt,run_underlying hu,Instr.slice,hv,hg,hrun,sizeOf,typeInfo,hi1,hi2]
     try (intro hc0; cases ad <;> simp [Addr.add_zero'])
    obtain ⟨g',hA⟩:=Gb hM1 h (.slice ad hk.toNat c) (rc.refl w) (λb=>(g.rw r).ownBlock=some b) (λ_ _ _=>rfl) (λb hb=>by rw [<- hob]; exact hb) (λb h1 hp=>(hM.row_nf hL hp).2.elim (λh2=>by omega) id) hfree
     (hRC.rowAt (E:=E) (g:=g) hown' (λb hb=>hM.row_nf hL (by rw [<- hob]; exact hb)))
    exact ⟨_,g',w,.inl hx2,hA.mem,hA.vr,hE1.trans hA.ext,hA.tm⟩
   rcases hown.2 with ⟨hv0,hn0⟩ | ⟨b,cap,cur,hv0,hb0,hh0,hnc,hcm,hcs,htk⟩
   ·have h0:rows.length=0:=hn0;have h1:hk.toNat=0:=by omega
    refine hfin none 0 (by rw [hv0,h0]) ak ⟨?_,.inl ⟨by rw [h1],by simp [h1]⟩⟩ (by rw [hv0]; rfl);simp [h1]
   ·refine hfin (some ⟨b,0,none⟩) cap hv0 hnc ⟨hRC.size,.inr ⟨b,cap,cur,by rw [zQx,zWq hkl],hb0,hh0,?_,hcm,hcs,?_⟩⟩ (by rw [hv0]; rfl)
    ·rw [zQx,zWq hkl]; omega
    ·rw [zQx,zWq hkl,<- htk,zZw,zWq (zQq _ hkl)]
theorem OC{o:Oper}{s f off:Nat}{t:TypeId}{y:Operand}{v x:A}{n:Nat}(hS:uU E g n st a w)(ho:o.op=.fieldAddr s y f)(hv:VR w g st.O st.R v (a.eval y))(hf:Hq P s f=some (off,t))
  (h:(My v off).run st=some (x,st')):∃ u g' w',Di P o a w u w'/\zu E g st w x st' u g' w':=by
 have hM:=hS.mem;obtain ⟨fs,fl,m,i,hu,hfl,h1,h2,h3,h4,h5,h6⟩:=Kj hf;have run:∀ (b k:Nat),a.eval y=.pointer (some ⟨b,k,none⟩)->(execOp a.eval o).run P w=.ok (.value (.pointer (some ⟨b,k+off,none⟩))) w:=by
  intro b k he;simp [execOp,ho,Instr.fieldAt,run_underlying hu,hfl,Instr.sureAddr,he,fieldPlace,sizeOf,typeInfo,h2,h5,h6,h4,h1,add_lit]
 generalize hvv:a.eval y=vv at hv run;unfold My at h
 cases hv with
 | obj s' k hs=>exact dY hM (run _ _ rfl) (.obj s' (k+off) hs) h
 | elem r sz ix k b nn c hr he => 
  refine dY hM (run _ _ rfl) ?_ h;rw [zZX];exact .elem r sz ix (k+off) b nn c hr he
 | fadr cells b k u hF hx hr =>
  refine dY hM (run _ _ rfl) (.fadr _ b (k+off) (λj=>u (off+j)) hF (λj z hz=>?_) (λj z hz=>?_)) h
  ·rw [zQJ] at hz;rw [zZX];exact hx _ z hz
  ·rw [zQJ] at hz;exact hr _ z hz
 | exa s cells b k u hs hD hx hr =>
  refine dY hM (run _ _ rfl) (.exa s _ b (k+off) (λj=>u (off+j)) hs hD (λj z hz=>?_) (λj z hz=>?_)) h
  ·rw [zQJ] at hz;rw [zZX];exact hx _ z hz
  ·rw [zQJ] at hz;exact hr _ z hz
 | _=>exact (aJ h).elim
theorem OD{o:Oper}{t:TypeId}{y z:Operand}{v vi x:A}{n:Nat}(hS:uU E g n st a w)(ho:o.op=.indexAddr t y z)(hv:VR w g st.O st.R v (a.eval y))(hvi:VR w g st.O st.R vi (a.eval z))
  (h:(mI P t v vi).run st=some (x,st')):∃ u g' w',Di P o a w u w'/\zu E g st w x st' u g' w':=by
 have hM:=hS.mem;unfold mI at h
 split at h
 rotate_left
 ·exact (aJ h).elim
 rename_i e kk ix hu
 split at h
 rotate_left
 ·exact (aJ h).elim
 rename_i m hm;obtain ⟨i,hi1,hi2⟩:=mY hm;have hz:a.eval z=.int kk ix:=by
  generalize hvv:a.eval z=vv at hvi
  cases hvi with
  | t x v h1=>cases h1; rfl
 have run:∀ (b off len c:Nat),a.eval y=.slice (some ⟨b,off,none⟩) len c->0<=ix->ix.toNat < len->(execOp a.eval o).run P w=.ok (.value (.pointer (some ⟨b,off+ix.toNat*m,none⟩))) w:=by
  intro b off len c he h0 h1;have h2:ix < (len:Int):=by omega
  simp [execOp,ho,Instr.indexAt,hz,asIntOf,run_underlying hu,he,h0,h2,sizeOf,typeInfo,hi1,hi2,add_lit]
 have frz:∀ (sz:Nat) (rows:List (List T)) (vv:Value),a.eval y=vv->Rd w g.F (.sl sz rows) vv->(Cg m ix sz rows).run st=some (x,st')->∃ u g' w',Di P o a w u w'/\zu E g st w x st' u g' w':=by
  intro sz rows vv hvv hr hq;unfold Cg at hq
  split at hq
  rotate_left
  ·exact (aJ hq).elim
  rename_i hc;obtain ⟨hsz,h0⟩:=hc;subst hsz
  split at hq
  rotate_left
  ·exact (aJ hq).elim
  rename_i row hrow;have hlt:ix.toNat < rows.length:=(sr.1 hrow).1
  cases hr with
  | sl0=>simp at hlt
  | sl sz rows b off c u hc hF hs hx hr =>
   exact dY hM (run b off rows.length c hvv h0 hlt) (.fadr row b (off+ix.toNat*sz) (λj=>u ix.toNat j) hF (λj z hz=>hx _ row j z hrow hz) (λj z hz=>hr _ row j z hrow hz)) hq
 generalize hvv:a.eval y=vv at hv run frz
 split at h
 ·rename_i sz rows
  cases hv with
  | t x v h1=>exact frz sz rows _ rfl h1 h
 ·rename_i s sz rows
  cases hv with
  | ext _ _ _ hs h1 =>
  unfold Hs at h
  split at h
  rotate_left
  ·exact (aJ h).elim
  rename_i hc;obtain ⟨hsz,h0⟩:=hc;subst hsz
  split at h
  rotate_left
  ·exact (aJ h).elim
  rename_i row hrow;have hlt:ix.toNat < rows.length:=(sr.1 hrow).1
  cases h1 with
  | sl0=>simp at hlt
  | sl sz rows b off c u hc hF hs' hx hr =>
   exact dY hM (run b off rows.length c rfl h0 hlt) (.exa s row b (off+ix.toNat*sz) (λj=>u ix.toNat j) hs hF (λj z hz=>hx _ row j z hrow hz) (λj z hz=>hr _ row j z hrow hz)) h
 ·rename_i s ad len cp
  split at h
  rotate_left
  ·exact (aJ h).elim
  rename_i hc;obtain ⟨hm1,h0,hlt⟩:=hc;subst hm1
  cases hv with
  | osl _ _ _ _ hs ha =>
   subst ha;have hr9:=run (g.ob s) 0 len cp rfl h0 hlt;rw [zQg,zVG] at hr9;exact dY hM hr9 (.obj s ix.toNat hs) h
 ·rename_i r;simp only [MA.run] at h
  cases hx:st.rw r with
  | none=>simp [hx,MA.run] at h
  | some xx =>
   have hRr:st.R r:=by simp [St.R,hx]
   have hgv:g.rw r=vv:=by cases hv; rfl
   cases xx with
   | live e' sz rows =>
    simp only [hx] at h
    split at h
    rotate_left
    ·exact (aJ h).elim
    rename_i hc;obtain ⟨hsz,h0,hlt⟩:=hc;subst hsz;obtain ⟨inner,hown,_⟩:=hM.row r _ hx;rw [hgv] at hown;rcases hown.2 with ⟨h9,h8⟩ | ⟨b',cap,cur,h9,_⟩
    ·omega
    ·have hr9:=run b' 0 rows.length cap h9 h0 hlt;rw [zQg] at hr9;exact dY hM hr9 (.elem r sz ix.toNat 0 b' rows.length cap hRr (hgv.trans h9)) h
   | frz sz rows =>
    simp only [hx] at h;exact frz sz rows vv rfl (hgv ▸ hM.row r _ hx) h
   | gone=>simp [hx,MA.run] at h
 ·exact (aJ h).elim
end
section
variable {P:Program} {E:En} {g:Gh} {st st':St} {a:Act} {w:World}
theorem VR.int{k:IntKind}{n:Int}{v:Value}{O R:Nat->Prop}(h:VR w g O R (.t (.int k n)) v):v=.int k n:=by cases h with | t x v h=>cases h; rfl
theorem VR.bool{b:Bool}{v:Value}{O R:Nat->Prop}(h:VR w g O R (.t (.bool b)) v):v=.bool b:=by cases h with | t x v h=>cases h; rfl
theorem VR.str{s:ByteArray}{v:Value}{O R:Nat->Prop}(h:VR w g O R (.t (.str s)) v):v=.string s:=by cases h with | t x v h=>cases h; rfl
theorem VR.tnum{x:T}{v:Value}{O R:Nat->Prop}(h:VR w g O R (.t x) v):Rd w g.F x v:=by cases h with | t x v h=>exact h
theorem YG{op:BinOp}{t:TypeId}{x y z:T}{vx vy:Value}{ox oy:Operand}(h:Dh (isB P t) op x y=some z)(hx:Rd w g.F x vx)(hy:Rd w g.F y vy) :
  ∃ v,((do eqGuard op t ox oy vx vy; binOp op t vx vy):Sem Value).run P w=.ok v w/\Rd w g.F z v:=by
 cases hx with
 | int k n =>
  cases hy with
  | int k' m =>
   have hg:(eqGuard op t ox oy (.int k n) (.int k' m)).run P w=.ok () w:=by cases op <;> simp [eqGuard]
   simp only [Sem.run_bind,hg,Result.andThen_ok]
   cases op with
   | shl =>
    simp only [Dh] at h
    split at h
    ·rename_i h0; cases h;exact ⟨_,by simp [binOp,Op.shift,show ¬ m < 0 by omega],.int _ _⟩
    ·cases h
   | shr =>
    simp only [Dh] at h
    split at h
    ·rename_i h0; cases h;exact ⟨_,by simp [binOp,Op.shift,show ¬ m < 0 by omega],.int _ _⟩
    ·cases h
   | quo =>
    simp only [Dh] at h
    split at h
    rotate_left
    ·cases h
    rename_i hk; subst hk
    split at h
    ·cases h
    rename_i h0; cases h;exact ⟨_,by simp [binOp,Op.intDiv,h0],.int _ _⟩
   | rem =>
    simp only [Dh] at h
    split at h
    rotate_left
    ·cases h
    rename_i hk; subst hk
    split at h
    ·cases h
    rename_i h0; cases h;exact ⟨_,by simp [binOp,Op.intDiv,h0],.int _ _⟩
   | add=>simp only [Dh] at h; split at h; (rename_i hk; subst hk; cases h; exact ⟨_,by simp [binOp,Op.intArith],.int _ _⟩); cases h
   | sub=>simp only [Dh] at h; split at h; (rename_i hk; subst hk; cases h; exact ⟨_,by simp [binOp,Op.intArith],.int _ _⟩); cases h
   | mul=>simp only [Dh] at h; split at h; (rename_i hk; subst hk; cases h; exact ⟨_,by simp [binOp,Op.intArith],.int _ _⟩); cases h
   | and=>simp only [Dh] at h; split at h; (rename_i hk; subst hk; cases h; exact ⟨_,by simp [binOp,Op.intBits],.int _ _⟩); cases h
   | or=>simp only [Dh] at h; split at h; (rename_i hk; subst hk; cases h; exact ⟨_,by simp [binOp,Op.intBits],.int _ _⟩); cases h
   | xor=>simp only [Dh] at h; split at h; (rename_i hk; subst hk; cases h; exact ⟨_,by simp [binOp,Op.intBits],.int _ _⟩); cases h
   | andNot=>simp only [Dh] at h; split at h; (rename_i hk; subst hk; cases h; exact ⟨_,by simp [binOp,Op.intBits],.int _ _⟩); cases h
   | eql=>simp only [Dh] at h; split at h; (rename_i hk; subst hk; cases h; exact ⟨_,by simp [binOp,Op.intCmp],.bool _⟩); cases h
   | neq=>simp only [Dh] at h; split at h; (rename_i hk; subst hk; cases h; exact ⟨_,by simp [binOp,Op.intCmp],.bool _⟩); cases h
   | lss=>simp only [Dh] at h; split at h; (rename_i hk; subst hk; cases h; exact ⟨_,by simp [binOp,Op.intCmp],.bool _⟩); cases h
   | leq=>simp only [Dh] at h; split at h; (rename_i hk; subst hk; cases h; exact ⟨_,by simp [binOp,Op.intCmp],.bool _⟩); cases h
   | gtr=>simp only [Dh] at h; split at h; (rename_i hk; subst hk; cases h; exact ⟨_,by simp [binOp,Op.intCmp],.bool _⟩); cases h
   | geq=>simp only [Dh] at h; split at h; (rename_i hk; subst hk; cases h; exact ⟨_,by simp [binOp,Op.intCmp],.bool _⟩); cases h
  | _=>simp [Dh] at h
 | str s =>
  cases hy with
  | str s' =>
   have hg:(eqGuard op t ox oy (.string s) (.string s')).run P w=.ok () w:=by cases op <;> simp [eqGuard]
   simp only [Sem.run_bind,hg,Result.andThen_ok]
   cases op with
   | add =>
    simp only [Dh] at h
    split at h
    ·rename_i h0; cases h;refine ⟨_,?_,.str _⟩;have:¬ ((s.size+s'.size:Nat):Int) > IntKind.i64.max:=by
      have:IntKind.i64.max=9223372036854775807:=by decide
      omega
     simp only [binOp,Op.stringOp,this,if_false];rfl
    ·cases h
   | eql=>simp only [Dh,Option.some.injEq] at h; subst h; exact ⟨_,by simp [binOp,Op.stringOp],.bool _⟩
   | neq=>simp only [Dh,Option.some.injEq] at h; subst h; exact ⟨_,by simp [binOp,Op.stringOp],.bool _⟩
   | _=>simp [Dh] at h
  | _=>simp [Dh] at h
 | bool b =>
  cases hy with
  | bool b' =>
   have hg:(eqGuard op t ox oy (.bool b) (.bool b')).run P w=.ok () w:=by cases op <;> simp [eqGuard]
   simp only [Sem.run_bind,hg,Result.andThen_ok];simp only [Dh] at h
   split at h
   rotate_left
   ·cases h
   rename_i htb;have hu:P.underlying t=some .bool:=by
    unfold isB at htb
    split at htb
    ·rename_i h; exact h
    ·cases htb
   cases op with
   | eql=>simp only [Option.some.injEq] at h; subst h; exact ⟨_,run_eql_bool w t b b' hu,.bool _⟩
   | neq=>simp only [Option.some.injEq] at h; subst h; exact ⟨_,run_neq_bool w t b b' hu,.bool _⟩
   | _=>simp at h
  | _=>simp [Dh] at h
 | _=>simp [Dh] at h
theorem W0{xs:List A}{ns:List Int}{vs:List Value}(h:TD xs=some ns)(hl:xs.length=vs.length)(hv:∀ (i:Nat) (x:A) (v:Value),xs[i]?=some x->vs[i]?=some v->VR w g st.O st.R x v):vs=ns.map (.int .i64):=by
 induction xs generalizing ns vs with
 | nil=>simp [TD] at h; subst h; exact zQW hl.symm
 | cons x xs ih =>
  obtain ⟨v,vs,rfl⟩:∃ v vs',vs=v :: vs':=by
   cases vs with
   | nil=>simp at hl
   | cons v vs=>exact ⟨v,vs,rfl⟩
  unfold TD at h
  split at h
  ·rename_i heq; cases heq
  ·rename_i n r heq;injection heq with h1 h2
   subst h1 h2
   split at h
   ·rename_i l hl'
    cases h
    have:=(hv 0 _ v rfl rfl).int;subst this;rw [ih (vs:=vs) hl' Tw (λi x v h1 h2=>hv (i+1) x v (by simpa using h1) (by simpa using h2))];rfl
   ·cases h
  ·cases h
theorem RP(d:Nat)(xs ys:List Int):∀ (fs:List Field) (k:Nat),Yy P k fs=true->xs.length=k+fs.length->ys.length=k+fs.length ->
  (Op.eqFields (d+1) (xs.map (Value.int .i64)).toArray (ys.map (Value.int .i64)).toArray fs).run P w=.ok (xs.drop k == ys.drop k) w
 | [],k,_,hx,hy=>by
  rw [zYQ (by simp at hx; omega),zYQ (by simp at hy; omega)];simp [Op.eqFields]
 | f :: fs,k,h,hx,hy=>by
  simp only [Yy,sk,bne_iff_ne,beq_iff_eq] at h;obtain ⟨⟨⟨h1,h2⟩,h3⟩,h4⟩:=h;have hu:P.underlying f.type=some (.int .i64):=by
   split at h3
   ·assumption
   ·cases h3
  simp only [zQw] at hx hy;have hkx:k < xs.length:=by omega
  have hky:k < ys.length:=by omega
  have px:(Go.part f.type (xs.map (Value.int .i64)).toArray f.offset).run P w=.ok (.int .i64 xs[k]) w:=by simp [Go.part,isAgg,run_underlying hu,h2,hkx]
  have py:(Go.part f.type (ys.map (Value.int .i64)).toArray f.offset).run P w=.ok (.int .i64 ys[k]) w:=by simp [Go.part,isAgg,run_underlying hu,h2,hky]
  have he:=run_equalIn_int (P:=P) w d f.type .i64 .i64 xs[k] ys[k] hu;have ih:=RP d xs ys fs (k+1) h4 ak ak;have ex:(xs.drop k == ys.drop k)=((xs[k] == ys[k]) && (xs.drop (k+1) == ys.drop (k+1))):=by
   rw [zXq hkx,zXq hky]; rfl
  rw [ex];simp only [Op.eqFields,if_pos h1,Sem.run_bind,px,py,he,Result.andThen_ok];generalize (xs[k] == ys[k])=q
  cases q
  ·simp
  ·simpa using ih
theorem RQ{t:TypeId}{n:Nat}{xs ys:List Int}(h:ZY P t=some n)(hx:xs.length=n)(hy:ys.length=n)(op:BinOp)(ox oy:Operand) :
  (eqGuard op t ox oy (.agg (xs.map (Value.int .i64)).toArray) (.agg (ys.map (Value.int .i64)).toArray)).run P w=.ok () w /\
  (Op.equalIn 10000 t (.agg (xs.map (Value.int .i64)).toArray) (.agg (ys.map (Value.int .i64)).toArray)).run P w=.ok (xs == ys) w:=by
 unfold ZY at h
 split at h
 rotate_left
 ·cases h
 rename_i fs hu
 split at h
 rotate_left
 ·cases h
 rename_i hc;simp only [Option.some.injEq] at h;simp only [sk,Bool.not_eq_true'] at hc;obtain ⟨⟨h1,h2⟩,h3⟩:=hc;have hf:P.fieldsOf t=fs:=by simp [Program.fieldsOf,hu]
 refine ⟨run_eqGuard_agg w op t ox oy _ _ h2,?_⟩;have:=run_equalIn_struct (P:=P) w 9999 t (xs.map (Value.int .i64)).toArray (ys.map (Value.int .i64)).toArray (by rw [hf]; exact hu) h1;rw [this,hf];have h5:=RP (P:=P) (w:=w) 9998 xs ys fs.toList 0 h3 lv lv
 simpa using h5
theorem Hy{xs:List A}{ns:List Int}{v:Value}(h:TD xs=some ns)(hv:VR w g st.O st.R (.agg xs) v):v=.agg (ns.map (Value.int .i64)).toArray:=by
 cases hv with
 | agg l vs hl hx=>rw [W0 h hl hx]
theorem ME:∀ {rows:List (List T)} {l:List Int},Ds rows=some l->l.length=rows.length/\∀ (i:Nat) (row:List T),rows[i]?=some row->row=[.int .u8 (l.getD i 0)]
 | [],l,h=>by simp [Ds] at h; subst h; simp
 | r :: rows,l,h=>by
  unfold Ds at h
  split at h
  ·rename_i heq; cases heq
  ·rename_i n rs heq;injection heq with h1 h2
   subst h1 h2
   split at h
   ·rename_i l' hl'
    cases h
    obtain ⟨h3,h4⟩:=ME hl';refine ⟨by simp [h3],λi row hr=>?_⟩
    cases i with
    | zero=>simp at hr; simpa using hr.symm
    | succ i=>simpa using h4 i row (by simpa using hr)
   ·cases h
  ·cases h
theorem xS.take1{F:Nat->Prop}{rows:List (List T)}{cs:List Value}(h:xS w F 1 rows cs)(k:Nat):xS w F 1 (rows.take k) (cs.take k):=by
 have hs:=h.size;refine ⟨by simp; omega,λi row hi=>h.len i row (by rw [zQK] at hi; split at hi <;> simp_all),λi row j x hi hj=>?_⟩;rw [zQK] at hi
 split at hi
 ·rename_i hlt;have hlen:=h.len i row hi;have hj0:j < row.length:=(sr.1 hj).1;obtain ⟨u,hu,ho,hr⟩:=h.rd i row j x hi hj;exact ⟨u,by rw [zQK,if_pos ak]; exact hu,ho,hr⟩
 ·cases hi
theorem xS.drop1{F:Nat->Prop}{rows:List (List T)}{cs:List Value}(h:xS w F 1 rows cs)(k:Nat):xS w F 1 (rows.drop k) (cs.drop k):=by
 have hs:=h.size;refine ⟨by simp; omega,λi row hi=>h.len (k+i) row (by rw [zQJ] at hi; exact hi),λi row j x hi hj=>?_⟩;rw [zQJ] at hi;obtain ⟨u,hu,ho,hr⟩:=h.rd (k+i) row j x hi hj;exact ⟨u,by rw [zQJ,show k+(i*1+j)=(k+i)*1+j by omega]; exact hu,ho,hr⟩
theorem MF{r lo:Nat}{e:TypeId}{rows ys:List (List T)}{cs:List Value}(hM:gG E g st w)(hx:st.rw r=some (.live e 1 rows))(hl:cs.length=ys.length)(hfit:lo+ys.length<=rows.length)(hpos:0 < ys.length)(hY:xS w g.F 1 ys cs) :
  ∃ b c cur,g.rw r=.slice (some ⟨b,0,none⟩) rows.length c/\w.heap[b]?=some (.cells cur e (0,0))/\lo+cs.length<=cur.size /\
   (gG E g { st with rw:=jr st.rw r (some (.live e 1 (rows.take lo++ys++rows.drop (lo+ys.length)))) } (w.setRow b (cur.toList.take lo++cs++cur.toList.drop (lo+cs.length)).toArray) /\
   th w (w.setRow b (cur.toList.take lo++cs++cur.toList.drop (lo+cs.length)).toArray) g g st.O st.R ({ st with rw:=jr st.rw r (some (.live e 1 (rows.take lo++ys++rows.drop (lo+ys.length)))) }:St).O ({ st with rw:=jr st.rw r (some (.live e 1 (rows.take lo++ys++rows.drop (lo+ys.length)))) }:St).R):=by
 have hL:st.L r:=⟨_,_,_,hx⟩;obtain ⟨inner,hown,hR,hfree⟩:=(hM.row r _ hx).rcs;rcases hown.2 with ⟨hv,hn0⟩ | ⟨b,cap,cur,hv,_,hh,hnc,hcm,hcs,htake⟩
 ·omega
 ·have hil:inner.length=rows.length:=by have:=hown.1; omega
  have hcur:rows.length<=cur.size:=by omega
  refine ⟨b,cap,cur,hv,hh,by omega,?_⟩;have hn':(rows.take lo++ys++rows.drop (lo+ys.length)).length=rows.length:=by simp; omega
  have hrow:sS E.w0 (w.setRow b (cur.toList.take lo++cs++cur.toList.drop (lo+cs.length)).toArray) E.X g.F (g.rw r) (.live e 1 (rows.take lo++ys++rows.drop (lo+ys.length))):=by
   have hS1:Av g.F w (w.setRow b (cur.toList.take lo++cs++cur.toList.drop (lo+cs.length)).toArray):=λk hk=>setRow_other w b k _ (λe=>(hfree b (by rw [hv]; rfl)).1 (e ▸ hk));refine ((((hR.take1 lo).app hY).app (hR.drop1 (lo+ys.length))).mono hS1 (λ_ h=>h)).rowAt ?_ hfree;refine ⟨by simp; omega,.inr ⟨b,cap,_,by rw [hn']; exact hv,zYy _,setRow_heap w _ cur _ e _ hh,by rw [hn']; exact hnc,hcm,by simp; omega,?_⟩⟩;rw [hn',<- htake];have e1:(cur.toList.take (rows.length*1)).take lo=cur.toList.take lo:=by rw [zZw]; congr 1; omega
   have e2:(cur.toList.take (rows.length*1)).drop (lo+ys.length)=(cur.toList.drop (lo+cs.length)).take (rows.length*1 - (lo+cs.length)):=by rw [List.drop_take,hl]
   rw [e1,e2];simp only [zQX];rw [List.take_append,List.take_append];have h1:(cur.toList.take lo).length=lo:=by simp; omega
   rw [h1,zWx (show (cur.toList.take lo).length<=_ by rw [h1]; omega),zWx (show cs.length<=_ by omega)]
   congr 3
   omega
  refine hM.set_row (w':=w.setRow b (cur.toList.take lo++cs++cur.toList.drop (lo+cs.length)).toArray) ⟨rfl,rfl,rfl,by simp [World.setRow]⟩ r _ e 1 _ hx hL (λk hk hne=>setRow_other w b k _ (λhe=>hne (by rw [hv]; simp [Value.ownBlock,he]))) hrow
theorem Mk{r:Nat}{x:TC}(h:st.rw r=some x):({ st with rw:=jr st.rw r (some x) }:St)=st:=by
 have:jr st.rw r (some x)=st.rw:=by
  funext i
  unfold jr
  split
  ·rename_i h0; rw [h0,h]
  ·rfl
 rw [this]
theorem VQ{o:Oper}{xs ys:Operand}{x vy:A}{t t':TypeId}{r lo m n:Nat}(hS:uU E g n st a w)(ho:o.op=.call { callee:=.builtin .copy,args:=#[xs,ys],argTypes:=#[t,t'] })(hvx:VR w g st.O st.R (.win r lo m) (a.eval xs))(hvy:VR w g st.O st.R vy (a.eval ys))
  (h:(Hu P t r lo m vy).run st=some (x,st')):∃ u g' w',Di P o a w u w'/\zu E g st w x st' u g' w':=by
 have hM:=hS.mem;unfold Hu at h
 split at h
 rotate_left
 ·exact (aJ h).elim
 rename_i e hu
 split at h
 rotate_left
 ·exact (aJ h).elim
 rename_i hk1;obtain ⟨i,hi1,hi2⟩:=mY hk1;have hsz1:(P.info? e).map (·.size)=some 1:=by rw [hi1]; simp [hi2]
 obtain ⟨rows2,sz,ad,c,h,hyv,hY⟩:=Du hM hvy h
 split at h
 rotate_left
 ·exact (aJ h).elim
 rename_i hsz0;obtain ⟨hsz,hlm⟩:=hsz0;simp only [MA.run] at h
 cases hx:st.rw r with
 | none=>simp [hx,MA.run] at h
 | some xx =>
  cases xx with
  | gone=>simp [hx,MA.run] at h
  | frz sz' rows=>simp [hx,MA.run] at h
  | live e' sz' rows =>
   simp only [hx] at h
   split at h
   rotate_left
   ·exact (aJ h).elim
   rename_i hc;obtain ⟨rfl,hlo⟩:=hc;simp only [MA.run,Option.some.injEq,Prod.mk.injEq] at h;obtain ⟨rfl,rfl⟩:=h;have fin:∀ {v':Value} {w':World},(Builtin.copy_ #[t,t'] o.type #[a.eval xs,a.eval ys]).run P w=.ok v' w'->Di P o a w v' w':=by
    intro v' w' hr;refine .inl ?_;simp only [execOp,ho,resolve,invoke,builtin,Sem.run_bind,Sem.run_pure,Result.andThen_ok,zZq,zWh,List.map_nil,hr]
   generalize hvv:a.eval xs=vv at hvx
   cases hvx with
   | win _ _ _ n0 c0 c' ad0 a' hr he hm hp =>
    have hn0:n0=rows.length:=by
     obtain ⟨inner,hown,_⟩:=hM.row r _ hx;rcases hown.2 with ⟨hv0,h0⟩ | ⟨b,cap,cur,hv0,_⟩
     ·rw [hv0] at he; injection he with _ h1; omega
     ·rw [hv0] at he; injection he with _ h1; exact h1.symm
    subst hn0;have hvx':a.eval xs=.slice a' m c':=hvv
    by_cases h0:rows2.length=0
    ·have hnil:rows2=[]:=zQW h0;subst hnil;have hov:rows.take lo++[]++rows.drop (lo+([]:List (List T)).length)=rows:=by simp
     rw [hov,Mk hx];have hrun:=run_copy_none (P:=P) w t t' o.type e a' ad m c' 0 c hu hsz1 kU;rw [<- hvx'] at hrun;have hyv':a.eval ys=.slice ad 0 c:=hyv;rw [<- hyv'] at hrun;exact ⟨_,g,w,fin hrun,hM,.t _ _ (.int _ _),th.refl _ _ _ _,rfl⟩
    ·have hne:rows2≠[]:=λh1=>h0 (by rw [h1]; rfl);have hs1:=hsz.resolve_right hne;subst hs1;obtain ⟨bs,off,rfl,news,hnl,hnc,hn1,hnr⟩:=hY.flat hne;have hR2:xS w g.F 1 rows2 news:=⟨hnl,hY.len,λi row j x h1 h2=>let ⟨u,hu,hr⟩:=hnr i row j x h1 h2; ⟨u,hu,hr.one.1,hr⟩⟩;have hnl':news.length=rows2.length:=by rw [hnl,zVG]
     have hmin:min rows2.length m=rows2.length:=by omega
     obtain ⟨b,c1,cur,hgr,hh,hfit,hM2,hE2⟩:=MF (lo:=lo) (ys:=rows2) (cs:=news) hM hx hnl' ak ak hR2;obtain ⟨b',hb1,hb2⟩:=hp ak;have hbb:b'=b:=by
      rw [he] at hgr;injection hgr with h1 _ _
      rw [hb1] at h1;injection h1 with h1
      injection h1 with h1
     subst hbb;have hrun:=run_copy_row (P:=P) w t t' o.type e b' lo m c' ⟨bs,off,none⟩ rows2.length c cur e' news hu hsz1 hh (by rw [hnl']; exact hmin.symm)
      (λj v hj=>hnc j v hj) hfit (λv hv=>hn1 v hv)
     rw [<- hb2,<- hvx',<- hyv] at hrun;exact ⟨_,g,_,fin hrun,hM2,by rw [hnl']; exact .t _ _ (.int _ _),hE2,rfl⟩
theorem W3{o:Oper}{xs ys:Operand}{x vx vy:A}{ts:Array TypeId}{n:Nat}(hS:uU E g n st a w)(ho:o.op=.call { callee:=.builtin .copy,args:=#[xs,ys],argTypes:=ts })(hvx:VR w g st.O st.R vx (a.eval xs))(hvy:VR w g st.O st.R vy (a.eval ys))
  (h:(F8 P ts.toList vx vy).run st=some (x,st')):∃ u g' w',Di P o a w u w'/\zu E g st w x st' u g' w':=by
 have hM:=hS.mem;unfold F8 at h
 split at h
 ·rename_i t t' r lo m hts;have hts':ts=#[t,t']:=by rw [<- zWG (xs:=ts),hts]
  subst hts';exact VQ hS ho hvx hvy h
 rotate_left
 ·exact (aJ h).elim
 rename_i t t' r nn lo hts;have hts':ts=#[t,t']:=by rw [<- zWG (xs:=ts),hts]
 subst hts'
 split at h
 rotate_left
 ·exact (aJ h).elim
 rename_i e hu
 split at h
 rotate_left
 ·exact (aJ h).elim
 rename_i hk;obtain ⟨hk1,rfl⟩:=hk;obtain ⟨i,hi1,hi2⟩:=mY hk1;have hsz1:(P.info? e).map (·.size)=some 1:=by rw [hi1]; simp [hi2]
 obtain ⟨rows2,sz,ad,c,h,hyv,hY⟩:=Du hM hvy h
 split at h
 rotate_left
 ·exact (aJ h).elim
 rename_i hsz;simp only [MA.run] at h
 cases hx:st.rw r with
 | none=>simp [hx,MA.run] at h
 | some xx =>
  cases xx with
  | gone=>simp [hx,MA.run] at h
  | frz sz' rows=>simp [hx,MA.run] at h
  | live e' sz' rows =>
   simp only [hx] at h
   split at h
   rotate_left
   ·exact (aJ h).elim
   rename_i hc;obtain ⟨rfl,hlo⟩:=hc;simp only [MA.run,Option.some.injEq,Prod.mk.injEq] at h;obtain ⟨rfl,rfl⟩:=h;have fin:∀ {v':Value} {w':World},(Builtin.copy_ #[t,t'] o.type #[a.eval xs,a.eval ys]).run P w=.ok v' w'->Di P o a w v' w':=by
    intro v' w' hr;refine .inl ?_;simp only [execOp,ho,resolve,invoke,builtin,Sem.run_bind,Sem.run_pure,Result.andThen_ok,zZq,zWh,List.map_nil,hr]
   generalize hvv:a.eval xs=vv at hvx
   cases hvx with
   | sub _ _ _ n0 c0 c' ad0 a' hr he hp =>
    have hn0:n0=rows.length:=by
     obtain ⟨inner,hown,_⟩:=hM.row r _ hx;rcases hown.2 with ⟨hv0,h0⟩ | ⟨b,cap,cur,hv0,_⟩
     ·rw [hv0] at he; injection he with _ h1; omega
     ·rw [hv0] at he; injection he with _ h1; exact h1.symm
    subst hn0;have hvx':a.eval xs=.slice a' (rows.length - lo) c':=hvv
    by_cases h0:min rows2.length (rows.length - lo)=0
    ·have hov:RJ rows rows2 lo=rows:=by
      unfold RJ;rw [h0,zXx];have:rows2.take (rows.length - lo)=[]:=by
       rcases zYY rows2.length with h1 | h1
       ·rw [zQW h1]; simp
       ·rw [show rows.length - lo=0 by omega]; simp
      rw [this,zWW,zXv]
     rw [hov,Mk hx,h0];have hrun:=run_copy_none (P:=P) w t t' o.type e a' ad (rows.length - lo) c' rows2.length c hu hsz1 (by exact h0);rw [<- hvx',<- hyv] at hrun;exact ⟨_,g,w,fin hrun,hM,.t _ _ (.int _ _),th.refl _ _ _ _,rfl⟩
    ·have hne:rows2≠[]:=λh1=>h0 (by rw [h1]; simp);have hs1:=hsz.resolve_right hne;subst hs1;obtain ⟨bs,off,rfl,news,hnl,hnc,hn1,hnr⟩:=hY.flat hne;have hR2:xS w g.F 1 rows2 news:=⟨hnl,hY.len,λi row j x h1 h2=>let ⟨u,hu,hr⟩:=hnr i row j x h1 h2; ⟨u,hu,hr.one.1,hr⟩⟩;have hk:(rows2.take (rows.length - lo)).length=min rows2.length (rows.length - lo):=by rw [zQx,Nat.min_comm]
     have hnl':(news.take (rows.length - lo)).length=min rows2.length (rows.length - lo):=by rw [zQx,hnl,zVG,Nat.min_comm]
     obtain ⟨b,c1,cur,hgr,hh,hfit,hM2,hE2⟩:=MF (lo:=lo) (ys:=rows2.take (rows.length - lo)) (cs:=news.take (rows.length - lo)) hM hx (by rw [hk,hnl']) (by rw [hk]; omega) (by rw [hk]; omega) (hR2.take1 _);obtain ⟨b',hb1,hb2⟩:=hp ak;have hbb:b'=b:=by
      rw [he] at hgr;injection hgr with h1 _ _
      rw [hb1] at h1;injection h1 with h1
      injection h1 with h1
     subst hbb;have hrun:=run_copy_row (P:=P) w t t' o.type e b' lo (rows.length - lo) c' ⟨bs,off,none⟩ rows2.length c cur e' (news.take (rows.length - lo)) hu hsz1 hh (by rw [hnl'])
      (λj v hj=>hnc j v (by rw [zQK] at hj; split at hj; exact hj; cases hj)) hfit (λv hv=>hn1 v (zXQ hv))
     have hb3:a'=some ⟨b',lo,none⟩:=by rw [hb2]; simp
     rw [<- hb3,<- hvx',<- hyv] at hrun;rw [hk] at hM2 hE2;exact ⟨_,g,_,fin hrun,hM2,by rw [hnl']; exact .t _ _ (.int _ _),hE2,rfl⟩
theorem OE(v:Value)(n:Nat):(Builtin.zeroCells #[v] n).toList=zQZ n v:=by
 apply List.ext_getElem?
 intro i;simp only [Builtin.zeroCells,Array.toList_map,zQz,Array.toList_range,zZx];simp only [zVZ,zQw,zWv,zVG,zQg,Nat.mod_one]
 by_cases h:i < n
 ·rw [zZQ h,if_pos h]; rfl
 ·rw [zXK (by simpa using h),if_neg h]; rfl
theorem VS{o:Oper}{xs:Operand}{x vx:A}{ts:Array TypeId}{n:Nat}(hS:uU E g n st a w)(ho:o.op=.call { callee:=.builtin .clear,args:=#[xs],argTypes:=ts })(hvx:VR w g st.O st.R vx (a.eval xs))
  (h:(EC P ts.toList vx).run st=some (x,st')):∃ u g' w',Di P o a w u w'/\zu E g st w x st' u g' w':=by
 have hM:=hS.mem;unfold EC at h
 split at h
 rotate_left
 ·exact (aJ h).elim
 rename_i t r nn lo hts;have hts':ts=#[t]:=by rw [<- zWG (xs:=ts),hts]
 subst hts'
 split at h
 rotate_left
 ·exact (aJ h).elim
 rename_i e hu
 split at h
 rotate_left
 ·exact (aJ h).elim
 rename_i z hz
 split at h
 rotate_left
 ·exact (aJ h).elim
 rename_i hk;obtain ⟨hk1,rfl⟩:=hk;obtain ⟨i,zv,hi1,hzv,hC⟩:=Dw hz;have hCs:=hC w g st.O st.R;have hzs:zv.cells.size=1:=hCs.1;obtain ⟨u0,hu0⟩:∃ u0,zv.cells=#[u0]:=by
  match hq:zv.cells,hzs with
  | ⟨[u0]⟩,_=>exact ⟨u0,rfl⟩
 have hrd:Rd w g.F z u0:=by
  obtain ⟨_,u,hu1,hu2⟩:=hCs.2 0 (.t z) rfl;rw [hu0] at hu1;have:u0=u:=by simpa using hu1
  subst this
  cases hu2 with
  | t _ _ h=>exact h
 simp only [MA.run] at h
 cases hx:st.rw r with
 | none=>simp [hx,MA.run] at h
 | some xx =>
  cases xx with
  | gone=>simp [hx,MA.run] at h
  | frz sz' rows=>simp [hx,MA.run] at h
  | live e' sz' rows =>
   simp only [hx] at h
   split at h
   rotate_left
   ·exact (aJ h).elim
   rename_i hc;obtain ⟨rfl,hlo⟩:=hc;simp only [MA.run,Option.some.injEq,Prod.mk.injEq] at h;obtain ⟨rfl,rfl⟩:=h;have fin:∀ {v':Value} {w':World},(Builtin.clear_ #[t] o.type #[a.eval xs]).run P w=.ok v' w'->Di P o a w v' w':=by
    intro v' w' hr;refine .inl ?_;simp only [execOp,ho,resolve,invoke,builtin,Sem.run_bind,Sem.run_pure,Result.andThen_ok,zZq,zWh,List.map_nil,hr]
   generalize hvv:a.eval xs=vv at hvx
   cases hvx with
   | sub _ _ _ n0 c0 c' ad0 a' hr he hp =>
    have hn0:n0=rows.length:=by
     obtain ⟨inner,hown,_⟩:=hM.row r _ hx;rcases hown.2 with ⟨hv0,h0⟩ | ⟨b,cap,cur,hv0,_⟩
     ·rw [hv0] at he; injection he with _ h1; omega
     ·rw [hv0] at he; injection he with _ h1; exact h1.symm
    subst hn0;have hvx':a.eval xs=.slice a' (rows.length - lo) c':=hvv;have htup:VR w g st.O st.R (.tup []) (.tuple #[]):=.tup [] [] rfl kU
    by_cases h0:rows.length - lo=0
    ·have hov:rows.take lo++zQZ (rows.length - lo) [z]=rows:=by
      rw [h0,List.replicate_zero,zWW,zWx ak]
     rw [hov,Mk hx];have hrun:(Builtin.clear_ #[t] o.type #[.slice a' 0 c']).run P w=.ok (.tuple #[]) w:=by
      cases a' <;> simp [Builtin.clear_,run_underlying hu]
     rw [h0] at hvx';rw [<- hvx'] at hrun;exact ⟨_,g,w,fin hrun,hM,htup,th.refl _ _ _ _,rfl⟩
    ·have hRz:xS w g.F 1 (zQZ (rows.length - lo) [z]) (zQZ (rows.length - lo) u0):=by
      refine ⟨by simp,λi row hi=>?_,λi row j x hi hj=>?_⟩
      ·rw [zZx] at hi; split at hi <;> simp_all;subst hi; rfl
      ·rw [zZx] at hi
       split at hi
       ·rename_i hlt
        cases hi
        cases j with
        | zero =>
         simp only [zQh,Option.some.injEq] at hj;subst hj;exact ⟨u0,by rw [zZx,if_pos ak],hrd.one.1,hrd⟩
        | succ j=>simp at hj
       ·cases hi
     obtain ⟨b,c1,cur,hgr,hh,hfit,hM2,hE2⟩:=MF (lo:=lo) hM hx kU lv lv hRz;obtain ⟨b',hb1,hb2⟩:=hp ak;have hbb:b'=b:=by
      rw [he] at hgr;injection hgr with h1 _ _
      rw [hb1] at h1;injection h1 with h1
      injection h1 with h1
     subst hbb;have hb3:a'=some ⟨b',lo,none⟩:=by rw [hb2]; simp
     have hst:=run_storeCells_at P b' lo e' (zQZ (rows.length - lo) u0) 0 cur w hh (by simpa using hfit) (λv hv=>by rw [(List.mem_replicate.1 hv).2]; exact hrd.one.1);obtain ⟨m,hm⟩:∃ m,rows.length - lo=m+1:=⟨rows.length - lo - 1,by omega⟩;have hrun:(Builtin.clear_ #[t] o.type #[.slice (some ⟨b',lo,none⟩) (rows.length - lo) c']).run P w=.ok (.tuple #[]) (w.setRow b' (cur.toList.take lo++zQZ (rows.length - lo) u0++cur.toList.drop (lo+(zQZ (rows.length - lo) u0).length)).toArray):=by
      rw [hm] at hst ⊢;simp only [zXx] at hst;simp [Builtin.clear_,run_underlying hu,zeroValue,typeInfo,hi1,hzv,hu0,OE,hst]
     rw [<- hb3,<- hvx'] at hrun;have hdrop:rows.drop (lo+(zQZ (rows.length - lo) [z]).length)=[]:=zYQ lv;rw [hdrop,zWW] at hM2 hE2;exact ⟨_,g,_,fin hrun,hM2,htup.mono hE2,hE2,rfl⟩
end
section
variable {P:Program} {E:En} {g:Gh} {st st':St} {a:Act} {w:World}
theorem RR{o:Oper}{s t:TypeId}{y:Operand}{v x:A}{n:Nat}(hS:uU E g n st a w)(ho:o.op=.convert s t y)(hv:VR w g st.O st.R v (a.eval y))
  (h:(match P.underlying s,P.underlying t,some v with
  | some _,some (.int k),some (.t (.int _ n))=>MA.ret (.t (.int k (k.wrap n)))
  | some _,some .string,some (.t (.str s))=>.ret (.t (.str s))
  | some (.slice e),some .string,some x=>match P.underlying e with
   | some (.int .u8)=>x.rows λ_ rows=>match Ds rows with | some l=>.ret (.t (.str (strOfNums l))) | none=>.fail
   | _=>.fail
  | _,_,_=>.fail:MA A).run st=some (x,st')):∃ u g' w',Di P o a w u w'/\zu E g st w x st' u g' w':=by
 have hM:=hS.mem
 split at h
 ·rename_i d k kk nn h1 h2 h3
  cases h3
  have he:=hv.int;refine dY hM ?_ (.t _ _ (.int _ _)) h
  cases d <;> simp [execOp,ho,he,convert,run_underlying h1,run_underlying h2,Conv.intToInt]
 ·rename_i d s' h1 h2 h3
  cases h3
  have he:=hv.str;refine dY hM ?_ (.t _ _ (.str _)) h
  cases d <;> simp [execOp,ho,he,convert,run_underlying h1,run_underlying h2]
 ·rename_i e v' hneg h1 h2 h3;injection h3 with h3
  subst h3
  split at h
  ·rename_i he;obtain ⟨rows,sz,ad,c,h,hvv,hR⟩:=Du hM hv h
   split at h
   ·rename_i l hl;obtain ⟨h4,h5⟩:=ME hl;refine dY hM ?_ (.t _ _ (.str _)) h;have hrun:(convert s t (a.eval y)).run P w=.ok (.string (strOfNums l)) w:=by
     rw [hvv]
     by_cases hne:rows=[]
     ·subst hne;have:l=[]:=zQW h4;subst this
      cases ad with
      | none=>exact run_convert_bytes_nil w s e h1 he 0 c t h2
      | some ad =>
       simp [convert,run_underlying h1,run_underlying h2,run_underlying he,Conv.bytesToString,loadCells,loadCellsFrom];rfl
     ·obtain ⟨b,off,rfl,hx⟩:=hR.at_.resolve_left hne;refine run_convert_bytes_arg w s e h1 he b off rows.length c l h4 (λi hi=>?_) t h2;have hrow:=h5 i _ (sX hi);have hsz:sz=1:=by have:=hR.len i _ (sX hi); rw [hrow] at this; exact this.symm
      subst hsz;obtain ⟨u,hu,hr⟩:=hx i _ 0 (.int .u8 (l.getD i 0)) (sX hi) (by rw [hrow]; rfl)
      cases hr
      rw [zVG,zXx] at hu;exact hu
    simp [execOp,ho,hrun]
   ·exact (aJ h).elim
  ·exact (aJ h).elim
 ·exact (aJ h).elim
theorem W4{α:Type}{st':St}{y:α}:∀ (l:List A) (st:St) (k:List T->MA α),(fg l k).run st=some (y,st')->l.all A.one=true:=by
 intro l
 induction l with
 | nil=>intro _ _ _; rfl
 | cons q l ih =>
  intro st k h;simp only [fg] at h
  cases q with
  | t x=>exact (by show (A.one _ && l.all A.one)=true; rw [ih _ _ h]; rfl)
  | nil=>exact (by show (A.one _ && l.all A.one)=true; rw [ih _ _ h]; rfl)
  | own r =>
   simp only [A.toT,MA.run] at h
   split at h
   ·show (A.one _ && l.all A.one)=true; rw [ih _ _ h]; rfl
   ·show (A.one _ && l.all A.one)=true; rw [ih _ _ h]; rfl
   ·exact (aJ h).elim
  | _=>exact (aJ h).elim
theorem W5{o:Oper}{e:TypeId}{y:Operand}{x v:A}{n:Nat}(hS:uU E g n st a w)(ho:o.op=.box e y)(hv:VR w g st.O st.R v (a.eval y))(h:(fg v.cells λts=>MA.ret (A.fadr ts)).run st=some (x,st')) :
  ∃ v g' w',Di P o a w v w'/\zu E g st w x st' v g' w':=by
 obtain ⟨h1,h2,h3⟩:=hv.cells hS.mem (W4 _ _ _ h);obtain ⟨ts,st1,g1,hM1,hE1,ht1,h4,htl,hts⟩:=RM hS.mem (vs:=(a.eval y).cells.toList) (by rw [zQv]; exact h1) (λj x hj=>by
  obtain ⟨_,q,hq,hr⟩:=h3 j x hj;exact ⟨q,by simpa using hq,hr⟩) h
 obtain ⟨rfl,rfl⟩:=gZ h4;have hnf:=vY hM1 (zWJ w.heap.size);obtain ⟨hM2,hE2⟩:=hM1.step (w':=w.alloc (.cells (a.eval y).cells e)) (g':={ g1 with F:=λb=>g1.F b\/b=w.heap.size }) (st':=st') (F9 w _) (λ_=>False) (λb h1 _=>heap_alloc_old w _ b h1) (λ_ h=>h.elim) (λ_ _ h=>h.elim) (λ_ h=>.inl h)
  (λb h1 h2=>by
   have:=h1.resolve_left h2;subst this;exact ⟨by simp,λhlt=>by (have:=hM1.sizes; omega),.inr ⟨_,_,heap_alloc_new w _⟩⟩) (λ_ h=>⟨h,rfl⟩) (λ_ h=>⟨h,rfl⟩)
  (λs cells hs=>.inl ⟨hs,id,λhf=>hf.elim (hM1.ob_nf WQ).1 (λhe=>hnf.2.1 s WQ he)⟩) hM1.obne
  (λr x hr=>.inl ⟨hr,λhL b hb'=>⟨id,λhf=>hf.elim (hM1.row_nf hL hb').1 (λhe=>hnf.2.2 r hL (he ▸ hb'))⟩⟩) hM1.rowne hM1.rowob
 refine ⟨.pointer (some ⟨w.heap.size,0,none⟩),_,_,.inl ?_,hM2,?_,hE1.trans hE2,ht1.tm⟩
 ·simp [execOp,ho,Instr.box,newVar,newRow,newObj,Sem.run]
 ·refine .fadr ts w.heap.size 0 (λj=>(a.eval y).cells.toList.getD j undef) (.inr rfl) (λj t hj=>?_) (λj t hj=>?_)
  ·obtain ⟨u,hu,_,hr⟩:=hts j t hj;rw [zZZ,hu];have hh:=heap_alloc_new w (.cells (a.eval y).cells e);simp only [World.cell?,hh,zQg]
   simpa using hu
  ·obtain ⟨u,hu,_,hr⟩:=hts j t hj;rw [zZZ,hu];exact hr.mono hE2.same hE2.F
theorem Ch{n:Nat}(hS:uU E g n st a w){xs:List Operand}{l:List A}(h:ef (xs.map st.eval)=some l):l.length=(xs.map a.eval).length/\∀ (i:Nat) (x:A) (v:Value),l[i]?=some x->(xs.map a.eval)[i]?=some v->VR w g st.O st.R x v:=by
 obtain ⟨h1,h2⟩:=uV h;refine ⟨by simp [h1],λi x v hx hv=>?_⟩;obtain ⟨y,hy,hf⟩:=h2 i x hx;rw [zQz,hy] at hv
 cases hv
 exact b9 hS hf
theorem TJ{n:Nat}{o:Oper}{x:A}(hS:uU E g n st a w){ρ:Nat->fy}(h:(qd P ρ st.eval o).run st=some (x,st')):∃ u g' w',Di P o a w u w'/\zu E g st w x st' u g' w':=by
 have hM:=hS.mem;unfold qd at h
 split at h
 ·-- move
  rename_i y ho
  split at h
  ·rename_i v hv;exact dY hM (by simp [execOp,ho]) (b9 hS hv) h
  ·exact (aJ h).elim
 ·-- assign
  rename_i y ho
  split at h
  ·rename_i v hv;exact dY hM (by simp [execOp,ho]) (b9 hS hv) h
  ·exact (aJ h).elim
 ·-- pick
  rename_i c y z ho
  split at h
  ·rename_i cb va vb hc ha hb;have he:=(b9 hS hc).bool
   cases cb with
   | true=>exact dY hM (v:=a.eval y) (by simp [execOp,ho,he,asBool]) (by simpa using b9 hS ha) h
   | false=>exact dY hM (v:=a.eval z) (by simp [execOp,ho,he,asBool]) (by simpa using b9 hS hb) h
  ·exact (aJ h).elim
 ·-- alloc
  rename_i e ho
  split at h
  ·rename_i d z hd hz;exact VJ hS ho hz h
  ·exact (aJ h).elim
 ·-- box
  rename_i e y ho
  split at h
  ·rename_i d v hd hv
   split at h
   ·exact W5 hS ho (b9 hS hv) h
   ·exact YA hS ho (b9 hS hv) h
  ·exact (aJ h).elim
 ·-- build
  rename_i t parts ho
  split at h
  ·rename_i z pl ps hz hp hps
   split at h
   ·rename_i cs hcs;exact VM hS ho hz hp hps hcs h
   ·exact (aJ h).elim
  ·exact (aJ h).elim
 ·-- buildSlice
  rename_i t m parts ho
  split at h
  ·rename_i e d ps hu hd hps
   split at h
   ·rename_i sz z hsz hz
    split at h
    ·rename_i hk;exact MC hS ho hu hsz hz hps hk h
    ·exact (aJ h).elim
   ·exact (aJ h).elim
  ·exact (aJ h).elim
 ·-- load
  rename_i t y ho
  split at h
  ·rename_i v hv;exact WY hS ho (b9 hS hv) h
  ·exact (aJ h).elim
 ·-- store
  rename_i t y z ho
  split at h
  ·rename_i v u hv hu;exact VL hS ho (b9 hS hv) (b9 hS hu) h
  ·exact (aJ h).elim
 ·-- nilCheck
  rename_i y ho;have hvr:∀ {v:A},st.eval y=some v->VR w g st.O st.R v (a.eval y):=λh=>b9 hS h
  split at h
  ·rename_i s k hv;have:=hvr hv;generalize hvv:a.eval y=vv at this
   cases this with
   | obj s off hs=>exact dY hM WU (.obj s k hs) h
  ·rename_i r sz ix k hv;have:=hvr hv;generalize hvv:a.eval y=vv at this
   cases this with
   | elem r sz i off b n c hr he=>exact dY hM WU (.elem r sz ix k b _ _ hr he) h
  ·rename_i cs hv;have:=hvr hv;generalize hvv:a.eval y=vv at this
   cases this with
   | fadr cells b off u hF hx hr=>exact dY hM WU (.fadr cs b _ u hF hx hr) h
  ·rename_i s cs hv;have:=hvr hv;generalize hvv:a.eval y=vv at this
   cases this with
   | exa _ cells b off u hs hD hx hr=>exact dY hM WU (.exa s cs b _ u hs hD hx hr) h
  ·rename_i f cs hv;have:=hvr hv;generalize hvv:a.eval y=vv at this
   cases this with
   | clo f caps vs hl hx=>exact dY hM WU (.clo f cs vs hl hx) h
  ·exact (aJ h).elim
 ·-- binOp
  rename_i op t y z yt ho
  split at h
  ·rename_i vx vy hx hy
   split at h
   ·rename_i r hr;obtain ⟨v,hrun,hrd⟩:=YG (P:=P) (ox:=y) (oy:=z) hr (b9 hS hx).tnum (b9 hS hy).tnum;refine dY hM ?_ (.t _ _ hrd) h;simp only [Sem.run_bind] at hrun;simp only [execOp,ho,Sem.run_bind,hrun,Result.andThen_ok,Sem.run_pure]
   ·exact (aJ h).elim
  ·rename_i vx vy hx hy
   split at h
   ·rename_i m xs ys he hxs hys
    split at h
    ·rename_i hk;obtain ⟨hg,heq⟩:=RQ (w:=w) he hk.1 hk.2 .eql y z;refine dY hM ?_ (.t _ _ (.bool _)) h;simp only [execOp,ho,Hy hxs (b9 hS hx),Hy hys (b9 hS hy),Sem.run_bind,hg,run_eql_struct,heq,Result.andThen_ok,Sem.run_pure]
    ·exact (aJ h).elim
   ·rename_i m xs ys he hxs hys
    split at h
    ·rename_i hk;obtain ⟨hg,heq⟩:=RQ (w:=w) he hk.1 hk.2 .neq y z;refine dY hM ?_ (.t _ _ (.bool _)) h;simp only [execOp,ho,Hy hxs (b9 hS hx),Hy hys (b9 hS hy),Sem.run_bind,hg,run_neq_struct,heq,Result.andThen_ok,Sem.run_pure]
    ·exact (aJ h).elim
   ·exact (aJ h).elim
  ·rename_i sz rows hx hy
   split at h
   ·rename_i e hu;have h1:=b9 hS hx;have h2:=b9 hS hy;generalize hvx:a.eval y=vx at h1;generalize hvy:a.eval z=vy at h2
    cases h1 with
    | nn _ _ _ hr hv =>
     obtain ⟨ad,m,c,rfl⟩:=hv
     cases h2
     refine dY hM ?_ (.t _ _ (.bool _)) h;simp [execOp,ho,hvx,hvy,eqGuard,binOp,run_equal_slice_nil w t e (some ad) m c hu]
   ·exact (aJ h).elim
  ·rename_i hx hy
   split at h
   ·rename_i e hu;have h1:=b9 hS hx;have h2:=b9 hS hy;generalize hvx:a.eval y=vx at h1;generalize hvy:a.eval z=vy at h2
    cases h1
    cases h2
    refine dY hM ?_ (.t _ _ (.bool _)) h;simp [execOp,ho,hvx,hvy,eqGuard,binOp,run_equal_slice_nil w t e none 0 0 hu]
   ·exact (aJ h).elim
  ·exact (aJ h).elim
 ·-- unOp
  rename_i op t y ho
  split at h
  ·rename_i b hv;exact dY hM (by simp [execOp,ho,(b9 hS hv).bool,Op.unary]) (.t _ _ (.bool _)) h
  ·rename_i k m hv;exact dY hM (by simp [execOp,ho,(b9 hS hv).int,Op.unary,Op.intArith]) (.t _ _ (.int _ _)) h
  ·exact (aJ h).elim
 ·-- convert
  rename_i s t y ho
  cases hv:st.eval y with
  | none =>
   rw [hv] at h;exfalso
   split at h
   ·rename_i h3; cases h3
   ·rename_i h3; cases h3
   ·rename_i h3; cases h3
   ·exact aJ h
  | some v =>
   rw [hv] at h;exact RR hS ho (b9 hS hv) h
 ·-- makeFunc
  rename_i f first caps ho
  split at h
  ·rename_i l hf hl;obtain ⟨h1,h2⟩:=Ch hS hl;have hf':first=#[]:=by rw [<- zWG (xs:=first),hf]
   subst hf';refine dY hM (v:=.func (.func f) #[] (caps.toList.map a.eval).toArray) ?_ (.clo f l _ h1 h2) h;simp [execOp,ho,Instr.makeFunc,zZq];rw [<- Array.toList_map]
  ·exact (aJ h).elim
 ·-- makeSlice
  rename_i t yl yc ho
  split at h
  ·rename_i vl vc hl hc;unfold Mz at h
   split at h
   ·rename_i e l c d hu hd1
    split at h
    ·rename_i zz m by_ z hi hz
     split at h
     ·rename_i hk;exact WZ hS ho (b9 hS hl).int (b9 hS hc).int hu hi hz hk h
     ·exact (aJ h).elim
    ·exact (aJ h).elim
   ·exact (aJ h).elim
  ·exact (aJ h).elim
 ·-- slice
  rename_i t y lo hi ho
  split at h
  ·rename_i v l k hv hl hk
   split at h
   ·rename_i hcw
    split at h
    ·split at h
     rotate_left
     ·exact YF hS ho (b9 hS hv) hl hk h
     rename_i hw hk0;rw [Option.isNone_iff_eq_none] at hk0;subst hk0;have:hi=none:=by
      cases hi with
      | none=>rfl
      | some z=>simp only [I5,zWj] at hk; obtain ⟨_,_,hk⟩:=hk; cases hk
     subst this;exact YE hS ho (b9 hS hv) hl h
    ·rename_i hw;simp only [VI,hw,zZj,sk,Option.isNone_iff_eq_none] at hcw;obtain ⟨_,hl0⟩:=hcw;subst hl0;have:lo=none:=by
      cases lo with
      | none=>rfl
      | some z=>simp only [I5,zWj] at hl; obtain ⟨_,_,hl⟩:=hl; cases hl
     subst this;exact VP hS ho (b9 hS hv) hk h
   ·exact VO hS ho (b9 hS hv) hl hk h
  ·exact (aJ h).elim
 ·-- fieldAddr
  rename_i s y f ho
  split at h
  ·rename_i v off t hv hf;exact OC hS ho (b9 hS hv) hf h
  ·exact (aJ h).elim
 ·-- field
  rename_i s y f ho
  split at h
  ·rename_i l off t hv hf
   split at h
   ·rename_i gg m hg hm
    split at h
    ·rename_i x' hx';obtain ⟨fs,fl,m',i,hu,hfl,h1,h2,h3,h4,h5,h6⟩:=Kj hf;have hvr:=b9 hS hv;generalize hvv:a.eval y=vv at hvr
     cases hvr with
     | agg l vs hl hx =>
      rw [h3] at hm
      cases hm
      unfold F7 at hx'
      split at hx'
      ·rename_i hle
       cases gg with
       | true =>
        simp only [if_true,Option.some.injEq] at hx';subst hx';refine dY hM (v:=.agg ((vs.drop off).take m).toArray) ?_ (.agg _ _ (by simp [hl]) (λi x v hx1 hv1=>?_)) h
        ·simp [execOp,ho,hvv,Instr.field,run_underlying hu,hfl,h1,h2,asAgg,Go.part,Hx hg,sizeOf,typeInfo,h5,h6,List.take_drop]
        ·rw [zQK] at hx1 hv1
         split at hx1
         ·rename_i hlt;rw [if_pos hlt] at hv1;rw [zQJ] at hx1 hv1;exact hx _ x v hx1 hv1
         ·cases hx1
       | false =>
        simp only [zQk,if_false] at hx'
        split at hx'
        ·have hlt:off < vs.length:=by rw [<- hl]; exact (sr.1 hx').1
         refine dY hM (v:=vs[off]) ?_ (hx off x' _ hx' (sX hlt)) h;simp [execOp,ho,hvv,Instr.field,run_underlying hu,hfl,h1,h2,asAgg,Go.part,Hx hg,hlt]
        ·cases hx'
      ·cases hx'
    ·exact (aJ h).elim
   ·exact (aJ h).elim
  ·exact (aJ h).elim
 ·-- indexAddr
  rename_i t y z ho
  split at h
  ·rename_i v i hv hi;exact OD hS ho (b9 hS hv) (b9 hS hi) h
  ·exact (aJ h).elim
 ·-- index
  rename_i t y z ho
  split at h
  ·rename_i s k i hu hv hi
   split at h
   ·rename_i h0
    split at h
    ·rename_i b hb;refine dY hM ?_ (.t _ _ (.int _ _)) h;simp [execOp,ho,(b9 hS hv).str,(b9 hS hi).int,Instr.index,asIntOf,run_underlying hu,h0,hb]
    ·exact (aJ h).elim
   ·exact (aJ h).elim
  ·exact (aJ h).elim
 ·-- extract
  rename_i y i ho
  split at h
  ·rename_i l hv
   split at h
   ·rename_i v hvi;have hvr:=b9 hS hv;generalize hvv:a.eval y=vv at hvr
    cases hvr with
    | tup l vs hl hx =>
     have hlt:i < vs.length:=by rw [<- hl]; exact (sr.1 hvi).1
     refine dY hM (v:=vs[i]) ?_ (hx i v _ hvi (sX hlt)) h;simp [execOp,ho,hvv,Instr.extract,hlt]
   ·exact (aJ h).elim
  ·exact (aJ h).elim
 ·-- len
  rename_i args ts ho
  split at h
  ·rename_i y t ha ht;have ha':args=#[y]:=by rw [<- zWG (xs:=args),ha]
   have ht':ts=#[t]:=by rw [<- zWG (xs:=ts),ht]
   subst ha' ht'
   split at h
   ·rename_i v hv;exact YD hS ho (b9 hS hv) h
   ·exact (aJ h).elim
  ·exact (aJ h).elim
 ·-- append
  rename_i args ts ho
  split at h
  ·rename_i y z ha;have ha':args=#[y,z]:=by rw [<- zWG (xs:=args),ha]
   subst ha'
   split at h
   ·rename_i vx vy hx hy;exact TI hS ho (b9 hS hx) (b9 hS hy) h
   ·exact (aJ h).elim
  ·exact (aJ h).elim
 ·-- copy
  rename_i args ts ho
  split at h
  ·rename_i y z ha;have ha':args=#[y,z]:=by rw [<- zWG (xs:=args),ha]
   subst ha'
   split at h
   ·rename_i vx vy hx hy;exact W3 hS ho (b9 hS hx) (b9 hS hy) h
   ·exact (aJ h).elim
  ·exact (aJ h).elim
 ·-- clear
  rename_i args ts ho
  split at h
  ·rename_i y ha;have ha':args=#[y]:=by rw [<- zWG (xs:=args),ha]
   subst ha'
   split at h
   ·rename_i vx hx;exact VS hS ho (b9 hS hx) h
   ·exact (aJ h).elim
  ·exact (aJ h).elim
 ·-- min
  rename_i args ts ho
  split at h
  ·rename_i y z ha;have ha':args=#[y,z]:=by rw [<- zWG (xs:=args),ha]
   subst ha'
   split at h
   ·rename_i k m k' m' hx hy;refine dY hM ?_ (.t _ _ (.int _ _)) h;simp [execOp,ho,resolve,invoke,builtin,Builtin.min_,Builtin.min2,(b9 hS hx).int,(b9 hS hy).int]
   ·exact (aJ h).elim
  ·exact (aJ h).elim
 ·-- max
  rename_i args ts ho
  split at h
  ·rename_i y z ha;have ha':args=#[y,z]:=by rw [<- zWG (xs:=args),ha]
   subst ha'
   split at h
   ·rename_i k m k' m' hx hy;refine dY hM ?_ (.t _ _ (.int _ _)) h;simp [execOp,ho,resolve,invoke,builtin,Builtin.max_,Builtin.max2,(b9 hS hx).int,(b9 hS hy).int]
   ·exact (aJ h).elim
  ·exact (aJ h).elim
 ·exact (aJ h).elim
end
inductive C where
 | t (x:T)
 | nil
 | ow (e sz:Nat) (rows:List (List T))
 deriving Inhabited
inductive V where
 | one (c:C)
 | agg (l:List C)
 | tup (l:List V)
 | ptr (cells:List C)
 | fptr (cells:List T)
 | clo (f:FuncId) (caps:List V)
 deriving Inhabited
section
variable (w:World) (F:Nat->Prop)
inductive CV:C->Value->List Nat->Prop
 | t (x:T) (v:Value) (h:Rd w F x v):CV (.t x) v []
 | nil:CV .nil (.slice none 0 0) []
 | ow (e sz:Nat) (rows:List (List T)) (v:Value) (inner:List Value) (h:w.ownsRow 0 e sz v rows.length inner) (hr:xS w F sz rows inner):CV (.ow e sz rows) v v.ownBlock.toList
inductive Ps:List C->List Value->List Nat->Prop
 | nil:Ps [] [] []
 | cons (c:C) (v:Value) (b:List Nat) (cs:List C) (vs:List Value) (bs:List Nat) (h:CV w F c v b) (hs:Ps cs vs bs):Ps (c :: cs) (v :: vs) (b++bs)
mutual
inductive VV:V->Value->List Nat->Prop
 | one (c:C) (v:Value) (bs:List Nat) (h:CV w F c v bs):VV (.one c) v bs
 | agg (l:List C) (vs:List Value) (bs:List Nat) (h:Ps w F l vs bs):VV (.agg l) (.agg vs.toArray) bs
 | tup (l:List V) (vs:List Value) (bs:List Nat) (h:Dj l vs bs):VV (.tup l) (.tuple vs.toArray) bs
 | ptr (cells:List C) (b:Nat) (arr:Array Value) (e:TypeId) (vs:List Value) (bs:List Nat) (hb:w.heap[b]?=some (.cells arr e (0,0))) (hl:vs=arr.toList.take vs.length) (hle:vs.length<=arr.size)
   (h:Ps w F cells vs bs):VV (.ptr cells) (.pointer (some ⟨b,0,none⟩)) (b :: bs)
 | fptr (cells:List T) (b off:Nat) (u:Nat->Value) (hF:F b) (hx:∀ (j:Nat) (x:T),cells[j]?=some x->w.cell? ⟨b,off+j,none⟩=some (u j)) (hr:∀ (j:Nat) (x:T),cells[j]?=some x->Rd w F x (u j)) :
   VV (.fptr cells) (.pointer (some ⟨b,off,none⟩)) []
 | clo (f:FuncId) (caps:List V) (vs:List Value) (bs:List Nat) (h:Dj caps vs bs):VV (.clo f caps) (.func (.func f) #[] vs.toArray) bs
inductive Dj:List V->List Value->List Nat->Prop
 | nil:Dj [] [] []
 | cons (x:V) (v:Value) (b:List Nat) (l:List V) (vs:List Value) (bs:List Nat) (h:VV x v b) (hs:Dj l vs bs):Dj (x :: l) (v :: vs) (b++bs)
end
inductive sB:List V->List Value->List (List C)->List Nat->Prop
 | nil:sB [] [] [] []
 | ptr (c c':List C) (v:Value) (bs:List Nat) (l:List V) (vs:List Value) (os:List (List C)) (bo:List Nat) (h:VV w F (.ptr c') v bs) (hs:sB l vs os bo):sB (.ptr c :: l) (v :: vs) (c' :: os) (bs++bo)
 | skip (x:V) (v:Value) (l:List V) (vs:List Value) (os:List (List C)) (bo:List Nat) (hx:∀ c,x≠.ptr c) (hs:sB l vs os bo):sB (x :: l) (v :: vs) os bo
end
def tM(P:Program)(f:FuncId):Prop:=∃ fn,P.funcs[f]?=some fn/\fn.body.isNone=false/\(fn.name == "runtime.NumGoroutine")=false
def av(P:Program)(f:FuncId)(args:List V)(res:V)(outs:List (List C)):Prop :=
 tM P f/\∀ (w:World) (F:Nat->Prop) (vs:List Value) (bs:List Nat),(∀ b,F b->b < w.heap.size)->Dj w F args vs bs->bs.Nodup->(∀ b∈bs,¬ F b)->RG P w (λb=>b∈bs) ->
  Calls P f vs.toArray w λe w'=>∃ v F' bv bo,e=.returned v/\rc w w'/\(∀ b,b < w.heap.size->b∉bs->w'.heap[b]?=w.heap[b]?)/\(∀ b,F b->F' b) /\
   (∀ b,F' b->b < w'.heap.size/\(b < w.heap.size->F b\/b∈bs)/\(F b\/Wr w' b))/\VV w' F' res v bv/\sB w' F' args vs outs bo/\(bv++bo).Nodup/\∀ b∈bv++bo,¬ F' b/\(w.heap.size<=b\/b∈bs)
def A.toC{α:Type}(m:Bool)(a:A)(k:C->MA α):MA α:=match m,a with
 | true,.own r=>.getRw r fun
  | some (.live e sz rows)=>.setRw r .gone (k (.ow e sz rows))
  | some (.frz sz rows)=>k (.t (.sl sz rows))
  | _=>.fail
 | true,.nil=>k .nil
 | _,a=>a.toT λx=>k (.t x)
def Gd{α:Type}(m:Bool):List A->(List C->MA α)->MA α
 | [],k=>k []
 | a :: r,k=>a.toC m λx=>Gd m r λxs=>k (x :: xs)
def Dx{α:Type}(s:Nat)(k:List C->MA α):MA α:=.getOb s fun
 | some (c :: cells)=>Gd true (c :: cells) λcs=>.setOb s [] (k cs)
 | _=>.fail
mutual
def q6{α:Type}(m:Bool):A->(V->MA α)->MA α
 | .agg l,k=>Gd m l λcs=>k (.agg cs)
 | .fadr ts,k=>k (.fptr ts)
 | .clo f caps,k=>Ci m caps λvs=>k (.clo f vs)
 | .tup l,k=>Ci m l λvs=>k (.tup vs)
 | a,k=>a.toC m λc=>k (.one c)
def Ci{α:Type}(m:Bool):List A->(List V->MA α)->MA α
 | [],k=>k []
 | a :: r,k=>q6 m a λx=>Ci m r λxs=>k (x :: xs)
end
def RS:List A->Option (List T)
 | []=>some []
 | .t x :: r=>match RS r with | some l=>some (x :: l) | none=>none
 | _ :: _=>none
def Hz{α:Type}(s:Nat)(k:List C->MA α):MA α:=.getOb s fun
 | some (c :: cells)=>match RS (c :: cells) with | some ts=>.setOb s [] (k (ts.map .t)) | none=>.fail
 | _=>.fail
def kf{α:Type}(m:Bool)(p:Nat->Bool):List A->(List V->MA α)->MA α
 | [],k=>k []
 | .obj s 0 :: r,k=>if p s then Hz s λcs=>kf m p r λxs=>k (.ptr cs :: xs) else Dx s λcs=>kf m p r λxs=>k (.ptr cs :: xs)
 | a :: r,k=>q6 m a λx=>kf m p r λxs=>k (x :: xs)
def fL:List A->List Nat
 | []=>[]
 | .obj s 0 :: r=>s :: fL r
 | _ :: r=>fL r
def A.peekT{α:Type}(a:A)(k:T->MA α):MA α:=match a with
 | .t x=>k x
 | .ext false x=>k x
 | .nil=>k (.sl 0 [])
 | .own r=>.getRw r fun
  | some (.live _ sz rows)=>k (.sl sz rows)
  | some (.frz sz rows)=>k (.sl sz rows)
  | _=>.fail
 | _=>.fail
def HA{α:Type}:List A->(List T->MA α)->MA α
 | [],k=>k []
 | a :: r,k=>a.peekT λx=>HA r λxs=>k (x :: xs)
mutual
def j9{α:Type}:A->(V->MA α)->MA α
 | .agg l,k=>HA l λts=>k (.agg (ts.map .t))
 | .fadr ts,k=>k (.fptr ts)
 | .clo f caps,k=>eZ caps λvs=>k (.clo f vs)
 | a,k=>a.peekT λx=>k (.one (.t x))
def eZ{α:Type}:List A->(List V->MA α)->MA α
 | [],k=>k []
 | a :: r,k=>j9 a λx=>eZ r λxs=>k (x :: xs)
end
def C.plain:C->Prop
 | .t x=>x.sc=true
 | .nil=>True
 | .ow _ _ rows=>∀ row∈rows,∀ x∈row,T.sc x=true
mutual
def V.plain:V->Prop
 | .one c=>c.plain
 | .agg l=>∀ c∈l,c.plain
 | .tup l=>vZ l
 | _=>False
def vZ:List V->Prop
 | []=>True
 | v :: r=>v.plain/\vZ r
end
def C.toA{α:Type}(d id:Nat)(c:C)(k:A->MA α):MA α:=match c with
 | .t x=>k (.t x)
 | .nil=>k .nil
 | .ow e sz rows=>if id / 65536=d then .getRw id fun
  | none=>.setRw id (.live e sz rows) (k (.own id))
  | some _=>.fail
  else .fail
def I9{α:Type}(d:Nat):Nat->List C->(List A->MA α)->MA α
 | _,[],k=>k []
 | id,c :: r,k=>c.toA d id λx=>I9 d (id+1) r λxs=>k (x :: xs)
mutual
def V.toA{α:Type}(d:Nat):Nat->V->(A->MA α)->MA α
 | id,.one c,k=>c.toA d id k
 | id,.agg l,k=>I9 d id l λln=>k (.agg ln)
 | id,.tup l,k=>Cj d id l λln=>k (.tup ln)
 | id,.ptr cells,k=>I9 d id cells λln=>.getOb d fun
  | none=>.setOb d ln (k (.obj d 0))
  | some _=>.fail
 | _,.fptr ts,k=>k (.fadr ts)
 | id,.clo f caps,k=>Cj d id caps λln=>k (.clo f ln)
def Cj{α:Type}(d:Nat):Nat->List V->(List A->MA α)->MA α
 | _,[],k=>k []
 | id,v :: r,k=>V.toA d id v λx=>Cj d (id+1024) r λxs=>k (x :: xs)
end
section
variable {P:Program} {E:En} {g:Gh} {st st':St} {w:World}
theorem CV.mono{w w':World}{F F':Nat->Prop}{c:C}{v:Value}{bs:List Nat}(h:CV w F c v bs)(hs:Av F w w')(hF:∀ b,F b->F' b)(hb:∀ b∈bs,w'.heap[b]?=w.heap[b]?):CV w' F' c v bs:=by
 cases h with
 | t x v h=>exact .t x v (h.mono hs hF)
 | nil=>exact .nil
 | ow e sz rows v inner h hr =>
  refine .ow e sz rows v inner ⟨h.1,?_⟩ (hr.mono hs hF);rcases h.2 with hn | ⟨b,cap,cur,hv,hg,hh,r⟩
  ·exact .inl hn
  ·exact .inr ⟨b,cap,cur,hv,hg,by rw [hb b (by rw [hv]; simp [Value.ownBlock])]; exact hh,r⟩
theorem Ps.mono{w w':World}{F F':Nat->Prop}{cs:List C}{vs:List Value}{bs:List Nat}(h:Ps w F cs vs bs)(hs:Av F w w')(hF:∀ b,F b->F' b)(hb:∀ b∈bs,w'.heap[b]?=w.heap[b]?):Ps w' F' cs vs bs:=by
 induction h with
 | nil=>exact .nil
 | cons c v b cs vs bs h hs' ih=>exact .cons c v b cs vs bs (h.mono hs hF (λx hx=>hb x Tq)) (ih (λx hx=>hb x Tq))
mutual
theorem VV.mono{w w':World}{F F':Nat->Prop}{x:V}{v:Value}{bs:List Nat}(h:VV w F x v bs)(hs:Av F w w')(hF:∀ b,F b->F' b)(hb:∀ b∈bs,w'.heap[b]?=w.heap[b]?):VV w' F' x v bs :=
 match h with
 | .one c v bs h=>.one c v bs (h.mono hs hF hb)
 | .agg l vs bs h=>.agg l vs bs (h.mono hs hF hb)
 | .tup l vs bs h=>.tup l vs bs (h.mono hs hF hb)
 | .ptr cells b arr e vs bs h1 h2 h3 h=>.ptr cells b arr e vs bs (by rw [hb b kU]; exact h1) h2 h3 (h.mono hs hF (λx hx=>hb x Tq))
 | .fptr cells b off u h1 h2 h3=>.fptr cells b off u (hF b h1) (λj x hj=>by rw [BI hs h1]; exact h2 j x hj) (λj x hj=>(h3 j x hj).mono hs hF)
 | .clo f caps vs bs h=>.clo f caps vs bs (h.mono hs hF hb)
theorem Dj.mono{w w':World}{F F':Nat->Prop}{l:List V}{vs:List Value}{bs:List Nat}(h:Dj w F l vs bs)(hs:Av F w w')(hF:∀ b,F b->F' b)(hb:∀ b∈bs,w'.heap[b]?=w.heap[b]?):Dj w' F' l vs bs :=
 match h with
 | .nil=>.nil
 | .cons x v b l vs bs h hs'=>.cons x v b l vs bs (h.mono hs hF (λx hx=>hb x Tq)) (hs'.mono hs hF (λx hx=>hb x Tq))
end
end
section
variable {P:Program} {E:En} {g:Gh} {st:St} {w:World}
structure OF (g:Gh) (st:St) (g1:Gh) (st1:St):Prop where
 L:∀ r,st1.L r->st.L r
 lent:∀ s,st1.ob s=st.ob s\/((∃ c cs,st.ob s=some (c :: cs))/\st1.ob s=some [])
 ob:g1.ob=g.ob
 rw:g1.rw=g.rw
 F:∀ b,g1.F b->g.F b\/∃ r,st.L r/\¬ st1.L r/\(g.rw r).ownBlock=some b
 tm:st1.tm=st.tm
theorem OF.refl(g:Gh)(st:St):OF g st g st:=⟨λ_ h=>h,λ_=>.inl rfl,rfl,rfl,λ_ h=>.inl h,rfl⟩
theorem Ga.lnd{g1:Gh}{st1:St}(h:Ga g st g1 st1):OF g st g1 st1:=⟨h.L,λs=>.inl (by rw [h.eob]),h.ob,h.rw,h.F,h.tm⟩
theorem OF.trans{g1 g2 g3:Gh}{s1 s2 s3:St}(h:OF g1 s1 g2 s2)(k:OF g2 s2 g3 s3):OF g1 s1 g3 s3:=by
 refine ⟨λr hr=>h.L r (k.L r hr),λs=>?_,k.ob.trans h.ob,k.rw.trans h.rw,λb hb=>?_,k.tm.trans h.tm⟩
 ·rcases h.lent s with h1 | ⟨h1,h2⟩
  ·rcases k.lent s with h3 | ⟨h3,h4⟩
   ·exact .inl (h3.trans h1)
   ·exact .inr ⟨h1 ▸ h3,h4⟩
  ·rcases k.lent s with h3 | ⟨h3,h4⟩
   ·exact .inr ⟨h1,h3.trans h2⟩
   ·exact .inr ⟨h1,h4⟩
 ·rcases k.F b hb with h1 | ⟨r,h1,h2,h3⟩
  ·rcases h.F b h1 with h4 | ⟨r,h4,h5,h6⟩
   ·exact .inl h4
   ·exact .inr ⟨r,h4,λh7=>h5 (k.L r h7),h6⟩
  ·exact .inr ⟨r,h.L r h1,h2,by rw [<- h.rw]; exact h3⟩
theorem OF.O{g1:Gh}{st1:St}(h:OF g st g1 st1)(s:Nat):st1.O s↔st.O s:=by
 unfold St.O;rcases h.lent s with h1 | ⟨⟨c,cs,h1⟩,h2⟩
 ·rw [h1]
 ·rw [h1,h2]; simp
structure Tk (g:Gh) (st:St) (g1:Gh) (st1:St) (bs:List Nat):Prop where
 nodup:bs.Nodup
 nf:∀ b∈bs,¬ g1.F b
 of:∀ b∈bs,(∃ r,st.L r/\¬ st1.L r/\(g.rw r).ownBlock=some b)\/(∃ s,(∃ c cs,st.ob s=some (c :: cs))/\st1.ob s=some []/\g.ob s=b)
theorem Tk.nil(g:Gh)(st:St)(g1:Gh)(st1:St):Tk g st g1 st1 []:=⟨List.nodup_nil,by simp,by simp⟩
theorem Tk.app{g1 g2:Gh}{st1 st2:St}{bs bs':List Nat}(hM:gG E g st w)(h:Tk g st g1 st1 bs)(hs:OF g st g1 st1)(k:Tk g1 st1 g2 st2 bs')(ks:OF g1 st1 g2 st2):Tk g st g2 st2 (bs++bs'):=by
 have hO:∀ {s},(∃ c cs,st.ob s=some (c :: cs))->st.O s:=λ⟨c,cs,h⟩=>by simp [St.O,h]
 have up:∀ {s},(∃ c cs,st1.ob s=some (c :: cs))->∃ c cs,st.ob s=some (c :: cs):=λ{s} ⟨c,cs,h1⟩=>by
  rcases hs.lent s with h2 | ⟨h2,_⟩
  ·exact ⟨c,cs,h2 ▸ h1⟩
  ·exact h2
 -- a block of the first ones is none of a row that lives on
 have apart:∀ b∈bs,∀ r,st1.L r->(g.rw r).ownBlock≠some b:=λb hb r hr he=>by
  rcases h.of b hb with ⟨r',h1,h2,h3⟩ | ⟨s,h1,_,h3⟩
  ·exact h2 (hM.rowne r r' b (hs.L r hr) h1 he h3 ▸ hr)
  ·exact hM.rowob r s (hs.L r hr) (hO h1) (h3 ▸ he)
 refine ⟨List.nodup_append.2 ⟨h.nodup,k.nodup,λb hb b' hb' he=>?_⟩,λb hb=>?_,λb hb=>?_⟩
 ·subst he;rcases k.of b hb' with ⟨r,h1,_,h3⟩ | ⟨s,h1,_,h3⟩
  ·exact apart b hb r h1 (by rw [<- hs.rw]; exact h3)
  ·rw [hs.ob] at h3;rcases h.of b hb with ⟨r',h4,_,h6⟩ | ⟨s',h4,h5,h6⟩
   ·exact hM.rowob r' s h4 (hO (up h1)) (h3 ▸ h6)
   ·have:=hM.obne s s' (hO (up h1)) (hO h4) (h3.trans h6.symm);subst this;obtain ⟨c,cs,h1⟩:=h1;rw [h5] at h1
    cases h1
 ·rcases An.1 hb with hb | hb
  ·intro hf;rcases ks.F b hf with h1 | ⟨r,h1,_,h3⟩
   ·exact h.nf b hb h1
   ·exact apart b hb r h1 (by rw [<- hs.rw]; exact h3)
  ·exact k.nf b hb
 ·rcases An.1 hb with hb | hb
  ·rcases h.of b hb with ⟨r,h1,h2,h3⟩ | ⟨s,h1,h2,h3⟩
   ·exact .inl ⟨r,h1,λhr=>h2 (ks.L r hr),h3⟩
   ·refine .inr ⟨s,h1,?_,h3⟩;rcases ks.lent s with h4 | ⟨_,h4⟩
    ·rw [h4,h2]
    ·exact h4
  ·rcases k.of b hb with ⟨r,h1,h2,h3⟩ | ⟨s,h1,h2,h3⟩
   ·exact .inl ⟨r,hs.L r h1,h2,by rw [<- hs.rw]; exact h3⟩
   ·exact .inr ⟨s,up h1,h2,by rw [<- hs.ob]; exact h3⟩
theorem Ga.gone(r:Nat):Ga g st g { st with rw:=jr st.rw r (some .gone) }:=by
 refine ⟨λr' hr'=>?_,rfl,rfl,rfl,λ_ h=>.inl h,rfl⟩;rcases AM.1 hr' with ⟨rfl,_,_,_,hx⟩ | ⟨_,h3⟩
 ·cases hx
 ·exact h3
theorem U1{α:Type}{st':St}{m:Bool}{x:A}{k:C->MA α}{y:α}{v:Value}(hM:gG E g st w)(hv:VR w g st.O st.R x v)(h:(x.toC m k).run st=some (y,st')) :
  ∃ c st1 g1 bs,gG E g1 st1 w/\th w w g g1 st.O st.R st1.O st1.R/\Ga g st g1 st1/\(k c).run st1=some (y,st')/\CV w g1.F c v bs/\Tk g st g1 st1 bs:=by
 have frz:(x.toT λx=>k (.t x)).run st=some (y,st')->∃ c st1 g1 bs,gG E g1 st1 w/\th w w g g1 st.O st.R st1.O st1.R/\Ga g st g1 st1/\(k c).run st1=some (y,st')/\CV w g1.F c v bs/\Tk g st g1 st1 bs:=by
  intro h;obtain ⟨t,st1,g1,hM1,hE1,hs1,h1,hr,ho⟩:=Qj hM hv h;exact ⟨_,st1,g1,[],hM1,hE1,hs1,h1,.t t v hr,Tk.nil _ _ _ _⟩
 unfold A.toC at h
 split at h
 ·rename_i r;simp only [MA.run] at h;have hgv:v=g.rw r:=by cases hv; rfl
  subst hgv
  cases hx:st.rw r with
  | none=>simp [hx,MA.run] at h
  | some xx =>
   cases xx with
   | live e sz rows =>
    simp only [hx,MA.run] at h;obtain ⟨hM1,hE1⟩:=hM.gone_row r _ hx;have hL:st.L r:=⟨_,_,_,hx⟩;obtain ⟨inner,hown,hR,hf⟩:=(hM.row r _ hx).rcs;refine ⟨_,_,g,(g.rw r).ownBlock.toList,hM1,hE1,Ga.gone r,h,.ow e sz rows _ inner hown hR,?_,λb hb=>?_,λb hb=>?_⟩
    ·cases (g.rw r).ownBlock <;> simp
    ·exact (hM.row_nf hL (by simpa using hb)).1
    ·refine .inl ⟨r,hL,λhl=>?_,by simpa using hb⟩;rcases AM.1 hl with ⟨_,_,_,_,hx⟩ | ⟨h3,_⟩
     ·cases hx
     ·exact h3 rfl
   | frz sz rows =>
    simp only [hx] at h;exact ⟨_,st,g,[],hM,th.refl _ _ _ _,Ga.refl _ _,h,.t _ _ (hM.row r _ hx),Tk.nil _ _ _ _⟩
   | gone=>simp [hx,MA.run] at h
 ·cases hv with
  | nil=>exact ⟨_,st,g,[],hM,th.refl _ _ _ _,Ga.refl _ _,h,.nil,Tk.nil _ _ _ _⟩
 ·exact frz h
theorem MG{α:Type}{st':St}{m:Bool}:∀ {l:List A} {st:St} {g:Gh} {k:List C->MA α} {y:α} {vs:List Value},gG E g st w->vs.length=l.length->(∀ (j:Nat) (x:A),l[j]?=some x->∃ u,vs[j]?=some u/\VR w g st.O st.R x u)->(Gd m l k).run st=some (y,st') ->
  ∃ cs st1 g1 bs,gG E g1 st1 w/\th w w g g1 st.O st.R st1.O st1.R/\Ga g st g1 st1/\(k cs).run st1=some (y,st')/\Ps w g1.F cs vs bs/\Tk g st g1 st1 bs
 | [],st,g,k,y,vs,hM,hl,hv,h=>by
  have:vs=[]:=zQW hl;subst this;exact ⟨[],st,g,[],hM,th.refl _ _ _ _,Ga.refl _ _,h,.nil,Tk.nil _ _ _ _⟩
 | x :: l,st,g,k,y,vs,hM,hl,hv,h=>by
  obtain ⟨v,vs,rfl⟩:∃ v vs',vs=v :: vs':=by
   cases vs with
   | nil=>simp at hl
   | cons v vs=>exact ⟨v,vs,rfl⟩
  obtain ⟨u,hu,hx⟩:=hv 0 x rfl;simp at hu;subst hu;obtain ⟨c,st1,g1,b1,hM1,hE1,hs1,h1,hc1,ht1⟩:=U1 hM hx h;obtain ⟨cs,st2,g2,b2,hM2,hE2,hs2,h2,hc2,ht2⟩:=MG hM1 Tw (λj y hy=>by
   obtain ⟨u,hu,hx⟩:=hv (j+1) y Tx;exact ⟨u,by simpa using hu,hx.mono hE1⟩) h1
  exact ⟨c :: cs,st2,g2,b1++b2,hM2,hE1.trans hE2,hs1.trans hs2,h2,.cons _ _ _ _ _ _ (hc1.mono hE2.same hE2.F (λ_ _=>rfl)) hc2,ht1.app hM hs1.lnd ht2 hs2.lnd⟩
theorem Ck{α:Type}{st':St}{s:Nat}{k:List C->MA α}{y:α}(hM:gG E g st w)(h:(Dx s k).run st=some (y,st')) :
  ∃ cs st1 g1 bs,gG E g1 st1 w/\th w w g g1 st.O st.R st1.O st1.R/\OF g st g1 st1/\(k cs).run st1=some (y,st')/\VV w g1.F (.ptr cs) (.pointer (some ⟨g.ob s,0,none⟩)) bs/\Tk g st g1 st1 bs/\∀ s',s'≠s->st1.ob s'=st.ob s':=by
 unfold Dx at h;simp only [MA.run] at h
 split at h
 rotate_left
 ·exact (aJ h).elim
 rename_i c cells hc;obtain ⟨arr,e,hh,hl,hv,hnf⟩:=hM.ob s _ hc;have hO:st.O s:=by simp [St.O,hc]
 have hvl:(arr.toList.take (c :: cells).length).length=(c :: cells).length:=by
  rw [zQx,zQv]; exact zWq hl
 obtain ⟨cs,st1,g1,b1,hM1,hE1,hs1,h1,hc1,ht1⟩:=MG (vs:=arr.toList.take (c :: cells).length) hM hvl (λj x hj=>by
  obtain ⟨_,u,hu,hr⟩:=hv j x hj;refine ⟨u,?_,hr⟩;rw [zQK,if_pos (sr.1 hj).1]
  simpa using hu) h
 simp only [MA.run] at h1;have hc1':st1.ob s=some (c :: cells):=by rw [hs1.eob,hc]
 have hob1:g1.ob s=g.ob s:=by rw [hs1.ob]
 obtain ⟨hM2,hE2⟩:=hM1.set_ob (w':=w) (rc.refl w) s _ [] arr e hc1' (by rw [hob1]; exact hh) (λ_ _ _=>rfl) kU kU;have hlnd:OF g1 st1 g1 { st1 with ob:=jr st1.ob s (some []) }:=⟨λ_ h=>h,λs'=>by
  by_cases he:s'=s
  ·subst he; exact .inr ⟨⟨c,cells,hc1'⟩,ig _ _ _⟩
  ·exact .inl (fu _ _ _ _ he),rfl,rfl,λ_ h=>.inl h,rfl⟩
 have hTk:Tk g1 st1 g1 { st1 with ob:=jr st1.ob s (some []) } [g.ob s]:=⟨by simp,λb hb=>by
  simp only [zQy] at hb;subst hb;exact hob1 ▸ (hM1.ob_nf (by simp [St.O,hc1'])).1,λb hb=>by
  simp only [zQy] at hb;exact .inr ⟨s,⟨c,cells,hc1'⟩,ig _ _ _,hob1.trans hb.symm⟩⟩
 have hT:=ht1.app hM hs1.lnd hTk hlnd;refine ⟨cs,_,g1,g.ob s :: b1,hM2,hE1.trans hE2,hs1.lnd.trans hlnd,h1,.ptr cs _ arr e _ b1 hh (by rw [hvl]) (by rw [hvl]; exact hl) hc1,⟨?_,λb hb=>hT.nf b ?_,λb hb=>hT.of b ?_⟩,λs' hs'=>(fu _ _ _ _ hs').trans (by rw [hs1.eob])⟩
 ·have:=hT.nodup;rw [zXk] at this;rw [List.nodup_cons];exact ⟨λhm=>this.2.2 _ hm _ kU rfl,this.1⟩
 ·rcases aaa.1 hb with rfl | hb <;> simp [*]
 ·rcases aaa.1 hb with rfl | hb <;> simp [*]
mutual
theorem Qk{α:Type}{st':St}{m:Bool}:∀ (x:A) {st:St} {g:Gh} {k:V->MA α} {y:α} {v:Value},gG E g st w->VR w g st.O st.R x v->(q6 m x k).run st=some (y,st') ->
  ∃ c st1 g1 bs,gG E g1 st1 w/\th w w g g1 st.O st.R st1.O st1.R/\Ga g st g1 st1/\(k c).run st1=some (y,st')/\VV w g1.F c v bs/\Tk g st g1 st1 bs/\∀ c',c≠.ptr c':=by
 intro x st g k y v hM hv h;have cell:(x.toC m λc=>k (.one c)).run st=some (y,st')->∃ c st1 g1 bs,gG E g1 st1 w/\th w w g g1 st.O st.R st1.O st1.R/\Ga g st g1 st1/\(k c).run st1=some (y,st')/\VV w g1.F c v bs/\Tk g st g1 st1 bs/\∀ c',c≠.ptr c':=by
  intro h;obtain ⟨c,st1,g1,bs,hM1,hE1,hs1,h1,hc,ht⟩:=U1 hM hv h;exact ⟨_,st1,g1,bs,hM1,hE1,hs1,h1,.one c v bs hc,ht,by simp⟩
 unfold q6 at h
 split at h
 ·rename_i l
  cases hv with
  | agg l vs hl hx =>
   obtain ⟨cs,st1,g1,bs,hM1,hE1,hs1,h1,hc,ht⟩:=MG hM hl.symm (λj x hj=>⟨_,sX (by rw [<- hl]; exact (sr.1 hj).1),hx j x _ hj (sX (by rw [<- hl]; exact (sr.1 hj).1))⟩) h;exact ⟨_,st1,g1,bs,hM1,hE1,hs1,h1,.agg cs vs bs hc,ht,by simp⟩
 ·rename_i ts
  cases hv with
  | fadr cells b off u hF hx hr=>exact ⟨_,st,g,[],hM,th.refl _ _ _ _,Ga.refl _ _,h,.fptr ts b off u hF hx hr,Tk.nil _ _ _ _,by simp⟩
 ·rename_i f caps
  cases hv with
  | clo f caps vs hl hx =>
   obtain ⟨cs,st1,g1,bs,hM1,hE1,hs1,h1,hc,ht⟩:=MH caps hM hl.symm (λj x hj=>⟨_,sX (by rw [<- hl]; exact (sr.1 hj).1),hx j x _ hj (sX (by rw [<- hl]; exact (sr.1 hj).1))⟩) h;exact ⟨_,st1,g1,bs,hM1,hE1,hs1,h1,.clo f cs vs bs hc,ht,by simp⟩
 ·rename_i l
  cases hv with
  | tup l vs hl hx =>
   obtain ⟨cs,st1,g1,bs,hM1,hE1,hs1,h1,hc,ht⟩:=MH l hM hl.symm (λj x hj=>⟨_,sX (by rw [<- hl]; exact (sr.1 hj).1),hx j x _ hj (sX (by rw [<- hl]; exact (sr.1 hj).1))⟩) h;exact ⟨_,st1,g1,bs,hM1,hE1,hs1,h1,.tup cs vs bs hc,ht,by simp⟩
 ·exact cell h
theorem MH{α:Type}{st':St}{m:Bool}:∀ (l:List A) {st:St} {g:Gh} {k:List V->MA α} {y:α} {vs:List Value},gG E g st w->vs.length=l.length->(∀ (j:Nat) (x:A),l[j]?=some x->∃ u,vs[j]?=some u/\VR w g st.O st.R x u)->(Ci m l k).run st=some (y,st') ->
  ∃ cs st1 g1 bs,gG E g1 st1 w/\th w w g g1 st.O st.R st1.O st1.R/\Ga g st g1 st1/\(k cs).run st1=some (y,st')/\Dj w g1.F cs vs bs/\Tk g st g1 st1 bs
 | [],st,g,k,y,vs,hM,hl,hv,h=>by
  have:vs=[]:=zQW hl;subst this;unfold Ci at h;exact ⟨[],st,g,[],hM,th.refl _ _ _ _,Ga.refl _ _,h,.nil,Tk.nil _ _ _ _⟩
 | x :: l,st,g,k,y,vs,hM,hl,hv,h=>by
  obtain ⟨v,vs,rfl⟩:∃ v vs',vs=v :: vs':=by
   cases vs with
   | nil=>simp at hl
   | cons v vs=>exact ⟨v,vs,rfl⟩
  obtain ⟨u,hu,hx⟩:=hv 0 x rfl;simp at hu;subst hu;unfold Ci at h;obtain ⟨c,st1,g1,b1,hM1,hE1,hs1,h1,hc1,ht1,_⟩:=Qk x hM hx h;obtain ⟨cs,st2,g2,b2,hM2,hE2,hs2,h2,hc2,ht2⟩:=MH l hM1 Tw (λj y hy=>by
   obtain ⟨u,hu,hx⟩:=hv (j+1) y Tx;exact ⟨u,by simpa using hu,hx.mono hE1⟩) h1
  exact ⟨c :: cs,st2,g2,b1++b2,hM2,hE1.trans hE2,hs1.trans hs2,h2,.cons _ _ _ _ _ _ (hc1.mono hE2.same hE2.F (λ_ _=>rfl)) hc2,ht1.app hM hs1.lnd ht2 hs2.lnd⟩
end
inductive tN (g:Gh):List A->List V->List Value->Prop
 | nil:tN g [] [] []
 | obj (s:Nat) (cs:List C) (ln:List A) (vs:List V) (us:List Value) (h:tN g ln vs us):tN g (.obj s 0 :: ln) (.ptr cs :: vs) (.pointer (some ⟨g.ob s,0,none⟩) :: us)
 | oth (a:A) (x:V) (u:Value) (ln:List A) (vs:List V) (us:List Value) (ha:∀ s,a≠.obj s 0) (hx:∀ c,x≠.ptr c) (h:tN g ln vs us):tN g (a :: ln) (x :: vs) (u :: us)
theorem tN.congr{g g1:Gh}(e:g1.ob=g.ob){ln:List A}{vs:List V}{us:List Value}(h:tN g1 ln vs us):tN g ln vs us:=by
 induction h with
 | nil=>exact .nil
 | obj s cs ln vs us h ih=>rw [e]; exact .obj s cs ln vs us ih
 | oth a x u ln vs us ha hx h ih=>exact .oth a x u ln vs us ha hx ih
theorem tN.congr'{g g1:Gh}(e:g1.ob=g.ob){ln:List A}{vs:List V}{us:List Value}(h:tN g ln vs us):tN g1 ln vs us:=h.congr e.symm
theorem ED{a:A}{r:List A}(h:∀ s,a≠.obj s 0):fL (a :: r)=fL r:=by
 cases a with
 | obj s o =>
  cases o with
  | zero=>exact absurd rfl (h s)
  | succ o=>rfl
 | _=>rfl
theorem Pt:∀ {l:List A} {ts:List T},RS l=some ts->l=ts.map A.t
 | [],ts,h=>by simp [RS] at h; subst h; rfl
 | x :: l,ts,h=>by
  unfold RS at h
  split at h
  ·rename_i heq; cases heq
  ·rename_i y r heq;injection heq with h1 h2
   subst h1 h2
   split at h
   ·rename_i l' hl
    cases h
    rw [Pt hl]; rfl
   ·cases h
  ·cases h
theorem U2{α:Type}{y:α}{st':St}:∀ (ts:List T) (k:List C->MA α) (st:St),(Gd true (ts.map A.t) k).run st=(k (ts.map C.t)).run st
 | [],k,st=>rfl
 | t :: ts,k,st=>by
  simp only [zWh,Gd,A.toC,A.toT];exact U2 (y:=y) (st':=st') ts _ st
theorem RT{α:Type}{st':St}{s:Nat}{k:List C->MA α}{y:α}(hM:gG E g st w)(h:(Hz s k).run st=some (y,st')) :
  ∃ cs st1 g1 bs,gG E g1 st1 w/\th w w g g1 st.O st.R st1.O st1.R/\OF g st g1 st1/\(k cs).run st1=some (y,st')/\VV w g1.F (.ptr cs) (.pointer (some ⟨g.ob s,0,none⟩)) bs/\Tk g st g1 st1 bs/\∀ s',s'≠s->st1.ob s'=st.ob s':=by
 apply Ck hM
 unfold Hz at h;unfold Dx;simp only [MA.run] at h ⊢
 split at h
 ·rename_i c cells hc
  split at h
  ·rename_i ts hts;have:=Pt hts;rw [this,U2 (y:=y) (st':=st')];exact h
  ·exact (aJ h).elim
 ·exact (aJ h).elim
theorem W6{α:Type}{st':St}{b:Bool}{s:Nat}{k:List C->MA α}{y:α}(hM:gG E g st w)(h:(if b then Hz s k else Dx s k).run st=some (y,st')) :
  ∃ cs st1 g1 bs,gG E g1 st1 w/\th w w g g1 st.O st.R st1.O st1.R/\OF g st g1 st1/\(k cs).run st1=some (y,st')/\VV w g1.F (.ptr cs) (.pointer (some ⟨g.ob s,0,none⟩)) bs/\Tk g st g1 st1 bs/\∀ s',s'≠s->st1.ob s'=st.ob s':=by
 cases b with
 | true=>exact RT hM h
 | false=>exact Ck hM h
theorem zw{α:Type}{st':St}{m:Bool}{p:Nat->Bool}:∀ (l:List A) {st:St} {g:Gh} {k:List V->MA α} {y:α} {vs:List Value},gG E g st w->vs.length=l.length->(∀ (j:Nat) (x:A),l[j]?=some x->∃ u,vs[j]?=some u/\VR w g st.O st.R x u)->(kf m p l k).run st=some (y,st') ->
  ∃ cs st1 g1 bs,gG E g1 st1 w/\th w w g g1 st.O st.R st1.O st1.R/\OF g st g1 st1/\(k cs).run st1=some (y,st')/\Dj w g1.F cs vs bs/\Tk g st g1 st1 bs/\tN g l cs vs/\∀ s,st1.ob s≠st.ob s->s∈fL l
 | [],st,g,k,y,vs,hM,hl,hv,h=>by
  have:vs=[]:=zQW hl;subst this;exact ⟨[],st,g,[],hM,th.refl _ _ _ _,OF.refl _ _,h,.nil,Tk.nil _ _ _ _,.nil,λs h=>absurd rfl h⟩
 | x :: l,st,g,k,y,vs,hM,hl,hv,h=>by
  obtain ⟨v,vs,rfl⟩:∃ v vs',vs=v :: vs':=by
   cases vs with
   | nil=>simp at hl
   | cons v vs=>exact ⟨v,vs,rfl⟩
  obtain ⟨u,hu,hx⟩:=hv 0 x rfl;simp at hu;subst hu;have hrest:∀ {st1:St} {g1:Gh},th w w g g1 st.O st.R st1.O st1.R->∀ (j:Nat) (y:A),l[j]?=some y->∃ u,vs[j]?=some u/\VR w g1 st1.O st1.R y u:=λhE1 j y hy=>by
   obtain ⟨u,hu,hx⟩:=hv (j+1) y Tx;exact ⟨u,by simpa using hu,hx.mono hE1⟩
  unfold kf at h
  split at h
  ·rename_i heq; cases heq
  ·rename_i s r heq;injection heq with h1 h2
   subst h1 h2
   cases hx with
   | obj s off hs =>
    obtain ⟨c,st1,g1,b1,hM1,hE1,hs1,h1,hc1,ht1,hoo⟩:=W6 hM h;obtain ⟨cs,st2,g2,b2,hM2,hE2,hs2,h2,hc2,ht2,hA,hsl⟩:=zw l hM1 Tw (hrest hE1) h1;refine ⟨.ptr c :: cs,st2,g2,b1++b2,hM2,hE1.trans hE2,hs1.trans hs2,h2,.cons _ _ _ _ _ _ (hc1.mono hE2.same hE2.F (λ_ _=>rfl)) hc2,ht1.app hM hs1 ht2 hs2,.obj s c l cs vs ?_,λs' hs'=>?_⟩
    ·exact hA.congr hs1.ob
    ·simp only [fL,zYx]
     by_cases he:st2.ob s'=st1.ob s'
     ·rw [he] at hs'
      by_cases h9:s'=s
      ·exact .inl h9
      ·exact absurd (hoo s' h9) hs'
     ·exact .inr (hsl s' he)
  ·rename_i a r hna heq;injection heq with h1 h2
   subst h1 h2;obtain ⟨c,st1,g1,b1,hM1,hE1,hs1,h1,hc1,ht1,hnp⟩:=Qk _ hM hx h;obtain ⟨cs,st2,g2,b2,hM2,hE2,hs2,h2,hc2,ht2,hA,hsl⟩:=zw l hM1 Tw (hrest hE1) h1;refine ⟨c :: cs,st2,g2,b1++b2,hM2,hE1.trans hE2,hs1.lnd.trans hs2,h2,.cons _ _ _ _ _ _ (hc1.mono hE2.same hE2.F (λ_ _=>rfl)) hc2,ht1.app hM hs1.lnd ht2 hs2,.oth _ _ _ _ _ _ (λs he=>hna s he) hnp ?_,λs' hs'=>?_⟩
   ·exact hA.congr hs1.ob
   ·rw [ED (λs he=>hna s he)];exact hsl s' (by rw [hs1.eob]; exact hs')
end
def tO{α:Type}:Nat->List V->(List A->MA α)->MA α
 | _,[],k=>k []
 | i,v :: r,k=>V.toA (900+i) ((900+i)*65536) v λx=>tO (i+1) r λxs=>k (x :: xs)
section
variable {P:Program} {E:En} {w:World}
structure Ft (E:En) (g:Gh) (st:St) (b:Nat):Prop where
 F:¬ g.F b
 ob:∀ s,st.O s->g.ob s≠b
 row:∀ r,st.L r->(g.rw r).ownBlock≠some b
 X:E.w0.heap.size<=b\/E.X b
structure Gv (E:En) (w:World) (g:Gh) (st:St) (g1:Gh) (st1:St) (bs:List Nat):Prop where
 mem:gG E g1 st1 w
 ext:th w w g g1 st.O st.R st1.O st1.R
 F:g1.F=g.F
 tm:st1.tm=st.tm
 fr:∀ b,Ft E g st b->b∉bs->Ft E g1 st1 b
theorem Gv.refl{g:Gh}{st:St}(h:gG E g st w):Gv E w g st g st []:=⟨h,th.refl _ _ _ _,rfl,rfl,λ_ h _=>h⟩
theorem Gv.trans{g g1 g2:Gh}{st st1 st2:St}{b1 b2:List Nat}(h:Gv E w g st g1 st1 b1)(k:Gv E w g1 st1 g2 st2 b2):Gv E w g st g2 st2 (b1++b2) :=
 ⟨k.mem,h.ext.trans k.ext,k.F.trans h.F,k.tm.trans h.tm,λb hf hb=>k.fr b (h.fr b hf (λhx=>hb Tq)) (λhx=>hb Tq)⟩
structure Gc (g:Gh) (st:St) (g1:Gh) (st1:St) (bs:List Nat):Prop where
 eob:st1.ob=st.ob
 ob:g1.ob=g.ob
 rows:∀ r b,st1.L r->(g1.rw r).ownBlock=some b->b∈bs\/(st.L r/\(g.rw r).ownBlock=some b)
theorem Gc.refl(g:Gh)(st:St):Gc g st g st []:=⟨rfl,rfl,λ_ _ h1 h2=>.inr ⟨h1,h2⟩⟩
theorem Gc.trans{g g1 g2:Gh}{st st1 st2:St}{b1 b2:List Nat}(h:Gc g st g1 st1 b1)(k:Gc g1 st1 g2 st2 b2):Gc g st g2 st2 (b1++b2) :=
 ⟨k.eob.trans h.eob,k.ob.trans h.ob,λr b h1 h2=>by
  rcases k.rows r b h1 h2 with h3 | ⟨h3,h4⟩
  ·exact .inl (by simp [h3])
  ·rcases h.rows r b h3 h4 with h5 | h5
   ·exact .inl (by simp [h5])
   ·exact .inr h5⟩
theorem Pv{α:Type}{st':St}{g:Gh}{st:St}{d id:Nat}{c:C}{k:A->MA α}{y:α}{v:Value}{bs:List Nat}(hM:gG E g st w)(hc:CV w g.F c v bs)(hf:∀ b∈bs,Ft E g st b)(h:(c.toA d id k).run st=some (y,st')) :
  ∃ a st1 g1,Gv E w g st g1 st1 bs/\Gc g st g1 st1 bs/\(k a).run st1=some (y,st')/\VR w g1 st1.O st1.R a v/\a.one=true:=by
 cases hc with
 | t x v hr=>exact ⟨_,st,g,Gv.refl hM,Gc.refl _ _,h,.t x v hr,rfl⟩
 | nil=>exact ⟨_,st,g,Gv.refl hM,Gc.refl _ _,h,.nil,rfl⟩
 | ow e sz rows v inner hown hR =>
  simp only [C.toA] at h
  split at h
  rotate_left
  ·exact (aJ h).elim
  simp only [MA.run] at h
  cases hx:st.rw id with
  | some xx=>simp [hx,MA.run] at h
  | none =>
   simp only [hx,MA.run] at h;have hff:∀ b,v.ownBlock=some b->Ft E g st b:=λb hb=>hf b (by simp [hb]);have hrow:sS E.w0 w E.X g.F v (.live e sz rows):=hR.rowAt (E:=E) (g:=g) hown (λb hb=>⟨(hff b hb).F,(hff b hb).X⟩);obtain ⟨hM1,hE1⟩:=hM.new_row (w':=w) (rc.refl w) id hx v e sz rows (λb=>v.ownBlock=some b) (λ_ _ _=>rfl) (λ_ h=>h) (λb h1 hp=>(hff b hp).X.elim (λh2=>by omega) (λh2=>h2))
    (λb hb=>⟨(hff b hb).F,λs hs he=>(hff b hb).ob s hs he,(hff b hb).row⟩) hrow
   refine ⟨_,_,_,⟨hM1,hE1,rfl,rfl,λb hfb hnb=>⟨hfb.F,hfb.ob,λr hr=>?_,hfb.X⟩⟩,⟨rfl,rfl,λr b hr hb=>?_⟩,h,?_,rfl⟩
   ·rcases AM.1 hr with ⟨rfl,_⟩ | ⟨h3,h4⟩
    ·simp only [ig]; intro he; exact hnb (by simp [he])
    ·simp only [fu _ _ _ _ h3]; exact hfb.row r h4
   ·rcases AM.1 hr with ⟨rfl,_⟩ | ⟨h3,h4⟩
    ·simp only [ig] at hb; exact .inl (by simp [hb])
    ·simp only [fu _ _ _ _ h3] at hb; exact .inr ⟨h4,hb⟩
   ·have:=VR.own (w:=w) (g:={ g with rw:=jr g.rw id v }) (O:=({ st with rw:=jr st.rw id (some (.live e sz rows)) }:St).O) (R:=({ st with rw:=jr st.rw id (some (.live e sz rows)) }:St).R) id (Pm.2 (.inl rfl))
    simpa only [ig] using this
theorem Cl{α:Type}{st':St}{d:Nat}:∀ {cs:List C} {id:Nat} {g:Gh} {st:St} {k:List A->MA α} {y:α} {vs:List Value} {bs:List Nat},gG E g st w->Ps w g.F cs vs bs->bs.Nodup->(∀ b∈bs,Ft E g st b)->(I9 d id cs k).run st=some (y,st') ->
  ∃ ln st1 g1,Gv E w g st g1 st1 bs/\Gc g st g1 st1 bs/\(k ln).run st1=some (y,st')/\ln.length=vs.length/\∀ (j:Nat) (x:A),ln[j]?=some x->x.one=true/\∃ u,vs[j]?=some u/\VR w g1 st1.O st1.R x u
 | [],id,g,st,k,y,vs,bs,hM,hc,hn,hf,h=>by
  cases hc
  exact ⟨[],st,g,Gv.refl hM,Gc.refl _ _,h,rfl,by simp⟩
 | c :: cs,id,g,st,k,y,vs,bs,hM,hc,hn,hf,h=>by
  cases hc with
  | cons c v b cs vs bs h1 h2 =>
   rw [zXk] at hn;obtain ⟨a,st1,g1,hG1,hc1,h3,hv,ho⟩:=Pv hM h1 (λx hx=>hf x Tq) h;obtain ⟨ln,st2,g2,hG2,hc2,h4,hl,hx⟩:=Cl hG1.mem (hG1.F ▸ h2) hn.2.1 (λx hx=>hG1.fr x (hf x Tq) (λhb=>hn.2.2 x hb x hx rfl)) h3;refine ⟨a :: ln,st2,g2,hG1.trans hG2,hc1.trans hc2,h4,by simp [hl],λj x hj=>?_⟩
   cases j with
   | zero=>simp at hj; subst hj; exact ⟨ho,v,rfl,hv.mono hG2.ext⟩
   | succ j=>simpa using hx j x WN
theorem gG.give_ob{g:Gh}{st:St}(h:gG E g st w)(d:Nat)(hd:st.ob d=none)(cells:List A)(b:Nat)(arr:Array Value)(e:TypeId)(hh:w.heap[b]?=some (.cells arr e (0,0)))(hl:cells.length<=arr.size)
  (hv:∀ (j:Nat) (x:A),cells[j]?=some x->x.one=true/\∃ v,arr[j]?=some v/\VR w g st.O st.R x v) (hf:Ft E g st b) :
  Gv E w g st { g with ob:=jr g.ob d b } { st with ob:=jr st.ob d (some cells) } [b]:=by
 have hnd:¬ st.O d:=by simp [St.O,hd]
 have hne:∀ s,st.O s->s≠d:=λs hs he=>hnd (he ▸ hs);obtain ⟨hM,hE⟩:=h.step (w':=w) (g':={ g with ob:=jr g.ob d b }) (st':={ st with ob:=jr st.ob d (some cells) }) (rc.refl w) (λ_=>False) (λb h1 _=>rfl) (λ_ h=>h.elim) (λ_ _ h=>h.elim) (λ_ h=>h) (λ_ h1 h2=>absurd h1 h2)
  (λs hs=>⟨O_upd.2 (.inr hs),fu _ _ _ _ (hne s hs)⟩) (λ_ h=>⟨h,rfl⟩) (λs c hs=>by
   by_cases hsd:s=d
   ·subst hsd;simp only [ig,Option.some.injEq] at hs ⊢;subst hs;exact .inr ⟨arr,e,hh,hl,hv,hf.F,hf.X⟩
   ·simp only [fu _ _ _ _ hsd] at hs;exact .inl ⟨hs,id,(h.ob_nf WQ).1⟩) (λs s' hs hs' he=>by
   rcases O_upd.1 hs with rfl | h1
   ·rcases O_upd.1 hs' with rfl | h2
    ·rfl
    ·simp only [ig,fu _ _ _ _ (hne _ h2)] at he;exact absurd he.symm (hf.ob _ h2)
   ·rcases O_upd.1 hs' with rfl | h2
    ·simp only [ig,fu _ _ _ _ (hne _ h1)] at he;exact absurd he (hf.ob _ h1)
    ·simp only [fu _ _ _ _ (hne _ h1),fu _ _ _ _ (hne _ h2)] at he;exact h.obne _ _ h1 h2 he) (λr x hr=>.inl ⟨hr,λhL b hb'=>⟨id,(h.row_nf hL hb').1⟩⟩) h.rowne (λr s hr hs=>by
   rcases O_upd.1 hs with rfl | h1
   ·simp only [ig]; exact hf.row r hr
   ·simp only [fu _ _ _ _ (hne _ h1)]; exact h.rowob r s hr h1)
 refine ⟨hM,hE,rfl,rfl,λb' hfb hnb=>⟨hfb.F,λs hs=>?_,hfb.row,hfb.X⟩⟩;rcases O_upd.1 hs with rfl | h1
 ·simp only [ig]; intro he; exact hnb (by simp [he])
 ·simp only [fu _ _ _ _ (hne _ h1)]; exact hfb.ob s h1
mutual
theorem zx{α:Type}{st':St}{d:Nat}:∀ (x:V) {id:Nat} {g:Gh} {st:St} {k:A->MA α} {y:α} {v:Value} {bs:List Nat},gG E g st w->VV w g.F x v bs->bs.Nodup->(∀ b∈bs,Ft E g st b)->(V.toA d id x k).run st=some (y,st') ->
  ∃ a st1 g1,Gv E w g st g1 st1 bs/\(k a).run st1=some (y,st')/\VR w g1 st1.O st1.R a v
 | .one c,id,g,st,k,y,v,bs,hM,hv,hn,hf,h=>by
  unfold V.toA at h
  cases hv with
  | one c v bs hc =>
   obtain ⟨a,st1,g1,hG,_,h1,hr,_⟩:=Pv hM hc hf h;exact ⟨a,st1,g1,hG,h1,hr⟩
 | .agg l,id,g,st,k,y,v,bs,hM,hv,hn,hf,h=>by
  unfold V.toA at h
  cases hv with
  | agg l vs bs hc =>
   obtain ⟨ln,st1,g1,hG,_,h1,hl,hx⟩:=Cl hM hc hn hf h;exact ⟨_,st1,g1,hG,h1,.agg ln vs hl (λi x v hi hv=>by
    obtain ⟨_,u,hu,hr⟩:=hx i x hi;rw [hv] at hu; cases hu; exact hr)⟩
 | .tup l,id,g,st,k,y,v,bs,hM,hv,hn,hf,h=>by
  unfold V.toA at h
  cases hv with
  | tup l vs bs hc =>
   obtain ⟨ln,st1,g1,hG,h1,hl,hx⟩:=Ge l hM hc hn hf h;exact ⟨_,st1,g1,hG,h1,.tup ln vs hl (λi x v hi hv=>by
    obtain ⟨u,hu,hr⟩:=hx i x hi;rw [hv] at hu; cases hu; exact hr)⟩
 | .ptr cells,id,g,st,k,y,v,bs,hM,hv,hn,hf,h=>by
  unfold V.toA at h
  cases hv with
  | ptr cells b arr e vs bs hb hl hle hc =>
   rw [List.nodup_cons] at hn;obtain ⟨ln,st1,g1,hG,_,h1,hll,hx⟩:=Cl hM hc hn.2 (λx hx=>hf x Tq) h;simp only [MA.run] at h1
   cases ho:st1.ob d with
   | some c=>simp [ho,MA.run] at h1
   | none =>
    simp only [ho,MA.run] at h1;have hG2:=hG.mem.give_ob d ho ln b arr e hb ak (λj x hj=>by
     obtain ⟨h2,u,hu,hr⟩:=hx j x hj;refine ⟨h2,u,?_,hr⟩;rw [hl,zQK] at hu
     split at hu
     ·simpa using hu
     ·cases hu) (hG.fr b (hf b kU) hn.1)
    refine ⟨_,_,_,⟨hG2.mem,hG.ext.trans hG2.ext,hG2.F.trans hG.F,hG2.tm.trans hG.tm,λb' hfb hnb=>hG2.fr b' (hG.fr b' hfb (λhx=>hnb Tq)) (λhx=>hnb (by simp at hx; simp [hx]))⟩,h1,?_⟩;have:=VR.obj (w:=w) (g:={ g1 with ob:=jr g1.ob d b }) (O:=({ st1 with ob:=jr st1.ob d (some ln) }:St).O) (R:=({ st1 with ob:=jr st1.ob d (some ln) }:St).R) d 0 (O_upd.2 (.inl rfl))
    simpa only [ig] using this
 | .fptr ts,id,g,st,k,y,v,bs,hM,hv,hn,hf,h=>by
  unfold V.toA at h
  cases hv with
  | fptr cells b off u hF hx hr=>exact ⟨_,st,g,Gv.refl hM,h,.fadr ts b off u hF hx hr⟩
 | .clo f caps,id,g,st,k,y,v,bs,hM,hv,hn,hf,h=>by
  unfold V.toA at h
  cases hv with
  | clo f caps vs bs hc =>
   obtain ⟨ln,st1,g1,hG,h1,hl,hx⟩:=Ge caps hM hc hn hf h;exact ⟨_,st1,g1,hG,h1,.clo f ln vs hl (λi x v hi hv=>by
    obtain ⟨u,hu,hr⟩:=hx i x hi;rw [hv] at hu; cases hu; exact hr)⟩
theorem Ge{α:Type}{st':St}{d:Nat}:∀ (l:List V) {id:Nat} {g:Gh} {st:St} {k:List A->MA α} {y:α} {vs:List Value} {bs:List Nat},gG E g st w->Dj w g.F l vs bs->bs.Nodup->(∀ b∈bs,Ft E g st b)->(Cj d id l k).run st=some (y,st') ->
  ∃ ln st1 g1,Gv E w g st g1 st1 bs/\(k ln).run st1=some (y,st')/\ln.length=vs.length/\∀ (j:Nat) (x:A),ln[j]?=some x->∃ u,vs[j]?=some u/\VR w g1 st1.O st1.R x u
 | [],id,g,st,k,y,vs,bs,hM,hc,hn,hf,h=>by
  unfold Cj at h
  cases hc
  exact ⟨[],st,g,Gv.refl hM,h,rfl,by simp⟩
 | c :: cs,id,g,st,k,y,vs,bs,hM,hc,hn,hf,h=>by
  unfold Cj at h
  cases hc with
  | cons c v b cs vs bs h1 h2 =>
   rw [zXk] at hn;obtain ⟨a,st1,g1,hG1,h3,hv⟩:=zx c hM h1 hn.1 (λx hx=>hf x Tq) h;obtain ⟨ln,st2,g2,hG2,h4,hl,hx⟩:=Ge cs hG1.mem (hG1.F ▸ h2) hn.2.1 (λx hx=>hG1.fr x (hf x Tq) (λhb=>hn.2.2 x hb x hx rfl)) h3;refine ⟨a :: ln,st2,g2,hG1.trans hG2,h4,by simp [hl],λj x hj=>?_⟩
   cases j with
   | zero=>simp at hj; subst hj; exact ⟨v,rfl,hv.mono hG2.ext⟩
   | succ j=>simpa using hx j x WN
end
theorem EE{α:Type}{st':St}:∀ (l:List V) {i:Nat} {g:Gh} {st:St} {k:List A->MA α} {y:α} {vs:List Value} {bs:List Nat},gG E g st w->Dj w g.F l vs bs->bs.Nodup->(∀ b∈bs,Ft E g st b)->(tO i l k).run st=some (y,st') ->
  ∃ ln st1 g1,Gv E w g st g1 st1 bs/\(k ln).run st1=some (y,st')/\ln.length=vs.length/\∀ (j:Nat) (x:A),ln[j]?=some x->∃ u,vs[j]?=some u/\VR w g1 st1.O st1.R x u
 | [],id,g,st,k,y,vs,bs,hM,hc,hn,hf,h=>by
  cases hc
  exact ⟨[],st,g,Gv.refl hM,h,rfl,by simp⟩
 | c :: cs,id,g,st,k,y,vs,bs,hM,hc,hn,hf,h=>by
  unfold tO at h
  cases hc with
  | cons c v b cs vs bs h1 h2 =>
   rw [zXk] at hn;obtain ⟨a,st1,g1,hG1,h3,hv⟩:=zx c hM h1 hn.1 (λx hx=>hf x Tq) h;obtain ⟨ln,st2,g2,hG2,h4,hl,hx⟩:=EE cs hG1.mem (hG1.F ▸ h2) hn.2.1 (λx hx=>hG1.fr x (hf x Tq) (λhb=>hn.2.2 x hb x hx rfl)) h3;refine ⟨a :: ln,st2,g2,hG1.trans hG2,h4,by simp [hl],λj x hj=>?_⟩
   cases j with
   | zero=>simp at hj; subst hj; exact ⟨v,rfl,hv.mono hG2.ext⟩
   | succ j=>simpa using hx j x WN
end
def fa{α:Type}(d:Nat):List Nat->List (List C)->MA α->MA α
 | [],[],k=>k
 | s :: ss,c :: cs,k=>I9 d (qbi d s 0) c λln=>.getOb s fun
  | some _=>.setOb s ln (fa d ss cs k)
  | none=>.fail
 | _,_,_=>.fail
def Aw(P:Program)(o:Oper)(a:Act)(w:World)(R:Value->World->Prop):Prop :=
 ∀ (next:Act->World->Prop) (Q:Exit->Act->World->Prop),(∀ v w',R v w'->next (a.put o.dst v) w')->o.wp P a w next Q
section
variable {P:Program} {E:En} {g:Gh} {st st':St} {a:Act} {w:World}
theorem RU{o:Oper}{R:Value->World->Prop}(h:∃ v w',Di P o a w v w'/\R v w'):Aw P o a w R:=by
 obtain ⟨v,w',h1,h2⟩:=h;intro next Q hn;unfold Oper.wp;rcases h1 with h1 | ⟨h1,rfl⟩
 ·rw [h1]; exact hn v w' h2
 ·rw [h1]; exact hn _ w' h2
theorem mJ{o:Oper}{R:Value->World->Prop}{f:FuncId}{xf:Operand}{args:Array Operand}{ts:Array TypeId}{caps:List Value}(ho:o.op=.call { callee:=.value xf,args,argTypes:=ts })(hf:a.eval xf=.func (.func f) #[] caps.toArray)(hc:tM P f)
  (h:Calls P f (args.toList.map a.eval++caps).toArray w λe w'=>∃ v,e=.returned v/\R v w'):Aw P o a w R:=by
 obtain ⟨fn,hfn,hb,hnm⟩:=hc;intro next Q hn;have he:(execOp a.eval o).run P w=.ok (.enter f (args.toList.map a.eval++caps).toArray) w:=by
  have:args.map a.eval++caps.toArray=(args.toList.map a.eval++caps).toArray:=by
   apply Array.ext'
   simp
  have hb':fn.body≠none:=λh=>by simp [h] at hb
  have hn':fn.name ≠ "runtime.NumGoroutine" := by simpa using hnm
  simp [execOp,ho,resolve,Deferred.ofValue,hf,invoke,callFunc,hfn,hb',hn',this]
 unfold Oper.wp;rw [he];exact h.mono λe w' ⟨v,hv,hR⟩=>by subst hv; exact hn v w' hR
structure Inv (E:En) (g:Gh) (st:St) (ss:List Nat) (bs:List Nat):Prop where
 nodup:bs.Nodup
 F:∀ b∈bs,¬ g.F b
 X:∀ b∈bs,E.w0.heap.size<=b\/E.X b
 row:∀ b∈bs,∀ r,st.L r->(g.rw r).ownBlock≠some b
 ob:∀ b∈bs,∀ s,st.O s->g.ob s=b->s∈ss
theorem sB.mem{F:Nat->Prop}:∀ {ln:List A} {vs:List V} {us:List Value} {os:List (List C)} {bo:List Nat},tN g ln vs us->sB w F vs us os bo->∀ s∈fL ln,g.ob s∈bo:=by
 intro ln vs us os bo hA
 induction hA generalizing os bo with
 | nil=>intro _ s hs; simp [fL] at hs
 | oth a x u ln vs us ha hx hA ih =>
  intro hO s hs;rw [ED ha] at hs
  cases hO with
  | ptr c c' v bs l vs' os bo h1 h2=>exact absurd rfl (hx c)
  | skip x v l vs' os bo hx' h2=>exact ih h2 s hs
 | obj s' cs ln vs us hA ih =>
  intro hO s hs
  cases hO with
  | skip x v l vs' os bo hx' h2=>exact absurd rfl (hx' cs)
  | ptr c c' v bs l vs' os bo h1 h2 =>
   simp only [fL,zYx] at hs;rcases hs with rfl | hs
   ·cases h1 with
    | ptr=>simp
   ·exact An.2 (.inr (ih h2 s hs))
theorem wa{α:Type}{st':St}{d:Nat}:∀ {ln:List A} {vs:List V} {us:List Value} {os:List (List C)} {bo bv:List Nat} {g:Gh} {st:St} {k:MA α} {y:α},gG E g st w->tN g ln vs us->sB w g.F vs us os bo->Inv E g st (fL ln) (bo++bv) ->
  (fa d (fL ln) os k).run st=some (y,st')->∃ st1 g1,gG E g1 st1 w/\th w w g g1 st.O st.R st1.O st1.R/\g1.F=g.F/\st1.tm=st.tm/\k.run st1=some (y,st')/\Inv E g1 st1 [] bv
 | [],vs,us,os,bo,bv,g,st,k,y,hM,hA,hO,hI,h=>by
  cases hA
  cases hO
  simp only [fL,fa] at h;exact ⟨st,g,hM,th.refl _ _ _ _,rfl,rfl,h,hI⟩
 | a :: ln,vs,us,os,bo,bv,g,st,k,y,hM,hA,hO,hI,h=>by
  cases hA with
  | oth a x u ln vs us ha hx hA =>
   rw [ED ha] at h hI
   cases hO with
   | ptr c c' v bs l vs' os bo h1 h2=>exact absurd rfl (hx c)
   | skip x v l vs' os bo hx' h2=>exact wa hM hA h2 hI h
  | obj s cs ln vs us hA =>
   cases hO with
   | skip x v l vs' os bo hx' h2=>exact absurd rfl (hx' cs)
   | ptr c c' v bs l vs' os bo h1 h2 =>
    have hmem:=sB.mem hA h2
    cases h1 with
    | ptr cells b arr e vals b1 hb hl hle hc =>
     simp only [fL,fa] at h;have hnd:=hI.nodup;simp only [zXy,List.nodup_cons,zQX,zWk,zXk] at hnd;obtain ⟨hn1,hn2,⟨hn3,hn4,hn5⟩,hn6⟩:=hnd;have hb1:∀ x∈b1,Ft E g st x:=λx hx=>by
      have hxm:x∈g.ob s :: b1++bo++bv:=by simp [hx]
      refine ⟨hI.F x hxm,λs' hs' he=>?_,hI.row x hxm,hI.X x hxm⟩;have:=hI.ob x hxm s' hs' he;simp only [fL,zYx] at this;rcases this with rfl | h9
      ·exact hn1 (.inl (he ▸ hx))
      ·exact hn6 x hx x (.inl (he ▸ hmem s' h9)) rfl
     obtain ⟨as',st1,g1,hG,hC,h3,hll,hx⟩:=Cl hM hc hn2 hb1 h;simp only [MA.run] at h3;rw [hC.eob] at h3
     cases hso:st.ob s with
     | none=>simp [hso,MA.run] at h3
     | some c0 =>
      simp only [hso,MA.run] at h3;have hOs:st.O s:=by simp [St.O,hso]
      obtain ⟨hM2,hE2⟩:=hG.mem.set_ob (w':=w) (rc.refl w) s c0 as' arr e (by rw [hC.eob,hso]) (by rw [hC.ob]; exact hb) (λ_ _ _=>rfl) ak (λj x hj=>by
       obtain ⟨h4,u,hu,hr⟩:=hx j x hj;refine ⟨h4,u,?_,hr⟩;rw [hl,zQK] at hu
       split at hu
       ·simpa using hu
       ·cases hu)
      have hO2:∀ s',({ st1 with ob:=jr st1.ob s (some as') }:St).O s'->st.O s':=λs' h4=>by
       rcases O_upd.1 h4 with rfl | h4
       ·exact hOs
       ·unfold St.O at h4 ⊢; rw [hC.eob] at h4; exact h4
      have hI2:Inv E g1 { st1 with ob:=jr st1.ob s (some as') } (fL ln) (bo++bv):=by
       have up:∀ x,x∈bo++bv->x∈g.ob s :: b1++bo++bv:=λx hx=>by
        simp only [zWk] at hx;simp only [zXy,zQX,zYx,zWk];exact .inr (.inr hx)
       refine ⟨List.nodup_append.2 ⟨hn3,hn4,hn5⟩,λx hx=>by rw [hG.F]; exact hI.F x (up x hx),λx hx=>hI.X x (up x hx),λx hx r hr he=>?_,λx hx s' hs' he=>?_⟩
       ·rcases hC.rows r x hr he with h9 | ⟨h9,h10⟩
        ·exact hn6 x h9 x (An.1 hx) rfl
        ·exact hI.row x (up x hx) r h9 h10
       ·have he':g.ob s'=x:=by rw [<- hC.ob]; exact he
        have:=hI.ob x (up x hx) s' (hO2 s' hs') he';simp only [fL,zYx] at this;rcases this with rfl | h9
        ·exact absurd (by simp only [zWk] at hx; rw [he']; exact .inr hx) hn1
        ·exact h9
      obtain ⟨st3,g3,hM3,hE3,hF3,ht3,h5,hI3⟩:=wa hM2 (hA.congr' hC.ob) (hG.F ▸ h2) hI2 h3;exact ⟨st3,g3,hM3,(hG.ext.trans hE2).trans hE3,hF3.trans hG.F,ht3.trans hG.tm,h5,hI3⟩
end
section
variable {P:Program} {E:En} [Tb P E] {g:Gh} {st st':St} {a:Act} {w:World}
theorem Ja{w':World}{F:Nat->Prop}:∀ {ln:List A} {vs:List V} {us:List Value} {os:List (List C)} {bo:List Nat},tN g ln vs us->sB w' F vs us os bo->∀ s∈fL ln,∃ arr e,w'.heap[g.ob s]?=some (.cells arr e (0,0)):=by
 intro ln vs us os bo hA
 induction hA generalizing os bo with
 | nil=>intro _ s hs; simp [fL] at hs
 | oth a x u ln vs us ha hx hA ih =>
  intro hO s hs;rw [ED ha] at hs
  cases hO with
  | ptr c c' v bs l vs' os bo h1 h2=>exact absurd rfl (hx c)
  | skip x v l vs' os bo hx' h2=>exact ih h2 s hs
 | obj s' cs ln vs us hA ih =>
  intro hO s hs
  cases hO with
  | skip x v l vs' os bo hx' h2=>exact absurd rfl (hx' cs)
  | ptr c c' v bs l vs' os bo h1 h2 =>
   simp only [fL,zYx] at hs;rcases hs with rfl | hs
   ·cases h1 with
    | ptr cells b arr e vals b1 hb=>exact ⟨arr,e,hb⟩
   ·exact ih h2 s hs
theorem TK{n d f:Nat}{m:Bool}{p:Nat->Bool}{o:Oper}{xf:Operand}{args:Array Operand}{ts:Array TypeId}{caps ln:List A}{vs:List V}{st1:St}{res:V}{outs:List (List C)}{x:A}
  (hS:uU E g n st a w) (ho:o.op=.call { callee:=.value xf,args,argTypes:=ts }) (hf:st.eval xf=some (.clo f caps)) (has:ef (args.toList.map st.eval)=some ln)
  (hp:(kf m p (ln++caps) MA.ret).run st=some (vs,st1)) (hc:av P f vs res outs) (hr:(fa d (fL (ln++caps)) outs (V.toA d (iP d 0) res MA.ret)).run st1=some (x,st')) :
  Aw P o a w λv w'=>∃ g',zu E g st w x st' v g' w':=by
 have hM:=hS.mem;obtain ⟨hcl,hcc⟩:=hc;have hvf:=b9 hS hf;generalize hvv:a.eval xf=vf at hvf
 cases hvf with
 | clo f caps vcaps hl hx =>
  refine mJ ho hvv hcl ?_;obtain ⟨ha1,ha2⟩:=Ch hS has;obtain ⟨cs,st1',g1,bs,hM1,hE1,hL1,h1,hVV,hT,hA,hsl⟩:=zw (vs:=args.toList.map a.eval++vcaps) (ln++caps) hM Yt (λj y hj=>by
   rw [zWK] at hj
   split at hj
   ·rename_i hlt;have hlt':j < (args.toList.map a.eval).length:=by rw [<- ha1]; exact hlt
    exact ⟨_,by rw [zQQ hlt']; exact sX hlt',ha2 j y _ hj (sX hlt')⟩
   ·rename_i hge;have hlt:j - ln.length < vcaps.length:=by rw [<- hl]; exact (sr.1 hj).1
    exact ⟨_,by rw [r0 WV,<- ha1]; exact sX hlt,hx _ y _ hj (sX hlt)⟩) hp
  obtain ⟨rfl,rfl⟩:=gZ h1;have hbsX:∀ b∈bs,b < E.w0.heap.size->E.X b:=λb hb hlt=>by
   rcases hT.of b hb with ⟨r,h2,_,h4⟩ | ⟨s,⟨c,cs,h2⟩,_,h4⟩
   ·rcases (hM.row_nf h2 h4).2 with h5 | h5
    ·omega
    ·exact h5
   ·rcases (hM.ob_nf (s:=s) Qi).2 with h5 | h5
    ·omega
    ·exact h4 ▸ h5
  refine (hcc w g1.F _ bs (λb hb=>(hM1.F b hb).1) hVV hT.nodup hT.nf (hM.tbW λb h1 h2 _ h3=>h2 (hbsX b h3 h1))).mono λe w' ⟨v,F',bv,bo,he,hcalm,hsame,hFF,hF',hvr,hO,hnd,hex⟩=>⟨v,he,?_⟩
  -- the caller's memory behind the call
  have hbsrow:∀ b∈bs,∀ r,st1.L r->(g1.rw r).ownBlock≠some b:=λb hb r hr he=>by
   rw [hL1.rw] at he;rcases hT.of b hb with ⟨r',h2,h3,h4⟩ | ⟨s,⟨c,cs,h2⟩,_,h4⟩
   ·exact h3 (hM.rowne r r' b (hL1.L r hr) h2 he h4 ▸ hr)
   ·exact hM.rowob r s (hL1.L r hr) Qi (h4 ▸ he)
  have hbsob:∀ b∈bs,∀ s,st1.O s->g1.ob s=b->st1.ob s=some []/\s∈fL (ln++caps):=λb hb s hs he=>by
   rw [hL1.ob] at he;have hs':st.O s:=(hL1.O s).1 hs;rcases hT.of b hb with ⟨r',h2,h3,h4⟩ | ⟨s',⟨c,cs,h2⟩,h3,h4⟩
   ·exact absurd (he ▸ h4) (hM.rowob r' s h2 hs')
   ·have:=hM.obne s s' hs' Qi (he.trans h4.symm);subst this;exact ⟨h3,hsl s (by rw [h3,h2]; simp)⟩
  have hF0:∀ b,b < w.heap.size->F' b->g1.F b\/b∈bs:=λb h2 h3=>(hF' b h3).2.1 h2;have hA1:tN g1 (ln++caps) vs (args.toList.map a.eval++vcaps):=hA.congr' hL1.ob;have hexF:∀ b∈bs,F' b->False\/True:=λ_ _ _=>.inr trivial;have hlentF:∀ s,s∈fL (ln++caps)->g1.ob s∈bo:=sB.mem hA1 hO;obtain ⟨hM2,hE2⟩:=hM1.step (w':=w') (g':={ g1 with F:=F' }) (st':=st1) hcalm (λb=>b∈bs) (λb h2 h3=>hsame b h2 h3) (λb hb=>hT.nf b hb) (λb h2 h3=>hbsX b h3 h2) hFF
   (λb h2 h3=>⟨(hF' b h2).1,λhlt=>(hF0 b (zWV hlt hM1.sizes) h2).elim (λh4=>absurd h4 h3) (λh4=>.inr (hbsX b h4 hlt)),.inr ((hF' b h2).2.2.resolve_left h3)⟩) (λ_ h=>⟨h,rfl⟩) (λ_ h=>⟨h,rfl⟩)
   (λs cells hs=>by
    have hOs:st1.O s:=by simp [St.O,hs]
    by_cases hb:g1.ob s∈bs
    ·obtain ⟨h5,h6⟩:=hbsob _ hb s hOs rfl;rw [hs] at h5
     cases h5
     obtain ⟨arr,e,hh⟩:=Ja hA1 hO s h6;refine .inr ⟨arr,e,hh,by simp,by simp,?_,(hM1.ob_nf hOs).2⟩;exact (hex _ (An.2 (.inr (hlentF s h6)))).1
    ·refine .inl ⟨hs,hb,λhf=>?_⟩;rcases hF0 _ (hM1.ob_lt hOs) hf with h5 | h5
     ·exact (hM1.ob_nf hOs).1 h5
     ·exact hb h5) hM1.obne
   (λr x hr=>.inl ⟨hr,λhL b hb=>⟨λhm=>hbsrow b hm r hL hb,λhf=>by
    rcases hF0 b (hM1.row_lt hL hb) hf with h5 | h5
    ·exact (hM1.row_nf hL hb).1 h5
    ·exact hbsrow b h5 r hL hb⟩⟩) hM1.rowne hM1.rowob
  have hI:Inv E { g1 with F:=F' } st1 (fL (ln++caps)) (bo++bv):=by
   have hm:∀ x,x∈bo++bv->x∈bv++bo:=λx hx=>by
    rcases An.1 hx with h | h <;> simp [h]
   refine ⟨?_,λb hb=>(hex b (hm b hb)).1,λb hb=>?_,λb hb r hr he=>?_,λb hb s hs he=>?_⟩
   ·rw [zXk] at hnd ⊢;exact ⟨hnd.2.1,hnd.1,λx hx y hy h=>hnd.2.2 y hy x hx h.symm⟩
   ·rcases (hex b (hm b hb)).2 with h5 | h5
    ·exact .inl (zXw hM1.sizes h5)
    ·by_cases hlt:b < E.w0.heap.size
     ·exact .inr (hbsX b h5 hlt)
     ·exact .inl ak
   ·rcases (hex b (hm b hb)).2 with h5 | h5
    ·exact absurd (hM1.row_lt hr he) ak
    ·exact hbsrow b h5 r hr he
   ·rcases (hex b (hm b hb)).2 with h5 | h5
    ·exact absurd (hM1.ob_lt hs) ZS
    ·exact (hbsob b h5 s hs he).2
  have hA2:tN { g1 with F:=F' } (ln++caps) vs (args.toList.map a.eval++vcaps):=hA1.congr' (g:=g1) (g1:={ g1 with F:=F' }) rfl;obtain ⟨st2,g2,hM3,hE3,hF3,ht3,h6,hI3⟩:=wa (w:=w') hM2 hA2 hO hI hr;obtain ⟨x',st3,g3,hG,h7,hvx⟩:=zx (w:=w') res hM3 (by rw [hF3]; exact hvr) hI3.nodup (λb hb=>⟨hI3.F b hb,λs hs he=>by have:=hI3.ob b hb s hs he; simp at this,hI3.row b hb,hI3.X b hb⟩) h6;obtain ⟨rfl,rfl⟩:=gZ h7;exact ⟨g3,hG.mem,hvx,((hE1.trans hE2).trans hE3).trans hG.ext,hG.tm.trans (ht3.trans hL1.tm)⟩
end
end Go.Tm
