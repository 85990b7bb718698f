/- The abstract machine: data trees, the values of slots, abstract states, and what one operation does to them. -/
import Derived.Calls
import Derived.Below
import Derived.RowKit3
import Derived.KernelRfl
import Derived.Laws.BytesArg
set_option linter.unusedVariables false
namespace Go.Tm

/-- What one cell holds, with all that it leads to. -/
inductive T where
  | int (k : IntKind) (n : Int)
  | bool (b : Bool)
  | str (s : ByteArray)
  | sl (sz : Nat) (rows : List (List T))
  | nilf
  deriving Inhabited

/-- What a slot, or a cell of a local variable, holds. -/
inductive A where
  | t (x : T)
  | nil
  | own (r : Nat)
  | agg (l : List A)
  | tup (l : List A)
  | obj (s off : Nat)
  | elem (r sz i off : Nat)
  | sub (r sz lo : Nat)
  | fadr (cells : List T)
  | nn (sz : Nat) (rows : List (List T))
  | ext (s : Bool) (x : T)
  | exa (s : Bool) (cells : List T)
  | shp (x : T)
  | clo (f : FuncId) (caps : List A)
  | undef
  deriving Inhabited

/-- A row of one's own: its elements' type and size, its elements; a row that is only read from now on; one that was used up. -/
inductive Row where
  | live (e sz : Nat) (rows : List (List T))
  | frz (sz : Nat) (rows : List (List T))
  | gone

structure St where
  tm : Nat → A
  ob : Nat → Option (List A)
  rw : Nat → Option Row

def upd {α : Type} (f : Nat → α) (k : Nat) (v : α) : Nat → α := fun j => if j = k then v else f j
theorem upd_eq {α : Type} (f : Nat → α) (k : Nat) (v : α) : upd f k v k = v := by simp [upd]
theorem upd_ne {α : Type} (f : Nat → α) (k j : Nat) (v : α) (h : j ≠ k) : upd f k v j = f j := by simp [upd, h]

def St.put (st : St) (d : Option Nat) (v : A) : St := match d with | some d => { st with tm := upd st.tm d v } | none => st

/-- What an operation asks of memory, one access behind the other. -/
inductive MA (α : Type) where
  | ret (v : α)
  | fail
  | getOb (s : Nat) (k : Option (List A) → MA α)
  | getRw (r : Nat) (k : Option Row → MA α)
  | setOb (s : Nat) (c : List A) (k : MA α)
  | setRw (r : Nat) (x : Row) (k : MA α)

def MA.run {α : Type} : MA α → St → Option (α × St)
  | .ret v, st => some (v, st)
  | .fail, _ => none
  | .getOb s k, st => (k (st.ob s)).run st
  | .getRw r k, st => (k (st.rw r)).run st
  | .setOb s c k, st => k.run { st with ob := upd st.ob s (some c) }
  | .setRw r x k, st => k.run { st with rw := upd st.rw r (some x) }

def T.val : T → Value
  | .int k n => .int k n
  | .bool b => .bool b
  | .str s => .string s
  | .sl _ _ => .slice none 0 0
  | .nilf => .nilFunc

def A.ofValue1 : Value → Option A
  | .int k n => some (.t (.int k n))
  | .bool b => some (.t (.bool b))
  | .string s => some (.t (.str s))
  | .slice none 0 0 => some .nil
  | .nilFunc => some (.t .nilf)
  | _ => none
def allSome {α : Type} : List (Option α) → Option (List α)
  | [] => some []
  | x :: r => match x, allSome r with | some x, some r => some (x :: r) | _, _ => none
def A.ofValue : Value → Option A
  | .agg cs => match allSome (cs.toList.map A.ofValue1) with | some l => some (.agg l) | none => none
  | .pointer none => some .undef
  | v => A.ofValue1 v
def A.cells : A → List A
  | .agg l => l
  | a => [a]
/-- A value of one cell. -/
def A.one : A → Bool
  | .agg _ | .tup _ | .undef => false
  | _ => true

def St.eval (st : St) : Operand → Option A
  | .tmp t => some (st.tm t)
  | .const v => A.ofValue v
  | .func f => some (.clo f [])
  | .global _ => none

section types
variable (P : Program)
def tinfo (t : TypeId) : Option (Option Value × Nat × Nat) := (P.info? t).map fun i => (i.zero, i.size, i.bytes)
def tsize (t : TypeId) : Option Nat := match tinfo P t with | some (_, n, _) => some n | none => none
def tzero (t : TypeId) : Option (List A) := match tinfo P t with
  | some (some z, _, _) => allSome (z.cells.toList.map A.ofValue1)
  | _ => none
def tagg (t : TypeId) : Option Bool := match P.underlying t with
  | some (.struct _) => some true
  | some (.array ..) | none => none
  | _ => some false
end types

/-- As a tree; a row of one's own is only read from then on. -/
def A.toT {α : Type} (a : A) (k : T → MA α) : MA α := match a with
  | .t x => k x
  | .nil => k (.sl 0 [])
  | .own r => .getRw r fun
    | some (.live _ sz rows) => .setRw r (.frz sz rows) (k (.sl sz rows))
    | some (.frz sz rows) => k (.sl sz rows)
    | _ => .fail
  | _ => .fail
def A.toTs {α : Type} : List A → (List T → MA α) → MA α
  | [], k => k []
  | a :: r, k => a.toT fun x => A.toTs r fun xs => k (x :: xs)

/-- nil, told as an empty tree of the right size. -/
def relab : List Nat → List A → List A
  | n :: ns, .nil :: r => .t (.sl n []) :: relab ns r
  | _ :: ns, a :: r => a :: relab ns r
  | _, l => l
/-- The sizes of the elements of the slices among a type's cells. -/
def labsF (P : Program) : Nat → TypeId → List Nat
  | 0, _ => []
  | k + 1, t => match P.underlying t with
    | some (.struct fs) => fs.toList.flatMap fun f => labsF P k f.type
    | some (.slice e) => match tsize P e with | some n => [n] | none => [0]
    | _ => match tsize P t with | some n => List.replicate n 0 | none => []
def labs (P : Program) (t : TypeId) : List Nat := labsF P 8 t

def spl {α : Type} (l : List α) (off : Nat) (cs : List α) : List α := l.take off ++ cs ++ l.drop (off + cs.length)
/-- n cells from off on, as a value of a type: a struct, or one cell. -/
def cutA (agg : Bool) (n : Nat) (l : List A) (off : Nat) : Option A :=
  if off + n ≤ l.length then if agg then some (.agg ((l.drop off).take n)) else if n = 1 then l[off]? else none else none

def isB (P : Program) (t : TypeId) : Bool := match P.underlying t with | some .bool => true | _ => false
def bin (tb : Bool) (op : BinOp) (x y : T) : Option T := match x, y with
  | .int k a, .int k' b => match op with
    | .shl => if 0 ≤ b then some (.int k (k.wrap (a * 2 ^ min b.toNat k.bits))) else none
    | .shr => if 0 ≤ b then some (.int k (a.fdiv (2 ^ min b.toNat k.bits))) else none
    | _ => if k = k' then match op with
      | .add => some (.int k (k.wrap (a + b)))
      | .sub => some (.int k (k.wrap (a - b)))
      | .mul => some (.int k (k.wrap (a * b)))
      | .quo => if b = 0 then none else some (.int k (k.wrap (a.tdiv b)))
      | .rem => if b = 0 then none else some (.int k (a.tmod b))
      | .and => some (.int k (k.wrap (BitVec.ofInt k.bits a &&& BitVec.ofInt k.bits b).toNat))
      | .or => some (.int k (k.wrap (BitVec.ofInt k.bits a ||| BitVec.ofInt k.bits b).toNat))
      | .xor => some (.int k (k.wrap (BitVec.ofInt k.bits a ^^^ BitVec.ofInt k.bits b).toNat))
      | .andNot => some (.int k (k.wrap (BitVec.ofInt k.bits a &&& ~~~ BitVec.ofInt k.bits b).toNat))
      | .eql => some (.bool (a == b))
      | .neq => some (.bool (a != b))
      | .lss => some (.bool (decide (a < b)))
      | .leq => some (.bool (decide (a ≤ b)))
      | .gtr => some (.bool (decide (a > b)))
      | .geq => some (.bool (decide (a ≥ b)))
      | _ => none
      else none
  | .str a, .str b => match op with
    | .add => if a.size + b.size ≤ 9223372036854775807 then some (.str (a ++ b)) else none
    | .eql => some (.bool (a.toList == b.toList))
    | .neq => some (.bool (!(a.toList == b.toList)))
    | _ => none
  | .bool a, .bool b => if tb then match op with
    | .eql => some (.bool (a == b))
    | .neq => some (.bool (!(a == b)))
    | _ => none
    else none
  | _, _ => none

/-- The cells of a struct of whole numbers (kind int), as numbers. -/
def ints : List A → Option (List Int)
  | [] => some []
  | .t (.int .i64 n) :: r => match ints r with | some l => some (n :: l) | none => none
  | _ :: _ => none

/-- A struct type of n whole numbers that '==' compares field by field. -/
def eqFs (P : Program) : Nat → List Field → Bool
  | _, [] => true
  | k, f :: r => f.name != "_" && f.offset == k && (match P.underlying f.type with | some (.int .i64) => true | _ => false) && eqFs P (k + 1) r
def eqTy (P : Program) (t : TypeId) : Option Nat := match P.underlying t with
  | some (.struct fs) => if !P.stoodInHeld t && !P.eqGuardType P.depth t && eqFs P 0 fs.toList then some fs.size else none
  | _ => none
def fieldOf (P : Program) (s : TypeId) (f : Nat) : Option (Nat × TypeId) := match P.underlying s with
  | some (.struct fs) => match fs[f]? with
    | some f => match tsize P f.type with | some n => if n = 0 then none else some (f.offset, f.type) | none => none
    | none => none
  | _ => none

/-- The places and sizes of a struct's fields. -/
def sizesOf (P : Program) : List Field → Option (List (Nat × Nat))
  | [] => some []
  | f :: r => match tsize P f.type, sizesOf P r with | some n, some l => some ((f.offset, n) :: l) | _, _ => none
def placesOf (P : Program) (t : TypeId) : Option (List (Nat × Nat)) := match P.underlying t with
  | some (.struct fs) => sizesOf P fs.toList
  | _ => none
def fillA (pl : List (Nat × Nat)) : List A → List (Nat × A) → Option (List A)
  | cs, [] => some cs
  | cs, (f, x) :: r => match pl[f]? with
    | some (off, n) => if x.cells.length = n ∧ off + n ≤ cs.length ∧ x.cells.all A.one then fillA pl (spl cs off x.cells) r else none
    | none => none

/-- Made rows: n zero elements, some of them set. -/
def fillR {α : Type} (lb : List Nat) (sz : Nat) : List (List T) → List (Nat × A) → (List (List T) → MA α) → MA α
  | rows, [], k => k rows
  | rows, (i, x) :: r, k => if x.cells.length = sz ∧ i < rows.length then A.toTs (relab lb x.cells) fun ts => fillR lb sz (rows.set i ts) r k else .fail

def tokR (d k : Nat) : Nat := d * 65536 + k
def tokO (d s k : Nat) : Nat := d * 65536 + 1024 + s * 64 + k

/-- Nothing of it leads anywhere. -/
def T.sc : T → Bool
  | .sl .. => false
  | _ => true
def scRows (rows : List (List T)) : Bool := rows.all fun r => r.all T.sc

/-- The rows that a slice reads, and their size. -/
def A.rows {α : Type} (a : A) (k : Nat → List (List T) → MA α) : MA α := match a with
  | .t (.sl sz rows) => k sz rows
  | .ext false (.sl sz rows) => if scRows rows then k sz rows else .fail
  | .nil => k 0 []
  | .own r => .getRw r fun
    | some (.live _ sz rows) => k sz rows
    | some (.frz sz rows) => k sz rows
    | _ => .fail
  | _ => .fail

def mkRow (r e sz : Nat) (rows : List (List T)) : MA A := .getRw r fun
  | none => .setRw r (.live e sz rows) (.ret (.own r))
  | some _ => .fail
def mkOb (d : Nat) (cells : List A) : MA A := .getOb d fun
  | none => if cells.all A.one then .setOb d cells (.ret (.obj d 0)) else .fail
  | some _ => .fail

def bytesT : List (List T) → Option (List Int)
  | [] => some []
  | [.int .u8 n] :: r => match bytesT r with | some l => some (n :: l) | none => none
  | _ :: _ => none

/-- What is told ahead of a slot: a variable's address; a row's class; an element's address; what is only read. -/
inductive Root where
  | any | obj (s : Nat) | own (d : Nat) | row | frz | el (d : Nat) | win (d : Nat)
  deriving DecidableEq
def A.leafy : A → Bool
  | .t _ | .nil | .ext .. | .undef | .shp _ => true
  | _ => false
def Root.fits : Root → A → Bool
  | .any, _ => true
  | .obj s, .obj s' _ => s == s'
  | .own d, .own r => r / 65536 == d
  | .own _, .nil => true
  | .own d, .agg l => l.all fun x => match x with | .own r => r / 65536 == d | x => x.leafy
  | .row, .elem .. => true
  | .el d, .elem r _ _ _ => r / 65536 == d
  | .win d, .sub r _ _ => r / 65536 == d
  | .frz, .fadr _ | .frz, .t _ | .frz, .nil | .frz, .exa .. | .frz, .ext .. | .frz, .shp _ => true
  | .frz, .agg l => l.all A.leafy
  | _, _ => false
def opFits (ρ : Nat → Root) (st : St) (o : Oper) : Bool := o.op.operands.toList.all fun | .tmp t => (ρ t).fits (st.tm t) | _ => true

/-- A foreign cell's value (s: only its kind is known). -/
def exOf (s : Bool) : T → A
  | .sl sz rows => .ext s (.sl sz rows)
  | x => if s then .ext true x else .t x
def T.wk : T → T → Bool
  | .int k _, .int k' _ => k == k'
  | .bool _, .bool _ => true
  | _, _ => false
def wkAt (cells : List T) (x : List A) : Bool := match cells, x with
  | z :: _, [.t y] => T.wk z y
  | _, _ => false

def maLoad (P : Program) (t : TypeId) (a : A) : MA A :=
  match tagg P t, tsize P t with
  | some g, some n => match a with
    | .obj s off => .getOb s fun
      | some cells => match cutA g n cells off with | some v => .ret v | none => .fail
      | none => .fail
    | .elem r sz i off => .getRw r fun
      | some (.live _ sz' rows) | some (.frz sz' rows) => if sz = sz' then match rows[i]? with
        | some row => match cutA g n (row.map A.t) off with | some v => .ret v | none => .fail
        | none => .fail
        else .fail
      | _ => .fail
    | .fadr cells => match cutA g n (cells.map A.t) 0 with | some v => .ret v | none => .fail
    | .exa s cells => match cutA g n (cells.map (exOf s)) 0 with | some v => .ret v | none => .fail
    | _ => .fail
  | _, _ => .fail
def maStore (P : Program) (t : TypeId) (a x : A) : MA A :=
  match tsize P t with
  | some n => if x.cells.length = n ∧ x.cells.all A.one then match a with
    | .obj s off => .getOb s fun
      | some cells => if off + n ≤ cells.length then .setOb s (spl cells off x.cells) (.ret .undef) else .fail
      | none => .fail
    | .elem r sz i off => A.toTs (relab (labs P t) x.cells) fun ts => .getRw r fun
      | some (.live e sz' rows) => if sz = sz' then match rows[i]? with
        | some row => if off + n ≤ row.length then .setRw r (.live e sz (rows.set i (spl row off ts))) (.ret .undef) else .fail
        | none => .fail
        else .fail
      | _ => .fail
    | .exa true cells => if wkAt cells x.cells then .ret .undef else .fail
    | _ => .fail
    else .fail
  | none => .fail

def addrTo (a : A) (off : Nat) : MA A := match a with
  | .obj s o => .ret (.obj s (o + off))
  | .elem r sz i o => .ret (.elem r sz i (o + off))
  | .fadr cells => .ret (.fadr (cells.drop off))
  | .exa s cells => .ret (.exa s (cells.drop off))
  | _ => .fail

def rowAddr (n : Nat) (i : Int) (sz : Nat) (rows : List (List T)) : MA A :=
  if sz = n ∧ 0 ≤ i then match rows[i.toNat]? with | some row => .ret (.fadr row) | none => .fail else .fail
def rowAddrX (s : Bool) (n : Nat) (i : Int) (sz : Nat) (rows : List (List T)) : MA A :=
  if sz = n ∧ 0 ≤ i then match rows[i.toNat]? with | some row => .ret (.exa s row) | none => .fail else .fail
def maIndexAddr (P : Program) (t : TypeId) (x i : A) : MA A :=
  match P.underlying t, i with
  | some (.slice e), .t (.int _ i) => match tsize P e with
    | some n => match x with
      | .t (.sl sz rows) => rowAddr n i sz rows
      | .ext s (.sl sz rows) => rowAddrX s n i sz rows
      | .own r => .getRw r fun
        | some (.live _ sz rows) => if sz = n ∧ 0 ≤ i ∧ i.toNat < rows.length then .ret (.elem r sz i.toNat 0) else .fail
        | some (.frz sz rows) => rowAddr n i sz rows
        | _ => .fail
      | _ => .fail
    | none => .fail
  | _, _ => .fail

def evO (ev : Operand → Option A) : Option Operand → Option (Option A)
  | none => some none
  | some l => (ev l).map some

def optN (d : Nat) : Option A → Option Int
  | none => some d
  | some (.t (.int _ i)) => some i
  | _ => none

def maSlice (P : Program) (t : TypeId) (x : A) (lo hi : Option A) : MA A :=
  match P.underlying t, x with
  | some .string, .t (.str s) => match optN 0 lo, optN s.size hi with
    | some l, some h => if 0 ≤ l ∧ l ≤ h ∧ h ≤ s.size then .ret (.t (.str (s.extract l.toNat h.toNat))) else .fail
    | _, _ => .fail
  | some (.slice e), x => match tsize P e with
    | some n => x.toT fun
      | .sl sz rows => match optN 0 lo, optN rows.length hi with
        | some l, some h => if sz = n ∨ rows = [] then if 0 ≤ l ∧ l ≤ h ∧ h ≤ rows.length then .ret (.t (.sl sz ((rows.take h.toNat).drop l.toNat))) else .fail else .fail
        | _, _ => .fail
      | _ => .fail
    | none => .fail
  | _, _ => .fail

/-- What lies behind a place of a row of one's own. -/
def maSub (P : Program) (t : TypeId) (x : A) (lo : Option A) : MA A :=
  match P.underlying t, x, optN 0 lo with
  | some (.slice e), .own r, some l => match tsize P e with
    | some n => .getRw r fun
      | some (.live _ sz rows) => if sz = n ∧ 0 ≤ l ∧ l ≤ rows.length then .ret (.sub r n l.toNat) else .fail
      | _ => .fail
    | none => .fail
  | _, _, _ => .fail
def isWin (ρ : Nat → Root) : Option Nat → Bool
  | some d => match ρ d with | .win _ => true | _ => false
  | none => false
def isTr (ρ : Nat → Root) : Option Nat → Bool
  | some d => match ρ d with | .own d' => Nat.beq d d' | _ => false
  | none => false
/-- The first elements of a row of one's own, as one's own. -/
def maTrunc (P : Program) (d : Option Nat) (t : TypeId) (x : A) (hi : Option A) : MA A :=
  match P.underlying t, x, hi, d with
  | some (.slice e), .own r, some (.t (.int _ h)), some d => match tsize P e with
    | some n => .getRw r fun
      | some (.live e' sz rows) => if sz = n ∧ 0 ≤ h ∧ h ≤ rows.length then .setRw r .gone (mkRow (tokR d 0) e' sz (rows.take h.toNat)) else .fail
      | _ => .fail
    | none => .fail
  | _, _, _, _ => .fail
/-- Which way a part is taken: to be written over; as one's own; only read. -/
def cutW (ρ : Nat → Root) (d : Option Nat) (lo hi : Option A) : Bool := (isWin ρ d && hi.isNone) || (isTr ρ d && lo.isNone)
/-- Rows laid over rows, from a place on. -/
def overR (rows ys : List (List T)) (lo : Nat) : List (List T) := rows.take lo ++ ys.take (rows.length - lo) ++ rows.drop (lo + min ys.length (rows.length - lo))
def maCopy (P : Program) (ts : List TypeId) (x y : A) : MA A :=
  match ts, x with
  | [t, t'], .sub r n lo => match P.underlying t with
    | some (.slice e) => if tsize P e = some 1 ∧ n = 1 then y.rows fun m ys => if m = 1 ∨ ys = [] then .getRw r fun
      | some (.live e' sz rows) => if sz = 1 ∧ lo ≤ rows.length then .setRw r (.live e' 1 (overR rows ys lo)) (.ret (.t (.int .i64 (min ys.length (rows.length - lo) : Nat)))) else .fail
      | _ => .fail
      else .fail else .fail
    | _ => .fail
  | _, _ => .fail
def maClear (P : Program) (ts : List TypeId) (x : A) : MA A :=
  match ts, x with
  | [t], .sub r n lo => match P.underlying t with
    | some (.slice e) => match tzero P e with
      | some [.t z] => if tsize P e = some 1 ∧ n = 1 then .getRw r fun
        | some (.live e' sz rows) => if sz = 1 ∧ lo ≤ rows.length then .setRw r (.live e' 1 (rows.take lo ++ List.replicate (rows.length - lo) [z])) (.ret (.tup [])) else .fail
        | _ => .fail
        else .fail
      | _ => .fail
    | _ => .fail
  | _, _ => .fail

def maMake (P : Program) (d : Option Nat) (t : TypeId) (len cap : A) : MA A :=
  match P.underlying t, len, cap, d with
  | some (.slice e), .t (.int .i64 l), .t (.int .i64 c), some d => match tinfo P e, tzero P e with
    | some (_, n, by_), some z => if z.length = n ∧ 0 < n ∧ 0 ≤ c ∧ (l = 0 ∨ l = c) ∧ c.toNat * by_ ≤ 140737488355328 ∧ c ≤ 9223372036854775807 then
        A.toTs (relab (labs P e) z) fun ts => mkRow (tokR d 0) e n (List.replicate l.toNat ts) else .fail
    | _, _ => .fail
  | _, _, _, _ => .fail

def maAppend (P : Program) (d : Option Nat) (ts : List TypeId) (x y : A) : MA A :=
  match ts, d with
  | [t, t'], some d => if t = t' then match P.underlying t with
    | some (.slice e) => match tinfo P e, tzero P e with
      | some (some _, n, by_), some z => if z.length = n ∧ 0 < n ∧ 0 < by_ then y.rows fun m ys => if m = n ∨ ys = [] then match x with
        | .nil => if ys.length * by_ ≤ 140737488355328 then mkRow (tokR d 0) e n ys else .fail
        | .own r => .getRw r fun
          | some (.live e' sz rows) => if e' = e ∧ sz = n ∧ (rows.length + ys.length) * by_ ≤ 140737488355328 then
              .setRw r .gone (mkRow (tokR d 0) e n (rows ++ ys)) else .fail
          | _ => .fail
        | _ => .fail
        else .fail
        else .fail
      | _, _ => .fail
    | _ => .fail
    else .fail
  | _, _ => .fail

def maLen (P : Program) (t : TypeId) (x : A) : MA A :=
  match P.underlying t, x with
  | some .string, .t (.str s) => .ret (.t (.int .i64 s.size))
  | some (.slice _), .ext _ (.sl _ rows) => .ret (.t (.int .i64 rows.length))
  | some (.slice _), x => x.rows fun _ rows => .ret (.t (.int .i64 rows.length))
  | _, _ => .fail

/-- What an operation that calls no Go function does, its operands being values. -/
def maOf (P : Program) (ρ : Nat → Root) (ev : Operand → Option A) (o : Oper) : MA A :=
  match o.op with
  | .move x | .assign x => match ev x with | some v => .ret v | none => .fail
  | .pick c a b => match ev c, ev a, ev b with
    | some (.t (.bool c)), some a, some b => .ret (if c then a else b)
    | _, _, _ => .fail
  | .alloc e => match o.dst, tzero P e with | some d, some z => mkOb d z | _, _ => .fail
  | .box _ x => match o.dst, ev x with
    | some d, some v => if ρ d = .frz then A.toTs v.cells fun ts => .ret (.fadr ts) else mkOb d v.cells
    | _, _ => .fail
  | .build t parts => match tzero P t, placesOf P t, allSome (parts.toList.map fun (i, x) => (ev x).map fun v => (i, v)) with
    | some z, some pl, some ps => match fillA pl z ps with | some cs => .ret (.agg cs) | none => .fail
    | _, _, _ => .fail
  | .buildSlice t n parts => match P.underlying t, o.dst, allSome (parts.toList.map fun (i, x) => (ev x).map fun v => (i, v)) with
    | some (.slice e), some d, some ps => match tsize P e, tzero P e with
      | some sz, some z => if z.length = sz ∧ 0 < sz ∧ n * sz ≤ 16777216 then A.toTs (relab (labs P e) z) fun ts => fillR (labs P e) sz (List.replicate n ts) ps fun rows => mkRow (tokR d 0) e sz rows else .fail
      | _, _ => .fail
    | _, _, _ => .fail
  | .load t a => match ev a with | some a => maLoad P t a | none => .fail
  | .store t a x => match ev a, ev x with | some a, some x => maStore P t a x | _, _ => .fail
  | .nilCheck x => match ev x with
    | some (.obj s o) => .ret (.obj s o)
    | some (.elem r sz i o) => .ret (.elem r sz i o)
    | some (.fadr c) => .ret (.fadr c)
    | some (.exa s c) => .ret (.exa s c)
    | some (.clo f c) => .ret (.clo f c)
    | _ => .fail
  | .binOp op t x y _ => match ev x, ev y with
    | some (.t x), some (.t y) => match bin (isB P t) op x y with | some z => .ret (.t z) | none => .fail
    | some (.agg x), some (.agg y) => match eqTy P t, ints x, ints y, op with
      | some n, some xs, some ys, .eql => if xs.length = n ∧ ys.length = n then .ret (.t (.bool (xs == ys))) else .fail
      | some n, some xs, some ys, .neq => if xs.length = n ∧ ys.length = n then .ret (.t (.bool (!(xs == ys)))) else .fail
      | _, _, _, _ => .fail
    | some (.nn _ _), some .nil => match op, P.underlying t with
      | .eql, some (.slice _) => .ret (.t (.bool false))
      | _, _ => .fail
    | some .nil, some .nil => match op, P.underlying t with
      | .eql, some (.slice _) => .ret (.t (.bool true))
      | _, _ => .fail
    | _, _ => .fail
  | .unOp op _ x => match op, ev x with
    | .not, some (.t (.bool b)) => .ret (.t (.bool (!b)))
    | .neg, some (.t (.int k n)) => .ret (.t (.int k (k.wrap (0 - n))))
    | _, _ => .fail
  | .convert s t x => match P.underlying s, P.underlying t, ev x with
    | some _, some (.int k), some (.t (.int _ n)) => .ret (.t (.int k (k.wrap n)))
    | some _, some .string, some (.t (.str s)) => .ret (.t (.str s))
    | some (.slice e), some .string, some x => match P.underlying e with
      | some (.int .u8) => x.rows fun _ rows => match bytesT rows with | some l => .ret (.t (.str (strOfNums l))) | none => .fail
      | _ => .fail
    | _, _, _ => .fail
  | .makeFunc (.func f) first caps => match first.toList, allSome (caps.toList.map ev) with
    | [], some l => .ret (.clo f l)
    | _, _ => .fail
  | .makeSlice t l c => match ev l, ev c with | some l, some c => maMake P o.dst t l c | _, _ => .fail
  | .slice t x lo hi none => match ev x, evO ev lo, evO ev hi with
    | some x, some lo, some hi => if cutW ρ o.dst lo hi then (if isWin ρ o.dst && hi.isNone then maSub P t x lo else maTrunc P o.dst t x hi) else maSlice P t x lo hi
    | _, _, _ => .fail
  | .fieldAddr s x f => match ev x, fieldOf P s f with | some a, some (off, _) => addrTo a off | _, _ => .fail
  | .field s x f => match ev x, fieldOf P s f with
    | some (.agg l), some (off, t) => match tagg P t, tsize P t with
      | some g, some n => match cutA g n l off with | some v => .ret v | none => .fail
      | _, _ => .fail
    | _, _ => .fail
  | .indexAddr t x i => match ev x, ev i with | some x, some i => maIndexAddr P t x i | _, _ => .fail
  | .index t x i => match P.underlying t, ev x, ev i with
    | some .string, some (.t (.str s)), some (.t (.int _ i)) => if 0 ≤ i then match s[i.toNat]? with | some b => .ret (.t (.int .u8 b.toNat)) | none => .fail else .fail
    | _, _, _ => .fail
  | .extract x i => match ev x with
    | some (.tup l) => match l[i]? with | some v => .ret v | none => .fail
    | _ => .fail
  | .call { callee := .builtin .len, args, argTypes } => match args.toList, argTypes.toList with
    | [x], [t] => match ev x with | some x => maLen P t x | none => .fail
    | _, _ => .fail
  | .call { callee := .builtin .append, args, argTypes } => match args.toList with
    | [x, y] => match ev x, ev y with | some x, some y => maAppend P o.dst argTypes.toList x y | _, _ => .fail
    | _ => .fail
  | .call { callee := .builtin .copy, args, argTypes } => match args.toList with
    | [x, y] => match ev x, ev y with | some x, some y => maCopy P argTypes.toList x y | _, _ => .fail
    | _ => .fail
  | .call { callee := .builtin .clear, args, argTypes } => match args.toList with
    | [x] => match ev x with | some x => maClear P argTypes.toList x | _ => .fail
    | _ => .fail
  | .call { callee := .builtin .min, args, .. } => match args.toList with
    | [x, y] => match ev x, ev y with
      | some (.t (.int k a)), some (.t (.int _ b)) => .ret (.t (.int k (if b < a then b else a)))
      | _, _ => .fail
    | _ => .fail
  | .call { callee := .builtin .max, args, .. } => match args.toList with
    | [x, y] => match ev x, ev y with
      | some (.t (.int k a)), some (.t (.int _ b)) => .ret (.t (.int k (if b > a then b else a)))
      | _, _ => .fail
    | _ => .fail
  | _ => .fail
end Go.Tm
