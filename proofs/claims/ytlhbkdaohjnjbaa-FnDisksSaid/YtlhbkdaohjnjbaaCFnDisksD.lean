/- Go functions as pure functions (printed). -/
import Derived.Test.YtlhbkdaohjnjbaaTm39
import Derived.Test.YtlhbkdaohjnjbaaPu1
set_option maxRecDepth 100000
set_option maxHeartbeats 20000000
set_option linter.unusedVariables false
set_option linter.unusedSimpArgs false
namespace Go.Tm
structure l1Cur where
  fB : List Int
  fI : Int
  fH : Int
  deriving DecidableEq
def l1Cur.enc (x : l1Cur) : List T := [.sl 1 (x.fB.map (eInt .u8)), .int .i64 x.fI, .int .i64 x.fH]
def l1Cur.wf (x : l1Cur) : Prop := (wSl (wInt .u8)) x.fB ∧ (wInt .i64) x.fI ∧ (wInt .i64) x.fH ∧ True
structure Record where
  fGen : Int
  fSlot : Int
  fLen : Int
  deriving DecidableEq
def Record.enc (x : Record) : List T := [.int .i64 x.fGen, .int .i64 x.fSlot, .int .i64 x.fLen]
def Record.wf (x : Record) : Prop := (wInt .i64) x.fGen ∧ (wInt .i64) x.fSlot ∧ (wInt .i64) x.fLen ∧ True
structure Put where
  fWhat : Int
  fAt : Int
  fB : List Int
  fR : Record
  deriving DecidableEq
def Put.enc (x : Put) : List T := [.int .i64 x.fWhat, .int .i64 x.fAt, .sl 1 (x.fB.map (eInt .u8)), .int .i64 x.fR.fGen, .int .i64 x.fR.fSlot, .int .i64 x.fR.fLen]
def Put.wf (x : Put) : Prop := (wInt .i64) x.fWhat ∧ (wInt .i64) x.fAt ∧ (wSl (wInt .u8)) x.fB ∧ Record.wf x.fR ∧ True
structure Disk where
  fA : List Int
  fB : List Int
  fR : Record
  fP : List Put
  deriving DecidableEq
def Disk.enc (x : Disk) : List T := [.sl 1 (x.fA.map (eInt .u8)), .sl 1 (x.fB.map (eInt .u8)), .int .i64 x.fR.fGen, .int .i64 x.fR.fSlot, .int .i64 x.fR.fLen, .sl 6 (x.fP.map Put.enc)]
def Disk.wf (x : Disk) : Prop := (wSl (wInt .u8)) x.fA ∧ (wSl (wInt .u8)) x.fB ∧ Record.wf x.fR ∧ (wSl Put.wf) x.fP ∧ True
def laws_big (u : Nat) (p0 : List Int) : Option Bool :=
  some (decide (((p0.length : Int)) > 1048576))
def spec_l1New_j1 (u : Nat) (p0 : List Int) (x9 : Int) : Option l1Cur :=
  some ((l1Cur.mk p0 0 x9))
def spec_l1New_j3 (u : Nat) (c_spec_l1New_l2 : (List Int) → Int → Int → Option l1Cur) (p0 : List Int) (x3 : Int) (x4 : Int) (x7 : Bool) : Option l1Cur :=
  bif x7 then ((idx p0 x4).bind fun y8 => c_spec_l1New_l2 p0 (bAnd .i64 (bAdd .i64 (bAdd .i64 (bMul .i64 x3 137) (IntKind.wrap .i64 y8)) 11) 1073741823) (bAdd .i64 x4 1)) else (spec_l1New_j1 u p0 x3)
def spec_l1New_l2 (u : Nat) (k_spec_l1New_l2 : Nat) (p0 : List Int) (x3 : Int) (x4 : Int) : Option l1Cur := match k_spec_l1New_l2 with
  | 0 => none
  | k_spec_l1New_l2 + 1 => bif decide (x4 < ((p0.length : Int))) then (spec_l1New_j3 u (fun z0 z1 z2 => spec_l1New_l2 u k_spec_l1New_l2 z0 z1 z2) p0 x3 x4 (decide (x4 < 4000))) else (spec_l1New_j3 u (fun z0 z1 z2 => spec_l1New_l2 u k_spec_l1New_l2 z0 z1 z2) p0 x3 x4 false)
def spec_l1New (u : Nat) (p0 : List Int) : Option l1Cur :=
  spec_l1New_l2 u u p0 (bAdd .i64 162416 ((p0.length : Int))) 0
def spec_l1Byte_j1 (u : Nat) (x2 : Int) (p0 : l1Cur) (x3 : Int) : Option (Int × l1Cur) :=
  some ((x2, (l1Cur.mk p0.fB x3 (bAdd .i64 (bMul .i64 p0.fH 6364136223846793005) 1442695040888963407))))
def spec_l1Byte (u : Nat) (p0 : l1Cur) : Option (Int × l1Cur) :=
  bif decide (p0.fI < ((p0.fB.length : Int))) then ((idx p0.fB p0.fI).bind fun y1 => spec_l1Byte_j1 u (bAnd .i64 (bAdd .i64 (bAnd .i64 (bXor .i64 (bShr .i64 (bAdd .i64 (bMul .i64 p0.fH 6364136223846793005) 1442695040888963407) 33) (bShr .i64 (bAdd .i64 (bMul .i64 p0.fH 6364136223846793005) 1442695040888963407) 47)) 255) (IntKind.wrap .i64 y1)) 255) p0 (bAdd .i64 p0.fI 1)) else (spec_l1Byte_j1 u (bAnd .i64 (bXor .i64 (bShr .i64 (bAdd .i64 (bMul .i64 p0.fH 6364136223846793005) 1442695040888963407) 33) (bShr .i64 (bAdd .i64 (bMul .i64 p0.fH 6364136223846793005) 1442695040888963407) 47)) 255) p0 p0.fI)
def spec_l1Below (u : Nat) (p0 : l1Cur) (p1 : Int) : Option (Int × l1Cur) :=
  bif decide (p1 ≤ 0) then (some ((0, p0))) else (bif decide (p1 ≤ 256) then ((spec_l1Byte u p0).bind fun r1 => (chk (!(p1 == 0))).bind fun _ => some ((bRem .i64 r1.1 p1, r1.2))) else ((spec_l1Byte u p0).bind fun r3 => (spec_l1Byte u r3.2).bind fun r4 => (spec_l1Byte u r4.2).bind fun r5 => (chk (!(p1 == 0))).bind fun _ => some ((bRem .i64 (bAdd .i64 (bAdd .i64 (bMul .i64 r3.1 65536) (bMul .i64 r4.1 256)) r5.1) p1, r5.2))))
def spec_l1Int (u : Nat) (p0 : l1Cur) (p1 : List Int) : Option (Int × l1Cur) :=
  (spec_l1Below u p0 ((p1.length : Int))).bind fun r1 => (idx p1 r1.1).bind fun y2 => some ((y2, r1.2))
def spec_l3Bytes_j1 (u : Nat) (x18 : List Int) (x19 : List Int) (x20 : Int) (x21 : Int) : Option ((List Int) × l1Cur) :=
  some ((x18, (l1Cur.mk x19 x20 x21)))
def spec_l3Bytes_l2 (u : Nat) (k_spec_l3Bytes_l2 : Nat) (x7 : List Int) (x8 : Int) (x9 : List Int) (x10 : Int) (x11 : Int) : Option ((List Int) × l1Cur) := match k_spec_l3Bytes_l2 with
  | 0 => none
  | k_spec_l3Bytes_l2 + 1 => bif decide (x8 > 0) then ((spec_l1Int u ((l1Cur.mk x9 x10 x11)) ([97, 98, 99, 0, 255])).bind fun r17 => (chk (decide ((x7.length + ([IntKind.wrap .u8 r17.1]).length) * 1 ≤ 140737488355328))).bind fun _ => (fun z0 z1 z2 z3 z4 => spec_l3Bytes_l2 u k_spec_l3Bytes_l2 z0 z1 z2 z3 z4) (x7 ++ ([IntKind.wrap .u8 r17.1])) (bSub .i64 x8 1) r17.2.fB r17.2.fI r17.2.fH) else (spec_l3Bytes_j1 u x7 x9 x10 x11)
def spec_l3Bytes (u : Nat) (p0 : l1Cur) (p1 : Int) : Option ((List Int) × l1Cur) :=
  (spec_l1Below u p0 (bAdd .i64 p1 1)).bind fun r1 => spec_l3Bytes_l2 u u (([] : List Int)) r1.1 r1.2.fB r1.2.fI r1.2.fH
def spec_l1In (u : Nat) (p0 : Int) (p1 : Int) (p2 : Int) : Option Bool :=
  bif decide (p0 ≥ p1) then (some (decide (p0 ≤ p2))) else (some false)
def spec_DiskNew_j1 (u : Nat) (p0 : Int) (p1 : List Int) (x2 : Bool) : Option Disk :=
  bif x2 then (some ((Disk.mk ([]) ([]) ((Record.mk 0 0 0)) ([])))) else ((chk (decide (((([] : List Int)).length + p1.length) * 1 ≤ 140737488355328))).bind fun _ => some ((Disk.mk ((([] : List Int)) ++ p1) ([]) ((Record.mk p0 0 ((p1.length : Int)))) ([]))))
def spec_DiskNew (u : Nat) (p0 : Int) (p1 : List Int) : Option Disk :=
  (spec_l1In u p0 0 1000000).bind fun r1 => bif !r1 then (spec_DiskNew_j1 u p0 p1 true) else (spec_DiskNew_j1 u p0 p1 (decide (((p1.length : Int)) > 240)))
def spec_l1Once (u : Nat) (p0 : l1Cur) (p1 : Int) : Option (Bool × l1Cur) :=
  (spec_l1Below u p0 p1).bind fun r1 => some ((r1.1 == 0, r1.2))
def spec_l9OnePut (u : Nat) (p0 : l1Cur) : Option (Put × l1Cur) :=
  (spec_l1Once u p0 4).bind fun r1 => bif r1.1 then ((spec_l1Below u r1.2 4).bind fun r2 => (spec_l1Below u r2.2 2).bind fun r3 => (spec_l1Below u r3.2 6).bind fun r4 => some (((Put.mk 2 0 ([]) ((Record.mk r2.1 r3.1 r4.1))), r4.2))) else ((spec_l1Below u r1.2 2).bind fun r5 => (spec_l1Below u r5.2 9).bind fun r6 => (spec_l3Bytes u r6.2 5).bind fun r7 => some (((Put.mk r5.1 r6.1 r7.1 ((Record.mk 0 0 0))), r7.2)))
def spec_l9CopyPut (u : Nat) (p0 : Put) : Option Put :=
  (chk (decide (((([] : List Int)).length + p0.fB.length) * 1 ≤ 140737488355328))).bind fun _ => some ((Put.mk p0.fWhat p0.fAt ((([] : List Int)) ++ p0.fB) p0.fR))
def spec_l9Copy_j1 (u : Nat) (p0 : Disk) (x11 : List Put) : Option Disk :=
  some ((Disk.mk ((([] : List Int)) ++ p0.fA) ((([] : List Int)) ++ p0.fB) p0.fR x11))
def spec_l9Copy_l2 (u : Nat) (k_spec_l9Copy_l2 : Nat) (x5 : Int) (p0 : Disk) (x6 : List Put) : Option Disk := match k_spec_l9Copy_l2 with
  | 0 => none
  | k_spec_l9Copy_l2 + 1 => bif decide (x5 < ((p0.fP.length : Int))) then ((idx p0.fP x5).bind fun y9 => (spec_l9CopyPut u y9).bind fun r10 => (chk (decide ((x6.length + ([r10]).length) * 64 ≤ 140737488355328))).bind fun _ => (fun z0 z1 z2 => spec_l9Copy_l2 u k_spec_l9Copy_l2 z0 z1 z2) (bAdd .i64 x5 1) p0 (x6 ++ ([r10]))) else (spec_l9Copy_j1 u p0 x6)
def spec_l9Copy (u : Nat) (p0 : Disk) : Option Disk :=
  (chk (decide (((([] : List Int)).length + p0.fA.length) * 1 ≤ 140737488355328))).bind fun _ => (chk (decide (((([] : List Int)).length + p0.fB.length) * 1 ≤ 140737488355328))).bind fun _ => spec_l9Copy_l2 u u 0 p0 (([] : List Put))
def spec_l9Copy_l2_f (u : Nat) (p0 : Disk) (s : (List Put)) : Option Disk := (spec_l9Copy_j1 u p0 s)
def spec_l9Copy_l2_b (u : Nat) (p0 : Disk) (y9 : Put) (i_ : Nat) (s : (List Put)) (k_ : ((List Put)) → Option Disk) : Option Disk := (spec_l9CopyPut u y9).bind fun r10 => (chk (decide ((s.length + ([r10]).length) * 64 ≤ 140737488355328))).bind fun _ => (fun z0 z1 z2 => k_ z2) (bAdd .i64 (i_ : Int) 1) p0 (s ++ ([r10]))
theorem spec_l9Copy_l2_w (u : Nat) (p0 : Disk) (s : (List Put)) (k : Nat) (hn : p0.fP.length ≤ 9223372036854775807) (hk : p0.fP.length < k) : spec_l9Copy_l2 u k 0 p0 s = Pu.wlist (spec_l9Copy_l2_f u p0) (spec_l9Copy_l2_b u p0) p0.fP 0 s := Pu.wlist_0 (fun (k : Nat) (s : (List Put)) (i : Int) => spec_l9Copy_l2 u k i p0 s) hn (fun _ _ _ => rfl) s hk
def spec_l9Record (u : Nat) (p0 : Record) : Option Bool :=
  (spec_l1In u p0.fGen 0 1000000).bind fun r1 => bif r1 then ((spec_l1In u p0.fSlot 0 1).bind fun r2 => bif r2 then ((spec_l1In u p0.fLen 0 240).bind fun r3 => some r3) else (some false)) else (some false)
def spec_l9Slot (u : Nat) (p0 : Disk) (p1 : Int) : Option ((List Int)) :=
  bif p1 == 1 then (some p0.fB) else (some p0.fA)
def spec_l9Put (u : Nat) (p0 : Put) : Option Bool :=
  bif p0.fWhat == 2 then (bif p0.fAt == 0 then (bif ((p0.fB.length : Int)) == 0 then ((spec_l9Record u p0.fR).bind fun r1 => some r1) else (some false)) else (some false)) else ((spec_l1In u p0.fWhat 0 1).bind fun r2 => bif r2 then ((spec_l1In u p0.fAt 0 240).bind fun r3 => bif r3 then (bif decide (((p0.fB.length : Int)) ≤ (bSub .i64 240 p0.fAt)) then (some ([p0.fR.fGen, p0.fR.fSlot, p0.fR.fLen] == [0, 0, 0])) else (some false)) else (some false)) else (some false))
def spec_DiskOk_j2 (u : Nat)  : Option Bool :=
  some true
def spec_DiskOk_l3 (u : Nat) (k_spec_DiskOk_l3 : Nat) (x5 : Int) (p0 : Disk) : Option Bool := match k_spec_DiskOk_l3 with
  | 0 => none
  | k_spec_DiskOk_l3 + 1 => bif decide (x5 < ((p0.fP.length : Int))) then ((idx p0.fP x5).bind fun y7 => (spec_l9Put u y7).bind fun r8 => bif !r8 then (some false) else ((fun z0 z1 => spec_DiskOk_l3 u k_spec_DiskOk_l3 z0 z1) (bAdd .i64 x5 1) p0)) else (spec_DiskOk_j2 u)
def spec_DiskOk_j1 (u : Nat) (x3 : Bool) (p0 : Disk) : Option Bool :=
  bif x3 then (some false) else (spec_DiskOk_l3 u u 0 p0)
def spec_DiskOk (u : Nat) (p0 : Disk) : Option Bool :=
  bif decide (((p0.fA.length : Int)) > 240) then (spec_DiskOk_j1 u true p0) else (bif decide (((p0.fB.length : Int)) > 240) then (spec_DiskOk_j1 u true p0) else ((spec_l9Record u p0.fR).bind fun r1 => bif !r1 then (spec_DiskOk_j1 u true p0) else ((spec_l9Slot u p0 p0.fR.fSlot).bind fun r2 => bif decide (p0.fR.fLen > ((r2.length : Int))) then (spec_DiskOk_j1 u true p0) else (spec_DiskOk_j1 u (decide (((p0.fP.length : Int)) > 200)) p0))))
def spec_DiskOk_l3_f (u : Nat) (p0 : Disk) (s : Unit) : Option Bool := (spec_DiskOk_j2 u)
def spec_DiskOk_l3_b (u : Nat) (p0 : Disk) (y7 : Put) (i_ : Nat) (s : Unit) (k_ : Unit → Option Bool) : Option Bool := (spec_l9Put u y7).bind fun r8 => bif !r8 then (some false) else ((fun z0 z1 => k_ ()) (bAdd .i64 (i_ : Int) 1) p0)
theorem spec_DiskOk_l3_w (u : Nat) (p0 : Disk) (s : Unit) (k : Nat) (hn : p0.fP.length ≤ 9223372036854775807) (hk : p0.fP.length < k) : spec_DiskOk_l3 u k 0 p0 = Pu.wlist (spec_DiskOk_l3_f u p0) (spec_DiskOk_l3_b u p0) p0.fP 0 s := Pu.wlist_0 (fun (k : Nat) (s : Unit) (i : Int) => spec_DiskOk_l3 u k i p0) hn (fun _ _ _ => rfl) s hk
def spec_l9Add (u : Nat) (p0 : Disk) (p1 : Put) : Option (Disk × Bool) :=
  (spec_l9Copy u p0).bind fun r1 => (spec_l9CopyPut u p1).bind fun r2 => (chk (decide ((r1.fP.length + ([r2]).length) * 64 ≤ 140737488355328))).bind fun _ => (spec_DiskOk u ((Disk.mk r1.fA r1.fB r1.fR (r1.fP ++ ([r2]))))).bind fun r4 => bif !r4 then ((spec_l9Copy u p0).bind fun r5 => some ((r5, false))) else (some (((Disk.mk r1.fA r1.fB r1.fR (r1.fP ++ ([r2]))), true)))
def spec_l9Lay_j2 (u : Nat) (x14 : List Int) : Option ((List Int)) :=
  some x14
def spec_l9Lay_l3 (u : Nat) (k_spec_l9Lay_l3 : Nat) (p1 : Int) (p2 : List Int) (x8 : List Int) (x9 : Int) : Option ((List Int)) := match k_spec_l9Lay_l3 with
  | 0 => none
  | k_spec_l9Lay_l3 + 1 => bif decide (x9 < ((p2.length : Int))) then ((idx p2 x9).bind fun y12 => (idx x8 (bAdd .i64 p1 x9)).bind fun y13 => (fun z0 z1 z2 z3 => spec_l9Lay_l3 u k_spec_l9Lay_l3 z0 z1 z2 z3) p1 p2 (x8.set (Int.toNat (bAdd .i64 p1 x9)) y12) (bAdd .i64 x9 1)) else (spec_l9Lay_j2 u x8)
def spec_l9Lay_j1 (u : Nat) (p1 : Int) (p2 : List Int) (x5 : List Int) : Option ((List Int)) :=
  spec_l9Lay_l3 u u p1 p2 x5 0
def spec_l9Lay_l4 (u : Nat) (k_spec_l9Lay_l4 : Nat) (p1 : Int) (p2 : List Int) (x3 : List Int) : Option ((List Int)) := match k_spec_l9Lay_l4 with
  | 0 => none
  | k_spec_l9Lay_l4 + 1 => bif decide (((x3.length : Int)) < (bAdd .i64 p1 ((p2.length : Int)))) then ((chk (decide ((x3.length + ([0]).length) * 1 ≤ 140737488355328))).bind fun _ => (fun z0 z1 z2 => spec_l9Lay_l4 u k_spec_l9Lay_l4 z0 z1 z2) p1 p2 (x3 ++ ([0]))) else (spec_l9Lay_j1 u p1 p2 x3)
def spec_l9Lay (u : Nat) (p0 : List Int) (p1 : Int) (p2 : List Int) : Option ((List Int)) :=
  (chk (decide (((([] : List Int)).length + p0.length) * 1 ≤ 140737488355328))).bind fun _ => spec_l9Lay_l4 u u p1 p2 ((([] : List Int)) ++ p0)
def spec_l9Lay_l3_f (u : Nat) (p1 : Int) (p2 : List Int) (s : (List Int)) : Option ((List Int)) := (spec_l9Lay_j2 u s)
def spec_l9Lay_l3_b (u : Nat) (p1 : Int) (p2 : List Int) (y12 : Int) (i_ : Nat) (s : (List Int)) (k_ : ((List Int)) → Option ((List Int))) : Option ((List Int)) := (idx s (bAdd .i64 p1 (i_ : Int))).bind fun y13 => (fun z0 z1 z2 z3 => k_ z2) p1 p2 (s.set (Int.toNat (bAdd .i64 p1 (i_ : Int))) y12) (bAdd .i64 (i_ : Int) 1)
theorem spec_l9Lay_l3_w (u : Nat) (p1 : Int) (p2 : List Int) (s : (List Int)) (k : Nat) (hn : p2.length ≤ 9223372036854775807) (hk : p2.length < k) : spec_l9Lay_l3 u k p1 p2 s 0 = Pu.wlist (spec_l9Lay_l3_f u p1 p2) (spec_l9Lay_l3_b u p1 p2) p2 0 s := Pu.wlist_0 (fun (k : Nat) (s : (List Int)) (i : Int) => spec_l9Lay_l3 u k p1 p2 s i) hn (fun _ _ _ => rfl) s hk
def spec_OnePut_j1 (u : Nat) (x5 : List Int) (x6 : List Int) (x7 : Int) (x8 : Int) (x9 : Int) (r1 : Disk) : Option Disk :=
  some ((Disk.mk x5 x6 ((Record.mk x7 x8 x9)) r1.fP))
def spec_OnePut (u : Nat) (p0 : Disk) (p1 : Put) : Option Disk :=
  (spec_l9Copy u p0).bind fun r1 => (spec_l9Put u p1).bind fun r2 => bif !r2 then (spec_OnePut_j1 u r1.fA r1.fB r1.fR.fGen r1.fR.fSlot r1.fR.fLen r1) else (bif p1.fWhat == 0 then ((spec_l9Lay u p0.fA p1.fAt p1.fB).bind fun r3 => spec_OnePut_j1 u r3 r1.fB r1.fR.fGen r1.fR.fSlot r1.fR.fLen r1) else (bif p1.fWhat == 1 then ((spec_l9Lay u p0.fB p1.fAt p1.fB).bind fun r4 => spec_OnePut_j1 u r1.fA r4 r1.fR.fGen r1.fR.fSlot r1.fR.fLen r1) else (spec_OnePut_j1 u r1.fA r1.fB p1.fR.fGen p1.fR.fSlot p1.fR.fLen r1)))
def spec_Sure_j1 (u : Nat) (x26 : List Int) (x27 : List Int) (x28 : Int) (x29 : Int) (x30 : Int) (x31 : List Put) : Option Disk :=
  some ((Disk.mk x26 x27 ((Record.mk x28 x29 x30)) (([] : List Put))))
def spec_Sure_l2 (u : Nat) (k_spec_Sure_l2 : Nat) (x10 : Int) (p0 : Disk) (x11 : List Int) (x12 : List Int) (x13 : Int) (x14 : Int) (x15 : Int) (x16 : List Put) : Option Disk := match k_spec_Sure_l2 with
  | 0 => none
  | k_spec_Sure_l2 + 1 => bif decide (x10 < ((p0.fP.length : Int))) then ((idx p0.fP x10).bind fun y24 => (spec_OnePut u ((Disk.mk x11 x12 ((Record.mk x13 x14 x15)) x16)) y24).bind fun r25 => (fun z0 z1 z2 z3 z4 z5 z6 z7 => spec_Sure_l2 u k_spec_Sure_l2 z0 z1 z2 z3 z4 z5 z6 z7) (bAdd .i64 x10 1) p0 r25.fA r25.fB r25.fR.fGen r25.fR.fSlot r25.fR.fLen r25.fP) else (spec_Sure_j1 u x11 x12 x13 x14 x15 x16)
def spec_Sure (u : Nat) (p0 : Disk) : Option Disk :=
  (spec_l9Copy u p0).bind fun r1 => (spec_DiskOk u p0).bind fun r2 => bif !r2 then (some r1) else (spec_Sure_l2 u u 0 p0 r1.fA r1.fB r1.fR.fGen r1.fR.fSlot r1.fR.fLen r1.fP)
def spec_Sure_l2_f (u : Nat) (p0 : Disk) (s : (List Int) × (List Int) × Int × Int × Int × (List Put)) : Option Disk := (spec_Sure_j1 u s.1 s.2.1 s.2.2.1 s.2.2.2.1 s.2.2.2.2.1 s.2.2.2.2.2)
def spec_Sure_l2_b (u : Nat) (p0 : Disk) (y24 : Put) (i_ : Nat) (s : (List Int) × (List Int) × Int × Int × Int × (List Put)) (k_ : ((List Int) × (List Int) × Int × Int × Int × (List Put)) → Option Disk) : Option Disk := (spec_OnePut u ((Disk.mk s.1 s.2.1 ((Record.mk s.2.2.1 s.2.2.2.1 s.2.2.2.2.1)) s.2.2.2.2.2)) y24).bind fun r25 => (fun z0 z1 z2 z3 z4 z5 z6 z7 => k_ (z2, z3, z4, z5, z6, z7)) (bAdd .i64 (i_ : Int) 1) p0 r25.fA r25.fB r25.fR.fGen r25.fR.fSlot r25.fR.fLen r25.fP
theorem spec_Sure_l2_w (u : Nat) (p0 : Disk) (s : (List Int) × (List Int) × Int × Int × Int × (List Put)) (k : Nat) (hn : p0.fP.length ≤ 9223372036854775807) (hk : p0.fP.length < k) : spec_Sure_l2 u k 0 p0 s.1 s.2.1 s.2.2.1 s.2.2.2.1 s.2.2.2.2.1 s.2.2.2.2.2 = Pu.wlist (spec_Sure_l2_f u p0) (spec_Sure_l2_b u p0) p0.fP 0 s := Pu.wlist_0 (fun (k : Nat) (s : (List Int) × (List Int) × Int × Int × Int × (List Put)) (i : Int) => spec_Sure_l2 u k i p0 s.1 s.2.1 s.2.2.1 s.2.2.2.1 s.2.2.2.2.1 s.2.2.2.2.2) hn (fun _ _ _ => rfl) s hk
def spec_l9Draw_j1 (u : Nat) (x47 : List Int) (x48 : List Int) (x49 : Int) (x50 : Int) (x51 : Int) (x52 : List Put) (x53 : List Int) (x54 : Int) (x55 : Int) : Option (Disk × l1Cur) :=
  some (((Disk.mk x47 x48 ((Record.mk x49 x50 x51)) x52), (l1Cur.mk x53 x54 x55)))
def spec_l9Draw_j3 (u : Nat) (c_spec_l9Draw_l2 : Int → (List Int) → (List Int) → Int → Int → Int → (List Put) → (List Int) → Int → Int → Option (Disk × l1Cur)) (x15 : Int) (x41 : List Int) (x42 : List Int) (x43 : Int) (x44 : Int) (x45 : Int) (x46 : List Put) (r38 : Bool × l1Cur) : Option (Disk × l1Cur) :=
  c_spec_l9Draw_l2 (bSub .i64 x15 1) x41 x42 x43 x44 x45 x46 r38.2.fB r38.2.fI r38.2.fH
def spec_l9Draw_j4 (u : Nat) (c_spec_l9Draw_l2 : Int → (List Int) → (List Int) → Int → Int → Int → (List Put) → (List Int) → Int → Int → Option (Disk × l1Cur)) (x15 : Int) (x40 : Bool) (r36 : Disk × Bool) (r38 : Bool × l1Cur) (r37 : Disk) : Option (Disk × l1Cur) :=
  bif x40 then (spec_l9Draw_j3 u c_spec_l9Draw_l2 x15 r37.fA r37.fB r37.fR.fGen r37.fR.fSlot r37.fR.fLen r37.fP r38) else (spec_l9Draw_j3 u c_spec_l9Draw_l2 x15 r36.1.fA r36.1.fB r36.1.fR.fGen r36.1.fR.fSlot r36.1.fR.fLen r36.1.fP r38)
def spec_l9Draw_l2 (u : Nat) (k_spec_l9Draw_l2 : Nat) (x15 : Int) (x16 : List Int) (x17 : List Int) (x18 : Int) (x19 : Int) (x20 : Int) (x21 : List Put) (x22 : List Int) (x23 : Int) (x24 : Int) : Option (Disk × l1Cur) := match k_spec_l9Draw_l2 with
  | 0 => none
  | k_spec_l9Draw_l2 + 1 => bif decide (x15 > 0) then ((spec_l9OnePut u ((l1Cur.mk x22 x23 x24))).bind fun r35 => (spec_l9Add u ((Disk.mk x16 x17 ((Record.mk x18 x19 x20)) x21)) r35.1).bind fun r36 => (spec_Sure u r36.1).bind fun r37 => (spec_l1Once u r35.2 5).bind fun r38 => bif r38.1 then ((spec_DiskOk u r37).bind fun r39 => spec_l9Draw_j4 u (fun z0 z1 z2 z3 z4 z5 z6 z7 z8 z9 => spec_l9Draw_l2 u k_spec_l9Draw_l2 z0 z1 z2 z3 z4 z5 z6 z7 z8 z9) x15 r39 r36 r38 r37) else (spec_l9Draw_j4 u (fun z0 z1 z2 z3 z4 z5 z6 z7 z8 z9 => spec_l9Draw_l2 u k_spec_l9Draw_l2 z0 z1 z2 z3 z4 z5 z6 z7 z8 z9) x15 false r36 r38 r37)) else (spec_l9Draw_j1 u x16 x17 x18 x19 x20 x21 x22 x23 x24)
def spec_l9Draw (u : Nat) (p0 : l1Cur) : Option (Disk × l1Cur) :=
  (spec_l1Below u p0 3).bind fun r1 => (spec_l3Bytes u r1.2 9).bind fun r2 => (spec_DiskNew u r1.1 r2.1).bind fun r3 => (spec_l1Below u r2.2 5).bind fun r4 => spec_l9Draw_l2 u u r4.1 r3.fA r3.fB r3.fR.fGen r3.fR.fSlot r3.fR.fLen r3.fP r4.2.fB r4.2.fI r4.2.fH
def spec_DrawDisk (u : Nat) (p0 : List Int) : Option Disk :=
  (spec_l1New u p0).bind fun r1 => (spec_l9Draw u r1).bind fun r2 => some r2.1
def spec_l9Any_j1 (u : Nat) (r1 : Disk × l1Cur) (x8 : Int) (x9 : Int) (x10 : Int) (x11 : List Put) (x12 : List Int) (x13 : Int) (x14 : Int) : Option (Disk × l1Cur) :=
  some (((Disk.mk r1.1.fA r1.1.fB ((Record.mk x8 x9 x10)) x11), (l1Cur.mk x12 x13 x14)))
def spec_l9Any (u : Nat) (p0 : l1Cur) : Option (Disk × l1Cur) :=
  (spec_l9Draw u p0).bind fun r1 => (spec_l1Below u r1.2 12).bind fun r2 => bif r2.1 == 0 then ((spec_l1Int u r2.2 ([-1, 0, 240, 241])).bind fun r3 => spec_l9Any_j1 u r1 r1.1.fR.fGen r1.1.fR.fSlot r3.1 r1.1.fP r3.2.fB r3.2.fI r3.2.fH) else (bif r2.1 == 1 then ((spec_l1Int u r2.2 ([-1, 1, 2])).bind fun r4 => spec_l9Any_j1 u r1 r1.1.fR.fGen r4.1 r1.1.fR.fLen r1.1.fP r4.2.fB r4.2.fI r4.2.fH) else (bif r2.1 == 2 then ((spec_l1Int u r2.2 ([-1, 1000001])).bind fun r5 => spec_l9Any_j1 u r1 r5.1 r1.1.fR.fSlot r1.1.fR.fLen r1.1.fP r5.2.fB r5.2.fI r5.2.fH) else (bif r2.1 == 3 then ((spec_l1Int u r2.2 ([3, 0, 2])).bind fun r6 => (spec_l1Int u r6.2 ([-1, 240, 0])).bind fun r7 => (chk (decide ((r1.1.fP.length + ([(Put.mk r6.1 r7.1 ([1]) ((Record.mk 0 0 0)))]).length) * 64 ≤ 140737488355328))).bind fun _ => spec_l9Any_j1 u r1 r1.1.fR.fGen r1.1.fR.fSlot r1.1.fR.fLen (r1.1.fP ++ ([(Put.mk r6.1 r7.1 ([1]) ((Record.mk 0 0 0)))])) r7.2.fB r7.2.fI r7.2.fH) else (spec_l9Any_j1 u r1 r1.1.fR.fGen r1.1.fR.fSlot r1.1.fR.fLen r1.1.fP r2.2.fB r2.2.fI r2.2.fH))))
def spec_DrawFall (u : Nat) (p0 : List Int) : Option (Disk × Int) :=
  (spec_l1New u p0).bind fun r1 => (spec_l9Any u r1).bind fun r2 => (spec_l1Int u r2.2 ([0, 1, 2, 3, 5, 31, -1])).bind fun r3 => some ((r2.1, r3.1))
def spec_DrawOnePut_j1 (u : Nat) (r2 : Disk × l1Cur) (x6 : Int) (r3 : Put × l1Cur) : Option (Disk × Put) :=
  some ((r2.1, (Put.mk x6 r3.1.fAt r3.1.fB r3.1.fR)))
def spec_DrawOnePut (u : Nat) (p0 : List Int) : Option (Disk × Put) :=
  (spec_l1New u p0).bind fun r1 => (spec_l9Any u r1).bind fun r2 => (spec_l9OnePut u r2.2).bind fun r3 => (spec_l1Once u r3.2 8).bind fun r4 => bif r4.1 then ((spec_l1Below u r4.2 5).bind fun r5 => spec_DrawOnePut_j1 u r2 (bSub .i64 r5.1 1) r3) else (spec_DrawOnePut_j1 u r2 r3.1.fWhat r3)
def spec_DrawSure (u : Nat) (p0 : List Int) : Option Disk :=
  (spec_l1New u p0).bind fun r1 => (spec_l9Any u r1).bind fun r2 => some r2.1
def spec_DrawPutBytes (u : Nat) (p0 : List Int) : Option (Disk × Int × Int × (List Int)) :=
  (spec_l1New u p0).bind fun r1 => (spec_l9Any u r1).bind fun r2 => (spec_l1Int u r2.2 ([0, 1, 2, -1])).bind fun r3 => (spec_l1Int u r3.2 ([0, 1, 5, 239, 240, -1])).bind fun r4 => (spec_l3Bytes u r4.2 4).bind fun r5 => some ((r2.1, r3.1, r4.1, r5.1))
def impl_isSlot (u : Nat) (p0 : Int) : Option Bool :=
  bif p0 == 0 then (some true) else (some (p0 == 1))
def impl_cloned (u : Nat) (p0 : List Int) : Option ((List Int)) :=
  (chk (decide (0 ≤ ((p0.length : Int))) && (0 == 0 || 0 == ((p0.length : Int))))).bind fun _ => (chk (decide (Int.toNat ((p0.length : Int)) * 1 ≤ 140737488355328))).bind fun _ => (chk (decide (((List.replicate (Int.toNat 0) (0 : Int)).length + p0.length) * 1 ≤ 140737488355328))).bind fun _ => some ((List.replicate (Int.toNat 0) (0 : Int)) ++ p0)
def impl_copyPut (u : Nat) (p0 : Put) : Option Put :=
  (impl_cloned u p0.fB).bind fun r1 => some ((Put.mk p0.fWhat p0.fAt r1 p0.fR))
def impl_copyDisk_j1 (u : Nat) (r1 : (List Int)) (r2 : (List Int)) (p0 : Disk) (x11 : List Put) : Option Disk :=
  some ((Disk.mk r1 r2 p0.fR x11))
def impl_copyDisk_l2 (u : Nat) (k_impl_copyDisk_l2 : Nat) (p0 : Disk) (x5 : Int) (r1 : (List Int)) (r2 : (List Int)) (x6 : List Put) : Option Disk := match k_impl_copyDisk_l2 with
  | 0 => none
  | k_impl_copyDisk_l2 + 1 => bif decide (x5 < ((p0.fP.length : Int))) then ((idx p0.fP x5).bind fun y9 => (impl_copyPut u y9).bind fun r10 => (chk (decide ((x6.length + ([r10]).length) * 64 ≤ 140737488355328))).bind fun _ => (fun z0 z1 z2 z3 z4 => impl_copyDisk_l2 u k_impl_copyDisk_l2 z0 z1 z2 z3 z4) p0 (bAdd .i64 x5 1) r1 r2 (x6 ++ ([r10]))) else (impl_copyDisk_j1 u r1 r2 p0 x6)
def impl_copyDisk (u : Nat) (p0 : Disk) : Option Disk :=
  (impl_cloned u p0.fA).bind fun r1 => (impl_cloned u p0.fB).bind fun r2 => impl_copyDisk_l2 u u p0 0 r1 r2 ([])
def impl_copyDisk_l2_f (u : Nat) (p0 : Disk) (r1 : (List Int)) (r2 : (List Int)) (s : (List Put)) : Option Disk := (impl_copyDisk_j1 u r1 r2 p0 s)
def impl_copyDisk_l2_b (u : Nat) (p0 : Disk) (r1 : (List Int)) (r2 : (List Int)) (y9 : Put) (i_ : Nat) (s : (List Put)) (k_ : ((List Put)) → Option Disk) : Option Disk := (impl_copyPut u y9).bind fun r10 => (chk (decide ((s.length + ([r10]).length) * 64 ≤ 140737488355328))).bind fun _ => (fun z0 z1 z2 z3 z4 => k_ z4) p0 (bAdd .i64 (i_ : Int) 1) r1 r2 (s ++ ([r10]))
theorem impl_copyDisk_l2_w (u : Nat) (p0 : Disk) (r1 : (List Int)) (r2 : (List Int)) (s : (List Put)) (k : Nat) (hn : p0.fP.length ≤ 9223372036854775807) (hk : p0.fP.length < k) : impl_copyDisk_l2 u k p0 0 r1 r2 s = Pu.wlist (impl_copyDisk_l2_f u p0 r1 r2) (impl_copyDisk_l2_b u p0 r1 r2) p0.fP 0 s := Pu.wlist_0 (fun (k : Nat) (s : (List Put)) (i : Int) => impl_copyDisk_l2 u k p0 i r1 r2 s) hn (fun _ _ _ => rfl) s hk
def impl_within (u : Nat) (p0 : Int) (p1 : Int) (p2 : Int) : Option Bool :=
  bif decide (p0 ≥ p1) then (some (decide (p0 ≤ p2))) else (some false)
def impl_isGen (u : Nat) (p0 : Int) : Option Bool :=
  (impl_within u p0 0 1000000).bind fun r1 => some r1
def impl_isRecord (u : Nat) (p0 : Record) : Option Bool :=
  (impl_isGen u p0.fGen).bind fun r1 => bif r1 then ((impl_isSlot u p0.fSlot).bind fun r2 => bif r2 then ((impl_within u p0.fLen 0 240).bind fun r3 => some r3) else (some false)) else (some false)
def impl_Disk__slot__frz0 (u : Nat) (p0 : Disk) (p1 : Int) : Option ((List Int)) :=
  bif p1 == 0 then (some p0.fA) else (some p0.fB)
def impl_isPut (u : Nat) (p0 : Put) : Option Bool :=
  bif p0.fWhat == 2 then (bif p0.fAt == 0 then (bif ((p0.fB.length : Int)) == 0 then ((impl_isRecord u p0.fR).bind fun r1 => some r1) else (some false)) else (some false)) else ((impl_isSlot u p0.fWhat).bind fun r2 => bif r2 then (bif [p0.fR.fGen, p0.fR.fSlot, p0.fR.fLen] == [0, 0, 0] then ((impl_within u p0.fAt 0 (bSub .i64 240 ((p0.fB.length : Int)))).bind fun r3 => some r3) else (some false)) else (some false))
def impl_DiskOk_1 (u : Nat) (p0 : Put) : Option Bool :=
  (impl_isPut u p0).bind fun r1 => some (!r1)
def slices_IndexFunc___impl_Put_impl_Put__impl_DiskOk_1_j1 (u : Nat)  : Option Int :=
  some (-1)
def slices_IndexFunc___impl_Put_impl_Put__impl_DiskOk_1_l2 (u : Nat) (k_slices_IndexFunc___impl_Put_impl_Put__impl_DiskOk_1_l2 : Nat) (p0 : List Put) (x2 : Int) : Option Int := match k_slices_IndexFunc___impl_Put_impl_Put__impl_DiskOk_1_l2 with
  | 0 => none
  | k_slices_IndexFunc___impl_Put_impl_Put__impl_DiskOk_1_l2 + 1 => bif decide (x2 < ((p0.length : Int))) then ((idx p0 x2).bind fun y4 => (impl_DiskOk_1 u y4).bind fun r5 => bif r5 then (some x2) else ((fun z0 z1 => slices_IndexFunc___impl_Put_impl_Put__impl_DiskOk_1_l2 u k_slices_IndexFunc___impl_Put_impl_Put__impl_DiskOk_1_l2 z0 z1) p0 (bAdd .i64 x2 1))) else (slices_IndexFunc___impl_Put_impl_Put__impl_DiskOk_1_j1 u)
def slices_IndexFunc___impl_Put_impl_Put__impl_DiskOk_1 (u : Nat) (p0 : List Put) : Option Int :=
  slices_IndexFunc___impl_Put_impl_Put__impl_DiskOk_1_l2 u u p0 0
def slices_IndexFunc___impl_Put_impl_Put__impl_DiskOk_1_l2_f (u : Nat) (p0 : List Put) (s : Unit) : Option Int := (slices_IndexFunc___impl_Put_impl_Put__impl_DiskOk_1_j1 u)
def slices_IndexFunc___impl_Put_impl_Put__impl_DiskOk_1_l2_b (u : Nat) (p0 : List Put) (y4 : Put) (i_ : Nat) (s : Unit) (k_ : Unit → Option Int) : Option Int := (impl_DiskOk_1 u y4).bind fun r5 => bif r5 then (some (i_ : Int)) else ((fun z0 z1 => k_ ()) p0 (bAdd .i64 (i_ : Int) 1))
theorem slices_IndexFunc___impl_Put_impl_Put__impl_DiskOk_1_l2_w (u : Nat) (p0 : List Put) (s : Unit) (k : Nat) (hn : p0.length ≤ 9223372036854775807) (hk : p0.length < k) : slices_IndexFunc___impl_Put_impl_Put__impl_DiskOk_1_l2 u k p0 0 = Pu.wlist (slices_IndexFunc___impl_Put_impl_Put__impl_DiskOk_1_l2_f u p0) (slices_IndexFunc___impl_Put_impl_Put__impl_DiskOk_1_l2_b u p0) p0 0 s := Pu.wlist_0 (fun (k : Nat) (s : Unit) (i : Int) => slices_IndexFunc___impl_Put_impl_Put__impl_DiskOk_1_l2 u k p0 i) hn (fun _ _ _ => rfl) s hk
def slices_ContainsFunc___impl_Put_impl_Put__impl_DiskOk_1 (u : Nat) (p0 : List Put) : Option Bool :=
  (slices_IndexFunc___impl_Put_impl_Put__impl_DiskOk_1 u p0).bind fun r1 => some (decide (r1 ≥ 0))
def impl_DiskOk_j1 (u : Nat) (p0 : Disk) (x3 : Bool) : Option Bool :=
  bif x3 then (some false) else (bif decide (((p0.fP.length : Int)) ≤ 200) then ((slices_ContainsFunc___impl_Put_impl_Put__impl_DiskOk_1 u p0.fP).bind fun r4 => some (!r4)) else (some false))
def impl_DiskOk (u : Nat) (p0 : Disk) : Option Bool :=
  bif decide (((p0.fA.length : Int)) > 240) then (impl_DiskOk_j1 u p0 true) else (bif decide (((p0.fB.length : Int)) > 240) then (impl_DiskOk_j1 u p0 true) else ((impl_isRecord u p0.fR).bind fun r1 => bif !r1 then (impl_DiskOk_j1 u p0 true) else ((impl_Disk__slot__frz0 u p0 p0.fR.fSlot).bind fun r2 => impl_DiskOk_j1 u p0 (decide (p0.fR.fLen > ((r2.length : Int)))))))
def impl_Disk__with (u : Nat) (p0 : Disk) (p1 : Put) : Option (Disk × Bool) :=
  (impl_copyDisk u p0).bind fun r1 => (impl_copyPut u p1).bind fun r2 => (chk (decide ((r1.fP.length + ([r2]).length) * 64 ≤ 140737488355328))).bind fun _ => (impl_DiskOk u ((Disk.mk r1.fA r1.fB r1.fR (r1.fP ++ ([r2]))))).bind fun r4 => bif !r4 then ((impl_copyDisk u p0).bind fun r5 => some ((r5, false))) else (some (((Disk.mk r1.fA r1.fB r1.fR (r1.fP ++ ([r2]))), true)))
def impl_PutBytes (u : Nat) (p0 : Disk) (p1 : Int) (p2 : Int) (p3 : List Int) : Option (Disk × Bool) :=
  (impl_isSlot u p1).bind fun r1 => bif !r1 then ((impl_copyDisk u p0).bind fun r2 => some ((r2, false))) else ((impl_Disk__with u p0 ((Put.mk p1 p2 p3 ((Record.mk 0 0 0))))).bind fun r3 => some ((r3.1, r3.2)))
def spec_PutBytes (u : Nat) (p0 : Disk) (p1 : Int) (p2 : Int) (p3 : List Int) : Option (Disk × Bool) :=
  (spec_l1In u p1 0 1).bind fun r1 => bif !r1 then ((spec_l9Copy u p0).bind fun r2 => some ((r2, false))) else ((spec_l9Add u p0 ((Put.mk p1 p2 p3 ((Record.mk 0 0 0))))).bind fun r3 => some ((r3.1, r3.2)))
def spec_DrawPutRecord (u : Nat) (p0 : List Int) : Option (Disk × Record) :=
  (spec_l1New u p0).bind fun r1 => (spec_l9Any u r1).bind fun r2 => (spec_l1Int u r2.2 ([0, 1, -1, 1000001])).bind fun r3 => (spec_l1Below u r3.2 3).bind fun r4 => (spec_l1Int u r4.2 ([0, 5, 240, 241])).bind fun r5 => some ((r2.1, (Record.mk r3.1 r4.1 r5.1)))
def impl_PutRecord (u : Nat) (p0 : Disk) (p1 : Record) : Option (Disk × Bool) :=
  (impl_Disk__with u p0 ((Put.mk 2 0 ([]) p1))).bind fun r1 => some ((r1.1, r1.2))
def spec_PutRecord (u : Nat) (p0 : Disk) (p1 : Record) : Option (Disk × Bool) :=
  (spec_l9Add u p0 ((Put.mk 2 0 ([]) p1))).bind fun r1 => some ((r1.1, r1.2))
def spec_DrawDiskNew_j1 (u : Nat) (x5 : List Int) (x6 : List Int) (x7 : Int) (x8 : Int) : Option (Int × (List Int)) :=
  (spec_l1Int u ((l1Cur.mk x6 x7 x8)) ([0, 1, 1000000, 1000001, -1])).bind fun r9 => some ((r9.1, x5))
def spec_DrawDiskNew (u : Nat) (p0 : List Int) : Option (Int × (List Int)) :=
  (spec_l1New u p0).bind fun r1 => (spec_l3Bytes u r1 9).bind fun r2 => (spec_l1Once u r2.2 12).bind fun r3 => bif r3.1 then ((spec_l1Below u r3.2 2).bind fun r4 => (chk (decide (0 ≤ (bAdd .i64 240 r4.1)) && ((bAdd .i64 240 r4.1) == 0 || (bAdd .i64 240 r4.1) == (bAdd .i64 240 r4.1)))).bind fun _ => (chk (decide (Int.toNat (bAdd .i64 240 r4.1) * 1 ≤ 140737488355328))).bind fun _ => spec_DrawDiskNew_j1 u (List.replicate (Int.toNat (bAdd .i64 240 r4.1)) (0 : Int)) r4.2.fB r4.2.fI r4.2.fH) else (spec_DrawDiskNew_j1 u r2.1 r3.2.fB r3.2.fI r3.2.fH)
def impl_SetOk (u : Nat) (p0 : Int) : Option Bool :=
  (impl_within u p0 0 1099511627775).bind fun r1 => some r1
def impl_isPlace (u : Nat) (p0 : Int) : Option Bool :=
  (impl_within u p0 0 39).bind fun r1 => some r1
def impl_InSet (u : Nat) (p0 : Int) (p1 : Int) : Option Bool :=
  (impl_SetOk u p0).bind fun r1 => bif r1 then ((impl_isPlace u p1).bind fun r2 => bif r2 then ((chk (decide (0 ≤ p1))).bind fun _ => some ((bAnd .i64 (bShr .i64 p0 p1) 1) == 1)) else (some false)) else (some false)
def impl_Fall_1 (u : Nat) (p0 : Int) (q0 : Int) : Option Bool :=
  (impl_InSet u q0 p0).bind fun r1 => some r1
def impl_Disk__slot__own_p0_fA_p0_fB_p0_fP (u : Nat) (p0 : Disk) (p1 : Int) : Option (Nat × Disk) :=
  bif p1 == 0 then (some ((0, p0))) else (some ((1, p0)))
def impl_Disk__perform__own_p0_fP_j1 (u : Nat) (p1 : Put) (r1 : Nat × Disk) (x5 : List Int) : Option Disk :=
  (chk (subOK p1.fAt x5.length)).bind fun _ => some ((Disk.mk r1.2.fA (overL x5 p1.fB (Int.toNat p1.fAt)) r1.2.fR r1.2.fP))
def impl_Disk__perform__own_p0_fP_l2 (u : Nat) (k_impl_Disk__perform__own_p0_fP_l2 : Nat) (p1 : Put) (r1 : Nat × Disk) (x3 : List Int) : Option Disk := match k_impl_Disk__perform__own_p0_fP_l2 with
  | 0 => none
  | k_impl_Disk__perform__own_p0_fP_l2 + 1 => bif decide (((x3.length : Int)) < (bAdd .i64 p1.fAt ((p1.fB.length : Int)))) then ((chk (decide ((x3.length + ([0]).length) * 1 ≤ 140737488355328))).bind fun _ => (fun z0 z1 z2 => impl_Disk__perform__own_p0_fP_l2 u k_impl_Disk__perform__own_p0_fP_l2 z0 z1 z2) p1 r1 (x3 ++ ([0]))) else (impl_Disk__perform__own_p0_fP_j1 u p1 r1 x3)
def impl_Disk__perform__own_p0_fP_j3 (u : Nat) (p1 : Put) (x9 : List Int) (r1 : Nat × Disk) : Option Disk :=
  (chk (subOK p1.fAt x9.length)).bind fun _ => some ((Disk.mk (overL x9 p1.fB (Int.toNat p1.fAt)) r1.2.fB r1.2.fR r1.2.fP))
def impl_Disk__perform__own_p0_fP_l4 (u : Nat) (k_impl_Disk__perform__own_p0_fP_l4 : Nat) (p1 : Put) (x7 : List Int) (r1 : Nat × Disk) : Option Disk := match k_impl_Disk__perform__own_p0_fP_l4 with
  | 0 => none
  | k_impl_Disk__perform__own_p0_fP_l4 + 1 => bif decide (((x7.length : Int)) < (bAdd .i64 p1.fAt ((p1.fB.length : Int)))) then ((chk (decide ((x7.length + ([0]).length) * 1 ≤ 140737488355328))).bind fun _ => (fun z0 z1 z2 => impl_Disk__perform__own_p0_fP_l4 u k_impl_Disk__perform__own_p0_fP_l4 z0 z1 z2) p1 (x7 ++ ([0])) r1) else (impl_Disk__perform__own_p0_fP_j3 u p1 x7 r1)
def impl_Disk__perform__own_p0_fP (u : Nat) (p0 : Disk) (p1 : Put) : Option Disk :=
  bif p1.fWhat == 2 then (some ((Disk.mk p0.fA p0.fB p1.fR p0.fP))) else ((impl_Disk__slot__own_p0_fA_p0_fB_p0_fP u p0 p1.fWhat).bind fun r1 => bif Nat.beq r1.1 0 then (impl_Disk__perform__own_p0_fP_l4 u u p1 r1.2.fA r1) else (bif Nat.beq r1.1 1 then (impl_Disk__perform__own_p0_fP_l2 u u p1 r1 r1.2.fB) else none))
def impl_Disk__settled__impl_Fall_1_j1 (u : Nat) (x33 : List Int) (x34 : List Int) (x35 : Int) (x36 : Int) (x37 : Int) (x38 : List Put) : Option Disk :=
  some ((Disk.mk x33 x34 ((Record.mk x35 x36 x37)) ([])))
def impl_Disk__settled__impl_Fall_1_j3 (u : Nat) (c_impl_Disk__settled__impl_Fall_1_l2 : Int → Disk → Int → (List Int) → (List Int) → Int → Int → Int → (List Put) → Option Disk) (p1_0 : Int) (p0 : Disk) (x10 : Int) (x27 : List Int) (x28 : List Int) (x29 : Int) (x30 : Int) (x31 : Int) (x32 : List Put) : Option Disk :=
  c_impl_Disk__settled__impl_Fall_1_l2 p1_0 p0 (bAdd .i64 x10 1) x27 x28 x29 x30 x31 x32
def impl_Disk__settled__impl_Fall_1_l2 (u : Nat) (k_impl_Disk__settled__impl_Fall_1_l2 : Nat) (p1_0 : Int) (p0 : Disk) (x10 : Int) (x11 : List Int) (x12 : List Int) (x13 : Int) (x14 : Int) (x15 : Int) (x16 : List Put) : Option Disk := match k_impl_Disk__settled__impl_Fall_1_l2 with
  | 0 => none
  | k_impl_Disk__settled__impl_Fall_1_l2 + 1 => bif decide (x10 < ((p0.fP.length : Int))) then ((idx p0.fP x10).bind fun y24 => (impl_Fall_1 u x10 p1_0).bind fun r25 => bif r25 then ((impl_Disk__perform__own_p0_fP u ((Disk.mk x11 x12 ((Record.mk x13 x14 x15)) x16)) y24).bind fun r26 => impl_Disk__settled__impl_Fall_1_j3 u (fun z0 z1 z2 z3 z4 z5 z6 z7 z8 => impl_Disk__settled__impl_Fall_1_l2 u k_impl_Disk__settled__impl_Fall_1_l2 z0 z1 z2 z3 z4 z5 z6 z7 z8) p1_0 p0 x10 r26.fA r26.fB r26.fR.fGen r26.fR.fSlot r26.fR.fLen r26.fP) else (impl_Disk__settled__impl_Fall_1_j3 u (fun z0 z1 z2 z3 z4 z5 z6 z7 z8 => impl_Disk__settled__impl_Fall_1_l2 u k_impl_Disk__settled__impl_Fall_1_l2 z0 z1 z2 z3 z4 z5 z6 z7 z8) p1_0 p0 x10 x11 x12 x13 x14 x15 x16)) else (impl_Disk__settled__impl_Fall_1_j1 u x11 x12 x13 x14 x15 x16)
def impl_Disk__settled__impl_Fall_1 (u : Nat) (p0 : Disk) (p1_0 : Int) : Option Disk :=
  (impl_copyDisk u p0).bind fun r1 => (impl_DiskOk u p0).bind fun r2 => bif !r2 then (some r1) else (impl_Disk__settled__impl_Fall_1_l2 u u p1_0 p0 0 r1.fA r1.fB r1.fR.fGen r1.fR.fSlot r1.fR.fLen r1.fP)
def impl_Disk__settled__impl_Fall_1_l2_f (u : Nat) (p1_0 : Int) (p0 : Disk) (s : (List Int) × (List Int) × Int × Int × Int × (List Put)) : Option Disk := (impl_Disk__settled__impl_Fall_1_j1 u s.1 s.2.1 s.2.2.1 s.2.2.2.1 s.2.2.2.2.1 s.2.2.2.2.2)
def impl_Disk__settled__impl_Fall_1_l2_b (u : Nat) (p1_0 : Int) (p0 : Disk) (y24 : Put) (i_ : Nat) (s : (List Int) × (List Int) × Int × Int × Int × (List Put)) (k_ : ((List Int) × (List Int) × Int × Int × Int × (List Put)) → Option Disk) : Option Disk := (impl_Fall_1 u (i_ : Int) p1_0).bind fun r25 => bif r25 then ((impl_Disk__perform__own_p0_fP u ((Disk.mk s.1 s.2.1 ((Record.mk s.2.2.1 s.2.2.2.1 s.2.2.2.2.1)) s.2.2.2.2.2)) y24).bind fun r26 => impl_Disk__settled__impl_Fall_1_j3 u (fun z0 z1 z2 z3 z4 z5 z6 z7 z8 => k_ (z3, z4, z5, z6, z7, z8)) p1_0 p0 (i_ : Int) r26.fA r26.fB r26.fR.fGen r26.fR.fSlot r26.fR.fLen r26.fP) else (impl_Disk__settled__impl_Fall_1_j3 u (fun z0 z1 z2 z3 z4 z5 z6 z7 z8 => k_ (z3, z4, z5, z6, z7, z8)) p1_0 p0 (i_ : Int) s.1 s.2.1 s.2.2.1 s.2.2.2.1 s.2.2.2.2.1 s.2.2.2.2.2)
theorem impl_Disk__settled__impl_Fall_1_l2_w (u : Nat) (p1_0 : Int) (p0 : Disk) (s : (List Int) × (List Int) × Int × Int × Int × (List Put)) (k : Nat) (hn : p0.fP.length ≤ 9223372036854775807) (hk : p0.fP.length < k) : impl_Disk__settled__impl_Fall_1_l2 u k p1_0 p0 0 s.1 s.2.1 s.2.2.1 s.2.2.2.1 s.2.2.2.2.1 s.2.2.2.2.2 = Pu.wlist (impl_Disk__settled__impl_Fall_1_l2_f u p1_0 p0) (impl_Disk__settled__impl_Fall_1_l2_b u p1_0 p0) p0.fP 0 s := Pu.wlist_0 (fun (k : Nat) (s : (List Int) × (List Int) × Int × Int × Int × (List Put)) (i : Int) => impl_Disk__settled__impl_Fall_1_l2 u k p1_0 p0 i s.1 s.2.1 s.2.2.1 s.2.2.2.1 s.2.2.2.2.1 s.2.2.2.2.2) hn (fun _ _ _ => rfl) s hk
def impl_Fall (u : Nat) (p0 : Disk) (p1 : Int) : Option Disk :=
  (impl_Disk__settled__impl_Fall_1 u p0 p1).bind fun r1 => some r1
def spec_SetOk (u : Nat) (p0 : Int) : Option Bool :=
  (spec_l1In u p0 0 1099511627775).bind fun r1 => some r1
def spec_InSet (u : Nat) (p0 : Int) (p1 : Int) : Option Bool :=
  (spec_SetOk u p0).bind fun r1 => bif r1 then ((spec_l1In u p1 0 39).bind fun r2 => bif r2 then ((chk (decide (0 ≤ p1))).bind fun _ => some ((bAnd .i64 (bShr .i64 p0 p1) 1) == 1)) else (some false)) else (some false)
def spec_Fall_j1 (u : Nat) (x33 : List Int) (x34 : List Int) (x35 : Int) (x36 : Int) (x37 : Int) (x38 : List Put) : Option Disk :=
  some ((Disk.mk x33 x34 ((Record.mk x35 x36 x37)) (([] : List Put))))
def spec_Fall_j3 (u : Nat) (c_spec_Fall_l2 : Int → Int → Disk → (List Int) → (List Int) → Int → Int → Int → (List Put) → Option Disk) (p1 : Int) (x10 : Int) (p0 : Disk) (x27 : List Int) (x28 : List Int) (x29 : Int) (x30 : Int) (x31 : Int) (x32 : List Put) : Option Disk :=
  c_spec_Fall_l2 p1 (bAdd .i64 x10 1) p0 x27 x28 x29 x30 x31 x32
def spec_Fall_l2 (u : Nat) (k_spec_Fall_l2 : Nat) (p1 : Int) (x10 : Int) (p0 : Disk) (x11 : List Int) (x12 : List Int) (x13 : Int) (x14 : Int) (x15 : Int) (x16 : List Put) : Option Disk := match k_spec_Fall_l2 with
  | 0 => none
  | k_spec_Fall_l2 + 1 => bif decide (x10 < ((p0.fP.length : Int))) then ((spec_InSet u p1 x10).bind fun r24 => bif r24 then ((idx p0.fP x10).bind fun y25 => (spec_OnePut u ((Disk.mk x11 x12 ((Record.mk x13 x14 x15)) x16)) y25).bind fun r26 => spec_Fall_j3 u (fun z0 z1 z2 z3 z4 z5 z6 z7 z8 => spec_Fall_l2 u k_spec_Fall_l2 z0 z1 z2 z3 z4 z5 z6 z7 z8) p1 x10 p0 r26.fA r26.fB r26.fR.fGen r26.fR.fSlot r26.fR.fLen r26.fP) else (spec_Fall_j3 u (fun z0 z1 z2 z3 z4 z5 z6 z7 z8 => spec_Fall_l2 u k_spec_Fall_l2 z0 z1 z2 z3 z4 z5 z6 z7 z8) p1 x10 p0 x11 x12 x13 x14 x15 x16)) else (spec_Fall_j1 u x11 x12 x13 x14 x15 x16)
def spec_Fall (u : Nat) (p0 : Disk) (p1 : Int) : Option Disk :=
  (spec_l9Copy u p0).bind fun r1 => (spec_DiskOk u p0).bind fun r2 => bif !r2 then (some r1) else (spec_Fall_l2 u u p1 0 p0 r1.fA r1.fB r1.fR.fGen r1.fR.fSlot r1.fR.fLen r1.fP)
def spec_Fall_l2_f (u : Nat) (p1 : Int) (p0 : Disk) (s : (List Int) × (List Int) × Int × Int × Int × (List Put)) : Option Disk := (spec_Fall_j1 u s.1 s.2.1 s.2.2.1 s.2.2.2.1 s.2.2.2.2.1 s.2.2.2.2.2)
def spec_Fall_l2_b (u : Nat) (p1 : Int) (p0 : Disk) (i_ : Nat) (s : (List Int) × (List Int) × Int × Int × Int × (List Put)) (k_ : ((List Int) × (List Int) × Int × Int × Int × (List Put)) → Option Disk) : Option Disk := (spec_InSet u p1 (i_ : Int)).bind fun r24 => bif r24 then ((idx p0.fP (i_ : Int)).bind fun y25 => (spec_OnePut u ((Disk.mk s.1 s.2.1 ((Record.mk s.2.2.1 s.2.2.2.1 s.2.2.2.2.1)) s.2.2.2.2.2)) y25).bind fun r26 => spec_Fall_j3 u (fun z0 z1 z2 z3 z4 z5 z6 z7 z8 => k_ (z3, z4, z5, z6, z7, z8)) p1 (i_ : Int) p0 r26.fA r26.fB r26.fR.fGen r26.fR.fSlot r26.fR.fLen r26.fP) else (spec_Fall_j3 u (fun z0 z1 z2 z3 z4 z5 z6 z7 z8 => k_ (z3, z4, z5, z6, z7, z8)) p1 (i_ : Int) p0 s.1 s.2.1 s.2.2.1 s.2.2.2.1 s.2.2.2.2.1 s.2.2.2.2.2)
theorem spec_Fall_l2_w (u : Nat) (p1 : Int) (p0 : Disk) (s : (List Int) × (List Int) × Int × Int × Int × (List Put)) (k : Nat) (hn : (((p0.fP.length : Int)) : Int) ≤ 9223372036854775807) (hk : Int.toNat (((p0.fP.length : Int))) < k) : spec_Fall_l2 u k p1 0 p0 s.1 s.2.1 s.2.2.1 s.2.2.2.1 s.2.2.2.2.1 s.2.2.2.2.2 = Pu.walk (spec_Fall_l2_f u p1 p0) (spec_Fall_l2_b u p1 p0) (Int.toNat (((p0.fP.length : Int)))) 0 s := Pu.walk_0 (fun (k : Nat) (s : (List Int) × (List Int) × Int × Int × Int × (List Put)) (i : Int) => spec_Fall_l2 u k p1 i p0 s.1 s.2.1 s.2.2.1 s.2.2.2.1 s.2.2.2.2.1 s.2.2.2.2.2) hn (fun _ _ _ => rfl) s hk
def laws_same_j1 (u : Nat)  : Option Bool :=
  some true
def laws_same_l2 (u : Nat) (k_laws_same_l2 : Nat) (p0 : List Int) (p1 : List Int) (x2 : Int) : Option Bool := match k_laws_same_l2 with
  | 0 => none
  | k_laws_same_l2 + 1 => bif decide (x2 < ((p0.length : Int))) then ((idx p0 x2).bind fun y4 => (idx p1 x2).bind fun y5 => bif y4 != y5 then (some false) else ((fun z0 z1 z2 => laws_same_l2 u k_laws_same_l2 z0 z1 z2) p0 p1 (bAdd .i64 x2 1))) else (laws_same_j1 u)
def laws_same (u : Nat) (p0 : List Int) (p1 : List Int) : Option Bool :=
  bif ((p0.length : Int)) != ((p1.length : Int)) then (some false) else (laws_same_l2 u u p0 p1 0)
def laws_same_l2_f (u : Nat) (p0 : List Int) (p1 : List Int) (s : Unit) : Option Bool := (laws_same_j1 u)
def laws_same_l2_b (u : Nat) (p0 : List Int) (p1 : List Int) (y4 : Int) (i_ : Nat) (s : Unit) (k_ : Unit → Option Bool) : Option Bool := (idx p1 (i_ : Int)).bind fun y5 => bif y4 != y5 then (some false) else ((fun z0 z1 z2 => k_ ()) p0 p1 (bAdd .i64 (i_ : Int) 1))
theorem laws_same_l2_w (u : Nat) (p0 : List Int) (p1 : List Int) (s : Unit) (k : Nat) (hn : p0.length ≤ 9223372036854775807) (hk : p0.length < k) : laws_same_l2 u k p0 p1 0 = Pu.wlist (laws_same_l2_f u p0 p1) (laws_same_l2_b u p0 p1) p0 0 s := Pu.wlist_0 (fun (k : Nat) (s : Unit) (i : Int) => laws_same_l2 u k p0 p1 i) hn (fun _ _ _ => rfl) s hk
def laws_sameDisk_j2 (u : Nat)  : Option Bool :=
  some true
def laws_sameDisk_j4 (u : Nat) (c_laws_sameDisk_l3 : Int → Disk → Disk → Option Bool) (x5 : Int) (x10 : Bool) (p0 : Disk) (p1 : Disk) : Option Bool :=
  bif x10 then (some false) else (c_laws_sameDisk_l3 (bAdd .i64 x5 1) p0 p1)
def laws_sameDisk_l3 (u : Nat) (k_laws_sameDisk_l3 : Nat) (x5 : Int) (p0 : Disk) (p1 : Disk) : Option Bool := match k_laws_sameDisk_l3 with
  | 0 => none
  | k_laws_sameDisk_l3 + 1 => bif decide (x5 < ((p0.fP.length : Int))) then ((idx p0.fP x5).bind fun y7 => (idx p1.fP x5).bind fun y8 => bif y7.fWhat != y8.fWhat then (laws_sameDisk_j4 u (fun z0 z1 z2 => laws_sameDisk_l3 u k_laws_sameDisk_l3 z0 z1 z2) x5 true p0 p1) else (bif y7.fAt != y8.fAt then (laws_sameDisk_j4 u (fun z0 z1 z2 => laws_sameDisk_l3 u k_laws_sameDisk_l3 z0 z1 z2) x5 true p0 p1) else (bif !([y7.fR.fGen, y7.fR.fSlot, y7.fR.fLen] == [y8.fR.fGen, y8.fR.fSlot, y8.fR.fLen]) then (laws_sameDisk_j4 u (fun z0 z1 z2 => laws_sameDisk_l3 u k_laws_sameDisk_l3 z0 z1 z2) x5 true p0 p1) else ((laws_same u y7.fB y8.fB).bind fun r9 => laws_sameDisk_j4 u (fun z0 z1 z2 => laws_sameDisk_l3 u k_laws_sameDisk_l3 z0 z1 z2) x5 (!r9) p0 p1)))) else (laws_sameDisk_j2 u)
def laws_sameDisk_j1 (u : Nat) (x3 : Bool) (p0 : Disk) (p1 : Disk) : Option Bool :=
  bif x3 then (some false) else (laws_sameDisk_l3 u u 0 p0 p1)
def laws_sameDisk (u : Nat) (p0 : Disk) (p1 : Disk) : Option Bool :=
  (laws_same u p0.fA p1.fA).bind fun r1 => bif !r1 then (laws_sameDisk_j1 u true p0 p1) else ((laws_same u p0.fB p1.fB).bind fun r2 => bif !r2 then (laws_sameDisk_j1 u true p0 p1) else (bif !([p0.fR.fGen, p0.fR.fSlot, p0.fR.fLen] == [p1.fR.fGen, p1.fR.fSlot, p1.fR.fLen]) then (laws_sameDisk_j1 u true p0 p1) else (laws_sameDisk_j1 u (((p0.fP.length : Int)) != ((p1.fP.length : Int))) p0 p1)))
def laws_sameDisk_l3_f (u : Nat) (p0 : Disk) (p1 : Disk) (s : Unit) : Option Bool := (laws_sameDisk_j2 u)
def laws_sameDisk_l3_b (u : Nat) (p0 : Disk) (p1 : Disk) (y7 : Put) (i_ : Nat) (s : Unit) (k_ : Unit → Option Bool) : Option Bool := (idx p1.fP (i_ : Int)).bind fun y8 => bif y7.fWhat != y8.fWhat then (laws_sameDisk_j4 u (fun z0 z1 z2 => k_ ()) (i_ : Int) true p0 p1) else (bif y7.fAt != y8.fAt then (laws_sameDisk_j4 u (fun z0 z1 z2 => k_ ()) (i_ : Int) true p0 p1) else (bif !([y7.fR.fGen, y7.fR.fSlot, y7.fR.fLen] == [y8.fR.fGen, y8.fR.fSlot, y8.fR.fLen]) then (laws_sameDisk_j4 u (fun z0 z1 z2 => k_ ()) (i_ : Int) true p0 p1) else ((laws_same u y7.fB y8.fB).bind fun r9 => laws_sameDisk_j4 u (fun z0 z1 z2 => k_ ()) (i_ : Int) (!r9) p0 p1)))
theorem laws_sameDisk_l3_w (u : Nat) (p0 : Disk) (p1 : Disk) (s : Unit) (k : Nat) (hn : p0.fP.length ≤ 9223372036854775807) (hk : p0.fP.length < k) : laws_sameDisk_l3 u k 0 p0 p1 = Pu.wlist (laws_sameDisk_l3_f u p0 p1) (laws_sameDisk_l3_b u p0 p1) p0.fP 0 s := Pu.wlist_0 (fun (k : Nat) (s : Unit) (i : Int) => laws_sameDisk_l3 u k i p0 p1) hn (fun _ _ _ => rfl) s hk
def impl_OnePut_j1 (u : Nat) (x4 : List Int) (x5 : List Int) (x6 : Int) (x7 : Int) (x8 : Int) (x9 : List Put) : Option Disk :=
  some ((Disk.mk x4 x5 ((Record.mk x6 x7 x8)) x9))
def impl_OnePut (u : Nat) (p0 : Disk) (p1 : Put) : Option Disk :=
  (impl_copyDisk u p0).bind fun r1 => (impl_isPut u p1).bind fun r2 => bif r2 then ((impl_Disk__perform__own_p0_fP u r1 p1).bind fun r3 => impl_OnePut_j1 u r3.fA r3.fB r3.fR.fGen r3.fR.fSlot r3.fR.fLen r3.fP) else (impl_OnePut_j1 u r1.fA r1.fB r1.fR.fGen r1.fR.fSlot r1.fR.fLen r1.fP)
def impl_Sure_1 (u : Nat) (p0 : Int) : Option Bool :=
  some true
def impl_Disk__settled__impl_Sure_1_j1 (u : Nat) (x33 : List Int) (x34 : List Int) (x35 : Int) (x36 : Int) (x37 : Int) (x38 : List Put) : Option Disk :=
  some ((Disk.mk x33 x34 ((Record.mk x35 x36 x37)) ([])))
def impl_Disk__settled__impl_Sure_1_j3 (u : Nat) (c_impl_Disk__settled__impl_Sure_1_l2 : Disk → Int → (List Int) → (List Int) → Int → Int → Int → (List Put) → Option Disk) (p0 : Disk) (x10 : Int) (x27 : List Int) (x28 : List Int) (x29 : Int) (x30 : Int) (x31 : Int) (x32 : List Put) : Option Disk :=
  c_impl_Disk__settled__impl_Sure_1_l2 p0 (bAdd .i64 x10 1) x27 x28 x29 x30 x31 x32
def impl_Disk__settled__impl_Sure_1_l2 (u : Nat) (k_impl_Disk__settled__impl_Sure_1_l2 : Nat) (p0 : Disk) (x10 : Int) (x11 : List Int) (x12 : List Int) (x13 : Int) (x14 : Int) (x15 : Int) (x16 : List Put) : Option Disk := match k_impl_Disk__settled__impl_Sure_1_l2 with
  | 0 => none
  | k_impl_Disk__settled__impl_Sure_1_l2 + 1 => bif decide (x10 < ((p0.fP.length : Int))) then ((idx p0.fP x10).bind fun y24 => (impl_Sure_1 u x10).bind fun r25 => bif r25 then ((impl_Disk__perform__own_p0_fP u ((Disk.mk x11 x12 ((Record.mk x13 x14 x15)) x16)) y24).bind fun r26 => impl_Disk__settled__impl_Sure_1_j3 u (fun z0 z1 z2 z3 z4 z5 z6 z7 => impl_Disk__settled__impl_Sure_1_l2 u k_impl_Disk__settled__impl_Sure_1_l2 z0 z1 z2 z3 z4 z5 z6 z7) p0 x10 r26.fA r26.fB r26.fR.fGen r26.fR.fSlot r26.fR.fLen r26.fP) else (impl_Disk__settled__impl_Sure_1_j3 u (fun z0 z1 z2 z3 z4 z5 z6 z7 => impl_Disk__settled__impl_Sure_1_l2 u k_impl_Disk__settled__impl_Sure_1_l2 z0 z1 z2 z3 z4 z5 z6 z7) p0 x10 x11 x12 x13 x14 x15 x16)) else (impl_Disk__settled__impl_Sure_1_j1 u x11 x12 x13 x14 x15 x16)
def impl_Disk__settled__impl_Sure_1 (u : Nat) (p0 : Disk) : Option Disk :=
  (impl_copyDisk u p0).bind fun r1 => (impl_DiskOk u p0).bind fun r2 => bif !r2 then (some r1) else (impl_Disk__settled__impl_Sure_1_l2 u u p0 0 r1.fA r1.fB r1.fR.fGen r1.fR.fSlot r1.fR.fLen r1.fP)
def impl_Disk__settled__impl_Sure_1_l2_f (u : Nat) (p0 : Disk) (s : (List Int) × (List Int) × Int × Int × Int × (List Put)) : Option Disk := (impl_Disk__settled__impl_Sure_1_j1 u s.1 s.2.1 s.2.2.1 s.2.2.2.1 s.2.2.2.2.1 s.2.2.2.2.2)
def impl_Disk__settled__impl_Sure_1_l2_b (u : Nat) (p0 : Disk) (y24 : Put) (i_ : Nat) (s : (List Int) × (List Int) × Int × Int × Int × (List Put)) (k_ : ((List Int) × (List Int) × Int × Int × Int × (List Put)) → Option Disk) : Option Disk := (impl_Sure_1 u (i_ : Int)).bind fun r25 => bif r25 then ((impl_Disk__perform__own_p0_fP u ((Disk.mk s.1 s.2.1 ((Record.mk s.2.2.1 s.2.2.2.1 s.2.2.2.2.1)) s.2.2.2.2.2)) y24).bind fun r26 => impl_Disk__settled__impl_Sure_1_j3 u (fun z0 z1 z2 z3 z4 z5 z6 z7 => k_ (z2, z3, z4, z5, z6, z7)) p0 (i_ : Int) r26.fA r26.fB r26.fR.fGen r26.fR.fSlot r26.fR.fLen r26.fP) else (impl_Disk__settled__impl_Sure_1_j3 u (fun z0 z1 z2 z3 z4 z5 z6 z7 => k_ (z2, z3, z4, z5, z6, z7)) p0 (i_ : Int) s.1 s.2.1 s.2.2.1 s.2.2.2.1 s.2.2.2.2.1 s.2.2.2.2.2)
theorem impl_Disk__settled__impl_Sure_1_l2_w (u : Nat) (p0 : Disk) (s : (List Int) × (List Int) × Int × Int × Int × (List Put)) (k : Nat) (hn : p0.fP.length ≤ 9223372036854775807) (hk : p0.fP.length < k) : impl_Disk__settled__impl_Sure_1_l2 u k p0 0 s.1 s.2.1 s.2.2.1 s.2.2.2.1 s.2.2.2.2.1 s.2.2.2.2.2 = Pu.wlist (impl_Disk__settled__impl_Sure_1_l2_f u p0) (impl_Disk__settled__impl_Sure_1_l2_b u p0) p0.fP 0 s := Pu.wlist_0 (fun (k : Nat) (s : (List Int) × (List Int) × Int × Int × Int × (List Put)) (i : Int) => impl_Disk__settled__impl_Sure_1_l2 u k p0 i s.1 s.2.1 s.2.2.1 s.2.2.2.1 s.2.2.2.2.1 s.2.2.2.2.2) hn (fun _ _ _ => rfl) s hk
def impl_Sure (u : Nat) (p0 : Disk) : Option Disk :=
  (impl_Disk__settled__impl_Sure_1 u p0).bind fun r1 => some r1
def impl_DiskNew_j1 (u : Nat) (p0 : Int) (p1 : List Int) (x2 : Bool) : Option Disk :=
  bif x2 then (some ((Disk.mk ([]) ([]) ((Record.mk 0 0 0)) ([])))) else ((impl_cloned u p1).bind fun r3 => some ((Disk.mk r3 ([]) ((Record.mk p0 0 ((p1.length : Int)))) ([]))))
def impl_DiskNew (u : Nat) (p0 : Int) (p1 : List Int) : Option Disk :=
  (impl_isGen u p0).bind fun r1 => bif !r1 then (impl_DiskNew_j1 u p0 p1 true) else (impl_DiskNew_j1 u p0 p1 (decide (((p1.length : Int)) > 240)))
def impl_Least (u : Nat) (p0 : Int) (p1 : Int) : Option Int :=
  some (if p1 < p0 then p1 else p0)
def impl_FullSet (u : Nat) (p0 : Int) : Option Int :=
  (impl_within u p0 0 40).bind fun r1 => bif !r1 then (some 0) else ((chk (decide (0 ≤ p0))).bind fun _ => some (bSub .i64 (bShl .i64 1 p0) 1))
def laws_FnDisks_j1 (u : Nat) (x29 : Bool) (r2 : Disk) : Option Bool :=
  bif x29 then (some false) else ((impl_Least u ((r2.fP.length : Int)) 40).bind fun r30 => (impl_FullSet u r30).bind fun r31 => (impl_Fall u r2 r31).bind fun r32 => (impl_Fall u r2 0).bind fun r33 => (impl_DiskOk u r2).bind fun r34 => bif r34 then (bif decide (((r2.fP.length : Int)) > 40) then ((laws_same u r33.fA r2.fA).bind fun r35 => bif r35 then ((laws_same u r33.fB r2.fB).bind fun r36 => bif r36 then (bif [r33.fR.fGen, r33.fR.fSlot, r33.fR.fLen] == [r2.fR.fGen, r2.fR.fSlot, r2.fR.fLen] then (bif ((r33.fP.length : Int)) == 0 then ((impl_Sure u r2).bind fun r37 => (impl_Sure u r37).bind fun r38 => (impl_Sure u r2).bind fun r39 => (laws_sameDisk u r38 r39).bind fun r40 => some r40) else (some false)) else (some false)) else (some false)) else (some false)) else ((impl_Sure u r2).bind fun r41 => (laws_sameDisk u r32 r41).bind fun r42 => bif r42 then ((laws_same u r33.fA r2.fA).bind fun r43 => bif r43 then ((laws_same u r33.fB r2.fB).bind fun r44 => bif r44 then (bif [r33.fR.fGen, r33.fR.fSlot, r33.fR.fLen] == [r2.fR.fGen, r2.fR.fSlot, r2.fR.fLen] then (bif ((r33.fP.length : Int)) == 0 then ((impl_Sure u r2).bind fun r45 => (impl_Sure u r45).bind fun r46 => (impl_Sure u r2).bind fun r47 => (laws_sameDisk u r46 r47).bind fun r48 => some r48) else (some false)) else (some false)) else (some false)) else (some false)) else (some false))) else (some false))
def laws_FnDisks (u : Nat) (p0 : List Int) : Option Bool :=
  (laws_big u p0).bind fun r1 => bif r1 then (some true) else ((spec_DrawDisk u p0).bind fun r2 => (spec_DrawFall u p0).bind fun r3 => (spec_DrawOnePut u p0).bind fun r4 => (spec_DrawSure u p0).bind fun r5 => (spec_DrawPutBytes u p0).bind fun r6 => (impl_PutBytes u r6.1 r6.2.1 r6.2.2.1 r6.2.2.2).bind fun r7 => (spec_PutBytes u r6.1 r6.2.1 r6.2.2.1 r6.2.2.2).bind fun r8 => (spec_DrawPutRecord u p0).bind fun r9 => (impl_PutRecord u r9.1 r9.2).bind fun r10 => (spec_PutRecord u r9.1 r9.2).bind fun r11 => (spec_DrawDiskNew u p0).bind fun r12 => (impl_Fall u r3.1 r3.2).bind fun r13 => (spec_Fall u r3.1 r3.2).bind fun r14 => (laws_sameDisk u r13 r14).bind fun r15 => bif !r15 then (laws_FnDisks_j1 u true r2) else ((impl_OnePut u r4.1 r4.2).bind fun r16 => (spec_OnePut u r4.1 r4.2).bind fun r17 => (laws_sameDisk u r16 r17).bind fun r18 => bif !r18 then (laws_FnDisks_j1 u true r2) else ((impl_Sure u r5).bind fun r19 => (spec_Sure u r5).bind fun r20 => (laws_sameDisk u r19 r20).bind fun r21 => bif !r21 then (laws_FnDisks_j1 u true r2) else ((laws_sameDisk u r7.1 r8.1).bind fun r22 => bif !r22 then (laws_FnDisks_j1 u true r2) else (bif !(r7.2 == r8.2) then (laws_FnDisks_j1 u true r2) else ((laws_sameDisk u r10.1 r11.1).bind fun r23 => bif !r23 then (laws_FnDisks_j1 u true r2) else (bif !(r10.2 == r11.2) then (laws_FnDisks_j1 u true r2) else ((impl_DiskNew u r12.1 r12.2).bind fun r24 => (spec_DiskNew u r12.1 r12.2).bind fun r25 => (laws_sameDisk u r24 r25).bind fun r26 => bif !r26 then (laws_FnDisks_j1 u true r2) else ((impl_DiskOk u r3.1).bind fun r27 => (spec_DiskOk u r3.1).bind fun r28 => laws_FnDisks_j1 u (!(r27 == r28)) r2)))))))))
end Go.Tm
