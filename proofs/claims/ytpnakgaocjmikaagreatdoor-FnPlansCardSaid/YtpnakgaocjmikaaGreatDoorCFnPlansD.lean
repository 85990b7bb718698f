/- Go functions as pure functions (printed). -/
import Derived.Test.YtpnakgaocjmikaaGreatDoorTm39
import Derived.Test.YtpnakgaocjmikaaGreatDoorPu1
import Derived.Lib.ItoaLen
import Derived.Lib.Join
set_option maxRecDepth 100000
set_option maxHeartbeats 20000000
set_option linter.unusedVariables false
set_option linter.unusedSimpArgs false
namespace Go.Tm
structure l1Cur where
  fB : List Int
  fI : Int
  fH : Int
  deriving DecidableEq
def l1Cur.enc (x : l1Cur) : List T := [.sl 1 (x.fB.map (eInt .u8)), .int .i64 x.fI, .int .i64 x.fH]
def l1Cur.wf (x : l1Cur) : Prop := (wSl (wInt .u8)) x.fB ∧ (wInt .i64) x.fI ∧ (wInt .i64) x.fH ∧ True
structure Image where
  fB : List Int
  deriving DecidableEq
def Image.enc (x : Image) : List T := [.sl 1 (x.fB.map (eInt .u8))]
def Image.wf (x : Image) : Prop := (wSl (wInt .u8)) x.fB ∧ True
structure Sum where
  fW : Int
  fS : Int
  deriving DecidableEq
def Sum.enc (x : Sum) : List T := [.int .i64 x.fW, .int .i64 x.fS]
def Sum.wf (x : Sum) : Prop := (wInt .i64) x.fW ∧ (wInt .i64) x.fS ∧ True
structure Manifest where
  fGen : Int
  fSize : Int
  fLen : Int
  fSums : List Sum
  deriving DecidableEq
def Manifest.enc (x : Manifest) : List T := [.int .i64 x.fGen, .int .i64 x.fSize, .int .i64 x.fLen, .sl 2 (x.fSums.map Sum.enc)]
def Manifest.wf (x : Manifest) : Prop := (wInt .i64) x.fGen ∧ (wInt .i64) x.fSize ∧ (wInt .i64) x.fLen ∧ (wSl Sum.wf) x.fSums ∧ True
def laws_big (u : Nat) (p0 : List Int) : Option Bool :=
  some (decide (((p0.length : Int)) > 1048576))
def spec_l1New_j1 (u : Nat) (p0 : List Int) (x9 : Int) : Option l1Cur :=
  some ((l1Cur.mk p0 0 x9))
def spec_l1New_j3 (u : Nat) (c_spec_l1New_l2 : (List Int) → Int → Int → Option l1Cur) (p0 : List Int) (x3 : Int) (x4 : Int) (x7 : Bool) : Option l1Cur :=
  bif x7 then ((idx p0 x4).bind fun y8 => c_spec_l1New_l2 p0 (bAnd .i64 (bAdd .i64 (bAdd .i64 (bMul .i64 x3 137) (IntKind.wrap .i64 y8)) 11) 1073741823) (bAdd .i64 x4 1)) else (spec_l1New_j1 u p0 x3)
def spec_l1New_l2 (u : Nat) (k_spec_l1New_l2 : Nat) (p0 : List Int) (x3 : Int) (x4 : Int) : Option l1Cur := match k_spec_l1New_l2 with
  | 0 => none
  | k_spec_l1New_l2 + 1 => bif decide (x4 < ((p0.length : Int))) then (spec_l1New_j3 u (fun z0 z1 z2 => spec_l1New_l2 u k_spec_l1New_l2 z0 z1 z2) p0 x3 x4 (decide (x4 < 4000))) else (spec_l1New_j3 u (fun z0 z1 z2 => spec_l1New_l2 u k_spec_l1New_l2 z0 z1 z2) p0 x3 x4 false)
def spec_l1New (u : Nat) (p0 : List Int) : Option l1Cur :=
  spec_l1New_l2 u u p0 (bAdd .i64 162416 ((p0.length : Int))) 0
def spec_l1Byte_j1 (u : Nat) (x2 : Int) (p0 : l1Cur) (x3 : Int) : Option (Int × l1Cur) :=
  some ((x2, (l1Cur.mk p0.fB x3 (bAdd .i64 (bMul .i64 p0.fH 6364136223846793005) 1442695040888963407))))
def spec_l1Byte (u : Nat) (p0 : l1Cur) : Option (Int × l1Cur) :=
  bif decide (p0.fI < ((p0.fB.length : Int))) then ((idx p0.fB p0.fI).bind fun y1 => spec_l1Byte_j1 u (bAnd .i64 (bAdd .i64 (bAnd .i64 (bXor .i64 (bShr .i64 (bAdd .i64 (bMul .i64 p0.fH 6364136223846793005) 1442695040888963407) 33) (bShr .i64 (bAdd .i64 (bMul .i64 p0.fH 6364136223846793005) 1442695040888963407) 47)) 255) (IntKind.wrap .i64 y1)) 255) p0 (bAdd .i64 p0.fI 1)) else (spec_l1Byte_j1 u (bAnd .i64 (bXor .i64 (bShr .i64 (bAdd .i64 (bMul .i64 p0.fH 6364136223846793005) 1442695040888963407) 33) (bShr .i64 (bAdd .i64 (bMul .i64 p0.fH 6364136223846793005) 1442695040888963407) 47)) 255) p0 p0.fI)
def spec_l1Below (u : Nat) (p0 : l1Cur) (p1 : Int) : Option (Int × l1Cur) :=
  bif decide (p1 ≤ 0) then (some ((0, p0))) else (bif decide (p1 ≤ 256) then ((spec_l1Byte u p0).bind fun r1 => (chk (!(p1 == 0))).bind fun _ => some ((bRem .i64 r1.1 p1, r1.2))) else ((spec_l1Byte u p0).bind fun r3 => (spec_l1Byte u r3.2).bind fun r4 => (spec_l1Byte u r4.2).bind fun r5 => (chk (!(p1 == 0))).bind fun _ => some ((bRem .i64 (bAdd .i64 (bAdd .i64 (bMul .i64 r3.1 65536) (bMul .i64 r4.1 256)) r5.1) p1, r5.2))))
def spec_l1Int (u : Nat) (p0 : l1Cur) (p1 : List Int) : Option (Int × l1Cur) :=
  (spec_l1Below u p0 ((p1.length : Int))).bind fun r1 => (idx p1 r1.1).bind fun y2 => some ((y2, r1.2))
def spec_l3Bytes_j1 (u : Nat) (x18 : List Int) (x19 : List Int) (x20 : Int) (x21 : Int) : Option ((List Int) × l1Cur) :=
  some ((x18, (l1Cur.mk x19 x20 x21)))
def spec_l3Bytes_l2 (u : Nat) (k_spec_l3Bytes_l2 : Nat) (x7 : List Int) (x8 : Int) (x9 : List Int) (x10 : Int) (x11 : Int) : Option ((List Int) × l1Cur) := match k_spec_l3Bytes_l2 with
  | 0 => none
  | k_spec_l3Bytes_l2 + 1 => bif decide (x8 > 0) then ((spec_l1Int u ((l1Cur.mk x9 x10 x11)) ([97, 98, 99, 0, 255])).bind fun r17 => (chk (decide ((x7.length + ([IntKind.wrap .u8 r17.1]).length) * 1 ≤ 140737488355328))).bind fun _ => (fun z0 z1 z2 z3 z4 => spec_l3Bytes_l2 u k_spec_l3Bytes_l2 z0 z1 z2 z3 z4) (x7 ++ ([IntKind.wrap .u8 r17.1])) (bSub .i64 x8 1) r17.2.fB r17.2.fI r17.2.fH) else (spec_l3Bytes_j1 u x7 x9 x10 x11)
def spec_l3Bytes (u : Nat) (p0 : l1Cur) (p1 : Int) : Option ((List Int) × l1Cur) :=
  (spec_l1Below u p0 (bAdd .i64 p1 1)).bind fun r1 => spec_l3Bytes_l2 u u (([] : List Int)) r1.1 r1.2.fB r1.2.fI r1.2.fH
def spec_l6Image (u : Nat) (p0 : l1Cur) : Option ((List Int) × l1Cur) :=
  (spec_l3Bytes u p0 16).bind fun r1 => some ((r1.1, r1.2))
def spec_l1Bent_j1 (u : Nat) (x15 : List Int) (x16 : List Int) (x17 : Int) (x18 : Int) : Option ((List Int) × l1Cur) :=
  some ((x15, (l1Cur.mk x16 x17 x18)))
def spec_l1Bent (u : Nat) (p0 : l1Cur) (p1 : List Int) : Option ((List Int) × l1Cur) :=
  (chk (decide (((([] : List Int)).length + p1.length) * 1 ≤ 140737488355328))).bind fun _ => (spec_l1Below u p0 6).bind fun r2 => bif r2.1 == 0 then (bif decide (((((([] : List Int)) ++ p1).length : Int)) > 0) then ((spec_l1Below u r2.2 ((((([] : List Int)) ++ p1).length : Int))).bind fun r3 => (spec_l1Below u r3.2 256).bind fun r4 => (idx ((([] : List Int)) ++ p1) r3.1).bind fun y5 => spec_l1Bent_j1 u (((([] : List Int)) ++ p1).set (Int.toNat r3.1) (IntKind.wrap .u8 r4.1)) r4.2.fB r4.2.fI r4.2.fH) else (spec_l1Bent_j1 u ((([] : List Int)) ++ p1) r2.2.fB r2.2.fI r2.2.fH)) else (bif r2.1 == 1 then ((spec_l1Below u r2.2 (bAdd .i64 ((((([] : List Int)) ++ p1).length : Int)) 1)).bind fun r6 => (chk (sliceOK 0 r6.1 ((([] : List Int)) ++ p1).length)).bind fun _ => spec_l1Bent_j1 u ((((([] : List Int)) ++ p1).take (Int.toNat r6.1)).drop (Int.toNat 0)) r6.2.fB r6.2.fI r6.2.fH) else (bif r2.1 == 2 then ((spec_l1Int u r2.2 ([0, 1, 128, 255])).bind fun r8 => (chk (decide ((((([] : List Int)) ++ p1).length + ([IntKind.wrap .u8 r8.1]).length) * 1 ≤ 140737488355328))).bind fun _ => spec_l1Bent_j1 u (((([] : List Int)) ++ p1) ++ ([IntKind.wrap .u8 r8.1])) r8.2.fB r8.2.fI r8.2.fH) else (bif r2.1 == 3 then (bif decide (((((([] : List Int)) ++ p1).length : Int)) > 0) then ((spec_l1Below u r2.2 ((((([] : List Int)) ++ p1).length : Int))).bind fun r10 => (idx ((([] : List Int)) ++ p1) r10.1).bind fun y11 => (spec_l1Below u r10.2 8).bind fun r12 => (chk (decide (0 ≤ r12.1))).bind fun _ => (idx ((([] : List Int)) ++ p1) r10.1).bind fun y14 => spec_l1Bent_j1 u (((([] : List Int)) ++ p1).set (Int.toNat r10.1) (bXor .u8 y11 (bShl .u8 1 r12.1))) r12.2.fB r12.2.fI r12.2.fH) else (spec_l1Bent_j1 u ((([] : List Int)) ++ p1) r2.2.fB r2.2.fI r2.2.fH)) else (spec_l1Bent_j1 u ((([] : List Int)) ++ p1) r2.2.fB r2.2.fI r2.2.fH))))
def spec_l7Old (u : Nat) (p0 : l1Cur) (p1 : List Int) : Option ((List Int) × l1Cur) :=
  (spec_l1Below u p0 5).bind fun r1 => bif r1.1 == 0 then ((spec_l3Bytes u r1.2 16).bind fun r2 => some ((r2.1, r2.2))) else (bif r1.1 == 1 then ((chk (decide (((([] : List Int)).length + p1.length) * 1 ≤ 140737488355328))).bind fun _ => some (((([] : List Int)) ++ p1, r1.2))) else (bif r1.1 == 2 then ((spec_l1Below u r1.2 (bAdd .i64 ((p1.length : Int)) 1)).bind fun r4 => (chk (sliceOK r4.1 ((p1.length : Int)) p1.length)).bind fun _ => (chk (decide ((([120]).length + ((p1.take (Int.toNat ((p1.length : Int)))).drop (Int.toNat r4.1)).length) * 1 ≤ 140737488355328))).bind fun _ => (chk (sliceOK 0 r4.1 p1.length)).bind fun _ => (chk (decide (((([120]) ++ ((p1.take (Int.toNat ((p1.length : Int)))).drop (Int.toNat r4.1))).length + ((p1.take (Int.toNat r4.1)).drop (Int.toNat 0)).length) * 1 ≤ 140737488355328))).bind fun _ => some (((([120]) ++ ((p1.take (Int.toNat ((p1.length : Int)))).drop (Int.toNat r4.1))) ++ ((p1.take (Int.toNat r4.1)).drop (Int.toNat 0)), r4.2))) else (bif r1.1 == 3 then (some ((([] : List Int), r1.2))) else ((spec_l3Bytes u r1.2 3).bind fun r9 => (spec_l1Bent u r9.2 p1).bind fun r10 => (chk (decide ((r9.1.length + r10.1.length) * 1 ≤ 140737488355328))).bind fun _ => some ((r9.1 ++ r10.1, r10.2))))))
def spec_l1Once (u : Nat) (p0 : l1Cur) (p1 : Int) : Option (Bool × l1Cur) :=
  (spec_l1Below u p0 p1).bind fun r1 => some ((r1.1 == 0, r1.2))
def spec_l27Olds_j2 (u : Nat) (x25 : List Int) (x19 : List Image) (x26 : List Int) (x27 : Int) (x28 : Int) : Option ((List Int) × (List Image) × l1Cur) :=
  some ((x25, x19, (l1Cur.mk x26 x27 x28)))
def spec_l27Olds_j1 (u : Nat) (r1 : (List Int) × l1Cur) (x19 : List Image) (x20 : List Int) (x21 : Int) (x22 : Int) : Option ((List Int) × (List Image) × l1Cur) :=
  (spec_l1Once u ((l1Cur.mk x20 x21 x22)) 12).bind fun r23 => bif r23.1 then ((spec_l1Below u r23.2 90).bind fun r24 => (chk (decide (0 ≤ (bAdd .i64 80 r24.1)) && ((bAdd .i64 80 r24.1) == 0 || (bAdd .i64 80 r24.1) == (bAdd .i64 80 r24.1)))).bind fun _ => (chk (decide (Int.toNat (bAdd .i64 80 r24.1) * 1 ≤ 140737488355328))).bind fun _ => spec_l27Olds_j2 u (List.replicate (Int.toNat (bAdd .i64 80 r24.1)) (0 : Int)) x19 r24.2.fB r24.2.fI r24.2.fH) else (spec_l27Olds_j2 u r1.1 x19 r23.2.fB r23.2.fI r23.2.fH)
def spec_l27Olds_l3 (u : Nat) (k_spec_l27Olds_l3 : Nat) (r1 : (List Int) × l1Cur) (x8 : List Image) (x9 : Int) (x10 : List Int) (x11 : Int) (x12 : Int) : Option ((List Int) × (List Image) × l1Cur) := match k_spec_l27Olds_l3 with
  | 0 => none
  | k_spec_l27Olds_l3 + 1 => bif decide (x9 > 0) then ((spec_l7Old u ((l1Cur.mk x10 x11 x12)) r1.1).bind fun r18 => (chk (decide ((x8.length + ([(Image.mk r18.1)]).length) * 24 ≤ 140737488355328))).bind fun _ => (fun z0 z1 z2 z3 z4 z5 => spec_l27Olds_l3 u k_spec_l27Olds_l3 z0 z1 z2 z3 z4 z5) r1 (x8 ++ ([(Image.mk r18.1)])) (bSub .i64 x9 1) r18.2.fB r18.2.fI r18.2.fH) else (spec_l27Olds_j1 u r1 x8 x10 x11 x12)
def spec_l27Olds (u : Nat) (p0 : l1Cur) : Option ((List Int) × (List Image) × l1Cur) :=
  (spec_l6Image u p0).bind fun r1 => (spec_l1Below u r1.2 4).bind fun r2 => spec_l27Olds_l3 u u r1 (([] : List Image)) r2.1 r2.2.fB r2.2.fI r2.2.fH
def spec_DrawBestSize (u : Nat) (p0 : List Int) : Option ((List Int) × (List Image)) :=
  (spec_l1New u p0).bind fun r1 => (spec_l27Olds u r1).bind fun r2 => some ((r2.1, r2.2.1))
def spec_l4Size (u : Nat) (p0 : l1Cur) : Option (Int × l1Cur) :=
  (spec_l1Once u p0 8).bind fun r1 => bif r1.1 then ((spec_l1Int u r1.2 ([0, 1, 7, -2])).bind fun r2 => some ((r2.1, r2.2))) else ((spec_l1Below u r1.2 5).bind fun r3 => some ((bAdd .i64 2 r3.1, r3.2)))
def spec_DrawCostOf (u : Nat) (p0 : List Int) : Option ((List Int) × (List Image) × Int) :=
  (spec_l1New u p0).bind fun r1 => (spec_l27Olds u r1).bind fun r2 => (spec_l4Size u r2.2.2).bind fun r3 => some ((r2.1, r2.2.1, r3.1))
def spec_DrawSavedBy (u : Nat) (p0 : List Int) : Option ((List Int) × (List Int) × Int) :=
  (spec_l1New u p0).bind fun r1 => (spec_l27Olds u r1).bind fun r2 => (spec_l7Old u r2.2.2 r2.1).bind fun r3 => (spec_l4Size u r3.2).bind fun r4 => some ((r2.1, r3.1, r4.1))
def spec_DrawWorstFor (u : Nat) (p0 : List Int) : Option ((List Int) × Int × Int) :=
  (spec_l1New u p0).bind fun r1 => (spec_l27Olds u r1).bind fun r2 => (spec_l1Int u r2.2.2 ([0, 1, 3, 7, 8, -1])).bind fun r3 => (spec_l4Size u r3.2).bind fun r4 => some ((r2.1, r3.1, r4.1))
def spec_l1In (u : Nat) (p0 : Int) (p1 : Int) (p2 : Int) : Option Bool :=
  bif decide (p0 ≥ p1) then (some (decide (p0 ≤ p2))) else (some false)
def spec_SizeOk (u : Nat) (p0 : Int) (p1 : Int) : Option Bool :=
  (spec_l1In u p0 2 6).bind fun r1 => bif r1 then ((spec_l1In u p1 0 (bMul .i64 p0 40)).bind fun r2 => some r2) else (some false)
def spec_CeilDiv_j1 (u : Nat) (p0 : Int) (p1 : Int) (x3 : Bool) : Option Int :=
  bif x3 then (some 0) else ((chk (!(p1 == 0))).bind fun _ => some (bQuo .i64 (bSub .i64 (bAdd .i64 p0 p1) 1) p1))
def spec_CeilDiv (u : Nat) (p0 : Int) (p1 : Int) : Option Int :=
  (spec_l1In u p0 0 1000000000000).bind fun r1 => bif !r1 then (spec_CeilDiv_j1 u p0 p1 true) else ((spec_l1In u p1 1 1000000000000).bind fun r2 => spec_CeilDiv_j1 u p0 p1 (!r2))
def spec_Blocks (u : Nat) (p0 : Int) (p1 : Int) : Option Int :=
  (spec_SizeOk u p0 p1).bind fun r1 => bif !r1 then (some 0) else ((spec_CeilDiv u p1 p0).bind fun r2 => some r2)
def spec_Least (u : Nat) (p0 : Int) (p1 : Int) : Option Int :=
  bif decide (p1 < p0) then (some p1) else (some p0)
def spec_SpanOf (u : Nat) (p0 : Int) (p1 : Int) (p2 : Int) : Option (Int × Int) :=
  (spec_Blocks u p0 p1).bind fun r1 => (spec_l1In u p2 0 (bSub .i64 r1 1)).bind fun r2 => bif !r2 then (some ((0, 0))) else ((spec_Least u p0 (bSub .i64 p1 (bMul .i64 p2 p0))).bind fun r3 => some ((bMul .i64 p2 p0, r3)))
def spec_BlockAt (u : Nat) (p0 : List Int) (p1 : Int) (p2 : Int) : Option ((List Int) × Bool) :=
  (spec_SpanOf u p1 ((p0.length : Int)) p2).bind fun r1 => bif r1.2 == 0 then (some ((([] : List Int), false))) else ((chk (sliceOK r1.1 (bAdd .i64 r1.1 r1.2) p0.length)).bind fun _ => (chk (decide (((([] : List Int)).length + ((p0.take (Int.toNat (bAdd .i64 r1.1 r1.2))).drop (Int.toNat r1.1)).length) * 1 ≤ 140737488355328))).bind fun _ => some (((([] : List Int)) ++ ((p0.take (Int.toNat (bAdd .i64 r1.1 r1.2))).drop (Int.toNat r1.1)), true)))
def spec_WeakOf_j1 (u : Nat) (x11 : Int) (x12 : Int) : Option Int :=
  some (bAdd .i64 x11 (bMul .i64 251 x12))
def spec_WeakOf_l2 (u : Nat) (k_spec_WeakOf_l2 : Nat) (p0 : List Int) (x4 : Int) (x5 : Int) (x6 : Int) : Option Int := match k_spec_WeakOf_l2 with
  | 0 => none
  | k_spec_WeakOf_l2 + 1 => bif decide (x6 < ((p0.length : Int))) then ((idx p0 x6).bind fun y10 => (fun z0 z1 z2 z3 => spec_WeakOf_l2 u k_spec_WeakOf_l2 z0 z1 z2 z3) p0 (bRem .i64 (bAdd .i64 x4 (IntKind.wrap .i64 y10)) 251) (bRem .i64 (bAdd .i64 x5 (bRem .i64 (bAdd .i64 x4 (IntKind.wrap .i64 y10)) 251)) 251) (bAdd .i64 x6 1)) else (spec_WeakOf_j1 u x4 x5)
def spec_WeakOf (u : Nat) (p0 : List Int) : Option Int :=
  spec_WeakOf_l2 u u p0 0 0 0
def spec_WeakOf_l2_f (u : Nat) (p0 : List Int) (s : Int × Int) : Option Int := (spec_WeakOf_j1 u s.1 s.2)
def spec_WeakOf_l2_b (u : Nat) (p0 : List Int) (y10 : Int) (i_ : Nat) (s : Int × Int) (k_ : (Int × Int) → Option Int) : Option Int := (fun z0 z1 z2 z3 => k_ (z1, z2)) p0 (bRem .i64 (bAdd .i64 s.1 (IntKind.wrap .i64 y10)) 251) (bRem .i64 (bAdd .i64 s.2 (bRem .i64 (bAdd .i64 s.1 (IntKind.wrap .i64 y10)) 251)) 251) (bAdd .i64 (i_ : Int) 1)
theorem spec_WeakOf_l2_w (u : Nat) (p0 : List Int) (s : Int × Int) (k : Nat) (hn : p0.length ≤ 9223372036854775807) (hk : p0.length < k) : spec_WeakOf_l2 u k p0 s.1 s.2 0 = Pu.wlist (spec_WeakOf_l2_f u p0) (spec_WeakOf_l2_b u p0) p0 0 s := Pu.wlist_0 (fun (k : Nat) (s : Int × Int) (i : Int) => spec_WeakOf_l2 u k p0 s.1 s.2 i) hn (fun _ _ _ => rfl) s hk
def spec_SumOf_j1 (u : Nat) (p0 : List Int) (x8 : Int) : Option Sum :=
  (spec_WeakOf u p0).bind fun r9 => some ((Sum.mk r9 x8))
def spec_SumOf_l2 (u : Nat) (k_spec_SumOf_l2 : Nat) (p0 : List Int) (x3 : Int) (x4 : Int) : Option Sum := match k_spec_SumOf_l2 with
  | 0 => none
  | k_spec_SumOf_l2 + 1 => bif decide (x4 < ((p0.length : Int))) then ((idx p0 x4).bind fun y7 => (fun z0 z1 z2 => spec_SumOf_l2 u k_spec_SumOf_l2 z0 z1 z2) p0 (bAdd .i64 (bMul .i64 256 x3) (IntKind.wrap .i64 y7)) (bAdd .i64 x4 1)) else (spec_SumOf_j1 u p0 x3)
def spec_SumOf (u : Nat) (p0 : List Int) : Option Sum :=
  bif decide (((p0.length : Int)) > 6) then (some ((Sum.mk 0 0))) else (spec_SumOf_l2 u u p0 1 0)
def spec_SumOf_l2_f (u : Nat) (p0 : List Int) (s : Int) : Option Sum := (spec_SumOf_j1 u p0 s)
def spec_SumOf_l2_b (u : Nat) (p0 : List Int) (y7 : Int) (i_ : Nat) (s : Int) (k_ : Int → Option Sum) : Option Sum := (fun z0 z1 z2 => k_ z1) p0 (bAdd .i64 (bMul .i64 256 s) (IntKind.wrap .i64 y7)) (bAdd .i64 (i_ : Int) 1)
theorem spec_SumOf_l2_w (u : Nat) (p0 : List Int) (s : Int) (k : Nat) (hn : p0.length ≤ 9223372036854775807) (hk : p0.length < k) : spec_SumOf_l2 u k p0 s 0 = Pu.wlist (spec_SumOf_l2_f u p0) (spec_SumOf_l2_b u p0) p0 0 s := Pu.wlist_0 (fun (k : Nat) (s : Int) (i : Int) => spec_SumOf_l2 u k p0 s i) hn (fun _ _ _ => rfl) s hk
def spec_SumsOf_j1 (u : Nat) (x10 : List Sum) : Option ((List Sum)) :=
  some x10
def spec_SumsOf_l2 (u : Nat) (k_spec_SumsOf_l2 : Nat) (p0 : List Int) (p1 : Int) (x3 : List Sum) (x4 : Int) : Option ((List Sum)) := match k_spec_SumsOf_l2 with
  | 0 => none
  | k_spec_SumsOf_l2 + 1 => (spec_Blocks u p1 ((p0.length : Int))).bind fun r7 => bif decide (x4 < r7) then ((spec_BlockAt u p0 p1 x4).bind fun r8 => (spec_SumOf u r8.1).bind fun r9 => (chk (decide ((x3.length + ([r9]).length) * 16 ≤ 140737488355328))).bind fun _ => (fun z0 z1 z2 z3 => spec_SumsOf_l2 u k_spec_SumsOf_l2 z0 z1 z2 z3) p0 p1 (x3 ++ ([r9])) (bAdd .i64 x4 1)) else (spec_SumsOf_j1 u x3)
def spec_SumsOf (u : Nat) (p0 : List Int) (p1 : Int) : Option ((List Sum)) :=
  spec_SumsOf_l2 u u p0 p1 (([] : List Sum)) 0
def spec_ManOf_j1 (u : Nat) (p0 : Int) (p1 : List Int) (p2 : Int) (x3 : Bool) : Option Manifest :=
  bif x3 then (some ((Manifest.mk 0 0 0 ([])))) else ((spec_SumsOf u p1 p2).bind fun r4 => some ((Manifest.mk p0 p2 ((p1.length : Int)) r4)))
def spec_ManOf (u : Nat) (p0 : Int) (p1 : List Int) (p2 : Int) : Option Manifest :=
  (spec_l1In u p0 1 1000000).bind fun r1 => bif !r1 then (spec_ManOf_j1 u p0 p1 p2 true) else ((spec_SizeOk u p2 ((p1.length : Int))).bind fun r2 => spec_ManOf_j1 u p0 p1 p2 (!r2))
def spec_l6Draw (u : Nat) (p0 : l1Cur) : Option (Manifest × (List Int) × l1Cur) :=
  (spec_l6Image u p0).bind fun r1 => (spec_l1Below u r1.2 5).bind fun r2 => (spec_l1Below u r2.2 5).bind fun r3 => (spec_ManOf u (bAdd .i64 1 r2.1) r1.1 (bAdd .i64 2 r3.1)).bind fun r4 => some ((r4, r1.1, r3.2))
def spec_l6Any_j1 (u : Nat) (x8 : Int) (x9 : Int) (x10 : Int) (x11 : List Sum) (x12 : List Int) (x13 : Int) (x14 : Int) : Option (Manifest × l1Cur) :=
  some (((Manifest.mk x8 x9 x10 x11), (l1Cur.mk x12 x13 x14)))
def spec_l6Any (u : Nat) (p0 : l1Cur) : Option (Manifest × l1Cur) :=
  (spec_l6Draw u p0).bind fun r1 => (spec_l1Below u r1.2.2 10).bind fun r2 => bif r2.1 == 0 then ((spec_l1Int u r2.2 ([0, -1, 1000000, 1000001])).bind fun r3 => spec_l6Any_j1 u r3.1 r1.1.fSize r1.1.fLen r1.1.fSums r3.2.fB r3.2.fI r3.2.fH) else (bif r2.1 == 1 then ((spec_l1Int u r2.2 ([0, 1, 7])).bind fun r4 => spec_l6Any_j1 u r1.1.fGen r4.1 r1.1.fLen r1.1.fSums r4.2.fB r4.2.fI r4.2.fH) else (bif r2.1 == 2 then (spec_l6Any_j1 u r1.1.fGen r1.1.fSize (bAdd .i64 r1.1.fLen 1) r1.1.fSums r2.2.fB r2.2.fI r2.2.fH) else (bif r2.1 == 3 then ((chk (decide ((r1.1.fSums.length + ([(Sum.mk 1 257)]).length) * 16 ≤ 140737488355328))).bind fun _ => spec_l6Any_j1 u r1.1.fGen r1.1.fSize r1.1.fLen (r1.1.fSums ++ ([(Sum.mk 1 257)])) r2.2.fB r2.2.fI r2.2.fH) else (bif r2.1 == 4 then (bif decide (((r1.1.fSums.length : Int)) > 0) then ((idx r1.1.fSums 0).bind fun y6 => (idx r1.1.fSums 0).bind fun y7 => spec_l6Any_j1 u r1.1.fGen r1.1.fSize r1.1.fLen (r1.1.fSums.set (Int.toNat 0) ((Sum.mk (bAdd .i64 y6.fW 1) y7.fS))) r2.2.fB r2.2.fI r2.2.fH) else (spec_l6Any_j1 u r1.1.fGen r1.1.fSize r1.1.fLen r1.1.fSums r2.2.fB r2.2.fI r2.2.fH)) else (spec_l6Any_j1 u r1.1.fGen r1.1.fSize r1.1.fLen r1.1.fSums r2.2.fB r2.2.fI r2.2.fH)))))
def spec_DrawManBytes (u : Nat) (p0 : List Int) : Option Manifest :=
  (spec_l1New u p0).bind fun r1 => (spec_l6Any u r1).bind fun r2 => some r2.1
def impl_within (u : Nat) (p0 : Int) (p1 : Int) (p2 : Int) : Option Bool :=
  bif decide (p0 ≥ p1) then (some (decide (p0 ≤ p2))) else (some false)
def impl_SizeOk (u : Nat) (p0 : Int) (p1 : Int) : Option Bool :=
  (impl_within u p0 2 6).bind fun r1 => bif r1 then ((impl_within u p1 0 (bMul .i64 40 p0)).bind fun r2 => some r2) else (some false)
def impl_CeilDiv_j1 (u : Nat) (p0 : Int) (p1 : Int) (x3 : Bool) : Option Int :=
  bif x3 then (some 0) else ((chk (!(p1 == 0))).bind fun _ => some (bQuo .i64 (bSub .i64 (bAdd .i64 p0 p1) 1) p1))
def impl_CeilDiv (u : Nat) (p0 : Int) (p1 : Int) : Option Int :=
  (impl_within u p0 0 1000000000000).bind fun r1 => bif !r1 then (impl_CeilDiv_j1 u p0 p1 true) else ((impl_within u p1 1 1000000000000).bind fun r2 => impl_CeilDiv_j1 u p0 p1 (!r2))
def impl_Blocks (u : Nat) (p0 : Int) (p1 : Int) : Option Int :=
  (impl_SizeOk u p0 p1).bind fun r1 => bif !r1 then (some 0) else ((impl_CeilDiv u p1 p0).bind fun r2 => some r2)
def impl_SpanOf (u : Nat) (p0 : Int) (p1 : Int) (p2 : Int) : Option (Int × Int) :=
  (impl_Blocks u p0 p1).bind fun r1 => (impl_within u p2 0 (bSub .i64 r1 1)).bind fun r2 => bif !r2 then (some ((0, 0))) else (some ((bMul .i64 p2 p0, if (bSub .i64 p1 (bMul .i64 p2 p0)) < p0 then (bSub .i64 p1 (bMul .i64 p2 p0)) else p0)))
def impl_cloned (u : Nat) (p0 : List Int) : Option ((List Int)) :=
  (chk (decide (0 ≤ ((p0.length : Int))) && (0 == 0 || 0 == ((p0.length : Int))))).bind fun _ => (chk (decide (Int.toNat ((p0.length : Int)) * 1 ≤ 140737488355328))).bind fun _ => (chk (decide (((List.replicate (Int.toNat 0) (0 : Int)).length + p0.length) * 1 ≤ 140737488355328))).bind fun _ => some ((List.replicate (Int.toNat 0) (0 : Int)) ++ p0)
def impl_Slice_j1 (u : Nat) (p0 : List Int) (p1 : Int) (p2 : Int) (x3 : Bool) : Option ((List Int) × Bool) :=
  bif x3 then (some (([], false))) else ((chk (sliceOK p1 (bAdd .i64 p1 p2) p0.length)).bind fun _ => (impl_cloned u ((p0.take (Int.toNat (bAdd .i64 p1 p2))).drop (Int.toNat p1))).bind fun r5 => some ((r5, true)))
def impl_Slice (u : Nat) (p0 : List Int) (p1 : Int) (p2 : Int) : Option ((List Int) × Bool) :=
  (impl_within u p1 0 ((p0.length : Int))).bind fun r1 => bif !r1 then (impl_Slice_j1 u p0 p1 p2 true) else ((impl_within u p2 0 (bSub .i64 ((p0.length : Int)) p1)).bind fun r2 => impl_Slice_j1 u p0 p1 p2 (!r2))
def impl_BlockAt (u : Nat) (p0 : List Int) (p1 : Int) (p2 : Int) : Option ((List Int) × Bool) :=
  (impl_SpanOf u p1 ((p0.length : Int)) p2).bind fun r1 => bif r1.2 == 0 then (some (([], false))) else ((impl_Slice u p0 r1.1 r1.2).bind fun r2 => some ((r2.1, r2.2)))
def impl_Wrap (u : Nat) (p0 : Int) (p1 : Int) : Option Int :=
  (impl_within u p1 1 1000000000000).bind fun r1 => bif !r1 then (some 0) else ((chk (!(p1 == 0))).bind fun _ => (chk (!(p1 == 0))).bind fun _ => some (bRem .i64 (bAdd .i64 (bRem .i64 p0 p1) p1) p1))
def impl_weak (u : Nat) (p0 : Int) (p1 : Int) : Option Int :=
  (impl_Wrap u p0 251).bind fun r1 => (impl_Wrap u p1 251).bind fun r2 => some (bAdd .i64 r1 (bMul .i64 251 r2))
def impl_WeakOf_j1 (u : Nat) (x11 : Int) (x12 : Int) : Option Int :=
  (impl_weak u x11 x12).bind fun r13 => some r13
def impl_WeakOf_l2 (u : Nat) (k_impl_WeakOf_l2 : Nat) (x4 : Int) (x5 : Int) (p0 : List Int) (x6 : Int) : Option Int := match k_impl_WeakOf_l2 with
  | 0 => none
  | k_impl_WeakOf_l2 + 1 => bif decide (x6 < ((p0.length : Int))) then ((idx p0 x6).bind fun y10 => (fun z0 z1 z2 z3 => impl_WeakOf_l2 u k_impl_WeakOf_l2 z0 z1 z2 z3) (bRem .i64 (bAdd .i64 x4 (IntKind.wrap .i64 y10)) 251) (bRem .i64 (bAdd .i64 x5 (bRem .i64 (bAdd .i64 x4 (IntKind.wrap .i64 y10)) 251)) 251) p0 (bAdd .i64 x6 1)) else (impl_WeakOf_j1 u x4 x5)
def impl_WeakOf (u : Nat) (p0 : List Int) : Option Int :=
  impl_WeakOf_l2 u u 0 0 p0 0
def impl_WeakOf_l2_f (u : Nat) (p0 : List Int) (s : Int × Int) : Option Int := (impl_WeakOf_j1 u s.1 s.2)
def impl_WeakOf_l2_b (u : Nat) (p0 : List Int) (y10 : Int) (i_ : Nat) (s : Int × Int) (k_ : (Int × Int) → Option Int) : Option Int := (fun z0 z1 z2 z3 => k_ (z0, z1)) (bRem .i64 (bAdd .i64 s.1 (IntKind.wrap .i64 y10)) 251) (bRem .i64 (bAdd .i64 s.2 (bRem .i64 (bAdd .i64 s.1 (IntKind.wrap .i64 y10)) 251)) 251) p0 (bAdd .i64 (i_ : Int) 1)
theorem impl_WeakOf_l2_w (u : Nat) (p0 : List Int) (s : Int × Int) (k : Nat) (hn : p0.length ≤ 9223372036854775807) (hk : p0.length < k) : impl_WeakOf_l2 u k s.1 s.2 p0 0 = Pu.wlist (impl_WeakOf_l2_f u p0) (impl_WeakOf_l2_b u p0) p0 0 s := Pu.wlist_0 (fun (k : Nat) (s : Int × Int) (i : Int) => impl_WeakOf_l2 u k s.1 s.2 p0 i) hn (fun _ _ _ => rfl) s hk
def impl_SumOf_j1 (u : Nat) (p0 : List Int) (x8 : Int) : Option Sum :=
  (impl_WeakOf u p0).bind fun r9 => some ((Sum.mk r9 x8))
def impl_SumOf_l2 (u : Nat) (k_impl_SumOf_l2 : Nat) (p0 : List Int) (x3 : Int) (x4 : Int) : Option Sum := match k_impl_SumOf_l2 with
  | 0 => none
  | k_impl_SumOf_l2 + 1 => bif decide (x4 < ((p0.length : Int))) then ((idx p0 x4).bind fun y7 => (fun z0 z1 z2 => impl_SumOf_l2 u k_impl_SumOf_l2 z0 z1 z2) p0 (bOr .i64 (bShl .i64 x3 8) (IntKind.wrap .i64 y7)) (bAdd .i64 x4 1)) else (impl_SumOf_j1 u p0 x3)
def impl_SumOf (u : Nat) (p0 : List Int) : Option Sum :=
  bif decide (((p0.length : Int)) > 6) then (some ((Sum.mk 0 0))) else (impl_SumOf_l2 u u p0 1 0)
def impl_SumOf_l2_f (u : Nat) (p0 : List Int) (s : Int) : Option Sum := (impl_SumOf_j1 u p0 s)
def impl_SumOf_l2_b (u : Nat) (p0 : List Int) (y7 : Int) (i_ : Nat) (s : Int) (k_ : Int → Option Sum) : Option Sum := (fun z0 z1 z2 => k_ z1) p0 (bOr .i64 (bShl .i64 s 8) (IntKind.wrap .i64 y7)) (bAdd .i64 (i_ : Int) 1)
theorem impl_SumOf_l2_w (u : Nat) (p0 : List Int) (s : Int) (k : Nat) (hn : p0.length ≤ 9223372036854775807) (hk : p0.length < k) : impl_SumOf_l2 u k p0 s 0 = Pu.wlist (impl_SumOf_l2_f u p0) (impl_SumOf_l2_b u p0) p0 0 s := Pu.wlist_0 (fun (k : Nat) (s : Int) (i : Int) => impl_SumOf_l2 u k p0 s i) hn (fun _ _ _ => rfl) s hk
def impl_SumsOf_j1 (u : Nat) (x10 : List Sum) : Option ((List Sum)) :=
  some x10
def impl_SumsOf_l2 (u : Nat) (k_impl_SumsOf_l2 : Nat) (p0 : List Int) (p1 : Int) (x4 : List Sum) (r1 : Int) (x5 : Int) : Option ((List Sum)) := match k_impl_SumsOf_l2 with
  | 0 => none
  | k_impl_SumsOf_l2 + 1 => bif decide (x5 < r1) then ((impl_BlockAt u p0 p1 x5).bind fun r8 => (impl_SumOf u r8.1).bind fun r9 => (chk (decide ((x4.length + ([r9]).length) * 16 ≤ 140737488355328))).bind fun _ => (fun z0 z1 z2 z3 z4 => impl_SumsOf_l2 u k_impl_SumsOf_l2 z0 z1 z2 z3 z4) p0 p1 (x4 ++ ([r9])) r1 (bAdd .i64 x5 1)) else (impl_SumsOf_j1 u x4)
def impl_SumsOf (u : Nat) (p0 : List Int) (p1 : Int) : Option ((List Sum)) :=
  (impl_Blocks u p1 ((p0.length : Int))).bind fun r1 => impl_SumsOf_l2 u u p0 p1 (([] : List Sum)) r1 0
def impl_SumsOf_l2_f (u : Nat) (p0 : List Int) (p1 : Int) (r1 : Int) (s : (List Sum)) : Option ((List Sum)) := (impl_SumsOf_j1 u s)
def impl_SumsOf_l2_b (u : Nat) (p0 : List Int) (p1 : Int) (r1 : Int) (i_ : Nat) (s : (List Sum)) (k_ : ((List Sum)) → Option ((List Sum))) : Option ((List Sum)) := (impl_BlockAt u p0 p1 (i_ : Int)).bind fun r8 => (impl_SumOf u r8.1).bind fun r9 => (chk (decide ((s.length + ([r9]).length) * 16 ≤ 140737488355328))).bind fun _ => (fun z0 z1 z2 z3 z4 => k_ z2) p0 p1 (s ++ ([r9])) r1 (bAdd .i64 (i_ : Int) 1)
theorem impl_SumsOf_l2_w (u : Nat) (p0 : List Int) (p1 : Int) (r1 : Int) (s : (List Sum)) (k : Nat) (hn : (r1 : Int) ≤ 9223372036854775807) (hk : Int.toNat (r1) < k) : impl_SumsOf_l2 u k p0 p1 s r1 0 = Pu.walk (impl_SumsOf_l2_f u p0 p1 r1) (impl_SumsOf_l2_b u p0 p1 r1) (Int.toNat (r1)) 0 s := Pu.walk_0 (fun (k : Nat) (s : (List Sum)) (i : Int) => impl_SumsOf_l2 u k p0 p1 s r1 i) hn (fun _ _ _ => rfl) s hk
def impl_ManOf_j1 (u : Nat) (p0 : Int) (p1 : List Int) (p2 : Int) (x3 : Bool) : Option Manifest :=
  bif x3 then (some ((Manifest.mk 0 0 0 ([])))) else ((impl_SumsOf u p1 p2).bind fun r4 => some ((Manifest.mk p0 p2 ((p1.length : Int)) r4)))
def impl_ManOf (u : Nat) (p0 : Int) (p1 : List Int) (p2 : Int) : Option Manifest :=
  (impl_within u p0 1 1000000).bind fun r1 => bif !r1 then (impl_ManOf_j1 u p0 p1 p2 true) else ((impl_SizeOk u p2 ((p1.length : Int))).bind fun r2 => impl_ManOf_j1 u p0 p1 p2 (!r2))
def impl_isZeroMan (u : Nat) (p0 : Manifest) : Option Bool :=
  bif p0.fGen == 0 then (bif p0.fSize == 0 then (bif p0.fLen == 0 then (some (((p0.fSums.length : Int)) == 0)) else (some false)) else (some false)) else (some false)
def impl_BytesOf_j3 (u : Nat) (x17 : List Int) : Option ((List Int) × Bool) :=
  some ((x17, true))
def impl_BytesOf_l4 (u : Nat) (k_impl_BytesOf_l4 : Nat) (p0 : Int) (x5 : Int) (x11 : List Int) (x12 : Int) : Option ((List Int) × Bool) := match k_impl_BytesOf_l4 with
  | 0 => none
  | k_impl_BytesOf_l4 + 1 => bif decide (x12 < (((List.replicate (Int.toNat x5) (0 : Int)).length : Int))) then ((chk (decide (0 ≤ (bMul .i64 8 (bSub .i64 (bSub .i64 x5 1) x12))))).bind fun _ => (idx x11 x12).bind fun y16 => (fun z0 z1 z2 z3 => impl_BytesOf_l4 u k_impl_BytesOf_l4 z0 z1 z2 z3) p0 x5 (x11.set (Int.toNat x12) (IntKind.wrap .u8 (bShr .i64 p0 (bMul .i64 8 (bSub .i64 (bSub .i64 x5 1) x12))))) (bAdd .i64 x12 1)) else (impl_BytesOf_j3 u x11)
def impl_BytesOf_j2 (u : Nat) (p0 : Int) (x5 : Int) (x6 : Bool) : Option ((List Int) × Bool) :=
  bif x6 then (some (([], false))) else ((chk (decide (0 ≤ x5) && (x5 == 0 || x5 == x5))).bind fun _ => (chk (decide (Int.toNat x5 * 1 ≤ 140737488355328))).bind fun _ => impl_BytesOf_l4 u u p0 x5 (List.replicate (Int.toNat x5) (0 : Int)) 0)
def impl_BytesOf_j1 (u : Nat) (p0 : Int) (x5 : Int) : Option ((List Int) × Bool) :=
  bif decide (p0 < 1) then (impl_BytesOf_j2 u p0 x5 true) else ((chk (decide (0 ≤ (bMul .i64 8 x5)))).bind fun _ => impl_BytesOf_j2 u p0 x5 ((bShr .i64 p0 (bMul .i64 8 x5)) != 1))
def impl_BytesOf_j6 (u : Nat) (c_impl_BytesOf_l5 : Int → Int → Option ((List Int) × Bool)) (p0 : Int) (x2 : Int) (x4 : Bool) : Option ((List Int) × Bool) :=
  bif x4 then (c_impl_BytesOf_l5 p0 (bAdd .i64 x2 1)) else (impl_BytesOf_j1 u p0 x2)
def impl_BytesOf_l5 (u : Nat) (k_impl_BytesOf_l5 : Nat) (p0 : Int) (x2 : Int) : Option ((List Int) × Bool) := match k_impl_BytesOf_l5 with
  | 0 => none
  | k_impl_BytesOf_l5 + 1 => bif decide (x2 < 6) then ((chk (decide (0 ≤ (bMul .i64 8 x2)))).bind fun _ => impl_BytesOf_j6 u (fun z0 z1 => impl_BytesOf_l5 u k_impl_BytesOf_l5 z0 z1) p0 x2 (decide ((bShr .i64 p0 (bMul .i64 8 x2)) > 1))) else (impl_BytesOf_j6 u (fun z0 z1 => impl_BytesOf_l5 u k_impl_BytesOf_l5 z0 z1) p0 x2 false)
def impl_BytesOf (u : Nat) (p0 : Int) : Option ((List Int) × Bool) :=
  impl_BytesOf_l5 u u p0 0
def impl_BytesOf_l4_f (u : Nat) (p0 : Int) (x5 : Int) (s : (List Int)) : Option ((List Int) × Bool) := (impl_BytesOf_j3 u s)
def impl_BytesOf_l4_b (u : Nat) (p0 : Int) (x5 : Int) (i_ : Nat) (s : (List Int)) (k_ : ((List Int)) → Option ((List Int) × Bool)) : Option ((List Int) × Bool) := (chk (decide (0 ≤ (bMul .i64 8 (bSub .i64 (bSub .i64 x5 1) (i_ : Int)))))).bind fun _ => (idx s (i_ : Int)).bind fun y16 => (fun z0 z1 z2 z3 => k_ z2) p0 x5 (s.set (Int.toNat (i_ : Int)) (IntKind.wrap .u8 (bShr .i64 p0 (bMul .i64 8 (bSub .i64 (bSub .i64 x5 1) (i_ : Int)))))) (bAdd .i64 (i_ : Int) 1)
theorem impl_BytesOf_l4_w (u : Nat) (p0 : Int) (x5 : Int) (s : (List Int)) (k : Nat) (hn : ((((List.replicate (Int.toNat x5) (0 : Int)).length : Int)) : Int) ≤ 9223372036854775807) (hk : Int.toNat ((((List.replicate (Int.toNat x5) (0 : Int)).length : Int))) < k) : impl_BytesOf_l4 u k p0 x5 s 0 = Pu.walk (impl_BytesOf_l4_f u p0 x5) (impl_BytesOf_l4_b u p0 x5) (Int.toNat ((((List.replicate (Int.toNat x5) (0 : Int)).length : Int)))) 0 s := Pu.walk_0 (fun (k : Nat) (s : (List Int)) (i : Int) => impl_BytesOf_l4 u k p0 x5 s i) hn (fun _ _ _ => rfl) s hk
def impl_ManOk_j2 (u : Nat)  : Option Bool :=
  some true
def impl_ManOk_j4 (u : Nat) (c_impl_ManOk_l3 : Manifest → Int → Option Bool) (p0 : Manifest) (x7 : Int) (x13 : Bool) : Option Bool :=
  bif x13 then (some false) else (c_impl_ManOk_l3 p0 (bAdd .i64 x7 1))
def impl_ManOk_l3 (u : Nat) (k_impl_ManOk_l3 : Nat) (p0 : Manifest) (x7 : Int) : Option Bool := match k_impl_ManOk_l3 with
  | 0 => none
  | k_impl_ManOk_l3 + 1 => bif decide (x7 < ((p0.fSums.length : Int))) then ((idx p0.fSums x7).bind fun y9 => (impl_BytesOf u y9.fS).bind fun r10 => (impl_SpanOf u p0.fSize p0.fLen x7).bind fun r11 => bif !r10.2 then (impl_ManOk_j4 u (fun z0 z1 => impl_ManOk_l3 u k_impl_ManOk_l3 z0 z1) p0 x7 true) else (bif ((r10.1.length : Int)) != r11.2 then (impl_ManOk_j4 u (fun z0 z1 => impl_ManOk_l3 u k_impl_ManOk_l3 z0 z1) p0 x7 true) else ((impl_WeakOf u r10.1).bind fun r12 => impl_ManOk_j4 u (fun z0 z1 => impl_ManOk_l3 u k_impl_ManOk_l3 z0 z1) p0 x7 (r12 != y9.fW)))) else (impl_ManOk_j2 u)
def impl_ManOk_j1 (u : Nat) (x5 : Bool) (p0 : Manifest) : Option Bool :=
  bif x5 then (some false) else (impl_ManOk_l3 u u p0 0)
def impl_ManOk (u : Nat) (p0 : Manifest) : Option Bool :=
  (impl_isZeroMan u p0).bind fun r1 => bif r1 then (some true) else ((impl_within u p0.fGen 1 1000000).bind fun r2 => bif !r2 then (impl_ManOk_j1 u true p0) else ((impl_SizeOk u p0.fSize p0.fLen).bind fun r3 => bif !r3 then (impl_ManOk_j1 u true p0) else ((impl_Blocks u p0.fSize p0.fLen).bind fun r4 => impl_ManOk_j1 u (((p0.fSums.length : Int)) != r4) p0)))
def impl_ManOk_l3_f (u : Nat) (p0 : Manifest) (s : Unit) : Option Bool := (impl_ManOk_j2 u)
def impl_ManOk_l3_b (u : Nat) (p0 : Manifest) (y9 : Sum) (i_ : Nat) (s : Unit) (k_ : Unit → Option Bool) : Option Bool := (impl_BytesOf u y9.fS).bind fun r10 => (impl_SpanOf u p0.fSize p0.fLen (i_ : Int)).bind fun r11 => bif !r10.2 then (impl_ManOk_j4 u (fun z0 z1 => k_ ()) p0 (i_ : Int) true) else (bif ((r10.1.length : Int)) != r11.2 then (impl_ManOk_j4 u (fun z0 z1 => k_ ()) p0 (i_ : Int) true) else ((impl_WeakOf u r10.1).bind fun r12 => impl_ManOk_j4 u (fun z0 z1 => k_ ()) p0 (i_ : Int) (r12 != y9.fW)))
theorem impl_ManOk_l3_w (u : Nat) (p0 : Manifest) (s : Unit) (k : Nat) (hn : p0.fSums.length ≤ 9223372036854775807) (hk : p0.fSums.length < k) : impl_ManOk_l3 u k p0 0 = Pu.wlist (impl_ManOk_l3_f u p0) (impl_ManOk_l3_b u p0) p0.fSums 0 s := Pu.wlist_0 (fun (k : Nat) (s : Unit) (i : Int) => impl_ManOk_l3 u k p0 i) hn (fun _ _ _ => rfl) s hk
def impl_appendVar_j1 (u : Nat) (x7 : List Int) (x8 : Int) : Option ((List Int)) :=
  (chk (decide ((x7.length + ([IntKind.wrap .u8 x8]).length) * 1 ≤ 140737488355328))).bind fun _ => some (x7 ++ ([IntKind.wrap .u8 x8]))
def impl_appendVar_l2 (u : Nat) (k_impl_appendVar_l2 : Nat) (x3 : List Int) (x4 : Int) : Option ((List Int)) := match k_impl_appendVar_l2 with
  | 0 => none
  | k_impl_appendVar_l2 + 1 => bif decide (x4 ≥ 128) then ((chk (decide ((x3.length + ([bOr .u8 (IntKind.wrap .u8 x4) 128]).length) * 1 ≤ 140737488355328))).bind fun _ => (fun z0 z1 => impl_appendVar_l2 u k_impl_appendVar_l2 z0 z1) (x3 ++ ([bOr .u8 (IntKind.wrap .u8 x4) 128])) (bShr .i64 x4 7)) else (impl_appendVar_j1 u x3 x4)
def impl_appendVar (u : Nat) (p0 : List Int) (p1 : Int) : Option ((List Int)) :=
  impl_appendVar_l2 u u p0 p1
def impl_PutVar (u : Nat) (p0 : List Int) (p1 : Int) : Option ((List Int)) :=
  (impl_cloned u p0).bind fun r1 => (impl_within u p1 0 1000000000000).bind fun r2 => bif !r2 then (some r1) else ((impl_appendVar u r1 p1).bind fun r3 => some r3)
def impl_PutMan_j1 (u : Nat) (x14 : List Int) : Option ((List Int)) :=
  some x14
def impl_PutMan_l2 (u : Nat) (k_impl_PutMan_l2 : Nat) (x8 : List Int) (p1 : Manifest) (x9 : Int) : Option ((List Int)) := match k_impl_PutMan_l2 with
  | 0 => none
  | k_impl_PutMan_l2 + 1 => bif decide (x9 < ((p1.fSums.length : Int))) then ((idx p1.fSums x9).bind fun y12 => (impl_appendVar u x8 y12.fS).bind fun r13 => (fun z0 z1 z2 => impl_PutMan_l2 u k_impl_PutMan_l2 z0 z1 z2) r13 p1 (bAdd .i64 x9 1)) else (impl_PutMan_j1 u x8)
def impl_PutMan (u : Nat) (p0 : List Int) (p1 : Manifest) : Option ((List Int)) :=
  (impl_ManOk u p1).bind fun r1 => bif !r1 then ((impl_cloned u p0).bind fun r2 => some r2) else ((impl_PutVar u p0 p1.fGen).bind fun r3 => (impl_PutVar u r3 p1.fSize).bind fun r4 => (impl_PutVar u r4 p1.fLen).bind fun r5 => impl_PutMan_l2 u u r5 p1 0)
def impl_PutMan_l2_f (u : Nat) (p1 : Manifest) (s : (List Int)) : Option ((List Int)) := (impl_PutMan_j1 u s)
def impl_PutMan_l2_b (u : Nat) (p1 : Manifest) (y12 : Sum) (i_ : Nat) (s : (List Int)) (k_ : ((List Int)) → Option ((List Int))) : Option ((List Int)) := (impl_appendVar u s y12.fS).bind fun r13 => (fun z0 z1 z2 => k_ z0) r13 p1 (bAdd .i64 (i_ : Int) 1)
theorem impl_PutMan_l2_w (u : Nat) (p1 : Manifest) (s : (List Int)) (k : Nat) (hn : p1.fSums.length ≤ 9223372036854775807) (hk : p1.fSums.length < k) : impl_PutMan_l2 u k s p1 0 = Pu.wlist (impl_PutMan_l2_f u p1) (impl_PutMan_l2_b u p1) p1.fSums 0 s := Pu.wlist_0 (fun (k : Nat) (s : (List Int)) (i : Int) => impl_PutMan_l2 u k s p1 i) hn (fun _ _ _ => rfl) s hk
def impl_ManBytes (u : Nat) (p0 : Manifest) : Option Int :=
  (impl_PutMan u ([]) p0).bind fun r1 => some ((r1.length : Int))
def impl_FindSum_j1 (u : Nat)  : Option Int :=
  some (-1)
def impl_FindSum_l2 (u : Nat) (k_impl_FindSum_l2 : Nat) (p0 : List Int) (p2 : Int) (x3 : Int) (p1 : Sum) : Option Int := match k_impl_FindSum_l2 with
  | 0 => none
  | k_impl_FindSum_l2 + 1 => bif decide ((bAdd .i64 x3 p2) ≤ ((p0.length : Int))) then ((chk (sliceOK x3 (bAdd .i64 x3 p2) p0.length)).bind fun _ => (impl_SumOf u ((p0.take (Int.toNat (bAdd .i64 x3 p2))).drop (Int.toNat x3))).bind fun r6 => bif [r6.fW, r6.fS] == [p1.fW, p1.fS] then (some x3) else ((fun z0 z1 z2 z3 => impl_FindSum_l2 u k_impl_FindSum_l2 z0 z1 z2 z3) p0 p2 (bAdd .i64 x3 1) p1)) else (impl_FindSum_j1 u)
def impl_FindSum (u : Nat) (p0 : List Int) (p1 : Sum) (p2 : Int) : Option Int :=
  (impl_within u p2 1 6).bind fun r1 => bif !r1 then (some (-1)) else (impl_FindSum_l2 u u p0 p2 0 p1)
def impl_PlaceOf (u : Nat) (p0 : List Int) (p1 : Manifest) (p2 : Int) : Option Int :=
  (impl_SpanOf u p1.fSize p1.fLen p2).bind fun r1 => (impl_within u p2 0 (bSub .i64 ((p1.fSums.length : Int)) 1)).bind fun r2 => bif !r2 then (some (-1)) else ((idx p1.fSums p2).bind fun y3 => (impl_FindSum u p0 y3 r1.2).bind fun r4 => some r4)
def impl_placed_j1 (u : Nat) (x9 : Int) : Option Int :=
  some x9
def impl_placed_j3 (u : Nat) (c_impl_placed_l2 : (List Int) → Bool → Int → Manifest → Int → Option Int) (p0 : List Int) (p2 : Bool) (x8 : Int) (p1 : Manifest) (x4 : Int) : Option Int :=
  c_impl_placed_l2 p0 p2 x8 p1 (bAdd .i64 x4 1)
def impl_placed_l2 (u : Nat) (k_impl_placed_l2 : Nat) (p0 : List Int) (p2 : Bool) (x3 : Int) (p1 : Manifest) (x4 : Int) : Option Int := match k_impl_placed_l2 with
  | 0 => none
  | k_impl_placed_l2 + 1 => bif decide (x4 < (if ((p1.fSums.length : Int)) < 40 then ((p1.fSums.length : Int)) else 40)) then ((impl_PlaceOf u p0 p1 x4).bind fun r7 => bif (decide (r7 ≥ 0)) == p2 then ((chk (decide (0 ≤ x4))).bind fun _ => impl_placed_j3 u (fun z0 z1 z2 z3 z4 => impl_placed_l2 u k_impl_placed_l2 z0 z1 z2 z3 z4) p0 p2 (bOr .i64 x3 (bShl .i64 1 x4)) p1 x4) else (impl_placed_j3 u (fun z0 z1 z2 z3 z4 => impl_placed_l2 u k_impl_placed_l2 z0 z1 z2 z3 z4) p0 p2 x3 p1 x4)) else (impl_placed_j1 u x3)
def impl_placed (u : Nat) (p0 : List Int) (p1 : Manifest) (p2 : Bool) : Option Int :=
  impl_placed_l2 u u p0 p2 0 p1 0
def impl_placed_l2_f (u : Nat) (p0 : List Int) (p2 : Bool) (p1 : Manifest) (s : Int) : Option Int := (impl_placed_j1 u s)
def impl_placed_l2_b (u : Nat) (p0 : List Int) (p2 : Bool) (p1 : Manifest) (i_ : Nat) (s : Int) (k_ : Int → Option Int) : Option Int := (impl_PlaceOf u p0 p1 (i_ : Int)).bind fun r7 => bif (decide (r7 ≥ 0)) == p2 then ((chk (decide (0 ≤ (i_ : Int)))).bind fun _ => impl_placed_j3 u (fun z0 z1 z2 z3 z4 => k_ z2) p0 p2 (bOr .i64 s (bShl .i64 1 (i_ : Int))) p1 (i_ : Int)) else (impl_placed_j3 u (fun z0 z1 z2 z3 z4 => k_ z2) p0 p2 s p1 (i_ : Int))
theorem impl_placed_l2_w (u : Nat) (p0 : List Int) (p2 : Bool) (p1 : Manifest) (s : Int) (k : Nat) (hn : ((if ((p1.fSums.length : Int)) < 40 then ((p1.fSums.length : Int)) else 40) : Int) ≤ 9223372036854775807) (hk : Int.toNat ((if ((p1.fSums.length : Int)) < 40 then ((p1.fSums.length : Int)) else 40)) < k) : impl_placed_l2 u k p0 p2 s p1 0 = Pu.walk (impl_placed_l2_f u p0 p2 p1) (impl_placed_l2_b u p0 p2 p1) (Int.toNat ((if ((p1.fSums.length : Int)) < 40 then ((p1.fSums.length : Int)) else 40))) 0 s := Pu.walk_0 (fun (k : Nat) (s : Int) (i : Int) => impl_placed_l2 u k p0 p2 s p1 i) hn (fun _ _ _ => rfl) s hk
def impl_Lacking (u : Nat) (p0 : List Int) (p1 : Manifest) : Option Int :=
  (impl_placed u p0 p1 false).bind fun r1 => some r1
def impl_SetOk (u : Nat) (p0 : Int) : Option Bool :=
  (impl_within u p0 0 1099511627775).bind fun r1 => some r1
def impl_isPlace (u : Nat) (p0 : Int) : Option Bool :=
  (impl_within u p0 0 39).bind fun r1 => some r1
def impl_InSet (u : Nat) (p0 : Int) (p1 : Int) : Option Bool :=
  (impl_SetOk u p0).bind fun r1 => bif r1 then ((impl_isPlace u p1).bind fun r2 => bif r2 then ((chk (decide (0 ≤ p1))).bind fun _ => some ((bAnd .i64 (bShr .i64 p0 p1) 1) == 1)) else (some false)) else (some false)
def impl_PartsIn_j1 (u : Nat) (x9 : List Int) : Option ((List Int)) :=
  some x9
def impl_PartsIn_j3 (u : Nat) (c_impl_PartsIn_l2 : Int → (List Int) → Int → Option ((List Int))) (p0 : Int) (x8 : List Int) (x4 : Int) : Option ((List Int)) :=
  c_impl_PartsIn_l2 p0 x8 (bAdd .i64 x4 1)
def impl_PartsIn_l2 (u : Nat) (k_impl_PartsIn_l2 : Nat) (p0 : Int) (x3 : List Int) (x4 : Int) : Option ((List Int)) := match k_impl_PartsIn_l2 with
  | 0 => none
  | k_impl_PartsIn_l2 + 1 => bif decide (x4 < 40) then ((impl_InSet u p0 x4).bind fun r7 => bif r7 then ((chk (decide ((x3.length + ([x4]).length) * 8 ≤ 140737488355328))).bind fun _ => impl_PartsIn_j3 u (fun z0 z1 z2 => impl_PartsIn_l2 u k_impl_PartsIn_l2 z0 z1 z2) p0 (x3 ++ ([x4])) x4) else (impl_PartsIn_j3 u (fun z0 z1 z2 => impl_PartsIn_l2 u k_impl_PartsIn_l2 z0 z1 z2) p0 x3 x4)) else (impl_PartsIn_j1 u x3)
def impl_PartsIn (u : Nat) (p0 : Int) : Option ((List Int)) :=
  impl_PartsIn_l2 u u p0 (([] : List Int)) 0
def impl_PartsIn_l2_f (u : Nat) (p0 : Int) (s : (List Int)) : Option ((List Int)) := (impl_PartsIn_j1 u s)
def impl_PartsIn_l2_b (u : Nat) (p0 : Int) (i_ : Nat) (s : (List Int)) (k_ : ((List Int)) → Option ((List Int))) : Option ((List Int)) := (impl_InSet u p0 (i_ : Int)).bind fun r7 => bif r7 then ((chk (decide ((s.length + ([(i_ : Int)]).length) * 8 ≤ 140737488355328))).bind fun _ => impl_PartsIn_j3 u (fun z0 z1 z2 => k_ z1) p0 (s ++ ([(i_ : Int)])) (i_ : Int)) else (impl_PartsIn_j3 u (fun z0 z1 z2 => k_ z1) p0 s (i_ : Int))
theorem impl_PartsIn_l2_w (u : Nat) (p0 : Int) (s : (List Int)) (k : Nat) (hn : (40 : Int) ≤ 9223372036854775807) (hk : Int.toNat (40) < k) : impl_PartsIn_l2 u k p0 s 0 = Pu.walk (impl_PartsIn_l2_f u p0) (impl_PartsIn_l2_b u p0) (Int.toNat (40)) 0 s := Pu.walk_0 (fun (k : Nat) (s : (List Int)) (i : Int) => impl_PartsIn_l2 u k p0 s i) hn (fun _ _ _ => rfl) s hk
def impl_BytesLacking_j1 (u : Nat) (x11 : Int) : Option Int :=
  some x11
def impl_BytesLacking_l2 (u : Nat) (k_impl_BytesLacking_l2 : Nat) (x5 : Int) (r2 : (List Int)) (x6 : Int) (p1 : Manifest) : Option Int := match k_impl_BytesLacking_l2 with
  | 0 => none
  | k_impl_BytesLacking_l2 + 1 => bif decide (x6 < ((r2.length : Int))) then ((idx r2 x6).bind fun y9 => (impl_SpanOf u p1.fSize p1.fLen y9).bind fun r10 => (fun z0 z1 z2 z3 => impl_BytesLacking_l2 u k_impl_BytesLacking_l2 z0 z1 z2 z3) (bAdd .i64 x5 r10.2) r2 (bAdd .i64 x6 1) p1) else (impl_BytesLacking_j1 u x5)
def impl_BytesLacking (u : Nat) (p0 : List Int) (p1 : Manifest) : Option Int :=
  (impl_Lacking u p0 p1).bind fun r1 => (impl_PartsIn u r1).bind fun r2 => impl_BytesLacking_l2 u u 0 r2 0 p1
def impl_BytesLacking_l2_f (u : Nat) (r2 : (List Int)) (p1 : Manifest) (s : Int) : Option Int := (impl_BytesLacking_j1 u s)
def impl_BytesLacking_l2_b (u : Nat) (r2 : (List Int)) (p1 : Manifest) (y9 : Int) (i_ : Nat) (s : Int) (k_ : Int → Option Int) : Option Int := (impl_SpanOf u p1.fSize p1.fLen y9).bind fun r10 => (fun z0 z1 z2 z3 => k_ z0) (bAdd .i64 s r10.2) r2 (bAdd .i64 (i_ : Int) 1) p1
theorem impl_BytesLacking_l2_w (u : Nat) (r2 : (List Int)) (p1 : Manifest) (s : Int) (k : Nat) (hn : r2.length ≤ 9223372036854775807) (hk : r2.length < k) : impl_BytesLacking_l2 u k s r2 0 p1 = Pu.wlist (impl_BytesLacking_l2_f u r2 p1) (impl_BytesLacking_l2_b u r2 p1) r2 0 s := Pu.wlist_0 (fun (k : Nat) (s : Int) (i : Int) => impl_BytesLacking_l2 u k s r2 i p1) hn (fun _ _ _ => rfl) s hk
def impl_CostOf_j1 (u : Nat) (x12 : Int) : Option Int :=
  some x12
def impl_CostOf_l2 (u : Nat) (k_impl_CostOf_l2 : Nat) (x5 : Int) (p1 : List Image) (x6 : Int) (r2 : Manifest) : Option Int := match k_impl_CostOf_l2 with
  | 0 => none
  | k_impl_CostOf_l2 + 1 => bif decide (x6 < ((p1.length : Int))) then ((idx p1 x6).bind fun y9 => (impl_ManBytes u r2).bind fun r10 => (impl_BytesLacking u y9.fB r2).bind fun r11 => (fun z0 z1 z2 z3 => impl_CostOf_l2 u k_impl_CostOf_l2 z0 z1 z2 z3) (bAdd .i64 x5 (bAdd .i64 r10 r11)) p1 (bAdd .i64 x6 1) r2) else (impl_CostOf_j1 u x5)
def impl_CostOf (u : Nat) (p0 : List Int) (p1 : List Image) (p2 : Int) : Option Int :=
  (impl_SizeOk u p2 ((p0.length : Int))).bind fun r1 => bif !r1 then (some (-1)) else ((impl_ManOf u 1 p0 p2).bind fun r2 => impl_CostOf_l2 u u 0 p1 0 r2)
def impl_CostOf_l2_f (u : Nat) (p1 : List Image) (r2 : Manifest) (s : Int) : Option Int := (impl_CostOf_j1 u s)
def impl_CostOf_l2_b (u : Nat) (p1 : List Image) (r2 : Manifest) (y9 : Image) (i_ : Nat) (s : Int) (k_ : Int → Option Int) : Option Int := (impl_ManBytes u r2).bind fun r10 => (impl_BytesLacking u y9.fB r2).bind fun r11 => (fun z0 z1 z2 z3 => k_ z0) (bAdd .i64 s (bAdd .i64 r10 r11)) p1 (bAdd .i64 (i_ : Int) 1) r2
theorem impl_CostOf_l2_w (u : Nat) (p1 : List Image) (r2 : Manifest) (s : Int) (k : Nat) (hn : p1.length ≤ 9223372036854775807) (hk : p1.length < k) : impl_CostOf_l2 u k s p1 0 r2 = Pu.wlist (impl_CostOf_l2_f u p1 r2) (impl_CostOf_l2_b u p1 r2) p1 0 s := Pu.wlist_0 (fun (k : Nat) (s : Int) (i : Int) => impl_CostOf_l2 u k s p1 i r2) hn (fun _ _ _ => rfl) s hk
def impl_BestSize_j1 (u : Nat) (x14 : Int) : Option Int :=
  some x14
def impl_BestSize_j3 (u : Nat) (c_impl_BestSize_l2 : (List Int) → (List Image) → Int → Int → Int → Option Int) (p0 : List Int) (p1 : List Image) (x12 : Int) (x13 : Int) (x6 : Int) : Option Int :=
  c_impl_BestSize_l2 p0 p1 x12 x13 (bAdd .i64 x6 1)
def impl_BestSize_j4 (u : Nat) (c_impl_BestSize_l2 : (List Int) → (List Image) → Int → Int → Int → Option Int) (p0 : List Int) (p1 : List Image) (x4 : Int) (x5 : Int) (x6 : Int) (r10 : Int) (x11 : Bool) : Option Int :=
  bif x11 then (impl_BestSize_j3 u c_impl_BestSize_l2 p0 p1 x6 r10 x6) else (impl_BestSize_j3 u c_impl_BestSize_l2 p0 p1 x4 x5 x6)
def impl_BestSize_l2 (u : Nat) (k_impl_BestSize_l2 : Nat) (p0 : List Int) (p1 : List Image) (x4 : Int) (x5 : Int) (x6 : Int) : Option Int := match k_impl_BestSize_l2 with
  | 0 => none
  | k_impl_BestSize_l2 + 1 => bif decide (x6 ≤ 6) then ((impl_CostOf u p0 p1 x6).bind fun r10 => bif decide (r10 ≥ 0) then (bif x4 == 0 then (impl_BestSize_j4 u (fun z0 z1 z2 z3 z4 => impl_BestSize_l2 u k_impl_BestSize_l2 z0 z1 z2 z3 z4) p0 p1 x4 x5 x6 r10 true) else (impl_BestSize_j4 u (fun z0 z1 z2 z3 z4 => impl_BestSize_l2 u k_impl_BestSize_l2 z0 z1 z2 z3 z4) p0 p1 x4 x5 x6 r10 (decide (r10 < x5)))) else (impl_BestSize_j4 u (fun z0 z1 z2 z3 z4 => impl_BestSize_l2 u k_impl_BestSize_l2 z0 z1 z2 z3 z4) p0 p1 x4 x5 x6 r10 false)) else (impl_BestSize_j1 u x4)
def impl_BestSize (u : Nat) (p0 : List Int) (p1 : List Image) : Option Int :=
  impl_BestSize_l2 u u p0 p1 0 (-1) 2
def spec_BytesOf_j1 (u : Nat) (x8 : List Int) : Option ((List Int) × Bool) :=
  some ((x8, true))
def spec_BytesOf_l2 (u : Nat) (k_spec_BytesOf_l2 : Nat) (x4 : Int) (x5 : List Int) : Option ((List Int) × Bool) := match k_spec_BytesOf_l2 with
  | 0 => none
  | k_spec_BytesOf_l2 + 1 => bif decide (x4 > 1) then (bif decide (x4 < 256) then (some ((([] : List Int), false))) else ((chk (decide ((([IntKind.wrap .u8 (bAnd .i64 x4 255)]).length + x5.length) * 1 ≤ 140737488355328))).bind fun _ => (fun z0 z1 => spec_BytesOf_l2 u k_spec_BytesOf_l2 z0 z1) (bShr .i64 x4 8) (([IntKind.wrap .u8 (bAnd .i64 x4 255)]) ++ x5))) else (spec_BytesOf_j1 u x5)
def spec_BytesOf (u : Nat) (p0 : Int) : Option ((List Int) × Bool) :=
  (spec_l1In u p0 1 562949953421311).bind fun r1 => bif !r1 then (some ((([] : List Int), false))) else (spec_BytesOf_l2 u u p0 (([] : List Int)))
def spec_ManOk_j2 (u : Nat)  : Option Bool :=
  some true
def spec_ManOk_j4 (u : Nat) (c_spec_ManOk_l3 : Int → Manifest → Option Bool) (x6 : Int) (x13 : Bool) (p0 : Manifest) : Option Bool :=
  bif x13 then (some false) else (c_spec_ManOk_l3 (bAdd .i64 x6 1) p0)
def spec_ManOk_l3 (u : Nat) (k_spec_ManOk_l3 : Nat) (x6 : Int) (p0 : Manifest) : Option Bool := match k_spec_ManOk_l3 with
  | 0 => none
  | k_spec_ManOk_l3 + 1 => bif decide (x6 < ((p0.fSums.length : Int))) then ((idx p0.fSums x6).bind fun y8 => (spec_BytesOf u y8.fS).bind fun r9 => (spec_SpanOf u p0.fSize p0.fLen x6).bind fun r10 => bif !r9.2 then (spec_ManOk_j4 u (fun z0 z1 => spec_ManOk_l3 u k_spec_ManOk_l3 z0 z1) x6 true p0) else (bif ((r9.1.length : Int)) != r10.2 then (spec_ManOk_j4 u (fun z0 z1 => spec_ManOk_l3 u k_spec_ManOk_l3 z0 z1) x6 true p0) else ((spec_SumOf u r9.1).bind fun r11 => (idx p0.fSums x6).bind fun y12 => spec_ManOk_j4 u (fun z0 z1 => spec_ManOk_l3 u k_spec_ManOk_l3 z0 z1) x6 (!([r11.fW, r11.fS] == [y12.fW, y12.fS])) p0))) else (spec_ManOk_j2 u)
def spec_ManOk_j1 (u : Nat) (x4 : Bool) (p0 : Manifest) : Option Bool :=
  bif x4 then (some false) else (spec_ManOk_l3 u u 0 p0)
def spec_ManOk (u : Nat) (p0 : Manifest) : Option Bool :=
  bif p0.fGen == 0 then (bif p0.fSize == 0 then (bif p0.fLen == 0 then (some (((p0.fSums.length : Int)) == 0)) else (some false)) else (some false)) else ((spec_l1In u p0.fGen 1 1000000).bind fun r1 => bif !r1 then (spec_ManOk_j1 u true p0) else ((spec_SizeOk u p0.fSize p0.fLen).bind fun r2 => bif !r2 then (spec_ManOk_j1 u true p0) else ((spec_Blocks u p0.fSize p0.fLen).bind fun r3 => spec_ManOk_j1 u (((p0.fSums.length : Int)) != r3) p0)))
def spec_ManOk_l3_f (u : Nat) (p0 : Manifest) (s : Unit) : Option Bool := (spec_ManOk_j2 u)
def spec_ManOk_l3_b (u : Nat) (p0 : Manifest) (y8 : Sum) (i_ : Nat) (s : Unit) (k_ : Unit → Option Bool) : Option Bool := (spec_BytesOf u y8.fS).bind fun r9 => (spec_SpanOf u p0.fSize p0.fLen (i_ : Int)).bind fun r10 => bif !r9.2 then (spec_ManOk_j4 u (fun z0 z1 => k_ ()) (i_ : Int) true p0) else (bif ((r9.1.length : Int)) != r10.2 then (spec_ManOk_j4 u (fun z0 z1 => k_ ()) (i_ : Int) true p0) else ((spec_SumOf u r9.1).bind fun r11 => (idx p0.fSums (i_ : Int)).bind fun y12 => spec_ManOk_j4 u (fun z0 z1 => k_ ()) (i_ : Int) (!([r11.fW, r11.fS] == [y12.fW, y12.fS])) p0))
theorem spec_ManOk_l3_w (u : Nat) (p0 : Manifest) (s : Unit) (k : Nat) (hn : p0.fSums.length ≤ 9223372036854775807) (hk : p0.fSums.length < k) : spec_ManOk_l3 u k 0 p0 = Pu.wlist (spec_ManOk_l3_f u p0) (spec_ManOk_l3_b u p0) p0.fSums 0 s := Pu.wlist_0 (fun (k : Nat) (s : Unit) (i : Int) => spec_ManOk_l3 u k i p0) hn (fun _ _ _ => rfl) s hk
def spec_PutVar_j1 (u : Nat) (x9 : Int) (x10 : List Int) : Option ((List Int)) :=
  (chk (decide ((x10.length + ([IntKind.wrap .u8 x9]).length) * 1 ≤ 140737488355328))).bind fun _ => some (x10 ++ ([IntKind.wrap .u8 x9]))
def spec_PutVar_l2 (u : Nat) (k_spec_PutVar_l2 : Nat) (x5 : Int) (x6 : List Int) : Option ((List Int)) := match k_spec_PutVar_l2 with
  | 0 => none
  | k_spec_PutVar_l2 + 1 => bif decide (x5 > 127) then ((chk (decide ((x6.length + ([IntKind.wrap .u8 (bOr .i64 (bAnd .i64 x5 127) 128)]).length) * 1 ≤ 140737488355328))).bind fun _ => (fun z0 z1 => spec_PutVar_l2 u k_spec_PutVar_l2 z0 z1) (bShr .i64 x5 7) (x6 ++ ([IntKind.wrap .u8 (bOr .i64 (bAnd .i64 x5 127) 128)]))) else (spec_PutVar_j1 u x5 x6)
def spec_PutVar (u : Nat) (p0 : List Int) (p1 : Int) : Option ((List Int)) :=
  (chk (decide (((([] : List Int)).length + p0.length) * 1 ≤ 140737488355328))).bind fun _ => (spec_l1In u p1 0 1000000000000).bind fun r2 => bif !r2 then (some ((([] : List Int)) ++ p0)) else (spec_PutVar_l2 u u p1 ((([] : List Int)) ++ p0))
def spec_l6PutSum_j1 (u : Nat) (x7 : List Int) (x8 : Int) : Option ((List Int)) :=
  (chk (decide ((x7.length + ([IntKind.wrap .u8 x8]).length) * 1 ≤ 140737488355328))).bind fun _ => some (x7 ++ ([IntKind.wrap .u8 x8]))
def spec_l6PutSum_l2 (u : Nat) (k_spec_l6PutSum_l2 : Nat) (x3 : List Int) (x4 : Int) : Option ((List Int)) := match k_spec_l6PutSum_l2 with
  | 0 => none
  | k_spec_l6PutSum_l2 + 1 => bif decide (x4 > 127) then ((chk (decide ((x3.length + ([IntKind.wrap .u8 (bOr .i64 (bAnd .i64 x4 127) 128)]).length) * 1 ≤ 140737488355328))).bind fun _ => (fun z0 z1 => spec_l6PutSum_l2 u k_spec_l6PutSum_l2 z0 z1) (x3 ++ ([IntKind.wrap .u8 (bOr .i64 (bAnd .i64 x4 127) 128)])) (bShr .i64 x4 7)) else (spec_l6PutSum_j1 u x3 x4)
def spec_l6PutSum (u : Nat) (p0 : List Int) (p1 : Int) : Option ((List Int)) :=
  spec_l6PutSum_l2 u u p0 p1
def spec_PutMan_j1 (u : Nat) (x14 : List Int) : Option ((List Int)) :=
  some x14
def spec_PutMan_l2 (u : Nat) (k_spec_PutMan_l2 : Nat) (x8 : List Int) (x9 : Int) (p1 : Manifest) : Option ((List Int)) := match k_spec_PutMan_l2 with
  | 0 => none
  | k_spec_PutMan_l2 + 1 => bif decide (x9 < ((p1.fSums.length : Int))) then ((idx p1.fSums x9).bind fun y12 => (spec_l6PutSum u x8 y12.fS).bind fun r13 => (fun z0 z1 z2 => spec_PutMan_l2 u k_spec_PutMan_l2 z0 z1 z2) r13 (bAdd .i64 x9 1) p1) else (spec_PutMan_j1 u x8)
def spec_PutMan (u : Nat) (p0 : List Int) (p1 : Manifest) : Option ((List Int)) :=
  (chk (decide (((([] : List Int)).length + p0.length) * 1 ≤ 140737488355328))).bind fun _ => (spec_ManOk u p1).bind fun r2 => bif !r2 then (some ((([] : List Int)) ++ p0)) else ((spec_PutVar u ((([] : List Int)) ++ p0) p1.fGen).bind fun r3 => (spec_PutVar u r3 p1.fSize).bind fun r4 => (spec_PutVar u r4 p1.fLen).bind fun r5 => spec_PutMan_l2 u u r5 0 p1)
def spec_PutMan_l2_f (u : Nat) (p1 : Manifest) (s : (List Int)) : Option ((List Int)) := (spec_PutMan_j1 u s)
def spec_PutMan_l2_b (u : Nat) (p1 : Manifest) (y12 : Sum) (i_ : Nat) (s : (List Int)) (k_ : ((List Int)) → Option ((List Int))) : Option ((List Int)) := (spec_l6PutSum u s y12.fS).bind fun r13 => (fun z0 z1 z2 => k_ z0) r13 (bAdd .i64 (i_ : Int) 1) p1
theorem spec_PutMan_l2_w (u : Nat) (p1 : Manifest) (s : (List Int)) (k : Nat) (hn : p1.fSums.length ≤ 9223372036854775807) (hk : p1.fSums.length < k) : spec_PutMan_l2 u k s 0 p1 = Pu.wlist (spec_PutMan_l2_f u p1) (spec_PutMan_l2_b u p1) p1.fSums 0 s := Pu.wlist_0 (fun (k : Nat) (s : (List Int)) (i : Int) => spec_PutMan_l2 u k s i p1) hn (fun _ _ _ => rfl) s hk
def spec_ManBytes (u : Nat) (p0 : Manifest) : Option Int :=
  (spec_PutMan u (([] : List Int)) p0).bind fun r1 => some ((r1.length : Int))
def spec_FullSet (u : Nat) (p0 : Int) : Option Int :=
  (spec_l1In u p0 0 40).bind fun r1 => bif !r1 then (some 0) else ((chk (decide (0 ≤ p0))).bind fun _ => some (bSub .i64 (bShl .i64 1 p0) 1))
def spec_l3Ok (u : Nat) (p0 : Int) : Option Bool :=
  (spec_l1In u p0 0 63000).bind fun r1 => some r1
def spec_WeakHalves (u : Nat) (p0 : Int) : Option (Int × Int) :=
  (spec_l3Ok u p0).bind fun r1 => bif !r1 then (some ((0, 0))) else (some ((bRem .i64 p0 251, bQuo .i64 p0 251)))
def spec_Wrap (u : Nat) (p0 : Int) (p1 : Int) : Option Int :=
  (spec_l1In u p1 1 1000000000000).bind fun r1 => bif !r1 then (some 0) else ((chk (!(p1 == 0))).bind fun _ => (chk (!(p1 == 0))).bind fun _ => some (bRem .i64 (bAdd .i64 (bRem .i64 p0 p1) p1) p1))
def spec_Roll_j1 (u : Nat) (p0 : Int) (p1 : Int) (p2 : Int) (p3 : Int) (x5 : Bool) : Option Int :=
  bif x5 then (some p0) else ((spec_WeakHalves u p0).bind fun r6 => (spec_Wrap u (bSub .i64 r6.2 (bMul .i64 (bRem .i64 p1 251) p2)) 251).bind fun r7 => (spec_Wrap u (bAdd .i64 (bSub .i64 r6.1 p2) p3) 251).bind fun r8 => (spec_Wrap u (bAdd .i64 r7 r8) 251).bind fun r9 => some (bAdd .i64 r8 (bMul .i64 251 r9)))
def spec_Roll (u : Nat) (p0 : Int) (p1 : Int) (p2 : Int) (p3 : Int) : Option Int :=
  (spec_l3Ok u p0).bind fun r1 => bif !r1 then (spec_Roll_j1 u p0 p1 p2 p3 true) else ((spec_l1In u p1 1 1000000000000).bind fun r2 => bif !r2 then (spec_Roll_j1 u p0 p1 p2 p3 true) else ((spec_l1In u p2 0 255).bind fun r3 => bif !r3 then (spec_Roll_j1 u p0 p1 p2 p3 true) else ((spec_l1In u p3 0 255).bind fun r4 => spec_Roll_j1 u p0 p1 p2 p3 (!r4))))
def spec_Windows_j2 (u : Nat) (x17 : List Int) : Option ((List Int)) :=
  some x17
def spec_Windows_l3 (u : Nat) (k_spec_Windows_l3 : Nat) (p0 : List Int) (p1 : Int) (x8 : List Int) (x9 : Int) (x10 : Int) : Option ((List Int)) := match k_spec_Windows_l3 with
  | 0 => none
  | k_spec_Windows_l3 + 1 => bif decide (x10 < ((p0.length : Int))) then ((idx p0 (bSub .i64 x10 p1)).bind fun y14 => (idx p0 x10).bind fun y15 => (spec_Roll u x9 p1 (IntKind.wrap .i64 y14) (IntKind.wrap .i64 y15)).bind fun r16 => (chk (decide ((x8.length + ([r16]).length) * 8 ≤ 140737488355328))).bind fun _ => (fun z0 z1 z2 z3 z4 => spec_Windows_l3 u k_spec_Windows_l3 z0 z1 z2 z3 z4) p0 p1 (x8 ++ ([r16])) r16 (bAdd .i64 x10 1)) else (spec_Windows_j2 u x8)
def spec_Windows_j1 (u : Nat) (p0 : List Int) (p1 : Int) (x1 : Bool) : Option ((List Int)) :=
  bif x1 then (some (([] : List Int))) else ((chk (sliceOK 0 p1 p0.length)).bind fun _ => (spec_WeakOf u ((p0.take (Int.toNat p1)).drop (Int.toNat 0))).bind fun r3 => (chk (decide (((([] : List Int)).length + ([r3]).length) * 8 ≤ 140737488355328))).bind fun _ => spec_Windows_l3 u u p0 p1 ((([] : List Int)) ++ ([r3])) r3 p1)
def spec_Windows (u : Nat) (p0 : List Int) (p1 : Int) : Option ((List Int)) :=
  bif decide (p1 < 1) then (spec_Windows_j1 u p0 p1 true) else (spec_Windows_j1 u p0 p1 (decide (p1 > ((p0.length : Int)))))
def spec_Windows_l3_f (u : Nat) (p0 : List Int) (p1 : Int) (s : (List Int) × Int) : Option ((List Int)) := (spec_Windows_j2 u s.1)
def spec_Windows_l3_b (u : Nat) (p0 : List Int) (p1 : Int) (i_ : Nat) (s : (List Int) × Int) (k_ : ((List Int) × Int) → Option ((List Int))) : Option ((List Int)) := (idx p0 (bSub .i64 (i_ : Int) p1)).bind fun y14 => (idx p0 (i_ : Int)).bind fun y15 => (spec_Roll u s.2 p1 (IntKind.wrap .i64 y14) (IntKind.wrap .i64 y15)).bind fun r16 => (chk (decide ((s.1.length + ([r16]).length) * 8 ≤ 140737488355328))).bind fun _ => (fun z0 z1 z2 z3 z4 => k_ (z2, z3)) p0 p1 (s.1 ++ ([r16])) r16 (bAdd .i64 (i_ : Int) 1)
theorem spec_Windows_l3_w (u : Nat) (p0 : List Int) (p1 : Int) (s : (List Int) × Int) (k : Nat) (hn : (((p0.length : Int)) : Int) ≤ 9223372036854775807) (hk : Int.toNat (((p0.length : Int))) < k) : spec_Windows_l3 u k p0 p1 s.1 s.2 0 = Pu.walk (spec_Windows_l3_f u p0 p1) (spec_Windows_l3_b u p0 p1) (Int.toNat (((p0.length : Int)))) 0 s := Pu.walk_0 (fun (k : Nat) (s : (List Int) × Int) (i : Int) => spec_Windows_l3 u k p0 p1 s.1 s.2 i) hn (fun _ _ _ => rfl) s hk
def spec_FindSum_j1 (u : Nat)  : Option Int :=
  some (-1)
def spec_FindSum_j3 (u : Nat) (c_spec_FindSum_l2 : (List Int) → Int → ((List Int)) → Int → Sum → Option Int) (p0 : List Int) (p2 : Int) (r2 : (List Int)) (x4 : Int) (x9 : Bool) (p1 : Sum) : Option Int :=
  bif x9 then (some x4) else (c_spec_FindSum_l2 p0 p2 r2 (bAdd .i64 x4 1) p1)
def spec_FindSum_l2 (u : Nat) (k_spec_FindSum_l2 : Nat) (p0 : List Int) (p2 : Int) (r2 : (List Int)) (x4 : Int) (p1 : Sum) : Option Int := match k_spec_FindSum_l2 with
  | 0 => none
  | k_spec_FindSum_l2 + 1 => bif decide (x4 < ((r2.length : Int))) then ((idx r2 x4).bind fun y6 => bif y6 == p1.fW then ((chk (sliceOK x4 (bAdd .i64 x4 p2) p0.length)).bind fun _ => (spec_SumOf u ((p0.take (Int.toNat (bAdd .i64 x4 p2))).drop (Int.toNat x4))).bind fun r8 => spec_FindSum_j3 u (fun z0 z1 z2 z3 z4 => spec_FindSum_l2 u k_spec_FindSum_l2 z0 z1 z2 z3 z4) p0 p2 r2 x4 ([r8.fW, r8.fS] == [p1.fW, p1.fS]) p1) else (spec_FindSum_j3 u (fun z0 z1 z2 z3 z4 => spec_FindSum_l2 u k_spec_FindSum_l2 z0 z1 z2 z3 z4) p0 p2 r2 x4 false p1)) else (spec_FindSum_j1 u)
def spec_FindSum (u : Nat) (p0 : List Int) (p1 : Sum) (p2 : Int) : Option Int :=
  (spec_l1In u p2 1 6).bind fun r1 => bif !r1 then (some (-1)) else ((spec_Windows u p0 p2).bind fun r2 => spec_FindSum_l2 u u p0 p2 r2 0 p1)
def spec_FindSum_l2_f (u : Nat) (p0 : List Int) (p2 : Int) (r2 : (List Int)) (p1 : Sum) (s : Unit) : Option Int := (spec_FindSum_j1 u)
def spec_FindSum_l2_b (u : Nat) (p0 : List Int) (p2 : Int) (r2 : (List Int)) (p1 : Sum) (y6 : Int) (i_ : Nat) (s : Unit) (k_ : Unit → Option Int) : Option Int := bif y6 == p1.fW then ((chk (sliceOK (i_ : Int) (bAdd .i64 (i_ : Int) p2) p0.length)).bind fun _ => (spec_SumOf u ((p0.take (Int.toNat (bAdd .i64 (i_ : Int) p2))).drop (Int.toNat (i_ : Int)))).bind fun r8 => spec_FindSum_j3 u (fun z0 z1 z2 z3 z4 => k_ ()) p0 p2 r2 (i_ : Int) ([r8.fW, r8.fS] == [p1.fW, p1.fS]) p1) else (spec_FindSum_j3 u (fun z0 z1 z2 z3 z4 => k_ ()) p0 p2 r2 (i_ : Int) false p1)
theorem spec_FindSum_l2_w (u : Nat) (p0 : List Int) (p2 : Int) (r2 : (List Int)) (p1 : Sum) (s : Unit) (k : Nat) (hn : r2.length ≤ 9223372036854775807) (hk : r2.length < k) : spec_FindSum_l2 u k p0 p2 r2 0 p1 = Pu.wlist (spec_FindSum_l2_f u p0 p2 r2 p1) (spec_FindSum_l2_b u p0 p2 r2 p1) r2 0 s := Pu.wlist_0 (fun (k : Nat) (s : Unit) (i : Int) => spec_FindSum_l2 u k p0 p2 r2 i p1) hn (fun _ _ _ => rfl) s hk
def spec_PlaceOf_j1 (u : Nat) (p0 : List Int) (p2 : Int) (r1 : Int × Int) (x2 : Bool) (p1 : Manifest) : Option Int :=
  bif x2 then (some (-1)) else ((idx p1.fSums p2).bind fun y3 => (spec_FindSum u p0 y3 r1.2).bind fun r4 => some r4)
def spec_PlaceOf (u : Nat) (p0 : List Int) (p1 : Manifest) (p2 : Int) : Option Int :=
  (spec_SpanOf u p1.fSize p1.fLen p2).bind fun r1 => bif r1.2 == 0 then (spec_PlaceOf_j1 u p0 p2 r1 true p1) else (spec_PlaceOf_j1 u p0 p2 r1 (decide (p2 ≥ ((p1.fSums.length : Int)))) p1)
def spec_SetOk (u : Nat) (p0 : Int) : Option Bool :=
  (spec_l1In u p0 0 1099511627775).bind fun r1 => some r1
def spec_WithPart_j1 (u : Nat) (p0 : Int) (p1 : Int) (x3 : Bool) : Option Int :=
  bif x3 then (some p0) else ((chk (decide (0 ≤ p1))).bind fun _ => some (bOr .i64 p0 (bShl .i64 1 p1)))
def spec_WithPart (u : Nat) (p0 : Int) (p1 : Int) : Option Int :=
  (spec_SetOk u p0).bind fun r1 => bif !r1 then (spec_WithPart_j1 u p0 p1 true) else ((spec_l1In u p1 0 39).bind fun r2 => spec_WithPart_j1 u p0 p1 (!r2))
def spec_Found_j1 (u : Nat) (x11 : Int) : Option Int :=
  some x11
def spec_Found_j4 (u : Nat) (c_spec_Found_l2 : (List Int) → Int → Int → Manifest → Option Int) (p0 : List Int) (x10 : Int) (x4 : Int) (p1 : Manifest) : Option Int :=
  c_spec_Found_l2 p0 x10 (bAdd .i64 x4 1) p1
def spec_Found_j3 (u : Nat) (c_spec_Found_l2 : (List Int) → Int → Int → Manifest → Option Int) (p0 : List Int) (x3 : Int) (x4 : Int) (x7 : Bool) (p1 : Manifest) : Option Int :=
  bif x7 then ((spec_PlaceOf u p0 p1 x4).bind fun r8 => bif decide (r8 ≥ 0) then ((spec_WithPart u x3 x4).bind fun r9 => spec_Found_j4 u c_spec_Found_l2 p0 r9 x4 p1) else (spec_Found_j4 u c_spec_Found_l2 p0 x3 x4 p1)) else (spec_Found_j1 u x3)
def spec_Found_l2 (u : Nat) (k_spec_Found_l2 : Nat) (p0 : List Int) (x3 : Int) (x4 : Int) (p1 : Manifest) : Option Int := match k_spec_Found_l2 with
  | 0 => none
  | k_spec_Found_l2 + 1 => bif decide (x4 < ((p1.fSums.length : Int))) then (spec_Found_j3 u (fun z0 z1 z2 z3 => spec_Found_l2 u k_spec_Found_l2 z0 z1 z2 z3) p0 x3 x4 (decide (x4 < 40)) p1) else (spec_Found_j3 u (fun z0 z1 z2 z3 => spec_Found_l2 u k_spec_Found_l2 z0 z1 z2 z3) p0 x3 x4 false p1)
def spec_Found (u : Nat) (p0 : List Int) (p1 : Manifest) : Option Int :=
  spec_Found_l2 u u p0 0 0 p1
def spec_Without_j1 (u : Nat) (p0 : Int) (p1 : Int) (x3 : Bool) : Option Int :=
  bif x3 then (some 0) else (some (bAndNot .i64 p0 p1))
def spec_Without (u : Nat) (p0 : Int) (p1 : Int) : Option Int :=
  (spec_SetOk u p0).bind fun r1 => bif !r1 then (spec_Without_j1 u p0 p1 true) else ((spec_SetOk u p1).bind fun r2 => spec_Without_j1 u p0 p1 (!r2))
def spec_Lacking (u : Nat) (p0 : List Int) (p1 : Manifest) : Option Int :=
  (spec_Least u ((p1.fSums.length : Int)) 40).bind fun r1 => (spec_FullSet u r1).bind fun r2 => (spec_Found u p0 p1).bind fun r3 => (spec_Without u r2 r3).bind fun r4 => some r4
def spec_InSet (u : Nat) (p0 : Int) (p1 : Int) : Option Bool :=
  (spec_SetOk u p0).bind fun r1 => bif r1 then ((spec_l1In u p1 0 39).bind fun r2 => bif r2 then ((chk (decide (0 ≤ p1))).bind fun _ => some ((bAnd .i64 (bShr .i64 p0 p1) 1) == 1)) else (some false)) else (some false)
def spec_PartsIn_j1 (u : Nat) (x9 : List Int) : Option ((List Int)) :=
  some x9
def spec_PartsIn_j3 (u : Nat) (c_spec_PartsIn_l2 : Int → (List Int) → Int → Option ((List Int))) (p0 : Int) (x8 : List Int) (x4 : Int) : Option ((List Int)) :=
  c_spec_PartsIn_l2 p0 x8 (bAdd .i64 x4 1)
def spec_PartsIn_l2 (u : Nat) (k_spec_PartsIn_l2 : Nat) (p0 : Int) (x3 : List Int) (x4 : Int) : Option ((List Int)) := match k_spec_PartsIn_l2 with
  | 0 => none
  | k_spec_PartsIn_l2 + 1 => bif decide (x4 < 40) then ((spec_InSet u p0 x4).bind fun r7 => bif r7 then ((chk (decide ((x3.length + ([x4]).length) * 8 ≤ 140737488355328))).bind fun _ => spec_PartsIn_j3 u (fun z0 z1 z2 => spec_PartsIn_l2 u k_spec_PartsIn_l2 z0 z1 z2) p0 (x3 ++ ([x4])) x4) else (spec_PartsIn_j3 u (fun z0 z1 z2 => spec_PartsIn_l2 u k_spec_PartsIn_l2 z0 z1 z2) p0 x3 x4)) else (spec_PartsIn_j1 u x3)
def spec_PartsIn (u : Nat) (p0 : Int) : Option ((List Int)) :=
  spec_PartsIn_l2 u u p0 (([] : List Int)) 0
def spec_PartsIn_l2_f (u : Nat) (p0 : Int) (s : (List Int)) : Option ((List Int)) := (spec_PartsIn_j1 u s)
def spec_PartsIn_l2_b (u : Nat) (p0 : Int) (i_ : Nat) (s : (List Int)) (k_ : ((List Int)) → Option ((List Int))) : Option ((List Int)) := (spec_InSet u p0 (i_ : Int)).bind fun r7 => bif r7 then ((chk (decide ((s.length + ([(i_ : Int)]).length) * 8 ≤ 140737488355328))).bind fun _ => spec_PartsIn_j3 u (fun z0 z1 z2 => k_ z1) p0 (s ++ ([(i_ : Int)])) (i_ : Int)) else (spec_PartsIn_j3 u (fun z0 z1 z2 => k_ z1) p0 s (i_ : Int))
theorem spec_PartsIn_l2_w (u : Nat) (p0 : Int) (s : (List Int)) (k : Nat) (hn : (40 : Int) ≤ 9223372036854775807) (hk : Int.toNat (40) < k) : spec_PartsIn_l2 u k p0 s 0 = Pu.walk (spec_PartsIn_l2_f u p0) (spec_PartsIn_l2_b u p0) (Int.toNat (40)) 0 s := Pu.walk_0 (fun (k : Nat) (s : (List Int)) (i : Int) => spec_PartsIn_l2 u k p0 s i) hn (fun _ _ _ => rfl) s hk
def spec_BytesLacking_j1 (u : Nat) (x11 : Int) : Option Int :=
  some x11
def spec_BytesLacking_l2 (u : Nat) (k_spec_BytesLacking_l2 : Nat) (x5 : Int) (r2 : (List Int)) (x6 : Int) (p1 : Manifest) : Option Int := match k_spec_BytesLacking_l2 with
  | 0 => none
  | k_spec_BytesLacking_l2 + 1 => bif decide (x6 < ((r2.length : Int))) then ((idx r2 x6).bind fun y9 => (spec_SpanOf u p1.fSize p1.fLen y9).bind fun r10 => (fun z0 z1 z2 z3 => spec_BytesLacking_l2 u k_spec_BytesLacking_l2 z0 z1 z2 z3) (bAdd .i64 x5 r10.2) r2 (bAdd .i64 x6 1) p1) else (spec_BytesLacking_j1 u x5)
def spec_BytesLacking (u : Nat) (p0 : List Int) (p1 : Manifest) : Option Int :=
  (spec_Lacking u p0 p1).bind fun r1 => (spec_PartsIn u r1).bind fun r2 => spec_BytesLacking_l2 u u 0 r2 0 p1
def spec_BytesLacking_l2_f (u : Nat) (r2 : (List Int)) (p1 : Manifest) (s : Int) : Option Int := (spec_BytesLacking_j1 u s)
def spec_BytesLacking_l2_b (u : Nat) (r2 : (List Int)) (p1 : Manifest) (y9 : Int) (i_ : Nat) (s : Int) (k_ : Int → Option Int) : Option Int := (spec_SpanOf u p1.fSize p1.fLen y9).bind fun r10 => (fun z0 z1 z2 z3 => k_ z0) (bAdd .i64 s r10.2) r2 (bAdd .i64 (i_ : Int) 1) p1
theorem spec_BytesLacking_l2_w (u : Nat) (r2 : (List Int)) (p1 : Manifest) (s : Int) (k : Nat) (hn : r2.length ≤ 9223372036854775807) (hk : r2.length < k) : spec_BytesLacking_l2 u k s r2 0 p1 = Pu.wlist (spec_BytesLacking_l2_f u r2 p1) (spec_BytesLacking_l2_b u r2 p1) r2 0 s := Pu.wlist_0 (fun (k : Nat) (s : Int) (i : Int) => spec_BytesLacking_l2 u k s r2 i p1) hn (fun _ _ _ => rfl) s hk
def spec_CostOf_j1 (u : Nat) (x12 : Int) : Option Int :=
  some x12
def spec_CostOf_l2 (u : Nat) (k_spec_CostOf_l2 : Nat) (p1 : List Image) (x5 : Int) (x6 : Int) (r2 : Manifest) : Option Int := match k_spec_CostOf_l2 with
  | 0 => none
  | k_spec_CostOf_l2 + 1 => bif decide (x6 < ((p1.length : Int))) then ((spec_ManBytes u r2).bind fun r9 => (idx p1 x6).bind fun y10 => (spec_BytesLacking u y10.fB r2).bind fun r11 => (fun z0 z1 z2 z3 => spec_CostOf_l2 u k_spec_CostOf_l2 z0 z1 z2 z3) p1 (bAdd .i64 (bAdd .i64 x5 r9) r11) (bAdd .i64 x6 1) r2) else (spec_CostOf_j1 u x5)
def spec_CostOf (u : Nat) (p0 : List Int) (p1 : List Image) (p2 : Int) : Option Int :=
  (spec_SizeOk u p2 ((p0.length : Int))).bind fun r1 => bif !r1 then (some (-1)) else ((spec_ManOf u 1 p0 p2).bind fun r2 => spec_CostOf_l2 u u p1 0 0 r2)
def spec_CostOf_l2_f (u : Nat) (p1 : List Image) (r2 : Manifest) (s : Int) : Option Int := (spec_CostOf_j1 u s)
def spec_CostOf_l2_b (u : Nat) (p1 : List Image) (r2 : Manifest) (i_ : Nat) (s : Int) (k_ : Int → Option Int) : Option Int := (spec_ManBytes u r2).bind fun r9 => (idx p1 (i_ : Int)).bind fun y10 => (spec_BytesLacking u y10.fB r2).bind fun r11 => (fun z0 z1 z2 z3 => k_ z1) p1 (bAdd .i64 (bAdd .i64 s r9) r11) (bAdd .i64 (i_ : Int) 1) r2
theorem spec_CostOf_l2_w (u : Nat) (p1 : List Image) (r2 : Manifest) (s : Int) (k : Nat) (hn : (((p1.length : Int)) : Int) ≤ 9223372036854775807) (hk : Int.toNat (((p1.length : Int))) < k) : spec_CostOf_l2 u k p1 s 0 r2 = Pu.walk (spec_CostOf_l2_f u p1 r2) (spec_CostOf_l2_b u p1 r2) (Int.toNat (((p1.length : Int)))) 0 s := Pu.walk_0 (fun (k : Nat) (s : Int) (i : Int) => spec_CostOf_l2 u k p1 s i r2) hn (fun _ _ _ => rfl) s hk
def spec_BestSize_j1 (u : Nat) (x11 : Int) : Option Int :=
  some x11
def spec_BestSize_j3 (u : Nat) (c_spec_BestSize_l2 : (List Int) → (List Image) → Int → Int → Option Int) (p0 : List Int) (p1 : List Image) (x10 : Int) (x4 : Int) : Option Int :=
  c_spec_BestSize_l2 p0 p1 x10 (bAdd .i64 x4 1)
def spec_BestSize_j4 (u : Nat) (c_spec_BestSize_l2 : (List Int) → (List Image) → Int → Int → Option Int) (p0 : List Int) (p1 : List Image) (x3 : Int) (x4 : Int) (x9 : Bool) : Option Int :=
  bif x9 then (spec_BestSize_j3 u c_spec_BestSize_l2 p0 p1 x4 x4) else (spec_BestSize_j3 u c_spec_BestSize_l2 p0 p1 x3 x4)
def spec_BestSize_l2 (u : Nat) (k_spec_BestSize_l2 : Nat) (p0 : List Int) (p1 : List Image) (x3 : Int) (x4 : Int) : Option Int := match k_spec_BestSize_l2 with
  | 0 => none
  | k_spec_BestSize_l2 + 1 => bif decide (x4 ≤ 6) then ((spec_CostOf u p0 p1 x4).bind fun r7 => bif decide (r7 ≥ 0) then (bif x3 == 0 then (spec_BestSize_j4 u (fun z0 z1 z2 z3 => spec_BestSize_l2 u k_spec_BestSize_l2 z0 z1 z2 z3) p0 p1 x3 x4 true) else ((spec_CostOf u p0 p1 x3).bind fun r8 => spec_BestSize_j4 u (fun z0 z1 z2 z3 => spec_BestSize_l2 u k_spec_BestSize_l2 z0 z1 z2 z3) p0 p1 x3 x4 (decide (r7 < r8)))) else (spec_BestSize_j4 u (fun z0 z1 z2 z3 => spec_BestSize_l2 u k_spec_BestSize_l2 z0 z1 z2 z3) p0 p1 x3 x4 false)) else (spec_BestSize_j1 u x3)
def spec_BestSize (u : Nat) (p0 : List Int) (p1 : List Image) : Option Int :=
  spec_BestSize_l2 u u p0 p1 0 2
def impl_SavedBy (u : Nat) (p0 : List Int) (p1 : List Int) (p2 : Int) : Option Int :=
  (impl_SizeOk u p2 ((p0.length : Int))).bind fun r1 => bif !r1 then (some 0) else ((impl_ManOf u 1 p0 p2).bind fun r2 => (impl_BytesLacking u p1 r2).bind fun r3 => some (bSub .i64 ((p0.length : Int)) r3))
def spec_SavedBy (u : Nat) (p0 : List Int) (p1 : List Int) (p2 : Int) : Option Int :=
  (spec_SizeOk u p2 ((p0.length : Int))).bind fun r1 => bif !r1 then (some 0) else ((spec_ManOf u 1 p0 p2).bind fun r2 => (spec_BytesLacking u p1 r2).bind fun r3 => some (bSub .i64 ((p0.length : Int)) r3))
def impl_WorstFor_j1 (u : Nat) (p0 : List Int) (x2 : Int) (p2 : Int) : Option Int :=
  (chk (decide (0 ≤ x2) && (x2 == 0 || x2 == x2))).bind fun _ => (chk (decide (Int.toNat x2 * 24 ≤ 140737488355328))).bind fun _ => (impl_CostOf u p0 (List.replicate (Int.toNat x2) ((Image.mk ([])) : Image)) p2).bind fun r5 => some r5
def impl_WorstFor (u : Nat) (p0 : List Int) (p1 : Int) (p2 : Int) : Option Int :=
  (impl_within u p1 0 7).bind fun r1 => bif !r1 then (impl_WorstFor_j1 u p0 0 p2) else (impl_WorstFor_j1 u p0 p1 p2)
def spec_WorstFor_j1 (u : Nat) (p0 : List Int) (p2 : Int) (x8 : List Image) : Option Int :=
  (spec_CostOf u p0 x8 p2).bind fun r9 => some r9
def spec_WorstFor_j3 (u : Nat) (c_spec_WorstFor_l2 : (List Int) → Int → Int → (List Image) → Int → Option Int) (p0 : List Int) (p1 : Int) (p2 : Int) (x3 : List Image) (x4 : Int) (x7 : Bool) : Option Int :=
  bif x7 then ((chk (decide ((x3.length + ([(Image.mk ([]))]).length) * 24 ≤ 140737488355328))).bind fun _ => c_spec_WorstFor_l2 p0 p1 p2 (x3 ++ ([(Image.mk ([]))])) (bAdd .i64 x4 1)) else (spec_WorstFor_j1 u p0 p2 x3)
def spec_WorstFor_l2 (u : Nat) (k_spec_WorstFor_l2 : Nat) (p0 : List Int) (p1 : Int) (p2 : Int) (x3 : List Image) (x4 : Int) : Option Int := match k_spec_WorstFor_l2 with
  | 0 => none
  | k_spec_WorstFor_l2 + 1 => bif decide (x4 < p1) then (spec_WorstFor_j3 u (fun z0 z1 z2 z3 z4 => spec_WorstFor_l2 u k_spec_WorstFor_l2 z0 z1 z2 z3 z4) p0 p1 p2 x3 x4 (decide (p1 ≤ 7))) else (spec_WorstFor_j3 u (fun z0 z1 z2 z3 z4 => spec_WorstFor_l2 u k_spec_WorstFor_l2 z0 z1 z2 z3 z4) p0 p1 p2 x3 x4 false)
def spec_WorstFor (u : Nat) (p0 : List Int) (p1 : Int) (p2 : Int) : Option Int :=
  spec_WorstFor_l2 u u p0 p1 p2 (([] : List Image)) 0
def strconv_Itoa (u : Nat) (p0 : Int) : Option ByteArray :=
  bif decide (-9223372036854775808 ≤ p0) && decide (p0 ≤ 9223372036854775807) then some (⟨(Lib.itoa p0).toArray⟩ : ByteArray) else none
def impl_NumText (u : Nat) (p0 : Int) : Option ByteArray :=
  (strconv_Itoa u p0).bind fun r1 => some r1
def strings_Join (u : Nat) (p0 : List ByteArray) (p1 : ByteArray) : Option ByteArray :=
  bif decide (p0.length ≤ 140737488355328) && decide ((Lib.join (p0.map (·.data.toList)) p1.data.toList).length ≤ 140737488355328) then some (⟨(Lib.join (p0.map (·.data.toList)) p1.data.toList).toArray⟩ : ByteArray) else none
def impl_joined_j1 (u : Nat) (x9 : List ByteArray) : Option ByteArray :=
  (strings_Join u x9 ((ByteArray.mk #[32]))).bind fun r10 => some r10
def impl_joined_l2 (u : Nat) (k_impl_joined_l2 : Nat) (x3 : List ByteArray) (p0 : List Int) (x4 : Int) : Option ByteArray := match k_impl_joined_l2 with
  | 0 => none
  | k_impl_joined_l2 + 1 => bif decide (x4 < ((p0.length : Int))) then ((idx p0 x4).bind fun y7 => (impl_NumText u y7).bind fun r8 => (chk (decide ((x3.length + ([r8]).length) * 16 ≤ 140737488355328))).bind fun _ => (fun z0 z1 z2 => impl_joined_l2 u k_impl_joined_l2 z0 z1 z2) (x3 ++ ([r8])) p0 (bAdd .i64 x4 1)) else (impl_joined_j1 u x3)
def impl_joined (u : Nat) (p0 : List Int) : Option ByteArray :=
  impl_joined_l2 u u (([] : List ByteArray)) p0 0
def impl_joined_l2_f (u : Nat) (p0 : List Int) (s : (List ByteArray)) : Option ByteArray := (impl_joined_j1 u s)
def impl_joined_l2_b (u : Nat) (p0 : List Int) (y7 : Int) (i_ : Nat) (s : (List ByteArray)) (k_ : ((List ByteArray)) → Option ByteArray) : Option ByteArray := (impl_NumText u y7).bind fun r8 => (chk (decide ((s.length + ([r8]).length) * 16 ≤ 140737488355328))).bind fun _ => (fun z0 z1 z2 => k_ z0) (s ++ ([r8])) p0 (bAdd .i64 (i_ : Int) 1)
theorem impl_joined_l2_w (u : Nat) (p0 : List Int) (s : (List ByteArray)) (k : Nat) (hn : p0.length ≤ 9223372036854775807) (hk : p0.length < k) : impl_joined_l2 u k s p0 0 = Pu.wlist (impl_joined_l2_f u p0) (impl_joined_l2_b u p0) p0 0 s := Pu.wlist_0 (fun (k : Nat) (s : (List ByteArray)) (i : Int) => impl_joined_l2 u k s p0 i) hn (fun _ _ _ => rfl) s hk
def impl_CostTable_j1 (u : Nat) (x8 : List Int) : Option ByteArray :=
  (impl_joined u x8).bind fun r9 => some r9
def impl_CostTable_l2 (u : Nat) (k_impl_CostTable_l2 : Nat) (p0 : List Int) (p1 : List Image) (x3 : List Int) (x4 : Int) : Option ByteArray := match k_impl_CostTable_l2 with
  | 0 => none
  | k_impl_CostTable_l2 + 1 => bif decide (x4 ≤ 6) then ((impl_CostOf u p0 p1 x4).bind fun r7 => (chk (decide ((x3.length + ([r7]).length) * 8 ≤ 140737488355328))).bind fun _ => (fun z0 z1 z2 z3 => impl_CostTable_l2 u k_impl_CostTable_l2 z0 z1 z2 z3) p0 p1 (x3 ++ ([r7])) (bAdd .i64 x4 1)) else (impl_CostTable_j1 u x3)
def impl_CostTable (u : Nat) (p0 : List Int) (p1 : List Image) : Option ByteArray :=
  impl_CostTable_l2 u u p0 p1 (([] : List Int)) 2
def spec_NumText_j1 (u : Nat) (p0 : Int) (x8 : ByteArray) : Option ByteArray :=
  bif decide (p0 < 0) then ((chk (decide (((ByteArray.mk #[45])).size + x8.size ≤ 9223372036854775807))).bind fun _ => some (((ByteArray.mk #[45])) ++ x8)) else (some x8)
def spec_NumText_j3 (u : Nat) (c_spec_NumText_l2 : Int → ByteArray → Int → Option ByteArray) (p0 : Int) (x3 : ByteArray) (x4 : Int) (x7 : Int) : Option ByteArray :=
  (chk (decide ((strOfNums ([IntKind.wrap .u8 (bAdd .i64 48 x7)])).size + x3.size ≤ 9223372036854775807))).bind fun _ => c_spec_NumText_l2 p0 ((strOfNums ([IntKind.wrap .u8 (bAdd .i64 48 x7)])) ++ x3) (bQuo .i64 x4 10)
def spec_NumText_l2 (u : Nat) (k_spec_NumText_l2 : Nat) (p0 : Int) (x3 : ByteArray) (x4 : Int) : Option ByteArray := match k_spec_NumText_l2 with
  | 0 => none
  | k_spec_NumText_l2 + 1 => bif x4 != 0 then (bif decide ((bRem .i64 x4 10) < 0) then (spec_NumText_j3 u (fun z0 z1 z2 => spec_NumText_l2 u k_spec_NumText_l2 z0 z1 z2) p0 x3 x4 (bSub .i64 0 (bRem .i64 x4 10))) else (spec_NumText_j3 u (fun z0 z1 z2 => spec_NumText_l2 u k_spec_NumText_l2 z0 z1 z2) p0 x3 x4 (bRem .i64 x4 10))) else (spec_NumText_j1 u p0 x3)
def spec_NumText (u : Nat) (p0 : Int) : Option ByteArray :=
  bif p0 == 0 then (some ((ByteArray.mk #[48]))) else (spec_NumText_l2 u u p0 ((ByteArray.mk #[])) p0)
def spec_CostTable_j1 (u : Nat) (x10 : ByteArray) : Option ByteArray :=
  some x10
def spec_CostTable_j3 (u : Nat) (c_spec_CostTable_l2 : (List Int) → (List Image) → ByteArray → Int → Option ByteArray) (p0 : List Int) (p1 : List Image) (x7 : ByteArray) (x4 : Int) : Option ByteArray :=
  (spec_CostOf u p0 p1 x4).bind fun r8 => (spec_NumText u r8).bind fun r9 => (chk (decide (x7.size + r9.size ≤ 9223372036854775807))).bind fun _ => c_spec_CostTable_l2 p0 p1 (x7 ++ r9) (bAdd .i64 x4 1)
def spec_CostTable_l2 (u : Nat) (k_spec_CostTable_l2 : Nat) (p0 : List Int) (p1 : List Image) (x3 : ByteArray) (x4 : Int) : Option ByteArray := match k_spec_CostTable_l2 with
  | 0 => none
  | k_spec_CostTable_l2 + 1 => bif decide (x4 ≤ 6) then (bif decide (x4 > 2) then ((chk (decide (x3.size + ((ByteArray.mk #[32])).size ≤ 9223372036854775807))).bind fun _ => spec_CostTable_j3 u (fun z0 z1 z2 z3 => spec_CostTable_l2 u k_spec_CostTable_l2 z0 z1 z2 z3) p0 p1 (x3 ++ ((ByteArray.mk #[32]))) x4) else (spec_CostTable_j3 u (fun z0 z1 z2 z3 => spec_CostTable_l2 u k_spec_CostTable_l2 z0 z1 z2 z3) p0 p1 x3 x4)) else (spec_CostTable_j1 u x3)
def spec_CostTable (u : Nat) (p0 : List Int) (p1 : List Image) : Option ByteArray :=
  spec_CostTable_l2 u u p0 p1 ((ByteArray.mk #[])) 2
def laws_FnPlans_j2 (u : Nat) (r4 : (List Int) × (List Int) × Int) : Option Bool :=
  (impl_SavedBy u r4.1 r4.2.1 r4.2.2).bind fun r29 => bif decide (r29 ≥ 0) then ((impl_SavedBy u r4.1 r4.2.1 r4.2.2).bind fun r30 => bif decide (r30 ≤ ((r4.1.length : Int))) then ((impl_SizeOk u r4.2.2 ((r4.1.length : Int))).bind fun r31 => bif !r31 then (some true) else ((impl_SavedBy u r4.1 r4.1 r4.2.2).bind fun r32 => some (r32 == ((r4.1.length : Int))))) else (some false)) else (some false)
def laws_FnPlans_j4 (u : Nat) (c_laws_FnPlans_l3 : ((List Int) × (List Image)) → ((List Int) × (List Int) × Int) → Int → Int → Option Bool) (r2 : (List Int) × (List Image)) (r4 : (List Int) × (List Int) × Int) (r7 : Int) (x21 : Int) (x28 : Bool) : Option Bool :=
  bif x28 then (some false) else (c_laws_FnPlans_l3 r2 r4 r7 (bAdd .i64 x21 1))
def laws_FnPlans_l3 (u : Nat) (k_laws_FnPlans_l3 : Nat) (r2 : (List Int) × (List Image)) (r4 : (List Int) × (List Int) × Int) (r7 : Int) (x21 : Int) : Option Bool := match k_laws_FnPlans_l3 with
  | 0 => none
  | k_laws_FnPlans_l3 + 1 => bif decide (x21 ≤ 6) then ((impl_CostOf u r2.1 r2.2 x21).bind fun r23 => bif decide (r23 ≥ 0) then (bif r7 == 0 then (laws_FnPlans_j4 u (fun z0 z1 z2 z3 => laws_FnPlans_l3 u k_laws_FnPlans_l3 z0 z1 z2 z3) r2 r4 r7 x21 true) else ((impl_CostOf u r2.1 r2.2 r7).bind fun r24 => bif decide (r23 < r24) then (laws_FnPlans_j4 u (fun z0 z1 z2 z3 => laws_FnPlans_l3 u k_laws_FnPlans_l3 z0 z1 z2 z3) r2 r4 r7 x21 true) else (bif decide (x21 < r7) then ((impl_CostOf u r2.1 r2.2 r7).bind fun r25 => bif r23 == r25 then (laws_FnPlans_j4 u (fun z0 z1 z2 z3 => laws_FnPlans_l3 u k_laws_FnPlans_l3 z0 z1 z2 z3) r2 r4 r7 x21 true) else ((impl_WorstFor u r2.1 ((r2.2.length : Int)) x21).bind fun r26 => laws_FnPlans_j4 u (fun z0 z1 z2 z3 => laws_FnPlans_l3 u k_laws_FnPlans_l3 z0 z1 z2 z3) r2 r4 r7 x21 (decide (r23 > r26)))) else ((impl_WorstFor u r2.1 ((r2.2.length : Int)) x21).bind fun r27 => laws_FnPlans_j4 u (fun z0 z1 z2 z3 => laws_FnPlans_l3 u k_laws_FnPlans_l3 z0 z1 z2 z3) r2 r4 r7 x21 (decide (r23 > r27)))))) else (laws_FnPlans_j4 u (fun z0 z1 z2 z3 => laws_FnPlans_l3 u k_laws_FnPlans_l3 z0 z1 z2 z3) r2 r4 r7 x21 false)) else (laws_FnPlans_j2 u r4)
def laws_FnPlans_j1 (u : Nat) (r2 : (List Int) × (List Image)) (r4 : (List Int) × (List Int) × Int) (r7 : Int) (x19 : Bool) : Option Bool :=
  bif x19 then (some false) else (laws_FnPlans_l3 u u r2 r4 r7 2)
def laws_FnPlans (u : Nat) (p0 : List Int) : Option Bool :=
  (laws_big u p0).bind fun r1 => bif r1 then (some true) else ((spec_DrawBestSize u p0).bind fun r2 => (spec_DrawCostOf u p0).bind fun r3 => (spec_DrawSavedBy u p0).bind fun r4 => (spec_DrawWorstFor u p0).bind fun r5 => (spec_DrawManBytes u p0).bind fun r6 => (impl_BestSize u r2.1 r2.2).bind fun r7 => (spec_BestSize u r2.1 r2.2).bind fun r8 => bif r7 != r8 then (laws_FnPlans_j1 u r2 r4 r7 true) else ((impl_CostOf u r3.1 r3.2.1 r3.2.2).bind fun r9 => (spec_CostOf u r3.1 r3.2.1 r3.2.2).bind fun r10 => bif r9 != r10 then (laws_FnPlans_j1 u r2 r4 r7 true) else ((impl_SavedBy u r4.1 r4.2.1 r4.2.2).bind fun r11 => (spec_SavedBy u r4.1 r4.2.1 r4.2.2).bind fun r12 => bif r11 != r12 then (laws_FnPlans_j1 u r2 r4 r7 true) else ((impl_WorstFor u r5.1 r5.2.1 r5.2.2).bind fun r13 => (spec_WorstFor u r5.1 r5.2.1 r5.2.2).bind fun r14 => bif r13 != r14 then (laws_FnPlans_j1 u r2 r4 r7 true) else ((impl_ManBytes u r6).bind fun r15 => (spec_ManBytes u r6).bind fun r16 => bif r15 != r16 then (laws_FnPlans_j1 u r2 r4 r7 true) else ((impl_CostTable u r2.1 r2.2).bind fun r17 => (spec_CostTable u r2.1 r2.2).bind fun r18 => laws_FnPlans_j1 u r2 r4 r7 (!(r17.toList == r18.toList))))))))
end Go.Tm
