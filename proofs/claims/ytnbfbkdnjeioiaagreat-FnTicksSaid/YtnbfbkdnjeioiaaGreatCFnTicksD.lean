/- Go functions as pure functions (printed). -/
import Derived.Test.YtnbfbkdnjeioiaaGreatCFnTicksF2
set_option maxRecDepth 100000
set_option maxHeartbeats 20000000
set_option linter.unusedVariables false
set_option linter.unusedSimpArgs false
namespace Go.Tm
structure l1Cur where
  fB:List Int
  fI:Int
  fH:Int
  deriving DecidableEq
def l1Cur.enc (x:l1Cur):List T:=[.sl 1 (x.fB.map (eInt .u8)),.int .i64 x.fI,.int .i64 x.fH]
def l1Cur.wf (x:l1Cur):Prop:=(wSl (wInt .u8)) x.fB∧(wInt .i64) x.fI∧(wInt .i64) x.fH∧True
structure Tree where
  fUp:List Int
  deriving DecidableEq
def Tree.enc (x:Tree):List T:=[.sl 1 (x.fUp.map (eInt .i64))]
def Tree.wf (x:Tree):Prop:=(wSl (wInt .i64)) x.fUp∧True
structure Sum where
  fW:Int
  fS:Int
  deriving DecidableEq
def Sum.enc (x:Sum):List T:=[.int .i64 x.fW,.int .i64 x.fS]
def Sum.wf (x:Sum):Prop:=(wInt .i64) x.fW∧(wInt .i64) x.fS∧True
structure Manifest where
  fGen:Int
  fSize:Int
  fLen:Int
  fSums:List Sum
  deriving DecidableEq
def Manifest.enc (x:Manifest):List T:=[.int .i64 x.fGen,.int .i64 x.fSize,.int .i64 x.fLen,.sl 2 (x.fSums.map Sum.enc)]
def Manifest.wf (x:Manifest):Prop:=(wInt .i64) x.fGen∧(wInt .i64) x.fSize∧(wInt .i64) x.fLen∧(wSl Sum.wf) x.fSums∧True
structure Build where
  fHave:Int
  fBuf:List Int
  deriving DecidableEq
def Build.enc (x:Build):List T:=[.int .i64 x.fHave,.sl 1 (x.fBuf.map (eInt .u8))]
def Build.wf (x:Build):Prop:=(wInt .i64) x.fHave∧(wSl (wInt .u8)) x.fBuf∧True
structure Kid where
  fId:Int
  fWant:Int
  fDone:Int
  fAge:Int
  fSent:Int
  deriving DecidableEq
def Kid.enc (x:Kid):List T:=[.int .i64 x.fId,.int .i64 x.fWant,.int .i64 x.fDone,.int .i64 x.fAge,.int .i64 x.fSent]
def Kid.wf (x:Kid):Prop:=(wInt .i64) x.fId∧(wInt .i64) x.fWant∧(wInt .i64) x.fDone∧(wInt .i64) x.fAge∧(wInt .i64) x.fSent∧True
structure Node where
  fOn:Bool
  fBoss:Int
  fQuiet:Int
  fMan:Manifest
  fBld:Build
  fPhase:Int
  fKids:List Kid
  fDrops:Int
  deriving DecidableEq
def Node.enc (x:Node):List T:=[.bool x.fOn,.int .i64 x.fBoss,.int .i64 x.fQuiet,.int .i64 x.fMan.fGen,.int .i64 x.fMan.fSize,.int .i64 x.fMan.fLen,.sl 2 (x.fMan.fSums.map Sum.enc),.int .i64 x.fBld.fHave,.sl 1 (x.fBld.fBuf.map (eInt .u8)),.int .i64 x.fPhase,.sl 5 (x.fKids.map Kid.enc),.int .i64 x.fDrops]
def Node.wf (x:Node):Prop:=(fun _=>True) x.fOn∧(wInt .i64) x.fBoss∧(wInt .i64) x.fQuiet∧Manifest.wf x.fMan∧Build.wf x.fBld∧(wInt .i64) x.fPhase∧(wSl Kid.wf) x.fKids∧(wInt .i64) x.fDrops∧True
structure Record where
  fGen:Int
  fSlot:Int
  fLen:Int
  deriving DecidableEq
def Record.enc (x:Record):List T:=[.int .i64 x.fGen,.int .i64 x.fSlot,.int .i64 x.fLen]
def Record.wf (x:Record):Prop:=(wInt .i64) x.fGen∧(wInt .i64) x.fSlot∧(wInt .i64) x.fLen∧True
structure Put where
  fWhat:Int
  fAt:Int
  fB:List Int
  fR:Record
  deriving DecidableEq
def Put.enc (x:Put):List T:=[.int .i64 x.fWhat,.int .i64 x.fAt,.sl 1 (x.fB.map (eInt .u8)),.int .i64 x.fR.fGen,.int .i64 x.fR.fSlot,.int .i64 x.fR.fLen]
def Put.wf (x:Put):Prop:=(wInt .i64) x.fWhat∧(wInt .i64) x.fAt∧(wSl (wInt .u8)) x.fB∧Record.wf x.fR∧True
structure Disk where
  fA:List Int
  fB:List Int
  fR:Record
  fP:List Put
  deriving DecidableEq
def Disk.enc (x:Disk):List T:=[.sl 1 (x.fA.map (eInt .u8)),.sl 1 (x.fB.map (eInt .u8)),.int .i64 x.fR.fGen,.int .i64 x.fR.fSlot,.int .i64 x.fR.fLen,.sl 6 (x.fP.map Put.enc)]
def Disk.wf (x:Disk):Prop:=(wSl (wInt .u8)) x.fA∧(wSl (wInt .u8)) x.fB∧Record.wf x.fR∧(wSl Put.wf) x.fP∧True
structure Conf where
  fSize:Int
  fWindow:Int
  fSuspect:Int
  fForget:Int
  deriving DecidableEq
def Conf.enc (x:Conf):List T:=[.int .i64 x.fSize,.int .i64 x.fWindow,.int .i64 x.fSuspect,.int .i64 x.fForget]
def Conf.wf (x:Conf):Prop:=(wInt .i64) x.fSize∧(wInt .i64) x.fWindow∧(wInt .i64) x.fSuspect∧(wInt .i64) x.fForget∧True
structure Msg where
  fKind:Int
  fGen:Int
  fMan:Manifest
  fWant:Int
  fDone:Int
  fI:Int
  fB:List Int
  deriving DecidableEq
def Msg.enc (x:Msg):List T:=[.int .i64 x.fKind,.int .i64 x.fGen,.int .i64 x.fMan.fGen,.int .i64 x.fMan.fSize,.int .i64 x.fMan.fLen,.sl 2 (x.fMan.fSums.map Sum.enc),.int .i64 x.fWant,.int .i64 x.fDone,.int .i64 x.fI,.sl 1 (x.fB.map (eInt .u8))]
def Msg.wf (x:Msg):Prop:=(wInt .i64) x.fKind∧(wInt .i64) x.fGen∧Manifest.wf x.fMan∧(wInt .i64) x.fWant∧(wInt .i64) x.fDone∧(wInt .i64) x.fI∧(wSl (wInt .u8)) x.fB∧True
structure Packet where
  fFrom:Int
  fTo:Int
  fB:List Int
  deriving DecidableEq
def Packet.enc (x:Packet):List T:=[.int .i64 x.fFrom,.int .i64 x.fTo,.sl 1 (x.fB.map (eInt .u8))]
def Packet.wf (x:Packet):Prop:=(wInt .i64) x.fFrom∧(wInt .i64) x.fTo∧(wSl (wInt .u8)) x.fB∧True
structure Beat where
  fN:Node
  fD:Disk
  fOut:List Packet
  deriving DecidableEq
def Beat.enc (x:Beat):List T:=[.bool x.fN.fOn,.int .i64 x.fN.fBoss,.int .i64 x.fN.fQuiet,.int .i64 x.fN.fMan.fGen,.int .i64 x.fN.fMan.fSize,.int .i64 x.fN.fMan.fLen,.sl 2 (x.fN.fMan.fSums.map Sum.enc),.int .i64 x.fN.fBld.fHave,.sl 1 (x.fN.fBld.fBuf.map (eInt .u8)),.int .i64 x.fN.fPhase,.sl 5 (x.fN.fKids.map Kid.enc),.int .i64 x.fN.fDrops,.sl 1 (x.fD.fA.map (eInt .u8)),.sl 1 (x.fD.fB.map (eInt .u8)),.int .i64 x.fD.fR.fGen,.int .i64 x.fD.fR.fSlot,.int .i64 x.fD.fR.fLen,.sl 6 (x.fD.fP.map Put.enc),.sl 3 (x.fOut.map Packet.enc)]
def Beat.wf (x:Beat):Prop:=Node.wf x.fN∧Disk.wf x.fD∧(wSl Packet.wf) x.fOut∧True
def laws_big (u:Nat) (p0:List Int):Option Bool :=
  some (decide (((p0.length:Int)) > 1048576))
def spec_l1New_j1 (u:Nat) (p0:List Int) (x9:Int):Option l1Cur :=
  some ((l1Cur.mk p0 0 x9))
def spec_l1New_j3 (u:Nat) (c_spec_l1New_l2:(List Int)→Int→Int→Option l1Cur) (p0:List Int) (x3:Int) (x4:Int) (x7:Bool):Option l1Cur :=
  bif x7 then ((idx p0 x4).bind fun y8=>c_spec_l1New_l2 p0 (bAnd .i64 (bAdd .i64 (bAdd .i64 (bMul .i64 x3 137) (IntKind.wrap .i64 y8)) 11) 1073741823) (bAdd .i64 x4 1)) else (spec_l1New_j1 u p0 x3)
def spec_l1New_l2 (u:Nat) (k_spec_l1New_l2:Nat) (p0:List Int) (x3:Int) (x4:Int):Option l1Cur:=match k_spec_l1New_l2 with
  | 0=>none
  | k_spec_l1New_l2+1=>bif decide (x4 < ((p0.length:Int))) then (spec_l1New_j3 u (fun z0 z1 z2=>spec_l1New_l2 u k_spec_l1New_l2 z0 z1 z2) p0 x3 x4 (decide (x4 < 4000))) else (spec_l1New_j3 u (fun z0 z1 z2=>spec_l1New_l2 u k_spec_l1New_l2 z0 z1 z2) p0 x3 x4 false)
def spec_l1New (u:Nat) (p0:List Int):Option l1Cur :=
  spec_l1New_l2 u u p0 (bAdd .i64 162416 ((p0.length:Int))) 0
def spec_l1Byte_j1 (u:Nat) (x2:Int) (p0:l1Cur) (x3:Int):Option (Int×l1Cur) :=
  some ((x2,(l1Cur.mk p0.fB x3 (bAdd .i64 (bMul .i64 p0.fH 6364136223846793005) 1442695040888963407))))
def spec_l1Byte (u:Nat) (p0:l1Cur):Option (Int×l1Cur) :=
  bif decide (p0.fI < ((p0.fB.length:Int))) then ((idx p0.fB p0.fI).bind fun y1=>spec_l1Byte_j1 u (bAnd .i64 (bAdd .i64 (bAnd .i64 (bXor .i64 (bShr .i64 (bAdd .i64 (bMul .i64 p0.fH 6364136223846793005) 1442695040888963407) 33) (bShr .i64 (bAdd .i64 (bMul .i64 p0.fH 6364136223846793005) 1442695040888963407) 47)) 255) (IntKind.wrap .i64 y1)) 255) p0 (bAdd .i64 p0.fI 1)) else (spec_l1Byte_j1 u (bAnd .i64 (bXor .i64 (bShr .i64 (bAdd .i64 (bMul .i64 p0.fH 6364136223846793005) 1442695040888963407) 33) (bShr .i64 (bAdd .i64 (bMul .i64 p0.fH 6364136223846793005) 1442695040888963407) 47)) 255) p0 p0.fI)
def spec_l1Below (u:Nat) (p0:l1Cur) (p1:Int):Option (Int×l1Cur) :=
  bif decide (p1≤0) then (some ((0,p0))) else (bif decide (p1≤256) then ((spec_l1Byte u p0).bind fun r1=>(chk (!(p1 == 0))).bind fun _=>some ((bRem .i64 r1.1 p1,r1.2))) else ((spec_l1Byte u p0).bind fun r3=>(spec_l1Byte u r3.2).bind fun r4=>(spec_l1Byte u r4.2).bind fun r5=>(chk (!(p1 == 0))).bind fun _=>some ((bRem .i64 (bAdd .i64 (bAdd .i64 (bMul .i64 r3.1 65536) (bMul .i64 r4.1 256)) r5.1) p1,r5.2))))
def spec_l1Once (u:Nat) (p0:l1Cur) (p1:Int):Option (Bool×l1Cur) :=
  (spec_l1Below u p0 p1).bind fun r1=>some ((r1.1 == 0,r1.2))
def spec_l13Draw_j1 (u:Nat) (x23:List Int) (x24:List Int) (x25:Int) (x26:Int):Option (Tree×l1Cur) :=
  some (((Tree.mk x23),(l1Cur.mk x24 x25 x26)))
def spec_l13Draw_j3 (u:Nat) (c_spec_l13Draw_l2:Int→(List Int)→(List Int)→Int→Int→Option (Tree×l1Cur)) (x6:Int) (x19:Int) (x7:List Int) (x20:List Int) (x21:Int) (x22:Int):Option (Tree×l1Cur) :=
  (chk (decide ((x7.length+(([x19]:List Int)).length)*8≤140737488355328))).bind fun _=>c_spec_l13Draw_l2 (bAdd .i64 x6 1) (x7++(([x19]:List Int))) x20 x21 x22
def spec_l13Draw_l2 (u:Nat) (k_spec_l13Draw_l2:Nat) (x6:Int) (x7:List Int) (x8:List Int) (x9:Int) (x10:Int):Option (Tree×l1Cur):=match k_spec_l13Draw_l2 with
  | 0=>none
  | k_spec_l13Draw_l2+1=>(spec_l1Below u ((l1Cur.mk x8 x9 x10)) 7).bind fun r16=>bif decide (x6 < (bAdd .i64 1 r16.1)) then ((spec_l1Once u r16.2 2).bind fun r17=>bif r17.1 then ((spec_l1Below u r17.2 x6).bind fun r18=>spec_l13Draw_j3 u (fun z0 z1 z2 z3 z4=>spec_l13Draw_l2 u k_spec_l13Draw_l2 z0 z1 z2 z3 z4) x6 r18.1 x7 r18.2.fB r18.2.fI r18.2.fH) else (spec_l13Draw_j3 u (fun z0 z1 z2 z3 z4=>spec_l13Draw_l2 u k_spec_l13Draw_l2 z0 z1 z2 z3 z4) x6 (bSub .i64 x6 1) x7 r17.2.fB r17.2.fI r17.2.fH)) else (spec_l13Draw_j1 u x7 r16.2.fB r16.2.fI r16.2.fH)
def spec_l13Draw (u:Nat) (p0:l1Cur):Option (Tree×l1Cur) :=
  spec_l13Draw_l2 u u 1 (([-1]:List Int)) p0.fB p0.fI p0.fH
def spec_l1Int (u:Nat) (p0:l1Cur) (p1:List Int):Option (Int×l1Cur) :=
  (spec_l1Below u p0 ((p1.length:Int))).bind fun r1=>(idx p1 r1.1).bind fun y2=>some ((y2,r1.2))
def spec_l3Bytes_j1 (u:Nat) (x18:List Int) (x19:List Int) (x20:Int) (x21:Int):Option ((List Int)×l1Cur) :=
  some ((x18,(l1Cur.mk x19 x20 x21)))
def spec_l3Bytes_l2 (u:Nat) (k_spec_l3Bytes_l2:Nat) (x7:List Int) (x8:Int) (x9:List Int) (x10:Int) (x11:Int):Option ((List Int)×l1Cur):=match k_spec_l3Bytes_l2 with
  | 0=>none
  | k_spec_l3Bytes_l2+1=>bif decide (x8 > 0) then ((spec_l1Int u ((l1Cur.mk x9 x10 x11)) (([97,98,99,0,255]:List Int))).bind fun r17=>(chk (decide ((x7.length+(([IntKind.wrap .u8 r17.1]:List Int)).length)*1≤140737488355328))).bind fun _=>(fun z0 z1 z2 z3 z4=>spec_l3Bytes_l2 u k_spec_l3Bytes_l2 z0 z1 z2 z3 z4) (x7++(([IntKind.wrap .u8 r17.1]:List Int))) (bSub .i64 x8 1) r17.2.fB r17.2.fI r17.2.fH) else (spec_l3Bytes_j1 u x7 x9 x10 x11)
def spec_l3Bytes (u:Nat) (p0:l1Cur) (p1:Int):Option ((List Int)×l1Cur) :=
  (spec_l1Below u p0 (bAdd .i64 p1 1)).bind fun r1=>spec_l3Bytes_l2 u u (([]:List Int)) r1.1 r1.2.fB r1.2.fI r1.2.fH
def spec_l6Image (u:Nat) (p0:l1Cur):Option ((List Int)×l1Cur) :=
  (spec_l3Bytes u p0 16).bind fun r1=>some ((r1.1,r1.2))
def spec_l1In (u:Nat) (p0:Int) (p1:Int) (p2:Int):Option Bool :=
  bif decide (p0≥p1) then (some (decide (p0≤p2))) else (some false)
def spec_SizeOk (u:Nat) (p0:Int) (p1:Int):Option Bool :=
  (spec_l1In u p0 2 6).bind fun r1=>bif r1 then ((spec_l1In u p1 0 (bMul .i64 p0 40)).bind fun r2=>some r2) else (some false)
def spec_CeilDiv_j1 (u:Nat) (p0:Int) (p1:Int) (x3:Bool):Option Int :=
  bif x3 then (some 0) else ((chk (!(p1 == 0))).bind fun _=>some (bQuo .i64 (bSub .i64 (bAdd .i64 p0 p1) 1) p1))
def spec_CeilDiv (u:Nat) (p0:Int) (p1:Int):Option Int :=
  (spec_l1In u p0 0 1000000000000).bind fun r1=>bif !r1 then (spec_CeilDiv_j1 u p0 p1 true) else ((spec_l1In u p1 1 1000000000000).bind fun r2=>spec_CeilDiv_j1 u p0 p1 (!r2))
def spec_Blocks (u:Nat) (p0:Int) (p1:Int):Option Int :=
  (spec_SizeOk u p0 p1).bind fun r1=>bif !r1 then (some 0) else ((spec_CeilDiv u p1 p0).bind fun r2=>some r2)
def spec_Least (u:Nat) (p0:Int) (p1:Int):Option Int :=
  bif decide (p1 < p0) then (some p1) else (some p0)
def spec_SpanOf (u:Nat) (p0:Int) (p1:Int) (p2:Int):Option (Int×Int) :=
  (spec_Blocks u p0 p1).bind fun r1=>(spec_l1In u p2 0 (bSub .i64 r1 1)).bind fun r2=>bif !r2 then (some ((0,0))) else ((spec_Least u p0 (bSub .i64 p1 (bMul .i64 p2 p0))).bind fun r3=>some ((bMul .i64 p2 p0,r3)))
def spec_BlockAt (u:Nat) (p0:List Int) (p1:Int) (p2:Int):Option ((List Int)×Bool) :=
  (spec_SpanOf u p1 ((p0.length:Int)) p2).bind fun r1=>bif r1.2 == 0 then (some ((([]:List Int),false))) else ((chk (sliceOK r1.1 (bAdd .i64 r1.1 r1.2) p0.length)).bind fun _=>(chk (decide (((([]:List Int)).length+((p0.take (Int.toNat (bAdd .i64 r1.1 r1.2))).drop (Int.toNat r1.1)).length)*1≤140737488355328))).bind fun _=>some (((([]:List Int))++((p0.take (Int.toNat (bAdd .i64 r1.1 r1.2))).drop (Int.toNat r1.1)),true)))
def spec_WeakOf_j1 (u:Nat) (x11:Int) (x12:Int):Option Int :=
  some (bAdd .i64 x11 (bMul .i64 251 x12))
def spec_WeakOf_l2 (u:Nat) (k_spec_WeakOf_l2:Nat) (p0:List Int) (x4:Int) (x5:Int) (x6:Int):Option Int:=match k_spec_WeakOf_l2 with
  | 0=>none
  | k_spec_WeakOf_l2+1=>bif decide (x6 < ((p0.length:Int))) then ((idx p0 x6).bind fun y10=>(fun z0 z1 z2 z3=>spec_WeakOf_l2 u k_spec_WeakOf_l2 z0 z1 z2 z3) p0 (bRem .i64 (bAdd .i64 x4 (IntKind.wrap .i64 y10)) 251) (bRem .i64 (bAdd .i64 x5 (bRem .i64 (bAdd .i64 x4 (IntKind.wrap .i64 y10)) 251)) 251) (bAdd .i64 x6 1)) else (spec_WeakOf_j1 u x4 x5)
def spec_WeakOf (u:Nat) (p0:List Int):Option Int :=
  spec_WeakOf_l2 u u p0 0 0 0
def spec_WeakOf_l2_f (u:Nat) (p0:List Int) (s:Int×Int):Option Int:=(spec_WeakOf_j1 u s.1 s.2)
def spec_WeakOf_l2_b (u:Nat) (p0:List Int) (y10:Int) (i_:Nat) (s:Int×Int) (k_:(Int×Int)→Option Int):Option Int:=(fun z0 z1 z2 z3=>k_ (z1,z2)) p0 (bRem .i64 (bAdd .i64 s.1 (IntKind.wrap .i64 y10)) 251) (bRem .i64 (bAdd .i64 s.2 (bRem .i64 (bAdd .i64 s.1 (IntKind.wrap .i64 y10)) 251)) 251) (bAdd .i64 (i_:Int) 1)
theorem spec_WeakOf_l2_w (u:Nat) (p0:List Int) (s:Int×Int) (k:Nat) (hn:p0.length≤9223372036854775807) (hk:p0.length < k):spec_WeakOf_l2 u k p0 s.1 s.2 0=Pu.wlist (spec_WeakOf_l2_f u p0) (spec_WeakOf_l2_b u p0) p0 0 s:=Pu.wlist_0 (fun (k:Nat) (s:Int×Int) (i:Int)=>spec_WeakOf_l2 u k p0 s.1 s.2 i) hn (fun _ _ _=>rfl) s hk
def spec_SumOf_j1 (u:Nat) (p0:List Int) (x8:Int):Option Sum :=
  (spec_WeakOf u p0).bind fun r9=>some ((Sum.mk r9 x8))
def spec_SumOf_l2 (u:Nat) (k_spec_SumOf_l2:Nat) (p0:List Int) (x3:Int) (x4:Int):Option Sum:=match k_spec_SumOf_l2 with
  | 0=>none
  | k_spec_SumOf_l2+1=>bif decide (x4 < ((p0.length:Int))) then ((idx p0 x4).bind fun y7=>(fun z0 z1 z2=>spec_SumOf_l2 u k_spec_SumOf_l2 z0 z1 z2) p0 (bAdd .i64 (bMul .i64 256 x3) (IntKind.wrap .i64 y7)) (bAdd .i64 x4 1)) else (spec_SumOf_j1 u p0 x3)
def spec_SumOf (u:Nat) (p0:List Int):Option Sum :=
  bif decide (((p0.length:Int)) > 6) then (some ((Sum.mk 0 0))) else (spec_SumOf_l2 u u p0 1 0)
def spec_SumOf_l2_f (u:Nat) (p0:List Int) (s:Int):Option Sum:=(spec_SumOf_j1 u p0 s)
def spec_SumOf_l2_b (u:Nat) (p0:List Int) (y7:Int) (i_:Nat) (s:Int) (k_:Int→Option Sum):Option Sum:=(fun z0 z1 z2=>k_ z1) p0 (bAdd .i64 (bMul .i64 256 s) (IntKind.wrap .i64 y7)) (bAdd .i64 (i_:Int) 1)
theorem spec_SumOf_l2_w (u:Nat) (p0:List Int) (s:Int) (k:Nat) (hn:p0.length≤9223372036854775807) (hk:p0.length < k):spec_SumOf_l2 u k p0 s 0=Pu.wlist (spec_SumOf_l2_f u p0) (spec_SumOf_l2_b u p0) p0 0 s:=Pu.wlist_0 (fun (k:Nat) (s:Int) (i:Int)=>spec_SumOf_l2 u k p0 s i) hn (fun _ _ _=>rfl) s hk
def spec_SumsOf_j1 (u:Nat) (x10:List Sum):Option ((List Sum)) :=
  some x10
def spec_SumsOf_l2 (u:Nat) (k_spec_SumsOf_l2:Nat) (p0:List Int) (p1:Int) (x3:List Sum) (x4:Int):Option ((List Sum)):=match k_spec_SumsOf_l2 with
  | 0=>none
  | k_spec_SumsOf_l2+1=>(spec_Blocks u p1 ((p0.length:Int))).bind fun r7=>bif decide (x4 < r7) then ((spec_BlockAt u p0 p1 x4).bind fun r8=>(spec_SumOf u r8.1).bind fun r9=>(chk (decide ((x3.length+([r9]).length)*16≤140737488355328))).bind fun _=>(fun z0 z1 z2 z3=>spec_SumsOf_l2 u k_spec_SumsOf_l2 z0 z1 z2 z3) p0 p1 (x3++([r9])) (bAdd .i64 x4 1)) else (spec_SumsOf_j1 u x3)
def spec_SumsOf (u:Nat) (p0:List Int) (p1:Int):Option ((List Sum)) :=
  spec_SumsOf_l2 u u p0 p1 (([]:List Sum)) 0
def spec_ManOf_j1 (u:Nat) (p0:Int) (p1:List Int) (p2:Int) (x3:Bool):Option Manifest :=
  bif x3 then (some ((Manifest.mk 0 0 0 ([])))) else ((spec_SumsOf u p1 p2).bind fun r4=>some ((Manifest.mk p0 p2 ((p1.length:Int)) r4)))
def spec_ManOf (u:Nat) (p0:Int) (p1:List Int) (p2:Int):Option Manifest :=
  (spec_l1In u p0 1 1000000).bind fun r1=>bif !r1 then (spec_ManOf_j1 u p0 p1 p2 true) else ((spec_SizeOk u p2 ((p1.length:Int))).bind fun r2=>spec_ManOf_j1 u p0 p1 p2 (!r2))
def spec_l6Draw (u:Nat) (p0:l1Cur):Option (Manifest×(List Int)×l1Cur) :=
  (spec_l6Image u p0).bind fun r1=>(spec_l1Below u r1.2 5).bind fun r2=>(spec_l1Below u r2.2 5).bind fun r3=>(spec_ManOf u (bAdd .i64 1 r2.1) r1.1 (bAdd .i64 2 r3.1)).bind fun r4=>some ((r4,r1.1,r3.2))
def spec_l1Bent_j1 (u:Nat) (x15:List Int) (x16:List Int) (x17:Int) (x18:Int):Option ((List Int)×l1Cur) :=
  some ((x15,(l1Cur.mk x16 x17 x18)))
def spec_l1Bent (u:Nat) (p0:l1Cur) (p1:List Int):Option ((List Int)×l1Cur) :=
  (chk (decide (((([]:List Int)).length+p1.length)*1≤140737488355328))).bind fun _=>(spec_l1Below u p0 6).bind fun r2=>bif r2.1 == 0 then (bif decide (((((([]:List Int))++p1).length:Int)) > 0) then ((spec_l1Below u r2.2 ((((([]:List Int))++p1).length:Int))).bind fun r3=>(spec_l1Below u r3.2 256).bind fun r4=>(idx ((([]:List Int))++p1) r3.1).bind fun y5=>spec_l1Bent_j1 u (((([]:List Int))++p1).set (Int.toNat r3.1) (IntKind.wrap .u8 r4.1)) r4.2.fB r4.2.fI r4.2.fH) else (spec_l1Bent_j1 u ((([]:List Int))++p1) r2.2.fB r2.2.fI r2.2.fH)) else (bif r2.1 == 1 then ((spec_l1Below u r2.2 (bAdd .i64 ((((([]:List Int))++p1).length:Int)) 1)).bind fun r6=>(chk (sliceOK 0 r6.1 ((([]:List Int))++p1).length)).bind fun _=>spec_l1Bent_j1 u ((((([]:List Int))++p1).take (Int.toNat r6.1)).drop (Int.toNat 0)) r6.2.fB r6.2.fI r6.2.fH) else (bif r2.1 == 2 then ((spec_l1Int u r2.2 (([0,1,128,255]:List Int))).bind fun r8=>(chk (decide ((((([]:List Int))++p1).length+(([IntKind.wrap .u8 r8.1]:List Int)).length)*1≤140737488355328))).bind fun _=>spec_l1Bent_j1 u (((([]:List Int))++p1)++(([IntKind.wrap .u8 r8.1]:List Int))) r8.2.fB r8.2.fI r8.2.fH) else (bif r2.1 == 3 then (bif decide (((((([]:List Int))++p1).length:Int)) > 0) then ((spec_l1Below u r2.2 ((((([]:List Int))++p1).length:Int))).bind fun r10=>(idx ((([]:List Int))++p1) r10.1).bind fun y11=>(spec_l1Below u r10.2 8).bind fun r12=>(chk (decide (0≤r12.1))).bind fun _=>(idx ((([]:List Int))++p1) r10.1).bind fun y14=>spec_l1Bent_j1 u (((([]:List Int))++p1).set (Int.toNat r10.1) (bXor .u8 y11 (bShl .u8 1 r12.1))) r12.2.fB r12.2.fI r12.2.fH) else (spec_l1Bent_j1 u ((([]:List Int))++p1) r2.2.fB r2.2.fI r2.2.fH)) else (spec_l1Bent_j1 u ((([]:List Int))++p1) r2.2.fB r2.2.fI r2.2.fH))))
def spec_l7Old (u:Nat) (p0:l1Cur) (p1:List Int):Option ((List Int)×l1Cur) :=
  (spec_l1Below u p0 5).bind fun r1=>bif r1.1 == 0 then ((spec_l3Bytes u r1.2 16).bind fun r2=>some ((r2.1,r2.2))) else (bif r1.1 == 1 then ((chk (decide (((([]:List Int)).length+p1.length)*1≤140737488355328))).bind fun _=>some (((([]:List Int))++p1,r1.2))) else (bif r1.1 == 2 then ((spec_l1Below u r1.2 (bAdd .i64 ((p1.length:Int)) 1)).bind fun r4=>(chk (sliceOK r4.1 ((p1.length:Int)) p1.length)).bind fun _=>(chk (decide (((([120]:List Int)).length+((p1.take (Int.toNat ((p1.length:Int)))).drop (Int.toNat r4.1)).length)*1≤140737488355328))).bind fun _=>(chk (sliceOK 0 r4.1 p1.length)).bind fun _=>(chk (decide ((((([120]:List Int))++((p1.take (Int.toNat ((p1.length:Int)))).drop (Int.toNat r4.1))).length+((p1.take (Int.toNat r4.1)).drop (Int.toNat 0)).length)*1≤140737488355328))).bind fun _=>some ((((([120]:List Int))++((p1.take (Int.toNat ((p1.length:Int)))).drop (Int.toNat r4.1)))++((p1.take (Int.toNat r4.1)).drop (Int.toNat 0)),r4.2))) else (bif r1.1 == 3 then (some ((([]:List Int),r1.2))) else ((spec_l3Bytes u r1.2 3).bind fun r9=>(spec_l1Bent u r9.2 p1).bind fun r10=>(chk (decide ((r9.1.length+r10.1.length)*1≤140737488355328))).bind fun _=>some ((r9.1++r10.1,r10.2))))))
def spec_BytesOf_j1 (u:Nat) (x8:List Int):Option ((List Int)×Bool) :=
  some ((x8,true))
def spec_BytesOf_l2 (u:Nat) (k_spec_BytesOf_l2:Nat) (x4:Int) (x5:List Int):Option ((List Int)×Bool):=match k_spec_BytesOf_l2 with
  | 0=>none
  | k_spec_BytesOf_l2+1=>bif decide (x4 > 1) then (bif decide (x4 < 256) then (some ((([]:List Int),false))) else ((chk (decide (((([IntKind.wrap .u8 (bAnd .i64 x4 255)]:List Int)).length+x5.length)*1≤140737488355328))).bind fun _=>(fun z0 z1=>spec_BytesOf_l2 u k_spec_BytesOf_l2 z0 z1) (bShr .i64 x4 8) ((([IntKind.wrap .u8 (bAnd .i64 x4 255)]:List Int))++x5))) else (spec_BytesOf_j1 u x5)
def spec_BytesOf (u:Nat) (p0:Int):Option ((List Int)×Bool) :=
  (spec_l1In u p0 1 562949953421311).bind fun r1=>bif !r1 then (some ((([]:List Int),false))) else (spec_BytesOf_l2 u u p0 (([]:List Int)))
def spec_ManOk_j2 (u:Nat)  : Option Bool :=
  some true
def spec_ManOk_j4 (u:Nat) (c_spec_ManOk_l3:Int→Manifest→Option Bool) (x6:Int) (x13:Bool) (p0:Manifest):Option Bool :=
  bif x13 then (some false) else (c_spec_ManOk_l3 (bAdd .i64 x6 1) p0)
def spec_ManOk_l3 (u:Nat) (k_spec_ManOk_l3:Nat) (x6:Int) (p0:Manifest):Option Bool:=match k_spec_ManOk_l3 with
  | 0=>none
  | k_spec_ManOk_l3+1=>bif decide (x6 < ((p0.fSums.length:Int))) then ((idx p0.fSums x6).bind fun y8=>(spec_BytesOf u y8.fS).bind fun r9=>(spec_SpanOf u p0.fSize p0.fLen x6).bind fun r10=>bif !r9.2 then (spec_ManOk_j4 u (fun z0 z1=>spec_ManOk_l3 u k_spec_ManOk_l3 z0 z1) x6 true p0) else (bif ((r9.1.length:Int)) != r10.2 then (spec_ManOk_j4 u (fun z0 z1=>spec_ManOk_l3 u k_spec_ManOk_l3 z0 z1) x6 true p0) else ((spec_SumOf u r9.1).bind fun r11=>(idx p0.fSums x6).bind fun y12=>spec_ManOk_j4 u (fun z0 z1=>spec_ManOk_l3 u k_spec_ManOk_l3 z0 z1) x6 (!([r11.fW,r11.fS] == [y12.fW,y12.fS])) p0))) else (spec_ManOk_j2 u)
def spec_ManOk_j1 (u:Nat) (x4:Bool) (p0:Manifest):Option Bool :=
  bif x4 then (some false) else (spec_ManOk_l3 u u 0 p0)
def spec_ManOk (u:Nat) (p0:Manifest):Option Bool :=
  bif p0.fGen == 0 then (bif p0.fSize == 0 then (bif p0.fLen == 0 then (some (((p0.fSums.length:Int)) == 0)) else (some false)) else (some false)) else ((spec_l1In u p0.fGen 1 1000000).bind fun r1=>bif !r1 then (spec_ManOk_j1 u true p0) else ((spec_SizeOk u p0.fSize p0.fLen).bind fun r2=>bif !r2 then (spec_ManOk_j1 u true p0) else ((spec_Blocks u p0.fSize p0.fLen).bind fun r3=>spec_ManOk_j1 u (((p0.fSums.length:Int)) != r3) p0)))
def spec_ManOk_l3_f (u:Nat) (p0:Manifest) (s:Unit):Option Bool:=(spec_ManOk_j2 u)
def spec_ManOk_l3_b (u:Nat) (p0:Manifest) (y8:Sum) (i_:Nat) (s:Unit) (k_:Unit→Option Bool):Option Bool:=(spec_BytesOf u y8.fS).bind fun r9=>(spec_SpanOf u p0.fSize p0.fLen (i_:Int)).bind fun r10=>bif !r9.2 then (spec_ManOk_j4 u (fun z0 z1=>k_ ()) (i_:Int) true p0) else (bif ((r9.1.length:Int)) != r10.2 then (spec_ManOk_j4 u (fun z0 z1=>k_ ()) (i_:Int) true p0) else ((spec_SumOf u r9.1).bind fun r11=>(idx p0.fSums (i_:Int)).bind fun y12=>spec_ManOk_j4 u (fun z0 z1=>k_ ()) (i_:Int) (!([r11.fW,r11.fS] == [y12.fW,y12.fS])) p0))
theorem spec_ManOk_l3_w (u:Nat) (p0:Manifest) (s:Unit) (k:Nat) (hn:p0.fSums.length≤9223372036854775807) (hk:p0.fSums.length < k):spec_ManOk_l3 u k 0 p0=Pu.wlist (spec_ManOk_l3_f u p0) (spec_ManOk_l3_b u p0) p0.fSums 0 s:=Pu.wlist_0 (fun (k:Nat) (s:Unit) (i:Int)=>spec_ManOk_l3 u k i p0) hn (fun _ _ _=>rfl) s hk
def spec_BuildNew (u:Nat) (p0:Manifest):Option Build :=
  (spec_ManOk u p0).bind fun r1=>bif !r1 then (some ((Build.mk 0 ([])))) else ((chk (decide (0≤p0.fLen) && (p0.fLen == 0 || p0.fLen == p0.fLen))).bind fun _=>(chk (decide (Int.toNat p0.fLen*1≤140737488355328))).bind fun _=>some ((Build.mk 0 (List.replicate (Int.toNat p0.fLen) (0:Int)))))
def spec_l3Ok (u:Nat) (p0:Int):Option Bool :=
  (spec_l1In u p0 0 63000).bind fun r1=>some r1
def spec_WeakHalves (u:Nat) (p0:Int):Option (Int×Int) :=
  (spec_l3Ok u p0).bind fun r1=>bif !r1 then (some ((0,0))) else (some ((bRem .i64 p0 251,bQuo .i64 p0 251)))
def spec_Wrap (u:Nat) (p0:Int) (p1:Int):Option Int :=
  (spec_l1In u p1 1 1000000000000).bind fun r1=>bif !r1 then (some 0) else ((chk (!(p1 == 0))).bind fun _=>(chk (!(p1 == 0))).bind fun _=>some (bRem .i64 (bAdd .i64 (bRem .i64 p0 p1) p1) p1))
def spec_Roll_j1 (u:Nat) (p0:Int) (p1:Int) (p2:Int) (p3:Int) (x5:Bool):Option Int :=
  bif x5 then (some p0) else ((spec_WeakHalves u p0).bind fun r6=>(spec_Wrap u (bSub .i64 r6.2 (bMul .i64 (bRem .i64 p1 251) p2)) 251).bind fun r7=>(spec_Wrap u (bAdd .i64 (bSub .i64 r6.1 p2) p3) 251).bind fun r8=>(spec_Wrap u (bAdd .i64 r7 r8) 251).bind fun r9=>some (bAdd .i64 r8 (bMul .i64 251 r9)))
def spec_Roll (u:Nat) (p0:Int) (p1:Int) (p2:Int) (p3:Int):Option Int :=
  (spec_l3Ok u p0).bind fun r1=>bif !r1 then (spec_Roll_j1 u p0 p1 p2 p3 true) else ((spec_l1In u p1 1 1000000000000).bind fun r2=>bif !r2 then (spec_Roll_j1 u p0 p1 p2 p3 true) else ((spec_l1In u p2 0 255).bind fun r3=>bif !r3 then (spec_Roll_j1 u p0 p1 p2 p3 true) else ((spec_l1In u p3 0 255).bind fun r4=>spec_Roll_j1 u p0 p1 p2 p3 (!r4))))
def spec_Windows_j2 (u:Nat) (x17:List Int):Option ((List Int)) :=
  some x17
def spec_Windows_l3 (u:Nat) (k_spec_Windows_l3:Nat) (p0:List Int) (p1:Int) (x8:List Int) (x9:Int) (x10:Int):Option ((List Int)):=match k_spec_Windows_l3 with
  | 0=>none
  | k_spec_Windows_l3+1=>bif decide (x10 < ((p0.length:Int))) then ((idx p0 (bSub .i64 x10 p1)).bind fun y14=>(idx p0 x10).bind fun y15=>(spec_Roll u x9 p1 (IntKind.wrap .i64 y14) (IntKind.wrap .i64 y15)).bind fun r16=>(chk (decide ((x8.length+(([r16]:List Int)).length)*8≤140737488355328))).bind fun _=>(fun z0 z1 z2 z3 z4=>spec_Windows_l3 u k_spec_Windows_l3 z0 z1 z2 z3 z4) p0 p1 (x8++(([r16]:List Int))) r16 (bAdd .i64 x10 1)) else (spec_Windows_j2 u x8)
def spec_Windows_j1 (u:Nat) (p0:List Int) (p1:Int) (x1:Bool):Option ((List Int)) :=
  bif x1 then (some (([]:List Int))) else ((chk (sliceOK 0 p1 p0.length)).bind fun _=>(spec_WeakOf u ((p0.take (Int.toNat p1)).drop (Int.toNat 0))).bind fun r3=>(chk (decide (((([]:List Int)).length+(([r3]:List Int)).length)*8≤140737488355328))).bind fun _=>spec_Windows_l3 u u p0 p1 ((([]:List Int))++(([r3]:List Int))) r3 p1)
def spec_Windows (u:Nat) (p0:List Int) (p1:Int):Option ((List Int)) :=
  bif decide (p1 < 1) then (spec_Windows_j1 u p0 p1 true) else (spec_Windows_j1 u p0 p1 (decide (p1 > ((p0.length:Int)))))
def spec_Windows_l3_f (u:Nat) (p0:List Int) (p1:Int) (s:(List Int)×Int):Option ((List Int)):=(spec_Windows_j2 u s.1)
def spec_Windows_l3_b (u:Nat) (p0:List Int) (p1:Int) (i_:Nat) (s:(List Int)×Int) (k_:((List Int)×Int)→Option ((List Int))):Option ((List Int)):=(idx p0 (bSub .i64 (i_:Int) p1)).bind fun y14=>(idx p0 (i_:Int)).bind fun y15=>(spec_Roll u s.2 p1 (IntKind.wrap .i64 y14) (IntKind.wrap .i64 y15)).bind fun r16=>(chk (decide ((s.1.length+(([r16]:List Int)).length)*8≤140737488355328))).bind fun _=>(fun z0 z1 z2 z3 z4=>k_ (z2,z3)) p0 p1 (s.1++(([r16]:List Int))) r16 (bAdd .i64 (i_:Int) 1)
theorem spec_Windows_l3_w (u:Nat) (p0:List Int) (p1:Int) (s:(List Int)×Int) (k:Nat) (hn:(((p0.length:Int)):Int)≤9223372036854775807) (hk:Int.toNat (((p0.length:Int))) < k):spec_Windows_l3 u k p0 p1 s.1 s.2 0=Pu.walk (spec_Windows_l3_f u p0 p1) (spec_Windows_l3_b u p0 p1) (Int.toNat (((p0.length:Int)))) 0 s:=Pu.walk_0 (fun (k:Nat) (s:(List Int)×Int) (i:Int)=>spec_Windows_l3 u k p0 p1 s.1 s.2 i) hn (fun _ _ _=>rfl) s hk
def spec_FindSum_j1 (u:Nat)  : Option Int :=
  some (-1)
def spec_FindSum_j3 (u:Nat) (c_spec_FindSum_l2:(List Int)→Int→((List Int))→Int→Sum→Option Int) (p0:List Int) (p2:Int) (r2:(List Int)) (x4:Int) (x9:Bool) (p1:Sum):Option Int :=
  bif x9 then (some x4) else (c_spec_FindSum_l2 p0 p2 r2 (bAdd .i64 x4 1) p1)
def spec_FindSum_l2 (u:Nat) (k_spec_FindSum_l2:Nat) (p0:List Int) (p2:Int) (r2:(List Int)) (x4:Int) (p1:Sum):Option Int:=match k_spec_FindSum_l2 with
  | 0=>none
  | k_spec_FindSum_l2+1=>bif decide (x4 < ((r2.length:Int))) then ((idx r2 x4).bind fun y6=>bif y6 == p1.fW then ((chk (sliceOK x4 (bAdd .i64 x4 p2) p0.length)).bind fun _=>(spec_SumOf u ((p0.take (Int.toNat (bAdd .i64 x4 p2))).drop (Int.toNat x4))).bind fun r8=>spec_FindSum_j3 u (fun z0 z1 z2 z3 z4=>spec_FindSum_l2 u k_spec_FindSum_l2 z0 z1 z2 z3 z4) p0 p2 r2 x4 ([r8.fW,r8.fS] == [p1.fW,p1.fS]) p1) else (spec_FindSum_j3 u (fun z0 z1 z2 z3 z4=>spec_FindSum_l2 u k_spec_FindSum_l2 z0 z1 z2 z3 z4) p0 p2 r2 x4 false p1)) else (spec_FindSum_j1 u)
def spec_FindSum (u:Nat) (p0:List Int) (p1:Sum) (p2:Int):Option Int :=
  (spec_l1In u p2 1 6).bind fun r1=>bif !r1 then (some (-1)) else ((spec_Windows u p0 p2).bind fun r2=>spec_FindSum_l2 u u p0 p2 r2 0 p1)
def spec_FindSum_l2_f (u:Nat) (p0:List Int) (p2:Int) (r2:(List Int)) (p1:Sum) (s:Unit):Option Int:=(spec_FindSum_j1 u)
def spec_FindSum_l2_b (u:Nat) (p0:List Int) (p2:Int) (r2:(List Int)) (p1:Sum) (y6:Int) (i_:Nat) (s:Unit) (k_:Unit→Option Int):Option Int:=bif y6 == p1.fW then ((chk (sliceOK (i_:Int) (bAdd .i64 (i_:Int) p2) p0.length)).bind fun _=>(spec_SumOf u ((p0.take (Int.toNat (bAdd .i64 (i_:Int) p2))).drop (Int.toNat (i_:Int)))).bind fun r8=>spec_FindSum_j3 u (fun z0 z1 z2 z3 z4=>k_ ()) p0 p2 r2 (i_:Int) ([r8.fW,r8.fS] == [p1.fW,p1.fS]) p1) else (spec_FindSum_j3 u (fun z0 z1 z2 z3 z4=>k_ ()) p0 p2 r2 (i_:Int) false p1)
theorem spec_FindSum_l2_w (u:Nat) (p0:List Int) (p2:Int) (r2:(List Int)) (p1:Sum) (s:Unit) (k:Nat) (hn:r2.length≤9223372036854775807) (hk:r2.length < k):spec_FindSum_l2 u k p0 p2 r2 0 p1=Pu.wlist (spec_FindSum_l2_f u p0 p2 r2 p1) (spec_FindSum_l2_b u p0 p2 r2 p1) r2 0 s:=Pu.wlist_0 (fun (k:Nat) (s:Unit) (i:Int)=>spec_FindSum_l2 u k p0 p2 r2 i p1) hn (fun _ _ _=>rfl) s hk
def spec_PlaceOf_j1 (u:Nat) (p0:List Int) (p2:Int) (r1:Int×Int) (x2:Bool) (p1:Manifest):Option Int :=
  bif x2 then (some (-1)) else ((idx p1.fSums p2).bind fun y3=>(spec_FindSum u p0 y3 r1.2).bind fun r4=>some r4)
def spec_PlaceOf (u:Nat) (p0:List Int) (p1:Manifest) (p2:Int):Option Int :=
  (spec_SpanOf u p1.fSize p1.fLen p2).bind fun r1=>bif r1.2 == 0 then (spec_PlaceOf_j1 u p0 p2 r1 true p1) else (spec_PlaceOf_j1 u p0 p2 r1 (decide (p2≥((p1.fSums.length:Int)))) p1)
def spec_SetOk (u:Nat) (p0:Int):Option Bool :=
  (spec_l1In u p0 0 1099511627775).bind fun r1=>some r1
def spec_InSet (u:Nat) (p0:Int) (p1:Int):Option Bool :=
  (spec_SetOk u p0).bind fun r1=>bif r1 then ((spec_l1In u p1 0 39).bind fun r2=>bif r2 then ((chk (decide (0≤p1))).bind fun _=>some ((bAnd .i64 (bShr .i64 p0 p1) 1) == 1)) else (some false)) else (some false)
def spec_WithPart_j1 (u:Nat) (p0:Int) (p1:Int) (x3:Bool):Option Int :=
  bif x3 then (some p0) else ((chk (decide (0≤p1))).bind fun _=>some (bOr .i64 p0 (bShl .i64 1 p1)))
def spec_WithPart (u:Nat) (p0:Int) (p1:Int):Option Int :=
  (spec_SetOk u p0).bind fun r1=>bif !r1 then (spec_WithPart_j1 u p0 p1 true) else ((spec_l1In u p1 0 39).bind fun r2=>spec_WithPart_j1 u p0 p1 (!r2))
def spec_l8Put_j2 (u:Nat) (p2:Int) (p1:Build) (x15:List Int):Option (Bool×Build) :=
  (spec_WithPart u p1.fHave p2).bind fun r16=>some ((true,(Build.mk r16 x15)))
def spec_l8Put_l3 (u:Nat) (k_spec_l8Put_l3:Nat) (p2:Int) (p3:List Int) (r6:Int×Int) (x9:Int) (p1:Build) (x10:List Int):Option (Bool×Build):=match k_spec_l8Put_l3 with
  | 0=>none
  | k_spec_l8Put_l3+1=>bif decide (x9 < ((p3.length:Int))) then ((idx p3 x9).bind fun y13=>(idx x10 (bAdd .i64 r6.1 x9)).bind fun y14=>(fun z0 z1 z2 z3 z4 z5=>spec_l8Put_l3 u k_spec_l8Put_l3 z0 z1 z2 z3 z4 z5) p2 p3 r6 (bAdd .i64 x9 1) p1 (x10.set (Int.toNat (bAdd .i64 r6.1 x9)) y13)) else (spec_l8Put_j2 u p2 p1 x10)
def spec_l8Put_j1 (u:Nat) (p2:Int) (p3:List Int) (x5:Bool) (p0:Manifest) (p1:Build):Option (Bool×Build) :=
  bif x5 then (some ((false,p1))) else ((spec_SpanOf u p0.fSize p0.fLen p2).bind fun r6=>spec_l8Put_l3 u u p2 p3 r6 0 p1 p1.fBuf)
def spec_l8Put (u:Nat) (p0:Manifest) (p1:Build) (p2:Int) (p3:List Int):Option (Bool×Build) :=
  (spec_l1In u p2 0 (bSub .i64 ((p0.fSums.length:Int)) 1)).bind fun r1=>bif !r1 then (spec_l8Put_j1 u p2 p3 true p0 p1) else ((spec_InSet u p1.fHave p2).bind fun r2=>bif r2 then (spec_l8Put_j1 u p2 p3 true p0 p1) else ((spec_SumOf u p3).bind fun r3=>(idx p0.fSums p2).bind fun y4=>bif !([r3.fW,r3.fS] == [y4.fW,y4.fS]) then (spec_l8Put_j1 u p2 p3 true p0 p1) else (spec_l8Put_j1 u p2 p3 (decide (((p3.length:Int)) > 6)) p0 p1)))
def spec_l8Put_l3_f (u:Nat) (p2:Int) (p3:List Int) (r6:Int×Int) (p1:Build) (s:(List Int)):Option (Bool×Build):=(spec_l8Put_j2 u p2 p1 s)
def spec_l8Put_l3_b (u:Nat) (p2:Int) (p3:List Int) (r6:Int×Int) (p1:Build) (y13:Int) (i_:Nat) (s:(List Int)) (k_:((List Int))→Option (Bool×Build)):Option (Bool×Build):=(idx s (bAdd .i64 r6.1 (i_:Int))).bind fun y14=>(fun z0 z1 z2 z3 z4 z5=>k_ z5) p2 p3 r6 (bAdd .i64 (i_:Int) 1) p1 (s.set (Int.toNat (bAdd .i64 r6.1 (i_:Int))) y13)
theorem spec_l8Put_l3_w (u:Nat) (p2:Int) (p3:List Int) (r6:Int×Int) (p1:Build) (s:(List Int)) (k:Nat) (hn:p3.length≤9223372036854775807) (hk:p3.length < k):spec_l8Put_l3 u k p2 p3 r6 0 p1 s=Pu.wlist (spec_l8Put_l3_f u p2 p3 r6 p1) (spec_l8Put_l3_b u p2 p3 r6 p1) p3 0 s:=Pu.wlist_0 (fun (k:Nat) (s:(List Int)) (i:Int)=>spec_l8Put_l3 u k p2 p3 r6 i p1 s) hn (fun _ _ _=>rfl) s hk
def spec_BuildFrom_j1 (u:Nat) (x18:Int) (x19:List Int):Option Build :=
  some ((Build.mk x18 x19))
def spec_BuildFrom_j3 (u:Nat) (c_spec_BuildFrom_l2:(List Int)→Int→Manifest→Int→(List Int)→Option Build) (p1:List Int) (x6:Int) (p0:Manifest) (x16:Int) (x17:List Int):Option Build :=
  c_spec_BuildFrom_l2 p1 (bAdd .i64 x6 1) p0 x16 x17
def spec_BuildFrom_l2 (u:Nat) (k_spec_BuildFrom_l2:Nat) (p1:List Int) (x6:Int) (p0:Manifest) (x7:Int) (x8:List Int):Option Build:=match k_spec_BuildFrom_l2 with
  | 0=>none
  | k_spec_BuildFrom_l2+1=>bif decide (x6 < ((p0.fSums.length:Int))) then ((spec_PlaceOf u p1 p0 x6).bind fun r12=>(spec_SpanOf u p0.fSize p0.fLen x6).bind fun r13=>bif decide (r12≥0) then ((chk (sliceOK r12 (bAdd .i64 r12 r13.2) p1.length)).bind fun _=>(spec_l8Put u p0 ((Build.mk x7 x8)) x6 ((p1.take (Int.toNat (bAdd .i64 r12 r13.2))).drop (Int.toNat r12))).bind fun r15=>spec_BuildFrom_j3 u (fun z0 z1 z2 z3 z4=>spec_BuildFrom_l2 u k_spec_BuildFrom_l2 z0 z1 z2 z3 z4) p1 x6 p0 r15.2.fHave r15.2.fBuf) else (spec_BuildFrom_j3 u (fun z0 z1 z2 z3 z4=>spec_BuildFrom_l2 u k_spec_BuildFrom_l2 z0 z1 z2 z3 z4) p1 x6 p0 x7 x8)) else (spec_BuildFrom_j1 u x7 x8)
def spec_BuildFrom (u:Nat) (p0:Manifest) (p1:List Int):Option Build :=
  (spec_BuildNew u p0).bind fun r1=>(spec_ManOk u p0).bind fun r2=>bif !r2 then (some r1) else (spec_BuildFrom_l2 u u p1 0 p0 r1.fHave r1.fBuf)
def spec_BuildFrom_l2_f (u:Nat) (p1:List Int) (p0:Manifest) (s:Int×(List Int)):Option Build:=(spec_BuildFrom_j1 u s.1 s.2)
def spec_BuildFrom_l2_b (u:Nat) (p1:List Int) (p0:Manifest) (i_:Nat) (s:Int×(List Int)) (k_:(Int×(List Int))→Option Build):Option Build:=(spec_PlaceOf u p1 p0 (i_:Int)).bind fun r12=>(spec_SpanOf u p0.fSize p0.fLen (i_:Int)).bind fun r13=>bif decide (r12≥0) then ((chk (sliceOK r12 (bAdd .i64 r12 r13.2) p1.length)).bind fun _=>(spec_l8Put u p0 ((Build.mk s.1 s.2)) (i_:Int) ((p1.take (Int.toNat (bAdd .i64 r12 r13.2))).drop (Int.toNat r12))).bind fun r15=>spec_BuildFrom_j3 u (fun z0 z1 z2 z3 z4=>k_ (z3,z4)) p1 (i_:Int) p0 r15.2.fHave r15.2.fBuf) else (spec_BuildFrom_j3 u (fun z0 z1 z2 z3 z4=>k_ (z3,z4)) p1 (i_:Int) p0 s.1 s.2)
theorem spec_BuildFrom_l2_w (u:Nat) (p1:List Int) (p0:Manifest) (s:Int×(List Int)) (k:Nat) (hn:(((p0.fSums.length:Int)):Int)≤9223372036854775807) (hk:Int.toNat (((p0.fSums.length:Int))) < k):spec_BuildFrom_l2 u k p1 0 p0 s.1 s.2=Pu.walk (spec_BuildFrom_l2_f u p1 p0) (spec_BuildFrom_l2_b u p1 p0) (Int.toNat (((p0.fSums.length:Int)))) 0 s:=Pu.walk_0 (fun (k:Nat) (s:Int×(List Int)) (i:Int)=>spec_BuildFrom_l2 u k p1 i p0 s.1 s.2) hn (fun _ _ _=>rfl) s hk
def spec_l8Draw_j1 (u:Nat) (r1:Manifest×(List Int)×l1Cur) (x27:List Int) (x28:Int) (x29:Int) (x30:Int) (x31:List Int):Option (Manifest×Build×(List Int)×l1Cur) :=
  some ((r1.1,(Build.mk x30 x31),r1.2.1,(l1Cur.mk x27 x28 x29)))
def spec_l8Draw_j3 (u:Nat) (c_spec_l8Draw_l2:(Manifest×(List Int)×l1Cur)→Int→(List Int)→Int→Int→Int→(List Int)→Option (Manifest×Build×(List Int)×l1Cur)) (r1:Manifest×(List Int)×l1Cur) (x10:Int) (r22:Bool×l1Cur) (x25:Int) (x26:List Int):Option (Manifest×Build×(List Int)×l1Cur) :=
  c_spec_l8Draw_l2 r1 (bAdd .i64 x10 1) r22.2.fB r22.2.fI r22.2.fH x25 x26
def spec_l8Draw_l2 (u:Nat) (k_spec_l8Draw_l2:Nat) (r1:Manifest×(List Int)×l1Cur) (x10:Int) (x11:List Int) (x12:Int) (x13:Int) (x14:Int) (x15:List Int):Option (Manifest×Build×(List Int)×l1Cur):=match k_spec_l8Draw_l2 with
  | 0=>none
  | k_spec_l8Draw_l2+1=>bif decide (x10 < ((r1.1.fSums.length:Int))) then ((spec_l1Once u ((l1Cur.mk x11 x12 x13)) 3).bind fun r22=>bif r22.1 then ((spec_BlockAt u r1.2.1 r1.1.fSize x10).bind fun r23=>(spec_l8Put u r1.1 ((Build.mk x14 x15)) x10 r23.1).bind fun r24=>spec_l8Draw_j3 u (fun z0 z1 z2 z3 z4 z5 z6=>spec_l8Draw_l2 u k_spec_l8Draw_l2 z0 z1 z2 z3 z4 z5 z6) r1 x10 r22 r24.2.fHave r24.2.fBuf) else (spec_l8Draw_j3 u (fun z0 z1 z2 z3 z4 z5 z6=>spec_l8Draw_l2 u k_spec_l8Draw_l2 z0 z1 z2 z3 z4 z5 z6) r1 x10 r22 x14 x15)) else (spec_l8Draw_j1 u r1 x11 x12 x13 x14 x15)
def spec_l8Draw (u:Nat) (p0:l1Cur):Option (Manifest×Build×(List Int)×l1Cur) :=
  (spec_l6Draw u p0).bind fun r1=>(spec_l7Old u r1.2.2 r1.2.1).bind fun r2=>(spec_BuildFrom u r1.1 r2.1).bind fun r3=>spec_l8Draw_l2 u u r1 0 r2.2.fB r2.2.fI r2.2.fH r3.fHave r3.fBuf
def spec_l8Draw_l2_f (u:Nat) (r1:Manifest×(List Int)×l1Cur) (s:(List Int)×Int×Int×Int×(List Int)):Option (Manifest×Build×(List Int)×l1Cur):=(spec_l8Draw_j1 u r1 s.1 s.2.1 s.2.2.1 s.2.2.2.1 s.2.2.2.2)
def spec_l8Draw_l2_b (u:Nat) (r1:Manifest×(List Int)×l1Cur) (i_:Nat) (s:(List Int)×Int×Int×Int×(List Int)) (k_:((List Int)×Int×Int×Int×(List Int))→Option (Manifest×Build×(List Int)×l1Cur)):Option (Manifest×Build×(List Int)×l1Cur):=(spec_l1Once u ((l1Cur.mk s.1 s.2.1 s.2.2.1)) 3).bind fun r22=>bif r22.1 then ((spec_BlockAt u r1.2.1 r1.1.fSize (i_:Int)).bind fun r23=>(spec_l8Put u r1.1 ((Build.mk s.2.2.2.1 s.2.2.2.2)) (i_:Int) r23.1).bind fun r24=>spec_l8Draw_j3 u (fun z0 z1 z2 z3 z4 z5 z6=>k_ (z2,z3,z4,z5,z6)) r1 (i_:Int) r22 r24.2.fHave r24.2.fBuf) else (spec_l8Draw_j3 u (fun z0 z1 z2 z3 z4 z5 z6=>k_ (z2,z3,z4,z5,z6)) r1 (i_:Int) r22 s.2.2.2.1 s.2.2.2.2)
theorem spec_l8Draw_l2_w (u:Nat) (r1:Manifest×(List Int)×l1Cur) (s:(List Int)×Int×Int×Int×(List Int)) (k:Nat) (hn:(((r1.1.fSums.length:Int)):Int)≤9223372036854775807) (hk:Int.toNat (((r1.1.fSums.length:Int))) < k):spec_l8Draw_l2 u k r1 0 s.1 s.2.1 s.2.2.1 s.2.2.2.1 s.2.2.2.2=Pu.walk (spec_l8Draw_l2_f u r1) (spec_l8Draw_l2_b u r1) (Int.toNat (((r1.1.fSums.length:Int)))) 0 s:=Pu.walk_0 (fun (k:Nat) (s:(List Int)×Int×Int×Int×(List Int)) (i:Int)=>spec_l8Draw_l2 u k r1 i s.1 s.2.1 s.2.2.1 s.2.2.2.1 s.2.2.2.2) hn (fun _ _ _=>rfl) s hk
def spec_l6SameSums_j1 (u:Nat)  : Option Bool :=
  some true
def spec_l6SameSums_l2 (u:Nat) (k_spec_l6SameSums_l2:Nat) (p0:List Sum) (p1:List Sum) (x2:Int):Option Bool:=match k_spec_l6SameSums_l2 with
  | 0=>none
  | k_spec_l6SameSums_l2+1=>bif decide (x2 < ((p0.length:Int))) then ((idx p0 x2).bind fun y4=>(idx p1 x2).bind fun y5=>bif !([y4.fW,y4.fS] == [y5.fW,y5.fS]) then (some false) else ((fun z0 z1 z2=>spec_l6SameSums_l2 u k_spec_l6SameSums_l2 z0 z1 z2) p0 p1 (bAdd .i64 x2 1))) else (spec_l6SameSums_j1 u)
def spec_l6SameSums (u:Nat) (p0:List Sum) (p1:List Sum):Option Bool :=
  bif ((p0.length:Int)) != ((p1.length:Int)) then (some false) else (spec_l6SameSums_l2 u u p0 p1 0)
def spec_l6SameSums_l2_f (u:Nat) (p0:List Sum) (p1:List Sum) (s:Unit):Option Bool:=(spec_l6SameSums_j1 u)
def spec_l6SameSums_l2_b (u:Nat) (p0:List Sum) (p1:List Sum) (y4:Sum) (i_:Nat) (s:Unit) (k_:Unit→Option Bool):Option Bool:=(idx p1 (i_:Int)).bind fun y5=>bif !([y4.fW,y4.fS] == [y5.fW,y5.fS]) then (some false) else ((fun z0 z1 z2=>k_ ()) p0 p1 (bAdd .i64 (i_:Int) 1))
theorem spec_l6SameSums_l2_w (u:Nat) (p0:List Sum) (p1:List Sum) (s:Unit) (k:Nat) (hn:p0.length≤9223372036854775807) (hk:p0.length < k):spec_l6SameSums_l2 u k p0 p1 0=Pu.wlist (spec_l6SameSums_l2_f u p0 p1) (spec_l6SameSums_l2_b u p0 p1) p0 0 s:=Pu.wlist_0 (fun (k:Nat) (s:Unit) (i:Int)=>spec_l6SameSums_l2 u k p0 p1 i) hn (fun _ _ _=>rfl) s hk
def spec_Tells (u:Nat) (p0:Manifest) (p1:List Int):Option Bool :=
  bif ((p1.length:Int)) == p0.fLen then ((spec_SumsOf u p1 p0.fSize).bind fun r1=>(spec_l6SameSums u r1 p0.fSums).bind fun r2=>some r2) else (some false)
def spec_l6Copy (u:Nat) (p0:Manifest):Option Manifest :=
  (chk (decide (((([]:List Sum)).length+p0.fSums.length)*16≤140737488355328))).bind fun _=>some ((Manifest.mk p0.fGen p0.fSize p0.fLen ((([]:List Sum))++p0.fSums)))
def spec_RootNode_j1 (u:Nat) (p1:List Int) (x3:Bool) (p0:Manifest):Option Node :=
  bif x3 then (some ((Node.mk false 0 0 ((Manifest.mk 0 0 0 ([]))) ((Build.mk 0 ([]))) 0 ([]) 0))) else ((spec_l6Copy u p0).bind fun r4=>(spec_BuildFrom u p0 p1).bind fun r5=>some ((Node.mk true (-1) 0 r4 r5 6 ([]) 0)))
def spec_RootNode (u:Nat) (p0:Manifest) (p1:List Int):Option Node :=
  bif p0.fGen == 0 then (spec_RootNode_j1 u p1 true p0) else ((spec_ManOk u p0).bind fun r1=>bif !r1 then (spec_RootNode_j1 u p1 true p0) else ((spec_Tells u p0 p1).bind fun r2=>spec_RootNode_j1 u p1 (!r2) p0))
def spec_KidAt_j1 (u:Nat)  : Option Int :=
  some (-1)
def spec_KidAt_l2 (u:Nat) (k_spec_KidAt_l2:Nat) (p0:List Kid) (p1:Int) (x2:Int):Option Int:=match k_spec_KidAt_l2 with
  | 0=>none
  | k_spec_KidAt_l2+1=>bif decide (x2 < ((p0.length:Int))) then ((idx p0 x2).bind fun y4=>bif y4.fId == p1 then (some x2) else ((fun z0 z1 z2=>spec_KidAt_l2 u k_spec_KidAt_l2 z0 z1 z2) p0 p1 (bAdd .i64 x2 1))) else (spec_KidAt_j1 u)
def spec_KidAt (u:Nat) (p0:List Kid) (p1:Int):Option Int :=
  spec_KidAt_l2 u u p0 p1 0
def spec_KidAt_l2_f (u:Nat) (p0:List Kid) (p1:Int) (s:Unit):Option Int:=(spec_KidAt_j1 u)
def spec_KidAt_l2_b (u:Nat) (p0:List Kid) (p1:Int) (y4:Kid) (i_:Nat) (s:Unit) (k_:Unit→Option Int):Option Int:=bif y4.fId == p1 then (some (i_:Int)) else ((fun z0 z1 z2=>k_ ()) p0 p1 (bAdd .i64 (i_:Int) 1))
theorem spec_KidAt_l2_w (u:Nat) (p0:List Kid) (p1:Int) (s:Unit) (k:Nat) (hn:p0.length≤9223372036854775807) (hk:p0.length < k):spec_KidAt_l2 u k p0 p1 0=Pu.wlist (spec_KidAt_l2_f u p0 p1) (spec_KidAt_l2_b u p0 p1) p0 0 s:=Pu.wlist_0 (fun (k:Nat) (s:Unit) (i:Int)=>spec_KidAt_l2 u k p0 p1 i) hn (fun _ _ _=>rfl) s hk
def spec_Hear_j2 (u:Nat) (p1:Int) (p2:Int) (p3:Int) (p0:List Kid) (x12:Int):Option ((List Kid)) :=
  (chk (sliceOK 0 x12 ((([]:List Kid))++p0).length)).bind fun _=>(chk (decide (((([]:List Kid)).length+((((([]:List Kid))++p0).take (Int.toNat x12)).drop (Int.toNat 0)).length)*40≤140737488355328))).bind fun _=>(chk (decide ((((([]:List Kid))++((((([]:List Kid))++p0).take (Int.toNat x12)).drop (Int.toNat 0))).length+([(Kid.mk p1 p2 p3 0 0)]).length)*40≤140737488355328))).bind fun _=>(chk (sliceOK x12 ((((([]:List Kid))++p0).length:Int)) ((([]:List Kid))++p0).length)).bind fun _=>(chk (decide (((((([]:List Kid))++((((([]:List Kid))++p0).take (Int.toNat x12)).drop (Int.toNat 0)))++([(Kid.mk p1 p2 p3 0 0)])).length+((((([]:List Kid))++p0).take (Int.toNat ((((([]:List Kid))++p0).length:Int)))).drop (Int.toNat x12)).length)*40≤140737488355328))).bind fun _=>some ((((([]:List Kid))++((((([]:List Kid))++p0).take (Int.toNat x12)).drop (Int.toNat 0)))++([(Kid.mk p1 p2 p3 0 0)]))++((((([]:List Kid))++p0).take (Int.toNat ((((([]:List Kid))++p0).length:Int)))).drop (Int.toNat x12)))
def spec_Hear_j4 (u:Nat) (c_spec_Hear_l3:Int→Int→Int→(List Kid)→Int→Option ((List Kid))) (p1:Int) (p2:Int) (p3:Int) (p0:List Kid) (x8:Int) (x11:Bool):Option ((List Kid)) :=
  bif x11 then (c_spec_Hear_l3 p1 p2 p3 p0 (bAdd .i64 x8 1)) else (spec_Hear_j2 u p1 p2 p3 p0 x8)
def spec_Hear_l3 (u:Nat) (k_spec_Hear_l3:Nat) (p1:Int) (p2:Int) (p3:Int) (p0:List Kid) (x8:Int):Option ((List Kid)):=match k_spec_Hear_l3 with
  | 0=>none
  | k_spec_Hear_l3+1=>bif decide (x8 < ((((([]:List Kid))++p0).length:Int))) then ((idx ((([]:List Kid))++p0) x8).bind fun y10=>spec_Hear_j4 u (fun z0 z1 z2 z3 z4=>spec_Hear_l3 u k_spec_Hear_l3 z0 z1 z2 z3 z4) p1 p2 p3 p0 x8 (decide (y10.fId≤p1))) else (spec_Hear_j4 u (fun z0 z1 z2 z3 z4=>spec_Hear_l3 u k_spec_Hear_l3 z0 z1 z2 z3 z4) p1 p2 p3 p0 x8 false)
def spec_Hear_j1 (u:Nat) (p0:List Kid) (p1:Int) (p2:Int) (p3:Int) (x5:Bool):Option ((List Kid)) :=
  bif x5 then (some ((([]:List Kid))++p0)) else ((spec_KidAt u p0 p1).bind fun r6=>bif decide (r6 < 0) then (spec_Hear_l3 u u p1 p2 p3 p0 0) else ((idx ((([]:List Kid))++p0) r6).bind fun y11=>(idx ((([]:List Kid))++p0) r6).bind fun y12=>some (((([]:List Kid))++p0).set (Int.toNat r6) ((Kid.mk y11.fId p2 (bOr .i64 y11.fDone p3) 0 y11.fSent)))))
def spec_Hear (u:Nat) (p0:List Kid) (p1:Int) (p2:Int) (p3:Int):Option ((List Kid)) :=
  (chk (decide (((([]:List Kid)).length+p0.length)*40≤140737488355328))).bind fun _=>(spec_l1In u p1 0 6).bind fun r2=>bif !r2 then (spec_Hear_j1 u p0 p1 p2 p3 true) else ((spec_SetOk u p2).bind fun r3=>bif !r3 then (spec_Hear_j1 u p0 p1 p2 p3 true) else ((spec_SetOk u p3).bind fun r4=>spec_Hear_j1 u p0 p1 p2 p3 (!r4)))
def spec_l15Kids_j1 (u:Nat) (x26:List Kid) (x27:List Int) (x28:Int) (x29:Int):Option ((List Kid)×l1Cur) :=
  some ((x26,(l1Cur.mk x27 x28 x29)))
def spec_l15Kids_j3 (u:Nat) (c_spec_l15Kids_l2:Int→(List Kid)→Int→(List Int)→Int→Int→Tree→Option ((List Kid)×l1Cur)) (p2:Int) (x22:List Kid) (x8:Int) (x23:List Int) (x24:Int) (x25:Int) (p1:Tree):Option ((List Kid)×l1Cur) :=
  c_spec_l15Kids_l2 p2 x22 (bSub .i64 x8 1) x23 x24 x25 p1
def spec_l15Kids_l2 (u:Nat) (k_spec_l15Kids_l2:Nat) (p2:Int) (x7:List Kid) (x8:Int) (x9:List Int) (x10:Int) (x11:Int) (p1:Tree):Option ((List Kid)×l1Cur):=match k_spec_l15Kids_l2 with
  | 0=>none
  | k_spec_l15Kids_l2+1=>bif decide (x8 > 0) then ((spec_l1Below u ((l1Cur.mk x9 x10 x11)) ((p1.fUp.length:Int))).bind fun r17=>bif r17.1 != p2 then ((spec_l1Below u r17.2 64).bind fun r18=>(chk (decide (0≤((p1.fUp.length:Int))))).bind fun _=>(spec_l1Below u r18.2 (bShl .i64 1 ((p1.fUp.length:Int)))).bind fun r20=>(spec_Hear u x7 r17.1 r18.1 r20.1).bind fun r21=>spec_l15Kids_j3 u (fun z0 z1 z2 z3 z4 z5 z6=>spec_l15Kids_l2 u k_spec_l15Kids_l2 z0 z1 z2 z3 z4 z5 z6) p2 r21 x8 r20.2.fB r20.2.fI r20.2.fH p1) else (spec_l15Kids_j3 u (fun z0 z1 z2 z3 z4 z5 z6=>spec_l15Kids_l2 u k_spec_l15Kids_l2 z0 z1 z2 z3 z4 z5 z6) p2 x7 x8 r17.2.fB r17.2.fI r17.2.fH p1)) else (spec_l15Kids_j1 u x7 x9 x10 x11)
def spec_l15Kids (u:Nat) (p0:l1Cur) (p1:Tree) (p2:Int):Option ((List Kid)×l1Cur) :=
  (spec_l1Below u p0 4).bind fun r1=>spec_l15Kids_l2 u u p2 (([]:List Kid)) r1.1 r1.2.fB r1.2.fI r1.2.fH p1
def spec_PathUp_j1 (u:Nat) (x11:List Int):Option ((List Int)) :=
  some x11
def spec_PathUp_j3 (u:Nat) (c_spec_PathUp_l2:Int→(List Int)→Tree→Option ((List Int))) (x3:Int) (x4:List Int) (x8:Bool) (p0:Tree):Option ((List Int)) :=
  bif x8 then ((chk (decide ((x4.length+(([x3]:List Int)).length)*8≤140737488355328))).bind fun _=>(idx p0.fUp x3).bind fun y10=>c_spec_PathUp_l2 y10 (x4++(([x3]:List Int))) p0) else (spec_PathUp_j1 u x4)
def spec_PathUp_l2 (u:Nat) (k_spec_PathUp_l2:Nat) (x3:Int) (x4:List Int) (p0:Tree):Option ((List Int)):=match k_spec_PathUp_l2 with
  | 0=>none
  | k_spec_PathUp_l2+1=>(spec_l1In u x3 0 (bSub .i64 ((p0.fUp.length:Int)) 1)).bind fun r7=>bif r7 then (spec_PathUp_j3 u (fun z0 z1 z2=>spec_PathUp_l2 u k_spec_PathUp_l2 z0 z1 z2) x3 x4 (decide (((x4.length:Int)) < ((p0.fUp.length:Int)))) p0) else (spec_PathUp_j3 u (fun z0 z1 z2=>spec_PathUp_l2 u k_spec_PathUp_l2 z0 z1 z2) x3 x4 false p0)
def spec_PathUp (u:Nat) (p0:Tree) (p1:Int):Option ((List Int)) :=
  spec_PathUp_l2 u u p1 (([]:List Int)) p0
def spec_FreshNode (u:Nat) (p0:Int):Option Node :=
  some ((Node.mk true p0 0 ((Manifest.mk 0 0 0 ([]))) ((Build.mk 0 ([]))) 0 ([]) 0))
def spec_l15Draw_j1 (u:Nat) (r2:Int×l1Cur) (x16:List Int) (x17:Int) (x18:Int) (x19:Int) (x20:List Int) (r10:Node) (r11:Int×l1Cur) (x21:Int) (r12:(List Kid)×l1Cur) (r1:Tree×l1Cur) (r3:Manifest×Build×(List Int)×l1Cur):Option (Tree×Int×Node×l1Cur) :=
  some ((r1.1,r2.1,(Node.mk r10.fOn r10.fBoss r11.1 r3.1 ((Build.mk x19 x20)) x21 r12.1 r10.fDrops),(l1Cur.mk x16 x17 x18)))
def spec_l15Draw (u:Nat) (p0:l1Cur):Option (Tree×Int×Node×l1Cur) :=
  (spec_l13Draw u p0).bind fun r1=>(spec_l1Below u r1.2 ((r1.1.fUp.length:Int))).bind fun r2=>(spec_l8Draw u r2.2).bind fun r3=>bif r2.1 == 0 then ((spec_RootNode u r3.1 r3.2.2.1).bind fun r4=>(spec_l15Kids u r3.2.2.2 r1.1 r2.1).bind fun r5=>some ((r1.1,r2.1,(Node.mk r4.fOn r4.fBoss r4.fQuiet r4.fMan r4.fBld r4.fPhase r5.1 r4.fDrops),r5.2))) else ((spec_l1Once u r3.2.2.2 8).bind fun r6=>bif r6.1 then (some ((r1.1,r2.1,(Node.mk false 0 0 ((Manifest.mk 0 0 0 ([]))) ((Build.mk 0 ([]))) 0 ([]) 0),r6.2))) else ((spec_PathUp u r1.1 r2.1).bind fun r7=>(spec_l1Below u r6.2 (bSub .i64 ((r7.length:Int)) 1)).bind fun r8=>(idx r7 (bAdd .i64 1 r8.1)).bind fun y9=>(spec_FreshNode u y9).bind fun r10=>(spec_l1Below u r8.2 3).bind fun r11=>(spec_l15Kids u r11.2 r1.1 r2.1).bind fun r12=>(spec_l1Below u r12.2 4).bind fun r13=>bif r13.1 == 0 then (some ((r1.1,r2.1,(Node.mk r10.fOn r10.fBoss r11.1 r10.fMan r10.fBld r10.fPhase r12.1 r10.fDrops),r13.2))) else (bif r13.1 == 1 then ((spec_l1Below u r13.2 4).bind fun r14=>(spec_BuildFrom u r3.1 r3.2.2.1).bind fun r15=>spec_l15Draw_j1 u r2 r14.2.fB r14.2.fI r14.2.fH r15.fHave r15.fBuf r10 r11 (bAdd .i64 2 r14.1) r12 r1 r3) else (spec_l15Draw_j1 u r2 r13.2.fB r13.2.fI r13.2.fH r3.2.1.fHave r3.2.1.fBuf r10 r11 1 r12 r1 r3))))
def spec_l6Any_j1 (u:Nat) (x8:Int) (x9:Int) (x10:Int) (x11:List Sum) (x12:List Int) (x13:Int) (x14:Int):Option (Manifest×l1Cur) :=
  some (((Manifest.mk x8 x9 x10 x11),(l1Cur.mk x12 x13 x14)))
def spec_l6Any (u:Nat) (p0:l1Cur):Option (Manifest×l1Cur) :=
  (spec_l6Draw u p0).bind fun r1=>(spec_l1Below u r1.2.2 10).bind fun r2=>bif r2.1 == 0 then ((spec_l1Int u r2.2 (([0,-1,1000000,1000001]:List Int))).bind fun r3=>spec_l6Any_j1 u r3.1 r1.1.fSize r1.1.fLen r1.1.fSums r3.2.fB r3.2.fI r3.2.fH) else (bif r2.1 == 1 then ((spec_l1Int u r2.2 (([0,1,7]:List Int))).bind fun r4=>spec_l6Any_j1 u r1.1.fGen r4.1 r1.1.fLen r1.1.fSums r4.2.fB r4.2.fI r4.2.fH) else (bif r2.1 == 2 then (spec_l6Any_j1 u r1.1.fGen r1.1.fSize (bAdd .i64 r1.1.fLen 1) r1.1.fSums r2.2.fB r2.2.fI r2.2.fH) else (bif r2.1 == 3 then ((chk (decide ((r1.1.fSums.length+([(Sum.mk 1 257)]).length)*16≤140737488355328))).bind fun _=>spec_l6Any_j1 u r1.1.fGen r1.1.fSize r1.1.fLen (r1.1.fSums++([(Sum.mk 1 257)])) r2.2.fB r2.2.fI r2.2.fH) else (bif r2.1 == 4 then (bif decide (((r1.1.fSums.length:Int)) > 0) then ((idx r1.1.fSums 0).bind fun y6=>(idx r1.1.fSums 0).bind fun y7=>spec_l6Any_j1 u r1.1.fGen r1.1.fSize r1.1.fLen (r1.1.fSums.set (Int.toNat 0) ((Sum.mk (bAdd .i64 y6.fW 1) y7.fS))) r2.2.fB r2.2.fI r2.2.fH) else (spec_l6Any_j1 u r1.1.fGen r1.1.fSize r1.1.fLen r1.1.fSums r2.2.fB r2.2.fI r2.2.fH)) else (spec_l6Any_j1 u r1.1.fGen r1.1.fSize r1.1.fLen r1.1.fSums r2.2.fB r2.2.fI r2.2.fH)))))
def spec_l5Set (u:Nat) (p0:l1Cur):Option (Int×l1Cur) :=
  (spec_l1Once u p0 3).bind fun r1=>bif r1.1 then ((spec_l1Int u r1.2 (([0,1,3,1099511627775,549755813888]:List Int))).bind fun r2=>some ((r2.1,r2.2))) else ((spec_l1Below u r1.2 65536).bind fun r3=>(spec_l1Below u r3.2 20).bind fun r4=>(chk (decide (0≤r4.1))).bind fun _=>some ((bShl .i64 r3.1 r4.1,r4.2)))
def spec_l5Any (u:Nat) (p0:l1Cur):Option (Int×l1Cur) :=
  (spec_l1Once u p0 8).bind fun r1=>bif r1.1 then ((spec_l1Int u r1.2 (([-1,1099511627776]:List Int))).bind fun r2=>some ((r2.1,r2.2))) else ((spec_l5Set u r1.2).bind fun r3=>some ((r3.1,r3.2)))
def spec_AgeAll_j1 (u:Nat) (x9:List Kid):Option ((List Kid)) :=
  some x9
def spec_AgeAll_j3 (u:Nat) (c_spec_AgeAll_l2:(List Kid)→Int→(List Kid)→Int→Option ((List Kid))) (p0:List Kid) (p1:Int) (x8:List Kid) (x4:Int):Option ((List Kid)) :=
  c_spec_AgeAll_l2 p0 p1 x8 (bAdd .i64 x4 1)
def spec_AgeAll_l2 (u:Nat) (k_spec_AgeAll_l2:Nat) (p0:List Kid) (p1:Int) (x3:List Kid) (x4:Int):Option ((List Kid)):=match k_spec_AgeAll_l2 with
  | 0=>none
  | k_spec_AgeAll_l2+1=>bif decide (x4 < ((p0.length:Int))) then ((idx p0 x4).bind fun y7=>bif decide (y7.fAge≥p1) then (spec_AgeAll_j3 u (fun z0 z1 z2 z3=>spec_AgeAll_l2 u k_spec_AgeAll_l2 z0 z1 z2 z3) p0 p1 x3 x4) else ((chk (decide ((x3.length+([(Kid.mk y7.fId y7.fWant y7.fDone (bAdd .i64 y7.fAge 1) 0)]).length)*40≤140737488355328))).bind fun _=>spec_AgeAll_j3 u (fun z0 z1 z2 z3=>spec_AgeAll_l2 u k_spec_AgeAll_l2 z0 z1 z2 z3) p0 p1 (x3++([(Kid.mk y7.fId y7.fWant y7.fDone (bAdd .i64 y7.fAge 1) 0)])) x4)) else (spec_AgeAll_j1 u x3)
def spec_AgeAll (u:Nat) (p0:List Kid) (p1:Int):Option ((List Kid)) :=
  spec_AgeAll_l2 u u p0 p1 (([]:List Kid)) 0
def spec_AgeAll_l2_f (u:Nat) (p0:List Kid) (p1:Int) (s:(List Kid)):Option ((List Kid)):=(spec_AgeAll_j1 u s)
def spec_AgeAll_l2_b (u:Nat) (p0:List Kid) (p1:Int) (y7:Kid) (i_:Nat) (s:(List Kid)) (k_:((List Kid))→Option ((List Kid))):Option ((List Kid)):=bif decide (y7.fAge≥p1) then (spec_AgeAll_j3 u (fun z0 z1 z2 z3=>k_ z2) p0 p1 s (i_:Int)) else ((chk (decide ((s.length+([(Kid.mk y7.fId y7.fWant y7.fDone (bAdd .i64 y7.fAge 1) 0)]).length)*40≤140737488355328))).bind fun _=>spec_AgeAll_j3 u (fun z0 z1 z2 z3=>k_ z2) p0 p1 (s++([(Kid.mk y7.fId y7.fWant y7.fDone (bAdd .i64 y7.fAge 1) 0)])) (i_:Int))
theorem spec_AgeAll_l2_w (u:Nat) (p0:List Kid) (p1:Int) (s:(List Kid)) (k:Nat) (hn:p0.length≤9223372036854775807) (hk:p0.length < k):spec_AgeAll_l2 u k p0 p1 s 0=Pu.wlist (spec_AgeAll_l2_f u p0 p1) (spec_AgeAll_l2_b u p0 p1) p0 0 s:=Pu.wlist_0 (fun (k:Nat) (s:(List Kid)) (i:Int)=>spec_AgeAll_l2 u k p0 p1 s i) hn (fun _ _ _=>rfl) s hk
def spec_MarkSent_j1 (u:Nat) (p2:Int) (p0:List Kid) (r2:Int) (x6:Bool):Option ((List Kid)) :=
  bif x6 then (some ((([]:List Kid))++p0)) else ((idx ((([]:List Kid))++p0) r2).bind fun y7=>(idx ((([]:List Kid))++p0) r2).bind fun y8=>some (((([]:List Kid))++p0).set (Int.toNat r2) ((Kid.mk y7.fId y7.fWant y7.fDone y7.fAge (bOr .i64 y7.fSent p2)))))
def spec_MarkSent (u:Nat) (p0:List Kid) (p1:Int) (p2:Int):Option ((List Kid)) :=
  (chk (decide (((([]:List Kid)).length+p0.length)*40≤140737488355328))).bind fun _=>(spec_KidAt u p0 p1).bind fun r2=>bif decide (r2 < 0) then (spec_MarkSent_j1 u p2 p0 r2 true) else ((spec_SetOk u p2).bind fun r3=>bif !r3 then (spec_MarkSent_j1 u p2 p0 r2 true) else ((idx p0 r2).bind fun y4=>(spec_SetOk u y4.fSent).bind fun r5=>spec_MarkSent_j1 u p2 p0 r2 (!r5)))
def spec_l14Draw_j1 (u:Nat) (x32:List Kid) (x33:List Int) (x34:Int) (x35:Int):Option ((List Kid)×l1Cur) :=
  some ((x32,(l1Cur.mk x33 x34 x35)))
def spec_l14Draw_j3 (u:Nat) (c_spec_l14Draw_l2:(List Kid)→Int→(List Int)→Int→Int→Option ((List Kid)×l1Cur)) (x28:List Kid) (x8:Int) (x29:List Int) (x30:Int) (x31:Int):Option ((List Kid)×l1Cur) :=
  c_spec_l14Draw_l2 x28 (bSub .i64 x8 1) x29 x30 x31
def spec_l14Draw_j4 (u:Nat) (c_spec_l14Draw_l2:(List Kid)→Int→(List Int)→Int→Int→Option ((List Kid)×l1Cur)) (x23:List Kid) (x8:Int) (r21:Bool×l1Cur):Option ((List Kid)×l1Cur) :=
  (spec_l1Once u r21.2 3).bind fun r24=>bif r24.1 then ((spec_l1Below u r24.2 7).bind fun r25=>(spec_l5Set u r25.2).bind fun r26=>(spec_MarkSent u x23 r25.1 r26.1).bind fun r27=>spec_l14Draw_j3 u c_spec_l14Draw_l2 r27 x8 r26.2.fB r26.2.fI r26.2.fH) else (spec_l14Draw_j3 u c_spec_l14Draw_l2 x23 x8 r24.2.fB r24.2.fI r24.2.fH)
def spec_l14Draw_l2 (u:Nat) (k_spec_l14Draw_l2:Nat) (x7:List Kid) (x8:Int) (x9:List Int) (x10:Int) (x11:Int):Option ((List Kid)×l1Cur):=match k_spec_l14Draw_l2 with
  | 0=>none
  | k_spec_l14Draw_l2+1=>bif decide (x8 > 0) then ((spec_l5Set u ((l1Cur.mk x9 x10 x11))).bind fun r17=>(spec_l1Below u r17.2 7).bind fun r18=>(spec_l1Below u r18.2 128).bind fun r19=>(spec_Hear u x7 r18.1 r17.1 r19.1).bind fun r20=>(spec_l1Once u r19.2 3).bind fun r21=>bif r21.1 then ((spec_AgeAll u r20 3).bind fun r22=>spec_l14Draw_j4 u (fun z0 z1 z2 z3 z4=>spec_l14Draw_l2 u k_spec_l14Draw_l2 z0 z1 z2 z3 z4) r22 x8 r21) else (spec_l14Draw_j4 u (fun z0 z1 z2 z3 z4=>spec_l14Draw_l2 u k_spec_l14Draw_l2 z0 z1 z2 z3 z4) r20 x8 r21)) else (spec_l14Draw_j1 u x7 x9 x10 x11)
def spec_l14Draw (u:Nat) (p0:l1Cur):Option ((List Kid)×l1Cur) :=
  (spec_l1Below u p0 5).bind fun r1=>spec_l14Draw_l2 u u (([]:List Kid)) r1.1 r1.2.fB r1.2.fI r1.2.fH
def spec_l14Any_j1 (u:Nat) (x8:List Kid) (x9:List Int) (x10:Int) (x11:Int):Option ((List Kid)×l1Cur) :=
  some ((x8,(l1Cur.mk x9 x10 x11)))
def spec_l14Any (u:Nat) (p0:l1Cur):Option ((List Kid)×l1Cur) :=
  (spec_l14Draw u p0).bind fun r1=>(spec_l1Below u r1.2 10).bind fun r2=>bif r2.1 == 0 then ((spec_l1Int u r2.2 (([-1,0,7]:List Int))).bind fun r3=>(spec_l5Any u r3.2).bind fun r4=>(chk (decide ((r1.1.length+([(Kid.mk r3.1 r4.1 0 0 0)]).length)*40≤140737488355328))).bind fun _=>spec_l14Any_j1 u (r1.1++([(Kid.mk r3.1 r4.1 0 0 0)])) r4.2.fB r4.2.fI r4.2.fH) else (bif r2.1 == 1 then ((chk (decide ((r1.1.length+r1.1.length)*40≤140737488355328))).bind fun _=>spec_l14Any_j1 u (r1.1++r1.1) r2.2.fB r2.2.fI r2.2.fH) else (bif r2.1 == 2 then (bif decide (((r1.1.length:Int)) > 0) then ((idx r1.1 0).bind fun y7=>spec_l14Any_j1 u (r1.1.set (Int.toNat 0) ((Kid.mk y7.fId y7.fWant y7.fDone y7.fAge (-1)))) r2.2.fB r2.2.fI r2.2.fH) else (spec_l14Any_j1 u r1.1 r2.2.fB r2.2.fI r2.2.fH)) else (spec_l14Any_j1 u r1.1 r2.2.fB r2.2.fI r2.2.fH)))
def spec_l15Any_j1 (u:Nat) (r1:Tree×Int×Node×l1Cur) (x8:List Int) (x9:Int) (x10:Int) (x11:Bool) (x12:Int) (x13:Int) (x14:Int) (x15:Int) (x16:Int) (x17:List Sum) (x18:Int) (x19:Int) (x20:List Kid):Option (Tree×Int×Node×l1Cur) :=
  some ((r1.1,r1.2.1,(Node.mk x11 x12 x13 ((Manifest.mk x14 x15 x16 x17)) ((Build.mk x18 r1.2.2.1.fBld.fBuf)) x19 x20 r1.2.2.1.fDrops),(l1Cur.mk x8 x9 x10)))
def spec_l15Any (u:Nat) (p0:l1Cur):Option (Tree×Int×Node×l1Cur) :=
  (spec_l15Draw u p0).bind fun r1=>(spec_l1Below u r1.2.2.2 14).bind fun r2=>bif r2.1 == 0 then ((spec_l1Below u r2.2 8).bind fun r3=>spec_l15Any_j1 u r1 r3.2.fB r3.2.fI r3.2.fH r1.2.2.1.fOn (bSub .i64 r3.1 1) r1.2.2.1.fQuiet r1.2.2.1.fMan.fGen r1.2.2.1.fMan.fSize r1.2.2.1.fMan.fLen r1.2.2.1.fMan.fSums r1.2.2.1.fBld.fHave r1.2.2.1.fPhase r1.2.2.1.fKids) else (bif r2.1 == 1 then ((spec_l1Below u r2.2 9).bind fun r4=>spec_l15Any_j1 u r1 r4.2.fB r4.2.fI r4.2.fH r1.2.2.1.fOn r1.2.2.1.fBoss r1.2.2.1.fQuiet r1.2.2.1.fMan.fGen r1.2.2.1.fMan.fSize r1.2.2.1.fMan.fLen r1.2.2.1.fMan.fSums r1.2.2.1.fBld.fHave (bSub .i64 r4.1 1) r1.2.2.1.fKids) else (bif r2.1 == 2 then ((spec_l6Any u r2.2).bind fun r5=>spec_l15Any_j1 u r1 r5.2.fB r5.2.fI r5.2.fH r1.2.2.1.fOn r1.2.2.1.fBoss r1.2.2.1.fQuiet r5.1.fGen r5.1.fSize r5.1.fLen r5.1.fSums r1.2.2.1.fBld.fHave r1.2.2.1.fPhase r1.2.2.1.fKids) else (bif r2.1 == 3 then ((spec_l5Any u r2.2).bind fun r6=>spec_l15Any_j1 u r1 r6.2.fB r6.2.fI r6.2.fH r1.2.2.1.fOn r1.2.2.1.fBoss r1.2.2.1.fQuiet r1.2.2.1.fMan.fGen r1.2.2.1.fMan.fSize r1.2.2.1.fMan.fLen r1.2.2.1.fMan.fSums r6.1 r1.2.2.1.fPhase r1.2.2.1.fKids) else (bif r2.1 == 4 then ((spec_l14Any u r2.2).bind fun r7=>spec_l15Any_j1 u r1 r7.2.fB r7.2.fI r7.2.fH r1.2.2.1.fOn r1.2.2.1.fBoss r1.2.2.1.fQuiet r1.2.2.1.fMan.fGen r1.2.2.1.fMan.fSize r1.2.2.1.fMan.fLen r1.2.2.1.fMan.fSums r1.2.2.1.fBld.fHave r1.2.2.1.fPhase r7.1) else (bif r2.1 == 5 then (spec_l15Any_j1 u r1 r2.2.fB r2.2.fI r2.2.fH (!r1.2.2.1.fOn) r1.2.2.1.fBoss r1.2.2.1.fQuiet r1.2.2.1.fMan.fGen r1.2.2.1.fMan.fSize r1.2.2.1.fMan.fLen r1.2.2.1.fMan.fSums r1.2.2.1.fBld.fHave r1.2.2.1.fPhase r1.2.2.1.fKids) else (bif r2.1 == 6 then (spec_l15Any_j1 u r1 r2.2.fB r2.2.fI r2.2.fH r1.2.2.1.fOn r1.2.2.1.fBoss (-1) r1.2.2.1.fMan.fGen r1.2.2.1.fMan.fSize r1.2.2.1.fMan.fLen r1.2.2.1.fMan.fSums r1.2.2.1.fBld.fHave r1.2.2.1.fPhase r1.2.2.1.fKids) else (spec_l15Any_j1 u r1 r2.2.fB r2.2.fI r2.2.fH r1.2.2.1.fOn r1.2.2.1.fBoss r1.2.2.1.fQuiet r1.2.2.1.fMan.fGen r1.2.2.1.fMan.fSize r1.2.2.1.fMan.fLen r1.2.2.1.fMan.fSums r1.2.2.1.fBld.fHave r1.2.2.1.fPhase r1.2.2.1.fKids)))))))
def spec_DiskNew_j1 (u:Nat) (p0:Int) (p1:List Int) (x2:Bool):Option Disk :=
  bif x2 then (some ((Disk.mk ([]) ([]) ((Record.mk 0 0 0)) ([])))) else ((chk (decide (((([]:List Int)).length+p1.length)*1≤140737488355328))).bind fun _=>some ((Disk.mk ((([]:List Int))++p1) ([]) ((Record.mk p0 0 ((p1.length:Int)))) ([]))))
def spec_DiskNew (u:Nat) (p0:Int) (p1:List Int):Option Disk :=
  (spec_l1In u p0 0 1000000).bind fun r1=>bif !r1 then (spec_DiskNew_j1 u p0 p1 true) else (spec_DiskNew_j1 u p0 p1 (decide (((p1.length:Int)) > 240)))
def spec_l18Draw_j1 (u:Nat) (x5:Int) (x6:List Int) (x7:Bool) (x8:Int) (x9:Int) (x10:Int) (x11:Int) (x12:Int) (x13:List Sum) (x14:Int) (x15:List Int) (x16:Int) (x17:List Kid) (x18:Int) (x19:List Int) (x20:Int) (x21:Int):Option (l1Cur×Tree×Int×Node×Disk) :=
  (spec_l3Bytes u ((l1Cur.mk x19 x20 x21)) 9).bind fun r22=>(spec_DiskNew u 0 r22.1).bind fun r23=>some ((r22.2,(Tree.mk x6),x5,(Node.mk x7 x8 x9 ((Manifest.mk x10 x11 x12 x13)) ((Build.mk x14 x15)) x16 x17 x18),r23))
def spec_l18Draw (u:Nat) (p0:List Int):Option (l1Cur×Tree×Int×Node×Disk) :=
  (spec_l1New u p0).bind fun r1=>(spec_l15Draw u r1).bind fun r2=>(spec_l1Once u r2.2.2.2 8).bind fun r3=>bif r3.1 then ((spec_l15Any u r3.2).bind fun r4=>spec_l18Draw_j1 u r4.2.1 r4.1.fUp r4.2.2.1.fOn r4.2.2.1.fBoss r4.2.2.1.fQuiet r4.2.2.1.fMan.fGen r4.2.2.1.fMan.fSize r4.2.2.1.fMan.fLen r4.2.2.1.fMan.fSums r4.2.2.1.fBld.fHave r4.2.2.1.fBld.fBuf r4.2.2.1.fPhase r4.2.2.1.fKids r4.2.2.1.fDrops r4.2.2.2.fB r4.2.2.2.fI r4.2.2.2.fH) else (spec_l18Draw_j1 u r2.2.1 r2.1.fUp r2.2.2.1.fOn r2.2.2.1.fBoss r2.2.2.1.fQuiet r2.2.2.1.fMan.fGen r2.2.2.1.fMan.fSize r2.2.2.1.fMan.fLen r2.2.2.1.fMan.fSums r2.2.2.1.fBld.fHave r2.2.2.1.fBld.fBuf r2.2.2.1.fPhase r2.2.2.1.fKids r2.2.2.1.fDrops r3.2.fB r3.2.fI r3.2.fH)
def spec_l19Conf (u:Nat) (p0:l1Cur):Option (Conf×l1Cur) :=
  (spec_l1Below u p0 5).bind fun r1=>(spec_l1Int u r1.2 (([1,2,3,8,40]:List Int))).bind fun r2=>(spec_l1Below u r2.2 3).bind fun r3=>(spec_l1Below u r3.2 3).bind fun r4=>some (((Conf.mk (bAdd .i64 2 r1.1) r2.1 (bAdd .i64 1 r3.1) (bAdd .i64 2 r4.1)),r4.2))
def spec_l19Any_j1 (u:Nat) (x7:Int) (x8:Int) (x9:Int) (x10:Int) (x11:List Int) (x12:Int) (x13:Int):Option (Conf×l1Cur) :=
  some (((Conf.mk x7 x8 x9 x10),(l1Cur.mk x11 x12 x13)))
def spec_l19Any (u:Nat) (p0:l1Cur):Option (Conf×l1Cur) :=
  (spec_l19Conf u p0).bind fun r1=>(spec_l1Below u r1.2 12).bind fun r2=>bif r2.1 == 0 then ((spec_l1Int u r2.2 (([1,6,7]:List Int))).bind fun r3=>spec_l19Any_j1 u r3.1 r1.1.fWindow r1.1.fSuspect r1.1.fForget r3.2.fB r3.2.fI r3.2.fH) else (bif r2.1 == 1 then ((spec_l1Int u r2.2 (([0,40,41]:List Int))).bind fun r4=>spec_l19Any_j1 u r1.1.fSize r4.1 r1.1.fSuspect r1.1.fForget r4.2.fB r4.2.fI r4.2.fH) else (bif r2.1 == 2 then ((spec_l1Int u r2.2 (([0,5,6]:List Int))).bind fun r5=>spec_l19Any_j1 u r1.1.fSize r1.1.fWindow r5.1 r1.1.fForget r5.2.fB r5.2.fI r5.2.fH) else (bif r2.1 == 3 then ((spec_l1Int u r2.2 (([1,8,9]:List Int))).bind fun r6=>spec_l19Any_j1 u r1.1.fSize r1.1.fWindow r1.1.fSuspect r6.1 r6.2.fB r6.2.fI r6.2.fH) else (spec_l19Any_j1 u r1.1.fSize r1.1.fWindow r1.1.fSuspect r1.1.fForget r2.2.fB r2.2.fI r2.2.fH))))
def spec_FullSet (u:Nat) (p0:Int):Option Int :=
  (spec_l1In u p0 0 40).bind fun r1=>bif !r1 then (some 0) else ((chk (decide (0≤p0))).bind fun _=>some (bSub .i64 (bShl .i64 1 p0) 1))
def spec_AllParts (u:Nat) (p0:Manifest):Option Int :=
  (spec_FullSet u ((p0.fSums.length:Int))).bind fun r1=>some r1
def spec_Without_j1 (u:Nat) (p0:Int) (p1:Int) (x3:Bool):Option Int :=
  bif x3 then (some 0) else (some (bAndNot .i64 p0 p1))
def spec_Without (u:Nat) (p0:Int) (p1:Int):Option Int :=
  (spec_SetOk u p0).bind fun r1=>bif !r1 then (spec_Without_j1 u p0 p1 true) else ((spec_SetOk u p1).bind fun r2=>spec_Without_j1 u p0 p1 (!r2))
def spec_l8Zero_j1 (u:Nat)  : Option Bool :=
  some true
def spec_l8Zero_l2 (u:Nat) (k_spec_l8Zero_l2:Nat) (p0:List Int) (x2:Int):Option Bool:=match k_spec_l8Zero_l2 with
  | 0=>none
  | k_spec_l8Zero_l2+1=>bif decide (x2 < ((p0.length:Int))) then ((idx p0 x2).bind fun y4=>bif y4 != 0 then (some false) else ((fun z0 z1=>spec_l8Zero_l2 u k_spec_l8Zero_l2 z0 z1) p0 (bAdd .i64 x2 1))) else (spec_l8Zero_j1 u)
def spec_l8Zero (u:Nat) (p0:List Int):Option Bool :=
  spec_l8Zero_l2 u u p0 0
def spec_l8Zero_l2_f (u:Nat) (p0:List Int) (s:Unit):Option Bool:=(spec_l8Zero_j1 u)
def spec_l8Zero_l2_b (u:Nat) (p0:List Int) (y4:Int) (i_:Nat) (s:Unit) (k_:Unit→Option Bool):Option Bool:=bif y4 != 0 then (some false) else ((fun z0 z1=>k_ ()) p0 (bAdd .i64 (i_:Int) 1))
theorem spec_l8Zero_l2_w (u:Nat) (p0:List Int) (s:Unit) (k:Nat) (hn:p0.length≤9223372036854775807) (hk:p0.length < k):spec_l8Zero_l2 u k p0 0=Pu.wlist (spec_l8Zero_l2_f u p0) (spec_l8Zero_l2_b u p0) p0 0 s:=Pu.wlist_0 (fun (k:Nat) (s:Unit) (i:Int)=>spec_l8Zero_l2 u k p0 i) hn (fun _ _ _=>rfl) s hk
def spec_BuildOk_j2 (u:Nat)  : Option Bool :=
  some true
def spec_BuildOk_j4 (u:Nat) (c_spec_BuildOk_l3:Int→Manifest→Build→Option Bool) (x7:Int) (x18:Bool) (p0:Manifest) (p1:Build):Option Bool :=
  bif x18 then (some false) else (c_spec_BuildOk_l3 (bAdd .i64 x7 1) p0 p1)
def spec_BuildOk_l3 (u:Nat) (k_spec_BuildOk_l3:Nat) (x7:Int) (p0:Manifest) (p1:Build):Option Bool:=match k_spec_BuildOk_l3 with
  | 0=>none
  | k_spec_BuildOk_l3+1=>bif decide (x7 < ((p0.fSums.length:Int))) then ((spec_SpanOf u p0.fSize p0.fLen x7).bind fun r9=>(chk (sliceOK r9.1 (bAdd .i64 r9.1 r9.2) p1.fBuf.length)).bind fun _=>(spec_InSet u p1.fHave x7).bind fun r11=>bif r11 then ((spec_SumOf u ((p1.fBuf.take (Int.toNat (bAdd .i64 r9.1 r9.2))).drop (Int.toNat r9.1))).bind fun r12=>(idx p0.fSums x7).bind fun y13=>bif !([r12.fW,r12.fS] == [y13.fW,y13.fS]) then (spec_BuildOk_j4 u (fun z0 z1 z2=>spec_BuildOk_l3 u k_spec_BuildOk_l3 z0 z1 z2) x7 true p0 p1) else ((spec_InSet u p1.fHave x7).bind fun r14=>bif !r14 then ((spec_l8Zero u ((p1.fBuf.take (Int.toNat (bAdd .i64 r9.1 r9.2))).drop (Int.toNat r9.1))).bind fun r15=>spec_BuildOk_j4 u (fun z0 z1 z2=>spec_BuildOk_l3 u k_spec_BuildOk_l3 z0 z1 z2) x7 (!r15) p0 p1) else (spec_BuildOk_j4 u (fun z0 z1 z2=>spec_BuildOk_l3 u k_spec_BuildOk_l3 z0 z1 z2) x7 false p0 p1))) else ((spec_InSet u p1.fHave x7).bind fun r16=>bif !r16 then ((spec_l8Zero u ((p1.fBuf.take (Int.toNat (bAdd .i64 r9.1 r9.2))).drop (Int.toNat r9.1))).bind fun r17=>spec_BuildOk_j4 u (fun z0 z1 z2=>spec_BuildOk_l3 u k_spec_BuildOk_l3 z0 z1 z2) x7 (!r17) p0 p1) else (spec_BuildOk_j4 u (fun z0 z1 z2=>spec_BuildOk_l3 u k_spec_BuildOk_l3 z0 z1 z2) x7 false p0 p1))) else (spec_BuildOk_j2 u)
def spec_BuildOk_j1 (u:Nat) (x5:Bool) (p0:Manifest) (p1:Build):Option Bool :=
  bif x5 then (some false) else (spec_BuildOk_l3 u u 0 p0 p1)
def spec_BuildOk (u:Nat) (p0:Manifest) (p1:Build):Option Bool :=
  (spec_ManOk u p0).bind fun r1=>bif !r1 then (spec_BuildOk_j1 u true p0 p1) else ((spec_SetOk u p1.fHave).bind fun r2=>bif !r2 then (spec_BuildOk_j1 u true p0 p1) else ((spec_AllParts u p0).bind fun r3=>(spec_Without u p1.fHave r3).bind fun r4=>bif r4 != 0 then (spec_BuildOk_j1 u true p0 p1) else (spec_BuildOk_j1 u (((p1.fBuf.length:Int)) != p0.fLen) p0 p1)))
def spec_BuildOk_l3_f (u:Nat) (p0:Manifest) (p1:Build) (s:Unit):Option Bool:=(spec_BuildOk_j2 u)
def spec_BuildOk_l3_b (u:Nat) (p0:Manifest) (p1:Build) (i_:Nat) (s:Unit) (k_:Unit→Option Bool):Option Bool:=(spec_SpanOf u p0.fSize p0.fLen (i_:Int)).bind fun r9=>(chk (sliceOK r9.1 (bAdd .i64 r9.1 r9.2) p1.fBuf.length)).bind fun _=>(spec_InSet u p1.fHave (i_:Int)).bind fun r11=>bif r11 then ((spec_SumOf u ((p1.fBuf.take (Int.toNat (bAdd .i64 r9.1 r9.2))).drop (Int.toNat r9.1))).bind fun r12=>(idx p0.fSums (i_:Int)).bind fun y13=>bif !([r12.fW,r12.fS] == [y13.fW,y13.fS]) then (spec_BuildOk_j4 u (fun z0 z1 z2=>k_ ()) (i_:Int) true p0 p1) else ((spec_InSet u p1.fHave (i_:Int)).bind fun r14=>bif !r14 then ((spec_l8Zero u ((p1.fBuf.take (Int.toNat (bAdd .i64 r9.1 r9.2))).drop (Int.toNat r9.1))).bind fun r15=>spec_BuildOk_j4 u (fun z0 z1 z2=>k_ ()) (i_:Int) (!r15) p0 p1) else (spec_BuildOk_j4 u (fun z0 z1 z2=>k_ ()) (i_:Int) false p0 p1))) else ((spec_InSet u p1.fHave (i_:Int)).bind fun r16=>bif !r16 then ((spec_l8Zero u ((p1.fBuf.take (Int.toNat (bAdd .i64 r9.1 r9.2))).drop (Int.toNat r9.1))).bind fun r17=>spec_BuildOk_j4 u (fun z0 z1 z2=>k_ ()) (i_:Int) (!r17) p0 p1) else (spec_BuildOk_j4 u (fun z0 z1 z2=>k_ ()) (i_:Int) false p0 p1))
theorem spec_BuildOk_l3_w (u:Nat) (p0:Manifest) (p1:Build) (s:Unit) (k:Nat) (hn:(((p0.fSums.length:Int)):Int)≤9223372036854775807) (hk:Int.toNat (((p0.fSums.length:Int))) < k):spec_BuildOk_l3 u k 0 p0 p1=Pu.walk (spec_BuildOk_l3_f u p0 p1) (spec_BuildOk_l3_b u p0 p1) (Int.toNat (((p0.fSums.length:Int)))) 0 s:=Pu.walk_0 (fun (k:Nat) (s:Unit) (i:Int)=>spec_BuildOk_l3 u k i p0 p1) hn (fun _ _ _=>rfl) s hk
def spec_Missing (u:Nat) (p0:Manifest) (p1:Build):Option Int :=
  (spec_AllParts u p0).bind fun r1=>(spec_Without u r1 p1.fHave).bind fun r2=>some r2
def spec_Whole (u:Nat) (p0:Manifest) (p1:Build):Option Bool :=
  bif p0.fGen != 0 then ((spec_BuildOk u p0 p1).bind fun r1=>bif r1 then ((spec_Missing u p0 p1).bind fun r2=>some (r2 == 0)) else (some false)) else (some false)
def spec_l9CopyPut (u:Nat) (p0:Put):Option Put :=
  (chk (decide (((([]:List Int)).length+p0.fB.length)*1≤140737488355328))).bind fun _=>some ((Put.mk p0.fWhat p0.fAt ((([]:List Int))++p0.fB) p0.fR))
def spec_l9Copy_j1 (u:Nat) (p0:Disk) (x11:List Put):Option Disk :=
  some ((Disk.mk ((([]:List Int))++p0.fA) ((([]:List Int))++p0.fB) p0.fR x11))
def spec_l9Copy_l2 (u:Nat) (k_spec_l9Copy_l2:Nat) (x5:Int) (p0:Disk) (x6:List Put):Option Disk:=match k_spec_l9Copy_l2 with
  | 0=>none
  | k_spec_l9Copy_l2+1=>bif decide (x5 < ((p0.fP.length:Int))) then ((idx p0.fP x5).bind fun y9=>(spec_l9CopyPut u y9).bind fun r10=>(chk (decide ((x6.length+([r10]).length)*64≤140737488355328))).bind fun _=>(fun z0 z1 z2=>spec_l9Copy_l2 u k_spec_l9Copy_l2 z0 z1 z2) (bAdd .i64 x5 1) p0 (x6++([r10]))) else (spec_l9Copy_j1 u p0 x6)
def spec_l9Copy (u:Nat) (p0:Disk):Option Disk :=
  (chk (decide (((([]:List Int)).length+p0.fA.length)*1≤140737488355328))).bind fun _=>(chk (decide (((([]:List Int)).length+p0.fB.length)*1≤140737488355328))).bind fun _=>spec_l9Copy_l2 u u 0 p0 (([]:List Put))
def spec_l9Copy_l2_f (u:Nat) (p0:Disk) (s:(List Put)):Option Disk:=(spec_l9Copy_j1 u p0 s)
def spec_l9Copy_l2_b (u:Nat) (p0:Disk) (y9:Put) (i_:Nat) (s:(List Put)) (k_:((List Put))→Option Disk):Option Disk:=(spec_l9CopyPut u y9).bind fun r10=>(chk (decide ((s.length+([r10]).length)*64≤140737488355328))).bind fun _=>(fun z0 z1 z2=>k_ z2) (bAdd .i64 (i_:Int) 1) p0 (s++([r10]))
theorem spec_l9Copy_l2_w (u:Nat) (p0:Disk) (s:(List Put)) (k:Nat) (hn:p0.fP.length≤9223372036854775807) (hk:p0.fP.length < k):spec_l9Copy_l2 u k 0 p0 s=Pu.wlist (spec_l9Copy_l2_f u p0) (spec_l9Copy_l2_b u p0) p0.fP 0 s:=Pu.wlist_0 (fun (k:Nat) (s:(List Put)) (i:Int)=>spec_l9Copy_l2 u k i p0 s) hn (fun _ _ _=>rfl) s hk
def spec_l9Record (u:Nat) (p0:Record):Option Bool :=
  (spec_l1In u p0.fGen 0 1000000).bind fun r1=>bif r1 then ((spec_l1In u p0.fSlot 0 1).bind fun r2=>bif r2 then ((spec_l1In u p0.fLen 0 240).bind fun r3=>some r3) else (some false)) else (some false)
def spec_l9Slot (u:Nat) (p0:Disk) (p1:Int):Option ((List Int)) :=
  bif p1 == 1 then (some p0.fB) else (some p0.fA)
def spec_l9Put (u:Nat) (p0:Put):Option Bool :=
  bif p0.fWhat == 2 then (bif p0.fAt == 0 then (bif ((p0.fB.length:Int)) == 0 then ((spec_l9Record u p0.fR).bind fun r1=>some r1) else (some false)) else (some false)) else ((spec_l1In u p0.fWhat 0 1).bind fun r2=>bif r2 then ((spec_l1In u p0.fAt 0 240).bind fun r3=>bif r3 then (bif decide (((p0.fB.length:Int))≤(bSub .i64 240 p0.fAt)) then (some ([p0.fR.fGen,p0.fR.fSlot,p0.fR.fLen] == [0,0,0])) else (some false)) else (some false)) else (some false))
def spec_DiskOk_j2 (u:Nat)  : Option Bool :=
  some true
def spec_DiskOk_l3 (u:Nat) (k_spec_DiskOk_l3:Nat) (x5:Int) (p0:Disk):Option Bool:=match k_spec_DiskOk_l3 with
  | 0=>none
  | k_spec_DiskOk_l3+1=>bif decide (x5 < ((p0.fP.length:Int))) then ((idx p0.fP x5).bind fun y7=>(spec_l9Put u y7).bind fun r8=>bif !r8 then (some false) else ((fun z0 z1=>spec_DiskOk_l3 u k_spec_DiskOk_l3 z0 z1) (bAdd .i64 x5 1) p0)) else (spec_DiskOk_j2 u)
def spec_DiskOk_j1 (u:Nat) (x3:Bool) (p0:Disk):Option Bool :=
  bif x3 then (some false) else (spec_DiskOk_l3 u u 0 p0)
def spec_DiskOk (u:Nat) (p0:Disk):Option Bool :=
  bif decide (((p0.fA.length:Int)) > 240) then (spec_DiskOk_j1 u true p0) else (bif decide (((p0.fB.length:Int)) > 240) then (spec_DiskOk_j1 u true p0) else ((spec_l9Record u p0.fR).bind fun r1=>bif !r1 then (spec_DiskOk_j1 u true p0) else ((spec_l9Slot u p0 p0.fR.fSlot).bind fun r2=>bif decide (p0.fR.fLen > ((r2.length:Int))) then (spec_DiskOk_j1 u true p0) else (spec_DiskOk_j1 u (decide (((p0.fP.length:Int)) > 200)) p0))))
def spec_DiskOk_l3_f (u:Nat) (p0:Disk) (s:Unit):Option Bool:=(spec_DiskOk_j2 u)
def spec_DiskOk_l3_b (u:Nat) (p0:Disk) (y7:Put) (i_:Nat) (s:Unit) (k_:Unit→Option Bool):Option Bool:=(spec_l9Put u y7).bind fun r8=>bif !r8 then (some false) else ((fun z0 z1=>k_ ()) (bAdd .i64 (i_:Int) 1) p0)
theorem spec_DiskOk_l3_w (u:Nat) (p0:Disk) (s:Unit) (k:Nat) (hn:p0.fP.length≤9223372036854775807) (hk:p0.fP.length < k):spec_DiskOk_l3 u k 0 p0=Pu.wlist (spec_DiskOk_l3_f u p0) (spec_DiskOk_l3_b u p0) p0.fP 0 s:=Pu.wlist_0 (fun (k:Nat) (s:Unit) (i:Int)=>spec_DiskOk_l3 u k i p0) hn (fun _ _ _=>rfl) s hk
def spec_Spare (u:Nat) (p0:Disk):Option Int :=
  some (bSub .i64 1 p0.fR.fSlot)
def spec_l9Add (u:Nat) (p0:Disk) (p1:Put):Option (Disk×Bool) :=
  (spec_l9Copy u p0).bind fun r1=>(spec_l9CopyPut u p1).bind fun r2=>(chk (decide ((r1.fP.length+([r2]).length)*64≤140737488355328))).bind fun _=>(spec_DiskOk u ((Disk.mk r1.fA r1.fB r1.fR (r1.fP++([r2]))))).bind fun r4=>bif !r4 then ((spec_l9Copy u p0).bind fun r5=>some ((r5,false))) else (some (((Disk.mk r1.fA r1.fB r1.fR (r1.fP++([r2]))),true)))
def spec_PutBytes (u:Nat) (p0:Disk) (p1:Int) (p2:Int) (p3:List Int):Option (Disk×Bool) :=
  (spec_l1In u p1 0 1).bind fun r1=>bif !r1 then ((spec_l9Copy u p0).bind fun r2=>some ((r2,false))) else ((spec_l9Add u p0 ((Put.mk p1 p2 p3 ((Record.mk 0 0 0))))).bind fun r3=>some ((r3.1,r3.2)))
def spec_StageAll_j2 (u:Nat) (x32:List Int) (x33:List Int) (x34:Int) (x35:Int) (x36:Int) (x37:List Put):Option (Disk×Bool) :=
  some (((Disk.mk x32 x33 ((Record.mk x34 x35 x36)) x37),true))
def spec_StageAll_l3 (u:Nat) (k_spec_StageAll_l3:Nat) (p1:List Int) (p2:Int) (x12:Int) (x13:List Int) (x14:List Int) (x15:Int) (x16:Int) (x17:Int) (x18:List Put) (p0:Disk):Option (Disk×Bool):=match k_spec_StageAll_l3 with
  | 0=>none
  | k_spec_StageAll_l3+1=>(spec_Blocks u p2 ((p1.length:Int))).bind fun r26=>bif decide (x12 < r26) then ((spec_SpanOf u p2 ((p1.length:Int)) x12).bind fun r27=>(spec_BlockAt u p1 p2 x12).bind fun r28=>(spec_Spare u p0).bind fun r29=>(spec_PutBytes u ((Disk.mk x13 x14 ((Record.mk x15 x16 x17)) x18)) r29 r27.1 r28.1).bind fun r30=>bif !r30.2 then ((spec_l9Copy u p0).bind fun r31=>some ((r31,false))) else ((fun z0 z1 z2 z3 z4 z5 z6 z7 z8 z9=>spec_StageAll_l3 u k_spec_StageAll_l3 z0 z1 z2 z3 z4 z5 z6 z7 z8 z9) p1 p2 (bAdd .i64 x12 1) r30.1.fA r30.1.fB r30.1.fR.fGen r30.1.fR.fSlot r30.1.fR.fLen r30.1.fP p0)) else (spec_StageAll_j2 u x13 x14 x15 x16 x17 x18)
def spec_StageAll_j1 (u:Nat) (p1:List Int) (p2:Int) (x4:Bool) (r1:Disk) (p0:Disk):Option (Disk×Bool) :=
  bif x4 then (some ((r1,false))) else (spec_StageAll_l3 u u p1 p2 0 r1.fA r1.fB r1.fR.fGen r1.fR.fSlot r1.fR.fLen r1.fP p0)
def spec_StageAll (u:Nat) (p0:Disk) (p1:List Int) (p2:Int):Option (Disk×Bool) :=
  (spec_l9Copy u p0).bind fun r1=>(spec_DiskOk u p0).bind fun r2=>bif !r2 then (spec_StageAll_j1 u p1 p2 true r1 p0) else (bif decide (((p0.fP.length:Int)) > 0) then (spec_StageAll_j1 u p1 p2 true r1 p0) else ((spec_SizeOk u p2 ((p1.length:Int))).bind fun r3=>spec_StageAll_j1 u p1 p2 (!r3) r1 p0))
def spec_l9Lay_j2 (u:Nat) (x14:List Int):Option ((List Int)) :=
  some x14
def spec_l9Lay_l3 (u:Nat) (k_spec_l9Lay_l3:Nat) (p1:Int) (p2:List Int) (x8:List Int) (x9:Int):Option ((List Int)):=match k_spec_l9Lay_l3 with
  | 0=>none
  | k_spec_l9Lay_l3+1=>bif decide (x9 < ((p2.length:Int))) then ((idx p2 x9).bind fun y12=>(idx x8 (bAdd .i64 p1 x9)).bind fun y13=>(fun z0 z1 z2 z3=>spec_l9Lay_l3 u k_spec_l9Lay_l3 z0 z1 z2 z3) p1 p2 (x8.set (Int.toNat (bAdd .i64 p1 x9)) y12) (bAdd .i64 x9 1)) else (spec_l9Lay_j2 u x8)
def spec_l9Lay_j1 (u:Nat) (p1:Int) (p2:List Int) (x5:List Int):Option ((List Int)) :=
  spec_l9Lay_l3 u u p1 p2 x5 0
def spec_l9Lay_l4 (u:Nat) (k_spec_l9Lay_l4:Nat) (p1:Int) (p2:List Int) (x3:List Int):Option ((List Int)):=match k_spec_l9Lay_l4 with
  | 0=>none
  | k_spec_l9Lay_l4+1=>bif decide (((x3.length:Int)) < (bAdd .i64 p1 ((p2.length:Int)))) then ((chk (decide ((x3.length+(([0]:List Int)).length)*1≤140737488355328))).bind fun _=>(fun z0 z1 z2=>spec_l9Lay_l4 u k_spec_l9Lay_l4 z0 z1 z2) p1 p2 (x3++(([0]:List Int)))) else (spec_l9Lay_j1 u p1 p2 x3)
def spec_l9Lay (u:Nat) (p0:List Int) (p1:Int) (p2:List Int):Option ((List Int)) :=
  (chk (decide (((([]:List Int)).length+p0.length)*1≤140737488355328))).bind fun _=>spec_l9Lay_l4 u u p1 p2 ((([]:List Int))++p0)
def spec_l9Lay_l3_f (u:Nat) (p1:Int) (p2:List Int) (s:(List Int)):Option ((List Int)):=(spec_l9Lay_j2 u s)
def spec_l9Lay_l3_b (u:Nat) (p1:Int) (p2:List Int) (y12:Int) (i_:Nat) (s:(List Int)) (k_:((List Int))→Option ((List Int))):Option ((List Int)):=(idx s (bAdd .i64 p1 (i_:Int))).bind fun y13=>(fun z0 z1 z2 z3=>k_ z2) p1 p2 (s.set (Int.toNat (bAdd .i64 p1 (i_:Int))) y12) (bAdd .i64 (i_:Int) 1)
theorem spec_l9Lay_l3_w (u:Nat) (p1:Int) (p2:List Int) (s:(List Int)) (k:Nat) (hn:p2.length≤9223372036854775807) (hk:p2.length < k):spec_l9Lay_l3 u k p1 p2 s 0=Pu.wlist (spec_l9Lay_l3_f u p1 p2) (spec_l9Lay_l3_b u p1 p2) p2 0 s:=Pu.wlist_0 (fun (k:Nat) (s:(List Int)) (i:Int)=>spec_l9Lay_l3 u k p1 p2 s i) hn (fun _ _ _=>rfl) s hk
def spec_OnePut_j1 (u:Nat) (x5:List Int) (x6:List Int) (x7:Int) (x8:Int) (x9:Int) (r1:Disk):Option Disk :=
  some ((Disk.mk x5 x6 ((Record.mk x7 x8 x9)) r1.fP))
def spec_OnePut (u:Nat) (p0:Disk) (p1:Put):Option Disk :=
  (spec_l9Copy u p0).bind fun r1=>(spec_l9Put u p1).bind fun r2=>bif !r2 then (spec_OnePut_j1 u r1.fA r1.fB r1.fR.fGen r1.fR.fSlot r1.fR.fLen r1) else (bif p1.fWhat == 0 then ((spec_l9Lay u p0.fA p1.fAt p1.fB).bind fun r3=>spec_OnePut_j1 u r3 r1.fB r1.fR.fGen r1.fR.fSlot r1.fR.fLen r1) else (bif p1.fWhat == 1 then ((spec_l9Lay u p0.fB p1.fAt p1.fB).bind fun r4=>spec_OnePut_j1 u r1.fA r4 r1.fR.fGen r1.fR.fSlot r1.fR.fLen r1) else (spec_OnePut_j1 u r1.fA r1.fB p1.fR.fGen p1.fR.fSlot p1.fR.fLen r1)))
def spec_Sure_j1 (u:Nat) (x26:List Int) (x27:List Int) (x28:Int) (x29:Int) (x30:Int) (x31:List Put):Option Disk :=
  some ((Disk.mk x26 x27 ((Record.mk x28 x29 x30)) (([]:List Put))))
def spec_Sure_l2 (u:Nat) (k_spec_Sure_l2:Nat) (x10:Int) (p0:Disk) (x11:List Int) (x12:List Int) (x13:Int) (x14:Int) (x15:Int) (x16:List Put):Option Disk:=match k_spec_Sure_l2 with
  | 0=>none
  | k_spec_Sure_l2+1=>bif decide (x10 < ((p0.fP.length:Int))) then ((idx p0.fP x10).bind fun y24=>(spec_OnePut u ((Disk.mk x11 x12 ((Record.mk x13 x14 x15)) x16)) y24).bind fun r25=>(fun z0 z1 z2 z3 z4 z5 z6 z7=>spec_Sure_l2 u k_spec_Sure_l2 z0 z1 z2 z3 z4 z5 z6 z7) (bAdd .i64 x10 1) p0 r25.fA r25.fB r25.fR.fGen r25.fR.fSlot r25.fR.fLen r25.fP) else (spec_Sure_j1 u x11 x12 x13 x14 x15 x16)
def spec_Sure (u:Nat) (p0:Disk):Option Disk :=
  (spec_l9Copy u p0).bind fun r1=>(spec_DiskOk u p0).bind fun r2=>bif !r2 then (some r1) else (spec_Sure_l2 u u 0 p0 r1.fA r1.fB r1.fR.fGen r1.fR.fSlot r1.fR.fLen r1.fP)
def spec_Sure_l2_f (u:Nat) (p0:Disk) (s:(List Int)×(List Int)×Int×Int×Int×(List Put)):Option Disk:=(spec_Sure_j1 u s.1 s.2.1 s.2.2.1 s.2.2.2.1 s.2.2.2.2.1 s.2.2.2.2.2)
def spec_Sure_l2_b (u:Nat) (p0:Disk) (y24:Put) (i_:Nat) (s:(List Int)×(List Int)×Int×Int×Int×(List Put)) (k_:((List Int)×(List Int)×Int×Int×Int×(List Put))→Option Disk):Option Disk:=(spec_OnePut u ((Disk.mk s.1 s.2.1 ((Record.mk s.2.2.1 s.2.2.2.1 s.2.2.2.2.1)) s.2.2.2.2.2)) y24).bind fun r25=>(fun z0 z1 z2 z3 z4 z5 z6 z7=>k_ (z2,z3,z4,z5,z6,z7)) (bAdd .i64 (i_:Int) 1) p0 r25.fA r25.fB r25.fR.fGen r25.fR.fSlot r25.fR.fLen r25.fP
theorem spec_Sure_l2_w (u:Nat) (p0:Disk) (s:(List Int)×(List Int)×Int×Int×Int×(List Put)) (k:Nat) (hn:p0.fP.length≤9223372036854775807) (hk:p0.fP.length < k):spec_Sure_l2 u k 0 p0 s.1 s.2.1 s.2.2.1 s.2.2.2.1 s.2.2.2.2.1 s.2.2.2.2.2=Pu.wlist (spec_Sure_l2_f u p0) (spec_Sure_l2_b u p0) p0.fP 0 s:=Pu.wlist_0 (fun (k:Nat) (s:(List Int)×(List Int)×Int×Int×Int×(List Put)) (i:Int)=>spec_Sure_l2 u k i p0 s.1 s.2.1 s.2.2.1 s.2.2.2.1 s.2.2.2.2.1 s.2.2.2.2.2) hn (fun _ _ _=>rfl) s hk
def spec_PutRecord (u:Nat) (p0:Disk) (p1:Record):Option (Disk×Bool) :=
  (spec_l9Add u p0 ((Put.mk 2 0 ([]) p1))).bind fun r1=>some ((r1.1,r1.2))
def spec_NextCommit_j1 (u:Nat) (p3:Int) (p0:Disk):Option (Disk×Int) :=
  (spec_l9Copy u p0).bind fun r7=>some ((r7,p3))
def spec_NextCommit (u:Nat) (p0:Disk) (p1:Manifest) (p2:Build) (p3:Int):Option (Disk×Int) :=
  bif p3 == 1 then ((spec_Whole u p1 p2).bind fun r1=>bif r1 then ((spec_StageAll u p0 p2.fBuf p1.fSize).bind fun r2=>bif r2.2 then (some ((r2.1,2))) else (spec_NextCommit_j1 u p3 p0)) else (spec_NextCommit_j1 u p3 p0)) else (bif p3 == 2 then ((spec_Sure u p0).bind fun r3=>some ((r3,3))) else (bif p3 == 3 then ((spec_Spare u p0).bind fun r4=>(spec_PutRecord u p0 ((Record.mk p1.fGen r4 p1.fLen))).bind fun r5=>bif r5.2 then (some ((r5.1,4))) else (spec_NextCommit_j1 u p3 p0)) else (bif p3 == 4 then ((spec_Sure u p0).bind fun r6=>some ((r6,5))) else (spec_NextCommit_j1 u p3 p0))))
def spec_l19Node_j1 (u:Nat) (r1:l1Cur×Tree×Int×Node×Disk) (r2:Conf×l1Cur) (x36:Int) (x37:List Int) (x38:List Int) (x39:Int) (x40:Int) (x41:Int) (x42:List Put):Option (l1Cur×Tree×Conf×Int×Node×Disk) :=
  some ((r2.2,r1.2.1,r2.1,r1.2.2.1,(Node.mk r1.2.2.2.1.fOn r1.2.2.2.1.fBoss r1.2.2.2.1.fQuiet r1.2.2.2.1.fMan r1.2.2.2.1.fBld x36 r1.2.2.2.1.fKids r1.2.2.2.1.fDrops),(Disk.mk x37 x38 ((Record.mk x39 x40 x41)) x42)))
def spec_l19Node_j3 (u:Nat) (r1:l1Cur×Tree×Int×Node×Disk) (x29:Int) (r2:Conf×l1Cur) (x30:List Int) (x31:List Int) (x32:Int) (x33:Int) (x34:Int) (x35:List Put):Option (l1Cur×Tree×Conf×Int×Node×Disk) :=
  spec_l19Node_j1 u r1 r2 x29 x30 x31 x32 x33 x34 x35
def spec_l19Node_l4 (u:Nat) (k_spec_l19Node_l4:Nat) (r1:l1Cur×Tree×Int×Node×Disk) (x12:Int) (x13:Int) (r2:Conf×l1Cur) (x14:List Int) (x15:List Int) (x16:Int) (x17:Int) (x18:Int) (x19:List Put):Option (l1Cur×Tree×Conf×Int×Node×Disk):=match k_spec_l19Node_l4 with
  | 0=>none
  | k_spec_l19Node_l4+1=>bif decide (x13 < r1.2.2.2.1.fPhase) then ((spec_NextCommit u ((Disk.mk x14 x15 ((Record.mk x16 x17 x18)) x19)) r1.2.2.2.1.fMan r1.2.2.2.1.fBld x12).bind fun r28=>(fun z0 z1 z2 z3 z4 z5 z6 z7 z8 z9=>spec_l19Node_l4 u k_spec_l19Node_l4 z0 z1 z2 z3 z4 z5 z6 z7 z8 z9) r1 r28.2 (bAdd .i64 x13 1) r2 r28.1.fA r28.1.fB r28.1.fR.fGen r28.1.fR.fSlot r28.1.fR.fLen r28.1.fP) else (spec_l19Node_j3 u r1 x12 r2 x14 x15 x16 x17 x18 x19)
def spec_l19Node_j2 (u:Nat) (r1:l1Cur×Tree×Int×Node×Disk) (x3:Bool) (r2:Conf×l1Cur):Option (l1Cur×Tree×Conf×Int×Node×Disk) :=
  bif x3 then (spec_l19Node_l4 u u r1 1 1 r2 r1.2.2.2.2.fA r1.2.2.2.2.fB r1.2.2.2.2.fR.fGen r1.2.2.2.2.fR.fSlot r1.2.2.2.2.fR.fLen r1.2.2.2.2.fP) else (spec_l19Node_j1 u r1 r2 r1.2.2.2.1.fPhase r1.2.2.2.2.fA r1.2.2.2.2.fB r1.2.2.2.2.fR.fGen r1.2.2.2.2.fR.fSlot r1.2.2.2.2.fR.fLen r1.2.2.2.2.fP)
def spec_l19Node (u:Nat) (p0:List Int):Option (l1Cur×Tree×Conf×Int×Node×Disk) :=
  (spec_l18Draw u p0).bind fun r1=>(spec_l19Any u r1.1).bind fun r2=>bif r1.2.2.2.1.fPhase == 4 then (spec_l19Node_j2 u r1 true r2) else (bif r1.2.2.2.1.fPhase == 2 then (spec_l19Node_j2 u r1 true r2) else (spec_l19Node_j2 u r1 (r1.2.2.2.1.fPhase == 3) r2))
def spec_l19Node_l4_f (u:Nat) (r1:l1Cur×Tree×Int×Node×Disk) (r2:Conf×l1Cur) (s:Int×(List Int)×(List Int)×Int×Int×Int×(List Put)):Option (l1Cur×Tree×Conf×Int×Node×Disk):=(spec_l19Node_j3 u r1 s.1 r2 s.2.1 s.2.2.1 s.2.2.2.1 s.2.2.2.2.1 s.2.2.2.2.2.1 s.2.2.2.2.2.2)
def spec_l19Node_l4_b (u:Nat) (r1:l1Cur×Tree×Int×Node×Disk) (r2:Conf×l1Cur) (i_:Nat) (s:Int×(List Int)×(List Int)×Int×Int×Int×(List Put)) (k_:(Int×(List Int)×(List Int)×Int×Int×Int×(List Put))→Option (l1Cur×Tree×Conf×Int×Node×Disk)):Option (l1Cur×Tree×Conf×Int×Node×Disk):=(spec_NextCommit u ((Disk.mk s.2.1 s.2.2.1 ((Record.mk s.2.2.2.1 s.2.2.2.2.1 s.2.2.2.2.2.1)) s.2.2.2.2.2.2)) r1.2.2.2.1.fMan r1.2.2.2.1.fBld s.1).bind fun r28=>(fun z0 z1 z2 z3 z4 z5 z6 z7 z8 z9=>k_ (z1,z4,z5,z6,z7,z8,z9)) r1 r28.2 (bAdd .i64 (i_:Int) 1) r2 r28.1.fA r28.1.fB r28.1.fR.fGen r28.1.fR.fSlot r28.1.fR.fLen r28.1.fP
theorem spec_l19Node_l4_w (u:Nat) (r1:l1Cur×Tree×Int×Node×Disk) (r2:Conf×l1Cur) (s:Int×(List Int)×(List Int)×Int×Int×Int×(List Put)) (k:Nat) (hn:(r1.2.2.2.1.fPhase:Int)≤9223372036854775807) (hk:Int.toNat (r1.2.2.2.1.fPhase) < k):spec_l19Node_l4 u k r1 s.1 0 r2 s.2.1 s.2.2.1 s.2.2.2.1 s.2.2.2.2.1 s.2.2.2.2.2.1 s.2.2.2.2.2.2=Pu.walk (spec_l19Node_l4_f u r1 r2) (spec_l19Node_l4_b u r1 r2) (Int.toNat (r1.2.2.2.1.fPhase)) 0 s:=Pu.walk_0 (fun (k:Nat) (s:Int×(List Int)×(List Int)×Int×Int×Int×(List Put)) (i:Int)=>spec_l19Node_l4 u k r1 s.1 i r2 s.2.1 s.2.2.1 s.2.2.2.1 s.2.2.2.2.1 s.2.2.2.2.2.1 s.2.2.2.2.2.2) hn (fun _ _ _=>rfl) s hk
def spec_DrawTick (u:Nat) (p0:List Int):Option (Tree×Conf×Int×Node×Disk) :=
  (spec_l19Node u p0).bind fun r1=>some ((r1.2.1,r1.2.2.1,r1.2.2.2.1,r1.2.2.2.2.1,r1.2.2.2.2.2))
def slices_Clone___impl_Sum_impl_Sum (u:Nat) (p0:List Sum):Option (List Sum) :=
  (chk (decide (((([]:List Sum)).length+p0.length)*16≤140737488355328))).bind fun _=>some ((([]:List Sum))++p0)
def impl_copyMan (u:Nat) (p0:Manifest):Option Manifest :=
  (slices_Clone___impl_Sum_impl_Sum u p0.fSums).bind fun r1=>some ((Manifest.mk p0.fGen p0.fSize p0.fLen r1))
def impl_cloned (u:Nat) (p0:List Int):Option ((List Int)) :=
  (chk (decide (0≤((p0.length:Int))) && (0 == 0 || 0 == ((p0.length:Int))))).bind fun _=>(chk (decide (Int.toNat ((p0.length:Int))*1≤140737488355328))).bind fun _=>(chk (decide (((List.replicate (Int.toNat 0) (0:Int)).length+p0.length)*1≤140737488355328))).bind fun _=>some ((List.replicate (Int.toNat 0) (0:Int))++p0)
def impl_copyBuild (u:Nat) (p0:Build):Option Build :=
  (impl_cloned u p0.fBuf).bind fun r1=>some ((Build.mk p0.fHave r1))
def slices_Clone___impl_Kid_impl_Kid (u:Nat) (p0:List Kid):Option (List Kid) :=
  (chk (decide (((([]:List Kid)).length+p0.length)*40≤140737488355328))).bind fun _=>some ((([]:List Kid))++p0)
def impl_copyNode (u:Nat) (p0:Node):Option Node :=
  (impl_copyMan u p0.fMan).bind fun r1=>(impl_copyBuild u p0.fBld).bind fun r2=>(slices_Clone___impl_Kid_impl_Kid u p0.fKids).bind fun r3=>some ((Node.mk p0.fOn p0.fBoss p0.fQuiet r1 r2 p0.fPhase r3 p0.fDrops))
def impl_copyPut (u:Nat) (p0:Put):Option Put :=
  (impl_cloned u p0.fB).bind fun r1=>some ((Put.mk p0.fWhat p0.fAt r1 p0.fR))
def impl_copyDisk_j1 (u:Nat) (r1:(List Int)) (r2:(List Int)) (p0:Disk) (x11:List Put):Option Disk :=
  some ((Disk.mk r1 r2 p0.fR x11))
def impl_copyDisk_l2 (u:Nat) (k_impl_copyDisk_l2:Nat) (p0:Disk) (x5:Int) (r1:(List Int)) (r2:(List Int)) (x6:List Put):Option Disk:=match k_impl_copyDisk_l2 with
  | 0=>none
  | k_impl_copyDisk_l2+1=>bif decide (x5 < ((p0.fP.length:Int))) then ((idx p0.fP x5).bind fun y9=>(impl_copyPut u y9).bind fun r10=>(chk (decide ((x6.length+([r10]).length)*64≤140737488355328))).bind fun _=>(fun z0 z1 z2 z3 z4=>impl_copyDisk_l2 u k_impl_copyDisk_l2 z0 z1 z2 z3 z4) p0 (bAdd .i64 x5 1) r1 r2 (x6++([r10]))) else (impl_copyDisk_j1 u r1 r2 p0 x6)
def impl_copyDisk (u:Nat) (p0:Disk):Option Disk :=
  (impl_cloned u p0.fA).bind fun r1=>(impl_cloned u p0.fB).bind fun r2=>impl_copyDisk_l2 u u p0 0 r1 r2 ([])
def impl_copyDisk_l2_f (u:Nat) (p0:Disk) (r1:(List Int)) (r2:(List Int)) (s:(List Put)):Option Disk:=(impl_copyDisk_j1 u r1 r2 p0 s)
def impl_copyDisk_l2_b (u:Nat) (p0:Disk) (r1:(List Int)) (r2:(List Int)) (y9:Put) (i_:Nat) (s:(List Put)) (k_:((List Put))→Option Disk):Option Disk:=(impl_copyPut u y9).bind fun r10=>(chk (decide ((s.length+([r10]).length)*64≤140737488355328))).bind fun _=>(fun z0 z1 z2 z3 z4=>k_ z4) p0 (bAdd .i64 (i_:Int) 1) r1 r2 (s++([r10]))
theorem impl_copyDisk_l2_w (u:Nat) (p0:Disk) (r1:(List Int)) (r2:(List Int)) (s:(List Put)) (k:Nat) (hn:p0.fP.length≤9223372036854775807) (hk:p0.fP.length < k):impl_copyDisk_l2 u k p0 0 r1 r2 s=Pu.wlist (impl_copyDisk_l2_f u p0 r1 r2) (impl_copyDisk_l2_b u p0 r1 r2) p0.fP 0 s:=Pu.wlist_0 (fun (k:Nat) (s:(List Put)) (i:Int)=>impl_copyDisk_l2 u k p0 i r1 r2 s) hn (fun _ _ _=>rfl) s hk
def impl_AgeAll_j1 (u:Nat) (x9:List Kid):Option ((List Kid)) :=
  some x9
def impl_AgeAll_j3 (u:Nat) (c_impl_AgeAll_l2:Int→(List Kid)→(List Kid)→Int→Option ((List Kid))) (p1:Int) (x8:List Kid) (p0:List Kid) (x4:Int):Option ((List Kid)) :=
  c_impl_AgeAll_l2 p1 x8 p0 (bAdd .i64 x4 1)
def impl_AgeAll_l2 (u:Nat) (k_impl_AgeAll_l2:Nat) (p1:Int) (x3:List Kid) (p0:List Kid) (x4:Int):Option ((List Kid)):=match k_impl_AgeAll_l2 with
  | 0=>none
  | k_impl_AgeAll_l2+1=>bif decide (x4 < ((p0.length:Int))) then ((idx p0 x4).bind fun y7=>bif decide (y7.fAge < p1) then ((chk (decide ((x3.length+([(Kid.mk y7.fId y7.fWant y7.fDone (bAdd .i64 y7.fAge 1) 0)]).length)*40≤140737488355328))).bind fun _=>impl_AgeAll_j3 u (fun z0 z1 z2 z3=>impl_AgeAll_l2 u k_impl_AgeAll_l2 z0 z1 z2 z3) p1 (x3++([(Kid.mk y7.fId y7.fWant y7.fDone (bAdd .i64 y7.fAge 1) 0)])) p0 x4) else (impl_AgeAll_j3 u (fun z0 z1 z2 z3=>impl_AgeAll_l2 u k_impl_AgeAll_l2 z0 z1 z2 z3) p1 x3 p0 x4)) else (impl_AgeAll_j1 u x3)
def impl_AgeAll (u:Nat) (p0:List Kid) (p1:Int):Option ((List Kid)) :=
  impl_AgeAll_l2 u u p1 (([]:List Kid)) p0 0
def impl_AgeAll_l2_f (u:Nat) (p1:Int) (p0:List Kid) (s:(List Kid)):Option ((List Kid)):=(impl_AgeAll_j1 u s)
def impl_AgeAll_l2_b (u:Nat) (p1:Int) (p0:List Kid) (y7:Kid) (i_:Nat) (s:(List Kid)) (k_:((List Kid))→Option ((List Kid))):Option ((List Kid)):=bif decide (y7.fAge < p1) then ((chk (decide ((s.length+([(Kid.mk y7.fId y7.fWant y7.fDone (bAdd .i64 y7.fAge 1) 0)]).length)*40≤140737488355328))).bind fun _=>impl_AgeAll_j3 u (fun z0 z1 z2 z3=>k_ z1) p1 (s++([(Kid.mk y7.fId y7.fWant y7.fDone (bAdd .i64 y7.fAge 1) 0)])) p0 (i_:Int)) else (impl_AgeAll_j3 u (fun z0 z1 z2 z3=>k_ z1) p1 s p0 (i_:Int))
theorem impl_AgeAll_l2_w (u:Nat) (p1:Int) (p0:List Kid) (s:(List Kid)) (k:Nat) (hn:p0.length≤9223372036854775807) (hk:p0.length < k):impl_AgeAll_l2 u k p1 s p0 0=Pu.wlist (impl_AgeAll_l2_f u p1 p0) (impl_AgeAll_l2_b u p1 p0) p0 0 s:=Pu.wlist_0 (fun (k:Nat) (s:(List Kid)) (i:Int)=>impl_AgeAll_l2 u k p1 s p0 i) hn (fun _ _ _=>rfl) s hk
def impl_within (u:Nat) (p0:Int) (p1:Int) (p2:Int):Option Bool :=
  bif decide (p0≥p1) then (some (decide (p0≤p2))) else (some false)
def impl_TreeOk_j1 (u:Nat) (p0:Tree):Option Bool :=
  (impl_within u ((p0.fUp.length:Int)) 1 7).bind fun r8=>some r8
def impl_TreeOk_j3 (u:Nat) (c_impl_TreeOk_l2:Tree→Int→Option Bool) (p0:Tree) (x2:Int) (x7:Bool):Option Bool :=
  bif x7 then (some false) else (c_impl_TreeOk_l2 p0 (bAdd .i64 x2 1))
def impl_TreeOk_l2 (u:Nat) (k_impl_TreeOk_l2:Nat) (p0:Tree) (x2:Int):Option Bool:=match k_impl_TreeOk_l2 with
  | 0=>none
  | k_impl_TreeOk_l2+1=>bif decide (x2 < ((p0.fUp.length:Int))) then ((idx p0.fUp x2).bind fun y4=>bif x2 == 0 then (bif y4 != (-1) then (impl_TreeOk_j3 u (fun z0 z1=>impl_TreeOk_l2 u k_impl_TreeOk_l2 z0 z1) p0 x2 true) else (bif decide (x2 > 0) then ((impl_within u y4 0 (bSub .i64 x2 1)).bind fun r5=>impl_TreeOk_j3 u (fun z0 z1=>impl_TreeOk_l2 u k_impl_TreeOk_l2 z0 z1) p0 x2 (!r5)) else (impl_TreeOk_j3 u (fun z0 z1=>impl_TreeOk_l2 u k_impl_TreeOk_l2 z0 z1) p0 x2 false))) else (bif decide (x2 > 0) then ((impl_within u y4 0 (bSub .i64 x2 1)).bind fun r6=>impl_TreeOk_j3 u (fun z0 z1=>impl_TreeOk_l2 u k_impl_TreeOk_l2 z0 z1) p0 x2 (!r6)) else (impl_TreeOk_j3 u (fun z0 z1=>impl_TreeOk_l2 u k_impl_TreeOk_l2 z0 z1) p0 x2 false))) else (impl_TreeOk_j1 u p0)
def impl_TreeOk (u:Nat) (p0:Tree):Option Bool :=
  impl_TreeOk_l2 u u p0 0
def impl_TreeOk_l2_f (u:Nat) (p0:Tree) (s:Unit):Option Bool:=(impl_TreeOk_j1 u p0)
def impl_TreeOk_l2_b (u:Nat) (p0:Tree) (y4:Int) (i_:Nat) (s:Unit) (k_:Unit→Option Bool):Option Bool:=bif (i_:Int) == 0 then (bif y4 != (-1) then (impl_TreeOk_j3 u (fun z0 z1=>k_ ()) p0 (i_:Int) true) else (bif decide ((i_:Int) > 0) then ((impl_within u y4 0 (bSub .i64 (i_:Int) 1)).bind fun r5=>impl_TreeOk_j3 u (fun z0 z1=>k_ ()) p0 (i_:Int) (!r5)) else (impl_TreeOk_j3 u (fun z0 z1=>k_ ()) p0 (i_:Int) false))) else (bif decide ((i_:Int) > 0) then ((impl_within u y4 0 (bSub .i64 (i_:Int) 1)).bind fun r6=>impl_TreeOk_j3 u (fun z0 z1=>k_ ()) p0 (i_:Int) (!r6)) else (impl_TreeOk_j3 u (fun z0 z1=>k_ ()) p0 (i_:Int) false))
theorem impl_TreeOk_l2_w (u:Nat) (p0:Tree) (s:Unit) (k:Nat) (hn:p0.fUp.length≤9223372036854775807) (hk:p0.fUp.length < k):impl_TreeOk_l2 u k p0 0=Pu.wlist (impl_TreeOk_l2_f u p0) (impl_TreeOk_l2_b u p0) p0.fUp 0 s:=Pu.wlist_0 (fun (k:Nat) (s:Unit) (i:Int)=>impl_TreeOk_l2 u k p0 i) hn (fun _ _ _=>rfl) s hk
def impl_Tree__isNode (u:Nat) (p0:Tree) (p1:Int):Option Bool :=
  (impl_within u p1 0 (bSub .i64 ((p0.fUp.length:Int)) 1)).bind fun r1=>some r1
def impl_PathUp_j1 (u:Nat) (x11:List Int):Option ((List Int)) :=
  some x11
def impl_PathUp_j3 (u:Nat) (c_impl_PathUp_l2:Int→(List Int)→Tree→Option ((List Int))) (x3:Int) (x4:List Int) (x8:Bool) (p0:Tree):Option ((List Int)) :=
  bif x8 then ((chk (decide ((x4.length+(([x3]:List Int)).length)*8≤140737488355328))).bind fun _=>(idx p0.fUp x3).bind fun y10=>c_impl_PathUp_l2 y10 (x4++(([x3]:List Int))) p0) else (impl_PathUp_j1 u x4)
def impl_PathUp_l2 (u:Nat) (k_impl_PathUp_l2:Nat) (x3:Int) (x4:List Int) (p0:Tree):Option ((List Int)):=match k_impl_PathUp_l2 with
  | 0=>none
  | k_impl_PathUp_l2+1=>(impl_Tree__isNode u p0 x3).bind fun r7=>bif r7 then (impl_PathUp_j3 u (fun z0 z1 z2=>impl_PathUp_l2 u k_impl_PathUp_l2 z0 z1 z2) x3 x4 (decide (((x4.length:Int)) < ((p0.fUp.length:Int)))) p0) else (impl_PathUp_j3 u (fun z0 z1 z2=>impl_PathUp_l2 u k_impl_PathUp_l2 z0 z1 z2) x3 x4 false p0)
def impl_PathUp (u:Nat) (p0:Tree) (p1:Int):Option ((List Int)) :=
  impl_PathUp_l2 u u p1 (([]:List Int)) p0
def slices_Index___int_int_j1 (u:Nat)  : Option Int :=
  some (-1)
def slices_Index___int_int_l2 (u:Nat) (k_slices_Index___int_int_l2:Nat) (p0:List Int) (p1:Int) (x2:Int):Option Int:=match k_slices_Index___int_int_l2 with
  | 0=>none
  | k_slices_Index___int_int_l2+1=>bif decide (x2 < ((p0.length:Int))) then ((idx p0 x2).bind fun y4=>bif p1 == y4 then (some x2) else ((fun z0 z1 z2=>slices_Index___int_int_l2 u k_slices_Index___int_int_l2 z0 z1 z2) p0 p1 (bAdd .i64 x2 1))) else (slices_Index___int_int_j1 u)
def slices_Index___int_int (u:Nat) (p0:List Int) (p1:Int):Option Int :=
  slices_Index___int_int_l2 u u p0 p1 0
def slices_Index___int_int_l2_f (u:Nat) (p0:List Int) (p1:Int) (s:Unit):Option Int:=(slices_Index___int_int_j1 u)
def slices_Index___int_int_l2_b (u:Nat) (p0:List Int) (p1:Int) (y4:Int) (i_:Nat) (s:Unit) (k_:Unit→Option Int):Option Int:=bif p1 == y4 then (some (i_:Int)) else ((fun z0 z1 z2=>k_ ()) p0 p1 (bAdd .i64 (i_:Int) 1))
theorem slices_Index___int_int_l2_w (u:Nat) (p0:List Int) (p1:Int) (s:Unit) (k:Nat) (hn:p0.length≤9223372036854775807) (hk:p0.length < k):slices_Index___int_int_l2 u k p0 p1 0=Pu.wlist (slices_Index___int_int_l2_f u p0 p1) (slices_Index___int_int_l2_b u p0 p1) p0 0 s:=Pu.wlist_0 (fun (k:Nat) (s:Unit) (i:Int)=>slices_Index___int_int_l2 u k p0 p1 i) hn (fun _ _ _=>rfl) s hk
def slices_Contains___int_int (u:Nat) (p0:List Int) (p1:Int):Option Bool :=
  (slices_Index___int_int u p0 p1).bind fun r1=>some (decide (r1≥0))
def impl_Ancestor (u:Nat) (p0:Tree) (p1:Int) (p2:Int):Option Bool :=
  bif p1 != p2 then ((impl_PathUp u p0 p2).bind fun r1=>(slices_Contains___int_int u r1 p1).bind fun r2=>some r2) else (some false)
def impl_NextBoss_j2 (u:Nat) (p1:Int) (p2:Int) (x5:Bool) (p0:Tree):Option Int :=
  bif x5 then ((idx p0.fUp p1).bind fun y6=>some y6) else ((idx p0.fUp p2).bind fun y7=>some y7)
def impl_NextBoss_j1 (u:Nat) (p1:Int) (p2:Int) (x3:Bool) (p0:Tree):Option Int :=
  bif x3 then (some (-1)) else (bif p2 == 0 then (impl_NextBoss_j2 u p1 p2 true p0) else ((impl_Ancestor u p0 p2 p1).bind fun r4=>impl_NextBoss_j2 u p1 p2 (!r4) p0))
def impl_NextBoss (u:Nat) (p0:Tree) (p1:Int) (p2:Int):Option Int :=
  (impl_TreeOk u p0).bind fun r1=>bif !r1 then (impl_NextBoss_j1 u p1 p2 true p0) else (bif p1 == 0 then (impl_NextBoss_j1 u p1 p2 true p0) else ((impl_Tree__isNode u p0 p1).bind fun r2=>impl_NextBoss_j1 u p1 p2 (!r2) p0))
def impl_isZeroMan (u:Nat) (p0:Manifest):Option Bool :=
  bif p0.fGen == 0 then (bif p0.fSize == 0 then (bif p0.fLen == 0 then (some (((p0.fSums.length:Int)) == 0)) else (some false)) else (some false)) else (some false)
def impl_SizeOk (u:Nat) (p0:Int) (p1:Int):Option Bool :=
  (impl_within u p0 2 6).bind fun r1=>bif r1 then ((impl_within u p1 0 (bMul .i64 40 p0)).bind fun r2=>some r2) else (some false)
def impl_CeilDiv_j1 (u:Nat) (p0:Int) (p1:Int) (x3:Bool):Option Int :=
  bif x3 then (some 0) else ((chk (!(p1 == 0))).bind fun _=>some (bQuo .i64 (bSub .i64 (bAdd .i64 p0 p1) 1) p1))
def impl_CeilDiv (u:Nat) (p0:Int) (p1:Int):Option Int :=
  (impl_within u p0 0 1000000000000).bind fun r1=>bif !r1 then (impl_CeilDiv_j1 u p0 p1 true) else ((impl_within u p1 1 1000000000000).bind fun r2=>impl_CeilDiv_j1 u p0 p1 (!r2))
def impl_Blocks (u:Nat) (p0:Int) (p1:Int):Option Int :=
  (impl_SizeOk u p0 p1).bind fun r1=>bif !r1 then (some 0) else ((impl_CeilDiv u p1 p0).bind fun r2=>some r2)
def impl_BytesOf_j3 (u:Nat) (x17:List Int):Option ((List Int)×Bool) :=
  some ((x17,true))
def impl_BytesOf_l4 (u:Nat) (k_impl_BytesOf_l4:Nat) (p0:Int) (x5:Int) (x11:List Int) (x12:Int):Option ((List Int)×Bool):=match k_impl_BytesOf_l4 with
  | 0=>none
  | k_impl_BytesOf_l4+1=>bif decide (x12 < (((List.replicate (Int.toNat x5) (0:Int)).length:Int))) then ((chk (decide (0≤(bMul .i64 8 (bSub .i64 (bSub .i64 x5 1) x12))))).bind fun _=>(idx x11 x12).bind fun y16=>(fun z0 z1 z2 z3=>impl_BytesOf_l4 u k_impl_BytesOf_l4 z0 z1 z2 z3) p0 x5 (x11.set (Int.toNat x12) (IntKind.wrap .u8 (bShr .i64 p0 (bMul .i64 8 (bSub .i64 (bSub .i64 x5 1) x12))))) (bAdd .i64 x12 1)) else (impl_BytesOf_j3 u x11)
def impl_BytesOf_j2 (u:Nat) (p0:Int) (x5:Int) (x6:Bool):Option ((List Int)×Bool) :=
  bif x6 then (some (([],false))) else ((chk (decide (0≤x5) && (x5 == 0 || x5 == x5))).bind fun _=>(chk (decide (Int.toNat x5*1≤140737488355328))).bind fun _=>impl_BytesOf_l4 u u p0 x5 (List.replicate (Int.toNat x5) (0:Int)) 0)
def impl_BytesOf_j1 (u:Nat) (p0:Int) (x5:Int):Option ((List Int)×Bool) :=
  bif decide (p0 < 1) then (impl_BytesOf_j2 u p0 x5 true) else ((chk (decide (0≤(bMul .i64 8 x5)))).bind fun _=>impl_BytesOf_j2 u p0 x5 ((bShr .i64 p0 (bMul .i64 8 x5)) != 1))
def impl_BytesOf_j6 (u:Nat) (c_impl_BytesOf_l5:Int→Int→Option ((List Int)×Bool)) (p0:Int) (x2:Int) (x4:Bool):Option ((List Int)×Bool) :=
  bif x4 then (c_impl_BytesOf_l5 p0 (bAdd .i64 x2 1)) else (impl_BytesOf_j1 u p0 x2)
def impl_BytesOf_l5 (u:Nat) (k_impl_BytesOf_l5:Nat) (p0:Int) (x2:Int):Option ((List Int)×Bool):=match k_impl_BytesOf_l5 with
  | 0=>none
  | k_impl_BytesOf_l5+1=>bif decide (x2 < 6) then ((chk (decide (0≤(bMul .i64 8 x2)))).bind fun _=>impl_BytesOf_j6 u (fun z0 z1=>impl_BytesOf_l5 u k_impl_BytesOf_l5 z0 z1) p0 x2 (decide ((bShr .i64 p0 (bMul .i64 8 x2)) > 1))) else (impl_BytesOf_j6 u (fun z0 z1=>impl_BytesOf_l5 u k_impl_BytesOf_l5 z0 z1) p0 x2 false)
def impl_BytesOf (u:Nat) (p0:Int):Option ((List Int)×Bool) :=
  impl_BytesOf_l5 u u p0 0
def impl_BytesOf_l4_f (u:Nat) (p0:Int) (x5:Int) (s:(List Int)):Option ((List Int)×Bool):=(impl_BytesOf_j3 u s)
def impl_BytesOf_l4_b (u:Nat) (p0:Int) (x5:Int) (i_:Nat) (s:(List Int)) (k_:((List Int))→Option ((List Int)×Bool)):Option ((List Int)×Bool):=(chk (decide (0≤(bMul .i64 8 (bSub .i64 (bSub .i64 x5 1) (i_:Int)))))).bind fun _=>(idx s (i_:Int)).bind fun y16=>(fun z0 z1 z2 z3=>k_ z2) p0 x5 (s.set (Int.toNat (i_:Int)) (IntKind.wrap .u8 (bShr .i64 p0 (bMul .i64 8 (bSub .i64 (bSub .i64 x5 1) (i_:Int)))))) (bAdd .i64 (i_:Int) 1)
theorem impl_BytesOf_l4_w (u:Nat) (p0:Int) (x5:Int) (s:(List Int)) (k:Nat) (hn:((((List.replicate (Int.toNat x5) (0:Int)).length:Int)):Int)≤9223372036854775807) (hk:Int.toNat ((((List.replicate (Int.toNat x5) (0:Int)).length:Int))) < k):impl_BytesOf_l4 u k p0 x5 s 0=Pu.walk (impl_BytesOf_l4_f u p0 x5) (impl_BytesOf_l4_b u p0 x5) (Int.toNat ((((List.replicate (Int.toNat x5) (0:Int)).length:Int)))) 0 s:=Pu.walk_0 (fun (k:Nat) (s:(List Int)) (i:Int)=>impl_BytesOf_l4 u k p0 x5 s i) hn (fun _ _ _=>rfl) s hk
def impl_SpanOf (u:Nat) (p0:Int) (p1:Int) (p2:Int):Option (Int×Int) :=
  (impl_Blocks u p0 p1).bind fun r1=>(impl_within u p2 0 (bSub .i64 r1 1)).bind fun r2=>bif !r2 then (some ((0,0))) else (some ((bMul .i64 p2 p0,if (bSub .i64 p1 (bMul .i64 p2 p0)) < p0 then (bSub .i64 p1 (bMul .i64 p2 p0)) else p0)))
def impl_Wrap (u:Nat) (p0:Int) (p1:Int):Option Int :=
  (impl_within u p1 1 1000000000000).bind fun r1=>bif !r1 then (some 0) else ((chk (!(p1 == 0))).bind fun _=>(chk (!(p1 == 0))).bind fun _=>some (bRem .i64 (bAdd .i64 (bRem .i64 p0 p1) p1) p1))
def impl_weak (u:Nat) (p0:Int) (p1:Int):Option Int :=
  (impl_Wrap u p0 251).bind fun r1=>(impl_Wrap u p1 251).bind fun r2=>some (bAdd .i64 r1 (bMul .i64 251 r2))
def impl_WeakOf_j1 (u:Nat) (x11:Int) (x12:Int):Option Int :=
  (impl_weak u x11 x12).bind fun r13=>some r13
def impl_WeakOf_l2 (u:Nat) (k_impl_WeakOf_l2:Nat) (x4:Int) (x5:Int) (p0:List Int) (x6:Int):Option Int:=match k_impl_WeakOf_l2 with
  | 0=>none
  | k_impl_WeakOf_l2+1=>bif decide (x6 < ((p0.length:Int))) then ((idx p0 x6).bind fun y10=>(fun z0 z1 z2 z3=>impl_WeakOf_l2 u k_impl_WeakOf_l2 z0 z1 z2 z3) (bRem .i64 (bAdd .i64 x4 (IntKind.wrap .i64 y10)) 251) (bRem .i64 (bAdd .i64 x5 (bRem .i64 (bAdd .i64 x4 (IntKind.wrap .i64 y10)) 251)) 251) p0 (bAdd .i64 x6 1)) else (impl_WeakOf_j1 u x4 x5)
def impl_WeakOf (u:Nat) (p0:List Int):Option Int :=
  impl_WeakOf_l2 u u 0 0 p0 0
def impl_WeakOf_l2_f (u:Nat) (p0:List Int) (s:Int×Int):Option Int:=(impl_WeakOf_j1 u s.1 s.2)
def impl_WeakOf_l2_b (u:Nat) (p0:List Int) (y10:Int) (i_:Nat) (s:Int×Int) (k_:(Int×Int)→Option Int):Option Int:=(fun z0 z1 z2 z3=>k_ (z0,z1)) (bRem .i64 (bAdd .i64 s.1 (IntKind.wrap .i64 y10)) 251) (bRem .i64 (bAdd .i64 s.2 (bRem .i64 (bAdd .i64 s.1 (IntKind.wrap .i64 y10)) 251)) 251) p0 (bAdd .i64 (i_:Int) 1)
theorem impl_WeakOf_l2_w (u:Nat) (p0:List Int) (s:Int×Int) (k:Nat) (hn:p0.length≤9223372036854775807) (hk:p0.length < k):impl_WeakOf_l2 u k s.1 s.2 p0 0=Pu.wlist (impl_WeakOf_l2_f u p0) (impl_WeakOf_l2_b u p0) p0 0 s:=Pu.wlist_0 (fun (k:Nat) (s:Int×Int) (i:Int)=>impl_WeakOf_l2 u k s.1 s.2 p0 i) hn (fun _ _ _=>rfl) s hk
def impl_ManOk_j2 (u:Nat)  : Option Bool :=
  some true
def impl_ManOk_j4 (u:Nat) (c_impl_ManOk_l3:Manifest→Int→Option Bool) (p0:Manifest) (x7:Int) (x13:Bool):Option Bool :=
  bif x13 then (some false) else (c_impl_ManOk_l3 p0 (bAdd .i64 x7 1))
def impl_ManOk_l3 (u:Nat) (k_impl_ManOk_l3:Nat) (p0:Manifest) (x7:Int):Option Bool:=match k_impl_ManOk_l3 with
  | 0=>none
  | k_impl_ManOk_l3+1=>bif decide (x7 < ((p0.fSums.length:Int))) then ((idx p0.fSums x7).bind fun y9=>(impl_BytesOf u y9.fS).bind fun r10=>(impl_SpanOf u p0.fSize p0.fLen x7).bind fun r11=>bif !r10.2 then (impl_ManOk_j4 u (fun z0 z1=>impl_ManOk_l3 u k_impl_ManOk_l3 z0 z1) p0 x7 true) else (bif ((r10.1.length:Int)) != r11.2 then (impl_ManOk_j4 u (fun z0 z1=>impl_ManOk_l3 u k_impl_ManOk_l3 z0 z1) p0 x7 true) else ((impl_WeakOf u r10.1).bind fun r12=>impl_ManOk_j4 u (fun z0 z1=>impl_ManOk_l3 u k_impl_ManOk_l3 z0 z1) p0 x7 (r12 != y9.fW)))) else (impl_ManOk_j2 u)
def impl_ManOk_j1 (u:Nat) (x5:Bool) (p0:Manifest):Option Bool :=
  bif x5 then (some false) else (impl_ManOk_l3 u u p0 0)
def impl_ManOk (u:Nat) (p0:Manifest):Option Bool :=
  (impl_isZeroMan u p0).bind fun r1=>bif r1 then (some true) else ((impl_within u p0.fGen 1 1000000).bind fun r2=>bif !r2 then (impl_ManOk_j1 u true p0) else ((impl_SizeOk u p0.fSize p0.fLen).bind fun r3=>bif !r3 then (impl_ManOk_j1 u true p0) else ((impl_Blocks u p0.fSize p0.fLen).bind fun r4=>impl_ManOk_j1 u (((p0.fSums.length:Int)) != r4) p0)))
def impl_ManOk_l3_f (u:Nat) (p0:Manifest) (s:Unit):Option Bool:=(impl_ManOk_j2 u)
def impl_ManOk_l3_b (u:Nat) (p0:Manifest) (y9:Sum) (i_:Nat) (s:Unit) (k_:Unit→Option Bool):Option Bool:=(impl_BytesOf u y9.fS).bind fun r10=>(impl_SpanOf u p0.fSize p0.fLen (i_:Int)).bind fun r11=>bif !r10.2 then (impl_ManOk_j4 u (fun z0 z1=>k_ ()) p0 (i_:Int) true) else (bif ((r10.1.length:Int)) != r11.2 then (impl_ManOk_j4 u (fun z0 z1=>k_ ()) p0 (i_:Int) true) else ((impl_WeakOf u r10.1).bind fun r12=>impl_ManOk_j4 u (fun z0 z1=>k_ ()) p0 (i_:Int) (r12 != y9.fW)))
theorem impl_ManOk_l3_w (u:Nat) (p0:Manifest) (s:Unit) (k:Nat) (hn:p0.fSums.length≤9223372036854775807) (hk:p0.fSums.length < k):impl_ManOk_l3 u k p0 0=Pu.wlist (impl_ManOk_l3_f u p0) (impl_ManOk_l3_b u p0) p0.fSums 0 s:=Pu.wlist_0 (fun (k:Nat) (s:Unit) (i:Int)=>impl_ManOk_l3 u k p0 i) hn (fun _ _ _=>rfl) s hk
def impl_SetOk (u:Nat) (p0:Int):Option Bool :=
  (impl_within u p0 0 1099511627775).bind fun r1=>some r1
def impl_FullSet (u:Nat) (p0:Int):Option Int :=
  (impl_within u p0 0 40).bind fun r1=>bif !r1 then (some 0) else ((chk (decide (0≤p0))).bind fun _=>some (bSub .i64 (bShl .i64 1 p0) 1))
def impl_AllParts (u:Nat) (p0:Manifest):Option Int :=
  (impl_FullSet u ((p0.fSums.length:Int))).bind fun r1=>some r1
def impl_Build__block (u:Nat) (p0:Build) (p1:Manifest) (p2:Int):Option ((List Int)) :=
  (impl_SpanOf u p1.fSize p1.fLen p2).bind fun r1=>(chk (sliceOK r1.1 (bAdd .i64 r1.1 r1.2) p0.fBuf.length)).bind fun _=>some ((p0.fBuf.take (Int.toNat (bAdd .i64 r1.1 r1.2))).drop (Int.toNat r1.1))
def impl_isPlace (u:Nat) (p0:Int):Option Bool :=
  (impl_within u p0 0 39).bind fun r1=>some r1
def impl_InSet (u:Nat) (p0:Int) (p1:Int):Option Bool :=
  (impl_SetOk u p0).bind fun r1=>bif r1 then ((impl_isPlace u p1).bind fun r2=>bif r2 then ((chk (decide (0≤p1))).bind fun _=>some ((bAnd .i64 (bShr .i64 p0 p1) 1) == 1)) else (some false)) else (some false)
def impl_SumOf_j1 (u:Nat) (p0:List Int) (x8:Int):Option Sum :=
  (impl_WeakOf u p0).bind fun r9=>some ((Sum.mk r9 x8))
def impl_SumOf_l2 (u:Nat) (k_impl_SumOf_l2:Nat) (p0:List Int) (x3:Int) (x4:Int):Option Sum:=match k_impl_SumOf_l2 with
  | 0=>none
  | k_impl_SumOf_l2+1=>bif decide (x4 < ((p0.length:Int))) then ((idx p0 x4).bind fun y7=>(fun z0 z1 z2=>impl_SumOf_l2 u k_impl_SumOf_l2 z0 z1 z2) p0 (bOr .i64 (bShl .i64 x3 8) (IntKind.wrap .i64 y7)) (bAdd .i64 x4 1)) else (impl_SumOf_j1 u p0 x3)
def impl_SumOf (u:Nat) (p0:List Int):Option Sum :=
  bif decide (((p0.length:Int)) > 6) then (some ((Sum.mk 0 0))) else (impl_SumOf_l2 u u p0 1 0)
def impl_SumOf_l2_f (u:Nat) (p0:List Int) (s:Int):Option Sum:=(impl_SumOf_j1 u p0 s)
def impl_SumOf_l2_b (u:Nat) (p0:List Int) (y7:Int) (i_:Nat) (s:Int) (k_:Int→Option Sum):Option Sum:=(fun z0 z1 z2=>k_ z1) p0 (bOr .i64 (bShl .i64 s 8) (IntKind.wrap .i64 y7)) (bAdd .i64 (i_:Int) 1)
theorem impl_SumOf_l2_w (u:Nat) (p0:List Int) (s:Int) (k:Nat) (hn:p0.length≤9223372036854775807) (hk:p0.length < k):impl_SumOf_l2 u k p0 s 0=Pu.wlist (impl_SumOf_l2_f u p0) (impl_SumOf_l2_b u p0) p0 0 s:=Pu.wlist_0 (fun (k:Nat) (s:Int) (i:Int)=>impl_SumOf_l2 u k p0 s i) hn (fun _ _ _=>rfl) s hk
def impl_BuildOk_1 (u:Nat) (p0:Int):Option Bool :=
  some (p0 != 0)
def slices_IndexFunc___byte_byte__impl_BuildOk_1_j1 (u:Nat)  : Option Int :=
  some (-1)
def slices_IndexFunc___byte_byte__impl_BuildOk_1_l2 (u:Nat) (k_slices_IndexFunc___byte_byte__impl_BuildOk_1_l2:Nat) (p0:List Int) (x2:Int):Option Int:=match k_slices_IndexFunc___byte_byte__impl_BuildOk_1_l2 with
  | 0=>none
  | k_slices_IndexFunc___byte_byte__impl_BuildOk_1_l2+1=>bif decide (x2 < ((p0.length:Int))) then ((idx p0 x2).bind fun y4=>(impl_BuildOk_1 u y4).bind fun r5=>bif r5 then (some x2) else ((fun z0 z1=>slices_IndexFunc___byte_byte__impl_BuildOk_1_l2 u k_slices_IndexFunc___byte_byte__impl_BuildOk_1_l2 z0 z1) p0 (bAdd .i64 x2 1))) else (slices_IndexFunc___byte_byte__impl_BuildOk_1_j1 u)
def slices_IndexFunc___byte_byte__impl_BuildOk_1 (u:Nat) (p0:List Int):Option Int :=
  slices_IndexFunc___byte_byte__impl_BuildOk_1_l2 u u p0 0
def slices_IndexFunc___byte_byte__impl_BuildOk_1_l2_f (u:Nat) (p0:List Int) (s:Unit):Option Int:=(slices_IndexFunc___byte_byte__impl_BuildOk_1_j1 u)
def slices_IndexFunc___byte_byte__impl_BuildOk_1_l2_b (u:Nat) (p0:List Int) (y4:Int) (i_:Nat) (s:Unit) (k_:Unit→Option Int):Option Int:=(impl_BuildOk_1 u y4).bind fun r5=>bif r5 then (some (i_:Int)) else ((fun z0 z1=>k_ ()) p0 (bAdd .i64 (i_:Int) 1))
theorem slices_IndexFunc___byte_byte__impl_BuildOk_1_l2_w (u:Nat) (p0:List Int) (s:Unit) (k:Nat) (hn:p0.length≤9223372036854775807) (hk:p0.length < k):slices_IndexFunc___byte_byte__impl_BuildOk_1_l2 u k p0 0=Pu.wlist (slices_IndexFunc___byte_byte__impl_BuildOk_1_l2_f u p0) (slices_IndexFunc___byte_byte__impl_BuildOk_1_l2_b u p0) p0 0 s:=Pu.wlist_0 (fun (k:Nat) (s:Unit) (i:Int)=>slices_IndexFunc___byte_byte__impl_BuildOk_1_l2 u k p0 i) hn (fun _ _ _=>rfl) s hk
def slices_ContainsFunc___byte_byte__impl_BuildOk_1 (u:Nat) (p0:List Int):Option Bool :=
  (slices_IndexFunc___byte_byte__impl_BuildOk_1 u p0).bind fun r1=>some (decide (r1≥0))
def impl_BuildOk_j2 (u:Nat)  : Option Bool :=
  some true
def impl_BuildOk_j4 (u:Nat) (c_impl_BuildOk_l3:Manifest→Int→Build→Option Bool) (p0:Manifest) (x6:Int) (x16:Bool) (p1:Build):Option Bool :=
  bif x16 then (some false) else (c_impl_BuildOk_l3 p0 (bAdd .i64 x6 1) p1)
def impl_BuildOk_l3 (u:Nat) (k_impl_BuildOk_l3:Nat) (p0:Manifest) (x6:Int) (p1:Build):Option Bool:=match k_impl_BuildOk_l3 with
  | 0=>none
  | k_impl_BuildOk_l3+1=>bif decide (x6 < ((p0.fSums.length:Int))) then ((idx p0.fSums x6).bind fun y8=>(impl_Build__block u p1 p0 x6).bind fun r9=>(impl_InSet u p1.fHave x6).bind fun r10=>bif r10 then ((impl_SumOf u r9).bind fun r11=>bif !([r11.fW,r11.fS] == [y8.fW,y8.fS]) then (impl_BuildOk_j4 u (fun z0 z1 z2=>impl_BuildOk_l3 u k_impl_BuildOk_l3 z0 z1 z2) p0 x6 true p1) else ((impl_InSet u p1.fHave x6).bind fun r12=>bif !r12 then ((slices_ContainsFunc___byte_byte__impl_BuildOk_1 u r9).bind fun r13=>impl_BuildOk_j4 u (fun z0 z1 z2=>impl_BuildOk_l3 u k_impl_BuildOk_l3 z0 z1 z2) p0 x6 r13 p1) else (impl_BuildOk_j4 u (fun z0 z1 z2=>impl_BuildOk_l3 u k_impl_BuildOk_l3 z0 z1 z2) p0 x6 false p1))) else ((impl_InSet u p1.fHave x6).bind fun r14=>bif !r14 then ((slices_ContainsFunc___byte_byte__impl_BuildOk_1 u r9).bind fun r15=>impl_BuildOk_j4 u (fun z0 z1 z2=>impl_BuildOk_l3 u k_impl_BuildOk_l3 z0 z1 z2) p0 x6 r15 p1) else (impl_BuildOk_j4 u (fun z0 z1 z2=>impl_BuildOk_l3 u k_impl_BuildOk_l3 z0 z1 z2) p0 x6 false p1))) else (impl_BuildOk_j2 u)
def impl_BuildOk_j1 (u:Nat) (x4:Bool) (p0:Manifest) (p1:Build):Option Bool :=
  bif x4 then (some false) else (impl_BuildOk_l3 u u p0 0 p1)
def impl_BuildOk (u:Nat) (p0:Manifest) (p1:Build):Option Bool :=
  (impl_ManOk u p0).bind fun r1=>bif !r1 then (impl_BuildOk_j1 u true p0 p1) else ((impl_SetOk u p1.fHave).bind fun r2=>bif !r2 then (impl_BuildOk_j1 u true p0 p1) else ((impl_AllParts u p0).bind fun r3=>bif (bAndNot .i64 p1.fHave r3) != 0 then (impl_BuildOk_j1 u true p0 p1) else (impl_BuildOk_j1 u (((p1.fBuf.length:Int)) != p0.fLen) p0 p1)))
def impl_BuildOk_l3_f (u:Nat) (p0:Manifest) (p1:Build) (s:Unit):Option Bool:=(impl_BuildOk_j2 u)
def impl_BuildOk_l3_b (u:Nat) (p0:Manifest) (p1:Build) (y8:Sum) (i_:Nat) (s:Unit) (k_:Unit→Option Bool):Option Bool:=(impl_Build__block u p1 p0 (i_:Int)).bind fun r9=>(impl_InSet u p1.fHave (i_:Int)).bind fun r10=>bif r10 then ((impl_SumOf u r9).bind fun r11=>bif !([r11.fW,r11.fS] == [y8.fW,y8.fS]) then (impl_BuildOk_j4 u (fun z0 z1 z2=>k_ ()) p0 (i_:Int) true p1) else ((impl_InSet u p1.fHave (i_:Int)).bind fun r12=>bif !r12 then ((slices_ContainsFunc___byte_byte__impl_BuildOk_1 u r9).bind fun r13=>impl_BuildOk_j4 u (fun z0 z1 z2=>k_ ()) p0 (i_:Int) r13 p1) else (impl_BuildOk_j4 u (fun z0 z1 z2=>k_ ()) p0 (i_:Int) false p1))) else ((impl_InSet u p1.fHave (i_:Int)).bind fun r14=>bif !r14 then ((slices_ContainsFunc___byte_byte__impl_BuildOk_1 u r9).bind fun r15=>impl_BuildOk_j4 u (fun z0 z1 z2=>k_ ()) p0 (i_:Int) r15 p1) else (impl_BuildOk_j4 u (fun z0 z1 z2=>k_ ()) p0 (i_:Int) false p1))
theorem impl_BuildOk_l3_w (u:Nat) (p0:Manifest) (p1:Build) (s:Unit) (k:Nat) (hn:p0.fSums.length≤9223372036854775807) (hk:p0.fSums.length < k):impl_BuildOk_l3 u k p0 0 p1=Pu.wlist (impl_BuildOk_l3_f u p0 p1) (impl_BuildOk_l3_b u p0 p1) p0.fSums 0 s:=Pu.wlist_0 (fun (k:Nat) (s:Unit) (i:Int)=>impl_BuildOk_l3 u k p0 i p1) hn (fun _ _ _=>rfl) s hk
def impl_Without_j1 (u:Nat) (p0:Int) (p1:Int) (x3:Bool):Option Int :=
  bif x3 then (some 0) else (some (bAndNot .i64 p0 p1))
def impl_Without (u:Nat) (p0:Int) (p1:Int):Option Int :=
  (impl_SetOk u p0).bind fun r1=>bif !r1 then (impl_Without_j1 u p0 p1 true) else ((impl_SetOk u p1).bind fun r2=>impl_Without_j1 u p0 p1 (!r2))
def impl_Missing (u:Nat) (p0:Manifest) (p1:Build):Option Int :=
  (impl_AllParts u p0).bind fun r1=>(impl_Without u r1 p1.fHave).bind fun r2=>some r2
def impl_Whole (u:Nat) (p0:Manifest) (p1:Build):Option Bool :=
  bif p0.fGen != 0 then ((impl_BuildOk u p0 p1).bind fun r1=>bif r1 then ((impl_Missing u p0 p1).bind fun r2=>some (r2 == 0)) else (some false)) else (some false)
def impl_isGen (u:Nat) (p0:Int):Option Bool :=
  (impl_within u p0 0 1000000).bind fun r1=>some r1
def impl_isSlot (u:Nat) (p0:Int):Option Bool :=
  bif p0 == 0 then (some true) else (some (p0 == 1))
def impl_isRecord (u:Nat) (p0:Record):Option Bool :=
  (impl_isGen u p0.fGen).bind fun r1=>bif r1 then ((impl_isSlot u p0.fSlot).bind fun r2=>bif r2 then ((impl_within u p0.fLen 0 240).bind fun r3=>some r3) else (some false)) else (some false)
def impl_Disk__slot__frz0 (u:Nat) (p0:Disk) (p1:Int):Option ((List Int)) :=
  bif p1 == 0 then (some p0.fA) else (some p0.fB)
def impl_isPut (u:Nat) (p0:Put):Option Bool :=
  bif p0.fWhat == 2 then (bif p0.fAt == 0 then (bif ((p0.fB.length:Int)) == 0 then ((impl_isRecord u p0.fR).bind fun r1=>some r1) else (some false)) else (some false)) else ((impl_isSlot u p0.fWhat).bind fun r2=>bif r2 then (bif [p0.fR.fGen,p0.fR.fSlot,p0.fR.fLen] == [0,0,0] then ((impl_within u p0.fAt 0 (bSub .i64 240 ((p0.fB.length:Int)))).bind fun r3=>some r3) else (some false)) else (some false))
def impl_DiskOk_1 (u:Nat) (p0:Put):Option Bool :=
  (impl_isPut u p0).bind fun r1=>some (!r1)
def slices_IndexFunc___impl_Put_impl_Put__impl_DiskOk_1_j1 (u:Nat)  : Option Int :=
  some (-1)
def slices_IndexFunc___impl_Put_impl_Put__impl_DiskOk_1_l2 (u:Nat) (k_slices_IndexFunc___impl_Put_impl_Put__impl_DiskOk_1_l2:Nat) (p0:List Put) (x2:Int):Option Int:=match k_slices_IndexFunc___impl_Put_impl_Put__impl_DiskOk_1_l2 with
  | 0=>none
  | k_slices_IndexFunc___impl_Put_impl_Put__impl_DiskOk_1_l2+1=>bif decide (x2 < ((p0.length:Int))) then ((idx p0 x2).bind fun y4=>(impl_DiskOk_1 u y4).bind fun r5=>bif r5 then (some x2) else ((fun z0 z1=>slices_IndexFunc___impl_Put_impl_Put__impl_DiskOk_1_l2 u k_slices_IndexFunc___impl_Put_impl_Put__impl_DiskOk_1_l2 z0 z1) p0 (bAdd .i64 x2 1))) else (slices_IndexFunc___impl_Put_impl_Put__impl_DiskOk_1_j1 u)
def slices_IndexFunc___impl_Put_impl_Put__impl_DiskOk_1 (u:Nat) (p0:List Put):Option Int :=
  slices_IndexFunc___impl_Put_impl_Put__impl_DiskOk_1_l2 u u p0 0
def slices_IndexFunc___impl_Put_impl_Put__impl_DiskOk_1_l2_f (u:Nat) (p0:List Put) (s:Unit):Option Int:=(slices_IndexFunc___impl_Put_impl_Put__impl_DiskOk_1_j1 u)
def slices_IndexFunc___impl_Put_impl_Put__impl_DiskOk_1_l2_b (u:Nat) (p0:List Put) (y4:Put) (i_:Nat) (s:Unit) (k_:Unit→Option Int):Option Int:=(impl_DiskOk_1 u y4).bind fun r5=>bif r5 then (some (i_:Int)) else ((fun z0 z1=>k_ ()) p0 (bAdd .i64 (i_:Int) 1))
theorem slices_IndexFunc___impl_Put_impl_Put__impl_DiskOk_1_l2_w (u:Nat) (p0:List Put) (s:Unit) (k:Nat) (hn:p0.length≤9223372036854775807) (hk:p0.length < k):slices_IndexFunc___impl_Put_impl_Put__impl_DiskOk_1_l2 u k p0 0=Pu.wlist (slices_IndexFunc___impl_Put_impl_Put__impl_DiskOk_1_l2_f u p0) (slices_IndexFunc___impl_Put_impl_Put__impl_DiskOk_1_l2_b u p0) p0 0 s:=Pu.wlist_0 (fun (k:Nat) (s:Unit) (i:Int)=>slices_IndexFunc___impl_Put_impl_Put__impl_DiskOk_1_l2 u k p0 i) hn (fun _ _ _=>rfl) s hk
def slices_ContainsFunc___impl_Put_impl_Put__impl_DiskOk_1 (u:Nat) (p0:List Put):Option Bool :=
  (slices_IndexFunc___impl_Put_impl_Put__impl_DiskOk_1 u p0).bind fun r1=>some (decide (r1≥0))
def impl_DiskOk_j1 (u:Nat) (p0:Disk) (x3:Bool):Option Bool :=
  bif x3 then (some false) else (bif decide (((p0.fP.length:Int))≤200) then ((slices_ContainsFunc___impl_Put_impl_Put__impl_DiskOk_1 u p0.fP).bind fun r4=>some (!r4)) else (some false))
def impl_DiskOk (u:Nat) (p0:Disk):Option Bool :=
  bif decide (((p0.fA.length:Int)) > 240) then (impl_DiskOk_j1 u p0 true) else (bif decide (((p0.fB.length:Int)) > 240) then (impl_DiskOk_j1 u p0 true) else ((impl_isRecord u p0.fR).bind fun r1=>bif !r1 then (impl_DiskOk_j1 u p0 true) else ((impl_Disk__slot__frz0 u p0 p0.fR.fSlot).bind fun r2=>impl_DiskOk_j1 u p0 (decide (p0.fR.fLen > ((r2.length:Int)))))))
def impl_Slice_j1 (u:Nat) (p0:List Int) (p1:Int) (p2:Int) (x3:Bool):Option ((List Int)×Bool) :=
  bif x3 then (some (([],false))) else ((chk (sliceOK p1 (bAdd .i64 p1 p2) p0.length)).bind fun _=>(impl_cloned u ((p0.take (Int.toNat (bAdd .i64 p1 p2))).drop (Int.toNat p1))).bind fun r5=>some ((r5,true)))
def impl_Slice (u:Nat) (p0:List Int) (p1:Int) (p2:Int):Option ((List Int)×Bool) :=
  (impl_within u p1 0 ((p0.length:Int))).bind fun r1=>bif !r1 then (impl_Slice_j1 u p0 p1 p2 true) else ((impl_within u p2 0 (bSub .i64 ((p0.length:Int)) p1)).bind fun r2=>impl_Slice_j1 u p0 p1 p2 (!r2))
def impl_BlockAt (u:Nat) (p0:List Int) (p1:Int) (p2:Int):Option ((List Int)×Bool) :=
  (impl_SpanOf u p1 ((p0.length:Int)) p2).bind fun r1=>bif r1.2 == 0 then (some (([],false))) else ((impl_Slice u p0 r1.1 r1.2).bind fun r2=>some ((r2.1,r2.2)))
def impl_Spare (u:Nat) (p0:Disk):Option Int :=
  some (bSub .i64 1 p0.fR.fSlot)
def impl_Disk__with (u:Nat) (p0:Disk) (p1:Put):Option (Disk×Bool) :=
  (impl_copyDisk u p0).bind fun r1=>(impl_copyPut u p1).bind fun r2=>(chk (decide ((r1.fP.length+([r2]).length)*64≤140737488355328))).bind fun _=>(impl_DiskOk u ((Disk.mk r1.fA r1.fB r1.fR (r1.fP++([r2]))))).bind fun r4=>bif !r4 then ((impl_copyDisk u p0).bind fun r5=>some ((r5,false))) else (some (((Disk.mk r1.fA r1.fB r1.fR (r1.fP++([r2]))),true)))
def impl_PutBytes (u:Nat) (p0:Disk) (p1:Int) (p2:Int) (p3:List Int):Option (Disk×Bool) :=
  (impl_isSlot u p1).bind fun r1=>bif !r1 then ((impl_copyDisk u p0).bind fun r2=>some ((r2,false))) else ((impl_Disk__with u p0 ((Put.mk p1 p2 p3 ((Record.mk 0 0 0))))).bind fun r3=>some ((r3.1,r3.2)))
def impl_StageAll_j2 (u:Nat) (x32:List Int) (x33:List Int) (x34:Int) (x35:Int) (x36:Int) (x37:List Put):Option (Disk×Bool) :=
  some (((Disk.mk x32 x33 ((Record.mk x34 x35 x36)) x37),true))
def impl_StageAll_l3 (u:Nat) (k_impl_StageAll_l3:Nat) (p1:List Int) (p2:Int) (r6:Int) (x14:Int) (x15:List Int) (x16:List Int) (x17:Int) (x18:Int) (x19:Int) (x20:List Put) (p0:Disk):Option (Disk×Bool):=match k_impl_StageAll_l3 with
  | 0=>none
  | k_impl_StageAll_l3+1=>bif decide (x14 < r6) then ((impl_BlockAt u p1 p2 x14).bind fun r28=>(impl_Spare u p0).bind fun r29=>(impl_PutBytes u ((Disk.mk x15 x16 ((Record.mk x17 x18 x19)) x20)) r29 (bMul .i64 x14 p2) r28.1).bind fun r30=>bif !r30.2 then ((impl_copyDisk u p0).bind fun r31=>some ((r31,false))) else ((fun z0 z1 z2 z3 z4 z5 z6 z7 z8 z9 z10=>impl_StageAll_l3 u k_impl_StageAll_l3 z0 z1 z2 z3 z4 z5 z6 z7 z8 z9 z10) p1 p2 r6 (bAdd .i64 x14 1) r30.1.fA r30.1.fB r30.1.fR.fGen r30.1.fR.fSlot r30.1.fR.fLen r30.1.fP p0)) else (impl_StageAll_j2 u x15 x16 x17 x18 x19 x20)
def impl_StageAll_j1 (u:Nat) (p1:List Int) (p2:Int) (x3:Bool) (p0:Disk):Option (Disk×Bool) :=
  bif x3 then ((impl_copyDisk u p0).bind fun r4=>some ((r4,false))) else ((impl_copyDisk u p0).bind fun r5=>(impl_Blocks u p2 ((p1.length:Int))).bind fun r6=>impl_StageAll_l3 u u p1 p2 r6 0 r5.fA r5.fB r5.fR.fGen r5.fR.fSlot r5.fR.fLen r5.fP p0)
def impl_StageAll (u:Nat) (p0:Disk) (p1:List Int) (p2:Int):Option (Disk×Bool) :=
  (impl_DiskOk u p0).bind fun r1=>bif !r1 then (impl_StageAll_j1 u p1 p2 true p0) else (bif decide (((p0.fP.length:Int)) > 0) then (impl_StageAll_j1 u p1 p2 true p0) else ((impl_SizeOk u p2 ((p1.length:Int))).bind fun r2=>impl_StageAll_j1 u p1 p2 (!r2) p0))
def impl_StageAll_l3_f (u:Nat) (p1:List Int) (p2:Int) (r6:Int) (p0:Disk) (s:(List Int)×(List Int)×Int×Int×Int×(List Put)):Option (Disk×Bool):=(impl_StageAll_j2 u s.1 s.2.1 s.2.2.1 s.2.2.2.1 s.2.2.2.2.1 s.2.2.2.2.2)
def impl_StageAll_l3_b (u:Nat) (p1:List Int) (p2:Int) (r6:Int) (p0:Disk) (i_:Nat) (s:(List Int)×(List Int)×Int×Int×Int×(List Put)) (k_:((List Int)×(List Int)×Int×Int×Int×(List Put))→Option (Disk×Bool)):Option (Disk×Bool):=(impl_BlockAt u p1 p2 (i_:Int)).bind fun r28=>(impl_Spare u p0).bind fun r29=>(impl_PutBytes u ((Disk.mk s.1 s.2.1 ((Record.mk s.2.2.1 s.2.2.2.1 s.2.2.2.2.1)) s.2.2.2.2.2)) r29 (bMul .i64 (i_:Int) p2) r28.1).bind fun r30=>bif !r30.2 then ((impl_copyDisk u p0).bind fun r31=>some ((r31,false))) else ((fun z0 z1 z2 z3 z4 z5 z6 z7 z8 z9 z10=>k_ (z4,z5,z6,z7,z8,z9)) p1 p2 r6 (bAdd .i64 (i_:Int) 1) r30.1.fA r30.1.fB r30.1.fR.fGen r30.1.fR.fSlot r30.1.fR.fLen r30.1.fP p0)
theorem impl_StageAll_l3_w (u:Nat) (p1:List Int) (p2:Int) (r6:Int) (p0:Disk) (s:(List Int)×(List Int)×Int×Int×Int×(List Put)) (k:Nat) (hn:(r6:Int)≤9223372036854775807) (hk:Int.toNat (r6) < k):impl_StageAll_l3 u k p1 p2 r6 0 s.1 s.2.1 s.2.2.1 s.2.2.2.1 s.2.2.2.2.1 s.2.2.2.2.2 p0=Pu.walk (impl_StageAll_l3_f u p1 p2 r6 p0) (impl_StageAll_l3_b u p1 p2 r6 p0) (Int.toNat (r6)) 0 s:=Pu.walk_0 (fun (k:Nat) (s:(List Int)×(List Int)×Int×Int×Int×(List Put)) (i:Int)=>impl_StageAll_l3 u k p1 p2 r6 i s.1 s.2.1 s.2.2.1 s.2.2.2.1 s.2.2.2.2.1 s.2.2.2.2.2 p0) hn (fun _ _ _=>rfl) s hk
def impl_Sure_1 (u:Nat) (p0:Int):Option Bool :=
  some true
def impl_Disk__slot (u:Nat) (p0:Disk) (p1:Int):Option (Nat×Disk) :=
  bif p1 == 0 then (some ((0,p0))) else (some ((1,p0)))
def impl_Disk__perform_j1 (u:Nat) (p1:Put) (r1:Nat×Disk) (x5:List Int):Option Disk :=
  (chk (subOK p1.fAt x5.length)).bind fun _=>some ((Disk.mk r1.2.fA (overL x5 p1.fB (Int.toNat p1.fAt)) r1.2.fR r1.2.fP))
def impl_Disk__perform_l2 (u:Nat) (k_impl_Disk__perform_l2:Nat) (p1:Put) (r1:Nat×Disk) (x3:List Int):Option Disk:=match k_impl_Disk__perform_l2 with
  | 0=>none
  | k_impl_Disk__perform_l2+1=>bif decide (((x3.length:Int)) < (bAdd .i64 p1.fAt ((p1.fB.length:Int)))) then ((chk (decide ((x3.length+(([0]:List Int)).length)*1≤140737488355328))).bind fun _=>(fun z0 z1 z2=>impl_Disk__perform_l2 u k_impl_Disk__perform_l2 z0 z1 z2) p1 r1 (x3++(([0]:List Int)))) else (impl_Disk__perform_j1 u p1 r1 x3)
def impl_Disk__perform_j3 (u:Nat) (p1:Put) (x9:List Int) (r1:Nat×Disk):Option Disk :=
  (chk (subOK p1.fAt x9.length)).bind fun _=>some ((Disk.mk (overL x9 p1.fB (Int.toNat p1.fAt)) r1.2.fB r1.2.fR r1.2.fP))
def impl_Disk__perform_l4 (u:Nat) (k_impl_Disk__perform_l4:Nat) (p1:Put) (x7:List Int) (r1:Nat×Disk):Option Disk:=match k_impl_Disk__perform_l4 with
  | 0=>none
  | k_impl_Disk__perform_l4+1=>bif decide (((x7.length:Int)) < (bAdd .i64 p1.fAt ((p1.fB.length:Int)))) then ((chk (decide ((x7.length+(([0]:List Int)).length)*1≤140737488355328))).bind fun _=>(fun z0 z1 z2=>impl_Disk__perform_l4 u k_impl_Disk__perform_l4 z0 z1 z2) p1 (x7++(([0]:List Int))) r1) else (impl_Disk__perform_j3 u p1 x7 r1)
def impl_Disk__perform (u:Nat) (p0:Disk) (p1:Put):Option Disk :=
  bif p1.fWhat == 2 then (some ((Disk.mk p0.fA p0.fB p1.fR p0.fP))) else ((impl_Disk__slot u p0 p1.fWhat).bind fun r1=>bif Nat.beq r1.1 0 then (impl_Disk__perform_l4 u u p1 r1.2.fA r1) else (bif Nat.beq r1.1 1 then (impl_Disk__perform_l2 u u p1 r1 r1.2.fB) else none))
def impl_Disk__settled__impl_Sure_1_j1 (u:Nat) (x33:List Int) (x34:List Int) (x35:Int) (x36:Int) (x37:Int) (x38:List Put):Option Disk :=
  some ((Disk.mk x33 x34 ((Record.mk x35 x36 x37)) ([])))
def impl_Disk__settled__impl_Sure_1_j3 (u:Nat) (c_impl_Disk__settled__impl_Sure_1_l2:Disk→Int→(List Int)→(List Int)→Int→Int→Int→(List Put)→Option Disk) (p0:Disk) (x10:Int) (x27:List Int) (x28:List Int) (x29:Int) (x30:Int) (x31:Int) (x32:List Put):Option Disk :=
  c_impl_Disk__settled__impl_Sure_1_l2 p0 (bAdd .i64 x10 1) x27 x28 x29 x30 x31 x32
def impl_Disk__settled__impl_Sure_1_l2 (u:Nat) (k_impl_Disk__settled__impl_Sure_1_l2:Nat) (p0:Disk) (x10:Int) (x11:List Int) (x12:List Int) (x13:Int) (x14:Int) (x15:Int) (x16:List Put):Option Disk:=match k_impl_Disk__settled__impl_Sure_1_l2 with
  | 0=>none
  | k_impl_Disk__settled__impl_Sure_1_l2+1=>bif decide (x10 < ((p0.fP.length:Int))) then ((idx p0.fP x10).bind fun y24=>(impl_Sure_1 u x10).bind fun r25=>bif r25 then ((impl_Disk__perform u ((Disk.mk x11 x12 ((Record.mk x13 x14 x15)) x16)) y24).bind fun r26=>impl_Disk__settled__impl_Sure_1_j3 u (fun z0 z1 z2 z3 z4 z5 z6 z7=>impl_Disk__settled__impl_Sure_1_l2 u k_impl_Disk__settled__impl_Sure_1_l2 z0 z1 z2 z3 z4 z5 z6 z7) p0 x10 r26.fA r26.fB r26.fR.fGen r26.fR.fSlot r26.fR.fLen r26.fP) else (impl_Disk__settled__impl_Sure_1_j3 u (fun z0 z1 z2 z3 z4 z5 z6 z7=>impl_Disk__settled__impl_Sure_1_l2 u k_impl_Disk__settled__impl_Sure_1_l2 z0 z1 z2 z3 z4 z5 z6 z7) p0 x10 x11 x12 x13 x14 x15 x16)) else (impl_Disk__settled__impl_Sure_1_j1 u x11 x12 x13 x14 x15 x16)
def impl_Disk__settled__impl_Sure_1 (u:Nat) (p0:Disk):Option Disk :=
  (impl_copyDisk u p0).bind fun r1=>(impl_DiskOk u p0).bind fun r2=>bif !r2 then (some r1) else (impl_Disk__settled__impl_Sure_1_l2 u u p0 0 r1.fA r1.fB r1.fR.fGen r1.fR.fSlot r1.fR.fLen r1.fP)
def impl_Disk__settled__impl_Sure_1_l2_f (u:Nat) (p0:Disk) (s:(List Int)×(List Int)×Int×Int×Int×(List Put)):Option Disk:=(impl_Disk__settled__impl_Sure_1_j1 u s.1 s.2.1 s.2.2.1 s.2.2.2.1 s.2.2.2.2.1 s.2.2.2.2.2)
def impl_Disk__settled__impl_Sure_1_l2_b (u:Nat) (p0:Disk) (y24:Put) (i_:Nat) (s:(List Int)×(List Int)×Int×Int×Int×(List Put)) (k_:((List Int)×(List Int)×Int×Int×Int×(List Put))→Option Disk):Option Disk:=(impl_Sure_1 u (i_:Int)).bind fun r25=>bif r25 then ((impl_Disk__perform u ((Disk.mk s.1 s.2.1 ((Record.mk s.2.2.1 s.2.2.2.1 s.2.2.2.2.1)) s.2.2.2.2.2)) y24).bind fun r26=>impl_Disk__settled__impl_Sure_1_j3 u (fun z0 z1 z2 z3 z4 z5 z6 z7=>k_ (z2,z3,z4,z5,z6,z7)) p0 (i_:Int) r26.fA r26.fB r26.fR.fGen r26.fR.fSlot r26.fR.fLen r26.fP) else (impl_Disk__settled__impl_Sure_1_j3 u (fun z0 z1 z2 z3 z4 z5 z6 z7=>k_ (z2,z3,z4,z5,z6,z7)) p0 (i_:Int) s.1 s.2.1 s.2.2.1 s.2.2.2.1 s.2.2.2.2.1 s.2.2.2.2.2)
theorem impl_Disk__settled__impl_Sure_1_l2_w (u:Nat) (p0:Disk) (s:(List Int)×(List Int)×Int×Int×Int×(List Put)) (k:Nat) (hn:p0.fP.length≤9223372036854775807) (hk:p0.fP.length < k):impl_Disk__settled__impl_Sure_1_l2 u k p0 0 s.1 s.2.1 s.2.2.1 s.2.2.2.1 s.2.2.2.2.1 s.2.2.2.2.2=Pu.wlist (impl_Disk__settled__impl_Sure_1_l2_f u p0) (impl_Disk__settled__impl_Sure_1_l2_b u p0) p0.fP 0 s:=Pu.wlist_0 (fun (k:Nat) (s:(List Int)×(List Int)×Int×Int×Int×(List Put)) (i:Int)=>impl_Disk__settled__impl_Sure_1_l2 u k p0 i s.1 s.2.1 s.2.2.1 s.2.2.2.1 s.2.2.2.2.1 s.2.2.2.2.2) hn (fun _ _ _=>rfl) s hk
def impl_Sure (u:Nat) (p0:Disk):Option Disk :=
  (impl_Disk__settled__impl_Sure_1 u p0).bind fun r1=>some r1
def impl_PutRecord (u:Nat) (p0:Disk) (p1:Record):Option (Disk×Bool) :=
  (impl_Disk__with u p0 ((Put.mk 2 0 ([]) p1))).bind fun r1=>some ((r1.1,r1.2))
def impl_NextCommit_j1 (u:Nat) (p3:Int) (p0:Disk):Option (Disk×Int) :=
  (impl_copyDisk u p0).bind fun r7=>some ((r7,p3))
def impl_NextCommit (u:Nat) (p0:Disk) (p1:Manifest) (p2:Build) (p3:Int):Option (Disk×Int) :=
  bif p3 == 1 then ((impl_Whole u p1 p2).bind fun r1=>bif !r1 then (impl_NextCommit_j1 u p3 p0) else ((impl_StageAll u p0 p2.fBuf p1.fSize).bind fun r2=>bif r2.2 then (some ((r2.1,2))) else (impl_NextCommit_j1 u p3 p0))) else (bif p3 == 2 then ((impl_Sure u p0).bind fun r3=>some ((r3,3))) else (bif p3 == 3 then ((impl_Spare u p0).bind fun r4=>(impl_PutRecord u p0 ((Record.mk p1.fGen r4 p1.fLen))).bind fun r5=>bif r5.2 then (some ((r5.1,4))) else (impl_NextCommit_j1 u p3 p0)) else (bif p3 == 4 then ((impl_Sure u p0).bind fun r6=>some ((r6,5))) else (impl_NextCommit_j1 u p3 p0))))
def impl_LackOf (u:Nat) (p0:Node):Option Int :=
  bif p0.fPhase == 0 then (some 0) else ((impl_Missing u p0.fMan p0.fBld).bind fun r1=>some r1)
def impl_PartsIn_j1 (u:Nat) (x9:List Int):Option ((List Int)) :=
  some x9
def impl_PartsIn_j3 (u:Nat) (c_impl_PartsIn_l2:Int→(List Int)→Int→Option ((List Int))) (p0:Int) (x8:List Int) (x4:Int):Option ((List Int)) :=
  c_impl_PartsIn_l2 p0 x8 (bAdd .i64 x4 1)
def impl_PartsIn_l2 (u:Nat) (k_impl_PartsIn_l2:Nat) (p0:Int) (x3:List Int) (x4:Int):Option ((List Int)):=match k_impl_PartsIn_l2 with
  | 0=>none
  | k_impl_PartsIn_l2+1=>bif decide (x4 < 40) then ((impl_InSet u p0 x4).bind fun r7=>bif r7 then ((chk (decide ((x3.length+(([x4]:List Int)).length)*8≤140737488355328))).bind fun _=>impl_PartsIn_j3 u (fun z0 z1 z2=>impl_PartsIn_l2 u k_impl_PartsIn_l2 z0 z1 z2) p0 (x3++(([x4]:List Int))) x4) else (impl_PartsIn_j3 u (fun z0 z1 z2=>impl_PartsIn_l2 u k_impl_PartsIn_l2 z0 z1 z2) p0 x3 x4)) else (impl_PartsIn_j1 u x3)
def impl_PartsIn (u:Nat) (p0:Int):Option ((List Int)) :=
  impl_PartsIn_l2 u u p0 (([]:List Int)) 0
def impl_PartsIn_l2_f (u:Nat) (p0:Int) (s:(List Int)):Option ((List Int)):=(impl_PartsIn_j1 u s)
def impl_PartsIn_l2_b (u:Nat) (p0:Int) (i_:Nat) (s:(List Int)) (k_:((List Int))→Option ((List Int))):Option ((List Int)):=(impl_InSet u p0 (i_:Int)).bind fun r7=>bif r7 then ((chk (decide ((s.length+(([(i_:Int)]:List Int)).length)*8≤140737488355328))).bind fun _=>impl_PartsIn_j3 u (fun z0 z1 z2=>k_ z1) p0 (s++(([(i_:Int)]:List Int))) (i_:Int)) else (impl_PartsIn_j3 u (fun z0 z1 z2=>k_ z1) p0 s (i_:Int))
theorem impl_PartsIn_l2_w (u:Nat) (p0:Int) (s:(List Int)) (k:Nat) (hn:(40:Int)≤9223372036854775807) (hk:Int.toNat (40) < k):impl_PartsIn_l2 u k p0 s 0=Pu.walk (impl_PartsIn_l2_f u p0) (impl_PartsIn_l2_b u p0) (Int.toNat (40)) 0 s:=Pu.walk_0 (fun (k:Nat) (s:(List Int)) (i:Int)=>impl_PartsIn_l2 u k p0 s i) hn (fun _ _ _=>rfl) s hk
def impl_FirstOf_j1 (u:Nat) (x12:Int):Option Int :=
  some x12
def impl_FirstOf_l2 (u:Nat) (k_impl_FirstOf_l2:Nat) (x5:Int) (x6:Int) (r1:(List Int)) (x7:Int):Option Int:=match k_impl_FirstOf_l2 with
  | 0=>none
  | k_impl_FirstOf_l2+1=>bif decide (x7 < ((r1.length:Int))) then ((idx r1 x7).bind fun y11=>bif decide (x5 < 1) then (impl_FirstOf_j1 u x6) else ((chk (decide (0≤y11))).bind fun _=>(fun z0 z1 z2 z3=>impl_FirstOf_l2 u k_impl_FirstOf_l2 z0 z1 z2 z3) (bSub .i64 x5 1) (bOr .i64 x6 (bShl .i64 1 y11)) r1 (bAdd .i64 x7 1))) else (impl_FirstOf_j1 u x6)
def impl_FirstOf (u:Nat) (p0:Int) (p1:Int):Option Int :=
  (impl_PartsIn u p0).bind fun r1=>impl_FirstOf_l2 u u p1 0 r1 0
def impl_FirstOf_l2_f (u:Nat) (r1:(List Int)) (s:Int×Int):Option Int:=(impl_FirstOf_j1 u s.2)
def impl_FirstOf_l2_b (u:Nat) (r1:(List Int)) (y11:Int) (i_:Nat) (s:Int×Int) (k_:(Int×Int)→Option Int):Option Int:=bif decide (s.1 < 1) then (impl_FirstOf_j1 u s.2) else ((chk (decide (0≤y11))).bind fun _=>(fun z0 z1 z2 z3=>k_ (z0,z1)) (bSub .i64 s.1 1) (bOr .i64 s.2 (bShl .i64 1 y11)) r1 (bAdd .i64 (i_:Int) 1))
theorem impl_FirstOf_l2_w (u:Nat) (r1:(List Int)) (s:Int×Int) (k:Nat) (hn:r1.length≤9223372036854775807) (hk:r1.length < k):impl_FirstOf_l2 u k s.1 s.2 r1 0=Pu.wlist (impl_FirstOf_l2_f u r1) (impl_FirstOf_l2_b u r1) r1 0 s:=Pu.wlist_0 (fun (k:Nat) (s:Int×Int) (i:Int)=>impl_FirstOf_l2 u k s.1 s.2 r1 i) hn (fun _ _ _=>rfl) s hk
def impl_WantOf (u:Nat) (p0:Node) (p1:Int):Option Int :=
  (impl_LackOf u p0).bind fun r1=>(impl_FirstOf u r1 p1).bind fun r2=>some r2
def impl_DoneOf_1 (u:Nat) (p0:Kid):Option Int :=
  some p0.fDone
def impl_unionOf__impl_DoneOf_1_j1 (u:Nat) (x11:Int):Option Int :=
  some x11
def impl_unionOf__impl_DoneOf_1_j3 (u:Nat) (c_impl_unionOf__impl_DoneOf_1_l2:Int→(List Kid)→Int→Option Int) (x10:Int) (p0:List Kid) (x4:Int):Option Int :=
  c_impl_unionOf__impl_DoneOf_1_l2 x10 p0 (bAdd .i64 x4 1)
def impl_unionOf__impl_DoneOf_1_l2 (u:Nat) (k_impl_unionOf__impl_DoneOf_1_l2:Nat) (x3:Int) (p0:List Kid) (x4:Int):Option Int:=match k_impl_unionOf__impl_DoneOf_1_l2 with
  | 0=>none
  | k_impl_unionOf__impl_DoneOf_1_l2+1=>bif decide (x4 < ((p0.length:Int))) then ((idx p0 x4).bind fun y7=>(impl_DoneOf_1 u y7).bind fun r8=>(impl_SetOk u r8).bind fun r9=>bif r9 then (impl_unionOf__impl_DoneOf_1_j3 u (fun z0 z1 z2=>impl_unionOf__impl_DoneOf_1_l2 u k_impl_unionOf__impl_DoneOf_1_l2 z0 z1 z2) (bOr .i64 x3 r8) p0 x4) else (impl_unionOf__impl_DoneOf_1_j3 u (fun z0 z1 z2=>impl_unionOf__impl_DoneOf_1_l2 u k_impl_unionOf__impl_DoneOf_1_l2 z0 z1 z2) x3 p0 x4)) else (impl_unionOf__impl_DoneOf_1_j1 u x3)
def impl_unionOf__impl_DoneOf_1 (u:Nat) (p0:List Kid):Option Int :=
  impl_unionOf__impl_DoneOf_1_l2 u u 0 p0 0
def impl_unionOf__impl_DoneOf_1_l2_f (u:Nat) (p0:List Kid) (s:Int):Option Int:=(impl_unionOf__impl_DoneOf_1_j1 u s)
def impl_unionOf__impl_DoneOf_1_l2_b (u:Nat) (p0:List Kid) (y7:Kid) (i_:Nat) (s:Int) (k_:Int→Option Int):Option Int:=(impl_DoneOf_1 u y7).bind fun r8=>(impl_SetOk u r8).bind fun r9=>bif r9 then (impl_unionOf__impl_DoneOf_1_j3 u (fun z0 z1 z2=>k_ z0) (bOr .i64 s r8) p0 (i_:Int)) else (impl_unionOf__impl_DoneOf_1_j3 u (fun z0 z1 z2=>k_ z0) s p0 (i_:Int))
theorem impl_unionOf__impl_DoneOf_1_l2_w (u:Nat) (p0:List Kid) (s:Int) (k:Nat) (hn:p0.length≤9223372036854775807) (hk:p0.length < k):impl_unionOf__impl_DoneOf_1_l2 u k s p0 0=Pu.wlist (impl_unionOf__impl_DoneOf_1_l2_f u p0) (impl_unionOf__impl_DoneOf_1_l2_b u p0) p0 0 s:=Pu.wlist_0 (fun (k:Nat) (s:Int) (i:Int)=>impl_unionOf__impl_DoneOf_1_l2 u k s p0 i) hn (fun _ _ _=>rfl) s hk
def impl_DoneOf (u:Nat) (p0:List Kid):Option Int :=
  (impl_unionOf__impl_DoneOf_1 u p0).bind fun r1=>some r1
def impl_WithPart_j1 (u:Nat) (p0:Int) (p1:Int) (x3:Bool):Option Int :=
  bif x3 then (some p0) else ((chk (decide (0≤p1))).bind fun _=>some (bOr .i64 p0 (bShl .i64 1 p1)))
def impl_WithPart (u:Nat) (p0:Int) (p1:Int):Option Int :=
  (impl_SetOk u p0).bind fun r1=>bif !r1 then (impl_WithPart_j1 u p0 p1 true) else ((impl_isPlace u p1).bind fun r2=>impl_WithPart_j1 u p0 p1 (!r2))
def impl_DoneSet_j1 (u:Nat) (x3:Int):Option Int :=
  some x3
def impl_DoneSet (u:Nat) (p0:Node) (p1:Int):Option Int :=
  (impl_DoneOf u p0.fKids).bind fun r1=>bif p0.fPhase == 5 then ((impl_WithPart u r1 p1).bind fun r2=>impl_DoneSet_j1 u r2) else (impl_DoneSet_j1 u r1)
def impl_WantMsg (u:Nat) (p0:Int) (p1:Int) (p2:Int):Option Msg :=
  some ((Msg.mk 2 p0 ((Manifest.mk 0 0 0 ([]))) p1 p2 0 ([])))
def impl_Msg__isBare (u:Nat) (p0:Msg) (p1:Bool) (p2:Bool) (p3:Bool):Option Bool :=
  bif p1 then (bif p2 then (bif p3 then (some true) else (bif p0.fI == 0 then (some (((p0.fB.length:Int)) == 0)) else (some false))) else (bif p0.fWant == 0 then (bif p0.fDone == 0 then (bif p3 then (some true) else (bif p0.fI == 0 then (some (((p0.fB.length:Int)) == 0)) else (some false))) else (some false)) else (some false))) else ((impl_isZeroMan u p0.fMan).bind fun r1=>bif r1 then (bif p2 then (bif p3 then (some true) else (bif p0.fI == 0 then (some (((p0.fB.length:Int)) == 0)) else (some false))) else (bif p0.fWant == 0 then (bif p0.fDone == 0 then (bif p3 then (some true) else (bif p0.fI == 0 then (some (((p0.fB.length:Int)) == 0)) else (some false))) else (some false)) else (some false))) else (some false))
def impl_MsgOk (u:Nat) (p0:Msg):Option Bool :=
  bif p0.fKind == 1 then ((impl_ManOk u p0.fMan).bind fun r1=>bif r1 then (bif p0.fMan.fGen != 0 then (bif p0.fGen == 0 then ((impl_Msg__isBare u p0 true false false).bind fun r2=>some r2) else (some false)) else (some false)) else (some false)) else (bif p0.fKind == 2 then ((impl_isGen u p0.fGen).bind fun r3=>bif r3 then ((impl_SetOk u p0.fWant).bind fun r4=>bif r4 then ((impl_SetOk u p0.fDone).bind fun r5=>bif r5 then ((impl_Msg__isBare u p0 false true false).bind fun r6=>some r6) else (some false)) else (some false)) else (some false)) else (bif p0.fKind == 3 then ((impl_within u p0.fGen 1 1000000).bind fun r7=>bif r7 then ((impl_isPlace u p0.fI).bind fun r8=>bif r8 then ((impl_within u ((p0.fB.length:Int)) 1 6).bind fun r9=>bif r9 then ((impl_Msg__isBare u p0 false false true).bind fun r10=>some r10) else (some false)) else (some false)) else (some false)) else (bif p0.fKind == 4 then ((impl_isGen u p0.fGen).bind fun r11=>bif r11 then ((impl_Msg__isBare u p0 false false false).bind fun r12=>some r12) else (some false)) else (some false))))
def impl_appendVar_j1 (u:Nat) (x7:List Int) (x8:Int):Option ((List Int)) :=
  (chk (decide ((x7.length+(([IntKind.wrap .u8 x8]:List Int)).length)*1≤140737488355328))).bind fun _=>some (x7++(([IntKind.wrap .u8 x8]:List Int)))
def impl_appendVar_l2 (u:Nat) (k_impl_appendVar_l2:Nat) (x3:List Int) (x4:Int):Option ((List Int)):=match k_impl_appendVar_l2 with
  | 0=>none
  | k_impl_appendVar_l2+1=>bif decide (x4≥128) then ((chk (decide ((x3.length+(([bOr .u8 (IntKind.wrap .u8 x4) 128]:List Int)).length)*1≤140737488355328))).bind fun _=>(fun z0 z1=>impl_appendVar_l2 u k_impl_appendVar_l2 z0 z1) (x3++(([bOr .u8 (IntKind.wrap .u8 x4) 128]:List Int))) (bShr .i64 x4 7)) else (impl_appendVar_j1 u x3 x4)
def impl_appendVar (u:Nat) (p0:List Int) (p1:Int):Option ((List Int)) :=
  impl_appendVar_l2 u u p0 p1
def impl_PutVar (u:Nat) (p0:List Int) (p1:Int):Option ((List Int)) :=
  (impl_cloned u p0).bind fun r1=>(impl_within u p1 0 1000000000000).bind fun r2=>bif !r2 then (some r1) else ((impl_appendVar u r1 p1).bind fun r3=>some r3)
def impl_PutMan_j1 (u:Nat) (x14:List Int):Option ((List Int)) :=
  some x14
def impl_PutMan_l2 (u:Nat) (k_impl_PutMan_l2:Nat) (x8:List Int) (p1:Manifest) (x9:Int):Option ((List Int)):=match k_impl_PutMan_l2 with
  | 0=>none
  | k_impl_PutMan_l2+1=>bif decide (x9 < ((p1.fSums.length:Int))) then ((idx p1.fSums x9).bind fun y12=>(impl_appendVar u x8 y12.fS).bind fun r13=>(fun z0 z1 z2=>impl_PutMan_l2 u k_impl_PutMan_l2 z0 z1 z2) r13 p1 (bAdd .i64 x9 1)) else (impl_PutMan_j1 u x8)
def impl_PutMan (u:Nat) (p0:List Int) (p1:Manifest):Option ((List Int)) :=
  (impl_ManOk u p1).bind fun r1=>bif !r1 then ((impl_cloned u p0).bind fun r2=>some r2) else ((impl_PutVar u p0 p1.fGen).bind fun r3=>(impl_PutVar u r3 p1.fSize).bind fun r4=>(impl_PutVar u r4 p1.fLen).bind fun r5=>impl_PutMan_l2 u u r5 p1 0)
def impl_PutMan_l2_f (u:Nat) (p1:Manifest) (s:(List Int)):Option ((List Int)):=(impl_PutMan_j1 u s)
def impl_PutMan_l2_b (u:Nat) (p1:Manifest) (y12:Sum) (i_:Nat) (s:(List Int)) (k_:((List Int))→Option ((List Int))):Option ((List Int)):=(impl_appendVar u s y12.fS).bind fun r13=>(fun z0 z1 z2=>k_ z0) r13 p1 (bAdd .i64 (i_:Int) 1)
theorem impl_PutMan_l2_w (u:Nat) (p1:Manifest) (s:(List Int)) (k:Nat) (hn:p1.fSums.length≤9223372036854775807) (hk:p1.fSums.length < k):impl_PutMan_l2 u k s p1 0=Pu.wlist (impl_PutMan_l2_f u p1) (impl_PutMan_l2_b u p1) p1.fSums 0 s:=Pu.wlist_0 (fun (k:Nat) (s:(List Int)) (i:Int)=>impl_PutMan_l2 u k s p1 i) hn (fun _ _ _=>rfl) s hk
def impl_putSet (u:Nat) (p0:List Int) (p1:Int):Option ((List Int)) :=
  (impl_PutVar u p0 (bAnd .i64 p1 1048575)).bind fun r1=>(impl_PutVar u r1 (bShr .i64 p1 20)).bind fun r2=>some r2
def impl_PutPart (u:Nat) (p0:List Int) (p1:List Int):Option ((List Int)) :=
  (impl_PutVar u p0 ((p1.length:Int))).bind fun r1=>(chk (decide ((r1.length+p1.length)*1≤140737488355328))).bind fun _=>some (r1++p1)
def impl_PutMsg_j1 (u:Nat) (x11:List Int):Option ((List Int)) :=
  (impl_WeakOf u x11).bind fun r12=>(impl_PutVar u x11 r12).bind fun r13=>some r13
def impl_PutMsg (u:Nat) (p0:Msg):Option ((List Int)) :=
  (impl_MsgOk u p0).bind fun r1=>bif !r1 then (some ([])) else ((impl_PutVar u ([]) p0.fKind).bind fun r2=>bif p0.fKind == 1 then ((impl_PutMan u r2 p0.fMan).bind fun r3=>impl_PutMsg_j1 u r3) else (bif p0.fKind == 2 then ((impl_PutVar u r2 p0.fGen).bind fun r4=>(impl_putSet u r4 p0.fWant).bind fun r5=>(impl_putSet u r5 p0.fDone).bind fun r6=>impl_PutMsg_j1 u r6) else (bif p0.fKind == 3 then ((impl_PutVar u r2 p0.fGen).bind fun r7=>(impl_PutVar u r7 p0.fI).bind fun r8=>(impl_PutPart u r8 p0.fB).bind fun r9=>impl_PutMsg_j1 u r9) else (bif p0.fKind == 4 then ((impl_PutVar u r2 p0.fGen).bind fun r10=>impl_PutMsg_j1 u r10) else (impl_PutMsg_j1 u r2)))))
def impl_PacketOf (u:Nat) (p0:Int) (p1:Int) (p2:Msg):Option Packet :=
  (impl_PutMsg u p2).bind fun r1=>some ((Packet.mk p0 p1 r1))
def impl_Tick_j1 (u:Nat) (p2:Int) (p1:Conf) (p3:Node) (p4:Disk) (r1:Node) (x5:Int) (x6:Int) (r3:(List Kid)) (r2:Disk):Option Beat :=
  (impl_NextCommit u p4 p3.fMan p3.fBld p3.fPhase).bind fun r7=>(impl_WantOf u ((Node.mk r1.fOn x5 x6 r1.fMan r1.fBld r7.2 r3 r1.fDrops)) p1.fWindow).bind fun r8=>(impl_DoneSet u ((Node.mk r1.fOn x5 x6 r1.fMan r1.fBld r7.2 r3 r1.fDrops)) p2).bind fun r9=>(impl_WantMsg u p3.fMan.fGen r8 r9).bind fun r10=>(impl_PacketOf u p2 x5 r10).bind fun r11=>some ((Beat.mk ((Node.mk r1.fOn x5 x6 r1.fMan r1.fBld r7.2 r3 r1.fDrops)) r7.1 ([r11])))
def impl_Tick (u:Nat) (p0:Tree) (p1:Conf) (p2:Int) (p3:Node) (p4:Disk):Option Beat :=
  (impl_copyNode u p3).bind fun r1=>(impl_copyDisk u p4).bind fun r2=>bif !p3.fOn then (some ((Beat.mk r1 r2 ([])))) else ((impl_AgeAll u p3.fKids p1.fForget).bind fun r3=>bif p2 == 0 then (some ((Beat.mk ((Node.mk r1.fOn r1.fBoss r1.fQuiet r1.fMan r1.fBld r1.fPhase r3 r1.fDrops)) r2 ([])))) else (bif decide (p3.fQuiet≥p1.fSuspect) then ((impl_NextBoss u p0 p2 p3.fBoss).bind fun r4=>impl_Tick_j1 u p2 p1 p3 p4 r1 r4 0 r3 r2) else (impl_Tick_j1 u p2 p1 p3 p4 r1 r1.fBoss (bAdd .i64 r1.fQuiet 1) r3 r2)))
def spec_DrawTicks (u:Nat) (p0:List Int):Option (Tree×Conf×Int×Node×Disk×Int) :=
  (spec_l19Node u p0).bind fun r1=>(spec_l1Int u r1.1 (([0,1,3,8,101,-1]:List Int))).bind fun r2=>some ((r1.2.1,r1.2.2.1,r1.2.2.2.1,r1.2.2.2.2.1,r1.2.2.2.2.2,r2.1))
def spec_DrawConfOk (u:Nat) (p0:List Int):Option Conf :=
  (spec_l1New u p0).bind fun r1=>(spec_l19Any u r1).bind fun r2=>some r2.1
def spec_l15Node (u:Nat) (p0:List Int):Option (l1Cur×Node) :=
  (spec_l1New u p0).bind fun r1=>(spec_l15Any u r1).bind fun r2=>some ((r2.2.2.2,r2.2.2.1))
def spec_DrawSuspects (u:Nat) (p0:List Int):Option (Conf×Node) :=
  (spec_l15Node u p0).bind fun r1=>(spec_l1Below u r1.1 5).bind fun r2=>(spec_l19Any u r2.2).bind fun r3=>some ((r3.1,(Node.mk r1.2.fOn r1.2.fBoss r2.1 r1.2.fMan r1.2.fBld r1.2.fPhase r1.2.fKids r1.2.fDrops)))
def spec_DrawTicksToDone (u:Nat) (p0:List Int):Option Node :=
  (spec_l15Node u p0).bind fun r1=>some r1.2
def spec_l8Copy (u:Nat) (p0:Build):Option Build :=
  (chk (decide (((([]:List Int)).length+p0.fBuf.length)*1≤140737488355328))).bind fun _=>some ((Build.mk p0.fHave ((([]:List Int))++p0.fBuf)))
def spec_l15Copy (u:Nat) (p0:Node):Option Node :=
  (spec_l6Copy u p0.fMan).bind fun r1=>(spec_l8Copy u p0.fBld).bind fun r2=>(chk (decide (((([]:List Kid)).length+p0.fKids.length)*40≤140737488355328))).bind fun _=>some ((Node.mk p0.fOn p0.fBoss p0.fQuiet r1 r2 p0.fPhase ((([]:List Kid))++p0.fKids) p0.fDrops))
def spec_TreeOk_j2 (u:Nat)  : Option Bool :=
  some true
def spec_TreeOk_l3 (u:Nat) (k_spec_TreeOk_l3:Nat) (x5:Int) (p0:Tree):Option Bool:=match k_spec_TreeOk_l3 with
  | 0=>none
  | k_spec_TreeOk_l3+1=>bif decide (x5 < ((p0.fUp.length:Int))) then ((idx p0.fUp x5).bind fun y7=>(spec_l1In u y7 0 (bSub .i64 x5 1)).bind fun r8=>bif !r8 then (some false) else ((fun z0 z1=>spec_TreeOk_l3 u k_spec_TreeOk_l3 z0 z1) (bAdd .i64 x5 1) p0)) else (spec_TreeOk_j2 u)
def spec_TreeOk_j1 (u:Nat) (x3:Bool) (p0:Tree):Option Bool :=
  bif x3 then (some false) else (spec_TreeOk_l3 u u 1 p0)
def spec_TreeOk (u:Nat) (p0:Tree):Option Bool :=
  (spec_l1In u ((p0.fUp.length:Int)) 1 7).bind fun r1=>bif !r1 then (spec_TreeOk_j1 u true p0) else ((idx p0.fUp 0).bind fun y2=>spec_TreeOk_j1 u (y2 != (-1)) p0)
def spec_TreeOk_l3_f (u:Nat) (p0:Tree) (s:Unit):Option Bool:=(spec_TreeOk_j2 u)
def spec_TreeOk_l3_b (u:Nat) (p0:Tree) (y7:Int) (i_:Nat) (s:Unit) (k_:Unit→Option Bool):Option Bool:=(spec_l1In u y7 0 (bSub .i64 (i_:Int) 1)).bind fun r8=>bif !r8 then (some false) else ((fun z0 z1=>k_ ()) (bAdd .i64 (i_:Int) 1) p0)
theorem spec_TreeOk_l3_w (u:Nat) (p0:Tree) (s:Unit) (k:Nat) (hn:p0.fUp.length≤9223372036854775807) (hk:p0.fUp.length < k):spec_TreeOk_l3 u k 0 p0=Pu.wlist (spec_TreeOk_l3_f u p0) (spec_TreeOk_l3_b u p0) p0.fUp 0 s:=Pu.wlist_0 (fun (k:Nat) (s:Unit) (i:Int)=>spec_TreeOk_l3 u k i p0) hn (fun _ _ _=>rfl) s hk
def spec_l13Has_j1 (u:Nat)  : Option Bool :=
  some false
def spec_l13Has_l2 (u:Nat) (k_spec_l13Has_l2:Nat) (p0:List Int) (p1:Int) (x2:Int):Option Bool:=match k_spec_l13Has_l2 with
  | 0=>none
  | k_spec_l13Has_l2+1=>bif decide (x2 < ((p0.length:Int))) then ((idx p0 x2).bind fun y4=>bif y4 == p1 then (some true) else ((fun z0 z1 z2=>spec_l13Has_l2 u k_spec_l13Has_l2 z0 z1 z2) p0 p1 (bAdd .i64 x2 1))) else (spec_l13Has_j1 u)
def spec_l13Has (u:Nat) (p0:List Int) (p1:Int):Option Bool :=
  spec_l13Has_l2 u u p0 p1 0
def spec_l13Has_l2_f (u:Nat) (p0:List Int) (p1:Int) (s:Unit):Option Bool:=(spec_l13Has_j1 u)
def spec_l13Has_l2_b (u:Nat) (p0:List Int) (p1:Int) (y4:Int) (i_:Nat) (s:Unit) (k_:Unit→Option Bool):Option Bool:=bif y4 == p1 then (some true) else ((fun z0 z1 z2=>k_ ()) p0 p1 (bAdd .i64 (i_:Int) 1))
theorem spec_l13Has_l2_w (u:Nat) (p0:List Int) (p1:Int) (s:Unit) (k:Nat) (hn:p0.length≤9223372036854775807) (hk:p0.length < k):spec_l13Has_l2 u k p0 p1 0=Pu.wlist (spec_l13Has_l2_f u p0 p1) (spec_l13Has_l2_b u p0 p1) p0 0 s:=Pu.wlist_0 (fun (k:Nat) (s:Unit) (i:Int)=>spec_l13Has_l2 u k p0 p1 i) hn (fun _ _ _=>rfl) s hk
def spec_Ancestor (u:Nat) (p0:Tree) (p1:Int) (p2:Int):Option Bool :=
  bif p1 != p2 then ((spec_PathUp u p0 p2).bind fun r1=>(spec_l13Has u r1 p1).bind fun r2=>some r2) else (some false)
def spec_NextBoss_j2 (u:Nat) (p1:Int) (p2:Int) (x5:Bool) (p0:Tree):Option Int :=
  bif x5 then ((idx p0.fUp p1).bind fun y6=>some y6) else ((idx p0.fUp p2).bind fun y7=>some y7)
def spec_NextBoss_j1 (u:Nat) (p1:Int) (p2:Int) (x3:Bool) (p0:Tree):Option Int :=
  bif x3 then (some (-1)) else (bif decide (p2≤0) then (spec_NextBoss_j2 u p1 p2 true p0) else ((spec_Ancestor u p0 p2 p1).bind fun r4=>spec_NextBoss_j2 u p1 p2 (!r4) p0))
def spec_NextBoss (u:Nat) (p0:Tree) (p1:Int) (p2:Int):Option Int :=
  (spec_TreeOk u p0).bind fun r1=>bif !r1 then (spec_NextBoss_j1 u p1 p2 true p0) else ((spec_l1In u p1 1 (bSub .i64 ((p0.fUp.length:Int)) 1)).bind fun r2=>spec_NextBoss_j1 u p1 p2 (!r2) p0)
def spec_LackOf (u:Nat) (p0:Node):Option Int :=
  bif p0.fPhase == 0 then (some 0) else ((spec_Missing u p0.fMan p0.fBld).bind fun r1=>some r1)
def spec_FirstOf_j1 (u:Nat) (x14:Int):Option Int :=
  some x14
def spec_FirstOf_j4 (u:Nat) (c_spec_FirstOf_l2:Int→Int→Int→Int→Option Int) (p0:Int) (x12:Int) (x13:Int) (x6:Int):Option Int :=
  c_spec_FirstOf_l2 p0 x12 x13 (bAdd .i64 x6 1)
def spec_FirstOf_j3 (u:Nat) (c_spec_FirstOf_l2:Int→Int→Int→Int→Option Int) (p0:Int) (x4:Int) (x5:Int) (x6:Int) (x10:Bool):Option Int :=
  bif x10 then ((spec_InSet u p0 x6).bind fun r11=>bif r11 then ((chk (decide (0≤x6))).bind fun _=>spec_FirstOf_j4 u c_spec_FirstOf_l2 p0 (bSub .i64 x4 1) (bOr .i64 x5 (bShl .i64 1 x6)) x6) else (spec_FirstOf_j4 u c_spec_FirstOf_l2 p0 x4 x5 x6)) else (spec_FirstOf_j1 u x5)
def spec_FirstOf_l2 (u:Nat) (k_spec_FirstOf_l2:Nat) (p0:Int) (x4:Int) (x5:Int) (x6:Int):Option Int:=match k_spec_FirstOf_l2 with
  | 0=>none
  | k_spec_FirstOf_l2+1=>bif decide (x6 < 40) then (spec_FirstOf_j3 u (fun z0 z1 z2 z3=>spec_FirstOf_l2 u k_spec_FirstOf_l2 z0 z1 z2 z3) p0 x4 x5 x6 (decide (x4 > 0))) else (spec_FirstOf_j3 u (fun z0 z1 z2 z3=>spec_FirstOf_l2 u k_spec_FirstOf_l2 z0 z1 z2 z3) p0 x4 x5 x6 false)
def spec_FirstOf (u:Nat) (p0:Int) (p1:Int):Option Int :=
  spec_FirstOf_l2 u u p0 p1 0 0
def spec_WantOf (u:Nat) (p0:Node) (p1:Int):Option Int :=
  (spec_LackOf u p0).bind fun r1=>(spec_FirstOf u r1 p1).bind fun r2=>some r2
def spec_DoneOf_j1 (u:Nat) (x11:Int):Option Int :=
  some x11
def spec_DoneOf_j3 (u:Nat) (c_spec_DoneOf_l2:(List Kid)→Int→Int→Option Int) (p0:List Kid) (x10:Int) (x4:Int):Option Int :=
  c_spec_DoneOf_l2 p0 x10 (bAdd .i64 x4 1)
def spec_DoneOf_l2 (u:Nat) (k_spec_DoneOf_l2:Nat) (p0:List Kid) (x3:Int) (x4:Int):Option Int:=match k_spec_DoneOf_l2 with
  | 0=>none
  | k_spec_DoneOf_l2+1=>bif decide (x4 < ((p0.length:Int))) then ((idx p0 x4).bind fun y7=>(spec_SetOk u y7.fDone).bind fun r8=>bif r8 then ((idx p0 x4).bind fun y9=>spec_DoneOf_j3 u (fun z0 z1 z2=>spec_DoneOf_l2 u k_spec_DoneOf_l2 z0 z1 z2) p0 (bOr .i64 x3 y9.fDone) x4) else (spec_DoneOf_j3 u (fun z0 z1 z2=>spec_DoneOf_l2 u k_spec_DoneOf_l2 z0 z1 z2) p0 x3 x4)) else (spec_DoneOf_j1 u x3)
def spec_DoneOf (u:Nat) (p0:List Kid):Option Int :=
  spec_DoneOf_l2 u u p0 0 0
def spec_DoneOf_l2_f (u:Nat) (p0:List Kid) (s:Int):Option Int:=(spec_DoneOf_j1 u s)
def spec_DoneOf_l2_b (u:Nat) (p0:List Kid) (y7:Kid) (i_:Nat) (s:Int) (k_:Int→Option Int):Option Int:=(spec_SetOk u y7.fDone).bind fun r8=>bif r8 then ((idx p0 (i_:Int)).bind fun y9=>spec_DoneOf_j3 u (fun z0 z1 z2=>k_ z1) p0 (bOr .i64 s y9.fDone) (i_:Int)) else (spec_DoneOf_j3 u (fun z0 z1 z2=>k_ z1) p0 s (i_:Int))
theorem spec_DoneOf_l2_w (u:Nat) (p0:List Kid) (s:Int) (k:Nat) (hn:p0.length≤9223372036854775807) (hk:p0.length < k):spec_DoneOf_l2 u k p0 s 0=Pu.wlist (spec_DoneOf_l2_f u p0) (spec_DoneOf_l2_b u p0) p0 0 s:=Pu.wlist_0 (fun (k:Nat) (s:Int) (i:Int)=>spec_DoneOf_l2 u k p0 s i) hn (fun _ _ _=>rfl) s hk
def spec_DoneSet_j1 (u:Nat) (x3:Int):Option Int :=
  some x3
def spec_DoneSet (u:Nat) (p0:Node) (p1:Int):Option Int :=
  (spec_DoneOf u p0.fKids).bind fun r1=>bif p0.fPhase == 5 then ((spec_WithPart u r1 p1).bind fun r2=>spec_DoneSet_j1 u r2) else (spec_DoneSet_j1 u r1)
def spec_WantMsg (u:Nat) (p0:Int) (p1:Int) (p2:Int):Option Msg :=
  some ((Msg.mk 2 p0 ((Manifest.mk 0 0 0 ([]))) p1 p2 0 ([])))
def spec_SameMan (u:Nat) (p0:Manifest) (p1:Manifest):Option Bool :=
  bif p0.fGen == p1.fGen then (bif p0.fSize == p1.fSize then (bif p0.fLen == p1.fLen then ((spec_l6SameSums u p0.fSums p1.fSums).bind fun r1=>some r1) else (some false)) else (some false)) else (some false)
def spec_MsgOk_j1 (u:Nat) (r1:Bool) (x2:Bool) (p0:Msg):Option Bool :=
  bif p0.fKind == 1 then (bif p0.fGen == 0 then (bif p0.fMan.fGen != 0 then ((spec_ManOk u p0.fMan).bind fun r3=>bif r3 then (some x2) else (some false)) else (some false)) else (some false)) else (bif p0.fKind == 2 then ((spec_l1In u p0.fGen 0 1000000).bind fun r4=>bif r4 then (bif r1 then ((spec_SetOk u p0.fWant).bind fun r5=>bif r5 then ((spec_SetOk u p0.fDone).bind fun r6=>bif r6 then (bif p0.fI == 0 then (some (((p0.fB.length:Int)) == 0)) else (some false)) else (some false)) else (some false)) else (some false)) else (some false)) else (bif p0.fKind == 3 then ((spec_l1In u p0.fGen 1 1000000).bind fun r7=>bif r7 then (bif r1 then (bif p0.fWant == 0 then (bif p0.fDone == 0 then ((spec_l1In u p0.fI 0 39).bind fun r8=>bif r8 then ((spec_l1In u ((p0.fB.length:Int)) 1 6).bind fun r9=>some r9) else (some false)) else (some false)) else (some false)) else (some false)) else (some false)) else (bif p0.fKind == 4 then ((spec_l1In u p0.fGen 0 1000000).bind fun r10=>bif r10 then (bif r1 then (some x2) else (some false)) else (some false)) else (some false))))
def spec_MsgOk (u:Nat) (p0:Msg):Option Bool :=
  (spec_SameMan u p0.fMan ((Manifest.mk 0 0 0 ([])))).bind fun r1=>bif p0.fWant == 0 then (bif p0.fDone == 0 then (bif p0.fI == 0 then (spec_MsgOk_j1 u r1 (((p0.fB.length:Int)) == 0) p0) else (spec_MsgOk_j1 u r1 false p0)) else (spec_MsgOk_j1 u r1 false p0)) else (spec_MsgOk_j1 u r1 false p0)
def spec_PutVar_j1 (u:Nat) (x9:Int) (x10:List Int):Option ((List Int)) :=
  (chk (decide ((x10.length+(([IntKind.wrap .u8 x9]:List Int)).length)*1≤140737488355328))).bind fun _=>some (x10++(([IntKind.wrap .u8 x9]:List Int)))
def spec_PutVar_l2 (u:Nat) (k_spec_PutVar_l2:Nat) (x5:Int) (x6:List Int):Option ((List Int)):=match k_spec_PutVar_l2 with
  | 0=>none
  | k_spec_PutVar_l2+1=>bif decide (x5 > 127) then ((chk (decide ((x6.length+(([IntKind.wrap .u8 (bOr .i64 (bAnd .i64 x5 127) 128)]:List Int)).length)*1≤140737488355328))).bind fun _=>(fun z0 z1=>spec_PutVar_l2 u k_spec_PutVar_l2 z0 z1) (bShr .i64 x5 7) (x6++(([IntKind.wrap .u8 (bOr .i64 (bAnd .i64 x5 127) 128)]:List Int)))) else (spec_PutVar_j1 u x5 x6)
def spec_PutVar (u:Nat) (p0:List Int) (p1:Int):Option ((List Int)) :=
  (chk (decide (((([]:List Int)).length+p0.length)*1≤140737488355328))).bind fun _=>(spec_l1In u p1 0 1000000000000).bind fun r2=>bif !r2 then (some ((([]:List Int))++p0)) else (spec_PutVar_l2 u u p1 ((([]:List Int))++p0))
def spec_l6PutSum_j1 (u:Nat) (x7:List Int) (x8:Int):Option ((List Int)) :=
  (chk (decide ((x7.length+(([IntKind.wrap .u8 x8]:List Int)).length)*1≤140737488355328))).bind fun _=>some (x7++(([IntKind.wrap .u8 x8]:List Int)))
def spec_l6PutSum_l2 (u:Nat) (k_spec_l6PutSum_l2:Nat) (x3:List Int) (x4:Int):Option ((List Int)):=match k_spec_l6PutSum_l2 with
  | 0=>none
  | k_spec_l6PutSum_l2+1=>bif decide (x4 > 127) then ((chk (decide ((x3.length+(([IntKind.wrap .u8 (bOr .i64 (bAnd .i64 x4 127) 128)]:List Int)).length)*1≤140737488355328))).bind fun _=>(fun z0 z1=>spec_l6PutSum_l2 u k_spec_l6PutSum_l2 z0 z1) (x3++(([IntKind.wrap .u8 (bOr .i64 (bAnd .i64 x4 127) 128)]:List Int))) (bShr .i64 x4 7)) else (spec_l6PutSum_j1 u x3 x4)
def spec_l6PutSum (u:Nat) (p0:List Int) (p1:Int):Option ((List Int)) :=
  spec_l6PutSum_l2 u u p0 p1
def spec_PutMan_j1 (u:Nat) (x14:List Int):Option ((List Int)) :=
  some x14
def spec_PutMan_l2 (u:Nat) (k_spec_PutMan_l2:Nat) (x8:List Int) (x9:Int) (p1:Manifest):Option ((List Int)):=match k_spec_PutMan_l2 with
  | 0=>none
  | k_spec_PutMan_l2+1=>bif decide (x9 < ((p1.fSums.length:Int))) then ((idx p1.fSums x9).bind fun y12=>(spec_l6PutSum u x8 y12.fS).bind fun r13=>(fun z0 z1 z2=>spec_PutMan_l2 u k_spec_PutMan_l2 z0 z1 z2) r13 (bAdd .i64 x9 1) p1) else (spec_PutMan_j1 u x8)
def spec_PutMan (u:Nat) (p0:List Int) (p1:Manifest):Option ((List Int)) :=
  (chk (decide (((([]:List Int)).length+p0.length)*1≤140737488355328))).bind fun _=>(spec_ManOk u p1).bind fun r2=>bif !r2 then (some ((([]:List Int))++p0)) else ((spec_PutVar u ((([]:List Int))++p0) p1.fGen).bind fun r3=>(spec_PutVar u r3 p1.fSize).bind fun r4=>(spec_PutVar u r4 p1.fLen).bind fun r5=>spec_PutMan_l2 u u r5 0 p1)
def spec_PutMan_l2_f (u:Nat) (p1:Manifest) (s:(List Int)):Option ((List Int)):=(spec_PutMan_j1 u s)
def spec_PutMan_l2_b (u:Nat) (p1:Manifest) (y12:Sum) (i_:Nat) (s:(List Int)) (k_:((List Int))→Option ((List Int))):Option ((List Int)):=(spec_l6PutSum u s y12.fS).bind fun r13=>(fun z0 z1 z2=>k_ z0) r13 (bAdd .i64 (i_:Int) 1) p1
theorem spec_PutMan_l2_w (u:Nat) (p1:Manifest) (s:(List Int)) (k:Nat) (hn:p1.fSums.length≤9223372036854775807) (hk:p1.fSums.length < k):spec_PutMan_l2 u k s 0 p1=Pu.wlist (spec_PutMan_l2_f u p1) (spec_PutMan_l2_b u p1) p1.fSums 0 s:=Pu.wlist_0 (fun (k:Nat) (s:(List Int)) (i:Int)=>spec_PutMan_l2 u k s i p1) hn (fun _ _ _=>rfl) s hk
def spec_l12Half (u:Nat) (p0:Int):Option (Int×Int) :=
  some ((bAnd .i64 p0 1048575,bShr .i64 p0 20))
def spec_PutPart (u:Nat) (p0:List Int) (p1:List Int):Option ((List Int)) :=
  (spec_PutVar u p0 ((p1.length:Int))).bind fun r1=>(chk (decide ((r1.length+p1.length)*1≤140737488355328))).bind fun _=>some (r1++p1)
def spec_PutMsg_j1 (u:Nat) (x15:List Int):Option ((List Int)) :=
  (spec_WeakOf u x15).bind fun r16=>(spec_PutVar u x15 r16).bind fun r17=>some r17
def spec_PutMsg (u:Nat) (p0:Msg):Option ((List Int)) :=
  (spec_MsgOk u p0).bind fun r1=>bif !r1 then (some (([]:List Int))) else ((spec_PutVar u (([]:List Int)) p0.fKind).bind fun r2=>bif p0.fKind == 1 then ((spec_PutMan u r2 p0.fMan).bind fun r3=>spec_PutMsg_j1 u r3) else (bif p0.fKind == 2 then ((spec_l12Half u p0.fWant).bind fun r4=>(spec_PutVar u r2 p0.fGen).bind fun r5=>(spec_PutVar u r5 r4.1).bind fun r6=>(spec_PutVar u r6 r4.2).bind fun r7=>(spec_l12Half u p0.fDone).bind fun r8=>(spec_PutVar u r7 r8.1).bind fun r9=>(spec_PutVar u r9 r8.2).bind fun r10=>spec_PutMsg_j1 u r10) else (bif p0.fKind == 3 then ((spec_PutVar u r2 p0.fGen).bind fun r11=>(spec_PutVar u r11 p0.fI).bind fun r12=>(spec_PutPart u r12 p0.fB).bind fun r13=>spec_PutMsg_j1 u r13) else ((spec_PutVar u r2 p0.fGen).bind fun r14=>spec_PutMsg_j1 u r14))))
def spec_PacketOf (u:Nat) (p0:Int) (p1:Int) (p2:Msg):Option Packet :=
  (spec_PutMsg u p2).bind fun r1=>some ((Packet.mk p0 p1 r1))
def spec_Tick_j1 (u:Nat) (p2:Int) (p1:Conf) (p4:Disk) (r1:Node) (x5:Int) (x6:Int) (r3:(List Kid)) (r2:Disk):Option Beat :=
  (spec_NextCommit u p4 r1.fMan r1.fBld r1.fPhase).bind fun r7=>(spec_WantOf u ((Node.mk r1.fOn x5 x6 r1.fMan r1.fBld r7.2 r3 r1.fDrops)) p1.fWindow).bind fun r8=>(spec_DoneSet u ((Node.mk r1.fOn x5 x6 r1.fMan r1.fBld r7.2 r3 r1.fDrops)) p2).bind fun r9=>(spec_WantMsg u r1.fMan.fGen r8 r9).bind fun r10=>(spec_PacketOf u p2 x5 r10).bind fun r11=>(chk (decide (((([]:List Packet)).length+([r11]).length)*40≤140737488355328))).bind fun _=>some ((Beat.mk ((Node.mk r1.fOn x5 x6 r1.fMan r1.fBld r7.2 r3 r1.fDrops)) r7.1 ((([]:List Packet))++([r11]))))
def spec_Tick (u:Nat) (p0:Tree) (p1:Conf) (p2:Int) (p3:Node) (p4:Disk):Option Beat :=
  (spec_l15Copy u p3).bind fun r1=>(spec_l9Copy u p4).bind fun r2=>bif !p3.fOn then (some ((Beat.mk r1 r2 (([]:List Packet))))) else ((spec_AgeAll u p3.fKids p1.fForget).bind fun r3=>bif p2 == 0 then (some ((Beat.mk ((Node.mk r1.fOn r1.fBoss r1.fQuiet r1.fMan r1.fBld r1.fPhase r3 r1.fDrops)) r2 (([]:List Packet))))) else (bif decide (r1.fQuiet≥p1.fSuspect) then ((spec_NextBoss u p0 p2 p3.fBoss).bind fun r4=>spec_Tick_j1 u p2 p1 p4 r1 r4 0 r3 r2) else (spec_Tick_j1 u p2 p1 p4 r1 r1.fBoss (bAdd .i64 r1.fQuiet 1) r3 r2)))
def laws_sameSums_j1 (u:Nat)  : Option Bool :=
  some true
def laws_sameSums_l2 (u:Nat) (k_laws_sameSums_l2:Nat) (p0:List Sum) (p1:List Sum) (x2:Int):Option Bool:=match k_laws_sameSums_l2 with
  | 0=>none
  | k_laws_sameSums_l2+1=>bif decide (x2 < ((p0.length:Int))) then ((idx p0 x2).bind fun y4=>(idx p1 x2).bind fun y5=>bif !([y4.fW,y4.fS] == [y5.fW,y5.fS]) then (some false) else ((fun z0 z1 z2=>laws_sameSums_l2 u k_laws_sameSums_l2 z0 z1 z2) p0 p1 (bAdd .i64 x2 1))) else (laws_sameSums_j1 u)
def laws_sameSums (u:Nat) (p0:List Sum) (p1:List Sum):Option Bool :=
  bif ((p0.length:Int)) != ((p1.length:Int)) then (some false) else (laws_sameSums_l2 u u p0 p1 0)
def laws_sameSums_l2_f (u:Nat) (p0:List Sum) (p1:List Sum) (s:Unit):Option Bool:=(laws_sameSums_j1 u)
def laws_sameSums_l2_b (u:Nat) (p0:List Sum) (p1:List Sum) (y4:Sum) (i_:Nat) (s:Unit) (k_:Unit→Option Bool):Option Bool:=(idx p1 (i_:Int)).bind fun y5=>bif !([y4.fW,y4.fS] == [y5.fW,y5.fS]) then (some false) else ((fun z0 z1 z2=>k_ ()) p0 p1 (bAdd .i64 (i_:Int) 1))
theorem laws_sameSums_l2_w (u:Nat) (p0:List Sum) (p1:List Sum) (s:Unit) (k:Nat) (hn:p0.length≤9223372036854775807) (hk:p0.length < k):laws_sameSums_l2 u k p0 p1 0=Pu.wlist (laws_sameSums_l2_f u p0 p1) (laws_sameSums_l2_b u p0 p1) p0 0 s:=Pu.wlist_0 (fun (k:Nat) (s:Unit) (i:Int)=>laws_sameSums_l2 u k p0 p1 i) hn (fun _ _ _=>rfl) s hk
def laws_sameMan (u:Nat) (p0:Manifest) (p1:Manifest):Option Bool :=
  bif p0.fGen == p1.fGen then (bif p0.fSize == p1.fSize then (bif p0.fLen == p1.fLen then ((laws_sameSums u p0.fSums p1.fSums).bind fun r1=>some r1) else (some false)) else (some false)) else (some false)
def laws_same_j1 (u:Nat)  : Option Bool :=
  some true
def laws_same_l2 (u:Nat) (k_laws_same_l2:Nat) (p0:List Int) (p1:List Int) (x2:Int):Option Bool:=match k_laws_same_l2 with
  | 0=>none
  | k_laws_same_l2+1=>bif decide (x2 < ((p0.length:Int))) then ((idx p0 x2).bind fun y4=>(idx p1 x2).bind fun y5=>bif y4 != y5 then (some false) else ((fun z0 z1 z2=>laws_same_l2 u k_laws_same_l2 z0 z1 z2) p0 p1 (bAdd .i64 x2 1))) else (laws_same_j1 u)
def laws_same (u:Nat) (p0:List Int) (p1:List Int):Option Bool :=
  bif ((p0.length:Int)) != ((p1.length:Int)) then (some false) else (laws_same_l2 u u p0 p1 0)
def laws_same_l2_f (u:Nat) (p0:List Int) (p1:List Int) (s:Unit):Option Bool:=(laws_same_j1 u)
def laws_same_l2_b (u:Nat) (p0:List Int) (p1:List Int) (y4:Int) (i_:Nat) (s:Unit) (k_:Unit→Option Bool):Option Bool:=(idx p1 (i_:Int)).bind fun y5=>bif y4 != y5 then (some false) else ((fun z0 z1 z2=>k_ ()) p0 p1 (bAdd .i64 (i_:Int) 1))
theorem laws_same_l2_w (u:Nat) (p0:List Int) (p1:List Int) (s:Unit) (k:Nat) (hn:p0.length≤9223372036854775807) (hk:p0.length < k):laws_same_l2 u k p0 p1 0=Pu.wlist (laws_same_l2_f u p0 p1) (laws_same_l2_b u p0 p1) p0 0 s:=Pu.wlist_0 (fun (k:Nat) (s:Unit) (i:Int)=>laws_same_l2 u k p0 p1 i) hn (fun _ _ _=>rfl) s hk
def laws_sameBuild (u:Nat) (p0:Build) (p1:Build):Option Bool :=
  bif p0.fHave == p1.fHave then ((laws_same u p0.fBuf p1.fBuf).bind fun r1=>some r1) else (some false)
def laws_sameKids_j1 (u:Nat)  : Option Bool :=
  some true
def laws_sameKids_l2 (u:Nat) (k_laws_sameKids_l2:Nat) (p0:List Kid) (p1:List Kid) (x2:Int):Option Bool:=match k_laws_sameKids_l2 with
  | 0=>none
  | k_laws_sameKids_l2+1=>bif decide (x2 < ((p0.length:Int))) then ((idx p0 x2).bind fun y4=>(idx p1 x2).bind fun y5=>bif !([y4.fId,y4.fWant,y4.fDone,y4.fAge,y4.fSent] == [y5.fId,y5.fWant,y5.fDone,y5.fAge,y5.fSent]) then (some false) else ((fun z0 z1 z2=>laws_sameKids_l2 u k_laws_sameKids_l2 z0 z1 z2) p0 p1 (bAdd .i64 x2 1))) else (laws_sameKids_j1 u)
def laws_sameKids (u:Nat) (p0:List Kid) (p1:List Kid):Option Bool :=
  bif ((p0.length:Int)) != ((p1.length:Int)) then (some false) else (laws_sameKids_l2 u u p0 p1 0)
def laws_sameKids_l2_f (u:Nat) (p0:List Kid) (p1:List Kid) (s:Unit):Option Bool:=(laws_sameKids_j1 u)
def laws_sameKids_l2_b (u:Nat) (p0:List Kid) (p1:List Kid) (y4:Kid) (i_:Nat) (s:Unit) (k_:Unit→Option Bool):Option Bool:=(idx p1 (i_:Int)).bind fun y5=>bif !([y4.fId,y4.fWant,y4.fDone,y4.fAge,y4.fSent] == [y5.fId,y5.fWant,y5.fDone,y5.fAge,y5.fSent]) then (some false) else ((fun z0 z1 z2=>k_ ()) p0 p1 (bAdd .i64 (i_:Int) 1))
theorem laws_sameKids_l2_w (u:Nat) (p0:List Kid) (p1:List Kid) (s:Unit) (k:Nat) (hn:p0.length≤9223372036854775807) (hk:p0.length < k):laws_sameKids_l2 u k p0 p1 0=Pu.wlist (laws_sameKids_l2_f u p0 p1) (laws_sameKids_l2_b u p0 p1) p0 0 s:=Pu.wlist_0 (fun (k:Nat) (s:Unit) (i:Int)=>laws_sameKids_l2 u k p0 p1 i) hn (fun _ _ _=>rfl) s hk
def laws_sameNode (u:Nat) (p0:Node) (p1:Node):Option Bool :=
  bif p0.fOn == p1.fOn then (bif p0.fBoss == p1.fBoss then (bif p0.fQuiet == p1.fQuiet then ((laws_sameMan u p0.fMan p1.fMan).bind fun r1=>bif r1 then ((laws_sameBuild u p0.fBld p1.fBld).bind fun r2=>bif r2 then (bif p0.fPhase == p1.fPhase then ((laws_sameKids u p0.fKids p1.fKids).bind fun r3=>bif r3 then (some (p0.fDrops == p1.fDrops)) else (some false)) else (some false)) else (some false)) else (some false)) else (some false)) else (some false)) else (some false)
def laws_sameDisk_j2 (u:Nat)  : Option Bool :=
  some true
def laws_sameDisk_j4 (u:Nat) (c_laws_sameDisk_l3:Int→Disk→Disk→Option Bool) (x5:Int) (x10:Bool) (p0:Disk) (p1:Disk):Option Bool :=
  bif x10 then (some false) else (c_laws_sameDisk_l3 (bAdd .i64 x5 1) p0 p1)
def laws_sameDisk_l3 (u:Nat) (k_laws_sameDisk_l3:Nat) (x5:Int) (p0:Disk) (p1:Disk):Option Bool:=match k_laws_sameDisk_l3 with
  | 0=>none
  | k_laws_sameDisk_l3+1=>bif decide (x5 < ((p0.fP.length:Int))) then ((idx p0.fP x5).bind fun y7=>(idx p1.fP x5).bind fun y8=>bif y7.fWhat != y8.fWhat then (laws_sameDisk_j4 u (fun z0 z1 z2=>laws_sameDisk_l3 u k_laws_sameDisk_l3 z0 z1 z2) x5 true p0 p1) else (bif y7.fAt != y8.fAt then (laws_sameDisk_j4 u (fun z0 z1 z2=>laws_sameDisk_l3 u k_laws_sameDisk_l3 z0 z1 z2) x5 true p0 p1) else (bif !([y7.fR.fGen,y7.fR.fSlot,y7.fR.fLen] == [y8.fR.fGen,y8.fR.fSlot,y8.fR.fLen]) then (laws_sameDisk_j4 u (fun z0 z1 z2=>laws_sameDisk_l3 u k_laws_sameDisk_l3 z0 z1 z2) x5 true p0 p1) else ((laws_same u y7.fB y8.fB).bind fun r9=>laws_sameDisk_j4 u (fun z0 z1 z2=>laws_sameDisk_l3 u k_laws_sameDisk_l3 z0 z1 z2) x5 (!r9) p0 p1)))) else (laws_sameDisk_j2 u)
def laws_sameDisk_j1 (u:Nat) (x3:Bool) (p0:Disk) (p1:Disk):Option Bool :=
  bif x3 then (some false) else (laws_sameDisk_l3 u u 0 p0 p1)
def laws_sameDisk (u:Nat) (p0:Disk) (p1:Disk):Option Bool :=
  (laws_same u p0.fA p1.fA).bind fun r1=>bif !r1 then (laws_sameDisk_j1 u true p0 p1) else ((laws_same u p0.fB p1.fB).bind fun r2=>bif !r2 then (laws_sameDisk_j1 u true p0 p1) else (bif !([p0.fR.fGen,p0.fR.fSlot,p0.fR.fLen] == [p1.fR.fGen,p1.fR.fSlot,p1.fR.fLen]) then (laws_sameDisk_j1 u true p0 p1) else (laws_sameDisk_j1 u (((p0.fP.length:Int)) != ((p1.fP.length:Int))) p0 p1)))
def laws_sameDisk_l3_f (u:Nat) (p0:Disk) (p1:Disk) (s:Unit):Option Bool:=(laws_sameDisk_j2 u)
def laws_sameDisk_l3_b (u:Nat) (p0:Disk) (p1:Disk) (y7:Put) (i_:Nat) (s:Unit) (k_:Unit→Option Bool):Option Bool:=(idx p1.fP (i_:Int)).bind fun y8=>bif y7.fWhat != y8.fWhat then (laws_sameDisk_j4 u (fun z0 z1 z2=>k_ ()) (i_:Int) true p0 p1) else (bif y7.fAt != y8.fAt then (laws_sameDisk_j4 u (fun z0 z1 z2=>k_ ()) (i_:Int) true p0 p1) else (bif !([y7.fR.fGen,y7.fR.fSlot,y7.fR.fLen] == [y8.fR.fGen,y8.fR.fSlot,y8.fR.fLen]) then (laws_sameDisk_j4 u (fun z0 z1 z2=>k_ ()) (i_:Int) true p0 p1) else ((laws_same u y7.fB y8.fB).bind fun r9=>laws_sameDisk_j4 u (fun z0 z1 z2=>k_ ()) (i_:Int) (!r9) p0 p1)))
theorem laws_sameDisk_l3_w (u:Nat) (p0:Disk) (p1:Disk) (s:Unit) (k:Nat) (hn:p0.fP.length≤9223372036854775807) (hk:p0.fP.length < k):laws_sameDisk_l3 u k 0 p0 p1=Pu.wlist (laws_sameDisk_l3_f u p0 p1) (laws_sameDisk_l3_b u p0 p1) p0.fP 0 s:=Pu.wlist_0 (fun (k:Nat) (s:Unit) (i:Int)=>laws_sameDisk_l3 u k i p0 p1) hn (fun _ _ _=>rfl) s hk
def laws_samePackets_j1 (u:Nat)  : Option Bool :=
  some true
def laws_samePackets_j3 (u:Nat) (c_laws_samePackets_l2:(List Packet)→(List Packet)→Int→Option Bool) (p0:List Packet) (p1:List Packet) (x2:Int) (x11:Bool):Option Bool :=
  bif x11 then (some false) else (c_laws_samePackets_l2 p0 p1 (bAdd .i64 x2 1))
def laws_samePackets_l2 (u:Nat) (k_laws_samePackets_l2:Nat) (p0:List Packet) (p1:List Packet) (x2:Int):Option Bool:=match k_laws_samePackets_l2 with
  | 0=>none
  | k_laws_samePackets_l2+1=>bif decide (x2 < ((p0.length:Int))) then ((idx p0 x2).bind fun y4=>(idx p1 x2).bind fun y5=>bif y4.fFrom != y5.fFrom then (laws_samePackets_j3 u (fun z0 z1 z2=>laws_samePackets_l2 u k_laws_samePackets_l2 z0 z1 z2) p0 p1 x2 true) else ((idx p0 x2).bind fun y6=>(idx p1 x2).bind fun y7=>bif y6.fTo != y7.fTo then (laws_samePackets_j3 u (fun z0 z1 z2=>laws_samePackets_l2 u k_laws_samePackets_l2 z0 z1 z2) p0 p1 x2 true) else ((idx p0 x2).bind fun y8=>(idx p1 x2).bind fun y9=>(laws_same u y8.fB y9.fB).bind fun r10=>laws_samePackets_j3 u (fun z0 z1 z2=>laws_samePackets_l2 u k_laws_samePackets_l2 z0 z1 z2) p0 p1 x2 (!r10)))) else (laws_samePackets_j1 u)
def laws_samePackets (u:Nat) (p0:List Packet) (p1:List Packet):Option Bool :=
  bif ((p0.length:Int)) != ((p1.length:Int)) then (some false) else (laws_samePackets_l2 u u p0 p1 0)
def laws_samePackets_l2_f (u:Nat) (p0:List Packet) (p1:List Packet) (s:Unit):Option Bool:=(laws_samePackets_j1 u)
def laws_samePackets_l2_b (u:Nat) (p0:List Packet) (p1:List Packet) (y4:Packet) (i_:Nat) (s:Unit) (k_:Unit→Option Bool):Option Bool:=(idx p1 (i_:Int)).bind fun y5=>bif y4.fFrom != y5.fFrom then (laws_samePackets_j3 u (fun z0 z1 z2=>k_ ()) p0 p1 (i_:Int) true) else ((idx p0 (i_:Int)).bind fun y6=>(idx p1 (i_:Int)).bind fun y7=>bif y6.fTo != y7.fTo then (laws_samePackets_j3 u (fun z0 z1 z2=>k_ ()) p0 p1 (i_:Int) true) else ((idx p0 (i_:Int)).bind fun y8=>(idx p1 (i_:Int)).bind fun y9=>(laws_same u y8.fB y9.fB).bind fun r10=>laws_samePackets_j3 u (fun z0 z1 z2=>k_ ()) p0 p1 (i_:Int) (!r10)))
theorem laws_samePackets_l2_w (u:Nat) (p0:List Packet) (p1:List Packet) (s:Unit) (k:Nat) (hn:p0.length≤9223372036854775807) (hk:p0.length < k):laws_samePackets_l2 u k p0 p1 0=Pu.wlist (laws_samePackets_l2_f u p0 p1) (laws_samePackets_l2_b u p0 p1) p0 0 s:=Pu.wlist_0 (fun (k:Nat) (s:Unit) (i:Int)=>laws_samePackets_l2 u k p0 p1 i) hn (fun _ _ _=>rfl) s hk
def laws_sameBeat (u:Nat) (p0:Beat) (p1:Beat):Option Bool :=
  (laws_sameNode u p0.fN p1.fN).bind fun r1=>bif r1 then ((laws_sameDisk u p0.fD p1.fD).bind fun r2=>bif r2 then ((laws_samePackets u p0.fOut p1.fOut).bind fun r3=>some r3) else (some false)) else (some false)
def impl_Ticks_j1 (u:Nat) (x65:Bool) (x66:Int) (x67:Int) (x68:Int) (x69:Int) (x70:Int) (x71:List Sum) (x72:Int) (x73:List Int) (x74:Int) (x75:List Kid) (x76:Int) (x77:List Int) (x78:List Int) (x79:Int) (x80:Int) (x81:Int) (x82:List Put) (x83:List Packet):Option Beat :=
  some ((Beat.mk ((Node.mk x65 x66 x67 ((Manifest.mk x68 x69 x70 x71)) ((Build.mk x72 x73)) x74 x75 x76)) ((Disk.mk x77 x78 ((Record.mk x79 x80 x81)) x82)) x83))
def impl_Ticks_l2 (u:Nat) (k_impl_Ticks_l2:Nat) (p2:Int) (p5:Int) (x24:Int) (x25:Bool) (x26:Int) (x27:Int) (x28:Int) (x29:Int) (x30:Int) (x31:List Sum) (x32:Int) (x33:List Int) (x34:Int) (x35:List Kid) (x36:Int) (x37:List Int) (x38:List Int) (x39:Int) (x40:Int) (x41:Int) (x42:List Put) (x43:List Packet) (p0:Tree) (p1:Conf):Option Beat:=match k_impl_Ticks_l2 with
  | 0=>none
  | k_impl_Ticks_l2+1=>bif decide (x24 < p5) then ((impl_Tick u p0 p1 p2 ((Node.mk x25 x26 x27 ((Manifest.mk x28 x29 x30 x31)) ((Build.mk x32 x33)) x34 x35 x36)) ((Disk.mk x37 x38 ((Record.mk x39 x40 x41)) x42))).bind fun r64=>(chk (decide ((x43.length+r64.fOut.length)*40≤140737488355328))).bind fun _=>(fun z0 z1 z2 z3 z4 z5 z6 z7 z8 z9 z10 z11 z12 z13 z14 z15 z16 z17 z18 z19 z20 z21 z22 z23=>impl_Ticks_l2 u k_impl_Ticks_l2 z0 z1 z2 z3 z4 z5 z6 z7 z8 z9 z10 z11 z12 z13 z14 z15 z16 z17 z18 z19 z20 z21 z22 z23) p2 p5 (bAdd .i64 x24 1) r64.fN.fOn r64.fN.fBoss r64.fN.fQuiet r64.fN.fMan.fGen r64.fN.fMan.fSize r64.fN.fMan.fLen r64.fN.fMan.fSums r64.fN.fBld.fHave r64.fN.fBld.fBuf r64.fN.fPhase r64.fN.fKids r64.fN.fDrops r64.fD.fA r64.fD.fB r64.fD.fR.fGen r64.fD.fR.fSlot r64.fD.fR.fLen r64.fD.fP (x43++r64.fOut) p0 p1) else (impl_Ticks_j1 u x25 x26 x27 x28 x29 x30 x31 x32 x33 x34 x35 x36 x37 x38 x39 x40 x41 x42 x43)
def impl_Ticks (u:Nat) (p0:Tree) (p1:Conf) (p2:Int) (p3:Node) (p4:Disk) (p5:Int):Option Beat :=
  (impl_copyNode u p3).bind fun r1=>(impl_copyDisk u p4).bind fun r2=>(impl_within u p5 0 100).bind fun r3=>bif !r3 then (some ((Beat.mk r1 r2 ([])))) else (impl_Ticks_l2 u u p2 p5 0 r1.fOn r1.fBoss r1.fQuiet r1.fMan.fGen r1.fMan.fSize r1.fMan.fLen r1.fMan.fSums r1.fBld.fHave r1.fBld.fBuf r1.fPhase r1.fKids r1.fDrops r2.fA r2.fB r2.fR.fGen r2.fR.fSlot r2.fR.fLen r2.fP ([]) p0 p1)
def impl_Ticks_l2_f (u:Nat) (p2:Int) (p5:Int) (p0:Tree) (p1:Conf) (s:Bool×Int×Int×Int×Int×Int×(List Sum)×Int×(List Int)×Int×(List Kid)×Int×(List Int)×(List Int)×Int×Int×Int×(List Put)×(List Packet)):Option Beat:=(impl_Ticks_j1 u s.1 s.2.1 s.2.2.1 s.2.2.2.1 s.2.2.2.2.1 s.2.2.2.2.2.1 s.2.2.2.2.2.2.1 s.2.2.2.2.2.2.2.1 s.2.2.2.2.2.2.2.2.1 s.2.2.2.2.2.2.2.2.2.1 s.2.2.2.2.2.2.2.2.2.2.1 s.2.2.2.2.2.2.2.2.2.2.2.1 s.2.2.2.2.2.2.2.2.2.2.2.2.1 s.2.2.2.2.2.2.2.2.2.2.2.2.2.1 s.2.2.2.2.2.2.2.2.2.2.2.2.2.2.1 s.2.2.2.2.2.2.2.2.2.2.2.2.2.2.2.1 s.2.2.2.2.2.2.2.2.2.2.2.2.2.2.2.2.1 s.2.2.2.2.2.2.2.2.2.2.2.2.2.2.2.2.2.1 s.2.2.2.2.2.2.2.2.2.2.2.2.2.2.2.2.2.2)
def impl_Ticks_l2_b (u:Nat) (p2:Int) (p5:Int) (p0:Tree) (p1:Conf) (i_:Nat) (s:Bool×Int×Int×Int×Int×Int×(List Sum)×Int×(List Int)×Int×(List Kid)×Int×(List Int)×(List Int)×Int×Int×Int×(List Put)×(List Packet)) (k_:(Bool×Int×Int×Int×Int×Int×(List Sum)×Int×(List Int)×Int×(List Kid)×Int×(List Int)×(List Int)×Int×Int×Int×(List Put)×(List Packet))→Option Beat):Option Beat:=(impl_Tick u p0 p1 p2 ((Node.mk s.1 s.2.1 s.2.2.1 ((Manifest.mk s.2.2.2.1 s.2.2.2.2.1 s.2.2.2.2.2.1 s.2.2.2.2.2.2.1)) ((Build.mk s.2.2.2.2.2.2.2.1 s.2.2.2.2.2.2.2.2.1)) s.2.2.2.2.2.2.2.2.2.1 s.2.2.2.2.2.2.2.2.2.2.1 s.2.2.2.2.2.2.2.2.2.2.2.1)) ((Disk.mk s.2.2.2.2.2.2.2.2.2.2.2.2.1 s.2.2.2.2.2.2.2.2.2.2.2.2.2.1 ((Record.mk s.2.2.2.2.2.2.2.2.2.2.2.2.2.2.1 s.2.2.2.2.2.2.2.2.2.2.2.2.2.2.2.1 s.2.2.2.2.2.2.2.2.2.2.2.2.2.2.2.2.1)) s.2.2.2.2.2.2.2.2.2.2.2.2.2.2.2.2.2.1))).bind fun r64=>(chk (decide ((s.2.2.2.2.2.2.2.2.2.2.2.2.2.2.2.2.2.2.length+r64.fOut.length)*40≤140737488355328))).bind fun _=>(fun z0 z1 z2 z3 z4 z5 z6 z7 z8 z9 z10 z11 z12 z13 z14 z15 z16 z17 z18 z19 z20 z21 z22 z23=>k_ (z3,z4,z5,z6,z7,z8,z9,z10,z11,z12,z13,z14,z15,z16,z17,z18,z19,z20,z21)) p2 p5 (bAdd .i64 (i_:Int) 1) r64.fN.fOn r64.fN.fBoss r64.fN.fQuiet r64.fN.fMan.fGen r64.fN.fMan.fSize r64.fN.fMan.fLen r64.fN.fMan.fSums r64.fN.fBld.fHave r64.fN.fBld.fBuf r64.fN.fPhase r64.fN.fKids r64.fN.fDrops r64.fD.fA r64.fD.fB r64.fD.fR.fGen r64.fD.fR.fSlot r64.fD.fR.fLen r64.fD.fP (s.2.2.2.2.2.2.2.2.2.2.2.2.2.2.2.2.2.2++r64.fOut) p0 p1
theorem impl_Ticks_l2_w (u:Nat) (p2:Int) (p5:Int) (p0:Tree) (p1:Conf) (s:Bool×Int×Int×Int×Int×Int×(List Sum)×Int×(List Int)×Int×(List Kid)×Int×(List Int)×(List Int)×Int×Int×Int×(List Put)×(List Packet)) (k:Nat) (hn:(p5:Int)≤9223372036854775807) (hk:Int.toNat (p5) < k):impl_Ticks_l2 u k p2 p5 0 s.1 s.2.1 s.2.2.1 s.2.2.2.1 s.2.2.2.2.1 s.2.2.2.2.2.1 s.2.2.2.2.2.2.1 s.2.2.2.2.2.2.2.1 s.2.2.2.2.2.2.2.2.1 s.2.2.2.2.2.2.2.2.2.1 s.2.2.2.2.2.2.2.2.2.2.1 s.2.2.2.2.2.2.2.2.2.2.2.1 s.2.2.2.2.2.2.2.2.2.2.2.2.1 s.2.2.2.2.2.2.2.2.2.2.2.2.2.1 s.2.2.2.2.2.2.2.2.2.2.2.2.2.2.1 s.2.2.2.2.2.2.2.2.2.2.2.2.2.2.2.1 s.2.2.2.2.2.2.2.2.2.2.2.2.2.2.2.2.1 s.2.2.2.2.2.2.2.2.2.2.2.2.2.2.2.2.2.1 s.2.2.2.2.2.2.2.2.2.2.2.2.2.2.2.2.2.2 p0 p1=Pu.walk (impl_Ticks_l2_f u p2 p5 p0 p1) (impl_Ticks_l2_b u p2 p5 p0 p1) (Int.toNat (p5)) 0 s:=Pu.walk_0 (fun (k:Nat) (s:Bool×Int×Int×Int×Int×Int×(List Sum)×Int×(List Int)×Int×(List Kid)×Int×(List Int)×(List Int)×Int×Int×Int×(List Put)×(List Packet)) (i:Int)=>impl_Ticks_l2 u k p2 p5 i s.1 s.2.1 s.2.2.1 s.2.2.2.1 s.2.2.2.2.1 s.2.2.2.2.2.1 s.2.2.2.2.2.2.1 s.2.2.2.2.2.2.2.1 s.2.2.2.2.2.2.2.2.1 s.2.2.2.2.2.2.2.2.2.1 s.2.2.2.2.2.2.2.2.2.2.1 s.2.2.2.2.2.2.2.2.2.2.2.1 s.2.2.2.2.2.2.2.2.2.2.2.2.1 s.2.2.2.2.2.2.2.2.2.2.2.2.2.1 s.2.2.2.2.2.2.2.2.2.2.2.2.2.2.1 s.2.2.2.2.2.2.2.2.2.2.2.2.2.2.2.1 s.2.2.2.2.2.2.2.2.2.2.2.2.2.2.2.2.1 s.2.2.2.2.2.2.2.2.2.2.2.2.2.2.2.2.2.1 s.2.2.2.2.2.2.2.2.2.2.2.2.2.2.2.2.2.2 p0 p1) hn (fun _ _ _=>rfl) s hk
def spec_Ticks_j1 (u:Nat) (x65:Bool) (x66:Int) (x67:Int) (x68:Int) (x69:Int) (x70:Int) (x71:List Sum) (x72:Int) (x73:List Int) (x74:Int) (x75:List Kid) (x76:Int) (x77:List Int) (x78:List Int) (x79:Int) (x80:Int) (x81:Int) (x82:List Put) (x83:List Packet):Option Beat :=
  some ((Beat.mk ((Node.mk x65 x66 x67 ((Manifest.mk x68 x69 x70 x71)) ((Build.mk x72 x73)) x74 x75 x76)) ((Disk.mk x77 x78 ((Record.mk x79 x80 x81)) x82)) x83))
def spec_Ticks_j3 (u:Nat) (c_spec_Ticks_l2:Int→Int→Int→Bool→Int→Int→Int→Int→Int→(List Sum)→Int→(List Int)→Int→(List Kid)→Int→(List Int)→(List Int)→Int→Int→Int→(List Put)→(List Packet)→Tree→Conf→Option Beat) (p2:Int) (p5:Int) (x23:Int) (x63:Bool) (x24:Bool) (x25:Int) (x26:Int) (x27:Int) (x28:Int) (x29:Int) (x30:List Sum) (x31:Int) (x32:List Int) (x33:Int) (x34:List Kid) (x35:Int) (x36:List Int) (x37:List Int) (x38:Int) (x39:Int) (x40:Int) (x41:List Put) (x42:List Packet) (p0:Tree) (p1:Conf):Option Beat :=
  bif x63 then ((spec_Tick u p0 p1 p2 ((Node.mk x24 x25 x26 ((Manifest.mk x27 x28 x29 x30)) ((Build.mk x31 x32)) x33 x34 x35)) ((Disk.mk x36 x37 ((Record.mk x38 x39 x40)) x41))).bind fun r64=>(chk (decide (((([]:List Packet)).length+x42.length)*40≤140737488355328))).bind fun _=>(chk (decide ((((([]:List Packet))++x42).length+r64.fOut.length)*40≤140737488355328))).bind fun _=>c_spec_Ticks_l2 p2 p5 (bAdd .i64 x23 1) r64.fN.fOn r64.fN.fBoss r64.fN.fQuiet r64.fN.fMan.fGen r64.fN.fMan.fSize r64.fN.fMan.fLen r64.fN.fMan.fSums r64.fN.fBld.fHave r64.fN.fBld.fBuf r64.fN.fPhase r64.fN.fKids r64.fN.fDrops r64.fD.fA r64.fD.fB r64.fD.fR.fGen r64.fD.fR.fSlot r64.fD.fR.fLen r64.fD.fP (((([]:List Packet))++x42)++r64.fOut) p0 p1) else (spec_Ticks_j1 u x24 x25 x26 x27 x28 x29 x30 x31 x32 x33 x34 x35 x36 x37 x38 x39 x40 x41 x42)
def spec_Ticks_l2 (u:Nat) (k_spec_Ticks_l2:Nat) (p2:Int) (p5:Int) (x23:Int) (x24:Bool) (x25:Int) (x26:Int) (x27:Int) (x28:Int) (x29:Int) (x30:List Sum) (x31:Int) (x32:List Int) (x33:Int) (x34:List Kid) (x35:Int) (x36:List Int) (x37:List Int) (x38:Int) (x39:Int) (x40:Int) (x41:List Put) (x42:List Packet) (p0:Tree) (p1:Conf):Option Beat:=match k_spec_Ticks_l2 with
  | 0=>none
  | k_spec_Ticks_l2+1=>bif decide (x23 < p5) then (spec_Ticks_j3 u (fun z0 z1 z2 z3 z4 z5 z6 z7 z8 z9 z10 z11 z12 z13 z14 z15 z16 z17 z18 z19 z20 z21 z22 z23=>spec_Ticks_l2 u k_spec_Ticks_l2 z0 z1 z2 z3 z4 z5 z6 z7 z8 z9 z10 z11 z12 z13 z14 z15 z16 z17 z18 z19 z20 z21 z22 z23) p2 p5 x23 (decide (p5≤100)) x24 x25 x26 x27 x28 x29 x30 x31 x32 x33 x34 x35 x36 x37 x38 x39 x40 x41 x42 p0 p1) else (spec_Ticks_j3 u (fun z0 z1 z2 z3 z4 z5 z6 z7 z8 z9 z10 z11 z12 z13 z14 z15 z16 z17 z18 z19 z20 z21 z22 z23=>spec_Ticks_l2 u k_spec_Ticks_l2 z0 z1 z2 z3 z4 z5 z6 z7 z8 z9 z10 z11 z12 z13 z14 z15 z16 z17 z18 z19 z20 z21 z22 z23) p2 p5 x23 false x24 x25 x26 x27 x28 x29 x30 x31 x32 x33 x34 x35 x36 x37 x38 x39 x40 x41 x42 p0 p1)
def spec_Ticks (u:Nat) (p0:Tree) (p1:Conf) (p2:Int) (p3:Node) (p4:Disk) (p5:Int):Option Beat :=
  (spec_l15Copy u p3).bind fun r1=>(spec_l9Copy u p4).bind fun r2=>spec_Ticks_l2 u u p2 p5 0 r1.fOn r1.fBoss r1.fQuiet r1.fMan.fGen r1.fMan.fSize r1.fMan.fLen r1.fMan.fSums r1.fBld.fHave r1.fBld.fBuf r1.fPhase r1.fKids r1.fDrops r2.fA r2.fB r2.fR.fGen r2.fR.fSlot r2.fR.fLen r2.fP (([]:List Packet)) p0 p1
def impl_ConfOk (u:Nat) (p0:Conf):Option Bool :=
  (impl_within u p0.fSize 2 6).bind fun r1=>bif r1 then ((impl_within u p0.fWindow 1 40).bind fun r2=>bif r2 then ((impl_within u p0.fSuspect 1 5).bind fun r3=>bif r3 then ((impl_within u p0.fForget 2 8).bind fun r4=>some r4) else (some false)) else (some false)) else (some false)
def spec_ConfOk (u:Nat) (p0:Conf):Option Bool :=
  (spec_l1In u p0.fSize 2 6).bind fun r1=>bif r1 then ((spec_l1In u p0.fWindow 1 40).bind fun r2=>bif r2 then ((spec_l1In u p0.fSuspect 1 5).bind fun r3=>bif r3 then ((spec_l1In u p0.fForget 2 8).bind fun r4=>some r4) else (some false)) else (some false)) else (some false)
def impl_Suspects (u:Nat) (p0:Conf) (p1:Node):Option Bool :=
  bif p1.fOn then (bif decide (p1.fBoss≥0) then (some (decide (p1.fQuiet≥p0.fSuspect))) else (some false)) else (some false)
def spec_Suspects (u:Nat) (p0:Conf) (p1:Node):Option Bool :=
  bif p1.fOn then (bif decide (p1.fBoss≥0) then (some (decide (p1.fQuiet≥p0.fSuspect))) else (some false)) else (some false)
def impl_StepsLeft (u:Nat) (p0:Int):Option Int :=
  (impl_within u p0 1 4).bind fun r1=>bif !r1 then (some 0) else (some (bSub .i64 5 p0))
def impl_TicksToDone (u:Nat) (p0:Node):Option Int :=
  bif !p0.fOn then (some 0) else ((impl_StepsLeft u p0.fPhase).bind fun r1=>some r1)
def spec_StepsLeft (u:Nat) (p0:Int):Option Int :=
  (spec_l1In u p0 1 4).bind fun r1=>bif !r1 then (some 0) else (some (bSub .i64 5 p0))
def spec_TicksToDone (u:Nat) (p0:Node):Option Int :=
  bif !p0.fOn then (some 0) else ((spec_StepsLeft u p0.fPhase).bind fun r1=>some r1)
def impl_ConfNew (u:Nat)  : Option Conf :=
  some ((Conf.mk 4 3 2 4))
def spec_ConfNew (u:Nat)  : Option Conf :=
  some ((Conf.mk 4 3 2 4))
def laws_FnTicks_j1 (u:Nat) (r2:Tree×Conf×Int×Node×Disk) (x23:Bool) (r3:Beat):Option Bool :=
  bif x23 then (some false) else (bif !r2.2.2.2.1.fOn then ((laws_sameNode u r3.fN r2.2.2.2.1).bind fun r24=>bif r24 then (some (((r3.fOut.length:Int)) == 0)) else (some false)) else (bif r2.2.2.1 == 0 then (bif ((r3.fOut.length:Int)) == 0 then ((laws_sameDisk u r3.fD r2.2.2.2.2).bind fun r25=>some r25) else (some false)) else (bif ((r3.fOut.length:Int)) == 1 then ((idx r3.fOut 0).bind fun y26=>bif y26.fTo == r3.fN.fBoss then ((impl_TicksToDone u r3.fN).bind fun r27=>(impl_TicksToDone u r2.2.2.2.1).bind fun r28=>bif decide (r27≤r28) then (bif r3.fN.fQuiet == 0 then (bif (decide (r2.2.2.2.1.fQuiet≥r2.2.1.fSuspect)) == (decide (r2.2.2.2.1.fQuiet≥r2.2.1.fSuspect)) then (some (r3.fN.fBld.fHave == r2.2.2.2.1.fBld.fHave)) else (some false)) else (bif (decide (r2.2.2.2.1.fQuiet≥r2.2.1.fSuspect)) == false then (some (r3.fN.fBld.fHave == r2.2.2.2.1.fBld.fHave)) else (some false))) else (some false)) else (some false)) else (some false))))
def laws_FnTicks (u:Nat) (p0:List Int):Option Bool :=
  (laws_big u p0).bind fun r1=>bif r1 then (some true) else ((spec_DrawTick u p0).bind fun r2=>(impl_Tick u r2.1 r2.2.1 r2.2.2.1 r2.2.2.2.1 r2.2.2.2.2).bind fun r3=>(spec_DrawTicks u p0).bind fun r4=>(spec_DrawConfOk u p0).bind fun r5=>(spec_DrawSuspects u p0).bind fun r6=>(spec_DrawTicksToDone u p0).bind fun r7=>(spec_Tick u r2.1 r2.2.1 r2.2.2.1 r2.2.2.2.1 r2.2.2.2.2).bind fun r8=>(laws_sameBeat u r3 r8).bind fun r9=>bif !r9 then (laws_FnTicks_j1 u r2 true r3) else ((impl_Ticks u r4.1 r4.2.1 r4.2.2.1 r4.2.2.2.1 r4.2.2.2.2.1 r4.2.2.2.2.2).bind fun r10=>(spec_Ticks u r4.1 r4.2.1 r4.2.2.1 r4.2.2.2.1 r4.2.2.2.2.1 r4.2.2.2.2.2).bind fun r11=>(laws_sameBeat u r10 r11).bind fun r12=>bif !r12 then (laws_FnTicks_j1 u r2 true r3) else ((impl_ConfOk u r5).bind fun r13=>(spec_ConfOk u r5).bind fun r14=>bif !(r13 == r14) then (laws_FnTicks_j1 u r2 true r3) else ((impl_Suspects u r6.1 r6.2).bind fun r15=>(spec_Suspects u r6.1 r6.2).bind fun r16=>bif !(r15 == r16) then (laws_FnTicks_j1 u r2 true r3) else ((impl_TicksToDone u r7).bind fun r17=>(spec_TicksToDone u r7).bind fun r18=>bif r17 != r18 then (laws_FnTicks_j1 u r2 true r3) else ((impl_ConfNew u).bind fun r19=>(spec_ConfNew u).bind fun r20=>bif !([r19.fSize,r19.fWindow,r19.fSuspect,r19.fForget] == [r20.fSize,r20.fWindow,r20.fSuspect,r20.fForget]) then (laws_FnTicks_j1 u r2 true r3) else ((impl_ConfNew u).bind fun r21=>(impl_ConfOk u r21).bind fun r22=>laws_FnTicks_j1 u r2 (!r22) r3)))))))
end Go.Tm
