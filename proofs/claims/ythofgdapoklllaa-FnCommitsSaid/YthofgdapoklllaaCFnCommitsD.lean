/- Go functions as pure functions (printed). -/
import Derived.Test.YthofgdapoklllaaCFnCommitsF3
set_option maxRecDepth 100000
set_option maxHeartbeats 20000000
set_option linter.unusedVariables false
set_option linter.unusedSimpArgs false
namespace Go.Tm
structure l1Cur where
  fB:List Int
  fI:Int
  fH:Int
  deriving DecidableEq
def l1Cur.enc (x:l1Cur):List T:=[.sl 1 (x.fB.map (eInt .u8)),.int .i64 x.fI,.int .i64 x.fH]
def l1Cur.wf (x:l1Cur):Prop:=(wSl (wInt .u8)) x.fB∧(wInt .i64) x.fI∧(wInt .i64) x.fH∧True
structure Sum where
  fW:Int
  fS:Int
  deriving DecidableEq
def Sum.enc (x:Sum):List T:=[.int .i64 x.fW,.int .i64 x.fS]
def Sum.wf (x:Sum):Prop:=(wInt .i64) x.fW∧(wInt .i64) x.fS∧True
structure Manifest where
  fGen:Int
  fSize:Int
  fLen:Int
  fSums:List Sum
  deriving DecidableEq
def Manifest.enc (x:Manifest):List T:=[.int .i64 x.fGen,.int .i64 x.fSize,.int .i64 x.fLen,.sl 2 (x.fSums.map Sum.enc)]
def Manifest.wf (x:Manifest):Prop:=(wInt .i64) x.fGen∧(wInt .i64) x.fSize∧(wInt .i64) x.fLen∧(wSl Sum.wf) x.fSums∧True
structure Build where
  fHave:Int
  fBuf:List Int
  deriving DecidableEq
def Build.enc (x:Build):List T:=[.int .i64 x.fHave,.sl 1 (x.fBuf.map (eInt .u8))]
def Build.wf (x:Build):Prop:=(wInt .i64) x.fHave∧(wSl (wInt .u8)) x.fBuf∧True
structure Record where
  fGen:Int
  fSlot:Int
  fLen:Int
  deriving DecidableEq
def Record.enc (x:Record):List T:=[.int .i64 x.fGen,.int .i64 x.fSlot,.int .i64 x.fLen]
def Record.wf (x:Record):Prop:=(wInt .i64) x.fGen∧(wInt .i64) x.fSlot∧(wInt .i64) x.fLen∧True
structure Put where
  fWhat:Int
  fAt:Int
  fB:List Int
  fR:Record
  deriving DecidableEq
def Put.enc (x:Put):List T:=[.int .i64 x.fWhat,.int .i64 x.fAt,.sl 1 (x.fB.map (eInt .u8)),.int .i64 x.fR.fGen,.int .i64 x.fR.fSlot,.int .i64 x.fR.fLen]
def Put.wf (x:Put):Prop:=(wInt .i64) x.fWhat∧(wInt .i64) x.fAt∧(wSl (wInt .u8)) x.fB∧Record.wf x.fR∧True
structure Disk where
  fA:List Int
  fB:List Int
  fR:Record
  fP:List Put
  deriving DecidableEq
def Disk.enc (x:Disk):List T:=[.sl 1 (x.fA.map (eInt .u8)),.sl 1 (x.fB.map (eInt .u8)),.int .i64 x.fR.fGen,.int .i64 x.fR.fSlot,.int .i64 x.fR.fLen,.sl 6 (x.fP.map Put.enc)]
def Disk.wf (x:Disk):Prop:=(wSl (wInt .u8)) x.fA∧(wSl (wInt .u8)) x.fB∧Record.wf x.fR∧(wSl Put.wf) x.fP∧True
def laws_big (u:Nat) (p0:List Int):Option Bool :=
  some (decide (((p0.length:Int)) > 1048576))
def spec_l1New_j1 (u:Nat) (p0:List Int) (x9:Int):Option l1Cur :=
  some ((l1Cur.mk p0 0 x9))
def spec_l1New_j3 (u:Nat) (c_spec_l1New_l2:(List Int)→Int→Int→Option l1Cur) (p0:List Int) (x3:Int) (x4:Int) (x7:Bool):Option l1Cur :=
  bif x7 then ((idx p0 x4).bind fun y8=>c_spec_l1New_l2 p0 (bAnd .i64 (bAdd .i64 (bAdd .i64 (bMul .i64 x3 137) (IntKind.wrap .i64 y8)) 11) 1073741823) (bAdd .i64 x4 1)) else (spec_l1New_j1 u p0 x3)
def spec_l1New_l2 (u:Nat) (k_spec_l1New_l2:Nat) (p0:List Int) (x3:Int) (x4:Int):Option l1Cur:=match k_spec_l1New_l2 with
  | 0=>none
  | k_spec_l1New_l2+1=>bif decide (x4 < ((p0.length:Int))) then (spec_l1New_j3 u (fun z0 z1 z2=>spec_l1New_l2 u k_spec_l1New_l2 z0 z1 z2) p0 x3 x4 (decide (x4 < 4000))) else (spec_l1New_j3 u (fun z0 z1 z2=>spec_l1New_l2 u k_spec_l1New_l2 z0 z1 z2) p0 x3 x4 false)
def spec_l1New (u:Nat) (p0:List Int):Option l1Cur :=
  spec_l1New_l2 u u p0 (bAdd .i64 162416 ((p0.length:Int))) 0
def spec_l1Byte_j1 (u:Nat) (x2:Int) (p0:l1Cur) (x3:Int):Option (Int×l1Cur) :=
  some ((x2,(l1Cur.mk p0.fB x3 (bAdd .i64 (bMul .i64 p0.fH 6364136223846793005) 1442695040888963407))))
def spec_l1Byte (u:Nat) (p0:l1Cur):Option (Int×l1Cur) :=
  bif decide (p0.fI < ((p0.fB.length:Int))) then ((idx p0.fB p0.fI).bind fun y1=>spec_l1Byte_j1 u (bAnd .i64 (bAdd .i64 (bAnd .i64 (bXor .i64 (bShr .i64 (bAdd .i64 (bMul .i64 p0.fH 6364136223846793005) 1442695040888963407) 33) (bShr .i64 (bAdd .i64 (bMul .i64 p0.fH 6364136223846793005) 1442695040888963407) 47)) 255) (IntKind.wrap .i64 y1)) 255) p0 (bAdd .i64 p0.fI 1)) else (spec_l1Byte_j1 u (bAnd .i64 (bXor .i64 (bShr .i64 (bAdd .i64 (bMul .i64 p0.fH 6364136223846793005) 1442695040888963407) 33) (bShr .i64 (bAdd .i64 (bMul .i64 p0.fH 6364136223846793005) 1442695040888963407) 47)) 255) p0 p0.fI)
def spec_l1Below (u:Nat) (p0:l1Cur) (p1:Int):Option (Int×l1Cur) :=
  bif decide (p1≤0) then (some ((0,p0))) else (bif decide (p1≤256) then ((spec_l1Byte u p0).bind fun r1=>(chk (!(p1 == 0))).bind fun _=>some ((bRem .i64 r1.1 p1,r1.2))) else ((spec_l1Byte u p0).bind fun r3=>(spec_l1Byte u r3.2).bind fun r4=>(spec_l1Byte u r4.2).bind fun r5=>(chk (!(p1 == 0))).bind fun _=>some ((bRem .i64 (bAdd .i64 (bAdd .i64 (bMul .i64 r3.1 65536) (bMul .i64 r4.1 256)) r5.1) p1,r5.2))))
def spec_l1Int (u:Nat) (p0:l1Cur) (p1:List Int):Option (Int×l1Cur) :=
  (spec_l1Below u p0 ((p1.length:Int))).bind fun r1=>(idx p1 r1.1).bind fun y2=>some ((y2,r1.2))
def spec_l3Bytes_j1 (u:Nat) (x18:List Int) (x19:List Int) (x20:Int) (x21:Int):Option ((List Int)×l1Cur) :=
  some ((x18,(l1Cur.mk x19 x20 x21)))
def spec_l3Bytes_l2 (u:Nat) (k_spec_l3Bytes_l2:Nat) (x7:List Int) (x8:Int) (x9:List Int) (x10:Int) (x11:Int):Option ((List Int)×l1Cur):=match k_spec_l3Bytes_l2 with
  | 0=>none
  | k_spec_l3Bytes_l2+1=>bif decide (x8 > 0) then ((spec_l1Int u ((l1Cur.mk x9 x10 x11)) (([97,98,99,0,255]:List Int))).bind fun r17=>(chk (decide ((x7.length+(([IntKind.wrap .u8 r17.1]:List Int)).length)*1≤140737488355328))).bind fun _=>(fun z0 z1 z2 z3 z4=>spec_l3Bytes_l2 u k_spec_l3Bytes_l2 z0 z1 z2 z3 z4) (x7++(([IntKind.wrap .u8 r17.1]:List Int))) (bSub .i64 x8 1) r17.2.fB r17.2.fI r17.2.fH) else (spec_l3Bytes_j1 u x7 x9 x10 x11)
def spec_l3Bytes (u:Nat) (p0:l1Cur) (p1:Int):Option ((List Int)×l1Cur) :=
  (spec_l1Below u p0 (bAdd .i64 p1 1)).bind fun r1=>spec_l3Bytes_l2 u u (([]:List Int)) r1.1 r1.2.fB r1.2.fI r1.2.fH
def spec_l6Image (u:Nat) (p0:l1Cur):Option ((List Int)×l1Cur) :=
  (spec_l3Bytes u p0 16).bind fun r1=>some ((r1.1,r1.2))
def spec_l1Bent_j1 (u:Nat) (x15:List Int) (x16:List Int) (x17:Int) (x18:Int):Option ((List Int)×l1Cur) :=
  some ((x15,(l1Cur.mk x16 x17 x18)))
def spec_l1Bent (u:Nat) (p0:l1Cur) (p1:List Int):Option ((List Int)×l1Cur) :=
  (chk (decide (((([]:List Int)).length+p1.length)*1≤140737488355328))).bind fun _=>(spec_l1Below u p0 6).bind fun r2=>bif r2.1 == 0 then (bif decide (((((([]:List Int))++p1).length:Int)) > 0) then ((spec_l1Below u r2.2 ((((([]:List Int))++p1).length:Int))).bind fun r3=>(spec_l1Below u r3.2 256).bind fun r4=>(idx ((([]:List Int))++p1) r3.1).bind fun y5=>spec_l1Bent_j1 u (((([]:List Int))++p1).set (Int.toNat r3.1) (IntKind.wrap .u8 r4.1)) r4.2.fB r4.2.fI r4.2.fH) else (spec_l1Bent_j1 u ((([]:List Int))++p1) r2.2.fB r2.2.fI r2.2.fH)) else (bif r2.1 == 1 then ((spec_l1Below u r2.2 (bAdd .i64 ((((([]:List Int))++p1).length:Int)) 1)).bind fun r6=>(chk (sliceOK 0 r6.1 ((([]:List Int))++p1).length)).bind fun _=>spec_l1Bent_j1 u ((((([]:List Int))++p1).take (Int.toNat r6.1)).drop (Int.toNat 0)) r6.2.fB r6.2.fI r6.2.fH) else (bif r2.1 == 2 then ((spec_l1Int u r2.2 (([0,1,128,255]:List Int))).bind fun r8=>(chk (decide ((((([]:List Int))++p1).length+(([IntKind.wrap .u8 r8.1]:List Int)).length)*1≤140737488355328))).bind fun _=>spec_l1Bent_j1 u (((([]:List Int))++p1)++(([IntKind.wrap .u8 r8.1]:List Int))) r8.2.fB r8.2.fI r8.2.fH) else (bif r2.1 == 3 then (bif decide (((((([]:List Int))++p1).length:Int)) > 0) then ((spec_l1Below u r2.2 ((((([]:List Int))++p1).length:Int))).bind fun r10=>(idx ((([]:List Int))++p1) r10.1).bind fun y11=>(spec_l1Below u r10.2 8).bind fun r12=>(chk (decide (0≤r12.1))).bind fun _=>(idx ((([]:List Int))++p1) r10.1).bind fun y14=>spec_l1Bent_j1 u (((([]:List Int))++p1).set (Int.toNat r10.1) (bXor .u8 y11 (bShl .u8 1 r12.1))) r12.2.fB r12.2.fI r12.2.fH) else (spec_l1Bent_j1 u ((([]:List Int))++p1) r2.2.fB r2.2.fI r2.2.fH)) else (spec_l1Bent_j1 u ((([]:List Int))++p1) r2.2.fB r2.2.fI r2.2.fH))))
def spec_l7Old (u:Nat) (p0:l1Cur) (p1:List Int):Option ((List Int)×l1Cur) :=
  (spec_l1Below u p0 5).bind fun r1=>bif r1.1 == 0 then ((spec_l3Bytes u r1.2 16).bind fun r2=>some ((r2.1,r2.2))) else (bif r1.1 == 1 then ((chk (decide (((([]:List Int)).length+p1.length)*1≤140737488355328))).bind fun _=>some (((([]:List Int))++p1,r1.2))) else (bif r1.1 == 2 then ((spec_l1Below u r1.2 (bAdd .i64 ((p1.length:Int)) 1)).bind fun r4=>(chk (sliceOK r4.1 ((p1.length:Int)) p1.length)).bind fun _=>(chk (decide (((([120]:List Int)).length+((p1.take (Int.toNat ((p1.length:Int)))).drop (Int.toNat r4.1)).length)*1≤140737488355328))).bind fun _=>(chk (sliceOK 0 r4.1 p1.length)).bind fun _=>(chk (decide ((((([120]:List Int))++((p1.take (Int.toNat ((p1.length:Int)))).drop (Int.toNat r4.1))).length+((p1.take (Int.toNat r4.1)).drop (Int.toNat 0)).length)*1≤140737488355328))).bind fun _=>some ((((([120]:List Int))++((p1.take (Int.toNat ((p1.length:Int)))).drop (Int.toNat r4.1)))++((p1.take (Int.toNat r4.1)).drop (Int.toNat 0)),r4.2))) else (bif r1.1 == 3 then (some ((([]:List Int),r1.2))) else ((spec_l3Bytes u r1.2 3).bind fun r9=>(spec_l1Bent u r9.2 p1).bind fun r10=>(chk (decide ((r9.1.length+r10.1.length)*1≤140737488355328))).bind fun _=>some ((r9.1++r10.1,r10.2))))))
def spec_DrawCommit (u:Nat) (p0:List Int):Option ((List Int)×(List Int)×Int×Int) :=
  (spec_l1New u p0).bind fun r1=>(spec_l6Image u r1).bind fun r2=>(spec_l7Old u r2.2 r2.1).bind fun r3=>(spec_l1Below u r3.2 5).bind fun r4=>(spec_l1Below u r4.2 5).bind fun r5=>some ((r3.1,r2.1,bAdd .i64 2 r4.1,r5.1))
def impl_within (u:Nat) (p0:Int) (p1:Int) (p2:Int):Option Bool :=
  bif decide (p0≥p1) then (some (decide (p0≤p2))) else (some false)
def impl_SizeOk (u:Nat) (p0:Int) (p1:Int):Option Bool :=
  (impl_within u p0 2 6).bind fun r1=>bif r1 then ((impl_within u p1 0 (bMul .i64 40 p0)).bind fun r2=>some r2) else (some false)
def impl_CeilDiv_j1 (u:Nat) (p0:Int) (p1:Int) (x3:Bool):Option Int :=
  bif x3 then (some 0) else ((chk (!(p1 == 0))).bind fun _=>some (bQuo .i64 (bSub .i64 (bAdd .i64 p0 p1) 1) p1))
def impl_CeilDiv (u:Nat) (p0:Int) (p1:Int):Option Int :=
  (impl_within u p0 0 1000000000000).bind fun r1=>bif !r1 then (impl_CeilDiv_j1 u p0 p1 true) else ((impl_within u p1 1 1000000000000).bind fun r2=>impl_CeilDiv_j1 u p0 p1 (!r2))
def impl_Blocks (u:Nat) (p0:Int) (p1:Int):Option Int :=
  (impl_SizeOk u p0 p1).bind fun r1=>bif !r1 then (some 0) else ((impl_CeilDiv u p1 p0).bind fun r2=>some r2)
def impl_SpanOf (u:Nat) (p0:Int) (p1:Int) (p2:Int):Option (Int×Int) :=
  (impl_Blocks u p0 p1).bind fun r1=>(impl_within u p2 0 (bSub .i64 r1 1)).bind fun r2=>bif !r2 then (some ((0,0))) else (some ((bMul .i64 p2 p0,if (bSub .i64 p1 (bMul .i64 p2 p0)) < p0 then (bSub .i64 p1 (bMul .i64 p2 p0)) else p0)))
def impl_cloned (u:Nat) (p0:List Int):Option ((List Int)) :=
  (chk (decide (0≤((p0.length:Int))) && (0 == 0 || 0 == ((p0.length:Int))))).bind fun _=>(chk (decide (Int.toNat ((p0.length:Int))*1≤140737488355328))).bind fun _=>(chk (decide (((List.replicate (Int.toNat 0) (0:Int)).length+p0.length)*1≤140737488355328))).bind fun _=>some ((List.replicate (Int.toNat 0) (0:Int))++p0)
def impl_Slice_j1 (u:Nat) (p0:List Int) (p1:Int) (p2:Int) (x3:Bool):Option ((List Int)×Bool) :=
  bif x3 then (some (([],false))) else ((chk (sliceOK p1 (bAdd .i64 p1 p2) p0.length)).bind fun _=>(impl_cloned u ((p0.take (Int.toNat (bAdd .i64 p1 p2))).drop (Int.toNat p1))).bind fun r5=>some ((r5,true)))
def impl_Slice (u:Nat) (p0:List Int) (p1:Int) (p2:Int):Option ((List Int)×Bool) :=
  (impl_within u p1 0 ((p0.length:Int))).bind fun r1=>bif !r1 then (impl_Slice_j1 u p0 p1 p2 true) else ((impl_within u p2 0 (bSub .i64 ((p0.length:Int)) p1)).bind fun r2=>impl_Slice_j1 u p0 p1 p2 (!r2))
def impl_BlockAt (u:Nat) (p0:List Int) (p1:Int) (p2:Int):Option ((List Int)×Bool) :=
  (impl_SpanOf u p1 ((p0.length:Int)) p2).bind fun r1=>bif r1.2 == 0 then (some (([],false))) else ((impl_Slice u p0 r1.1 r1.2).bind fun r2=>some ((r2.1,r2.2)))
def impl_Wrap (u:Nat) (p0:Int) (p1:Int):Option Int :=
  (impl_within u p1 1 1000000000000).bind fun r1=>bif !r1 then (some 0) else ((chk (!(p1 == 0))).bind fun _=>(chk (!(p1 == 0))).bind fun _=>some (bRem .i64 (bAdd .i64 (bRem .i64 p0 p1) p1) p1))
def impl_weak (u:Nat) (p0:Int) (p1:Int):Option Int :=
  (impl_Wrap u p0 251).bind fun r1=>(impl_Wrap u p1 251).bind fun r2=>some (bAdd .i64 r1 (bMul .i64 251 r2))
def impl_WeakOf_j1 (u:Nat) (x11:Int) (x12:Int):Option Int :=
  (impl_weak u x11 x12).bind fun r13=>some r13
def impl_WeakOf_l2 (u:Nat) (k_impl_WeakOf_l2:Nat) (x4:Int) (x5:Int) (p0:List Int) (x6:Int):Option Int:=match k_impl_WeakOf_l2 with
  | 0=>none
  | k_impl_WeakOf_l2+1=>bif decide (x6 < ((p0.length:Int))) then ((idx p0 x6).bind fun y10=>(fun z0 z1 z2 z3=>impl_WeakOf_l2 u k_impl_WeakOf_l2 z0 z1 z2 z3) (bRem .i64 (bAdd .i64 x4 (IntKind.wrap .i64 y10)) 251) (bRem .i64 (bAdd .i64 x5 (bRem .i64 (bAdd .i64 x4 (IntKind.wrap .i64 y10)) 251)) 251) p0 (bAdd .i64 x6 1)) else (impl_WeakOf_j1 u x4 x5)
def impl_WeakOf (u:Nat) (p0:List Int):Option Int :=
  impl_WeakOf_l2 u u 0 0 p0 0
def impl_WeakOf_l2_f (u:Nat) (p0:List Int) (s:Int×Int):Option Int:=(impl_WeakOf_j1 u s.1 s.2)
def impl_WeakOf_l2_b (u:Nat) (p0:List Int) (y10:Int) (i_:Nat) (s:Int×Int) (k_:(Int×Int)→Option Int):Option Int:=(fun z0 z1 z2 z3=>k_ (z0,z1)) (bRem .i64 (bAdd .i64 s.1 (IntKind.wrap .i64 y10)) 251) (bRem .i64 (bAdd .i64 s.2 (bRem .i64 (bAdd .i64 s.1 (IntKind.wrap .i64 y10)) 251)) 251) p0 (bAdd .i64 (i_:Int) 1)
theorem impl_WeakOf_l2_w (u:Nat) (p0:List Int) (s:Int×Int) (k:Nat) (hn:p0.length≤9223372036854775807) (hk:p0.length < k):impl_WeakOf_l2 u k s.1 s.2 p0 0=Pu.wlist (impl_WeakOf_l2_f u p0) (impl_WeakOf_l2_b u p0) p0 0 s:=Pu.wlist_0 (fun (k:Nat) (s:Int×Int) (i:Int)=>impl_WeakOf_l2 u k s.1 s.2 p0 i) hn (fun _ _ _=>rfl) s hk
def impl_SumOf_j1 (u:Nat) (p0:List Int) (x8:Int):Option Sum :=
  (impl_WeakOf u p0).bind fun r9=>some ((Sum.mk r9 x8))
def impl_SumOf_l2 (u:Nat) (k_impl_SumOf_l2:Nat) (p0:List Int) (x3:Int) (x4:Int):Option Sum:=match k_impl_SumOf_l2 with
  | 0=>none
  | k_impl_SumOf_l2+1=>bif decide (x4 < ((p0.length:Int))) then ((idx p0 x4).bind fun y7=>(fun z0 z1 z2=>impl_SumOf_l2 u k_impl_SumOf_l2 z0 z1 z2) p0 (bOr .i64 (bShl .i64 x3 8) (IntKind.wrap .i64 y7)) (bAdd .i64 x4 1)) else (impl_SumOf_j1 u p0 x3)
def impl_SumOf (u:Nat) (p0:List Int):Option Sum :=
  bif decide (((p0.length:Int)) > 6) then (some ((Sum.mk 0 0))) else (impl_SumOf_l2 u u p0 1 0)
def impl_SumOf_l2_f (u:Nat) (p0:List Int) (s:Int):Option Sum:=(impl_SumOf_j1 u p0 s)
def impl_SumOf_l2_b (u:Nat) (p0:List Int) (y7:Int) (i_:Nat) (s:Int) (k_:Int→Option Sum):Option Sum:=(fun z0 z1 z2=>k_ z1) p0 (bOr .i64 (bShl .i64 s 8) (IntKind.wrap .i64 y7)) (bAdd .i64 (i_:Int) 1)
theorem impl_SumOf_l2_w (u:Nat) (p0:List Int) (s:Int) (k:Nat) (hn:p0.length≤9223372036854775807) (hk:p0.length < k):impl_SumOf_l2 u k p0 s 0=Pu.wlist (impl_SumOf_l2_f u p0) (impl_SumOf_l2_b u p0) p0 0 s:=Pu.wlist_0 (fun (k:Nat) (s:Int) (i:Int)=>impl_SumOf_l2 u k p0 s i) hn (fun _ _ _=>rfl) s hk
def impl_SumsOf_j1 (u:Nat) (x10:List Sum):Option ((List Sum)) :=
  some x10
def impl_SumsOf_l2 (u:Nat) (k_impl_SumsOf_l2:Nat) (p0:List Int) (p1:Int) (x4:List Sum) (r1:Int) (x5:Int):Option ((List Sum)):=match k_impl_SumsOf_l2 with
  | 0=>none
  | k_impl_SumsOf_l2+1=>bif decide (x5 < r1) then ((impl_BlockAt u p0 p1 x5).bind fun r8=>(impl_SumOf u r8.1).bind fun r9=>(chk (decide ((x4.length+([r9]).length)*16≤140737488355328))).bind fun _=>(fun z0 z1 z2 z3 z4=>impl_SumsOf_l2 u k_impl_SumsOf_l2 z0 z1 z2 z3 z4) p0 p1 (x4++([r9])) r1 (bAdd .i64 x5 1)) else (impl_SumsOf_j1 u x4)
def impl_SumsOf (u:Nat) (p0:List Int) (p1:Int):Option ((List Sum)) :=
  (impl_Blocks u p1 ((p0.length:Int))).bind fun r1=>impl_SumsOf_l2 u u p0 p1 (([]:List Sum)) r1 0
def impl_SumsOf_l2_f (u:Nat) (p0:List Int) (p1:Int) (r1:Int) (s:(List Sum)):Option ((List Sum)):=(impl_SumsOf_j1 u s)
def impl_SumsOf_l2_b (u:Nat) (p0:List Int) (p1:Int) (r1:Int) (i_:Nat) (s:(List Sum)) (k_:((List Sum))→Option ((List Sum))):Option ((List Sum)):=(impl_BlockAt u p0 p1 (i_:Int)).bind fun r8=>(impl_SumOf u r8.1).bind fun r9=>(chk (decide ((s.length+([r9]).length)*16≤140737488355328))).bind fun _=>(fun z0 z1 z2 z3 z4=>k_ z2) p0 p1 (s++([r9])) r1 (bAdd .i64 (i_:Int) 1)
theorem impl_SumsOf_l2_w (u:Nat) (p0:List Int) (p1:Int) (r1:Int) (s:(List Sum)) (k:Nat) (hn:(r1:Int)≤9223372036854775807) (hk:Int.toNat (r1) < k):impl_SumsOf_l2 u k p0 p1 s r1 0=Pu.walk (impl_SumsOf_l2_f u p0 p1 r1) (impl_SumsOf_l2_b u p0 p1 r1) (Int.toNat (r1)) 0 s:=Pu.walk_0 (fun (k:Nat) (s:(List Sum)) (i:Int)=>impl_SumsOf_l2 u k p0 p1 s r1 i) hn (fun _ _ _=>rfl) s hk
def impl_ManOf_j1 (u:Nat) (p0:Int) (p1:List Int) (p2:Int) (x3:Bool):Option Manifest :=
  bif x3 then (some ((Manifest.mk 0 0 0 ([])))) else ((impl_SumsOf u p1 p2).bind fun r4=>some ((Manifest.mk p0 p2 ((p1.length:Int)) r4)))
def impl_ManOf (u:Nat) (p0:Int) (p1:List Int) (p2:Int):Option Manifest :=
  (impl_within u p0 1 1000000).bind fun r1=>bif !r1 then (impl_ManOf_j1 u p0 p1 p2 true) else ((impl_SizeOk u p2 ((p1.length:Int))).bind fun r2=>impl_ManOf_j1 u p0 p1 p2 (!r2))
def impl_isZeroMan (u:Nat) (p0:Manifest):Option Bool :=
  bif p0.fGen == 0 then (bif p0.fSize == 0 then (bif p0.fLen == 0 then (some (((p0.fSums.length:Int)) == 0)) else (some false)) else (some false)) else (some false)
def impl_BytesOf_j3 (u:Nat) (x17:List Int):Option ((List Int)×Bool) :=
  some ((x17,true))
def impl_BytesOf_l4 (u:Nat) (k_impl_BytesOf_l4:Nat) (p0:Int) (x5:Int) (x11:List Int) (x12:Int):Option ((List Int)×Bool):=match k_impl_BytesOf_l4 with
  | 0=>none
  | k_impl_BytesOf_l4+1=>bif decide (x12 < (((List.replicate (Int.toNat x5) (0:Int)).length:Int))) then ((chk (decide (0≤(bMul .i64 8 (bSub .i64 (bSub .i64 x5 1) x12))))).bind fun _=>(idx x11 x12).bind fun y16=>(fun z0 z1 z2 z3=>impl_BytesOf_l4 u k_impl_BytesOf_l4 z0 z1 z2 z3) p0 x5 (x11.set (Int.toNat x12) (IntKind.wrap .u8 (bShr .i64 p0 (bMul .i64 8 (bSub .i64 (bSub .i64 x5 1) x12))))) (bAdd .i64 x12 1)) else (impl_BytesOf_j3 u x11)
def impl_BytesOf_j2 (u:Nat) (p0:Int) (x5:Int) (x6:Bool):Option ((List Int)×Bool) :=
  bif x6 then (some (([],false))) else ((chk (decide (0≤x5) && (x5 == 0 || x5 == x5))).bind fun _=>(chk (decide (Int.toNat x5*1≤140737488355328))).bind fun _=>impl_BytesOf_l4 u u p0 x5 (List.replicate (Int.toNat x5) (0:Int)) 0)
def impl_BytesOf_j1 (u:Nat) (p0:Int) (x5:Int):Option ((List Int)×Bool) :=
  bif decide (p0 < 1) then (impl_BytesOf_j2 u p0 x5 true) else ((chk (decide (0≤(bMul .i64 8 x5)))).bind fun _=>impl_BytesOf_j2 u p0 x5 ((bShr .i64 p0 (bMul .i64 8 x5)) != 1))
def impl_BytesOf_j6 (u:Nat) (c_impl_BytesOf_l5:Int→Int→Option ((List Int)×Bool)) (p0:Int) (x2:Int) (x4:Bool):Option ((List Int)×Bool) :=
  bif x4 then (c_impl_BytesOf_l5 p0 (bAdd .i64 x2 1)) else (impl_BytesOf_j1 u p0 x2)
def impl_BytesOf_l5 (u:Nat) (k_impl_BytesOf_l5:Nat) (p0:Int) (x2:Int):Option ((List Int)×Bool):=match k_impl_BytesOf_l5 with
  | 0=>none
  | k_impl_BytesOf_l5+1=>bif decide (x2 < 6) then ((chk (decide (0≤(bMul .i64 8 x2)))).bind fun _=>impl_BytesOf_j6 u (fun z0 z1=>impl_BytesOf_l5 u k_impl_BytesOf_l5 z0 z1) p0 x2 (decide ((bShr .i64 p0 (bMul .i64 8 x2)) > 1))) else (impl_BytesOf_j6 u (fun z0 z1=>impl_BytesOf_l5 u k_impl_BytesOf_l5 z0 z1) p0 x2 false)
def impl_BytesOf (u:Nat) (p0:Int):Option ((List Int)×Bool) :=
  impl_BytesOf_l5 u u p0 0
def impl_BytesOf_l4_f (u:Nat) (p0:Int) (x5:Int) (s:(List Int)):Option ((List Int)×Bool):=(impl_BytesOf_j3 u s)
def impl_BytesOf_l4_b (u:Nat) (p0:Int) (x5:Int) (i_:Nat) (s:(List Int)) (k_:((List Int))→Option ((List Int)×Bool)):Option ((List Int)×Bool):=(chk (decide (0≤(bMul .i64 8 (bSub .i64 (bSub .i64 x5 1) (i_:Int)))))).bind fun _=>(idx s (i_:Int)).bind fun y16=>(fun z0 z1 z2 z3=>k_ z2) p0 x5 (s.set (Int.toNat (i_:Int)) (IntKind.wrap .u8 (bShr .i64 p0 (bMul .i64 8 (bSub .i64 (bSub .i64 x5 1) (i_:Int)))))) (bAdd .i64 (i_:Int) 1)
theorem impl_BytesOf_l4_w (u:Nat) (p0:Int) (x5:Int) (s:(List Int)) (k:Nat) (hn:((((List.replicate (Int.toNat x5) (0:Int)).length:Int)):Int)≤9223372036854775807) (hk:Int.toNat ((((List.replicate (Int.toNat x5) (0:Int)).length:Int))) < k):impl_BytesOf_l4 u k p0 x5 s 0=Pu.walk (impl_BytesOf_l4_f u p0 x5) (impl_BytesOf_l4_b u p0 x5) (Int.toNat ((((List.replicate (Int.toNat x5) (0:Int)).length:Int)))) 0 s:=Pu.walk_0 (fun (k:Nat) (s:(List Int)) (i:Int)=>impl_BytesOf_l4 u k p0 x5 s i) hn (fun _ _ _=>rfl) s hk
def impl_ManOk_j2 (u:Nat)  : Option Bool :=
  some true
def impl_ManOk_j4 (u:Nat) (c_impl_ManOk_l3:Manifest→Int→Option Bool) (p0:Manifest) (x7:Int) (x13:Bool):Option Bool :=
  bif x13 then (some false) else (c_impl_ManOk_l3 p0 (bAdd .i64 x7 1))
def impl_ManOk_l3 (u:Nat) (k_impl_ManOk_l3:Nat) (p0:Manifest) (x7:Int):Option Bool:=match k_impl_ManOk_l3 with
  | 0=>none
  | k_impl_ManOk_l3+1=>bif decide (x7 < ((p0.fSums.length:Int))) then ((idx p0.fSums x7).bind fun y9=>(impl_BytesOf u y9.fS).bind fun r10=>(impl_SpanOf u p0.fSize p0.fLen x7).bind fun r11=>bif !r10.2 then (impl_ManOk_j4 u (fun z0 z1=>impl_ManOk_l3 u k_impl_ManOk_l3 z0 z1) p0 x7 true) else (bif ((r10.1.length:Int)) != r11.2 then (impl_ManOk_j4 u (fun z0 z1=>impl_ManOk_l3 u k_impl_ManOk_l3 z0 z1) p0 x7 true) else ((impl_WeakOf u r10.1).bind fun r12=>impl_ManOk_j4 u (fun z0 z1=>impl_ManOk_l3 u k_impl_ManOk_l3 z0 z1) p0 x7 (r12 != y9.fW)))) else (impl_ManOk_j2 u)
def impl_ManOk_j1 (u:Nat) (x5:Bool) (p0:Manifest):Option Bool :=
  bif x5 then (some false) else (impl_ManOk_l3 u u p0 0)
def impl_ManOk (u:Nat) (p0:Manifest):Option Bool :=
  (impl_isZeroMan u p0).bind fun r1=>bif r1 then (some true) else ((impl_within u p0.fGen 1 1000000).bind fun r2=>bif !r2 then (impl_ManOk_j1 u true p0) else ((impl_SizeOk u p0.fSize p0.fLen).bind fun r3=>bif !r3 then (impl_ManOk_j1 u true p0) else ((impl_Blocks u p0.fSize p0.fLen).bind fun r4=>impl_ManOk_j1 u (((p0.fSums.length:Int)) != r4) p0)))
def impl_ManOk_l3_f (u:Nat) (p0:Manifest) (s:Unit):Option Bool:=(impl_ManOk_j2 u)
def impl_ManOk_l3_b (u:Nat) (p0:Manifest) (y9:Sum) (i_:Nat) (s:Unit) (k_:Unit→Option Bool):Option Bool:=(impl_BytesOf u y9.fS).bind fun r10=>(impl_SpanOf u p0.fSize p0.fLen (i_:Int)).bind fun r11=>bif !r10.2 then (impl_ManOk_j4 u (fun z0 z1=>k_ ()) p0 (i_:Int) true) else (bif ((r10.1.length:Int)) != r11.2 then (impl_ManOk_j4 u (fun z0 z1=>k_ ()) p0 (i_:Int) true) else ((impl_WeakOf u r10.1).bind fun r12=>impl_ManOk_j4 u (fun z0 z1=>k_ ()) p0 (i_:Int) (r12 != y9.fW)))
theorem impl_ManOk_l3_w (u:Nat) (p0:Manifest) (s:Unit) (k:Nat) (hn:p0.fSums.length≤9223372036854775807) (hk:p0.fSums.length < k):impl_ManOk_l3 u k p0 0=Pu.wlist (impl_ManOk_l3_f u p0) (impl_ManOk_l3_b u p0) p0.fSums 0 s:=Pu.wlist_0 (fun (k:Nat) (s:Unit) (i:Int)=>impl_ManOk_l3 u k p0 i) hn (fun _ _ _=>rfl) s hk
def impl_BuildNew (u:Nat) (p0:Manifest):Option Build :=
  (impl_ManOk u p0).bind fun r1=>bif !r1 then (some ((Build.mk 0 ([])))) else ((chk (decide (0≤p0.fLen) && (p0.fLen == 0 || p0.fLen == p0.fLen))).bind fun _=>(chk (decide (Int.toNat p0.fLen*1≤140737488355328))).bind fun _=>some ((Build.mk 0 (List.replicate (Int.toNat p0.fLen) (0:Int)))))
def impl_FindSum_j1 (u:Nat)  : Option Int :=
  some (-1)
def impl_FindSum_l2 (u:Nat) (k_impl_FindSum_l2:Nat) (p0:List Int) (p2:Int) (x3:Int) (p1:Sum):Option Int:=match k_impl_FindSum_l2 with
  | 0=>none
  | k_impl_FindSum_l2+1=>bif decide ((bAdd .i64 x3 p2)≤((p0.length:Int))) then ((chk (sliceOK x3 (bAdd .i64 x3 p2) p0.length)).bind fun _=>(impl_SumOf u ((p0.take (Int.toNat (bAdd .i64 x3 p2))).drop (Int.toNat x3))).bind fun r6=>bif [r6.fW,r6.fS] == [p1.fW,p1.fS] then (some x3) else ((fun z0 z1 z2 z3=>impl_FindSum_l2 u k_impl_FindSum_l2 z0 z1 z2 z3) p0 p2 (bAdd .i64 x3 1) p1)) else (impl_FindSum_j1 u)
def impl_FindSum (u:Nat) (p0:List Int) (p1:Sum) (p2:Int):Option Int :=
  (impl_within u p2 1 6).bind fun r1=>bif !r1 then (some (-1)) else (impl_FindSum_l2 u u p0 p2 0 p1)
def impl_PlaceOf (u:Nat) (p0:List Int) (p1:Manifest) (p2:Int):Option Int :=
  (impl_SpanOf u p1.fSize p1.fLen p2).bind fun r1=>(impl_within u p2 0 (bSub .i64 ((p1.fSums.length:Int)) 1)).bind fun r2=>bif !r2 then (some (-1)) else ((idx p1.fSums p2).bind fun y3=>(impl_FindSum u p0 y3 r1.2).bind fun r4=>some r4)
def impl_Build__block__w (u:Nat) (p0:Build) (p1:Manifest) (p2:Int):Option (Int×Int) :=
  (impl_SpanOf u p1.fSize p1.fLen p2).bind fun r1=>(chk (sliceOK r1.1 (bAdd .i64 r1.1 r1.2) p0.fBuf.length)).bind fun _=>some (r1.1,bAdd .i64 r1.1 r1.2)
def impl_Build__put (u:Nat) (p0:Build) (p1:Manifest) (p2:Int) (p3:List Int):Option Build :=
  (impl_Build__block__w u p0 p1 p2).bind fun r1=>(chk (cpOK r1.1 r1.2 p0.fBuf.length p3.length)).bind fun _=>(chk (decide (0≤p2))).bind fun _=>some ((Build.mk (bOr .i64 p0.fHave (bShl .i64 1 p2)) (overL p0.fBuf p3 (Int.toNat r1.1))))
def impl_BuildFrom_j1 (u:Nat) (x18:Int) (x19:List Int):Option Build :=
  some ((Build.mk x18 x19))
def impl_BuildFrom_j3 (u:Nat) (c_impl_BuildFrom_l2:(List Int)→Manifest→Int→Int→(List Int)→Option Build) (p1:List Int) (p0:Manifest) (x6:Int) (x16:Int) (x17:List Int):Option Build :=
  c_impl_BuildFrom_l2 p1 p0 (bAdd .i64 x6 1) x16 x17
def impl_BuildFrom_l2 (u:Nat) (k_impl_BuildFrom_l2:Nat) (p1:List Int) (p0:Manifest) (x6:Int) (x7:Int) (x8:List Int):Option Build:=match k_impl_BuildFrom_l2 with
  | 0=>none
  | k_impl_BuildFrom_l2+1=>bif decide (x6 < ((p0.fSums.length:Int))) then ((impl_SpanOf u p0.fSize p0.fLen x6).bind fun r12=>(impl_PlaceOf u p1 p0 x6).bind fun r13=>bif decide (r13≥0) then ((chk (sliceOK r13 (bAdd .i64 r13 r12.2) p1.length)).bind fun _=>(impl_Build__put u ((Build.mk x7 x8)) p0 x6 ((p1.take (Int.toNat (bAdd .i64 r13 r12.2))).drop (Int.toNat r13))).bind fun r15=>impl_BuildFrom_j3 u (fun z0 z1 z2 z3 z4=>impl_BuildFrom_l2 u k_impl_BuildFrom_l2 z0 z1 z2 z3 z4) p1 p0 x6 r15.fHave r15.fBuf) else (impl_BuildFrom_j3 u (fun z0 z1 z2 z3 z4=>impl_BuildFrom_l2 u k_impl_BuildFrom_l2 z0 z1 z2 z3 z4) p1 p0 x6 x7 x8)) else (impl_BuildFrom_j1 u x7 x8)
def impl_BuildFrom (u:Nat) (p0:Manifest) (p1:List Int):Option Build :=
  (impl_BuildNew u p0).bind fun r1=>(impl_ManOk u p0).bind fun r2=>bif !r2 then (some r1) else (impl_BuildFrom_l2 u u p1 p0 0 r1.fHave r1.fBuf)
def impl_BuildFrom_l2_f (u:Nat) (p1:List Int) (p0:Manifest) (s:Int×(List Int)):Option Build:=(impl_BuildFrom_j1 u s.1 s.2)
def impl_BuildFrom_l2_b (u:Nat) (p1:List Int) (p0:Manifest) (i_:Nat) (s:Int×(List Int)) (k_:(Int×(List Int))→Option Build):Option Build:=(impl_SpanOf u p0.fSize p0.fLen (i_:Int)).bind fun r12=>(impl_PlaceOf u p1 p0 (i_:Int)).bind fun r13=>bif decide (r13≥0) then ((chk (sliceOK r13 (bAdd .i64 r13 r12.2) p1.length)).bind fun _=>(impl_Build__put u ((Build.mk s.1 s.2)) p0 (i_:Int) ((p1.take (Int.toNat (bAdd .i64 r13 r12.2))).drop (Int.toNat r13))).bind fun r15=>impl_BuildFrom_j3 u (fun z0 z1 z2 z3 z4=>k_ (z3,z4)) p1 p0 (i_:Int) r15.fHave r15.fBuf) else (impl_BuildFrom_j3 u (fun z0 z1 z2 z3 z4=>k_ (z3,z4)) p1 p0 (i_:Int) s.1 s.2)
theorem impl_BuildFrom_l2_w (u:Nat) (p1:List Int) (p0:Manifest) (s:Int×(List Int)) (k:Nat) (hn:(((p0.fSums.length:Int)):Int)≤9223372036854775807) (hk:Int.toNat (((p0.fSums.length:Int))) < k):impl_BuildFrom_l2 u k p1 p0 0 s.1 s.2=Pu.walk (impl_BuildFrom_l2_f u p1 p0) (impl_BuildFrom_l2_b u p1 p0) (Int.toNat (((p0.fSums.length:Int)))) 0 s:=Pu.walk_0 (fun (k:Nat) (s:Int×(List Int)) (i:Int)=>impl_BuildFrom_l2 u k p1 p0 i s.1 s.2) hn (fun _ _ _=>rfl) s hk
def impl_isGen (u:Nat) (p0:Int):Option Bool :=
  (impl_within u p0 0 1000000).bind fun r1=>some r1
def impl_DiskNew_j1 (u:Nat) (p0:Int) (p1:List Int) (x2:Bool):Option Disk :=
  bif x2 then (some ((Disk.mk ([]) ([]) ((Record.mk 0 0 0)) ([])))) else ((impl_cloned u p1).bind fun r3=>some ((Disk.mk r3 ([]) ((Record.mk p0 0 ((p1.length:Int)))) ([]))))
def impl_DiskNew (u:Nat) (p0:Int) (p1:List Int):Option Disk :=
  (impl_isGen u p0).bind fun r1=>bif !r1 then (impl_DiskNew_j1 u p0 p1 true) else (impl_DiskNew_j1 u p0 p1 (decide (((p1.length:Int)) > 240)))
def impl_isSlot (u:Nat) (p0:Int):Option Bool :=
  bif p0 == 0 then (some true) else (some (p0 == 1))
def impl_isRecord (u:Nat) (p0:Record):Option Bool :=
  (impl_isGen u p0.fGen).bind fun r1=>bif r1 then ((impl_isSlot u p0.fSlot).bind fun r2=>bif r2 then ((impl_within u p0.fLen 0 240).bind fun r3=>some r3) else (some false)) else (some false)
def impl_Disk__slot__frz0 (u:Nat) (p0:Disk) (p1:Int):Option ((List Int)) :=
  bif p1 == 0 then (some p0.fA) else (some p0.fB)
def impl_isPut (u:Nat) (p0:Put):Option Bool :=
  bif p0.fWhat == 2 then (bif p0.fAt == 0 then (bif ((p0.fB.length:Int)) == 0 then ((impl_isRecord u p0.fR).bind fun r1=>some r1) else (some false)) else (some false)) else ((impl_isSlot u p0.fWhat).bind fun r2=>bif r2 then (bif [p0.fR.fGen,p0.fR.fSlot,p0.fR.fLen] == [0,0,0] then ((impl_within u p0.fAt 0 (bSub .i64 240 ((p0.fB.length:Int)))).bind fun r3=>some r3) else (some false)) else (some false))
def impl_DiskOk_1 (u:Nat) (p0:Put):Option Bool :=
  (impl_isPut u p0).bind fun r1=>some (!r1)
def slices_IndexFunc___impl_Put_impl_Put__impl_DiskOk_1_j1 (u:Nat)  : Option Int :=
  some (-1)
def slices_IndexFunc___impl_Put_impl_Put__impl_DiskOk_1_l2 (u:Nat) (k_slices_IndexFunc___impl_Put_impl_Put__impl_DiskOk_1_l2:Nat) (p0:List Put) (x2:Int):Option Int:=match k_slices_IndexFunc___impl_Put_impl_Put__impl_DiskOk_1_l2 with
  | 0=>none
  | k_slices_IndexFunc___impl_Put_impl_Put__impl_DiskOk_1_l2+1=>bif decide (x2 < ((p0.length:Int))) then ((idx p0 x2).bind fun y4=>(impl_DiskOk_1 u y4).bind fun r5=>bif r5 then (some x2) else ((fun z0 z1=>slices_IndexFunc___impl_Put_impl_Put__impl_DiskOk_1_l2 u k_slices_IndexFunc___impl_Put_impl_Put__impl_DiskOk_1_l2 z0 z1) p0 (bAdd .i64 x2 1))) else (slices_IndexFunc___impl_Put_impl_Put__impl_DiskOk_1_j1 u)
def slices_IndexFunc___impl_Put_impl_Put__impl_DiskOk_1 (u:Nat) (p0:List Put):Option Int :=
  slices_IndexFunc___impl_Put_impl_Put__impl_DiskOk_1_l2 u u p0 0
def slices_IndexFunc___impl_Put_impl_Put__impl_DiskOk_1_l2_f (u:Nat) (p0:List Put) (s:Unit):Option Int:=(slices_IndexFunc___impl_Put_impl_Put__impl_DiskOk_1_j1 u)
def slices_IndexFunc___impl_Put_impl_Put__impl_DiskOk_1_l2_b (u:Nat) (p0:List Put) (y4:Put) (i_:Nat) (s:Unit) (k_:Unit→Option Int):Option Int:=(impl_DiskOk_1 u y4).bind fun r5=>bif r5 then (some (i_:Int)) else ((fun z0 z1=>k_ ()) p0 (bAdd .i64 (i_:Int) 1))
theorem slices_IndexFunc___impl_Put_impl_Put__impl_DiskOk_1_l2_w (u:Nat) (p0:List Put) (s:Unit) (k:Nat) (hn:p0.length≤9223372036854775807) (hk:p0.length < k):slices_IndexFunc___impl_Put_impl_Put__impl_DiskOk_1_l2 u k p0 0=Pu.wlist (slices_IndexFunc___impl_Put_impl_Put__impl_DiskOk_1_l2_f u p0) (slices_IndexFunc___impl_Put_impl_Put__impl_DiskOk_1_l2_b u p0) p0 0 s:=Pu.wlist_0 (fun (k:Nat) (s:Unit) (i:Int)=>slices_IndexFunc___impl_Put_impl_Put__impl_DiskOk_1_l2 u k p0 i) hn (fun _ _ _=>rfl) s hk
def slices_ContainsFunc___impl_Put_impl_Put__impl_DiskOk_1 (u:Nat) (p0:List Put):Option Bool :=
  (slices_IndexFunc___impl_Put_impl_Put__impl_DiskOk_1 u p0).bind fun r1=>some (decide (r1≥0))
def impl_DiskOk_j1 (u:Nat) (p0:Disk) (x3:Bool):Option Bool :=
  bif x3 then (some false) else (bif decide (((p0.fP.length:Int))≤200) then ((slices_ContainsFunc___impl_Put_impl_Put__impl_DiskOk_1 u p0.fP).bind fun r4=>some (!r4)) else (some false))
def impl_DiskOk (u:Nat) (p0:Disk):Option Bool :=
  bif decide (((p0.fA.length:Int)) > 240) then (impl_DiskOk_j1 u p0 true) else (bif decide (((p0.fB.length:Int)) > 240) then (impl_DiskOk_j1 u p0 true) else ((impl_isRecord u p0.fR).bind fun r1=>bif !r1 then (impl_DiskOk_j1 u p0 true) else ((impl_Disk__slot__frz0 u p0 p0.fR.fSlot).bind fun r2=>impl_DiskOk_j1 u p0 (decide (p0.fR.fLen > ((r2.length:Int)))))))
def impl_Recover (u:Nat) (p0:Disk):Option (Int×(List Int)) :=
  (impl_DiskOk u p0).bind fun r1=>bif !r1 then (some ((0,[]))) else ((impl_Disk__slot__frz0 u p0 p0.fR.fSlot).bind fun r2=>(chk (sliceOK 0 p0.fR.fLen r2.length)).bind fun _=>(impl_cloned u ((r2.take (Int.toNat p0.fR.fLen)).drop (Int.toNat 0))).bind fun r4=>some ((p0.fR.fGen,r4)))
def bytes_Equal (u:Nat) (p0:List Int) (p1:List Int):Option Bool :=
  some ((strOfNums p0).toList == (strOfNums p1).toList)
def impl_SameBytes (u:Nat) (p0:List Int) (p1:List Int):Option Bool :=
  (bytes_Equal u p0 p1).bind fun r1=>some r1
def impl_Holds (u:Nat) (p0:Disk) (p1:Int) (p2:List Int):Option Bool :=
  (impl_Recover u p0).bind fun r1=>bif r1.1 == p1 then ((impl_SameBytes u r1.2 p2).bind fun r2=>some r2) else (some false)
def impl_HoldsAny (u:Nat) (p0:Disk) (p1:List Int) (p2:Int) (p3:List Int):Option Bool :=
  (impl_Holds u p0 0 p1).bind fun r1=>bif r1 then (some true) else ((impl_Holds u p0 p2 p3).bind fun r2=>some r2)
def impl_copyPut (u:Nat) (p0:Put):Option Put :=
  (impl_cloned u p0.fB).bind fun r1=>some ((Put.mk p0.fWhat p0.fAt r1 p0.fR))
def impl_copyDisk_j1 (u:Nat) (r1:(List Int)) (r2:(List Int)) (p0:Disk) (x11:List Put):Option Disk :=
  some ((Disk.mk r1 r2 p0.fR x11))
def impl_copyDisk_l2 (u:Nat) (k_impl_copyDisk_l2:Nat) (p0:Disk) (x5:Int) (r1:(List Int)) (r2:(List Int)) (x6:List Put):Option Disk:=match k_impl_copyDisk_l2 with
  | 0=>none
  | k_impl_copyDisk_l2+1=>bif decide (x5 < ((p0.fP.length:Int))) then ((idx p0.fP x5).bind fun y9=>(impl_copyPut u y9).bind fun r10=>(chk (decide ((x6.length+([r10]).length)*64≤140737488355328))).bind fun _=>(fun z0 z1 z2 z3 z4=>impl_copyDisk_l2 u k_impl_copyDisk_l2 z0 z1 z2 z3 z4) p0 (bAdd .i64 x5 1) r1 r2 (x6++([r10]))) else (impl_copyDisk_j1 u r1 r2 p0 x6)
def impl_copyDisk (u:Nat) (p0:Disk):Option Disk :=
  (impl_cloned u p0.fA).bind fun r1=>(impl_cloned u p0.fB).bind fun r2=>impl_copyDisk_l2 u u p0 0 r1 r2 ([])
def impl_copyDisk_l2_f (u:Nat) (p0:Disk) (r1:(List Int)) (r2:(List Int)) (s:(List Put)):Option Disk:=(impl_copyDisk_j1 u r1 r2 p0 s)
def impl_copyDisk_l2_b (u:Nat) (p0:Disk) (r1:(List Int)) (r2:(List Int)) (y9:Put) (i_:Nat) (s:(List Put)) (k_:((List Put))→Option Disk):Option Disk:=(impl_copyPut u y9).bind fun r10=>(chk (decide ((s.length+([r10]).length)*64≤140737488355328))).bind fun _=>(fun z0 z1 z2 z3 z4=>k_ z4) p0 (bAdd .i64 (i_:Int) 1) r1 r2 (s++([r10]))
theorem impl_copyDisk_l2_w (u:Nat) (p0:Disk) (r1:(List Int)) (r2:(List Int)) (s:(List Put)) (k:Nat) (hn:p0.fP.length≤9223372036854775807) (hk:p0.fP.length < k):impl_copyDisk_l2 u k p0 0 r1 r2 s=Pu.wlist (impl_copyDisk_l2_f u p0 r1 r2) (impl_copyDisk_l2_b u p0 r1 r2) p0.fP 0 s:=Pu.wlist_0 (fun (k:Nat) (s:(List Put)) (i:Int)=>impl_copyDisk_l2 u k p0 i r1 r2 s) hn (fun _ _ _=>rfl) s hk
def impl_SetOk (u:Nat) (p0:Int):Option Bool :=
  (impl_within u p0 0 1099511627775).bind fun r1=>some r1
def impl_isPlace (u:Nat) (p0:Int):Option Bool :=
  (impl_within u p0 0 39).bind fun r1=>some r1
def impl_InSet (u:Nat) (p0:Int) (p1:Int):Option Bool :=
  (impl_SetOk u p0).bind fun r1=>bif r1 then ((impl_isPlace u p1).bind fun r2=>bif r2 then ((chk (decide (0≤p1))).bind fun _=>some ((bAnd .i64 (bShr .i64 p0 p1) 1) == 1)) else (some false)) else (some false)
def impl_Fall_1 (u:Nat) (p0:Int) (q0:Int):Option Bool :=
  (impl_InSet u q0 p0).bind fun r1=>some r1
def impl_Disk__slot (u:Nat) (p0:Disk) (p1:Int):Option (Nat×Disk) :=
  bif p1 == 0 then (some ((0,p0))) else (some ((1,p0)))
def impl_Disk__perform_j1 (u:Nat) (p1:Put) (r1:Nat×Disk) (x5:List Int):Option Disk :=
  (chk (subOK p1.fAt x5.length)).bind fun _=>some ((Disk.mk r1.2.fA (overL x5 p1.fB (Int.toNat p1.fAt)) r1.2.fR r1.2.fP))
def impl_Disk__perform_l2 (u:Nat) (k_impl_Disk__perform_l2:Nat) (p1:Put) (r1:Nat×Disk) (x3:List Int):Option Disk:=match k_impl_Disk__perform_l2 with
  | 0=>none
  | k_impl_Disk__perform_l2+1=>bif decide (((x3.length:Int)) < (bAdd .i64 p1.fAt ((p1.fB.length:Int)))) then ((chk (decide ((x3.length+(([0]:List Int)).length)*1≤140737488355328))).bind fun _=>(fun z0 z1 z2=>impl_Disk__perform_l2 u k_impl_Disk__perform_l2 z0 z1 z2) p1 r1 (x3++(([0]:List Int)))) else (impl_Disk__perform_j1 u p1 r1 x3)
def impl_Disk__perform_j3 (u:Nat) (p1:Put) (x9:List Int) (r1:Nat×Disk):Option Disk :=
  (chk (subOK p1.fAt x9.length)).bind fun _=>some ((Disk.mk (overL x9 p1.fB (Int.toNat p1.fAt)) r1.2.fB r1.2.fR r1.2.fP))
def impl_Disk__perform_l4 (u:Nat) (k_impl_Disk__perform_l4:Nat) (p1:Put) (x7:List Int) (r1:Nat×Disk):Option Disk:=match k_impl_Disk__perform_l4 with
  | 0=>none
  | k_impl_Disk__perform_l4+1=>bif decide (((x7.length:Int)) < (bAdd .i64 p1.fAt ((p1.fB.length:Int)))) then ((chk (decide ((x7.length+(([0]:List Int)).length)*1≤140737488355328))).bind fun _=>(fun z0 z1 z2=>impl_Disk__perform_l4 u k_impl_Disk__perform_l4 z0 z1 z2) p1 (x7++(([0]:List Int))) r1) else (impl_Disk__perform_j3 u p1 x7 r1)
def impl_Disk__perform (u:Nat) (p0:Disk) (p1:Put):Option Disk :=
  bif p1.fWhat == 2 then (some ((Disk.mk p0.fA p0.fB p1.fR p0.fP))) else ((impl_Disk__slot u p0 p1.fWhat).bind fun r1=>bif Nat.beq r1.1 0 then (impl_Disk__perform_l4 u u p1 r1.2.fA r1) else (bif Nat.beq r1.1 1 then (impl_Disk__perform_l2 u u p1 r1 r1.2.fB) else none))
def impl_Disk__settled__impl_Fall_1_j1 (u:Nat) (x33:List Int) (x34:List Int) (x35:Int) (x36:Int) (x37:Int) (x38:List Put):Option Disk :=
  some ((Disk.mk x33 x34 ((Record.mk x35 x36 x37)) ([])))
def impl_Disk__settled__impl_Fall_1_j3 (u:Nat) (c_impl_Disk__settled__impl_Fall_1_l2:Int→Disk→Int→(List Int)→(List Int)→Int→Int→Int→(List Put)→Option Disk) (p1_0:Int) (p0:Disk) (x10:Int) (x27:List Int) (x28:List Int) (x29:Int) (x30:Int) (x31:Int) (x32:List Put):Option Disk :=
  c_impl_Disk__settled__impl_Fall_1_l2 p1_0 p0 (bAdd .i64 x10 1) x27 x28 x29 x30 x31 x32
def impl_Disk__settled__impl_Fall_1_l2 (u:Nat) (k_impl_Disk__settled__impl_Fall_1_l2:Nat) (p1_0:Int) (p0:Disk) (x10:Int) (x11:List Int) (x12:List Int) (x13:Int) (x14:Int) (x15:Int) (x16:List Put):Option Disk:=match k_impl_Disk__settled__impl_Fall_1_l2 with
  | 0=>none
  | k_impl_Disk__settled__impl_Fall_1_l2+1=>bif decide (x10 < ((p0.fP.length:Int))) then ((idx p0.fP x10).bind fun y24=>(impl_Fall_1 u x10 p1_0).bind fun r25=>bif r25 then ((impl_Disk__perform u ((Disk.mk x11 x12 ((Record.mk x13 x14 x15)) x16)) y24).bind fun r26=>impl_Disk__settled__impl_Fall_1_j3 u (fun z0 z1 z2 z3 z4 z5 z6 z7 z8=>impl_Disk__settled__impl_Fall_1_l2 u k_impl_Disk__settled__impl_Fall_1_l2 z0 z1 z2 z3 z4 z5 z6 z7 z8) p1_0 p0 x10 r26.fA r26.fB r26.fR.fGen r26.fR.fSlot r26.fR.fLen r26.fP) else (impl_Disk__settled__impl_Fall_1_j3 u (fun z0 z1 z2 z3 z4 z5 z6 z7 z8=>impl_Disk__settled__impl_Fall_1_l2 u k_impl_Disk__settled__impl_Fall_1_l2 z0 z1 z2 z3 z4 z5 z6 z7 z8) p1_0 p0 x10 x11 x12 x13 x14 x15 x16)) else (impl_Disk__settled__impl_Fall_1_j1 u x11 x12 x13 x14 x15 x16)
def impl_Disk__settled__impl_Fall_1 (u:Nat) (p0:Disk) (p1_0:Int):Option Disk :=
  (impl_copyDisk u p0).bind fun r1=>(impl_DiskOk u p0).bind fun r2=>bif !r2 then (some r1) else (impl_Disk__settled__impl_Fall_1_l2 u u p1_0 p0 0 r1.fA r1.fB r1.fR.fGen r1.fR.fSlot r1.fR.fLen r1.fP)
def impl_Disk__settled__impl_Fall_1_l2_f (u:Nat) (p1_0:Int) (p0:Disk) (s:(List Int)×(List Int)×Int×Int×Int×(List Put)):Option Disk:=(impl_Disk__settled__impl_Fall_1_j1 u s.1 s.2.1 s.2.2.1 s.2.2.2.1 s.2.2.2.2.1 s.2.2.2.2.2)
def impl_Disk__settled__impl_Fall_1_l2_b (u:Nat) (p1_0:Int) (p0:Disk) (y24:Put) (i_:Nat) (s:(List Int)×(List Int)×Int×Int×Int×(List Put)) (k_:((List Int)×(List Int)×Int×Int×Int×(List Put))→Option Disk):Option Disk:=(impl_Fall_1 u (i_:Int) p1_0).bind fun r25=>bif r25 then ((impl_Disk__perform u ((Disk.mk s.1 s.2.1 ((Record.mk s.2.2.1 s.2.2.2.1 s.2.2.2.2.1)) s.2.2.2.2.2)) y24).bind fun r26=>impl_Disk__settled__impl_Fall_1_j3 u (fun z0 z1 z2 z3 z4 z5 z6 z7 z8=>k_ (z3,z4,z5,z6,z7,z8)) p1_0 p0 (i_:Int) r26.fA r26.fB r26.fR.fGen r26.fR.fSlot r26.fR.fLen r26.fP) else (impl_Disk__settled__impl_Fall_1_j3 u (fun z0 z1 z2 z3 z4 z5 z6 z7 z8=>k_ (z3,z4,z5,z6,z7,z8)) p1_0 p0 (i_:Int) s.1 s.2.1 s.2.2.1 s.2.2.2.1 s.2.2.2.2.1 s.2.2.2.2.2)
theorem impl_Disk__settled__impl_Fall_1_l2_w (u:Nat) (p1_0:Int) (p0:Disk) (s:(List Int)×(List Int)×Int×Int×Int×(List Put)) (k:Nat) (hn:p0.fP.length≤9223372036854775807) (hk:p0.fP.length < k):impl_Disk__settled__impl_Fall_1_l2 u k p1_0 p0 0 s.1 s.2.1 s.2.2.1 s.2.2.2.1 s.2.2.2.2.1 s.2.2.2.2.2=Pu.wlist (impl_Disk__settled__impl_Fall_1_l2_f u p1_0 p0) (impl_Disk__settled__impl_Fall_1_l2_b u p1_0 p0) p0.fP 0 s:=Pu.wlist_0 (fun (k:Nat) (s:(List Int)×(List Int)×Int×Int×Int×(List Put)) (i:Int)=>impl_Disk__settled__impl_Fall_1_l2 u k p1_0 p0 i s.1 s.2.1 s.2.2.1 s.2.2.2.1 s.2.2.2.2.1 s.2.2.2.2.2) hn (fun _ _ _=>rfl) s hk
def impl_Fall (u:Nat) (p0:Disk) (p1:Int):Option Disk :=
  (impl_Disk__settled__impl_Fall_1 u p0 p1).bind fun r1=>some r1
def impl_AllFalls_j1 (u:Nat) (x9:List Disk):Option ((List Disk)) :=
  some x9
def impl_AllFalls_l2 (u:Nat) (k_impl_AllFalls_l2:Nat) (x4:List Disk) (p0:Disk) (x5:Int):Option ((List Disk)):=match k_impl_AllFalls_l2 with
  | 0=>none
  | k_impl_AllFalls_l2+1=>bif decide (x5 < (bShl .i64 1 (if ((p0.fP.length:Int)) < 6 then ((p0.fP.length:Int)) else 6))) then ((impl_Fall u p0 x5).bind fun r8=>(chk (decide ((x4.length+([r8]).length)*96≤140737488355328))).bind fun _=>(fun z0 z1 z2=>impl_AllFalls_l2 u k_impl_AllFalls_l2 z0 z1 z2) (x4++([r8])) p0 (bAdd .i64 x5 1)) else (impl_AllFalls_j1 u x4)
def impl_AllFalls (u:Nat) (p0:Disk):Option ((List Disk)) :=
  (chk (decide (0≤(if ((p0.fP.length:Int)) < 6 then ((p0.fP.length:Int)) else 6)))).bind fun _=>impl_AllFalls_l2 u u (([]:List Disk)) p0 0
def impl_AllFalls_l2_f (u:Nat) (p0:Disk) (s:(List Disk)):Option ((List Disk)):=(impl_AllFalls_j1 u s)
def impl_AllFalls_l2_b (u:Nat) (p0:Disk) (i_:Nat) (s:(List Disk)) (k_:((List Disk))→Option ((List Disk))):Option ((List Disk)):=(impl_Fall u p0 (i_:Int)).bind fun r8=>(chk (decide ((s.length+([r8]).length)*96≤140737488355328))).bind fun _=>(fun z0 z1 z2=>k_ z0) (s++([r8])) p0 (bAdd .i64 (i_:Int) 1)
theorem impl_AllFalls_l2_w (u:Nat) (p0:Disk) (s:(List Disk)) (k:Nat) (hn:((bShl .i64 1 (if ((p0.fP.length:Int)) < 6 then ((p0.fP.length:Int)) else 6)):Int)≤9223372036854775807) (hk:Int.toNat ((bShl .i64 1 (if ((p0.fP.length:Int)) < 6 then ((p0.fP.length:Int)) else 6))) < k):impl_AllFalls_l2 u k s p0 0=Pu.walk (impl_AllFalls_l2_f u p0) (impl_AllFalls_l2_b u p0) (Int.toNat ((bShl .i64 1 (if ((p0.fP.length:Int)) < 6 then ((p0.fP.length:Int)) else 6)))) 0 s:=Pu.walk_0 (fun (k:Nat) (s:(List Disk)) (i:Int)=>impl_AllFalls_l2 u k s p0 i) hn (fun _ _ _=>rfl) s hk
def impl_SafeFall_1 (u:Nat) (p0:Disk) (q0:List Int) (q1:Int) (q2:List Int):Option Bool :=
  (impl_HoldsAny u p0 q0 q1 q2).bind fun r1=>some (!r1)
def slices_IndexFunc___impl_Disk_impl_Disk__impl_SafeFall_1_j1 (u:Nat)  : Option Int :=
  some (-1)
def slices_IndexFunc___impl_Disk_impl_Disk__impl_SafeFall_1_l2 (u:Nat) (k_slices_IndexFunc___impl_Disk_impl_Disk__impl_SafeFall_1_l2:Nat) (p0:List Disk) (p1_0:List Int) (p1_1:Int) (p1_2:List Int) (x2:Int):Option Int:=match k_slices_IndexFunc___impl_Disk_impl_Disk__impl_SafeFall_1_l2 with
  | 0=>none
  | k_slices_IndexFunc___impl_Disk_impl_Disk__impl_SafeFall_1_l2+1=>bif decide (x2 < ((p0.length:Int))) then ((idx p0 x2).bind fun y4=>(impl_SafeFall_1 u y4 p1_0 p1_1 p1_2).bind fun r5=>bif r5 then (some x2) else ((fun z0 z1 z2 z3 z4=>slices_IndexFunc___impl_Disk_impl_Disk__impl_SafeFall_1_l2 u k_slices_IndexFunc___impl_Disk_impl_Disk__impl_SafeFall_1_l2 z0 z1 z2 z3 z4) p0 p1_0 p1_1 p1_2 (bAdd .i64 x2 1))) else (slices_IndexFunc___impl_Disk_impl_Disk__impl_SafeFall_1_j1 u)
def slices_IndexFunc___impl_Disk_impl_Disk__impl_SafeFall_1 (u:Nat) (p0:List Disk) (p1_0:List Int) (p1_1:Int) (p1_2:List Int):Option Int :=
  slices_IndexFunc___impl_Disk_impl_Disk__impl_SafeFall_1_l2 u u p0 p1_0 p1_1 p1_2 0
def slices_IndexFunc___impl_Disk_impl_Disk__impl_SafeFall_1_l2_f (u:Nat) (p0:List Disk) (p1_0:List Int) (p1_1:Int) (p1_2:List Int) (s:Unit):Option Int:=(slices_IndexFunc___impl_Disk_impl_Disk__impl_SafeFall_1_j1 u)
def slices_IndexFunc___impl_Disk_impl_Disk__impl_SafeFall_1_l2_b (u:Nat) (p0:List Disk) (p1_0:List Int) (p1_1:Int) (p1_2:List Int) (y4:Disk) (i_:Nat) (s:Unit) (k_:Unit→Option Int):Option Int:=(impl_SafeFall_1 u y4 p1_0 p1_1 p1_2).bind fun r5=>bif r5 then (some (i_:Int)) else ((fun z0 z1 z2 z3 z4=>k_ ()) p0 p1_0 p1_1 p1_2 (bAdd .i64 (i_:Int) 1))
theorem slices_IndexFunc___impl_Disk_impl_Disk__impl_SafeFall_1_l2_w (u:Nat) (p0:List Disk) (p1_0:List Int) (p1_1:Int) (p1_2:List Int) (s:Unit) (k:Nat) (hn:p0.length≤9223372036854775807) (hk:p0.length < k):slices_IndexFunc___impl_Disk_impl_Disk__impl_SafeFall_1_l2 u k p0 p1_0 p1_1 p1_2 0=Pu.wlist (slices_IndexFunc___impl_Disk_impl_Disk__impl_SafeFall_1_l2_f u p0 p1_0 p1_1 p1_2) (slices_IndexFunc___impl_Disk_impl_Disk__impl_SafeFall_1_l2_b u p0 p1_0 p1_1 p1_2) p0 0 s:=Pu.wlist_0 (fun (k:Nat) (s:Unit) (i:Int)=>slices_IndexFunc___impl_Disk_impl_Disk__impl_SafeFall_1_l2 u k p0 p1_0 p1_1 p1_2 i) hn (fun _ _ _=>rfl) s hk
def slices_ContainsFunc___impl_Disk_impl_Disk__impl_SafeFall_1 (u:Nat) (p0:List Disk) (p1_0:List Int) (p1_1:Int) (p1_2:List Int):Option Bool :=
  (slices_IndexFunc___impl_Disk_impl_Disk__impl_SafeFall_1 u p0 p1_0 p1_1 p1_2).bind fun r1=>some (decide (r1≥0))
def impl_SafeFall (u:Nat) (p0:Disk) (p1:List Int) (p2:Int) (p3:List Int):Option Bool :=
  (impl_HoldsAny u p0 p1 p2 p3).bind fun r1=>bif r1 then ((impl_AllFalls u p0).bind fun r2=>(slices_ContainsFunc___impl_Disk_impl_Disk__impl_SafeFall_1 u r2 p1 p2 p3).bind fun r3=>some (!r3)) else (some false)
def impl_StepsLeft (u:Nat) (p0:Int):Option Int :=
  (impl_within u p0 1 4).bind fun r1=>bif !r1 then (some 0) else (some (bSub .i64 5 p0))
def impl_FullSet (u:Nat) (p0:Int):Option Int :=
  (impl_within u p0 0 40).bind fun r1=>bif !r1 then (some 0) else ((chk (decide (0≤p0))).bind fun _=>some (bSub .i64 (bShl .i64 1 p0) 1))
def impl_AllParts (u:Nat) (p0:Manifest):Option Int :=
  (impl_FullSet u ((p0.fSums.length:Int))).bind fun r1=>some r1
def impl_Build__block (u:Nat) (p0:Build) (p1:Manifest) (p2:Int):Option ((List Int)) :=
  (impl_SpanOf u p1.fSize p1.fLen p2).bind fun r1=>(chk (sliceOK r1.1 (bAdd .i64 r1.1 r1.2) p0.fBuf.length)).bind fun _=>some ((p0.fBuf.take (Int.toNat (bAdd .i64 r1.1 r1.2))).drop (Int.toNat r1.1))
def impl_BuildOk_1 (u:Nat) (p0:Int):Option Bool :=
  some (p0 != 0)
def slices_IndexFunc___byte_byte__impl_BuildOk_1_j1 (u:Nat)  : Option Int :=
  some (-1)
def slices_IndexFunc___byte_byte__impl_BuildOk_1_l2 (u:Nat) (k_slices_IndexFunc___byte_byte__impl_BuildOk_1_l2:Nat) (p0:List Int) (x2:Int):Option Int:=match k_slices_IndexFunc___byte_byte__impl_BuildOk_1_l2 with
  | 0=>none
  | k_slices_IndexFunc___byte_byte__impl_BuildOk_1_l2+1=>bif decide (x2 < ((p0.length:Int))) then ((idx p0 x2).bind fun y4=>(impl_BuildOk_1 u y4).bind fun r5=>bif r5 then (some x2) else ((fun z0 z1=>slices_IndexFunc___byte_byte__impl_BuildOk_1_l2 u k_slices_IndexFunc___byte_byte__impl_BuildOk_1_l2 z0 z1) p0 (bAdd .i64 x2 1))) else (slices_IndexFunc___byte_byte__impl_BuildOk_1_j1 u)
def slices_IndexFunc___byte_byte__impl_BuildOk_1 (u:Nat) (p0:List Int):Option Int :=
  slices_IndexFunc___byte_byte__impl_BuildOk_1_l2 u u p0 0
def slices_IndexFunc___byte_byte__impl_BuildOk_1_l2_f (u:Nat) (p0:List Int) (s:Unit):Option Int:=(slices_IndexFunc___byte_byte__impl_BuildOk_1_j1 u)
def slices_IndexFunc___byte_byte__impl_BuildOk_1_l2_b (u:Nat) (p0:List Int) (y4:Int) (i_:Nat) (s:Unit) (k_:Unit→Option Int):Option Int:=(impl_BuildOk_1 u y4).bind fun r5=>bif r5 then (some (i_:Int)) else ((fun z0 z1=>k_ ()) p0 (bAdd .i64 (i_:Int) 1))
theorem slices_IndexFunc___byte_byte__impl_BuildOk_1_l2_w (u:Nat) (p0:List Int) (s:Unit) (k:Nat) (hn:p0.length≤9223372036854775807) (hk:p0.length < k):slices_IndexFunc___byte_byte__impl_BuildOk_1_l2 u k p0 0=Pu.wlist (slices_IndexFunc___byte_byte__impl_BuildOk_1_l2_f u p0) (slices_IndexFunc___byte_byte__impl_BuildOk_1_l2_b u p0) p0 0 s:=Pu.wlist_0 (fun (k:Nat) (s:Unit) (i:Int)=>slices_IndexFunc___byte_byte__impl_BuildOk_1_l2 u k p0 i) hn (fun _ _ _=>rfl) s hk
def slices_ContainsFunc___byte_byte__impl_BuildOk_1 (u:Nat) (p0:List Int):Option Bool :=
  (slices_IndexFunc___byte_byte__impl_BuildOk_1 u p0).bind fun r1=>some (decide (r1≥0))
def impl_BuildOk_j2 (u:Nat)  : Option Bool :=
  some true
def impl_BuildOk_j4 (u:Nat) (c_impl_BuildOk_l3:Manifest→Int→Build→Option Bool) (p0:Manifest) (x6:Int) (x16:Bool) (p1:Build):Option Bool :=
  bif x16 then (some false) else (c_impl_BuildOk_l3 p0 (bAdd .i64 x6 1) p1)
def impl_BuildOk_l3 (u:Nat) (k_impl_BuildOk_l3:Nat) (p0:Manifest) (x6:Int) (p1:Build):Option Bool:=match k_impl_BuildOk_l3 with
  | 0=>none
  | k_impl_BuildOk_l3+1=>bif decide (x6 < ((p0.fSums.length:Int))) then ((idx p0.fSums x6).bind fun y8=>(impl_Build__block u p1 p0 x6).bind fun r9=>(impl_InSet u p1.fHave x6).bind fun r10=>bif r10 then ((impl_SumOf u r9).bind fun r11=>bif !([r11.fW,r11.fS] == [y8.fW,y8.fS]) then (impl_BuildOk_j4 u (fun z0 z1 z2=>impl_BuildOk_l3 u k_impl_BuildOk_l3 z0 z1 z2) p0 x6 true p1) else ((impl_InSet u p1.fHave x6).bind fun r12=>bif !r12 then ((slices_ContainsFunc___byte_byte__impl_BuildOk_1 u r9).bind fun r13=>impl_BuildOk_j4 u (fun z0 z1 z2=>impl_BuildOk_l3 u k_impl_BuildOk_l3 z0 z1 z2) p0 x6 r13 p1) else (impl_BuildOk_j4 u (fun z0 z1 z2=>impl_BuildOk_l3 u k_impl_BuildOk_l3 z0 z1 z2) p0 x6 false p1))) else ((impl_InSet u p1.fHave x6).bind fun r14=>bif !r14 then ((slices_ContainsFunc___byte_byte__impl_BuildOk_1 u r9).bind fun r15=>impl_BuildOk_j4 u (fun z0 z1 z2=>impl_BuildOk_l3 u k_impl_BuildOk_l3 z0 z1 z2) p0 x6 r15 p1) else (impl_BuildOk_j4 u (fun z0 z1 z2=>impl_BuildOk_l3 u k_impl_BuildOk_l3 z0 z1 z2) p0 x6 false p1))) else (impl_BuildOk_j2 u)
def impl_BuildOk_j1 (u:Nat) (x4:Bool) (p0:Manifest) (p1:Build):Option Bool :=
  bif x4 then (some false) else (impl_BuildOk_l3 u u p0 0 p1)
def impl_BuildOk (u:Nat) (p0:Manifest) (p1:Build):Option Bool :=
  (impl_ManOk u p0).bind fun r1=>bif !r1 then (impl_BuildOk_j1 u true p0 p1) else ((impl_SetOk u p1.fHave).bind fun r2=>bif !r2 then (impl_BuildOk_j1 u true p0 p1) else ((impl_AllParts u p0).bind fun r3=>bif (bAndNot .i64 p1.fHave r3) != 0 then (impl_BuildOk_j1 u true p0 p1) else (impl_BuildOk_j1 u (((p1.fBuf.length:Int)) != p0.fLen) p0 p1)))
def impl_BuildOk_l3_f (u:Nat) (p0:Manifest) (p1:Build) (s:Unit):Option Bool:=(impl_BuildOk_j2 u)
def impl_BuildOk_l3_b (u:Nat) (p0:Manifest) (p1:Build) (y8:Sum) (i_:Nat) (s:Unit) (k_:Unit→Option Bool):Option Bool:=(impl_Build__block u p1 p0 (i_:Int)).bind fun r9=>(impl_InSet u p1.fHave (i_:Int)).bind fun r10=>bif r10 then ((impl_SumOf u r9).bind fun r11=>bif !([r11.fW,r11.fS] == [y8.fW,y8.fS]) then (impl_BuildOk_j4 u (fun z0 z1 z2=>k_ ()) p0 (i_:Int) true p1) else ((impl_InSet u p1.fHave (i_:Int)).bind fun r12=>bif !r12 then ((slices_ContainsFunc___byte_byte__impl_BuildOk_1 u r9).bind fun r13=>impl_BuildOk_j4 u (fun z0 z1 z2=>k_ ()) p0 (i_:Int) r13 p1) else (impl_BuildOk_j4 u (fun z0 z1 z2=>k_ ()) p0 (i_:Int) false p1))) else ((impl_InSet u p1.fHave (i_:Int)).bind fun r14=>bif !r14 then ((slices_ContainsFunc___byte_byte__impl_BuildOk_1 u r9).bind fun r15=>impl_BuildOk_j4 u (fun z0 z1 z2=>k_ ()) p0 (i_:Int) r15 p1) else (impl_BuildOk_j4 u (fun z0 z1 z2=>k_ ()) p0 (i_:Int) false p1))
theorem impl_BuildOk_l3_w (u:Nat) (p0:Manifest) (p1:Build) (s:Unit) (k:Nat) (hn:p0.fSums.length≤9223372036854775807) (hk:p0.fSums.length < k):impl_BuildOk_l3 u k p0 0 p1=Pu.wlist (impl_BuildOk_l3_f u p0 p1) (impl_BuildOk_l3_b u p0 p1) p0.fSums 0 s:=Pu.wlist_0 (fun (k:Nat) (s:Unit) (i:Int)=>impl_BuildOk_l3 u k p0 i p1) hn (fun _ _ _=>rfl) s hk
def impl_Without_j1 (u:Nat) (p0:Int) (p1:Int) (x3:Bool):Option Int :=
  bif x3 then (some 0) else (some (bAndNot .i64 p0 p1))
def impl_Without (u:Nat) (p0:Int) (p1:Int):Option Int :=
  (impl_SetOk u p0).bind fun r1=>bif !r1 then (impl_Without_j1 u p0 p1 true) else ((impl_SetOk u p1).bind fun r2=>impl_Without_j1 u p0 p1 (!r2))
def impl_Missing (u:Nat) (p0:Manifest) (p1:Build):Option Int :=
  (impl_AllParts u p0).bind fun r1=>(impl_Without u r1 p1.fHave).bind fun r2=>some r2
def impl_Whole (u:Nat) (p0:Manifest) (p1:Build):Option Bool :=
  bif p0.fGen != 0 then ((impl_BuildOk u p0 p1).bind fun r1=>bif r1 then ((impl_Missing u p0 p1).bind fun r2=>some (r2 == 0)) else (some false)) else (some false)
def impl_Spare (u:Nat) (p0:Disk):Option Int :=
  some (bSub .i64 1 p0.fR.fSlot)
def impl_Disk__with (u:Nat) (p0:Disk) (p1:Put):Option (Disk×Bool) :=
  (impl_copyDisk u p0).bind fun r1=>(impl_copyPut u p1).bind fun r2=>(chk (decide ((r1.fP.length+([r2]).length)*64≤140737488355328))).bind fun _=>(impl_DiskOk u ((Disk.mk r1.fA r1.fB r1.fR (r1.fP++([r2]))))).bind fun r4=>bif !r4 then ((impl_copyDisk u p0).bind fun r5=>some ((r5,false))) else (some (((Disk.mk r1.fA r1.fB r1.fR (r1.fP++([r2]))),true)))
def impl_PutBytes (u:Nat) (p0:Disk) (p1:Int) (p2:Int) (p3:List Int):Option (Disk×Bool) :=
  (impl_isSlot u p1).bind fun r1=>bif !r1 then ((impl_copyDisk u p0).bind fun r2=>some ((r2,false))) else ((impl_Disk__with u p0 ((Put.mk p1 p2 p3 ((Record.mk 0 0 0))))).bind fun r3=>some ((r3.1,r3.2)))
def impl_StageAll_j2 (u:Nat) (x32:List Int) (x33:List Int) (x34:Int) (x35:Int) (x36:Int) (x37:List Put):Option (Disk×Bool) :=
  some (((Disk.mk x32 x33 ((Record.mk x34 x35 x36)) x37),true))
def impl_StageAll_l3 (u:Nat) (k_impl_StageAll_l3:Nat) (p1:List Int) (p2:Int) (r6:Int) (x14:Int) (x15:List Int) (x16:List Int) (x17:Int) (x18:Int) (x19:Int) (x20:List Put) (p0:Disk):Option (Disk×Bool):=match k_impl_StageAll_l3 with
  | 0=>none
  | k_impl_StageAll_l3+1=>bif decide (x14 < r6) then ((impl_BlockAt u p1 p2 x14).bind fun r28=>(impl_Spare u p0).bind fun r29=>(impl_PutBytes u ((Disk.mk x15 x16 ((Record.mk x17 x18 x19)) x20)) r29 (bMul .i64 x14 p2) r28.1).bind fun r30=>bif !r30.2 then ((impl_copyDisk u p0).bind fun r31=>some ((r31,false))) else ((fun z0 z1 z2 z3 z4 z5 z6 z7 z8 z9 z10=>impl_StageAll_l3 u k_impl_StageAll_l3 z0 z1 z2 z3 z4 z5 z6 z7 z8 z9 z10) p1 p2 r6 (bAdd .i64 x14 1) r30.1.fA r30.1.fB r30.1.fR.fGen r30.1.fR.fSlot r30.1.fR.fLen r30.1.fP p0)) else (impl_StageAll_j2 u x15 x16 x17 x18 x19 x20)
def impl_StageAll_j1 (u:Nat) (p1:List Int) (p2:Int) (x3:Bool) (p0:Disk):Option (Disk×Bool) :=
  bif x3 then ((impl_copyDisk u p0).bind fun r4=>some ((r4,false))) else ((impl_copyDisk u p0).bind fun r5=>(impl_Blocks u p2 ((p1.length:Int))).bind fun r6=>impl_StageAll_l3 u u p1 p2 r6 0 r5.fA r5.fB r5.fR.fGen r5.fR.fSlot r5.fR.fLen r5.fP p0)
def impl_StageAll (u:Nat) (p0:Disk) (p1:List Int) (p2:Int):Option (Disk×Bool) :=
  (impl_DiskOk u p0).bind fun r1=>bif !r1 then (impl_StageAll_j1 u p1 p2 true p0) else (bif decide (((p0.fP.length:Int)) > 0) then (impl_StageAll_j1 u p1 p2 true p0) else ((impl_SizeOk u p2 ((p1.length:Int))).bind fun r2=>impl_StageAll_j1 u p1 p2 (!r2) p0))
def impl_StageAll_l3_f (u:Nat) (p1:List Int) (p2:Int) (r6:Int) (p0:Disk) (s:(List Int)×(List Int)×Int×Int×Int×(List Put)):Option (Disk×Bool):=(impl_StageAll_j2 u s.1 s.2.1 s.2.2.1 s.2.2.2.1 s.2.2.2.2.1 s.2.2.2.2.2)
def impl_StageAll_l3_b (u:Nat) (p1:List Int) (p2:Int) (r6:Int) (p0:Disk) (i_:Nat) (s:(List Int)×(List Int)×Int×Int×Int×(List Put)) (k_:((List Int)×(List Int)×Int×Int×Int×(List Put))→Option (Disk×Bool)):Option (Disk×Bool):=(impl_BlockAt u p1 p2 (i_:Int)).bind fun r28=>(impl_Spare u p0).bind fun r29=>(impl_PutBytes u ((Disk.mk s.1 s.2.1 ((Record.mk s.2.2.1 s.2.2.2.1 s.2.2.2.2.1)) s.2.2.2.2.2)) r29 (bMul .i64 (i_:Int) p2) r28.1).bind fun r30=>bif !r30.2 then ((impl_copyDisk u p0).bind fun r31=>some ((r31,false))) else ((fun z0 z1 z2 z3 z4 z5 z6 z7 z8 z9 z10=>k_ (z4,z5,z6,z7,z8,z9)) p1 p2 r6 (bAdd .i64 (i_:Int) 1) r30.1.fA r30.1.fB r30.1.fR.fGen r30.1.fR.fSlot r30.1.fR.fLen r30.1.fP p0)
theorem impl_StageAll_l3_w (u:Nat) (p1:List Int) (p2:Int) (r6:Int) (p0:Disk) (s:(List Int)×(List Int)×Int×Int×Int×(List Put)) (k:Nat) (hn:(r6:Int)≤9223372036854775807) (hk:Int.toNat (r6) < k):impl_StageAll_l3 u k p1 p2 r6 0 s.1 s.2.1 s.2.2.1 s.2.2.2.1 s.2.2.2.2.1 s.2.2.2.2.2 p0=Pu.walk (impl_StageAll_l3_f u p1 p2 r6 p0) (impl_StageAll_l3_b u p1 p2 r6 p0) (Int.toNat (r6)) 0 s:=Pu.walk_0 (fun (k:Nat) (s:(List Int)×(List Int)×Int×Int×Int×(List Put)) (i:Int)=>impl_StageAll_l3 u k p1 p2 r6 i s.1 s.2.1 s.2.2.1 s.2.2.2.1 s.2.2.2.2.1 s.2.2.2.2.2 p0) hn (fun _ _ _=>rfl) s hk
def impl_Sure_1 (u:Nat) (p0:Int):Option Bool :=
  some true
def impl_Disk__settled__impl_Sure_1_j1 (u:Nat) (x33:List Int) (x34:List Int) (x35:Int) (x36:Int) (x37:Int) (x38:List Put):Option Disk :=
  some ((Disk.mk x33 x34 ((Record.mk x35 x36 x37)) ([])))
def impl_Disk__settled__impl_Sure_1_j3 (u:Nat) (c_impl_Disk__settled__impl_Sure_1_l2:Disk→Int→(List Int)→(List Int)→Int→Int→Int→(List Put)→Option Disk) (p0:Disk) (x10:Int) (x27:List Int) (x28:List Int) (x29:Int) (x30:Int) (x31:Int) (x32:List Put):Option Disk :=
  c_impl_Disk__settled__impl_Sure_1_l2 p0 (bAdd .i64 x10 1) x27 x28 x29 x30 x31 x32
def impl_Disk__settled__impl_Sure_1_l2 (u:Nat) (k_impl_Disk__settled__impl_Sure_1_l2:Nat) (p0:Disk) (x10:Int) (x11:List Int) (x12:List Int) (x13:Int) (x14:Int) (x15:Int) (x16:List Put):Option Disk:=match k_impl_Disk__settled__impl_Sure_1_l2 with
  | 0=>none
  | k_impl_Disk__settled__impl_Sure_1_l2+1=>bif decide (x10 < ((p0.fP.length:Int))) then ((idx p0.fP x10).bind fun y24=>(impl_Sure_1 u x10).bind fun r25=>bif r25 then ((impl_Disk__perform u ((Disk.mk x11 x12 ((Record.mk x13 x14 x15)) x16)) y24).bind fun r26=>impl_Disk__settled__impl_Sure_1_j3 u (fun z0 z1 z2 z3 z4 z5 z6 z7=>impl_Disk__settled__impl_Sure_1_l2 u k_impl_Disk__settled__impl_Sure_1_l2 z0 z1 z2 z3 z4 z5 z6 z7) p0 x10 r26.fA r26.fB r26.fR.fGen r26.fR.fSlot r26.fR.fLen r26.fP) else (impl_Disk__settled__impl_Sure_1_j3 u (fun z0 z1 z2 z3 z4 z5 z6 z7=>impl_Disk__settled__impl_Sure_1_l2 u k_impl_Disk__settled__impl_Sure_1_l2 z0 z1 z2 z3 z4 z5 z6 z7) p0 x10 x11 x12 x13 x14 x15 x16)) else (impl_Disk__settled__impl_Sure_1_j1 u x11 x12 x13 x14 x15 x16)
def impl_Disk__settled__impl_Sure_1 (u:Nat) (p0:Disk):Option Disk :=
  (impl_copyDisk u p0).bind fun r1=>(impl_DiskOk u p0).bind fun r2=>bif !r2 then (some r1) else (impl_Disk__settled__impl_Sure_1_l2 u u p0 0 r1.fA r1.fB r1.fR.fGen r1.fR.fSlot r1.fR.fLen r1.fP)
def impl_Disk__settled__impl_Sure_1_l2_f (u:Nat) (p0:Disk) (s:(List Int)×(List Int)×Int×Int×Int×(List Put)):Option Disk:=(impl_Disk__settled__impl_Sure_1_j1 u s.1 s.2.1 s.2.2.1 s.2.2.2.1 s.2.2.2.2.1 s.2.2.2.2.2)
def impl_Disk__settled__impl_Sure_1_l2_b (u:Nat) (p0:Disk) (y24:Put) (i_:Nat) (s:(List Int)×(List Int)×Int×Int×Int×(List Put)) (k_:((List Int)×(List Int)×Int×Int×Int×(List Put))→Option Disk):Option Disk:=(impl_Sure_1 u (i_:Int)).bind fun r25=>bif r25 then ((impl_Disk__perform u ((Disk.mk s.1 s.2.1 ((Record.mk s.2.2.1 s.2.2.2.1 s.2.2.2.2.1)) s.2.2.2.2.2)) y24).bind fun r26=>impl_Disk__settled__impl_Sure_1_j3 u (fun z0 z1 z2 z3 z4 z5 z6 z7=>k_ (z2,z3,z4,z5,z6,z7)) p0 (i_:Int) r26.fA r26.fB r26.fR.fGen r26.fR.fSlot r26.fR.fLen r26.fP) else (impl_Disk__settled__impl_Sure_1_j3 u (fun z0 z1 z2 z3 z4 z5 z6 z7=>k_ (z2,z3,z4,z5,z6,z7)) p0 (i_:Int) s.1 s.2.1 s.2.2.1 s.2.2.2.1 s.2.2.2.2.1 s.2.2.2.2.2)
theorem impl_Disk__settled__impl_Sure_1_l2_w (u:Nat) (p0:Disk) (s:(List Int)×(List Int)×Int×Int×Int×(List Put)) (k:Nat) (hn:p0.fP.length≤9223372036854775807) (hk:p0.fP.length < k):impl_Disk__settled__impl_Sure_1_l2 u k p0 0 s.1 s.2.1 s.2.2.1 s.2.2.2.1 s.2.2.2.2.1 s.2.2.2.2.2=Pu.wlist (impl_Disk__settled__impl_Sure_1_l2_f u p0) (impl_Disk__settled__impl_Sure_1_l2_b u p0) p0.fP 0 s:=Pu.wlist_0 (fun (k:Nat) (s:(List Int)×(List Int)×Int×Int×Int×(List Put)) (i:Int)=>impl_Disk__settled__impl_Sure_1_l2 u k p0 i s.1 s.2.1 s.2.2.1 s.2.2.2.1 s.2.2.2.2.1 s.2.2.2.2.2) hn (fun _ _ _=>rfl) s hk
def impl_Sure (u:Nat) (p0:Disk):Option Disk :=
  (impl_Disk__settled__impl_Sure_1 u p0).bind fun r1=>some r1
def impl_PutRecord (u:Nat) (p0:Disk) (p1:Record):Option (Disk×Bool) :=
  (impl_Disk__with u p0 ((Put.mk 2 0 ([]) p1))).bind fun r1=>some ((r1.1,r1.2))
def impl_NextCommit_j1 (u:Nat) (p3:Int) (p0:Disk):Option (Disk×Int) :=
  (impl_copyDisk u p0).bind fun r7=>some ((r7,p3))
def impl_NextCommit (u:Nat) (p0:Disk) (p1:Manifest) (p2:Build) (p3:Int):Option (Disk×Int) :=
  bif p3 == 1 then ((impl_Whole u p1 p2).bind fun r1=>bif !r1 then (impl_NextCommit_j1 u p3 p0) else ((impl_StageAll u p0 p2.fBuf p1.fSize).bind fun r2=>bif r2.2 then (some ((r2.1,2))) else (impl_NextCommit_j1 u p3 p0))) else (bif p3 == 2 then ((impl_Sure u p0).bind fun r3=>some ((r3,3))) else (bif p3 == 3 then ((impl_Spare u p0).bind fun r4=>(impl_PutRecord u p0 ((Record.mk p1.fGen r4 p1.fLen))).bind fun r5=>bif r5.2 then (some ((r5.1,4))) else (impl_NextCommit_j1 u p3 p0)) else (bif p3 == 4 then ((impl_Sure u p0).bind fun r6=>some ((r6,5))) else (impl_NextCommit_j1 u p3 p0))))
def slices_Equal___impl_Sum_impl_Sum_j1 (u:Nat)  : Option Bool :=
  some true
def slices_Equal___impl_Sum_impl_Sum_l2 (u:Nat) (k_slices_Equal___impl_Sum_impl_Sum_l2:Nat) (p0:List Sum) (p1:List Sum) (x2:Int):Option Bool:=match k_slices_Equal___impl_Sum_impl_Sum_l2 with
  | 0=>none
  | k_slices_Equal___impl_Sum_impl_Sum_l2+1=>bif decide (x2 < ((p0.length:Int))) then ((idx p0 x2).bind fun y4=>(idx p1 x2).bind fun y5=>bif !([y4.fW,y4.fS] == [y5.fW,y5.fS]) then (some false) else ((fun z0 z1 z2=>slices_Equal___impl_Sum_impl_Sum_l2 u k_slices_Equal___impl_Sum_impl_Sum_l2 z0 z1 z2) p0 p1 (bAdd .i64 x2 1))) else (slices_Equal___impl_Sum_impl_Sum_j1 u)
def slices_Equal___impl_Sum_impl_Sum (u:Nat) (p0:List Sum) (p1:List Sum):Option Bool :=
  bif ((p0.length:Int)) != ((p1.length:Int)) then (some false) else (slices_Equal___impl_Sum_impl_Sum_l2 u u p0 p1 0)
def slices_Equal___impl_Sum_impl_Sum_l2_f (u:Nat) (p0:List Sum) (p1:List Sum) (s:Unit):Option Bool:=(slices_Equal___impl_Sum_impl_Sum_j1 u)
def slices_Equal___impl_Sum_impl_Sum_l2_b (u:Nat) (p0:List Sum) (p1:List Sum) (y4:Sum) (i_:Nat) (s:Unit) (k_:Unit→Option Bool):Option Bool:=(idx p1 (i_:Int)).bind fun y5=>bif !([y4.fW,y4.fS] == [y5.fW,y5.fS]) then (some false) else ((fun z0 z1 z2=>k_ ()) p0 p1 (bAdd .i64 (i_:Int) 1))
theorem slices_Equal___impl_Sum_impl_Sum_l2_w (u:Nat) (p0:List Sum) (p1:List Sum) (s:Unit) (k:Nat) (hn:p0.length≤9223372036854775807) (hk:p0.length < k):slices_Equal___impl_Sum_impl_Sum_l2 u k p0 p1 0=Pu.wlist (slices_Equal___impl_Sum_impl_Sum_l2_f u p0 p1) (slices_Equal___impl_Sum_impl_Sum_l2_b u p0 p1) p0 0 s:=Pu.wlist_0 (fun (k:Nat) (s:Unit) (i:Int)=>slices_Equal___impl_Sum_impl_Sum_l2 u k p0 p1 i) hn (fun _ _ _=>rfl) s hk
def impl_Tells (u:Nat) (p0:Manifest) (p1:List Int):Option Bool :=
  bif ((p1.length:Int)) == p0.fLen then ((impl_SumsOf u p1 p0.fSize).bind fun r1=>(slices_Equal___impl_Sum_impl_Sum u r1 p0.fSums).bind fun r2=>some r2) else (some false)
def impl_Committed (u:Nat) (p0:Disk) (p1:Manifest) (p2:List Int):Option Bool :=
  (impl_Holds u p0 p1.fGen p2).bind fun r1=>bif r1 then ((impl_Tells u p1 p2).bind fun r2=>some r2) else (some false)
def impl_CommitAll_j1 (u:Nat) (x27:List Int) (x28:List Int) (x29:Int) (x30:Int) (x31:Int) (x32:List Put):Option Disk :=
  some ((Disk.mk x27 x28 ((Record.mk x29 x30 x31)) x32))
def impl_CommitAll_l2 (u:Nat) (k_impl_CommitAll_l2:Nat) (x10:Int) (x11:Int) (p1:Manifest) (p2:Build) (x12:List Int) (x13:List Int) (x14:Int) (x15:Int) (x16:Int) (x17:List Put):Option Disk:=match k_impl_CommitAll_l2 with
  | 0=>none
  | k_impl_CommitAll_l2+1=>bif decide (x11 < 4) then ((impl_NextCommit u ((Disk.mk x12 x13 ((Record.mk x14 x15 x16)) x17)) p1 p2 x10).bind fun r26=>(fun z0 z1 z2 z3 z4 z5 z6 z7 z8 z9=>impl_CommitAll_l2 u k_impl_CommitAll_l2 z0 z1 z2 z3 z4 z5 z6 z7 z8 z9) r26.2 (bAdd .i64 x11 1) p1 p2 r26.1.fA r26.1.fB r26.1.fR.fGen r26.1.fR.fSlot r26.1.fR.fLen r26.1.fP) else (impl_CommitAll_j1 u x12 x13 x14 x15 x16 x17)
def impl_CommitAll (u:Nat) (p0:Disk) (p1:Manifest) (p2:Build):Option Disk :=
  (impl_copyDisk u p0).bind fun r1=>impl_CommitAll_l2 u u 1 0 p1 p2 r1.fA r1.fB r1.fR.fGen r1.fR.fSlot r1.fR.fLen r1.fP
def impl_CommitAll_l2_f (u:Nat) (p1:Manifest) (p2:Build) (s:Int×(List Int)×(List Int)×Int×Int×Int×(List Put)):Option Disk:=(impl_CommitAll_j1 u s.2.1 s.2.2.1 s.2.2.2.1 s.2.2.2.2.1 s.2.2.2.2.2.1 s.2.2.2.2.2.2)
def impl_CommitAll_l2_b (u:Nat) (p1:Manifest) (p2:Build) (i_:Nat) (s:Int×(List Int)×(List Int)×Int×Int×Int×(List Put)) (k_:(Int×(List Int)×(List Int)×Int×Int×Int×(List Put))→Option Disk):Option Disk:=(impl_NextCommit u ((Disk.mk s.2.1 s.2.2.1 ((Record.mk s.2.2.2.1 s.2.2.2.2.1 s.2.2.2.2.2.1)) s.2.2.2.2.2.2)) p1 p2 s.1).bind fun r26=>(fun z0 z1 z2 z3 z4 z5 z6 z7 z8 z9=>k_ (z0,z4,z5,z6,z7,z8,z9)) r26.2 (bAdd .i64 (i_:Int) 1) p1 p2 r26.1.fA r26.1.fB r26.1.fR.fGen r26.1.fR.fSlot r26.1.fR.fLen r26.1.fP
theorem impl_CommitAll_l2_w (u:Nat) (p1:Manifest) (p2:Build) (s:Int×(List Int)×(List Int)×Int×Int×Int×(List Put)) (k:Nat) (hn:(4:Int)≤9223372036854775807) (hk:Int.toNat (4) < k):impl_CommitAll_l2 u k s.1 0 p1 p2 s.2.1 s.2.2.1 s.2.2.2.1 s.2.2.2.2.1 s.2.2.2.2.2.1 s.2.2.2.2.2.2=Pu.walk (impl_CommitAll_l2_f u p1 p2) (impl_CommitAll_l2_b u p1 p2) (Int.toNat (4)) 0 s:=Pu.walk_0 (fun (k:Nat) (s:Int×(List Int)×(List Int)×Int×Int×Int×(List Put)) (i:Int)=>impl_CommitAll_l2 u k s.1 i p1 p2 s.2.1 s.2.2.1 s.2.2.2.1 s.2.2.2.2.1 s.2.2.2.2.2.1 s.2.2.2.2.2.2) hn (fun _ _ _=>rfl) s hk
def laws_same_j1 (u:Nat)  : Option Bool :=
  some true
def laws_same_l2 (u:Nat) (k_laws_same_l2:Nat) (p0:List Int) (p1:List Int) (x2:Int):Option Bool:=match k_laws_same_l2 with
  | 0=>none
  | k_laws_same_l2+1=>bif decide (x2 < ((p0.length:Int))) then ((idx p0 x2).bind fun y4=>(idx p1 x2).bind fun y5=>bif y4 != y5 then (some false) else ((fun z0 z1 z2=>laws_same_l2 u k_laws_same_l2 z0 z1 z2) p0 p1 (bAdd .i64 x2 1))) else (laws_same_j1 u)
def laws_same (u:Nat) (p0:List Int) (p1:List Int):Option Bool :=
  bif ((p0.length:Int)) != ((p1.length:Int)) then (some false) else (laws_same_l2 u u p0 p1 0)
def laws_same_l2_f (u:Nat) (p0:List Int) (p1:List Int) (s:Unit):Option Bool:=(laws_same_j1 u)
def laws_same_l2_b (u:Nat) (p0:List Int) (p1:List Int) (y4:Int) (i_:Nat) (s:Unit) (k_:Unit→Option Bool):Option Bool:=(idx p1 (i_:Int)).bind fun y5=>bif y4 != y5 then (some false) else ((fun z0 z1 z2=>k_ ()) p0 p1 (bAdd .i64 (i_:Int) 1))
theorem laws_same_l2_w (u:Nat) (p0:List Int) (p1:List Int) (s:Unit) (k:Nat) (hn:p0.length≤9223372036854775807) (hk:p0.length < k):laws_same_l2 u k p0 p1 0=Pu.wlist (laws_same_l2_f u p0 p1) (laws_same_l2_b u p0 p1) p0 0 s:=Pu.wlist_0 (fun (k:Nat) (s:Unit) (i:Int)=>laws_same_l2 u k p0 p1 i) hn (fun _ _ _=>rfl) s hk
def laws_sameDisk_j2 (u:Nat)  : Option Bool :=
  some true
def laws_sameDisk_j4 (u:Nat) (c_laws_sameDisk_l3:Int→Disk→Disk→Option Bool) (x5:Int) (x10:Bool) (p0:Disk) (p1:Disk):Option Bool :=
  bif x10 then (some false) else (c_laws_sameDisk_l3 (bAdd .i64 x5 1) p0 p1)
def laws_sameDisk_l3 (u:Nat) (k_laws_sameDisk_l3:Nat) (x5:Int) (p0:Disk) (p1:Disk):Option Bool:=match k_laws_sameDisk_l3 with
  | 0=>none
  | k_laws_sameDisk_l3+1=>bif decide (x5 < ((p0.fP.length:Int))) then ((idx p0.fP x5).bind fun y7=>(idx p1.fP x5).bind fun y8=>bif y7.fWhat != y8.fWhat then (laws_sameDisk_j4 u (fun z0 z1 z2=>laws_sameDisk_l3 u k_laws_sameDisk_l3 z0 z1 z2) x5 true p0 p1) else (bif y7.fAt != y8.fAt then (laws_sameDisk_j4 u (fun z0 z1 z2=>laws_sameDisk_l3 u k_laws_sameDisk_l3 z0 z1 z2) x5 true p0 p1) else (bif !([y7.fR.fGen,y7.fR.fSlot,y7.fR.fLen] == [y8.fR.fGen,y8.fR.fSlot,y8.fR.fLen]) then (laws_sameDisk_j4 u (fun z0 z1 z2=>laws_sameDisk_l3 u k_laws_sameDisk_l3 z0 z1 z2) x5 true p0 p1) else ((laws_same u y7.fB y8.fB).bind fun r9=>laws_sameDisk_j4 u (fun z0 z1 z2=>laws_sameDisk_l3 u k_laws_sameDisk_l3 z0 z1 z2) x5 (!r9) p0 p1)))) else (laws_sameDisk_j2 u)
def laws_sameDisk_j1 (u:Nat) (x3:Bool) (p0:Disk) (p1:Disk):Option Bool :=
  bif x3 then (some false) else (laws_sameDisk_l3 u u 0 p0 p1)
def laws_sameDisk (u:Nat) (p0:Disk) (p1:Disk):Option Bool :=
  (laws_same u p0.fA p1.fA).bind fun r1=>bif !r1 then (laws_sameDisk_j1 u true p0 p1) else ((laws_same u p0.fB p1.fB).bind fun r2=>bif !r2 then (laws_sameDisk_j1 u true p0 p1) else (bif !([p0.fR.fGen,p0.fR.fSlot,p0.fR.fLen] == [p1.fR.fGen,p1.fR.fSlot,p1.fR.fLen]) then (laws_sameDisk_j1 u true p0 p1) else (laws_sameDisk_j1 u (((p0.fP.length:Int)) != ((p1.fP.length:Int))) p0 p1)))
def laws_sameDisk_l3_f (u:Nat) (p0:Disk) (p1:Disk) (s:Unit):Option Bool:=(laws_sameDisk_j2 u)
def laws_sameDisk_l3_b (u:Nat) (p0:Disk) (p1:Disk) (y7:Put) (i_:Nat) (s:Unit) (k_:Unit→Option Bool):Option Bool:=(idx p1.fP (i_:Int)).bind fun y8=>bif y7.fWhat != y8.fWhat then (laws_sameDisk_j4 u (fun z0 z1 z2=>k_ ()) (i_:Int) true p0 p1) else (bif y7.fAt != y8.fAt then (laws_sameDisk_j4 u (fun z0 z1 z2=>k_ ()) (i_:Int) true p0 p1) else (bif !([y7.fR.fGen,y7.fR.fSlot,y7.fR.fLen] == [y8.fR.fGen,y8.fR.fSlot,y8.fR.fLen]) then (laws_sameDisk_j4 u (fun z0 z1 z2=>k_ ()) (i_:Int) true p0 p1) else ((laws_same u y7.fB y8.fB).bind fun r9=>laws_sameDisk_j4 u (fun z0 z1 z2=>k_ ()) (i_:Int) (!r9) p0 p1)))
theorem laws_sameDisk_l3_w (u:Nat) (p0:Disk) (p1:Disk) (s:Unit) (k:Nat) (hn:p0.fP.length≤9223372036854775807) (hk:p0.fP.length < k):laws_sameDisk_l3 u k 0 p0 p1=Pu.wlist (laws_sameDisk_l3_f u p0 p1) (laws_sameDisk_l3_b u p0 p1) p0.fP 0 s:=Pu.wlist_0 (fun (k:Nat) (s:Unit) (i:Int)=>laws_sameDisk_l3 u k i p0 p1) hn (fun _ _ _=>rfl) s hk
def laws_FnCommits_j2 (u:Nat) (r2:(List Int)×(List Int)×Int×Int) (x49:Int) (r4:Build) (x50:List Int) (x51:List Int) (x52:Int) (x53:Int) (x54:Int) (x55:List Put) (r3:Manifest):Option Bool :=
  bif x49 == 5 then ((impl_Committed u ((Disk.mk x50 x51 ((Record.mk x52 x53 x54)) x55)) r3 r2.2.1).bind fun r56=>bif r56 then (bif ((x55.length:Int)) == 0 then ((impl_DiskNew u 0 r2.1).bind fun r57=>(impl_CommitAll u r57 r3 r4).bind fun r58=>(laws_sameDisk u ((Disk.mk x50 x51 ((Record.mk x52 x53 x54)) x55)) r58).bind fun r59=>some r59) else (some false)) else (some false)) else (some false)
def laws_FnCommits_j5 (u:Nat) (c_laws_FnCommits_l3:((List Int)×(List Int)×Int×Int)→Int→Bool→Int→Build→(List Int)→(List Int)→Int→Int→Int→(List Put)→Manifest→Option Bool) (r2:(List Int)×(List Int)×Int×Int) (x18:Int) (x19:Bool) (x20:Int) (r36:Disk×Int) (x47:Bool) (r4:Build) (x21:List Int) (x22:List Int) (x23:Int) (x24:Int) (x25:Int) (x26:List Put) (r3:Manifest):Option Bool :=
  bif x47 then (some false) else ((impl_Holds u r36.1 3 r2.2.1).bind fun r48=>c_laws_FnCommits_l3 r2 r36.2 r48 (bAdd .i64 x20 1) r4 r36.1.fA r36.1.fB r36.1.fR.fGen r36.1.fR.fSlot r36.1.fR.fLen r36.1.fP r3)
def laws_FnCommits_j4 (u:Nat) (c_laws_FnCommits_l3:((List Int)×(List Int)×Int×Int)→Int→Bool→Int→Build→(List Int)→(List Int)→Int→Int→Int→(List Put)→Manifest→Option Bool) (r2:(List Int)×(List Int)×Int×Int) (x18:Int) (x19:Bool) (x20:Int) (r36:Disk×Int) (x43:Bool) (r4:Build) (x21:List Int) (x22:List Int) (x23:Int) (x24:Int) (x25:Int) (x26:List Put) (r3:Manifest):Option Bool :=
  bif x43 then (some false) else (bif decide (r36.2 < 4) then ((impl_FullSet u 40).bind fun r44=>(impl_Fall u r36.1 r44).bind fun r45=>(impl_Holds u r45 0 r2.1).bind fun r46=>laws_FnCommits_j5 u c_laws_FnCommits_l3 r2 x18 x19 x20 r36 (!r46) r4 x21 x22 x23 x24 x25 x26 r3) else (laws_FnCommits_j5 u c_laws_FnCommits_l3 r2 x18 x19 x20 r36 false r4 x21 x22 x23 x24 x25 x26 r3))
def laws_FnCommits_l3 (u:Nat) (k_laws_FnCommits_l3:Nat) (r2:(List Int)×(List Int)×Int×Int) (x18:Int) (x19:Bool) (x20:Int) (r4:Build) (x21:List Int) (x22:List Int) (x23:Int) (x24:Int) (x25:Int) (x26:List Put) (r3:Manifest):Option Bool:=match k_laws_FnCommits_l3 with
  | 0=>none
  | k_laws_FnCommits_l3+1=>bif decide (x20 < 4) then ((impl_NextCommit u ((Disk.mk x21 x22 ((Record.mk x23 x24 x25)) x26)) r3 r4 x18).bind fun r36=>bif r36.2 != (bAdd .i64 x18 1) then (laws_FnCommits_j4 u (fun z0 z1 z2 z3 z4 z5 z6 z7 z8 z9 z10 z11=>laws_FnCommits_l3 u k_laws_FnCommits_l3 z0 z1 z2 z3 z4 z5 z6 z7 z8 z9 z10 z11) r2 x18 x19 x20 r36 true r4 x21 x22 x23 x24 x25 x26 r3) else ((impl_SafeFall u r36.1 r2.1 3 r2.2.1).bind fun r37=>bif !r37 then (laws_FnCommits_j4 u (fun z0 z1 z2 z3 z4 z5 z6 z7 z8 z9 z10 z11=>laws_FnCommits_l3 u k_laws_FnCommits_l3 z0 z1 z2 z3 z4 z5 z6 z7 z8 z9 z10 z11) r2 x18 x19 x20 r36 true r4 x21 x22 x23 x24 x25 x26 r3) else (bif x19 then ((impl_Holds u r36.1 3 r2.2.1).bind fun r38=>bif !r38 then (laws_FnCommits_j4 u (fun z0 z1 z2 z3 z4 z5 z6 z7 z8 z9 z10 z11=>laws_FnCommits_l3 u k_laws_FnCommits_l3 z0 z1 z2 z3 z4 z5 z6 z7 z8 z9 z10 z11) r2 x18 x19 x20 r36 true r4 x21 x22 x23 x24 x25 x26 r3) else ((impl_StepsLeft u r36.2).bind fun r39=>(impl_StepsLeft u x18).bind fun r40=>laws_FnCommits_j4 u (fun z0 z1 z2 z3 z4 z5 z6 z7 z8 z9 z10 z11=>laws_FnCommits_l3 u k_laws_FnCommits_l3 z0 z1 z2 z3 z4 z5 z6 z7 z8 z9 z10 z11) r2 x18 x19 x20 r36 (r39 != (bSub .i64 r40 1)) r4 x21 x22 x23 x24 x25 x26 r3)) else ((impl_StepsLeft u r36.2).bind fun r41=>(impl_StepsLeft u x18).bind fun r42=>laws_FnCommits_j4 u (fun z0 z1 z2 z3 z4 z5 z6 z7 z8 z9 z10 z11=>laws_FnCommits_l3 u k_laws_FnCommits_l3 z0 z1 z2 z3 z4 z5 z6 z7 z8 z9 z10 z11) r2 x18 x19 x20 r36 (r41 != (bSub .i64 r42 1)) r4 x21 x22 x23 x24 x25 x26 r3)))) else (laws_FnCommits_j2 u r2 x18 r4 x21 x22 x23 x24 x25 x26 r3)
def laws_FnCommits_j1 (u:Nat) (r2:(List Int)×(List Int)×Int×Int) (x8:Bool) (r4:Build) (r5:Disk) (r3:Manifest):Option Bool :=
  bif x8 then (some false) else (laws_FnCommits_l3 u u r2 1 false 0 r4 r5.fA r5.fB r5.fR.fGen r5.fR.fSlot r5.fR.fLen r5.fP r3)
def laws_FnCommits (u:Nat) (p0:List Int):Option Bool :=
  (laws_big u p0).bind fun r1=>bif r1 then (some true) else ((spec_DrawCommit u p0).bind fun r2=>(impl_ManOf u 3 r2.2.1 r2.2.2.1).bind fun r3=>(impl_BuildFrom u r3 r2.2.1).bind fun r4=>(impl_DiskNew u 0 r2.1).bind fun r5=>(impl_SafeFall u r5 r2.1 3 r2.2.1).bind fun r6=>bif !r6 then (laws_FnCommits_j1 u r2 true r4 r5 r3) else ((impl_StepsLeft u 1).bind fun r7=>laws_FnCommits_j1 u r2 (r7 != 4) r4 r5 r3))
def laws_FnCommits_l3_f (u:Nat) (r2:(List Int)×(List Int)×Int×Int) (r4:Build) (r3:Manifest) (s:Int×Bool×(List Int)×(List Int)×Int×Int×Int×(List Put)):Option Bool:=(laws_FnCommits_j2 u r2 s.1 r4 s.2.2.1 s.2.2.2.1 s.2.2.2.2.1 s.2.2.2.2.2.1 s.2.2.2.2.2.2.1 s.2.2.2.2.2.2.2 r3)
def laws_FnCommits_l3_b (u:Nat) (r2:(List Int)×(List Int)×Int×Int) (r4:Build) (r3:Manifest) (i_:Nat) (s:Int×Bool×(List Int)×(List Int)×Int×Int×Int×(List Put)) (k_:(Int×Bool×(List Int)×(List Int)×Int×Int×Int×(List Put))→Option Bool):Option Bool:=(impl_NextCommit u ((Disk.mk s.2.2.1 s.2.2.2.1 ((Record.mk s.2.2.2.2.1 s.2.2.2.2.2.1 s.2.2.2.2.2.2.1)) s.2.2.2.2.2.2.2)) r3 r4 s.1).bind fun r36=>bif r36.2 != (bAdd .i64 s.1 1) then (laws_FnCommits_j4 u (fun z0 z1 z2 z3 z4 z5 z6 z7 z8 z9 z10 z11=>k_ (z1,z2,z5,z6,z7,z8,z9,z10)) r2 s.1 s.2.1 (i_:Int) r36 true r4 s.2.2.1 s.2.2.2.1 s.2.2.2.2.1 s.2.2.2.2.2.1 s.2.2.2.2.2.2.1 s.2.2.2.2.2.2.2 r3) else ((impl_SafeFall u r36.1 r2.1 3 r2.2.1).bind fun r37=>bif !r37 then (laws_FnCommits_j4 u (fun z0 z1 z2 z3 z4 z5 z6 z7 z8 z9 z10 z11=>k_ (z1,z2,z5,z6,z7,z8,z9,z10)) r2 s.1 s.2.1 (i_:Int) r36 true r4 s.2.2.1 s.2.2.2.1 s.2.2.2.2.1 s.2.2.2.2.2.1 s.2.2.2.2.2.2.1 s.2.2.2.2.2.2.2 r3) else (bif s.2.1 then ((impl_Holds u r36.1 3 r2.2.1).bind fun r38=>bif !r38 then (laws_FnCommits_j4 u (fun z0 z1 z2 z3 z4 z5 z6 z7 z8 z9 z10 z11=>k_ (z1,z2,z5,z6,z7,z8,z9,z10)) r2 s.1 s.2.1 (i_:Int) r36 true r4 s.2.2.1 s.2.2.2.1 s.2.2.2.2.1 s.2.2.2.2.2.1 s.2.2.2.2.2.2.1 s.2.2.2.2.2.2.2 r3) else ((impl_StepsLeft u r36.2).bind fun r39=>(impl_StepsLeft u s.1).bind fun r40=>laws_FnCommits_j4 u (fun z0 z1 z2 z3 z4 z5 z6 z7 z8 z9 z10 z11=>k_ (z1,z2,z5,z6,z7,z8,z9,z10)) r2 s.1 s.2.1 (i_:Int) r36 (r39 != (bSub .i64 r40 1)) r4 s.2.2.1 s.2.2.2.1 s.2.2.2.2.1 s.2.2.2.2.2.1 s.2.2.2.2.2.2.1 s.2.2.2.2.2.2.2 r3)) else ((impl_StepsLeft u r36.2).bind fun r41=>(impl_StepsLeft u s.1).bind fun r42=>laws_FnCommits_j4 u (fun z0 z1 z2 z3 z4 z5 z6 z7 z8 z9 z10 z11=>k_ (z1,z2,z5,z6,z7,z8,z9,z10)) r2 s.1 s.2.1 (i_:Int) r36 (r41 != (bSub .i64 r42 1)) r4 s.2.2.1 s.2.2.2.1 s.2.2.2.2.1 s.2.2.2.2.2.1 s.2.2.2.2.2.2.1 s.2.2.2.2.2.2.2 r3)))
theorem laws_FnCommits_l3_w (u:Nat) (r2:(List Int)×(List Int)×Int×Int) (r4:Build) (r3:Manifest) (s:Int×Bool×(List Int)×(List Int)×Int×Int×Int×(List Put)) (k:Nat) (hn:(4:Int)≤9223372036854775807) (hk:Int.toNat (4) < k):laws_FnCommits_l3 u k r2 s.1 s.2.1 0 r4 s.2.2.1 s.2.2.2.1 s.2.2.2.2.1 s.2.2.2.2.2.1 s.2.2.2.2.2.2.1 s.2.2.2.2.2.2.2 r3=Pu.walk (laws_FnCommits_l3_f u r2 r4 r3) (laws_FnCommits_l3_b u r2 r4 r3) (Int.toNat (4)) 0 s:=Pu.walk_0 (fun (k:Nat) (s:Int×Bool×(List Int)×(List Int)×Int×Int×Int×(List Put)) (i:Int)=>laws_FnCommits_l3 u k r2 s.1 s.2.1 i r4 s.2.2.1 s.2.2.2.1 s.2.2.2.2.1 s.2.2.2.2.2.1 s.2.2.2.2.2.2.1 s.2.2.2.2.2.2.2 r3) hn (fun _ _ _=>rfl) s hk
end Go.Tm
