/- Go functions as pure functions (printed). -/
import Derived.Test.YtibconbbbemfaaaCFnExactTwiceOverF2
set_option maxRecDepth 100000
set_option maxHeartbeats 20000000
set_option linter.unusedVariables false
set_option linter.unusedSimpArgs false
namespace Go.Tm
structure Conf where
  fSize:Int
  fWindow:Int
  fSuspect:Int
  fForget:Int
  deriving DecidableEq
def Conf.enc (x:Conf):List T:=[.int .i64 x.fSize,.int .i64 x.fWindow,.int .i64 x.fSuspect,.int .i64 x.fForget]
def Conf.wf (x:Conf):Prop:=(wInt .i64) x.fSize∧(wInt .i64) x.fWindow∧(wInt .i64) x.fSuspect∧(wInt .i64) x.fForget∧True
structure Tree where
  fUp:List Int
  deriving DecidableEq
def Tree.enc (x:Tree):List T:=[.sl 1 (x.fUp.map (eInt .i64))]
def Tree.wf (x:Tree):Prop:=(wSl (wInt .i64)) x.fUp∧True
structure Image where
  fB:List Int
  deriving DecidableEq
def Image.enc (x:Image):List T:=[.sl 1 (x.fB.map (eInt .u8))]
def Image.wf (x:Image):Prop:=(wSl (wInt .u8)) x.fB∧True
structure Sum where
  fW:Int
  fS:Int
  deriving DecidableEq
def Sum.enc (x:Sum):List T:=[.int .i64 x.fW,.int .i64 x.fS]
def Sum.wf (x:Sum):Prop:=(wInt .i64) x.fW∧(wInt .i64) x.fS∧True
structure Manifest where
  fGen:Int
  fSize:Int
  fLen:Int
  fSums:List Sum
  deriving DecidableEq
def Manifest.enc (x:Manifest):List T:=[.int .i64 x.fGen,.int .i64 x.fSize,.int .i64 x.fLen,.sl 2 (x.fSums.map Sum.enc)]
def Manifest.wf (x:Manifest):Prop:=(wInt .i64) x.fGen∧(wInt .i64) x.fSize∧(wInt .i64) x.fLen∧(wSl Sum.wf) x.fSums∧True
structure Build where
  fHave:Int
  fBuf:List Int
  deriving DecidableEq
def Build.enc (x:Build):List T:=[.int .i64 x.fHave,.sl 1 (x.fBuf.map (eInt .u8))]
def Build.wf (x:Build):Prop:=(wInt .i64) x.fHave∧(wSl (wInt .u8)) x.fBuf∧True
structure Kid where
  fId:Int
  fWant:Int
  fDone:Int
  fAge:Int
  fSent:Int
  deriving DecidableEq
def Kid.enc (x:Kid):List T:=[.int .i64 x.fId,.int .i64 x.fWant,.int .i64 x.fDone,.int .i64 x.fAge,.int .i64 x.fSent]
def Kid.wf (x:Kid):Prop:=(wInt .i64) x.fId∧(wInt .i64) x.fWant∧(wInt .i64) x.fDone∧(wInt .i64) x.fAge∧(wInt .i64) x.fSent∧True
structure Node where
  fOn:Bool
  fBoss:Int
  fQuiet:Int
  fMan:Manifest
  fBld:Build
  fPhase:Int
  fKids:List Kid
  fDrops:Int
  deriving DecidableEq
def Node.enc (x:Node):List T:=[.bool x.fOn,.int .i64 x.fBoss,.int .i64 x.fQuiet,.int .i64 x.fMan.fGen,.int .i64 x.fMan.fSize,.int .i64 x.fMan.fLen,.sl 2 (x.fMan.fSums.map Sum.enc),.int .i64 x.fBld.fHave,.sl 1 (x.fBld.fBuf.map (eInt .u8)),.int .i64 x.fPhase,.sl 5 (x.fKids.map Kid.enc),.int .i64 x.fDrops]
def Node.wf (x:Node):Prop:=(fun _=>True) x.fOn∧(wInt .i64) x.fBoss∧(wInt .i64) x.fQuiet∧Manifest.wf x.fMan∧Build.wf x.fBld∧(wInt .i64) x.fPhase∧(wSl Kid.wf) x.fKids∧(wInt .i64) x.fDrops∧True
structure Record where
  fGen:Int
  fSlot:Int
  fLen:Int
  deriving DecidableEq
def Record.enc (x:Record):List T:=[.int .i64 x.fGen,.int .i64 x.fSlot,.int .i64 x.fLen]
def Record.wf (x:Record):Prop:=(wInt .i64) x.fGen∧(wInt .i64) x.fSlot∧(wInt .i64) x.fLen∧True
structure Put where
  fWhat:Int
  fAt:Int
  fB:List Int
  fR:Record
  deriving DecidableEq
def Put.enc (x:Put):List T:=[.int .i64 x.fWhat,.int .i64 x.fAt,.sl 1 (x.fB.map (eInt .u8)),.int .i64 x.fR.fGen,.int .i64 x.fR.fSlot,.int .i64 x.fR.fLen]
def Put.wf (x:Put):Prop:=(wInt .i64) x.fWhat∧(wInt .i64) x.fAt∧(wSl (wInt .u8)) x.fB∧Record.wf x.fR∧True
structure Disk where
  fA:List Int
  fB:List Int
  fR:Record
  fP:List Put
  deriving DecidableEq
def Disk.enc (x:Disk):List T:=[.sl 1 (x.fA.map (eInt .u8)),.sl 1 (x.fB.map (eInt .u8)),.int .i64 x.fR.fGen,.int .i64 x.fR.fSlot,.int .i64 x.fR.fLen,.sl 6 (x.fP.map Put.enc)]
def Disk.wf (x:Disk):Prop:=(wSl (wInt .u8)) x.fA∧(wSl (wInt .u8)) x.fB∧Record.wf x.fR∧(wSl Put.wf) x.fP∧True
structure Packet where
  fFrom:Int
  fTo:Int
  fB:List Int
  deriving DecidableEq
def Packet.enc (x:Packet):List T:=[.int .i64 x.fFrom,.int .i64 x.fTo,.sl 1 (x.fB.map (eInt .u8))]
def Packet.wf (x:Packet):Prop:=(wInt .i64) x.fFrom∧(wInt .i64) x.fTo∧(wSl (wInt .u8)) x.fB∧True
structure Sent where
  fFrom:Int
  fTo:Int
  fI:Int
  deriving DecidableEq
def Sent.enc (x:Sent):List T:=[.int .i64 x.fFrom,.int .i64 x.fTo,.int .i64 x.fI]
def Sent.wf (x:Sent):Prop:=(wInt .i64) x.fFrom∧(wInt .i64) x.fTo∧(wInt .i64) x.fI∧True
structure World where
  fC:Conf
  fT:Tree
  fNew:List Int
  fOld:List Image
  fN:List Node
  fD:List Disk
  fNet:List Packet
  fLog:List Sent
  fLost:Int
  deriving DecidableEq
def World.enc (x:World):List T:=[.int .i64 x.fC.fSize,.int .i64 x.fC.fWindow,.int .i64 x.fC.fSuspect,.int .i64 x.fC.fForget,.sl 1 (x.fT.fUp.map (eInt .i64)),.sl 1 (x.fNew.map (eInt .u8)),.sl 1 (x.fOld.map Image.enc),.sl 12 (x.fN.map Node.enc),.sl 6 (x.fD.map Disk.enc),.sl 3 (x.fNet.map Packet.enc),.sl 3 (x.fLog.map Sent.enc),.int .i64 x.fLost]
def World.wf (x:World):Prop:=Conf.wf x.fC∧Tree.wf x.fT∧(wSl (wInt .u8)) x.fNew∧(wSl Image.wf) x.fOld∧(wSl Node.wf) x.fN∧(wSl Disk.wf) x.fD∧(wSl Packet.wf) x.fNet∧(wSl Sent.wf) x.fLog∧(wInt .i64) x.fLost∧True
def laws_szIntS (u:Nat) (p0:List Int) (p1:Int):Option Int :=
  bif decide ((bSub .i64 p1 ((p0.length:Int))) < 0) then (some (-1)) else (some (bSub .i64 p1 ((p0.length:Int))))
def laws_szTree (u:Nat) (p0:Tree) (p1:Int):Option Int :=
  (laws_szIntS u p0.fUp p1).bind fun r1=>bif decide (r1 < 0) then (some (-1)) else (some r1)
def laws_szByteS (u:Nat) (p0:List Int) (p1:Int):Option Int :=
  bif decide ((bSub .i64 p1 ((p0.length:Int))) < 0) then (some (-1)) else (some (bSub .i64 p1 ((p0.length:Int))))
def laws_szImage (u:Nat) (p0:Image) (p1:Int):Option Int :=
  (laws_szByteS u p0.fB p1).bind fun r1=>bif decide (r1 < 0) then (some (-1)) else (some r1)
def laws_szImageS_j1 (u:Nat) (x9:Int):Option Int :=
  some x9
def laws_szImageS_l2 (u:Nat) (k_laws_szImageS_l2:Nat) (p0:List Image) (x3:Int) (x4:Int):Option Int:=match k_laws_szImageS_l2 with
  | 0=>none
  | k_laws_szImageS_l2+1=>bif decide (x4 < ((p0.length:Int))) then ((idx p0 x4).bind fun y7=>(laws_szImage u y7 x3).bind fun r8=>bif decide (r8 < 0) then (some (-1)) else ((fun z0 z1 z2=>laws_szImageS_l2 u k_laws_szImageS_l2 z0 z1 z2) p0 r8 (bAdd .i64 x4 1))) else (laws_szImageS_j1 u x3)
def laws_szImageS (u:Nat) (p0:List Image) (p1:Int):Option Int :=
  bif decide ((bSub .i64 p1 ((p0.length:Int))) < 0) then (some (-1)) else (laws_szImageS_l2 u u p0 (bSub .i64 p1 ((p0.length:Int))) 0)
def laws_szImageS_l2_f (u:Nat) (p0:List Image) (s:Int):Option Int:=(laws_szImageS_j1 u s)
def laws_szImageS_l2_b (u:Nat) (p0:List Image) (y7:Image) (i_:Nat) (s:Int) (k_:Int→Option Int):Option Int:=(laws_szImage u y7 s).bind fun r8=>bif decide (r8 < 0) then (some (-1)) else ((fun z0 z1 z2=>k_ z1) p0 r8 (bAdd .i64 (i_:Int) 1))
theorem laws_szImageS_l2_w (u:Nat) (p0:List Image) (s:Int) (k:Nat) (hn:p0.length≤9223372036854775807) (hk:p0.length < k):laws_szImageS_l2 u k p0 s 0=Pu.wlist (laws_szImageS_l2_f u p0) (laws_szImageS_l2_b u p0) p0 0 s:=Pu.wlist_0 (fun (k:Nat) (s:Int) (i:Int)=>laws_szImageS_l2 u k p0 s i) hn (fun _ _ _=>rfl) s hk
def laws_szSumS (u:Nat) (p0:List Sum) (p1:Int):Option Int :=
  bif decide ((bSub .i64 p1 ((p0.length:Int))) < 0) then (some (-1)) else (some (bSub .i64 p1 ((p0.length:Int))))
def laws_szManifest (u:Nat) (p0:Manifest) (p1:Int):Option Int :=
  (laws_szSumS u p0.fSums p1).bind fun r1=>bif decide (r1 < 0) then (some (-1)) else (some r1)
def laws_szBuild (u:Nat) (p0:Build) (p1:Int):Option Int :=
  (laws_szByteS u p0.fBuf p1).bind fun r1=>bif decide (r1 < 0) then (some (-1)) else (some r1)
def laws_szKidS (u:Nat) (p0:List Kid) (p1:Int):Option Int :=
  bif decide ((bSub .i64 p1 ((p0.length:Int))) < 0) then (some (-1)) else (some (bSub .i64 p1 ((p0.length:Int))))
def laws_szNode (u:Nat) (p0:Node) (p1:Int):Option Int :=
  (laws_szManifest u p0.fMan p1).bind fun r1=>bif decide (r1 < 0) then (some (-1)) else ((laws_szBuild u p0.fBld r1).bind fun r2=>bif decide (r2 < 0) then (some (-1)) else ((laws_szKidS u p0.fKids r2).bind fun r3=>bif decide (r3 < 0) then (some (-1)) else (some r3)))
def laws_szNodeS_j1 (u:Nat) (x9:Int):Option Int :=
  some x9
def laws_szNodeS_l2 (u:Nat) (k_laws_szNodeS_l2:Nat) (p0:List Node) (x3:Int) (x4:Int):Option Int:=match k_laws_szNodeS_l2 with
  | 0=>none
  | k_laws_szNodeS_l2+1=>bif decide (x4 < ((p0.length:Int))) then ((idx p0 x4).bind fun y7=>(laws_szNode u y7 x3).bind fun r8=>bif decide (r8 < 0) then (some (-1)) else ((fun z0 z1 z2=>laws_szNodeS_l2 u k_laws_szNodeS_l2 z0 z1 z2) p0 r8 (bAdd .i64 x4 1))) else (laws_szNodeS_j1 u x3)
def laws_szNodeS (u:Nat) (p0:List Node) (p1:Int):Option Int :=
  bif decide ((bSub .i64 p1 ((p0.length:Int))) < 0) then (some (-1)) else (laws_szNodeS_l2 u u p0 (bSub .i64 p1 ((p0.length:Int))) 0)
def laws_szNodeS_l2_f (u:Nat) (p0:List Node) (s:Int):Option Int:=(laws_szNodeS_j1 u s)
def laws_szNodeS_l2_b (u:Nat) (p0:List Node) (y7:Node) (i_:Nat) (s:Int) (k_:Int→Option Int):Option Int:=(laws_szNode u y7 s).bind fun r8=>bif decide (r8 < 0) then (some (-1)) else ((fun z0 z1 z2=>k_ z1) p0 r8 (bAdd .i64 (i_:Int) 1))
theorem laws_szNodeS_l2_w (u:Nat) (p0:List Node) (s:Int) (k:Nat) (hn:p0.length≤9223372036854775807) (hk:p0.length < k):laws_szNodeS_l2 u k p0 s 0=Pu.wlist (laws_szNodeS_l2_f u p0) (laws_szNodeS_l2_b u p0) p0 0 s:=Pu.wlist_0 (fun (k:Nat) (s:Int) (i:Int)=>laws_szNodeS_l2 u k p0 s i) hn (fun _ _ _=>rfl) s hk
def laws_szPut (u:Nat) (p0:Put) (p1:Int):Option Int :=
  (laws_szByteS u p0.fB p1).bind fun r1=>bif decide (r1 < 0) then (some (-1)) else (some r1)
def laws_szPutS_j1 (u:Nat) (x9:Int):Option Int :=
  some x9
def laws_szPutS_l2 (u:Nat) (k_laws_szPutS_l2:Nat) (p0:List Put) (x3:Int) (x4:Int):Option Int:=match k_laws_szPutS_l2 with
  | 0=>none
  | k_laws_szPutS_l2+1=>bif decide (x4 < ((p0.length:Int))) then ((idx p0 x4).bind fun y7=>(laws_szPut u y7 x3).bind fun r8=>bif decide (r8 < 0) then (some (-1)) else ((fun z0 z1 z2=>laws_szPutS_l2 u k_laws_szPutS_l2 z0 z1 z2) p0 r8 (bAdd .i64 x4 1))) else (laws_szPutS_j1 u x3)
def laws_szPutS (u:Nat) (p0:List Put) (p1:Int):Option Int :=
  bif decide ((bSub .i64 p1 ((p0.length:Int))) < 0) then (some (-1)) else (laws_szPutS_l2 u u p0 (bSub .i64 p1 ((p0.length:Int))) 0)
def laws_szPutS_l2_f (u:Nat) (p0:List Put) (s:Int):Option Int:=(laws_szPutS_j1 u s)
def laws_szPutS_l2_b (u:Nat) (p0:List Put) (y7:Put) (i_:Nat) (s:Int) (k_:Int→Option Int):Option Int:=(laws_szPut u y7 s).bind fun r8=>bif decide (r8 < 0) then (some (-1)) else ((fun z0 z1 z2=>k_ z1) p0 r8 (bAdd .i64 (i_:Int) 1))
theorem laws_szPutS_l2_w (u:Nat) (p0:List Put) (s:Int) (k:Nat) (hn:p0.length≤9223372036854775807) (hk:p0.length < k):laws_szPutS_l2 u k p0 s 0=Pu.wlist (laws_szPutS_l2_f u p0) (laws_szPutS_l2_b u p0) p0 0 s:=Pu.wlist_0 (fun (k:Nat) (s:Int) (i:Int)=>laws_szPutS_l2 u k p0 s i) hn (fun _ _ _=>rfl) s hk
def laws_szDisk (u:Nat) (p0:Disk) (p1:Int):Option Int :=
  (laws_szByteS u p0.fA p1).bind fun r1=>bif decide (r1 < 0) then (some (-1)) else ((laws_szByteS u p0.fB r1).bind fun r2=>bif decide (r2 < 0) then (some (-1)) else ((laws_szPutS u p0.fP r2).bind fun r3=>bif decide (r3 < 0) then (some (-1)) else (some r3)))
def laws_szDiskS_j1 (u:Nat) (x9:Int):Option Int :=
  some x9
def laws_szDiskS_l2 (u:Nat) (k_laws_szDiskS_l2:Nat) (p0:List Disk) (x3:Int) (x4:Int):Option Int:=match k_laws_szDiskS_l2 with
  | 0=>none
  | k_laws_szDiskS_l2+1=>bif decide (x4 < ((p0.length:Int))) then ((idx p0 x4).bind fun y7=>(laws_szDisk u y7 x3).bind fun r8=>bif decide (r8 < 0) then (some (-1)) else ((fun z0 z1 z2=>laws_szDiskS_l2 u k_laws_szDiskS_l2 z0 z1 z2) p0 r8 (bAdd .i64 x4 1))) else (laws_szDiskS_j1 u x3)
def laws_szDiskS (u:Nat) (p0:List Disk) (p1:Int):Option Int :=
  bif decide ((bSub .i64 p1 ((p0.length:Int))) < 0) then (some (-1)) else (laws_szDiskS_l2 u u p0 (bSub .i64 p1 ((p0.length:Int))) 0)
def laws_szDiskS_l2_f (u:Nat) (p0:List Disk) (s:Int):Option Int:=(laws_szDiskS_j1 u s)
def laws_szDiskS_l2_b (u:Nat) (p0:List Disk) (y7:Disk) (i_:Nat) (s:Int) (k_:Int→Option Int):Option Int:=(laws_szDisk u y7 s).bind fun r8=>bif decide (r8 < 0) then (some (-1)) else ((fun z0 z1 z2=>k_ z1) p0 r8 (bAdd .i64 (i_:Int) 1))
theorem laws_szDiskS_l2_w (u:Nat) (p0:List Disk) (s:Int) (k:Nat) (hn:p0.length≤9223372036854775807) (hk:p0.length < k):laws_szDiskS_l2 u k p0 s 0=Pu.wlist (laws_szDiskS_l2_f u p0) (laws_szDiskS_l2_b u p0) p0 0 s:=Pu.wlist_0 (fun (k:Nat) (s:Int) (i:Int)=>laws_szDiskS_l2 u k p0 s i) hn (fun _ _ _=>rfl) s hk
def laws_szPacket (u:Nat) (p0:Packet) (p1:Int):Option Int :=
  (laws_szByteS u p0.fB p1).bind fun r1=>bif decide (r1 < 0) then (some (-1)) else (some r1)
def laws_szPacketS_j1 (u:Nat) (x9:Int):Option Int :=
  some x9
def laws_szPacketS_l2 (u:Nat) (k_laws_szPacketS_l2:Nat) (p0:List Packet) (x3:Int) (x4:Int):Option Int:=match k_laws_szPacketS_l2 with
  | 0=>none
  | k_laws_szPacketS_l2+1=>bif decide (x4 < ((p0.length:Int))) then ((idx p0 x4).bind fun y7=>(laws_szPacket u y7 x3).bind fun r8=>bif decide (r8 < 0) then (some (-1)) else ((fun z0 z1 z2=>laws_szPacketS_l2 u k_laws_szPacketS_l2 z0 z1 z2) p0 r8 (bAdd .i64 x4 1))) else (laws_szPacketS_j1 u x3)
def laws_szPacketS (u:Nat) (p0:List Packet) (p1:Int):Option Int :=
  bif decide ((bSub .i64 p1 ((p0.length:Int))) < 0) then (some (-1)) else (laws_szPacketS_l2 u u p0 (bSub .i64 p1 ((p0.length:Int))) 0)
def laws_szPacketS_l2_f (u:Nat) (p0:List Packet) (s:Int):Option Int:=(laws_szPacketS_j1 u s)
def laws_szPacketS_l2_b (u:Nat) (p0:List Packet) (y7:Packet) (i_:Nat) (s:Int) (k_:Int→Option Int):Option Int:=(laws_szPacket u y7 s).bind fun r8=>bif decide (r8 < 0) then (some (-1)) else ((fun z0 z1 z2=>k_ z1) p0 r8 (bAdd .i64 (i_:Int) 1))
theorem laws_szPacketS_l2_w (u:Nat) (p0:List Packet) (s:Int) (k:Nat) (hn:p0.length≤9223372036854775807) (hk:p0.length < k):laws_szPacketS_l2 u k p0 s 0=Pu.wlist (laws_szPacketS_l2_f u p0) (laws_szPacketS_l2_b u p0) p0 0 s:=Pu.wlist_0 (fun (k:Nat) (s:Int) (i:Int)=>laws_szPacketS_l2 u k p0 s i) hn (fun _ _ _=>rfl) s hk
def laws_szSentS (u:Nat) (p0:List Sent) (p1:Int):Option Int :=
  bif decide ((bSub .i64 p1 ((p0.length:Int))) < 0) then (some (-1)) else (some (bSub .i64 p1 ((p0.length:Int))))
def laws_szWorld (u:Nat) (p0:World) (p1:Int):Option Int :=
  (laws_szTree u p0.fT p1).bind fun r1=>bif decide (r1 < 0) then (some (-1)) else ((laws_szByteS u p0.fNew r1).bind fun r2=>bif decide (r2 < 0) then (some (-1)) else ((laws_szImageS u p0.fOld r2).bind fun r3=>bif decide (r3 < 0) then (some (-1)) else ((laws_szNodeS u p0.fN r3).bind fun r4=>bif decide (r4 < 0) then (some (-1)) else ((laws_szDiskS u p0.fD r4).bind fun r5=>bif decide (r5 < 0) then (some (-1)) else ((laws_szPacketS u p0.fNet r5).bind fun r6=>bif decide (r6 < 0) then (some (-1)) else ((laws_szSentS u p0.fLog r6).bind fun r7=>bif decide (r7 < 0) then (some (-1)) else (some r7)))))))
def laws_toConf (u:Nat) (p0:Conf):Option Conf :=
  some p0
def laws_toIntS_j1 (u:Nat) (x11:List Int):Option ((List Int)) :=
  some x11
def laws_toIntS_l2 (u:Nat) (k_laws_toIntS_l2:Nat) (p0:List Int) (x5:List Int) (x6:Int):Option ((List Int)):=match k_laws_toIntS_l2 with
  | 0=>none
  | k_laws_toIntS_l2+1=>bif decide (x6 < ((p0.length:Int))) then ((idx p0 x6).bind fun y9=>(idx x5 x6).bind fun y10=>(fun z0 z1 z2=>laws_toIntS_l2 u k_laws_toIntS_l2 z0 z1 z2) p0 (x5.set (Int.toNat x6) y9) (bAdd .i64 x6 1)) else (laws_toIntS_j1 u x5)
def laws_toIntS (u:Nat) (p0:List Int):Option ((List Int)) :=
  (chk (decide (0≤((p0.length:Int))) && (((p0.length:Int)) == 0 || ((p0.length:Int)) == ((p0.length:Int))))).bind fun _=>(chk (decide (Int.toNat ((p0.length:Int))*8≤140737488355328))).bind fun _=>laws_toIntS_l2 u u p0 (List.replicate (Int.toNat ((p0.length:Int))) (0:Int)) 0
def laws_toIntS_l2_f (u:Nat) (p0:List Int) (s:(List Int)):Option ((List Int)):=(laws_toIntS_j1 u s)
def laws_toIntS_l2_b (u:Nat) (p0:List Int) (y9:Int) (i_:Nat) (s:(List Int)) (k_:((List Int))→Option ((List Int))):Option ((List Int)):=(idx s (i_:Int)).bind fun y10=>(fun z0 z1 z2=>k_ z1) p0 (s.set (Int.toNat (i_:Int)) y9) (bAdd .i64 (i_:Int) 1)
theorem laws_toIntS_l2_w (u:Nat) (p0:List Int) (s:(List Int)) (k:Nat) (hn:p0.length≤9223372036854775807) (hk:p0.length < k):laws_toIntS_l2 u k p0 s 0=Pu.wlist (laws_toIntS_l2_f u p0) (laws_toIntS_l2_b u p0) p0 0 s:=Pu.wlist_0 (fun (k:Nat) (s:(List Int)) (i:Int)=>laws_toIntS_l2 u k p0 s i) hn (fun _ _ _=>rfl) s hk
def laws_toTree (u:Nat) (p0:Tree):Option Tree :=
  (laws_toIntS u p0.fUp).bind fun r1=>some ((Tree.mk r1))
def laws_toByteS_j1 (u:Nat) (x11:List Int):Option ((List Int)) :=
  some x11
def laws_toByteS_l2 (u:Nat) (k_laws_toByteS_l2:Nat) (p0:List Int) (x5:List Int) (x6:Int):Option ((List Int)):=match k_laws_toByteS_l2 with
  | 0=>none
  | k_laws_toByteS_l2+1=>bif decide (x6 < ((p0.length:Int))) then ((idx p0 x6).bind fun y9=>(idx x5 x6).bind fun y10=>(fun z0 z1 z2=>laws_toByteS_l2 u k_laws_toByteS_l2 z0 z1 z2) p0 (x5.set (Int.toNat x6) y9) (bAdd .i64 x6 1)) else (laws_toByteS_j1 u x5)
def laws_toByteS (u:Nat) (p0:List Int):Option ((List Int)) :=
  (chk (decide (0≤((p0.length:Int))) && (((p0.length:Int)) == 0 || ((p0.length:Int)) == ((p0.length:Int))))).bind fun _=>(chk (decide (Int.toNat ((p0.length:Int))*1≤140737488355328))).bind fun _=>laws_toByteS_l2 u u p0 (List.replicate (Int.toNat ((p0.length:Int))) (0:Int)) 0
def laws_toByteS_l2_f (u:Nat) (p0:List Int) (s:(List Int)):Option ((List Int)):=(laws_toByteS_j1 u s)
def laws_toByteS_l2_b (u:Nat) (p0:List Int) (y9:Int) (i_:Nat) (s:(List Int)) (k_:((List Int))→Option ((List Int))):Option ((List Int)):=(idx s (i_:Int)).bind fun y10=>(fun z0 z1 z2=>k_ z1) p0 (s.set (Int.toNat (i_:Int)) y9) (bAdd .i64 (i_:Int) 1)
theorem laws_toByteS_l2_w (u:Nat) (p0:List Int) (s:(List Int)) (k:Nat) (hn:p0.length≤9223372036854775807) (hk:p0.length < k):laws_toByteS_l2 u k p0 s 0=Pu.wlist (laws_toByteS_l2_f u p0) (laws_toByteS_l2_b u p0) p0 0 s:=Pu.wlist_0 (fun (k:Nat) (s:(List Int)) (i:Int)=>laws_toByteS_l2 u k p0 s i) hn (fun _ _ _=>rfl) s hk
def laws_toImage (u:Nat) (p0:Image):Option Image :=
  (laws_toByteS u p0.fB).bind fun r1=>some ((Image.mk r1))
def laws_toImageS_j1 (u:Nat) (x12:List Image):Option ((List Image)) :=
  some x12
def laws_toImageS_l2 (u:Nat) (k_laws_toImageS_l2:Nat) (p0:List Image) (x5:List Image) (x6:Int):Option ((List Image)):=match k_laws_toImageS_l2 with
  | 0=>none
  | k_laws_toImageS_l2+1=>bif decide (x6 < ((p0.length:Int))) then ((idx p0 x6).bind fun y9=>(laws_toImage u y9).bind fun r10=>(idx x5 x6).bind fun y11=>(fun z0 z1 z2=>laws_toImageS_l2 u k_laws_toImageS_l2 z0 z1 z2) p0 (x5.set (Int.toNat x6) r10) (bAdd .i64 x6 1)) else (laws_toImageS_j1 u x5)
def laws_toImageS (u:Nat) (p0:List Image):Option ((List Image)) :=
  (chk (decide (0≤((p0.length:Int))) && (((p0.length:Int)) == 0 || ((p0.length:Int)) == ((p0.length:Int))))).bind fun _=>(chk (decide (Int.toNat ((p0.length:Int))*24≤140737488355328))).bind fun _=>laws_toImageS_l2 u u p0 (List.replicate (Int.toNat ((p0.length:Int))) ((Image.mk ([])):Image)) 0
def laws_toImageS_l2_f (u:Nat) (p0:List Image) (s:(List Image)):Option ((List Image)):=(laws_toImageS_j1 u s)
def laws_toImageS_l2_b (u:Nat) (p0:List Image) (y9:Image) (i_:Nat) (s:(List Image)) (k_:((List Image))→Option ((List Image))):Option ((List Image)):=(laws_toImage u y9).bind fun r10=>(idx s (i_:Int)).bind fun y11=>(fun z0 z1 z2=>k_ z1) p0 (s.set (Int.toNat (i_:Int)) r10) (bAdd .i64 (i_:Int) 1)
theorem laws_toImageS_l2_w (u:Nat) (p0:List Image) (s:(List Image)) (k:Nat) (hn:p0.length≤9223372036854775807) (hk:p0.length < k):laws_toImageS_l2 u k p0 s 0=Pu.wlist (laws_toImageS_l2_f u p0) (laws_toImageS_l2_b u p0) p0 0 s:=Pu.wlist_0 (fun (k:Nat) (s:(List Image)) (i:Int)=>laws_toImageS_l2 u k p0 s i) hn (fun _ _ _=>rfl) s hk
def laws_toSum (u:Nat) (p0:Sum):Option Sum :=
  some p0
def laws_toSumS_j1 (u:Nat) (x12:List Sum):Option ((List Sum)) :=
  some x12
def laws_toSumS_l2 (u:Nat) (k_laws_toSumS_l2:Nat) (p0:List Sum) (x5:List Sum) (x6:Int):Option ((List Sum)):=match k_laws_toSumS_l2 with
  | 0=>none
  | k_laws_toSumS_l2+1=>bif decide (x6 < ((p0.length:Int))) then ((idx p0 x6).bind fun y9=>(laws_toSum u y9).bind fun r10=>(idx x5 x6).bind fun y11=>(fun z0 z1 z2=>laws_toSumS_l2 u k_laws_toSumS_l2 z0 z1 z2) p0 (x5.set (Int.toNat x6) r10) (bAdd .i64 x6 1)) else (laws_toSumS_j1 u x5)
def laws_toSumS (u:Nat) (p0:List Sum):Option ((List Sum)) :=
  (chk (decide (0≤((p0.length:Int))) && (((p0.length:Int)) == 0 || ((p0.length:Int)) == ((p0.length:Int))))).bind fun _=>(chk (decide (Int.toNat ((p0.length:Int))*16≤140737488355328))).bind fun _=>laws_toSumS_l2 u u p0 (List.replicate (Int.toNat ((p0.length:Int))) ((Sum.mk 0 0):Sum)) 0
def laws_toSumS_l2_f (u:Nat) (p0:List Sum) (s:(List Sum)):Option ((List Sum)):=(laws_toSumS_j1 u s)
def laws_toSumS_l2_b (u:Nat) (p0:List Sum) (y9:Sum) (i_:Nat) (s:(List Sum)) (k_:((List Sum))→Option ((List Sum))):Option ((List Sum)):=(laws_toSum u y9).bind fun r10=>(idx s (i_:Int)).bind fun y11=>(fun z0 z1 z2=>k_ z1) p0 (s.set (Int.toNat (i_:Int)) r10) (bAdd .i64 (i_:Int) 1)
theorem laws_toSumS_l2_w (u:Nat) (p0:List Sum) (s:(List Sum)) (k:Nat) (hn:p0.length≤9223372036854775807) (hk:p0.length < k):laws_toSumS_l2 u k p0 s 0=Pu.wlist (laws_toSumS_l2_f u p0) (laws_toSumS_l2_b u p0) p0 0 s:=Pu.wlist_0 (fun (k:Nat) (s:(List Sum)) (i:Int)=>laws_toSumS_l2 u k p0 s i) hn (fun _ _ _=>rfl) s hk
def laws_toManifest (u:Nat) (p0:Manifest):Option Manifest :=
  (laws_toSumS u p0.fSums).bind fun r1=>some ((Manifest.mk p0.fGen p0.fSize p0.fLen r1))
def laws_toBuild (u:Nat) (p0:Build):Option Build :=
  (laws_toByteS u p0.fBuf).bind fun r1=>some ((Build.mk p0.fHave r1))
def laws_toKid (u:Nat) (p0:Kid):Option Kid :=
  some p0
def laws_toKidS_j1 (u:Nat) (x12:List Kid):Option ((List Kid)) :=
  some x12
def laws_toKidS_l2 (u:Nat) (k_laws_toKidS_l2:Nat) (p0:List Kid) (x5:List Kid) (x6:Int):Option ((List Kid)):=match k_laws_toKidS_l2 with
  | 0=>none
  | k_laws_toKidS_l2+1=>bif decide (x6 < ((p0.length:Int))) then ((idx p0 x6).bind fun y9=>(laws_toKid u y9).bind fun r10=>(idx x5 x6).bind fun y11=>(fun z0 z1 z2=>laws_toKidS_l2 u k_laws_toKidS_l2 z0 z1 z2) p0 (x5.set (Int.toNat x6) r10) (bAdd .i64 x6 1)) else (laws_toKidS_j1 u x5)
def laws_toKidS (u:Nat) (p0:List Kid):Option ((List Kid)) :=
  (chk (decide (0≤((p0.length:Int))) && (((p0.length:Int)) == 0 || ((p0.length:Int)) == ((p0.length:Int))))).bind fun _=>(chk (decide (Int.toNat ((p0.length:Int))*40≤140737488355328))).bind fun _=>laws_toKidS_l2 u u p0 (List.replicate (Int.toNat ((p0.length:Int))) ((Kid.mk 0 0 0 0 0):Kid)) 0
def laws_toKidS_l2_f (u:Nat) (p0:List Kid) (s:(List Kid)):Option ((List Kid)):=(laws_toKidS_j1 u s)
def laws_toKidS_l2_b (u:Nat) (p0:List Kid) (y9:Kid) (i_:Nat) (s:(List Kid)) (k_:((List Kid))→Option ((List Kid))):Option ((List Kid)):=(laws_toKid u y9).bind fun r10=>(idx s (i_:Int)).bind fun y11=>(fun z0 z1 z2=>k_ z1) p0 (s.set (Int.toNat (i_:Int)) r10) (bAdd .i64 (i_:Int) 1)
theorem laws_toKidS_l2_w (u:Nat) (p0:List Kid) (s:(List Kid)) (k:Nat) (hn:p0.length≤9223372036854775807) (hk:p0.length < k):laws_toKidS_l2 u k p0 s 0=Pu.wlist (laws_toKidS_l2_f u p0) (laws_toKidS_l2_b u p0) p0 0 s:=Pu.wlist_0 (fun (k:Nat) (s:(List Kid)) (i:Int)=>laws_toKidS_l2 u k p0 s i) hn (fun _ _ _=>rfl) s hk
def laws_toNode (u:Nat) (p0:Node):Option Node :=
  (laws_toManifest u p0.fMan).bind fun r1=>(laws_toBuild u p0.fBld).bind fun r2=>(laws_toKidS u p0.fKids).bind fun r3=>some ((Node.mk p0.fOn p0.fBoss p0.fQuiet r1 r2 p0.fPhase r3 p0.fDrops))
def laws_toNodeS_j1 (u:Nat) (x12:List Node):Option ((List Node)) :=
  some x12
def laws_toNodeS_l2 (u:Nat) (k_laws_toNodeS_l2:Nat) (p0:List Node) (x5:List Node) (x6:Int):Option ((List Node)):=match k_laws_toNodeS_l2 with
  | 0=>none
  | k_laws_toNodeS_l2+1=>bif decide (x6 < ((p0.length:Int))) then ((idx p0 x6).bind fun y9=>(laws_toNode u y9).bind fun r10=>(idx x5 x6).bind fun y11=>(fun z0 z1 z2=>laws_toNodeS_l2 u k_laws_toNodeS_l2 z0 z1 z2) p0 (x5.set (Int.toNat x6) r10) (bAdd .i64 x6 1)) else (laws_toNodeS_j1 u x5)
def laws_toNodeS (u:Nat) (p0:List Node):Option ((List Node)) :=
  (chk (decide (0≤((p0.length:Int))) && (((p0.length:Int)) == 0 || ((p0.length:Int)) == ((p0.length:Int))))).bind fun _=>(chk (decide (Int.toNat ((p0.length:Int))*144≤140737488355328))).bind fun _=>laws_toNodeS_l2 u u p0 (List.replicate (Int.toNat ((p0.length:Int))) ((Node.mk false 0 0 ((Manifest.mk 0 0 0 ([]))) ((Build.mk 0 ([]))) 0 ([]) 0):Node)) 0
def laws_toNodeS_l2_f (u:Nat) (p0:List Node) (s:(List Node)):Option ((List Node)):=(laws_toNodeS_j1 u s)
def laws_toNodeS_l2_b (u:Nat) (p0:List Node) (y9:Node) (i_:Nat) (s:(List Node)) (k_:((List Node))→Option ((List Node))):Option ((List Node)):=(laws_toNode u y9).bind fun r10=>(idx s (i_:Int)).bind fun y11=>(fun z0 z1 z2=>k_ z1) p0 (s.set (Int.toNat (i_:Int)) r10) (bAdd .i64 (i_:Int) 1)
theorem laws_toNodeS_l2_w (u:Nat) (p0:List Node) (s:(List Node)) (k:Nat) (hn:p0.length≤9223372036854775807) (hk:p0.length < k):laws_toNodeS_l2 u k p0 s 0=Pu.wlist (laws_toNodeS_l2_f u p0) (laws_toNodeS_l2_b u p0) p0 0 s:=Pu.wlist_0 (fun (k:Nat) (s:(List Node)) (i:Int)=>laws_toNodeS_l2 u k p0 s i) hn (fun _ _ _=>rfl) s hk
def laws_toRecord (u:Nat) (p0:Record):Option Record :=
  some p0
def laws_toPut (u:Nat) (p0:Put):Option Put :=
  (laws_toByteS u p0.fB).bind fun r1=>(laws_toRecord u p0.fR).bind fun r2=>some ((Put.mk p0.fWhat p0.fAt r1 r2))
def laws_toPutS_j1 (u:Nat) (x12:List Put):Option ((List Put)) :=
  some x12
def laws_toPutS_l2 (u:Nat) (k_laws_toPutS_l2:Nat) (p0:List Put) (x5:List Put) (x6:Int):Option ((List Put)):=match k_laws_toPutS_l2 with
  | 0=>none
  | k_laws_toPutS_l2+1=>bif decide (x6 < ((p0.length:Int))) then ((idx p0 x6).bind fun y9=>(laws_toPut u y9).bind fun r10=>(idx x5 x6).bind fun y11=>(fun z0 z1 z2=>laws_toPutS_l2 u k_laws_toPutS_l2 z0 z1 z2) p0 (x5.set (Int.toNat x6) r10) (bAdd .i64 x6 1)) else (laws_toPutS_j1 u x5)
def laws_toPutS (u:Nat) (p0:List Put):Option ((List Put)) :=
  (chk (decide (0≤((p0.length:Int))) && (((p0.length:Int)) == 0 || ((p0.length:Int)) == ((p0.length:Int))))).bind fun _=>(chk (decide (Int.toNat ((p0.length:Int))*64≤140737488355328))).bind fun _=>laws_toPutS_l2 u u p0 (List.replicate (Int.toNat ((p0.length:Int))) ((Put.mk 0 0 ([]) ((Record.mk 0 0 0))):Put)) 0
def laws_toPutS_l2_f (u:Nat) (p0:List Put) (s:(List Put)):Option ((List Put)):=(laws_toPutS_j1 u s)
def laws_toPutS_l2_b (u:Nat) (p0:List Put) (y9:Put) (i_:Nat) (s:(List Put)) (k_:((List Put))→Option ((List Put))):Option ((List Put)):=(laws_toPut u y9).bind fun r10=>(idx s (i_:Int)).bind fun y11=>(fun z0 z1 z2=>k_ z1) p0 (s.set (Int.toNat (i_:Int)) r10) (bAdd .i64 (i_:Int) 1)
theorem laws_toPutS_l2_w (u:Nat) (p0:List Put) (s:(List Put)) (k:Nat) (hn:p0.length≤9223372036854775807) (hk:p0.length < k):laws_toPutS_l2 u k p0 s 0=Pu.wlist (laws_toPutS_l2_f u p0) (laws_toPutS_l2_b u p0) p0 0 s:=Pu.wlist_0 (fun (k:Nat) (s:(List Put)) (i:Int)=>laws_toPutS_l2 u k p0 s i) hn (fun _ _ _=>rfl) s hk
def laws_toDisk (u:Nat) (p0:Disk):Option Disk :=
  (laws_toByteS u p0.fA).bind fun r1=>(laws_toByteS u p0.fB).bind fun r2=>(laws_toRecord u p0.fR).bind fun r3=>(laws_toPutS u p0.fP).bind fun r4=>some ((Disk.mk r1 r2 r3 r4))
def laws_toDiskS_j1 (u:Nat) (x12:List Disk):Option ((List Disk)) :=
  some x12
def laws_toDiskS_l2 (u:Nat) (k_laws_toDiskS_l2:Nat) (p0:List Disk) (x5:List Disk) (x6:Int):Option ((List Disk)):=match k_laws_toDiskS_l2 with
  | 0=>none
  | k_laws_toDiskS_l2+1=>bif decide (x6 < ((p0.length:Int))) then ((idx p0 x6).bind fun y9=>(laws_toDisk u y9).bind fun r10=>(idx x5 x6).bind fun y11=>(fun z0 z1 z2=>laws_toDiskS_l2 u k_laws_toDiskS_l2 z0 z1 z2) p0 (x5.set (Int.toNat x6) r10) (bAdd .i64 x6 1)) else (laws_toDiskS_j1 u x5)
def laws_toDiskS (u:Nat) (p0:List Disk):Option ((List Disk)) :=
  (chk (decide (0≤((p0.length:Int))) && (((p0.length:Int)) == 0 || ((p0.length:Int)) == ((p0.length:Int))))).bind fun _=>(chk (decide (Int.toNat ((p0.length:Int))*96≤140737488355328))).bind fun _=>laws_toDiskS_l2 u u p0 (List.replicate (Int.toNat ((p0.length:Int))) ((Disk.mk ([]) ([]) ((Record.mk 0 0 0)) ([])):Disk)) 0
def laws_toDiskS_l2_f (u:Nat) (p0:List Disk) (s:(List Disk)):Option ((List Disk)):=(laws_toDiskS_j1 u s)
def laws_toDiskS_l2_b (u:Nat) (p0:List Disk) (y9:Disk) (i_:Nat) (s:(List Disk)) (k_:((List Disk))→Option ((List Disk))):Option ((List Disk)):=(laws_toDisk u y9).bind fun r10=>(idx s (i_:Int)).bind fun y11=>(fun z0 z1 z2=>k_ z1) p0 (s.set (Int.toNat (i_:Int)) r10) (bAdd .i64 (i_:Int) 1)
theorem laws_toDiskS_l2_w (u:Nat) (p0:List Disk) (s:(List Disk)) (k:Nat) (hn:p0.length≤9223372036854775807) (hk:p0.length < k):laws_toDiskS_l2 u k p0 s 0=Pu.wlist (laws_toDiskS_l2_f u p0) (laws_toDiskS_l2_b u p0) p0 0 s:=Pu.wlist_0 (fun (k:Nat) (s:(List Disk)) (i:Int)=>laws_toDiskS_l2 u k p0 s i) hn (fun _ _ _=>rfl) s hk
def laws_toPacket (u:Nat) (p0:Packet):Option Packet :=
  (laws_toByteS u p0.fB).bind fun r1=>some ((Packet.mk p0.fFrom p0.fTo r1))
def laws_toPacketS_j1 (u:Nat) (x12:List Packet):Option ((List Packet)) :=
  some x12
def laws_toPacketS_l2 (u:Nat) (k_laws_toPacketS_l2:Nat) (p0:List Packet) (x5:List Packet) (x6:Int):Option ((List Packet)):=match k_laws_toPacketS_l2 with
  | 0=>none
  | k_laws_toPacketS_l2+1=>bif decide (x6 < ((p0.length:Int))) then ((idx p0 x6).bind fun y9=>(laws_toPacket u y9).bind fun r10=>(idx x5 x6).bind fun y11=>(fun z0 z1 z2=>laws_toPacketS_l2 u k_laws_toPacketS_l2 z0 z1 z2) p0 (x5.set (Int.toNat x6) r10) (bAdd .i64 x6 1)) else (laws_toPacketS_j1 u x5)
def laws_toPacketS (u:Nat) (p0:List Packet):Option ((List Packet)) :=
  (chk (decide (0≤((p0.length:Int))) && (((p0.length:Int)) == 0 || ((p0.length:Int)) == ((p0.length:Int))))).bind fun _=>(chk (decide (Int.toNat ((p0.length:Int))*40≤140737488355328))).bind fun _=>laws_toPacketS_l2 u u p0 (List.replicate (Int.toNat ((p0.length:Int))) ((Packet.mk 0 0 ([])):Packet)) 0
def laws_toPacketS_l2_f (u:Nat) (p0:List Packet) (s:(List Packet)):Option ((List Packet)):=(laws_toPacketS_j1 u s)
def laws_toPacketS_l2_b (u:Nat) (p0:List Packet) (y9:Packet) (i_:Nat) (s:(List Packet)) (k_:((List Packet))→Option ((List Packet))):Option ((List Packet)):=(laws_toPacket u y9).bind fun r10=>(idx s (i_:Int)).bind fun y11=>(fun z0 z1 z2=>k_ z1) p0 (s.set (Int.toNat (i_:Int)) r10) (bAdd .i64 (i_:Int) 1)
theorem laws_toPacketS_l2_w (u:Nat) (p0:List Packet) (s:(List Packet)) (k:Nat) (hn:p0.length≤9223372036854775807) (hk:p0.length < k):laws_toPacketS_l2 u k p0 s 0=Pu.wlist (laws_toPacketS_l2_f u p0) (laws_toPacketS_l2_b u p0) p0 0 s:=Pu.wlist_0 (fun (k:Nat) (s:(List Packet)) (i:Int)=>laws_toPacketS_l2 u k p0 s i) hn (fun _ _ _=>rfl) s hk
def laws_toSent (u:Nat) (p0:Sent):Option Sent :=
  some p0
def laws_toSentS_j1 (u:Nat) (x12:List Sent):Option ((List Sent)) :=
  some x12
def laws_toSentS_l2 (u:Nat) (k_laws_toSentS_l2:Nat) (p0:List Sent) (x5:List Sent) (x6:Int):Option ((List Sent)):=match k_laws_toSentS_l2 with
  | 0=>none
  | k_laws_toSentS_l2+1=>bif decide (x6 < ((p0.length:Int))) then ((idx p0 x6).bind fun y9=>(laws_toSent u y9).bind fun r10=>(idx x5 x6).bind fun y11=>(fun z0 z1 z2=>laws_toSentS_l2 u k_laws_toSentS_l2 z0 z1 z2) p0 (x5.set (Int.toNat x6) r10) (bAdd .i64 x6 1)) else (laws_toSentS_j1 u x5)
def laws_toSentS (u:Nat) (p0:List Sent):Option ((List Sent)) :=
  (chk (decide (0≤((p0.length:Int))) && (((p0.length:Int)) == 0 || ((p0.length:Int)) == ((p0.length:Int))))).bind fun _=>(chk (decide (Int.toNat ((p0.length:Int))*24≤140737488355328))).bind fun _=>laws_toSentS_l2 u u p0 (List.replicate (Int.toNat ((p0.length:Int))) ((Sent.mk 0 0 0):Sent)) 0
def laws_toSentS_l2_f (u:Nat) (p0:List Sent) (s:(List Sent)):Option ((List Sent)):=(laws_toSentS_j1 u s)
def laws_toSentS_l2_b (u:Nat) (p0:List Sent) (y9:Sent) (i_:Nat) (s:(List Sent)) (k_:((List Sent))→Option ((List Sent))):Option ((List Sent)):=(laws_toSent u y9).bind fun r10=>(idx s (i_:Int)).bind fun y11=>(fun z0 z1 z2=>k_ z1) p0 (s.set (Int.toNat (i_:Int)) r10) (bAdd .i64 (i_:Int) 1)
theorem laws_toSentS_l2_w (u:Nat) (p0:List Sent) (s:(List Sent)) (k:Nat) (hn:p0.length≤9223372036854775807) (hk:p0.length < k):laws_toSentS_l2 u k p0 s 0=Pu.wlist (laws_toSentS_l2_f u p0) (laws_toSentS_l2_b u p0) p0 0 s:=Pu.wlist_0 (fun (k:Nat) (s:(List Sent)) (i:Int)=>laws_toSentS_l2 u k p0 s i) hn (fun _ _ _=>rfl) s hk
def laws_toWorld (u:Nat) (p0:World):Option World :=
  (laws_toConf u p0.fC).bind fun r1=>(laws_toTree u p0.fT).bind fun r2=>(laws_toByteS u p0.fNew).bind fun r3=>(laws_toImageS u p0.fOld).bind fun r4=>(laws_toNodeS u p0.fN).bind fun r5=>(laws_toDiskS u p0.fD).bind fun r6=>(laws_toPacketS u p0.fNet).bind fun r7=>(laws_toSentS u p0.fLog).bind fun r8=>some ((World.mk r1 r2 r3 r4 r5 r6 r7 r8 p0.fLost))
def spec_TwiceOver_j1 (u:Nat) (x18:Int):Option Int :=
  some x18
def spec_TwiceOver_j3 (u:Nat) (c_spec_TwiceOver_l2:Int→Int→World→Option Int) (x17:Int) (x4:Int) (p0:World):Option Int :=
  c_spec_TwiceOver_l2 x17 (bAdd .i64 x4 1) p0
def spec_TwiceOver_j4 (u:Nat) (c_spec_TwiceOver_l2:Int→Int→World→Option Int) (x3:Int) (x4:Int) (x16:Bool) (p0:World):Option Int :=
  bif x16 then (spec_TwiceOver_j3 u c_spec_TwiceOver_l2 (bAdd .i64 x3 1) x4 p0) else (spec_TwiceOver_j3 u c_spec_TwiceOver_l2 x3 x4 p0)
def spec_TwiceOver_j6 (u:Nat) (c_spec_TwiceOver_l2:Int→Int→World→Option Int) (c_spec_TwiceOver_l5:Int→Int→Bool→Int→World→Option Int) (x3:Int) (x4:Int) (x15:Bool) (x10:Int) (p0:World):Option Int :=
  c_spec_TwiceOver_l5 x3 x4 x15 (bAdd .i64 x10 1) p0
def spec_TwiceOver_l5 (u:Nat) (c_spec_TwiceOver_l2:Int→Int→World→Option Int) (k_spec_TwiceOver_l5:Nat) (x3:Int) (x4:Int) (x9:Bool) (x10:Int) (p0:World):Option Int:=match k_spec_TwiceOver_l5 with
  | 0=>none
  | k_spec_TwiceOver_l5+1=>bif decide (x10 < x4) then (bif x9 then (spec_TwiceOver_j6 u c_spec_TwiceOver_l2 (fun z0 z1 z2 z3 z4=>spec_TwiceOver_l5 u c_spec_TwiceOver_l2 k_spec_TwiceOver_l5 z0 z1 z2 z3 z4) x3 x4 true x10 p0) else ((idx p0.fLog x10).bind fun y13=>(idx p0.fLog x4).bind fun y14=>spec_TwiceOver_j6 u c_spec_TwiceOver_l2 (fun z0 z1 z2 z3 z4=>spec_TwiceOver_l5 u c_spec_TwiceOver_l2 k_spec_TwiceOver_l5 z0 z1 z2 z3 z4) x3 x4 ([y13.fFrom,y13.fTo,y13.fI] == [y14.fFrom,y14.fTo,y14.fI]) x10 p0)) else (spec_TwiceOver_j4 u c_spec_TwiceOver_l2 x3 x4 x9 p0)
def spec_TwiceOver_l2 (u:Nat) (k_spec_TwiceOver_l2:Nat) (x3:Int) (x4:Int) (p0:World):Option Int:=match k_spec_TwiceOver_l2 with
  | 0=>none
  | k_spec_TwiceOver_l2+1=>bif decide (x4 < ((p0.fLog.length:Int))) then (spec_TwiceOver_l5 u (fun z0 z1 z2=>spec_TwiceOver_l2 u k_spec_TwiceOver_l2 z0 z1 z2) u x3 x4 false 0 p0) else (spec_TwiceOver_j1 u x3)
def spec_TwiceOver (u:Nat) (p0:World):Option Int :=
  spec_TwiceOver_l2 u u 0 0 p0
def spec_TwiceOver_l5_f (u:Nat) (c_spec_TwiceOver_l2:Int→Int→World→Option Int) (x3:Int) (x4:Int) (p0:World) (s:Bool):Option Int:=(spec_TwiceOver_j4 u c_spec_TwiceOver_l2 x3 x4 s p0)
def spec_TwiceOver_l5_b (u:Nat) (c_spec_TwiceOver_l2:Int→Int→World→Option Int) (x3:Int) (x4:Int) (p0:World) (i_:Nat) (s:Bool) (k_:Bool→Option Int):Option Int:=bif s then (spec_TwiceOver_j6 u c_spec_TwiceOver_l2 (fun z0 z1 z2 z3 z4=>k_ z2) x3 x4 true (i_:Int) p0) else ((idx p0.fLog (i_:Int)).bind fun y13=>(idx p0.fLog x4).bind fun y14=>spec_TwiceOver_j6 u c_spec_TwiceOver_l2 (fun z0 z1 z2 z3 z4=>k_ z2) x3 x4 ([y13.fFrom,y13.fTo,y13.fI] == [y14.fFrom,y14.fTo,y14.fI]) (i_:Int) p0)
theorem spec_TwiceOver_l5_w (u:Nat) (c_spec_TwiceOver_l2:Int→Int→World→Option Int) (x3:Int) (x4:Int) (p0:World) (s:Bool) (k:Nat) (hn:(x4:Int)≤9223372036854775807) (hk:Int.toNat (x4) < k):spec_TwiceOver_l5 u c_spec_TwiceOver_l2 k x3 x4 s 0 p0=Pu.walk (spec_TwiceOver_l5_f u c_spec_TwiceOver_l2 x3 x4 p0) (spec_TwiceOver_l5_b u c_spec_TwiceOver_l2 x3 x4 p0) (Int.toNat (x4)) 0 s:=Pu.walk_0 (fun (k:Nat) (s:Bool) (i:Int)=>spec_TwiceOver_l5 u c_spec_TwiceOver_l2 k x3 x4 s i p0) hn (fun _ _ _=>rfl) s hk
def sentKey (x:Sent):List Int:=[x.fFrom,x.fTo,x.fI]
def impl_TwiceOver_l2 (u:Nat) (k_impl_TwiceOver_l2:Nat) (x3:Int) (ks:List (List Int)) (p0:World) (x4:Int):Option Int:=match k_impl_TwiceOver_l2 with
  | 0=>none
  | k_impl_TwiceOver_l2+1=>bif decide (x4 < ((p0.fLog.length:Int))) then ((idx p0.fLog x4).bind fun y7=>impl_TwiceOver_l2 u k_impl_TwiceOver_l2 (bif ks.contains (sentKey y7) then bAdd .i64 x3 1 else x3) (addK ks (sentKey y7)) p0 (bAdd .i64 x4 1)) else (some x3)
def impl_TwiceOver (u:Nat) (p0:World):Option Int :=
  impl_TwiceOver_l2 u u 0 [] p0 0
def laws_eqConf (u:Nat) (p0:Conf) (p1:Conf):Option Bool :=
  bif p0.fSize != p1.fSize then (some false) else (bif p0.fWindow != p1.fWindow then (some false) else (bif p0.fSuspect != p1.fSuspect then (some false) else (bif p0.fForget != p1.fForget then (some false) else (some true))))
def laws_eqIntS_j1 (u:Nat)  : Option Bool :=
  some true
def laws_eqIntS_l2 (u:Nat) (k_laws_eqIntS_l2:Nat) (p0:List Int) (p1:List Int) (x2:Int):Option Bool:=match k_laws_eqIntS_l2 with
  | 0=>none
  | k_laws_eqIntS_l2+1=>bif decide (x2 < ((p0.length:Int))) then ((idx p0 x2).bind fun y4=>(idx p1 x2).bind fun y5=>bif y4 != y5 then (some false) else ((fun z0 z1 z2=>laws_eqIntS_l2 u k_laws_eqIntS_l2 z0 z1 z2) p0 p1 (bAdd .i64 x2 1))) else (laws_eqIntS_j1 u)
def laws_eqIntS (u:Nat) (p0:List Int) (p1:List Int):Option Bool :=
  bif ((p0.length:Int)) != ((p1.length:Int)) then (some false) else (laws_eqIntS_l2 u u p0 p1 0)
def laws_eqIntS_l2_f (u:Nat) (p0:List Int) (p1:List Int) (s:Unit):Option Bool:=(laws_eqIntS_j1 u)
def laws_eqIntS_l2_b (u:Nat) (p0:List Int) (p1:List Int) (y4:Int) (i_:Nat) (s:Unit) (k_:Unit→Option Bool):Option Bool:=(idx p1 (i_:Int)).bind fun y5=>bif y4 != y5 then (some false) else ((fun z0 z1 z2=>k_ ()) p0 p1 (bAdd .i64 (i_:Int) 1))
theorem laws_eqIntS_l2_w (u:Nat) (p0:List Int) (p1:List Int) (s:Unit) (k:Nat) (hn:p0.length≤9223372036854775807) (hk:p0.length < k):laws_eqIntS_l2 u k p0 p1 0=Pu.wlist (laws_eqIntS_l2_f u p0 p1) (laws_eqIntS_l2_b u p0 p1) p0 0 s:=Pu.wlist_0 (fun (k:Nat) (s:Unit) (i:Int)=>laws_eqIntS_l2 u k p0 p1 i) hn (fun _ _ _=>rfl) s hk
def laws_eqTree (u:Nat) (p0:Tree) (p1:Tree):Option Bool :=
  (laws_eqIntS u p0.fUp p1.fUp).bind fun r1=>bif !r1 then (some false) else (some true)
def laws_eqByteS_j1 (u:Nat)  : Option Bool :=
  some true
def laws_eqByteS_l2 (u:Nat) (k_laws_eqByteS_l2:Nat) (p0:List Int) (p1:List Int) (x2:Int):Option Bool:=match k_laws_eqByteS_l2 with
  | 0=>none
  | k_laws_eqByteS_l2+1=>bif decide (x2 < ((p0.length:Int))) then ((idx p0 x2).bind fun y4=>(idx p1 x2).bind fun y5=>bif y4 != y5 then (some false) else ((fun z0 z1 z2=>laws_eqByteS_l2 u k_laws_eqByteS_l2 z0 z1 z2) p0 p1 (bAdd .i64 x2 1))) else (laws_eqByteS_j1 u)
def laws_eqByteS (u:Nat) (p0:List Int) (p1:List Int):Option Bool :=
  bif ((p0.length:Int)) != ((p1.length:Int)) then (some false) else (laws_eqByteS_l2 u u p0 p1 0)
def laws_eqByteS_l2_f (u:Nat) (p0:List Int) (p1:List Int) (s:Unit):Option Bool:=(laws_eqByteS_j1 u)
def laws_eqByteS_l2_b (u:Nat) (p0:List Int) (p1:List Int) (y4:Int) (i_:Nat) (s:Unit) (k_:Unit→Option Bool):Option Bool:=(idx p1 (i_:Int)).bind fun y5=>bif y4 != y5 then (some false) else ((fun z0 z1 z2=>k_ ()) p0 p1 (bAdd .i64 (i_:Int) 1))
theorem laws_eqByteS_l2_w (u:Nat) (p0:List Int) (p1:List Int) (s:Unit) (k:Nat) (hn:p0.length≤9223372036854775807) (hk:p0.length < k):laws_eqByteS_l2 u k p0 p1 0=Pu.wlist (laws_eqByteS_l2_f u p0 p1) (laws_eqByteS_l2_b u p0 p1) p0 0 s:=Pu.wlist_0 (fun (k:Nat) (s:Unit) (i:Int)=>laws_eqByteS_l2 u k p0 p1 i) hn (fun _ _ _=>rfl) s hk
def laws_eqImage (u:Nat) (p0:Image) (p1:Image):Option Bool :=
  (laws_eqByteS u p0.fB p1.fB).bind fun r1=>bif !r1 then (some false) else (some true)
def laws_eqImageS_j1 (u:Nat)  : Option Bool :=
  some true
def laws_eqImageS_l2 (u:Nat) (k_laws_eqImageS_l2:Nat) (p0:List Image) (p1:List Image) (x2:Int):Option Bool:=match k_laws_eqImageS_l2 with
  | 0=>none
  | k_laws_eqImageS_l2+1=>bif decide (x2 < ((p0.length:Int))) then ((idx p0 x2).bind fun y4=>(idx p1 x2).bind fun y5=>(laws_eqImage u y4 y5).bind fun r6=>bif !r6 then (some false) else ((fun z0 z1 z2=>laws_eqImageS_l2 u k_laws_eqImageS_l2 z0 z1 z2) p0 p1 (bAdd .i64 x2 1))) else (laws_eqImageS_j1 u)
def laws_eqImageS (u:Nat) (p0:List Image) (p1:List Image):Option Bool :=
  bif ((p0.length:Int)) != ((p1.length:Int)) then (some false) else (laws_eqImageS_l2 u u p0 p1 0)
def laws_eqImageS_l2_f (u:Nat) (p0:List Image) (p1:List Image) (s:Unit):Option Bool:=(laws_eqImageS_j1 u)
def laws_eqImageS_l2_b (u:Nat) (p0:List Image) (p1:List Image) (y4:Image) (i_:Nat) (s:Unit) (k_:Unit→Option Bool):Option Bool:=(idx p1 (i_:Int)).bind fun y5=>(laws_eqImage u y4 y5).bind fun r6=>bif !r6 then (some false) else ((fun z0 z1 z2=>k_ ()) p0 p1 (bAdd .i64 (i_:Int) 1))
theorem laws_eqImageS_l2_w (u:Nat) (p0:List Image) (p1:List Image) (s:Unit) (k:Nat) (hn:p0.length≤9223372036854775807) (hk:p0.length < k):laws_eqImageS_l2 u k p0 p1 0=Pu.wlist (laws_eqImageS_l2_f u p0 p1) (laws_eqImageS_l2_b u p0 p1) p0 0 s:=Pu.wlist_0 (fun (k:Nat) (s:Unit) (i:Int)=>laws_eqImageS_l2 u k p0 p1 i) hn (fun _ _ _=>rfl) s hk
def laws_eqSum (u:Nat) (p0:Sum) (p1:Sum):Option Bool :=
  bif p0.fW != p1.fW then (some false) else (bif p0.fS != p1.fS then (some false) else (some true))
def laws_eqSumS_j1 (u:Nat)  : Option Bool :=
  some true
def laws_eqSumS_l2 (u:Nat) (k_laws_eqSumS_l2:Nat) (p0:List Sum) (p1:List Sum) (x2:Int):Option Bool:=match k_laws_eqSumS_l2 with
  | 0=>none
  | k_laws_eqSumS_l2+1=>bif decide (x2 < ((p0.length:Int))) then ((idx p0 x2).bind fun y4=>(idx p1 x2).bind fun y5=>(laws_eqSum u y4 y5).bind fun r6=>bif !r6 then (some false) else ((fun z0 z1 z2=>laws_eqSumS_l2 u k_laws_eqSumS_l2 z0 z1 z2) p0 p1 (bAdd .i64 x2 1))) else (laws_eqSumS_j1 u)
def laws_eqSumS (u:Nat) (p0:List Sum) (p1:List Sum):Option Bool :=
  bif ((p0.length:Int)) != ((p1.length:Int)) then (some false) else (laws_eqSumS_l2 u u p0 p1 0)
def laws_eqSumS_l2_f (u:Nat) (p0:List Sum) (p1:List Sum) (s:Unit):Option Bool:=(laws_eqSumS_j1 u)
def laws_eqSumS_l2_b (u:Nat) (p0:List Sum) (p1:List Sum) (y4:Sum) (i_:Nat) (s:Unit) (k_:Unit→Option Bool):Option Bool:=(idx p1 (i_:Int)).bind fun y5=>(laws_eqSum u y4 y5).bind fun r6=>bif !r6 then (some false) else ((fun z0 z1 z2=>k_ ()) p0 p1 (bAdd .i64 (i_:Int) 1))
theorem laws_eqSumS_l2_w (u:Nat) (p0:List Sum) (p1:List Sum) (s:Unit) (k:Nat) (hn:p0.length≤9223372036854775807) (hk:p0.length < k):laws_eqSumS_l2 u k p0 p1 0=Pu.wlist (laws_eqSumS_l2_f u p0 p1) (laws_eqSumS_l2_b u p0 p1) p0 0 s:=Pu.wlist_0 (fun (k:Nat) (s:Unit) (i:Int)=>laws_eqSumS_l2 u k p0 p1 i) hn (fun _ _ _=>rfl) s hk
def laws_eqManifest (u:Nat) (p0:Manifest) (p1:Manifest):Option Bool :=
  bif p0.fGen != p1.fGen then (some false) else (bif p0.fSize != p1.fSize then (some false) else (bif p0.fLen != p1.fLen then (some false) else ((laws_eqSumS u p0.fSums p1.fSums).bind fun r1=>bif !r1 then (some false) else (some true))))
def laws_eqBuild (u:Nat) (p0:Build) (p1:Build):Option Bool :=
  bif p0.fHave != p1.fHave then (some false) else ((laws_eqByteS u p0.fBuf p1.fBuf).bind fun r1=>bif !r1 then (some false) else (some true))
def laws_eqKid (u:Nat) (p0:Kid) (p1:Kid):Option Bool :=
  bif p0.fId != p1.fId then (some false) else (bif p0.fWant != p1.fWant then (some false) else (bif p0.fDone != p1.fDone then (some false) else (bif p0.fAge != p1.fAge then (some false) else (bif p0.fSent != p1.fSent then (some false) else (some true)))))
def laws_eqKidS_j1 (u:Nat)  : Option Bool :=
  some true
def laws_eqKidS_l2 (u:Nat) (k_laws_eqKidS_l2:Nat) (p0:List Kid) (p1:List Kid) (x2:Int):Option Bool:=match k_laws_eqKidS_l2 with
  | 0=>none
  | k_laws_eqKidS_l2+1=>bif decide (x2 < ((p0.length:Int))) then ((idx p0 x2).bind fun y4=>(idx p1 x2).bind fun y5=>(laws_eqKid u y4 y5).bind fun r6=>bif !r6 then (some false) else ((fun z0 z1 z2=>laws_eqKidS_l2 u k_laws_eqKidS_l2 z0 z1 z2) p0 p1 (bAdd .i64 x2 1))) else (laws_eqKidS_j1 u)
def laws_eqKidS (u:Nat) (p0:List Kid) (p1:List Kid):Option Bool :=
  bif ((p0.length:Int)) != ((p1.length:Int)) then (some false) else (laws_eqKidS_l2 u u p0 p1 0)
def laws_eqKidS_l2_f (u:Nat) (p0:List Kid) (p1:List Kid) (s:Unit):Option Bool:=(laws_eqKidS_j1 u)
def laws_eqKidS_l2_b (u:Nat) (p0:List Kid) (p1:List Kid) (y4:Kid) (i_:Nat) (s:Unit) (k_:Unit→Option Bool):Option Bool:=(idx p1 (i_:Int)).bind fun y5=>(laws_eqKid u y4 y5).bind fun r6=>bif !r6 then (some false) else ((fun z0 z1 z2=>k_ ()) p0 p1 (bAdd .i64 (i_:Int) 1))
theorem laws_eqKidS_l2_w (u:Nat) (p0:List Kid) (p1:List Kid) (s:Unit) (k:Nat) (hn:p0.length≤9223372036854775807) (hk:p0.length < k):laws_eqKidS_l2 u k p0 p1 0=Pu.wlist (laws_eqKidS_l2_f u p0 p1) (laws_eqKidS_l2_b u p0 p1) p0 0 s:=Pu.wlist_0 (fun (k:Nat) (s:Unit) (i:Int)=>laws_eqKidS_l2 u k p0 p1 i) hn (fun _ _ _=>rfl) s hk
def laws_eqNode (u:Nat) (p0:Node) (p1:Node):Option Bool :=
  bif !(p0.fOn == p1.fOn) then (some false) else (bif p0.fBoss != p1.fBoss then (some false) else (bif p0.fQuiet != p1.fQuiet then (some false) else ((laws_eqManifest u p0.fMan p1.fMan).bind fun r1=>bif !r1 then (some false) else ((laws_eqBuild u p0.fBld p1.fBld).bind fun r2=>bif !r2 then (some false) else (bif p0.fPhase != p1.fPhase then (some false) else ((laws_eqKidS u p0.fKids p1.fKids).bind fun r3=>bif !r3 then (some false) else (bif p0.fDrops != p1.fDrops then (some false) else (some true))))))))
def laws_eqNodeS_j1 (u:Nat)  : Option Bool :=
  some true
def laws_eqNodeS_l2 (u:Nat) (k_laws_eqNodeS_l2:Nat) (p0:List Node) (p1:List Node) (x2:Int):Option Bool:=match k_laws_eqNodeS_l2 with
  | 0=>none
  | k_laws_eqNodeS_l2+1=>bif decide (x2 < ((p0.length:Int))) then ((idx p0 x2).bind fun y4=>(idx p1 x2).bind fun y5=>(laws_eqNode u y4 y5).bind fun r6=>bif !r6 then (some false) else ((fun z0 z1 z2=>laws_eqNodeS_l2 u k_laws_eqNodeS_l2 z0 z1 z2) p0 p1 (bAdd .i64 x2 1))) else (laws_eqNodeS_j1 u)
def laws_eqNodeS (u:Nat) (p0:List Node) (p1:List Node):Option Bool :=
  bif ((p0.length:Int)) != ((p1.length:Int)) then (some false) else (laws_eqNodeS_l2 u u p0 p1 0)
def laws_eqNodeS_l2_f (u:Nat) (p0:List Node) (p1:List Node) (s:Unit):Option Bool:=(laws_eqNodeS_j1 u)
def laws_eqNodeS_l2_b (u:Nat) (p0:List Node) (p1:List Node) (y4:Node) (i_:Nat) (s:Unit) (k_:Unit→Option Bool):Option Bool:=(idx p1 (i_:Int)).bind fun y5=>(laws_eqNode u y4 y5).bind fun r6=>bif !r6 then (some false) else ((fun z0 z1 z2=>k_ ()) p0 p1 (bAdd .i64 (i_:Int) 1))
theorem laws_eqNodeS_l2_w (u:Nat) (p0:List Node) (p1:List Node) (s:Unit) (k:Nat) (hn:p0.length≤9223372036854775807) (hk:p0.length < k):laws_eqNodeS_l2 u k p0 p1 0=Pu.wlist (laws_eqNodeS_l2_f u p0 p1) (laws_eqNodeS_l2_b u p0 p1) p0 0 s:=Pu.wlist_0 (fun (k:Nat) (s:Unit) (i:Int)=>laws_eqNodeS_l2 u k p0 p1 i) hn (fun _ _ _=>rfl) s hk
def laws_eqRecord (u:Nat) (p0:Record) (p1:Record):Option Bool :=
  bif p0.fGen != p1.fGen then (some false) else (bif p0.fSlot != p1.fSlot then (some false) else (bif p0.fLen != p1.fLen then (some false) else (some true)))
def laws_eqPut (u:Nat) (p0:Put) (p1:Put):Option Bool :=
  bif p0.fWhat != p1.fWhat then (some false) else (bif p0.fAt != p1.fAt then (some false) else ((laws_eqByteS u p0.fB p1.fB).bind fun r1=>bif !r1 then (some false) else ((laws_eqRecord u p0.fR p1.fR).bind fun r2=>bif !r2 then (some false) else (some true))))
def laws_eqPutS_j1 (u:Nat)  : Option Bool :=
  some true
def laws_eqPutS_l2 (u:Nat) (k_laws_eqPutS_l2:Nat) (p0:List Put) (p1:List Put) (x2:Int):Option Bool:=match k_laws_eqPutS_l2 with
  | 0=>none
  | k_laws_eqPutS_l2+1=>bif decide (x2 < ((p0.length:Int))) then ((idx p0 x2).bind fun y4=>(idx p1 x2).bind fun y5=>(laws_eqPut u y4 y5).bind fun r6=>bif !r6 then (some false) else ((fun z0 z1 z2=>laws_eqPutS_l2 u k_laws_eqPutS_l2 z0 z1 z2) p0 p1 (bAdd .i64 x2 1))) else (laws_eqPutS_j1 u)
def laws_eqPutS (u:Nat) (p0:List Put) (p1:List Put):Option Bool :=
  bif ((p0.length:Int)) != ((p1.length:Int)) then (some false) else (laws_eqPutS_l2 u u p0 p1 0)
def laws_eqPutS_l2_f (u:Nat) (p0:List Put) (p1:List Put) (s:Unit):Option Bool:=(laws_eqPutS_j1 u)
def laws_eqPutS_l2_b (u:Nat) (p0:List Put) (p1:List Put) (y4:Put) (i_:Nat) (s:Unit) (k_:Unit→Option Bool):Option Bool:=(idx p1 (i_:Int)).bind fun y5=>(laws_eqPut u y4 y5).bind fun r6=>bif !r6 then (some false) else ((fun z0 z1 z2=>k_ ()) p0 p1 (bAdd .i64 (i_:Int) 1))
theorem laws_eqPutS_l2_w (u:Nat) (p0:List Put) (p1:List Put) (s:Unit) (k:Nat) (hn:p0.length≤9223372036854775807) (hk:p0.length < k):laws_eqPutS_l2 u k p0 p1 0=Pu.wlist (laws_eqPutS_l2_f u p0 p1) (laws_eqPutS_l2_b u p0 p1) p0 0 s:=Pu.wlist_0 (fun (k:Nat) (s:Unit) (i:Int)=>laws_eqPutS_l2 u k p0 p1 i) hn (fun _ _ _=>rfl) s hk
def laws_eqDisk (u:Nat) (p0:Disk) (p1:Disk):Option Bool :=
  (laws_eqByteS u p0.fA p1.fA).bind fun r1=>bif !r1 then (some false) else ((laws_eqByteS u p0.fB p1.fB).bind fun r2=>bif !r2 then (some false) else ((laws_eqRecord u p0.fR p1.fR).bind fun r3=>bif !r3 then (some false) else ((laws_eqPutS u p0.fP p1.fP).bind fun r4=>bif !r4 then (some false) else (some true))))
def laws_eqDiskS_j1 (u:Nat)  : Option Bool :=
  some true
def laws_eqDiskS_l2 (u:Nat) (k_laws_eqDiskS_l2:Nat) (p0:List Disk) (p1:List Disk) (x2:Int):Option Bool:=match k_laws_eqDiskS_l2 with
  | 0=>none
  | k_laws_eqDiskS_l2+1=>bif decide (x2 < ((p0.length:Int))) then ((idx p0 x2).bind fun y4=>(idx p1 x2).bind fun y5=>(laws_eqDisk u y4 y5).bind fun r6=>bif !r6 then (some false) else ((fun z0 z1 z2=>laws_eqDiskS_l2 u k_laws_eqDiskS_l2 z0 z1 z2) p0 p1 (bAdd .i64 x2 1))) else (laws_eqDiskS_j1 u)
def laws_eqDiskS (u:Nat) (p0:List Disk) (p1:List Disk):Option Bool :=
  bif ((p0.length:Int)) != ((p1.length:Int)) then (some false) else (laws_eqDiskS_l2 u u p0 p1 0)
def laws_eqDiskS_l2_f (u:Nat) (p0:List Disk) (p1:List Disk) (s:Unit):Option Bool:=(laws_eqDiskS_j1 u)
def laws_eqDiskS_l2_b (u:Nat) (p0:List Disk) (p1:List Disk) (y4:Disk) (i_:Nat) (s:Unit) (k_:Unit→Option Bool):Option Bool:=(idx p1 (i_:Int)).bind fun y5=>(laws_eqDisk u y4 y5).bind fun r6=>bif !r6 then (some false) else ((fun z0 z1 z2=>k_ ()) p0 p1 (bAdd .i64 (i_:Int) 1))
theorem laws_eqDiskS_l2_w (u:Nat) (p0:List Disk) (p1:List Disk) (s:Unit) (k:Nat) (hn:p0.length≤9223372036854775807) (hk:p0.length < k):laws_eqDiskS_l2 u k p0 p1 0=Pu.wlist (laws_eqDiskS_l2_f u p0 p1) (laws_eqDiskS_l2_b u p0 p1) p0 0 s:=Pu.wlist_0 (fun (k:Nat) (s:Unit) (i:Int)=>laws_eqDiskS_l2 u k p0 p1 i) hn (fun _ _ _=>rfl) s hk
def laws_eqPacket (u:Nat) (p0:Packet) (p1:Packet):Option Bool :=
  bif p0.fFrom != p1.fFrom then (some false) else (bif p0.fTo != p1.fTo then (some false) else ((laws_eqByteS u p0.fB p1.fB).bind fun r1=>bif !r1 then (some false) else (some true)))
def laws_eqPacketS_j1 (u:Nat)  : Option Bool :=
  some true
def laws_eqPacketS_l2 (u:Nat) (k_laws_eqPacketS_l2:Nat) (p0:List Packet) (p1:List Packet) (x2:Int):Option Bool:=match k_laws_eqPacketS_l2 with
  | 0=>none
  | k_laws_eqPacketS_l2+1=>bif decide (x2 < ((p0.length:Int))) then ((idx p0 x2).bind fun y4=>(idx p1 x2).bind fun y5=>(laws_eqPacket u y4 y5).bind fun r6=>bif !r6 then (some false) else ((fun z0 z1 z2=>laws_eqPacketS_l2 u k_laws_eqPacketS_l2 z0 z1 z2) p0 p1 (bAdd .i64 x2 1))) else (laws_eqPacketS_j1 u)
def laws_eqPacketS (u:Nat) (p0:List Packet) (p1:List Packet):Option Bool :=
  bif ((p0.length:Int)) != ((p1.length:Int)) then (some false) else (laws_eqPacketS_l2 u u p0 p1 0)
def laws_eqPacketS_l2_f (u:Nat) (p0:List Packet) (p1:List Packet) (s:Unit):Option Bool:=(laws_eqPacketS_j1 u)
def laws_eqPacketS_l2_b (u:Nat) (p0:List Packet) (p1:List Packet) (y4:Packet) (i_:Nat) (s:Unit) (k_:Unit→Option Bool):Option Bool:=(idx p1 (i_:Int)).bind fun y5=>(laws_eqPacket u y4 y5).bind fun r6=>bif !r6 then (some false) else ((fun z0 z1 z2=>k_ ()) p0 p1 (bAdd .i64 (i_:Int) 1))
theorem laws_eqPacketS_l2_w (u:Nat) (p0:List Packet) (p1:List Packet) (s:Unit) (k:Nat) (hn:p0.length≤9223372036854775807) (hk:p0.length < k):laws_eqPacketS_l2 u k p0 p1 0=Pu.wlist (laws_eqPacketS_l2_f u p0 p1) (laws_eqPacketS_l2_b u p0 p1) p0 0 s:=Pu.wlist_0 (fun (k:Nat) (s:Unit) (i:Int)=>laws_eqPacketS_l2 u k p0 p1 i) hn (fun _ _ _=>rfl) s hk
def laws_eqSent (u:Nat) (p0:Sent) (p1:Sent):Option Bool :=
  bif p0.fFrom != p1.fFrom then (some false) else (bif p0.fTo != p1.fTo then (some false) else (bif p0.fI != p1.fI then (some false) else (some true)))
def laws_eqSentS_j1 (u:Nat)  : Option Bool :=
  some true
def laws_eqSentS_l2 (u:Nat) (k_laws_eqSentS_l2:Nat) (p0:List Sent) (p1:List Sent) (x2:Int):Option Bool:=match k_laws_eqSentS_l2 with
  | 0=>none
  | k_laws_eqSentS_l2+1=>bif decide (x2 < ((p0.length:Int))) then ((idx p0 x2).bind fun y4=>(idx p1 x2).bind fun y5=>(laws_eqSent u y4 y5).bind fun r6=>bif !r6 then (some false) else ((fun z0 z1 z2=>laws_eqSentS_l2 u k_laws_eqSentS_l2 z0 z1 z2) p0 p1 (bAdd .i64 x2 1))) else (laws_eqSentS_j1 u)
def laws_eqSentS (u:Nat) (p0:List Sent) (p1:List Sent):Option Bool :=
  bif ((p0.length:Int)) != ((p1.length:Int)) then (some false) else (laws_eqSentS_l2 u u p0 p1 0)
def laws_eqSentS_l2_f (u:Nat) (p0:List Sent) (p1:List Sent) (s:Unit):Option Bool:=(laws_eqSentS_j1 u)
def laws_eqSentS_l2_b (u:Nat) (p0:List Sent) (p1:List Sent) (y4:Sent) (i_:Nat) (s:Unit) (k_:Unit→Option Bool):Option Bool:=(idx p1 (i_:Int)).bind fun y5=>(laws_eqSent u y4 y5).bind fun r6=>bif !r6 then (some false) else ((fun z0 z1 z2=>k_ ()) p0 p1 (bAdd .i64 (i_:Int) 1))
theorem laws_eqSentS_l2_w (u:Nat) (p0:List Sent) (p1:List Sent) (s:Unit) (k:Nat) (hn:p0.length≤9223372036854775807) (hk:p0.length < k):laws_eqSentS_l2 u k p0 p1 0=Pu.wlist (laws_eqSentS_l2_f u p0 p1) (laws_eqSentS_l2_b u p0 p1) p0 0 s:=Pu.wlist_0 (fun (k:Nat) (s:Unit) (i:Int)=>laws_eqSentS_l2 u k p0 p1 i) hn (fun _ _ _=>rfl) s hk
def laws_eqWorld (u:Nat) (p0:World) (p1:World):Option Bool :=
  (laws_eqConf u p0.fC p1.fC).bind fun r1=>bif !r1 then (some false) else ((laws_eqTree u p0.fT p1.fT).bind fun r2=>bif !r2 then (some false) else ((laws_eqByteS u p0.fNew p1.fNew).bind fun r3=>bif !r3 then (some false) else ((laws_eqImageS u p0.fOld p1.fOld).bind fun r4=>bif !r4 then (some false) else ((laws_eqNodeS u p0.fN p1.fN).bind fun r5=>bif !r5 then (some false) else ((laws_eqDiskS u p0.fD p1.fD).bind fun r6=>bif !r6 then (some false) else ((laws_eqPacketS u p0.fNet p1.fNet).bind fun r7=>bif !r7 then (some false) else ((laws_eqSentS u p0.fLog p1.fLog).bind fun r8=>bif !r8 then (some false) else (bif p0.fLost != p1.fLost then (some false) else (some true)))))))))
def laws_FnExactTwiceOver (u:Nat) (p0:World):Option Bool :=
  (laws_szWorld u p0 1048576).bind fun r1=>bif decide (r1 < 0) then (some true) else ((laws_toWorld u p0).bind fun r2=>(spec_TwiceOver u r2).bind fun r3=>(laws_toWorld u p0).bind fun r4=>(impl_TwiceOver u r4).bind fun r5=>bif r5 != r3 then (some false) else ((laws_toWorld u p0).bind fun r6=>(laws_eqWorld u r4 r6).bind fun r7=>bif !r7 then (some false) else (some true)))
end Go.Tm
