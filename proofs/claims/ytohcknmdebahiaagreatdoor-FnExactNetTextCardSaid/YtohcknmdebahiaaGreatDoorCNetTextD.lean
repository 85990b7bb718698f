/- Go functions as pure functions (printed). -/
import Derived.Test.YtohcknmdebahiaaGreatDoorTm39
import Derived.Test.YtohcknmdebahiaaGreatDoorPu1
import Derived.Lib.ItoaLen
import Derived.Lib.Join
set_option maxRecDepth 100000
set_option maxHeartbeats 20000000
set_option linter.unusedVariables false
set_option linter.unusedSimpArgs false
namespace Go.Tm
structure Conf where
  fSize : Int
  fWindow : Int
  fSuspect : Int
  fForget : Int
  deriving DecidableEq
def Conf.enc (x : Conf) : List T := [.int .i64 x.fSize, .int .i64 x.fWindow, .int .i64 x.fSuspect, .int .i64 x.fForget]
def Conf.wf (x : Conf) : Prop := (wInt .i64) x.fSize ∧ (wInt .i64) x.fWindow ∧ (wInt .i64) x.fSuspect ∧ (wInt .i64) x.fForget ∧ True
structure Tree where
  fUp : List Int
  deriving DecidableEq
def Tree.enc (x : Tree) : List T := [.sl 1 (x.fUp.map (eInt .i64))]
def Tree.wf (x : Tree) : Prop := (wSl (wInt .i64)) x.fUp ∧ True
structure Image where
  fB : List Int
  deriving DecidableEq
def Image.enc (x : Image) : List T := [.sl 1 (x.fB.map (eInt .u8))]
def Image.wf (x : Image) : Prop := (wSl (wInt .u8)) x.fB ∧ True
structure Sum where
  fW : Int
  fS : Int
  deriving DecidableEq
def Sum.enc (x : Sum) : List T := [.int .i64 x.fW, .int .i64 x.fS]
def Sum.wf (x : Sum) : Prop := (wInt .i64) x.fW ∧ (wInt .i64) x.fS ∧ True
structure Manifest where
  fGen : Int
  fSize : Int
  fLen : Int
  fSums : List Sum
  deriving DecidableEq
def Manifest.enc (x : Manifest) : List T := [.int .i64 x.fGen, .int .i64 x.fSize, .int .i64 x.fLen, .sl 2 (x.fSums.map Sum.enc)]
def Manifest.wf (x : Manifest) : Prop := (wInt .i64) x.fGen ∧ (wInt .i64) x.fSize ∧ (wInt .i64) x.fLen ∧ (wSl Sum.wf) x.fSums ∧ True
structure Build where
  fHave : Int
  fBuf : List Int
  deriving DecidableEq
def Build.enc (x : Build) : List T := [.int .i64 x.fHave, .sl 1 (x.fBuf.map (eInt .u8))]
def Build.wf (x : Build) : Prop := (wInt .i64) x.fHave ∧ (wSl (wInt .u8)) x.fBuf ∧ True
structure Kid where
  fId : Int
  fWant : Int
  fDone : Int
  fAge : Int
  fSent : Int
  deriving DecidableEq
def Kid.enc (x : Kid) : List T := [.int .i64 x.fId, .int .i64 x.fWant, .int .i64 x.fDone, .int .i64 x.fAge, .int .i64 x.fSent]
def Kid.wf (x : Kid) : Prop := (wInt .i64) x.fId ∧ (wInt .i64) x.fWant ∧ (wInt .i64) x.fDone ∧ (wInt .i64) x.fAge ∧ (wInt .i64) x.fSent ∧ True
structure Node where
  fOn : Bool
  fBoss : Int
  fQuiet : Int
  fMan : Manifest
  fBld : Build
  fPhase : Int
  fKids : List Kid
  fDrops : Int
  deriving DecidableEq
def Node.enc (x : Node) : List T := [.bool x.fOn, .int .i64 x.fBoss, .int .i64 x.fQuiet, .int .i64 x.fMan.fGen, .int .i64 x.fMan.fSize, .int .i64 x.fMan.fLen, .sl 2 (x.fMan.fSums.map Sum.enc), .int .i64 x.fBld.fHave, .sl 1 (x.fBld.fBuf.map (eInt .u8)), .int .i64 x.fPhase, .sl 5 (x.fKids.map Kid.enc), .int .i64 x.fDrops]
def Node.wf (x : Node) : Prop := (fun _ => True) x.fOn ∧ (wInt .i64) x.fBoss ∧ (wInt .i64) x.fQuiet ∧ Manifest.wf x.fMan ∧ Build.wf x.fBld ∧ (wInt .i64) x.fPhase ∧ (wSl Kid.wf) x.fKids ∧ (wInt .i64) x.fDrops ∧ True
structure Record where
  fGen : Int
  fSlot : Int
  fLen : Int
  deriving DecidableEq
def Record.enc (x : Record) : List T := [.int .i64 x.fGen, .int .i64 x.fSlot, .int .i64 x.fLen]
def Record.wf (x : Record) : Prop := (wInt .i64) x.fGen ∧ (wInt .i64) x.fSlot ∧ (wInt .i64) x.fLen ∧ True
structure Put where
  fWhat : Int
  fAt : Int
  fB : List Int
  fR : Record
  deriving DecidableEq
def Put.enc (x : Put) : List T := [.int .i64 x.fWhat, .int .i64 x.fAt, .sl 1 (x.fB.map (eInt .u8)), .int .i64 x.fR.fGen, .int .i64 x.fR.fSlot, .int .i64 x.fR.fLen]
def Put.wf (x : Put) : Prop := (wInt .i64) x.fWhat ∧ (wInt .i64) x.fAt ∧ (wSl (wInt .u8)) x.fB ∧ Record.wf x.fR ∧ True
structure Disk where
  fA : List Int
  fB : List Int
  fR : Record
  fP : List Put
  deriving DecidableEq
def Disk.enc (x : Disk) : List T := [.sl 1 (x.fA.map (eInt .u8)), .sl 1 (x.fB.map (eInt .u8)), .int .i64 x.fR.fGen, .int .i64 x.fR.fSlot, .int .i64 x.fR.fLen, .sl 6 (x.fP.map Put.enc)]
def Disk.wf (x : Disk) : Prop := (wSl (wInt .u8)) x.fA ∧ (wSl (wInt .u8)) x.fB ∧ Record.wf x.fR ∧ (wSl Put.wf) x.fP ∧ True
structure Packet where
  fFrom : Int
  fTo : Int
  fB : List Int
  deriving DecidableEq
def Packet.enc (x : Packet) : List T := [.int .i64 x.fFrom, .int .i64 x.fTo, .sl 1 (x.fB.map (eInt .u8))]
def Packet.wf (x : Packet) : Prop := (wInt .i64) x.fFrom ∧ (wInt .i64) x.fTo ∧ (wSl (wInt .u8)) x.fB ∧ True
structure Sent where
  fFrom : Int
  fTo : Int
  fI : Int
  deriving DecidableEq
def Sent.enc (x : Sent) : List T := [.int .i64 x.fFrom, .int .i64 x.fTo, .int .i64 x.fI]
def Sent.wf (x : Sent) : Prop := (wInt .i64) x.fFrom ∧ (wInt .i64) x.fTo ∧ (wInt .i64) x.fI ∧ True
structure World where
  fC : Conf
  fT : Tree
  fNew : List Int
  fOld : List Image
  fN : List Node
  fD : List Disk
  fNet : List Packet
  fLog : List Sent
  fLost : Int
  deriving DecidableEq
def World.enc (x : World) : List T := [.int .i64 x.fC.fSize, .int .i64 x.fC.fWindow, .int .i64 x.fC.fSuspect, .int .i64 x.fC.fForget, .sl 1 (x.fT.fUp.map (eInt .i64)), .sl 1 (x.fNew.map (eInt .u8)), .sl 1 (x.fOld.map Image.enc), .sl 12 (x.fN.map Node.enc), .sl 6 (x.fD.map Disk.enc), .sl 3 (x.fNet.map Packet.enc), .sl 3 (x.fLog.map Sent.enc), .int .i64 x.fLost]
def World.wf (x : World) : Prop := Conf.wf x.fC ∧ Tree.wf x.fT ∧ (wSl (wInt .u8)) x.fNew ∧ (wSl Image.wf) x.fOld ∧ (wSl Node.wf) x.fN ∧ (wSl Disk.wf) x.fD ∧ (wSl Packet.wf) x.fNet ∧ (wSl Sent.wf) x.fLog ∧ (wInt .i64) x.fLost ∧ True
structure Msg where
  fKind : Int
  fGen : Int
  fMan : Manifest
  fWant : Int
  fDone : Int
  fI : Int
  fB : List Int
  deriving DecidableEq
def Msg.enc (x : Msg) : List T := [.int .i64 x.fKind, .int .i64 x.fGen, .int .i64 x.fMan.fGen, .int .i64 x.fMan.fSize, .int .i64 x.fMan.fLen, .sl 2 (x.fMan.fSums.map Sum.enc), .int .i64 x.fWant, .int .i64 x.fDone, .int .i64 x.fI, .sl 1 (x.fB.map (eInt .u8))]
def Msg.wf (x : Msg) : Prop := (wInt .i64) x.fKind ∧ (wInt .i64) x.fGen ∧ Manifest.wf x.fMan ∧ (wInt .i64) x.fWant ∧ (wInt .i64) x.fDone ∧ (wInt .i64) x.fI ∧ (wSl (wInt .u8)) x.fB ∧ True
def laws_szIntS (u : Nat) (p0 : List Int) (p1 : Int) : Option Int :=
  bif decide ((bSub .i64 p1 ((p0.length : Int))) < 0) then (some (-1)) else (some (bSub .i64 p1 ((p0.length : Int))))
def laws_szTree (u : Nat) (p0 : Tree) (p1 : Int) : Option Int :=
  (laws_szIntS u p0.fUp p1).bind fun r1 => bif decide (r1 < 0) then (some (-1)) else (some r1)
def laws_szByteS (u : Nat) (p0 : List Int) (p1 : Int) : Option Int :=
  bif decide ((bSub .i64 p1 ((p0.length : Int))) < 0) then (some (-1)) else (some (bSub .i64 p1 ((p0.length : Int))))
def laws_szImage (u : Nat) (p0 : Image) (p1 : Int) : Option Int :=
  (laws_szByteS u p0.fB p1).bind fun r1 => bif decide (r1 < 0) then (some (-1)) else (some r1)
def laws_szImageS_j1 (u : Nat) (x9 : Int) : Option Int :=
  some x9
def laws_szImageS_l2 (u : Nat) (k_laws_szImageS_l2 : Nat) (p0 : List Image) (x3 : Int) (x4 : Int) : Option Int := match k_laws_szImageS_l2 with
  | 0 => none
  | k_laws_szImageS_l2 + 1 => bif decide (x4 < ((p0.length : Int))) then ((idx p0 x4).bind fun y7 => (laws_szImage u y7 x3).bind fun r8 => bif decide (r8 < 0) then (some (-1)) else ((fun z0 z1 z2 => laws_szImageS_l2 u k_laws_szImageS_l2 z0 z1 z2) p0 r8 (bAdd .i64 x4 1))) else (laws_szImageS_j1 u x3)
def laws_szImageS (u : Nat) (p0 : List Image) (p1 : Int) : Option Int :=
  bif decide ((bSub .i64 p1 ((p0.length : Int))) < 0) then (some (-1)) else (laws_szImageS_l2 u u p0 (bSub .i64 p1 ((p0.length : Int))) 0)
def laws_szImageS_l2_f (u : Nat) (p0 : List Image) (s : Int) : Option Int := (laws_szImageS_j1 u s)
def laws_szImageS_l2_b (u : Nat) (p0 : List Image) (y7 : Image) (i_ : Nat) (s : Int) (k_ : Int → Option Int) : Option Int := (laws_szImage u y7 s).bind fun r8 => bif decide (r8 < 0) then (some (-1)) else ((fun z0 z1 z2 => k_ z1) p0 r8 (bAdd .i64 (i_ : Int) 1))
theorem laws_szImageS_l2_w (u : Nat) (p0 : List Image) (s : Int) (k : Nat) (hn : p0.length ≤ 9223372036854775807) (hk : p0.length < k) : laws_szImageS_l2 u k p0 s 0 = Pu.wlist (laws_szImageS_l2_f u p0) (laws_szImageS_l2_b u p0) p0 0 s := Pu.wlist_0 (fun (k : Nat) (s : Int) (i : Int) => laws_szImageS_l2 u k p0 s i) hn (fun _ _ _ => rfl) s hk
def laws_szSumS (u : Nat) (p0 : List Sum) (p1 : Int) : Option Int :=
  bif decide ((bSub .i64 p1 ((p0.length : Int))) < 0) then (some (-1)) else (some (bSub .i64 p1 ((p0.length : Int))))
def laws_szManifest (u : Nat) (p0 : Manifest) (p1 : Int) : Option Int :=
  (laws_szSumS u p0.fSums p1).bind fun r1 => bif decide (r1 < 0) then (some (-1)) else (some r1)
def laws_szBuild (u : Nat) (p0 : Build) (p1 : Int) : Option Int :=
  (laws_szByteS u p0.fBuf p1).bind fun r1 => bif decide (r1 < 0) then (some (-1)) else (some r1)
def laws_szKidS (u : Nat) (p0 : List Kid) (p1 : Int) : Option Int :=
  bif decide ((bSub .i64 p1 ((p0.length : Int))) < 0) then (some (-1)) else (some (bSub .i64 p1 ((p0.length : Int))))
def laws_szNode (u : Nat) (p0 : Node) (p1 : Int) : Option Int :=
  (laws_szManifest u p0.fMan p1).bind fun r1 => bif decide (r1 < 0) then (some (-1)) else ((laws_szBuild u p0.fBld r1).bind fun r2 => bif decide (r2 < 0) then (some (-1)) else ((laws_szKidS u p0.fKids r2).bind fun r3 => bif decide (r3 < 0) then (some (-1)) else (some r3)))
def laws_szNodeS_j1 (u : Nat) (x9 : Int) : Option Int :=
  some x9
def laws_szNodeS_l2 (u : Nat) (k_laws_szNodeS_l2 : Nat) (p0 : List Node) (x3 : Int) (x4 : Int) : Option Int := match k_laws_szNodeS_l2 with
  | 0 => none
  | k_laws_szNodeS_l2 + 1 => bif decide (x4 < ((p0.length : Int))) then ((idx p0 x4).bind fun y7 => (laws_szNode u y7 x3).bind fun r8 => bif decide (r8 < 0) then (some (-1)) else ((fun z0 z1 z2 => laws_szNodeS_l2 u k_laws_szNodeS_l2 z0 z1 z2) p0 r8 (bAdd .i64 x4 1))) else (laws_szNodeS_j1 u x3)
def laws_szNodeS (u : Nat) (p0 : List Node) (p1 : Int) : Option Int :=
  bif decide ((bSub .i64 p1 ((p0.length : Int))) < 0) then (some (-1)) else (laws_szNodeS_l2 u u p0 (bSub .i64 p1 ((p0.length : Int))) 0)
def laws_szNodeS_l2_f (u : Nat) (p0 : List Node) (s : Int) : Option Int := (laws_szNodeS_j1 u s)
def laws_szNodeS_l2_b (u : Nat) (p0 : List Node) (y7 : Node) (i_ : Nat) (s : Int) (k_ : Int → Option Int) : Option Int := (laws_szNode u y7 s).bind fun r8 => bif decide (r8 < 0) then (some (-1)) else ((fun z0 z1 z2 => k_ z1) p0 r8 (bAdd .i64 (i_ : Int) 1))
theorem laws_szNodeS_l2_w (u : Nat) (p0 : List Node) (s : Int) (k : Nat) (hn : p0.length ≤ 9223372036854775807) (hk : p0.length < k) : laws_szNodeS_l2 u k p0 s 0 = Pu.wlist (laws_szNodeS_l2_f u p0) (laws_szNodeS_l2_b u p0) p0 0 s := Pu.wlist_0 (fun (k : Nat) (s : Int) (i : Int) => laws_szNodeS_l2 u k p0 s i) hn (fun _ _ _ => rfl) s hk
def laws_szPut (u : Nat) (p0 : Put) (p1 : Int) : Option Int :=
  (laws_szByteS u p0.fB p1).bind fun r1 => bif decide (r1 < 0) then (some (-1)) else (some r1)
def laws_szPutS_j1 (u : Nat) (x9 : Int) : Option Int :=
  some x9
def laws_szPutS_l2 (u : Nat) (k_laws_szPutS_l2 : Nat) (p0 : List Put) (x3 : Int) (x4 : Int) : Option Int := match k_laws_szPutS_l2 with
  | 0 => none
  | k_laws_szPutS_l2 + 1 => bif decide (x4 < ((p0.length : Int))) then ((idx p0 x4).bind fun y7 => (laws_szPut u y7 x3).bind fun r8 => bif decide (r8 < 0) then (some (-1)) else ((fun z0 z1 z2 => laws_szPutS_l2 u k_laws_szPutS_l2 z0 z1 z2) p0 r8 (bAdd .i64 x4 1))) else (laws_szPutS_j1 u x3)
def laws_szPutS (u : Nat) (p0 : List Put) (p1 : Int) : Option Int :=
  bif decide ((bSub .i64 p1 ((p0.length : Int))) < 0) then (some (-1)) else (laws_szPutS_l2 u u p0 (bSub .i64 p1 ((p0.length : Int))) 0)
def laws_szPutS_l2_f (u : Nat) (p0 : List Put) (s : Int) : Option Int := (laws_szPutS_j1 u s)
def laws_szPutS_l2_b (u : Nat) (p0 : List Put) (y7 : Put) (i_ : Nat) (s : Int) (k_ : Int → Option Int) : Option Int := (laws_szPut u y7 s).bind fun r8 => bif decide (r8 < 0) then (some (-1)) else ((fun z0 z1 z2 => k_ z1) p0 r8 (bAdd .i64 (i_ : Int) 1))
theorem laws_szPutS_l2_w (u : Nat) (p0 : List Put) (s : Int) (k : Nat) (hn : p0.length ≤ 9223372036854775807) (hk : p0.length < k) : laws_szPutS_l2 u k p0 s 0 = Pu.wlist (laws_szPutS_l2_f u p0) (laws_szPutS_l2_b u p0) p0 0 s := Pu.wlist_0 (fun (k : Nat) (s : Int) (i : Int) => laws_szPutS_l2 u k p0 s i) hn (fun _ _ _ => rfl) s hk
def laws_szDisk (u : Nat) (p0 : Disk) (p1 : Int) : Option Int :=
  (laws_szByteS u p0.fA p1).bind fun r1 => bif decide (r1 < 0) then (some (-1)) else ((laws_szByteS u p0.fB r1).bind fun r2 => bif decide (r2 < 0) then (some (-1)) else ((laws_szPutS u p0.fP r2).bind fun r3 => bif decide (r3 < 0) then (some (-1)) else (some r3)))
def laws_szDiskS_j1 (u : Nat) (x9 : Int) : Option Int :=
  some x9
def laws_szDiskS_l2 (u : Nat) (k_laws_szDiskS_l2 : Nat) (p0 : List Disk) (x3 : Int) (x4 : Int) : Option Int := match k_laws_szDiskS_l2 with
  | 0 => none
  | k_laws_szDiskS_l2 + 1 => bif decide (x4 < ((p0.length : Int))) then ((idx p0 x4).bind fun y7 => (laws_szDisk u y7 x3).bind fun r8 => bif decide (r8 < 0) then (some (-1)) else ((fun z0 z1 z2 => laws_szDiskS_l2 u k_laws_szDiskS_l2 z0 z1 z2) p0 r8 (bAdd .i64 x4 1))) else (laws_szDiskS_j1 u x3)
def laws_szDiskS (u : Nat) (p0 : List Disk) (p1 : Int) : Option Int :=
  bif decide ((bSub .i64 p1 ((p0.length : Int))) < 0) then (some (-1)) else (laws_szDiskS_l2 u u p0 (bSub .i64 p1 ((p0.length : Int))) 0)
def laws_szDiskS_l2_f (u : Nat) (p0 : List Disk) (s : Int) : Option Int := (laws_szDiskS_j1 u s)
def laws_szDiskS_l2_b (u : Nat) (p0 : List Disk) (y7 : Disk) (i_ : Nat) (s : Int) (k_ : Int → Option Int) : Option Int := (laws_szDisk u y7 s).bind fun r8 => bif decide (r8 < 0) then (some (-1)) else ((fun z0 z1 z2 => k_ z1) p0 r8 (bAdd .i64 (i_ : Int) 1))
theorem laws_szDiskS_l2_w (u : Nat) (p0 : List Disk) (s : Int) (k : Nat) (hn : p0.length ≤ 9223372036854775807) (hk : p0.length < k) : laws_szDiskS_l2 u k p0 s 0 = Pu.wlist (laws_szDiskS_l2_f u p0) (laws_szDiskS_l2_b u p0) p0 0 s := Pu.wlist_0 (fun (k : Nat) (s : Int) (i : Int) => laws_szDiskS_l2 u k p0 s i) hn (fun _ _ _ => rfl) s hk
def laws_szPacket (u : Nat) (p0 : Packet) (p1 : Int) : Option Int :=
  (laws_szByteS u p0.fB p1).bind fun r1 => bif decide (r1 < 0) then (some (-1)) else (some r1)
def laws_szPacketS_j1 (u : Nat) (x9 : Int) : Option Int :=
  some x9
def laws_szPacketS_l2 (u : Nat) (k_laws_szPacketS_l2 : Nat) (p0 : List Packet) (x3 : Int) (x4 : Int) : Option Int := match k_laws_szPacketS_l2 with
  | 0 => none
  | k_laws_szPacketS_l2 + 1 => bif decide (x4 < ((p0.length : Int))) then ((idx p0 x4).bind fun y7 => (laws_szPacket u y7 x3).bind fun r8 => bif decide (r8 < 0) then (some (-1)) else ((fun z0 z1 z2 => laws_szPacketS_l2 u k_laws_szPacketS_l2 z0 z1 z2) p0 r8 (bAdd .i64 x4 1))) else (laws_szPacketS_j1 u x3)
def laws_szPacketS (u : Nat) (p0 : List Packet) (p1 : Int) : Option Int :=
  bif decide ((bSub .i64 p1 ((p0.length : Int))) < 0) then (some (-1)) else (laws_szPacketS_l2 u u p0 (bSub .i64 p1 ((p0.length : Int))) 0)
def laws_szPacketS_l2_f (u : Nat) (p0 : List Packet) (s : Int) : Option Int := (laws_szPacketS_j1 u s)
def laws_szPacketS_l2_b (u : Nat) (p0 : List Packet) (y7 : Packet) (i_ : Nat) (s : Int) (k_ : Int → Option Int) : Option Int := (laws_szPacket u y7 s).bind fun r8 => bif decide (r8 < 0) then (some (-1)) else ((fun z0 z1 z2 => k_ z1) p0 r8 (bAdd .i64 (i_ : Int) 1))
theorem laws_szPacketS_l2_w (u : Nat) (p0 : List Packet) (s : Int) (k : Nat) (hn : p0.length ≤ 9223372036854775807) (hk : p0.length < k) : laws_szPacketS_l2 u k p0 s 0 = Pu.wlist (laws_szPacketS_l2_f u p0) (laws_szPacketS_l2_b u p0) p0 0 s := Pu.wlist_0 (fun (k : Nat) (s : Int) (i : Int) => laws_szPacketS_l2 u k p0 s i) hn (fun _ _ _ => rfl) s hk
def laws_szSentS (u : Nat) (p0 : List Sent) (p1 : Int) : Option Int :=
  bif decide ((bSub .i64 p1 ((p0.length : Int))) < 0) then (some (-1)) else (some (bSub .i64 p1 ((p0.length : Int))))
def laws_szWorld (u : Nat) (p0 : World) (p1 : Int) : Option Int :=
  (laws_szTree u p0.fT p1).bind fun r1 => bif decide (r1 < 0) then (some (-1)) else ((laws_szByteS u p0.fNew r1).bind fun r2 => bif decide (r2 < 0) then (some (-1)) else ((laws_szImageS u p0.fOld r2).bind fun r3 => bif decide (r3 < 0) then (some (-1)) else ((laws_szNodeS u p0.fN r3).bind fun r4 => bif decide (r4 < 0) then (some (-1)) else ((laws_szDiskS u p0.fD r4).bind fun r5 => bif decide (r5 < 0) then (some (-1)) else ((laws_szPacketS u p0.fNet r5).bind fun r6 => bif decide (r6 < 0) then (some (-1)) else ((laws_szSentS u p0.fLog r6).bind fun r7 => bif decide (r7 < 0) then (some (-1)) else (some r7)))))))
def laws_toConf (u : Nat) (p0 : Conf) : Option Conf :=
  some p0
def laws_toIntS_j1 (u : Nat) (x11 : List Int) : Option ((List Int)) :=
  some x11
def laws_toIntS_l2 (u : Nat) (k_laws_toIntS_l2 : Nat) (p0 : List Int) (x5 : List Int) (x6 : Int) : Option ((List Int)) := match k_laws_toIntS_l2 with
  | 0 => none
  | k_laws_toIntS_l2 + 1 => bif decide (x6 < ((p0.length : Int))) then ((idx p0 x6).bind fun y9 => (idx x5 x6).bind fun y10 => (fun z0 z1 z2 => laws_toIntS_l2 u k_laws_toIntS_l2 z0 z1 z2) p0 (x5.set (Int.toNat x6) y9) (bAdd .i64 x6 1)) else (laws_toIntS_j1 u x5)
def laws_toIntS (u : Nat) (p0 : List Int) : Option ((List Int)) :=
  (chk (decide (0 ≤ ((p0.length : Int))) && (((p0.length : Int)) == 0 || ((p0.length : Int)) == ((p0.length : Int))))).bind fun _ => (chk (decide (Int.toNat ((p0.length : Int)) * 8 ≤ 140737488355328))).bind fun _ => laws_toIntS_l2 u u p0 (List.replicate (Int.toNat ((p0.length : Int))) (0 : Int)) 0
def laws_toIntS_l2_f (u : Nat) (p0 : List Int) (s : (List Int)) : Option ((List Int)) := (laws_toIntS_j1 u s)
def laws_toIntS_l2_b (u : Nat) (p0 : List Int) (y9 : Int) (i_ : Nat) (s : (List Int)) (k_ : ((List Int)) → Option ((List Int))) : Option ((List Int)) := (idx s (i_ : Int)).bind fun y10 => (fun z0 z1 z2 => k_ z1) p0 (s.set (Int.toNat (i_ : Int)) y9) (bAdd .i64 (i_ : Int) 1)
theorem laws_toIntS_l2_w (u : Nat) (p0 : List Int) (s : (List Int)) (k : Nat) (hn : p0.length ≤ 9223372036854775807) (hk : p0.length < k) : laws_toIntS_l2 u k p0 s 0 = Pu.wlist (laws_toIntS_l2_f u p0) (laws_toIntS_l2_b u p0) p0 0 s := Pu.wlist_0 (fun (k : Nat) (s : (List Int)) (i : Int) => laws_toIntS_l2 u k p0 s i) hn (fun _ _ _ => rfl) s hk
def laws_toTree (u : Nat) (p0 : Tree) : Option Tree :=
  (laws_toIntS u p0.fUp).bind fun r1 => some ((Tree.mk r1))
def laws_toByteS_j1 (u : Nat) (x11 : List Int) : Option ((List Int)) :=
  some x11
def laws_toByteS_l2 (u : Nat) (k_laws_toByteS_l2 : Nat) (p0 : List Int) (x5 : List Int) (x6 : Int) : Option ((List Int)) := match k_laws_toByteS_l2 with
  | 0 => none
  | k_laws_toByteS_l2 + 1 => bif decide (x6 < ((p0.length : Int))) then ((idx p0 x6).bind fun y9 => (idx x5 x6).bind fun y10 => (fun z0 z1 z2 => laws_toByteS_l2 u k_laws_toByteS_l2 z0 z1 z2) p0 (x5.set (Int.toNat x6) y9) (bAdd .i64 x6 1)) else (laws_toByteS_j1 u x5)
def laws_toByteS (u : Nat) (p0 : List Int) : Option ((List Int)) :=
  (chk (decide (0 ≤ ((p0.length : Int))) && (((p0.length : Int)) == 0 || ((p0.length : Int)) == ((p0.length : Int))))).bind fun _ => (chk (decide (Int.toNat ((p0.length : Int)) * 1 ≤ 140737488355328))).bind fun _ => laws_toByteS_l2 u u p0 (List.replicate (Int.toNat ((p0.length : Int))) (0 : Int)) 0
def laws_toByteS_l2_f (u : Nat) (p0 : List Int) (s : (List Int)) : Option ((List Int)) := (laws_toByteS_j1 u s)
def laws_toByteS_l2_b (u : Nat) (p0 : List Int) (y9 : Int) (i_ : Nat) (s : (List Int)) (k_ : ((List Int)) → Option ((List Int))) : Option ((List Int)) := (idx s (i_ : Int)).bind fun y10 => (fun z0 z1 z2 => k_ z1) p0 (s.set (Int.toNat (i_ : Int)) y9) (bAdd .i64 (i_ : Int) 1)
theorem laws_toByteS_l2_w (u : Nat) (p0 : List Int) (s : (List Int)) (k : Nat) (hn : p0.length ≤ 9223372036854775807) (hk : p0.length < k) : laws_toByteS_l2 u k p0 s 0 = Pu.wlist (laws_toByteS_l2_f u p0) (laws_toByteS_l2_b u p0) p0 0 s := Pu.wlist_0 (fun (k : Nat) (s : (List Int)) (i : Int) => laws_toByteS_l2 u k p0 s i) hn (fun _ _ _ => rfl) s hk
def laws_toImage (u : Nat) (p0 : Image) : Option Image :=
  (laws_toByteS u p0.fB).bind fun r1 => some ((Image.mk r1))
def laws_toImageS_j1 (u : Nat) (x12 : List Image) : Option ((List Image)) :=
  some x12
def laws_toImageS_l2 (u : Nat) (k_laws_toImageS_l2 : Nat) (p0 : List Image) (x5 : List Image) (x6 : Int) : Option ((List Image)) := match k_laws_toImageS_l2 with
  | 0 => none
  | k_laws_toImageS_l2 + 1 => bif decide (x6 < ((p0.length : Int))) then ((idx p0 x6).bind fun y9 => (laws_toImage u y9).bind fun r10 => (idx x5 x6).bind fun y11 => (fun z0 z1 z2 => laws_toImageS_l2 u k_laws_toImageS_l2 z0 z1 z2) p0 (x5.set (Int.toNat x6) r10) (bAdd .i64 x6 1)) else (laws_toImageS_j1 u x5)
def laws_toImageS (u : Nat) (p0 : List Image) : Option ((List Image)) :=
  (chk (decide (0 ≤ ((p0.length : Int))) && (((p0.length : Int)) == 0 || ((p0.length : Int)) == ((p0.length : Int))))).bind fun _ => (chk (decide (Int.toNat ((p0.length : Int)) * 24 ≤ 140737488355328))).bind fun _ => laws_toImageS_l2 u u p0 (List.replicate (Int.toNat ((p0.length : Int))) ((Image.mk ([])) : Image)) 0
def laws_toImageS_l2_f (u : Nat) (p0 : List Image) (s : (List Image)) : Option ((List Image)) := (laws_toImageS_j1 u s)
def laws_toImageS_l2_b (u : Nat) (p0 : List Image) (y9 : Image) (i_ : Nat) (s : (List Image)) (k_ : ((List Image)) → Option ((List Image))) : Option ((List Image)) := (laws_toImage u y9).bind fun r10 => (idx s (i_ : Int)).bind fun y11 => (fun z0 z1 z2 => k_ z1) p0 (s.set (Int.toNat (i_ : Int)) r10) (bAdd .i64 (i_ : Int) 1)
theorem laws_toImageS_l2_w (u : Nat) (p0 : List Image) (s : (List Image)) (k : Nat) (hn : p0.length ≤ 9223372036854775807) (hk : p0.length < k) : laws_toImageS_l2 u k p0 s 0 = Pu.wlist (laws_toImageS_l2_f u p0) (laws_toImageS_l2_b u p0) p0 0 s := Pu.wlist_0 (fun (k : Nat) (s : (List Image)) (i : Int) => laws_toImageS_l2 u k p0 s i) hn (fun _ _ _ => rfl) s hk
def laws_toSum (u : Nat) (p0 : Sum) : Option Sum :=
  some p0
def laws_toSumS_j1 (u : Nat) (x12 : List Sum) : Option ((List Sum)) :=
  some x12
def laws_toSumS_l2 (u : Nat) (k_laws_toSumS_l2 : Nat) (p0 : List Sum) (x5 : List Sum) (x6 : Int) : Option ((List Sum)) := match k_laws_toSumS_l2 with
  | 0 => none
  | k_laws_toSumS_l2 + 1 => bif decide (x6 < ((p0.length : Int))) then ((idx p0 x6).bind fun y9 => (laws_toSum u y9).bind fun r10 => (idx x5 x6).bind fun y11 => (fun z0 z1 z2 => laws_toSumS_l2 u k_laws_toSumS_l2 z0 z1 z2) p0 (x5.set (Int.toNat x6) r10) (bAdd .i64 x6 1)) else (laws_toSumS_j1 u x5)
def laws_toSumS (u : Nat) (p0 : List Sum) : Option ((List Sum)) :=
  (chk (decide (0 ≤ ((p0.length : Int))) && (((p0.length : Int)) == 0 || ((p0.length : Int)) == ((p0.length : Int))))).bind fun _ => (chk (decide (Int.toNat ((p0.length : Int)) * 16 ≤ 140737488355328))).bind fun _ => laws_toSumS_l2 u u p0 (List.replicate (Int.toNat ((p0.length : Int))) ((Sum.mk 0 0) : Sum)) 0
def laws_toSumS_l2_f (u : Nat) (p0 : List Sum) (s : (List Sum)) : Option ((List Sum)) := (laws_toSumS_j1 u s)
def laws_toSumS_l2_b (u : Nat) (p0 : List Sum) (y9 : Sum) (i_ : Nat) (s : (List Sum)) (k_ : ((List Sum)) → Option ((List Sum))) : Option ((List Sum)) := (laws_toSum u y9).bind fun r10 => (idx s (i_ : Int)).bind fun y11 => (fun z0 z1 z2 => k_ z1) p0 (s.set (Int.toNat (i_ : Int)) r10) (bAdd .i64 (i_ : Int) 1)
theorem laws_toSumS_l2_w (u : Nat) (p0 : List Sum) (s : (List Sum)) (k : Nat) (hn : p0.length ≤ 9223372036854775807) (hk : p0.length < k) : laws_toSumS_l2 u k p0 s 0 = Pu.wlist (laws_toSumS_l2_f u p0) (laws_toSumS_l2_b u p0) p0 0 s := Pu.wlist_0 (fun (k : Nat) (s : (List Sum)) (i : Int) => laws_toSumS_l2 u k p0 s i) hn (fun _ _ _ => rfl) s hk
def laws_toManifest (u : Nat) (p0 : Manifest) : Option Manifest :=
  (laws_toSumS u p0.fSums).bind fun r1 => some ((Manifest.mk p0.fGen p0.fSize p0.fLen r1))
def laws_toBuild (u : Nat) (p0 : Build) : Option Build :=
  (laws_toByteS u p0.fBuf).bind fun r1 => some ((Build.mk p0.fHave r1))
def laws_toKid (u : Nat) (p0 : Kid) : Option Kid :=
  some p0
def laws_toKidS_j1 (u : Nat) (x12 : List Kid) : Option ((List Kid)) :=
  some x12
def laws_toKidS_l2 (u : Nat) (k_laws_toKidS_l2 : Nat) (p0 : List Kid) (x5 : List Kid) (x6 : Int) : Option ((List Kid)) := match k_laws_toKidS_l2 with
  | 0 => none
  | k_laws_toKidS_l2 + 1 => bif decide (x6 < ((p0.length : Int))) then ((idx p0 x6).bind fun y9 => (laws_toKid u y9).bind fun r10 => (idx x5 x6).bind fun y11 => (fun z0 z1 z2 => laws_toKidS_l2 u k_laws_toKidS_l2 z0 z1 z2) p0 (x5.set (Int.toNat x6) r10) (bAdd .i64 x6 1)) else (laws_toKidS_j1 u x5)
def laws_toKidS (u : Nat) (p0 : List Kid) : Option ((List Kid)) :=
  (chk (decide (0 ≤ ((p0.length : Int))) && (((p0.length : Int)) == 0 || ((p0.length : Int)) == ((p0.length : Int))))).bind fun _ => (chk (decide (Int.toNat ((p0.length : Int)) * 40 ≤ 140737488355328))).bind fun _ => laws_toKidS_l2 u u p0 (List.replicate (Int.toNat ((p0.length : Int))) ((Kid.mk 0 0 0 0 0) : Kid)) 0
def laws_toKidS_l2_f (u : Nat) (p0 : List Kid) (s : (List Kid)) : Option ((List Kid)) := (laws_toKidS_j1 u s)
def laws_toKidS_l2_b (u : Nat) (p0 : List Kid) (y9 : Kid) (i_ : Nat) (s : (List Kid)) (k_ : ((List Kid)) → Option ((List Kid))) : Option ((List Kid)) := (laws_toKid u y9).bind fun r10 => (idx s (i_ : Int)).bind fun y11 => (fun z0 z1 z2 => k_ z1) p0 (s.set (Int.toNat (i_ : Int)) r10) (bAdd .i64 (i_ : Int) 1)
theorem laws_toKidS_l2_w (u : Nat) (p0 : List Kid) (s : (List Kid)) (k : Nat) (hn : p0.length ≤ 9223372036854775807) (hk : p0.length < k) : laws_toKidS_l2 u k p0 s 0 = Pu.wlist (laws_toKidS_l2_f u p0) (laws_toKidS_l2_b u p0) p0 0 s := Pu.wlist_0 (fun (k : Nat) (s : (List Kid)) (i : Int) => laws_toKidS_l2 u k p0 s i) hn (fun _ _ _ => rfl) s hk
def laws_toNode (u : Nat) (p0 : Node) : Option Node :=
  (laws_toManifest u p0.fMan).bind fun r1 => (laws_toBuild u p0.fBld).bind fun r2 => (laws_toKidS u p0.fKids).bind fun r3 => some ((Node.mk p0.fOn p0.fBoss p0.fQuiet r1 r2 p0.fPhase r3 p0.fDrops))
def laws_toNodeS_j1 (u : Nat) (x12 : List Node) : Option ((List Node)) :=
  some x12
def laws_toNodeS_l2 (u : Nat) (k_laws_toNodeS_l2 : Nat) (p0 : List Node) (x5 : List Node) (x6 : Int) : Option ((List Node)) := match k_laws_toNodeS_l2 with
  | 0 => none
  | k_laws_toNodeS_l2 + 1 => bif decide (x6 < ((p0.length : Int))) then ((idx p0 x6).bind fun y9 => (laws_toNode u y9).bind fun r10 => (idx x5 x6).bind fun y11 => (fun z0 z1 z2 => laws_toNodeS_l2 u k_laws_toNodeS_l2 z0 z1 z2) p0 (x5.set (Int.toNat x6) r10) (bAdd .i64 x6 1)) else (laws_toNodeS_j1 u x5)
def laws_toNodeS (u : Nat) (p0 : List Node) : Option ((List Node)) :=
  (chk (decide (0 ≤ ((p0.length : Int))) && (((p0.length : Int)) == 0 || ((p0.length : Int)) == ((p0.length : Int))))).bind fun _ => (chk (decide (Int.toNat ((p0.length : Int)) * 144 ≤ 140737488355328))).bind fun _ => laws_toNodeS_l2 u u p0 (List.replicate (Int.toNat ((p0.length : Int))) ((Node.mk false 0 0 ((Manifest.mk 0 0 0 ([]))) ((Build.mk 0 ([]))) 0 ([]) 0) : Node)) 0
def laws_toNodeS_l2_f (u : Nat) (p0 : List Node) (s : (List Node)) : Option ((List Node)) := (laws_toNodeS_j1 u s)
def laws_toNodeS_l2_b (u : Nat) (p0 : List Node) (y9 : Node) (i_ : Nat) (s : (List Node)) (k_ : ((List Node)) → Option ((List Node))) : Option ((List Node)) := (laws_toNode u y9).bind fun r10 => (idx s (i_ : Int)).bind fun y11 => (fun z0 z1 z2 => k_ z1) p0 (s.set (Int.toNat (i_ : Int)) r10) (bAdd .i64 (i_ : Int) 1)
theorem laws_toNodeS_l2_w (u : Nat) (p0 : List Node) (s : (List Node)) (k : Nat) (hn : p0.length ≤ 9223372036854775807) (hk : p0.length < k) : laws_toNodeS_l2 u k p0 s 0 = Pu.wlist (laws_toNodeS_l2_f u p0) (laws_toNodeS_l2_b u p0) p0 0 s := Pu.wlist_0 (fun (k : Nat) (s : (List Node)) (i : Int) => laws_toNodeS_l2 u k p0 s i) hn (fun _ _ _ => rfl) s hk
def laws_toRecord (u : Nat) (p0 : Record) : Option Record :=
  some p0
def laws_toPut (u : Nat) (p0 : Put) : Option Put :=
  (laws_toByteS u p0.fB).bind fun r1 => (laws_toRecord u p0.fR).bind fun r2 => some ((Put.mk p0.fWhat p0.fAt r1 r2))
def laws_toPutS_j1 (u : Nat) (x12 : List Put) : Option ((List Put)) :=
  some x12
def laws_toPutS_l2 (u : Nat) (k_laws_toPutS_l2 : Nat) (p0 : List Put) (x5 : List Put) (x6 : Int) : Option ((List Put)) := match k_laws_toPutS_l2 with
  | 0 => none
  | k_laws_toPutS_l2 + 1 => bif decide (x6 < ((p0.length : Int))) then ((idx p0 x6).bind fun y9 => (laws_toPut u y9).bind fun r10 => (idx x5 x6).bind fun y11 => (fun z0 z1 z2 => laws_toPutS_l2 u k_laws_toPutS_l2 z0 z1 z2) p0 (x5.set (Int.toNat x6) r10) (bAdd .i64 x6 1)) else (laws_toPutS_j1 u x5)
def laws_toPutS (u : Nat) (p0 : List Put) : Option ((List Put)) :=
  (chk (decide (0 ≤ ((p0.length : Int))) && (((p0.length : Int)) == 0 || ((p0.length : Int)) == ((p0.length : Int))))).bind fun _ => (chk (decide (Int.toNat ((p0.length : Int)) * 64 ≤ 140737488355328))).bind fun _ => laws_toPutS_l2 u u p0 (List.replicate (Int.toNat ((p0.length : Int))) ((Put.mk 0 0 ([]) ((Record.mk 0 0 0))) : Put)) 0
def laws_toPutS_l2_f (u : Nat) (p0 : List Put) (s : (List Put)) : Option ((List Put)) := (laws_toPutS_j1 u s)
def laws_toPutS_l2_b (u : Nat) (p0 : List Put) (y9 : Put) (i_ : Nat) (s : (List Put)) (k_ : ((List Put)) → Option ((List Put))) : Option ((List Put)) := (laws_toPut u y9).bind fun r10 => (idx s (i_ : Int)).bind fun y11 => (fun z0 z1 z2 => k_ z1) p0 (s.set (Int.toNat (i_ : Int)) r10) (bAdd .i64 (i_ : Int) 1)
theorem laws_toPutS_l2_w (u : Nat) (p0 : List Put) (s : (List Put)) (k : Nat) (hn : p0.length ≤ 9223372036854775807) (hk : p0.length < k) : laws_toPutS_l2 u k p0 s 0 = Pu.wlist (laws_toPutS_l2_f u p0) (laws_toPutS_l2_b u p0) p0 0 s := Pu.wlist_0 (fun (k : Nat) (s : (List Put)) (i : Int) => laws_toPutS_l2 u k p0 s i) hn (fun _ _ _ => rfl) s hk
def laws_toDisk (u : Nat) (p0 : Disk) : Option Disk :=
  (laws_toByteS u p0.fA).bind fun r1 => (laws_toByteS u p0.fB).bind fun r2 => (laws_toRecord u p0.fR).bind fun r3 => (laws_toPutS u p0.fP).bind fun r4 => some ((Disk.mk r1 r2 r3 r4))
def laws_toDiskS_j1 (u : Nat) (x12 : List Disk) : Option ((List Disk)) :=
  some x12
def laws_toDiskS_l2 (u : Nat) (k_laws_toDiskS_l2 : Nat) (p0 : List Disk) (x5 : List Disk) (x6 : Int) : Option ((List Disk)) := match k_laws_toDiskS_l2 with
  | 0 => none
  | k_laws_toDiskS_l2 + 1 => bif decide (x6 < ((p0.length : Int))) then ((idx p0 x6).bind fun y9 => (laws_toDisk u y9).bind fun r10 => (idx x5 x6).bind fun y11 => (fun z0 z1 z2 => laws_toDiskS_l2 u k_laws_toDiskS_l2 z0 z1 z2) p0 (x5.set (Int.toNat x6) r10) (bAdd .i64 x6 1)) else (laws_toDiskS_j1 u x5)
def laws_toDiskS (u : Nat) (p0 : List Disk) : Option ((List Disk)) :=
  (chk (decide (0 ≤ ((p0.length : Int))) && (((p0.length : Int)) == 0 || ((p0.length : Int)) == ((p0.length : Int))))).bind fun _ => (chk (decide (Int.toNat ((p0.length : Int)) * 96 ≤ 140737488355328))).bind fun _ => laws_toDiskS_l2 u u p0 (List.replicate (Int.toNat ((p0.length : Int))) ((Disk.mk ([]) ([]) ((Record.mk 0 0 0)) ([])) : Disk)) 0
def laws_toDiskS_l2_f (u : Nat) (p0 : List Disk) (s : (List Disk)) : Option ((List Disk)) := (laws_toDiskS_j1 u s)
def laws_toDiskS_l2_b (u : Nat) (p0 : List Disk) (y9 : Disk) (i_ : Nat) (s : (List Disk)) (k_ : ((List Disk)) → Option ((List Disk))) : Option ((List Disk)) := (laws_toDisk u y9).bind fun r10 => (idx s (i_ : Int)).bind fun y11 => (fun z0 z1 z2 => k_ z1) p0 (s.set (Int.toNat (i_ : Int)) r10) (bAdd .i64 (i_ : Int) 1)
theorem laws_toDiskS_l2_w (u : Nat) (p0 : List Disk) (s : (List Disk)) (k : Nat) (hn : p0.length ≤ 9223372036854775807) (hk : p0.length < k) : laws_toDiskS_l2 u k p0 s 0 = Pu.wlist (laws_toDiskS_l2_f u p0) (laws_toDiskS_l2_b u p0) p0 0 s := Pu.wlist_0 (fun (k : Nat) (s : (List Disk)) (i : Int) => laws_toDiskS_l2 u k p0 s i) hn (fun _ _ _ => rfl) s hk
def laws_toPacket (u : Nat) (p0 : Packet) : Option Packet :=
  (laws_toByteS u p0.fB).bind fun r1 => some ((Packet.mk p0.fFrom p0.fTo r1))
def laws_toPacketS_j1 (u : Nat) (x12 : List Packet) : Option ((List Packet)) :=
  some x12
def laws_toPacketS_l2 (u : Nat) (k_laws_toPacketS_l2 : Nat) (p0 : List Packet) (x5 : List Packet) (x6 : Int) : Option ((List Packet)) := match k_laws_toPacketS_l2 with
  | 0 => none
  | k_laws_toPacketS_l2 + 1 => bif decide (x6 < ((p0.length : Int))) then ((idx p0 x6).bind fun y9 => (laws_toPacket u y9).bind fun r10 => (idx x5 x6).bind fun y11 => (fun z0 z1 z2 => laws_toPacketS_l2 u k_laws_toPacketS_l2 z0 z1 z2) p0 (x5.set (Int.toNat x6) r10) (bAdd .i64 x6 1)) else (laws_toPacketS_j1 u x5)
def laws_toPacketS (u : Nat) (p0 : List Packet) : Option ((List Packet)) :=
  (chk (decide (0 ≤ ((p0.length : Int))) && (((p0.length : Int)) == 0 || ((p0.length : Int)) == ((p0.length : Int))))).bind fun _ => (chk (decide (Int.toNat ((p0.length : Int)) * 40 ≤ 140737488355328))).bind fun _ => laws_toPacketS_l2 u u p0 (List.replicate (Int.toNat ((p0.length : Int))) ((Packet.mk 0 0 ([])) : Packet)) 0
def laws_toPacketS_l2_f (u : Nat) (p0 : List Packet) (s : (List Packet)) : Option ((List Packet)) := (laws_toPacketS_j1 u s)
def laws_toPacketS_l2_b (u : Nat) (p0 : List Packet) (y9 : Packet) (i_ : Nat) (s : (List Packet)) (k_ : ((List Packet)) → Option ((List Packet))) : Option ((List Packet)) := (laws_toPacket u y9).bind fun r10 => (idx s (i_ : Int)).bind fun y11 => (fun z0 z1 z2 => k_ z1) p0 (s.set (Int.toNat (i_ : Int)) r10) (bAdd .i64 (i_ : Int) 1)
theorem laws_toPacketS_l2_w (u : Nat) (p0 : List Packet) (s : (List Packet)) (k : Nat) (hn : p0.length ≤ 9223372036854775807) (hk : p0.length < k) : laws_toPacketS_l2 u k p0 s 0 = Pu.wlist (laws_toPacketS_l2_f u p0) (laws_toPacketS_l2_b u p0) p0 0 s := Pu.wlist_0 (fun (k : Nat) (s : (List Packet)) (i : Int) => laws_toPacketS_l2 u k p0 s i) hn (fun _ _ _ => rfl) s hk
def laws_toSent (u : Nat) (p0 : Sent) : Option Sent :=
  some p0
def laws_toSentS_j1 (u : Nat) (x12 : List Sent) : Option ((List Sent)) :=
  some x12
def laws_toSentS_l2 (u : Nat) (k_laws_toSentS_l2 : Nat) (p0 : List Sent) (x5 : List Sent) (x6 : Int) : Option ((List Sent)) := match k_laws_toSentS_l2 with
  | 0 => none
  | k_laws_toSentS_l2 + 1 => bif decide (x6 < ((p0.length : Int))) then ((idx p0 x6).bind fun y9 => (laws_toSent u y9).bind fun r10 => (idx x5 x6).bind fun y11 => (fun z0 z1 z2 => laws_toSentS_l2 u k_laws_toSentS_l2 z0 z1 z2) p0 (x5.set (Int.toNat x6) r10) (bAdd .i64 x6 1)) else (laws_toSentS_j1 u x5)
def laws_toSentS (u : Nat) (p0 : List Sent) : Option ((List Sent)) :=
  (chk (decide (0 ≤ ((p0.length : Int))) && (((p0.length : Int)) == 0 || ((p0.length : Int)) == ((p0.length : Int))))).bind fun _ => (chk (decide (Int.toNat ((p0.length : Int)) * 24 ≤ 140737488355328))).bind fun _ => laws_toSentS_l2 u u p0 (List.replicate (Int.toNat ((p0.length : Int))) ((Sent.mk 0 0 0) : Sent)) 0
def laws_toSentS_l2_f (u : Nat) (p0 : List Sent) (s : (List Sent)) : Option ((List Sent)) := (laws_toSentS_j1 u s)
def laws_toSentS_l2_b (u : Nat) (p0 : List Sent) (y9 : Sent) (i_ : Nat) (s : (List Sent)) (k_ : ((List Sent)) → Option ((List Sent))) : Option ((List Sent)) := (laws_toSent u y9).bind fun r10 => (idx s (i_ : Int)).bind fun y11 => (fun z0 z1 z2 => k_ z1) p0 (s.set (Int.toNat (i_ : Int)) r10) (bAdd .i64 (i_ : Int) 1)
theorem laws_toSentS_l2_w (u : Nat) (p0 : List Sent) (s : (List Sent)) (k : Nat) (hn : p0.length ≤ 9223372036854775807) (hk : p0.length < k) : laws_toSentS_l2 u k p0 s 0 = Pu.wlist (laws_toSentS_l2_f u p0) (laws_toSentS_l2_b u p0) p0 0 s := Pu.wlist_0 (fun (k : Nat) (s : (List Sent)) (i : Int) => laws_toSentS_l2 u k p0 s i) hn (fun _ _ _ => rfl) s hk
def laws_toWorld (u : Nat) (p0 : World) : Option World :=
  (laws_toConf u p0.fC).bind fun r1 => (laws_toTree u p0.fT).bind fun r2 => (laws_toByteS u p0.fNew).bind fun r3 => (laws_toImageS u p0.fOld).bind fun r4 => (laws_toNodeS u p0.fN).bind fun r5 => (laws_toDiskS u p0.fD).bind fun r6 => (laws_toPacketS u p0.fNet).bind fun r7 => (laws_toSentS u p0.fLog).bind fun r8 => some ((World.mk r1 r2 r3 r4 r5 r6 r7 r8 p0.fLost))
def spec_NumText_j1 (u : Nat) (p0 : Int) (x8 : ByteArray) : Option ByteArray :=
  bif decide (p0 < 0) then ((chk (decide (((ByteArray.mk #[45])).size + x8.size ≤ 9223372036854775807))).bind fun _ => some (((ByteArray.mk #[45])) ++ x8)) else (some x8)
def spec_NumText_j3 (u : Nat) (c_spec_NumText_l2 : Int → ByteArray → Int → Option ByteArray) (p0 : Int) (x3 : ByteArray) (x4 : Int) (x7 : Int) : Option ByteArray :=
  (chk (decide ((strOfNums ([IntKind.wrap .u8 (bAdd .i64 48 x7)])).size + x3.size ≤ 9223372036854775807))).bind fun _ => c_spec_NumText_l2 p0 ((strOfNums ([IntKind.wrap .u8 (bAdd .i64 48 x7)])) ++ x3) (bQuo .i64 x4 10)
def spec_NumText_l2 (u : Nat) (k_spec_NumText_l2 : Nat) (p0 : Int) (x3 : ByteArray) (x4 : Int) : Option ByteArray := match k_spec_NumText_l2 with
  | 0 => none
  | k_spec_NumText_l2 + 1 => bif x4 != 0 then (bif decide ((bRem .i64 x4 10) < 0) then (spec_NumText_j3 u (fun z0 z1 z2 => spec_NumText_l2 u k_spec_NumText_l2 z0 z1 z2) p0 x3 x4 (bSub .i64 0 (bRem .i64 x4 10))) else (spec_NumText_j3 u (fun z0 z1 z2 => spec_NumText_l2 u k_spec_NumText_l2 z0 z1 z2) p0 x3 x4 (bRem .i64 x4 10))) else (spec_NumText_j1 u p0 x3)
def spec_NumText (u : Nat) (p0 : Int) : Option ByteArray :=
  bif p0 == 0 then (some ((ByteArray.mk #[48]))) else (spec_NumText_l2 u u p0 ((ByteArray.mk #[])) p0)
def spec_GetVar_j1 (u : Nat)  : Option (Int × Int × Bool) :=
  some ((0, 0, false))
def spec_GetVar_j4 (u : Nat) (c_spec_GetVar_l2 : (List Int) → Int → Int → Int → Option (Int × Int × Bool)) (p0 : List Int) (p1 : Int) (x3 : Int) (y8 : Int) (x4 : Int) (x10 : Bool) : Option (Int × Int × Bool) :=
  bif x10 then (some ((0, 0, false))) else (some ((bOr .i64 x3 (bShl .i64 (bAnd .i64 (IntKind.wrap .i64 y8) 127) (bMul .i64 7 x4)), bAdd .i64 (bAdd .i64 p1 x4) 1, true)))
def spec_GetVar_j3 (u : Nat) (c_spec_GetVar_l2 : (List Int) → Int → Int → Int → Option (Int × Int × Bool)) (p0 : List Int) (p1 : Int) (x3 : Int) (x4 : Int) (x7 : Bool) : Option (Int × Int × Bool) :=
  bif x7 then (some ((0, 0, false))) else ((idx p0 (bAdd .i64 p1 x4)).bind fun y8 => (chk (decide (0 ≤ (bMul .i64 7 x4)))).bind fun _ => bif decide ((IntKind.wrap .i64 y8) < 128) then (bif (IntKind.wrap .i64 y8) == 0 then (bif decide (x4 > 0) then (spec_GetVar_j4 u c_spec_GetVar_l2 p0 p1 x3 y8 x4 true) else (spec_GetVar_j4 u c_spec_GetVar_l2 p0 p1 x3 y8 x4 (decide ((bOr .i64 x3 (bShl .i64 (bAnd .i64 (IntKind.wrap .i64 y8) 127) (bMul .i64 7 x4))) > 1000000000000)))) else (spec_GetVar_j4 u c_spec_GetVar_l2 p0 p1 x3 y8 x4 (decide ((bOr .i64 x3 (bShl .i64 (bAnd .i64 (IntKind.wrap .i64 y8) 127) (bMul .i64 7 x4))) > 1000000000000)))) else (c_spec_GetVar_l2 p0 p1 (bOr .i64 x3 (bShl .i64 (bAnd .i64 (IntKind.wrap .i64 y8) 127) (bMul .i64 7 x4))) (bAdd .i64 x4 1)))
def spec_GetVar_l2 (u : Nat) (k_spec_GetVar_l2 : Nat) (p0 : List Int) (p1 : Int) (x3 : Int) (x4 : Int) : Option (Int × Int × Bool) := match k_spec_GetVar_l2 with
  | 0 => none
  | k_spec_GetVar_l2 + 1 => bif decide (x4 < 6) then (bif decide (p1 < 0) then (spec_GetVar_j3 u (fun z0 z1 z2 z3 => spec_GetVar_l2 u k_spec_GetVar_l2 z0 z1 z2 z3) p0 p1 x3 x4 true) else (spec_GetVar_j3 u (fun z0 z1 z2 z3 => spec_GetVar_l2 u k_spec_GetVar_l2 z0 z1 z2 z3) p0 p1 x3 x4 (decide (p1 ≥ (bSub .i64 ((p0.length : Int)) x4))))) else (spec_GetVar_j1 u)
def spec_GetVar (u : Nat) (p0 : List Int) (p1 : Int) : Option (Int × Int × Bool) :=
  spec_GetVar_l2 u u p0 p1 0 0
def spec_GetVar_l2_f (u : Nat) (p0 : List Int) (p1 : Int) (s : Int) : Option (Int × Int × Bool) := (spec_GetVar_j1 u)
def spec_GetVar_l2_b (u : Nat) (p0 : List Int) (p1 : Int) (i_ : Nat) (s : Int) (k_ : Int → Option (Int × Int × Bool)) : Option (Int × Int × Bool) := bif decide (p1 < 0) then (spec_GetVar_j3 u (fun z0 z1 z2 z3 => k_ z2) p0 p1 s (i_ : Int) true) else (spec_GetVar_j3 u (fun z0 z1 z2 z3 => k_ z2) p0 p1 s (i_ : Int) (decide (p1 ≥ (bSub .i64 ((p0.length : Int)) (i_ : Int)))))
theorem spec_GetVar_l2_w (u : Nat) (p0 : List Int) (p1 : Int) (s : Int) (k : Nat) (hn : (6 : Int) ≤ 9223372036854775807) (hk : Int.toNat (6) < k) : spec_GetVar_l2 u k p0 p1 s 0 = Pu.walk (spec_GetVar_l2_f u p0 p1) (spec_GetVar_l2_b u p0 p1) (Int.toNat (6)) 0 s := Pu.walk_0 (fun (k : Nat) (s : Int) (i : Int) => spec_GetVar_l2 u k p0 p1 s i) hn (fun _ _ _ => rfl) s hk
def spec_l1In (u : Nat) (p0 : Int) (p1 : Int) (p2 : Int) : Option Bool :=
  bif decide (p0 ≥ p1) then (some (decide (p0 ≤ p2))) else (some false)
def spec_SizeOk (u : Nat) (p0 : Int) (p1 : Int) : Option Bool :=
  (spec_l1In u p0 2 6).bind fun r1 => bif r1 then ((spec_l1In u p1 0 (bMul .i64 p0 40)).bind fun r2 => some r2) else (some false)
def spec_CeilDiv_j1 (u : Nat) (p0 : Int) (p1 : Int) (x3 : Bool) : Option Int :=
  bif x3 then (some 0) else ((chk (!(p1 == 0))).bind fun _ => some (bQuo .i64 (bSub .i64 (bAdd .i64 p0 p1) 1) p1))
def spec_CeilDiv (u : Nat) (p0 : Int) (p1 : Int) : Option Int :=
  (spec_l1In u p0 0 1000000000000).bind fun r1 => bif !r1 then (spec_CeilDiv_j1 u p0 p1 true) else ((spec_l1In u p1 1 1000000000000).bind fun r2 => spec_CeilDiv_j1 u p0 p1 (!r2))
def spec_Blocks (u : Nat) (p0 : Int) (p1 : Int) : Option Int :=
  (spec_SizeOk u p0 p1).bind fun r1 => bif !r1 then (some 0) else ((spec_CeilDiv u p1 p0).bind fun r2 => some r2)
def spec_l6GetSum_j1 (u : Nat)  : Option (Int × Int × Bool) :=
  some ((0, 0, false))
def spec_l6GetSum_l2 (u : Nat) (k_spec_l6GetSum_l2 : Nat) (p0 : List Int) (p1 : Int) (x3 : Int) (x4 : Int) : Option (Int × Int × Bool) := match k_spec_l6GetSum_l2 with
  | 0 => none
  | k_spec_l6GetSum_l2 + 1 => bif decide (x4 < 8) then (bif decide (p1 ≥ (bSub .i64 ((p0.length : Int)) x4)) then (some ((0, 0, false))) else ((idx p0 (bAdd .i64 p1 x4)).bind fun y7 => (chk (decide (0 ≤ (bMul .i64 7 x4)))).bind fun _ => bif decide ((IntKind.wrap .i64 y7) < 128) then (bif decide ((IntKind.wrap .i64 y7) > 0) then (some ((bOr .i64 x3 (bShl .i64 (bAnd .i64 (IntKind.wrap .i64 y7) 127) (bMul .i64 7 x4)), bAdd .i64 (bAdd .i64 p1 x4) 1, true))) else (some ((bOr .i64 x3 (bShl .i64 (bAnd .i64 (IntKind.wrap .i64 y7) 127) (bMul .i64 7 x4)), bAdd .i64 (bAdd .i64 p1 x4) 1, x4 == 0)))) else ((fun z0 z1 z2 z3 => spec_l6GetSum_l2 u k_spec_l6GetSum_l2 z0 z1 z2 z3) p0 p1 (bOr .i64 x3 (bShl .i64 (bAnd .i64 (IntKind.wrap .i64 y7) 127) (bMul .i64 7 x4))) (bAdd .i64 x4 1)))) else (spec_l6GetSum_j1 u)
def spec_l6GetSum (u : Nat) (p0 : List Int) (p1 : Int) : Option (Int × Int × Bool) :=
  spec_l6GetSum_l2 u u p0 p1 0 0
def spec_l6GetSum_l2_f (u : Nat) (p0 : List Int) (p1 : Int) (s : Int) : Option (Int × Int × Bool) := (spec_l6GetSum_j1 u)
def spec_l6GetSum_l2_b (u : Nat) (p0 : List Int) (p1 : Int) (i_ : Nat) (s : Int) (k_ : Int → Option (Int × Int × Bool)) : Option (Int × Int × Bool) := bif decide (p1 ≥ (bSub .i64 ((p0.length : Int)) (i_ : Int))) then (some ((0, 0, false))) else ((idx p0 (bAdd .i64 p1 (i_ : Int))).bind fun y7 => (chk (decide (0 ≤ (bMul .i64 7 (i_ : Int))))).bind fun _ => bif decide ((IntKind.wrap .i64 y7) < 128) then (bif decide ((IntKind.wrap .i64 y7) > 0) then (some ((bOr .i64 s (bShl .i64 (bAnd .i64 (IntKind.wrap .i64 y7) 127) (bMul .i64 7 (i_ : Int))), bAdd .i64 (bAdd .i64 p1 (i_ : Int)) 1, true))) else (some ((bOr .i64 s (bShl .i64 (bAnd .i64 (IntKind.wrap .i64 y7) 127) (bMul .i64 7 (i_ : Int))), bAdd .i64 (bAdd .i64 p1 (i_ : Int)) 1, (i_ : Int) == 0)))) else ((fun z0 z1 z2 z3 => k_ z2) p0 p1 (bOr .i64 s (bShl .i64 (bAnd .i64 (IntKind.wrap .i64 y7) 127) (bMul .i64 7 (i_ : Int)))) (bAdd .i64 (i_ : Int) 1)))
theorem spec_l6GetSum_l2_w (u : Nat) (p0 : List Int) (p1 : Int) (s : Int) (k : Nat) (hn : (8 : Int) ≤ 9223372036854775807) (hk : Int.toNat (8) < k) : spec_l6GetSum_l2 u k p0 p1 s 0 = Pu.walk (spec_l6GetSum_l2_f u p0 p1) (spec_l6GetSum_l2_b u p0 p1) (Int.toNat (8)) 0 s := Pu.walk_0 (fun (k : Nat) (s : Int) (i : Int) => spec_l6GetSum_l2 u k p0 p1 s i) hn (fun _ _ _ => rfl) s hk
def spec_BytesOf_j1 (u : Nat) (x8 : List Int) : Option ((List Int) × Bool) :=
  some ((x8, true))
def spec_BytesOf_l2 (u : Nat) (k_spec_BytesOf_l2 : Nat) (x4 : Int) (x5 : List Int) : Option ((List Int) × Bool) := match k_spec_BytesOf_l2 with
  | 0 => none
  | k_spec_BytesOf_l2 + 1 => bif decide (x4 > 1) then (bif decide (x4 < 256) then (some ((([] : List Int), false))) else ((chk (decide ((([IntKind.wrap .u8 (bAnd .i64 x4 255)]).length + x5.length) * 1 ≤ 140737488355328))).bind fun _ => (fun z0 z1 => spec_BytesOf_l2 u k_spec_BytesOf_l2 z0 z1) (bShr .i64 x4 8) (([IntKind.wrap .u8 (bAnd .i64 x4 255)]) ++ x5))) else (spec_BytesOf_j1 u x5)
def spec_BytesOf (u : Nat) (p0 : Int) : Option ((List Int) × Bool) :=
  (spec_l1In u p0 1 562949953421311).bind fun r1 => bif !r1 then (some ((([] : List Int), false))) else (spec_BytesOf_l2 u u p0 (([] : List Int)))
def spec_WeakOf_j1 (u : Nat) (x11 : Int) (x12 : Int) : Option Int :=
  some (bAdd .i64 x11 (bMul .i64 251 x12))
def spec_WeakOf_l2 (u : Nat) (k_spec_WeakOf_l2 : Nat) (p0 : List Int) (x4 : Int) (x5 : Int) (x6 : Int) : Option Int := match k_spec_WeakOf_l2 with
  | 0 => none
  | k_spec_WeakOf_l2 + 1 => bif decide (x6 < ((p0.length : Int))) then ((idx p0 x6).bind fun y10 => (fun z0 z1 z2 z3 => spec_WeakOf_l2 u k_spec_WeakOf_l2 z0 z1 z2 z3) p0 (bRem .i64 (bAdd .i64 x4 (IntKind.wrap .i64 y10)) 251) (bRem .i64 (bAdd .i64 x5 (bRem .i64 (bAdd .i64 x4 (IntKind.wrap .i64 y10)) 251)) 251) (bAdd .i64 x6 1)) else (spec_WeakOf_j1 u x4 x5)
def spec_WeakOf (u : Nat) (p0 : List Int) : Option Int :=
  spec_WeakOf_l2 u u p0 0 0 0
def spec_WeakOf_l2_f (u : Nat) (p0 : List Int) (s : Int × Int) : Option Int := (spec_WeakOf_j1 u s.1 s.2)
def spec_WeakOf_l2_b (u : Nat) (p0 : List Int) (y10 : Int) (i_ : Nat) (s : Int × Int) (k_ : (Int × Int) → Option Int) : Option Int := (fun z0 z1 z2 z3 => k_ (z1, z2)) p0 (bRem .i64 (bAdd .i64 s.1 (IntKind.wrap .i64 y10)) 251) (bRem .i64 (bAdd .i64 s.2 (bRem .i64 (bAdd .i64 s.1 (IntKind.wrap .i64 y10)) 251)) 251) (bAdd .i64 (i_ : Int) 1)
theorem spec_WeakOf_l2_w (u : Nat) (p0 : List Int) (s : Int × Int) (k : Nat) (hn : p0.length ≤ 9223372036854775807) (hk : p0.length < k) : spec_WeakOf_l2 u k p0 s.1 s.2 0 = Pu.wlist (spec_WeakOf_l2_f u p0) (spec_WeakOf_l2_b u p0) p0 0 s := Pu.wlist_0 (fun (k : Nat) (s : Int × Int) (i : Int) => spec_WeakOf_l2 u k p0 s.1 s.2 i) hn (fun _ _ _ => rfl) s hk
def spec_SumOf_j1 (u : Nat) (p0 : List Int) (x8 : Int) : Option Sum :=
  (spec_WeakOf u p0).bind fun r9 => some ((Sum.mk r9 x8))
def spec_SumOf_l2 (u : Nat) (k_spec_SumOf_l2 : Nat) (p0 : List Int) (x3 : Int) (x4 : Int) : Option Sum := match k_spec_SumOf_l2 with
  | 0 => none
  | k_spec_SumOf_l2 + 1 => bif decide (x4 < ((p0.length : Int))) then ((idx p0 x4).bind fun y7 => (fun z0 z1 z2 => spec_SumOf_l2 u k_spec_SumOf_l2 z0 z1 z2) p0 (bAdd .i64 (bMul .i64 256 x3) (IntKind.wrap .i64 y7)) (bAdd .i64 x4 1)) else (spec_SumOf_j1 u p0 x3)
def spec_SumOf (u : Nat) (p0 : List Int) : Option Sum :=
  bif decide (((p0.length : Int)) > 6) then (some ((Sum.mk 0 0))) else (spec_SumOf_l2 u u p0 1 0)
def spec_SumOf_l2_f (u : Nat) (p0 : List Int) (s : Int) : Option Sum := (spec_SumOf_j1 u p0 s)
def spec_SumOf_l2_b (u : Nat) (p0 : List Int) (y7 : Int) (i_ : Nat) (s : Int) (k_ : Int → Option Sum) : Option Sum := (fun z0 z1 z2 => k_ z1) p0 (bAdd .i64 (bMul .i64 256 s) (IntKind.wrap .i64 y7)) (bAdd .i64 (i_ : Int) 1)
theorem spec_SumOf_l2_w (u : Nat) (p0 : List Int) (s : Int) (k : Nat) (hn : p0.length ≤ 9223372036854775807) (hk : p0.length < k) : spec_SumOf_l2 u k p0 s 0 = Pu.wlist (spec_SumOf_l2_f u p0) (spec_SumOf_l2_b u p0) p0 0 s := Pu.wlist_0 (fun (k : Nat) (s : Int) (i : Int) => spec_SumOf_l2 u k p0 s i) hn (fun _ _ _ => rfl) s hk
def spec_Least (u : Nat) (p0 : Int) (p1 : Int) : Option Int :=
  bif decide (p1 < p0) then (some p1) else (some p0)
def spec_SpanOf (u : Nat) (p0 : Int) (p1 : Int) (p2 : Int) : Option (Int × Int) :=
  (spec_Blocks u p0 p1).bind fun r1 => (spec_l1In u p2 0 (bSub .i64 r1 1)).bind fun r2 => bif !r2 then (some ((0, 0))) else ((spec_Least u p0 (bSub .i64 p1 (bMul .i64 p2 p0))).bind fun r3 => some ((bMul .i64 p2 p0, r3)))
def spec_ManOk_j2 (u : Nat)  : Option Bool :=
  some true
def spec_ManOk_j4 (u : Nat) (c_spec_ManOk_l3 : Int → Manifest → Option Bool) (x6 : Int) (x13 : Bool) (p0 : Manifest) : Option Bool :=
  bif x13 then (some false) else (c_spec_ManOk_l3 (bAdd .i64 x6 1) p0)
def spec_ManOk_l3 (u : Nat) (k_spec_ManOk_l3 : Nat) (x6 : Int) (p0 : Manifest) : Option Bool := match k_spec_ManOk_l3 with
  | 0 => none
  | k_spec_ManOk_l3 + 1 => bif decide (x6 < ((p0.fSums.length : Int))) then ((idx p0.fSums x6).bind fun y8 => (spec_BytesOf u y8.fS).bind fun r9 => (spec_SpanOf u p0.fSize p0.fLen x6).bind fun r10 => bif !r9.2 then (spec_ManOk_j4 u (fun z0 z1 => spec_ManOk_l3 u k_spec_ManOk_l3 z0 z1) x6 true p0) else (bif ((r9.1.length : Int)) != r10.2 then (spec_ManOk_j4 u (fun z0 z1 => spec_ManOk_l3 u k_spec_ManOk_l3 z0 z1) x6 true p0) else ((spec_SumOf u r9.1).bind fun r11 => (idx p0.fSums x6).bind fun y12 => spec_ManOk_j4 u (fun z0 z1 => spec_ManOk_l3 u k_spec_ManOk_l3 z0 z1) x6 (!([r11.fW, r11.fS] == [y12.fW, y12.fS])) p0))) else (spec_ManOk_j2 u)
def spec_ManOk_j1 (u : Nat) (x4 : Bool) (p0 : Manifest) : Option Bool :=
  bif x4 then (some false) else (spec_ManOk_l3 u u 0 p0)
def spec_ManOk (u : Nat) (p0 : Manifest) : Option Bool :=
  bif p0.fGen == 0 then (bif p0.fSize == 0 then (bif p0.fLen == 0 then (some (((p0.fSums.length : Int)) == 0)) else (some false)) else (some false)) else ((spec_l1In u p0.fGen 1 1000000).bind fun r1 => bif !r1 then (spec_ManOk_j1 u true p0) else ((spec_SizeOk u p0.fSize p0.fLen).bind fun r2 => bif !r2 then (spec_ManOk_j1 u true p0) else ((spec_Blocks u p0.fSize p0.fLen).bind fun r3 => spec_ManOk_j1 u (((p0.fSums.length : Int)) != r3) p0)))
def spec_ManOk_l3_f (u : Nat) (p0 : Manifest) (s : Unit) : Option Bool := (spec_ManOk_j2 u)
def spec_ManOk_l3_b (u : Nat) (p0 : Manifest) (y8 : Sum) (i_ : Nat) (s : Unit) (k_ : Unit → Option Bool) : Option Bool := (spec_BytesOf u y8.fS).bind fun r9 => (spec_SpanOf u p0.fSize p0.fLen (i_ : Int)).bind fun r10 => bif !r9.2 then (spec_ManOk_j4 u (fun z0 z1 => k_ ()) (i_ : Int) true p0) else (bif ((r9.1.length : Int)) != r10.2 then (spec_ManOk_j4 u (fun z0 z1 => k_ ()) (i_ : Int) true p0) else ((spec_SumOf u r9.1).bind fun r11 => (idx p0.fSums (i_ : Int)).bind fun y12 => spec_ManOk_j4 u (fun z0 z1 => k_ ()) (i_ : Int) (!([r11.fW, r11.fS] == [y12.fW, y12.fS])) p0))
theorem spec_ManOk_l3_w (u : Nat) (p0 : Manifest) (s : Unit) (k : Nat) (hn : p0.fSums.length ≤ 9223372036854775807) (hk : p0.fSums.length < k) : spec_ManOk_l3 u k 0 p0 = Pu.wlist (spec_ManOk_l3_f u p0) (spec_ManOk_l3_b u p0) p0.fSums 0 s := Pu.wlist_0 (fun (k : Nat) (s : Unit) (i : Int) => spec_ManOk_l3 u k i p0) hn (fun _ _ _ => rfl) s hk
def spec_GetMan_j2 (u : Nat) (x19 : Int) (r1 : Int × Int × Bool) (r2 : Int × Int × Bool) (r3 : Int × Int × Bool) (x20 : List Sum) : Option (Manifest × Int × Bool) :=
  (spec_ManOk u ((Manifest.mk r1.1 r2.1 r3.1 x20))).bind fun r21 => bif !r21 then (some (((Manifest.mk 0 0 0 ([])), 0, false))) else (some (((Manifest.mk r1.1 r2.1 r3.1 x20), x19, true)))
def spec_GetMan_j4 (u : Nat) (c_spec_GetMan_l3 : (List Int) → (Int × Int × Bool) → (Int × Int × Bool) → (Int × Int × Bool) → Int → Int → (List Sum) → Option (Manifest × Int × Bool)) (p0 : List Int) (r1 : Int × Int × Bool) (r2 : Int × Int × Bool) (r3 : Int × Int × Bool) (x8 : Int) (x9 : Int) (x15 : Bool) (x10 : List Sum) : Option (Manifest × Int × Bool) :=
  bif x15 then ((spec_l6GetSum u p0 x8).bind fun r16 => bif !r16.2.2 then (some (((Manifest.mk 0 0 0 ([])), 0, false))) else ((spec_BytesOf u r16.1).bind fun r17 => (spec_SumOf u r17.1).bind fun r18 => (chk (decide ((x10.length + ([(Sum.mk r18.fW r16.1)]).length) * 16 ≤ 140737488355328))).bind fun _ => c_spec_GetMan_l3 p0 r1 r2 r3 r16.2.1 (bAdd .i64 x9 1) (x10 ++ ([(Sum.mk r18.fW r16.1)])))) else (spec_GetMan_j2 u x8 r1 r2 r3 x10)
def spec_GetMan_l3 (u : Nat) (k_spec_GetMan_l3 : Nat) (p0 : List Int) (r1 : Int × Int × Bool) (r2 : Int × Int × Bool) (r3 : Int × Int × Bool) (x8 : Int) (x9 : Int) (x10 : List Sum) : Option (Manifest × Int × Bool) := match k_spec_GetMan_l3 with
  | 0 => none
  | k_spec_GetMan_l3 + 1 => (spec_Blocks u r2.1 r3.1).bind fun r14 => bif decide (x9 < r14) then (spec_GetMan_j4 u (fun z0 z1 z2 z3 z4 z5 z6 => spec_GetMan_l3 u k_spec_GetMan_l3 z0 z1 z2 z3 z4 z5 z6) p0 r1 r2 r3 x8 x9 (decide (r1.1 > 0)) x10) else (spec_GetMan_j4 u (fun z0 z1 z2 z3 z4 z5 z6 => spec_GetMan_l3 u k_spec_GetMan_l3 z0 z1 z2 z3 z4 z5 z6) p0 r1 r2 r3 x8 x9 false x10)
def spec_GetMan_j1 (u : Nat) (p0 : List Int) (r1 : Int × Int × Bool) (r2 : Int × Int × Bool) (r3 : Int × Int × Bool) (x4 : Bool) : Option (Manifest × Int × Bool) :=
  bif x4 then (some (((Manifest.mk 0 0 0 ([])), 0, false))) else (spec_GetMan_l3 u u p0 r1 r2 r3 r3.2.1 0 ([]))
def spec_GetMan (u : Nat) (p0 : List Int) (p1 : Int) : Option (Manifest × Int × Bool) :=
  (spec_GetVar u p0 p1).bind fun r1 => (spec_GetVar u p0 r1.2.1).bind fun r2 => (spec_GetVar u p0 r2.2.1).bind fun r3 => bif !r1.2.2 then (spec_GetMan_j1 u p0 r1 r2 r3 true) else (bif !r2.2.2 then (spec_GetMan_j1 u p0 r1 r2 r3 true) else (spec_GetMan_j1 u p0 r1 r2 r3 (!r3.2.2)))
def spec_GetPart_j1 (u : Nat) (p0 : List Int) (r1 : Int × Int × Bool) (x2 : Bool) : Option ((List Int) × Int × Bool) :=
  bif x2 then (some ((([] : List Int), 0, false))) else ((chk (sliceOK r1.2.1 (bAdd .i64 r1.2.1 r1.1) p0.length)).bind fun _ => (chk (decide (((([] : List Int)).length + ((p0.take (Int.toNat (bAdd .i64 r1.2.1 r1.1))).drop (Int.toNat r1.2.1)).length) * 1 ≤ 140737488355328))).bind fun _ => some (((([] : List Int)) ++ ((p0.take (Int.toNat (bAdd .i64 r1.2.1 r1.1))).drop (Int.toNat r1.2.1)), bAdd .i64 r1.2.1 r1.1, true)))
def spec_GetPart (u : Nat) (p0 : List Int) (p1 : Int) (p2 : Int) : Option ((List Int) × Int × Bool) :=
  (spec_GetVar u p0 p1).bind fun r1 => bif !r1.2.2 then (spec_GetPart_j1 u p0 r1 true) else (bif decide (r1.1 > p2) then (spec_GetPart_j1 u p0 r1 true) else (spec_GetPart_j1 u p0 r1 (decide (r1.1 > (bSub .i64 ((p0.length : Int)) r1.2.1)))))
def spec_l12Body_j1 (u : Nat) (x20 : Int) (p2 : Int) (r2 : Int × Int × Bool) (x21 : Int) (x22 : Int) : Option (Msg × Int × Bool) :=
  some (((Msg.mk p2 r2.1 ((Manifest.mk 0 0 0 ([]))) x21 x22 0 ([])), x20, true))
def spec_l12Body_j2 (u : Nat) (x14 : Int) (x15 : List Int) (p2 : Int) (r2 : Int × Int × Bool) : Option (Msg × Int × Bool) :=
  (idx x15 0).bind fun y16 => (idx x15 1).bind fun y17 => (idx x15 2).bind fun y18 => (idx x15 3).bind fun y19 => spec_l12Body_j1 u x14 p2 r2 (bAdd .i64 y16 (bShl .i64 y17 20)) (bAdd .i64 y18 (bShl .i64 y19 20))
def spec_l12Body_j4 (u : Nat) (c_spec_l12Body_l3 : (List Int) → Int → (List Int) → Int → Int → (Int × Int × Bool) → Option (Msg × Int × Bool)) (p0 : List Int) (x6 : Int) (x7 : List Int) (x8 : Int) (r12 : Int × Int × Bool) (x13 : Bool) (p2 : Int) (r2 : Int × Int × Bool) : Option (Msg × Int × Bool) :=
  bif x13 then (some (((Msg.mk p2 r2.1 ((Manifest.mk 0 0 0 ([]))) 0 0 0 ([])), 0, false))) else ((chk (decide ((x7.length + ([r12.1]).length) * 8 ≤ 140737488355328))).bind fun _ => c_spec_l12Body_l3 p0 r12.2.1 (x7 ++ ([r12.1])) (bAdd .i64 x8 1) p2 r2)
def spec_l12Body_l3 (u : Nat) (k_spec_l12Body_l3 : Nat) (p0 : List Int) (x6 : Int) (x7 : List Int) (x8 : Int) (p2 : Int) (r2 : Int × Int × Bool) : Option (Msg × Int × Bool) := match k_spec_l12Body_l3 with
  | 0 => none
  | k_spec_l12Body_l3 + 1 => bif decide (x8 < 4) then ((spec_GetVar u p0 x6).bind fun r12 => bif !r12.2.2 then (spec_l12Body_j4 u (fun z0 z1 z2 z3 z4 z5 => spec_l12Body_l3 u k_spec_l12Body_l3 z0 z1 z2 z3 z4 z5) p0 x6 x7 x8 r12 true p2 r2) else (spec_l12Body_j4 u (fun z0 z1 z2 z3 z4 z5 => spec_l12Body_l3 u k_spec_l12Body_l3 z0 z1 z2 z3 z4 z5) p0 x6 x7 x8 r12 (decide (r12.1 ≥ 1048576)) p2 r2)) else (spec_l12Body_j2 u x6 x7 p2 r2)
def spec_l12Body (u : Nat) (p0 : List Int) (p1 : Int) (p2 : Int) : Option (Msg × Int × Bool) :=
  bif p2 == 1 then ((spec_GetMan u p0 p1).bind fun r1 => some (((Msg.mk p2 0 r1.1 0 0 0 ([])), r1.2.1, r1.2.2))) else ((spec_GetVar u p0 p1).bind fun r2 => bif !r2.2.2 then (some (((Msg.mk p2 r2.1 ((Manifest.mk 0 0 0 ([]))) 0 0 0 ([])), 0, false))) else (bif p2 == 2 then (spec_l12Body_l3 u u p0 r2.2.1 (([] : List Int)) 0 p2 r2) else (bif p2 == 3 then ((spec_GetVar u p0 r2.2.1).bind fun r13 => (spec_GetPart u p0 r13.2.1 6).bind fun r14 => bif r13.2.2 then (some (((Msg.mk p2 r2.1 ((Manifest.mk 0 0 0 ([]))) 0 0 r13.1 r14.1), r14.2.1, r14.2.2))) else (some (((Msg.mk p2 r2.1 ((Manifest.mk 0 0 0 ([]))) 0 0 r13.1 r14.1), r14.2.1, false)))) else (spec_l12Body_j1 u r2.2.1 p2 r2 0 0))))
def spec_l12Body_l3_f (u : Nat) (p0 : List Int) (p2 : Int) (r2 : Int × Int × Bool) (s : Int × (List Int)) : Option (Msg × Int × Bool) := (spec_l12Body_j2 u s.1 s.2 p2 r2)
def spec_l12Body_l3_b (u : Nat) (p0 : List Int) (p2 : Int) (r2 : Int × Int × Bool) (i_ : Nat) (s : Int × (List Int)) (k_ : (Int × (List Int)) → Option (Msg × Int × Bool)) : Option (Msg × Int × Bool) := (spec_GetVar u p0 s.1).bind fun r12 => bif !r12.2.2 then (spec_l12Body_j4 u (fun z0 z1 z2 z3 z4 z5 => k_ (z1, z2)) p0 s.1 s.2 (i_ : Int) r12 true p2 r2) else (spec_l12Body_j4 u (fun z0 z1 z2 z3 z4 z5 => k_ (z1, z2)) p0 s.1 s.2 (i_ : Int) r12 (decide (r12.1 ≥ 1048576)) p2 r2)
theorem spec_l12Body_l3_w (u : Nat) (p0 : List Int) (p2 : Int) (r2 : Int × Int × Bool) (s : Int × (List Int)) (k : Nat) (hn : (4 : Int) ≤ 9223372036854775807) (hk : Int.toNat (4) < k) : spec_l12Body_l3 u k p0 s.1 s.2 0 p2 r2 = Pu.walk (spec_l12Body_l3_f u p0 p2 r2) (spec_l12Body_l3_b u p0 p2 r2) (Int.toNat (4)) 0 s := Pu.walk_0 (fun (k : Nat) (s : Int × (List Int)) (i : Int) => spec_l12Body_l3 u k p0 s.1 s.2 i p2 r2) hn (fun _ _ _ => rfl) s hk
def spec_l6SameSums_j1 (u : Nat)  : Option Bool :=
  some true
def spec_l6SameSums_l2 (u : Nat) (k_spec_l6SameSums_l2 : Nat) (p0 : List Sum) (p1 : List Sum) (x2 : Int) : Option Bool := match k_spec_l6SameSums_l2 with
  | 0 => none
  | k_spec_l6SameSums_l2 + 1 => bif decide (x2 < ((p0.length : Int))) then ((idx p0 x2).bind fun y4 => (idx p1 x2).bind fun y5 => bif !([y4.fW, y4.fS] == [y5.fW, y5.fS]) then (some false) else ((fun z0 z1 z2 => spec_l6SameSums_l2 u k_spec_l6SameSums_l2 z0 z1 z2) p0 p1 (bAdd .i64 x2 1))) else (spec_l6SameSums_j1 u)
def spec_l6SameSums (u : Nat) (p0 : List Sum) (p1 : List Sum) : Option Bool :=
  bif ((p0.length : Int)) != ((p1.length : Int)) then (some false) else (spec_l6SameSums_l2 u u p0 p1 0)
def spec_l6SameSums_l2_f (u : Nat) (p0 : List Sum) (p1 : List Sum) (s : Unit) : Option Bool := (spec_l6SameSums_j1 u)
def spec_l6SameSums_l2_b (u : Nat) (p0 : List Sum) (p1 : List Sum) (y4 : Sum) (i_ : Nat) (s : Unit) (k_ : Unit → Option Bool) : Option Bool := (idx p1 (i_ : Int)).bind fun y5 => bif !([y4.fW, y4.fS] == [y5.fW, y5.fS]) then (some false) else ((fun z0 z1 z2 => k_ ()) p0 p1 (bAdd .i64 (i_ : Int) 1))
theorem spec_l6SameSums_l2_w (u : Nat) (p0 : List Sum) (p1 : List Sum) (s : Unit) (k : Nat) (hn : p0.length ≤ 9223372036854775807) (hk : p0.length < k) : spec_l6SameSums_l2 u k p0 p1 0 = Pu.wlist (spec_l6SameSums_l2_f u p0 p1) (spec_l6SameSums_l2_b u p0 p1) p0 0 s := Pu.wlist_0 (fun (k : Nat) (s : Unit) (i : Int) => spec_l6SameSums_l2 u k p0 p1 i) hn (fun _ _ _ => rfl) s hk
def spec_SameMan (u : Nat) (p0 : Manifest) (p1 : Manifest) : Option Bool :=
  bif p0.fGen == p1.fGen then (bif p0.fSize == p1.fSize then (bif p0.fLen == p1.fLen then ((spec_l6SameSums u p0.fSums p1.fSums).bind fun r1 => some r1) else (some false)) else (some false)) else (some false)
def spec_SetOk (u : Nat) (p0 : Int) : Option Bool :=
  (spec_l1In u p0 0 1099511627775).bind fun r1 => some r1
def spec_MsgOk_j1 (u : Nat) (r1 : Bool) (x2 : Bool) (p0 : Msg) : Option Bool :=
  bif p0.fKind == 1 then (bif p0.fGen == 0 then (bif p0.fMan.fGen != 0 then ((spec_ManOk u p0.fMan).bind fun r3 => bif r3 then (some x2) else (some false)) else (some false)) else (some false)) else (bif p0.fKind == 2 then ((spec_l1In u p0.fGen 0 1000000).bind fun r4 => bif r4 then (bif r1 then ((spec_SetOk u p0.fWant).bind fun r5 => bif r5 then ((spec_SetOk u p0.fDone).bind fun r6 => bif r6 then (bif p0.fI == 0 then (some (((p0.fB.length : Int)) == 0)) else (some false)) else (some false)) else (some false)) else (some false)) else (some false)) else (bif p0.fKind == 3 then ((spec_l1In u p0.fGen 1 1000000).bind fun r7 => bif r7 then (bif r1 then (bif p0.fWant == 0 then (bif p0.fDone == 0 then ((spec_l1In u p0.fI 0 39).bind fun r8 => bif r8 then ((spec_l1In u ((p0.fB.length : Int)) 1 6).bind fun r9 => some r9) else (some false)) else (some false)) else (some false)) else (some false)) else (some false)) else (bif p0.fKind == 4 then ((spec_l1In u p0.fGen 0 1000000).bind fun r10 => bif r10 then (bif r1 then (some x2) else (some false)) else (some false)) else (some false))))
def spec_MsgOk (u : Nat) (p0 : Msg) : Option Bool :=
  (spec_SameMan u p0.fMan ((Manifest.mk 0 0 0 ([])))).bind fun r1 => bif p0.fWant == 0 then (bif p0.fDone == 0 then (bif p0.fI == 0 then (spec_MsgOk_j1 u r1 (((p0.fB.length : Int)) == 0) p0) else (spec_MsgOk_j1 u r1 false p0)) else (spec_MsgOk_j1 u r1 false p0)) else (spec_MsgOk_j1 u r1 false p0)
def spec_GetMsg_j3 (u : Nat) (x9 : Bool) (r3 : Msg × Int × Bool) : Option (Msg × Bool) :=
  bif x9 then (some (((Msg.mk 0 0 ((Manifest.mk 0 0 0 ([]))) 0 0 0 ([])), false))) else (some ((r3.1, true)))
def spec_GetMsg_j2 (u : Nat) (p0 : List Int) (r3 : Msg × Int × Bool) (x5 : Bool) : Option (Msg × Bool) :=
  bif x5 then (some (((Msg.mk 0 0 ((Manifest.mk 0 0 0 ([]))) 0 0 0 ([])), false))) else ((spec_GetVar u p0 r3.2.1).bind fun r6 => bif !r6.2.2 then (spec_GetMsg_j3 u true r3) else (bif r6.2.1 != ((p0.length : Int)) then (spec_GetMsg_j3 u true r3) else ((chk (sliceOK 0 r3.2.1 p0.length)).bind fun _ => (spec_WeakOf u ((p0.take (Int.toNat r3.2.1)).drop (Int.toNat 0))).bind fun r8 => spec_GetMsg_j3 u (r6.1 != r8) r3)))
def spec_GetMsg_j1 (u : Nat) (p0 : List Int) (r1 : Int × Int × Bool) (x2 : Bool) : Option (Msg × Bool) :=
  bif x2 then (some (((Msg.mk 0 0 ((Manifest.mk 0 0 0 ([]))) 0 0 0 ([])), false))) else ((spec_l12Body u p0 r1.2.1 r1.1).bind fun r3 => bif !r3.2.2 then (spec_GetMsg_j2 u p0 r3 true) else ((spec_MsgOk u r3.1).bind fun r4 => spec_GetMsg_j2 u p0 r3 (!r4)))
def spec_GetMsg (u : Nat) (p0 : List Int) : Option (Msg × Bool) :=
  (spec_GetVar u p0 0).bind fun r1 => bif !r1.2.2 then (spec_GetMsg_j1 u p0 r1 true) else (spec_GetMsg_j1 u p0 r1 (decide (((p0.length : Int)) > 400)))
def spec_InSet (u : Nat) (p0 : Int) (p1 : Int) : Option Bool :=
  (spec_SetOk u p0).bind fun r1 => bif r1 then ((spec_l1In u p1 0 39).bind fun r2 => bif r2 then ((chk (decide (0 ≤ p1))).bind fun _ => some ((bAnd .i64 (bShr .i64 p0 p1) 1) == 1)) else (some false)) else (some false)
def spec_CountSet_j1 (u : Nat) (x9 : Int) : Option Int :=
  some x9
def spec_CountSet_j3 (u : Nat) (c_spec_CountSet_l2 : Int → Int → Int → Option Int) (p0 : Int) (x8 : Int) (x4 : Int) : Option Int :=
  c_spec_CountSet_l2 p0 x8 (bAdd .i64 x4 1)
def spec_CountSet_l2 (u : Nat) (k_spec_CountSet_l2 : Nat) (p0 : Int) (x3 : Int) (x4 : Int) : Option Int := match k_spec_CountSet_l2 with
  | 0 => none
  | k_spec_CountSet_l2 + 1 => bif decide (x4 < 40) then ((spec_InSet u p0 x4).bind fun r7 => bif r7 then (spec_CountSet_j3 u (fun z0 z1 z2 => spec_CountSet_l2 u k_spec_CountSet_l2 z0 z1 z2) p0 (bAdd .i64 x3 1) x4) else (spec_CountSet_j3 u (fun z0 z1 z2 => spec_CountSet_l2 u k_spec_CountSet_l2 z0 z1 z2) p0 x3 x4)) else (spec_CountSet_j1 u x3)
def spec_CountSet (u : Nat) (p0 : Int) : Option Int :=
  spec_CountSet_l2 u u p0 0 0
def spec_CountSet_l2_f (u : Nat) (p0 : Int) (s : Int) : Option Int := (spec_CountSet_j1 u s)
def spec_CountSet_l2_b (u : Nat) (p0 : Int) (i_ : Nat) (s : Int) (k_ : Int → Option Int) : Option Int := (spec_InSet u p0 (i_ : Int)).bind fun r7 => bif r7 then (spec_CountSet_j3 u (fun z0 z1 z2 => k_ z1) p0 (bAdd .i64 s 1) (i_ : Int)) else (spec_CountSet_j3 u (fun z0 z1 z2 => k_ z1) p0 s (i_ : Int))
theorem spec_CountSet_l2_w (u : Nat) (p0 : Int) (s : Int) (k : Nat) (hn : (40 : Int) ≤ 9223372036854775807) (hk : Int.toNat (40) < k) : spec_CountSet_l2 u k p0 s 0 = Pu.walk (spec_CountSet_l2_f u p0) (spec_CountSet_l2_b u p0) (Int.toNat (40)) 0 s := Pu.walk_0 (fun (k : Nat) (s : Int) (i : Int) => spec_CountSet_l2 u k p0 s i) hn (fun _ _ _ => rfl) s hk
def spec_MsgText (u : Nat) (p0 : Msg) : Option ByteArray :=
  (spec_MsgOk u p0).bind fun r1 => bif !r1 then (some ((ByteArray.mk #[]))) else (bif p0.fKind == 1 then ((spec_NumText u p0.fMan.fGen).bind fun r2 => (chk (decide (((ByteArray.mk #[109, 97, 110, 32])).size + r2.size ≤ 9223372036854775807))).bind fun _ => some (((ByteArray.mk #[109, 97, 110, 32])) ++ r2)) else (bif p0.fKind == 2 then ((spec_NumText u p0.fGen).bind fun r4 => (chk (decide (((ByteArray.mk #[119, 97, 110, 116, 32])).size + r4.size ≤ 9223372036854775807))).bind fun _ => (chk (decide ((((ByteArray.mk #[119, 97, 110, 116, 32])) ++ r4).size + ((ByteArray.mk #[32])).size ≤ 9223372036854775807))).bind fun _ => (spec_CountSet u p0.fWant).bind fun r7 => (spec_NumText u r7).bind fun r8 => (chk (decide (((((ByteArray.mk #[119, 97, 110, 116, 32])) ++ r4) ++ ((ByteArray.mk #[32]))).size + r8.size ≤ 9223372036854775807))).bind fun _ => (chk (decide ((((((ByteArray.mk #[119, 97, 110, 116, 32])) ++ r4) ++ ((ByteArray.mk #[32]))) ++ r8).size + ((ByteArray.mk #[32])).size ≤ 9223372036854775807))).bind fun _ => (spec_CountSet u p0.fDone).bind fun r11 => (spec_NumText u r11).bind fun r12 => (chk (decide (((((((ByteArray.mk #[119, 97, 110, 116, 32])) ++ r4) ++ ((ByteArray.mk #[32]))) ++ r8) ++ ((ByteArray.mk #[32]))).size + r12.size ≤ 9223372036854775807))).bind fun _ => some (((((((ByteArray.mk #[119, 97, 110, 116, 32])) ++ r4) ++ ((ByteArray.mk #[32]))) ++ r8) ++ ((ByteArray.mk #[32]))) ++ r12)) else (bif p0.fKind == 3 then ((spec_NumText u p0.fGen).bind fun r14 => (chk (decide (((ByteArray.mk #[112, 97, 114, 116, 32])).size + r14.size ≤ 9223372036854775807))).bind fun _ => (chk (decide ((((ByteArray.mk #[112, 97, 114, 116, 32])) ++ r14).size + ((ByteArray.mk #[32])).size ≤ 9223372036854775807))).bind fun _ => (spec_NumText u p0.fI).bind fun r17 => (chk (decide (((((ByteArray.mk #[112, 97, 114, 116, 32])) ++ r14) ++ ((ByteArray.mk #[32]))).size + r17.size ≤ 9223372036854775807))).bind fun _ => some (((((ByteArray.mk #[112, 97, 114, 116, 32])) ++ r14) ++ ((ByteArray.mk #[32]))) ++ r17)) else ((spec_NumText u p0.fGen).bind fun r19 => (chk (decide (((ByteArray.mk #[98, 101, 97, 116, 32])).size + r19.size ≤ 9223372036854775807))).bind fun _ => some (((ByteArray.mk #[98, 101, 97, 116, 32])) ++ r19)))))
def spec_PacketText (u : Nat) (p0 : Packet) : Option ByteArray :=
  (spec_NumText u p0.fFrom).bind fun r1 => (chk (decide (r1.size + ((ByteArray.mk #[62])).size ≤ 9223372036854775807))).bind fun _ => (spec_NumText u p0.fTo).bind fun r3 => (chk (decide ((r1 ++ ((ByteArray.mk #[62]))).size + r3.size ≤ 9223372036854775807))).bind fun _ => (chk (decide (((r1 ++ ((ByteArray.mk #[62]))) ++ r3).size + ((ByteArray.mk #[32])).size ≤ 9223372036854775807))).bind fun _ => (spec_GetMsg u p0.fB).bind fun r6 => bif !r6.2 then ((chk (decide ((((r1 ++ ((ByteArray.mk #[62]))) ++ r3) ++ ((ByteArray.mk #[32]))).size + ((ByteArray.mk #[63])).size ≤ 9223372036854775807))).bind fun _ => some ((((r1 ++ ((ByteArray.mk #[62]))) ++ r3) ++ ((ByteArray.mk #[32]))) ++ ((ByteArray.mk #[63])))) else ((spec_MsgText u r6.1).bind fun r8 => (chk (decide ((((r1 ++ ((ByteArray.mk #[62]))) ++ r3) ++ ((ByteArray.mk #[32]))).size + r8.size ≤ 9223372036854775807))).bind fun _ => some ((((r1 ++ ((ByteArray.mk #[62]))) ++ r3) ++ ((ByteArray.mk #[32]))) ++ r8))
def spec_NetText_j1 (u : Nat) (x10 : ByteArray) (p0 : World) : Option ByteArray :=
  bif ((p0.fNet.length : Int)) == 0 then (some ((ByteArray.mk #[45]))) else (some x10)
def spec_NetText_j3 (u : Nat) (c_spec_NetText_l2 : ByteArray → Int → World → Option ByteArray) (x7 : ByteArray) (x4 : Int) (p0 : World) : Option ByteArray :=
  (idx p0.fNet x4).bind fun y8 => (spec_PacketText u y8).bind fun r9 => (chk (decide (x7.size + r9.size ≤ 9223372036854775807))).bind fun _ => c_spec_NetText_l2 (x7 ++ r9) (bAdd .i64 x4 1) p0
def spec_NetText_l2 (u : Nat) (k_spec_NetText_l2 : Nat) (x3 : ByteArray) (x4 : Int) (p0 : World) : Option ByteArray := match k_spec_NetText_l2 with
  | 0 => none
  | k_spec_NetText_l2 + 1 => bif decide (x4 < ((p0.fNet.length : Int))) then (bif decide (x4 > 0) then ((chk (decide (x3.size + ((ByteArray.mk #[59, 32])).size ≤ 9223372036854775807))).bind fun _ => spec_NetText_j3 u (fun z0 z1 z2 => spec_NetText_l2 u k_spec_NetText_l2 z0 z1 z2) (x3 ++ ((ByteArray.mk #[59, 32]))) x4 p0) else (spec_NetText_j3 u (fun z0 z1 z2 => spec_NetText_l2 u k_spec_NetText_l2 z0 z1 z2) x3 x4 p0)) else (spec_NetText_j1 u x3 p0)
def spec_NetText (u : Nat) (p0 : World) : Option ByteArray :=
  spec_NetText_l2 u u ((ByteArray.mk #[])) 0 p0
def spec_NetText_l2_f (u : Nat) (p0 : World) (s : ByteArray) : Option ByteArray := (spec_NetText_j1 u s p0)
def spec_NetText_l2_b (u : Nat) (p0 : World) (i_ : Nat) (s : ByteArray) (k_ : ByteArray → Option ByteArray) : Option ByteArray := bif decide ((i_ : Int) > 0) then ((chk (decide (s.size + ((ByteArray.mk #[59, 32])).size ≤ 9223372036854775807))).bind fun _ => spec_NetText_j3 u (fun z0 z1 z2 => k_ z0) (s ++ ((ByteArray.mk #[59, 32]))) (i_ : Int) p0) else (spec_NetText_j3 u (fun z0 z1 z2 => k_ z0) s (i_ : Int) p0)
theorem spec_NetText_l2_w (u : Nat) (p0 : World) (s : ByteArray) (k : Nat) (hn : (((p0.fNet.length : Int)) : Int) ≤ 9223372036854775807) (hk : Int.toNat (((p0.fNet.length : Int))) < k) : spec_NetText_l2 u k s 0 p0 = Pu.walk (spec_NetText_l2_f u p0) (spec_NetText_l2_b u p0) (Int.toNat (((p0.fNet.length : Int)))) 0 s := Pu.walk_0 (fun (k : Nat) (s : ByteArray) (i : Int) => spec_NetText_l2 u k s i p0) hn (fun _ _ _ => rfl) s hk
def impl_within (u : Nat) (p0 : Int) (p1 : Int) (p2 : Int) : Option Bool :=
  bif decide (p0 ≥ p1) then (some (decide (p0 ≤ p2))) else (some false)
def impl_readVar_j1 (u : Nat)  : Option (Int × Int × Bool) :=
  some ((0, 0, false))
def impl_readVar_l2 (u : Nat) (k_impl_readVar_l2 : Nat) (p0 : List Int) (p1 : Int) (x3 : Int) (p2 : Int) (x4 : Int) : Option (Int × Int × Bool) := match k_impl_readVar_l2 with
  | 0 => none
  | k_impl_readVar_l2 + 1 => bif decide (x4 < p2) then ((impl_within u p1 0 (bSub .i64 (bSub .i64 ((p0.length : Int)) 1) x4)).bind fun r7 => bif !r7 then (some ((0, 0, false))) else ((idx p0 (bAdd .i64 p1 x4)).bind fun y8 => (chk (decide (0 ≤ (bMul .i64 7 x4)))).bind fun _ => bif decide ((IntKind.wrap .i64 y8) < 128) then (bif x4 == 0 then (some ((bOr .i64 x3 (bShl .i64 (bAnd .i64 (IntKind.wrap .i64 y8) 127) (bMul .i64 7 x4)), bAdd .i64 (bAdd .i64 p1 x4) 1, true))) else (some ((bOr .i64 x3 (bShl .i64 (bAnd .i64 (IntKind.wrap .i64 y8) 127) (bMul .i64 7 x4)), bAdd .i64 (bAdd .i64 p1 x4) 1, decide ((IntKind.wrap .i64 y8) > 0))))) else ((fun z0 z1 z2 z3 z4 => impl_readVar_l2 u k_impl_readVar_l2 z0 z1 z2 z3 z4) p0 p1 (bOr .i64 x3 (bShl .i64 (bAnd .i64 (IntKind.wrap .i64 y8) 127) (bMul .i64 7 x4))) p2 (bAdd .i64 x4 1)))) else (impl_readVar_j1 u)
def impl_readVar (u : Nat) (p0 : List Int) (p1 : Int) (p2 : Int) : Option (Int × Int × Bool) :=
  impl_readVar_l2 u u p0 p1 0 p2 0
def impl_readVar_l2_f (u : Nat) (p0 : List Int) (p1 : Int) (p2 : Int) (s : Int) : Option (Int × Int × Bool) := (impl_readVar_j1 u)
def impl_readVar_l2_b (u : Nat) (p0 : List Int) (p1 : Int) (p2 : Int) (i_ : Nat) (s : Int) (k_ : Int → Option (Int × Int × Bool)) : Option (Int × Int × Bool) := (impl_within u p1 0 (bSub .i64 (bSub .i64 ((p0.length : Int)) 1) (i_ : Int))).bind fun r7 => bif !r7 then (some ((0, 0, false))) else ((idx p0 (bAdd .i64 p1 (i_ : Int))).bind fun y8 => (chk (decide (0 ≤ (bMul .i64 7 (i_ : Int))))).bind fun _ => bif decide ((IntKind.wrap .i64 y8) < 128) then (bif (i_ : Int) == 0 then (some ((bOr .i64 s (bShl .i64 (bAnd .i64 (IntKind.wrap .i64 y8) 127) (bMul .i64 7 (i_ : Int))), bAdd .i64 (bAdd .i64 p1 (i_ : Int)) 1, true))) else (some ((bOr .i64 s (bShl .i64 (bAnd .i64 (IntKind.wrap .i64 y8) 127) (bMul .i64 7 (i_ : Int))), bAdd .i64 (bAdd .i64 p1 (i_ : Int)) 1, decide ((IntKind.wrap .i64 y8) > 0))))) else ((fun z0 z1 z2 z3 z4 => k_ z2) p0 p1 (bOr .i64 s (bShl .i64 (bAnd .i64 (IntKind.wrap .i64 y8) 127) (bMul .i64 7 (i_ : Int)))) p2 (bAdd .i64 (i_ : Int) 1)))
theorem impl_readVar_l2_w (u : Nat) (p0 : List Int) (p1 : Int) (p2 : Int) (s : Int) (k : Nat) (hn : (p2 : Int) ≤ 9223372036854775807) (hk : Int.toNat (p2) < k) : impl_readVar_l2 u k p0 p1 s p2 0 = Pu.walk (impl_readVar_l2_f u p0 p1 p2) (impl_readVar_l2_b u p0 p1 p2) (Int.toNat (p2)) 0 s := Pu.walk_0 (fun (k : Nat) (s : Int) (i : Int) => impl_readVar_l2 u k p0 p1 s p2 i) hn (fun _ _ _ => rfl) s hk
def impl_GetVar_j1 (u : Nat) (r1 : Int × Int × Bool) (x2 : Bool) : Option (Int × Int × Bool) :=
  bif x2 then (some ((0, 0, false))) else (some ((r1.1, r1.2.1, true)))
def impl_GetVar (u : Nat) (p0 : List Int) (p1 : Int) : Option (Int × Int × Bool) :=
  (impl_readVar u p0 p1 6).bind fun r1 => bif !r1.2.2 then (impl_GetVar_j1 u r1 true) else (impl_GetVar_j1 u r1 (decide (r1.1 > 1000000000000)))
def impl_readVars_j1 (u : Nat) (x11 : Int) (x12 : List Int) : Option ((List Int) × Int × Bool) :=
  some ((x12, x11, true))
def impl_readVars_l2 (u : Nat) (k_impl_readVars_l2 : Nat) (p0 : List Int) (x4 : Int) (x5 : List Int) (p2 : Int) (x6 : Int) : Option ((List Int) × Int × Bool) := match k_impl_readVars_l2 with
  | 0 => none
  | k_impl_readVars_l2 + 1 => bif decide (x6 < p2) then ((impl_GetVar u p0 x4).bind fun r10 => bif !r10.2.2 then (some (([], 0, false))) else ((chk (decide ((x5.length + ([r10.1]).length) * 8 ≤ 140737488355328))).bind fun _ => (fun z0 z1 z2 z3 z4 => impl_readVars_l2 u k_impl_readVars_l2 z0 z1 z2 z3 z4) p0 r10.2.1 (x5 ++ ([r10.1])) p2 (bAdd .i64 x6 1))) else (impl_readVars_j1 u x4 x5)
def impl_readVars (u : Nat) (p0 : List Int) (p1 : Int) (p2 : Int) : Option ((List Int) × Int × Bool) :=
  impl_readVars_l2 u u p0 p1 (([] : List Int)) p2 0
def impl_readVars_l2_f (u : Nat) (p0 : List Int) (p2 : Int) (s : Int × (List Int)) : Option ((List Int) × Int × Bool) := (impl_readVars_j1 u s.1 s.2)
def impl_readVars_l2_b (u : Nat) (p0 : List Int) (p2 : Int) (i_ : Nat) (s : Int × (List Int)) (k_ : (Int × (List Int)) → Option ((List Int) × Int × Bool)) : Option ((List Int) × Int × Bool) := (impl_GetVar u p0 s.1).bind fun r10 => bif !r10.2.2 then (some (([], 0, false))) else ((chk (decide ((s.2.length + ([r10.1]).length) * 8 ≤ 140737488355328))).bind fun _ => (fun z0 z1 z2 z3 z4 => k_ (z1, z2)) p0 r10.2.1 (s.2 ++ ([r10.1])) p2 (bAdd .i64 (i_ : Int) 1))
theorem impl_readVars_l2_w (u : Nat) (p0 : List Int) (p2 : Int) (s : Int × (List Int)) (k : Nat) (hn : (p2 : Int) ≤ 9223372036854775807) (hk : Int.toNat (p2) < k) : impl_readVars_l2 u k p0 s.1 s.2 p2 0 = Pu.walk (impl_readVars_l2_f u p0 p2) (impl_readVars_l2_b u p0 p2) (Int.toNat (p2)) 0 s := Pu.walk_0 (fun (k : Nat) (s : Int × (List Int)) (i : Int) => impl_readVars_l2 u k p0 s.1 s.2 p2 i) hn (fun _ _ _ => rfl) s hk
def impl_SizeOk (u : Nat) (p0 : Int) (p1 : Int) : Option Bool :=
  (impl_within u p0 2 6).bind fun r1 => bif r1 then ((impl_within u p1 0 (bMul .i64 40 p0)).bind fun r2 => some r2) else (some false)
def impl_CeilDiv_j1 (u : Nat) (p0 : Int) (p1 : Int) (x3 : Bool) : Option Int :=
  bif x3 then (some 0) else ((chk (!(p1 == 0))).bind fun _ => some (bQuo .i64 (bSub .i64 (bAdd .i64 p0 p1) 1) p1))
def impl_CeilDiv (u : Nat) (p0 : Int) (p1 : Int) : Option Int :=
  (impl_within u p0 0 1000000000000).bind fun r1 => bif !r1 then (impl_CeilDiv_j1 u p0 p1 true) else ((impl_within u p1 1 1000000000000).bind fun r2 => impl_CeilDiv_j1 u p0 p1 (!r2))
def impl_Blocks (u : Nat) (p0 : Int) (p1 : Int) : Option Int :=
  (impl_SizeOk u p0 p1).bind fun r1 => bif !r1 then (some 0) else ((impl_CeilDiv u p1 p0).bind fun r2 => some r2)
def impl_BytesOf_j3 (u : Nat) (x17 : List Int) : Option ((List Int) × Bool) :=
  some ((x17, true))
def impl_BytesOf_l4 (u : Nat) (k_impl_BytesOf_l4 : Nat) (p0 : Int) (x5 : Int) (x11 : List Int) (x12 : Int) : Option ((List Int) × Bool) := match k_impl_BytesOf_l4 with
  | 0 => none
  | k_impl_BytesOf_l4 + 1 => bif decide (x12 < (((List.replicate (Int.toNat x5) (0 : Int)).length : Int))) then ((chk (decide (0 ≤ (bMul .i64 8 (bSub .i64 (bSub .i64 x5 1) x12))))).bind fun _ => (idx x11 x12).bind fun y16 => (fun z0 z1 z2 z3 => impl_BytesOf_l4 u k_impl_BytesOf_l4 z0 z1 z2 z3) p0 x5 (x11.set (Int.toNat x12) (IntKind.wrap .u8 (bShr .i64 p0 (bMul .i64 8 (bSub .i64 (bSub .i64 x5 1) x12))))) (bAdd .i64 x12 1)) else (impl_BytesOf_j3 u x11)
def impl_BytesOf_j2 (u : Nat) (p0 : Int) (x5 : Int) (x6 : Bool) : Option ((List Int) × Bool) :=
  bif x6 then (some (([], false))) else ((chk (decide (0 ≤ x5) && (x5 == 0 || x5 == x5))).bind fun _ => (chk (decide (Int.toNat x5 * 1 ≤ 140737488355328))).bind fun _ => impl_BytesOf_l4 u u p0 x5 (List.replicate (Int.toNat x5) (0 : Int)) 0)
def impl_BytesOf_j1 (u : Nat) (p0 : Int) (x5 : Int) : Option ((List Int) × Bool) :=
  bif decide (p0 < 1) then (impl_BytesOf_j2 u p0 x5 true) else ((chk (decide (0 ≤ (bMul .i64 8 x5)))).bind fun _ => impl_BytesOf_j2 u p0 x5 ((bShr .i64 p0 (bMul .i64 8 x5)) != 1))
def impl_BytesOf_j6 (u : Nat) (c_impl_BytesOf_l5 : Int → Int → Option ((List Int) × Bool)) (p0 : Int) (x2 : Int) (x4 : Bool) : Option ((List Int) × Bool) :=
  bif x4 then (c_impl_BytesOf_l5 p0 (bAdd .i64 x2 1)) else (impl_BytesOf_j1 u p0 x2)
def impl_BytesOf_l5 (u : Nat) (k_impl_BytesOf_l5 : Nat) (p0 : Int) (x2 : Int) : Option ((List Int) × Bool) := match k_impl_BytesOf_l5 with
  | 0 => none
  | k_impl_BytesOf_l5 + 1 => bif decide (x2 < 6) then ((chk (decide (0 ≤ (bMul .i64 8 x2)))).bind fun _ => impl_BytesOf_j6 u (fun z0 z1 => impl_BytesOf_l5 u k_impl_BytesOf_l5 z0 z1) p0 x2 (decide ((bShr .i64 p0 (bMul .i64 8 x2)) > 1))) else (impl_BytesOf_j6 u (fun z0 z1 => impl_BytesOf_l5 u k_impl_BytesOf_l5 z0 z1) p0 x2 false)
def impl_BytesOf (u : Nat) (p0 : Int) : Option ((List Int) × Bool) :=
  impl_BytesOf_l5 u u p0 0
def impl_BytesOf_l4_f (u : Nat) (p0 : Int) (x5 : Int) (s : (List Int)) : Option ((List Int) × Bool) := (impl_BytesOf_j3 u s)
def impl_BytesOf_l4_b (u : Nat) (p0 : Int) (x5 : Int) (i_ : Nat) (s : (List Int)) (k_ : ((List Int)) → Option ((List Int) × Bool)) : Option ((List Int) × Bool) := (chk (decide (0 ≤ (bMul .i64 8 (bSub .i64 (bSub .i64 x5 1) (i_ : Int)))))).bind fun _ => (idx s (i_ : Int)).bind fun y16 => (fun z0 z1 z2 z3 => k_ z2) p0 x5 (s.set (Int.toNat (i_ : Int)) (IntKind.wrap .u8 (bShr .i64 p0 (bMul .i64 8 (bSub .i64 (bSub .i64 x5 1) (i_ : Int)))))) (bAdd .i64 (i_ : Int) 1)
theorem impl_BytesOf_l4_w (u : Nat) (p0 : Int) (x5 : Int) (s : (List Int)) (k : Nat) (hn : ((((List.replicate (Int.toNat x5) (0 : Int)).length : Int)) : Int) ≤ 9223372036854775807) (hk : Int.toNat ((((List.replicate (Int.toNat x5) (0 : Int)).length : Int))) < k) : impl_BytesOf_l4 u k p0 x5 s 0 = Pu.walk (impl_BytesOf_l4_f u p0 x5) (impl_BytesOf_l4_b u p0 x5) (Int.toNat ((((List.replicate (Int.toNat x5) (0 : Int)).length : Int)))) 0 s := Pu.walk_0 (fun (k : Nat) (s : (List Int)) (i : Int) => impl_BytesOf_l4 u k p0 x5 s i) hn (fun _ _ _ => rfl) s hk
def impl_Wrap (u : Nat) (p0 : Int) (p1 : Int) : Option Int :=
  (impl_within u p1 1 1000000000000).bind fun r1 => bif !r1 then (some 0) else ((chk (!(p1 == 0))).bind fun _ => (chk (!(p1 == 0))).bind fun _ => some (bRem .i64 (bAdd .i64 (bRem .i64 p0 p1) p1) p1))
def impl_weak (u : Nat) (p0 : Int) (p1 : Int) : Option Int :=
  (impl_Wrap u p0 251).bind fun r1 => (impl_Wrap u p1 251).bind fun r2 => some (bAdd .i64 r1 (bMul .i64 251 r2))
def impl_WeakOf_j1 (u : Nat) (x11 : Int) (x12 : Int) : Option Int :=
  (impl_weak u x11 x12).bind fun r13 => some r13
def impl_WeakOf_l2 (u : Nat) (k_impl_WeakOf_l2 : Nat) (x4 : Int) (x5 : Int) (p0 : List Int) (x6 : Int) : Option Int := match k_impl_WeakOf_l2 with
  | 0 => none
  | k_impl_WeakOf_l2 + 1 => bif decide (x6 < ((p0.length : Int))) then ((idx p0 x6).bind fun y10 => (fun z0 z1 z2 z3 => impl_WeakOf_l2 u k_impl_WeakOf_l2 z0 z1 z2 z3) (bRem .i64 (bAdd .i64 x4 (IntKind.wrap .i64 y10)) 251) (bRem .i64 (bAdd .i64 x5 (bRem .i64 (bAdd .i64 x4 (IntKind.wrap .i64 y10)) 251)) 251) p0 (bAdd .i64 x6 1)) else (impl_WeakOf_j1 u x4 x5)
def impl_WeakOf (u : Nat) (p0 : List Int) : Option Int :=
  impl_WeakOf_l2 u u 0 0 p0 0
def impl_WeakOf_l2_f (u : Nat) (p0 : List Int) (s : Int × Int) : Option Int := (impl_WeakOf_j1 u s.1 s.2)
def impl_WeakOf_l2_b (u : Nat) (p0 : List Int) (y10 : Int) (i_ : Nat) (s : Int × Int) (k_ : (Int × Int) → Option Int) : Option Int := (fun z0 z1 z2 z3 => k_ (z0, z1)) (bRem .i64 (bAdd .i64 s.1 (IntKind.wrap .i64 y10)) 251) (bRem .i64 (bAdd .i64 s.2 (bRem .i64 (bAdd .i64 s.1 (IntKind.wrap .i64 y10)) 251)) 251) p0 (bAdd .i64 (i_ : Int) 1)
theorem impl_WeakOf_l2_w (u : Nat) (p0 : List Int) (s : Int × Int) (k : Nat) (hn : p0.length ≤ 9223372036854775807) (hk : p0.length < k) : impl_WeakOf_l2 u k s.1 s.2 p0 0 = Pu.wlist (impl_WeakOf_l2_f u p0) (impl_WeakOf_l2_b u p0) p0 0 s := Pu.wlist_0 (fun (k : Nat) (s : Int × Int) (i : Int) => impl_WeakOf_l2 u k s.1 s.2 p0 i) hn (fun _ _ _ => rfl) s hk
def impl_SumOf_j1 (u : Nat) (p0 : List Int) (x8 : Int) : Option Sum :=
  (impl_WeakOf u p0).bind fun r9 => some ((Sum.mk r9 x8))
def impl_SumOf_l2 (u : Nat) (k_impl_SumOf_l2 : Nat) (p0 : List Int) (x3 : Int) (x4 : Int) : Option Sum := match k_impl_SumOf_l2 with
  | 0 => none
  | k_impl_SumOf_l2 + 1 => bif decide (x4 < ((p0.length : Int))) then ((idx p0 x4).bind fun y7 => (fun z0 z1 z2 => impl_SumOf_l2 u k_impl_SumOf_l2 z0 z1 z2) p0 (bOr .i64 (bShl .i64 x3 8) (IntKind.wrap .i64 y7)) (bAdd .i64 x4 1)) else (impl_SumOf_j1 u p0 x3)
def impl_SumOf (u : Nat) (p0 : List Int) : Option Sum :=
  bif decide (((p0.length : Int)) > 6) then (some ((Sum.mk 0 0))) else (impl_SumOf_l2 u u p0 1 0)
def impl_SumOf_l2_f (u : Nat) (p0 : List Int) (s : Int) : Option Sum := (impl_SumOf_j1 u p0 s)
def impl_SumOf_l2_b (u : Nat) (p0 : List Int) (y7 : Int) (i_ : Nat) (s : Int) (k_ : Int → Option Sum) : Option Sum := (fun z0 z1 z2 => k_ z1) p0 (bOr .i64 (bShl .i64 s 8) (IntKind.wrap .i64 y7)) (bAdd .i64 (i_ : Int) 1)
theorem impl_SumOf_l2_w (u : Nat) (p0 : List Int) (s : Int) (k : Nat) (hn : p0.length ≤ 9223372036854775807) (hk : p0.length < k) : impl_SumOf_l2 u k p0 s 0 = Pu.wlist (impl_SumOf_l2_f u p0) (impl_SumOf_l2_b u p0) p0 0 s := Pu.wlist_0 (fun (k : Nat) (s : Int) (i : Int) => impl_SumOf_l2 u k p0 s i) hn (fun _ _ _ => rfl) s hk
def impl_isZeroMan (u : Nat) (p0 : Manifest) : Option Bool :=
  bif p0.fGen == 0 then (bif p0.fSize == 0 then (bif p0.fLen == 0 then (some (((p0.fSums.length : Int)) == 0)) else (some false)) else (some false)) else (some false)
def impl_SpanOf (u : Nat) (p0 : Int) (p1 : Int) (p2 : Int) : Option (Int × Int) :=
  (impl_Blocks u p0 p1).bind fun r1 => (impl_within u p2 0 (bSub .i64 r1 1)).bind fun r2 => bif !r2 then (some ((0, 0))) else (some ((bMul .i64 p2 p0, if (bSub .i64 p1 (bMul .i64 p2 p0)) < p0 then (bSub .i64 p1 (bMul .i64 p2 p0)) else p0)))
def impl_ManOk_j2 (u : Nat)  : Option Bool :=
  some true
def impl_ManOk_j4 (u : Nat) (c_impl_ManOk_l3 : Manifest → Int → Option Bool) (p0 : Manifest) (x7 : Int) (x13 : Bool) : Option Bool :=
  bif x13 then (some false) else (c_impl_ManOk_l3 p0 (bAdd .i64 x7 1))
def impl_ManOk_l3 (u : Nat) (k_impl_ManOk_l3 : Nat) (p0 : Manifest) (x7 : Int) : Option Bool := match k_impl_ManOk_l3 with
  | 0 => none
  | k_impl_ManOk_l3 + 1 => bif decide (x7 < ((p0.fSums.length : Int))) then ((idx p0.fSums x7).bind fun y9 => (impl_BytesOf u y9.fS).bind fun r10 => (impl_SpanOf u p0.fSize p0.fLen x7).bind fun r11 => bif !r10.2 then (impl_ManOk_j4 u (fun z0 z1 => impl_ManOk_l3 u k_impl_ManOk_l3 z0 z1) p0 x7 true) else (bif ((r10.1.length : Int)) != r11.2 then (impl_ManOk_j4 u (fun z0 z1 => impl_ManOk_l3 u k_impl_ManOk_l3 z0 z1) p0 x7 true) else ((impl_WeakOf u r10.1).bind fun r12 => impl_ManOk_j4 u (fun z0 z1 => impl_ManOk_l3 u k_impl_ManOk_l3 z0 z1) p0 x7 (r12 != y9.fW)))) else (impl_ManOk_j2 u)
def impl_ManOk_j1 (u : Nat) (x5 : Bool) (p0 : Manifest) : Option Bool :=
  bif x5 then (some false) else (impl_ManOk_l3 u u p0 0)
def impl_ManOk (u : Nat) (p0 : Manifest) : Option Bool :=
  (impl_isZeroMan u p0).bind fun r1 => bif r1 then (some true) else ((impl_within u p0.fGen 1 1000000).bind fun r2 => bif !r2 then (impl_ManOk_j1 u true p0) else ((impl_SizeOk u p0.fSize p0.fLen).bind fun r3 => bif !r3 then (impl_ManOk_j1 u true p0) else ((impl_Blocks u p0.fSize p0.fLen).bind fun r4 => impl_ManOk_j1 u (((p0.fSums.length : Int)) != r4) p0)))
def impl_ManOk_l3_f (u : Nat) (p0 : Manifest) (s : Unit) : Option Bool := (impl_ManOk_j2 u)
def impl_ManOk_l3_b (u : Nat) (p0 : Manifest) (y9 : Sum) (i_ : Nat) (s : Unit) (k_ : Unit → Option Bool) : Option Bool := (impl_BytesOf u y9.fS).bind fun r10 => (impl_SpanOf u p0.fSize p0.fLen (i_ : Int)).bind fun r11 => bif !r10.2 then (impl_ManOk_j4 u (fun z0 z1 => k_ ()) p0 (i_ : Int) true) else (bif ((r10.1.length : Int)) != r11.2 then (impl_ManOk_j4 u (fun z0 z1 => k_ ()) p0 (i_ : Int) true) else ((impl_WeakOf u r10.1).bind fun r12 => impl_ManOk_j4 u (fun z0 z1 => k_ ()) p0 (i_ : Int) (r12 != y9.fW)))
theorem impl_ManOk_l3_w (u : Nat) (p0 : Manifest) (s : Unit) (k : Nat) (hn : p0.fSums.length ≤ 9223372036854775807) (hk : p0.fSums.length < k) : impl_ManOk_l3 u k p0 0 = Pu.wlist (impl_ManOk_l3_f u p0) (impl_ManOk_l3_b u p0) p0.fSums 0 s := Pu.wlist_0 (fun (k : Nat) (s : Unit) (i : Int) => impl_ManOk_l3 u k p0 i) hn (fun _ _ _ => rfl) s hk
def impl_GetMan_j1 (u : Nat) (x19 : Int) (y2 : Int) (y3 : Int) (y4 : Int) (x20 : List Sum) : Option (Manifest × Int × Bool) :=
  (impl_ManOk u ((Manifest.mk y2 y3 y4 x20))).bind fun r21 => bif !r21 then (some (((Manifest.mk 0 0 0 ([])), 0, false))) else (some (((Manifest.mk y2 y3 y4 x20), x19, true)))
def impl_GetMan_j3 (u : Nat) (c_impl_GetMan_l2 : (List Int) → Int → Int → Int → Int → Int → Int → (List Sum) → Option (Manifest × Int × Bool)) (p0 : List Int) (x9 : Int) (r15 : Int × Int × Bool) (r16 : (List Int) × Bool) (r5 : Int) (x10 : Int) (x17 : Bool) (y2 : Int) (y3 : Int) (y4 : Int) (x11 : List Sum) : Option (Manifest × Int × Bool) :=
  bif x17 then (some (((Manifest.mk 0 0 0 ([])), 0, false))) else ((impl_SumOf u r16.1).bind fun r18 => (chk (decide ((x11.length + ([r18]).length) * 16 ≤ 140737488355328))).bind fun _ => c_impl_GetMan_l2 p0 r15.2.1 r5 (bAdd .i64 x10 1) y2 y3 y4 (x11 ++ ([r18])))
def impl_GetMan_l2 (u : Nat) (k_impl_GetMan_l2 : Nat) (p0 : List Int) (x9 : Int) (r5 : Int) (x10 : Int) (y2 : Int) (y3 : Int) (y4 : Int) (x11 : List Sum) : Option (Manifest × Int × Bool) := match k_impl_GetMan_l2 with
  | 0 => none
  | k_impl_GetMan_l2 + 1 => bif decide (x10 < r5) then ((impl_readVar u p0 x9 8).bind fun r15 => (impl_BytesOf u r15.1).bind fun r16 => bif !r15.2.2 then (impl_GetMan_j3 u (fun z0 z1 z2 z3 z4 z5 z6 z7 => impl_GetMan_l2 u k_impl_GetMan_l2 z0 z1 z2 z3 z4 z5 z6 z7) p0 x9 r15 r16 r5 x10 true y2 y3 y4 x11) else (impl_GetMan_j3 u (fun z0 z1 z2 z3 z4 z5 z6 z7 => impl_GetMan_l2 u k_impl_GetMan_l2 z0 z1 z2 z3 z4 z5 z6 z7) p0 x9 r15 r16 r5 x10 (!r16.2) y2 y3 y4 x11)) else (impl_GetMan_j1 u x9 y2 y3 y4 x11)
def impl_GetMan (u : Nat) (p0 : List Int) (p1 : Int) : Option (Manifest × Int × Bool) :=
  (impl_readVars u p0 p1 3).bind fun r1 => bif !r1.2.2 then (some (((Manifest.mk 0 0 0 ([])), 0, false))) else ((idx r1.1 0).bind fun y2 => (idx r1.1 1).bind fun y3 => (idx r1.1 2).bind fun y4 => (impl_Blocks u y3 y4).bind fun r5 => impl_GetMan_l2 u u p0 r1.2.1 r5 0 y2 y3 y4 ([]))
def impl_GetMan_l2_f (u : Nat) (p0 : List Int) (r5 : Int) (y2 : Int) (y3 : Int) (y4 : Int) (s : Int × (List Sum)) : Option (Manifest × Int × Bool) := (impl_GetMan_j1 u s.1 y2 y3 y4 s.2)
def impl_GetMan_l2_b (u : Nat) (p0 : List Int) (r5 : Int) (y2 : Int) (y3 : Int) (y4 : Int) (i_ : Nat) (s : Int × (List Sum)) (k_ : (Int × (List Sum)) → Option (Manifest × Int × Bool)) : Option (Manifest × Int × Bool) := (impl_readVar u p0 s.1 8).bind fun r15 => (impl_BytesOf u r15.1).bind fun r16 => bif !r15.2.2 then (impl_GetMan_j3 u (fun z0 z1 z2 z3 z4 z5 z6 z7 => k_ (z1, z7)) p0 s.1 r15 r16 r5 (i_ : Int) true y2 y3 y4 s.2) else (impl_GetMan_j3 u (fun z0 z1 z2 z3 z4 z5 z6 z7 => k_ (z1, z7)) p0 s.1 r15 r16 r5 (i_ : Int) (!r16.2) y2 y3 y4 s.2)
theorem impl_GetMan_l2_w (u : Nat) (p0 : List Int) (r5 : Int) (y2 : Int) (y3 : Int) (y4 : Int) (s : Int × (List Sum)) (k : Nat) (hn : (r5 : Int) ≤ 9223372036854775807) (hk : Int.toNat (r5) < k) : impl_GetMan_l2 u k p0 s.1 r5 0 y2 y3 y4 s.2 = Pu.walk (impl_GetMan_l2_f u p0 r5 y2 y3 y4) (impl_GetMan_l2_b u p0 r5 y2 y3 y4) (Int.toNat (r5)) 0 s := Pu.walk_0 (fun (k : Nat) (s : Int × (List Sum)) (i : Int) => impl_GetMan_l2 u k p0 s.1 r5 i y2 y3 y4 s.2) hn (fun _ _ _ => rfl) s hk
def impl_cloned (u : Nat) (p0 : List Int) : Option ((List Int)) :=
  (chk (decide (0 ≤ ((p0.length : Int))) && (0 == 0 || 0 == ((p0.length : Int))))).bind fun _ => (chk (decide (Int.toNat ((p0.length : Int)) * 1 ≤ 140737488355328))).bind fun _ => (chk (decide (((List.replicate (Int.toNat 0) (0 : Int)).length + p0.length) * 1 ≤ 140737488355328))).bind fun _ => some ((List.replicate (Int.toNat 0) (0 : Int)) ++ p0)
def impl_Slice_j1 (u : Nat) (p0 : List Int) (p1 : Int) (p2 : Int) (x3 : Bool) : Option ((List Int) × Bool) :=
  bif x3 then (some (([], false))) else ((chk (sliceOK p1 (bAdd .i64 p1 p2) p0.length)).bind fun _ => (impl_cloned u ((p0.take (Int.toNat (bAdd .i64 p1 p2))).drop (Int.toNat p1))).bind fun r5 => some ((r5, true)))
def impl_Slice (u : Nat) (p0 : List Int) (p1 : Int) (p2 : Int) : Option ((List Int) × Bool) :=
  (impl_within u p1 0 ((p0.length : Int))).bind fun r1 => bif !r1 then (impl_Slice_j1 u p0 p1 p2 true) else ((impl_within u p2 0 (bSub .i64 ((p0.length : Int)) p1)).bind fun r2 => impl_Slice_j1 u p0 p1 p2 (!r2))
def impl_GetPart_j1 (u : Nat) (p0 : List Int) (r1 : Int × Int × Bool) (x2 : Bool) : Option ((List Int) × Int × Bool) :=
  bif x2 then (some (([], 0, false))) else ((impl_Slice u p0 r1.2.1 r1.1).bind fun r3 => bif !r3.2 then (some (([], 0, false))) else (some ((r3.1, bAdd .i64 r1.2.1 r1.1, true))))
def impl_GetPart (u : Nat) (p0 : List Int) (p1 : Int) (p2 : Int) : Option ((List Int) × Int × Bool) :=
  (impl_GetVar u p0 p1).bind fun r1 => bif !r1.2.2 then (impl_GetPart_j1 u p0 r1 true) else (impl_GetPart_j1 u p0 r1 (decide (r1.1 > p2)))
def impl_readMsg_j1 (u : Nat) (x13 : Bool) (p1 : Int) (x14 : Int) (x15 : Int) (x16 : Int) (x17 : Int) (x18 : List Sum) (x19 : Int) (x20 : Int) (x21 : Int) (x22 : List Int) : Option (Msg × Bool) :=
  some (((Msg.mk p1 x14 ((Manifest.mk x15 x16 x17 x18)) x19 x20 x21 x22), x13))
def impl_readMsg (u : Nat) (p0 : List Int) (p1 : Int) (p2 : Int) : Option (Msg × Bool) :=
  bif p1 == 1 then ((impl_GetMan u p0 p2).bind fun r1 => impl_readMsg_j1 u r1.2.2 p1 0 r1.1.fGen r1.1.fSize r1.1.fLen r1.1.fSums 0 0 0 ([])) else (bif p1 == 2 then ((impl_readVars u p0 p2 5).bind fun r2 => bif !r2.2.2 then (some (((Msg.mk 0 0 ((Manifest.mk 0 0 0 ([]))) 0 0 0 ([])), false))) else ((idx r2.1 0).bind fun y3 => (idx r2.1 1).bind fun y4 => (idx r2.1 2).bind fun y5 => (idx r2.1 3).bind fun y6 => (idx r2.1 4).bind fun y7 => impl_readMsg_j1 u true p1 y3 0 0 0 ([]) (bOr .i64 y4 (bShl .i64 y5 20)) (bOr .i64 y6 (bShl .i64 y7 20)) 0 ([]))) else (bif p1 == 3 then ((impl_readVars u p0 p2 2).bind fun r8 => bif !r8.2.2 then (some (((Msg.mk 0 0 ((Manifest.mk 0 0 0 ([]))) 0 0 0 ([])), false))) else ((idx r8.1 0).bind fun y9 => (idx r8.1 1).bind fun y10 => (impl_GetPart u p0 r8.2.1 6).bind fun r11 => impl_readMsg_j1 u r11.2.2 p1 y9 0 0 0 ([]) 0 0 y10 r11.1)) else (bif p1 == 4 then ((impl_GetVar u p0 p2).bind fun r12 => impl_readMsg_j1 u r12.2.2 p1 r12.1 0 0 0 ([]) 0 0 0 ([])) else (impl_readMsg_j1 u false p1 0 0 0 0 ([]) 0 0 0 ([])))))
def impl_Msg__isBare (u : Nat) (p0 : Msg) (p1 : Bool) (p2 : Bool) (p3 : Bool) : Option Bool :=
  bif p1 then (bif p2 then (bif p3 then (some true) else (bif p0.fI == 0 then (some (((p0.fB.length : Int)) == 0)) else (some false))) else (bif p0.fWant == 0 then (bif p0.fDone == 0 then (bif p3 then (some true) else (bif p0.fI == 0 then (some (((p0.fB.length : Int)) == 0)) else (some false))) else (some false)) else (some false))) else ((impl_isZeroMan u p0.fMan).bind fun r1 => bif r1 then (bif p2 then (bif p3 then (some true) else (bif p0.fI == 0 then (some (((p0.fB.length : Int)) == 0)) else (some false))) else (bif p0.fWant == 0 then (bif p0.fDone == 0 then (bif p3 then (some true) else (bif p0.fI == 0 then (some (((p0.fB.length : Int)) == 0)) else (some false))) else (some false)) else (some false))) else (some false))
def impl_isGen (u : Nat) (p0 : Int) : Option Bool :=
  (impl_within u p0 0 1000000).bind fun r1 => some r1
def impl_SetOk (u : Nat) (p0 : Int) : Option Bool :=
  (impl_within u p0 0 1099511627775).bind fun r1 => some r1
def impl_isPlace (u : Nat) (p0 : Int) : Option Bool :=
  (impl_within u p0 0 39).bind fun r1 => some r1
def impl_MsgOk (u : Nat) (p0 : Msg) : Option Bool :=
  bif p0.fKind == 1 then ((impl_ManOk u p0.fMan).bind fun r1 => bif r1 then (bif p0.fMan.fGen != 0 then (bif p0.fGen == 0 then ((impl_Msg__isBare u p0 true false false).bind fun r2 => some r2) else (some false)) else (some false)) else (some false)) else (bif p0.fKind == 2 then ((impl_isGen u p0.fGen).bind fun r3 => bif r3 then ((impl_SetOk u p0.fWant).bind fun r4 => bif r4 then ((impl_SetOk u p0.fDone).bind fun r5 => bif r5 then ((impl_Msg__isBare u p0 false true false).bind fun r6 => some r6) else (some false)) else (some false)) else (some false)) else (bif p0.fKind == 3 then ((impl_within u p0.fGen 1 1000000).bind fun r7 => bif r7 then ((impl_isPlace u p0.fI).bind fun r8 => bif r8 then ((impl_within u ((p0.fB.length : Int)) 1 6).bind fun r9 => bif r9 then ((impl_Msg__isBare u p0 false false true).bind fun r10 => some r10) else (some false)) else (some false)) else (some false)) else (bif p0.fKind == 4 then ((impl_isGen u p0.fGen).bind fun r11 => bif r11 then ((impl_Msg__isBare u p0 false false false).bind fun r12 => some r12) else (some false)) else (some false))))
def impl_appendVar_j1 (u : Nat) (x7 : List Int) (x8 : Int) : Option ((List Int)) :=
  (chk (decide ((x7.length + ([IntKind.wrap .u8 x8]).length) * 1 ≤ 140737488355328))).bind fun _ => some (x7 ++ ([IntKind.wrap .u8 x8]))
def impl_appendVar_l2 (u : Nat) (k_impl_appendVar_l2 : Nat) (x3 : List Int) (x4 : Int) : Option ((List Int)) := match k_impl_appendVar_l2 with
  | 0 => none
  | k_impl_appendVar_l2 + 1 => bif decide (x4 ≥ 128) then ((chk (decide ((x3.length + ([bOr .u8 (IntKind.wrap .u8 x4) 128]).length) * 1 ≤ 140737488355328))).bind fun _ => (fun z0 z1 => impl_appendVar_l2 u k_impl_appendVar_l2 z0 z1) (x3 ++ ([bOr .u8 (IntKind.wrap .u8 x4) 128])) (bShr .i64 x4 7)) else (impl_appendVar_j1 u x3 x4)
def impl_appendVar (u : Nat) (p0 : List Int) (p1 : Int) : Option ((List Int)) :=
  impl_appendVar_l2 u u p0 p1
def impl_PutVar (u : Nat) (p0 : List Int) (p1 : Int) : Option ((List Int)) :=
  (impl_cloned u p0).bind fun r1 => (impl_within u p1 0 1000000000000).bind fun r2 => bif !r2 then (some r1) else ((impl_appendVar u r1 p1).bind fun r3 => some r3)
def impl_PutMan_j1 (u : Nat) (x14 : List Int) : Option ((List Int)) :=
  some x14
def impl_PutMan_l2 (u : Nat) (k_impl_PutMan_l2 : Nat) (x8 : List Int) (p1 : Manifest) (x9 : Int) : Option ((List Int)) := match k_impl_PutMan_l2 with
  | 0 => none
  | k_impl_PutMan_l2 + 1 => bif decide (x9 < ((p1.fSums.length : Int))) then ((idx p1.fSums x9).bind fun y12 => (impl_appendVar u x8 y12.fS).bind fun r13 => (fun z0 z1 z2 => impl_PutMan_l2 u k_impl_PutMan_l2 z0 z1 z2) r13 p1 (bAdd .i64 x9 1)) else (impl_PutMan_j1 u x8)
def impl_PutMan (u : Nat) (p0 : List Int) (p1 : Manifest) : Option ((List Int)) :=
  (impl_ManOk u p1).bind fun r1 => bif !r1 then ((impl_cloned u p0).bind fun r2 => some r2) else ((impl_PutVar u p0 p1.fGen).bind fun r3 => (impl_PutVar u r3 p1.fSize).bind fun r4 => (impl_PutVar u r4 p1.fLen).bind fun r5 => impl_PutMan_l2 u u r5 p1 0)
def impl_PutMan_l2_f (u : Nat) (p1 : Manifest) (s : (List Int)) : Option ((List Int)) := (impl_PutMan_j1 u s)
def impl_PutMan_l2_b (u : Nat) (p1 : Manifest) (y12 : Sum) (i_ : Nat) (s : (List Int)) (k_ : ((List Int)) → Option ((List Int))) : Option ((List Int)) := (impl_appendVar u s y12.fS).bind fun r13 => (fun z0 z1 z2 => k_ z0) r13 p1 (bAdd .i64 (i_ : Int) 1)
theorem impl_PutMan_l2_w (u : Nat) (p1 : Manifest) (s : (List Int)) (k : Nat) (hn : p1.fSums.length ≤ 9223372036854775807) (hk : p1.fSums.length < k) : impl_PutMan_l2 u k s p1 0 = Pu.wlist (impl_PutMan_l2_f u p1) (impl_PutMan_l2_b u p1) p1.fSums 0 s := Pu.wlist_0 (fun (k : Nat) (s : (List Int)) (i : Int) => impl_PutMan_l2 u k s p1 i) hn (fun _ _ _ => rfl) s hk
def impl_putSet (u : Nat) (p0 : List Int) (p1 : Int) : Option ((List Int)) :=
  (impl_PutVar u p0 (bAnd .i64 p1 1048575)).bind fun r1 => (impl_PutVar u r1 (bShr .i64 p1 20)).bind fun r2 => some r2
def impl_PutPart (u : Nat) (p0 : List Int) (p1 : List Int) : Option ((List Int)) :=
  (impl_PutVar u p0 ((p1.length : Int))).bind fun r1 => (chk (decide ((r1.length + p1.length) * 1 ≤ 140737488355328))).bind fun _ => some (r1 ++ p1)
def impl_PutMsg_j1 (u : Nat) (x11 : List Int) : Option ((List Int)) :=
  (impl_WeakOf u x11).bind fun r12 => (impl_PutVar u x11 r12).bind fun r13 => some r13
def impl_PutMsg (u : Nat) (p0 : Msg) : Option ((List Int)) :=
  (impl_MsgOk u p0).bind fun r1 => bif !r1 then (some ([])) else ((impl_PutVar u ([]) p0.fKind).bind fun r2 => bif p0.fKind == 1 then ((impl_PutMan u r2 p0.fMan).bind fun r3 => impl_PutMsg_j1 u r3) else (bif p0.fKind == 2 then ((impl_PutVar u r2 p0.fGen).bind fun r4 => (impl_putSet u r4 p0.fWant).bind fun r5 => (impl_putSet u r5 p0.fDone).bind fun r6 => impl_PutMsg_j1 u r6) else (bif p0.fKind == 3 then ((impl_PutVar u r2 p0.fGen).bind fun r7 => (impl_PutVar u r7 p0.fI).bind fun r8 => (impl_PutPart u r8 p0.fB).bind fun r9 => impl_PutMsg_j1 u r9) else (bif p0.fKind == 4 then ((impl_PutVar u r2 p0.fGen).bind fun r10 => impl_PutMsg_j1 u r10) else (impl_PutMsg_j1 u r2)))))
def bytes_Equal (u : Nat) (p0 : List Int) (p1 : List Int) : Option Bool :=
  some ((strOfNums p0).toList == (strOfNums p1).toList)
def impl_SameBytes (u : Nat) (p0 : List Int) (p1 : List Int) : Option Bool :=
  (bytes_Equal u p0 p1).bind fun r1 => some r1
def impl_GetMsg_j2 (u : Nat) (x7 : Bool) (r3 : Msg × Bool) : Option (Msg × Bool) :=
  bif x7 then (some (((Msg.mk 0 0 ((Manifest.mk 0 0 0 ([]))) 0 0 0 ([])), false))) else (some ((r3.1, true)))
def impl_GetMsg_j1 (u : Nat) (p0 : List Int) (r1 : Int × Int × Bool) (x2 : Bool) : Option (Msg × Bool) :=
  bif x2 then (some (((Msg.mk 0 0 ((Manifest.mk 0 0 0 ([]))) 0 0 0 ([])), false))) else ((impl_readMsg u p0 r1.1 r1.2.1).bind fun r3 => bif !r3.2 then (impl_GetMsg_j2 u true r3) else ((impl_MsgOk u r3.1).bind fun r4 => bif !r4 then (impl_GetMsg_j2 u true r3) else ((impl_PutMsg u r3.1).bind fun r5 => (impl_SameBytes u r5 p0).bind fun r6 => impl_GetMsg_j2 u (!r6) r3)))
def impl_GetMsg (u : Nat) (p0 : List Int) : Option (Msg × Bool) :=
  (impl_GetVar u p0 0).bind fun r1 => bif !r1.2.2 then (impl_GetMsg_j1 u p0 r1 true) else (impl_GetMsg_j1 u p0 r1 (decide (((p0.length : Int)) > 400)))
def strconv_Itoa (u : Nat) (p0 : Int) : Option ByteArray :=
  bif decide (-9223372036854775808 ≤ p0) && decide (p0 ≤ 9223372036854775807) then some (⟨(Lib.itoa p0).toArray⟩ : ByteArray) else none
def impl_NumText (u : Nat) (p0 : Int) : Option ByteArray :=
  (strconv_Itoa u p0).bind fun r1 => some r1
def bits_OnesCount64 (u : Nat) (p0 : Int) : Option Int :=
  some (bAnd .i64 (IntKind.wrap .i64 (bAdd .u64 (bAdd .u64 (bAdd .u64 (bAnd .u64 (bAdd .u64 (bShr .u64 (bAdd .u64 (bAnd .u64 (bShr .u64 (bAdd .u64 (bAnd .u64 (bShr .u64 p0 1) 6148914691236517205) (bAnd .u64 p0 6148914691236517205)) 2) 3689348814741910323) (bAnd .u64 (bAdd .u64 (bAnd .u64 (bShr .u64 p0 1) 6148914691236517205) (bAnd .u64 p0 6148914691236517205)) 3689348814741910323)) 4) (bAdd .u64 (bAnd .u64 (bShr .u64 (bAdd .u64 (bAnd .u64 (bShr .u64 p0 1) 6148914691236517205) (bAnd .u64 p0 6148914691236517205)) 2) 3689348814741910323) (bAnd .u64 (bAdd .u64 (bAnd .u64 (bShr .u64 p0 1) 6148914691236517205) (bAnd .u64 p0 6148914691236517205)) 3689348814741910323))) 1085102592571150095) (bShr .u64 (bAnd .u64 (bAdd .u64 (bShr .u64 (bAdd .u64 (bAnd .u64 (bShr .u64 (bAdd .u64 (bAnd .u64 (bShr .u64 p0 1) 6148914691236517205) (bAnd .u64 p0 6148914691236517205)) 2) 3689348814741910323) (bAnd .u64 (bAdd .u64 (bAnd .u64 (bShr .u64 p0 1) 6148914691236517205) (bAnd .u64 p0 6148914691236517205)) 3689348814741910323)) 4) (bAdd .u64 (bAnd .u64 (bShr .u64 (bAdd .u64 (bAnd .u64 (bShr .u64 p0 1) 6148914691236517205) (bAnd .u64 p0 6148914691236517205)) 2) 3689348814741910323) (bAnd .u64 (bAdd .u64 (bAnd .u64 (bShr .u64 p0 1) 6148914691236517205) (bAnd .u64 p0 6148914691236517205)) 3689348814741910323))) 1085102592571150095) 8)) (bShr .u64 (bAdd .u64 (bAnd .u64 (bAdd .u64 (bShr .u64 (bAdd .u64 (bAnd .u64 (bShr .u64 (bAdd .u64 (bAnd .u64 (bShr .u64 p0 1) 6148914691236517205) (bAnd .u64 p0 6148914691236517205)) 2) 3689348814741910323) (bAnd .u64 (bAdd .u64 (bAnd .u64 (bShr .u64 p0 1) 6148914691236517205) (bAnd .u64 p0 6148914691236517205)) 3689348814741910323)) 4) (bAdd .u64 (bAnd .u64 (bShr .u64 (bAdd .u64 (bAnd .u64 (bShr .u64 p0 1) 6148914691236517205) (bAnd .u64 p0 6148914691236517205)) 2) 3689348814741910323) (bAnd .u64 (bAdd .u64 (bAnd .u64 (bShr .u64 p0 1) 6148914691236517205) (bAnd .u64 p0 6148914691236517205)) 3689348814741910323))) 1085102592571150095) (bShr .u64 (bAnd .u64 (bAdd .u64 (bShr .u64 (bAdd .u64 (bAnd .u64 (bShr .u64 (bAdd .u64 (bAnd .u64 (bShr .u64 p0 1) 6148914691236517205) (bAnd .u64 p0 6148914691236517205)) 2) 3689348814741910323) (bAnd .u64 (bAdd .u64 (bAnd .u64 (bShr .u64 p0 1) 6148914691236517205) (bAnd .u64 p0 6148914691236517205)) 3689348814741910323)) 4) (bAdd .u64 (bAnd .u64 (bShr .u64 (bAdd .u64 (bAnd .u64 (bShr .u64 p0 1) 6148914691236517205) (bAnd .u64 p0 6148914691236517205)) 2) 3689348814741910323) (bAnd .u64 (bAdd .u64 (bAnd .u64 (bShr .u64 p0 1) 6148914691236517205) (bAnd .u64 p0 6148914691236517205)) 3689348814741910323))) 1085102592571150095) 8)) 16)) (bShr .u64 (bAdd .u64 (bAdd .u64 (bAnd .u64 (bAdd .u64 (bShr .u64 (bAdd .u64 (bAnd .u64 (bShr .u64 (bAdd .u64 (bAnd .u64 (bShr .u64 p0 1) 6148914691236517205) (bAnd .u64 p0 6148914691236517205)) 2) 3689348814741910323) (bAnd .u64 (bAdd .u64 (bAnd .u64 (bShr .u64 p0 1) 6148914691236517205) (bAnd .u64 p0 6148914691236517205)) 3689348814741910323)) 4) (bAdd .u64 (bAnd .u64 (bShr .u64 (bAdd .u64 (bAnd .u64 (bShr .u64 p0 1) 6148914691236517205) (bAnd .u64 p0 6148914691236517205)) 2) 3689348814741910323) (bAnd .u64 (bAdd .u64 (bAnd .u64 (bShr .u64 p0 1) 6148914691236517205) (bAnd .u64 p0 6148914691236517205)) 3689348814741910323))) 1085102592571150095) (bShr .u64 (bAnd .u64 (bAdd .u64 (bShr .u64 (bAdd .u64 (bAnd .u64 (bShr .u64 (bAdd .u64 (bAnd .u64 (bShr .u64 p0 1) 6148914691236517205) (bAnd .u64 p0 6148914691236517205)) 2) 3689348814741910323) (bAnd .u64 (bAdd .u64 (bAnd .u64 (bShr .u64 p0 1) 6148914691236517205) (bAnd .u64 p0 6148914691236517205)) 3689348814741910323)) 4) (bAdd .u64 (bAnd .u64 (bShr .u64 (bAdd .u64 (bAnd .u64 (bShr .u64 p0 1) 6148914691236517205) (bAnd .u64 p0 6148914691236517205)) 2) 3689348814741910323) (bAnd .u64 (bAdd .u64 (bAnd .u64 (bShr .u64 p0 1) 6148914691236517205) (bAnd .u64 p0 6148914691236517205)) 3689348814741910323))) 1085102592571150095) 8)) (bShr .u64 (bAdd .u64 (bAnd .u64 (bAdd .u64 (bShr .u64 (bAdd .u64 (bAnd .u64 (bShr .u64 (bAdd .u64 (bAnd .u64 (bShr .u64 p0 1) 6148914691236517205) (bAnd .u64 p0 6148914691236517205)) 2) 3689348814741910323) (bAnd .u64 (bAdd .u64 (bAnd .u64 (bShr .u64 p0 1) 6148914691236517205) (bAnd .u64 p0 6148914691236517205)) 3689348814741910323)) 4) (bAdd .u64 (bAnd .u64 (bShr .u64 (bAdd .u64 (bAnd .u64 (bShr .u64 p0 1) 6148914691236517205) (bAnd .u64 p0 6148914691236517205)) 2) 3689348814741910323) (bAnd .u64 (bAdd .u64 (bAnd .u64 (bShr .u64 p0 1) 6148914691236517205) (bAnd .u64 p0 6148914691236517205)) 3689348814741910323))) 1085102592571150095) (bShr .u64 (bAnd .u64 (bAdd .u64 (bShr .u64 (bAdd .u64 (bAnd .u64 (bShr .u64 (bAdd .u64 (bAnd .u64 (bShr .u64 p0 1) 6148914691236517205) (bAnd .u64 p0 6148914691236517205)) 2) 3689348814741910323) (bAnd .u64 (bAdd .u64 (bAnd .u64 (bShr .u64 p0 1) 6148914691236517205) (bAnd .u64 p0 6148914691236517205)) 3689348814741910323)) 4) (bAdd .u64 (bAnd .u64 (bShr .u64 (bAdd .u64 (bAnd .u64 (bShr .u64 p0 1) 6148914691236517205) (bAnd .u64 p0 6148914691236517205)) 2) 3689348814741910323) (bAnd .u64 (bAdd .u64 (bAnd .u64 (bShr .u64 p0 1) 6148914691236517205) (bAnd .u64 p0 6148914691236517205)) 3689348814741910323))) 1085102592571150095) 8)) 16)) 32))) 127)
def impl_CountSet (u : Nat) (p0 : Int) : Option Int :=
  (impl_SetOk u p0).bind fun r1 => bif !r1 then (some 0) else ((bits_OnesCount64 u (IntKind.wrap .u64 p0)).bind fun r2 => some r2)
def impl_MsgText (u : Nat) (p0 : Msg) : Option ByteArray :=
  (impl_MsgOk u p0).bind fun r1 => bif !r1 then (some ((ByteArray.mk #[]))) else (bif p0.fKind == 1 then ((impl_NumText u p0.fMan.fGen).bind fun r2 => (chk (decide (((ByteArray.mk #[109, 97, 110, 32])).size + r2.size ≤ 9223372036854775807))).bind fun _ => some (((ByteArray.mk #[109, 97, 110, 32])) ++ r2)) else (bif p0.fKind == 2 then ((impl_NumText u p0.fGen).bind fun r4 => (chk (decide (((ByteArray.mk #[119, 97, 110, 116, 32])).size + r4.size ≤ 9223372036854775807))).bind fun _ => (chk (decide ((((ByteArray.mk #[119, 97, 110, 116, 32])) ++ r4).size + ((ByteArray.mk #[32])).size ≤ 9223372036854775807))).bind fun _ => (impl_CountSet u p0.fWant).bind fun r7 => (impl_NumText u r7).bind fun r8 => (chk (decide (((((ByteArray.mk #[119, 97, 110, 116, 32])) ++ r4) ++ ((ByteArray.mk #[32]))).size + r8.size ≤ 9223372036854775807))).bind fun _ => (chk (decide ((((((ByteArray.mk #[119, 97, 110, 116, 32])) ++ r4) ++ ((ByteArray.mk #[32]))) ++ r8).size + ((ByteArray.mk #[32])).size ≤ 9223372036854775807))).bind fun _ => (impl_CountSet u p0.fDone).bind fun r11 => (impl_NumText u r11).bind fun r12 => (chk (decide (((((((ByteArray.mk #[119, 97, 110, 116, 32])) ++ r4) ++ ((ByteArray.mk #[32]))) ++ r8) ++ ((ByteArray.mk #[32]))).size + r12.size ≤ 9223372036854775807))).bind fun _ => some (((((((ByteArray.mk #[119, 97, 110, 116, 32])) ++ r4) ++ ((ByteArray.mk #[32]))) ++ r8) ++ ((ByteArray.mk #[32]))) ++ r12)) else (bif p0.fKind == 3 then ((impl_NumText u p0.fGen).bind fun r14 => (chk (decide (((ByteArray.mk #[112, 97, 114, 116, 32])).size + r14.size ≤ 9223372036854775807))).bind fun _ => (chk (decide ((((ByteArray.mk #[112, 97, 114, 116, 32])) ++ r14).size + ((ByteArray.mk #[32])).size ≤ 9223372036854775807))).bind fun _ => (impl_NumText u p0.fI).bind fun r17 => (chk (decide (((((ByteArray.mk #[112, 97, 114, 116, 32])) ++ r14) ++ ((ByteArray.mk #[32]))).size + r17.size ≤ 9223372036854775807))).bind fun _ => some (((((ByteArray.mk #[112, 97, 114, 116, 32])) ++ r14) ++ ((ByteArray.mk #[32]))) ++ r17)) else ((impl_NumText u p0.fGen).bind fun r19 => (chk (decide (((ByteArray.mk #[98, 101, 97, 116, 32])).size + r19.size ≤ 9223372036854775807))).bind fun _ => some (((ByteArray.mk #[98, 101, 97, 116, 32])) ++ r19)))))
def impl_PacketText_j1 (u : Nat) (x3 : ByteArray) (p0 : Packet) : Option ByteArray :=
  (impl_NumText u p0.fFrom).bind fun r4 => (chk (decide (r4.size + ((ByteArray.mk #[62])).size ≤ 9223372036854775807))).bind fun _ => (impl_NumText u p0.fTo).bind fun r6 => (chk (decide ((r4 ++ ((ByteArray.mk #[62]))).size + r6.size ≤ 9223372036854775807))).bind fun _ => (chk (decide (((r4 ++ ((ByteArray.mk #[62]))) ++ r6).size + ((ByteArray.mk #[32])).size ≤ 9223372036854775807))).bind fun _ => (chk (decide ((((r4 ++ ((ByteArray.mk #[62]))) ++ r6) ++ ((ByteArray.mk #[32]))).size + x3.size ≤ 9223372036854775807))).bind fun _ => some ((((r4 ++ ((ByteArray.mk #[62]))) ++ r6) ++ ((ByteArray.mk #[32]))) ++ x3)
def impl_PacketText (u : Nat) (p0 : Packet) : Option ByteArray :=
  (impl_GetMsg u p0.fB).bind fun r1 => bif r1.2 then ((impl_MsgText u r1.1).bind fun r2 => impl_PacketText_j1 u r2 p0) else (impl_PacketText_j1 u ((ByteArray.mk #[63])) p0)
def strings_Join (u : Nat) (p0 : List ByteArray) (p1 : ByteArray) : Option ByteArray :=
  bif decide (p0.length ≤ 140737488355328) && decide ((Lib.join (p0.map (·.data.toList)) p1.data.toList).length ≤ 140737488355328) then some (⟨(Lib.join (p0.map (·.data.toList)) p1.data.toList).toArray⟩ : ByteArray) else none
def impl_NetText_j1 (u : Nat) (x9 : List ByteArray) : Option ByteArray :=
  (strings_Join u x9 ((ByteArray.mk #[59, 32]))).bind fun r10 => some r10
def impl_NetText_l2 (u : Nat) (k_impl_NetText_l2 : Nat) (x3 : List ByteArray) (p0 : World) (x4 : Int) : Option ByteArray := match k_impl_NetText_l2 with
  | 0 => none
  | k_impl_NetText_l2 + 1 => bif decide (x4 < ((p0.fNet.length : Int))) then ((idx p0.fNet x4).bind fun y7 => (impl_PacketText u y7).bind fun r8 => (chk (decide ((x3.length + ([r8]).length) * 16 ≤ 140737488355328))).bind fun _ => (fun z0 z1 z2 => impl_NetText_l2 u k_impl_NetText_l2 z0 z1 z2) (x3 ++ ([r8])) p0 (bAdd .i64 x4 1)) else (impl_NetText_j1 u x3)
def impl_NetText (u : Nat) (p0 : World) : Option ByteArray :=
  bif ((p0.fNet.length : Int)) == 0 then (some ((ByteArray.mk #[45]))) else (impl_NetText_l2 u u (([] : List ByteArray)) p0 0)
def impl_NetText_l2_f (u : Nat) (p0 : World) (s : (List ByteArray)) : Option ByteArray := (impl_NetText_j1 u s)
def impl_NetText_l2_b (u : Nat) (p0 : World) (y7 : Packet) (i_ : Nat) (s : (List ByteArray)) (k_ : ((List ByteArray)) → Option ByteArray) : Option ByteArray := (impl_PacketText u y7).bind fun r8 => (chk (decide ((s.length + ([r8]).length) * 16 ≤ 140737488355328))).bind fun _ => (fun z0 z1 z2 => k_ z0) (s ++ ([r8])) p0 (bAdd .i64 (i_ : Int) 1)
theorem impl_NetText_l2_w (u : Nat) (p0 : World) (s : (List ByteArray)) (k : Nat) (hn : p0.fNet.length ≤ 9223372036854775807) (hk : p0.fNet.length < k) : impl_NetText_l2 u k s p0 0 = Pu.wlist (impl_NetText_l2_f u p0) (impl_NetText_l2_b u p0) p0.fNet 0 s := Pu.wlist_0 (fun (k : Nat) (s : (List ByteArray)) (i : Int) => impl_NetText_l2 u k s p0 i) hn (fun _ _ _ => rfl) s hk
def laws_eqConf (u : Nat) (p0 : Conf) (p1 : Conf) : Option Bool :=
  bif p0.fSize != p1.fSize then (some false) else (bif p0.fWindow != p1.fWindow then (some false) else (bif p0.fSuspect != p1.fSuspect then (some false) else (bif p0.fForget != p1.fForget then (some false) else (some true))))
def laws_eqIntS_j1 (u : Nat)  : Option Bool :=
  some true
def laws_eqIntS_l2 (u : Nat) (k_laws_eqIntS_l2 : Nat) (p0 : List Int) (p1 : List Int) (x2 : Int) : Option Bool := match k_laws_eqIntS_l2 with
  | 0 => none
  | k_laws_eqIntS_l2 + 1 => bif decide (x2 < ((p0.length : Int))) then ((idx p0 x2).bind fun y4 => (idx p1 x2).bind fun y5 => bif y4 != y5 then (some false) else ((fun z0 z1 z2 => laws_eqIntS_l2 u k_laws_eqIntS_l2 z0 z1 z2) p0 p1 (bAdd .i64 x2 1))) else (laws_eqIntS_j1 u)
def laws_eqIntS (u : Nat) (p0 : List Int) (p1 : List Int) : Option Bool :=
  bif ((p0.length : Int)) != ((p1.length : Int)) then (some false) else (laws_eqIntS_l2 u u p0 p1 0)
def laws_eqIntS_l2_f (u : Nat) (p0 : List Int) (p1 : List Int) (s : Unit) : Option Bool := (laws_eqIntS_j1 u)
def laws_eqIntS_l2_b (u : Nat) (p0 : List Int) (p1 : List Int) (y4 : Int) (i_ : Nat) (s : Unit) (k_ : Unit → Option Bool) : Option Bool := (idx p1 (i_ : Int)).bind fun y5 => bif y4 != y5 then (some false) else ((fun z0 z1 z2 => k_ ()) p0 p1 (bAdd .i64 (i_ : Int) 1))
theorem laws_eqIntS_l2_w (u : Nat) (p0 : List Int) (p1 : List Int) (s : Unit) (k : Nat) (hn : p0.length ≤ 9223372036854775807) (hk : p0.length < k) : laws_eqIntS_l2 u k p0 p1 0 = Pu.wlist (laws_eqIntS_l2_f u p0 p1) (laws_eqIntS_l2_b u p0 p1) p0 0 s := Pu.wlist_0 (fun (k : Nat) (s : Unit) (i : Int) => laws_eqIntS_l2 u k p0 p1 i) hn (fun _ _ _ => rfl) s hk
def laws_eqTree (u : Nat) (p0 : Tree) (p1 : Tree) : Option Bool :=
  (laws_eqIntS u p0.fUp p1.fUp).bind fun r1 => bif !r1 then (some false) else (some true)
def laws_eqByteS_j1 (u : Nat)  : Option Bool :=
  some true
def laws_eqByteS_l2 (u : Nat) (k_laws_eqByteS_l2 : Nat) (p0 : List Int) (p1 : List Int) (x2 : Int) : Option Bool := match k_laws_eqByteS_l2 with
  | 0 => none
  | k_laws_eqByteS_l2 + 1 => bif decide (x2 < ((p0.length : Int))) then ((idx p0 x2).bind fun y4 => (idx p1 x2).bind fun y5 => bif y4 != y5 then (some false) else ((fun z0 z1 z2 => laws_eqByteS_l2 u k_laws_eqByteS_l2 z0 z1 z2) p0 p1 (bAdd .i64 x2 1))) else (laws_eqByteS_j1 u)
def laws_eqByteS (u : Nat) (p0 : List Int) (p1 : List Int) : Option Bool :=
  bif ((p0.length : Int)) != ((p1.length : Int)) then (some false) else (laws_eqByteS_l2 u u p0 p1 0)
def laws_eqByteS_l2_f (u : Nat) (p0 : List Int) (p1 : List Int) (s : Unit) : Option Bool := (laws_eqByteS_j1 u)
def laws_eqByteS_l2_b (u : Nat) (p0 : List Int) (p1 : List Int) (y4 : Int) (i_ : Nat) (s : Unit) (k_ : Unit → Option Bool) : Option Bool := (idx p1 (i_ : Int)).bind fun y5 => bif y4 != y5 then (some false) else ((fun z0 z1 z2 => k_ ()) p0 p1 (bAdd .i64 (i_ : Int) 1))
theorem laws_eqByteS_l2_w (u : Nat) (p0 : List Int) (p1 : List Int) (s : Unit) (k : Nat) (hn : p0.length ≤ 9223372036854775807) (hk : p0.length < k) : laws_eqByteS_l2 u k p0 p1 0 = Pu.wlist (laws_eqByteS_l2_f u p0 p1) (laws_eqByteS_l2_b u p0 p1) p0 0 s := Pu.wlist_0 (fun (k : Nat) (s : Unit) (i : Int) => laws_eqByteS_l2 u k p0 p1 i) hn (fun _ _ _ => rfl) s hk
def laws_eqImage (u : Nat) (p0 : Image) (p1 : Image) : Option Bool :=
  (laws_eqByteS u p0.fB p1.fB).bind fun r1 => bif !r1 then (some false) else (some true)
def laws_eqImageS_j1 (u : Nat)  : Option Bool :=
  some true
def laws_eqImageS_l2 (u : Nat) (k_laws_eqImageS_l2 : Nat) (p0 : List Image) (p1 : List Image) (x2 : Int) : Option Bool := match k_laws_eqImageS_l2 with
  | 0 => none
  | k_laws_eqImageS_l2 + 1 => bif decide (x2 < ((p0.length : Int))) then ((idx p0 x2).bind fun y4 => (idx p1 x2).bind fun y5 => (laws_eqImage u y4 y5).bind fun r6 => bif !r6 then (some false) else ((fun z0 z1 z2 => laws_eqImageS_l2 u k_laws_eqImageS_l2 z0 z1 z2) p0 p1 (bAdd .i64 x2 1))) else (laws_eqImageS_j1 u)
def laws_eqImageS (u : Nat) (p0 : List Image) (p1 : List Image) : Option Bool :=
  bif ((p0.length : Int)) != ((p1.length : Int)) then (some false) else (laws_eqImageS_l2 u u p0 p1 0)
def laws_eqImageS_l2_f (u : Nat) (p0 : List Image) (p1 : List Image) (s : Unit) : Option Bool := (laws_eqImageS_j1 u)
def laws_eqImageS_l2_b (u : Nat) (p0 : List Image) (p1 : List Image) (y4 : Image) (i_ : Nat) (s : Unit) (k_ : Unit → Option Bool) : Option Bool := (idx p1 (i_ : Int)).bind fun y5 => (laws_eqImage u y4 y5).bind fun r6 => bif !r6 then (some false) else ((fun z0 z1 z2 => k_ ()) p0 p1 (bAdd .i64 (i_ : Int) 1))
theorem laws_eqImageS_l2_w (u : Nat) (p0 : List Image) (p1 : List Image) (s : Unit) (k : Nat) (hn : p0.length ≤ 9223372036854775807) (hk : p0.length < k) : laws_eqImageS_l2 u k p0 p1 0 = Pu.wlist (laws_eqImageS_l2_f u p0 p1) (laws_eqImageS_l2_b u p0 p1) p0 0 s := Pu.wlist_0 (fun (k : Nat) (s : Unit) (i : Int) => laws_eqImageS_l2 u k p0 p1 i) hn (fun _ _ _ => rfl) s hk
def laws_eqSum (u : Nat) (p0 : Sum) (p1 : Sum) : Option Bool :=
  bif p0.fW != p1.fW then (some false) else (bif p0.fS != p1.fS then (some false) else (some true))
def laws_eqSumS_j1 (u : Nat)  : Option Bool :=
  some true
def laws_eqSumS_l2 (u : Nat) (k_laws_eqSumS_l2 : Nat) (p0 : List Sum) (p1 : List Sum) (x2 : Int) : Option Bool := match k_laws_eqSumS_l2 with
  | 0 => none
  | k_laws_eqSumS_l2 + 1 => bif decide (x2 < ((p0.length : Int))) then ((idx p0 x2).bind fun y4 => (idx p1 x2).bind fun y5 => (laws_eqSum u y4 y5).bind fun r6 => bif !r6 then (some false) else ((fun z0 z1 z2 => laws_eqSumS_l2 u k_laws_eqSumS_l2 z0 z1 z2) p0 p1 (bAdd .i64 x2 1))) else (laws_eqSumS_j1 u)
def laws_eqSumS (u : Nat) (p0 : List Sum) (p1 : List Sum) : Option Bool :=
  bif ((p0.length : Int)) != ((p1.length : Int)) then (some false) else (laws_eqSumS_l2 u u p0 p1 0)
def laws_eqSumS_l2_f (u : Nat) (p0 : List Sum) (p1 : List Sum) (s : Unit) : Option Bool := (laws_eqSumS_j1 u)
def laws_eqSumS_l2_b (u : Nat) (p0 : List Sum) (p1 : List Sum) (y4 : Sum) (i_ : Nat) (s : Unit) (k_ : Unit → Option Bool) : Option Bool := (idx p1 (i_ : Int)).bind fun y5 => (laws_eqSum u y4 y5).bind fun r6 => bif !r6 then (some false) else ((fun z0 z1 z2 => k_ ()) p0 p1 (bAdd .i64 (i_ : Int) 1))
theorem laws_eqSumS_l2_w (u : Nat) (p0 : List Sum) (p1 : List Sum) (s : Unit) (k : Nat) (hn : p0.length ≤ 9223372036854775807) (hk : p0.length < k) : laws_eqSumS_l2 u k p0 p1 0 = Pu.wlist (laws_eqSumS_l2_f u p0 p1) (laws_eqSumS_l2_b u p0 p1) p0 0 s := Pu.wlist_0 (fun (k : Nat) (s : Unit) (i : Int) => laws_eqSumS_l2 u k p0 p1 i) hn (fun _ _ _ => rfl) s hk
def laws_eqManifest (u : Nat) (p0 : Manifest) (p1 : Manifest) : Option Bool :=
  bif p0.fGen != p1.fGen then (some false) else (bif p0.fSize != p1.fSize then (some false) else (bif p0.fLen != p1.fLen then (some false) else ((laws_eqSumS u p0.fSums p1.fSums).bind fun r1 => bif !r1 then (some false) else (some true))))
def laws_eqBuild (u : Nat) (p0 : Build) (p1 : Build) : Option Bool :=
  bif p0.fHave != p1.fHave then (some false) else ((laws_eqByteS u p0.fBuf p1.fBuf).bind fun r1 => bif !r1 then (some false) else (some true))
def laws_eqKid (u : Nat) (p0 : Kid) (p1 : Kid) : Option Bool :=
  bif p0.fId != p1.fId then (some false) else (bif p0.fWant != p1.fWant then (some false) else (bif p0.fDone != p1.fDone then (some false) else (bif p0.fAge != p1.fAge then (some false) else (bif p0.fSent != p1.fSent then (some false) else (some true)))))
def laws_eqKidS_j1 (u : Nat)  : Option Bool :=
  some true
def laws_eqKidS_l2 (u : Nat) (k_laws_eqKidS_l2 : Nat) (p0 : List Kid) (p1 : List Kid) (x2 : Int) : Option Bool := match k_laws_eqKidS_l2 with
  | 0 => none
  | k_laws_eqKidS_l2 + 1 => bif decide (x2 < ((p0.length : Int))) then ((idx p0 x2).bind fun y4 => (idx p1 x2).bind fun y5 => (laws_eqKid u y4 y5).bind fun r6 => bif !r6 then (some false) else ((fun z0 z1 z2 => laws_eqKidS_l2 u k_laws_eqKidS_l2 z0 z1 z2) p0 p1 (bAdd .i64 x2 1))) else (laws_eqKidS_j1 u)
def laws_eqKidS (u : Nat) (p0 : List Kid) (p1 : List Kid) : Option Bool :=
  bif ((p0.length : Int)) != ((p1.length : Int)) then (some false) else (laws_eqKidS_l2 u u p0 p1 0)
def laws_eqKidS_l2_f (u : Nat) (p0 : List Kid) (p1 : List Kid) (s : Unit) : Option Bool := (laws_eqKidS_j1 u)
def laws_eqKidS_l2_b (u : Nat) (p0 : List Kid) (p1 : List Kid) (y4 : Kid) (i_ : Nat) (s : Unit) (k_ : Unit → Option Bool) : Option Bool := (idx p1 (i_ : Int)).bind fun y5 => (laws_eqKid u y4 y5).bind fun r6 => bif !r6 then (some false) else ((fun z0 z1 z2 => k_ ()) p0 p1 (bAdd .i64 (i_ : Int) 1))
theorem laws_eqKidS_l2_w (u : Nat) (p0 : List Kid) (p1 : List Kid) (s : Unit) (k : Nat) (hn : p0.length ≤ 9223372036854775807) (hk : p0.length < k) : laws_eqKidS_l2 u k p0 p1 0 = Pu.wlist (laws_eqKidS_l2_f u p0 p1) (laws_eqKidS_l2_b u p0 p1) p0 0 s := Pu.wlist_0 (fun (k : Nat) (s : Unit) (i : Int) => laws_eqKidS_l2 u k p0 p1 i) hn (fun _ _ _ => rfl) s hk
def laws_eqNode (u : Nat) (p0 : Node) (p1 : Node) : Option Bool :=
  bif !(p0.fOn == p1.fOn) then (some false) else (bif p0.fBoss != p1.fBoss then (some false) else (bif p0.fQuiet != p1.fQuiet then (some false) else ((laws_eqManifest u p0.fMan p1.fMan).bind fun r1 => bif !r1 then (some false) else ((laws_eqBuild u p0.fBld p1.fBld).bind fun r2 => bif !r2 then (some false) else (bif p0.fPhase != p1.fPhase then (some false) else ((laws_eqKidS u p0.fKids p1.fKids).bind fun r3 => bif !r3 then (some false) else (bif p0.fDrops != p1.fDrops then (some false) else (some true))))))))
def laws_eqNodeS_j1 (u : Nat)  : Option Bool :=
  some true
def laws_eqNodeS_l2 (u : Nat) (k_laws_eqNodeS_l2 : Nat) (p0 : List Node) (p1 : List Node) (x2 : Int) : Option Bool := match k_laws_eqNodeS_l2 with
  | 0 => none
  | k_laws_eqNodeS_l2 + 1 => bif decide (x2 < ((p0.length : Int))) then ((idx p0 x2).bind fun y4 => (idx p1 x2).bind fun y5 => (laws_eqNode u y4 y5).bind fun r6 => bif !r6 then (some false) else ((fun z0 z1 z2 => laws_eqNodeS_l2 u k_laws_eqNodeS_l2 z0 z1 z2) p0 p1 (bAdd .i64 x2 1))) else (laws_eqNodeS_j1 u)
def laws_eqNodeS (u : Nat) (p0 : List Node) (p1 : List Node) : Option Bool :=
  bif ((p0.length : Int)) != ((p1.length : Int)) then (some false) else (laws_eqNodeS_l2 u u p0 p1 0)
def laws_eqNodeS_l2_f (u : Nat) (p0 : List Node) (p1 : List Node) (s : Unit) : Option Bool := (laws_eqNodeS_j1 u)
def laws_eqNodeS_l2_b (u : Nat) (p0 : List Node) (p1 : List Node) (y4 : Node) (i_ : Nat) (s : Unit) (k_ : Unit → Option Bool) : Option Bool := (idx p1 (i_ : Int)).bind fun y5 => (laws_eqNode u y4 y5).bind fun r6 => bif !r6 then (some false) else ((fun z0 z1 z2 => k_ ()) p0 p1 (bAdd .i64 (i_ : Int) 1))
theorem laws_eqNodeS_l2_w (u : Nat) (p0 : List Node) (p1 : List Node) (s : Unit) (k : Nat) (hn : p0.length ≤ 9223372036854775807) (hk : p0.length < k) : laws_eqNodeS_l2 u k p0 p1 0 = Pu.wlist (laws_eqNodeS_l2_f u p0 p1) (laws_eqNodeS_l2_b u p0 p1) p0 0 s := Pu.wlist_0 (fun (k : Nat) (s : Unit) (i : Int) => laws_eqNodeS_l2 u k p0 p1 i) hn (fun _ _ _ => rfl) s hk
def laws_eqRecord (u : Nat) (p0 : Record) (p1 : Record) : Option Bool :=
  bif p0.fGen != p1.fGen then (some false) else (bif p0.fSlot != p1.fSlot then (some false) else (bif p0.fLen != p1.fLen then (some false) else (some true)))
def laws_eqPut (u : Nat) (p0 : Put) (p1 : Put) : Option Bool :=
  bif p0.fWhat != p1.fWhat then (some false) else (bif p0.fAt != p1.fAt then (some false) else ((laws_eqByteS u p0.fB p1.fB).bind fun r1 => bif !r1 then (some false) else ((laws_eqRecord u p0.fR p1.fR).bind fun r2 => bif !r2 then (some false) else (some true))))
def laws_eqPutS_j1 (u : Nat)  : Option Bool :=
  some true
def laws_eqPutS_l2 (u : Nat) (k_laws_eqPutS_l2 : Nat) (p0 : List Put) (p1 : List Put) (x2 : Int) : Option Bool := match k_laws_eqPutS_l2 with
  | 0 => none
  | k_laws_eqPutS_l2 + 1 => bif decide (x2 < ((p0.length : Int))) then ((idx p0 x2).bind fun y4 => (idx p1 x2).bind fun y5 => (laws_eqPut u y4 y5).bind fun r6 => bif !r6 then (some false) else ((fun z0 z1 z2 => laws_eqPutS_l2 u k_laws_eqPutS_l2 z0 z1 z2) p0 p1 (bAdd .i64 x2 1))) else (laws_eqPutS_j1 u)
def laws_eqPutS (u : Nat) (p0 : List Put) (p1 : List Put) : Option Bool :=
  bif ((p0.length : Int)) != ((p1.length : Int)) then (some false) else (laws_eqPutS_l2 u u p0 p1 0)
def laws_eqPutS_l2_f (u : Nat) (p0 : List Put) (p1 : List Put) (s : Unit) : Option Bool := (laws_eqPutS_j1 u)
def laws_eqPutS_l2_b (u : Nat) (p0 : List Put) (p1 : List Put) (y4 : Put) (i_ : Nat) (s : Unit) (k_ : Unit → Option Bool) : Option Bool := (idx p1 (i_ : Int)).bind fun y5 => (laws_eqPut u y4 y5).bind fun r6 => bif !r6 then (some false) else ((fun z0 z1 z2 => k_ ()) p0 p1 (bAdd .i64 (i_ : Int) 1))
theorem laws_eqPutS_l2_w (u : Nat) (p0 : List Put) (p1 : List Put) (s : Unit) (k : Nat) (hn : p0.length ≤ 9223372036854775807) (hk : p0.length < k) : laws_eqPutS_l2 u k p0 p1 0 = Pu.wlist (laws_eqPutS_l2_f u p0 p1) (laws_eqPutS_l2_b u p0 p1) p0 0 s := Pu.wlist_0 (fun (k : Nat) (s : Unit) (i : Int) => laws_eqPutS_l2 u k p0 p1 i) hn (fun _ _ _ => rfl) s hk
def laws_eqDisk (u : Nat) (p0 : Disk) (p1 : Disk) : Option Bool :=
  (laws_eqByteS u p0.fA p1.fA).bind fun r1 => bif !r1 then (some false) else ((laws_eqByteS u p0.fB p1.fB).bind fun r2 => bif !r2 then (some false) else ((laws_eqRecord u p0.fR p1.fR).bind fun r3 => bif !r3 then (some false) else ((laws_eqPutS u p0.fP p1.fP).bind fun r4 => bif !r4 then (some false) else (some true))))
def laws_eqDiskS_j1 (u : Nat)  : Option Bool :=
  some true
def laws_eqDiskS_l2 (u : Nat) (k_laws_eqDiskS_l2 : Nat) (p0 : List Disk) (p1 : List Disk) (x2 : Int) : Option Bool := match k_laws_eqDiskS_l2 with
  | 0 => none
  | k_laws_eqDiskS_l2 + 1 => bif decide (x2 < ((p0.length : Int))) then ((idx p0 x2).bind fun y4 => (idx p1 x2).bind fun y5 => (laws_eqDisk u y4 y5).bind fun r6 => bif !r6 then (some false) else ((fun z0 z1 z2 => laws_eqDiskS_l2 u k_laws_eqDiskS_l2 z0 z1 z2) p0 p1 (bAdd .i64 x2 1))) else (laws_eqDiskS_j1 u)
def laws_eqDiskS (u : Nat) (p0 : List Disk) (p1 : List Disk) : Option Bool :=
  bif ((p0.length : Int)) != ((p1.length : Int)) then (some false) else (laws_eqDiskS_l2 u u p0 p1 0)
def laws_eqDiskS_l2_f (u : Nat) (p0 : List Disk) (p1 : List Disk) (s : Unit) : Option Bool := (laws_eqDiskS_j1 u)
def laws_eqDiskS_l2_b (u : Nat) (p0 : List Disk) (p1 : List Disk) (y4 : Disk) (i_ : Nat) (s : Unit) (k_ : Unit → Option Bool) : Option Bool := (idx p1 (i_ : Int)).bind fun y5 => (laws_eqDisk u y4 y5).bind fun r6 => bif !r6 then (some false) else ((fun z0 z1 z2 => k_ ()) p0 p1 (bAdd .i64 (i_ : Int) 1))
theorem laws_eqDiskS_l2_w (u : Nat) (p0 : List Disk) (p1 : List Disk) (s : Unit) (k : Nat) (hn : p0.length ≤ 9223372036854775807) (hk : p0.length < k) : laws_eqDiskS_l2 u k p0 p1 0 = Pu.wlist (laws_eqDiskS_l2_f u p0 p1) (laws_eqDiskS_l2_b u p0 p1) p0 0 s := Pu.wlist_0 (fun (k : Nat) (s : Unit) (i : Int) => laws_eqDiskS_l2 u k p0 p1 i) hn (fun _ _ _ => rfl) s hk
def laws_eqPacket (u : Nat) (p0 : Packet) (p1 : Packet) : Option Bool :=
  bif p0.fFrom != p1.fFrom then (some false) else (bif p0.fTo != p1.fTo then (some false) else ((laws_eqByteS u p0.fB p1.fB).bind fun r1 => bif !r1 then (some false) else (some true)))
def laws_eqPacketS_j1 (u : Nat)  : Option Bool :=
  some true
def laws_eqPacketS_l2 (u : Nat) (k_laws_eqPacketS_l2 : Nat) (p0 : List Packet) (p1 : List Packet) (x2 : Int) : Option Bool := match k_laws_eqPacketS_l2 with
  | 0 => none
  | k_laws_eqPacketS_l2 + 1 => bif decide (x2 < ((p0.length : Int))) then ((idx p0 x2).bind fun y4 => (idx p1 x2).bind fun y5 => (laws_eqPacket u y4 y5).bind fun r6 => bif !r6 then (some false) else ((fun z0 z1 z2 => laws_eqPacketS_l2 u k_laws_eqPacketS_l2 z0 z1 z2) p0 p1 (bAdd .i64 x2 1))) else (laws_eqPacketS_j1 u)
def laws_eqPacketS (u : Nat) (p0 : List Packet) (p1 : List Packet) : Option Bool :=
  bif ((p0.length : Int)) != ((p1.length : Int)) then (some false) else (laws_eqPacketS_l2 u u p0 p1 0)
def laws_eqPacketS_l2_f (u : Nat) (p0 : List Packet) (p1 : List Packet) (s : Unit) : Option Bool := (laws_eqPacketS_j1 u)
def laws_eqPacketS_l2_b (u : Nat) (p0 : List Packet) (p1 : List Packet) (y4 : Packet) (i_ : Nat) (s : Unit) (k_ : Unit → Option Bool) : Option Bool := (idx p1 (i_ : Int)).bind fun y5 => (laws_eqPacket u y4 y5).bind fun r6 => bif !r6 then (some false) else ((fun z0 z1 z2 => k_ ()) p0 p1 (bAdd .i64 (i_ : Int) 1))
theorem laws_eqPacketS_l2_w (u : Nat) (p0 : List Packet) (p1 : List Packet) (s : Unit) (k : Nat) (hn : p0.length ≤ 9223372036854775807) (hk : p0.length < k) : laws_eqPacketS_l2 u k p0 p1 0 = Pu.wlist (laws_eqPacketS_l2_f u p0 p1) (laws_eqPacketS_l2_b u p0 p1) p0 0 s := Pu.wlist_0 (fun (k : Nat) (s : Unit) (i : Int) => laws_eqPacketS_l2 u k p0 p1 i) hn (fun _ _ _ => rfl) s hk
def laws_eqSent (u : Nat) (p0 : Sent) (p1 : Sent) : Option Bool :=
  bif p0.fFrom != p1.fFrom then (some false) else (bif p0.fTo != p1.fTo then (some false) else (bif p0.fI != p1.fI then (some false) else (some true)))
def laws_eqSentS_j1 (u : Nat)  : Option Bool :=
  some true
def laws_eqSentS_l2 (u : Nat) (k_laws_eqSentS_l2 : Nat) (p0 : List Sent) (p1 : List Sent) (x2 : Int) : Option Bool := match k_laws_eqSentS_l2 with
  | 0 => none
  | k_laws_eqSentS_l2 + 1 => bif decide (x2 < ((p0.length : Int))) then ((idx p0 x2).bind fun y4 => (idx p1 x2).bind fun y5 => (laws_eqSent u y4 y5).bind fun r6 => bif !r6 then (some false) else ((fun z0 z1 z2 => laws_eqSentS_l2 u k_laws_eqSentS_l2 z0 z1 z2) p0 p1 (bAdd .i64 x2 1))) else (laws_eqSentS_j1 u)
def laws_eqSentS (u : Nat) (p0 : List Sent) (p1 : List Sent) : Option Bool :=
  bif ((p0.length : Int)) != ((p1.length : Int)) then (some false) else (laws_eqSentS_l2 u u p0 p1 0)
def laws_eqSentS_l2_f (u : Nat) (p0 : List Sent) (p1 : List Sent) (s : Unit) : Option Bool := (laws_eqSentS_j1 u)
def laws_eqSentS_l2_b (u : Nat) (p0 : List Sent) (p1 : List Sent) (y4 : Sent) (i_ : Nat) (s : Unit) (k_ : Unit → Option Bool) : Option Bool := (idx p1 (i_ : Int)).bind fun y5 => (laws_eqSent u y4 y5).bind fun r6 => bif !r6 then (some false) else ((fun z0 z1 z2 => k_ ()) p0 p1 (bAdd .i64 (i_ : Int) 1))
theorem laws_eqSentS_l2_w (u : Nat) (p0 : List Sent) (p1 : List Sent) (s : Unit) (k : Nat) (hn : p0.length ≤ 9223372036854775807) (hk : p0.length < k) : laws_eqSentS_l2 u k p0 p1 0 = Pu.wlist (laws_eqSentS_l2_f u p0 p1) (laws_eqSentS_l2_b u p0 p1) p0 0 s := Pu.wlist_0 (fun (k : Nat) (s : Unit) (i : Int) => laws_eqSentS_l2 u k p0 p1 i) hn (fun _ _ _ => rfl) s hk
def laws_eqWorld (u : Nat) (p0 : World) (p1 : World) : Option Bool :=
  (laws_eqConf u p0.fC p1.fC).bind fun r1 => bif !r1 then (some false) else ((laws_eqTree u p0.fT p1.fT).bind fun r2 => bif !r2 then (some false) else ((laws_eqByteS u p0.fNew p1.fNew).bind fun r3 => bif !r3 then (some false) else ((laws_eqImageS u p0.fOld p1.fOld).bind fun r4 => bif !r4 then (some false) else ((laws_eqNodeS u p0.fN p1.fN).bind fun r5 => bif !r5 then (some false) else ((laws_eqDiskS u p0.fD p1.fD).bind fun r6 => bif !r6 then (some false) else ((laws_eqPacketS u p0.fNet p1.fNet).bind fun r7 => bif !r7 then (some false) else ((laws_eqSentS u p0.fLog p1.fLog).bind fun r8 => bif !r8 then (some false) else (bif p0.fLost != p1.fLost then (some false) else (some true)))))))))
def laws_FnExactNetText (u : Nat) (p0 : World) : Option Bool :=
  (laws_szWorld u p0 1048576).bind fun r1 => bif decide (r1 < 0) then (some true) else ((laws_toWorld u p0).bind fun r2 => (spec_NetText u r2).bind fun r3 => (laws_toWorld u p0).bind fun r4 => (impl_NetText u r4).bind fun r5 => bif !(r5.toList == r3.toList) then (some false) else ((laws_toWorld u p0).bind fun r6 => (laws_eqWorld u r4 r6).bind fun r7 => bif !r7 then (some false) else (some true)))
end Go.Tm
